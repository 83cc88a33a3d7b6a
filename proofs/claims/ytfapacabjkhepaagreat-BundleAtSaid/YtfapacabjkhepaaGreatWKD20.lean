import Derived.Test.YtfapacabjkhepaaGreatWKD07
set_option linter.unusedSimpArgs false
set_option linter.unusedVariables false
namespace Go.AM
def Z0(w:Int)(i:Nat):Int:=w / 256 ^ i % 256
def ZB(m:Int)(i:Int):Bool:=decide (m / 2 ^ i.toNat % 2=1)
def of8(f:Nat->Int):Int:=f 0+256*(f 1+256*(f 2+256*(f 3+256*(f 4+256*(f 5+256*(f 6+256*f 7))))))
def Je(a b m:Int)(i:Nat):Int:=if ZB m i then Z0 b i else Z0 a i
def mix(a b m:Int):Int:=of8 (Je a b m)
theorem aiT{p q:Prop}:(p->q->p/\q)=True:=eq_true fun a b=> ⟨a,b⟩
mutual
def Z8:Edit->Nat
 | .mk _ o n w ks _ os=> 1+Zm o+Zm n+w.length+os.length+Zy ks+Zn os
def Zy:List (KidOf Edit)->Nat
 | []=> 0
 | k ::r=> J4 k+Zy r
def J4:KidOf Edit->Nat
 | ⟨_,e⟩=> Z8 e
def Zn:List (OpOf Edit)->Nat
 | []=> 0
 | o ::r=> Zt o+Zn r
def Zt:OpOf Edit->Nat
 | ⟨_,_,l,e⟩=> Zk l+Z8 e
end
mutual
def Z3V:Edit->Prop
 | .mk _ o n w ks _ os=> Z3z o/\Z3z n/\w.length<=17592186044416/\ks.length<=17592186044416/\os.length<=17592186044416/\Z78 ks/\Z77 os
def Z78:List (KidOf Edit)->Prop
 | []=> True
 | k ::r=> Zke k/\Z78 r
def Zke:KidOf Edit->Prop
 | ⟨_,e⟩=> Z3V e
def Z77:List (OpOf Edit)->Prop
 | []=> True
 | o ::r=> ZoC o/\Z77 r
def ZoC:OpOf Edit->Prop
 | ⟨_,_,l,e⟩=> l.length<=17592186044416/\Z3U l/\Z3V e
end
def isW(n:Int):Prop:=0<=n/\n < 18446744073709551616
def Z28(w:WEdit):Prop:=InR w.at_/\(0<=w.mask/\w.mask < 256)/\isW w.old/\isW w.new
mutual
def YI:Edit->Prop
 | .mk k o n w ks l os=> InR k/\rng o/\rng n/\(∀ x∈w,Z28 x)/\InR l/\Z1l ks/\Z0Q os
def Z1l:List (KidOf Edit)->Prop
 | []=> True
 | k ::r=> Z1v k/\Z1l r
def Z1v:KidOf Edit->Prop
 | ⟨a,e⟩=> InR a/\YI e
def Z0Q:List (OpOf Edit)->Prop
 | []=> True
 | o ::r=> YJ o/\Z0Q r
def YJ:OpOf Edit->Prop
 | ⟨k,n,l,e⟩=> InR k/\InR n/\Yl l/\YI e
end
def sh1(t:Tree)(n:Int):Int:=if n < 0 then n else ZJ t 80 n
mutual
def Z0X:Edit->Int->Int->Int
 | .mk _ o nw w ks _ os,d,n=> if d=0\/n - 1 - w.length - os.length < 0 then -1 else Z0m os (d - 1) (Z07 ks (d - 1) (sh1 nw (ZJ o 80 (n - 1 - w.length - os.length))))
def Z07:List (KidOf Edit)->Int->Int->Int
 | [],_,n=> n
 | k ::r,d,n=> if n < 0 then n else Z07 r d (Z3N k d n)
def Z3N:KidOf Edit->Int->Int->Int
 | ⟨_,e⟩,d,n=> Z0X e d n
def Z0m:List (OpOf Edit)->Int->Int->Int
 | [],_,n=> n
 | o ::r,d,n=> if n < 0 then n else Z0m r d (Z6z o d n)
def Z6z:OpOf Edit->Int->Int->Int
 | ⟨_,_,l,e⟩,d,n=> if ZA l 80 n < 0 then ZA l 80 n else Z0X e d (ZA l 80 n)
end
def Yz(t:Tree):Bool:=decide (t.kind=0/\t.words.length=0/\t.kids.length=0)
def Z1k(e:Edit):Bool:=decide (e.kind=0) && Yz e.old && Yz e.new && decide (e.words.length=0/\e.kids.length=0/\e.ops.length=0/\e.list=0)
def Y9(w m:Int):Bool:=decide (mix w 0 m=0)
def ZN(last:Int):List WEdit->Bool
 | []=> true
 | w ::r=> decide (last < w.at_/\w.at_<=65534/\w.mask≠0) && Y9 w.old w.mask && Y9 w.new w.mask && ZN w.at_ r
def Z3(o:Op):Int:=if o.kind=3 then 1 else o.n+o.l.length
def Z1i:List Op->Int->Int
 | [],n=> n
 | o ::r,n=> Z1i r (min (if o.kind=2 then n else n+Z3 o) 1048576)
def Z1h:List Op->Int->Int
 | [],n=> n
 | o ::r,n=> Z1h r (min (if o.kind=1 then n else n+Z3 o) 1048576)
def JS(list:Int):List Tree->Bool
 | []=> true
 | t ::r=> Ze (.mk list [] [t]) 64 && JS list r
def dT(d:Int):Int:=if d < 0 then -1 else 64
theorem Zqm{d:Int}(h:0<=d):dT d=64:=by unfold dT;omega
theorem Zgt{d:Int}(h:d < 0):dT d= -1:=by unfold dT;rw [if_pos h]
theorem ZBY(d:Int):dT d≠0:=by unfold dT;omega
def Yt(D list:Int):List Tree->Bool
 | []=> true
 | t ::r=> Ze (.mk list [] [t]) D && Yt D list r
theorem Zbu(list:Int):∀ l:List Tree,Yt 64 list l=JS list l
 | []=> rfl
 | t ::r=> by simp only [Yt,JS,Zbu list r]
mutual
def Z9:Edit->Int->Bool
 | .mk k o n w ks l os,d=>
  if d=0\/k < 0\/3 < k then false
  else if (k≠1/\¬(Yz o=true/\Yz n=true))\/(k≠2/\¬(w.length=0/\ks.length=0))\/(k≠3/\(l≠0\/os.length≠0)) then false
  else if k=1 then Ze o (dT d) && Ze n (dT d) && decide (o.kind≠10/\n.kind≠10)
  else ZN (-1) w && Zx (-1) ks (d - 1) && decide (¬(k=3/\(l < 2\/9 < l))) && Zw l os (d - 1) && decide (Z1i os 0 < 1048576/\Z1h os 0 < 1048576)
def Zx(last:Int):List (KidOf Edit)->Int->Bool
 | [],_=> true
 | k ::r,d=> J0 last k d && Zx k.at_ r d
def J0(last:Int):KidOf Edit->Int->Bool
 | ⟨a,e⟩,d=> decide (last < a/\a<=65534/\e.kind≠0) && Z9 e d
def Zw(list:Int):List (OpOf Edit)->Int->Bool
 | [],_=> true
 | o ::r,d=> Zc list o d && Zw list r d
def Zc(list:Int):OpOf Edit->Int->Bool
 | ⟨k,n,l,e⟩,d=>
  if k=0 then decide (1<=n/\n<=1048576/\l.length=0) && Z1k e
  else if n≠0\/k < 0\/3 < k then false
  else if k < 3 then Yt (dT d) list l && decide (0 < l.length) && Z1k e
  else decide (l.length=0/\e.kind≠0/\7 < list) && Z9 e d && decide (list=8\/e.kind=2\/e.kind=1/\e.old.kind=1/\e.new.kind=1)
end
mutual
def ctE:Edit->Nat
 | .mk _ o n w ks _ os=> 16+Zm o+Zm n+65600*w.length+Z0o ks+J2 os
def Z0o:List (KidOf Edit)->Nat
 | []=> 0
 | k ::r=> Z3m k+Z0o r
def Z3m:KidOf Edit->Nat
 | ⟨_,e⟩=> 65600+ctE e
def J2:List (OpOf Edit)->Nat
 | []=> 0
 | o ::r=> Z3l o+J2 r
def Z3l:OpOf Edit->Nat
 | ⟨_,_,l,e⟩=> 16+Zk l+ctE e
end
theorem Jz(e:Edit):ctE e=16+Zm e.old+Zm e.new+65600*e.words.length+Z0o e.kids+J2 e.ops:=by cases e;rfl
theorem Z23(k:Kid):Z3m k=65600+ctE k.e:=by cases k;rfl
theorem Z3O(o:Op):Z3l o=16+Zk o.l+ctE o.e:=by cases o;rfl
theorem Zbl:∀ {ks:List Kid} {k:Kid},k∈ks->ctE k.e+65600<=Z0o ks
 | a ::r,k,h=> by
  rcases Q9.1 h with rfl | h
  .simp only [Z0o,Z23];omega
  .have:=Zbl h;simp only [Z0o];omega
theorem Z6Q:∀ {os:List Op} {o:Op},o∈os->ctE o.e+Zk o.l+16<=J2 os
 | a ::r,o,h=> by
  rcases Q9.1 h with rfl | h
  .simp only [J2,Z3O];omega
  .have:=Z6Q h;simp only [J2];omega
theorem Zar(t:Tree):1<=Zm t:=by obtain ⟨k,w,ks⟩:=t;simp only [Zm];omega
mutual
theorem Zas:∀ (e:Edit),Z8 e<=ctE e
 | .mk k o n w ks l os=> by
  have h1:=Z4x ks
  have h2:os.length+Zn os<=J2 os:=Z1C os
  simp only [Z8,ctE]
  omega
theorem Z4x:∀ (ks:List (KidOf Edit)),Zy ks<=Z0o ks
 | []=> Q8 _
 | k ::r=> by
  have h1:=ZmY k
  have h2:=Z4x r
  simp only [Zy,Z0o]
  omega
theorem ZmY:∀ (k:KidOf Edit),J4 k<=Z3m k
 | ⟨a,e⟩=> by
  have:=Zas e
  simp only [J4,Z3m]
  omega
theorem Z1C:∀ (os:List (OpOf Edit)),os.length+Zn os<=J2 os
 | []=> Q8 _
 | o ::r=> by
  have h1:=ZrQ o
  have h2:=Z1C r
  simp only [Zn,J2,Q7]
  omega
theorem ZrQ:∀ (o:OpOf Edit),Zt o+1<=Z3l o
 | ⟨k,n,l,e⟩=> by
  have:=Zas e
  simp only [Zt,Z3l]
  omega
end
mutual
theorem Zbk:∀ (e:Edit),ctE e+131100<=65600*Z8 e
 | .mk k o n w ks l os=> by
  have h1:=ZhY ks
  have h2:=ZhX os
  have:=Zar o
  have:=Zar n
  simp only [Z8,ctE]
  omega
theorem ZhY:∀ (ks:List (KidOf Edit)),Z0o ks<=65600*Zy ks
 | []=> Q8 _
 | k ::r=> by
  have h1:=ZnN k
  have h2:=ZhY r
  simp only [Zy,Z0o]
  omega
theorem ZnN:∀ (k:KidOf Edit),Z3m k<=65600*J4 k
 | ⟨a,e⟩=> by
  have:=Zbk e
  simp only [J4,Z3m]
  omega
theorem ZhX:∀ (os:List (OpOf Edit)),J2 os<=65600*(os.length+Zn os)
 | []=> Q8 _
 | o ::r=> by
  have h1:=Zsg o
  have h2:=ZhX r
  simp only [Zn,J2,Q7]
  omega
theorem Zsg:∀ (o:OpOf Edit),Z3l o<=65600*(Zt o+1)
 | ⟨k,n,l,e⟩=> by
  have:=Zbk e
  simp only [Zt,Z3l]
  omega
end
mutual
def Z2d:Edit->Bool
 | .mk _ _ _ _ ks _ os=> decide (Z1i os 0<=2000/\Z1h os 0<=2000) && Z2v ks && Z3M os
def Z2v:List (KidOf Edit)->Bool
 | []=> true
 | k ::r=> Zll k && Z2v r
def Zll:KidOf Edit->Bool
 | ⟨_,e⟩=> Z2d e
def Z3M:List (OpOf Edit)->Bool
 | []=> true
 | o ::r=> ZpH o && Z3M r
def ZpH:OpOf Edit->Bool
 | ⟨_,_,_,e⟩=> Z2d e
end
def Z5C(e:Edit):Bool:=decide (0<=Z0X e 80 3000) && Z9 e 64 && Z2d e
end Go.AM
