import Derived.Test.YtpjenobkibfpcaaGreatZKD07
set_option linter.unusedSimpArgs false
set_option linter.unusedVariables false
namespace Go.AM
def Zl(w:Int)(i:Nat):Int:=w / 256 ^ i % 256
def Z5m(m:Int)(i:Int):Bool:=decide (m / 2 ^ i.toNat % 2=1)
def of8(f:Nat->Int):Int:=f 0+256*(f 1+256*(f 2+256*(f 3+256*(f 4+256*(f 5+256*(f 6+256*f 7))))))
def Jo(a b m:Int)(i:Nat):Int:=if Z5m m i then Zl b i else Zl a i
def mix(a b m:Int):Int:=of8 (Jo a b m)
mutual
def Z3:Edit->Nat
 | .mk _ o n w ks _ os=> 1+Zm o+Zm n+w.length+os.length+Ya ks+Zg os
def Ya:List (KidOf Edit)->Nat
 | []=> 0
 | k ::r=> Z0f k+Ya r
def Z0f:KidOf Edit->Nat
 | ⟨_,e⟩=> Z3 e
def Zg:List (OpOf Edit)->Nat
 | []=> 0
 | o ::r=> Zu o+Zg r
def Zu:OpOf Edit->Nat
 | ⟨_,_,l,e⟩=> Z9 l+Z3 e
end
mutual
def Z2W:Edit->Prop
 | .mk _ o n w ks _ os=> Z5C o/\Z5C n/\w.length<=17592186044416/\ks.length<=17592186044416/\os.length<=17592186044416/\Z6C ks/\Z6B os
def Z6C:List (KidOf Edit)->Prop
 | []=> True
 | k ::r=> Zkr k/\Z6C r
def Zkr:KidOf Edit->Prop
 | ⟨_,e⟩=> Z2W e
def Z6B:List (OpOf Edit)->Prop
 | []=> True
 | o ::r=> ZoH o/\Z6B r
def ZoH:OpOf Edit->Prop
 | ⟨_,_,l,e⟩=> l.length<=17592186044416/\Z3K l/\Z2W e
end
def isW(n:Int):Prop:=0<=n/\n < 18446744073709551616
def Zi3(w:WEdit):Prop:=InR w.at_/\(0<=w.mask/\w.mask < 256)/\isW w.old/\isW w.new
mutual
def J8:Edit->Prop
 | .mk k o n w ks l os=> InR k/\rng o/\rng n/\(∀ x∈w,Zi3 x)/\InR l/\Z48 ks/\Z30 os
def Z48:List (KidOf Edit)->Prop
 | []=> True
 | k ::r=> ZaI k/\Z48 r
def ZaI:KidOf Edit->Prop
 | ⟨a,e⟩=> InR a/\J8 e
def Z30:List (OpOf Edit)->Prop
 | []=> True
 | o ::r=> Z28 o/\Z30 r
def Z28:OpOf Edit->Prop
 | ⟨k,n,l,e⟩=> InR k/\InR n/\Jt l/\J8 e
end
def sh1(t:Tree)(n:Int):Int:=if n < 0 then n else ZW t 80 n
mutual
def Z1a:Edit->Int->Int->Int
 | .mk _ o nw w ks _ os,d,n=> if d=0\/n - 1 - w.length - os.length < 0 then -1 else Z0q os (d - 1) (Yb ks (d - 1) (sh1 nw (ZW o 80 (n - 1 - w.length - os.length))))
def Yb:List (KidOf Edit)->Int->Int->Int
 | [],_,n=> n
 | k ::r,d,n=> if n < 0 then n else Yb r d (Z3E k d n)
def Z3E:KidOf Edit->Int->Int->Int
 | ⟨_,e⟩,d,n=> Z1a e d n
def Z0q:List (OpOf Edit)->Int->Int->Int
 | [],_,n=> n
 | o ::r,d,n=> if n < 0 then n else Z0q r d (Z67 o d n)
def Z67:OpOf Edit->Int->Int->Int
 | ⟨_,_,l,e⟩,d,n=> if Zx l 80 n < 0 then Zx l 80 n else Z1a e d (Zx l 80 n)
end
def JU(t:Tree):Bool:=decide (t.kind=0/\t.words.length=0/\t.kids.length=0)
def Z27(e:Edit):Bool:=decide (e.kind=0) && JU e.old && JU e.new && decide (e.words.length=0/\e.kids.length=0/\e.ops.length=0/\e.list=0)
def J7(w m:Int):Bool:=decide (mix w 0 m=0)
def YM(last:Int):List WEdit->Bool
 | []=> true
 | w ::r=> decide (last < w.at_/\w.at_<=65534/\w.mask≠0) && J7 w.old w.mask && J7 w.new w.mask && YM w.at_ r
def Z6(o:Op):Int:=if o.kind=3 then 1 else o.n+o.l.length
def Z2r:List Op->Int->Int
 | [],n=> n
 | o ::r,n=> Z2r r (min (if o.kind=2 then n else n+Z6 o) 1048576)
def Z2q:List Op->Int->Int
 | [],n=> n
 | o ::r,n=> Z2q r (min (if o.kind=1 then n else n+Z6 o) 1048576)
def Z4M(list:Int):List Tree->Bool
 | []=> true
 | t ::r=> ZD (.mk list [] [t]) 64 && Z4M list r
def dT(d:Int):Int:=if d < 0 then -1 else 64
theorem ZCt{d:Int}(h:0<=d):dT d=64:=by unfold dT;rw [JL]
theorem Zg8{d:Int}(h:d < 0):dT d= -1:=by unfold dT;rw [if_pos h]
theorem ZCu(d:Int):dT d≠0:=by unfold dT;split <;> decide
def YG(D list:Int):List Tree->Bool
 | []=> true
 | t ::r=> ZD (.mk list [] [t]) D && YG D list r
theorem ZgF(list:Int):∀ l:List Tree,YG 64 list l=Z4M list l
 | []=> rfl
 | t ::r=> by simp only [YG,Z4M,ZgF list r]
mutual
def Zb:Edit->Int->Bool
 | .mk k o n w ks l os,d=>
  if d=0\/k < 0\/3 < k then false
  else if (k≠1/\¬(JU o=true/\JU n=true))\/(k≠2/\¬(w.length=0/\ks.length=0))\/(k≠3/\(l≠0\/os.length≠0)) then false
  else if k=1 then ZD o (dT d) && ZD n (dT d) && decide (o.kind≠10/\n.kind≠10)
  else YM (-1) w && ZK (-1) ks (d - 1) && decide (¬(k=3/\(l < 2\/9 < l))) && ZO l os (d - 1) && decide (Z2r os 0 < 1048576/\Z2q os 0 < 1048576)
def ZK(last:Int):List (KidOf Edit)->Int->Bool
 | [],_=> true
 | k ::r,d=> JY last k d && ZK k.at_ r d
def JY(last:Int):KidOf Edit->Int->Bool
 | ⟨a,e⟩,d=> decide (last < a/\a<=65534/\e.kind≠0) && Zb e d
def ZO(list:Int):List (OpOf Edit)->Int->Bool
 | [],_=> true
 | o ::r,d=> Zk list o d && ZO list r d
def Zk(list:Int):OpOf Edit->Int->Bool
 | ⟨k,n,l,e⟩,d=>
  if k=0 then decide (1<=n/\n<=1048576/\l.length=0) && Z27 e
  else if n≠0\/k < 0\/3 < k then false
  else if k < 3 then YG (dT d) list l && decide (0 < l.length) && Z27 e
  else decide (l.length=0/\e.kind≠0/\7 < list) && Zb e d && decide (list=8\/e.kind=2\/e.kind=1/\e.old.kind=1/\e.new.kind=1)
end
mutual
def ctE:Edit->Nat
 | .mk _ o n w ks _ os=> 16+Zm o+Zm n+65600*w.length+Z3h ks+Jx os
def Z3h:List (KidOf Edit)->Nat
 | []=> 0
 | k ::r=> Zan k+Z3h r
def Zan:KidOf Edit->Nat
 | ⟨_,e⟩=> 65600+ctE e
def Jx:List (OpOf Edit)->Nat
 | []=> 0
 | o ::r=> Z5h o+Jx r
def Z5h:OpOf Edit->Nat
 | ⟨_,_,l,e⟩=> 16+Z9 l+ctE e
end
theorem JO(e:Edit):ctE e=16+Zm e.old+Zm e.new+65600*e.words.length+Z3h e.kids+Jx e.ops:=by cases e;rfl
theorem Zga(k:Kid):Zan k=65600+ctE k.e:=by cases k;rfl
theorem Z3G(o:Op):Z5h o=16+Z9 o.l+ctE o.e:=by cases o;rfl
theorem Z6j:∀ {ks:List Kid} {k:Kid},k∈ks->ctE k.e+65600<=Z3h ks
 | a ::r,k,h=> by
  rcases Qc.1 h with rfl | h
  .simp only [Z3h,Zga];omega
  .have:=Z6j h;simp only [Z3h];omega
theorem Z6i:∀ {os:List Op} {o:Op},o∈os->ctE o.e+Z9 o.l+16<=Jx os
 | a ::r,o,h=> by
  rcases Qc.1 h with rfl | h
  .simp only [Jx,Z3G];omega
  .have:=Z6i h;simp only [Jx];omega
theorem Zlz(t:Tree):1<=Zm t:=by obtain ⟨k,w,ks⟩:=t;simp only [Zm];omega
mutual
theorem Zj8:∀ (e:Edit),Z3 e<=ctE e
 | .mk k o n w ks l os=> by
  have h1:=Zbd ks
  have h2:os.length+Zg os<=Jx os:=Z4i os
  simp only [Z3,ctE]
  omega
theorem Zbd:∀ (ks:List (KidOf Edit)),Ya ks<=Z3h ks
 | []=> Qb _
 | k ::r=> by
  have h1:=Zno k
  have h2:=Zbd r
  simp only [Ya,Z3h]
  omega
theorem Zno:∀ (k:KidOf Edit),Z0f k<=Zan k
 | ⟨a,e⟩=> by
  have:=Zj8 e
  simp only [Z0f,Zan]
  omega
theorem Z4i:∀ (os:List (OpOf Edit)),os.length+Zg os<=Jx os
 | []=> Qb _
 | o ::r=> by
  have h1:=ZsC o
  have h2:=Z4i r
  simp only [Zg,Jx,Q6]
  omega
theorem ZsC:∀ (o:OpOf Edit),Zu o+1<=Z5h o
 | ⟨k,n,l,e⟩=> by
  have:=Zj8 e
  simp only [Zu,Z5h]
  omega
end
mutual
theorem ZdG:∀ (e:Edit),ctE e+131100<=65600*Z3 e
 | .mk k o n w ks l os=> by
  have h1:=ZhA ks
  have h2:=Zhz os
  have:=Zlz o
  have:=Zlz n
  simp only [Z3,ctE]
  omega
theorem ZhA:∀ (ks:List (KidOf Edit)),Z3h ks<=65600*Ya ks
 | []=> Qb _
 | k ::r=> by
  have h1:=ZnY k
  have h2:=ZhA r
  simp only [Ya,Z3h]
  omega
theorem ZnY:∀ (k:KidOf Edit),Zan k<=65600*Z0f k
 | ⟨a,e⟩=> by
  have:=ZdG e
  simp only [Z0f,Zan]
  omega
theorem Zhz:∀ (os:List (OpOf Edit)),Jx os<=65600*(os.length+Zg os)
 | []=> Qb _
 | o ::r=> by
  have h1:=ZsY o
  have h2:=Zhz r
  simp only [Zg,Jx,Q6]
  omega
theorem ZsY:∀ (o:OpOf Edit),Z5h o<=65600*(Zu o+1)
 | ⟨k,n,l,e⟩=> by
  have:=ZdG e
  simp only [Zu,Z5h]
  omega
end
mutual
def YR:Edit->Bool
 | .mk _ _ _ _ ks _ os=> decide (Z2r os 0<=2000/\Z2q os 0<=2000) && JJ ks && ZX os
def JJ:List (KidOf Edit)->Bool
 | []=> true
 | k ::r=> ZlF k && JJ r
def ZlF:KidOf Edit->Bool
 | ⟨_,e⟩=> YR e
def ZX:List (OpOf Edit)->Bool
 | []=> true
 | o ::r=> Z9P o && ZX r
def Z9P:OpOf Edit->Bool
 | ⟨_,_,_,e⟩=> YR e
end
def Z06(e:Edit):Bool:=decide (0<=Z1a e 80 3000) && Zb e 64 && YR e
end Go.AM
