import Derived.Test.YtpjenobkibfpcaaKD07
set_option linter.unusedSimpArgs false
set_option linter.unusedVariables false
namespace Go.AM
def Zc(w:Int)(i:Nat):Int:=w / 256 ^ i % 256
def Z2e(m:Int)(i:Int):Bool:=decide (m / 2 ^ i.toNat % 2=1)
def of8(f:Nat->Int):Int:=f 0+256*(f 1+256*(f 2+256*(f 3+256*(f 4+256*(f 5+256*(f 6+256*f 7))))))
def YD(a b m:Int)(i:Nat):Int:=if Z2e m i then Zc b i else Zc a i
def mix(a b m:Int):Int:=of8 (YD a b m)
mutual
def Z5:Edit->Nat
 | .mk _ o n w ks _ os=> 1+Zj o+Zj n+w.length+os.length+ZN ks+Zg os
def ZN:List (KidOf Edit)->Nat
 | []=> 0
 | k ::r=> Jn k+ZN r
def Jn:KidOf Edit->Nat
 | ⟨_,e⟩=> Z5 e
def Zg:List (OpOf Edit)->Nat
 | []=> 0
 | o ::r=> Zs o+Zg r
def Zs:OpOf Edit->Nat
 | ⟨_,_,l,e⟩=> Z4 l+Z5 e
end
mutual
def Z17:Edit->Prop
 | .mk _ o n w ks _ os=> Z3h o/\Z3h n/\w.length<=17592186044416/\ks.length<=17592186044416/\os.length<=17592186044416/\Z41 ks/\Z40 os
def Z41:List (KidOf Edit)->Prop
 | []=> True
 | k ::r=> ZeL k/\Z41 r
def ZeL:KidOf Edit->Prop
 | ⟨_,e⟩=> Z17 e
def Z40:List (OpOf Edit)->Prop
 | []=> True
 | o ::r=> ZhW o/\Z40 r
def ZhW:OpOf Edit->Prop
 | ⟨_,_,l,e⟩=> l.length<=17592186044416/\Z1N l/\Z17 e
end
def isW(n:Int):Prop:=0<=n/\n < 18446744073709551616
def ZeQ(w:WEdit):Prop:=InR w.at_/\(0<=w.mask/\w.mask < 256)/\isW w.old/\isW w.new
mutual
def Yz:Edit->Prop
 | .mk k o n w ks l os=> InR k/\rng o/\rng n/\(∀ x∈w,ZeQ x)/\InR l/\Z25 ks/\Z1b os
def Z25:List (KidOf Edit)->Prop
 | []=> True
 | k ::r=> Z7e k/\Z25 r
def Z7e:KidOf Edit->Prop
 | ⟨a,e⟩=> InR a/\Yz e
def Z1b:List (OpOf Edit)->Prop
 | []=> True
 | o ::r=> Z1D o/\Z1b r
def Z1D:OpOf Edit->Prop
 | ⟨k,n,l,e⟩=> InR k/\InR n/\YG l/\Yz e
end
def sh1(t:Tree)(n:Int):Int:=if n < 0 then n else ZH t 80 n
mutual
def JX:Edit->Int->Int->Int
 | .mk _ o nw w ks _ os,d,n=> if d=0\/n - 1 - w.length - os.length < 0 then -1 else Js os (d - 1) (Je ks (d - 1) (sh1 nw (ZH o 80 (n - 1 - w.length - os.length))))
def Je:List (KidOf Edit)->Int->Int->Int
 | [],_,n=> n
 | k ::r,d,n=> if n < 0 then n else Je r d (Z1J k d n)
def Z1J:KidOf Edit->Int->Int->Int
 | ⟨_,e⟩,d,n=> JX e d n
def Js:List (OpOf Edit)->Int->Int->Int
 | [],_,n=> n
 | o ::r,d,n=> if n < 0 then n else Js r d (Z3H o d n)
def Z3H:OpOf Edit->Int->Int->Int
 | ⟨_,_,l,e⟩,d,n=> if Zo l 80 n < 0 then Zo l 80 n else JX e d (Zo l 80 n)
end
def YW(t:Tree):Bool:=decide (t.kind=0/\t.words.length=0/\t.kids.length=0)
def Z0A(e:Edit):Bool:=decide (e.kind=0) && YW e.old && YW e.new && decide (e.words.length=0/\e.kids.length=0/\e.ops.length=0/\e.list=0)
def Yj(w m:Int):Bool:=decide (mix w 0 m=0)
def Y6(last:Int):List WEdit->Bool
 | []=> true
 | w ::r=> decide (last < w.at_/\w.at_<=65534/\w.mask≠0) && Yj w.old w.mask && Yj w.new w.mask && Y6 w.at_ r
def Z1(o:Op):Int:=if o.kind=3 then 1 else o.n+o.l.length
def Z0O:List Op->Int->Int
 | [],n=> n
 | o ::r,n=> Z0O r (min (if o.kind=2 then n else n+Z1 o) 1048576)
def Z0N:List Op->Int->Int
 | [],n=> n
 | o ::r,n=> Z0N r (min (if o.kind=1 then n else n+Z1 o) 1048576)
def Z2y(list:Int):List Tree->Bool
 | []=> true
 | t ::r=> Zq (.mk list [] [t]) 64 && Z2y list r
def dT(d:Int):Int:=if d < 0 then -1 else 64
theorem Zsd{d:Int}(h:0<=d):dT d=64:=by unfold dT;rw [if_neg (by omega)]
theorem Zbn{d:Int}(h:d < 0):dT d= -1:=by unfold dT;rw [if_pos h]
theorem Zse(d:Int):dT d≠0:=by unfold dT;split <;> decide
def Y0(D list:Int):List Tree->Bool
 | []=> true
 | t ::r=> Zq (.mk list [] [t]) D && Y0 D list r
theorem ZbT(list:Int):∀ l:List Tree,Y0 64 list l=Z2y list l
 | []=> rfl
 | t ::r=> by simp only [Y0,Z2y,ZbT list r]
mutual
def Z6:Edit->Int->Bool
 | .mk k o n w ks l os,d=>
  if d=0\/k < 0\/3 < k then false
  else if (k≠1/\¬(YW o=true/\YW n=true))\/(k≠2/\¬(w.length=0/\ks.length=0))\/(k≠3/\(l≠0\/os.length≠0)) then false
  else if k=1 then Zq o (dT d) && Zq n (dT d) && decide (o.kind≠10/\n.kind≠10)
  else Y6 (-1) w && Zx (-1) ks (d - 1) && decide (¬(k=3/\(l < 2\/9 < l))) && ZA l os (d - 1) && decide (Z0O os 0 < 1048576/\Z0N os 0 < 1048576)
def Zx(last:Int):List (KidOf Edit)->Int->Bool
 | [],_=> true
 | k ::r,d=> J5 last k d && Zx k.at_ r d
def J5(last:Int):KidOf Edit->Int->Bool
 | ⟨a,e⟩,d=> decide (last < a/\a<=65534/\e.kind≠0) && Z6 e d
def ZA(list:Int):List (OpOf Edit)->Int->Bool
 | [],_=> true
 | o ::r,d=> Zf list o d && ZA list r d
def Zf(list:Int):OpOf Edit->Int->Bool
 | ⟨k,n,l,e⟩,d=>
  if k=0 then decide (1<=n/\n<=1048576/\l.length=0) && Z0A e
  else if n≠0\/k < 0\/3 < k then false
  else if k < 3 then Y0 (dT d) list l && decide (0 < l.length) && Z0A e
  else decide (l.length=0/\e.kind≠0/\7 < list) && Z6 e d && decide (list=8\/e.kind=2\/e.kind=1/\e.old.kind=1/\e.new.kind=1)
end
mutual
def ctE:Edit->Nat
 | .mk _ o n w ks _ os=> 16+Zj o+Zj n+65600*w.length+Z1W ks+YJ os
def Z1W:List (KidOf Edit)->Nat
 | []=> 0
 | k ::r=> Z6Y k+Z1W r
def Z6Y:KidOf Edit->Nat
 | ⟨_,e⟩=> 65600+ctE e
def YJ:List (OpOf Edit)->Nat
 | []=> 0
 | o ::r=> Z2W o+YJ r
def Z2W:OpOf Edit->Nat
 | ⟨_,_,l,e⟩=> 16+Z4 l+ctE e
end
theorem Z3S(e:Edit):ctE e=16+Zj e.old+Zj e.new+65600*e.words.length+Z1W e.kids+YJ e.ops:=by cases e;rfl
theorem Zg7(k:Kid):Z6Y k=65600+ctE k.e:=by cases k;rfl
theorem Z1K(o:Op):Z2W o=16+Z4 o.l+ctE o.e:=by cases o;rfl
theorem Zbq:∀ {ks:List Kid} {k:Kid},k∈ks->ctE k.e+65600<=Z1W ks
 | a ::r,k,h=> by
  rcases Qc.1 h with rfl | h
  ·simp only [Z1W,Zg7];omega
  ·have:=Zbq h;simp only [Z1W];omega
theorem Zbp:∀ {os:List Op} {o:Op},o∈os->ctE o.e+Z4 o.l+16<=YJ os
 | a ::r,o,h=> by
  rcases Qc.1 h with rfl | h
  ·simp only [YJ,Z1K];omega
  ·have:=Zbp h;simp only [YJ];omega
theorem ZfA(t:Tree):1<=Zj t:=by obtain ⟨k,w,ks⟩:=t;simp only [Zj];omega
mutual
theorem ZdQ:∀ (e:Edit),Z5 e<=ctE e
 | .mk k o n w ks l os=> by
  have h1:=Zcq ks
  have h2:os.length+Zg os<=YJ os:=Z7A os
  simp only [Z5,ctE]
  omega
theorem Zcq:∀ (ks:List (KidOf Edit)),ZN ks<=Z1W ks
 | []=> Qd _
 | k ::r=> by
  have h1:=ZgY k
  have h2:=Zcq r
  simp only [ZN,Z1W]
  omega
theorem ZgY:∀ (k:KidOf Edit),Jn k<=Z6Y k
 | ⟨a,e⟩=> by
  have:=ZdQ e
  simp only [Jn,Z6Y]
  omega
theorem Z7A:∀ (os:List (OpOf Edit)),os.length+Zg os<=YJ os
 | []=> Qd _
 | o ::r=> by
  have h1:=ZkL o
  have h2:=Z7A r
  simp only [Zg,YJ,Q9]
  omega
theorem ZkL:∀ (o:OpOf Edit),Zs o+1<=Z2W o
 | ⟨k,n,l,e⟩=> by
  have:=ZdQ e
  simp only [Zs,Z2W]
  omega
end
mutual
theorem Z9x:∀ (e:Edit),ctE e+131100<=65600*Z5 e
 | .mk k o n w ks l os=> by
  have h1:=ZcE ks
  have h2:=ZcD os
  have:=ZfA o
  have:=ZfA n
  simp only [Z5,ctE]
  omega
theorem ZcE:∀ (ks:List (KidOf Edit)),Z1W ks<=65600*ZN ks
 | []=> Qd _
 | k ::r=> by
  have h1:=Zht k
  have h2:=ZcE r
  simp only [ZN,Z1W]
  omega
theorem Zht:∀ (k:KidOf Edit),Z6Y k<=65600*Jn k
 | ⟨a,e⟩=> by
  have:=Z9x e
  simp only [Jn,Z6Y]
  omega
theorem ZcD:∀ (os:List (OpOf Edit)),YJ os<=65600*(os.length+Zg os)
 | []=> Qd _
 | o ::r=> by
  have h1:=Zl7 o
  have h2:=ZcD r
  simp only [Zg,YJ,Q9]
  omega
theorem Zl7:∀ (o:OpOf Edit),Z2W o<=65600*(Zs o+1)
 | ⟨k,n,l,e⟩=> by
  have:=Z9x e
  simp only [Zs,Z2W]
  omega
end
mutual
def ZU:Edit->Bool
 | .mk _ _ _ _ ks _ os=> decide (Z0O os 0<=2000/\Z0N os 0<=2000) && YQ ks && ZI os
def YQ:List (KidOf Edit)->Bool
 | []=> true
 | k ::r=> ZfH k && YQ r
def ZfH:KidOf Edit->Bool
 | ⟨_,e⟩=> ZU e
def ZI:List (OpOf Edit)->Bool
 | []=> true
 | o ::r=> Z6j o && ZI r
def Z6j:OpOf Edit->Bool
 | ⟨_,_,_,e⟩=> ZU e
end
def Jt(e:Edit):Bool:=decide (0<=JX e 80 3000) && Z6 e 64 && ZU e
end Go.AM
