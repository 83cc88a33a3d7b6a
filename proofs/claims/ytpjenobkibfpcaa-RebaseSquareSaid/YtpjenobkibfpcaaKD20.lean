import Derived.Test.YtpjenobkibfpcaaKD07
set_option linter.unusedSimpArgs false
set_option linter.unusedVariables false
namespace Go.AM
def Z9(w:Int)(i:Nat):Int:=w / 256 ^ i % 256
def J1(m:Int)(i:Int):Bool:=decide (m / 2 ^ i.toNat % 2=1)
def of8(f:Nat->Int):Int:=f 0+256*(f 1+256*(f 2+256*(f 3+256*(f 4+256*(f 5+256*(f 6+256*f 7))))))
def YU(a b m:Int)(i:Nat):Int:=if J1 m i then Z9 b i else Z9 a i
def mix(a b m:Int):Int:=of8 (YU a b m)
mutual
def Z8:Edit->Nat
 | .mk _ o n w ks _ os=> 1+Zi o+Zi n+w.length+os.length+ZQ ks+Zg os
def ZQ:List (KidOf Edit)->Nat
 | []=> 0
 | k ::r=> JI k+ZQ r
def JI:KidOf Edit->Nat
 | ⟨_,e⟩=> Z8 e
def Zg:List (OpOf Edit)->Nat
 | []=> 0
 | o ::r=> Zt o+Zg r
def Zt:OpOf Edit->Nat
 | ⟨_,_,l,e⟩=> Z7 l+Z8 e
end
mutual
def Z1P:Edit->Prop
 | .mk _ o n w ks _ os=> Z1Q o/\Z1Q n/\w.length<=17592186044416/\ks.length<=17592186044416/\os.length<=17592186044416/\Z4R ks/\Z4Q os
def Z4R:List (KidOf Edit)->Prop
 | []=> True
 | k ::r=> ZfZ k/\Z4R r
def ZfZ:KidOf Edit->Prop
 | ⟨_,e⟩=> Z1P e
def Z4Q:List (OpOf Edit)->Prop
 | []=> True
 | o ::r=> Zjm o/\Z4Q r
def Zjm:OpOf Edit->Prop
 | ⟨_,_,l,e⟩=> l.length<=17592186044416/\Z1O l/\Z1P e
end
def isW(n:Int):Prop:=0<=n/\n < 18446744073709551616
def ZcS(w:WEdit):Prop:=InR w.at_/\(0<=w.mask/\w.mask < 256)/\isW w.old/\isW w.new
mutual
def Yl:Edit->Prop
 | .mk k o n w ks l os=> InR k/\rng o/\rng n/\(∀ x∈w,ZcS x)/\InR l/\Z2l ks/\Z1c os
def Z2l:List (KidOf Edit)->Prop
 | []=> True
 | k ::r=> Z62 k/\Z2l r
def Z62:KidOf Edit->Prop
 | ⟨a,e⟩=> InR a/\Yl e
def Z1c:List (OpOf Edit)->Prop
 | []=> True
 | o ::r=> Z1d o/\Z1c r
def Z1d:OpOf Edit->Prop
 | ⟨k,n,l,e⟩=> InR k/\InR n/\ZU l/\Yl e
end
def sh1(t:Tree)(n:Int):Int:=if n < 0 then n else Zz t 80 n
mutual
def Z0q:Edit->Int->Int->Int
 | .mk _ o nw w ks _ os,d,n=> if d=0\/n - 1 - w.length - os.length < 0 then -1 else JQ os (d - 1) (Jz ks (d - 1) (sh1 nw (Zz o 80 (n - 1 - w.length - os.length))))
def Jz:List (KidOf Edit)->Int->Int->Int
 | [],_,n=> n
 | k ::r,d,n=> if n < 0 then n else Jz r d (Z2p k d n)
def Z2p:KidOf Edit->Int->Int->Int
 | ⟨_,e⟩,d,n=> Z0q e d n
def JQ:List (OpOf Edit)->Int->Int->Int
 | [],_,n=> n
 | o ::r,d,n=> if n < 0 then n else JQ r d (Z4s o d n)
def Z4s:OpOf Edit->Int->Int->Int
 | ⟨_,_,l,e⟩,d,n=> if Zr l 80 n < 0 then Zr l 80 n else Z0q e d (Zr l 80 n)
end
def Ji(t:Tree):Bool:=decide (t.kind=0/\t.words.length=0/\t.kids.length=0)
def Z1b(e:Edit):Bool:=decide (e.kind=0) && Ji e.old && Ji e.new && decide (e.words.length=0/\e.kids.length=0/\e.ops.length=0/\e.list=0)
def Yz(w m:Int):Bool:=decide (mix w 0 m=0)
def Yh(last:Int):List WEdit->Bool
 | []=> true
 | w ::r=> decide (last < w.at_/\w.at_<=65534/\w.mask≠0) && Yz w.old w.mask && Yz w.new w.mask && Yh w.at_ r
def Z1(o:Op):Int:=if o.kind=3 then 1 else o.n+o.l.length
def Z1s:List Op->Int->Int
 | [],n=> n
 | o ::r,n=> Z1s r (min (if o.kind=2 then n else n+Z1 o) 1048576)
def Z1r:List Op->Int->Int
 | [],n=> n
 | o ::r,n=> Z1r r (min (if o.kind=1 then n else n+Z1 o) 1048576)
def Z3g(list:Int):List Tree->Bool
 | []=> true
 | t ::r=> Zh (.mk list [] [t]) 64 && Z3g list r
def dT(d:Int):Int:=if d < 0 then -1 else 64
theorem Zu6{d:Int}(h:0<=d):dT d=64:=by unfold dT;rw [if_neg (by omega)]
theorem ZcD{d:Int}(h:d < 0):dT d= -1:=by unfold dT;rw [if_pos h]
theorem Zu7(d:Int):dT d≠0:=by unfold dT;split <;> decide
def Y3(D list:Int):List Tree->Bool
 | []=> true
 | t ::r=> Zh (.mk list [] [t]) D && Y3 D list r
theorem Zd9(list:Int):∀ l:List Tree,Y3 64 list l=Z3g list l
 | []=> rfl
 | t ::r=> by simp only [Y3,Z3g,Zd9 list r]
mutual
def Z5:Edit->Int->Bool
 | .mk k o n w ks l os,d=>
  if d=0\/k < 0\/3 < k then false
  else if (k≠1/\¬(Ji o=true/\Ji n=true))\/(k≠2/\¬(w.length=0/\ks.length=0))\/(k≠3/\(l≠0\/os.length≠0)) then false
  else if k=1 then Zh o (dT d) && Zh n (dT d) && decide (o.kind≠10/\n.kind≠10)
  else Yh (-1) w && ZB (-1) ks (d - 1) && decide (¬(k=3/\(l < 2\/9 < l))) && ZD l os (d - 1) && decide (Z1s os 0 < 1048576/\Z1r os 0 < 1048576)
def ZB(last:Int):List (KidOf Edit)->Int->Bool
 | [],_=> true
 | k ::r,d=> Jr last k d && ZB k.at_ r d
def Jr(last:Int):KidOf Edit->Int->Bool
 | ⟨a,e⟩,d=> decide (last < a/\a<=65534/\e.kind≠0) && Z5 e d
def ZD(list:Int):List (OpOf Edit)->Int->Bool
 | [],_=> true
 | o ::r,d=> Za list o d && ZD list r d
def Za(list:Int):OpOf Edit->Int->Bool
 | ⟨k,n,l,e⟩,d=>
  if k=0 then decide (1<=n/\n<=1048576/\l.length=0) && Z1b e
  else if n≠0\/k < 0\/3 < k then false
  else if k < 3 then Y3 (dT d) list l && decide (0 < l.length) && Z1b e
  else decide (l.length=0/\e.kind≠0/\7 < list) && Z5 e d && decide (list=8\/e.kind=2\/e.kind=1/\e.old.kind=1/\e.new.kind=1)
end
mutual
def ctE:Edit->Nat
 | .mk _ o n w ks _ os=> 16+Zi o+Zi n+65600*w.length+Z2C ks+J3 os
def Z2C:List (KidOf Edit)->Nat
 | []=> 0
 | k ::r=> Z7Z k+Z2C r
def Z7Z:KidOf Edit->Nat
 | ⟨_,e⟩=> 65600+ctE e
def J3:List (OpOf Edit)->Nat
 | []=> 0
 | o ::r=> Z3G o+J3 r
def Z3G:OpOf Edit->Nat
 | ⟨_,_,l,e⟩=> 16+Z7 l+ctE e
end
theorem Z4E(e:Edit):ctE e=16+Zi e.old+Zi e.new+65600*e.words.length+Z2C e.kids+J3 e.ops:=by cases e;rfl
theorem Zhu(k:Kid):Z7Z k=65600+ctE k.e:=by cases k;rfl
theorem Z2q(o:Op):Z3G o=16+Z7 o.l+ctE o.e:=by cases o;rfl
theorem ZcG:∀ {ks:List Kid} {k:Kid},k∈ks->ctE k.e+65600<=Z2C ks
 | a ::r,k,h=> by
  rcases Qd.1 h with rfl | h
  ·simp only [Z2C,Zhu];omega
  ·have:=ZcG h;simp only [Z2C];omega
theorem ZcF:∀ {os:List Op} {o:Op},o∈os->ctE o.e+Z7 o.l+16<=J3 os
 | a ::r,o,h=> by
  rcases Qd.1 h with rfl | h
  ·simp only [J3,Z2q];omega
  ·have:=ZcF h;simp only [J3];omega
theorem ZgS(t:Tree):1<=Zi t:=by obtain ⟨k,w,ks⟩:=t;simp only [Zi];omega
mutual
theorem Zf3:∀ (e:Edit),Z8 e<=ctE e
 | .mk k o n w ks l os=> by
  have h1:=ZdF ks
  have h2:os.length+Zg os<=J3 os:=Z8D os
  simp only [Z8,ctE]
  omega
theorem ZdF:∀ (ks:List (KidOf Edit)),ZQ ks<=Z2C ks
 | []=> Qh _
 | k ::r=> by
  have h1:=Zim k
  have h2:=ZdF r
  simp only [ZQ,Z2C]
  omega
theorem Zim:∀ (k:KidOf Edit),JI k<=Z7Z k
 | ⟨a,e⟩=> by
  have:=Zf3 e
  simp only [JI,Z7Z]
  omega
theorem Z8D:∀ (os:List (OpOf Edit)),os.length+Zg os<=J3 os
 | []=> Qh _
 | o ::r=> by
  have h1:=Zmh o
  have h2:=Z8D r
  simp only [Zg,J3,Qb]
  omega
theorem Zmh:∀ (o:OpOf Edit),Zt o+1<=Z3G o
 | ⟨k,n,l,e⟩=> by
  have:=Zf3 e
  simp only [Zt,Z3G]
  omega
end
mutual
theorem Z5s:∀ (e:Edit),ctE e+131100<=65600*Z8 e
 | .mk k o n w ks l os=> by
  have h1:=ZdT ks
  have h2:=ZdS os
  have:=ZgS o
  have:=ZgS n
  simp only [Z8,ctE]
  omega
theorem ZdT:∀ (ks:List (KidOf Edit)),Z2C ks<=65600*ZQ ks
 | []=> Qh _
 | k ::r=> by
  have h1:=ZiP k
  have h2:=ZdT r
  simp only [ZQ,Z2C]
  omega
theorem ZiP:∀ (k:KidOf Edit),Z7Z k<=65600*JI k
 | ⟨a,e⟩=> by
  have:=Z5s e
  simp only [JI,Z7Z]
  omega
theorem ZdS:∀ (os:List (OpOf Edit)),J3 os<=65600*(os.length+Zg os)
 | []=> Qh _
 | o ::r=> by
  have h1:=ZmJ o
  have h2:=ZdS r
  simp only [Zg,J3,Qb]
  omega
theorem ZmJ:∀ (o:OpOf Edit),Z3G o<=65600*(Zt o+1)
 | ⟨k,n,l,e⟩=> by
  have:=Z5s e
  simp only [Zt,Z3G]
  omega
end
mutual
def Y6:Edit->Bool
 | .mk _ _ _ _ ks _ os=> decide (Z1s os 0<=2000/\Z1r os 0<=2000) && J9 ks && ZK os
def J9:List (KidOf Edit)->Bool
 | []=> true
 | k ::r=> ZgZ k && J9 r
def ZgZ:KidOf Edit->Bool
 | ⟨_,e⟩=> Y6 e
def ZK:List (OpOf Edit)->Bool
 | []=> true
 | o ::r=> Z7k o && ZK r
def Z7k:OpOf Edit->Bool
 | ⟨_,_,_,e⟩=> Y6 e
end
def Jk(e:Edit):Bool:=decide (0<=Z0q e 80 3000) && Z5 e 64 && Y6 e
end Go.AM
