import Derived.Test.YtpjenobkibfpcaaKD07
set_option linter.unusedSimpArgs false
set_option linter.unusedVariables false
namespace Go.AM
def Ze(w:Int)(i:Nat):Int:=w / 256 ^ i % 256
def Z2I(m:Int)(i:Int):Bool:=decide (m / 2 ^ i.toNat % 2=1)
def of8(f:Nat->Int):Int:=f 0+256*(f 1+256*(f 2+256*(f 3+256*(f 4+256*(f 5+256*(f 6+256*f 7))))))
def YP(a b m:Int)(i:Nat):Int:=if Z2I m i then Ze b i else Ze a i
def mix(a b m:Int):Int:=of8 (YP a b m)
mutual
def Z7:Edit->Nat
 | .mk _ o n w ks _ os=> 1+Zm o+Zm n+w.length+os.length+ZR ks+Zd os
def ZR:List (KidOf Edit)->Nat
 | []=> 0
 | k ::r=> JB k+ZR r
def JB:KidOf Edit->Nat
 | ⟨_,e⟩=> Z7 e
def Zd:List (OpOf Edit)->Nat
 | []=> 0
 | o ::r=> Zv o+Zd r
def Zv:OpOf Edit->Nat
 | ⟨_,_,l,e⟩=> Z6 l+Z7 e
end
mutual
def Z2f:Edit->Prop
 | .mk _ o n w ks _ os=> Z3S o/\Z3S n/\w.length<=17592186044416/\ks.length<=17592186044416/\os.length<=17592186044416/\Z4D ks/\Z4C os
def Z4D:List (KidOf Edit)->Prop
 | []=> True
 | k ::r=> ZfW k/\Z4D r
def ZfW:KidOf Edit->Prop
 | ⟨_,e⟩=> Z2f e
def Z4C:List (OpOf Edit)->Prop
 | []=> True
 | o ::r=> Zjm o/\Z4C r
def Zjm:OpOf Edit->Prop
 | ⟨_,_,l,e⟩=> l.length<=17592186044416/\Z2e l/\Z2f e
end
def isW(n:Int):Prop:=0<=n/\n < 18446744073709551616
def Zg2(w:WEdit):Prop:=InR w.at_/\(0<=w.mask/\w.mask < 256)/\isW w.old/\isW w.new
mutual
def YQ:Edit->Prop
 | .mk k o n w ks l os=> InR k/\rng o/\rng n/\(∀ x∈w,Zg2 x)/\InR l/\Z2z ks/\Z1z os
def Z2z:List (KidOf Edit)->Prop
 | []=> True
 | k ::r=> Z82 k/\Z2z r
def Z82:KidOf Edit->Prop
 | ⟨a,e⟩=> InR a/\YQ e
def Z1z:List (OpOf Edit)->Prop
 | []=> True
 | o ::r=> Z23 o/\Z1z r
def Z23:OpOf Edit->Prop
 | ⟨k,n,l,e⟩=> InR k/\InR n/\YU l/\YQ e
end
def sh1(t:Tree)(n:Int):Int:=if n < 0 then n else ZM t 80 n
mutual
def Z0d:Edit->Int->Int->Int
 | .mk _ o nw w ks _ os,d,n=> if d=0\/n - 1 - w.length - os.length < 0 then -1 else JH os (d - 1) (Js ks (d - 1) (sh1 nw (ZM o 80 (n - 1 - w.length - os.length))))
def Js:List (KidOf Edit)->Int->Int->Int
 | [],_,n=> n
 | k ::r,d,n=> if n < 0 then n else Js r d (Z2a k d n)
def Z2a:KidOf Edit->Int->Int->Int
 | ⟨_,e⟩,d,n=> Z0d e d n
def JH:List (OpOf Edit)->Int->Int->Int
 | [],_,n=> n
 | o ::r,d,n=> if n < 0 then n else JH r d (Z4h o d n)
def Z4h:OpOf Edit->Int->Int->Int
 | ⟨_,_,l,e⟩,d,n=> if Zr l 80 n < 0 then Zr l 80 n else Z0d e d (Zr l 80 n)
end
def Jf(t:Tree):Bool:=decide (t.kind=0/\t.words.length=0/\t.kids.length=0)
def Z0V(e:Edit):Bool:=decide (e.kind=0) && Jf e.old && Jf e.new && decide (e.words.length=0/\e.kids.length=0/\e.ops.length=0/\e.list=0)
def Yu(w m:Int):Bool:=decide (mix w 0 m=0)
def Yc(last:Int):List WEdit->Bool
 | []=> true
 | w ::r=> decide (last < w.at_/\w.at_<=65534/\w.mask≠0) && Yu w.old w.mask && Yu w.new w.mask && Yc w.at_ r
def Z2(o:Op):Int:=if o.kind=3 then 1 else o.n+o.l.length
def Z1b:List Op->Int->Int
 | [],n=> n
 | o ::r,n=> Z1b r (min (if o.kind=2 then n else n+Z2 o) 1048576)
def Z1a:List Op->Int->Int
 | [],n=> n
 | o ::r,n=> Z1a r (min (if o.kind=1 then n else n+Z2 o) 1048576)
def Z35(list:Int):List Tree->Bool
 | []=> true
 | t ::r=> Zu (.mk list [] [t]) 64 && Z35 list r
def dT(d:Int):Int:=if d < 0 then -1 else 64
theorem Zuj{d:Int}(h:0<=d):dT d=64:=by unfold dT;rw [if_neg (by omega)]
theorem Zco{d:Int}(h:d < 0):dT d= -1:=by unfold dT;rw [if_pos h]
theorem Zuk(d:Int):dT d≠0:=by unfold dT;split <;> decide
def Y7(D list:Int):List Tree->Bool
 | []=> true
 | t ::r=> Zu (.mk list [] [t]) D && Y7 D list r
theorem ZcS(list:Int):∀ l:List Tree,Y7 64 list l=Z35 list l
 | []=> rfl
 | t ::r=> by simp only [Y7,Z35,ZcS list r]
mutual
def Z8:Edit->Int->Bool
 | .mk k o n w ks l os,d=>
  if d=0\/k < 0\/3 < k then false
  else if (k≠1/\¬(Jf o=true/\Jf n=true))\/(k≠2/\¬(w.length=0/\ks.length=0))\/(k≠3/\(l≠0\/os.length≠0)) then false
  else if k=1 then Zu o (dT d) && Zu n (dT d) && decide (o.kind≠10/\n.kind≠10)
  else Yc (-1) w && ZB (-1) ks (d - 1) && decide (¬(k=3/\(l < 2\/9 < l))) && ZF l os (d - 1) && decide (Z1b os 0 < 1048576/\Z1a os 0 < 1048576)
def ZB(last:Int):List (KidOf Edit)->Int->Bool
 | [],_=> true
 | k ::r,d=> Jm last k d && ZB k.at_ r d
def Jm(last:Int):KidOf Edit->Int->Bool
 | ⟨a,e⟩,d=> decide (last < a/\a<=65534/\e.kind≠0) && Z8 e d
def ZF(list:Int):List (OpOf Edit)->Int->Bool
 | [],_=> true
 | o ::r,d=> Zg list o d && ZF list r d
def Zg(list:Int):OpOf Edit->Int->Bool
 | ⟨k,n,l,e⟩,d=>
  if k=0 then decide (1<=n/\n<=1048576/\l.length=0) && Z0V e
  else if n≠0\/k < 0\/3 < k then false
  else if k < 3 then Y7 (dT d) list l && decide (0 < l.length) && Z0V e
  else decide (l.length=0/\e.kind≠0/\7 < list) && Z8 e d && decide (list=8\/e.kind=2\/e.kind=1/\e.old.kind=1/\e.new.kind=1)
end
mutual
def ctE:Edit->Nat
 | .mk _ o n w ks _ os=> 16+Zm o+Zm n+65600*w.length+Z2n ks+YZ os
def Z2n:List (KidOf Edit)->Nat
 | []=> 0
 | k ::r=> Z7H k+Z2n r
def Z7H:KidOf Edit->Nat
 | ⟨_,e⟩=> 65600+ctE e
def YZ:List (OpOf Edit)->Nat
 | []=> 0
 | o ::r=> Z3y o+YZ r
def Z3y:OpOf Edit->Nat
 | ⟨_,_,l,e⟩=> 16+Z6 l+ctE e
end
theorem Z4s(e:Edit):ctE e=16+Zm e.old+Zm e.new+65600*e.words.length+Z2n e.kids+YZ e.ops:=by cases e;rfl
theorem Zhm(k:Kid):Z7H k=65600+ctE k.e:=by cases k;rfl
theorem Z2b(o:Op):Z3y o=16+Z6 o.l+ctE o.e:=by cases o;rfl
theorem Zcr:∀ {ks:List Kid} {k:Kid},k∈ks->ctE k.e+65600<=Z2n ks
 | a ::r,k,h=> by
  rcases Qc.1 h with rfl | h
  ·simp only [Z2n,Zhm];omega
  ·have:=Zcr h;simp only [Z2n];omega
theorem Zcq:∀ {os:List Op} {o:Op},o∈os->ctE o.e+Z6 o.l+16<=YZ os
 | a ::r,o,h=> by
  rcases Qc.1 h with rfl | h
  ·simp only [YZ,Z2b];omega
  ·have:=Zcq h;simp only [YZ];omega
theorem ZgQ(t:Tree):1<=Zm t:=by obtain ⟨k,w,ks⟩:=t;simp only [Zm];omega
mutual
theorem ZeY:∀ (e:Edit),Z7 e<=ctE e
 | .mk k o n w ks l os=> by
  have h1:=Zdr ks
  have h2:os.length+Zd os<=YZ os:=Z8s os
  simp only [Z7,ctE]
  omega
theorem Zdr:∀ (ks:List (KidOf Edit)),ZR ks<=Z2n ks
 | []=> Qf _
 | k ::r=> by
  have h1:=Zii k
  have h2:=Zdr r
  simp only [ZR,Z2n]
  omega
theorem Zii:∀ (k:KidOf Edit),JB k<=Z7H k
 | ⟨a,e⟩=> by
  have:=ZeY e
  simp only [JB,Z7H]
  omega
theorem Z8s:∀ (os:List (OpOf Edit)),os.length+Zd os<=YZ os
 | []=> Qf _
 | o ::r=> by
  have h1:=Zmg o
  have h2:=Z8s r
  simp only [Zd,YZ,Q9]
  omega
theorem Zmg:∀ (o:OpOf Edit),Zv o+1<=Z3y o
 | ⟨k,n,l,e⟩=> by
  have:=ZeY e
  simp only [Zv,Z3y]
  omega
end
mutual
theorem Zam:∀ (e:Edit),ctE e+131100<=65600*Z7 e
 | .mk k o n w ks l os=> by
  have h1:=ZdI ks
  have h2:=ZdH os
  have:=ZgQ o
  have:=ZgQ n
  simp only [Z7,ctE]
  omega
theorem ZdI:∀ (ks:List (KidOf Edit)),Z2n ks<=65600*ZR ks
 | []=> Qf _
 | k ::r=> by
  have h1:=ZiQ k
  have h2:=ZdI r
  simp only [ZR,Z2n]
  omega
theorem ZiQ:∀ (k:KidOf Edit),Z7H k<=65600*JB k
 | ⟨a,e⟩=> by
  have:=Zam e
  simp only [JB,Z7H]
  omega
theorem ZdH:∀ (os:List (OpOf Edit)),YZ os<=65600*(os.length+Zd os)
 | []=> Qf _
 | o ::r=> by
  have h1:=ZmC o
  have h2:=ZdH r
  simp only [Zd,YZ,Q9]
  omega
theorem ZmC:∀ (o:OpOf Edit),Z3y o<=65600*(Zv o+1)
 | ⟨k,n,l,e⟩=> by
  have:=Zam e
  simp only [Zv,Z3y]
  omega
end
mutual
def Y3:Edit->Bool
 | .mk _ _ _ _ ks _ os=> decide (Z1b os 0<=2000/\Z1a os 0<=2000) && J7 ks && ZN os
def J7:List (KidOf Edit)->Bool
 | []=> true
 | k ::r=> ZgY k && J7 r
def ZgY:KidOf Edit->Bool
 | ⟨_,e⟩=> Y3 e
def ZN:List (OpOf Edit)->Bool
 | []=> true
 | o ::r=> Z72 o && ZN r
def Z72:OpOf Edit->Bool
 | ⟨_,_,_,e⟩=> Y3 e
end
def Z0f(e:Edit):Bool:=decide (0<=Z0d e 80 3000) && Z8 e 64 && Y3 e
end Go.AM
