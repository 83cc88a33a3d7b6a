import Derived.Test.YtpjenobkibfpcaaKD07
set_option linter.unusedSimpArgs false
set_option linter.unusedVariables false
namespace Go.AM
def Z9(w:Int)(i:Nat):Int:=w / 256 ^ i % 256
def YY(m:Int)(i:Int):Bool:=decide (m / 2 ^ i.toNat % 2=1)
def of8(f:Nat->Int):Int:=f 0+256*(f 1+256*(f 2+256*(f 3+256*(f 4+256*(f 5+256*(f 6+256*f 7))))))
def YS(a b m:Int)(i:Nat):Int:=if YY m i then Z9 b i else Z9 a i
def mix(a b m:Int):Int:=of8 (YS a b m)
mutual
def Z8:Edit->Nat
 | .mk _ o n w ks _ os=> 1+Zi o+Zi n+w.length+os.length+ZP ks+Zg os
def ZP:List (KidOf Edit)->Nat
 | []=> 0
 | k ::r=> JG k+ZP r
def JG:KidOf Edit->Nat
 | ⟨_,e⟩=> Z8 e
def Zg:List (OpOf Edit)->Nat
 | []=> 0
 | o ::r=> Zt o+Zg r
def Zt:OpOf Edit->Nat
 | ⟨_,_,l,e⟩=> Z7 l+Z8 e
end
mutual
def Z1N:Edit->Prop
 | .mk _ o n w ks _ os=> Z1O o/\Z1O n/\w.length<=17592186044416/\ks.length<=17592186044416/\os.length<=17592186044416/\Z4M ks/\Z4L os
def Z4M:List (KidOf Edit)->Prop
 | []=> True
 | k ::r=> ZfS k/\Z4M r
def ZfS:KidOf Edit->Prop
 | ⟨_,e⟩=> Z1N e
def Z4L:List (OpOf Edit)->Prop
 | []=> True
 | o ::r=> Zjc o/\Z4L r
def Zjc:OpOf Edit->Prop
 | ⟨_,_,l,e⟩=> l.length<=17592186044416/\Z1M l/\Z1N e
end
def isW(n:Int):Prop:=0<=n/\n < 18446744073709551616
def ZcJ(w:WEdit):Prop:=InR w.at_/\(0<=w.mask/\w.mask < 256)/\isW w.old/\isW w.new
mutual
def Yl:Edit->Prop
 | .mk k o n w ks l os=> InR k/\rng o/\rng n/\(∀ x∈w,ZcJ x)/\InR l/\Z2k ks/\Z1b os
def Z2k:List (KidOf Edit)->Prop
 | []=> True
 | k ::r=> Z5U k/\Z2k r
def Z5U:KidOf Edit->Prop
 | ⟨a,e⟩=> InR a/\Yl e
def Z1b:List (OpOf Edit)->Prop
 | []=> True
 | o ::r=> Z1c o/\Z1b r
def Z1c:OpOf Edit->Prop
 | ⟨k,n,l,e⟩=> InR k/\InR n/\ZU l/\Yl e
end
def sh1(t:Tree)(n:Int):Int:=if n < 0 then n else Zy t 80 n
mutual
def Z0q:Edit->Int->Int->Int
 | .mk _ o nw w ks _ os,d,n=> if d=0\/n - 1 - w.length - os.length < 0 then -1 else JO os (d - 1) (Jy ks (d - 1) (sh1 nw (Zy o 80 (n - 1 - w.length - os.length))))
def Jy:List (KidOf Edit)->Int->Int->Int
 | [],_,n=> n
 | k ::r,d,n=> if n < 0 then n else Jy r d (Z2o k d n)
def Z2o:KidOf Edit->Int->Int->Int
 | ⟨_,e⟩,d,n=> Z0q e d n
def JO:List (OpOf Edit)->Int->Int->Int
 | [],_,n=> n
 | o ::r,d,n=> if n < 0 then n else JO r d (Z4n o d n)
def Z4n:OpOf Edit->Int->Int->Int
 | ⟨_,_,l,e⟩,d,n=> if Zr l 80 n < 0 then Zr l 80 n else Z0q e d (Zr l 80 n)
end
def Jg(t:Tree):Bool:=decide (t.kind=0/\t.words.length=0/\t.kids.length=0)
def Z1a(e:Edit):Bool:=decide (e.kind=0) && Jg e.old && Jg e.new && decide (e.words.length=0/\e.kids.length=0/\e.ops.length=0/\e.list=0)
def Yz(w m:Int):Bool:=decide (mix w 0 m=0)
def Yh(last:Int):List WEdit->Bool
 | []=> true
 | w ::r=> decide (last < w.at_/\w.at_<=65534/\w.mask≠0) && Yz w.old w.mask && Yz w.new w.mask && Yh w.at_ r
def Z1(o:Op):Int:=if o.kind=3 then 1 else o.n+o.l.length
def Z1q:List Op->Int->Int
 | [],n=> n
 | o ::r,n=> Z1q r (min (if o.kind=2 then n else n+Z1 o) 1048576)
def Z1p:List Op->Int->Int
 | [],n=> n
 | o ::r,n=> Z1p r (min (if o.kind=1 then n else n+Z1 o) 1048576)
def Z3f(list:Int):List Tree->Bool
 | []=> true
 | t ::r=> Zh (.mk list [] [t]) 64 && Z3f list r
def dT(d:Int):Int:=if d < 0 then -1 else 64
theorem ZtU{d:Int}(h:0<=d):dT d=64:=by unfold dT;rw [if_neg (by omega)]
theorem Zcu{d:Int}(h:d < 0):dT d= -1:=by unfold dT;rw [if_pos h]
theorem ZtV(d:Int):dT d≠0:=by unfold dT;split <;> decide
def Y3(D list:Int):List Tree->Bool
 | []=> true
 | t ::r=> Zh (.mk list [] [t]) D && Y3 D list r
theorem Zd0(list:Int):∀ l:List Tree,Y3 64 list l=Z3f list l
 | []=> rfl
 | t ::r=> by simp only [Y3,Z3f,Zd0 list r]
mutual
def Z5:Edit->Int->Bool
 | .mk k o n w ks l os,d=>
  if d=0\/k < 0\/3 < k then false
  else if (k≠1/\¬(Jg o=true/\Jg n=true))\/(k≠2/\¬(w.length=0/\ks.length=0))\/(k≠3/\(l≠0\/os.length≠0)) then false
  else if k=1 then Zh o (dT d) && Zh n (dT d) && decide (o.kind≠10/\n.kind≠10)
  else Yh (-1) w && ZA (-1) ks (d - 1) && decide (¬(k=3/\(l < 2\/9 < l))) && ZD l os (d - 1) && decide (Z1q os 0 < 1048576/\Z1p os 0 < 1048576)
def ZA(last:Int):List (KidOf Edit)->Int->Bool
 | [],_=> true
 | k ::r,d=> Jp last k d && ZA k.at_ r d
def Jp(last:Int):KidOf Edit->Int->Bool
 | ⟨a,e⟩,d=> decide (last < a/\a<=65534/\e.kind≠0) && Z5 e d
def ZD(list:Int):List (OpOf Edit)->Int->Bool
 | [],_=> true
 | o ::r,d=> Za list o d && ZD list r d
def Za(list:Int):OpOf Edit->Int->Bool
 | ⟨k,n,l,e⟩,d=>
  if k=0 then decide (1<=n/\n<=1048576/\l.length=0) && Z1a e
  else if n≠0\/k < 0\/3 < k then false
  else if k < 3 then Y3 (dT d) list l && decide (0 < l.length) && Z1a e
  else decide (l.length=0/\e.kind≠0/\7 < list) && Z5 e d && decide (list=8\/e.kind=2\/e.kind=1/\e.old.kind=1/\e.new.kind=1)
end
mutual
def ctE:Edit->Nat
 | .mk _ o n w ks _ os=> 16+Zi o+Zi n+65600*w.length+Z2B ks+YZ os
def Z2B:List (KidOf Edit)->Nat
 | []=> 0
 | k ::r=> Z7S k+Z2B r
def Z7S:KidOf Edit->Nat
 | ⟨_,e⟩=> 65600+ctE e
def YZ:List (OpOf Edit)->Nat
 | []=> 0
 | o ::r=> Z3E o+YZ r
def Z3E:OpOf Edit->Nat
 | ⟨_,_,l,e⟩=> 16+Z7 l+ctE e
end
theorem Z4z(e:Edit):ctE e=16+Zi e.old+Zi e.new+65600*e.words.length+Z2B e.kids+YZ e.ops:=by cases e;rfl
theorem Zhl(k:Kid):Z7S k=65600+ctE k.e:=by cases k;rfl
theorem Z2p(o:Op):Z3E o=16+Z7 o.l+ctE o.e:=by cases o;rfl
theorem Zcx:∀ {ks:List Kid} {k:Kid},k∈ks->ctE k.e+65600<=Z2B ks
 | a ::r,k,h=> by
  rcases Qd.1 h with rfl | h
  ·simp only [Z2B,Zhl];omega
  ·have:=Zcx h;simp only [Z2B];omega
theorem Zcw:∀ {os:List Op} {o:Op},o∈os->ctE o.e+Z7 o.l+16<=YZ os
 | a ::r,o,h=> by
  rcases Qd.1 h with rfl | h
  ·simp only [YZ,Z2p];omega
  ·have:=Zcw h;simp only [YZ];omega
theorem ZgK(t:Tree):1<=Zi t:=by obtain ⟨k,w,ks⟩:=t;simp only [Zi];omega
mutual
theorem ZeV:∀ (e:Edit),Z8 e<=ctE e
 | .mk k o n w ks l os=> by
  have h1:=Zdw ks
  have h2:os.length+Zg os<=YZ os:=Z8u os
  simp only [Z8,ctE]
  omega
theorem Zdw:∀ (ks:List (KidOf Edit)),ZP ks<=Z2B ks
 | []=> Qh _
 | k ::r=> by
  have h1:=Zid k
  have h2:=Zdw r
  simp only [ZP,Z2B]
  omega
theorem Zid:∀ (k:KidOf Edit),JG k<=Z7S k
 | ⟨a,e⟩=> by
  have:=ZeV e
  simp only [JG,Z7S]
  omega
theorem Z8u:∀ (os:List (OpOf Edit)),os.length+Zg os<=YZ os
 | []=> Qh _
 | o ::r=> by
  have h1:=Zm7 o
  have h2:=Z8u r
  simp only [Zg,YZ,Qb]
  omega
theorem Zm7:∀ (o:OpOf Edit),Zt o+1<=Z3E o
 | ⟨k,n,l,e⟩=> by
  have:=ZeV e
  simp only [Zt,Z3E]
  omega
end
mutual
theorem Z5n:∀ (e:Edit),ctE e+131100<=65600*Z8 e
 | .mk k o n w ks l os=> by
  have h1:=ZdL ks
  have h2:=ZdK os
  have:=ZgK o
  have:=ZgK n
  simp only [Z8,ctE]
  omega
theorem ZdL:∀ (ks:List (KidOf Edit)),Z2B ks<=65600*ZP ks
 | []=> Qh _
 | k ::r=> by
  have h1:=ZiG k
  have h2:=ZdL r
  simp only [ZP,Z2B]
  omega
theorem ZiG:∀ (k:KidOf Edit),Z7S k<=65600*JG k
 | ⟨a,e⟩=> by
  have:=Z5n e
  simp only [JG,Z7S]
  omega
theorem ZdK:∀ (os:List (OpOf Edit)),YZ os<=65600*(os.length+Zg os)
 | []=> Qh _
 | o ::r=> by
  have h1:=Zmz o
  have h2:=ZdK r
  simp only [Zg,YZ,Qb]
  omega
theorem Zmz:∀ (o:OpOf Edit),Z3E o<=65600*(Zt o+1)
 | ⟨k,n,l,e⟩=> by
  have:=Z5n e
  simp only [Zt,Z3E]
  omega
end
mutual
def Y6:Edit->Bool
 | .mk _ _ _ _ ks _ os=> decide (Z1q os 0<=2000/\Z1p os 0<=2000) && J7 ks && ZJ os
def J7:List (KidOf Edit)->Bool
 | []=> true
 | k ::r=> ZgQ k && J7 r
def ZgQ:KidOf Edit->Bool
 | ⟨_,e⟩=> Y6 e
def ZJ:List (OpOf Edit)->Bool
 | []=> true
 | o ::r=> Z7d o && ZJ r
def Z7d:OpOf Edit->Bool
 | ⟨_,_,_,e⟩=> Y6 e
end
def Ji(e:Edit):Bool:=decide (0<=Z0q e 80 3000) && Z5 e 64 && Y6 e
end Go.AM
