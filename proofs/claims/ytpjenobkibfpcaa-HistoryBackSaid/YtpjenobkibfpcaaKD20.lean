import Derived.Test.YtpjenobkibfpcaaKD07
set_option linter.unusedSimpArgs false
set_option linter.unusedVariables false
namespace Go.AM
def Zd(w:Int)(i:Nat):Int:=w / 256 ^ i % 256
def Z7R(m:Int)(i:Int):Bool:=decide (m / 2 ^ i.toNat % 2=1)
def of8(f:Nat->Int):Int:=f 0+256*(f 1+256*(f 2+256*(f 3+256*(f 4+256*(f 5+256*(f 6+256*f 7))))))
def Ye(a b m:Int)(i:Nat):Int:=if Z7R m i then Zd b i else Zd a i
def mix(a b m:Int):Int:=of8 (Ye a b m)
mutual
def ZD:Edit->Nat
 | .mk _ o n w ks _ os=> 1+Zm o+Zm n+w.length+os.length+Yy ks+ZE os
def Yy:List (KidOf Edit)->Nat
 | []=> 0
 | k ::r=> JQ k+Yy r
def JQ:KidOf Edit->Nat
 | ⟨_,e⟩=> ZD e
def ZE:List (OpOf Edit)->Nat
 | []=> 0
 | o ::r=> Yp o+ZE r
def Yp:OpOf Edit->Nat
 | ⟨_,_,l,e⟩=> Ze l+ZD e
end
mutual
def Z1F:Edit->Prop
 | .mk _ o n w ks _ os=> Z12 o/\Z12 n/\w.length<=17592186044416/\ks.length<=17592186044416/\os.length<=17592186044416/\Z3W ks/\Z3V os
def Z3W:List (KidOf Edit)->Prop
 | []=> True
 | k ::r=> Zd6 k/\Z3W r
def Zd6:KidOf Edit->Prop
 | ⟨_,e⟩=> Z1F e
def Z3V:List (OpOf Edit)->Prop
 | []=> True
 | o ::r=> Zgu o/\Z3V r
def Zgu:OpOf Edit->Prop
 | ⟨_,_,l,e⟩=> l.length<=17592186044416/\Z11 l/\Z1F e
end
def isW(n:Int):Prop:=0<=n/\n < 18446744073709551616
def ZeL(w:WEdit):Prop:=InR w.at_/\(0<=w.mask/\w.mask < 256)/\isW w.old/\isW w.new
mutual
def Yk:Edit->Prop
 | .mk k o n w ks l os=> InR k/\rng o/\rng n/\(∀ x∈w,ZeL x)/\InR l/\JB ks/\JK os
def JB:List (KidOf Edit)->Prop
 | []=> True
 | k ::r=> Z0t k/\JB r
def Z0t:KidOf Edit->Prop
 | ⟨a,e⟩=> InR a/\Yk e
def JK:List (OpOf Edit)->Prop
 | []=> True
 | o ::r=> Jg o/\JK r
def Jg:OpOf Edit->Prop
 | ⟨k,n,l,e⟩=> InR k/\InR n/\ZQ l/\Yk e
end
def sh1(t:Tree)(n:Int):Int:=if n < 0 then n else Zr t 80 n
mutual
def Jo:Edit->Int->Int->Int
 | .mk _ o nw w ks _ os,d,n=> if d=0\/n - 1 - w.length - os.length < 0 then -1 else Jl os (d - 1) (J4 ks (d - 1) (sh1 nw (Zr o 80 (n - 1 - w.length - os.length))))
def J4:List (KidOf Edit)->Int->Int->Int
 | [],_,n=> n
 | k ::r,d,n=> if n < 0 then n else J4 r d (Z1A k d n)
def Z1A:KidOf Edit->Int->Int->Int
 | ⟨_,e⟩,d,n=> Jo e d n
def Jl:List (OpOf Edit)->Int->Int->Int
 | [],_,n=> n
 | o ::r,d,n=> if n < 0 then n else Jl r d (Z3C o d n)
def Z3C:OpOf Edit->Int->Int->Int
 | ⟨_,_,l,e⟩,d,n=> if Zo l 80 n < 0 then Zo l 80 n else Jo e d (Zo l 80 n)
end
def ZJ(t:Tree):Bool:=decide (t.kind=0/\t.words.length=0/\t.kids.length=0)
def Z0f(e:Edit):Bool:=decide (e.kind=0) && ZJ e.old && ZJ e.new && decide (e.words.length=0/\e.kids.length=0/\e.ops.length=0/\e.list=0)
def J8(w m:Int):Bool:=decide (mix w 0 m=0)
def Zk(last:Int):List WEdit->Bool
 | []=> true
 | w ::r=> decide (last < w.at_/\w.at_<=65534/\w.mask≠0) && J8 w.old w.mask && J8 w.new w.mask && Zk w.at_ r
def Zt(o:Op):Int:=if o.kind=3 then 1 else o.n+o.l.length
def Jy:List Op->Int->Int
 | [],n=> n
 | o ::r,n=> Jy r (min (if o.kind=2 then n else n+Zt o) 1048576)
def Jx:List Op->Int->Int
 | [],n=> n
 | o ::r,n=> Jx r (min (if o.kind=1 then n else n+Zt o) 1048576)
def YC(list:Int):List Tree->Bool
 | []=> true
 | t ::r=> Z9 (.mk list [] [t]) 64 && YC list r
def dT(d:Int):Int:=if d < 0 then -1 else 64
theorem Zhz{d:Int}(h:0<=d):dT d=64:=by unfold dT;rw [if_neg (by omega)]
theorem Zq6(d:Int):dT d≠0:=by unfold dT;split <;> decide
def YM(D list:Int):List Tree->Bool
 | []=> true
 | t ::r=> Z9 (.mk list [] [t]) D && YM D list r
theorem Z6O(list:Int):∀ l:List Tree,YM 64 list l=YC list l
 | []=> rfl
 | t ::r=> by simp only [YM,YC,Z6O list r]
mutual
def Z4:Edit->Int->Bool
 | .mk k o n w ks l os,d=>
  if d=0\/k < 0\/3 < k then false
  else if (k≠1/\¬(ZJ o=true/\ZJ n=true))\/(k≠2/\¬(w.length=0/\ks.length=0))\/(k≠3/\(l≠0\/os.length≠0)) then false
  else if k=1 then Z9 o (dT d) && Z9 n (dT d) && decide (o.kind≠10/\n.kind≠10)
  else Zk (-1) w && Zp (-1) ks (d - 1) && decide (¬(k=3/\(l < 2\/9 < l))) && Zs l os (d - 1) && decide (Jy os 0 < 1048576/\Jx os 0 < 1048576)
def Zp(last:Int):List (KidOf Edit)->Int->Bool
 | [],_=> true
 | k ::r,d=> YI last k d && Zp k.at_ r d
def YI(last:Int):KidOf Edit->Int->Bool
 | ⟨a,e⟩,d=> decide (last < a/\a<=65534/\e.kind≠0) && Z4 e d
def Zs(list:Int):List (OpOf Edit)->Int->Bool
 | [],_=> true
 | o ::r,d=> Zb list o d && Zs list r d
def Zb(list:Int):OpOf Edit->Int->Bool
 | ⟨k,n,l,e⟩,d=>
  if k=0 then decide (1<=n/\n<=1048576/\l.length=0) && Z0f e
  else if n≠0\/k < 0\/3 < k then false
  else if k < 3 then YM (dT d) list l && decide (0 < l.length) && Z0f e
  else decide (l.length=0/\e.kind≠0/\7 < list) && Z4 e d && decide (list=8\/e.kind=2\/e.kind=1/\e.old.kind=1/\e.new.kind=1)
end
mutual
def ctE:Edit->Nat
 | .mk _ o n w ks _ os=> 16+Zm o+Zm n+65600*w.length+Z1p ks+YQ os
def Z1p:List (KidOf Edit)->Nat
 | []=> 0
 | k ::r=> Z2V k+Z1p r
def Z2V:KidOf Edit->Nat
 | ⟨_,e⟩=> 65600+ctE e
def YQ:List (OpOf Edit)->Nat
 | []=> 0
 | o ::r=> Z2P o+YQ r
def Z2P:OpOf Edit->Nat
 | ⟨_,_,l,e⟩=> 16+Ze l+ctE e
end
theorem ZfP(e:Edit):ctE e=16+Zm e.old+Zm e.new+65600*e.words.length+Z1p e.kids+YQ e.ops:=by cases e;rfl
theorem Zmv(k:Kid):Z2V k=65600+ctE k.e:=by cases k;rfl
theorem ZhB(o:Op):Z2P o=16+Ze o.l+ctE o.e:=by cases o;rfl
theorem Zei:∀ {ks:List Kid} {k:Kid},k∈ks->ctE k.e+65600<=Z1p ks
 | a ::r,k,h=> by
  rcases Qc.1 h with rfl | h
  ·simp only [Z1p,Zmv];omega
  ·have:=Zei h;simp only [Z1p];omega
theorem Zeh:∀ {os:List Op} {o:Op},o∈os->ctE o.e+Ze o.l+16<=YQ os
 | a ::r,o,h=> by
  rcases Qc.1 h with rfl | h
  ·simp only [YQ,ZhB];omega
  ·have:=Zeh h;simp only [YQ];omega
theorem ZdK(t:Tree):1<=Zm t:=by obtain ⟨k,w,ks⟩:=t;simp only [Zm];omega
mutual
theorem Zcf:∀ (e:Edit),ZD e<=ctE e
 | .mk k o n w ks l os=> by
  have h1:=Zbb ks
  have h2:os.length+ZE os<=YQ os:=Zba os
  simp only [ZD,ctE]
  omega
theorem Zbb:∀ (ks:List (KidOf Edit)),Yy ks<=Z1p ks
 | []=> QF _
 | k ::r=> by
  have h1:=Zfg k
  have h2:=Zbb r
  simp only [Yy,Z1p]
  omega
theorem Zfg:∀ (k:KidOf Edit),JQ k<=Z2V k
 | ⟨a,e⟩=> by
  have:=Zcf e
  simp only [JQ,Z2V]
  omega
theorem Zba:∀ (os:List (OpOf Edit)),os.length+ZE os<=YQ os
 | []=> QF _
 | o ::r=> by
  have h1:=ZiS o
  have h2:=Zba r
  simp only [ZE,YQ,Qw]
  omega
theorem ZiS:∀ (o:OpOf Edit),Yp o+1<=Z2P o
 | ⟨k,n,l,e⟩=> by
  have:=Zcf e
  simp only [Yp,Z2P]
  omega
end
mutual
theorem ZcA:∀ (e:Edit),ctE e+131100<=65600*ZD e
 | .mk k o n w ks l os=> by
  have h1:=Zbq ks
  have h2:=Zbp os
  have:=ZdK o
  have:=ZdK n
  simp only [ZD,ctE]
  omega
theorem Zbq:∀ (ks:List (KidOf Edit)),Z1p ks<=65600*Yy ks
 | []=> QF _
 | k ::r=> by
  have h1:=ZfO k
  have h2:=Zbq r
  simp only [Yy,Z1p]
  omega
theorem ZfO:∀ (k:KidOf Edit),Z2V k<=65600*JQ k
 | ⟨a,e⟩=> by
  have:=ZcA e
  simp only [JQ,Z2V]
  omega
theorem Zbp:∀ (os:List (OpOf Edit)),YQ os<=65600*(os.length+ZE os)
 | []=> QF _
 | o ::r=> by
  have h1:=Zjh o
  have h2:=Zbp r
  simp only [ZE,YQ,Qw]
  omega
theorem Zjh:∀ (o:OpOf Edit),Z2P o<=65600*(Yp o+1)
 | ⟨k,n,l,e⟩=> by
  have:=ZcA e
  simp only [Yp,Z2P]
  omega
end
mutual
def JR:Edit->Bool
 | .mk _ _ _ _ ks _ os=> decide (Jy os 0<=2000/\Jx os 0<=2000) && Z2K ks && Z4c os
def Z2K:List (KidOf Edit)->Bool
 | []=> true
 | k ::r=> ZdT k && Z2K r
def ZdT:KidOf Edit->Bool
 | ⟨_,e⟩=> JR e
def Z4c:List (OpOf Edit)->Bool
 | []=> true
 | o ::r=> Zh7 o && Z4c r
def Zh7:OpOf Edit->Bool
 | ⟨_,_,_,e⟩=> JR e
end
def Z2b(e:Edit):Bool:=decide (0<=Jo e 80 3000) && Z4 e 64 && JR e
end Go.AM
