import Derived.Test.YtfapacabjkhepaaVKD07
set_option linter.unusedSimpArgs false
set_option linter.unusedVariables false
namespace Go.AM
def Zg(w:Int)(i:Nat):Int:=w / 256 ^ i % 256
def YT(m:Int)(i:Int):Bool:=decide (m / 2 ^ i.toNat % 2=1)
def of8(f:Nat->Int):Int:=f 0+256*(f 1+256*(f 2+256*(f 3+256*(f 4+256*(f 5+256*(f 6+256*f 7))))))
def YA(a b m:Int)(i:Nat):Int:=if YT m i then Zg b i else Zg a i
def mix(a b m:Int):Int:=of8 (YA a b m)
mutual
def Zd:Edit->Nat
 | .mk _ o n w ks _ os=> 1+Zn o+Zn n+w.length+os.length+Zx ks+Zr os
def Zx:List (KidOf Edit)->Nat
 | []=> 0
 | k ::r=> Yw k+Zx r
def Yw:KidOf Edit->Nat
 | ⟨_,e⟩=> Zd e
def Zr:List (OpOf Edit)->Nat
 | []=> 0
 | o ::r=> ZA o+Zr r
def ZA:OpOf Edit->Nat
 | ⟨_,_,l,e⟩=> Zl l+Zd e
end
mutual
def Z1z:Edit->Prop
 | .mk _ o n w ks _ os=> Z23 o/\Z23 n/\w.length<=17592186044416/\ks.length<=17592186044416/\os.length<=17592186044416/\Z4e ks/\Z4d os
def Z4e:List (KidOf Edit)->Prop
 | []=> True
 | k ::r=> Zc6 k/\Z4e r
def Zc6:KidOf Edit->Prop
 | ⟨_,e⟩=> Z1z e
def Z4d:List (OpOf Edit)->Prop
 | []=> True
 | o ::r=> Zfc o/\Z4d r
def Zfc:OpOf Edit->Prop
 | ⟨_,_,l,e⟩=> l.length<=17592186044416/\Z22 l/\Z1z e
end
def isW(n:Int):Prop:=0<=n/\n < 18446744073709551616
def Z1j(w:WEdit):Prop:=InR w.at_/\(0<=w.mask/\w.mask < 256)/\isW w.old/\isW w.new
mutual
def ZK:Edit->Prop
 | .mk k o n w ks l os=> InR k/\rng o/\rng n/\(∀ x∈w,Z1j x)/\InR l/\JX ks/\JP os
def JX:List (KidOf Edit)->Prop
 | []=> True
 | k ::r=> Z0N k/\JX r
def Z0N:KidOf Edit->Prop
 | ⟨a,e⟩=> InR a/\ZK e
def JP:List (OpOf Edit)->Prop
 | []=> True
 | o ::r=> YD o/\JP r
def YD:OpOf Edit->Prop
 | ⟨k,n,l,e⟩=> InR k/\InR n/\Yg l/\ZK e
end
def sh1(t:Tree)(n:Int):Int:=if n < 0 then n else ZF t 80 n
mutual
def Z0q:Edit->Int->Int->Int
 | .mk _ o nw w ks _ os,d,n=> if d=0\/n - 1 - w.length - os.length < 0 then -1 else Z0n os (d - 1) (Z03 ks (d - 1) (sh1 nw (ZF o 80 (n - 1 - w.length - os.length))))
def Z03:List (KidOf Edit)->Int->Int->Int
 | [],_,n=> n
 | k ::r,d,n=> if n < 0 then n else Z03 r d (Z2L k d n)
def Z2L:KidOf Edit->Int->Int->Int
 | ⟨_,e⟩,d,n=> Z0q e d n
def Z0n:List (OpOf Edit)->Int->Int->Int
 | [],_,n=> n
 | o ::r,d,n=> if n < 0 then n else Z0n r d (Z5t o d n)
def Z5t:OpOf Edit->Int->Int->Int
 | ⟨_,_,l,e⟩,d,n=> if Zy l 80 n < 0 then Zy l 80 n else Z0q e d (Zy l 80 n)
end
def ZR(t:Tree):Bool:=decide (t.kind=0/\t.words.length=0/\t.kids.length=0)
def Z11(e:Edit):Bool:=decide (e.kind=0) && ZR e.old && ZR e.new && decide (e.words.length=0/\e.kids.length=0/\e.ops.length=0/\e.list=0)
def ZM(w m:Int):Bool:=decide (mix w 0 m=0)
def Zp(last:Int):List WEdit->Bool
 | []=> true
 | w ::r=> decide (last < w.at_/\w.at_<=65534/\w.mask≠0) && ZM w.old w.mask && ZM w.new w.mask && Zp w.at_ r
def Z5(o:Op):Int:=if o.kind=3 then 1 else o.n+o.l.length
def Z0m:List Op->Int->Int
 | [],n=> n
 | o ::r,n=> Z0m r (min (if o.kind=2 then n else n+Z5 o) 1048576)
def Z0l:List Op->Int->Int
 | [],n=> n
 | o ::r,n=> Z0l r (min (if o.kind=1 then n else n+Z5 o) 1048576)
def Ju(list:Int):List Tree->Bool
 | []=> true
 | t ::r=> Z9 (.mk list [] [t]) 64 && Ju list r
def dT(d:Int):Int:=if d < 0 then -1 else 64
theorem ZlE{d:Int}(h:0<=d):dT d=64:=by unfold dT;rw [JI]
theorem Zdc{d:Int}(h:d < 0):dT d= -1:=by unfold dT;rw [if_pos h]
theorem ZuG(d:Int):dT d≠0:=by unfold dT;split <;> decide
def Yr(D list:Int):List Tree->Bool
 | []=> true
 | t ::r=> Z9 (.mk list [] [t]) D && Yr D list r
theorem Z93(list:Int):∀ l:List Tree,Yr 64 list l=Ju list l
 | []=> rfl
 | t ::r=> by simp only [Yr,Ju,Z93 list r]
mutual
def Z0:Edit->Int->Bool
 | .mk k o n w ks l os,d=>
  if d=0\/k < 0\/3 < k then false
  else if (k≠1/\¬(ZR o=true/\ZR n=true))\/(k≠2/\¬(w.length=0/\ks.length=0))\/(k≠3/\(l≠0\/os.length≠0)) then false
  else if k=1 then Z9 o (dT d) && Z9 n (dT d) && decide (o.kind≠10/\n.kind≠10)
  else Zp (-1) w && Zu (-1) ks (d - 1) && decide (¬(k=3/\(l < 2\/9 < l))) && Zt l os (d - 1) && decide (Z0m os 0 < 1048576/\Z0l os 0 < 1048576)
def Zu(last:Int):List (KidOf Edit)->Int->Bool
 | [],_=> true
 | k ::r,d=> YW last k d && Zu k.at_ r d
def YW(last:Int):KidOf Edit->Int->Bool
 | ⟨a,e⟩,d=> decide (last < a/\a<=65534/\e.kind≠0) && Z0 e d
def Zt(list:Int):List (OpOf Edit)->Int->Bool
 | [],_=> true
 | o ::r,d=> Zc list o d && Zt list r d
def Zc(list:Int):OpOf Edit->Int->Bool
 | ⟨k,n,l,e⟩,d=>
  if k=0 then decide (1<=n/\n<=1048576/\l.length=0) && Z11 e
  else if n≠0\/k < 0\/3 < k then false
  else if k < 3 then Yr (dT d) list l && decide (0 < l.length) && Z11 e
  else decide (l.length=0/\e.kind≠0/\7 < list) && Z0 e d && decide (list=8\/e.kind=2\/e.kind=1/\e.old.kind=1/\e.new.kind=1)
end
mutual
def ctE:Edit->Nat
 | .mk _ o n w ks _ os=> 16+Zn o+Zn n+65600*w.length+Z0t ks+YN os
def Z0t:List (KidOf Edit)->Nat
 | []=> 0
 | k ::r=> Z2o k+Z0t r
def Z2o:KidOf Edit->Nat
 | ⟨_,e⟩=> 65600+ctE e
def YN:List (OpOf Edit)->Nat
 | []=> 0
 | o ::r=> Z2s o+YN r
def Z2s:OpOf Edit->Nat
 | ⟨_,_,l,e⟩=> 16+Zl l+ctE e
end
theorem Z2p(e:Edit):ctE e=16+Zn e.old+Zn e.new+65600*e.words.length+Z0t e.kids+YN e.ops:=by cases e;rfl
theorem Z3T(k:Kid):Z2o k=65600+ctE k.e:=by cases k;rfl
theorem Z4s(o:Op):Z2s o=16+Zl o.l+ctE o.e:=by cases o;rfl
theorem Zde:∀ {ks:List Kid} {k:Kid},k∈ks->ctE k.e+65600<=Z0t ks
 | a ::r,k,h=> by
  rcases Q6.1 h with rfl | h
  .simp only [Z0t,Z3T];omega
  .have:=Zde h;simp only [Z0t];omega
theorem Z8T:∀ {os:List Op} {o:Op},o∈os->ctE o.e+Zl o.l+16<=YN os
 | a ::r,o,h=> by
  rcases Q6.1 h with rfl | h
  .simp only [YN,Z4s];omega
  .have:=Z8T h;simp only [YN];omega
theorem ZhE(t:Tree):1<=Zn t:=by obtain ⟨k,w,ks⟩:=t;simp only [Zn];omega
mutual
theorem Zbi:∀ (e:Edit),Zd e<=ctE e
 | .mk k o n w ks l os=> by
  have h1:=Z5Z ks
  have h2:os.length+Zr os<=YN os:=Z3q os
  simp only [Zd,ctE]
  omega
theorem Z5Z:∀ (ks:List (KidOf Edit)),Zx ks<=Z0t ks
 | []=> Qm _
 | k ::r=> by
  have h1:=Zj7 k
  have h2:=Z5Z r
  simp only [Zx,Z0t]
  omega
theorem Zj7:∀ (k:KidOf Edit),Yw k<=Z2o k
 | ⟨a,e⟩=> by
  have:=Zbi e
  simp only [Yw,Z2o]
  omega
theorem Z3q:∀ (os:List (OpOf Edit)),os.length+Zr os<=YN os
 | []=> Qm _
 | o ::r=> by
  have h1:=ZmC o
  have h2:=Z3q r
  simp only [Zr,YN,Q7]
  omega
theorem ZmC:∀ (o:OpOf Edit),ZA o+1<=Z2s o
 | ⟨k,n,l,e⟩=> by
  have:=Zbi e
  simp only [ZA,Z2s]
  omega
end
mutual
theorem Z2P:∀ (e:Edit),ctE e+131100<=65600*Zd e
 | .mk k o n w ks l os=> by
  have h1:=ZeO ks
  have h2:=ZeN os
  have:=ZhE o
  have:=ZhE n
  simp only [Zd,ctE]
  omega
theorem ZeO:∀ (ks:List (KidOf Edit)),Z0t ks<=65600*Zx ks
 | []=> Qm _
 | k ::r=> by
  have h1:=ZjV k
  have h2:=ZeO r
  simp only [Zx,Z0t]
  omega
theorem ZjV:∀ (k:KidOf Edit),Z2o k<=65600*Yw k
 | ⟨a,e⟩=> by
  have:=Z2P e
  simp only [Yw,Z2o]
  omega
theorem ZeN:∀ (os:List (OpOf Edit)),YN os<=65600*(os.length+Zr os)
 | []=> Qm _
 | o ::r=> by
  have h1:=Zn4 o
  have h2:=ZeN r
  simp only [Zr,YN,Q7]
  omega
theorem Zn4:∀ (o:OpOf Edit),Z2s o<=65600*(ZA o+1)
 | ⟨k,n,l,e⟩=> by
  have:=Z2P e
  simp only [ZA,Z2s]
  omega
end
mutual
def Z1C:Edit->Bool
 | .mk _ _ _ _ ks _ os=> decide (Z0m os 0<=2000/\Z0l os 0<=2000) && Z4l ks && Z62 os
def Z4l:List (KidOf Edit)->Bool
 | []=> true
 | k ::r=> ZhK k && Z4l r
def ZhK:KidOf Edit->Bool
 | ⟨_,e⟩=> Z1C e
def Z62:List (OpOf Edit)->Bool
 | []=> true
 | o ::r=> Zls o && Z62 r
def Zls:OpOf Edit->Bool
 | ⟨_,_,_,e⟩=> Z1C e
end
def Z10(e:Edit):Bool:=decide (0<=Z0q e 80 3000) && Z0 e 64 && Z1C e
end Go.AM
