import Derived.Test.YtpjenobkibfpcaaKD07
set_option linter.unusedSimpArgs false
set_option linter.unusedVariables false
namespace Go.AM
def Z0(w:Int)(i:Nat):Int:=w / 256 ^ i % 256
def Zx(m:Int)(i:Int):Bool:=decide (m / 2 ^ i.toNat % 2=1)
def of8(f:Nat→Int):Int:=f 0+256*(f 1+256*(f 2+256*(f 3+256*(f 4+256*(f 5+256*(f 6+256*f 7))))))
def J0(a b m:Int)(i:Nat):Int:=if Zx m i then Z0 b i else Z0 a i
def mix(a b m:Int):Int:=of8 (J0 a b m)
mutual
def Z5:Edit→Nat
 | .mk _ o n w ks _ os=> 1+Zo o+Zo n+w.length+os.length+Zt ks+Zh os
def Zt:List (KidOf Edit)→Nat
 | []=> 0
 | k ::r=> YI k+Zt r
def YI:KidOf Edit→Nat
 | ⟨_,e⟩=> Z5 e
def Zh:List (OpOf Edit)→Nat
 | []=> 0
 | o ::r=> Zs o+Zh r
def Zs:OpOf Edit→Nat
 | ⟨_,_,l,e⟩=> Zf l+Z5 e
end
mutual
def Z2Y:Edit→Prop
 | .mk _ o n w ks _ os=> Z5P o∧Z5P n∧w.length≤17592186044416∧ks.length≤17592186044416∧os.length≤17592186044416∧Z6V ks∧Z6U os
def Z6V:List (KidOf Edit)→Prop
 | []=> True
 | k ::r=> Zic k∧Z6V r
def Zic:KidOf Edit→Prop
 | ⟨_,e⟩=> Z2Y e
def Z6U:List (OpOf Edit)→Prop
 | []=> True
 | o ::r=> ZlW o∧Z6U r
def ZlW:OpOf Edit→Prop
 | ⟨_,_,l,e⟩=> l.length≤17592186044416∧Z3P l∧Z2Y e
end
def isI(n:Int):Prop:= -9223372036854775808≤n∧n≤9223372036854775807
def isW(n:Int):Prop:=0≤n∧n < 18446744073709551616
def Z2e(w:WEdit):Prop:=isI w.at_∧(0≤w.mask∧w.mask < 256)∧isW w.old∧isW w.new
mutual
def YT:Edit→Prop
 | .mk k o n w ks l os=> isI k∧rng o∧rng n∧(∀ x∈w,Z2e x)∧isI l∧Z11 ks∧Z0j os
def Z11:List (KidOf Edit)→Prop
 | []=> True
 | k ::r=> Z1j k∧Z11 r
def Z1j:KidOf Edit→Prop
 | ⟨a,e⟩=> isI a∧YT e
def Z0j:List (OpOf Edit)→Prop
 | []=> True
 | o ::r=> YH o∧Z0j r
def YH:OpOf Edit→Prop
 | ⟨k,n,l,e⟩=> isI k∧isI n∧Yp l∧YT e
end
def sh1(t:Tree)(n:Int):Int:=if n < 0 then n else ZZ t 80 n
mutual
def Z18:Edit→Int→Int→Int
 | .mk _ o nw w ks _ os,d,n=> if d=0∨n - 1 - w.length - os.length < 0 then -1 else Z0f os (d - 1) (Z02 ks (d - 1) (sh1 nw (ZZ o 80 (n - 1 - w.length - os.length))))
def Z02:List (KidOf Edit)→Int→Int→Int
 | [],_,n=> n
 | k ::r,d,n=> if n < 0 then n else Z02 r d (Z3H k d n)
def Z3H:KidOf Edit→Int→Int→Int
 | ⟨_,e⟩,d,n=> Z18 e d n
def Z0f:List (OpOf Edit)→Int→Int→Int
 | [],_,n=> n
 | o ::r,d,n=> if n < 0 then n else Z0f r d (Z6n o d n)
def Z6n:OpOf Edit→Int→Int→Int
 | ⟨_,_,l,e⟩,d,n=> if Zw l 80 n < 0 then Zw l 80 n else Z18 e d (Zw l 80 n)
end
def JR(t:Tree):Bool:=decide (t.kind=0∧t.words.length=0∧t.kids.length=0)
def Z24(e:Edit):Bool:=decide (e.kind=0) && JR e.old && JR e.new && decide (e.words.length=0∧e.kids.length=0∧e.ops.length=0∧e.list=0)
def Yl(w m:Int):Bool:=decide (mix w 0 m=0)
def Yk(last:Int):List WEdit→Bool
 | []=> true
 | w ::r=> decide (last < w.at_∧w.at_≤65534∧w.mask≠0) && Yl w.old w.mask && Yl w.new w.mask && Yk w.at_ r
def Z2(o:Op):Int:=if o.kind=3 then 1 else o.n+o.l.length
def Z2l:List Op→Int→Int
 | [],n=> n
 | o ::r,n=> Z2l r (min (if o.kind=2 then n else n+Z2 o) 1048576)
def Z2k:List Op→Int→Int
 | [],n=> n
 | o ::r,n=> Z2k r (min (if o.kind=1 then n else n+Z2 o) 1048576)
def Z4K(list:Int):List Tree→Bool
 | []=> true
 | t ::r=> Zl (.mk list [] [t]) 64 && Z4K list r
def dT(d:Int):Int:=if d < 0 then -1 else 64
theorem Zxc{d:Int}(h:0≤d):dT d=64:=by unfold dT;rw [if_neg (by omega)]
theorem ZeL{d:Int}(h:d < 0):dT d= -1:=by unfold dT;rw [if_pos h]
theorem Zxd(d:Int):dT d≠0:=by unfold dT;split <;> decide
def Yv(D list:Int):List Tree→Bool
 | []=> true
 | t ::r=> Zl (.mk list [] [t]) D && Yv D list r
theorem Zfk(list:Int):∀ l:List Tree,Yv 64 list l=Z4K list l
 | []=> rfl
 | t ::r=> by simp only [Yv,Z4K,Zfk list r]
mutual
def Za:Edit→Int→Bool
 | .mk k o n w ks l os,d=>
  if d=0∨k < 0∨3 < k then false
  else if (k≠1∧¬(JR o=true∧JR n=true))∨(k≠2∧¬(w.length=0∧ks.length=0))∨(k≠3∧(l≠0∨os.length≠0)) then false
  else if k=1 then Zl o (dT d) && Zl n (dT d) && decide (o.kind≠10∧n.kind≠10)
  else Yk (-1) w && ZG (-1) ks (d - 1) && decide (¬(k=3∧(l < 2∨9 < l))) && ZD l os (d - 1) && decide (Z2l os 0 < 1048576∧Z2k os 0 < 1048576)
def ZG(last:Int):List (KidOf Edit)→Int→Bool
 | [],_=> true
 | k ::r,d=> J3 last k d && ZG k.at_ r d
def J3(last:Int):KidOf Edit→Int→Bool
 | ⟨a,e⟩,d=> decide (last < a∧a≤65534∧e.kind≠0) && Za e d
def ZD(list:Int):List (OpOf Edit)→Int→Bool
 | [],_=> true
 | o ::r,d=> Zc list o d && ZD list r d
def Zc(list:Int):OpOf Edit→Int→Bool
 | ⟨k,n,l,e⟩,d=>
  if k=0 then decide (1≤n∧n≤1048576∧l.length=0) && Z24 e
  else if n≠0∨k < 0∨3 < k then false
  else if k < 3 then Yv (dT d) list l && decide (0 < l.length) && Z24 e
  else decide (l.length=0∧e.kind≠0∧7 < list) && Za e d && decide (list=8∨e.kind=2∨e.kind=1∧e.old.kind=1∧e.new.kind=1)
end
mutual
def ctE:Edit→Nat
 | .mk _ o n w ks _ os=> 16+Zo o+Zo n+65600*w.length+Z0n ks+J4 os
def Z0n:List (KidOf Edit)→Nat
 | []=> 0
 | k ::r=> Z4B k+Z0n r
def Z4B:KidOf Edit→Nat
 | ⟨_,e⟩=> 65600+ctE e
def J4:List (OpOf Edit)→Nat
 | []=> 0
 | o ::r=> Z3p o+J4 r
def Z3p:OpOf Edit→Nat
 | ⟨_,_,l,e⟩=> 16+Zf l+ctE e
end
theorem Jt(e:Edit):ctE e=16+Zo e.old+Zo e.new+65600*e.words.length+Z0n e.kids+J4 e.ops:=by cases e;rfl
theorem Z1W(k:Kid):Z4B k=65600+ctE k.e:=by cases k;rfl
theorem Z3L(o:Op):Z3p o=16+Zf o.l+ctE o.e:=by cases o;rfl
theorem Zam:∀ {ks:List Kid} {k:Kid},k∈ks→ctE k.e+65600≤Z0n ks
 | a ::r,k,h=> by
  rcases List.mem_cons.1 h with rfl | h
  ·simp only [Z0n,Z1W];omega
  ·have:=Zam h;simp only [Z0n];omega
theorem Z6B:∀ {os:List Op} {o:Op},o∈os→ctE o.e+Zf o.l+16≤J4 os
 | a ::r,o,h=> by
  rcases List.mem_cons.1 h with rfl | h
  ·simp only [J4,Z3L];omega
  ·have:=Z6B h;simp only [J4];omega
mutual
theorem Z7g:∀ (e:Edit),Z5 e≤ctE e
 | .mk k o n w ks l os=> by
  have h1:=Z4k ks
  have h2:os.length+Zh os≤J4 os:=Z1p os
  simp only [Z5,ctE]
  omega
theorem Z4k:∀ (ks:List (KidOf Edit)),Zt ks≤Z0n ks
 | []=> Nat.le_refl _
 | k ::r=> by
  have h1:=ZkA k
  have h2:=Z4k r
  simp only [Zt,Z0n]
  omega
theorem ZkA:∀ (k:KidOf Edit),YI k≤Z4B k
 | ⟨a,e⟩=> by
  have:=Z7g e
  simp only [YI,Z4B]
  omega
theorem Z1p:∀ (os:List (OpOf Edit)),os.length+Zh os≤J4 os
 | []=> Nat.le_refl _
 | o ::r=> by
  have h1:=ZoX o
  have h2:=Z1p r
  simp only [Zh,J4,List.length_cons]
  omega
theorem ZoX:∀ (o:OpOf Edit),Zs o+1≤Z3p o
 | ⟨k,n,l,e⟩=> by
  have:=Z7g e
  simp only [Zs,Z3p]
  omega
end
mutual
def Z17:Edit→Bool
 | .mk _ _ _ _ ks _ os=> decide (Z2l os 0≤2000∧Z2k os 0≤2000) && Z2j ks && Z3G os
def Z2j:List (KidOf Edit)→Bool
 | []=> true
 | k ::r=> Zjj k && Z2j r
def Zjj:KidOf Edit→Bool
 | ⟨_,e⟩=> Z17 e
def Z3G:List (OpOf Edit)→Bool
 | []=> true
 | o ::r=> ZmV o && Z3G r
def ZmV:OpOf Edit→Bool
 | ⟨_,_,_,e⟩=> Z17 e
end
def Z0g(e:Edit):Bool:=decide (0≤Z18 e 80 3000) && Za e 64 && Z17 e
end Go.AM
