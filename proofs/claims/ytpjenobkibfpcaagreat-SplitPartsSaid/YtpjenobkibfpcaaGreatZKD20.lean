import Derived.Test.YtpjenobkibfpcaaGreatZKD07
set_option linter.unusedSimpArgs false
set_option linter.unusedVariables false
namespace Go.AM
def Zn(w:Int)(i:Nat):Int:=w / 256 ^ i % 256
def Z0j(m:Int)(i:Int):Bool:=decide (m / 2 ^ i.toNat % 2=1)
def of8(f:Nat→Int):Int:=f 0+256*(f 1+256*(f 2+256*(f 3+256*(f 4+256*(f 5+256*(f 6+256*f 7))))))
def Ji(a b m:Int)(i:Nat):Int:=if Z0j m i then Zn b i else Zn a i
def mix(a b m:Int):Int:=of8 (Ji a b m)
mutual
def Z9:Edit→Nat
 | .mk _ o n w ks _ os=> 1+Zu o+Zu n+w.length+os.length+Zq ks+Zg os
def Zq:List (KidOf Edit)→Nat
 | []=> 0
 | k ::r=> Yd k+Zq r
def Yd:KidOf Edit→Nat
 | ⟨_,e⟩=> Z9 e
def Zg:List (OpOf Edit)→Nat
 | []=> 0
 | o ::r=> Zw o+Zg r
def Zw:OpOf Edit→Nat
 | ⟨_,_,l,e⟩=> Zh l+Z9 e
end
mutual
def Z40:Edit→Prop
 | .mk _ o n w ks _ os=> Z5S o∧Z5S n∧w.length≤17592186044416∧ks.length≤17592186044416∧os.length≤17592186044416∧Z6S ks∧Z6R os
def Z6S:List (KidOf Edit)→Prop
 | []=> True
 | k ::r=> Zj4 k∧Z6S r
def Zj4:KidOf Edit→Prop
 | ⟨_,e⟩=> Z40 e
def Z6R:List (OpOf Edit)→Prop
 | []=> True
 | o ::r=> ZmX o∧Z6R r
def ZmX:OpOf Edit→Prop
 | ⟨_,_,l,e⟩=> l.length≤17592186044416∧Z3Z l∧Z40 e
end
def isI(n:Int):Prop:= -9223372036854775808≤n∧n≤9223372036854775807
def isW(n:Int):Prop:=0≤n∧n < 18446744073709551616
def Z39(w:WEdit):Prop:=isI w.at_∧(0≤w.mask∧w.mask < 256)∧isW w.old∧isW w.new
mutual
def YI:Edit→Prop
 | .mk k o n w ks l os=> isI k∧rng o∧rng n∧(∀ x∈w,Z39 x)∧isI l∧Z0q ks∧Z02 os
def Z0q:List (KidOf Edit)→Prop
 | []=> True
 | k ::r=> Z1n k∧Z0q r
def Z1n:KidOf Edit→Prop
 | ⟨a,e⟩=> isI a∧YI e
def Z02:List (OpOf Edit)→Prop
 | []=> True
 | o ::r=> Yz o∧Z02 r
def Yz:OpOf Edit→Prop
 | ⟨k,n,l,e⟩=> isI k∧isI n∧Yq l∧YI e
end
def sh1(t:Tree)(n:Int):Int:=if n < 0 then n else Y4 t 80 n
mutual
def Z17:Edit→Int→Int→Int
 | .mk _ o nw w ks _ os,d,n=> if d=0∨n - 1 - w.length - os.length < 0 then -1 else Z0n os (d - 1) (Z0b ks (d - 1) (sh1 nw (Y4 o 80 (n - 1 - w.length - os.length))))
def Z0b:List (KidOf Edit)→Int→Int→Int
 | [],_,n=> n
 | k ::r,d,n=> if n < 0 then n else Z0b r d (Z3U k d n)
def Z3U:KidOf Edit→Int→Int→Int
 | ⟨_,e⟩,d,n=> Z17 e d n
def Z0n:List (OpOf Edit)→Int→Int→Int
 | [],_,n=> n
 | o ::r,d,n=> if n < 0 then n else Z0n r d (Z6o o d n)
def Z6o:OpOf Edit→Int→Int→Int
 | ⟨_,_,l,e⟩,d,n=> if ZD l 80 n < 0 then ZD l 80 n else Z17 e d (ZD l 80 n)
end
def ZZ(t:Tree):Bool:=decide (t.kind=0∧t.words.length=0∧t.kids.length=0)
def Z1g(e:Edit):Bool:=decide (e.kind=0) && ZZ e.old && ZZ e.new && decide (e.words.length=0∧e.kids.length=0∧e.ops.length=0∧e.list=0)
def Yu(w m:Int):Bool:=decide (mix w 0 m=0)
def Zs(last:Int):List WEdit→Bool
 | []=> true
 | w ::r=> decide (last < w.at_∧w.at_≤65534∧w.mask≠0) && Yu w.old w.mask && Yu w.new w.mask && Zs w.at_ r
def Z3(o:Op):Int:=if o.kind=3 then 1 else o.n+o.l.length
def Ym:List Op→Int→Int
 | [],n=> n
 | o ::r,n=> Ym r (min (if o.kind=2 then n else n+Z3 o) 1048576)
def Jb:List Op→Int→Int
 | [],n=> n
 | o ::r,n=> Jb r (min (if o.kind=1 then n else n+Z3 o) 1048576)
def JA(list:Int):List Tree→Bool
 | []=> true
 | t ::r=> Ze (.mk list [] [t]) 64 && JA list r
def dT(d:Int):Int:=if d < 0 then -1 else 64
theorem ZoL{d:Int}(h:0≤d):dT d=64:=by unfold dT;rw [if_neg (by omega)]
theorem Zf6{d:Int}(h:d < 0):dT d= -1:=by unfold dT;rw [if_pos h]
theorem ZzK(d:Int):dT d≠0:=by unfold dT;split <;> decide
def YH(D list:Int):List Tree→Bool
 | []=> true
 | t ::r=> Ze (.mk list [] [t]) D && YH D list r
theorem ZaD(list:Int):∀ l:List Tree,YH 64 list l=JA list l
 | []=> rfl
 | t ::r=> by simp only [YH,JA,ZaD list r]
mutual
def Z2:Edit→Int→Bool
 | .mk k o n w ks l os,d=>
  if d=0∨k < 0∨3 < k then false
  else if (k≠1∧¬(ZZ o=true∧ZZ n=true))∨(k≠2∧¬(w.length=0∧ks.length=0))∨(k≠3∧(l≠0∨os.length≠0)) then false
  else if k=1 then Ze o (dT d) && Ze n (dT d) && decide (o.kind≠10∧n.kind≠10)
  else Zs (-1) w && Zx (-1) ks (d - 1) && decide (¬(k=3∧(l < 2∨9 < l))) && Zp l os (d - 1) && decide (Ym os 0 < 1048576∧Jb os 0 < 1048576)
def Zx(last:Int):List (KidOf Edit)→Int→Bool
 | [],_=> true
 | k ::r,d=> YT last k d && Zx k.at_ r d
def YT(last:Int):KidOf Edit→Int→Bool
 | ⟨a,e⟩,d=> decide (last < a∧a≤65534∧e.kind≠0) && Z2 e d
def Zp(list:Int):List (OpOf Edit)→Int→Bool
 | [],_=> true
 | o ::r,d=> Zc list o d && Zp list r d
def Zc(list:Int):OpOf Edit→Int→Bool
 | ⟨k,n,l,e⟩,d=>
  if k=0 then decide (1≤n∧n≤1048576∧l.length=0) && Z1g e
  else if n≠0∨k < 0∨3 < k then false
  else if k < 3 then YH (dT d) list l && decide (0 < l.length) && Z1g e
  else decide (l.length=0∧e.kind≠0∧7 < list) && Z2 e d && decide (list=8∨e.kind=2∨e.kind=1∧e.old.kind=1∧e.new.kind=1)
end
mutual
def ctE:Edit→Nat
 | .mk _ o n w ks _ os=> 16+Zu o+Zu n+65600*w.length+Z0L ks+J7 os
def Z0L:List (KidOf Edit)→Nat
 | []=> 0
 | k ::r=> Z4P k+Z0L r
def Z4P:KidOf Edit→Nat
 | ⟨_,e⟩=> 65600+ctE e
def J7:List (OpOf Edit)→Nat
 | []=> 0
 | o ::r=> Z3t o+J7 r
def Z3t:OpOf Edit→Nat
 | ⟨_,_,l,e⟩=> 16+Zh l+ctE e
end
theorem Z5w(e:Edit):ctE e=16+Zu e.old+Zu e.new+65600*e.words.length+Z0L e.kids+J7 e.ops:=by cases e;rfl
theorem Z4O(k:Kid):Z4P k=65600+ctE k.e:=by cases k;rfl
theorem Z5v(o:Op):Z3t o=16+Zh o.l+ctE o.e:=by cases o;rfl
theorem ZkB:∀ {ks:List Kid} {k:Kid},k∈ks→ctE k.e+65600≤Z0L ks
 | a ::r,k,h=> by
  rcases List.mem_cons.1 h with rfl | h
  ·simp only [Z0L,Z4O];omega
  ·have:=ZkB h;simp only [Z0L];omega
theorem Zf8:∀ {os:List Op} {o:Op},o∈os→ctE o.e+Zh o.l+16≤J7 os
 | a ::r,o,h=> by
  rcases List.mem_cons.1 h with rfl | h
  ·simp only [J7,Z5v];omega
  ·have:=Zf8 h;simp only [J7];omega
theorem Zk5(t:Tree):1≤Zu t:=by obtain ⟨k,w,ks⟩:=t;simp only [Zu];omega
mutual
theorem ZcQ:∀ (e:Edit),Z9 e≤ctE e
 | .mk k o n w ks l os=> by
  have h1:=Z7d ks
  have h2:os.length+Zg os≤J7 os:=Z4t os
  simp only [Z9,ctE]
  omega
theorem Z7d:∀ (ks:List (KidOf Edit)),Zq ks≤Z0L ks
 | []=> Nat.le_refl _
 | k ::r=> by
  have h1:=ZlM k
  have h2:=Z7d r
  simp only [Zq,Z0L]
  omega
theorem ZlM:∀ (k:KidOf Edit),Yd k≤Z4P k
 | ⟨a,e⟩=> by
  have:=ZcQ e
  simp only [Yd,Z4P]
  omega
theorem Z4t:∀ (os:List (OpOf Edit)),os.length+Zg os≤J7 os
 | []=> Nat.le_refl _
 | o ::r=> by
  have h1:=Zqv o
  have h2:=Z4t r
  simp only [Zg,J7,List.length_cons]
  omega
theorem Zqv:∀ (o:OpOf Edit),Zw o+1≤Z3t o
 | ⟨k,n,l,e⟩=> by
  have:=ZcQ e
  simp only [Zw,Z3t]
  omega
end
mutual
def YL:Edit→Bool
 | .mk _ _ _ _ ks _ os=> decide (Ym os 0≤2000∧Jb os 0≤2000) && JF ks && Y5 os
def JF:List (KidOf Edit)→Bool
 | []=> true
 | k ::r=> Zkh k && JF r
def Zkh:KidOf Edit→Bool
 | ⟨_,e⟩=> YL e
def Y5:List (OpOf Edit)→Bool
 | []=> true
 | o ::r=> Z9U o && Y5 r
def Z9U:OpOf Edit→Bool
 | ⟨_,_,_,e⟩=> YL e
end
def Z0J(e:Edit):Bool:=decide (0≤Z17 e 80 3000) && Z2 e 64 && YL e
end Go.AM
