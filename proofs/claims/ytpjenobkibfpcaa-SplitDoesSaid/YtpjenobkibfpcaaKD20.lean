import Derived.Test.YtpjenobkibfpcaaKD07
set_option linter.unusedSimpArgs false
set_option linter.unusedVariables false
namespace Go.AM
def Zd(w:Int)(i:Nat):Int:=w / 256 ^ i % 256
def JY(m:Int)(i:Int):Bool:=decide (m / 2 ^ i.toNat % 2=1)
def of8(f:Nat→Int):Int:=f 0+256*(f 1+256*(f 2+256*(f 3+256*(f 4+256*(f 5+256*(f 6+256*f 7))))))
def YU(a b m:Int)(i:Nat):Int:=if JY m i then Zd b i else Zd a i
def mix(a b m:Int):Int:=of8 (YU a b m)
mutual
def Z6:Edit→Nat
 | .mk _ o n w ks _ os=> 1+Zk o+Zk n+w.length+os.length+Zi ks+Zc os
def Zi:List (KidOf Edit)→Nat
 | []=> 0
 | k ::r=> ZO k+Zi r
def ZO:KidOf Edit→Nat
 | ⟨_,e⟩=> Z6 e
def Zc:List (OpOf Edit)→Nat
 | []=> 0
 | o ::r=> Zn o+Zc r
def Zn:OpOf Edit→Nat
 | ⟨_,_,l,e⟩=> Za l+Z6 e
end
mutual
def Z2W:Edit→Prop
 | .mk _ o n w ks _ os=> Z28 o∧Z28 n∧w.length≤17592186044416∧ks.length≤17592186044416∧os.length≤17592186044416∧Z5s ks∧Z5r os
def Z5s:List (KidOf Edit)→Prop
 | []=> True
 | k ::r=> Zg2 k∧Z5s r
def Zg2:KidOf Edit→Prop
 | ⟨_,e⟩=> Z2W e
def Z5r:List (OpOf Edit)→Prop
 | []=> True
 | o ::r=> Zjj o∧Z5r r
def Zjj:OpOf Edit→Prop
 | ⟨_,_,l,e⟩=> l.length≤17592186044416∧Z27 l∧Z2W e
end
def isI(n:Int):Prop:= -9223372036854775808≤n∧n≤9223372036854775807
def isW(n:Int):Prop:=0≤n∧n < 18446744073709551616
def Z2w(w:WEdit):Prop:=isI w.at_∧(0≤w.mask∧w.mask < 256)∧isW w.old∧isW w.new
mutual
def Ym:Edit→Prop
 | .mk k o n w ks l os=> isI k∧rng o∧rng n∧(∀ x∈w,Z2w x)∧isI l∧Z0k ks∧JC os
def Z0k:List (KidOf Edit)→Prop
 | []=> True
 | k ::r=> Z0Z k∧Z0k r
def Z0Z:KidOf Edit→Prop
 | ⟨a,e⟩=> isI a∧Ym e
def JC:List (OpOf Edit)→Prop
 | []=> True
 | o ::r=> Yb o∧JC r
def Yb:OpOf Edit→Prop
 | ⟨k,n,l,e⟩=> isI k∧isI n∧Y7 l∧Ym e
end
def sh1(t:Tree)(n:Int):Int:=if n < 0 then n else ZC t 80 n
mutual
def Z0E:Edit→Int→Int→Int
 | .mk _ o nw w ks _ os,d,n=> if d=0∨n - 1 - w.length - os.length < 0 then -1 else Z01 os (d - 1) (JL ks (d - 1) (sh1 nw (ZC o 80 (n - 1 - w.length - os.length))))
def JL:List (KidOf Edit)→Int→Int→Int
 | [],_,n=> n
 | k ::r,d,n=> if n < 0 then n else JL r d (Z2R k d n)
def Z2R:KidOf Edit→Int→Int→Int
 | ⟨_,e⟩,d,n=> Z0E e d n
def Z01:List (OpOf Edit)→Int→Int→Int
 | [],_,n=> n
 | o ::r,d,n=> if n < 0 then n else Z01 r d (Z51 o d n)
def Z51:OpOf Edit→Int→Int→Int
 | ⟨_,_,l,e⟩,d,n=> if Zv l 80 n < 0 then Zv l 80 n else Z0E e d (Zv l 80 n)
end
def J7(t:Tree):Bool:=decide (t.kind=0∧t.words.length=0∧t.kids.length=0)
def Z1v(e:Edit):Bool:=decide (e.kind=0) && J7 e.old && J7 e.new && decide (e.words.length=0∧e.kids.length=0∧e.ops.length=0∧e.list=0)
def Yl(w m:Int):Bool:=decide (mix w 0 m=0)
def ZI(last:Int):List WEdit→Bool
 | []=> true
 | w ::r=> decide (last < w.at_∧w.at_≤65534∧w.mask≠0) && Yl w.old w.mask && Yl w.new w.mask && ZI w.at_ r
def Z0(o:Op):Int:=if o.kind=3 then 1 else o.n+o.l.length
def Yj:List Op→Int→Int
 | [],n=> n
 | o ::r,n=> Yj r (min (if o.kind=2 then n else n+Z0 o) 1048576)
def Jk:List Op→Int→Int
 | [],n=> n
 | o ::r,n=> Jk r (min (if o.kind=1 then n else n+Z0 o) 1048576)
def Z3H(list:Int):List Tree→Bool
 | []=> true
 | t ::r=> Ze (.mk list [] [t]) 64 && Z3H list r
def dT(d:Int):Int:=if d < 0 then -1 else 64
theorem Ztr{d:Int}(h:0≤d):dT d=64:=by unfold dT;rw [if_neg (by omega)]
theorem ZcA{d:Int}(h:d < 0):dT d= -1:=by unfold dT;rw [if_pos h]
theorem Zts(d:Int):dT d≠0:=by unfold dT;split <;> decide
def Yg(D list:Int):List Tree→Bool
 | []=> true
 | t ::r=> Ze (.mk list [] [t]) D && Yg D list r
theorem Zdc(list:Int):∀ l:List Tree,Yg 64 list l=Z3H list l
 | []=> rfl
 | t ::r=> by simp only [Yg,Z3H,Zdc list r]
mutual
def Z4:Edit→Int→Bool
 | .mk k o n w ks l os,d=>
  if d=0∨k < 0∨3 < k then false
  else if (k≠1∧¬(J7 o=true∧J7 n=true))∨(k≠2∧¬(w.length=0∧ks.length=0))∨(k≠3∧(l≠0∨os.length≠0)) then false
  else if k=1 then Ze o (dT d) && Ze n (dT d) && decide (o.kind≠10∧n.kind≠10)
  else ZI (-1) w && Zu (-1) ks (d - 1) && decide (¬(k=3∧(l < 2∨9 < l))) && Zq l os (d - 1) && decide (Yj os 0 < 1048576∧Jk os 0 < 1048576)
def Zu(last:Int):List (KidOf Edit)→Int→Bool
 | [],_=> true
 | k ::r,d=> Yx last k d && Zu k.at_ r d
def Yx(last:Int):KidOf Edit→Int→Bool
 | ⟨a,e⟩,d=> decide (last < a∧a≤65534∧e.kind≠0) && Z4 e d
def Zq(list:Int):List (OpOf Edit)→Int→Bool
 | [],_=> true
 | o ::r,d=> Z7 list o d && Zq list r d
def Z7(list:Int):OpOf Edit→Int→Bool
 | ⟨k,n,l,e⟩,d=>
  if k=0 then decide (1≤n∧n≤1048576∧l.length=0) && Z1v e
  else if n≠0∨k < 0∨3 < k then false
  else if k < 3 then Yg (dT d) list l && decide (0 < l.length) && Z1v e
  else decide (l.length=0∧e.kind≠0∧7 < list) && Z4 e d && decide (list=8∨e.kind=2∨e.kind=1∧e.old.kind=1∧e.new.kind=1)
end
mutual
def ctE:Edit→Nat
 | .mk _ o n w ks _ os=> 16+Zk o+Zk n+65600*w.length+Z03 ks+YA os
def Z03:List (KidOf Edit)→Nat
 | []=> 0
 | k ::r=> Z2u k+Z03 r
def Z2u:KidOf Edit→Nat
 | ⟨_,e⟩=> 65600+ctE e
def YA:List (OpOf Edit)→Nat
 | []=> 0
 | o ::r=> Z1u o+YA r
def Z1u:OpOf Edit→Nat
 | ⟨_,_,l,e⟩=> 16+Za l+ctE e
end
theorem Z4a(e:Edit):ctE e=16+Zk e.old+Zk e.new+65600*e.words.length+Z03 e.kids+YA e.ops:=by cases e;rfl
theorem Z3A(k:Kid):Z2u k=65600+ctE k.e:=by cases k;rfl
theorem Z49(o:Op):Z1u o=16+Za o.l+ctE o.e:=by cases o;rfl
theorem Zhq:∀ {ks:List Kid} {k:Kid},k∈ks→ctE k.e+65600≤Z03 ks
 | a ::r,k,h=> by
  rcases List.mem_cons.1 h with rfl | h
  ·simp only [Z03,Z3A];omega
  ·have:=Zhq h;simp only [Z03];omega
theorem ZcC:∀ {os:List Op} {o:Op},o∈os→ctE o.e+Za o.l+16≤YA os
 | a ::r,o,h=> by
  rcases List.mem_cons.1 h with rfl | h
  ·simp only [YA,Z49];omega
  ·have:=ZcC h;simp only [YA];omega
theorem Z7P(t:Tree):1≤Zk t:=by obtain ⟨k,w,ks⟩:=t;simp only [Zk];omega
mutual
theorem ZaD:∀ (e:Edit),Z6 e≤ctE e
 | .mk k o n w ks l os=> by
  have h1:=Z5M ks
  have h2:os.length+Zc os≤YA os:=Z3k os
  simp only [Z6,ctE]
  omega
theorem Z5M:∀ (ks:List (KidOf Edit)),Zi ks≤Z03 ks
 | []=> Nat.le_refl _
 | k ::r=> by
  have h1:=Zii k
  have h2:=Z5M r
  simp only [Zi,Z03]
  omega
theorem Zii:∀ (k:KidOf Edit),ZO k≤Z2u k
 | ⟨a,e⟩=> by
  have:=ZaD e
  simp only [ZO,Z2u]
  omega
theorem Z3k:∀ (os:List (OpOf Edit)),os.length+Zc os≤YA os
 | []=> Nat.le_refl _
 | o ::r=> by
  have h1:=ZlW o
  have h2:=Z3k r
  simp only [Zc,YA,List.length_cons]
  omega
theorem ZlW:∀ (o:OpOf Edit),Zn o+1≤Z1u o
 | ⟨k,n,l,e⟩=> by
  have:=ZaD e
  simp only [Zn,Z1u]
  omega
end
mutual
theorem ZaI:∀ (e:Edit),ctE e+131100≤65600*Z6 e
 | .mk k o n w ks l os=> by
  have h1:=Ze8 ks
  have h2:=Ze7 os
  have:=Z7P o
  have:=Z7P n
  simp only [Z6,ctE]
  omega
theorem Ze8:∀ (ks:List (KidOf Edit)),Z03 ks≤65600*Zi ks
 | []=> Nat.le_refl _
 | k ::r=> by
  have h1:=ZiQ k
  have h2:=Ze8 r
  simp only [Zi,Z03]
  omega
theorem ZiQ:∀ (k:KidOf Edit),Z2u k≤65600*ZO k
 | ⟨a,e⟩=> by
  have:=ZaI e
  simp only [ZO,Z2u]
  omega
theorem Ze7:∀ (os:List (OpOf Edit)),YA os≤65600*(os.length+Zc os)
 | []=> Nat.le_refl _
 | o ::r=> by
  have h1:=Zmk o
  have h2:=Ze7 r
  simp only [Zc,YA,List.length_cons]
  omega
theorem Zmk:∀ (o:OpOf Edit),Z1u o≤65600*(Zn o+1)
 | ⟨k,n,l,e⟩=> by
  have:=ZaI e
  simp only [Zn,Z1u]
  omega
end
mutual
def Yq:Edit→Bool
 | .mk _ _ _ _ ks _ os=> decide (Yj os 0≤2000∧Jk os 0≤2000) && Jg ks && ZP os
def Jg:List (KidOf Edit)→Bool
 | []=> true
 | k ::r=> Zh3 k && Jg r
def Zh3:KidOf Edit→Bool
 | ⟨_,e⟩=> Yq e
def ZP:List (OpOf Edit)→Bool
 | []=> true
 | o ::r=> Z7V o && ZP r
def Z7V:OpOf Edit→Bool
 | ⟨_,_,_,e⟩=> Yq e
end
def Z06(e:Edit):Bool:=decide (0≤Z0E e 80 3000) && Z4 e 64 && Yq e
end Go.AM
