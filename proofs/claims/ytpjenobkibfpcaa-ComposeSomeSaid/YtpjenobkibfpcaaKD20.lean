import Derived.Test.YtpjenobkibfpcaaKD07
set_option linter.unusedSimpArgs false
set_option linter.unusedVariables false
namespace Go.AM
def Zd(w:Int)(i:Nat):Int:=w / 256 ^ i % 256
def YC(m:Int)(i:Int):Bool:=decide (m / 2 ^ i.toNat % 2=1)
def of8(f:Nat→Int):Int:=f 0+256*(f 1+256*(f 2+256*(f 3+256*(f 4+256*(f 5+256*(f 6+256*f 7))))))
def Yx(a b m:Int)(i:Nat):Int:=if YC m i then Zd b i else Zd a i
def mix(a b m:Int):Int:=of8 (Yx a b m)
mutual
def Zc:Edit→Nat
 | .mk _ o n w ks _ os=> 1+Zq o+Zq n+w.length+os.length+Zw ks+Zs os
def Zw:List (KidOf Edit)→Nat
 | []=> 0
 | k ::r=> YQ k+Zw r
def YQ:KidOf Edit→Nat
 | ⟨_,e⟩=> Zc e
def Zs:List (OpOf Edit)→Nat
 | []=> 0
 | o ::r=> Zx o+Zs r
def Zx:OpOf Edit→Nat
 | ⟨_,_,l,e⟩=> Zg l+Zc e
end
mutual
def Z2r:Edit→Prop
 | .mk _ o n w ks _ os=> JK o∧JK n∧w.length≤17592186044416∧ks.length≤17592186044416∧os.length≤17592186044416∧Z66 ks∧Z65 os
def Z66:List (KidOf Edit)→Prop
 | []=> True
 | k ::r=> ZgJ k∧Z66 r
def ZgJ:KidOf Edit→Prop
 | ⟨_,e⟩=> Z2r e
def Z65:List (OpOf Edit)→Prop
 | []=> True
 | o ::r=> Zk0 o∧Z65 r
def Zk0:OpOf Edit→Prop
 | ⟨_,_,l,e⟩=> l.length≤17592186044416∧JQ l∧Z2r e
end
def isI(n:Int):Prop:= -9223372036854775808≤n∧n≤9223372036854775807
def isW(n:Int):Prop:=0≤n∧n < 18446744073709551616
def Z1s(w:WEdit):Prop:=isI w.at_∧(0≤w.mask∧w.mask < 256)∧isW w.old∧isW w.new
mutual
def ZS:Edit→Prop
 | .mk k o n w ks l os=> isI k∧rng o∧rng n∧(∀ x∈w,Z1s x)∧isI l∧JT ks∧JL os
def JT:List (KidOf Edit)→Prop
 | []=> True
 | k ::r=> Z0F k∧JT r
def Z0F:KidOf Edit→Prop
 | ⟨a,e⟩=> isI a∧ZS e
def JL:List (OpOf Edit)→Prop
 | []=> True
 | o ::r=> YA o∧JL r
def YA:OpOf Edit→Prop
 | ⟨k,n,l,e⟩=> isI k∧isI n∧Yb l∧ZS e
end
def sh1(t:Tree)(n:Int):Int:=if n < 0 then n else ZH t 80 n
mutual
def Z0Q:Edit→Int→Int→Int
 | .mk _ o nw w ks _ os,d,n=> if d=0∨n - 1 - w.length - os.length < 0 then -1 else Z0e os (d - 1) (JZ ks (d - 1) (sh1 nw (ZH o 80 (n - 1 - w.length - os.length))))
def JZ:List (KidOf Edit)→Int→Int→Int
 | [],_,n=> n
 | k ::r,d,n=> if n < 0 then n else JZ r d (Z3k k d n)
def Z3k:KidOf Edit→Int→Int→Int
 | ⟨_,e⟩,d,n=> Z0Q e d n
def Z0e:List (OpOf Edit)→Int→Int→Int
 | [],_,n=> n
 | o ::r,d,n=> if n < 0 then n else Z0e r d (Z5L o d n)
def Z5L:OpOf Edit→Int→Int→Int
 | ⟨_,_,l,e⟩,d,n=> if Zy l 80 n < 0 then Zy l 80 n else Z0Q e d (Zy l 80 n)
end
def ZT(t:Tree):Bool:=decide (t.kind=0∧t.words.length=0∧t.kids.length=0)
def Z0V(e:Edit):Bool:=decide (e.kind=0) && ZT e.old && ZT e.new && decide (e.words.length=0∧e.kids.length=0∧e.ops.length=0∧e.list=0)
def ZK(w m:Int):Bool:=decide (mix w 0 m=0)
def Zk(last:Int):List WEdit→Bool
 | []=> true
 | w ::r=> decide (last < w.at_∧w.at_≤65534∧w.mask≠0) && ZK w.old w.mask && ZK w.new w.mask && Zk w.at_ r
def Z2(o:Op):Int:=if o.kind=3 then 1 else o.n+o.l.length
def Z0d:List Op→Int→Int
 | [],n=> n
 | o ::r,n=> Z0d r (min (if o.kind=2 then n else n+Z2 o) 1048576)
def Z0c:List Op→Int→Int
 | [],n=> n
 | o ::r,n=> Z0c r (min (if o.kind=1 then n else n+Z2 o) 1048576)
def Jr(list:Int):List Tree→Bool
 | []=> true
 | t ::r=> Z9 (.mk list [] [t]) 64 && Jr list r
def dT(d:Int):Int:=if d < 0 then -1 else 64
theorem Zlp{d:Int}(h:0≤d):dT d=64:=by unfold dT;rw [if_neg (by omega)]
theorem Zd6{d:Int}(h:d < 0):dT d= -1:=by unfold dT;rw [if_pos h]
theorem ZuK(d:Int):dT d≠0:=by unfold dT;split <;> decide
def Yn(D list:Int):List Tree→Bool
 | []=> true
 | t ::r=> Z9 (.mk list [] [t]) D && Yn D list r
theorem Z9a(list:Int):∀ l:List Tree,Yn 64 list l=Jr list l
 | []=> rfl
 | t ::r=> by simp only [Yn,Jr,Z9a list r]
mutual
def Z0:Edit→Int→Bool
 | .mk k o n w ks l os,d=>
  if d=0∨k < 0∨3 < k then false
  else if (k≠1∧¬(ZT o=true∧ZT n=true))∨(k≠2∧¬(w.length=0∧ks.length=0))∨(k≠3∧(l≠0∨os.length≠0)) then false
  else if k=1 then Z9 o (dT d) && Z9 n (dT d) && decide (o.kind≠10∧n.kind≠10)
  else Zk (-1) w && Zr (-1) ks (d - 1) && decide (¬(k=3∧(l < 2∨9 < l))) && Zt l os (d - 1) && decide (Z0d os 0 < 1048576∧Z0c os 0 < 1048576)
def Zr(last:Int):List (KidOf Edit)→Int→Bool
 | [],_=> true
 | k ::r,d=> YY last k d && Zr k.at_ r d
def YY(last:Int):KidOf Edit→Int→Bool
 | ⟨a,e⟩,d=> decide (last < a∧a≤65534∧e.kind≠0) && Z0 e d
def Zt(list:Int):List (OpOf Edit)→Int→Bool
 | [],_=> true
 | o ::r,d=> Za list o d && Zt list r d
def Za(list:Int):OpOf Edit→Int→Bool
 | ⟨k,n,l,e⟩,d=>
  if k=0 then decide (1≤n∧n≤1048576∧l.length=0) && Z0V e
  else if n≠0∨k < 0∨3 < k then false
  else if k < 3 then Yn (dT d) list l && decide (0 < l.length) && Z0V e
  else decide (l.length=0∧e.kind≠0∧7 < list) && Z0 e d && decide (list=8∨e.kind=2∨e.kind=1∧e.old.kind=1∧e.new.kind=1)
end
mutual
def ctE:Edit→Nat
 | .mk _ o n w ks _ os=> 16+Zq o+Zq n+65600*w.length+Z0i ks+YS os
def Z0i:List (KidOf Edit)→Nat
 | []=> 0
 | k ::r=> Z2X k+Z0i r
def Z2X:KidOf Edit→Nat
 | ⟨_,e⟩=> 65600+ctE e
def YS:List (OpOf Edit)→Nat
 | []=> 0
 | o ::r=> Z1Y o+YS r
def Z1Y:OpOf Edit→Nat
 | ⟨_,_,l,e⟩=> 16+Zg l+ctE e
end
theorem Z3E(e:Edit):ctE e=16+Zq e.old+Zq e.new+65600*e.words.length+Z0i e.kids+YS e.ops:=by cases e;rfl
theorem Z2W(k:Kid):Z2X k=65600+ctE k.e:=by cases k;rfl
theorem Z3m(o:Op):Z1Y o=16+Zg o.l+ctE o.e:=by cases o;rfl
theorem Zi0:∀ {ks:List Kid} {k:Kid},k∈ks→ctE k.e+65600≤Z0i ks
 | a ::r,k,h=> by
  rcases List.mem_cons.1 h with rfl | h
  ·simp only [Z0i,Z2W];omega
  ·have:=Zi0 h;simp only [Z0i];omega
theorem Zd8:∀ {os:List Op} {o:Op},o∈os→ctE o.e+Zg o.l+16≤YS os
 | a ::r,o,h=> by
  rcases List.mem_cons.1 h with rfl | h
  ·simp only [YS,Z3m];omega
  ·have:=Zd8 h;simp only [YS];omega
theorem Zhu(t:Tree):1≤Zq t:=by obtain ⟨k,w,ks⟩:=t;simp only [Zq];omega
mutual
theorem Z8o:∀ (e:Edit),Zc e≤ctE e
 | .mk k o n w ks l os=> by
  have h1:=Z6l ks
  have h2:os.length+Zs os≤YS os:=Z3Y os
  simp only [Zc,ctE]
  omega
theorem Z6l:∀ (ks:List (KidOf Edit)),Zw ks≤Z0i ks
 | []=> Nat.le_refl _
 | k ::r=> by
  have h1:=ZiW k
  have h2:=Z6l r
  simp only [Zw,Z0i]
  omega
theorem ZiW:∀ (k:KidOf Edit),YQ k≤Z2X k
 | ⟨a,e⟩=> by
  have:=Z8o e
  simp only [YQ,Z2X]
  omega
theorem Z3Y:∀ (os:List (OpOf Edit)),os.length+Zs os≤YS os
 | []=> Nat.le_refl _
 | o ::r=> by
  have h1:=ZmU o
  have h2:=Z3Y r
  simp only [Zs,YS,List.length_cons]
  omega
theorem ZmU:∀ (o:OpOf Edit),Zx o+1≤Z1Y o
 | ⟨k,n,l,e⟩=> by
  have:=Z8o e
  simp only [Zx,Z1Y]
  omega
end
mutual
theorem Zbh:∀ (e:Edit),ctE e+131100≤65600*Zc e
 | .mk k o n w ks l os=> by
  have h1:=Zez ks
  have h2:=Zey os
  have:=Zhu o
  have:=Zhu n
  simp only [Zc,ctE]
  omega
theorem Zez:∀ (ks:List (KidOf Edit)),Z0i ks≤65600*Zw ks
 | []=> Nat.le_refl _
 | k ::r=> by
  have h1:=Zjq k
  have h2:=Zez r
  simp only [Zw,Z0i]
  omega
theorem Zjq:∀ (k:KidOf Edit),Z2X k≤65600*YQ k
 | ⟨a,e⟩=> by
  have:=Zbh e
  simp only [YQ,Z2X]
  omega
theorem Zey:∀ (os:List (OpOf Edit)),YS os≤65600*(os.length+Zs os)
 | []=> Nat.le_refl _
 | o ::r=> by
  have h1:=Znm o
  have h2:=Zey r
  simp only [Zs,YS,List.length_cons]
  omega
theorem Znm:∀ (o:OpOf Edit),Z1Y o≤65600*(Zx o+1)
 | ⟨k,n,l,e⟩=> by
  have:=Zbh e
  simp only [Zx,Z1Y]
  omega
end
mutual
def Z0O:Edit→Bool
 | .mk _ _ _ _ ks _ os=> decide (Z0d os 0≤2000∧Z0c os 0≤2000) && Z1T ks && Z3j os
def Z1T:List (KidOf Edit)→Bool
 | []=> true
 | k ::r=> ZhC k && Z1T r
def ZhC:KidOf Edit→Bool
 | ⟨_,e⟩=> Z0O e
def Z3j:List (OpOf Edit)→Bool
 | []=> true
 | o ::r=> ZkT o && Z3j r
def ZkT:OpOf Edit→Bool
 | ⟨_,_,_,e⟩=> Z0O e
end
def Z0u(e:Edit):Bool:=decide (0≤Z0Q e 80 3000) && Z0 e 64 && Z0O e
end Go.AM
