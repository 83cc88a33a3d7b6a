import Derived.Test.YtpjenobkibfpcaaKD07
set_option linter.unusedSimpArgs false
set_option linter.unusedVariables false
namespace Go.AM
def Zi(w:Int)(i:Nat):Int:=w / 256 ^ i % 256
def ZaQ(m:Int)(i:Int):Bool:=decide (m / 2 ^ i.toNat % 2=1)
def of8(f:Nat→Int):Int:=f 0+256*(f 1+256*(f 2+256*(f 3+256*(f 4+256*(f 5+256*(f 6+256*f 7))))))
def YB(a b m:Int)(i:Nat):Int:=if ZaQ m i then Zi b i else Zi a i
def mix(a b m:Int):Int:=of8 (YB a b m)
mutual
def Ze:Edit→Nat
 | .mk _ o n w ks _ os=> 1+Zg o+Zg n+w.length+os.length+ZK ks+Zf os
def ZK:List (KidOf Edit)→Nat
 | []=> 0
 | k ::r=> Js k+ZK r
def Js:KidOf Edit→Nat
 | ⟨_,e⟩=> Ze e
def Zf:List (OpOf Edit)→Nat
 | []=> 0
 | o ::r=> ZW o+Zf r
def ZW:OpOf Edit→Nat
 | ⟨_,_,l,e⟩=> Za l+Ze e
end
mutual
def Z1J:Edit→Prop
 | .mk _ o n w ks _ os=> Z0Y o∧Z0Y n∧w.length≤17592186044416∧ks.length≤17592186044416∧os.length≤17592186044416∧Z3N ks∧Z3M os
def Z3N:List (KidOf Edit)→Prop
 | []=> True
 | k ::r=> ZcF k∧Z3N r
def ZcF:KidOf Edit→Prop
 | ⟨_,e⟩=> Z1J e
def Z3M:List (OpOf Edit)→Prop
 | []=> True
 | o ::r=> ZfT o∧Z3M r
def ZfT:OpOf Edit→Prop
 | ⟨_,_,l,e⟩=> l.length≤17592186044416∧Z0X l∧Z1J e
end
def isI(n:Int):Prop:= -9223372036854775808≤n∧n≤9223372036854775807
def isW(n:Int):Prop:=0≤n∧n < 18446744073709551616
def ZjC(w:WEdit):Prop:=isI w.at_∧(0≤w.mask∧w.mask < 256)∧isW w.old∧isW w.new
mutual
def ZL:Edit→Prop
 | .mk k o n w ks l os=> isI k∧rng o∧rng n∧(∀ x∈w,ZjC x)∧isI l∧Z1x ks∧Z1w os
def Z1x:List (KidOf Edit)→Prop
 | []=> True
 | k ::r=> Z4E k∧Z1x r
def Z4E:KidOf Edit→Prop
 | ⟨a,e⟩=> isI a∧ZL e
def Z1w:List (OpOf Edit)→Prop
 | []=> True
 | o ::r=> JI o∧Z1w r
def JI:OpOf Edit→Prop
 | ⟨k,n,l,e⟩=> isI k∧isI n∧ZO l∧ZL e
end
def sh1(t:Tree)(n:Int):Int:=if n < 0 then n else Zw t 80 n
mutual
def Jw:Edit→Int→Int→Int
 | .mk _ o nw w ks _ os,d,n=> if d=0∨n - 1 - w.length - os.length < 0 then -1 else J2 os (d - 1) (YR ks (d - 1) (sh1 nw (Zw o 80 (n - 1 - w.length - os.length))))
def YR:List (KidOf Edit)→Int→Int→Int
 | [],_,n=> n
 | k ::r,d,n=> if n < 0 then n else YR r d (Z1E k d n)
def Z1E:KidOf Edit→Int→Int→Int
 | ⟨_,e⟩,d,n=> Jw e d n
def J2:List (OpOf Edit)→Int→Int→Int
 | [],_,n=> n
 | o ::r,d,n=> if n < 0 then n else J2 r d (Z3t o d n)
def Z3t:OpOf Edit→Int→Int→Int
 | ⟨_,_,l,e⟩,d,n=> if Zq l 80 n < 0 then Zq l 80 n else Jw e d (Zq l 80 n)
end
def ZH(t:Tree):Bool:=decide (t.kind=0∧t.words.length=0∧t.kids.length=0)
def JH(e:Edit):Bool:=decide (e.kind=0) && ZH e.old && ZH e.new && decide (e.words.length=0∧e.kids.length=0∧e.ops.length=0∧e.list=0)
def JY(w m:Int):Bool:=decide (mix w 0 m=0)
def Zs(last:Int):List WEdit→Bool
 | []=> true
 | w ::r=> decide (last < w.at_∧w.at_≤65534∧w.mask≠0) && JY w.old w.mask && JY w.new w.mask && Zs w.at_ r
def Zn(o:Op):Int:=if o.kind=3 then 1 else o.n+o.l.length
def JG:List Op→Int→Int
 | [],n=> n
 | o ::r,n=> JG r (min (if o.kind=2 then n else n+Zn o) 1048576)
def JF:List Op→Int→Int
 | [],n=> n
 | o ::r,n=> JF r (min (if o.kind=1 then n else n+Zn o) 1048576)
def Yw(list:Int):List Tree→Bool
 | []=> true
 | t ::r=> Z9 (.mk list [] [t]) 64 && Yw list r
def dT(d:Int):Int:=if d < 0 then -1 else 64
theorem Zh3{d:Int}(h:0≤d):dT d=64:=by unfold dT;rw [if_neg (by omega)]
theorem Zpc(d:Int):dT d≠0:=by unfold dT;split <;> decide
def Yo(D list:Int):List Tree→Bool
 | []=> true
 | t ::r=> Z9 (.mk list [] [t]) D && Yo D list r
theorem Z6s(list:Int):∀ l:List Tree,Yo 64 list l=Yw list l
 | []=> rfl
 | t ::r=> by simp only [Yo,Yw,Z6s list r]
mutual
def Z3:Edit→Int→Bool
 | .mk k o n w ks l os,d=>
  if d=0∨k < 0∨3 < k then false
  else if (k≠1∧¬(ZH o=true∧ZH n=true))∨(k≠2∧¬(w.length=0∧ks.length=0))∨(k≠3∧(l≠0∨os.length≠0)) then false
  else if k=1 then Z9 o (dT d) && Z9 n (dT d) && decide (o.kind≠10∧n.kind≠10)
  else Zs (-1) w && Zv (-1) ks (d - 1) && decide (¬(k=3∧(l < 2∨9 < l))) && Zx l os (d - 1) && decide (JG os 0 < 1048576∧JF os 0 < 1048576)
def Zv(last:Int):List (KidOf Edit)→Int→Bool
 | [],_=> true
 | k ::r,d=> Z0a last k d && Zv k.at_ r d
def Z0a(last:Int):KidOf Edit→Int→Bool
 | ⟨a,e⟩,d=> decide (last < a∧a≤65534∧e.kind≠0) && Z3 e d
def Zx(list:Int):List (OpOf Edit)→Int→Bool
 | [],_=> true
 | o ::r,d=> Zd list o d && Zx list r d
def Zd(list:Int):OpOf Edit→Int→Bool
 | ⟨k,n,l,e⟩,d=>
  if k=0 then decide (1≤n∧n≤1048576∧l.length=0) && JH e
  else if n≠0∨k < 0∨3 < k then false
  else if k < 3 then Yo (dT d) list l && decide (0 < l.length) && JH e
  else decide (l.length=0∧e.kind≠0∧7 < list) && Z3 e d && decide (list=8∨e.kind=2∨e.kind=1∧e.old.kind=1∧e.new.kind=1)
end
mutual
def ctE:Edit→Nat
 | .mk _ o n w ks _ os=> 16+Zg o+Zg n+65600*w.length+Za2 ks+Zam os
def Za2:List (KidOf Edit)→Nat
 | []=> 0
 | k ::r=> Zh4 k+Za2 r
def Zh4:KidOf Edit→Nat
 | ⟨_,e⟩=> 65600+ctE e
def Zam:List (OpOf Edit)→Nat
 | []=> 0
 | o ::r=> ZiE o+Zam r
def ZiE:OpOf Edit→Nat
 | ⟨_,_,l,e⟩=> 16+Za l+ctE e
end
theorem Zls(e:Edit):ctE e=16+Zg e.old+Zg e.new+65600*e.words.length+Za2 e.kids+Zam e.ops:=by cases e;rfl
theorem Zlr(k:Kid):Zh4 k=65600+ctE k.e:=by cases k;rfl
theorem Zo0(o:Op):ZiE o=16+Za o.l+ctE o.e:=by cases o;rfl
theorem ZdX:∀ {ks:List Kid} {k:Kid},k∈ks→ctE k.e+65600≤Za2 ks
 | a ::r,k,h=> by
  rcases List.mem_cons.1 h with rfl | h
  ·simp only [Za2,Zlr];omega
  ·have:=ZdX h;simp only [Za2];omega
theorem ZdW:∀ {os:List Op} {o:Op},o∈os→ctE o.e+Za o.l+16≤Zam os
 | a ::r,o,h=> by
  rcases List.mem_cons.1 h with rfl | h
  ·simp only [Zam,Zo0];omega
  ·have:=ZdW h;simp only [Zam];omega
theorem Z0e(t:Tree):1≤Zg t:=by obtain ⟨k,w,ks⟩:=t;simp only [Zg];omega
mutual
theorem Z8p:∀ (e:Edit),ctE e+131100≤65600*Ze e
 | .mk k o n w ks l os=> by
  have h1:=Zb4 ks
  have h2:=Zb3 os
  have:=Z0e o
  have:=Z0e n
  simp only [Ze,ctE]
  omega
theorem Zb4:∀ (ks:List (KidOf Edit)),Za2 ks≤65600*ZK ks
 | []=> Nat.le_refl _
 | k ::r=> by
  have h1:=Zfj k
  have h2:=Zb4 r
  simp only [ZK,Za2]
  omega
theorem Zfj:∀ (k:KidOf Edit),Zh4 k≤65600*Js k
 | ⟨a,e⟩=> by
  have:=Z8p e
  simp only [Js,Zh4]
  omega
theorem Zb3:∀ (os:List (OpOf Edit)),Zam os≤65600*(os.length+Zf os)
 | []=> Nat.le_refl _
 | o ::r=> by
  have h1:=ZiD o
  have h2:=Zb3 r
  simp only [Zf,Zam,List.length_cons]
  omega
theorem ZiD:∀ (o:OpOf Edit),ZiE o≤65600*(ZW o+1)
 | ⟨k,n,l,e⟩=> by
  have:=Z8p e
  simp only [ZW,ZiE]
  omega
end
mutual
def Jv:Edit→Bool
 | .mk _ _ _ _ ks _ os=> decide (JG os 0≤2000∧JF os 0≤2000) && Z0x ks && Z1D os
def Z0x:List (KidOf Edit)→Bool
 | []=> true
 | k ::r=> Zdy k && Z0x r
def Zdy:KidOf Edit→Bool
 | ⟨_,e⟩=> Jv e
def Z1D:List (OpOf Edit)→Bool
 | []=> true
 | o ::r=> ZgG o && Z1D r
def ZgG:OpOf Edit→Bool
 | ⟨_,_,_,e⟩=> Jv e
end
def Jz(e:Edit):Bool:=decide (0≤Jw e 80 3000) && Z3 e 64 && Jv e
end Go.AM
