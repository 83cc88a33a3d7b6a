import Derived.Test.YtpjenobkibfpcaaKD07
set_option linter.unusedSimpArgs false
set_option linter.unusedVariables false
namespace Go.AM
def Zn(w:Int)(i:Nat):Int:=w / 256 ^ i % 256
def ZbZ(m:Int)(i:Int):Bool:=decide (m / 2 ^ i.toNat % 2=1)
def of8(f:Nat→Int):Int:=f 0+256*(f 1+256*(f 2+256*(f 3+256*(f 4+256*(f 5+256*(f 6+256*f 7))))))
def YS(a b m:Int)(i:Nat):Int:=if ZbZ m i then Zn b i else Zn a i
def mix(a b m:Int):Int:=of8 (YS a b m)
mutual
def Zg:Edit→Nat
 | .mk _ o n w ks _ os=> 1+Zj o+Zj n+w.length+os.length+ZN ks+Zd os
def ZN:List (KidOf Edit)→Nat
 | []=> 0
 | k ::r=> JN k+ZN r
def JN:KidOf Edit→Nat
 | ⟨_,e⟩=> Zg e
def Zd:List (OpOf Edit)→Nat
 | []=> 0
 | o ::r=> ZX o+Zd r
def ZX:OpOf Edit→Nat
 | ⟨_,_,l,e⟩=> Zb l+Zg e
end
mutual
def Z27:Edit→Prop
 | .mk _ o n w ks _ os=> Z1n o∧Z1n n∧w.length≤17592186044416∧ks.length≤17592186044416∧os.length≤17592186044416∧Z4A ks∧Z4z os
def Z4A:List (KidOf Edit)→Prop
 | []=> True
 | k ::r=> ZdV k∧Z4A r
def ZdV:KidOf Edit→Prop
 | ⟨_,e⟩=> Z27 e
def Z4z:List (OpOf Edit)→Prop
 | []=> True
 | o ::r=> Zhx o∧Z4z r
def Zhx:OpOf Edit→Prop
 | ⟨_,_,l,e⟩=> l.length≤17592186044416∧Z1m l∧Z27 e
end
def isI(n:Int):Prop:= -9223372036854775808≤n∧n≤9223372036854775807
def isW(n:Int):Prop:=0≤n∧n < 18446744073709551616
def ZlB(w:WEdit):Prop:=isI w.at_∧(0≤w.mask∧w.mask < 256)∧isW w.old∧isW w.new
mutual
def Y1:Edit→Prop
 | .mk k o n w ks l os=> isI k∧rng o∧rng n∧(∀ x∈w,ZlB x)∧isI l∧Z1U ks∧Z1T os
def Z1U:List (KidOf Edit)→Prop
 | []=> True
 | k ::r=> Z5s k∧Z1U r
def Z5s:KidOf Edit→Prop
 | ⟨a,e⟩=> isI a∧Y1 e
def Z1T:List (OpOf Edit)→Prop
 | []=> True
 | o ::r=> Z01 o∧Z1T r
def Z01:OpOf Edit→Prop
 | ⟨k,n,l,e⟩=> isI k∧isI n∧ZW l∧Y1 e
end
def sh1(t:Tree)(n:Int):Int:=if n < 0 then n else ZA t 80 n
mutual
def JR:Edit→Int→Int→Int
 | .mk _ o nw w ks _ os,d,n=> if d=0∨n - 1 - w.length - os.length < 0 then -1 else Jk os (d - 1) (J7 ks (d - 1) (sh1 nw (ZA o 80 (n - 1 - w.length - os.length))))
def J7:List (KidOf Edit)→Int→Int→Int
 | [],_,n=> n
 | k ::r,d,n=> if n < 0 then n else J7 r d (Z22 k d n)
def Z22:KidOf Edit→Int→Int→Int
 | ⟨_,e⟩,d,n=> JR e d n
def Jk:List (OpOf Edit)→Int→Int→Int
 | [],_,n=> n
 | o ::r,d,n=> if n < 0 then n else Jk r d (Z4a o d n)
def Z4a:OpOf Edit→Int→Int→Int
 | ⟨_,_,l,e⟩,d,n=> if Zt l 80 n < 0 then Zt l 80 n else JR e d (Zt l 80 n)
end
def ZM(t:Tree):Bool:=decide (t.kind=0∧t.words.length=0∧t.kids.length=0)
def Z00(e:Edit):Bool:=decide (e.kind=0) && ZM e.old && ZM e.new && decide (e.words.length=0∧e.kids.length=0∧e.ops.length=0∧e.list=0)
def Z0g(w m:Int):Bool:=decide (mix w 0 m=0)
def Zu(last:Int):List WEdit→Bool
 | []=> true
 | w ::r=> decide (last < w.at_∧w.at_≤65534∧w.mask≠0) && Z0g w.old w.mask && Z0g w.new w.mask && Zu w.at_ r
def Zr(o:Op):Int:=if o.kind=3 then 1 else o.n+o.l.length
def JY:List Op→Int→Int
 | [],n=> n
 | o ::r,n=> JY r (min (if o.kind=2 then n else n+Zr o) 1048576)
def JX:List Op→Int→Int
 | [],n=> n
 | o ::r,n=> JX r (min (if o.kind=1 then n else n+Zr o) 1048576)
def YN(list:Int):List Tree→Bool
 | []=> true
 | t ::r=> Z9 (.mk list [] [t]) 64 && YN list r
def dT(d:Int):Int:=if d < 0 then -1 else 64
theorem ZiO{d:Int}(h:0≤d):dT d=64:=by unfold dT;rw [if_neg (by omega)]
theorem ZrB(d:Int):dT d≠0:=by unfold dT;split <;> decide
def YB(D list:Int):List Tree→Bool
 | []=> true
 | t ::r=> Z9 (.mk list [] [t]) D && YB D list r
theorem Z7n(list:Int):∀ l:List Tree,YB 64 list l=YN list l
 | []=> rfl
 | t ::r=> by simp only [YB,YN,Z7n list r]
mutual
def Z4:Edit→Int→Bool
 | .mk k o n w ks l os,d=>
  if d=0∨k < 0∨3 < k then false
  else if (k≠1∧¬(ZM o=true∧ZM n=true))∨(k≠2∧¬(w.length=0∧ks.length=0))∨(k≠3∧(l≠0∨os.length≠0)) then false
  else if k=1 then Z9 o (dT d) && Z9 n (dT d) && decide (o.kind≠10∧n.kind≠10)
  else Zu (-1) w && ZE (-1) ks (d - 1) && decide (¬(k=3∧(l < 2∨9 < l))) && ZB l os (d - 1) && decide (JY os 0 < 1048576∧JX os 0 < 1048576)
def ZE(last:Int):List (KidOf Edit)→Int→Bool
 | [],_=> true
 | k ::r,d=> Z0t last k d && ZE k.at_ r d
def Z0t(last:Int):KidOf Edit→Int→Bool
 | ⟨a,e⟩,d=> decide (last < a∧a≤65534∧e.kind≠0) && Z4 e d
def ZB(list:Int):List (OpOf Edit)→Int→Bool
 | [],_=> true
 | o ::r,d=> Zf list o d && ZB list r d
def Zf(list:Int):OpOf Edit→Int→Bool
 | ⟨k,n,l,e⟩,d=>
  if k=0 then decide (1≤n∧n≤1048576∧l.length=0) && Z00 e
  else if n≠0∨k < 0∨3 < k then false
  else if k < 3 then YB (dT d) list l && decide (0 < l.length) && Z00 e
  else decide (l.length=0∧e.kind≠0∧7 < list) && Z4 e d && decide (list=8∨e.kind=2∨e.kind=1∧e.old.kind=1∧e.new.kind=1)
end
mutual
def ctE:Edit→Nat
 | .mk _ o n w ks _ os=> 16+Zj o+Zj n+65600*w.length+Zba ks+Zbt os
def Zba:List (KidOf Edit)→Nat
 | []=> 0
 | k ::r=> ZiP k+Zba r
def ZiP:KidOf Edit→Nat
 | ⟨_,e⟩=> 65600+ctE e
def Zbt:List (OpOf Edit)→Nat
 | []=> 0
 | o ::r=> Zky o+Zbt r
def Zky:OpOf Edit→Nat
 | ⟨_,_,l,e⟩=> 16+Zb l+ctE e
end
theorem Znr(e:Edit):ctE e=16+Zj e.old+Zj e.new+65600*e.words.length+Zba e.kids+Zbt e.ops:=by cases e;rfl
theorem Znq(k:Kid):ZiP k=65600+ctE k.e:=by cases k;rfl
theorem Zqn(o:Op):Zky o=16+Zb o.l+ctE o.e:=by cases o;rfl
theorem Zfl:∀ {ks:List Kid} {k:Kid},k∈ks→ctE k.e+65600≤Zba ks
 | a ::r,k,h=> by
  rcases List.mem_cons.1 h with rfl | h
  ·simp only [Zba,Znq];omega
  ·have:=Zfl h;simp only [Zba];omega
theorem Zfk:∀ {os:List Op} {o:Op},o∈os→ctE o.e+Zb o.l+16≤Zbt os
 | a ::r,o,h=> by
  rcases List.mem_cons.1 h with rfl | h
  ·simp only [Zbt,Zqn];omega
  ·have:=Zfk h;simp only [Zbt];omega
theorem Z0w(t:Tree):1≤Zj t:=by obtain ⟨k,w,ks⟩:=t;simp only [Zj];omega
mutual
theorem Zdl:∀ (e:Edit),ctE e+131100≤65600*Zg e
 | .mk k o n w ks l os=> by
  have h1:=Zci ks
  have h2:=Zch os
  have:=Z0w o
  have:=Z0w n
  simp only [Zg,ctE]
  omega
theorem Zci:∀ (ks:List (KidOf Edit)),Zba ks≤65600*ZN ks
 | []=> Nat.le_refl _
 | k ::r=> by
  have h1:=ZgT k
  have h2:=Zci r
  simp only [ZN,Zba]
  omega
theorem ZgT:∀ (k:KidOf Edit),ZiP k≤65600*JN k
 | ⟨a,e⟩=> by
  have:=Zdl e
  simp only [JN,ZiP]
  omega
theorem Zch:∀ (os:List (OpOf Edit)),Zbt os≤65600*(os.length+Zd os)
 | []=> Nat.le_refl _
 | o ::r=> by
  have h1:=Zkx o
  have h2:=Zch r
  simp only [Zd,Zbt,List.length_cons]
  omega
theorem Zkx:∀ (o:OpOf Edit),Zky o≤65600*(ZX o+1)
 | ⟨k,n,l,e⟩=> by
  have:=Zdl e
  simp only [ZX,Zky]
  omega
end
mutual
def JQ:Edit→Bool
 | .mk _ _ _ _ ks _ os=> decide (JY os 0≤2000∧JX os 0≤2000) && Z0U ks && Z21 os
def Z0U:List (KidOf Edit)→Bool
 | []=> true
 | k ::r=> ZeX k && Z0U r
def ZeX:KidOf Edit→Bool
 | ⟨_,e⟩=> JQ e
def Z21:List (OpOf Edit)→Bool
 | []=> true
 | o ::r=> Zio o && Z21 r
def Zio:OpOf Edit→Bool
 | ⟨_,_,_,e⟩=> JQ e
end
def JZ(e:Edit):Bool:=decide (0≤JR e 80 3000) && Z4 e 64 && JQ e
end Go.AM
