import Derived.Test.YtpjenobkibfpcaaKD22
import Derived.Test.YtpjenobkibfpcaaKD20
import Derived.Test.YtpjenobkibfpcaaKRB07
import Derived.Test.YtpjenobkibfpcaaKB07
set_option linter.unusedSimpArgs false
set_option linter.unusedVariables false
namespace Go.AM
structure Wst where
 out:List Op
 gone:List Tree
 brought:List Tree
def Ji(out:List Op)(g b:List Tree):List Op:=
 out++((if g.length=0 then [] else [⟨1,0,g,Edit.nil⟩])++(if b.length=0 then [] else [⟨2,0,b,Edit.nil⟩]))
def Z0h:List Op→Int→List Op
 | [],n=> [⟨0,n,[],Edit.nil⟩]
 | [o],n=> if o.kind=0 then [⟨o.kind,o.n+n,o.l,o.e⟩] else [o,⟨0,n,[],Edit.nil⟩]
 | o ::p ::r,n=> o ::Z0h (p ::r) n
def Z1(w:Wst):Wst:=⟨Ji w.out w.gone w.brought,[],[]⟩
def ZI(w:Wst)(n:Int):Wst:=⟨Z0h (Z1 w).out n,[],[]⟩
mutual
def Yb:Edit→Edit
 | .mk k o n w ks l os=>
  if k=1 then .mk k (Z5 o) (Z5 n) [] [] l []
  else if k=2 then .mk k Tree.nil Tree.nil w (J4 ks) l []
  else if k=3 then .mk k Tree.nil Tree.nil [] [] l (Z1 (Y3 l os ⟨[],[],[]⟩)).out
  else .mk k Tree.nil Tree.nil [] [] l []
def J4:List (KidOf Edit)→List (KidOf Edit)
 | []=> []
 | k ::r=> Z1c k ::J4 r
def Z1c:KidOf Edit→KidOf Edit
 | ⟨a,e⟩=> ⟨a,Yb e⟩
def Y3(list:Int):List (OpOf Edit)→Wst→Wst
 | [],s=> s
 | o ::r,s=> Y3 list r (Z0b list o s)
def Z0b(list:Int):OpOf Edit→Wst→Wst
 | ⟨k,n,l,e⟩,s=>
  if k=0 then ZI s n
  else if k=1 then ⟨s.out,s.gone++Z8 l,s.brought⟩
  else if k=2 then ⟨s.out,s.gone,s.brought++Z8 l⟩
  else if k=3 then (if Z4w list (Yb e)=true then ZI s 1 else ⟨(Z1 s).out++[⟨3,0,[],Yb e⟩],[],[]⟩)
  else s
end
theorem Z5x(e:Edit):Yb e=if e.kind=1 then .mk e.kind (Z5 e.old) (Z5 e.new) [] [] e.list []
  else if e.kind=2 then .mk e.kind Tree.nil Tree.nil e.words (J4 e.kids) e.list []
  else if e.kind=3 then .mk e.kind Tree.nil Tree.nil [] [] e.list (Z1 (Y3 e.list e.ops ⟨[],[],[]⟩)).out
  else .mk e.kind Tree.nil Tree.nil [] [] e.list []:=by cases e;rfl
theorem ZaN(k:Kid):Z1c k=⟨k.at_,Yb k.e⟩:=by cases k;rfl
theorem Z1b(list:Int)(o:Op)(s:Wst):Z0b list o s=if o.kind=0 then ZI s o.n
  else if o.kind=1 then ⟨s.out,s.gone++Z8 o.l,s.brought⟩
  else if o.kind=2 then ⟨s.out,s.gone,s.brought++Z8 o.l⟩
  else if o.kind=3 then (if Z4w list (Yb o.e)=true then ZI s 1 else ⟨(Z1 s).out++[⟨3,0,[],Yb o.e⟩],[],[]⟩)
  else s:=by cases o;rfl
end Go.AM
namespace Go.AM
def Y7{α:Type}(z:α)(l:List α)(i:Nat)(x:α):List α:=(l++List.replicate (i+1 - l.length) z).set i x
def wsD(tw:List Int):List WEdit→List Int→Option (List Int)
 | [],out=> some out
 | w ::r,out=> if mix 0 (tw.getD w.at_.toNat 0) w.mask=w.old then wsD tw r (Y7 0 out w.at_.toNat (mix (tw.getD w.at_.toNat 0) w.new w.mask)) else none
noncomputable def YG(l rest:List Tree):Bool:=decide (l.length≤rest.length) && eqX (Z8 l) (Z8 (rest.take l.length))
def Z2J(r:Option (List Tree × List Tree)):Option (List Tree):=r.bind fun x=> if x.2.length=0 then some x.1 else none
def nrD(r:Bool)(t:Tree):Tree:=if r then Z5 t else t
mutual
noncomputable def doE(r:Bool):Edit→Tree→Option Tree
 | .mk k o n w ks l os,t=>
  (if k=0 then some t
  else if k=1 then (if Yr (Z5 o) (Z5 t)=true then some n else none)
  else if k=2 then (if t.kind=1 then (wsD t.words w t.words).bind fun a=> (YZ r t.kids ks t.kids).map fun b=> .mk 1 a b else none)
  else if k=3 then (if t.kind=l then (Z2J (ZE r os t.kids [])).map fun b=> .mk l [] b else none)
  else none).map (nrD r)
noncomputable def YZ(r:Bool)(tk:List Tree):List (KidOf Edit)→List Tree→Option (List Tree)
 | [],out=> some out
 | k ::s,out=> (Z1F r tk k).bind fun u=> YZ r tk s (Y7 Tree.nil out k.at_.toNat u)
noncomputable def Z1F(r:Bool)(tk:List Tree):KidOf Edit→Option Tree
 | ⟨a,e⟩=> doE r e (tk.getD a.toNat Tree.nil)
noncomputable def ZE(r:Bool):List (OpOf Edit)→List Tree→List Tree→Option (List Tree × List Tree)
 | [],rest,out=> some (out,rest)
 | o ::s,rest,out=> (Z2K r o rest out).bind fun x=> ZE r s x.2 x.1
noncomputable def Z2K(r:Bool):OpOf Edit→List Tree→List Tree→Option (List Tree × List Tree)
 | ⟨k,n,l,e⟩,rest,out=>
  if k=0 then (if n.toNat≤rest.length then some (out++rest.take n.toNat,rest.drop n.toNat) else none)
  else if k=1 then (if YG l rest=true then some (out,rest.drop l.length) else none)
  else if k=2 then some (out++l,rest)
  else if rest.length=0 then none else (doE r e (rest.getD 0 Tree.nil)).map fun u=> (out++[u],rest.drop 1)
end
theorem JB(r:Bool)(e:Edit)(t:Tree):doE r e t=(if e.kind=0 then some t
  else if e.kind=1 then (if Yr (Z5 e.old) (Z5 t)=true then some e.new else none)
  else if e.kind=2 then (if t.kind=1 then (wsD t.words e.words t.words).bind fun a=> (YZ r t.kids e.kids t.kids).map fun b=> .mk 1 a b else none)
  else if e.kind=3 then (if t.kind=e.list then (Z2J (ZE r e.ops t.kids [])).map fun b=> .mk e.list [] b else none)
  else none).map (nrD r):=by cases e;rfl
noncomputable def ZeB(r:Bool)(e:Edit)(t:Tree):Option Tree:=
 if e.kind=0 then some t
 else if e.kind=1 then (if Yr (Z5 e.old) (Z5 t)=true then some e.new else none)
 else if e.kind=2 then (if t.kind=1 then (wsD t.words e.words t.words).bind fun a=> (YZ r t.kids e.kids t.kids).map fun b=> .mk 1 a b else none)
 else if e.kind=3 then (if t.kind=e.list then (Z2J (ZE r e.ops t.kids [])).map fun b=> .mk e.list [] b else none)
 else none
theorem Z6l(r:Bool)(e:Edit)(t:Tree):doE r e t=(ZeB r e t).map (nrD r):=JB r e t
theorem Z6k(r:Bool)(tk:List Tree)(k:Kid):Z1F r tk k=doE r k.e (tk.getD k.at_.toNat Tree.nil):=by cases k;rfl
theorem Y6(r:Bool)(o:Op)(rest out:List Tree):Z2K r o rest out=if o.kind=0 then (if o.n.toNat≤rest.length then some (out++rest.take o.n.toNat,rest.drop o.n.toNat) else none)
  else if o.kind=1 then (if YG o.l rest=true then some (out,rest.drop o.l.length) else none)
  else if o.kind=2 then some (out++o.l,rest)
  else if rest.length=0 then none else (doE r o.e (rest.getD 0 Tree.nil)).map fun u=> (out++[u],rest.drop 1):=by cases o;rfl
noncomputable def Z85(r:Bool)(e:Edit)(t:Tree):Option Tree:=
 if t.kind=1 then (wsD t.words e.words t.words).bind fun a=> (YZ r t.kids e.kids t.kids).map fun b=> .mk 1 a b else none
noncomputable def Z4j(r:Bool)(e:Edit)(t:Tree):Option (List Tree × List Tree):=if t.kind=e.list then ZE r e.ops t.kids [] else none
def Z2R(o:Option Tree):Tree:=o.getD Tree.nil
def ZkR(e:Edit)(o:Option (List Tree × List Tree)):Tree:=match o with | some x=> .mk e.list [] x.1 | none=> Tree.nil
noncomputable def Z86(e:Edit)(t:Tree):Tree:=
 if e.kind=0 then t else if e.kind=1 then e.new else if e.kind=2 then Z2R (Z85 false e t) else if e.kind=3 then ZkR e (Z4j false e t) else Tree.nil
theorem Ye(o:Option Tree):o.map (nrD false)=o:=by cases o <;> rfl
theorem Z6L{e:Edit}{t u:Tree}(h:doE false e t=some u):Z86 e t=u:=by
 rw [JB,Ye] at h
 unfold Z86
 split
 ·rename_i h0;rw [if_pos h0] at h;exact Option.some.inj h
 ·rename_i h0;rw [if_neg h0] at h
  split
  ·rename_i h1;rw [if_pos h1] at h
   split at h
   ·exact Option.some.inj h
   ·cases h
  ·rename_i h1;rw [if_neg h1] at h
   split
   ·rename_i h2;rw [if_pos h2] at h
    unfold Z2R Z85
    rw [h];try rfl
   ·rename_i h2;rw [if_neg h2] at h
    split
    ·rename_i h3;rw [if_pos h3] at h
     unfold ZkR Z4j
     split at h
     ·rename_i h4;rw [if_pos h4]
      revert h
      cases ZE false e.ops t.kids [] with
      | none=> intro h;cases h
      | some x=>
       intro h
       simp only [Z2J,Option.bind_some] at h
       split at h
       ·exact Option.some.inj h
       ·cases h
     ·cases h
    ·rename_i h3;rw [if_neg h3] at h;cases h
end Go.AM
namespace Go.AM
def JD(m:Nat):Nat→Nat
 | 0=> 0
 | i+1=> JD m i+if m / 2 ^ i % 2=1 then 255*2 ^ (8*i) else 0
def Zad:Nat→Nat→Nat
 | 0,_=> 0
 | k+1,m=> (if m % 2=1 then 255 else 0)+256*Zad k (m / 2)
def Z7A:Nat→Nat→Nat→Nat
 | 0,_,_=> 0
 | k+1,a,m=> (if m % 2=1 then a % 256 else 0)+256*Z7A k (a / 256) (m / 2)
def Zds:Nat→Nat→Nat→Nat→Nat
 | 0,_,_,_=> 0
 | k+1,a,b,m=> (if m % 2=1 then b % 256 else a % 256)+256*Zds k (a / 256) (b / 256) (m / 2)
theorem ZiO(x y u v:Nat)(hu:u < 256)(hv:v < 256):(u+256*x) &&& (v+256*y)=(u &&& v)+256*(x &&& y):=by
 have h:u &&& v < 256:=Nat.and_lt_two_pow (n:=8) u hv
 apply Nat.eq_of_testBit_eq
 intro j
 rw [Nat.add_comm u,Nat.add_comm v,Nat.add_comm (u &&& v),Nat.testBit_and]
 rw [show (256:Nat)=2 ^ 8 from rfl,Nat.testBit_two_pow_mul_add _ hu,Nat.testBit_two_pow_mul_add _ hv,Nat.testBit_two_pow_mul_add _ h]
 split <;> rw [Nat.testBit_and]
theorem Zkn(x y u v:Nat)(hu:u < 256)(hv:v < 256):(u+256*x) ||| (v+256*y)=(u ||| v)+256*(x ||| y):=by
 have h:u ||| v < 256:=Nat.or_lt_two_pow (n:=8) hu hv
 apply Nat.eq_of_testBit_eq
 intro j
 rw [Nat.add_comm u,Nat.add_comm v,Nat.add_comm (u ||| v),Nat.testBit_or]
 rw [show (256:Nat)=2 ^ 8 from rfl,Nat.testBit_two_pow_mul_add _ hu,Nat.testBit_two_pow_mul_add _ hv,Nat.testBit_two_pow_mul_add _ h]
 split <;> rw [Nat.testBit_or]
theorem Za8:∀ (k a m:Nat),a &&& Zad k m=Z7A k a m
 | 0,a,m=> by simp [Zad,Z7A]
 | k+1,a,m=> by
  have e:a=a % 256+256*(a / 256):=by omega
  simp only [Zad,Z7A]
  rw [←Za8 k (a / 256) (m / 2)]
  have h:a &&& ((if m % 2=1 then 255 else 0)+256*Zad k (m / 2))=(a % 256+256*(a / 256)) &&& ((if m % 2=1 then 255 else 0)+256*Zad k (m / 2)):=by rw [←e]
  rw [h,ZiO _ _ _ _ (by omega) (by split <;> omega)]
  congr 1
  split
  ·have:=Nat.and_two_pow_sub_one_eq_mod (a % 256) 8
   simp only [show (2:Nat) ^ 8 - 1=255 from rfl,show (2:Nat) ^ 8=256 from rfl,Nat.mod_mod] at this
   exact this
  ·simp
theorem Zgn:∀ (k a b m n:Nat),(∀ i < k,m / 2 ^ i % 2+n / 2 ^ i % 2=1)→Z7A k a n ||| Z7A k b m=Zds k a b m
 | 0,a,b,m,n,_=> by simp [Z7A,Zds]
 | k+1,a,b,m,n,h=> by
  simp only [Z7A,Zds]
  have h0:=h 0 (by omega)
  simp only [Nat.pow_zero,Nat.div_one] at h0
  rw [Zkn _ _ _ _ (by split <;> omega) (by split <;> omega),Zgn k (a / 256) (b / 256) (m / 2) (n / 2) (fun i hi=> by
   have:=h (i+1) (by omega)
   rw [Nat.div_div_eq_div_mul,Nat.div_div_eq_div_mul]
   rw [Nat.pow_succ,Nat.mul_comm] at this
   exact this)]
  congr 1
  by_cases hm:m % 2=1
  ·rw [if_pos hm,if_pos hm,if_neg (by omega)];simp
  ·rw [if_neg hm,if_neg hm,if_pos (by omega)];simp
theorem ZfH:∀ m:Fin 256,JD m.1 8=Zad 8 m.1:=by decide+kernel
theorem Zj3:∀ m:Fin 256,2 ^ 64 - 1 - Zad 8 m.1=Zad 8 (255 - m.1):=by decide+kernel
theorem Zlx:∀ m:Fin 256,∀ i:Fin 8,m.1 / 2 ^ i.1 % 2+(255 - m.1) / 2 ^ i.1 % 2=1:=by decide+kernel
theorem Zmb:∀ m:Fin 256,Zad 8 m.1 < 2 ^ 64:=by decide+kernel
theorem Zky(a b m:Nat)(hm:m < 256):(a &&& (2 ^ 64 - 1 - JD m 8)) ||| (b &&& JD m 8)=Zds 8 a b m:=by
 have h1:=ZfH ⟨m,hm⟩
 have h2:=Zj3 ⟨m,hm⟩
 simp only at h1 h2
 rw [h1,h2,Za8,Za8]
 exact Zgn 8 a b m (255 - m) (fun i hi=> Zlx ⟨m,hm⟩ ⟨i,hi⟩)
def ofK:Nat→(Nat→Nat)→Nat
 | 0,_=> 0
 | k+1,f=> f 0+256*ofK k (fun i=> f (i+1))
theorem ZaM:∀ (k:Nat) {f g:Nat→Nat},(∀ i,f i=g i)→ofK k f=ofK k g
 | 0,_,_,_=> rfl
 | k+1,f,g,h=> by simp only [ofK,h 0,ZaM k (fun i=> h (i+1))]
theorem Zgr:∀ (k a b m:Nat),Zds k a b m=ofK k (fun i=> if m / 2 ^ i % 2=1 then b / 256 ^ i % 256 else a / 256 ^ i % 256)
 | 0,_,_,_=> rfl
 | k+1,a,b,m=> by
  simp only [Zds,ofK,Nat.pow_zero,Nat.div_one]
  rw [Zgr k,ZaM k (g:=fun i=> if m / 2 ^ (i+1) % 2=1 then b / 256 ^ (i+1) % 256 else a / 256 ^ (i+1) % 256) (fun i=> ?_)]
  rw [Nat.div_div_eq_div_mul,Nat.div_div_eq_div_mul,Nat.div_div_eq_div_mul,Nat.pow_succ',Nat.pow_succ']
theorem Zkz(a b m:Nat):((Zds 8 a b m:Nat):Int)=mix a b m:=by
 have nm:∀ i:Nat,ZaQ (m:Int) (i:Int)=decide (m / 2 ^ i % 2=1):=by
  intro i
  unfold ZaQ
  rw [decide_eq_decide,Int.toNat_natCast]
  have:((m:Int) / 2 ^ i % 2:Int)=((m / 2 ^ i % 2:Nat):Int):=by rw [Int.natCast_emod,Int.natCast_ediv,Int.natCast_pow];try rfl
  rw [this];omega
 have by_:∀ (x i:Nat),Zi (x:Int) i=((x / 256 ^ i % 256:Nat):Int):=by
  intro x i
  unfold Zi
  rw [Int.natCast_emod,Int.natCast_ediv,Int.natCast_pow]
  try rfl
 have mx:∀ i:Nat,YB (a:Int) (b:Int) (m:Int) i=((if m / 2 ^ i % 2=1 then b / 256 ^ i % 256 else a / 256 ^ i % 256:Nat):Int):=by
  intro i
  unfold YB
  rw [nm,by_,by_]
  by_cases h:m / 2 ^ i % 2=1
  ·rw [decide_eq_true h,if_pos rfl,if_pos h]
  ·rw [decide_eq_false h,if_neg Bool.false_ne_true,if_neg h]
 rw [Zgr]
 generalize hf:(fun i=> if m / 2 ^ i % 2=1 then b / 256 ^ i % 256 else a / 256 ^ i % 256)=f
 have hx:∀ i,YB (a:Int) (b:Int) (m:Int) i=(f i:Int):=by intro i;rw [mx,←hf]
 have e:ofK 8 f=f 0+256*(f 1+256*(f 2+256*(f 3+256*(f 4+256*(f 5+256*(f 6+256*(f 7+256*0))))))):=rfl
 rw [e]
 simp only [mix,of8,hx]
 omega
def Y4(list:Int)(e:Edit):Bool:=
 if (2≤list∧list≤7)∨e.kind=0 then false else if list=8∨e.kind=2 then true else decide (e.kind=1∧e.old.kind=1∧e.new.kind=1)
end Go.AM
namespace Go.AM
def Z29(l:List Kid)(at_:Int):Edit:=((l.find? (fun k=> decide (k.at_=at_))).map KidOf.e).getD Edit.nil
end Go.AM
namespace Go.AM
instance:Inhabited PStep:=⟨⟨0,0⟩⟩
def Z27(n:Int):List Op:=if n=0 then [] else [⟨0,n,[],Edit.nil⟩]
def JE(len at_:Int)(x:Edit):List Op:=(Z27 at_++[⟨3,0,[],x⟩])++Z27 (len - at_ - 1)
def Z1n(s:PStep)(t:Tree):Prop:=s.kind=0∧0≤s.at_∧(t.kind=1∧s.at_ < 65535∨(2≤t.kind∧t.kind≤9)∧s.at_ < t.kids.length)
instance (s:PStep) (t:Tree):Decidable (Z1n s t):=by unfold Z1n;infer_instance
def ZG(f:Int→Int→Edit→List Op)(e:Edit):List PStep→Tree→Edit × Bool
 | [],t=> (e,t.kind !=10)
 | s ::l,t=> if Z1n s t then
   (if (ZG f e l (t.kids.getD s.at_.toNat Tree.nil)).2=false∨(ZG f e l (t.kids.getD s.at_.toNat Tree.nil)).1.kind=0 then (Edit.nil,(ZG f e l (t.kids.getD s.at_.toNat Tree.nil)).2)
   else if t.kind=1 then (.mk 2 Tree.nil Tree.nil [] [⟨s.at_,(ZG f e l (t.kids.getD s.at_.toNat Tree.nil)).1⟩] 0 [],true)
   else (.mk 3 Tree.nil Tree.nil [] [] t.kind (f t.kids.length s.at_ (ZG f e l (t.kids.getD s.at_.toNat Tree.nil)).1),true))
  else (Edit.nil,false)
def Z4l(f:Int→Int→Edit→List Op)(e:Edit)(l:List PStep)(t:Tree):Edit × Bool:=
 if (ZG f e l t).2=true∧Z3 (ZG f e l t).1 64=true then (Yb (ZG f e l t).1,true) else (Edit.nil,false)
def Yi:List Op→Int→Int→Int→Op × Int × Bool
 | [],_,_,_=> (Op.nil,0,false)
 | o ::r,at_,from_,to=> if o.kind=2 then Yi r at_ from_ (to+Zn o)
  else if at_ < from_+Zn o then (o,to+at_ - from_,o.kind !=1)
  else Yi r at_ (from_+Zn o) (if o.kind=1 then to else to+Zn o)
def YE:List PStep→Edit→List PStep→Edit × List PStep × Bool
 | [],e,m=> (e,m,true)
 | s ::l,e,m=> if s.kind≠0∨s.at_ < 0∨e.kind=1 then (Edit.nil,[],false)
  else if e.kind=2 then YE l (Z29 e.kids s.at_) (m++[s])
  else if e.kind=3 then (if (Yi e.ops s.at_ 0 0).2.2=true then YE l (Yi e.ops s.at_ 0 0).1.e (m++[⟨s.kind,(Yi e.ops s.at_ 0 0).2.1⟩]) else (Edit.nil,[],false))
  else YE l e (m++[s])
def Z0d(e:Edit)(l:List PStep):Edit × List PStep × Bool:=if (YE l e []).2.2=true then (Yb (YE l e []).1,(YE l e []).2.1,true) else (Edit.nil,[],false)
def Z0i:List Kid→Int→Int→Int
 | [],_,_=> -1
 | k ::r,at_,i=> if k.at_=at_ then i else Z0i r at_ (i+1)
end Go.AM
namespace Go.AM.Ytpjenobkibfpcaa
open Go.AM Go.Proofs
theorem Zef(a:Tree):Yr a a=true:=by simp [Yr]
theorem ZhK(l:List Int):trim (trim l)=trim l:=by
 induction l with
 | nil=> rfl
 | cons x r ih=>
  rw [Z0G]
  split
  ·try rfl
  ·rename_i h
   rw [Z0G,ih,if_neg h]
theorem Zeb(l:List Tree):ZP (ZP l)=ZP l:=by
 induction l with
 | nil=> rfl
 | cons x r ih=>
  rw [YJ]
  split
  ·try rfl
  ·rename_i h
   rw [YJ,ih,if_neg h]
def Normed:List Tree→Prop
 | []=> True
 | t ::r=> Z5 t=t∧Normed r
theorem Normed.eq:∀ {l:List Tree},Normed l→ZN l=l
 | [],_=> rfl
 | t ::r,h=> by simp only [ZN,h.1,Normed.eq h.2]
theorem Normed.trim:∀ {l:List Tree},Normed l→Normed (ZP l)
 | [],_=> trivial
 | t ::r,h=> by
  rw [YJ]
  split
  ·trivial
  ·exact ⟨h.1,Normed.trim h.2⟩
mutual
theorem Z1d:∀ (t:Tree),Z5 (Z5 t)=Z5 t
 | .mk k w ks=> by
  have h:=Z5z ks
  by_cases h0:k=0
  ·simp [Z5,h0,Tree.nil]
  ·by_cases h1:k=1
   ·subst h1
    simp only [Z5,if_neg h0,if_true,ZhK,h.trim.eq,Zeb]
   ·simp only [Z5,if_neg h0,if_neg h1,h.eq]
theorem Z5z:∀ (ks:List Tree),Normed (ZN ks)
 | []=> trivial
 | t ::r=> ⟨Z1d t,Z5z r⟩
end
end Go.AM.Ytpjenobkibfpcaa
namespace Go.AM.Ytpjenobkibfpcaa
open Go.AM Go.Proofs
theorem YS:∀ (l:List Op) (n:Int),Z0h l n=l++[⟨0,n,[],Edit.nil⟩]∨∃ a o,l=a++[o]∧o.kind=0∧Z0h l n=a++[⟨o.kind,o.n+n,o.l,o.e⟩]
 | [],n=> Or.inl rfl
 | [o],n=> by
  by_cases h:o.kind=0
  ·exact Or.inr ⟨[],o,rfl,h,by simp [Z0h,h]⟩
  ·exact Or.inl (by simp [Z0h,h])
 | o ::p ::r,n=> by
  rcases YS (p ::r) n with h | ⟨a,q,h1,h2,h3⟩
  ·exact Or.inl (by simp only [Z0h,h,List.cons_append])
  ·exact Or.inr ⟨o ::a,q,by rw [h1];rfl,h2,by simp only [Z0h,h3,List.cons_append]⟩
def W0:Wst:=⟨[],[],[]⟩
theorem Z7D(l:List Tree):Z8 (Z8 l)=Z8 l:=by
 simp only [Z8,List.map_map]
 congr 1
 funext t
 exact Z1d t
theorem Yp(a b:List Tree):Z8 (a++b)=Z8 a++Z8 b:=by simp [Z8]
end Go.AM.Ytpjenobkibfpcaa
namespace Go.AM
theorem Z5B{t:Tree}(h:ZH t=true):t=Tree.nil:=by
 obtain ⟨k,w,ks⟩:=t
 simp only [ZH,decide_eq_true_eq] at h
 obtain ⟨h1,h2,h3⟩:=h
 have h1:k=0:=h1
 rw [h1,List.eq_nil_of_length_eq_zero (l:=w) h2,List.eq_nil_of_length_eq_zero (l:=ks) h3]
 try rfl
theorem Z95{e:Edit}(h:JH e=true):e=Edit.nil:=by
 obtain ⟨k,o,n,w,ks,l,os⟩:=e
 simp only [JH,Bool.and_eq_true,decide_eq_true_eq] at h
 obtain ⟨⟨⟨h1,h2⟩,h3⟩,h4,h5,h6,h7⟩:=h
 have h1:k=0:=h1
 have h7:l=0:=h7
 rw [h1,h7,Z5B (t:=o) h2,Z5B (t:=n) h3,List.eq_nil_of_length_eq_zero (l:=w) h4,List.eq_nil_of_length_eq_zero (l:=ks) h5,List.eq_nil_of_length_eq_zero (l:=os) h6]
 try rfl
structure RightE (e:Edit) (d:Int):Prop where
 d0:d≠0
 kind:0≤e.kind∧e.kind≤3
 none:e.kind≠1→e.old=Tree.nil∧e.new=Tree.nil
 words0:e.kind≠2→e.words=[]∧e.kids=[]
 ops0:e.kind≠3→e.list=0∧e.ops=[]
 rep:e.kind=1→Z9 e.old (dT d)=true∧Z9 e.new (dT d)=true∧e.old.kind≠10∧e.new.kind≠10
 words:Zs (-1) e.words=true
 kids:Zv (-1) e.kids (d - 1)=true
 list:e.kind=3→2≤e.list∧e.list≤9
 ops:Zx e.list e.ops (d - 1)=true
 len:JG e.ops 0 < 1048576∧JF e.ops 0 < 1048576
theorem Yf{e:Edit}{d:Int}(h:Z3 e d=true):RightE e d:=by
 obtain ⟨k,o,n,w,ks,l,os⟩:=e
 rw [Z3] at h
 split at h
 ·cases h
 ·rename_i a
  split at h
  ·cases h
  ·rename_i b
   have b1:k≠1→o=Tree.nil∧n=Tree.nil:=by
    intro hk
    by_cases x:ZH o=true∧ZH n=true
    ·exact ⟨Z5B x.1,Z5B x.2⟩
    ·exact absurd (.inl ⟨hk,x⟩) b
   have b2:k≠2→w=[]∧ks=[]:=by
    intro hk
    by_cases x:w.length=0∧ks.length=0
    ·exact ⟨List.eq_nil_of_length_eq_zero x.1,List.eq_nil_of_length_eq_zero x.2⟩
    ·exact absurd (.inr (.inl ⟨hk,x⟩)) b
   have b3:k≠3→l=0∧os=[]:=by
    intro hk
    by_cases x:l≠0∨os.length≠0
    ·exact absurd (.inr (.inr ⟨hk,x⟩)) b
    ·exact ⟨by omega,List.eq_nil_of_length_eq_zero (by omega)⟩
   split at h
   ·rename_i c
    simp only [Bool.and_eq_true,decide_eq_true_eq] at h
    obtain ⟨⟨h1,h2⟩,h3,h4⟩:=h
    have c2:=b2 (by omega)
    have c3:=b3 (by omega)
    obtain ⟨rfl,rfl⟩:=c2
    obtain ⟨rfl,rfl⟩:=c3
    exact ⟨by omega,⟨by show 0≤k;omega,by show k≤3;omega⟩,b1,b2,b3,fun _=> ⟨h1,h2,h3,h4⟩,rfl,rfl,fun e=> by have e:k=3:=e;omega,rfl,by show JG [] 0 < _∧JF [] 0 < _;simp [JG,JF]⟩
   ·rename_i c
    simp only [Bool.and_eq_true,decide_eq_true_eq] at h
    obtain ⟨⟨⟨⟨h1,h2⟩,h3⟩,h4⟩,h5⟩:=h
    exact ⟨by omega,⟨by show 0≤k;omega,by show k≤3;omega⟩,b1,b2,b3,fun e=> absurd e c,h1,h2,fun e=> by have e:k=3:=e;show 2≤l∧l≤9;omega,h4,h5⟩
theorem YN:∀ {ks:List Kid} {last d:Int},Zv last ks d=true→∀ k∈ks,(last < k.at_∧k.at_≤65534∧k.e.kind≠0)∧Z3 k.e d=true
 | [],_,_,_,_,hk=> by cases hk
 | ⟨a,e⟩ ::r,last,d,h,k,hk=> by
  simp only [Zv,Z0a,Bool.and_eq_true,decide_eq_true_eq] at h
  obtain ⟨⟨h1,h2⟩,h3⟩:=h
  rcases List.mem_cons.1 hk with rfl | hk
  ·exact ⟨h1,h2⟩
  ·have:=YN h3 k hk
   have h1:last < a∧a≤65534∧e.kind≠0:=h1
   have h4:a < k.at_:=this.1.1
   exact ⟨⟨by omega,this.1.2⟩,this.2⟩
theorem rightOs_mem{list:Int}:∀ {os:List Op} {d:Int},Zx list os d=true→∀ o∈os,Zd list o d=true
 | [],_,_,_,ho=> by cases ho
 | a ::r,d,h,o,ho=> by
  simp only [Zx,Bool.and_eq_true] at h
  rcases List.mem_cons.1 ho with rfl | ho
  ·exact h.1
  ·exact rightOs_mem h.2 o ho
theorem Z2W:∀ {ws:List WEdit} {last:Int},Zs last ws=true→∀ w∈ws,last < w.at_∧w.at_≤65534∧w.mask≠0∧JY w.old w.mask=true∧JY w.new w.mask=true
 | [],_,_,_,hw=> by cases hw
 | a ::r,last,h,w,hw=> by
  simp only [Zs,Bool.and_eq_true,decide_eq_true_eq] at h
  obtain ⟨⟨⟨h1,h2⟩,h3⟩,h4⟩:=h
  rcases List.mem_cons.1 hw with rfl | hw
  ·exact ⟨h1.1,h1.2.1,h1.2.2,h2,h3⟩
  ·have:=Z2W h4 w hw
   exact ⟨by omega,this.2⟩
inductive RightOp (list:Int) (d:Int):Op→Prop
 | keep (n:Int):1≤n→n≤1048576→RightOp list d ⟨0,n,[],Edit.nil⟩
 | gone (l:List Tree):Yo (dT d) list l=true→0 < l.length→RightOp list d ⟨1,0,l,Edit.nil⟩
 | come (l:List Tree):Yo (dT d) list l=true→0 < l.length→RightOp list d ⟨2,0,l,Edit.nil⟩
 | into (e:Edit):Z3 e d=true→e.kind≠0→7 < list→(list=8∨e.kind=2∨e.kind=1∧e.old.kind=1∧e.new.kind=1)→RightOp list d ⟨3,0,[],e⟩
theorem Y2{list:Int}{o:Op}{d:Int}(h:Zd list o d=true):RightOp list d o:=by
 obtain ⟨k,n,l,e⟩:=o
 rw [Zd] at h
 split at h
 ·rename_i hk
  simp only [Bool.and_eq_true,decide_eq_true_eq] at h
  obtain ⟨⟨h1,h2,h3⟩,h4⟩:=h
  rw [hk,Z95 h4,List.eq_nil_of_length_eq_zero h3]
  exact .keep n h1 h2
 ·rename_i h0
  split at h
  ·cases h
  ·rename_i h1
   have hn:n=0:=by omega
   subst hn
   split at h
   ·rename_i h2
    simp only [Bool.and_eq_true,decide_eq_true_eq] at h
    obtain ⟨⟨h3,h4⟩,h5⟩:=h
    rw [Z95 h5]
    by_cases hk:k=1
    ·rw [hk];exact .gone l h3 h4
    ·rw [show k=2 by omega];exact .come l h3 h4
   ·rename_i h2
    simp only [Bool.and_eq_true,decide_eq_true_eq] at h
    obtain ⟨⟨⟨h3,h4,h5⟩,h6⟩,h7⟩:=h
    rw [show k=3 by omega,List.eq_nil_of_length_eq_zero h3]
    exact .into e h6 h4 h5 h7
theorem Zep{e:Edit}{d:Int}(h:Z3 e d=true):(∀ k∈e.kids,∃ d,Z3 k.e d=true)∧(∀ o∈e.ops,∃ l d,Zd l o d=true)∧(e.kind=3→2≤e.list∧e.list≤9):=by
 have r:=Yf h
 exact ⟨fun k hk=> ⟨_,(YN r.kids k hk).2⟩,fun o ho=> ⟨_,_,rightOs_mem r.ops o ho⟩,r.list⟩
theorem Z2w{l d:Int}{o:Op}(h:Zd l o d=true)(hk:o.kind=3):Z3 o.e d=true:=by
 have r:=Y2 h
 cases r with
 | into e h1=> exact h1
 | keep | gone | come=> exact absurd hk (by simp)
end Go.AM
namespace Go.AM.Ytpjenobkibfpcaa
open Go.AM Go.Proofs
theorem Z4n{α:Type}(z:α)(l:List α)(i:Nat)(x:α):(Y7 z l i x).length=max l.length (i+1):=by
 simp only [Y7,List.length_set,List.length_append,List.length_replicate];omega
theorem Yt{α:Type}(z:α)(l:List α)(i:Nat)(x:α)(j:Nat):(Y7 z l i x).getD j z=if j=i then x else l.getD j z:=by
 simp only [Y7,List.getD_eq_getElem?_getD,List.getElem?_set,List.length_append,List.length_replicate]
 by_cases h:j=i
 ·subst h;rw [if_pos rfl,if_pos rfl,if_pos (by omega)];try rfl
 ·rw [if_neg (fun e=> h e.symm),if_neg h]
  by_cases hl:j < l.length
  ·rw [List.getElem?_append_left hl]
  ·rw [List.getElem?_append_right (by omega),List.getElem?_eq_none (l:=l) (by omega),List.getElem?_replicate]
   split <;> rfl
theorem Zee{α β:Type}(f:α→β)(z:α)(l:List α)(i:Nat)(x:α):(Y7 z l i x).map f=Y7 (f z) (l.map f) i (f x):=by
 simp [Y7,List.map_set]
theorem Z22:∀ l:List Tree,ZN l=Z8 l
 | []=> rfl
 | t ::r=> by simp [ZN,Z8,Z22 r]
theorem Z9w(l:List Tree)(i:Nat)(x:Tree):Z8 (Y7 Tree.nil l i x)=Y7 Tree.nil (Z8 l) i (Z5 x):=by
 rw [Z8,Zee,Z6P];try rfl
theorem Zi9{a b:List Tree}{i:Nat}{x y:Tree}(h:Z8 a=Z8 b)(hx:Z5 x=Z5 y):Z8 (Y7 Tree.nil a i x)=Z8 (Y7 Tree.nil b i y):=by
 rw [Z9w,Z9w,h,hx]
theorem Z3Y{a b c d:List Tree}(h:Z8 a=Z8 b)(hx:Z8 c=Z8 d):Z8 (a++c)=Z8 (b++d):=by
 rw [Yp,Yp,h,hx]
theorem Z9x(k:Int)(w:List Int){a b:List Tree}(h:Z8 a=Z8 b):Z5 (.mk k w a)=Z5 (.mk k w b):=by
 simp only [Z5,Z22,h]
theorem Z6O{a b:List Tree}(h:Z8 a=Z8 b):a.length=b.length:=by
 have:=congrArg List.length h
 simpa [Z8] using this
theorem ZaO{a b:Tree}:Z8 [a]=Z8 [b]↔Z5 a=Z5 b:=by simp [Z8]
def OptR{α β:Type}(R:α→β→Prop):Option α→Option β→Prop
 | none,none=> True
 | some a,some b=> R a b
 | _,_=> False
theorem OptR.rfl'{α:Type}(a:Option α):OptR Eq a a:=by cases a;exact trivial;exact rfl
theorem OptR.bind{α β γ δ:Type}{R:α→β→Prop}{S:γ→δ→Prop}{a:Option α}{b:Option β}{f:α→Option γ}{g:β→Option δ}(h:OptR R a b)(hf:∀ x y,R x y→OptR S (f x) (g y)):OptR S (a.bind f) (b.bind g):=by
 cases a <;> cases b <;> first | exact trivial | exact h.elim | exact hf _ _ h
theorem OptR.map{α β γ δ:Type}{R:α→β→Prop}{S:γ→δ→Prop}{a:Option α}{b:Option β}{f:α→γ}{g:β→δ}(h:OptR R a b)(hf:∀ x y,R x y→S (f x) (g y)):OptR S (a.map f) (b.map g):=by
 cases a <;> cases b <;> first | exact trivial | exact h.elim | exact hf _ _ h
theorem OptR.ite{α β:Type}{R:α→β→Prop}{p q:Prop} [Decidable p] [Decidable q] {a c:Option α}{b d:Option β}(h:p↔q)(h1:p→OptR R a b)(h2:¬p→OptR R c d):OptR R (if p then a else c) (if q then b else d):=by
 by_cases hp:p
 ·rw [if_pos hp,if_pos (h.1 hp)];exact h1 hp
 ·rw [if_neg hp,if_neg (fun hq=> hp (h.2 hq))];exact h2 hp
def Eqv(x y:Tree):Prop:=Z5 x=Z5 y
def EqvL(x y:List Tree):Prop:=Z8 x=Z8 y
theorem EqvL.take{x y:List Tree}(h:EqvL x y)(n:Nat):EqvL (x.take n) (y.take n):=by unfold EqvL Z8 at*;rw [List.map_take,List.map_take,h]
theorem EqvL.drop{x y:List Tree}(h:EqvL x y)(n:Nat):EqvL (x.drop n) (y.drop n):=by unfold EqvL Z8 at*;rw [List.map_drop,List.map_drop,h]
theorem EqvL.len{x y:List Tree}(h:EqvL x y):x.length=y.length:=Z6O h
theorem Z9v(l:List Tree)(i:Nat):(Z8 l).getD i Tree.nil=Z5 (l.getD i Tree.nil):=by rw [←Z22];exact Jd l i
theorem EqvL.get{x y:List Tree}(h:EqvL x y)(i:Nat):Eqv (x.getD i Tree.nil) (y.getD i Tree.nil):=by
 unfold Eqv;rw [←Z9v,←Z9v,h]
theorem ZdP{a b:Option (List Tree × List Tree)}(h:OptR (fun x y=> EqvL x.1 y.1∧EqvL x.2 y.2) a b):OptR EqvL (Z2J a) (Z2J b):=by
 unfold Z2J
 refine h.bind fun x y hxy=> ?_
 exact OptR.ite (by rw [hxy.2.len]) (fun _=> hxy.1) (fun _=> trivial)
def Zm3(a b:List Int):Prop:=∀ i:Nat,a.getD i 0=b.getD i 0
def ZiX(a b:List Tree):Prop:=∀ i:Nat,Eqv (a.getD i Tree.nil) (b.getD i Tree.nil)
theorem Z9W{a b:Tree}(ha:a.kind=1)(hb:b.kind=1):Eqv a b↔Zm3 a.words b.words∧ZiX a.kids b.kids:=by
 unfold Eqv Zm3 ZiX
 rw [ZZ,ha,hb]
 simp [Eqv]
theorem Zll{a b:Tree}(h0:a.kind≠0)(h1:a.kind≠1):Eqv a b↔a.kind=b.kind∧a.words=b.words∧EqvL a.kids b.kids:=by
 unfold Eqv EqvL
 rw [ZZ,if_neg h1,←Z22,←Z22,Z5A]
 simp [h0,and_assoc]
theorem Eqv.kind{a b:Tree}(h:Eqv a b):a.kind=b.kind:=((ZZ a b).1 h).1
theorem ZfF{tw tv:List Int}(h:Zm3 tw tv):∀ (ws:List WEdit) (a b:List Int),Zm3 a b→OptR Zm3 (wsD tw ws a) (wsD tv ws b)
 | [],_,_,hab=> hab
 | w ::r,a,b,hab=> by
  rw [wsD,wsD,h w.at_.toNat]
  refine OptR.ite Iff.rfl (fun _=> ZfF h r _ _ fun i=> ?_) (fun _=> trivial)
  rw [Yt,Yt]
  split
  ·try rfl
  ·exact hab i
theorem Ziv(l:List Tree){a b:List Tree}(h:EqvL a b):YG l a=YG l b:=by
 unfold YG
 rw [h.len,show Z8 (a.take l.length)=Z8 (b.take l.length) from h.take _]
mutual
theorem Zc9:∀ (e:Edit) (d:Int) (t s:Tree),Z3 e d=true→Eqv t s→OptR Eqv (doE false e t) (doE false e s)
 | .mk k o n w ks l os,d,t,s,hr,h=> by
  have h1:=ZdU ks t.kids s.kids
  have h2:=Z9Z os t.kids s.kids [] []
  have hk:=h.kind
  have hrt:=Zep hr
  rw [JB,JB,Ye,Ye]
  show OptR Eqv (if k=0 then _ else _) (if k=0 then _ else _)
  refine OptR.ite Iff.rfl (fun _=> h) fun _=> OptR.ite Iff.rfl (fun _=> ?_) fun _=> OptR.ite Iff.rfl (fun k2=> ?_) fun _=> OptR.ite Iff.rfl (fun k3=> ?_) (fun _=> trivial)
  ·rw [show Z5 t=Z5 s from h]
   exact OptR.ite Iff.rfl (fun _=> rfl) (fun _=> trivial)
  ·refine OptR.ite (by rw [hk]) (fun ht=> ?_) (fun _=> trivial)
   have hs:s.kind=1:=by rw [←hk];exact ht
   obtain ⟨hw,hks⟩:=(Z9W ht hs).1 h
   refine (ZfF hw w t.words s.words hw).bind fun a b hab=> ?_
   refine (h1 hks hrt.1 t.kids s.kids hks).map fun x y hxy=> ?_
   exact (Z9W rfl rfl).2 ⟨hab,hxy⟩
  ·refine OptR.ite (by rw [hk]) (fun ht=> ?_) (fun _=> trivial)
   have hl:=hrt.2.2
   have hos:=hrt.2.1
   replace ht:t.kind=l:=ht
   replace hl:2≤l∧l≤9:=hl k3
   obtain ⟨_,_,hks⟩:=(Zll (by omega) (by omega)).1 h
   exact (ZdP (h2 hks rfl hos)).map fun x y hxy=> Z9x _ _ hxy
theorem ZdU:∀ (ks:List (KidOf Edit)) (tk sk:List Tree),ZiX tk sk→(∀ k∈ks,∃ d,Z3 k.e d=true)→∀ a b,ZiX a b→OptR ZiX (YZ false tk ks a) (YZ false sk ks b)
 | [],_,_,_,_,_,_,hab=> hab
 | k ::r,tk,sk,h,hr,a,b,hab=> by
  rw [YZ,YZ]
  obtain ⟨d,hd⟩:=hr k List.mem_cons_self
  refine (ZiC k d tk sk h hd).bind fun x y hxy=> ZdU r tk sk h (fun q hq=> hr q (List.mem_cons_of_mem _ hq)) _ _ fun i=> ?_
  rw [Yt,Yt]
  split
  ·exact hxy
  ·exact hab i
theorem ZiC:∀ (k:KidOf Edit) (d:Int) (tk sk:List Tree),ZiX tk sk→Z3 k.e d=true→OptR Eqv (Z1F false tk k) (Z1F false sk k)
 | ⟨a,e⟩,d,tk,sk,h,hr=> by rw [Z1F,Z1F];exact Zc9 e d _ _ hr (h _)
theorem Z9Z:∀ (os:List (OpOf Edit)) (rt rs a b:List Tree),EqvL rt rs→EqvL a b→(∀ o∈os,∃ l d,Zd l o d=true)→OptR (fun x y=> EqvL x.1 y.1∧EqvL x.2 y.2) (ZE false os rt a) (ZE false os rs b)
 | [],_,_,_,_,h,hab,_=> ⟨hab,h⟩
 | o ::r,rt,rs,a,b,h,hab,hr=> by
  rw [ZE,ZE]
  refine (Zlq o rt rs a b h hab (hr o List.mem_cons_self)).bind fun x y hxy=> Z9Z r _ _ _ _ hxy.2 hxy.1 (fun q hq=> hr q (List.mem_cons_of_mem _ hq))
theorem Zlq:∀ (o:OpOf Edit) (rt rs a b:List Tree),EqvL rt rs→EqvL a b→(∃ l d,Zd l o d=true)→OptR (fun x y=> EqvL x.1 y.1∧EqvL x.2 y.2) (Z2K false o rt a) (Z2K false o rs b)
 | ⟨k,n,l,e⟩,rt,rs,a,b,h,hab,hr=> by
  obtain ⟨li,d,hr⟩:=hr
  have he:=fun h3=> Zc9 e d (rt.getD 0 Tree.nil) (rs.getD 0 Tree.nil) (Z2w hr h3) (h.get 0)
  have hlen:=h.len
  rw [Z2K,Z2K]
  refine OptR.ite Iff.rfl (fun _=> OptR.ite (by rw [hlen]) (fun _=> ⟨Z3Y hab (h.take _),h.drop _⟩) (fun _=> trivial)) fun k0=> OptR.ite Iff.rfl (fun _=> ?_) fun k1=> OptR.ite Iff.rfl (fun _=> ⟨Z3Y hab rfl,h⟩) fun k2=> OptR.ite (by rw [hlen]) (fun _=> trivial) fun _=> ?_
  ·rw [Ziv l h]
   exact OptR.ite Iff.rfl (fun _=> ⟨hab,h.drop _⟩) (fun _=> trivial)
  ·have h03:k=0∨k=1∨k=2∨k=3:=by
    have r:=Y2 hr
    generalize ho:OpOf.mk k n l e=o at r
    cases r <;> (injection ho with h1;subst h1;decide)
   exact (he (by show k=3;omega)).map fun x y h'=> ⟨Z3Y hab (ZaO.2 h'),h.drop _⟩
end
end Go.AM.Ytpjenobkibfpcaa
namespace Go.AM.Ytpjenobkibfpcaa
open Go.AM Go.Proofs
theorem Zdv{α β:Type}{f:α→β}(d:α){a b:List α}(hl:a.length=b.length)(h:∀ i:Nat,i < a.length→f (a.getD i d)=f (b.getD i d)):a.map f=b.map f:=by
 apply List.ext_getElem (by simpa using hl)
 intro i h1 h2
 have h1':i < a.length:=by simpa using h1
 have h2':i < b.length:=by simpa using h2
 have:=h i h1'
 simpa [List.getD_eq_getElem?_getD,List.getElem?_eq_getElem h1',List.getElem?_eq_getElem h2'] using this
theorem ZdM{α β:Type}{f:α→β}{d:α}{a b:List α}(h:a.map f=b.map f)(i:Nat):f (a.getD i d)=f (b.getD i d):=by
 have e:=congrArg (fun l=> l[i]?.getD (f d)) h
 simp only [List.getElem?_map] at e
 rw [List.getD_eq_getElem?_getD,List.getD_eq_getElem?_getD]
 cases h1:a[i]? <;> cases h2:b[i]? <;> simp_all
end Go.AM.Ytpjenobkibfpcaa
namespace Go.AM.Ytpjenobkibfpcaa
open Go.AM Go.Proofs
theorem Z26(t:Tree):(Z5 t).kind=t.kind:=by
 obtain ⟨k,w,ks⟩:=t
 simp only [Z5]
 by_cases h0:k=0
 ·rw [if_pos h0,h0];try rfl
 ·rw [if_neg h0]
  by_cases h1:k=1
  ·rw [if_pos h1,h1];try rfl
  ·rw [if_neg h1];try rfl
theorem Z8v:∀ (l:List Int),∃ r,l=trim l++r
 | []=> ⟨[],rfl⟩
 | x ::r=> by
  obtain ⟨s,hs⟩:=Z8v r
  simp only [trim]
  split
  ·rename_i e
   split
   ·exact ⟨x ::r,rfl⟩
   ·exact ⟨r,rfl⟩
  ·rename_i y t e
   rw [e] at hs
   exact ⟨s,by rw [hs];rfl⟩
theorem Z6r:∀ (l:List Tree),∃ r,l=ZP l++r
 | []=> ⟨[],rfl⟩
 | x ::r=> by
  obtain ⟨s,hs⟩:=Z6r r
  simp only [ZP]
  split
  ·rename_i e
   split
   ·exact ⟨x ::r,rfl⟩
   ·exact ⟨r,rfl⟩
  ·rename_i y t e
   rw [e] at hs
   exact ⟨s,by rw [hs];rfl⟩
theorem Z99{list d:Int}:∀ (a b:List Tree),ZM list (a++b) d=true→ZM list a d=true
 | [],_,_=> rfl
 | t ::r,b,h=> by
  simp only [List.cons_append,ZM,Bool.and_eq_true] at h ⊢
  exact ⟨h.1,Z99 r b h.2⟩
theorem Z0w:∀ (l:List Tree),(ZN l).length=l.length
 | []=> rfl
 | t ::r=> by simp only [ZN,List.length_cons,Z0w r]
theorem Ziq{list:Int}{t:Tree}(h:Jh list t=true):Jh list (Z5 t)=true:=by
 unfold Jh at h ⊢
 rw [Z26]
 split at h
 ·rename_i hl
  rw [if_pos hl]
  simp only [Bool.and_eq_true,decide_eq_true_eq] at h ⊢
  obtain ⟨⟨h1,h2,h3⟩,h4⟩:=h
  obtain ⟨k,w,ks⟩:=t
  simp only [Tree.kind_mk,Tree.kids_mk,Tree.words_mk] at h1 h2 h3 h4
  have:ks=[]:=List.length_eq_zero_iff.1 h2
  subst this
  subst h1
  exact ⟨⟨rfl,rfl,h3⟩,h4⟩
 ·rename_i hl
  rw [if_neg hl]
  exact h
mutual
theorem Z08:∀ (t:Tree) (d:Int),Z9 t d=true→Z9 (Z5 t) d=true
 | .mk k w ks,d,h=> by
  have ih:=fun (list:Int) (h:ZM list ks (d - 1)=true)=> Z39 ks list (d - 1) h
  simp only [Z9] at h
  simp only [Z5]
  by_cases h0:k=0
  ·rw [if_pos h0];simp [Tree.nil,Z9]
  ·rw [if_neg h0] at h ⊢
   by_cases h10:k=10
   ·subst h10
    rw [if_pos rfl] at h
    rw [if_neg (by decide)]
    simp only [decide_eq_true_eq] at h
    simp only [Z9]
    rw [if_neg (by decide),if_pos trivial,Z0w]
    simpa using h
   ·rw [if_neg h10] at h
    by_cases hd:d=0
    ·rw [if_pos hd] at h;cases h
    ·rw [if_neg hd] at h
     by_cases h1:k=1
     ·subst h1
      rw [if_pos rfl] at h
      rw [if_pos rfl]
      simp only [Bool.and_eq_true,decide_eq_true_eq] at h
      simp only [Z9]
      rw [if_neg (by decide),if_neg (by decide),if_neg hd,if_pos trivial]
      simp only [Bool.and_eq_true,decide_eq_true_eq]
      obtain ⟨r1,e1⟩:=Z8v w
      obtain ⟨r2,e2⟩:=Z6r (ZN ks)
      have l1:=congrArg List.length e1
      have l2:=congrArg List.length e2
      rw [Z0w] at l2
      simp only [List.length_append] at l1 l2
      refine ⟨⟨by omega,by omega⟩,?_⟩
      have:=ih 1 h.2
      rw [e2] at this
      exact Z99 _ _ this
     ·rw [if_neg h1] at h ⊢
      simp only [Bool.and_eq_true,decide_eq_true_eq] at h
      simp only [Z9]
      rw [if_neg h0,if_neg h10,if_neg hd,if_neg h1,Z0w]
      simp only [Bool.and_eq_true,decide_eq_true_eq]
      exact ⟨h.1,ih k h.2⟩
theorem Z39:∀ (l:List Tree) (list d:Int),ZM list l d=true→ZM list (ZN l) d=true
 | [],_,_,_=> rfl
 | t ::r,list,d,h=> by
  simp only [ZM,Bool.and_eq_true] at h
  have h1:=Z08 t d h.1.2
  have h2:=Z39 r list d h.2
  simp only [ZN,ZM,Bool.and_eq_true]
  exact ⟨⟨Ziq h.1.1,h1⟩,h2⟩
end
end Go.AM.Ytpjenobkibfpcaa
namespace Go.AM.Ytpjenobkibfpcaa
open Go.AM Go.Proofs
theorem Z6V:∀ (a b:List Tree),Za (a++b)=Za a+Za b
 | [],b=> by simp [Za]
 | t ::r,b=> by simp only [List.cons_append,Za,Z6V r b];omega
theorem YQ:∀ (a b:List Op),Zf (a++b)=Zf a+Zf b
 | [],b=> by simp [Zf]
 | t ::r,b=> by simp only [List.cons_append,Zf,YQ r b];omega
theorem Z7M:∀ (l:List Tree),Za (Z8 l)≤Za l
 | []=> by simp [Z8,Za]
 | t ::r=> by
  have h:=Z7M r
  have h2:=Jc t
  simp only [Z8] at h
  simp only [Z8,List.map_cons,Za]
  omega
theorem Z41:Ze Edit.nil=3:=by simp [Edit.nil,Tree.nil,Ze,Zg,Za,ZK,Zf]
theorem Z6T:Zg Tree.nil=1:=by simp [Tree.nil,Zg,Za]
theorem Z40(t:Tree):1≤Zg t:=by cases t;simp only [Zg];omega
theorem Z3p:∀ (e:Edit),3≤Ze e
 | .mk k o n w ks l os=> by
  have h1:=Z40 o
  have h2:=Z40 n
  simp only [Ze];omega
def Z3h(w:Wst):Nat:=Zf w.out+w.out.length+Za w.gone+Za w.brought+(if w.gone.length=0 then 0 else 4)+(if w.brought.length=0 then 0 else 4)
theorem Jf(o:Op):Zf [o]=ZW o:=by simp [Zf]
theorem Z0M(k n:Int)(l:List Tree)(e:Edit):ZW (OpOf.mk k n l e)=Za l+Ze e:=rfl
theorem Z6J(w:Wst):Zf (Z1 w).out+(Z1 w).out.length=Z3h w:=by
 simp only [Z1,Ji,Z3h]
 rw [YQ,YQ,List.length_append,List.length_append]
 by_cases hg:w.gone.length=0
 ·have e:w.gone=[]:=List.length_eq_zero_iff.1 hg
  rw [if_pos hg,if_pos hg,e]
  by_cases hb:w.brought.length=0
  ·have e2:w.brought=[]:=List.length_eq_zero_iff.1 hb
   rw [if_pos hb,if_pos hb,e2];simp [Zf,Za]
  ·rw [if_neg hb,if_neg hb,Jf,Z0M,Z41];simp [Zf,Za];omega
 ·rw [if_neg hg,if_neg hg,Jf,Z0M,Z41]
  by_cases hb:w.brought.length=0
  ·have e2:w.brought=[]:=List.length_eq_zero_iff.1 hb
   rw [if_pos hb,if_pos hb,e2];simp [Zf,Za];omega
  ·rw [if_neg hb,if_neg hb,Jf,Z0M,Z41];simp;omega
theorem Zd9(w:Wst)(n:Int):Z3h (ZI w n)≤Z3h w+4:=by
 have h:=Z6J w
 have e:Z3h (ZI w n)=Zf (Z0h (Z1 w).out n)+(Z0h (Z1 w).out n).length:=by simp [Z3h,ZI,Za]
 rw [e]
 rcases YS (Z1 w).out n with e | ⟨a,o,e1,_,e3⟩
 ·rw [e,YQ,List.length_append,Jf,Z0M,Z41];simp [Za];omega
 ·rw [e3,YQ,List.length_append,Jf]
  rw [e1,YQ,List.length_append,Jf] at h
  obtain ⟨k,m,l,e⟩:=o
  simp only [Z0M] at h ⊢
  simp at h ⊢
  omega
theorem ZpE{list:Int}{w:Wst}{o:Op}(hi:Ze (Yb o.e)≤Ze o.e):Z3h (Z0b list o w)≤Z3h w+ZW o+1:=by
 have h3:=Z3p o.e
 have hm:ZW o=Za o.l+Ze o.e:=by cases o;rfl
 have hn:=Z7M o.l
 have hl:(Z8 o.l).length=o.l.length:=by simp [Z8]
 rw [Z1b]
 split
 ·have:=Zd9 w o.n;omega
 ·split
  ·simp only [Z3h,Z6V,List.length_append,hl]
   split <;> split <;> split <;> omega
  ·split
   ·simp only [Z3h,Z6V,List.length_append,hl]
    split <;> split <;> split <;> omega
   ·split
    ·split
     ·have:=Zd9 w 1;omega
     ·have:=Z6J w
      have e:Z3h ⟨(Z1 w).out++[⟨3,0,[],Yb o.e⟩],[],[]⟩=Zf ((Z1 w).out++[(⟨3,0,[],Yb o.e⟩:Op)])+((Z1 w).out++[(⟨3,0,[],Yb o.e⟩:Op)]).length:=by simp [Z3h,Za]
      rw [e,YQ,List.length_append,Jf,Z0M]
      simp [Za];omega
    ·omega
mutual
theorem Z6X:∀ (e:Edit),Ze (Yb e)≤Ze e
 | .mk k o n w ks l os=> by
  have h1:=Z9H ks
  have h2:=Zgl l os W0
  have h3:=Z6J (Y3 l os W0)
  have e0:Z3h W0=0:=rfl
  have po:=Z40 o
  have pn:=Z40 n
  have mo:=Jc o
  have mn:=Jc n
  rw [Yb]
  split
  ·simp only [Ze,ZK,Zf,List.length_nil];omega
  ·split
   ·simp only [Ze,ZK,Zf,List.length_nil,Z6T];omega
   ·split
    ·simp only [Ze,ZK,List.length_nil,Z6T]
     show 1+1+1+0+(Z1 (Y3 l os W0)).out.length+0+Zf (Z1 (Y3 l os W0)).out≤_
     omega
    ·simp only [Ze,ZK,Zf,List.length_nil,Z6T];omega
theorem Z9H:∀ (ks:List (KidOf Edit)),ZK (J4 ks)≤ZK ks
 | []=> Nat.le_refl _
 | k ::r=> by
  have h1:=Zdu k
  have h2:=Z9H r
  simp only [J4,ZK];omega
theorem Zdu:∀ (k:KidOf Edit),Js (Z1c k)≤Js k
 | ⟨a,e⟩=> by
  have h:=Z6X e
  simp only [Z1c,Js];exact h
theorem Zgl(list:Int):∀ (os:List (OpOf Edit)) (w:Wst),Z3h (Y3 list os w)≤Z3h w+Zf os+os.length
 | [],w=> by simp [Y3,Zf]
 | o ::r,w=> by
  have h1:=Zi3 list o w
  have h2:=Zgl list r (Z0b list o w)
  simp only [Y3,Zf,List.length_cons];omega
theorem Zi3(list:Int):∀ (o:OpOf Edit) (w:Wst),Z3h (Z0b list o w)≤Z3h w+ZW o+1
 | ⟨k,n,l,e⟩,_=> ZpE (o:=⟨k,n,l,e⟩) (Z6X e)
end
end Go.AM.Ytpjenobkibfpcaa
namespace Go.AM.Ytpjenobkibfpcaa
open Go.AM Go.Proofs
theorem Z6N(e:Edit):(Yb e).kind=e.kind:=by
 rw [Z5x]
 split
 ·try rfl
 ·split
  ·try rfl
  ·split <;> rfl
theorem Zdj(e:Edit)(h:e.kind=1):(Yb e).old=Z5 e.old∧(Yb e).new=Z5 e.new:=by
 rw [Z5x,if_pos h]
 exact ⟨rfl,rfl⟩
theorem Zeq{D list:Int}{t:Tree}(hD:D≠0)(h:Z9 (.mk list [] [t]) D=true):Z9 (.mk list [] [Z5 t]) D=true:=by
 have key:=fun (k d:Int) (h:ZM k [t] d=true)=> Z39 [t] k d h
 simp only [ZN] at key
 simp only [Z9] at h ⊢
 split at h
 ·simp at h
 ·rename_i h0
  rw [if_neg h0]
  split at h
  ·simp at h
  ·rename_i h1
   rw [if_neg h1]
   try rw [if_neg hD] at h
   try rw [if_neg hD]
   split at h
   ·rename_i h2
    rw [if_pos h2]
    simp only [Bool.and_eq_true] at h ⊢
    exact ⟨h.1,key _ _ h.2⟩
   ·rename_i h2
    rw [if_neg h2]
    simp only [Bool.and_eq_true] at h ⊢
    exact ⟨h.1,key _ _ h.2⟩
theorem Z1I{D list:Int}(hD:D≠0):∀ {l:List Tree},Yo D list l=true→Yo D list (Z8 l)=true
 | [],_=> rfl
 | t ::r,h=> by
  simp only [Yo,Bool.and_eq_true] at h
  have h2:=Z1I hD h.2
  simp only [Z8] at h2
  simp only [Z8,List.map_cons,Yo,Bool.and_eq_true]
  exact ⟨Zeq hD h.1,h2⟩
theorem Z2X{D list:Int}:∀ {a b:List Tree},Yo D list a=true→Yo D list b=true→Yo D list (a++b)=true
 | [],_,_,h=> h
 | t ::r,b,h,h2=> by
  simp only [Yo,Bool.and_eq_true] at h
  simp only [List.cons_append,Yo,Bool.and_eq_true]
  exact ⟨h.1,Z2X h.2 h2⟩
def rOp(list:Int)(d:Int)(o:Op):Prop:=(o.kind=0→1≤o.n∧o.l.length=0∧JH o.e=true)∧(o.kind≠0→Zd list o d=true)
theorem Zka{list d:Int}{o:Op}(h:Zd list o d=true):rOp list d o:=by
 refine ⟨fun hk=> ?_,fun _=> h⟩
 obtain ⟨k,n,l,e⟩:=o
 simp only at hk
 subst hk
 simp only [Zd,if_true,Bool.and_eq_true,decide_eq_true_eq] at h
 exact ⟨h.1.1,h.1.2.2,h.2⟩
theorem ZpB{list d:Int}{o:Op}(h:rOp list d o)(hn:o.kind=0→o.n≤1048576):Zd list o d=true:=by
 by_cases hk:o.kind=0
 ·have h1:=h.1 hk
  have h2:=hn hk
  obtain ⟨k,n,l,e⟩:=o
  simp only at hk h1 h2
  subst hk
  simp only [Zd,if_true,Bool.and_eq_true,decide_eq_true_eq]
  exact ⟨⟨h1.1,h2,h1.2.1⟩,h1.2.2⟩
 ·exact h.2 hk
theorem Z1y{list:Int}:∀ {os:List Op} {d:Int},Zx list os d=true↔∀ o∈os,Zd list o d=true
 | [],d=> by simp [Zx]
 | o ::r,d=> by
  simp only [Zx,Bool.and_eq_true,List.mem_cons,forall_eq_or_imp]
  rw [Z1y (os:=r)]
theorem Z4C:JH Edit.nil=true:=rfl
structure OkW (list d:Int) (w:Wst):Prop where
 out:∀ o∈w.out,rOp list d o
 gone:Yo (dT d) list w.gone=true
 brought:Yo (dT d) list w.brought=true
theorem Z6M{list d:Int}{w:Wst}(h:OkW list d w):OkW list d (Z1 w):=by
 refine ⟨?_,rfl,rfl⟩
 simp only [Z1,Ji]
 intro o ho
 rcases List.mem_append.1 ho with ho | ho
 ·exact h.out o ho
 rcases List.mem_append.1 ho with ho | ho
 ·split at ho
  ·cases ho
  ·rename_i hl
   simp only [List.mem_singleton] at ho
   subst ho
   refine ⟨fun hk=> (by cases hk),fun _=> ?_⟩
   simp only [Zd]
   rw [if_neg (by decide),if_neg (by decide),if_pos (by decide),h.gone,Z4C]
   simp only [Bool.and_true,Bool.true_and,decide_eq_true_eq]
   omega
 ·split at ho
  ·cases ho
  ·rename_i hl
   simp only [List.mem_singleton] at ho
   subst ho
   refine ⟨fun hk=> (by cases hk),fun _=> ?_⟩
   simp only [Zd]
   rw [if_neg (by decide),if_neg (by decide),if_pos (by decide),h.brought,Z4C]
   simp only [Bool.and_true,Bool.true_and,decide_eq_true_eq]
   omega
theorem Zdg{list d:Int}{w:Wst}{n:Int}(h:OkW list d w)(hn:1≤n):OkW list d (ZI w n):=by
 have hf:=Z6M h
 refine ⟨?_,rfl,rfl⟩
 simp only [ZI]
 intro o ho
 rcases YS (Z1 w).out n with e | ⟨a,q,e1,e2,e3⟩
 ·rw [e] at ho
  rcases List.mem_append.1 ho with ho | ho
  ·exact hf.out o ho
  ·simp only [List.mem_singleton] at ho
   subst ho
   exact ⟨fun _=> ⟨hn,rfl,Z4C⟩,fun hk=> absurd rfl hk⟩
 ·rw [e3] at ho
  rcases List.mem_append.1 ho with ho | ho
  ·exact hf.out o (by rw [e1];exact List.mem_append.2 (Or.inl ho))
  ·simp only [List.mem_singleton] at ho
   subst ho
   have hq:=(hf.out q (by rw [e1];simp)).1 e2
   exact ⟨fun _=> ⟨by simp only;omega,hq.2⟩,fun hk=> absurd e2 hk⟩
theorem ZpH{list d:Int}{w:Wst}{o:Op}(h:OkW list d w)(hr:Zd list o d=true)(hi:Z3 o.e d=true→Z3 (Yb o.e) d=true):OkW list d (Z0b list o w):=by
 obtain ⟨k,n,l,e⟩:=o
 have hr0:=hr
 rw [Zd] at hr
 rw [Z1b]
 simp only at hi ⊢
 split at hr
 ·rename_i hk
  rw [if_pos hk]
  simp only [Bool.and_eq_true,decide_eq_true_eq] at hr
  exact Zdg h hr.1.1
 ·rename_i hk
  rw [if_neg hk]
  split at hr
  ·cases hr
  ·rename_i hn
   split at hr
   ·rename_i h3
    simp only [Bool.and_eq_true,decide_eq_true_eq] at hr
    by_cases k1:k=1
    ·rw [if_pos k1]
     exact ⟨h.out,Z2X h.gone (Z1I (Zpc d) hr.1.1),h.brought⟩
    ·rw [if_neg k1,if_pos (by omega)]
     exact ⟨h.out,h.gone,Z2X h.brought (Z1I (Zpc d) hr.1.1)⟩
   ·rename_i h3
    rw [if_neg (by omega),if_neg (by omega),if_pos (by omega)]
    split
    ·exact Zdg h (by decide)
    ·have hf:=Z6M h
     refine ⟨?_,rfl,rfl⟩
     intro o ho
     rcases List.mem_append.1 ho with ho | ho
     ·exact hf.out o ho
     ·simp only [List.mem_singleton] at ho
      subst ho
      refine ⟨fun hk=> (by cases hk),fun _=> ?_⟩
      simp only [Bool.and_eq_true,decide_eq_true_eq] at hr
      simp only [Zd]
      rw [if_neg (by decide),if_neg (by decide),if_neg (by decide),Z6N,hi hr.1.2]
      simp only [Bool.and_true,Bool.and_eq_true,decide_eq_true_eq]
      refine ⟨⟨rfl,hr.1.1.2⟩,?_⟩
      rcases hr.2 with h | h | h
      ·exact Or.inl h
      ·exact Or.inr (Or.inl h)
      ·rw [(Zdj e h.1).1,(Zdj e h.1).2,Z26,Z26]
       exact Or.inr (Or.inr h)
def Yz:List Op→Int
 | []=> 0
 | o ::r=> (if o.kind=2 then 0 else Zn o)+Yz r
def YH:List Op→Int
 | []=> 0
 | o ::r=> (if o.kind=1 then 0 else Zn o)+YH r
theorem Z1T:∀ (a b:List Op),Yz (a++b)=Yz a+Yz b
 | [],b=> by simp [Yz]
 | o ::r,b=> by simp only [List.cons_append,Yz,Z1T r b];omega
theorem Z1S:∀ (a b:List Op),YH (a++b)=YH a+YH b
 | [],b=> by simp [YH]
 | o ::r,b=> by simp only [List.cons_append,YH,Z1S r b];omega
theorem Z3s:∀ (l:List Op) (n:Int),(∀ o∈l,0≤Zn o)→0≤n→n≤1048576→JG l n=min (n+Yz l) 1048576∧0≤Yz l
 | [],n,_,h1,h2=> by simp only [JG,Yz];omega
 | o ::r,n,h,h1,h2=> by
  have ho:=h o (List.mem_cons_self ..)
  simp only [JG,Yz]
  have hx:0≤(if o.kind=2 then n else n+Zn o)∧(if o.kind=2 then n else n+Zn o)=n+(if o.kind=2 then 0 else Zn o):=by split <;> omega
  have hy:0≤(if o.kind=2 then 0 else Zn o):=by split <;> omega
  rw [hx.2]
  rw [hx.2] at hx
  generalize (if o.kind=2 then 0 else Zn o)=y at*
  obtain ⟨e1,e2⟩:=Z3s r (min (n+y) 1048576) (fun x hx=> h x (List.mem_cons_of_mem _ hx)) (by omega) (by omega)
  rw [e1]
  omega
theorem Z3r:∀ (l:List Op) (n:Int),(∀ o∈l,0≤Zn o)→0≤n→n≤1048576→JF l n=min (n+YH l) 1048576∧0≤YH l
 | [],n,_,h1,h2=> by simp only [JF,YH];omega
 | o ::r,n,h,h1,h2=> by
  have ho:=h o (List.mem_cons_self ..)
  simp only [JF,YH]
  have hx:0≤(if o.kind=1 then n else n+Zn o)∧(if o.kind=1 then n else n+Zn o)=n+(if o.kind=1 then 0 else Zn o):=by split <;> omega
  have hy:0≤(if o.kind=1 then 0 else Zn o):=by split <;> omega
  rw [hx.2]
  rw [hx.2] at hx
  generalize (if o.kind=1 then 0 else Zn o)=y at*
  obtain ⟨e1,e2⟩:=Z3r r (min (n+y) 1048576) (fun x hx=> h x (List.mem_cons_of_mem _ hx)) (by omega) (by omega)
  rw [e1]
  omega
theorem Z5r{list d:Int}{o:Op}(h:rOp list d o):0≤Zn o:=by
 unfold Zn
 split
 ·decide
 ·by_cases hk:o.kind=0
  ·have:=(h.1 hk).1;omega
  ·have hr:=h.2 hk
   obtain ⟨k,n,l,e⟩:=o
   simp only at hk ⊢
   rw [Zd,if_neg hk] at hr
   split at hr
   ·cases hr
   ·omega
theorem ZcE:∀ {l:List Op} {o:Op},(∀ o∈l,0≤Zn o)→o∈l→o.kind≠2→Zn o≤Yz l
 | a ::r,o,h,ho,hk=> by
  have hr:=(Z3s r 0 (fun x hx=> h x (List.mem_cons_of_mem _ hx)) (by decide) (by decide)).2
  have ha:=h a (List.mem_cons_self ..)
  simp only [Yz]
  rcases List.mem_cons.1 ho with rfl | ho
  ·rw [if_neg hk];omega
  ·have:=ZcE (fun x hx=> h x (List.mem_cons_of_mem _ hx)) ho hk
   split <;> omega
def sA(w:Wst):Int:=Yz w.out+w.gone.length
def sB(w:Wst):Int:=YH w.out+w.brought.length
theorem Z6u(w:Wst):Yz (Z1 w).out=sA w∧YH (Z1 w).out=sB w:=by
 simp only [Z1,Ji,sA,sB,Z1T,Z1S]
 constructor
 ·by_cases hg:w.gone.length=0
  ·rw [if_pos hg]
   by_cases hb:w.brought.length=0
   ·rw [if_pos hb];simp [Yz];omega
   ·rw [if_neg hb];simp [Yz];omega
  ·rw [if_neg hg]
   by_cases hb:w.brought.length=0
   ·rw [if_pos hb];simp [Yz,Zn]
   ·rw [if_neg hb];simp [Yz,Zn]
 ·by_cases hg:w.gone.length=0
  ·rw [if_pos hg]
   by_cases hb:w.brought.length=0
   ·rw [if_pos hb];simp [YH];omega
   ·rw [if_neg hb];simp [YH,Zn]
  ·rw [if_neg hg]
   by_cases hb:w.brought.length=0
   ·rw [if_pos hb];simp [YH];omega
   ·rw [if_neg hb];simp [YH,Zn]
theorem ZcD(w:Wst)(n:Int):sA (ZI w n)=sA w+n∧sB (ZI w n)=sB w+n:=by
 have hf:=Z6u w
 simp only [ZI]
 have e1:∀ x,sA ⟨x,[],[]⟩=Yz x:=fun x=> by simp [sA]
 have e2:∀ x,sB ⟨x,[],[]⟩=YH x:=fun x=> by simp [sB]
 rw [e1,e2,←hf.1,←hf.2]
 rcases YS (Z1 w).out n with e | ⟨a,q,e1,e2,e3⟩
 ·rw [e,Z1T,Z1S]
  simp [Yz,YH,Zn]
 ·rw [e3,e1,Z1T,Z1S,Z1T,Z1S]
  simp only [Yz,YH,Zn,e2]
  simp
  omega
theorem Zpt{list d:Int}{w:Wst}{o:Op}(hr:Zd list o d=true):sA (Z0b list o w)=sA w+(if o.kind=2 then 0 else Zn o)∧sB (Z0b list o w)=sB w+(if o.kind=1 then 0 else Zn o):=by
 have hl:∀ l,((Z8 l).length:Int)=l.length:=fun l=> by simp [Z8]
 obtain ⟨k,n,l,e⟩:=o
 rw [Zd] at hr
 rw [Z1b]
 simp only [Zn]
 split at hr
 ·rename_i hk
  subst hk
  rw [if_pos rfl]
  simp only [Bool.and_eq_true,decide_eq_true_eq] at hr
  have:=ZcD w n
  simp
  omega
 ·rename_i hk
  rw [if_neg hk]
  split at hr
  ·cases hr
  ·rename_i hn
   split at hr
   ·rename_i h3
    by_cases k1:k=1
    ·subst k1
     rw [if_pos rfl]
     simp only [sA,sB,List.length_append]
     simp [hl]
     omega
    ·have k2:k=2:=by omega
     subst k2
     rw [if_neg k1,if_pos rfl]
     simp only [sA,sB,List.length_append]
     simp [hl]
     omega
   ·rename_i h3
    have k3:k=3:=by omega
    subst k3
    rw [if_neg (by omega),if_neg (by omega),if_pos rfl]
    split
    ·have:=ZcD w 1
     simp
     omega
    ·have:=Z6u w
     simp only [sA,sB,Z1T,Z1S,Yz,YH,Zn] at this ⊢
     simp
     omega
mutual
theorem Z11:∀ (e:Edit) (d:Int),Z3 e d=true→Z3 (Yb e) d=true
 | .mk k o n w ks l os,d,h=> by
  have h1:=Z7p ks
  have h2:=Zgo l os
  have h4:=ZfL l os
  rw [Z3] at h
  split at h
  ·cases h
  ·rename_i a
   split at h
   ·cases h
   ·rename_i b
    have nn:ZH Tree.nil=true:=rfl
    by_cases k1:k=1
    ·subst k1
     rw [if_pos rfl] at h
     have hl:l=0:=by
      apply Classical.byContradiction
      intro hl
      exact b (.inr (.inr ⟨by decide,.inl hl⟩))
     simp only [Bool.and_eq_true,decide_eq_true_eq] at h
     rw [Yb,if_pos rfl,Z3,if_neg a,if_neg (by simp [hl]),if_pos rfl]
     simp only [Bool.and_eq_true,decide_eq_true_eq]
     rw [Z26,Z26]
     exact ⟨⟨Z08 _ _ h.1.1,Z08 _ _ h.1.2⟩,h.2⟩
    ·rw [if_neg k1] at h
     simp only [Bool.and_eq_true,decide_eq_true_eq] at h
     obtain ⟨⟨⟨⟨x1,x2⟩,x3⟩,x4⟩,x5⟩:=h
     rw [Yb,if_neg k1]
     by_cases k2:k=2
     ·have hl:l=0:=by
       apply Classical.byContradiction
       intro hl
       exact b (.inr (.inr ⟨by omega,.inl hl⟩))
      rw [if_pos k2,Z3,if_neg a,if_neg (by simp [nn,hl,k2]),if_neg k1]
      simp only [Bool.and_eq_true,decide_eq_true_eq]
      exact ⟨⟨⟨⟨x1,h1 _ _ x2⟩,x3⟩,rfl⟩,by decide⟩
     ·rw [if_neg k2]
      by_cases k3:k=3
      ·rw [if_pos k3,Z3,if_neg a,if_neg (by simp [nn,k3]),if_neg k1]
       simp only [Bool.and_eq_true,decide_eq_true_eq]
       have hall:=Z1y.1 x4
       obtain ⟨y1,y2⟩:=Z3s os 0 (fun o ho=> Z5r (Zka (hall o ho))) (by decide) (by decide)
       obtain ⟨z1,z2⟩:=Z3r os 0 (fun o ho=> Z5r (Zka (hall o ho))) (by decide) (by decide)
       have hw:=h2 (d - 1) W0 x4 ⟨fun o ho=> (by cases ho),rfl,rfl⟩
       have hs:=h4 (d - 1) W0 x4
       have hff:=Z6M hw
       have hsf:=Z6u (Y3 l os W0)
       have e0:sA W0=0∧sB W0=0:=⟨rfl,rfl⟩
       have hA:=Z3s (Z1 (Y3 l os W0)).out 0 (fun o ho=> Z5r (hff.out o ho)) (by decide) (by decide)
       have hB:=Z3r (Z1 (Y3 l os W0)).out 0 (fun o ho=> Z5r (hff.out o ho)) (by decide) (by decide)
       refine ⟨⟨⟨⟨rfl,rfl⟩,x3⟩,Z1y.2 (fun o ho=> ZpB (hff.out o ho) (fun hk=> ?_))⟩,?_,?_⟩
       ·have hm:=ZcE (fun o ho=> Z5r (hff.out o ho)) ho (by omega)
        unfold Zn at hm
        rw [if_neg (by omega)] at hm
        omega
       ·show JG (Z1 (Y3 l os W0)).out 0 < 1048576
        omega
       ·show JF (Z1 (Y3 l os W0)).out 0 < 1048576
        omega
      ·have hl:l=0:=by
        apply Classical.byContradiction
        intro hl
        exact b (.inr (.inr ⟨k3,.inl hl⟩))
       rw [if_neg k3,Z3,if_neg a,if_neg (by simp [nn,hl]),if_neg k1]
       simp only [Bool.and_eq_true,decide_eq_true_eq]
       exact ⟨⟨⟨⟨rfl,rfl⟩,x3⟩,rfl⟩,by decide⟩
theorem Z7p:∀ (ks:List (KidOf Edit)) (last d:Int),Zv last ks d=true→Zv last (J4 ks) d=true
 | [],_,_,_=> rfl
 | k ::r,last,d,h=> by
  simp only [Zv,Bool.and_eq_true] at h
  have h1:=Zbu k last d h.1
  have h2:=Z7p r k.at_ d h.2
  simp only [J4,Zv,Bool.and_eq_true]
  exact ⟨h1,by rw [ZaN];exact h2⟩
theorem Zbu:∀ (k:KidOf Edit) (last d:Int),Z0a last k d=true→Z0a last (Z1c k) d=true
 | ⟨a,e⟩,last,d,h=> by
  simp only [Z0a,Bool.and_eq_true] at h
  have h1:=Z11 e d h.2
  simp only [Z1c,Z0a,Bool.and_eq_true]
  rw [Z6N]
  exact ⟨h.1,h1⟩
theorem Zgo(list:Int):∀ (os:List (OpOf Edit)) (d:Int) (w:Wst),Zx list os d=true→OkW list d w→OkW list d (Y3 list os w)
 | [],_,_,_,hw=> hw
 | o ::r,d,w,h,hw=> by
  simp only [Zx,Bool.and_eq_true] at h
  have h1:=Zi7 list o d w h.1 hw
  exact Zgo list r d _ h.2 h1
theorem Zi7(list:Int):∀ (o:OpOf Edit) (d:Int) (w:Wst),Zd list o d=true→OkW list d w→OkW list d (Z0b list o w)
 | ⟨k,n,l,e⟩,d,w,h,hw=> ZpH (o:=⟨k,n,l,e⟩) hw h (fun he=> Z11 e d he)
theorem ZfL(list:Int):∀ (os:List (OpOf Edit)) (d:Int) (w:Wst),Zx list os d=true→sA (Y3 list os w)=sA w+Yz os∧sB (Y3 list os w)=sB w+YH os
 | [],_,_,_=> by simp [Y3,Yz,YH]
 | o ::r,d,w,h=> by
  simp only [Zx,Bool.and_eq_true] at h
  have h1:=Zpt (w:=w) h.1
  have h2:=ZfL list r d (Z0b list o w) h.2
  simp only [Y3,Yz,YH]
  omega
end
end Go.AM.Ytpjenobkibfpcaa
namespace Go.AM.Ytpjenobkibfpcaa
open Go.AM Go.Proofs
theorem Z37:∀ {a b:List Tree},ZO (a++b)↔ZO a∧ZO b
 | [],b=> by simp [ZO]
 | t ::r,b=> by simp only [List.cons_append,ZO];rw [Z37 (a:=r),and_assoc]
mutual
theorem Z05:∀ (t:Tree),rng t→rng (Z5 t)
 | .mk k w ks,h=> by
  simp only [rng] at h
  obtain ⟨h1,h2,h3⟩:=h
  have h4:=ZaB ks h3
  simp only [Z5]
  split
  ·simp only [Tree.nil,rng,ZO]
   exact ⟨by decide,by simp,trivial⟩
  ·split
   ·obtain ⟨r1,e1⟩:=Z8v w
    obtain ⟨r2,e2⟩:=Z6r (ZN ks)
    simp only [rng]
    refine ⟨by decide,fun x hx=> h2 x (by rw [e1];exact List.mem_append.2 (Or.inl hx)),?_⟩
    rw [e2] at h4
    exact (Z37.1 h4).1
   ·simp only [rng]
    exact ⟨h1,h2,h4⟩
theorem ZaB:∀ (l:List Tree),ZO l→ZO (ZN l)
 | [],_=> trivial
 | t ::r,h=> by
  simp only [ZO] at h
  have h1:=Z05 t h.1
  have h2:=ZaB r h.2
  simp only [ZN,ZO]
  exact ⟨h1,h2⟩
end
theorem Z4F:∀ {l:List Tree},ZO l→ZO (Z8 l)
 | [],_=> trivial
 | t ::r,h=> by
  simp only [ZO] at h
  have h2:=Z4F h.2
  simp only [Z8] at h2
  simp only [Z8,List.map_cons,ZO]
  exact ⟨Z05 t h.1,h2⟩
theorem Z06:rng Tree.nil:=by
 simp only [Tree.nil,rng,ZO]
 exact ⟨by decide,by simp,trivial⟩
structure RngW (w:Wst):Prop where
 out:∀ o∈w.out,ZO o.l∧ZL o.e
 gone:ZO w.gone
 brought:ZO w.brought
theorem Z3Q:ZL Edit.nil:=by
 simp only [Edit.nil,ZL,Z1x,Z1w]
 exact ⟨by unfold isI;omega,Z06,Z06,by simp,by unfold isI;omega,trivial,trivial⟩
theorem Z4D{w:Wst}(h:RngW w):RngW (Z1 w):=by
 refine ⟨?_,trivial,trivial⟩
 simp only [Z1,Ji]
 intro o ho
 rcases List.mem_append.1 ho with ho | ho
 ·exact h.out o ho
 rcases List.mem_append.1 ho with ho | ho
 ·split at ho
  ·cases ho
  ·simp only [List.mem_singleton] at ho
   subst ho
   exact ⟨h.gone,Z3Q⟩
 ·split at ho
  ·cases ho
  ·simp only [List.mem_singleton] at ho
   subst ho
   exact ⟨h.brought,Z3Q⟩
theorem Zax{w:Wst}{n:Int}(h:RngW w):RngW (ZI w n):=by
 have hf:=Z4D h
 refine ⟨?_,trivial,trivial⟩
 simp only [ZI]
 intro o ho
 rcases YS (Z1 w).out n with e | ⟨a,q,e1,e2,e3⟩
 ·rw [e] at ho
  rcases List.mem_append.1 ho with ho | ho
  ·exact hf.out o ho
  ·simp only [List.mem_singleton] at ho
   subst ho
   exact ⟨trivial,Z3Q⟩
 ·rw [e3] at ho
  rcases List.mem_append.1 ho with ho | ho
  ·exact hf.out o (by rw [e1];exact List.mem_append.2 (Or.inl ho))
  ·simp only [List.mem_singleton] at ho
   subst ho
   exact hf.out q (by rw [e1];simp)
theorem ZfX{list:Int}{w:Wst}{o:Op}(h:RngW w)(hl:ZO o.l)(he:ZL (Yb o.e)):RngW (Z0b list o w):=by
 rw [Z1b]
 split
 ·exact Zax h
 ·split
  ·exact ⟨h.out,Z37.2 ⟨h.gone,Z4F hl⟩,h.brought⟩
  ·split
   ·exact ⟨h.out,h.gone,Z37.2 ⟨h.brought,Z4F hl⟩⟩
   ·split
    ·split
     ·exact Zax h
     ·refine ⟨?_,trivial,trivial⟩
      intro o ho
      rcases List.mem_append.1 ho with ho | ho
      ·exact (Z4D h).out o ho
      ·simp only [List.mem_singleton] at ho
       subst ho
       exact ⟨trivial,he⟩
    ·exact h
theorem Z7o:∀ {os:List Op},(∀ o∈os,JI o)→Z1w os
 | [],_=> trivial
 | o ::r,h=> by
  simp only [Z1w]
  exact ⟨h o (List.mem_cons_self ..),Z7o (fun x hx=> h x (List.mem_cons_of_mem _ hx))⟩
theorem ZcN{list d:Int}{o:Op}(h:Zd list o d=true)(hl:ZO o.l)(he:ZL o.e):JI o:=by
 have hn:=Z3R h
 obtain ⟨k,n,l,e⟩:=o
 simp only at hn hl he
 simp only [JI]
 refine ⟨?_,by unfold isI;omega,hl,he⟩
 rw [Zd] at h
 unfold isI
 split at h
 ·omega
 ·split at h
  ·cases h
  ·omega
mutual
theorem Z3P:∀ (e:Edit) (d:Int),Z3 e d=true→ZL e→ZL (Yb e)
 | .mk k o n w ks l os,d,hr,h=> by
  have hin:=Z1X hr
  have hout:=Z1X (Z11 _ _ hr)
  simp only [Edit.kids_mk,Edit.ops_mk,Edit.list_mk] at hin
  simp only [ZL] at h
  obtain ⟨h1,h2,h3,h4,h5,h6,h7⟩:=h
  have i6:=ZaA ks (d - 1) (fun k hk=> (hin.1 k hk).1) h6
  have i7:=Zay l os (d - 1) hin.2 h7 W0 ⟨fun o ho=> (by cases ho),trivial,trivial⟩
  rw [Yb] at hout ⊢
  by_cases k1:k=1
  ·rw [if_pos k1]
   simp only [ZL]
   exact ⟨h1,Z05 o h2,Z05 n h3,by simp,h5,trivial,trivial⟩
  ·rw [if_neg k1] at hout ⊢
   by_cases k2:k=2
   ·rw [if_pos k2]
    simp only [ZL]
    exact ⟨h1,Z06,Z06,h4,h5,i6,trivial⟩
   ·rw [if_neg k2] at hout ⊢
    by_cases k3:k=3
    ·rw [if_pos k3] at hout ⊢
     simp only [ZL]
     refine ⟨h1,Z06,Z06,by simp,h5,trivial,Z7o (fun q hq=> ?_)⟩
     have hx:=hout.2 q hq
     have hy:=(Z4D i7).out q hq
     exact ZcN hx hy.1 hy.2
    ·rw [if_neg k3]
     simp only [ZL]
     exact ⟨h1,Z06,Z06,by simp,h5,trivial,trivial⟩
theorem ZaA:∀ (ks:List (KidOf Edit)) (d:Int),(∀ k∈ks,Z3 k.e d=true)→Z1x ks→Z1x (J4 ks)
 | [],_,_,_=> trivial
 | k ::r,d,hr,h=> by
  simp only [Z1x] at h
  have h1:=Zen k d (hr k (List.mem_cons_self ..)) h.1
  have h2:=ZaA r d (fun x hx=> hr x (List.mem_cons_of_mem _ hx)) h.2
  simp only [J4,Z1x]
  exact ⟨h1,h2⟩
theorem Zen:∀ (k:KidOf Edit) (d:Int),Z3 k.e d=true→Z4E k→Z4E (Z1c k)
 | ⟨a,e⟩,d,hr,h=> by
  simp only [Z4E] at h
  have h2:=Z3P e d hr h.2
  simp only [Z1c,Z4E]
  exact ⟨h.1,h2⟩
theorem Zay(list:Int):∀ (os:List (OpOf Edit)) (d:Int),(∀ o∈os,Zd list o d=true)→Z1w os→∀ (w:Wst),RngW w→RngW (Y3 list os w)
 | [],_,_,_,w,hw=> hw
 | o ::r,d,hr,h,w,hw=> by
  simp only [Z1w] at h
  have h1:=ZhX list o d (hr o (List.mem_cons_self ..)) h.1 w hw
  exact Zay list r d (fun x hx=> hr x (List.mem_cons_of_mem _ hx)) h.2 _ h1
theorem ZhX(list:Int):∀ (o:OpOf Edit) (d:Int),Zd list o d=true→JI o→∀ (w:Wst),RngW w→RngW (Z0b list o w)
 | ⟨k,n,l,e⟩,d,hr,h,w,hw=> by
  simp only [JI] at h
  by_cases k3:k=3
  ·have he:Z3 e d=true:=by
    rw [Zd,if_neg (by omega),] at hr
    split at hr
    ·cases hr
    ·rw [if_neg (by omega)] at hr
     simp only [Bool.and_eq_true] at hr
     exact hr.1.2
   exact ZfX (o:=⟨k,n,l,e⟩) hw h.2.2.1 (Z3P e d he h.2.2.2)
  ·have hs:ZL (Yb Edit.nil):=by
    show ZL (.mk 0 Tree.nil Tree.nil [] [] 0 [])
    exact Z3Q
   have e2:Z0b list ⟨k,n,l,e⟩ w=Z0b list ⟨k,n,l,Edit.nil⟩ w:=by
    simp only [Z0b]
    rw [if_neg k3,if_neg k3]
   rw [e2]
   exact ZfX (o:=⟨k,n,l,Edit.nil⟩) hw h.2.2.1 hs
end
end Go.AM.Ytpjenobkibfpcaa
namespace Go.AM.Ytpjenobkibfpcaa
open Go.AM Go.Proofs
theorem ZpL(t:Tree):t.words.length+Za t.kids+1=Zg t:=by obtain ⟨k,w,ks⟩:=t;simp only [Zg,Tree.words_mk,Tree.kids_mk];omega
theorem ZaV:∀ (l:List Tree) (i:Nat) (x:Tree),i < l.length→Za (l.set i x)+Zg (l.getD i Tree.nil)=Za l+Zg x
 | [],i,x,h=> by simp at h
 | a ::r,0,x,_=> by simp only [List.set_cons_zero,Za,List.getD_cons_zero];omega
 | a ::r,i+1,x,h=> by
  have:=ZaV r i x (by simpa using h)
  simp only [List.set_cons_succ,Za,List.getD_cons_succ];omega
theorem ZeN(n:Nat):Za (List.replicate n Tree.nil)=n:=by
 induction n with
 | zero=> rfl
 | succ n ih=> rw [List.replicate_succ,Za,ih];simp [Tree.nil,Zg,Za];omega
theorem Z0N:∀ (a b:List Tree),Za (a++b)=Za a+Za b
 | [],b=> by simp [Za]
 | t ::r,b=> by simp only [List.cons_append,Za,Z0N r b];omega
theorem Zii(l:List Tree)(i:Nat)(x:Tree):Za (Y7 Tree.nil l i x)+Zg (l.getD i Tree.nil)≤Za l+Zg x+(i+1):=by
 have h:=ZaV (l++List.replicate (i+1 - l.length) Tree.nil) i x (by simp;omega)
 have e:(l++List.replicate (i+1 - l.length) Tree.nil).getD i Tree.nil=l.getD i Tree.nil:=by
  by_cases hi:i < l.length
  ·simp only [List.getD_eq_getElem?_getD];rw [List.getElem?_append_left hi]
  ·simp only [List.getD_eq_getElem?_getD]
   rw [List.getElem?_append_right (by omega),List.getElem?_eq_none (l:=l) (by omega),List.getElem?_replicate]
   split <;> rfl
 rw [e,Z0N,ZeN] at h
 simp only [Y7]
 omega
theorem Zbf{tw:List Int}:∀ {ws:List WEdit} {last:Int} {out a:List Int},Zs last ws=true→wsD tw ws out=some a→a.length≤max out.length 65535
 | [],_,out,a,_,h=> by rw [wsD] at h;cases h;omega
 | w ::r,last,out,a,hw,h=> by
  have h1:=Z2W hw w List.mem_cons_self
  simp only [Zs,Bool.and_eq_true] at hw
  rw [wsD] at h
  split at h
  ·have:=Zbf hw.2 h
   rw [Z4n] at this
   omega
  ·cases h
theorem Zbt{last d:Int}{k:Kid}{r:List Kid}(h:Zv last (k ::r) d=true):(last < k.at_∧k.at_≤65534)∧Z3 k.e d=true∧Zv k.at_ r d=true:=by
 have:=YN h k List.mem_cons_self
 simp only [Zv,Bool.and_eq_true] at h
 exact ⟨⟨this.1.1,this.1.2.1⟩,this.2,h.2⟩
theorem Zj1{tw:List Int}{ws:List WEdit}{last:Int}{out a:List Int}(hw:Zs last ws=true)(h:wsD tw ws out=some a):a.length≤out.length+65600*ws.length:=by
 cases ws with
 | nil=> rw [wsD] at h;cases h;omega
 | cons w r=>
  have:=Zbf hw h
  simp only [List.length_cons]
  omega
theorem Z9u(r:Bool)(v:Tree):Zg (nrD r v)≤Zg v:=by
 unfold nrD
 split
 ·exact Jc v
 ·exact Nat.le_refl _
mutual
theorem Z9F(r:Bool):∀ (e:Edit) (d:Int) (t v:Tree),Z3 e d=true→ZeB r e t=some v→Zg v+18≤Zg t+ctE e
 | .mk k o n w ks l os,d,t,v,hr,hv=> by
  have ri:=Yf hr
  have h1:=ZaU r ks t.kids
  have h2:=ZaT r l os
  have ht:=ZpL t
  have po:=Z1g o
  have pn:=Z1g n
  have pt:=Z1g t
  unfold ZeB at hv
  simp only [ctE]
  split at hv
  ·cases hv;omega
  ·split at hv
   ·split at hv
    ·cases hv
     show Zg n+18≤_
     omega
    ·cases hv
   ·split at hv
    ·split at hv
     ·obtain ⟨a,ha,hb⟩:=Option.bind_eq_some_iff.1 hv
      obtain ⟨b,hb,e⟩:=Option.map_eq_some_iff.1 hb
      have l1:=Zj1 ri.words ha
      simp only [Edit.words_mk] at l1
      have l2:=h1 t.kids b _ (-1) (by omega) ri.kids (fun j _=> rfl) hb
      rw [←e]
      simp only [Zg]
      omega
     ·cases hv
    ·split at hv
     ·split at hv
      ·obtain ⟨b,hb,e⟩:=Option.map_eq_some_iff.1 hv
       unfold Z2J at hb
       obtain ⟨x,hx,hy⟩:=Option.bind_eq_some_iff.1 hb
       have l2:=h2 _ t.kids [] x (fun o ho=> Go.AM.rightOs_mem ri.ops o ho) hx
       split at hy
       ·cases hy
        rw [←e]
        simp only [Zg,List.length_nil]
        simp only [Za] at l2
        omega
       ·cases hy
      ·cases hv
     ·cases hv
theorem ZaU(r:Bool):∀ (ks:List (KidOf Edit)) (tk out b:List Tree) (d last:Int),-1≤last→Zv last ks d=true→(∀ j:Nat,last < (j:Int)→out.getD j Tree.nil=tk.getD j Tree.nil)→YZ r tk ks out=some b→Za b≤Za out+Za2 ks
 | [],tk,out,b,d,last,_,_,_,h=> by rw [YZ] at h;cases h;simp
 | k ::s,tk,out,b,d,last,hl,hr,hj,h=> by
  obtain ⟨h1,h2,h3⟩:=Zbt hr
  rw [YZ] at h
  obtain ⟨u,hu,hb⟩:=Option.bind_eq_some_iff.1 h
  have m1:=ZeL r k tk u d h2 hu
  have m2:=Zii out k.at_.toNat u
  rw [hj k.at_.toNat (by omega)] at m2
  have m3:=ZaU r s tk _ b d k.at_ (by omega) h3 (fun j hj'=> by
   rw [Yt,if_neg (by omega)]
   exact hj j (by omega)) hb
  have m4:k.at_.toNat+1≤65600:=by omega
  have e1:Za2 (k ::s)=65600+ctE k.e+Za2 s:=by obtain ⟨a,e⟩:=k;rfl
  rw [e1]
  omega
theorem ZeL(r:Bool):∀ (k:KidOf Edit) (tk:List Tree) (u:Tree) (d:Int),Z3 k.e d=true→Z1F r tk k=some u→Zg u+18≤Zg (tk.getD k.at_.toNat Tree.nil)+ctE k.e
 | ⟨a,e⟩,tk,u,d,hr,h=> by
  rw [Z1F,Z6l] at h
  obtain ⟨v,hv,hu⟩:=Option.map_eq_some_iff.1 h
  have:=Z9F r e d (tk.getD a.toNat Tree.nil) v hr hv
  have hvu:=Z9u r v
  rw [hu] at hvu
  dsimp only
  omega
theorem ZaT(r:Bool)(l:Int):∀ (os:List (OpOf Edit)) (d:Int) (rest out:List Tree) (x:List Tree × List Tree),(∀ o∈os,Zd l o d=true)→ZE r os rest out=some x→Za x.1+Za x.2≤Za out+Za rest+Zam os
 | [],d,rest,out,x,_,h=> by rw [ZE] at h;cases h;simp
 | o ::s,d,rest,out,x,hr,h=> by
  rw [ZE] at h
  obtain ⟨y,hy,hx⟩:=Option.bind_eq_some_iff.1 h
  have m1:=Zig r l o d rest out y (hr o List.mem_cons_self) hy
  have m2:=ZaT r l s d _ _ x (fun q hq=> hr q (List.mem_cons_of_mem _ hq)) hx
  rw [Zam]
  omega
theorem Zig(r:Bool)(l:Int):∀ (o:OpOf Edit) (d:Int) (rest out:List Tree) (x:List Tree × List Tree),Zd l o d=true→Z2K r o rest out=some x→Za x.1+Za x.2≤Za out+Za rest+ZiE o
 | ⟨k,n,L,e⟩,d,rest,out,x,hr,h=> by
  have he:=Z9F r e d (rest.getD 0 Tree.nil)
  rw [Z2K] at h
  simp only [ZiE]
  split at h
  ·split at h
   ·cases h
    have:=Z0N (rest.take n.toNat) (rest.drop n.toNat)
    rw [List.take_append_drop] at this
    dsimp only
    rw [Z0N];omega
   ·cases h
  ·split at h
   ·split at h
    ·cases h
     have:=Z2G L.length rest
     dsimp only;omega
    ·cases h
   ·split at h
    ·cases h
     dsimp only
     rw [Z0N];omega
    ·split at h
     ·cases h
     ·obtain ⟨u,hu,e2⟩:=Option.map_eq_some_iff.1 h
      cases e2
      have hk:k=3:=by
       have ra:=Y2 hr
       generalize ho:OpOf.mk k n L e=o at ra
       cases ra <;> (injection ho with h1;try omega)
      rw [Z6l] at hu
      obtain ⟨v,hv,hu⟩:=Option.map_eq_some_iff.1 hu
      have:=he v (Z2w hr hk) hv
      have hvu:=Z9u r v
      rw [hu] at hvu
      cases rest with
      | nil=> contradiction
      | cons a q=>
       rw [Z0N]
       simp only [Za,List.drop_succ_cons,List.drop_zero,List.getD_cons_zero] at this ⊢
       omega
end
theorem ZmZ(r:Bool)(e:Edit)(d:Int)(t u:Tree)(hr:Z3 e d=true)(h:doE r e t=some u):Zg u+18≤Zg t+ctE e:=by
 rw [Z6l] at h
 obtain ⟨v,hv,hu⟩:=Option.map_eq_some_iff.1 h
 have:=Z9F r e d t v hr hv
 have hvu:=Z9u r v
 rw [hu] at hvu
 omega
theorem ZpI{f:Nat→Int}(h:∀ i,0≤f i∧f i < 256):isW (of8 f):=by
 have h0:=h 0;have h1:=h 1;have h2:=h 2;have h3:=h 3;have h4:=h 4;have h5:=h 5;have h6:=h 6;have h7:=h 7
 unfold isW of8
 omega
theorem ZpK(a b m:Int):isW (mix a b m):=ZpI (Z7I a b m)
theorem Zbp{l:List Tree}(h:∀ t∈l,rng t):ZO l:=by
 induction l with
 | nil=> exact trivial
 | cons a r ih=> exact ⟨h a List.mem_cons_self,ih fun t ht=> h t (List.mem_cons_of_mem _ ht)⟩
theorem Z6z:rng Tree.nil:=⟨by decide,by simp,trivial⟩
theorem Z4B{α:Type}{z x y:α}{l:List α}{i:Nat}(h:y∈Y7 z l i x):y∈l∨y=z∨y=x:=by
 rcases List.mem_or_eq_of_mem_set h with h | h
 ·rcases List.mem_append.1 h with h | h
  ·exact .inl h
  ·exact .inr (.inl (List.eq_of_mem_replicate h))
 ·exact .inr (.inr h)
theorem ZfW{ks:List Tree}(h:ZO ks)(i:Nat):rng (ks.getD i Tree.nil):=by
 by_cases hi:i < ks.length
 ·exact Jp h (Zp hi _)
 ·rw [List.getD_eq_getElem?_getD,List.getElem?_eq_none (by omega)]
  exact Z6z
theorem Zj2{tw:List Int}:∀ {ws:List WEdit} {out a:List Int},(∀ x∈out,isW x)→wsD tw ws out=some a→∀ x∈a,isW x
 | [],out,a,h,hw=> by rw [wsD] at hw;cases hw;exact h
 | w ::r,out,a,h,hw=> by
  rw [wsD] at hw
  split at hw
  ·refine Zj2 (fun x hx=> ?_) hw
   rcases Z4B hx with hx | rfl | rfl
   ·exact h x hx
   ·exact ⟨by omega,by omega⟩
   ·exact ZpK _ _ _
  ·cases hw
mutual
theorem Zem(r:Bool):∀ (e:Edit) (t u:Tree),ZL e→rng t→doE r e t=some u→rng u
 | .mk k o n w ks l os,t,u,hr,ht,h=> by
  have h1:=ZcL r ks
  have h2:=ZcK r os
  simp only [ZL] at hr
  obtain ⟨r1,r2,r3,r4,r5,r6,r7⟩:=hr
  have hta:isI t.kind∧(∀ x∈t.words,isW x)∧ZO t.kids:=by obtain ⟨k,w,ks⟩:=t;exact ht
  rw [JB] at h
  obtain ⟨v,hv,hu⟩:=Option.map_eq_some_iff.1 h
  suffices rng v by
   rw [←hu];unfold nrD
   split
   ·exact Z05 v this
   ·exact this
  clear h hu
  split at hv
  ·cases hv;exact ht
  ·split at hv
   ·split at hv
    ·cases hv;exact r3
    ·cases hv
   ·split at hv
    ·split at hv
     ·obtain ⟨a,ha,hb⟩:=Option.bind_eq_some_iff.1 hv
      obtain ⟨b,hb,e⟩:=Option.map_eq_some_iff.1 hb
      rw [←e]
      exact ⟨by decide,Zj2 hta.2.1 ha,h1 _ _ _ r6 hta.2.2 hta.2.2 hb⟩
     ·cases hv
    ·split at hv
     ·split at hv
      ·obtain ⟨b,hb,e⟩:=Option.map_eq_some_iff.1 hv
       unfold Z2J at hb
       obtain ⟨x,hx,hy⟩:=Option.bind_eq_some_iff.1 hb
       split at hy
       ·cases hy
        rw [←e]
        exact ⟨r5,by simp,(h2 _ [] _ r7 hta.2.2 trivial hx).1⟩
       ·cases hy
      ·cases hv
     ·cases hv
theorem ZcL(r:Bool):∀ (ks:List (KidOf Edit)) (tk out b:List Tree),Z1x ks→ZO tk→ZO out→YZ r tk ks out=some b→ZO b
 | [],tk,out,b,_,_,ho,h=> by rw [YZ] at h;cases h;exact ho
 | k ::s,tk,out,b,hk,ht,ho,h=> by
  rw [YZ] at h
  obtain ⟨u,hu,hb⟩:=Option.bind_eq_some_iff.1 h
  have m1:=ZhW r k tk u hk.1 ht hu
  refine ZcL r s tk _ b hk.2 ht (Zbp fun x hx=> ?_) hb
  rcases Z4B hx with hx | rfl | rfl
  ·exact Jp ho hx
  ·exact Z6z
  ·exact m1
theorem ZhW(r:Bool):∀ (k:KidOf Edit) (tk:List Tree) (u:Tree),Z4E k→ZO tk→Z1F r tk k=some u→rng u
 | ⟨a,e⟩,tk,u,hr,ht,h=> by
  rw [Z1F] at h
  exact Zem r e _ u hr.2 (ZfW ht _) h
theorem ZcK(r:Bool):∀ (os:List (OpOf Edit)) (rest out:List Tree) (x:List Tree × List Tree),Z1w os→ZO rest→ZO out→ZE r os rest out=some x→ZO x.1∧ZO x.2
 | [],rest,out,x,_,hr,ho,h=> by rw [ZE] at h;cases h;exact ⟨ho,hr⟩
 | o ::s,rest,out,x,hs,hr,ho,h=> by
  rw [ZE] at h
  obtain ⟨y,hy,hx⟩:=Option.bind_eq_some_iff.1 h
  have m1:=ZjA r o rest out y hs.1 hr ho hy
  exact ZcK r s _ _ x hs.2 m1.2 m1.1 hx
theorem ZjA(r:Bool):∀ (o:OpOf Edit) (rest out:List Tree) (x:List Tree × List Tree),JI o→ZO rest→ZO out→Z2K r o rest out=some x→ZO x.1∧ZO x.2
 | ⟨k,n,L,e⟩,rest,out,x,hs,hr,ho,h=> by
  have he:=Zem r e (rest.getD 0 Tree.nil)
  simp only [JI] at hs
  have hd:∀ n,ZO (rest.drop n):=fun n=> Zbp fun t ht=> Jp hr (List.mem_of_mem_drop ht)
  have hap:∀ l,ZO l→ZO (out++l):=fun l hl=> Z37.2 ⟨ho,hl⟩
  rw [Z2K] at h
  split at h
  ·split at h
   ·cases h
    exact ⟨hap _ (Zbp fun t ht=> Jp hr (List.mem_of_mem_take ht)),hd _⟩
   ·cases h
  ·split at h
   ·split at h
    ·cases h
     exact ⟨ho,hd _⟩
    ·cases h
   ·split at h
    ·cases h
     exact ⟨hap _ hs.2.2.1,hr⟩
    ·split at h
     ·cases h
     ·obtain ⟨u,hu,e2⟩:=Option.map_eq_some_iff.1 h
      cases e2
      exact ⟨hap _ ⟨he u hs.2.2.2 (ZfW hr 0) hu,trivial⟩,hd _⟩
end
end Go.AM.Ytpjenobkibfpcaa
namespace Go.AM
def Z2d(t:Tree):Bool:=decide (0≤Zw t 80 3000) && Z9 t 64 && decide (t.kind≠10)
end Go.AM
namespace Go.AM.Ytpjenobkibfpcaa
open Go.AM Go.Proofs
section
variable {α β:Type} {z:α} {f:β→Option α} {p:β→Int}
end
theorem Z4I{list d:Int}:∀ {l:List Tree},ZM list l d=true→∀ t∈l,Z9 t d=true
 | [],_,_,ht=> by cases ht
 | a ::r,h,t,ht=> by
  simp only [ZM,Bool.and_eq_true] at h
  rcases List.mem_cons.1 ht with rfl | ht
  ·exact h.1.2
  ·exact Z4I h.2 t ht
def RT_(t:Tree):Prop:=(∃ d,Z9 t d=true)∧rng t
theorem RT_.kids{t:Tree}(h:RT_ t):(∀ k∈t.kids,RT_ k)∧(t.kind≠0→t.kind≠1→t.kind≠10→t.words=[]):=by
 obtain ⟨⟨d,h⟩,hr⟩:=h
 obtain ⟨k,w,ks⟩:=t
 have hk:∀ x∈ks,rng x:=fun x hx=> Jp hr.2.2 hx
 show (∀ x∈ks,RT_ x)∧(k≠0→k≠1→k≠10→w=[])
 rw [Z9] at h
 split at h
 ·simp only [decide_eq_true_eq] at h
  rw [List.eq_nil_of_length_eq_zero h.2]
  exact ⟨fun x hx=> (by cases hx),fun h0=> absurd ‹_› h0⟩
 ·split at h
  ·simp only [decide_eq_true_eq] at h
   rw [List.eq_nil_of_length_eq_zero h.2]
   exact ⟨fun x hx=> (by cases hx),fun _ _ h0=> absurd ‹_› h0⟩
  ·split at h
   ·cases h
   ·split at h
    ·simp only [Bool.and_eq_true] at h
     exact ⟨fun x hx=> ⟨⟨_,Z4I h.2 x hx⟩,hk x hx⟩,fun _ h1=> absurd ‹_› h1⟩
    ·simp only [Bool.and_eq_true,decide_eq_true_eq] at h
     exact ⟨fun x hx=> ⟨⟨_,Z4I h.2 x hx⟩,hk x hx⟩,fun _ _ _=> List.eq_nil_of_length_eq_zero h.1.2.2.1⟩
theorem Zrm:RT_ Tree.nil:=⟨⟨1,rfl⟩,Z6z⟩
theorem Zab{l:List Tree}(h:∀ t∈l,RT_ t)(i:Nat):RT_ (l.getD i Tree.nil):=by
 by_cases hi:i < l.length
 ·exact h _ (Zp hi _)
 ·rw [List.getD_eq_getElem?_getD,List.getElem?_eq_none (by omega)];exact Zrm
theorem Z98{list:Int}{o:Op}{d:Int}(h:Zd list o d=true):o.kind=0∨o.kind=1∨o.kind=2∨o.kind=3:=by
 have r:=Y2 h
 cases r with
 | keep=> exact .inl rfl
 | gone=> exact .inr (.inl rfl)
 | come=> exact .inr (.inr (.inl rfl))
 | into=> exact .inr (.inr (.inr rfl))
end Go.AM.Ytpjenobkibfpcaa
namespace Go.AM.Ytpjenobkibfpcaa
open Go.AM Go.Proofs
def Rx(x y:List Tree × List Tree):Prop:=EqvL x.1 y.1∧EqvL x.2 y.2
theorem Rx.rfl'(a:Option (List Tree × List Tree)):OptR Rx a a:=by cases a;exact trivial;exact ⟨rfl,rfl⟩
theorem Rx.of{a b:Option (List Tree × List Tree)}(h:a=b):OptR Rx a b:=by rw [h];exact Rx.rfl' b
theorem OptR.trans'{α:Type}{R:α→α→Prop}(ht:∀ x y z,R x y→R y z→R x z){a b c:Option α}(h1:OptR R a b)(h2:OptR R b c):OptR R a c:=by
 cases a <;> cases b <;> cases c <;> first | exact trivial | exact h1.elim | exact h2.elim | exact ht _ _ _ h1 h2
theorem Rx.trans{a b c:Option (List Tree × List Tree)}(h1:OptR Rx a b)(h2:OptR Rx b c):OptR Rx a c:=
 OptR.trans' (fun _ _ _ p q=> ⟨Eq.trans p.1 q.1,Eq.trans p.2 q.2⟩) h1 h2
theorem Z2g(r:Bool):∀ (a b:List Op) (rest out:List Tree),ZE r (a++b) rest out=(ZE r a rest out).bind fun x=> ZE r b x.2 x.1
 | [],b,rest,out=> by rw [ZE];try rfl
 | o ::s,b,rest,out=> by
  rw [List.cons_append,ZE,ZE]
  cases h:Z2K r o rest out with
  | none=> rfl
  | some x=> rw [Option.bind_some,Option.bind_some];exact Z2g r s b _ _
theorem Z9Y(r:Bool)(o:Op)(rest out:List Tree):ZE r [o] rest out=Z2K r o rest out:=by
 rw [ZE]
 cases Z2K r o rest out with
 | none=> rfl
 | some x=> rw [Option.bind_some,ZE]
theorem Z3D(r:Bool)(a:List Op)(o:Op)(rest out:List Tree):ZE r (a++[o]) rest out=(ZE r a rest out).bind fun x=> Z2K r o x.2 x.1:=by
 rw [Z2g]
 congr 1
 funext x
 exact Z9Y r o _ _
theorem Z3C{r:Bool}:∀ {os:List Op} {rest out:List Tree} {x:List Tree × List Tree},ZE r os rest out=some x→∃ n,x.2=rest.drop n
 | [],rest,out,x,h=> by rw [ZE] at h;cases h;exact ⟨0,by simp⟩
 | o ::s,rest,out,x,h=> by
  rw [ZE] at h
  obtain ⟨y,hy,hx⟩:=Option.bind_eq_some_iff.1 h
  obtain ⟨n,hn⟩:=Z3C hx
  have:∃ m,y.2=rest.drop m:=by
   rw [Y6] at hy
   split at hy
   ·split at hy
    ·cases hy;exact ⟨_,rfl⟩
    ·cases hy
   ·split at hy
    ·split at hy
     ·cases hy;exact ⟨_,rfl⟩
     ·cases hy
    ·split at hy
     ·cases hy;exact ⟨0,by simp⟩
     ·split at hy
      ·cases hy
      ·obtain ⟨u,_,e⟩:=Option.map_eq_some_iff.1 hy
       cases e
       exact ⟨1,rfl⟩
  obtain ⟨m,hm⟩:=this
  exact ⟨m+n,by rw [hn,hm,List.drop_drop]⟩
theorem Ziu(rest:List Tree):YG [] rest=true:=by unfold YG;rw [Z6i.2 (by simp)];simp
theorem ZdK(l rest:List Tree):YG (Z8 l) rest=YG l rest:=by
 unfold YG
 rw [Z7D,show (Z8 l).length=l.length by simp [Z8]]
theorem Z2e(l rest:List Tree):YG l rest=true↔l.length≤rest.length∧Z8 l=Z8 (rest.take l.length):=by
 unfold YG
 rw [Bool.and_eq_true,decide_eq_true_eq,Z6i]
theorem Ziw(a b rest:List Tree):YG (a++b) rest=(YG a rest && YG b (rest.drop a.length)):=by
 rw [Bool.eq_iff_iff,Bool.and_eq_true,Z2e,Z2e,Z2e]
 simp only [List.length_append,List.length_drop]
 constructor
 ·rintro ⟨h1,h2⟩
  rw [Yp,List.take_add,Yp] at h2
  obtain ⟨h3,h4⟩:=List.append_inj h2 (by simp [Z8];omega)
  exact ⟨⟨by omega,h3⟩,by omega,h4⟩
 ·rintro ⟨⟨h1,h2⟩,h3,h4⟩
  refine ⟨by omega,?_⟩
  rw [Yp,List.take_add,Yp,h2,h4]
theorem Z6h(s:Wst)(rest out:List Tree):ZE false (Z1 s).out rest out=(ZE false s.out rest out).bind fun x=> if YG s.gone x.2=true then some (x.1++s.brought,x.2.drop s.gone.length) else none:=by
 simp only [Z1,Ji]
 rw [Z2g]
 congr 1
 funext x
 rw [Z2g]
 have h1:ZE false (if s.gone.length=0 then [] else [⟨1,0,s.gone,Edit.nil⟩]) x.2 x.1=if YG s.gone x.2=true then some (x.1,x.2.drop s.gone.length) else none:=by
  split
  ·rename_i h
   rw [List.eq_nil_of_length_eq_zero h,Ziu,if_pos rfl,ZE]
   try rfl
  ·rw [Z9Y,Y6]
   rw [if_neg (by show ¬(1:Int)=0;omega),if_pos rfl]
 have h2:∀ y:List Tree × List Tree,ZE false (if s.brought.length=0 then [] else [⟨2,0,s.brought,Edit.nil⟩]) y.2 y.1=some (y.1++s.brought,y.2):=by
  intro y
  split
  ·rename_i h
   rw [List.eq_nil_of_length_eq_zero h,List.append_nil,ZE]
  ·rw [Z9Y,Y6]
   rw [if_neg (by show ¬(2:Int)=0;omega),if_neg (by show ¬(2:Int)=1;omega),if_pos rfl]
 rw [h1]
 split
 ·rw [Option.bind_some,h2]
 ·try rfl
theorem ZnP{F:List Op}{n:Int}(hF:∀ o∈F,0≤o.n)(hn:0≤n)(rest out:List Tree):ZE false (Z0h F n) rest out=ZE false (F++[⟨0,n,[],Edit.nil⟩]) rest out:=by
 rcases YS F n with h | ⟨a,o,h1,h2,h3⟩
 ·rw [h]
 ·rw [h3,h1,Z3D,Z3D,Z3D]
  cases hx:ZE false a rest out with
  | none=> rfl
  | some x=>
   have ho:=hF o (by rw [h1];simp)
   simp only [Option.bind_some]
   rw [Y6,Y6,if_pos h2,if_pos h2]
   simp only
   have e:(o.n+n).toNat=o.n.toNat+n.toNat:=by omega
   rw [e]
   by_cases c:o.n.toNat≤x.2.length
   ·rw [if_pos c,Option.bind_some,Y6,if_pos rfl]
    simp only [List.length_drop]
    by_cases c2:n.toNat≤x.2.length - o.n.toNat
    ·rw [if_pos c2,if_pos (by omega),List.drop_drop,List.append_assoc,←List.take_add]
    ·rw [if_neg c2,if_neg (by omega)]
   ·rw [if_neg c,if_neg (by omega)]
    try rfl
def N0s(s:Wst):Prop:=∀ o∈s.out,0≤o.n
theorem N0s.flush{s:Wst}(h:N0s s):∀ o∈(Z1 s).out,0≤o.n:=by
 intro o ho
 simp only [Z1,Ji,List.mem_append] at ho
 rcases ho with ho | ho | ho
 ·exact h o ho
 ·split at ho
  ·cases ho
  ·simp only [List.mem_singleton] at ho;subst ho;exact Int.le_refl 0
 ·split at ho
  ·cases ho
  ·simp only [List.mem_singleton] at ho;subst ho;exact Int.le_refl 0
theorem N0s.keep{s:Wst}(h:N0s s){n:Int}(hn:0≤n):N0s (ZI s n):=by
 intro o ho
 simp only [ZI] at ho
 rcases YS (Z1 s).out n with e | ⟨a,p,h1,h2,h3⟩
 ·rw [e] at ho
  rcases List.mem_append.1 ho with ho | ho
  ·exact h.flush o ho
  ·simp only [List.mem_singleton] at ho;subst ho;exact hn
 ·rw [h3] at ho
  rcases List.mem_append.1 ho with ho | ho
  ·exact h.flush o (by rw [h1];simp [ho])
  ·simp only [List.mem_singleton] at ho;subst ho
   have:=h.flush p (by rw [h1];simp)
   show 0≤p.n+n
   omega
theorem ZfY{list d:Int}{o:Op}(h:Zd list o d=true):0≤o.n:=by
 have r:=Y2 h
 cases r with
 | keep n h1=> show 0≤n;omega
 | gone | come | into=> exact Int.le_refl 0
theorem N0s.op{list d:Int}{s:Wst}{o:Op}(h:N0s s)(hr:Zd list o d=true):N0s (Z0b list o s):=by
 rw [Z1b]
 split
 ·exact h.keep (ZfY hr)
 ·split
  ·exact h
  ·split
   ·exact h
   ·split
    ·split
     ·exact h.keep (by omega)
     ·intro p hp
      rcases List.mem_append.1 hp with hp | hp
      ·exact h.flush p hp
      ·simp only [List.mem_singleton] at hp;subst hp;exact Int.le_refl 0
    ·exact h
def K9(list:Int)(l:List Tree):Prop:=(∀ t∈l,RT_ t)∧(list=9→∀ t∈l,t.kind=1)
theorem K9.drop{list:Int}{l:List Tree}(h:K9 list l)(n:Nat):K9 list (l.drop n):=⟨fun t ht=> h.1 t (List.mem_of_mem_drop ht),fun e t ht=> h.2 e t (List.mem_of_mem_drop ht)⟩
theorem ZfZ{d:Int}:∀ {l:List Tree},ZM 9 l d=true→∀ t∈l,t.kind=1
 | [],_,t,ht=> by cases ht
 | a ::r,h,t,ht=> by
  simp only [ZM,Bool.and_eq_true] at h
  rcases List.mem_cons.1 ht with rfl | ht
  ·have:=h.1.1
   simpa [Jh] using this
  ·exact ZfZ h.2 t ht
theorem RT_.k9{t:Tree}(h:RT_ t):K9 t.kind t.kids:=by
 refine ⟨h.kids.1,fun e=> ?_⟩
 obtain ⟨⟨d,h⟩,_⟩:=h
 obtain ⟨k,w,ks⟩:=t
 have e:k=9:=e
 subst e
 rw [Z9,if_neg (by omega),if_neg (by omega)] at h
 split at h
 ·cases h
 ·rw [if_neg (by omega)] at h
  simp only [Bool.and_eq_true] at h
  exact ZfZ h.2
theorem ZmM {list d:Int} {s:Wst} {o:Op} (hs:N0s s) (hr:Zd list o d=true) {rest:List Tree} (hk:K9 list rest) (out:List Tree)
  (ih:∀ y,RT_ y→Z3 o.e d=true→OptR Eqv (doE false (Yb o.e) y) (doE false o.e y)):
  OptR Rx (ZE false (Z1 (Z0b list o s)).out rest out) ((ZE false (Z1 s).out rest out).bind fun x=> Z2K false o x.2 x.1):=by
 have keep:∀ n:Int,0≤n→ZE false (Z1 (ZI s n)).out rest out=(ZE false (Z1 s).out rest out).bind fun x=> Z2K false ⟨0,n,[],Edit.nil⟩ x.2 x.1:=by
  intro n hn
  have e:(Z1 (ZI s n)).out=Z0h (Z1 s).out n:=by simp [Z1,Ji,ZI]
  rw [e,ZnP hs.flush hn,Z3D]
 rw [Z1b]
 have r1:=Z98 hr
 by_cases h0:o.kind=0
 ·rw [if_pos h0,keep _ (ZfY hr)]
  refine Rx.of ?_
  congr 1
  funext x
  rw [Y6,Y6,if_pos rfl,if_pos h0]
 ·rw [if_neg h0]
  by_cases h1:o.kind=1
  ·rw [if_pos h1,Z6h,Z6h]
   refine Rx.of ?_
   rw [Option.bind_assoc]
   congr 1
   funext x
   simp only
   rw [Ziw,ZdK]
   by_cases c:YG s.gone x.2=true
   ·rw [if_pos c,c,Bool.true_and,Option.bind_some,Y6,if_neg h0,if_pos h1]
    simp only
    rw [List.drop_drop,show (s.gone++Z8 o.l).length=s.gone.length+o.l.length by simp [Z8]]
   ·rw [if_neg c,if_neg (by simp only [Bool.and_eq_true];exact fun h=> c h.1)]
    try rfl
  ·rw [if_neg h1]
   by_cases h2:o.kind=2
   ·rw [if_pos h2,Z6h,Z6h,Option.bind_assoc]
    refine OptR.bind (R:=Eq) (OptR.rfl' _) ?_
    rintro x _ rfl
    simp only
    split
    ·rw [Option.bind_some,Y6,if_neg h0,if_neg h1,if_pos h2]
     refine ⟨?_,rfl⟩
     show Z8 (x.1++(s.brought++Z8 o.l))=Z8 (x.1++s.brought++o.l)
     simp only [Yp,Z7D,List.append_assoc]
    ·exact trivial
   ·have h3:o.kind=3:=by rcases r1 with h | h | h | h <;> first | exact absurd h h0 | exact absurd h h1 | exact absurd h h2 | exact h
    rw [if_neg h2,if_pos h3]
    have hre:=Z2w hr h3
    have ra:=Y2 hr
    by_cases hi:Z4w list (Yb o.e)=true
    ·rw [if_pos hi,keep 1 (by omega)]
     cases hx:ZE false (Z1 s).out rest out with
     | none=> exact trivial
     | some x=>
      obtain ⟨m,hm⟩:=Z3C hx
      have hk2:=hk.drop m
      rw [←hm] at hk2
      simp only [Option.bind_some]
      rw [Y6,Y6,if_pos rfl,if_neg h0,if_neg h1,if_neg h2]
      cases hx2:x.2 with
      | nil=> exact trivial
      | cons y q=>
       rw [hx2] at hk2
       have hek:o.e.kind≠0:=by
        cases ra with
        | into e _ h=> exact h
        | keep | gone | come=> exact absurd h3 (by simp)
       simp only [Z4w,decide_eq_true_eq,Z6N] at hi
       rcases hi with hi | ⟨hl9,he2,hw,hks⟩
       ·exact absurd hi hek
       ·have hy:=hk2.2 hl9 y List.mem_cons_self
        have hn:=Z5x o.e
        rw [if_neg (by omega),if_pos he2] at hn
        have e1:o.e.words=[]:=by rw [hn] at hw;exact List.eq_nil_of_length_eq_zero hw
        have e2:o.e.kids=[]:=by
         rw [hn] at hks
         have:(J4 o.e.kids).length=0:=hks
         cases hh:o.e.kids with
         | nil=> rfl
         | cons a b=> rw [hh] at this;simp [J4] at this
        have hd:doE false o.e y=some (.mk 1 y.words y.kids):=by
         rw [JB,if_neg hek,if_neg (by omega),if_pos he2,if_pos hy,e1,e2,wsD,Option.bind_some,YZ]
         try rfl
        rw [if_neg (show ¬(y ::q).length=0 by simp),List.getD_cons_zero,hd,if_pos (show Int.toNat 1≤(y ::q).length by simp)]
        refine ⟨?_,rfl⟩
        show Z8 (x.1++[y])=Z8 (x.1++[Tree.mk 1 y.words y.kids])
        rw [show Tree.mk 1 y.words y.kids=y by rw [←hy];exact Tree.eta y]
    ·rw [if_neg hi]
     have e:(Z1 ⟨(Z1 s).out++[⟨3,0,[],Yb o.e⟩],[],[]⟩).out=(Z1 s).out++[⟨3,0,[],Yb o.e⟩]:=by simp [Z1,Ji]
     rw [e,Z3D]
     cases hx:ZE false (Z1 s).out rest out with
     | none=> exact trivial
     | some x=>
      obtain ⟨m,hm⟩:=Z3C hx
      have hk2:=hk.drop m
      rw [←hm] at hk2
      simp only [Option.bind_some]
      rw [Y6,Y6,if_neg h0,if_neg h1,if_neg h2,if_neg (by show ¬(3:Int)=0;omega),if_neg (by show ¬(3:Int)=1;omega),if_neg (by show ¬(3:Int)=2;omega)]
      refine OptR.ite Iff.rfl (fun _=> trivial) fun _=> ?_
      exact (ih _ (Zab hk2.1 0) hre).map fun u v h=> ⟨Z3Y rfl (ZaO.2 h),rfl⟩
mutual
theorem ZeG:∀ (e:Edit) (d:Int) (t:Tree),Z3 e d=true→RT_ t→OptR Eqv (doE false (Yb e) t) (doE false e t)
 | .mk k o n w ks l os,d,t,hr,ht=> by
  have ri:=Yf hr
  have h1:=Zdi ks
  have h2:=Zdh l os
  have hkid:=ht.kids.1
  have hn:Yb (.mk k o n w ks l os)=if k=1 then .mk k (Z5 o) (Z5 n) [] [] l [] else if k=2 then .mk k Tree.nil Tree.nil w (J4 ks) l [] else if k=3 then .mk k Tree.nil Tree.nil [] [] l (Z1 (Y3 l os ⟨[],[],[]⟩)).out else .mk k Tree.nil Tree.nil [] [] l []:=by rw [Yb]
  rw [Z6l,Z6l,Ye,Ye]
  by_cases c1:k=1
  ·subst c1
   rw [if_pos rfl] at hn
   unfold ZeB
   rw [hn]
   refine OptR.ite Iff.rfl (fun _=> rfl) fun _=> OptR.ite Iff.rfl (fun _=> ?_) (fun h=> absurd rfl h)
   show OptR Eqv (if Yr (Z5 (Z5 o)) (Z5 t)=true then some (Z5 n) else none) (if Yr (Z5 o) (Z5 t)=true then some n else none)
   rw [Z1d]
   exact OptR.ite Iff.rfl (fun _=> Z1d n) (fun _=> trivial)
  ·by_cases c2:k=2
   ·subst c2
    rw [if_neg c1,if_pos rfl] at hn
    unfold ZeB
    rw [hn]
    refine OptR.ite Iff.rfl (fun _=> rfl) fun _=> OptR.ite Iff.rfl (fun h=> absurd h c1) fun _=> OptR.ite Iff.rfl (fun _=> ?_) (fun h=> absurd rfl h)
    refine OptR.ite Iff.rfl (fun ht1=> ?_) (fun _=> trivial)
    refine OptR.bind (R:=Eq) (OptR.rfl' _) ?_
    rintro a _ rfl
    exact (h1 (d - 1) t.kids t.kids t.kids (fun k hk=> (YN ri.kids k hk).2) hkid rfl).map fun x y h=> Z9x _ _ h
   ·by_cases c3:k=3
    ·subst c3
     rw [if_neg c1,if_neg c2,if_pos rfl] at hn
     unfold ZeB
     rw [hn]
     refine OptR.ite Iff.rfl (fun _=> rfl) fun _=> OptR.ite Iff.rfl (fun h=> absurd h c1) fun _=> OptR.ite Iff.rfl (fun h=> absurd h c2) fun _=> OptR.ite Iff.rfl (fun _=> ?_) (fun h=> absurd rfl h)
     refine OptR.ite Iff.rfl (fun ht1=> ?_) (fun _=> trivial)
     have hk9:=ht.k9
     rw [ht1] at hk9
     have:=h2 (d - 1) ⟨[],[],[]⟩ t.kids [] (fun o ho=> Go.AM.rightOs_mem ri.ops o ho) (fun o ho=> by cases ho) hk9
     exact (ZdP this).map fun x y h=> Z9x _ _ h
    ·have e0:k=0:=by have:=ri.kind;have:0≤k∧k≤3:=this;omega
     subst e0
     rw [if_neg c1,if_neg c2,if_neg c3] at hn
     unfold ZeB
     rw [hn]
     exact OptR.ite Iff.rfl (fun _=> rfl) fun h=> absurd rfl h
theorem Zdi:∀ (ks:List (KidOf Edit)) (d:Int) (tk a b:List Tree),(∀ k∈ks,Z3 k.e d=true)→(∀ t∈tk,RT_ t)→EqvL a b→OptR EqvL (YZ false tk (J4 ks) a) (YZ false tk ks b)
 | [],d,tk,a,b,_,_,h=> by rw [J4];exact h
 | k ::r,d,tk,a,b,hr,ht,h=> by
  rw [J4,YZ,YZ]
  have e:(Z1c k).at_=k.at_:=by cases k;rfl
  rw [e]
  refine (Zi8 k d tk (hr k List.mem_cons_self) ht).bind fun x y hxy=> Zdi r d tk _ _ (fun q hq=> hr q (List.mem_cons_of_mem _ hq)) ht (Zi9 h hxy)
theorem Zi8:∀ (k:KidOf Edit) (d:Int) (tk:List Tree),Z3 k.e d=true→(∀ t∈tk,RT_ t)→OptR Eqv (Z1F false tk (Z1c k)) (Z1F false tk k)
 | ⟨a,e⟩,d,tk,hr,ht=> by rw [Z1c,Z1F,Z1F];exact ZeG e d _ hr (Zab ht _)
theorem Zdh(list:Int):∀ (os:List (OpOf Edit)) (d:Int) (s:Wst) (rest out:List Tree),(∀ o∈os,Zd list o d=true)→N0s s→K9 list rest→OptR Rx (ZE false (Z1 (Y3 list os s)).out rest out) (ZE false ((Z1 s).out++os) rest out)
 | [],d,s,rest,out,_,_,_=> by rw [Y3,List.append_nil];exact Rx.rfl' _
 | o ::r,d,s,rest,out,hr,hs,hk=> by
  have ho:=hr o List.mem_cons_self
  have st:=ZmM hs ho hk out (Zkr o d)
  rw [Y3]
  refine Rx.trans (Zdh list r d _ rest out (fun q hq=> hr q (List.mem_cons_of_mem _ hq)) (hs.op ho) hk) ?_
  rw [Z2g,Z2g]
  have e:∀ x:List Tree × List Tree,ZE false (o ::r) x.2 x.1=(Z2K false o x.2 x.1).bind fun y=> ZE false r y.2 y.1:=fun x=> by rw [ZE]
  rw [show (fun x:List Tree × List Tree=> ZE false (o ::r) x.2 x.1)=fun x=> (Z2K false o x.2 x.1).bind fun y=> ZE false r y.2 y.1 from funext e,←Option.bind_assoc]
  exact st.bind fun x y hxy=> Z9Z r _ _ _ _ hxy.2 hxy.1 (fun q hq=> ⟨_,_,hr q (List.mem_cons_of_mem _ hq)⟩)
theorem Zkr:∀ (o:OpOf Edit) (d:Int),∀ y,RT_ y→Z3 o.e d=true→OptR Eqv (doE false (Yb o.e) y) (doE false o.e y)
 | ⟨_,_,_,e⟩,d,y,hy,hr=> ZeG e d y hr hy
end
end Go.AM.Ytpjenobkibfpcaa
