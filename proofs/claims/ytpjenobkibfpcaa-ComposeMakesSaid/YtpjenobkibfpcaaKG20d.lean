import Derived.Test.YtpjenobkibfpcaaCL25j
import Derived.Test.YtpjenobkibfpcaaCD25
import Derived.Test.YtpjenobkibfpcaaKB22b
set_option linter.unusedSimpArgs false
set_option linter.unusedVariables false
namespace Go.AM.Ytpjenobkibfpcaa
open Go.AM Go.Proofs
theorem Zd8{D list:Int}:∀ {l:List Tree},Yv D list l=true→Yv (-1) list l=true
 | [],_=> rfl
 | t ::r,h=> by
  simp only [Yv,Bool.and_eq_true] at h ⊢
  exact ⟨JM _ _ _ (by decide) h.1,Zd8 h.2⟩
mutual
theorem JW:∀ (e:Edit) (d m:Int),m < 0→Za e d=true→Za e m=true
 | .mk k o n w ks l os,d,m,hm,h=> by
  have h1:=ZbD ks
  have h2:=ZbB l os
  rw [Za] at h ⊢
  split at h
  ·cases h
  ·rename_i a
   rw [if_neg (by omega)]
   split at h
   ·cases h
   ·rename_i b
    rw [if_neg b]
    split at h
    ·rename_i c
     rw [if_pos c,ZeL hm]
     simp only [Bool.and_eq_true] at h ⊢
     exact ⟨⟨JM _ _ _ (by decide) h.1.1,JM _ _ _ (by decide) h.1.2⟩,h.2⟩
    ·rename_i c
     rw [if_neg c]
     simp only [Bool.and_eq_true] at h ⊢
     exact ⟨⟨⟨⟨h.1.1.1.1,h1 _ _ (m - 1) (by omega) h.1.1.1.2⟩,h.1.1.2⟩,h2 _ (m - 1) (by omega) h.1.2⟩,h.2⟩
theorem ZbD:∀ (ks:List (KidOf Edit)) (last d m:Int),m < 0→ZG last ks d=true→ZG last ks m=true
 | [],_,_,_,_,_=> rfl
 | k ::r,last,d,m,hm,h=> by
  simp only [ZG,Bool.and_eq_true] at h ⊢
  exact ⟨ZgH k last d m hm h.1,ZbD r k.at_ d m hm h.2⟩
theorem ZgH:∀ (k:KidOf Edit) (last d m:Int),m < 0→J3 last k d=true→J3 last k m=true
 | ⟨a,e⟩,last,d,m,hm,h=> by
  simp only [J3,Bool.and_eq_true] at h ⊢
  exact ⟨h.1,JW e d m hm h.2⟩
theorem ZbB(list:Int):∀ (os:List (OpOf Edit)) (d m:Int),m < 0→ZD list os d=true→ZD list os m=true
 | [],_,_,_,_=> rfl
 | o ::r,d,m,hm,h=> by
  simp only [ZD,Bool.and_eq_true] at h ⊢
  exact ⟨Zit list o d m hm h.1,ZbB list r d m hm h.2⟩
theorem Zit(list:Int):∀ (o:OpOf Edit) (d m:Int),m < 0→Zc list o d=true→Zc list o m=true
 | ⟨k,n,l,e⟩,d,m,hm,h=> by
  have he:=JW e d m hm
  rw [Zc] at h ⊢
  split at h
  ·rename_i h0;rw [if_pos h0];exact h
  ·rename_i h0
   rw [if_neg h0]
   split at h
   ·cases h
   ·rename_i h1
    rw [if_neg h1]
    split at h
    ·rename_i h2
     rw [if_pos h2,ZeL hm]
     simp only [Bool.and_eq_true] at h ⊢
     exact ⟨⟨Zd8 h.1.1,h.1.2⟩,h.2⟩
    ·rename_i h2
     rw [if_neg h2]
     simp only [Bool.and_eq_true] at h ⊢
     exact ⟨⟨h.1.1,he h.1.2⟩,h.2⟩
end
structure Wk (e:Edit):Prop where
 r:Za e (-1)=true
 g:YT e
theorem Wk.of{e:Edit}{d:Int}(h:Za e d=true)(g:YT e):Wk e:=⟨JW e d _ (by decide) h,g⟩
theorem YS{n:Int}(h0:0≤n)(h9:n≤9):isI n:=by unfold isI;omega
theorem ZfA{o n:Tree}(h1:Zl o (-1)=true)(h2:Zl n (-1)=true)(h3:o.kind≠10)(h4:n.kind≠10):Za (.mk 1 o n [] [] 0 []) (-1)=true:=by
 rw [Za,if_neg (by decide),if_neg (by simp),if_pos rfl,ZeL (by decide),h1,h2]
 simpa using ⟨h3,h4⟩
theorem ZoB{w:List WEdit}{ks:List Kid}(h1:Yk (-1) w=true)(h2:ZG (-1) ks (-2)=true):Za (.mk 2 Tree.nil Tree.nil w ks 0 []) (-1)=true:=by
 rw [Za,if_neg (by decide),if_neg (by simp [JR,Tree.nil]),if_neg (by decide),h1,show (-1:Int) - 1= -2 from rfl,h2]
 simp [ZD,Z2l,Z2k]
theorem Zfz{l:Int}{os:List Op}(hl:2≤l∧l≤9)(h:ZD l os (-2)=true)(h1:Z2l os 0 < 1048576)(h2:Z2k os 0 < 1048576):Za (.mk 3 Tree.nil Tree.nil [] [] l os) (-1)=true:=by
 rw [Za,if_neg (by decide),if_neg (by simp [JR,Tree.nil]),if_neg (by decide),show (-1:Int) - 1= -2 from rfl,h]
 simp only [Yk,ZG,Bool.true_and,Bool.and_true,Bool.and_eq_true,decide_eq_true_eq]
 exact ⟨by omega,h1,h2⟩
theorem ZcX:∀ {l:List WEdit} {last:Int},asc WEdit.at_ last l→(∀ w∈l,w.at_≤65534∧w.mask≠0∧Yl w.old w.mask=true∧Yl w.new w.mask=true)→Yk last l=true
 | [],_,_,_=> rfl
 | a ::r,last,h,hw=> by
  obtain ⟨h1,h2,h3,h4⟩:=hw a List.mem_cons_self
  simp only [Yk,Bool.and_eq_true,decide_eq_true_eq]
  exact ⟨⟨⟨⟨h.1,h1,h2⟩,h3⟩,h4⟩,ZcX h.2 fun w hw'=> hw w (List.mem_cons_of_mem _ hw')⟩
theorem ZdB{d:Int}:∀ {l:List Kid} {last:Int},asc KidOf.at_ last l→(∀ k∈l,k.at_≤65534∧k.e.kind≠0∧Za k.e d=true)→ZG last l d=true
 | [],_,_,_=> rfl
 | a ::r,last,h,hw=> by
  obtain ⟨h1,h2,h3⟩:=hw a List.mem_cons_self
  simp only [ZG,Z5V,Bool.and_eq_true,decide_eq_true_eq]
  exact ⟨⟨⟨h.1,h1,h2⟩,h3⟩,ZdB h.2 fun w hw'=> hw w (List.mem_cons_of_mem _ hw')⟩
theorem Z8h{list d:Int}:∀ {l:List Op},(∀ o∈l,Zc list o d=true)→ZD list l d=true
 | [],_=> rfl
 | a ::r,h=> by
  simp only [ZD,Bool.and_eq_true]
  exact ⟨h a List.mem_cons_self,Z8h fun o ho=> h o (List.mem_cons_of_mem _ ho)⟩
theorem Z1h{D list:Int}:∀ {l:List Tree},(∀ t∈l,Zl (.mk list [] [t]) D=true)→Yv D list l=true
 | [],_=> rfl
 | t ::r,h=> by
  simp only [Yv,Bool.and_eq_true]
  exact ⟨h t List.mem_cons_self,Z1h fun x hx=> h x (List.mem_cons_of_mem _ hx)⟩
theorem Zfy{list:Int}(hl:2≤list∧list≤9){t:Tree}(h1:Z2o list t=true)(h2:Zl t (-1)=true):Zl (.mk list [] [t]) (-1)=true:=
 ZdA hl (by simp) fun k hk=> by rw [List.mem_singleton.1 hk];exact ⟨h1,h2⟩
theorem Zmt{list n:Int}(h1:1≤n)(h2:n≤1048576)(d:Int):Zc list ⟨0,n,[],Edit.nil⟩ d=true:=by
 rw [Zc,if_pos rfl,Z30]
 simp only [List.length_nil,Bool.and_true,decide_eq_true_eq]
 exact ⟨h1,h2,trivial⟩
theorem Z4e{list k d:Int}{l:List Tree}(hk:k=1∨k=2)(h:Yv (dT d) list l=true)(hl:l≠[]):Zc list ⟨k,0,l,Edit.nil⟩ d=true:=by
 rw [Zc,if_neg (by omega),if_neg (by omega),if_pos (by omega),Z30,h]
 have:=List.length_pos_iff.2 hl
 simp only [Bool.true_and,Bool.and_true,decide_eq_true_eq]
 omega
theorem Zmu{list d:Int}{e:Edit}(h:Za e d=true)(h0:e.kind≠0)(hl:7 < list)(hw:list=8∨e.kind=2∨e.kind=1∧e.old.kind=1∧e.new.kind=1):Zc list ⟨3,0,[],e⟩ d=true:=by
 rw [Zc,if_neg (by decide),if_neg (by decide),if_neg (by decide),h]
 simp only [List.length_nil,Bool.and_true,Bool.and_eq_true,decide_eq_true_eq]
 exact ⟨⟨trivial,h0,hl⟩,hw⟩
def Wl(list:Int)(e:Edit):Prop:=list=8∨e.kind=2∨e.kind=1∧e.old.kind=1∧e.new.kind=1
theorem Z0E(t:Tree):(Z4 t).kind=t.kind:=Z2B t
theorem Zfg{w m:Int}(h:∀ i,i < 8→Zx m (i:Nat)=false→Z0 w i=0):Yl w m=true:=by
 unfold Yl mix of8
 rw [decide_eq_true_eq]
 have z:∀ i,i < 8→J0 w 0 m i=0:=by
  intro i hi
  unfold J0
  split
  ·exact Zxe i
  ·rename_i hn;exact h i hi (by simpa using hn)
 rw [z 0 (by omega),z 1 (by omega),z 2 (by omega),z 3 (by omega),z 4 (by omega),z 5 (by omega),z 6 (by omega),z 7 (by omega)]
 try rfl
theorem ZtM {a b:WEdit} (ra:Z2e a) (rb:Z2e b) (ha:a.at_≤65534∧a.mask≠0∧Yl a.old a.mask=true∧Yl a.new a.mask=true) (hb:Yl b.old b.mask=true∧Yl b.new b.mask=true)
  (hc:(J5 a b).2=true):((J5 a b).1.at_≤65534∧(J5 a b).1.mask≠0∧Yl (J5 a b).1.old (J5 a b).1.mask=true∧Yl (J5 a b).1.new (J5 a b).1.mask=true)∧Z2e (J5 a b).1:=by
 have hw:Z6D a b=true:=by
  unfold J5 at hc
  split at hc
  ·assumption
  ·cases hc
 have e:(J5 a b).1=⟨a.at_,orM a.mask b.mask,mix b.old a.old a.mask,mix a.new b.new b.mask⟩:=by unfold J5;rw [if_pos hw]
 obtain ⟨m1,m2⟩:=ZrH ra.2.1 rb.2.1
 rw [e]
 dsimp only
 refine ⟨⟨ha.1,fun h=> ?_,Zfg fun i hi hn=> ?_,Zfg fun i hi hn=> ?_⟩,ra.1,m1,Zh8 _ _ _,Zh8 _ _ _⟩
 ·refine ha.2.1 ?_
  have z:∀ i:Nat,Zx a.mask (i:Int)=false:=by
   intro i
   have:=m2 i
   rw [h] at this
   have z0:Zx 0 (i:Int)=false:=by unfold Zx;simp
   rw [z0] at this
   cases hn:Zx a.mask (i:Int) with
   | false=> rfl
   | true=> rw [hn] at this;simp at this
  have h0:=z 0;have h1:=z 1;have h2:=z 2;have h3:=z 3;have h4:=z 4;have h5:=z 5;have h6:=z 6;have h7:=z 7
  have:=ra.2.1
  simp only [Zx,decide_eq_false_iff_not,Int.toNat_natCast] at h0 h1 h2 h3 h4 h5 h6 h7
  omega
 ·rw [m2 i] at hn
  simp only [Bool.or_eq_false_iff] at hn
  rw [Zkx hi,if_neg (by rw [hn.1];decide)]
  exact Z3q hb.1 hi hn.2
 ·rw [m2 i] at hn
  simp only [Bool.or_eq_false_iff] at hn
  rw [Zkx hi,if_neg (by rw [hn.2];decide)]
  exact Z3q ha.2.2.2 hi hn.1
def Z7O{β:Type}(φ:β→Nat):List β→Nat
 | []=> 0
 | a ::r=> φ a+Z7O φ r
theorem Z7c{β:Type}{at_:β→Int}{one:β→β→β × Bool}(φ:β→Nat):∀ (k:Nat) (p q L:List β),p.length+q.length≤k→(∀ a∈p,∀ b∈q,(one a b).2=true→φ (one a b).1≤φ a+φ b)→Zd at_ one p q=some L→Z7O φ L≤Z7O φ p+Z7O φ q:=by
 intro k
 induction k with
 | zero=>
  intro p q L hk _ h
  have e1:p=[]:=List.eq_nil_of_length_eq_zero (by omega)
  have e2:q=[]:=List.eq_nil_of_length_eq_zero (by omega)
  subst e1 e2
  rw [Zd] at h
  cases h
  simp [Z7O]
 | succ k ih=>
  intro p q L hk ho h
  match p,q with
  | [],q=> rw [Zd] at h;cases h;simp [Z7O]
  | a ::p,[]=> rw [Zd] at h;cases h;simp [Z7O]
  | a ::p,b ::q=>
   simp only [List.length_cons] at hk
   rw [Zd] at h
   split at h
   ·obtain ⟨L',hL,rfl⟩:=Option.map_eq_some_iff.1 h
    have:=ih p (b ::q) L' (by simp only [List.length_cons];omega) (fun x hx y hy=> ho x (List.mem_cons_of_mem _ hx) y hy) hL
    simp only [Z7O] at this ⊢;omega
   ·split at h
    ·obtain ⟨L',hL,rfl⟩:=Option.map_eq_some_iff.1 h
     have:=ih (a ::p) q L' (by simp only [List.length_cons];omega) (fun x hx y hy=> ho x hx y (List.mem_cons_of_mem _ hy)) hL
     simp only [Z7O] at this ⊢;omega
    ·split at h
     ·rename_i hc
      obtain ⟨L',hL,rfl⟩:=Option.map_eq_some_iff.1 h
      have:=ih p q L' (by omega) (fun x hx y hy=> ho x (List.mem_cons_of_mem _ hx) y (List.mem_cons_of_mem _ hy)) hL
      have:=ho a List.mem_cons_self b List.mem_cons_self hc
      simp only [Z7O] at*;omega
     ·cases h
theorem ZcE:∀ l:List Kid,Z7O Z4B l=Z0n l
 | []=> rfl
 | k ::r=> by simp only [Z7O,Z0n,ZcE r]
theorem Z2U{β:Type}:∀ l:List β,Z7O (fun _=> 1) l=l.length
 | []=> rfl
 | k ::r=> by simp only [Z7O,List.length_cons,Z2U r];omega
theorem Zin:∀ {l:List Kid},(∀ k∈l,isI k.at_∧YT k.e)→Z11 l
 | [],_=> trivial
 | ⟨a,e⟩ ::r,h=> ⟨h _ List.mem_cons_self,Zin fun k hk=> h k (List.mem_cons_of_mem _ hk)⟩
theorem Zdy:∀ {l:List Op},(∀ o∈l,YH o)→Z0j l
 | [],_=> trivial
 | o ::r,h=> ⟨h _ List.mem_cons_self,Zdy fun k hk=> h k (List.mem_cons_of_mem _ hk)⟩
structure ComWk (K:Prop) (c:Edit × Bool) (p q:Edit):Prop where
 wk:c.2=true→Wk c.1
 ct:K→c.2=true→ctE c.1+18≤ctE p+ctE q
 kind:p.kind≠0→q.kind≠0→c.2=true→c.1.kind≠0
 wl:∀ list,7 < list→list≤9→p.kind≠0→q.kind≠0→c.2=true→Wl list p→Wl list q→Wl list c.1
theorem Z6z{e:Edit}{t:Tree}(h:(doB e t).2=true):∃ v,doE false e t=some v∧(doB e t).1=Z4 v:=by
 unfold doB at h ⊢
 cases hv:doE false e t with
 | none=> rw [hv] at h;cases h
 | some v=> exact ⟨v,rfl,rfl⟩
theorem Z3x{t:Tree}{d:Int}(h:Zl t d=true):Zl (Z4 t) d=true:=Z3y t d h
theorem Wk.turn{p:Edit}(h:Wk p):Wk (Zy (Zv p)):=⟨Z32 _ _ (Jx _ _ h.r),Z6Z _ _ (Jx _ _ h.r) (Z6Y _ h.g)⟩
theorem Zcf{list:Int}(hl:2≤list∧list≤9){e:Edit}{t u:Tree}{d:Int}(hr:Za e d=true)(hd:doE false e t=some u)(h7:7 < list)(hw:Wl list e)(h0:e.kind≠0)(ht:Zl t (-1)=true):Z2o list u=true:=by
 obtain ⟨j1,j2,_,_⟩:=Zal hr hd
 unfold Z2o
 rw [if_neg (by omega)]
 by_cases hl9:list=9
 ·rw [if_pos hl9]
  refine decide_eq_true ?_
  rcases hw with q | q | q
  ·omega
  ·exact (j2 q).1
  ·rw [j1 q.1];exact q.2.2
 ·rw [if_neg hl9]
  exact decide_eq_true ((Z4x _ e d t u (Nat.le_refl _) hr ht hd).2 h0)
theorem Zet{list:Int}(h7:7 < list){u:Tree}(h:Z2o list u=true):Z2o list (Z4 u)=true:=by
 unfold Z2o at h ⊢
 rw [if_neg (by omega)] at h ⊢
 rw [Z0E]
 exact h
theorem ZmU {K:Prop} {f:Edit→Edit→Edit × Bool} {p q:Edit} (wp:Wk p) (wq:Wk q) (p3:p.kind=3) (hl:p.list=q.list)
  (ih:∀ a b,Z5 a+Z5 b < Z5 p+Z5 q→Wk a→Wk b→ComWk K (f a b) a b) {ps:List Piece} (e:(ZP 1 2 p.ops q.ops []).1=ps) (hb1:(ZP 1 2 p.ops q.ops []).2.1=true) {ops:List Op} (hc:Jk f ps=some ops):
  (∀ o∈ops,Zc p.list o (-2)=true∧YH o)∧Jh ops=Jh p.ops∧Jp ops=Jp q.ops∧(K→J4 ops≤J4 p.ops+J4 q.ops):=by
 have rp:=Zn wp.r
 have rq:=Zn wq.r
 have gp:=ZV wp.g
 have gq:=ZV wq.g
 have hli:=rp.list p3
 have op:=ZJ wp.r
 have oq:=ZJ wq.r
 have rpo:ZD p.list p.ops (-2)=true:=rp.ops
 have rqo:ZD p.list q.ops (-2)=true:=by rw [hl];exact rq.ops
 obtain ⟨i1,_⟩:=Z4d _ p.ops q.ops [] (Nat.le_refl _) op oq
 obtain ⟨ps0,e0,hps,_,_⟩:=i1 hb1
 obtain ⟨ps1,e1,sA,sB,hlen⟩:=Z9s Zxj Zxi 1 _ p.ops q.ops [] (Nat.le_refl _) op oq hb1
 obtain ⟨ps2,e2,sC,sD,_⟩:=Z9s Zxh Zxh 1 _ p.ops q.ops [] (Nat.le_refl _) op oq hb1
 rw [e,List.nil_append] at e0 e1 e2
 subst e0 e1 e2
 have side:∀ x∈ps,(x.of≠2→Zc p.list x.p (-2)=true∧YH x.p)∧(x.of≠1→Zc p.list x.q (-2)=true∧YH x.q):=by
  have one:∀ (l:List Op) (o:Op),(∀ o'∈l,Zc p.list o' (-2)=true)→Z0j l→Part l o→ZN o→Zc p.list o (-2)=true∧YH o:=by
   intro l o hr hg ⟨o',m,k,e1,_,lt⟩ ho
   have R:=Y7 (hr o' m)
   have G:=JD (Z06 hg m)
   obtain ⟨kk,nn,ll,ee⟩:=o
   have k:kk=o'.kind:=k
   have e1:ee=o'.e:=e1
   have lt:∀ t∈ll,t∈o'.l:=lt
   have gl:Yp ll:=Z9a fun t ht=> Jd G.2.2.1 (lt t ht)
   cases R with
   | keep n1 a1 a2=>
    have k:kk=0:=k
    have e1:ee=Edit.nil:=e1
    subst k e1
    rcases ho with h | h | h
    ·have hl:ll=[]:=h.2.1
     subst hl
     have h3:1≤nn∧nn≤1048576:=h.2.2.1
     exact ⟨Zmt h3.1 h3.2 _,YS (by decide) (by decide),by unfold isI;omega,trivial,G.2.2.2⟩
    ·have:=h.1;omega
    ·have:=h.1;omega
   | gone l1 a1 a2=>
    have k:kk=1:=k
    have e1:ee=Edit.nil:=e1
    subst k e1
    rcases ho with h | h | h
    ·have:=h.1;omega
    ·have hn:nn=0:=h.2.1
     subst hn
     exact ⟨Z4e (.inl rfl) (Z1h fun t ht=> Z0I a1 t (lt t ht)) h.2.2.1,YS (by decide) (by decide),YS (by decide) (by decide),gl,G.2.2.2⟩
    ·have:=h.1;omega
   | come l1 a1 a2=>
    have k:kk=2:=k
    have e1:ee=Edit.nil:=e1
    subst k e1
    rcases ho with h | h | h
    ·have:=h.1;omega
    ·have hn:nn=0:=h.2.1
     subst hn
     exact ⟨Z4e (.inr rfl) (Z1h fun t ht=> Z0I a1 t (lt t ht)) h.2.2.1,YS (by decide) (by decide),YS (by decide) (by decide),gl,G.2.2.2⟩
    ·have:=h.1;omega
   | into e2 a1 a2 a3 a4=>
    have k:kk=3:=k
    have e1:ee=e2:=e1
    subst k e1
    rcases ho with h | h | h
    ·have:=h.1;omega
    ·have:=h.1;omega
    ·have hn:nn=0:=h.2.1
     have hl:ll=[]:=h.2.2
     subst hn hl
     exact ⟨Zmu a1 a2 a3 a4,YS (by decide) (by decide),YS (by decide) (by decide),trivial,G.2.2.2⟩
  intro x hx
  have X:=hps x hx
  exact ⟨fun h=> one p.ops x.p (fun o ho=> rightOs_mem rpo ho) gp.2.2.2.2 (X.pp h).1 (X.pp h).2,fun h=> one q.ops x.q (fun o ho=> rightOs_mem rqo ho) gq.2.2.2.2 (X.qq h).1 (X.qq h).2⟩
 have one:∀ x∈ps,(ZF f x).ok=true→((ZF f x).is=true→Zc p.list (ZF f x).op (-2)=true∧YH (ZF f x).op)∧
   (φA (ZF f x).op*(if (ZF f x).is then 1 else 0)=(if x.of=2 then 0 else φA x.p))∧(φB (ZF f x).op*(if (ZF f x).is then 1 else 0)=(if x.of=1 then 0 else φB x.q))∧
   (K→(ZF f x).is=true→φC (ZF f x).op≤(if x.of=2 then 0 else φC x.p)+(if x.of=1 then 0 else φC x.q)):=by
  intro x hx hok
  have X:=hps x hx
  obtain ⟨s1,s2⟩:=side x hx
  have cnn:∀ o:Op,0≤φC o:=fun o=> by unfold φC;have:=ZeN o.e;omega
  unfold ZF at hok ⊢
  by_cases c1:x.of=1∨(x.of=0∧x.q.kind=0)
  ·rw [if_pos c1] at hok ⊢
   dsimp only
   have h2:x.of≠2:=by omega
   rw [if_pos rfl,if_neg h2,if_neg h2]
   refine ⟨fun _=> s1 h2,by omega,?_,fun _ _=> ?_⟩
   ·rcases c1 with c | ⟨c,c'⟩
    ·rw [if_pos c];unfold φB;rw [if_pos (X.one c)];try rfl
    ·rw [if_neg (by omega)]
     obtain ⟨b1,b2,b3⟩:=X.both c
     unfold φB
     rw [if_neg b1,if_neg (by omega),b3];omega
   ·have:=cnn x.q
    split <;> omega
  rw [if_neg c1] at hok ⊢
  by_cases c2:x.of=2∨x.p.kind=0
  ·rw [if_pos c2] at hok ⊢
   dsimp only
   have h2:x.of≠1:=by omega
   rw [if_pos rfl,if_neg h2,if_neg h2]
   refine ⟨fun _=> s2 h2,?_,by omega,fun _ _=> ?_⟩
   ·by_cases c:x.of=2
    ·rw [if_pos c];unfold φA;rw [if_pos (X.two c)];try rfl
    ·rw [if_neg c]
     have c0:x.of=0:=by rcases X.of with h | h | h <;> omega
     obtain ⟨b1,b2,b3⟩:=X.both c0
     unfold φA
     rw [if_neg b2,if_neg (by omega),b3];omega
   ·have:=cnn x.p
    split <;> omega
  rw [if_neg c2] at hok ⊢
  have c0:x.of=0:=by rcases X.of with h | h | h <;> omega
  obtain ⟨b1,b2,b3⟩:=X.both c0
  have h1:x.of≠1:=by omega
  have h2:x.of≠2:=by omega
  obtain ⟨u1,u2⟩:=s1 h2
  obtain ⟨v1,v2⟩:=s2 h1
  have ok1:=(X.pp h2).2
  have ok2:=(X.qq h1).2
  have kp:x.p.kind=2∨x.p.kind=3:=by rcases YX ok1 with k | k | k | k <;> omega
  have kq:x.q.kind=1∨x.q.kind=3:=by rcases YX ok2 with k | k | k | k <;> omega
  rw [if_neg h2,if_neg h2,if_neg h1,if_neg h1]
  by_cases c3:x.p.kind=2∧x.q.kind=1
  ·rw [if_pos c3] at hok ⊢
   dsimp only
   refine ⟨fun h=> (by cases h),?_,?_,fun _ h=> by cases h⟩
   ·unfold φA;rw [if_pos c3.1];try rfl
   ·unfold φB;rw [if_pos c3.2];try rfl
  rw [if_neg c3] at hok ⊢
  have one3:∀ o:Op,o.kind=3→Zc p.list o (-2)=true→YH o→(7 < p.list∧o.e.kind≠0∧Wl p.list o.e∧Wk o.e)∧o.l=[]:=by
   intro o k hr hg
   have R:=Y7 hr
   cases R with
   | keep | gone | come=> exact absurd k (by simp)
   | into e a1 a2 a3 a4=> exact ⟨⟨a3,a2,a4,⟨JW _ _ _ (by decide) a1,(JD hg).2.2.2⟩⟩,rfl⟩
  have one12:∀ o:Op,(o.kind=1∨o.kind=2)→Z2 o=1→ZN o→Zc p.list o (-2)=true→YH o→∃ t,o.l=[t]∧Z2o p.list t=true∧Zl t (-1)=true∧rng t∧o.e=Edit.nil:=by
   intro o k h1 ho hr hg
   have hlen:=JY ho k
   have hl1:o.l.length=1:=by omega
   obtain ⟨t,ht⟩:∃ t,o.l=[t]:=by
    match h:o.l,hl1 with
    | [t],_=> exact ⟨t,rfl⟩
   have R:=Y7 hr
   have gt:=(JD hg).2.2.1
   rw [ht] at gt
   refine ⟨t,ht,?_⟩
   cases R with
   | keep=> exact absurd k (by simp)
   | into=> exact absurd k (by simp)
   | gone l a1 a2=> exact ⟨(Z0i hli a1 t (by have ht:l=[t]:=ht;rw [ht];simp)).1,(Z0i hli a1 t (by have ht:l=[t]:=ht;rw [ht];simp)).2,gt.1,rfl⟩
   | come l a1 a2=> exact ⟨(Z0i hli a1 t (by have ht:l=[t]:=ht;rw [ht];simp)).1,(Z0i hli a1 t (by have ht:l=[t]:=ht;rw [ht];simp)).2,gt.1,rfl⟩
  by_cases c4:x.p.kind=2
  ·rw [if_pos c4] at hok ⊢
   have q3':x.q.kind=3:=by omega
   have hl1:Z2 x.q=1:=JQ q3'
   obtain ⟨t,ht,t1,t2,t3,t4⟩:=one12 x.p (.inr c4) (by omega) ok1 u1 u2
   obtain ⟨⟨e1,e2,e3,e4⟩,e5⟩:=one3 x.q q3' v1 v2
   dsimp only at hok ⊢
   rw [ht,List.getD_cons_zero] at hok ⊢
   obtain ⟨v,hv,ev⟩:=Z6z hok
   rw [if_pos rfl,ev]
   have kv:=Zcf hli e4.r hv e1 e3 e2 t2
   have rv:=(Z4x _ _ _ t v (Nat.le_refl _) e4.r t2 hv).1
   refine ⟨fun _=> ⟨Z4e (.inr rfl) ?_ (by simp),YS (by decide) (by decide),YS (by decide) (by decide),⟨Z10 _ (ZaH false _ _ v e4.g t3 hv),trivial⟩,?_⟩,?_,?_,fun _ _=> ?_⟩
   ·rw [ZeL (by decide)]
    exact Z1h fun y hy=> by rw [List.mem_singleton.1 hy];exact Zfy hli (Zet e1 kv) (Z3x rv)
   ·rw [←t4];exact (JD u2).2.2.2
   ·unfold φA;rw [if_pos c4];try rfl
   ·show (if (2:Int)=1 then (0:Int) else Z2 _)*1=(if x.q.kind=1 then 0 else Z2 x.q)
    rw [if_neg (by decide),if_neg (by omega),hl1];simp [Z2]
   ·unfold φC
    dsimp only
    rw [ht,t4,e5]
    have:=Z2g false _ _ _ v e4.r hv
    have:=Y6 v
    simp only [Zf,Z3k]
    omega
  rw [if_neg c4] at hok ⊢
  have p3':x.p.kind=3:=by omega
  have hl0:Z2 x.p=1:=JQ p3'
  obtain ⟨⟨e1,e2,e3,e4⟩,e5⟩:=one3 x.p p3' u1 u2
  by_cases c5:x.q.kind=1
  ·rw [if_pos c5] at hok ⊢
   obtain ⟨t,ht,t1,t2,t3,t4⟩:=one12 x.q (.inl c5) (by omega) ok2 v1 v2
   dsimp only at hok ⊢
   rw [ht,List.getD_cons_zero] at hok ⊢
   obtain ⟨v,hv,ev⟩:=Z6z hok
   have wt:=e4.turn
   have kt:(Zy (Zv x.p.e)).kind=x.p.e.kind:=by rw [Z7b,Z1g]
   have wlt:Wl p.list (Zy (Zv x.p.e)):=by
    rcases e3 with h | h | h
    ·exact .inl h
    ·exact .inr (.inl (by omega))
    ·refine .inr (.inr ⟨by omega,?_,?_⟩)
     ·rw [(Z9v (Zv x.p.e) (by rw [Z1g];exact h.1)).1,Z0E,Zfi];exact h.2.2
     ·rw [(Z9v (Zv x.p.e) (by rw [Z1g];exact h.1)).2,Z0E,Zfj];exact h.2.1
   rw [if_pos rfl,ev]
   have kv:=Zcf hli wt.r hv e1 wlt (by omega) t2
   have rv:=(Z4x _ _ _ t v (Nat.le_refl _) wt.r t2 hv).1
   refine ⟨fun _=> ⟨Z4e (.inl rfl) ?_ (by simp),YS (by decide) (by decide),YS (by decide) (by decide),⟨Z10 _ (ZaH false _ _ v wt.g t3 hv),trivial⟩,?_⟩,?_,?_,fun _ _=> ?_⟩
   ·rw [ZeL (by decide)]
    exact Z1h fun y hy=> by rw [List.mem_singleton.1 hy];exact Zfy hli (Zet e1 kv) (Z3x rv)
   ·rw [←t4];exact (JD v2).2.2.2
   ·show (if (1:Int)=2 then (0:Int) else Z2 _)*1=(if x.p.kind=2 then 0 else Z2 x.p)
    rw [if_neg (by decide),if_neg (by omega),hl0];simp [Z2]
   ·unfold φB;rw [if_pos c5];try rfl
   ·unfold φC
    dsimp only
    rw [ht,t4,e5]
    have:=Z2g false _ _ _ v wt.r hv
    have:=Y6 v
    have:=Z8F (Zv x.p.e)
    rw [Z5n] at this
    simp only [Zf,Z3k]
    omega
  rw [if_neg c5] at hok ⊢
  have q3':x.q.kind=3:=by omega
  have hl1:Z2 x.q=1:=JQ q3'
  obtain ⟨⟨f1,f2,f3,f4⟩,f5⟩:=one3 x.q q3' v1 v2
  dsimp only at hok ⊢
  rw [if_pos rfl]
  obtain ⟨o1,m1,_,k1,_⟩:=(X.pp h2).1
  obtain ⟨o2,m2,_,k2,_⟩:=(X.qq h1).1
  have:=Z01 m1
  have:=Z01 m2
  have H:=ih x.p.e x.q.e (by rw [k1,k2];omega) e4 f4
  refine ⟨fun _=> ⟨Zmu (JW _ _ _ (by decide) (H.wk hok).r) (H.kind e2 f2 hok) e1 (H.wl p.list e1 hli.2 e2 f2 hok e3 f3),YS (by decide) (by decide),YS (by decide) (by decide),trivial,(H.wk hok).g⟩,?_,?_,fun hK _=> ?_⟩
  ·show (if (3:Int)=2 then (0:Int) else Z2 _)*1=(if x.p.kind=2 then 0 else Z2 x.p)
   rw [if_neg (by decide),if_neg (by omega),hl0];simp [Z2]
  ·show (if (3:Int)=1 then (0:Int) else Z2 _)*1=(if x.q.kind=1 then 0 else Z2 x.q)
   rw [if_neg (by decide),if_neg (by omega),hl1];simp [Z2]
  ·unfold φC
   dsimp only
   rw [e5,f5]
   have:=H.ct hK hok
   simp only [Zf]
   omega
 have all:∀ (ps:List Piece) (ops:List Op),(∀ x∈ps,(ZF f x).ok=true→((ZF f x).is=true→Zc p.list (ZF f x).op (-2)=true∧YH (ZF f x).op)∧
   (φA (ZF f x).op*(if (ZF f x).is then 1 else 0)=(if x.of=2 then 0 else φA x.p))∧(φB (ZF f x).op*(if (ZF f x).is then 1 else 0)=(if x.of=1 then 0 else φB x.q))∧
   (K→(ZF f x).is=true→φC (ZF f x).op≤(if x.of=2 then 0 else φC x.p)+(if x.of=1 then 0 else φC x.q)))→Jk f ps=some ops→
   (∀ o∈ops,Zc p.list o (-2)=true∧YH o)∧Y2 φA ops=Y2 φA (Z1K ps)∧Y2 φB ops=Y2 φB (Z1J ps)∧(K→Y2 φC ops≤Y2 φC (Z1K ps)+Y2 φC (Z1J ps))∧ops.length≤ps.length:=by
  intro ps
  induction ps with
  | nil=> intro ops _ h;cases h;exact ⟨fun o ho=> (by cases ho),rfl,rfl,fun _=> (by simp [Z1K,Z1J,Y2]),by simp⟩
  | cons x r ihp=>
   intro ops hx h
   rw [Jk] at h
   split at h
   ·rename_i hok
    obtain ⟨l,hl',rfl⟩:=Option.map_eq_some_iff.1 h
    obtain ⟨j1,j2,j3,j4,j5⟩:=ihp l (fun y hy=> hx y (List.mem_cons_of_mem _ hy)) hl'
    obtain ⟨k1,k2,k3,k4⟩:=hx x List.mem_cons_self hok
    have cnn:∀ o:Op,0≤φC o:=fun o=> by unfold φC;have:=ZeN o.e;omega
    have c1:=cnn x.p
    have c2:=cnn x.q
    have hsP:∀ φ:Op→Int,Y2 φ (Z1K (x ::r))=(if x.of=2 then 0 else φ x.p)+Y2 φ (Z1K r):=fun φ=> by
     simp only [Z1K]
     split <;> simp [Y2]
    have hsQ:∀ φ:Op→Int,Y2 φ (Z1J (x ::r))=(if x.of=1 then 0 else φ x.q)+Y2 φ (Z1J r):=fun φ=> by
     simp only [Z1J]
     split <;> simp [Y2]
    rw [hsP,hsQ,hsP,hsQ]
    by_cases his:(ZF f x).is=true
    ·rw [if_pos his] at k2 k3
     rw [if_pos his]
     have k4:=fun hK=> k4 hK his
     simp only [List.cons_append,List.nil_append,Y2,List.length_cons]
     refine ⟨fun o ho=> ?_,by omega,by omega,fun hK=> (by have:=k4 hK;have:=j4 hK;omega),by omega⟩
     rcases List.mem_cons.1 ho with rfl | ho
     ·exact k1 his
     ·exact j1 o ho
    ·rw [if_neg his] at k2 k3
     rw [if_neg his]
     simp only [List.nil_append,List.length_cons]
     refine ⟨j1,by omega,by omega,fun hK=> ?_,by omega⟩
     have:=j4 hK
     have:0≤(if x.of=2 then 0 else φC x.p)+(if x.of=1 then 0 else φC x.q):=by split <;> split <;> omega
     omega
   ·cases h
 obtain ⟨j1,j2,j3,j4,j5⟩:=all ps ops one hc
 rw [Zdb] at j2
 rw [Zda] at j3
 rw [sA,Zdb] at j2
 rw [sB,Zda] at j3
 have x1:=Zgw ops
 have x2:=Zgw p.ops
 have x3:=Zgw q.ops
 exact ⟨j1,j2,j3,fun hK=> (by have:=j4 hK;omega)⟩
theorem ZlJ {K:Prop} {f:Edit→Edit→Edit × Bool} {p q:Edit} (wp:Wk p) (wq:Wk q)
  (ih:∀ a b,Z5 a+Z5 b < Z5 p+Z5 q→Wk a→Wk b→ComWk K (f a b) a b):ComWk K (Jn f p q) p q:=by
 have rp:=Zn wp.r
 have rq:=Zn wq.r
 have gp:=ZV wp.g
 have gq:=ZV wq.g
 have cp:=ZeN p
 have cq:=ZeN q
 have ap:=Jt p
 have aq:=Jt q
 unfold Jn
 by_cases p0:p.kind=0
 ·rw [if_pos p0]
  exact ⟨fun _=> wq,fun _ _=> by dsimp only;omega,fun h=> absurd p0 h,fun _ _ _ h=> absurd p0 h⟩
 rw [if_neg p0]
 by_cases q0:q.kind=0
 ·rw [if_pos q0]
  exact ⟨fun _=> wp,fun _ _=> by dsimp only;omega,fun _ h=> absurd q0 h,fun _ _ _ _ h=> absurd q0 h⟩
 rw [if_neg q0]
 by_cases p1:p.kind=1
 ·rw [if_pos p1]
  obtain ⟨r1,r2,r3,r4⟩:=rp.rep p1
  have key:(doB q p.new).2=true→(Zl (doB q p.new).1 (-1)=true∧(doB q p.new).1.kind≠10)∧rng (doB q p.new).1∧Zo (doB q p.new).1+18≤Zo p.new+ctE q∧∀ list,7 < list→list≤9→p.new.kind=1→list=9→Wl list q→(doB q p.new).1.kind=1:=by
   intro hb
   obtain ⟨v,hv,e⟩:=Z6z hb
   rw [e]
   obtain ⟨x1,x2⟩:=Z4x _ q _ p.new v (Nat.le_refl _) wq.r r2 hv
   refine ⟨⟨Z3x x1,by rw [Z0E];exact x2 q0⟩,Z10 _ (ZaH false q _ v wq.g gp.2.1 hv),?_,fun list h7 h9 hk h9' hw=> ?_⟩
   ·have:=Z2g false q _ _ v wq.r hv
    have:=Y6 v
    omega
   ·rw [Z0E]
    obtain ⟨j1,j2,_,_⟩:=Zal wq.r hv
    rcases hw with h | h | h
    ·omega
    ·exact (j2 h).1
    ·rw [j1 h.1];exact h.2.2
  refine ⟨fun hb=> ?_,fun _ hb=> ?_,fun _ _ _=> (show (1:Int)≠0 by decide),fun list h7 h9 _ _ hb hp hq=> ?_⟩
  ·obtain ⟨⟨k1,k2⟩,k3,_,_⟩:=key hb
   exact ⟨ZfA r1 k1 r3 k2,YS (by decide) (by decide),gp.1,k3,by simp,YS (by decide) (by decide),trivial,trivial⟩
  ·obtain ⟨_,_,k4,_⟩:=key hb
   rw [Znu]
   omega
  ·by_cases h8:list=8
   ·exact .inl h8
   ·have hp':p.kind=1∧p.old.kind=1∧p.new.kind=1:=by
     rcases hp with h | h | h
     ·exact absurd h h8
     ·omega
     ·exact h
    exact .inr (.inr ⟨rfl,hp'.2.1,(key hb).2.2.2 list h7 h9 hp'.2.2 (by omega) hq⟩)
 rw [if_neg p1]
 by_cases q1:q.kind=1
 ·rw [if_pos q1]
  obtain ⟨r1,r2,r3,r4⟩:=rq.rep q1
  have wt:=wp.turn
  have kt:(Zy (Zv p)).kind=p.kind:=by rw [Z7b,Z1g]
  have key:(doB (Zy (Zv p)) q.old).2=true→(Zl (doB (Zy (Zv p)) q.old).1 (-1)=true∧(doB (Zy (Zv p)) q.old).1.kind≠10)∧rng (doB (Zy (Zv p)) q.old).1∧Zo (doB (Zy (Zv p)) q.old).1+18≤Zo q.old+ctE p∧(p.kind=2→(doB (Zy (Zv p)) q.old).1.kind=1):=by
   intro hb
   obtain ⟨v,hv,e⟩:=Z6z hb
   rw [e]
   obtain ⟨x1,x2⟩:=Z4x _ _ _ q.old v (Nat.le_refl _) wt.r r1 hv
   refine ⟨⟨Z3x x1,by rw [Z0E];exact x2 (by omega)⟩,Z10 _ (ZaH false _ _ v wt.g gq.1 hv),?_,fun hk=> ?_⟩
   ·have:=Z2g false _ _ _ v wt.r hv
    have:=Y6 v
    have:=Z8F (Zv p)
    rw [Z5n] at this
    omega
   ·rw [Z0E]
    exact ((Zal wt.r hv).2.1 (by omega)).1
  refine ⟨fun hb=> ?_,fun _ hb=> ?_,fun _ _ _=> (show (1:Int)≠0 by decide),fun list h7 h9 _ _ hb hp hq=> ?_⟩
  ·obtain ⟨⟨k1,k2⟩,k3,_,_⟩:=key hb
   exact ⟨ZfA k1 r2 k2 r4,YS (by decide) (by decide),k3,gq.2.1,by simp,YS (by decide) (by decide),trivial,trivial⟩
  ·obtain ⟨_,_,k4,_⟩:=key hb
   rw [Znu]
   omega
  ·by_cases h8:list=8
   ·exact .inl h8
   ·have hq':q.kind=1∧q.old.kind=1∧q.new.kind=1:=by
     rcases hq with h | h | h
     ·exact absurd h h8
     ·omega
     ·exact h
    refine .inr (.inr ⟨rfl,(key hb).2.2.2 ?_,hq'.2.2⟩)
    rcases hp with h | h | h
    ·exact absurd h h8
    ·exact h
    ·exact absurd h.1 p1
 rw [if_neg q1]
 by_cases hd:p.kind≠q.kind∨p.list≠q.list
 ·rw [if_pos hd]
  exact ⟨fun h=> (by cases h),fun _ h=> (by cases h),fun _ _ h=> (by cases h),fun _ _ _ _ _ h=> (by cases h)⟩
 rw [if_neg hd]
 by_cases p2:p.kind=2
 ·rw [if_pos p2]
  have q2:q.kind=2:=by omega
  have awp:=Jw rp.words
  have awq:=Jw rq.words
  have akp:=Zp rp.kids
  have akq:=Zp rq.kids
  have hwat:∀ a b:WEdit,a.at_=b.at_→(J5 a b).2=true→(J5 a b).1.at_=a.at_:=fun a b _ h=> ZvO a b h
  have hkat:∀ a b:Kid,a.at_=b.at_→(Jv f a b).2=true→(Jv f a b).1.at_=a.at_:=fun a b _ _=> rfl
  have hk:∀ a∈p.kids,∀ b∈q.kids,ComWk K (f a.e b.e) a.e b.e:=by
   intro a ha b hb
   have:=Y9 ha
   have:=Y9 hb
   exact ih a.e b.e (by omega) (.of (akp a ha).2 (J1 gp.2.2.2.1 ha).2) (.of (akq b hb).2 (J1 gq.2.2.2.1 hb).2)
  cases hL:Zd WEdit.at_ J5 p.words q.words with
  | none=> exact ⟨fun h=> (by cases h),fun _ h=> (by cases h),fun _ _ h=> (by cases h),fun _ _ _ _ _ h=> (by cases h)⟩
  | some L=>
   rw [if_pos (show (some L).isSome=true from rfl)]
   cases hM:Zd KidOf.at_ (Jv f) p.kids q.kids with
   | none=> exact ⟨fun h=> (by cases h),fun _ h=> (by cases h),fun _ _ h=> (by cases h),fun _ _ _ _ _ h=> (by cases h)⟩
   | some M=>
    have S:=(Zef hwat _ p.words q.words (-1) (Nat.le_refl _) (Z0H rp.words) (Z0H rq.words)).2 L hL
    have T:=(Zef hkat _ p.kids q.kids (-1) (Nat.le_refl _) (Z1T rp.kids) (Z1T rq.kids)).2 M hM
    have hw:∀ w∈L,(w.at_≤65534∧w.mask≠0∧Yl w.old w.mask=true∧Yl w.new w.mask=true)∧Z2e w:=by
     intro w hw
     rcases S.of w hw with ⟨h,_⟩ | ⟨h,_⟩ | ⟨a,ha,b,hb,_,hc,rfl⟩
     ·exact ⟨(awp w h).2,gp.2.2.1 w h⟩
     ·exact ⟨(awq w h).2,gq.2.2.1 w h⟩
     ·exact ZtM (gp.2.2.1 a ha) (gq.2.2.1 b hb) (awp a ha).2 (awq b hb).2.2.2 hc
    have hm:∀ k∈M,(k.at_≤65534∧k.e.kind≠0∧Za k.e (-2)=true)∧isI k.at_∧YT k.e:=by
     intro k hk'
     rcases T.of k hk' with ⟨h,_⟩ | ⟨h,_⟩ | ⟨a,ha,b,hb,_,hc,rfl⟩
     ·exact ⟨⟨(akp k h).1.2.1,(akp k h).1.2.2,JW _ _ _ (by decide) (akp k h).2⟩,J1 gp.2.2.2.1 h⟩
     ·exact ⟨⟨(akq k h).1.2.1,(akq k h).1.2.2,JW _ _ _ (by decide) (akq k h).2⟩,J1 gq.2.2.2.1 h⟩
     ·have H:=hk a ha b hb
      have hc:(f a.e b.e).2=true:=hc
      exact ⟨⟨(akp a ha).1.2.1,H.kind (akp a ha).1.2.2 (akq b hb).1.2.2 hc,JW _ _ _ (by decide) (H.wk hc).r⟩,(J1 gp.2.2.2.1 ha).1,(H.wk hc).g⟩
    refine ⟨fun _=> ⟨ZoB (ZcX S.asc_ fun w h=> (hw w h).1) (ZdB T.asc_ fun k h=> (hm k h).1),?_⟩,fun hK _=> ?_,fun _ _ _=> (show (2:Int)≠0 by decide),fun _ _ _ _ _ _ _ _=> .inr (.inl rfl)⟩
    ·exact ⟨YS (by decide) (by decide),Jc,Jc,fun w h=> (hw w h).2,YS (by decide) (by decide),Zin fun k h=> (hm k h).2,trivial⟩
    ·have c1:=Z7c (fun _=> 1) _ _ _ _ (Nat.le_refl _) (fun a _ b _ _=> by omega) hL
     have c2:=Z7c Z4B _ _ _ _ (Nat.le_refl _) (fun a ha b hb hc=> by
      have H:=hk a ha b hb
      have hc:(f a.e b.e).2=true:=hc
      have:=H.ct hK hc
      rw [Z1W,Z1W,Z1W]
      show 65600+ctE (f a.e b.e).1≤_
      omega) hM
     rw [Z2U,Z2U,Z2U] at c1
     rw [ZcE,ZcE,ZcE] at c2
     have mo:=ZQ p.old;have mn:=ZQ p.new;have mo':=ZQ q.old;have mn':=ZQ q.new
     simp only [ctE,J4,ofO,Option.getD_some,JN]
     omega
 ·rw [if_neg p2]
  have p3:p.kind=3:=by have:=rp.kind;omega
  have q3:q.kind=3:=by omega
  have hl:p.list=q.list:=by omega
  have hli:=rp.list p3
  have op:=ZJ wp.r
  have oq:=ZJ wq.r
  unfold Z04
  by_cases hb1:(ZP 1 2 p.ops q.ops []).2.1=true
  ·rw [if_pos hb1]
   cases hc:Jk f (ZP 1 2 p.ops q.ops []).1 with
   | none=> exact ⟨fun h=> (by cases h),fun _ h=> (by cases h),fun _ _ h=> (by cases h),fun _ _ _ _ _ h=> (by cases h)⟩
   | some ops=>
    obtain ⟨j1,j2,j3,j4⟩:=ZmU wp wq p3 hl ih rfl hb1 hc
    have ook:∀ o∈ops,0≤Z2 o:=fun o ho=> YY (Z0A (j1 o ho).1)
    have lA:=Z0m ops 0 ook (by decide) (by decide)
    have lB:=Z0l ops 0 ook (by decide) (by decide)
    have mA:=Z0m p.ops 0 (fun o ho=> YY (op o ho)) (by decide) (by decide)
    have mB:=Z0l q.ops 0 (fun o ho=> YY (oq o ho)) (by decide) (by decide)
    have t1:=rp.len.1
    have t2:=rq.len.2
    refine ⟨fun _=> ⟨?_,?_⟩,fun hK _=> ?_,fun _ _ _=> (show (3:Int)≠0 by decide),fun list h7 h9 _ _ _ hp' hq'=> ?_⟩
    ·refine Zfz hli (Z8h fun o ho=> (j1 o ho).1) ?_ ?_
     ·rw [show ofO (some ops)=ops from rfl];omega
     ·rw [show ofO (some ops)=ops from rfl];omega
    ·refine ⟨YS (by decide) (by decide),Jc,Jc,by simp,?_,trivial,Zdy fun o ho=> (j1 o ho).2⟩
     unfold isI;omega
    ·have j4:=j4 hK;have mo:=ZQ p.old;have mn:=ZQ p.new;have mo':=ZQ q.old;have mn':=ZQ q.new
     simp only [ctE,Z0n,ofO,Option.getD_some,JN,List.length_nil]
     omega
    ·rcases hp' with h | h | h
     ·exact .inl h
     ·omega
     ·omega
  ·rw [if_neg hb1]
   exact ⟨fun h=> (by cases h),fun _ h=> (by cases h),fun _ _ h=> (by cases h),fun _ _ _ _ _ h=> (by cases h)⟩
theorem ZyV:∀ (n:Nat) (p q:Edit),Z5 p+Z5 q≤n→Wk p→Wk q→ComWk True (Z8G n p q) p q:=by
 intro n
 induction n with
 | zero=> intro p q h;obtain ⟨k,o,nw,w,ks,l,os⟩:=p;simp only [Z5] at h;omega
 | succ n ih=>
  intro p q hn wp wq
  exact ZlJ wp wq fun a b hab wa wb=> ih a b (by omega) wa wb
end Go.AM.Ytpjenobkibfpcaa
namespace Go.AM
noncomputable def Z5p(p q:Edit):Edit × Bool:=if (Yh p q).2=true then (Zy (Yh p q).1,true) else (Edit.nil,false)
noncomputable def ZiA(p q:Edit):Edit × Bool:=if (J2 p q).2=true then (Zy (J2 p q).1,true) else (Edit.nil,false)
noncomputable def Zf3(p q:Edit):Edit × Bool:=
 match Jq p.words q.words (Yd (p.words.map WEdit.at_) (q.words.map WEdit.at_)),Je J2 p.kids q.kids (Yd (p.kids.map KidOf.at_) (q.kids.map KidOf.at_)) with
 | some w,some k=> (.mk 2 Tree.nil Tree.nil w k 0 [],true)
 | _,_=> (Edit.nil,false)
noncomputable def Zf4(p q:Edit):Edit × Bool:=
 if p.list≠q.list then (Edit.nil,false)
 else match Z3z J2 p.ops q.ops with
  | some l=> (.mk 3 Tree.nil Tree.nil [] [] p.list l,true)
  | none=> (Edit.nil,false)
def wOk(w:WEdit):Prop:=Z2e w∧Yl w.old w.mask=true∧Yl w.new w.mask=true
def uOk(u:AUnit):Prop:=(u.kind=0∨u.kind=1∨u.kind=2∨u.kind=3)∧Zo u.t≤9000000000∧rng u.t∧(u.kind=3→JK u.e)
end Go.AM
namespace Go.AM.Ytpjenobkibfpcaa
open Go.AM Go.Proofs
theorem ZfN:∀ (k:Nat) (P Q:List AUnit) (out:List APair),P.length+Q.length≤k→∀ x∈(ZX P Q out).1,x∈out∨
  (x.of=0∧(x.p∈P∧x.p.alone=false)∧x.q∈Q∧x.q.alone=false)∨(x.of=1∧x.p∈P)∨(x.of=2∧x.q∈Q):=by
 intro k
 induction k with
 | zero=>
  intro P Q out hk x hx
  have e1:P=[]:=List.eq_nil_of_length_eq_zero (by omega)
  have e2:Q=[]:=List.eq_nil_of_length_eq_zero (by omega)
  subst e1 e2
  rw [ZX,dif_neg (by simp [alo]),dif_neg (by simp [alo]),dif_pos (by simp),if_pos rfl] at hx
  exact .inl hx
 | succ k ih=>
  intro P Q out hk x hx
  have lift:∀ (P' Q':List AUnit),(∀ u∈P',u∈P)→(∀ u∈Q',u∈Q)→((x.of=0∧(x.p∈P'∧x.p.alone=false)∧x.q∈Q'∧x.q.alone=false)∨(x.of=1∧x.p∈P')∨(x.of=2∧x.q∈Q'))→
    ((x.of=0∧(x.p∈P∧x.p.alone=false)∧x.q∈Q∧x.q.alone=false)∨(x.of=1∧x.p∈P)∨(x.of=2∧x.q∈Q)):=by
   rintro P' Q' hP hQ (⟨h,⟨a,b⟩,c,d⟩ | ⟨h,a⟩ | ⟨h,a⟩)
   ·exact .inl ⟨h,⟨hP _ a,b⟩,hQ _ c,d⟩
   ·exact .inr (.inl ⟨h,hP _ a⟩)
   ·exact .inr (.inr ⟨h,hQ _ a⟩)
  rw [ZX] at hx
  by_cases h1:alo P=true
  ·rw [dif_pos h1] at hx
   cases P with
   | nil=> cases h1
   | cons a P'=>
    simp only [List.length_cons] at hk
    rcases ih P' Q _ (by omega) x hx with h | h
    ·rcases List.mem_append.1 h with h | h
     ·exact .inl h
     ·rw [List.mem_singleton.1 h]
      exact .inr (.inr (.inl ⟨rfl,List.mem_cons_self⟩))
    ·exact .inr (lift P' Q (fun u hu=> List.mem_cons_of_mem _ hu) (fun u hu=> hu) h)
  ·rw [dif_neg h1] at hx
   by_cases h2:alo Q=true
   ·rw [dif_pos h2] at hx
    cases Q with
    | nil=> cases h2
    | cons a Q'=>
     simp only [List.length_cons] at hk
     rcases ih P Q' _ (by omega) x hx with h | h
     ·rcases List.mem_append.1 h with h | h
      ·exact .inl h
      ·rw [List.mem_singleton.1 h]
       exact .inr (.inr (.inr ⟨rfl,List.mem_cons_self⟩))
     ·exact .inr (lift P Q' (fun u hu=> hu) (fun u hu=> List.mem_cons_of_mem _ hu) h)
   ·rw [dif_neg h2] at hx
    by_cases h3:P.length=0∨Q.length=0
    ·rw [dif_pos h3] at hx
     split at hx
     ·exact .inl hx
     ·cases hx
    ·rw [dif_neg h3] at hx
     cases P with
     | nil=> simp at h3
     | cons a P'=>
      cases Q with
      | nil=> simp at h3
      | cons b Q'=>
       simp only [List.length_cons] at hk
       rcases ih P' Q' _ (by omega) x hx with h | h
       ·rcases List.mem_append.1 h with h | h
        ·exact .inl h
        ·rw [List.mem_singleton.1 h]
         rw [Z4E] at h1 h2
         exact .inr (.inl ⟨rfl,⟨List.mem_cons_self,by simpa using h1⟩,List.mem_cons_self,by simpa using h2⟩)
       ·exact .inr (lift P' Q' (fun u hu=> List.mem_cons_of_mem _ hu) (fun u hu=> List.mem_cons_of_mem _ hu) h)
structure UnitOf (o:Op) (a:Int) (u:AUnit):Prop where
 kind:u.kind=o.kind
 t:u.t=Tree.nil∨u.t∈o.l
 e:u.e=Edit.nil∨u.e=o.e
 into:u.kind=3→u.e=o.e
 alone:u.kind=1∨u.kind=2→u.alone=decide (u.kind=a)
theorem Z44{a:Int}:∀ {l:List Op} {i:Int} {u:AUnit},(∀ o∈l,ZN o)→u∈ZE i a l→∃ o∈l,UnitOf o a u
 | o ::r,i,u,hl,h=> by
  rw [ZE] at h
  rcases List.mem_append.1 h with h | h
  ·simp only [Yq,List.mem_append,List.mem_map] at h
   refine ⟨o,List.mem_cons_self,?_⟩
   rcases h with h | ⟨t,ht,rfl⟩ | h
   ·split at h
    ·rename_i hk
     rw [List.eq_of_mem_replicate h]
     exact ⟨hk.symm,.inl rfl,.inl rfl,fun h=> (by cases h),fun h=> (by rcases h with h | h <;> cases h)⟩
    ·cases h
   ·refine ⟨rfl,.inr ht,.inl rfl,fun h3=> ?_,fun _=> rfl⟩
    have h3:o.kind=3:=h3
    rcases hl o List.mem_cons_self with k | k | k
    ·omega
    ·omega
    ·rw [k.2.2] at ht;cases ht
   ·split at h
    ·rename_i hk
     rw [List.mem_singleton.1 h]
     exact ⟨hk.symm,.inl rfl,.inr rfl,fun _=> rfl,fun h=> (by rcases h with h | h <;> cases h)⟩
    ·cases h
  ·obtain ⟨o',ho',h'⟩:=Z44 (fun x hx=> hl x (List.mem_cons_of_mem _ hx)) h
   exact ⟨o',List.mem_cons_of_mem _ ho',h'⟩
theorem ZrJ:∀ (k:Nat) (a b:List Int),a.length+b.length≤k→∀ n∈Yd a b,n∈a∨n∈b:=by
 intro k
 induction k with
 | zero=>
  intro a b hk n hn
  have e1:a=[]:=List.eq_nil_of_length_eq_zero (by omega)
  have e2:b=[]:=List.eq_nil_of_length_eq_zero (by omega)
  subst e1 e2
  rw [Yd] at hn;cases hn
 | succ k ih=>
  intro a b hk n hn
  match a,b with
  | [],b=> rw [Yd] at hn;exact .inr hn
  | x ::a,[]=> rw [Z3c] at hn;exact .inl hn
  | x ::a,y ::b=>
   simp only [List.length_cons] at hk
   rw [Yd] at hn
   split at hn
   ·rcases List.mem_cons.1 hn with rfl | hn
    ·exact .inl List.mem_cons_self
    ·rcases ih a (y ::b) (by simp only [List.length_cons];omega) n hn with h | h
     ·exact .inl (List.mem_cons_of_mem _ h)
     ·exact .inr h
   ·split at hn
    ·rcases List.mem_cons.1 hn with rfl | hn
     ·exact .inr List.mem_cons_self
     ·rcases ih (x ::a) b (by simp only [List.length_cons];omega) n hn with h | h
      ·exact .inl h
      ·exact .inr (List.mem_cons_of_mem _ h)
    ·rcases List.mem_cons.1 hn with rfl | hn
     ·exact .inl List.mem_cons_self
     ·rcases ih a b (by omega) n hn with h | h
      ·exact .inl (List.mem_cons_of_mem _ h)
      ·exact .inr (List.mem_cons_of_mem _ h)
theorem Z6p:∀ (l:List Kid) (n:Int),(Ju l n=Edit.nil∧n∉l.map KidOf.at_)∨∃ k∈l,Ju l n=k.e
 | [],n=> .inl ⟨rfl,by simp⟩
 | a ::r,n=> by
  rw [idxK_cons']
  split
  ·exact .inr ⟨a,List.mem_cons_self,rfl⟩
  ·rename_i h
   rcases Z6p r n with ⟨h1,h2⟩ | ⟨k,hk,h1⟩
   ·refine .inl ⟨h1,?_⟩
    simp only [List.map_cons,List.mem_cons,not_or]
    exact ⟨fun e=> h e.symm,h2⟩
   ·exact .inr ⟨k,List.mem_cons_of_mem _ hk,h1⟩
where
 idxK_cons' (a:Kid) (r:List Kid) (n:Int):Ju (a ::r) n=if a.at_=n then a.e else Ju r n:=by
  unfold Ju
  by_cases h:a.at_=n
  ·rw [if_pos h,List.find?_cons_of_pos];rfl;simpa using h
  ·rw [if_neg h,List.find?_cons_of_neg];simpa using h
theorem Z1q:Z5 Edit.nil=3:=rfl
theorem Z1D(e:Edit):3≤Z5 e:=by
 obtain ⟨k,o,n,w,ks,l,os⟩:=e
 have:=ZQ o
 have:=ZQ n
 simp only [Z5];omega
theorem Z4i:Za Edit.nil 1=true:=rfl
theorem Zjq{p q:Edit}{d d':Int}(hp:Za p d=true)(hq:Za q d'=true){n:Int}(hn:n∈Yd (p.kids.map KidOf.at_) (q.kids.map KidOf.at_)):
  Z5 (Ju p.kids n)+Z5 (Ju q.kids n) < Z5 p+Z5 q∧(∃ d,Za (Ju p.kids n) d=true)∧∃ d,Za (Ju q.kids n) d=true:=by
 have rp:=Zn hp
 have rq:=Zn hq
 have m1:=Z1D p
 have m2:=Z1D q
 rcases Z6p p.kids n with ⟨e1,h1⟩ | ⟨k1,hk1,e1⟩
 ·rcases Z6p q.kids n with ⟨e2,h2⟩ | ⟨k2,hk2,e2⟩
  ·rcases ZrJ _ _ _ (Nat.le_refl _) n hn with h | h
   ·exact absurd h h1
   ·exact absurd h h2
  ·have:=Y9 hk2
   rw [e1,e2,Z1q]
   exact ⟨by omega,⟨1,Z4i⟩,_,(Zp rq.kids k2 hk2).2⟩
 ·have:=Y9 hk1
  rcases Z6p q.kids n with ⟨e2,h2⟩ | ⟨k2,hk2,e2⟩
  ·rw [e1,e2,Z1q]
   exact ⟨by omega,⟨_,(Zp rp.kids k1 hk1).2⟩,1,Z4i⟩
  ·have:=Y9 hk2
   rw [e1,e2]
   exact ⟨by omega,⟨_,(Zp rp.kids k1 hk1).2⟩,_,(Zp rq.kids k2 hk2).2⟩
theorem ZdK{f g:Edit→Edit→Edit × Bool}{p q:List Kid}:∀ {l:List Int},(∀ n∈l,f (Ju p n) (Ju q n)=g (Ju p n) (Ju q n))→Je f p q l=Je g p q l
 | [],_=> rfl
 | n ::r,h=> by rw [Je,Je,h n List.mem_cons_self,ZdK fun m hm=> h m (List.mem_cons_of_mem _ hm)]
theorem Z6H{p:Edit}{d:Int}(hp:Za p d=true){o:Op}(ho:o∈p.ops){a:Int}{u:AUnit}(hu:UnitOf o a u):Z5 u.e < Z5 p∧∃ d,Za u.e d=true:=by
 have:=Z01 ho
 have h3:=Z1D o.e
 rcases hu.e with e | e
 ·rw [e,Z1q];exact ⟨by omega,1,Z4i⟩
 ·rw [e]
  refine ⟨this,?_⟩
  have R:=Y7 (rightOs_mem (Zn hp).ops ho)
  cases R with
  | keep | gone | come=> exact ⟨1,Z4i⟩
  | into e h=> exact ⟨_,h⟩
theorem Zke{f g:Edit→Edit→Edit × Bool}{p q:AUnit}(h:f p.e q.e=g p.e q.e):JJ f p q=JJ g p q:=by unfold JJ;rw [h]
theorem ZdJ{f g:Edit→Edit→Edit × Bool}:∀ {m:List APair},(∀ x∈m,x.of≠1→x.of≠2→f x.p.e x.q.e=g x.p.e x.q.e)→Yb f m=Yb g m
 | [],_=> rfl
 | x ::r,h=> by
  rw [JG,JG,ZdJ fun y hy=> h y (List.mem_cons_of_mem _ hy)]
  have:rp f x=rp g x:=by
   unfold rp
   split
   ·try rfl
   ·split
    ·try rfl
    ·exact Zke (h x List.mem_cons_self (by assumption) (by assumption))
  rw [this]
theorem Z7T {f g:Edit→Edit→Edit × Bool} {p q:Edit} {d d':Int} (hp:Za p d=true) (hq:Za q d'=true)
  (h:∀ a b,Z5 a+Z5 b < Z5 p+Z5 q→(∃ d,Za a d=true)→(∃ d,Za b d=true)→f a b=g a b):YV f p q=YV g p q:=by
 have hk:Je f p.kids q.kids (Yd (p.kids.map KidOf.at_) (q.kids.map KidOf.at_))=Je g p.kids q.kids (Yd (p.kids.map KidOf.at_) (q.kids.map KidOf.at_)):=
  ZdK fun n hn=> by obtain ⟨a,b,c⟩:=Zjq hp hq hn;exact h _ _ a b c
 have ho:Z3z f p.ops q.ops=Z3z g p.ops q.ops:=by
  unfold Z3z
  split
  ·refine ZdJ fun x hx h1 h2=> ?_
   rcases ZfN _ _ _ _ (Nat.le_refl _) x hx with m | ⟨_,⟨m1,_⟩,m2,_⟩ | ⟨m,_⟩ | ⟨m,_⟩
   ·cases m
   ·obtain ⟨o1,ho1,u1⟩:=Z44 (ZJ hp) m1
    obtain ⟨o2,ho2,u2⟩:=Z44 (ZJ hq) m2
    obtain ⟨a1,b1⟩:=Z6H hp ho1 u1
    obtain ⟨a2,b2⟩:=Z6H hq ho2 u2
    exact h _ _ (by omega) b1 b2
   ·exact absurd m h1
   ·exact absurd m h2
  ·try rfl
 unfold YV
 rw [hk,ho]
theorem ZoD:∀ (n m:Nat) (p q:Edit) (d d':Int),Za p d=true→Za q d'=true→Z5 p+Z5 q≤n→n≤m→JX m p q=JX n p q:=by
 intro n
 induction n with
 | zero=> intro m p q d d' _ _ h;obtain ⟨k,o,nw,w,ks,l,os⟩:=p;simp only [Z5] at h;omega
 | succ n ih=>
  intro m p q d d' hp hq h hm
  obtain ⟨m,rfl⟩:∃ k,m=k+1:=⟨m - 1,by omega⟩
  show YV (JX m) p q=YV (JX n) p q
  exact Z7T hp hq fun a b hab ⟨d1,h1⟩ ⟨d2,h2⟩=> ih m a b d1 d2 h1 h2 (by omega) (by omega)
theorem ZoE{p q:Edit}{d d':Int}(hp:Za p d=true)(hq:Za q d'=true):J2 p q=YV J2 p q:=by
 have m1:=Z1D p
 unfold J2
 obtain ⟨n,hn⟩:∃ n,Z5 p+Z5 q=n+1:=⟨Z5 p+Z5 q - 1,by omega⟩
 rw [hn]
 show YV (JX n) p q=_
 exact Z7T hp hq fun a b hab ⟨d1,h1⟩ ⟨d2,h2⟩=> ZoD _ _ a b d1 d2 h1 h2 (Nat.le_refl _) (by omega)
end Go.AM.Ytpjenobkibfpcaa
namespace Go.AM.Ytpjenobkibfpcaa
open Go.AM Go.Proofs
mutual
def utE:Edit→Nat
 | .mk _ o n w ks _ os=> 16+Zo o+Zo n+65600*w.length+Zd0 ks+Z86 os
def Zd0:List (KidOf Edit)→Nat
 | []=> 0
 | k ::r=> ZlE k+Zd0 r
def ZlE:KidOf Edit→Nat
 | ⟨_,e⟩=> 65600+utE e
def Z86:List (OpOf Edit)→Nat
 | []=> 0
 | o ::r=> ZjT o+Z86 r
def ZjT:OpOf Edit→Nat
 | ⟨k,n,l,e⟩=> if k=3 then 16+utE e else 34*(n.toNat+l.length)+Zf l
end
theorem Zd1(e:Edit):utE e=16+Zo e.old+Zo e.new+65600*e.words.length+Zd0 e.kids+Z86 e.ops:=by cases e;rfl
theorem Z5D(k:Kid):ZlE k=65600+utE k.e:=by cases k;rfl
theorem Z0p(o:Op):ZjT o=if o.kind=3 then 16+utE o.e else 34*(o.n.toNat+o.l.length)+Zf o.l:=by cases o;rfl
theorem ZqD(e:Edit):18≤utE e:=by
 have:=Zd1 e
 have:=ZQ e.old
 have:=ZQ e.new
 omega
theorem Zgd:∀ (n:Nat) (e:Edit),Z5 e≤n→(∃ d,Za e d=true)→ctE e≤utE e:=by
 intro n
 induction n with
 | zero=> intro e h;have:=Z1D e;omega
 | succ n ih=>
  intro e hn ⟨d,hr⟩
  have R:=Zn hr
  have hk:∀ l:List Kid,(∀ k∈l,k∈e.kids)→Z0n l≤Zd0 l:=by
   intro l
   induction l with
   | nil=> intro _;exact Nat.le_refl _
   | cons a r ihl=>
    intro h
    have ha:=h a List.mem_cons_self
    have:=Y9 ha
    have:=ih a.e (by omega) ⟨_,(Zp R.kids a ha).2⟩
    have:=ihl fun k hk=> h k (List.mem_cons_of_mem _ hk)
    simp only [Z0n,Zd0,Z1W,Z5D];omega
  have ho:∀ l:List Op,(∀ o∈l,o∈e.ops)→J4 l≤Z86 l:=by
   intro l
   induction l with
   | nil=> intro _;exact Nat.le_refl _
   | cons a r ihl=>
    intro h
    have ha:=h a List.mem_cons_self
    have:=ihl fun k hk=> h k (List.mem_cons_of_mem _ hk)
    have hr:=rightOs_mem R.ops ha
    have key:Z3p a≤ZjT a:=by
     have me:=Z01 ha
     rw [Z3L,Z0p]
     have rt:=Y7 hr
     cases rt with
     | keep n h1 h2=> rw [if_neg (show ¬(0:Int)=3 by decide),Z3k];simp only [Zf,List.length_nil];omega
     | gone l h1 h2=> rw [if_neg (show ¬(1:Int)=3 by decide),Z3k];dsimp only;omega
     | come l h1 h2=> rw [if_neg (show ¬(2:Int)=3 by decide),Z3k];dsimp only;omega
     | into e' h1 h2=>
      rw [if_pos rfl]
      have:=ih e' (by dsimp only at me;omega) ⟨_,h1⟩
      simp only [Zf];omega
    simp only [J4,Z86];omega
  have:=hk e.kids fun k h=> h
  have:=ho e.ops fun k h=> h
  rw [Jt,Zd1];omega
theorem ZqC:∀ (n:Nat) (e:Edit),Z5 e≤n→(∃ d,Za e d=true)→Z17 e=true→utE e+131100≤65600*Z5 e+150000*Z5 e:=by
 intro n
 induction n with
 | zero=> intro e h;have:=Z1D e;omega
 | succ n ih=>
  intro e hn ⟨d,hr⟩ hl
  have R:=Zn hr
  have hm:=Z1D e
  have me:Z5 e=1+Zo e.old+Zo e.new+e.words.length+e.ops.length+Zt e.kids+Zh e.ops:=by cases e;rfl
  have mo:=ZQ e.old
  have mn:=ZQ e.new
  rw [Zg1,Bool.and_eq_true,Bool.and_eq_true,decide_eq_true_eq] at hl
  obtain ⟨⟨l1,l2⟩,l3⟩:=hl
  have hk:∀ l:List Kid,(∀ k∈l,k∈e.kids)→Z2j l=true→Zd0 l≤215600*Zt l:=by
   intro l
   induction l with
   | nil=> intro _ _;exact Nat.le_refl _
   | cons a r ihl=>
    intro h hl
    simp only [Z2j,Bool.and_eq_true,Zcb] at hl
    have ha:=h a List.mem_cons_self
    have:=Y9 ha
    have:=ih a.e (by omega) ⟨_,(Zp R.kids a ha).2⟩ hl.1
    have:=ihl (fun k hk=> h k (List.mem_cons_of_mem _ hk)) hl.2
    simp only [Zd0,Zt,Z5D,Z4l];omega
  have ook:=ZJ hr
  have ho:∀ l:List Op,(∀ o∈l,o∈e.ops)→Z3G l=true→(Z86 l:Int)≤215600*Zh l+34*Z1t l+16*l.length:=by
   intro l
   induction l with
   | nil=> intro _ _;simp [Z86,Zh,Z1t]
   | cons a r ihl=>
    intro h hl
    simp only [Z3G,Bool.and_eq_true,Zer] at hl
    have ha:=h a List.mem_cons_self
    have:=ihl (fun k hk=> h k (List.mem_cons_of_mem _ hk)) hl.2
    have hr:=rightOs_mem R.ops ha
    have key:(ZjT a:Int)≤215600*Zs a+34*Z2 a+16:=by
     have me:=Z01 ha
     have ml:=ZA a.l
     rw [Z0p,ZI]
     have rt:=Y7 hr
     have hp:=YQ a
     cases rt with
     | keep n h1 h2=> rw [if_neg (show ¬(0:Int)=3 by decide)];rw [if_neg (show ¬(0:Int)=3 by decide)] at hp;simp only [Zf,List.length_nil,Z1q] at*;omega
     | gone l h1 h2=> rw [if_neg (show ¬(1:Int)=3 by decide)];rw [if_neg (show ¬(1:Int)=3 by decide)] at hp;dsimp only at*;simp only [Z1q] at*;omega
     | come l h1 h2=> rw [if_neg (show ¬(2:Int)=3 by decide)];rw [if_neg (show ¬(2:Int)=3 by decide)] at hp;dsimp only at*;simp only [Z1q] at*;omega
     | into e' h1 h2=>
      rw [if_pos rfl] at hp ⊢
      have:=ih e' (by dsimp only at me;omega) ⟨_,h1⟩ hl.1
      simp only [Zf];omega
    simp only [Z86,Zh,Z1t,List.length_cons];omega
  have h1:=hk e.kids (fun k h=> h) l2
  have h2:=ho e.ops (fun k h=> h) l3
  have h3:=kids_sum ook
  have h4:Jh e.ops≤2000∧Jp e.ops≤2000:=by
   have ok:∀ o∈e.ops,0≤Z2 o:=fun o ho=> YY (ook o ho)
   have a:=Z0m e.ops 0 ok (by decide) (by decide)
   have b:=Z0l e.ops 0 ok (by decide) (by decide)
   omega
  rw [Zd1,me]
  omega
where
 kids_sum:∀ {l:List Op},(∀ o∈l,ZN o)→Z1t l≤Jh l+Jp l
  | [],_=> by simp [Z1t,Jh,Jp]
  | o ::r,h=> by
   have h1:=ZY (h o List.mem_cons_self)
   have h2:=kids_sum fun x hx=> h x (List.mem_cons_of_mem _ hx)
   simp only [Z1t,Jh,Jp]
   split <;> split <;> omega
theorem ZlC(k:Int)(hk:k=1∨k=2)(t:Tree):ux ⟨k,0,[t],Edit.nil⟩=[⟨k,0,[t],Edit.nil⟩]:=by
 rw [Z0W (o:=⟨k,0,[t],Edit.nil⟩) hk];try rfl
theorem ZlD(e:Edit):ux ⟨3,0,[],e⟩=[⟨3,0,[],e⟩]:=(ZcZ (o:=⟨3,0,[],e⟩) (.inr (.inr ⟨rfl,rfl,rfl⟩)) rfl).1
theorem Zkq {f:Edit→Edit→Edit × Bool} {alone:Int} {x:Piece} {m:List APair} (hof:x.of=0∨x.of=1∨x.of=2) (ha:∀ y∈m,y.of=x.of)
  (hp:x.of≠2→ZN x.p∧Z2 x.p=m.length∧Z5w x.p alone (m.map APair.p)) (hq:x.of≠1→ZN x.q∧Z2 x.q=m.length∧Z5w x.q 2 (m.map APair.q))
  (hb:x.of=0→x.p.kind≠1∧x.q.kind≠2):
  Yb f m=if (ZF f x).ok then some (if (ZF f x).is then ux (ZF f x).op else []) else none:=by
 have single:∀ (o:Op) (h:APair→Op),(∀ y∈m,rp f y=([h y],true))→m.map h=ux o→ZF f x=⟨o,true,true⟩→Yb f m=if (ZF f x).ok then some (if (ZF f x).is then ux (ZF f x).op else []) else none:=by
  intro o h h1 h2 h3
  rw [ZaO f h m h1,h2,h3]
  try rfl
 by_cases c1:x.of=1
 ·obtain ⟨o1,o2,o3⟩:=hp (by omega)
  refine single x.p (fun y=> opU y.p) (fun y hy=> ?_) ?_ (by unfold ZF;rw [if_pos (.inl c1)])
  ·unfold rp;rw [if_pos (by rw [ha y hy];exact c1)]
  ·rw [←Z1L o3,List.map_map];try rfl
 by_cases c2:x.of=2
 ·obtain ⟨o1,o2,o3⟩:=hq (by omega)
  refine single x.q (fun y=> opU y.q) (fun y hy=> ?_) ?_ (by unfold ZF;rw [if_neg (by omega),if_pos (.inl c2)])
  ·unfold rp;rw [if_neg (by rw [ha y hy];exact c1),if_pos (by rw [ha y hy];exact c2)]
  ·rw [←Z1L o3,List.map_map];try rfl
 have c0:x.of=0:=by omega
 obtain ⟨p1,p2,p3⟩:=hp (by omega)
 obtain ⟨q1,q2,q3⟩:=hq (by omega)
 obtain ⟨b1,b2⟩:=hb c0
 have up:=Z1L p3
 have uq:=Z1L q3
 have kp:∀ y∈m,y.p.kind=x.p.kind:=fun y hy=> by
  have:opU y.p∈ux x.p:=by rw [←up];exact List.mem_map_of_mem (List.mem_map_of_mem hy)
  rw [←Z4f];exact ZcD this
 have kq:∀ y∈m,y.q.kind=x.q.kind:=fun y hy=> by
  have:opU y.q∈ux x.q:=by rw [←uq];exact List.mem_map_of_mem (List.mem_map_of_mem hy)
  rw [←Z4f];exact ZcD this
 have hr:∀ y∈m,rp f y=JJ f y.p y.q:=fun y hy=> by
  unfold rp;rw [if_neg (by rw [ha y hy];exact c1),if_neg (by rw [ha y hy];exact c2)]
 by_cases q0:x.q.kind=0
 ·refine single x.p (fun y=> opU y.p) (fun y hy=> ?_) ?_ (by unfold ZF;rw [if_pos (.inr ⟨c0,q0⟩)])
  ·rw [hr y hy,JJ,if_pos (by rw [kq y hy];exact q0)]
  ·rw [←up,List.map_map];try rfl
 by_cases p0:x.p.kind=0
 ·refine single x.q (fun y=> opU y.q) (fun y hy=> ?_) ?_ (by unfold ZF;rw [if_neg (by omega),if_pos (.inr p0)])
  ·rw [hr y hy,JJ,if_neg (by rw [kq y hy];exact q0),if_pos (by rw [kp y hy];exact p0)]
  ·rw [←uq,List.map_map];try rfl
 have kp':x.p.kind=2∨x.p.kind=3:=by rcases YX p1 with k | k | k | k <;> omega
 have kq':x.q.kind=1∨x.q.kind=3:=by rcases YX q1 with k | k | k | k <;> omega
 by_cases pq:x.p.kind=2∧x.q.kind=1
 ·obtain ⟨t1,_⟩:=Z0X (k:=2) (.inr rfl) (l:=x.p.l) (m:=m.map APair.p) (by rw [up,Z0W (.inr pq.1),pq.1])
  obtain ⟨t2,_⟩:=Z0X (k:=1) (.inl rfl) (l:=x.q.l) (m:=m.map APair.q) (by rw [uq,Z0W (.inl pq.2),pq.2])
  have t1:x.p.l=m.map fun y=> y.p.t:=by rw [List.map_map] at t1;exact t1
  have t2:x.q.l=m.map fun y=> y.q.t:=by rw [List.map_map] at t2;exact t2
  have hc:ZF f x=⟨Op.nil,false,Zl9 x.p.l x.q.l⟩:=by
   unfold ZF
   rw [if_neg (by omega),if_neg (by omega),if_pos pq]
   congr 1
   rw [List.take_of_length_le (by rw [t1,t2];simp)]
  obtain ⟨e1,e2⟩:=ZaM f m fun y hy=> ⟨by rw [ha y hy];exact c0,by rw [kp y hy];exact pq.1,by rw [kq y hy];exact pq.2⟩
  rw [hc]
  dsimp only
  unfold Zl9
  rw [t1,t2]
  by_cases he:Z8 (m.map fun y=> y.p.t)=Z8 (m.map fun y=> y.q.t)
  ·rw [e1 he,if_pos (Jm.2 he)];try rfl
  ·rw [e2 he,if_neg (by rw [Jm];exact he)]
 have hm1:m.length=1:=by
  have:Z2 x.p=1∨Z2 x.q=1:=by
   by_cases h:x.p.kind=3
   ·exact .inl (JQ h)
   ·exact .inr (JQ (by omega))
  omega
 obtain ⟨y,rfl⟩:∃ y,m=[y]:=by
  match m,hm1 with
  | [y],_=> exact ⟨y,rfl⟩
 have ky:=kp y List.mem_cons_self
 have kz:=kq y List.mem_cons_self
 have e1:Yb f [y]=if (JJ f y.p y.q).2 then some (JJ f y.p y.q).1 else none:=by
  rw [JG,hr y List.mem_cons_self]
  split
  ·simp [Yb]
  ·try rfl
 rw [e1]
 simp only [List.map_cons,List.map_nil] at up uq
 by_cases p2':x.p.kind=2
 ·have q3':x.q.kind=3:=by omega
  rw [Z0W (.inr p2')] at up
  obtain ⟨e2,_⟩:=ZcZ q1 q3'
  rw [e2] at uq
  have et:x.p.l=[y.p.t]:=by
   have:=(Z0X (k:=2) (.inr rfl) (l:=x.p.l) (m:=[y.p]) (by rw [←p2'];simpa using up)).1
   simpa using this
  have ee:y.q.e=x.q.e:=by
   have h:=(List.cons.inj uq).1
   unfold opU at h
   rw [if_neg (by omega),if_pos (by omega)] at h
   injection h
  have hc:ZF f x=⟨⟨2,0,[YG (doE true y.q.e y.p.t)],Edit.nil⟩,true,(doE true y.q.e y.p.t).isSome⟩:=by
   unfold ZF
   rw [if_neg (by omega),if_neg (by omega),if_neg pq,if_pos p2',et,ee]
   simp only [List.getD_cons_zero,doB,Z4y,Option.isSome_map]
  have hu:JJ f y.p y.q=([⟨2,0,[YG (doE true y.q.e y.p.t)],Edit.nil⟩],(doE true y.q.e y.p.t).isSome):=by
   unfold JJ
   rw [if_neg (by omega),if_neg (by omega),if_neg (by omega),if_pos (by omega)]
  rw [hc,hu]
  dsimp only
  rw [if_pos rfl,ZlC 2 (.inr rfl)]
 have p3':x.p.kind=3:=by omega
 obtain ⟨e2,_⟩:=ZcZ p1 p3'
 rw [e2] at up
 have eep:y.p.e=x.p.e:=by
  have h:=(List.cons.inj up).1
  unfold opU at h
  rw [if_neg (by omega),if_pos (by omega)] at h
  injection h
 by_cases q1':x.q.kind=1
 ·rw [Z0W (.inl q1')] at uq
  have et:x.q.l=[y.q.t]:=by
   have:=(Z0X (k:=1) (.inl rfl) (l:=x.q.l) (m:=[y.q]) (by rw [←q1'];simpa using uq)).1
   simpa using this
  have hc:ZF f x=⟨⟨1,0,[YG (doE true (Zy (Zv y.p.e)) y.q.t)],Edit.nil⟩,true,(doE true (Zy (Zv y.p.e)) y.q.t).isSome⟩:=by
   unfold ZF
   rw [if_neg (by omega),if_neg (by omega),if_neg pq,if_neg p2',if_pos q1',et,eep]
   simp only [List.getD_cons_zero,doB,Z4y,Option.isSome_map]
  have hu:JJ f y.p y.q=([⟨1,0,[YG (doE true (Zy (Zv y.p.e)) y.q.t)],Edit.nil⟩],(doE true (Zy (Zv y.p.e)) y.q.t).isSome):=by
   unfold JJ
   rw [if_neg (by omega),if_neg (by omega),if_neg (by omega),if_neg (by omega),if_pos (by omega)]
  rw [hc,hu]
  dsimp only
  rw [if_pos rfl,ZlC 1 (.inl rfl)]
 have q3':x.q.kind=3:=by omega
 obtain ⟨e3,_⟩:=ZcZ q1 q3'
 rw [e3] at uq
 have eeq:y.q.e=x.q.e:=by
  have h:=(List.cons.inj uq).1
  unfold opU at h
  rw [if_neg (by omega),if_pos (by omega)] at h
  injection h
 have hc:ZF f x=⟨⟨3,0,[],(f x.p.e x.q.e).1⟩,true,(f x.p.e x.q.e).2⟩:=by
  unfold ZF
  rw [if_neg (by omega),if_neg (by omega),if_neg pq,if_neg p2',if_neg q1']
 have hu:JJ f y.p y.q=([⟨3,0,[],(f x.p.e x.q.e).1⟩],(f x.p.e x.q.e).2):=by
  unfold JJ
  rw [if_neg (by omega),if_neg (by omega),if_neg (by omega),if_neg (by omega),if_neg (by omega),eep,eeq]
 rw [hc,hu]
 dsimp only
 rw [if_pos rfl,ZlD]
theorem Z9p{f:Edit→Edit→Edit × Bool}{alone:Int}{p0 q0:List Op}:∀ {ps:List Piece} {m:List APair},Zbq alone ps m→(∀ x∈ps,POk p0 q0 x)→Yb f m=(Jk f ps).map fun l=> l.flatMap ux
 | [],m,h,_=> by
  have h:m=[]:=h
  subst h
  try rfl
 | x ::r,m,h,hok=> by
  rw [Z1X] at h
  obtain ⟨m1,m2,rfl,hm,⟨hof,_,ha,hp,hq⟩,hr⟩:=h
  have ih:=Z9p (f:=f) hr (fun y hy=> hok y (List.mem_cons_of_mem _ hy))
  have hx:=hok x List.mem_cons_self
  have j:=Zkq (f:=f) hof ha (fun h=> ⟨(hp h).1,(hp h).2.2⟩) (fun h=> ⟨(hq h).1,(hq h).2.2⟩) (fun h=> ⟨(hx.both h).1,(hx.both h).2.1⟩)
  rw [ZaN,j,Jk]
  by_cases hc:(ZF f x).ok=true
  ·rw [if_pos hc,if_pos hc,Option.bind_some,ih]
   cases Jk f r with
   | none=> rfl
   | some l=>
    by_cases hi:(ZF f x).is=true
    ·simp [hi]
    ·simp [hi]
  ·rw [if_neg hc,if_neg hc];try rfl
theorem Zjh{f:Edit→Edit→Edit × Bool}{p q:List Op}(hp:okL p)(hq:okL q):Z3z f p q=(Z04 f p q).map fun l=> l.flatMap ux:=by
 obtain ⟨ok,l,m,e1,e2,e3,e4⟩:=ZiP 1 (.inl rfl) _ p q [] (ZE 0 1 p) (ZE 0 2 q) [] (Nat.le_refl _) hp hq (Z43 1 p 0) (Z43 2 q 0)
 obtain ⟨i1,_⟩:=Z4d _ p q [] (Nat.le_refl _) (fun o ho=> (hp o ho).1) (fun o ho=> (hq o ho).1)
 unfold Z04 Z3z
 rw [e2,e3,e1]
 cases ok with
 | false=> rfl
 | true=>
  obtain ⟨ps,e,hps,_,_⟩:=i1 e2
  rw [e1,if_pos rfl] at e
  simp only [List.nil_append] at e
  subst e
  simp only [if_true,List.nil_append]
  exact Z9p (e4 rfl).1 hps
theorem ZqA{list:Int}{o:Op}(h:Zc list o (-2)=true)(g:YH o):∀ y∈ux o,Zc list y (-2)=true∧YH y:=by
 have ho:=Z0A h
 have G:=JD g
 have R:=Y7 h
 intro y hy
 cases R with
 | keep n h1 h2=>
  rw [(ZqB ho rfl).1] at hy
  rw [List.eq_of_mem_replicate hy]
  exact ⟨Zmt (by decide) (by decide) _,YS (by decide) (by decide),YS (by decide) (by decide),trivial,G.2.2.2⟩
 | gone l h1 h2=>
  rw [Z0W (.inl rfl)] at hy
  obtain ⟨t,ht,rfl⟩:=List.mem_map.1 hy
  exact ⟨Z4e (.inl rfl) (Z1h fun x hx=> by rw [List.mem_singleton.1 hx];exact Z0I h1 t ht) (by simp),G.1,YS (by decide) (by decide),⟨Jd G.2.2.1 ht,trivial⟩,G.2.2.2⟩
 | come l h1 h2=>
  rw [Z0W (.inr rfl)] at hy
  obtain ⟨t,ht,rfl⟩:=List.mem_map.1 hy
  exact ⟨Z4e (.inr rfl) (Z1h fun x hx=> by rw [List.mem_singleton.1 hx];exact Z0I h1 t ht) (by simp),G.1,YS (by decide) (by decide),⟨Jd G.2.2.1 ht,trivial⟩,G.2.2.2⟩
 | into e h1 h2=>
  rw [ZlD] at hy
  rw [List.mem_singleton.1 hy]
  exact ⟨h,g⟩
theorem Z2V(φ:Op→Int)(h:Tree→Op)(c:Tree→Int)(hc:∀ t,φ (h t)=c t):∀ l:List Tree,Y2 φ (l.map h)=(l.map c).sum
 | []=> rfl
 | t ::r=> by simp only [List.map_cons,Y2,hc,List.sum_cons,Z2V φ h c hc r]
theorem Z8T(φ:Op→Int)(o:Op):∀ n:Nat,Y2 φ (List.replicate n o)=n*φ o
 | 0=> by simp [Y2]
 | n+1=> by
  rw [List.replicate_succ,Y2,Z8T φ o n]
  have:((n+1:Nat):Int)*φ o=n*φ o+φ o:=by rw [Int.natCast_add,Int.add_mul];simp
  omega
theorem Z6L(φ:Op→Int)(h:∀ o,ZN o→Y2 φ (ux o)=φ o):∀ {l:List Op},(∀ o∈l,ZN o)→Y2 φ (l.flatMap ux)=Y2 φ l
 | [],_=> rfl
 | o ::r,hl=> by
  rw [List.flatMap_cons,Zia,h o (hl o List.mem_cons_self),Z6L φ h fun x hx=> hl x (List.mem_cons_of_mem _ hx)];try rfl
theorem Z4C(c:Int):∀ l:List Tree,(l.map fun _=> c).sum=l.length*c
 | []=> by simp
 | t ::r=> by
  rw [List.map_cons,List.sum_cons,Z4C c r,List.length_cons]
  have:((r.length+1:Nat):Int)*c=r.length*c+c:=by rw [Int.natCast_add,Int.add_mul];simp
  omega
theorem ZCW{o:Op}(h:ZN o):Y2 φA (ux o)=φA o:=by
 rcases YX h with k | k | k | k
 ·obtain ⟨e,hn⟩:=ZqB h k.1
  rw [e,Z8T]
  have e1:φA ⟨0,1,[],Edit.nil⟩=1:=rfl
  rw [e1]
  unfold φA
  rw [if_neg (by omega),Z9t h k.1]
  omega
 ·rw [Z0W (.inl k),Z2V φA _ (fun _=> 1) (fun t=> by unfold φA;rw [if_neg (by dsimp only;omega)];unfold Z2;rw [if_neg (by dsimp only;omega)];rfl),Z4C]
  unfold φA
  rw [if_neg (by omega),JY h (.inl k)];omega
 ·rw [Z0W (.inr k),Z2V φA _ (fun _=> 0) (fun t=> by unfold φA;rw [if_pos k]),Z4C]
  unfold φA
  rw [if_pos k];omega
 ·obtain ⟨e1,e2⟩:=ZcZ h k
  rw [e1,←e2];simp [Y2]
theorem ZCV{o:Op}(h:ZN o):Y2 φB (ux o)=φB o:=by
 rcases YX h with k | k | k | k
 ·obtain ⟨e,hn⟩:=ZqB h k.1
  rw [e,Z8T]
  have e1:φB ⟨0,1,[],Edit.nil⟩=1:=rfl
  rw [e1]
  unfold φB
  rw [if_neg (by omega),Z9t h k.1]
  omega
 ·rw [Z0W (.inl k),Z2V φB _ (fun _=> 0) (fun t=> by unfold φB;rw [if_pos k]),Z4C]
  unfold φB
  rw [if_pos k];omega
 ·rw [Z0W (.inr k),Z2V φB _ (fun _=> 1) (fun t=> by unfold φB;rw [if_neg (by dsimp only;omega)];unfold Z2;rw [if_neg (by dsimp only;omega)];rfl),Z4C]
  unfold φB
  rw [if_neg (by omega),JY h (.inr k)];omega
 ·obtain ⟨e1,e2⟩:=ZcZ h k
  rw [e1,←e2];simp [Y2]
def φU(o:Op):Int:=ZjT o
theorem Zay:∀ l,Y2 φU l=Z86 l
 | []=> rfl
 | o ::r=> by simp only [Y2,Z86,φU,Zay r];omega
theorem Zej:∀ l:List Tree,(l.map fun t=> ((34+Zo t:Nat):Int)).sum=34*l.length+Zf l
 | []=> rfl
 | t ::r=> by rw [List.map_cons,List.sum_cons,Zej r];simp only [Zf,List.length_cons];omega
theorem ZCU{o:Op}(h:ZN o):Y2 φU (ux o)=φU o:=by
 have hu:=Z0p o
 rcases YX h with k | k | k | k
 ·obtain ⟨e,hn⟩:=ZqB h k.1
  have hl:o.l=[]:=by rcases h with h | h | h <;> first | exact h.2.1 | omega
  rw [e,Z8T]
  have e1:φU ⟨0,1,[],Edit.nil⟩=34:=rfl
  rw [e1]
  unfold φU
  rw [hu,if_neg (by omega),hl]
  simp only [Zf,List.length_nil]
  omega
 ·have hn:o.n=0:=by rcases h with h | h | h <;> first | exact h.2.1 | omega
  rw [Z0W (.inl k),Z2V φU _ (fun t=> ((34+Zo t:Nat):Int)) (fun t=> by unfold φU;rw [Z0p,if_neg (by dsimp only;omega)];simp [Zf]),Zej]
  unfold φU
  rw [hu,if_neg (by omega),hn]
  simp
 ·have hn:o.n=0:=by rcases h with h | h | h <;> first | exact h.2.1 | omega
  rw [Z0W (.inr k),Z2V φU _ (fun t=> ((34+Zo t:Nat):Int)) (fun t=> by unfold φU;rw [Z0p,if_neg (by dsimp only;omega)];simp [Zf]),Zej]
  unfold φU
  rw [hu,if_neg (by omega),hn]
  simp
 ·obtain ⟨e1,e2⟩:=ZcZ h k
  rw [e1,←e2];simp [Y2]
theorem Zxg:Zlt φU:=by
 intro o n ho h1 hn
 have hl:=YQ o
 unfold φU
 rw [Z0p,Z0p,Z0p,Z0w,Z8H]
 unfold Zz JS
 rw [if_neg hn]
 rcases ho with ⟨k0,k1,k2,k3⟩ | ⟨k0,k1,k2,k3⟩ | ⟨k0,k1,k2⟩
 ·rw [if_pos k0,if_pos k0,if_neg (by omega),if_neg (by omega),if_neg (by omega)]
  rw [if_neg (by omega),k1] at hl
  dsimp only
  rw [k1]
  simp only [Zf,List.length_nil] at*
  omega
 ·rw [if_neg (by omega),if_neg (by omega),if_neg (by omega),if_neg (by omega),if_neg (by omega)]
  rw [if_neg (by omega)] at hl
  dsimp only
  have:=Js (o.l.take n.toNat) (o.l.drop n.toNat)
  rw [List.take_append_drop] at this
  rw [k1,List.length_take,List.length_drop]
  omega
 ·rw [if_pos k0] at hl
  omega
theorem ZxU{l:List Op}{o:Op}(h:Part l o):∃ o'∈l,o.kind=o'.kind∧o.e=o'.e:=by obtain ⟨o',a,b,c,_⟩:=h;exact ⟨o',a,b,c⟩
theorem ZvB {f:Edit→Edit→Edit × Bool} {p q:Edit} (wp:Wk p) (wq:Wk q)
  (ih:∀ a b,Z5 a+Z5 b < Z5 p+Z5 q→Wk a→Wk b→(f a b).2=true→utE (f a b).1+18≤utE a+utE b) {ps:List Piece} (e:(ZP 1 2 p.ops q.ops []).1=ps) (hb1:(ZP 1 2 p.ops q.ops []).2.1=true) {ops:List Op} (hc:Jk f ps=some ops):
  Z86 ops≤Z86 p.ops+Z86 q.ops:=by
 have gp:=ZV wp.g
 have gq:=ZV wq.g
 have op:=ZJ wp.r
 have oq:=ZJ wq.r
 have wk3:∀ {e:Edit},Wk e→∀ {o:Op},Part e.ops o→o.kind=3→Z5 o.e < Z5 e∧Wk o.e:=by
  intro e w o h k
  obtain ⟨o',m,k1,e1⟩:=ZxU h
  rw [e1]
  exact ⟨Z01 m,.of (JE (rightOs_mem (Zn w.r).ops m) (by omega)) (JD (Z06 (ZV w.g).2.2.2.2 m)).2.2.2⟩
 obtain ⟨i1,_⟩:=Z4d _ p.ops q.ops [] (Nat.le_refl _) op oq
 obtain ⟨ps0,e0,hps,_,_⟩:=i1 hb1
 obtain ⟨ps1,e1,sA,sB,_⟩:=Z9s Zxg Zxg 1 _ p.ops q.ops [] (Nat.le_refl _) op oq hb1
 rw [e,List.nil_append] at e0 e1
 subst e0 e1
 have one:∀ x∈ps,(ZF f x).ok=true→(ZF f x).is=true→φU (ZF f x).op≤(if x.of=2 then 0 else φU x.p)+(if x.of=1 then 0 else φU x.q):=by
  intro x hx hok
  have X:=hps x hx
  have unn:∀ o:Op,0≤φU o:=fun o=> by unfold φU;omega
  have n1:=unn x.p
  have n2:=unn x.q
  unfold ZF at hok ⊢
  by_cases c1:x.of=1∨(x.of=0∧x.q.kind=0)
  ·rw [if_pos c1] at hok ⊢
   intro _
   rw [if_neg (show ¬x.of=2 by omega)]
   dsimp only
   split <;> omega
  rw [if_neg c1] at hok ⊢
  by_cases c2:x.of=2∨x.p.kind=0
  ·rw [if_pos c2] at hok ⊢
   intro _
   rw [if_neg (show ¬x.of=1 by omega)]
   dsimp only
   split <;> omega
  rw [if_neg c2] at hok ⊢
  have c0:x.of=0:=by rcases X.of with h | h | h <;> omega
  obtain ⟨b1,b2,b3⟩:=X.both c0
  have h1:x.of≠1:=by omega
  have h2:x.of≠2:=by omega
  obtain ⟨pp,ok1⟩:=X.pp h2
  obtain ⟨pq,ok2⟩:=X.qq h1
  have kp:x.p.kind=2∨x.p.kind=3:=by rcases YX ok1 with k | k | k | k <;> omega
  have kq:x.q.kind=1∨x.q.kind=3:=by rcases YX ok2 with k | k | k | k <;> omega
  rw [if_neg h2,if_neg h1]
  have up:φU x.p=ZjT x.p:=rfl
  have uq:φU x.q=ZjT x.q:=rfl
  rw [Z0p] at up uq
  by_cases c3:x.p.kind=2∧x.q.kind=1
  ·rw [if_pos c3] at hok ⊢
   intro h;cases h
  rw [if_neg c3] at hok ⊢
  have one12:∀ {o:Op},(o.kind=1∨o.kind=2)→Z2 o=1→ZN o→∃ t,o.l=[t]:=by
   intro o k h1 ho
   have hlen:=JY ho k
   have hl1:o.l.length=1:=by omega
   match h:o.l,hl1 with
   | [t],_=> exact ⟨t,rfl⟩
  by_cases c4:x.p.kind=2
  ·rw [if_pos c4] at hok ⊢
   have q3':x.q.kind=3:=by omega
   have hl1:Z2 x.q=1:=JQ q3'
   obtain ⟨t,ht⟩:=one12 (.inr c4) (by omega) ok1
   obtain ⟨_,w⟩:=wk3 wq pq q3'
   rw [ht,List.getD_cons_zero] at hok ⊢
   dsimp only at hok ⊢
   obtain ⟨v,hv,ev⟩:=Z6z hok
   intro _
   rw [ev]
   have m1:=Z2g false _ _ _ v w.r hv
   have m2:=Y6 v
   have m3:=Zgd _ x.q.e (Nat.le_refl _) ⟨_,w.r⟩
   rw [if_neg (by omega),ht] at up
   rw [if_pos q3'] at uq
   have:φU ⟨2,0,[Z4 v],Edit.nil⟩=34+Zo (Z4 v):=by unfold φU;rw [Z0p,if_neg (show ¬(2:Int)=3 by decide)];simp [Zf]
   rw [this]
   simp only [Zf,List.length_cons,List.length_nil] at up
   omega
  rw [if_neg c4] at hok ⊢
  have p3':x.p.kind=3:=by omega
  have hl0:Z2 x.p=1:=JQ p3'
  obtain ⟨mp,w⟩:=wk3 wp pp p3'
  by_cases c5:x.q.kind=1
  ·rw [if_pos c5] at hok ⊢
   obtain ⟨t,ht⟩:=one12 (.inl c5) (by omega) ok2
   rw [ht,List.getD_cons_zero] at hok ⊢
   dsimp only at hok ⊢
   obtain ⟨v,hv,ev⟩:=Z6z hok
   intro _
   rw [ev]
   have m1:=Z2g false _ _ _ v w.turn.r hv
   have m2:=Y6 v
   have m3:=Zgd _ x.p.e (Nat.le_refl _) ⟨_,w.r⟩
   have m4:=Z8F (Zv x.p.e)
   rw [Z5n] at m4
   rw [if_neg (by omega),ht] at uq
   rw [if_pos p3'] at up
   have:φU ⟨1,0,[Z4 v],Edit.nil⟩=34+Zo (Z4 v):=by unfold φU;rw [Z0p,if_neg (show ¬(1:Int)=3 by decide)];simp [Zf]
   rw [this]
   simp only [Zf,List.length_cons,List.length_nil] at uq
   omega
  rw [if_neg c5] at hok ⊢
  have q3':x.q.kind=3:=by omega
  obtain ⟨mq,w'⟩:=wk3 wq pq q3'
  dsimp only at hok ⊢
  intro _
  have H:=ih x.p.e x.q.e (by omega) w w' hok
  rw [if_pos p3'] at up
  rw [if_pos q3'] at uq
  have:φU ⟨3,0,[],(f x.p.e x.q.e).1⟩=16+utE (f x.p.e x.q.e).1:=by unfold φU;rw [Z0p,if_pos rfl];simp
  rw [this]
  omega
 have all:∀ (ps:List Piece) (ops:List Op),(∀ x∈ps,(ZF f x).ok=true→(ZF f x).is=true→φU (ZF f x).op≤(if x.of=2 then 0 else φU x.p)+(if x.of=1 then 0 else φU x.q))→Jk f ps=some ops→
   Y2 φU ops≤Y2 φU (Z1K ps)+Y2 φU (Z1J ps):=by
  intro ps
  induction ps with
  | nil=> intro ops _ h;cases h;simp [Z1K,Z1J,Y2]
  | cons x r ihp=>
   intro ops hx h
   rw [Jk] at h
   split at h
   ·rename_i hok
    obtain ⟨l,hl',rfl⟩:=Option.map_eq_some_iff.1 h
    have j:=ihp l (fun y hy=> hx y (List.mem_cons_of_mem _ hy)) hl'
    have k:=hx x List.mem_cons_self hok
    have unn:∀ o:Op,0≤φU o:=fun o=> by unfold φU;omega
    have n1:=unn x.p
    have n2:=unn x.q
    have hsP:Y2 φU (Z1K (x ::r))=(if x.of=2 then 0 else φU x.p)+Y2 φU (Z1K r):=by
     simp only [Z1K]
     split <;> simp [Y2]
    have hsQ:Y2 φU (Z1J (x ::r))=(if x.of=1 then 0 else φU x.q)+Y2 φU (Z1J r):=by
     simp only [Z1J]
     split <;> simp [Y2]
    rw [hsP,hsQ]
    by_cases his:(ZF f x).is=true
    ·rw [if_pos his]
     have k:=k his
     simp only [List.cons_append,List.nil_append,Y2]
     omega
    ·rw [if_neg his]
     simp only [List.nil_append]
     have:0≤(if x.of=2 then 0 else φU x.p)+(if x.of=1 then 0 else φU x.q):=by split <;> split <;> omega
     omega
   ·cases h
 have a:=all ps ops one hc
 rw [sA,sB,Zay,Zay,Zay] at a
 omega
theorem ZlF(o n:Tree):utE (.mk 1 o n [] [] 0 [])=16+Zo o+Zo n:=by simp [utE,Zd0,Z86]
theorem ZxL:∀ (n:Nat) (p q:Edit),Z5 p+Z5 q≤n→n≤18000000000→Wk p→Wk q→ComWk False (JX n p q) p q∧((JX n p q).2=true→utE (JX n p q).1+18≤utE p+utE q):=by
 intro n
 induction n with
 | zero=> intro p q h;have:=Z1D p;omega
 | succ n ih=>
  intro p q hn hN wp wq
  have rp:=Zn wp.r
  have rq:=Zn wq.r
  have ih1:∀ a b,Z5 a+Z5 b < Z5 p+Z5 q→Wk a→Wk b→ComWk False (JX n a b) a b:=fun a b h wa wb=> (ih a b (by omega) (by omega) wa wb).1
  have ih2:∀ a b,Z5 a+Z5 b < Z5 p+Z5 q→Wk a→Wk b→(JX n a b).2=true→utE (JX n a b).1+18≤utE a+utE b:=fun a b h wa wb=> (ih a b (by omega) (by omega) wa wb).2
  have S:=ZlJ wp wq ih1
  have up:=Zd1 p
  have uq:=Zd1 q
  have u1:=ZqD p
  have u2:=ZqD q
  have gp:=ZV wp.g
  have gq:=ZV wq.g
  have c1:=Zgd _ p (Nat.le_refl _) ⟨_,wp.r⟩
  have c2:=Zgd _ q (Nat.le_refl _) ⟨_,wq.r⟩
  have mo:=ZQ p.old;have mn:=ZQ p.new;have mo':=ZQ q.old;have mn':=ZQ q.new
  have hB:∀ (e:Edit) (t:Tree),doB e t=(YG (doE true e t),(doE true e t).isSome):=fun e t=> by
   unfold doB;rw [Z4y,Option.isSome_map]
  have no:∀ e:Edit,ComWk False (e,false) p q∧((e,false).2=true→utE (e,false).1+18≤utE p+utE q):=fun e=> ⟨⟨fun h=> (by cases h),fun h=> h.elim,fun _ _ h=> (by cases h),fun _ _ _ _ _ h=> (by cases h)⟩,fun h=> by cases h⟩
  show ComWk False (YV (JX n) p q) p q∧((YV (JX n) p q).2=true→utE (YV (JX n) p q).1+18≤utE p+utE q)
  unfold Jn at S
  unfold YV
  by_cases p0:p.kind=0
  ·rw [if_pos p0] at S ⊢
   exact ⟨S,fun _=> by dsimp only;omega⟩
  rw [if_neg p0] at S ⊢
  by_cases q0:q.kind=0
  ·rw [if_pos q0] at S ⊢
   exact ⟨S,fun _=> by dsimp only;omega⟩
  rw [if_neg q0] at S ⊢
  by_cases p1:p.kind=1
  ·rw [if_pos p1] at S ⊢
   refine ⟨by rw [hB] at S;exact S,fun h=> ?_⟩
   have h:(doB q p.new).2=true:=by rw [hB];exact h
   obtain ⟨v,hv,e⟩:=Z6z h
   have e':YG (doE true q p.new)=Z4 v:=by rw [←e,hB]
   have:=Z2g false q _ _ v wq.r hv
   have:=Y6 v
   dsimp only
   rw [ZlF,e']
   omega
  rw [if_neg p1] at S ⊢
  by_cases q1:q.kind=1
  ·rw [if_pos q1] at S ⊢
   refine ⟨by rw [hB] at S;exact S,fun h=> ?_⟩
   have h:(doB (Zy (Zv p)) q.old).2=true:=by rw [hB];exact h
   obtain ⟨v,hv,e⟩:=Z6z h
   have e':YG (doE true (Zy (Zv p)) q.old)=Z4 v:=by rw [←e,hB]
   have:=Z2g false _ _ _ v wp.turn.r hv
   have:=Y6 v
   have:=Z8F (Zv p)
   rw [Z5n] at this
   dsimp only
   rw [ZlF,e']
   omega
  rw [if_neg q1] at S ⊢
  by_cases hk:p.kind=q.kind
  ·rw [if_neg (show ¬p.kind≠q.kind by omega)]
   by_cases p2:p.kind=2
   ·have l1:=(rp.ops0 (by omega)).1
    have l2:=(rq.ops0 (by omega)).1
    rw [if_neg (by rintro (h | h);exact h hk;exact h (l1.trans l2.symm)),if_pos p2] at S
    rw [if_pos p2]
    rw [ZbI _ p.words q.words (-1) (Nat.le_refl _) (Z0H rp.words) (Z0H rq.words)]
    have hn1:1≤n∨(p.kids=[]∧q.kids=[]):=by
     by_cases h1:p.kids=[]
     ·by_cases h2:q.kids=[]
      ·exact .inr ⟨h1,h2⟩
      ·obtain ⟨k,hk⟩:=List.exists_mem_of_ne_nil _ h2
       have:=Y9 hk
       have:=Z1D k.e
       exact .inl (by omega)
     ·obtain ⟨k,hk⟩:=List.exists_mem_of_ne_nil _ h1
      have:=Y9 hk
      have:=Z1D k.e
      exact .inl (by omega)
    have hm:Je (JX n) p.kids q.kids (Yd (p.kids.map KidOf.at_) (q.kids.map KidOf.at_))=Zd KidOf.at_ (Jv (JX n)) p.kids q.kids:=by
     rcases hn1 with h | ⟨h1,h2⟩
     ·obtain ⟨m,rfl⟩:∃ m,n=m+1:=⟨n - 1,by omega⟩
      exact ZbK _ p.kids q.kids (-1) (Nat.le_refl _) (Z1T rp.kids) (Z1T rq.kids) (fun k hk=> (Z9k m (Zp rp.kids k hk).1.2.2).1) (fun k hk=> (Z9k m (Zp rq.kids k hk).1.2.2).2)
     ·rw [h1,h2,List.map_nil,Yd,Zd];try rfl
    rw [hm]
    cases hw:Zd WEdit.at_ J5 p.words q.words with
    | none=> exact no Edit.nil
    | some L=>
     rw [hw,if_pos (show (some L).isSome=true from rfl)] at S
     cases hf:Zd KidOf.at_ (Jv (JX n)) p.kids q.kids with
     | none=> exact no Edit.nil
     | some M=>
      rw [hf] at S
      refine ⟨S,fun _=> ?_⟩
      have akp:=Zp rp.kids
      have akq:=Zp rq.kids
      have d1:=Z7c (fun _=> 1) _ _ _ _ (Nat.le_refl _) (fun a _ b _ _=> by omega) hw
      have d2:=Z7c ZlE _ _ _ _ (Nat.le_refl _) (fun a ha b hb hc=> by
       have hc:(JX n a.e b.e).2=true:=hc
       have m1:=Y9 ha
       have m2:=Y9 hb
       have:=ih2 a.e b.e (by omega) (.of (akp a ha).2 (J1 gp.2.2.2.1 ha).2) (.of (akq b hb).2 (J1 gq.2.2.2.1 hb).2) hc
       rw [Z5D,Z5D,Z5D]
       show 65600+utE (JX n a.e b.e).1≤_
       omega) hf
      rw [Z2U,Z2U,Z2U] at d1
      have su:∀ l:List Kid,Z7O ZlE l=Zd0 l:=by
       intro l
       induction l with
       | nil=> rfl
       | cons a r ihl=> simp only [Z7O,Zd0,ihl]
      rw [su,su,su] at d2
      simp only [utE,Z86,JN]
      omega
   ·have p3:p.kind=3:=by have:=rp.kind;omega
    have q3:q.kind=3:=by omega
    rw [if_neg p2]
    by_cases hl:p.list=q.list
    ·rw [if_neg (by omega)]
     have ok:∀ (e:Edit),Wk e→Z5 e≤18000000000→okL e.ops:=fun e h hm o ho=> by
      refine ⟨ZJ h.r o ho,?_⟩
      have:=Z3C ho
      obtain ⟨kk,ol,nn,w,ks,l,os⟩:=e
      simp only [Z5,Edit.ops_mk] at*
      omega
     rw [Zjh (ok p wp (by omega)) (ok q wq (by omega))]
     unfold Z04
     by_cases hb1:(ZP 1 2 p.ops q.ops []).2.1=true
     ·rw [if_pos hb1]
      cases hc:Jk (JX n) (ZP 1 2 p.ops q.ops []).1 with
      | none=> exact no Edit.nil
      | some ops=>
       obtain ⟨j1,j2,j3,_⟩:=ZmU wp wq p3 hl ih1 rfl hb1 hc
       have ju:=ZvB wp wq ih2 rfl hb1 hc
       have ook:∀ o∈ops,ZN o:=fun o ho=> Z0A (j1 o ho).1
       have fr:∀ y∈ops.flatMap ux,Zc p.list y (-2)=true∧YH y:=by
        intro y hy
        obtain ⟨o,ho,hy⟩:=List.mem_flatMap.1 hy
        exact ZqA (j1 o ho).1 (j1 o ho).2 y hy
       have fA:=Z6L φA (fun o h=> ZCW h) ook
       have fB:=Z6L φB (fun o h=> ZCV h) ook
       have fU:=Z6L φU (fun o h=> ZCU h) ook
       rw [Zdb,Zdb] at fA
       rw [Zda,Zda] at fB
       rw [Zay,Zay] at fU
       have okk:∀ o∈ops.flatMap ux,0≤Z2 o:=fun o ho=> YY (Z0A (fr o ho).1)
       have lA:=Z0m _ 0 okk (by decide) (by decide)
       have lB:=Z0l _ 0 okk (by decide) (by decide)
       have mA:=Z0m p.ops 0 (fun o ho=> YY (ZJ wp.r o ho)) (by decide) (by decide)
       have mB:=Z0l q.ops 0 (fun o ho=> YY (ZJ wq.r o ho)) (by decide) (by decide)
       have t1:=rp.len.1
       have t2:=rq.len.2
       have hli:=rp.list p3
       show ComWk False (.mk 3 Tree.nil Tree.nil [] [] p.list (ops.flatMap ux),true) p q∧_
       refine ⟨⟨fun _=> ⟨Zfz hli (Z8h fun o ho=> (fr o ho).1) (by omega) (by omega),?_⟩,fun h=> h.elim,fun _ _ _=> (show (3:Int)≠0 by decide),fun list h7 h9 _ _ _ hp' hq'=> ?_⟩,fun _=> ?_⟩
       ·exact ⟨YS (by decide) (by decide),Jc,Jc,by simp,by unfold isI;omega,trivial,Zdy fun o ho=> (fr o ho).2⟩
       ·rcases hp' with h | h | h
        ·exact .inl h
        ·omega
        ·omega
       ·show utE (.mk 3 Tree.nil Tree.nil [] [] p.list (ops.flatMap ux))+18≤_
        simp only [utE,Zd0,JN,List.length_nil]
        omega
     ·rw [if_neg hb1];exact no Edit.nil
    ·rw [if_pos hl];exact no Edit.nil
  ·rw [if_pos hk];exact no Edit.nil
end Go.AM.Ytpjenobkibfpcaa
namespace Go.AM.Ytpjenobkibfpcaa
open Go.AM Go.Proofs
def refOk(e:Edit):Prop:=utE e≤9000000000∧YT e∧∃ d,Za e d=true
theorem refOk.re{e:Edit}(h:refOk e):JK e:=⟨Nat.le_trans (Zgd _ e (Nat.le_refl _) h.2.2) h.1,h.2⟩
end Go.AM.Ytpjenobkibfpcaa
namespace Go.AM.Ytpjenobkibfpcaa
open Go.AM Go.Proofs
noncomputable section
noncomputable section
def ZnU:ArgL (Int × Unit):=(.cons (JI .u8) .nil)
def ZdY(a:Int × Unit):Prop:=0≤a.1∧a.1 < 256
def Zrg(a:Int × Unit):V U:= .c (.int .u64 ((Z1d (a.1).toNat 8:Nat):Int))
def Z95:Fs U:=fs ZnU (fun a=> [ZdY a]) Zrg
def Ztj:ArgL (Int × Int × Int × Unit):=(.cons (JI .u64) (.cons (JI .u64) (.cons (JI .u8) .nil)))
def Z60(a:Int × Int × Int × Unit):Prop:=(0≤a.1∧a.1 < 18446744073709551616)∧(0≤a.2.1∧a.2.1 < 18446744073709551616)∧(0≤a.2.2.1∧a.2.2.1 < 256)
def ZwQ(a:Int × Int × Int × Unit):V U:= .c (.int .u64 (mix a.1 a.2.1 a.2.2.1))
def Z4Q:Fs U:=fs Ztj (fun a=> [Z60 a]) ZwQ
def Z1H:List (FuncId × Fs U):=[]
def Z9L:Zj U:=lvl [([0],[]),([0,3],[]),([0,3,5],[]),([0,3,5,6],[]),([0,3,4,5],[]),([0,3,4,5,12],[]),([0,3,5],[]),([0,3,5],[]),([2],[])]
def Z0T(m x3 x5:Int):LSt U:=(L2 [(0,.c (.int .u8 m)),(3,.c (.int .u64 x3)),(5,.c (ci x5))] [])
abbrev ZBR(m:Int)(Q:QT):=AW (Z1 Z1H) Try.f105 Z9L [] (L2 [(0,.c (.int .u8 m))] []) Q
abbrev Zlq:=awp cfg (Z1 Z1H) (ZS cfg (Z1 Z1H)) Try.f105.ntmps Z9L
abbrev Zk4:=ZaF cfg (Z1 Z1H) (ZS cfg (Z1 Z1H)) Try.f105.ntmps Z9L
theorem ZBj(m:Int)(Q:QT)(h:Ze (AW (Z1 Z1H) Try.f105 Z9L [1,1,0,1,0,0]) (Z0T m 0 0) (xB 0 (SW (Z1 Z1H) Try.f105 Z9L [1,1,1] Q))):
  ZBR m Q:=by
 have e_:(ZBR m Q)=(Ze (Zlq (cd Try.f105 [1,1,0,1,0,0])) (Z0T m 0 0) (xB 0 (Zk4 (cd Try.f105 [1,1,1]) Q))):=by kernel_rfl
 exact e_.mpr h
abbrev Zoc(m x3 x5:Int)(N0:NT)(Q:QT):=AW (Z1 Z1H) Try.f105 Z9L [1,1,0,1,0,0] (Z0T m x3 x5) (xT N0 (xB 0 (SW (Z1 Z1H) Try.f105 Z9L [1,1,1] Q)))
theorem Zqs(m x3 x5:Int)(N0:NT)(Q:QT)(h:((decide (x5 < 8))=true→((0:Int)≤x5)∧(((((IntKind.wrap .u8 (BitVec.ofInt (IntKind.bits .u8) (Int.fdiv m (2 ^ (min x5.toNat (IntKind.bits .u8)))) &&& BitVec.ofInt (IntKind.bits .u8) 1).toNat):Int)==1)=true→(InR ((8:Int)*x5))∧((0:Int)≤((8:Int)*x5))∧((InR (x5+1))∧(N0 (Z0T m (IntKind.wrap .u64 (BitVec.ofInt (IntKind.bits .u64) x3 ||| BitVec.ofInt (IntKind.bits .u64) (IntKind.wrap .u64 ((255:Int)*2 ^ (min (Int.toNat ((8:Int)*x5)) (IntKind.bits .u64))))).toNat) (x5+1)))))∧((((IntKind.wrap .u8 (BitVec.ofInt (IntKind.bits .u8) (Int.fdiv m (2 ^ (min x5.toNat (IntKind.bits .u8)))) &&& BitVec.ofInt (IntKind.bits .u8) 1).toNat):Int)==1)=false→(InR (x5+1))∧(N0 (Z0T m x3 (x5+1))))))∧((decide (x5 < 8))=false→Q .ret (L2 [(2,.c (.int .u64 x3))] []))):
  Zoc m x3 x5 N0 Q:=by
 have e_:(Zoc m x3 x5 N0 Q)=(let zz0:=(((IntKind.wrap .u8 (BitVec.ofInt (IntKind.bits .u8) (Int.fdiv m (2 ^ (min x5.toNat (IntKind.bits .u8)))) &&& BitVec.ofInt (IntKind.bits .u8) 1).toNat):Int)==1);(((decide ((x5:Int) < 8))=true→(((0:Int)≤x5)∧((zz0=true→(InR ((8:Int)*x5))∧((0:Int)≤((8:Int)*x5))∧((InR ((x5:Int)+1))∧(N0 (Z0T m (IntKind.wrap .u64 (BitVec.ofInt (IntKind.bits .u64) x3 ||| BitVec.ofInt (IntKind.bits .u64) (IntKind.wrap .u64 ((255:Int)*2 ^ (min (Int.toNat ((8:Int)*x5)) (IntKind.bits .u64))))).toNat) ((x5:Int)+1)))))∧(zz0=false→(InR ((x5:Int)+1))∧(N0 (Z0T m x3 ((x5:Int)+1)))))))∧((decide ((x5:Int) < 8))=false→(Q .ret (L2 [(2,.c (.int .u64 x3))] []))))):=by kernel_rfl
 exact e_.mpr ⟨fun c_1=> ⟨(h.1 c_1).1,⟨fun c_2=> ⟨((h.1 c_1).2.1 c_2).1,((h.1 c_1).2.1 c_2).2.1,⟨((h.1 c_1).2.1 c_2).2.2.1,((h.1 c_1).2.1 c_2).2.2.2⟩⟩,fun c_2=> ⟨((h.1 c_1).2.2 c_2).1,((h.1 c_1).2.2 c_2).2⟩⟩⟩,fun c_1=> (h.2 c_1)⟩
def ZwE(m:Int):Prop:=AW (Z1 Z1H) Try.f105 Z9L [] (Zk (ZnU.can (m,())) []) (EQ Try.f105 (Zrg (m,())) [])
theorem Zvf(hb:∀ (m:Int) (_:Unit),ZdY (m,())→ZwE m):CT 105 Z95:=
 Z7 (l:=[]) Zm rfl trivial Z9L Try.func105 rfl rfl 1 (fun _=> rfl) (by decide) (fun ⟨m,_⟩=> hb m ())
def Zsx:List (FuncId × Fs U):=[(105,Z95)]
def ZyB:Zj U:=lvl [([0,1,2],[]),([6],[])]
abbrev W66(a b m:Int)(Q:QT):=AW (Z1 Zsx) Try.f66 ZyB [] (L2 [(0,.c (.int .u64 a)),(1,.c (.int .u64 b)),(2,.c (.int .u8 m))] []) Q
theorem ZCw(a b m:Int)(Q:QT)(h:(ZdY (m,()))∧(ZdY (m,()))∧(Q .ret (L2 [(6,.c (.int .u64 (IntKind.wrap .u64 (BitVec.ofInt (IntKind.bits .u64) (IntKind.wrap .u64 (BitVec.ofInt (IntKind.bits .u64) a &&& ~~~(BitVec.ofInt (IntKind.bits .u64) ((Z1d m.toNat 8:Nat):Int))).toNat) ||| BitVec.ofInt (IntKind.bits .u64) (IntKind.wrap .u64 (BitVec.ofInt (IntKind.bits .u64) b &&& BitVec.ofInt (IntKind.bits .u64) ((Z1d m.toNat 8:Nat):Int)).toNat)).toNat)))] []))):
  W66 a b m Q:=by
 have e_:(W66 a b m Q)=(type_of% h):=by kernel_rfl
 exact e_.mpr ⟨h.1,h.2.1,h.2.2⟩
def ZA1(a b m:Int):Prop:=AW (Z1 Zsx) Try.f66 ZyB [] (Zk (Ztj.can (a,b,m,())) []) (EQ Try.f66 (ZwQ (a,b,m,())) [])
theorem Zyd(Zzl:CT 105 Z95)(hb:∀ (a:Int) (b:Int) (m:Int) (_:Unit),Z60 (a,b,m,())→ZA1 a b m):CT 66 Z4Q:=
 Z7 (l:=[(105,Z95)]) Zm rfl (⟨Zzl,trivial⟩) ZyB Try.func66 rfl rfl 3 (fun _=> rfl) (by decide) (fun ⟨a,b,m,_⟩=> hb a b m ())
end
end
end Go.AM.Ytpjenobkibfpcaa
namespace Go.AM.Ytpjenobkibfpcaa
open Go.AM Go.Proofs
theorem Zt8:∀ n:Fin 256,∀ i:Fin 8,IntKind.wrap .u8 (BitVec.ofInt (IntKind.bits .u8) (Int.fdiv (n.1:Int) (2 ^ (min (Int.toNat (i.1:Int)) (IntKind.bits .u8)))) &&& BitVec.ofInt (IntKind.bits .u8) 1).toNat=((n.1 / 2 ^ i.1 % 2:Nat):Int):=by decide+kernel
theorem ZuB:∀ n:Fin 256,∀ i:Fin 8,IntKind.wrap .u64 (BitVec.ofInt (IntKind.bits .u64) ((Z1d n.1 i.1:Nat):Int) ||| BitVec.ofInt (IntKind.bits .u64) (IntKind.wrap .u64 (255*2 ^ (min (Int.toNat (8*(i.1:Int))) (IntKind.bits .u64))))).toNat=((Z1d n.1 i.1+255*2 ^ (8*i.1):Nat):Int):=by decide+kernel
theorem Zzl:Contract Try.prog cfg 105 Z95:=by
 refine Zvf ?_
 intro m _ hp
 simp only [ZdY] at hp
 obtain ⟨n,rfl⟩:=Int.eq_ofNat_of_zero_le hp.1
 have hn:n < 256:=by omega
 refine ZBj _ _ ?_
 refine Z6 (ι:=Nat) (fun i=> Z0T n ((Z1d n i:Nat):Int) i) (fun i=> i≤8) (fun i=> 8 - i) 0 rfl (by omega) ?_
 intro i hi
 refine Zqs _ _ _ _ _ ?_
 (simp only [vcS])
 refine ⟨fun hc=> ⟨by omega,fun hq=> ⟨by unfold InR;omega,by omega,by unfold InR;omega,i+1,?_,by omega,by omega⟩,fun hq=> ⟨by unfold InR;omega,i+1,?_,by omega,by omega⟩⟩,fun hc=> ?_⟩
 ·have h1:=Zt8 ⟨n,hn⟩ ⟨i,by omega⟩
  have h2:=ZuB ⟨n,hn⟩ ⟨i,by omega⟩
  simp only at h1 h2
  rw [h1] at hq
  rw [h2]
  have e:Z1d n (i+1)=Z1d n i+255*2 ^ (8*i):=by simp only [Z1d];rw [if_pos (by omega)]
  rw [e]
  try rfl
 ·have h1:=Zt8 ⟨n,hn⟩ ⟨i,by omega⟩
  simp only at h1
  rw [h1] at hq
  have e:Z1d n (i+1)=Z1d n i:=by simp only [Z1d];rw [if_neg (by omega)];omega
  rw [e]
  try rfl
 ·have:i=8:=by omega
  subst this
  exact Yn rfl rfl
theorem Z2y(a:Nat)(h:a < 2 ^ 64):(BitVec.ofInt 64 (a:Int)).toNat=a:=by
 rw [BitVec.toNat_ofInt]
 omega
theorem c66:Contract Try.prog cfg 66 Z4Q:=by
 refine Zyd Zzl ?_
 intro a b m _ hp
 simp only [Z60] at hp
 obtain ⟨⟨a0,a1⟩,⟨b0,b1⟩,m0,m1⟩:=hp
 obtain ⟨x,rfl⟩:=Int.eq_ofNat_of_zero_le a0
 obtain ⟨y,rfl⟩:=Int.eq_ofNat_of_zero_le b0
 obtain ⟨n,rfl⟩:=Int.eq_ofNat_of_zero_le m0
 have hn:n < 256:=by omega
 have hx:x < 2 ^ 64:=by omega
 have hy:y < 2 ^ 64:=by omega
 have hw:=ZtO ⟨n,hn⟩
 have hw2:=Zly ⟨n,hn⟩
 simp only at hw hw2
 rw [←hw2] at hw
 refine ZCw _ _ _ _ ?_
 refine ⟨⟨m0,m1⟩,⟨m0,m1⟩,Yn rfl ?_⟩
 have em:mix x y n=(((x &&& (2 ^ 64 - 1 - Z1d n 8)) ||| (y &&& Z1d n 8):Nat):Int):=by rw [←ZrT,←ZrS x y n hn]
 have e1:(BitVec.ofInt 64 (x:Int) &&& ~~~(BitVec.ofInt 64 ((Z1d n 8:Nat):Int))).toNat=x &&& (2 ^ 64 - 1 - Z1d n 8):=by
  rw [BitVec.toNat_and,BitVec.toNat_not,Z2y x hx,Z2y _ hw]
 have e2:(BitVec.ofInt 64 (y:Int) &&& BitVec.ofInt 64 ((Z1d n 8:Nat):Int)).toNat=y &&& Z1d n 8:=by
  rw [BitVec.toNat_and,Z2y y hy,Z2y _ hw]
 have l1:x &&& (2 ^ 64 - 1 - Z1d n 8) < 2 ^ 64:=Nat.lt_of_le_of_lt Nat.and_le_left hx
 have l2:y &&& Z1d n 8 < 2 ^ 64:=Nat.lt_of_le_of_lt Nat.and_le_left hy
 have l3:(x &&& (2 ^ 64 - 1 - Z1d n 8)) ||| (y &&& Z1d n 8) < 2 ^ 64:=Nat.or_lt_two_pow l1 l2
 have key:IntKind.wrap .u64 ((BitVec.ofInt 64 (IntKind.wrap .u64 ((BitVec.ofInt 64 (x:Int) &&& ~~~(BitVec.ofInt 64 ((Z1d n 8:Nat):Int))).toNat:Int)) ||| BitVec.ofInt 64 (IntKind.wrap .u64 ((BitVec.ofInt 64 (y:Int) &&& BitVec.ofInt 64 ((Z1d n 8:Nat):Int)).toNat:Int))).toNat:Int)=mix x y n:=by
  have w1:∀ k:Nat,k < 2 ^ 64→IntKind.wrap .u64 (k:Int)=k:=fun k hk=> Z5B (by omega) (by omega)
  rw [e1,e2,w1 _ l1,w1 _ l2,BitVec.toNat_or,Z2y _ l1,Z2y _ l2,w1 _ l3,em]
 exact key
end Go.AM.Ytpjenobkibfpcaa
namespace Go.AM.Ytpjenobkibfpcaa
open Go.AM Go.Proofs
noncomputable section
noncomputable section
def ZnC:ArgL (List Tree × List Tree × Unit × Unit):=(.cons (aSl .tree) (.cons (aSl .tree) (.cons (aFn 106) .nil)))
def ZdT(a:List Tree × List Tree × Unit × Unit):Prop:=Zf a.1≤1000000000000∧Zf a.2.1≤1000000000000
def Zr6(a:List Tree × List Tree × Unit × Unit):V U:= .c (.bool (eqX (Z8 a.1) (Z8 a.2.1)))
def Z6P:Fs U:=fs ZnC (fun a=> [ZdT a]) Zr6
def Z1F:List (FuncId × Fs U):=[(106,Jl)]
def Z9J:Zj U:=lvl [([0,1,2],[]),([0,1,2,14],[]),([6],[]),([1,2,15,16,17],[]),([1,2,15,16,17,18],[]),([1,2,7,8,15,16,17],[8]),([1,2,8,9,15,16,17],[8,9]),([1,2,15,16,17,30],[]),([6],[]),([1,2,15,16,17],[]),([6],[])]
def Z2I(a b:List Tree)(f:Unit)(x17:Int):LSt U:=(L2 [(1,.c (sU .tree b .unk)),(2,.fn 106),(15,.c (sU .tree a .unk)),(16,.c (ci (a.length:Int))),(17,.c (ci x17))] [])
abbrev ZBK(a b:List Tree)(f:Unit)(Q:QT):=AW (Z1 Z1F) Try.f151 Z9J [] (L2 [(0,.c (sU .tree a .unk)),(1,.c (sU .tree b .unk)),(2,.fn 106)] []) Q
abbrev Zlo:=awp cfg (Z1 Z1F) (ZS cfg (Z1 Z1F)) Try.f151.ntmps Z9J
abbrev Zk2:=ZaF cfg (Z1 Z1F) (ZS cfg (Z1 Z1F)) Try.f151.ntmps Z9J
theorem ZAN(a b:List Tree)(f:Unit)(Q:QT)(h:((((a.length:Int):Int) !=(b.length:Int))=true→Q .ret (L2 [(6,.c (.bool false))] []))∧((((a.length:Int):Int) !=(b.length:Int))=false→Ze (AW (Z1 Z1F) Try.f151 Z9J [1,1,0,1,0,0]) (Z2I a b f 0) (xB 0 (SW (Z1 Z1F) Try.f151 Z9J [1,1,1] Q)))):
  ZBK a b f Q:=by
 have e_:(ZBK a b f Q)=((((a.length:Int) !=(b.length:Int))=true→(Q .ret (L2 [(6,.c (.bool false))] [])))∧(((a.length:Int) !=(b.length:Int))=false→(Ze (Zlo (cd Try.f151 [1,1,0,1,0,0])) (Z2I a b f 0) (xB 0 (Zk2 (cd Try.f151 [1,1,1]) Q))))):=by kernel_rfl
 exact e_.mpr ⟨fun c_4=> (h.1 c_4),fun c_4=> (h.2 c_4)⟩
abbrev Zo3(a b:List Tree)(f:Unit)(x17:Int)(N0:NT)(Q:QT):=AW (Z1 Z1F) Try.f151 Z9J [1,1,0,1,0,0] (Z2I a b f x17) (xT N0 (xB 0 (SW (Z1 Z1F) Try.f151 Z9J [1,1,1] Q)))
theorem ZpT(a b:List Tree)(f:Unit)(x17:Int)(N0:NT)(Q:QT)(h:((decide (x17 < (a.length:Int)))=true→((0:Int)≤x17∧x17 < (a.length:Int))∧(((0:Int)≤x17∧x17 < (b.length:Int))∧((Z1Z ((Tree.mk (Tree.kind (a.getD x17.toNat Tree.nil)) (Tree.words (a.getD x17.toNat Tree.nil)) (Tree.kids (a.getD x17.toNat Tree.nil))),(Tree.mk (Tree.kind (b.getD x17.toNat Tree.nil)) (Tree.words (b.getD x17.toNat Tree.nil)) (Tree.kids (b.getD x17.toNat Tree.nil))),()))∧(((!(YF (Z4 (Tree.mk (Tree.kind (a.getD x17.toNat Tree.nil)) (Tree.words (a.getD x17.toNat Tree.nil)) (Tree.kids (a.getD x17.toNat Tree.nil)))) (Z4 (Tree.mk (Tree.kind (b.getD x17.toNat Tree.nil)) (Tree.words (b.getD x17.toNat Tree.nil)) (Tree.kids (b.getD x17.toNat Tree.nil))))))=true→Q .ret (L2 [(6,.c (.bool false))] []))∧((!(YF (Z4 (Tree.mk (Tree.kind (a.getD x17.toNat Tree.nil)) (Tree.words (a.getD x17.toNat Tree.nil)) (Tree.kids (a.getD x17.toNat Tree.nil)))) (Z4 (Tree.mk (Tree.kind (b.getD x17.toNat Tree.nil)) (Tree.words (b.getD x17.toNat Tree.nil)) (Tree.kids (b.getD x17.toNat Tree.nil))))))=false→(InR (x17+1))∧(N0 (Z2I a b f (x17+1))))))))∧((decide (x17 < (a.length:Int)))=false→Q .ret (L2 [(6,.c (.bool true))] []))):
  Zo3 a b f x17 N0 Q:=by
 have e_:(Zo3 a b f x17 N0 Q)=(let zz0:=(!(YF (Z4 (Tree.mk (Tree.kind (a.getD x17.toNat Tree.nil)) (Tree.words (a.getD x17.toNat Tree.nil)) (Tree.kids (a.getD x17.toNat Tree.nil)))) (Z4 (Tree.mk (Tree.kind (b.getD x17.toNat Tree.nil)) (Tree.words (b.getD x17.toNat Tree.nil)) (Tree.kids (b.getD x17.toNat Tree.nil))))));(((decide ((x17:Int) < (a.length:Int)))=true→((0:Int)≤x17∧x17 < (a.length:Int))∧(((0:Int)≤x17∧x17 < (b.length:Int))∧((Z1Z ((Tree.mk (Tree.kind (a.getD x17.toNat Tree.nil)) (Tree.words (a.getD x17.toNat Tree.nil)) (Tree.kids (a.getD x17.toNat Tree.nil))),(Tree.mk (Tree.kind (b.getD x17.toNat Tree.nil)) (Tree.words (b.getD x17.toNat Tree.nil)) (Tree.kids (b.getD x17.toNat Tree.nil))),()))∧((zz0=true→(Q .ret (L2 [(6,.c (.bool false))] [])))∧(zz0=false→(InR ((x17:Int)+1))∧(N0 (Z2I a b f ((x17:Int)+1))))))))∧((decide ((x17:Int) < (a.length:Int)))=false→(Q .ret (L2 [(6,.c (.bool true))] []))))):=by kernel_rfl
 exact e_.mpr ⟨fun c_5=> ⟨(h.1 c_5).1,⟨(h.1 c_5).2.1,⟨(h.1 c_5).2.2.1,⟨fun c_6=> ((h.1 c_5).2.2.2.1 c_6),fun c_6=> ⟨((h.1 c_5).2.2.2.2 c_6).1,((h.1 c_5).2.2.2.2 c_6).2⟩⟩⟩⟩⟩,fun c_5=> (h.2 c_5)⟩
def Zw8(a b:List Tree)(f:Unit):Prop:=AW (Z1 Z1F) Try.f151 Z9J [] (Zk (ZnC.can (a,b,f,())) []) (EQ Try.f151 (Zr6 (a,b,f,())) [])
theorem ZuS(ZhE:CT 106 Jl)(hb:∀ (a:List Tree) (b:List Tree) (f:Unit) (_:Unit),ZdT (a,b,f,())→Zw8 a b f):CT 151 Z6P:=
 Z7 (l:=[(106,Jl)]) Zm rfl (⟨ZhE,trivial⟩) Z9J Try.func151 rfl rfl 3 (fun _=> rfl) (by decide) (fun ⟨a,b,f,_⟩=> hb a b f ())
end
end
end Go.AM.Ytpjenobkibfpcaa
