import Derived.Test.YtpjenobkibfpcaaGreatZCL25j
import Derived.Test.YtpjenobkibfpcaaGreatZKG22a
import Derived.Test.YtpjenobkibfpcaaGreatZKL21n
import Derived.Test.YtpjenobkibfpcaaGreatZKRB07
set_option linter.unusedSimpArgs false
set_option linter.unusedVariables false
namespace Go.AM.YtpjenobkibfpcaaGreat
open Go.AM Go.Proofs
theorem Zde{D list:Int}:∀ {l:List Tree},YH D list l=true→YH (-1) list l=true
 | [],_=> rfl
 | t ::r,h=> by
  simp only [YH,Bool.and_eq_true] at h ⊢
  exact ⟨JM _ _ _ (by decide) h.1,Zde h.2⟩
mutual
theorem Z05:∀ (e:Edit) (d m:Int),m < 0→Z2 e d=true→Z2 e m=true
 | .mk k o n w ks l os,d,m,hm,h=> by
  have h1:=ZbM ks
  have h2:=ZbJ l os
  rw [Z2] at h ⊢
  split at h
  ·cases h
  ·rename_i a
   rw [if_neg (by omega)]
   split at h
   ·cases h
   ·rename_i b
    rw [if_neg b]
    split at h
    ·rename_i c
     rw [if_pos c,Zf6 hm]
     simp only [Bool.and_eq_true] at h ⊢
     exact ⟨⟨JM _ _ _ (by decide) h.1.1,JM _ _ _ (by decide) h.1.2⟩,h.2⟩
    ·rename_i c
     rw [if_neg c]
     simp only [Bool.and_eq_true] at h ⊢
     exact ⟨⟨⟨⟨h.1.1.1.1,h1 _ _ (m - 1) (by omega) h.1.1.1.2⟩,h.1.1.2⟩,h2 _ (m - 1) (by omega) h.1.2⟩,h.2⟩
theorem ZbM:∀ (ks:List (KidOf Edit)) (last d m:Int),m < 0→Zx last ks d=true→Zx last ks m=true
 | [],_,_,_,_,_=> rfl
 | k ::r,last,d,m,hm,h=> by
  simp only [Zx,Bool.and_eq_true] at h ⊢
  exact ⟨Zhd k last d m hm h.1,ZbM r k.at_ d m hm h.2⟩
theorem Zhd:∀ (k:KidOf Edit) (last d m:Int),m < 0→YT last k d=true→YT last k m=true
 | ⟨a,e⟩,last,d,m,hm,h=> by
  simp only [YT,Bool.and_eq_true] at h ⊢
  exact ⟨h.1,Z05 e d m hm h.2⟩
theorem ZbJ(list:Int):∀ (os:List (OpOf Edit)) (d m:Int),m < 0→Zp list os d=true→Zp list os m=true
 | [],_,_,_,_=> rfl
 | o ::r,d,m,hm,h=> by
  simp only [Zp,Bool.and_eq_true] at h ⊢
  exact ⟨Zjt list o d m hm h.1,ZbJ list r d m hm h.2⟩
theorem Zjt(list:Int):∀ (o:OpOf Edit) (d m:Int),m < 0→Zc list o d=true→Zc list o m=true
 | ⟨k,n,l,e⟩,d,m,hm,h=> by
  have he:=Z05 e d m hm
  rw [Zc] at h ⊢
  split at h
  ·rename_i h0;rw [if_pos h0];exact h
  ·rename_i h0
   rw [if_neg h0]
   split at h
   ·cases h
   ·rename_i h1
    rw [if_neg h1]
    split at h
    ·rename_i h2
     rw [if_pos h2,Zf6 hm]
     simp only [Bool.and_eq_true] at h ⊢
     exact ⟨⟨Zde h.1.1,h.1.2⟩,h.2⟩
    ·rename_i h2
     rw [if_neg h2]
     simp only [Bool.and_eq_true] at h ⊢
     exact ⟨⟨h.1.1,he h.1.2⟩,h.2⟩
end
structure Wk (e:Edit):Prop where
 r:Z2 e (-1)=true
 g:YI e
theorem Wk.of{e:Edit}{d:Int}(h:Z2 e d=true)(g:YI e):Wk e:=⟨Z05 e d _ (by decide) h,g⟩
theorem JU{n:Int}(h0:0≤n)(h9:n≤9):isI n:=by unfold isI;omega
theorem Zg6{o n:Tree}(h1:Ze o (-1)=true)(h2:Ze n (-1)=true)(h3:o.kind≠10)(h4:n.kind≠10):Z2 (.mk 1 o n [] [] 0 []) (-1)=true:=by
 rw [Z2,if_neg (by decide),if_neg (by simp),if_pos rfl,Zf6 (by decide),h1,h2]
 simpa using ⟨h3,h4⟩
theorem Zqa{w:List WEdit}{ks:List Kid}(h1:Zs (-1) w=true)(h2:Zx (-1) ks (-2)=true):Z2 (.mk 2 Tree.nil Tree.nil w ks 0 []) (-1)=true:=by
 rw [Z2,if_neg (by decide),if_neg (by simp [ZZ,Tree.nil]),if_neg (by decide),h1,show (-1:Int) - 1= -2 from rfl,h2]
 simp [Zp,Ym,Jb]
theorem Zq9{l:Int}{os:List Op}(hl:2≤l∧l≤9)(h:Zp l os (-2)=true)(h1:Ym os 0 < 1048576)(h2:Jb os 0 < 1048576):Z2 (.mk 3 Tree.nil Tree.nil [] [] l os) (-1)=true:=by
 rw [Z2,if_neg (by decide),if_neg (by simp [ZZ,Tree.nil]),if_neg (by decide),show (-1:Int) - 1= -2 from rfl,h]
 simp only [Zs,Zx,Bool.true_and,Bool.and_true,Bool.and_eq_true,decide_eq_true_eq]
 exact ⟨by omega,h1,h2⟩
theorem Zd6:∀ {l:List WEdit} {last:Int},asc WEdit.at_ last l→(∀ w∈l,w.at_≤65534∧w.mask≠0∧Yu w.old w.mask=true∧Yu w.new w.mask=true)→Zs last l=true
 | [],_,_,_=> rfl
 | a ::r,last,h,hw=> by
  obtain ⟨h1,h2,h3,h4⟩:=hw a List.mem_cons_self
  simp only [Zs,Bool.and_eq_true,decide_eq_true_eq]
  exact ⟨⟨⟨⟨h.1,h1,h2⟩,h3⟩,h4⟩,Zd6 h.2 fun w hw'=> hw w (List.mem_cons_of_mem _ hw')⟩
theorem ZdQ{d:Int}:∀ {l:List Kid} {last:Int},asc KidOf.at_ last l→(∀ k∈l,k.at_≤65534∧k.e.kind≠0∧Z2 k.e d=true)→Zx last l d=true
 | [],_,_,_=> rfl
 | a ::r,last,h,hw=> by
  obtain ⟨h1,h2,h3⟩:=hw a List.mem_cons_self
  simp only [Zx,Z1W,Bool.and_eq_true,decide_eq_true_eq]
  exact ⟨⟨⟨h.1,h1,h2⟩,h3⟩,ZdQ h.2 fun w hw'=> hw w (List.mem_cons_of_mem _ hw')⟩
theorem ZdP{list d:Int}:∀ {l:List Op},(∀ o∈l,Zc list o d=true)→Zp list l d=true
 | [],_=> rfl
 | a ::r,h=> by
  simp only [Zp,Bool.and_eq_true]
  exact ⟨h a List.mem_cons_self,ZdP fun o ho=> h o (List.mem_cons_of_mem _ ho)⟩
theorem Z4i{D list:Int}:∀ {l:List Tree},(∀ t∈l,Ze (.mk list [] [t]) D=true)→YH D list l=true
 | [],_=> rfl
 | t ::r,h=> by
  simp only [YH,Bool.and_eq_true]
  exact ⟨h t List.mem_cons_self,Z4i fun x hx=> h x (List.mem_cons_of_mem _ hx)⟩
theorem Zg5{list:Int}(hl:2≤list∧list≤9){t:Tree}(h1:JR list t=true)(h2:Ze t (-1)=true):Ze (.mk list [] [t]) (-1)=true:=
 ZdO hl (by simp) fun k hk=> by rw [List.mem_singleton.1 hk];exact ⟨h1,h2⟩
theorem Zwn{list n:Int}(h1:1≤n)(h2:n≤1048576)(d:Int):Zc list ⟨0,n,[],Edit.nil⟩ d=true:=by
 rw [Zc,if_pos rfl,Z38]
 simp only [List.length_nil,Bool.and_true,decide_eq_true_eq]
 exact ⟨h1,h2,trivial⟩
theorem Z9t{list k d:Int}{l:List Tree}(hk:k=1∨k=2)(h:YH (dT d) list l=true)(hl:l≠[]):Zc list ⟨k,0,l,Edit.nil⟩ d=true:=by
 rw [Zc,if_neg (by omega),if_neg (by omega),if_pos (by omega),Z38,h]
 have:=List.length_pos_iff.2 hl
 simp only [Bool.true_and,Bool.and_true,decide_eq_true_eq]
 omega
theorem ZnA{list d:Int}{e:Edit}(h:Z2 e d=true)(h0:e.kind≠0)(hl:7 < list)(hw:list=8∨e.kind=2∨e.kind=1∧e.old.kind=1∧e.new.kind=1):Zc list ⟨3,0,[],e⟩ d=true:=by
 rw [Zc,if_neg (by decide),if_neg (by decide),if_neg (by decide),h]
 simp only [List.length_nil,Bool.and_true,Bool.and_eq_true,decide_eq_true_eq]
 exact ⟨⟨trivial,h0,hl⟩,hw⟩
def Wl(list:Int)(e:Edit):Prop:=list=8∨e.kind=2∨e.kind=1∧e.old.kind=1∧e.new.kind=1
theorem Z0I(t:Tree):(Zd t).kind=t.kind:=Z2Q t
theorem ZfH{w m:Int}(h:∀ i,i < 8→Z0j m (i:Nat)=false→Zn w i=0):Yu w m=true:=by
 unfold Yu mix of8
 rw [decide_eq_true_eq]
 have z:∀ i,i < 8→Ji w 0 m i=0:=by
  intro i hi
  unfold Ji
  split
  ·exact ZzL i
  ·rename_i hn;exact h i hi (by simpa using hn)
 rw [z 0 (by omega),z 1 (by omega),z 2 (by omega),z 3 (by omega),z 4 (by omega),z 5 (by omega),z 6 (by omega),z 7 (by omega)]
 try rfl
theorem Zvp {a b:WEdit} (ra:Z39 a) (rb:Z39 b) (ha:a.at_≤65534∧a.mask≠0∧Yu a.old a.mask=true∧Yu a.new a.mask=true) (hb:Yu b.old b.mask=true∧Yu b.new b.mask=true)
  (hc:(JS a b).2=true):((JS a b).1.at_≤65534∧(JS a b).1.mask≠0∧Yu (JS a b).1.old (JS a b).1.mask=true∧Yu (JS a b).1.new (JS a b).1.mask=true)∧Z39 (JS a b).1:=by
 have hw:Zio a b=true:=by
  unfold JS at hc
  split at hc
  ·assumption
  ·cases hc
 have e:(JS a b).1=⟨a.at_,orM a.mask b.mask,mix b.old a.old a.mask,mix a.new b.new b.mask⟩:=by unfold JS;rw [if_pos hw]
 obtain ⟨m1,m2⟩:=ZAv ra.2.1 rb.2.1
 rw [e]
 dsimp only
 refine ⟨⟨ha.1,fun h=> ?_,ZfH fun i hi hn=> ?_,ZfH fun i hi hn=> ?_⟩,ra.1,m1,ZhO _ _ _,ZhO _ _ _⟩
 ·refine ha.2.1 ?_
  have z:∀ i:Nat,Z0j a.mask (i:Int)=false:=by
   intro i
   have:=m2 i
   rw [h] at this
   have z0:Z0j 0 (i:Int)=false:=by unfold Z0j;simp
   rw [z0] at this
   cases hn:Z0j a.mask (i:Int) with
   | false=> rfl
   | true=> rw [hn] at this;simp at this
  have h0:=z 0;have h1:=z 1;have h2:=z 2;have h3:=z 3;have h4:=z 4;have h5:=z 5;have h6:=z 6;have h7:=z 7
  have:=ra.2.1
  simp only [Z0j,decide_eq_false_iff_not,Int.toNat_natCast] at h0 h1 h2 h3 h4 h5 h6 h7
  omega
 ·rw [m2 i] at hn
  simp only [Bool.or_eq_false_iff] at hn
  rw [Ztx hi,if_neg (by rw [hn.1];decide)]
  exact Zbz hb.1 hi hn.2
 ·rw [m2 i] at hn
  simp only [Bool.or_eq_false_iff] at hn
  rw [Ztx hi,if_neg (by rw [hn.2];decide)]
  exact Zbz ha.2.2.2 hi hn.1
def Z8G{β:Type}(φ:β→Nat):List β→Nat
 | []=> 0
 | a ::r=> φ a+Z8G φ r
theorem Zgr{β:Type}{at_:β→Int}{one:β→β→β × Bool}(φ:β→Nat):∀ (k:Nat) (p q L:List β),p.length+q.length≤k→(∀ a∈p,∀ b∈q,(one a b).2=true→φ (one a b).1≤φ a+φ b)→Zt at_ one p q=some L→Z8G φ L≤Z8G φ p+Z8G φ q:=by
 intro k
 induction k with
 | zero=>
  intro p q L hk _ h
  have e1:p=[]:=List.eq_nil_of_length_eq_zero (by omega)
  have e2:q=[]:=List.eq_nil_of_length_eq_zero (by omega)
  subst e1 e2
  rw [Zt] at h
  cases h
  simp [Z8G]
 | succ k ih=>
  intro p q L hk ho h
  match p,q with
  | [],q=> rw [Zt] at h;cases h;simp [Z8G]
  | a ::p,[]=> rw [Zt] at h;cases h;simp [Z8G]
  | a ::p,b ::q=>
   simp only [List.length_cons] at hk
   rw [Zt] at h
   split at h
   ·obtain ⟨L',hL,rfl⟩:=Option.map_eq_some_iff.1 h
    have:=ih p (b ::q) L' (by simp only [List.length_cons];omega) (fun x hx y hy=> ho x (List.mem_cons_of_mem _ hx) y hy) hL
    simp only [Z8G] at this ⊢;omega
   ·split at h
    ·obtain ⟨L',hL,rfl⟩:=Option.map_eq_some_iff.1 h
     have:=ih (a ::p) q L' (by simp only [List.length_cons];omega) (fun x hx y hy=> ho x hx y (List.mem_cons_of_mem _ hy)) hL
     simp only [Z8G] at this ⊢;omega
    ·split at h
     ·rename_i hc
      obtain ⟨L',hL,rfl⟩:=Option.map_eq_some_iff.1 h
      have:=ih p q L' (by omega) (fun x hx y hy=> ho x (List.mem_cons_of_mem _ hx) y (List.mem_cons_of_mem _ hy)) hL
      have:=ho a List.mem_cons_self b List.mem_cons_self hc
      simp only [Z8G] at*;omega
     ·cases h
theorem ZcK:∀ l:List Kid,Z8G Z4P l=Z0L l
 | []=> rfl
 | k ::r=> by simp only [Z8G,Z0L,ZcK r]
theorem Z8F{β:Type}:∀ l:List β,Z8G (fun _=> 1) l=l.length
 | []=> rfl
 | k ::r=> by simp only [Z8G,List.length_cons,Z8F r];omega
theorem Zjo:∀ {l:List Kid},(∀ k∈l,isI k.at_∧YI k.e)→Z0q l
 | [],_=> trivial
 | ⟨a,e⟩ ::r,h=> ⟨h _ List.mem_cons_self,Zjo fun k hk=> h k (List.mem_cons_of_mem _ hk)⟩
theorem Zjn:∀ {l:List Op},(∀ o∈l,Yz o)→Z02 l
 | [],_=> trivial
 | o ::r,h=> ⟨h _ List.mem_cons_self,Zjn fun k hk=> h k (List.mem_cons_of_mem _ hk)⟩
structure ComWk (K:Prop) (c:Edit × Bool) (p q:Edit):Prop where
 wk:c.2=true→Wk c.1
 ct:K→c.2=true→ctE c.1+18≤ctE p+ctE q
 kind:p.kind≠0→q.kind≠0→c.2=true→c.1.kind≠0
 wl:∀ list,7 < list→list≤9→p.kind≠0→q.kind≠0→c.2=true→Wl list p→Wl list q→Wl list c.1
theorem Zil{e:Edit}{t:Tree}(h:(doB e t).2=true):∃ v,doE false e t=some v∧(doB e t).1=Zd v:=by
 unfold doB at h ⊢
 cases hv:doE false e t with
 | none=> rw [hv] at h;cases h
 | some v=> exact ⟨v,rfl,rfl⟩
theorem Z3J{t:Tree}{d:Int}(h:Ze t d=true):Ze (Zd t) d=true:=Z3K t d h
theorem Wk.turn{p:Edit}(h:Wk p):Wk (Zv (ZS p)):=⟨Jo _ _ (Z03 _ _ h.r),Z2L _ _ (Z03 _ _ h.r) (Z6V _ h.g)⟩
theorem Zcj{list:Int}(hl:2≤list∧list≤9){e:Edit}{t u:Tree}{d:Int}(hr:Z2 e d=true)(hd:doE false e t=some u)(h7:7 < list)(hw:Wl list e)(h0:e.kind≠0)(ht:Ze t (-1)=true):JR list u=true:=by
 obtain ⟨j1,j2,_,_⟩:=Zas hr hd
 unfold JR
 rw [if_neg (by omega)]
 by_cases hl9:list=9
 ·rw [if_pos hl9]
  refine decide_eq_true ?_
  rcases hw with q | q | q
  ·omega
  ·exact (j2 q).1
  ·rw [j1 q.1];exact q.2.2
 ·rw [if_neg hl9]
  exact decide_eq_true ((Z4L _ e d t u (Nat.le_refl _) hr ht hd).2 h0)
theorem ZeW{list:Int}(h7:7 < list){u:Tree}(h:JR list u=true):JR list (Zd u)=true:=by
 unfold JR at h ⊢
 rw [if_neg (by omega)] at h ⊢
 rw [Z0I]
 exact h
theorem ZxA {K:Prop} {f:Edit→Edit→Edit × Bool} {p q:Edit} (wp:Wk p) (wq:Wk q) (p3:p.kind=3) (hl:p.list=q.list)
  (ih:∀ a b,Z9 a+Z9 b < Z9 p+Z9 q→Wk a→Wk b→ComWk K (f a b) a b) {ps:List Piece} (e:(Yk 1 2 p.ops q.ops []).1=ps) (hb1:(Yk 1 2 p.ops q.ops []).2.1=true) {ops:List Op} (hc:Z1b f ps=some ops):
  (∀ o∈ops,Zc p.list o (-2)=true∧Yz o)∧ZH ops=ZH p.ops∧Yf ops=Yf q.ops∧(K→J7 ops≤J7 p.ops+J7 q.ops):=by
 have rp:=Zz wp.r
 have rq:=Zz wq.r
 have gp:=J9 wp.g
 have gq:=J9 wq.g
 have hli:=rp.list p3
 have op:=Z04 wp.r
 have oq:=Z04 wq.r
 have rpo:Zp p.list p.ops (-2)=true:=rp.ops
 have rqo:Zp p.list q.ops (-2)=true:=by rw [hl];exact rq.ops
 obtain ⟨i1,_⟩:=Zeo _ p.ops q.ops [] (Nat.le_refl _) op oq
 obtain ⟨ps0,e0,hps,_,_⟩:=i1 hb1
 obtain ⟨ps1,e1,sA,sB,hlen⟩:=Zen ZzP ZzO 1 _ p.ops q.ops [] (Nat.le_refl _) op oq hb1
 obtain ⟨ps2,e2,sC,sD,_⟩:=Zen ZzN ZzN 1 _ p.ops q.ops [] (Nat.le_refl _) op oq hb1
 rw [e,List.nil_append] at e0 e1 e2
 subst e0 e1 e2
 have side:∀ x∈ps,(x.of≠2→Zc p.list x.p (-2)=true∧Yz x.p)∧(x.of≠1→Zc p.list x.q (-2)=true∧Yz x.q):=by
  have one:∀ (l:List Op) (o:Op),(∀ o'∈l,Zc p.list o' (-2)=true)→Z02 l→Part l o→J4 o→Zc p.list o (-2)=true∧Yz o:=by
   intro l o hr hg ⟨o',m,k,e1,_,lt⟩ ho
   have R:=ZC (hr o' m)
   have G:=Z0w (Z0N hg m)
   obtain ⟨kk,nn,ll,ee⟩:=o
   have k:kk=o'.kind:=k
   have e1:ee=o'.e:=e1
   have lt:∀ t∈ll,t∈o'.l:=lt
   have gl:Yq ll:=Z9e fun t ht=> JI G.2.2.1 (lt t ht)
   cases R with
   | keep n1 a1 a2=>
    have k:kk=0:=k
    have e1:ee=Edit.nil:=e1
    subst k e1
    rcases ho with h | h | h
    ·have hl:ll=[]:=h.2.1
     subst hl
     have h3:1≤nn∧nn≤1048576:=h.2.2.1
     exact ⟨Zwn h3.1 h3.2 _,JU (by decide) (by decide),by unfold isI;omega,trivial,G.2.2.2⟩
    ·have:=h.1;omega
    ·have:=h.1;omega
   | gone l1 a1 a2=>
    have k:kk=1:=k
    have e1:ee=Edit.nil:=e1
    subst k e1
    rcases ho with h | h | h
    ·have:=h.1;omega
    ·have hn:nn=0:=h.2.1
     subst hn
     exact ⟨Z9t (.inl rfl) (Z4i fun t ht=> Z3y a1 t (lt t ht)) h.2.2.1,JU (by decide) (by decide),JU (by decide) (by decide),gl,G.2.2.2⟩
    ·have:=h.1;omega
   | come l1 a1 a2=>
    have k:kk=2:=k
    have e1:ee=Edit.nil:=e1
    subst k e1
    rcases ho with h | h | h
    ·have:=h.1;omega
    ·have hn:nn=0:=h.2.1
     subst hn
     exact ⟨Z9t (.inr rfl) (Z4i fun t ht=> Z3y a1 t (lt t ht)) h.2.2.1,JU (by decide) (by decide),JU (by decide) (by decide),gl,G.2.2.2⟩
    ·have:=h.1;omega
   | into e2 a1 a2 a3 a4=>
    have k:kk=3:=k
    have e1:ee=e2:=e1
    subst k e1
    rcases ho with h | h | h
    ·have:=h.1;omega
    ·have:=h.1;omega
    ·have hn:nn=0:=h.2.1
     have hl:ll=[]:=h.2.2
     subst hn hl
     exact ⟨ZnA a1 a2 a3 a4,JU (by decide) (by decide),JU (by decide) (by decide),trivial,G.2.2.2⟩
  intro x hx
  have X:=hps x hx
  exact ⟨fun h=> one p.ops x.p (fun o ho=> rightOs_mem rpo ho) gp.2.2.2.2 (X.pp h).1 (X.pp h).2,fun h=> one q.ops x.q (fun o ho=> rightOs_mem rqo ho) gq.2.2.2.2 (X.qq h).1 (X.qq h).2⟩
 have one:∀ x∈ps,(Jl f x).ok=true→((Jl f x).is=true→Zc p.list (Jl f x).op (-2)=true∧Yz (Jl f x).op)∧
   (φA (Jl f x).op*(if (Jl f x).is then 1 else 0)=(if x.of=2 then 0 else φA x.p))∧(φB (Jl f x).op*(if (Jl f x).is then 1 else 0)=(if x.of=1 then 0 else φB x.q))∧
   (K→(Jl f x).is=true→φC (Jl f x).op≤(if x.of=2 then 0 else φC x.p)+(if x.of=1 then 0 else φC x.q)):=by
  intro x hx hok
  have X:=hps x hx
  obtain ⟨s1,s2⟩:=side x hx
  have cnn:∀ o:Op,0≤φC o:=fun o=> by unfold φC;have:=Zbs o.e;omega
  unfold Jl at hok ⊢
  by_cases c1:x.of=1∨(x.of=0∧x.q.kind=0)
  ·rw [if_pos c1] at hok ⊢
   dsimp only
   have h2:x.of≠2:=by omega
   rw [if_pos rfl,if_neg h2,if_neg h2]
   refine ⟨fun _=> s1 h2,by omega,?_,fun _ _=> ?_⟩
   ·rcases c1 with c | ⟨c,c'⟩
    ·rw [if_pos c];unfold φB;rw [if_pos (X.one c)];try rfl
    ·rw [if_neg (by omega)]
     obtain ⟨b1,b2,b3⟩:=X.both c
     unfold φB
     rw [if_neg b1,if_neg (by omega),b3];omega
   ·have:=cnn x.q
    split <;> omega
  rw [if_neg c1] at hok ⊢
  by_cases c2:x.of=2∨x.p.kind=0
  ·rw [if_pos c2] at hok ⊢
   dsimp only
   have h2:x.of≠1:=by omega
   rw [if_pos rfl,if_neg h2,if_neg h2]
   refine ⟨fun _=> s2 h2,?_,by omega,fun _ _=> ?_⟩
   ·by_cases c:x.of=2
    ·rw [if_pos c];unfold φA;rw [if_pos (X.two c)];try rfl
    ·rw [if_neg c]
     have c0:x.of=0:=by rcases X.of with h | h | h <;> omega
     obtain ⟨b1,b2,b3⟩:=X.both c0
     unfold φA
     rw [if_neg b2,if_neg (by omega),b3];omega
   ·have:=cnn x.p
    split <;> omega
  rw [if_neg c2] at hok ⊢
  have c0:x.of=0:=by rcases X.of with h | h | h <;> omega
  obtain ⟨b1,b2,b3⟩:=X.both c0
  have h1:x.of≠1:=by omega
  have h2:x.of≠2:=by omega
  obtain ⟨u1,u2⟩:=s1 h2
  obtain ⟨v1,v2⟩:=s2 h1
  have ok1:=(X.pp h2).2
  have ok2:=(X.qq h1).2
  have kp:x.p.kind=2∨x.p.kind=3:=by rcases Z1p ok1 with k | k | k | k <;> omega
  have kq:x.q.kind=1∨x.q.kind=3:=by rcases Z1p ok2 with k | k | k | k <;> omega
  rw [if_neg h2,if_neg h2,if_neg h1,if_neg h1]
  by_cases c3:x.p.kind=2∧x.q.kind=1
  ·rw [if_pos c3] at hok ⊢
   dsimp only
   refine ⟨fun h=> (by cases h),?_,?_,fun _ h=> by cases h⟩
   ·unfold φA;rw [if_pos c3.1];try rfl
   ·unfold φB;rw [if_pos c3.2];try rfl
  rw [if_neg c3] at hok ⊢
  have one3:∀ o:Op,o.kind=3→Zc p.list o (-2)=true→Yz o→(7 < p.list∧o.e.kind≠0∧Wl p.list o.e∧Wk o.e)∧o.l=[]:=by
   intro o k hr hg
   have R:=ZC hr
   cases R with
   | keep | gone | come=> exact absurd k (by simp)
   | into e a1 a2 a3 a4=> exact ⟨⟨a3,a2,a4,⟨Z05 _ _ _ (by decide) a1,(Z0w hg).2.2.2⟩⟩,rfl⟩
  have one12:∀ o:Op,(o.kind=1∨o.kind=2)→Z3 o=1→J4 o→Zc p.list o (-2)=true→Yz o→∃ t,o.l=[t]∧JR p.list t=true∧Ze t (-1)=true∧rng t∧o.e=Edit.nil:=by
   intro o k h1 ho hr hg
   have hlen:=Yr ho k
   have hl1:o.l.length=1:=by omega
   obtain ⟨t,ht⟩:∃ t,o.l=[t]:=by
    match h:o.l,hl1 with
    | [t],_=> exact ⟨t,rfl⟩
   have R:=ZC hr
   have gt:=(Z0w hg).2.2.1
   rw [ht] at gt
   refine ⟨t,ht,?_⟩
   cases R with
   | keep=> exact absurd k (by simp)
   | into=> exact absurd k (by simp)
   | gone l a1 a2=> exact ⟨(Z0p hli a1 t (by have ht:l=[t]:=ht;rw [ht];simp)).1,(Z0p hli a1 t (by have ht:l=[t]:=ht;rw [ht];simp)).2,gt.1,rfl⟩
   | come l a1 a2=> exact ⟨(Z0p hli a1 t (by have ht:l=[t]:=ht;rw [ht];simp)).1,(Z0p hli a1 t (by have ht:l=[t]:=ht;rw [ht];simp)).2,gt.1,rfl⟩
  by_cases c4:x.p.kind=2
  ·rw [if_pos c4] at hok ⊢
   have q3':x.q.kind=3:=by omega
   have hl1:Z3 x.q=1:=Z11 q3'
   obtain ⟨t,ht,t1,t2,t3,t4⟩:=one12 x.p (.inr c4) (by omega) ok1 u1 u2
   obtain ⟨⟨e1,e2,e3,e4⟩,e5⟩:=one3 x.q q3' v1 v2
   dsimp only at hok ⊢
   rw [ht,List.getD_cons_zero] at hok ⊢
   obtain ⟨v,hv,ev⟩:=Zil hok
   rw [if_pos rfl,ev]
   have kv:=Zcj hli e4.r hv e1 e3 e2 t2
   have rv:=(Z4L _ _ _ t v (Nat.le_refl _) e4.r t2 hv).1
   refine ⟨fun _=> ⟨Z9t (.inr rfl) ?_ (by simp),JU (by decide) (by decide),JU (by decide) (by decide),⟨Z0X _ (ZaJ false _ _ v e4.g t3 hv),trivial⟩,?_⟩,?_,?_,fun _ _=> ?_⟩
   ·rw [Zf6 (by decide)]
    exact Z4i fun y hy=> by rw [List.mem_singleton.1 hy];exact Zg5 hli (ZeW e1 kv) (Z3J rv)
   ·rw [←t4];exact (Z0w u2).2.2.2
   ·unfold φA;rw [if_pos c4];try rfl
   ·show (if (2:Int)=1 then (0:Int) else Z3 _)*1=(if x.q.kind=1 then 0 else Z3 x.q)
    rw [if_neg (by decide),if_neg (by omega),hl1];simp [Z3]
   ·unfold φC
    dsimp only
    rw [ht,t4,e5]
    have:=Z9I false _ _ _ v e4.r hv
    have:=Ja v
    simp only [Zh,Z6B]
    omega
  rw [if_neg c4] at hok ⊢
  have p3':x.p.kind=3:=by omega
  have hl0:Z3 x.p=1:=Z11 p3'
  obtain ⟨⟨e1,e2,e3,e4⟩,e5⟩:=one3 x.p p3' u1 u2
  by_cases c5:x.q.kind=1
  ·rw [if_pos c5] at hok ⊢
   obtain ⟨t,ht,t1,t2,t3,t4⟩:=one12 x.q (.inl c5) (by omega) ok2 v1 v2
   dsimp only at hok ⊢
   rw [ht,List.getD_cons_zero] at hok ⊢
   obtain ⟨v,hv,ev⟩:=Zil hok
   have wt:=e4.turn
   have kt:(Zv (ZS x.p.e)).kind=x.p.e.kind:=by rw [Z77,Z1k]
   have wlt:Wl p.list (Zv (ZS x.p.e)):=by
    rcases e3 with h | h | h
    ·exact .inl h
    ·exact .inr (.inl (by omega))
    ·refine .inr (.inr ⟨by omega,?_,?_⟩)
     ·rw [(Z9v (ZS x.p.e) (by rw [Z1k];exact h.1)).1,Z0I,ZfJ];exact h.2.2
     ·rw [(Z9v (ZS x.p.e) (by rw [Z1k];exact h.1)).2,Z0I,ZfK];exact h.2.1
   rw [if_pos rfl,ev]
   have kv:=Zcj hli wt.r hv e1 wlt (by omega) t2
   have rv:=(Z4L _ _ _ t v (Nat.le_refl _) wt.r t2 hv).1
   refine ⟨fun _=> ⟨Z9t (.inl rfl) ?_ (by simp),JU (by decide) (by decide),JU (by decide) (by decide),⟨Z0X _ (ZaJ false _ _ v wt.g t3 hv),trivial⟩,?_⟩,?_,?_,fun _ _=> ?_⟩
   ·rw [Zf6 (by decide)]
    exact Z4i fun y hy=> by rw [List.mem_singleton.1 hy];exact Zg5 hli (ZeW e1 kv) (Z3J rv)
   ·rw [←t4];exact (Z0w v2).2.2.2
   ·show (if (1:Int)=2 then (0:Int) else Z3 _)*1=(if x.p.kind=2 then 0 else Z3 x.p)
    rw [if_neg (by decide),if_neg (by omega),hl0];simp [Z3]
   ·unfold φB;rw [if_pos c5];try rfl
   ·unfold φC
    dsimp only
    rw [ht,t4,e5]
    have:=Z9I false _ _ _ v wt.r hv
    have:=Ja v
    have:=Zbr (ZS x.p.e)
    rw [Zau] at this
    simp only [Zh,Z6B]
    omega
  rw [if_neg c5] at hok ⊢
  have q3':x.q.kind=3:=by omega
  have hl1:Z3 x.q=1:=Z11 q3'
  obtain ⟨⟨f1,f2,f3,f4⟩,f5⟩:=one3 x.q q3' v1 v2
  dsimp only at hok ⊢
  rw [if_pos rfl]
  obtain ⟨o1,m1,_,k1,_⟩:=(X.pp h2).1
  obtain ⟨o2,m2,_,k2,_⟩:=(X.qq h1).1
  have:=Jw m1
  have:=Jw m2
  have H:=ih x.p.e x.q.e (by rw [k1,k2];omega) e4 f4
  refine ⟨fun _=> ⟨ZnA (Z05 _ _ _ (by decide) (H.wk hok).r) (H.kind e2 f2 hok) e1 (H.wl p.list e1 hli.2 e2 f2 hok e3 f3),JU (by decide) (by decide),JU (by decide) (by decide),trivial,(H.wk hok).g⟩,?_,?_,fun hK _=> ?_⟩
  ·show (if (3:Int)=2 then (0:Int) else Z3 _)*1=(if x.p.kind=2 then 0 else Z3 x.p)
   rw [if_neg (by decide),if_neg (by omega),hl0];simp [Z3]
  ·show (if (3:Int)=1 then (0:Int) else Z3 _)*1=(if x.q.kind=1 then 0 else Z3 x.q)
   rw [if_neg (by decide),if_neg (by omega),hl1];simp [Z3]
  ·unfold φC
   dsimp only
   rw [e5,f5]
   have:=H.ct hK hok
   simp only [Zh]
   omega
 have all:∀ (ps:List Piece) (ops:List Op),(∀ x∈ps,(Jl f x).ok=true→((Jl f x).is=true→Zc p.list (Jl f x).op (-2)=true∧Yz (Jl f x).op)∧
   (φA (Jl f x).op*(if (Jl f x).is then 1 else 0)=(if x.of=2 then 0 else φA x.p))∧(φB (Jl f x).op*(if (Jl f x).is then 1 else 0)=(if x.of=1 then 0 else φB x.q))∧
   (K→(Jl f x).is=true→φC (Jl f x).op≤(if x.of=2 then 0 else φC x.p)+(if x.of=1 then 0 else φC x.q)))→Z1b f ps=some ops→
   (∀ o∈ops,Zc p.list o (-2)=true∧Yz o)∧JQ φA ops=JQ φA (Z5D ps)∧JQ φB ops=JQ φB (Z5C ps)∧(K→JQ φC ops≤JQ φC (Z5D ps)+JQ φC (Z5C ps))∧ops.length≤ps.length:=by
  intro ps
  induction ps with
  | nil=> intro ops _ h;cases h;exact ⟨fun o ho=> (by cases ho),rfl,rfl,fun _=> (by simp [Z5D,Z5C,JQ]),by simp⟩
  | cons x r ihp=>
   intro ops hx h
   rw [Z1b] at h
   split at h
   ·rename_i hok
    obtain ⟨l,hl',rfl⟩:=Option.map_eq_some_iff.1 h
    obtain ⟨j1,j2,j3,j4,j5⟩:=ihp l (fun y hy=> hx y (List.mem_cons_of_mem _ hy)) hl'
    obtain ⟨k1,k2,k3,k4⟩:=hx x List.mem_cons_self hok
    have cnn:∀ o:Op,0≤φC o:=fun o=> by unfold φC;have:=Zbs o.e;omega
    have c1:=cnn x.p
    have c2:=cnn x.q
    have hsP:∀ φ:Op→Int,JQ φ (Z5D (x ::r))=(if x.of=2 then 0 else φ x.p)+JQ φ (Z5D r):=fun φ=> by
     simp only [Z5D]
     split <;> simp [JQ]
    have hsQ:∀ φ:Op→Int,JQ φ (Z5C (x ::r))=(if x.of=1 then 0 else φ x.q)+JQ φ (Z5C r):=fun φ=> by
     simp only [Z5C]
     split <;> simp [JQ]
    rw [hsP,hsQ,hsP,hsQ]
    by_cases his:(Jl f x).is=true
    ·rw [if_pos his] at k2 k3
     rw [if_pos his]
     have k4:=fun hK=> k4 hK his
     simp only [List.cons_append,List.nil_append,JQ,List.length_cons]
     refine ⟨fun o ho=> ?_,by omega,by omega,fun hK=> (by have:=k4 hK;have:=j4 hK;omega),by omega⟩
     rcases List.mem_cons.1 ho with rfl | ho
     ·exact k1 his
     ·exact j1 o ho
    ·rw [if_neg his] at k2 k3
     rw [if_neg his]
     simp only [List.nil_append,List.length_cons]
     refine ⟨j1,by omega,by omega,fun hK=> ?_,by omega⟩
     have:=j4 hK
     have:0≤(if x.of=2 then 0 else φC x.p)+(if x.of=1 then 0 else φC x.q):=by split <;> split <;> omega
     omega
   ·cases h
 obtain ⟨j1,j2,j3,j4,j5⟩:=all ps ops one hc
 rw [Zl5] at j2
 rw [Zl4] at j3
 rw [sA,Zl5] at j2
 rw [sB,Zl4] at j3
 have x1:=Zh2 ops
 have x2:=Zh2 p.ops
 have x3:=Zh2 q.ops
 exact ⟨j1,j2,j3,fun hK=> (by have:=j4 hK;omega)⟩
theorem Zw8 {K:Prop} {f:Edit→Edit→Edit × Bool} {p q:Edit} (wp:Wk p) (wq:Wk q)
  (ih:∀ a b,Z9 a+Z9 b < Z9 p+Z9 q→Wk a→Wk b→ComWk K (f a b) a b):ComWk K (JW f p q) p q:=by
 have rp:=Zz wp.r
 have rq:=Zz wq.r
 have gp:=J9 wp.g
 have gq:=J9 wq.g
 have cp:=Zbs p
 have cq:=Zbs q
 have ap:=Z5w p
 have aq:=Z5w q
 unfold JW
 by_cases p0:p.kind=0
 ·rw [if_pos p0]
  exact ⟨fun _=> wq,fun _ _=> by dsimp only;omega,fun h=> absurd p0 h,fun _ _ _ h=> absurd p0 h⟩
 rw [if_neg p0]
 by_cases q0:q.kind=0
 ·rw [if_pos q0]
  exact ⟨fun _=> wp,fun _ _=> by dsimp only;omega,fun _ h=> absurd q0 h,fun _ _ _ _ h=> absurd q0 h⟩
 rw [if_neg q0]
 by_cases p1:p.kind=1
 ·rw [if_pos p1]
  obtain ⟨r1,r2,r3,r4⟩:=rp.rep p1
  have key:(doB q p.new).2=true→(Ze (doB q p.new).1 (-1)=true∧(doB q p.new).1.kind≠10)∧rng (doB q p.new).1∧Zu (doB q p.new).1+18≤Zu p.new+ctE q∧∀ list,7 < list→list≤9→p.new.kind=1→list=9→Wl list q→(doB q p.new).1.kind=1:=by
   intro hb
   obtain ⟨v,hv,e⟩:=Zil hb
   rw [e]
   obtain ⟨x1,x2⟩:=Z4L _ q _ p.new v (Nat.le_refl _) wq.r r2 hv
   refine ⟨⟨Z3J x1,by rw [Z0I];exact x2 q0⟩,Z0X _ (ZaJ false q _ v wq.g gp.2.1 hv),?_,fun list h7 h9 hk h9' hw=> ?_⟩
   ·have:=Z9I false q _ _ v wq.r hv
    have:=Ja v
    omega
   ·rw [Z0I]
    obtain ⟨j1,j2,_,_⟩:=Zas wq.r hv
    rcases hw with h | h | h
    ·omega
    ·exact (j2 h).1
    ·rw [j1 h.1];exact h.2.2
  refine ⟨fun hb=> ?_,fun _ hb=> ?_,fun _ _ _=> (show (1:Int)≠0 by decide),fun list h7 h9 _ _ hb hp hq=> ?_⟩
  ·obtain ⟨⟨k1,k2⟩,k3,_,_⟩:=key hb
   exact ⟨Zg6 r1 k1 r3 k2,JU (by decide) (by decide),gp.1,k3,by simp,JU (by decide) (by decide),trivial,trivial⟩
  ·obtain ⟨_,_,k4,_⟩:=key hb
   rw [ZoO]
   omega
  ·by_cases h8:list=8
   ·exact .inl h8
   ·have hp':p.kind=1∧p.old.kind=1∧p.new.kind=1:=by
     rcases hp with h | h | h
     ·exact absurd h h8
     ·omega
     ·exact h
    exact .inr (.inr ⟨rfl,hp'.2.1,(key hb).2.2.2 list h7 h9 hp'.2.2 (by omega) hq⟩)
 rw [if_neg p1]
 by_cases q1:q.kind=1
 ·rw [if_pos q1]
  obtain ⟨r1,r2,r3,r4⟩:=rq.rep q1
  have wt:=wp.turn
  have kt:(Zv (ZS p)).kind=p.kind:=by rw [Z77,Z1k]
  have key:(doB (Zv (ZS p)) q.old).2=true→(Ze (doB (Zv (ZS p)) q.old).1 (-1)=true∧(doB (Zv (ZS p)) q.old).1.kind≠10)∧rng (doB (Zv (ZS p)) q.old).1∧Zu (doB (Zv (ZS p)) q.old).1+18≤Zu q.old+ctE p∧(p.kind=2→(doB (Zv (ZS p)) q.old).1.kind=1):=by
   intro hb
   obtain ⟨v,hv,e⟩:=Zil hb
   rw [e]
   obtain ⟨x1,x2⟩:=Z4L _ _ _ q.old v (Nat.le_refl _) wt.r r1 hv
   refine ⟨⟨Z3J x1,by rw [Z0I];exact x2 (by omega)⟩,Z0X _ (ZaJ false _ _ v wt.g gq.1 hv),?_,fun hk=> ?_⟩
   ·have:=Z9I false _ _ _ v wt.r hv
    have:=Ja v
    have:=Zbr (ZS p)
    rw [Zau] at this
    omega
   ·rw [Z0I]
    exact ((Zas wt.r hv).2.1 (by omega)).1
  refine ⟨fun hb=> ?_,fun _ hb=> ?_,fun _ _ _=> (show (1:Int)≠0 by decide),fun list h7 h9 _ _ hb hp hq=> ?_⟩
  ·obtain ⟨⟨k1,k2⟩,k3,_,_⟩:=key hb
   exact ⟨Zg6 k1 r2 k2 r4,JU (by decide) (by decide),k3,gq.2.1,by simp,JU (by decide) (by decide),trivial,trivial⟩
  ·obtain ⟨_,_,k4,_⟩:=key hb
   rw [ZoO]
   omega
  ·by_cases h8:list=8
   ·exact .inl h8
   ·have hq':q.kind=1∧q.old.kind=1∧q.new.kind=1:=by
     rcases hq with h | h | h
     ·exact absurd h h8
     ·omega
     ·exact h
    refine .inr (.inr ⟨rfl,(key hb).2.2.2 ?_,hq'.2.2⟩)
    rcases hp with h | h | h
    ·exact absurd h h8
    ·exact h
    ·exact absurd h.1 p1
 rw [if_neg q1]
 by_cases hd:p.kind≠q.kind∨p.list≠q.list
 ·rw [if_pos hd]
  exact ⟨fun h=> (by cases h),fun _ h=> (by cases h),fun _ _ h=> (by cases h),fun _ _ _ _ _ h=> (by cases h)⟩
 rw [if_neg hd]
 by_cases p2:p.kind=2
 ·rw [if_pos p2]
  have q2:q.kind=2:=by omega
  have awp:=JX rp.words
  have awq:=JX rq.words
  have akp:=Y1 rp.kids
  have akq:=Y1 rq.kids
  have hwat:∀ a b:WEdit,a.at_=b.at_→(JS a b).2=true→(JS a b).1.at_=a.at_:=fun a b _ h=> ZxQ a b h
  have hkat:∀ a b:Kid,a.at_=b.at_→(Z24 f a b).2=true→(Z24 f a b).1.at_=a.at_:=fun a b _ _=> rfl
  have hk:∀ a∈p.kids,∀ b∈q.kids,ComWk K (f a.e b.e) a.e b.e:=by
   intro a ha b hb
   have:=J6 ha
   have:=J6 hb
   exact ih a.e b.e (by omega) (.of (akp a ha).2 (Ju gp.2.2.2.1 ha).2) (.of (akq b hb).2 (Ju gq.2.2.2.1 hb).2)
  cases hL:Zt WEdit.at_ JS p.words q.words with
  | none=> exact ⟨fun h=> (by cases h),fun _ h=> (by cases h),fun _ _ h=> (by cases h),fun _ _ _ _ _ h=> (by cases h)⟩
  | some L=>
   rw [if_pos (show (some L).isSome=true from rfl)]
   cases hM:Zt KidOf.at_ (Z24 f) p.kids q.kids with
   | none=> exact ⟨fun h=> (by cases h),fun _ h=> (by cases h),fun _ _ h=> (by cases h),fun _ _ _ _ _ h=> (by cases h)⟩
   | some M=>
    have S:=(ZeD hwat _ p.words q.words (-1) (Nat.le_refl _) (ZaA rp.words) (ZaA rq.words)).2 L hL
    have T:=(ZeD hkat _ p.kids q.kids (-1) (Nat.le_refl _) (ZeV rp.kids) (ZeV rq.kids)).2 M hM
    have hw:∀ w∈L,(w.at_≤65534∧w.mask≠0∧Yu w.old w.mask=true∧Yu w.new w.mask=true)∧Z39 w:=by
     intro w hw
     rcases S.of w hw with ⟨h,_⟩ | ⟨h,_⟩ | ⟨a,ha,b,hb,_,hc,rfl⟩
     ·exact ⟨(awp w h).2,gp.2.2.1 w h⟩
     ·exact ⟨(awq w h).2,gq.2.2.1 w h⟩
     ·exact Zvp (gp.2.2.1 a ha) (gq.2.2.1 b hb) (awp a ha).2 (awq b hb).2.2.2 hc
    have hm:∀ k∈M,(k.at_≤65534∧k.e.kind≠0∧Z2 k.e (-2)=true)∧isI k.at_∧YI k.e:=by
     intro k hk'
     rcases T.of k hk' with ⟨h,_⟩ | ⟨h,_⟩ | ⟨a,ha,b,hb,_,hc,rfl⟩
     ·exact ⟨⟨(akp k h).1.2.1,(akp k h).1.2.2,Z05 _ _ _ (by decide) (akp k h).2⟩,Ju gp.2.2.2.1 h⟩
     ·exact ⟨⟨(akq k h).1.2.1,(akq k h).1.2.2,Z05 _ _ _ (by decide) (akq k h).2⟩,Ju gq.2.2.2.1 h⟩
     ·have H:=hk a ha b hb
      have hc:(f a.e b.e).2=true:=hc
      exact ⟨⟨(akp a ha).1.2.1,H.kind (akp a ha).1.2.2 (akq b hb).1.2.2 hc,Z05 _ _ _ (by decide) (H.wk hc).r⟩,(Ju gp.2.2.2.1 ha).1,(H.wk hc).g⟩
    refine ⟨fun _=> ⟨Zqa (Zd6 S.asc_ fun w h=> (hw w h).1) (ZdQ T.asc_ fun k h=> (hm k h).1),?_⟩,fun hK _=> ?_,fun _ _ _=> (show (2:Int)≠0 by decide),fun _ _ _ _ _ _ _ _=> .inr (.inl rfl)⟩
    ·exact ⟨JU (by decide) (by decide),Z0M,Z0M,fun w h=> (hw w h).2,JU (by decide) (by decide),Zjo fun k h=> (hm k h).2,trivial⟩
    ·have c1:=Zgr (fun _=> 1) _ _ _ _ (Nat.le_refl _) (fun a _ b _ _=> by omega) hL
     have c2:=Zgr Z4P _ _ _ _ (Nat.le_refl _) (fun a ha b hb hc=> by
      have H:=hk a ha b hb
      have hc:(f a.e b.e).2=true:=hc
      have:=H.ct hK hc
      rw [Z4O,Z4O,Z4O]
      show 65600+ctE (f a.e b.e).1≤_
      omega) hM
     rw [Z8F,Z8F,Z8F] at c1
     rw [ZcK,ZcK,ZcK] at c2
     have mo:=YA p.old;have mn:=YA p.new;have mo':=YA q.old;have mn':=YA q.new
     simp only [ctE,J7,ofO,Option.getD_some,Z0Q]
     omega
 ·rw [if_neg p2]
  have p3:p.kind=3:=by have:=rp.kind;omega
  have q3:q.kind=3:=by omega
  have hl:p.list=q.list:=by omega
  have hli:=rp.list p3
  have op:=Z04 wp.r
  have oq:=Z04 wq.r
  unfold Z2g
  by_cases hb1:(Yk 1 2 p.ops q.ops []).2.1=true
  ·rw [if_pos hb1]
   cases hc:Z1b f (Yk 1 2 p.ops q.ops []).1 with
   | none=> exact ⟨fun h=> (by cases h),fun _ h=> (by cases h),fun _ _ h=> (by cases h),fun _ _ _ _ _ h=> (by cases h)⟩
   | some ops=>
    obtain ⟨j1,j2,j3,j4⟩:=ZxA wp wq p3 hl ih rfl hb1 hc
    have ook:∀ o∈ops,0≤Z3 o:=fun o ho=> Z10 (Y9 (j1 o ho).1)
    have lA:=Yl ops 0 ook (by decide) (by decide)
    have lB:=YW ops 0 ook (by decide) (by decide)
    have mA:=Yl p.ops 0 (fun o ho=> Z10 (op o ho)) (by decide) (by decide)
    have mB:=YW q.ops 0 (fun o ho=> Z10 (oq o ho)) (by decide) (by decide)
    have t1:=rp.len.1
    have t2:=rq.len.2
    refine ⟨fun _=> ⟨?_,?_⟩,fun hK _=> ?_,fun _ _ _=> (show (3:Int)≠0 by decide),fun list h7 h9 _ _ _ hp' hq'=> ?_⟩
    ·refine Zq9 hli (ZdP fun o ho=> (j1 o ho).1) ?_ ?_
     ·rw [show ofO (some ops)=ops from rfl];omega
     ·rw [show ofO (some ops)=ops from rfl];omega
    ·refine ⟨JU (by decide) (by decide),Z0M,Z0M,by simp,?_,trivial,Zjn fun o ho=> (j1 o ho).2⟩
     unfold isI;omega
    ·have j4:=j4 hK;have mo:=YA p.old;have mn:=YA p.new;have mo':=YA q.old;have mn':=YA q.new
     simp only [ctE,Z0L,ofO,Option.getD_some,Z0Q,List.length_nil]
     omega
    ·rcases hp' with h | h | h
     ·exact .inl h
     ·omega
     ·omega
  ·rw [if_neg hb1]
   exact ⟨fun h=> (by cases h),fun _ h=> (by cases h),fun _ _ h=> (by cases h),fun _ _ _ _ _ h=> (by cases h)⟩
theorem ZBr:∀ (n:Nat) (p q:Edit),Z9 p+Z9 q≤n→Wk p→Wk q→ComWk True (ZfA n p q) p q:=by
 intro n
 induction n with
 | zero=> intro p q h;obtain ⟨k,o,nw,w,ks,l,os⟩:=p;simp only [Z9] at h;omega
 | succ n ih=>
  intro p q hn wp wq
  exact Zw8 wp wq fun a b hab wa wb=> ih a b (by omega) wa wb
end Go.AM.YtpjenobkibfpcaaGreat
namespace Go.AM.YtpjenobkibfpcaaGreat
open Go.AM Go.Proofs
theorem Z8q:Z9 Edit.nil=3:=rfl
theorem ZnH(e:Edit):3≤Z9 e:=by
 obtain ⟨k,o,n,w,ks,l,os⟩:=e
 have:=YA o
 have:=YA n
 simp only [Z9];omega
theorem Zqp:Z2 Edit.nil 1=true:=rfl
end Go.AM.YtpjenobkibfpcaaGreat
namespace Go.AM.YtpjenobkibfpcaaGreat
open Go.AM Go.Proofs
mutual
def utE:Edit→Nat
 | .mk _ o n w ks _ os=> 16+Zu o+Zu n+65600*w.length+Zs4 ks+ZpR os
def Zs4:List (KidOf Edit)→Nat
 | []=> 0
 | k ::r=> Zzh k+Zs4 r
def Zzh:KidOf Edit→Nat
 | ⟨_,e⟩=> 65600+utE e
def ZpR:List (OpOf Edit)→Nat
 | []=> 0
 | o ::r=> Zw7 o+ZpR r
def Zw7:OpOf Edit→Nat
 | ⟨k,n,l,e⟩=> if k=3 then 16+utE e else 34*(n.toNat+l.length)+Zh l
end
theorem ZAh(e:Edit):utE e=16+Zu e.old+Zu e.new+65600*e.words.length+Zs4 e.kids+ZpR e.ops:=by cases e;rfl
theorem Zs5(k:Kid):Zzh k=65600+utE k.e:=by cases k;rfl
theorem Zw6(o:Op):Zw7 o=if o.kind=3 then 16+utE o.e else 34*(o.n.toNat+o.l.length)+Zh o.l:=by cases o;rfl
theorem Zs3:∀ (n:Nat) (e:Edit),Z9 e≤n→(∃ d,Z2 e d=true)→YL e=true→utE e+131100≤65600*Z9 e+150000*Z9 e:=by
 intro n
 induction n with
 | zero=> intro e h;have:=ZnH e;omega
 | succ n ih=>
  intro e hn ⟨d,hr⟩ hl
  have R:=Zz hr
  have hm:=ZnH e
  have me:Z9 e=1+Zu e.old+Zu e.new+e.words.length+e.ops.length+Zq e.kids+Zg e.ops:=by cases e;rfl
  have mo:=YA e.old
  have mn:=YA e.new
  rw [Z2P,Bool.and_eq_true,Bool.and_eq_true,decide_eq_true_eq] at hl
  obtain ⟨⟨l1,l2⟩,l3⟩:=hl
  have hk:∀ l:List Kid,(∀ k∈l,k∈e.kids)→JF l=true→Zs4 l≤215600*Zq l:=by
   intro l
   induction l with
   | nil=> intro _ _;exact Nat.le_refl _
   | cons a r ihl=>
    intro h hl
    simp only [JF,Bool.and_eq_true,Zcg] at hl
    have ha:=h a List.mem_cons_self
    have:=J6 ha
    have:=ih a.e (by omega) ⟨_,(Y1 R.kids a ha).2⟩ hl.1
    have:=ihl (fun k hk=> h k (List.mem_cons_of_mem _ hk)) hl.2
    simp only [Zs4,Zq,Zs5,Z4u];omega
  have ook:=Z04 hr
  have ho:∀ l:List Op,(∀ o∈l,o∈e.ops)→Y5 l=true→(ZpR l:Int)≤215600*Zg l+34*Z4e l+16*l.length:=by
   intro l
   induction l with
   | nil=> intro _ _;simp [ZpR,Zg,Z4e]
   | cons a r ihl=>
    intro h hl
    simp only [Y5,Bool.and_eq_true,ZeR] at hl
    have ha:=h a List.mem_cons_self
    have:=ihl (fun k hk=> h k (List.mem_cons_of_mem _ hk)) hl.2
    have hr:=rightOs_mem R.ops ha
    have key:(Zw7 a:Int)≤215600*Zw a+34*Z3 a+16:=by
     have me:=Jw ha
     have ml:=ZA a.l
     rw [Zw6,ZN]
     have rt:=ZC hr
     have hp:=YV a
     cases rt with
     | keep n h1 h2=> rw [if_neg (show ¬(0:Int)=3 by decide)];rw [if_neg (show ¬(0:Int)=3 by decide)] at hp;simp only [Zh,List.length_nil,Z8q] at*;omega
     | gone l h1 h2=> rw [if_neg (show ¬(1:Int)=3 by decide)];rw [if_neg (show ¬(1:Int)=3 by decide)] at hp;dsimp only at*;simp only [Z8q] at*;omega
     | come l h1 h2=> rw [if_neg (show ¬(2:Int)=3 by decide)];rw [if_neg (show ¬(2:Int)=3 by decide)] at hp;dsimp only at*;simp only [Z8q] at*;omega
     | into e' h1 h2=>
      rw [if_pos rfl] at hp ⊢
      have:=ih e' (by dsimp only at me;omega) ⟨_,h1⟩ hl.1
      simp only [Zh];omega
    simp only [ZpR,Zg,Z4e,List.length_cons];omega
  have h1:=hk e.kids (fun k h=> h) l2
  have h2:=ho e.ops (fun k h=> h) l3
  have h3:=kids_sum ook
  have h4:ZH e.ops≤2000∧Yf e.ops≤2000:=by
   have ok:∀ o∈e.ops,0≤Z3 o:=fun o ho=> Z10 (ook o ho)
   have a:=Yl e.ops 0 ok (by decide) (by decide)
   have b:=YW e.ops 0 ok (by decide) (by decide)
   omega
  rw [ZAh,me]
  omega
where
 kids_sum:∀ {l:List Op},(∀ o∈l,J4 o)→Z4e l≤ZH l+Yf l
  | [],_=> by simp [Z4e,ZH,Yf]
  | o ::r,h=> by
   have h1:=J5 (h o List.mem_cons_self)
   have h2:=kids_sum fun x hx=> h x (List.mem_cons_of_mem _ hx)
   simp only [Z4e,ZH,Yf]
   split <;> split <;> omega
def φU(o:Op):Int:=Zw7 o
end Go.AM.YtpjenobkibfpcaaGreat
namespace Go.AM.YtpjenobkibfpcaaGreat
open Go.AM Go.Proofs
def ZEp(e:Edit):Prop:=utE e≤9000000000∧YI e∧∃ d,Z2 e d=true
end Go.AM.YtpjenobkibfpcaaGreat
namespace Go.AM.YtpjenobkibfpcaaGreat
open Go.AM Go.Proofs
noncomputable section
abbrev ZF(p:Prop):Prop:=p→p
noncomputable section
def ZoX:ArgL (Int × Unit):=(.cons (YG .u8) .nil)
def Ze8(a:Int × Unit):Prop:=0≤a.1∧a.1 < 256
def Zsz(a:Int × Unit):V U:= .c (.int .u64 ((Z1e (a.1).toNat 8:Nat):Int))
def Z8P:Fs U:=fs ZoX (fun a=> [Ze8 a]) Zsz
def Zpa:ArgL (Int × Int × Int × Unit):=(.cons (YG .u64) (.cons (YG .u64) (.cons (YG .u8) .nil)))
def Z0E(a:Int × Int × Int × Unit):Prop:=(0≤a.1∧a.1 < 18446744073709551616)∧(0≤a.2.1∧a.2.1 < 18446744073709551616)∧(0≤a.2.2.1∧a.2.2.1 < 256)
def ZsK(a:Int × Int × Int × Unit):V U:= .c (.int .u64 (mix a.1 a.2.1 a.2.2.1))
def Z0v:Fs U:=fs Zpa (fun a=> [Z0E a]) ZsK
def Zpo:ArgL (Tree × Unit):=(.cons (aEl .tree) .nil)
def Z68(a:Tree × Unit):Prop:=Zu a.1≤20000000000∧rng a.1
def ZsT(a:Tree × Unit):V U:= .c (.bool (decide (Tree.kind a.1≠10) && Ze a.1 64))
def Z57:Fs U:=fs Zpo (fun a=> [Z68 a]) ZsT
def ZoW:ArgL (Int × Tree × Unit):=(.cons (YG .i64) (.cons (aEl .tree) .nil))
def Ze7(a:Int × Tree × Unit):Prop:=Zu a.2.1≤18000000000∧rng a.2.1∧isI a.1
def Zsy(a:Int × Tree × Unit):V U:= .c (.bool (Ze (Tree.mk a.1 [] [a.2.1]) 64))
def Z8N:Fs U:=fs ZoW (fun a=> [Ze7 a]) Zsy
def ZoV:ArgL (Int × Edit × Unit):=(.cons (YG .i64) (.cons (aEl .edit) .nil))
def Zhy(a:Int × Edit × Unit):Prop:=True
def Zsx(a:Int × Edit × Unit):V U:= .c (.bool (YN a.1 a.2.1))
def Z54:Fs U:=fs ZoV (fun a=> [Zhy a]) Zsx
def Zpn:ArgL (List WEdit × Unit):=(.cons (aSl .wedit) .nil)
def ZaZ(a:List WEdit × Unit):Prop:=(a.1).length≤20000000000∧∀ x∈a.1,Z39 x
def ZsS(a:List WEdit × Unit):V U:= .c (.bool (Zs (-1) a.1))
def Z56:Fs U:=fs Zpn (fun a=> [ZaZ a]) ZsS
def Z1G:List (FuncId × Fs U):=[]
def Z9K:Zj U:=lvl [([0],[]),([0,3],[]),([0,3,5],[]),([0,3,5,6],[]),([0,3,4,5],[]),([0,3,4,5,12],[]),([0,3,5],[]),([0,3,5],[]),([2],[])]
def Z0R(m x3 x5:Int):LSt U:=(L2 [(0,.c (.int .u8 m)),(3,.c (.int .u64 x3)),(5,.c (ci x5))] [])
abbrev ZET(m:Int)(Q:QT):=AW (Z0 Z1G) Tryz.f215 Z9K [] (L2 [(0,.c (.int .u8 m))] []) Q
abbrev ZkM:=awp cfg (Z0 Z1G) (ZB cfg (Z0 Z1G)) Tryz.f215.ntmps Z9K
abbrev Zja:=Z5a cfg (Z0 Z1G) (ZB cfg (Z0 Z1G)) Tryz.f215.ntmps Z9K
theorem ZDq(m:Int)(Q:QT)(h:Zf (AW (Z0 Z1G) Tryz.f215 Z9K [1,1,0,1,0,0]) (Z0R m 0 0) (xB 0 (SW (Z0 Z1G) Tryz.f215 Z9K [1,1,1] Q))):
  ZET m Q:=by
 have e_:(ZET m Q)=(Zf (ZkM (cd Tryz.f215 [1,1,0,1,0,0])) (Z0R m 0 0) (xB 0 (Zja (cd Tryz.f215 [1,1,1]) Q))):=by kernel_rfl
 exact e_.mpr h
abbrev ZpA(m x3 x5:Int)(N0:NT)(Q:QT):=AW (Z0 Z1G) Tryz.f215 Z9K [1,1,0,1,0,0] (Z0R m x3 x5) (xT N0 (xB 0 (SW (Z0 Z1G) Tryz.f215 Z9K [1,1,1] Q)))
theorem Zrk(m x3 x5:Int)(N0:NT)(Q:QT)(h:((decide (x5 < 8))=true→((0:Int)≤x5)∧(((((IntKind.wrap .u8 (BitVec.ofInt (IntKind.bits .u8) (Int.fdiv m (2 ^ (min x5.toNat (IntKind.bits .u8)))) &&& BitVec.ofInt (IntKind.bits .u8) 1).toNat):Int)==1)=true→(InR ((8:Int)*x5))∧((0:Int)≤((8:Int)*x5))∧((InR (x5+1))∧(N0 (Z0R m (IntKind.wrap .u64 (BitVec.ofInt (IntKind.bits .u64) x3 ||| BitVec.ofInt (IntKind.bits .u64) (IntKind.wrap .u64 ((255:Int)*2 ^ (min (Int.toNat ((8:Int)*x5)) (IntKind.bits .u64))))).toNat) (x5+1)))))∧((((IntKind.wrap .u8 (BitVec.ofInt (IntKind.bits .u8) (Int.fdiv m (2 ^ (min x5.toNat (IntKind.bits .u8)))) &&& BitVec.ofInt (IntKind.bits .u8) 1).toNat):Int)==1)=false→(InR (x5+1))∧(N0 (Z0R m x3 (x5+1))))))∧((decide (x5 < 8))=false→Q .ret (L2 [(2,.c (.int .u64 x3))] []))):
  ZpA m x3 x5 N0 Q:=by
 have e_:(ZpA m x3 x5 N0 Q)=(let zz0:=(((IntKind.wrap .u8 (BitVec.ofInt (IntKind.bits .u8) (Int.fdiv m (2 ^ (min x5.toNat (IntKind.bits .u8)))) &&& BitVec.ofInt (IntKind.bits .u8) 1).toNat):Int)==1);(((decide ((x5:Int) < 8))=true→(((0:Int)≤x5)∧((zz0=true→(InR ((8:Int)*x5))∧((0:Int)≤((8:Int)*x5))∧((InR ((x5:Int)+1))∧(N0 (Z0R m (IntKind.wrap .u64 (BitVec.ofInt (IntKind.bits .u64) x3 ||| BitVec.ofInt (IntKind.bits .u64) (IntKind.wrap .u64 ((255:Int)*2 ^ (min (Int.toNat ((8:Int)*x5)) (IntKind.bits .u64))))).toNat) ((x5:Int)+1)))))∧(zz0=false→(InR ((x5:Int)+1))∧(N0 (Z0R m x3 ((x5:Int)+1)))))))∧((decide ((x5:Int) < 8))=false→(Q .ret (L2 [(2,.c (.int .u64 x3))] []))))):=by kernel_rfl
 exact e_.mpr ⟨fun c_1=> ⟨(h.1 c_1).1,⟨fun c_2=> ⟨((h.1 c_1).2.1 c_2).1,((h.1 c_1).2.1 c_2).2.1,⟨((h.1 c_1).2.1 c_2).2.2.1,((h.1 c_1).2.1 c_2).2.2.2⟩⟩,fun c_2=> ⟨((h.1 c_1).2.2 c_2).1,((h.1 c_1).2.2 c_2).2⟩⟩⟩,fun c_1=> (h.2 c_1)⟩
def Zyl(m:Int):Prop:=AW (Z0 Z1G) Tryz.f215 Z9K [] (Zl (ZoX.can (m,())) []) (EQ Tryz.f215 (Zsz (m,())) [])
theorem ZwF(hb:∀ (m:Int) (_:Unit),Ze8 (m,())→Zyl m):CT 215 Z8P:=
 Z4 (l:=[]) Zo rfl trivial Z9K Tryz.func215 rfl rfl 1 (fun _=> rfl) (by decide) (fun ⟨m,_⟩=> hb m ())
def Zoq:List (FuncId × Fs U):=[(215,Z8P)]
def ZtW:Zj U:=lvl [([0,1,2],[]),([6],[])]
abbrev ZEZ(a b m:Int)(Q:QT):=AW (Z0 Zoq) Tryz.f176 ZtW [] (L2 [(0,.c (.int .u64 a)),(1,.c (.int .u64 b)),(2,.c (.int .u8 m))] []) Q
theorem ZDJ(a b m:Int)(Q:QT)(h:(Ze8 (m,()))∧(Ze8 (m,()))∧(Q .ret (L2 [(6,.c (.int .u64 (IntKind.wrap .u64 (BitVec.ofInt (IntKind.bits .u64) (IntKind.wrap .u64 (BitVec.ofInt (IntKind.bits .u64) a &&& ~~~(BitVec.ofInt (IntKind.bits .u64) ((Z1e m.toNat 8:Nat):Int))).toNat) ||| BitVec.ofInt (IntKind.bits .u64) (IntKind.wrap .u64 (BitVec.ofInt (IntKind.bits .u64) b &&& BitVec.ofInt (IntKind.bits .u64) ((Z1e m.toNat 8:Nat):Int)).toNat)).toNat)))] []))):
  ZEZ a b m Q:=by
 have e_:(ZEZ a b m Q)=(type_of% h):=by kernel_rfl
 exact e_.mpr ⟨h.1,h.2.1,h.2.2⟩
def ZyE(a b m:Int):Prop:=AW (Z0 Zoq) Tryz.f176 ZtW [] (Zl (Zpa.can (a,b,m,())) []) (EQ Tryz.f176 (ZsK (a,b,m,())) [])
theorem ZwT(ZBC:CT 215 Z8P)(hb:∀ (a:Int) (b:Int) (m:Int) (_:Unit),Z0E (a,b,m,())→ZyE a b m):CT 176 Z0v:=
 Z4 (l:=[(215,Z8P)]) Zo rfl (⟨ZBC,trivial⟩) ZtW Tryz.func176 rfl rfl 3 (fun _=> rfl) (by decide) (fun ⟨a,b,m,_⟩=> hb a b m ())
def ZoB:List (FuncId × Fs U):=[(82,Z5N)]
def Zu7:Zj U:=lvl [([1],[1]),([2],[])]
abbrev ZF9(t:Tree)(Q:QT):=AW (Z0 ZoB) Tryz.f122 Zu7 [] (L2 [(0,.agg (enc .tree t))] []) Q
theorem ZE7(t:Tree)(Q:QT)(h:((t.kind !=10)=true→ZjH ((Tree.mk t.kind t.words t.kids),()))∧(Q .ret (L2 [(2,.c (.bool (bif (t.kind !=10) then (Ze (Tree.mk t.kind t.words t.kids) 64) else false)))] []))):
  ZF9 t Q:=by
 have e_:(ZF9 t Q)=((ZF ((t.kind !=10)=true))∧((t.kind !=10)=true→ZjH ((Tree.mk t.kind t.words t.kids),()))∧(ZF ((t.kind !=10)=true))∧(Q .ret (L2 [(2,.c (.bool (bif (t.kind !=10) then (Ze (Tree.mk t.kind t.words t.kids) 64) else false)))] []))):=by kernel_rfl
 exact e_.mpr ⟨id,h.1,(by generalize ((t.kind:Int) !=10)=b0;revert b0;decide),h.2⟩
def Zz2(t:Tree):Prop:=AW (Z0 ZoB) Tryz.f122 Zu7 [] (Zl (Zpo.can (t,())) []) (EQ Tryz.f122 (ZsT (t,())) [])
theorem Zxc(c82:CT 82 Z5N)(hb:∀ (t:Tree) (_:Unit),Z68 (t,())→Zz2 t):CT 122 Z57:=
 Z4 (l:=[(82,Z5N)]) Zo rfl (⟨c82,trivial⟩) Zu7 Tryz.func122 rfl rfl 1 (fun _=> rfl) (by decide) (fun ⟨t,_⟩=> hb t ())
def Zoe:List (FuncId × Fs U):=[(82,Z5N)]
def ZtK:Zj U:=lvl [([0,3],[3]),([4],[])]
abbrev ZEQ(list:Int)(t:Tree)(Q:QT):=AW (Z0 Zoe) Tryz.f218 ZtK [] (L2 [(0,.c (ci list)),(1,.agg (enc .tree t))] []) Q
theorem ZDn(list:Int)(t:Tree)(Q:QT)(h:(ZjH ((Tree.mk list [] ([(Tree.mk t.kind t.words t.kids)])),()))∧(Q .ret (L2 [(4,.c (.bool (Ze (Tree.mk list [] ([(Tree.mk t.kind t.words t.kids)])) 64)))] []))):
  ZEQ list t Q:=by
 have e_:(ZEQ list t Q)=(type_of% h):=by kernel_rfl
 exact e_.mpr ⟨h.1,h.2⟩
def Zyi(list:Int)(t:Tree):Prop:=AW (Z0 Zoe) Tryz.f218 ZtK [] (Zl (ZoW.can (list,t,())) []) (EQ Tryz.f218 (Zsy (list,t,())) [])
theorem ZwC(c82:CT 82 Z5N)(hb:∀ (list:Int) (t:Tree) (_:Unit),Ze7 (list,t,())→Zyi list t):CT 218 Z8N:=
 Z4 (l:=[(82,Z5N)]) Zo rfl (⟨c82,trivial⟩) ZtK Tryz.func218 rfl rfl 2 (fun _=> rfl) (by decide) (fun ⟨list,t,_⟩=> hb list t ())
def Zod:List (FuncId × Fs U):=[(220,Z3B)]
def ZtJ:Zj U:=lvl [([0,3],[3]),([0,3,5],[3]),([4],[]),([3,13],[3]),([4],[]),([4],[])]
abbrev ZEP(list:Int)(e:Edit)(Q:QT):=AW (Z0 Zod) Tryz.f219 ZtJ [] (L2 [(0,.c (ci list)),(1,.agg (enc .edit e))] []) Q
theorem ZDm(list:Int)(e:Edit)(Q:QT)(h:(ZaP (list,()))∧(((bif (decide (2≤list∧list≤7)) then true else (e.kind==0))=true→Q .ret (L2 [(4,.c (.bool false))] []))∧((bif (decide (2≤list∧list≤7)) then true else (e.kind==0))=false→((bif (list==8) then true else (e.kind==2))=true→Q .ret (L2 [(4,.c (.bool true))] []))∧((bif (list==8) then true else (e.kind==2))=false→Q .ret (L2 [(4,.c (.bool (bif (bif (e.kind==1) then (e.old.kind==1) else false) then (e.new.kind==1) else false)))] []))))):
  ZEP list e Q:=by
 have e_:(ZEP list e Q)=(let zz2:=(bif ((list:Int)==8) then true else (e.kind==2));let zz1:=(decide (2≤list∧list≤7));let zz0:=(bif (e.kind==1) then ((e.old.kind:Int)==1) else false);((ZaP (list,()))∧(ZF ((!zz1)=true))∧(ZF ((!zz1)=true))∧(zz1=false→(!zz1)=true)∧(((bif zz1 then true else (e.kind==0))=true→(Q .ret (L2 [(4,.c (.bool false))] [])))∧((bif zz1 then true else (e.kind==0))=false→(ZF ((!((list:Int)==8))=true))∧(ZF ((!((list:Int)==8))=true))∧(((list:Int)==8)=false→(!((list:Int)==8))=true)∧((zz2=true→(Q .ret (L2 [(4,.c (.bool true))] [])))∧(zz2=false→(ZF ((e.kind==1)=true))∧(ZF ((e.kind==1)=true))∧(ZF ((e.kind==1)=true))∧(ZF ((e.kind==1)=true))∧(ZF (zz0=true))∧(ZF (zz0=true))∧(ZF (zz0=true))∧(ZF (zz0=true))∧(Q .ret (L2 [(4,.c (.bool (bif zz0 then ((e.new.kind:Int)==1) else false)))] [])))))))):=by kernel_rfl
 exact e_.mpr ⟨h.1,id,id,(by generalize (decide (2≤list∧list≤7))=b0;revert b0;decide),⟨fun c_3=> (h.2.1 c_3),fun c_3=> ⟨id,id,(by generalize ((list:Int)==8)=b0;revert b0;decide),⟨fun c_4=> ((h.2.2 c_3).1 c_4),fun c_4=> ⟨id,id,id,(by generalize ((e.kind:Int)==1)=b0;revert b0;decide),id,id,id,(by generalize ((e.old.kind:Int)==1)=b0;generalize ((e.kind:Int)==1)=b1;revert b0 b1;decide),((h.2.2 c_3).2 c_4)⟩⟩⟩⟩⟩
def Zyh(list:Int)(e:Edit):Prop:=AW (Z0 Zod) Tryz.f219 ZtJ [] (Zl (ZoV.can (list,e,())) []) (EQ Tryz.f219 (Zsx (list,e,())) [])
theorem ZwB(ZqU:CT 220 Z3B)(hb:∀ (list:Int) (e:Edit) (_:Unit),Zhy (list,e,())→Zyh list e):CT 219 Z54:=
 Z4 (l:=[(220,Z3B)]) Zo rfl (⟨ZqU,trivial⟩) ZtJ Tryz.func219 rfl rfl 2 (fun _=> rfl) (by decide) (fun ⟨list,e,_⟩=> hb list e ())
def Z1M:List (FuncId × Fs U):=[(176,Z0v)]
def Z9Q:Zj U:=lvl [([0],[]),([0,5,6,7],[]),([0,5,6,7,8],[]),([0,3,4,5,6,7],[4]),([0,4,5,6,7,39],[4]),([2],[]),([0,5,6,7,53],[]),([2],[]),([0,5,6,7],[]),([2],[])]
def Z34(l:List WEdit)(x7:Int):LSt U:=(L2 [(0,.c (sU .wedit l .unk)),(5,.c (sU .wedit l .unk)),(6,.c (ci (l.length:Int))),(7,.c (ci x7))] [])
abbrev ZF8(l:List WEdit)(Q:QT):=AW (Z0 Z1M) Tryz.f123 Z9Q [] (L2 [(0,.c (sU .wedit l .unk))] []) Q
abbrev ZkS:=awp cfg (Z0 Z1M) (ZB cfg (Z0 Z1M)) Tryz.f123.ntmps Z9Q
abbrev Zjg:=Z5a cfg (Z0 Z1M) (ZB cfg (Z0 Z1M)) Tryz.f123.ntmps Z9Q
theorem ZE6(l:List WEdit)(Q:QT)(h:Zf (AW (Z0 Z1M) Tryz.f123 Z9Q [1,0,1,0,0]) (Z34 l 0) (xB 0 (SW (Z0 Z1M) Tryz.f123 Z9Q [1,1] Q))):
  ZF8 l Q:=by
 have e_:(ZF8 l Q)=(Zf (ZkS (cd Tryz.f123 [1,0,1,0,0])) (Z34 l 0) (xB 0 (Zjg (cd Tryz.f123 [1,1]) Q))):=by kernel_rfl
 exact e_.mpr h
abbrev ZpL(l:List WEdit)(x7:Int)(N0:NT)(Q:QT):=AW (Z0 Z1M) Tryz.f123 Z9Q [1,0,1,0,0] (Z34 l x7) (xT N0 (xB 0 (SW (Z0 Z1M) Tryz.f123 Z9Q [1,1] Q)))
theorem ZrI(l:List WEdit)(x7:Int)(N0:NT)(Q:QT)(h:∀ y_1,y_1=(l.getD x7.toNat (WEdit.mk 0 0 0 0))→∀ y_2,y_2=(List.getD l (Int.toNat (x7 - 1)) (WEdit.mk 0 0 0 0))→((decide (x7 < (l.length:Int)))=true→((0:Int)≤x7∧x7 < (l.length:Int))∧((((!(bif (decide (y_1.at_ < 0)) then true else (decide ((65535:Int)≤y_1.at_)))) && (decide ((0:Int) < x7)))=true→InR (x7 - 1))∧(((!(bif (decide (y_1.at_ < 0)) then true else (decide ((65535:Int)≤y_1.at_)))) && (decide ((0:Int) < x7)))=true→(0:Int)≤(x7 - 1)∧(x7 - 1) < (l.length:Int))∧(((bif (bif (bif (decide (y_1.at_ < 0)) then true else (decide ((65535:Int)≤y_1.at_))) then true else (bif (decide ((0:Int) < x7)) then (decide (y_1.at_≤y_2.at_)) else false)) then true else (y_1.mask==0))=true→Q .ret (L2 [(2,.c (.bool false))] []))∧((bif (bif (bif (decide (y_1.at_ < 0)) then true else (decide ((65535:Int)≤y_1.at_))) then true else (bif (decide ((0:Int) < x7)) then (decide (y_1.at_≤y_2.at_)) else false)) then true else (y_1.mask==0))=false→(Z0E (y_1.old,0,y_1.mask,()))∧((!(((mix y_1.old 0 y_1.mask):Int) !=0))=true→Z0E (y_1.new,0,y_1.mask,()))∧(((bif (((mix y_1.old 0 y_1.mask):Int) !=0) then true else (((mix y_1.new 0 y_1.mask):Int) !=0))=true→Q .ret (L2 [(2,.c (.bool false))] []))∧((bif (((mix y_1.old 0 y_1.mask):Int) !=0) then true else (((mix y_1.new 0 y_1.mask):Int) !=0))=false→(InR (x7+1))∧(N0 (Z34 l (x7+1)))))))))∧((decide (x7 < (l.length:Int)))=false→Q .ret (L2 [(2,.c (.bool true))] []))):
  ZpL l x7 N0 Q:=by
 have e_:(ZpL l x7 N0 Q)=(let y_1:=(l.getD x7.toNat (WEdit.mk 0 0 0 0));let y_2:=(List.getD l (Int.toNat ((x7:Int) - 1)) (WEdit.mk 0 0 0 0));let zz5:=(((mix y_1.new 0 y_1.mask):Int) !=0);let zz4:=(decide (y_1.at_ < 0));let zz3:=(decide ((0:Int) < x7));let zz2:=(bif zz3 then (decide (y_1.at_≤y_2.at_)) else false);let zz1:=(((mix y_1.old 0 y_1.mask):Int) !=0);let zz0:=(bif zz4 then true else (decide ((65535:Int)≤y_1.at_)));(((decide ((x7:Int) < (l.length:Int)))=true→((0:Int)≤x7∧x7 < (l.length:Int))∧((ZF ((!zz4)=true))∧(ZF ((!zz4)=true))∧(zz4=false→(!zz4)=true)∧(ZF ((!zz0)=true))∧(ZF ((!zz0)=true))∧(ZF (((!zz0) && zz3)=true))∧(((!zz0) && zz3)=true→InR ((x7:Int) - 1))∧(ZF (((!zz0) && zz3)=true))∧(ZF (((!zz0) && zz3)=true))∧(((!zz0) && zz3)=true→(0:Int)≤((x7:Int) - 1)∧((x7:Int) - 1) < (l.length:Int))∧(ZF (((!zz0) && zz3)=true))∧(ZF (((!zz0) && zz3)=true))∧(ZF (((!zz0) && zz3)=true))∧(ZF (((!zz0) && zz3)=true))∧(ZF (((!zz0) && zz3)=true))∧((!zz0)=true→(True→(!zz0)=true))∧((!zz0)=true→(zz3=true→((!zz0) && zz3)=true))∧(zz0=false→(!zz0)=true)∧(ZF ((!(bif zz0 then true else zz2))=true))∧(ZF ((!(bif zz0 then true else zz2))=true))∧((bif zz0 then true else zz2)=false→(!(bif zz0 then true else zz2))=true)∧(((bif (bif zz0 then true else zz2) then true else (y_1.mask==0))=true→(Q .ret (L2 [(2,.c (.bool false))] [])))∧((bif (bif zz0 then true else zz2) then true else (y_1.mask==0))=false→(Z0E (y_1.old,0,y_1.mask,()))∧(ZF ((!zz1)=true))∧(ZF ((!zz1)=true))∧(ZF ((!zz1)=true))∧(ZF ((!zz1)=true))∧((!zz1)=true→Z0E (y_1.new,0,y_1.mask,()))∧(ZF ((!zz1)=true))∧(zz1=false→(!zz1)=true)∧(((bif zz1 then true else zz5)=true→(Q .ret (L2 [(2,.c (.bool false))] [])))∧((bif zz1 then true else zz5)=false→(InR ((x7:Int)+1))∧(N0 (Z34 l ((x7:Int)+1)))))))))∧((decide ((x7:Int) < (l.length:Int)))=false→(Q .ret (L2 [(2,.c (.bool true))] []))))):=by kernel_rfl
 exact e_.mpr (by intro y_1 y_2;have hh:=h y_1 rfl y_2 rfl;exact ⟨fun c_5=> ⟨(hh.1 c_5).1,⟨id,id,(by generalize (decide ((y_1.at_:Int) < 0))=b0;revert b0;decide),id,id,id,(hh.1 c_5).2.1,id,id,(hh.1 c_5).2.2.1,id,id,id,id,id,(by generalize (decide ((65535:Int)≤y_1.at_))=b0;generalize (decide ((y_1.at_:Int) < 0))=b1;revert b0 b1;decide),(by generalize (decide ((65535:Int)≤y_1.at_))=b0;generalize (decide ((y_1.at_:Int) < 0))=b1;generalize (decide ((0:Int) < x7))=b2;revert b0 b1 b2;decide),(by generalize (decide ((65535:Int)≤y_1.at_))=b0;generalize (decide ((y_1.at_:Int) < 0))=b1;revert b0 b1;decide),id,id,(by generalize (decide ((y_1.at_:Int)≤y_2.at_))=b0;generalize (decide ((65535:Int)≤y_1.at_))=b1;generalize (decide ((y_1.at_:Int) < 0))=b2;generalize (decide ((0:Int) < x7))=b3;revert b0 b1 b2 b3;decide),⟨fun c_6=> ((hh.1 c_5).2.2.2.1 c_6),fun c_6=> ⟨((hh.1 c_5).2.2.2.2 c_6).1,id,id,id,id,((hh.1 c_5).2.2.2.2 c_6).2.1,id,(by generalize (((mix y_1.old 0 y_1.mask):Int) !=0)=b0;revert b0;decide),⟨fun c_7=> (((hh.1 c_5).2.2.2.2 c_6).2.2.1 c_7),fun c_7=> ⟨(((hh.1 c_5).2.2.2.2 c_6).2.2.2 c_7).1,(((hh.1 c_5).2.2.2.2 c_6).2.2.2 c_7).2⟩⟩⟩⟩⟩⟩,fun c_5=> (hh.2 c_5)⟩)
def Zz1(l:List WEdit):Prop:=AW (Z0 Z1M) Tryz.f123 Z9Q [] (Zl (Zpn.can (l,())) []) (EQ Tryz.f123 (ZsS (l,())) [])
theorem Zxb(Zis:CT 176 Z0v)(hb:∀ (l:List WEdit) (_:Unit),ZaZ (l,())→Zz1 l):CT 123 Z56:=
 Z4 (l:=[(176,Z0v)]) Zo rfl (⟨Zis,trivial⟩) Z9Q Tryz.func123 rfl rfl 1 (fun _=> rfl) (by decide) (fun ⟨l,_⟩=> hb l ())
end
end
end Go.AM.YtpjenobkibfpcaaGreat
namespace Go.AM.YtpjenobkibfpcaaGreat
open Go.AM Go.Proofs
theorem ZuT:∀ n:Fin 256,∀ i:Fin 8,IntKind.wrap .u8 (BitVec.ofInt (IntKind.bits .u8) (Int.fdiv (n.1:Int) (2 ^ (min (Int.toNat (i.1:Int)) (IntKind.bits .u8)))) &&& BitVec.ofInt (IntKind.bits .u8) 1).toNat=((n.1 / 2 ^ i.1 % 2:Nat):Int):=by decide+kernel
theorem Zwk:∀ n:Fin 256,∀ i:Fin 8,IntKind.wrap .u64 (BitVec.ofInt (IntKind.bits .u64) ((Z1e n.1 i.1:Nat):Int) ||| BitVec.ofInt (IntKind.bits .u64) (IntKind.wrap .u64 (255*2 ^ (min (Int.toNat (8*(i.1:Int))) (IntKind.bits .u64))))).toNat=((Z1e n.1 i.1+255*2 ^ (8*i.1):Nat):Int):=by decide+kernel
theorem ZBC:Contract Tryz.prog cfg 215 Z8P:=by
 refine ZwF ?_
 intro m _ hp
 simp only [Ze8] at hp
 obtain ⟨n,rfl⟩:=Int.eq_ofNat_of_zero_le hp.1
 have hn:n < 256:=by omega
 refine ZDq _ _ ?_
 refine Za (ι:=Nat) (fun i=> Z0R n ((Z1e n i:Nat):Int) i) (fun i=> i≤8) (fun i=> 8 - i) 0 rfl (by omega) ?_
 intro i hi
 refine Zrk _ _ _ _ _ ?_
 (simp only [vcS])
 refine ⟨fun hc=> ⟨by omega,fun hq=> ⟨by unfold InR;omega,by omega,by unfold InR;omega,i+1,?_,by omega,by omega⟩,fun hq=> ⟨by unfold InR;omega,i+1,?_,by omega,by omega⟩⟩,fun hc=> ?_⟩
 ·have h1:=ZuT ⟨n,hn⟩ ⟨i,by omega⟩
  have h2:=Zwk ⟨n,hn⟩ ⟨i,by omega⟩
  simp only at h1 h2
  rw [h1] at hq
  rw [h2]
  have e:Z1e n (i+1)=Z1e n i+255*2 ^ (8*i):=by simp only [Z1e];rw [if_pos (by omega)]
  rw [e]
  try rfl
 ·have h1:=ZuT ⟨n,hn⟩ ⟨i,by omega⟩
  simp only at h1
  rw [h1] at hq
  have e:Z1e n (i+1)=Z1e n i:=by simp only [Z1e];rw [if_neg (by omega)];omega
  rw [e]
  try rfl
 ·have:i=8:=by omega
  subst this
  exact YF rfl rfl
theorem Z2N(a:Nat)(h:a < 2 ^ 64):(BitVec.ofInt 64 (a:Int)).toNat=a:=by
 rw [BitVec.toNat_ofInt]
 omega
theorem Zis:Contract Tryz.prog cfg 176 Z0v:=by
 refine ZwT ZBC ?_
 intro a b m _ hp
 simp only [Z0E] at hp
 obtain ⟨⟨a0,a1⟩,⟨b0,b1⟩,m0,m1⟩:=hp
 obtain ⟨x,rfl⟩:=Int.eq_ofNat_of_zero_le a0
 obtain ⟨y,rfl⟩:=Int.eq_ofNat_of_zero_le b0
 obtain ⟨n,rfl⟩:=Int.eq_ofNat_of_zero_le m0
 have hn:n < 256:=by omega
 have hx:x < 2 ^ 64:=by omega
 have hy:y < 2 ^ 64:=by omega
 have hw:=Zvs ⟨n,hn⟩
 have hw2:=ZmF ⟨n,hn⟩
 simp only at hw hw2
 rw [←hw2] at hw
 refine ZDJ _ _ _ _ ?_
 refine ⟨⟨m0,m1⟩,⟨m0,m1⟩,YF rfl ?_⟩
 have em:mix x y n=(((x &&& (2 ^ 64 - 1 - Z1e n 8)) ||| (y &&& Z1e n 8):Nat):Int):=by rw [←Zty,←Ztw x y n hn]
 have e1:(BitVec.ofInt 64 (x:Int) &&& ~~~(BitVec.ofInt 64 ((Z1e n 8:Nat):Int))).toNat=x &&& (2 ^ 64 - 1 - Z1e n 8):=by
  rw [BitVec.toNat_and,BitVec.toNat_not,Z2N x hx,Z2N _ hw]
 have e2:(BitVec.ofInt 64 (y:Int) &&& BitVec.ofInt 64 ((Z1e n 8:Nat):Int)).toNat=y &&& Z1e n 8:=by
  rw [BitVec.toNat_and,Z2N y hy,Z2N _ hw]
 have l1:x &&& (2 ^ 64 - 1 - Z1e n 8) < 2 ^ 64:=Nat.lt_of_le_of_lt Nat.and_le_left hx
 have l2:y &&& Z1e n 8 < 2 ^ 64:=Nat.lt_of_le_of_lt Nat.and_le_left hy
 have l3:(x &&& (2 ^ 64 - 1 - Z1e n 8)) ||| (y &&& Z1e n 8) < 2 ^ 64:=Nat.or_lt_two_pow l1 l2
 have key:IntKind.wrap .u64 ((BitVec.ofInt 64 (IntKind.wrap .u64 ((BitVec.ofInt 64 (x:Int) &&& ~~~(BitVec.ofInt 64 ((Z1e n 8:Nat):Int))).toNat:Int)) ||| BitVec.ofInt 64 (IntKind.wrap .u64 ((BitVec.ofInt 64 (y:Int) &&& BitVec.ofInt 64 ((Z1e n 8:Nat):Int)).toNat:Int))).toNat:Int)=mix x y n:=by
  have w1:∀ k:Nat,k < 2 ^ 64→IntKind.wrap .u64 (k:Int)=k:=fun k hk=> Z5J (by omega) (by omega)
  rw [e1,e2,w1 _ l1,w1 _ l2,BitVec.toNat_or,Z2N _ l1,Z2N _ l2,w1 _ l3,em]
 exact key
theorem ZC1:Contract Tryz.prog cfg 122 Z57:=by
 refine Zxc c82 ?_
 intro t _ hp
 refine ZE7 _ _ ?_
 (simp only [Tree.eta,Edit.eta,Tree.kind_mk,Tree.words_mk,Tree.kids_mk])
 refine ⟨fun _=> hp,Z5 rfl ?_⟩
 rw [Bool.eq_iff_iff]
 (simp only [vcS])
theorem ZBz:Contract Tryz.prog cfg 218 Z8N:=by
 refine ZwC c82 ?_
 intro list t _ hp
 simp only [Ze7] at hp
 refine ZDn _ _ _ ?_
 (simp only [Tree.eta,Edit.eta,Tree.kind_mk,Tree.words_mk,Tree.kids_mk])
 refine ⟨⟨?_,?_⟩,by (repeat' (first | exact trivial | exact rfl | apply And.intro))⟩
 ·simp only [Zu,Zh,List.length_nil];omega
 ·simp only [rng,Yq]
  have hi:=hp.2.2
  unfold isI at hi
  exact ⟨hi,by simp,hp.2.1,trivial⟩
theorem ZBy:Contract Tryz.prog cfg 219 Z54:=by
 refine ZwB ZqU ?_
 intro list e _ hp
 refine ZDm _ _ _ ?_
 (simp only [vcS])
 refine ⟨trivial,fun h=> ?_,fun h=> ⟨fun h2=> ?_,fun h2=> ?_⟩⟩
 ·exact Z5 rfl (by show false=YN list e;unfold YN;rw [if_pos h])
 ·exact Z5 rfl (by show true=YN list e;unfold YN;rw [if_neg (by omega),if_pos h2])
 ·refine Z5 rfl ?_
  show _=YN list e
  unfold YN
  rw [if_neg (by omega),if_neg (by omega),Bool.eq_iff_iff]
  (simp only [vcS])
  omega
theorem ZgY(last:Int)(w:WEdit)(r:List WEdit):Zs last (w ::r)=(decide (last < w.at_∧w.at_≤65534∧w.mask≠0) && Yu w.old w.mask && Yu w.new w.mask && Zs w.at_ r):=rfl
theorem ZC0:Contract Tryz.prog cfg 123 Z56:=by
 refine Zxb Zis ?_
 intro l _ hp
 simp only [ZaZ] at hp
 refine ZE6 _ _ ?_
 refine Za (ι:=Int) (fun i=> Z34 l i) (fun i=> 0≤i∧i≤l.length∧(i≠0→0≤(l.getD (i - 1).toNat (WEdit.mk 0 0 0 0)).at_)∧Zs (if i=0 then -1 else (l.getD (i - 1).toNat (WEdit.mk 0 0 0 0)).at_) (l.drop i.toNat)=Zs (-1) l) (fun i=> ((l.length:Int) - i).toNat) 0 rfl ⟨by omega,by omega,by simp,by simp⟩ ?_
 rintro i ⟨h1,h2,hpos,h3⟩
 refine ZrI _ _ _ _ ?_
 rintro y1 hy1 y2 hy2
 (simp only [vcS])
 refine ⟨fun hi=> ?_,fun hi=> ?_⟩
 ·have hm:=hp.2 _ (Zi (l:=l) (i:=i.toNat) (by omega) (WEdit.mk 0 0 0 0))
  rw [Y3 h1 hi (WEdit.mk 0 0 0 0),ZgY] at h3
  rw [←hy1] at h3 hm
  rw [←hy2] at h3 hpos
  obtain ⟨r1,r2,r3,r4⟩:=hm
  unfold isW at r3 r4
  have hw:∀ x:Int,Yu x y1.mask=decide (mix x 0 y1.mask=0):=fun x=> rfl
  refine ⟨⟨h1,hi⟩,fun _=> by unfold InR;omega,fun _=> ⟨by omega,by omega⟩,fun hq=> ?_,fun hq=> ⟨⟨r3,by dsimp only;omega,r2⟩,fun _=> ⟨r4,by dsimp only;omega,r2⟩,fun hz=> ?_,fun hz=> ⟨by unfold InR;omega,i+1,rfl,⟨by omega,by omega,fun _=> by rw [show i+1 - 1=i by omega,←hy1];omega,?_⟩,by omega⟩⟩⟩
  ·refine Z5 rfl ?_
   show false=Zs (-1) l
   rw [←h3,decide_eq_false]
   ·try rfl
   ·split <;> omega
  ·refine Z5 rfl ?_
   show false=Zs (-1) l
   rw [←h3,hw,hw]
   rcases hz with hz | hz
   ·rw [decide_eq_false hz];simp
   ·rw [decide_eq_false hz];simp
  ·rw [if_neg (by omega),show i+1 - 1=i by omega,←hy1,←h3,hw,hw,decide_eq_true hz.1,decide_eq_true hz.2,decide_eq_true]
   ·simp
   ·split <;> omega
 ·rw [List.drop_of_length_le (by omega)] at h3
  exact Z5 rfl (by show true=Zs (-1) l;rw [←h3];rfl)
end Go.AM.YtpjenobkibfpcaaGreat
namespace Go.AM
def wr(n:Int):Int:=IntKind.wrap .i64 n
def Z1q(o:Op):Int:=if o.kind=3 then 1 else wr (o.n+o.l.length)
def Zip(n:Int):Int:=if 1048576 < n then 1048576 else n
def Z16:List Op→Int→Int
 | [],n=> n
 | o ::r,n=> Z16 r (if o.kind=2 then n else Zip (wr (n+Z1q o)))
def Z2e:List Op→Int→Int
 | [],n=> n
 | o ::r,n=> Z2e r (if o.kind=1 then n else Zip (wr (n+Z1q o)))
def Z25(e:Edit):Bool:=
 if (e.kind≠1∧¬(ZZ e.old=true∧ZZ e.new=true))∨(e.kind≠2∧¬(e.words.length=0∧e.kids.length=0))∨(e.kind≠3∧(e.list≠0∨e.ops.length≠0)) then false else true
end Go.AM
namespace Go.AM.YtpjenobkibfpcaaGreat
open Go.AM Go.Proofs
noncomputable section
def Zpg:ArgL (Edit × Unit):=(.cons (aEl .edit) .nil)
def Z8e(a:Edit × Unit):Prop:=Z9 a.1≤20000000000
def ZsL(a:Edit × Unit):V U:= .tup [(false,[ci (Z16 a.1.ops 0)]),(false,[ci (Z2e a.1.ops 0)])]
def Z0V:Fs U:=fs Zpg (fun a=> [Z8e a]) ZsL
def ZI:List (FuncId × Fs U):=[]
def YB:Zj U:=lvl [([1],[1]),([1,4,5],[1]),([4,5,10,11,12],[]),([4,5,10,11,12,13],[]),([4,5,7,10,11,12],[7]),([4,5,7,8,10,11,12],[7]),([4,5,7,8,10,11,12,24],[7]),([4,5,7,8,10,11,12,24],[7]),([4,5,7,8,10,11,12,27],[7]),([4,5,7,8,10,11,12,27],[7]),([4,5,8,10,11,12,34],[]),([4,5,10,11,12],[]),([4,5,10,11,12],[]),([2,3],[])]
def JP(e:Edit)(x4 x5 x12:Int):LSt U:=(L2 [(4,.c (ci x4)),(5,.c (ci x5)),(10,.c (sU .op e.ops .unk)),(11,.c (ci (e.ops.length:Int))),(12,.c (ci x12))] [])
def Z4I(e:Edit)(x4 x5 x12 x8_a:Int):LSt U:=(L2 [(4,.c (ci x4)),(5,.c (ci x5)),(7,.ptr (.loc 7) 0),(8,.c (ci x8_a)),(10,.c (sU .op e.ops .unk)),(11,.c (ci (e.ops.length:Int))),(12,.c (ci x12)),(24,.c (.bool (((OpOf.kind (e.ops.getD x12.toNat Op.nil)):Int)==3)))] [(.loc 7,(enc .op (e.ops.getD x12.toNat Op.nil)))])
def Z4H(e:Edit)(x5 x12 x8_a x4_b:Int):LSt U:=(L2 [(4,.c (ci x4_b)),(5,.c (ci x5)),(7,.ptr (.loc 7) 0),(8,.c (ci x8_a)),(10,.c (sU .op e.ops .unk)),(11,.c (ci (e.ops.length:Int))),(12,.c (ci x12)),(27,.c (.bool (((OpOf.kind (e.ops.getD x12.toNat Op.nil)):Int) !=2)))] [(.loc 7,(enc .op (e.ops.getD x12.toNat Op.nil)))])
abbrev ZF0(e:Edit)(Q:QT):=AW (Yy ZI) Tryz.f169 YB [] (L2 [(0,.agg (enc .edit e))] []) Q
theorem ZDQ(e:Edit)(Q:QT)(h:Zf (AW (Yy ZI) Tryz.f169 YB [1,1,0,1,0,0]) (JP e 0 0 0) (xB 0 (SW (Yy ZI) Tryz.f169 YB [1,1,1] Q))):
  ZF0 e Q:=by
 have e_:(ZF0 e Q)=(Zf (AW (Yy ZI) Tryz.f169 YB [1,1,0,1,0,0]) (JP e 0 0 0) (xB 0 (SW (Yy ZI) Tryz.f169 YB [1,1,1] Q))):=by kernel_rfl
 exact e_.mpr h
abbrev ZpD(e:Edit)(x4 x5 x12:Int)(N0:NT)(Q:QT):=AW (Yy ZI) Tryz.f169 YB [1,1,0,1,0,0] (JP e x4 x5 x12) (xT N0 (xB 0 (SW (Yy ZI) Tryz.f169 YB [1,1,1] Q)))
theorem Zrv(e:Edit)(x4 x5 x12:Int)(N0:NT)(Q:QT)(h:((decide (x12 < (e.ops.length:Int)))=true→((0:Int)≤x12∧x12 < (e.ops.length:Int))∧(((((OpOf.kind (e.ops.getD x12.toNat Op.nil)):Int)==3)=true→AW (Yy ZI) Tryz.f169 YB [1,1,0,1,0,0,1,1,0,0,1,1,1] (Z4I e x4 x5 x12 1) (xB 1 (SW (Yy ZI) Tryz.f169 YB [1,1,0,1,0,0,1,1,1] (xT N0 (xB 0 (SW (Yy ZI) Tryz.f169 YB [1,1,1] Q))))))∧((((OpOf.kind (e.ops.getD x12.toNat Op.nil)):Int)==3)=false→AW (Yy ZI) Tryz.f169 YB [1,1,0,1,0,0,1,1,0,0,1,1,1] (Z4I e x4 x5 x12 (IntKind.wrap .i64 (((OpOf.n (e.ops.getD x12.toNat Op.nil)):Int)+((OpOf.l (e.ops.getD x12.toNat Op.nil)).length:Int)))) (xB 1 (SW (Yy ZI) Tryz.f169 YB [1,1,0,1,0,0,1,1,1] (xT N0 (xB 0 (SW (Yy ZI) Tryz.f169 YB [1,1,1] Q))))))))∧((decide (x12 < (e.ops.length:Int)))=false→Q .ret (L2 [(2,.c (ci x4)),(3,.c (ci x5))] []))):
  ZpD e x4 x5 x12 N0 Q:=by
 have e_:(ZpD e x4 x5 x12 N0 Q)=(let zz0:=(((OpOf.kind (e.ops.getD x12.toNat Op.nil)):Int)==3);(((decide ((x12:Int) < (e.ops.length:Int)))=true→((0:Int)≤x12∧x12 < (e.ops.length:Int))∧((zz0=true→(AW (Yy ZI) Tryz.f169 YB [1,1,0,1,0,0,1,1,0,0,1,1,1] (Z4I e x4 x5 x12 1) (xB 1 (SW (Yy ZI) Tryz.f169 YB [1,1,0,1,0,0,1,1,1] (xT N0 (xB 0 (SW (Yy ZI) Tryz.f169 YB [1,1,1] Q)))))))∧(zz0=false→AW (Yy ZI) Tryz.f169 YB [1,1,0,1,0,0,1,1,0,0,1,1,1] (Z4I e x4 x5 x12 (IntKind.wrap .i64 (((OpOf.n (e.ops.getD x12.toNat Op.nil)):Int)+((OpOf.l (e.ops.getD x12.toNat Op.nil)).length:Int)))) (xB 1 (SW (Yy ZI) Tryz.f169 YB [1,1,0,1,0,0,1,1,1] (xT N0 (xB 0 (SW (Yy ZI) Tryz.f169 YB [1,1,1] Q))))))))∧((decide ((x12:Int) < (e.ops.length:Int)))=false→(Q .ret (L2 [(2,.c (ci x4)),(3,.c (ci x5))] []))))):=by kernel_rfl
 exact e_.mpr ⟨fun c_1=> ⟨(h.1 c_1).1,⟨fun c_2=> ((h.1 c_1).2.1 c_2),fun c_2=> ((h.1 c_1).2.2 c_2)⟩⟩,fun c_1=> (h.2 c_1)⟩
abbrev ZiQ(e:Edit)(x4 x5 x12 x8_a:Int)(N0:NT)(Q:QT):=AW (Yy ZI) Tryz.f169 YB [1,1,0,1,0,0,1,1,0,0,1,1,1] (Z4I e x4 x5 x12 x8_a) (xB 1 (SW (Yy ZI) Tryz.f169 YB [1,1,0,1,0,0,1,1,1] (xT N0 (xB 0 (SW (Yy ZI) Tryz.f169 YB [1,1,1] Q)))))
theorem Zrx(e:Edit)(x4 x5 x12 x8_a:Int)(N0:NT)(Q:QT)(h:((((OpOf.kind (e.ops.getD x12.toNat Op.nil)):Int) !=2)=true→AW (Yy ZI) Tryz.f169 YB [1,1,0,1,0,0,1,1,0,0,1,1,1,1] (Z4H e x5 x12 x8_a (if (1048576:Int) < (IntKind.wrap .i64 (x4+x8_a)) then 1048576 else (IntKind.wrap .i64 (x4+x8_a)))) (xB 1 (SW (Yy ZI) Tryz.f169 YB [1,1,0,1,0,0,1,1,1] (xT N0 (xB 0 (SW (Yy ZI) Tryz.f169 YB [1,1,1] Q))))))∧((((OpOf.kind (e.ops.getD x12.toNat Op.nil)):Int) !=2)=false→AW (Yy ZI) Tryz.f169 YB [1,1,0,1,0,0,1,1,0,0,1,1,1,1] (Z4H e x5 x12 x8_a x4) (xB 1 (SW (Yy ZI) Tryz.f169 YB [1,1,0,1,0,0,1,1,1] (xT N0 (xB 0 (SW (Yy ZI) Tryz.f169 YB [1,1,1] Q))))))):
  ZiQ e x4 x5 x12 x8_a N0 Q:=by
 have e_:(ZiQ e x4 x5 x12 x8_a N0 Q)=(let zz0:=(((OpOf.kind (e.ops.getD x12.toNat Op.nil)):Int) !=2);((zz0=true→(AW (Yy ZI) Tryz.f169 YB [1,1,0,1,0,0,1,1,0,0,1,1,1,1] (Z4H e x5 x12 x8_a (if (1048576:Int) < (IntKind.wrap .i64 ((x4:Int)+x8_a)) then 1048576 else (IntKind.wrap .i64 ((x4:Int)+x8_a)))) (xB 1 (SW (Yy ZI) Tryz.f169 YB [1,1,0,1,0,0,1,1,1] (xT N0 (xB 0 (SW (Yy ZI) Tryz.f169 YB [1,1,1] Q)))))))∧(zz0=false→AW (Yy ZI) Tryz.f169 YB [1,1,0,1,0,0,1,1,0,0,1,1,1,1] (Z4H e x5 x12 x8_a x4) (xB 1 (SW (Yy ZI) Tryz.f169 YB [1,1,0,1,0,0,1,1,1] (xT N0 (xB 0 (SW (Yy ZI) Tryz.f169 YB [1,1,1] Q)))))))):=by kernel_rfl
 exact e_.mpr ⟨fun c_3=> (h.1 c_3),fun c_3=> (h.2 c_3)⟩
abbrev ZiP(e:Edit)(x5 x12 x8_a x4_b:Int)(N0:NT)(Q:QT):=AW (Yy ZI) Tryz.f169 YB [1,1,0,1,0,0,1,1,0,0,1,1,1,1] (Z4H e x5 x12 x8_a x4_b) (xB 1 (SW (Yy ZI) Tryz.f169 YB [1,1,0,1,0,0,1,1,1] (xT N0 (xB 0 (SW (Yy ZI) Tryz.f169 YB [1,1,1] Q)))))
theorem Zrw(e:Edit)(x5 x12 x8_a x4_b:Int)(N0:NT)(Q:QT)(h:((((OpOf.kind (e.ops.getD x12.toNat Op.nil)):Int) !=1)=true→N0 (JP e x4_b (if (1048576:Int) < (IntKind.wrap .i64 (x5+x8_a)) then 1048576 else (IntKind.wrap .i64 (x5+x8_a))) (IntKind.wrap .i64 (x12+1))))∧((((OpOf.kind (e.ops.getD x12.toNat Op.nil)):Int) !=1)=false→N0 (JP e x4_b x5 (IntKind.wrap .i64 (x12+1))))):
  ZiP e x5 x12 x8_a x4_b N0 Q:=by
 have e_:(ZiP e x5 x12 x8_a x4_b N0 Q)=(((((OpOf.kind (e.ops.getD x12.toNat Op.nil)):Int) !=1)=true→(N0 (JP e x4_b (if (1048576:Int) < (IntKind.wrap .i64 ((x5:Int)+x8_a)) then 1048576 else (IntKind.wrap .i64 ((x5:Int)+x8_a))) (IntKind.wrap .i64 ((x12:Int)+1)))))∧((((OpOf.kind (e.ops.getD x12.toNat Op.nil)):Int) !=1)=false→(N0 (JP e x4_b x5 (IntKind.wrap .i64 ((x12:Int)+1)))))):=by kernel_rfl
 exact e_.mpr ⟨fun c_4=> (h.1 c_4),fun c_4=> (h.2 c_4)⟩
def ZyL(e:Edit):Prop:=AW (Yy ZI) Tryz.f169 YB [] (Zl (Zpg.can (e,())) []) (EQ Tryz.f169 (ZsL (e,())) [])
theorem Zx0(hb:∀ (e:Edit) (_:Unit),Z8e (e,())→ZyL e):CT 169 Z0V:=
 Zfb (l:=[]) Zo rfl trivial YB Tryz.func169 rfl rfl 1 (fun _=> rfl) (by decide) (fun ⟨e,_⟩=> hb e ())
end
end Go.AM.YtpjenobkibfpcaaGreat
namespace Go.AM.YtpjenobkibfpcaaGreat
open Go.AM Go.Proofs
theorem ZiT{n:Int}(h:InR n):wr n=n:=by
 unfold InR at h
 simp [wr,IntKind.wrap,IntKind.signed,IntKind.bits]
 split <;> omega
theorem ZlU{l:List Op}{i:Int}(n:Int)(h0:0≤i)(h:i < l.length):Z16 (l.drop i.toNat) n=Z16 (l.drop (i+1).toNat) (if (l.getD i.toNat Op.nil).kind=2 then n else Zip (wr (n+Z1q (l.getD i.toNat Op.nil)))):=by
 rw [Y3 h0 h Op.nil,Z16]
theorem ZlT{l:List Op}{i:Int}(n:Int)(h0:0≤i)(h:i < l.length):Z2e (l.drop i.toNat) n=Z2e (l.drop (i+1).toNat) (if (l.getD i.toNat Op.nil).kind=1 then n else Zip (wr (n+Z1q (l.getD i.toNat Op.nil)))):=by
 rw [Y3 h0 h Op.nil,Z2e]
theorem ZqX:Contract Tryz.prog cfg 169 Z0V:=by
 refine Zx0 ?_
 intro e _ hp
 simp only [Z8e] at hp
 have h1:=Yg e
 have h2:=ZQ e.ops
 refine ZDQ _ _ ?_
 refine Za (ι:=Int × Int × Int) (fun s=> JP e s.1 s.2.1 s.2.2) (fun s=> (0≤s.2.2∧s.2.2≤e.ops.length)∧Z16 (e.ops.drop s.2.2.toNat) s.1=Z16 e.ops 0∧Z2e (e.ops.drop s.2.2.toNat) s.2.1=Z2e e.ops 0) (fun s=> ((e.ops.length:Int) - s.2.2).toNat) (0,0,0) rfl ⟨⟨by simp,by simp⟩,rfl,rfl⟩ ?_
 rintro ⟨n,m,i⟩ ⟨⟨g1,g2⟩,g3,g4⟩
 dsimp only at g1 g2 g3 g4
 refine Zrv _ _ _ _ _ _ ?_
 (simp only [vcS])
 refine ⟨fun hi=> ⟨⟨g1,hi⟩,?_⟩,fun hi=> ?_⟩
 ·rw [ZlU _ g1 hi] at g3
  rw [ZlT _ g1 hi] at g4
  have hk:IntKind.wrap .i64 (i+1)=i+1:=ZiT (by unfold InR;omega)
  generalize hy:e.ops.getD i.toNat Op.nil=y at*
  have key:∀ k:Int,k=Z1q y→∀ (Q':AExit→LSt U→Prop),ZiQ e n m i k (fun s2=> ∃ j:Int × Int × Int,s2=JP e j.1 j.2.1 j.2.2∧((0≤j.2.2∧j.2.2≤e.ops.length)∧Z16 (e.ops.drop j.2.2.toNat) j.1=Z16 e.ops 0∧Z2e (e.ops.drop j.2.2.toNat) j.2.1=Z2e e.ops 0)∧((e.ops.length:Int) - j.2.2).toNat < ((e.ops.length:Int) - i).toNat) Q':=by
   rintro k rfl Q'
   have step2:∀ a:Int,a=(if y.kind=2 then n else Zip (wr (n+Z1q y)))→ZiP e m i (Z1q y) a (fun s2=> ∃ j:Int × Int × Int,s2=JP e j.1 j.2.1 j.2.2∧((0≤j.2.2∧j.2.2≤e.ops.length)∧Z16 (e.ops.drop j.2.2.toNat) j.1=Z16 e.ops 0∧Z2e (e.ops.drop j.2.2.toNat) j.2.1=Z2e e.ops 0)∧((e.ops.length:Int) - j.2.2).toNat < ((e.ops.length:Int) - i).toNat) Q':=by
    rintro a ha
    refine Zrw _ _ _ _ _ _ _ ?_
    rw [hy,hk]
    (simp only [vcS])
    rw [←ha] at g3
    refine ⟨fun hb=> ⟨(a,_,i+1),rfl,⟨⟨by dsimp only;omega,by dsimp only;omega⟩,g3,?_⟩,by dsimp only;omega⟩,fun hb=> ⟨(a,_,i+1),rfl,⟨⟨by dsimp only;omega,by dsimp only;omega⟩,g3,?_⟩,by dsimp only;omega⟩⟩
    ·rw [if_neg hb] at g4;exact g4
    ·rw [if_pos hb] at g4;exact g4
   refine Zrx _ _ _ _ _ _ _ ?_
   rw [hy]
   (simp only [vcS])
   exact ⟨fun hb=> step2 _ (by rw [if_neg hb];rfl),fun hb=> step2 _ (by rw [if_pos hb])⟩
  exact ⟨fun hb=> key _ (by unfold Z1q;rw [if_pos hb]) _,fun hb=> key _ (by unfold Z1q;rw [if_neg hb];rfl) _⟩
 ·rw [List.drop_of_length_le (by omega)] at g3 g4
  simp only [Z16,Z2e] at g3 g4
  rw [g3,g4]
  (repeat' (first | exact trivial | exact rfl | apply And.intro))
theorem ZeS:∀ (l:List Op) (n:Int),(∀ o∈l,(0≤o.n∧o.n≤1048576)∧o.l.length≤20000000000)→0≤n→n≤1048576→Z16 l n=Ym l n
 | [],_,_,_,_=> rfl
 | o ::r,n,h,h0,hn=> by
  have ho:=h o (List.mem_cons_self ..)
  have hl:=YV o
  have ew:Z1q o=Z3 o:=by
   unfold Z1q;rw [hl]
   split
   ·try rfl
   ·exact ZiT (by unfold InR;omega)
  have hb:0≤Z3 o∧Z3 o≤60000000000:=by rw [hl];split <;> omega
  simp only [Z16,Ym]
  rw [ew,ZiT (by unfold InR;omega)]
  have e2:(if o.kind=2 then n else Zip (n+Z3 o))=min (if o.kind=2 then n else n+Z3 o) 1048576:=by
   unfold Zip;split
   ·omega
   ·split <;> omega
  rw [e2]
  exact ZeS r _ (fun x hx=> h x (List.mem_cons_of_mem _ hx)) (by split <;> omega) (by omega)
theorem Zkk:∀ (l:List Op) (n:Int),(∀ o∈l,(0≤o.n∧o.n≤1048576)∧o.l.length≤20000000000)→0≤n→n≤1048576→Z2e l n=Jb l n
 | [],_,_,_,_=> rfl
 | o ::r,n,h,h0,hn=> by
  have ho:=h o (List.mem_cons_self ..)
  have hl:=YV o
  have ew:Z1q o=Z3 o:=by
   unfold Z1q;rw [hl]
   split
   ·try rfl
   ·exact ZiT (by unfold InR;omega)
  have hb:0≤Z3 o∧Z3 o≤60000000000:=by rw [hl];split <;> omega
  simp only [Z2e,Jb]
  rw [ew,ZiT (by unfold InR;omega)]
  have e2:(if o.kind=1 then n else Zip (n+Z3 o))=min (if o.kind=1 then n else n+Z3 o) 1048576:=by
   unfold Zip;split
   ·omega
   ·split <;> omega
  rw [e2]
  exact Zkk r _ (fun x hx=> h x (List.mem_cons_of_mem _ hx)) (by split <;> omega) (by omega)
end Go.AM.YtpjenobkibfpcaaGreat
namespace Go.AM.YtpjenobkibfpcaaGreat
open Go.AM Go.Proofs
noncomputable section
noncomputable section
def Zp9:ArgL (List Tree × List Tree × Unit × Unit):=(.cons (aSl .tree) (.cons (aSl .tree) (.cons (aFn 114) .nil)))
def Zeb(a:List Tree × List Tree × Unit × Unit):Prop:=Zh a.1≤1000000000000∧Zh a.2.1≤1000000000000
def ZsJ(a:List Tree × List Tree × Unit × Unit):V U:= .c (.bool (eqX (Zb a.1) (Zb a.2.1)))
def Z6J:Fs U:=fs Zp9 (fun a=> [Zeb a]) ZsJ
def Z1I:List (FuncId × Fs U):=[(114,Jr)]
def Z9M:Zj U:=lvl [([0,1,2],[]),([0,1,2,14],[]),([6],[]),([1,2,15,16,17],[]),([1,2,15,16,17,18],[]),([1,2,7,8,15,16,17],[8]),([1,2,8,9,15,16,17],[8,9]),([1,2,15,16,17,30],[]),([6],[]),([1,2,15,16,17],[]),([6],[])]
def Z2X(a b:List Tree)(f:Unit)(x17:Int):LSt U:=(L2 [(1,.c (sU .tree b .unk)),(2,.fn 114),(15,.c (sU .tree a .unk)),(16,.c (ci (a.length:Int))),(17,.c (ci x17))] [])
abbrev ZEY(a b:List Tree)(f:Unit)(Q:QT):=AW (Z0 Z1I) Tryz.f177 Z9M [] (L2 [(0,.c (sU .tree a .unk)),(1,.c (sU .tree b .unk)),(2,.fn 114)] []) Q
abbrev ZkO:=awp cfg (Z0 Z1I) (ZB cfg (Z0 Z1I)) Tryz.f177.ntmps Z9M
abbrev Zjc:=Z5a cfg (Z0 Z1I) (ZB cfg (Z0 Z1I)) Tryz.f177.ntmps Z9M
theorem ZDI(a b:List Tree)(f:Unit)(Q:QT)(h:((((a.length:Int):Int) !=(b.length:Int))=true→Q .ret (L2 [(6,.c (.bool false))] []))∧((((a.length:Int):Int) !=(b.length:Int))=false→Zf (AW (Z0 Z1I) Tryz.f177 Z9M [1,1,0,1,0,0]) (Z2X a b f 0) (xB 0 (SW (Z0 Z1I) Tryz.f177 Z9M [1,1,1] Q)))):
  ZEY a b f Q:=by
 have e_:(ZEY a b f Q)=((((a.length:Int) !=(b.length:Int))=true→(Q .ret (L2 [(6,.c (.bool false))] [])))∧(((a.length:Int) !=(b.length:Int))=false→(Zf (ZkO (cd Tryz.f177 [1,1,0,1,0,0])) (Z2X a b f 0) (xB 0 (Zjc (cd Tryz.f177 [1,1,1]) Q))))):=by kernel_rfl
 exact e_.mpr ⟨fun c_4=> (h.1 c_4),fun c_4=> (h.2 c_4)⟩
abbrev ZpC(a b:List Tree)(f:Unit)(x17:Int)(N0:NT)(Q:QT):=AW (Z0 Z1I) Tryz.f177 Z9M [1,1,0,1,0,0] (Z2X a b f x17) (xT N0 (xB 0 (SW (Z0 Z1I) Tryz.f177 Z9M [1,1,1] Q)))
theorem Zrt(a b:List Tree)(f:Unit)(x17:Int)(N0:NT)(Q:QT)(h:((decide (x17 < (a.length:Int)))=true→((0:Int)≤x17∧x17 < (a.length:Int))∧(((0:Int)≤x17∧x17 < (b.length:Int))∧((Z29 ((Tree.mk (Tree.kind (a.getD x17.toNat Tree.nil)) (Tree.words (a.getD x17.toNat Tree.nil)) (Tree.kids (a.getD x17.toNat Tree.nil))),(Tree.mk (Tree.kind (b.getD x17.toNat Tree.nil)) (Tree.words (b.getD x17.toNat Tree.nil)) (Tree.kids (b.getD x17.toNat Tree.nil))),()))∧(((!(Jp (Zd (Tree.mk (Tree.kind (a.getD x17.toNat Tree.nil)) (Tree.words (a.getD x17.toNat Tree.nil)) (Tree.kids (a.getD x17.toNat Tree.nil)))) (Zd (Tree.mk (Tree.kind (b.getD x17.toNat Tree.nil)) (Tree.words (b.getD x17.toNat Tree.nil)) (Tree.kids (b.getD x17.toNat Tree.nil))))))=true→Q .ret (L2 [(6,.c (.bool false))] []))∧((!(Jp (Zd (Tree.mk (Tree.kind (a.getD x17.toNat Tree.nil)) (Tree.words (a.getD x17.toNat Tree.nil)) (Tree.kids (a.getD x17.toNat Tree.nil)))) (Zd (Tree.mk (Tree.kind (b.getD x17.toNat Tree.nil)) (Tree.words (b.getD x17.toNat Tree.nil)) (Tree.kids (b.getD x17.toNat Tree.nil))))))=false→(InR (x17+1))∧(N0 (Z2X a b f (x17+1))))))))∧((decide (x17 < (a.length:Int)))=false→Q .ret (L2 [(6,.c (.bool true))] []))):
  ZpC a b f x17 N0 Q:=by
 have e_:(ZpC a b f x17 N0 Q)=(let zz0:=(!(Jp (Zd (Tree.mk (Tree.kind (a.getD x17.toNat Tree.nil)) (Tree.words (a.getD x17.toNat Tree.nil)) (Tree.kids (a.getD x17.toNat Tree.nil)))) (Zd (Tree.mk (Tree.kind (b.getD x17.toNat Tree.nil)) (Tree.words (b.getD x17.toNat Tree.nil)) (Tree.kids (b.getD x17.toNat Tree.nil))))));(((decide ((x17:Int) < (a.length:Int)))=true→((0:Int)≤x17∧x17 < (a.length:Int))∧(((0:Int)≤x17∧x17 < (b.length:Int))∧((Z29 ((Tree.mk (Tree.kind (a.getD x17.toNat Tree.nil)) (Tree.words (a.getD x17.toNat Tree.nil)) (Tree.kids (a.getD x17.toNat Tree.nil))),(Tree.mk (Tree.kind (b.getD x17.toNat Tree.nil)) (Tree.words (b.getD x17.toNat Tree.nil)) (Tree.kids (b.getD x17.toNat Tree.nil))),()))∧((zz0=true→(Q .ret (L2 [(6,.c (.bool false))] [])))∧(zz0=false→(InR ((x17:Int)+1))∧(N0 (Z2X a b f ((x17:Int)+1))))))))∧((decide ((x17:Int) < (a.length:Int)))=false→(Q .ret (L2 [(6,.c (.bool true))] []))))):=by kernel_rfl
 exact e_.mpr ⟨fun c_5=> ⟨(h.1 c_5).1,⟨(h.1 c_5).2.1,⟨(h.1 c_5).2.2.1,⟨fun c_6=> ((h.1 c_5).2.2.2.1 c_6),fun c_6=> ⟨((h.1 c_5).2.2.2.2 c_6).1,((h.1 c_5).2.2.2.2 c_6).2⟩⟩⟩⟩⟩,fun c_5=> (h.2 c_5)⟩
def ZyD(a b:List Tree)(f:Unit):Prop:=AW (Z0 Z1I) Tryz.f177 Z9M [] (Zl (Zp9.can (a,b,f,())) []) (EQ Tryz.f177 (ZsJ (a,b,f,())) [])
theorem ZwS(Zit:CT 114 Jr)(hb:∀ (a:List Tree) (b:List Tree) (f:Unit) (_:Unit),Zeb (a,b,f,())→ZyD a b f):CT 177 Z6J:=
 Z4 (l:=[(114,Jr)]) Zo rfl (⟨Zit,trivial⟩) Z9M Tryz.func177 rfl rfl 3 (fun _=> rfl) (by decide) (fun ⟨a,b,f,_⟩=> hb a b f ())
end
end
end Go.AM.YtpjenobkibfpcaaGreat
namespace Go.AM.YtpjenobkibfpcaaGreat
open Go.AM Go.Proofs
theorem ZBO:Contract Tryz.prog cfg 177 Z6J:=by
 refine ZwS Zit ?_
 intro a b f _ hp
 simp only [Zeb] at hp
 refine ZDI a b f _ ?_
 (simp only [vcS])
 refine ⟨fun hc=> Z5 rfl (Z5u (a:=Zb a) (b:=Zb b) (fun h=> hc (by have:=congrArg List.length h;simp [Zb] at this;omega))).symm,fun hc=> ?_⟩
 have hl:a.length=b.length:=by omega
 have hla:=ZA a
 refine Za (ι:=Int) (fun i=> Z2X a b f i) (fun i=> 0≤i∧i≤a.length∧∀ j:Nat,(j:Int) < i→Zd (a.getD j Tree.nil)=Zd (b.getD j Tree.nil)) (fun i=> ((a.length:Int) - i).toNat) 0 rfl ⟨by omega,by omega,by intro j hj;omega⟩ ?_
 rintro i ⟨h1,h2,h3⟩
 refine Zrt a b f _ _ _ ?_
 (simp only [vcS])
 (simp only [Tree.eta,Edit.eta,Tree.kind_mk,Tree.words_mk,Tree.kids_mk])
 refine ⟨fun hi=> ⟨⟨h1,hi⟩,⟨h1,by omega⟩,?_,fun hq=> ?_,fun hq=> ⟨by unfold InR;omega,i+1,rfl,⟨by omega,by omega,?_⟩,by omega⟩⟩,fun hi=> ?_⟩
 ·have:=YO (Zi (l:=a) (i:=i.toNat) (by omega) Tree.nil)
  have:=YO (Zi (l:=b) (i:=i.toNat) (by omega) Tree.nil)
  simp only [Z29];omega
 ·refine Z5 rfl (Z5u (a:=Zb a) (b:=Zb b) (fun h=> ?_)).symm
  have h5:=Zco (d:=Tree.nil) h i.toNat
  rw [J2] at hq
  exact hq h5
 ·intro j hj
  by_cases hj2:(j:Int) < i
  ·exact h3 j hj2
  ·rw [JB,show i.toNat=j by omega] at hq
   exact hq
 ·exact Z5 rfl (Z1a (a:=Zb a) (b:=Zb b).2 (Zkd Tree.nil hl (fun j hj=> h3 j (by omega)))).symm
end Go.AM.YtpjenobkibfpcaaGreat
