import Derived.Test.YtpjenobkibfpcaaCL25j
import Derived.Test.YtpjenobkibfpcaaKL22
import Derived.Test.YtpjenobkibfpcaaKL21a
import Derived.Test.YtpjenobkibfpcaaKC34
set_option linter.unusedSimpArgs false
set_option linter.unusedVariables false
namespace Go.AM.Ytpjenobkibfpcaa
open Go.AM Go.Proofs
theorem ZaY{D list:Int}:∀ {l:List Tree},Yg D list l=true→Yg (-1) list l=true
 | [],_=> rfl
 | t ::r,h=> by
  simp only [Yg,Bool.and_eq_true] at h ⊢
  exact ⟨Jn _ _ _ (by decide) h.1,ZaY h.2⟩
mutual
theorem JF:∀ (e:Edit) (d m:Int),m < 0→Z4 e d=true→Z4 e m=true
 | .mk k o n w ks l os,d,m,hm,h=> by
  have h1:=Z9H ks
  have h2:=Z9E l os
  rw [Z4] at h ⊢
  split at h
  ·cases h
  ·rename_i a
   rw [if_neg (by omega)]
   split at h
   ·cases h
   ·rename_i b
    rw [if_neg b]
    split at h
    ·rename_i c
     rw [if_pos c,ZcA hm]
     simp only [Bool.and_eq_true] at h ⊢
     exact ⟨⟨Jn _ _ _ (by decide) h.1.1,Jn _ _ _ (by decide) h.1.2⟩,h.2⟩
    ·rename_i c
     rw [if_neg c]
     simp only [Bool.and_eq_true] at h ⊢
     exact ⟨⟨⟨⟨h.1.1.1.1,h1 _ _ (m - 1) (by omega) h.1.1.1.2⟩,h.1.1.2⟩,h2 _ (m - 1) (by omega) h.1.2⟩,h.2⟩
theorem Z9H:∀ (ks:List (KidOf Edit)) (last d m:Int),m < 0→Zu last ks d=true→Zu last ks m=true
 | [],_,_,_,_,_=> rfl
 | k ::r,last,d,m,hm,h=> by
  simp only [Zu,Bool.and_eq_true] at h ⊢
  exact ⟨ZeG k last d m hm h.1,Z9H r k.at_ d m hm h.2⟩
theorem ZeG:∀ (k:KidOf Edit) (last d m:Int),m < 0→Yx last k d=true→Yx last k m=true
 | ⟨a,e⟩,last,d,m,hm,h=> by
  simp only [Yx,Bool.and_eq_true] at h ⊢
  exact ⟨h.1,JF e d m hm h.2⟩
theorem Z9E(list:Int):∀ (os:List (OpOf Edit)) (d m:Int),m < 0→Zq list os d=true→Zq list os m=true
 | [],_,_,_,_=> rfl
 | o ::r,d,m,hm,h=> by
  simp only [Zq,Bool.and_eq_true] at h ⊢
  exact ⟨Zgi list o d m hm h.1,Z9E list r d m hm h.2⟩
theorem Zgi(list:Int):∀ (o:OpOf Edit) (d m:Int),m < 0→Z7 list o d=true→Z7 list o m=true
 | ⟨k,n,l,e⟩,d,m,hm,h=> by
  have he:=JF e d m hm
  rw [Z7] at h ⊢
  split at h
  ·rename_i h0;rw [if_pos h0];exact h
  ·rename_i h0
   rw [if_neg h0]
   split at h
   ·cases h
   ·rename_i h1
    rw [if_neg h1]
    split at h
    ·rename_i h2
     rw [if_pos h2,ZcA hm]
     simp only [Bool.and_eq_true] at h ⊢
     exact ⟨⟨ZaY h.1.1,h.1.2⟩,h.2⟩
    ·rename_i h2
     rw [if_neg h2]
     simp only [Bool.and_eq_true] at h ⊢
     exact ⟨⟨h.1.1,he h.1.2⟩,h.2⟩
end
structure Wk (e:Edit):Prop where
 r:Z4 e (-1)=true
 g:Ym e
theorem Wk.of{e:Edit}{d:Int}(h:Z4 e d=true)(g:Ym e):Wk e:=⟨JF e d _ (by decide) h,g⟩
theorem Js{n:Int}(h0:0≤n)(h9:n≤9):isI n:=by unfold isI;omega
theorem Zdy{o n:Tree}(h1:Ze o (-1)=true)(h2:Ze n (-1)=true)(h3:o.kind≠10)(h4:n.kind≠10):Z4 (.mk 1 o n [] [] 0 []) (-1)=true:=by
 rw [Z4,if_neg (by decide),if_neg (by simp),if_pos rfl,ZcA (by decide),h1,h2]
 simpa using ⟨h3,h4⟩
theorem ZlA{w:List WEdit}{ks:List Kid}(h1:ZI (-1) w=true)(h2:Zu (-1) ks (-2)=true):Z4 (.mk 2 Tree.nil Tree.nil w ks 0 []) (-1)=true:=by
 rw [Z4,if_neg (by decide),if_neg (by simp [J7,Tree.nil]),if_neg (by decide),h1,show (-1:Int) - 1= -2 from rfl,h2]
 simp [Zq,Yj,Jk]
theorem Zlz{l:Int}{os:List Op}(hl:2≤l∧l≤9)(h:Zq l os (-2)=true)(h1:Yj os 0 < 1048576)(h2:Jk os 0 < 1048576):Z4 (.mk 3 Tree.nil Tree.nil [] [] l os) (-1)=true:=by
 rw [Z4,if_neg (by decide),if_neg (by simp [J7,Tree.nil]),if_neg (by decide),show (-1:Int) - 1= -2 from rfl,h]
 simp only [ZI,Zu,Bool.true_and,Bool.and_true,Bool.and_eq_true,decide_eq_true_eq]
 exact ⟨by omega,h1,h2⟩
theorem ZaR:∀ {l:List WEdit} {last:Int},asc WEdit.at_ last l→(∀ w∈l,w.at_≤65534∧w.mask≠0∧Yl w.old w.mask=true∧Yl w.new w.mask=true)→ZI last l=true
 | [],_,_,_=> rfl
 | a ::r,last,h,hw=> by
  obtain ⟨h1,h2,h3,h4⟩:=hw a List.mem_cons_self
  simp only [ZI,Bool.and_eq_true,decide_eq_true_eq]
  exact ⟨⟨⟨⟨h.1,h1,h2⟩,h3⟩,h4⟩,ZaR h.2 fun w hw'=> hw w (List.mem_cons_of_mem _ hw')⟩
theorem Zby{d:Int}:∀ {l:List Kid} {last:Int},asc KidOf.at_ last l→(∀ k∈l,k.at_≤65534∧k.e.kind≠0∧Z4 k.e d=true)→Zu last l d=true
 | [],_,_,_=> rfl
 | a ::r,last,h,hw=> by
  obtain ⟨h1,h2,h3⟩:=hw a List.mem_cons_self
  simp only [Zu,Z2J,Bool.and_eq_true,decide_eq_true_eq]
  exact ⟨⟨⟨h.1,h1,h2⟩,h3⟩,Zby h.2 fun w hw'=> hw w (List.mem_cons_of_mem _ hw')⟩
theorem Zbw{list d:Int}:∀ {l:List Op},(∀ o∈l,Z7 list o d=true)→Zq list l d=true
 | [],_=> rfl
 | a ::r,h=> by
  simp only [Zq,Bool.and_eq_true]
  exact ⟨h a List.mem_cons_self,Zbw fun o ho=> h o (List.mem_cons_of_mem _ ho)⟩
theorem Z39{D list:Int}:∀ {l:List Tree},(∀ t∈l,Ze (.mk list [] [t]) D=true)→Yg D list l=true
 | [],_=> rfl
 | t ::r,h=> by
  simp only [Yg,Bool.and_eq_true]
  exact ⟨h t List.mem_cons_self,Z39 fun x hx=> h x (List.mem_cons_of_mem _ hx)⟩
theorem Zdx{list:Int}(hl:2≤list∧list≤9){t:Tree}(h1:Z1t list t=true)(h2:Ze t (-1)=true):Ze (.mk list [] [t]) (-1)=true:=
 Zbv hl (by simp) fun k hk=> by rw [List.mem_singleton.1 hk];exact ⟨h1,h2⟩
theorem Zr9{list n:Int}(h1:1≤n)(h2:n≤1048576)(d:Int):Z7 list ⟨0,n,[],Edit.nil⟩ d=true:=by
 rw [Z7,if_pos rfl,Z2a]
 simp only [List.length_nil,Bool.and_true,decide_eq_true_eq]
 exact ⟨h1,h2,trivial⟩
theorem Z7A{list k d:Int}{l:List Tree}(hk:k=1∨k=2)(h:Yg (dT d) list l=true)(hl:l≠[]):Z7 list ⟨k,0,l,Edit.nil⟩ d=true:=by
 rw [Z7,if_neg (by omega),if_neg (by omega),if_pos (by omega),Z2a,h]
 have:=List.length_pos_iff.2 hl
 simp only [Bool.true_and,Bool.and_true,decide_eq_true_eq]
 omega
theorem Zk0{list d:Int}{e:Edit}(h:Z4 e d=true)(h0:e.kind≠0)(hl:7 < list)(hw:list=8∨e.kind=2∨e.kind=1∧e.old.kind=1∧e.new.kind=1):Z7 list ⟨3,0,[],e⟩ d=true:=by
 rw [Z7,if_neg (by decide),if_neg (by decide),if_neg (by decide),h]
 simp only [List.length_nil,Bool.and_true,Bool.and_eq_true,decide_eq_true_eq]
 exact ⟨⟨trivial,h0,hl⟩,hw⟩
def Wl(list:Int)(e:Edit):Prop:=list=8∨e.kind=2∨e.kind=1∧e.old.kind=1∧e.new.kind=1
theorem Z0i(t:Tree):(Z3 t).kind=t.kind:=Z1W t
theorem Zd8{w m:Int}(h:∀ i,i < 8→JY m (i:Nat)=false→Zd w i=0):Yl w m=true:=by
 unfold Yl mix of8
 rw [decide_eq_true_eq]
 have z:∀ i,i < 8→YU w 0 m i=0:=by
  intro i hi
  unfold YU
  split
  ·exact Ztt i
  ·rename_i hn;exact h i hi (by simpa using hn)
 rw [z 0 (by omega),z 1 (by omega),z 2 (by omega),z 3 (by omega),z 4 (by omega),z 5 (by omega),z 6 (by omega),z 7 (by omega)]
 try rfl
theorem Zqe {a b:WEdit} (ra:Z2w a) (rb:Z2w b) (ha:a.at_≤65534∧a.mask≠0∧Yl a.old a.mask=true∧Yl a.new a.mask=true) (hb:Yl b.old b.mask=true∧Yl b.new b.mask=true)
  (hc:(JQ a b).2=true):((JQ a b).1.at_≤65534∧(JQ a b).1.mask≠0∧Yl (JQ a b).1.old (JQ a b).1.mask=true∧Yl (JQ a b).1.new (JQ a b).1.mask=true)∧Z2w (JQ a b).1:=by
 have hw:Zfv a b=true:=by
  unfold JQ at hc
  split at hc
  ·assumption
  ·cases hc
 have e:(JQ a b).1=⟨a.at_,orM a.mask b.mask,mix b.old a.old a.mask,mix a.new b.new b.mask⟩:=by unfold JQ;rw [if_pos hw]
 obtain ⟨m1,m2⟩:=ZtZ ra.2.1 rb.2.1
 rw [e]
 dsimp only
 refine ⟨⟨ha.1,fun h=> ?_,Zd8 fun i hi hn=> ?_,Zd8 fun i hi hn=> ?_⟩,ra.1,m1,Zf7 _ _ _,Zf7 _ _ _⟩
 ·refine ha.2.1 ?_
  have z:∀ i:Nat,JY a.mask (i:Int)=false:=by
   intro i
   have:=m2 i
   rw [h] at this
   have z0:JY 0 (i:Int)=false:=by unfold JY;simp
   rw [z0] at this
   cases hn:JY a.mask (i:Int) with
   | false=> rfl
   | true=> rw [hn] at this;simp at this
  have h0:=z 0;have h1:=z 1;have h2:=z 2;have h3:=z 3;have h4:=z 4;have h5:=z 5;have h6:=z 6;have h7:=z 7
  have:=ra.2.1
  simp only [JY,decide_eq_false_iff_not,Int.toNat_natCast] at h0 h1 h2 h3 h4 h5 h6 h7
  omega
 ·rw [m2 i] at hn
  simp only [Bool.or_eq_false_iff] at hn
  rw [Zou hi,if_neg (by rw [hn.1];decide)]
  exact Z9v hb.1 hi hn.2
 ·rw [m2 i] at hn
  simp only [Bool.or_eq_false_iff] at hn
  rw [Zou hi,if_neg (by rw [hn.2];decide)]
  exact Z9v ha.2.2.2 hi hn.1
def Z76{β:Type}(φ:β→Nat):List β→Nat
 | []=> 0
 | a ::r=> φ a+Z76 φ r
theorem ZdS{β:Type}{at_:β→Int}{one:β→β→β × Bool}(φ:β→Nat):∀ (k:Nat) (p q L:List β),p.length+q.length≤k→(∀ a∈p,∀ b∈q,(one a b).2=true→φ (one a b).1≤φ a+φ b)→Zm at_ one p q=some L→Z76 φ L≤Z76 φ p+Z76 φ q:=by
 intro k
 induction k with
 | zero=>
  intro p q L hk _ h
  have e1:p=[]:=List.eq_nil_of_length_eq_zero (by omega)
  have e2:q=[]:=List.eq_nil_of_length_eq_zero (by omega)
  subst e1 e2
  rw [Zm] at h
  cases h
  simp [Z76]
 | succ k ih=>
  intro p q L hk ho h
  match p,q with
  | [],q=> rw [Zm] at h;cases h;simp [Z76]
  | a ::p,[]=> rw [Zm] at h;cases h;simp [Z76]
  | a ::p,b ::q=>
   simp only [List.length_cons] at hk
   rw [Zm] at h
   split at h
   ·obtain ⟨L',hL,rfl⟩:=Option.map_eq_some_iff.1 h
    have:=ih p (b ::q) L' (by simp only [List.length_cons];omega) (fun x hx y hy=> ho x (List.mem_cons_of_mem _ hx) y hy) hL
    simp only [Z76] at this ⊢;omega
   ·split at h
    ·obtain ⟨L',hL,rfl⟩:=Option.map_eq_some_iff.1 h
     have:=ih (a ::p) q L' (by simp only [List.length_cons];omega) (fun x hx y hy=> ho x hx y (List.mem_cons_of_mem _ hy)) hL
     simp only [Z76] at this ⊢;omega
    ·split at h
     ·rename_i hc
      obtain ⟨L',hL,rfl⟩:=Option.map_eq_some_iff.1 h
      have:=ih p q L' (by omega) (fun x hx y hy=> ho x (List.mem_cons_of_mem _ hx) y (List.mem_cons_of_mem _ hy)) hL
      have:=ho a List.mem_cons_self b List.mem_cons_self hc
      simp only [Z76] at*;omega
     ·cases h
theorem Zax:∀ l:List Kid,Z76 Z2u l=Z03 l
 | []=> rfl
 | k ::r=> by simp only [Z76,Z03,Zax r]
theorem Z75{β:Type}:∀ l:List β,Z76 (fun _=> 1) l=l.length
 | []=> rfl
 | k ::r=> by simp only [Z76,List.length_cons,Z75 r];omega
theorem Zgc:∀ {l:List Kid},(∀ k∈l,isI k.at_∧Ym k.e)→Z0k l
 | [],_=> trivial
 | ⟨a,e⟩ ::r,h=> ⟨h _ List.mem_cons_self,Zgc fun k hk=> h k (List.mem_cons_of_mem _ hk)⟩
theorem Zgb:∀ {l:List Op},(∀ o∈l,Yb o)→JC l
 | [],_=> trivial
 | o ::r,h=> ⟨h _ List.mem_cons_self,Zgb fun k hk=> h k (List.mem_cons_of_mem _ hk)⟩
structure ComWk (K:Prop) (c:Edit × Bool) (p q:Edit):Prop where
 wk:c.2=true→Wk c.1
 ct:K→c.2=true→ctE c.1+18≤ctE p+ctE q
 kind:p.kind≠0→q.kind≠0→c.2=true→c.1.kind≠0
 wl:∀ list,7 < list→list≤9→p.kind≠0→q.kind≠0→c.2=true→Wl list p→Wl list q→Wl list c.1
theorem Zfs{e:Edit}{t:Tree}(h:(doB e t).2=true):∃ v,doE false e t=some v∧(doB e t).1=Z3 v:=by
 unfold doB at h ⊢
 cases hv:doE false e t with
 | none=> rw [hv] at h;cases h
 | some v=> exact ⟨v,rfl,rfl⟩
theorem Z2H{t:Tree}{d:Int}(h:Ze t d=true):Ze (Z3 t) d=true:=Z2I t d h
theorem Wk.turn{p:Edit}(h:Wk p):Wk (ZA (ZM p)):=⟨J1 _ _ (JD _ _ h.r),Z1S _ _ (JD _ _ h.r) (Z5v _ h.g)⟩
theorem Za9{list:Int}(hl:2≤list∧list≤9){e:Edit}{t u:Tree}{d:Int}(hr:Z4 e d=true)(hd:doE false e t=some u)(h7:7 < list)(hw:Wl list e)(h0:e.kind≠0)(ht:Ze t (-1)=true):Z1t list u=true:=by
 obtain ⟨j1,j2,_,_⟩:=Z8w hr hd
 unfold Z1t
 rw [if_neg (by omega)]
 by_cases hl9:list=9
 ·rw [if_pos hl9]
  refine decide_eq_true ?_
  rcases hw with q | q | q
  ·omega
  ·exact (j2 q).1
  ·rw [j1 q.1];exact q.2.2
 ·rw [if_neg hl9]
  exact decide_eq_true ((Z3w _ e d t u (Nat.le_refl _) hr ht hd).2 h0)
theorem Zco{list:Int}(h7:7 < list){u:Tree}(h:Z1t list u=true):Z1t list (Z3 u)=true:=by
 unfold Z1t at h ⊢
 rw [if_neg (by omega)] at h ⊢
 rw [Z0i]
 exact h
theorem ZrV {K:Prop} {f:Edit→Edit→Edit × Bool} {p q:Edit} (wp:Wk p) (wq:Wk q) (p3:p.kind=3) (hl:p.list=q.list)
  (ih:∀ a b,Z6 a+Z6 b < Z6 p+Z6 q→Wk a→Wk b→ComWk K (f a b) a b) {ps:List Piece} (e:(ZX 1 2 p.ops q.ops []).1=ps) (hb1:(ZX 1 2 p.ops q.ops []).2.1=true) {ops:List Op} (hc:Z0J f ps=some ops):
  (∀ o∈ops,Z7 p.list o (-2)=true∧Yb o)∧Y3 ops=Y3 p.ops∧YO ops=YO q.ops∧(K→YA ops≤YA p.ops+YA q.ops):=by
 have rp:=Zw wp.r
 have rq:=Zw wq.r
 have gp:=YK wp.g
 have gq:=YK wq.g
 have hli:=rp.list p3
 have op:=JE wp.r
 have oq:=JE wq.r
 have rpo:Zq p.list p.ops (-2)=true:=rp.ops
 have rqo:Zq p.list q.ops (-2)=true:=by rw [hl];exact rq.ops
 obtain ⟨i1,_⟩:=ZbU _ p.ops q.ops [] (Nat.le_refl _) op oq
 obtain ⟨ps0,e0,hps,_,_⟩:=i1 hb1
 obtain ⟨ps1,e1,sA,sB,hlen⟩:=ZbT Ztw Ztv 1 _ p.ops q.ops [] (Nat.le_refl _) op oq hb1
 obtain ⟨ps2,e2,sC,sD,_⟩:=ZbT Ztu Ztu 1 _ p.ops q.ops [] (Nat.le_refl _) op oq hb1
 rw [e,List.nil_append] at e0 e1 e2
 subst e0 e1 e2
 have side:∀ x∈ps,(x.of≠2→Z7 p.list x.p (-2)=true∧Yb x.p)∧(x.of≠1→Z7 p.list x.q (-2)=true∧Yb x.q):=by
  have one:∀ (l:List Op) (o:Op),(∀ o'∈l,Z7 p.list o' (-2)=true)→JC l→Part l o→YG o→Z7 p.list o (-2)=true∧Yb o:=by
   intro l o hr hg ⟨o',m,k,e1,_,lt⟩ ho
   have R:=Zx (hr o' m)
   have G:=Z0w (Z0Y hg m)
   obtain ⟨kk,nn,ll,ee⟩:=o
   have k:kk=o'.kind:=k
   have e1:ee=o'.e:=e1
   have lt:∀ t∈ll,t∈o'.l:=lt
   have gl:Y7 ll:=Z7n fun t ht=> Jh G.2.2.1 (lt t ht)
   cases R with
   | keep n1 a1 a2=>
    have k:kk=0:=k
    have e1:ee=Edit.nil:=e1
    subst k e1
    rcases ho with h | h | h
    ·have hl:ll=[]:=h.2.1
     subst hl
     have h3:1≤nn∧nn≤1048576:=h.2.2.1
     exact ⟨Zr9 h3.1 h3.2 _,Js (by decide) (by decide),by unfold isI;omega,trivial,G.2.2.2⟩
    ·have:=h.1;omega
    ·have:=h.1;omega
   | gone l1 a1 a2=>
    have k:kk=1:=k
    have e1:ee=Edit.nil:=e1
    subst k e1
    rcases ho with h | h | h
    ·have:=h.1;omega
    ·have hn:nn=0:=h.2.1
     subst hn
     exact ⟨Z7A (.inl rfl) (Z39 fun t ht=> Z2z a1 t (lt t ht)) h.2.2.1,Js (by decide) (by decide),Js (by decide) (by decide),gl,G.2.2.2⟩
    ·have:=h.1;omega
   | come l1 a1 a2=>
    have k:kk=2:=k
    have e1:ee=Edit.nil:=e1
    subst k e1
    rcases ho with h | h | h
    ·have:=h.1;omega
    ·have hn:nn=0:=h.2.1
     subst hn
     exact ⟨Z7A (.inr rfl) (Z39 fun t ht=> Z2z a1 t (lt t ht)) h.2.2.1,Js (by decide) (by decide),Js (by decide) (by decide),gl,G.2.2.2⟩
    ·have:=h.1;omega
   | into e2 a1 a2 a3 a4=>
    have k:kk=3:=k
    have e1:ee=e2:=e1
    subst k e1
    rcases ho with h | h | h
    ·have:=h.1;omega
    ·have:=h.1;omega
    ·have hn:nn=0:=h.2.1
     have hl:ll=[]:=h.2.2
     subst hn hl
     exact ⟨Zk0 a1 a2 a3 a4,Js (by decide) (by decide),Js (by decide) (by decide),trivial,G.2.2.2⟩
  intro x hx
  have X:=hps x hx
  exact ⟨fun h=> one p.ops x.p (fun o ho=> rightOs_mem rpo ho) gp.2.2.2.2 (X.pp h).1 (X.pp h).2,fun h=> one q.ops x.q (fun o ho=> rightOs_mem rqo ho) gq.2.2.2.2 (X.qq h).1 (X.qq h).2⟩
 have one:∀ x∈ps,(YZ f x).ok=true→((YZ f x).is=true→Z7 p.list (YZ f x).op (-2)=true∧Yb (YZ f x).op)∧
   (φA (YZ f x).op*(if (YZ f x).is then 1 else 0)=(if x.of=2 then 0 else φA x.p))∧(φB (YZ f x).op*(if (YZ f x).is then 1 else 0)=(if x.of=1 then 0 else φB x.q))∧
   (K→(YZ f x).is=true→φC (YZ f x).op≤(if x.of=2 then 0 else φC x.p)+(if x.of=1 then 0 else φC x.q)):=by
  intro x hx hok
  have X:=hps x hx
  obtain ⟨s1,s2⟩:=side x hx
  have cnn:∀ o:Op,0≤φC o:=fun o=> by unfold φC;have:=Z9o o.e;omega
  unfold YZ at hok ⊢
  by_cases c1:x.of=1∨(x.of=0∧x.q.kind=0)
  ·rw [if_pos c1] at hok ⊢
   dsimp only
   have h2:x.of≠2:=by omega
   rw [if_pos rfl,if_neg h2,if_neg h2]
   refine ⟨fun _=> s1 h2,by omega,?_,fun _ _=> ?_⟩
   ·rcases c1 with c | ⟨c,c'⟩
    ·rw [if_pos c];unfold φB;rw [if_pos (X.one c)];try rfl
    ·rw [if_neg (by omega)]
     obtain ⟨b1,b2,b3⟩:=X.both c
     unfold φB
     rw [if_neg b1,if_neg (by omega),b3];omega
   ·have:=cnn x.q
    split <;> omega
  rw [if_neg c1] at hok ⊢
  by_cases c2:x.of=2∨x.p.kind=0
  ·rw [if_pos c2] at hok ⊢
   dsimp only
   have h2:x.of≠1:=by omega
   rw [if_pos rfl,if_neg h2,if_neg h2]
   refine ⟨fun _=> s2 h2,?_,by omega,fun _ _=> ?_⟩
   ·by_cases c:x.of=2
    ·rw [if_pos c];unfold φA;rw [if_pos (X.two c)];try rfl
    ·rw [if_neg c]
     have c0:x.of=0:=by rcases X.of with h | h | h <;> omega
     obtain ⟨b1,b2,b3⟩:=X.both c0
     unfold φA
     rw [if_neg b2,if_neg (by omega),b3];omega
   ·have:=cnn x.p
    split <;> omega
  rw [if_neg c2] at hok ⊢
  have c0:x.of=0:=by rcases X.of with h | h | h <;> omega
  obtain ⟨b1,b2,b3⟩:=X.both c0
  have h1:x.of≠1:=by omega
  have h2:x.of≠2:=by omega
  obtain ⟨u1,u2⟩:=s1 h2
  obtain ⟨v1,v2⟩:=s2 h1
  have ok1:=(X.pp h2).2
  have ok2:=(X.qq h1).2
  have kp:x.p.kind=2∨x.p.kind=3:=by rcases Z10 ok1 with k | k | k | k <;> omega
  have kq:x.q.kind=1∨x.q.kind=3:=by rcases Z10 ok2 with k | k | k | k <;> omega
  rw [if_neg h2,if_neg h2,if_neg h1,if_neg h1]
  by_cases c3:x.p.kind=2∧x.q.kind=1
  ·rw [if_pos c3] at hok ⊢
   dsimp only
   refine ⟨fun h=> (by cases h),?_,?_,fun _ h=> by cases h⟩
   ·unfold φA;rw [if_pos c3.1];try rfl
   ·unfold φB;rw [if_pos c3.2];try rfl
  rw [if_neg c3] at hok ⊢
  have one3:∀ o:Op,o.kind=3→Z7 p.list o (-2)=true→Yb o→(7 < p.list∧o.e.kind≠0∧Wl p.list o.e∧Wk o.e)∧o.l=[]:=by
   intro o k hr hg
   have R:=Zx hr
   cases R with
   | keep | gone | come=> exact absurd k (by simp)
   | into e a1 a2 a3 a4=> exact ⟨⟨a3,a2,a4,⟨JF _ _ _ (by decide) a1,(Z0w hg).2.2.2⟩⟩,rfl⟩
  have one12:∀ o:Op,(o.kind=1∨o.kind=2)→Z0 o=1→YG o→Z7 p.list o (-2)=true→Yb o→∃ t,o.l=[t]∧Z1t p.list t=true∧Ze t (-1)=true∧rng t∧o.e=Edit.nil:=by
   intro o k h1 ho hr hg
   have hlen:=Yz ho k
   have hl1:o.l.length=1:=by omega
   obtain ⟨t,ht⟩:∃ t,o.l=[t]:=by
    match h:o.l,hl1 with
    | [t],_=> exact ⟨t,rfl⟩
   have R:=Zx hr
   have gt:=(Z0w hg).2.2.1
   rw [ht] at gt
   refine ⟨t,ht,?_⟩
   cases R with
   | keep=> exact absurd k (by simp)
   | into=> exact absurd k (by simp)
   | gone l a1 a2=> exact ⟨(Z05 hli a1 t (by have ht:l=[t]:=ht;rw [ht];simp)).1,(Z05 hli a1 t (by have ht:l=[t]:=ht;rw [ht];simp)).2,gt.1,rfl⟩
   | come l a1 a2=> exact ⟨(Z05 hli a1 t (by have ht:l=[t]:=ht;rw [ht];simp)).1,(Z05 hli a1 t (by have ht:l=[t]:=ht;rw [ht];simp)).2,gt.1,rfl⟩
  by_cases c4:x.p.kind=2
  ·rw [if_pos c4] at hok ⊢
   have q3':x.q.kind=3:=by omega
   have hl1:Z0 x.q=1:=Z2N q3'
   obtain ⟨t,ht,t1,t2,t3,t4⟩:=one12 x.p (.inr c4) (by omega) ok1 u1 u2
   obtain ⟨⟨e1,e2,e3,e4⟩,e5⟩:=one3 x.q q3' v1 v2
   dsimp only at hok ⊢
   rw [ht,List.getD_cons_zero] at hok ⊢
   obtain ⟨v,hv,ev⟩:=Zfs hok
   rw [if_pos rfl,ev]
   have kv:=Za9 hli e4.r hv e1 e3 e2 t2
   have rv:=(Z3w _ _ _ t v (Nat.le_refl _) e4.r t2 hv).1
   refine ⟨fun _=> ⟨Z7A (.inr rfl) ?_ (by simp),Js (by decide) (by decide),Js (by decide) (by decide),⟨JB _ (Z6t false _ _ v e4.g t3 hv),trivial⟩,?_⟩,?_,?_,fun _ _=> ?_⟩
   ·rw [ZcA (by decide)]
    exact Z39 fun y hy=> by rw [List.mem_singleton.1 hy];exact Zdx hli (Zco e1 kv) (Z2H rv)
   ·rw [←t4];exact (Z0w u2).2.2.2
   ·unfold φA;rw [if_pos c4];try rfl
   ·show (if (2:Int)=1 then (0:Int) else Z0 _)*1=(if x.q.kind=1 then 0 else Z0 x.q)
    rw [if_neg (by decide),if_neg (by omega),hl1];simp [Z0]
   ·unfold φC
    dsimp only
    rw [ht,t4,e5]
    have:=Z7Q false _ _ _ v e4.r hv
    have:=Yi v
    simp only [Za,Z5e]
    omega
  rw [if_neg c4] at hok ⊢
  have p3':x.p.kind=3:=by omega
  have hl0:Z0 x.p=1:=Z2N p3'
  obtain ⟨⟨e1,e2,e3,e4⟩,e5⟩:=one3 x.p p3' u1 u2
  by_cases c5:x.q.kind=1
  ·rw [if_pos c5] at hok ⊢
   obtain ⟨t,ht,t1,t2,t3,t4⟩:=one12 x.q (.inl c5) (by omega) ok2 v1 v2
   dsimp only at hok ⊢
   rw [ht,List.getD_cons_zero] at hok ⊢
   obtain ⟨v,hv,ev⟩:=Zfs hok
   have wt:=e4.turn
   have kt:(ZA (ZM x.p.e)).kind=x.p.e.kind:=by rw [Z3h,Z0V]
   have wlt:Wl p.list (ZA (ZM x.p.e)):=by
    rcases e3 with h | h | h
    ·exact .inl h
    ·exact .inr (.inl (by omega))
    ·refine .inr (.inr ⟨by omega,?_,?_⟩)
     ·rw [(Z7D (ZM x.p.e) (by rw [Z0V];exact h.1)).1,Z0i,Zda];exact h.2.2
     ·rw [(Z7D (ZM x.p.e) (by rw [Z0V];exact h.1)).2,Z0i,Zdb];exact h.2.1
   rw [if_pos rfl,ev]
   have kv:=Za9 hli wt.r hv e1 wlt (by omega) t2
   have rv:=(Z3w _ _ _ t v (Nat.le_refl _) wt.r t2 hv).1
   refine ⟨fun _=> ⟨Z7A (.inl rfl) ?_ (by simp),Js (by decide) (by decide),Js (by decide) (by decide),⟨JB _ (Z6t false _ _ v wt.g t3 hv),trivial⟩,?_⟩,?_,?_,fun _ _=> ?_⟩
   ·rw [ZcA (by decide)]
    exact Z39 fun y hy=> by rw [List.mem_singleton.1 hy];exact Zdx hli (Zco e1 kv) (Z2H rv)
   ·rw [←t4];exact (Z0w v2).2.2.2
   ·show (if (1:Int)=2 then (0:Int) else Z0 _)*1=(if x.p.kind=2 then 0 else Z0 x.p)
    rw [if_neg (by decide),if_neg (by omega),hl0];simp [Z0]
   ·unfold φB;rw [if_pos c5];try rfl
   ·unfold φC
    dsimp only
    rw [ht,t4,e5]
    have:=Z7Q false _ _ _ v wt.r hv
    have:=Yi v
    have:=Z9n (ZM x.p.e)
    rw [Z8z] at this
    simp only [Za,Z5e]
    omega
  rw [if_neg c5] at hok ⊢
  have q3':x.q.kind=3:=by omega
  have hl1:Z0 x.q=1:=Z2N q3'
  obtain ⟨⟨f1,f2,f3,f4⟩,f5⟩:=one3 x.q q3' v1 v2
  dsimp only at hok ⊢
  rw [if_pos rfl]
  obtain ⟨o1,m1,_,k1,_⟩:=(X.pp h2).1
  obtain ⟨o2,m2,_,k2,_⟩:=(X.qq h1).1
  have:=JK m1
  have:=JK m2
  have H:=ih x.p.e x.q.e (by rw [k1,k2];omega) e4 f4
  refine ⟨fun _=> ⟨Zk0 (JF _ _ _ (by decide) (H.wk hok).r) (H.kind e2 f2 hok) e1 (H.wl p.list e1 hli.2 e2 f2 hok e3 f3),Js (by decide) (by decide),Js (by decide) (by decide),trivial,(H.wk hok).g⟩,?_,?_,fun hK _=> ?_⟩
  ·show (if (3:Int)=2 then (0:Int) else Z0 _)*1=(if x.p.kind=2 then 0 else Z0 x.p)
   rw [if_neg (by decide),if_neg (by omega),hl0];simp [Z0]
  ·show (if (3:Int)=1 then (0:Int) else Z0 _)*1=(if x.q.kind=1 then 0 else Z0 x.q)
   rw [if_neg (by decide),if_neg (by omega),hl1];simp [Z0]
  ·unfold φC
   dsimp only
   rw [e5,f5]
   have:=H.ct hK hok
   simp only [Za]
   omega
 have all:∀ (ps:List Piece) (ops:List Op),(∀ x∈ps,(YZ f x).ok=true→((YZ f x).is=true→Z7 p.list (YZ f x).op (-2)=true∧Yb (YZ f x).op)∧
   (φA (YZ f x).op*(if (YZ f x).is then 1 else 0)=(if x.of=2 then 0 else φA x.p))∧(φB (YZ f x).op*(if (YZ f x).is then 1 else 0)=(if x.of=1 then 0 else φB x.q))∧
   (K→(YZ f x).is=true→φC (YZ f x).op≤(if x.of=2 then 0 else φC x.p)+(if x.of=1 then 0 else φC x.q)))→Z0J f ps=some ops→
   (∀ o∈ops,Z7 p.list o (-2)=true∧Yb o)∧Jq φA ops=Jq φA (Z4h ps)∧Jq φB ops=Jq φB (Z4g ps)∧(K→Jq φC ops≤Jq φC (Z4h ps)+Jq φC (Z4g ps))∧ops.length≤ps.length:=by
  intro ps
  induction ps with
  | nil=> intro ops _ h;cases h;exact ⟨fun o ho=> (by cases ho),rfl,rfl,fun _=> (by simp [Z4h,Z4g,Jq]),by simp⟩
  | cons x r ihp=>
   intro ops hx h
   rw [Z0J] at h
   split at h
   ·rename_i hok
    obtain ⟨l,hl',rfl⟩:=Option.map_eq_some_iff.1 h
    obtain ⟨j1,j2,j3,j4,j5⟩:=ihp l (fun y hy=> hx y (List.mem_cons_of_mem _ hy)) hl'
    obtain ⟨k1,k2,k3,k4⟩:=hx x List.mem_cons_self hok
    have cnn:∀ o:Op,0≤φC o:=fun o=> by unfold φC;have:=Z9o o.e;omega
    have c1:=cnn x.p
    have c2:=cnn x.q
    have hsP:∀ φ:Op→Int,Jq φ (Z4h (x ::r))=(if x.of=2 then 0 else φ x.p)+Jq φ (Z4h r):=fun φ=> by
     simp only [Z4h]
     split <;> simp [Jq]
    have hsQ:∀ φ:Op→Int,Jq φ (Z4g (x ::r))=(if x.of=1 then 0 else φ x.q)+Jq φ (Z4g r):=fun φ=> by
     simp only [Z4g]
     split <;> simp [Jq]
    rw [hsP,hsQ,hsP,hsQ]
    by_cases his:(YZ f x).is=true
    ·rw [if_pos his] at k2 k3
     rw [if_pos his]
     have k4:=fun hK=> k4 hK his
     simp only [List.cons_append,List.nil_append,Jq,List.length_cons]
     refine ⟨fun o ho=> ?_,by omega,by omega,fun hK=> (by have:=k4 hK;have:=j4 hK;omega),by omega⟩
     rcases List.mem_cons.1 ho with rfl | ho
     ·exact k1 his
     ·exact j1 o ho
    ·rw [if_neg his] at k2 k3
     rw [if_neg his]
     simp only [List.nil_append,List.length_cons]
     refine ⟨j1,by omega,by omega,fun hK=> ?_,by omega⟩
     have:=j4 hK
     have:0≤(if x.of=2 then 0 else φC x.p)+(if x.of=1 then 0 else φC x.q):=by split <;> split <;> omega
     omega
   ·cases h
 obtain ⟨j1,j2,j3,j4,j5⟩:=all ps ops one hc
 rw [ZhJ] at j2
 rw [ZhI] at j3
 rw [sA,ZhJ] at j2
 rw [sB,ZhI] at j3
 have x1:=Zer ops
 have x2:=Zer p.ops
 have x3:=Zer q.ops
 exact ⟨j1,j2,j3,fun hK=> (by have:=j4 hK;omega)⟩
theorem ZqX {K:Prop} {f:Edit→Edit→Edit × Bool} {p q:Edit} (wp:Wk p) (wq:Wk q)
  (ih:∀ a b,Z6 a+Z6 b < Z6 p+Z6 q→Wk a→Wk b→ComWk K (f a b) a b):ComWk K (Ju f p q) p q:=by
 have rp:=Zw wp.r
 have rq:=Zw wq.r
 have gp:=YK wp.g
 have gq:=YK wq.g
 have cp:=Z9o p
 have cq:=Z9o q
 have ap:=Z4a p
 have aq:=Z4a q
 unfold Ju
 by_cases p0:p.kind=0
 ·rw [if_pos p0]
  exact ⟨fun _=> wq,fun _ _=> by dsimp only;omega,fun h=> absurd p0 h,fun _ _ _ h=> absurd p0 h⟩
 rw [if_neg p0]
 by_cases q0:q.kind=0
 ·rw [if_pos q0]
  exact ⟨fun _=> wp,fun _ _=> by dsimp only;omega,fun _ h=> absurd q0 h,fun _ _ _ _ h=> absurd q0 h⟩
 rw [if_neg q0]
 by_cases p1:p.kind=1
 ·rw [if_pos p1]
  obtain ⟨r1,r2,r3,r4⟩:=rp.rep p1
  have key:(doB q p.new).2=true→(Ze (doB q p.new).1 (-1)=true∧(doB q p.new).1.kind≠10)∧rng (doB q p.new).1∧Zk (doB q p.new).1+18≤Zk p.new+ctE q∧∀ list,7 < list→list≤9→p.new.kind=1→list=9→Wl list q→(doB q p.new).1.kind=1:=by
   intro hb
   obtain ⟨v,hv,e⟩:=Zfs hb
   rw [e]
   obtain ⟨x1,x2⟩:=Z3w _ q _ p.new v (Nat.le_refl _) wq.r r2 hv
   refine ⟨⟨Z2H x1,by rw [Z0i];exact x2 q0⟩,JB _ (Z6t false q _ v wq.g gp.2.1 hv),?_,fun list h7 h9 hk h9' hw=> ?_⟩
   ·have:=Z7Q false q _ _ v wq.r hv
    have:=Yi v
    omega
   ·rw [Z0i]
    obtain ⟨j1,j2,_,_⟩:=Z8w wq.r hv
    rcases hw with h | h | h
    ·omega
    ·exact (j2 h).1
    ·rw [j1 h.1];exact h.2.2
  refine ⟨fun hb=> ?_,fun _ hb=> ?_,fun _ _ _=> (show (1:Int)≠0 by decide),fun list h7 h9 _ _ hb hp hq=> ?_⟩
  ·obtain ⟨⟨k1,k2⟩,k3,_,_⟩:=key hb
   exact ⟨Zdy r1 k1 r3 k2,Js (by decide) (by decide),gp.1,k3,by simp,Js (by decide) (by decide),trivial,trivial⟩
  ·obtain ⟨_,_,k4,_⟩:=key hb
   rw [ZkI]
   omega
  ·by_cases h8:list=8
   ·exact .inl h8
   ·have hp':p.kind=1∧p.old.kind=1∧p.new.kind=1:=by
     rcases hp with h | h | h
     ·exact absurd h h8
     ·omega
     ·exact h
    exact .inr (.inr ⟨rfl,hp'.2.1,(key hb).2.2.2 list h7 h9 hp'.2.2 (by omega) hq⟩)
 rw [if_neg p1]
 by_cases q1:q.kind=1
 ·rw [if_pos q1]
  obtain ⟨r1,r2,r3,r4⟩:=rq.rep q1
  have wt:=wp.turn
  have kt:(ZA (ZM p)).kind=p.kind:=by rw [Z3h,Z0V]
  have key:(doB (ZA (ZM p)) q.old).2=true→(Ze (doB (ZA (ZM p)) q.old).1 (-1)=true∧(doB (ZA (ZM p)) q.old).1.kind≠10)∧rng (doB (ZA (ZM p)) q.old).1∧Zk (doB (ZA (ZM p)) q.old).1+18≤Zk q.old+ctE p∧(p.kind=2→(doB (ZA (ZM p)) q.old).1.kind=1):=by
   intro hb
   obtain ⟨v,hv,e⟩:=Zfs hb
   rw [e]
   obtain ⟨x1,x2⟩:=Z3w _ _ _ q.old v (Nat.le_refl _) wt.r r1 hv
   refine ⟨⟨Z2H x1,by rw [Z0i];exact x2 (by omega)⟩,JB _ (Z6t false _ _ v wt.g gq.1 hv),?_,fun hk=> ?_⟩
   ·have:=Z7Q false _ _ _ v wt.r hv
    have:=Yi v
    have:=Z9n (ZM p)
    rw [Z8z] at this
    omega
   ·rw [Z0i]
    exact ((Z8w wt.r hv).2.1 (by omega)).1
  refine ⟨fun hb=> ?_,fun _ hb=> ?_,fun _ _ _=> (show (1:Int)≠0 by decide),fun list h7 h9 _ _ hb hp hq=> ?_⟩
  ·obtain ⟨⟨k1,k2⟩,k3,_,_⟩:=key hb
   exact ⟨Zdy k1 r2 k2 r4,Js (by decide) (by decide),k3,gq.2.1,by simp,Js (by decide) (by decide),trivial,trivial⟩
  ·obtain ⟨_,_,k4,_⟩:=key hb
   rw [ZkI]
   omega
  ·by_cases h8:list=8
   ·exact .inl h8
   ·have hq':q.kind=1∧q.old.kind=1∧q.new.kind=1:=by
     rcases hq with h | h | h
     ·exact absurd h h8
     ·omega
     ·exact h
    refine .inr (.inr ⟨rfl,(key hb).2.2.2 ?_,hq'.2.2⟩)
    rcases hp with h | h | h
    ·exact absurd h h8
    ·exact h
    ·exact absurd h.1 p1
 rw [if_neg q1]
 by_cases hd:p.kind≠q.kind∨p.list≠q.list
 ·rw [if_pos hd]
  exact ⟨fun h=> (by cases h),fun _ h=> (by cases h),fun _ _ h=> (by cases h),fun _ _ _ _ _ h=> (by cases h)⟩
 rw [if_neg hd]
 by_cases p2:p.kind=2
 ·rw [if_pos p2]
  have q2:q.kind=2:=by omega
  have awp:=Jw rp.words
  have awq:=Jw rq.words
  have akp:=ZK rp.kids
  have akq:=ZK rq.kids
  have hwat:∀ a b:WEdit,a.at_=b.at_→(JQ a b).2=true→(JQ a b).1.at_=a.at_:=fun a b _ h=> Zs9 a b h
  have hkat:∀ a b:Kid,a.at_=b.at_→(Z1o f a b).2=true→(Z1o f a b).1.at_=a.at_:=fun a b _ _=> rfl
  have hk:∀ a∈p.kids,∀ b∈q.kids,ComWk K (f a.e b.e) a.e b.e:=by
   intro a ha b hb
   have:=J9 ha
   have:=J9 hb
   exact ih a.e b.e (by omega) (.of (akp a ha).2 (Jm gp.2.2.2.1 ha).2) (.of (akq b hb).2 (Jm gq.2.2.2.1 hb).2)
  cases hL:Zm WEdit.at_ JQ p.words q.words with
  | none=> exact ⟨fun h=> (by cases h),fun _ h=> (by cases h),fun _ _ h=> (by cases h),fun _ _ _ _ _ h=> (by cases h)⟩
  | some L=>
   rw [if_pos (show (some L).isSome=true from rfl)]
   cases hM:Zm KidOf.at_ (Z1o f) p.kids q.kids with
   | none=> exact ⟨fun h=> (by cases h),fun _ h=> (by cases h),fun _ _ h=> (by cases h),fun _ _ _ _ _ h=> (by cases h)⟩
   | some M=>
    have S:=(Zc6 hwat _ p.words q.words (-1) (Nat.le_refl _) (Z8E rp.words) (Z8E rq.words)).2 L hL
    have T:=(Zc6 hkat _ p.kids q.kids (-1) (Nat.le_refl _) (Zcn rp.kids) (Zcn rq.kids)).2 M hM
    have hw:∀ w∈L,(w.at_≤65534∧w.mask≠0∧Yl w.old w.mask=true∧Yl w.new w.mask=true)∧Z2w w:=by
     intro w hw
     rcases S.of w hw with ⟨h,_⟩ | ⟨h,_⟩ | ⟨a,ha,b,hb,_,hc,rfl⟩
     ·exact ⟨(awp w h).2,gp.2.2.1 w h⟩
     ·exact ⟨(awq w h).2,gq.2.2.1 w h⟩
     ·exact Zqe (gp.2.2.1 a ha) (gq.2.2.1 b hb) (awp a ha).2 (awq b hb).2.2.2 hc
    have hm:∀ k∈M,(k.at_≤65534∧k.e.kind≠0∧Z4 k.e (-2)=true)∧isI k.at_∧Ym k.e:=by
     intro k hk'
     rcases T.of k hk' with ⟨h,_⟩ | ⟨h,_⟩ | ⟨a,ha,b,hb,_,hc,rfl⟩
     ·exact ⟨⟨(akp k h).1.2.1,(akp k h).1.2.2,JF _ _ _ (by decide) (akp k h).2⟩,Jm gp.2.2.2.1 h⟩
     ·exact ⟨⟨(akq k h).1.2.1,(akq k h).1.2.2,JF _ _ _ (by decide) (akq k h).2⟩,Jm gq.2.2.2.1 h⟩
     ·have H:=hk a ha b hb
      have hc:(f a.e b.e).2=true:=hc
      exact ⟨⟨(akp a ha).1.2.1,H.kind (akp a ha).1.2.2 (akq b hb).1.2.2 hc,JF _ _ _ (by decide) (H.wk hc).r⟩,(Jm gp.2.2.2.1 ha).1,(H.wk hc).g⟩
    refine ⟨fun _=> ⟨ZlA (ZaR S.asc_ fun w h=> (hw w h).1) (Zby T.asc_ fun k h=> (hm k h).1),?_⟩,fun hK _=> ?_,fun _ _ _=> (show (2:Int)≠0 by decide),fun _ _ _ _ _ _ _ _=> .inr (.inl rfl)⟩
    ·exact ⟨Js (by decide) (by decide),JS,JS,fun w h=> (hw w h).2,Js (by decide) (by decide),Zgc fun k h=> (hm k h).2,trivial⟩
    ·have c1:=ZdS (fun _=> 1) _ _ _ _ (Nat.le_refl _) (fun a _ b _ _=> by omega) hL
     have c2:=ZdS Z2u _ _ _ _ (Nat.le_refl _) (fun a ha b hb hc=> by
      have H:=hk a ha b hb
      have hc:(f a.e b.e).2=true:=hc
      have:=H.ct hK hc
      rw [Z3A,Z3A,Z3A]
      show 65600+ctE (f a.e b.e).1≤_
      omega) hM
     rw [Z75,Z75,Z75] at c1
     rw [Zax,Zax,Zax] at c2
     have mo:=Y8 p.old;have mn:=Y8 p.new;have mo':=Y8 q.old;have mn':=Y8 q.new
     simp only [ctE,YA,ofO,Option.getD_some,Z0n]
     omega
 ·rw [if_neg p2]
  have p3:p.kind=3:=by have:=rp.kind;omega
  have q3:q.kind=3:=by omega
  have hl:p.list=q.list:=by omega
  have hli:=rp.list p3
  have op:=JE wp.r
  have oq:=JE wq.r
  unfold Z1y
  by_cases hb1:(ZX 1 2 p.ops q.ops []).2.1=true
  ·rw [if_pos hb1]
   cases hc:Z0J f (ZX 1 2 p.ops q.ops []).1 with
   | none=> exact ⟨fun h=> (by cases h),fun _ h=> (by cases h),fun _ _ h=> (by cases h),fun _ _ _ _ _ h=> (by cases h)⟩
   | some ops=>
    obtain ⟨j1,j2,j3,j4⟩:=ZrV wp wq p3 hl ih rfl hb1 hc
    have ook:∀ o∈ops,0≤Z0 o:=fun o ho=> Z0z (Yh (j1 o ho).1)
    have lA:=Yr ops 0 ook (by decide) (by decide)
    have lB:=YW ops 0 ook (by decide) (by decide)
    have mA:=Yr p.ops 0 (fun o ho=> Z0z (op o ho)) (by decide) (by decide)
    have mB:=YW q.ops 0 (fun o ho=> Z0z (oq o ho)) (by decide) (by decide)
    have t1:=rp.len.1
    have t2:=rq.len.2
    refine ⟨fun _=> ⟨?_,?_⟩,fun hK _=> ?_,fun _ _ _=> (show (3:Int)≠0 by decide),fun list h7 h9 _ _ _ hp' hq'=> ?_⟩
    ·refine Zlz hli (Zbw fun o ho=> (j1 o ho).1) ?_ ?_
     ·rw [show ofO (some ops)=ops from rfl];omega
     ·rw [show ofO (some ops)=ops from rfl];omega
    ·refine ⟨Js (by decide) (by decide),JS,JS,by simp,?_,trivial,Zgb fun o ho=> (j1 o ho).2⟩
     unfold isI;omega
    ·have j4:=j4 hK;have mo:=Y8 p.old;have mn:=Y8 p.new;have mo':=Y8 q.old;have mn':=Y8 q.new
     simp only [ctE,Z03,ofO,Option.getD_some,Z0n,List.length_nil]
     omega
    ·rcases hp' with h | h | h
     ·exact .inl h
     ·omega
     ·omega
  ·rw [if_neg hb1]
   exact ⟨fun h=> (by cases h),fun _ h=> (by cases h),fun _ _ h=> (by cases h),fun _ _ _ _ _ h=> (by cases h)⟩
theorem Zv5:∀ (n:Nat) (p q:Edit),Z6 p+Z6 q≤n→Wk p→Wk q→ComWk True (Zd3 n p q) p q:=by
 intro n
 induction n with
 | zero=> intro p q h;obtain ⟨k,o,nw,w,ks,l,os⟩:=p;simp only [Z6] at h;omega
 | succ n ih=>
  intro p q hn wp wq
  exact ZqX wp wq fun a b hab wa wb=> ih a b (by omega) wa wb
end Go.AM.Ytpjenobkibfpcaa
namespace Go.AM.Ytpjenobkibfpcaa
open Go.AM Go.Proofs
theorem Z6R:Z6 Edit.nil=3:=rfl
theorem Zk5(e:Edit):3≤Z6 e:=by
 obtain ⟨k,o,n,w,ks,l,os⟩:=e
 have:=Y8 o
 have:=Y8 n
 simp only [Z6];omega
theorem ZlP:Z4 Edit.nil 1=true:=rfl
end Go.AM.Ytpjenobkibfpcaa
namespace Go.AM.Ytpjenobkibfpcaa
open Go.AM Go.Proofs
mutual
def utE:Edit→Nat
 | .mk _ o n w ks _ os=> 16+Zk o+Zk n+65600*w.length+Znd ks+Zlg os
def Znd:List (KidOf Edit)→Nat
 | []=> 0
 | k ::r=> ZsU k+Znd r
def ZsU:KidOf Edit→Nat
 | ⟨_,e⟩=> 65600+utE e
def Zlg:List (OpOf Edit)→Nat
 | []=> 0
 | o ::r=> ZqW o+Zlg r
def ZqW:OpOf Edit→Nat
 | ⟨k,n,l,e⟩=> if k=3 then 16+utE e else 34*(n.toNat+l.length)+Za l
end
theorem ZtN(e:Edit):utE e=16+Zk e.old+Zk e.new+65600*e.words.length+Znd e.kids+Zlg e.ops:=by cases e;rfl
theorem Zne(k:Kid):ZsU k=65600+utE k.e:=by cases k;rfl
theorem ZqV(o:Op):ZqW o=if o.kind=3 then 16+utE o.e else 34*(o.n.toNat+o.l.length)+Za o.l:=by cases o;rfl
theorem Znc:∀ (n:Nat) (e:Edit),Z6 e≤n→(∃ d,Z4 e d=true)→Yq e=true→utE e+131100≤65600*Z6 e+150000*Z6 e:=by
 intro n
 induction n with
 | zero=> intro e h;have:=Zk5 e;omega
 | succ n ih=>
  intro e hn ⟨d,hr⟩ hl
  have R:=Zw hr
  have hm:=Zk5 e
  have me:Z6 e=1+Zk e.old+Zk e.new+e.words.length+e.ops.length+Zi e.kids+Zc e.ops:=by cases e;rfl
  have mo:=Y8 e.old
  have mn:=Y8 e.new
  rw [Z5P,Bool.and_eq_true,Bool.and_eq_true,decide_eq_true_eq] at hl
  obtain ⟨⟨l1,l2⟩,l3⟩:=hl
  have hk:∀ l:List Kid,(∀ k∈l,k∈e.kids)→Jg l=true→Znd l≤215600*Zi l:=by
   intro l
   induction l with
   | nil=> intro _ _;exact Nat.le_refl _
   | cons a r ihl=>
    intro h hl
    simp only [Jg,Bool.and_eq_true,Za6] at hl
    have ha:=h a List.mem_cons_self
    have:=J9 ha
    have:=ih a.e (by omega) ⟨_,(ZK R.kids a ha).2⟩ hl.1
    have:=ihl (fun k hk=> h k (List.mem_cons_of_mem _ hk)) hl.2
    simp only [Znd,Zi,Zne,Z3l];omega
  have ook:=JE hr
  have ho:∀ l:List Op,(∀ o∈l,o∈e.ops)→ZP l=true→(Zlg l:Int)≤215600*Zc l+34*Z37 l+16*l.length:=by
   intro l
   induction l with
   | nil=> intro _ _;simp [Zlg,Zc,Z37]
   | cons a r ihl=>
    intro h hl
    simp only [ZP,Bool.and_eq_true,Zck] at hl
    have ha:=h a List.mem_cons_self
    have:=ihl (fun k hk=> h k (List.mem_cons_of_mem _ hk)) hl.2
    have hr:=rightOs_mem R.ops ha
    have key:(ZqW a:Int)≤215600*Zn a+34*Z0 a+16:=by
     have me:=JK ha
     have ml:=ZD a.l
     rw [ZqV,ZZ]
     have rt:=Zx hr
     have hp:=YL a
     cases rt with
     | keep n h1 h2=> rw [if_neg (show ¬(0:Int)=3 by decide)];rw [if_neg (show ¬(0:Int)=3 by decide)] at hp;simp only [Za,List.length_nil,Z6R] at*;omega
     | gone l h1 h2=> rw [if_neg (show ¬(1:Int)=3 by decide)];rw [if_neg (show ¬(1:Int)=3 by decide)] at hp;dsimp only at*;simp only [Z6R] at*;omega
     | come l h1 h2=> rw [if_neg (show ¬(2:Int)=3 by decide)];rw [if_neg (show ¬(2:Int)=3 by decide)] at hp;dsimp only at*;simp only [Z6R] at*;omega
     | into e' h1 h2=>
      rw [if_pos rfl] at hp ⊢
      have:=ih e' (by dsimp only at me;omega) ⟨_,h1⟩ hl.1
      simp only [Za];omega
    simp only [Zlg,Zc,Z37,List.length_cons];omega
  have h1:=hk e.kids (fun k h=> h) l2
  have h2:=ho e.ops (fun k h=> h) l3
  have h3:=kids_sum ook
  have h4:Y3 e.ops≤2000∧YO e.ops≤2000:=by
   have ok:∀ o∈e.ops,0≤Z0 o:=fun o ho=> Z0z (ook o ho)
   have a:=Yr e.ops 0 ok (by decide) (by decide)
   have b:=YW e.ops 0 ok (by decide) (by decide)
   omega
  rw [ZtN,me]
  omega
where
 kids_sum:∀ {l:List Op},(∀ o∈l,YG o)→Z37 l≤Y3 l+YO l
  | [],_=> by simp [Z37,Y3,YO]
  | o ::r,h=> by
   have h1:=YH (h o List.mem_cons_self)
   have h2:=kids_sum fun x hx=> h x (List.mem_cons_of_mem _ hx)
   simp only [Z37,Y3,YO]
   split <;> split <;> omega
def φU(o:Op):Int:=ZqW o
end Go.AM.Ytpjenobkibfpcaa
namespace Go.AM.Ytpjenobkibfpcaa
open Go.AM Go.Proofs
def Zx3(e:Edit):Prop:=utE e≤9000000000∧Ym e∧∃ d,Z4 e d=true
end Go.AM.Ytpjenobkibfpcaa
namespace Go.AM.Ytpjenobkibfpcaa
open Go.AM Go.Proofs
noncomputable section
noncomputable section
def ZkY:ArgL (Int × Unit):=(.cons (Z04 .u8) .nil)
def ZbP(a:Int × Unit):Prop:=0≤a.1∧a.1 < 256
def ZnS(a:Int × Unit):V U:= .c (.int .u64 ((Z0M (a.1).toNat 8:Nat):Int))
def Z7g:Fs U:=fs ZkY (fun a=> [ZbP a]) ZnS
def ZpN:ArgL (Int × Int × Int × Unit):=(.cons (Z04 .u64) (.cons (Z04 .u64) (.cons (Z04 .u8) .nil)))
def Z4E(a:Int × Int × Int × Unit):Prop:=(0≤a.1∧a.1 < 18446744073709551616)∧(0≤a.2.1∧a.2.1 < 18446744073709551616)∧(0≤a.2.2.1∧a.2.2.1 < 256)
def Zt2(a:Int × Int × Int × Unit):V U:= .c (.int .u64 (mix a.1 a.2.1 a.2.2.1))
def Z3N:Fs U:=fs ZpN (fun a=> [Z4E a]) Zt2
def Z1b:List (FuncId × Fs U):=[]
def Z7S:Zg U:=lvl [([0],[]),([0,3],[]),([0,3,5],[]),([0,3,5,6],[]),([0,3,4,5],[]),([0,3,4,5,12],[]),([0,3,5],[]),([0,3,5],[]),([2],[])]
def Z0q(m x3 x5:Int):LSt U:=(L2 [(0,.c (.int .u8 m)),(3,.c (.int .u64 x3)),(5,.c (ci x5))] [])
abbrev Zxu(m:Int)(Q:QT):=AW (Z2 Z1b) Try.f105 Z7S [] (L2 [(0,.c (.int .u8 m))] []) Q
abbrev Zj7:=awp cfg (Z2 Z1b) (Y0 cfg (Z2 Z1b)) Try.f105.ntmps Z7S
abbrev ZhP:=ZeA cfg (Z2 Z1b) (Y0 cfg (Z2 Z1b)) Try.f105.ntmps Z7S
theorem ZwZ(m:Int)(Q:QT)(h:Zj (AW (Z2 Z1b) Try.f105 Z7S [1,1,0,1,0,0]) (Z0q m 0 0) (xB 0 (SW (Z2 Z1b) Try.f105 Z7S [1,1,1] Q))):
  Zxu m Q:=by
 have e_:(Zxu m Q)=(Zj (Zj7 (cd Try.f105 [1,1,0,1,0,0])) (Z0q m 0 0) (xB 0 (ZhP (cd Try.f105 [1,1,1]) Q))):=by kernel_rfl
 exact e_.mpr h
abbrev Zlb(m x3 x5:Int)(N0:NT)(Q:QT):=AW (Z2 Z1b) Try.f105 Z7S [1,1,0,1,0,0] (Z0q m x3 x5) (xT N0 (xB 0 (SW (Z2 Z1b) Try.f105 Z7S [1,1,1] Q)))
theorem Zna(m x3 x5:Int)(N0:NT)(Q:QT)(h:((decide (x5 < 8))=true→((0:Int)≤x5)∧(((((IntKind.wrap .u8 (BitVec.ofInt (IntKind.bits .u8) (Int.fdiv m (2 ^ (min x5.toNat (IntKind.bits .u8)))) &&& BitVec.ofInt (IntKind.bits .u8) 1).toNat):Int)==1)=true→(InR ((8:Int)*x5))∧((0:Int)≤((8:Int)*x5))∧((InR (x5+1))∧(N0 (Z0q m (IntKind.wrap .u64 (BitVec.ofInt (IntKind.bits .u64) x3 ||| BitVec.ofInt (IntKind.bits .u64) (IntKind.wrap .u64 ((255:Int)*2 ^ (min (Int.toNat ((8:Int)*x5)) (IntKind.bits .u64))))).toNat) (x5+1)))))∧((((IntKind.wrap .u8 (BitVec.ofInt (IntKind.bits .u8) (Int.fdiv m (2 ^ (min x5.toNat (IntKind.bits .u8)))) &&& BitVec.ofInt (IntKind.bits .u8) 1).toNat):Int)==1)=false→(InR (x5+1))∧(N0 (Z0q m x3 (x5+1))))))∧((decide (x5 < 8))=false→Q .ret (L2 [(2,.c (.int .u64 x3))] []))):
  Zlb m x3 x5 N0 Q:=by
 have e_:(Zlb m x3 x5 N0 Q)=(let zz0:=(((IntKind.wrap .u8 (BitVec.ofInt (IntKind.bits .u8) (Int.fdiv m (2 ^ (min x5.toNat (IntKind.bits .u8)))) &&& BitVec.ofInt (IntKind.bits .u8) 1).toNat):Int)==1);(((decide ((x5:Int) < 8))=true→(((0:Int)≤x5)∧((zz0=true→(InR ((8:Int)*x5))∧((0:Int)≤((8:Int)*x5))∧((InR ((x5:Int)+1))∧(N0 (Z0q m (IntKind.wrap .u64 (BitVec.ofInt (IntKind.bits .u64) x3 ||| BitVec.ofInt (IntKind.bits .u64) (IntKind.wrap .u64 ((255:Int)*2 ^ (min (Int.toNat ((8:Int)*x5)) (IntKind.bits .u64))))).toNat) ((x5:Int)+1)))))∧(zz0=false→(InR ((x5:Int)+1))∧(N0 (Z0q m x3 ((x5:Int)+1)))))))∧((decide ((x5:Int) < 8))=false→(Q .ret (L2 [(2,.c (.int .u64 x3))] []))))):=by kernel_rfl
 exact e_.mpr ⟨fun c_1=> ⟨(h.1 c_1).1,⟨fun c_2=> ⟨((h.1 c_1).2.1 c_2).1,((h.1 c_1).2.1 c_2).2.1,⟨((h.1 c_1).2.1 c_2).2.2.1,((h.1 c_1).2.1 c_2).2.2.2⟩⟩,fun c_2=> ⟨((h.1 c_1).2.2 c_2).1,((h.1 c_1).2.2 c_2).2⟩⟩⟩,fun c_1=> (h.2 c_1)⟩
def ZsQ(m:Int):Prop:=AW (Z2 Z1b) Try.f105 Z7S [] (Zo (ZkY.can (m,())) []) (EQ Try.f105 (ZnS (m,())) [])
theorem ZrA(hb:∀ (m:Int) (_:Unit),ZbP (m,())→ZsQ m):CT 105 Z7g:=
 Z8 (l:=[]) Zr rfl trivial Z7S Try.func105 rfl rfl 1 (fun _=> rfl) (by decide) (fun ⟨m,_⟩=> hb m ())
def Zp5:List (FuncId × Fs U):=[(105,Z7g)]
def ZuI:Zg U:=lvl [([0,1,2],[]),([6],[])]
abbrev W66(a b m:Int)(Q:QT):=AW (Z2 Zp5) Try.f66 ZuI [] (L2 [(0,.c (.int .u64 a)),(1,.c (.int .u64 b)),(2,.c (.int .u8 m))] []) Q
theorem Zy2(a b m:Int)(Q:QT)(h:(ZbP (m,()))∧(ZbP (m,()))∧(Q .ret (L2 [(6,.c (.int .u64 (IntKind.wrap .u64 (BitVec.ofInt (IntKind.bits .u64) (IntKind.wrap .u64 (BitVec.ofInt (IntKind.bits .u64) a &&& ~~~(BitVec.ofInt (IntKind.bits .u64) ((Z0M m.toNat 8:Nat):Int))).toNat) ||| BitVec.ofInt (IntKind.bits .u64) (IntKind.wrap .u64 (BitVec.ofInt (IntKind.bits .u64) b &&& BitVec.ofInt (IntKind.bits .u64) ((Z0M m.toNat 8:Nat):Int)).toNat)).toNat)))] []))):
  W66 a b m Q:=by
 have e_:(W66 a b m Q)=(type_of% h):=by kernel_rfl
 exact e_.mpr ⟨h.1,h.2.1,h.2.2⟩
def ZvY(a b m:Int):Prop:=AW (Z2 Zp5) Try.f66 ZuI [] (Zo (ZpN.can (a,b,m,())) []) (EQ Try.f66 (Zt2 (a,b,m,())) [])
theorem Zuj(Zvm:CT 105 Z7g)(hb:∀ (a:Int) (b:Int) (m:Int) (_:Unit),Z4E (a,b,m,())→ZvY a b m):CT 66 Z3N:=
 Z8 (l:=[(105,Z7g)]) Zr rfl (⟨Zvm,trivial⟩) ZuI Try.func66 rfl rfl 3 (fun _=> rfl) (by decide) (fun ⟨a,b,m,_⟩=> hb a b m ())
end
end
end Go.AM.Ytpjenobkibfpcaa
namespace Go.AM.Ytpjenobkibfpcaa
open Go.AM Go.Proofs
theorem ZpB:∀ n:Fin 256,∀ i:Fin 8,IntKind.wrap .u8 (BitVec.ofInt (IntKind.bits .u8) (Int.fdiv (n.1:Int) (2 ^ (min (Int.toNat (i.1:Int)) (IntKind.bits .u8)))) &&& BitVec.ofInt (IntKind.bits .u8) 1).toNat=((n.1 / 2 ^ i.1 % 2:Nat):Int):=by decide+kernel
theorem Zr7:∀ n:Fin 256,∀ i:Fin 8,IntKind.wrap .u64 (BitVec.ofInt (IntKind.bits .u64) ((Z0M n.1 i.1:Nat):Int) ||| BitVec.ofInt (IntKind.bits .u64) (IntKind.wrap .u64 (255*2 ^ (min (Int.toNat (8*(i.1:Int))) (IntKind.bits .u64))))).toNat=((Z0M n.1 i.1+255*2 ^ (8*i.1):Nat):Int):=by decide+kernel
theorem Zvm:Contract Try.prog cfg 105 Z7g:=by
 refine ZrA ?_
 intro m _ hp
 simp only [ZbP] at hp
 obtain ⟨n,rfl⟩:=Int.eq_ofNat_of_zero_le hp.1
 have hn:n < 256:=by omega
 refine ZwZ _ _ ?_
 refine Zb (ι:=Nat) (fun i=> Z0q n ((Z0M n i:Nat):Int) i) (fun i=> i≤8) (fun i=> 8 - i) 0 rfl (by omega) ?_
 intro i hi
 refine Zna _ _ _ _ _ ?_
 (simp only [vcS])
 refine ⟨fun hc=> ⟨by omega,fun hq=> ⟨by unfold InR;omega,by omega,by unfold InR;omega,i+1,?_,by omega,by omega⟩,fun hq=> ⟨by unfold InR;omega,i+1,?_,by omega,by omega⟩⟩,fun hc=> ?_⟩
 ·have h1:=ZpB ⟨n,hn⟩ ⟨i,by omega⟩
  have h2:=Zr7 ⟨n,hn⟩ ⟨i,by omega⟩
  simp only at h1 h2
  rw [h1] at hq
  rw [h2]
  have e:Z0M n (i+1)=Z0M n i+255*2 ^ (8*i):=by simp only [Z0M];rw [if_pos (by omega)]
  rw [e]
  try rfl
 ·have h1:=ZpB ⟨n,hn⟩ ⟨i,by omega⟩
  simp only at h1
  rw [h1] at hq
  have e:Z0M n (i+1)=Z0M n i:=by simp only [Z0M];rw [if_neg (by omega)];omega
  rw [e]
  try rfl
 ·have:i=8:=by omega
  subst this
  exact Yf rfl rfl
theorem Z1U(a:Nat)(h:a < 2 ^ 64):(BitVec.ofInt 64 (a:Int)).toNat=a:=by
 rw [BitVec.toNat_ofInt]
 omega
theorem c66:Contract Try.prog cfg 66 Z3N:=by
 refine Zuj Zvm ?_
 intro a b m _ hp
 simp only [Z4E] at hp
 obtain ⟨⟨a0,a1⟩,⟨b0,b1⟩,m0,m1⟩:=hp
 obtain ⟨x,rfl⟩:=Int.eq_ofNat_of_zero_le a0
 obtain ⟨y,rfl⟩:=Int.eq_ofNat_of_zero_le b0
 obtain ⟨n,rfl⟩:=Int.eq_ofNat_of_zero_le m0
 have hn:n < 256:=by omega
 have hx:x < 2 ^ 64:=by omega
 have hy:y < 2 ^ 64:=by omega
 have hw:=Zqh ⟨n,hn⟩
 have hw2:=Zj9 ⟨n,hn⟩
 simp only at hw hw2
 rw [←hw2] at hw
 refine Zy2 _ _ _ _ ?_
 refine ⟨⟨m0,m1⟩,⟨m0,m1⟩,Yf rfl ?_⟩
 have em:mix x y n=(((x &&& (2 ^ 64 - 1 - Z0M n 8)) ||| (y &&& Z0M n 8):Nat):Int):=by rw [←Zov,←Zot x y n hn]
 have e1:(BitVec.ofInt 64 (x:Int) &&& ~~~(BitVec.ofInt 64 ((Z0M n 8:Nat):Int))).toNat=x &&& (2 ^ 64 - 1 - Z0M n 8):=by
  rw [BitVec.toNat_and,BitVec.toNat_not,Z1U x hx,Z1U _ hw]
 have e2:(BitVec.ofInt 64 (y:Int) &&& BitVec.ofInt 64 ((Z0M n 8:Nat):Int)).toNat=y &&& Z0M n 8:=by
  rw [BitVec.toNat_and,Z1U y hy,Z1U _ hw]
 have l1:x &&& (2 ^ 64 - 1 - Z0M n 8) < 2 ^ 64:=Nat.lt_of_le_of_lt Nat.and_le_left hx
 have l2:y &&& Z0M n 8 < 2 ^ 64:=Nat.lt_of_le_of_lt Nat.and_le_left hy
 have l3:(x &&& (2 ^ 64 - 1 - Z0M n 8)) ||| (y &&& Z0M n 8) < 2 ^ 64:=Nat.or_lt_two_pow l1 l2
 have key:IntKind.wrap .u64 ((BitVec.ofInt 64 (IntKind.wrap .u64 ((BitVec.ofInt 64 (x:Int) &&& ~~~(BitVec.ofInt 64 ((Z0M n 8:Nat):Int))).toNat:Int)) ||| BitVec.ofInt 64 (IntKind.wrap .u64 ((BitVec.ofInt 64 (y:Int) &&& BitVec.ofInt 64 ((Z0M n 8:Nat):Int)).toNat:Int))).toNat:Int)=mix x y n:=by
  have w1:∀ k:Nat,k < 2 ^ 64→IntKind.wrap .u64 (k:Int)=k:=fun k hk=> Z4o (by omega) (by omega)
  rw [e1,e2,w1 _ l1,w1 _ l2,BitVec.toNat_or,Z1U _ l1,Z1U _ l2,w1 _ l3,em]
 exact key
end Go.AM.Ytpjenobkibfpcaa
namespace Go.AM
def wr(n:Int):Int:=IntKind.wrap .i64 n
def Z2k(o:Op):Int:=if o.kind=3 then 1 else wr (o.n+o.l.length)
def ZiS(n:Int):Int:=if 1048576 < n then 1048576 else n
def Z1w:List Op→Int→Int
 | [],n=> n
 | o ::r,n=> Z1w r (if o.kind=2 then n else ZiS (wr (n+Z2k o)))
def Z4l:List Op→Int→Int
 | [],n=> n
 | o ::r,n=> Z4l r (if o.kind=1 then n else ZiS (wr (n+Z2k o)))
end Go.AM
namespace Go.AM.Ytpjenobkibfpcaa
open Go.AM Go.Proofs
noncomputable section
def ZkN:ArgL (Edit × Unit):=(.cons (aEl .edit) .nil)
def ZeV(a:Edit × Unit):Prop:=Z6 a.1≤20000000000
def ZnK(a:Edit × Unit):V U:= .tup [(false,[ci (Z1w a.1.ops 0)]),(false,[ci (Z4l a.1.ops 0)])]
def Z5m:Fs U:=fs ZkN (fun a=> [ZeV a]) ZnK
def Zy:List (FuncId × Fs U):=[]
def Ya:Zg U:=lvl [([1],[1]),([1,4,5],[1]),([4,5,10,11,12],[]),([4,5,10,11,12,13],[]),([4,5,7,10,11,12],[7]),([4,5,7,8,10,11,12],[7]),([4,5,7,8,10,11,12,24],[7]),([4,5,7,8,10,11,12,24],[7]),([4,5,7,8,10,11,12,27],[7]),([4,5,7,8,10,11,12,27],[7]),([4,5,8,10,11,12,34],[]),([4,5,10,11,12],[]),([4,5,10,11,12],[]),([2,3],[])]
def Jp(e:Edit)(x4 x5 x12:Int):LSt U:=(L2 [(4,.c (ci x4)),(5,.c (ci x5)),(10,.c (sU .op e.ops .unk)),(11,.c (ci (e.ops.length:Int))),(12,.c (ci x12))] [])
def Z3u(e:Edit)(x4 x5 x12 x8_a:Int):LSt U:=(L2 [(4,.c (ci x4)),(5,.c (ci x5)),(7,.ptr (.loc 7) 0),(8,.c (ci x8_a)),(10,.c (sU .op e.ops .unk)),(11,.c (ci (e.ops.length:Int))),(12,.c (ci x12)),(24,.c (.bool (((OpOf.kind (e.ops.getD x12.toNat Op.nil)):Int)==3)))] [(.loc 7,(enc .op (e.ops.getD x12.toNat Op.nil)))])
def Z3t(e:Edit)(x5 x12 x8_a x4_b:Int):LSt U:=(L2 [(4,.c (ci x4_b)),(5,.c (ci x5)),(7,.ptr (.loc 7) 0),(8,.c (ci x8_a)),(10,.c (sU .op e.ops .unk)),(11,.c (ci (e.ops.length:Int))),(12,.c (ci x12)),(27,.c (.bool (((OpOf.kind (e.ops.getD x12.toNat Op.nil)):Int) !=2)))] [(.loc 7,(enc .op (e.ops.getD x12.toNat Op.nil)))])
abbrev Zxn(e:Edit)(Q:QT):=AW (Y6 Zy) Try.f164 Ya [] (L2 [(0,.agg (enc .edit e))] []) Q
theorem ZwC(e:Edit)(Q:QT)(h:Zj (AW (Y6 Zy) Try.f164 Ya [1,1,0,1,0,0]) (Jp e 0 0 0) (xB 0 (SW (Y6 Zy) Try.f164 Ya [1,1,1] Q))):
  Zxn e Q:=by
 have e_:(Zxn e Q)=(Zj (AW (Y6 Zy) Try.f164 Ya [1,1,0,1,0,0]) (Jp e 0 0 0) (xB 0 (SW (Y6 Zy) Try.f164 Ya [1,1,1] Q))):=by kernel_rfl
 exact e_.mpr h
abbrev Zl5(e:Edit)(x4 x5 x12:Int)(N0:NT)(Q:QT):=AW (Y6 Zy) Try.f164 Ya [1,1,0,1,0,0] (Jp e x4 x5 x12) (xT N0 (xB 0 (SW (Y6 Zy) Try.f164 Ya [1,1,1] Q)))
theorem ZmO(e:Edit)(x4 x5 x12:Int)(N0:NT)(Q:QT)(h:((decide (x12 < (e.ops.length:Int)))=true→((0:Int)≤x12∧x12 < (e.ops.length:Int))∧(((((OpOf.kind (e.ops.getD x12.toNat Op.nil)):Int)==3)=true→AW (Y6 Zy) Try.f164 Ya [1,1,0,1,0,0,1,1,0,0,1,1,1] (Z3u e x4 x5 x12 1) (xB 1 (SW (Y6 Zy) Try.f164 Ya [1,1,0,1,0,0,1,1,1] (xT N0 (xB 0 (SW (Y6 Zy) Try.f164 Ya [1,1,1] Q))))))∧((((OpOf.kind (e.ops.getD x12.toNat Op.nil)):Int)==3)=false→AW (Y6 Zy) Try.f164 Ya [1,1,0,1,0,0,1,1,0,0,1,1,1] (Z3u e x4 x5 x12 (IntKind.wrap .i64 (((OpOf.n (e.ops.getD x12.toNat Op.nil)):Int)+((OpOf.l (e.ops.getD x12.toNat Op.nil)).length:Int)))) (xB 1 (SW (Y6 Zy) Try.f164 Ya [1,1,0,1,0,0,1,1,1] (xT N0 (xB 0 (SW (Y6 Zy) Try.f164 Ya [1,1,1] Q))))))))∧((decide (x12 < (e.ops.length:Int)))=false→Q .ret (L2 [(2,.c (ci x4)),(3,.c (ci x5))] []))):
  Zl5 e x4 x5 x12 N0 Q:=by
 have e_:(Zl5 e x4 x5 x12 N0 Q)=(let zz0:=(((OpOf.kind (e.ops.getD x12.toNat Op.nil)):Int)==3);(((decide ((x12:Int) < (e.ops.length:Int)))=true→((0:Int)≤x12∧x12 < (e.ops.length:Int))∧((zz0=true→(AW (Y6 Zy) Try.f164 Ya [1,1,0,1,0,0,1,1,0,0,1,1,1] (Z3u e x4 x5 x12 1) (xB 1 (SW (Y6 Zy) Try.f164 Ya [1,1,0,1,0,0,1,1,1] (xT N0 (xB 0 (SW (Y6 Zy) Try.f164 Ya [1,1,1] Q)))))))∧(zz0=false→AW (Y6 Zy) Try.f164 Ya [1,1,0,1,0,0,1,1,0,0,1,1,1] (Z3u e x4 x5 x12 (IntKind.wrap .i64 (((OpOf.n (e.ops.getD x12.toNat Op.nil)):Int)+((OpOf.l (e.ops.getD x12.toNat Op.nil)).length:Int)))) (xB 1 (SW (Y6 Zy) Try.f164 Ya [1,1,0,1,0,0,1,1,1] (xT N0 (xB 0 (SW (Y6 Zy) Try.f164 Ya [1,1,1] Q))))))))∧((decide ((x12:Int) < (e.ops.length:Int)))=false→(Q .ret (L2 [(2,.c (ci x4)),(3,.c (ci x5))] []))))):=by kernel_rfl
 exact e_.mpr ⟨fun c_1=> ⟨(h.1 c_1).1,⟨fun c_2=> ((h.1 c_1).2.1 c_2),fun c_2=> ((h.1 c_1).2.2 c_2)⟩⟩,fun c_1=> (h.2 c_1)⟩
abbrev ZfR(e:Edit)(x4 x5 x12 x8_a:Int)(N0:NT)(Q:QT):=AW (Y6 Zy) Try.f164 Ya [1,1,0,1,0,0,1,1,0,0,1,1,1] (Z3u e x4 x5 x12 x8_a) (xB 1 (SW (Y6 Zy) Try.f164 Ya [1,1,0,1,0,0,1,1,1] (xT N0 (xB 0 (SW (Y6 Zy) Try.f164 Ya [1,1,1] Q)))))
theorem ZmQ(e:Edit)(x4 x5 x12 x8_a:Int)(N0:NT)(Q:QT)(h:((((OpOf.kind (e.ops.getD x12.toNat Op.nil)):Int) !=2)=true→AW (Y6 Zy) Try.f164 Ya [1,1,0,1,0,0,1,1,0,0,1,1,1,1] (Z3t e x5 x12 x8_a (if (1048576:Int) < (IntKind.wrap .i64 (x4+x8_a)) then 1048576 else (IntKind.wrap .i64 (x4+x8_a)))) (xB 1 (SW (Y6 Zy) Try.f164 Ya [1,1,0,1,0,0,1,1,1] (xT N0 (xB 0 (SW (Y6 Zy) Try.f164 Ya [1,1,1] Q))))))∧((((OpOf.kind (e.ops.getD x12.toNat Op.nil)):Int) !=2)=false→AW (Y6 Zy) Try.f164 Ya [1,1,0,1,0,0,1,1,0,0,1,1,1,1] (Z3t e x5 x12 x8_a x4) (xB 1 (SW (Y6 Zy) Try.f164 Ya [1,1,0,1,0,0,1,1,1] (xT N0 (xB 0 (SW (Y6 Zy) Try.f164 Ya [1,1,1] Q))))))):
  ZfR e x4 x5 x12 x8_a N0 Q:=by
 have e_:(ZfR e x4 x5 x12 x8_a N0 Q)=(let zz0:=(((OpOf.kind (e.ops.getD x12.toNat Op.nil)):Int) !=2);((zz0=true→(AW (Y6 Zy) Try.f164 Ya [1,1,0,1,0,0,1,1,0,0,1,1,1,1] (Z3t e x5 x12 x8_a (if (1048576:Int) < (IntKind.wrap .i64 ((x4:Int)+x8_a)) then 1048576 else (IntKind.wrap .i64 ((x4:Int)+x8_a)))) (xB 1 (SW (Y6 Zy) Try.f164 Ya [1,1,0,1,0,0,1,1,1] (xT N0 (xB 0 (SW (Y6 Zy) Try.f164 Ya [1,1,1] Q)))))))∧(zz0=false→AW (Y6 Zy) Try.f164 Ya [1,1,0,1,0,0,1,1,0,0,1,1,1,1] (Z3t e x5 x12 x8_a x4) (xB 1 (SW (Y6 Zy) Try.f164 Ya [1,1,0,1,0,0,1,1,1] (xT N0 (xB 0 (SW (Y6 Zy) Try.f164 Ya [1,1,1] Q)))))))):=by kernel_rfl
 exact e_.mpr ⟨fun c_3=> (h.1 c_3),fun c_3=> (h.2 c_3)⟩
abbrev ZfQ(e:Edit)(x5 x12 x8_a x4_b:Int)(N0:NT)(Q:QT):=AW (Y6 Zy) Try.f164 Ya [1,1,0,1,0,0,1,1,0,0,1,1,1,1] (Z3t e x5 x12 x8_a x4_b) (xB 1 (SW (Y6 Zy) Try.f164 Ya [1,1,0,1,0,0,1,1,1] (xT N0 (xB 0 (SW (Y6 Zy) Try.f164 Ya [1,1,1] Q)))))
theorem ZmP(e:Edit)(x5 x12 x8_a x4_b:Int)(N0:NT)(Q:QT)(h:((((OpOf.kind (e.ops.getD x12.toNat Op.nil)):Int) !=1)=true→N0 (Jp e x4_b (if (1048576:Int) < (IntKind.wrap .i64 (x5+x8_a)) then 1048576 else (IntKind.wrap .i64 (x5+x8_a))) (IntKind.wrap .i64 (x12+1))))∧((((OpOf.kind (e.ops.getD x12.toNat Op.nil)):Int) !=1)=false→N0 (Jp e x4_b x5 (IntKind.wrap .i64 (x12+1))))):
  ZfQ e x5 x12 x8_a x4_b N0 Q:=by
 have e_:(ZfQ e x5 x12 x8_a x4_b N0 Q)=(((((OpOf.kind (e.ops.getD x12.toNat Op.nil)):Int) !=1)=true→(N0 (Jp e x4_b (if (1048576:Int) < (IntKind.wrap .i64 ((x5:Int)+x8_a)) then 1048576 else (IntKind.wrap .i64 ((x5:Int)+x8_a))) (IntKind.wrap .i64 ((x12:Int)+1)))))∧((((OpOf.kind (e.ops.getD x12.toNat Op.nil)):Int) !=1)=false→(N0 (Jp e x4_b x5 (IntKind.wrap .i64 ((x12:Int)+1)))))):=by kernel_rfl
 exact e_.mpr ⟨fun c_4=> (h.1 c_4),fun c_4=> (h.2 c_4)⟩
def Zst(e:Edit):Prop:=AW (Y6 Zy) Try.f164 Ya [] (Zo (ZkN.can (e,())) []) (EQ Try.f164 (ZnK (e,())) [])
theorem Zrl(hb:∀ (e:Edit) (_:Unit),ZeV (e,())→Zst e):CT 164 Z5m:=
 ZcF (l:=[]) Zr rfl trivial Ya Try.func164 rfl rfl 1 (fun _=> rfl) (by decide) (fun ⟨e,_⟩=> hb e ())
end
end Go.AM.Ytpjenobkibfpcaa
namespace Go.AM.Ytpjenobkibfpcaa
open Go.AM Go.Proofs
theorem ZmL{n:Int}(h:InR n):wr n=n:=by
 unfold InR at h
 simp [wr,IntKind.wrap,IntKind.signed,IntKind.bits]
 split <;> omega
theorem Zip{l:List Op}{i:Int}(n:Int)(h0:0≤i)(h:i < l.length):Z1w (l.drop i.toNat) n=Z1w (l.drop (i+1).toNat) (if (l.getD i.toNat Op.nil).kind=2 then n else ZiS (wr (n+Z2k (l.getD i.toNat Op.nil)))):=by
 rw [Ys h0 h Op.nil,Z1w]
theorem Zio{l:List Op}{i:Int}(n:Int)(h0:0≤i)(h:i < l.length):Z4l (l.drop i.toNat) n=Z4l (l.drop (i+1).toNat) (if (l.getD i.toNat Op.nil).kind=1 then n else ZiS (wr (n+Z2k (l.getD i.toNat Op.nil)))):=by
 rw [Ys h0 h Op.nil,Z4l]
theorem Zvb:Contract Try.prog cfg 164 Z5m:=by
 refine Zrl ?_
 intro e _ hp
 simp only [ZeV] at hp
 have h1:=YI e
 have h2:=Y9 e.ops
 refine ZwC _ _ ?_
 refine Zb (ι:=Int × Int × Int) (fun s=> Jp e s.1 s.2.1 s.2.2) (fun s=> (0≤s.2.2∧s.2.2≤e.ops.length)∧Z1w (e.ops.drop s.2.2.toNat) s.1=Z1w e.ops 0∧Z4l (e.ops.drop s.2.2.toNat) s.2.1=Z4l e.ops 0) (fun s=> ((e.ops.length:Int) - s.2.2).toNat) (0,0,0) rfl ⟨⟨by simp,by simp⟩,rfl,rfl⟩ ?_
 rintro ⟨n,m,i⟩ ⟨⟨g1,g2⟩,g3,g4⟩
 dsimp only at g1 g2 g3 g4
 refine ZmO _ _ _ _ _ _ ?_
 (simp only [vcS])
 refine ⟨fun hi=> ⟨⟨g1,hi⟩,?_⟩,fun hi=> ?_⟩
 ·rw [Zip _ g1 hi] at g3
  rw [Zio _ g1 hi] at g4
  have hk:IntKind.wrap .i64 (i+1)=i+1:=ZmL (by unfold InR;omega)
  generalize hy:e.ops.getD i.toNat Op.nil=y at*
  have key:∀ k:Int,k=Z2k y→∀ (Q':AExit→LSt U→Prop),ZfR e n m i k (fun s2=> ∃ j:Int × Int × Int,s2=Jp e j.1 j.2.1 j.2.2∧((0≤j.2.2∧j.2.2≤e.ops.length)∧Z1w (e.ops.drop j.2.2.toNat) j.1=Z1w e.ops 0∧Z4l (e.ops.drop j.2.2.toNat) j.2.1=Z4l e.ops 0)∧((e.ops.length:Int) - j.2.2).toNat < ((e.ops.length:Int) - i).toNat) Q':=by
   rintro k rfl Q'
   have step2:∀ a:Int,a=(if y.kind=2 then n else ZiS (wr (n+Z2k y)))→ZfQ e m i (Z2k y) a (fun s2=> ∃ j:Int × Int × Int,s2=Jp e j.1 j.2.1 j.2.2∧((0≤j.2.2∧j.2.2≤e.ops.length)∧Z1w (e.ops.drop j.2.2.toNat) j.1=Z1w e.ops 0∧Z4l (e.ops.drop j.2.2.toNat) j.2.1=Z4l e.ops 0)∧((e.ops.length:Int) - j.2.2).toNat < ((e.ops.length:Int) - i).toNat) Q':=by
    rintro a ha
    refine ZmP _ _ _ _ _ _ _ ?_
    rw [hy,hk]
    (simp only [vcS])
    rw [←ha] at g3
    refine ⟨fun hb=> ⟨(a,_,i+1),rfl,⟨⟨by dsimp only;omega,by dsimp only;omega⟩,g3,?_⟩,by dsimp only;omega⟩,fun hb=> ⟨(a,_,i+1),rfl,⟨⟨by dsimp only;omega,by dsimp only;omega⟩,g3,?_⟩,by dsimp only;omega⟩⟩
    ·rw [if_neg hb] at g4;exact g4
    ·rw [if_pos hb] at g4;exact g4
   refine ZmQ _ _ _ _ _ _ _ ?_
   rw [hy]
   (simp only [vcS])
   exact ⟨fun hb=> step2 _ (by rw [if_neg hb];rfl),fun hb=> step2 _ (by rw [if_pos hb])⟩
  exact ⟨fun hb=> key _ (by unfold Z2k;rw [if_pos hb]) _,fun hb=> key _ (by unfold Z2k;rw [if_neg hb];rfl) _⟩
 ·rw [List.drop_of_length_le (by omega)] at g3 g4
  simp only [Z1w,Z4l] at g3 g4
  rw [g3,g4]
  (repeat' (first | exact trivial | exact rfl | apply And.intro))
theorem Zh6:∀ (l:List Op) (n:Int),(∀ o∈l,(0≤o.n∧o.n≤1048576)∧o.l.length≤20000000000)→0≤n→n≤1048576→Z1w l n=Yj l n
 | [],_,_,_,_=> rfl
 | o ::r,n,h,h0,hn=> by
  have ho:=h o (List.mem_cons_self ..)
  have hl:=YL o
  have ew:Z2k o=Z0 o:=by
   unfold Z2k;rw [hl]
   split
   ·try rfl
   ·exact ZmL (by unfold InR;omega)
  have hb:0≤Z0 o∧Z0 o≤60000000000:=by rw [hl];split <;> omega
  simp only [Z1w,Yj]
  rw [ew,ZmL (by unfold InR;omega)]
  have e2:(if o.kind=2 then n else ZiS (n+Z0 o))=min (if o.kind=2 then n else n+Z0 o) 1048576:=by
   unfold ZiS;split
   ·omega
   ·split <;> omega
  rw [e2]
  exact Zh6 r _ (fun x hx=> h x (List.mem_cons_of_mem _ hx)) (by split <;> omega) (by omega)
end Go.AM.Ytpjenobkibfpcaa
namespace Go.AM.Ytpjenobkibfpcaa
open Go.AM Go.Proofs
noncomputable section
noncomputable section
def ZkO:ArgL (List Tree × List Tree × Unit × Unit):=(.cons (aSl .tree) (.cons (aSl .tree) (.cons (aFn 106) .nil)))
def ZbL(a:List Tree × List Tree × Unit × Unit):Prop:=Za a.1≤1000000000000∧Za a.2.1≤1000000000000
def ZnL(a:List Tree × List Tree × Unit × Unit):V U:= .c (.bool (eqX (Z5 a.1) (Z5 a.2.1)))
def Z5n:Fs U:=fs ZkO (fun a=> [ZbL a]) ZnL
def Z1a:List (FuncId × Fs U):=[(106,J3)]
def Z7R:Zg U:=lvl [([0,1,2],[]),([0,1,2,14],[]),([6],[]),([1,2,15,16,17],[]),([1,2,15,16,17,18],[]),([1,2,7,8,15,16,17],[8]),([1,2,8,9,15,16,17],[8,9]),([1,2,15,16,17,30],[]),([6],[]),([1,2,15,16,17],[]),([6],[])]
def Z1Y(a b:List Tree)(f:Unit)(x17:Int):LSt U:=(L2 [(1,.c (sU .tree b .unk)),(2,.fn 106),(15,.c (sU .tree a .unk)),(16,.c (ci (a.length:Int))),(17,.c (ci x17))] [])
abbrev Zxp(a b:List Tree)(f:Unit)(Q:QT):=AW (Z2 Z1a) Try.f151 Z7R [] (L2 [(0,.c (sU .tree a .unk)),(1,.c (sU .tree b .unk)),(2,.fn 106)] []) Q
abbrev Zj6:=awp cfg (Z2 Z1a) (Y0 cfg (Z2 Z1a)) Try.f151.ntmps Z7R
abbrev ZhO:=ZeA cfg (Z2 Z1a) (Y0 cfg (Z2 Z1a)) Try.f151.ntmps Z7R
theorem ZwE(a b:List Tree)(f:Unit)(Q:QT)(h:((((a.length:Int):Int) !=(b.length:Int))=true→Q .ret (L2 [(6,.c (.bool false))] []))∧((((a.length:Int):Int) !=(b.length:Int))=false→Zj (AW (Z2 Z1a) Try.f151 Z7R [1,1,0,1,0,0]) (Z1Y a b f 0) (xB 0 (SW (Z2 Z1a) Try.f151 Z7R [1,1,1] Q)))):
  Zxp a b f Q:=by
 have e_:(Zxp a b f Q)=((((a.length:Int) !=(b.length:Int))=true→(Q .ret (L2 [(6,.c (.bool false))] [])))∧(((a.length:Int) !=(b.length:Int))=false→(Zj (Zj6 (cd Try.f151 [1,1,0,1,0,0])) (Z1Y a b f 0) (xB 0 (ZhO (cd Try.f151 [1,1,1]) Q))))):=by kernel_rfl
 exact e_.mpr ⟨fun c_4=> (h.1 c_4),fun c_4=> (h.2 c_4)⟩
abbrev Zl6(a b:List Tree)(f:Unit)(x17:Int)(N0:NT)(Q:QT):=AW (Z2 Z1a) Try.f151 Z7R [1,1,0,1,0,0] (Z1Y a b f x17) (xT N0 (xB 0 (SW (Z2 Z1a) Try.f151 Z7R [1,1,1] Q)))
theorem ZmR(a b:List Tree)(f:Unit)(x17:Int)(N0:NT)(Q:QT)(h:((decide (x17 < (a.length:Int)))=true→((0:Int)≤x17∧x17 < (a.length:Int))∧(((0:Int)≤x17∧x17 < (b.length:Int))∧((Z1s ((Tree.mk (Tree.kind (a.getD x17.toNat Tree.nil)) (Tree.words (a.getD x17.toNat Tree.nil)) (Tree.kids (a.getD x17.toNat Tree.nil))),(Tree.mk (Tree.kind (b.getD x17.toNat Tree.nil)) (Tree.words (b.getD x17.toNat Tree.nil)) (Tree.kids (b.getD x17.toNat Tree.nil))),()))∧(((!(YT (Z3 (Tree.mk (Tree.kind (a.getD x17.toNat Tree.nil)) (Tree.words (a.getD x17.toNat Tree.nil)) (Tree.kids (a.getD x17.toNat Tree.nil)))) (Z3 (Tree.mk (Tree.kind (b.getD x17.toNat Tree.nil)) (Tree.words (b.getD x17.toNat Tree.nil)) (Tree.kids (b.getD x17.toNat Tree.nil))))))=true→Q .ret (L2 [(6,.c (.bool false))] []))∧((!(YT (Z3 (Tree.mk (Tree.kind (a.getD x17.toNat Tree.nil)) (Tree.words (a.getD x17.toNat Tree.nil)) (Tree.kids (a.getD x17.toNat Tree.nil)))) (Z3 (Tree.mk (Tree.kind (b.getD x17.toNat Tree.nil)) (Tree.words (b.getD x17.toNat Tree.nil)) (Tree.kids (b.getD x17.toNat Tree.nil))))))=false→(InR (x17+1))∧(N0 (Z1Y a b f (x17+1))))))))∧((decide (x17 < (a.length:Int)))=false→Q .ret (L2 [(6,.c (.bool true))] []))):
  Zl6 a b f x17 N0 Q:=by
 have e_:(Zl6 a b f x17 N0 Q)=(let zz0:=(!(YT (Z3 (Tree.mk (Tree.kind (a.getD x17.toNat Tree.nil)) (Tree.words (a.getD x17.toNat Tree.nil)) (Tree.kids (a.getD x17.toNat Tree.nil)))) (Z3 (Tree.mk (Tree.kind (b.getD x17.toNat Tree.nil)) (Tree.words (b.getD x17.toNat Tree.nil)) (Tree.kids (b.getD x17.toNat Tree.nil))))));(((decide ((x17:Int) < (a.length:Int)))=true→((0:Int)≤x17∧x17 < (a.length:Int))∧(((0:Int)≤x17∧x17 < (b.length:Int))∧((Z1s ((Tree.mk (Tree.kind (a.getD x17.toNat Tree.nil)) (Tree.words (a.getD x17.toNat Tree.nil)) (Tree.kids (a.getD x17.toNat Tree.nil))),(Tree.mk (Tree.kind (b.getD x17.toNat Tree.nil)) (Tree.words (b.getD x17.toNat Tree.nil)) (Tree.kids (b.getD x17.toNat Tree.nil))),()))∧((zz0=true→(Q .ret (L2 [(6,.c (.bool false))] [])))∧(zz0=false→(InR ((x17:Int)+1))∧(N0 (Z1Y a b f ((x17:Int)+1))))))))∧((decide ((x17:Int) < (a.length:Int)))=false→(Q .ret (L2 [(6,.c (.bool true))] []))))):=by kernel_rfl
 exact e_.mpr ⟨fun c_5=> ⟨(h.1 c_5).1,⟨(h.1 c_5).2.1,⟨(h.1 c_5).2.2.1,⟨fun c_6=> ((h.1 c_5).2.2.2.1 c_6),fun c_6=> ⟨((h.1 c_5).2.2.2.2 c_6).1,((h.1 c_5).2.2.2.2 c_6).2⟩⟩⟩⟩⟩,fun c_5=> (h.2 c_5)⟩
def Zsv(a b:List Tree)(f:Unit):Prop:=AW (Z2 Z1a) Try.f151 Z7R [] (Zo (ZkO.can (a,b,f,())) []) (EQ Try.f151 (ZnL (a,b,f,())) [])
theorem Zrm(Zfy:CT 106 J3)(hb:∀ (a:List Tree) (b:List Tree) (f:Unit) (_:Unit),ZbL (a,b,f,())→Zsv a b f):CT 151 Z5n:=
 Z8 (l:=[(106,J3)]) Zr rfl (⟨Zfy,trivial⟩) Z7R Try.func151 rfl rfl 3 (fun _=> rfl) (by decide) (fun ⟨a,b,f,_⟩=> hb a b f ())
end
end
end Go.AM.Ytpjenobkibfpcaa
namespace Go.AM.Ytpjenobkibfpcaa
open Go.AM Go.Proofs
theorem Zvc:Contract Try.prog cfg 151 Z5n:=by
 refine Zrm Zfy ?_
 intro a b f _ hp
 simp only [ZbL] at hp
 refine ZwE a b f _ ?_
 (simp only [vcS])
 refine ⟨fun hc=> Zl rfl (Zpp (a:=Z5 a) (b:=Z5 b) (fun h=> hc (by have:=congrArg List.length h;simp [Z5] at this;omega))).symm,fun hc=> ?_⟩
 have hl:a.length=b.length:=by omega
 have hla:=ZD a
 refine Zb (ι:=Int) (fun i=> Z1Y a b f i) (fun i=> 0≤i∧i≤a.length∧∀ j:Nat,(j:Int) < i→Z3 (a.getD j Tree.nil)=Z3 (b.getD j Tree.nil)) (fun i=> ((a.length:Int) - i).toNat) 0 rfl ⟨by omega,by omega,by intro j hj;omega⟩ ?_
 rintro i ⟨h1,h2,h3⟩
 refine ZmR a b f _ _ _ ?_
 (simp only [vcS])
 (simp only [Tree.eta,Edit.eta,Tree.kind_mk,Tree.words_mk,Tree.kids_mk])
 refine ⟨fun hi=> ⟨⟨h1,hi⟩,⟨h1,by omega⟩,?_,fun hq=> ?_,fun hq=> ⟨by unfold InR;omega,i+1,rfl,⟨by omega,by omega,?_⟩,by omega⟩⟩,fun hi=> ?_⟩
 ·have:=J8 (Zh (l:=a) (i:=i.toNat) (by omega) Tree.nil)
  have:=J8 (Zh (l:=b) (i:=i.toNat) (by omega) Tree.nil)
  simp only [Z1s];omega
 ·refine Zl rfl (Zpp (a:=Z5 a) (b:=Z5 b) (fun h=> ?_)).symm
  have h5:=Zae (d:=Tree.nil) h i.toNat
  rw [Jb] at hq
  exact hq h5
 ·intro j hj
  by_cases hj2:(j:Int) < i
  ·exact h3 j hj2
  ·rw [Z0d,show i.toNat=j by omega] at hq
   exact hq
 ·exact Zl rfl (Z47 (a:=Z5 a) (b:=Z5 b).2 (ZgZ Tree.nil hl (fun j hj=> h3 j (by omega)))).symm
end Go.AM.Ytpjenobkibfpcaa
namespace Go.AM.Ytpjenobkibfpcaa
open Go.AM Go.Proofs
noncomputable section
def Zhw:ArgL (List Int × Unit):=(.cons (aSl .u64) .nil)
def Z7w(a:List Int × Unit):Prop:=a.1.length≤1000000000000
def Z7t(a:List Int × Unit):List Int:=a.1
def Z3d:Fs U:=fsL Zhw (fun a=> [Z7w a]) .u64 Z7t
def ZkP:ArgL (List Tree × Unit):=(.cons (aSl .tree) .nil)
def ZbM(a:List Tree × Unit):Prop:=a.1.length≤1000000000000
def Zaz(a:List Tree × Unit):List Tree:=a.1
def Z5o:Fs U:=fsL ZkP (fun a=> [ZbM a]) .tree Zaz
def Z9s:ArgL (Edit × Tree × Unit):=(.cons (aEl .edit) (.cons (aEl .tree) .nil))
def Z3f(a:Edit × Tree × Unit):Prop:=(Z6 a.1≤20000000000∧Ym a.1∧∃ d,Z4 a.1 d=true)∧Zk a.2.1+ctE a.1≤200000000000∧rng a.2.1
def ZcV(a:Edit × Tree × Unit):Nat:=2*Z6 a.1+1
def Z4B(a:Edit × Tree × Unit):V U:= .tup [(true,(enc .tree (Zao a.1 a.2.1))),(false,[.bool ((doE false a.1 a.2.1).isSome)])]
def Z8J:Fs U:=fs Z9s (fun a=> [Z3f a]) Z4B
def Z64:ArgL (Edit × Tree × Unit):=(.cons (aEl .edit) (.cons (aEl .tree) .nil))
def Z3Y(a:Edit × Tree × Unit):Prop:=Edit.kind a.1=2∧(Z6 a.1≤20000000000∧Ym a.1∧∃ d,Z4 a.1 d=true)∧Zk a.2.1+ctE a.1≤200000000000∧rng a.2.1
def Z9X(a:Edit × Tree × Unit):Nat:=2*Z6 a.1
def Z3U(a:Edit × Tree × Unit):V U:= .tup [(true,(enc .tree (Z0S (Zam false a.1 a.2.1)))),(false,[.bool ((Zam false a.1 a.2.1).isSome)])]
def Zji:Fs U:=fs Z64 (fun a=> [Z3Y a]) Z3U
def Z63:ArgL (Edit × Tree × Unit):=(.cons (aEl .edit) (.cons (aEl .tree) .nil))
def Z3X(a:Edit × Tree × Unit):Prop:=Edit.kind a.1=3∧(Z6 a.1≤20000000000∧Ym a.1∧∃ d,Z4 a.1 d=true)∧Zk a.2.1+ctE a.1≤200000000000∧rng a.2.1
def Z9W(a:Edit × Tree × Unit):Nat:=2*Z6 a.1
def Z3T(a:Edit × Tree × Unit):V U:= .tup [(true,(enc .tree (ZoS a.1 (Z68 false a.1 a.2.1)))),(false,[.bool ((Z1H (Z68 false a.1 a.2.1)).isSome)])]
def Zjh:Fs U:=fs Z63 (fun a=> [Z3X a]) Z3T
def Zha:List (FuncId × Fs U):=[]
def Zin:Zg U:=fun i=> match i with
 | 0=> ([(0,[])],[])
 | 1=> ([(0,[]),(4,[])],[])
 | 2=> ([(2,[.wr .u64])],[])
 | 3=> ([(2,[.wr .u64])],[])
 | _=> ([],[])
abbrev ZxI(p:List Nat):=AW (Zcm Zha) Try.f109 Zin p
theorem ZtM(l:List Int)(Q:QT)(h:(((l=[])→(Q .ret (⟨[(2,.c (.mref (.e 2 0)))],[],[(.e 2 0,LC.mk (U:=U) .u64 [] 0)]⟩:LSt U)))∧(True→((([]:List Int).length+l.length)*8≤140737488355328)∧(Q .ret (⟨[(2,.c (.mref (.e 2 0)))],[],[(.e 2 0,LC.mk (U:=U) .u64 (([]:List Int)++l) (([]:List Int).length))]⟩:LSt U))))):
  ZxI [] (L2 [(0,.c (sU .u64 l .unk))] []) Q:=
 Eq.mpr (by kernel_rfl) h
def Zqc(l:List Int):Prop:=AW (Zcm Zha) Try.f109 Zin [] (Zo (Zhw.can (l,())) []) (Z38 cfg Try.f109.ntmps Try.f109.results.toList (.c (.mref (.r 0 0))) [] [(.r 0 0,LC.mk (U:=U) .u64 (Z7t (l,())) 0)])
theorem Zoz(hb:∀ (l:List Int) (_:Unit),Z7w (l,())→Zqc l):CT 109 Z3d:=
 Z5h (l:=[]) Zr rfl trivial Zin Try.func109 rfl rfl 1 (fun _=> rfl) (by decide) (fun ⟨l,_⟩=> hb l ())
def Zks:List (FuncId × Fs U):=[]
def ZoI:Zg U:=fun i=> match i with
 | 0=> ([(0,[])],[])
 | 1=> ([(0,[]),(4,[])],[])
 | 2=> ([(2,[.wr .tree])],[])
 | 3=> ([(2,[.wr .tree])],[])
 | _=> ([],[])
abbrev ZyE(p:List Nat):=AW (Zcm Zks) Try.f150 ZoI p
theorem ZwF(l:List Tree)(Q:QT)(h:(((l=[])→(Q .ret (⟨[(2,.c (.mref (.e 2 0)))],[],[(.e 2 0,LC.mk (U:=U) .tree [] 0)]⟩:LSt U)))∧(True→((([]:List Tree).length+l.length)*56≤140737488355328)∧(Q .ret (⟨[(2,.c (.mref (.e 2 0)))],[],[(.e 2 0,LC.mk (U:=U) .tree (([]:List Tree)++l) (([]:List Tree).length))]⟩:LSt U))))):
  ZyE [] (L2 [(0,.c (sU .tree l .unk))] []) Q:=
 Eq.mpr (by kernel_rfl) h
def Zsw(l:List Tree):Prop:=AW (Zcm Zks) Try.f150 ZoI [] (Zo (ZkP.can (l,())) []) (Z38 cfg Try.f150.ntmps Try.f150.results.toList (.c (.mref (.r 0 0))) [] [(.r 0 0,LC.mk (U:=U) .tree (Zaz (l,())) 0)])
theorem Zrn(hb:∀ (l:List Tree) (_:Unit),ZbM (l,())→Zsw l):CT 150 Z5o:=
 Z5h (l:=[]) Zr rfl trivial ZoI Try.func150 rfl rfl 1 (fun _=> rfl) (by decide) (fun ⟨l,_⟩=> hb l ())
def Z9f(N:Nat):List (FuncId × Fs U):=(70,fs Z9s (fun a=> [Z3f a,ZcV a < N]) Z4B) ::(107,fs Z64 (fun a=> [Z3Y a,Z9X a < N]) Z3U) ::(108,fs Z63 (fun a=> [Z3X a,Z9W a < N]) Z3T) ::[(106,J3),(149,Z1A),(91,Z3L),(151,Z5n),(150,Z5o),(66,Z3N),(109,Z3d)]
def ZuH:Zg U:=lvl [([2,3,4],[2,3,4]),([2,3,4,7],[2,3,4]),([2,3,4,7,8],[2,3,4]),([4,5],[4]),([2,3,4,7,11],[2,3,4]),([4,5],[4]),([2,3,4,7,19],[2,3,4]),([4,5],[4]),([2,3,4,26],[2,3,4]),([4,5],[4]),([4,5],[4])]
abbrev A70(N:Nat)(p:List Nat):=AW (Z2 (Z9f N)) Try.f70 ZuH p
theorem ZxY(N:Nat)(e:Edit)(t:Tree)(Q:QT)(h:∀ y_1,y_1=e→∀ y_2,y_2=t→∀ y_3,y_3=(e.old)→(((e.kind==0)=true→(Q .ret (L2 [(4,.ptr (.loc 4) 0),(5,.c (.bool true))] [(.loc 4,(enc .tree t))])))∧((e.kind==0)=false→(((e.kind==1)=true→(Z1s (y_3,y_2,()))∧(Q .ret (L2 [(4,.ptr (.loc 4) 0),(5,.c (.bool (YT (Z3 y_3) (Z3 y_2))))] [(.loc 4,(enc .tree e.new))])))∧((e.kind==1)=false→(((e.kind==2)=true→(Z3Y (y_1,y_2,()))∧(Z9X (y_1,y_2,()) < N)∧(Q .ret (L2 [(4,.ptr (.loc 4) 0),(5,.c (.bool ((Zam false y_1 y_2).isSome)))] [(.loc 4,(enc .tree (Z0S (Zam false y_1 y_2))))])))∧((e.kind==2)=false→(((e.kind==3)=true→(Z3X (y_1,y_2,()))∧(Z9W (y_1,y_2,()) < N)∧(Q .ret (L2 [(4,.ptr (.loc 4) 0),(5,.c (.bool ((Z1H (Z68 false y_1 y_2)).isSome)))] [(.loc 4,(enc .tree (ZoS y_1 (Z68 false y_1 y_2))))])))∧((e.kind==3)=false→(Q .ret (L2 [(4,.ptr (.loc 4) 0),(5,.c (.bool false))] [(.loc 4,[ci 0,.nils,.nils])]))))))))))):
  A70 N [] (L2 [(0,.agg (enc .edit e)),(1,.agg (enc .tree t))] []) Q:=
 Eq.mpr (by kernel_rfl) (h _ (Z9 _) _ (Zf _) _ (Zf _))
def ZvU(N:Nat)(e:Edit)(t:Tree):Prop:=AW (Z2 (Z9f N)) Try.f70 ZuH [] (Zo (Z9s.can (e,t,())) []) (EQ Try.f70 (Z4B (e,t,())) [])
abbrev ZxD:Prop:=∀ (N:Nat) (e:Edit) (t:Tree) (_:Unit),Z3f (e,t,())→ZcV (e,t,()) < N+1→ZvU N e t
def Zfj(N:Nat):List (FuncId × Fs U):=(70,fs Z9s (fun a=> [Z3f a,ZcV a < N]) Z4B) ::(107,fs Z64 (fun a=> [Z3Y a,Z9X a < N]) Z3U) ::(108,fs Z63 (fun a=> [Z3X a,Z9W a < N]) Z3T) ::[(106,J3),(149,Z1A),(91,Z3L),(151,Z5n),(150,Z5o),(66,Z3N),(109,Z3d)]
def Zke:Zg U:=fun i=> match i with
 | 0=> ([(2,[]),(3,[]),(4,[])],[(.loc 2,[]),(.loc 3,[]),(.loc 4,[])])
 | 1=> ([(2,[]),(3,[]),(4,[]),(16,[])],[(.loc 2,[]),(.loc 3,[]),(.loc 4,[])])
 | 2=> ([(4,[]),(5,[])],[(.loc 4,[])])
 | 3=> ([(2,[]),(3,[]),(4,[]),(6,[])],[(.loc 2,[]),(.loc 3,[]),(.loc 4,[]),(.loc 6,[.any,.wr .u64,.wr .tree])])
 | 4=> ([(2,[]),(3,[]),(4,[]),(6,[]),(26,[]),(27,[]),(28,[])],[(.loc 2,[]),(.loc 3,[]),(.loc 4,[]),(.loc 6,[.any,.wr .u64,.wr .tree])])
 | 5=> ([(2,[]),(3,[]),(4,[]),(6,[]),(26,[]),(27,[]),(28,[]),(29,[])],[(.loc 2,[]),(.loc 3,[]),(.loc 4,[]),(.loc 6,[.any,.wr .u64,.wr .tree])])
 | 6=> ([(2,[]),(3,[]),(4,[]),(6,[]),(8,[]),(26,[]),(27,[]),(28,[])],[(.loc 2,[]),(.loc 3,[]),(.loc 4,[]),(.loc 6,[.any,.wr .u64,.wr .tree]),(.loc 8,[])])
 | 7=> ([(2,[]),(3,[]),(4,[]),(6,[]),(8,[]),(9,[]),(26,[]),(27,[]),(28,[])],[(.loc 2,[]),(.loc 3,[]),(.loc 4,[]),(.loc 6,[.any,.wr .u64,.wr .tree]),(.loc 8,[])])
 | 8=> ([(2,[]),(3,[]),(4,[]),(6,[]),(8,[]),(9,[]),(26,[]),(27,[]),(28,[]),(42,[])],[(.loc 2,[]),(.loc 3,[]),(.loc 4,[]),(.loc 6,[.any,.wr .u64,.wr .tree]),(.loc 8,[])])
 | 9=> ([(4,[]),(5,[])],[(.loc 4,[])])
 | 10=> ([(2,[]),(3,[]),(4,[]),(6,[]),(8,[]),(9,[]),(26,[]),(27,[]),(28,[]),(42,[]),(49,[])],[(.loc 2,[]),(.loc 3,[]),(.loc 4,[]),(.loc 6,[.any,.wr .u64,.wr .tree]),(.loc 8,[])])
 | 11=> ([(2,[]),(3,[]),(4,[]),(6,[]),(8,[]),(9,[]),(26,[]),(27,[]),(28,[]),(42,[])],[(.loc 2,[]),(.loc 3,[]),(.loc 4,[]),(.loc 6,[.any,.wr .u64,.wr .tree]),(.loc 8,[])])
 | 12=> ([(2,[]),(3,[]),(4,[]),(6,[]),(26,[]),(27,[]),(28,[])],[(.loc 2,[]),(.loc 3,[]),(.loc 4,[]),(.loc 6,[.any,.wr .u64,.wr .tree])])
 | 13=> ([(2,[]),(3,[]),(4,[]),(6,[]),(26,[]),(27,[]),(28,[])],[(.loc 2,[]),(.loc 3,[]),(.loc 4,[]),(.loc 6,[.any,.wr .u64,.wr .tree])])
 | 14=> ([(3,[]),(4,[]),(6,[]),(68,[]),(69,[]),(70,[])],[(.loc 3,[]),(.loc 4,[]),(.loc 6,[.any,.wr .u64,.wr .tree])])
 | 15=> ([(3,[]),(4,[]),(6,[]),(68,[]),(69,[]),(70,[]),(71,[])],[(.loc 3,[]),(.loc 4,[]),(.loc 6,[.any,.wr .u64,.wr .tree])])
 | 16=> ([(3,[]),(4,[]),(6,[]),(11,[]),(68,[]),(69,[]),(70,[])],[(.loc 3,[]),(.loc 4,[]),(.loc 6,[.any,.wr .u64,.wr .tree]),(.loc 11,[])])
 | 17=> ([(3,[]),(4,[]),(6,[]),(11,[]),(12,[]),(13,[]),(68,[]),(69,[]),(70,[])],[(.loc 3,[]),(.loc 4,[]),(.loc 6,[.any,.wr .u64,.wr .tree]),(.loc 11,[]),(.loc 12,[])])
 | 18=> ([(3,[]),(4,[]),(6,[]),(11,[]),(12,[]),(68,[]),(69,[]),(70,[]),(85,[])],[(.loc 3,[]),(.loc 4,[]),(.loc 6,[.any,.wr .u64,.wr .tree]),(.loc 11,[]),(.loc 12,[])])
 | 19=> ([(4,[]),(5,[])],[(.loc 4,[])])
 | 20=> ([(3,[]),(4,[]),(6,[]),(11,[]),(12,[]),(68,[]),(69,[]),(70,[]),(85,[]),(92,[])],[(.loc 3,[]),(.loc 4,[]),(.loc 6,[.any,.wr .u64,.wr .tree]),(.loc 11,[]),(.loc 12,[])])
 | 21=> ([(3,[]),(4,[]),(6,[]),(11,[]),(12,[]),(68,[]),(69,[]),(70,[]),(85,[])],[(.loc 3,[]),(.loc 4,[]),(.loc 6,[.any,.wr .u64,.wr .tree]),(.loc 11,[]),(.loc 12,[])])
 | 22=> ([(3,[]),(4,[]),(6,[]),(68,[]),(69,[]),(70,[])],[(.loc 3,[]),(.loc 4,[]),(.loc 6,[.any,.wr .u64,.wr .tree])])
 | 23=> ([(3,[]),(4,[]),(6,[]),(68,[]),(69,[]),(70,[])],[(.loc 3,[]),(.loc 4,[]),(.loc 6,[.any,.wr .u64,.wr .tree])])
 | 24=> ([(4,[]),(5,[])],[(.loc 4,[])])
 | _=> ([],[])
def Z60(e:Edit)(t:Tree)(x28:Int)(rl_6_1:List Int):LSt U:=(⟨[(2,.ptr (.loc 2) 0),(3,.ptr (.loc 3) 0),(4,.ptr (.loc 4) 0),(6,.ptr (.loc 6) 0),(26,.c (sU .wedit e.words .unk)),(27,.c (ci (e.words.length:Int))),(28,.c (ci x28))],[(.loc 2,(enc .edit e)),(.loc 3,(enc .tree t)),(.loc 4,[ci 0,.nils,.nils]),(.loc 6,[ci 1,.mref (.l 6 1),.mref (.l 6 2)])],[(.l 6 1,LC.mk (U:=U) .u64 rl_6_1 0),(.l 6 2,LC.mk (U:=U) .tree t.kids 0)]⟩:LSt U)
def Z5Z(e:Edit)(t:Tree)(x28:Int)(rl_6_1_a:List Int):LSt U:=(⟨[(2,.ptr (.loc 2) 0),(3,.ptr (.loc 3) 0),(4,.ptr (.loc 4) 0),(6,.ptr (.loc 6) 0),(8,.ptr (.loc 8) 0),(9,.c (.int .u64 (Jx (Tree.mk t.kind t.words t.kids) (WEdit.at_ (e.words.getD x28.toNat (WEdit.mk 0 0 0 0)))))),(26,.c (sU .wedit e.words .unk)),(27,.c (ci (e.words.length:Int))),(28,.c (ci x28)),(42,.c (.bool (((mix 0 (Jx (Tree.mk t.kind t.words t.kids) (WEdit.at_ (e.words.getD x28.toNat (WEdit.mk 0 0 0 0)))) (WEdit.mask (e.words.getD x28.toNat (WEdit.mk 0 0 0 0)))):Int) !=(WEdit.old (e.words.getD x28.toNat (WEdit.mk 0 0 0 0))))))],[(.loc 2,(enc .edit e)),(.loc 3,(enc .tree t)),(.loc 4,[ci 0,.nils,.nils]),(.loc 6,[ci 1,.mref (.l 6 1),.mref (.l 6 2)]),(.loc 8,(enc .wedit (e.words.getD x28.toNat (WEdit.mk 0 0 0 0))))],[(.l 6 1,LC.mk (U:=U) .u64 rl_6_1_a 0),(.l 6 2,LC.mk (U:=U) .tree t.kids 0)]⟩:LSt U)
def Z5Y(e:Edit)(t:Tree)(rl_6_1:List Int)(x70_b:Int)(rl_6_2_b:List Tree):LSt U:=(⟨[(3,.ptr (.loc 3) 0),(4,.ptr (.loc 4) 0),(6,.ptr (.loc 6) 0),(68,.c (sU .kid e.kids .unk)),(69,.c (ci (e.kids.length:Int))),(70,.c (ci x70_b))],[(.loc 3,(enc .tree t)),(.loc 4,[ci 0,.nils,.nils]),(.loc 6,[ci 1,.mref (.l 6 1),.mref (.l 6 2)])],[(.l 6 1,LC.mk (U:=U) .u64 rl_6_1 0),(.l 6 2,LC.mk (U:=U) .tree rl_6_2_b 0)]⟩:LSt U)
def Z5X(e:Edit)(t:Tree)(rl_6_1:List Int)(x70_b:Int)(rl_6_2_c:List Tree):LSt U:=(⟨[(3,.ptr (.loc 3) 0),(4,.ptr (.loc 4) 0),(6,.ptr (.loc 6) 0),(11,.ptr (.loc 11) 0),(12,.ptr (.loc 12) 0),(68,.c (sU .kid e.kids .unk)),(69,.c (ci (e.kids.length:Int))),(70,.c (ci x70_b)),(85,.c (.bool (!((doE false (Edit.mk (Edit.kind (KidOf.e (e.kids.getD x70_b.toNat (KidOf.mk 0 Edit.nil)))) (Tree.mk (Tree.kind (Edit.old (KidOf.e (e.kids.getD x70_b.toNat (KidOf.mk 0 Edit.nil))))) (Tree.words (Edit.old (KidOf.e (e.kids.getD x70_b.toNat (KidOf.mk 0 Edit.nil))))) (Tree.kids (Edit.old (KidOf.e (e.kids.getD x70_b.toNat (KidOf.mk 0 Edit.nil)))))) (Tree.mk (Tree.kind (Edit.new (KidOf.e (e.kids.getD x70_b.toNat (KidOf.mk 0 Edit.nil))))) (Tree.words (Edit.new (KidOf.e (e.kids.getD x70_b.toNat (KidOf.mk 0 Edit.nil))))) (Tree.kids (Edit.new (KidOf.e (e.kids.getD x70_b.toNat (KidOf.mk 0 Edit.nil)))))) (Edit.words (KidOf.e (e.kids.getD x70_b.toNat (KidOf.mk 0 Edit.nil)))) (Edit.kids (KidOf.e (e.kids.getD x70_b.toNat (KidOf.mk 0 Edit.nil)))) (Edit.list (KidOf.e (e.kids.getD x70_b.toNat (KidOf.mk 0 Edit.nil)))) (Edit.ops (KidOf.e (e.kids.getD x70_b.toNat (KidOf.mk 0 Edit.nil))))) (Tree.mk (Tree.kind (JM (Tree.mk t.kind t.words t.kids) (KidOf.at_ (e.kids.getD x70_b.toNat (KidOf.mk 0 Edit.nil))))) (Tree.words (JM (Tree.mk t.kind t.words t.kids) (KidOf.at_ (e.kids.getD x70_b.toNat (KidOf.mk 0 Edit.nil))))) (Tree.kids (JM (Tree.mk t.kind t.words t.kids) (KidOf.at_ (e.kids.getD x70_b.toNat (KidOf.mk 0 Edit.nil))))))).isSome))))],[(.loc 3,(enc .tree t)),(.loc 4,[ci 0,.nils,.nils]),(.loc 6,[ci 1,.mref (.l 6 1),.mref (.l 6 2)]),(.loc 11,(enc .kid (e.kids.getD x70_b.toNat (KidOf.mk 0 Edit.nil)))),(.loc 12,(enc .tree (Zao (Edit.mk (Edit.kind (KidOf.e (e.kids.getD x70_b.toNat (KidOf.mk 0 Edit.nil)))) (Tree.mk (Tree.kind (Edit.old (KidOf.e (e.kids.getD x70_b.toNat (KidOf.mk 0 Edit.nil))))) (Tree.words (Edit.old (KidOf.e (e.kids.getD x70_b.toNat (KidOf.mk 0 Edit.nil))))) (Tree.kids (Edit.old (KidOf.e (e.kids.getD x70_b.toNat (KidOf.mk 0 Edit.nil)))))) (Tree.mk (Tree.kind (Edit.new (KidOf.e (e.kids.getD x70_b.toNat (KidOf.mk 0 Edit.nil))))) (Tree.words (Edit.new (KidOf.e (e.kids.getD x70_b.toNat (KidOf.mk 0 Edit.nil))))) (Tree.kids (Edit.new (KidOf.e (e.kids.getD x70_b.toNat (KidOf.mk 0 Edit.nil)))))) (Edit.words (KidOf.e (e.kids.getD x70_b.toNat (KidOf.mk 0 Edit.nil)))) (Edit.kids (KidOf.e (e.kids.getD x70_b.toNat (KidOf.mk 0 Edit.nil)))) (Edit.list (KidOf.e (e.kids.getD x70_b.toNat (KidOf.mk 0 Edit.nil)))) (Edit.ops (KidOf.e (e.kids.getD x70_b.toNat (KidOf.mk 0 Edit.nil))))) (Tree.mk (Tree.kind (JM (Tree.mk t.kind t.words t.kids) (KidOf.at_ (e.kids.getD x70_b.toNat (KidOf.mk 0 Edit.nil))))) (Tree.words (JM (Tree.mk t.kind t.words t.kids) (KidOf.at_ (e.kids.getD x70_b.toNat (KidOf.mk 0 Edit.nil))))) (Tree.kids (JM (Tree.mk t.kind t.words t.kids) (KidOf.at_ (e.kids.getD x70_b.toNat (KidOf.mk 0 Edit.nil)))))))))],[(.l 6 1,LC.mk (U:=U) .u64 rl_6_1 0),(.l 6 2,LC.mk (U:=U) .tree rl_6_2_c 0)]⟩:LSt U)
abbrev ZfT(N:Nat)(p:List Nat):=AW (Z2 (Zfj N)) Try.f107 Zke p
abbrev Z69(N:Nat)(p:List Nat):=SW (Z2 (Zfj N)) Try.f107 Zke p
theorem ZwX(N:Nat)(e:Edit)(t:Tree)(Q:QT)(h:(((t.kind !=1)=true→(Q .ret (L2 [(4,.ptr (.loc 4) 0),(5,.c (.bool false))] [(.loc 4,[ci 0,.nils,.nils])])))∧((t.kind !=1)=false→(Z7w (t.words,()))∧(ZbM (t.kids,()))∧(Zj (ZfT N [1,1,1,0,1,0,0]) (Z60 e t 0 t.words) (xB 0 (Z69 N [1,1,1,1] Q)))))):
  ZfT N [] (L2 [(0,.agg (enc .edit e)),(1,.agg (enc .tree t))] []) Q:=
 Eq.mpr (by kernel_rfl) h
theorem Zn7(N:Nat)(e:Edit)(t:Tree)(x28:Int)(rl_6_1:List Int)(N0:NT)(Q:QT)(h:∀ y_1,y_1=t→∀ y_2,y_2=(e.words.getD x28.toNat (WEdit.mk 0 0 0 0))→let z1:=decide (x28 < (e.words.length:Int));let z0:=((mix 0 (Jx y_1 y_2.at_) y_2.mask):Int) !=y_2.old;((z1=true→((0:Int)≤x28∧x28 < (e.words.length:Int))∧((Z8U (y_1,y_2.at_,()))∧((Z4E (0,(Jx y_1 y_2.at_),y_2.mask,()))∧((z0=true→(Q .ret (L2 [(4,.ptr (.loc 4) 0),(5,.c (.bool false))] [(.loc 4,[ci 0,.nils,.nils])])))∧(z0=false→Zj (ZfT N [1,1,1,0,1,0,0,1,1,0,0,1,1,1,0,0,0]) (Z5Z e t x28 rl_6_1) (xB 2 (Z69 N [1,1,1,0,1,0,0,1,1,0,0,1,1,1,1] (xB 1 (Z69 N [1,1,1,0,1,0,0,1,1,1] (xT N0 (xB 0 (Z69 N [1,1,1,1] Q))))))))))))∧(z1=false→(Zj (ZfT N [1,1,1,1,0,1,0,0]) (Z5Y e t rl_6_1 0 t.kids) (xB 4 (Z69 N [1,1,1,1,1] Q)))))):
  ZfT N [1,1,1,0,1,0,0] (Z60 e t x28 rl_6_1) (xT N0 (xB 0 (Z69 N [1,1,1,1] Q))):=
 Eq.mpr (by kernel_rfl) (h _ (Zf _) _ rfl)
theorem Zn6(N:Nat)(e:Edit)(t:Tree)(x28:Int)(rl_6_1_a:List Int)(N1 N0:NT)(Q:QT)(h:let z0:=e.words.getD x28.toNat (WEdit.mk 0 0 0 0);let z2:=Jx (Tree.mk t.kind t.words t.kids) (WEdit.at_ z0);let z1:=decide (((rl_6_1_a.length:Int):Int)≤(WEdit.at_ z0));((z1=true→((rl_6_1_a.length+([0]).length)*8≤140737488355328)∧(N1 (Z5Z e t x28 (rl_6_1_a++([0])))))∧(z1=false→(Z4E (z2,(WEdit.new z0),(WEdit.mask z0),()))∧((0:Int)≤(WEdit.at_ z0)∧(WEdit.at_ z0) < (rl_6_1_a.length:Int))∧((0:Nat)≤(Int.toNat (WEdit.at_ z0)))∧((InR (x28+1))∧(N0 (Z60 e t (x28+1) (List.set rl_6_1_a (Int.toNat (WEdit.at_ z0)) (mix z2 (WEdit.new z0) (WEdit.mask z0))))))))):
  ZfT N [1,1,1,0,1,0,0,1,1,0,0,1,1,1,0,0,0] (Z5Z e t x28 rl_6_1_a) (xT N1 (xB 2 (Z69 N [1,1,1,0,1,0,0,1,1,0,0,1,1,1,1] (xB 1 (Z69 N [1,1,1,0,1,0,0,1,1,1] (xT N0 (xB 0 (Z69 N [1,1,1,1] Q)))))))):=
 Eq.mpr (by kernel_rfl) h
theorem Zn5(N:Nat)(e:Edit)(t:Tree)(rl_6_1:List Int)(x70_b:Int)(rl_6_2_b:List Tree)(N2:NT)(Q:QT)(h:∀ y_1,y_1=t→∀ y_2,y_2=(e.kids.getD x70_b.toNat (KidOf.mk 0 Edit.nil))→∀ y_3,y_3=(y_2.e)→∀ y_4,y_4=(JM y_1 y_2.at_)→let z1:= !((doE false y_3 y_4).isSome);let z0:=decide (x70_b < (e.kids.length:Int));((z0=true→((0:Int)≤x70_b∧x70_b < (e.kids.length:Int))∧((ZdI (y_1,y_2.at_,()))∧(Z3f (y_3,y_4,()))∧(ZcV (y_3,y_4,()) < N)∧((z1=true→(Q .ret (L2 [(4,.ptr (.loc 4) 0),(5,.c (.bool false))] [(.loc 4,[ci 0,.nils,.nils])])))∧(z1=false→Zj (ZfT N [1,1,1,1,0,1,0,0,1,1,0,0,1,1,1,0,0,0]) (Z5X e t rl_6_1 x70_b rl_6_2_b) (xB 6 (Z69 N [1,1,1,1,0,1,0,0,1,1,0,0,1,1,1,1] (xB 5 (Z69 N [1,1,1,1,0,1,0,0,1,1,1] (xT N2 (xB 4 (Z69 N [1,1,1,1,1] Q)))))))))))∧(z0=false→(Q .ret (L2 [(4,.ptr (.loc 4) 0),(5,.c (.bool true))] [(.loc 4,[ci 1,sU .u64 rl_6_1 (.own (.l 4 1)),sU .tree rl_6_2_b (.own (.l 4 2))])]))))):
  ZfT N [1,1,1,1,0,1,0,0] (Z5Y e t rl_6_1 x70_b rl_6_2_b) (xT N2 (xB 4 (Z69 N [1,1,1,1,1] Q))):=
 Eq.mpr (by kernel_rfl) (h _ (Zf _) _ rfl _ (Z9 _) _ (Zf _))
theorem Zn4(N:Nat)(e:Edit)(t:Tree)(rl_6_1:List Int)(x70_b:Int)(rl_6_2_c:List Tree)(N3 N2:NT)(Q:QT)(h:∀ y_1,y_1=t→∀ y_2,y_2=(e.kids.getD x70_b.toNat (KidOf.mk 0 Edit.nil))→∀ y_3,y_3=(y_2.e)→∀ y_4,y_4=(JM y_1 y_2.at_)→∀ y_5,y_5=(Zao y_3 y_4)→let z0:=decide (((rl_6_2_c.length:Int):Int)≤y_2.at_);((z0=true→((rl_6_2_c.length+([(Tree.mk 0 [] [])]).length)*56≤140737488355328)∧(N3 (Z5X e t rl_6_1 x70_b (rl_6_2_c++([(Tree.mk 0 [] [])])))))∧(z0=false→((0:Int)≤y_2.at_∧y_2.at_ < (rl_6_2_c.length:Int))∧((0:Nat)≤(Int.toNat y_2.at_))∧((InR (x70_b+1))∧(N2 (Z5Y e t rl_6_1 (x70_b+1) (List.set rl_6_2_c (Int.toNat y_2.at_) y_5))))))):
  ZfT N [1,1,1,1,0,1,0,0,1,1,0,0,1,1,1,0,0,0] (Z5X e t rl_6_1 x70_b rl_6_2_c) (xT N3 (xB 6 (Z69 N [1,1,1,1,0,1,0,0,1,1,0,0,1,1,1,1] (xB 5 (Z69 N [1,1,1,1,0,1,0,0,1,1,1] (xT N2 (xB 4 (Z69 N [1,1,1,1,1] Q)))))))):=
 Eq.mpr (by kernel_rfl) (h _ (Zf _) _ rfl _ (Z9 _) _ (Zf _) _ (Zf _))
def ZsO(N:Nat)(e:Edit)(t:Tree):Prop:=AW (Z2 (Zfj N)) Try.f107 Zke [] (Zo (Z64.can (e,t,())) []) (EQ Try.f107 (Z3U (e,t,())) [])
abbrev ZtI:Prop:=∀ (N:Nat) (e:Edit) (t:Tree) (_:Unit),Z3Y (e,t,())→Z9X (e,t,()) < N+1→ZsO N e t
def Zfi(N:Nat):List (FuncId × Fs U):=(70,fs Z9s (fun a=> [Z3f a,ZcV a < N]) Z4B) ::(107,fs Z64 (fun a=> [Z3Y a,Z9X a < N]) Z3U) ::(108,fs Z63 (fun a=> [Z3X a,Z9W a < N]) Z3T) ::[(106,J3),(149,Z1A),(91,Z3L),(151,Z5n),(150,Z5o),(66,Z3N),(109,Z3d)]
def Zkd:Zg U:=fun i=> match i with
 | 0=> ([(2,[]),(3,[]),(4,[])],[(.loc 2,[]),(.loc 3,[]),(.loc 4,[])])
 | 1=> ([(2,[]),(3,[]),(4,[]),(18,[])],[(.loc 2,[]),(.loc 3,[]),(.loc 4,[])])
 | 2=> ([(4,[]),(5,[])],[(.loc 4,[])])
 | 3=> ([(2,[]),(3,[]),(4,[]),(6,[])],[(.loc 2,[]),(.loc 3,[]),(.loc 4,[]),(.loc 6,[])])
 | 4=> ([(2,[]),(4,[]),(6,[]),(7,[])],[(.loc 2,[]),(.loc 4,[]),(.loc 6,[])])
 | 5=> ([(4,[]),(6,[]),(7,[]),(26,[]),(27,[]),(28,[])],[(.loc 4,[]),(.loc 6,[.any,.any,.own .tree])])
 | 6=> ([(4,[]),(6,[]),(7,[]),(26,[]),(27,[]),(28,[]),(29,[])],[(.loc 4,[]),(.loc 6,[])])
 | 7=> ([(4,[]),(6,[]),(7,[]),(9,[]),(26,[]),(27,[]),(28,[])],[(.loc 4,[]),(.loc 6,[]),(.loc 9,[])])
 | 8=> ([(4,[]),(6,[]),(7,[]),(9,[]),(10,[]),(26,[]),(27,[]),(28,[])],[(.loc 4,[]),(.loc 6,[]),(.loc 9,[])])
 | 9=> ([(4,[]),(6,[]),(7,[]),(9,[]),(10,[]),(26,[]),(27,[]),(28,[]),(35,[])],[(.loc 4,[]),(.loc 6,[]),(.loc 9,[])])
 | 10=> ([(4,[]),(6,[]),(7,[]),(9,[]),(10,[]),(26,[]),(27,[]),(28,[]),(35,[]),(36,[])],[(.loc 4,[]),(.loc 6,[]),(.loc 9,[])])
 | 11=> ([(4,[]),(6,[]),(7,[]),(26,[]),(27,[]),(28,[]),(97,[])],[(.loc 4,[]),(.loc 6,[])])
 | 12=> ([(4,[]),(6,[]),(7,[]),(9,[]),(10,[]),(26,[]),(27,[]),(28,[]),(35,[]),(44,[])],[(.loc 4,[]),(.loc 6,[]),(.loc 9,[])])
 | 13=> ([(4,[]),(6,[]),(7,[]),(9,[]),(10,[]),(26,[]),(27,[]),(28,[]),(49,[])],[(.loc 4,[]),(.loc 6,[]),(.loc 9,[])])
 | 14=> ([(4,[]),(6,[]),(7,[]),(9,[]),(10,[]),(26,[]),(27,[]),(28,[]),(49,[])],[(.loc 4,[]),(.loc 6,[]),(.loc 9,[])])
 | 15=> ([(4,[]),(6,[]),(7,[]),(9,[]),(10,[]),(26,[]),(27,[]),(28,[]),(49,[])],[(.loc 4,[]),(.loc 6,[]),(.loc 9,[])])
 | 16=> ([(4,[]),(6,[]),(7,[]),(9,[]),(10,[]),(26,[]),(27,[]),(28,[]),(54,[])],[(.loc 4,[]),(.loc 6,[]),(.loc 9,[])])
 | 17=> ([(4,[]),(5,[])],[(.loc 4,[])])
 | 18=> ([(4,[]),(6,[]),(7,[]),(9,[]),(10,[]),(26,[]),(27,[]),(28,[])],[(.loc 4,[]),(.loc 6,[]),(.loc 9,[])])
 | 19=> ([(4,[]),(6,[]),(7,[]),(9,[]),(11,[]),(26,[]),(27,[]),(28,[])],[(.loc 4,[]),(.loc 6,[]),(.loc 9,[])])
 | 20=> ([(4,[]),(6,[]),(7,[]),(12,[]),(13,[]),(26,[]),(27,[]),(28,[])],[(.loc 4,[]),(.loc 6,[]),(.loc 12,[])])
 | 21=> ([(4,[]),(6,[]),(7,[]),(12,[]),(26,[]),(27,[]),(28,[]),(72,[])],[(.loc 4,[]),(.loc 6,[]),(.loc 12,[])])
 | 22=> ([(4,[]),(5,[])],[(.loc 4,[])])
 | 23=> ([(4,[]),(6,[]),(7,[]),(26,[]),(27,[]),(28,[]),(97,[])],[(.loc 4,[]),(.loc 6,[])])
 | 24=> ([(4,[]),(6,[]),(7,[]),(9,[]),(11,[]),(26,[]),(27,[]),(28,[]),(80,[])],[(.loc 4,[]),(.loc 6,[]),(.loc 9,[])])
 | 25=> ([(4,[]),(6,[]),(7,[]),(26,[]),(27,[]),(28,[]),(97,[])],[(.loc 4,[]),(.loc 6,[])])
 | 26=> ([(4,[]),(6,[]),(7,[]),(9,[]),(11,[]),(26,[]),(27,[]),(28,[]),(89,[])],[(.loc 4,[]),(.loc 6,[]),(.loc 9,[])])
 | 27=> ([(4,[]),(6,[]),(7,[]),(26,[]),(27,[]),(28,[]),(97,[])],[(.loc 4,[]),(.loc 6,[])])
 | 28=> ([(4,[]),(5,[])],[(.loc 4,[])])
 | 29=> ([(4,[]),(6,[]),(7,[]),(26,[]),(27,[]),(28,[])],[(.loc 4,[]),(.loc 6,[.any,.any,.own .tree])])
 | 30=> ([(4,[]),(5,[])],[(.loc 4,[])])
 | _=> ([],[])
def Z15(e:Edit)(t:Tree)(x28:Int)(x7 ml6_2:List Tree):LSt U:=(L2 [(4,.ptr (.loc 4) 0),(6,.ptr (.loc 6) 0),(7,.c (sU .tree x7 .unk)),(26,.c (sU .op e.ops .unk)),(27,.c (ci (e.ops.length:Int))),(28,.c (ci x28))] [(.loc 4,[ci 0,.nils,.nils]),(.loc 6,[ci t.kind,.nils,sU .tree ml6_2 (.own (.l 6 2))])])
def Z24(e:Edit)(t:Tree)(x28:Int)(x7_a ml6_2_a:List Tree)(v97_a:V U):LSt U:=(L2 [(4,.ptr (.loc 4) 0),(6,.ptr (.loc 6) 0),(7,.c (sU .tree x7_a .unk)),(26,.c (sU .op e.ops .unk)),(27,.c (ci (e.ops.length:Int))),(28,.c (ci x28)),(97,v97_a)] [(.loc 4,[ci 0,.nils,.nils]),(.loc 6,[ci t.kind,.nils,sU .tree ml6_2_a (.own (.l 6 2))])])
def Z5W(e:Edit)(t:Tree)(x28:Int)(x7 ml6_2:List Tree)(x10_b:Int)(v49_b:V U):LSt U:=(L2 [(4,.ptr (.loc 4) 0),(6,.ptr (.loc 6) 0),(7,.c (sU .tree x7 .unk)),(9,.ptr (.loc 9) 0),(10,.c (ci x10_b)),(26,.c (sU .op e.ops .unk)),(27,.c (ci (e.ops.length:Int))),(28,.c (ci x28)),(49,v49_b)] [(.loc 4,[ci 0,.nils,.nils]),(.loc 6,[ci t.kind,.nils,sU .tree ml6_2 (.own (.l 6 2))]),(.loc 9,(enc .op (e.ops.getD x28.toNat Op.nil)))])
abbrev Z9u(N:Nat)(p:List Nat):=AW (Z2 (Zfi N)) Try.f108 Zkd p
abbrev ZfS(N:Nat)(p:List Nat):=SW (Z2 (Zfi N)) Try.f108 Zkd p
theorem ZwW(N:Nat)(e:Edit)(t:Tree)(Q:QT)(h:(((t.kind !=e.list)=true→(Q .ret (L2 [(4,.ptr (.loc 4) 0),(5,.c (.bool false))] [(.loc 4,[ci 0,.nils,.nils])])))∧((t.kind !=e.list)=false→(Zj (Z9u N [1,1,1,1,0,1,0,0]) (Z15 e t 0 t.kids []) (xB 0 (ZfS N [1,1,1,1,1] Q)))))):
  Z9u N [] (L2 [(0,.agg (enc .edit e)),(1,.agg (enc .tree t))] []) Q:=
 Eq.mpr (by kernel_rfl) h
theorem Zn2(N:Nat)(e:Edit)(t:Tree)(x28:Int)(x7 ml6_2:List Tree)(N0:NT)(Q:QT)(h:∀ y_1,y_1=(e.ops.getD x28.toNat Op.nil)→let z2:=decide (x28 < (e.ops.length:Int));let z1:=xT N0 (xB 0 (ZfS N [1,1,1,1,1] Q));let z0:=xB 1 (ZfS N [1,1,1,1,0,1,0,0,1,1,1] z1);((z2=true→((0:Int)≤x28∧x28 < (e.ops.length:Int))∧(((y_1.kind==2)=true→((ml6_2.length+y_1.l.length)*56≤140737488355328)∧(Z9u N [1,1,1,1,0,1,0,0,1,1,1] (Z24 e t x28 x7 (ml6_2++y_1.l) .junk) z1))∧((y_1.kind==2)=false→(((y_1.kind==1)=true→(Z9u N [1,1,1,1,0,1,0,0,1,1,0,0,1,1,1] (Z5W e t x28 x7 ml6_2 (y_1.l.length:Int) .junk) z0))∧((y_1.kind==1)=false→(((y_1.kind==3)=true→(Z9u N [1,1,1,1,0,1,0,0,1,1,0,0,1,1,1] (Z5W e t x28 x7 ml6_2 1 (.c (.bool (y_1.kind==3)))) z0))∧((y_1.kind==3)=false→Z9u N [1,1,1,1,0,1,0,0,1,1,0,0,1,1,1] (Z5W e t x28 x7 ml6_2 y_1.n (.c (.bool (y_1.kind==3)))) z0)))))))∧(z2=false→(Q .ret (L2 [(4,.ptr (.loc 4) 0),(5,.c (.bool (((x7.length:Int):Int)==0)))] [(.loc 4,[ci t.kind,.nils,sU .tree ml6_2 (.own (.l 4 2))])]))))):
  Z9u N [1,1,1,1,0,1,0,0] (Z15 e t x28 x7 ml6_2) (xT N0 (xB 0 (ZfS N [1,1,1,1,1] Q))):=
 Eq.mpr (by kernel_rfl) (h _ rfl)
theorem Zn3(N:Nat)(e:Edit)(t:Tree)(x28:Int)(x7_a ml6_2_a:List Tree)(v97_a:V U)(N0:NT)(Q:QT)(h:(InR (x28+1))∧(N0 (Z15 e t (x28+1) x7_a ml6_2_a))):
  Z9u N [1,1,1,1,0,1,0,0,1,1,1] (Z24 e t x28 x7_a ml6_2_a v97_a) (xT N0 (xB 0 (ZfS N [1,1,1,1,1] Q))):=
 Eq.mpr (by kernel_rfl) h
theorem ZaS(N:Nat)(e:Edit)(t:Tree)(x28:Int)(x7 ml6_2:List Tree)(x10_b:Int)(v49_b:V U)(N0:NT)(Q:QT)(h:∀ y_1,y_1=(e.ops.getD x28.toNat Op.nil)→∀ y_2,y_2=(List.getD (List.take x10_b.toNat x7) (Int.toNat 0) Tree.nil)→∀ y_3,y_3=y_2→∀ y_4,y_4=(y_1.e)→∀ y_5,y_5=(eqX (Z5 y_1.l) (Z5 (List.take x10_b.toNat x7)))→∀ y_6,y_6=(Zao y_4 y_3)→let z5:= !((doE false y_4 y_3).isSome);let z4:=decide (((x7.length:Int):Int) < x10_b);let z3:=List.drop x10_b.toNat x7;let z2:=List.take x10_b.toNat x7;let z1:=xT N0 (xB 0 (ZfS N [1,1,1,1,1] Q));let z0:=Q .ret (L2 [(4,.ptr (.loc 4) 0),(5,.c (.bool false))] [(.loc 4,[ci 0,.nils,.nils])]);((z4=true→z0)∧(z4=false→(((0:Int)≤x10_b∧x10_b≤(x7.length:Int))∧((0:Int)≤x10_b∧x10_b≤(x7.length:Int))∧(((y_1.kind==0)=true→((ml6_2.length+z2.length)*56≤140737488355328)∧(Z9u N [1,1,1,1,0,1,0,0,1,1,1] (Z24 e t x28 z3 (ml6_2++z2) .junk) z1))∧((y_1.kind==0)=false→(((y_1.kind==1)=true→(ZbL (y_1.l,z2,(),()))∧(((!y_5)=true→z0)∧((!y_5)=false→Z9u N [1,1,1,1,0,1,0,0,1,1,1] (Z24 e t x28 z3 ml6_2 (.c (.bool (!y_5)))) z1)))∧((y_1.kind==1)=false→((0:Int)≤0∧0 < (z2.length:Int))∧(Z3f (y_4,y_3,()))∧(ZcV (y_4,y_3,()) < N)∧((z5=true→z0)∧(z5=false→((ml6_2.length+([y_6]).length)*56≤140737488355328)∧(Z9u N [1,1,1,1,0,1,0,0,1,1,1] (Z24 e t x28 z3 (ml6_2++([y_6])) .junk) z1))))))))))):
  Z9u N [1,1,1,1,0,1,0,0,1,1,0,0,1,1,1] (Z5W e t x28 x7 ml6_2 x10_b v49_b) (xB 1 (ZfS N [1,1,1,1,0,1,0,0,1,1,1] (xT N0 (xB 0 (ZfS N [1,1,1,1,1] Q))))):=
 Eq.mpr (by kernel_rfl) (h _ rfl _ rfl _ (Zf _) _ (Z9 _) _ rfl _ (Zf _))
def ZsN(N:Nat)(e:Edit)(t:Tree):Prop:=AW (Z2 (Zfi N)) Try.f108 Zkd [] (Zo (Z63.can (e,t,())) []) (EQ Try.f108 (Z3T (e,t,())) [])
abbrev ZtH:Prop:=∀ (N:Nat) (e:Edit) (t:Tree) (_:Unit),Z3X (e,t,())→Z9W (e,t,()) < N+1→ZsN N e t
theorem Zrc(Zfy:CT 106 J3)(Zmp:CT 149 Z1A)(c91:CT 91 Z3L)(Zvc:CT 151 Z5n)(Zvd:CT 150 Z5o)(c66:CT 66 Z3N)(Zpz:CT 109 Z3d)(b70:ZxD)(Zvu:ZtI)(Zvt:ZtH):
  CT 70 Z8J∧CT 107 Zji∧CT 108 Zjh:=by
 have h82 : ∃ fn, Try.prog.funcs[(70 : FuncId)]? = some fn ∧ fn.body.isSome = true ∧ (fn.name == "runtime.NumGoroutine") = false := ⟨Try.f70, Try.func70, rfl, rfl⟩
 have h113 : ∃ fn, Try.prog.funcs[(107 : FuncId)]? = some fn ∧ fn.body.isSome = true ∧ (fn.name == "runtime.NumGoroutine") = false := ⟨Try.f107, Try.func107, rfl, rfl⟩
 have h114 : ∃ fn, Try.prog.funcs[(108 : FuncId)]? = some fn ∧ fn.body.isSome = true ∧ (fn.name == "runtime.NumGoroutine") = false := ⟨Try.f108, Try.func108, rfl, rfl⟩
 have key:∀ N,CT 70 (fs Z9s (fun a=> [Z3f a,ZcV a < N]) Z4B)∧CT 107 (fs Z64 (fun a=> [Z3Y a,Z9X a < N]) Z3U)∧CT 108 (fs Z63 (fun a=> [Z3X a,Z9W a < N]) Z3T):=by
  intro N
  induction N with
  | zero=> exact ⟨Z0H h82,Z0H h113,Z0H h114⟩
  | succ N ih=>
   have kn:=Z0F (l:=Z9f N) ⟨ih.1,ih.2.1,ih.2.2,Zfy,Zmp,c91,Zvc,Zvd,c66,Zpz,trivial⟩
   exact ⟨ZU (Γ:=Z2 (Z9f N)) Zr rfl kn ZuH Try.func70 rfl rfl (fun a=> by show 2≤_;decide) (fun ⟨e,t,_⟩ h=> b70 N e t () h.1 h.2.1),
    ZU (Γ:=Z2 (Z9f N)) Zr rfl kn Zke Try.func107 rfl rfl (fun a=> by show 2≤_;decide) (fun ⟨e,t,_⟩ h=> Zvu N e t () h.1 h.2.1),
    ZU (Γ:=Z2 (Z9f N)) Zr rfl kn Zkd Try.func108 rfl rfl (fun a=> by show 2≤_;decide) (fun ⟨e,t,_⟩ h=> Zvt N e t () h.1 h.2.1)⟩
 exact ⟨Z0I h82 fun N=> (key N).1,Z0I h113 fun N=> (key N).2.1,Z0I h114 fun N=> (key N).2.2⟩
end
end Go.AM.Ytpjenobkibfpcaa
