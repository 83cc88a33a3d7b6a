import Derived.Test.YtpjenobkibfpcaaCL30a
import Derived.Test.YtpjenobkibfpcaaKB20e
import Derived.Test.YtpjenobkibfpcaaKD24
import Derived.Test.YtpjenobkibfpcaaKB22c
import Derived.Test.YtpjenobkibfpcaaKL22m
set_option linter.unusedSimpArgs false
set_option linter.unusedVariables false
namespace Go.AM.Ytpjenobkibfpcaa
open Go.AM Go.Proofs
section
variable {α:Type} {at_:α->Int}
theorem Zc2{β:Type}{F G:Nat->α->β}{l:List α}{i:Nat}{v:β}(hF:∀ k a,k≠i->l[k]?=some a->F k a=G k a)(hv:∀ a,l[i]?=some a->G i a=v):(l.mapIdx F).set i v=l.mapIdx G:=by
 apply XB
 intro k
 rw [XV,Xe,Xe,Ke]
 by_cases h:i=k
 ·subst h
  rw [if_pos rfl]
  cases hk:l[i]? with
  | none=> rw [if_neg];rfl;have:=List.getElem?_eq_none_iff.1 hk;omega
  | some a=> rw [if_pos (Q2.1 hk).1,Q8,hv a hk]
 ·rw [if_neg h]
  cases hk:l[k]? with
  | none=> rfl
  | some a=> rw [Q8,Q8,hF k a (fun e=> h e.symm) hk]
theorem J0{β:Type}{F G:Nat->α->β}{l:List α}(hF:∀ k a,l[k]?=some a->F k a=G k a):l.mapIdx F=l.mapIdx G:=by
 apply XB
 intro k
 rw [Xe,Xe]
 cases hk:l[k]? with
 | none=> rfl
 | some a=> rw [Q8,Q8,hF k a hk]
theorem Z3o{β:Type}(F:α->β)(l:List α):l.mapIdx (fun _ a=> F a)=l.map F:=by
 apply XB
 intro k
 rw [Xe,Qj]
def ZsR(at_:α->Int)(f:α->α->α)(p q:List α)(i j:Nat):List α:=p.mapIdx fun k a=> if k < i then YA at_ f q a else if k=i then YA at_ f (q.take j) a else a
def ZsQ(at_:α->Int)(f:α->α->α)(p q:List α)(i j:Nat):List α:=q.mapIdx fun k b=> YA at_ f (p.take (if k < j then i+1 else i)) b
def Z9P(at_:α->Int)(g:α->α->Bool)(p q:List α)(i j:Nat):Bool:=JV at_ g (p.take i) q || JV at_ g ((p.drop i).take 1) (q.take j)
theorem Z5d(f:α->α->α)(q:List α)(b a:α):YA at_ f (q++[b]) a=if at_ b=at_ a then f a b else YA at_ f q a:=by
 unfold YA Z1M
 rw [List.foldl_append]
 simp only [XL,List.foldl_nil]
 by_cases h:at_ b=at_ a
 ·rw [if_pos h,if_pos h]
 ·rw [if_neg h,if_neg h]
theorem Zal{f:α->α->α}(hf:∀ a b,at_ (f a b)=at_ a)(q:List α)(a:α):at_ (YA at_ f q a)=at_ a:=by
 unfold YA
 cases Z1M at_ q (at_ a) with
 | none=> rfl
 | some b=> exact hf a b
theorem getD_some{l:List α}{i:Nat}{a:α}(h:l[i]?=some a)(z:α):l.getD i z=a:=by rw [Qm,h];try rfl
structure SInv (at_:α->Int) (f fy:α->α->α) (gc ga:α->α->Bool) (mc ma:Bool) (p q:List α) (i j:Nat) (c a:Bool) (X Y:List α):Prop where
 ec:c=(mc || Z9P at_ gc p q i j)
 ea:a=(ma || Z9P at_ ga p q i j)
 eX:X=ZsR at_ f p q i j
 eY:Y=ZsQ at_ fy p q i j
variable {f fy:α->α->α} {gc ga:α->α->Bool} {mc ma:Bool} {p q:List α} {i j:Nat} {c a:Bool} {X Y:List α}
theorem SInv.lx(h:SInv at_ f fy gc ga mc ma p q i j c a X Y):X.length=p.length:=by rw [h.eX];exact Ke
theorem SInv.ly(h:SInv at_ f fy gc ga mc ma p q i j c a X Y):Y.length=q.length:=by rw [h.eY];exact Ke
theorem SInv.init:SInv at_ f fy gc ga mc ma p q 0 0 mc ma p q:=by
 refine ⟨?_,?_,?_,?_⟩
 ·cases p <;> simp [Z9P,JV]
 ·cases p <;> simp [Z9P,JV]
 ·unfold ZsR
  rw [J0 (G:=fun _ a=> id a) fun k a hk=> ?_,Z3o,List.map_id]
  ·rw [if_neg (by omega)];split <;> rfl
 ·unfold ZsQ
  rw [J0 (G:=fun _ a=> id a) fun k a hk=> ?_,Z3o,List.map_id]
  ·rw [if_neg (by omega)];try rfl
theorem Zqn(g:α->α->Bool)(p:List α)(q:List α)(b:α):JV at_ g p (q++[b])=(JV at_ g p q || JV at_ g p [b]):=by
 rw [Qx]
 simp only [JV,Xw,XM,Qh,Qe,Q1,decide_eq_true_eq]
 constructor
 ·rintro ⟨a,ha,x,hx | hx,h⟩
  ·exact .inl ⟨a,ha,x,hx,h⟩
  ·exact .inr ⟨a,ha,x,hx,h⟩
 ·rintro (⟨a,ha,x,hx,h⟩ | ⟨a,ha,x,hx,h⟩)
  ·exact ⟨a,ha,x,.inl hx,h⟩
  ·exact ⟨a,ha,x,.inr hx,h⟩
theorem ZsX(g:α->α->Bool)(p p' q:List α):JV at_ g (p++p') q=(JV at_ g p q || JV at_ g p' q):=by unfold JV;rw [List.any_append]
theorem ZaI{l:List α}{i:Nat}(h:i < l.length):(l.drop i).take 1=[l[i]]:=by rw [QL h];try rfl
theorem Z5h(g:α->α->Bool){p q:List α}{i j:Nat}(hi:i < p.length)(hj:j < q.length):Z9P at_ g p q i (j+1)=(Z9P at_ g p q i j || decide (at_ p[i]=at_ q[j]) && g p[i] q[j]):=by
 unfold Z9P
 rw [QS hj,Zqn,ZaI hi,<-Xz]
 congr 1
 simp [JV]
theorem SInv.step(h:SInv at_ f fy gc ga mc ma p q i j c a X Y)(hi:i < p.length)(hj:j < q.length)(z:α):
  (at_ (p.getD i z)=at_ (q.getD j z)->SInv at_ f fy gc ga mc ma p q i (j+1) (c || gc (p.getD i z) (q.getD j z)) (a || ga (p.getD i z) (q.getD j z)) (X.set i (f (p.getD i z) (q.getD j z))) (Y.set j (fy (q.getD j z) (p.getD i z))))/\
  (¬at_ (p.getD i z)=at_ (q.getD j z)->SInv at_ f fy gc ga mc ma p q i (j+1) c a X Y):=by
 have ep:p.getD i z=p[i]:=getD_some (Q0 hi) z
 have eq:q.getD j z=q[j]:=getD_some (Q0 hj) z
 rw [ep,eq]
 obtain ⟨ec,ea,eX,eY⟩:=h
 have tp:p.take (i+1)=p.take i++[p[i]]:=QS hi
 have tq:q.take (j+1)=q.take j++[q[j]]:=QS hj
 refine ⟨fun e=> ⟨?_,?_,?_,?_⟩,fun e=> ⟨?_,?_,?_,?_⟩⟩
 ·rw [Z5h gc hi hj,ec,decide_eq_true e,QB,Xz]
 ·rw [Z5h ga hi hj,ea,decide_eq_true e,QB,Xz]
 ·rw [eX]
  refine Zc2 (fun k b hk _=> ?_) fun b hb=> ?_
  ·by_cases h:k < i
   ·rw [if_pos h,if_pos h]
   ·rw [if_neg h,if_neg h,if_neg hk,if_neg hk]
  ·rw [Q0 hi] at hb
   cases hb
   rw [if_neg (by omega),if_pos rfl,tq,Z5d,if_pos e.symm]
 ·rw [eY]
  refine Zc2 (fun k b hk _=> ?_) fun b hb=> ?_
  ·by_cases h:k < j
   ·rw [if_pos h,if_pos (by omega)]
   ·rw [if_neg h,if_neg (by omega)]
  ·rw [Q0 hj] at hb
   cases hb
   rw [if_pos (by omega),tp,Z5d,if_pos e]
 ·rw [Z5h gc hi hj,ec,decide_eq_false e,XR,Qs]
 ·rw [Z5h ga hi hj,ea,decide_eq_false e,XR,Qs]
 ·rw [eX]
  refine J0 fun k b hb=> ?_
  by_cases h:k=i
  ·subst h
   rw [Q0 hi] at hb
   cases hb
   rw [if_neg (by omega),if_pos rfl,if_neg (by omega),if_pos rfl,tq,Z5d,if_neg (fun x=> e x.symm)]
  ·by_cases h2:k < i
   ·rw [if_pos h2,if_pos h2]
   ·rw [if_neg h2,if_neg h2,if_neg h,if_neg h]
 ·rw [eY]
  refine J0 fun k b hb=> ?_
  by_cases h:k=j
  ·subst h
   rw [Q0 hj] at hb
   cases hb
   rw [if_neg (by omega),if_pos (by omega),tp,Z5d,if_neg e]
  ·by_cases h2:k < j
   ·rw [if_pos h2,if_pos (by omega)]
   ·rw [if_neg h2,if_neg (by omega)]
theorem SInv.next(h:SInv at_ f fy gc ga mc ma p q i q.length c a X Y)(hi:i < p.length):SInv at_ f fy gc ga mc ma p q (i+1) 0 c a X Y:=by
 obtain ⟨ec,ea,eX,eY⟩:=h
 have key:∀ g:α->α->Bool,Z9P at_ g p q i q.length=Z9P at_ g p q (i+1) 0:=by
  intro g
  unfold Z9P
  rw [XY,List.take_zero,QS hi,ZsX,ZaI hi]
  have:JV at_ g ((p.drop (i+1)).take 1) []=false:=by simp [JV]
  rw [this,Qs]
 refine ⟨by rw [ec,key],by rw [ea,key],?_,?_⟩
 ·rw [eX]
  refine J0 fun k b hb=> ?_
  by_cases h:k < i
  ·rw [if_pos h,if_pos (by omega)]
  ·by_cases h2:k=i
   ·rw [if_neg h,if_pos h2,if_pos (by omega),XY]
   ·rw [if_neg h,if_neg h2,if_neg (by omega)]
    split <;> rfl
 ·rw [eY]
  refine J0 fun k b hb=> ?_
  rw [if_pos (Q2.1 hb).1,if_neg (by omega)]
theorem SInv.fin(h:SInv at_ f fy gc ga mc ma p q p.length 0 c a X Y):c=(mc || JV at_ gc p q)/\a=(ma || JV at_ ga p q)/\X=p.map (YA at_ f q)/\Y=q.map (YA at_ fy p):=by
 obtain ⟨ec,ea,eX,eY⟩:=h
 have key:∀ g:α->α->Bool,Z9P at_ g p q p.length 0=JV at_ g p q:=by
  intro g
  unfold Z9P
  rw [XY,List.drop_length]
  simp [JV]
 refine ⟨by rw [ec,key],by rw [ea,key],?_,?_⟩
 ·rw [eX]
  unfold ZsR
  rw [J0 (G:=fun _ a=> YA at_ f q a) fun k b hb=> by rw [if_pos (Q2.1 hb).1],Z3o]
 ·rw [eY]
  unfold ZsQ
  rw [J0 (G:=fun _ a=> YA at_ fy p a) fun k b hb=> by rw [if_neg (by omega),XY],Z3o]
theorem SInv.at_x(h:SInv at_ f fy gc ga mc ma p q i j c a X Y)(hf:∀ a b,at_ (f a b)=at_ a)(hi:i < p.length)(z:α):at_ (X.getD i z)=at_ (p.getD i z):=by
 rw [h.eX,getD_some (a:=YA at_ f (q.take j) p[i]) (by rw [ZsR,Xe,Q0 hi,Q8,if_neg (by omega),if_pos rfl]),getD_some (Q0 hi),Zal hf]
theorem SInv.at_y(h:SInv at_ f fy gc ga mc ma p q i j c a X Y)(hf:∀ a b,at_ (fy a b)=at_ a)(hj:j < q.length)(z:α):at_ (Y.getD j z)=at_ (q.getD j z):=by
 rw [h.eY,getD_some (a:=YA at_ fy (p.take i) q[j]) (by rw [ZsQ,Xe,Q0 hj,Q8,if_neg (by omega)]),getD_some (Q0 hj),Zal hf]
end
end Go.AM.Ytpjenobkibfpcaa
namespace Go.AM.Ytpjenobkibfpcaa
open Go.AM Go.Proofs
def Lft.swap(L:Lft):Lft:=⟨L.y,L.x,L.c,L.a⟩
def PL.swap(L:PL):PL:=⟨L.y,L.x,L.c,L.a⟩
inductive Lay (f:Edit->Edit->Lft):List Op->List Op->List Tree->List Tree->PL->Prop
 | nil (m h):Lay f [] [] m h (Ja m h)
 | left {a p q m h S}:a.kind=2->Lay f p q (m++a.l) h S->Lay f (a ::p) q m h S
 | right {p b q m h S}:(∀ a∈p.head?,a.kind≠2)->b.kind=2->Lay f p q m (h++b.l) S->Lay f p (b ::q) m h S
 | both {a p b q m h S n}:a.kind≠2->b.kind≠2->n=min (Z2 a) (Z2 b)->Lay f (Zw (a ::p) n) (Zw (b ::q) n) [] [] S->
   Lay f (a ::p) (b ::q) m h (((Ja m h).app (ZC f (Zq a n) (Zq b n))).app S)
section
variable {f:Edit->Edit->Lft}
theorem ZcU{p:List Op}{n:Int}(h:∀ x∈p,ZT x)(hl:p.length≠0)(h1:1<=n):∀ o∈Zw p n,ZT o:=by
 cases p with
 | nil=> exact absurd rfl hl
 | cons o r=>
  unfold Zw
  simp only [Qi,Qq,QH]
  split
  ·exact fun x hx=> h x (Q4 _ hx)
  ·rename_i hn
   intro x hx
   rcases Qc.1 hx with rfl | hx
   ·exact (Z7J (h o Q5) h1 hn).1
   ·exact h x (Q4 _ hx)
theorem Z2q{a:Op}{p:List Op}{n:Int}{o:Op}(h:o∈Zw (a ::p) n):o∈p\/o=Yx a n:=by
 unfold Zw at h
 simp only [Qi,Qq,QH] at h
 split at h
 ·exact .inl h
 ·rcases Qc.1 h with h | h
  ·exact .inr h
  ·exact .inl h
theorem Z7K(a:Op)(n:Int):(Yx a n).e=a.e:=by unfold Yx;split <;> rfl
theorem Z69(a:Op)(n:Int):(Zq a n).e=a.e:=by unfold Zq;split;rfl;split <;> rfl
theorem Zrk{a b:Op}{p q:List Op}{n:Int}(hn:n=min (Z2 a) (Z2 b)):(Zw (a ::p) n).length+(Zw (b ::q) n).length < (a ::p).length+(b ::q).length:=by
 have x1:=Y6 (a ::p) n (by simp)
 have x2:=Y6 (b ::q) n (by simp)
 rcases Int.le_total (Z2 a) (Z2 b) with h | h
 ·have:=Y5 (a ::p) n (by simp) (by simp only [Qi];omega)
  omega
 ·have:=Y5 (b ::q) n (by simp) (by simp only [Qi];omega)
  omega
theorem Zc9:∀ (k:Nat) (p q:List Op) (out:List Piece),p.length+q.length<=k->(ZK 2 2 p q out).2.1=true->∃ ps,(ZK 2 2 p q out).1=out++ps/\∀ m h,Lay f p q m h (Z0q f ps m h):=by
 intro k
 induction k with
 | zero=>
  intro p q out hk hb
  have e1:p=[]:=Q3 (by omega)
  have e2:q=[]:=Q3 (by omega)
  subst e1 e2
  rw [ZK,dif_neg (by simp [sgl]),dif_neg (by simp [sgl]),dif_pos (by simp)]
  exact ⟨[],by simp,fun m h=> .nil m h⟩
 | succ k ih=>
  intro p q out hk hb
  rw [ZK] at hb ⊢
  by_cases h1:sgl 2 p=true
  ·rw [dif_pos h1] at hb ⊢
   obtain ⟨g1,g2⟩:=YD.1 h1
   cases p with
   | nil=> exact absurd rfl g1
   | cons a p'=>
    simp only [Qi,Qq,QH] at g2 hb ⊢
    obtain ⟨ps,e,hL⟩:=ih p' q _ (by simp only [Q9] at hk;omega) hb
    exact ⟨⟨1,a,Op.nil⟩ ::ps,by rw [e,Qd];rfl,fun m h=> .left g2 (hL _ _)⟩
  ·rw [dif_neg h1] at hb ⊢
   have np:∀ a∈p.head?,a.kind≠2:=by
    intro a ha e
    cases p with
    | nil=> cases ha
    | cons a' p'=> cases ha;exact h1 (YD.2 ⟨by simp,by simpa using e⟩)
   by_cases h2:sgl 2 q=true
   ·rw [dif_pos h2] at hb ⊢
    obtain ⟨g1,g2⟩:=YD.1 h2
    cases q with
    | nil=> exact absurd rfl g1
    | cons b q'=>
     simp only [Qi,Qq,QH] at g2 hb ⊢
     obtain ⟨ps,e,hL⟩:=ih p q' _ (by simp only [Q9] at hk;omega) hb
     exact ⟨⟨2,Op.nil,b⟩ ::ps,by rw [e,Qd];rfl,fun m h=> .right np g2 (hL _ _)⟩
   ·rw [dif_neg h2] at hb ⊢
    by_cases h3:p.length=0\/q.length=0
    ·rw [dif_pos h3] at hb ⊢
     by_cases h4:decide (p.length=0)=decide (q.length=0)
     ·rw [if_pos h4]
      have h5:p.length=0/\q.length=0:=by
       have:=decide_eq_decide.1 h4
       omega
      rw [Q3 h5.1,Q3 h5.2]
      exact ⟨[],by simp,fun m h=> .nil m h⟩
     ·rw [if_neg h4] at hb;cases hb
    ·rw [dif_neg h3] at hb ⊢
     cases p with
     | nil=> simp at h3
     | cons a p'=>
      cases q with
      | nil=> simp at h3
      | cons b q'=>
       simp only [Qi] at hb ⊢
       have hlt:=Zrk (a:=a) (b:=b) (p:=p') (q:=q') rfl
       obtain ⟨ps,e,hL⟩:=ih _ _ _ (by omega) hb
       exact ⟨⟨0,_,_⟩ ::ps,by rw [e,Qd];rfl,fun m h=> .both (np a rfl) (fun e=> h2 (YD.2 ⟨by simp,by simpa using e⟩)) rfl (hL [] [])⟩
theorem Zf3{p q:List Op}{m h:List Tree}{S:PL}(H:Lay f p q m h S):∀ out,(ZK 2 2 p q out).2.1=true/\∃ ps,(ZK 2 2 p q out).1=out++ps/\S=Z0q f ps m h:=by
 induction H with
 | nil m h=>
  intro out
  rw [ZK,dif_neg (by simp [sgl]),dif_neg (by simp [sgl]),dif_pos (by simp)]
  exact ⟨rfl,[],by simp,rfl⟩
 | left k2 _ ih=>
  intro out
  rw [ZK,dif_pos (YD.2 ⟨by simp,by simpa using k2⟩)]
  simp only [Qi,Qq,QH]
  obtain ⟨h1,ps,h2,h3⟩:=ih (out++[⟨1,_,Op.nil⟩])
  exact ⟨h1,⟨1,_,Op.nil⟩ ::ps,by rw [h2,Qd];rfl,h3⟩
 | right np k2 _ ih=>
  rename_i p b q m h S _
  intro out
  have n1:¬sgl 2 p=true:=by
   intro e
   obtain ⟨g1,g2⟩:=YD.1 e
   cases p with
   | nil=> exact g1 rfl
   | cons a p'=> exact np a rfl (by simpa using g2)
  rw [ZK,dif_neg n1,dif_pos (YD.2 ⟨by simp,by simpa using k2⟩)]
  simp only [Qi,Qq,QH]
  obtain ⟨h1,ps,h2,h3⟩:=ih (out++[⟨2,Op.nil,_⟩])
  exact ⟨h1,⟨2,Op.nil,_⟩ ::ps,by rw [h2,Qd];rfl,h3⟩
 | both ka kb hn _ ih=>
  intro out
  subst hn
  rw [ZK,dif_neg (fun e=> ka (by simpa using (YD.1 e).2)),dif_neg (fun e=> kb (by simpa using (YD.1 e).2)),dif_neg (by simp)]
  simp only [Qi]
  obtain ⟨h1,ps,h2,h3⟩:=ih (out++[⟨0,_,_⟩])
  exact ⟨h1,⟨0,_,_⟩ ::ps,by rw [h2,Qd];rfl,by rw [h3];rfl⟩
theorem Lay.right'{b:Op}{q:List Op}(k2:b.kind=2):∀ {p:List Op} {m h:List Tree} {S:PL},Lay f p q m (h++b.l) S->Lay f p (b ::q) m h S
 | [],m,h,S,H=> .right (fun a ha=> by cases ha) k2 H
 | a ::p,m,h,S,H=> by
  by_cases ka:a.kind=2
  ·cases H with
   | left _ H'=> exact .left ka (H'.right' k2)
   | right np _ _=> exact absurd ka (np a rfl)
   | both k _ _ _=> exact absurd ka k
  ·exact .right (fun x hx=> by cases hx;exact ka) k2 H
theorem ZdE(m h:List Tree):Ja h m=(Ja m h).swap:=by
 unfold Ja PL.swap
 by_cases e:m≠[]/\h≠[]
 ·rw [if_pos e,if_pos e.symm]
  have:Z62 h m=Z62 m h:=by unfold Z62;rw [Bool.eq_iff_iff,JL,JL,eq_comm]
  rw [this]
 ·rw [if_neg e,if_neg (fun x=> e x.symm)]
  have:m=[]\/h=[]:=by
   by_cases hm:m=[]
   ·exact .inl hm
   ·by_cases hh:h=[]
    ·exact .inr hh
    ·exact absurd ⟨hm,hh⟩ e
  rcases this with rfl | rfl <;> simp [Z2O,J9]
theorem Z2E{o:Op}(h:ZT o)(k:o.kind=0):o=⟨0,o.n,[],Edit.nil⟩/\1<=o.n/\Z2 o=o.n:=by
 have:=ZeR h k
 rcases h with h | h | h
 ·obtain ⟨kk,nn,l,e⟩:=o
  obtain ⟨h1,h2,h3,h4⟩:=h
  dsimp only at h1 h2 h4
  subst h1 h2 h4
  exact ⟨rfl,h3.1,this⟩
 ·omega
 ·omega
theorem Zv0{p q:Op}(a:p.kind=0)(b:q.kind=1):ZC f p q=⟨[],[q],false,false⟩:=by unfold ZC;rw [if_pos ⟨a,b⟩]
theorem ZuZ{p q:Op}(a:p.kind=1)(b:q.kind=0):ZC f p q=⟨[p],[],false,false⟩:=by unfold ZC;rw [if_neg (by omega),if_pos ⟨a,b⟩]
theorem pL0{p q:Op}(a:p.kind=0)(b:q.kind≠1):ZC f p q=⟨[⟨0,if q.n < 1 then 1 else q.n,[],Edit.nil⟩],[q],false,false⟩:=by unfold ZC;rw [if_neg (by omega),if_neg (by omega),if_pos a]
theorem ZuY{p q:Op}(a:p.kind≠0)(a1:p.kind≠1)(b:q.kind=0):ZC f p q=⟨[p],[⟨0,1,[],Edit.nil⟩],false,false⟩:=by unfold ZC;rw [if_neg (by omega),if_neg (by omega),if_neg a,if_pos b]
theorem Zrv{p q:Op}(a:p.kind=1)(b:q.kind=1):ZC f p q=⟨[],[],false,!Z62 p.l q.l⟩:=by unfold ZC;rw [if_neg (by omega),if_neg (by omega),if_neg (by omega),if_neg (by omega),if_pos ⟨a,b⟩]
theorem pL1{p q:Op}(a:p.kind=1)(b:q.kind≠0)(b1:q.kind≠1):ZC f p q=⟨[],[],true,!(doE false q.e (p.l.getD 0 Tree.nil)).isSome⟩:=by unfold ZC;rw [if_neg (by omega),if_neg (by omega),if_neg (by omega),if_neg b,if_neg (by omega),if_pos a]
theorem ZuX{p q:Op}(a:p.kind≠0)(a1:p.kind≠1)(b:q.kind=1):ZC f p q=⟨[],[],true,!(doE false p.e (q.l.getD 0 Tree.nil)).isSome⟩:=by unfold ZC;rw [if_neg (by omega),if_neg (by omega),if_neg a,if_neg (by omega),if_neg (by omega),if_neg a1,if_pos b]
theorem Zru{p q:Op}(a:p.kind≠0)(a1:p.kind≠1)(b:q.kind≠0)(b1:q.kind≠1):ZC f p q=⟨[Z3M (f p.e q.e).x],[Z3M (f p.e q.e).y],(f p.e q.e).c,(f p.e q.e).a⟩:=by
 unfold ZC;rw [if_neg (by omega),if_neg (by omega),if_neg a,if_neg b,if_neg (by omega),if_neg a1,if_neg b1]
theorem ZeP{o:Op}(h:ZT o)(k:o.kind≠0):o.n=0:=by
 rcases h with h | h | h
 ·exact absurd h.1 k
 ·exact h.2.1
 ·exact h.2.1
theorem Zmx(a b:List Tree):Z62 a b=Z62 b a:=by unfold Z62;rw [Bool.eq_iff_iff,JL,JL,eq_comm]
theorem Zoq{p q:Op}(op:ZT p)(oq:ZT q)(hl:Z2 p=Z2 q)(a:p.kind=0)(b:q.kind=0):p=q/\1<=p.n:=by
 obtain ⟨ep,np,lp⟩:=Z2E op a
 obtain ⟨eq,nq,lq⟩:=Z2E oq b
 have e:p.n=q.n:=by omega
 exact ⟨by rw [ep,eq,e],np⟩
theorem Zgt{g:Edit->Edit->Lft}{p q:Op}(hf:p.kind=3->q.kind=3->g q.e p.e=(f p.e q.e).swap)(op:ZT p)(oq:ZT q)(hl:Z2 p=Z2 q)(p2:p.kind≠2)(q2:q.kind≠2):ZC g q p=(ZC f p q).swap:=by
 have kp:=JQ op
 have kq:=JQ oq
 unfold kOk at kp kq
 by_cases a0:p.kind=0
 ·by_cases b0:q.kind=0
  ·obtain ⟨e,n1⟩:=Zoq op oq hl a0 b0
   subst e
   rw [pL0 a0 (by omega),pL0 a0 (by omega),if_neg (show ¬p.n < 1 by omega),<-(Z2E op a0).1]
   try rfl
  ·by_cases b1:q.kind=1
   ·rw [ZuZ b1 a0,Zv0 a0 b1];try rfl
   ·rw [ZuY b0 b1 a0,pL0 a0 b1,ZeP oq b0];try rfl
 ·by_cases b0:q.kind=0
  ·by_cases a1:p.kind=1
   ·rw [Zv0 b0 a1,ZuZ a1 b0];try rfl
   ·rw [pL0 b0 a1,ZuY a0 a1 b0,ZeP op a0];try rfl
  ·by_cases a1:p.kind=1
   ·by_cases b1:q.kind=1
    ·rw [Zrv b1 a1,Zrv a1 b1,Zmx];try rfl
    ·rw [ZuX b0 b1 a1,pL1 a1 b0 b1];try rfl
   ·by_cases b1:q.kind=1
    ·rw [pL1 b1 a0 a1,ZuX a0 a1 b1];try rfl
    ·rw [Zru b0 b1 a0 a1,Zru a0 a1 b0 b1,hf (by omega) (by omega)];try rfl
theorem PL.app_swap(a b:PL):(a.app b).swap=a.swap.app b.swap:=rfl
theorem Zjg{a:Op}{p:List Op}{n:Int}(h:∀ x∈a ::p,ZT x)(h1:1<=n)(hn:n<=Z2 a):ZT (Zq a n)/\Z2 (Zq a n)=n:=by
 obtain ⟨g1,g2,_⟩:=Z68 h h1 hn
 exact ⟨g1,g2⟩
theorem Lay.swap{g:Edit->Edit->Lft}{p q:List Op}{m h:List Tree}{S:PL}(H:Lay f p q m h S):(∀ o∈p,ZT o)->(∀ o∈q,ZT o)->(∀ a∈p,∀ b∈q,a.kind=3->b.kind=3->g b.e a.e=(f a.e b.e).swap)->
  Lay g q p h m S.swap:=by
 induction H with
 | nil m h=> intro _ _ _;rw [<-ZdE];exact .nil h m
 | left k2 _ ih=>
  intro op oq hf
  exact (ih (fun o ho=> op o (Q4 _ ho)) oq fun a ha b hb=> hf a (Q4 _ ha) b hb).right' k2
 | right np k2 _ ih=>
  intro op oq hf
  exact .left k2 (ih op (fun o ho=> oq o (Q4 _ ho)) fun a ha b hb=> hf a ha b (Q4 _ hb))
 | both ka kb hn _ ih=>
  rename_i a p b q m h S n _
  intro op oq hf
  have la:=ZA (op a Q5)
  have lb:=ZA (oq b Q5)
  have h1:1<=n:=by omega
  obtain ⟨t1,t2⟩:=Zjg op h1 (by omega)
  obtain ⟨t3,t4⟩:=Zjg oq h1 (by omega)
  have ih:=ih (ZcU op (by simp) h1) (ZcU oq (by simp) h1) fun x hx y hy kx ky=> by
   rcases Z2q hx with hx | rfl
   ·rcases Z2q hy with hy | rfl
    ·exact hf x (Q4 _ hx) y (Q4 _ hy) kx ky
    ·rw [Z7K];rw [Z0v] at ky;exact hf x (Q4 _ hx) b Q5 kx ky
   ·rw [Z7K];rw [Z0v] at kx
    rcases Z2q hy with hy | rfl
    ·exact hf a Q5 y (Q4 _ hy) kx ky
    ·rw [Z7K];rw [Z0v] at ky;exact hf a Q5 b Q5 kx ky
  rw [PL.app_swap,PL.app_swap,<-ZdE,<-Zgt (f:=f) (g:=g) (fun kx ky=> ?_) t1 t3 (by omega) (by rw [Ji];exact ka) (by rw [Ji];exact kb)]
  ·exact .both kb ka (by rw [hn];omega) ih
  ·rw [Ji] at kx ky
   rw [Z69,Z69]
   exact hf a Q5 b Q5 kx ky
end
theorem ZdM(a b:Int):Z1T a b=Z1T b a:=by unfold Z1T;rw [BitVec.and_comm]
theorem Z8O(p q:WEdit):Yz p q=Yz q p:=by
 unfold Yz
 rw [ZdM,decide_eq_decide,ne_comm]
theorem ZfN(p q:WEdit):Z06 p q=Z06 q p:=by
 unfold Z06
 rw [ZdM,decide_eq_decide,ne_comm]
theorem Z5i{α:Type}{at_:α->Int}{f g:α->α->Bool}{p q:List α}(h:∀ a∈p,∀ b∈q,g b a=f a b):JV at_ g q p=JV at_ f p q:=by
 unfold JV
 rw [Qx]
 simp only [Xw,Q1,decide_eq_true_eq]
 constructor
 ·rintro ⟨a,ha,b,hb,h1,h2⟩;exact ⟨b,hb,a,ha,h1.symm,by rw [<-h b hb a ha];exact h2⟩
 ·rintro ⟨a,ha,b,hb,h1,h2⟩;exact ⟨b,hb,a,ha,h1.symm,by rw [h a ha b hb];exact h2⟩
section
variable {f:Edit->Edit->Lft} {p q:Edit}
theorem lb0(h:p.kind=0\/q.kind=0):Ya f p q=⟨p,q,false,false⟩:=by unfold Ya;rw [if_pos h]
theorem lb1(p1:p.kind=1)(q0:q.kind≠0):Ya f p q=Z05 q p.old p.new:=by unfold Ya;rw [if_neg (by omega),if_pos p1]
theorem ZvM(p0:p.kind≠0)(p1:p.kind≠1)(q1:q.kind=1):Ya f p q=Z05 p q.old q.new:=by unfold Ya;rw [if_neg (by omega),if_neg p1,if_pos q1]
theorem lbd(p0:p.kind≠0)(p1:p.kind≠1)(q0:q.kind≠0)(q1:q.kind≠1)(h:p.kind≠q.kind\/p.list≠q.list):Ya f p q=⟨Edit.nil,Edit.nil,false,true⟩:=by
 unfold Ya;rw [if_neg (by omega),if_neg p1,if_neg q1,if_pos h]
theorem lb2(p2:p.kind=2)(q2:q.kind=2)(h:p.list=q.list):Ya f p q=Z3H f p q:=by unfold Ya;rw [if_neg (by omega),if_neg (by omega),if_neg (by omega),if_neg (by omega),if_pos p2]
theorem lb3(p2:p.kind=q.kind)(p0:p.kind≠0)(p1:p.kind≠1)(q2:p.kind≠2)(h:p.list=q.list):Ya f p q=Z3p f p q:=by unfold Ya;rw [if_neg (by omega),if_neg (by omega),if_neg (by omega),if_neg (by omega),if_neg q2]
end
theorem Zh1 {f g:Edit->Edit->Lft} {p q:Edit} {d d':Int} (hp:Z8 p d=true) (hq:Z8 q d'=true)
  (h:∀ a b,Z7 a+Z7 b < Z7 p+Z7 q->(∃ d,Z8 a d=true)->(∃ d,Z8 b d=true)->g b a=(f a b).swap):Ya g q p=(Ya f p q).swap:=by
 have rp:=Zt hp
 have rq:=Zt hq
 by_cases p0:p.kind=0
 ·rw [lb0 (.inl p0),lb0 (.inr p0)];try rfl
 by_cases q0:q.kind=0
 ·rw [lb0 (.inr q0),lb0 (.inl q0)];try rfl
 by_cases p1:p.kind=1
 ·by_cases q1:q.kind=1
  ·rw [lb1 p1 q0,lb1 q1 p0]
   unfold Z05 doB
   rw [ZvS p1,ZvS q1,Zba (Z4 p.old)]
   by_cases e:ZZ (Z4 q.old) (Z4 p.old)=true
   ·rw [if_pos e,if_pos e]
    show (⟨_,_,true && !ZZ (Z4 (Z4 p.new)) (Z4 q.new),_⟩:Lft)=⟨_,_,true && !ZZ (Z4 (Z4 q.new)) (Z4 p.new),_⟩
    rw [JR,JR,Zba]
    try rfl
   ·rw [if_neg e,if_neg e]
    try rfl
  ·rw [lb1 p1 q0,ZvM q0 q1 p1];try rfl
 by_cases q1:q.kind=1
 ·rw [ZvM p0 p1 q1,lb1 q1 p0];try rfl
 by_cases c2:p.kind≠q.kind\/p.list≠q.list
 ·rw [lbd p0 p1 q0 q1 c2,lbd q0 q1 p0 p1 (c2.imp Ne.symm Ne.symm)];try rfl
 have hk:q.kind=p.kind:=by omega
 have hli:q.list=p.list:=by omega
 by_cases p2:p.kind=2
 ·rw [lb2 p2 (by omega) hli.symm,lb2 (by omega) p2 hli]
  have hkk:∀ a∈p.kids,∀ b∈q.kids,g b.e a.e=(f a.e b.e).swap:=by
   intro a ha b hb
   have:=Yp ha
   have:=Yp hb
   exact h _ _ (by omega) ⟨_,(Zz rp.kids a ha).2⟩ ⟨_,(Zz rq.kids b hb).2⟩
  unfold Z3H Lft.swap
  rw [Z5i (at_:=WEdit.at_) (f:=fun a b=> !Yz a b && Z06 a b) (g:=fun a b=> !Yz a b && Z06 a b) fun a _ b _=> by rw [Z8O,ZfN],
   Z5i (at_:=WEdit.at_) (f:=Yz) (g:=Yz) fun a _ b _=> Z8O b a,
   Z5i (at_:=KidOf.at_) (f:=fun a b:Kid=> (f a.e b.e).c) (g:=fun a b=> (g a.e b.e).c) fun a ha b hb=> by rw [hkk a ha b hb];rfl,
   Z5i (at_:=KidOf.at_) (f:=fun a b:Kid=> (f a.e b.e).a) (g:=fun a b=> (g a.e b.e).a) fun a ha b hb=> by rw [hkk a ha b hb];rfl,
   Xk (f:=YA KidOf.at_ (fun a b:Kid=> ⟨a.at_,(g a.e b.e).x⟩) p.kids) (g:=YA KidOf.at_ (fun b a:Kid=> ⟨b.at_,(f a.e b.e).y⟩) p.kids) fun b hb=> Z3x fun a ha=> by rw [hkk a ha b hb];rfl,
   Xk (f:=YA KidOf.at_ (fun b a:Kid=> ⟨b.at_,(g a.e b.e).y⟩) q.kids) (g:=YA KidOf.at_ (fun a b:Kid=> ⟨a.at_,(f a.e b.e).x⟩) q.kids) fun a ha=> Z3x fun b hb=> by rw [hkk a ha b hb];rfl]
 ·rw [lb3 hk.symm p0 p1 p2 hli.symm,lb3 hk q0 q1 (by omega) hli]
  have hf:∀ a∈p.ops,∀ b∈q.ops,a.kind=3->b.kind=3->g b.e a.e=(f a.e b.e).swap:=by
   intro a ha b hb ka kb
   have:=J8 ha
   have:=J8 hb
   exact h _ _ (by omega) ⟨_,J2 (rightOs_mem rp.ops ha) ka⟩ ⟨_,J2 (rightOs_mem rq.ops hb) kb⟩
  have hf':∀ b∈q.ops,∀ a∈p.ops,b.kind=3->a.kind=3->f a.e b.e=(g b.e a.e).swap:=fun b hb a ha kb ka=> by rw [hf a ha b hb ka kb];try rfl
  unfold Z3p
  by_cases hb:(ZK 2 2 p.ops q.ops []).2.1=true
  ·obtain ⟨ps,e,hL⟩:=Zc9 (f:=f) _ p.ops q.ops [] (Qf _) hb
   obtain ⟨b1,ps',e',hS⟩:=Zf3 ((hL [] []).swap (g:=g) (J3 hp) (J3 hq) hf) []
   rw [if_pos hb,if_pos b1,e,e',Qu,Qu,<-hS,hli]
   try rfl
  ·rw [if_neg hb,if_neg]
   ·try rfl
   ·intro b1
    obtain ⟨ps,e,hL⟩:=Zc9 (f:=g) _ q.ops p.ops [] (Qf _) b1
    exact hb (Zf3 ((hL [] []).swap (g:=f) (J3 hq) (J3 hp) hf') []).1
theorem ZsD:∀ (n:Nat) (p q:Edit) (d d':Int),Z7 p+Z7 q<=n->Z8 p d=true->Z8 q d'=true->lbF n q p=(lbF n p q).swap:=by
 intro n
 induction n with
 | zero=> intro p q d d' h;obtain ⟨k,o,nw,w,ks,l,os⟩:=p;simp only [Z7] at h;omega
 | succ n ih=>
  intro p q d d' h hp hq
  exact Zh1 hp hq fun a b hab ⟨d1,h1⟩ ⟨d2,h2⟩=> ih a b d1 d2 (by omega) h1 h2
theorem Zpr{p q:Edit}{d d':Int}(hp:Z8 p d=true)(hq:Z8 q d'=true):lbE q p=(lbE p q).swap:=by
 unfold lbE
 rw [Xn]
 exact ZsD _ p q d d' (Qf _) hp hq
end Go.AM.Ytpjenobkibfpcaa
namespace Go.AM.Ytpjenobkibfpcaa
open Go.AM Go.Proofs
mutual
def Yi(k:Int):Edit->Prop
 | .mk _ _ _ _ ks _ os=> (YK os<=k/\Yd os<=k)/\ZaH k ks/\ZaF k os
def ZaH(k:Int):List (KidOf Edit)->Prop
 | []=> True
 | x ::r=> Zjf k x/\ZaH k r
def Zjf(k:Int):KidOf Edit->Prop
 | ⟨_,e⟩=> Yi k e
def ZaF(k:Int):List (OpOf Edit)->Prop
 | []=> True
 | x ::r=> Znw k x/\ZaF k r
def Znw(k:Int):OpOf Edit->Prop
 | ⟨_,_,_,e⟩=> Yi k e
end
theorem ZaG{k:Int}:∀ {l:List Kid},ZaH k l↔∀ x∈l,Yi k x.e
 | []=> by simp [ZaH]
 | ⟨a,e⟩ ::r=> by simp only [ZaH,Zjf,ZaG (l:=r),Qc,forall_eq_or_imp]
theorem ZaE{k:Int}:∀ {l:List Op},ZaF k l↔∀ x∈l,Yi k x.e
 | []=> by simp [ZaF]
 | ⟨a,n,l,e⟩ ::r=> by simp only [ZaF,Znw,ZaE (l:=r),Qc,forall_eq_or_imp]
theorem JJ{k:Int}{e:Edit}:Yi k e↔(YK e.ops<=k/\Yd e.ops<=k)/\(∀ x∈e.kids,Yi k x.e)/\∀ o∈e.ops,Yi k o.e:=by
 obtain ⟨kk,o,n,w,ks,l,os⟩:=e
 simp only [Yi,ZaG,ZaE]
 try rfl
theorem Z36:∀ (n:Nat) {k m:Int} (e:Edit),Z7 e<=n->k<=m->Yi k e->Yi m e:=by
 intro n
 induction n with
 | zero=> intro k m e h;obtain ⟨k,o,nw,w,ks,l,os⟩:=e;simp only [Z7] at h;omega
 | succ n ih=>
  intro k m e hn hk h
  rw [JJ] at h ⊢
  exact ⟨⟨by omega,by omega⟩,fun x hx=> ih x.e (by have:=Yp hx;omega) hk (h.2.1 x hx),fun o ho=> ih o.e (by have:=J8 ho;omega) hk (h.2.2 o ho)⟩
theorem Z2p{k:Int}(h:0<=k):Yi k Edit.nil:=by
 rw [JJ]
 simp [Edit.nil,YK,Yd,h]
def owL(l:List Tree):Nat:=100*l.length+Z6 l
mutual
def owE(K:Nat):Edit->Nat
 | .mk _ o n w ks _ os=> K+Zm o+Zm n+65600*w.length+Z3l K ks+Z2D K os
def Z3l(K:Nat):List (KidOf Edit)->Nat
 | []=> 0
 | k ::r=> Zon K k+Z3l K r
def Zon(K:Nat):KidOf Edit->Nat
 | ⟨_,e⟩=> 65600+owE K e
def Z2D(K:Nat):List (OpOf Edit)->Nat
 | []=> 0
 | o ::r=> Zi6 K o+Z2D K r
def Zi6(K:Nat):OpOf Edit->Nat
 | ⟨k,_,l,e⟩=> owL l+if k=3 then 100+owE K e else 0
end
section
variable {K:Nat}
theorem ZeO(e:Edit):owE K e=K+Zm e.old+Zm e.new+65600*e.words.length+Z3l K e.kids+Z2D K e.ops:=by cases e;rfl
theorem Zgy(k:Kid):Zon K k=65600+owE K k.e:=by cases k;rfl
theorem Z16(o:Op):Zi6 K o=owL o.l+if o.kind=3 then 100+owE K o.e else 0:=by cases o;rfl
theorem Zrx:owE K Edit.nil=K+2:=by simp [owE,Z3l,Z2D,Edit.nil,Tree.nil,Zm,Z6]
theorem Zrw(e:Edit):K+2<=owE K e:=by rw [ZeO];have:=Zdt e.old;have:=Zdt e.new;omega
theorem ZjQ(a b:List Tree):owL (a++b)=owL a+owL b:=by unfold owL;rw [List.length_append,Yo];omega
theorem Zgx:∀ a b:List Op,Z2D K (a++b)=Z2D K a+Z2D K b
 | [],b=> by simp [Z2D]
 | o ::r,b=> by simp only [Qo,Z2D,Zgx r b];omega
def OkO(list:Int)(o:Op):Prop:=ZT o/\Zg list o (-2)=true/\Z23 o
theorem Zgw{list:Int}{l:List Op}{o:Op}(hl:∀ o'∈l,OkO list o')(hp:Part l o)(ho:ZT o):OkO list o:=by
 obtain ⟨o',m,k,e1,_,lt⟩:=hp
 obtain ⟨_,hr,hg⟩:=hl o' m
 refine ⟨ho,?_⟩
 have R:=Jl hr
 have G:=Z14 hg
 obtain ⟨kk,nn,ll,ee⟩:=o
 have k:kk=o'.kind:=k
 have e1:ee=o'.e:=e1
 have lt:∀ t∈ll,t∈o'.l:=lt
 have gl:YU ll:=Zeb fun t ht=> Z0I G.2.2.1 (lt t ht)
 cases R with
 | keep n1 a1 a2=>
  have k:kk=0:=k
  have e1:ee=Edit.nil:=e1
  subst k e1
  rcases ho with h | h | h
  ·have hl:ll=[]:=h.2.1
   subst hl
   have h3:1<=nn/\nn<=1048576:=h.2.2.1
   exact ⟨ZjS h3.1 h3.2 _,YH (by decide) (by decide),by unfold InR;omega,trivial,G.2.2.2⟩
  ·have:=h.1;omega
  ·have:=h.1;omega
 | gone l1 a1 a2=>
  have k:kk=1:=k
  have e1:ee=Edit.nil:=e1
  subst k e1
  rcases ho with h | h | h
  ·have:=h.1;omega
  ·have hn:nn=0:=h.2.1
   subst hn
   exact ⟨ZbI (.inl rfl) (Z4v fun t ht=> Z0E a1 t (lt t ht)) h.2.2.1,YH (by decide) (by decide),YH (by decide) (by decide),gl,G.2.2.2⟩
  ·have:=h.1;omega
 | come l1 a1 a2=>
  have k:kk=2:=k
  have e1:ee=Edit.nil:=e1
  subst k e1
  rcases ho with h | h | h
  ·have:=h.1;omega
  ·have hn:nn=0:=h.2.1
   subst hn
   exact ⟨ZbI (.inr rfl) (Z4v fun t ht=> Z0E a1 t (lt t ht)) h.2.2.1,YH (by decide) (by decide),YH (by decide) (by decide),gl,G.2.2.2⟩
  ·have:=h.1;omega
 | into e2 a1 a2 a3 a4=>
  have k:kk=3:=k
  have e1:ee=e2:=e1
  subst k e1
  rcases ho with h | h | h
  ·have:=h.1;omega
  ·have:=h.1;omega
  ·have hn:nn=0:=h.2.1
   have hl:ll=[]:=h.2.2
   subst hn hl
   exact ⟨ZjT a1 a2 a3 a4,YH (by decide) (by decide),YH (by decide) (by decide),trivial,G.2.2.2⟩
theorem ZfS{list:Int}{a:Op}{p:List Op}{n:Int}(h:∀ x∈a ::p,OkO list x)(h1:1<=n)(hn:n<=Z2 a):OkO list (Zq a n)/\(Zq a n).kind=a.kind/\Z2 (Zq a n)=n/\∀ o∈Zw (a ::p) n,OkO list o:=by
 obtain ⟨g1,g2,g3,g4,g5,_⟩:=Z68 (fun x hx=> (h x hx).1) h1 hn
 exact ⟨Zgw h g4 g1,g3,g2,fun o ho=> Zgw h (g5 o ho).2 (g5 o ho).1⟩
theorem ZyG:ZmX fun o=> ((Zi6 K o:Nat):Int):=by
 intro o n ho h1 hn
 have hl:=Y9 o
 rcases ho with ⟨k0,k1,k2,k3⟩ | ⟨k0,k1,k2,k3⟩ | ⟨k0,k1,k2⟩
 ·have e1:Zq o n=⟨o.kind,n,o.l,o.e⟩:=by rw [Zq,if_neg hn,if_pos k0]
  have e2:Yx o n=⟨o.kind,o.n - n,o.l,o.e⟩:=by rw [Yx,if_pos k0]
  simp only [Z16,e1,e2]
  rw [if_neg (by omega),k1]
  simp [owL,Z6]
 ·have e1:Zq o n=⟨o.kind,o.n,o.l.take n.toNat,o.e⟩:=by rw [Zq,if_neg hn,if_neg (by omega)]
  have e2:Yx o n=⟨o.kind,o.n,o.l.drop n.toNat,o.e⟩:=by rw [Yx,if_neg (by omega)]
  have h3:¬o.kind=3:=by omega
  have:=ZjQ (o.l.take n.toNat) (o.l.drop n.toNat)
  rw [QJ] at this
  simp only [Z16,e1,e2]
  rw [if_neg h3]
  omega
 ·rw [if_pos k0] at hl
  omega
end
end Go.AM.Ytpjenobkibfpcaa
namespace Go.AM.Ytpjenobkibfpcaa
open Go.AM Go.Proofs
variable {K:Nat}
structure LbX (K:Nat) (T:Int) (X p:Edit):Prop where
 wk:Wk X
 th:Yi T X
 ow:owE K X<=owE K p
 kx:X.kind=0\/X=p\/(X.kind=p.kind/\(p.kind=2\/p.kind=3))
theorem ZdU:Wk Edit.nil:=by
 obtain ⟨_,h1,d,h2⟩:=Zo2
 exact .of h2 h1
theorem LbX.nil{T:Int}(hT:0<=T)(p:Edit):LbX K T Edit.nil p:=⟨ZdU,Z2p hT,by rw [Zrx];exact Zrw p,.inl rfl⟩
theorem LbX.self{T:Int}{p:Edit}(h:Wk p)(ht:Yi T p):LbX K T p p:=⟨h,ht,Qf _,.inr (.inl rfl)⟩
theorem Z2F(n:Int):Z2 ⟨0,n,[],Edit.nil⟩=n:=by rw [Y9];simp
theorem Zm1(l:List Tree):Z2 ⟨2,0,l,Edit.nil⟩=l.length:=by rw [Y9];simp
theorem φB_nn{o:Op}(h:ZT o):0<=φB o:=by unfold φB;have:=ZA h;split <;> omega
theorem Ze0:∀ {l:List Op},(∀ o∈l,ZT o)->0<=Yd l
 | [],_=> Xa _
 | o ::r,h=> by
  have h1:=φB_nn (h o Q5)
  have h2:=Ze0 (l:=r) fun x hx=> h x (Q4 _ hx)
  rw [<-Z0P] at h2 ⊢
  simp only [YC];omega
def Zqt(list:Int)(l:List Tree):Prop:=∀ t∈l,Zu (.mk list [] [t]) (-1)=true/\rng t
theorem ZbK{list n:Int}(h1:1<=n)(h2:n<=1048576):OkO list ⟨0,n,[],Edit.nil⟩:=by
 refine ⟨.inl ⟨rfl,rfl,⟨h1,h2⟩,rfl⟩,ZjS h1 h2 _,YH (by decide) (by decide),by unfold InR;omega,trivial,?_⟩
 exact ZdU.g
theorem Zrz{list:Int}{l:List Tree}(h:Zqt list l)(hl:l≠[]):OkO list ⟨2,0,l,Edit.nil⟩:=by
 refine ⟨.inr (.inl ⟨.inr rfl,rfl,hl,rfl⟩),ZbI (.inr rfl) ?_ hl,YH (by decide) (by decide),YH (by decide) (by decide),Zeb fun t ht=> (h t ht).2,ZdU.g⟩
 rw [Zco (by decide)]
 exact Z4v fun t ht=> (h t ht).1
theorem Zm4{list:Int}{o:Op}(h:OkO list o)(k:o.kind=1\/o.kind=2):Zqt list o.l:=by
 have R:=Jl h.2.1
 have G:=(Z14 h.2.2).2.2.1
 intro t ht
 refine ⟨?_,Z0I G ht⟩
 cases R with
 | keep=> exact absurd k (by simp)
 | into=> exact absurd k (by simp)
 | gone l a1=> rw [Zco (by decide)] at a1;exact Z0E a1 t ht
 | come l a1=> rw [Zco (by decide)] at a1;exact Z0E a1 t ht
theorem Z47{list:Int}{o:Op}(h:OkO list o)(k:o.kind=3):(7 < list/\o.e.kind≠0/\Wl list o.e/\Wk o.e)/\o.l=[]:=by
 have R:=Jl h.2.1
 cases R with
 | keep | gone | come=> exact absurd k (by simp)
 | into e a1 a2 a3 a4=> exact ⟨⟨a3,a2,a4,⟨Yr _ _ _ (by decide) a1,(Z14 h.2.2).2.2.2⟩⟩,rfl⟩
structure OpsX (K:Nat) (list T:Int) (l:List Op) (A B:Int) (W:Nat):Prop where
 ok:∀ o∈l,OkO list o/\Yi T o.e
 la:YK l<=A
 lb:Yd l<=B
 ow:Z2D K l<=W
theorem OpsX.app{list T:Int}{l l':List Op}{A B A' B':Int}{W W':Nat}(h:OpsX K list T l A B W)(h':OpsX K list T l' A' B' W'):OpsX K list T (l++l') (A+A') (B+B') (W+W'):=by
 refine ⟨fun o ho=> (Qh.1 ho).elim (h.ok o) (h'.ok o),?_,?_,?_⟩
 ·rw [<-ZaK,ZaJ,ZaK,ZaK];have:=h.la;have:=h'.la;omega
 ·rw [<-Z0P,ZaJ,Z0P,Z0P];have:=h.lb;have:=h'.lb;omega
 ·rw [Zgx];have:=h.ow;have:=h'.ow;omega
theorem OpsX.none{list T A B:Int}{W:Nat}(ha:0<=A)(hb:0<=B):OpsX K list T [] A B W:=⟨fun o ho=> (by cases ho),ha,hb,QY _⟩
theorem OpsX.mono{list T:Int}{l:List Op}{A B A' B':Int}{W W':Nat}(h:OpsX K list T l A B W)(ha:A<=A')(hb:B<=B')(hw:W<=W'):OpsX K list T l A' B' W':=
 ⟨h.ok,Int.le_trans h.la ha,Int.le_trans h.lb hb,X4 h.ow hw⟩
theorem OpsX.one{list T:Int}{o:Op}(h:OkO list o)(ht:Yi T o.e):OpsX K list T [o] (φA o) (φB o) (Zi6 K o):=by
 refine ⟨fun x hx=> by rw [Qe.1 hx];exact ⟨h,ht⟩,?_,?_,?_⟩
 ·rw [<-ZaK];simp [YC]
 ·rw [<-Z0P];simp [YC]
 ·simp [Z2D]
theorem ZpD{list T:Int}(hT:0<=T){n:Nat}(hn:n<=1048576):OpsX K list T (J9 n) n n 0:=by
 unfold J9
 split
 ·exact .none (by omega) (by omega)
 ·refine (OpsX.one (ZbK (by omega) (by omega)) (Z2p hT)).mono ?_ ?_ ?_
  ·unfold φA;rw [if_neg (by simp),Z2F];omega
  ·unfold φB;rw [if_neg (by simp),Z2F];omega
  ·simp [Z16,owL,Z6]
theorem Zyw{list T:Int}(hT:0<=T){l:List Tree}(h:Zqt list l):OpsX K list T (Z2O l) 0 l.length (owL l):=by
 unfold Z2O
 split
 ·exact .none (by omega) (by omega)
 ·rename_i hl
  refine (OpsX.one (Zrz h hl) (Z2p hT)).mono ?_ ?_ ?_
  ·unfold φA;rw [if_pos rfl];omega
  ·unfold φB;rw [if_neg (by simp),Zm1];omega
  ·simp [Z16]
theorem Zua{list T:Int}(hT:0<=T){m h:List Tree}(hm:Zqt list m)(hh:h.length<=1048576):OpsX K list T (Ja m h).x h.length (m.length+h.length) (owL m):=by
 unfold Ja
 split
 ·exact (ZpD hT hh).mono (by omega) (by omega) (QY _)
 ·exact ((Zyw hT hm).app (ZpD hT hh)).mono (by omega) (by omega) (by omega)
theorem Zrt {f:Edit->Edit->Lft} {list a b:Int} (hli:2<=list/\list<=9) (ha:0<=a) (hb:0<=b) {p q:Op} (op:OkO list p) (oq:OkO list q) (tp:Yi a p.e) (hl:Z2 p=Z2 q) (p2:p.kind≠2) (q2:q.kind≠2)
  (hf:p.kind=3->q.kind=3->LbX K (a+b) (f p.e q.e).x p.e):OpsX K list (a+b) (ZC f p q).x (φB q) (φB p) (Zi6 K p):=by
 have kp:=JQ op.1
 have kq:=JQ oq.1
 unfold kOk at kp kq
 have np:=φB_nn op.1
 have nq:=φB_nn oq.1
 have lp:=ZA op.1
 have tp':=Z36 _ p.e (Qf _) (show a<=a+b by omega) tp
 by_cases a0:p.kind=0
 ·by_cases b1:q.kind=1
  ·rw [Zv0 a0 b1];exact .none nq np
  ·rw [pL0 a0 b1]
   have e:(if q.n < 1 then 1 else q.n)=Z2 q:=by
    by_cases b0:q.kind=0
    ·obtain ⟨_,h1,h2⟩:=Z2E oq.1 b0
     rw [if_neg (by omega),h2]
    ·rw [ZeP oq.1 b0,if_pos (by decide),Z25 (by omega)]
   have h1:=Z2E op.1 a0
   rw [e,<-hl]
   refine (OpsX.one (ZbK lp ?_) (Z2p (by omega))).mono ?_ ?_ (by simp [Z16,owL,Z6])
   ·rw [h1.2.2]
    rcases op.1 with h | h | h
    ·exact h.2.2.1.2
    ·omega
    ·omega
   ·unfold φA φB;rw [if_neg (by simp),if_neg b1,Z2F];omega
   ·unfold φB;rw [if_neg (by simp),if_neg (by omega),Z2F];omega
 ·by_cases b0:q.kind=0
  ·by_cases a1:p.kind=1
   ·rw [ZuZ a1 b0]
    refine (OpsX.one op tp').mono ?_ (Xa _) (Qf _)
    unfold φA φB;rw [if_neg p2,if_neg (by omega)];omega
   ·rw [ZuY a0 a1 b0]
    refine (OpsX.one op tp').mono ?_ (Xa _) (Qf _)
    unfold φA φB;rw [if_neg p2,if_neg (by omega)];omega
  ·by_cases a1:p.kind=1
   ·by_cases b1:q.kind=1
    ·rw [Zrv a1 b1];exact .none nq np
    ·rw [pL1 a1 b0 b1];exact .none nq np
   ·by_cases b1:q.kind=1
    ·rw [ZuX a0 a1 b1];exact .none nq np
    ·rw [Zru a0 a1 b0 b1]
     have p3:p.kind=3:=by omega
     obtain ⟨hw,ht,how,hk⟩:=hf p3 (by omega)
     obtain ⟨⟨e1,e2,e3,e4⟩,e5⟩:=Z47 op p3
     have l1:=Z25 p3
     have hB:φB q=1:=by unfold φB;rw [if_neg b1];omega
     have hB':φB p=1:=by unfold φB;rw [if_neg a1];omega
     rw [hB,hB']
     dsimp only
     unfold Z3M
     split
     ·refine (OpsX.one (ZbK (by decide) (by decide)) (Z2p (by omega))).mono ?_ ?_ (by simp [Z16,owL,Z6])
      ·unfold φA;rw [if_neg (by simp),Z2F];omega
      ·unfold φB;rw [if_neg (by simp),Z2F];omega
     ·rename_i hx0
      have hwl:Wl list (f p.e q.e).x:=by
       rcases hk with h | h | ⟨h,h'⟩
       ·exact absurd h hx0
       ·rw [h];exact e3
       ·rcases h' with h' | h'
        ·exact .inr (.inl (by omega))
        ·rcases e3 with g | g | g
         ·exact .inl g
         ·omega
         ·omega
      refine (OpsX.one ⟨.inr (.inr ⟨rfl,rfl,rfl⟩),ZjT (Yr _ _ _ (by decide) hw.r) hx0 e1 hwl,YH (by decide) (by decide),YH (by decide) (by decide),trivial,hw.g⟩ ht).mono ?_ ?_ ?_
      ·unfold φA;rw [if_neg (show ¬(3:Int)=2 by decide),Z25 rfl];omega
      ·unfold φB;rw [if_neg (show ¬(3:Int)=1 by decide),Z25 rfl];omega
      ·simp only [Z16,if_true];rw [if_pos p3,e5];simp only [owL,Z6,Qb];omega
theorem Zys{f:Edit->Edit->Lft}{list a b:Int}(hli:2<=list/\list<=9)(ha:0<=a)(hb:0<=b){p q:List Op}{m h:List Tree}{S:PL}(H:Lay f p q m h S):
  (∀ o∈p,OkO list o/\Yi a o.e)->(∀ o∈q,OkO list o)->(∀ x∈p,∀ y∈q,x.kind=3->y.kind=3->LbX K (a+b) (f x.e y.e).x x.e)->Zqt list m->(h.length:Int)+Yd q<=1048576->
  OpsX K list (a+b) S.x (h.length+Yd q) (m.length+h.length+Yd p+Yd q) (owL m+Z2D K p):=by
 induction H with
 | nil m h=>
  intro _ _ _ hm hh
  simp only [Yd] at hh
  exact (Zua (by omega) hm (by omega)).mono (by simp only [Yd];omega) (by simp only [Yd];omega) (by omega)
 | left k2 _ ih=>
  rename_i x p q m h S _
  intro op oq hf hm hh
  have o1:=op _ Q5
  have e:=ih (fun o ho=> op o (Q4 _ ho)) oq (fun x hx=> hf x (Q4 _ hx)) (fun t ht=> (Qh.1 ht).elim (hm t) (Zm4 o1.1 (.inr k2) t)) hh
  have l2:=Z2G o1.1.1 (.inr k2)
  refine e.mono (Xa _) ?_ ?_
  ·rw [<-Z0P (_ ::_)]
   simp only [YC,Z0P,φB]
   rw [if_neg (by omega),l2,Q6];omega
  ·rw [ZjQ]
   simp only [Z2D,Z16]
   omega
 | right np k2 _ ih=>
  intro op oq hf hm hh
  have o1:=oq _ Q5
  have l2:=Z2G o1.1 (.inr k2)
  have e1:∀ (b:Op) (q:List Op),b.kind=2->Yd (b ::q)=Z2 b+Yd q:=by
   intro b q hb
   rw [<-Z0P (_ ::_)]
   simp only [YC,Z0P,φB]
   rw [if_neg (by omega)]
  rw [e1 _ _ k2] at hh
  have e:=ih op (fun o ho=> oq o (Q4 _ ho)) (fun x hx y hy=> hf x hx y (Q4 _ hy)) hm (by rw [Q6];omega)
  rw [Q6] at e
  refine e.mono ?_ ?_ (Qf _)
  ·rw [e1 _ _ k2];omega
  ·rw [e1 _ _ k2];omega
 | both ka kb hn _ ih=>
  rename_i x p y q m h S n _
  intro op oq hf hm hh
  have op1:∀ o∈x ::p,OkO list o:=fun o ho=> (op o ho).1
  have lx:=ZA (op1 x Q5).1
  have ly:=ZA (oq y Q5).1
  have h1:1<=n:=by omega
  obtain ⟨t1,t2,t3,t4⟩:=ZfS op1 h1 (by omega)
  obtain ⟨u1,u2,u3,u4⟩:=ZfS oq h1 (by omega)
  obtain ⟨s1,_⟩:=Z3L Zuo (p:=x ::p) (fun o ho=> (op1 o ho).1) (by simp) h1
  obtain ⟨s2,_⟩:=Z3L Zuo (p:=y ::q) (fun o ho=> (oq o ho).1) (by simp) h1
  obtain ⟨s3,_⟩:=Z3L ZyG (p:=x ::p) (fun o ho=> (op1 o ho).1) (by simp) h1
  have so:∀ l:List Op,YC (fun o=> ((Zi6 K o:Nat):Int)) l=Z2D K l:=by
   intro l
   induction l with
   | nil=> rfl
   | cons o r ih=> simp only [YC,Z2D,ih];omega
  rw [so,so,Qi] at s3
  rw [Z0P,Z0P,Qi] at s1 s2
  have nq:=Ze0 (l:=Zw (y ::q) n) fun o ho=> (u4 o ho).1
  have np:=Ze0 (l:=Zw (x ::p) n) fun o ho=> (t4 o ho).1
  have fq:=φB_nn u1.1
  have ee:∀ o∈Zw (x ::p) n,o.e=x.e/\o.kind=x.kind\/o∈p:=fun o ho=> (Z2q ho).symm.imp (fun h=> by rw [h];exact ⟨Z7K _ _,Z0v _ _⟩) id
  have ee':∀ o∈Zw (y ::q) n,o.e=y.e/\o.kind=y.kind\/o∈q:=fun o ho=> (Z2q ho).symm.imp (fun h=> by rw [h];exact ⟨Z7K _ _,Z0v _ _⟩) id
  have hf':∀ o∈x ::p,∀ o'∈y ::q,∀ r r':Op,r.e=o.e->r'.e=o'.e->r.kind=o.kind->r'.kind=o'.kind->r.kind=3->r'.kind=3->LbX K (a+b) (f r.e r'.e).x r.e:=by
   intro o ho o' ho' r r' e1 e2 k1 k2 k3 k4
   rw [e1,e2]
   exact hf o ho o' ho' (by omega) (by omega)
  have e:=ih (fun o ho=> ⟨t4 o ho,by rcases ee o ho with ⟨h,_⟩ | h;rw [h];exact (op x Q5).2;exact (op o (Q4 _ h)).2⟩) u4
   (fun r hr r' hr' k3 k4=> by
    rcases ee r hr with ⟨e1,k1⟩ | e1
    ·rcases ee' r' hr' with ⟨e2,k2⟩ | e2
     ·exact hf' x Q5 y Q5 r r' e1 e2 k1 k2 k3 k4
     ·exact hf' x Q5 r' (Q4 _ e2) r r' e1 rfl k1 rfl k3 k4
    ·rcases ee' r' hr' with ⟨e2,k2⟩ | e2
     ·exact hf' r (Q4 _ e1) y Q5 r r' rfl e2 rfl k2 k3 k4
     ·exact hf r (Q4 _ e1) r' (Q4 _ e2) k3 k4)
   (fun t ht=> by cases ht) (by simp only [Qb];omega)
  have g:=Zua (K:=K) (T:=a+b) (by omega) hm (h:=h) (by omega)
  have pc:=Zrt (f:=f) hli ha hb t1 u1 (by rw [Z69];exact (op x Q5).2) (by omega) (by omega) (by omega) (hf' x Q5 y Q5 _ _ (Z69 _ _) (Z69 _ _) (Ji _ _) (Ji _ _))
  refine ((g.app pc).app e).mono ?_ ?_ ?_
  ·simp only [Qb];omega
  ·simp only [Qb];omega
  ·simp only [owL,Z6,Qb] at s3 ⊢;omega
end Go.AM.Ytpjenobkibfpcaa
namespace Go.AM.Ytpjenobkibfpcaa
open Go.AM Go.Proofs
variable {K:Nat}
theorem Z6t:rng Tree.nil:=by simp [Tree.nil,rng,YU,InR]
theorem Z63{α:Type}{at_:α->Int}{f:α->α}(hf:∀ a,at_ (f a)=at_ a):∀ {l:List α} {last:Int},asc at_ last l->asc at_ last (l.map f)
 | [],_,_=> trivial
 | a ::r,last,h=> by
  refine ⟨by rw [hf];exact h.1,?_⟩
  rw [hf]
  exact Z63 hf h.2
theorem Z3B{α:Type}{at_:α->Int}{g:α->Bool}:∀ {l:List α} {last:Int},asc at_ last l->asc at_ last (l.filter g)
 | [],_,_=> trivial
 | a ::r,last,h=> by
  rw [XE]
  split
  ·exact ⟨h.1,Z3B h.2⟩
  ·exact ZmL (XP h.1) (Z3B h.2)
theorem Zh0(a b:WEdit):(Z0X a b).at_=a.at_:=rfl
theorem Zpm{a b:WEdit}(ra:Zg2 a):Zg2 (Z0X a b)/\Yu (Z0X a b).old (Z0X a b).mask=true/\Yu (Z0X a b).new (Z0X a b).mask=true:=by
 obtain ⟨m1,_⟩:=ZfD (a:=ZeU b.mask) (b:=a.mask) (by
  have h:=(BitVec.ofInt (IntKind.bits .u8) 255 ^^^ BitVec.ofInt (IntKind.bits .u8) b.mask).isLt
  have e:(2:Nat) ^ IntKind.bits .u8=256:=rfl
  unfold ZeU
  rw [Z4u (by omega) (by omega)]
  omega) ra.2.1
 have w:∀ x m:Int,Yu (mix 0 x m) m=true:=fun x m=> Zly fun i hi hn=> by rw [Zv6 hi,if_neg (by rw [hn];decide)];exact Zul i
 exact ⟨⟨ra.1,m1,Zie _ _ _,Zie _ _ _⟩,w _ _,w _ _⟩
theorem ZuM {T:Int} {W:List WEdit} {Ks:List Kid} {p:Edit} (hT:0<=T) (p2:p.kind=2) (aw:asc WEdit.at_ (-1) W) (ak:asc KidOf.at_ (-1) Ks)
  (hw:∀ w∈W,Zg2 w/\w.at_<=65534/\Yu w.old w.mask=true/\Yu w.new w.mask=true) (hk:∀ k∈Ks,k.at_<=65534/\InR k.at_/\Wk k.e/\Yi T k.e)
  (ow:65600*W.length+Z3l K Ks<=65600*p.words.length+Z3l K p.kids):LbX K T (Z2w (.mk 2 Tree.nil Tree.nil W Ks 0 [])) p:=by
 unfold Z2w
 split
 ·exact .nil hT p
 ·show LbX K T (.mk 2 Tree.nil Tree.nil (W.filter fun w=> !decide (w.mask=0)) (Ks.filter fun k:Kid=> !decide (k.e.kind=0)) 0 []) p
  refine ⟨⟨ZlR (Zav (Z3B aw) fun w h=> ?_) (Zbe (Z3B ak) fun k h=> ?_),?_⟩,?_,?_,.inr (.inr ⟨by rw [p2];rfl,.inl p2⟩)⟩
  ·obtain ⟨h1,h2⟩:=XK.1 h
   obtain ⟨_,g2,g3,g4⟩:=hw w h1
   exact ⟨g2,by simpa using h2,g3,g4⟩
  ·obtain ⟨h1,h2⟩:=XK.1 h
   obtain ⟨g1,_,g3,_⟩:=hk k h1
   exact ⟨g1,by simpa using h2,Yr _ _ _ (by decide) g3.r⟩
  ·refine ⟨YH (by decide) (by decide),Z6t,Z6t,fun w h=> (hw w (XK.1 h).1).1,YH (by decide) (by decide),Zg4 fun k h=> ?_,trivial⟩
   obtain ⟨_,g2,g3,_⟩:=hk k (XK.1 h).1
   exact ⟨g2,g3.g⟩
  ·rw [JJ]
   refine ⟨⟨hT,hT⟩,fun k h=> (hk k (XK.1 h).1).2.2.2,fun o h=> (by cases h)⟩
  ·have l1:=K2 (fun w:WEdit=> !decide (w.mask=0)) W
   have l2:∀ l:List Kid,Z3l K (l.filter fun k=> !decide (k.e.kind=0))<=Z3l K l:=by
    intro l
    induction l with
    | nil=> exact Qf _
    | cons k r ih=>
     rw [XE]
     split
     ·simp only [Z3l];omega
     ·simp only [Z3l];omega
   have l2:=l2 Ks
   have e:=ZeO (K:=K) p
   have m1:=Zdt p.old;have m2:=Zdt p.new
   have key:∀ w k:Nat,w<=W.length->k<=Z3l K Ks->K+1+1+65600*w+k+0<=owE K p:=by intro w k h1 h2;omega
   exact key _ _ l1 l2
theorem ZdG{α:Type}{at_:α->Int}{f:α->α->α}{q:List α}{a:α}:YA at_ f q a=a\/∃ b∈q,at_ b=at_ a/\YA at_ f q a=f a b:=by
 unfold YA
 cases h:Z1M at_ q (at_ a) with
 | none=> exact .inl rfl
 | some b=> obtain ⟨h1,h2⟩:=Z4T at_ _ q b h;exact .inr ⟨b,h1,h2,rfl⟩
theorem Zyg {f:Edit->Edit->Lft} {a b:Int} (ha:0<=a) (hb:0<=b) {p q:Edit} (wp:Wk p) (wq:Wk q) (tp:Yi a p) (p2:p.kind=2)
  (hf:∀ x∈p.kids,∀ y∈q.kids,LbX K (a+b) (f x.e y.e).x x.e):LbX K (a+b) (Z3H f p q).x p:=by
 have rp:=Zt wp.r
 have gp:=Yq wp.g
 rw [JJ] at tp
 have hcut:∀ k∈p.kids,LbX K (a+b) (YA KidOf.at_ (fun a b:Kid=> ⟨a.at_,(f a.e b.e).x⟩) q.kids k).e k.e:=by
  intro k hk
  rcases ZdG (at_:=KidOf.at_) (f:=fun a b:Kid=> ⟨a.at_,(f a.e b.e).x⟩) (q:=q.kids) (a:=k) with e | ⟨y,hy,_,e⟩
  ·rw [e]
   exact .self ⟨Yr _ _ _ (by decide) (Zz rp.kids k hk).2,(YT gp.2.2.2.1 hk).2⟩ (Z36 _ _ (Qf _) (by omega) (tp.2.1 k hk))
  ·rw [e];exact hf k hk y hy
 have hat:∀ k:Kid,(YA KidOf.at_ (fun a b:Kid=> ⟨a.at_,(f a.e b.e).x⟩) q.kids k).at_=k.at_:=fun k=> Zal (at_:=KidOf.at_) (f:=fun a b:Kid=> ⟨a.at_,(f a.e b.e).x⟩) (fun _ _=> rfl) q.kids k
 refine ZuM (by omega) p2 (Z63 (Zal Zh0 _) (Z7Q rp.words)) (Z63 hat (Zcb rp.kids)) (fun w hw=> ?_) (fun k hk=> ?_) ?_
 ·obtain ⟨v,hv,rfl⟩:=Xo.1 hw
  have A:=JX rp.words v hv
  have R:=gp.2.2.1 v hv
  rcases ZdG (at_:=WEdit.at_) (f:=Z0X) (q:=q.words) (a:=v) with e | ⟨y,hy,_,e⟩
  ·rw [e];exact ⟨R,A.2.1,A.2.2.2.1,A.2.2.2.2⟩
  ·rw [e]
   obtain ⟨r1,r2,r3⟩:=Zpm (b:=y) R
   exact ⟨r1,by rw [Zh0];exact A.2.1,r2,r3⟩
 ·obtain ⟨v,hv,rfl⟩:=Xo.1 hk
  have A:=(Zz rp.kids v hv).1
  have H:=hcut v hv
  rw [hat]
  exact ⟨A.2.1,(YT gp.2.2.2.1 hv).1,H.wk,H.th⟩
 ·rw [Xc]
  have key:∀ l:List Kid,(∀ k∈l,k∈p.kids)->Z3l K (l.map (YA KidOf.at_ (fun a b:Kid=> ⟨a.at_,(f a.e b.e).x⟩) q.kids))<=Z3l K l:=by
   intro l
   induction l with
   | nil=> intro _;exact Qf _
   | cons k r ih=>
    intro hl
    have:=(hcut k (hl k Q5)).ow
    have:=ih fun x hx=> hl x (Q4 _ hx)
    simp only [QV,Z3l,Zgy]
    omega
  exact Nat.add_le_add_left (key p.kids fun _ h=> h) _
theorem Zip{l:List Op}(h:∀ o∈l,ZT o)(hs:YK l < 1048576/\Yd l < 1048576):Z1b l 0 < 1048576/\Z1a l 0 < 1048576:=by
 have nn:∀ o∈l,0<=Z2 o:=fun o ho=> by have:=ZA (h o ho);omega
 have a:=(Z0c l 0 nn (by decide) (by decide)).1
 have b:=(Z0M l 0 nn (by decide) (by decide)).1
 omega
theorem Z24{e:Edit}(w:Wk e):∀ o∈e.ops,OkO e.list o:=by
 intro o ho
 have r:=rightOs_mem (Zt w.r).ops ho
 exact ⟨J3 w.r o ho,r,Z1h (Yq w.g).2.2.2.2 ho⟩
theorem ZuN{list T:Int}{l:List Op}{A B:Int}{W:Nat}{p:Edit}(hT:0<=T)(hli:2<=list/\list<=9)(h:OpsX K list T l A B W)(hA:A<=T)(hB:B<=T)(h1:T < 1048576)(p3:p.kind=3)(hp:p.list=list)(hW:W<=Z2D K p.ops):LbX K T (Z0K list l) p:=by
 unfold Z0K
 split
 ·have la:=h.la;have lb:=h.lb
  obtain ⟨k1,k2⟩:=Zip (fun o ho=> (h.ok o ho).1.1) (l:=l) ⟨by omega,by omega⟩
  refine ⟨⟨ZlQ hli (Zbc fun o ho=> (h.ok o ho).1.2.1) k1 k2,?_⟩,?_,?_,.inr (.inr ⟨by rw [p3];rfl,.inr p3⟩)⟩
  ·exact ⟨YH (by decide) (by decide),Z6t,Z6t,fun w hw=> (by cases hw),YH (by omega) (by omega),trivial,Zg3 fun o ho=> (h.ok o ho).1.2.2⟩
  ·rw [JJ]
   exact ⟨⟨by show YK l<=T;omega,by show Yd l<=T;omega⟩,fun k hk=> (by cases hk),fun o ho=> (h.ok o ho).2⟩
  ·have e:=ZeO (K:=K) p
   have m1:=Zdt p.old;have m2:=Zdt p.new
   have:=h.ow
   simp only [owE,Z3l,Tree.nil,Zm,Z6,Qb]
   omega
 ·exact .nil hT p
theorem Zyn {f:Edit->Edit->Lft} {a b:Int} (ha:0<=a) (hb:0<=b) (hab:a+b < 1048576) {p q:Edit} (wp:Wk p) (wq:Wk q) (tp:Yi a p) (tq:Yi b q) (p3:p.kind=3) (hl:p.list=q.list)
  (hf:∀ x∈p.ops,∀ y∈q.ops,x.kind=3->y.kind=3->LbX K (a+b) (f x.e y.e).x x.e):LbX K (a+b) (Z3p f p q).x p:=by
 have rp:=Zt wp.r
 have hli:=rp.list p3
 rw [JJ] at tp tq
 unfold Z3p
 by_cases hc:(ZK 2 2 p.ops q.ops []).2.1=true
 ·rw [if_pos hc]
  obtain ⟨ps,e,hL⟩:=Zc9 (f:=f) _ p.ops q.ops [] (Qf _) hc
  rw [e,Qu]
  have S:=Zys (K:=K) hli ha hb (hL [] []) (fun o ho=> ⟨Z24 wp o ho,tp.2.2 o ho⟩) (fun o ho=> by rw [hl];exact Z24 wq o ho) hf (fun t ht=> by cases ht) (by simp only [Qb];omega)
  simp only [Qb,owL,Z6] at S
  exact ZuN (by omega) hli S (by omega) (by omega) hab p3 rfl (by omega)
 ·rw [if_neg hc]
  exact .nil (by omega) p
theorem ZuK {f:Edit->Edit->Lft} {a b:Int} (ha:0<=a) (hb:0<=b) (hab:a+b < 1048576) {p q:Edit} (wp:Wk p) (wq:Wk q) (tp:Yi a p) (tq:Yi b q)
  (hf:∀ x y,Z7 x+Z7 y < Z7 p+Z7 q->Wk x->Wk y->Yi a x->Yi b y->LbX K (a+b) (f x y).x x):LbX K (a+b) (Ya f p q).x p:=by
 by_cases p0:p.kind=0
 ·rw [lb0 (.inl p0)];exact .self wp (Z36 _ _ (Qf _) (by omega) tp)
 by_cases q0:q.kind=0
 ·rw [lb0 (.inr q0)];exact .self wp (Z36 _ _ (Qf _) (by omega) tp)
 by_cases p1:p.kind=1
 ·rw [lb1 p1 q0];exact .nil (by omega) p
 by_cases q1:q.kind=1
 ·rw [ZvM p0 p1 q1];exact .nil (by omega) p
 by_cases hd:p.kind≠q.kind\/p.list≠q.list
 ·rw [lbd p0 p1 q0 q1 hd];exact .nil (by omega) p
 have hk:p.kind=q.kind:=by omega
 have hl:p.list=q.list:=by omega
 have rp:=Zt wp.r
 have rq:=Zt wq.r
 have tp':=JJ.1 tp
 have tq':=JJ.1 tq
 by_cases p2:p.kind=2
 ·rw [lb2 p2 (by omega) hl]
  refine Zyg ha hb wp wq tp p2 fun x hx y hy=> ?_
  have:=Yp hx;have:=Yp hy
  exact hf _ _ (by omega) ⟨Yr _ _ _ (by decide) (Zz rp.kids x hx).2,(YT (Yq wp.g).2.2.2.1 hx).2⟩ ⟨Yr _ _ _ (by decide) (Zz rq.kids y hy).2,(YT (Yq wq.g).2.2.2.1 hy).2⟩ (tp'.2.1 x hx) (tq'.2.1 y hy)
 ·have kp:=rp.kind
  rw [lb3 hk p0 p1 p2 hl]
  refine Zyn ha hb hab wp wq tp tq (by omega) hl fun x hx y hy kx ky=> ?_
  have:=J8 hx;have:=J8 hy
  exact hf _ _ (by omega) ((Z47 (Z24 wp x hx) kx).1.2.2.2) ((Z47 (Z24 wq y hy) ky).1.2.2.2) (tp'.2.2 x hx) (tq'.2.2 y hy)
theorem Zyq{a b:Int}(ha:0<=a)(hb:0<=b)(hab:a+b < 1048576):∀ (n:Nat) (p q:Edit),Z7 p+Z7 q<=n->Wk p->Wk q->Yi a p->Yi b q->LbX K (a+b) (lbF n p q).x p:=by
 intro n
 induction n with
 | zero=> intro p q h;obtain ⟨k,o,nw,w,ks,l,os⟩:=p;simp only [Z7] at h;omega
 | succ n ih=>
  intro p q hn wp wq tp tq
  exact ZuK ha hb hab wp wq tp tq fun x y hxy wx wy tx ty=> ih x y (by omega) wx wy tx ty
theorem Zyr{a b:Int}(ha:0<=a)(hb:0<=b)(hab:a+b < 1048576){p q:Edit}(wp:Wk p)(wq:Wk q)(tp:Yi a p)(tq:Yi b q):LbX K (a+b) (lbE p q).x p/\LbX K (a+b) (lbE p q).y q:=by
 refine ⟨Zyq ha hb hab _ p q (Qf _) wp wq tp tq,?_⟩
 have h:=Zyq (K:=K) hb ha (by omega) _ q p (Qf _) wq wp tq tp
 rw [show lbF (Z7 q+Z7 p) q p=lbE q p from rfl,Zpr wp.r wq.r] at h
 rw [Int.add_comm]
 exact h
theorem ZpQ{T:Int}(hT:0<=T)(hK:16+68*T.toNat<=K):∀ (n:Nat) (e:Edit),Z7 e<=n->Wk e->Yi T e->ctE e<=owE K e:=by
 intro n
 induction n with
 | zero=> intro e h;obtain ⟨k,o,nw,w,ks,l,os⟩:=e;simp only [Z7] at h;omega
 | succ n ih=>
  intro e hn we te
  have re:=Zt we.r
  have te':=JJ.1 te
  have hc:=Z4s e
  have ho:=ZeO (K:=K) e
  have kids:∀ l:List Kid,(∀ k∈l,k∈e.kids)->Z2n l<=Z3l K l:=by
   intro l
   induction l with
   | nil=> intro _;exact Qf _
   | cons k r ihl=>
    intro hl
    have hk:=hl k Q5
    have:=Yp hk
    have h1:=ih k.e (by omega) ⟨Yr _ _ _ (by decide) (Zz re.kids k hk).2,(YT (Yq we.g).2.2.2.1 hk).2⟩ (te'.2.1 k hk)
    have h2:=ihl fun x hx=> hl x (Q4 _ hx)
    simp only [Z2n,Z3l,Zgy,Zhm]
    omega
  have lens:∀ l:List Op,(∀ o∈l,o∈e.ops)->(l.length:Int)<=YK l+Yd l/\YZ l<=Z2D K l+34*l.length:=by
   intro l
   induction l with
   | nil=> intro _;simp [YZ,YK,Yd]
   | cons o r ihl=>
    intro hl
    obtain ⟨h1,h2⟩:=ihl fun x hx=> hl x (Q4 _ hx)
    have hm:=hl o Q5
    have hO:=Z24 we o hm
    have h4:=ZA hO.1
    simp only [YZ,Z2D,YK,Yd,Q9]
    refine ⟨?_,?_⟩
    ·by_cases k1:o.kind=1
     ·rw [if_neg (show ¬o.kind=2 by omega),if_pos k1];omega
     ·rw [if_neg k1];split <;> omega
    ·have e1:=Z2b o
     have e2:=Z16 (K:=K) o
     by_cases k3:o.kind=3
     ·have:=J8 hm
      obtain ⟨⟨_,_,_,w⟩,hl⟩:=Z47 hO k3
      have h1:=ih o.e (by omega) w (te'.2.2 o hm)
      rw [if_pos k3] at e2
      have:Z6 o.l=0:=by rw [hl];try rfl
      omega
     ·have he:ctE o.e=18:=by
       rcases hO.1 with h | h | h
       ·rw [h.2.2.2];try rfl
       ·rw [h.2.2.2];try rfl
       ·omega
      rw [if_neg k3] at e2
      unfold owL at e2
      omega
  obtain ⟨l1,l2⟩:=lens e.ops fun _ h=> h
  have l3:=kids e.kids fun _ h=> h
  have t1:=te'.1
  have l4:e.ops.length<=2*T.toNat:=by omega
  omega
mutual
theorem Z6M(K:Nat):∀ e:Edit,owE K e+65700<=(131402+K)*Z7 e
 | .mk k o n w ks l os=> by
  have h1:=Zom K ks
  have h2:=Zol K os
  have w1:Zm o<=(131402+K)*Zm o:=Nat.le_mul_of_pos_left _ (by omega)
  have w2:Zm n<=(131402+K)*Zm n:=Nat.le_mul_of_pos_left _ (by omega)
  have w3:65600*w.length<=(131402+K)*w.length:=Qa _ (by omega)
  simp only [owE,Z7,Nat.mul_add]
  omega
theorem Zom(K:Nat):∀ ks:List (KidOf Edit),Z3l K ks<=(131402+K)*ZR ks
 | []=> QY _
 | ⟨a,e⟩ ::r=> by
  have h1:=Z6M K e
  have h2:=Zom K r
  simp only [Z3l,Zon,ZR,JB,Nat.mul_add]
  omega
theorem Zol(K:Nat):∀ os:List (OpOf Edit),Z2D K os<=(131402+K)*Zd os
 | []=> QY _
 | ⟨k,n,l,e⟩ ::r=> by
  have h1:=Z6M K e
  have h2:=Zol K r
  have h3:=Zs l
  have w1:101*Z6 l<=(131402+K)*Z6 l:=Qa _ (by omega)
  simp only [Z2D,Zi6,owL,Zd,Zv,Nat.mul_add]
  split <;> omega
end
end Go.AM.Ytpjenobkibfpcaa
namespace Go.AM.Ytpjenobkibfpcaa
open Go.AM Go.Proofs
theorem Z4U(n:Int):(J9 n).length<=1:=by unfold J9;split <;> simp
theorem Z4g:∀ {ks:List Kid},J7 ks=true->∀ k∈ks,Y3 k.e=true
 | [],_,k,hk=> by cases hk
 | a ::r,h,k,hk=> by
  rw [J7,Q1] at h
  rcases Qc.1 hk with rfl | hk
  ·obtain ⟨_,e⟩:=k;exact h.1
  ·exact Z4g h.2 k hk
theorem Z4f:∀ {os:List Op},ZN os=true->∀ o∈os,Y3 o.e=true
 | [],_,k,hk=> by cases hk
 | a ::r,h,k,hk=> by
  rw [ZN,Q1] at h
  rcases Qc.1 hk with rfl | hk
  ·obtain ⟨_,_,_,e⟩:=k;exact h.1
  ·exact Z4f h.2 k hk
theorem Z3q:∀ (n:Nat) (e:Edit) (d:Int),Z7 e<=n->Z8 e d=true->Y3 e=true->Y3 (Zo e)=true
 | 0,e,d,hn,_,_=> by
  have:3<=Z7 e:=Z9i e
  omega
 | n+1,e,d,hn,hr,hl=> by
  have ra:=Zt hr
  have hops:=Z0J.1 ra.ops
  rw [Z4S] at hl
  simp only [Q1,decide_eq_true_eq] at hl
  have hz:∀ (k:Int) (o m:Tree) (w:List WEdit) (l:Int),Y3 (.mk k o m w [] l [])=true:=by
   intro k o m w l
   rw [Y3]
   simp [Z1b,Z1a,J7,ZN]
  rw [Z3m]
  split
  ·exact hz _ _ _ _ _
  ·split
   ·rw [Y3]
    simp only [Z1b,Z1a,ZN,X3,Q1,decide_eq_true_eq]
    refine ⟨by simp,?_⟩
    have:∀ ks:List Kid,(∀ k∈ks,k∈e.kids)->J7 (YW ks)=true:=by
     intro ks
     induction ks with
     | nil=> intro _;rfl
     | cons k r ih=>
      intro h
      rw [YW,J7,ih fun x hx=> h x (Q4 _ hx),X3]
      have hk:=h k Q5
      have hm:=Yp hk
      obtain ⟨a,x⟩:=k
      exact Z3q n x (d - 1) (by have hm:Z7 x < Z7 e:=hm;omega) (Zz ra.kids _ hk).2 (Z4g hl.1.2 _ hk)
    exact this e.kids fun _ h=> h
   ·split
    ·rename_i k3
     have hsA:=Z0c e.ops 0 (fun x hx=> Z15 (Z88 (hops x hx))) (by omega) (by omega)
     have hsB:=Z0M e.ops 0 (fun x hx=> Z15 (Z88 (hops x hx))) (by omega) (by omega)
     have hlen:=ra.len
     have hsn:=ZdY e.list e.ops (d - 1) ⟨[],[],[]⟩ ra.ops
     have hfl:=Z4w (Zn e.list e.ops ⟨[],[],[]⟩)
     have hrn:=YN e d hr
     rw [Z3m,if_neg (by omega),if_neg (by omega),if_pos k3] at hrn
     have rn:=Zt hrn
     have nops:=Z0J.1 rn.ops
     simp only [Edit.ops_mk,Edit.list_mk] at nops
     have nsA:=Z0c (Z0 (Zn e.list e.ops ⟨[],[],[]⟩)).out 0 (fun x hx=> Z15 (Z88 (nops x hx))) (by omega) (by omega)
     have nsB:=Z0M (Z0 (Zn e.list e.ops ⟨[],[],[]⟩)).out 0 (fun x hx=> Z15 (Z88 (nops x hx))) (by omega) (by omega)
     have hs0:sA ⟨[],[],[]⟩=0/\sB ⟨[],[],[]⟩=0:=⟨rfl,rfl⟩
     rw [Y3]
     simp only [J7,X3,Q1,decide_eq_true_eq]
     refine ⟨by omega,?_⟩
     have hw:∀ (os:List Op),(∀ o∈os,o∈e.ops)->∀ w:Wst,ZN w.out=true->ZN (Zn e.list os w).out=true:=by
      intro os
      induction os with
      | nil=> intro _ w hw;exact hw
      | cons o r ih=>
       intro h w hw
       rw [Zn]
       refine ih (fun x hx=> h x (Q4 _ hx)) _ ?_
       have hm:=h o Q5
       rw [YF]
       split
       ·exact light_keep _ _ hw
       ·split
        ·exact hw
        ·split
         ·exact hw
         ·split
          ·rename_i k3'
           split
           ·exact light_keep _ _ hw
           ·dsimp only
            rw [light_app,light_flush _ hw,QB,ZN,ZN,X3]
            have:=J8 hm
            exact Z3q n o.e (d - 1) (by omega) (J2 (hops o hm) k3') (Z4f hl.2 _ hm)
          ·exact hw
     exact light_flush _ (hw e.ops (fun _ h=> h) _ rfl)
    ·exact hz _ _ _ _ _
where
 light_app:∀ (a b:List Op),ZN (a++b)=(ZN a && ZN b)
  | [],b=> rfl
  | o ::r,b=> by rw [Qo,ZN,ZN,light_app r b,Bool.and_assoc]
 light_nil:Y3 Edit.nil=true:=by decide
 light_flush (w:Wst) (h:ZN w.out=true):ZN (Z0 w).out=true:=by
  unfold Z0 Jv
  dsimp only
  rw [light_app,light_app,h,QB]
  split <;> split <;> simp [ZN,Z72,light_nil]
 light_keep (w:Wst) (n:Int) (h:ZN w.out=true):ZN (ZL w n).out=true:=by
  unfold ZL
  dsimp only
  have h:=light_flush w h
  rcases J1 (Z0 w).out n with e | ⟨a,o,e1,e2,e3⟩
  ·rw [e,light_app,h];simp [ZN,Z72,light_nil]
  ·rw [e3,light_app]
   rw [e1,light_app,Q1] at h
   rw [h.1]
   obtain ⟨_,_,_,x⟩:=o
   simpa [ZN,Z72] using h.2
instance decStep:DecidableEq PStep:=fun a b=> decidable_of_iff (a.kind=b.kind/\a.at_=b.at_) (by cases a;cases b;simp)
def Zrs(p q:Edit):Prop:=Z0p p/\Z0p q/\∃ a b:Int,(0<=a/\0<=b/\a+b < 1048576)/\(Yi a (Zo p)/\Yi b (Zo q))/\owE (16+68*(a+b).toNat) (Zo p)<=9000000000/\owE (16+68*(a+b).toNat) (Zo q)<=9000000000
theorem Zgj{e:Edit}(h:Z0p e):Z0p (Zo e):=by
 obtain ⟨c,g,d,r⟩:=h
 exact ⟨X4 (ZiP e) c,Z2A e d r g,d,YN e d r⟩
theorem Zrr{p q:Edit}(h:Zrs p q):(Z0p (Zo p)/\Z0p (Zo q))/\Z0p (lbE (Zo p) (Zo q)).x/\Z0p (lbE (Zo p) (Zo q)).y:=by
 obtain ⟨hp,hq,a,b,⟨ha,hb,hab⟩,⟨tp,tq⟩,wp,wq⟩:=h
 have hp':=Zgj hp
 have hq':=Zgj hq
 obtain ⟨X,Y⟩:=Zyr (K:=16+68*(a+b).toNat) ha hb hab (ZjG hp') (ZjG hq') tp tq
 have c1:=ZpQ (K:=16+68*(a+b).toNat) (show 0<=a+b by omega) (Qf _) _ _ (Qf _) X.wk X.th
 have c2:=ZpQ (K:=16+68*(a+b).toNat) (show 0<=a+b by omega) (Qf _) _ _ (Qf _) Y.wk Y.th
 have o1:=X.ow
 have o2:=Y.ow
 exact ⟨⟨hp',hq'⟩,⟨by omega,X.wk.g,-1,X.wk.r⟩,⟨by omega,Y.wk.g,-1,Y.wk.r⟩⟩
theorem ZaD:∀ (n:Nat) (e:Edit),Z7 e<=n->Wk e->Y3 e=true->Yi 2000 e:=by
 intro n
 induction n with
 | zero=> intro e h;obtain ⟨k,o,nw,w,ks,l,os⟩:=e;simp only [Z7] at h;omega
 | succ n ih=>
  intro e hn we h
  have re:=Zt we.r
  rw [Z4S,Q1,Q1,decide_eq_true_eq] at h
  obtain ⟨⟨⟨h1,h2⟩,h3⟩,h4⟩:=h
  have nn:∀ o∈e.ops,0<=Z2 o:=fun o ho=> by have:=ZA (Z24 we o ho).1;omega
  have a:=(Z0c e.ops 0 nn (by decide) (by decide)).1
  have b:=(Z0M e.ops 0 nn (by decide) (by decide)).1
  rw [JJ]
  refine ⟨⟨by omega,by omega⟩,fun k hk=> ?_,fun o ho=> ?_⟩
  ·have:=Yp hk
   exact ih k.e (by omega) ⟨Yr _ _ _ (by decide) (Zz re.kids k hk).2,(YT (Yq we.g).2.2.2.1 hk).2⟩ (Z4g h3 k hk)
  ·have:=J8 ho
   by_cases k3:o.kind=3
   ·exact ih o.e (by omega) (Z47 (Z24 we o ho) k3).1.2.2.2 (Z4f h4 o ho)
   ·have:o.e=Edit.nil:=by
     rcases (Z24 we o ho).1 with h | h | h
     ·exact h.2.2.2
     ·exact h.2.2.2
     ·omega
    rw [this];exact Z2p (by decide)
theorem Zev{p q:Edit}{d d':Int}(rp:Z8 p d=true)(rq:Z8 q d'=true)(gp:YQ p)(gq:YQ q)(lp:Y3 p=true)(lq:Y3 q=true)(mp:Z7 p<=20000)(mq:Z7 q<=20000):Zrs p q:=by
 have cp:=Zam p
 have cq:=Zam q
 have np:=Z1p p
 have nq:=Z1p q
 have op:=Z6M (16+68*((2000:Int)+2000).toNat) (Zo p)
 have oq:=Z6M (16+68*((2000:Int)+2000).toNat) (Zo q)
 have e:((2000:Int)+2000).toNat=4000:=rfl
 rw [e] at op oq
 refine ⟨⟨by omega,gp,d,rp⟩,⟨by omega,gq,d',rq⟩,2000,2000,⟨by decide,by decide,by decide⟩,⟨?_,?_⟩,?_,?_⟩
 ·exact ZaD _ _ (Qf _) (.of (YN p d rp) (Z2A p d rp gp)) (Z3q _ p d (Qf _) rp lp)
 ·exact ZaD _ _ (Qf _) (.of (YN q d' rq) (Z2A q d' rq gq)) (Z3q _ q d' (Qf _) rq lq)
 ·rw [e];omega
 ·rw [e];omega
noncomputable section
def Zl9:ArgL (WEdit × Int × Unit):=(.cons (aEl .wedit) (.cons (Jd .u8) .nil))
def Zbx(a:WEdit × Int × Unit):Prop:=wOk a.1/\0<=a.2.1/\a.2.1 < 256
def ZhR(a:WEdit × Int × Unit):V U:= .tup [(true,(enc .wedit ((Zdx a.1 a.2.1).1))),(false,[.bool ((Zdx a.1 a.2.1).2)])]
def Z9X:Fs U:=fs Zl9 (fun a=> [Zbx a]) ZhR
def Zfz:ArgM ((Bool × Bool × Unit) × WEdit × WEdit × Unit):=(.obj 0 (.cons Z0Z (.cons Z0Z .nil)) (.cons (aEl .wedit) (.cons (aEl .wedit) .nil)))
def ZeK(a:(Bool × Bool × Unit) × WEdit × WEdit × Unit):Prop:=wOk a.2.1/\wOk a.2.2.1
def ZnS(a:(Bool × Bool × Unit) × WEdit × WEdit × Unit):V U:= .tup []
def Z6C(a:(Bool × Bool × Unit) × WEdit × WEdit × Unit):List (List (C U)):=[[.bool (a.1.1 || (!(Yz a.2.1 a.2.2.1) && Z06 a.2.1 a.2.2.1)),.bool (a.1.2.1 || Yz a.2.1 a.2.2.1)]]
def Z9Y:Fs U:=fsX Zfz (fun a=> [ZeK a]) ZnS Z6C
def ZeC(a:List Tree × Unit):Prop:=True
def Zek(a:List Tree × Unit):V U:= .c (sU .op (Z2O a.1) (.own (.r 0 0)))
def Z6g:Fs U:=fs Zlb (fun a=> [ZeC a]) Zek
def ZeB(a:Edit × Unit):Prop:=True
def Zej(a:Edit × Unit):V U:= .agg (enc .op (Z3M a.1))
def Z9Q:Fs U:=fs Zll (fun a=> [ZeB a]) Zej
def Zlh:ArgL Unit:= .nil
def Z8e(a:Unit):Prop:=True
def ZhT(a:Unit):V U:= .tup [(true,(enc .edit Edit.nil)),(true,(enc .edit Edit.nil))]
def Za0:Fs U:=fs Zlh (fun a=> [Z8e a]) ZhT
def Zfw:ArgM ((Unit × List Op × List Op × List Tree × List Tree × Unit) × Edit × Tree × (Bool × Bool × Unit) × Unit):=(.obj 0 (.cons (cXp 1) (.cons (Z2Y .op 0 1) (.cons (Z2Y .op 0 2) (.cons (Z2Y .tree 0 3) (.cons (Z2Y .tree 0 4) .nil))))) (.cons (aEl .edit) (.cons (aEl .tree) (.hid (.cons Z0Z (.cons Z0Z .nil)) .nil))))
def Zbt(a:(Unit × List Op × List Op × List Tree × List Tree × Unit) × Edit × Tree × (Bool × Bool × Unit) × Unit):Prop:=(Z7 a.2.1<=20000000000/\YQ a.2.1/\∃ d,Z8 a.2.1 d=true)/\Zm a.2.2.1+ctE a.2.1<=200000000000/\rng a.2.2.1
def ZnP(a:(Unit × List Op × List Op × List Tree × List Tree × Unit) × Edit × Tree × (Bool × Bool × Unit) × Unit):V U:= .tup []
def Za2(a:(Unit × List Op × List Op × List Tree × List Tree × Unit) × Edit × Tree × (Bool × Bool × Unit) × Unit):List (List (C U)):=[[.xp 1,sU .op a.1.2.1 (.own (.x 0 1)),sU .op a.1.2.2.1 (.own (.x 0 2)),sU .tree a.1.2.2.2.1 (.own (.x 0 3)),sU .tree a.1.2.2.2.2.1 (.own (.x 0 4))],[.bool true,.bool (a.2.2.2.1.2.1 || !(doE false a.2.1 a.2.2.1).isSome)]]
def Z9R:Fs U:=fsX Zfw (fun a=> [Zbt a]) ZnP Za2
def Zkz:List (FuncId × Fs U):=[(66,Z6p)]
def Zp1:Zf U:=lvl [([1,2,4],[2,4]),([1,2,4],[2,4]),([4,5],[4])]
abbrev ZA0(p:List Nat):=AW (Z1 Zkz) Try.f155 Zp1 p
theorem ZxP(w:WEdit)(m:Int)(Q:QT)(h:let z0:=IntKind.wrap .u8 (BitVec.ofInt (IntKind.bits .u8) m &&& BitVec.ofInt (IntKind.bits .u8) w.mask).toNat;((ZeL (0,w.old,z0,()))/\(ZeL (0,w.new,z0,()))/\(Q .ret (L2 [pL 4,(5,.c (.bool ((z0:Int) !=0)))] [(.loc 4,[ci w.at_,.int .u8 z0,.int .u64 (mix 0 w.old z0),.int .u64 (mix 0 w.new z0)])])))):
  ZA0 [] (L2 [(0,.agg (enc .wedit w)),(1,.c (.int .u8 m))] []) Q:=
 Eq.mpr (by kernel_rfl) h
def Ztp(w:WEdit)(m:Int):Prop:=AW (Z1 Zkz) Try.f155 Zp1 [] (Zj (Zl9.can (w,m,())) []) (EQ Try.f155 (ZhR (w,m,())) [])
theorem Zs1(c66:CT 66 Z6p)(hb:∀ (w:WEdit) (m:Int) (_:Unit),Zbx (w,m,())->Ztp w m):CT 155 Z9X:=
 Z3 (l:=[(66,Z6p)]) Zl rfl (⟨c66,trivial⟩) Zp1 Try.func155 rfl rfl 2 (fun _=> rfl) (by decide) (fun ⟨w,m,_⟩=> hb w m ())
def Zp2:Zf U:=fun i=> match i with
 | 0=> ([(0,[]),(4,[]),(5,[])],[(.loc 4,[]),(.loc 5,[]),(.x 0,[])])
 | 1=> ([(0,[]),(4,[]),(5,[]),(6,[])],[(.loc 4,[]),(.loc 5,[]),(.x 0,[])])
 | 2=> ([(0,[]),(4,[]),(5,[]),(6,[]),(12,[])],[(.loc 4,[]),(.loc 5,[]),(.x 0,[])])
 | 3=> ([],[(.x 0,[])])
 | 4=> ([(0,[]),(25,[])],[(.x 0,[])])
 | 5=> ([],[(.x 0,[])])
 | _=> ([],[])
abbrev ZA1(p:List Nat):=AW (Z1 Zkz) Try.f154 Zp2 p
theorem ZxQ(mc ma:Bool)(p q:WEdit)(Q:QT)(h:∀ y_1,y_1=(BitVec.ofInt (IntKind.bits .u8) p.mask &&& BitVec.ofInt (IntKind.bits .u8) q.mask)->let z0:=IntKind.wrap .u8 y_1.toNat;let z2:=((mix 0 p.old z0):Int) !=(mix 0 q.old z0);let z1:=((mix 0 p.new z0):Int) !=(mix 0 q.new z0);((ZeL (0,p.old,z0,()))/\(ZeL (0,q.old,z0,()))/\((z2=true->(Q .normal (L2 [] [(.x 0,[.bool mc,.bool true])])))/\(z2=false->(ZeL (0,p.new,z0,()))/\(ZeL (0,q.new,z0,()))/\((z1=true->(Q .normal (L2 [] [(.x 0,[.bool true,.bool ma])])))/\(z1=false->Q .normal (L2 [(0,.ptr (.x 0) 0),(25,.c (.bool z1))] [(.x 0,[.bool mc,.bool ma])]))))))):
  ZA1 [] (L2 [(0,.ptr (.x 0) 0),(1,.agg (enc .wedit p)),(2,.agg (enc .wedit q))] [(.x 0,[.bool mc,.bool ma])]) Q:=
 Eq.mpr (by kernel_rfl) (h _ rfl)
def Ztq(mc ma:Bool)(p q:WEdit):Prop:=AW (Z1 Zkz) Try.f154 Zp2 [] (Zj (Zfz.can ((mc,ma,()),p,q,())) (Zfz.canX ((mc,ma,()),p,q,()))) (EQ Try.f154 (ZnS ((mc,ma,()),p,q,())) (Z6C ((mc,ma,()),p,q,())))
theorem Zs2(c66:CT 66 Z6p)(hb:∀ (mc:Bool) (ma:Bool) (p:WEdit) (q:WEdit) (_:Unit),ZeK ((mc,ma,()),p,q,())->Ztq mc ma p q):CT 154 Z9Y:=
 Yb (l:=[(66,Z6p)]) Zl rfl (⟨c66,trivial⟩) Zp2 Try.func154 rfl rfl 3 (fun _=> rfl) (by decide) (fun ⟨⟨mc,ma,_⟩,p,q,_⟩=> hb mc ma p q ())
def ZoQ:Zf U:=lvl [([0],[]),([0,5],[]),([2],[]),([2],[])]
abbrev ZzQ(p:List Nat):=AW (Z1 Zix) Try.f178 ZoQ p
theorem ZxC(l:List Tree)(Q:QT)(h:let z0:=((l.length:Int):Int)==0;((z0=true->(Q .ret (L2 [(2,.c (.nils))] [])))/\(z0=false->(Q .ret (L2 [(2,.c (sU .op ([(OpOf.mk 2 0 l (Edit.mk 0 (Tree.mk 0 [] []) (Tree.mk 0 [] []) [] [] 0 []))]) .full))] []))))):
  ZzQ [] (L2 [(0,.c (sU .tree l .unk))] []) Q:=
 Eq.mpr (by kernel_rfl) h
def Ztc(l:List Tree):Prop:=AW (Z1 Zix) Try.f178 ZoQ [] (Zj (Zlb.can (l,())) []) (EQ Try.f178 (Zek (l,())) [])
theorem ZrP(hb:∀ (l:List Tree) (_:Unit),ZeC (l,())->Ztc l):CT 178 Z6g:=
 Z3 (l:=[]) Zl rfl trivial ZoQ Try.func178 rfl rfl 1 (fun _=> rfl) (by decide) (fun ⟨l,_⟩=> hb l ())
def ZoO:Zf U:=lvl [([1,2],[1,2]),([1,2,5],[1,2]),([2],[2]),([2],[2])]
abbrev ZzO(p:List Nat):=AW (Z1 Zix) Try.f180 ZoO p
theorem ZxA(e:Edit)(Q:QT)(h:(((e.kind==0)=true->(Q .ret (L2 [pL 2] [(.loc 2,[ci 0,ci 1,.nils,ci 0,ci 0,.nils,.nils,ci 0,.nils,.nils,.nils,.nils,ci 0,.nils])])))/\((e.kind==0)=false->(Q .ret (L2 [pL 2] [(.loc 2,([ci 3,ci 0,.nils]++enc .edit e))]))))):
  ZzO [] (L2 [(0,.agg (enc .edit e))] []) Q:=
 Eq.mpr (by kernel_rfl) h
def Zta(e:Edit):Prop:=AW (Z1 Zix) Try.f180 ZoO [] (Zj (Zll.can (e,())) []) (EQ Try.f180 (Zej (e,())) [])
theorem ZrN(hb:∀ (e:Edit) (_:Unit),ZeB (e,())->Zta e):CT 180 Z9Q:=
 Z3 (l:=[]) Zl rfl trivial ZoO Try.func180 rfl rfl 1 (fun _=> rfl) (by decide) (fun ⟨e,_⟩=> hb e ())
def Zp9:Zf U:=lvl [([0,1],[0,1]),([0,1],[0,1])]
abbrev ZA6(p:List Nat):=AW (Z1 Zix) Try.f113 Zp9 p
theorem Zy3(Q:QT)(h:(Q .ret (L2 [pL 0,pL 1] [(.loc 0,zc1),(.loc 1,zc1)]))):
  ZA6 [] (L2 [] []) Q:=
 Eq.mpr (by kernel_rfl) h
def ZtD:Prop:=AW (Z1 Zix) Try.f113 Zp9 [] (Zj (Zlh.can ()) []) (EQ Try.f113 (ZhT ()) [])
theorem Zsd(hb:∀ (_:Unit),Z8e ()->ZtD):CT 113 Za0:=
 Z3 (l:=[]) Zl rfl trivial Zp9 Try.func113 rfl rfl 0 (fun _=> rfl) (by decide) (fun _=> hb ())
def Zkn:List (FuncId × Fs U):=[(26,Z3P)]
def ZoP:Zf U:=fun i=> match i with
 | 0=> ([(0,[]),(4,[]),(5,[])],[(.loc 4,[]),(.loc 5,[]),(.x 0,[]),(.x 1,[])])
 | 1=> ([(0,[]),(7,[])],[(.x 0,[]),(.x 1,[])])
 | 2=> ([(0,[]),(15,[])],[(.x 0,[]),(.x 1,[])])
 | 3=> ([(0,[])],[(.x 0,[]),(.x 1,[])])
 | 4=> ([],[(.x 0,[]),(.x 1,[])])
 | _=> ([],[])
abbrev ZzP(p:List Nat):=AW (Z1 Zkn) Try.f179 ZoP p
theorem ZxB(sm_:Unit)(sx sy:List Op)(si sh:List Tree)(e:Edit)(t:Tree)(mc ma:Bool)(Q:QT)(h:let z1:=Tree.mk t.kind t.words t.kids;let z0:=Edit.mk e.kind (Tree.mk e.old.kind e.old.words e.old.kids) (Tree.mk e.new.kind e.new.words e.new.kids) e.words e.kids e.list e.ops;((Z2B (z0,z1,()))/\(((!((doE false z0 z1).isSome))=true->(Q .normal (L2 [] [(.x 0,[.xp 1,sU .op sx (.own (.x 0 1)),sU .op sy (.own (.x 0 2)),sU .tree si (.own (.x 0 3)),sU .tree sh (.own (.x 0 4))]),(.x 1,[.bool true,.bool true])])))/\((!((doE false z0 z1).isSome))=false->(Q .normal (L2 [] [(.x 0,[.xp 1,sU .op sx (.own (.x 0 1)),sU .op sy (.own (.x 0 2)),sU .tree si (.own (.x 0 3)),sU .tree sh (.own (.x 0 4))]),(.x 1,[.bool true,.bool ma])])))))):
  ZzP [] (L2 [(0,.ptr (.x 0) 0),(1,.agg (enc .edit e)),(2,.agg (enc .tree t))] [(.x 0,[.xp 1,sU .op sx (.own (.x 0 1)),sU .op sy (.own (.x 0 2)),sU .tree si (.own (.x 0 3)),sU .tree sh (.own (.x 0 4))]),(.x 1,[.bool mc,.bool ma])]) Q:=
 Eq.mpr (by kernel_rfl) h
def Ztb(sm_:Unit)(sx sy:List Op)(si sh:List Tree)(e:Edit)(t:Tree)(mc ma:Bool):Prop:=AW (Z1 Zkn) Try.f179 ZoP [] (Zj (Zfw.can ((sm_,sx,sy,si,sh,()),e,t,(mc,ma,()),())) (Zfw.canX ((sm_,sx,sy,si,sh,()),e,t,(mc,ma,()),()))) (EQ Try.f179 (ZnP ((sm_,sx,sy,si,sh,()),e,t,(mc,ma,()),())) (Za2 ((sm_,sx,sy,si,sh,()),e,t,(mc,ma,()),())))
theorem ZrO(c26:CT 26 Z3P)(hb:∀ (sm_:Unit) (sx:List Op) (sy:List Op) (si:List Tree) (sh:List Tree) (e:Edit) (t:Tree) (mc:Bool) (ma:Bool) (_:Unit),Zbt ((sm_,sx,sy,si,sh,()),e,t,(mc,ma,()),())->Ztb sm_ sx sy si sh e t mc ma):CT 179 Z9R:=
 Yb (l:=[(26,Z3P)]) Zl rfl (⟨c26,trivial⟩) ZoP Try.func179 rfl rfl 3 (fun _=> rfl) (by decide) (fun ⟨⟨sm_,sx,sy,si,sh,_⟩,e,t,⟨mc,ma,_⟩,_⟩=> hb sm_ sx sy si sh e t mc ma ())
end
theorem Zwd:Contract Try.prog cfg 155 Z9X:=by
 refine Zs1 c66 ?_
 intro w m _ hp
 simp only [Zbx] at hp
 obtain ⟨hw,hm0,hm1⟩:=hp
 refine ZxP _ _ _ ?_
 intros;(simp only [vcT,vcS])
 have rm:=(ZfD ⟨hm0,hm1⟩ hw.1.2.1).1
 refine ⟨⟨⟨by omega,by omega⟩,hw.1.2.2.1,rm⟩,⟨⟨by omega,by omega⟩,hw.1.2.2.2,rm⟩,?_⟩
 have e:(IntKind.u8.wrap (BitVec.ofInt (IntKind.bits .u8) m &&& BitVec.ofInt (IntKind.bits .u8) w.mask).toNat !=0)=decide (Z1T m w.mask≠0):=by
  show (Z1T m w.mask !=0)=_
  by_cases h:Z1T m w.mask=0 <;> simp [h]
 rw [e]
 simp only [ZhR,Zdx]
 (repeat' (first | exact trivial | exact rfl | apply And.intro))
theorem Zwe:Contract Try.prog cfg 154 Z9Y:=by
 refine Zs2 c66 ?_
 intro mc ma p q _ hp
 simp only [ZeK] at hp
 obtain ⟨hp,hq⟩:=hp
 refine ZxQ _ _ _ _ _ ?_
 intro y1 hy1
 have e:IntKind.wrap .u8 y1.toNat=Z1T p.mask q.mask:=by rw [hy1];try rfl
 (simp only [vcT,vcS])
 rw [e]
 have rm:=(ZfD hp.1.2.1 hq.1.2.1).1
 have r0:(0:Int)<=0/\(0:Int) < 18446744073709551616:=⟨by omega,by omega⟩
 refine ⟨⟨r0,hp.1.2.2.1,rm⟩,⟨r0,hq.1.2.2.1,rm⟩,fun h=> ?_,fun h=> ⟨⟨r0,hp.1.2.2.2,rm⟩,⟨r0,hq.1.2.2.2,rm⟩,fun h2=> ?_,fun h2=> ?_⟩⟩
 ·have a1:Yz p q=true:=by simp [Yz,h]
  simp only [Z6C,a1,Xi,XR,Qs,Xg]
  (repeat' (first | exact trivial | exact rfl | apply And.intro))
 ·have a1:Yz p q=false:=by simp [Yz,h]
  have a2:Z06 p q=true:=by simp [Z06,h2]
  simp only [Z6C,a1,a2,Xv,QB,Qs,Xg]
  (repeat' (first | exact trivial | exact rfl | apply And.intro))
 ·have a1:Yz p q=false:=by simp [Yz,h]
  have a2:Z06 p q=false:=by simp [Z06,h2]
  simp only [Z6C,a1,a2,Xv,QB,Qs]
  (repeat' (first | exact trivial | exact rfl | apply And.intro))
theorem Zw4:Contract Try.prog cfg 178 Z6g:=by
 refine ZrP ?_
 intro l _ hp
 refine ZxC _ _ ?_
 (simp only [vcT,vcS])
 refine ⟨fun h=> ?_,fun h=> ?_⟩
 ·have:l=[]:=QK.1 (by omega)
  simp only [Zek,Z2O,if_pos this]
  (repeat' (first | exact trivial | exact rfl | apply And.intro))
 ·have:l≠[]:=fun e=> h (by rw [e];rfl)
  simp only [Zek,Z2O,if_neg this]
  (repeat' (first | exact trivial | exact rfl | apply And.intro))
theorem Zw2:Contract Try.prog cfg 180 Z9Q:=by
 refine ZrN ?_
 intro e _ hp
 refine ZxA _ _ ?_
 (simp only [vcT,vcS])
 refine ⟨fun h=> ?_,fun h=> ?_⟩
 ·simp only [Zej,Z3M,if_pos h]
  (repeat' (first | exact trivial | exact rfl | apply And.intro))
 ·simp only [Zej,Z3M,if_neg h]
  (repeat' (first | exact trivial | exact rfl | apply And.intro))
theorem Zwl:Contract Try.prog cfg 113 Za0:=by
 refine Zsd ?_
 intro _ hp
 refine Zy3 _ ?_
 simp only [ZhT]
 (repeat' (first | exact trivial | exact rfl | apply And.intro))
theorem Zw3:Contract Try.prog cfg 179 Z9R:=by
 refine ZrO c26 ?_
 intro sm_ sx sy si sh e t mc ma _ hp
 simp only [Zbt] at hp
 refine ZxB sm_ _ _ _ _ _ _ _ _ _ ?_
 (simp only [vcT,vcS])
 simp only [Tree.eta,Edit.eta]
 refine ⟨hp,fun h=> ?_,fun h=> ?_⟩
 ·simp only [Za2,h,Xv,Xg]
  (repeat' (first | exact trivial | exact rfl | apply And.intro))
 ·simp only [Za2,h,Xi,Qs]
  (repeat' (first | exact trivial | exact rfl | apply And.intro))
end Go.AM.Ytpjenobkibfpcaa
