import Derived.Test.YtpjenobkibfpcaaCD30b
import Derived.Test.YtpjenobkibfpcaaKG21b
import Derived.Test.YtpjenobkibfpcaaKD24
import Derived.Test.YtpjenobkibfpcaaKL23r
set_option linter.unusedSimpArgs false
set_option linter.unusedVariables false
namespace Go.AM.Ytpjenobkibfpcaa
open Go.AM Go.Proofs
structure POk2 (p q:List Op) (x:Piece):Prop where
 of:x.of=0\/x.of=1\/x.of=2
 pp:x.of≠2->Part p x.p/\ZO x.p
 qq:x.of≠1->Part q x.q/\ZO x.q
 one:x.of=1->x.p.kind=2
 two:x.of=2->x.q.kind=2
 both:x.of=0->x.p.kind≠2/\x.q.kind≠2/\Z1 x.p=Z1 x.q
 pn:x.of=2->x.p=Op.nil
 qn:x.of=1->x.q=Op.nil
theorem POk2.mono{p q p' q':List Op}{x:Piece}(h:POk2 p q x)(hp:∀ x∈p,Part p' x)(hq:∀ x∈q,Part q' x):POk2 p' q' x:=
 ⟨h.of,fun e=> ⟨(h.pp e).1.mono hp,(h.pp e).2⟩,fun e=> ⟨(h.qq e).1.mono hq,(h.qq e).2⟩,h.one,h.two,h.both,h.pn,h.qn⟩
theorem Zce:∀ (k:Nat) (p q:List Op) (out:List Piece),p.length+q.length<=k->(∀ o∈p,ZO o)->(∀ o∈q,ZO o)->
  ((ZG 2 2 p q out).2.1=true->∃ ps,(ZG 2 2 p q out).1=out++ps/\(∀ x∈ps,POk2 p q x)/\(∀ s m,Run p s m↔Run (Z4N ps) s m)/\∀ s m,Run q s m↔Run (Z4M ps) s m)/\
  ((ZG 2 2 p q out).2.1=false->∀ s u v,Run p s u->Run q s v->False):=by
 intro k
 induction k with
 | zero=>
  intro p q out hk hp hq
  have e1:p=[]:=Q3 (by omega)
  have e2:q=[]:=Q3 (by omega)
  subst e1 e2
  have e:ZG 2 2 [] [] out=(out,true,[],[]):=by
   rw [ZG,dif_neg (by simp [sgl]),dif_neg (by simp [sgl]),dif_pos (by simp)]
   try rfl
  rw [e]
  exact ⟨fun _=> ⟨[],by simp,fun x hx=> (by cases hx),fun s m=> XE,fun s m=> XE⟩,fun h=> by cases h⟩
 | succ k ih=>
  intro p q out hk hp hq
  rw [ZG]
  by_cases h1:sgl 2 p=true
  ·rw [dif_pos h1]
   obtain ⟨g1,g2⟩:=Yq.1 h1
   cases p with
   | nil=> exact absurd rfl g1
   | cons a p'=>
    simp only [Qg] at g2
    simp only [Qg,Qu,QD]
    have ha:=hp a Q5
    obtain ⟨i1,i2⟩:=ih p' q (out++[⟨1,a,Op.nil⟩]) (by simp only [Q9] at hk;omega) (fun o ho=> hp o (Q4 _ ho)) hq
    refine ⟨fun h=> ?_,fun h s u v r1 r2=> ?_⟩
    ·obtain ⟨ps,e,hps,hP,hQ⟩:=i1 h
     refine ⟨⟨1,a,Op.nil⟩ ::ps,by rw [e,Qe];rfl,fun x hx=> ?_,fun s m=> ?_,fun s m=> hQ s m⟩
     ·rcases Qc.1 hx with rfl | hx
      ·exact ⟨.inr (.inl rfl),fun _=> ⟨Part.self Q5,ha⟩,fun e=> absurd rfl e,fun _=> g2,fun e=> (by cases e),fun e=> (by cases e),fun e=> (by cases e),fun _=> rfl⟩
      ·exact (hps x hx).mono (fun x hx=> Part.self (Q4 _ hx)) (fun x hx=> Part.self hx)
     ·show _↔Run (a ::Z4N ps) s m
      exact Z42 hP (JS ha) s m
    ·obtain ⟨d',_,hr⟩:=(Z0n g2).1 r1
     exact i2 h s d' v hr r2
  ·rw [dif_neg h1]
   by_cases h2:sgl 2 q=true
   ·rw [dif_pos h2]
    obtain ⟨g1,g2⟩:=Yq.1 h2
    cases q with
    | nil=> exact absurd rfl g1
    | cons a q'=>
     simp only [Qg] at g2
     simp only [Qg,Qu,QD]
     have ha:=hq a Q5
     obtain ⟨i1,i2⟩:=ih p q' (out++[⟨2,Op.nil,a⟩]) (by simp only [Q9] at hk;omega) hp (fun o ho=> hq o (Q4 _ ho))
     refine ⟨fun h=> ?_,fun h s u v r1 r2=> ?_⟩
     ·obtain ⟨ps,e,hps,hP,hQ⟩:=i1 h
      refine ⟨⟨2,Op.nil,a⟩ ::ps,by rw [e,Qe];rfl,fun x hx=> ?_,fun s m=> hP s m,fun s m=> ?_⟩
      ·rcases Qc.1 hx with rfl | hx
       ·exact ⟨.inr (.inr rfl),fun e=> absurd rfl e,fun _=> ⟨Part.self Q5,ha⟩,fun e=> (by cases e),fun _=> g2,fun e=> (by cases e),fun _=> rfl,fun e=> (by cases e)⟩
       ·exact (hps x hx).mono (fun x hx=> Part.self hx) (fun x hx=> Part.self (Q4 _ hx))
      ·show _↔Run (a ::Z4M ps) s m
       exact Z42 hQ (JS ha) s m
     ·obtain ⟨d',_,hr⟩:=(Z0n g2).1 r2
      exact i2 h s u d' r1 hr
   ·rw [dif_neg h2]
    by_cases h3:p.length=0\/q.length=0
    ·rw [dif_pos h3]
     by_cases h4:p.length=0
     ·have e1:p=[]:=Q3 h4
      subst e1
      by_cases h5:q.length=0
      ·have e2:q=[]:=Q3 h5
       subst e2
       rw [if_pos rfl]
       exact ⟨fun _=> ⟨[],by simp,fun x hx=> (by cases hx),fun s m=> XE,fun m d=> XE⟩,fun h=> by cases h⟩
      ·rw [if_neg (by rw [decide_eq_false h5];decide)]
       refine ⟨fun h=> (by cases h),fun _ s u v r1 r2=> ?_⟩
       cases q with
       | nil=> exact h5 rfl
       | cons a q'=>
        have ha:=hq a Q5
        obtain ⟨rfl,_⟩:=ZhZ r1
        obtain ⟨m1,m',d',e,hl,_⟩:=Zd2 ha (fun e=> h2 (Yq.2 ⟨by simp,by simpa using e⟩)) r2
        have:=Zw ha
        have e:=congrArg List.length e
        simp at e
        omega
     ·have h5:q.length=0:=by omega
      have e2:q=[]:=Q3 h5
      subst e2
      rw [if_neg (by rw [decide_eq_false h4];decide)]
      refine ⟨fun h=> (by cases h),fun _ s u v r1 r2=> ?_⟩
      cases p with
      | nil=> exact h4 rfl
      | cons a p'=>
       have ha:=hp a Q5
       obtain ⟨rfl,_⟩:=ZhZ r2
       obtain ⟨m1,m',d',e,hl,_⟩:=Zd2 ha (fun e=> h1 (Yq.2 ⟨by simp,by simpa using e⟩)) r1
       have:=Zw ha
       have e:=congrArg List.length e
       simp at e
       omega
    ·rw [dif_neg h3]
     cases p with
     | nil=> simp at h3
     | cons a p'=>
      cases q with
      | nil=> simp at h3
      | cons b q'=>
       have ha:=hp a Q5
       have hb:=hq b Q5
       have ka:a.kind≠2:=fun e=> h1 (Yq.2 ⟨by simp,by simpa using e⟩)
       have kb:b.kind≠2:=fun e=> h2 (Yq.2 ⟨by simp,by simpa using e⟩)
       have la:=Zw ha
       have lb:=Zw hb
       simp only [Qg]
       generalize hn:min (Z1 a) (Z1 b)=n
       have hn1:1<=n:=by omega
       have hna:n<=Z1 a:=by omega
       have hnb:n<=Z1 b:=by omega
       obtain ⟨a1,a2,a3,a4,a5,a6⟩:=Z5u hp hn1 hna
       obtain ⟨b1,b2,b3,b4,b5,b6⟩:=Z5u hq hn1 hnb
       have hlt:(Zu (a ::p') n).length+(Zu (b ::q') n).length<=k:=by
        have x1:=ZY (a ::p') n (by simp)
        have x2:=ZY (b ::q') n (by simp)
        simp only [Q9] at hk x1 x2
        rcases Int.le_total (Z1 a) (Z1 b) with h | h
        ·have:=ZX (a ::p') n (by simp) (by simp only [Qg];omega)
         simp only [Q9] at this
         omega
        ·have:=ZX (b ::q') n (by simp) (by simp only [Qg];omega)
         simp only [Q9] at this
         omega
       obtain ⟨i1,i2⟩:=ih (Zu (a ::p') n) (Zu (b ::q') n) (out++[⟨0,Zp a n,Zp b n⟩]) hlt (fun o ho=> (a5 o ho).1) (fun o ho=> (b5 o ho).1)
       refine ⟨fun h=> ?_,fun h s u v r1 r2=> ?_⟩
       ·obtain ⟨ps,e,hps,hP,hQ⟩:=i1 h
        refine ⟨⟨0,Zp a n,Zp b n⟩ ::ps,by rw [e,Qe];rfl,fun x hx=> ?_,fun s m=> ?_,fun s m=> ?_⟩
        ·rcases Qc.1 hx with rfl | hx
         ·exact ⟨.inl rfl,fun _=> ⟨a4,a1⟩,fun _=> ⟨b4,b1⟩,fun e=> (by cases e),fun e=> (by cases e),fun _=> ⟨by dsimp only;omega,by dsimp only;omega,by dsimp only;omega⟩,fun e=> (by cases e),fun e=> (by cases e)⟩
         ·exact (hps x hx).mono (fun x hx=> (a5 x hx).2) (fun x hx=> (b5 x hx).2)
        ·rw [a6 s m]
         exact Z42 hP (JS a1) s m
        ·rw [b6 s m]
         exact Z42 hQ (JS b1) s m
       ·rw [a6] at r1
        rw [b6] at r2
        obtain ⟨m1,s1,d1,e,hl,r3⟩:=Zd2 a1 (by omega) r1
        obtain ⟨m2,s2,d2,e',hl',r4⟩:=Zd2 b1 (by omega) r2
        obtain ⟨_,e2⟩:=List.append_inj (e.symm.trans e') (by omega)
        subst e2
        exact i2 h s1 d1 d2 r3 r4
theorem Z5l{α:Type}(at_:α->Int)(n:Int):∀ (l:List α) (o:Option α),l.foldl (fun o b=> if at_ b=n then some b else o) o=match Z3K at_ l n with
  | some b=> some b
  | none=> o
 | [],o=> rfl
 | a ::r,o=> by
  unfold Z3K
  simp only [K2]
  rw [Z5l at_ n r,Z5l at_ n r (if at_ a=n then some a else none)]
  cases Z3K at_ r n with
  | some b=> rfl
  | none=> simp only;split <;> rfl
theorem Z7H{α:Type}(at_:α->Int)(n:Int):∀ (l:List α) (b:α),Z3K at_ l n=some b->b∈l/\at_ b=n
 | [],b,h=> by cases h
 | a ::r,b,h=> by
  unfold Z3K at h
  rw [K2,Z5l] at h
  cases hr:Z3K at_ r n with
  | some c=>
   rw [hr] at h;cases h
   obtain ⟨h1,h2⟩:=Z7H at_ n r b hr
   exact ⟨Q4 _ h1,h2⟩
  | none=>
   rw [hr] at h
   simp only at h
   split at h
   ·rename_i ha
    cases h;exact ⟨Q5,ha⟩
   ·cases h
theorem Z2V{α:Type}{at_:α->Int}{f g:α->α->α}{q:List α}{a:α}(h:∀ b∈q,f a b=g a b):Jj at_ f q a=Jj at_ g q a:=by
 unfold Jj
 cases hb:Z3K at_ q (at_ a) with
 | none=> rfl
 | some b=> exact h b (Z7H at_ _ q b hb).1
theorem Zbw{α:Type}{at_:α->Int}{f g:α->α->Bool}{p q:List α}(h:∀ a∈p,∀ b∈q,f a b=g a b):Z02 at_ f p q=Z02 at_ g p q:=by
 unfold Z02
 rw [Qx]
 simp only [Xs,Q1,decide_eq_true_eq]
 constructor
 ·rintro ⟨a,ha,b,hb,h1,h2⟩;exact ⟨a,ha,b,hb,h1,by rw [<-h a ha b hb];exact h2⟩
 ·rintro ⟨a,ha,b,hb,h1,h2⟩;exact ⟨a,ha,b,hb,h1,by rw [h a ha b hb];exact h2⟩
theorem ZkY{p q:List Op}{x:Piece}(hx:POk2 p q x)(h0:x.of=0)(kp:x.p.kind=3)(kq:x.q.kind=3):∃ a∈p,∃ b∈q,a.kind=3/\b.kind=3/\x.p.e=a.e/\x.q.e=b.e:=by
 obtain ⟨⟨a,ma,ka,ea,_⟩,_⟩:=hx.pp (by omega)
 obtain ⟨⟨b,mb,kb,eb,_⟩,_⟩:=hx.qq (by omega)
 exact ⟨a,ma,b,mb,by omega,by omega,ea,eb⟩
theorem ZdF{f g:Edit->Edit->Lft}{p q:Op}(h:p.kind=3->q.kind=3->f p.e q.e=g p.e q.e)(hp:kOk p)(hq:kOk q)(p2:p.kind≠2)(q2:q.kind≠2):Zz f p q=Zz g p q:=by
 unfold Zz
 by_cases h1:p.kind=0/\q.kind=1
 ·rw [if_pos h1,if_pos h1]
 by_cases h2:p.kind=1/\q.kind=0
 ·rw [if_neg h1,if_neg h1,if_pos h2,if_pos h2]
 by_cases h3:p.kind=0
 ·rw [if_neg h1,if_neg h1,if_neg h2,if_neg h2,if_pos h3,if_pos h3]
 by_cases h4:q.kind=0
 ·rw [if_neg h1,if_neg h1,if_neg h2,if_neg h2,if_neg h3,if_neg h3,if_pos h4,if_pos h4]
 rw [if_neg h1,if_neg h1,if_neg h2,if_neg h2,if_neg h3,if_neg h3,if_neg h4,if_neg h4]
 by_cases h5:p.kind=1/\q.kind=1
 ·rw [if_pos h5,if_pos h5]
 by_cases h6:p.kind=1
 ·rw [if_neg h5,if_neg h5,if_pos h6,if_pos h6]
 by_cases h7:q.kind=1
 ·rw [if_neg h5,if_neg h5,if_neg h6,if_neg h6,if_pos h7,if_pos h7]
 have kp:p.kind=3:=by unfold kOk at hp;omega
 have kq:q.kind=3:=by unfold kOk at hq;omega
 rw [h kp kq]
theorem ZaM{f g:Edit->Edit->Lft}{p q:List Op}(h:∀ a∈p,∀ b∈q,a.kind=3->b.kind=3->f a.e b.e=g a.e b.e):∀ {ps:List Piece},(∀ x∈ps,POk2 p q x)->∀ m n,Z0a f ps m n=Z0a g ps m n
 | [],_,_,_=> rfl
 | x ::r,hps,m,n=> by
  have ih:=fun m n=> ZaM h (fun y hy=> hps y (Q4 _ hy)) (ps:=r) m n
  have hx:=hps x Q5
  simp only [Z0a,ih]
  by_cases h1:x.of=1
  ·rw [if_pos h1,if_pos h1]
  by_cases h2:x.of=2
  ·rw [if_neg h1,if_neg h1,if_pos h2,if_pos h2]
  have h0:x.of=0:=by rcases hx.of with h | h | h <;> omega
  obtain ⟨b1,b2,_⟩:=hx.both h0
  rw [if_neg h1,if_neg h1,if_neg h2,if_neg h2,ZdF (f:=f) (g:=g) (fun kp kq=> ?_) (JS (hx.pp h2).2) (JS (hx.qq h1).2) b1 b2]
  obtain ⟨a,ma,b,mb,ka,kb,ea,eb⟩:=ZkY hx h0 kp kq
  rw [ea,eb]
  exact h a ma b mb ka kb
theorem Z6l {f g:Edit->Edit->Lft} {p q:Edit} {d d':Int} (hp:Z6 p d=true) (hq:Z6 q d'=true)
  (h:∀ a b,Z5 a+Z5 b < Z5 p+Z5 q->(∃ d,Z6 a d=true)->(∃ d,Z6 b d=true)->f a b=g a b):Ya f p q=Ya g p q:=by
 have rp:=Zr hp
 have rq:=Zr hq
 have hk:∀ a∈p.kids,∀ b∈q.kids,f a.e b.e=g a.e b.e:=by
  intro a ha b hb
  have:=Yo ha
  have:=Yo hb
  exact h _ _ (by omega) ⟨_,(ZD rp.kids a ha).2⟩ ⟨_,(ZD rq.kids b hb).2⟩
 have hs:Z3b f p q=Z3b g p q:=by
  unfold Z3b
  rw [Zbw (at_:=KidOf.at_) (f:=fun a b:Kid=> (f a.e b.e).c) (g:=fun a b=> (g a.e b.e).c) fun a ha b hb=> by rw [hk a ha b hb],
   Zbw (at_:=KidOf.at_) (f:=fun a b:Kid=> (f a.e b.e).a) (g:=fun a b=> (g a.e b.e).a) fun a ha b hb=> by rw [hk a ha b hb],
   Xj (f:=Jj KidOf.at_ (fun a b:Kid=> ⟨a.at_,(f a.e b.e).x⟩) q.kids) (g:=Jj KidOf.at_ (fun a b:Kid=> ⟨a.at_,(g a.e b.e).x⟩) q.kids) fun a ha=> Z2V fun b hb=> by rw [hk a ha b hb],
   Xj (f:=Jj KidOf.at_ (fun b a:Kid=> ⟨b.at_,(f a.e b.e).y⟩) p.kids) (g:=Jj KidOf.at_ (fun b a:Kid=> ⟨b.at_,(g a.e b.e).y⟩) p.kids) fun b hb=> Z2V fun a ha=> by rw [hk a ha b hb]]
 have ho:Z35 f p q=Z35 g p q:=by
  unfold Z35
  obtain ⟨i1,_⟩:=Zce _ p.ops q.ops [] (Qd _) (J6 hp) (J6 hq)
  by_cases hb:(ZG 2 2 p.ops q.ops []).2.1=true
  ·rw [if_pos hb,if_pos hb]
   obtain ⟨ps,e,hps,_,_⟩:=i1 hb
   rw [e,QH,ZaM (f:=f) (g:=g) (fun a ha b hb ka kb=> ?_) hps]
   have:=Jd ha
   have:=Jd hb
   exact h _ _ (by omega) ⟨_,J3 (rightOs_mem rp.ops ha) ka⟩ ⟨_,J3 (rightOs_mem rq.ops hb) kb⟩
  ·rw [if_neg hb,if_neg hb]
 unfold Ya
 rw [hs,ho]
theorem ZfL:∀ (n m:Nat) (p q:Edit) (d d':Int),Z6 p d=true->Z6 q d'=true->Z5 p+Z5 q<=n->n<=m->lbF m p q=lbF n p q:=by
 intro n
 induction n with
 | zero=> intro m p q d d' _ _ h;obtain ⟨k,o,nw,w,ks,l,os⟩:=p;simp only [Z5] at h;omega
 | succ n ih=>
  intro m p q d d' hp hq h hm
  obtain ⟨m,rfl⟩:∃ k,m=k+1:=⟨m - 1,by omega⟩
  show Ya (lbF m) p q=Ya (lbF n) p q
  exact Z6l hp hq fun a b hab ⟨d1,h1⟩ ⟨d2,h2⟩=> ih m a b d1 d2 h1 h2 (by omega) (by omega)
theorem ZfN{p q:Edit}{d d':Int}(hp:Z6 p d=true)(hq:Z6 q d'=true):lbE p q=Ya lbE p q:=by
 have e:lbE p q=lbF (Z5 p+Z5 q+1) p q:=(ZfL _ _ p q d d' hp hq (Qd _) (by omega)).symm
 rw [e]
 show Ya (lbF (Z5 p+Z5 q)) p q=Ya lbE p q
 exact Z6l hp hq fun a b hab ⟨d1,h1⟩ ⟨d2,h2⟩=> ZfL _ _ a b d1 d2 h1 h2 (Qd _) (by omega)
section
variable {α:Type} {at_:α->Int}
theorem Zb6{β:Type}{F G:Nat->α->β}{l:List α}{i:Nat}{v:β}(hF:∀ k a,k≠i->l[k]?=some a->F k a=G k a)(hv:∀ a,l[i]?=some a->G i a=v):(l.mapIdx F).set i v=l.mapIdx G:=by
 apply Xw
 intro k
 rw [XP,Xd,Xd,K8]
 by_cases h:i=k
 ·subst h
  rw [if_pos rfl]
  cases hk:l[i]? with
  | none=> rw [if_neg];rfl;have:=List.getElem?_eq_none_iff.1 hk;omega
  | some a=> rw [if_pos (Q2.1 hk).1,Q8,hv a hk]
 ·rw [if_neg h]
  cases hk:l[k]? with
  | none=> rfl
  | some a=> rw [Q8,Q8,hF k a (fun e=> h e.symm) hk]
theorem YK{β:Type}{F G:Nat->α->β}{l:List α}(hF:∀ k a,l[k]?=some a->F k a=G k a):l.mapIdx F=l.mapIdx G:=by
 apply Xw
 intro k
 rw [Xd,Xd]
 cases hk:l[k]? with
 | none=> rfl
 | some a=> rw [Q8,Q8,hF k a hk]
theorem Z2O{β:Type}(F:α->β)(l:List α):l.mapIdx (fun _ a=> F a)=l.map F:=by
 apply Xw
 intro k
 rw [Xd,Qh]
def ZqP(at_:α->Int)(f:α->α->α)(p q:List α)(i j:Nat):List α:=p.mapIdx fun k a=> if k < i then Jj at_ f q a else if k=i then Jj at_ f (q.take j) a else a
def ZqO(at_:α->Int)(f:α->α->α)(p q:List α)(i j:Nat):List α:=q.mapIdx fun k b=> Jj at_ f (p.take (if k < j then i+1 else i)) b
def Z8Z(at_:α->Int)(g:α->α->Bool)(p q:List α)(i j:Nat):Bool:=Z02 at_ g (p.take i) q || Z02 at_ g ((p.drop i).take 1) (q.take j)
theorem Z4A(f:α->α->α)(q:List α)(b a:α):Jj at_ f (q++[b]) a=if at_ b=at_ a then f a b else Jj at_ f q a:=by
 unfold Jj Z3K
 rw [List.foldl_append]
 simp only [K2,List.foldl_nil]
 by_cases h:at_ b=at_ a
 ·rw [if_pos h,if_pos h]
 ·rw [if_neg h,if_neg h]
theorem Z9w{f:α->α->α}(hf:∀ a b,at_ (f a b)=at_ a)(q:List α)(a:α):at_ (Jj at_ f q a)=at_ a:=by
 unfold Jj
 cases Z3K at_ q (at_ a) with
 | none=> rfl
 | some b=> exact hf a b
theorem getD_some{l:List α}{i:Nat}{a:α}(h:l[i]?=some a)(z:α):l.getD i z=a:=by rw [Qm,h];try rfl
structure SInv (at_:α->Int) (f fy:α->α->α) (gc ga:α->α->Bool) (mc ma:Bool) (p q:List α) (i j:Nat) (c a:Bool) (X Y:List α):Prop where
 ec:c=(mc || Z8Z at_ gc p q i j)
 ea:a=(ma || Z8Z at_ ga p q i j)
 eX:X=ZqP at_ f p q i j
 eY:Y=ZqO at_ fy p q i j
variable {f fy:α->α->α} {gc ga:α->α->Bool} {mc ma:Bool} {p q:List α} {i j:Nat} {c a:Bool} {X Y:List α}
theorem SInv.lx(h:SInv at_ f fy gc ga mc ma p q i j c a X Y):X.length=p.length:=by rw [h.eX];exact K8
theorem SInv.ly(h:SInv at_ f fy gc ga mc ma p q i j c a X Y):Y.length=q.length:=by rw [h.eY];exact K8
theorem SInv.init:SInv at_ f fy gc ga mc ma p q 0 0 mc ma p q:=by
 refine ⟨?_,?_,?_,?_⟩
 ·cases p <;> simp [Z8Z,Z02]
 ·cases p <;> simp [Z8Z,Z02]
 ·unfold ZqP
  rw [YK (G:=fun _ a=> id a) fun k a hk=> ?_,Z2O,List.map_id]
  ·rw [if_neg (by omega)];split <;> rfl
 ·unfold ZqO
  rw [YK (G:=fun _ a=> id a) fun k a hk=> ?_,Z2O,List.map_id]
  ·rw [if_neg (by omega)];try rfl
theorem ZoE(g:α->α->Bool)(p:List α)(q:List α)(b:α):Z02 at_ g p (q++[b])=(Z02 at_ g p q || Z02 at_ g p [b]):=by
 rw [Qx]
 simp only [Z02,Xs,XI,Qf,Qi,Q1,decide_eq_true_eq]
 constructor
 ·rintro ⟨a,ha,x,hx | hx,h⟩
  ·exact .inl ⟨a,ha,x,hx,h⟩
  ·exact .inr ⟨a,ha,x,hx,h⟩
 ·rintro (⟨a,ha,x,hx,h⟩ | ⟨a,ha,x,hx,h⟩)
  ·exact ⟨a,ha,x,.inl hx,h⟩
  ·exact ⟨a,ha,x,.inr hx,h⟩
theorem ZqT(g:α->α->Bool)(p p' q:List α):Z02 at_ g (p++p') q=(Z02 at_ g p q || Z02 at_ g p' q):=by unfold Z02;rw [List.any_append]
theorem Z9S{l:List α}{i:Nat}(h:i < l.length):(l.drop i).take 1=[l[i]]:=by rw [QI h];try rfl
theorem Z4D(g:α->α->Bool){p q:List α}{i j:Nat}(hi:i < p.length)(hj:j < q.length):Z8Z at_ g p q i (j+1)=(Z8Z at_ g p q i j || decide (at_ p[i]=at_ q[j]) && g p[i] q[j]):=by
 unfold Z8Z
 rw [QP hj,ZoE,Z9S hi,<-Xu]
 congr 1
 simp [Z02]
theorem SInv.step(h:SInv at_ f fy gc ga mc ma p q i j c a X Y)(hi:i < p.length)(hj:j < q.length)(z:α):
  (at_ (p.getD i z)=at_ (q.getD j z)->SInv at_ f fy gc ga mc ma p q i (j+1) (c || gc (p.getD i z) (q.getD j z)) (a || ga (p.getD i z) (q.getD j z)) (X.set i (f (p.getD i z) (q.getD j z))) (Y.set j (fy (q.getD j z) (p.getD i z))))/\
  (¬at_ (p.getD i z)=at_ (q.getD j z)->SInv at_ f fy gc ga mc ma p q i (j+1) c a X Y):=by
 have ep:p.getD i z=p[i]:=getD_some (Q0 hi) z
 have eq:q.getD j z=q[j]:=getD_some (Q0 hj) z
 rw [ep,eq]
 obtain ⟨ec,ea,eX,eY⟩:=h
 have tp:p.take (i+1)=p.take i++[p[i]]:=QP hi
 have tq:q.take (j+1)=q.take j++[q[j]]:=QP hj
 refine ⟨fun e=> ⟨?_,?_,?_,?_⟩,fun e=> ⟨?_,?_,?_,?_⟩⟩
 ·rw [Z4D gc hi hj,ec,decide_eq_true e,Qz,Xu]
 ·rw [Z4D ga hi hj,ea,decide_eq_true e,Qz,Xu]
 ·rw [eX]
  refine Zb6 (fun k b hk _=> ?_) fun b hb=> ?_
  ·by_cases h:k < i
   ·rw [if_pos h,if_pos h]
   ·rw [if_neg h,if_neg h,if_neg hk,if_neg hk]
  ·rw [Q0 hi] at hb
   cases hb
   rw [if_neg (by omega),if_pos rfl,tq,Z4A,if_pos e.symm]
 ·rw [eY]
  refine Zb6 (fun k b hk _=> ?_) fun b hb=> ?_
  ·by_cases h:k < j
   ·rw [if_pos h,if_pos (by omega)]
   ·rw [if_neg h,if_neg (by omega)]
  ·rw [Q0 hj] at hb
   cases hb
   rw [if_pos (by omega),tp,Z4A,if_pos e]
 ·rw [Z4D gc hi hj,ec,decide_eq_false e,XN,Qp]
 ·rw [Z4D ga hi hj,ea,decide_eq_false e,XN,Qp]
 ·rw [eX]
  refine YK fun k b hb=> ?_
  by_cases h:k=i
  ·subst h
   rw [Q0 hi] at hb
   cases hb
   rw [if_neg (by omega),if_pos rfl,if_neg (by omega),if_pos rfl,tq,Z4A,if_neg (fun x=> e x.symm)]
  ·by_cases h2:k < i
   ·rw [if_pos h2,if_pos h2]
   ·rw [if_neg h2,if_neg h2,if_neg h,if_neg h]
 ·rw [eY]
  refine YK fun k b hb=> ?_
  by_cases h:k=j
  ·subst h
   rw [Q0 hj] at hb
   cases hb
   rw [if_neg (by omega),if_pos (by omega),tp,Z4A,if_neg e]
  ·by_cases h2:k < j
   ·rw [if_pos h2,if_pos (by omega)]
   ·rw [if_neg h2,if_neg (by omega)]
theorem SInv.next(h:SInv at_ f fy gc ga mc ma p q i q.length c a X Y)(hi:i < p.length):SInv at_ f fy gc ga mc ma p q (i+1) 0 c a X Y:=by
 obtain ⟨ec,ea,eX,eY⟩:=h
 have key:∀ g:α->α->Bool,Z8Z at_ g p q i q.length=Z8Z at_ g p q (i+1) 0:=by
  intro g
  unfold Z8Z
  rw [XT,List.take_zero,QP hi,ZqT,Z9S hi]
  have:Z02 at_ g ((p.drop (i+1)).take 1) []=false:=by simp [Z02]
  rw [this,Qp]
 refine ⟨by rw [ec,key],by rw [ea,key],?_,?_⟩
 ·rw [eX]
  refine YK fun k b hb=> ?_
  by_cases h:k < i
  ·rw [if_pos h,if_pos (by omega)]
  ·by_cases h2:k=i
   ·rw [if_neg h,if_pos h2,if_pos (by omega),XT]
   ·rw [if_neg h,if_neg h2,if_neg (by omega)]
    split <;> rfl
 ·rw [eY]
  refine YK fun k b hb=> ?_
  rw [if_pos (Q2.1 hb).1,if_neg (by omega)]
theorem SInv.fin(h:SInv at_ f fy gc ga mc ma p q p.length 0 c a X Y):c=(mc || Z02 at_ gc p q)/\a=(ma || Z02 at_ ga p q)/\X=p.map (Jj at_ f q)/\Y=q.map (Jj at_ fy p):=by
 obtain ⟨ec,ea,eX,eY⟩:=h
 have key:∀ g:α->α->Bool,Z8Z at_ g p q p.length 0=Z02 at_ g p q:=by
  intro g
  unfold Z8Z
  rw [XT,List.drop_length]
  simp [Z02]
 refine ⟨by rw [ec,key],by rw [ea,key],?_,?_⟩
 ·rw [eX]
  unfold ZqP
  rw [YK (G:=fun _ a=> Jj at_ f q a) fun k b hb=> by rw [if_pos (Q2.1 hb).1],Z2O]
 ·rw [eY]
  unfold ZqO
  rw [YK (G:=fun _ a=> Jj at_ fy p a) fun k b hb=> by rw [if_neg (by omega),XT],Z2O]
theorem SInv.at_x(h:SInv at_ f fy gc ga mc ma p q i j c a X Y)(hf:∀ a b,at_ (f a b)=at_ a)(hi:i < p.length)(z:α):at_ (X.getD i z)=at_ (p.getD i z):=by
 rw [h.eX,getD_some (a:=Jj at_ f (q.take j) p[i]) (by rw [ZqP,Xd,Q0 hi,Q8,if_neg (by omega),if_pos rfl]),getD_some (Q0 hi),Z9w hf]
theorem SInv.at_y(h:SInv at_ f fy gc ga mc ma p q i j c a X Y)(hf:∀ a b,at_ (fy a b)=at_ a)(hj:j < q.length)(z:α):at_ (Y.getD j z)=at_ (q.getD j z):=by
 rw [h.eY,getD_some (a:=Jj at_ fy (p.take i) q[j]) (by rw [ZqO,Xd,Q0 hj,Q8,if_neg (by omega)]),getD_some (Q0 hj),Z9w hf]
end
end Go.AM.Ytpjenobkibfpcaa
namespace Go.AM.Ytpjenobkibfpcaa
open Go.AM Go.Proofs
def Lft.swap(L:Lft):Lft:=⟨L.y,L.x,L.c,L.a⟩
def PL.swap(L:PL):PL:=⟨L.y,L.x,L.c,L.a⟩
inductive Lay (f:Edit->Edit->Lft):List Op->List Op->List Tree->List Tree->PL->Prop
 | nil (m h):Lay f [] [] m h (YX m h)
 | left {a p q m h S}:a.kind=2->Lay f p q (m++a.l) h S->Lay f (a ::p) q m h S
 | right {p b q m h S}:(∀ a∈p.head?,a.kind≠2)->b.kind=2->Lay f p q m (h++b.l) S->Lay f p (b ::q) m h S
 | both {a p b q m h S n}:a.kind≠2->b.kind≠2->n=min (Z1 a) (Z1 b)->Lay f (Zu (a ::p) n) (Zu (b ::q) n) [] [] S->
   Lay f (a ::p) (b ::q) m h (((YX m h).app (Zz f (Zp a n) (Zp b n))).app S)
section
variable {f:Edit->Edit->Lft}
theorem ZbV{p:List Op}{n:Int}(h:∀ x∈p,ZO x)(hl:p.length≠0)(h1:1<=n):∀ o∈Zu p n,ZO o:=by
 cases p with
 | nil=> exact absurd rfl hl
 | cons o r=>
  unfold Zu
  simp only [Qg,Qu,QD]
  split
  ·exact fun x hx=> h x (Q4 _ hx)
  ·rename_i hn
   intro x hx
   rcases Qc.1 hx with rfl | hx
   ·exact (Z6Z (h o Q5) h1 hn).1
   ·exact h x (Q4 _ hx)
theorem Z1Y{a:Op}{p:List Op}{n:Int}{o:Op}(h:o∈Zu (a ::p) n):o∈p\/o=Ym a n:=by
 unfold Zu at h
 simp only [Qg,Qu,QD] at h
 split at h
 ·exact .inl h
 ·rcases Qc.1 h with h | h
  ·exact .inr h
  ·exact .inl h
theorem Z70(a:Op)(n:Int):(Ym a n).e=a.e:=by unfold Ym;split <;> rfl
theorem Z5v(a:Op)(n:Int):(Zp a n).e=a.e:=by unfold Zp;split;rfl;split <;> rfl
theorem Zps{a b:Op}{p q:List Op}{n:Int}(hn:n=min (Z1 a) (Z1 b)):(Zu (a ::p) n).length+(Zu (b ::q) n).length < (a ::p).length+(b ::q).length:=by
 have x1:=ZY (a ::p) n (by simp)
 have x2:=ZY (b ::q) n (by simp)
 rcases Int.le_total (Z1 a) (Z1 b) with h | h
 ·have:=ZX (a ::p) n (by simp) (by simp only [Qg];omega)
  omega
 ·have:=ZX (b ::q) n (by simp) (by simp only [Qg];omega)
  omega
theorem Zba:∀ (k:Nat) (p q:List Op) (out:List Piece),p.length+q.length<=k->(ZG 2 2 p q out).2.1=true->∃ ps,(ZG 2 2 p q out).1=out++ps/\∀ m h,Lay f p q m h (Z0a f ps m h):=by
 intro k
 induction k with
 | zero=>
  intro p q out hk hb
  have e1:p=[]:=Q3 (by omega)
  have e2:q=[]:=Q3 (by omega)
  subst e1 e2
  rw [ZG,dif_neg (by simp [sgl]),dif_neg (by simp [sgl]),dif_pos (by simp)]
  exact ⟨[],by simp,fun m h=> .nil m h⟩
 | succ k ih=>
  intro p q out hk hb
  rw [ZG] at hb ⊢
  by_cases h1:sgl 2 p=true
  ·rw [dif_pos h1] at hb ⊢
   obtain ⟨g1,g2⟩:=Yq.1 h1
   cases p with
   | nil=> exact absurd rfl g1
   | cons a p'=>
    simp only [Qg,Qu,QD] at g2 hb ⊢
    obtain ⟨ps,e,hL⟩:=ih p' q _ (by simp only [Q9] at hk;omega) hb
    exact ⟨⟨1,a,Op.nil⟩ ::ps,by rw [e,Qe];rfl,fun m h=> .left g2 (hL _ _)⟩
  ·rw [dif_neg h1] at hb ⊢
   have np:∀ a∈p.head?,a.kind≠2:=by
    intro a ha e
    cases p with
    | nil=> cases ha
    | cons a' p'=> cases ha;exact h1 (Yq.2 ⟨by simp,by simpa using e⟩)
   by_cases h2:sgl 2 q=true
   ·rw [dif_pos h2] at hb ⊢
    obtain ⟨g1,g2⟩:=Yq.1 h2
    cases q with
    | nil=> exact absurd rfl g1
    | cons b q'=>
     simp only [Qg,Qu,QD] at g2 hb ⊢
     obtain ⟨ps,e,hL⟩:=ih p q' _ (by simp only [Q9] at hk;omega) hb
     exact ⟨⟨2,Op.nil,b⟩ ::ps,by rw [e,Qe];rfl,fun m h=> .right np g2 (hL _ _)⟩
   ·rw [dif_neg h2] at hb ⊢
    by_cases h3:p.length=0\/q.length=0
    ·rw [dif_pos h3] at hb ⊢
     by_cases h4:decide (p.length=0)=decide (q.length=0)
     ·rw [if_pos h4]
      have h5:p.length=0/\q.length=0:=by
       have:=decide_eq_decide.1 h4
       omega
      rw [Q3 h5.1,Q3 h5.2]
      exact ⟨[],by simp,fun m h=> .nil m h⟩
     ·rw [if_neg h4] at hb;cases hb
    ·rw [dif_neg h3] at hb ⊢
     cases p with
     | nil=> simp at h3
     | cons a p'=>
      cases q with
      | nil=> simp at h3
      | cons b q'=>
       simp only [Qg] at hb ⊢
       have hlt:=Zps (a:=a) (b:=b) (p:=p') (q:=q') rfl
       obtain ⟨ps,e,hL⟩:=ih _ _ _ (by omega) hb
       exact ⟨⟨0,_,_⟩ ::ps,by rw [e,Qe];rfl,fun m h=> .both (np a rfl) (fun e=> h2 (Yq.2 ⟨by simp,by simpa using e⟩)) rfl (hL [] [])⟩
theorem Zh8{p q:List Op}{m h:List Tree}{S:PL}(H:Lay f p q m h S):∀ out,(ZG 2 2 p q out).2.1=true/\∃ ps,(ZG 2 2 p q out).1=out++ps/\S=Z0a f ps m h:=by
 induction H with
 | nil m h=>
  intro out
  rw [ZG,dif_neg (by simp [sgl]),dif_neg (by simp [sgl]),dif_pos (by simp)]
  exact ⟨rfl,[],by simp,rfl⟩
 | left k2 _ ih=>
  intro out
  rw [ZG,dif_pos (Yq.2 ⟨by simp,by simpa using k2⟩)]
  simp only [Qg,Qu,QD]
  obtain ⟨h1,ps,h2,h3⟩:=ih (out++[⟨1,_,Op.nil⟩])
  exact ⟨h1,⟨1,_,Op.nil⟩ ::ps,by rw [h2,Qe];rfl,h3⟩
 | right np k2 _ ih=>
  rename_i p b q m h S _
  intro out
  have n1:¬sgl 2 p=true:=by
   intro e
   obtain ⟨g1,g2⟩:=Yq.1 e
   cases p with
   | nil=> exact g1 rfl
   | cons a p'=> exact np a rfl (by simpa using g2)
  rw [ZG,dif_neg n1,dif_pos (Yq.2 ⟨by simp,by simpa using k2⟩)]
  simp only [Qg,Qu,QD]
  obtain ⟨h1,ps,h2,h3⟩:=ih (out++[⟨2,Op.nil,_⟩])
  exact ⟨h1,⟨2,Op.nil,_⟩ ::ps,by rw [h2,Qe];rfl,h3⟩
 | both ka kb hn _ ih=>
  intro out
  subst hn
  rw [ZG,dif_neg (fun e=> ka (by simpa using (Yq.1 e).2)),dif_neg (fun e=> kb (by simpa using (Yq.1 e).2)),dif_neg (by simp)]
  simp only [Qg]
  obtain ⟨h1,ps,h2,h3⟩:=ih (out++[⟨0,_,_⟩])
  exact ⟨h1,⟨0,_,_⟩ ::ps,by rw [h2,Qe];rfl,by rw [h3];rfl⟩
theorem Lay.right'{b:Op}{q:List Op}(k2:b.kind=2):∀ {p:List Op} {m h:List Tree} {S:PL},Lay f p q m (h++b.l) S->Lay f p (b ::q) m h S
 | [],m,h,S,H=> .right (fun a ha=> by cases ha) k2 H
 | a ::p,m,h,S,H=> by
  by_cases ka:a.kind=2
  ·cases H with
   | left _ H'=> exact .left ka (H'.right' k2)
   | right np _ _=> exact absurd ka (np a rfl)
   | both k _ _ _=> exact absurd ka k
  ·exact .right (fun x hx=> by cases hx;exact ka) k2 H
theorem Zcz(m h:List Tree):YX h m=(YX m h).swap:=by
 unfold YX PL.swap
 by_cases e:m≠[]/\h≠[]
 ·rw [if_pos e,if_pos e.symm]
  have:Z7S h m=Z7S m h:=by unfold Z7S;rw [Bool.eq_iff_iff,Jz,Jz,eq_comm]
  rw [this]
 ·rw [if_neg e,if_neg (fun x=> e x.symm)]
  have:m=[]\/h=[]:=by
   by_cases hm:m=[]
   ·exact .inl hm
   ·by_cases hh:h=[]
    ·exact .inr hh
    ·exact absurd ⟨hm,hh⟩ e
  rcases this with rfl | rfl <;> simp [Z36,Jx]
theorem Z2a{o:Op}(h:ZO o)(k:o.kind=0):o=⟨0,o.n,[],Edit.nil⟩/\1<=o.n/\Z1 o=o.n:=by
 have:=ZdK h k
 rcases h with h | h | h
 ·obtain ⟨kk,nn,l,e⟩:=o
  obtain ⟨h1,h2,h3,h4⟩:=h
  dsimp only at h1 h2 h4
  subst h1 h2 h4
  exact ⟨rfl,h3.1,this⟩
 ·omega
 ·omega
theorem ZsV{p q:Op}(a:p.kind=0)(b:q.kind=1):Zz f p q=⟨[],[q],false,false⟩:=by unfold Zz;rw [if_pos ⟨a,b⟩]
theorem ZsU{p q:Op}(a:p.kind=1)(b:q.kind=0):Zz f p q=⟨[p],[],false,false⟩:=by unfold Zz;rw [if_neg (by omega),if_pos ⟨a,b⟩]
theorem pL0{p q:Op}(a:p.kind=0)(b:q.kind≠1):Zz f p q=⟨[⟨0,if q.n < 1 then 1 else q.n,[],Edit.nil⟩],[q],false,false⟩:=by unfold Zz;rw [if_neg (by omega),if_neg (by omega),if_pos a]
theorem ZsR{p q:Op}(a:p.kind≠0)(a1:p.kind≠1)(b:q.kind=0):Zz f p q=⟨[p],[⟨0,1,[],Edit.nil⟩],false,false⟩:=by unfold Zz;rw [if_neg (by omega),if_neg (by omega),if_neg a,if_pos b]
theorem ZsT{p q:Op}(a:p.kind=1)(b:q.kind=1):Zz f p q=⟨[],[],false,!Z7S p.l q.l⟩:=by unfold Zz;rw [if_neg (by omega),if_neg (by omega),if_neg (by omega),if_neg (by omega),if_pos ⟨a,b⟩]
theorem pL1{p q:Op}(a:p.kind=1)(b:q.kind≠0)(b1:q.kind≠1):Zz f p q=⟨[],[],true,!(doE false q.e (p.l.getD 0 Tree.nil)).isSome⟩:=by unfold Zz;rw [if_neg (by omega),if_neg (by omega),if_neg (by omega),if_neg b,if_neg (by omega),if_pos a]
theorem ZsQ{p q:Op}(a:p.kind≠0)(a1:p.kind≠1)(b:q.kind=1):Zz f p q=⟨[],[],true,!(doE false p.e (q.l.getD 0 Tree.nil)).isSome⟩:=by unfold Zz;rw [if_neg (by omega),if_neg (by omega),if_neg a,if_neg (by omega),if_neg (by omega),if_neg a1,if_pos b]
theorem ZsS{p q:Op}(a:p.kind≠0)(a1:p.kind≠1)(b:q.kind≠0)(b1:q.kind≠1):Zz f p q=⟨[Z4L (f p.e q.e).x],[Z4L (f p.e q.e).y],(f p.e q.e).c,(f p.e q.e).a⟩:=by
 unfold Zz;rw [if_neg (by omega),if_neg (by omega),if_neg a,if_neg b,if_neg (by omega),if_neg a1,if_neg b1]
theorem ZdI{o:Op}(h:ZO o)(k:o.kind≠0):o.n=0:=by
 rcases h with h | h | h
 ·exact absurd h.1 k
 ·exact h.2.1
 ·exact h.2.1
theorem Zl2(a b:List Tree):Z7S a b=Z7S b a:=by unfold Z7S;rw [Bool.eq_iff_iff,Jz,Jz,eq_comm]
theorem ZmQ{p q:Op}(op:ZO p)(oq:ZO q)(hl:Z1 p=Z1 q)(a:p.kind=0)(b:q.kind=0):p=q/\1<=p.n:=by
 obtain ⟨ep,np,lp⟩:=Z2a op a
 obtain ⟨eq,nq,lq⟩:=Z2a oq b
 have e:p.n=q.n:=by omega
 exact ⟨by rw [ep,eq,e],np⟩
theorem Zfg{g:Edit->Edit->Lft}{p q:Op}(hf:p.kind=3->q.kind=3->g q.e p.e=(f p.e q.e).swap)(op:ZO p)(oq:ZO q)(hl:Z1 p=Z1 q)(p2:p.kind≠2)(q2:q.kind≠2):Zz g q p=(Zz f p q).swap:=by
 have kp:=JS op
 have kq:=JS oq
 unfold kOk at kp kq
 by_cases a0:p.kind=0
 ·by_cases b0:q.kind=0
  ·obtain ⟨e,n1⟩:=ZmQ op oq hl a0 b0
   subst e
   rw [pL0 a0 (by omega),pL0 a0 (by omega),if_neg (show ¬p.n < 1 by omega),<-(Z2a op a0).1]
   try rfl
  ·by_cases b1:q.kind=1
   ·rw [ZsU b1 a0,ZsV a0 b1];try rfl
   ·rw [ZsR b0 b1 a0,pL0 a0 b1,ZdI oq b0];try rfl
 ·by_cases b0:q.kind=0
  ·by_cases a1:p.kind=1
   ·rw [ZsV b0 a1,ZsU a1 b0];try rfl
   ·rw [pL0 b0 a1,ZsR a0 a1 b0,ZdI op a0];try rfl
  ·by_cases a1:p.kind=1
   ·by_cases b1:q.kind=1
    ·rw [ZsT b1 a1,ZsT a1 b1,Zl2];try rfl
    ·rw [ZsQ b0 b1 a1,pL1 a1 b0 b1];try rfl
   ·by_cases b1:q.kind=1
    ·rw [pL1 b1 a0 a1,ZsQ a0 a1 b1];try rfl
    ·rw [ZsS b0 b1 a0 a1,ZsS a0 a1 b0 b1,hf (by omega) (by omega)];try rfl
theorem PL.app_swap(a b:PL):(a.app b).swap=a.swap.app b.swap:=rfl
theorem ZhP{a:Op}{p:List Op}{n:Int}(h:∀ x∈a ::p,ZO x)(h1:1<=n)(hn:n<=Z1 a):ZO (Zp a n)/\Z1 (Zp a n)=n:=by
 obtain ⟨g1,g2,_⟩:=Z5u h h1 hn
 exact ⟨g1,g2⟩
theorem Lay.swap{g:Edit->Edit->Lft}{p q:List Op}{m h:List Tree}{S:PL}(H:Lay f p q m h S):(∀ o∈p,ZO o)->(∀ o∈q,ZO o)->(∀ a∈p,∀ b∈q,a.kind=3->b.kind=3->g b.e a.e=(f a.e b.e).swap)->
  Lay g q p h m S.swap:=by
 induction H with
 | nil m h=> intro _ _ _;rw [<-Zcz];exact .nil h m
 | left k2 _ ih=>
  intro op oq hf
  exact (ih (fun o ho=> op o (Q4 _ ho)) oq fun a ha b hb=> hf a (Q4 _ ha) b hb).right' k2
 | right np k2 _ ih=>
  intro op oq hf
  exact .left k2 (ih op (fun o ho=> oq o (Q4 _ ho)) fun a ha b hb=> hf a ha b (Q4 _ hb))
 | both ka kb hn _ ih=>
  rename_i a p b q m h S n _
  intro op oq hf
  have la:=Zw (op a Q5)
  have lb:=Zw (oq b Q5)
  have h1:1<=n:=by omega
  obtain ⟨t1,t2⟩:=ZhP op h1 (by omega)
  obtain ⟨t3,t4⟩:=ZhP oq h1 (by omega)
  have ih:=ih (ZbV op (by simp) h1) (ZbV oq (by simp) h1) fun x hx y hy kx ky=> by
   rcases Z1Y hx with hx | rfl
   ·rcases Z1Y hy with hy | rfl
    ·exact hf x (Q4 _ hx) y (Q4 _ hy) kx ky
    ·rw [Z70];rw [Z0f] at ky;exact hf x (Q4 _ hx) b Q5 kx ky
   ·rw [Z70];rw [Z0f] at kx
    rcases Z1Y hy with hy | rfl
    ·exact hf a Q5 y (Q4 _ hy) kx ky
    ·rw [Z70];rw [Z0f] at ky;exact hf a Q5 b Q5 kx ky
  rw [PL.app_swap,PL.app_swap,<-Zcz,<-Zfg (f:=f) (g:=g) (fun kx ky=> ?_) t1 t3 (by omega) (by rw [J0];exact ka) (by rw [J0];exact kb)]
  ·exact .both kb ka (by rw [hn];omega) ih
  ·rw [J0] at kx ky
   rw [Z5v,Z5v]
   exact hf a Q5 b Q5 kx ky
end
theorem ZcI(a b:Int):Z2Z a b=Z2Z b a:=by unfold Z2Z;rw [BitVec.and_comm]
theorem Z81(p q:WEdit):Yx p q=Yx q p:=by
 unfold Yx
 rw [ZcI,decide_eq_decide,ne_comm]
theorem ZeC(p q:WEdit):Z07 p q=Z07 q p:=by
 unfold Z07
 rw [ZcI,decide_eq_decide,ne_comm]
theorem Z4E{α:Type}{at_:α->Int}{f g:α->α->Bool}{p q:List α}(h:∀ a∈p,∀ b∈q,g b a=f a b):Z02 at_ g q p=Z02 at_ f p q:=by
 unfold Z02
 rw [Qx]
 simp only [Xs,Q1,decide_eq_true_eq]
 constructor
 ·rintro ⟨a,ha,b,hb,h1,h2⟩;exact ⟨b,hb,a,ha,h1.symm,by rw [<-h b hb a ha];exact h2⟩
 ·rintro ⟨a,ha,b,hb,h1,h2⟩;exact ⟨b,hb,a,ha,h1.symm,by rw [h a ha b hb];exact h2⟩
section
variable {f:Edit->Edit->Lft} {p q:Edit}
theorem lb0(h:p.kind=0\/q.kind=0):Ya f p q=⟨p,q,false,false⟩:=by unfold Ya;rw [if_pos h]
theorem lb1(p1:p.kind=1)(q0:q.kind≠0):Ya f p q=JO q p.old p.new:=by unfold Ya;rw [if_neg (by omega),if_pos p1]
theorem ZtD(p0:p.kind≠0)(p1:p.kind≠1)(q1:q.kind=1):Ya f p q=JO p q.old q.new:=by unfold Ya;rw [if_neg (by omega),if_neg p1,if_pos q1]
theorem lbd(p0:p.kind≠0)(p1:p.kind≠1)(q0:q.kind≠0)(q1:q.kind≠1)(h:p.kind≠q.kind\/p.list≠q.list):Ya f p q=⟨Edit.nil,Edit.nil,false,true⟩:=by
 unfold Ya;rw [if_neg (by omega),if_neg p1,if_neg q1,if_pos h]
theorem lb2(p2:p.kind=2)(q2:q.kind=2)(h:p.list=q.list):Ya f p q=Z3b f p q:=by unfold Ya;rw [if_neg (by omega),if_neg (by omega),if_neg (by omega),if_neg (by omega),if_pos p2]
theorem lb3(p2:p.kind=q.kind)(p0:p.kind≠0)(p1:p.kind≠1)(q2:p.kind≠2)(h:p.list=q.list):Ya f p q=Z35 f p q:=by unfold Ya;rw [if_neg (by omega),if_neg (by omega),if_neg (by omega),if_neg (by omega),if_neg q2]
end
theorem ZfK {f g:Edit->Edit->Lft} {p q:Edit} {d d':Int} (hp:Z6 p d=true) (hq:Z6 q d'=true)
  (h:∀ a b,Z5 a+Z5 b < Z5 p+Z5 q->(∃ d,Z6 a d=true)->(∃ d,Z6 b d=true)->g b a=(f a b).swap):Ya g q p=(Ya f p q).swap:=by
 have rp:=Zr hp
 have rq:=Zr hq
 by_cases p0:p.kind=0
 ·rw [lb0 (.inl p0),lb0 (.inr p0)];try rfl
 by_cases q0:q.kind=0
 ·rw [lb0 (.inr q0),lb0 (.inl q0)];try rfl
 by_cases p1:p.kind=1
 ·by_cases q1:q.kind=1
  ·rw [lb1 p1 q0,lb1 q1 p0]
   unfold JO doB
   rw [Zwm p1,Zwm q1,Zai (Z7 p.old)]
   by_cases e:Y3 (Z7 q.old) (Z7 p.old)=true
   ·rw [if_pos e,if_pos e]
    show (⟨_,_,true && !Y3 (Z7 (Z7 p.new)) (Z7 q.new),_⟩:Lft)=⟨_,_,true && !Y3 (Z7 (Z7 q.new)) (Z7 p.new),_⟩
    rw [Z5f,Z5f,Zai]
    try rfl
   ·rw [if_neg e,if_neg e]
    try rfl
  ·rw [lb1 p1 q0,ZtD q0 q1 p1];try rfl
 by_cases q1:q.kind=1
 ·rw [ZtD p0 p1 q1,lb1 q1 p0];try rfl
 by_cases c2:p.kind≠q.kind\/p.list≠q.list
 ·rw [lbd p0 p1 q0 q1 c2,lbd q0 q1 p0 p1 (c2.imp Ne.symm Ne.symm)];try rfl
 have hk:q.kind=p.kind:=by omega
 have hli:q.list=p.list:=by omega
 by_cases p2:p.kind=2
 ·rw [lb2 p2 (by omega) hli.symm,lb2 (by omega) p2 hli]
  have hkk:∀ a∈p.kids,∀ b∈q.kids,g b.e a.e=(f a.e b.e).swap:=by
   intro a ha b hb
   have:=Yo ha
   have:=Yo hb
   exact h _ _ (by omega) ⟨_,(ZD rp.kids a ha).2⟩ ⟨_,(ZD rq.kids b hb).2⟩
  unfold Z3b Lft.swap
  rw [Z4E (at_:=WEdit.at_) (f:=fun a b=> !Yx a b && Z07 a b) (g:=fun a b=> !Yx a b && Z07 a b) fun a _ b _=> by rw [Z81,ZeC],
   Z4E (at_:=WEdit.at_) (f:=Yx) (g:=Yx) fun a _ b _=> Z81 b a,
   Z4E (at_:=KidOf.at_) (f:=fun a b:Kid=> (f a.e b.e).c) (g:=fun a b=> (g a.e b.e).c) fun a ha b hb=> by rw [hkk a ha b hb];rfl,
   Z4E (at_:=KidOf.at_) (f:=fun a b:Kid=> (f a.e b.e).a) (g:=fun a b=> (g a.e b.e).a) fun a ha b hb=> by rw [hkk a ha b hb];rfl,
   Xj (f:=Jj KidOf.at_ (fun a b:Kid=> ⟨a.at_,(g a.e b.e).x⟩) p.kids) (g:=Jj KidOf.at_ (fun b a:Kid=> ⟨b.at_,(f a.e b.e).y⟩) p.kids) fun b hb=> Z2V fun a ha=> by rw [hkk a ha b hb];rfl,
   Xj (f:=Jj KidOf.at_ (fun b a:Kid=> ⟨b.at_,(g a.e b.e).y⟩) q.kids) (g:=Jj KidOf.at_ (fun a b:Kid=> ⟨a.at_,(f a.e b.e).x⟩) q.kids) fun a ha=> Z2V fun b hb=> by rw [hkk a ha b hb];rfl]
 ·rw [lb3 hk.symm p0 p1 p2 hli.symm,lb3 hk q0 q1 (by omega) hli]
  have hf:∀ a∈p.ops,∀ b∈q.ops,a.kind=3->b.kind=3->g b.e a.e=(f a.e b.e).swap:=by
   intro a ha b hb ka kb
   have:=Jd ha
   have:=Jd hb
   exact h _ _ (by omega) ⟨_,J3 (rightOs_mem rp.ops ha) ka⟩ ⟨_,J3 (rightOs_mem rq.ops hb) kb⟩
  have hf':∀ b∈q.ops,∀ a∈p.ops,b.kind=3->a.kind=3->f a.e b.e=(g b.e a.e).swap:=fun b hb a ha kb ka=> by rw [hf a ha b hb ka kb];try rfl
  unfold Z35
  by_cases hb:(ZG 2 2 p.ops q.ops []).2.1=true
  ·obtain ⟨ps,e,hL⟩:=Zba (f:=f) _ p.ops q.ops [] (Qd _) hb
   obtain ⟨b1,ps',e',hS⟩:=Zh8 ((hL [] []).swap (g:=g) (J6 hp) (J6 hq) hf) []
   rw [if_pos hb,if_pos b1,e,e',QH,QH,<-hS,hli]
   try rfl
  ·rw [if_neg hb,if_neg]
   ·try rfl
   ·intro b1
    obtain ⟨ps,e,hL⟩:=Zba (f:=g) _ q.ops p.ops [] (Qd _) b1
    exact hb (Zh8 ((hL [] []).swap (g:=f) (J6 hq) (J6 hp) hf') []).1
theorem ZqC:∀ (n:Nat) (p q:Edit) (d d':Int),Z5 p+Z5 q<=n->Z6 p d=true->Z6 q d'=true->lbF n q p=(lbF n p q).swap:=by
 intro n
 induction n with
 | zero=> intro p q d d' h;obtain ⟨k,o,nw,w,ks,l,os⟩:=p;simp only [Z5] at h;omega
 | succ n ih=>
  intro p q d d' h hp hq
  exact ZfK hp hq fun a b hab ⟨d1,h1⟩ ⟨d2,h2⟩=> ih a b d1 d2 (by omega) h1 h2
theorem ZfM{p q:Edit}{d d':Int}(hp:Z6 p d=true)(hq:Z6 q d'=true):lbE q p=(lbE p q).swap:=by
 unfold lbE
 rw [Xm]
 exact ZqC _ p q d d' (Qd _) hp hq
end Go.AM.Ytpjenobkibfpcaa
namespace Go.AM.Ytpjenobkibfpcaa
open Go.AM Go.Proofs
mutual
def Yc(k:Int):Edit->Prop
 | .mk _ _ _ _ ks _ os=> (Yy os<=k/\Y7 os<=k)/\Z9R k ks/\Z9P k os
def Z9R(k:Int):List (KidOf Edit)->Prop
 | []=> True
 | x ::r=> ZhO k x/\Z9R k r
def ZhO(k:Int):KidOf Edit->Prop
 | ⟨_,e⟩=> Yc k e
def Z9P(k:Int):List (OpOf Edit)->Prop
 | []=> True
 | x ::r=> ZlY k x/\Z9P k r
def ZlY(k:Int):OpOf Edit->Prop
 | ⟨_,_,_,e⟩=> Yc k e
end
theorem Z9Q{k:Int}:∀ {l:List Kid},Z9R k l↔∀ x∈l,Yc k x.e
 | []=> by simp [Z9R]
 | ⟨a,e⟩ ::r=> by simp only [Z9R,ZhO,Z9Q (l:=r),Qc,forall_eq_or_imp]
theorem Z9O{k:Int}:∀ {l:List Op},Z9P k l↔∀ x∈l,Yc k x.e
 | []=> by simp [Z9P]
 | ⟨a,n,l,e⟩ ::r=> by simp only [Z9P,ZlY,Z9O (l:=r),Qc,forall_eq_or_imp]
theorem Jw{k:Int}{e:Edit}:Yc k e↔(Yy e.ops<=k/\Y7 e.ops<=k)/\(∀ x∈e.kids,Yc k x.e)/\∀ o∈e.ops,Yc k o.e:=by
 obtain ⟨kk,o,n,w,ks,l,os⟩:=e
 simp only [Yc,Z9Q,Z9O]
 try rfl
theorem Z2z:∀ (n:Nat) {k m:Int} (e:Edit),Z5 e<=n->k<=m->Yc k e->Yc m e:=by
 intro n
 induction n with
 | zero=> intro k m e h;obtain ⟨k,o,nw,w,ks,l,os⟩:=e;simp only [Z5] at h;omega
 | succ n ih=>
  intro k m e hn hk h
  rw [Jw] at h ⊢
  exact ⟨⟨by omega,by omega⟩,fun x hx=> ih x.e (by have:=Yo hx;omega) hk (h.2.1 x hx),fun o ho=> ih o.e (by have:=Jd ho;omega) hk (h.2.2 o ho)⟩
theorem Z1X{k:Int}(h:0<=k):Yc k Edit.nil:=by
 rw [Jw]
 simp [Edit.nil,Yy,Y7,h]
def owL(l:List Tree):Nat:=100*l.length+Z4 l
mutual
def owE(K:Nat):Edit->Nat
 | .mk _ o n w ks _ os=> K+Zj o+Zj n+65600*w.length+Z2M K ks+Z29 K os
def Z2M(K:Nat):List (KidOf Edit)->Nat
 | []=> 0
 | k ::r=> ZmM K k+Z2M K r
def ZmM(K:Nat):KidOf Edit->Nat
 | ⟨_,e⟩=> 65600+owE K e
def Z29(K:Nat):List (OpOf Edit)->Nat
 | []=> 0
 | o ::r=> ZgM K o+Z29 K r
def ZgM(K:Nat):OpOf Edit->Nat
 | ⟨k,_,l,e⟩=> owL l+if k=3 then 100+owE K e else 0
end
section
variable {K:Nat}
theorem ZdH(e:Edit):owE K e=K+Zj e.old+Zj e.new+65600*e.words.length+Z2M K e.kids+Z29 K e.ops:=by cases e;rfl
theorem Zfl(k:Kid):ZmM K k=65600+owE K k.e:=by cases k;rfl
theorem Z0K(o:Op):ZgM K o=owL o.l+if o.kind=3 then 100+owE K o.e else 0:=by cases o;rfl
theorem ZpA:owE K Edit.nil=K+2:=by simp [owE,Z2M,Z29,Edit.nil,Tree.nil,Zj,Z4]
theorem Zpz(e:Edit):K+2<=owE K e:=by rw [ZdH];have:=Zcs e.old;have:=Zcs e.new;omega
theorem Zip(a b:List Tree):owL (a++b)=owL a+owL b:=by unfold owL;rw [List.length_append,Yf];omega
theorem Zfk:∀ a b:List Op,Z29 K (a++b)=Z29 K a+Z29 K b
 | [],b=> by simp [Z29]
 | o ::r,b=> by simp only [Qs,Z29,Zfk r b];omega
def OkO(list:Int)(o:Op):Prop:=ZO o/\Zf list o (-2)=true/\Z1D o
theorem Zfj{list:Int}{l:List Op}{o:Op}(hl:∀ o'∈l,OkO list o')(hp:Part l o)(ho:ZO o):OkO list o:=by
 obtain ⟨o',m,k,e1,_,lt⟩:=hp
 obtain ⟨_,hr,hg⟩:=hl o' m
 refine ⟨ho,?_⟩
 have R:=J4 hr
 have G:=Z0I hg
 obtain ⟨kk,nn,ll,ee⟩:=o
 have k:kk=o'.kind:=k
 have e1:ee=o'.e:=e1
 have lt:∀ t∈ll,t∈o'.l:=lt
 have gl:YG ll:=Zd3 fun t ht=> Z0p G.2.2.1 (lt t ht)
 cases R with
 | keep n1 a1 a2=>
  have k:kk=0:=k
  have e1:ee=Edit.nil:=e1
  subst k e1
  rcases ho with h | h | h
  ·have hl:ll=[]:=h.2.1
   subst hl
   have h3:1<=nn/\nn<=1048576:=h.2.2.1
   exact ⟨Zir h3.1 h3.2 _,Yt (by decide) (by decide),by unfold InR;omega,trivial,G.2.2.2⟩
  ·have:=h.1;omega
  ·have:=h.1;omega
 | gone l1 a1 a2=>
  have k:kk=1:=k
  have e1:ee=Edit.nil:=e1
  subst k e1
  rcases ho with h | h | h
  ·have:=h.1;omega
  ·have hn:nn=0:=h.2.1
   subst hn
   exact ⟨ZaP (.inl rfl) (Z3U fun t ht=> Z0l a1 t (lt t ht)) h.2.2.1,Yt (by decide) (by decide),Yt (by decide) (by decide),gl,G.2.2.2⟩
  ·have:=h.1;omega
 | come l1 a1 a2=>
  have k:kk=2:=k
  have e1:ee=Edit.nil:=e1
  subst k e1
  rcases ho with h | h | h
  ·have:=h.1;omega
  ·have hn:nn=0:=h.2.1
   subst hn
   exact ⟨ZaP (.inr rfl) (Z3U fun t ht=> Z0l a1 t (lt t ht)) h.2.2.1,Yt (by decide) (by decide),Yt (by decide) (by decide),gl,G.2.2.2⟩
  ·have:=h.1;omega
 | into e2 a1 a2 a3 a4=>
  have k:kk=3:=k
  have e1:ee=e2:=e1
  subst k e1
  rcases ho with h | h | h
  ·have:=h.1;omega
  ·have:=h.1;omega
  ·have hn:nn=0:=h.2.1
   have hl:ll=[]:=h.2.2
   subst hn hl
   exact ⟨Zis a1 a2 a3 a4,Yt (by decide) (by decide),Yt (by decide) (by decide),trivial,G.2.2.2⟩
theorem ZeI{list:Int}{a:Op}{p:List Op}{n:Int}(h:∀ x∈a ::p,OkO list x)(h1:1<=n)(hn:n<=Z1 a):OkO list (Zp a n)/\(Zp a n).kind=a.kind/\Z1 (Zp a n)=n/\∀ o∈Zu (a ::p) n,OkO list o:=by
 obtain ⟨g1,g2,g3,g4,g5,_⟩:=Z5u (fun x hx=> (h x hx).1) h1 hn
 exact ⟨Zfj h g4 g1,g3,g2,fun o ho=> Zfj h (g5 o ho).2 (g5 o ho).1⟩
theorem Zwq:Zlr fun o=> ((ZgM K o:Nat):Int):=by
 intro o n ho h1 hn
 have hl:=Y4 o
 rcases ho with ⟨k0,k1,k2,k3⟩ | ⟨k0,k1,k2,k3⟩ | ⟨k0,k1,k2⟩
 ·have e1:Zp o n=⟨o.kind,n,o.l,o.e⟩:=by rw [Zp,if_neg hn,if_pos k0]
  have e2:Ym o n=⟨o.kind,o.n - n,o.l,o.e⟩:=by rw [Ym,if_pos k0]
  simp only [Z0K,e1,e2]
  rw [if_neg (by omega),k1]
  simp [owL,Z4]
 ·have e1:Zp o n=⟨o.kind,o.n,o.l.take n.toNat,o.e⟩:=by rw [Zp,if_neg hn,if_neg (by omega)]
  have e2:Ym o n=⟨o.kind,o.n,o.l.drop n.toNat,o.e⟩:=by rw [Ym,if_neg (by omega)]
  have h3:¬o.kind=3:=by omega
  have:=Zip (o.l.take n.toNat) (o.l.drop n.toNat)
  rw [QF] at this
  simp only [Z0K,e1,e2]
  rw [if_neg h3]
  omega
 ·rw [if_pos k0] at hl
  omega
end
end Go.AM.Ytpjenobkibfpcaa
namespace Go.AM.Ytpjenobkibfpcaa
open Go.AM Go.Proofs
variable {K:Nat}
structure LbX (K:Nat) (T:Int) (X p:Edit):Prop where
 wk:Wk X
 th:Yc T X
 ow:owE K X<=owE K p
 kx:X.kind=0\/X=p\/(X.kind=p.kind/\(p.kind=2\/p.kind=3))
theorem Zgl:Wk Edit.nil:=by
 obtain ⟨_,h1,d,h2⟩:=Z3o
 exact .of h2 h1
theorem LbX.nil{T:Int}(hT:0<=T)(p:Edit):LbX K T Edit.nil p:=⟨Zgl,Z1X hT,by rw [ZpA];exact Zpz p,.inl rfl⟩
theorem LbX.self{T:Int}{p:Edit}(h:Wk p)(ht:Yc T p):LbX K T p p:=⟨h,ht,Qd _,.inr (.inl rfl)⟩
theorem Z2b(n:Int):Z1 ⟨0,n,[],Edit.nil⟩=n:=by rw [Y4];simp
theorem Zkx(l:List Tree):Z1 ⟨2,0,l,Edit.nil⟩=l.length:=by rw [Y4];simp
theorem φB_nn{o:Op}(h:ZO o):0<=φB o:=by unfold φB;have:=Zw h;split <;> omega
theorem ZcU:∀ {l:List Op},(∀ o∈l,ZO o)->0<=Y7 l
 | [],_=> Xc _
 | o ::r,h=> by
  have h1:=φB_nn (h o Q5)
  have h2:=ZcU (l:=r) fun x hx=> h x (Q4 _ hx)
  rw [<-Z0v] at h2 ⊢
  simp only [Yp];omega
def ZoH(list:Int)(l:List Tree):Prop:=∀ t∈l,Zq (.mk list [] [t]) (-1)=true/\rng t
theorem ZaR{list n:Int}(h1:1<=n)(h2:n<=1048576):OkO list ⟨0,n,[],Edit.nil⟩:=by
 refine ⟨.inl ⟨rfl,rfl,⟨h1,h2⟩,rfl⟩,Zir h1 h2 _,Yt (by decide) (by decide),by unfold InR;omega,trivial,?_⟩
 exact Zgl.g
theorem ZpC{list:Int}{l:List Tree}(h:ZoH list l)(hl:l≠[]):OkO list ⟨2,0,l,Edit.nil⟩:=by
 refine ⟨.inr (.inl ⟨.inr rfl,rfl,hl,rfl⟩),ZaP (.inr rfl) ?_ hl,Yt (by decide) (by decide),Yt (by decide) (by decide),Zd3 fun t ht=> (h t ht).2,Zgl.g⟩
 rw [Zbn (by decide)]
 exact Z3U fun t ht=> (h t ht).1
theorem ZkA{list:Int}{o:Op}(h:OkO list o)(k:o.kind=1\/o.kind=2):ZoH list o.l:=by
 have R:=J4 h.2.1
 have G:=(Z0I h.2.2).2.2.1
 intro t ht
 refine ⟨?_,Z0p G ht⟩
 cases R with
 | keep=> exact absurd k (by simp)
 | into=> exact absurd k (by simp)
 | gone l a1=> rw [Zbn (by decide)] at a1;exact Z0l a1 t ht
 | come l a1=> rw [Zbn (by decide)] at a1;exact Z0l a1 t ht
theorem Z3x{list:Int}{o:Op}(h:OkO list o)(k:o.kind=3):(7 < list/\o.e.kind≠0/\Wl list o.e/\Wk o.e)/\o.l=[]:=by
 have R:=J4 h.2.1
 cases R with
 | keep | gone | come=> exact absurd k (by simp)
 | into e a1 a2 a3 a4=> exact ⟨⟨a3,a2,a4,⟨Yh _ _ _ (by decide) a1,(Z0I h.2.2).2.2.2⟩⟩,rfl⟩
structure OpsX (K:Nat) (list T:Int) (l:List Op) (A B:Int) (W:Nat):Prop where
 ok:∀ o∈l,OkO list o/\Yc T o.e
 la:Yy l<=A
 lb:Y7 l<=B
 ow:Z29 K l<=W
theorem OpsX.app{list T:Int}{l l':List Op}{A B A' B':Int}{W W':Nat}(h:OpsX K list T l A B W)(h':OpsX K list T l' A' B' W'):OpsX K list T (l++l') (A+A') (B+B') (W+W'):=by
 refine ⟨fun o ho=> (Qf.1 ho).elim (h.ok o) (h'.ok o),?_,?_,?_⟩
 ·rw [<-Z9V,Z9U,Z9V,Z9V];have:=h.la;have:=h'.la;omega
 ·rw [<-Z0v,Z9U,Z0v,Z0v];have:=h.lb;have:=h'.lb;omega
 ·rw [Zfk];have:=h.ow;have:=h'.ow;omega
theorem OpsX.none{list T A B:Int}{W:Nat}(ha:0<=A)(hb:0<=B):OpsX K list T [] A B W:=⟨fun o ho=> (by cases ho),ha,hb,X2 _⟩
theorem OpsX.mono{list T:Int}{l:List Op}{A B A' B':Int}{W W':Nat}(h:OpsX K list T l A B W)(ha:A<=A')(hb:B<=B')(hw:W<=W'):OpsX K list T l A' B' W':=
 ⟨h.ok,Int.le_trans h.la ha,Int.le_trans h.lb hb,QY h.ow hw⟩
theorem OpsX.one{list T:Int}{o:Op}(h:OkO list o)(ht:Yc T o.e):OpsX K list T [o] (φA o) (φB o) (ZgM K o):=by
 refine ⟨fun x hx=> by rw [Qi.1 hx];exact ⟨h,ht⟩,?_,?_,?_⟩
 ·rw [<-Z9V];simp [Yp]
 ·rw [<-Z0v];simp [Yp]
 ·simp [Z29]
theorem ZnZ{list T:Int}(hT:0<=T){n:Nat}(hn:n<=1048576):OpsX K list T (Jx n) n n 0:=by
 unfold Jx
 split
 ·exact .none (by omega) (by omega)
 ·refine (OpsX.one (ZaR (by omega) (by omega)) (Z1X hT)).mono ?_ ?_ ?_
  ·unfold φA;rw [if_neg (by simp),Z2b];omega
  ·unfold φB;rw [if_neg (by simp),Z2b];omega
  ·simp [Z0K,owL,Z4]
theorem Zwf{list T:Int}(hT:0<=T){l:List Tree}(h:ZoH list l):OpsX K list T (Z36 l) 0 l.length (owL l):=by
 unfold Z36
 split
 ·exact .none (by omega) (by omega)
 ·rename_i hl
  refine (OpsX.one (ZpC h hl) (Z1X hT)).mono ?_ ?_ ?_
  ·unfold φA;rw [if_pos rfl];omega
  ·unfold φB;rw [if_neg (by simp),Zkx];omega
  ·simp [Z0K]
theorem Zs4{list T:Int}(hT:0<=T){m h:List Tree}(hm:ZoH list m)(hh:h.length<=1048576):OpsX K list T (YX m h).x h.length (m.length+h.length) (owL m):=by
 unfold YX
 split
 ·exact (ZnZ hT hh).mono (by omega) (by omega) (X2 _)
 ·exact ((Zwf hT hm).app (ZnZ hT hh)).mono (by omega) (by omega) (by omega)
theorem Zpy {f:Edit->Edit->Lft} {list a b:Int} (hli:2<=list/\list<=9) (ha:0<=a) (hb:0<=b) {p q:Op} (op:OkO list p) (oq:OkO list q) (tp:Yc a p.e) (hl:Z1 p=Z1 q) (p2:p.kind≠2) (q2:q.kind≠2)
  (hf:p.kind=3->q.kind=3->LbX K (a+b) (f p.e q.e).x p.e):OpsX K list (a+b) (Zz f p q).x (φB q) (φB p) (ZgM K p):=by
 have kp:=JS op.1
 have kq:=JS oq.1
 unfold kOk at kp kq
 have np:=φB_nn op.1
 have nq:=φB_nn oq.1
 have lp:=Zw op.1
 have tp':=Z2z _ p.e (Qd _) (show a<=a+b by omega) tp
 by_cases a0:p.kind=0
 ·by_cases b1:q.kind=1
  ·rw [ZsV a0 b1];exact .none nq np
  ·rw [pL0 a0 b1]
   have e:(if q.n < 1 then 1 else q.n)=Z1 q:=by
    by_cases b0:q.kind=0
    ·obtain ⟨_,h1,h2⟩:=Z2a oq.1 b0
     rw [if_neg (by omega),h2]
    ·rw [ZdI oq.1 b0,if_pos (by decide),Z1F (by omega)]
   have h1:=Z2a op.1 a0
   rw [e,<-hl]
   refine (OpsX.one (ZaR lp ?_) (Z1X (by omega))).mono ?_ ?_ (by simp [Z0K,owL,Z4])
   ·rw [h1.2.2]
    rcases op.1 with h | h | h
    ·exact h.2.2.1.2
    ·omega
    ·omega
   ·unfold φA φB;rw [if_neg (by simp),if_neg b1,Z2b];omega
   ·unfold φB;rw [if_neg (by simp),if_neg (by omega),Z2b];omega
 ·by_cases b0:q.kind=0
  ·by_cases a1:p.kind=1
   ·rw [ZsU a1 b0]
    refine (OpsX.one op tp').mono ?_ (Xc _) (Qd _)
    unfold φA φB;rw [if_neg p2,if_neg (by omega)];omega
   ·rw [ZsR a0 a1 b0]
    refine (OpsX.one op tp').mono ?_ (Xc _) (Qd _)
    unfold φA φB;rw [if_neg p2,if_neg (by omega)];omega
  ·by_cases a1:p.kind=1
   ·by_cases b1:q.kind=1
    ·rw [ZsT a1 b1];exact .none nq np
    ·rw [pL1 a1 b0 b1];exact .none nq np
   ·by_cases b1:q.kind=1
    ·rw [ZsQ a0 a1 b1];exact .none nq np
    ·rw [ZsS a0 a1 b0 b1]
     have p3:p.kind=3:=by omega
     obtain ⟨hw,ht,how,hk⟩:=hf p3 (by omega)
     obtain ⟨⟨e1,e2,e3,e4⟩,e5⟩:=Z3x op p3
     have l1:=Z1F p3
     have hB:φB q=1:=by unfold φB;rw [if_neg b1];omega
     have hB':φB p=1:=by unfold φB;rw [if_neg a1];omega
     rw [hB,hB']
     dsimp only
     unfold Z4L
     split
     ·refine (OpsX.one (ZaR (by decide) (by decide)) (Z1X (by omega))).mono ?_ ?_ (by simp [Z0K,owL,Z4])
      ·unfold φA;rw [if_neg (by simp),Z2b];omega
      ·unfold φB;rw [if_neg (by simp),Z2b];omega
     ·rename_i hx0
      have hwl:Wl list (f p.e q.e).x:=by
       rcases hk with h | h | ⟨h,h'⟩
       ·exact absurd h hx0
       ·rw [h];exact e3
       ·rcases h' with h' | h'
        ·exact .inr (.inl (by omega))
        ·rcases e3 with g | g | g
         ·exact .inl g
         ·omega
         ·omega
      refine (OpsX.one ⟨.inr (.inr ⟨rfl,rfl,rfl⟩),Zis (Yh _ _ _ (by decide) hw.r) hx0 e1 hwl,Yt (by decide) (by decide),Yt (by decide) (by decide),trivial,hw.g⟩ ht).mono ?_ ?_ ?_
      ·unfold φA;rw [if_neg (show ¬(3:Int)=2 by decide),Z1F rfl];omega
      ·unfold φB;rw [if_neg (show ¬(3:Int)=1 by decide),Z1F rfl];omega
      ·simp only [Z0K,if_true];rw [if_pos p3,e5];simp only [owL,Z4,Qb];omega
theorem Zwb{f:Edit->Edit->Lft}{list a b:Int}(hli:2<=list/\list<=9)(ha:0<=a)(hb:0<=b){p q:List Op}{m h:List Tree}{S:PL}(H:Lay f p q m h S):
  (∀ o∈p,OkO list o/\Yc a o.e)->(∀ o∈q,OkO list o)->(∀ x∈p,∀ y∈q,x.kind=3->y.kind=3->LbX K (a+b) (f x.e y.e).x x.e)->ZoH list m->(h.length:Int)+Y7 q<=1048576->
  OpsX K list (a+b) S.x (h.length+Y7 q) (m.length+h.length+Y7 p+Y7 q) (owL m+Z29 K p):=by
 induction H with
 | nil m h=>
  intro _ _ _ hm hh
  simp only [Y7] at hh
  exact (Zs4 (by omega) hm (by omega)).mono (by simp only [Y7];omega) (by simp only [Y7];omega) (by omega)
 | left k2 _ ih=>
  rename_i x p q m h S _
  intro op oq hf hm hh
  have o1:=op _ Q5
  have e:=ih (fun o ho=> op o (Q4 _ ho)) oq (fun x hx=> hf x (Q4 _ hx)) (fun t ht=> (Qf.1 ht).elim (hm t) (ZkA o1.1 (.inr k2) t)) hh
  have l2:=Z2c o1.1.1 (.inr k2)
  refine e.mono (Xc _) ?_ ?_
  ·rw [<-Z0v (_ ::_)]
   simp only [Yp,Z0v,φB]
   rw [if_neg (by omega),l2,Q6];omega
  ·rw [Zip]
   simp only [Z29,Z0K]
   omega
 | right np k2 _ ih=>
  intro op oq hf hm hh
  have o1:=oq _ Q5
  have l2:=Z2c o1.1 (.inr k2)
  have e1:∀ (b:Op) (q:List Op),b.kind=2->Y7 (b ::q)=Z1 b+Y7 q:=by
   intro b q hb
   rw [<-Z0v (_ ::_)]
   simp only [Yp,Z0v,φB]
   rw [if_neg (by omega)]
  rw [e1 _ _ k2] at hh
  have e:=ih op (fun o ho=> oq o (Q4 _ ho)) (fun x hx y hy=> hf x hx y (Q4 _ hy)) hm (by rw [Q6];omega)
  rw [Q6] at e
  refine e.mono ?_ ?_ (Qd _)
  ·rw [e1 _ _ k2];omega
  ·rw [e1 _ _ k2];omega
 | both ka kb hn _ ih=>
  rename_i x p y q m h S n _
  intro op oq hf hm hh
  have op1:∀ o∈x ::p,OkO list o:=fun o ho=> (op o ho).1
  have lx:=Zw (op1 x Q5).1
  have ly:=Zw (oq y Q5).1
  have h1:1<=n:=by omega
  obtain ⟨t1,t2,t3,t4⟩:=ZeI op1 h1 (by omega)
  obtain ⟨u1,u2,u3,u4⟩:=ZeI oq h1 (by omega)
  obtain ⟨s1,_⟩:=Z3a Zsj (p:=x ::p) (fun o ho=> (op1 o ho).1) (by simp) h1
  obtain ⟨s2,_⟩:=Z3a Zsj (p:=y ::q) (fun o ho=> (oq o ho).1) (by simp) h1
  obtain ⟨s3,_⟩:=Z3a Zwq (p:=x ::p) (fun o ho=> (op1 o ho).1) (by simp) h1
  have so:∀ l:List Op,Yp (fun o=> ((ZgM K o:Nat):Int)) l=Z29 K l:=by
   intro l
   induction l with
   | nil=> rfl
   | cons o r ih=> simp only [Yp,Z29,ih];omega
  rw [so,so,Qg] at s3
  rw [Z0v,Z0v,Qg] at s1 s2
  have nq:=ZcU (l:=Zu (y ::q) n) fun o ho=> (u4 o ho).1
  have np:=ZcU (l:=Zu (x ::p) n) fun o ho=> (t4 o ho).1
  have fq:=φB_nn u1.1
  have ee:∀ o∈Zu (x ::p) n,o.e=x.e/\o.kind=x.kind\/o∈p:=fun o ho=> (Z1Y ho).symm.imp (fun h=> by rw [h];exact ⟨Z70 _ _,Z0f _ _⟩) id
  have ee':∀ o∈Zu (y ::q) n,o.e=y.e/\o.kind=y.kind\/o∈q:=fun o ho=> (Z1Y ho).symm.imp (fun h=> by rw [h];exact ⟨Z70 _ _,Z0f _ _⟩) id
  have hf':∀ o∈x ::p,∀ o'∈y ::q,∀ r r':Op,r.e=o.e->r'.e=o'.e->r.kind=o.kind->r'.kind=o'.kind->r.kind=3->r'.kind=3->LbX K (a+b) (f r.e r'.e).x r.e:=by
   intro o ho o' ho' r r' e1 e2 k1 k2 k3 k4
   rw [e1,e2]
   exact hf o ho o' ho' (by omega) (by omega)
  have e:=ih (fun o ho=> ⟨t4 o ho,by rcases ee o ho with ⟨h,_⟩ | h;rw [h];exact (op x Q5).2;exact (op o (Q4 _ h)).2⟩) u4
   (fun r hr r' hr' k3 k4=> by
    rcases ee r hr with ⟨e1,k1⟩ | e1
    ·rcases ee' r' hr' with ⟨e2,k2⟩ | e2
     ·exact hf' x Q5 y Q5 r r' e1 e2 k1 k2 k3 k4
     ·exact hf' x Q5 r' (Q4 _ e2) r r' e1 rfl k1 rfl k3 k4
    ·rcases ee' r' hr' with ⟨e2,k2⟩ | e2
     ·exact hf' r (Q4 _ e1) y Q5 r r' rfl e2 rfl k2 k3 k4
     ·exact hf r (Q4 _ e1) r' (Q4 _ e2) k3 k4)
   (fun t ht=> by cases ht) (by simp only [Qb];omega)
  have g:=Zs4 (K:=K) (T:=a+b) (by omega) hm (h:=h) (by omega)
  have pc:=Zpy (f:=f) hli ha hb t1 u1 (by rw [Z5v];exact (op x Q5).2) (by omega) (by omega) (by omega) (hf' x Q5 y Q5 _ _ (Z5v _ _) (Z5v _ _) (J0 _ _) (J0 _ _))
  refine ((g.app pc).app e).mono ?_ ?_ ?_
  ·simp only [Qb];omega
  ·simp only [Qb];omega
  ·simp only [owL,Z4,Qb] at s3 ⊢;omega
end Go.AM.Ytpjenobkibfpcaa
namespace Go.AM.Ytpjenobkibfpcaa
open Go.AM Go.Proofs
variable {K:Nat}
theorem Z5P:rng Tree.nil:=by simp [Tree.nil,rng,YG,InR]
theorem Z5o{α:Type}{at_:α->Int}{f:α->α}(hf:∀ a,at_ (f a)=at_ a):∀ {l:List α} {last:Int},asc at_ last l->asc at_ last (l.map f)
 | [],_,_=> trivial
 | a ::r,last,h=> by
  refine ⟨by rw [hf];exact h.1,?_⟩
  rw [hf]
  exact Z5o hf h.2
theorem Z2Y{α:Type}{at_:α->Int}{g:α->Bool}:∀ {l:List α} {last:Int},asc at_ last l->asc at_ last (l.filter g)
 | [],_,_=> trivial
 | a ::r,last,h=> by
  rw [XB]
  split
  ·exact ⟨h.1,Z2Y h.2⟩
  ·exact Zlg (XL h.1) (Z2Y h.2)
theorem ZfJ(a b:WEdit):(Z3I a b).at_=a.at_:=rfl
theorem ZnL{a b:WEdit}(ra:ZeQ a):ZeQ (Z3I a b)/\Yj (Z3I a b).old (Z3I a b).mask=true/\Yj (Z3I a b).new (Z3I a b).mask=true:=by
 obtain ⟨m1,_⟩:=Zet (a:=ZkC b.mask) (b:=a.mask) (by
  have h:=(BitVec.ofInt (IntKind.bits .u8) 255 ^^^ BitVec.ofInt (IntKind.bits .u8) b.mask).isLt
  have e:(2:Nat) ^ IntKind.bits .u8=256:=rfl
  unfold ZkC
  rw [Z5q (by omega) (by omega)]
  omega) ra.2.1
 have w:∀ x m:Int,Yj (mix 0 x m) m=true:=fun x m=> Zk3 fun i hi hn=> by rw [Zt1 hi,if_neg (by rw [hn];decide)];exact Zsf i
 exact ⟨⟨ra.1,m1,ZgU _ _ _,ZgU _ _ _⟩,w _ _,w _ _⟩
theorem ZsE {T:Int} {W:List WEdit} {Ks:List Kid} {p:Edit} (hT:0<=T) (p2:p.kind=2) (aw:asc WEdit.at_ (-1) W) (ak:asc KidOf.at_ (-1) Ks)
  (hw:∀ w∈W,ZeQ w/\w.at_<=65534/\Yj w.old w.mask=true/\Yj w.new w.mask=true) (hk:∀ k∈Ks,k.at_<=65534/\InR k.at_/\Wk k.e/\Yc T k.e)
  (ow:65600*W.length+Z2M K Ks<=65600*p.words.length+Z2M K p.kids):LbX K T (Z3i (.mk 2 Tree.nil Tree.nil W Ks 0 [])) p:=by
 unfold Z3i
 split
 ·exact .nil hT p
 ·show LbX K T (.mk 2 Tree.nil Tree.nil (W.filter fun w=> !decide (w.mask=0)) (Ks.filter fun k:Kid=> !decide (k.e.kind=0)) 0 []) p
  refine ⟨⟨Zkn (Z9F (Z2Y aw) fun w h=> ?_) (Zam (Z2Y ak) fun k h=> ?_),?_⟩,?_,?_,.inr (.inr ⟨by rw [p2];rfl,.inl p2⟩)⟩
  ·obtain ⟨h1,h2⟩:=XG.1 h
   obtain ⟨_,g2,g3,g4⟩:=hw w h1
   exact ⟨g2,by simpa using h2,g3,g4⟩
  ·obtain ⟨h1,h2⟩:=XG.1 h
   obtain ⟨g1,_,g3,_⟩:=hk k h1
   exact ⟨g1,by simpa using h2,Yh _ _ _ (by decide) g3.r⟩
  ·refine ⟨Yt (by decide) (by decide),Z5P,Z5P,fun w h=> (hw w (XG.1 h).1).1,Yt (by decide) (by decide),ZeS fun k h=> ?_,trivial⟩
   obtain ⟨_,g2,g3,_⟩:=hk k (XG.1 h).1
   exact ⟨g2,g3.g⟩
  ·rw [Jw]
   refine ⟨⟨hT,hT⟩,fun k h=> (hk k (XG.1 h).1).2.2.2,fun o h=> (by cases h)⟩
  ·have l1:=XX (fun w:WEdit=> !decide (w.mask=0)) W
   have l2:∀ l:List Kid,Z2M K (l.filter fun k=> !decide (k.e.kind=0))<=Z2M K l:=by
    intro l
    induction l with
    | nil=> exact Qd _
    | cons k r ih=>
     rw [XB]
     split
     ·simp only [Z2M];omega
     ·simp only [Z2M];omega
   have l2:=l2 Ks
   have e:=ZdH (K:=K) p
   have m1:=Zcs p.old;have m2:=Zcs p.new
   have key:∀ w k:Nat,w<=W.length->k<=Z2M K Ks->K+1+1+65600*w+k+0<=owE K p:=by intro w k h1 h2;omega
   exact key _ _ l1 l2
theorem ZcC{α:Type}{at_:α->Int}{f:α->α->α}{q:List α}{a:α}:Jj at_ f q a=a\/∃ b∈q,at_ b=at_ a/\Jj at_ f q a=f a b:=by
 unfold Jj
 cases h:Z3K at_ q (at_ a) with
 | none=> exact .inl rfl
 | some b=> obtain ⟨h1,h2⟩:=Z7H at_ _ q b h;exact .inr ⟨b,h1,h2,rfl⟩
theorem ZvX {f:Edit->Edit->Lft} {a b:Int} (ha:0<=a) (hb:0<=b) {p q:Edit} (wp:Wk p) (wq:Wk q) (tp:Yc a p) (p2:p.kind=2)
  (hf:∀ x∈p.kids,∀ y∈q.kids,LbX K (a+b) (f x.e y.e).x x.e):LbX K (a+b) (Z3b f p q).x p:=by
 have rp:=Zr wp.r
 have gp:=Yg wp.g
 rw [Jw] at tp
 have hcut:∀ k∈p.kids,LbX K (a+b) (Jj KidOf.at_ (fun a b:Kid=> ⟨a.at_,(f a.e b.e).x⟩) q.kids k).e k.e:=by
  intro k hk
  rcases ZcC (at_:=KidOf.at_) (f:=fun a b:Kid=> ⟨a.at_,(f a.e b.e).x⟩) (q:=q.kids) (a:=k) with e | ⟨y,hy,_,e⟩
  ·rw [e]
   exact .self ⟨Yh _ _ _ (by decide) (ZD rp.kids k hk).2,(YF gp.2.2.2.1 hk).2⟩ (Z2z _ _ (Qd _) (by omega) (tp.2.1 k hk))
  ·rw [e];exact hf k hk y hy
 have hat:∀ k:Kid,(Jj KidOf.at_ (fun a b:Kid=> ⟨a.at_,(f a.e b.e).x⟩) q.kids k).at_=k.at_:=fun k=> Z9w (at_:=KidOf.at_) (f:=fun a b:Kid=> ⟨a.at_,(f a.e b.e).x⟩) (fun _ _=> rfl) q.kids k
 refine ZsE (by omega) p2 (Z5o (Z9w ZfJ _) (ZbP rp.words)) (Z5o hat (ZfS rp.kids)) (fun w hw=> ?_) (fun k hk=> ?_) ?_
 ·obtain ⟨v,hv,rfl⟩:=Xz.1 hw
  have A:=JH rp.words v hv
  have R:=gp.2.2.1 v hv
  rcases ZcC (at_:=WEdit.at_) (f:=Z3I) (q:=q.words) (a:=v) with e | ⟨y,hy,_,e⟩
  ·rw [e];exact ⟨R,A.2.1,A.2.2.2.1,A.2.2.2.2⟩
  ·rw [e]
   obtain ⟨r1,r2,r3⟩:=ZnL (b:=y) R
   exact ⟨r1,by rw [ZfJ];exact A.2.1,r2,r3⟩
 ·obtain ⟨v,hv,rfl⟩:=Xz.1 hk
  have A:=(ZD rp.kids v hv).1
  have H:=hcut v hv
  rw [hat]
  exact ⟨A.2.1,(YF gp.2.2.2.1 hv).1,H.wk,H.th⟩
 ·rw [X9]
  have key:∀ l:List Kid,(∀ k∈l,k∈p.kids)->Z2M K (l.map (Jj KidOf.at_ (fun a b:Kid=> ⟨a.at_,(f a.e b.e).x⟩) q.kids))<=Z2M K l:=by
   intro l
   induction l with
   | nil=> intro _;exact Qd _
   | cons k r ih=>
    intro hl
    have:=(hcut k (hl k Q5)).ow
    have:=ih fun x hx=> hl x (Q4 _ hx)
    simp only [QW,Z2M,Zfl]
    omega
  exact Nat.add_le_add_left (key p.kids fun _ h=> h) _
theorem Zh4{l:List Op}(h:∀ o∈l,ZO o)(hs:Yy l < 1048576/\Y7 l < 1048576):Z0O l 0 < 1048576/\Z0N l 0 < 1048576:=by
 have nn:∀ o∈l,0<=Z1 o:=fun o ho=> by have:=Zw (h o ho);omega
 have a:=(JW l 0 nn (by decide) (by decide)).1
 have b:=(Z0s l 0 nn (by decide) (by decide)).1
 omega
theorem Z1E{e:Edit}(w:Wk e):∀ o∈e.ops,OkO e.list o:=by
 intro o ho
 have r:=rightOs_mem (Zr w.r).ops ho
 exact ⟨J6 w.r o ho,r,Z0U (Yg w.g).2.2.2.2 ho⟩
theorem ZsF{list T:Int}{l:List Op}{A B:Int}{W:Nat}{p:Edit}(hT:0<=T)(hli:2<=list/\list<=9)(h:OpsX K list T l A B W)(hA:A<=T)(hB:B<=T)(h1:T < 1048576)(p3:p.kind=3)(hp:p.list=list)(hW:W<=Z29 K p.ops):LbX K T (Z1c list l) p:=by
 unfold Z1c
 split
 ·have la:=h.la;have lb:=h.lb
  obtain ⟨k1,k2⟩:=Zh4 (fun o ho=> (h.ok o ho).1.1) (l:=l) ⟨by omega,by omega⟩
  refine ⟨⟨Zkm hli (Zak fun o ho=> (h.ok o ho).1.2.1) k1 k2,?_⟩,?_,?_,.inr (.inr ⟨by rw [p3];rfl,.inr p3⟩)⟩
  ·exact ⟨Yt (by decide) (by decide),Z5P,Z5P,fun w hw=> (by cases hw),Yt (by omega) (by omega),trivial,ZeR fun o ho=> (h.ok o ho).1.2.2⟩
  ·rw [Jw]
   exact ⟨⟨by show Yy l<=T;omega,by show Y7 l<=T;omega⟩,fun k hk=> (by cases hk),fun o ho=> (h.ok o ho).2⟩
  ·have e:=ZdH (K:=K) p
   have m1:=Zcs p.old;have m2:=Zcs p.new
   have:=h.ow
   simp only [owE,Z2M,Tree.nil,Zj,Z4,Qb]
   omega
 ·exact .nil hT p
theorem Zw6 {f:Edit->Edit->Lft} {a b:Int} (ha:0<=a) (hb:0<=b) (hab:a+b < 1048576) {p q:Edit} (wp:Wk p) (wq:Wk q) (tp:Yc a p) (tq:Yc b q) (p3:p.kind=3) (hl:p.list=q.list)
  (hf:∀ x∈p.ops,∀ y∈q.ops,x.kind=3->y.kind=3->LbX K (a+b) (f x.e y.e).x x.e):LbX K (a+b) (Z35 f p q).x p:=by
 have rp:=Zr wp.r
 have hli:=rp.list p3
 rw [Jw] at tp tq
 unfold Z35
 by_cases hc:(ZG 2 2 p.ops q.ops []).2.1=true
 ·rw [if_pos hc]
  obtain ⟨ps,e,hL⟩:=Zba (f:=f) _ p.ops q.ops [] (Qd _) hc
  rw [e,QH]
  have S:=Zwb (K:=K) hli ha hb (hL [] []) (fun o ho=> ⟨Z1E wp o ho,tp.2.2 o ho⟩) (fun o ho=> by rw [hl];exact Z1E wq o ho) hf (fun t ht=> by cases ht) (by simp only [Qb];omega)
  simp only [Qb,owL,Z4] at S
  exact ZsF (by omega) hli S (by omega) (by omega) hab p3 rfl (by omega)
 ·rw [if_neg hc]
  exact .nil (by omega) p
theorem ZsD {f:Edit->Edit->Lft} {a b:Int} (ha:0<=a) (hb:0<=b) (hab:a+b < 1048576) {p q:Edit} (wp:Wk p) (wq:Wk q) (tp:Yc a p) (tq:Yc b q)
  (hf:∀ x y,Z5 x+Z5 y < Z5 p+Z5 q->Wk x->Wk y->Yc a x->Yc b y->LbX K (a+b) (f x y).x x):LbX K (a+b) (Ya f p q).x p:=by
 by_cases p0:p.kind=0
 ·rw [lb0 (.inl p0)];exact .self wp (Z2z _ _ (Qd _) (by omega) tp)
 by_cases q0:q.kind=0
 ·rw [lb0 (.inr q0)];exact .self wp (Z2z _ _ (Qd _) (by omega) tp)
 by_cases p1:p.kind=1
 ·rw [lb1 p1 q0];exact .nil (by omega) p
 by_cases q1:q.kind=1
 ·rw [ZtD p0 p1 q1];exact .nil (by omega) p
 by_cases hd:p.kind≠q.kind\/p.list≠q.list
 ·rw [lbd p0 p1 q0 q1 hd];exact .nil (by omega) p
 have hk:p.kind=q.kind:=by omega
 have hl:p.list=q.list:=by omega
 have rp:=Zr wp.r
 have rq:=Zr wq.r
 have tp':=Jw.1 tp
 have tq':=Jw.1 tq
 by_cases p2:p.kind=2
 ·rw [lb2 p2 (by omega) hl]
  refine ZvX ha hb wp wq tp p2 fun x hx y hy=> ?_
  have:=Yo hx;have:=Yo hy
  exact hf _ _ (by omega) ⟨Yh _ _ _ (by decide) (ZD rp.kids x hx).2,(YF (Yg wp.g).2.2.2.1 hx).2⟩ ⟨Yh _ _ _ (by decide) (ZD rq.kids y hy).2,(YF (Yg wq.g).2.2.2.1 hy).2⟩ (tp'.2.1 x hx) (tq'.2.1 y hy)
 ·have kp:=rp.kind
  rw [lb3 hk p0 p1 p2 hl]
  refine Zw6 ha hb hab wp wq tp tq (by omega) hl fun x hx y hy kx ky=> ?_
  have:=Jd hx;have:=Jd hy
  exact hf _ _ (by omega) ((Z3x (Z1E wp x hx) kx).1.2.2.2) ((Z3x (Z1E wq y hy) ky).1.2.2.2) (tp'.2.2 x hx) (tq'.2.2 y hy)
theorem Zw9{a b:Int}(ha:0<=a)(hb:0<=b)(hab:a+b < 1048576):∀ (n:Nat) (p q:Edit),Z5 p+Z5 q<=n->Wk p->Wk q->Yc a p->Yc b q->LbX K (a+b) (lbF n p q).x p:=by
 intro n
 induction n with
 | zero=> intro p q h;obtain ⟨k,o,nw,w,ks,l,os⟩:=p;simp only [Z5] at h;omega
 | succ n ih=>
  intro p q hn wp wq tp tq
  exact ZsD ha hb hab wp wq tp tq fun x y hxy wx wy tx ty=> ih x y (by omega) wx wy tx ty
theorem Zwa{a b:Int}(ha:0<=a)(hb:0<=b)(hab:a+b < 1048576){p q:Edit}(wp:Wk p)(wq:Wk q)(tp:Yc a p)(tq:Yc b q):LbX K (a+b) (lbE p q).x p/\LbX K (a+b) (lbE p q).y q:=by
 refine ⟨Zw9 ha hb hab _ p q (Qd _) wp wq tp tq,?_⟩
 have h:=Zw9 (K:=K) hb ha (by omega) _ q p (Qd _) wq wp tq tp
 rw [show lbF (Z5 q+Z5 p) q p=lbE q p from rfl,ZfM wp.r wq.r] at h
 rw [Int.add_comm]
 exact h
theorem Zob{T:Int}(hT:0<=T)(hK:16+68*T.toNat<=K):∀ (n:Nat) (e:Edit),Z5 e<=n->Wk e->Yc T e->ctE e<=owE K e:=by
 intro n
 induction n with
 | zero=> intro e h;obtain ⟨k,o,nw,w,ks,l,os⟩:=e;simp only [Z5] at h;omega
 | succ n ih=>
  intro e hn we te
  have re:=Zr we.r
  have te':=Jw.1 te
  have hc:=Z3S e
  have ho:=ZdH (K:=K) e
  have kids:∀ l:List Kid,(∀ k∈l,k∈e.kids)->Z1W l<=Z2M K l:=by
   intro l
   induction l with
   | nil=> intro _;exact Qd _
   | cons k r ihl=>
    intro hl
    have hk:=hl k Q5
    have:=Yo hk
    have h1:=ih k.e (by omega) ⟨Yh _ _ _ (by decide) (ZD re.kids k hk).2,(YF (Yg we.g).2.2.2.1 hk).2⟩ (te'.2.1 k hk)
    have h2:=ihl fun x hx=> hl x (Q4 _ hx)
    simp only [Z1W,Z2M,Zfl,Zg7]
    omega
  have lens:∀ l:List Op,(∀ o∈l,o∈e.ops)->(l.length:Int)<=Yy l+Y7 l/\YJ l<=Z29 K l+34*l.length:=by
   intro l
   induction l with
   | nil=> intro _;simp [YJ,Yy,Y7]
   | cons o r ihl=>
    intro hl
    obtain ⟨h1,h2⟩:=ihl fun x hx=> hl x (Q4 _ hx)
    have hm:=hl o Q5
    have hO:=Z1E we o hm
    have h4:=Zw hO.1
    simp only [YJ,Z29,Yy,Y7,Q9]
    refine ⟨?_,?_⟩
    ·by_cases k1:o.kind=1
     ·rw [if_neg (show ¬o.kind=2 by omega),if_pos k1];omega
     ·rw [if_neg k1];split <;> omega
    ·have e1:=Z1K o
     have e2:=Z0K (K:=K) o
     by_cases k3:o.kind=3
     ·have:=Jd hm
      obtain ⟨⟨_,_,_,w⟩,hl⟩:=Z3x hO k3
      have h1:=ih o.e (by omega) w (te'.2.2 o hm)
      rw [if_pos k3] at e2
      have:Z4 o.l=0:=by rw [hl];try rfl
      omega
     ·have he:ctE o.e=18:=by
       rcases hO.1 with h | h | h
       ·rw [h.2.2.2];try rfl
       ·rw [h.2.2.2];try rfl
       ·omega
      rw [if_neg k3] at e2
      unfold owL at e2
      omega
  obtain ⟨l1,l2⟩:=lens e.ops fun _ h=> h
  have l3:=kids e.kids fun _ h=> h
  have t1:=te'.1
  have l4:e.ops.length<=2*T.toNat:=by omega
  omega
mutual
theorem Z65(K:Nat):∀ e:Edit,owE K e+65700<=(131402+K)*Z5 e
 | .mk k o n w ks l os=> by
  have h1:=ZmL K ks
  have h2:=ZmK K os
  have w1:Zj o<=(131402+K)*Zj o:=Nat.le_mul_of_pos_left _ (by omega)
  have w2:Zj n<=(131402+K)*Zj n:=Nat.le_mul_of_pos_left _ (by omega)
  have w3:65600*w.length<=(131402+K)*w.length:=Qa _ (by omega)
  simp only [owE,Z5,Nat.mul_add]
  omega
theorem ZmL(K:Nat):∀ ks:List (KidOf Edit),Z2M K ks<=(131402+K)*ZN ks
 | []=> X2 _
 | ⟨a,e⟩ ::r=> by
  have h1:=Z65 K e
  have h2:=ZmL K r
  simp only [Z2M,ZmM,ZN,Jn,Nat.mul_add]
  omega
theorem ZmK(K:Nat):∀ os:List (OpOf Edit),Z29 K os<=(131402+K)*Zg os
 | []=> X2 _
 | ⟨k,n,l,e⟩ ::r=> by
  have h1:=Z65 K e
  have h2:=ZmK K r
  have h3:=Zt l
  have w1:101*Z4 l<=(131402+K)*Z4 l:=Qa _ (by omega)
  simp only [Z29,ZgM,owL,Zg,Zs,Nat.mul_add]
  split <;> omega
end
end Go.AM.Ytpjenobkibfpcaa
namespace Go.AM.Ytpjenobkibfpcaa
open Go.AM Go.Proofs
theorem Z4j(n:Int):(Jx n).length<=1:=by unfold Jx;split <;> simp
theorem Z3G:∀ {ks:List Kid},YQ ks=true->∀ k∈ks,ZU k.e=true
 | [],_,k,hk=> by cases hk
 | a ::r,h,k,hk=> by
  rw [YQ,Q1] at h
  rcases Qc.1 hk with rfl | hk
  ·obtain ⟨_,e⟩:=k;exact h.1
  ·exact Z3G h.2 k hk
theorem Z3F:∀ {os:List Op},ZI os=true->∀ o∈os,ZU o.e=true
 | [],_,k,hk=> by cases hk
 | a ::r,h,k,hk=> by
  rw [ZI,Q1] at h
  rcases Qc.1 hk with rfl | hk
  ·obtain ⟨_,_,_,e⟩:=k;exact h.1
  ·exact Z3F h.2 k hk
theorem Z2P:∀ (n:Nat) (e:Edit) (d:Int),Z5 e<=n->Z6 e d=true->ZU e=true->ZU (ZE e)=true
 | 0,e,d,hn,_,_=> by
  have:3<=Z5 e:=Z8s e
  omega
 | n+1,e,d,hn,hr,hl=> by
  have ra:=Zr hr
  have hops:=Z0q.1 ra.ops
  rw [Z4i] at hl
  simp only [Q1,decide_eq_true_eq] at hl
  have hz:∀ (k:Int) (o m:Tree) (w:List WEdit) (l:Int),ZU (.mk k o m w [] l [])=true:=by
   intro k o m w l
   rw [ZU]
   simp [Z0O,Z0N,YQ,ZI]
  rw [Z4c]
  split
  ·exact hz _ _ _ _ _
  ·split
   ·rw [ZU]
    simp only [Z0O,Z0N,ZI,QX,Q1,decide_eq_true_eq]
    refine ⟨by simp,?_⟩
    have:∀ ks:List Kid,(∀ k∈ks,k∈e.kids)->YQ (JU ks)=true:=by
     intro ks
     induction ks with
     | nil=> intro _;rfl
     | cons k r ih=>
      intro h
      rw [JU,YQ,ih fun x hx=> h x (Q4 _ hx),QX]
      have hk:=h k Q5
      have hm:=Yo hk
      obtain ⟨a,x⟩:=k
      exact Z2P n x (d - 1) (by have hm:Z5 x < Z5 e:=hm;omega) (ZD ra.kids _ hk).2 (Z3G hl.1.2 _ hk)
    exact this e.kids fun _ h=> h
   ·split
    ·rename_i k3
     have hsA:=JW e.ops 0 (fun x hx=> Z0J (Z7k (hops x hx))) (by omega) (by omega)
     have hsB:=Z0s e.ops 0 (fun x hx=> Z0J (Z7k (hops x hx))) (by omega) (by omega)
     have hlen:=ra.len
     have hsn:=ZcS e.list e.ops (d - 1) ⟨[],[],[]⟩ ra.ops
     have hfl:=Z3V (ZP e.list e.ops ⟨[],[],[]⟩)
     have hrn:=YO e d hr
     rw [Z4c,if_neg (by omega),if_neg (by omega),if_pos k3] at hrn
     have rn:=Zr hrn
     have nops:=Z0q.1 rn.ops
     simp only [Edit.ops_mk,Edit.list_mk] at nops
     have nsA:=JW (Z0 (ZP e.list e.ops ⟨[],[],[]⟩)).out 0 (fun x hx=> Z0J (Z7k (nops x hx))) (by omega) (by omega)
     have nsB:=Z0s (Z0 (ZP e.list e.ops ⟨[],[],[]⟩)).out 0 (fun x hx=> Z0J (Z7k (nops x hx))) (by omega) (by omega)
     have hs0:sA ⟨[],[],[]⟩=0/\sB ⟨[],[],[]⟩=0:=⟨rfl,rfl⟩
     rw [ZU]
     simp only [YQ,QX,Q1,decide_eq_true_eq]
     refine ⟨by omega,?_⟩
     have hw:∀ (os:List Op),(∀ o∈os,o∈e.ops)->∀ w:Wst,ZI w.out=true->ZI (ZP e.list os w).out=true:=by
      intro os
      induction os with
      | nil=> intro _ w hw;exact hw
      | cons o r ih=>
       intro h w hw
       rw [ZP]
       refine ih (fun x hx=> h x (Q4 _ hx)) _ ?_
       have hm:=h o Q5
       rw [Z2d]
       split
       ·exact light_keep _ _ hw
       ·split
        ·exact hw
        ·split
         ·exact hw
         ·split
          ·rename_i k3'
           split
           ·exact light_keep _ _ hw
           ·dsimp only
            rw [light_app,light_flush _ hw,Qz,ZI,ZI,QX]
            have:=Jd hm
            exact Z2P n o.e (d - 1) (by omega) (J3 (hops o hm) k3') (Z3F hl.2 _ hm)
          ·exact hw
     exact light_flush _ (hw e.ops (fun _ h=> h) _ rfl)
    ·exact hz _ _ _ _ _
where
 light_app:∀ (a b:List Op),ZI (a++b)=(ZI a && ZI b)
  | [],b=> rfl
  | o ::r,b=> by rw [Qs,ZI,ZI,light_app r b,Bool.and_assoc]
 light_nil:ZU Edit.nil=true:=by decide
 light_flush (w:Wst) (h:ZI w.out=true):ZI (Z0 w).out=true:=by
  unfold Z0 Z0e
  dsimp only
  rw [light_app,light_app,h,Qz]
  split <;> split <;> simp [ZI,Z6j,light_nil]
 light_keep (w:Wst) (n:Int) (h:ZI w.out=true):ZI (ZL w n).out=true:=by
  unfold ZL
  dsimp only
  have h:=light_flush w h
  rcases Jg (Z0 w).out n with e | ⟨a,o,e1,e2,e3⟩
  ·rw [e,light_app,h];simp [ZI,Z6j,light_nil]
  ·rw [e3,light_app]
   rw [e1,light_app,Q1] at h
   rw [h.1]
   obtain ⟨_,_,_,x⟩:=o
   simpa [ZI,Z6j] using h.2
instance decStep:DecidableEq PStep:=fun a b=> decidable_of_iff (a.kind=b.kind/\a.at_=b.at_) (by cases a;cases b;simp)
def Zmv(p q:Edit):Prop:=JR p/\JR q/\∃ a b:Int,(0<=a/\0<=b/\a+b < 1048576)/\(Yc a (ZE p)/\Yc b (ZE q))/\owE (16+68*(a+b).toNat) (ZE p)<=9000000000/\owE (16+68*(a+b).toNat) (ZE q)<=9000000000
theorem Z61{e:Edit}(h:JR e):JR (ZE e):=by
 obtain ⟨c,g,d,r⟩:=h
 exact ⟨QY (Zhs e) c,Z26 e d r g,d,YO e d r⟩
theorem Zih{p q:Edit}(h:Zmv p q):(JR (ZE p)/\JR (ZE q))/\JR (lbE (ZE p) (ZE q)).x/\JR (lbE (ZE p) (ZE q)).y:=by
 obtain ⟨hp,hq,a,b,⟨ha,hb,hab⟩,⟨tp,tq⟩,wp,wq⟩:=h
 have hp':=Z61 hp
 have hq':=Z61 hq
 obtain ⟨X,Y⟩:=Zwa (K:=16+68*(a+b).toNat) ha hb hab (Zif hp') (Zif hq') tp tq
 have c1:=Zob (K:=16+68*(a+b).toNat) (show 0<=a+b by omega) (Qd _) _ _ (Qd _) X.wk X.th
 have c2:=Zob (K:=16+68*(a+b).toNat) (show 0<=a+b by omega) (Qd _) _ _ (Qd _) Y.wk Y.th
 have o1:=X.ow
 have o2:=Y.ow
 exact ⟨⟨hp',hq'⟩,⟨by omega,X.wk.g,-1,X.wk.r⟩,⟨by omega,Y.wk.g,-1,Y.wk.r⟩⟩
theorem Z9N:∀ (n:Nat) (e:Edit),Z5 e<=n->Wk e->ZU e=true->Yc 2000 e:=by
 intro n
 induction n with
 | zero=> intro e h;obtain ⟨k,o,nw,w,ks,l,os⟩:=e;simp only [Z5] at h;omega
 | succ n ih=>
  intro e hn we h
  have re:=Zr we.r
  rw [Z4i,Q1,Q1,decide_eq_true_eq] at h
  obtain ⟨⟨⟨h1,h2⟩,h3⟩,h4⟩:=h
  have nn:∀ o∈e.ops,0<=Z1 o:=fun o ho=> by have:=Zw (Z1E we o ho).1;omega
  have a:=(JW e.ops 0 nn (by decide) (by decide)).1
  have b:=(Z0s e.ops 0 nn (by decide) (by decide)).1
  rw [Jw]
  refine ⟨⟨by omega,by omega⟩,fun k hk=> ?_,fun o ho=> ?_⟩
  ·have:=Yo hk
   exact ih k.e (by omega) ⟨Yh _ _ _ (by decide) (ZD re.kids k hk).2,(YF (Yg we.g).2.2.2.1 hk).2⟩ (Z3G h3 k hk)
  ·have:=Jd ho
   by_cases k3:o.kind=3
   ·exact ih o.e (by omega) (Z3x (Z1E we o ho) k3).1.2.2.2 (Z3F h4 o ho)
   ·have:o.e=Edit.nil:=by
     rcases (Z1E we o ho).1 with h | h | h
     ·exact h.2.2.2
     ·exact h.2.2.2
     ·omega
    rw [this];exact Z1X (by decide)
theorem Zdo{p q:Edit}{d d':Int}(rp:Z6 p d=true)(rq:Z6 q d'=true)(gp:Yz p)(gq:Yz q)(lp:ZU p=true)(lq:ZU q=true)(mp:Z5 p<=20000)(mq:Z5 q<=20000):Zmv p q:=by
 have cp:=Z9x p
 have cq:=Z9x q
 have np:=Z4h p
 have nq:=Z4h q
 have op:=Z65 (16+68*((2000:Int)+2000).toNat) (ZE p)
 have oq:=Z65 (16+68*((2000:Int)+2000).toNat) (ZE q)
 have e:((2000:Int)+2000).toNat=4000:=rfl
 rw [e] at op oq
 refine ⟨⟨by omega,gp,d,rp⟩,⟨by omega,gq,d',rq⟩,2000,2000,⟨by decide,by decide,by decide⟩,⟨?_,?_⟩,?_,?_⟩
 ·exact Z9N _ _ (Qd _) (.of (YO p d rp) (Z26 p d rp gp)) (Z2P _ p d (Qd _) rp lp)
 ·exact Z9N _ _ (Qd _) (.of (YO q d' rq) (Z26 q d' rq gq)) (Z2P _ q d' (Qd _) rq lq)
 ·rw [e];omega
 ·rw [e];omega
noncomputable section
def ZjH:ArgL (WEdit × Int × Unit):=(.cons (aEl .wedit) (.cons (Jv .u8) .nil))
def ZaE(a:WEdit × Int × Unit):Prop:=wOk a.1/\0<=a.2.1/\a.2.1 < 256
def Zgz(a:WEdit × Int × Unit):V U:= .tup [(true,(enc .wedit ((Zcw a.1 a.2.1).1))),(false,[.bool ((Zcw a.1 a.2.1).2)])]
def Z97:Fs U:=fs ZjH (fun a=> [ZaE a]) Zgz
def Zep:ArgM ((Bool × Bool × Unit) × WEdit × WEdit × Unit):=(.obj 0 (.cons Z0E (.cons Z0E .nil)) (.cons (aEl .wedit) (.cons (aEl .wedit) .nil)))
def ZdD(a:(Bool × Bool × Unit) × WEdit × WEdit × Unit):Prop:=wOk a.2.1/\wOk a.2.2.1
def Zmj(a:(Bool × Bool × Unit) × WEdit × WEdit × Unit):V U:= .tup []
def Z5W(a:(Bool × Bool × Unit) × WEdit × WEdit × Unit):List (List (C U)):=[[.bool (a.1.1 || (!(Yx a.2.1 a.2.2.1) && Z07 a.2.1 a.2.2.1)),.bool (a.1.2.1 || Yx a.2.1 a.2.2.1)]]
def Z98:Fs U:=fsX Zep (fun a=> [ZdD a]) Zmj Z5W
def Zdv(a:List Tree × Unit):Prop:=True
def Zdd(a:List Tree × Unit):V U:= .c (sU .op (Z36 a.1) (.own (.r 0 0)))
def Z5C:Fs U:=fs ZjK (fun a=> [Zdv a]) Zdd
def Zdu(a:Edit × Unit):Prop:=True
def Zdc(a:Edit × Unit):V U:= .agg (enc .op (Z4L a.1))
def Z90:Fs U:=fs ZjR (fun a=> [Zdu a]) Zdc
def ZjO:ArgL Unit:= .nil
def Z7p(a:Unit):Prop:=True
def ZgB(a:Unit):V U:= .tup [(true,(enc .edit Edit.nil)),(true,(enc .edit Edit.nil))]
def Z9a:Fs U:=fs ZjO (fun a=> [Z7p a]) ZgB
def Zem:ArgM ((Unit × List Op × List Op × List Tree × List Tree × Unit) × Edit × Tree × (Bool × Bool × Unit) × Unit):=(.obj 0 (.cons (cXp 1) (.cons (Z2s .op 0 1) (.cons (Z2s .op 0 2) (.cons (Z2s .tree 0 3) (.cons (Z2s .tree 0 4) .nil))))) (.cons (aEl .edit) (.cons (aEl .tree) (.hid (.cons Z0E (.cons Z0E .nil)) .nil))))
def ZaA(a:(Unit × List Op × List Op × List Tree × List Tree × Unit) × Edit × Tree × (Bool × Bool × Unit) × Unit):Prop:=(Z5 a.2.1<=20000000000/\Yz a.2.1/\∃ d,Z6 a.2.1 d=true)/\Zj a.2.2.1+ctE a.2.1<=200000000000/\rng a.2.2.1
def Zmg(a:(Unit × List Op × List Op × List Tree × List Tree × Unit) × Edit × Tree × (Bool × Bool × Unit) × Unit):V U:= .tup []
def Z9c(a:(Unit × List Op × List Op × List Tree × List Tree × Unit) × Edit × Tree × (Bool × Bool × Unit) × Unit):List (List (C U)):=[[.xp 1,sU .op a.1.2.1 (.own (.x 0 1)),sU .op a.1.2.2.1 (.own (.x 0 2)),sU .tree a.1.2.2.2.1 (.own (.x 0 3)),sU .tree a.1.2.2.2.2.1 (.own (.x 0 4))],[.bool true,.bool (a.2.2.2.1.2.1 || !(doE false a.2.1 a.2.2.1).isSome)]]
def Z91:Fs U:=fsX Zem (fun a=> [ZaA a]) Zmg Z9c
def Zj8:List (FuncId × Fs U):=[(66,Z5K)]
def Znq:Ze U:=lvl [([1,2,4],[2,4]),([1,2,4],[2,4]),([4,5],[4])]
abbrev ZxC(p:List Nat):=AW (Z2 Zj8) Try.f155 Znq p
theorem Zvy(w:WEdit)(m:Int)(Q:QT)(h:let z0:=IntKind.wrap .u8 (BitVec.ofInt (IntKind.bits .u8) m &&& BitVec.ofInt (IntKind.bits .u8) w.mask).toNat;((ZdE (0,w.old,z0,()))/\(ZdE (0,w.new,z0,()))/\(Q .ret (L2 [pL 4,(5,.c (.bool ((z0:Int) !=0)))] [(.loc 4,[ci w.at_,.int .u8 z0,.int .u64 (mix 0 w.old z0),.int .u64 (mix 0 w.new z0)])])))):
  ZxC [] (L2 [(0,.agg (enc .wedit w)),(1,.c (.int .u8 m))] []) Q:=
 Eq.mpr (by kernel_rfl) h
def Zrl(w:WEdit)(m:Int):Prop:=AW (Z2 Zj8) Try.f155 Znq [] (Zk (ZjH.can (w,m,())) []) (EQ Try.f155 (Zgz (w,m,())) [])
theorem Zq4(c66:CT 66 Z5K)(hb:∀ (w:WEdit) (m:Int) (_:Unit),ZaE (w,m,())->Zrl w m):CT 155 Z97:=
 Z3 (l:=[(66,Z5K)]) Zl rfl (⟨c66,trivial⟩) Znq Try.func155 rfl rfl 2 (fun _=> rfl) (by decide) (fun ⟨w,m,_⟩=> hb w m ())
def Znr:Ze U:=fun i=> match i with
 | 0=> ([(0,[]),(4,[]),(5,[])],[(.loc 4,[]),(.loc 5,[]),(.x 0,[])])
 | 1=> ([(0,[]),(4,[]),(5,[]),(6,[])],[(.loc 4,[]),(.loc 5,[]),(.x 0,[])])
 | 2=> ([(0,[]),(4,[]),(5,[]),(6,[]),(12,[])],[(.loc 4,[]),(.loc 5,[]),(.x 0,[])])
 | 3=> ([],[(.x 0,[])])
 | 4=> ([(0,[]),(25,[])],[(.x 0,[])])
 | 5=> ([],[(.x 0,[])])
 | _=> ([],[])
abbrev ZxD(p:List Nat):=AW (Z2 Zj8) Try.f154 Znr p
theorem Zvz(mc ma:Bool)(p q:WEdit)(Q:QT)(h:∀ y_1,y_1=(BitVec.ofInt (IntKind.bits .u8) p.mask &&& BitVec.ofInt (IntKind.bits .u8) q.mask)->let z0:=IntKind.wrap .u8 y_1.toNat;let z2:=((mix 0 p.old z0):Int) !=(mix 0 q.old z0);let z1:=((mix 0 p.new z0):Int) !=(mix 0 q.new z0);((ZdE (0,p.old,z0,()))/\(ZdE (0,q.old,z0,()))/\((z2=true->(Q .normal (L2 [] [(.x 0,[.bool mc,.bool true])])))/\(z2=false->(ZdE (0,p.new,z0,()))/\(ZdE (0,q.new,z0,()))/\((z1=true->(Q .normal (L2 [] [(.x 0,[.bool true,.bool ma])])))/\(z1=false->Q .normal (L2 [(0,.ptr (.x 0) 0),(25,.c (.bool z1))] [(.x 0,[.bool mc,.bool ma])]))))))):
  ZxD [] (L2 [(0,.ptr (.x 0) 0),(1,.agg (enc .wedit p)),(2,.agg (enc .wedit q))] [(.x 0,[.bool mc,.bool ma])]) Q:=
 Eq.mpr (by kernel_rfl) (h _ rfl)
def Zrm(mc ma:Bool)(p q:WEdit):Prop:=AW (Z2 Zj8) Try.f154 Znr [] (Zk (Zep.can ((mc,ma,()),p,q,())) (Zep.canX ((mc,ma,()),p,q,()))) (EQ Try.f154 (Zmj ((mc,ma,()),p,q,())) (Z5W ((mc,ma,()),p,q,())))
theorem Zq5(c66:CT 66 Z5K)(hb:∀ (mc:Bool) (ma:Bool) (p:WEdit) (q:WEdit) (_:Unit),ZdD ((mc,ma,()),p,q,())->Zrm mc ma p q):CT 154 Z98:=
 Y5 (l:=[(66,Z5K)]) Zl rfl (⟨c66,trivial⟩) Znr Try.func154 rfl rfl 3 (fun _=> rfl) (by decide) (fun ⟨⟨mc,ma,_⟩,p,q,_⟩=> hb mc ma p q ())
def Znf:Ze U:=lvl [([0],[]),([0,5],[]),([2],[]),([2],[])]
abbrev Zxs(p:List Nat):=AW (Z2 Zhc) Try.f178 Znf p
theorem Zvl(l:List Tree)(Q:QT)(h:let z0:=((l.length:Int):Int)==0;((z0=true->(Q .ret (L2 [(2,.c (.nils))] [])))/\(z0=false->(Q .ret (L2 [(2,.c (sU .op ([(OpOf.mk 2 0 l (Edit.mk 0 (Tree.mk 0 [] []) (Tree.mk 0 [] []) [] [] 0 []))]) .full))] []))))):
  Zxs [] (L2 [(0,.c (sU .tree l .unk))] []) Q:=
 Eq.mpr (by kernel_rfl) h
def Zr8(l:List Tree):Prop:=AW (Z2 Zhc) Try.f178 Znf [] (Zk (ZjK.can (l,())) []) (EQ Try.f178 (Zdd (l,())) [])
theorem ZpS(hb:∀ (l:List Tree) (_:Unit),Zdv (l,())->Zr8 l):CT 178 Z5C:=
 Z3 (l:=[]) Zl rfl trivial Znf Try.func178 rfl rfl 1 (fun _=> rfl) (by decide) (fun ⟨l,_⟩=> hb l ())
def Znd:Ze U:=lvl [([1,2],[1,2]),([1,2,5],[1,2]),([2],[2]),([2],[2])]
abbrev Zxq(p:List Nat):=AW (Z2 Zhc) Try.f180 Znd p
theorem Zvj(e:Edit)(Q:QT)(h:(((e.kind==0)=true->(Q .ret (L2 [pL 2] [(.loc 2,[ci 0,ci 1,.nils,ci 0,ci 0,.nils,.nils,ci 0,.nils,.nils,.nils,.nils,ci 0,.nils])])))/\((e.kind==0)=false->(Q .ret (L2 [pL 2] [(.loc 2,([ci 3,ci 0,.nils]++enc .edit e))]))))):
  Zxq [] (L2 [(0,.agg (enc .edit e))] []) Q:=
 Eq.mpr (by kernel_rfl) h
def Zr6(e:Edit):Prop:=AW (Z2 Zhc) Try.f180 Znd [] (Zk (ZjR.can (e,())) []) (EQ Try.f180 (Zdc (e,())) [])
theorem ZpQ(hb:∀ (e:Edit) (_:Unit),Zdu (e,())->Zr6 e):CT 180 Z90:=
 Z3 (l:=[]) Zl rfl trivial Znd Try.func180 rfl rfl 1 (fun _=> rfl) (by decide) (fun ⟨e,_⟩=> hb e ())
def Zny:Ze U:=lvl [([0,1],[0,1]),([0,1],[0,1])]
abbrev ZxI(p:List Nat):=AW (Z2 Zhc) Try.f113 Zny p
theorem ZvL(Q:QT)(h:(Q .ret (L2 [pL 0,pL 1] [(.loc 0,zc1),(.loc 1,zc1)]))):
  ZxI [] (L2 [] []) Q:=
 Eq.mpr (by kernel_rfl) h
def Zry:Prop:=AW (Z2 Zhc) Try.f113 Zny [] (Zk (ZjO.can ()) []) (EQ Try.f113 (ZgB ()) [])
theorem Zqf(hb:∀ (_:Unit),Z7p ()->Zry):CT 113 Z9a:=
 Z3 (l:=[]) Zl rfl trivial Zny Try.func113 rfl rfl 0 (fun _=> rfl) (by decide) (fun _=> hb ())
def ZiW:List (FuncId × Fs U):=[(26,Z3e)]
def Zne:Ze U:=fun i=> match i with
 | 0=> ([(0,[]),(4,[]),(5,[])],[(.loc 4,[]),(.loc 5,[]),(.x 0,[]),(.x 1,[])])
 | 1=> ([(0,[]),(7,[])],[(.x 0,[]),(.x 1,[])])
 | 2=> ([(0,[]),(15,[])],[(.x 0,[]),(.x 1,[])])
 | 3=> ([(0,[])],[(.x 0,[]),(.x 1,[])])
 | 4=> ([],[(.x 0,[]),(.x 1,[])])
 | _=> ([],[])
abbrev Zxr(p:List Nat):=AW (Z2 ZiW) Try.f179 Zne p
theorem Zvk(sm_:Unit)(sx sy:List Op)(si sh:List Tree)(e:Edit)(t:Tree)(mc ma:Bool)(Q:QT)(h:let z1:=Tree.mk t.kind t.words t.kids;let z0:=Edit.mk e.kind (Tree.mk e.old.kind e.old.words e.old.kids) (Tree.mk e.new.kind e.new.words e.new.kids) e.words e.kids e.list e.ops;((Z27 (z0,z1,()))/\(((!((doE false z0 z1).isSome))=true->(Q .normal (L2 [] [(.x 0,[.xp 1,sU .op sx (.own (.x 0 1)),sU .op sy (.own (.x 0 2)),sU .tree si (.own (.x 0 3)),sU .tree sh (.own (.x 0 4))]),(.x 1,[.bool true,.bool true])])))/\((!((doE false z0 z1).isSome))=false->(Q .normal (L2 [] [(.x 0,[.xp 1,sU .op sx (.own (.x 0 1)),sU .op sy (.own (.x 0 2)),sU .tree si (.own (.x 0 3)),sU .tree sh (.own (.x 0 4))]),(.x 1,[.bool true,.bool ma])])))))):
  Zxr [] (L2 [(0,.ptr (.x 0) 0),(1,.agg (enc .edit e)),(2,.agg (enc .tree t))] [(.x 0,[.xp 1,sU .op sx (.own (.x 0 1)),sU .op sy (.own (.x 0 2)),sU .tree si (.own (.x 0 3)),sU .tree sh (.own (.x 0 4))]),(.x 1,[.bool mc,.bool ma])]) Q:=
 Eq.mpr (by kernel_rfl) h
def Zr7(sm_:Unit)(sx sy:List Op)(si sh:List Tree)(e:Edit)(t:Tree)(mc ma:Bool):Prop:=AW (Z2 ZiW) Try.f179 Zne [] (Zk (Zem.can ((sm_,sx,sy,si,sh,()),e,t,(mc,ma,()),())) (Zem.canX ((sm_,sx,sy,si,sh,()),e,t,(mc,ma,()),()))) (EQ Try.f179 (Zmg ((sm_,sx,sy,si,sh,()),e,t,(mc,ma,()),())) (Z9c ((sm_,sx,sy,si,sh,()),e,t,(mc,ma,()),())))
theorem ZpR(c26:CT 26 Z3e)(hb:∀ (sm_:Unit) (sx:List Op) (sy:List Op) (si:List Tree) (sh:List Tree) (e:Edit) (t:Tree) (mc:Bool) (ma:Bool) (_:Unit),ZaA ((sm_,sx,sy,si,sh,()),e,t,(mc,ma,()),())->Zr7 sm_ sx sy si sh e t mc ma):CT 179 Z91:=
 Y5 (l:=[(26,Z3e)]) Zl rfl (⟨c26,trivial⟩) Zne Try.func179 rfl rfl 3 (fun _=> rfl) (by decide) (fun ⟨⟨sm_,sx,sy,si,sh,_⟩,e,t,⟨mc,ma,_⟩,_⟩=> hb sm_ sx sy si sh e t mc ma ())
end
theorem Zu3:Contract Try.prog cfg 155 Z97:=by
 refine Zq4 c66 ?_
 intro w m _ hp
 simp only [ZaE] at hp
 obtain ⟨hw,hm0,hm1⟩:=hp
 refine Zvy _ _ _ ?_
 intros;(simp only [vcT,vcS])
 have rm:=(Zet ⟨hm0,hm1⟩ hw.1.2.1).1
 refine ⟨⟨⟨by omega,by omega⟩,hw.1.2.2.1,rm⟩,⟨⟨by omega,by omega⟩,hw.1.2.2.2,rm⟩,?_⟩
 have e:(IntKind.u8.wrap (BitVec.ofInt (IntKind.bits .u8) m &&& BitVec.ofInt (IntKind.bits .u8) w.mask).toNat !=0)=decide (Z2Z m w.mask≠0):=by
  show (Z2Z m w.mask !=0)=_
  by_cases h:Z2Z m w.mask=0 <;> simp [h]
 rw [e]
 simp only [Zgz,Zcw]
 (repeat' (first | exact trivial | exact rfl | apply And.intro))
theorem Zu4:Contract Try.prog cfg 154 Z98:=by
 refine Zq5 c66 ?_
 intro mc ma p q _ hp
 simp only [ZdD] at hp
 obtain ⟨hp,hq⟩:=hp
 refine Zvz _ _ _ _ _ ?_
 intro y1 hy1
 have e:IntKind.wrap .u8 y1.toNat=Z2Z p.mask q.mask:=by rw [hy1];try rfl
 (simp only [vcT,vcS])
 rw [e]
 have rm:=(Zet hp.1.2.1 hq.1.2.1).1
 have r0:(0:Int)<=0/\(0:Int) < 18446744073709551616:=⟨by omega,by omega⟩
 refine ⟨⟨r0,hp.1.2.2.1,rm⟩,⟨r0,hq.1.2.2.1,rm⟩,fun h=> ?_,fun h=> ⟨⟨r0,hp.1.2.2.2,rm⟩,⟨r0,hq.1.2.2.2,rm⟩,fun h2=> ?_,fun h2=> ?_⟩⟩
 ·have a1:Yx p q=true:=by simp [Yx,h]
  simp only [Z5W,a1,Xh,XN,Qp,Xf]
  (repeat' (first | exact trivial | exact rfl | apply And.intro))
 ·have a1:Yx p q=false:=by simp [Yx,h]
  have a2:Z07 p q=true:=by simp [Z07,h2]
  simp only [Z5W,a1,a2,Xr,Qz,Qp,Xf]
  (repeat' (first | exact trivial | exact rfl | apply And.intro))
 ·have a1:Yx p q=false:=by simp [Yx,h]
  have a2:Z07 p q=false:=by simp [Z07,h2]
  simp only [Z5W,a1,a2,Xr,Qz,Qp]
  (repeat' (first | exact trivial | exact rfl | apply And.intro))
theorem ZtU:Contract Try.prog cfg 178 Z5C:=by
 refine ZpS ?_
 intro l _ hp
 refine Zvl _ _ ?_
 (simp only [vcT,vcS])
 refine ⟨fun h=> ?_,fun h=> ?_⟩
 ·have:l=[]:=X5.1 (by omega)
  simp only [Zdd,Z36,if_pos this]
  (repeat' (first | exact trivial | exact rfl | apply And.intro))
 ·have:l≠[]:=fun e=> h (by rw [e];rfl)
  simp only [Zdd,Z36,if_neg this]
  (repeat' (first | exact trivial | exact rfl | apply And.intro))
theorem ZtS:Contract Try.prog cfg 180 Z90:=by
 refine ZpQ ?_
 intro e _ hp
 refine Zvj _ _ ?_
 (simp only [vcT,vcS])
 refine ⟨fun h=> ?_,fun h=> ?_⟩
 ·simp only [Zdc,Z4L,if_pos h]
  (repeat' (first | exact trivial | exact rfl | apply And.intro))
 ·simp only [Zdc,Z4L,if_neg h]
  (repeat' (first | exact trivial | exact rfl | apply And.intro))
theorem Zua:Contract Try.prog cfg 113 Z9a:=by
 refine Zqf ?_
 intro _ hp
 refine ZvL _ ?_
 simp only [ZgB]
 (repeat' (first | exact trivial | exact rfl | apply And.intro))
theorem ZtT:Contract Try.prog cfg 179 Z91:=by
 refine ZpR c26 ?_
 intro sm_ sx sy si sh e t mc ma _ hp
 simp only [ZaA] at hp
 refine Zvk sm_ _ _ _ _ _ _ _ _ _ ?_
 (simp only [vcT,vcS])
 simp only [Tree.eta,Edit.eta]
 refine ⟨hp,fun h=> ?_,fun h=> ?_⟩
 ·simp only [Z9c,h,Xr,Xf]
  (repeat' (first | exact trivial | exact rfl | apply And.intro))
 ·simp only [Z9c,h,Xh,Qp]
  (repeat' (first | exact trivial | exact rfl | apply And.intro))
end Go.AM.Ytpjenobkibfpcaa
