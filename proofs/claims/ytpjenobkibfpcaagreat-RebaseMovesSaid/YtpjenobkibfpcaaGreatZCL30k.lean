import Derived.Test.YtpjenobkibfpcaaGreatZCD30b
import Derived.Test.YtpjenobkibfpcaaGreatZKG21b
import Derived.Test.YtpjenobkibfpcaaGreatZCL25i
import Derived.Test.YtpjenobkibfpcaaGreatZKD24
import Derived.Test.YtpjenobkibfpcaaGreatZKG22d
import Derived.Test.YtpjenobkibfpcaaGreatZKG22a
set_option linter.unusedSimpArgs false
set_option linter.unusedVariables false
namespace Go.AM.YtpjenobkibfpcaaGreat
open Go.AM Go.Proofs
structure POk2 (p q:List Op) (x:Piece):Prop where
 of:x.of=0\/x.of=1\/x.of=2
 pp:x.of≠2->Part p x.p/\ZC x.p
 qq:x.of≠1->Part q x.q/\ZC x.q
 one:x.of=1->x.p.kind=2
 two:x.of=2->x.q.kind=2
 both:x.of=0->x.p.kind≠2/\x.q.kind≠2/\Z6 x.p=Z6 x.q
 pn:x.of=2->x.p=Op.nil
 qn:x.of=1->x.q=Op.nil
theorem POk2.mono{p q p' q':List Op}{x:Piece}(h:POk2 p q x)(hp:∀ x∈p,Part p' x)(hq:∀ x∈q,Part q' x):POk2 p' q' x:=
 ⟨h.of,fun e=> ⟨(h.pp e).1.mono hp,(h.pp e).2⟩,fun e=> ⟨(h.qq e).1.mono hq,(h.qq e).2⟩,h.one,h.two,h.both,h.pn,h.qn⟩
theorem Zb2:∀ (k:Nat) (p q:List Op) (out:List Piece),p.length+q.length<=k->(∀ o∈p,ZC o)->(∀ o∈q,ZC o)->
  ((ZH 2 2 p q out).2.1=true->∃ ps,(ZH 2 2 p q out).1=out++ps/\(∀ x∈ps,POk2 p q x)/\(∀ s m,Run p s m↔Run (Z7S ps) s m)/\∀ s m,Run q s m↔Run (Z7R ps) s m)/\
  ((ZH 2 2 p q out).2.1=false->∀ s u v,Run p s u->Run q s v->False):=by
 intro k
 induction k with
 | zero=>
  intro p q out hk hp hq
  have e1:p=[]:=Q4 YS
  have e2:q=[]:=Q4 YS
  subst e1 e2
  have e:ZH 2 2 [] [] out=(out,true,[],[]):=by
   rw [ZH,dif_neg (by simp [sgl]),dif_neg (by simp [sgl]),dif_pos (by simp)]
   try rfl
  rw [e]
  exact ⟨fun _=> ⟨[],by simp,fun x hx=> (by cases hx),fun s m=> QY,fun s m=> QY⟩,fun h=> by cases h⟩
 | succ k ih=>
  intro p q out hk hp hq
  rw [ZH]
  by_cases h1:sgl 2 p=true
  .rw [dif_pos h1]
   obtain ⟨g1,g2⟩:=YE.1 h1
   cases p with
   | nil=> exact absurd rfl g1
   | cons a p'=>
    simp only [Ql] at g2
    simp only [Ql,Qq,QH]
    have ha:=hp a Q2
    obtain ⟨i1,i2⟩:=ih p' q (out++[⟨1,a,Op.nil⟩]) (by simp only [Q6] at hk;omega) (fun o ho=> hp o (Q1 _ ho)) hq
    refine ⟨fun h=> ?_,fun h s u v r1 r2=> ?_⟩
    .obtain ⟨ps,e,hps,hP,hQ⟩:=i1 h
     refine ⟨⟨1,a,Op.nil⟩ ::ps,by rw [e,Qa];rfl,fun x hx=> ?_,fun s m=> ?_,fun s m=> hQ s m⟩
     .rcases Qc.1 hx with rfl | hx
      .exact ⟨.inr (.inl rfl),fun _=> ⟨Part.self Q2,ha⟩,fun e=> absurd rfl e,fun _=> g2,fun e=> (by cases e),fun e=> (by cases e),fun e=> (by cases e),fun _=> rfl⟩
      .exact (hps x hx).mono (fun x hx=> Part.self (Q1 _ hx)) (fun x hx=> Part.self hx)
     .show _↔Run (a ::Z7S ps) s m
      exact Z6D hP (YX ha) s m
    .obtain ⟨d',_,hr⟩:=(Z1T g2).1 r1
     exact i2 h s d' v hr r2
  .rw [dif_neg h1]
   by_cases h2:sgl 2 q=true
   .rw [dif_pos h2]
    obtain ⟨g1,g2⟩:=YE.1 h2
    cases q with
    | nil=> exact absurd rfl g1
    | cons a q'=>
     simp only [Ql] at g2
     simp only [Ql,Qq,QH]
     have ha:=hq a Q2
     obtain ⟨i1,i2⟩:=ih p q' (out++[⟨2,Op.nil,a⟩]) (by simp only [Q6] at hk;omega) hp (fun o ho=> hq o (Q1 _ ho))
     refine ⟨fun h=> ?_,fun h s u v r1 r2=> ?_⟩
     .obtain ⟨ps,e,hps,hP,hQ⟩:=i1 h
      refine ⟨⟨2,Op.nil,a⟩ ::ps,by rw [e,Qa];rfl,fun x hx=> ?_,fun s m=> hP s m,fun s m=> ?_⟩
      .rcases Qc.1 hx with rfl | hx
       .exact ⟨.inr (.inr rfl),fun e=> absurd rfl e,fun _=> ⟨Part.self Q2,ha⟩,fun e=> (by cases e),fun _=> g2,fun e=> (by cases e),fun _=> rfl,fun e=> (by cases e)⟩
       .exact (hps x hx).mono (fun x hx=> Part.self hx) (fun x hx=> Part.self (Q1 _ hx))
      .show _↔Run (a ::Z7R ps) s m
       exact Z6D hQ (YX ha) s m
     .obtain ⟨d',_,hr⟩:=(Z1T g2).1 r2
      exact i2 h s u d' r1 hr
   .rw [dif_neg h2]
    by_cases h3:p.length=0\/q.length=0
    .rw [dif_pos h3]
     by_cases h4:p.length=0
     .have e1:p=[]:=Q4 h4
      subst e1
      by_cases h5:q.length=0
      .have e2:q=[]:=Q4 h5
       subst e2
       rw [if_pos rfl]
       exact ⟨fun _=> ⟨[],by simp,fun x hx=> (by cases hx),fun s m=> QY,fun m d=> QY⟩,fun h=> by cases h⟩
      .rw [if_neg (by rw [decide_eq_false h5];decide)]
       refine ⟨fun h=> (by cases h),fun _ s u v r1 r2=> ?_⟩
       cases q with
       | nil=> exact h5 rfl
       | cons a q'=>
        have ha:=hq a Q2
        obtain ⟨rfl,_⟩:=ZoK r1
        obtain ⟨m1,m',d',e,hl,_⟩:=Zi1 ha (fun e=> h2 (YE.2 ⟨by simp,by simpa using e⟩)) r2
        have:=Zw ha
        have e:=congrArg List.length e
        simp at e
        omega
     .have h5:q.length=0:=YS
      have e2:q=[]:=Q4 h5
      subst e2
      rw [if_neg (by rw [decide_eq_false h4];decide)]
      refine ⟨fun h=> (by cases h),fun _ s u v r1 r2=> ?_⟩
      cases p with
      | nil=> exact h4 rfl
      | cons a p'=>
       have ha:=hp a Q2
       obtain ⟨rfl,_⟩:=ZoK r2
       obtain ⟨m1,m',d',e,hl,_⟩:=Zi1 ha (fun e=> h1 (YE.2 ⟨by simp,by simpa using e⟩)) r1
       have:=Zw ha
       have e:=congrArg List.length e
       simp at e
       omega
    .rw [dif_neg h3]
     cases p with
     | nil=> simp at h3
     | cons a p'=>
      cases q with
      | nil=> simp at h3
      | cons b q'=>
       have ha:=hp a Q2
       have hb:=hq b Q2
       have ka:a.kind≠2:=fun e=> h1 (YE.2 ⟨by simp,by simpa using e⟩)
       have kb:b.kind≠2:=fun e=> h2 (YE.2 ⟨by simp,by simpa using e⟩)
       have la:=Zw ha
       have lb:=Zw hb
       simp only [Ql]
       generalize hn:min (Z6 a) (Z6 b)=n
       have hn1:1<=n:=YS
       have hna:n<=Z6 a:=YS
       have hnb:n<=Z6 b:=YS
       obtain ⟨a1,a2,a3,a4,a5,a6⟩:=Z8I hp hn1 hna
       obtain ⟨b1,b2,b3,b4,b5,b6⟩:=Z8I hq hn1 hnb
       have hlt:(Zz (a ::p') n).length+(Zz (b ::q') n).length<=k:=by
        have x1:=Yf (a ::p') n (by simp)
        have x2:=Yf (b ::q') n (by simp)
        simp only [Q6] at hk x1 x2
        rcases Int.le_total (Z6 a) (Z6 b) with h | h
        .have:=Ye (a ::p') n (by simp) (by simp only [Ql];omega)
         simp only [Q6] at this
         omega
        .have:=Ye (b ::q') n (by simp) (by simp only [Ql];omega)
         simp only [Q6] at this
         omega
       obtain ⟨i1,i2⟩:=ih (Zz (a ::p') n) (Zz (b ::q') n) (out++[⟨0,Zs a n,Zs b n⟩]) hlt (fun o ho=> (a5 o ho).1) (fun o ho=> (b5 o ho).1)
       refine ⟨fun h=> ?_,fun h s u v r1 r2=> ?_⟩
       .obtain ⟨ps,e,hps,hP,hQ⟩:=i1 h
        refine ⟨⟨0,Zs a n,Zs b n⟩ ::ps,by rw [e,Qa];rfl,fun x hx=> ?_,fun s m=> ?_,fun s m=> ?_⟩
        .rcases Qc.1 hx with rfl | hx
         .exact ⟨.inl rfl,fun _=> ⟨a4,a1⟩,fun _=> ⟨b4,b1⟩,fun e=> (by cases e),fun e=> (by cases e),fun _=> ⟨V2,V2,V2⟩,fun e=> (by cases e),fun e=> (by cases e)⟩
         .exact (hps x hx).mono (fun x hx=> (a5 x hx).2) (fun x hx=> (b5 x hx).2)
        .rw [a6 s m]
         exact Z6D hP (YX a1) s m
        .rw [b6 s m]
         exact Z6D hQ (YX b1) s m
       .rw [a6] at r1
        rw [b6] at r2
        obtain ⟨m1,s1,d1,e,hl,r3⟩:=Zi1 a1 YS r1
        obtain ⟨m2,s2,d2,e',hl',r4⟩:=Zi1 b1 YS r2
        obtain ⟨_,e2⟩:=List.append_inj (e.symm.trans e') YS
        subst e2
        exact i2 h s1 d1 d2 r3 r4
theorem Z8v{α:Type}(at_:α->Int)(n:Int):∀ (l:List α) (o:Option α),l.foldl (fun o b=> if at_ b=n then some b else o) o=match Z1b at_ l n with
  | some b=> some b
  | none=> o
 | [],o=> rfl
 | a ::r,o=> by
  unfold Z1b
  simp only [Xy]
  rw [Z8v at_ n r,Z8v at_ n r (if at_ a=n then some a else none)]
  cases Z1b at_ r n with
  | some b=> rfl
  | none=> simp only;split <;> rfl
theorem Zbl{α:Type}(at_:α->Int)(n:Int):∀ (l:List α) (b:α),Z1b at_ l n=some b->b∈l/\at_ b=n
 | [],b,h=> by cases h
 | a ::r,b,h=> by
  unfold Z1b at h
  rw [Xy,Z8v] at h
  cases hr:Z1b at_ r n with
  | some c=>
   rw [hr] at h;cases h
   obtain ⟨h1,h2⟩:=Zbl at_ n r b hr
   exact ⟨Q1 _ h1,h2⟩
  | none=>
   rw [hr] at h
   simp only at h
   split at h
   .rename_i ha
    cases h;exact ⟨Q2,ha⟩
   .cases h
theorem Z5g{α:Type}{at_:α->Int}{f g:α->α->α}{q:List α}{a:α}(h:∀ b∈q,f a b=g a b):YL at_ f q a=YL at_ g q a:=by
 unfold YL
 cases hb:Z1b at_ q (at_ a) with
 | none=> rfl
 | some b=> exact h b (Zbl at_ _ q b hb).1
theorem Zgg{α:Type}{at_:α->Int}{f g:α->α->Bool}{p q:List α}(h:∀ a∈p,∀ b∈q,f a b=g a b):Yo at_ f p q=Yo at_ g p q:=by
 unfold Yo
 rw [Qs]
 simp only [X6,Q3,decide_eq_true_eq]
 constructor
 .rintro ⟨a,ha,b,hb,h1,h2⟩;exact ⟨a,ha,b,hb,h1,by rw [<-h a ha b hb];exact h2⟩
 .rintro ⟨a,ha,b,hb,h1,h2⟩;exact ⟨a,ha,b,hb,h1,by rw [h a ha b hb];exact h2⟩
theorem ZsO{p q:List Op}{x:Piece}(hx:POk2 p q x)(h0:x.of=0)(kp:x.p.kind=3)(kq:x.q.kind=3):∃ a∈p,∃ b∈q,a.kind=3/\b.kind=3/\x.p.e=a.e/\x.q.e=b.e:=by
 obtain ⟨⟨a,ma,ka,ea,_⟩,_⟩:=hx.pp YS
 obtain ⟨⟨b,mb,kb,eb,_⟩,_⟩:=hx.qq YS
 exact ⟨a,ma,b,mb,YS,YS,ea,eb⟩
theorem ZiV{f g:Edit->Edit->Lft}{p q:Op}(h:p.kind=3->q.kind=3->f p.e q.e=g p.e q.e)(hp:kOk p)(hq:kOk q)(p2:p.kind≠2)(q2:q.kind≠2):ZA f p q=ZA g p q:=by
 unfold ZA
 by_cases h1:p.kind=0/\q.kind=1
 .rw [if_pos h1,if_pos h1]
 by_cases h2:p.kind=1/\q.kind=0
 .rw [if_neg h1,if_neg h1,if_pos h2,if_pos h2]
 by_cases h3:p.kind=0
 .rw [if_neg h1,if_neg h1,if_neg h2,if_neg h2,if_pos h3,if_pos h3]
 by_cases h4:q.kind=0
 .rw [if_neg h1,if_neg h1,if_neg h2,if_neg h2,if_neg h3,if_neg h3,if_pos h4,if_pos h4]
 rw [if_neg h1,if_neg h1,if_neg h2,if_neg h2,if_neg h3,if_neg h3,if_neg h4,if_neg h4]
 by_cases h5:p.kind=1/\q.kind=1
 .rw [if_pos h5,if_pos h5]
 by_cases h6:p.kind=1
 .rw [if_neg h5,if_neg h5,if_pos h6,if_pos h6]
 by_cases h7:q.kind=1
 .rw [if_neg h5,if_neg h5,if_neg h6,if_neg h6,if_pos h7,if_pos h7]
 have kp:p.kind=3:=by unfold kOk at hp;omega
 have kq:q.kind=3:=by unfold kOk at hq;omega
 rw [h kp kq]
theorem Zfo{f g:Edit->Edit->Lft}{p q:List Op}(h:∀ a∈p,∀ b∈q,a.kind=3->b.kind=3->f a.e b.e=g a.e b.e):∀ {ps:List Piece},(∀ x∈ps,POk2 p q x)->∀ m n,Z14 f ps m n=Z14 g ps m n
 | [],_,_,_=> rfl
 | x ::r,hps,m,n=> by
  have ih:=fun m n=> Zfo h (fun y hy=> hps y (Q1 _ hy)) (ps:=r) m n
  have hx:=hps x Q2
  simp only [Z14,ih]
  by_cases h1:x.of=1
  .rw [if_pos h1,if_pos h1]
  by_cases h2:x.of=2
  .rw [if_neg h1,if_neg h1,if_pos h2,if_pos h2]
  have h0:x.of=0:=by rcases hx.of with h | h | h <;> omega
  obtain ⟨b1,b2,_⟩:=hx.both h0
  rw [if_neg h1,if_neg h1,if_neg h2,if_neg h2,ZiV (f:=f) (g:=g) (fun kp kq=> ?_) (YX (hx.pp h2).2) (YX (hx.qq h1).2) b1 b2]
  obtain ⟨a,ma,b,mb,ka,kb,ea,eb⟩:=ZsO hx h0 kp kq
  rw [ea,eb]
  exact h a ma b mb ka kb
theorem Z9R {f g:Edit->Edit->Lft} {p q:Edit} {d d':Int} (hp:Zb p d=true) (hq:Zb q d'=true)
  (h:∀ a b,Z3 a+Z3 b < Z3 p+Z3 q->(∃ d,Zb a d=true)->(∃ d,Zb b d=true)->f a b=g a b):YD f p q=YD g p q:=by
 have rp:=Zj hp
 have rq:=Zj hq
 have hk:∀ a∈p.kids,∀ b∈q.kids,f a.e b.e=g a.e b.e:=by
  intro a ha b hb
  have:=ZV ha
  have:=ZV hb
  exact h _ _ YS ⟨_,(Zp rp.kids a ha).2⟩ ⟨_,(Zp rq.kids b hb).2⟩
 have hs:Z2g f p q=Z2g g p q:=by
  unfold Z2g
  rw [Zgg (at_:=KidOf.at_) (f:=fun a b:Kid=> (f a.e b.e).c) (g:=fun a b=> (g a.e b.e).c) fun a ha b hb=> by rw [hk a ha b hb],
   Zgg (at_:=KidOf.at_) (f:=fun a b:Kid=> (f a.e b.e).a) (g:=fun a b=> (g a.e b.e).a) fun a ha b hb=> by rw [hk a ha b hb],
   Xc (f:=YL KidOf.at_ (fun a b:Kid=> ⟨a.at_,(f a.e b.e).x⟩) q.kids) (g:=YL KidOf.at_ (fun a b:Kid=> ⟨a.at_,(g a.e b.e).x⟩) q.kids) fun a ha=> Z5g fun b hb=> by rw [hk a ha b hb],
   Xc (f:=YL KidOf.at_ (fun b a:Kid=> ⟨b.at_,(f a.e b.e).y⟩) p.kids) (g:=YL KidOf.at_ (fun b a:Kid=> ⟨b.at_,(g a.e b.e).y⟩) p.kids) fun b hb=> Z5g fun a ha=> by rw [hk a ha b hb]]
 have ho:Z4k f p q=Z4k g p q:=by
  unfold Z4k
  obtain ⟨i1,_⟩:=Zb2 _ p.ops q.ops [] (Qb _) (ZS hp) (ZS hq)
  by_cases hb:(ZH 2 2 p.ops q.ops []).2.1=true
  .rw [if_pos hb,if_pos hb]
   obtain ⟨ps,e,hps,_,_⟩:=i1 hb
   rw [e,Qr,Zfo (f:=f) (g:=g) (fun a ha b hb ka kb=> ?_) hps]
   have:=YV ha
   have:=YV hb
   exact h _ _ YS ⟨_,J5 (rightOs_mem rp.ops ha) ka⟩ ⟨_,J5 (rightOs_mem rq.ops hb) kb⟩
  .rw [if_neg hb,if_neg hb]
 unfold YD
 rw [hs,ho]
theorem ZlJ:∀ (n m:Nat) (p q:Edit) (d d':Int),Zb p d=true->Zb q d'=true->Z3 p+Z3 q<=n->n<=m->lbF m p q=lbF n p q:=by
 intro n
 induction n with
 | zero=> intro m p q d d' _ _ h;obtain ⟨k,o,nw,w,ks,l,os⟩:=p;simp only [Z3] at h;omega
 | succ n ih=>
  intro m p q d d' hp hq h hm
  obtain ⟨m,rfl⟩:∃ k,m=k+1:=⟨m - 1,YS⟩
  show YD (lbF m) p q=YD (lbF n) p q
  exact Z9R hp hq fun a b hab ⟨d1,h1⟩ ⟨d2,h2⟩=> ih m a b d1 d2 h1 h2 YS YS
theorem ZlK{p q:Edit}{d d':Int}(hp:Zb p d=true)(hq:Zb q d'=true):lbE p q=YD lbE p q:=by
 have e:lbE p q=lbF (Z3 p+Z3 q+1) p q:=(ZlJ _ _ p q d d' hp hq (Qb _) YS).symm
 rw [e]
 show YD (lbF (Z3 p+Z3 q)) p q=YD lbE p q
 exact Z9R hp hq fun a b hab ⟨d1,h1⟩ ⟨d2,h2⟩=> ZlJ _ _ a b d1 d2 h1 h2 (Qb _) YS
section
variable {α:Type} {at_:α->Int}
theorem ZfM{β:Type}{F G:Nat->α->β}{l:List α}{i:Nat}{v:β}(hF:∀ k a,k≠i->l[k]?=some a->F k a=G k a)(hv:∀ a,l[i]?=some a->G i a=v):(l.mapIdx F).set i v=l.mapIdx G:=by
 apply XV
 intro k
 rw [Kc,Xn,Xn,Ku]
 by_cases h:i=k
 .subst h
  rw [if_pos rfl]
  cases hk:l[i]? with
  | none=> rw [if_neg];rfl;have:=List.getElem?_eq_none_iff.1 hk;omega
  | some a=> rw [if_pos (Q5.1 hk).1,Qd,hv a hk]
 .rw [if_neg h]
  cases hk:l[k]? with
  | none=> rfl
  | some a=> rw [Qd,Qd,hF k a (fun e=> h e.symm) hk]
theorem JA{β:Type}{F G:Nat->α->β}{l:List α}(hF:∀ k a,l[k]?=some a->F k a=G k a):l.mapIdx F=l.mapIdx G:=by
 apply XV
 intro k
 rw [Xn,Xn]
 cases hk:l[k]? with
 | none=> rfl
 | some a=> rw [Qd,Qd,hF k a hk]
theorem Z57{β:Type}(F:α->β)(l:List α):l.mapIdx (fun _ a=> F a)=l.map F:=by
 apply XV
 intro k
 rw [Xn,Qm]
def ZAr(at_:α->Int)(f:α->α->α)(p q:List α)(i j:Nat):List α:=p.mapIdx fun k a=> if k < i then YL at_ f q a else if k=i then YL at_ f (q.take j) a else a
def ZAq(at_:α->Int)(f:α->α->α)(p q:List α)(i j:Nat):List α:=q.mapIdx fun k b=> YL at_ f (p.take (if k < j then i+1 else i)) b
def ZcN(at_:α->Int)(g:α->α->Bool)(p q:List α)(i j:Nat):Bool:=Yo at_ g (p.take i) q || Yo at_ g ((p.drop i).take 1) (q.take j)
theorem Z7D(f:α->α->α)(q:List α)(b a:α):YL at_ f (q++[b]) a=if at_ b=at_ a then f a b else YL at_ f q a:=by
 unfold YL Z1b
 rw [List.foldl_append]
 simp only [Xy,List.foldl_nil]
 by_cases h:at_ b=at_ a
 .rw [if_pos h,if_pos h]
 .rw [if_neg h,if_neg h]
theorem ZdF{f:α->α->α}(hf:∀ a b,at_ (f a b)=at_ a)(q:List α)(a:α):at_ (YL at_ f q a)=at_ a:=by
 unfold YL
 cases Z1b at_ q (at_ a) with
 | none=> rfl
 | some b=> exact hf a b
theorem getD_some{l:List α}{i:Nat}{a:α}(h:l[i]?=some a)(z:α):l.getD i z=a:=by rw [Qg,h];try rfl
structure SInv (at_:α->Int) (f fy:α->α->α) (gc ga:α->α->Bool) (mc ma:Bool) (p q:List α) (i j:Nat) (c a:Bool) (X Y:List α):Prop where
 ec:c=(mc || ZcN at_ gc p q i j)
 ea:a=(ma || ZcN at_ ga p q i j)
 eX:X=ZAr at_ f p q i j
 eY:Y=ZAq at_ fy p q i j
variable {f fy:α->α->α} {gc ga:α->α->Bool} {mc ma:Bool} {p q:List α} {i j:Nat} {c a:Bool} {X Y:List α}
theorem SInv.lx(h:SInv at_ f fy gc ga mc ma p q i j c a X Y):X.length=p.length:=by rw [h.eX];exact Ku
theorem SInv.ly(h:SInv at_ f fy gc ga mc ma p q i j c a X Y):Y.length=q.length:=by rw [h.eY];exact Ku
theorem SInv.init:SInv at_ f fy gc ga mc ma p q 0 0 mc ma p q:=by
 refine ⟨?_,?_,?_,?_⟩
 .cases p <;> simp [ZcN,Yo]
 .cases p <;> simp [ZcN,Yo]
 .unfold ZAr
  rw [JA (G:=fun _ a=> id a) fun k a hk=> ?_,Z57,KP]
  .rw [JL];split <;> rfl
 .unfold ZAq
  rw [JA (G:=fun _ a=> id a) fun k a hk=> ?_,Z57,KP]
  .rw [JL];try rfl
theorem ZxH(g:α->α->Bool)(p:List α)(q:List α)(b:α):Yo at_ g p (q++[b])=(Yo at_ g p q || Yo at_ g p [b]):=by
 rw [Qs]
 simp only [Yo,X6,K5,Qh,Qf,Q3,decide_eq_true_eq]
 constructor
 .rintro ⟨a,ha,x,hx | hx,h⟩
  .exact .inl ⟨a,ha,x,hx,h⟩
  .exact .inr ⟨a,ha,x,hx,h⟩
 .rintro (⟨a,ha,x,hx,h⟩ | ⟨a,ha,x,hx,h⟩)
  .exact ⟨a,ha,x,.inl hx,h⟩
  .exact ⟨a,ha,x,.inr hx,h⟩
theorem ZAv(g:α->α->Bool)(p p' q:List α):Yo at_ g (p++p') q=(Yo at_ g p q || Yo at_ g p' q):=by unfold Yo;rw [List.any_append]
theorem Zeb{l:List α}{i:Nat}(h:i < l.length):(l.drop i).take 1=[l[i]]:=by rw [QL h];try rfl
theorem Z7K(g:α->α->Bool){p q:List α}{i j:Nat}(hi:i < p.length)(hj:j < q.length):ZcN at_ g p q i (j+1)=(ZcN at_ g p q i j || decide (at_ p[i]=at_ q[j]) && g p[i] q[j]):=by
 unfold ZcN
 rw [QV hj,ZxH,Zeb hi,<-Xv]
 congr 1
 simp [Yo]
theorem SInv.step(h:SInv at_ f fy gc ga mc ma p q i j c a X Y)(hi:i < p.length)(hj:j < q.length)(z:α):
  (at_ (p.getD i z)=at_ (q.getD j z)->SInv at_ f fy gc ga mc ma p q i (j+1) (c || gc (p.getD i z) (q.getD j z)) (a || ga (p.getD i z) (q.getD j z)) (X.set i (f (p.getD i z) (q.getD j z))) (Y.set j (fy (q.getD j z) (p.getD i z))))/\
  (¬at_ (p.getD i z)=at_ (q.getD j z)->SInv at_ f fy gc ga mc ma p q i (j+1) c a X Y):=by
 have ep:p.getD i z=p[i]:=getD_some (Q0 hi) z
 have eq:q.getD j z=q[j]:=getD_some (Q0 hj) z
 rw [ep,eq]
 obtain ⟨ec,ea,eX,eY⟩:=h
 have tp:p.take (i+1)=p.take i++[p[i]]:=QV hi
 have tq:q.take (j+1)=q.take j++[q[j]]:=QV hj
 refine ⟨fun e=> ⟨?_,?_,?_,?_⟩,fun e=> ⟨?_,?_,?_,?_⟩⟩
 .rw [Z7K gc hi hj,ec,decide_eq_true e,QG,Xv]
 .rw [Z7K ga hi hj,ea,decide_eq_true e,QG,Xv]
 .rw [eX]
  refine ZfM (fun k b hk _=> ?_) fun b hb=> ?_
  .by_cases h:k < i
   .rw [if_pos h,if_pos h]
   .rw [if_neg h,if_neg h,if_neg hk,if_neg hk]
  .rw [Q0 hi] at hb
   cases hb
   rw [JL,if_pos rfl,tq,Z7D,if_pos e.symm]
 .rw [eY]
  refine ZfM (fun k b hk _=> ?_) fun b hb=> ?_
  .by_cases h:k < j
   .rw [if_pos h,V0]
   .rw [if_neg h,JL]
  .rw [Q0 hj] at hb
   cases hb
   rw [V0,tp,Z7D,if_pos e]
 .rw [Z7K gc hi hj,ec,decide_eq_false e,K9,QB]
 .rw [Z7K ga hi hj,ea,decide_eq_false e,K9,QB]
 .rw [eX]
  refine JA fun k b hb=> ?_
  by_cases h:k=i
  .subst h
   rw [Q0 hi] at hb
   cases hb
   rw [JL,if_pos rfl,JL,if_pos rfl,tq,Z7D,if_neg (fun x=> e x.symm)]
  .by_cases h2:k < i
   .rw [if_pos h2,if_pos h2]
   .rw [if_neg h2,if_neg h2,if_neg h,if_neg h]
 .rw [eY]
  refine JA fun k b hb=> ?_
  by_cases h:k=j
  .subst h
   rw [Q0 hj] at hb
   cases hb
   rw [JL,V0,tp,Z7D,if_neg e]
  .by_cases h2:k < j
   .rw [if_pos h2,V0]
   .rw [if_neg h2,JL]
theorem SInv.next(h:SInv at_ f fy gc ga mc ma p q i q.length c a X Y)(hi:i < p.length):SInv at_ f fy gc ga mc ma p q (i+1) 0 c a X Y:=by
 obtain ⟨ec,ea,eX,eY⟩:=h
 have key:∀ g:α->α->Bool,ZcN at_ g p q i q.length=ZcN at_ g p q (i+1) 0:=by
  intro g
  unfold ZcN
  rw [XY,List.take_zero,QV hi,ZAv,Zeb hi]
  have:Yo at_ g ((p.drop (i+1)).take 1) []=false:=by simp [Yo]
  rw [this,QB]
 refine ⟨by rw [ec,key],by rw [ea,key],?_,?_⟩
 .rw [eX]
  refine JA fun k b hb=> ?_
  by_cases h:k < i
  .rw [if_pos h,V0]
  .by_cases h2:k=i
   .rw [if_neg h,if_pos h2,V0,XY]
   .rw [if_neg h,if_neg h2,JL]
    split <;> rfl
 .rw [eY]
  refine JA fun k b hb=> ?_
  rw [if_pos (Q5.1 hb).1,JL]
theorem SInv.fin(h:SInv at_ f fy gc ga mc ma p q p.length 0 c a X Y):c=(mc || Yo at_ gc p q)/\a=(ma || Yo at_ ga p q)/\X=p.map (YL at_ f q)/\Y=q.map (YL at_ fy p):=by
 obtain ⟨ec,ea,eX,eY⟩:=h
 have key:∀ g:α->α->Bool,ZcN at_ g p q p.length 0=Yo at_ g p q:=by
  intro g
  unfold ZcN
  rw [XY,List.drop_length]
  simp [Yo]
 refine ⟨by rw [ec,key],by rw [ea,key],?_,?_⟩
 .rw [eX]
  unfold ZAr
  rw [JA (G:=fun _ a=> YL at_ f q a) fun k b hb=> by rw [if_pos (Q5.1 hb).1],Z57]
 .rw [eY]
  unfold ZAq
  rw [JA (G:=fun _ a=> YL at_ fy p a) fun k b hb=> by rw [JL,XY],Z57]
theorem SInv.at_x(h:SInv at_ f fy gc ga mc ma p q i j c a X Y)(hf:∀ a b,at_ (f a b)=at_ a)(hi:i < p.length)(z:α):at_ (X.getD i z)=at_ (p.getD i z):=by
 rw [h.eX,getD_some (a:=YL at_ f (q.take j) p[i]) (by rw [ZAr,Xn,Q0 hi,Qd,JL,if_pos rfl]),getD_some (Q0 hi),ZdF hf]
theorem SInv.at_y(h:SInv at_ f fy gc ga mc ma p q i j c a X Y)(hf:∀ a b,at_ (fy a b)=at_ a)(hj:j < q.length)(z:α):at_ (Y.getD j z)=at_ (q.getD j z):=by
 rw [h.eY,getD_some (a:=YL at_ fy (p.take i) q[j]) (by rw [ZAq,Xn,Q0 hj,Qd,JL]),getD_some (Q0 hj),ZdF hf]
end
end Go.AM.YtpjenobkibfpcaaGreat
namespace Go.AM.YtpjenobkibfpcaaGreat
open Go.AM Go.Proofs
def Lft.swap(L:Lft):Lft:=⟨L.y,L.x,L.c,L.a⟩
def PL.swap(L:PL):PL:=⟨L.y,L.x,L.c,L.a⟩
inductive Lay (f:Edit->Edit->Lft):List Op->List Op->List Tree->List Tree->PL->Prop
 | nil (m h):Lay f [] [] m h (Ym m h)
 | left {a p q m h S}:a.kind=2->Lay f p q (m++a.l) h S->Lay f (a ::p) q m h S
 | right {p b q m h S}:(∀ a∈p.head?,a.kind≠2)->b.kind=2->Lay f p q m (h++b.l) S->Lay f p (b ::q) m h S
 | both {a p b q m h S n}:a.kind≠2->b.kind≠2->n=min (Z6 a) (Z6 b)->Lay f (Zz (a ::p) n) (Zz (b ::q) n) [] [] S->
   Lay f (a ::p) (b ::q) m h (((Ym m h).app (ZA f (Zs a n) (Zs b n))).app S)
section
variable {f:Edit->Edit->Lft}
theorem ZgI{p:List Op}{n:Int}(h:∀ x∈p,ZC x)(hl:p.length≠0)(h1:1<=n):∀ o∈Zz p n,ZC o:=by
 cases p with
 | nil=> exact absurd rfl hl
 | cons o r=>
  unfold Zz
  simp only [Ql,Qq,QH]
  split
  .exact fun x hx=> h x (Q1 _ hx)
  .rename_i hn
   intro x hx
   rcases Qc.1 hx with rfl | hx
   .exact (Z6k (h o Q2) h1 hn).1
   .exact h x (Q1 _ hx)
theorem Z3Y{a:Op}{p:List Op}{n:Int}{o:Op}(h:o∈Zz (a ::p) n):o∈p\/o=Jb a n:=by
 unfold Zz at h
 simp only [Ql,Qq,QH] at h
 split at h
 .exact .inl h
 .rcases Qc.1 h with h | h
  .exact .inr h
  .exact .inl h
theorem Zap(a:Op)(n:Int):(Jb a n).e=a.e:=by unfold Jb;split <;> rfl
theorem Z8K(a:Op)(n:Int):(Zs a n).e=a.e:=by unfold Zs;split;rfl;split <;> rfl
theorem Zyx{a b:Op}{p q:List Op}{n:Int}(hn:n=min (Z6 a) (Z6 b)):(Zz (a ::p) n).length+(Zz (b ::q) n).length < (a ::p).length+(b ::q).length:=by
 have x1:=Yf (a ::p) n (by simp)
 have x2:=Yf (b ::q) n (by simp)
 rcases Int.le_total (Z6 a) (Z6 b) with h | h
 .have:=Ye (a ::p) n (by simp) (by simp only [Ql];omega)
  omega
 .have:=Ye (b ::q) n (by simp) (by simp only [Ql];omega)
  omega
theorem ZfR:∀ (k:Nat) (p q:List Op) (out:List Piece),p.length+q.length<=k->(ZH 2 2 p q out).2.1=true->∃ ps,(ZH 2 2 p q out).1=out++ps/\∀ m h,Lay f p q m h (Z14 f ps m h):=by
 intro k
 induction k with
 | zero=>
  intro p q out hk hb
  have e1:p=[]:=Q4 YS
  have e2:q=[]:=Q4 YS
  subst e1 e2
  rw [ZH,dif_neg (by simp [sgl]),dif_neg (by simp [sgl]),dif_pos (by simp)]
  exact ⟨[],by simp,fun m h=> .nil m h⟩
 | succ k ih=>
  intro p q out hk hb
  rw [ZH] at hb ⊢
  by_cases h1:sgl 2 p=true
  .rw [dif_pos h1] at hb ⊢
   obtain ⟨g1,g2⟩:=YE.1 h1
   cases p with
   | nil=> exact absurd rfl g1
   | cons a p'=>
    simp only [Ql,Qq,QH] at g2 hb ⊢
    obtain ⟨ps,e,hL⟩:=ih p' q _ (by simp only [Q6] at hk;omega) hb
    exact ⟨⟨1,a,Op.nil⟩ ::ps,by rw [e,Qa];rfl,fun m h=> .left g2 (hL _ _)⟩
  .rw [dif_neg h1] at hb ⊢
   have np:∀ a∈p.head?,a.kind≠2:=by
    intro a ha e
    cases p with
    | nil=> cases ha
    | cons a' p'=> cases ha;exact h1 (YE.2 ⟨by simp,by simpa using e⟩)
   by_cases h2:sgl 2 q=true
   .rw [dif_pos h2] at hb ⊢
    obtain ⟨g1,g2⟩:=YE.1 h2
    cases q with
    | nil=> exact absurd rfl g1
    | cons b q'=>
     simp only [Ql,Qq,QH] at g2 hb ⊢
     obtain ⟨ps,e,hL⟩:=ih p q' _ (by simp only [Q6] at hk;omega) hb
     exact ⟨⟨2,Op.nil,b⟩ ::ps,by rw [e,Qa];rfl,fun m h=> .right np g2 (hL _ _)⟩
   .rw [dif_neg h2] at hb ⊢
    by_cases h3:p.length=0\/q.length=0
    .rw [dif_pos h3] at hb ⊢
     by_cases h4:decide (p.length=0)=decide (q.length=0)
     .rw [if_pos h4]
      have h5:p.length=0/\q.length=0:=by
       have:=decide_eq_decide.1 h4
       omega
      rw [Q4 h5.1,Q4 h5.2]
      exact ⟨[],by simp,fun m h=> .nil m h⟩
     .rw [if_neg h4] at hb;cases hb
    .rw [dif_neg h3] at hb ⊢
     cases p with
     | nil=> simp at h3
     | cons a p'=>
      cases q with
      | nil=> simp at h3
      | cons b q'=>
       simp only [Ql] at hb ⊢
       have hlt:=Zyx (a:=a) (b:=b) (p:=p') (q:=q') rfl
       obtain ⟨ps,e,hL⟩:=ih _ _ _ YS hb
       exact ⟨⟨0,_,_⟩ ::ps,by rw [e,Qa];rfl,fun m h=> .both (np a rfl) (fun e=> h2 (YE.2 ⟨by simp,by simpa using e⟩)) rfl (hL [] [])⟩
theorem ZnB{p q:List Op}{m h:List Tree}{S:PL}(H:Lay f p q m h S):∀ out,(ZH 2 2 p q out).2.1=true/\∃ ps,(ZH 2 2 p q out).1=out++ps/\S=Z14 f ps m h:=by
 induction H with
 | nil m h=>
  intro out
  rw [ZH,dif_neg (by simp [sgl]),dif_neg (by simp [sgl]),dif_pos (by simp)]
  exact ⟨rfl,[],by simp,rfl⟩
 | left k2 _ ih=>
  intro out
  rw [ZH,dif_pos (YE.2 ⟨by simp,by simpa using k2⟩)]
  simp only [Ql,Qq,QH]
  obtain ⟨h1,ps,h2,h3⟩:=ih (out++[⟨1,_,Op.nil⟩])
  exact ⟨h1,⟨1,_,Op.nil⟩ ::ps,by rw [h2,Qa];rfl,h3⟩
 | right np k2 _ ih=>
  rename_i p b q m h S _
  intro out
  have n1:¬sgl 2 p=true:=by
   intro e
   obtain ⟨g1,g2⟩:=YE.1 e
   cases p with
   | nil=> exact g1 rfl
   | cons a p'=> exact np a rfl (by simpa using g2)
  rw [ZH,dif_neg n1,dif_pos (YE.2 ⟨by simp,by simpa using k2⟩)]
  simp only [Ql,Qq,QH]
  obtain ⟨h1,ps,h2,h3⟩:=ih (out++[⟨2,Op.nil,_⟩])
  exact ⟨h1,⟨2,Op.nil,_⟩ ::ps,by rw [h2,Qa];rfl,h3⟩
 | both ka kb hn _ ih=>
  intro out
  subst hn
  rw [ZH,dif_neg (fun e=> ka (by simpa using (YE.1 e).2)),dif_neg (fun e=> kb (by simpa using (YE.1 e).2)),dif_neg (by simp)]
  simp only [Ql]
  obtain ⟨h1,ps,h2,h3⟩:=ih (out++[⟨0,_,_⟩])
  exact ⟨h1,⟨0,_,_⟩ ::ps,by rw [h2,Qa];rfl,by rw [h3];rfl⟩
theorem Lay.right'{b:Op}{q:List Op}(k2:b.kind=2):∀ {p:List Op} {m h:List Tree} {S:PL},Lay f p q m (h++b.l) S->Lay f p (b ::q) m h S
 | [],m,h,S,H=> .right (fun a ha=> by cases ha) k2 H
 | a ::p,m,h,S,H=> by
  by_cases ka:a.kind=2
  .cases H with
   | left _ H'=> exact .left ka (H'.right' k2)
   | right np _ _=> exact absurd ka (np a rfl)
   | both k _ _ _=> exact absurd ka k
  .exact .right (fun x hx=> by cases hx;exact ka) k2 H
theorem Zht(m h:List Tree):Ym h m=(Ym m h).swap:=by
 unfold Ym PL.swap
 by_cases e:m≠[]/\h≠[]
 .rw [if_pos e,if_pos e.symm]
  have:Z2u h m=Z2u m h:=by unfold Z2u;rw [Bool.eq_iff_iff,YO,YO,eq_comm]
  rw [this]
 .rw [if_neg e,if_neg (fun x=> e x.symm)]
  have:m=[]\/h=[]:=by
   by_cases hm:m=[]
   .exact .inl hm
   .by_cases hh:h=[]
    .exact .inr hh
    .exact absurd ⟨hm,hh⟩ e
  rcases this with rfl | rfl <;> simp [Z0g,Yl]
theorem Z4e{o:Op}(h:ZC o)(k:o.kind=0):o=⟨0,o.n,[],Edit.nil⟩/\1<=o.n/\Z6 o=o.n:=by
 have:=Z6M h k
 rcases h with h | h | h
 .obtain ⟨kk,nn,l,e⟩:=o
  obtain ⟨h1,h2,h3,h4⟩:=h
  dsimp only at h1 h2 h4
  subst h1 h2 h4
  exact ⟨rfl,h3.1,this⟩
 .omega
 .omega
theorem ZDp{p q:Op}(a:p.kind=0)(b:q.kind=1):ZA f p q=⟨[],[q],false,false⟩:=by unfold ZA;rw [if_pos ⟨a,b⟩]
theorem ZDo{p q:Op}(a:p.kind=1)(b:q.kind=0):ZA f p q=⟨[p],[],false,false⟩:=by unfold ZA;rw [JL,if_pos ⟨a,b⟩]
theorem pL0{p q:Op}(a:p.kind=0)(b:q.kind≠1):ZA f p q=⟨[⟨0,if q.n < 1 then 1 else q.n,[],Edit.nil⟩],[q],false,false⟩:=by unfold ZA;rw [JL,JL,if_pos a]
theorem ZDl{p q:Op}(a:p.kind≠0)(a1:p.kind≠1)(b:q.kind=0):ZA f p q=⟨[p],[⟨0,1,[],Edit.nil⟩],false,false⟩:=by unfold ZA;rw [JL,JL,if_neg a,if_pos b]
theorem ZDn{p q:Op}(a:p.kind=1)(b:q.kind=1):ZA f p q=⟨[],[],false,!Z2u p.l q.l⟩:=by unfold ZA;rw [JL,JL,JL,JL,if_pos ⟨a,b⟩]
theorem pL1{p q:Op}(a:p.kind=1)(b:q.kind≠0)(b1:q.kind≠1):ZA f p q=⟨[],[],true,!(doE false q.e (p.l.getD 0 Tree.nil)).isSome⟩:=by unfold ZA;rw [JL,JL,JL,if_neg b,JL,if_pos a]
theorem ZDk{p q:Op}(a:p.kind≠0)(a1:p.kind≠1)(b:q.kind=1):ZA f p q=⟨[],[],true,!(doE false p.e (q.l.getD 0 Tree.nil)).isSome⟩:=by unfold ZA;rw [JL,JL,if_neg a,JL,JL,if_neg a1,if_pos b]
theorem ZDm{p q:Op}(a:p.kind≠0)(a1:p.kind≠1)(b:q.kind≠0)(b1:q.kind≠1):ZA f p q=⟨[Z0j (f p.e q.e).x],[Z0j (f p.e q.e).y],(f p.e q.e).c,(f p.e q.e).a⟩:=by
 unfold ZA;rw [JL,JL,if_neg a,if_neg b,JL,if_neg a1,if_neg b1]
theorem Zj2{o:Op}(h:ZC o)(k:o.kind≠0):o.n=0:=by
 rcases h with h | h | h
 .exact absurd h.1 k
 .exact h.2.1
 .exact h.2.1
theorem ZsU(a b:List Tree):Z2u a b=Z2u b a:=by unfold Z2u;rw [Bool.eq_iff_iff,YO,YO,eq_comm]
theorem ZvC{p q:Op}(op:ZC p)(oq:ZC q)(hl:Z6 p=Z6 q)(a:p.kind=0)(b:q.kind=0):p=q/\1<=p.n:=by
 obtain ⟨ep,np,lp⟩:=Z4e op a
 obtain ⟨eq,nq,lq⟩:=Z4e oq b
 have e:p.n=q.n:=YS
 exact ⟨by rw [ep,eq,e],np⟩
theorem Zla{g:Edit->Edit->Lft}{p q:Op}(hf:p.kind=3->q.kind=3->g q.e p.e=(f p.e q.e).swap)(op:ZC p)(oq:ZC q)(hl:Z6 p=Z6 q)(p2:p.kind≠2)(q2:q.kind≠2):ZA g q p=(ZA f p q).swap:=by
 have kp:=YX op
 have kq:=YX oq
 unfold kOk at kp kq
 by_cases a0:p.kind=0
 .by_cases b0:q.kind=0
  .obtain ⟨e,n1⟩:=ZvC op oq hl a0 b0
   subst e
   rw [pL0 a0 YS,pL0 a0 YS,if_neg (show ¬p.n < 1 by omega),<-(Z4e op a0).1]
   try rfl
  .by_cases b1:q.kind=1
   .rw [ZDo b1 a0,ZDp a0 b1];try rfl
   .rw [ZDl b0 b1 a0,pL0 a0 b1,Zj2 oq b0];try rfl
 .by_cases b0:q.kind=0
  .by_cases a1:p.kind=1
   .rw [ZDp b0 a1,ZDo a1 b0];try rfl
   .rw [pL0 b0 a1,ZDl a0 a1 b0,Zj2 op a0];try rfl
  .by_cases a1:p.kind=1
   .by_cases b1:q.kind=1
    .rw [ZDn b1 a1,ZDn a1 b1,ZsU];try rfl
    .rw [ZDk b0 b1 a1,pL1 a1 b0 b1];try rfl
   .by_cases b1:q.kind=1
    .rw [pL1 b1 a0 a1,ZDk a0 a1 b1];try rfl
    .rw [ZDm b0 b1 a0 a1,ZDm a0 a1 b0 b1,hf YS YS];try rfl
theorem PL.app_swap(a b:PL):(a.app b).swap=a.swap.app b.swap:=rfl
theorem Zot{a:Op}{p:List Op}{n:Int}(h:∀ x∈a ::p,ZC x)(h1:1<=n)(hn:n<=Z6 a):ZC (Zs a n)/\Z6 (Zs a n)=n:=by
 obtain ⟨g1,g2,_⟩:=Z8I h h1 hn
 exact ⟨g1,g2⟩
theorem Lay.swap{g:Edit->Edit->Lft}{p q:List Op}{m h:List Tree}{S:PL}(H:Lay f p q m h S):(∀ o∈p,ZC o)->(∀ o∈q,ZC o)->(∀ a∈p,∀ b∈q,a.kind=3->b.kind=3->g b.e a.e=(f a.e b.e).swap)->
  Lay g q p h m S.swap:=by
 induction H with
 | nil m h=> intro _ _ _;rw [<-Zht];exact .nil h m
 | left k2 _ ih=>
  intro op oq hf
  exact (ih (fun o ho=> op o (Q1 _ ho)) oq fun a ha b hb=> hf a (Q1 _ ha) b hb).right' k2
 | right np k2 _ ih=>
  intro op oq hf
  exact .left k2 (ih op (fun o ho=> oq o (Q1 _ ho)) fun a ha b hb=> hf a ha b (Q1 _ hb))
 | both ka kb hn _ ih=>
  rename_i a p b q m h S n _
  intro op oq hf
  have la:=Zw (op a Q2)
  have lb:=Zw (oq b Q2)
  have h1:1<=n:=YS
  obtain ⟨t1,t2⟩:=Zot op h1 YS
  obtain ⟨t3,t4⟩:=Zot oq h1 YS
  have ih:=ih (ZgI op (by simp) h1) (ZgI oq (by simp) h1) fun x hx y hy kx ky=> by
   rcases Z3Y hx with hx | rfl
   .rcases Z3Y hy with hy | rfl
    .exact hf x (Q1 _ hx) y (Q1 _ hy) kx ky
    .rw [Zap];rw [Z1G] at ky;exact hf x (Q1 _ hx) b Q2 kx ky
   .rw [Zap];rw [Z1G] at kx
    rcases Z3Y hy with hy | rfl
    .exact hf a Q2 y (Q1 _ hy) kx ky
    .rw [Zap];rw [Z1G] at ky;exact hf a Q2 b Q2 kx ky
  rw [PL.app_swap,PL.app_swap,<-Zht,<-Zla (f:=f) (g:=g) (fun kx ky=> ?_) t1 t3 YS (by rw [Jk];exact ka) (by rw [Jk];exact kb)]
  .exact .both kb ka (by rw [hn];omega) ih
  .rw [Jk] at kx ky
   rw [Z8K,Z8K]
   exact hf a Q2 b Q2 kx ky
end
theorem ZhF(a b:Int):Z1h a b=Z1h b a:=by unfold Z1h;rw [BitVec.and_comm]
theorem ZbH(p q:WEdit):Yi p q=Yi q p:=by
 unfold Yi
 rw [ZhF,decide_eq_decide,ne_comm]
theorem Zke(p q:WEdit):Jj p q=Jj q p:=by
 unfold Jj
 rw [ZhF,decide_eq_decide,ne_comm]
theorem Z7L{α:Type}{at_:α->Int}{f g:α->α->Bool}{p q:List α}(h:∀ a∈p,∀ b∈q,g b a=f a b):Yo at_ g q p=Yo at_ f p q:=by
 unfold Yo
 rw [Qs]
 simp only [X6,Q3,decide_eq_true_eq]
 constructor
 .rintro ⟨a,ha,b,hb,h1,h2⟩;exact ⟨b,hb,a,ha,h1.symm,by rw [<-h b hb a ha];exact h2⟩
 .rintro ⟨a,ha,b,hb,h1,h2⟩;exact ⟨b,hb,a,ha,h1.symm,by rw [h a ha b hb];exact h2⟩
section
variable {f:Edit->Edit->Lft} {p q:Edit}
theorem lb0(h:p.kind=0\/q.kind=0):YD f p q=⟨p,q,false,false⟩:=by unfold YD;rw [if_pos h]
theorem lb1(p1:p.kind=1)(q0:q.kind≠0):YD f p q=Z0k q p.old p.new:=by unfold YD;rw [JL,if_pos p1]
theorem ZE2(p0:p.kind≠0)(p1:p.kind≠1)(q1:q.kind=1):YD f p q=Z0k p q.old q.new:=by unfold YD;rw [JL,if_neg p1,if_pos q1]
theorem lbd(p0:p.kind≠0)(p1:p.kind≠1)(q0:q.kind≠0)(q1:q.kind≠1)(h:p.kind≠q.kind\/p.list≠q.list):YD f p q=⟨Edit.nil,Edit.nil,false,true⟩:=by
 unfold YD;rw [JL,if_neg p1,if_neg q1,if_pos h]
theorem lb2(p2:p.kind=2)(q2:q.kind=2)(h:p.list=q.list):YD f p q=Z2g f p q:=by unfold YD;rw [JL,JL,JL,JL,if_pos p2]
theorem lb3(p2:p.kind=q.kind)(p0:p.kind≠0)(p1:p.kind≠1)(q2:p.kind≠2)(h:p.list=q.list):YD f p q=Z4k f p q:=by unfold YD;rw [JL,JL,JL,JL,if_neg q2]
end
theorem ZlI {f g:Edit->Edit->Lft} {p q:Edit} {d d':Int} (hp:Zb p d=true) (hq:Zb q d'=true)
  (h:∀ a b,Z3 a+Z3 b < Z3 p+Z3 q->(∃ d,Zb a d=true)->(∃ d,Zb b d=true)->g b a=(f a b).swap):YD g q p=(YD f p q).swap:=by
 have rp:=Zj hp
 have rq:=Zj hq
 by_cases p0:p.kind=0
 .rw [lb0 (.inl p0),lb0 (.inr p0)];try rfl
 by_cases q0:q.kind=0
 .rw [lb0 (.inr q0),lb0 (.inl q0)];try rfl
 by_cases p1:p.kind=1
 .by_cases q1:q.kind=1
  .rw [lb1 p1 q0,lb1 q1 p0]
   unfold Z0k doB
   rw [ZHR p1,ZHR q1,ZeB (Z4 p.old)]
   by_cases e:ZU (Z4 q.old) (Z4 p.old)=true
   .rw [if_pos e,if_pos e]
    show (⟨_,_,true && !ZU (Z4 (Z4 p.new)) (Z4 q.new),_⟩:Lft)=⟨_,_,true && !ZU (Z4 (Z4 q.new)) (Z4 p.new),_⟩
    rw [Z38,Z38,ZeB]
    try rfl
   .rw [if_neg e,if_neg e]
    try rfl
  .rw [lb1 p1 q0,ZE2 q0 q1 p1];try rfl
 by_cases q1:q.kind=1
 .rw [ZE2 p0 p1 q1,lb1 q1 p0];try rfl
 by_cases c2:p.kind≠q.kind\/p.list≠q.list
 .rw [lbd p0 p1 q0 q1 c2,lbd q0 q1 p0 p1 (c2.imp KB KB)];try rfl
 have hk:q.kind=p.kind:=YS
 have hli:q.list=p.list:=YS
 by_cases p2:p.kind=2
 .rw [lb2 p2 YS hli.symm,lb2 YS p2 hli]
  have hkk:∀ a∈p.kids,∀ b∈q.kids,g b.e a.e=(f a.e b.e).swap:=by
   intro a ha b hb
   have:=ZV ha
   have:=ZV hb
   exact h _ _ YS ⟨_,(Zp rp.kids a ha).2⟩ ⟨_,(Zp rq.kids b hb).2⟩
  unfold Z2g Lft.swap
  rw [Z7L (at_:=WEdit.at_) (f:=fun a b=> !Yi a b && Jj a b) (g:=fun a b=> !Yi a b && Jj a b) fun a _ b _=> by rw [ZbH,Zke],
   Z7L (at_:=WEdit.at_) (f:=Yi) (g:=Yi) fun a _ b _=> ZbH b a,
   Z7L (at_:=KidOf.at_) (f:=fun a b:Kid=> (f a.e b.e).c) (g:=fun a b=> (g a.e b.e).c) fun a ha b hb=> by rw [hkk a ha b hb];rfl,
   Z7L (at_:=KidOf.at_) (f:=fun a b:Kid=> (f a.e b.e).a) (g:=fun a b=> (g a.e b.e).a) fun a ha b hb=> by rw [hkk a ha b hb];rfl,
   Xc (f:=YL KidOf.at_ (fun a b:Kid=> ⟨a.at_,(g a.e b.e).x⟩) p.kids) (g:=YL KidOf.at_ (fun b a:Kid=> ⟨b.at_,(f a.e b.e).y⟩) p.kids) fun b hb=> Z5g fun a ha=> by rw [hkk a ha b hb];rfl,
   Xc (f:=YL KidOf.at_ (fun b a:Kid=> ⟨b.at_,(g a.e b.e).y⟩) q.kids) (g:=YL KidOf.at_ (fun a b:Kid=> ⟨a.at_,(f a.e b.e).x⟩) q.kids) fun a ha=> Z5g fun b hb=> by rw [hkk a ha b hb];rfl]
 .rw [lb3 hk.symm p0 p1 p2 hli.symm,lb3 hk q0 q1 YS hli]
  have hf:∀ a∈p.ops,∀ b∈q.ops,a.kind=3->b.kind=3->g b.e a.e=(f a.e b.e).swap:=by
   intro a ha b hb ka kb
   have:=YV ha
   have:=YV hb
   exact h _ _ YS ⟨_,J5 (rightOs_mem rp.ops ha) ka⟩ ⟨_,J5 (rightOs_mem rq.ops hb) kb⟩
  have hf':∀ b∈q.ops,∀ a∈p.ops,b.kind=3->a.kind=3->f a.e b.e=(g b.e a.e).swap:=fun b hb a ha kb ka=> by rw [hf a ha b hb ka kb];try rfl
  unfold Z4k
  by_cases hb:(ZH 2 2 p.ops q.ops []).2.1=true
  .obtain ⟨ps,e,hL⟩:=ZfR (f:=f) _ p.ops q.ops [] (Qb _) hb
   obtain ⟨b1,ps',e',hS⟩:=ZnB ((hL [] []).swap (g:=g) (ZS hp) (ZS hq) hf) []
   rw [if_pos hb,if_pos b1,e,e',Qr,Qr,<-hS,hli]
   try rfl
  .rw [if_neg hb,if_neg]
   .try rfl
   .intro b1
    obtain ⟨ps,e,hL⟩:=ZfR (f:=g) _ q.ops p.ops [] (Qb _) b1
    exact hb (ZnB ((hL [] []).swap (g:=f) (ZS hq) (ZS hp) hf') []).1
theorem ZAb:∀ (n:Nat) (p q:Edit) (d d':Int),Z3 p+Z3 q<=n->Zb p d=true->Zb q d'=true->lbF n q p=(lbF n p q).swap:=by
 intro n
 induction n with
 | zero=> intro p q d d' h;obtain ⟨k,o,nw,w,ks,l,os⟩:=p;simp only [Z3] at h;omega
 | succ n ih=>
  intro p q d d' h hp hq
  exact ZlI hp hq fun a b hab ⟨d1,h1⟩ ⟨d2,h2⟩=> ih a b d1 d2 YS h1 h2
theorem ZwV{p q:Edit}{d d':Int}(hp:Zb p d=true)(hq:Zb q d'=true):lbE q p=(lbE p q).swap:=by
 unfold lbE
 rw [XE]
 exact ZAb _ p q d d' (Qb _) hp hq
end Go.AM.YtpjenobkibfpcaaGreat
namespace Go.AM.YtpjenobkibfpcaaGreat
open Go.AM Go.Proofs
mutual
def Y2(k:Int):Edit->Prop
 | .mk _ _ _ _ ks _ os=> (Jd os<=k/\YH os<=k)/\Zea k ks/\Ze8 k os
def Zea(k:Int):List (KidOf Edit)->Prop
 | []=> True
 | x ::r=> Zos k x/\Zea k r
def Zos(k:Int):KidOf Edit->Prop
 | ⟨_,e⟩=> Y2 k e
def Ze8(k:Int):List (OpOf Edit)->Prop
 | []=> True
 | x ::r=> Zuv k x/\Ze8 k r
def Zuv(k:Int):OpOf Edit->Prop
 | ⟨_,_,_,e⟩=> Y2 k e
end
theorem Ze9{k:Int}:∀ {l:List Kid},Zea k l↔∀ x∈l,Y2 k x.e
 | []=> by simp [Zea]
 | ⟨a,e⟩ ::r=> by simp only [Zea,Zos,Ze9 (l:=r),Qc,forall_eq_or_imp]
theorem Ze7{k:Int}:∀ {l:List Op},Ze8 k l↔∀ x∈l,Y2 k x.e
 | []=> by simp [Ze8]
 | ⟨a,n,l,e⟩ ::r=> by simp only [Ze8,Zuv,Ze7 (l:=r),Qc,forall_eq_or_imp]
theorem Jc{k:Int}{e:Edit}:Y2 k e↔(Jd e.ops<=k/\YH e.ops<=k)/\(∀ x∈e.kids,Y2 k x.e)/\∀ o∈e.ops,Y2 k o.e:=by
 obtain ⟨kk,o,n,w,ks,l,os⟩:=e
 simp only [Y2,Ze9,Ze7]
 try rfl
theorem Z1q:∀ (n:Nat) {k m:Int} (e:Edit),Z3 e<=n->k<=m->Y2 k e->Y2 m e:=by
 intro n
 induction n with
 | zero=> intro k m e h;obtain ⟨k,o,nw,w,ks,l,os⟩:=e;simp only [Z3] at h;omega
 | succ n ih=>
  intro k m e hn hk h
  rw [Jc] at h ⊢
  exact ⟨⟨YS,YS⟩,fun x hx=> ih x.e (by have:=ZV hx;omega) hk (h.2.1 x hx),fun o ho=> ih o.e (by have:=YV ho;omega) hk (h.2.2 o ho)⟩
theorem Z1R{k:Int}(h:0<=k):Y2 k Edit.nil:=by
 rw [Jc]
 simp [Edit.nil,Jd,YH,h]
def owL(l:List Tree):Nat:=100*l.length+Z9 l
mutual
def owE(K:Nat):Edit->Nat
 | .mk _ o n w ks _ os=> K+Zm o+Zm n+65600*w.length+Z53 K ks+Z1v K os
def Z53(K:Nat):List (KidOf Edit)->Nat
 | []=> 0
 | k ::r=> ZvA K k+Z53 K r
def ZvA(K:Nat):KidOf Edit->Nat
 | ⟨_,e⟩=> 65600+owE K e
def Z1v(K:Nat):List (OpOf Edit)->Nat
 | []=> 0
 | o ::r=> Zfs K o+Z1v K r
def Zfs(K:Nat):OpOf Edit->Nat
 | ⟨k,_,l,e⟩=> owL l+if k=3 then 100+owE K e else 0
end
section
variable {K:Nat}
theorem Zj0(e:Edit):owE K e=K+Zm e.old+Zm e.new+65600*e.words.length+Z53 K e.kids+Z1v K e.ops:=by cases e;rfl
theorem Zlg(k:Kid):ZvA K k=65600+owE K k.e:=by cases k;rfl
theorem JS(o:Op):Zfs K o=owL o.l+if o.kind=3 then 100+owE K o.e else 0:=by cases o;rfl
theorem ZyJ:owE K Edit.nil=K+2:=by simp [owE,Z53,Z1v,Edit.nil,Tree.nil,Zm,Z9]
theorem ZyI(e:Edit):K+2<=owE K e:=by rw [Zj0];have:=Zhc e.old;have:=Zhc e.new;omega
theorem ZiZ(a b:List Tree):owL (a++b)=owL a+owL b:=by unfold owL;rw [List.length_append,J3];omega
theorem Zlf:∀ a b:List Op,Z1v K (a++b)=Z1v K a+Z1v K b
 | [],b=> by simp [Z1v]
 | o ::r,b=> by simp only [Qp,Z1v,Zlf r b];omega
def OkO(list:Int)(o:Op):Prop:=ZC o/\Zk list o (-2)=true/\Z28 o
theorem Zle{list:Int}{l:List Op}{o:Op}(hl:∀ o'∈l,OkO list o')(hp:Part l o)(ho:ZC o):OkO list o:=by
 obtain ⟨o',m,k,e1,_,lt⟩:=hp
 obtain ⟨_,hr,hg⟩:=hl o' m
 refine ⟨ho,?_⟩
 have R:=J1 hr
 have G:=Z0y hg
 obtain ⟨kk,nn,ll,ee⟩:=o
 have k:kk=o'.kind:=k
 have e1:ee=o'.e:=e1
 have lt:∀ t∈ll,t∈o'.l:=lt
 have gl:Jt ll:=Zi4 fun t ht=> JX G.2.2.1 (lt t ht)
 cases R with
 | keep n1 a1 a2=>
  have k:kk=0:=k
  have e1:ee=Edit.nil:=e1
  subst k e1
  rcases ho with h | h | h
  .have hl:ll=[]:=h.2.1
   subst hl
   have h3:1<=nn/\nn<=1048576:=h.2.2.1
   exact ⟨Zj1 h3.1 h3.2 _,YW V1 V1,V3,trivial,G.2.2.2⟩
  .have:=h.1;omega
  .have:=h.1;omega
 | gone l1 a1 a2=>
  have k:kk=1:=k
  have e1:ee=Edit.nil:=e1
  subst k e1
  rcases ho with h | h | h
  .have:=h.1;omega
  .have hn:nn=0:=h.2.1
   subst hn
   exact ⟨Z5S (.inl rfl) (Z2z fun t ht=> JW a1 t (lt t ht)) h.2.2.1,YW V1 V1,YW V1 V1,gl,G.2.2.2⟩
  .have:=h.1;omega
 | come l1 a1 a2=>
  have k:kk=2:=k
  have e1:ee=Edit.nil:=e1
  subst k e1
  rcases ho with h | h | h
  .have:=h.1;omega
  .have hn:nn=0:=h.2.1
   subst hn
   exact ⟨Z5S (.inr rfl) (Z2z fun t ht=> JW a1 t (lt t ht)) h.2.2.1,YW V1 V1,YW V1 V1,gl,G.2.2.2⟩
  .have:=h.1;omega
 | into e2 a1 a2 a3 a4=>
  have k:kk=3:=k
  have e1:ee=e2:=e1
  subst k e1
  rcases ho with h | h | h
  .have:=h.1;omega
  .have:=h.1;omega
  .have hn:nn=0:=h.2.1
   have hl:ll=[]:=h.2.2
   subst hn hl
   exact ⟨Zpe a1 a2 a3 a4,YW V1 V1,YW V1 V1,trivial,G.2.2.2⟩
theorem Zkm{list:Int}{a:Op}{p:List Op}{n:Int}(h:∀ x∈a ::p,OkO list x)(h1:1<=n)(hn:n<=Z6 a):OkO list (Zs a n)/\(Zs a n).kind=a.kind/\Z6 (Zs a n)=n/\∀ o∈Zz (a ::p) n,OkO list o:=by
 obtain ⟨g1,g2,g3,g4,g5,_⟩:=Z8I (fun x hx=> (h x hx).1) h1 hn
 exact ⟨Zle h g4 g1,g3,g2,fun o ho=> Zle h (g5 o ho).2 (g5 o ho).1⟩
theorem ZHW:Ztk fun o=> ((Zfs K o:Nat):Int):=by
 intro o n ho h1 hn
 have hl:=Yr o
 rcases ho with ⟨k0,k1,k2,k3⟩ | ⟨k0,k1,k2,k3⟩ | ⟨k0,k1,k2⟩
 .have e1:Zs o n=⟨o.kind,n,o.l,o.e⟩:=by rw [Zs,if_neg hn,if_pos k0]
  have e2:Jb o n=⟨o.kind,o.n - n,o.l,o.e⟩:=by rw [Jb,if_pos k0]
  simp only [JS,e1,e2]
  rw [JL,k1]
  simp [owL,Z9]
 .have e1:Zs o n=⟨o.kind,o.n,o.l.take n.toNat,o.e⟩:=by rw [Zs,if_neg hn,JL]
  have e2:Jb o n=⟨o.kind,o.n,o.l.drop n.toNat,o.e⟩:=by rw [Jb,JL]
  have h3:¬o.kind=3:=YS
  have:=ZiZ (o.l.take n.toNat) (o.l.drop n.toNat)
  rw [QS] at this
  simp only [JS,e1,e2]
  rw [if_neg h3]
  omega
 .rw [if_pos k0] at hl
  omega
end
end Go.AM.YtpjenobkibfpcaaGreat
namespace Go.AM.YtpjenobkibfpcaaGreat
open Go.AM Go.Proofs
variable {K:Nat}
structure LbX (K:Nat) (T:Int) (X p:Edit):Prop where
 wk:Wk X
 th:Y2 T X
 ow:owE K X<=owE K p
 kx:X.kind=0\/X=p\/(X.kind=p.kind/\(p.kind=2\/p.kind=3))
theorem Zmt:Wk Edit.nil:=by
 obtain ⟨_,h1,d,h2⟩:=Z4b
 exact .of h2 h1
theorem LbX.nil{T:Int}(hT:0<=T)(p:Edit):LbX K T Edit.nil p:=⟨Zmt,Z1R hT,by rw [ZyJ];exact ZyI p,.inl rfl⟩
theorem LbX.self{T:Int}{p:Edit}(h:Wk p)(ht:Y2 T p):LbX K T p p:=⟨h,ht,Qb _,.inr (.inl rfl)⟩
theorem Z4f(n:Int):Z6 ⟨0,n,[],Edit.nil⟩=n:=by rw [Yr];simp
theorem Zsq(l:List Tree):Z6 ⟨2,0,l,Edit.nil⟩=l.length:=by rw [Yr];simp
theorem φB_nn{o:Op}(h:ZC o):0<=φB o:=by unfold φB;have:=Zw h;split <;> omega
theorem ZhS:∀ {l:List Op},(∀ o∈l,ZC o)->0<=YH l
 | [],_=> Qw _
 | o ::r,h=> by
  have h1:=φB_nn (h o Q2)
  have h2:=ZhS (l:=r) fun x hx=> h x (Q1 _ hx)
  rw [<-Z1r] at h2 ⊢
  simp only [ZE];omega
def Ztj(list:Int)(l:List Tree):Prop:=∀ t∈l,ZD (.mk list [] [t]) (-1)=true/\rng t
theorem Zfu{list n:Int}(h1:1<=n)(h2:n<=1048576):OkO list ⟨0,n,[],Edit.nil⟩:=by
 refine ⟨.inl ⟨rfl,rfl,⟨h1,h2⟩,rfl⟩,Zj1 h1 h2 _,YW V1 V1,V3,trivial,?_⟩
 exact Zmt.g
theorem ZyL{list:Int}{l:List Tree}(h:Ztj list l)(hl:l≠[]):OkO list ⟨2,0,l,Edit.nil⟩:=by
 refine ⟨.inr (.inl ⟨.inr rfl,rfl,hl,rfl⟩),Z5S (.inr rfl) ?_ hl,YW V1 V1,YW V1 V1,Zi4 fun t ht=> (h t ht).2,Zmt.g⟩
 rw [Zg8 V1]
 exact Z2z fun t ht=> (h t ht).1
theorem ZgZ{list:Int}{o:Op}(h:OkO list o)(k:o.kind=1\/o.kind=2):Ztj list o.l:=by
 have R:=J1 h.2.1
 have G:=(Z0y h.2.2).2.2.1
 intro t ht
 refine ⟨?_,JX G ht⟩
 cases R with
 | keep=> exact absurd k (by simp)
 | into=> exact absurd k (by simp)
 | gone l a1=> rw [Zg8 V1] at a1;exact JW a1 t ht
 | come l a1=> rw [Zg8 V1] at a1;exact JW a1 t ht
theorem Z36{list:Int}{o:Op}(h:OkO list o)(k:o.kind=3):(7 < list/\o.e.kind≠0/\Wl list o.e/\Wk o.e)/\o.l=[]:=by
 have R:=J1 h.2.1
 cases R with
 | keep | gone | come=> exact absurd k (by simp)
 | into e a1 a2 a3 a4=> exact ⟨⟨a3,a2,a4,⟨YA _ _ _ V1 a1,(Z0y h.2.2).2.2.2⟩⟩,rfl⟩
structure OpsX (K:Nat) (list T:Int) (l:List Op) (A B:Int) (W:Nat):Prop where
 ok:∀ o∈l,OkO list o/\Y2 T o.e
 la:Jd l<=A
 lb:YH l<=B
 ow:Z1v K l<=W
theorem OpsX.app{list T:Int}{l l':List Op}{A B A' B':Int}{W W':Nat}(h:OpsX K list T l A B W)(h':OpsX K list T l' A' B' W'):OpsX K list T (l++l') (A+A') (B+B') (W+W'):=by
 refine ⟨fun o ho=> (Qh.1 ho).elim (h.ok o) (h'.ok o),?_,?_,?_⟩
 .rw [<-Zec,Z40,Zec,Zec];have:=h.la;have:=h'.la;omega
 .rw [<-Z1r,Z40,Z1r,Z1r];have:=h.lb;have:=h'.lb;omega
 .rw [Zlf];have:=h.ow;have:=h'.ow;omega
theorem OpsX.none{list T A B:Int}{W:Nat}(ha:0<=A)(hb:0<=B):OpsX K list T [] A B W:=⟨fun o ho=> (by cases ho),ha,hb,Xb _⟩
theorem OpsX.mono{list T:Int}{l:List Op}{A B A' B':Int}{W W':Nat}(h:OpsX K list T l A B W)(ha:A<=A')(hb:B<=B')(hw:W<=W'):OpsX K list T l A' B' W':=
 ⟨h.ok,Int.le_trans h.la ha,Int.le_trans h.lb hb,Xf h.ow hw⟩
theorem OpsX.one{list T:Int}{o:Op}(h:OkO list o)(ht:Y2 T o.e):OpsX K list T [o] (φA o) (φB o) (Zfs K o):=by
 refine ⟨fun x hx=> by rw [Qf.1 hx];exact ⟨h,ht⟩,?_,?_,?_⟩
 .rw [<-Zec];simp [ZE]
 .rw [<-Z1r];simp [ZE]
 .simp [Z1v]
theorem Zx5{list T:Int}(hT:0<=T){n:Nat}(hn:n<=1048576):OpsX K list T (Yl n) n n 0:=by
 unfold Yl
 split
 .exact .none YS YS
 .refine (OpsX.one (Zfu YS YS) (Z1R hT)).mono ?_ ?_ ?_
  .unfold φA;rw [if_neg (by simp),Z4f];omega
  .unfold φB;rw [if_neg (by simp),Z4f];omega
  .simp [JS,owL,Z9]
theorem ZHK{list T:Int}(hT:0<=T){l:List Tree}(h:Ztj list l):OpsX K list T (Z0g l) 0 l.length (owL l):=by
 unfold Z0g
 split
 .exact .none YS YS
 .rename_i hl
  refine (OpsX.one (ZyL h hl) (Z1R hT)).mono ?_ ?_ ?_
  .unfold φA;rw [if_pos rfl];omega
  .unfold φB;rw [if_neg (by simp),Zsq];omega
  .simp [JS]
theorem ZqH{list T:Int}(hT:0<=T){m h:List Tree}(hm:Ztj list m)(hh:h.length<=1048576):OpsX K list T (Ym m h).x h.length (m.length+h.length) (owL m):=by
 unfold Ym
 split
 .exact (Zx5 hT hh).mono YS YS (Xb _)
 .exact ((ZHK hT hm).app (Zx5 hT hh)).mono YS YS YS
theorem Zpa {f:Edit->Edit->Lft} {list a b:Int} (hli:2<=list/\list<=9) (ha:0<=a) (hb:0<=b) {p q:Op} (op:OkO list p) (oq:OkO list q) (tp:Y2 a p.e) (hl:Z6 p=Z6 q) (p2:p.kind≠2) (q2:q.kind≠2)
  (hf:p.kind=3->q.kind=3->LbX K (a+b) (f p.e q.e).x p.e):OpsX K list (a+b) (ZA f p q).x (φB q) (φB p) (Zfs K p):=by
 have kp:=YX op.1
 have kq:=YX oq.1
 unfold kOk at kp kq
 have np:=φB_nn op.1
 have nq:=φB_nn oq.1
 have lp:=Zw op.1
 have tp':=Z1q _ p.e (Qb _) (show a<=a+b by omega) tp
 by_cases a0:p.kind=0
 .by_cases b1:q.kind=1
  .rw [ZDp a0 b1];exact .none nq np
  .rw [pL0 a0 b1]
   have e:(if q.n < 1 then 1 else q.n)=Z6 q:=by
    by_cases b0:q.kind=0
    .obtain ⟨_,h1,h2⟩:=Z4e oq.1 b0
     rw [JL,h2]
    .rw [Zj2 oq.1 b0,if_pos V1,Z0c YS]
   have h1:=Z4e op.1 a0
   rw [e,<-hl]
   refine (OpsX.one (Zfu lp ?_) (Z1R YS)).mono ?_ ?_ (by simp [JS,owL,Z9])
   .rw [h1.2.2]
    rcases op.1 with h | h | h
    .exact h.2.2.1.2
    .omega
    .omega
   .unfold φA φB;rw [if_neg (by simp),if_neg b1,Z4f];omega
   .unfold φB;rw [if_neg (by simp),JL,Z4f];omega
 .by_cases b0:q.kind=0
  .by_cases a1:p.kind=1
   .rw [ZDo a1 b0]
    refine (OpsX.one op tp').mono ?_ (Qw _) (Qb _)
    unfold φA φB;rw [if_neg p2,JL];omega
   .rw [ZDl a0 a1 b0]
    refine (OpsX.one op tp').mono ?_ (Qw _) (Qb _)
    unfold φA φB;rw [if_neg p2,JL];omega
  .by_cases a1:p.kind=1
   .by_cases b1:q.kind=1
    .rw [ZDn a1 b1];exact .none nq np
    .rw [pL1 a1 b0 b1];exact .none nq np
   .by_cases b1:q.kind=1
    .rw [ZDk a0 a1 b1];exact .none nq np
    .rw [ZDm a0 a1 b0 b1]
     have p3:p.kind=3:=YS
     obtain ⟨hw,ht,how,hk⟩:=hf p3 YS
     obtain ⟨⟨e1,e2,e3,e4⟩,e5⟩:=Z36 op p3
     have l1:=Z0c p3
     have hB:φB q=1:=by unfold φB;rw [if_neg b1];omega
     have hB':φB p=1:=by unfold φB;rw [if_neg a1];omega
     rw [hB,hB']
     dsimp only
     unfold Z0j
     split
     .refine (OpsX.one (Zfu V1 V1) (Z1R YS)).mono ?_ ?_ (by simp [JS,owL,Z9])
      .unfold φA;rw [if_neg (by simp),Z4f];omega
      .unfold φB;rw [if_neg (by simp),Z4f];omega
     .rename_i hx0
      have hwl:Wl list (f p.e q.e).x:=by
       rcases hk with h | h | ⟨h,h'⟩
       .exact absurd h hx0
       .rw [h];exact e3
       .rcases h' with h' | h'
        .exact .inr (.inl YS)
        .rcases e3 with g | g | g
         .exact .inl g
         .omega
         .omega
      refine (OpsX.one ⟨.inr (.inr ⟨rfl,rfl,rfl⟩),Zpe (YA _ _ _ V1 hw.r) hx0 e1 hwl,YW V1 V1,YW V1 V1,trivial,hw.g⟩ ht).mono ?_ ?_ ?_
      .unfold φA;rw [if_neg (show ¬(3:Int)=2 by decide),Z0c rfl];omega
      .unfold φB;rw [if_neg (show ¬(3:Int)=1 by decide),Z0c rfl];omega
      .simp only [JS,if_true];rw [if_pos p3,e5];simp only [owL,Z9,Q8];omega
theorem ZHG{f:Edit->Edit->Lft}{list a b:Int}(hli:2<=list/\list<=9)(ha:0<=a)(hb:0<=b){p q:List Op}{m h:List Tree}{S:PL}(H:Lay f p q m h S):
  (∀ o∈p,OkO list o/\Y2 a o.e)->(∀ o∈q,OkO list o)->(∀ x∈p,∀ y∈q,x.kind=3->y.kind=3->LbX K (a+b) (f x.e y.e).x x.e)->Ztj list m->(h.length:Int)+YH q<=1048576->
  OpsX K list (a+b) S.x (h.length+YH q) (m.length+h.length+YH p+YH q) (owL m+Z1v K p):=by
 induction H with
 | nil m h=>
  intro _ _ _ hm hh
  simp only [YH] at hh
  exact (ZqH YS hm YS).mono (by simp only [YH];omega) (by simp only [YH];omega) YS
 | left k2 _ ih=>
  rename_i x p q m h S _
  intro op oq hf hm hh
  have o1:=op _ Q2
  have e:=ih (fun o ho=> op o (Q1 _ ho)) oq (fun x hx=> hf x (Q1 _ hx)) (fun t ht=> (Qh.1 ht).elim (hm t) (ZgZ o1.1 (.inr k2) t)) hh
  have l2:=Z15 o1.1.1 (.inr k2)
  refine e.mono (Qw _) ?_ ?_
  .rw [<-Z1r (_ ::_)]
   simp only [ZE,Z1r,φB]
   rw [JL,l2,Q7];omega
  .rw [ZiZ]
   simp only [Z1v,JS]
   omega
 | right np k2 _ ih=>
  intro op oq hf hm hh
  have o1:=oq _ Q2
  have l2:=Z15 o1.1 (.inr k2)
  have e1:∀ (b:Op) (q:List Op),b.kind=2->YH (b ::q)=Z6 b+YH q:=by
   intro b q hb
   rw [<-Z1r (_ ::_)]
   simp only [ZE,Z1r,φB]
   rw [JL]
  rw [e1 _ _ k2] at hh
  have e:=ih op (fun o ho=> oq o (Q1 _ ho)) (fun x hx y hy=> hf x hx y (Q1 _ hy)) hm (by rw [Q7];omega)
  rw [Q7] at e
  refine e.mono ?_ ?_ (Qb _)
  .rw [e1 _ _ k2];omega
  .rw [e1 _ _ k2];omega
 | both ka kb hn _ ih=>
  rename_i x p y q m h S n _
  intro op oq hf hm hh
  have op1:∀ o∈x ::p,OkO list o:=fun o ho=> (op o ho).1
  have lx:=Zw (op1 x Q2).1
  have ly:=Zw (oq y Q2).1
  have h1:1<=n:=YS
  obtain ⟨t1,t2,t3,t4⟩:=Zkm op1 h1 YS
  obtain ⟨u1,u2,u3,u4⟩:=Zkm oq h1 YS
  obtain ⟨s1,_⟩:=Z5w ZCz (p:=x ::p) (fun o ho=> (op1 o ho).1) (by simp) h1
  obtain ⟨s2,_⟩:=Z5w ZCz (p:=y ::q) (fun o ho=> (oq o ho).1) (by simp) h1
  obtain ⟨s3,_⟩:=Z5w ZHW (p:=x ::p) (fun o ho=> (op1 o ho).1) (by simp) h1
  have so:∀ l:List Op,ZE (fun o=> ((Zfs K o:Nat):Int)) l=Z1v K l:=by
   intro l
   induction l with
   | nil=> rfl
   | cons o r ih=> simp only [ZE,Z1v,ih];omega
  rw [so,so,Ql] at s3
  rw [Z1r,Z1r,Ql] at s1 s2
  have nq:=ZhS (l:=Zz (y ::q) n) fun o ho=> (u4 o ho).1
  have np:=ZhS (l:=Zz (x ::p) n) fun o ho=> (t4 o ho).1
  have fq:=φB_nn u1.1
  have ee:∀ o∈Zz (x ::p) n,o.e=x.e/\o.kind=x.kind\/o∈p:=fun o ho=> (Z3Y ho).symm.imp (fun h=> by rw [h];exact ⟨Zap _ _,Z1G _ _⟩) id
  have ee':∀ o∈Zz (y ::q) n,o.e=y.e/\o.kind=y.kind\/o∈q:=fun o ho=> (Z3Y ho).symm.imp (fun h=> by rw [h];exact ⟨Zap _ _,Z1G _ _⟩) id
  have hf':∀ o∈x ::p,∀ o'∈y ::q,∀ r r':Op,r.e=o.e->r'.e=o'.e->r.kind=o.kind->r'.kind=o'.kind->r.kind=3->r'.kind=3->LbX K (a+b) (f r.e r'.e).x r.e:=by
   intro o ho o' ho' r r' e1 e2 k1 k2 k3 k4
   rw [e1,e2]
   exact hf o ho o' ho' YS YS
  have e:=ih (fun o ho=> ⟨t4 o ho,by rcases ee o ho with ⟨h,_⟩ | h;rw [h];exact (op x Q2).2;exact (op o (Q1 _ h)).2⟩) u4
   (fun r hr r' hr' k3 k4=> by
    rcases ee r hr with ⟨e1,k1⟩ | e1
    .rcases ee' r' hr' with ⟨e2,k2⟩ | e2
     .exact hf' x Q2 y Q2 r r' e1 e2 k1 k2 k3 k4
     .exact hf' x Q2 r' (Q1 _ e2) r r' e1 rfl k1 rfl k3 k4
    .rcases ee' r' hr' with ⟨e2,k2⟩ | e2
     .exact hf' r (Q1 _ e1) y Q2 r r' rfl e2 rfl k2 k3 k4
     .exact hf r (Q1 _ e1) r' (Q1 _ e2) k3 k4)
   (fun t ht=> by cases ht) (by simp only [Q8];omega)
  have g:=ZqH (K:=K) (T:=a+b) YS hm (h:=h) YS
  have pc:=Zpa (f:=f) hli ha hb t1 u1 (by rw [Z8K];exact (op x Q2).2) YS YS YS (hf' x Q2 y Q2 _ _ (Z8K _ _) (Z8K _ _) (Jk _ _) (Jk _ _))
  refine ((g.app pc).app e).mono ?_ ?_ ?_
  .simp only [Q8];omega
  .simp only [Q8];omega
  .simp only [owL,Z9,Q8] at s3 ⊢;omega
end Go.AM.YtpjenobkibfpcaaGreat
namespace Go.AM.YtpjenobkibfpcaaGreat
open Go.AM Go.Proofs
variable {K:Nat}
theorem Z9a:rng Tree.nil:=by simp [Tree.nil,rng,Jt,InR]
theorem Z8z{α:Type}{at_:α->Int}{f:α->α}(hf:∀ a,at_ (f a)=at_ a):∀ {l:List α} {last:Int},asc at_ last l->asc at_ last (l.map f)
 | [],_,_=> trivial
 | a ::r,last,h=> by
  refine ⟨by rw [hf];exact h.1,?_⟩
  rw [hf]
  exact Z8z hf h.2
theorem Z5k{α:Type}{at_:α->Int}{g:α->Bool}:∀ {l:List α} {last:Int},asc at_ last l->asc at_ last (l.filter g)
 | [],_,_=> trivial
 | a ::r,last,h=> by
  rw [XC]
  split
  .exact ⟨h.1,Z5k h.2⟩
  .exact Zta (K7 h.1) (Z5k h.2)
theorem ZlH(a b:WEdit):(Z1m a b).at_=a.at_:=rfl
theorem ZwS{a b:WEdit}(ra:Zi3 a):Zi3 (Z1m a b)/\J7 (Z1m a b).old (Z1m a b).mask=true/\J7 (Z1m a b).new (Z1m a b).mask=true:=by
 obtain ⟨m1,_⟩:=ZdU (a:=Z7P b.mask) (b:=a.mask) (by
  have h:=(BitVec.ofInt (IntKind.bits .u8) 255 ^^^ BitVec.ofInt (IntKind.bits .u8) b.mask).isLt
  have e:(2:Nat) ^ IntKind.bits .u8=256:=rfl
  unfold Z7P
  rw [Z3m YS YS]
  omega) ra.2.1
 have w:∀ x m:Int,J7 (mix 0 x m) m=true:=fun x m=> ZrW fun i hi hn=> by rw [ZDv hi,if_neg (by rw [hn];decide)];exact ZCv i
 exact ⟨⟨ra.1,m1,Znl _ _ _,Znl _ _ _⟩,w _ _,w _ _⟩
theorem ZDa {T:Int} {W:List WEdit} {Ks:List Kid} {p:Edit} (hT:0<=T) (p2:p.kind=2) (aw:asc WEdit.at_ (-1) W) (ak:asc KidOf.at_ (-1) Ks)
  (hw:∀ w∈W,Zi3 w/\w.at_<=65534/\J7 w.old w.mask=true/\J7 w.new w.mask=true) (hk:∀ k∈Ks,k.at_<=65534/\InR k.at_/\Wk k.e/\Y2 T k.e)
  (ow:65600*W.length+Z53 K Ks<=65600*p.words.length+Z53 K p.kids):LbX K T (Z5D (.mk 2 Tree.nil Tree.nil W Ks 0 [])) p:=by
 unfold Z5D
 split
 .exact .nil hT p
 .show LbX K T (.mk 2 Tree.nil Tree.nil (W.filter fun w=> !decide (w.mask=0)) (Ks.filter fun k:Kid=> !decide (k.e.kind=0)) 0 []) p
  refine ⟨⟨Zsd (ZdX (Z5k aw) fun w h=> ?_) (ZeF (Z5k ak) fun k h=> ?_),?_⟩,?_,?_,.inr (.inr ⟨by rw [p2];rfl,.inl p2⟩)⟩
  .obtain ⟨h1,h2⟩:=K4.1 h
   obtain ⟨_,g2,g3,g4⟩:=hw w h1
   exact ⟨g2,by simpa using h2,g3,g4⟩
  .obtain ⟨h1,h2⟩:=K4.1 h
   obtain ⟨g1,_,g3,_⟩:=hk k h1
   exact ⟨g1,by simpa using h2,YA _ _ _ V1 g3.r⟩
  .refine ⟨YW V1 V1,Z9a,Z9a,fun w h=> (hw w (K4.1 h).1).1,YW V1 V1,ZkE fun k h=> ?_,trivial⟩
   obtain ⟨_,g2,g3,_⟩:=hk k (K4.1 h).1
   exact ⟨g2,g3.g⟩
  .rw [Jc]
   refine ⟨⟨hT,hT⟩,fun k h=> (hk k (K4.1 h).1).2.2.2,fun o h=> (by cases h)⟩
  .have l1:=Ki (fun w:WEdit=> !decide (w.mask=0)) W
   have l2:∀ l:List Kid,Z53 K (l.filter fun k=> !decide (k.e.kind=0))<=Z53 K l:=by
    intro l
    induction l with
    | nil=> exact Qb _
    | cons k r ih=>
     rw [XC]
     split
     .simp only [Z53];omega
     .simp only [Z53];omega
   have l2:=l2 Ks
   have e:=Zj0 (K:=K) p
   have m1:=Zhc p.old;have m2:=Zhc p.new
   have key:∀ w k:Nat,w<=W.length->k<=Z53 K Ks->K+1+1+65600*w+k+0<=owE K p:=by intro w k h1 h2;omega
   exact key _ _ l1 l2
theorem Zhy{α:Type}{at_:α->Int}{f:α->α->α}{q:List α}{a:α}:YL at_ f q a=a\/∃ b∈q,at_ b=at_ a/\YL at_ f q a=f a b:=by
 unfold YL
 cases h:Z1b at_ q (at_ a) with
 | none=> exact .inl rfl
 | some b=> obtain ⟨h1,h2⟩:=Zbl at_ _ q b h;exact .inr ⟨b,h1,h2,rfl⟩
theorem Zuy {f:Edit->Edit->Lft} {a b:Int} (ha:0<=a) (hb:0<=b) {p q:Edit} (wp:Wk p) (wq:Wk q) (tp:Y2 a p) (p2:p.kind=2)
  (hf:∀ x∈p.kids,∀ y∈q.kids,LbX K (a+b) (f x.e y.e).x x.e):LbX K (a+b) (Z2g f p q).x p:=by
 have rp:=Zj wp.r
 have gp:=ZR wp.g
 rw [Jc] at tp
 have hcut:∀ k∈p.kids,LbX K (a+b) (YL KidOf.at_ (fun a b:Kid=> ⟨a.at_,(f a.e b.e).x⟩) q.kids k).e k.e:=by
  intro k hk
  rcases Zhy (at_:=KidOf.at_) (f:=fun a b:Kid=> ⟨a.at_,(f a.e b.e).x⟩) (q:=q.kids) (a:=k) with e | ⟨y,hy,_,e⟩
  .rw [e]
   exact .self ⟨YA _ _ _ V1 (Zp rp.kids k hk).2,(Yz gp.2.2.2.1 hk).2⟩ (Z1q _ _ (Qb _) YS (tp.2.1 k hk))
  .rw [e];exact hf k hk y hy
 have hat:∀ k:Kid,(YL KidOf.at_ (fun a b:Kid=> ⟨a.at_,(f a.e b.e).x⟩) q.kids k).at_=k.at_:=fun k=> ZdF (at_:=KidOf.at_) (f:=fun a b:Kid=> ⟨a.at_,(f a.e b.e).x⟩) (fun _ _=> rfl) q.kids k
 refine ZDa YS p2 (Z8z (ZdF ZlH _) (Z1n rp.words)) (Z8z hat (Z3e rp.kids)) (fun w hw=> ?_) (fun k hk=> ?_) ?_
 .obtain ⟨v,hv,rfl⟩:=QM.1 hw
  have A:=Yu rp.words v hv
  have R:=gp.2.2.1 v hv
  rcases Zhy (at_:=WEdit.at_) (f:=Z1m) (q:=q.words) (a:=v) with e | ⟨y,hy,_,e⟩
  .rw [e];exact ⟨R,A.2.1,A.2.2.2.1,A.2.2.2.2⟩
  .rw [e]
   obtain ⟨r1,r2,r3⟩:=ZwS (b:=y) R
   exact ⟨r1,by rw [ZlH];exact A.2.1,r2,r3⟩
 .obtain ⟨v,hv,rfl⟩:=QM.1 hk
  have A:=(Zp rp.kids v hv).1
  have H:=hcut v hv
  rw [hat]
  exact ⟨A.2.1,(Yz gp.2.2.2.1 hv).1,H.wk,H.th⟩
 .rw [Qv]
  have key:∀ l:List Kid,(∀ k∈l,k∈p.kids)->Z53 K (l.map (YL KidOf.at_ (fun a b:Kid=> ⟨a.at_,(f a.e b.e).x⟩) q.kids))<=Z53 K l:=by
   intro l
   induction l with
   | nil=> intro _;exact Qb _
   | cons k r ih=>
    intro hl
    have:=(hcut k (hl k Q2)).ow
    have:=ih fun x hx=> hl x (Q1 _ hx)
    simp only [Qn,Z53,Zlg]
    omega
  exact XO (key p.kids fun _ h=> h) _
theorem Znx{l:List Op}(h:∀ o∈l,ZC o)(hs:Jd l < 1048576/\YH l < 1048576):Z2r l 0 < 1048576/\Z2q l 0 < 1048576:=by
 have nn:∀ o∈l,0<=Z6 o:=fun o ho=> by have:=Zw (h o ho);omega
 have a:=(Z0u l 0 nn V1 V1).1
 have b:=(Z19 l 0 nn V1 V1).1
 omega
theorem JT{e:Edit}(w:Wk e):∀ o∈e.ops,OkO e.list o:=by
 intro o ho
 have r:=rightOs_mem (Zj w.r).ops ho
 exact ⟨ZS w.r o ho,r,Z0M (ZR w.g).2.2.2.2 ho⟩
theorem ZuF{list T:Int}{l:List Op}{A B:Int}{W:Nat}{p:Edit}(hT:0<=T)(hli:2<=list/\list<=9)(h:OpsX K list T l A B W)(hA:A<=T)(hB:B<=T)(h1:T < 1048576)(p3:p.kind=3)(hp:p.list=list)(hW:W<=Z1v K p.ops):LbX K T (Yx list l) p:=by
 unfold Yx
 split
 .have la:=h.la;have lb:=h.lb
  obtain ⟨k1,k2⟩:=Znx (fun o ho=> (h.ok o ho).1.1) (l:=l) ⟨YS,YS⟩
  refine ⟨⟨Zsc hli (ZeE fun o ho=> (h.ok o ho).1.2.1) k1 k2,?_⟩,?_,?_,.inr (.inr ⟨by rw [p3];rfl,.inr p3⟩)⟩
  .exact ⟨YW V1 V1,Z9a,Z9a,fun w hw=> (by cases hw),YW YS YS,trivial,ZkD fun o ho=> (h.ok o ho).1.2.2⟩
  .rw [Jc]
   exact ⟨⟨by show Jd l<=T;omega,by show YH l<=T;omega⟩,fun k hk=> (by cases hk),fun o ho=> (h.ok o ho).2⟩
  .have e:=Zj0 (K:=K) p
   have m1:=Zhc p.old;have m2:=Zhc p.new
   have:=h.ow
   simp only [owE,Z53,Tree.nil,Zm,Z9,Q8]
   omega
 .exact .nil hT p
theorem ZHA {f:Edit->Edit->Lft} {a b:Int} (ha:0<=a) (hb:0<=b) (hab:a+b < 1048576) {p q:Edit} (wp:Wk p) (wq:Wk q) (tp:Y2 a p) (tq:Y2 b q) (p3:p.kind=3) (hl:p.list=q.list)
  (hf:∀ x∈p.ops,∀ y∈q.ops,x.kind=3->y.kind=3->LbX K (a+b) (f x.e y.e).x x.e):LbX K (a+b) (Z4k f p q).x p:=by
 have rp:=Zj wp.r
 have hli:=rp.list p3
 rw [Jc] at tp tq
 unfold Z4k
 by_cases hc:(ZH 2 2 p.ops q.ops []).2.1=true
 .rw [if_pos hc]
  obtain ⟨ps,e,hL⟩:=ZfR (f:=f) _ p.ops q.ops [] (Qb _) hc
  rw [e,Qr]
  have S:=ZHG (K:=K) hli ha hb (hL [] []) (fun o ho=> ⟨JT wp o ho,tp.2.2 o ho⟩) (fun o ho=> by rw [hl];exact JT wq o ho) hf (fun t ht=> by cases ht) (by simp only [Q8];omega)
  simp only [Q8,owL,Z9] at S
  exact ZuF YS hli S YS YS hab p3 rfl YS
 .rw [if_neg hc]
  exact .nil YS p
theorem ZD9 {f:Edit->Edit->Lft} {a b:Int} (ha:0<=a) (hb:0<=b) (hab:a+b < 1048576) {p q:Edit} (wp:Wk p) (wq:Wk q) (tp:Y2 a p) (tq:Y2 b q)
  (hf:∀ x y,Z3 x+Z3 y < Z3 p+Z3 q->Wk x->Wk y->Y2 a x->Y2 b y->LbX K (a+b) (f x y).x x):LbX K (a+b) (YD f p q).x p:=by
 by_cases p0:p.kind=0
 .rw [lb0 (.inl p0)];exact .self wp (Z1q _ _ (Qb _) YS tp)
 by_cases q0:q.kind=0
 .rw [lb0 (.inr q0)];exact .self wp (Z1q _ _ (Qb _) YS tp)
 by_cases p1:p.kind=1
 .rw [lb1 p1 q0];exact .nil YS p
 by_cases q1:q.kind=1
 .rw [ZE2 p0 p1 q1];exact .nil YS p
 by_cases hd:p.kind≠q.kind\/p.list≠q.list
 .rw [lbd p0 p1 q0 q1 hd];exact .nil YS p
 have hk:p.kind=q.kind:=YS
 have hl:p.list=q.list:=YS
 have rp:=Zj wp.r
 have rq:=Zj wq.r
 have tp':=Jc.1 tp
 have tq':=Jc.1 tq
 by_cases p2:p.kind=2
 .rw [lb2 p2 YS hl]
  refine Zuy ha hb wp wq tp p2 fun x hx y hy=> ?_
  have:=ZV hx;have:=ZV hy
  exact hf _ _ YS ⟨YA _ _ _ V1 (Zp rp.kids x hx).2,(Yz (ZR wp.g).2.2.2.1 hx).2⟩ ⟨YA _ _ _ V1 (Zp rq.kids y hy).2,(Yz (ZR wq.g).2.2.2.1 hy).2⟩ (tp'.2.1 x hx) (tq'.2.1 y hy)
 .have kp:=rp.kind
  rw [lb3 hk p0 p1 p2 hl]
  refine ZHA ha hb hab wp wq tp tq YS hl fun x hx y hy kx ky=> ?_
  have:=YV hx;have:=YV hy
  exact hf _ _ YS ((Z36 (JT wp x hx) kx).1.2.2.2) ((Z36 (JT wq y hy) ky).1.2.2.2) (tp'.2.2 x hx) (tq'.2.2 y hy)
theorem ZHE{a b:Int}(ha:0<=a)(hb:0<=b)(hab:a+b < 1048576):∀ (n:Nat) (p q:Edit),Z3 p+Z3 q<=n->Wk p->Wk q->Y2 a p->Y2 b q->LbX K (a+b) (lbF n p q).x p:=by
 intro n
 induction n with
 | zero=> intro p q h;obtain ⟨k,o,nw,w,ks,l,os⟩:=p;simp only [Z3] at h;omega
 | succ n ih=>
  intro p q hn wp wq tp tq
  exact ZD9 ha hb hab wp wq tp tq fun x y hxy wx wy tx ty=> ih x y YS wx wy tx ty
theorem ZHF{a b:Int}(ha:0<=a)(hb:0<=b)(hab:a+b < 1048576){p q:Edit}(wp:Wk p)(wq:Wk q)(tp:Y2 a p)(tq:Y2 b q):LbX K (a+b) (lbE p q).x p/\LbX K (a+b) (lbE p q).y q:=by
 refine ⟨ZHE ha hb hab _ p q (Qb _) wp wq tp tq,?_⟩
 have h:=ZHE (K:=K) hb ha YS _ q p (Qb _) wq wp tq tp
 rw [show lbF (Z3 q+Z3 p) q p=lbE q p from rfl,ZwV wp.r wq.r] at h
 rw [Ko]
 exact h
theorem ZjM{T:Int}(hT:0<=T)(hK:16+68*T.toNat<=K):∀ (n:Nat) (e:Edit),Z3 e<=n->Wk e->Y2 T e->ctE e<=owE K e:=by
 intro n
 induction n with
 | zero=> intro e h;obtain ⟨k,o,nw,w,ks,l,os⟩:=e;simp only [Z3] at h;omega
 | succ n ih=>
  intro e hn we te
  have re:=Zj we.r
  have te':=Jc.1 te
  have hc:=JO e
  have ho:=Zj0 (K:=K) e
  have kids:∀ l:List Kid,(∀ k∈l,k∈e.kids)->Z3h l<=Z53 K l:=by
   intro l
   induction l with
   | nil=> intro _;exact Qb _
   | cons k r ihl=>
    intro hl
    have hk:=hl k Q2
    have:=ZV hk
    have h1:=ih k.e YS ⟨YA _ _ _ V1 (Zp re.kids k hk).2,(Yz (ZR we.g).2.2.2.1 hk).2⟩ (te'.2.1 k hk)
    have h2:=ihl fun x hx=> hl x (Q1 _ hx)
    simp only [Z3h,Z53,Zlg,Zga]
    omega
  have lens:∀ l:List Op,(∀ o∈l,o∈e.ops)->(l.length:Int)<=Jd l+YH l/\Jx l<=Z1v K l+34*l.length:=by
   intro l
   induction l with
   | nil=> intro _;simp [Jx,Jd,YH]
   | cons o r ihl=>
    intro hl
    obtain ⟨h1,h2⟩:=ihl fun x hx=> hl x (Q1 _ hx)
    have hm:=hl o Q2
    have hO:=JT we o hm
    have h4:=Zw hO.1
    simp only [Jx,Z1v,Jd,YH,Q6]
    refine ⟨?_,?_⟩
    .by_cases k1:o.kind=1
     .rw [if_neg (show ¬o.kind=2 by omega),if_pos k1];omega
     .rw [if_neg k1];split <;> omega
    .have e1:=Z3G o
     have e2:=JS (K:=K) o
     by_cases k3:o.kind=3
     .have:=YV hm
      obtain ⟨⟨_,_,_,w⟩,hl⟩:=Z36 hO k3
      have h1:=ih o.e YS w (te'.2.2 o hm)
      rw [if_pos k3] at e2
      have:Z9 o.l=0:=by rw [hl];try rfl
      omega
     .have he:ctE o.e=18:=by
       rcases hO.1 with h | h | h
       .rw [h.2.2.2];try rfl
       .rw [h.2.2.2];try rfl
       .omega
      rw [if_neg k3] at e2
      unfold owL at e2
      omega
  obtain ⟨l1,l2⟩:=lens e.ops fun _ h=> h
  have l3:=kids e.kids fun _ h=> h
  have t1:=te'.1
  have l4:e.ops.length<=2*T.toNat:=YS
  omega
mutual
theorem Z9w(K:Nat):∀ e:Edit,owE K e+65700<=(131402+K)*Z3 e
 | .mk k o n w ks l os=> by
  have h1:=Zvz K ks
  have h2:=Zvy K os
  have w1:Zm o<=(131402+K)*Zm o:=Nat.le_mul_of_pos_left _ YS
  have w2:Zm n<=(131402+K)*Zm n:=Nat.le_mul_of_pos_left _ YS
  have w3:65600*w.length<=(131402+K)*w.length:=Qi _ YS
  simp only [owE,Z3,Nat.mul_add]
  omega
theorem Zvz(K:Nat):∀ ks:List (KidOf Edit),Z53 K ks<=(131402+K)*Ya ks
 | []=> Xb _
 | ⟨a,e⟩ ::r=> by
  have h1:=Z9w K e
  have h2:=Zvz K r
  simp only [Z53,ZvA,Ya,Z0f,Nat.mul_add]
  omega
theorem Zvy(K:Nat):∀ os:List (OpOf Edit),Z1v K os<=(131402+K)*Zg os
 | []=> Xb _
 | ⟨k,n,l,e⟩ ::r=> by
  have h1:=Z9w K e
  have h2:=Zvy K r
  have h3:=Zq l
  have w1:101*Z9 l<=(131402+K)*Z9 l:=Qi _ YS
  simp only [Z1v,Zfs,owL,Zg,Zu,Nat.mul_add]
  split <;> omega
end
end Go.AM.YtpjenobkibfpcaaGreat
namespace Go.AM.YtpjenobkibfpcaaGreat
open Go.AM Go.Proofs
theorem Z6Y(n:Int):(Yl n).length<=1:=by unfold Yl;split <;> simp
theorem Z66:∀ {ks:List Kid},JJ ks=true->∀ k∈ks,YR k.e=true
 | [],_,k,hk=> by cases hk
 | a ::r,h,k,hk=> by
  rw [JJ,Q3] at h
  rcases Qc.1 hk with rfl | hk
  .obtain ⟨_,e⟩:=k;exact h.1
  .exact Z66 h.2 k hk
theorem Z65:∀ {os:List Op},ZX os=true->∀ o∈os,YR o.e=true
 | [],_,k,hk=> by cases hk
 | a ::r,h,k,hk=> by
  rw [ZX,Q3] at h
  rcases Qc.1 hk with rfl | hk
  .obtain ⟨_,_,_,e⟩:=k;exact h.1
  .exact Z65 h.2 k hk
theorem Z58:∀ (n:Nat) (e:Edit) (d:Int),Z3 e<=n->Zb e d=true->YR e=true->YR (Zn e)=true
 | 0,e,d,hn,_,_=> by
  have:3<=Z3 e:=Zce e
  omega
 | n+1,e,d,hn,hr,hl=> by
  have ra:=Zj hr
  have hops:=Z1V.1 ra.ops
  rw [Z6W] at hl
  simp only [Q3,decide_eq_true_eq] at hl
  have hz:∀ (k:Int) (o m:Tree) (w:List WEdit) (l:Int),YR (.mk k o m w [] l [])=true:=by
   intro k o m w l
   rw [YR]
   simp [Z2r,Z2q,JJ,ZX]
  rw [Z54]
  split
  .exact hz _ _ _ _ _
  .split
   .rw [YR]
    simp only [Z2r,Z2q,ZX,Xe,Q3,decide_eq_true_eq]
    refine ⟨by simp,?_⟩
    have:∀ ks:List Kid,(∀ k∈ks,k∈e.kids)->JJ (Jz ks)=true:=by
     intro ks
     induction ks with
     | nil=> intro _;rfl
     | cons k r ih=>
      intro h
      rw [Jz,JJ,ih fun x hx=> h x (Q1 _ hx),Xe]
      have hk:=h k Q2
      have hm:=ZV hk
      obtain ⟨a,x⟩:=k
      exact Z58 n x (d - 1) (by have hm:Z3 x < Z3 e:=hm;omega) (Zp ra.kids _ hk).2 (Z66 hl.1.2 _ hk)
    exact this e.kids fun _ h=> h
   .split
    .rename_i k3
     have hsA:=Z0u e.ops 0 (fun x hx=> Z2l (ZaO (hops x hx))) YS YS
     have hsB:=Z19 e.ops 0 (fun x hx=> Z2l (ZaO (hops x hx))) YS YS
     have hlen:=ra.len
     have hsn:=ZhQ e.list e.ops (d - 1) ⟨[],[],[]⟩ ra.ops
     have hfl:=Z6r (Zt e.list e.ops ⟨[],[],[]⟩)
     have hrn:=JE e d hr
     rw [Z54,JL,JL,if_pos k3] at hrn
     have rn:=Zj hrn
     have nops:=Z1V.1 rn.ops
     simp only [Edit.ops_mk,Edit.list_mk] at nops
     have nsA:=Z0u (Z2 (Zt e.list e.ops ⟨[],[],[]⟩)).out 0 (fun x hx=> Z2l (ZaO (nops x hx))) YS YS
     have nsB:=Z19 (Z2 (Zt e.list e.ops ⟨[],[],[]⟩)).out 0 (fun x hx=> Z2l (ZaO (nops x hx))) YS YS
     have hs0:sA ⟨[],[],[]⟩=0/\sB ⟨[],[],[]⟩=0:=⟨rfl,rfl⟩
     rw [YR]
     simp only [JJ,Xe,Q3,decide_eq_true_eq]
     refine ⟨YS,?_⟩
     have hw:∀ (os:List Op),(∀ o∈os,o∈e.ops)->∀ w:Wst,ZX w.out=true->ZX (Zt e.list os w).out=true:=by
      intro os
      induction os with
      | nil=> intro _ w hw;exact hw
      | cons o r ih=>
       intro h w hw
       rw [Zt]
       refine ih (fun x hx=> h x (Q1 _ hx)) _ ?_
       have hm:=h o Q2
       rw [YJ]
       split
       .exact light_keep _ _ hw
       .split
        .exact hw
        .split
         .exact hw
         .split
          .rename_i k3'
           split
           .exact light_keep _ _ hw
           .dsimp only
            rw [light_app,light_flush _ hw,QG,ZX,ZX,Xe]
            have:=YV hm
            exact Z58 n o.e (d - 1) YS (J5 (hops o hm) k3') (Z65 hl.2 _ hm)
          .exact hw
     exact light_flush _ (hw e.ops (fun _ h=> h) _ rfl)
    .exact hz _ _ _ _ _
where
 light_app:∀ (a b:List Op),ZX (a++b)=(ZX a && ZX b)
  | [],b=> rfl
  | o ::r,b=> by rw [Qp,ZX,ZX,light_app r b,Bool.and_assoc]
 light_nil:YR Edit.nil=true:=V1
 light_flush (w:Wst) (h:ZX w.out=true):ZX (Z2 w).out=true:=by
  unfold Z2 Z0r
  dsimp only
  rw [light_app,light_app,h,QG]
  split <;> split <;> simp [ZX,Z9P,light_nil]
 light_keep (w:Wst) (n:Int) (h:ZX w.out=true):ZX (ZM w n).out=true:=by
  unfold ZM
  dsimp only
  have h:=light_flush w h
  rcases Z05 (Z2 w).out n with e | ⟨a,o,e1,e2,e3⟩
  .rw [e,light_app,h];simp [ZX,Z9P,light_nil]
  .rw [e3,light_app]
   rw [e1,light_app,Q3] at h
   rw [h.1]
   obtain ⟨_,_,_,x⟩:=o
   simpa [ZX,Z9P] using h.2
instance decStep:DecidableEq PStep:=fun a b=> decidable_of_iff (a.kind=b.kind/\a.at_=b.at_) (by cases a;cases b;simp)
def ZkX(p q:Edit):Prop:=J2 p/\J2 q/\∃ a b:Int,(0<=a/\0<=b/\a+b < 1048576)/\(Y2 a (Zn p)/\Y2 b (Zn q))/\owE (16+68*(a+b).toNat) (Zn p)<=9000000000/\owE (16+68*(a+b).toNat) (Zn q)<=9000000000
theorem Z4a{e:Edit}(h:J2 e):J2 (Zn e):=by
 obtain ⟨c,g,d,r⟩:=h
 exact ⟨Xf (ZnX e) c,Z49 e d r g,d,JE e d r⟩
theorem Zp1{p q:Edit}(h:ZkX p q):(J2 (Zn p)/\J2 (Zn q))/\J2 (lbE (Zn p) (Zn q)).x/\J2 (lbE (Zn p) (Zn q)).y:=by
 obtain ⟨hp,hq,a,b,⟨ha,hb,hab⟩,⟨tp,tq⟩,wp,wq⟩:=h
 have hp':=Z4a hp
 have hq':=Z4a hq
 obtain ⟨X,Y⟩:=ZHF (K:=16+68*(a+b).toNat) ha hb hab (Zdv hp') (Zdv hq') tp tq
 have c1:=ZjM (K:=16+68*(a+b).toNat) (show 0<=a+b by omega) (Qb _) _ _ (Qb _) X.wk X.th
 have c2:=ZjM (K:=16+68*(a+b).toNat) (show 0<=a+b by omega) (Qb _) _ _ (Qb _) Y.wk Y.th
 have o1:=X.ow
 have o2:=Y.ow
 exact ⟨⟨hp',hq'⟩,⟨YS,X.wk.g,-1,X.wk.r⟩,⟨YS,Y.wk.g,-1,Y.wk.r⟩⟩
theorem Ze6:∀ (n:Nat) (e:Edit),Z3 e<=n->Wk e->YR e=true->Y2 2000 e:=by
 intro n
 induction n with
 | zero=> intro e h;obtain ⟨k,o,nw,w,ks,l,os⟩:=e;simp only [Z3] at h;omega
 | succ n ih=>
  intro e hn we h
  have re:=Zj we.r
  rw [Z6W,Q3,Q3,decide_eq_true_eq] at h
  obtain ⟨⟨⟨h1,h2⟩,h3⟩,h4⟩:=h
  have nn:∀ o∈e.ops,0<=Z6 o:=fun o ho=> by have:=Zw (JT we o ho).1;omega
  have a:=(Z0u e.ops 0 nn V1 V1).1
  have b:=(Z19 e.ops 0 nn V1 V1).1
  rw [Jc]
  refine ⟨⟨YS,YS⟩,fun k hk=> ?_,fun o ho=> ?_⟩
  .have:=ZV hk
   exact ih k.e YS ⟨YA _ _ _ V1 (Zp re.kids k hk).2,(Yz (ZR we.g).2.2.2.1 hk).2⟩ (Z66 h3 k hk)
  .have:=YV ho
   by_cases k3:o.kind=3
   .exact ih o.e YS (Z36 (JT we o ho) k3).1.2.2.2 (Z65 h4 o ho)
   .have:o.e=Edit.nil:=by
     rcases (JT we o ho).1 with h | h | h
     .exact h.2.2.2
     .exact h.2.2.2
     .omega
    rw [this];exact Z1R V1
theorem Zp2{p q:Edit}{d d':Int}(rp:Zb p d=true)(rq:Zb q d'=true)(gp:J8 p)(gq:J8 q)(lp:YR p=true)(lq:YR q=true)(mp:Z3 p<=20000)(mq:Z3 q<=20000):ZkX p q:=by
 have cp:=ZdG p
 have cq:=ZdG q
 have np:=Z2H p
 have nq:=Z2H q
 have op:=Z9w (16+68*((2000:Int)+2000).toNat) (Zn p)
 have oq:=Z9w (16+68*((2000:Int)+2000).toNat) (Zn q)
 have e:((2000:Int)+2000).toNat=4000:=rfl
 rw [e] at op oq
 refine ⟨⟨YS,gp,d,rp⟩,⟨YS,gq,d',rq⟩,2000,2000,⟨V1,V1,V1⟩,⟨?_,?_⟩,?_,?_⟩
 .exact Ze6 _ _ (Qb _) (.of (JE p d rp) (Z49 p d rp gp)) (Z58 _ p d (Qb _) rp lp)
 .exact Ze6 _ _ (Qb _) (.of (JE q d' rq) (Z49 q d' rq gq)) (Z58 _ q d' (Qb _) rq lq)
 .rw [e];omega
 .rw [e];omega
noncomputable section
def Zpb(a b:WEdit):List WEdit:=if (Z1m a b).mask=0 then [] else [Z1m a b]
def Y9(p q:List WEdit):List Int->List WEdit × List WEdit × Bool × Bool
 | []=> ([],[],false,false)
 | n ::r=> match Z0Y p n,Z0Y q n with
  | some a,none=> (a ::(Y9 p q r).1,(Y9 p q r).2.1,(Y9 p q r).2.2.1,(Y9 p q r).2.2.2)
  | none,some b=> ((Y9 p q r).1,b ::(Y9 p q r).2.1,(Y9 p q r).2.2.1,(Y9 p q r).2.2.2)
  | some a,some b=> (Zpb a b++(Y9 p q r).1,Zpb b a++(Y9 p q r).2.1,Jj a b || (Y9 p q r).2.2.1,Yi a b || (Y9 p q r).2.2.2)
  | none,none=> Y9 p q r
def Je(n:Int)(e:Edit):List Kid:=if e.kind=0 then [] else [⟨n,e⟩]
def YB(f:Edit->Edit->Lft)(p q:List Kid):List Int->List Kid × List Kid × Bool × Bool
 | []=> ([],[],false,false)
 | n ::r=> (Je n (f (Ys p n) (Ys q n)).x++(YB f p q r).1,Je n (f (Ys p n) (Ys q n)).y++(YB f p q r).2.1,
   (f (Ys p n) (Ys q n)).c || (YB f p q r).2.2.1,(f (Ys p n) (Ys q n)).a || (YB f p q r).2.2.2)
def Z5x(w:List WEdit)(k:List Kid):Edit:=if w.length+k.length=0 then Edit.nil else .mk 2 Tree.nil Tree.nil w k 0 []
def Z10(f:Edit->Edit->Lft)(p q:Edit):Lft:=
 let w:=Y9 p.words q.words (Yv (p.words.map WEdit.at_) (q.words.map WEdit.at_))
 let k:=YB f p.kids q.kids (Yv (p.kids.map KidOf.at_) (q.kids.map KidOf.at_))
 ⟨Z5x w.1 k.1,Z5x w.2.1 k.2.1,w.2.2.1 || k.2.2.1,w.2.2.2 || k.2.2.2⟩
def Y4(f:Edit->Edit->Lft)(p q:AUnit):PL:=
 if p.kind=0/\q.kind=1 then ⟨[],[opU q],false,false⟩
 else if p.kind=1/\q.kind=0 then ⟨[opU p],[],false,false⟩
 else if p.kind=0 then ⟨[⟨0,1,[],Edit.nil⟩],[opU q],false,false⟩
 else if q.kind=0 then ⟨[opU p],[⟨0,1,[],Edit.nil⟩],false,false⟩
 else if p.kind=1/\q.kind=1 then ⟨[],[],false,!ZU (Z4 p.t) (Z4 q.t)⟩
 else if p.kind=1 then ⟨[],[],true,!(doE true q.e p.t).isSome⟩
 else if q.kind=1 then ⟨[],[],true,!(doE true p.e q.t).isSome⟩
 else ⟨[Z0j (f p.e q.e).x],[Z0j (f p.e q.e).y],(f p.e q.e).c,(f p.e q.e).a⟩
def Jq(f:Edit->Edit->Lft):List APair->List Tree->List Tree->PL
 | [],m,h=> Ym m h
 | x ::r,m,h=>
  if x.of=1 then Jq f r (m++[x.p.t]) h
  else if x.of=2 then Jq f r m (h++[x.q.t])
  else ((Ym m h).app (Y4 f x.p x.q)).app (Jq f r [] [])
def Z3b(f:Edit->Edit->Lft)(p q:Edit):Lft:=
 let m:=ZB (Zr 0 2 p.ops) (Zr 0 2 q.ops) []
 if m.2=true/\p.list=q.list then ⟨Yx p.list (Jq f m.1 [] []).x,Yx p.list (Jq f m.1 [] []).y,(Jq f m.1 [] []).c,(Jq f m.1 [] []).a⟩
 else ⟨Edit.nil,Edit.nil,false,true⟩
def Z0w(e:Edit)(o n:Tree):Lft:=⟨Edit.nil,Edit.nil,(doE true e o).isSome && !ZU (Z4 (Z0O (doE true e o))) (Z4 n),!(doE true e o).isSome⟩
def JG(f:Edit->Edit->Lft)(p q:Edit):Lft:=
 if p.kind=0\/q.kind=0 then ⟨p,q,false,false⟩
 else if p.kind=1 then Z0w q p.old p.new
 else if q.kind=1 then Z0w p q.old q.new
 else if p.kind≠q.kind then ⟨Edit.nil,Edit.nil,false,true⟩
 else if p.kind=2 then Z10 f p q
 else Z3b f p q
def rbF:Nat->Edit->Edit->Lft
 | 0,_,_=> ⟨Edit.nil,Edit.nil,false,false⟩
 | n+1,p,q=> JG (rbF n) p q
def rbE(p q:Edit):Lft:=rbF (Z3 p+Z3 q) p q
def rbN(p q:Edit):Edit × Edit × Int:=
 if (rbE (Zn p) (Zn q)).a=true then (Edit.nil,Edit.nil,14)
 else if (rbE (Zn p) (Zn q)).c=true then (Edit.nil,Edit.nil,13)
 else (Zn (rbE (Zn p) (Zn q)).x,Zn (rbE (Zn p) (Zn q)).y,0)
structure SameL (s t:Lft):Prop where
 a:s.a=t.a
 c:s.a=false->s.c=t.c
 x:s.a=false->s.c=false->Zn s.x=Zn t.x/\(s.x.kind=0↔t.x.kind=0)
 y:s.a=false->s.c=false->Zn s.y=Zn t.y/\(s.y.kind=0↔t.y.kind=0)
end
theorem ZdY(e:Edit)(o n:Tree):Z0k e o n=Z0w e o n:=by
 unfold Z0k Z0w doB
 rw [Zak]
 cases doE false e o <;> rfl
def ZvF(l:List Op):Bool:=l.any fun o=> !decide (o.kind=0)
def AlikeO(a b:List Op):Prop:=(∀ list w,Zt list a w=Zt list b w)/\ZvF a=ZvF b
theorem AlikeO.refl(a:List Op):AlikeO a a:=⟨fun _ _=> rfl,rfl⟩
theorem AlikeO.app{a b c d:List Op}(h:AlikeO a b)(k:AlikeO c d):AlikeO (a++c) (b++d):=
 ⟨fun list w=> by rw [Zb6,Zb6,h.1,k.1],by unfold ZvF;rw [List.any_append,List.any_append];exact congr (congrArg _ h.2) k.2⟩
structure SamePL (s t:PL):Prop where
 a:s.a=t.a
 c:s.a=false->s.c=t.c
 x:s.a=false->s.c=false->AlikeO s.x t.x
 y:s.a=false->s.c=false->AlikeO s.y t.y
theorem SamePL.refl(s:PL):SamePL s s:=⟨rfl,fun _=> rfl,fun _ _=> .refl _,fun _ _=> .refl _⟩
theorem SamePL.app{s t u v:PL}(h:SamePL s t)(k:SamePL u v):SamePL (s.app u) (t.app v):=by
 have ha:∀ {p q:Bool},(p || q)=false->p=false/\q=false:=fun {p q}=> by cases p <;> cases q <;> simp
 refine ⟨?_,fun e=> ?_,fun e e2=> ?_,fun e e2=> ?_⟩
 .show (s.a || u.a)=(t.a || v.a)
  rw [h.a,k.a]
 .obtain ⟨e1,e2⟩:=ha e
  show (s.c || u.c)=(t.c || v.c)
  rw [h.c e1,k.c e2]
 .exact (h.x (ha e).1 (ha e2).1).app (k.x (ha e).2 (ha e2).2)
 .exact (h.y (ha e).1 (ha e2).1).app (k.y (ha e).2 (ha e2).2)
theorem ZgQ{list:Int}{a b:List Op}(h:AlikeO a b):Zn (Yx list a)=Zn (Yx list b)/\((Yx list a).kind=0↔(Yx list b).kind=0):=by
 have h2:=h.2
 unfold ZvF at h2
 unfold Yx
 rw [h2]
 split
 .refine ⟨?_,QY⟩
  simp only [Zn,h.1]
 .exact ⟨rfl,QY⟩
theorem ZwJ{list:Int}{s t:PL}(h:SamePL s t):SameL ⟨Yx list s.x,Yx list s.y,s.c,s.a⟩ ⟨Yx list t.x,Yx list t.y,t.c,t.a⟩:=
 ⟨h.a,h.c,fun e e2=> ZgQ (h.x e e2),fun e e2=> ZgQ (h.y e e2)⟩
end Go.AM.YtpjenobkibfpcaaGreat
