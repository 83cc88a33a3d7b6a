import Derived.Test.YtfapacabjkhepaaVCL25f
import Derived.Test.YtfapacabjkhepaaVKP20
import Derived.Test.YtfapacabjkhepaaVKL21n
set_option linter.unusedSimpArgs false
set_option linter.unusedVariables false
namespace Go.AM.Ytfapacabjkhepaa
open Go.AM Go.Proofs
theorem Z8M(t:Tree):Eqv (Z1 t) t:=ZZ t
theorem Ztw{e:Edit}(h:e.kind=0)(t:Tree):doE false e t=some t:=by rw [JO,Ye,if_pos h]
theorem Zq4{e:Edit}(h:e.kind=1)(t:Tree):doE false e t=if Yp (Z1 e.old) (Z1 t)=true then some e.new else none:=by rw [JO,Ye,JI,if_pos h]
theorem Zq3{e:Edit}(h:e.kind=2)(t:Tree):doE false e t=if t.kind=1 then (wsD t.words e.words t.words).bind fun a=> (Je false t.kids e.kids t.kids).map fun b=> .mk 1 a b else none:=by
 rw [JO,Ye,JI,JI,if_pos h]
theorem Zq1{e:Edit}(h:e.kind=3)(t:Tree):doE false e t=if t.kind=e.list then (Z0d (ZC false e.ops t.kids [])).map fun b=> .mk e.list [] b else none:=by
 rw [JO,Ye,JI,JI,JI,if_pos h]
theorem ZlB(o n t:Tree):doE false (.mk 1 o n [] [] 0 []) t=if Yp (Z1 o) (Z1 t)=true then some n else none:=Zq4 rfl t
theorem Zq2(w:List WEdit)(ks:List Kid)(t:Tree):doE false (.mk 2 Tree.nil Tree.nil w ks 0 []) t=if t.kind=1 then (wsD t.words w t.words).bind fun a=> (Je false t.kids ks t.kids).map fun b=> .mk 1 a b else none:=Zq3 rfl t
theorem ZuF(l:Int)(os:List Op)(t:Tree):doE false (.mk 3 Tree.nil Tree.nil [] [] l os) t=if t.kind=l then (Z0d (ZC false os t.kids [])).map fun b=> .mk l [] b else none:=Zq1 rfl t
theorem Z8Q{e:Edit}{t v:Tree}(h:doE false e t=some v):doB e t=(Z1 v,true):=by unfold doB;rw [h];try rfl
theorem Zi8{e:Edit}{t:Tree}(h:doE false e t=none):(doB e t).2=false:=by unfold doB;rw [h];try rfl
theorem YF{e:Edit}(h:ZK e):rng e.old/\rng e.new/\(∀ x∈e.words,Z1j x)/\JX e.kids/\JP e.ops:=by
 obtain ⟨k,o,n,w,ks,l,os⟩:=e
 exact ⟨h.2.1,h.2.2.1,h.2.2.2.1,h.2.2.2.2.2.1,h.2.2.2.2.2.2⟩
theorem Zbg{e:Edit}{d:Int}(hr:Z0 e d=true)(he:ZK e){o:Op}(h:Part e.ops o):ROp o:=by
 obtain ⟨o',m,k,e1,_,l⟩:=h
 have ro:=rightOs_mem (Zs hr).ops m
 have rg:=Z08 (YF he).2.2.2.2 m
 have rg':=JQ rg
 refine ⟨fun h3=> ⟨⟨_,by rw [e1];exact Jv ro V0⟩,by rw [e1];exact rg'.2.2.2⟩,fun t ht=> ?_⟩
 have ht':=l t ht
 refine ⟨?_,Ja rg'.2.2.1 ht'⟩
 have R:=ZT ro
 by_cases h3:e.kind=3
 .have hli:=(Zs hr).list h3
  generalize e.list=li at R hli
  cases R with
  | keep=> cases ht'
  | into=> cases ht'
  | gone l1 h1=> exact ⟨-1,(Jh hli h1 t ht').2⟩
  | come l1 h1=> exact ⟨-1,(Jh hli h1 t ht').2⟩
 .have:=(Zs hr).ops0 h3
  rw [this.2] at m
  cases m
theorem ZfT{t:Tree}(h:RT_ t):∀ k∈t.kids,RT_ k:=h.kids.1
theorem Zqb {f:Edit->Edit->Edit × Bool} {p q:Edit} {d d':Int} (hp:Z0 p d=true) (hq:Z0 q d'=true) (gp:ZK p) (gq:ZK q) (k3:p.kind=3) (l3:q.kind=3) (hl:p.list=q.list)
  (ih:∀ a b,Zd a+Zd b < Zd p+Zd q->(∃ d,Z0 a d=true)->(∃ d,Z0 b d=true)->ZK a->ZK b->ComOk (f a b) a b):
  ComOk (.mk 3 Tree.nil Tree.nil [] [] p.list (ofO (Z0J f p.ops q.ops)),(Z0J f p.ops q.ops).isSome) p q:=by
 have hli:=(Zs hp).list k3
 have kp:∀ o∈p.ops,kOk o:=fun o ho=> Ys (Jj hp o ho)
 have kq:∀ o∈q.ops,kOk o:=fun o ho=> Ys (Jj hq o ho)
 obtain ⟨i1,i2⟩:=Z7O _ p.ops q.ops [] (Qm _) (Jj hp) (Jj hq)
 have facts:∀ ps:List Piece,(∀ x∈ps,POk p.ops q.ops x)->(∀ x∈ps,(x.of≠2->ROp x.p)/\(x.of≠1->ROp x.q))/\∀ x∈ps,x.p.kind=3->x.q.kind=3->x.of=0->ComOk (f x.p.e x.q.e) x.p.e x.q.e:=by
  intro ps hps
  refine ⟨fun x hx=> ⟨fun h=> Zbg hp gp ((hps x hx).pp h).1,fun h=> Zbg hq gq ((hps x hx).qq h).1⟩,fun x hx h1 h2 h0=> ?_⟩
  have hx':=hps x hx
  have s1:=(Zbg hp gp (hx'.pp V0).1).1 h1
  have s2:=(Zbg hq gq (hx'.qq V0).1).1 h2
  obtain ⟨o1,m1,_,e1,_⟩:=(hx'.pp V0).1
  obtain ⟨o2,m2,_,e2,_⟩:=(hx'.qq V0).1
  have:=Z2g m1
  have:=Z2g m2
  exact ih _ _ (by rw [e1,e2];omega) s1.1 s2.1 s1.2 s2.2
 refine ⟨fun {t w} ht hc hw=> ?_,fun {t u v} ht hu hv=> ?_⟩
 .rw [ZuF] at hw
  split at hw
  .rename_i ht3
   obtain ⟨b,hb,rfl⟩:=Qb.1 hw
   cases hco:Z0J f p.ops q.ops with
   | none=> simp only at hc;rw [hco] at hc;cases hc
   | some ops=>
    rw [hco] at hb
    unfold Z0J at hco
    split at hco
    .rename_i hb1
     obtain ⟨ps,e,hps,hP,hQ⟩:=i1 hb1
     rw [e,QF] at hco
     obtain ⟨f1,f2⟩:=facts ps hps
     have kops:∀ o∈ops,kOk o:=by
      have:∀ (ps:List Piece) (ops:List Op),(∀ x∈ps,POk p.ops q.ops x)->Z0u f ps=some ops->∀ o∈ops,kOk o:=by
       intro ps
       induction ps with
       | nil=> intro ops _ h o ho;cases h;cases ho
       | cons x r ihp=>
        intro ops hps h o ho
        rw [Z0u] at h
        split at h
        .obtain ⟨l,hl,rfl⟩:=Qb.1 h
         rcases Qi.1 ho with ho | ho
         .split at ho
          .rw [Q9.1 ho];exact ZjY (hps x Q4)
          .cases ho
         .exact ihp l (fun y hy=> hps y (Q0 _ hy)) hl o ho
        .cases h
      exact this ps ops hps hco
     have hr:=(Z61 kops).1 hb
     obtain ⟨m,dd,r1,r2,he⟩:=Zcz hps f1 f2 (ZfT ht) hco hr
     refine ⟨.mk p.list [] m,.mk q.list [] dd,?_,?_,?_⟩
     .rw [Zq1 k3,if_pos ht3,(Z61 kp).2 ((hP _ _).2 r1)];try rfl
     .rw [Zq1 l3,if_pos (show (Tree.mk p.list [] m).kind=q.list from hl)]
      simp only [Tree.kids_mk]
      rw [(Z61 kq).2 ((hQ _ _).2 r2)];try rfl
     .rw [hl]
      exact Z2d _ _ he
    .cases hco
  .cases hw
 .rw [Zq1 k3] at hu
  split at hu
  .rename_i ht3
   obtain ⟨m,hm,rfl⟩:=Qb.1 hu
   rw [Zq1 l3,if_pos (show (Tree.mk p.list [] m).kind=q.list from hl)] at hv
   simp only [Tree.kids_mk] at hv
   obtain ⟨dd,hd,rfl⟩:=Qb.1 hv
   have r1:=(Z61 kp).1 hm
   have r2:=(Z61 kq).1 hd
   cases hb1:(Yo 1 2 p.ops q.ops []).2.1 with
   | false=> exact (i2 hb1 _ _ _ r1 r2).elim
   | true=>
    obtain ⟨ps,e,hps,hP,hQ⟩:=i1 hb1
    obtain ⟨f1,f2⟩:=facts ps hps
    obtain ⟨ops,w,c1,c2,c3⟩:=ZcA hps f1 f2 (ZfT ht) ((hP _ _).1 r1) ((hQ _ _).1 r2)
    have hco:Z0J f p.ops q.ops=some ops:=by unfold Z0J;rw [if_pos hb1,e,List.nil_append,c1]
    have kops:Z0d (ZC false ops t.kids [])=some w:=by
     have:=ZnT c2 []
     unfold Z0d
     rw [this]
     simp
    rw [hco]
    refine ⟨rfl,.mk p.list [] w,?_,?_⟩
    .rw [ZuF,if_pos ht3]
     show (Z0d (ZC false ops t.kids [])).map _=_
     rw [kops];try rfl
    .rw [<-hl]
     exact Z2d _ _ c3
  .cases hu
theorem ZjX {f:Edit->Edit->Edit × Bool} {p q:Edit} {d d':Int} (hp:Z0 p d=true) (hq:Z0 q d'=true) (gp:ZK p) (gq:ZK q) (k2:p.kind=2) (l2:q.kind=2)
  (ih:∀ a b,Zd a+Zd b < Zd p+Zd q->(∃ d,Z0 a d=true)->(∃ d,Z0 b d=true)->ZK a->ZK b->ComOk (f a b) a b):
  ComOk (if (Zm WEdit.at_ YP p.words q.words).isSome then
   (.mk 2 Tree.nil Tree.nil (ofO (Zm WEdit.at_ YP p.words q.words)) (ofO (Zm KidOf.at_ (Z0L f) p.kids q.kids)) 0 [],(Zm KidOf.at_ (Z0L f) p.kids q.kids).isSome) else (Edit.nil,false)) p q:=by
 have rp:=Zs hp
 have rq:=Zs hq
 have wp:=Z0F rp.words
 have wq:=Z0F rq.words
 have ap:=Z1r rp.kids
 have aq:=Z1r rq.kids
 have g1:=YF gp
 have g2:=YF gq
 have hw:∀ a∈p.words,∀ b∈q.words,∀ x,isW x->(∀ w,(YP a b).2=true->doW (YP a b).1 x=some w->∃ u v,doW a x=some u/\doW b u=some v/\w=v)/\
   (∀ u v,doW a x=some u->doW b u=some v->(YP a b).2=true/\∃ w,doW (YP a b).1 x=some w/\w=v):=by
  intro a ha b hb x hx
  have oa:=YQ rp.words a ha
  have ob:=YQ rq.words b hb
  exact Znq (g1.2.2.1 a ha) (g2.2.2.1 b hb) oa.2.2.2 ob.2.2.2 hx
 have hk:∀ a∈p.kids,∀ b∈q.kids,ComOk (f a.e b.e) a.e b.e:=by
  intro a ha b hb
  have:=Z19 ha
  have:=Z19 hb
  exact ih _ _ V0 ⟨_,(ZP rp.kids a ha).2⟩ ⟨_,(ZP rq.kids b hb).2⟩ (YU g1.2.2.2.1 ha).2 (YU g2.2.2.2.1 hb).2
 have hkat:∀ a b:Kid,a.at_=b.at_->(Z0L f a b).2=true->(Z0L f a b).1.at_=a.at_:=fun a b _ _=> rfl
 have hwat:∀ a b:WEdit,a.at_=b.at_->(YP a b).2=true->(YP a b).1.at_=a.at_:=fun a b _ h=> ZlI a b h
 refine ⟨fun {t w} ht hc hw'=> ?_,fun {t u v} ht hu hv=> ?_⟩
 .cases hm:Zm WEdit.at_ YP p.words q.words with
  | none=> rw [hm] at hc;cases hc
  | some L=>
   cases hn:Zm KidOf.at_ (Z0L f) p.kids q.kids with
   | none=> rw [hm,hn] at hc;cases hc
   | some M=>
    rw [hm,hn] at hw'
    rw [if_pos (show (some L).isSome=true from rfl)] at hw'
    rw [Zq2] at hw'
    split at hw'
    .rename_i t1
     obtain ⟨a,ha,hw'⟩:=Ql.1 hw'
     obtain ⟨b,hb,rfl⟩:=Qb.1 hw'
     have ha:wsD t.words L t.words=some a:=ha
     have hb:Je false t.kids M t.kids=some b:=hb
     rw [Z7h] at ha
     rw [Z5I] at hb
     obtain ⟨a1,a2,x1,x2,x3⟩:=Zfj (R:=Eq) hwat (fun x=> rfl) wp wq (fun a ha b hb e w hc hw2=> (hw a ha b hb _ (Zf3 (Zfk ht.2).2.1 _)).1 w hc hw2) hm ha
     obtain ⟨b1,b2,y1,y2,y3⟩:=Zfj (R:=Eqv) hkat (fun x=> rfl) ap aq (fun a ha b hb e w hc hw2=> (hk a ha b hb).fwd (Z9Y (ZfT ht) _) hc hw2) hn hb
     refine ⟨.mk 1 a1 b1,.mk 1 a2 b2,?_,?_,?_⟩
     .rw [Zq3 k2,if_pos t1,Z7h,x1,Z5I,y1];try rfl
     .rw [Zq3 l2,if_pos (show (Tree.mk 1 a1 b1).kind=1 from rfl)]
      simp only [Tree.words_mk,Tree.kids_mk]
      rw [Z7h,x2,Z5I,y2];try rfl
     .exact (Z2n rfl rfl).2 ⟨x3,y3⟩
    .cases hw'
 .rw [Zq3 k2] at hu
  split at hu
  .rename_i t1
   obtain ⟨a1,x1,hu⟩:=Ql.1 hu
   obtain ⟨b1,y1,rfl⟩:=Qb.1 hu
   rw [Zq3 l2,if_pos (show (Tree.mk 1 a1 b1).kind=1 from rfl)] at hv
   simp only [Tree.words_mk,Tree.kids_mk] at hv
   obtain ⟨a2,x2,hv⟩:=Ql.1 hv
   obtain ⟨b2,y2,rfl⟩:=Qb.1 hv
   rw [Z7h] at x1 x2
   rw [Z5I] at y1 y2
   obtain ⟨L,a,hm,ha,x3⟩:=ZkH (R:=Eq) hwat (fun x=> rfl) wp wq (fun a ha b hb e u v h1 h2=> (hw a ha b hb _ (Zf3 (Zfk ht.2).2.1 _)).2 u v h1 h2) x1 x2
   obtain ⟨M,b,hn,hb,y3⟩:=ZkH (R:=Eqv) hkat (fun x=> rfl) ap aq (fun a ha b hb e u v h1 h2=> (hk a ha b hb).bwd (Z9Y (ZfT ht) _) h1 h2) y1 y2
   rw [hm,hn,if_pos (show (some L).isSome=true from rfl)]
   refine ⟨rfl,.mk 1 a b,?_,(Z2n rfl rfl).2 ⟨x3,y3⟩⟩
   rw [Zq2,if_pos t1]
   show (wsD t.words L t.words).bind _=_
   rw [Z7h,ha]
   show (Je false t.kids M t.kids).map _=_
   rw [Z5I,hb];try rfl
  .cases hu
theorem Zn5 {p q:Edit} {d d':Int} (hp:Z0 p d=true) (hq:Z0 q d'=true) (p0:¬p.kind=0) (p1:¬p.kind=1) (q0:¬q.kind=0) (q1:¬q.kind=1) (hd:p.kind≠q.kind\/p.list≠q.list)
  {t u v:Tree} (hu:doE false p t=some u) (hv:doE false q u=some v):False:=by
 have rp:=Zs hp
 have rq:=Zs hq
 have pk:=rp.kind
 have qk:=rq.kind
 obtain ⟨_,a2,a3,_⟩:=Z4q hp hu
 obtain ⟨_,b2,b3,_⟩:=Z4q hq hv
 by_cases p2:p.kind=2
 .have u1:=(a2 p2).1
  by_cases q2:q.kind=2
  .have e1:=(rp.ops0 V0).1
   have e2:=(rq.ops0 V0).1
   rcases hd with h | h
   .exact h (p2.trans q2.symm)
   .exact h (e1.trans e2.symm)
  .have e1:=(b3 V0).2
   have e2:=rq.list V0
   omega
 .have u1:=(a3 V0).1
  have e0:=rp.list V0
  by_cases q2:q.kind=2
  .have e1:=(b2 q2).2
   omega
  .have e1:=(b3 V0).2
   rcases hd with h | h
   .exact h V0
   .exact h (u1.symm.trans e1)
theorem ZtB:∀ (n:Nat) (p q:Edit) (d d':Int),Zd p+Zd q<=n->Z0 p d=true->Z0 q d'=true->ZK p->ZK q->ComOk (Z9N n p q) p q:=by
 intro n
 induction n with
 | zero=> intro p q d d' h;obtain ⟨k,o,nw,w,ks,l,os⟩:=p;simp only [Zd] at h;omega
 | succ n ih=>
  intro p q d d' hn hp hq gp gq
  have rp:=Zs hp
  have rq:=Zs hq
  have ih':∀ a b,Zd a+Zd b < Zd p+Zd q->(∃ d,Z0 a d=true)->(∃ d,Z0 b d=true)->ZK a->ZK b->ComOk (Z9N n a b) a b:=by
   rintro a b hm ⟨d1,h1⟩ ⟨d2,h2⟩ g1 g2
   exact ih a b d1 d2 V0 h1 h2 g1 g2
  show ComOk (Jm (Z9N n) p q) p q
  unfold Jm
  by_cases p0:p.kind=0
  .rw [if_pos p0]
   exact ⟨fun {t w} _ _ hw=> ⟨t,w,Ztw p0 t,hw,rfl⟩,fun {t u v} _ hu hv=> by rw [Ztw p0] at hu;cases hu;exact ⟨rfl,v,hv,rfl⟩⟩
  rw [if_neg p0]
  by_cases q0:q.kind=0
  .rw [if_pos q0]
   exact ⟨fun {t w} _ _ hw=> ⟨w,w,hw,Ztw q0 w,rfl⟩,fun {t u v} _ hu hv=> by rw [Ztw q0] at hv;cases hv;exact ⟨rfl,u,hu,rfl⟩⟩
  rw [if_neg q0]
  by_cases p1:p.kind=1
  .rw [if_pos p1]
   refine ⟨fun {t w} _ hc hw=> ?_,fun {t u v} _ hu hv=> ?_⟩
   .rw [ZlB] at hw
    split at hw
    .rename_i hs
     cases hv:doE false q p.new with
     | none=> rw [Zi8 hv] at hc;cases hc
     | some v=>
      rw [Z8Q hv] at hw
      cases hw
      exact ⟨p.new,v,by rw [Zq4 p1,if_pos hs],hv,Z8M v⟩
    .cases hw
   .rw [Zq4 p1] at hu
    split at hu
    .rename_i hs
     cases hu
     rw [Z8Q hv]
     refine ⟨rfl,Z1 v,?_,Z8M v⟩
     rw [ZlB,if_pos hs]
    .cases hu
  rw [if_neg p1]
  by_cases q1:q.kind=1
  .rw [if_pos q1]
   have ho:RT_ q.old:=⟨⟨_,(rq.rep q1).1⟩,(YF gq).1⟩
   refine ⟨fun {t w} ht hc hw=> ?_,fun {t u v} ht hu hv=> ?_⟩
   .rw [ZlB] at hw
    split at hw
    .rename_i hs
     cases hw
     cases hz:doE false (ZE (Zq p)) q.old with
     | none=> rw [Zi8 hz] at hc;cases hc
     | some z=>
      rw [Z8Q hz,Yk,ZZ] at hs
      obtain ⟨y,hy,hyl⟩:=Zgp hp gp ho hz hs
      refine ⟨y,q.new,hy,?_,rfl⟩
      rw [Zq4 q1,if_pos]
      rw [Yk]
      exact hyl.symm
    .cases hw
   .rw [Zq4 q1] at hv
    split at hv
    .rename_i hs
     cases hv
     rw [Yk] at hs
     obtain ⟨z,hz,hzx⟩:=Zgo hp gp ht ho hu hs.symm
     rw [Z8Q hz]
     refine ⟨rfl,q.new,?_,rfl⟩
     rw [ZlB,if_pos]
     rw [Yk,ZZ]
     exact hzx
    .cases hv
  rw [if_neg q1]
  have pk:=rp.kind
  have qk:=rq.kind
  by_cases hd:p.kind≠q.kind\/p.list≠q.list
  .rw [if_pos hd]
   exact ⟨fun {t w} _ hc _=> (by cases hc),fun {t u v} _ hu hv=> (Zn5 hp hq p0 p1 q0 q1 hd hu hv).elim⟩
  rw [if_neg hd]
  by_cases p2:p.kind=2
  .rw [if_pos p2]
   exact ZjX hp hq gp gq p2 V0 ih'
  .rw [if_neg p2]
   exact Zqb hp hq gp gq V0 V0 V0 ih'
theorem Zqa{p q:Edit}{d d':Int}(hp:Z0 p d=true)(hq:Z0 q d'=true)(gp:ZK p)(gq:ZK q):ComOk (Y7 p q) p q:=ZtB _ p q d d' (Qm _) hp hq gp gq
structure Alike (c r:Edit × Bool):Prop where
 ok:c.2=r.2
 nrm:c.2=true->ZE c.1=ZE r.1
theorem Z9L(e:Edit):18<=ctE e:=by
 have:=Z2p e
 have:=YY e.old
 have:=YY e.new
 omega
theorem ZlH(o n:Tree):ctE (.mk 1 o n [] [] 0 [])=16+Zn o+Zn n:=by simp [ctE,Z0t,YN]
mutual
theorem Z8S:∀ (e:Edit),ctE (Zq e)=ctE e
 | .mk k o n w ks l os=> by
  have h1:=ZeM ks
  have h2:=ZeL os
  simp only [Zq,ctE,Xd]
  omega
theorem ZeM:∀ (ks:List (KidOf Edit)),Z0t (Y4 ks)=Z0t ks
 | []=> rfl
 | k ::r=> by
  have h1:=ZjU k
  have h2:=ZeM r
  simp only [Y4,Z0t]
  omega
theorem ZjU:∀ (k:KidOf Edit),Z2o (YL k)=Z2o k
 | ⟨a,e⟩=> by
  have:=Z8S e
  simp only [YL,Z2o]
  omega
theorem ZeL:∀ (os:List (OpOf Edit)),YN (Y9 os)=YN os
 | []=> rfl
 | o ::r=> by
  have h1:=Zn2 o
  have h2:=ZeL r
  simp only [Y9,YN]
  omega
theorem Zn2:∀ (o:OpOf Edit),Z2s (ZY o)=Z2s o
 | ⟨k,n,l,e⟩=> by
  have:=Z8S e
  rw [JC]
  dsimp only
  split
  .try rfl
  .split
   .try rfl
   .split
    .simp only [Z2s];omega
    .try rfl
end
theorem Z3S:∀ (a b:List Op),YN (a++b)=YN a+YN b
 | [],b=> by simp [YN]
 | o ::r,b=> by simp only [Qw,YN,Z3S r b];omega
def ctW(w:Wst):Nat:=YN w.out+(Zl w.gone+if w.gone.length=0 then 0 else 34)+(Zl w.brought+if w.brought.length=0 then 0 else 34)
theorem Z5K:ctE Edit.nil=18:=rfl
theorem Zdd(w:Wst):YN (Z6 w).out=ctW w:=by
 simp only [Z6,Z0D,ctW,Z3S]
 by_cases h1:w.gone.length=0
 .rw [if_pos h1,if_pos h1,Q3 h1]
  by_cases h2:w.brought.length=0
  .rw [if_pos h2,if_pos h2,Q3 h2];simp [YN,Zl]
  .rw [if_neg h2,if_neg h2];simp only [YN,Z2s,Z5K,Zl];omega
 .rw [if_neg h1,if_neg h1]
  by_cases h2:w.brought.length=0
  .rw [if_pos h2,if_pos h2,Q3 h2];simp only [YN,Z2s,Z5K,Zl];omega
  .rw [if_neg h2,if_neg h2];simp only [YN,Z2s,Z5K];omega
theorem ZlF(w:Wst)(n:Int):ctW (ZX w n)<=ctW w+34:=by
 have h:=Zdd w
 have e:ctW (ZX w n)=YN (Z1F (Z6 w).out n):=by simp [ZX,ctW,Zl]
 rw [e,<-h]
 rcases Z04 (Z6 w).out n with e | ⟨a,q,e1,_,e3⟩
 .rw [e,Z3S];simp only [YN,Z2s,Z5K,Zl];omega
 .rw [e3,e1,Z3S,Z3S];simp only [YN,Z2s,Z4s];omega
mutual
theorem Z4r:∀ (e:Edit),ctE (ZE e)<=ctE e
 | .mk k o n w ks l os=> by
  have h1:=Zib ks
  have h2:=Zia l os ⟨[],[],[]⟩
  have h3:=Yt o
  have h4:=Yt n
  have:=YY o
  have:=YY n
  have hf:=Zdd (YS l os ⟨[],[],[]⟩)
  have hz:ctW ⟨[],[],[]⟩=0:=rfl
  rw [ZE]
  split
  .simp only [ctE,Z0t,YN,Qn];omega
  .split
   .simp only [ctE,YN,Z3o];omega
   .split
    .simp only [ctE,Z0t,Z3o,Qn];omega
    .simp only [ctE,Z0t,YN,Z3o,Qn];omega
theorem Zib:∀ (ks:List (KidOf Edit)),Z0t (Z0p ks)<=Z0t ks
 | []=> Qm _
 | k ::r=> by
  have h1:=Zn3 k
  have h2:=Zib r
  simp only [Z0p,Z0t]
  omega
theorem Zn3:∀ (k:KidOf Edit),Z2o (Z2c k)<=Z2o k
 | ⟨a,e⟩=> by
  have:=Z4r e
  simp only [Z2c,Z2o]
  omega
theorem Zia(list:Int):∀ (os:List (OpOf Edit)) (w:Wst),ctW (YS list os w)<=ctW w+YN os
 | [],w=> Qm _
 | o ::r,w=> by
  have h1:=Zq8 list o w
  have h2:=Zia list r (Z1m list o w)
  simp only [YS,YN]
  omega
theorem Zq8(list:Int):∀ (o:OpOf Edit) (w:Wst),ctW (Z1m list o w)<=ctW w+Z2s o
 | ⟨k,n,l,e⟩,w=> by
  have he:=Z4r e
  have h18:=Z9L e
  have hl:=ZaF l
  have hc:=fun a b=> JG a b
  rw [Z1m]
  simp only [Z2s]
  split
  .have:=ZlF w n;omega
  .split
   .have:=JG w.gone (Z7 l)
    simp only [ctW]
    split <;> split <;> omega
   .split
    .have:=JG w.brought (Z7 l)
     simp only [ctW]
     split <;> split <;> split <;> omega
    .split
     .split
      .have:=ZlF w 1;omega
      .have hf:=Zdd w
       show YN ((Z6 w).out++[⟨3,0,[],ZE e⟩])+_+_<=_
       rw [Z3S,hf]
       simp only [YN,Z2s,Zl,Qn,if_pos]
       omega
     .omega
end
def JH(φ:Op->Int):List Op->Int
 | []=> 0
 | o ::r=> φ o+JH φ r
def Znk(φ:Op->Int):Prop:=∀ o n,YV o->1<=n->¬Z5 o<=n->φ (ZO o n)+φ (Z07 o n)=φ o
theorem Zgt{φ:Op->Int}(hφ:Znk φ){p:List Op}{n:Int}(hp:∀ o∈p,YV o)(hl:p.length≠0)(h1:1<=n):φ (ZO (p.getD 0 Op.nil) n)+JH φ (Y8 p n)=JH φ p/\∀ o∈Y8 p n,YV o:=by
 cases p with
 | nil=> exact absurd rfl hl
 | cons o r=>
  have ho:=hp o Q4
  unfold Y8
  simp only [Qt,QQ,QV]
  by_cases h:Z5 o<=n
  .rw [if_pos h]
   have e:ZO o n=o:=by unfold ZO;rw [if_pos h]
   rw [e]
   exact ⟨rfl,fun x hx=> hp x (Q0 _ hx)⟩
  .rw [if_neg h]
   refine ⟨by simp only [JH];have:=hφ o n ho h1 h;omega,fun x hx=> ?_⟩
   rcases Q6.1 hx with rfl | hx
   .exact (Zdk ho h1 h).1
   .exact hp x (Q0 _ hx)
theorem ZcD{φ ψ:Op->Int}(hφ:Znk φ)(hψ:Znk ψ)(a:Int):∀ (k:Nat) (p q:List Op) (out:List Piece),p.length+q.length<=k->(∀ o∈p,YV o)->(∀ o∈q,YV o)->(Yo a 2 p q out).2.1=true->
  ∃ ps,(Yo a 2 p q out).1=out++ps/\JH φ (Z2A ps)=JH φ p/\JH ψ (Z2z ps)=JH ψ q/\ps.length<=p.length+q.length:=by
 intro k
 induction k with
 | zero=>
  intro p q out hk hp hq h
  have e1:p=[]:=Q3 V0
  have e2:q=[]:=Q3 V0
  subst e1 e2
  rw [Yo,dif_neg (by simp [sgl]),dif_neg (by simp [sgl]),dif_pos (by simp)]
  exact ⟨[],by simp,rfl,rfl,by simp⟩
 | succ k ih=>
  intro p q out hk hp hq h
  rw [Yo] at h ⊢
  by_cases h1:sgl a p=true
  .rw [dif_pos h1] at h ⊢
   obtain ⟨g1,_⟩:=Z2B.1 h1
   cases p with
   | nil=> exact absurd rfl g1
   | cons o r=>
    simp only [Qt,QQ,QV] at h ⊢
    obtain ⟨ps,e,f1,f2,f3⟩:=ih r q _ (by simp only [Q7] at hk;omega) (fun x hx=> hp x (Q0 _ hx)) hq h
    refine ⟨⟨1,o,Op.nil⟩ ::ps,by rw [e,Qa];rfl,?_,?_,by simp only [Q7];omega⟩
    .show JH φ (o ::Z2A ps)=_
     simp only [JH];omega
    .exact f2
  .rw [dif_neg h1] at h ⊢
   by_cases h2:sgl 2 q=true
   .rw [dif_pos h2] at h ⊢
    obtain ⟨g1,_⟩:=Z2B.1 h2
    cases q with
    | nil=> exact absurd rfl g1
    | cons o r=>
     simp only [Qt,QQ,QV] at h ⊢
     obtain ⟨ps,e,f1,f2,f3⟩:=ih p r _ (by simp only [Q7] at hk;omega) hp (fun x hx=> hq x (Q0 _ hx)) h
     refine ⟨⟨2,Op.nil,o⟩ ::ps,by rw [e,Qa];rfl,f1,?_,by simp only [Q7];omega⟩
     show JH ψ (o ::Z2z ps)=_
     simp only [JH];omega
   .rw [dif_neg h2] at h ⊢
    by_cases h3:p.length=0\/q.length=0
    .rw [dif_pos h3] at h ⊢
     by_cases h4:decide (p.length=0)=decide (q.length=0)
     .rw [if_pos h4]
      have h5:p.length=0/\q.length=0:=by
       have:=decide_eq_decide.1 h4
       omega
      rw [Q3 h5.1,Q3 h5.2]
      exact ⟨[],by simp,rfl,rfl,by simp⟩
     .rw [if_neg h4] at h;cases h
    .rw [dif_neg h3] at h ⊢
     have l1:p.length≠0:=V0
     have l2:q.length≠0:=V0
     have p1:=Jq (hp _ (Zh (l:=p) (i:=0) V0 Op.nil))
     have p2:=Jq (hq _ (Zh (l:=q) (i:=0) V0 Op.nil))
     generalize hn:min (Z5 (p.getD 0 Op.nil)) (Z5 (q.getD 0 Op.nil))=n at h ⊢
     obtain ⟨s1,s2⟩:=Zgt hφ hp l1 (n:=n) V0
     obtain ⟨t1,t2⟩:=Zgt hψ hq l2 (n:=n) V0
     have c1:=J7 p n l1
     have c2:=J7 q n l2
     have c3:Z5 (p.getD 0 Op.nil)<=n->(Y8 p n).length < p.length:=fun h=> J6 p _ l1 h
     have c4:Z5 (q.getD 0 Op.nil)<=n->(Y8 q n).length < q.length:=fun h=> J6 q _ l2 h
     obtain ⟨ps,e,f1,f2,f3⟩:=ih (Y8 p n) (Y8 q n) _ V0 s2 t2 h
     refine ⟨⟨0,ZO (p.getD 0 Op.nil) n,ZO (q.getD 0 Op.nil) n⟩ ::ps,by rw [e,Qa];rfl,?_,?_,by simp only [Q7];omega⟩
     .show JH φ (ZO (p.getD 0 Op.nil) n ::Z2A ps)=_
      simp only [JH];omega
     .show JH ψ (ZO (q.getD 0 Op.nil) n ::Z2z ps)=_
      simp only [JH];omega
def φA(o:Op):Int:=if o.kind=2 then 0 else Z5 o
def φB(o:Op):Int:=if o.kind=1 then 0 else Z5 o
def φC(o:Op):Int:=Zl o.l+ctE o.e - 18
theorem Ziz:∀ l,JH φA l=JU l
 | []=> rfl
 | o ::r=> by simp only [JH,JU,φA,Ziz r]
theorem Ziy:∀ l,JH φB l=Z0f l
 | []=> rfl
 | o ::r=> by simp only [JH,Z0f,φB,Ziy r]
theorem Zfa:∀ l,JH φC l+34*l.length=YN l
 | []=> rfl
 | o ::r=> by
  have:=Zfa r
  simp only [JH,YN,φC,Z4s,Q7]
  omega
theorem Zdl(o:Op)(n:Int):(Z07 o n).kind=o.kind:=by unfold Z07;split <;> rfl
theorem Zii{o:Op}{n:Int}(ho:YV o)(h1:1<=n)(hn:¬Z5 o<=n):Z5 (Z07 o n)=Z5 o - n:=by
 obtain ⟨_,_,v3,_⟩:=Z7i (a:=1) ho h1 hn
 have hl:=YX o
 rcases ho with ⟨k0,k1,k2,k3⟩ | ⟨k0,k1,k2,k3⟩ | ⟨k0,k1,k2⟩
 .unfold Z07
  rw [if_pos k0,YX]
  dsimp only
  rw [JI] at hl ⊢
  omega
 .unfold Z07
  rw [JI,YX]
  dsimp only
  rw [JI] at hl ⊢
  rw [QI]
  omega
 .rw [if_pos k0] at hl
  omega
theorem ZuU:Znk φA:=by
 intro o n ho h1 hn
 obtain ⟨_,_,v3,_⟩:=Z7i (a:=1) ho h1 hn
 have:=Zii ho h1 hn
 unfold φA
 rw [Z41,Zdl,v3,this]
 split <;> omega
theorem ZuT:Znk φB:=by
 intro o n ho h1 hn
 obtain ⟨_,_,v3,_⟩:=Z7i (a:=1) ho h1 hn
 have:=Zii ho h1 hn
 unfold φB
 rw [Z41,Zdl,v3,this]
 split <;> omega
theorem ZuS:Znk φC:=by
 intro o n ho h1 hn
 have hl:=YX o
 unfold φC ZO Z07
 rw [if_neg hn]
 rcases ho with ⟨k0,k1,k2,k3⟩ | ⟨k0,k1,k2,k3⟩ | ⟨k0,k1,k2⟩
 .rw [if_pos k0,if_pos k0]
  dsimp only
  rw [k3,k1,Z5K]
  simp [Zl]
 .rw [JI,JI]
  dsimp only
  have:=JG (o.l.take n.toNat) (o.l.drop n.toNat)
  rw [Qv] at this
  rw [k3,Z5K]
  omega
 .rw [if_pos k0] at hl
  omega
theorem Zbw{D list:Int}:∀ {l:List Tree},Yr D list l=true->Yr (-1) list l=true
 | [],_=> rfl
 | t ::r,h=> by
  simp only [Yr,Q1] at h ⊢
  exact ⟨JE _ _ _ V2 h.1,Zbw h.2⟩
mutual
theorem JY:∀ (e:Edit) (d m:Int),m < 0->Z0 e d=true->Z0 e m=true
 | .mk k o n w ks l os,d,m,hm,h=> by
  have h1:=Zaf ks
  have h2:=Zad l os
  rw [Z0] at h ⊢
  split at h
  .cases h
  .rename_i a
   rw [JI]
   split at h
   .cases h
   .rename_i b
    rw [if_neg b]
    split at h
    .rename_i c
     rw [if_pos c,Zdc hm]
     simp only [Q1] at h ⊢
     exact ⟨⟨JE _ _ _ V2 h.1.1,JE _ _ _ V2 h.1.2⟩,h.2⟩
    .rename_i c
     rw [if_neg c]
     simp only [Q1] at h ⊢
     exact ⟨⟨⟨⟨h.1.1.1.1,h1 _ _ (m - 1) V0 h.1.1.1.2⟩,h.1.1.2⟩,h2 _ (m - 1) V0 h.1.2⟩,h.2⟩
theorem Zaf:∀ (ks:List (KidOf Edit)) (last d m:Int),m < 0->Zu last ks d=true->Zu last ks m=true
 | [],_,_,_,_,_=> rfl
 | k ::r,last,d,m,hm,h=> by
  simp only [Zu,Q1] at h ⊢
  exact ⟨Zfr k last d m hm h.1,Zaf r k.at_ d m hm h.2⟩
theorem Zfr:∀ (k:KidOf Edit) (last d m:Int),m < 0->YW last k d=true->YW last k m=true
 | ⟨a,e⟩,last,d,m,hm,h=> by
  simp only [YW,Q1] at h ⊢
  exact ⟨h.1,JY e d m hm h.2⟩
theorem Zad(list:Int):∀ (os:List (OpOf Edit)) (d m:Int),m < 0->Zt list os d=true->Zt list os m=true
 | [],_,_,_,_=> rfl
 | o ::r,d,m,hm,h=> by
  simp only [Zt,Q1] at h ⊢
  exact ⟨ZgQ list o d m hm h.1,Zad list r d m hm h.2⟩
theorem ZgQ(list:Int):∀ (o:OpOf Edit) (d m:Int),m < 0->Zc list o d=true->Zc list o m=true
 | ⟨k,n,l,e⟩,d,m,hm,h=> by
  have he:=JY e d m hm
  rw [Zc] at h ⊢
  split at h
  .rename_i h0;rw [if_pos h0];exact h
  .rename_i h0
   rw [if_neg h0]
   split at h
   .cases h
   .rename_i h1
    rw [if_neg h1]
    split at h
    .rename_i h2
     rw [if_pos h2,Zdc hm]
     simp only [Q1] at h ⊢
     exact ⟨⟨Zbw h.1.1,h.1.2⟩,h.2⟩
    .rename_i h2
     rw [if_neg h2]
     simp only [Q1] at h ⊢
     exact ⟨⟨h.1.1,he h.1.2⟩,h.2⟩
end
structure Wk (e:Edit):Prop where
 r:Z0 e (-1)=true
 g:ZK e
theorem Wk.of{e:Edit}{d:Int}(h:Z0 e d=true)(g:ZK e):Wk e:=⟨JY e d _ V2 h,g⟩
theorem Jk{n:Int}(h0:0<=n)(h9:n<=9):InR n:=V4
theorem Ze9{o n:Tree}(h1:Z9 o (-1)=true)(h2:Z9 n (-1)=true)(h3:o.kind≠10)(h4:n.kind≠10):Z0 (.mk 1 o n [] [] 0 []) (-1)=true:=by
 rw [Z0,if_neg V2,if_neg (by simp),if_pos rfl,Zdc V2,h1,h2]
 simpa using ⟨h3,h4⟩
theorem Zmc{w:List WEdit}{ks:List Kid}(h1:Zp (-1) w=true)(h2:Zu (-1) ks (-2)=true):Z0 (.mk 2 Tree.nil Tree.nil w ks 0 []) (-1)=true:=by
 rw [Z0,if_neg V2,if_neg (by simp [ZR,Tree.nil]),if_neg V2,h1,show (-1:Int) - 1= -2 from rfl,h2]
 simp [Zt,Z0m,Z0l]
theorem Zmb{l:Int}{os:List Op}(hl:2<=l/\l<=9)(h:Zt l os (-2)=true)(h1:Z0m os 0 < 1048576)(h2:Z0l os 0 < 1048576):Z0 (.mk 3 Tree.nil Tree.nil [] [] l os) (-1)=true:=by
 rw [Z0,if_neg V2,if_neg (by simp [ZR,Tree.nil]),if_neg V2,show (-1:Int) - 1= -2 from rfl,h]
 simp only [Zp,Zu,QH,Xh,Q1,decide_eq_true_eq]
 exact ⟨V0,h1,h2⟩
theorem Zbq:∀ {l:List WEdit} {last:Int},asc WEdit.at_ last l->(∀ w∈l,w.at_<=65534/\w.mask≠0/\ZM w.old w.mask=true/\ZM w.new w.mask=true)->Zp last l=true
 | [],_,_,_=> rfl
 | a ::r,last,h,hw=> by
  obtain ⟨h1,h2,h3,h4⟩:=hw a Q4
  simp only [Zp,Q1,decide_eq_true_eq]
  exact ⟨⟨⟨⟨h.1,h1,h2⟩,h3⟩,h4⟩,Zbq h.2 fun w hw'=> hw w (Q0 _ hw')⟩
theorem Zcj{d:Int}:∀ {l:List Kid} {last:Int},asc KidOf.at_ last l->(∀ k∈l,k.at_<=65534/\k.e.kind≠0/\Z0 k.e d=true)->Zu last l d=true
 | [],_,_,_=> rfl
 | a ::r,last,h,hw=> by
  obtain ⟨h1,h2,h3⟩:=hw a Q4
  simp only [Zu,Z2G,Q1,decide_eq_true_eq]
  exact ⟨⟨⟨h.1,h1,h2⟩,h3⟩,Zcj h.2 fun w hw'=> hw w (Q0 _ hw')⟩
theorem Zci{list d:Int}:∀ {l:List Op},(∀ o∈l,Zc list o d=true)->Zt list l d=true
 | [],_=> rfl
 | a ::r,h=> by
  simp only [Zt,Q1]
  exact ⟨h a Q4,Zci fun o ho=> h o (Q0 _ ho)⟩
theorem Z39{D list:Int}:∀ {l:List Tree},(∀ t∈l,Z9 (.mk list [] [t]) D=true)->Yr D list l=true
 | [],_=> rfl
 | t ::r,h=> by
  simp only [Yr,Q1]
  exact ⟨h t Q4,Z39 fun x hx=> h x (Q0 _ hx)⟩
theorem Ze8{list:Int}(hl:2<=list/\list<=9){t:Tree}(h1:Z0r list t=true)(h2:Z9 t (-1)=true):Z9 (.mk list [] [t]) (-1)=true:=
 Zch hl (by simp) fun k hk=> by rw [Q9.1 hk];exact ⟨h1,h2⟩
theorem ZsK{list n:Int}(h1:1<=n)(h2:n<=1048576)(d:Int):Zc list ⟨0,n,[],Edit.nil⟩ d=true:=by
 rw [Zc,if_pos rfl,Z25]
 simp only [Qn,Xh,decide_eq_true_eq]
 exact ⟨h1,h2,trivial⟩
theorem Z7Q{list k d:Int}{l:List Tree}(hk:k=1\/k=2)(h:Yr (dT d) list l=true)(hl:l≠[]):Zc list ⟨k,0,l,Edit.nil⟩ d=true:=by
 rw [Zc,JI,JI,V1,Z25,h]
 have:=XW.2 hl
 simp only [QH,Xh,decide_eq_true_eq]
 omega
theorem Zll{list d:Int}{e:Edit}(h:Z0 e d=true)(h0:e.kind≠0)(hl:7 < list)(hw:list=8\/e.kind=2\/e.kind=1/\e.old.kind=1/\e.new.kind=1):Zc list ⟨3,0,[],e⟩ d=true:=by
 rw [Zc,if_neg V2,if_neg V2,if_neg V2,h]
 simp only [Qn,Xh,Q1,decide_eq_true_eq]
 exact ⟨⟨trivial,h0,hl⟩,hw⟩
def Wl(list:Int)(e:Edit):Prop:=list=8\/e.kind=2\/e.kind=1/\e.old.kind=1/\e.new.kind=1
theorem Z0C(t:Tree):(Z1 t).kind=t.kind:=Z1W t
theorem ZdO{w m:Int}(h:∀ i,i < 8->YT m (i:Nat)=false->Zg w i=0):ZM w m=true:=by
 unfold ZM mix of8
 rw [decide_eq_true_eq]
 have z:∀ i,i < 8->YA w 0 m i=0:=by
  intro i hi
  unfold YA
  split
  .exact Zdh i
  .rename_i hn;exact h i hi (by simpa using hn)
 rw [z 0 V0,z 1 V0,z 2 V0,z 3 V0,z 4 V0,z 5 V0,z 6 V0,z 7 V0]
 try rfl
theorem Zrs {a b:WEdit} (ra:Z1j a) (rb:Z1j b) (ha:a.at_<=65534/\a.mask≠0/\ZM a.old a.mask=true/\ZM a.new a.mask=true) (hb:ZM b.old b.mask=true/\ZM b.new b.mask=true)
  (hc:(YP a b).2=true):((YP a b).1.at_<=65534/\(YP a b).1.mask≠0/\ZM (YP a b).1.old (YP a b).1.mask=true/\ZM (YP a b).1.new (YP a b).1.mask=true)/\Z1j (YP a b).1:=by
 have hw:Z9M a b=true:=by
  unfold YP at hc
  split at hc
  .assumption
  .cases hc
 have e:(YP a b).1=⟨a.at_,orM a.mask b.mask,mix b.old a.old a.mask,mix a.new b.new b.mask⟩:=by unfold YP;rw [if_pos hw]
 obtain ⟨m1,m2⟩:=Zoz ra.2.1 rb.2.1
 rw [e]
 dsimp only
 refine ⟨⟨ha.1,fun h=> ?_,ZdO fun i hi hn=> ?_,ZdO fun i hi hn=> ?_⟩,ra.1,m1,Z0S _ _ _,Z0S _ _ _⟩
 .refine ha.2.1 ?_
  have z:∀ i:Nat,YT a.mask (i:Int)=false:=by
   intro i
   have:=m2 i
   rw [h] at this
   have z0:YT 0 (i:Int)=false:=by unfold YT;simp
   rw [z0] at this
   cases hn:YT a.mask (i:Int) with
   | false=> rfl
   | true=> rw [hn] at this;simp at this
  have h0:=z 0;have h1:=z 1;have h2:=z 2;have h3:=z 3;have h4:=z 4;have h5:=z 5;have h6:=z 6;have h7:=z 7
  have:=ra.2.1
  simp only [YT,decide_eq_false_iff_not,QY] at h0 h1 h2 h3 h4 h5 h6 h7
  omega
 .rw [m2 i] at hn
  simp only [QC] at hn
  rw [JL hi,if_neg (by rw [hn.1];decide)]
  exact Z2t hb.1 hi hn.2
 .rw [m2 i] at hn
  simp only [QC] at hn
  rw [JL hi,if_neg (by rw [hn.2];decide)]
  exact Z2t ha.2.2.2 hi hn.1
def Z7p{β:Type}(φ:β->Nat):List β->Nat
 | []=> 0
 | a ::r=> φ a+Z7p φ r
theorem ZeA{β:Type}{at_:β->Int}{one:β->β->β × Bool}(φ:β->Nat):∀ (k:Nat) (p q L:List β),p.length+q.length<=k->(∀ a∈p,∀ b∈q,(one a b).2=true->φ (one a b).1<=φ a+φ b)->Zm at_ one p q=some L->Z7p φ L<=Z7p φ p+Z7p φ q:=by
 intro k
 induction k with
 | zero=>
  intro p q L hk _ h
  have e1:p=[]:=Q3 V0
  have e2:q=[]:=Q3 V0
  subst e1 e2
  rw [Zm] at h
  cases h
  simp [Z7p]
 | succ k ih=>
  intro p q L hk ho h
  match p,q with
  | [],q=> rw [Zm] at h;cases h;simp [Z7p]
  | a ::p,[]=> rw [Zm] at h;cases h;simp [Z7p]
  | a ::p,b ::q=>
   simp only [Q7] at hk
   rw [Zm] at h
   split at h
   .obtain ⟨L',hL,rfl⟩:=Qb.1 h
    have:=ih p (b ::q) L' (by simp only [Q7];omega) (fun x hx y hy=> ho x (Q0 _ hx) y hy) hL
    simp only [Z7p] at this ⊢;omega
   .split at h
    .obtain ⟨L',hL,rfl⟩:=Qb.1 h
     have:=ih (a ::p) q L' (by simp only [Q7];omega) (fun x hx y hy=> ho x hx y (Q0 _ hy)) hL
     simp only [Z7p] at this ⊢;omega
    .split at h
     .rename_i hc
      obtain ⟨L',hL,rfl⟩:=Qb.1 h
      have:=ih p q L' V0 (fun x hx y hy=> ho x (Q0 _ hx) y (Q0 _ hy)) hL
      have:=ho a Q4 b Q4 hc
      simp only [Z7p] at*;omega
     .cases h
theorem Zbc:∀ l:List Kid,Z7p Z2o l=Z0t l
 | []=> rfl
 | k ::r=> by simp only [Z7p,Z0t,Zbc r]
theorem Z7o{β:Type}:∀ l:List β,Z7p (fun _=> 1) l=l.length
 | []=> rfl
 | k ::r=> by simp only [Z7p,Q7,Z7o r];omega
theorem ZgL:∀ {l:List Kid},(∀ k∈l,InR k.at_/\ZK k.e)->JX l
 | [],_=> trivial
 | ⟨a,e⟩ ::r,h=> ⟨h _ Q4,ZgL fun k hk=> h k (Q0 _ hk)⟩
theorem ZgK:∀ {l:List Op},(∀ o∈l,YD o)->JP l
 | [],_=> trivial
 | o ::r,h=> ⟨h _ Q4,ZgK fun k hk=> h k (Q0 _ hk)⟩
structure ComWk (K:Prop) (c:Edit × Bool) (p q:Edit):Prop where
 wk:c.2=true->Wk c.1
 ct:K->c.2=true->ctE c.1+18<=ctE p+ctE q
 kind:p.kind≠0->q.kind≠0->c.2=true->c.1.kind≠0
 wl:∀ list,7 < list->list<=9->p.kind≠0->q.kind≠0->c.2=true->Wl list p->Wl list q->Wl list c.1
theorem ZfY{e:Edit}{t:Tree}(h:(doB e t).2=true):∃ v,doE false e t=some v/\(doB e t).1=Z1 v:=by
 unfold doB at h ⊢
 cases hv:doE false e t with
 | none=> rw [hv] at h;cases h
 | some v=> exact ⟨v,rfl,rfl⟩
theorem Z2F{t:Tree}{d:Int}(h:Z9 t d=true):Z9 (Z1 t) d=true:=Z1k t d h
theorem Wk.turn{p:Edit}(h:Wk p):Wk (ZE (Zq p)):=⟨Jx _ _ (Yn _ _ h.r),Z0G _ _ (Yn _ _ h.r) (Z3g _ h.g)⟩
theorem ZaO{list:Int}(hl:2<=list/\list<=9){e:Edit}{t u:Tree}{d:Int}(hr:Z0 e d=true)(hd:doE false e t=some u)(h7:7 < list)(hw:Wl list e)(h0:e.kind≠0)(ht:Z9 t (-1)=true):Z0r list u=true:=by
 obtain ⟨j1,j2,_,_⟩:=Z4q hr hd
 unfold Z0r
 rw [JI]
 by_cases hl9:list=9
 .rw [if_pos hl9]
  refine decide_eq_true ?_
  rcases hw with q | q | q
  .omega
  .exact (j2 q).1
  .rw [j1 q.1];exact q.2.2
 .rw [if_neg hl9]
  exact decide_eq_true ((Z3O _ e d t u (Qm _) hr ht hd).2 h0)
theorem ZcY{list:Int}(h7:7 < list){u:Tree}(h:Z0r list u=true):Z0r list (Z1 u)=true:=by
 unfold Z0r at h ⊢
 rw [JI] at h ⊢
 rw [Z0C]
 exact h
theorem Ztm {K:Prop} {f:Edit->Edit->Edit × Bool} {p q:Edit} (wp:Wk p) (wq:Wk q) (p3:p.kind=3) (hl:p.list=q.list)
  (ih:∀ a b,Zd a+Zd b < Zd p+Zd q->Wk a->Wk b->ComWk K (f a b) a b) {ps:List Piece} (e:(Yo 1 2 p.ops q.ops []).1=ps) (hb1:(Yo 1 2 p.ops q.ops []).2.1=true) {ops:List Op} (hc:Z0u f ps=some ops):
  (∀ o∈ops,Zc p.list o (-2)=true/\YD o)/\JU ops=JU p.ops/\Z0f ops=Z0f q.ops/\(K->YN ops<=YN p.ops+YN q.ops):=by
 have rp:=Zs wp.r
 have rq:=Zs wq.r
 have gp:=YF wp.g
 have gq:=YF wq.g
 have hli:=rp.list p3
 have op:=Jj wp.r
 have oq:=Jj wq.r
 have rpo:Zt p.list p.ops (-2)=true:=rp.ops
 have rqo:Zt p.list q.ops (-2)=true:=by rw [hl];exact rq.ops
 obtain ⟨i1,_⟩:=Z7O _ p.ops q.ops [] (Qm _) op oq
 obtain ⟨ps0,e0,hps,_,_⟩:=i1 hb1
 obtain ⟨ps1,e1,sA,sB,hlen⟩:=ZcD ZuU ZuT 1 _ p.ops q.ops [] (Qm _) op oq hb1
 obtain ⟨ps2,e2,sC,sD,_⟩:=ZcD ZuS ZuS 1 _ p.ops q.ops [] (Qm _) op oq hb1
 rw [e,QF] at e0 e1 e2
 subst e0 e1 e2
 have side:∀ x∈ps,(x.of≠2->Zc p.list x.p (-2)=true/\YD x.p)/\(x.of≠1->Zc p.list x.q (-2)=true/\YD x.q):=by
  have one:∀ (l:List Op) (o:Op),(∀ o'∈l,Zc p.list o' (-2)=true)->JP l->Part l o->YV o->Zc p.list o (-2)=true/\YD o:=by
   intro l o hr hg ⟨o',m,k,e1,_,lt⟩ ho
   have R:=ZT (hr o' m)
   have G:=JQ (Z08 hg m)
   obtain ⟨kk,nn,ll,ee⟩:=o
   have k:kk=o'.kind:=k
   have e1:ee=o'.e:=e1
   have lt:∀ t∈ll,t∈o'.l:=lt
   have gl:Yg ll:=Z7u fun t ht=> Ja G.2.2.1 (lt t ht)
   cases R with
   | keep n1 a1 a2=>
    have k:kk=0:=k
    have e1:ee=Edit.nil:=e1
    subst k e1
    rcases ho with h | h | h
    .have hl:ll=[]:=h.2.1
     subst hl
     have h3:1<=nn/\nn<=1048576:=h.2.2.1
     exact ⟨ZsK h3.1 h3.2 _,Jk V2 V2,V4,trivial,G.2.2.2⟩
    .have:=h.1;omega
    .have:=h.1;omega
   | gone l1 a1 a2=>
    have k:kk=1:=k
    have e1:ee=Edit.nil:=e1
    subst k e1
    rcases ho with h | h | h
    .have:=h.1;omega
    .have hn:nn=0:=h.2.1
     subst hn
     exact ⟨Z7Q (.inl rfl) (Z39 fun t ht=> Z2v a1 t (lt t ht)) h.2.2.1,Jk V2 V2,Jk V2 V2,gl,G.2.2.2⟩
    .have:=h.1;omega
   | come l1 a1 a2=>
    have k:kk=2:=k
    have e1:ee=Edit.nil:=e1
    subst k e1
    rcases ho with h | h | h
    .have:=h.1;omega
    .have hn:nn=0:=h.2.1
     subst hn
     exact ⟨Z7Q (.inr rfl) (Z39 fun t ht=> Z2v a1 t (lt t ht)) h.2.2.1,Jk V2 V2,Jk V2 V2,gl,G.2.2.2⟩
    .have:=h.1;omega
   | into e2 a1 a2 a3 a4=>
    have k:kk=3:=k
    have e1:ee=e2:=e1
    subst k e1
    rcases ho with h | h | h
    .have:=h.1;omega
    .have:=h.1;omega
    .have hn:nn=0:=h.2.1
     have hl:ll=[]:=h.2.2
     subst hn hl
     exact ⟨Zll a1 a2 a3 a4,Jk V2 V2,Jk V2 V2,trivial,G.2.2.2⟩
  intro x hx
  have X:=hps x hx
  exact ⟨fun h=> one p.ops x.p (fun o ho=> rightOs_mem rpo ho) gp.2.2.2.2 (X.pp h).1 (X.pp h).2,fun h=> one q.ops x.q (fun o ho=> rightOs_mem rqo ho) gq.2.2.2.2 (X.qq h).1 (X.qq h).2⟩
 have one:∀ x∈ps,(ZI f x).ok=true->((ZI f x).is=true->Zc p.list (ZI f x).op (-2)=true/\YD (ZI f x).op)/\
   (φA (ZI f x).op*(if (ZI f x).is then 1 else 0)=(if x.of=2 then 0 else φA x.p))/\(φB (ZI f x).op*(if (ZI f x).is then 1 else 0)=(if x.of=1 then 0 else φB x.q))/\
   (K->(ZI f x).is=true->φC (ZI f x).op<=(if x.of=2 then 0 else φC x.p)+(if x.of=1 then 0 else φC x.q)):=by
  intro x hx hok
  have X:=hps x hx
  obtain ⟨s1,s2⟩:=side x hx
  have cnn:∀ o:Op,0<=φC o:=fun o=> by unfold φC;have:=Z9L o.e;omega
  unfold ZI at hok ⊢
  by_cases c1:x.of=1\/(x.of=0/\x.q.kind=0)
  .rw [if_pos c1] at hok ⊢
   dsimp only
   have h2:x.of≠2:=V0
   rw [if_pos rfl,if_neg h2,if_neg h2]
   refine ⟨fun _=> s1 h2,V0,?_,fun _ _=> ?_⟩
   .rcases c1 with c | ⟨c,c'⟩
    .rw [if_pos c];unfold φB;rw [if_pos (X.one c)];try rfl
    .rw [JI]
     obtain ⟨b1,b2,b3⟩:=X.both c
     unfold φB
     rw [if_neg b1,JI,b3];omega
   .have:=cnn x.q
    split <;> omega
  rw [if_neg c1] at hok ⊢
  by_cases c2:x.of=2\/x.p.kind=0
  .rw [if_pos c2] at hok ⊢
   dsimp only
   have h2:x.of≠1:=V0
   rw [if_pos rfl,if_neg h2,if_neg h2]
   refine ⟨fun _=> s2 h2,?_,V0,fun _ _=> ?_⟩
   .by_cases c:x.of=2
    .rw [if_pos c];unfold φA;rw [if_pos (X.two c)];try rfl
    .rw [if_neg c]
     have c0:x.of=0:=by rcases X.of with h | h | h <;> omega
     obtain ⟨b1,b2,b3⟩:=X.both c0
     unfold φA
     rw [if_neg b2,JI,b3];omega
   .have:=cnn x.p
    split <;> omega
  rw [if_neg c2] at hok ⊢
  have c0:x.of=0:=by rcases X.of with h | h | h <;> omega
  obtain ⟨b1,b2,b3⟩:=X.both c0
  have h1:x.of≠1:=V0
  have h2:x.of≠2:=V0
  obtain ⟨u1,u2⟩:=s1 h2
  obtain ⟨v1,v2⟩:=s2 h1
  have ok1:=(X.pp h2).2
  have ok2:=(X.qq h1).2
  have kp:x.p.kind=2\/x.p.kind=3:=by rcases Ys ok1 with k | k | k | k <;> omega
  have kq:x.q.kind=1\/x.q.kind=3:=by rcases Ys ok2 with k | k | k | k <;> omega
  rw [if_neg h2,if_neg h2,if_neg h1,if_neg h1]
  by_cases c3:x.p.kind=2/\x.q.kind=1
  .rw [if_pos c3] at hok ⊢
   dsimp only
   refine ⟨fun h=> (by cases h),?_,?_,fun _ h=> by cases h⟩
   .unfold φA;rw [if_pos c3.1];try rfl
   .unfold φB;rw [if_pos c3.2];try rfl
  rw [if_neg c3] at hok ⊢
  have one3:∀ o:Op,o.kind=3->Zc p.list o (-2)=true->YD o->(7 < p.list/\o.e.kind≠0/\Wl p.list o.e/\Wk o.e)/\o.l=[]:=by
   intro o k hr hg
   have R:=ZT hr
   cases R with
   | keep | gone | come=> exact absurd k (by simp)
   | into e a1 a2 a3 a4=> exact ⟨⟨a3,a2,a4,⟨JY _ _ _ V2 a1,(JQ hg).2.2.2⟩⟩,rfl⟩
  have one12:∀ o:Op,(o.kind=1\/o.kind=2)->Z5 o=1->YV o->Zc p.list o (-2)=true->YD o->∃ t,o.l=[t]/\Z0r p.list t=true/\Z9 t (-1)=true/\rng t/\o.e=Edit.nil:=by
   intro o k h1 ho hr hg
   have hlen:=YK ho k
   have hl1:o.l.length=1:=V0
   obtain ⟨t,ht⟩:∃ t,o.l=[t]:=by
    match h:o.l,hl1 with
    | [t],_=> exact ⟨t,rfl⟩
   have R:=ZT hr
   have gt:=(JQ hg).2.2.1
   rw [ht] at gt
   refine ⟨t,ht,?_⟩
   cases R with
   | keep=> exact absurd k (by simp)
   | into=> exact absurd k (by simp)
   | gone l a1 a2=> exact ⟨(Jh hli a1 t (by have ht:l=[t]:=ht;rw [ht];simp)).1,(Jh hli a1 t (by have ht:l=[t]:=ht;rw [ht];simp)).2,gt.1,rfl⟩
   | come l a1 a2=> exact ⟨(Jh hli a1 t (by have ht:l=[t]:=ht;rw [ht];simp)).1,(Jh hli a1 t (by have ht:l=[t]:=ht;rw [ht];simp)).2,gt.1,rfl⟩
  by_cases c4:x.p.kind=2
  .rw [if_pos c4] at hok ⊢
   have q3':x.q.kind=3:=V0
   have hl1:Z5 x.q=1:=Z0w q3'
   obtain ⟨t,ht,t1,t2,t3,t4⟩:=one12 x.p (.inr c4) V0 ok1 u1 u2
   obtain ⟨⟨e1,e2,e3,e4⟩,e5⟩:=one3 x.q q3' v1 v2
   dsimp only at hok ⊢
   rw [ht,Qt] at hok ⊢
   obtain ⟨v,hv,ev⟩:=ZfY hok
   rw [if_pos rfl,ev]
   have kv:=ZaO hli e4.r hv e1 e3 e2 t2
   have rv:=(Z3O _ _ _ t v (Qm _) e4.r t2 hv).1
   refine ⟨fun _=> ⟨Z7Q (.inr rfl) ?_ (by simp),Jk V2 V2,Jk V2 V2,⟨J9 _ (Z4g false _ _ v e4.g t3 hv),trivial⟩,?_⟩,?_,?_,fun _ _=> ?_⟩
   .rw [Zdc V2]
    exact Z39 fun y hy=> by rw [Q9.1 hy];exact Ze8 hli (ZcY e1 kv) (Z2F rv)
   .rw [<-t4];exact (JQ u2).2.2.2
   .unfold φA;rw [if_pos c4];try rfl
   .show (if (2:Int)=1 then (0:Int) else Z5 _)*1=(if x.q.kind=1 then 0 else Z5 x.q)
    rw [if_neg V2,JI,hl1];simp [Z5]
   .unfold φC
    dsimp only
    rw [ht,t4,e5]
    have:=Z5Y false _ _ _ v e4.r hv
    have:=Yt v
    simp only [Zl,Z5K]
    omega
  rw [if_neg c4] at hok ⊢
  have p3':x.p.kind=3:=V0
  have hl0:Z5 x.p=1:=Z0w p3'
  obtain ⟨⟨e1,e2,e3,e4⟩,e5⟩:=one3 x.p p3' u1 u2
  by_cases c5:x.q.kind=1
  .rw [if_pos c5] at hok ⊢
   obtain ⟨t,ht,t1,t2,t3,t4⟩:=one12 x.q (.inl c5) V0 ok2 v1 v2
   dsimp only at hok ⊢
   rw [ht,Qt] at hok ⊢
   obtain ⟨v,hv,ev⟩:=ZfY hok
   have wt:=e4.turn
   have kt:(ZE (Zq x.p.e)).kind=x.p.e.kind:=by rw [Z3m,Z14]
   have wlt:Wl p.list (ZE (Zq x.p.e)):=by
    rcases e3 with h | h | h
    .exact .inl h
    .exact .inr (.inl V0)
    .refine .inr (.inr ⟨V0,?_,?_⟩)
     .rw [(Z7T (Zq x.p.e) (by rw [Z14];exact h.1)).1,Z0C,ZdT];exact h.2.2
     .rw [(Z7T (Zq x.p.e) (by rw [Z14];exact h.1)).2,Z0C,ZdU];exact h.2.1
   rw [if_pos rfl,ev]
   have kv:=ZaO hli wt.r hv e1 wlt V0 t2
   have rv:=(Z3O _ _ _ t v (Qm _) wt.r t2 hv).1
   refine ⟨fun _=> ⟨Z7Q (.inl rfl) ?_ (by simp),Jk V2 V2,Jk V2 V2,⟨J9 _ (Z4g false _ _ v wt.g t3 hv),trivial⟩,?_⟩,?_,?_,fun _ _=> ?_⟩
   .rw [Zdc V2]
    exact Z39 fun y hy=> by rw [Q9.1 hy];exact Ze8 hli (ZcY e1 kv) (Z2F rv)
   .rw [<-t4];exact (JQ v2).2.2.2
   .show (if (1:Int)=2 then (0:Int) else Z5 _)*1=(if x.p.kind=2 then 0 else Z5 x.p)
    rw [if_neg V2,JI,hl0];simp [Z5]
   .unfold φB;rw [if_pos c5];try rfl
   .unfold φC
    dsimp only
    rw [ht,t4,e5]
    have:=Z5Y false _ _ _ v wt.r hv
    have:=Yt v
    have:=Z4r (Zq x.p.e)
    rw [Z8S] at this
    simp only [Zl,Z5K]
    omega
  rw [if_neg c5] at hok ⊢
  have q3':x.q.kind=3:=V0
  have hl1:Z5 x.q=1:=Z0w q3'
  obtain ⟨⟨f1,f2,f3,f4⟩,f5⟩:=one3 x.q q3' v1 v2
  dsimp only at hok ⊢
  rw [if_pos rfl]
  obtain ⟨o1,m1,_,k1,_⟩:=(X.pp h2).1
  obtain ⟨o2,m2,_,k2,_⟩:=(X.qq h1).1
  have:=Z2g m1
  have:=Z2g m2
  have H:=ih x.p.e x.q.e (by rw [k1,k2];omega) e4 f4
  refine ⟨fun _=> ⟨Zll (JY _ _ _ V2 (H.wk hok).r) (H.kind e2 f2 hok) e1 (H.wl p.list e1 hli.2 e2 f2 hok e3 f3),Jk V2 V2,Jk V2 V2,trivial,(H.wk hok).g⟩,?_,?_,fun hK _=> ?_⟩
  .show (if (3:Int)=2 then (0:Int) else Z5 _)*1=(if x.p.kind=2 then 0 else Z5 x.p)
   rw [if_neg V2,JI,hl0];simp [Z5]
  .show (if (3:Int)=1 then (0:Int) else Z5 _)*1=(if x.q.kind=1 then 0 else Z5 x.q)
   rw [if_neg V2,JI,hl1];simp [Z5]
  .unfold φC
   dsimp only
   rw [e5,f5]
   have:=H.ct hK hok
   simp only [Zl]
   omega
 have all:∀ (ps:List Piece) (ops:List Op),(∀ x∈ps,(ZI f x).ok=true->((ZI f x).is=true->Zc p.list (ZI f x).op (-2)=true/\YD (ZI f x).op)/\
   (φA (ZI f x).op*(if (ZI f x).is then 1 else 0)=(if x.of=2 then 0 else φA x.p))/\(φB (ZI f x).op*(if (ZI f x).is then 1 else 0)=(if x.of=1 then 0 else φB x.q))/\
   (K->(ZI f x).is=true->φC (ZI f x).op<=(if x.of=2 then 0 else φC x.p)+(if x.of=1 then 0 else φC x.q)))->Z0u f ps=some ops->
   (∀ o∈ops,Zc p.list o (-2)=true/\YD o)/\JH φA ops=JH φA (Z2A ps)/\JH φB ops=JH φB (Z2z ps)/\(K->JH φC ops<=JH φC (Z2A ps)+JH φC (Z2z ps))/\ops.length<=ps.length:=by
  intro ps
  induction ps with
  | nil=> intro ops _ h;cases h;exact ⟨fun o ho=> (by cases ho),rfl,rfl,fun _=> (by simp [Z2A,Z2z,JH]),by simp⟩
  | cons x r ihp=>
   intro ops hx h
   rw [Z0u] at h
   split at h
   .rename_i hok
    obtain ⟨l,hl',rfl⟩:=Qb.1 h
    obtain ⟨j1,j2,j3,j4,j5⟩:=ihp l (fun y hy=> hx y (Q0 _ hy)) hl'
    obtain ⟨k1,k2,k3,k4⟩:=hx x Q4 hok
    have cnn:∀ o:Op,0<=φC o:=fun o=> by unfold φC;have:=Z9L o.e;omega
    have c1:=cnn x.p
    have c2:=cnn x.q
    have hsP:∀ φ:Op->Int,JH φ (Z2A (x ::r))=(if x.of=2 then 0 else φ x.p)+JH φ (Z2A r):=fun φ=> by
     simp only [Z2A]
     split <;> simp [JH]
    have hsQ:∀ φ:Op->Int,JH φ (Z2z (x ::r))=(if x.of=1 then 0 else φ x.q)+JH φ (Z2z r):=fun φ=> by
     simp only [Z2z]
     split <;> simp [JH]
    rw [hsP,hsQ,hsP,hsQ]
    by_cases his:(ZI f x).is=true
    .rw [if_pos his] at k2 k3
     rw [if_pos his]
     have k4:=fun hK=> k4 hK his
     simp only [Qw,QF,JH,Q7]
     refine ⟨fun o ho=> ?_,V0,V0,fun hK=> (by have:=k4 hK;have:=j4 hK;omega),V0⟩
     rcases Q6.1 ho with rfl | ho
     .exact k1 his
     .exact j1 o ho
    .rw [if_neg his] at k2 k3
     rw [if_neg his]
     simp only [QF,Q7]
     refine ⟨j1,V0,V0,fun hK=> ?_,V0⟩
     have:=j4 hK
     have:0<=(if x.of=2 then 0 else φC x.p)+(if x.of=1 then 0 else φC x.q):=by split <;> split <;> omega
     omega
   .cases h
 obtain ⟨j1,j2,j3,j4,j5⟩:=all ps ops one hc
 rw [Ziz] at j2
 rw [Ziy] at j3
 rw [sA,Ziz] at j2
 rw [sB,Ziy] at j3
 have x1:=Zfa ops
 have x2:=Zfa p.ops
 have x3:=Zfa q.ops
 exact ⟨j1,j2,j3,fun hK=> (by have:=j4 hK;omega)⟩
theorem Zsx {K:Prop} {f:Edit->Edit->Edit × Bool} {p q:Edit} (wp:Wk p) (wq:Wk q)
  (ih:∀ a b,Zd a+Zd b < Zd p+Zd q->Wk a->Wk b->ComWk K (f a b) a b):ComWk K (Jm f p q) p q:=by
 have rp:=Zs wp.r
 have rq:=Zs wq.r
 have gp:=YF wp.g
 have gq:=YF wq.g
 have cp:=Z9L p
 have cq:=Z9L q
 have ap:=Z2p p
 have aq:=Z2p q
 unfold Jm
 by_cases p0:p.kind=0
 .rw [if_pos p0]
  exact ⟨fun _=> wq,fun _ _=> by dsimp only;omega,fun h=> absurd p0 h,fun _ _ _ h=> absurd p0 h⟩
 rw [if_neg p0]
 by_cases q0:q.kind=0
 .rw [if_pos q0]
  exact ⟨fun _=> wp,fun _ _=> by dsimp only;omega,fun _ h=> absurd q0 h,fun _ _ _ _ h=> absurd q0 h⟩
 rw [if_neg q0]
 by_cases p1:p.kind=1
 .rw [if_pos p1]
  obtain ⟨r1,r2,r3,r4⟩:=rp.rep p1
  have key:(doB q p.new).2=true->(Z9 (doB q p.new).1 (-1)=true/\(doB q p.new).1.kind≠10)/\rng (doB q p.new).1/\Zn (doB q p.new).1+18<=Zn p.new+ctE q/\∀ list,7 < list->list<=9->p.new.kind=1->list=9->Wl list q->(doB q p.new).1.kind=1:=by
   intro hb
   obtain ⟨v,hv,e⟩:=ZfY hb
   rw [e]
   obtain ⟨x1,x2⟩:=Z3O _ q _ p.new v (Qm _) wq.r r2 hv
   refine ⟨⟨Z2F x1,by rw [Z0C];exact x2 q0⟩,J9 _ (Z4g false q _ v wq.g gp.2.1 hv),?_,fun list h7 h9 hk h9' hw=> ?_⟩
   .have:=Z5Y false q _ _ v wq.r hv
    have:=Yt v
    omega
   .rw [Z0C]
    obtain ⟨j1,j2,_,_⟩:=Z4q wq.r hv
    rcases hw with h | h | h
    .omega
    .exact (j2 h).1
    .rw [j1 h.1];exact h.2.2
  refine ⟨fun hb=> ?_,fun _ hb=> ?_,fun _ _ _=> (show (1:Int)≠0 by decide),fun list h7 h9 _ _ hb hp hq=> ?_⟩
  .obtain ⟨⟨k1,k2⟩,k3,_,_⟩:=key hb
   exact ⟨Ze9 r1 k1 r3 k2,Jk V2 V2,gp.1,k3,by simp,Jk V2 V2,trivial,trivial⟩
  .obtain ⟨_,_,k4,_⟩:=key hb
   rw [ZlH]
   omega
  .by_cases h8:list=8
   .exact .inl h8
   .have hp':p.kind=1/\p.old.kind=1/\p.new.kind=1:=by
     rcases hp with h | h | h
     .exact absurd h h8
     .omega
     .exact h
    exact .inr (.inr ⟨rfl,hp'.2.1,(key hb).2.2.2 list h7 h9 hp'.2.2 V0 hq⟩)
 rw [if_neg p1]
 by_cases q1:q.kind=1
 .rw [if_pos q1]
  obtain ⟨r1,r2,r3,r4⟩:=rq.rep q1
  have wt:=wp.turn
  have kt:(ZE (Zq p)).kind=p.kind:=by rw [Z3m,Z14]
  have key:(doB (ZE (Zq p)) q.old).2=true->(Z9 (doB (ZE (Zq p)) q.old).1 (-1)=true/\(doB (ZE (Zq p)) q.old).1.kind≠10)/\rng (doB (ZE (Zq p)) q.old).1/\Zn (doB (ZE (Zq p)) q.old).1+18<=Zn q.old+ctE p/\(p.kind=2->(doB (ZE (Zq p)) q.old).1.kind=1):=by
   intro hb
   obtain ⟨v,hv,e⟩:=ZfY hb
   rw [e]
   obtain ⟨x1,x2⟩:=Z3O _ _ _ q.old v (Qm _) wt.r r1 hv
   refine ⟨⟨Z2F x1,by rw [Z0C];exact x2 V0⟩,J9 _ (Z4g false _ _ v wt.g gq.1 hv),?_,fun hk=> ?_⟩
   .have:=Z5Y false _ _ _ v wt.r hv
    have:=Yt v
    have:=Z4r (Zq p)
    rw [Z8S] at this
    omega
   .rw [Z0C]
    exact ((Z4q wt.r hv).2.1 V0).1
  refine ⟨fun hb=> ?_,fun _ hb=> ?_,fun _ _ _=> (show (1:Int)≠0 by decide),fun list h7 h9 _ _ hb hp hq=> ?_⟩
  .obtain ⟨⟨k1,k2⟩,k3,_,_⟩:=key hb
   exact ⟨Ze9 k1 r2 k2 r4,Jk V2 V2,k3,gq.2.1,by simp,Jk V2 V2,trivial,trivial⟩
  .obtain ⟨_,_,k4,_⟩:=key hb
   rw [ZlH]
   omega
  .by_cases h8:list=8
   .exact .inl h8
   .have hq':q.kind=1/\q.old.kind=1/\q.new.kind=1:=by
     rcases hq with h | h | h
     .exact absurd h h8
     .omega
     .exact h
    refine .inr (.inr ⟨rfl,(key hb).2.2.2 ?_,hq'.2.2⟩)
    rcases hp with h | h | h
    .exact absurd h h8
    .exact h
    .exact absurd h.1 p1
 rw [if_neg q1]
 by_cases hd:p.kind≠q.kind\/p.list≠q.list
 .rw [if_pos hd]
  exact ⟨fun h=> (by cases h),fun _ h=> (by cases h),fun _ _ h=> (by cases h),fun _ _ _ _ _ h=> (by cases h)⟩
 rw [if_neg hd]
 by_cases p2:p.kind=2
 .rw [if_pos p2]
  have q2:q.kind=2:=V0
  have awp:=YQ rp.words
  have awq:=YQ rq.words
  have akp:=ZP rp.kids
  have akq:=ZP rq.kids
  have hwat:∀ a b:WEdit,a.at_=b.at_->(YP a b).2=true->(YP a b).1.at_=a.at_:=fun a b _ h=> ZlI a b h
  have hkat:∀ a b:Kid,a.at_=b.at_->(Z0L f a b).2=true->(Z0L f a b).1.at_=a.at_:=fun a b _ _=> rfl
  have hk:∀ a∈p.kids,∀ b∈q.kids,ComWk K (f a.e b.e) a.e b.e:=by
   intro a ha b hb
   have:=Z19 ha
   have:=Z19 hb
   exact ih a.e b.e V0 (.of (akp a ha).2 (YU gp.2.2.2.1 ha).2) (.of (akq b hb).2 (YU gq.2.2.2.1 hb).2)
  cases hL:Zm WEdit.at_ YP p.words q.words with
  | none=> exact ⟨fun h=> (by cases h),fun _ h=> (by cases h),fun _ _ h=> (by cases h),fun _ _ _ _ _ h=> (by cases h)⟩
  | some L=>
   rw [if_pos (show (some L).isSome=true from rfl)]
   cases hM:Zm KidOf.at_ (Z0L f) p.kids q.kids with
   | none=> exact ⟨fun h=> (by cases h),fun _ h=> (by cases h),fun _ _ h=> (by cases h),fun _ _ _ _ _ h=> (by cases h)⟩
   | some M=>
    have S:=(Z2e hwat _ p.words q.words (-1) (Qm _) (Z0F rp.words) (Z0F rq.words)).2 L hL
    have T:=(Z2e hkat _ p.kids q.kids (-1) (Qm _) (Z1r rp.kids) (Z1r rq.kids)).2 M hM
    have hw:∀ w∈L,(w.at_<=65534/\w.mask≠0/\ZM w.old w.mask=true/\ZM w.new w.mask=true)/\Z1j w:=by
     intro w hw
     rcases S.of w hw with ⟨h,_⟩ | ⟨h,_⟩ | ⟨a,ha,b,hb,_,hc,rfl⟩
     .exact ⟨(awp w h).2,gp.2.2.1 w h⟩
     .exact ⟨(awq w h).2,gq.2.2.1 w h⟩
     .exact Zrs (gp.2.2.1 a ha) (gq.2.2.1 b hb) (awp a ha).2 (awq b hb).2.2.2 hc
    have hm:∀ k∈M,(k.at_<=65534/\k.e.kind≠0/\Z0 k.e (-2)=true)/\InR k.at_/\ZK k.e:=by
     intro k hk'
     rcases T.of k hk' with ⟨h,_⟩ | ⟨h,_⟩ | ⟨a,ha,b,hb,_,hc,rfl⟩
     .exact ⟨⟨(akp k h).1.2.1,(akp k h).1.2.2,JY _ _ _ V2 (akp k h).2⟩,YU gp.2.2.2.1 h⟩
     .exact ⟨⟨(akq k h).1.2.1,(akq k h).1.2.2,JY _ _ _ V2 (akq k h).2⟩,YU gq.2.2.2.1 h⟩
     .have H:=hk a ha b hb
      have hc:(f a.e b.e).2=true:=hc
      exact ⟨⟨(akp a ha).1.2.1,H.kind (akp a ha).1.2.2 (akq b hb).1.2.2 hc,JY _ _ _ V2 (H.wk hc).r⟩,(YU gp.2.2.2.1 ha).1,(H.wk hc).g⟩
    refine ⟨fun _=> ⟨Zmc (Zbq S.asc_ fun w h=> (hw w h).1) (Zcj T.asc_ fun k h=> (hm k h).1),?_⟩,fun hK _=> ?_,fun _ _ _=> (show (2:Int)≠0 by decide),fun _ _ _ _ _ _ _ _=> .inr (.inl rfl)⟩
    .exact ⟨Jk V2 V2,JD,JD,fun w h=> (hw w h).2,Jk V2 V2,ZgL fun k h=> (hm k h).2,trivial⟩
    .have c1:=ZeA (fun _=> 1) _ _ _ _ (Qm _) (fun a _ b _ _=> by omega) hL
     have c2:=ZeA Z2o _ _ _ _ (Qm _) (fun a ha b hb hc=> by
      have H:=hk a ha b hb
      have hc:(f a.e b.e).2=true:=hc
      have:=H.ct hK hc
      rw [Z3T,Z3T,Z3T]
      show 65600+ctE (f a.e b.e).1<=_
      omega) hM
     rw [Z7o,Z7o,Z7o] at c1
     rw [Zbc,Zbc,Zbc] at c2
     have mo:=YY p.old;have mn:=YY p.new;have mo':=YY q.old;have mn':=YY q.new
     simp only [ctE,YN,ofO,QW,Z3o]
     omega
 .rw [if_neg p2]
  have p3:p.kind=3:=by have:=rp.kind;omega
  have q3:q.kind=3:=V0
  have hl:p.list=q.list:=V0
  have hli:=rp.list p3
  have op:=Jj wp.r
  have oq:=Jj wq.r
  unfold Z0J
  by_cases hb1:(Yo 1 2 p.ops q.ops []).2.1=true
  .rw [if_pos hb1]
   cases hc:Z0u f (Yo 1 2 p.ops q.ops []).1 with
   | none=> exact ⟨fun h=> (by cases h),fun _ h=> (by cases h),fun _ _ h=> (by cases h),fun _ _ _ _ _ h=> (by cases h)⟩
   | some ops=>
    obtain ⟨j1,j2,j3,j4⟩:=Ztm wp wq p3 hl ih rfl hb1 hc
    have ook:∀ o∈ops,0<=Z5 o:=fun o ho=> Z1L (Z6M (j1 o ho).1)
    have lA:=Z3w ops 0 ook V2 V2
    have lB:=Z3v ops 0 ook V2 V2
    have mA:=Z3w p.ops 0 (fun o ho=> Z1L (op o ho)) V2 V2
    have mB:=Z3v q.ops 0 (fun o ho=> Z1L (oq o ho)) V2 V2
    have t1:=rp.len.1
    have t2:=rq.len.2
    refine ⟨fun _=> ⟨?_,?_⟩,fun hK _=> ?_,fun _ _ _=> (show (3:Int)≠0 by decide),fun list h7 h9 _ _ _ hp' hq'=> ?_⟩
    .refine Zmb hli (Zci fun o ho=> (j1 o ho).1) ?_ ?_
     .rw [show ofO (some ops)=ops from rfl];omega
     .rw [show ofO (some ops)=ops from rfl];omega
    .refine ⟨Jk V2 V2,JD,JD,by simp,?_,trivial,ZgK fun o ho=> (j1 o ho).2⟩
     unfold InR;omega
    .have j4:=j4 hK;have mo:=YY p.old;have mn:=YY p.new;have mo':=YY q.old;have mn':=YY q.new
     simp only [ctE,Z0t,ofO,QW,Z3o,Qn]
     omega
    .rcases hp' with h | h | h
     .exact .inl h
     .omega
     .omega
  .rw [if_neg hb1]
   exact ⟨fun h=> (by cases h),fun _ h=> (by cases h),fun _ _ h=> (by cases h),fun _ _ _ _ _ h=> (by cases h)⟩
theorem Zxs:∀ (n:Nat) (p q:Edit),Zd p+Zd q<=n->Wk p->Wk q->ComWk True (Z9N n p q) p q:=by
 intro n
 induction n with
 | zero=> intro p q h;obtain ⟨k,o,nw,w,ks,l,os⟩:=p;simp only [Zd] at h;omega
 | succ n ih=>
  intro p q hn wp wq
  exact Zsx wp wq fun a b hab wa wb=> ih a b V0 wa wb
theorem Zmr:Z0 Edit.nil 1=true:=rfl
mutual
def utE:Edit->Nat
 | .mk _ o n w ks _ os=> 16+Zn o+Zn n+65600*w.length+Zzd ks+Zzb os
def Zzd:List (KidOf Edit)->Nat
 | []=> 0
 | k ::r=> Zze k+Zzd r
def Zze:KidOf Edit->Nat
 | ⟨_,e⟩=> 65600+utE e
def Zzb:List (OpOf Edit)->Nat
 | []=> 0
 | o ::r=> Zzc o+Zzb r
def Zzc:OpOf Edit->Nat
 | ⟨k,n,l,e⟩=> if k=3 then 16+utE e else 34*(n.toNat+l.length)+Zl l
end
def φU(o:Op):Int:=Zzc o
noncomputable section
noncomputable section
def Zqr:ArgL (Int × Unit):=(.cons (Yu .u8) .nil)
def Zh5(a:Int × Unit):Prop:=0<=a.1/\a.1 < 256
def ZtX(a:Int × Unit):V U:= .c (.int .u64 ((Z0Z (a.1).toNat 8:Nat):Int))
def ZbI:Fs U:=fs Zqr (fun a=> [Zh5 a]) ZtX
def Zu9(a:Tree × Unit):V U:= .c (.bool (decide (Tree.kind a.1≠10) && Z9 a.1 64))
def Z6G:Fs U:=fs Zr5 (fun a=> [Zcy a]) Zu9
def Zh4(a:Int × Tree × Unit):Prop:=Zn a.2.1<=18000000000/\rng a.2.1/\InR a.1
def ZtW(a:Int × Tree × Unit):V U:= .c (.bool (Z9 (Tree.mk a.1 [] [a.2.1]) 64))
def ZbF:Fs U:=fs ZqJ (fun a=> [Zh4 a]) ZtW
def Zqo:ArgL (Int × Edit × Unit):=(.cons (Yu .i64) (.cons (aEl .edit) .nil))
def Zl9(a:Int × Edit × Unit):Prop:=True
def ZtV(a:Int × Edit × Unit):V U:= .c (.bool (YC a.1 a.2.1))
def Z6C:Fs U:=fs Zqo (fun a=> [Zl9 a]) ZtV
def ZqG:ArgL (List WEdit × Unit):=(.cons (aSl .wedit) .nil)
def Zeq(a:List WEdit × Unit):Prop:=(a.1).length<=20000000000/\∀ x∈a.1,Z1j x
def Zu8(a:List WEdit × Unit):V U:= .c (.bool (Zp (-1) a.1))
def Z6F:Fs U:=fs ZqG (fun a=> [Zeq a]) Zu8
def ZfJ:Ze U:=lvl [([0],[]),([0,3],[]),([0,3,5],[]),([0,3,5,6],[]),([0,3,4,5],[]),([0,3,4,5,12],[]),([0,3,5],[]),([0,3,5],[]),([2],[])]
def Z1s(m x3 x5:Int):LSt U:=(L2 [(0,.c (.int .u8 m)),(3,.c (.int .u64 x3)),pI 5 x5] [])
abbrev W83(m:Int)(Q:QT):=AW (Z2 ZjE) Try.f83 ZfJ [] (L2 [(0,.c (.int .u8 m))] []) Q
abbrev Zkl:=awp cfg (Z2 ZjE) (ZV cfg (Z2 ZjE)) Try.f83.ntmps ZfJ
abbrev ZiH:=Zcb cfg (Z2 ZjE) (ZV cfg (Z2 ZjE)) Try.f83.ntmps ZfJ
theorem ZAu(m:Int)(Q:QT)(h:Zi (AW (Z2 ZjE) Try.f83 ZfJ [1,1,0,1,0,0]) (Z1s m 0 0) (xB 0 (SW (Z2 ZjE) Try.f83 ZfJ [1,1,1] Q))):
  W83 m Q:=by
 have e_:(W83 m Q)=(Zi (Zkl (cd Try.f83 [1,1,0,1,0,0])) (Z1s m 0 0) (xB 0 (ZiH (cd Try.f83 [1,1,1]) Q))):=V5
 exact e_.mpr h
abbrev Zra(m x3 x5:Int)(N0:NT)(Q:QT):=AW (Z2 ZjE) Try.f83 ZfJ [1,1,0,1,0,0] (Z1s m x3 x5) (xT N0 (xB 0 (SW (Z2 ZjE) Try.f83 ZfJ [1,1,1] Q)))
theorem ZrA(m x3 x5:Int)(N0:NT)(Q:QT)(h:((decide (x5 < 8))=true->((0:Int)<=x5)/\(((((IntKind.wrap .u8 (BitVec.ofInt (IntKind.bits .u8) (Int.fdiv m (2 ^ (min x5.toNat (IntKind.bits .u8)))) &&& BitVec.ofInt (IntKind.bits .u8) 1).toNat):Int)==1)=true->(InR ((8:Int)*x5))/\((0:Int)<=((8:Int)*x5))/\((InR (x5+1))/\(N0 (Z1s m (IntKind.wrap .u64 (BitVec.ofInt (IntKind.bits .u64) x3 ||| BitVec.ofInt (IntKind.bits .u64) (IntKind.wrap .u64 ((255:Int)*2 ^ (min (Int.toNat ((8:Int)*x5)) (IntKind.bits .u64))))).toNat) (x5+1)))))/\((((IntKind.wrap .u8 (BitVec.ofInt (IntKind.bits .u8) (Int.fdiv m (2 ^ (min x5.toNat (IntKind.bits .u8)))) &&& BitVec.ofInt (IntKind.bits .u8) 1).toNat):Int)==1)=false->(InR (x5+1))/\(N0 (Z1s m x3 (x5+1))))))/\((decide (x5 < 8))=false->Q .ret (L2 [(2,.c (.int .u64 x3))] []))):
  Zra m x3 x5 N0 Q:=by
 have e_:(Zra m x3 x5 N0 Q)=(let zz0:=(((IntKind.wrap .u8 (BitVec.ofInt (IntKind.bits .u8) (Int.fdiv m (2 ^ (min x5.toNat (IntKind.bits .u8)))) &&& BitVec.ofInt (IntKind.bits .u8) 1).toNat):Int)==1);(((decide ((x5:Int) < 8))=true->(((0:Int)<=x5)/\((zz0=true->(InR ((8:Int)*x5))/\((0:Int)<=((8:Int)*x5))/\((InR ((x5:Int)+1))/\(N0 (Z1s m (IntKind.wrap .u64 (BitVec.ofInt (IntKind.bits .u64) x3 ||| BitVec.ofInt (IntKind.bits .u64) (IntKind.wrap .u64 ((255:Int)*2 ^ (min (Int.toNat ((8:Int)*x5)) (IntKind.bits .u64))))).toNat) ((x5:Int)+1)))))/\(zz0=false->(InR ((x5:Int)+1))/\(N0 (Z1s m x3 ((x5:Int)+1)))))))/\((decide ((x5:Int) < 8))=false->(Q .ret (L2 [(2,.c (.int .u64 x3))] []))))):=V5
 exact e_.mpr ⟨fun c_1=> ⟨(h.1 c_1).1,⟨fun c_2=> ⟨((h.1 c_1).2.1 c_2).1,((h.1 c_1).2.1 c_2).2.1,⟨((h.1 c_1).2.1 c_2).2.2.1,((h.1 c_1).2.1 c_2).2.2.2⟩⟩,fun c_2=> ⟨((h.1 c_1).2.2 c_2).1,((h.1 c_1).2.2 c_2).2⟩⟩⟩,fun c_1=> (h.2 c_1)⟩
def ZxW(m:Int):Prop:=AW (Z2 ZjE) Try.f83 ZfJ [] (Zj (Zqr.can (m,())) []) (EQ Try.f83 (ZtX (m,())) [])
theorem ZvF(hb:∀ (m:Int) (_:Unit),Zh5 (m,())->ZxW m):CT 83 ZbI:=
 Z3 (l:=[]) Zk rfl trivial ZfJ Try.func83 rfl rfl 1 (fun _=> rfl) V2 (fun ⟨m,_⟩=> hb m ())
def Zpq:List (FuncId × Fs U):=[(83,ZbI)]
def ZwR:Ze U:=lvl [([0,1,2],[]),([6],[])]
abbrev W66(a b m:Int)(Q:QT):=AW (Z2 Zpq) Try.f66 ZwR [] (L2 [(0,.c (.int .u64 a)),(1,.c (.int .u64 b)),(2,.c (.int .u8 m))] []) Q
theorem ZAK(a b m:Int)(Q:QT)(h:(Zh5 (m,()))/\(Zh5 (m,()))/\(Q .ret (L2 [(6,.c (.int .u64 (IntKind.wrap .u64 (BitVec.ofInt (IntKind.bits .u64) (IntKind.wrap .u64 (BitVec.ofInt (IntKind.bits .u64) a &&& ~~~(BitVec.ofInt (IntKind.bits .u64) ((Z0Z m.toNat 8:Nat):Int))).toNat) ||| BitVec.ofInt (IntKind.bits .u64) (IntKind.wrap .u64 (BitVec.ofInt (IntKind.bits .u64) b &&& BitVec.ofInt (IntKind.bits .u64) ((Z0Z m.toNat 8:Nat):Int)).toNat)).toNat)))] []))):
  W66 a b m Q:=by
 have e_:(W66 a b m Q)=(type_of% h):=V5
 exact e_.mpr ⟨h.1,h.2.1,h.2.2⟩
def Zyc(a b m:Int):Prop:=AW (Z2 Zpq) Try.f66 ZwR [] (Zj (ZqP.can (a,b,m,())) []) (EQ Try.f66 (Zug (a,b,m,())) [])
theorem ZvS(c83:CT 83 ZbI)(hb:∀ (a:Int) (b:Int) (m:Int) (_:Unit),Zaq (a,b,m,())->Zyc a b m):CT 66 Z49:=
 Z3 (l:=[(83,ZbI)]) Zk rfl (⟨c83,trivial⟩) ZwR Try.func66 rfl rfl 3 (fun _=> rfl) V2 (fun ⟨a,b,m,_⟩=> hb a b m ())
def Zpw:List (FuncId × Fs U):=[(20,Z1Z)]
abbrev W55(t:Tree)(Q:QT):=AW (Z2 Zpw) Try.f55 Zxi [] (L2 [(0,.agg (enc .tree t))] []) Q
theorem ZAV(t:Tree)(Q:QT)(h:((t.kind !=10)=true->Zcy ((Tree.mk t.kind t.words t.kids),()))/\(Q .ret (L2 [pB 2 (bif (t.kind !=10) then (Z9 (Tree.mk t.kind t.words t.kids) 64) else false)] []))):
  W55 t Q:=by
 have e_:(W55 t Q)=((Tr ((t.kind !=10)=true))/\((t.kind !=10)=true->Zcy ((Tree.mk t.kind t.words t.kids),()))/\(Tr ((t.kind !=10)=true))/\(Q .ret (L2 [pB 2 (bif (t.kind !=10) then (Z9 (Tree.mk t.kind t.words t.kids) 64) else false)] []))):=V5
 exact e_.mpr ⟨id,h.1,(by generalize ((t.kind:Int) !=10)=b0;revert b0;decide),h.2⟩
def Zyn(t:Tree):Prop:=AW (Z2 Zpw) Try.f55 Zxi [] (Zj (Zr5.can (t,())) []) (EQ Try.f55 (Zu9 (t,())) [])
theorem ZvY(c20:CT 20 Z1Z)(hb:∀ (t:Tree) (_:Unit),Zcy (t,())->Zyn t):CT 55 Z6G:=
 Z3 (l:=[(20,Z1Z)]) Zk rfl (⟨c20,trivial⟩) Zxi Try.func55 rfl rfl 1 (fun _=> rfl) V2 (fun ⟨t,_⟩=> hb t ())
def ZwF:Ze U:=lvl [([0,3],[3]),([4],[])]
abbrev W87(list:Int)(t:Tree)(Q:QT):=AW (Z2 Zpw) Try.f87 ZwF [] (L2 [pI 0 list,(1,.agg (enc .tree t))] []) Q
theorem ZAq(list:Int)(t:Tree)(Q:QT)(h:(Zcy ((Tree.mk list [] ([(Tree.mk t.kind t.words t.kids)])),()))/\(Q .ret (L2 [(4,.c (.bool (Z9 (Tree.mk list [] ([(Tree.mk t.kind t.words t.kids)])) 64)))] []))):
  W87 list t Q:=by
 have e_:(W87 list t Q)=(type_of% h):=V5
 exact e_.mpr ⟨h.1,h.2⟩
def ZxS(list:Int)(t:Tree):Prop:=AW (Z2 Zpw) Try.f87 ZwF [] (Zj (ZqJ.can (list,t,())) []) (EQ Try.f87 (ZtW (list,t,())) [])
theorem ZvB(c20:CT 20 Z1Z)(hb:∀ (list:Int) (t:Tree) (_:Unit),Zh4 (list,t,())->ZxS list t):CT 87 ZbF:=
 Z3 (l:=[(20,Z1Z)]) Zk rfl (⟨c20,trivial⟩) ZwF Try.func87 rfl rfl 2 (fun _=> rfl) V2 (fun ⟨list,t,_⟩=> hb list t ())
def Zpc:List (FuncId × Fs U):=[(71,Z4Q)]
def ZwE:Ze U:=lvl [([0,3],[3]),([0,3,5],[3]),([4],[]),([3,13],[3]),([4],[]),([4],[])]
abbrev W88(list:Int)(e:Edit)(Q:QT):=AW (Z2 Zpc) Try.f88 ZwE [] (L2 [pI 0 list,(1,.agg (enc .edit e))] []) Q
theorem ZAp(list:Int)(e:Edit)(Q:QT)(h:(Zoq (list,()))/\(((bif (decide (2<=list/\list<=7)) then true else (e.kind==0))=true->Q .ret (L2 [pB 4 false] []))/\((bif (decide (2<=list/\list<=7)) then true else (e.kind==0))=false->((bif (list==8) then true else (e.kind==2))=true->Q .ret (L2 [pB 4 true] []))/\((bif (list==8) then true else (e.kind==2))=false->Q .ret (L2 [pB 4 (bif (bif (e.kind==1) then (e.old.kind==1) else false) then (e.new.kind==1) else false)] []))))):
  W88 list e Q:=by
 have e_:(W88 list e Q)=(let zz2:=(bif ((list:Int)==8) then true else (e.kind==2));let zz1:=(decide (2<=list/\list<=7));let zz0:=(bif (e.kind==1) then ((e.old.kind:Int)==1) else false);((Zoq (list,()))/\(Tr ((!zz1)=true))/\(Tr ((!zz1)=true))/\(zz1=false->(!zz1)=true)/\(((bif zz1 then true else (e.kind==0))=true->(Q .ret (L2 [pB 4 false] [])))/\((bif zz1 then true else (e.kind==0))=false->(Tr ((!((list:Int)==8))=true))/\(Tr ((!((list:Int)==8))=true))/\(((list:Int)==8)=false->(!((list:Int)==8))=true)/\((zz2=true->(Q .ret (L2 [pB 4 true] [])))/\(zz2=false->(Tr ((e.kind==1)=true))/\(Tr ((e.kind==1)=true))/\(Tr ((e.kind==1)=true))/\(Tr ((e.kind==1)=true))/\(Tr (zz0=true))/\(Tr (zz0=true))/\(Tr (zz0=true))/\(Tr (zz0=true))/\(Q .ret (L2 [pB 4 (bif zz0 then ((e.new.kind:Int)==1) else false)] [])))))))):=V5
 exact e_.mpr ⟨h.1,id,id,(by generalize (decide (2<=list/\list<=7))=b0;revert b0;decide),⟨fun c_3=> (h.2.1 c_3),fun c_3=> ⟨id,id,(by generalize ((list:Int)==8)=b0;revert b0;decide),⟨fun c_4=> ((h.2.2 c_3).1 c_4),fun c_4=> ⟨id,id,id,(by generalize ((e.kind:Int)==1)=b0;revert b0;decide),id,id,id,(by generalize ((e.old.kind:Int)==1)=b0;generalize ((e.kind:Int)==1)=b1;revert b0 b1;decide),((h.2.2 c_3).2 c_4)⟩⟩⟩⟩⟩
def ZxR(list:Int)(e:Edit):Prop:=AW (Z2 Zpc) Try.f88 ZwE [] (Zj (Zqo.can (list,e,())) []) (EQ Try.f88 (ZtV (list,e,())) [])
theorem ZvA(c71:CT 71 Z4Q)(hb:∀ (list:Int) (e:Edit) (_:Unit),Zl9 (list,e,())->ZxR list e):CT 88 Z6C:=
 Z3 (l:=[(71,Z4Q)]) Zk rfl (⟨c71,trivial⟩) ZwE Try.func88 rfl rfl 2 (fun _=> rfl) V2 (fun ⟨list,e,_⟩=> hb list e ())
def Z35:List (FuncId × Fs U):=[(66,Z49)]
def ZfO:Ze U:=lvl [([0],[]),([0,5,6,7],[]),([0,5,6,7,8],[]),([0,3,4,5,6,7],[4]),([0,4,5,6,7,39],[4]),([2],[]),([0,5,6,7,53],[]),([2],[]),([0,5,6,7],[]),([2],[])]
def Z3F(l:List WEdit)(x7:Int):LSt U:=(L2 [(0,.c (sU .wedit l .unk)),(5,.c (sU .wedit l .unk)),pI 6 (l.length:Int),pI 7 x7] [])
abbrev W56(l:List WEdit)(Q:QT):=AW (Z2 Z35) Try.f56 ZfO [] (L2 [(0,.c (sU .wedit l .unk))] []) Q
abbrev Zkq:=awp cfg (Z2 Z35) (ZV cfg (Z2 Z35)) Try.f56.ntmps ZfO
abbrev ZiM:=Zcb cfg (Z2 Z35) (ZV cfg (Z2 Z35)) Try.f56.ntmps ZfO
theorem ZAU(l:List WEdit)(Q:QT)(h:Zi (AW (Z2 Z35) Try.f56 ZfO [1,0,1,0,0]) (Z3F l 0) (xB 0 (SW (Z2 Z35) Try.f56 ZfO [1,1] Q))):
  W56 l Q:=by
 have e_:(W56 l Q)=(Zi (Zkq (cd Try.f56 [1,0,1,0,0])) (Z3F l 0) (xB 0 (ZiM (cd Try.f56 [1,1]) Q))):=V5
 exact e_.mpr h
abbrev Zrh(l:List WEdit)(x7:Int)(N0:NT)(Q:QT):=AW (Z2 Z35) Try.f56 ZfO [1,0,1,0,0] (Z3F l x7) (xT N0 (xB 0 (SW (Z2 Z35) Try.f56 ZfO [1,1] Q)))
theorem ZrO(l:List WEdit)(x7:Int)(N0:NT)(Q:QT)(h:∀ y_1,y_1=(l.getD x7.toNat (WEdit.mk 0 0 0 0))->∀ y_2,y_2=(List.getD l (Int.toNat (x7 - 1)) (WEdit.mk 0 0 0 0))->((decide (x7 < (l.length:Int)))=true->((0:Int)<=x7/\x7 < (l.length:Int))/\((((!(bif (decide (y_1.at_ < 0)) then true else (decide ((65535:Int)<=y_1.at_)))) && (decide ((0:Int) < x7)))=true->InR (x7 - 1))/\(((!(bif (decide (y_1.at_ < 0)) then true else (decide ((65535:Int)<=y_1.at_)))) && (decide ((0:Int) < x7)))=true->(0:Int)<=(x7 - 1)/\(x7 - 1) < (l.length:Int))/\(((bif (bif (bif (decide (y_1.at_ < 0)) then true else (decide ((65535:Int)<=y_1.at_))) then true else (bif (decide ((0:Int) < x7)) then (decide (y_1.at_<=y_2.at_)) else false)) then true else (y_1.mask==0))=true->Q .ret (L2 [pB 2 false] []))/\((bif (bif (bif (decide (y_1.at_ < 0)) then true else (decide ((65535:Int)<=y_1.at_))) then true else (bif (decide ((0:Int) < x7)) then (decide (y_1.at_<=y_2.at_)) else false)) then true else (y_1.mask==0))=false->(Zaq (y_1.old,0,y_1.mask,()))/\((!(((mix y_1.old 0 y_1.mask):Int) !=0))=true->Zaq (y_1.new,0,y_1.mask,()))/\(((bif (((mix y_1.old 0 y_1.mask):Int) !=0) then true else (((mix y_1.new 0 y_1.mask):Int) !=0))=true->Q .ret (L2 [pB 2 false] []))/\((bif (((mix y_1.old 0 y_1.mask):Int) !=0) then true else (((mix y_1.new 0 y_1.mask):Int) !=0))=false->(InR (x7+1))/\(N0 (Z3F l (x7+1)))))))))/\((decide (x7 < (l.length:Int)))=false->Q .ret (L2 [pB 2 true] []))):
  Zrh l x7 N0 Q:=by
 have e_:(Zrh l x7 N0 Q)=(let y_1:=(l.getD x7.toNat (WEdit.mk 0 0 0 0));let y_2:=(List.getD l (Int.toNat ((x7:Int) - 1)) (WEdit.mk 0 0 0 0));let zz5:=(((mix y_1.new 0 y_1.mask):Int) !=0);let zz4:=(decide (y_1.at_ < 0));let zz3:=(decide ((0:Int) < x7));let zz2:=(bif zz3 then (decide (y_1.at_<=y_2.at_)) else false);let zz1:=(((mix y_1.old 0 y_1.mask):Int) !=0);let zz0:=(bif zz4 then true else (decide ((65535:Int)<=y_1.at_)));(((decide ((x7:Int) < (l.length:Int)))=true->((0:Int)<=x7/\x7 < (l.length:Int))/\((Tr ((!zz4)=true))/\(Tr ((!zz4)=true))/\(zz4=false->(!zz4)=true)/\(Tr ((!zz0)=true))/\(Tr ((!zz0)=true))/\(Tr (((!zz0) && zz3)=true))/\(((!zz0) && zz3)=true->InR ((x7:Int) - 1))/\(Tr (((!zz0) && zz3)=true))/\(Tr (((!zz0) && zz3)=true))/\(((!zz0) && zz3)=true->(0:Int)<=((x7:Int) - 1)/\((x7:Int) - 1) < (l.length:Int))/\(Tr (((!zz0) && zz3)=true))/\(Tr (((!zz0) && zz3)=true))/\(Tr (((!zz0) && zz3)=true))/\(Tr (((!zz0) && zz3)=true))/\(Tr (((!zz0) && zz3)=true))/\((!zz0)=true->(True->(!zz0)=true))/\((!zz0)=true->(zz3=true->((!zz0) && zz3)=true))/\(zz0=false->(!zz0)=true)/\(Tr ((!(bif zz0 then true else zz2))=true))/\(Tr ((!(bif zz0 then true else zz2))=true))/\((bif zz0 then true else zz2)=false->(!(bif zz0 then true else zz2))=true)/\(((bif (bif zz0 then true else zz2) then true else (y_1.mask==0))=true->(Q .ret (L2 [pB 2 false] [])))/\((bif (bif zz0 then true else zz2) then true else (y_1.mask==0))=false->(Zaq (y_1.old,0,y_1.mask,()))/\(Tr ((!zz1)=true))/\(Tr ((!zz1)=true))/\(Tr ((!zz1)=true))/\(Tr ((!zz1)=true))/\((!zz1)=true->Zaq (y_1.new,0,y_1.mask,()))/\(Tr ((!zz1)=true))/\(zz1=false->(!zz1)=true)/\(((bif zz1 then true else zz5)=true->(Q .ret (L2 [pB 2 false] [])))/\((bif zz1 then true else zz5)=false->(InR ((x7:Int)+1))/\(N0 (Z3F l ((x7:Int)+1)))))))))/\((decide ((x7:Int) < (l.length:Int)))=false->(Q .ret (L2 [pB 2 true] []))))):=V5
 exact e_.mpr (by intro y_1 y_2;have hh:=h y_1 rfl y_2 rfl;exact ⟨fun c_5=> ⟨(hh.1 c_5).1,⟨id,id,(by generalize (decide ((y_1.at_:Int) < 0))=b0;revert b0;decide),id,id,id,(hh.1 c_5).2.1,id,id,(hh.1 c_5).2.2.1,id,id,id,id,id,(by generalize (decide ((65535:Int)<=y_1.at_))=b0;generalize (decide ((y_1.at_:Int) < 0))=b1;revert b0 b1;decide),(by generalize (decide ((65535:Int)<=y_1.at_))=b0;generalize (decide ((y_1.at_:Int) < 0))=b1;generalize (decide ((0:Int) < x7))=b2;revert b0 b1 b2;decide),(by generalize (decide ((65535:Int)<=y_1.at_))=b0;generalize (decide ((y_1.at_:Int) < 0))=b1;revert b0 b1;decide),id,id,(by generalize (decide ((y_1.at_:Int)<=y_2.at_))=b0;generalize (decide ((65535:Int)<=y_1.at_))=b1;generalize (decide ((y_1.at_:Int) < 0))=b2;generalize (decide ((0:Int) < x7))=b3;revert b0 b1 b2 b3;decide),⟨fun c_6=> ((hh.1 c_5).2.2.2.1 c_6),fun c_6=> ⟨((hh.1 c_5).2.2.2.2 c_6).1,id,id,id,id,((hh.1 c_5).2.2.2.2 c_6).2.1,id,(by generalize (((mix y_1.old 0 y_1.mask):Int) !=0)=b0;revert b0;decide),⟨fun c_7=> (((hh.1 c_5).2.2.2.2 c_6).2.2.1 c_7),fun c_7=> ⟨(((hh.1 c_5).2.2.2.2 c_6).2.2.2 c_7).1,(((hh.1 c_5).2.2.2.2 c_6).2.2.2 c_7).2⟩⟩⟩⟩⟩⟩,fun c_5=> (hh.2 c_5)⟩)
def Zym(l:List WEdit):Prop:=AW (Z2 Z35) Try.f56 ZfO [] (Zj (ZqG.can (l,())) []) (EQ Try.f56 (Zu8 (l,())) [])
theorem ZvX(c66:CT 66 Z49)(hb:∀ (l:List WEdit) (_:Unit),Zeq (l,())->Zym l):CT 56 Z6F:=
 Z3 (l:=[(66,Z49)]) Zk rfl (⟨c66,trivial⟩) ZfO Try.func56 rfl rfl 1 (fun _=> rfl) V2 (fun ⟨l,_⟩=> hb l ())
end
end
theorem Zqh:∀ n:Fin 256,∀ i:Fin 8,IntKind.wrap .u8 (BitVec.ofInt (IntKind.bits .u8) (Int.fdiv (n.1:Int) (2 ^ (min (Int.toNat (i.1:Int)) (IntKind.bits .u8)))) &&& BitVec.ofInt (IntKind.bits .u8) 1).toNat=((n.1 / 2 ^ i.1 % 2:Nat):Int):=by decide+kernel
theorem ZsH:∀ n:Fin 256,∀ i:Fin 8,IntKind.wrap .u64 (BitVec.ofInt (IntKind.bits .u64) ((Z0Z n.1 i.1:Nat):Int) ||| BitVec.ofInt (IntKind.bits .u64) (IntKind.wrap .u64 (255*2 ^ (min (Int.toNat (8*(i.1:Int))) (IntKind.bits .u64))))).toNat=((Z0Z n.1 i.1+255*2 ^ (8*i.1):Nat):Int):=by decide+kernel
theorem c83:Contract Try.prog cfg 83 ZbI:=by
 refine ZvF ?_
 intro m _ hp
 simp only [Zh5] at hp
 obtain ⟨n,rfl⟩:=X7 hp.1
 have hn:n < 256:=V0
 refine ZAu _ _ ?_
 refine Zb (ι:=Nat) (fun i=> Z1s n ((Z0Z n i:Nat):Int) i) (fun i=> i<=8) (fun i=> 8 - i) 0 rfl V0 ?_
 intro i hi
 refine ZrA _ _ _ _ _ ?_
 (simp only [iB,vcS])
 refine ⟨fun hc=> ⟨V0,fun hq=> ⟨V4,V0,V4,i+1,?_,V0,V0⟩,fun hq=> ⟨V4,i+1,?_,V0,V0⟩⟩,fun hc=> ?_⟩
 .have h1:=Zqh ⟨n,hn⟩ ⟨i,V0⟩
  have h2:=ZsH ⟨n,hn⟩ ⟨i,V0⟩
  simp only at h1 h2
  rw [h1] at hq
  rw [h2]
  have e:Z0Z n (i+1)=Z0Z n i+255*2 ^ (8*i):=by simp only [Z0Z];rw [V1]
  rw [e]
  try rfl
 .have h1:=Zqh ⟨n,hn⟩ ⟨i,V0⟩
  simp only at h1
  rw [h1] at hq
  have e:Z0Z n (i+1)=Z0Z n i:=by simp only [Z0Z];rw [JI];omega
  rw [e]
  try rfl
 .have:i=8:=V0
  subst this
  exact Ym rfl rfl
theorem Z1U(a:Nat)(h:a < 2 ^ 64):(BitVec.ofInt 64 (a:Int)).toNat=a:=by
 rw [BitVec.toNat_ofInt]
 omega
theorem c66:Contract Try.prog cfg 66 Z49:=by
 refine ZvS c83 ?_
 intro a b m _ hp
 simp only [Zaq] at hp
 obtain ⟨⟨a0,a1⟩,⟨b0,b1⟩,m0,m1⟩:=hp
 obtain ⟨x,rfl⟩:=X7 a0
 obtain ⟨y,rfl⟩:=X7 b0
 obtain ⟨n,rfl⟩:=X7 m0
 have hn:n < 256:=V0
 have hx:x < 2 ^ 64:=V0
 have hy:y < 2 ^ 64:=V0
 have hw:=Zru ⟨n,hn⟩
 have hw2:=Zkx ⟨n,hn⟩
 simp only at hw hw2
 rw [<-hw2] at hw
 refine ZAK _ _ _ _ ?_
 refine ⟨⟨m0,m1⟩,⟨m0,m1⟩,Ym rfl ?_⟩
 have em:mix x y n=(((x &&& (2 ^ 64 - 1 - Z0Z n 8)) ||| (y &&& Z0Z n 8):Nat):Int):=by rw [<-ZoL,<-ZoK x y n hn]
 have e1:(BitVec.ofInt 64 (x:Int) &&& ~~~(BitVec.ofInt 64 ((Z0Z n 8:Nat):Int))).toNat=x &&& (2 ^ 64 - 1 - Z0Z n 8):=by
  rw [Kb,BitVec.toNat_not,Z1U x hx,Z1U _ hw]
 have e2:(BitVec.ofInt 64 (y:Int) &&& BitVec.ofInt 64 ((Z0Z n 8:Nat):Int)).toNat=y &&& Z0Z n 8:=by
  rw [Kb,Z1U y hy,Z1U _ hw]
 have l1:x &&& (2 ^ 64 - 1 - Z0Z n 8) < 2 ^ 64:=Nat.lt_of_le_of_lt Nat.and_le_left hx
 have l2:y &&& Z0Z n 8 < 2 ^ 64:=Nat.lt_of_le_of_lt Nat.and_le_left hy
 have l3:(x &&& (2 ^ 64 - 1 - Z0Z n 8)) ||| (y &&& Z0Z n 8) < 2 ^ 64:=Nat.or_lt_two_pow l1 l2
 have key:IntKind.wrap .u64 ((BitVec.ofInt 64 (IntKind.wrap .u64 ((BitVec.ofInt 64 (x:Int) &&& ~~~(BitVec.ofInt 64 ((Z0Z n 8:Nat):Int))).toNat:Int)) ||| BitVec.ofInt 64 (IntKind.wrap .u64 ((BitVec.ofInt 64 (y:Int) &&& BitVec.ofInt 64 ((Z0Z n 8:Nat):Int)).toNat:Int))).toNat:Int)=mix x y n:=by
  have w1:∀ k:Nat,k < 2 ^ 64->IntKind.wrap .u64 (k:Int)=k:=fun k hk=> Z4N V0 V0
  rw [e1,e2,w1 _ l1,w1 _ l2,BitVec.toNat_or,Z1U _ l1,Z1U _ l2,w1 _ l3,em]
 exact key
theorem c55:Contract Try.prog cfg 55 Z6G:=by
 refine ZvY c20 ?_
 intro t _ hp
 refine ZAV _ _ ?_
 (simp only [Tree.eta,Edit.eta,Tree.kind_mk,Tree.words_mk,Tree.kids_mk])
 refine ⟨fun _=> hp,Z4 rfl ?_⟩
 rw [Qk]
 (simp only [iB,vcS])
theorem c87:Contract Try.prog cfg 87 ZbF:=by
 refine ZvB c20 ?_
 intro list t _ hp
 simp only [Zh4] at hp
 refine ZAq _ _ _ ?_
 (simp only [Tree.eta,Edit.eta,Tree.kind_mk,Tree.words_mk,Tree.kids_mk])
 refine ⟨⟨?_,?_⟩,Y6⟩
 .simp only [Zn,Zl,Qn];omega
 .simp only [rng,Yg]
  have hi:=hp.2.2
  unfold InR at hi
  exact ⟨hi,by simp,hp.2.1,trivial⟩
theorem c88:Contract Try.prog cfg 88 Z6C:=by
 refine ZvA c71 ?_
 intro list e _ hp
 refine ZAp _ _ _ ?_
 (simp only [iB,vcS])
 refine ⟨trivial,fun h=> ?_,fun h=> ⟨fun h2=> ?_,fun h2=> ?_⟩⟩
 .exact Z4 rfl (by show false=YC list e;unfold YC;rw [if_pos h])
 .exact Z4 rfl (by show true=YC list e;unfold YC;rw [JI,if_pos h2])
 .refine Z4 rfl ?_
  show _=YC list e
  unfold YC
  rw [JI,JI,Qk]
  (simp only [iB,vcS])
  omega
theorem Zf2(last:Int)(w:WEdit)(r:List WEdit):Zp last (w ::r)=(decide (last < w.at_/\w.at_<=65534/\w.mask≠0) && ZM w.old w.mask && ZM w.new w.mask && Zp w.at_ r):=rfl
theorem c56:Contract Try.prog cfg 56 Z6F:=by
 refine ZvX c66 ?_
 intro l _ hp
 simp only [Zeq] at hp
 refine ZAU _ _ ?_
 refine Zb (ι:=Int) (fun i=> Z3F l i) (fun i=> 0<=i/\i<=l.length/\(i≠0->0<=(l.getD (i - 1).toNat (WEdit.mk 0 0 0 0)).at_)/\Zp (if i=0 then -1 else (l.getD (i - 1).toNat (WEdit.mk 0 0 0 0)).at_) (l.drop i.toNat)=Zp (-1) l) (fun i=> ((l.length:Int) - i).toNat) 0 rfl ⟨V0,V0,by simp,by simp⟩ ?_
 rintro i ⟨h1,h2,hpos,h3⟩
 refine ZrO _ _ _ _ ?_
 rintro y1 hy1 y2 hy2
 (simp only [iB,vcS])
 refine ⟨fun hi=> ?_,fun hi=> ?_⟩
 .have hm:=hp.2 _ (Zh (l:=l) (i:=i.toNat) V0 (WEdit.mk 0 0 0 0))
  rw [YB h1 hi (WEdit.mk 0 0 0 0),Zf2] at h3
  rw [<-hy1] at h3 hm
  rw [<-hy2] at h3 hpos
  obtain ⟨r1,r2,r3,r4⟩:=hm
  unfold isW at r3 r4
  have hw:∀ x:Int,ZM x y1.mask=decide (mix x 0 y1.mask=0):=fun x=> rfl
  refine ⟨⟨h1,hi⟩,fun _=> by unfold InR;omega,fun _=> ⟨V0,V0⟩,fun hq=> ?_,fun hq=> ⟨⟨r3,V3,r2⟩,fun _=> ⟨r4,V3,r2⟩,fun hz=> ?_,fun hz=> ⟨V4,i+1,rfl,⟨V0,V0,fun _=> by rw [show i+1 - 1=i by omega,<-hy1];omega,?_⟩,V0⟩⟩⟩
  .refine Z4 rfl ?_
   show false=Zp (-1) l
   rw [<-h3,decide_eq_false]
   .try rfl
   .split <;> omega
  .refine Z4 rfl ?_
   show false=Zp (-1) l
   rw [<-h3,hw,hw]
   rcases hz with hz | hz
   .rw [decide_eq_false hz];simp
   .rw [decide_eq_false hz];simp
  .rw [JI,show i+1 - 1=i by omega,<-hy1,<-h3,hw,hw,decide_eq_true hz.1,decide_eq_true hz.2,decide_eq_true]
   .simp
   .split <;> omega
 .rw [Q8 V0] at h3
  exact Z4 rfl (by show true=Zp (-1) l;rw [<-h3];rfl)
end Go.AM.Ytfapacabjkhepaa
namespace Go.AM
def wr(n:Int):Int:=IntKind.wrap .i64 n
def Z17(o:Op):Int:=if o.kind=3 then 1 else wr (o.n+o.l.length)
def Zg3(n:Int):Int:=if 1048576 < n then 1048576 else n
def Z1p:List Op->Int->Int
 | [],n=> n
 | o ::r,n=> Z1p r (if o.kind=2 then n else Zg3 (wr (n+Z17 o)))
def Z1E:List Op->Int->Int
 | [],n=> n
 | o ::r,n=> Z1E r (if o.kind=1 then n else Zg3 (wr (n+Z17 o)))
def Z1u(e:Edit):Bool:=
 if (e.kind≠1/\¬(ZR e.old=true/\ZR e.new=true))\/(e.kind≠2/\¬(e.words.length=0/\e.kids.length=0))\/(e.kind≠3/\(e.list≠0\/e.ops.length≠0)) then false else true
end Go.AM
namespace Go.AM.Ytfapacabjkhepaa
open Go.AM Go.Proofs
noncomputable section
def Zu0(a:Edit × Unit):V U:= .tup [(false,[ci (Z1p a.1.ops 0)]),(false,[ci (Z1E a.1.ops 0)])]
def Z6E:Fs U:=fs ZqO (fun a=> [Zcu a]) Zu0
def JB:Ze U:=lvl [([1],[1]),([1,4,5],[1]),([4,5,10,11,12],[]),([4,5,10,11,12,13],[]),([4,5,7,10,11,12],[7]),([4,5,7,8,10,11,12],[7]),([4,5,7,8,10,11,12,24],[7]),([4,5,7,8,10,11,12,24],[7]),([4,5,7,8,10,11,12,27],[7]),([4,5,7,8,10,11,12,27],[7]),([4,5,8,10,11,12,34],[]),([4,5,10,11,12],[]),([4,5,10,11,12],[]),([2,3],[])]
def Z0s(e:Edit)(x4 x5 x12:Int):LSt U:=(L2 [pI 4 x4,pI 5 x5,(10,.c (sU .op e.ops .unk)),pI 11 (e.ops.length:Int),pI 12 x12] [])
def Z5x(e:Edit)(x4 x5 x12 x8_a:Int):LSt U:=(L2 [pI 4 x4,pI 5 x5,pL 7,pI 8 x8_a,(10,.c (sU .op e.ops .unk)),pI 11 (e.ops.length:Int),pI 12 x12,(24,.c (.bool (((OpOf.kind (e.ops.getD x12.toNat Op.nil)):Int)==3)))] [(.loc 7,(enc .op (e.ops.getD x12.toNat Op.nil)))])
def Z5w(e:Edit)(x5 x12 x8_a x4_b:Int):LSt U:=(L2 [pI 4 x4_b,pI 5 x5,pL 7,pI 8 x8_a,(10,.c (sU .op e.ops .unk)),pI 11 (e.ops.length:Int),pI 12 x12,(27,.c (.bool (((OpOf.kind (e.ops.getD x12.toNat Op.nil)):Int) !=2)))] [(.loc 7,(enc .op (e.ops.getD x12.toNat Op.nil)))])
abbrev W75(e:Edit)(Q:QT):=AW (Yi ZjE) Try.f75 JB [] (L2 [(0,.agg (enc .edit e))] []) Q
theorem ZAB(e:Edit)(Q:QT)(h:Zi (AW (Yi ZjE) Try.f75 JB [1,1,0,1,0,0]) (Z0s e 0 0 0) (xB 0 (SW (Yi ZjE) Try.f75 JB [1,1,1] Q))):
  W75 e Q:=by
 have e_:(W75 e Q)=(Zi (AW (Yi ZjE) Try.f75 JB [1,1,0,1,0,0]) (Z0s e 0 0 0) (xB 0 (SW (Yi ZjE) Try.f75 JB [1,1,1] Q))):=V5
 exact e_.mpr h
abbrev Zrc(e:Edit)(x4 x5 x12:Int)(N0:NT)(Q:QT):=AW (Yi ZjE) Try.f75 JB [1,1,0,1,0,0] (Z0s e x4 x5 x12) (xT N0 (xB 0 (SW (Yi ZjE) Try.f75 JB [1,1,1] Q)))
theorem ZrD(e:Edit)(x4 x5 x12:Int)(N0:NT)(Q:QT)(h:((decide (x12 < (e.ops.length:Int)))=true->((0:Int)<=x12/\x12 < (e.ops.length:Int))/\(((((OpOf.kind (e.ops.getD x12.toNat Op.nil)):Int)==3)=true->AW (Yi ZjE) Try.f75 JB [1,1,0,1,0,0,1,1,0,0,1,1,1] (Z5x e x4 x5 x12 1) (xB 1 (SW (Yi ZjE) Try.f75 JB [1,1,0,1,0,0,1,1,1] (xT N0 (xB 0 (SW (Yi ZjE) Try.f75 JB [1,1,1] Q))))))/\((((OpOf.kind (e.ops.getD x12.toNat Op.nil)):Int)==3)=false->AW (Yi ZjE) Try.f75 JB [1,1,0,1,0,0,1,1,0,0,1,1,1] (Z5x e x4 x5 x12 (IntKind.wrap .i64 (((OpOf.n (e.ops.getD x12.toNat Op.nil)):Int)+((OpOf.l (e.ops.getD x12.toNat Op.nil)).length:Int)))) (xB 1 (SW (Yi ZjE) Try.f75 JB [1,1,0,1,0,0,1,1,1] (xT N0 (xB 0 (SW (Yi ZjE) Try.f75 JB [1,1,1] Q))))))))/\((decide (x12 < (e.ops.length:Int)))=false->Q .ret (L2 [pI 2 x4,pI 3 x5] []))):
  Zrc e x4 x5 x12 N0 Q:=by
 have e_:(Zrc e x4 x5 x12 N0 Q)=(let zz0:=(((OpOf.kind (e.ops.getD x12.toNat Op.nil)):Int)==3);(((decide ((x12:Int) < (e.ops.length:Int)))=true->((0:Int)<=x12/\x12 < (e.ops.length:Int))/\((zz0=true->(AW (Yi ZjE) Try.f75 JB [1,1,0,1,0,0,1,1,0,0,1,1,1] (Z5x e x4 x5 x12 1) (xB 1 (SW (Yi ZjE) Try.f75 JB [1,1,0,1,0,0,1,1,1] (xT N0 (xB 0 (SW (Yi ZjE) Try.f75 JB [1,1,1] Q)))))))/\(zz0=false->AW (Yi ZjE) Try.f75 JB [1,1,0,1,0,0,1,1,0,0,1,1,1] (Z5x e x4 x5 x12 (IntKind.wrap .i64 (((OpOf.n (e.ops.getD x12.toNat Op.nil)):Int)+((OpOf.l (e.ops.getD x12.toNat Op.nil)).length:Int)))) (xB 1 (SW (Yi ZjE) Try.f75 JB [1,1,0,1,0,0,1,1,1] (xT N0 (xB 0 (SW (Yi ZjE) Try.f75 JB [1,1,1] Q))))))))/\((decide ((x12:Int) < (e.ops.length:Int)))=false->(Q .ret (L2 [pI 2 x4,pI 3 x5] []))))):=V5
 exact e_.mpr ⟨fun c_1=> ⟨(h.1 c_1).1,⟨fun c_2=> ((h.1 c_1).2.1 c_2),fun c_2=> ((h.1 c_1).2.2 c_2)⟩⟩,fun c_1=> (h.2 c_1)⟩
abbrev Zkt(e:Edit)(x4 x5 x12 x8_a:Int)(N0:NT)(Q:QT):=AW (Yi ZjE) Try.f75 JB [1,1,0,1,0,0,1,1,0,0,1,1,1] (Z5x e x4 x5 x12 x8_a) (xB 1 (SW (Yi ZjE) Try.f75 JB [1,1,0,1,0,0,1,1,1] (xT N0 (xB 0 (SW (Yi ZjE) Try.f75 JB [1,1,1] Q)))))
theorem ZrF(e:Edit)(x4 x5 x12 x8_a:Int)(N0:NT)(Q:QT)(h:((((OpOf.kind (e.ops.getD x12.toNat Op.nil)):Int) !=2)=true->AW (Yi ZjE) Try.f75 JB [1,1,0,1,0,0,1,1,0,0,1,1,1,1] (Z5w e x5 x12 x8_a (if (1048576:Int) < (IntKind.wrap .i64 (x4+x8_a)) then 1048576 else (IntKind.wrap .i64 (x4+x8_a)))) (xB 1 (SW (Yi ZjE) Try.f75 JB [1,1,0,1,0,0,1,1,1] (xT N0 (xB 0 (SW (Yi ZjE) Try.f75 JB [1,1,1] Q))))))/\((((OpOf.kind (e.ops.getD x12.toNat Op.nil)):Int) !=2)=false->AW (Yi ZjE) Try.f75 JB [1,1,0,1,0,0,1,1,0,0,1,1,1,1] (Z5w e x5 x12 x8_a x4) (xB 1 (SW (Yi ZjE) Try.f75 JB [1,1,0,1,0,0,1,1,1] (xT N0 (xB 0 (SW (Yi ZjE) Try.f75 JB [1,1,1] Q))))))):
  Zkt e x4 x5 x12 x8_a N0 Q:=by
 have e_:(Zkt e x4 x5 x12 x8_a N0 Q)=(let zz0:=(((OpOf.kind (e.ops.getD x12.toNat Op.nil)):Int) !=2);((zz0=true->(AW (Yi ZjE) Try.f75 JB [1,1,0,1,0,0,1,1,0,0,1,1,1,1] (Z5w e x5 x12 x8_a (if (1048576:Int) < (IntKind.wrap .i64 ((x4:Int)+x8_a)) then 1048576 else (IntKind.wrap .i64 ((x4:Int)+x8_a)))) (xB 1 (SW (Yi ZjE) Try.f75 JB [1,1,0,1,0,0,1,1,1] (xT N0 (xB 0 (SW (Yi ZjE) Try.f75 JB [1,1,1] Q)))))))/\(zz0=false->AW (Yi ZjE) Try.f75 JB [1,1,0,1,0,0,1,1,0,0,1,1,1,1] (Z5w e x5 x12 x8_a x4) (xB 1 (SW (Yi ZjE) Try.f75 JB [1,1,0,1,0,0,1,1,1] (xT N0 (xB 0 (SW (Yi ZjE) Try.f75 JB [1,1,1] Q)))))))):=V5
 exact e_.mpr ⟨fun c_3=> (h.1 c_3),fun c_3=> (h.2 c_3)⟩
abbrev Zks(e:Edit)(x5 x12 x8_a x4_b:Int)(N0:NT)(Q:QT):=AW (Yi ZjE) Try.f75 JB [1,1,0,1,0,0,1,1,0,0,1,1,1,1] (Z5w e x5 x12 x8_a x4_b) (xB 1 (SW (Yi ZjE) Try.f75 JB [1,1,0,1,0,0,1,1,1] (xT N0 (xB 0 (SW (Yi ZjE) Try.f75 JB [1,1,1] Q)))))
theorem ZrE(e:Edit)(x5 x12 x8_a x4_b:Int)(N0:NT)(Q:QT)(h:((((OpOf.kind (e.ops.getD x12.toNat Op.nil)):Int) !=1)=true->N0 (Z0s e x4_b (if (1048576:Int) < (IntKind.wrap .i64 (x5+x8_a)) then 1048576 else (IntKind.wrap .i64 (x5+x8_a))) (IntKind.wrap .i64 (x12+1))))/\((((OpOf.kind (e.ops.getD x12.toNat Op.nil)):Int) !=1)=false->N0 (Z0s e x4_b x5 (IntKind.wrap .i64 (x12+1))))):
  Zks e x5 x12 x8_a x4_b N0 Q:=by
 have e_:(Zks e x5 x12 x8_a x4_b N0 Q)=(((((OpOf.kind (e.ops.getD x12.toNat Op.nil)):Int) !=1)=true->(N0 (Z0s e x4_b (if (1048576:Int) < (IntKind.wrap .i64 ((x5:Int)+x8_a)) then 1048576 else (IntKind.wrap .i64 ((x5:Int)+x8_a))) (IntKind.wrap .i64 ((x12:Int)+1)))))/\((((OpOf.kind (e.ops.getD x12.toNat Op.nil)):Int) !=1)=false->(N0 (Z0s e x4_b x5 (IntKind.wrap .i64 ((x12:Int)+1)))))):=V5
 exact e_.mpr ⟨fun c_4=> (h.1 c_4),fun c_4=> (h.2 c_4)⟩
def Zy3(e:Edit):Prop:=AW (Yi ZjE) Try.f75 JB [] (Zj (ZqO.can (e,())) []) (EQ Try.f75 (Zu0 (e,())) [])
theorem ZvK(hb:∀ (e:Edit) (_:Unit),Zcu (e,())->Zy3 e):CT 75 Z6E:=
 Zdf (l:=[]) Zk rfl trivial JB Try.func75 rfl rfl 1 (fun _=> rfl) V2 (fun ⟨e,_⟩=> hb e ())
end
end Go.AM.Ytfapacabjkhepaa
