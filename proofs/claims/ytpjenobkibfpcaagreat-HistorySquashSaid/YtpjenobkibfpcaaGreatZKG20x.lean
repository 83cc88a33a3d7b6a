import Derived.Test.YtpjenobkibfpcaaGreatZCD25
import Derived.Test.YtpjenobkibfpcaaGreatZKM07
set_option linter.unusedSimpArgs false
set_option linter.unusedVariables false
namespace Go.AM.YtpjenobkibfpcaaGreat
open Go.AM Go.Proofs
theorem JI{o:Op}{r:List Op}{s d:List Tree}(h0:o.kind=0):Run (o ::r) s d↔∃ a u d',s=a++u/\d=a++d'/\(a.length:Int)=o.n/\Run r u d':=by
 constructor
 .intro h
  cases h with
  | keep _ h2 h3=> grind
  | gone h1=> omega
  | come h1=> omega
  | into h1=> omega
 .rintro ⟨a,u,d',rfl,rfl,h2,h3⟩
  exact .keep h0 h2 h3
theorem ZV{o:Op}{r:List Op}{s d:List Tree}(h0:o.kind=1):Run (o ::r) s d↔∃ a u,s=a++u/\Z6 o.l=Z6 a/\Run r u d:=by
 constructor
 .intro h
  cases h with
  | gone _ h2 h3=> grind
  | keep h1=> omega
  | come h1=> omega
  | into h1=> omega
 .rintro ⟨a,u,rfl,h2,h3⟩
  exact .gone h0 h2 h3
theorem ZY{o:Op}{r:List Op}{s d:List Tree}(h0:o.kind=2):Run (o ::r) s d↔∃ d',d=o.l++d'/\Run r s d':=by
 constructor
 .intro h
  cases h with
  | come _ u=> grind
  | keep h1=> omega
  | gone h1=> omega
  | into h1=> omega
 .rintro ⟨d',rfl,u⟩
  exact .come h0 u
theorem Jw{o:Op}{r:List Op}{s d:List Tree}(h0:o.kind=3):Run (o ::r) s d↔∃ x u y d',s=x ::u/\d=y ::d'/\doE false o.e x=some y/\Run r u d':=by
 constructor
 .intro h
  cases h with
  | into _ h2 h3=> grind
  | keep h1=> omega
  | gone h1=> omega
  | come h1=> omega
 .rintro ⟨x,u,y,d',rfl,rfl,h2,h3⟩
  exact .into h0 h2 h3
theorem Z1f{o:Op}{p r:List Op}(h:∀ s d,Run p s d↔Run r s d)(hk:kOk o)(s d:List Tree):Run (o ::p) s d↔Run (o ::r) s d:=by
 rcases hk with h0 | h1 | h2 | h3
 .rw [JI h0.1,JI h0.1];simp only [h]
 .rw [ZV h1,ZV h1];simp only [h]
 .rw [ZY h2,ZY h2];simp only [h]
 .rw [Jw h3,Jw h3];simp only [h]
theorem ZH{o:Op}(h:ZX o):kOk o:=by
 rcases h with h | h | h
 .exact .inl ⟨h.1,JX⟩
 .rcases h.1 with h1 | h1
  .exact .inr (.inl h1)
  .exact .inr (.inr (.inl h1))
 .exact .inr (.inr (.inr h.1))
theorem Z7G{o:Op}(h:ZX o)(h0:o.kind=0):Z4 o=o.n:=by
 rcases h with h | h | h
 .unfold Z4;rw [J3,h.2.1];simp
 .omega
 .omega
theorem Yq{o:Op}(h:ZX o)(h0:o.kind=1\/o.kind=2):Z4 o=o.l.length:=by
 rcases h with h | h | h
 .omega
 .unfold Z4;omega
 .omega
theorem J0{o:Op}(h0:o.kind=3):Z4 o=1:=by unfold Z4;rw [if_pos h0]
theorem Zjp{o:Op}{r:List Op}{s m:List Tree}(ho:ZX o)(hk:o.kind≠1)(h:Run (o ::r) s m):∃ m1 u m',m=m1++m'/\(m1.length:Int)=Z4 o/\Run r u m':=by
 rcases ZH ho with h0 | h1 | h2 | h3
 .obtain ⟨a,u,d',_,rfl,hl,hr⟩:=(JI h0.1).1 h
  exact ⟨a,u,d',rfl,by rw [Z7G ho h0.1];exact hl,hr⟩
 .omega
 .obtain ⟨d',rfl,hr⟩:=(ZY h2).1 h
  exact ⟨o.l,s,d',rfl,by rw [Yq ho (.inr h2)],hr⟩
 .obtain ⟨x,u,y,d',_,rfl,_,hr⟩:=(Jw h3).1 h
  exact ⟨[y],u,d',rfl,by rw [J0 h3];rfl,hr⟩
theorem Z5B{o:Op}{r:List Op}{m d:List Tree}(ho:ZX o)(hk:o.kind≠2)(h:Run (o ::r) m d):∃ m1 m' d',m=m1++m'/\(m1.length:Int)=Z4 o/\Run r m' d':=by
 rcases ZH ho with h0 | h1 | h2 | h3
 .obtain ⟨a,s,d',rfl,_,hl,u⟩:=(JI h0.1).1 h
  exact ⟨a,s,d',rfl,by rw [Z7G ho h0.1];exact hl,u⟩
 .obtain ⟨a,s,rfl,hn,u⟩:=(ZV h1).1 h
  exact ⟨a,s,d,rfl,by rw [Yq ho (.inl h1),Z3d hn],u⟩
 .omega
 .obtain ⟨x,s,y,d',rfl,_,_,u⟩:=(Jw h3).1 h
  exact ⟨[x],s,d',rfl,by rw [J0 h3];rfl,u⟩
theorem Ztf{o:Op}{r:List Op}{n:Int}(ho:ZX o)(h1:1<=n)(hn:¬Z4 o<=n)(s d:List Tree):Run (o ::r) s d↔Run (ZB o n ::Jt o n ::r) s d:=by
 unfold ZB Jt
 rw [if_neg hn]
 rcases ZH ho with h0 | hg | hc | hi
 .have hl:=Z7G ho h0.1
  rw [if_pos h0.1,if_pos h0.1,JI h0.1,JI (o:=⟨o.kind,n,o.l,o.e⟩) h0.1]
  constructor
  .rintro ⟨a,s',d',rfl,rfl,ha,h⟩
   refine ⟨a.take n.toNat,a.drop n.toNat++s',a.drop n.toNat++d',by rw [<-Qo,Qx],by rw [<-Qo,Qx],by grind,?_⟩
   exact (JI (o:=⟨o.kind,o.n - n,o.l,o.e⟩) h0.1).2 ⟨a.drop n.toNat,s',d',rfl,rfl,by grind,h⟩
  .rintro ⟨a,s',d',rfl,rfl,ha,h⟩
   obtain ⟨b,s2,d2,rfl,rfl,hb,u⟩:=(JI (o:=⟨o.kind,o.n - n,o.l,o.e⟩) h0.1).1 h
   grind
 .have hl:=Yq ho (.inl hg)
  rw [J3,J3,ZV hg,ZV (o:=⟨o.kind,o.n,o.l.take n.toNat,o.e⟩) hg]
  constructor
  .rintro ⟨a,s',rfl,ha,h⟩
   have aj:=Z3d ha
   refine ⟨a.take n.toNat,a.drop n.toNat++s',by rw [<-Qo,Qx],EqvL.take ha _,?_⟩
   exact (ZV (o:=⟨o.kind,o.n,o.l.drop n.toNat,o.e⟩) hg).2 ⟨a.drop n.toNat,s',rfl,EqvL.drop ha _,h⟩
  .rintro ⟨a,s',rfl,ha,h⟩
   obtain ⟨b,s2,rfl,hb,u⟩:=(ZV (o:=⟨o.kind,o.n,o.l.drop n.toNat,o.e⟩) hg).1 h
   refine ⟨a++b,s2,by grind,?_,u⟩
   have:=Z1U ha hb
   simp_all
 .rw [J3,J3,ZY hc,ZY (o:=⟨o.kind,o.n,o.l.take n.toNat,o.e⟩) hc]
  constructor
  .rintro ⟨d',rfl,h⟩
   refine ⟨o.l.drop n.toNat++d',by rw [<-Qo,Qx],?_⟩
   exact (ZY (o:=⟨o.kind,o.n,o.l.drop n.toNat,o.e⟩) hc).2 ⟨d',rfl,h⟩
  .rintro ⟨d',rfl,h⟩
   obtain ⟨d2,rfl,u⟩:=(ZY (o:=⟨o.kind,o.n,o.l.drop n.toNat,o.e⟩) hc).1 h
   exact ⟨d2,by rw [<-Qo,Qx],u⟩
 .rw [J0 hi] at hn
  omega
def Z1e:List Piece->List Op
 | []=> []
 | x ::r=> (if x.of=2 then [] else [x.p])++Z1e r
def Z1d:List Piece->List Op
 | []=> []
 | x ::r=> (if x.of=1 then [] else [x.q])++Z1d r
def Part(l:List Op)(o:Op):Prop:=∃ o'∈l,o.kind=o'.kind/\o.e=o'.e/\Zu o<=Zu o'/\∀ t∈o.l,t∈o'.l
structure POk (p q:List Op) (x:Piece):Prop where
 of:x.of=0\/x.of=1\/x.of=2
 pp:x.of≠2->Part p x.p/\ZX x.p
 qq:x.of≠1->Part q x.q/\ZX x.q
 one:x.of=1->x.p.kind=1
 two:x.of=2->x.q.kind=2
 both:x.of=0->x.p.kind≠1/\x.q.kind≠2/\Z4 x.p=Z4 x.q
 pn:x.of=2->x.p=Op.nil
 qn:x.of=1->x.q=Op.nil
theorem Part.mono{l l':List Op}{o:Op}(h:Part l o)(hl:∀ x∈l,Part l' x):Part l' o:=by
 obtain ⟨u,s,h2,h3,h5,h4⟩:=h
 obtain ⟨o2,g1,g2,g3,g5,g4⟩:=hl u s
 exact ⟨o2,g1,h2.trans g2,h3.trans g3,QF h5 g5,fun t ht=> g4 t (h4 t ht)⟩
theorem Part.self{l:List Op}{o:Op}(h:o∈l):Part l o:=⟨o,h,rfl,rfl,Qb _,fun _ h=> h⟩
theorem POk.mono{p q p' q':List Op}{x:Piece}(h:POk p q x)(hp:∀ x∈p,Part p' x)(hq:∀ x∈q,Part q' x):POk p' q' x:=
 ⟨h.of,fun e=> ⟨(h.pp e).1.mono hp,(h.pp e).2⟩,fun e=> ⟨(h.qq e).1.mono hq,(h.qq e).2⟩,h.one,h.two,h.both,h.pn,h.qn⟩
theorem Z2i{o:Op}{r:List Op}{n:Int}(h:∀ x∈o ::r,ZX x)(h1:1<=n)(hn:n<=Z4 o):
  ZX (ZB o n)/\Z4 (ZB o n)=n/\(ZB o n).kind=o.kind/\Part (o ::r) (ZB o n)/\(∀ x∈ZF (o ::r) n,ZX x/\Part (o ::r) x)/\∀ s d,Run (o ::r) s d↔Run (ZB o n ::ZF (o ::r) n) s d:=by
 have ho:=h o Q7
 have hr:∀ x∈r,ZX x/\Part (o ::r) x:=fun x hx=> ⟨h x (Q0 _ hx),Part.self (Q0 _ hx)⟩
 unfold ZF
 simp only [Qh,Qw,QM]
 by_cases hl:Z4 o<=n
 .rw [if_pos hl]
  have e:ZB o n=o:=by unfold ZB;rw [if_pos hl]
  rw [e]
  exact ⟨ho,JX,rfl,Part.self Q7,hr,fun s d=> QN⟩
 .rw [if_neg hl]
  obtain ⟨_,v2,v3,v4⟩:=Z9O (a:=1) ho h1 hl
  obtain ⟨b1,b2⟩:=ZbN ho h1 hl
  refine ⟨v2,v3,JU o n,?_,?_,Ztf ho h1 hl⟩
  .refine ⟨o,Q7,JU o n,?_,v4,?_⟩
   .unfold ZB;split;rfl;split <;> rfl
   .intro t u
    unfold ZB at u
    split at u
    .exact u
    .split at u
     .exact u
     .exact XK u
  .intro x hx
   rcases Qa.1 hx with rfl | hx
   .refine ⟨b1,o,Q7,?_,?_,b2,?_⟩
    .unfold Jt;split <;> rfl
    .unfold Jt;split <;> rfl
    .intro t u
     unfold Jt at u
     split at u
     .exact u
     .exact Xf u
   .exact hr x hx
theorem Zr{d:List Tree}{s:List Tree}(h:Run [] s d):s=[]/\d=[]:=by cases h;grind
theorem ZaP:∀ (k:Nat) (p q:List Op) (out:List Piece),p.length+q.length<=k->(∀ o∈p,ZX o)->(∀ o∈q,ZX o)->
  ((ZA 1 2 p q out).2.1=true->∃ ps,(ZA 1 2 p q out).1=out++ps/\(∀ x∈ps,POk p q x)/\(∀ s m,Run p s m↔Run (Z1e ps) s m)/\∀ m d,Run q m d↔Run (Z1d ps) m d)/\
  ((ZA 1 2 p q out).2.1=false->∀ s m d,Run p s m->Run q m d->False):=by
 intro k
 induction k with
 | zero=>
  intro p q out hk hp hq
  have e1:p=[]:=Q5 JX
  have e2:q=[]:=Q5 JX
  subst e1 e2
  have e:ZA 1 2 [] [] out=(out,true,[],[]):=by
   rw [ZA,dif_neg (by simp [sgl]),dif_neg (by simp [sgl]),dif_pos (by simp)]
   try rfl
  rw [e]
  exact ⟨fun _=> ⟨[],by simp,fun x u=> (by cases u),fun s m=> QN,fun m d=> QN⟩,fun h=> by cases h⟩
 | succ k ih=>
  intro p q out hk hp hq
  rw [ZA]
  by_cases h1:sgl 1 p=true
  .rw [dif_pos h1]
   obtain ⟨g1,g2⟩:=Yw.1 h1
   cases p with
   | nil=> grind
   | cons a p'=>
    simp only [Qh] at g2
    simp only [Qh,Qw,QM]
    have ha:=hp a Q7
    obtain ⟨i1,i2⟩:=ih p' q (out++[⟨1,a,Op.nil⟩]) (by grind) (fun o ho=> hp o (Q0 _ ho)) hq
    refine ⟨fun h=> ?_,fun h s m d r1 r2=> ?_⟩
    .obtain ⟨ps,e,ae,hP,hQ⟩:=i1 h
     refine ⟨⟨1,a,Op.nil⟩ ::ps,by grind,fun x u=> ?_,fun s m=> ?_,fun m d=> ?_⟩
     .rcases Qa.1 u with rfl | u
      .exact ⟨.inr (.inl rfl),fun _=> ⟨Part.self Q7,ha⟩,fun e=> absurd rfl e,fun _=> g2,fun e=> (by cases e),fun e=> (by cases e),fun e=> (by cases e),fun _=> rfl⟩
      .exact (ae x u).mono (fun x u=> Part.self (Q0 _ u)) (fun x u=> Part.self u)
     .show _↔Run (a ::Z1e ps) s m
      exact Z1f hP (ZH ha) s m
     .exact hQ m d
    .obtain ⟨b,s',_,_,hr⟩:=(ZV g2).1 r1
     grind
  .rw [dif_neg h1]
   by_cases h2:sgl 2 q=true
   .rw [dif_pos h2]
    obtain ⟨g1,g2⟩:=Yw.1 h2
    cases q with
    | nil=> grind
    | cons a q'=>
     simp only [Qh] at g2
     simp only [Qh,Qw,QM]
     have ha:=hq a Q7
     obtain ⟨i1,i2⟩:=ih p q' (out++[⟨2,Op.nil,a⟩]) (by grind) hp (fun o ho=> hq o (Q0 _ ho))
     refine ⟨fun h=> ?_,fun h s m d r1 r2=> ?_⟩
     .obtain ⟨ps,e,ae,hP,hQ⟩:=i1 h
      refine ⟨⟨2,Op.nil,a⟩ ::ps,by grind,fun x u=> ?_,fun s m=> ?_,fun m d=> ?_⟩
      .rcases Qa.1 u with rfl | u
       .exact ⟨.inr (.inr rfl),fun e=> absurd rfl e,fun _=> ⟨Part.self Q7,ha⟩,fun e=> (by cases e),fun _=> g2,fun e=> (by cases e),fun _=> rfl,fun e=> (by cases e)⟩
       .exact (ae x u).mono (fun x u=> Part.self u) (fun x u=> Part.self (Q0 _ u))
      .exact hP s m
      .show _↔Run (a ::Z1d ps) m d
       exact Z1f hQ (ZH ha) m d
     .obtain ⟨d',_,hr⟩:=(ZY g2).1 r2
      grind
   .rw [dif_neg h2]
    by_cases h3:p.length=0\/q.length=0
    .rw [dif_pos h3]
     by_cases h4:p.length=0
     .have e1:p=[]:=Q5 h4
      subst e1
      by_cases h5:q.length=0
      .have e2:q=[]:=Q5 h5
       subst e2
       rw [if_pos rfl]
       exact ⟨fun _=> ⟨[],by simp,fun x u=> (by cases u),fun s m=> QN,fun m d=> QN⟩,fun h=> by cases h⟩
      .rw [if_neg (by grind)]
       refine ⟨fun h=> (by cases h),fun _ s m d r1 r2=> ?_⟩
       cases q with
       | nil=> exact h5 rfl
       | cons a q'=>
        have ha:=hq a Q7
        obtain ⟨_,rfl⟩:=Zr r1
        obtain ⟨m1,m',d',e,hl,_⟩:=Z5B ha (fun e=> h2 (Yw.2 ⟨by simp,by simpa using e⟩)) r2
        have:=ZJ ha
        have e:=congrArg List.length e
        grind
     .have h5:q.length=0:=JX
      have e2:q=[]:=Q5 h5
      subst e2
      rw [if_neg (by grind)]
      refine ⟨fun h=> (by cases h),fun _ s m d r1 r2=> ?_⟩
      cases p with
      | nil=> exact h4 rfl
      | cons a p'=>
       have ha:=hp a Q7
       obtain ⟨rfl,_⟩:=Zr r2
       obtain ⟨m1,s',m',e,hl,_⟩:=Zjp ha (fun e=> h1 (Yw.2 ⟨by simp,by simpa using e⟩)) r1
       have:=ZJ ha
       have e:=congrArg List.length e
       grind
    .rw [dif_neg h3]
     cases p with
     | nil=> simp at h3
     | cons a p'=>
      cases q with
      | nil=> simp at h3
      | cons b q'=>
       have ha:=hp a Q7
       have hb:=hq b Q7
       have ka:a.kind≠1:=fun e=> h1 (Yw.2 ⟨by simp,by simpa using e⟩)
       have kb:b.kind≠2:=fun e=> h2 (Yw.2 ⟨by simp,by simpa using e⟩)
       have la:=ZJ ha
       have lb:=ZJ hb
       simp only [Qh]
       generalize hn:min (Z4 a) (Z4 b)=n
       have am:1<=n:=JX
       have aw:n<=Z4 a:=JX
       have ay:n<=Z4 b:=JX
       obtain ⟨a1,a2,a3,a4,a5,a6⟩:=Z2i hp am aw
       obtain ⟨b1,b2,b3,b4,b5,b6⟩:=Z2i hq am ay
       have av:(ZF (a ::p') n).length+(ZF (b ::q') n).length<=k:=by
        have x1:=Yi (a ::p') n (by simp)
        have x2:=Yi (b ::q') n (by simp)
        simp only [Qm] at hk x1 x2
        rcases Kp (Z4 a) (Z4 b) with h | h
        .have:=Yh (a ::p') n (by simp) (by grind)
         grind
        .have:=Yh (b ::q') n (by simp) (by grind)
         grind
       obtain ⟨i1,i2⟩:=ih (ZF (a ::p') n) (ZF (b ::q') n) (out++[⟨0,ZB a n,ZB b n⟩]) av (fun o ho=> (a5 o ho).1) (fun o ho=> (b5 o ho).1)
       refine ⟨fun h=> ?_,fun h s m d r1 r2=> ?_⟩
       .obtain ⟨ps,e,ae,hP,hQ⟩:=i1 h
        refine ⟨⟨0,ZB a n,ZB b n⟩ ::ps,by grind,fun x u=> ?_,fun s m=> ?_,fun m d=> ?_⟩
        .rcases Qa.1 u with rfl | u
         .exact ⟨.inl rfl,fun _=> ⟨a4,a1⟩,fun _=> ⟨b4,b1⟩,fun e=> (by cases e),fun e=> (by cases e),fun _=> ⟨by grind,by grind,by grind⟩,fun e=> (by cases e),fun e=> (by cases e)⟩
         .exact (ae x u).mono (fun x u=> (a5 x u).2) (fun x u=> (b5 x u).2)
        .rw [a6 s m]
         exact Z1f hP (ZH a1) s m
        .rw [b6 m d]
         exact Z1f hQ (ZH b1) m d
       .rw [a6] at r1
        rw [b6] at r2
        obtain ⟨m1,s',m',e,hl,r3⟩:=Zjp a1 JX r1
        obtain ⟨m2,m3,d',e',bm,r4⟩:=Z5B b1 JX r2
        obtain ⟨_,e2⟩:=XP (e.symm.trans e') JX
        grind
theorem Z9Q{e:Edit}{d:Int}{x y l:Tree}(hr:Z3 e d=true)(he:ZZ e)(hx:RT_ x)(hl:RT_ l)(h:doE false e x=some y)(hy:Eqv y l):∃ z,doE false (Zj (Zn e)) l=some z/\Eqv z x:=by
 obtain ⟨v,hv,aa⟩:=Ze1 e d x y hr he hx h
 have s:=Z30 (Zn e) d y l (YT e d hr) hy
 have u:=Z3E (Zn e) d l (YT e d hr) hl
 rw [hv] at s
 cases hw:doE false (Zn e) l with
 | none=> rw [hw] at s;exact s.elim
 | some w=>
  rw [hw] at s u
  cases hz:doE false (Zj (Zn e)) l with
  | none=> rw [hz] at u;exact u.elim
  | some z=>
   rw [hz] at u
   have s:Eqv v w:=s
   have u:Eqv z w:=u
   exact ⟨z,rfl,u.trans (s.symm.trans aa)⟩
theorem Zlt{e:Edit}{d:Int}{x z l:Tree}(hr:Z3 e d=true)(he:ZZ e)(hl:RT_ l)(h:doE false (Zj (Zn e)) l=some z)(hz:Eqv z x):∃ y,doE false e x=some y/\Eqv y l:=by
 have u:=Z3E (Zn e) d l (YT e d hr) hl
 rw [h] at u
 cases hw:doE false (Zn e) l with
 | none=> rw [hw] at u;exact u.elim
 | some w=>
  rw [hw] at u
  have u:Eqv z w:=u
  obtain ⟨v,hv,aa⟩:=Ze1 (Zn e) d l w (YT e d hr) (Z4L e he) hl hw
  rw [ZbU] at hv
  have s:=Z30 e d w x hr (u.symm.trans hz)
  rw [hv] at s
  cases hy:doE false e x with
  | none=> rw [hy] at s;exact s.elim
  | some y=>
   rw [hy] at s
   have s:Eqv v y:=s
   exact ⟨y,rfl,s.symm.trans aa⟩
structure ComOk (c:Edit × Bool) (p q:Edit):Prop where
 fwd:∀ {t w},RT_ t->c.2=true->doE false c.1 t=some w->∃ u v,doE false p t=some u/\doE false q u=some v/\Eqv w v
 bwd:∀ {t u v},RT_ t->doE false p t=some u->doE false q u=some v->c.2=true/\∃ w,doE false c.1 t=some w/\Eqv w v
def ROp(o:Op):Prop:=(o.kind=3->(∃ d,Z3 o.e d=true)/\ZZ o.e)/\∀ t∈o.l,RT_ t
theorem Z6G{o:Op}{r:List Op}{s d:List Tree}(hk:kOk o):Run (o ::r) s d↔∃ s1 s2 d1 d2,s=s1++s2/\d=d1++d2/\Run [o] s1 d1/\Run r s2 d2:=by
 constructor
 .intro h
  rcases hk with h0 | h1 | h2 | h3
  .obtain ⟨a,s',d',rfl,rfl,hl,u⟩:=(JI h0.1).1 h
   exact ⟨a,s',a,d',rfl,rfl,(JI h0.1).2 ⟨a,[],[],by simp,by simp,hl,.nil⟩,u⟩
  .obtain ⟨a,s',rfl,hl,u⟩:=(ZV h1).1 h
   exact ⟨a,s',[],d,rfl,rfl,(ZV h1).2 ⟨a,[],by simp,hl,.nil⟩,u⟩
  .obtain ⟨d',rfl,u⟩:=(ZY h2).1 h
   exact ⟨[],s,o.l,d',rfl,rfl,(ZY h2).2 ⟨[],by simp,.nil⟩,u⟩
  .obtain ⟨x,s',y,d',rfl,rfl,he,u⟩:=(Jw h3).1 h
   exact ⟨[x],s',[y],d',rfl,rfl,.into h3 he .nil,u⟩
 .rintro ⟨s1,s2,d1,d2,rfl,rfl,h1,h2⟩
  rcases hk with h0 | hg | hc | h3
  .obtain ⟨a,s',d',rfl,rfl,hl,u⟩:=(JI h0.1).1 h1
   obtain ⟨rfl,rfl⟩:=Zr u
   rw [Ql]
   exact .keep h0.1 hl h2
  .obtain ⟨a,s',rfl,hl,u⟩:=(ZV hg).1 h1
   obtain ⟨rfl,rfl⟩:=Zr u
   rw [Ql]
   exact .gone hg hl h2
  .obtain ⟨d',rfl,u⟩:=(ZY hc).1 h1
   obtain ⟨rfl,rfl⟩:=Zr u
   rw [Ql]
   exact .come hc h2
  .obtain ⟨x,s',y,d',rfl,rfl,he,u⟩:=(Jw h3).1 h1
   obtain ⟨rfl,rfl⟩:=Zr u
   exact .into h3 he h2
theorem Z47{o:Op}{s d:List Tree}(ho:ZX o)(hk:o.kind≠1)(h:Run [o] s d):(d.length:Int)=Z4 o:=by
 obtain ⟨m1,s',m',rfl,hl,u⟩:=Zjp ho hk h
 obtain ⟨_,rfl⟩:=Zr u
 simpa using hl
theorem Z5A{o:Op}{s d:List Tree}(ho:ZX o)(hk:o.kind≠2)(h:Run [o] s d):(s.length:Int)=Z4 o:=by
 obtain ⟨m1,s',m',rfl,hl,u⟩:=Z5B ho hk h
 obtain ⟨rfl,_⟩:=Zr u
 simpa using hl
theorem Z0y{o:Op}{s:List Tree}(h0:o.kind=0)(hl:(s.length:Int)=o.n):Run [o] s s:=
 (JI h0).2 ⟨s,[],[],by simp,by simp,hl,.nil⟩
theorem Z2d{o:Op}{s d:List Tree}(h0:o.kind=0)(h:Run [o] s d):d=s:=by
 obtain ⟨a,s',d',rfl,rfl,hl,u⟩:=(JI h0).1 h
 obtain ⟨rfl,rfl⟩:=Zr u
 try rfl
theorem Z3B{l:List Tree}(h:(l.length:Int)=1):l=[l.getD 0 Tree.nil]:=by
 match l,h with
 | [a],_=> rfl
 | [],h=> simp at h
 | a ::b ::r,h=> grind
theorem Zh9{a b c d:List Tree}(h:EqvL a b)(h':EqvL c d):EqvL (a++c) (b++d):=Z1U h h'
theorem Zts {f:Edit->Edit->Edit × Bool} {p0 q0:List Op} {x:Piece} (hx:POk p0 q0 x) (hp:x.of≠2->ROp x.p) (hq:x.of≠1->ROp x.q) (hf:x.p.kind=3->x.q.kind=3->x.of=0->ComOk (f x.p.e x.q.e) x.p.e x.q.e)
  {s w:List Tree} (hs:∀ t∈s,RT_ t) (aa:(ZQ f x).ok=true) (hr:Run (if (ZQ f x).is then [(ZQ f x).op] else []) s w):
  ∃ m d,Run (if x.of=2 then [] else [x.p]) s m/\Run (if x.of=1 then [] else [x.q]) m d/\EqvL w d:=by
 rcases hx.of with h0 | h1 | h2
 .obtain ⟨pk,qk,hl⟩:=hx.both h0
  obtain ⟨_,op⟩:=hx.pp JX
  obtain ⟨_,oq⟩:=hx.qq JX
  have rp:=hp JX
  have rq:=hq JX
  rw [J3,J3]
  by_cases kq0:x.q.kind=0
  .have e:ZQ f x=⟨x.p,true,true⟩:=by unfold ZQ;grind
   rw [e] at hr
   exact ⟨w,w,hr,Z0y kq0 (by rw [Z47 op pk hr,hl,Z7G oq kq0]),rfl⟩
  by_cases kp0:x.p.kind=0
  .have e:ZQ f x=⟨x.q,true,true⟩:=by unfold ZQ;grind
   rw [e] at hr
   exact ⟨s,w,Z0y kp0 (by rw [Z5A oq qk hr,<-hl,Z7G op kp0]),hr,rfl⟩
  by_cases k21:x.p.kind=2/\x.q.kind=1
  .have lp:=Yq op (.inr k21.1)
   have lq:=Yq oq (.inl k21.2)
   have e:ZQ f x=⟨Op.nil,false,Z2Y x.p.l (x.q.l.take x.p.l.length)⟩:=by unfold ZQ;rw [J3,J3,if_pos k21]
   rw [e] at hr aa
   obtain ⟨rfl,rfl⟩:=Zr hr
   have aa:Z2Y x.p.l (x.q.l.take x.p.l.length)=true:=aa
   unfold Z2Y at aa
   rw [Z0c,Qy JX] at aa
   exact ⟨x.p.l,[],(ZY k21.1).2 ⟨[],by simp,.nil⟩,(ZV k21.2).2 ⟨x.p.l,[],by simp,aa.symm,.nil⟩,rfl⟩
  by_cases kp2:x.p.kind=2
  .have ae:x.q.kind=3:=by rcases ZH oq with h | h | h | h <;> omega
   have lp:=Yq op (.inr kp2)
   rw [hl,J0 ae] at lp
   have e:ZQ f x=⟨⟨2,0,[(doB x.q.e (x.p.l.getD 0 Tree.nil)).1],Edit.nil⟩,true,(doB x.q.e (x.p.l.getD 0 Tree.nil)).2⟩:=by unfold ZQ;rw [J3,J3,if_neg k21,if_pos kp2]
   rw [e] at hr aa
   have a4:=Z3B lp.symm
   cases hy:doE false x.q.e (x.p.l.getD 0 Tree.nil) with
   | none=> unfold doB at aa;grind
   | some y=>
    have e2:(doB x.q.e (x.p.l.getD 0 Tree.nil)).1=Z0 y:=by unfold doB;rw [hy];try rfl
    rw [e2] at hr
    obtain ⟨d',rfl,ab⟩:=(ZY (o:=⟨2,0,[Z0 y],Edit.nil⟩) rfl).1 hr
    obtain ⟨rfl,rfl⟩:=Zr ab
    refine ⟨[x.p.l.getD 0 Tree.nil],[y],(ZY kp2).2 ⟨[],by grind,.nil⟩,.into ae hy .nil,?_⟩
    show Z6 ([Z0 y]++[])=Z6 [y]
    simp [Z6,ZI]
  have af:x.p.kind=3:=by rcases ZH op with h | h | h | h <;> omega
  by_cases kq1:x.q.kind=1
  .have lq:=Yq oq (.inl kq1)
   rw [<-hl,J0 af] at lq
   have e:ZQ f x=⟨⟨1,0,[(doB (Zj (Zn x.p.e)) (x.q.l.getD 0 Tree.nil)).1],Edit.nil⟩,true,(doB (Zj (Zn x.p.e)) (x.q.l.getD 0 Tree.nil)).2⟩:=by unfold ZQ;rw [J3,J3,if_neg k21,if_neg kp2,if_pos kq1]
   rw [e] at hr aa
   have aj:=Z3B lq.symm
   have ar:RT_ (x.q.l.getD 0 Tree.nil):=rq.2 _ (by rw [aj];simp)
   cases hz:doE false (Zj (Zn x.p.e)) (x.q.l.getD 0 Tree.nil) with
   | none=> unfold doB at aa;grind
   | some z=>
    have e2:(doB (Zj (Zn x.p.e)) (x.q.l.getD 0 Tree.nil)).1=Z0 z:=by unfold doB;rw [hz];try rfl
    rw [e2] at hr
    obtain ⟨a,s',rfl,hn,ab⟩:=(ZV (o:=⟨1,0,[Z0 z],Edit.nil⟩) rfl).1 hr
    obtain ⟨rfl,rfl⟩:=Zr ab
    have az:=Z3d hn
    have ai:=Z3B (l:=a) (by grind)
    rw [ai] at hn
    have au:Eqv z (a.getD 0 Tree.nil):=by
     have:=JK.1 hn
     unfold Eqv
     rw [<-this,ZI]
    obtain ⟨⟨dd,rd⟩,re⟩:=rp.1 af
    obtain ⟨y,hy,ao⟩:=Zlt rd re ar hz au
    refine ⟨[y],[],?_,?_,rfl⟩
    .rw [Ql,ai]
     exact .into af hy .nil
    .refine (ZV kq1).2 ⟨[y],[],by simp,?_,.nil⟩
     rw [aj]
     exact (JK.2 ao).symm
  .have ae:x.q.kind=3:=by rcases ZH oq with h | h | h | h <;> omega
   have e:ZQ f x=⟨⟨3,0,[],(f x.p.e x.q.e).1⟩,true,(f x.p.e x.q.e).2⟩:=by unfold ZQ;grind
   rw [e] at hr aa
   obtain ⟨x0,s',y0,d',rfl,rfl,hd,ab⟩:=(Jw (o:=⟨3,0,[],(f x.p.e x.q.e).1⟩) rfl).1 hr
   obtain ⟨rfl,rfl⟩:=Zr ab
   obtain ⟨u,v,hu,hv,hw⟩:=(hf af ae h0).fwd (hs x0 (by simp)) aa hd
   exact ⟨[u],[v],.into af hu .nil,.into ae hv .nil,JK.2 hw⟩
 .have e:ZQ f x=⟨x.p,true,true⟩:=by unfold ZQ;grind
  rw [e] at hr
  rw [J3,if_pos h1]
  obtain ⟨a,s',rfl,hn,ab⟩:=(ZV (hx.one h1)).1 hr
  obtain ⟨rfl,rfl⟩:=Zr ab
  exact ⟨[],[],(ZV (hx.one h1)).2 ⟨a,[],rfl,hn,.nil⟩,.nil,rfl⟩
 .have e:ZQ f x=⟨x.q,true,true⟩:=by unfold ZQ;grind
  rw [e] at hr
  rw [if_pos h2,J3]
  obtain ⟨d',rfl,ab⟩:=(ZY (hx.two h2)).1 hr
  obtain ⟨rfl,rfl⟩:=Zr ab
  exact ⟨[],_,.nil,(ZY (hx.two h2)).2 ⟨[],rfl,.nil⟩,rfl⟩
theorem Ztt {f:Edit->Edit->Edit × Bool} {p0 q0:List Op} {x:Piece} (hx:POk p0 q0 x) (hp:x.of≠2->ROp x.p) (hq:x.of≠1->ROp x.q) (hf:x.p.kind=3->x.q.kind=3->x.of=0->ComOk (f x.p.e x.q.e) x.p.e x.q.e)
  {s m d:List Tree} (hs:∀ t∈s,RT_ t) (h1r:Run (if x.of=2 then [] else [x.p]) s m) (h2r:Run (if x.of=1 then [] else [x.q]) m d):
  (ZQ f x).ok=true/\∃ w,Run (if (ZQ f x).is then [(ZQ f x).op] else []) s w/\EqvL w d:=by
 rcases hx.of with h0 | h1 | h2
 .obtain ⟨pk,qk,hl⟩:=hx.both h0
  obtain ⟨_,op⟩:=hx.pp JX
  obtain ⟨_,oq⟩:=hx.qq JX
  have rp:=hp JX
  have rq:=hq JX
  rw [J3] at h1r h2r
  by_cases kq0:x.q.kind=0
  .have e:ZQ f x=⟨x.p,true,true⟩:=by unfold ZQ;grind
   rw [e]
   have:=Z2d kq0 h2r
   subst this
   exact ⟨rfl,d,h1r,rfl⟩
  by_cases kp0:x.p.kind=0
  .have e:ZQ f x=⟨x.q,true,true⟩:=by unfold ZQ;grind
   rw [e]
   have:=Z2d kp0 h1r
   subst this
   exact ⟨rfl,d,h2r,rfl⟩
  by_cases k21:x.p.kind=2/\x.q.kind=1
  .have lp:=Yq op (.inr k21.1)
   have lq:=Yq oq (.inl k21.2)
   have e:ZQ f x=⟨Op.nil,false,Z2Y x.p.l (x.q.l.take x.p.l.length)⟩:=by unfold ZQ;rw [J3,J3,if_pos k21]
   rw [e]
   obtain ⟨d',rfl,u⟩:=(ZY k21.1).1 h1r
   obtain ⟨rfl,rfl⟩:=Zr u
   rw [Ql] at h2r
   obtain ⟨a,s',ha,hn,aa⟩:=(ZV k21.2).1 h2r
   obtain ⟨rfl,rfl⟩:=Zr aa
   rw [Ql] at ha
   subst ha
   refine ⟨?_,[],.nil,rfl⟩
   show Z2Y x.p.l (x.q.l.take x.p.l.length)=true
   unfold Z2Y
   rw [Z0c,Qy JX]
   exact hn.symm
  by_cases kp2:x.p.kind=2
  .have ab:x.q.kind=3:=by rcases ZH oq with h | h | h | h <;> omega
   have lp:=Yq op (.inr kp2)
   rw [hl,J0 ab] at lp
   have e:ZQ f x=⟨⟨2,0,[(doB x.q.e (x.p.l.getD 0 Tree.nil)).1],Edit.nil⟩,true,(doB x.q.e (x.p.l.getD 0 Tree.nil)).2⟩:=by unfold ZQ;rw [J3,J3,if_neg k21,if_pos kp2]
   rw [e]
   have ax:=Z3B lp.symm
   obtain ⟨d',rfl,u⟩:=(ZY kp2).1 h1r
   obtain ⟨rfl,rfl⟩:=Zr u
   rw [Ql,ax] at h2r
   obtain ⟨x0,s',y0,d',e1,rfl,hd,u⟩:=(Jw ab).1 h2r
   cases e1
   obtain ⟨_,rfl⟩:=Zr u
   have e2:doB x.q.e (x.p.l.getD 0 Tree.nil)=(Z0 y0,true):=by unfold doB;rw [hd];try rfl
   rw [e2]
   refine ⟨rfl,[Z0 y0],(ZY (o:=⟨2,0,[Z0 y0],Edit.nil⟩) rfl).2 ⟨[],by simp,.nil⟩,?_⟩
   exact JK.2 (ZI y0)
  have ae:x.p.kind=3:=by rcases ZH op with h | h | h | h <;> omega
  obtain ⟨x0,s',y0,d',rfl,rfl,hd,u⟩:=(Jw ae).1 h1r
  obtain ⟨rfl,rfl⟩:=Zr u
  have af:=hs x0 (by simp)
  obtain ⟨⟨dd,rd⟩,re⟩:=rp.1 ae
  by_cases kq1:x.q.kind=1
  .have lq:=Yq oq (.inl kq1)
   rw [<-hl,J0 ae] at lq
   have e:ZQ f x=⟨⟨1,0,[(doB (Zj (Zn x.p.e)) (x.q.l.getD 0 Tree.nil)).1],Edit.nil⟩,true,(doB (Zj (Zn x.p.e)) (x.q.l.getD 0 Tree.nil)).2⟩:=by unfold ZQ;rw [J3,J3,if_neg k21,if_neg kp2,if_pos kq1]
   rw [e]
   have aj:=Z3B lq.symm
   have av:RT_ (x.q.l.getD 0 Tree.nil):=rq.2 _ (by rw [aj];simp)
   obtain ⟨a,s2,ha,hn,aa⟩:=(ZV kq1).1 h2r
   obtain ⟨rfl,rfl⟩:=Zr aa
   rw [Ql] at ha
   subst ha
   rw [aj] at hn
   obtain ⟨z,hz,ay⟩:=Z9Q rd re af av hd (JK.1 hn).symm
   have e2:doB (Zj (Zn x.p.e)) (x.q.l.getD 0 Tree.nil)=(Z0 z,true):=by unfold doB;rw [hz];try rfl
   rw [e2]
   refine ⟨rfl,[],(ZV (o:=⟨1,0,[Z0 z],Edit.nil⟩) rfl).2 ⟨[x0],[],by simp,?_,.nil⟩,rfl⟩
   refine JK.2 ?_
   rw [ZI]
   exact ay
  .have ab:x.q.kind=3:=by rcases ZH oq with h | h | h | h <;> omega
   have e:ZQ f x=⟨⟨3,0,[],(f x.p.e x.q.e).1⟩,true,(f x.p.e x.q.e).2⟩:=by unfold ZQ;grind
   rw [e]
   obtain ⟨x1,s2,y1,d2,e1,rfl,ar,aa⟩:=(Jw ab).1 h2r
   cases e1
   obtain ⟨_,rfl⟩:=Zr aa
   obtain ⟨c2,w,hw,aw⟩:=(hf ae ab h0).bwd af hd ar
   exact ⟨c2,[w],(Jw (o:=⟨3,0,[],(f x.p.e x.q.e).1⟩) rfl).2 ⟨x0,[],w,[],rfl,rfl,hw,.nil⟩,JK.2 aw⟩
 .have e:ZQ f x=⟨x.p,true,true⟩:=by unfold ZQ;grind
  rw [J3] at h1r
  rw [if_pos h1] at h2r
  rw [e]
  obtain ⟨rfl,rfl⟩:=Zr h2r
  exact ⟨rfl,[],h1r,rfl⟩
 .have e:ZQ f x=⟨x.q,true,true⟩:=by unfold ZQ;grind
  rw [if_pos h2] at h1r
  rw [J3] at h2r
  rw [e]
  obtain ⟨rfl,rfl⟩:=Zr h1r
  exact ⟨rfl,d,h2r,rfl⟩
theorem Z5C:∀ {a b:List Op} {s d:List Tree},(∀ o∈a,kOk o)->(Run (a++b) s d↔∃ s1 s2 d1 u,s=s1++s2/\d=d1++u/\Run a s1 d1/\Run b s2 u)
 | [],b,s,d,_=> by
  constructor
  .intro h;exact ⟨[],s,[],d,rfl,rfl,.nil,h⟩
  .rintro ⟨s1,s2,d1,u,rfl,rfl,h1,h2⟩
   obtain ⟨rfl,rfl⟩:=Zr h1
   exact h2
 | o ::a,b,s,d,hk=> by
  have ho:=hk o Q7
  have ih:=fun s d=> Z5C (a:=a) (b:=b) (s:=s) (d:=d) fun x hx=> hk x (Q0 _ hx)
  rw [QA,Z6G ho]
  constructor
  .rintro ⟨s1,s2,d1,u,rfl,rfl,h1,h2⟩
   obtain ⟨s3,s4,d3,d4,rfl,rfl,h3,h4⟩:=(ih _ _).1 h2
   exact ⟨s1++s3,s4,d1++d3,d4,by grind,by grind,(Z6G ho).2 ⟨s1,s3,d1,d3,rfl,rfl,h1,h3⟩,h4⟩
  .rintro ⟨s1,s2,d1,u,rfl,rfl,h1,h2⟩
   obtain ⟨s3,s4,d3,d4,rfl,rfl,h3,h4⟩:=(Z6G ho).1 h1
   exact ⟨s3,s4++s2,d3,d4++u,by grind,by grind,h3,(ih _ _).2 ⟨s4,s2,d4,u,rfl,rfl,h4,h2⟩⟩
theorem ZoU{f:Edit->Edit->Edit × Bool}{p0 q0:List Op}{x:Piece}(hx:POk p0 q0 x):kOk (ZQ f x).op:=by
 unfold ZQ
 split
 .rename_i h
  exact ZH (hx.pp JX).2
 .split
  .rename_i u s
   refine ZH (hx.qq ?_).2
   omega
  .split
   .exact .inl ⟨rfl,Xa 0⟩
   .split
    .exact .inr (.inr (.inl rfl))
    .split
     .exact .inr (.inl rfl)
     .exact .inr (.inr (.inr rfl))
theorem Zgm{f:Edit->Edit->Edit × Bool}{p0 q0:List Op}:∀ {ps:List Piece} {ops:List Op} {s w:List Tree},(∀ x∈ps,POk p0 q0 x)->(∀ x∈ps,(x.of≠2->ROp x.p)/\(x.of≠1->ROp x.q))->
  (∀ x∈ps,x.p.kind=3->x.q.kind=3->x.of=0->ComOk (f x.p.e x.q.e) x.p.e x.q.e)->(∀ t∈s,RT_ t)->Z1m f ps=some ops->Run ops s w->∃ m d,Run (Z1e ps) s m/\Run (Z1d ps) m d/\EqvL w d
 | [],ops,s,w,_,_,_,_,h,hr=> by
  cases h
  obtain ⟨rfl,rfl⟩:=Zr hr
  exact ⟨[],[],.nil,.nil,rfl⟩
 | x ::r,ops,s,w,hx,hp,hf,hs,h,hr=> by
  rw [Z1m] at h
  split at h
  .rename_i ai
   obtain ⟨l,hl,rfl⟩:=Q9.1 h
   have aa:=hx x Q7
   have hk:∀ o∈(if (ZQ f x).is then [(ZQ f x).op] else []),kOk o:=by
    intro o u
    split at u
    .rw [Qg.1 u];exact ZoU aa
    .cases u
   obtain ⟨s1,s2,w1,w2,rfl,rfl,r1,r2⟩:=(Z5C hk).1 hr
   obtain ⟨m1,d1,a1,a2,a3⟩:=Zts aa (hp x Q7).1 (hp x Q7).2 (hf x Q7) (fun t ht=> hs t (QP _ ht)) ai r1
   obtain ⟨m2,d2,b1,b2,b3⟩:=Zgm (fun y hy=> hx y (Q0 _ hy)) (fun y hy=> hp y (Q0 _ hy)) (fun y hy=> hf y (Q0 _ hy)) (fun t ht=> hs t (X5 _ ht)) hl r2
   refine ⟨m1++m2,d1++d2,?_,?_,Zh9 a3 b3⟩
   .refine (Z5C ?_).2 ⟨s1,s2,m1,m2,rfl,rfl,a1,b1⟩
    intro o u
    split at u
    .cases u
    .rw [Qg.1 u];exact ZH (aa.pp (by assumption)).2
   .refine (Z5C ?_).2 ⟨m1,m2,d1,d2,rfl,rfl,a2,b2⟩
    intro o u
    split at u
    .cases u
    .rw [Qg.1 u];exact ZH (aa.qq (by assumption)).2
  .cases h
theorem Zgn{f:Edit->Edit->Edit × Bool}{p0 q0:List Op}:∀ {ps:List Piece} {s m d:List Tree},(∀ x∈ps,POk p0 q0 x)->(∀ x∈ps,(x.of≠2->ROp x.p)/\(x.of≠1->ROp x.q))->
  (∀ x∈ps,x.p.kind=3->x.q.kind=3->x.of=0->ComOk (f x.p.e x.q.e) x.p.e x.q.e)->(∀ t∈s,RT_ t)->Run (Z1e ps) s m->Run (Z1d ps) m d->∃ ops w,Z1m f ps=some ops/\Run ops s w/\EqvL w d
 | [],s,m,d,_,_,_,_,h1,h2=> by
  obtain ⟨rfl,rfl⟩:=Zr h1
  obtain ⟨_,rfl⟩:=Zr h2
  exact ⟨[],[],rfl,.nil,rfl⟩
 | x ::r,s,m,d,hx,hp,hf,hs,h1,h2=> by
  have h:=hx x Q7
  have kp:∀ o∈(if x.of=2 then [] else [x.p]),kOk o:=by
   intro o u
   split at u
   .cases u
   .rw [Qg.1 u];exact ZH (h.pp (by assumption)).2
  have kq:∀ o∈(if x.of=1 then [] else [x.q]),kOk o:=by
   intro o u
   split at u
   .cases u
   .rw [Qg.1 u];exact ZH (h.qq (by assumption)).2
  obtain ⟨s1,s2,m1,m2,rfl,rfl,a1,a2⟩:=(Z5C kp).1 h1
  obtain ⟨m3,m4,d1,d2,hm,rfl,b1,b2⟩:=(Z5C kq).1 h2
  have af:m1.length=m3.length:=by
   rcases h.of with h0 | g1 | g2
   .obtain ⟨pk,qk,hl⟩:=h.both h0
    rw [J3] at a1 b1
    have:=Z47 (h.pp JX).2 pk a1
    have:=Z5A (h.qq JX).2 qk b1
    omega
   .rw [J3] at a1
    rw [if_pos g1] at b1
    obtain ⟨a,s',rfl,hn,ab⟩:=(ZV (h.one g1)).1 a1
    obtain ⟨rfl,rfl⟩:=Zr ab
    obtain ⟨rfl,_⟩:=Zr b1
    try rfl
   .rw [if_pos g2] at a1
    rw [J3] at b1
    obtain ⟨_,rfl⟩:=Zr a1
    obtain ⟨d',rfl,ab⟩:=(ZY (h.two g2)).1 b1
    obtain ⟨rfl,_⟩:=Zr ab
    try rfl
  obtain ⟨rfl,rfl⟩:=XP hm af
  obtain ⟨aj,w1,c1,c2⟩:=Ztt h (hp x Q7).1 (hp x Q7).2 (hf x Q7) (fun t ht=> hs t (QP _ ht)) a1 b1
  obtain ⟨ops,w2,e1,e2,e3⟩:=Zgn (fun y hy=> hx y (Q0 _ hy)) (fun y hy=> hp y (Q0 _ hy)) (fun y hy=> hf y (Q0 _ hy)) (fun t ht=> hs t (X5 _ ht)) a2 b2
  refine ⟨(if (ZQ f x).is then [(ZQ f x).op] else [])++ops,w1++w2,?_,?_,Zh9 c2 e3⟩
  .rw [Z1m,if_pos aj,e1];try rfl
  .refine (Z5C ?_).2 ⟨s1,s2,w1,w2,rfl,rfl,c1,e2⟩
   intro o u
   split at u
   .rw [Qg.1 u];exact ZoU h
   .cases u
section
variable {β:Type} {at_:β->Int} {one:β->β->β × Bool}
structure MSpec (at_:β->Int) (one:β->β->β × Bool) (last:Int) (p q L:List β):Prop where
 asc_:asc at_ last L
 of:∀ x∈L,(x∈p/\∀ b∈q,at_ b≠at_ x)\/(x∈q/\∀ a∈p,at_ a≠at_ x)\/∃ a∈p,∃ b∈q,at_ a=at_ b/\(one a b).2=true/\x=(one a b).1
 left:∀ a∈p,(∀ b∈q,at_ b≠at_ a)->a∈L
 right:∀ b∈q,(∀ a∈p,at_ a≠at_ b)->b∈L
 both:∀ a∈p,∀ b∈q,at_ a=at_ b->(one a b).2=true/\(one a b).1∈L
theorem Z3F(hone:∀ a b,at_ a=at_ b->(one a b).2=true->at_ (one a b).1=at_ a):∀ (k:Nat) (p q:List β) (aa:Int),p.length+q.length<=k->asc at_ aa p->asc at_ aa q->
  (Zm at_ one p q=none->∃ a∈p,∃ b∈q,at_ a=at_ b/\(one a b).2=false)/\∀ L,Zm at_ one p q=some L->MSpec at_ one aa p q L:=by
 intro k
 induction k with
 | zero=>
  intro p q aa hk hp hq
  have e1:p=[]:=Q5 JX
  have e2:q=[]:=Q5 JX
  subst e1 e2
  rw [Zm]
  refine ⟨fun h=> (by cases h),fun L h=> ?_⟩
  cases h
  exact ⟨trivial,fun x s=> (by cases s),fun a ha=> (by cases ha),fun a ha=> (by cases ha),fun a ha=> (by cases ha)⟩
 | succ k ih=>
  intro p q aa hk hp hq
  match p,q with
  | [],q=>
   rw [Zm]
   refine ⟨fun h=> (by cases h),fun L h=> ?_⟩
   cases h
   exact ⟨hq,fun x s=> .inr (.inl ⟨s,fun a ha=> (by cases ha)⟩),fun a ha=> (by cases ha),fun b hb _=> hb,fun a ha=> (by cases ha)⟩
  | a ::p,[]=>
   rw [Zm]
   refine ⟨fun h=> (by cases h),fun L h=> ?_⟩
   cases h
   exact ⟨hp,fun x s=> .inl ⟨s,fun a ha=> (by cases ha)⟩,fun b hb _=> hb,fun a ha=> (by cases ha),fun a _ b hb=> (by cases hb)⟩
  | a ::p,b ::q=>
   have gp:=fun x s=> ZcO hp.2 x s
   have gq:=fun x s=> ZcO hq.2 x s
   simp only [Qm] at hk
   rw [Zm]
   by_cases h1:at_ a < at_ b
   .rw [if_pos h1]
    obtain ⟨i1,i2⟩:=ih p (b ::q) (at_ a) (by grind) hp.2 ⟨h1,hq.2⟩
    refine ⟨fun h=> ?_,fun L h=> ?_⟩
    .simp_all
    .obtain ⟨L',hL,rfl⟩:=Q9.1 h
     have S:=i2 L' hL
     have na:∀ y∈b ::q,at_ y≠at_ a:=by
      intro y u
      rcases Qa.1 u with rfl | u
      .omega
      .have:=gq y u;omega
     refine ⟨⟨hp.1,S.asc_⟩,fun x s=> ?_,fun x s hn=> ?_,fun y u hn=> ?_,fun x s y u e=> ?_⟩
     .rcases Qa.1 s with rfl | s
      .grind
      .rcases S.of x s with ⟨h2,h3⟩ | ⟨h2,h3⟩ | ⟨c,hc,d,hd,h2⟩
       .grind
       .grind
       .exact .inr (.inr ⟨c,Q0 _ hc,d,hd,h2⟩)
     .rcases Qa.1 s with rfl | s
      .grind
      .exact Q0 _ (S.left x s hn)
     .exact Q0 _ (S.right y u fun c hc=> hn c (Q0 _ hc))
     .rcases Qa.1 s with rfl | s
      .grind
      .obtain ⟨h2,h3⟩:=S.both x s y u e
       grind
   .rw [if_neg h1]
    by_cases h2:at_ b < at_ a
    .rw [if_pos h2]
     obtain ⟨i1,i2⟩:=ih (a ::p) q (at_ b) (by grind) ⟨h2,hp.2⟩ hq.2
     refine ⟨fun h=> ?_,fun L h=> ?_⟩
     .rw [Option.map_eq_none_iff] at h
      obtain ⟨x,s,y,u,e⟩:=i1 h
      exact ⟨x,s,y,Q0 _ u,e⟩
     .obtain ⟨L',hL,rfl⟩:=Q9.1 h
      have S:=i2 L' hL
      have nb:∀ y∈a ::p,at_ y≠at_ b:=by
       intro y u
       rcases Qa.1 u with rfl | u
       .omega
       .have:=gp y u;omega
      refine ⟨⟨hq.1,S.asc_⟩,fun x s=> ?_,fun x s hn=> ?_,fun y u hn=> ?_,fun x s y u e=> ?_⟩
      .rcases Qa.1 s with rfl | s
       .grind
       .rcases S.of x s with ⟨h3,h4⟩ | ⟨h3,h4⟩ | ⟨c,hc,d,hd,h3⟩
        .grind
        .grind
        .exact .inr (.inr ⟨c,hc,d,Q0 _ hd,h3⟩)
      .exact Q0 _ (S.left x s fun c hc=> hn c (Q0 _ hc))
      .rcases Qa.1 u with rfl | u
       .grind
       .exact Q0 _ (S.right y u hn)
      .rcases Qa.1 u with rfl | u
       .grind
       .obtain ⟨h3,h4⟩:=S.both x s y u e
        grind
    .rw [if_neg h2]
     have e0:at_ a=at_ b:=JX
     by_cases h3:(one a b).2=true
     .rw [if_pos h3]
      obtain ⟨i1,i2⟩:=ih p q (at_ a) JX hp.2 (by rw [e0];exact hq.2)
      refine ⟨fun h=> ?_,fun L h=> ?_⟩
      .rw [Option.map_eq_none_iff] at h
       obtain ⟨x,s,y,u,e⟩:=i1 h
       exact ⟨x,Q0 _ s,y,Q0 _ u,e⟩
      .obtain ⟨L',hL,rfl⟩:=Q9.1 h
       have S:=i2 L' hL
       have al:=hone a b e0 h3
       have na:∀ y∈q,at_ y≠at_ a:=fun y u=> by grind
       have nb:∀ y∈p,at_ y≠at_ b:=fun y u=> by grind
       refine ⟨⟨by rw [al];exact hp.1,by rw [al];exact S.asc_⟩,fun x s=> ?_,fun x s hn=> ?_,fun y u hn=> ?_,fun x s y u e=> ?_⟩
       .rcases Qa.1 s with rfl | s
        .simp_all
        .rcases S.of x s with ⟨h4,h5⟩ | ⟨h4,h5⟩ | ⟨c,hc,d,hd,h4⟩
         .refine .inl ⟨Q0 _ h4,fun c hc=> ?_⟩
          grind
         .refine .inr (.inl ⟨Q0 _ h4,fun c hc=> ?_⟩)
          grind
         .exact .inr (.inr ⟨c,Q0 _ hc,d,Q0 _ hd,h4⟩)
       .rcases Qa.1 s with rfl | s
        .simp_all
        .exact Q0 _ (S.left x s fun c hc=> hn c (Q0 _ hc))
       .rcases Qa.1 u with rfl | u
        .simp_all
        .exact Q0 _ (S.right y u fun c hc=> hn c (Q0 _ hc))
       .rcases Qa.1 s with rfl | s
        .grind
        .rcases Qa.1 u with rfl | u
         .grind
         .obtain ⟨h4,h5⟩:=S.both x s y u e
          grind
     simp_all
variable {α:Type} {z:α} {F:β->α->Option α} {R:α->α->Prop}
def JV(z:α)(F:β->α->Option α)(at_:β->Int)(l:List α)(w:β):Option α:=F w (l.getD (at_ w).toNat z)
theorem Z0v{last:Int}(hl: -1<=last){l:List β}(h:asc at_ last l):∀ w∈l,0<=at_ w:=fun w s=> by have:=ZcO h w s;omega
theorem Zjr (hone:∀ a b,at_ a=at_ b->(one a b).2=true->at_ (one a b).1=at_ a) (Rr:∀ x,R x x) {p q L:List β} {l r:List α} (hp:asc at_ (-1) p) (hq:asc at_ (-1) q)
  (hf:∀ a∈p,∀ b∈q,at_ a=at_ b->∀ w,(one a b).2=true->F (one a b).1 (l.getD (at_ a).toNat z)=some w->∃ u v,F a (l.getD (at_ a).toNat z)=some u/\F b u=some v/\R w v)
  (h:Zm at_ one p q=some L) (hr:mg z (JV z F at_ l) at_ L l=some r):
  ∃ r1 r2,mg z (JV z F at_ l) at_ p l=some r1/\mg z (JV z F at_ r1) at_ q r1=some r2/\∀ i,R (r.getD i z) (r2.getD i z):=by
 have S:=(Z3F hone _ p q (-1) (Qb _) hp hq).2 L h
 obtain ⟨g1,g2⟩:=JF JX S.asc_ hr
 have np:=Z0v V2 hp
 have nq:=Z0v V2 hq
 have k1:∀ a∈p,∃ u,JV z F at_ l a=some u:=by
  intro a ha
  by_cases hb:∃ b∈q,at_ b=at_ a
  .obtain ⟨b,hb,e⟩:=hb
   obtain ⟨c1,c2⟩:=S.both a ha b hb e.symm
   obtain ⟨v,hv,_⟩:=g1 _ c2
   unfold JV at hv
   rw [hone a b e.symm c1] at hv
   obtain ⟨u,_,hu,_⟩:=hf a ha b hb e.symm v c1 hv
   exact ⟨u,hu⟩
  .obtain ⟨v,hv,_⟩:=g1 a (S.left a ha fun b ai e=> hb ⟨b,ai,e⟩)
   exact ⟨v,hv⟩
 obtain ⟨r1,h1⟩:=Z5Q (z:=z) (p:=at_) (out:=l) (f:=JV z F at_ l) k1
 obtain ⟨a1,a2⟩:=JF JX hp h1
 have k2:∀ b∈q,∃ v,JV z F at_ r1 b=some v:=by
  intro b hb
  by_cases ha:∃ a∈p,at_ a=at_ b
  .obtain ⟨a,ha,e⟩:=ha
   obtain ⟨c1,c2⟩:=S.both a ha b hb e
   obtain ⟨w,hw,_⟩:=g1 _ c2
   unfold JV at hw
   rw [hone a b e c1] at hw
   obtain ⟨u,v,hu,hv,_⟩:=hf a ha b hb e w c1 hw
   obtain ⟨u',af,e'⟩:=a1 a ha
   unfold JV at af
   rw [hu] at af
   cases af
   unfold JV
   rw [<-e,e']
   exact ⟨v,hv⟩
  .obtain ⟨v,hv,_⟩:=g1 b (S.right b hb fun a s e=> ha ⟨a,s,e⟩)
   refine ⟨v,?_⟩
   unfold JV at hv ⊢
   rw [a2 _ fun a s e=> ha ⟨a,s,by have:=np a s;have:=nq b hb;omega⟩]
   exact hv
 obtain ⟨r2,h2⟩:=Z5Q (z:=z) (p:=at_) (out:=r1) (f:=JV z F at_ r1) k2
 obtain ⟨b1,b2⟩:=JF JX hq h2
 refine ⟨r1,r2,h1,h2,fun i=> ?_⟩
 by_cases hb:∃ b∈q,(at_ b).toNat=i
 .obtain ⟨b,hb,rfl⟩:=hb
  obtain ⟨v,hv,e2⟩:=b1 b hb
  rw [e2]
  by_cases ha:∃ a∈p,at_ a=at_ b
  .obtain ⟨a,ha,e⟩:=ha
   obtain ⟨c1,c2⟩:=S.both a ha b hb e
   obtain ⟨w,hw,ew⟩:=g1 _ c2
   unfold JV at hw
   rw [hone a b e c1] at hw ew
   obtain ⟨u,v',hu,ar,hR⟩:=hf a ha b hb e w c1 hw
   obtain ⟨u',af,e'⟩:=a1 a ha
   unfold JV at af hv
   rw [hu] at af
   cases af
   rw [<-e,e',ar] at hv
   cases hv
   rw [<-e,ew]
   exact hR
  .obtain ⟨w,hw,ew⟩:=g1 b (S.right b hb fun a s e=> ha ⟨a,s,e⟩)
   rw [ew]
   unfold JV at hw hv
   rw [a2 _ fun a s e=> ha ⟨a,s,by have:=np a s;have:=nq b hb;omega⟩,hw] at hv
   cases hv
   exact Rr _
 .rw [b2 i fun b ai e=> hb ⟨b,ai,e⟩]
  by_cases ha:∃ a∈p,(at_ a).toNat=i
  .obtain ⟨a,ha,rfl⟩:=ha
   obtain ⟨w,hw,ew⟩:=g1 a (S.left a ha fun b ai e=> hb ⟨b,ai,JX⟩)
   obtain ⟨u,hu,eu⟩:=a1 a ha
   rw [hw] at hu
   cases hu
   rw [ew,eu]
   exact Rr _
  .rw [a2 i fun a s e=> ha ⟨a,s,e⟩,g2 i ?_]
   .exact Rr _
   .intro w hw e
    rcases S.of w hw with ⟨h3,_⟩ | ⟨h3,_⟩ | ⟨a,s,b,ai,e3,c1,rfl⟩
    .exact ha ⟨w,h3,e⟩
    .exact hb ⟨w,h3,e⟩
    .rw [hone a b e3 c1] at e
     exact ha ⟨a,s,e⟩
theorem ZpL (hone:∀ a b,at_ a=at_ b->(one a b).2=true->at_ (one a b).1=at_ a) (Rr:∀ x,R x x) {p q:List β} {l r1 r2:List α} (hp:asc at_ (-1) p) (hq:asc at_ (-1) q)
  (hf:∀ a∈p,∀ b∈q,at_ a=at_ b->∀ u v,F a (l.getD (at_ a).toNat z)=some u->F b u=some v->(one a b).2=true/\∃ w,F (one a b).1 (l.getD (at_ a).toNat z)=some w/\R w v)
  (h1:mg z (JV z F at_ l) at_ p l=some r1) (h2:mg z (JV z F at_ r1) at_ q r1=some r2):
  ∃ L r,Zm at_ one p q=some L/\mg z (JV z F at_ l) at_ L l=some r/\∀ i,R (r.getD i z) (r2.getD i z):=by
 have np:=Z0v V2 hp
 have nq:=Z0v V2 hq
 obtain ⟨a1,a2⟩:=JF JX hp h1
 obtain ⟨b1,b2⟩:=JF JX hq h2
 have both:∀ a∈p,∀ b∈q,at_ a=at_ b->(one a b).2=true/\∃ w,F (one a b).1 (l.getD (at_ a).toNat z)=some w/\R w (r2.getD (at_ a).toNat z):=by
  intro a ha b hb e
  obtain ⟨u,hu,eu⟩:=a1 a ha
  obtain ⟨v,s,ev⟩:=b1 b hb
  unfold JV at hu s
  rw [<-e,eu] at s
  have:=hf a ha b hb e u v hu s
  rw [e,ev,<-e]
  exact this
 cases h:Zm at_ one p q with
 | none=>
  obtain ⟨a,ha,b,hb,e,h3⟩:=(Z3F hone _ p q (-1) (Qb _) hp hq).1 h
  grind
 | some L=>
  have S:=(Z3F hone _ p q (-1) (Qb _) hp hq).2 L h
  have k1:∀ w∈L,∃ v,JV z F at_ l w=some v:=by
   intro w hw
   rcases S.of w hw with ⟨h3,h4⟩ | ⟨h3,h4⟩ | ⟨a,ha,b,hb,e,c1,rfl⟩
   .obtain ⟨u,hu,_⟩:=a1 w h3
    grind
   .obtain ⟨v,s,_⟩:=b1 w h3
    refine ⟨v,?_⟩
    unfold JV at s ⊢
    rw [a2 _ fun a af e=> h4 a af (by have:=np a af;have:=nq w h3;omega)] at s
    exact s
   .obtain ⟨_,w,hw,_⟩:=both a ha b hb e
    refine ⟨w,?_⟩
    unfold JV
    grind
  obtain ⟨r,hr⟩:=Z5Q (z:=z) (p:=at_) (out:=l) (f:=JV z F at_ l) k1
  refine ⟨L,r,rfl,hr,?_⟩
  obtain ⟨aw,ay,e1,e2,hR⟩:=Zjr (R:=fun x y=> x=y\/R x y) hone (fun x=> .inl rfl) hp hq (by
   intro a ha b hb e w c1 hw
   obtain ⟨u,hu,eu⟩:=a1 a ha
   obtain ⟨v,s,ev⟩:=b1 b hb
   unfold JV at hu s
   rw [<-e,eu] at s
   obtain ⟨_,w',ax,hR⟩:=hf a ha b hb e u v hu s
   grind) h hr
  grind
end
end Go.AM.YtpjenobkibfpcaaGreat
namespace Go.AM.YtpjenobkibfpcaaGreat
open Go.AM Go.Proofs
theorem Z2q(m:Int)(h0:0<=m)(h1:m < 256)(i:Nat):Ys m (i:Int)=(BitVec.ofInt 8 m).toNat.testBit i:=by
 obtain ⟨n,rfl⟩:=X6 h0
 have e:(BitVec.ofInt 8 ((n:Nat):Int)).toNat=n:=by simp;omega
 rw [e,Nat.testBit_eq_decide_div_mod_eq]
 unfold Ys
 grind
theorem Z4i{a b:Int}(ha:0<=a/\a < 256)(hb:0<=b/\b < 256):(0<=Z0Y a b/\Z0Y a b < 256)/\∀ i:Nat,Ys (Z0Y a b) (i:Int)=(Ys a (i:Int) && Ys b (i:Int)):=by
 have h:(BitVec.ofInt 8 a &&& BitVec.ofInt 8 b).toNat < 256:=(BitVec.ofInt 8 a &&& BitVec.ofInt 8 b).isLt
 have e:Z0Y a b=((BitVec.ofInt 8 a &&& BitVec.ofInt 8 b).toNat:Int):=by
  show IntKind.wrap .u8 ((BitVec.ofInt 8 a &&& BitVec.ofInt 8 b).toNat:Int)=_
  exact Z5m JX JX
 refine ⟨by rw [e];omega,fun i=> ?_⟩
 rw [Z2q _ (by rw [e];omega) (by rw [e];omega),e,Z2q a ha.1 ha.2,Z2q b hb.1 hb.2]
 grind
theorem ZwZ{a b:Int}(ha:0<=a/\a < 256)(hb:0<=b/\b < 256):(0<=orM a b/\orM a b < 256)/\∀ i:Nat,Ys (orM a b) (i:Int)=(Ys a (i:Int) || Ys b (i:Int)):=by
 have h:(BitVec.ofInt 8 a ||| BitVec.ofInt 8 b).toNat < 256:=(BitVec.ofInt 8 a ||| BitVec.ofInt 8 b).isLt
 have e:orM a b=((BitVec.ofInt 8 a ||| BitVec.ofInt 8 b).toNat:Int):=by
  show IntKind.wrap .u8 ((BitVec.ofInt 8 a ||| BitVec.ofInt 8 b).toNat:Int)=_
  exact Z5m JX JX
 refine ⟨by rw [e];omega,fun i=> ?_⟩
 rw [Z2q _ (by rw [e];omega) (by rw [e];omega),e,Z2q a ha.1 ha.2,Z2q b hb.1 hb.2]
 grind
def doW(w:WEdit)(x:Int):Option Int:=if mix 0 x w.mask=w.old then some (mix x w.new w.mask) else none
theorem ZdK(i:Nat):Zl 0 i=0:=by unfold Zl;simp
theorem Z3Y{w m:Int}(h:ZG w m=true){i:Nat}(hi:i < 8)(hn:Ys m i=false):Zl w i=0:=by
 have h:mix w 0 m=0:=of_decide_eq_true h
 have e:=congrArg (fun x=> Zl x i) h
 simp only [Z2o hi,Jf,hn,ZdK] at e
 simpa using e
theorem Yn{a b m:Int}{i:Nat}(hi:i < 8):Zl (mix a b m) i=if Ys m i=true then Zl b i else Zl a i:=by rw [Z2o hi];try rfl
theorem ZuM{a b:WEdit}(ra:Z0O a)(rb:Z0O b)(oa:ZG a.old a.mask=true/\ZG a.new a.mask=true)(ob:ZG b.old b.mask=true/\ZG b.new b.mask=true){x:Int}(hx:isW x):
  (∀ w,(Ji a b).2=true->doW (Ji a b).1 x=some w->∃ u v,doW a x=some u/\doW b u=some v/\w=v)/\
  (∀ u v,doW a x=some u->doW b u=some v->(Ji a b).2=true/\∃ w,doW (Ji a b).1 x=some w/\w=v):=by
 have A:=Z4i ra.2.1 rb.2.1
 have O:=ZwZ ra.2.1 rb.2.1
 have ab:mix (mix x a.new a.mask) b.new b.mask=mix x (mix a.new b.new b.mask) (orM a.mask b.mask):=by
  refine Z02 (J7 _ _ _) (J7 _ _ _) fun i h=> ?_
  rw [Yn h,Yn h,Yn h,Yn h,O.2]
  cases Ys a.mask i <;> cases Ys b.mask i <;> simp
 refine ⟨fun w hc hw=> ?_,fun u v hu hv=> ?_⟩
 .unfold Ji at hc hw
  by_cases ho:ZcL a b=true
  .rw [if_pos ho] at hw
   unfold doW at hw
   simp only at hw
   split at hw
   .rename_i aa
    cases hw
    have aj:mix 0 a.new (Z0Y a.mask b.mask)=mix 0 b.old (Z0Y a.mask b.mask):=of_decide_eq_true ho
    have e1:mix 0 x a.mask=a.old:=by
     refine Z02 (J7 _ _ _) ra.2.2.1 fun i h=> ?_
     have e:=congrArg (fun y=> Zl y i) aa
     simp only [Yn h,O.2] at e
     rw [Yn h]
     cases hn:Ys a.mask i with
     | true=> rw [hn] at e;simpa using e
     | false=> rw [Z3Y oa.1 h hn,ZdK];simp
    have e2:mix 0 (mix x a.new a.mask) b.mask=b.old:=by
     refine Z02 (J7 _ _ _) rb.2.2.1 fun i h=> ?_
     have e:=congrArg (fun y=> Zl y i) aa
     have s:=congrArg (fun y=> Zl y i) aj
     simp only [Yn h,O.2] at e
     simp only [Yn h,A.2] at s
     rw [Yn h,Yn h]
     cases hb:Ys b.mask i with
     | true=>
      cases ha:Ys a.mask i with
      | true=> rw [ha,hb] at s;simpa using s
      | false=> rw [ha,hb] at e;simpa using e
     | false=> rw [Z3Y ob.1 h hb,ZdK];simp
    refine ⟨mix x a.new a.mask,mix (mix x a.new a.mask) b.new b.mask,?_,?_,ab.symm⟩
    .unfold doW;rw [if_pos e1]
    .unfold doW;rw [if_pos e2]
   .cases hw
  .rw [if_neg ho] at hc;cases hc
 .unfold doW at hu hv
  split at hu
  .rename_i e1
   cases hu
   split at hv
   .rename_i e2
    cases hv
    have ho:ZcL a b=true:=by
     refine decide_eq_true (Z02 (J7 _ _ _) (J7 _ _ _) fun i h=> ?_)
     have e:=congrArg (fun y=> Zl y i) e2
     simp only [Yn h] at e
     rw [Yn h,Yn h,A.2]
     cases ha:Ys a.mask i <;> cases hb:Ys b.mask i <;> rw [ha,hb] at e <;> simp at e ⊢
     exact e
    unfold Ji
    rw [if_pos ho]
    refine ⟨rfl,mix x (mix a.new b.new b.mask) (orM a.mask b.mask),?_,ab.symm⟩
    unfold doW
    simp only
    rw [if_pos]
    refine Z02 (J7 _ _ _) (J7 _ _ _) fun i h=> ?_
    have e:=congrArg (fun y=> Zl y i) e1
    have s:=congrArg (fun y=> Zl y i) e2
    simp only [Yn h] at e s
    rw [Yn h,Yn h,O.2]
    cases ha:Ys a.mask i <;> cases hb:Ys b.mask i <;> rw [ha] at e s <;> rw [hb] at s <;> simp at e s ⊢
    all_goals first | exact s | exact e | exact (ZdK i).symm.trans s | exact (ZdK i).trans ((ZdK i).symm.trans s)
   .cases hv
  .cases hu
theorem Z5l(tw:List Int)(ws:List WEdit)(out:List Int):wsD tw ws out=mg 0 (JV 0 doW WEdit.at_ tw) WEdit.at_ ws out:=Zj7 tw ws out
theorem Z3R(tk:List Tree)(ks:List Kid)(out:List Tree):Jy false tk ks out=mg Tree.nil (JV Tree.nil (fun k:Kid=> doE false k.e) KidOf.at_ tk) KidOf.at_ ks out:=by
 rw [ZeK]
 congr 1
 funext k
 exact Z5a false tk k
theorem Zs1(a b:WEdit)(h:(Ji a b).2=true):(Ji a b).1.at_=a.at_:=by
 unfold Ji at h ⊢
 grind
theorem Y3{e:Edit}{d:Int}(h:Z3 e d=true):∀ o∈e.ops,ZX o:=Z9x (Zh h).ops
theorem Z8W {f g:Edit->Edit->Edit × Bool} {p q:Edit} {d d':Int} (hp:Z3 p d=true) (hq:Z3 q d'=true)
  (h:∀ a b,Z8 a+Z8 b < Z8 p+Z8 q->(∃ d,Z3 a d=true)->(∃ d,Z3 b d=true)->f a b=g a b):Z0e f p q=Z0e g p q:=by
 have rp:=Zh hp
 have rq:=Zh hq
 have hk:Zm KidOf.at_ (Z1I f) p.kids q.kids=Zm KidOf.at_ (Z1I g) p.kids q.kids:=by
  have af:∀ (k:Nat) (a b:List Kid),a.length+b.length<=k->(∀ x∈a,x∈p.kids)->(∀ x∈b,x∈q.kids)->Zm KidOf.at_ (Z1I f) a b=Zm KidOf.at_ (Z1I g) a b:=by
   intro k
   induction k with
   | zero=>
    intro a b hn _ _
    have e1:a=[]:=Q5 JX
    subst e1
    rw [Zm,Zm]
   | succ k ihk=>
    intro a b hn ha s
    match a,b with
    | [],b=> rw [Zm,Zm]
    | x ::a,[]=> rw [Zm,Zm]
    | x ::a,y ::b=>
     simp only [Qm] at hn
     have u:=Yd (ha x Q7)
     have hy:=Yd (s y Q7)
     have e:Z1I f x y=Z1I g x y:=by
      unfold Z1I
      rw [h x.e y.e JX ⟨_,(Zs rp.kids x (ha x Q7)).2⟩ ⟨_,(Zs rq.kids y (s y Q7)).2⟩]
     rw [Zm,Zm,e,ihk a (y ::b) (by simp only [Qm];omega) (fun z hz=> ha z (Q0 _ hz)) s,ihk (x ::a) b (by simp only [Qm];omega) ha (fun z hz=> s z (Q0 _ hz)),
      ihk a b JX (fun z hz=> ha z (Q0 _ hz)) (fun z hz=> s z (Q0 _ hz))]
  exact af _ _ _ (Qb _) (fun x u=> u) (fun x u=> u)
 have ho:Z1n f p.ops q.ops=Z1n g p.ops q.ops:=by
  unfold Z1n
  obtain ⟨i1,_⟩:=ZaP _ p.ops q.ops [] (Qb _) (Y3 hp) (Y3 hq)
  by_cases s:(ZA 1 2 p.ops q.ops []).2.1=true
  .rw [if_pos s,if_pos s]
   obtain ⟨ps,e,ae,hA,hB⟩:=i1 s
   rw [e,Qt]
   clear e i1 s hA hB
   induction ps with
   | nil=> rfl
   | cons x r ihr=>
    have u:=ae x Q7
    have e:ZQ f x=ZQ g x:=by
     unfold ZQ
     by_cases h1:x.of=1\/(x.of=0/\x.q.kind=0)
     .grind
     rw [if_neg h1,if_neg h1]
     by_cases h2:x.of=2\/x.p.kind=0
     .grind
     rw [if_neg h2,if_neg h2]
     by_cases h3:x.p.kind=2/\x.q.kind=1
     .grind
     rw [if_neg h3,if_neg h3]
     by_cases h4:x.p.kind=2
     .grind
     rw [if_neg h4,if_neg h4]
     by_cases h5:x.q.kind=1
     .grind
     rw [if_neg h5,if_neg h5]
     have h0:x.of=0:=by rcases u.of with h | h | h <;> omega
     obtain ⟨aq,aw,hl⟩:=u.both h0
     obtain ⟨⟨o1,m1,k1,e1,_⟩,op⟩:=u.pp JX
     obtain ⟨⟨o2,m2,k2,e2,_⟩,oq⟩:=u.qq JX
     have a1:x.p.kind=3:=by rcases ZH op with h | h | h | h <;> omega
     have ax:x.q.kind=3:=by rcases ZH oq with h | h | h | h <;> omega
     have:=YV m1
     have:=YV m2
     have r1:=YH (rightOs_mem rp.ops m1) JX
     have r2:=YH (rightOs_mem rq.ops m2) JX
     rw [e1,e2,h o1.e o2.e JX ⟨_,r1⟩ ⟨_,r2⟩]
    rw [Z1m,Z1m,e,ihr fun y hy=> ae y (Q0 _ hy)]
  .grind
 unfold Z0e
 rw [hk,ho]
theorem ZiU:∀ (n m:Nat) (p q:Edit) (d s:Int),Z3 p d=true->Z3 q s=true->Z8 p+Z8 q<=n->n<=m->ZdY m p q=ZdY n p q:=by
 intro n
 induction n with
 | zero=> intro m p q d s _ _ h;obtain ⟨k,o,nw,w,ks,l,os⟩:=p;simp only [Z8] at h;omega
 | succ n ih=>
  intro m p q d s hp hq h hm
  obtain ⟨m,rfl⟩:∃ k,m=k+1:=⟨m - 1,JX⟩
  show Z0e (ZdY m) p q=Z0e (ZdY n) p q
  exact Z8W hp hq fun a b u ⟨d1,h1⟩ ⟨d2,h2⟩=> ih m a b d1 d2 h1 h2 JX JX
theorem Zul{p q:Edit}{d d':Int}(hp:Z3 p d=true)(hq:Z3 q d'=true):Yt p q=Z0e Yt p q:=by
 have e:Yt p q=ZdY (Z8 p+Z8 q+1) p q:=(ZiU _ _ p q d d' hp hq (Qb _) JX).symm
 rw [e]
 show Z0e (ZdY (Z8 p+Z8 q)) p q=Z0e Yt p q
 exact Z8W hp hq fun a b s ⟨u,h⟩ ⟨d2,h2⟩=> ZiU _ _ a b u d2 h h2 (Qb _) JX
theorem ZmS(t:Tree):Eqv (Z0 t) t:=ZI t
theorem Z9H{e:Edit}(h:e.kind=0)(t:Tree):doE false e t=some t:=by rw [Z18,YA,if_pos h]
theorem ZmV{e:Edit}(h:e.kind=1)(t:Tree):doE false e t=if Yf (Z0 e.old) (Z0 t)=true then some e.new else none:=by rw [Z18,YA,J3,if_pos h]
theorem ZoO{e:Edit}(h:e.kind=2)(t:Tree):doE false e t=if t.kind=1 then (wsD t.words e.words t.words).bind fun a=> (Jy false t.kids e.kids t.kids).map fun b=> .mk 1 a b else none:=by
 rw [Z18,YA,J3,J3,if_pos h]
theorem ZoN{e:Edit}(h:e.kind=3)(t:Tree):doE false e t=if t.kind=e.list then (Z22 (ZM false e.ops t.kids [])).map fun b=> .mk e.list [] b else none:=by
 rw [Z18,YA,J3,J3,J3,if_pos h]
theorem ZrW(o n t:Tree):doE false (.mk 1 o n [] [] 0 []) t=if Yf (Z0 o) (Z0 t)=true then some n else none:=ZmV rfl t
theorem ZrV(w:List WEdit)(ks:List Kid)(t:Tree):doE false (.mk 2 Tree.nil Tree.nil w ks 0 []) t=if t.kind=1 then (wsD t.words w t.words).bind fun a=> (Jy false t.kids ks t.kids).map fun b=> .mk 1 a b else none:=ZoO rfl t
theorem Zz5(l:Int)(os:List Op)(t:Tree):doE false (.mk 3 Tree.nil Tree.nil [] [] l os) t=if t.kind=l then (Z22 (ZM false os t.kids [])).map fun b=> .mk l [] b else none:=ZoN rfl t
theorem Z7k{e:Edit}{t v:Tree}(h:doE false e t=some v):doB e t=(Z0 v,true):=by unfold doB;rw [h];try rfl
theorem ZmZ{e:Edit}{t:Tree}(h:doE false e t=none):(doB e t).2=false:=by unfold doB;rw [h];try rfl
theorem ZC{e:Edit}(h:ZZ e):rng e.old/\rng e.new/\(∀ x∈e.words,Z0O x)/\Z0P e.kids/\Z0j e.ops:=by
 obtain ⟨k,o,n,w,ks,l,os⟩:=e
 exact ⟨h.2.1,h.2.2.1,h.2.2.2.1,h.2.2.2.2.2.1,h.2.2.2.2.2.2⟩
theorem ZeB{e:Edit}{d:Int}(hr:Z3 e d=true)(he:ZZ e){o:Op}(h:Part e.ops o):ROp o:=by
 obtain ⟨o',m,k,e1,_,l⟩:=h
 have ro:=rightOs_mem (Zh hr).ops m
 have rg:=Z0z (ZC he).2.2.2.2 m
 have aa:=Jr rg
 refine ⟨fun h3=> ⟨⟨_,by rw [e1];exact YH ro JX⟩,by grind⟩,fun t ht=> ?_⟩
 have s:=l t ht
 refine ⟨?_,YC aa.2.2.1 s⟩
 have R:=ZN ro
 by_cases h3:e.kind=3
 .have u:=(Zh hr).list h3
  generalize e.list=li at R u
  cases R with
  | keep=> cases s
  | into=> cases s
  | gone l1 h1=> exact ⟨-1,(JC u h1 t s).2⟩
  | come l1 h1=> exact ⟨-1,(JC u h1 t s).2⟩
 .have:=(Zh hr).ops0 h3
  grind
theorem ZkN{t:Tree}(h:RT_ t):∀ k∈t.kids,RT_ k:=h.kids.1
theorem Zza {f:Edit->Edit->Edit × Bool} {p q:Edit} {d d':Int} (hp:Z3 p d=true) (hq:Z3 q d'=true) (gp:ZZ p) (gq:ZZ q) (k3:p.kind=3) (l3:q.kind=3) (hl:p.list=q.list)
  (ih:∀ a b,Z8 a+Z8 b < Z8 p+Z8 q->(∃ d,Z3 a d=true)->(∃ d,Z3 b d=true)->ZZ a->ZZ b->ComOk (f a b) a b):
  ComOk (.mk 3 Tree.nil Tree.nil [] [] p.list (ofO (Z1n f p.ops q.ops)),(Z1n f p.ops q.ops).isSome) p q:=by
 have ba:=(Zh hp).list k3
 have kp:∀ o∈p.ops,kOk o:=fun o ho=> ZH (Y3 hp o ho)
 have kq:∀ o∈q.ops,kOk o:=fun o ho=> ZH (Y3 hq o ho)
 obtain ⟨i1,i2⟩:=ZaP _ p.ops q.ops [] (Qb _) (Y3 hp) (Y3 hq)
 have af:∀ ps:List Piece,(∀ x∈ps,POk p.ops q.ops x)->(∀ x∈ps,(x.of≠2->ROp x.p)/\(x.of≠1->ROp x.q))/\∀ x∈ps,x.p.kind=3->x.q.kind=3->x.of=0->ComOk (f x.p.e x.q.e) x.p.e x.q.e:=by
  intro ps s
  refine ⟨fun x hx=> ⟨fun h=> ZeB hp gp ((s x hx).pp h).1,fun h=> ZeB hq gq ((s x hx).qq h).1⟩,fun x hx h1 h2 h0=> ?_⟩
  have ai:=s x hx
  have s1:=(ZeB hp gp (ai.pp JX).1).1 h1
  have s2:=(ZeB hq gq (ai.qq JX).1).1 h2
  obtain ⟨o1,m1,_,e1,_⟩:=(ai.pp JX).1
  obtain ⟨o2,m2,_,e2,_⟩:=(ai.qq JX).1
  have:=YV m1
  have:=YV m2
  exact ih _ _ (by grind) s1.1 s2.1 s1.2 s2.2
 refine ⟨fun {t w} ht hc hw=> ?_,fun {t u v} ht hu hv=> ?_⟩
 .rw [Zz5] at hw
  split at hw
  .rename_i ak
   obtain ⟨b,hb,rfl⟩:=Q9.1 hw
   cases aa:Z1n f p.ops q.ops with
   | none=> grind
   | some ops=>
    rw [aa] at hb
    unfold Z1n at aa
    split at aa
    .rename_i aj
     obtain ⟨ps,e,s,hP,hQ⟩:=i1 aj
     rw [e,Qt] at aa
     obtain ⟨f1,f2⟩:=af ps s
     have ah:∀ o∈ops,kOk o:=by
      have:∀ (ps:List Piece) (ops:List Op),(∀ x∈ps,POk p.ops q.ops x)->Z1m f ps=some ops->∀ o∈ops,kOk o:=by
       intro ps
       induction ps with
       | nil=> intro ops _ h o ho;cases h;cases ho
       | cons x r ihp=>
        intro ops s h o ho
        rw [Z1m] at h
        split at h
        .obtain ⟨l,hl,rfl⟩:=Q9.1 h
         rcases Qj.1 ho with ho | ho
         .split at ho
          .rw [Qg.1 ho];exact ZoU (s x Q7)
          .cases ho
         grind
        .cases h
      exact this ps ops s aa
     have hr:=(Z4f ah).1 hb
     obtain ⟨m,dd,r1,r2,he⟩:=Zgm s f1 f2 (ZkN ht) aa hr
     refine ⟨.mk p.list [] m,.mk q.list [] dd,?_,?_,?_⟩
     .rw [ZoN k3,if_pos ak,(Z4f kp).2 ((hP _ _).2 r1)];try rfl
     .rw [ZoN l3,if_pos (show (Tree.mk p.list [] m).kind=q.list from hl)]
      simp only [Tree.kids_mk]
      rw [(Z4f kq).2 ((hQ _ _).2 r2)];try rfl
     .rw [hl]
      exact Z71 _ _ he
    .cases aa
  .cases hw
 .rw [ZoN k3] at hu
  split at hu
  .rename_i ak
   obtain ⟨m,hm,rfl⟩:=Q9.1 hu
   rw [ZoN l3,if_pos (show (Tree.mk p.list [] m).kind=q.list from hl)] at hv
   simp only [Tree.kids_mk] at hv
   obtain ⟨dd,hd,rfl⟩:=Q9.1 hv
   have r1:=(Z4f kp).1 hm
   have r2:=(Z4f kq).1 hd
   cases aj:(ZA 1 2 p.ops q.ops []).2.1 with
   | false=> grind
   | true=>
    obtain ⟨ps,e,s,hP,hQ⟩:=i1 aj
    obtain ⟨f1,f2⟩:=af ps s
    obtain ⟨ops,w,c1,c2,c3⟩:=Zgn s f1 f2 (ZkN ht) ((hP _ _).1 r1) ((hQ _ _).1 r2)
    have aa:Z1n f p.ops q.ops=some ops:=by unfold Z1n;grind
    have ah:Z22 (ZM false ops t.kids [])=some w:=by
     have:=Zns c2 []
     unfold Z22
     rw [this]
     simp
    rw [aa]
    refine ⟨rfl,.mk p.list [] w,?_,?_⟩
    .rw [Zz5,if_pos ak]
     show (Z22 (ZM false ops t.kids [])).map _=_
     rw [ah];try rfl
    .rw [<-hl]
     exact Z71 _ _ c3
  .cases hu
theorem ZoT {f:Edit->Edit->Edit × Bool} {p q:Edit} {d d':Int} (hp:Z3 p d=true) (hq:Z3 q d'=true) (gp:ZZ p) (gq:ZZ q) (k2:p.kind=2) (l2:q.kind=2)
  (ih:∀ a b,Z8 a+Z8 b < Z8 p+Z8 q->(∃ d,Z3 a d=true)->(∃ d,Z3 b d=true)->ZZ a->ZZ b->ComOk (f a b) a b):
  ComOk (if (Zm WEdit.at_ Ji p.words q.words).isSome then
   (.mk 2 Tree.nil Tree.nil (ofO (Zm WEdit.at_ Ji p.words q.words)) (ofO (Zm KidOf.at_ (Z1I f) p.kids q.kids)) 0 [],(Zm KidOf.at_ (Z1I f) p.kids q.kids).isSome) else (Edit.nil,false)) p q:=by
 have rp:=Zh hp
 have rq:=Zh hq
 have wp:=Z03 rp.words
 have wq:=Z03 rq.words
 have ap:=Z0U rp.kids
 have aq:=Z0U rq.kids
 have g1:=ZC gp
 have g2:=ZC gq
 have hw:∀ a∈p.words,∀ b∈q.words,∀ x,isW x->(∀ w,(Ji a b).2=true->doW (Ji a b).1 x=some w->∃ u v,doW a x=some u/\doW b u=some v/\w=v)/\
   (∀ u v,doW a x=some u->doW b u=some v->(Ji a b).2=true/\∃ w,doW (Ji a b).1 x=some w/\w=v):=by
  intro a s b hb x hx
  have oa:=YQ rp.words a s
  have ob:=YQ rq.words b hb
  exact ZuM (g1.2.2.1 a s) (g2.2.2.1 b hb) oa.2.2.2 ob.2.2.2 hx
 have hk:∀ a∈p.kids,∀ b∈q.kids,ComOk (f a.e b.e) a.e b.e:=by
  intro a s b hb
  have:=Yd s
  have:=Yd hb
  exact ih _ _ JX ⟨_,(Zs rp.kids a s).2⟩ ⟨_,(Zs rq.kids b hb).2⟩ (Y6 g1.2.2.2.1 s).2 (Y6 g2.2.2.2.1 hb).2
 have af:∀ a b:Kid,a.at_=b.at_->(Z1I f a b).2=true->(Z1I f a b).1.at_=a.at_:=fun a b _ _=> rfl
 have ae:∀ a b:WEdit,a.at_=b.at_->(Ji a b).2=true->(Ji a b).1.at_=a.at_:=fun a b _ h=> Zs1 a b h
 refine ⟨fun {t w} ht hc ab=> ?_,fun {t u v} ht hu hv=> ?_⟩
 .cases hm:Zm WEdit.at_ Ji p.words q.words with
  | none=> grind
  | some L=>
   cases hn:Zm KidOf.at_ (Z1I f) p.kids q.kids with
   | none=> grind
   | some M=>
    rw [hm,hn] at ab
    rw [if_pos (show (some L).isSome=true from rfl)] at ab
    rw [ZrV] at ab
    split at ab
    .rename_i t1
     obtain ⟨a,s,ab⟩:=Qd.1 ab
     obtain ⟨b,hb,rfl⟩:=Q9.1 ab
     have s:wsD t.words L t.words=some a:=s
     have hb:Jy false t.kids M t.kids=some b:=hb
     rw [Z5l] at s
     rw [Z3R] at hb
     obtain ⟨a1,a2,x1,x2,x3⟩:=Zjr (R:=Eq) ae (fun x=> rfl) wp wq (fun a s b hb e w hc ah=> (hw a s b hb _ (Z9N (Zeh ht.2).2.1 _)).1 w hc ah) hm s
     obtain ⟨b1,b2,y1,y2,y3⟩:=Zjr (R:=Eqv) af (fun x=> rfl) ap aq (fun a s b hb e w hc ah=> (hk a s b hb).fwd (Z7s (ZkN ht) _) hc ah) hn hb
     refine ⟨.mk 1 a1 b1,.mk 1 a2 b2,?_,?_,?_⟩
     .rw [ZoO k2,if_pos t1,Z5l,x1,Z3R,y1];try rfl
     .rw [ZoO l2,if_pos (show (Tree.mk 1 a1 b1).kind=1 from rfl)]
      simp only [Tree.words_mk,Tree.kids_mk]
      rw [Z5l,x2,Z3R,y2];try rfl
     .exact (Z21 rfl rfl).2 ⟨x3,y3⟩
    .cases ab
 .rw [ZoO k2] at hu
  split at hu
  .rename_i t1
   obtain ⟨a1,x1,hu⟩:=Qd.1 hu
   obtain ⟨b1,y1,rfl⟩:=Q9.1 hu
   rw [ZoO l2,if_pos (show (Tree.mk 1 a1 b1).kind=1 from rfl)] at hv
   simp only [Tree.words_mk,Tree.kids_mk] at hv
   obtain ⟨a2,x2,hv⟩:=Qd.1 hv
   obtain ⟨b2,y2,rfl⟩:=Q9.1 hv
   rw [Z5l] at x1 x2
   rw [Z3R] at y1 y2
   obtain ⟨L,a,hm,s,x3⟩:=ZpL (R:=Eq) ae (fun x=> rfl) wp wq (fun a s b hb e u v h1 h2=> (hw a s b hb _ (Z9N (Zeh ht.2).2.1 _)).2 u v h1 h2) x1 x2
   obtain ⟨M,b,hn,hb,y3⟩:=ZpL (R:=Eqv) af (fun x=> rfl) ap aq (fun a s b hb e u v h1 h2=> (hk a s b hb).bwd (Z7s (ZkN ht) _) h1 h2) y1 y2
   rw [hm,hn,if_pos (show (some L).isSome=true from rfl)]
   refine ⟨rfl,.mk 1 a b,?_,(Z21 rfl rfl).2 ⟨x3,y3⟩⟩
   rw [ZrV,if_pos t1]
   show (wsD t.words L t.words).bind _=_
   rw [Z5l,s]
   show (Jy false t.kids M t.kids).map _=_
   rw [Z3R,hb];try rfl
  .cases hu
theorem Zuk {p q:Edit} {d d':Int} (hp:Z3 p d=true) (hq:Z3 q d'=true) (p0:¬p.kind=0) (p1:¬p.kind=1) (q0:¬q.kind=0) (q1:¬q.kind=1) (hd:p.kind≠q.kind\/p.list≠q.list)
  {t u v:Tree} (hu:doE false p t=some u) (hv:doE false q u=some v):False:=by
 have rp:=Zh hp
 have h:=Zh hq
 have pk:=rp.kind
 have qk:=h.kind
 obtain ⟨_,a2,s,_⟩:=Z2Z hp hu
 obtain ⟨_,b2,b3,_⟩:=Z2Z hq hv
 by_cases p2:p.kind=2
 .have u1:=(a2 p2).1
  by_cases q2:q.kind=2
  .have e1:=(rp.ops0 JX).1
   have e2:=(h.ops0 JX).1
   omega
  .have e1:=(b3 JX).2
   have e2:=h.list JX
   omega
 .have u1:=(s JX).1
  have e0:=rp.list JX
  grind
theorem ZCi:∀ (n:Nat) (p q:Edit) (d d':Int),Z8 p+Z8 q<=n->Z3 p d=true->Z3 q d'=true->ZZ p->ZZ q->ComOk (ZdY n p q) p q:=by
 intro n
 induction n with
 | zero=> intro p q d d' h;obtain ⟨k,o,nw,w,ks,l,os⟩:=p;simp only [Z8] at h;omega
 | succ n ih=>
  intro p q d d' hn hp hq gp gq
  have rp:=Zh hp
  have rq:=Zh hq
  have ai:∀ a b,Z8 a+Z8 b < Z8 p+Z8 q->(∃ d,Z3 a d=true)->(∃ d,Z3 b d=true)->ZZ a->ZZ b->ComOk (ZdY n a b) a b:=by
   rintro a b hm ⟨d1,h1⟩ ⟨d2,h2⟩ g1 g2
   exact ih a b d1 d2 JX h1 h2 g1 g2
  show ComOk (Z0e (ZdY n) p q) p q
  unfold Z0e
  by_cases p0:p.kind=0
  .rw [if_pos p0]
   exact ⟨fun {t w} _ _ hw=> ⟨t,w,Z9H p0 t,hw,rfl⟩,fun {t u v} _ hu s=> by rw [Z9H p0] at hu;cases hu;exact ⟨rfl,v,s,rfl⟩⟩
  rw [if_neg p0]
  by_cases q0:q.kind=0
  .rw [if_pos q0]
   exact ⟨fun {t w} _ _ hw=> ⟨w,w,hw,Z9H q0 w,rfl⟩,fun {t u v} _ hu s=> by rw [Z9H q0] at s;cases s;exact ⟨rfl,u,hu,rfl⟩⟩
  rw [if_neg q0]
  by_cases p1:p.kind=1
  .rw [if_pos p1]
   refine ⟨fun {t w} _ hc hw=> ?_,fun {t u v} _ hu s=> ?_⟩
   .rw [ZrW] at hw
    split at hw
    .rename_i hs
     cases s:doE false q p.new with
     | none=> rw [ZmZ s] at hc;cases hc
     | some v=>
      rw [Z7k s] at hw
      cases hw
      exact ⟨p.new,v,by rw [ZmV p1,if_pos hs],s,ZmS v⟩
    .cases hw
   .rw [ZmV p1] at hu
    split at hu
    .rename_i hs
     cases hu
     rw [Z7k s]
     refine ⟨rfl,Z0 v,?_,ZmS v⟩
     rw [ZrW,if_pos hs]
    .cases hu
  rw [if_neg p1]
  by_cases q1:q.kind=1
  .rw [if_pos q1]
   have ho:RT_ q.old:=⟨⟨_,(rq.rep q1).1⟩,(ZC gq).1⟩
   refine ⟨fun {t w} ht hc hw=> ?_,fun {t u v} ht hu s=> ?_⟩
   .rw [ZrW] at hw
    split at hw
    .rename_i hs
     cases hw
     cases hz:doE false (Zj (Zn p)) q.old with
     | none=> rw [ZmZ hz] at hc;cases hc
     | some z=>
      rw [Z7k hz,J6,ZI] at hs
      obtain ⟨y,hy,ao⟩:=Zlt hp gp ho hz hs
      refine ⟨y,q.new,hy,?_,rfl⟩
      rw [ZmV q1,if_pos]
      rw [J6]
      exact ao.symm
    .cases hw
   .rw [ZmV q1] at s
    split at s
    .rename_i hs
     cases s
     rw [J6] at hs
     obtain ⟨z,hz,aq⟩:=Z9Q hp gp ht ho hu hs.symm
     rw [Z7k hz]
     refine ⟨rfl,q.new,?_,rfl⟩
     rw [ZrW,if_pos]
     rw [J6,ZI]
     exact aq
    .cases s
  rw [if_neg q1]
  have pk:=rp.kind
  have qk:=rq.kind
  by_cases hd:p.kind≠q.kind\/p.list≠q.list
  .rw [if_pos hd]
   exact ⟨fun {t w} _ hc _=> (by cases hc),fun {t u v} _ hu s=> (Zuk hp hq p0 p1 q0 q1 hd hu s).elim⟩
  rw [if_neg hd]
  by_cases p2:p.kind=2
  .rw [if_pos p2]
   exact ZoT hp hq gp gq p2 JX ai
  .rw [if_neg p2]
   exact Zza hp hq gp gq JX JX JX ai
theorem Zz9{p q:Edit}{d d':Int}(hp:Z3 p d=true)(hq:Z3 q d'=true)(gp:ZZ p)(gq:ZZ q):ComOk (Yt p q) p q:=ZCi _ p q d d' (Qb _) hp hq gp gq
noncomputable def rp(f:Edit->Edit->Edit × Bool)(x:APair):List Op × Bool:=
 if x.of=1 then ([opU x.p],true) else if x.of=2 then ([opU x.q],true) else ZLG f x.p x.q
structure Alike (c r:Edit × Bool):Prop where
 ok:c.2=r.2
 nrm:c.2=true->Zj c.1=Zj r.1
section
variable {g:Edit->Edit->Edit × Bool}
end
theorem ZFw(w:List WEdit)(a:List Kid):Zj (.mk 2 Tree.nil Tree.nil w a 0 [])= .mk 2 Tree.nil Tree.nil w (Z0R a) 0 []:=by rfl
end Go.AM.YtpjenobkibfpcaaGreat
namespace Go.AM.YtpjenobkibfpcaaGreat
open Go.AM Go.Proofs
theorem Z9I(e:Edit):18<=ctE e:=by
 have:=Z23 e
 have:=Jp e.old
 have:=Jp e.new
 omega
theorem Zs0(o n:Tree):ctE (.mk 1 o n [] [] 0 [])=16+Zo o+Zo n:=by rfl
mutual
theorem ZbL:∀ (e:Edit),ctE (Zn e)=ctE e
 | .mk k o n w ks l os=> by
  have s:=ZiR ks
  have h:=ZiQ os
  simp only [Zn,ctE,X3]
  omega
theorem ZiR:∀ (ks:List (KidOf Edit)),Z0W (Y9 ks)=Z0W ks
 | []=> rfl
 | k ::r=> by
  have s:=ZoP k
  have h:=ZiR r
  simp only [Y9,Z0W]
  omega
theorem ZoP:∀ (k:KidOf Edit),Z3U (YY k)=Z3U k
 | ⟨a,e⟩=> by
  have:=ZbL e
  simp only [YY,Z3U]
  omega
theorem ZiQ:∀ (os:List (OpOf Edit)),Jh (Ye os)=Jh os
 | []=> rfl
 | o ::r=> by
  have s:=Zuh o
  have h:=ZiQ r
  simp only [Ye,Jh]
  omega
theorem Zuh:∀ (o:OpOf Edit),Z3S (Y8 o)=Z3S o
 | ⟨k,n,l,e⟩=> by
  have:=ZbL e
  rw [Z04]
  dsimp only
  split
  .try rfl
  .split
   .try rfl
   .split
    .simp only [Z3S];omega
    .try rfl
end
theorem Z5b:∀ (a b:List Op),Jh (a++b)=Jh a+Jh b
 | [],b=> by simp [Jh]
 | o ::r,b=> by simp only [QA,Jh,Z5b r b];omega
def ctW(w:Wst):Nat:=Jh w.out+(Zg w.gone+if w.gone.length=0 then 0 else 34)+(Zg w.brought+if w.brought.length=0 then 0 else 34)
theorem Z7o:ctE Edit.nil=18:=rfl
theorem Zhe(w:Wst):Jh (Zi w).out=ctW w:=by
 simp only [Zi,Z0L,ctW,Z5b]
 by_cases h1:w.gone.length=0
 .rw [if_pos h1,if_pos h1,Q5 h1]
  by_cases h2:w.brought.length=0
  .rw [if_pos h2,if_pos h2,Q5 h2];try rfl
  .rw [if_neg h2,if_neg h2];simp only [Jh,Z3S,Z7o,Zg];omega
 .rw [if_neg h1,if_neg h1]
  by_cases h2:w.brought.length=0
  .rw [if_pos h2,if_pos h2,Q5 h2];simp only [Jh,Z3S,Z7o,Zg];omega
  .rw [if_neg h2,if_neg h2];simp only [Jh,Z3S,Z7o];omega
theorem ZrY(w:Wst)(n:Int):ctW (Yr w n)<=ctW w+34:=by
 have h:=Zhe w
 have e:ctW (Yr w n)=Jh (Z2u (Zi w).out n):=rfl
 rw [e,<-h]
 rcases JS (Zi w).out n with e | ⟨a,q,e1,_,e3⟩
 .rw [e,Z5b];simp only [Jh,Z3S,Z7o,Zg];omega
 .rw [e3,e1,Z5b,Z5b];simp only [Jh,Z3S,Z2f];omega
mutual
theorem Z4y:∀ (e:Edit),ctE (Zj e)<=ctE e
 | .mk k o n w ks l os=> by
  have h:=Zn2 ks
  have h2:=Zn1 l os ⟨[],[],[]⟩
  have u:=Ym o
  have s:=Ym n
  have:=Jp o
  have:=Jp n
  have hf:=Zhe (J1 l os ⟨[],[],[]⟩)
  have hz:ctW ⟨[],[],[]⟩=0:=rfl
  rw [Zj]
  split
  .simp only [ctE,Z0W,Jh,Qp];omega
  .split
   .simp only [ctE,Jh,Z1k];omega
   .split
    .simp only [ctE,Z0W,Z1k,Qp];omega
    .simp only [ctE,Z0W,Jh,Z1k,Qp];omega
theorem Zn2:∀ (ks:List (KidOf Edit)),Z0W (Z0R ks)<=Z0W ks
 | []=> Qb _
 | k ::r=> by
  have s:=Zui k
  have h:=Zn2 r
  simp only [Z0R,Z0W]
  omega
theorem Zui:∀ (k:KidOf Edit),Z3U (Z1T k)<=Z3U k
 | ⟨a,e⟩=> by
  have:=Z4y e
  simp only [Z1T,Z3U]
  omega
theorem Zn1(list:Int):∀ (os:List (OpOf Edit)) (w:Wst),ctW (J1 list os w)<=ctW w+Jh os
 | [],w=> Qb _
 | o ::r,w=> by
  have s:=Zz8 list o w
  have h:=Zn1 list r (Z1i list o w)
  simp only [J1,Jh]
  omega
theorem Zz8(list:Int):∀ (o:OpOf Edit) (w:Wst),ctW (Z1i list o w)<=ctW w+Z3S o
 | ⟨k,n,l,e⟩,w=> by
  have s:=Z4y e
  have h:=Z9I e
  have hl:=Z78 l
  have hc:=fun a b=> Jg a b
  rw [Z1i]
  simp only [Z3S]
  split
  .have:=ZrY w n;omega
  .split
   .have:=Jg w.gone (Z6 l)
    simp only [ctW]
    grind
   .split
    .have:=Jg w.brought (Z6 l)
     simp only [ctW]
     grind
    .split
     .split
      .have:=ZrY w 1;omega
      .have hf:=Zhe w
       show Jh ((Zi w).out++[⟨3,0,[],Zj e⟩])+_+_<=_
       rw [Z5b,hf]
       simp only [Jh,Z3S,Zg,Qp,if_pos]
       omega
     .omega
end
def Yv(φ:Op->Int):List Op->Int
 | []=> 0
 | o ::r=> φ o+Yv φ r
theorem Zfd(φ:Op->Int):∀ a b:List Op,Yv φ (a++b)=Yv φ a+Yv φ b
 | [],b=> by simp [Yv]
 | o ::r,b=> by simp only [QA,Yv,Zfd φ r b];omega
def Zpc(φ:Op->Int):Prop:=∀ o n,ZX o->1<=n->¬Z4 o<=n->φ (ZB o n)+φ (Jt o n)=φ o
theorem Z6p{φ:Op->Int}(hφ:Zpc φ){p:List Op}{n:Int}(hp:∀ o∈p,ZX o)(hl:p.length≠0)(h1:1<=n):φ (ZB (p.getD 0 Op.nil) n)+Yv φ (ZF p n)=Yv φ p/\∀ o∈ZF p n,ZX o:=by
 cases p with
 | nil=> grind
 | cons o r=>
  have u:=hp o Q7
  unfold ZF
  simp only [Qh,Qw,QM]
  by_cases h:Z4 o<=n
  .rw [if_pos h]
   have e:ZB o n=o:=by unfold ZB;rw [if_pos h]
   rw [e]
   exact ⟨rfl,fun x s=> hp x (Q0 _ s)⟩
  .rw [if_neg h]
   refine ⟨by simp only [Yv];have:=hφ o n u h1 h;omega,fun x s=> ?_⟩
   rcases Qa.1 s with rfl | s
   .exact (ZbN u h1 h).1
   grind
theorem ZaO{φ ψ:Op->Int}(hφ:Zpc φ)(hψ:Zpc ψ)(a:Int):∀ (k:Nat) (p q:List Op) (out:List Piece),p.length+q.length<=k->(∀ o∈p,ZX o)->(∀ o∈q,ZX o)->(ZA a 2 p q out).2.1=true->
  ∃ s,(ZA a 2 p q out).1=out++s/\Yv φ (Z1e s)=Yv φ p/\Yv ψ (Z1d s)=Yv ψ q/\s.length<=p.length+q.length:=by
 intro k
 induction k with
 | zero=>
  intro p q out hk hp u h
  have e1:p=[]:=Q5 JX
  have e2:q=[]:=Q5 JX
  subst e1 e2
  rw [ZA,dif_neg (by simp [sgl]),dif_neg (by simp [sgl]),dif_pos (by simp)]
  exact ⟨[],by simp,rfl,rfl,by simp⟩
 | succ k ih=>
  intro p q out hk hp u h
  rw [ZA] at h ⊢
  by_cases h1:sgl a p=true
  .rw [dif_pos h1] at h ⊢
   obtain ⟨g1,_⟩:=Yw.1 h1
   cases p with
   | nil=> grind
   | cons o r=>
    simp only [Qh,Qw,QM] at h ⊢
    obtain ⟨s,e,f1,f2,f3⟩:=ih r q _ (by grind) (fun x hx=> hp x (Q0 _ hx)) u h
    refine ⟨⟨1,o,Op.nil⟩ ::s,by grind,?_,?_,by grind⟩
    .show Yv φ (o ::Z1e s)=_
     simp only [Yv];omega
    .exact f2
  .rw [dif_neg h1] at h ⊢
   by_cases h2:sgl 2 q=true
   .rw [dif_pos h2] at h ⊢
    obtain ⟨g1,_⟩:=Yw.1 h2
    cases q with
    | nil=> grind
    | cons o r=>
     simp only [Qh,Qw,QM] at h ⊢
     obtain ⟨s,e,f1,f2,f3⟩:=ih p r _ (by grind) hp (fun x hx=> u x (Q0 _ hx)) h
     refine ⟨⟨2,Op.nil,o⟩ ::s,by grind,f1,?_,by grind⟩
     show Yv ψ (o ::Z1d s)=_
     simp only [Yv];omega
   .rw [dif_neg h2] at h ⊢
    by_cases h3:p.length=0\/q.length=0
    .rw [dif_pos h3] at h ⊢
     by_cases h4:decide (p.length=0)=decide (q.length=0)
     .rw [if_pos h4]
      have h5:p.length=0/\q.length=0:=by
       have:=decide_eq_decide.1 h4
       omega
      rw [Q5 h5.1,Q5 h5.2]
      exact ⟨[],by simp,rfl,rfl,by simp⟩
     grind
    .rw [dif_neg h3] at h ⊢
     have l1:p.length≠0:=JX
     have l2:q.length≠0:=JX
     have p1:=ZJ (hp _ (Zk (l:=p) (i:=0) JX Op.nil))
     have p2:=ZJ (u _ (Zk (l:=q) (i:=0) JX Op.nil))
     generalize hn:min (Z4 (p.getD 0 Op.nil)) (Z4 (q.getD 0 Op.nil))=n at h ⊢
     obtain ⟨s1,s2⟩:=Z6p hφ hp l1 (n:=n) JX
     obtain ⟨t1,t2⟩:=Z6p hψ u l2 (n:=n) JX
     have c1:=Yi p n l1
     have c2:=Yi q n l2
     have c3:Z4 (p.getD 0 Op.nil)<=n->(ZF p n).length < p.length:=fun h=> Yh p _ l1 h
     have c4:Z4 (q.getD 0 Op.nil)<=n->(ZF q n).length < q.length:=fun h=> Yh q _ l2 h
     obtain ⟨s,e,f1,f2,f3⟩:=ih (ZF p n) (ZF q n) _ JX s2 t2 h
     refine ⟨⟨0,ZB (p.getD 0 Op.nil) n,ZB (q.getD 0 Op.nil) n⟩ ::s,by grind,?_,?_,by grind⟩
     .show Yv φ (ZB (p.getD 0 Op.nil) n ::Z1e s)=_
      simp only [Yv];omega
     .show Yv ψ (ZB (q.getD 0 Op.nil) n ::Z1d s)=_
      simp only [Yv];omega
def φA(o:Op):Int:=if o.kind=2 then 0 else Z4 o
def φB(o:Op):Int:=if o.kind=1 then 0 else Z4 o
def φC(o:Op):Int:=Zg o.l+ctE o.e - 18
theorem Z93:∀ l,Yv φA l=Ju l
 | []=> rfl
 | o ::r=> by simp only [Yv,Ju,φA,Z93 r]
theorem Z1p:∀ l,Yv φB l=J5 l
 | []=> rfl
 | o ::r=> by simp only [Yv,J5,φB,Z1p r]
theorem ZbY:∀ l,Yv φC l+34*l.length=Jh l
 | []=> rfl
 | o ::r=> by
  have:=ZbY r
  simp only [Yv,Jh,φC,Z2f,Qm]
  omega
theorem J9(o:Op)(n:Int):(Jt o n).kind=o.kind:=by unfold Jt;split <;> rfl
theorem Zn7{o:Op}{n:Int}(ho:ZX o)(h1:1<=n)(hn:¬Z4 o<=n):Z4 (Jt o n)=Z4 o - n:=by
 obtain ⟨_,_,h,_⟩:=Z9O (a:=1) ho h1 hn
 have hl:=Yy o
 rcases ho with ⟨k0,k1,k2,k3⟩ | ⟨k0,k1,k2,k3⟩ | ⟨k0,k1,k2⟩
 .unfold Jt
  rw [if_pos k0,Yy]
  grind
 .unfold Jt
  rw [J3,Yy]
  grind
 omega
theorem ZEJ:Zpc φA:=by
 intro o n u s h
 obtain ⟨_,_,v3,_⟩:=Z9O (a:=1) u s h
 have:=Zn7 u s h
 unfold φA
 rw [JU,J9,v3,this]
 omega
theorem ZsT:Zpc φB:=by
 intro o n u s h
 obtain ⟨_,_,v3,_⟩:=Z9O (a:=1) u s h
 have:=Zn7 u s h
 unfold φB
 rw [JU,J9,v3,this]
 omega
theorem ZsS:Zpc φC:=by
 intro o n s u h
 have hl:=Yy o
 unfold φC ZB Jt
 rw [if_neg h]
 rcases s with ⟨k0,k1,k2,k3⟩ | ⟨k0,k1,k2,k3⟩ | ⟨k0,k1,k2⟩
 .rw [if_pos k0,if_pos k0]
  dsimp only
  rw [k3,k1,Z7o]
  simp [Zg]
 .rw [J3,J3]
  dsimp only
  have:=Jg (o.l.take n.toNat) (o.l.drop n.toNat)
  rw [Qx] at this
  rw [k3,Z7o]
  omega
 omega
theorem Zf4{D list:Int}:∀ {l:List Tree},YF D list l=true->YF (-1) list l=true
 | [],_=> rfl
 | t ::r,h=> by
  simp only [YF,Q6] at h ⊢
  exact ⟨JJ _ _ _ V2 h.1,Zf4 h.2⟩
mutual
theorem Ya:∀ (e:Edit) (d m:Int),m < 0->Z3 e d=true->Z3 e m=true
 | .mk k o n w ks l os,d,m,hm,h=> by
  have s:=Zd6 ks
  have u:=Zd4 l os
  rw [Z3] at h ⊢
  split at h
  .cases h
  .rename_i a
   rw [J3]
   split at h
   .cases h
   .rename_i b
    rw [if_neg b]
    split at h
    .rename_i c
     rw [if_pos c,Z7n hm]
     simp only [Q6] at h ⊢
     exact ⟨⟨JJ _ _ _ V2 h.1.1,JJ _ _ _ V2 h.1.2⟩,h.2⟩
    grind
theorem Zd6:∀ (ks:List (KidOf Edit)) (last d m:Int),m < 0->Zw last ks d=true->Zw last ks m=true
 | [],_,_,_,_,_=> rfl
 | k ::r,last,d,m,hm,h=> by
  simp only [Zw,Q6] at h ⊢
  exact ⟨Zjx k last d m hm h.1,Zd6 r k.at_ d m hm h.2⟩
theorem Zjx:∀ (k:KidOf Edit) (last d m:Int),m < 0->Jl last k d=true->Jl last k m=true
 | ⟨a,e⟩,last,d,m,hm,h=> by
  simp only [Jl,Q6] at h ⊢
  exact ⟨h.1,Ya e d m hm h.2⟩
theorem Zd4(list:Int):∀ (os:List (OpOf Edit)) (d m:Int),m < 0->Zz list os d=true->Zz list os m=true
 | [],_,_,_,_=> rfl
 | o ::r,d,m,hm,h=> by
  simp only [Zz,Q6] at h ⊢
  exact ⟨ZlR list o d m hm h.1,Zd4 list r d m hm h.2⟩
theorem ZlR(list:Int):∀ (o:OpOf Edit) (d m:Int),m < 0->Zb list o d=true->Zb list o m=true
 | ⟨k,n,l,e⟩,d,m,hm,h=> by
  have he:=Ya e d m hm
  rw [Zb] at h ⊢
  split at h
  .grind
  .rename_i u
   rw [if_neg u]
   split at h
   .cases h
   .rename_i h1
    rw [if_neg h1]
    split at h
    .rename_i s
     rw [if_pos s,Z7n hm]
     simp only [Q6] at h ⊢
     exact ⟨⟨Zf4 h.1.1,h.1.2⟩,h.2⟩
    grind
end
structure Wk (e:Edit):Prop where
 r:Z3 e (-1)=true
 g:ZZ e
theorem Wk.of{e:Edit}{d:Int}(h:Z3 e d=true)(g:ZZ e):Wk e:=⟨Ya e d _ V2 h,g⟩
theorem Yk{n:Int}(h0:0<=n)(h9:n<=9):InR n:=V1
theorem Zi9{o n:Tree}(h1:Zd o (-1)=true)(h2:Zd n (-1)=true)(h3:o.kind≠10)(h4:n.kind≠10):Z3 (.mk 1 o n [] [] 0 []) (-1)=true:=by
 rw [Z3,if_neg V2,if_neg (by simp),if_pos rfl,Z7n V2,h1,h2]
 grind
theorem Zi8{w:List WEdit}{ks:List Kid}(h1:ZL (-1) w=true)(h2:Zw (-1) ks (-2)=true):Z3 (.mk 2 Tree.nil Tree.nil w ks 0 []) (-1)=true:=by
 rw [Z3,if_neg V2,if_neg (by simp [YM,Tree.nil]),if_neg V2,h1,show (-1:Int) - 1= -2 from rfl,h2]
 try rfl
theorem Zi7{l:Int}{os:List Op}(hl:2<=l/\l<=9)(h:Zz l os (-2)=true)(h1:Z1C os 0 < 1048576)(h2:Z1B os 0 < 1048576):Z3 (.mk 3 Tree.nil Tree.nil [] [] l os) (-1)=true:=by
 rw [Z3,if_neg V2,if_neg (by simp [YM,Tree.nil]),if_neg V2,show (-1:Int) - 1= -2 from rfl,h]
 simp only [ZL,Zw,QL,K4,Q6,decide_eq_true_eq]
 omega
theorem Z90:∀ {l:List WEdit} {last:Int},asc WEdit.at_ last l->(∀ w∈l,w.at_<=65534/\w.mask≠0/\ZG w.old w.mask=true/\ZG w.new w.mask=true)->ZL last l=true
 | [],_,_,_=> rfl
 | a ::r,last,h,hw=> by
  obtain ⟨u,h2,h3,h4⟩:=hw a Q7
  simp only [ZL,Q6,decide_eq_true_eq]
  exact ⟨⟨⟨⟨h.1,u,h2⟩,h3⟩,h4⟩,Z90 h.2 fun w s=> hw w (Q0 _ s)⟩
theorem Z9a{d:Int}:∀ {l:List Kid} {last:Int},asc KidOf.at_ last l->(∀ k∈l,k.at_<=65534/\k.e.kind≠0/\Z3 k.e d=true)->Zw last l d=true
 | [],_,_,_=> rfl
 | a ::r,last,h,hw=> by
  obtain ⟨u,h2,h3⟩:=hw a Q7
  simp only [Zw,Z4b,Q6,decide_eq_true_eq]
  exact ⟨⟨⟨h.1,u,h2⟩,h3⟩,Z9a h.2 fun w s=> hw w (Q0 _ s)⟩
theorem Z98{list d:Int}:∀ {l:List Op},(∀ o∈l,Zb list o d=true)->Zz list l d=true
 | [],_=> rfl
 | a ::r,h=> by
  simp only [Zz,Q6]
  exact ⟨h a Q7,Z98 fun o s=> h o (Q0 _ s)⟩
theorem Z1c{D list:Int}:∀ {l:List Tree},(∀ t∈l,Zd (.mk list [] [t]) D=true)->YF D list l=true
 | [],_=> rfl
 | t ::r,h=> by
  simp only [YF,Q6]
  exact ⟨h t Q7,Z1c fun x s=> h x (Q0 _ s)⟩
theorem Zi6{list:Int}(hl:2<=list/\list<=9){t:Tree}(h1:Z0V list t=true)(h2:Zd t (-1)=true):Zd (.mk list [] [t]) (-1)=true:=
 ZfG hl (by simp) fun k h=> by grind
theorem Zkk{list n:Int}(h1:1<=n)(h2:n<=1048576)(d:Int):Zb list ⟨0,n,[],Edit.nil⟩ d=true:=by
 rw [Zb,if_pos rfl,Z3r]
 grind
theorem Z3A{list k d:Int}{l:List Tree}(hk:k=1\/k=2)(h:YF (dT d) list l=true)(hl:l≠[]):Zb list ⟨k,0,l,Edit.nil⟩ d=true:=by
 rw [Zb,J3,J3,Jq,Z3r,h]
 have:=XM.2 hl
 grind
theorem ZeC{list d:Int}{e:Edit}(h:Z3 e d=true)(h0:e.kind≠0)(hl:7 < list)(hw:list=8\/e.kind=2\/e.kind=1/\e.old.kind=1/\e.new.kind=1):Zb list ⟨3,0,[],e⟩ d=true:=by
 rw [Zb,if_neg V2,if_neg V2,if_neg V2,h]
 grind
def Wl(list:Int)(e:Edit):Prop:=list=8\/e.kind=2\/e.kind=1/\e.old.kind=1/\e.new.kind=1
theorem Z16(t:Tree):(Z0 t).kind=t.kind:=Z3g t
theorem ZbT{w m:Int}(h:∀ i,i < 8->Ys m (i:Nat)=false->Zl w i=0):ZG w m=true:=by
 unfold ZG mix of8
 rw [decide_eq_true_eq]
 have z:∀ i,i < 8->Jf w 0 m i=0:=by
  intro i s
  unfold Jf
  split
  .exact ZdK i
  .grind
 grind
theorem ZzU {a b:WEdit} (ra:Z0O a) (rb:Z0O b) (ha:a.at_<=65534/\a.mask≠0/\ZG a.old a.mask=true/\ZG a.new a.mask=true) (hb:ZG b.old b.mask=true/\ZG b.new b.mask=true)
  (hc:(Ji a b).2=true):((Ji a b).1.at_<=65534/\(Ji a b).1.mask≠0/\ZG (Ji a b).1.old (Ji a b).1.mask=true/\ZG (Ji a b).1.new (Ji a b).1.mask=true)/\Z0O (Ji a b).1:=by
 have hw:ZcL a b=true:=by
  unfold Ji at hc
  split at hc
  .assumption
  .cases hc
 have e:(Ji a b).1=⟨a.at_,orM a.mask b.mask,mix b.old a.old a.mask,mix a.new b.new b.mask⟩:=by unfold Ji;rw [if_pos hw]
 obtain ⟨m1,m2⟩:=ZwZ ra.2.1 rb.2.1
 rw [e]
 dsimp only
 refine ⟨⟨ha.1,fun h=> ?_,ZbT fun i u s=> ?_,ZbT fun i u s=> ?_⟩,ra.1,m1,J7 _ _ _,J7 _ _ _⟩
 .refine ha.2.1 ?_
  have z:∀ i:Nat,Ys a.mask (i:Int)=false:=by
   intro i
   have:=m2 i
   rw [h] at this
   have z0:Ys 0 (i:Int)=false:=by unfold Ys;simp
   rw [z0] at this
   cases s:Ys a.mask (i:Int) with
   | false=> rfl
   | true=> grind
  have h0:=z 0;have h1:=z 1;have h2:=z 2;have h3:=z 3;have h4:=z 4;have h5:=z 5;have h6:=z 6;have h7:=z 7
  have:=ra.2.1
  simp only [Ys,decide_eq_false_iff_not,Xh] at h0 h1 h2 h3 h4 h5 h6 h7
  omega
 .rw [m2 i] at s
  simp only [QB] at s
  rw [Yn u,if_neg (by grind)]
  exact Z3Y hb.1 u s.2
 .rw [m2 i] at s
  simp only [QB] at s
  rw [Yn u,if_neg (by grind)]
  exact Z3Y ha.2.2.2 u s.1
def Zfc{β:Type}(φ:β->Nat):List β->Nat
 | []=> 0
 | a ::r=> φ a+Zfc φ r
theorem Ziv{β:Type}{at_:β->Int}{one:β->β->β × Bool}(φ:β->Nat):∀ (k:Nat) (p q L:List β),p.length+q.length<=k->(∀ a∈p,∀ b∈q,(one a b).2=true->φ (one a b).1<=φ a+φ b)->Zm at_ one p q=some L->Zfc φ L<=Zfc φ p+Zfc φ q:=by
 intro k
 induction k with
 | zero=>
  intro p q L hk _ h
  have e1:p=[]:=Q5 JX
  have e2:q=[]:=Q5 JX
  subst e1 e2
  rw [Zm] at h
  grind
 | succ k ih=>
  intro p q L hk ho h
  match p,q with
  | [],q=> rw [Zm] at h;grind
  | a ::p,[]=> rw [Zm] at h;grind
  | a ::p,b ::q=>
   simp only [Qm] at hk
   rw [Zm] at h
   split at h
   .obtain ⟨L',s,rfl⟩:=Q9.1 h
    have:=ih p (b ::q) L' (by grind) (fun x hx y u=> ho x (Q0 _ hx) y u) s
    simp only [Zfc] at this ⊢;omega
   .split at h
    .obtain ⟨L',s,rfl⟩:=Q9.1 h
     have:=ih (a ::p) q L' (by grind) (fun x hx y u=> ho x hx y (Q0 _ u)) s
     simp only [Zfc] at this ⊢;omega
    .split at h
     .rename_i hc
      obtain ⟨L',s,rfl⟩:=Q9.1 h
      have:=ih p q L' JX (fun x hx y u=> ho x (Q0 _ hx) y (Q0 _ u)) s
      have:=ho a Q7 b Q7 hc
      simp only [Zfc] at*;omega
     .cases h
theorem Ze2:∀ l:List Kid,Zfc Z3U l=Z0W l
 | []=> rfl
 | k ::r=> by simp only [Zfc,Z0W,Ze2 r]
theorem Z9U{β:Type}:∀ l:List β,Zfc (fun _=> 1) l=l.length
 | []=> rfl
 | k ::r=> by simp only [Zfc,Qm,Z9U r];omega
theorem ZfE:∀ {l:List Kid},(∀ k∈l,InR k.at_/\ZZ k.e)->Z0P l
 | [],_=> trivial
 | ⟨a,e⟩ ::r,h=> ⟨h _ Q7,ZfE fun k s=> h k (Q0 _ s)⟩
theorem ZfC:∀ {l:List Op},(∀ o∈l,YZ o)->Z0j l
 | [],_=> trivial
 | o ::r,h=> ⟨h _ Q7,ZfC fun k s=> h k (Q0 _ s)⟩
structure ComWk (K:Prop) (c:Edit × Bool) (p q:Edit):Prop where
 wk:c.2=true->Wk c.1
 ct:K->c.2=true->ctE c.1+18<=ctE p+ctE q
 kind:p.kind≠0->q.kind≠0->c.2=true->c.1.kind≠0
 wl:∀ list,7 < list->list<=9->p.kind≠0->q.kind≠0->c.2=true->Wl list p->Wl list q->Wl list c.1
theorem ZkR{e:Edit}{t:Tree}(h:(doB e t).2=true):∃ v,doE false e t=some v/\(doB e t).1=Z0 v:=by
 unfold doB at h ⊢
 cases hv:doE false e t with
 | none=> grind
 | some v=> exact ⟨v,rfl,rfl⟩
theorem Z4a{t:Tree}{d:Int}(h:Zd t d=true):Zd (Z0 t) d=true:=Z2k t d h
theorem Wk.turn{p:Edit}(h:Wk p):Wk (Zj (Zn p)):=⟨Jm _ _ (YT _ _ h.r),Z0A _ _ (YT _ _ h.r) (Z4L _ h.g)⟩
theorem ZdA{list:Int}(hl:2<=list/\list<=9){e:Edit}{t u:Tree}{d:Int}(hr:Z3 e d=true)(hd:doE false e t=some u)(h7:7 < list)(hw:Wl list e)(h0:e.kind≠0)(ht:Zd t (-1)=true):Z0V list u=true:=by
 obtain ⟨h,s,_,_⟩:=Z2Z hr hd
 unfold Z0V
 rw [J3]
 by_cases hl9:list=9
 .rw [if_pos hl9]
  refine decide_eq_true ?_
  rcases hw with q | q | q
  .omega
  .exact (s q).1
  .rw [h q.1];exact q.2.2
 .rw [if_neg hl9]
  exact decide_eq_true ((Z3n _ e d t u (Qb _) hr ht hd).2 h0)
theorem Zh1{list:Int}(h7:7 < list){u:Tree}(h:Z0V list u=true):Z0V list (Z0 u)=true:=by
 unfold Z0V at h ⊢
 rw [J3] at h ⊢
 rw [Z16]
 exact h
theorem ZC2 {K:Prop} {f:Edit->Edit->Edit × Bool} {p q:Edit} (wp:Wk p) (wq:Wk q) (p3:p.kind=3) (hl:p.list=q.list)
  (ih:∀ a b,Z8 a+Z8 b < Z8 p+Z8 q->Wk a->Wk b->ComWk K (f a b) a b) {ps:List Piece} (e:(ZA 1 2 p.ops q.ops []).1=ps) (hb1:(ZA 1 2 p.ops q.ops []).2.1=true) {ops:List Op} (hc:Z1m f ps=some ops):
  (∀ o∈ops,Zb p.list o (-2)=true/\YZ o)/\Ju ops=Ju p.ops/\J5 ops=J5 q.ops/\(K->Jh ops<=Jh p.ops+Jh q.ops):=by
 have rp:=Zh wp.r
 have rq:=Zh wq.r
 have gp:=ZC wp.g
 have gq:=ZC wq.g
 have aa:=rp.list p3
 have op:=Y3 wp.r
 have oq:=Y3 wq.r
 have bv:Zz p.list p.ops (-2)=true:=rp.ops
 have b8:Zz p.list q.ops (-2)=true:=by rw [hl];exact rq.ops
 obtain ⟨i1,_⟩:=ZaP _ p.ops q.ops [] (Qb _) op oq
 obtain ⟨cr,e0,be,_,_⟩:=i1 hb1
 obtain ⟨cj,e1,sA,sB,ax⟩:=ZaO ZEJ ZsT 1 _ p.ops q.ops [] (Qb _) op oq hb1
 obtain ⟨ch,e2,sC,sD,_⟩:=ZaO ZsS ZsS 1 _ p.ops q.ops [] (Qb _) op oq hb1
 rw [e,Qt] at e0 e1 e2
 subst e0 e1 e2
 have av:∀ x∈ps,(x.of≠2->Zb p.list x.p (-2)=true/\YZ x.p)/\(x.of≠1->Zb p.list x.q (-2)=true/\YZ x.q):=by
  have one:∀ (l:List Op) (o:Op),(∀ o'∈l,Zb p.list o' (-2)=true)->Z0j l->Part l o->ZX o->Zb p.list o (-2)=true/\YZ o:=by
   intro l o hr hg ⟨o',m,k,e1,_,lt⟩ ho
   have R:=ZN (hr o' m)
   have G:=Jr (Z0z hg m)
   obtain ⟨kk,nn,ll,ee⟩:=o
   have k:kk=o'.kind:=k
   have e1:ee=o'.e:=e1
   have lt:∀ t∈ll,t∈o'.l:=lt
   have gl:Yx ll:=Z5D fun t u=> YC G.2.2.1 (lt t u)
   cases R with
   | keep n1 a1 a2=>
    have k:kk=0:=k
    have e1:ee=Edit.nil:=e1
    subst k e1
    rcases ho with h | h | h
    .have hl:ll=[]:=h.2.1
     subst hl
     have h3:1<=nn/\nn<=1048576:=h.2.2.1
     exact ⟨Zkk h3.1 h3.2 _,Yk V2 V2,V1,trivial,G.2.2.2⟩
    .have:=h.1;omega
    .have:=h.1;omega
   | gone l1 a1 a2=>
    have k:kk=1:=k
    have e1:ee=Edit.nil:=e1
    subst k e1
    rcases ho with h | h | h
    .have:=h.1;omega
    .have hn:nn=0:=h.2.1
     subst hn
     exact ⟨Z3A (.inl rfl) (Z1c fun t u=> JO a1 t (lt t u)) h.2.2.1,Yk V2 V2,Yk V2 V2,gl,G.2.2.2⟩
    .have:=h.1;omega
   | come l1 a1 a2=>
    have k:kk=2:=k
    have e1:ee=Edit.nil:=e1
    subst k e1
    rcases ho with h | h | h
    .have:=h.1;omega
    .have hn:nn=0:=h.2.1
     subst hn
     exact ⟨Z3A (.inr rfl) (Z1c fun t u=> JO a1 t (lt t u)) h.2.2.1,Yk V2 V2,Yk V2 V2,gl,G.2.2.2⟩
    .have:=h.1;omega
   | into e2 a1 a2 a3 a4=>
    have k:kk=3:=k
    have e1:ee=e2:=e1
    subst k e1
    rcases ho with h | h | h
    .have:=h.1;omega
    .have:=h.1;omega
    .have hn:nn=0:=h.2.1
     have hl:ll=[]:=h.2.2
     subst hn hl
     exact ⟨ZeC a1 a2 a3 a4,Yk V2 V2,Yk V2 V2,trivial,G.2.2.2⟩
  intro x hx
  have X:=be x hx
  exact ⟨fun h=> one p.ops x.p (fun o ho=> rightOs_mem bv ho) gp.2.2.2.2 (X.pp h).1 (X.pp h).2,fun h=> one q.ops x.q (fun o ho=> rightOs_mem b8 ho) gq.2.2.2.2 (X.qq h).1 (X.qq h).2⟩
 have one:∀ x∈ps,(ZQ f x).ok=true->((ZQ f x).is=true->Zb p.list (ZQ f x).op (-2)=true/\YZ (ZQ f x).op)/\
   (φA (ZQ f x).op*(if (ZQ f x).is then 1 else 0)=(if x.of=2 then 0 else φA x.p))/\(φB (ZQ f x).op*(if (ZQ f x).is then 1 else 0)=(if x.of=1 then 0 else φB x.q))/\
   (K->(ZQ f x).is=true->φC (ZQ f x).op<=(if x.of=2 then 0 else φC x.p)+(if x.of=1 then 0 else φC x.q)):=by
  intro x hx s
  have X:=be x hx
  obtain ⟨s1,s2⟩:=av x hx
  have cnn:∀ o:Op,0<=φC o:=fun o=> by unfold φC;have:=Z9I o.e;omega
  unfold ZQ at s ⊢
  by_cases c1:x.of=1\/(x.of=0/\x.q.kind=0)
  .rw [if_pos c1] at s ⊢
   dsimp only
   have h2:x.of≠2:=JX
   rw [if_pos rfl,if_neg h2,if_neg h2]
   refine ⟨fun _=> s1 h2,JX,?_,fun _ _=> ?_⟩
   .rcases c1 with c | ⟨c,c'⟩
    .rw [if_pos c];unfold φB;rw [if_pos (X.one c)];try rfl
    .rw [J3]
     obtain ⟨b1,b2,b3⟩:=X.both c
     unfold φB
     rw [if_neg b1,J3,b3];omega
   .have:=cnn x.q
    split <;> omega
  rw [if_neg c1] at s ⊢
  by_cases c2:x.of=2\/x.p.kind=0
  .rw [if_pos c2] at s ⊢
   dsimp only
   have h2:x.of≠1:=JX
   rw [if_pos rfl,if_neg h2,if_neg h2]
   refine ⟨fun _=> s2 h2,?_,JX,fun _ _=> ?_⟩
   .by_cases c:x.of=2
    .rw [if_pos c];unfold φA;rw [if_pos (X.two c)];try rfl
    .rw [if_neg c]
     have c0:x.of=0:=by rcases X.of with h | h | h <;> omega
     obtain ⟨b1,b2,b3⟩:=X.both c0
     unfold φA
     rw [if_neg b2,J3,b3];omega
   .have:=cnn x.p
    split <;> omega
  rw [if_neg c2] at s ⊢
  have c0:x.of=0:=by rcases X.of with h | h | h <;> omega
  obtain ⟨b1,b2,b3⟩:=X.both c0
  have h1:x.of≠1:=JX
  have h2:x.of≠2:=JX
  obtain ⟨u1,u2⟩:=s1 h2
  obtain ⟨v1,v2⟩:=s2 h1
  have ay:=(X.pp h2).2
  have a5:=(X.qq h1).2
  have kp:x.p.kind=2\/x.p.kind=3:=by rcases ZH ay with k | k | k | k <;> omega
  have kq:x.q.kind=1\/x.q.kind=3:=by rcases ZH a5 with k | k | k | k <;> omega
  rw [if_neg h2,if_neg h2,if_neg h1,if_neg h1]
  by_cases c3:x.p.kind=2/\x.q.kind=1
  .rw [if_pos c3] at s ⊢
   dsimp only
   refine ⟨fun h=> (by cases h),?_,?_,fun _ h=> by cases h⟩
   .unfold φA;rw [if_pos c3.1];try rfl
   .unfold φB;rw [if_pos c3.2];try rfl
  rw [if_neg c3] at s ⊢
  have ah:∀ o:Op,o.kind=3->Zb p.list o (-2)=true->YZ o->(7 < p.list/\o.e.kind≠0/\Wl p.list o.e/\Wk o.e)/\o.l=[]:=by
   intro o k hr hg
   have R:=ZN hr
   cases R with
   | keep | gone | come=> exact absurd k (by simp)
   | into e a1 a2 a3 a4=> exact ⟨⟨a3,a2,a4,⟨Ya _ _ _ V2 a1,(Jr hg).2.2.2⟩⟩,rfl⟩
  have ai:∀ o:Op,(o.kind=1\/o.kind=2)->Z4 o=1->ZX o->Zb p.list o (-2)=true->YZ o->∃ t,o.l=[t]/\Z0V p.list t=true/\Zd t (-1)=true/\rng t/\o.e=Edit.nil:=by
   intro o k h1 ho hr hg
   have ax:=Yq ho k
   have ak:o.l.length=1:=JX
   obtain ⟨t,u⟩:∃ t,o.l=[t]:=by
    match h:o.l,ak with
    | [t],_=> exact ⟨t,rfl⟩
   have R:=ZN hr
   have gt:=(Jr hg).2.2.1
   rw [u] at gt
   refine ⟨t,u,?_⟩
   cases R with
   | keep=> exact absurd k (by simp)
   | into=> exact absurd k (by simp)
   | gone l a1 a2=> exact ⟨(JC aa a1 t (by have u:l=[t]:=u;rw [u];simp)).1,(JC aa a1 t (by have u:l=[t]:=u;rw [u];simp)).2,gt.1,rfl⟩
   | come l a1 a2=> exact ⟨(JC aa a1 t (by have u:l=[t]:=u;rw [u];simp)).1,(JC aa a1 t (by have u:l=[t]:=u;rw [u];simp)).2,gt.1,rfl⟩
  by_cases c4:x.p.kind=2
  .rw [if_pos c4] at s ⊢
   have aj:x.q.kind=3:=JX
   have ak:Z4 x.q=1:=J0 aj
   obtain ⟨t,u,t1,t2,t3,t4⟩:=ai x.p (.inr c4) JX ay u1 u2
   obtain ⟨⟨e1,e2,e3,e4⟩,e5⟩:=ah x.q aj v1 v2
   dsimp only at s ⊢
   rw [u,Qh] at s ⊢
   obtain ⟨v,hv,ev⟩:=ZkR s
   rw [if_pos rfl,ev]
   have kv:=ZdA aa e4.r hv e1 e3 e2 t2
   have rv:=(Z3n _ _ _ t v (Qb _) e4.r t2 hv).1
   refine ⟨fun _=> ⟨Z3A (.inr rfl) ?_ (by simp),Yk V2 V2,Yk V2 V2,⟨Z0i _ (Z6H false _ _ v e4.g t3 hv),trivial⟩,?_⟩,?_,?_,fun _ _=> ?_⟩
   .rw [Z7n V2]
    exact Z1c fun y hy=> by rw [Qg.1 hy];exact Zi6 aa (Zh1 e1 kv) (Z4a rv)
   .rw [<-t4];exact (Jr u2).2.2.2
   .unfold φA;rw [if_pos c4];try rfl
   .show (if (2:Int)=1 then (0:Int) else Z4 _)*1=(if x.q.kind=1 then 0 else Z4 x.q)
    rw [if_neg V2,J3,ak];simp [Z4]
   .unfold φC
    dsimp only
    rw [u,t4,e5]
    have:=Z5S false _ _ _ v e4.r hv
    have:=Ym v
    simp only [Zg,Z7o]
    omega
  rw [if_neg c4] at s ⊢
  have az:x.p.kind=3:=JX
  have a0:Z4 x.p=1:=J0 az
  obtain ⟨⟨e1,e2,e3,e4⟩,e5⟩:=ah x.p az u1 u2
  by_cases c5:x.q.kind=1
  .rw [if_pos c5] at s ⊢
   obtain ⟨t,u,t1,t2,t3,t4⟩:=ai x.q (.inl c5) JX a5 v1 v2
   dsimp only at s ⊢
   rw [u,Qh] at s ⊢
   obtain ⟨v,hv,ev⟩:=ZkR s
   have wt:=e4.turn
   have kt:(Zj (Zn x.p.e)).kind=x.p.e.kind:=by rw [Z4R,Z1P]
   have bq:Wl p.list (Zj (Zn x.p.e)):=by
    rcases e3 with h | h | h
    .exact .inl h
    .exact .inr (.inl JX)
    .refine .inr (.inr ⟨JX,?_,?_⟩)
     .rw [(ZaS (Zn x.p.e) (by rw [Z1P];exact h.1)).1,Z16,ZhQ];exact h.2.2
     .rw [(ZaS (Zn x.p.e) (by rw [Z1P];exact h.1)).2,Z16,ZhR];exact h.2.1
   rw [if_pos rfl,ev]
   have kv:=ZdA aa wt.r hv e1 bq JX t2
   have rv:=(Z3n _ _ _ t v (Qb _) wt.r t2 hv).1
   refine ⟨fun _=> ⟨Z3A (.inl rfl) ?_ (by simp),Yk V2 V2,Yk V2 V2,⟨Z0i _ (Z6H false _ _ v wt.g t3 hv),trivial⟩,?_⟩,?_,?_,fun _ _=> ?_⟩
   .rw [Z7n V2]
    exact Z1c fun y hy=> by rw [Qg.1 hy];exact Zi6 aa (Zh1 e1 kv) (Z4a rv)
   .rw [<-t4];exact (Jr v2).2.2.2
   .show (if (1:Int)=2 then (0:Int) else Z4 _)*1=(if x.p.kind=2 then 0 else Z4 x.p)
    rw [if_neg V2,J3,a0];simp [Z4]
   .unfold φB;rw [if_pos c5];try rfl
   .unfold φC
    dsimp only
    rw [u,t4,e5]
    have:=Z5S false _ _ _ v wt.r hv
    have:=Ym v
    have:=Z4y (Zn x.p.e)
    rw [ZbL] at this
    simp only [Zg,Z7o]
    omega
  rw [if_neg c5] at s ⊢
  have aj:x.q.kind=3:=JX
  have ak:Z4 x.q=1:=J0 aj
  obtain ⟨⟨f1,f2,f3,f4⟩,f5⟩:=ah x.q aj v1 v2
  dsimp only at s ⊢
  rw [if_pos rfl]
  obtain ⟨o1,m1,_,k1,_⟩:=(X.pp h2).1
  obtain ⟨o2,m2,_,k2,_⟩:=(X.qq h1).1
  have:=YV m1
  have:=YV m2
  have H:=ih x.p.e x.q.e (by rw [k1,k2];omega) e4 f4
  refine ⟨fun _=> ⟨ZeC (Ya _ _ _ V2 (H.wk s).r) (H.kind e2 f2 s) e1 (H.wl p.list e1 aa.2 e2 f2 s e3 f3),Yk V2 V2,Yk V2 V2,trivial,(H.wk s).g⟩,?_,?_,fun hK _=> ?_⟩
  .show (if (3:Int)=2 then (0:Int) else Z4 _)*1=(if x.p.kind=2 then 0 else Z4 x.p)
   rw [if_neg V2,J3,a0];simp [Z4]
  .show (if (3:Int)=1 then (0:Int) else Z4 _)*1=(if x.q.kind=1 then 0 else Z4 x.q)
   rw [if_neg V2,J3,ak];simp [Z4]
  .unfold φC
   dsimp only
   rw [e5,f5]
   have:=H.ct hK s
   simp only [Zg]
   omega
 have all:∀ (ps:List Piece) (ops:List Op),(∀ x∈ps,(ZQ f x).ok=true->((ZQ f x).is=true->Zb p.list (ZQ f x).op (-2)=true/\YZ (ZQ f x).op)/\
   (φA (ZQ f x).op*(if (ZQ f x).is then 1 else 0)=(if x.of=2 then 0 else φA x.p))/\(φB (ZQ f x).op*(if (ZQ f x).is then 1 else 0)=(if x.of=1 then 0 else φB x.q))/\
   (K->(ZQ f x).is=true->φC (ZQ f x).op<=(if x.of=2 then 0 else φC x.p)+(if x.of=1 then 0 else φC x.q)))->Z1m f ps=some ops->
   (∀ o∈ops,Zb p.list o (-2)=true/\YZ o)/\Yv φA ops=Yv φA (Z1e ps)/\Yv φB ops=Yv φB (Z1d ps)/\(K->Yv φC ops<=Yv φC (Z1e ps)+Yv φC (Z1d ps))/\ops.length<=ps.length:=by
  intro ps
  induction ps with
  | nil=> intro ops _ h;cases h;exact ⟨fun o ho=> (by cases ho),rfl,rfl,fun _=> (by simp [Z1e,Z1d,Yv]),by simp⟩
  | cons x r ihp=>
   intro ops hx h
   rw [Z1m] at h
   split at h
   .rename_i s
    obtain ⟨l,b7,rfl⟩:=Q9.1 h
    obtain ⟨j1,j2,j3,j4,j5⟩:=ihp l (fun y hy=> hx y (Q0 _ hy)) b7
    obtain ⟨k1,k2,k3,k4⟩:=hx x Q7 s
    have cnn:∀ o:Op,0<=φC o:=fun o=> by unfold φC;have:=Z9I o.e;omega
    have c1:=cnn x.p
    have c2:=cnn x.q
    have au:∀ φ:Op->Int,Yv φ (Z1e (x ::r))=(if x.of=2 then 0 else φ x.p)+Yv φ (Z1e r):=fun φ=> by
     simp only [Z1e]
     split <;> simp [Yv]
    have bd:∀ φ:Op->Int,Yv φ (Z1d (x ::r))=(if x.of=1 then 0 else φ x.q)+Yv φ (Z1d r):=fun φ=> by
     simp only [Z1d]
     split <;> simp [Yv]
    rw [au,bd,au,bd]
    by_cases his:(ZQ f x).is=true
    .rw [if_pos his] at k2 k3
     rw [if_pos his]
     have k4:=fun hK=> k4 hK his
     simp only [QA,Qt,Yv,Qm]
     refine ⟨fun o ho=> ?_,JX,JX,fun hK=> (by have:=k4 hK;have:=j4 hK;omega),JX⟩
     rcases Qa.1 ho with rfl | ho
     .exact k1 his
     .exact j1 o ho
    .rw [if_neg his] at k2 k3
     rw [if_neg his]
     simp only [Qt,Qm]
     refine ⟨j1,JX,JX,fun hK=> ?_,JX⟩
     have:=j4 hK
     have:0<=(if x.of=2 then 0 else φC x.p)+(if x.of=1 then 0 else φC x.q):=by split <;> split <;> omega
     omega
   .cases h
 obtain ⟨j1,j2,j3,j4,j5⟩:=all ps ops one hc
 rw [Z93] at j2
 rw [Z1p] at j3
 rw [sA,Z93] at j2
 rw [sB,Z1p] at j3
 have x1:=ZbY ops
 have x2:=ZbY p.ops
 have x3:=ZbY q.ops
 exact ⟨j1,j2,j3,fun hK=> (by have:=j4 hK;omega)⟩
theorem ZAj {K:Prop} {f:Edit->Edit->Edit × Bool} {p q:Edit} (wp:Wk p) (wq:Wk q)
  (ih:∀ a b,Z8 a+Z8 b < Z8 p+Z8 q->Wk a->Wk b->ComWk K (f a b) a b):ComWk K (Z0e f p q) p q:=by
 have rp:=Zh wp.r
 have rq:=Zh wq.r
 have gp:=ZC wp.g
 have gq:=ZC wq.g
 have cp:=Z9I p
 have cq:=Z9I q
 have ap:=Z23 p
 have aq:=Z23 q
 unfold Z0e
 by_cases p0:p.kind=0
 .rw [if_pos p0]
  exact ⟨fun _=> wq,fun _ _=> by dsimp only;omega,fun h=> absurd p0 h,fun _ _ _ h=> absurd p0 h⟩
 rw [if_neg p0]
 by_cases q0:q.kind=0
 .rw [if_pos q0]
  exact ⟨fun _=> wp,fun _ _=> by dsimp only;omega,fun _ h=> absurd q0 h,fun _ _ _ _ h=> absurd q0 h⟩
 rw [if_neg q0]
 by_cases p1:p.kind=1
 .rw [if_pos p1]
  obtain ⟨r1,r2,r3,r4⟩:=rp.rep p1
  have u:(doB q p.new).2=true->(Zd (doB q p.new).1 (-1)=true/\(doB q p.new).1.kind≠10)/\rng (doB q p.new).1/\Zo (doB q p.new).1+18<=Zo p.new+ctE q/\∀ list,7 < list->list<=9->p.new.kind=1->list=9->Wl list q->(doB q p.new).1.kind=1:=by
   intro s
   obtain ⟨v,hv,e⟩:=ZkR s
   rw [e]
   obtain ⟨x1,x2⟩:=Z3n _ q _ p.new v (Qb _) wq.r r2 hv
   refine ⟨⟨Z4a x1,by rw [Z16];exact x2 q0⟩,Z0i _ (Z6H false q _ v wq.g gp.2.1 hv),?_,fun list h7 h9 hk bq hw=> ?_⟩
   .have:=Z5S false q _ _ v wq.r hv
    have:=Ym v
    omega
   .rw [Z16]
    obtain ⟨j1,j2,_,_⟩:=Z2Z wq.r hv
    rcases hw with h | h | h
    .omega
    .exact (j2 h).1
    .rw [j1 h.1];exact h.2.2
  refine ⟨fun s=> ?_,fun _ s=> ?_,fun _ _ _=> (show (1:Int)≠0 by decide),fun list h7 h9 _ _ s hp hq=> ?_⟩
  .obtain ⟨⟨k1,k2⟩,k3,_,_⟩:=u s
   exact ⟨Zi9 r1 k1 r3 k2,Yk V2 V2,gp.1,k3,by simp,Yk V2 V2,trivial,trivial⟩
  .obtain ⟨_,_,k4,_⟩:=u s
   rw [Zs0]
   omega
  .by_cases h8:list=8
   .exact .inl h8
   .have af:p.kind=1/\p.old.kind=1/\p.new.kind=1:=by
     rcases hp with h | h | h
     .exact absurd h h8
     .omega
     .exact h
    exact .inr (.inr ⟨rfl,af.2.1,(u s).2.2.2 list h7 h9 af.2.2 JX hq⟩)
 rw [if_neg p1]
 by_cases q1:q.kind=1
 .rw [if_pos q1]
  obtain ⟨r1,r2,r3,r4⟩:=rq.rep q1
  have wt:=wp.turn
  have kt:(Zj (Zn p)).kind=p.kind:=by rw [Z4R,Z1P]
  have u:(doB (Zj (Zn p)) q.old).2=true->(Zd (doB (Zj (Zn p)) q.old).1 (-1)=true/\(doB (Zj (Zn p)) q.old).1.kind≠10)/\rng (doB (Zj (Zn p)) q.old).1/\Zo (doB (Zj (Zn p)) q.old).1+18<=Zo q.old+ctE p/\(p.kind=2->(doB (Zj (Zn p)) q.old).1.kind=1):=by
   intro s
   obtain ⟨v,hv,e⟩:=ZkR s
   rw [e]
   obtain ⟨x1,x2⟩:=Z3n _ _ _ q.old v (Qb _) wt.r r1 hv
   refine ⟨⟨Z4a x1,by rw [Z16];exact x2 JX⟩,Z0i _ (Z6H false _ _ v wt.g gq.1 hv),?_,fun hk=> ?_⟩
   .have:=Z5S false _ _ _ v wt.r hv
    have:=Ym v
    have:=Z4y (Zn p)
    rw [ZbL] at this
    omega
   .rw [Z16]
    exact ((Z2Z wt.r hv).2.1 JX).1
  refine ⟨fun s=> ?_,fun _ s=> ?_,fun _ _ _=> (show (1:Int)≠0 by decide),fun list h7 h9 _ _ s hp hq=> ?_⟩
  .obtain ⟨⟨k1,k2⟩,k3,_,_⟩:=u s
   exact ⟨Zi9 k1 r2 k2 r4,Yk V2 V2,k3,gq.2.1,by simp,Yk V2 V2,trivial,trivial⟩
  .obtain ⟨_,_,k4,_⟩:=u s
   rw [Zs0]
   omega
  .by_cases h8:list=8
   .exact .inl h8
   .have au:q.kind=1/\q.old.kind=1/\q.new.kind=1:=by
     rcases hq with h | h | h
     .exact absurd h h8
     .omega
     .exact h
    refine .inr (.inr ⟨rfl,(u s).2.2.2 ?_,au.2.2⟩)
    rcases hp with h | h | h
    .exact absurd h h8
    .exact h
    .exact absurd h.1 p1
 rw [if_neg q1]
 by_cases hd:p.kind≠q.kind\/p.list≠q.list
 .rw [if_pos hd]
  exact ⟨fun h=> (by cases h),fun _ h=> (by cases h),fun _ _ h=> (by cases h),fun _ _ _ _ _ h=> (by cases h)⟩
 rw [if_neg hd]
 by_cases p2:p.kind=2
 .rw [if_pos p2]
  have q2:q.kind=2:=JX
  have awp:=YQ rp.words
  have ax:=YQ rq.words
  have ab:=Zs rp.kids
  have ae:=Zs rq.kids
  have ao:∀ a b:WEdit,a.at_=b.at_->(Ji a b).2=true->(Ji a b).1.at_=a.at_:=fun a b _ h=> Zs1 a b h
  have av:∀ a b:Kid,a.at_=b.at_->(Z1I f a b).2=true->(Z1I f a b).1.at_=a.at_:=fun a b _ _=> rfl
  have hk:∀ a∈p.kids,∀ b∈q.kids,ComWk K (f a.e b.e) a.e b.e:=by
   intro a ha b s
   have:=Yd ha
   have:=Yd s
   exact ih a.e b.e JX (.of (ab a ha).2 (Y6 gp.2.2.2.1 ha).2) (.of (ae b s).2 (Y6 gq.2.2.2.1 s).2)
  cases hL:Zm WEdit.at_ Ji p.words q.words with
  | none=> exact ⟨fun h=> (by cases h),fun _ h=> (by cases h),fun _ _ h=> (by cases h),fun _ _ _ _ _ h=> (by cases h)⟩
  | some L=>
   rw [if_pos (show (some L).isSome=true from rfl)]
   cases hM:Zm KidOf.at_ (Z1I f) p.kids q.kids with
   | none=> exact ⟨fun h=> (by cases h),fun _ h=> (by cases h),fun _ _ h=> (by cases h),fun _ _ _ _ _ h=> (by cases h)⟩
   | some M=>
    have S:=(Z3F ao _ p.words q.words (-1) (Qb _) (Z03 rp.words) (Z03 rq.words)).2 L hL
    have T:=(Z3F av _ p.kids q.kids (-1) (Qb _) (Z0U rp.kids) (Z0U rq.kids)).2 M hM
    have hw:∀ w∈L,(w.at_<=65534/\w.mask≠0/\ZG w.old w.mask=true/\ZG w.new w.mask=true)/\Z0O w:=by
     intro w hw
     rcases S.of w hw with ⟨h,_⟩ | ⟨h,_⟩ | ⟨a,ha,b,s,_,hc,rfl⟩
     .exact ⟨(awp w h).2,gp.2.2.1 w h⟩
     .exact ⟨(ax w h).2,gq.2.2.1 w h⟩
     .exact ZzU (gp.2.2.1 a ha) (gq.2.2.1 b s) (awp a ha).2 (ax b s).2.2.2 hc
    have hm:∀ k∈M,(k.at_<=65534/\k.e.kind≠0/\Z3 k.e (-2)=true)/\InR k.at_/\ZZ k.e:=by
     intro k a8
     rcases T.of k a8 with ⟨h,_⟩ | ⟨h,_⟩ | ⟨a,ha,b,s,_,hc,rfl⟩
     .exact ⟨⟨(ab k h).1.2.1,(ab k h).1.2.2,Ya _ _ _ V2 (ab k h).2⟩,Y6 gp.2.2.2.1 h⟩
     .exact ⟨⟨(ae k h).1.2.1,(ae k h).1.2.2,Ya _ _ _ V2 (ae k h).2⟩,Y6 gq.2.2.2.1 h⟩
     .have H:=hk a ha b s
      have hc:(f a.e b.e).2=true:=hc
      exact ⟨⟨(ab a ha).1.2.1,H.kind (ab a ha).1.2.2 (ae b s).1.2.2 hc,Ya _ _ _ V2 (H.wk hc).r⟩,(Y6 gp.2.2.2.1 ha).1,(H.wk hc).g⟩
    refine ⟨fun _=> ⟨Zi8 (Z90 S.asc_ fun w h=> (hw w h).1) (Z9a T.asc_ fun k h=> (hm k h).1),?_⟩,fun hK _=> ?_,fun _ _ _=> (show (2:Int)≠0 by decide),fun _ _ _ _ _ _ _ _=> .inr (.inl rfl)⟩
    .exact ⟨Yk V2 V2,Z06,Z06,fun w h=> (hw w h).2,Yk V2 V2,ZfE fun k h=> (hm k h).2,trivial⟩
    .have c1:=Ziv (fun _=> 1) _ _ _ _ (Qb _) (fun a _ b _ _=> by omega) hL
     have c2:=Ziv Z3U _ _ _ _ (Qb _) (fun a ha b s hc=> by
      have H:=hk a ha b s
      have hc:(f a.e b.e).2=true:=hc
      have:=H.ct hK hc
      rw [Z3T,Z3T,Z3T]
      show 65600+ctE (f a.e b.e).1<=_
      omega) hM
     rw [Z9U,Z9U,Z9U] at c1
     rw [Ze2,Ze2,Ze2] at c2
     have mo:=Jp p.old;have mn:=Jp p.new;have ba:=Jp q.old;have bc:=Jp q.new
     simp only [ctE,Jh,ofO,Xq,Z1k]
     omega
 .rw [if_neg p2]
  have p3:p.kind=3:=by have:=rp.kind;omega
  have q3:q.kind=3:=JX
  have hl:p.list=q.list:=JX
  have bb:=rp.list p3
  have op:=Y3 wp.r
  have oq:=Y3 wq.r
  unfold Z1n
  by_cases hb1:(ZA 1 2 p.ops q.ops []).2.1=true
  .rw [if_pos hb1]
   cases hc:Z1m f (ZA 1 2 p.ops q.ops []).1 with
   | none=> exact ⟨fun h=> (by cases h),fun _ h=> (by cases h),fun _ _ h=> (by cases h),fun _ _ _ _ _ h=> (by cases h)⟩
   | some ops=>
    obtain ⟨j1,j2,j3,j4⟩:=ZC2 wp wq p3 hl ih rfl hb1 hc
    have ar:∀ o∈ops,0<=Z4 o:=fun o ho=> Z2R (Z99 (j1 o ho).1)
    have lA:=Z3M ops 0 ar V2 V2
    have lB:=Z3K ops 0 ar V2 V2
    have mA:=Z3M p.ops 0 (fun o ho=> Z2R (op o ho)) V2 V2
    have mB:=Z3K q.ops 0 (fun o ho=> Z2R (oq o ho)) V2 V2
    have t1:=rp.len.1
    have t2:=rq.len.2
    refine ⟨fun _=> ⟨?_,?_⟩,fun hK _=> ?_,fun _ _ _=> (show (3:Int)≠0 by decide),fun list h7 h9 _ _ _ af au=> ?_⟩
    .refine Zi7 bb (Z98 fun o ho=> (j1 o ho).1) ?_ ?_
     .rw [show ofO (some ops)=ops from rfl];omega
     .rw [show ofO (some ops)=ops from rfl];omega
    .refine ⟨Yk V2 V2,Z06,Z06,by simp,?_,trivial,ZfC fun o ho=> (j1 o ho).2⟩
     unfold InR;omega
    .have j4:=j4 hK;have mo:=Jp p.old;have mn:=Jp p.new;have ba:=Jp q.old;have bc:=Jp q.new
     simp only [ctE,Z0W,ofO,Xq,Z1k,Qp]
     omega
    .rcases af with h | h | h
     .exact .inl h
     .omega
     .omega
  .rw [if_neg hb1]
   exact ⟨fun h=> (by cases h),fun _ h=> (by cases h),fun _ _ h=> (by cases h),fun _ _ _ _ _ h=> (by cases h)⟩
theorem ZGA:∀ (n:Nat) (p q:Edit),Z8 p+Z8 q<=n->Wk p->Wk q->ComWk True (ZdY n p q) p q:=by
 intro n
 induction n with
 | zero=> intro p q h;obtain ⟨k,o,nw,w,ks,l,os⟩:=p;simp only [Z8] at h;omega
 | succ n ih=>
  intro p q hn wp u
  exact ZAj wp u fun a b s wa wb=> ih a b JX wa wb
end Go.AM.YtpjenobkibfpcaaGreat
namespace Go.AM
noncomputable def Z24(p q:Edit):Edit × Bool:=if (Yt p q).2=true then (Zj (Yt p q).1,true) else (Edit.nil,false)
def wOk(w:WEdit):Prop:=Z0O w/\ZG w.old w.mask=true/\ZG w.new w.mask=true
end Go.AM
namespace Go.AM.YtpjenobkibfpcaaGreat
open Go.AM Go.Proofs
theorem ZtG:Z3 Edit.nil 1=true:=rfl
mutual
def utE:Edit->Nat
 | .mk _ o n w ks _ os=> 16+Zo o+Zo n+65600*w.length+ZK8 ks+ZK6 os
def ZK8:List (KidOf Edit)->Nat
 | []=> 0
 | k ::r=> ZK9 k+ZK8 r
def ZK9:KidOf Edit->Nat
 | ⟨_,e⟩=> 65600+utE e
def ZK6:List (OpOf Edit)->Nat
 | []=> 0
 | o ::r=> ZK7 o+ZK6 r
def ZK7:OpOf Edit->Nat
 | ⟨k,n,l,e⟩=> if k=3 then 16+utE e else 34*(n.toNat+l.length)+Zg l
end
def φU(o:Op):Int:=ZK7 o
noncomputable section
def Zsc:ArgL (Int × Unit):=(.cons (Jj .u8) .nil)
def Zg3(a:Int × Unit):Prop:=0<=a.1/\a.1 < 256
def Zwa(a:Int × Unit):V U:= .c (.int .u64 ((Z1L (a.1).toNat 8:Nat):Int))
def Za6:Fs U:=fs Zsc (fun a=> [Zg3 a]) Zwa
def Zww(a:Tree × Unit):V U:= .c (.bool (decide (Tree.kind a.1≠10) && Zd a.1 64))
def Z5w:Fs U:=fs Zzy (fun a=> [Zig a]) Zww
def Zg1(a:Int × Tree × Unit):Prop:=Zo a.2.1<=18000000000/\rng a.2.1/\InR a.1
def Zw9(a:Int × Tree × Unit):V U:= .c (.bool (Zd (Tree.mk a.1 [] [a.2.1]) 64))
def Za4:Fs U:=fs Zss (fun a=> [Zg1 a]) Zw9
def Zsa:ArgL (Int × Edit × Unit):=(.cons (Jj .i64) (.cons (aEl .edit) .nil))
def ZnX(a:Int × Edit × Unit):Prop:=True
def Zw8(a:Int × Edit × Unit):V U:= .c (.bool (Z28 a.1 a.2.1))
def Z5s:Fs U:=fs Zsa (fun a=> [ZnX a]) Zw8
def ZsL:ArgL (List WEdit × Unit):=(.cons (aSl .wedit) .nil)
def Zgg(a:List WEdit × Unit):Prop:=(a.1).length<=20000000000/\∀ x∈a.1,Z0O x
def Zwv(a:List WEdit × Unit):V U:= .c (.bool (ZL (-1) a.1))
def Z5v:Fs U:=fs ZsL (fun a=> [Zgg a]) Zwv
def ZgQ:Za U:=lvl [([0],[]),([0,3],[]),([0,3,5],[]),([0,3,5,6],[]),([0,3,4,5],[]),([0,3,4,5,12],[]),([0,3,5],[]),([0,3,5],[]),([2],[])]
def Z51(m h s:Int):LSt U:=(L2 [(0,.c (.int .u8 m)),(3,.c (.int .u64 h)),pI 5 s] [])
abbrev ZLW(m:Int)(Q:QT):=AW (Z2 ZoA) Tryz.f215 ZgQ [] (L2 [(0,.c (.int .u8 m))] []) Q
theorem ZIU(m:Int)(Q:QT)(h:Zp (AW (Z2 ZoA) Tryz.f215 ZgQ [1,1,0,1,0,0]) (Z51 m 0 0) (xB 0 (SW (Z2 ZoA) Tryz.f215 ZgQ [1,1,1] Q))):
  ZLW m Q:=
 Eq.mpr V3 h
abbrev ZCv(m h s:Int)(N0:NT)(Q:QT):=AW (Z2 ZoA) Tryz.f215 ZgQ [1,1,0,1,0,0] (Z51 m h s) (xT N0 (xB 0 (SW (Z2 ZoA) Tryz.f215 ZgQ [1,1,1] Q)))
theorem ZuS(m u s:Int)(N0:NT)(Q:QT)(h:let z1:=IntKind.bits .u8;let z0:=IntKind.bits .u64;iB (decide (s < 8)) (((0:Int)<=s)/\(iB (((IntKind.wrap .u8 (BitVec.ofInt z1 (Int.fdiv m (2 ^ (min s.toNat z1))) &&& BitVec.ofInt z1 1).toNat):Int)==1) ((InR ((8:Int)*s))/\((0:Int)<=((8:Int)*s))/\((InR (s+1))/\(N0 (Z51 m (IntKind.wrap .u64 (BitVec.ofInt z0 u ||| BitVec.ofInt z0 (IntKind.wrap .u64 ((255:Int)*2 ^ (min (Int.toNat ((8:Int)*s)) z0)))).toNat) (s+1))))) ((InR (s+1))/\(N0 (Z51 m u (s+1)))))) (Q .ret (L2 [(2,.c (.int .u64 u))] []))):
  ZCv m u s N0 Q:=
 Eq.mpr V3 h
def ZD3(m:Int):Prop:=AW (Z2 ZoA) Tryz.f215 ZgQ [] (Zf (Zsc.can (m,())) []) (EQ Tryz.f215 (Zwa (m,())) [])
theorem ZAY(hb:∀ (m:Int) (_:Unit),Zg3 (m,())->ZD3 m):CT 215 Za6:=
 Z1 (l:=[]) Ze rfl trivial ZgQ Tryz.func215 rfl rfl 1 (fun _=> rfl) V2 (fun ⟨m,_⟩=> hb m ())
def Zrs:List (FuncId × Fs U):=[(215,Za6)]
def ZxQ:Za U:=lvl [([0,1,2],[]),([6],[])]
abbrev ZM1(a b m:Int)(Q:QT):=AW (Z2 Zrs) Tryz.f176 ZxQ [] (L2 [(0,.c (.int .u64 a)),(1,.c (.int .u64 b)),(2,.c (.int .u8 m))] []) Q
theorem ZJm(a b m:Int)(Q:QT)(h:let z0:=IntKind.bits .u64;(Zg3 (m,()))/\(Zg3 (m,()))/\(Q .ret (L2 [(6,.c (.int .u64 (IntKind.wrap .u64 (BitVec.ofInt z0 (IntKind.wrap .u64 (BitVec.ofInt z0 a &&& ~~~(BitVec.ofInt z0 ((Z1L m.toNat 8:Nat):Int))).toNat) ||| BitVec.ofInt z0 (IntKind.wrap .u64 (BitVec.ofInt z0 b &&& BitVec.ofInt z0 ((Z1L m.toNat 8:Nat):Int)).toNat)).toNat)))] []))):
  ZM1 a b m Q:=
 Eq.mpr V3 h
def ZDv(a b m:Int):Prop:=AW (Z2 Zrs) Tryz.f176 ZxQ [] (Zf (ZsI.can (a,b,m,())) []) (EQ Tryz.f176 (Zws (a,b,m,())) [])
theorem ZBl(ZGM:CT 215 Za6)(hb:∀ (a:Int) (b:Int) (m:Int) (_:Unit),Zkf (a,b,m,())->ZDv a b m):CT 176 Zam:=
 Z1 (l:=[(215,Za6)]) Ze rfl (⟨ZGM,trivial⟩) ZxQ Tryz.func176 rfl rfl 3 (fun _=> rfl) V2 (fun ⟨a,b,m,_⟩=> hb a b m ())
def ZrM:List (FuncId × Fs U):=[(82,Z1s)]
abbrev ZMa(t:Tree)(Q:QT):=AW (Z2 ZrM) Tryz.f122 ZGj [] (L2 [(0,.agg (enc .tree t))] []) Q
theorem ZJQ(t:Tree)(Q:QT)(h:let z0:=Tree.mk t.kind t.words t.kids;((Tt (t.kind !=10))/\((t.kind !=10)=true->Zig (z0,()))/\(Tt (t.kind !=10))/\(Q .ret (L2 [pB 2 (bif (t.kind !=10) then (Zd z0 64) else false)] [])))):
  ZMa t Q:=
 Eq.mpr V3 h
def ZDZ(t:Tree):Prop:=AW (Z2 ZrM) Tryz.f122 ZGj [] (Zf (Zzy.can (t,())) []) (EQ Tryz.f122 (Zww (t,())) [])
theorem ZBJ(c82:CT 82 Z1s)(hb:∀ (t:Tree) (_:Unit),Zig (t,())->ZDZ t):CT 122 Z5w:=
 Z1 (l:=[(82,Z1s)]) Ze rfl (⟨c82,trivial⟩) ZGj Tryz.func122 rfl rfl 1 (fun _=> rfl) V2 (fun ⟨t,_⟩=> hb t ())
def Zxv:Za U:=lvl [([0,3],[3]),([4],[])]
abbrev ZLT(list:Int)(t:Tree)(Q:QT):=AW (Z2 ZrM) Tryz.f218 Zxv [] (L2 [pI 0 list,(1,.agg (enc .tree t))] []) Q
theorem ZIR(list:Int)(t:Tree)(Q:QT)(h:let z0:=Tree.mk list [] ([(Tree.mk t.kind t.words t.kids)]);(Zig (z0,()))/\(Q .ret (L2 [(4,.c (.bool (Zd z0 64)))] []))):
  ZLT list t Q:=
 Eq.mpr V3 h
def ZD0(list:Int)(t:Tree):Prop:=AW (Z2 ZrM) Tryz.f218 Zxv [] (Zf (Zss.can (list,t,())) []) (EQ Tryz.f218 (Zw9 (list,t,())) [])
theorem ZAV(c82:CT 82 Z1s)(hb:∀ (list:Int) (t:Tree) (_:Unit),Zg1 (list,t,())->ZD0 list t):CT 218 Za4:=
 Z1 (l:=[(82,Z1s)]) Ze rfl (⟨c82,trivial⟩) Zxv Tryz.func218 rfl rfl 2 (fun _=> rfl) V2 (fun ⟨list,t,_⟩=> hb list t ())
def Zr6:List (FuncId × Fs U):=[(220,Z42)]
def Zxu:Za U:=lvl [([0,3],[3]),([0,3,5],[3]),([4],[]),([3,13],[3]),([4],[]),([4],[])]
abbrev ZLS(list:Int)(e:Edit)(Q:QT):=AW (Z2 Zr6) Tryz.f219 Zxu [] (L2 [pI 0 list,(1,.agg (enc .edit e))] []) Q
theorem ZIQ(list:Int)(e:Edit)(Q:QT)(h:let z1:=decide (2<=list/\list<=7);let z0:=bif (e.kind==1) then (e.old.kind==1) else false;((Zo5 (list,()))/\(Tt (!z1))/\(Tt (!z1))/\(z1=false->(!z1)=true)/\(iB (bif z1 then true else (e.kind==0)) ((Q .ret (L2 [pB 4 false] []))) ((Tt (!(list==8)))/\(Tt (!(list==8)))/\((list==8)=false->(!(list==8))=true)/\(iB (bif (list==8) then true else (e.kind==2)) ((Q .ret (L2 [pB 4 true] []))) ((Tt (e.kind==1))/\(Tt (e.kind==1))/\(Tt (e.kind==1))/\(Tt (e.kind==1))/\(Tt z0)/\(Tt z0)/\(Tt z0)/\(Tt z0)/\(Q .ret (L2 [pB 4 (bif z0 then (e.new.kind==1) else false)] [])))))))):
  ZLS list e Q:=
 Eq.mpr V3 h
def ZCZ(list:Int)(e:Edit):Prop:=AW (Z2 Zr6) Tryz.f219 Zxu [] (Zf (Zsa.can (list,e,())) []) (EQ Tryz.f219 (Zw8 (list,e,())) [])
theorem ZAU(Zuo:CT 220 Z42)(hb:∀ (list:Int) (e:Edit) (_:Unit),ZnX (list,e,())->ZCZ list e):CT 219 Z5s:=
 Z1 (l:=[(220,Z42)]) Ze rfl (⟨Zuo,trivial⟩) Zxu Tryz.func219 rfl rfl 2 (fun _=> rfl) V2 (fun ⟨list,e,_⟩=> hb list e ())
def Z7V:List (FuncId × Fs U):=[(176,Zam)]
def ZgU:Za U:=lvl [([0],[]),([0,5,6,7],[]),([0,5,6,7,8],[]),([0,3,4,5,6,7],[4]),([0,4,5,6,7,39],[4]),([2],[]),([0,5,6,7,53],[]),([2],[]),([0,5,6,7],[]),([2],[])]
def Z8d(l:List WEdit)(h:Int):LSt U:=(L2 [(0,.c (sU .wedit l .unk)),(5,.c (sU .wedit l .unk)),pI 6 (l.length:Int),pI 7 h] [])
abbrev ZM9(l:List WEdit)(Q:QT):=AW (Z2 Z7V) Tryz.f123 ZgU [] (L2 [(0,.c (sU .wedit l .unk))] []) Q
theorem ZJP(l:List WEdit)(Q:QT)(h:Zp (AW (Z2 Z7V) Tryz.f123 ZgU [1,0,1,0,0]) (Z8d l 0) (xB 0 (SW (Z2 Z7V) Tryz.f123 ZgU [1,1] Q))):
  ZM9 l Q:=
 Eq.mpr V3 h
abbrev ZCE(l:List WEdit)(h:Int)(N0:NT)(Q:QT):=AW (Z2 Z7V) Tryz.f123 ZgU [1,0,1,0,0] (Z8d l h) (xT N0 (xB 0 (SW (Z2 Z7V) Tryz.f123 ZgU [1,1] Q)))
theorem Zvg(l:List WEdit)(u:Int)(N0:NT)(Q:QT)(h:∀ s,s=(l.getD u.toNat (WEdit.mk 0 0 0 0))->∀ aa,aa=(List.getD l (Int.toNat (u - 1)) (WEdit.mk 0 0 0 0))->let z6:=(Q .ret (L2 [pB 2 false] []));let z5:=decide ((0:Int) < u);let z4:=decide (s.at_ < 0);let z3:=((mix s.old 0 s.mask):Int) !=0;let z0:=bif z4 then true else (decide ((65535:Int)<=s.at_));let z2:=(!z0) && z5;let z1:=bif z0 then true else (bif z5 then (decide (s.at_<=aa.at_)) else false);(iB (decide (u < (l.length:Int))) (((0:Int)<=u/\u < (l.length:Int))/\((Tt (!z4))/\(Tt (!z4))/\(z4=false->(!z4)=true)/\(Tt (!z0))/\(Tt (!z0))/\(Tt z2)/\(z2=true->InR (u - 1))/\(Tt z2)/\(Tt z2)/\(z2=true->(0:Int)<=(u - 1)/\(u - 1) < (l.length:Int))/\(Tt z2)/\(Tt z2)/\(Tt z2)/\(Tt z2)/\(Tt z2)/\((!z0)=true->(True->(!z0)=true))/\((!z0)=true->(z5=true->z2=true))/\(z0=false->(!z0)=true)/\(Tt (!z1))/\(Tt (!z1))/\(z1=false->(!z1)=true)/\(iB (bif z1 then true else (s.mask==0)) z6 ((Zkf (s.old,0,s.mask,()))/\(Tt (!z3))/\(Tt (!z3))/\(Tt (!z3))/\(Tt (!z3))/\((!z3)=true->Zkf (s.new,0,s.mask,()))/\(Tt (!z3))/\(z3=false->(!z3)=true)/\(iB (bif z3 then true else (((mix s.new 0 s.mask):Int) !=0)) z6 ((InR (u+1))/\(N0 (Z8d l (u+1))))))))) ((Q .ret (L2 [pB 2 true] []))))):
  ZCE l u N0 Q:=
 Eq.mpr V3 (h _ rfl _ rfl)
def ZDY(l:List WEdit):Prop:=AW (Z2 Z7V) Tryz.f123 ZgU [] (Zf (ZsL.can (l,())) []) (EQ Tryz.f123 (Zwv (l,())) [])
theorem ZBI(Z9J:CT 176 Zam)(hb:∀ (l:List WEdit) (_:Unit),Zgg (l,())->ZDY l):CT 123 Z5v:=
 Z1 (l:=[(176,Zam)]) Ze rfl (⟨Z9J,trivial⟩) ZgU Tryz.func123 rfl rfl 1 (fun _=> rfl) V2 (fun ⟨l,_⟩=> hb l ())
end
theorem Zzl:∀ n:Fin 256,∀ i:Fin 8,IntKind.wrap .u8 (BitVec.ofInt (IntKind.bits .u8) (Int.fdiv (n.1:Int) (2 ^ (min (Int.toNat (i.1:Int)) (IntKind.bits .u8)))) &&& BitVec.ofInt (IntKind.bits .u8) 1).toNat=((n.1 / 2 ^ i.1 % 2:Nat):Int):=by decide+kernel
theorem ZAB:∀ n:Fin 256,∀ i:Fin 8,IntKind.wrap .u64 (BitVec.ofInt (IntKind.bits .u64) ((Z1L n.1 i.1:Nat):Int) ||| BitVec.ofInt (IntKind.bits .u64) (IntKind.wrap .u64 (255*2 ^ (min (Int.toNat (8*(i.1:Int))) (IntKind.bits .u64))))).toNat=((Z1L n.1 i.1+255*2 ^ (8*i.1):Nat):Int):=by decide+kernel
theorem ZGM:Contract Tryz.prog cfg 215 Za6:=by
 refine ZAY ?_
 intro m _ hp
 simp only [Zg3] at hp
 obtain ⟨n,rfl⟩:=X6 hp.1
 have s:n < 256:=JX
 refine ZIU _ _ ?_
 refine Zc (ι:=Nat) (fun i=> Z51 n ((Z1L n i:Nat):Int) i) (fun i=> i<=8) (fun i=> 8 - i) 0 rfl JX ?_
 intro i hi
 refine ZuS _ _ _ _ _ ?_
 (simp only [iB,vcS])
 refine ⟨fun hc=> ⟨JX,fun u=> ⟨V1,JX,V1,i+1,?_,JX,JX⟩,fun u=> ⟨V1,i+1,?_,JX,JX⟩⟩,fun hc=> ?_⟩
 .have h:=Zzl ⟨n,s⟩ ⟨i,JX⟩
  have h2:=ZAB ⟨n,s⟩ ⟨i,JX⟩
  simp only at h h2
  rw [h] at u
  rw [h2]
  have e:Z1L n (i+1)=Z1L n i+255*2 ^ (8*i):=by simp only [Z1L];grind
  rw [e]
  try rfl
 .have h:=Zzl ⟨n,s⟩ ⟨i,JX⟩
  simp only at h
  rw [h] at u
  have e:Z1L n (i+1)=Z1L n i:=by simp only [Z1L];rw [J3];omega
  rw [e]
  try rfl
 .have:i=8:=JX
  subst this
  trivial
theorem Z7J(a:Nat)(h:a < 2 ^ 64):(BitVec.ofInt 64 (a:Int)).toNat=a:=by
 grind
theorem Z9J:Contract Tryz.prog cfg 176 Zam:=by
 refine ZBl ZGM ?_
 intro a b m _ hp
 simp only [Zkf] at hp
 obtain ⟨⟨a0,a1⟩,⟨b0,b1⟩,u,m1⟩:=hp
 obtain ⟨x,rfl⟩:=X6 a0
 obtain ⟨y,rfl⟩:=X6 b0
 obtain ⟨n,rfl⟩:=X6 u
 have hn:n < 256:=JX
 have hx:x < 2 ^ 64:=JX
 have hy:y < 2 ^ 64:=JX
 have s:=ZzX ⟨n,hn⟩
 have h:=Zpg ⟨n,hn⟩
 simp only at s h
 rw [<-h] at s
 refine ZJm _ _ _ _ ?_
 refine ⟨⟨u,m1⟩,⟨u,m1⟩,Jb rfl ?_⟩
 have em:mix x y n=(((x &&& (2 ^ 64 - 1 - Z1L n 8)) ||| (y &&& Z1L n 8):Nat):Int):=by rw [<-Zxf,<-Zxe x y n hn]
 have e1:(BitVec.ofInt 64 (x:Int) &&& ~~~(BitVec.ofInt 64 ((Z1L n 8:Nat):Int))).toNat=x &&& (2 ^ 64 - 1 - Z1L n 8):=by
  rw [BitVec.toNat_and,BitVec.toNat_not,Z7J x hx,Z7J _ s]
 have e2:(BitVec.ofInt 64 (y:Int) &&& BitVec.ofInt 64 ((Z1L n 8:Nat):Int)).toNat=y &&& Z1L n 8:=by
  rw [BitVec.toNat_and,Z7J y hy,Z7J _ s]
 have l1:x &&& (2 ^ 64 - 1 - Z1L n 8) < 2 ^ 64:=Nat.lt_of_le_of_lt Nat.and_le_left hx
 have l2:y &&& Z1L n 8 < 2 ^ 64:=Nat.lt_of_le_of_lt Nat.and_le_left hy
 have l3:(x &&& (2 ^ 64 - 1 - Z1L n 8)) ||| (y &&& Z1L n 8) < 2 ^ 64:=Nat.or_lt_two_pow l1 l2
 have aa:IntKind.wrap .u64 ((BitVec.ofInt 64 (IntKind.wrap .u64 ((BitVec.ofInt 64 (x:Int) &&& ~~~(BitVec.ofInt 64 ((Z1L n 8:Nat):Int))).toNat:Int)) ||| BitVec.ofInt 64 (IntKind.wrap .u64 ((BitVec.ofInt 64 (y:Int) &&& BitVec.ofInt 64 ((Z1L n 8:Nat):Int)).toNat:Int))).toNat:Int)=mix x y n:=by
  have w1:∀ k:Nat,k < 2 ^ 64->IntKind.wrap .u64 (k:Int)=k:=fun k hk=> Z6m JX JX
  grind
 exact aa
theorem ZHn:Contract Tryz.prog cfg 122 Z5w:=by
 refine ZBJ c82 ?_
 intro t _ h
 refine ZJQ _ _ ?_
 (simp only [vE])
 simp only [iB,vcT,vcS,aiT,true_and]
 refine ⟨fun _=> h,Z5 rfl ?_⟩
 grind
theorem ZGJ:Contract Tryz.prog cfg 218 Za4:=by
 refine ZAV c82 ?_
 intro list t _ h
 simp only [Zg1] at h
 refine ZIR _ _ _ ?_
 (simp only [vE])
 refine ⟨⟨?_,?_⟩,V0⟩
 .simp only [Zo,Zg,Qp];omega
 .simp only [rng,Yx]
  have s:=h.2.2
  unfold InR at s
  grind
theorem ZGI:Contract Tryz.prog cfg 219 Z5s:=by
 refine ZAU Zuo ?_
 intro list e _ u
 refine ZIQ _ _ _ ?_
 simp only [iB,vcT,vcS,aiT,true_and]
 refine ⟨trivial,fun h=> ?_,fun h=> ⟨fun s=> ?_,fun s=> ?_⟩⟩
 .exact Z5 rfl (by show false=Z28 list e;unfold Z28;rw [if_pos h])
 .exact Z5 rfl (by show true=Z28 list e;unfold Z28;grind)
 .refine Z5 rfl ?_
  show _=Z28 list e
  unfold Z28
  grind
theorem Zjb(last:Int)(w:WEdit)(r:List WEdit):ZL last (w ::r)=(decide (last < w.at_/\w.at_<=65534/\w.mask≠0) && ZG w.old w.mask && ZG w.new w.mask && ZL w.at_ r):=rfl
theorem ZHm:Contract Tryz.prog cfg 123 Z5v:=by
 refine ZBI Z9J ?_
 intro l _ hp
 simp only [Zgg] at hp
 refine ZJP _ _ ?_
 refine Zc (ι:=Int) (fun i=> Z8d l i) (fun i=> 0<=i/\i<=l.length/\(i≠0->0<=(l.getD (i - 1).toNat (WEdit.mk 0 0 0 0)).at_)/\ZL (if i=0 then -1 else (l.getD (i - 1).toNat (WEdit.mk 0 0 0 0)).at_) (l.drop i.toNat)=ZL (-1) l) (fun i=> ((l.length:Int) - i).toNat) 0 rfl ⟨JX,JX,by simp,by simp⟩ ?_
 rintro i ⟨h1,h2,s,h⟩
 refine Zvg _ _ _ _ ?_
 rintro y1 u y2 ab
 simp only [iB,vcT,vcS,aiT,true_and]
 refine ⟨fun hi=> ?_,fun hi=> ?_⟩
 .have hm:=hp.2 _ (Zk (l:=l) (i:=i.toNat) JX (WEdit.mk 0 0 0 0))
  rw [YE h1 hi (WEdit.mk 0 0 0 0),Zjb] at h
  rw [<-u] at h hm
  rw [<-ab] at h s
  obtain ⟨r1,r2,r3,r4⟩:=hm
  unfold isW at r3 r4
  have hw:∀ x:Int,ZG x y1.mask=decide (mix x 0 y1.mask=0):=fun x=> rfl
  refine ⟨⟨h1,hi⟩,fun _=> by unfold InR;omega,fun _=> ⟨JX,JX⟩,fun hq=> ?_,fun hq=> ⟨⟨r3,by grind,r2⟩,fun _=> ⟨r4,by grind,r2⟩,fun hz=> ?_,fun hz=> ⟨V1,i+1,rfl,⟨JX,JX,fun _=> by grind,?_⟩,JX⟩⟩⟩
  .refine Z5 rfl ?_
   show false=ZL (-1) l
   rw [<-h,decide_eq_false]
   .try rfl
   omega
  .refine Z5 rfl ?_
   grind
  .rw [J3,show i+1 - 1=i by omega,<-u,<-h,hw,hw,decide_eq_true hz.1,decide_eq_true hz.2,decide_eq_true]
   .simp
   omega
 .rw [Qc JX] at h
  trivial
end Go.AM.YtpjenobkibfpcaaGreat
namespace Go.AM
def wr(n:Int):Int:=IntKind.wrap .i64 n
def Z1S(o:Op):Int:=if o.kind=3 then 1 else wr (o.n+o.l.length)
def ZkW(n:Int):Int:=if 1048576 < n then 1048576 else n
def Z3N:List Op->Int->Int
 | [],n=> n
 | o ::r,n=> Z3N r (if o.kind=2 then n else ZkW (wr (n+Z1S o)))
def Z3L:List Op->Int->Int
 | [],n=> n
 | o ::r,n=> Z3L r (if o.kind=1 then n else ZkW (wr (n+Z1S o)))
def Z5e(e:Edit):Bool:=
 if (e.kind≠1/\¬(YM e.old=true/\YM e.new=true))\/(e.kind≠2/\¬(e.words.length=0/\e.kids.length=0))\/(e.kind≠3/\(e.list≠0\/e.ops.length≠0)) then false else true
end Go.AM
namespace Go.AM.YtpjenobkibfpcaaGreat
open Go.AM Go.Proofs
noncomputable section
def Zwl(a:Edit × Unit):V U:= .tup [(false,[ci (Z3N a.1.ops 0)]),(false,[ci (Z3L a.1.ops 0)])]
def Z5u:Fs U:=fs ZsH (fun a=> [Z9q a]) Zwl
def Z0T:Za U:=lvl [([1],[1]),([1,4,5],[1]),([4,5,10,11,12],[]),([4,5,10,11,12,13],[]),([4,5,7,10,11,12],[7]),([4,5,7,8,10,11,12],[7]),([4,5,7,8,10,11,12,24],[7]),([4,5,7,8,10,11,12,24],[7]),([4,5,7,8,10,11,12,27],[7]),([4,5,7,8,10,11,12,27],[7]),([4,5,8,10,11,12,34],[]),([4,5,10,11,12],[]),([4,5,10,11,12],[]),([2,3],[])]
def Z1W(e:Edit)(s u h:Int):LSt U:=(L2 [pI 4 s,pI 5 u,(10,.c (sU .op e.ops .unk)),pI 11 (e.ops.length:Int),pI 12 h] [])
def ZcD(e:Edit)(u x5 h s:Int):LSt U:=(L2 [pI 4 u,pI 5 x5,pL 7,pI 8 s,(10,.c (sU .op e.ops .unk)),pI 11 (e.ops.length:Int),pI 12 h,(24,.c (.bool (((OpOf.kind (e.ops.getD h.toNat Op.nil)):Int)==3)))] [(.loc 7,(enc .op (e.ops.getD h.toNat Op.nil)))])
def ZcC(e:Edit)(x5 h s u:Int):LSt U:=(L2 [pI 4 u,pI 5 x5,pL 7,pI 8 s,(10,.c (sU .op e.ops .unk)),pI 11 (e.ops.length:Int),pI 12 h,(27,.c (.bool (((OpOf.kind (e.ops.getD h.toNat Op.nil)):Int) !=2)))] [(.loc 7,(enc .op (e.ops.getD h.toNat Op.nil)))])
abbrev ZM2(e:Edit)(Q:QT):=AW (Z0E ZoA) Tryz.f169 Z0T [] (L2 [(0,.agg (enc .edit e))] []) Q
theorem ZJr(e:Edit)(Q:QT)(h:Zp (AW (Z0E ZoA) Tryz.f169 Z0T [1,1,0,1,0,0]) (Z1W e 0 0 0) (xB 0 (SW (Z0E ZoA) Tryz.f169 Z0T [1,1,1] Q))):
  ZM2 e Q:=
 Eq.mpr V3 h
abbrev ZCx(e:Edit)(s u h:Int)(N0:NT)(Q:QT):=AW (Z0E ZoA) Tryz.f169 Z0T [1,1,0,1,0,0] (Z1W e s u h) (xT N0 (xB 0 (SW (Z0E ZoA) Tryz.f169 Z0T [1,1,1] Q)))
theorem Zv4(e:Edit)(u x5 s:Int)(N0:NT)(Q:QT)(h:let z1:=e.ops.getD s.toNat Op.nil;let z0:=xB 1 (SW (Z0E ZoA) Tryz.f169 Z0T [1,1,0,1,0,0,1,1,1] (xT N0 (xB 0 (SW (Z0E ZoA) Tryz.f169 Z0T [1,1,1] Q))));iB (decide (s < (e.ops.length:Int))) (((0:Int)<=s/\s < (e.ops.length:Int))/\(iB (((OpOf.kind z1):Int)==3) (AW (Z0E ZoA) Tryz.f169 Z0T [1,1,0,1,0,0,1,1,0,0,1,1,1] (ZcD e u x5 s 1) z0) (AW (Z0E ZoA) Tryz.f169 Z0T [1,1,0,1,0,0,1,1,0,0,1,1,1] (ZcD e u x5 s (IntKind.wrap .i64 (((OpOf.n z1):Int)+((OpOf.l z1).length:Int)))) z0))) (Q .ret (L2 [pI 2 u,pI 3 x5] []))):
  ZCx e u x5 s N0 Q:=
 Eq.mpr V3 h
abbrev ZsZ(e:Edit)(u x5 s h:Int)(N0:NT)(Q:QT):=AW (Z0E ZoA) Tryz.f169 Z0T [1,1,0,1,0,0,1,1,0,0,1,1,1] (ZcD e u x5 s h) (xB 1 (SW (Z0E ZoA) Tryz.f169 Z0T [1,1,0,1,0,0,1,1,1] (xT N0 (xB 0 (SW (Z0E ZoA) Tryz.f169 Z0T [1,1,1] Q)))))
theorem Zv6(e:Edit)(x4 x5 u s:Int)(N0:NT)(Q:QT)(h:let z1:=IntKind.wrap .i64 (x4+s);let z0:=xB 1 (SW (Z0E ZoA) Tryz.f169 Z0T [1,1,0,1,0,0,1,1,1] (xT N0 (xB 0 (SW (Z0E ZoA) Tryz.f169 Z0T [1,1,1] Q))));iB (((OpOf.kind (e.ops.getD u.toNat Op.nil)):Int) !=2) (AW (Z0E ZoA) Tryz.f169 Z0T [1,1,0,1,0,0,1,1,0,0,1,1,1,1] (ZcC e x5 u s (if (1048576:Int) < z1 then 1048576 else z1)) z0) (AW (Z0E ZoA) Tryz.f169 Z0T [1,1,0,1,0,0,1,1,0,0,1,1,1,1] (ZcC e x5 u s x4) z0)):
  ZsZ e x4 x5 u s N0 Q:=
 Eq.mpr V3 h
abbrev ZsY(e:Edit)(x5 u h s:Int)(N0:NT)(Q:QT):=AW (Z0E ZoA) Tryz.f169 Z0T [1,1,0,1,0,0,1,1,0,0,1,1,1,1] (ZcC e x5 u h s) (xB 1 (SW (Z0E ZoA) Tryz.f169 Z0T [1,1,0,1,0,0,1,1,1] (xT N0 (xB 0 (SW (Z0E ZoA) Tryz.f169 Z0T [1,1,1] Q)))))
theorem Zv5(e:Edit)(x5 u aa s:Int)(N0:NT)(Q:QT)(h:let z0:=IntKind.wrap .i64 (x5+aa);iB (((OpOf.kind (e.ops.getD u.toNat Op.nil)):Int) !=1) (N0 (Z1W e s (if (1048576:Int) < z0 then 1048576 else z0) (IntKind.wrap .i64 (u+1)))) (N0 (Z1W e s x5 (IntKind.wrap .i64 (u+1))))):
  ZsY e x5 u aa s N0 Q:=
 Eq.mpr V3 h
def ZDA(e:Edit):Prop:=AW (Z0E ZoA) Tryz.f169 Z0T [] (Zf (ZsH.can (e,())) []) (EQ Tryz.f169 (Zwl (e,())) [])
theorem ZBq(hb:∀ (e:Edit) (_:Unit),Z9q (e,())->ZDA e):CT 169 Z5u:=
 Zhh (l:=[]) Ze rfl trivial Z0T Tryz.func169 rfl rfl 1 (fun _=> rfl) V2 (fun ⟨e,_⟩=> hb e ())
end
end Go.AM.YtpjenobkibfpcaaGreat
