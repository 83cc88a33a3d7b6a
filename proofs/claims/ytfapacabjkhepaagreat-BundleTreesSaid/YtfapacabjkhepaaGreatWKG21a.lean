import Derived.Test.YtfapacabjkhepaaGreatWCL25b
import Derived.Test.YtfapacabjkhepaaGreatWKD20w
import Derived.Test.YtfapacabjkhepaaGreatWKRB07
set_option linter.unusedSimpArgs false
set_option linter.unusedVariables false
namespace Go.AM.YtfapacabjkhepaaGreat
open Go.AM Go.Proofs
theorem Z1u{o:Op}{r:List Op}{s d:List Tree}(h0:o.kind=0):Run (o ::r) s d↔∃ a u d',s=a++u/\d=a++d'/\(a.length:Int)=o.n/\Run r u d':=by
 constructor
 .intro h
  cases h with
  | keep _ h2 h3=> grind
  | gone h1=> omega
  | come h1=> omega
  | into h1=> omega
 .rintro ⟨a,u,d',rfl,rfl,h2,h3⟩
  exact .keep h0 h2 h3
theorem Z1v{o:Op}{r:List Op}{s d:List Tree}(h0:o.kind=1):Run (o ::r) s d↔∃ a u,s=a++u/\Z9 o.l=Z9 a/\Run r u d:=by
 constructor
 .intro h
  cases h with
  | gone _ h2 h3=> grind
  | keep h1=> omega
  | come h1=> omega
  | into h1=> omega
 .rintro ⟨a,u,rfl,h2,h3⟩
  exact .gone h0 h2 h3
theorem Z1w{o:Op}{r:List Op}{s d:List Tree}(h0:o.kind=2):Run (o ::r) s d↔∃ d',d=o.l++d'/\Run r s d':=by
 constructor
 .intro h
  cases h with
  | come _ u=> grind
  | keep h1=> omega
  | gone h1=> omega
  | into h1=> omega
 .rintro ⟨d',rfl,u⟩
  exact .come h0 u
theorem Z8y{o:Op}{r:List Op}{s d:List Tree}(h0:o.kind=3):Run (o ::r) s d↔∃ x u y d',s=x ::u/\d=y ::d'/\doE false o.e x=some y/\Run r u d':=by
 constructor
 .intro h
  cases h with
  | into _ h2 h3=> grind
  | keep h1=> omega
  | gone h1=> omega
  | come h1=> omega
 .rintro ⟨x,u,y,d',rfl,rfl,h2,h3⟩
  exact .into h0 h2 h3
theorem Z67{o:Op}{p r:List Op}(h:∀ s d,Run p s d↔Run r s d)(hk:kOk o)(s d:List Tree):Run (o ::p) s d↔Run (o ::r) s d:=by
 rcases hk with h0 | h1 | h2 | h3
 .rw [Z1u h0.1,Z1u h0.1];simp only [h]
 .rw [Z1v h1,Z1v h1];simp only [h]
 .rw [Z1w h2,Z1w h2];simp only [h]
 .rw [Z8y h3,Z8y h3];simp only [h]
theorem Z1h{o:Op}(h:YT o):kOk o:=by
 rcases h with h | h | h
 .exact .inl ⟨h.1,V0⟩
 .rcases h.1 with h1 | h1
  .exact .inr (.inl h1)
  .exact .inr (.inr (.inl h1))
 .exact .inr (.inr (.inr h.1))
theorem ZhE{o:Op}(h:YT o)(h0:o.kind=0):Z7 o=o.n:=by
 rcases h with h | h | h
 .unfold Z7;rw [JC,h.2.1];simp
 .omega
 .omega
theorem Z1z{o:Op}(h:YT o)(h0:o.kind=1\/o.kind=2):Z7 o=o.l.length:=by
 rcases h with h | h | h
 .omega
 .unfold Z7;omega
 .omega
theorem Z3a{o:Op}(h0:o.kind=3):Z7 o=1:=by unfold Z7;rw [if_pos h0]
theorem Znj{o:Op}{r:List Op}{s m:List Tree}(ho:YT o)(hk:o.kind≠1)(h:Run (o ::r) s m):∃ m1 u m',m=m1++m'/\(m1.length:Int)=Z7 o/\Run r u m':=by
 rcases Z1h ho with h0 | h1 | h2 | h3
 .obtain ⟨a,u,d,_,rfl,hl,hr⟩:=(Z1u h0.1).1 h
  exact ⟨a,u,d,rfl,by rw [ZhE ho h0.1];exact hl,hr⟩
 .omega
 .obtain ⟨d,rfl,hr⟩:=(Z1w h2).1 h
  exact ⟨o.l,s,d,rfl,by rw [Z1z ho (.inr h2)],hr⟩
 .obtain ⟨x,u,y,d,_,rfl,_,hr⟩:=(Z8y h3).1 h
  exact ⟨[y],u,d,rfl,by rw [Z3a h3];rfl,hr⟩
theorem ZrZ{o:Op}{r:List Op}{m d:List Tree}(ho:YT o)(hk:o.kind≠2)(h:Run (o ::r) m d):∃ m1 m' d',m=m1++m'/\(m1.length:Int)=Z7 o/\Run r m' d':=by
 rcases Z1h ho with h0 | h1 | h2 | h3
 .obtain ⟨a,s,d',rfl,_,hl,u⟩:=(Z1u h0.1).1 h
  exact ⟨a,s,d',rfl,by rw [ZhE ho h0.1];exact hl,u⟩
 .obtain ⟨a,s,rfl,hn,u⟩:=(Z1v h1).1 h
  exact ⟨a,s,d,rfl,by rw [Z1z ho (.inl h1),Z3R hn],u⟩
 .omega
 .obtain ⟨x,s,y,d',rfl,_,_,u⟩:=(Z8y h3).1 h
  exact ⟨[x],s,d',rfl,by rw [Z3a h3];rfl,u⟩
theorem ZpT{o:Op}{r:List Op}{n:Int}(ho:YT o)(h1:1<=n)(hn:¬Z7 o<=n)(s d:List Tree):Run (o ::r) s d↔Run (ZV o n ::JY o n ::r) s d:=by
 unfold ZV JY
 rw [if_neg hn]
 rcases Z1h ho with h0 | hg | hc | hi
 .have hl:=ZhE ho h0.1
  rw [if_pos h0.1,if_pos h0.1,Z1u h0.1,Z1u (o:=⟨o.kind,n,o.l,o.e⟩) h0.1]
  constructor
  .rintro ⟨a,s',d',rfl,rfl,ha,h⟩
   refine ⟨a.take n.toNat,a.drop n.toNat++s',a.drop n.toNat++d',by rw [<-Ql,QQ],by rw [<-Ql,QQ],by grind,?_⟩
   exact (Z1u (o:=⟨o.kind,o.n - n,o.l,o.e⟩) h0.1).2 ⟨a.drop n.toNat,s',d',rfl,rfl,by grind,h⟩
  .rintro ⟨a,s',d',rfl,rfl,ha,h⟩
   obtain ⟨b,s2,d2,rfl,rfl,hb,u⟩:=(Z1u (o:=⟨o.kind,o.n - n,o.l,o.e⟩) h0.1).1 h
   grind
 .have hl:=Z1z ho (.inl hg)
  rw [JC,JC,Z1v hg,Z1v (o:=⟨o.kind,o.n,o.l.take n.toNat,o.e⟩) hg]
  constructor
  .rintro ⟨a,s',rfl,ha,h⟩
   have aj:=Z3R ha
   refine ⟨a.take n.toNat,a.drop n.toNat++s',by rw [<-Ql,QQ],EqvL.take ha _,?_⟩
   exact (Z1v (o:=⟨o.kind,o.n,o.l.drop n.toNat,o.e⟩) hg).2 ⟨a.drop n.toNat,s',rfl,EqvL.drop ha _,h⟩
  .rintro ⟨a,s',rfl,ha,h⟩
   obtain ⟨b,s2,rfl,hb,u⟩:=(Z1v (o:=⟨o.kind,o.n,o.l.drop n.toNat,o.e⟩) hg).1 h
   refine ⟨a++b,s2,by grind,?_,u⟩
   have:=JZ ha hb
   simp_all
 .rw [JC,JC,Z1w hc,Z1w (o:=⟨o.kind,o.n,o.l.take n.toNat,o.e⟩) hc]
  constructor
  .rintro ⟨d',rfl,h⟩
   refine ⟨o.l.drop n.toNat++d',by rw [<-Ql,QQ],?_⟩
   exact (Z1w (o:=⟨o.kind,o.n,o.l.drop n.toNat,o.e⟩) hc).2 ⟨d',rfl,h⟩
  .rintro ⟨d',rfl,h⟩
   obtain ⟨d2,rfl,u⟩:=(Z1w (o:=⟨o.kind,o.n,o.l.drop n.toNat,o.e⟩) hc).1 h
   exact ⟨d2,by rw [<-Ql,QQ],u⟩
 .rw [Z3a hi] at hn
  omega
def Z4N:List Piece->List Op
 | []=> []
 | x ::r=> (if x.of=2 then [] else [x.p])++Z4N r
def Z4M:List Piece->List Op
 | []=> []
 | x ::r=> (if x.of=1 then [] else [x.q])++Z4M r
def Part(l:List Op)(o:Op):Prop:=∃ o'∈l,o.kind=o'.kind/\o.e=o'.e/\Zx o<=Zx o'/\∀ t∈o.l,t∈o'.l
structure POk (p q:List Op) (x:Piece):Prop where
 of:x.of=0\/x.of=1\/x.of=2
 pp:x.of≠2->Part p x.p/\YT x.p
 qq:x.of≠1->Part q x.q/\YT x.q
 one:x.of=1->x.p.kind=1
 two:x.of=2->x.q.kind=2
 both:x.of=0->x.p.kind≠1/\x.q.kind≠2/\Z7 x.p=Z7 x.q
 pn:x.of=2->x.p=Op.nil
 qn:x.of=1->x.q=Op.nil
theorem Part.mono{l l':List Op}{o:Op}(h:Part l o)(hl:∀ x∈l,Part l' x):Part l' o:=by
 obtain ⟨o',h1,s,h3,d,u⟩:=h
 obtain ⟨o2,g1,g2,g3,g5,g4⟩:=hl o' h1
 exact ⟨o2,g1,s.trans g2,h3.trans g3,X2 d g5,fun t ht=> g4 t (u t ht)⟩
theorem Part.self{l:List Op}{o:Op}(h:o∈l):Part l o:=⟨o,h,rfl,rfl,Qc _,fun _ h=> h⟩
theorem POk.mono{p q p' q':List Op}{x:Piece}(h:POk p q x)(hp:∀ x∈p,Part p' x)(hq:∀ x∈q,Part q' x):POk p' q' x:=
 ⟨h.of,fun e=> ⟨(h.pp e).1.mono hp,(h.pp e).2⟩,fun e=> ⟨(h.qq e).1.mono hq,(h.qq e).2⟩,h.one,h.two,h.both,h.pn,h.qn⟩
theorem ZiI{o:Op}{r:List Op}{n:Int}(h:∀ x∈o ::r,YT x)(h1:1<=n)(hn:n<=Z7 o):
  YT (ZV o n)/\Z7 (ZV o n)=n/\(ZV o n).kind=o.kind/\Part (o ::r) (ZV o n)/\(∀ x∈Y9 (o ::r) n,YT x/\Part (o ::r) x)/\∀ s d,Run (o ::r) s d↔Run (ZV o n ::Y9 (o ::r) n) s d:=by
 have ho:=h o Q5
 have hr:∀ x∈r,YT x/\Part (o ::r) x:=fun x hx=> ⟨h x (Q1 _ hx),Part.self (Q1 _ hx)⟩
 unfold Y9
 simp only [QB,QJ,Xg]
 by_cases hl:Z7 o<=n
 .rw [if_pos hl]
  have e:ZV o n=o:=by unfold ZV;rw [if_pos hl]
  rw [e]
  exact ⟨ho,V0,rfl,Part.self Q5,hr,fun s d=> Qu⟩
 .rw [if_neg hl]
  obtain ⟨_,v2,v3,v4⟩:=Z87 (a:=1) ho h1 hl
  obtain ⟨b1,b2⟩:=Zfi ho h1 hl
  refine ⟨v2,v3,Z4l o n,?_,?_,ZpT ho h1 hl⟩
  .refine ⟨o,Q5,Z4l o n,?_,v4,?_⟩
   .unfold ZV;split;rfl;split <;> rfl
   .intro t u
    unfold ZV at u
    split at u
    .exact u
    .split at u
     .exact u
     .exact Xp u
  .intro x hx
   rcases Q7.1 hx with rfl | hx
   .refine ⟨b1,o,Q5,?_,?_,b2,?_⟩
    .unfold JY;split <;> rfl
    .unfold JY;split <;> rfl
    .intro t u
     unfold JY at u
     split at u
     .exact u
     .exact X7 u
   .exact hr x hx
theorem Znk{d:List Tree}{s:List Tree}(h:Run [] s d):s=[]/\d=[]:=by cases h;grind
theorem Zeo:∀ (k:Nat) (p q:List Op) (out:List Piece),p.length+q.length<=k->(∀ o∈p,YT o)->(∀ o∈q,YT o)->
  ((Yo 1 2 p q out).2.1=true->∃ ps,(Yo 1 2 p q out).1=out++ps/\(∀ x∈ps,POk p q x)/\(∀ s m,Run p s m↔Run (Z4N ps) s m)/\∀ m d,Run q m d↔Run (Z4M ps) m d)/\
  ((Yo 1 2 p q out).2.1=false->∀ s m d,Run p s m->Run q m d->False):=by
 intro k
 induction k with
 | zero=>
  intro p q out hk hp hq
  have e1:p=[]:=Q3 V0
  have e2:q=[]:=Q3 V0
  subst e1 e2
  have e:Yo 1 2 [] [] out=(out,true,[],[]):=by
   rw [Yo,dif_neg (by simp [sgl]),dif_neg (by simp [sgl]),dif_pos (by simp)]
   try rfl
  rw [e]
  exact ⟨fun _=> ⟨[],by simp,fun x u=> (by cases u),fun s m=> Qu,fun m d=> Qu⟩,fun h=> by cases h⟩
 | succ k ih=>
  intro p q out hk hp hq
  rw [Yo]
  by_cases h1:sgl 1 p=true
  .rw [dif_pos h1]
   obtain ⟨g1,g2⟩:=Z32.1 h1
   cases p with
   | nil=> grind
   | cons a p'=>
    simp only [QB] at g2
    simp only [QB,QJ,Xg]
    have ha:=hp a Q5
    obtain ⟨i1,i2⟩:=ih p' q (out++[⟨1,a,Op.nil⟩]) (by grind) (fun o ho=> hp o (Q1 _ ho)) hq
    refine ⟨fun h=> ?_,fun h s m d r1 r2=> ?_⟩
    .obtain ⟨ps,e,ae,hP,hQ⟩:=i1 h
     refine ⟨⟨1,a,Op.nil⟩ ::ps,by grind,fun x u=> ?_,fun s m=> ?_,fun m d=> ?_⟩
     .rcases Q7.1 u with rfl | u
      .exact ⟨.inr (.inl rfl),fun _=> ⟨Part.self Q5,ha⟩,fun e=> absurd rfl e,fun _=> g2,fun e=> (by cases e),fun e=> (by cases e),fun e=> (by cases e),fun _=> rfl⟩
      .exact (ae x u).mono (fun x u=> Part.self (Q1 _ u)) (fun x u=> Part.self u)
     .show _↔Run (a ::Z4N ps) s m
      exact Z67 hP (Z1h ha) s m
     .exact hQ m d
    .obtain ⟨b,s',_,_,hr⟩:=(Z1v g2).1 r1
     grind
  .rw [dif_neg h1]
   by_cases h2:sgl 2 q=true
   .rw [dif_pos h2]
    obtain ⟨g1,g2⟩:=Z32.1 h2
    cases q with
    | nil=> grind
    | cons a q'=>
     simp only [QB] at g2
     simp only [QB,QJ,Xg]
     have ha:=hq a Q5
     obtain ⟨i1,i2⟩:=ih p q' (out++[⟨2,Op.nil,a⟩]) (by grind) hp (fun o ho=> hq o (Q1 _ ho))
     refine ⟨fun h=> ?_,fun h s m d r1 r2=> ?_⟩
     .obtain ⟨ps,e,ae,hP,hQ⟩:=i1 h
      refine ⟨⟨2,Op.nil,a⟩ ::ps,by grind,fun x u=> ?_,fun s m=> ?_,fun m d=> ?_⟩
      .rcases Q7.1 u with rfl | u
       .exact ⟨.inr (.inr rfl),fun e=> absurd rfl e,fun _=> ⟨Part.self Q5,ha⟩,fun e=> (by cases e),fun _=> g2,fun e=> (by cases e),fun _=> rfl,fun e=> (by cases e)⟩
       .exact (ae x u).mono (fun x u=> Part.self u) (fun x u=> Part.self (Q1 _ u))
      .exact hP s m
      .show _↔Run (a ::Z4M ps) m d
       exact Z67 hQ (Z1h ha) m d
     .obtain ⟨d',_,hr⟩:=(Z1w g2).1 r2
      grind
   .rw [dif_neg h2]
    by_cases h3:p.length=0\/q.length=0
    .rw [dif_pos h3]
     by_cases h4:p.length=0
     .have e1:p=[]:=Q3 h4
      subst e1
      by_cases h5:q.length=0
      .have e2:q=[]:=Q3 h5
       subst e2
       rw [if_pos rfl]
       exact ⟨fun _=> ⟨[],by simp,fun x u=> (by cases u),fun s m=> Qu,fun m d=> Qu⟩,fun h=> by cases h⟩
      .rw [if_neg (by grind)]
       refine ⟨fun h=> (by cases h),fun _ s m d r1 r2=> ?_⟩
       cases q with
       | nil=> exact h5 rfl
       | cons a q'=>
        have ha:=hq a Q5
        obtain ⟨_,rfl⟩:=Znk r1
        obtain ⟨m1,m',d',e,hl,_⟩:=ZrZ ha (fun e=> h2 (Z32.2 ⟨by simp,by simpa using e⟩)) r2
        have:=Ji ha
        have e:=congrArg List.length e
        grind
     .have h5:q.length=0:=V0
      have e2:q=[]:=Q3 h5
      subst e2
      rw [if_neg (by grind)]
      refine ⟨fun h=> (by cases h),fun _ s m d r1 r2=> ?_⟩
      cases p with
      | nil=> exact h4 rfl
      | cons a p'=>
       have ha:=hp a Q5
       obtain ⟨rfl,_⟩:=Znk r2
       obtain ⟨m1,s',m',e,hl,_⟩:=Znj ha (fun e=> h1 (Z32.2 ⟨by simp,by simpa using e⟩)) r1
       have:=Ji ha
       have e:=congrArg List.length e
       grind
    .rw [dif_neg h3]
     cases p with
     | nil=> simp at h3
     | cons a p'=>
      cases q with
      | nil=> simp at h3
      | cons b q'=>
       have ha:=hp a Q5
       have hb:=hq b Q5
       have ka:a.kind≠1:=fun e=> h1 (Z32.2 ⟨by simp,by simpa using e⟩)
       have kb:b.kind≠2:=fun e=> h2 (Z32.2 ⟨by simp,by simpa using e⟩)
       have la:=Ji ha
       have lb:=Ji hb
       simp only [QB]
       generalize hn:min (Z7 a) (Z7 b)=n
       have ar:1<=n:=V0
       have az:n<=Z7 a:=V0
       have ax:n<=Z7 b:=V0
       obtain ⟨a1,a2,a3,a4,a5,a6⟩:=ZiI hp ar az
       obtain ⟨b1,b2,b3,b4,b5,b6⟩:=ZiI hq ar ax
       have aw:(Y9 (a ::p') n).length+(Y9 (b ::q') n).length<=k:=by
        have x1:=J3 (a ::p') n (by simp)
        have x2:=J3 (b ::q') n (by simp)
        simp only [Qe] at hk x1 x2
        rcases Int.le_total (Z7 a) (Z7 b) with h | h
        .have:=J2 (a ::p') n (by simp) (by grind)
         grind
        .have:=J2 (b ::q') n (by simp) (by grind)
         grind
       obtain ⟨i1,i2⟩:=ih (Y9 (a ::p') n) (Y9 (b ::q') n) (out++[⟨0,ZV a n,ZV b n⟩]) aw (fun o ho=> (a5 o ho).1) (fun o ho=> (b5 o ho).1)
       refine ⟨fun h=> ?_,fun h s m d r1 r2=> ?_⟩
       .obtain ⟨ps,e,ae,hP,hQ⟩:=i1 h
        refine ⟨⟨0,ZV a n,ZV b n⟩ ::ps,by grind,fun x u=> ?_,fun s m=> ?_,fun m d=> ?_⟩
        .rcases Q7.1 u with rfl | u
         .exact ⟨.inl rfl,fun _=> ⟨a4,a1⟩,fun _=> ⟨b4,b1⟩,fun e=> (by cases e),fun e=> (by cases e),fun _=> ⟨by grind,by grind,by grind⟩,fun e=> (by cases e),fun e=> (by cases e)⟩
         .exact (ae x u).mono (fun x u=> (a5 x u).2) (fun x u=> (b5 x u).2)
        .rw [a6 s m]
         exact Z67 hP (Z1h a1) s m
        .rw [b6 m d]
         exact Z67 hQ (Z1h b1) m d
       .rw [a6] at r1
        rw [b6] at r2
        obtain ⟨m1,s',m',e,hl,r3⟩:=Znj a1 V0 r1
        obtain ⟨m2,m3,d',e',bl,r4⟩:=ZrZ b1 V0 r2
        obtain ⟨_,e2⟩:=List.append_inj (e.symm.trans e') V0
        grind
section
variable {β:Type} {at_:β->Int} {one:β->β->β × Bool}
structure MSpec (at_:β->Int) (one:β->β->β × Bool) (last:Int) (p q L:List β):Prop where
 asc_:asc at_ last L
 of:∀ x∈L,(x∈p/\∀ b∈q,at_ b≠at_ x)\/(x∈q/\∀ a∈p,at_ a≠at_ x)\/∃ a∈p,∃ b∈q,at_ a=at_ b/\(one a b).2=true/\x=(one a b).1
 left:∀ a∈p,(∀ b∈q,at_ b≠at_ a)->a∈L
 right:∀ b∈q,(∀ a∈p,at_ a≠at_ b)->b∈L
 both:∀ a∈p,∀ b∈q,at_ a=at_ b->(one a b).2=true/\(one a b).1∈L
theorem ZeC(hone:∀ a b,at_ a=at_ b->(one a b).2=true->at_ (one a b).1=at_ a):∀ (k:Nat) (p q:List β) (aa:Int),p.length+q.length<=k->asc at_ aa p->asc at_ aa q->
  (Zr at_ one p q=none->∃ a∈p,∃ b∈q,at_ a=at_ b/\(one a b).2=false)/\∀ L,Zr at_ one p q=some L->MSpec at_ one aa p q L:=by
 intro k
 induction k with
 | zero=>
  intro p q aa hk hp hq
  have e1:p=[]:=Q3 V0
  have e2:q=[]:=Q3 V0
  subst e1 e2
  rw [Zr]
  refine ⟨fun h=> (by cases h),fun L h=> ?_⟩
  cases h
  exact ⟨trivial,fun x s=> (by cases s),fun a ha=> (by cases ha),fun a ha=> (by cases ha),fun a ha=> (by cases ha)⟩
 | succ k ih=>
  intro p q aa hk hp hq
  match p,q with
  | [],q=>
   rw [Zr]
   refine ⟨fun h=> (by cases h),fun L h=> ?_⟩
   cases h
   exact ⟨hq,fun x s=> .inr (.inl ⟨s,fun a ha=> (by cases ha)⟩),fun a ha=> (by cases ha),fun b hb _=> hb,fun a ha=> (by cases ha)⟩
  | a ::p,[]=>
   rw [Zr]
   refine ⟨fun h=> (by cases h),fun L h=> ?_⟩
   cases h
   exact ⟨hp,fun x s=> .inl ⟨s,fun a ha=> (by cases ha)⟩,fun b hb _=> hb,fun a ha=> (by cases ha),fun a _ b hb=> (by cases hb)⟩
  | a ::p,b ::q=>
   have gp:=fun x s=> ZmG hp.2 x s
   have gq:=fun x s=> ZmG hq.2 x s
   simp only [Qe] at hk
   rw [Zr]
   by_cases h1:at_ a < at_ b
   .rw [if_pos h1]
    obtain ⟨i1,i2⟩:=ih p (b ::q) (at_ a) (by grind) hp.2 ⟨h1,hq.2⟩
    refine ⟨fun h=> ?_,fun L h=> ?_⟩
    .simp_all
    .obtain ⟨L',hL,rfl⟩:=Qh.1 h
     have S:=i2 L' hL
     have na:∀ y∈b ::q,at_ y≠at_ a:=by
      intro y u
      rcases Q7.1 u with rfl | u
      .omega
      .have:=gq y u;omega
     refine ⟨⟨hp.1,S.asc_⟩,fun x s=> ?_,fun x s hn=> ?_,fun y u hn=> ?_,fun x s y u e=> ?_⟩
     .rcases Q7.1 s with rfl | s
      .grind
      .rcases S.of x s with ⟨h2,h3⟩ | ⟨h2,h3⟩ | ⟨c,hc,d,hd,h2⟩
       .grind
       .grind
       .exact .inr (.inr ⟨c,Q1 _ hc,d,hd,h2⟩)
     .rcases Q7.1 s with rfl | s
      .grind
      .exact Q1 _ (S.left x s hn)
     .exact Q1 _ (S.right y u fun c hc=> hn c (Q1 _ hc))
     .rcases Q7.1 s with rfl | s
      .grind
      .obtain ⟨h2,h3⟩:=S.both x s y u e
       grind
   .rw [if_neg h1]
    by_cases h2:at_ b < at_ a
    .rw [if_pos h2]
     obtain ⟨i1,i2⟩:=ih (a ::p) q (at_ b) (by grind) ⟨h2,hp.2⟩ hq.2
     refine ⟨fun h=> ?_,fun L h=> ?_⟩
     .rw [Option.map_eq_none_iff] at h
      obtain ⟨x,s,y,u,e⟩:=i1 h
      exact ⟨x,s,y,Q1 _ u,e⟩
     .obtain ⟨L',hL,rfl⟩:=Qh.1 h
      have S:=i2 L' hL
      have nb:∀ y∈a ::p,at_ y≠at_ b:=by
       intro y u
       rcases Q7.1 u with rfl | u
       .omega
       .have:=gp y u;omega
      refine ⟨⟨hq.1,S.asc_⟩,fun x s=> ?_,fun x s hn=> ?_,fun y u hn=> ?_,fun x s y u e=> ?_⟩
      .rcases Q7.1 s with rfl | s
       .grind
       .rcases S.of x s with ⟨h3,h4⟩ | ⟨h3,h4⟩ | ⟨c,hc,d,hd,h3⟩
        .grind
        .grind
        .exact .inr (.inr ⟨c,hc,d,Q1 _ hd,h3⟩)
      .exact Q1 _ (S.left x s fun c hc=> hn c (Q1 _ hc))
      .rcases Q7.1 u with rfl | u
       .grind
       .exact Q1 _ (S.right y u hn)
      .rcases Q7.1 u with rfl | u
       .grind
       .obtain ⟨h3,h4⟩:=S.both x s y u e
        grind
    .rw [if_neg h2]
     have e0:at_ a=at_ b:=V0
     by_cases h3:(one a b).2=true
     .rw [if_pos h3]
      obtain ⟨i1,i2⟩:=ih p q (at_ a) V0 hp.2 (by rw [e0];exact hq.2)
      refine ⟨fun h=> ?_,fun L h=> ?_⟩
      .rw [Option.map_eq_none_iff] at h
       obtain ⟨x,s,y,u,e⟩:=i1 h
       exact ⟨x,Q1 _ s,y,Q1 _ u,e⟩
      .obtain ⟨L',hL,rfl⟩:=Qh.1 h
       have S:=i2 L' hL
       have al:=hone a b e0 h3
       have na:∀ y∈q,at_ y≠at_ a:=fun y u=> by grind
       have nb:∀ y∈p,at_ y≠at_ b:=fun y u=> by grind
       refine ⟨⟨by rw [al];exact hp.1,by rw [al];exact S.asc_⟩,fun x s=> ?_,fun x s hn=> ?_,fun y u hn=> ?_,fun x s y u e=> ?_⟩
       .rcases Q7.1 s with rfl | s
        .simp_all
        .rcases S.of x s with ⟨h4,h5⟩ | ⟨h4,h5⟩ | ⟨c,hc,d,hd,h4⟩
         .refine .inl ⟨Q1 _ h4,fun c hc=> ?_⟩
          grind
         .refine .inr (.inl ⟨Q1 _ h4,fun c hc=> ?_⟩)
          grind
         .exact .inr (.inr ⟨c,Q1 _ hc,d,Q1 _ hd,h4⟩)
       .rcases Q7.1 s with rfl | s
        .simp_all
        .exact Q1 _ (S.left x s fun c hc=> hn c (Q1 _ hc))
       .rcases Q7.1 u with rfl | u
        .simp_all
        .exact Q1 _ (S.right y u fun c hc=> hn c (Q1 _ hc))
       .rcases Q7.1 s with rfl | s
        .grind
        .rcases Q7.1 u with rfl | u
         .grind
         .obtain ⟨h4,h5⟩:=S.both x s y u e
          grind
     simp_all
variable {α:Type} {z:α} {F:β->α->Option α} {R:α->α->Prop}
end
end Go.AM.YtfapacabjkhepaaGreat
namespace Go.AM.YtfapacabjkhepaaGreat
open Go.AM Go.Proofs
theorem Z3W(m:Int)(h0:0<=m)(h1:m < 256)(i:Nat):Z0j m (i:Int)=(BitVec.ofInt 8 m).toNat.testBit i:=by
 obtain ⟨n,rfl⟩:=QU h0
 have e:(BitVec.ofInt 8 ((n:Nat):Int)).toNat=n:=by simp;omega
 rw [e,Nat.testBit_eq_decide_div_mod_eq]
 unfold Z0j
 grind
theorem ZyZ{a b:Int}(ha:0<=a/\a < 256)(hb:0<=b/\b < 256):(0<=Zr5 a b/\Zr5 a b < 256)/\∀ i:Nat,Z0j (Zr5 a b) (i:Int)=(Z0j a (i:Int) && Z0j b (i:Int)):=by
 have d:(BitVec.ofInt 8 a &&& BitVec.ofInt 8 b).toNat < 256:=(BitVec.ofInt 8 a &&& BitVec.ofInt 8 b).isLt
 have e:Zr5 a b=((BitVec.ofInt 8 a &&& BitVec.ofInt 8 b).toNat:Int):=by
  show IntKind.wrap .u8 ((BitVec.ofInt 8 a &&& BitVec.ofInt 8 b).toNat:Int)=_
  exact Zcr V0 V0
 refine ⟨by rw [e];omega,fun i=> ?_⟩
 rw [Z3W _ (by rw [e];omega) (by rw [e];omega),e,Z3W a ha.1 ha.2,Z3W b hb.1 hb.2]
 grind
theorem ZBx{a b:Int}(ha:0<=a/\a < 256)(hb:0<=b/\b < 256):(0<=orM a b/\orM a b < 256)/\∀ i:Nat,Z0j (orM a b) (i:Int)=(Z0j a (i:Int) || Z0j b (i:Int)):=by
 have d:(BitVec.ofInt 8 a ||| BitVec.ofInt 8 b).toNat < 256:=(BitVec.ofInt 8 a ||| BitVec.ofInt 8 b).isLt
 have e:orM a b=((BitVec.ofInt 8 a ||| BitVec.ofInt 8 b).toNat:Int):=by
  show IntKind.wrap .u8 ((BitVec.ofInt 8 a ||| BitVec.ofInt 8 b).toNat:Int)=_
  exact Zcr V0 V0
 refine ⟨by rw [e];omega,fun i=> ?_⟩
 rw [Z3W _ (by rw [e];omega) (by rw [e];omega),e,Z3W a ha.1 ha.2,Z3W b hb.1 hb.2]
 grind
theorem ZAG(i:Nat):Zu 0 i=0:=by unfold Zu;simp
theorem Zbn{w m:Int}(h:Yg w m=true){i:Nat}(hi:i < 8)(hn:Z0j m i=false):Zu w i=0:=by
 have h:mix w 0 m=0:=of_decide_eq_true h
 have e:=congrArg (fun x=> Zu x i) h
 simp only [ZjY hi,Jo,hn,ZAG] at e
 simpa using e
theorem Zth{a b m:Int}{i:Nat}(hi:i < 8):Zu (mix a b m) i=if Z0j m i=true then Zu b i else Zu a i:=by rw [ZjY hi];try rfl
theorem ZyR(a b:WEdit)(h:(JW a b).2=true):(JW a b).1.at_=a.at_:=by
 unfold JW at h ⊢
 grind
theorem Z1c{e:Edit}{d:Int}(h:Z6 e d=true):∀ o∈e.ops,YT o:=Z7R (ZH h).ops
theorem Z7j {f g:Edit->Edit->Edit × Bool} {p q:Edit} {d d':Int} (hp:Z6 p d=true) (hq:Z6 q d'=true)
  (h:∀ a b,Zd a+Zd b < Zd p+Zd q->(∃ d,Z6 a d=true)->(∃ d,Z6 b d=true)->f a b=g a b):JG f p q=JG g p q:=by
 have rp:=ZH hp
 have rq:=ZH hq
 have hk:Zr KidOf.at_ (Z27 f) p.kids q.kids=Zr KidOf.at_ (Z27 g) p.kids q.kids:=by
  have af:∀ (k:Nat) (a b:List Kid),a.length+b.length<=k->(∀ x∈a,x∈p.kids)->(∀ x∈b,x∈q.kids)->Zr KidOf.at_ (Z27 f) a b=Zr KidOf.at_ (Z27 g) a b:=by
   intro k
   induction k with
   | zero=>
    intro a b hn _ _
    have e1:a=[]:=Q3 V0
    subst e1
    rw [Zr,Zr]
   | succ k ihk=>
    intro a b hn ha s
    match a,b with
    | [],b=> rw [Zr,Zr]
    | x ::a,[]=> rw [Zr,Zr]
    | x ::a,y ::b=>
     simp only [Qe] at hn
     have u:=Jz (ha x Q5)
     have hy:=Jz (s y Q5)
     have e:Z27 f x y=Z27 g x y:=by
      unfold Z27
      rw [h x.e y.e V0 ⟨_,(ZP rp.kids x (ha x Q5)).2⟩ ⟨_,(ZP rq.kids y (s y Q5)).2⟩]
     rw [Zr,Zr,e,ihk a (y ::b) (by simp only [Qe];omega) (fun z hz=> ha z (Q1 _ hz)) s,ihk (x ::a) b (by simp only [Qe];omega) ha (fun z hz=> s z (Q1 _ hz)),
      ihk a b V0 (fun z hz=> ha z (Q1 _ hz)) (fun z hz=> s z (Q1 _ hz))]
  exact af _ _ _ (Qc _) (fun x u=> u) (fun x u=> u)
 have ho:Z3k f p.ops q.ops=Z3k g p.ops q.ops:=by
  unfold Z3k
  obtain ⟨i1,_⟩:=Zeo _ p.ops q.ops [] (Qc _) (Z1c hp) (Z1c hq)
  by_cases s:(Yo 1 2 p.ops q.ops []).2.1=true
  .rw [if_pos s,if_pos s]
   obtain ⟨ps,e,ae,hA,hB⟩:=i1 s
   rw [e,QI]
   clear e i1 s hA hB
   induction ps with
   | nil=> rfl
   | cons x r ihr=>
    have u:=ae x Q5
    have e:JH f x=JH g x:=by
     unfold JH
     by_cases h1:x.of=1\/(x.of=0/\x.q.kind=0)
     .grind
     rw [if_neg h1,if_neg h1]
     by_cases h2:x.of=2\/x.p.kind=0
     .grind
     rw [if_neg h2,if_neg h2]
     by_cases h3:x.p.kind=2/\x.q.kind=1
     .grind
     rw [if_neg h3,if_neg h3]
     by_cases h4:x.p.kind=2
     .grind
     rw [if_neg h4,if_neg h4]
     by_cases h5:x.q.kind=1
     .grind
     rw [if_neg h5,if_neg h5]
     have h0:x.of=0:=by rcases u.of with h | h | h <;> omega
     obtain ⟨a2,aw,hl⟩:=u.both h0
     obtain ⟨⟨o1,m1,k1,e1,_⟩,op⟩:=u.pp V0
     obtain ⟨⟨o2,m2,k2,e2,_⟩,oq⟩:=u.qq V0
     have az:x.p.kind=3:=by rcases Z1h op with h | h | h | h <;> omega
     have ay:x.q.kind=3:=by rcases Z1h oq with h | h | h | h <;> omega
     have:=Z0S m1
     have:=Z0S m2
     have r1:=Z0w (rightOs_mem rp.ops m1) V0
     have r2:=Z0w (rightOs_mem rq.ops m2) V0
     rw [e1,e2,h o1.e o2.e V0 ⟨_,r1⟩ ⟨_,r2⟩]
    rw [Z3j,Z3j,e,ihr fun y hy=> ae y (Q1 _ hy)]
  .grind
 unfold JG
 rw [hk,ho]
theorem ZgM:∀ (n m:Nat) (p q:Edit) (d s:Int),Z6 p d=true->Z6 q s=true->Zd p+Zd q<=n->n<=m->ZfH m p q=ZfH n p q:=by
 intro n
 induction n with
 | zero=> intro m p q d s _ _ h;obtain ⟨k,o,nw,w,ks,l,os⟩:=p;simp only [Zd] at h;omega
 | succ n ih=>
  intro m p q d s hp hq h hm
  obtain ⟨m,rfl⟩:∃ k,m=k+1:=⟨m - 1,V0⟩
  show JG (ZfH m) p q=JG (ZfH n) p q
  exact Z7j hp hq fun a b ae ⟨d1,h1⟩ ⟨u,h2⟩=> ih m a b d1 u h1 h2 V0 V0
theorem ZqU{p q:Edit}{d d':Int}(hp:Z6 p d=true)(hq:Z6 q d'=true):Yv p q=JG Yv p q:=by
 have e:Yv p q=ZfH (Zd p+Zd q+1) p q:=(ZgM _ _ p q d d' hp hq (Qc _) V0).symm
 rw [e]
 show JG (ZfH (Zd p+Zd q)) p q=JG Yv p q
 exact Z7j hp hq fun a b ab ⟨d1,u⟩ ⟨s,h⟩=> ZgM _ _ a b d1 s u h (Qc _) V0
theorem ZuK(t:Tree):Eqv (Z3 t) t:=Yr t
theorem ZIF{e:Edit}(h:e.kind=2)(t:Tree):doE false e t=if t.kind=1 then (wsD t.words e.words t.words).bind fun a=> (JV false t.kids e.kids t.kids).map fun b=> .mk 1 a b else none:=by
 rw [Z0X,Jj,JC,JC,if_pos h]
theorem ZGT(w:List WEdit)(ks:List Kid)(t:Tree):doE false (.mk 2 Tree.nil Tree.nil w ks 0 []) t=if t.kind=1 then (wsD t.words w t.words).bind fun a=> (JV false t.kids ks t.kids).map fun b=> .mk 1 a b else none:=ZIF rfl t
theorem YD{e:Edit}(h:Y0 e):rng e.old/\rng e.new/\(∀ x∈e.words,Z2T x)/\Z0N e.kids/\Z05 e.ops:=by
 obtain ⟨k,o,n,w,ks,l,os⟩:=e
 exact ⟨h.2.1,h.2.2.1,h.2.2.2.1,h.2.2.2.2.2.1,h.2.2.2.2.2.2⟩
noncomputable def rp(f:Edit->Edit->Edit × Bool)(x:APair):List Op × Bool:=
 if x.of=1 then ([opU x.p],true) else if x.of=2 then ([opU x.q],true) else ZBl f x.p x.q
structure Alike (c r:Edit × Bool):Prop where
 ok:c.2=r.2
 nrm:c.2=true->Zq c.1=Zq r.1
theorem Zbd(e:Edit):18<=ctE e:=by
 have:=Z2R e
 have:=ZQ e.old
 have:=ZQ e.new
 omega
theorem Zp0(o n:Tree):ctE (.mk 1 o n [] [] 0 [])=16+Zh o+Zh n:=by rfl
mutual
theorem Zal:∀ (e:Edit),ctE (ZO e)=ctE e
 | .mk k o n w ks l os=> by
  have d:=ZgJ ks
  have h:=ZgI os
  simp only [ZO,ctE,X5]
  omega
theorem ZgJ:∀ (ks:List (KidOf Edit)),Z0Y (Z09 ks)=Z0Y ks
 | []=> rfl
 | k ::r=> by
  have d:=Zmy k
  have h:=ZgJ r
  simp only [Z09,Z0Y]
  omega
theorem Zmy:∀ (k:KidOf Edit),Z2Q (Z1S k)=Z2Q k
 | ⟨a,e⟩=> by
  have:=Zal e
  simp only [Z1S,Z2Q]
  omega
theorem ZgI:∀ (os:List (OpOf Edit)),YZ (Jq os)=YZ os
 | []=> rfl
 | o ::r=> by
  have d:=ZqR o
  have h:=ZgI r
  simp only [Jq,YZ]
  omega
theorem ZqR:∀ (o:OpOf Edit),Z2V (YV o)=Z2V o
 | ⟨k,n,l,e⟩=> by
  have:=Zal e
  rw [Jw]
  dsimp only
  split
  .try rfl
  .split
   .try rfl
   .split
    .simp only [Z2V];omega
    .try rfl
end
theorem Z4c:∀ (a b:List Op),YZ (a++b)=YZ a+YZ b
 | [],b=> by simp [YZ]
 | o ::r,b=> by simp only [Qt,YZ,Z4c r b];omega
def ctW(w:Wst):Nat:=YZ w.out+(Ze w.gone+if w.gone.length=0 then 0 else 34)+(Ze w.brought+if w.brought.length=0 then 0 else 34)
theorem Z5T:ctE Edit.nil=18:=rfl
theorem Zfa(w:Wst):YZ (Zc w).out=ctW w:=by
 simp only [Zc,Jk,ctW,Z4c]
 by_cases h1:w.gone.length=0
 .rw [if_pos h1,if_pos h1,Q3 h1]
  by_cases h2:w.brought.length=0
  .rw [if_pos h2,if_pos h2,Q3 h2];try rfl
  .rw [if_neg h2,if_neg h2];simp only [YZ,Z2V,Z5T,Ze];omega
 .rw [if_neg h1,if_neg h1]
  by_cases h2:w.brought.length=0
  .rw [if_pos h2,if_pos h2,Q3 h2];simp only [YZ,Z2V,Z5T,Ze];omega
  .rw [if_neg h2,if_neg h2];simp only [YZ,Z2V,Z5T];omega
theorem ZoZ(w:Wst)(n:Int):ctW (Y7 w n)<=ctW w+34:=by
 have h:=Zfa w
 have e:ctW (Y7 w n)=YZ (YA (Zc w).out n):=rfl
 rw [e,<-h]
 rcases J7 (Zc w).out n with e | ⟨a,q,e1,_,e3⟩
 .rw [e,Z4c];simp only [YZ,Z2V,Z5T,Ze];omega
 .rw [e3,e1,Z4c,Z4c];simp only [YZ,Z2V,Z4H];omega
mutual
theorem Z4G:∀ (e:Edit),ctE (Zq e)<=ctE e
 | .mk k o n w ks l os=> by
  have u:=ZkC ks
  have d:=ZkB l os ⟨[],[],[]⟩
  have s:=Yj o
  have h:=Yj n
  have:=ZQ o
  have:=ZQ n
  have hf:=Zfa (Zv l os ⟨[],[],[]⟩)
  have hz:ctW ⟨[],[],[]⟩=0:=rfl
  rw [Zq]
  split
  .simp only [ctE,Z0Y,YZ,Qj];omega
  .split
   .simp only [ctE,YZ,Z0G];omega
   .split
    .simp only [ctE,Z0Y,Z0G,Qj];omega
    .simp only [ctE,Z0Y,YZ,Z0G,Qj];omega
theorem ZkC:∀ (ks:List (KidOf Edit)),Z0Y (Jd ks)<=Z0Y ks
 | []=> Qc _
 | k ::r=> by
  have d:=ZqS k
  have h:=ZkC r
  simp only [Jd,Z0Y]
  omega
theorem ZqS:∀ (k:KidOf Edit),Z2Q (Z0d k)<=Z2Q k
 | ⟨a,e⟩=> by
  have:=Z4G e
  simp only [Z0d,Z2Q]
  omega
theorem ZkB(list:Int):∀ (os:List (OpOf Edit)) (w:Wst),ctW (Zv list os w)<=ctW w+YZ os
 | [],w=> Qc _
 | o ::r,w=> by
  have d:=ZuU list o w
  have h:=ZkB list r (Z06 list o w)
  simp only [Zv,YZ]
  omega
theorem ZuU(list:Int):∀ (o:OpOf Edit) (w:Wst),ctW (Z06 list o w)<=ctW w+Z2V o
 | ⟨k,n,l,e⟩,w=> by
  have h:=Z4G e
  have d:=Zbd e
  have hl:=Z5v l
  have hc:=fun a b=> Jy a b
  rw [Z06]
  simp only [Z2V]
  split
  .have:=ZoZ w n;omega
  .split
   .have:=Jy w.gone (Z9 l)
    simp only [ctW]
    grind
   .split
    .have:=Jy w.brought (Z9 l)
     simp only [ctW]
     grind
    .split
     .split
      .have:=ZoZ w 1;omega
      .have hf:=Zfa w
       show YZ ((Zc w).out++[⟨3,0,[],Zq e⟩])+_+_<=_
       rw [Z4c,hf]
       simp only [YZ,Z2V,Ze,Qj,if_pos]
       omega
     .omega
end
def JB(φ:Op->Int):List Op->Int
 | []=> 0
 | o ::r=> φ o+JB φ r
def Zrc(φ:Op->Int):Prop:=∀ o n,YT o->1<=n->¬Z7 o<=n->φ (ZV o n)+φ (JY o n)=φ o
theorem ZiH{φ:Op->Int}(hφ:Zrc φ){p:List Op}{n:Int}(hp:∀ o∈p,YT o)(hl:p.length≠0)(h1:1<=n):φ (ZV (p.getD 0 Op.nil) n)+JB φ (Y9 p n)=JB φ p/\∀ o∈Y9 p n,YT o:=by
 cases p with
 | nil=> grind
 | cons o r=>
  have s:=hp o Q5
  unfold Y9
  simp only [QB,QJ,Xg]
  by_cases h:Z7 o<=n
  .rw [if_pos h]
   have e:ZV o n=o:=by unfold ZV;rw [if_pos h]
   rw [e]
   exact ⟨rfl,fun x d=> hp x (Q1 _ d)⟩
  .rw [if_neg h]
   refine ⟨by simp only [JB];have:=hφ o n s h1 h;omega,fun x d=> ?_⟩
   rcases Q7.1 d with rfl | d
   .exact (Zfi s h1 h).1
   grind
theorem Zen{φ ψ:Op->Int}(hφ:Zrc φ)(hψ:Zrc ψ)(a:Int):∀ (k:Nat) (p q:List Op) (out:List Piece),p.length+q.length<=k->(∀ o∈p,YT o)->(∀ o∈q,YT o)->(Yo a 2 p q out).2.1=true->
  ∃ d,(Yo a 2 p q out).1=out++d/\JB φ (Z4N d)=JB φ p/\JB ψ (Z4M d)=JB ψ q/\d.length<=p.length+q.length:=by
 intro k
 induction k with
 | zero=>
  intro p q out hk s u h
  have e1:p=[]:=Q3 V0
  have e2:q=[]:=Q3 V0
  subst e1 e2
  rw [Yo,dif_neg (by simp [sgl]),dif_neg (by simp [sgl]),dif_pos (by simp)]
  exact ⟨[],by simp,rfl,rfl,by simp⟩
 | succ k ih=>
  intro p q out hk s u h
  rw [Yo] at h ⊢
  by_cases h1:sgl a p=true
  .rw [dif_pos h1] at h ⊢
   obtain ⟨g1,_⟩:=Z32.1 h1
   cases p with
   | nil=> grind
   | cons o r=>
    simp only [QB,QJ,Xg] at h ⊢
    obtain ⟨d,e,f1,f2,f3⟩:=ih r q _ (by grind) (fun x hx=> s x (Q1 _ hx)) u h
    refine ⟨⟨1,o,Op.nil⟩ ::d,by grind,?_,?_,by grind⟩
    .show JB φ (o ::Z4N d)=_
     simp only [JB];omega
    .exact f2
  .rw [dif_neg h1] at h ⊢
   by_cases h2:sgl 2 q=true
   .rw [dif_pos h2] at h ⊢
    obtain ⟨g1,_⟩:=Z32.1 h2
    cases q with
    | nil=> grind
    | cons o r=>
     simp only [QB,QJ,Xg] at h ⊢
     obtain ⟨d,e,f1,f2,f3⟩:=ih p r _ (by grind) s (fun x hx=> u x (Q1 _ hx)) h
     refine ⟨⟨2,Op.nil,o⟩ ::d,by grind,f1,?_,by grind⟩
     show JB ψ (o ::Z4M d)=_
     simp only [JB];omega
   .rw [dif_neg h2] at h ⊢
    by_cases h3:p.length=0\/q.length=0
    .rw [dif_pos h3] at h ⊢
     by_cases h4:decide (p.length=0)=decide (q.length=0)
     .rw [if_pos h4]
      have h5:p.length=0/\q.length=0:=by
       have:=decide_eq_decide.1 h4
       omega
      rw [Q3 h5.1,Q3 h5.2]
      exact ⟨[],by simp,rfl,rfl,by simp⟩
     grind
    .rw [dif_neg h3] at h ⊢
     have l1:p.length≠0:=V0
     have l2:q.length≠0:=V0
     have p1:=Ji (s _ (Zb (l:=p) (i:=0) V0 Op.nil))
     have p2:=Ji (u _ (Zb (l:=q) (i:=0) V0 Op.nil))
     generalize hn:min (Z7 (p.getD 0 Op.nil)) (Z7 (q.getD 0 Op.nil))=n at h ⊢
     obtain ⟨s1,s2⟩:=ZiH hφ s l1 (n:=n) V0
     obtain ⟨t1,t2⟩:=ZiH hψ u l2 (n:=n) V0
     have c1:=J3 p n l1
     have c2:=J3 q n l2
     have c3:Z7 (p.getD 0 Op.nil)<=n->(Y9 p n).length < p.length:=fun h=> J2 p _ l1 h
     have c4:Z7 (q.getD 0 Op.nil)<=n->(Y9 q n).length < q.length:=fun h=> J2 q _ l2 h
     obtain ⟨d,e,f1,f2,f3⟩:=ih (Y9 p n) (Y9 q n) _ V0 s2 t2 h
     refine ⟨⟨0,ZV (p.getD 0 Op.nil) n,ZV (q.getD 0 Op.nil) n⟩ ::d,by grind,?_,?_,by grind⟩
     .show JB φ (ZV (p.getD 0 Op.nil) n ::Z4N d)=_
      simp only [JB];omega
     .show JB ψ (ZV (q.getD 0 Op.nil) n ::Z4M d)=_
      simp only [JB];omega
def φA(o:Op):Int:=if o.kind=2 then 0 else Z7 o
def φB(o:Op):Int:=if o.kind=1 then 0 else Z7 o
def φC(o:Op):Int:=Ze o.l+ctE o.e - 18
theorem ZkY:∀ l,JB φA l=JJ l
 | []=> rfl
 | o ::r=> by simp only [JB,JJ,φA,ZkY r]
theorem ZkX:∀ l,JB φB l=Z0a l
 | []=> rfl
 | o ::r=> by simp only [JB,Z0a,φB,ZkX r]
theorem Zh5:∀ l,JB φC l+34*l.length=YZ l
 | []=> rfl
 | o ::r=> by
  have:=Zh5 r
  simp only [JB,YZ,φC,Z4H,Qe]
  omega
theorem Zfj(o:Op)(n:Int):(JY o n).kind=o.kind:=by unfold JY;split <;> rfl
theorem ZkI{o:Op}{n:Int}(ho:YT o)(h1:1<=n)(hn:¬Z7 o<=n):Z7 (JY o n)=Z7 o - n:=by
 obtain ⟨_,_,d,_⟩:=Z87 (a:=1) ho h1 hn
 have hl:=YN o
 rcases ho with ⟨k0,k1,k2,k3⟩ | ⟨k0,k1,k2,k3⟩ | ⟨k0,k1,k2⟩
 .unfold JY
  rw [if_pos k0,YN]
  grind
 .unfold JY
  rw [JC,YN]
  grind
 omega
theorem ZAR:Zrc φA:=by
 intro o n s h d
 obtain ⟨_,_,u,_⟩:=Z87 (a:=1) s h d
 have:=ZkI s h d
 unfold φA
 rw [Z4l,Zfj,u,this]
 omega
theorem ZAQ:Zrc φB:=by
 intro o n s h d
 obtain ⟨_,_,u,_⟩:=Z87 (a:=1) s h d
 have:=ZkI s h d
 unfold φB
 rw [Z4l,Zfj,u,this]
 omega
theorem ZAP:Zrc φC:=by
 intro o n h s d
 have hl:=YN o
 unfold φC ZV JY
 rw [if_neg d]
 rcases h with ⟨k0,k1,k2,k3⟩ | ⟨k0,k1,k2,k3⟩ | ⟨k0,k1,k2⟩
 .rw [if_pos k0,if_pos k0]
  dsimp only
  rw [k3,k1,Z5T]
  simp [Ze]
 .rw [JC,JC]
  dsimp only
  have:=Jy (o.l.take n.toNat) (o.l.drop n.toNat)
  rw [QQ] at this
  rw [k3,Z5T]
  omega
 omega
theorem ZcZ{D list:Int}:∀ {l:List Tree},Yp D list l=true->Yp (-1) list l=true
 | [],_=> rfl
 | t ::r,h=> by
  simp only [Yp,Q0] at h ⊢
  exact ⟨Jx _ _ _ V2 h.1,ZcZ h.2⟩
mutual
theorem JO:∀ (e:Edit) (d m:Int),m < 0->Z6 e d=true->Z6 e m=true
 | .mk k o n w ks l os,d,m,hm,h=> by
  have u:=ZbA ks
  have s:=Zby l os
  rw [Z6] at h ⊢
  split at h
  .cases h
  .rename_i a
   rw [JC]
   split at h
   .cases h
   .rename_i b
    rw [if_neg b]
    split at h
    .rename_i c
     rw [if_pos c,Zf9 hm]
     simp only [Q0] at h ⊢
     exact ⟨⟨Jx _ _ _ V2 h.1.1,Jx _ _ _ V2 h.1.2⟩,h.2⟩
    grind
theorem ZbA:∀ (ks:List (KidOf Edit)) (last d m:Int),m < 0->Zz last ks d=true->Zz last ks m=true
 | [],_,_,_,_,_=> rfl
 | k ::r,last,d,m,hm,h=> by
  simp only [Zz,Q0] at h ⊢
  exact ⟨Zhj k last d m hm h.1,ZbA r k.at_ d m hm h.2⟩
theorem Zhj:∀ (k:KidOf Edit) (last d m:Int),m < 0->YM last k d=true->YM last k m=true
 | ⟨a,e⟩,last,d,m,hm,h=> by
  simp only [YM,Q0] at h ⊢
  exact ⟨h.1,JO e d m hm h.2⟩
theorem Zby(list:Int):∀ (os:List (OpOf Edit)) (d m:Int),m < 0->Zy list os d=true->Zy list os m=true
 | [],_,_,_,_=> rfl
 | o ::r,d,m,hm,h=> by
  simp only [Zy,Q0] at h ⊢
  exact ⟨Zj4 list o d m hm h.1,Zby list r d m hm h.2⟩
theorem Zj4(list:Int):∀ (o:OpOf Edit) (d m:Int),m < 0->Zf list o d=true->Zf list o m=true
 | ⟨k,n,l,e⟩,d,m,hm,h=> by
  have he:=JO e d m hm
  rw [Zf] at h ⊢
  split at h
  .grind
  .rename_i h0
   rw [if_neg h0]
   split at h
   .cases h
   .rename_i s
    rw [if_neg s]
    split at h
    .rename_i u
     rw [if_pos u,Zf9 hm]
     simp only [Q0] at h ⊢
     exact ⟨⟨ZcZ h.1.1,h.1.2⟩,h.2⟩
    grind
end
structure Wk (e:Edit):Prop where
 r:Z6 e (-1)=true
 g:Y0 e
theorem Wk.of{e:Edit}{d:Int}(h:Z6 e d=true)(g:Y0 e):Wk e:=⟨JO e d _ V2 h,g⟩
theorem Jp{n:Int}(h0:0<=n)(h9:n<=9):InR n:=V4
theorem Zg6{o n:Tree}(h1:Za o (-1)=true)(h2:Za n (-1)=true)(h3:o.kind≠10)(h4:n.kind≠10):Z6 (.mk 1 o n [] [] 0 []) (-1)=true:=by
 rw [Z6,if_neg V2,if_neg (by simp),if_pos rfl,Zf9 V2,h1,h2]
 grind
theorem ZpY{w:List WEdit}{ks:List Kid}(h1:ZN (-1) w=true)(h2:Zz (-1) ks (-2)=true):Z6 (.mk 2 Tree.nil Tree.nil w ks 0 []) (-1)=true:=by
 rw [Z6,if_neg V2,if_neg (by simp [Ys,Tree.nil]),if_neg V2,h1,show (-1:Int) - 1= -2 from rfl,h2]
 try rfl
theorem ZpX{l:Int}{os:List Op}(hl:2<=l/\l<=9)(h:Zy l os (-2)=true)(h1:Z13 os 0 < 1048576)(h2:Z12 os 0 < 1048576):Z6 (.mk 3 Tree.nil Tree.nil [] [] l os) (-1)=true:=by
 rw [Z6,if_neg V2,if_neg (by simp [Ys,Tree.nil]),if_neg V2,show (-1:Int) - 1= -2 from rfl,h]
 simp only [ZN,Zz,QK,XK,Q0,decide_eq_true_eq]
 omega
theorem ZcR:∀ {l:List WEdit} {last:Int},asc WEdit.at_ last l->(∀ w∈l,w.at_<=65534/\w.mask≠0/\Yg w.old w.mask=true/\Yg w.new w.mask=true)->ZN last l=true
 | [],_,_,_=> rfl
 | a ::r,last,h,hw=> by
  obtain ⟨h1,s,h3,u⟩:=hw a Q5
  simp only [ZN,Q0,decide_eq_true_eq]
  exact ⟨⟨⟨⟨h.1,h1,s⟩,h3⟩,u⟩,ZcR h.2 fun w d=> hw w (Q1 _ d)⟩
theorem ZdL{d:Int}:∀ {l:List Kid} {last:Int},asc KidOf.at_ last l->(∀ k∈l,k.at_<=65534/\k.e.kind≠0/\Z6 k.e d=true)->Zz last l d=true
 | [],_,_,_=> rfl
 | a ::r,last,h,hw=> by
  obtain ⟨h1,u,h3⟩:=hw a Q5
  simp only [Zz,Z37,Q0,decide_eq_true_eq]
  exact ⟨⟨⟨h.1,h1,u⟩,h3⟩,ZdL h.2 fun w s=> hw w (Q1 _ s)⟩
theorem ZdJ{list d:Int}:∀ {l:List Op},(∀ o∈l,Zf list o d=true)->Zy list l d=true
 | [],_=> rfl
 | a ::r,h=> by
  simp only [Zy,Q0]
  exact ⟨h a Q5,ZdJ fun o s=> h o (Q1 _ s)⟩
theorem Z3C{D list:Int}:∀ {l:List Tree},(∀ t∈l,Za (.mk list [] [t]) D=true)->Yp D list l=true
 | [],_=> rfl
 | t ::r,h=> by
  simp only [Yp,Q0]
  exact ⟨h t Q5,Z3C fun x d=> h x (Q1 _ d)⟩
theorem Zg5{list:Int}(hl:2<=list/\list<=9){t:Tree}(h1:Z0n list t=true)(h2:Za t (-1)=true):Za (.mk list [] [t]) (-1)=true:=
 ZdI hl (by simp) fun k d=> by grind
theorem Zxp{list n:Int}(h1:1<=n)(h2:n<=1048576)(d:Int):Zf list ⟨0,n,[],Edit.nil⟩ d=true:=by
 rw [Zf,if_pos rfl,Z2v]
 grind
theorem Z8U{list k d:Int}{l:List Tree}(hk:k=1\/k=2)(h:Yp (dT d) list l=true)(hl:l≠[]):Zf list ⟨k,0,l,Edit.nil⟩ d=true:=by
 rw [Zf,JC,JC,YC,Z2v,h]
 have:=List.length_pos_iff.2 hl
 grind
theorem Zo3{list d:Int}{e:Edit}(h:Z6 e d=true)(h0:e.kind≠0)(hl:7 < list)(hw:list=8\/e.kind=2\/e.kind=1/\e.old.kind=1/\e.new.kind=1):Zf list ⟨3,0,[],e⟩ d=true:=by
 rw [Zf,if_neg V2,if_neg V2,if_neg V2,h]
 grind
def Wl(list:Int)(e:Edit):Prop:=list=8\/e.kind=2\/e.kind=1/\e.old.kind=1/\e.new.kind=1
theorem Z0C(t:Tree):(Z3 t).kind=t.kind:=Z2j t
theorem ZfL{w m:Int}(h:∀ i,i < 8->Z0j m (i:Nat)=false->Zu w i=0):Yg w m=true:=by
 unfold Yg mix of8
 rw [decide_eq_true_eq]
 have z:∀ i,i < 8->Jo w 0 m i=0:=by
  intro i d
  unfold Jo
  split
  .exact ZAG i
  .grind
 grind
theorem ZvY {a b:WEdit} (ra:Z2T a) (rb:Z2T b) (ha:a.at_<=65534/\a.mask≠0/\Yg a.old a.mask=true/\Yg a.new a.mask=true) (hb:Yg b.old b.mask=true/\Yg b.new b.mask=true)
  (hc:(JW a b).2=true):((JW a b).1.at_<=65534/\(JW a b).1.mask≠0/\Yg (JW a b).1.old (JW a b).1.mask=true/\Yg (JW a b).1.new (JW a b).1.mask=true)/\Z2T (JW a b).1:=by
 have hw:Zid a b=true:=by
  unfold JW at hc
  split at hc
  .assumption
  .cases hc
 have e:(JW a b).1=⟨a.at_,orM a.mask b.mask,mix b.old a.old a.mask,mix a.new b.new b.mask⟩:=by unfold JW;rw [if_pos hw]
 obtain ⟨m1,u⟩:=ZBx ra.2.1 rb.2.1
 rw [e]
 dsimp only
 refine ⟨⟨ha.1,fun h=> ?_,ZfL fun i s d=> ?_,ZfL fun i s d=> ?_⟩,ra.1,m1,ZhN _ _ _,ZhN _ _ _⟩
 .refine ha.2.1 ?_
  have z:∀ i:Nat,Z0j a.mask (i:Int)=false:=by
   intro i
   have:=u i
   rw [h] at this
   have z0:Z0j 0 (i:Int)=false:=by unfold Z0j;simp
   rw [z0] at this
   cases d:Z0j a.mask (i:Int) with
   | false=> rfl
   | true=> grind
  have h0:=z 0;have h1:=z 1;have h2:=z 2;have h3:=z 3;have h4:=z 4;have h5:=z 5;have h6:=z 6;have h7:=z 7
  have:=ra.2.1
  simp only [Z0j,decide_eq_false_iff_not,QR] at h0 h1 h2 h3 h4 h5 h6 h7
  omega
 .rw [u i] at d
  simp only [QF] at d
  rw [Zth s,if_neg (by grind)]
  exact Zbn hb.1 s d.2
 .rw [u i] at d
  simp only [QF] at d
  rw [Zth s,if_neg (by grind)]
  exact Zbn ha.2.2.2 s d.1
def Zd2{β:Type}(φ:β->Nat):List β->Nat
 | []=> 0
 | a ::r=> φ a+Zd2 φ r
theorem Zgs{β:Type}{at_:β->Int}{one:β->β->β × Bool}(φ:β->Nat):∀ (k:Nat) (p q L:List β),p.length+q.length<=k->(∀ a∈p,∀ b∈q,(one a b).2=true->φ (one a b).1<=φ a+φ b)->Zr at_ one p q=some L->Zd2 φ L<=Zd2 φ p+Zd2 φ q:=by
 intro k
 induction k with
 | zero=>
  intro p q L hk _ h
  have e1:p=[]:=Q3 V0
  have e2:q=[]:=Q3 V0
  subst e1 e2
  rw [Zr] at h
  grind
 | succ k ih=>
  intro p q L hk ho h
  match p,q with
  | [],q=> rw [Zr] at h;grind
  | a ::p,[]=> rw [Zr] at h;grind
  | a ::p,b ::q=>
   simp only [Qe] at hk
   rw [Zr] at h
   split at h
   .obtain ⟨L',u,rfl⟩:=Qh.1 h
    have:=ih p (b ::q) L' (by grind) (fun x d y s=> ho x (Q1 _ d) y s) u
    simp only [Zd2] at this ⊢;omega
   .split at h
    .obtain ⟨L',u,rfl⟩:=Qh.1 h
     have:=ih (a ::p) q L' (by grind) (fun x d y s=> ho x d y (Q1 _ s)) u
     simp only [Zd2] at this ⊢;omega
    .split at h
     .rename_i hc
      obtain ⟨L',u,rfl⟩:=Qh.1 h
      have:=ih p q L' V0 (fun x d y s=> ho x (Q1 _ d) y (Q1 _ s)) u
      have:=ho a Q5 b Q5 hc
      simp only [Zd2] at*;omega
     .cases h
theorem Zcw:∀ l:List Kid,Zd2 Z2Q l=Z0Y l
 | []=> rfl
 | k ::r=> by simp only [Zd2,Z0Y,Zcw r]
theorem Z8b{β:Type}:∀ l:List β,Zd2 (fun _=> 1) l=l.length
 | []=> rfl
 | k ::r=> by simp only [Zd2,Qe,Z8b r];omega
theorem ZiY:∀ {l:List Kid},(∀ k∈l,InR k.at_/\Y0 k.e)->Z0N l
 | [],_=> trivial
 | ⟨a,e⟩ ::r,h=> ⟨h _ Q5,ZiY fun k d=> h k (Q1 _ d)⟩
theorem ZiX:∀ {l:List Op},(∀ o∈l,YF o)->Z05 l
 | [],_=> trivial
 | o ::r,h=> ⟨h _ Q5,ZiX fun k d=> h k (Q1 _ d)⟩
structure ComWk (K:Prop) (c:Edit × Bool) (p q:Edit):Prop where
 wk:c.2=true->Wk c.1
 ct:K->c.2=true->ctE c.1+18<=ctE p+ctE q
 kind:p.kind≠0->q.kind≠0->c.2=true->c.1.kind≠0
 wl:∀ list,7 < list->list<=9->p.kind≠0->q.kind≠0->c.2=true->Wl list p->Wl list q->Wl list c.1
theorem Zi8{e:Edit}{t:Tree}(h:(doB e t).2=true):∃ v,doE false e t=some v/\(doB e t).1=Z3 v:=by
 unfold doB at h ⊢
 cases hv:doE false e t with
 | none=> grind
 | some v=> exact ⟨v,rfl,rfl⟩
theorem Z36{t:Tree}{d:Int}(h:Za t d=true):Za (Z3 t) d=true:=Z1x t d h
theorem Wk.turn{p:Edit}(h:Wk p):Wk (Zq (ZO p)):=⟨Yi _ _ (JN _ _ h.r),J1 _ _ (JN _ _ h.r) (Z68 _ h.g)⟩
theorem Zc5{list:Int}(hl:2<=list/\list<=9){e:Edit}{t u:Tree}{d:Int}(hr:Z6 e d=true)(hd:doE false e t=some u)(h7:7 < list)(hw:Wl list e)(h0:e.kind≠0)(ht:Za t (-1)=true):Z0n list u=true:=by
 obtain ⟨s,h,_,_⟩:=Zaj hr hd
 unfold Z0n
 rw [JC]
 by_cases hl9:list=9
 .rw [if_pos hl9]
  refine decide_eq_true ?_
  rcases hw with q | q | q
  .omega
  .exact (h q).1
  .rw [s q.1];exact q.2.2
 .rw [if_neg hl9]
  exact decide_eq_true ((Z4a _ e d t u (Qc _) hr ht hd).2 h0)
theorem ZeT{list:Int}(h7:7 < list){u:Tree}(h:Z0n list u=true):Z0n list (Z3 u)=true:=by
 unfold Z0n at h ⊢
 rw [JC] at h ⊢
 rw [Z0C]
 exact h
theorem ZyC {K:Prop} {f:Edit->Edit->Edit × Bool} {p q:Edit} (wp:Wk p) (wq:Wk q) (p3:p.kind=3) (hl:p.list=q.list)
  (ih:∀ a b,Zd a+Zd b < Zd p+Zd q->Wk a->Wk b->ComWk K (f a b) a b) {ps:List Piece} (e:(Yo 1 2 p.ops q.ops []).1=ps) (hb1:(Yo 1 2 p.ops q.ops []).2.1=true) {ops:List Op} (hc:Z3j f ps=some ops):
  (∀ o∈ops,Zf p.list o (-2)=true/\YF o)/\JJ ops=JJ p.ops/\Z0a ops=Z0a q.ops/\(K->YZ ops<=YZ p.ops+YZ q.ops):=by
 have rp:=ZH wp.r
 have rq:=ZH wq.r
 have gp:=YD wp.g
 have gq:=YD wq.g
 have u:=rp.list p3
 have op:=Z1c wp.r
 have oq:=Z1c wq.r
 have ca:Zy p.list p.ops (-2)=true:=rp.ops
 have bx:Zy p.list q.ops (-2)=true:=by rw [hl];exact rq.ops
 obtain ⟨i1,_⟩:=Zeo _ p.ops q.ops [] (Qc _) op oq
 obtain ⟨cj,e0,bf,_,_⟩:=i1 hb1
 obtain ⟨cu,e1,sA,sB,a9⟩:=Zen ZAR ZAQ 1 _ p.ops q.ops [] (Qc _) op oq hb1
 obtain ⟨cr,e2,sC,sD,_⟩:=Zen ZAP ZAP 1 _ p.ops q.ops [] (Qc _) op oq hb1
 rw [e,QI] at e0 e1 e2
 subst e0 e1 e2
 have bb:∀ x∈ps,(x.of≠2->Zf p.list x.p (-2)=true/\YF x.p)/\(x.of≠1->Zf p.list x.q (-2)=true/\YF x.q):=by
  have one:∀ (l:List Op) (o:Op),(∀ o'∈l,Zf p.list o' (-2)=true)->Z05 l->Part l o->YT o->Zf p.list o (-2)=true/\YF o:=by
   intro l o hr hg ⟨o',m,k,e1,_,lt⟩ ho
   have R:=ZJ (hr o' m)
   have G:=J4 (J0 hg m)
   obtain ⟨kk,nn,ll,ee⟩:=o
   have k:kk=o'.kind:=k
   have e1:ee=o'.e:=e1
   have lt:∀ t∈ll,t∈o'.l:=lt
   have gl:Ya ll:=Z8z fun t s=> Jh G.2.2.1 (lt t s)
   cases R with
   | keep n1 a1 a2=>
    have k:kk=0:=k
    have e1:ee=Edit.nil:=e1
    subst k e1
    rcases ho with h | h | h
    .have hl:ll=[]:=h.2.1
     subst hl
     have h3:1<=nn/\nn<=1048576:=h.2.2.1
     exact ⟨Zxp h3.1 h3.2 _,Jp V2 V2,V4,trivial,G.2.2.2⟩
    .have:=h.1;omega
    .have:=h.1;omega
   | gone l1 a1 a2=>
    have k:kk=1:=k
    have e1:ee=Edit.nil:=e1
    subst k e1
    rcases ho with h | h | h
    .have:=h.1;omega
    .have hn:nn=0:=h.2.1
     subst hn
     exact ⟨Z8U (.inl rfl) (Z3C fun t s=> Z2X a1 t (lt t s)) h.2.2.1,Jp V2 V2,Jp V2 V2,gl,G.2.2.2⟩
    .have:=h.1;omega
   | come l1 a1 a2=>
    have k:kk=2:=k
    have e1:ee=Edit.nil:=e1
    subst k e1
    rcases ho with h | h | h
    .have:=h.1;omega
    .have hn:nn=0:=h.2.1
     subst hn
     exact ⟨Z8U (.inr rfl) (Z3C fun t s=> Z2X a1 t (lt t s)) h.2.2.1,Jp V2 V2,Jp V2 V2,gl,G.2.2.2⟩
    .have:=h.1;omega
   | into e2 a1 a2 a3 a4=>
    have k:kk=3:=k
    have e1:ee=e2:=e1
    subst k e1
    rcases ho with h | h | h
    .have:=h.1;omega
    .have:=h.1;omega
    .have hn:nn=0:=h.2.1
     have hl:ll=[]:=h.2.2
     subst hn hl
     exact ⟨Zo3 a1 a2 a3 a4,Jp V2 V2,Jp V2 V2,trivial,G.2.2.2⟩
  intro x hx
  have X:=bf x hx
  exact ⟨fun h=> one p.ops x.p (fun o ho=> rightOs_mem ca ho) gp.2.2.2.2 (X.pp h).1 (X.pp h).2,fun h=> one q.ops x.q (fun o ho=> rightOs_mem bx ho) gq.2.2.2.2 (X.qq h).1 (X.qq h).2⟩
 have one:∀ x∈ps,(JH f x).ok=true->((JH f x).is=true->Zf p.list (JH f x).op (-2)=true/\YF (JH f x).op)/\
   (φA (JH f x).op*(if (JH f x).is then 1 else 0)=(if x.of=2 then 0 else φA x.p))/\(φB (JH f x).op*(if (JH f x).is then 1 else 0)=(if x.of=1 then 0 else φB x.q))/\
   (K->(JH f x).is=true->φC (JH f x).op<=(if x.of=2 then 0 else φC x.p)+(if x.of=1 then 0 else φC x.q)):=by
  intro x hx d
  have X:=bf x hx
  obtain ⟨s1,s2⟩:=bb x hx
  have ai:∀ o:Op,0<=φC o:=fun o=> by unfold φC;have:=Zbd o.e;omega
  unfold JH at d ⊢
  by_cases c1:x.of=1\/(x.of=0/\x.q.kind=0)
  .rw [if_pos c1] at d ⊢
   dsimp only
   have h2:x.of≠2:=V0
   rw [if_pos rfl,if_neg h2,if_neg h2]
   refine ⟨fun _=> s1 h2,V0,?_,fun _ _=> ?_⟩
   .rcases c1 with c | ⟨c,c'⟩
    .rw [if_pos c];unfold φB;rw [if_pos (X.one c)];try rfl
    .rw [JC]
     obtain ⟨b1,b2,b3⟩:=X.both c
     unfold φB
     rw [if_neg b1,JC,b3];omega
   .have:=ai x.q
    split <;> omega
  rw [if_neg c1] at d ⊢
  by_cases c2:x.of=2\/x.p.kind=0
  .rw [if_pos c2] at d ⊢
   dsimp only
   have h2:x.of≠1:=V0
   rw [if_pos rfl,if_neg h2,if_neg h2]
   refine ⟨fun _=> s2 h2,?_,V0,fun _ _=> ?_⟩
   .by_cases c:x.of=2
    .rw [if_pos c];unfold φA;rw [if_pos (X.two c)];try rfl
    .rw [if_neg c]
     have c0:x.of=0:=by rcases X.of with h | h | h <;> omega
     obtain ⟨b1,b2,b3⟩:=X.both c0
     unfold φA
     rw [if_neg b2,JC,b3];omega
   .have:=ai x.p
    split <;> omega
  rw [if_neg c2] at d ⊢
  have c0:x.of=0:=by rcases X.of with h | h | h <;> omega
  obtain ⟨b1,b2,b3⟩:=X.both c0
  have h1:x.of≠1:=V0
  have h2:x.of≠2:=V0
  obtain ⟨u1,u2⟩:=s1 h2
  obtain ⟨v1,v2⟩:=s2 h1
  have ay:=(X.pp h2).2
  have be:=(X.qq h1).2
  have kp:x.p.kind=2\/x.p.kind=3:=by rcases Z1h ay with k | k | k | k <;> omega
  have kq:x.q.kind=1\/x.q.kind=3:=by rcases Z1h be with k | k | k | k <;> omega
  rw [if_neg h2,if_neg h2,if_neg h1,if_neg h1]
  by_cases c3:x.p.kind=2/\x.q.kind=1
  .rw [if_pos c3] at d ⊢
   dsimp only
   refine ⟨fun h=> (by cases h),?_,?_,fun _ h=> by cases h⟩
   .unfold φA;rw [if_pos c3.1];try rfl
   .unfold φB;rw [if_pos c3.2];try rfl
  rw [if_neg c3] at d ⊢
  have aj:∀ o:Op,o.kind=3->Zf p.list o (-2)=true->YF o->(7 < p.list/\o.e.kind≠0/\Wl p.list o.e/\Wk o.e)/\o.l=[]:=by
   intro o k hr hg
   have R:=ZJ hr
   cases R with
   | keep | gone | come=> exact absurd k (by simp)
   | into e a1 a2 a3 a4=> exact ⟨⟨a3,a2,a4,⟨JO _ _ _ V2 a1,(J4 hg).2.2.2⟩⟩,rfl⟩
  have ak:∀ o:Op,(o.kind=1\/o.kind=2)->Z7 o=1->YT o->Zf p.list o (-2)=true->YF o->∃ t,o.l=[t]/\Z0n p.list t=true/\Za t (-1)=true/\rng t/\o.e=Edit.nil:=by
   intro o k h1 ho hr hg
   have a9:=Z1z ho k
   have ah:o.l.length=1:=V0
   obtain ⟨t,s⟩:∃ t,o.l=[t]:=by
    match h:o.l,ah with
    | [t],_=> exact ⟨t,rfl⟩
   have R:=ZJ hr
   have gt:=(J4 hg).2.2.1
   rw [s] at gt
   refine ⟨t,s,?_⟩
   cases R with
   | keep=> exact absurd k (by simp)
   | into=> exact absurd k (by simp)
   | gone l a1 a2=> exact ⟨(Z0i u a1 t (by have s:l=[t]:=s;rw [s];simp)).1,(Z0i u a1 t (by have s:l=[t]:=s;rw [s];simp)).2,gt.1,rfl⟩
   | come l a1 a2=> exact ⟨(Z0i u a1 t (by have s:l=[t]:=s;rw [s];simp)).1,(Z0i u a1 t (by have s:l=[t]:=s;rw [s];simp)).2,gt.1,rfl⟩
  by_cases c4:x.p.kind=2
  .rw [if_pos c4] at d ⊢
   have af:x.q.kind=3:=V0
   have ah:Z7 x.q=1:=Z3a af
   obtain ⟨t,s,t1,t2,t3,t4⟩:=ak x.p (.inr c4) V0 ay u1 u2
   obtain ⟨⟨e1,e2,e3,e4⟩,e5⟩:=aj x.q af v1 v2
   dsimp only at d ⊢
   rw [s,QB] at d ⊢
   obtain ⟨v,hv,ev⟩:=Zi8 d
   rw [if_pos rfl,ev]
   have kv:=Zc5 u e4.r hv e1 e3 e2 t2
   have rv:=(Z4a _ _ _ t v (Qc _) e4.r t2 hv).1
   refine ⟨fun _=> ⟨Z8U (.inr rfl) ?_ (by simp),Jp V2 V2,Jp V2 V2,⟨YL _ (Z3r false _ _ v e4.g t3 hv),trivial⟩,?_⟩,?_,?_,fun _ _=> ?_⟩
   .rw [Zf9 V2]
    exact Z3C fun y hy=> by rw [Qi.1 hy];exact Zg5 u (ZeT e1 kv) (Z36 rv)
   .rw [<-t4];exact (J4 u2).2.2.2
   .unfold φA;rw [if_pos c4];try rfl
   .show (if (2:Int)=1 then (0:Int) else Z7 _)*1=(if x.q.kind=1 then 0 else Z7 x.q)
    rw [if_neg V2,JC,ah];simp [Z7]
   .unfold φC
    dsimp only
    rw [s,t4,e5]
    have:=Z6r false _ _ _ v e4.r hv
    have:=Yj v
    simp only [Ze,Z5T]
    omega
  rw [if_neg c4] at d ⊢
  have bc:x.p.kind=3:=V0
  have a6:Z7 x.p=1:=Z3a bc
  obtain ⟨⟨e1,e2,e3,e4⟩,e5⟩:=aj x.p bc u1 u2
  by_cases c5:x.q.kind=1
  .rw [if_pos c5] at d ⊢
   obtain ⟨t,s,t1,t2,t3,t4⟩:=ak x.q (.inl c5) V0 be v1 v2
   dsimp only at d ⊢
   rw [s,QB] at d ⊢
   obtain ⟨v,hv,ev⟩:=Zi8 d
   have wt:=e4.turn
   have kt:(Zq (ZO x.p.e)).kind=x.p.e.kind:=by rw [Z3Q,Z19]
   have b4:Wl p.list (Zq (ZO x.p.e)):=by
    rcases e3 with h | h | h
    .exact .inl h
    .exact .inr (.inl V0)
    .refine .inr (.inr ⟨V0,?_,?_⟩)
     .rw [(Z8W (ZO x.p.e) (by rw [Z19];exact h.1)).1,Z0C,ZfO];exact h.2.2
     .rw [(Z8W (ZO x.p.e) (by rw [Z19];exact h.1)).2,Z0C,ZfP];exact h.2.1
   rw [if_pos rfl,ev]
   have kv:=Zc5 u wt.r hv e1 b4 V0 t2
   have rv:=(Z4a _ _ _ t v (Qc _) wt.r t2 hv).1
   refine ⟨fun _=> ⟨Z8U (.inl rfl) ?_ (by simp),Jp V2 V2,Jp V2 V2,⟨YL _ (Z3r false _ _ v wt.g t3 hv),trivial⟩,?_⟩,?_,?_,fun _ _=> ?_⟩
   .rw [Zf9 V2]
    exact Z3C fun y hy=> by rw [Qi.1 hy];exact Zg5 u (ZeT e1 kv) (Z36 rv)
   .rw [<-t4];exact (J4 v2).2.2.2
   .show (if (1:Int)=2 then (0:Int) else Z7 _)*1=(if x.p.kind=2 then 0 else Z7 x.p)
    rw [if_neg V2,JC,a6];simp [Z7]
   .unfold φB;rw [if_pos c5];try rfl
   .unfold φC
    dsimp only
    rw [s,t4,e5]
    have:=Z6r false _ _ _ v wt.r hv
    have:=Yj v
    have:=Z4G (ZO x.p.e)
    rw [Zal] at this
    simp only [Ze,Z5T]
    omega
  rw [if_neg c5] at d ⊢
  have af:x.q.kind=3:=V0
  have ah:Z7 x.q=1:=Z3a af
  obtain ⟨⟨f1,f2,f3,f4⟩,f5⟩:=aj x.q af v1 v2
  dsimp only at d ⊢
  rw [if_pos rfl]
  obtain ⟨o1,m1,_,k1,_⟩:=(X.pp h2).1
  obtain ⟨o2,m2,_,k2,_⟩:=(X.qq h1).1
  have:=Z0S m1
  have:=Z0S m2
  have H:=ih x.p.e x.q.e (by rw [k1,k2];omega) e4 f4
  refine ⟨fun _=> ⟨Zo3 (JO _ _ _ V2 (H.wk d).r) (H.kind e2 f2 d) e1 (H.wl p.list e1 u.2 e2 f2 d e3 f3),Jp V2 V2,Jp V2 V2,trivial,(H.wk d).g⟩,?_,?_,fun hK _=> ?_⟩
  .show (if (3:Int)=2 then (0:Int) else Z7 _)*1=(if x.p.kind=2 then 0 else Z7 x.p)
   rw [if_neg V2,JC,a6];simp [Z7]
  .show (if (3:Int)=1 then (0:Int) else Z7 _)*1=(if x.q.kind=1 then 0 else Z7 x.q)
   rw [if_neg V2,JC,ah];simp [Z7]
  .unfold φC
   dsimp only
   rw [e5,f5]
   have:=H.ct hK d
   simp only [Ze]
   omega
 have all:∀ (ps:List Piece) (ops:List Op),(∀ x∈ps,(JH f x).ok=true->((JH f x).is=true->Zf p.list (JH f x).op (-2)=true/\YF (JH f x).op)/\
   (φA (JH f x).op*(if (JH f x).is then 1 else 0)=(if x.of=2 then 0 else φA x.p))/\(φB (JH f x).op*(if (JH f x).is then 1 else 0)=(if x.of=1 then 0 else φB x.q))/\
   (K->(JH f x).is=true->φC (JH f x).op<=(if x.of=2 then 0 else φC x.p)+(if x.of=1 then 0 else φC x.q)))->Z3j f ps=some ops->
   (∀ o∈ops,Zf p.list o (-2)=true/\YF o)/\JB φA ops=JB φA (Z4N ps)/\JB φB ops=JB φB (Z4M ps)/\(K->JB φC ops<=JB φC (Z4N ps)+JB φC (Z4M ps))/\ops.length<=ps.length:=by
  intro ps
  induction ps with
  | nil=> intro ops _ h;cases h;exact ⟨fun o ho=> (by cases ho),rfl,rfl,fun _=> (by simp [Z4N,Z4M,JB]),by simp⟩
  | cons x r ihp=>
   intro ops hx h
   rw [Z3j] at h
   split at h
   .rename_i d
    obtain ⟨l,bt,rfl⟩:=Qh.1 h
    obtain ⟨j1,j2,j3,j4,j5⟩:=ihp l (fun y hy=> hx y (Q1 _ hy)) bt
    obtain ⟨k1,k2,k3,k4⟩:=hx x Q5 d
    have ai:∀ o:Op,0<=φC o:=fun o=> by unfold φC;have:=Zbd o.e;omega
    have c1:=ai x.p
    have c2:=ai x.q
    have ax:∀ φ:Op->Int,JB φ (Z4N (x ::r))=(if x.of=2 then 0 else φ x.p)+JB φ (Z4N r):=fun φ=> by
     simp only [Z4N]
     split <;> simp [JB]
    have ba:∀ φ:Op->Int,JB φ (Z4M (x ::r))=(if x.of=1 then 0 else φ x.q)+JB φ (Z4M r):=fun φ=> by
     simp only [Z4M]
     split <;> simp [JB]
    rw [ax,ba,ax,ba]
    by_cases his:(JH f x).is=true
    .rw [if_pos his] at k2 k3
     rw [if_pos his]
     have k4:=fun hK=> k4 hK his
     simp only [Qt,QI,JB,Qe]
     refine ⟨fun o ho=> ?_,V0,V0,fun hK=> (by have:=k4 hK;have:=j4 hK;omega),V0⟩
     rcases Q7.1 ho with rfl | ho
     .exact k1 his
     .exact j1 o ho
    .rw [if_neg his] at k2 k3
     rw [if_neg his]
     simp only [QI,Qe]
     refine ⟨j1,V0,V0,fun hK=> ?_,V0⟩
     have:=j4 hK
     have:0<=(if x.of=2 then 0 else φC x.p)+(if x.of=1 then 0 else φC x.q):=by split <;> split <;> omega
     omega
   .cases h
 obtain ⟨j1,j2,j3,j4,j5⟩:=all ps ops one hc
 rw [ZkY] at j2
 rw [ZkX] at j3
 rw [sA,ZkY] at j2
 rw [sB,ZkX] at j3
 have x1:=Zh5 ops
 have x2:=Zh5 p.ops
 have x3:=Zh5 q.ops
 exact ⟨j1,j2,j3,fun hK=> (by have:=j4 hK;omega)⟩
theorem Zxa {K:Prop} {f:Edit->Edit->Edit × Bool} {p q:Edit} (wp:Wk p) (wq:Wk q)
  (ih:∀ a b,Zd a+Zd b < Zd p+Zd q->Wk a->Wk b->ComWk K (f a b) a b):ComWk K (JG f p q) p q:=by
 have rp:=ZH wp.r
 have rq:=ZH wq.r
 have gp:=YD wp.g
 have gq:=YD wq.g
 have cp:=Zbd p
 have cq:=Zbd q
 have ap:=Z2R p
 have aq:=Z2R q
 unfold JG
 by_cases p0:p.kind=0
 .rw [if_pos p0]
  exact ⟨fun _=> wq,fun _ _=> by dsimp only;omega,fun h=> absurd p0 h,fun _ _ _ h=> absurd p0 h⟩
 rw [if_neg p0]
 by_cases q0:q.kind=0
 .rw [if_pos q0]
  exact ⟨fun _=> wp,fun _ _=> by dsimp only;omega,fun _ h=> absurd q0 h,fun _ _ _ _ h=> absurd q0 h⟩
 rw [if_neg q0]
 by_cases p1:p.kind=1
 .rw [if_pos p1]
  obtain ⟨r1,r2,r3,r4⟩:=rp.rep p1
  have s:(doB q p.new).2=true->(Za (doB q p.new).1 (-1)=true/\(doB q p.new).1.kind≠10)/\rng (doB q p.new).1/\Zh (doB q p.new).1+18<=Zh p.new+ctE q/\∀ list,7 < list->list<=9->p.new.kind=1->list=9->Wl list q->(doB q p.new).1.kind=1:=by
   intro d
   obtain ⟨v,hv,e⟩:=Zi8 d
   rw [e]
   obtain ⟨x1,x2⟩:=Z4a _ q _ p.new v (Qc _) wq.r r2 hv
   refine ⟨⟨Z36 x1,by rw [Z0C];exact x2 q0⟩,YL _ (Z3r false q _ v wq.g gp.2.1 hv),?_,fun list h7 h9 hk br hw=> ?_⟩
   .have:=Z6r false q _ _ v wq.r hv
    have:=Yj v
    omega
   .rw [Z0C]
    obtain ⟨j1,j2,_,_⟩:=Zaj wq.r hv
    rcases hw with h | h | h
    .omega
    .exact (j2 h).1
    .rw [j1 h.1];exact h.2.2
  refine ⟨fun d=> ?_,fun _ d=> ?_,fun _ _ _=> (show (1:Int)≠0 by decide),fun list h7 h9 _ _ d hp hq=> ?_⟩
  .obtain ⟨⟨k1,k2⟩,k3,_,_⟩:=s d
   exact ⟨Zg6 r1 k1 r3 k2,Jp V2 V2,gp.1,k3,by simp,Jp V2 V2,trivial,trivial⟩
  .obtain ⟨_,_,k4,_⟩:=s d
   rw [Zp0]
   omega
  .by_cases h8:list=8
   .exact .inl h8
   .have af:p.kind=1/\p.old.kind=1/\p.new.kind=1:=by
     rcases hp with h | h | h
     .exact absurd h h8
     .omega
     .exact h
    exact .inr (.inr ⟨rfl,af.2.1,(s d).2.2.2 list h7 h9 af.2.2 V0 hq⟩)
 rw [if_neg p1]
 by_cases q1:q.kind=1
 .rw [if_pos q1]
  obtain ⟨r1,r2,r3,r4⟩:=rq.rep q1
  have wt:=wp.turn
  have kt:(Zq (ZO p)).kind=p.kind:=by rw [Z3Q,Z19]
  have s:(doB (Zq (ZO p)) q.old).2=true->(Za (doB (Zq (ZO p)) q.old).1 (-1)=true/\(doB (Zq (ZO p)) q.old).1.kind≠10)/\rng (doB (Zq (ZO p)) q.old).1/\Zh (doB (Zq (ZO p)) q.old).1+18<=Zh q.old+ctE p/\(p.kind=2->(doB (Zq (ZO p)) q.old).1.kind=1):=by
   intro d
   obtain ⟨v,hv,e⟩:=Zi8 d
   rw [e]
   obtain ⟨x1,x2⟩:=Z4a _ _ _ q.old v (Qc _) wt.r r1 hv
   refine ⟨⟨Z36 x1,by rw [Z0C];exact x2 V0⟩,YL _ (Z3r false _ _ v wt.g gq.1 hv),?_,fun hk=> ?_⟩
   .have:=Z6r false _ _ _ v wt.r hv
    have:=Yj v
    have:=Z4G (ZO p)
    rw [Zal] at this
    omega
   .rw [Z0C]
    exact ((Zaj wt.r hv).2.1 V0).1
  refine ⟨fun d=> ?_,fun _ d=> ?_,fun _ _ _=> (show (1:Int)≠0 by decide),fun list h7 h9 _ _ d hp hq=> ?_⟩
  .obtain ⟨⟨k1,k2⟩,k3,_,_⟩:=s d
   exact ⟨Zg6 k1 r2 k2 r4,Jp V2 V2,k3,gq.2.1,by simp,Jp V2 V2,trivial,trivial⟩
  .obtain ⟨_,_,k4,_⟩:=s d
   rw [Zp0]
   omega
  .by_cases h8:list=8
   .exact .inl h8
   .have aw:q.kind=1/\q.old.kind=1/\q.new.kind=1:=by
     rcases hq with h | h | h
     .exact absurd h h8
     .omega
     .exact h
    refine .inr (.inr ⟨rfl,(s d).2.2.2 ?_,aw.2.2⟩)
    rcases hp with h | h | h
    .exact absurd h h8
    .exact h
    .exact absurd h.1 p1
 rw [if_neg q1]
 by_cases hd:p.kind≠q.kind\/p.list≠q.list
 .rw [if_pos hd]
  exact ⟨fun h=> (by cases h),fun _ h=> (by cases h),fun _ _ h=> (by cases h),fun _ _ _ _ _ h=> (by cases h)⟩
 rw [if_neg hd]
 by_cases p2:p.kind=2
 .rw [if_pos p2]
  have q2:q.kind=2:=V0
  have awp:=Yw rp.words
  have ar:=Yw rq.words
  have u:=ZP rp.kids
  have ab:=ZP rq.kids
  have ao:∀ a b:WEdit,a.at_=b.at_->(JW a b).2=true->(JW a b).1.at_=a.at_:=fun a b _ h=> ZyR a b h
  have au:∀ a b:Kid,a.at_=b.at_->(Z27 f a b).2=true->(Z27 f a b).1.at_=a.at_:=fun a b _ _=> rfl
  have hk:∀ a∈p.kids,∀ b∈q.kids,ComWk K (f a.e b.e) a.e b.e:=by
   intro a ha b d
   have:=Jz ha
   have:=Jz d
   exact ih a.e b.e V0 (.of (u a ha).2 (Yq gp.2.2.2.1 ha).2) (.of (ab b d).2 (Yq gq.2.2.2.1 d).2)
  cases hL:Zr WEdit.at_ JW p.words q.words with
  | none=> exact ⟨fun h=> (by cases h),fun _ h=> (by cases h),fun _ _ h=> (by cases h),fun _ _ _ _ _ h=> (by cases h)⟩
  | some L=>
   rw [if_pos (show (some L).isSome=true from rfl)]
   cases hM:Zr KidOf.at_ (Z27 f) p.kids q.kids with
   | none=> exact ⟨fun h=> (by cases h),fun _ h=> (by cases h),fun _ _ h=> (by cases h),fun _ _ _ _ _ h=> (by cases h)⟩
   | some M=>
    have S:=(ZeC ao _ p.words q.words (-1) (Qc _) (Z5V rp.words) (Z5V rq.words)).2 L hL
    have T:=(ZeC au _ p.kids q.kids (-1) (Qc _) (Z9l rp.kids) (Z9l rq.kids)).2 M hM
    have hw:∀ w∈L,(w.at_<=65534/\w.mask≠0/\Yg w.old w.mask=true/\Yg w.new w.mask=true)/\Z2T w:=by
     intro w hw
     rcases S.of w hw with ⟨h,_⟩ | ⟨h,_⟩ | ⟨a,ha,b,d,_,hc,rfl⟩
     .exact ⟨(awp w h).2,gp.2.2.1 w h⟩
     .exact ⟨(ar w h).2,gq.2.2.1 w h⟩
     .exact ZvY (gp.2.2.1 a ha) (gq.2.2.1 b d) (awp a ha).2 (ar b d).2.2.2 hc
    have hm:∀ k∈M,(k.at_<=65534/\k.e.kind≠0/\Z6 k.e (-2)=true)/\InR k.at_/\Y0 k.e:=by
     intro k a8
     rcases T.of k a8 with ⟨h,_⟩ | ⟨h,_⟩ | ⟨a,ha,b,d,_,hc,rfl⟩
     .exact ⟨⟨(u k h).1.2.1,(u k h).1.2.2,JO _ _ _ V2 (u k h).2⟩,Yq gp.2.2.2.1 h⟩
     .exact ⟨⟨(ab k h).1.2.1,(ab k h).1.2.2,JO _ _ _ V2 (ab k h).2⟩,Yq gq.2.2.2.1 h⟩
     .have H:=hk a ha b d
      have hc:(f a.e b.e).2=true:=hc
      exact ⟨⟨(u a ha).1.2.1,H.kind (u a ha).1.2.2 (ab b d).1.2.2 hc,JO _ _ _ V2 (H.wk hc).r⟩,(Yq gp.2.2.2.1 ha).1,(H.wk hc).g⟩
    refine ⟨fun _=> ⟨ZpY (ZcR S.asc_ fun w h=> (hw w h).1) (ZdL T.asc_ fun k h=> (hm k h).1),?_⟩,fun hK _=> ?_,fun _ _ _=> (show (2:Int)≠0 by decide),fun _ _ _ _ _ _ _ _=> .inr (.inl rfl)⟩
    .exact ⟨Jp V2 V2,YB,YB,fun w h=> (hw w h).2,Jp V2 V2,ZiY fun k h=> (hm k h).2,trivial⟩
    .have c1:=Zgs (fun _=> 1) _ _ _ _ (Qc _) (fun a _ b _ _=> by omega) hL
     have c2:=Zgs Z2Q _ _ _ _ (Qc _) (fun a ha b d hc=> by
      have H:=hk a ha b d
      have hc:(f a.e b.e).2=true:=hc
      have:=H.ct hK hc
      rw [Z4d,Z4d,Z4d]
      show 65600+ctE (f a.e b.e).1<=_
      omega) hM
     rw [Z8b,Z8b,Z8b] at c1
     rw [Zcw,Zcw,Zcw] at c2
     have mo:=ZQ p.old;have mn:=ZQ p.new;have a7:=ZQ q.old;have a9:=ZQ q.new
     simp only [ctE,YZ,ofO,Xb,Z0G]
     omega
 .rw [if_neg p2]
  have p3:p.kind=3:=by have:=rp.kind;omega
  have q3:q.kind=3:=V0
  have hl:p.list=q.list:=V0
  have a4:=rp.list p3
  have op:=Z1c wp.r
  have oq:=Z1c wq.r
  unfold Z3k
  by_cases hb1:(Yo 1 2 p.ops q.ops []).2.1=true
  .rw [if_pos hb1]
   cases hc:Z3j f (Yo 1 2 p.ops q.ops []).1 with
   | none=> exact ⟨fun h=> (by cases h),fun _ h=> (by cases h),fun _ _ h=> (by cases h),fun _ _ _ _ _ h=> (by cases h)⟩
   | some ops=>
    obtain ⟨j1,j2,j3,j4⟩:=ZyC wp wq p3 hl ih rfl hb1 hc
    have av:∀ o∈ops,0<=Z7 o:=fun o ho=> Z1Z (Z7x (j1 o ho).1)
    have lA:=Z41 ops 0 av V2 V2
    have lB:=Z40 ops 0 av V2 V2
    have mA:=Z41 p.ops 0 (fun o ho=> Z1Z (op o ho)) V2 V2
    have mB:=Z40 q.ops 0 (fun o ho=> Z1Z (oq o ho)) V2 V2
    have t1:=rp.len.1
    have t2:=rq.len.2
    refine ⟨fun _=> ⟨?_,?_⟩,fun hK _=> ?_,fun _ _ _=> (show (3:Int)≠0 by decide),fun list h7 h9 _ _ _ af aw=> ?_⟩
    .refine ZpX a4 (ZdJ fun o ho=> (j1 o ho).1) ?_ ?_
     .rw [show ofO (some ops)=ops from rfl];omega
     .rw [show ofO (some ops)=ops from rfl];omega
    .refine ⟨Jp V2 V2,YB,YB,by simp,?_,trivial,ZiX fun o ho=> (j1 o ho).2⟩
     unfold InR;omega
    .have j4:=j4 hK;have mo:=ZQ p.old;have mn:=ZQ p.new;have a7:=ZQ q.old;have a9:=ZQ q.new
     simp only [ctE,Z0Y,ofO,Xb,Z0G,Qj]
     omega
    .rcases af with h | h | h
     .exact .inl h
     .omega
     .omega
  .rw [if_neg hb1]
   exact ⟨fun h=> (by cases h),fun _ h=> (by cases h),fun _ _ h=> (by cases h),fun _ _ _ _ _ h=> (by cases h)⟩
theorem ZDa:∀ (n:Nat) (p q:Edit),Zd p+Zd q<=n->Wk p->Wk q->ComWk True (ZfH n p q) p q:=by
 intro n
 induction n with
 | zero=> intro p q h;obtain ⟨k,o,nw,w,ks,l,os⟩:=p;simp only [Zd] at h;omega
 | succ n ih=>
  intro p q hn wp u
  exact Zxa wp u fun a b s wa d=> ih a b V0 wa d
theorem Z9d(e:Edit):3<=Zd e:=by
 obtain ⟨k,o,n,w,ks,l,os⟩:=e
 have:=ZQ o
 have:=ZQ n
 simp only [Zd];omega
theorem Zqh:Z6 Edit.nil 1=true:=rfl
mutual
def utE:Edit->Nat
 | .mk _ o n w ks _ os=> 16+Zh o+Zh n+65600*w.length+ZGm ks+ZGk os
def ZGm:List (KidOf Edit)->Nat
 | []=> 0
 | k ::r=> ZGn k+ZGm r
def ZGn:KidOf Edit->Nat
 | ⟨_,e⟩=> 65600+utE e
def ZGk:List (OpOf Edit)->Nat
 | []=> 0
 | o ::r=> ZGl o+ZGk r
def ZGl:OpOf Edit->Nat
 | ⟨k,n,l,e⟩=> if k=3 then 16+utE e else 34*(n.toNat+l.length)+Ze l
end
def φU(o:Op):Int:=ZGl o
noncomputable section
def Zpf:ArgL (Int × Unit):=(.cons (Yc .u8) .nil)
def Zea(a:Int × Unit):Prop:=0<=a.1/\a.1 < 256
def Zsl(a:Int × Unit):V U:= .c (.int .u64 ((Z11 (a.1).toNat 8:Nat):Int))
def Z8k:Fs U:=fs Zpf (fun a=> [Zea a]) Zsl
def ZA3(a:Tree × Unit):V U:= .c (.bool (decide (Tree.kind a.1≠10) && Za a.1 64))
def Z7s:Fs U:=fs ZvE (fun a=> [Zgh a]) ZA3
def Ze8(a:Int × Tree × Unit):Prop:=Zh a.2.1<=18000000000/\rng a.2.1/\InR a.1
def Zsj(a:Int × Tree × Unit):V U:= .c (.bool (Za (Tree.mk a.1 [] [a.2.1]) 64))
def Z8i:Fs U:=fs Zva (fun a=> [Ze8 a]) Zsj
def Zpd:ArgL (Int × Edit × Unit):=(.cons (Yc .i64) (.cons (aEl .edit) .nil))
def Zlp(a:Int × Edit × Unit):Prop:=True
def Zsi(a:Int × Edit × Unit):V U:= .c (.bool (Z1q a.1 a.2.1))
def Z4p:Fs U:=fs Zpd (fun a=> [Zlp a]) Zsi
def Zv7:ArgL (List WEdit × Unit):=(.cons (aSl .wedit) .nil)
def Zjn(a:List WEdit × Unit):Prop:=(a.1).length<=20000000000/\∀ x∈a.1,Z2T x
def ZA2(a:List WEdit × Unit):V U:= .c (.bool (ZN (-1) a.1))
def Z7r:Fs U:=fs Zv7 (fun a=> [Zjn a]) ZA2
def ZeL:Zg U:=lvl [([0],[]),([0,3],[]),([0,3,5],[]),([0,3,5,6],[]),([0,3,4,5],[]),([0,3,4,5,12],[]),([0,3,5],[]),([0,3,5],[]),([2],[])]
def Z45(m d h:Int):LSt U:=(L2 [(0,.c (.int .u8 m)),(3,.c (.int .u64 d)),pI 5 h] [])
abbrev ZIR(m:Int)(Q:QT):=AW (Z2 Zmg) Tryz.f157 ZeL [] (L2 [(0,.c (.int .u8 m))] []) Q
theorem ZFO(m:Int)(Q:QT)(h:Zl (AW (Z2 Zmg) Tryz.f157 ZeL [1,1,0,1,0,0]) (Z45 m 0 0) (xB 0 (SW (Z2 Zmg) Tryz.f157 ZeL [1,1,1] Q))):
  ZIR m Q:=
 Eq.mpr V5 h
abbrev Zz3(m d h:Int)(N0:NT)(Q:QT):=AW (Z2 Zmg) Tryz.f157 ZeL [1,1,0,1,0,0] (Z45 m d h) (xT N0 (xB 0 (SW (Z2 Zmg) Tryz.f157 ZeL [1,1,1] Q)))
theorem Zrs(m s d:Int)(N0:NT)(Q:QT)(h:let z1:=IntKind.bits .u8;let z0:=IntKind.bits .u64;iB (decide (d < 8)) (((0:Int)<=d)/\(iB (((IntKind.wrap .u8 (BitVec.ofInt z1 (Int.fdiv m (2 ^ (min d.toNat z1))) &&& BitVec.ofInt z1 1).toNat):Int)==1) ((InR ((8:Int)*d))/\((0:Int)<=((8:Int)*d))/\((InR (d+1))/\(N0 (Z45 m (IntKind.wrap .u64 (BitVec.ofInt z0 s ||| BitVec.ofInt z0 (IntKind.wrap .u64 ((255:Int)*2 ^ (min (Int.toNat ((8:Int)*d)) z0)))).toNat) (d+1))))) ((InR (d+1))/\(N0 (Z45 m s (d+1)))))) (Q .ret (L2 [(2,.c (.int .u64 s))] []))):
  Zz3 m s d N0 Q:=
 Eq.mpr V5 h
def Zzt(m:Int):Prop:=AW (Z2 Zmg) Tryz.f157 ZeL [] (Zi (Zpf.can (m,())) []) (EQ Tryz.f157 (Zsl (m,())) [])
theorem ZxK(hb:∀ (m:Int) (_:Unit),Zea (m,())->Zzt m):CT 157 Z8k:=
 Z1 (l:=[]) Zk rfl trivial ZeL Tryz.func157 rfl rfl 1 (fun _=> rfl) V2 (fun ⟨m,_⟩=> hb m ())
def ZoE:List (FuncId × Fs U):=[(157,Z8k)]
def ZtI:Zg U:=lvl [([0,1,2],[]),([6],[])]
abbrev ZIW(a b m:Int)(Q:QT):=AW (Z2 ZoE) Tryz.f136 ZtI [] (L2 [(0,.c (.int .u64 a)),(1,.c (.int .u64 b)),(2,.c (.int .u8 m))] []) Q
theorem ZFY(a b m:Int)(Q:QT)(h:let z0:=IntKind.bits .u64;(Zea (m,()))/\(Zea (m,()))/\(Q .ret (L2 [(6,.c (.int .u64 (IntKind.wrap .u64 (BitVec.ofInt z0 (IntKind.wrap .u64 (BitVec.ofInt z0 a &&& ~~~(BitVec.ofInt z0 ((Z11 m.toNat 8:Nat):Int))).toNat) ||| BitVec.ofInt z0 (IntKind.wrap .u64 (BitVec.ofInt z0 b &&& BitVec.ofInt z0 ((Z11 m.toNat 8:Nat):Int)).toNat)).toNat)))] []))):
  ZIW a b m Q:=
 Eq.mpr V5 h
def ZzD(a b m:Int):Prop:=AW (Z2 ZoE) Tryz.f136 ZtI [] (Zi (Zvd.can (a,b,m,())) []) (EQ Tryz.f136 (ZA8 (a,b,m,())) [])
theorem ZxR(ZDn:CT 157 Z8k)(hb:∀ (a:Int) (b:Int) (m:Int) (_:Unit),ZbG (a,b,m,())->ZzD a b m):CT 136 Z4m:=
 Z1 (l:=[(157,Z8k)]) Zk rfl (⟨ZDn,trivial⟩) ZtI Tryz.func136 rfl rfl 3 (fun _=> rfl) V2 (fun ⟨a,b,m,_⟩=> hb a b m ())
def Zu7:List (FuncId × Fs U):=[(30,Z2r)]
abbrev W96(t:Tree)(Q:QT):=AW (Z2 Zu7) Tryz.f96 ZCY [] (L2 [(0,.agg (enc .tree t))] []) Q
theorem ZHx(t:Tree)(Q:QT)(h:let z0:=Tree.mk t.kind t.words t.kids;((Tt (t.kind !=10))/\((t.kind !=10)=true->Zgh (z0,()))/\(Tt (t.kind !=10))/\(Q .ret (L2 [pB 2 (bif (t.kind !=10) then (Za z0 64) else false)] [])))):
  W96 t Q:=
 Eq.mpr V5 h
def ZEh(t:Tree):Prop:=AW (Z2 Zu7) Tryz.f96 ZCY [] (Zi (ZvE.can (t,())) []) (EQ Tryz.f96 (ZA3 (t,())) [])
theorem ZBF(c30:CT 30 Z2r)(hb:∀ (t:Tree) (_:Unit),Zgh (t,())->ZEh t):CT 96 Z7s:=
 Z1 (l:=[(30,Z2r)]) Zk rfl (⟨c30,trivial⟩) ZCY Tryz.func96 rfl rfl 1 (fun _=> rfl) V2 (fun ⟨t,_⟩=> hb t ())
def ZtA:Zg U:=lvl [([0,3],[3]),([4],[])]
abbrev ZIO(list:Int)(t:Tree)(Q:QT):=AW (Z2 Zu7) Tryz.f160 ZtA [] (L2 [pI 0 list,(1,.agg (enc .tree t))] []) Q
theorem ZFL(list:Int)(t:Tree)(Q:QT)(h:let z0:=Tree.mk list [] ([(Tree.mk t.kind t.words t.kids)]);(Zgh (z0,()))/\(Q .ret (L2 [(4,.c (.bool (Za z0 64)))] []))):
  ZIO list t Q:=
 Eq.mpr V5 h
def Zzq(list:Int)(t:Tree):Prop:=AW (Z2 Zu7) Tryz.f160 ZtA [] (Zi (Zva.can (list,t,())) []) (EQ Tryz.f160 (Zsj (list,t,())) [])
theorem ZxH(c30:CT 30 Z2r)(hb:∀ (list:Int) (t:Tree) (_:Unit),Ze8 (list,t,())->Zzq list t):CT 160 Z8i:=
 Z1 (l:=[(30,Z2r)]) Zk rfl (⟨c30,trivial⟩) ZtA Tryz.func160 rfl rfl 2 (fun _=> rfl) V2 (fun ⟨list,t,_⟩=> hb list t ())
def Zov:List (FuncId × Fs U):=[(128,Z30)]
def Ztz:Zg U:=lvl [([0,3],[3]),([0,3,5],[3]),([4],[]),([3,13],[3]),([4],[]),([4],[])]
abbrev ZIN(list:Int)(e:Edit)(Q:QT):=AW (Z2 Zov) Tryz.f161 Ztz [] (L2 [pI 0 list,(1,.agg (enc .edit e))] []) Q
theorem ZFK(list:Int)(e:Edit)(Q:QT)(h:let z1:=decide (2<=list/\list<=7);let z0:=bif (e.kind==1) then (e.old.kind==1) else false;((ZsR (list,()))/\(Tt (!z1))/\(Tt (!z1))/\(z1=false->(!z1)=true)/\(iB (bif z1 then true else (e.kind==0)) ((Q .ret (L2 [pB 4 false] []))) ((Tt (!(list==8)))/\(Tt (!(list==8)))/\((list==8)=false->(!(list==8))=true)/\(iB (bif (list==8) then true else (e.kind==2)) ((Q .ret (L2 [pB 4 true] []))) ((Tt (e.kind==1))/\(Tt (e.kind==1))/\(Tt (e.kind==1))/\(Tt (e.kind==1))/\(Tt z0)/\(Tt z0)/\(Tt z0)/\(Tt z0)/\(Q .ret (L2 [pB 4 (bif z0 then (e.new.kind==1) else false)] [])))))))):
  ZIN list e Q:=
 Eq.mpr V5 h
def Zzp(list:Int)(e:Edit):Prop:=AW (Z2 Zov) Tryz.f161 Ztz [] (Zi (Zpd.can (list,e,())) []) (EQ Tryz.f161 (Zsi (list,e,())) [])
theorem ZxG(ZqX:CT 128 Z30)(hb:∀ (list:Int) (e:Edit) (_:Unit),Zlp (list,e,())->Zzp list e):CT 161 Z4p:=
 Z1 (l:=[(128,Z30)]) Zk rfl (⟨ZqX,trivial⟩) Ztz Tryz.func161 rfl rfl 2 (fun _=> rfl) V2 (fun ⟨list,e,_⟩=> hb list e ())
def Zb0:List (FuncId × Fs U):=[(136,Z4m)]
def ZlJ:Zg U:=lvl [([0],[]),([0,5,6,7],[]),([0,5,6,7,8],[]),([0,3,4,5,6,7],[4]),([0,4,5,6,7,39],[4]),([2],[]),([0,5,6,7,53],[]),([2],[]),([0,5,6,7],[]),([2],[])]
def Z9o(l:List WEdit)(d:Int):LSt U:=(L2 [(0,.c (sU .wedit l .unk)),(5,.c (sU .wedit l .unk)),pI 6 (l.length:Int),pI 7 d] [])
abbrev W97(l:List WEdit)(Q:QT):=AW (Z2 Zb0) Tryz.f97 ZlJ [] (L2 [(0,.c (sU .wedit l .unk))] []) Q
theorem ZHw(l:List WEdit)(Q:QT)(h:Zl (AW (Z2 Zb0) Tryz.f97 ZlJ [1,0,1,0,0]) (Z9o l 0) (xB 0 (SW (Z2 Zb0) Tryz.f97 ZlJ [1,1] Q))):
  W97 l Q:=
 Eq.mpr V5 h
abbrev ZDX(l:List WEdit)(d:Int)(N0:NT)(Q:QT):=AW (Z2 Zb0) Tryz.f97 ZlJ [1,0,1,0,0] (Z9o l d) (xT N0 (xB 0 (SW (Z2 Zb0) Tryz.f97 ZlJ [1,1] Q)))
theorem Zw3(l:List WEdit)(s:Int)(N0:NT)(Q:QT)(h:∀ d,d=(l.getD s.toNat (WEdit.mk 0 0 0 0))->∀ u,u=(List.getD l (Int.toNat (s - 1)) (WEdit.mk 0 0 0 0))->let z6:=(Q .ret (L2 [pB 2 false] []));let z5:=decide ((0:Int) < s);let z4:=decide (d.at_ < 0);let z3:=((mix d.old 0 d.mask):Int) !=0;let z0:=bif z4 then true else (decide ((65535:Int)<=d.at_));let z2:=(!z0) && z5;let z1:=bif z0 then true else (bif z5 then (decide (d.at_<=u.at_)) else false);(iB (decide (s < (l.length:Int))) (((0:Int)<=s/\s < (l.length:Int))/\((Tt (!z4))/\(Tt (!z4))/\(z4=false->(!z4)=true)/\(Tt (!z0))/\(Tt (!z0))/\(Tt z2)/\(z2=true->InR (s - 1))/\(Tt z2)/\(Tt z2)/\(z2=true->(0:Int)<=(s - 1)/\(s - 1) < (l.length:Int))/\(Tt z2)/\(Tt z2)/\(Tt z2)/\(Tt z2)/\(Tt z2)/\((!z0)=true->(True->(!z0)=true))/\((!z0)=true->(z5=true->z2=true))/\(z0=false->(!z0)=true)/\(Tt (!z1))/\(Tt (!z1))/\(z1=false->(!z1)=true)/\(iB (bif z1 then true else (d.mask==0)) z6 ((ZbG (d.old,0,d.mask,()))/\(Tt (!z3))/\(Tt (!z3))/\(Tt (!z3))/\(Tt (!z3))/\((!z3)=true->ZbG (d.new,0,d.mask,()))/\(Tt (!z3))/\(z3=false->(!z3)=true)/\(iB (bif z3 then true else (((mix d.new 0 d.mask):Int) !=0)) z6 ((InR (s+1))/\(N0 (Z9o l (s+1))))))))) ((Q .ret (L2 [pB 2 true] []))))):
  ZDX l s N0 Q:=
 Eq.mpr V5 (h _ rfl _ rfl)
def ZEg(l:List WEdit):Prop:=AW (Z2 Zb0) Tryz.f97 ZlJ [] (Zi (Zv7.can (l,())) []) (EQ Tryz.f97 (ZA2 (l,())) [])
theorem ZBE(Zif:CT 136 Z4m)(hb:∀ (l:List WEdit) (_:Unit),Zjn (l,())->ZEg l):CT 97 Z7r:=
 Z1 (l:=[(136,Z4m)]) Zk rfl (⟨Zif,trivial⟩) ZlJ Tryz.func97 rfl rfl 1 (fun _=> rfl) V2 (fun ⟨l,_⟩=> hb l ())
end
theorem Zv6:∀ n:Fin 256,∀ i:Fin 8,IntKind.wrap .u8 (BitVec.ofInt (IntKind.bits .u8) (Int.fdiv (n.1:Int) (2 ^ (min (Int.toNat (i.1:Int)) (IntKind.bits .u8)))) &&& BitVec.ofInt (IntKind.bits .u8) 1).toNat=((n.1 / 2 ^ i.1 % 2:Nat):Int):=by decide+kernel
theorem Zxn:∀ n:Fin 256,∀ i:Fin 8,IntKind.wrap .u64 (BitVec.ofInt (IntKind.bits .u64) ((Z11 n.1 i.1:Nat):Int) ||| BitVec.ofInt (IntKind.bits .u64) (IntKind.wrap .u64 (255*2 ^ (min (Int.toNat (8*(i.1:Int))) (IntKind.bits .u64))))).toNat=((Z11 n.1 i.1+255*2 ^ (8*i.1):Nat):Int):=by decide+kernel
theorem ZDn:Contract Tryz.prog cfg 157 Z8k:=by
 refine ZxK ?_
 intro m _ hp
 simp only [Zea] at hp
 obtain ⟨n,rfl⟩:=QU hp.1
 have h:n < 256:=V0
 refine ZFO _ _ ?_
 refine Z4 (ι:=Nat) (fun i=> Z45 n ((Z11 n i:Nat):Int) i) (fun i=> i<=8) (fun i=> 8 - i) 0 rfl V0 ?_
 intro i hi
 refine Zrs _ _ _ _ _ ?_
 (simp only [iB,vcS])
 refine ⟨fun hc=> ⟨V0,fun s=> ⟨V4,V0,V4,i+1,?_,V0,V0⟩,fun s=> ⟨V4,i+1,?_,V0,V0⟩⟩,fun hc=> ?_⟩
 .have d:=Zv6 ⟨n,h⟩ ⟨i,V0⟩
  have u:=Zxn ⟨n,h⟩ ⟨i,V0⟩
  simp only at d u
  rw [d] at s
  rw [u]
  have e:Z11 n (i+1)=Z11 n i+255*2 ^ (8*i):=by simp only [Z11];grind
  rw [e]
  try rfl
 .have d:=Zv6 ⟨n,h⟩ ⟨i,V0⟩
  simp only at d
  rw [d] at s
  have e:Z11 n (i+1)=Z11 n i:=by simp only [Z11];rw [JC];omega
  rw [e]
  try rfl
 .have:i=8:=V0
  subst this
  trivial
theorem Z6i(a:Nat)(h:a < 2 ^ 64):(BitVec.ofInt 64 (a:Int)).toNat=a:=by
 grind
theorem Zif:Contract Tryz.prog cfg 136 Z4m:=by
 refine ZxR ZDn ?_
 intro a b m _ hp
 simp only [ZbG] at hp
 obtain ⟨⟨a0,a1⟩,⟨b0,b1⟩,m0,m1⟩:=hp
 obtain ⟨x,rfl⟩:=QU a0
 obtain ⟨y,rfl⟩:=QU b0
 obtain ⟨n,rfl⟩:=QU m0
 have s:n < 256:=V0
 have hx:x < 2 ^ 64:=V0
 have hy:y < 2 ^ 64:=V0
 have h:=Zw0 ⟨n,s⟩
 have d:=Zn0 ⟨n,s⟩
 simp only at h d
 rw [<-d] at h
 refine ZFY _ _ _ _ ?_
 refine ⟨⟨m0,m1⟩,⟨m0,m1⟩,Y3 rfl ?_⟩
 have em:mix x y n=(((x &&& (2 ^ 64 - 1 - Z11 n 8)) ||| (y &&& Z11 n 8):Nat):Int):=by rw [<-Zti,<-Ztg x y n s]
 have e1:(BitVec.ofInt 64 (x:Int) &&& ~~~(BitVec.ofInt 64 ((Z11 n 8:Nat):Int))).toNat=x &&& (2 ^ 64 - 1 - Z11 n 8):=by
  rw [K4,BitVec.toNat_not,Z6i x hx,Z6i _ h]
 have e2:(BitVec.ofInt 64 (y:Int) &&& BitVec.ofInt 64 ((Z11 n 8:Nat):Int)).toNat=y &&& Z11 n 8:=by
  rw [K4,Z6i y hy,Z6i _ h]
 have l1:x &&& (2 ^ 64 - 1 - Z11 n 8) < 2 ^ 64:=Nat.lt_of_le_of_lt Nat.and_le_left hx
 have l2:y &&& Z11 n 8 < 2 ^ 64:=Nat.lt_of_le_of_lt Nat.and_le_left hy
 have l3:(x &&& (2 ^ 64 - 1 - Z11 n 8)) ||| (y &&& Z11 n 8) < 2 ^ 64:=Nat.or_lt_two_pow l1 l2
 have u:IntKind.wrap .u64 ((BitVec.ofInt 64 (IntKind.wrap .u64 ((BitVec.ofInt 64 (x:Int) &&& ~~~(BitVec.ofInt 64 ((Z11 n 8:Nat):Int))).toNat:Int)) ||| BitVec.ofInt 64 (IntKind.wrap .u64 ((BitVec.ofInt 64 (y:Int) &&& BitVec.ofInt 64 ((Z11 n 8:Nat):Int)).toNat:Int))).toNat:Int)=mix x y n:=by
  have w1:∀ k:Nat,k < 2 ^ 64->IntKind.wrap .u64 (k:Int)=k:=fun k hk=> Ju V0 V0
  grind
 exact u
theorem c96:Contract Tryz.prog cfg 96 Z7s:=by
 refine ZBF c30 ?_
 intro t _ d
 refine ZHx _ _ ?_
 (simp only [vE])
 simp only [iB,vcT,vcS,aiT,true_and]
 refine ⟨fun _=> d,Z5 rfl ?_⟩
 grind
theorem ZDk:Contract Tryz.prog cfg 160 Z8i:=by
 refine ZxH c30 ?_
 intro list t _ d
 simp only [Ze8] at d
 refine ZFL _ _ _ ?_
 (simp only [vE])
 refine ⟨⟨?_,?_⟩,V1⟩
 .simp only [Zh,Ze,Qj];omega
 .simp only [rng,Ya]
  have h:=d.2.2
  unfold InR at h
  grind
theorem ZDj:Contract Tryz.prog cfg 161 Z4p:=by
 refine ZxG ZqX ?_
 intro list e _ s
 refine ZFK _ _ _ ?_
 simp only [iB,vcT,vcS,aiT,true_and]
 refine ⟨trivial,fun h=> ?_,fun h=> ⟨fun d=> ?_,fun d=> ?_⟩⟩
 .exact Z5 rfl (by show false=Z1q list e;unfold Z1q;rw [if_pos h])
 .exact Z5 rfl (by show true=Z1q list e;unfold Z1q;grind)
 .refine Z5 rfl ?_
  show _=Z1q list e
  unfold Z1q
  grind
theorem ZgZ(last:Int)(w:WEdit)(r:List WEdit):ZN last (w ::r)=(decide (last < w.at_/\w.at_<=65534/\w.mask≠0) && Yg w.old w.mask && Yg w.new w.mask && ZN w.at_ r):=rfl
theorem c97:Contract Tryz.prog cfg 97 Z7r:=by
 refine ZBE Zif ?_
 intro l _ hp
 simp only [Zjn] at hp
 refine ZHw _ _ ?_
 refine Z4 (ι:=Int) (fun i=> Z9o l i) (fun i=> 0<=i/\i<=l.length/\(i≠0->0<=(l.getD (i - 1).toNat (WEdit.mk 0 0 0 0)).at_)/\ZN (if i=0 then -1 else (l.getD (i - 1).toNat (WEdit.mk 0 0 0 0)).at_) (l.drop i.toNat)=ZN (-1) l) (fun i=> ((l.length:Int) - i).toNat) 0 rfl ⟨V0,V0,by simp,by simp⟩ ?_
 rintro i ⟨h1,h2,s,d⟩
 refine Zw3 _ _ _ _ ?_
 rintro y1 h y2 u
 simp only [iB,vcT,vcS,aiT,true_and]
 refine ⟨fun hi=> ?_,fun hi=> ?_⟩
 .have hm:=hp.2 _ (Zb (l:=l) (i:=i.toNat) V0 (WEdit.mk 0 0 0 0))
  rw [Y1 h1 hi (WEdit.mk 0 0 0 0),ZgZ] at d
  rw [<-h] at d hm
  rw [<-u] at d s
  obtain ⟨r1,r2,r3,r4⟩:=hm
  unfold isW at r3 r4
  have hw:∀ x:Int,Yg x y1.mask=decide (mix x 0 y1.mask=0):=fun x=> rfl
  refine ⟨⟨h1,hi⟩,fun _=> by unfold InR;omega,fun _=> ⟨V0,V0⟩,fun hq=> ?_,fun hq=> ⟨⟨r3,by grind,r2⟩,fun _=> ⟨r4,by grind,r2⟩,fun hz=> ?_,fun hz=> ⟨V4,i+1,rfl,⟨V0,V0,fun _=> by grind,?_⟩,V0⟩⟩⟩
  .refine Z5 rfl ?_
   show false=ZN (-1) l
   rw [<-d,decide_eq_false]
   .try rfl
   omega
  .refine Z5 rfl ?_
   grind
  .rw [JC,show i+1 - 1=i by omega,<-h,<-d,hw,hw,decide_eq_true hz.1,decide_eq_true hz.2,decide_eq_true]
   .simp
   omega
 .rw [Q6 V0] at d
  trivial
end Go.AM.YtfapacabjkhepaaGreat
namespace Go.AM
def wr(n:Int):Int:=IntKind.wrap .i64 n
def Z1i(o:Op):Int:=if o.kind=3 then 1 else wr (o.n+o.l.length)
def Zie(n:Int):Int:=if 1048576 < n then 1048576 else n
def Z2L:List Op->Int->Int
 | [],n=> n
 | o ::r,n=> Z2L r (if o.kind=2 then n else Zie (wr (n+Z1i o)))
def Z2K:List Op->Int->Int
 | [],n=> n
 | o ::r,n=> Z2K r (if o.kind=1 then n else Zie (wr (n+Z1i o)))
def Z4f(e:Edit):Bool:=
 if (e.kind≠1/\¬(Ys e.old=true/\Ys e.new=true))\/(e.kind≠2/\¬(e.words.length=0/\e.kids.length=0))\/(e.kind≠3/\(e.list≠0\/e.ops.length≠0)) then false else true
end Go.AM
namespace Go.AM.YtfapacabjkhepaaGreat
open Go.AM Go.Proofs
noncomputable section
def Zsq(a:Edit × Unit):V U:= .tup [(false,[ci (Z2L a.1.ops 0)]),(false,[ci (Z2K a.1.ops 0)])]
def Z4r:Fs U:=fs Zvc (fun a=> [Ze0 a]) Zsq
def Z0l:Zg U:=lvl [([1],[1]),([1,4,5],[1]),([4,5,10,11,12],[]),([4,5,10,11,12,13],[]),([4,5,7,10,11,12],[7]),([4,5,7,8,10,11,12],[7]),([4,5,7,8,10,11,12,24],[7]),([4,5,7,8,10,11,12,24],[7]),([4,5,7,8,10,11,12,27],[7]),([4,5,7,8,10,11,12,27],[7]),([4,5,8,10,11,12,34],[]),([4,5,10,11,12],[]),([4,5,10,11,12],[]),([2,3],[])]
def Z1k(e:Edit)(s h d:Int):LSt U:=(L2 [pI 4 s,pI 5 h,(10,.c (sU .op e.ops .unk)),pI 11 (e.ops.length:Int),pI 12 d] [])
def Zb9(e:Edit)(u s d h:Int):LSt U:=(L2 [pI 4 u,pI 5 s,pL 7,pI 8 h,(10,.c (sU .op e.ops .unk)),pI 11 (e.ops.length:Int),pI 12 d,(24,.c (.bool (((OpOf.kind (e.ops.getD d.toNat Op.nil)):Int)==3)))] [(.loc 7,(enc .op (e.ops.getD d.toNat Op.nil)))])
def Zb8(e:Edit)(u d s h:Int):LSt U:=(L2 [pI 4 h,pI 5 u,pL 7,pI 8 s,(10,.c (sU .op e.ops .unk)),pI 11 (e.ops.length:Int),pI 12 d,(27,.c (.bool (((OpOf.kind (e.ops.getD d.toNat Op.nil)):Int) !=2)))] [(.loc 7,(enc .op (e.ops.getD d.toNat Op.nil)))])
abbrev ZIU(e:Edit)(Q:QT):=AW (Z07 Zmg) Tryz.f138 Z0l [] (L2 [(0,.agg (enc .edit e))] []) Q
theorem ZFW(e:Edit)(Q:QT)(h:Zl (AW (Z07 Zmg) Tryz.f138 Z0l [1,1,0,1,0,0]) (Z1k e 0 0 0) (xB 0 (SW (Z07 Zmg) Tryz.f138 Z0l [1,1,1] Q))):
  ZIU e Q:=
 Eq.mpr V5 h
abbrev Zz6(e:Edit)(s h d:Int)(N0:NT)(Q:QT):=AW (Z07 Zmg) Tryz.f138 Z0l [1,1,0,1,0,0] (Z1k e s h d) (xT N0 (xB 0 (SW (Z07 Zmg) Tryz.f138 Z0l [1,1,1] Q)))
theorem Zrw(e:Edit)(u s d:Int)(N0:NT)(Q:QT)(h:let z1:=e.ops.getD d.toNat Op.nil;let z0:=xB 1 (SW (Z07 Zmg) Tryz.f138 Z0l [1,1,0,1,0,0,1,1,1] (xT N0 (xB 0 (SW (Z07 Zmg) Tryz.f138 Z0l [1,1,1] Q))));iB (decide (d < (e.ops.length:Int))) (((0:Int)<=d/\d < (e.ops.length:Int))/\(iB (((OpOf.kind z1):Int)==3) (AW (Z07 Zmg) Tryz.f138 Z0l [1,1,0,1,0,0,1,1,0,0,1,1,1] (Zb9 e u s d 1) z0) (AW (Z07 Zmg) Tryz.f138 Z0l [1,1,0,1,0,0,1,1,0,0,1,1,1] (Zb9 e u s d (IntKind.wrap .i64 (((OpOf.n z1):Int)+((OpOf.l z1).length:Int)))) z0))) (Q .ret (L2 [pI 2 u,pI 3 s] []))):
  Zz6 e u s d N0 Q:=
 Eq.mpr V5 h
abbrev ZpF(e:Edit)(u s h d:Int)(N0:NT)(Q:QT):=AW (Z07 Zmg) Tryz.f138 Z0l [1,1,0,1,0,0,1,1,0,0,1,1,1] (Zb9 e u s h d) (xB 1 (SW (Z07 Zmg) Tryz.f138 Z0l [1,1,0,1,0,0,1,1,1] (xT N0 (xB 0 (SW (Z07 Zmg) Tryz.f138 Z0l [1,1,1] Q)))))
theorem Zry(e:Edit)(x4 u s d:Int)(N0:NT)(Q:QT)(h:let z1:=IntKind.wrap .i64 (x4+d);let z0:=xB 1 (SW (Z07 Zmg) Tryz.f138 Z0l [1,1,0,1,0,0,1,1,1] (xT N0 (xB 0 (SW (Z07 Zmg) Tryz.f138 Z0l [1,1,1] Q))));iB (((OpOf.kind (e.ops.getD s.toNat Op.nil)):Int) !=2) (AW (Z07 Zmg) Tryz.f138 Z0l [1,1,0,1,0,0,1,1,0,0,1,1,1,1] (Zb8 e u s d (if (1048576:Int) < z1 then 1048576 else z1)) z0) (AW (Z07 Zmg) Tryz.f138 Z0l [1,1,0,1,0,0,1,1,0,0,1,1,1,1] (Zb8 e u s d x4) z0)):
  ZpF e x4 u s d N0 Q:=
 Eq.mpr V5 h
abbrev ZpE(e:Edit)(u s h d:Int)(N0:NT)(Q:QT):=AW (Z07 Zmg) Tryz.f138 Z0l [1,1,0,1,0,0,1,1,0,0,1,1,1,1] (Zb8 e u s h d) (xB 1 (SW (Z07 Zmg) Tryz.f138 Z0l [1,1,0,1,0,0,1,1,1] (xT N0 (xB 0 (SW (Z07 Zmg) Tryz.f138 Z0l [1,1,1] Q)))))
theorem Zrx(e:Edit)(x5 s u d:Int)(N0:NT)(Q:QT)(h:let z0:=IntKind.wrap .i64 (x5+u);iB (((OpOf.kind (e.ops.getD s.toNat Op.nil)):Int) !=1) (N0 (Z1k e d (if (1048576:Int) < z0 then 1048576 else z0) (IntKind.wrap .i64 (s+1)))) (N0 (Z1k e d x5 (IntKind.wrap .i64 (s+1))))):
  ZpE e x5 s u d N0 Q:=
 Eq.mpr V5 h
def ZzB(e:Edit):Prop:=AW (Z07 Zmg) Tryz.f138 Z0l [] (Zi (Zvc.can (e,())) []) (EQ Tryz.f138 (Zsq (e,())) [])
theorem ZxQ(hb:∀ (e:Edit) (_:Unit),Ze0 (e,())->ZzB e):CT 138 Z4r:=
 Zfd (l:=[]) Zk rfl trivial Z0l Tryz.func138 rfl rfl 1 (fun _=> rfl) V2 (fun ⟨e,_⟩=> hb e ())
end
theorem ZiD{n:Int}(h:InR n):wr n=n:=by
 unfold InR at h
 simp [wr,IntKind.wrap,IntKind.signed,IntKind.bits]
 omega
theorem ZlT{l:List Op}{i:Int}(n:Int)(h0:0<=i)(h:i < l.length):Z2L (l.drop i.toNat) n=Z2L (l.drop (i+1).toNat) (if (l.getD i.toNat Op.nil).kind=2 then n else Zie (wr (n+Z1i (l.getD i.toNat Op.nil)))):=by
 rw [Y1 h0 h Op.nil,Z2L]
theorem ZlS{l:List Op}{i:Int}(n:Int)(h0:0<=i)(h:i < l.length):Z2K (l.drop i.toNat) n=Z2K (l.drop (i+1).toNat) (if (l.getD i.toNat Op.nil).kind=1 then n else Zie (wr (n+Z1i (l.getD i.toNat Op.nil)))):=by
 rw [Y1 h0 h Op.nil,Z2K]
theorem ZDt:Contract Tryz.prog cfg 138 Z4r:=by
 refine ZxQ ?_
 intro e _ hp
 simp only [Ze0] at hp
 have h1:=ZY e
 have h2:=ZM e.ops
 refine ZFW _ _ ?_
 refine Z4 (ι:=Int × Int × Int) (fun s=> Z1k e s.1 s.2.1 s.2.2) (fun s=> (0<=s.2.2/\s.2.2<=e.ops.length)/\Z2L (e.ops.drop s.2.2.toNat) s.1=Z2L e.ops 0/\Z2K (e.ops.drop s.2.2.toNat) s.2.1=Z2K e.ops 0) (fun s=> ((e.ops.length:Int) - s.2.2).toNat) (0,0,0) rfl ⟨⟨by simp,by simp⟩,rfl,rfl⟩ ?_
 rintro ⟨n,m,i⟩ ⟨⟨g1,g2⟩,g3,u⟩
 dsimp only at g1 g2 g3 u
 refine Zrw _ _ _ _ _ _ ?_
 (simp only [iB,vcS])
 refine ⟨fun hi=> ⟨⟨g1,hi⟩,?_⟩,fun hi=> ?_⟩
 .rw [ZlT _ g1 hi] at g3
  rw [ZlS _ g1 hi] at u
  have hk:IntKind.wrap .i64 (i+1)=i+1:=ZiD V4
  generalize hy:e.ops.getD i.toNat Op.nil=y at*
  have ab:∀ k:Int,k=Z1i y->∀ (Q':AExit->LSt U->Prop),ZpF e n m i k (fun s2=> ∃ j:Int × Int × Int,s2=Z1k e j.1 j.2.1 j.2.2/\((0<=j.2.2/\j.2.2<=e.ops.length)/\Z2L (e.ops.drop j.2.2.toNat) j.1=Z2L e.ops 0/\Z2K (e.ops.drop j.2.2.toNat) j.2.1=Z2K e.ops 0)/\((e.ops.length:Int) - j.2.2).toNat < ((e.ops.length:Int) - i).toNat) Q':=by
   rintro k rfl Q'
   have d:∀ a:Int,a=(if y.kind=2 then n else Zie (wr (n+Z1i y)))->ZpE e m i (Z1i y) a (fun s2=> ∃ j:Int × Int × Int,s2=Z1k e j.1 j.2.1 j.2.2/\((0<=j.2.2/\j.2.2<=e.ops.length)/\Z2L (e.ops.drop j.2.2.toNat) j.1=Z2L e.ops 0/\Z2K (e.ops.drop j.2.2.toNat) j.2.1=Z2K e.ops 0)/\((e.ops.length:Int) - j.2.2).toNat < ((e.ops.length:Int) - i).toNat) Q':=by
    rintro a ha
    refine Zrx _ _ _ _ _ _ _ ?_
    rw [hy,hk]
    (simp only [iB,vcS])
    rw [<-ha] at g3
    refine ⟨fun h=> ⟨(a,_,i+1),rfl,⟨⟨V3,V3⟩,g3,?_⟩,V3⟩,fun h=> ⟨(a,_,i+1),rfl,⟨⟨V3,V3⟩,g3,?_⟩,V3⟩⟩
    .rw [if_neg h] at u;exact u
    .rw [if_pos h] at u;exact u
   refine Zry _ _ _ _ _ _ _ ?_
   rw [hy]
   (simp only [iB,vcS])
   exact ⟨fun h=> d _ (by rw [if_neg h];rfl),fun h=> d _ (by rw [if_pos h])⟩
  exact ⟨fun h=> ab _ (by unfold Z1i;rw [if_pos h]) _,fun h=> ab _ (by unfold Z1i;rw [if_neg h];rfl) _⟩
 .rw [Q6 V0] at g3 u
  simp only [Z2L,Z2K] at g3 u
  rw [g3,u]
  exact V1
theorem Zkd:∀ (l:List Op) (n:Int),(∀ o∈l,(0<=o.n/\o.n<=1048576)/\o.l.length<=20000000000)->0<=n->n<=1048576->Z2L l n=Z13 l n
 | [],_,_,_,_=> rfl
 | o ::r,n,h,h0,hn=> by
  have ho:=h o (Q5 ..)
  have hl:=YN o
  have s:Z1i o=Z7 o:=by
   unfold Z1i;rw [hl]
   split
   .try rfl
   .exact ZiD V4
  have u:0<=Z7 o/\Z7 o<=60000000000:=by rw [hl];split <;> omega
  simp only [Z2L,Z13]
  rw [s,ZiD V4]
  have e2:(if o.kind=2 then n else Zie (n+Z7 o))=min (if o.kind=2 then n else n+Z7 o) 1048576:=by
   unfold Zie;split
   .omega
   .omega
  rw [e2]
  exact Zkd r _ (fun x d=> h x (Q1 _ d)) V0 V0
theorem Zkc:∀ (l:List Op) (n:Int),(∀ o∈l,(0<=o.n/\o.n<=1048576)/\o.l.length<=20000000000)->0<=n->n<=1048576->Z2K l n=Z12 l n
 | [],_,_,_,_=> rfl
 | o ::r,n,h,h0,hn=> by
  have ho:=h o (Q5 ..)
  have hl:=YN o
  have s:Z1i o=Z7 o:=by
   unfold Z1i;rw [hl]
   split
   .try rfl
   .exact ZiD V4
  have u:0<=Z7 o/\Z7 o<=60000000000:=by rw [hl];split <;> omega
  simp only [Z2K,Z12]
  rw [s,ZiD V4]
  have e2:(if o.kind=1 then n else Zie (n+Z7 o))=min (if o.kind=1 then n else n+Z7 o) 1048576:=by
   unfold Zie;split
   .omega
   .omega
  rw [e2]
  exact Zkc r _ (fun x d=> h x (Q1 _ d)) V0 V0
noncomputable section
def Zpj:ArgL (List Tree × List Tree × Unit × Unit):=(.cons (aSl .tree) (.cons (aSl .tree) (.cons (aFn 47) .nil)))
def Zec(a:List Tree × List Tree × Unit × Unit):Prop:=Ze a.1<=1000000000000/\Ze a.2.1<=1000000000000
def Zsp(a:List Tree × List Tree × Unit × Unit):V U:= .c (.bool (eqX (Z9 a.1) (Z9 a.2.1)))
def Z5Y:Fs U:=fs Zpj (fun a=> [Zec a]) Zsp
def Z6z:List (FuncId × Fs U):=[(47,YX)]
def ZeN:Zg U:=lvl [([0,1,2],[]),([0,1,2,14],[]),([6],[]),([1,2,15,16,17],[]),([1,2,15,16,17,18],[]),([1,2,7,8,15,16,17],[8]),([1,2,8,9,15,16,17],[8,9]),([1,2,15,16,17,30],[]),([6],[]),([1,2,15,16,17],[]),([6],[])]
def Z6E(a b:List Tree)(f:Unit)(d:Int):LSt U:=(L2 [(1,.c (sU .tree b .unk)),(2,.fn 47),(15,.c (sU .tree a .unk)),pI 16 (a.length:Int),pI 17 d] [])
abbrev ZIT(a b:List Tree)(f:Unit)(Q:QT):=AW (Z2 Z6z) Tryz.f140 ZeN [] (L2 [(0,.c (sU .tree a .unk)),(1,.c (sU .tree b .unk)),(2,.fn 47)] []) Q
theorem ZFU(a b:List Tree)(f:Unit)(Q:QT)(h:iB (((a.length:Int):Int) !=(b.length:Int)) (Q .ret (L2 [pB 6 false] [])) (Zl (AW (Z2 Z6z) Tryz.f140 ZeN [1,1,0,1,0,0]) (Z6E a b f 0) (xB 0 (SW (Z2 Z6z) Tryz.f140 ZeN [1,1,1] Q)))):
  ZIT a b f Q:=
 Eq.mpr V5 h
abbrev Zz5(a b:List Tree)(f:Unit)(d:Int)(N0:NT)(Q:QT):=AW (Z2 Z6z) Tryz.f140 ZeN [1,1,0,1,0,0] (Z6E a b f d) (xT N0 (xB 0 (SW (Z2 Z6z) Tryz.f140 ZeN [1,1,1] Q)))
theorem Zrv(a b:List Tree)(f:Unit)(d:Int)(N0:NT)(Q:QT)(h:let z3:=a.getD d.toNat Tree.nil;let z2:=b.getD d.toNat Tree.nil;let z1:=Tree.mk (Tree.kind z2) (Tree.words z2) (Tree.kids z2);let z0:=Tree.mk (Tree.kind z3) (Tree.words z3) (Tree.kids z3);iB (decide (d < (a.length:Int))) (((0:Int)<=d/\d < (a.length:Int))/\(((0:Int)<=d/\d < (b.length:Int))/\((Z39 (z0,z1,()))/\(iB (!(Yd (Z3 z0) (Z3 z1))) (Q .ret (L2 [pB 6 false] [])) ((InR (d+1))/\(N0 (Z6E a b f (d+1)))))))) (Q .ret (L2 [pB 6 true] []))):
  Zz5 a b f d N0 Q:=
 Eq.mpr V5 h
def Zzz(a b:List Tree)(f:Unit):Prop:=AW (Z2 Z6z) Tryz.f140 ZeN [] (Zi (Zpj.can (a,b,f,())) []) (EQ Tryz.f140 (Zsp (a,b,f,())) [])
theorem ZxO(c47:CT 47 YX)(hb:∀ (a:List Tree) (b:List Tree) (f:Unit) (_:Unit),Zec (a,b,f,())->Zzz a b f):CT 140 Z5Y:=
 Z1 (l:=[(47,YX)]) Zk rfl (⟨c47,trivial⟩) ZeN Tryz.func140 rfl rfl 3 (fun _=> rfl) V2 (fun ⟨a,b,f,_⟩=> hb a b f ())
end
theorem ZDr:Contract Tryz.prog cfg 140 Z5Y:=by
 refine ZxO c47 ?_
 intro a b f _ hp
 simp only [Zec] at hp
 refine ZFU a b f _ ?_
 (simp only [iB,vcS])
 refine ⟨fun hc=> Z5 rfl (Z3A (a:=Z9 a) (b:=Z9 b) (fun h=> hc (by have:=congrArg List.length h;simp [Z9] at this;omega))).symm,fun hc=> ?_⟩
 have hl:a.length=b.length:=V0
 have ai:=Zs a
 refine Z4 (ι:=Int) (fun i=> Z6E a b f i) (fun i=> 0<=i/\i<=a.length/\∀ j:Nat,(j:Int) < i->Z3 (a.getD j Tree.nil)=Z3 (b.getD j Tree.nil)) (fun i=> ((a.length:Int) - i).toNat) 0 rfl ⟨V0,V0,V0⟩ ?_
 rintro i ⟨h1,h2,h3⟩
 refine Zrv a b f _ _ _ ?_
 (simp only [iB,vcS])
 (simp only [vE])
 refine ⟨fun u=> ⟨⟨h1,u⟩,⟨h1,V0⟩,?_,fun s=> ?_,fun s=> ⟨V4,i+1,rfl,⟨V0,V0,?_⟩,V0⟩⟩,fun u=> ?_⟩
 .have:=Y2 (Zb (l:=a) (i:=i.toNat) V0 Tree.nil)
  have:=Y2 (Zb (l:=b) (i:=i.toNat) V0 Tree.nil)
  simp only [Z39];omega
 .refine Z5 rfl (Z3A (a:=Z9 a) (b:=Z9 b) (fun h=> ?_)).symm
  have h5:=Z5K (d:=Tree.nil) h i.toNat
  rw [Yy] at s
  exact s h5
 .intro j hj
  by_cases hj2:(j:Int) < i
  .exact h3 j hj2
  .rw [Yh,show i.toNat=j by omega] at s
   exact s
 .exact Z5 rfl (Z0r (a:=Z9 a) (b:=Z9 b).2 (ZbX Tree.nil hl (fun j hj=> h3 j V0))).symm
noncomputable section
def Z8G(a:List Int × Unit):List Int:=a.1
def Z3I:Fs U:=fsL Zvm (fun a=> [Zjt a]) .u64 Z8G
def Zed(a:List Tree × Unit):Prop:=a.1.length<=1000000000000
def ZcA(a:List Tree × Unit):List Tree:=a.1
def Z5Z:Fs U:=fsL Zph (fun a=> [Zed a]) .tree ZcA
def Zbk:ArgL (Edit × Tree × Unit):=(.cons (aEl .edit) (.cons (aEl .tree) .nil))
def Z3O(a:Edit × Tree × Unit):Prop:=(Zd a.1<=20000000000/\Y0 a.1/\∃ d,Z6 a.1 d=true)/\Zh a.2.1+ctE a.1<=200000000000/\rng a.2.1
def Zfy(a:Edit × Tree × Unit):Nat:=2*Zd a.1+1
def Z5d(a:Edit × Tree × Unit):V U:= .tup [(true,(enc .tree (Zcl a.1 a.2.1))),(false,[.bool ((doE false a.1 a.2.1).isSome)])]
def Zay:Fs U:=fs Zbk (fun a=> [Z3O a]) Z5d
def Z4z(a:Edit × Tree × Unit):Prop:=Edit.kind a.1=2/\(Zd a.1<=20000000000/\Y0 a.1/\∃ d,Z6 a.1 d=true)/\Zh a.2.1+ctE a.1<=200000000000/\rng a.2.1
def ZbQ(a:Edit × Tree × Unit):Nat:=2*Zd a.1
def Z4v(a:Edit × Tree × Unit):V U:= .tup [(true,(enc .tree (Jn (Z2q false a.1 a.2.1)))),(false,[.bool ((Z2q false a.1 a.2.1).isSome)])]
def Znf:Fs U:=fs Zbk (fun a=> [Z4z a]) Z4v
def Z4y(a:Edit × Tree × Unit):Prop:=Edit.kind a.1=3/\(Zd a.1<=20000000000/\Y0 a.1/\∃ d,Z6 a.1 d=true)/\Zh a.2.1+ctE a.1<=200000000000/\rng a.2.1
def Z4u(a:Edit × Tree × Unit):V U:= .tup [(true,(enc .tree (ZhQ a.1 (Z0m false a.1 a.2.1)))),(false,[.bool ((Z25 (Z0m false a.1 a.2.1)).isSome)])]
def Zne:Fs U:=fs Zbk (fun a=> [Z4y a]) Z4u
def ZlO:Zg U:=lvk [([0],[]),([0,4],[]),([(2,[.wr .u64])],[]),([(2,[.wr .u64])],[])]
abbrev ZHt(p:List Nat):=AW (ZeR Zmg) Tryz.f64 ZlO p
theorem ZBb(l:List Int)(Q:QT)(h:(((l=[])->(Q .ret (⟨[(2,.c (.mref (.e 2 0)))],[],[(.e 2 0,LC.mk (U:=U) .u64 [] 0)]⟩:LSt U)))/\(True->((([]:List Int).length+l.length)*8<=140737488355328)/\(Q .ret (⟨[(2,.c (.mref (.e 2 0)))],[],[(.e 2 0,LC.mk (U:=U) .u64 (([]:List Int)++l) (([]:List Int).length))]⟩:LSt U))))):
  ZHt [] (L2 [(0,.c (sU .u64 l .unk))] []) Q:=
 Eq.mpr V5 h
def ZvX(l:List Int):Prop:=AW (ZeR Zmg) Tryz.f64 ZlO [] (Zi (Zvm.can (l,())) []) (Z3B cfg Tryz.f64.ntmps Tryz.f64.results.toList (.c (.mref (.r 0 0))) [] [(.r 0 0,LC.mk (U:=U) .u64 (Z8G (l,())) 0)])
theorem Ztn(hb:∀ (l:List Int) (_:Unit),Zjt (l,())->ZvX l):CT 64 Z3I:=
 Z5U (l:=[]) Zk rfl trivial ZlO Tryz.func64 rfl rfl 1 (fun _=> rfl) V2 (fun ⟨l,_⟩=> hb l ())
def ZtG:Zg U:=lvk [([0],[]),([0,4],[]),([(2,[.wr .tree])],[]),([(2,[.wr .tree])],[])]
abbrev ZJg(p:List Nat):=AW (ZeR Zmg) Tryz.f139 ZtG p
theorem ZFV(l:List Tree)(Q:QT)(h:(((l=[])->(Q .ret (⟨[(2,.c (.mref (.e 2 0)))],[],[(.e 2 0,LC.mk (U:=U) .tree [] 0)]⟩:LSt U)))/\(True->((([]:List Tree).length+l.length)*56<=140737488355328)/\(Q .ret (⟨[(2,.c (.mref (.e 2 0)))],[],[(.e 2 0,LC.mk (U:=U) .tree (([]:List Tree)++l) (([]:List Tree).length))]⟩:LSt U))))):
  ZJg [] (L2 [(0,.c (sU .tree l .unk))] []) Q:=
 Eq.mpr V5 h
def ZzA(l:List Tree):Prop:=AW (ZeR Zmg) Tryz.f139 ZtG [] (Zi (Zph.can (l,())) []) (Z3B cfg Tryz.f139.ntmps Tryz.f139.results.toList (.c (.mref (.r 0 0))) [] [(.r 0 0,LC.mk (U:=U) .tree (ZcA (l,())) 0)])
theorem ZxP(hb:∀ (l:List Tree) (_:Unit),Zed (l,())->ZzA l):CT 139 Z5Z:=
 Z5U (l:=[]) Zk rfl trivial ZtG Tryz.func139 rfl rfl 1 (fun _=> rfl) V2 (fun ⟨l,_⟩=> hb l ())
def Zb2(N:Nat):List (FuncId × Fs U):=(63,fs Zbk (fun a=> [Z3O a,Zfy a < N]) Z5d) ::(100,fs Zbk (fun a=> [Z4z a,ZbQ a < N]) Z4v) ::(101,fs Zbk (fun a=> [Z4y a,ZbQ a < N]) Z4u) ::[(47,YX),(81,Z1F),(45,Z0v),(140,Z5Y),(139,Z5Z),(136,Z4m),(64,Z3I)]
def ZCK:Zg U:=lvl [([2,3,4],[2,3,4]),([2,3,4,7],[2,3,4]),([2,3,4,7,8],[2,3,4]),([4,5],[4]),([2,3,4,7,11],[2,3,4]),([4,5],[4]),([2,3,4,7,19],[2,3,4]),([4,5],[4]),([2,3,4,26],[2,3,4]),([4,5],[4]),([4,5],[4])]
abbrev A63(N:Nat)(p:List Nat):=AW (Z2 (Zb2 N)) Tryz.f63 ZCK p
theorem ZHV(N:Nat)(e:Edit)(t:Tree)(Q:QT)(h:∀ s,s=e->∀ d,d=t->∀ u,u=(e.old)->(iB (e.kind==0) ((Q .ret (L2 [pL 4,pB 5 true] [(.loc 4,(enc .tree t))]))) ((iB (e.kind==1) ((Z39 (u,d,()))/\(Q .ret (L2 [pL 4,pB 5 (Yd (Z3 u) (Z3 d))] [(.loc 4,(enc .tree e.new))]))) ((iB (e.kind==2) ((Z4z (s,d,()))/\(ZbQ (s,d,()) < N)/\(Q .ret (L2 [pL 4,pB 5 ((Z2q false s d).isSome)] [(.loc 4,(enc .tree (Jn (Z2q false s d))))]))) ((iB (e.kind==3) ((Z4y (s,d,()))/\(ZbQ (s,d,()) < N)/\(Q .ret (L2 [pL 4,pB 5 ((Z25 (Z0m false s d)).isSome)] [(.loc 4,(enc .tree (ZhQ s (Z0m false s d))))]))) ((Q .ret (L2 [pL 4,pB 5 false] [(.loc 4,[ci 0,.nils,.nils])]))))))))))):
  A63 N [] (L2 [(0,.agg (enc .edit e)),(1,.agg (enc .tree t))] []) Q:=
 Eq.mpr V5 (h _ (Z8 _) _ (Z0 _) _ (Z0 _))
def ZEF(N:Nat)(e:Edit)(t:Tree):Prop:=AW (Z2 (Zb2 N)) Tryz.f63 ZCK [] (Zi (Zbk.can (e,t,())) []) (EQ Tryz.f63 (Z5d (e,t,())) [])
abbrev ZHg:Prop:=∀ (N:Nat) (e:Edit) (t:Tree) (_:Unit),Z3O (e,t,())->Zfy (e,t,()) < N+1->ZEF N e t
def Zoh:Zg U:=lvk [([2,3,4],[2,3,4]),([2,3,4,16],[2,3,4]),([4,5],[4]),([2,3,4,6],[2,3,4,((.loc 6),[.any,.wr .u64,.wr .tree])]),([2,3,4,6,26,27,28],[2,3,4,((.loc 6),[.any,.wr .u64,.wr .tree])]),([2,3,4,6,26,27,28,29],[2,3,4,((.loc 6),[.any,.wr .u64,.wr .tree])]),([2,3,4,6,8,26,27,28],[2,3,4,((.loc 6),[.any,.wr .u64,.wr .tree]),8]),([2,3,4,6,8,9,26,27,28],[2,3,4,((.loc 6),[.any,.wr .u64,.wr .tree]),8]),([2,3,4,6,8,9,26,27,28,42],[2,3,4,((.loc 6),[.any,.wr .u64,.wr .tree]),8]),([4,5],[4]),([2,3,4,6,8,9,26,27,28,42,49],[2,3,4,((.loc 6),[.any,.wr .u64,.wr .tree]),8]),([2,3,4,6,8,9,26,27,28,42],[2,3,4,((.loc 6),[.any,.wr .u64,.wr .tree]),8]),([2,3,4,6,26,27,28],[2,3,4,((.loc 6),[.any,.wr .u64,.wr .tree])]),([2,3,4,6,26,27,28],[2,3,4,((.loc 6),[.any,.wr .u64,.wr .tree])]),([3,4,6,68,69,70],[3,4,((.loc 6),[.any,.wr .u64,.wr .tree])]),([3,4,6,68,69,70,71],[3,4,((.loc 6),[.any,.wr .u64,.wr .tree])]),([3,4,6,11,68,69,70],[3,4,((.loc 6),[.any,.wr .u64,.wr .tree]),11]),([3,4,6,11,12,13,68,69,70],[3,4,((.loc 6),[.any,.wr .u64,.wr .tree]),11,12]),([3,4,6,11,12,68,69,70,85],[3,4,((.loc 6),[.any,.wr .u64,.wr .tree]),11,12]),([4,5],[4]),([3,4,6,11,12,68,69,70,85,92],[3,4,((.loc 6),[.any,.wr .u64,.wr .tree]),11,12]),([3,4,6,11,12,68,69,70,85],[3,4,((.loc 6),[.any,.wr .u64,.wr .tree]),11,12]),([3,4,6,68,69,70],[3,4,((.loc 6),[.any,.wr .u64,.wr .tree])]),([3,4,6,68,69,70],[3,4,((.loc 6),[.any,.wr .u64,.wr .tree])]),([4,5],[4])]
def Z6M(e:Edit)(t:Tree)(h:Int)(d:List Int):LSt U:=(⟨[pL 2,pL 3,pL 4,pL 6,(26,.c (sU .wedit e.words .unk)),pI 27 (e.words.length:Int),pI 28 h],[(.loc 2,(enc .edit e)),(.loc 3,(enc .tree t)),(.loc 4,[ci 0,.nils,.nils]),(.loc 6,[ci 1,.mref (.l 6 1),.mref (.l 6 2)])],[(.l 6 1,LC.mk (U:=U) .u64 d 0),(.l 6 2,LC.mk (U:=U) .tree t.kids 0)]⟩:LSt U)
def Z6L(e:Edit)(t:Tree)(d:Int)(h:List Int):LSt U:=(⟨[pL 2,pL 3,pL 4,pL 6,pL 8,(9,.c (.int .u64 (Zw (Tree.mk t.kind t.words t.kids) (WEdit.at_ (e.words.getD d.toNat (WEdit.mk 0 0 0 0)))))),(26,.c (sU .wedit e.words .unk)),pI 27 (e.words.length:Int),pI 28 d,(42,.c (.bool (((mix 0 (Zw (Tree.mk t.kind t.words t.kids) (WEdit.at_ (e.words.getD d.toNat (WEdit.mk 0 0 0 0)))) (WEdit.mask (e.words.getD d.toNat (WEdit.mk 0 0 0 0)))):Int) !=(WEdit.old (e.words.getD d.toNat (WEdit.mk 0 0 0 0))))))],[(.loc 2,(enc .edit e)),(.loc 3,(enc .tree t)),(.loc 4,[ci 0,.nils,.nils]),(.loc 6,[ci 1,.mref (.l 6 1),.mref (.l 6 2)]),(.loc 8,(enc .wedit (e.words.getD d.toNat (WEdit.mk 0 0 0 0))))],[(.l 6 1,LC.mk (U:=U) .u64 h 0),(.l 6 2,LC.mk (U:=U) .tree t.kids 0)]⟩:LSt U)
def Z6K(e:Edit)(t:Tree)(h:List Int)(s:Int)(d:List Tree):LSt U:=(⟨[pL 3,pL 4,pL 6,(68,.c (sU .kid e.kids .unk)),pI 69 (e.kids.length:Int),pI 70 s],[(.loc 3,(enc .tree t)),(.loc 4,[ci 0,.nils,.nils]),(.loc 6,[ci 1,.mref (.l 6 1),.mref (.l 6 2)])],[(.l 6 1,LC.mk (U:=U) .u64 h 0),(.l 6 2,LC.mk (U:=U) .tree d 0)]⟩:LSt U)
def Z6J(e:Edit)(t:Tree)(s:List Int)(d:Int)(h:List Tree):LSt U:=(⟨[pL 3,pL 4,pL 6,pL 11,pL 12,(68,.c (sU .kid e.kids .unk)),pI 69 (e.kids.length:Int),pI 70 d,(85,.c (.bool (!((doE false (Edit.mk (Edit.kind (KidOf.e (e.kids.getD d.toNat (KidOf.mk 0 Edit.nil)))) (Tree.mk (Tree.kind (Edit.old (KidOf.e (e.kids.getD d.toNat (KidOf.mk 0 Edit.nil))))) (Tree.words (Edit.old (KidOf.e (e.kids.getD d.toNat (KidOf.mk 0 Edit.nil))))) (Tree.kids (Edit.old (KidOf.e (e.kids.getD d.toNat (KidOf.mk 0 Edit.nil)))))) (Tree.mk (Tree.kind (Edit.new (KidOf.e (e.kids.getD d.toNat (KidOf.mk 0 Edit.nil))))) (Tree.words (Edit.new (KidOf.e (e.kids.getD d.toNat (KidOf.mk 0 Edit.nil))))) (Tree.kids (Edit.new (KidOf.e (e.kids.getD d.toNat (KidOf.mk 0 Edit.nil)))))) (Edit.words (KidOf.e (e.kids.getD d.toNat (KidOf.mk 0 Edit.nil)))) (Edit.kids (KidOf.e (e.kids.getD d.toNat (KidOf.mk 0 Edit.nil)))) (Edit.list (KidOf.e (e.kids.getD d.toNat (KidOf.mk 0 Edit.nil)))) (Edit.ops (KidOf.e (e.kids.getD d.toNat (KidOf.mk 0 Edit.nil))))) (Tree.mk (Tree.kind (ZI (Tree.mk t.kind t.words t.kids) (KidOf.at_ (e.kids.getD d.toNat (KidOf.mk 0 Edit.nil))))) (Tree.words (ZI (Tree.mk t.kind t.words t.kids) (KidOf.at_ (e.kids.getD d.toNat (KidOf.mk 0 Edit.nil))))) (Tree.kids (ZI (Tree.mk t.kind t.words t.kids) (KidOf.at_ (e.kids.getD d.toNat (KidOf.mk 0 Edit.nil))))))).isSome))))],[(.loc 3,(enc .tree t)),(.loc 4,[ci 0,.nils,.nils]),(.loc 6,[ci 1,.mref (.l 6 1),.mref (.l 6 2)]),(.loc 11,(enc .kid (e.kids.getD d.toNat (KidOf.mk 0 Edit.nil)))),(.loc 12,(enc .tree (Zcl (Edit.mk (Edit.kind (KidOf.e (e.kids.getD d.toNat (KidOf.mk 0 Edit.nil)))) (Tree.mk (Tree.kind (Edit.old (KidOf.e (e.kids.getD d.toNat (KidOf.mk 0 Edit.nil))))) (Tree.words (Edit.old (KidOf.e (e.kids.getD d.toNat (KidOf.mk 0 Edit.nil))))) (Tree.kids (Edit.old (KidOf.e (e.kids.getD d.toNat (KidOf.mk 0 Edit.nil)))))) (Tree.mk (Tree.kind (Edit.new (KidOf.e (e.kids.getD d.toNat (KidOf.mk 0 Edit.nil))))) (Tree.words (Edit.new (KidOf.e (e.kids.getD d.toNat (KidOf.mk 0 Edit.nil))))) (Tree.kids (Edit.new (KidOf.e (e.kids.getD d.toNat (KidOf.mk 0 Edit.nil)))))) (Edit.words (KidOf.e (e.kids.getD d.toNat (KidOf.mk 0 Edit.nil)))) (Edit.kids (KidOf.e (e.kids.getD d.toNat (KidOf.mk 0 Edit.nil)))) (Edit.list (KidOf.e (e.kids.getD d.toNat (KidOf.mk 0 Edit.nil)))) (Edit.ops (KidOf.e (e.kids.getD d.toNat (KidOf.mk 0 Edit.nil))))) (Tree.mk (Tree.kind (ZI (Tree.mk t.kind t.words t.kids) (KidOf.at_ (e.kids.getD d.toNat (KidOf.mk 0 Edit.nil))))) (Tree.words (ZI (Tree.mk t.kind t.words t.kids) (KidOf.at_ (e.kids.getD d.toNat (KidOf.mk 0 Edit.nil))))) (Tree.kids (ZI (Tree.mk t.kind t.words t.kids) (KidOf.at_ (e.kids.getD d.toNat (KidOf.mk 0 Edit.nil)))))))))],[(.l 6 1,LC.mk (U:=U) .u64 s 0),(.l 6 2,LC.mk (U:=U) .tree h 0)]⟩:LSt U)
abbrev ZiC(N:Nat)(p:List Nat):=AW (Z2 (Zb2 N)) Tryz.f100 Zoh p
abbrev Z6Z(N:Nat)(p:List Nat):=SW (Z2 (Zb2 N)) Tryz.f100 Zoh p
theorem ZGi(N:Nat)(e:Edit)(t:Tree)(Q:QT)(h:(iB (t.kind !=1) ((Q .ret (L2 [pL 4,pB 5 false] [(.loc 4,[ci 0,.nils,.nils])]))) ((Zjt (t.words,()))/\(Zed (t.kids,()))/\(Zl (ZiC N [1,1,1,0,1,0,0]) (Z6M e t 0 t.words) (xB 0 (Z6Z N [1,1,1,1] Q)))))):
  ZiC N [] (L2 [(0,.agg (enc .edit e)),(1,.agg (enc .tree t))] []) Q:=
 Eq.mpr V5 h
theorem ZrJ(N:Nat)(e:Edit)(t:Tree)(u:Int)(d:List Int)(N0:NT)(Q:QT)(h:∀ aa,aa=t->∀ s,s=(e.words.getD u.toNat (WEdit.mk 0 0 0 0))->(iB (decide (u < (e.words.length:Int))) (((0:Int)<=u/\u < (e.words.length:Int))/\((Z4O (aa,s.at_,()))/\((ZbG (0,(Zw aa s.at_),s.mask,()))/\(iB (((mix 0 (Zw aa s.at_) s.mask):Int) !=s.old) ((Q .ret (L2 [pL 4,pB 5 false] [(.loc 4,[ci 0,.nils,.nils])]))) (Zl (ZiC N [1,1,1,0,1,0,0,1,1,0,0,1,1,1,0,0,0]) (Z6L e t u d) (xB 2 (Z6Z N [1,1,1,0,1,0,0,1,1,0,0,1,1,1,1] (xB 1 (Z6Z N [1,1,1,0,1,0,0,1,1,1] (xT N0 (xB 0 (Z6Z N [1,1,1,1] Q)))))))))))) ((Zl (ZiC N [1,1,1,1,0,1,0,0]) (Z6K e t d 0 t.kids) (xB 4 (Z6Z N [1,1,1,1,1] Q)))))):
  ZiC N [1,1,1,0,1,0,0] (Z6M e t u d) (xT N0 (xB 0 (Z6Z N [1,1,1,1] Q))):=
 Eq.mpr V5 (h _ (Z0 _) _ rfl)
theorem ZrI(N:Nat)(e:Edit)(t:Tree)(s:Int)(d:List Int)(N1 N0:NT)(Q:QT)(h:let z0:=e.words.getD s.toNat (WEdit.mk 0 0 0 0);let z1:=Zw (Tree.mk t.kind t.words t.kids) (WEdit.at_ z0);(iB (decide (((d.length:Int):Int)<=(WEdit.at_ z0))) (((d.length+([0]).length)*8<=140737488355328)/\(N1 (Z6L e t s (d++([0]))))) ((ZbG (z1,(WEdit.new z0),(WEdit.mask z0),()))/\((0:Int)<=(WEdit.at_ z0)/\(WEdit.at_ z0) < (d.length:Int))/\((0:Nat)<=(Int.toNat (WEdit.at_ z0)))/\((InR (s+1))/\(N0 (Z6M e t (s+1) (List.set d (Int.toNat (WEdit.at_ z0)) (mix z1 (WEdit.new z0) (WEdit.mask z0))))))))):
  ZiC N [1,1,1,0,1,0,0,1,1,0,0,1,1,1,0,0,0] (Z6L e t s d) (xT N1 (xB 2 (Z6Z N [1,1,1,0,1,0,0,1,1,0,0,1,1,1,1] (xB 1 (Z6Z N [1,1,1,0,1,0,0,1,1,1] (xT N0 (xB 0 (Z6Z N [1,1,1,1] Q)))))))):=
 Eq.mpr V5 h
theorem ZrH(N:Nat)(e:Edit)(t:Tree)(u:List Int)(d:Int)(s:List Tree)(N2:NT)(Q:QT)(h:∀ af,af=t->∀ ab,ab=(e.kids.getD d.toNat (KidOf.mk 0 Edit.nil))->∀ aa,aa=(ab.e)->∀ ae,ae=(ZI af ab.at_)->(iB (decide (d < (e.kids.length:Int))) (((0:Int)<=d/\d < (e.kids.length:Int))/\((Z4O (af,ab.at_,()))/\(Z3O (aa,ae,()))/\(Zfy (aa,ae,()) < N)/\(iB (!((doE false aa ae).isSome)) ((Q .ret (L2 [pL 4,pB 5 false] [(.loc 4,[ci 0,.nils,.nils])]))) (Zl (ZiC N [1,1,1,1,0,1,0,0,1,1,0,0,1,1,1,0,0,0]) (Z6J e t u d s) (xB 6 (Z6Z N [1,1,1,1,0,1,0,0,1,1,0,0,1,1,1,1] (xB 5 (Z6Z N [1,1,1,1,0,1,0,0,1,1,1] (xT N2 (xB 4 (Z6Z N [1,1,1,1,1] Q))))))))))) ((Q .ret (L2 [pL 4,pB 5 true] [(.loc 4,[ci 1,sU .u64 u (.own (.l 4 1)),sU .tree s (.own (.l 4 2))])]))))):
  ZiC N [1,1,1,1,0,1,0,0] (Z6K e t u d s) (xT N2 (xB 4 (Z6Z N [1,1,1,1,1] Q))):=
 Eq.mpr V5 (h _ (Z0 _) _ rfl _ (Z8 _) _ (Z0 _))
theorem ZrG(N:Nat)(e:Edit)(t:Tree)(u:List Int)(s:Int)(d:List Tree)(N3 N2:NT)(Q:QT)(h:∀ af,af=t->∀ aa,aa=(e.kids.getD s.toNat (KidOf.mk 0 Edit.nil))->∀ ae,ae=(aa.e)->∀ ah,ah=(ZI af aa.at_)->∀ ab,ab=(Zcl ae ah)->(iB (decide (((d.length:Int):Int)<=aa.at_)) (((d.length+([(Tree.mk 0 [] [])]).length)*56<=140737488355328)/\(N3 (Z6J e t u s (d++([(Tree.mk 0 [] [])]))))) (((0:Int)<=aa.at_/\aa.at_ < (d.length:Int))/\((0:Nat)<=(Int.toNat aa.at_))/\((InR (s+1))/\(N2 (Z6K e t u (s+1) (List.set d (Int.toNat aa.at_) ab))))))):
  ZiC N [1,1,1,1,0,1,0,0,1,1,0,0,1,1,1,0,0,0] (Z6J e t u s d) (xT N3 (xB 6 (Z6Z N [1,1,1,1,0,1,0,0,1,1,0,0,1,1,1,1] (xB 5 (Z6Z N [1,1,1,1,0,1,0,0,1,1,1] (xT N2 (xB 4 (Z6Z N [1,1,1,1,1] Q)))))))):=
 Eq.mpr V5 (h _ (Z0 _) _ rfl _ (Z8 _) _ (Z0 _) _ (Z0 _))
def ZzX(N:Nat)(e:Edit)(t:Tree):Prop:=AW (Z2 (Zb2 N)) Tryz.f100 Zoh [] (Zi (Zbk.can (e,t,())) []) (EQ Tryz.f100 (Z4v (e,t,())) [])
abbrev ZB4:Prop:=∀ (N:Nat) (e:Edit) (t:Tree) (_:Unit),Z4z (e,t,())->ZbQ (e,t,()) < N+1->ZzX N e t
def Zog:Zg U:=lvk [([2,3,4],[2,3,4]),([2,3,4,18],[2,3,4]),([4,5],[4]),([2,3,4,6],[2,3,4,6]),([2,4,6,7],[2,4,6]),([4,6,7,26,27,28],[4,((.loc 6),[.any,.any,.own .tree])]),([4,6,7,26,27,28,29],[4,6]),([4,6,7,9,26,27,28],[4,6,9]),([4,6,7,9,10,26,27,28],[4,6,9]),([4,6,7,9,10,26,27,28,35],[4,6,9]),([4,6,7,9,10,26,27,28,35,36],[4,6,9]),([4,6,7,26,27,28,97],[4,6]),([4,6,7,9,10,26,27,28,35,44],[4,6,9]),([4,6,7,9,10,26,27,28,49],[4,6,9]),([4,6,7,9,10,26,27,28,49],[4,6,9]),([4,6,7,9,10,26,27,28,49],[4,6,9]),([4,6,7,9,10,26,27,28,54],[4,6,9]),([4,5],[4]),([4,6,7,9,10,26,27,28],[4,6,9]),([4,6,7,9,11,26,27,28],[4,6,9]),([4,6,7,12,13,26,27,28],[4,6,12]),([4,6,7,12,26,27,28,72],[4,6,12]),([4,5],[4]),([4,6,7,26,27,28,97],[4,6]),([4,6,7,9,11,26,27,28,80],[4,6,9]),([4,6,7,26,27,28,97],[4,6]),([4,6,7,9,11,26,27,28,89],[4,6,9]),([4,6,7,26,27,28,97],[4,6]),([4,5],[4]),([4,6,7,26,27,28],[4,((.loc 6),[.any,.any,.own .tree])]),([4,5],[4])]
def Z1l(e:Edit)(t:Tree)(h:Int)(s d:List Tree):LSt U:=(L2 [pL 4,pL 6,(7,.c (sU .tree s .unk)),(26,.c (sU .op e.ops .unk)),pI 27 (e.ops.length:Int),pI 28 h] [(.loc 4,[ci 0,.nils,.nils]),(.loc 6,[ci t.kind,.nils,sU .tree d (.own (.l 6 2))])])
def Z2n(e:Edit)(t:Tree)(u:Int)(s d:List Tree)(h:V U):LSt U:=(L2 [pL 4,pL 6,(7,.c (sU .tree s .unk)),(26,.c (sU .op e.ops .unk)),pI 27 (e.ops.length:Int),pI 28 u,(97,h)] [(.loc 4,[ci 0,.nils,.nils]),(.loc 6,[ci t.kind,.nils,sU .tree d (.own (.l 6 2))])])
def Z6I(e:Edit)(t:Tree)(u:Int)(x7 h:List Tree)(s:Int)(d:V U):LSt U:=(L2 [pL 4,pL 6,(7,.c (sU .tree x7 .unk)),pL 9,pI 10 s,(26,.c (sU .op e.ops .unk)),pI 27 (e.ops.length:Int),pI 28 u,(49,d)] [(.loc 4,[ci 0,.nils,.nils]),(.loc 6,[ci t.kind,.nils,sU .tree h (.own (.l 6 2))]),(.loc 9,(enc .op (e.ops.getD u.toNat Op.nil)))])
abbrev Zbm(N:Nat)(p:List Nat):=AW (Z2 (Zb2 N)) Tryz.f101 Zog p
abbrev ZiB(N:Nat)(p:List Nat):=SW (Z2 (Zb2 N)) Tryz.f101 Zog p
theorem ZGh(N:Nat)(e:Edit)(t:Tree)(Q:QT)(h:(iB (t.kind !=e.list) ((Q .ret (L2 [pL 4,pB 5 false] [(.loc 4,[ci 0,.nils,.nils])]))) ((Zl (Zbm N [1,1,1,1,0,1,0,0]) (Z1l e t 0 t.kids []) (xB 0 (ZiB N [1,1,1,1,1] Q)))))):
  Zbm N [] (L2 [(0,.agg (enc .edit e)),(1,.agg (enc .tree t))] []) Q:=
 Eq.mpr V5 h
theorem ZrE(N:Nat)(e:Edit)(t:Tree)(u:Int)(x7 d:List Tree)(N0:NT)(Q:QT)(h:∀ s,s=(e.ops.getD u.toNat Op.nil)->let z1:=xT N0 (xB 0 (ZiB N [1,1,1,1,1] Q));let z0:=xB 1 (ZiB N [1,1,1,1,0,1,0,0,1,1,1] z1);(iB (decide (u < (e.ops.length:Int))) (((0:Int)<=u/\u < (e.ops.length:Int))/\(iB (s.kind==2) (((d.length+s.l.length)*56<=140737488355328)/\(Zbm N [1,1,1,1,0,1,0,0,1,1,1] (Z2n e t u x7 (d++s.l) .junk) z1)) ((iB (s.kind==1) ((Zbm N [1,1,1,1,0,1,0,0,1,1,0,0,1,1,1] (Z6I e t u x7 d (s.l.length:Int) .junk) z0)) ((iB (s.kind==3) ((Zbm N [1,1,1,1,0,1,0,0,1,1,0,0,1,1,1] (Z6I e t u x7 d 1 (.c (.bool (s.kind==3)))) z0)) (Zbm N [1,1,1,1,0,1,0,0,1,1,0,0,1,1,1] (Z6I e t u x7 d s.n (.c (.bool (s.kind==3)))) z0))))))) ((Q .ret (L2 [pL 4,pB 5 (((x7.length:Int):Int)==0)] [(.loc 4,[ci t.kind,.nils,sU .tree d (.own (.l 4 2))])]))))):
  Zbm N [1,1,1,1,0,1,0,0] (Z1l e t u x7 d) (xT N0 (xB 0 (ZiB N [1,1,1,1,1] Q))):=
 Eq.mpr V5 (h _ rfl)
theorem ZrF(N:Nat)(e:Edit)(t:Tree)(u:Int)(s d:List Tree)(aa:V U)(N0:NT)(Q:QT)(h:(InR (u+1))/\(N0 (Z1l e t (u+1) s d))):
  Zbm N [1,1,1,1,0,1,0,0,1,1,1] (Z2n e t u s d aa) (xT N0 (xB 0 (ZiB N [1,1,1,1,1] Q))):=
 Eq.mpr V5 h
theorem ZcS(N:Nat)(e:Edit)(t:Tree)(aa:Int)(x7 s:List Tree)(d:Int)(ah:V U)(N0:NT)(Q:QT)(h:∀ u,u=(e.ops.getD aa.toNat Op.nil)->∀ ak,ak=(List.getD (List.take d.toNat x7) (Int.toNat 0) Tree.nil)->∀ ab,ab=ak->∀ ae,ae=(u.e)->∀ ai,ai=(eqX (Z9 u.l) (Z9 (List.take d.toNat x7)))->∀ aj,aj=(Zcl ae ab)->let z3:=List.drop d.toNat x7;let z2:=List.take d.toNat x7;let z1:=xT N0 (xB 0 (ZiB N [1,1,1,1,1] Q));let z0:=(Q .ret (L2 [pL 4,pB 5 false] [(.loc 4,[ci 0,.nils,.nils])]));(iB (decide (((x7.length:Int):Int) < d)) z0 ((((0:Int)<=d/\d<=(x7.length:Int))/\((0:Int)<=d/\d<=(x7.length:Int))/\(iB (u.kind==0) (((s.length+z2.length)*56<=140737488355328)/\(Zbm N [1,1,1,1,0,1,0,0,1,1,1] (Z2n e t aa z3 (s++z2) .junk) z1)) ((iB (u.kind==1) ((Zec (u.l,z2,(),()))/\(iB (!ai) z0 (Zbm N [1,1,1,1,0,1,0,0,1,1,1] (Z2n e t aa z3 s (.c (.bool (!ai)))) z1))) (((0:Int)<=0/\0 < (z2.length:Int))/\(Z3O (ae,ab,()))/\(Zfy (ae,ab,()) < N)/\(iB (!((doE false ae ab).isSome)) z0 (((s.length+([aj]).length)*56<=140737488355328)/\(Zbm N [1,1,1,1,0,1,0,0,1,1,1] (Z2n e t aa z3 (s++([aj])) .junk) z1))))))))))):
  Zbm N [1,1,1,1,0,1,0,0,1,1,0,0,1,1,1] (Z6I e t aa x7 s d ah) (xB 1 (ZiB N [1,1,1,1,0,1,0,0,1,1,1] (xT N0 (xB 0 (ZiB N [1,1,1,1,1] Q))))):=
 Eq.mpr V5 (h _ rfl _ rfl _ (Z0 _) _ (Z8 _) _ rfl _ (Z0 _))
def ZzW(N:Nat)(e:Edit)(t:Tree):Prop:=AW (Z2 (Zb2 N)) Tryz.f101 Zog [] (Zi (Zbk.can (e,t,())) []) (EQ Tryz.f101 (Z4u (e,t,())) [])
abbrev ZB3:Prop:=∀ (N:Nat) (e:Edit) (t:Tree) (_:Unit),Z4y (e,t,())->ZbQ (e,t,()) < N+1->ZzW N e t
theorem Zxs(c47:CT 47 YX)(c81:CT 81 Z1F)(c45:CT 45 Z0v)(ZDr:CT 140 Z5Y)(ZDs:CT 139 Z5Z)(Zif:CT 136 Z4m)(Zv3:CT 64 Z3I)(b63:ZHg)(ZDS:ZB4)(ZDR:ZB3):
  CT 63 Zay/\CT 100 Znf/\CT 101 Zne:=by
 have aa:FK 63:=⟨Tryz.f63,Tryz.func63,rfl,rfl⟩
 have d:FK 100:=⟨Tryz.f100,Tryz.func100,rfl,rfl⟩
 have s:FK 101:=⟨Tryz.f101,Tryz.func101,rfl,rfl⟩
 have u:∀ N,CT 63 (fs Zbk (fun a=> [Z3O a,Zfy a < N]) Z5d)/\CT 100 (fs Zbk (fun a=> [Z4z a,ZbQ a < N]) Z4v)/\CT 101 (fs Zbk (fun a=> [Z4y a,ZbQ a < N]) Z4u):=by
  intro N
  induction N with
  | zero=> exact ⟨YQ aa,YQ d,YQ s⟩
  | succ N ih=>
   have kn:=Z03 (l:=Zb2 N) ⟨ih.1,ih.2.1,ih.2.2,c47,c81,c45,ZDr,ZDs,Zif,Zv3,trivial⟩
   exact ⟨ZC (Γ:=Z2 (Zb2 N)) Zk rfl kn ZCK Tryz.func63 rfl rfl (fun a=> by show 2<=_;decide) (fun ⟨e,t,_⟩ h=> b63 N e t () h.1 h.2.1),
    ZC (Γ:=Z2 (Zb2 N)) Zk rfl kn Zoh Tryz.func100 rfl rfl (fun a=> by show 2<=_;decide) (fun ⟨e,t,_⟩ h=> ZDS N e t () h.1 h.2.1),
    ZC (Γ:=Z2 (Zb2 N)) Zk rfl kn Zog Tryz.func101 rfl rfl (fun a=> by show 2<=_;decide) (fun ⟨e,t,_⟩ h=> ZDR N e t () h.1 h.2.1)⟩
 exact ⟨YR aa fun N=> (u N).1,YR d fun N=> (u N).2.1,YR s fun N=> (u N).2.2⟩
end
end Go.AM.YtfapacabjkhepaaGreat
