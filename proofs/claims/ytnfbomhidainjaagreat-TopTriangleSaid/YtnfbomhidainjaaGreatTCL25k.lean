import Derived.Test.YtnfbomhidainjaaGreatTCL25c
import Derived.Test.YtnfbomhidainjaaGreatTKL22r
set_option linter.unusedSimpArgs false
set_option linter.unusedVariables false
namespace Go.AM.YtnfbomhidainjaaGreat
open Go.AM Go.Proofs
theorem Zjz{e:Edit}{d:Int}{x y l:Tree}(hr:Z7 e d=true)(he:Yi e)(hx:RT_ x)(hl:RT_ l)(h:doE false e x=some y)(hy:Eqv y l):∃ z,doE false (Zv (Zp e)) l=some z/\Eqv z x:=by
 obtain ⟨v,hv,ae⟩:=ZcQ e d x y hr he hx h
 have h1:=Z7a (Zp e) d y l (YF e d hr) hy
 have h2:=Zb1 (Zp e) d l (YF e d hr) hl
 rw [hv] at h1
 cases hw:doE false (Zp e) l with
 | none=> rw [hw] at h1;exact h1.elim
 | some w=>
  rw [hw] at h1 h2
  cases hz:doE false (Zv (Zp e)) l with
  | none=> rw [hz] at h2;exact h2.elim
  | some z=>
   rw [hz] at h2
   have h1:Eqv v w:=h1
   have h2:Eqv z w:=h2
   exact ⟨z,rfl,h2.trans (h1.symm.trans ae)⟩
theorem ZjA{e:Edit}{d:Int}{x z l:Tree}(hr:Z7 e d=true)(he:Yi e)(hl:RT_ l)(h:doE false (Zv (Zp e)) l=some z)(hz:Eqv z x):∃ y,doE false e x=some y/\Eqv y l:=by
 have h2:=Zb1 (Zp e) d l (YF e d hr) hl
 rw [h] at h2
 cases hw:doE false (Zp e) l with
 | none=> rw [hw] at h2;exact h2.elim
 | some w=>
  rw [hw] at h2
  have h2:Eqv z w:=h2
  obtain ⟨v,hv,ae⟩:=ZcQ (Zp e) d l w (YF e d hr) (Z3Y e he) hl hw
  rw [Zas] at hv
  have h1:=Z7a e d w x hr (h2.symm.trans hz)
  rw [hv] at h1
  cases hy:doE false e x with
  | none=> rw [hy] at h1;exact h1.elim
  | some y=>
   rw [hy] at h1
   have h1:Eqv v y:=h1
   exact ⟨y,rfl,h1.symm.trans ae⟩
structure ComOk (c:Edit × Bool) (p q:Edit):Prop where
 fwd:∀ {t w},RT_ t->c.2=true->doE false c.1 t=some w->∃ u v,doE false p t=some u/\doE false q u=some v/\Eqv w v
 bwd:∀ {t u v},RT_ t->doE false p t=some u->doE false q u=some v->c.2=true/\∃ w,doE false c.1 t=some w/\Eqv w v
def ROp(o:Op):Prop:=(o.kind=3->(∃ d,Z7 o.e d=true)/\Yi o.e)/\∀ t∈o.l,RT_ t
theorem Ze7{o:Op}{r:List Op}{s d:List Tree}(hk:kOk o):Run (o ::r) s d↔∃ s1 s2 d1 d2,s=s1++s2/\d=d1++d2/\Run [o] s1 d1/\Run r s2 d2:=by
 constructor
 .intro h
  rcases hk with h0 | h1 | h2 | h3
  .obtain ⟨a,s',d',rfl,rfl,hl,hr⟩:=(JC h0.1).1 h
   exact ⟨a,s',a,d',rfl,rfl,(JC h0.1).2 ⟨a,[],[],by simp,by simp,hl,.nil⟩,hr⟩
  .obtain ⟨a,s',rfl,hl,hr⟩:=(Yk h1).1 h
   exact ⟨a,s',[],d,rfl,rfl,(Yk h1).2 ⟨a,[],by simp,hl,.nil⟩,hr⟩
  .obtain ⟨d',rfl,hr⟩:=(Yl h2).1 h
   exact ⟨[],s,o.l,d',rfl,rfl,(Yl h2).2 ⟨[],by simp,.nil⟩,hr⟩
  .obtain ⟨x,s',y,d',rfl,rfl,he,hr⟩:=(Z0j h3).1 h
   exact ⟨[x],s',[y],d',rfl,rfl,.into h3 he .nil,hr⟩
 .rintro ⟨s1,s2,d1,d2,rfl,rfl,h1,h2⟩
  rcases hk with h0 | hg | hc | h3
  .obtain ⟨a,s',d',rfl,rfl,hl,hr⟩:=(JC h0.1).1 h1
   obtain ⟨rfl,rfl⟩:=ZB hr
   rw [Qh]
   exact .keep h0.1 hl h2
  .obtain ⟨a,s',rfl,hl,hr⟩:=(Yk hg).1 h1
   obtain ⟨rfl,rfl⟩:=ZB hr
   rw [Qh]
   exact .gone hg hl h2
  .obtain ⟨d',rfl,hr⟩:=(Yl hc).1 h1
   obtain ⟨rfl,rfl⟩:=ZB hr
   rw [Qh]
   exact .come hc h2
  .obtain ⟨x,s',y,d',rfl,rfl,he,hr⟩:=(Z0j h3).1 h1
   obtain ⟨rfl,rfl⟩:=ZB hr
   exact .into h3 he h2
theorem ZbK{o:Op}{s d:List Tree}(ho:YW o)(hk:o.kind≠1)(h:Run [o] s d):(d.length:Int)=Z5 o:=by
 obtain ⟨m1,s',m',rfl,hl,hr⟩:=ZhU ho hk h
 obtain ⟨_,rfl⟩:=ZB hr
 simpa using hl
theorem Ze6{o:Op}{s d:List Tree}(ho:YW o)(hk:o.kind≠2)(h:Run [o] s d):(s.length:Int)=Z5 o:=by
 obtain ⟨m1,s',m',rfl,hl,hr⟩:=Zmg ho hk h
 obtain ⟨rfl,_⟩:=ZB hr
 simpa using hl
theorem Z8Z{o:Op}{s:List Tree}(h0:o.kind=0)(hl:(s.length:Int)=o.n):Run [o] s s:=
 (JC h0).2 ⟨s,[],[],by simp,by simp,hl,.nil⟩
theorem Z7n{o:Op}{s d:List Tree}(h0:o.kind=0)(h:Run [o] s d):d=s:=by
 obtain ⟨a,s',d',rfl,rfl,hl,hr⟩:=(JC h0).1 h
 obtain ⟨rfl,rfl⟩:=ZB hr
 try rfl
theorem Z2R{l:List Tree}(h:(l.length:Int)=1):l=[l.getD 0 Tree.nil]:=by
 match l,h with
 | [a],_=> rfl
 | [],h=> simp at h
 | a ::b ::r,h=> grind
theorem Zlp{a b c d:List Tree}(h:EqvL a b)(h':EqvL c d):EqvL (a++c) (b++d):=Z10 h h'
theorem Zrn {f:Edit->Edit->Edit × Bool} {p0 q0:List Op} {x:Piece} (hx:POk p0 q0 x) (hp:x.of≠2->ROp x.p) (hq:x.of≠1->ROp x.q) (hf:x.p.kind=3->x.q.kind=3->x.of=0->ComOk (f x.p.e x.q.e) x.p.e x.q.e)
  {s w:List Tree} (hs:∀ t∈s,RT_ t) (aa:(ZA f x).ok=true) (hr:Run (if (ZA f x).is then [(ZA f x).op] else []) s w):
  ∃ m d,Run (if x.of=2 then [] else [x.p]) s m/\Run (if x.of=1 then [] else [x.q]) m d/\EqvL w d:=by
 rcases hx.of with h0 | h1 | h2
 .obtain ⟨pk,qk,hl⟩:=hx.both h0
  obtain ⟨_,op⟩:=hx.pp V0
  obtain ⟨_,oq⟩:=hx.qq V0
  have rp:=hp V0
  have rq:=hq V0
  rw [Yo,Yo]
  by_cases kq0:x.q.kind=0
  .have e:ZA f x=⟨x.p,true,true⟩:=by unfold ZA;grind
   rw [e] at hr
   exact ⟨w,w,hr,Z8Z kq0 (by rw [ZbK op pk hr,hl,Z9i oq kq0]),rfl⟩
  by_cases kp0:x.p.kind=0
  .have e:ZA f x=⟨x.q,true,true⟩:=by unfold ZA;grind
   rw [e] at hr
   exact ⟨s,w,Z8Z kp0 (by rw [Ze6 oq qk hr,<-hl,Z9i op kp0]),hr,rfl⟩
  by_cases k21:x.p.kind=2/\x.q.kind=1
  .have lp:=YP op (.inr k21.1)
   have lq:=YP oq (.inl k21.2)
   have e:ZA f x=⟨Op.nil,false,ZiT x.p.l (x.q.l.take x.p.l.length)⟩:=by unfold ZA;rw [Yo,Yo,if_pos k21]
   rw [e] at hr aa
   obtain ⟨rfl,rfl⟩:=ZB hr
   have aa:ZiT x.p.l (x.q.l.take x.p.l.length)=true:=aa
   unfold ZiT at aa
   rw [Z3y,Qs V0] at aa
   exact ⟨x.p.l,[],(Yl k21.1).2 ⟨[],by simp,.nil⟩,(Yk k21.2).2 ⟨x.p.l,[],by simp,aa.symm,.nil⟩,rfl⟩
  by_cases kp2:x.p.kind=2
  .have af:x.q.kind=3:=by rcases Yx oq with h | h | h | h <;> omega
   have lp:=YP op (.inr kp2)
   rw [hl,Z0O af] at lp
   have e:ZA f x=⟨⟨2,0,[(doB x.q.e (x.p.l.getD 0 Tree.nil)).1],Edit.nil⟩,true,(doB x.q.e (x.p.l.getD 0 Tree.nil)).2⟩:=by unfold ZA;rw [Yo,Yo,if_neg k21,if_pos kp2]
   rw [e] at hr aa
   have a8:=Z2R lp.symm
   cases hy:doE false x.q.e (x.p.l.getD 0 Tree.nil) with
   | none=> unfold doB at aa;grind
   | some y=>
    have e2:(doB x.q.e (x.p.l.getD 0 Tree.nil)).1=Z0 y:=by unfold doB;rw [hy];try rfl
    rw [e2] at hr
    obtain ⟨d',rfl,ab⟩:=(Yl (o:=⟨2,0,[Z0 y],Edit.nil⟩) rfl).1 hr
    obtain ⟨rfl,rfl⟩:=ZB ab
    refine ⟨[x.p.l.getD 0 Tree.nil],[y],(Yl kp2).2 ⟨[],by grind,.nil⟩,.into af hy .nil,?_⟩
    show Z4 ([Z0 y]++[])=Z4 [y]
    simp [Z4,YN]
  have ae:x.p.kind=3:=by rcases Yx op with h | h | h | h <;> omega
  by_cases kq1:x.q.kind=1
  .have lq:=YP oq (.inl kq1)
   rw [<-hl,Z0O ae] at lq
   have e:ZA f x=⟨⟨1,0,[(doB (Zv (Zp x.p.e)) (x.q.l.getD 0 Tree.nil)).1],Edit.nil⟩,true,(doB (Zv (Zp x.p.e)) (x.q.l.getD 0 Tree.nil)).2⟩:=by unfold ZA;rw [Yo,Yo,if_neg k21,if_neg kp2,if_pos kq1]
   rw [e] at hr aa
   have aj:=Z2R lq.symm
   have ar:RT_ (x.q.l.getD 0 Tree.nil):=rq.2 _ (by rw [aj];simp)
   cases hz:doE false (Zv (Zp x.p.e)) (x.q.l.getD 0 Tree.nil) with
   | none=> unfold doB at aa;grind
   | some z=>
    have e2:(doB (Zv (Zp x.p.e)) (x.q.l.getD 0 Tree.nil)).1=Z0 z:=by unfold doB;rw [hz];try rfl
    rw [e2] at hr
    obtain ⟨a,s',rfl,hn,ab⟩:=(Yk (o:=⟨1,0,[Z0 z],Edit.nil⟩) rfl).1 hr
    obtain ⟨rfl,rfl⟩:=ZB ab
    have a2:=Z2z hn
    have ak:=Z2R (l:=a) (by grind)
    rw [ak] at hn
    have ao:Eqv z (a.getD 0 Tree.nil):=by
     have:=YX.1 hn
     unfold Eqv
     rw [<-this,YN]
    obtain ⟨⟨dd,rd⟩,re⟩:=rp.1 ae
    obtain ⟨y,hy,am⟩:=ZjA rd re ar hz ao
    refine ⟨[y],[],?_,?_,rfl⟩
    .rw [Qh,ak]
     exact .into ae hy .nil
    .refine (Yk kq1).2 ⟨[y],[],by simp,?_,.nil⟩
     rw [aj]
     exact (YX.2 am).symm
  .have af:x.q.kind=3:=by rcases Yx oq with h | h | h | h <;> omega
   have e:ZA f x=⟨⟨3,0,[],(f x.p.e x.q.e).1⟩,true,(f x.p.e x.q.e).2⟩:=by unfold ZA;grind
   rw [e] at hr aa
   obtain ⟨x0,s',y0,d',rfl,rfl,hd,ab⟩:=(Z0j (o:=⟨3,0,[],(f x.p.e x.q.e).1⟩) rfl).1 hr
   obtain ⟨rfl,rfl⟩:=ZB ab
   obtain ⟨u,v,hu,hv,hw⟩:=(hf ae af h0).fwd (hs x0 (by simp)) aa hd
   exact ⟨[u],[v],.into ae hu .nil,.into af hv .nil,YX.2 hw⟩
 .have e:ZA f x=⟨x.p,true,true⟩:=by unfold ZA;grind
  rw [e] at hr
  rw [Yo,if_pos h1]
  obtain ⟨a,s',rfl,hn,ab⟩:=(Yk (hx.one h1)).1 hr
  obtain ⟨rfl,rfl⟩:=ZB ab
  exact ⟨[],[],(Yk (hx.one h1)).2 ⟨a,[],rfl,hn,.nil⟩,.nil,rfl⟩
 .have e:ZA f x=⟨x.q,true,true⟩:=by unfold ZA;grind
  rw [e] at hr
  rw [if_pos h2,Yo]
  obtain ⟨d',rfl,ab⟩:=(Yl (hx.two h2)).1 hr
  obtain ⟨rfl,rfl⟩:=ZB ab
  exact ⟨[],_,.nil,(Yl (hx.two h2)).2 ⟨[],rfl,.nil⟩,rfl⟩
theorem Zro {f:Edit->Edit->Edit × Bool} {p0 q0:List Op} {x:Piece} (hx:POk p0 q0 x) (hp:x.of≠2->ROp x.p) (hq:x.of≠1->ROp x.q) (hf:x.p.kind=3->x.q.kind=3->x.of=0->ComOk (f x.p.e x.q.e) x.p.e x.q.e)
  {s m d:List Tree} (hs:∀ t∈s,RT_ t) (h1r:Run (if x.of=2 then [] else [x.p]) s m) (h2r:Run (if x.of=1 then [] else [x.q]) m d):
  (ZA f x).ok=true/\∃ w,Run (if (ZA f x).is then [(ZA f x).op] else []) s w/\EqvL w d:=by
 rcases hx.of with h0 | h1 | h2
 .obtain ⟨pk,qk,hl⟩:=hx.both h0
  obtain ⟨_,op⟩:=hx.pp V0
  obtain ⟨_,oq⟩:=hx.qq V0
  have rp:=hp V0
  have rq:=hq V0
  rw [Yo] at h1r h2r
  by_cases kq0:x.q.kind=0
  .have e:ZA f x=⟨x.p,true,true⟩:=by unfold ZA;grind
   rw [e]
   have:=Z7n kq0 h2r
   subst this
   exact ⟨rfl,d,h1r,rfl⟩
  by_cases kp0:x.p.kind=0
  .have e:ZA f x=⟨x.q,true,true⟩:=by unfold ZA;grind
   rw [e]
   have:=Z7n kp0 h1r
   subst this
   exact ⟨rfl,d,h2r,rfl⟩
  by_cases k21:x.p.kind=2/\x.q.kind=1
  .have lp:=YP op (.inr k21.1)
   have lq:=YP oq (.inl k21.2)
   have e:ZA f x=⟨Op.nil,false,ZiT x.p.l (x.q.l.take x.p.l.length)⟩:=by unfold ZA;rw [Yo,Yo,if_pos k21]
   rw [e]
   obtain ⟨d',rfl,aa⟩:=(Yl k21.1).1 h1r
   obtain ⟨rfl,rfl⟩:=ZB aa
   rw [Qh] at h2r
   obtain ⟨a,s',ha,hn,ae⟩:=(Yk k21.2).1 h2r
   obtain ⟨rfl,rfl⟩:=ZB ae
   rw [Qh] at ha
   subst ha
   refine ⟨?_,[],.nil,rfl⟩
   show ZiT x.p.l (x.q.l.take x.p.l.length)=true
   unfold ZiT
   rw [Z3y,Qs V0]
   exact hn.symm
  by_cases kp2:x.p.kind=2
  .have ab:x.q.kind=3:=by rcases Yx oq with h | h | h | h <;> omega
   have lp:=YP op (.inr kp2)
   rw [hl,Z0O ab] at lp
   have e:ZA f x=⟨⟨2,0,[(doB x.q.e (x.p.l.getD 0 Tree.nil)).1],Edit.nil⟩,true,(doB x.q.e (x.p.l.getD 0 Tree.nil)).2⟩:=by unfold ZA;rw [Yo,Yo,if_neg k21,if_pos kp2]
   rw [e]
   have aw:=Z2R lp.symm
   obtain ⟨d',rfl,aa⟩:=(Yl kp2).1 h1r
   obtain ⟨rfl,rfl⟩:=ZB aa
   rw [Qh,aw] at h2r
   obtain ⟨x0,s',y0,d',e1,rfl,hd,aa⟩:=(Z0j ab).1 h2r
   cases e1
   obtain ⟨_,rfl⟩:=ZB aa
   have e2:doB x.q.e (x.p.l.getD 0 Tree.nil)=(Z0 y0,true):=by unfold doB;rw [hd];try rfl
   rw [e2]
   refine ⟨rfl,[Z0 y0],(Yl (o:=⟨2,0,[Z0 y0],Edit.nil⟩) rfl).2 ⟨[],by simp,.nil⟩,?_⟩
   exact YX.2 (YN y0)
  have af:x.p.kind=3:=by rcases Yx op with h | h | h | h <;> omega
  obtain ⟨x0,s',y0,d',rfl,rfl,hd,aa⟩:=(Z0j af).1 h1r
  obtain ⟨rfl,rfl⟩:=ZB aa
  have aj:=hs x0 (by simp)
  obtain ⟨⟨dd,rd⟩,re⟩:=rp.1 af
  by_cases kq1:x.q.kind=1
  .have lq:=YP oq (.inl kq1)
   rw [<-hl,Z0O af] at lq
   have e:ZA f x=⟨⟨1,0,[(doB (Zv (Zp x.p.e)) (x.q.l.getD 0 Tree.nil)).1],Edit.nil⟩,true,(doB (Zv (Zp x.p.e)) (x.q.l.getD 0 Tree.nil)).2⟩:=by unfold ZA;rw [Yo,Yo,if_neg k21,if_neg kp2,if_pos kq1]
   rw [e]
   have ai:=Z2R lq.symm
   have az:RT_ (x.q.l.getD 0 Tree.nil):=rq.2 _ (by rw [ai];simp)
   obtain ⟨a,s2,ha,hn,ae⟩:=(Yk kq1).1 h2r
   obtain ⟨rfl,rfl⟩:=ZB ae
   rw [Qh] at ha
   subst ha
   rw [ai] at hn
   obtain ⟨z,hz,av⟩:=Zjz rd re aj az hd (YX.1 hn).symm
   have e2:doB (Zv (Zp x.p.e)) (x.q.l.getD 0 Tree.nil)=(Z0 z,true):=by unfold doB;rw [hz];try rfl
   rw [e2]
   refine ⟨rfl,[],(Yk (o:=⟨1,0,[Z0 z],Edit.nil⟩) rfl).2 ⟨[x0],[],by simp,?_,.nil⟩,rfl⟩
   refine YX.2 ?_
   rw [YN]
   exact av
  .have ab:x.q.kind=3:=by rcases Yx oq with h | h | h | h <;> omega
   have e:ZA f x=⟨⟨3,0,[],(f x.p.e x.q.e).1⟩,true,(f x.p.e x.q.e).2⟩:=by unfold ZA;grind
   rw [e]
   obtain ⟨x1,s2,y1,d2,e1,rfl,ax,ae⟩:=(Z0j ab).1 h2r
   cases e1
   obtain ⟨_,rfl⟩:=ZB ae
   obtain ⟨c2,w,hw,aq⟩:=(hf af ab h0).bwd aj hd ax
   exact ⟨c2,[w],(Z0j (o:=⟨3,0,[],(f x.p.e x.q.e).1⟩) rfl).2 ⟨x0,[],w,[],rfl,rfl,hw,.nil⟩,YX.2 aq⟩
 .have e:ZA f x=⟨x.p,true,true⟩:=by unfold ZA;grind
  rw [Yo] at h1r
  rw [if_pos h1] at h2r
  rw [e]
  obtain ⟨rfl,rfl⟩:=ZB h2r
  exact ⟨rfl,[],h1r,rfl⟩
 .have e:ZA f x=⟨x.q,true,true⟩:=by unfold ZA;grind
  rw [if_pos h2] at h1r
  rw [Yo] at h2r
  rw [e]
  obtain ⟨rfl,rfl⟩:=ZB h1r
  exact ⟨rfl,d,h2r,rfl⟩
theorem Z4O:∀ {a b:List Op} {s d:List Tree},(∀ o∈a,kOk o)->(Run (a++b) s d↔∃ s1 s2 d1 d2,s=s1++s2/\d=d1++d2/\Run a s1 d1/\Run b s2 d2)
 | [],b,s,d,_=> by
  constructor
  .intro h;exact ⟨[],s,[],d,rfl,rfl,.nil,h⟩
  .rintro ⟨s1,s2,d1,d2,rfl,rfl,h1,h2⟩
   obtain ⟨rfl,rfl⟩:=ZB h1
   exact h2
 | o ::a,b,s,d,hk=> by
  have ho:=hk o Q5
  have ih:=fun s d=> Z4O (a:=a) (b:=b) (s:=s) (d:=d) fun x hx=> hk x (Q3 _ hx)
  rw [Qp,Ze7 ho]
  constructor
  .rintro ⟨s1,s2,d1,d2,rfl,rfl,h1,h2⟩
   obtain ⟨s3,s4,d3,d4,rfl,rfl,h3,h4⟩:=(ih _ _).1 h2
   exact ⟨s1++s3,s4,d1++d3,d4,by grind,by grind,(Ze7 ho).2 ⟨s1,s3,d1,d3,rfl,rfl,h1,h3⟩,h4⟩
  .rintro ⟨s1,s2,d1,d2,rfl,rfl,h1,h2⟩
   obtain ⟨s3,s4,d3,d4,rfl,rfl,h3,h4⟩:=(Ze7 ho).1 h1
   exact ⟨s3,s4++s2,d3,d4++d2,by grind,by grind,h3,(ih _ _).2 ⟨s4,s2,d4,d2,rfl,rfl,h4,h2⟩⟩
theorem Zo3{f:Edit->Edit->Edit × Bool}{p0 q0:List Op}{x:Piece}(hx:POk p0 q0 x):kOk (ZA f x).op:=by
 unfold ZA
 split
 .rename_i h
  exact Yx (hx.pp V0).2
 .split
  .rename_i h1 d
   refine Yx (hx.qq ?_).2
   omega
  .split
   .exact .inl ⟨rfl,Xe 0⟩
   .split
    .exact .inr (.inr (.inl rfl))
    .split
     .exact .inr (.inl rfl)
     .exact .inr (.inr (.inr rfl))
theorem Zev{f:Edit->Edit->Edit × Bool}{p0 q0:List Op}:∀ {ps:List Piece} {ops:List Op} {s w:List Tree},(∀ x∈ps,POk p0 q0 x)->(∀ x∈ps,(x.of≠2->ROp x.p)/\(x.of≠1->ROp x.q))->
  (∀ x∈ps,x.p.kind=3->x.q.kind=3->x.of=0->ComOk (f x.p.e x.q.e) x.p.e x.q.e)->(∀ t∈s,RT_ t)->Z0r f ps=some ops->Run ops s w->∃ m d,Run (Z3i ps) s m/\Run (Z3h ps) m d/\EqvL w d
 | [],ops,s,w,_,_,_,_,h,hr=> by
  cases h
  obtain ⟨rfl,rfl⟩:=ZB hr
  exact ⟨[],[],.nil,.nil,rfl⟩
 | x ::r,ops,s,w,hx,hp,hf,hs,h,hr=> by
  rw [Z0r] at h
  split at h
  .rename_i ai
   obtain ⟨l,hl,rfl⟩:=Qa.1 h
   have ab:=hx x Q5
   have hk:∀ o∈(if (ZA f x).is then [(ZA f x).op] else []),kOk o:=by
    intro o ho
    split at ho
    .rw [Q7.1 ho];exact Zo3 ab
    .cases ho
   obtain ⟨s1,s2,w1,w2,rfl,rfl,r1,r2⟩:=(Z4O hk).1 hr
   obtain ⟨m1,d1,a1,a2,a3⟩:=Zrn ab (hp x Q5).1 (hp x Q5).2 (hf x Q5) (fun t ht=> hs t (QL _ ht)) ai r1
   obtain ⟨m2,d2,b1,b2,b3⟩:=Zev (fun y hy=> hx y (Q3 _ hy)) (fun y hy=> hp y (Q3 _ hy)) (fun y hy=> hf y (Q3 _ hy)) (fun t ht=> hs t (X5 _ ht)) hl r2
   refine ⟨m1++m2,d1++d2,?_,?_,Zlp a3 b3⟩
   .refine (Z4O ?_).2 ⟨s1,s2,m1,m2,rfl,rfl,a1,b1⟩
    intro o ho
    split at ho
    .cases ho
    .rw [Q7.1 ho];exact Yx (ab.pp (by assumption)).2
   .refine (Z4O ?_).2 ⟨m1,m2,d1,d2,rfl,rfl,a2,b2⟩
    intro o ho
    split at ho
    .cases ho
    .rw [Q7.1 ho];exact Yx (ab.qq (by assumption)).2
  .cases h
theorem Zew{f:Edit->Edit->Edit × Bool}{p0 q0:List Op}:∀ {ps:List Piece} {s m d:List Tree},(∀ x∈ps,POk p0 q0 x)->(∀ x∈ps,(x.of≠2->ROp x.p)/\(x.of≠1->ROp x.q))->
  (∀ x∈ps,x.p.kind=3->x.q.kind=3->x.of=0->ComOk (f x.p.e x.q.e) x.p.e x.q.e)->(∀ t∈s,RT_ t)->Run (Z3i ps) s m->Run (Z3h ps) m d->∃ ops w,Z0r f ps=some ops/\Run ops s w/\EqvL w d
 | [],s,m,d,_,_,_,_,h1,h2=> by
  obtain ⟨rfl,rfl⟩:=ZB h1
  obtain ⟨_,rfl⟩:=ZB h2
  exact ⟨[],[],rfl,.nil,rfl⟩
 | x ::r,s,m,d,hx,hp,hf,hs,h1,h2=> by
  have aa:=hx x Q5
  have kp:∀ o∈(if x.of=2 then [] else [x.p]),kOk o:=by
   intro o ho
   split at ho
   .cases ho
   .rw [Q7.1 ho];exact Yx (aa.pp (by assumption)).2
  have kq:∀ o∈(if x.of=1 then [] else [x.q]),kOk o:=by
   intro o ho
   split at ho
   .cases ho
   .rw [Q7.1 ho];exact Yx (aa.qq (by assumption)).2
  obtain ⟨s1,s2,m1,m2,rfl,rfl,a1,a2⟩:=(Z4O kp).1 h1
  obtain ⟨m3,m4,d1,d2,hm,rfl,b1,b2⟩:=(Z4O kq).1 h2
  have ai:m1.length=m3.length:=by
   rcases aa.of with h0 | g1 | g2
   .obtain ⟨pk,qk,hl⟩:=aa.both h0
    rw [Yo] at a1 b1
    have:=ZbK (aa.pp V0).2 pk a1
    have:=Ze6 (aa.qq V0).2 qk b1
    omega
   .rw [Yo] at a1
    rw [if_pos g1] at b1
    obtain ⟨a,s',rfl,hn,ae⟩:=(Yk (aa.one g1)).1 a1
    obtain ⟨rfl,rfl⟩:=ZB ae
    obtain ⟨rfl,_⟩:=ZB b1
    try rfl
   .rw [if_pos g2] at a1
    rw [Yo] at b1
    obtain ⟨_,rfl⟩:=ZB a1
    obtain ⟨d',rfl,ae⟩:=(Yl (aa.two g2)).1 b1
    obtain ⟨rfl,_⟩:=ZB ae
    try rfl
  obtain ⟨rfl,rfl⟩:=Kh hm ai
  obtain ⟨ak,w1,c1,c2⟩:=Zro aa (hp x Q5).1 (hp x Q5).2 (hf x Q5) (fun t ht=> hs t (QL _ ht)) a1 b1
  obtain ⟨ops,w2,e1,e2,e3⟩:=Zew (fun y hy=> hx y (Q3 _ hy)) (fun y hy=> hp y (Q3 _ hy)) (fun y hy=> hf y (Q3 _ hy)) (fun t ht=> hs t (X5 _ ht)) a2 b2
  refine ⟨(if (ZA f x).is then [(ZA f x).op] else [])++ops,w1++w2,?_,?_,Zlp c2 e3⟩
  .rw [Z0r,if_pos ak,e1];try rfl
  .refine (Z4O ?_).2 ⟨s1,s2,w1,w2,rfl,rfl,c1,e2⟩
   intro o ho
   split at ho
   .rw [Q7.1 ho];exact Zo3 aa
   .cases ho
section
variable {β:Type} {at_:β->Int} {one:β->β->β × Bool}
structure MSpec (at_:β->Int) (one:β->β->β × Bool) (last:Int) (p q L:List β):Prop where
 asc_:asc at_ last L
 of:∀ x∈L,(x∈p/\∀ b∈q,at_ b≠at_ x)\/(x∈q/\∀ a∈p,at_ a≠at_ x)\/∃ a∈p,∃ b∈q,at_ a=at_ b/\(one a b).2=true/\x=(one a b).1
 left:∀ a∈p,(∀ b∈q,at_ b≠at_ a)->a∈L
 right:∀ b∈q,(∀ a∈p,at_ a≠at_ b)->b∈L
 both:∀ a∈p,∀ b∈q,at_ a=at_ b->(one a b).2=true/\(one a b).1∈L
theorem Z2T(hone:∀ a b,at_ a=at_ b->(one a b).2=true->at_ (one a b).1=at_ a):∀ (k:Nat) (p q:List β) (ae:Int),p.length+q.length<=k->asc at_ ae p->asc at_ ae q->
  (Zj at_ one p q=none->∃ a∈p,∃ b∈q,at_ a=at_ b/\(one a b).2=false)/\∀ L,Zj at_ one p q=some L->MSpec at_ one ae p q L:=by
 intro k
 induction k with
 | zero=>
  intro p q ae hk hp hq
  have e1:p=[]:=Q1 V0
  have e2:q=[]:=Q1 V0
  subst e1 e2
  rw [Zj]
  refine ⟨fun h=> (by cases h),fun L h=> ?_⟩
  cases h
  exact ⟨trivial,fun x hx=> (by cases hx),fun a ha=> (by cases ha),fun a ha=> (by cases ha),fun a ha=> (by cases ha)⟩
 | succ k ih=>
  intro p q ae hk hp hq
  match p,q with
  | [],q=>
   rw [Zj]
   refine ⟨fun h=> (by cases h),fun L h=> ?_⟩
   cases h
   exact ⟨hq,fun x hx=> .inr (.inl ⟨hx,fun a ha=> (by cases ha)⟩),fun a ha=> (by cases ha),fun b hb _=> hb,fun a ha=> (by cases ha)⟩
  | a ::p,[]=>
   rw [Zj]
   refine ⟨fun h=> (by cases h),fun L h=> ?_⟩
   cases h
   exact ⟨hp,fun x hx=> .inl ⟨hx,fun a ha=> (by cases ha)⟩,fun b hb _=> hb,fun a ha=> (by cases ha),fun a _ b hb=> (by cases hb)⟩
  | a ::p,b ::q=>
   have gp:=fun x hx=> Zft hp.2 x hx
   have gq:=fun x hx=> Zft hq.2 x hx
   simp only [Qd] at hk
   rw [Zj]
   by_cases h1:at_ a < at_ b
   .rw [if_pos h1]
    obtain ⟨i1,i2⟩:=ih p (b ::q) (at_ a) (by grind) hp.2 ⟨h1,hq.2⟩
    refine ⟨fun h=> ?_,fun L h=> ?_⟩
    .simp_all
    .obtain ⟨L',hL,rfl⟩:=Qa.1 h
     have S:=i2 L' hL
     have na:∀ y∈b ::q,at_ y≠at_ a:=by
      intro y hy
      rcases Q9.1 hy with rfl | hy
      .omega
      .have:=gq y hy;omega
     refine ⟨⟨hp.1,S.asc_⟩,fun x hx=> ?_,fun x hx hn=> ?_,fun y hy hn=> ?_,fun x hx y hy e=> ?_⟩
     .rcases Q9.1 hx with rfl | hx
      .grind
      .rcases S.of x hx with ⟨h2,h3⟩ | ⟨h2,h3⟩ | ⟨c,hc,d,hd,h2⟩
       .grind
       .grind
       .exact .inr (.inr ⟨c,Q3 _ hc,d,hd,h2⟩)
     .rcases Q9.1 hx with rfl | hx
      .grind
      .exact Q3 _ (S.left x hx hn)
     .exact Q3 _ (S.right y hy fun c hc=> hn c (Q3 _ hc))
     .rcases Q9.1 hx with rfl | hx
      .grind
      .obtain ⟨h2,h3⟩:=S.both x hx y hy e
       grind
   .rw [if_neg h1]
    by_cases h2:at_ b < at_ a
    .rw [if_pos h2]
     obtain ⟨i1,i2⟩:=ih (a ::p) q (at_ b) (by grind) ⟨h2,hp.2⟩ hq.2
     refine ⟨fun h=> ?_,fun L h=> ?_⟩
     .rw [Option.map_eq_none_iff] at h
      obtain ⟨x,hx,y,hy,e⟩:=i1 h
      exact ⟨x,hx,y,Q3 _ hy,e⟩
     .obtain ⟨L',hL,rfl⟩:=Qa.1 h
      have S:=i2 L' hL
      have nb:∀ y∈a ::p,at_ y≠at_ b:=by
       intro y hy
       rcases Q9.1 hy with rfl | hy
       .omega
       .have:=gp y hy;omega
      refine ⟨⟨hq.1,S.asc_⟩,fun x hx=> ?_,fun x hx hn=> ?_,fun y hy hn=> ?_,fun x hx y hy e=> ?_⟩
      .rcases Q9.1 hx with rfl | hx
       .grind
       .rcases S.of x hx with ⟨h3,h4⟩ | ⟨h3,h4⟩ | ⟨c,hc,d,hd,h3⟩
        .grind
        .grind
        .exact .inr (.inr ⟨c,hc,d,Q3 _ hd,h3⟩)
      .exact Q3 _ (S.left x hx fun c hc=> hn c (Q3 _ hc))
      .rcases Q9.1 hy with rfl | hy
       .grind
       .exact Q3 _ (S.right y hy hn)
      .rcases Q9.1 hy with rfl | hy
       .grind
       .obtain ⟨h3,h4⟩:=S.both x hx y hy e
        grind
    .rw [if_neg h2]
     have e0:at_ a=at_ b:=V0
     by_cases h3:(one a b).2=true
     .rw [if_pos h3]
      obtain ⟨i1,i2⟩:=ih p q (at_ a) V0 hp.2 (by rw [e0];exact hq.2)
      refine ⟨fun h=> ?_,fun L h=> ?_⟩
      .rw [Option.map_eq_none_iff] at h
       obtain ⟨x,hx,y,hy,e⟩:=i1 h
       exact ⟨x,Q3 _ hx,y,Q3 _ hy,e⟩
      .obtain ⟨L',hL,rfl⟩:=Qa.1 h
       have S:=i2 L' hL
       have ao:=hone a b e0 h3
       have na:∀ y∈q,at_ y≠at_ a:=fun y hy=> by grind
       have nb:∀ y∈p,at_ y≠at_ b:=fun y hy=> by grind
       refine ⟨⟨by rw [ao];exact hp.1,by rw [ao];exact S.asc_⟩,fun x hx=> ?_,fun x hx hn=> ?_,fun y hy hn=> ?_,fun x hx y hy e=> ?_⟩
       .rcases Q9.1 hx with rfl | hx
        .simp_all
        .rcases S.of x hx with ⟨h4,h5⟩ | ⟨h4,h5⟩ | ⟨c,hc,d,hd,h4⟩
         .refine .inl ⟨Q3 _ h4,fun c hc=> ?_⟩
          grind
         .refine .inr (.inl ⟨Q3 _ h4,fun c hc=> ?_⟩)
          grind
         .exact .inr (.inr ⟨c,Q3 _ hc,d,Q3 _ hd,h4⟩)
       .rcases Q9.1 hx with rfl | hx
        .simp_all
        .exact Q3 _ (S.left x hx fun c hc=> hn c (Q3 _ hc))
       .rcases Q9.1 hy with rfl | hy
        .simp_all
        .exact Q3 _ (S.right y hy fun c hc=> hn c (Q3 _ hc))
       .rcases Q9.1 hx with rfl | hx
        .grind
        .rcases Q9.1 hy with rfl | hy
         .grind
         .obtain ⟨h4,h5⟩:=S.both x hx y hy e
          grind
     simp_all
variable {α:Type} {z:α} {F:β->α->Option α} {R:α->α->Prop}
def Z1Z(z:α)(F:β->α->Option α)(at_:β->Int)(l:List α)(w:β):Option α:=F w (l.getD (at_ w).toNat z)
theorem Z5i{last:Int}(hl: -1<=last){l:List β}(h:asc at_ last l):∀ w∈l,0<=at_ w:=fun w d=> by have:=Zft h w d;omega
theorem ZhV (hone:∀ a b,at_ a=at_ b->(one a b).2=true->at_ (one a b).1=at_ a) (Rr:∀ x,R x x) {p q L:List β} {l r:List α} (hp:asc at_ (-1) p) (hq:asc at_ (-1) q)
  (hf:∀ a∈p,∀ b∈q,at_ a=at_ b->∀ w,(one a b).2=true->F (one a b).1 (l.getD (at_ a).toNat z)=some w->∃ u v,F a (l.getD (at_ a).toNat z)=some u/\F b u=some v/\R w v)
  (h:Zj at_ one p q=some L) (hr:mg z (Z1Z z F at_ l) at_ L l=some r):
  ∃ r1 r2,mg z (Z1Z z F at_ l) at_ p l=some r1/\mg z (Z1Z z F at_ r1) at_ q r1=some r2/\∀ i,R (r.getD i z) (r2.getD i z):=by
 have S:=(Z2T hone _ p q (-1) (Qg _) hp hq).2 L h
 obtain ⟨g1,g2⟩:=Z3M V0 S.asc_ hr
 have np:=Z5i V2 hp
 have nq:=Z5i V2 hq
 have k1:∀ a∈p,∃ u,Z1Z z F at_ l a=some u:=by
  intro a d
  by_cases hb:∃ b∈q,at_ b=at_ a
  .obtain ⟨b,hb,e⟩:=hb
   obtain ⟨c1,c2⟩:=S.both a d b hb e.symm
   obtain ⟨v,hv,_⟩:=g1 _ c2
   unfold Z1Z at hv
   rw [hone a b e.symm c1] at hv
   obtain ⟨u,_,hu,_⟩:=hf a d b hb e.symm v c1 hv
   exact ⟨u,hu⟩
  .obtain ⟨v,hv,_⟩:=g1 a (S.left a d fun b ai e=> hb ⟨b,ai,e⟩)
   exact ⟨v,hv⟩
 obtain ⟨r1,h1⟩:=Z6M (z:=z) (p:=at_) (out:=l) (f:=Z1Z z F at_ l) k1
 obtain ⟨a1,a2⟩:=Z3M V0 hp h1
 have k2:∀ b∈q,∃ v,Z1Z z F at_ r1 b=some v:=by
  intro b hb
  by_cases d:∃ a∈p,at_ a=at_ b
  .obtain ⟨a,d,e⟩:=d
   obtain ⟨c1,c2⟩:=S.both a d b hb e
   obtain ⟨w,hw,_⟩:=g1 _ c2
   unfold Z1Z at hw
   rw [hone a b e c1] at hw
   obtain ⟨u,v,hu,hv,_⟩:=hf a d b hb e w c1 hw
   obtain ⟨u',af,e'⟩:=a1 a d
   unfold Z1Z at af
   rw [hu] at af
   cases af
   unfold Z1Z
   rw [<-e,e']
   exact ⟨v,hv⟩
  .obtain ⟨v,hv,_⟩:=g1 b (S.right b hb fun a aa e=> d ⟨a,aa,e⟩)
   refine ⟨v,?_⟩
   unfold Z1Z at hv ⊢
   rw [a2 _ fun a aa e=> d ⟨a,aa,by have:=np a aa;have:=nq b hb;omega⟩]
   exact hv
 obtain ⟨r2,h2⟩:=Z6M (z:=z) (p:=at_) (out:=r1) (f:=Z1Z z F at_ r1) k2
 obtain ⟨b1,b2⟩:=Z3M V0 hq h2
 refine ⟨r1,r2,h1,h2,fun i=> ?_⟩
 by_cases hb:∃ b∈q,(at_ b).toNat=i
 .obtain ⟨b,hb,rfl⟩:=hb
  obtain ⟨v,hv,e2⟩:=b1 b hb
  rw [e2]
  by_cases d:∃ a∈p,at_ a=at_ b
  .obtain ⟨a,d,e⟩:=d
   obtain ⟨c1,c2⟩:=S.both a d b hb e
   obtain ⟨w,hw,ew⟩:=g1 _ c2
   unfold Z1Z at hw
   rw [hone a b e c1] at hw ew
   obtain ⟨u,v',hu,aw,hR⟩:=hf a d b hb e w c1 hw
   obtain ⟨u',af,e'⟩:=a1 a d
   unfold Z1Z at af hv
   rw [hu] at af
   cases af
   rw [<-e,e',aw] at hv
   cases hv
   rw [<-e,ew]
   exact hR
  .obtain ⟨w,hw,ew⟩:=g1 b (S.right b hb fun a aa e=> d ⟨a,aa,e⟩)
   rw [ew]
   unfold Z1Z at hw hv
   rw [a2 _ fun a aa e=> d ⟨a,aa,by have:=np a aa;have:=nq b hb;omega⟩,hw] at hv
   cases hv
   exact Rr _
 .rw [b2 i fun b ai e=> hb ⟨b,ai,e⟩]
  by_cases d:∃ a∈p,(at_ a).toNat=i
  .obtain ⟨a,d,rfl⟩:=d
   obtain ⟨w,hw,ew⟩:=g1 a (S.left a d fun b ai e=> hb ⟨b,ai,V0⟩)
   obtain ⟨u,hu,eu⟩:=a1 a d
   rw [hw] at hu
   cases hu
   rw [ew,eu]
   exact Rr _
  .rw [a2 i fun a aa e=> d ⟨a,aa,e⟩,g2 i ?_]
   .exact Rr _
   .intro w hw e
    rcases S.of w hw with ⟨h3,_⟩ | ⟨h3,_⟩ | ⟨a,aa,b,ai,e3,c1,rfl⟩
    .exact d ⟨w,h3,e⟩
    .exact hb ⟨w,h3,e⟩
    .rw [hone a b e3 c1] at e
     exact d ⟨a,aa,e⟩
theorem ZoE (hone:∀ a b,at_ a=at_ b->(one a b).2=true->at_ (one a b).1=at_ a) (Rr:∀ x,R x x) {p q:List β} {l r1 r2:List α} (hp:asc at_ (-1) p) (hq:asc at_ (-1) q)
  (hf:∀ a∈p,∀ b∈q,at_ a=at_ b->∀ u v,F a (l.getD (at_ a).toNat z)=some u->F b u=some v->(one a b).2=true/\∃ w,F (one a b).1 (l.getD (at_ a).toNat z)=some w/\R w v)
  (h1:mg z (Z1Z z F at_ l) at_ p l=some r1) (h2:mg z (Z1Z z F at_ r1) at_ q r1=some r2):
  ∃ L r,Zj at_ one p q=some L/\mg z (Z1Z z F at_ l) at_ L l=some r/\∀ i,R (r.getD i z) (r2.getD i z):=by
 have np:=Z5i V2 hp
 have nq:=Z5i V2 hq
 obtain ⟨a1,a2⟩:=Z3M V0 hp h1
 obtain ⟨b1,b2⟩:=Z3M V0 hq h2
 have both:∀ a∈p,∀ b∈q,at_ a=at_ b->(one a b).2=true/\∃ w,F (one a b).1 (l.getD (at_ a).toNat z)=some w/\R w (r2.getD (at_ a).toNat z):=by
  intro a ha b hb e
  obtain ⟨u,hu,eu⟩:=a1 a ha
  obtain ⟨v,d,ev⟩:=b1 b hb
  unfold Z1Z at hu d
  rw [<-e,eu] at d
  have:=hf a ha b hb e u v hu d
  rw [e,ev,<-e]
  exact this
 cases h:Zj at_ one p q with
 | none=>
  obtain ⟨a,ha,b,hb,e,h3⟩:=(Z2T hone _ p q (-1) (Qg _) hp hq).1 h
  grind
 | some L=>
  have S:=(Z2T hone _ p q (-1) (Qg _) hp hq).2 L h
  have k1:∀ w∈L,∃ v,Z1Z z F at_ l w=some v:=by
   intro w hw
   rcases S.of w hw with ⟨h3,h4⟩ | ⟨h3,h4⟩ | ⟨a,ha,b,hb,e,c1,rfl⟩
   .obtain ⟨u,hu,_⟩:=a1 w h3
    grind
   .obtain ⟨v,d,_⟩:=b1 w h3
    refine ⟨v,?_⟩
    unfold Z1Z at d ⊢
    rw [a2 _ fun a ah e=> h4 a ah (by have:=np a ah;have:=nq w h3;omega)] at d
    exact d
   .obtain ⟨_,w,hw,_⟩:=both a ha b hb e
    refine ⟨w,?_⟩
    unfold Z1Z
    grind
  obtain ⟨r,hr⟩:=Z6M (z:=z) (p:=at_) (out:=l) (f:=Z1Z z F at_ l) k1
  refine ⟨L,r,rfl,hr,?_⟩
  obtain ⟨ar,aw,e1,e2,hR⟩:=ZhV (R:=fun x y=> x=y\/R x y) hone (fun x=> .inl rfl) hp hq (by
   intro a ha b hb e w c1 hw
   obtain ⟨u,hu,eu⟩:=a1 a ha
   obtain ⟨v,d,ev⟩:=b1 b hb
   unfold Z1Z at hu d
   rw [<-e,eu] at d
   obtain ⟨_,w',az,hR⟩:=hf a ha b hb e u v hu d
   grind) h hr
  grind
end
end Go.AM.YtnfbomhidainjaaGreat
namespace Go.AM.YtnfbomhidainjaaGreat
open Go.AM Go.Proofs
noncomputable section
def Zx6:ArgL (WEdit × WEdit × Unit):=(.cons (aEl .wedit) (.cons (aEl .wedit) .nil))
def Zuo(a:WEdit × WEdit × Unit):Prop:=J7 a.1/\J7 a.2.1
def Zp3(a:WEdit × WEdit × Unit):V U:= .tup [(true,(enc .wedit ((YY a.1 a.2.1).1))),(false,[.bool ((YY a.1 a.2.1).2)])]
def ZdJ:Fs U:=fs Zx6 (fun a=> [Zuo a]) Zp3
def Zx7:ArgL (WEdit × Unit):=(.cons (aEl .wedit) .nil)
def ZgJ(a:WEdit × Unit):Prop:=True
def ZBz(a:WEdit × Unit):V U:= .c (ci a.1.at_)
def ZdK:Fs U:=fs Zx7 (fun a=> [ZgJ a]) ZBz
def Zx5:ArgL (Kid × Unit):=(.cons (aEl .kid) .nil)
def ZgI(a:Kid × Unit):Prop:=True
def ZBy(a:Kid × Unit):V U:= .c (ci a.1.at_)
def Z4L:Fs U:=fs Zx5 (fun a=> [ZgI a]) ZBy
def Zxd:ArgL (List WEdit × List WEdit × Unit × Unit × Unit):=(.cons (aSl .wedit) (.cons (aSl .wedit) (.cons (aFn 51) (.cons (aFn 52) .nil))))
def Zup(a:List WEdit × List WEdit × Unit × Unit × Unit):Prop:=((∀ x∈a.1,J7 x)/\(a.1).length<=1000000)/\(∀ x∈a.2.1,J7 x)/\(a.2.1).length<=1000000
def Zp4(a:List WEdit × List WEdit × Unit × Unit × Unit):V U:= .tup [(false,[sU .wedit (ofO (Zj WEdit.at_ YY a.1 a.2.1)) .unk]),(false,[.bool ((Zj WEdit.at_ YY a.1 a.2.1).isSome)])]
def ZdL:Fs U:=fs Zxd (fun a=> [Zup a]) Zp4
def Zxh:ArgL (List WEdit × List WEdit × Unit):=(.cons (aSl .wedit) (.cons (aSl .wedit) .nil))
def Zus(a:List WEdit × List WEdit × Unit):Prop:=((∀ x∈a.1,J7 x)/\(a.1).length<=1000000)/\(∀ x∈a.2.1,J7 x)/\(a.2.1).length<=1000000
def ZBD(a:List WEdit × List WEdit × Unit):V U:= .tup [(false,[sU .wedit (ofO (Zj WEdit.at_ YY a.1 a.2.1)) .unk]),(false,[.bool ((Zj WEdit.at_ YY a.1 a.2.1).isSome)])]
def Z4M:Fs U:=fs Zxh (fun a=> [Zus a]) ZBD
def ZvY:List (FuncId × Fs U):=[(71,Z0P)]
def ZE2:Zb U:=lvl [([2,3,4],[2,3,4]),([2,3,4,6],[2,3,4]),([2,3,4,20],[2,3,4]),([4,5],[4]),([4,5],[4])]
abbrev A52(p:List Nat):=AW (Z1 ZvY) Tryz.f52 ZE2 p
theorem ZIW(p q:WEdit)(Q:QT)(h:let z1:=IntKind.bits .u8;let z0:=IntKind.wrap .u8 (BitVec.ofInt z1 p.mask &&& BitVec.ofInt z1 q.mask).toNat;((JE (0,p.new,z0,()))/\(JE (0,q.old,z0,()))/\(iB (((mix 0 p.new z0):Int) !=(mix 0 q.old z0)) ((Q .ret (L2 [pL 4,pB 5 false] [(.loc 4,[ci 0,.int .u8 0,.int .u64 0,.int .u64 0])]))) ((JE (q.old,p.old,p.mask,()))/\(JE (p.new,q.new,q.mask,()))/\(Q .ret (L2 [pL 4,pB 5 true] [(.loc 4,[ci p.at_,.int .u8 (IntKind.wrap .u8 (BitVec.ofInt z1 p.mask ||| BitVec.ofInt z1 q.mask).toNat),.int .u64 (mix q.old p.old p.mask),.int .u64 (mix p.new q.new q.mask)])])))))):
  A52 [] (L2 [(0,.agg (enc .wedit p)),(1,.agg (enc .wedit q))] []) Q:=
 Eq.mpr V5 h
def ZFO(p q:WEdit):Prop:=AW (Z1 ZvY) Tryz.f52 ZE2 [] (Zf (Zx6.can (p,q,())) []) (EQ Tryz.f52 (Zp3 (p,q,())) [])
theorem ZDi(c71:CT 71 Z0P)(hb:∀ (p:WEdit) (q:WEdit) (_:Unit),Zuo (p,q,())->ZFO p q):CT 52 ZdJ:=
 Z2 (l:=[(71,Z0P)]) Zd rfl (⟨c71,trivial⟩) ZE2 Tryz.func52 rfl rfl 2 (fun _=> rfl) V2 (fun ⟨p,q,_⟩=> hb p q ())
def ZE3:Zb U:=lvl [([1],[1]),([2],[])]
abbrev A51(p:List Nat):=AW (Z1 ZnF) Tryz.f51 ZE3 p
theorem ZIX(w:WEdit)(Q:QT)(h:(Q .ret (L2 [pI 2 w.at_] []))):
  A51 [] (L2 [(0,.agg (enc .wedit w))] []) Q:=
 Eq.mpr V5 h
def ZFP(w:WEdit):Prop:=AW (Z1 ZnF) Tryz.f51 ZE3 [] (Zf (Zx7.can (w,())) []) (EQ Tryz.f51 (ZBz (w,())) [])
theorem ZDj(hb:∀ (w:WEdit) (_:Unit),ZgJ (w,())->ZFP w):CT 51 ZdK:=
 Z2 (l:=[]) Zd rfl trivial ZE3 Tryz.func51 rfl rfl 1 (fun _=> rfl) V2 (fun ⟨w,_⟩=> hb w ())
abbrev A54(p:List Nat):=AW (Z1 ZnF) Tryz.f54 ZE3 p
theorem ZIU(k:Kid)(Q:QT)(h:(Q .ret (L2 [pI 2 k.at_] []))):
  A54 [] (L2 [(0,.agg (enc .kid k))] []) Q:=
 Eq.mpr V5 h
def ZFM(k:Kid):Prop:=AW (Z1 ZnF) Tryz.f54 ZE3 [] (Zf (Zx5.can (k,())) []) (EQ Tryz.f54 (ZBy (k,())) [])
theorem ZDh(hb:∀ (k:Kid) (_:Unit),ZgI (k,())->ZFM k):CT 54 Z4L:=
 Z2 (l:=[]) Zd rfl trivial ZE3 Tryz.func54 rfl rfl 1 (fun _=> rfl) V2 (fun ⟨k,_⟩=> hb k ())
def Znw:List (FuncId × Fs U):=[(51,ZdK),(52,ZdJ)]
def ZzV:Zb U:=lvk [([0,1,2,3],[]),([0,1,2,3,(10,[.own .wedit])],[]),([0,1,2,3,10,20],[]),([0,1,2,3,10,11,12],[11]),([0,1,2,3,10,11,33],[11]),([8,9],[]),([0,1,2,3,(10,[.own .wedit])],[]),([0,1,2,3,10,42],[]),([0,1,2,3,(10,[.own .wedit])],[]),([0,1,2,3,10,72],[]),([0,1,2,3,(10,[.own .wedit])],[]),([8,9],[])]
def Z4i(p q:List WEdit)(at_ one:Unit)(x0 x1 d:List WEdit):LSt U:=(L2 [(0,.c (sU .wedit x0 .unk)),(1,.c (sU .wedit x1 .unk)),(2,.fn 51),(3,.fn 52),(10,.c (sU .wedit d (.own (.e 10 0))))] [])
abbrev A50(p:List Nat):=AW (Z1 Znw) Tryz.f50 ZzV p
abbrev S50(p:List Nat):=SW (Z1 Znw) Tryz.f50 ZzV p
theorem ZIY(p q:List WEdit)(at_ one:Unit)(Q:QT)(h:(Zk (A50 [1,1,0,0,0]) (Z4i p q at_ one p q []) (xB 0 (S50 [1,1,1] Q)))):
  A50 [] (L2 [(0,.c (sU .wedit p .unk)),(1,.c (sU .wedit q .unk)),(2,.fn 51),(3,.fn 52)] []) Q:=
 Eq.mpr V5 h
theorem Zy9(p q:List WEdit)(at_ one:Unit)(x0 x1 ab:List WEdit)(N0:NT)(Q:QT)(h:∀ ai,ai=(List.getD x0 (Int.toNat 0) (WEdit.mk 0 0 0 0))->∀ ah,ah=(List.getD x1 (Int.toNat 0) (WEdit.mk 0 0 0 0))->∀ aa,aa=ai->∀ d,d=ah->∀ af,af=((YY aa d).1)->let z3:=decide ((0:Int) < (x0.length:Int));let z2:=((x1.length:Int):Int)==0;let z1:=((x0.length:Int):Int)==0;let z0:=(!z2) && z3;(Tt (!z3))/\(Tt (!z3))/\(z3=false->(!z3)=true)/\(iB (bif z3 then true else (decide ((0:Int) < (x1.length:Int)))) ((Tt (!z2))/\(Tt (!z2))/\(Tt (!z2))/\(Tt z0)/\(z0=true->(0:Int)<=0/\0 < (x0.length:Int))/\(Tt z0)/\(Tt z0)/\(Tt z0)/\(z0=true->ZgJ (aa,()))/\(Tt z0)/\(z0=true->(0:Int)<=0/\0 < (x1.length:Int))/\(Tt z0)/\(Tt z0)/\(Tt z0)/\(z0=true->ZgJ (d,()))/\(Tt z0)/\(Tt z0)/\((!z2)=true->(True->(!z2)=true))/\((!z2)=true->(z3=true->z0=true))/\(z2=false->(!z2)=true)/\(iB (bif z2 then true else (bif z3 then (decide (aa.at_ < d.at_)) else false)) (((0:Int)<=0/\0 < (x0.length:Int))/\((ab.length+([aa]).length)*32<=140737488355328)/\((0:Int)<=1/\1<=(x0.length:Int))/\(N0 (Z4i p q at_ one (List.drop (Int.toNat 1) x0) x1 (ab++([aa]))))) ((Tt (!z1))/\((!z1)=true->(0:Int)<=0/\0 < (x1.length:Int))/\(Tt (!z1))/\(Tt (!z1))/\(Tt (!z1))/\((!z1)=true->ZgJ (d,()))/\(Tt (!z1))/\((!z1)=true->(0:Int)<=0/\0 < (x0.length:Int))/\(Tt (!z1))/\(Tt (!z1))/\(Tt (!z1))/\((!z1)=true->ZgJ (aa,()))/\(Tt (!z1))/\(Tt (!z1))/\(z1=false->(!z1)=true)/\(iB (bif z1 then true else (decide (d.at_ < aa.at_))) (((0:Int)<=0/\0 < (x1.length:Int))/\((ab.length+([d]).length)*32<=140737488355328)/\((0:Int)<=1/\1<=(x1.length:Int))/\(N0 (Z4i p q at_ one x0 (List.drop (Int.toNat 1) x1) (ab++([d]))))) (((0:Int)<=0/\0 < (x0.length:Int))/\((0:Int)<=0/\0 < (x1.length:Int))/\(Zuo (aa,d,()))/\(iB (!((YY aa d).2)) ((Q .ret (L2 [(8,.c (.nils)),pB 9 false] []))) (((ab.length+([af]).length)*32<=140737488355328)/\((0:Int)<=1/\1<=(x0.length:Int))/\((0:Int)<=1/\1<=(x1.length:Int))/\(N0 (Z4i p q at_ one (List.drop (Int.toNat 1) x0) (List.drop (Int.toNat 1) x1) (ab++([af]))))))))))) ((Q .ret (L2 [(8,.c (sU .wedit ab (.own (.e 8 0)))),pB 9 true] []))))):
  A50 [1,1,0,0,0] (Z4i p q at_ one x0 x1 ab) (xT N0 (xB 0 (S50 [1,1,1] Q))):=
 Eq.mpr V5 (h _ rfl _ rfl _ (Z4S _) _ (Z4S _) _ (Z4S _))
def ZFQ(p q:List WEdit)(at_ one:Unit):Prop:=AW (Z1 Znw) Tryz.f50 ZzV [] (Zf (Zxd.can (p,q,at_,one,())) []) (EQ Tryz.f50 (Zp4 (p,q,at_,one,())) [])
theorem ZDk(c51:CT 51 ZdK)(c52:CT 52 ZdJ)(hb:∀ (p:List WEdit) (q:List WEdit) (at_:Unit) (one:Unit) (_:Unit),Zup (p,q,at_,one,())->ZFQ p q at_ one):CT 50 ZdL:=
 Z2 (l:=[(51,ZdK),(52,ZdJ)]) Zd rfl (⟨c51,c52,trivial⟩) ZzV Tryz.func50 rfl rfl 4 (fun _=> rfl) V2 (fun ⟨p,q,at_,one,_⟩=> hb p q at_ one ())
def Zw7:List (FuncId × Fs U):=[(50,ZdL)]
abbrev A34(p:List Nat):=AW (Z1 Zw7) Tryz.f34 ZDZ p
theorem ZJc(p q:List WEdit)(Q:QT)(h:((Zup (p,q,(),(),()))/\(Q .ret (L2 [(4,.c (sU .wedit (ofO (Zj WEdit.at_ YY p q)) .unk)),pB 5 ((Zj WEdit.at_ YY p q).isSome)] [])))):
  A34 [] (L2 [(0,.c (sU .wedit p .unk)),(1,.c (sU .wedit q .unk))] []) Q:=
 Eq.mpr V5 h
def ZG4(p q:List WEdit):Prop:=AW (Z1 Zw7) Tryz.f34 ZDZ [] (Zf (Zxh.can (p,q,())) []) (EQ Tryz.f34 (ZBD (p,q,())) [])
theorem ZDq(c50:CT 50 ZdL)(hb:∀ (p:List WEdit) (q:List WEdit) (_:Unit),Zus (p,q,())->ZG4 p q):CT 34 Z4M:=
 Z2 (l:=[(50,ZdL)]) Zd rfl (⟨c50,trivial⟩) ZDZ Tryz.func34 rfl rfl 2 (fun _=> rfl) V2 (fun ⟨p,q,_⟩=> hb p q ())
end
noncomputable section
def Z5o:ArgL (Edit × Edit × Unit):=(.cons (aEl .edit) (.cons (aEl .edit) .nil))
def Z5t(a:Edit × Edit × Unit):Prop:=Z21 a.1/\Z21 a.2.1
def ZfI(a:Edit × Edit × Unit):Nat:=8*(Zc a.1+Zc a.2.1)
def Z5T(a:Edit × Edit × Unit):V U:= .tup [(true,(enc .edit ((Yy a.1 a.2.1).1))),(false,[.bool ((Yy a.1 a.2.1).2)])]
def ZaD:Fs U:=fs Z5o (fun a=> [Z5t a]) Z5T
def Z5n:ArgL (List Kid × List Kid × Unit):=(.cons (aSl .kid) (.cons (aSl .kid) .nil))
def Z7t(a:List Kid × List Kid × Unit):Prop:=ZcF a.1/\ZcF a.2.1
def Ziw(a:List Kid × List Kid × Unit):Nat:=8*(Zo a.1+Zo a.2.1)+4
def Z97(a:List Kid × List Kid × Unit):V U:= .tup [(false,[sU .kid (ofO (Zj KidOf.at_ (Z1p Yy) a.1 a.2.1)) .unk]),(false,[.bool ((Zj KidOf.at_ (Z1p Yy) a.1 a.2.1).isSome)])]
def Zth:Fs U:=fs Z5n (fun a=> [Z7t a]) Z97
def Z5l:ArgL (List Kid × List Kid × Unit × Unit × Unit):=(.cons (aSl .kid) (.cons (aSl .kid) (.cons (aFn 54) (.cons (aFn 55) .nil))))
def Z7r(a:List Kid × List Kid × Unit × Unit × Unit):Prop:=ZcF a.1/\ZcF a.2.1
def Ziu(a:List Kid × List Kid × Unit × Unit × Unit):Nat:=8*(Zo a.1+Zo a.2.1)+3
def Z5R(a:List Kid × List Kid × Unit × Unit × Unit):V U:= .tup [(false,[sU .kid (ofO (Zj KidOf.at_ (Z1p Yy) a.1 a.2.1)) .unk]),(false,[.bool ((Zj KidOf.at_ (Z1p Yy) a.1 a.2.1).isSome)])]
def Zt9:Fs U:=fs Z5l (fun a=> [Z7r a]) Z5R
def Z5k:ArgL (Kid × Kid × Unit):=(.cons (aEl .kid) (.cons (aEl .kid) .nil))
def Z7q(a:Kid × Kid × Unit):Prop:=Zwe a.1/\Zwe a.2.1
def Zit(a:Kid × Kid × Unit):Nat:=8*(Ye a.1+Ye a.2.1)+1
def Z7o(a:Kid × Kid × Unit):V U:= .tup [(true,(enc .kid ((Z1p Yy a.1 a.2.1).1))),(false,[.bool ((Z1p Yy a.1 a.2.1).2)])]
def Zt8:Fs U:=fs Z5k (fun a=> [Z7q a]) Z7o
def Z7s(a:List Op × List Op × Unit):Prop:=Zrc a.1/\Zrc a.2.1
def Ziv(a:List Op × List Op × Unit):Nat:=8*(Ze a.1+Ze a.2.1)+40
def Z5s(a:List Op × List Op × Unit):V U:= .tup [(false,[sU .op (ofO (Z0A Yy a.1 a.2.1)) .unk]),(false,[.bool ((Z0A Yy a.1 a.2.1).isSome)])]
def Ztg:Fs U:=fs Zx4 (fun a=> [Z7s a]) Z5s
def Z5j:ArgL (Piece × Unit):=(.cons (aEl .piece) .nil)
def Z7p(a:Piece × Unit):Prop:=PcOk a.1
def Zis(a:Piece × Unit):Nat:=8*(Zs a.1.p+Zs a.1.q)+1
def Z5Q(a:Piece × Unit):V U:= .tup [(true,(enc .op ((ZA Yy a.1).op))),(false,[.bool ((ZA Yy a.1).is)]),(false,[.bool ((ZA Yy a.1).ok)])]
def Zt7:Fs U:=fs Z5j (fun a=> [Z7p a]) Z5Q
def Z54(N:Nat):List (FuncId × Fs U):=(19,fs Z5o (fun a=> [Z5t a,ZfI a < N]) Z5T) ::(35,fs Z5n (fun a=> [Z7t a,Ziw a < N]) Z97) ::(53,fs Z5l (fun a=> [Z7r a,Ziu a < N]) Z5R) ::(55,fs Z5k (fun a=> [Z7q a,Zit a < N]) Z7o) ::(36,fs Zx4 (fun a=> [Z7s a,Ziv a < N]) Z5s) ::(57,fs Z5j (fun a=> [Z7p a,Zis a < N]) Z5Q) ::[(10,Z04),(17,Z2e),(38,Yw),(34,Z4M),(54,Z4L),(56,Z4K)]
def ZEf:Zb U:=lvl [([2,3,4],[2,3,4]),([2,3,4,15],[2,3,4]),([4,5],[4]),([2,3,4,20],[2,3,4]),([4,5],[4]),([2,3,4,25],[2,3,4]),([2,4,6,7],[2,4,6]),([4,5],[4]),([2,3,4,41],[2,3,4]),([3,4,8,9],[3,4,8]),([4,5],[4]),([2,3,4,58],[2,3,4]),([4,5],[4]),([2,3,4,72],[2,3,4]),([2,3,4,10,11],[2,3,4]),([2,3,4,10,85],[2,3,4]),([4,5],[4]),([4,10,11,12],[4]),([4,5],[4]),([2,4,13,14],[2,4]),([4,5],[4])]
abbrev A19(N:Nat)(p:List Nat):=AW (Z1 (Z54 N)) Tryz.f19 ZEf p
theorem ZJn(N:Nat)(p q:Edit)(Q:QT)(h:∀ af,af=p->∀ d,d=q->∀ ae,ae=(p.new)->∀ ab,ab=(q.old)->∀ aa,aa=(Zv (Zp af))->let z3:=Zj WEdit.at_ YY p.words q.words;let z2:=Zj KidOf.at_ (Z1p Yy) p.kids q.kids;let z1:=(Q .ret (L2 [pL 4,pB 5 false] [(.loc 4,zc0)]));let z0:=p.kind !=q.kind;(iB (p.kind==0) ((Q .ret (L2 [pL 4,pB 5 true] [(.loc 4,(enc .edit q))]))) ((iB (q.kind==0) ((Q .ret (L2 [pL 4,pB 5 true] [(.loc 4,(enc .edit p))]))) ((iB (p.kind==1) ((Z40 (d,ae,()))/\(Q .ret (L2 [pL 4,pB 5 ((doE false d ae).isSome)] [(.loc 4,([ci 1]++enc .tree p.old++enc .tree (Z3q ((doE false d ae).map Z0))++[.nils,.nils,ci 0,.nils]))]))) ((iB (q.kind==1) ((Z41 (af,()))/\(Z40 (aa,ab,()))/\(Q .ret (L2 [pL 4,pB 5 ((doE false aa ab).isSome)] [(.loc 4,([ci 1]++enc .tree (Z3q ((doE false aa ab).map Z0))++enc .tree q.new++[.nils,.nils,ci 0,.nils]))]))) ((Tt (!z0))/\(Tt (!z0))/\(Tt (!z0))/\(Tt (!z0))/\(z0=false->(!z0)=true)/\(iB (bif z0 then true else (p.list !=q.list)) z1 ((iB (p.kind==2) ((Zus (p.words,q.words,()))/\(iB (!(z3.isSome)) z1 ((Z7t (p.kids,q.kids,()))/\(Ziw (p.kids,q.kids,()) < N)/\(Q .ret (L2 [pL 4,pB 5 (z2.isSome)] [(.loc 4,[ci 2,ci 0,.nils,.nils,ci 0,.nils,.nils,sU .wedit (ofO z3) .unk,sU .kid (ofO z2) .unk,ci 0,.nils])]))))) ((Z7s (p.ops,q.ops,()))/\(Ziv (p.ops,q.ops,()) < N)/\(Q .ret (L2 [pL 4,pB 5 ((Z0A Yy p.ops q.ops).isSome)] [(.loc 4,[ci 3,ci 0,.nils,.nils,ci 0,.nils,.nils,.nils,.nils,ci p.list,sU .op (ofO (Z0A Yy p.ops q.ops)) .unk])]))))))))))))))):
  A19 N [] (L2 [(0,.agg (enc .edit p)),(1,.agg (enc .edit q))] []) Q:=
 Eq.mpr V5 (h _ (Zg _) _ (Zg _) _ (Z3 _) _ (Z3 _) _ (Zg _))
def ZGf(N:Nat)(p q:Edit):Prop:=AW (Z1 (Z54 N)) Tryz.f19 ZEf [] (Zf (Z5o.can (p,q,())) []) (EQ Tryz.f19 (Z5T (p,q,())) [])
abbrev ZIb:Prop:=∀ (N:Nat) (p:Edit) (q:Edit) (_:Unit),Z5t (p,q,())->ZfI (p,q,()) < N+1->ZGf N p q
abbrev A35(N:Nat)(p:List Nat):=AW (Z1 (Z54 N)) Tryz.f35 ZDZ p
theorem ZJb(N:Nat)(p q:List Kid)(Q:QT)(h:let z0:=Zj KidOf.at_ (Z1p Yy) p q;((Z7r (p,q,(),(),()))/\(Ziu (p,q,(),(),()) < N)/\(Q .ret (L2 [(4,.c (sU .kid (ofO z0) .unk)),pB 5 (z0.isSome)] [])))):
  A35 N [] (L2 [(0,.c (sU .kid p .unk)),(1,.c (sU .kid q .unk))] []) Q:=
 Eq.mpr V5 h
def ZG3(N:Nat)(p q:List Kid):Prop:=AW (Z1 (Z54 N)) Tryz.f35 ZDZ [] (Zf (Z5n.can (p,q,())) []) (EQ Tryz.f35 (Z97 (p,q,())) [])
abbrev ZI6:Prop:=∀ (N:Nat) (p:List Kid) (q:List Kid) (_:Unit),Z7t (p,q,())->Ziw (p,q,()) < N+1->ZG3 N p q
def ZzU:Zb U:=lvk [([0,1,2,3],[]),([0,1,2,3,(10,[.own .kid])],[]),([0,1,2,3,10,20],[]),([0,1,2,3,10,11,12],[11]),([0,1,2,3,10,11,33],[11]),([8,9],[]),([0,1,2,3,(10,[.own .kid])],[]),([0,1,2,3,10,42],[]),([0,1,2,3,(10,[.own .kid])],[]),([0,1,2,3,10,72],[]),([0,1,2,3,(10,[.own .kid])],[]),([8,9],[])]
def Z4h(p q:List Kid)(at_ one:Unit)(x0 x1 d:List Kid):LSt U:=(L2 [(0,.c (sU .kid x0 .unk)),(1,.c (sU .kid x1 .unk)),(2,.fn 54),(3,.fn 55),(10,.c (sU .kid d (.own (.e 10 0))))] [])
abbrev A53(N:Nat)(p:List Nat):=AW (Z1 (Z54 N)) Tryz.f53 ZzU p
abbrev S53(N:Nat)(p:List Nat):=SW (Z1 (Z54 N)) Tryz.f53 ZzU p
theorem ZIV(N:Nat)(p q:List Kid)(at_ one:Unit)(Q:QT)(h:(Zk (A53 N [1,1,0,0,0]) (Z4h p q at_ one p q []) (xB 0 (S53 N [1,1,1] Q)))):
  A53 N [] (L2 [(0,.c (sU .kid p .unk)),(1,.c (sU .kid q .unk)),(2,.fn 54),(3,.fn 55)] []) Q:=
 Eq.mpr V5 h
theorem Zy8(N:Nat)(p q:List Kid)(at_ one:Unit)(x0 x1 ab:List Kid)(N0:NT)(Q:QT)(h:∀ ai,ai=(List.getD x0 (Int.toNat 0) (KidOf.mk 0 Edit.nil))->∀ ah,ah=(List.getD x1 (Int.toNat 0) (KidOf.mk 0 Edit.nil))->∀ aa,aa=ai->∀ d,d=ah->∀ af,af=((Z1p Yy aa d).1)->let z3:=decide ((0:Int) < (x0.length:Int));let z2:=((x1.length:Int):Int)==0;let z1:=((x0.length:Int):Int)==0;let z0:=(!z2) && z3;(Tt (!z3))/\(Tt (!z3))/\(z3=false->(!z3)=true)/\(iB (bif z3 then true else (decide ((0:Int) < (x1.length:Int)))) ((Tt (!z2))/\(Tt (!z2))/\(Tt (!z2))/\(Tt z0)/\(z0=true->(0:Int)<=0/\0 < (x0.length:Int))/\(Tt z0)/\(Tt z0)/\(Tt z0)/\(z0=true->ZgI (aa,()))/\(Tt z0)/\(z0=true->(0:Int)<=0/\0 < (x1.length:Int))/\(Tt z0)/\(Tt z0)/\(Tt z0)/\(z0=true->ZgI (d,()))/\(Tt z0)/\(Tt z0)/\((!z2)=true->(True->(!z2)=true))/\((!z2)=true->(z3=true->z0=true))/\(z2=false->(!z2)=true)/\(iB (bif z2 then true else (bif z3 then (decide (aa.at_ < d.at_)) else false)) (((0:Int)<=0/\0 < (x0.length:Int))/\((ab.length+([aa]).length)*208<=140737488355328)/\((0:Int)<=1/\1<=(x0.length:Int))/\(N0 (Z4h p q at_ one (List.drop (Int.toNat 1) x0) x1 (ab++([aa]))))) ((Tt (!z1))/\((!z1)=true->(0:Int)<=0/\0 < (x1.length:Int))/\(Tt (!z1))/\(Tt (!z1))/\(Tt (!z1))/\((!z1)=true->ZgI (d,()))/\(Tt (!z1))/\((!z1)=true->(0:Int)<=0/\0 < (x0.length:Int))/\(Tt (!z1))/\(Tt (!z1))/\(Tt (!z1))/\((!z1)=true->ZgI (aa,()))/\(Tt (!z1))/\(Tt (!z1))/\(z1=false->(!z1)=true)/\(iB (bif z1 then true else (decide (d.at_ < aa.at_))) (((0:Int)<=0/\0 < (x1.length:Int))/\((ab.length+([d]).length)*208<=140737488355328)/\((0:Int)<=1/\1<=(x1.length:Int))/\(N0 (Z4h p q at_ one x0 (List.drop (Int.toNat 1) x1) (ab++([d]))))) (((0:Int)<=0/\0 < (x0.length:Int))/\((0:Int)<=0/\0 < (x1.length:Int))/\(Z7q (aa,d,()))/\(Zit (aa,d,()) < N)/\(iB (!((Z1p Yy aa d).2)) ((Q .ret (L2 [(8,.c (.nils)),pB 9 false] []))) (((ab.length+([af]).length)*208<=140737488355328)/\((0:Int)<=1/\1<=(x0.length:Int))/\((0:Int)<=1/\1<=(x1.length:Int))/\(N0 (Z4h p q at_ one (List.drop (Int.toNat 1) x0) (List.drop (Int.toNat 1) x1) (ab++([af]))))))))))) ((Q .ret (L2 [(8,.c (sU .kid ab (.own (.e 8 0)))),pB 9 true] []))))):
  A53 N [1,1,0,0,0] (Z4h p q at_ one x0 x1 ab) (xT N0 (xB 0 (S53 N [1,1,1] Q))):=
 Eq.mpr V5 (h _ rfl _ rfl _ (Zek _) _ (Zek _) _ (Zek _))
def ZFN(N:Nat)(p q:List Kid)(at_ one:Unit):Prop:=AW (Z1 (Z54 N)) Tryz.f53 ZzU [] (Zf (Z5l.can (p,q,at_,one,())) []) (EQ Tryz.f53 (Z5R (p,q,at_,one,())) [])
abbrev ZHY:Prop:=∀ (N:Nat) (p:List Kid) (q:List Kid) (at_:Unit) (one:Unit) (_:Unit),Z7r (p,q,at_,one,())->Ziu (p,q,at_,one,()) < N+1->ZFN N p q at_ one
def ZE0:Zb U:=lvl [([2,3,4],[2,3,4]),([2,4,6,7],[2,4,6]),([4,5],[4])]
abbrev A55(N:Nat)(p:List Nat):=AW (Z1 (Z54 N)) Tryz.f55 ZE0 p
theorem ZIT(N:Nat)(a b:Kid)(Q:QT)(h:∀ aa,aa=(a.e)->∀ d,d=(b.e)->((Z5t (aa,d,()))/\(ZfI (aa,d,()) < N)/\(Q .ret (L2 [pL 4,pB 5 ((Yy aa d).2)] [(.loc 4,([ci a.at_]++enc .edit ((Yy aa d).1)))])))):
  A55 N [] (L2 [(0,.agg (enc .kid a)),(1,.agg (enc .kid b))] []) Q:=
 Eq.mpr V5 (h _ (Zg _) _ (Zg _))
def ZFL(N:Nat)(a b:Kid):Prop:=AW (Z1 (Z54 N)) Tryz.f55 ZE0 [] (Zf (Z5k.can (a,b,())) []) (EQ Tryz.f55 (Z7o (a,b,())) [])
abbrev ZHX:Prop:=∀ (N:Nat) (a:Kid) (b:Kid) (_:Unit),Z7q (a,b,())->Zit (a,b,()) < N+1->ZFL N a b
def ZA0:Zb U:=lvk [([0,1],[]),([6,7],[]),([6,21],[]),([4,5],[]),([6,8],[]),([(8,[.own .op]),22,23,24],[]),([8,22,23,24,25],[]),([8,10,22,23,24],[10]),([8,11,12,13,22,23,24],[11]),([8,11,12,22,23,24,35],[11]),([4,5],[]),([8,11,22,23,24,36],[11]),([8,22,23,24],[]),([(8,[.own .op]),22,23,24],[]),([4,5],[])]
def Z6i(p q:List Op)(d:Int)(x8:List Op):LSt U:=(L2 [(8,.c (sU .op x8 (.own (.e 8 0)))),(22,.c (sU .piece ((Yf 1 2 p q []).1) .unk)),pI 23 (((Yf 1 2 p q []).1).length:Int),pI 24 d] [])
abbrev A36(N:Nat)(p:List Nat):=AW (Z1 (Z54 N)) Tryz.f36 ZA0 p
abbrev S36(N:Nat)(p:List Nat):=SW (Z1 (Z54 N)) Tryz.f36 ZA0 p
theorem ZJa(N:Nat)(p q:List Op)(Q:QT)(h:((Zun (p,q,()))/\(iB (!((Yf 1 2 p q []).2.1)) ((Q .ret (L2 [(4,.c (.nils)),pB 5 false] []))) ((Zk (A36 N [1,1,1,1,0,1,0,0]) (Z6i p q 0 []) (xB 0 (S36 N [1,1,1,1,1] Q))))))):
  A36 N [] (L2 [(0,.c (sU .op p .unk)),(1,.c (sU .op q .unk))] []) Q:=
 Eq.mpr V5 h
theorem Zyl(N:Nat)(p q:List Op)(d:Int)(x8:List Op)(N0:NT)(Q:QT)(h:∀ af,af=(List.getD ((Yf 1 2 p q []).1) d.toNat (Piece.mk 0 Op.nil Op.nil))->∀ aa,aa=af->∀ ab,ab=((ZA Yy aa).op)->(iB (decide (d < (((Yf 1 2 p q []).1).length:Int))) (((0:Int)<=d/\d < (((Yf 1 2 p q []).1).length:Int))/\((Z7p (aa,()))/\(Zis (aa,()) < N)/\(iB (!((ZA Yy aa).ok)) ((Q .ret (L2 [(4,.c (.nils)),pB 5 false] []))) ((iB ((ZA Yy aa).is) (((x8.length+([ab]).length)*240<=140737488355328)/\((InR (d+1))/\(N0 (Z6i p q (d+1) (x8++([ab])))))) ((InR (d+1))/\(N0 (Z6i p q (d+1) x8)))))))) ((Q .ret (L2 [(4,.c (sU .op x8 (.own (.e 4 0)))),pB 5 true] []))))):
  A36 N [1,1,1,1,0,1,0,0] (Z6i p q d x8) (xT N0 (xB 0 (S36 N [1,1,1,1,1] Q))):=
 Eq.mpr V5 (h _ rfl _ (ZmA _) _ (Z0v _))
def ZG2(N:Nat)(p q:List Op):Prop:=AW (Z1 (Z54 N)) Tryz.f36 ZA0 [] (Zf (Zx4.can (p,q,())) []) (EQ Tryz.f36 (Z5s (p,q,())) [])
abbrev ZI5:Prop:=∀ (N:Nat) (p:List Op) (q:List Op) (_:Unit),Z7s (p,q,())->Ziv (p,q,()) < N+1->ZG2 N p q
def ZzT:Zb U:=lvl [([1,2],[1,2]),([1,2,13],[1,2]),([2,3,4],[2]),([1,2,30],[1,2]),([2,3,4],[2]),([1,2,42],[1,2]),([1,2,55,56,57],[1,2]),([1,2,55,56,57,58],[1,2]),([1,2,5,6,55,56,57],[1,2,6]),([1,2,55,56,57,70],[1,2]),([2,3,4],[2]),([1,2,55,56,57],[1,2]),([2,3,4],[2]),([1,2,74],[1,2]),([2,7,8],[2,7]),([2,3,4],[2]),([1,2,95],[1,2]),([2,9,10],[2,9]),([2,3,4],[2]),([2,11,12],[2,11]),([2,3,4],[2])]
def Z9P(x:Piece)(d:Int):LSt U:=(L2 [pL 1,pL 2,(55,.c (sU .tree x.p.l .unk)),pI 56 (x.p.l.length:Int),pI 57 d] [(.loc 1,(enc .piece x)),(.loc 2,zc1)])
abbrev A57(N:Nat)(p:List Nat):=AW (Z1 (Z54 N)) Tryz.f57 ZzT p
abbrev S57(N:Nat)(p:List Nat):=SW (Z1 (Z54 N)) Tryz.f57 ZzT p
theorem ZIR(N:Nat)(x:Piece)(Q:QT)(h:∀ aa,aa=(x.p.e)->∀ d,d=(x.q.e)->∀ ai,ai=(List.getD x.p.l (Int.toNat 0) Tree.nil)->∀ ah,ah=(List.getD x.q.l (Int.toNat 0) Tree.nil)->∀ ab,ab=ai->∀ ae,ae=ah->∀ af,af=(Zv (Zp aa))->∀ aj,aj=(Z3q ((doE false d ab).map Z0))->∀ ak,ak=(Z3q ((doE false af ae).map Z0))->let z0:=(!(x.of==1)) && (x.of==0);((Tt (!(x.of==1)))/\(Tt (!(x.of==1)))/\(Tt (!(x.of==1)))/\(Tt z0)/\(Tt z0)/\(Tt z0)/\((!(x.of==1))=true->(True->(!(x.of==1))=true))/\((!(x.of==1))=true->((x.of==0)=true->z0=true))/\((x.of==1)=false->(!(x.of==1))=true)/\(iB (bif (x.of==1) then true else (bif (x.of==0) then (x.q.kind==0) else false)) ((Q .ret (L2 [pL 2,pB 3 true,pB 4 true] [(.loc 2,(enc .op x.p))]))) ((Tt (!(x.of==2)))/\(Tt (!(x.of==2)))/\(Tt (!(x.of==2)))/\((x.of==2)=false->(!(x.of==2))=true)/\(iB (bif (x.of==2) then true else (x.p.kind==0)) ((Q .ret (L2 [pL 2,pB 3 true,pB 4 true] [(.loc 2,(enc .op x.q))]))) ((Tt (x.p.kind==2))/\(Tt (x.p.kind==2))/\(Tt (x.p.kind==2))/\(Tt (x.p.kind==2))/\(iB (bif (x.p.kind==2) then (x.q.kind==1) else false) ((Zk (A57 N [1,0,0,1,1,1,1,1,0,0,1,0,0]) (Z9P x 0) (xB 1 (S57 N [1,0,0,1,1,1,1,1,0,1] (xB 0 (S57 N [1,1] Q)))))) ((iB (x.p.kind==2) (((0:Int)<=0/\0 < (x.p.l.length:Int))/\(Z40 (d,ab,()))/\(Q .ret (L2 [pL 2,pB 3 true,pB 4 ((doE false d ab).isSome)] [(.loc 2,[ci 2,ci 0,sU .tree ([aj]) .full,ci 0,ci 0,.nils,.nils,ci 0,.nils,.nils,.nils,.nils,ci 0,.nils])]))) ((iB (x.q.kind==1) ((Z41 (aa,()))/\((0:Int)<=0/\0 < (x.q.l.length:Int))/\(Z40 (af,ae,()))/\(Q .ret (L2 [pL 2,pB 3 true,pB 4 ((doE false af ae).isSome)] [(.loc 2,[ci 1,ci 0,sU .tree ([ak]) .full,ci 0,ci 0,.nils,.nils,ci 0,.nils,.nils,.nils,.nils,ci 0,.nils])]))) ((Z5t (aa,d,()))/\(ZfI (aa,d,()) < N)/\(Q .ret (L2 [pL 2,pB 3 true,pB 4 ((Yy aa d).2)] [(.loc 2,([ci 3,ci 0,.nils]++enc .edit ((Yy aa d).1)))])))))))))))))):
  A57 N [] (L2 [(0,.agg (enc .piece x))] []) Q:=
 Eq.mpr V5 (h _ (Zg _) _ (Zg _) _ rfl _ rfl _ (Z3 _) _ (Z3 _) _ (Zg _) _ (Z3 _) _ (Z3 _))
theorem Zy7(N:Nat)(x:Piece)(d:Int)(N0:NT)(Q:QT)(h:∀ af,af=(x.p.l.getD d.toNat Tree.nil)->∀ ae,ae=(x.q.l.getD d.toNat Tree.nil)->∀ ab,ab=af->∀ aa,aa=ae->(iB (decide (d < (x.p.l.length:Int))) (((0:Int)<=d/\d < (x.p.l.length:Int))/\(((0:Int)<=d/\d < (x.q.l.length:Int))/\(Z2M (ab,aa,()))/\(iB (!(ZU (Z0 ab) (Z0 aa))) ((Q .ret (L2 [pL 2,pB 3 false,pB 4 false] [(.loc 2,zc1)]))) ((InR (d+1))/\(N0 (Z9P x (d+1))))))) ((Q .ret (L2 [pL 2,pB 3 false,pB 4 true] [(.loc 2,zc1)]))))):
  A57 N [1,0,0,1,1,1,1,1,0,0,1,0,0] (Z9P x d) (xT N0 (xB 1 (S57 N [1,0,0,1,1,1,1,1,0,1] (xB 0 (S57 N [1,1] Q))))):=
 Eq.mpr V5 (h _ rfl _ rfl _ (Z3 _) _ (Z3 _))
def ZFJ(N:Nat)(x:Piece):Prop:=AW (Z1 (Z54 N)) Tryz.f57 ZzT [] (Zf (Z5j.can (x,())) []) (EQ Tryz.f57 (Z5Q (x,())) [])
abbrev ZHW:Prop:=∀ (N:Nat) (x:Piece) (_:Unit),Z7p (x,())->Zis (x,()) < N+1->ZFJ N x
theorem Zze(c10:CT 10 Z04)(c17:CT 17 Z2e)(c38:CT 38 Yw)(c34:CT 34 Z4M)(c54:CT 54 Z4L)(c56:CT 56 Z4K)(b19:ZIb)(b35:ZI6)(b53:ZHY)(b55:ZHX)(b36:ZI5)(b57:ZHW):
  CT 19 ZaD/\CT 35 Zth/\CT 53 Zt9/\CT 55 Zt8/\CT 36 Ztg/\CT 57 Zt7:=by
 have ah:FK 19:=⟨Tryz.f19,Tryz.func19,rfl,rfl⟩
 have aj:FK 35:=⟨Tryz.f35,Tryz.func35,rfl,rfl⟩
 have ab:FK 53:=⟨Tryz.f53,Tryz.func53,rfl,rfl⟩
 have aa:FK 55:=⟨Tryz.f55,Tryz.func55,rfl,rfl⟩
 have ai:FK 36:=⟨Tryz.f36,Tryz.func36,rfl,rfl⟩
 have ae:FK 57:=⟨Tryz.f57,Tryz.func57,rfl,rfl⟩
 have d:∀ N,CT 19 (fs Z5o (fun a=> [Z5t a,ZfI a < N]) Z5T)/\CT 35 (fs Z5n (fun a=> [Z7t a,Ziw a < N]) Z97)/\CT 53 (fs Z5l (fun a=> [Z7r a,Ziu a < N]) Z5R)/\CT 55 (fs Z5k (fun a=> [Z7q a,Zit a < N]) Z7o)/\CT 36 (fs Zx4 (fun a=> [Z7s a,Ziv a < N]) Z5s)/\CT 57 (fs Z5j (fun a=> [Z7p a,Zis a < N]) Z5Q):=by
  intro N
  induction N with
  | zero=> exact ⟨Jz ah,Jz aj,Jz ab,Jz aa,Jz ai,Jz ae⟩
  | succ N ih=>
   have kn:=Z0w (l:=Z54 N) ⟨ih.1,ih.2.1,ih.2.2.1,ih.2.2.2.1,ih.2.2.2.2.1,ih.2.2.2.2.2,c10,c17,c38,c34,c54,c56,trivial⟩
   exact ⟨Zw (Γ:=Z1 (Z54 N)) Zd rfl kn ZEf Tryz.func19 rfl rfl (fun a=> by show 2<=_;decide) (fun ⟨p,q,_⟩ h=> b19 N p q () h.1 h.2.1),
    Zw (Γ:=Z1 (Z54 N)) Zd rfl kn ZDZ Tryz.func35 rfl rfl (fun a=> by show 2<=_;decide) (fun ⟨p,q,_⟩ h=> b35 N p q () h.1 h.2.1),
    Zw (Γ:=Z1 (Z54 N)) Zd rfl kn ZzU Tryz.func53 rfl rfl (fun a=> by show 4<=_;decide) (fun ⟨p,q,at_,one,_⟩ h=> b53 N p q at_ one () h.1 h.2.1),
    Zw (Γ:=Z1 (Z54 N)) Zd rfl kn ZE0 Tryz.func55 rfl rfl (fun a=> by show 2<=_;decide) (fun ⟨a,b,_⟩ h=> b55 N a b () h.1 h.2.1),
    Zw (Γ:=Z1 (Z54 N)) Zd rfl kn ZA0 Tryz.func36 rfl rfl (fun a=> by show 2<=_;decide) (fun ⟨p,q,_⟩ h=> b36 N p q () h.1 h.2.1),
    Zw (Γ:=Z1 (Z54 N)) Zd rfl kn ZzT Tryz.func57 rfl rfl (fun a=> by show 1<=_;decide) (fun ⟨x,_⟩ h=> b57 N x () h.1 h.2.1)⟩
 exact ⟨JA ah fun N=> (d N).1,JA aj fun N=> (d N).2.1,JA ab fun N=> (d N).2.2.1,JA aa fun N=> (d N).2.2.2.1,JA ai fun N=> (d N).2.2.2.2.1,JA ae fun N=> (d N).2.2.2.2.2⟩
end
theorem Z47(m:Int)(h0:0<=m)(h1:m < 256)(i:Nat):YK m (i:Int)=(BitVec.ofInt 8 m).toNat.testBit i:=by
 obtain ⟨n,rfl⟩:=QD h0
 have e:(BitVec.ofInt 8 ((n:Nat):Int)).toNat=n:=by simp;omega
 rw [e,Nat.testBit_eq_decide_div_mod_eq]
 unfold YK
 grind
theorem Zjj{a b:Int}(ha:0<=a/\a < 256)(hb:0<=b/\b < 256):(0<=ZcN a b/\ZcN a b < 256)/\∀ i:Nat,YK (ZcN a b) (i:Int)=(YK a (i:Int) && YK b (i:Int)):=by
 have d:(BitVec.ofInt 8 a &&& BitVec.ofInt 8 b).toNat < 256:=(BitVec.ofInt 8 a &&& BitVec.ofInt 8 b).isLt
 have e:ZcN a b=((BitVec.ofInt 8 a &&& BitVec.ofInt 8 b).toNat:Int):=by
  show IntKind.wrap .u8 ((BitVec.ofInt 8 a &&& BitVec.ofInt 8 b).toNat:Int)=_
  exact Zor V0 V0
 refine ⟨by rw [e];omega,fun i=> ?_⟩
 rw [Z47 _ (by rw [e];omega) (by rw [e];omega),e,Z47 a ha.1 ha.2,Z47 b hb.1 hb.2]
 grind
theorem ZuD{a b:Int}(ha:0<=a/\a < 256)(hb:0<=b/\b < 256):(0<=orM a b/\orM a b < 256)/\∀ i:Nat,YK (orM a b) (i:Int)=(YK a (i:Int) || YK b (i:Int)):=by
 have d:(BitVec.ofInt 8 a ||| BitVec.ofInt 8 b).toNat < 256:=(BitVec.ofInt 8 a ||| BitVec.ofInt 8 b).isLt
 have e:orM a b=((BitVec.ofInt 8 a ||| BitVec.ofInt 8 b).toNat:Int):=by
  show IntKind.wrap .u8 ((BitVec.ofInt 8 a ||| BitVec.ofInt 8 b).toNat:Int)=_
  exact Zor V0 V0
 refine ⟨by rw [e];omega,fun i=> ?_⟩
 rw [Z47 _ (by rw [e];omega) (by rw [e];omega),e,Z47 a ha.1 ha.2,Z47 b hb.1 hb.2]
 grind
def doW(w:WEdit)(x:Int):Option Int:=if mix 0 x w.mask=w.old then some (mix x w.new w.mask) else none
theorem ZcA(i:Nat):Zl 0 i=0:=by unfold Zl;simp
theorem Z39{w m:Int}(h:Y7 w m=true){i:Nat}(hi:i < 8)(hn:YK m i=false):Zl w i=0:=by
 have h:mix w 0 m=0:=of_decide_eq_true h
 have e:=congrArg (fun x=> Zl x i) h
 simp only [Z25 hi,Z26,hn,ZcA] at e
 simpa using e
theorem Js{a b m:Int}{i:Nat}(hi:i < 8):Zl (mix a b m) i=if YK m i=true then Zl b i else Zl a i:=by rw [Z25 hi];try rfl
theorem ZsB{a b:WEdit}(ra:J7 a)(rb:J7 b)(oa:Y7 a.old a.mask=true/\Y7 a.new a.mask=true)(ob:Y7 b.old b.mask=true/\Y7 b.new b.mask=true){x:Int}(hx:isW x):
  (∀ w,(YY a b).2=true->doW (YY a b).1 x=some w->∃ u v,doW a x=some u/\doW b u=some v/\w=v)/\
  (∀ u v,doW a x=some u->doW b u=some v->(YY a b).2=true/\∃ w,doW (YY a b).1 x=some w/\w=v):=by
 have A:=Zjj ra.2.1 rb.2.1
 have O:=ZuD ra.2.1 rb.2.1
 have ab:mix (mix x a.new a.mask) b.new b.mask=mix x (mix a.new b.new b.mask) (orM a.mask b.mask):=by
  refine Z1q (JI _ _ _) (JI _ _ _) fun i d=> ?_
  rw [Js d,Js d,Js d,Js d,O.2]
  cases YK a.mask i <;> cases YK b.mask i <;> simp
 refine ⟨fun w hc hw=> ?_,fun u v hu hv=> ?_⟩
 .unfold YY at hc hw
  by_cases ho:Zbr a b=true
  .rw [if_pos ho] at hw
   unfold doW at hw
   simp only at hw
   split at hw
   .rename_i ae
    cases hw
    have al:mix 0 a.new (ZcN a.mask b.mask)=mix 0 b.old (ZcN a.mask b.mask):=of_decide_eq_true ho
    have e1:mix 0 x a.mask=a.old:=by
     refine Z1q (JI _ _ _) ra.2.2.1 fun i d=> ?_
     have e:=congrArg (fun y=> Zl y i) ae
     simp only [Js d,O.2] at e
     rw [Js d]
     cases hn:YK a.mask i with
     | true=> rw [hn] at e;simpa using e
     | false=> rw [Z39 oa.1 d hn,ZcA];simp
    have e2:mix 0 (mix x a.new a.mask) b.mask=b.old:=by
     refine Z1q (JI _ _ _) rb.2.2.1 fun i d=> ?_
     have e:=congrArg (fun y=> Zl y i) ae
     have e':=congrArg (fun y=> Zl y i) al
     simp only [Js d,O.2] at e
     simp only [Js d,A.2] at e'
     rw [Js d,Js d]
     cases hb:YK b.mask i with
     | true=>
      cases ha:YK a.mask i with
      | true=> rw [ha,hb] at e';simpa using e'
      | false=> rw [ha,hb] at e;simpa using e
     | false=> rw [Z39 ob.1 d hb,ZcA];simp
    refine ⟨mix x a.new a.mask,mix (mix x a.new a.mask) b.new b.mask,?_,?_,ab.symm⟩
    .unfold doW;rw [if_pos e1]
    .unfold doW;rw [if_pos e2]
   .cases hw
  .rw [if_neg ho] at hc;cases hc
 .unfold doW at hu hv
  split at hu
  .rename_i e1
   cases hu
   split at hv
   .rename_i e2
    cases hv
    have ho:Zbr a b=true:=by
     refine decide_eq_true (Z1q (JI _ _ _) (JI _ _ _) fun i d=> ?_)
     have e:=congrArg (fun y=> Zl y i) e2
     simp only [Js d] at e
     rw [Js d,Js d,A.2]
     cases ha:YK a.mask i <;> cases hb:YK b.mask i <;> rw [ha,hb] at e <;> simp at e ⊢
     exact e
    unfold YY
    rw [if_pos ho]
    refine ⟨rfl,mix x (mix a.new b.new b.mask) (orM a.mask b.mask),?_,ab.symm⟩
    unfold doW
    simp only
    rw [if_pos]
    refine Z1q (JI _ _ _) (JI _ _ _) fun i d=> ?_
    have e:=congrArg (fun y=> Zl y i) e1
    have e':=congrArg (fun y=> Zl y i) e2
    simp only [Js d] at e e'
    rw [Js d,Js d,O.2]
    cases ha:YK a.mask i <;> cases hb:YK b.mask i <;> rw [ha] at e e' <;> rw [hb] at e' <;> simp at e e' ⊢
    all_goals first | exact e' | exact e | exact (ZcA i).symm.trans e' | exact (ZcA i).trans ((ZcA i).symm.trans e')
   .cases hv
  .cases hu
theorem Z8k(tw:List Int)(ws:List WEdit)(out:List Int):wsD tw ws out=mg 0 (Z1Z 0 doW WEdit.at_ tw) WEdit.at_ ws out:=Zhx tw ws out
theorem Z6s(tk:List Tree)(ks:List Kid)(out:List Tree):Jx false tk ks out=mg Tree.nil (Z1Z Tree.nil (fun k:Kid=> doE false k.e) KidOf.at_ tk) KidOf.at_ ks out:=by
 rw [Zd7]
 congr 1
 funext k
 exact Z4u false tk k
theorem Zqs(a b:WEdit)(h:(YY a b).2=true):(YY a b).1.at_=a.at_:=by
 unfold YY at h ⊢
 grind
theorem Jp{e:Edit}{d:Int}(h:Z7 e d=true):∀ o∈e.ops,YW o:=Z83 (Zq h).ops
theorem Z7x {f g:Edit->Edit->Edit × Bool} {p q:Edit} {d d':Int} (hp:Z7 p d=true) (hq:Z7 q d'=true)
  (h:∀ a b,Zc a+Zc b < Zc p+Zc q->(∃ d,Z7 a d=true)->(∃ d,Z7 b d=true)->f a b=g a b):JV f p q=JV g p q:=by
 have rp:=Zq hp
 have rq:=Zq hq
 have hk:Zj KidOf.at_ (Z1p f) p.kids q.kids=Zj KidOf.at_ (Z1p g) p.kids q.kids:=by
  have aj:∀ (k:Nat) (a b:List Kid),a.length+b.length<=k->(∀ x∈a,x∈p.kids)->(∀ x∈b,x∈q.kids)->Zj KidOf.at_ (Z1p f) a b=Zj KidOf.at_ (Z1p g) a b:=by
   intro k
   induction k with
   | zero=>
    intro a b hn _ _
    have e1:a=[]:=Q1 V0
    subst e1
    rw [Zj,Zj]
   | succ k ihk=>
    intro a b hn ha hb
    match a,b with
    | [],b=> rw [Zj,Zj]
    | x ::a,[]=> rw [Zj,Zj]
    | x ::a,y ::b=>
     simp only [Qd] at hn
     have hx:=Z1I (ha x Q5)
     have hy:=Z1I (hb y Q5)
     have e:Z1p f x y=Z1p g x y:=by
      unfold Z1p
      rw [h x.e y.e V0 ⟨_,(Ya rp.kids x (ha x Q5)).2⟩ ⟨_,(Ya rq.kids y (hb y Q5)).2⟩]
     rw [Zj,Zj,e,ihk a (y ::b) (by simp only [Qd];omega) (fun z hz=> ha z (Q3 _ hz)) hb,ihk (x ::a) b (by simp only [Qd];omega) ha (fun z hz=> hb z (Q3 _ hz)),
      ihk a b V0 (fun z hz=> ha z (Q3 _ hz)) (fun z hz=> hb z (Q3 _ hz))]
  exact aj _ _ _ (Qg _) (fun x hx=> hx) (fun x hx=> hx)
 have ho:Z0A f p.ops q.ops=Z0A g p.ops q.ops:=by
  unfold Z0A
  obtain ⟨i1,_⟩:=Z9f _ p.ops q.ops [] (Qg _) (Jp hp) (Jp hq)
  by_cases hb:(Yf 1 2 p.ops q.ops []).2.1=true
  .rw [if_pos hb,if_pos hb]
   obtain ⟨ps,e,ah,hA,hB⟩:=i1 hb
   rw [e,Qn]
   clear e i1 hb hA hB
   induction ps with
   | nil=> rfl
   | cons x r ihr=>
    have hx:=ah x Q5
    have e:ZA f x=ZA g x:=by
     unfold ZA
     by_cases h1:x.of=1\/(x.of=0/\x.q.kind=0)
     .grind
     rw [if_neg h1,if_neg h1]
     by_cases h2:x.of=2\/x.p.kind=0
     .grind
     rw [if_neg h2,if_neg h2]
     by_cases h3:x.p.kind=2/\x.q.kind=1
     .grind
     rw [if_neg h3,if_neg h3]
     by_cases h4:x.p.kind=2
     .grind
     rw [if_neg h4,if_neg h4]
     by_cases h5:x.q.kind=1
     .grind
     rw [if_neg h5,if_neg h5]
     have h0:x.of=0:=by rcases hx.of with h | h | h <;> omega
     obtain ⟨ay,av,hl⟩:=hx.both h0
     obtain ⟨⟨o1,m1,k1,e1,_⟩,op⟩:=hx.pp V0
     obtain ⟨⟨o2,m2,k2,e2,_⟩,oq⟩:=hx.qq V0
     have au:x.p.kind=3:=by rcases Yx op with h | h | h | h <;> omega
     have ax:x.q.kind=3:=by rcases Yx oq with h | h | h | h <;> omega
     have:=Z2V m1
     have:=Z2V m2
     have r1:=JR (rightOs_mem rp.ops m1) V0
     have r2:=JR (rightOs_mem rq.ops m2) V0
     rw [e1,e2,h o1.e o2.e V0 ⟨_,r1⟩ ⟨_,r2⟩]
    rw [Z0r,Z0r,e,ihr fun y hy=> ah y (Q3 _ hy)]
  .grind
 unfold JV
 rw [hk,ho]
theorem Zhk:∀ (n m:Nat) (p q:Edit) (d d':Int),Z7 p d=true->Z7 q d'=true->Zc p+Zc q<=n->n<=m->ZcL m p q=ZcL n p q:=by
 intro n
 induction n with
 | zero=> intro m p q d d' _ _ h;obtain ⟨k,o,nw,w,ks,l,os⟩:=p;simp only [Zc] at h;omega
 | succ n ih=>
  intro m p q d d' hp hq h hm
  obtain ⟨m,rfl⟩:∃ k,m=k+1:=⟨m - 1,V0⟩
  show JV (ZcL m) p q=JV (ZcL n) p q
  exact Z7x hp hq fun a b ak ⟨d1,h1⟩ ⟨d2,h2⟩=> ih m a b d1 d2 h1 h2 V0 V0
theorem Zhl{p q:Edit}{d d':Int}(hp:Z7 p d=true)(hq:Z7 q d'=true):Yy p q=JV Yy p q:=by
 have e:Yy p q=ZcL (Zc p+Zc q+1) p q:=(Zhk _ _ p q d d' hp hq (Qg _) V0).symm
 rw [e]
 show JV (ZcL (Zc p+Zc q)) p q=JV Yy p q
 exact Z7x hp hq fun a b ah ⟨d1,h1⟩ ⟨d2,h2⟩=> Zhk _ _ a b d1 d2 h1 h2 (Qg _) V0
theorem Zln(t:Tree):Eqv (Z0 t) t:=YN t
theorem ZAo{e:Edit}(h:e.kind=0)(t:Tree):doE false e t=some t:=by rw [JK,ZR,if_pos h]
theorem Zwt{e:Edit}(h:e.kind=1)(t:Tree):doE false e t=if ZU (Z0 e.old) (Z0 t)=true then some e.new else none:=by rw [JK,ZR,Yo,if_pos h]
theorem Zws{e:Edit}(h:e.kind=2)(t:Tree):doE false e t=if t.kind=1 then (wsD t.words e.words t.words).bind fun a=> (Jx false t.kids e.kids t.kids).map fun b=> .mk 1 a b else none:=by
 rw [JK,ZR,Yo,Yo,if_pos h]
theorem Zwr{e:Edit}(h:e.kind=3)(t:Tree):doE false e t=if t.kind=e.list then (Z28 (Zy false e.ops t.kids [])).map fun b=> .mk e.list [] b else none:=by
 rw [JK,ZR,Yo,Yo,Yo,if_pos h]
theorem Zqo(o n t:Tree):doE false (.mk 1 o n [] [] 0 []) t=if ZU (Z0 o) (Z0 t)=true then some n else none:=Zwt rfl t
theorem ZC1(w:List WEdit)(ks:List Kid)(t:Tree):doE false (.mk 2 Tree.nil Tree.nil w ks 0 []) t=if t.kind=1 then (wsD t.words w t.words).bind fun a=> (Jx false t.kids ks t.kids).map fun b=> .mk 1 a b else none:=Zws rfl t
theorem ZC0(l:Int)(os:List Op)(t:Tree):doE false (.mk 3 Tree.nil Tree.nil [] [] l os) t=if t.kind=l then (Z28 (Zy false os t.kids [])).map fun b=> .mk l [] b else none:=Zwr rfl t
theorem Zag{e:Edit}{t v:Tree}(h:doE false e t=some v):doB e t=(Z0 v,true):=by unfold doB;rw [h];try rfl
theorem Zlv{e:Edit}{t:Tree}(h:doE false e t=none):(doB e t).2=false:=by unfold doB;rw [h];try rfl
theorem YL{e:Edit}(h:Yi e):rng e.old/\rng e.new/\(∀ x∈e.words,J7 x)/\Z1h e.kids/\Z0k e.ops:=by
 obtain ⟨k,o,n,w,ks,l,os⟩:=e
 exact ⟨h.2.1,h.2.2.1,h.2.2.2.1,h.2.2.2.2.2.1,h.2.2.2.2.2.2⟩
theorem Zd0{e:Edit}{d:Int}(hr:Z7 e d=true)(he:Yi e){o:Op}(h:Part e.ops o):ROp o:=by
 obtain ⟨o',m,k,e1,_,l⟩:=h
 have ro:=rightOs_mem (Zq hr).ops m
 have rg:=Z3X (YL he).2.2.2.2 m
 have af:=Z1T rg
 refine ⟨fun h3=> ⟨⟨_,by rw [e1];exact JR ro V0⟩,by grind⟩,fun t ht=> ?_⟩
 have aa:=l t ht
 refine ⟨?_,J2 af.2.2.1 aa⟩
 have R:=Y9 ro
 by_cases h3:e.kind=3
 .have ab:=(Zq hr).list h3
  generalize e.list=li at R ab
  cases R with
  | keep=> cases aa
  | into=> cases aa
  | gone l1 h1=> exact ⟨-1,(Jo ab h1 t aa).2⟩
  | come l1 h1=> exact ⟨-1,(Jo ab h1 t aa).2⟩
 .have:=(Zq hr).ops0 h3
  grind
theorem ZiN{t:Tree}(h:RT_ t):∀ k∈t.kids,RT_ k:=h.kids.1
theorem Zwy {f:Edit->Edit->Edit × Bool} {p q:Edit} {d d':Int} (hp:Z7 p d=true) (hq:Z7 q d'=true) (gp:Yi p) (gq:Yi q) (k3:p.kind=3) (l3:q.kind=3) (hl:p.list=q.list)
  (ih:∀ a b,Zc a+Zc b < Zc p+Zc q->(∃ d,Z7 a d=true)->(∃ d,Z7 b d=true)->Yi a->Yi b->ComOk (f a b) a b):
  ComOk (.mk 3 Tree.nil Tree.nil [] [] p.list (ofO (Z0A f p.ops q.ops)),(Z0A f p.ops q.ops).isSome) p q:=by
 have bc:=(Zq hp).list k3
 have kp:∀ o∈p.ops,kOk o:=fun o ho=> Yx (Jp hp o ho)
 have kq:∀ o∈q.ops,kOk o:=fun o ho=> Yx (Jp hq o ho)
 obtain ⟨i1,i2⟩:=Z9f _ p.ops q.ops [] (Qg _) (Jp hp) (Jp hq)
 have ah:∀ ps:List Piece,(∀ x∈ps,POk p.ops q.ops x)->(∀ x∈ps,(x.of≠2->ROp x.p)/\(x.of≠1->ROp x.q))/\∀ x∈ps,x.p.kind=3->x.q.kind=3->x.of=0->ComOk (f x.p.e x.q.e) x.p.e x.q.e:=by
  intro ps aa
  refine ⟨fun x hx=> ⟨fun h=> Zd0 hp gp ((aa x hx).pp h).1,fun h=> Zd0 hq gq ((aa x hx).qq h).1⟩,fun x hx h1 h2 h0=> ?_⟩
  have aj:=aa x hx
  have s1:=(Zd0 hp gp (aj.pp V0).1).1 h1
  have s2:=(Zd0 hq gq (aj.qq V0).1).1 h2
  obtain ⟨o1,m1,_,e1,_⟩:=(aj.pp V0).1
  obtain ⟨o2,m2,_,e2,_⟩:=(aj.qq V0).1
  have:=Z2V m1
  have:=Z2V m2
  exact ih _ _ (by grind) s1.1 s2.1 s1.2 s2.2
 refine ⟨fun {t w} ht hc hw=> ?_,fun {t u v} ht hu hv=> ?_⟩
 .rw [ZC0] at hw
  split at hw
  .rename_i ak
   obtain ⟨b,hb,rfl⟩:=Qa.1 hw
   cases ab:Z0A f p.ops q.ops with
   | none=> grind
   | some ops=>
    rw [ab] at hb
    unfold Z0A at ab
    split at ab
    .rename_i al
     obtain ⟨ps,e,aa,hP,hQ⟩:=i1 al
     rw [e,Qn] at ab
     obtain ⟨f1,f2⟩:=ah ps aa
     have ai:∀ o∈ops,kOk o:=by
      have:∀ (ps:List Piece) (ops:List Op),(∀ x∈ps,POk p.ops q.ops x)->Z0r f ps=some ops->∀ o∈ops,kOk o:=by
       intro ps
       induction ps with
       | nil=> intro ops _ h o ho;cases h;cases ho
       | cons x r ihp=>
        intro ops aa h o ho
        rw [Z0r] at h
        split at h
        .obtain ⟨l,hl,rfl⟩:=Qa.1 h
         rcases Qj.1 ho with ho | ho
         .split at ho
          .rw [Q7.1 ho];exact Zo3 (aa x Q5)
          .cases ho
         grind
        .cases h
      exact this ps ops aa ab
     have hr:=(Z6S ai).1 hb
     obtain ⟨m,dd,r1,r2,he⟩:=Zev aa f1 f2 (ZiN ht) ab hr
     refine ⟨.mk p.list [] m,.mk q.list [] dd,?_,?_,?_⟩
     .rw [Zwr k3,if_pos ak,(Z6S kp).2 ((hP _ _).2 r1)];try rfl
     .rw [Zwr l3,if_pos (show (Tree.mk p.list [] m).kind=q.list from hl)]
      simp only [Tree.kids_mk]
      rw [(Z6S kq).2 ((hQ _ _).2 r2)];try rfl
     .rw [hl]
      exact Z61 _ _ he
    .cases ab
  .cases hw
 .rw [Zwr k3] at hu
  split at hu
  .rename_i ak
   obtain ⟨m,hm,rfl⟩:=Qa.1 hu
   rw [Zwr l3,if_pos (show (Tree.mk p.list [] m).kind=q.list from hl)] at hv
   simp only [Tree.kids_mk] at hv
   obtain ⟨dd,hd,rfl⟩:=Qa.1 hv
   have r1:=(Z6S kp).1 hm
   have r2:=(Z6S kq).1 hd
   cases al:(Yf 1 2 p.ops q.ops []).2.1 with
   | false=> grind
   | true=>
    obtain ⟨ps,e,aa,hP,hQ⟩:=i1 al
    obtain ⟨f1,f2⟩:=ah ps aa
    obtain ⟨ops,w,c1,c2,c3⟩:=Zew aa f1 f2 (ZiN ht) ((hP _ _).1 r1) ((hQ _ _).1 r2)
    have ab:Z0A f p.ops q.ops=some ops:=by unfold Z0A;grind
    have ai:Z28 (Zy false ops t.kids [])=some w:=by
     have:=Ztn c2 []
     unfold Z28
     rw [this]
     simp
    rw [ab]
    refine ⟨rfl,.mk p.list [] w,?_,?_⟩
    .rw [ZC0,if_pos ak]
     show (Z28 (Zy false ops t.kids [])).map _=_
     rw [ai];try rfl
    .rw [<-hl]
     exact Z61 _ _ c3
  .cases hu
theorem Zo2 {f:Edit->Edit->Edit × Bool} {p q:Edit} {d d':Int} (hp:Z7 p d=true) (hq:Z7 q d'=true) (gp:Yi p) (gq:Yi q) (k2:p.kind=2) (l2:q.kind=2)
  (ih:∀ a b,Zc a+Zc b < Zc p+Zc q->(∃ d,Z7 a d=true)->(∃ d,Z7 b d=true)->Yi a->Yi b->ComOk (f a b) a b):
  ComOk (if (Zj WEdit.at_ YY p.words q.words).isSome then
   (.mk 2 Tree.nil Tree.nil (ofO (Zj WEdit.at_ YY p.words q.words)) (ofO (Zj KidOf.at_ (Z1p f) p.kids q.kids)) 0 [],(Zj KidOf.at_ (Z1p f) p.kids q.kids).isSome) else (Edit.nil,false)) p q:=by
 have rp:=Zq hp
 have rq:=Zq hq
 have wp:=Z1x rp.words
 have wq:=Z1x rq.words
 have ap:=Z2X rp.kids
 have aq:=Z2X rq.kids
 have g1:=YL gp
 have g2:=YL gq
 have hw:∀ a∈p.words,∀ b∈q.words,∀ x,isW x->(∀ w,(YY a b).2=true->doW (YY a b).1 x=some w->∃ u v,doW a x=some u/\doW b u=some v/\w=v)/\
   (∀ u v,doW a x=some u->doW b u=some v->(YY a b).2=true/\∃ w,doW (YY a b).1 x=some w/\w=v):=by
  intro a ha b hb x hx
  have oa:=Jc rp.words a ha
  have ob:=Jc rq.words b hb
  exact ZsB (g1.2.2.1 a ha) (g2.2.2.1 b hb) oa.2.2.2 ob.2.2.2 hx
 have hk:∀ a∈p.kids,∀ b∈q.kids,ComOk (f a.e b.e) a.e b.e:=by
  intro a ha b hb
  have:=Z1I ha
  have:=Z1I hb
  exact ih _ _ V0 ⟨_,(Ya rp.kids a ha).2⟩ ⟨_,(Ya rq.kids b hb).2⟩ (Z0u g1.2.2.2.1 ha).2 (Z0u g2.2.2.2.1 hb).2
 have ah:∀ a b:Kid,a.at_=b.at_->(Z1p f a b).2=true->(Z1p f a b).1.at_=a.at_:=fun a b _ _=> rfl
 have af:∀ a b:WEdit,a.at_=b.at_->(YY a b).2=true->(YY a b).1.at_=a.at_:=fun a b _ h=> Zqs a b h
 refine ⟨fun {t w} ht hc ae=> ?_,fun {t u v} ht hu hv=> ?_⟩
 .cases hm:Zj WEdit.at_ YY p.words q.words with
  | none=> grind
  | some L=>
   cases hn:Zj KidOf.at_ (Z1p f) p.kids q.kids with
   | none=> grind
   | some M=>
    rw [hm,hn] at ae
    rw [if_pos (show (some L).isSome=true from rfl)] at ae
    rw [ZC1] at ae
    split at ae
    .rename_i t1
     obtain ⟨a,ha,ae⟩:=Qk.1 ae
     obtain ⟨b,hb,rfl⟩:=Qa.1 ae
     have ha:wsD t.words L t.words=some a:=ha
     have hb:Jx false t.kids M t.kids=some b:=hb
     rw [Z8k] at ha
     rw [Z6s] at hb
     obtain ⟨a1,a2,x1,x2,x3⟩:=ZhV (R:=Eq) af (fun x=> rfl) wp wq (fun a ha b hb e w hc ai=> (hw a ha b hb _ (ZhB (ZhY ht.2).2.1 _)).1 w hc ai) hm ha
     obtain ⟨b1,b2,y1,y2,y3⟩:=ZhV (R:=Eqv) ah (fun x=> rfl) ap aq (fun a ha b hb e w hc ai=> (hk a ha b hb).fwd (ZbA (ZiN ht) _) hc ai) hn hb
     refine ⟨.mk 1 a1 b1,.mk 1 a2 b2,?_,?_,?_⟩
     .rw [Zws k2,if_pos t1,Z8k,x1,Z6s,y1];try rfl
     .rw [Zws l2,if_pos (show (Tree.mk 1 a1 b1).kind=1 from rfl)]
      simp only [Tree.words_mk,Tree.kids_mk]
      rw [Z8k,x2,Z6s,y2];try rfl
     .exact (Z1P rfl rfl).2 ⟨x3,y3⟩
    .cases ae
 .rw [Zws k2] at hu
  split at hu
  .rename_i t1
   obtain ⟨a1,x1,hu⟩:=Qk.1 hu
   obtain ⟨b1,y1,rfl⟩:=Qa.1 hu
   rw [Zws l2,if_pos (show (Tree.mk 1 a1 b1).kind=1 from rfl)] at hv
   simp only [Tree.words_mk,Tree.kids_mk] at hv
   obtain ⟨a2,x2,hv⟩:=Qk.1 hv
   obtain ⟨b2,y2,rfl⟩:=Qa.1 hv
   rw [Z8k] at x1 x2
   rw [Z6s] at y1 y2
   obtain ⟨L,a,hm,ha,x3⟩:=ZoE (R:=Eq) af (fun x=> rfl) wp wq (fun a ha b hb e u v h1 h2=> (hw a ha b hb _ (ZhB (ZhY ht.2).2.1 _)).2 u v h1 h2) x1 x2
   obtain ⟨M,b,hn,hb,y3⟩:=ZoE (R:=Eqv) ah (fun x=> rfl) ap aq (fun a ha b hb e u v h1 h2=> (hk a ha b hb).bwd (ZbA (ZiN ht) _) h1 h2) y1 y2
   rw [hm,hn,if_pos (show (some L).isSome=true from rfl)]
   refine ⟨rfl,.mk 1 a b,?_,(Z1P rfl rfl).2 ⟨x3,y3⟩⟩
   rw [ZC1,if_pos t1]
   show (wsD t.words L t.words).bind _=_
   rw [Z8k,ha]
   show (Jx false t.kids M t.kids).map _=_
   rw [Z6s,hb];try rfl
  .cases hu
theorem Zsb {p q:Edit} {d d':Int} (hp:Z7 p d=true) (hq:Z7 q d'=true) (p0:¬p.kind=0) (p1:¬p.kind=1) (q0:¬q.kind=0) (q1:¬q.kind=1) (hd:p.kind≠q.kind\/p.list≠q.list)
  {t u v:Tree} (hu:doE false p t=some u) (hv:doE false q u=some v):False:=by
 have rp:=Zq hp
 have rq:=Zq hq
 have pk:=rp.kind
 have qk:=rq.kind
 obtain ⟨_,a2,a3,_⟩:=Z59 hp hu
 obtain ⟨_,b2,b3,_⟩:=Z59 hq hv
 by_cases p2:p.kind=2
 .have u1:=(a2 p2).1
  by_cases q2:q.kind=2
  .have e1:=(rp.ops0 V0).1
   have e2:=(rq.ops0 V0).1
   omega
  .have e1:=(b3 V0).2
   have e2:=rq.list V0
   omega
 .have u1:=(a3 V0).1
  have e0:=rp.list V0
  grind
theorem ZAq:∀ (n:Nat) (p q:Edit) (d d':Int),Zc p+Zc q<=n->Z7 p d=true->Z7 q d'=true->Yi p->Yi q->ComOk (ZcL n p q) p q:=by
 intro n
 induction n with
 | zero=> intro p q d d' h;obtain ⟨k,o,nw,w,ks,l,os⟩:=p;simp only [Zc] at h;omega
 | succ n ih=>
  intro p q d d' hn hp hq gp gq
  have rp:=Zq hp
  have rq:=Zq hq
  have ai:∀ a b,Zc a+Zc b < Zc p+Zc q->(∃ d,Z7 a d=true)->(∃ d,Z7 b d=true)->Yi a->Yi b->ComOk (ZcL n a b) a b:=by
   rintro a b hm ⟨d1,h1⟩ ⟨d2,h2⟩ g1 g2
   exact ih a b d1 d2 V0 h1 h2 g1 g2
  show ComOk (JV (ZcL n) p q) p q
  unfold JV
  by_cases p0:p.kind=0
  .rw [if_pos p0]
   exact ⟨fun {t w} _ _ hw=> ⟨t,w,ZAo p0 t,hw,rfl⟩,fun {t u v} _ hu hv=> by rw [ZAo p0] at hu;cases hu;exact ⟨rfl,v,hv,rfl⟩⟩
  rw [if_neg p0]
  by_cases q0:q.kind=0
  .rw [if_pos q0]
   exact ⟨fun {t w} _ _ hw=> ⟨w,w,hw,ZAo q0 w,rfl⟩,fun {t u v} _ hu hv=> by rw [ZAo q0] at hv;cases hv;exact ⟨rfl,u,hu,rfl⟩⟩
  rw [if_neg q0]
  by_cases p1:p.kind=1
  .rw [if_pos p1]
   refine ⟨fun {t w} _ hc hw=> ?_,fun {t u v} _ hu hv=> ?_⟩
   .rw [Zqo] at hw
    split at hw
    .rename_i hs
     cases hv:doE false q p.new with
     | none=> rw [Zlv hv] at hc;cases hc
     | some v=>
      rw [Zag hv] at hw
      cases hw
      exact ⟨p.new,v,by rw [Zwt p1,if_pos hs],hv,Zln v⟩
    .cases hw
   .rw [Zwt p1] at hu
    split at hu
    .rename_i hs
     cases hu
     rw [Zag hv]
     refine ⟨rfl,Z0 v,?_,Zln v⟩
     rw [Zqo,if_pos hs]
    .cases hu
  rw [if_neg p1]
  by_cases q1:q.kind=1
  .rw [if_pos q1]
   have ho:RT_ q.old:=⟨⟨_,(rq.rep q1).1⟩,(YL gq).1⟩
   refine ⟨fun {t w} ht hc hw=> ?_,fun {t u v} ht hu hv=> ?_⟩
   .rw [Zqo] at hw
    split at hw
    .rename_i hs
     cases hw
     cases hz:doE false (Zv (Zp p)) q.old with
     | none=> rw [Zlv hz] at hc;cases hc
     | some z=>
      rw [Zag hz,ZX,YN] at hs
      obtain ⟨y,hy,ao⟩:=ZjA hp gp ho hz hs
      refine ⟨y,q.new,hy,?_,rfl⟩
      rw [Zwt q1,if_pos]
      rw [ZX]
      exact ao.symm
    .cases hw
   .rw [Zwt q1] at hv
    split at hv
    .rename_i hs
     cases hv
     rw [ZX] at hs
     obtain ⟨z,hz,aq⟩:=Zjz hp gp ht ho hu hs.symm
     rw [Zag hz]
     refine ⟨rfl,q.new,?_,rfl⟩
     rw [Zqo,if_pos]
     rw [ZX,YN]
     exact aq
    .cases hv
  rw [if_neg q1]
  have pk:=rp.kind
  have qk:=rq.kind
  by_cases hd:p.kind≠q.kind\/p.list≠q.list
  .rw [if_pos hd]
   exact ⟨fun {t w} _ hc _=> (by cases hc),fun {t u v} _ hu hv=> (Zsb hp hq p0 p1 q0 q1 hd hu hv).elim⟩
  rw [if_neg hd]
  by_cases p2:p.kind=2
  .rw [if_pos p2]
   exact Zo2 hp hq gp gq p2 V0 ai
  .rw [if_neg p2]
   exact Zwy hp hq gp gq V0 V0 V0 ai
theorem ZEw{p q:Edit}{d d':Int}(hp:Z7 p d=true)(hq:Z7 q d'=true)(gp:Yi p)(gq:Yi q):ComOk (Yy p q) p q:=ZAq _ p q d d' (Qg _) hp hq gp gq
theorem Z0x{n:Nat}{rs:List ResultVar}{r r':V U}{X:List (List (C U))}{e:AExit}{s:LSt U}(hr:r=r')(h:JZ cfg n rs r' X e s):JZ cfg n rs r X e s:=by grind
theorem c52:Contract Tryz.prog cfg 52 ZdJ:=by
 refine ZDi c71 ?_
 intro p q _ hp
 obtain ⟨rp,d⟩:=hp
 dsimp only at rp d
 have A:=(Zjj rp.2.1 d.2.1).1
 refine ZIW _ _ _ ?_
 (simp only [iB,vcT,vcS])
 have z0:(0:Int)<=0/\(0:Int) < 18446744073709551616:=V2
 refine ⟨⟨z0,rp.2.2.2,A⟩,⟨z0,d.2.2.1,A⟩,fun h=> ?_,fun h=> ⟨⟨d.2.2.1,rp.2.2.1,rp.2.1⟩,⟨rp.2.2.2,d.2.2.2,d.2.1⟩,?_⟩⟩
 .have hn:Zbr p q=false:=decide_eq_false h
  refine Z0x (r':= .tup [(true,enc .wedit (⟨0,0,0,0⟩:WEdit)),(false,[.bool false])]) ?_ V1
  simp only [Zp3,YY]
  rw [hn]
  try rfl
 .have hn:Zbr p q=true:=decide_eq_true h
  refine Z0x (r':= .tup [(true,enc .wedit (⟨p.at_,orM p.mask q.mask,mix q.old p.old p.mask,mix p.new q.new q.mask⟩:WEdit)),(false,[.bool true])]) ?_ V1
  simp only [Zp3,YY]
  rw [hn]
  try rfl
theorem c51:Contract Tryz.prog cfg 51 ZdK:=by
 refine ZDj ?_
 intro w _ _
 exact ZIX _ _ (ZE rfl rfl)
theorem c54:Contract Tryz.prog cfg 54 Z4L:=by
 refine ZDh ?_
 intro w _ _
 exact ZIU _ _ (ZE rfl rfl)
theorem ZeN{α:Type}{at_:α->Int}{one:α->α->α × Bool}{p q:List α}(h:Zj at_ one p q=none):(Zj at_ one p q).isSome=false/\ofO (Zj at_ one p q)=[]:=by rw [h];trivial
structure MInv {α:Type} (at_:α->Int) (one:α->α->α × Bool) (p q x0 x1 out:List α):Prop where
 eq:Zj at_ one p q=(Zj at_ one x0 x1).map (out++·)
 len:out.length+x0.length+x1.length<=p.length+q.length
theorem MInv.left{α:Type}{at_:α->Int}{one:α->α->α × Bool}{p q d out:List α}{a:α}{x0:List α}(h:MInv at_ one p q (a ::x0) d out)(hb:∀ b∈d.head?,at_ a < at_ b):MInv at_ one p q x0 d (out++[a]):=by
 refine ⟨?_,by have:=h.len;grind⟩
 rw [h.eq]
 cases d with
 | nil=>
  rw [Zj]
  have:Zj at_ one x0 []=some x0:=by cases x0 <;> rw [Zj]
  grind
 | cons b r=>
  rw [Zj,if_pos (hb b (by simp))]
  cases Zj at_ one x0 (b ::r) <;> simp
theorem MInv.right{α:Type}{at_:α->Int}{one:α->α->α × Bool}{p q x0 out:List α}{b:α}{d:List α}(h:MInv at_ one p q x0 (b ::d) out)(hb:∀ a∈x0.head?,at_ b < at_ a):MInv at_ one p q x0 d (out++[b]):=by
 refine ⟨?_,by have:=h.len;grind⟩
 rw [h.eq]
 cases x0 with
 | nil=> rw [Zj,Zj];simp
 | cons a r=>
  have:=hb a (by simp)
  rw [Zj,Yo,if_pos this]
  cases Zj at_ one (a ::r) d <;> simp
theorem MInv.both{α:Type}{at_:α->Int}{one:α->α->α × Bool}{p q x0 d out:List α}{a b:α}(h:MInv at_ one p q (a ::x0) (b ::d) out)(e:at_ a=at_ b):
  ((one a b).2=true->MInv at_ one p q x0 d (out++[(one a b).1]))/\((one a b).2=false->Zj at_ one p q=none):=by
 refine ⟨fun hc=> ⟨?_,by have:=h.len;grind⟩,fun hc=> ?_⟩
 .rw [h.eq,Zj,Yo,Yo,if_pos hc]
  cases Zj at_ one x0 d <;> simp
 .rw [h.eq,Zj,Yo,Yo,if_neg (by grind)]
  try rfl
theorem MInv.done{α:Type}{at_:α->Int}{one:α->α->α × Bool}{p q out:List α}(h:MInv at_ one p q [] [] out):Zj at_ one p q=some out:=by
 rw [h.eq,Zj];simp
theorem MInv.left'{α:Type}{at_:α->Int}{one:α->α->α × Bool}{p q x0 d out:List α}(z:α)(h:MInv at_ one p q x0 d out)(hx:0 < x0.length)(hb:d.length=0\/at_ (x0.getD 0 z) < at_ (d.getD 0 z)):
  MInv at_ one p q (x0.drop 1) d (out++[x0.getD 0 z]):=by
 cases x0 with
 | nil=> simp at hx
 | cons a r=>
  refine h.left fun b aa=> ?_
  cases d with
  | nil=> simp at aa
  | cons c s=>
   grind
theorem MInv.right'{α:Type}{at_:α->Int}{one:α->α->α × Bool}{p q x0 d out:List α}(z:α)(h:MInv at_ one p q x0 d out)(hx:0 < d.length)(hb:x0.length=0\/at_ (d.getD 0 z) < at_ (x0.getD 0 z)):
  MInv at_ one p q x0 (d.drop 1) (out++[d.getD 0 z]):=by
 cases d with
 | nil=> simp at hx
 | cons a r=>
  refine h.right fun b aa=> ?_
  cases x0 with
  | nil=> simp at aa
  | cons c s=>
   grind
theorem MInv.both'{α:Type}{at_:α->Int}{one:α->α->α × Bool}{p q x0 d out:List α}(z:α)(h:MInv at_ one p q x0 d out)(h0:0 < x0.length)(h1:0 < d.length)(e:at_ (x0.getD 0 z)=at_ (d.getD 0 z)):
  ((one (x0.getD 0 z) (d.getD 0 z)).2=true->MInv at_ one p q (x0.drop 1) (d.drop 1) (out++[(one (x0.getD 0 z) (d.getD 0 z)).1]))/\((one (x0.getD 0 z) (d.getD 0 z)).2=false->Zj at_ one p q=none):=by
 cases x0 with
 | nil=> simp at h0
 | cons a r=>
  cases d with
  | nil=> simp at h1
  | cons b s=> exact h.both e
theorem c50:Contract Tryz.prog cfg 50 ZdL:=by
 refine ZDk c51 c52 ?_
 rintro p q ⟨⟩ ⟨⟩ _ hp
 obtain ⟨⟨rp,lp⟩,rq,lq⟩:=hp
 dsimp only at rp lp rq lq
 refine ZIY p q () () _ ?_
 refine Z8 (ι:=List WEdit × List WEdit × List WEdit) (fun x=> Z4i p q () () x.1 x.2.1 x.2.2) (fun x=> MInv WEdit.at_ YY p q x.1 x.2.1 x.2.2/\(∀ w∈x.1,J7 w)/\∀ w∈x.2.1,J7 w) (fun x=> x.1.length+x.2.1.length) (p,q,[]) rfl
  ⟨⟨by simp_all,by simp⟩,rp,rq⟩ ?_
 rintro ⟨x0,x1,d⟩ ⟨inv,r0,r1⟩
 dsimp only at inv r0 r1
 have aj:=inv.len
 refine Zy9 p q () () _ _ _ _ _ ?_
 intro y1 h1 y2 h2 y3 h3 y4 h4 y5 h5
 subst h3 h4
 (simp only [iB,vcT,vcS])
 have h3:y3=x0.getD 0 ⟨0,0,0,0⟩:=h1
 have h4:y4=x1.getD 0 ⟨0,0,0,0⟩:=h2
 have d0:∀ w∈x0.drop 1,J7 w:=fun w hw=> r0 w (Qm hw)
 have d1:∀ w∈x1.drop 1,J7 w:=fun w hw=> r1 w (Qm hw)
 refine ⟨fun aw=> ⟨fun h=> ⟨V0,V0⟩,fun _=> trivial,fun h=> ⟨V0,V0⟩,fun _=> trivial,fun g1 g2=> ⟨g1,g2⟩,fun hA=> ?_,fun hB=> ?_⟩,fun hE=> ?_⟩
 .refine ⟨⟨V0,V0⟩,by grind,⟨V0,V0⟩,(x0.drop 1,x1,d++[y3]),rfl,⟨?_,d0,r1⟩,by grind⟩
  rw [h3]
  exact inv.left' _ V0 (by grind)
 .refine ⟨fun h=> ⟨V0,V0⟩,fun _=> trivial,fun h=> ⟨V0,V0⟩,fun _=> trivial,fun hC=> ?_,fun hD=> ?_⟩
  .refine ⟨⟨V0,V0⟩,by grind,⟨V0,V0⟩,(x0,x1.drop 1,d++[y4]),rfl,⟨?_,r0,d1⟩,by grind⟩
   rw [h4]
   exact inv.right' _ V0 (by grind)
  .have hb:=inv.both' ⟨0,0,0,0⟩ V0 V0 (by grind)
   rw [<-h3,<-h4] at hb
   have m3:J7 y3:=by rw [h3];exact r0 _ (Zi V0 _)
   have m4:J7 y4:=by rw [h4];exact r1 _ (Zi V0 _)
   refine ⟨⟨V0,V0⟩,⟨V0,V0⟩,⟨m3,m4⟩,fun hc=> ?_,fun hc=> ?_⟩
   .have e:=ZeN (hb.2 hc)
    refine Z0x (r':= .tup [(false,[.slice (U:=U) .wedit [] .unk]),(false,[.bool false])]) ?_ V1
    simp only [Zp4]
    rw [e.1,e.2]
   .refine ⟨by grind,⟨V0,V0⟩,⟨V0,V0⟩,(x0.drop 1,x1.drop 1,d++[y5]),rfl,⟨?_,d0,d1⟩,by grind⟩
    grind
 .have e0:x0=[]:=Q1 V0
  have e1:x1=[]:=Q1 V0
  subst e0 e1
  have e:=inv.done
  refine Z0x (r':= .tup [(false,[.slice (U:=U) .wedit d .unk]),(false,[.bool true])]) ?_ V1
  simp only [Zp4]
  rw [e]
  try rfl
theorem c34:Contract Tryz.prog cfg 34 Z4M:=by
 refine ZDq c50 ?_
 intro p q _ d
 exact ZJc _ _ _ ⟨d,V1⟩
noncomputable def rp(f:Edit->Edit->Edit × Bool)(x:APair):List Op × Bool:=
 if x.of=1 then ([opU x.p],true) else if x.of=2 then ([opU x.q],true) else ZJy f x.p x.q
structure Alike (c r:Edit × Bool):Prop where
 ok:c.2=r.2
 nrm:c.2=true->Zv c.1=Zv r.1
section
variable {g:Edit->Edit->Edit × Bool}
end
theorem ZCI(l:Int)(os:List Op):Zv (.mk 3 Tree.nil Tree.nil [] [] l os)= .mk 3 Tree.nil Tree.nil [] [] l (Z9 (ZD l os ⟨[],[],[]⟩)).out:=by rfl
end Go.AM.YtnfbomhidainjaaGreat
namespace Go.AM.YtnfbomhidainjaaGreat
open Go.AM Go.Proofs
theorem Zfn(e:Edit):18<=ctE e:=by
 have:=Z5d e
 have:=ZM e.old
 have:=ZM e.new
 omega
theorem Zqr(o n:Tree):ctE (.mk 1 o n [] [] 0 [])=16+mass o+mass n:=by rfl
mutual
theorem Zaj:∀ (e:Edit),ctE (Zp e)=ctE e
 | .mk k o n w ks l os=> by
  have h1:=Zhe ks
  have d:=Zhd os
  simp only [Zp,ctE,QX]
  omega
theorem Zhe:∀ (ks:List (KidOf Edit)),Z0W (Yh ks)=Z0W ks
 | []=> rfl
 | k ::r=> by
  have h1:=ZnY k
  have d:=Zhe r
  simp only [Yh,Z0W]
  omega
theorem ZnY:∀ (k:KidOf Edit),Z2b (J6 k)=Z2b k
 | ⟨a,e⟩=> by
  have:=Zaj e
  simp only [J6,Z2b]
  omega
theorem Zhd:∀ (os:List (OpOf Edit)),J5 (Yn os)=J5 os
 | []=> rfl
 | o ::r=> by
  have h1:=Zs7 o
  have d:=Zhd r
  simp only [Yn,J5]
  omega
theorem Zs7:∀ (o:OpOf Edit),Z2h (Yg o)=Z2h o
 | ⟨k,n,l,e⟩=> by
  have:=Zaj e
  rw [Z00]
  dsimp only
  split
  .try rfl
  .split
   .try rfl
   .split
    .simp only [Z2h];omega
    .try rfl
end
theorem Z4w:∀ (a b:List Op),J5 (a++b)=J5 a+J5 b
 | [],b=> by simp [J5]
 | o ::r,b=> by simp only [Qp,J5,Z4w r b];omega
def ctW(w:Wst):Nat:=J5 w.out+(Z6 w.gone+if w.gone.length=0 then 0 else 34)+(Z6 w.brought+if w.brought.length=0 then 0 else 34)
theorem Z6u:ctE Edit.nil=18:=rfl
theorem Zfl(w:Wst):J5 (Z9 w).out=ctW w:=by
 simp only [Z9,Z0F,ctW,Z4w]
 by_cases h1:w.gone.length=0
 .rw [if_pos h1,if_pos h1,Q1 h1]
  by_cases h2:w.brought.length=0
  .rw [if_pos h2,if_pos h2,Q1 h2];try rfl
  .rw [if_neg h2,if_neg h2];simp only [J5,Z2h,Z6u,Z6];omega
 .rw [if_neg h1,if_neg h1]
  by_cases h2:w.brought.length=0
  .rw [if_pos h2,if_pos h2,Q1 h2];simp only [J5,Z2h,Z6u,Z6];omega
  .rw [if_neg h2,if_neg h2];simp only [J5,Z2h,Z6u];omega
theorem Zqq(w:Wst)(n:Int):ctW (Zx w n)<=ctW w+34:=by
 have h:=Zfl w
 have e:ctW (Zx w n)=J5 (Z1w (Z9 w).out n):=rfl
 rw [e,<-h]
 rcases JO (Z9 w).out n with e | ⟨a,q,e1,_,e3⟩
 .rw [e,Z4w];simp only [J5,Z2h,Z6u,Z6];omega
 .rw [e3,e1,Z4w,Z4w];simp only [J5,Z2h,Z5c];omega
mutual
theorem Zbp:∀ (e:Edit),ctE (Zv e)<=ctE e
 | .mk k o n w ks l os=> by
  have h1:=Zlz ks
  have d:=Zly l os ⟨[],[],[]⟩
  have h3:=ZY o
  have h4:=ZY n
  have:=ZM o
  have:=ZM n
  have hf:=Zfl (ZD l os ⟨[],[],[]⟩)
  have hz:ctW ⟨[],[],[]⟩=0:=rfl
  rw [Zv]
  split
  .simp only [ctE,Z0W,J5,Qr];omega
  .split
   .simp only [ctE,J5,Z12];omega
   .split
    .simp only [ctE,Z0W,Z12,Qr];omega
    .simp only [ctE,Z0W,J5,Z12,Qr];omega
theorem Zlz:∀ (ks:List (KidOf Edit)),Z0W (Jv ks)<=Z0W ks
 | []=> Qg _
 | k ::r=> by
  have h1:=Zs8 k
  have d:=Zlz r
  simp only [Jv,Z0W]
  omega
theorem Zs8:∀ (k:KidOf Edit),Z2b (Z0D k)<=Z2b k
 | ⟨a,e⟩=> by
  have:=Zbp e
  simp only [Z0D,Z2b]
  omega
theorem Zly(list:Int):∀ (os:List (OpOf Edit)) (w:Wst),ctW (ZD list os w)<=ctW w+J5 os
 | [],w=> Qg _
 | o ::r,w=> by
  have h1:=Zwx list o w
  have d:=Zly list r (JN list o w)
  simp only [ZD,J5]
  omega
theorem Zwx(list:Int):∀ (o:OpOf Edit) (w:Wst),ctW (JN list o w)<=ctW w+Z2h o
 | ⟨k,n,l,e⟩,w=> by
  have he:=Zbp e
  have d:=Zfn e
  have hl:=Z66 l
  have hc:=fun a b=> Z02 a b
  rw [JN]
  simp only [Z2h]
  split
  .have:=Zqq w n;omega
  .split
   .have:=Z02 w.gone (Z4 l)
    simp only [ctW]
    grind
   .split
    .have:=Z02 w.brought (Z4 l)
     simp only [ctW]
     grind
    .split
     .split
      .have:=Zqq w 1;omega
      .have hf:=Zfl w
       show J5 ((Z9 w).out++[⟨3,0,[],Zv e⟩])+_+_<=_
       rw [Z4w,hf]
       simp only [J5,Z2h,Z6,Qr,if_pos]
       omega
     .omega
end
def Z03(φ:Op->Int):List Op->Int
 | []=> 0
 | o ::r=> φ o+Z03 φ r
def Zst(φ:Op->Int):Prop:=∀ o n,YW o->1<=n->¬Z5 o<=n->φ (ZK o n)+φ (Z0t o n)=φ o
theorem ZjE{φ:Op->Int}(hφ:Zst φ){p:List Op}{n:Int}(hp:∀ o∈p,YW o)(hl:p.length≠0)(h1:1<=n):φ (ZK (p.getD 0 Op.nil) n)+Z03 φ (Y8 p n)=Z03 φ p/\∀ o∈Y8 p n,YW o:=by
 cases p with
 | nil=> grind
 | cons o r=>
  have ho:=hp o Q5
  unfold Y8
  simp only [Qz,X2,Xg]
  by_cases h:Z5 o<=n
  .rw [if_pos h]
   have e:ZK o n=o:=by unfold ZK;rw [if_pos h]
   rw [e]
   exact ⟨rfl,fun x d=> hp x (Q3 _ d)⟩
  .rw [if_neg h]
   refine ⟨by simp only [Z03];have:=hφ o n ho h1 h;omega,fun x d=> ?_⟩
   rcases Q9.1 d with rfl | d
   .exact (Zfr ho h1 h).1
   grind
theorem ZeB{φ ψ:Op->Int}(hφ:Zst φ)(hψ:Zst ψ)(a:Int):∀ (k:Nat) (p q:List Op) (out:List Piece),p.length+q.length<=k->(∀ o∈p,YW o)->(∀ o∈q,YW o)->(Yf a 2 p q out).2.1=true->
  ∃ d,(Yf a 2 p q out).1=out++d/\Z03 φ (Z3i d)=Z03 φ p/\Z03 ψ (Z3h d)=Z03 ψ q/\d.length<=p.length+q.length:=by
 intro k
 induction k with
 | zero=>
  intro p q out hk hp hq h
  have e1:p=[]:=Q1 V0
  have e2:q=[]:=Q1 V0
  subst e1 e2
  rw [Yf,dif_neg (by simp [sgl]),dif_neg (by simp [sgl]),dif_pos (by simp)]
  exact ⟨[],by simp,rfl,rfl,by simp⟩
 | succ k ih=>
  intro p q out hk hp hq h
  rw [Yf] at h ⊢
  by_cases h1:sgl a p=true
  .rw [dif_pos h1] at h ⊢
   obtain ⟨g1,_⟩:=Z3j.1 h1
   cases p with
   | nil=> grind
   | cons o r=>
    simp only [Qz,X2,Xg] at h ⊢
    obtain ⟨d,e,f1,f2,f3⟩:=ih r q _ (by grind) (fun x hx=> hp x (Q3 _ hx)) hq h
    refine ⟨⟨1,o,Op.nil⟩ ::d,by grind,?_,?_,by grind⟩
    .show Z03 φ (o ::Z3i d)=_
     simp only [Z03];omega
    .exact f2
  .rw [dif_neg h1] at h ⊢
   by_cases h2:sgl 2 q=true
   .rw [dif_pos h2] at h ⊢
    obtain ⟨g1,_⟩:=Z3j.1 h2
    cases q with
    | nil=> grind
    | cons o r=>
     simp only [Qz,X2,Xg] at h ⊢
     obtain ⟨d,e,f1,f2,f3⟩:=ih p r _ (by grind) hp (fun x hx=> hq x (Q3 _ hx)) h
     refine ⟨⟨2,Op.nil,o⟩ ::d,by grind,f1,?_,by grind⟩
     show Z03 ψ (o ::Z3h d)=_
     simp only [Z03];omega
   .rw [dif_neg h2] at h ⊢
    by_cases h3:p.length=0\/q.length=0
    .rw [dif_pos h3] at h ⊢
     by_cases h4:decide (p.length=0)=decide (q.length=0)
     .rw [if_pos h4]
      have h5:p.length=0/\q.length=0:=by
       have:=decide_eq_decide.1 h4
       omega
      rw [Q1 h5.1,Q1 h5.2]
      exact ⟨[],by simp,rfl,rfl,by simp⟩
     grind
    .rw [dif_neg h3] at h ⊢
     have l1:p.length≠0:=V0
     have l2:q.length≠0:=V0
     have p1:=JF (hp _ (Zi (l:=p) (i:=0) V0 Op.nil))
     have p2:=JF (hq _ (Zi (l:=q) (i:=0) V0 Op.nil))
     generalize hn:min (Z5 (p.getD 0 Op.nil)) (Z5 (q.getD 0 Op.nil))=n at h ⊢
     obtain ⟨s1,s2⟩:=ZjE hφ hp l1 (n:=n) V0
     obtain ⟨t1,t2⟩:=ZjE hψ hq l2 (n:=n) V0
     have c1:=Je p n l1
     have c2:=Je q n l2
     have c3:Z5 (p.getD 0 Op.nil)<=n->(Y8 p n).length < p.length:=fun h=> Jd p _ l1 h
     have c4:Z5 (q.getD 0 Op.nil)<=n->(Y8 q n).length < q.length:=fun h=> Jd q _ l2 h
     obtain ⟨d,e,f1,f2,f3⟩:=ih (Y8 p n) (Y8 q n) _ V0 s2 t2 h
     refine ⟨⟨0,ZK (p.getD 0 Op.nil) n,ZK (q.getD 0 Op.nil) n⟩ ::d,by grind,?_,?_,by grind⟩
     .show Z03 φ (ZK (p.getD 0 Op.nil) n ::Z3i d)=_
      simp only [Z03];omega
     .show Z03 ψ (ZK (q.getD 0 Op.nil) n ::Z3h d)=_
      simp only [Z03];omega
def φA(o:Op):Int:=if o.kind=2 then 0 else Z5 o
def φB(o:Op):Int:=if o.kind=1 then 0 else Z5 o
def φC(o:Op):Int:=Z6 o.l+ctE o.e - 18
theorem Zm5:∀ l,Z03 φA l=Z0h l
 | []=> rfl
 | o ::r=> by simp only [Z03,Z0h,φA,Zm5 r]
theorem Zm4:∀ l,Z03 φB l=Z0B l
 | []=> rfl
 | o ::r=> by simp only [Z03,Z0B,φB,Zm4 r]
theorem ZhJ:∀ l,Z03 φC l+34*l.length=J5 l
 | []=> rfl
 | o ::r=> by
  have:=ZhJ r
  simp only [Z03,J5,φC,Z5c,Qd]
  omega
theorem Zfs(o:Op)(n:Int):(Z0t o n).kind=o.kind:=by unfold Z0t;split <;> rfl
theorem ZlI{o:Op}{n:Int}(ho:YW o)(h1:1<=n)(hn:¬Z5 o<=n):Z5 (Z0t o n)=Z5 o - n:=by
 obtain ⟨_,_,v3,_⟩:=Z8m (a:=1) ho h1 hn
 have hl:=JG o
 rcases ho with ⟨k0,k1,k2,k3⟩ | ⟨k0,k1,k2,k3⟩ | ⟨k0,k1,k2⟩
 .unfold Z0t
  rw [if_pos k0,JG]
  grind
 .unfold Z0t
  rw [Yo,JG]
  grind
 omega
theorem ZCb:Zst φA:=by
 intro o n ho h1 d
 obtain ⟨_,_,v3,_⟩:=Z8m (a:=1) ho h1 d
 have:=ZlI ho h1 d
 unfold φA
 rw [Z4I,Zfs,v3,this]
 omega
theorem ZCa:Zst φB:=by
 intro o n ho h1 d
 obtain ⟨_,_,v3,_⟩:=Z8m (a:=1) ho h1 d
 have:=ZlI ho h1 d
 unfold φB
 rw [Z4I,Zfs,v3,this]
 omega
theorem ZC9:Zst φC:=by
 intro o n ho h1 d
 have hl:=JG o
 unfold φC ZK Z0t
 rw [if_neg d]
 rcases ho with ⟨k0,k1,k2,k3⟩ | ⟨k0,k1,k2,k3⟩ | ⟨k0,k1,k2⟩
 .rw [if_pos k0,if_pos k0]
  dsimp only
  rw [k3,k1,Z6u]
  simp [Z6]
 .rw [Yo,Yo]
  dsimp only
  have:=Z02 (o.l.take n.toNat) (o.l.drop n.toNat)
  rw [Ql] at this
  rw [k3,Z6u]
  omega
 omega
theorem Zdr{D list:Int}:∀ {l:List Tree},YB D list l=true->YB (-1) list l=true
 | [],_=> rfl
 | t ::r,h=> by
  simp only [YB,Q2] at h ⊢
  exact ⟨JD _ _ _ V2 h.1,Zdr h.2⟩
mutual
theorem Jq:∀ (e:Edit) (d m:Int),m < 0->Z7 e d=true->Z7 e m=true
 | .mk k o n w ks l os,d,m,hm,h=> by
  have h1:=ZbP ks
  have h2:=ZbN l os
  rw [Z7] at h ⊢
  split at h
  .cases h
  .rename_i a
   rw [Yo]
   split at h
   .cases h
   .rename_i b
    rw [if_neg b]
    split at h
    .rename_i c
     rw [if_pos c,Z8h hm]
     simp only [Q2] at h ⊢
     exact ⟨⟨JD _ _ _ V2 h.1.1,JD _ _ _ V2 h.1.2⟩,h.2⟩
    grind
theorem ZbP:∀ (ks:List (KidOf Edit)) (last d m:Int),m < 0->ZJ last ks d=true->ZJ last ks m=true
 | [],_,_,_,_,_=> rfl
 | k ::r,last,d,m,hm,h=> by
  simp only [ZJ,Q2] at h ⊢
  exact ⟨Zi4 k last d m hm h.1,ZbP r k.at_ d m hm h.2⟩
theorem Zi4:∀ (k:KidOf Edit) (last d m:Int),m < 0->J3 last k d=true->J3 last k m=true
 | ⟨a,e⟩,last,d,m,hm,h=> by
  simp only [J3,Q2] at h ⊢
  exact ⟨h.1,Jq e d m hm h.2⟩
theorem ZbN(list:Int):∀ (os:List (OpOf Edit)) (d m:Int),m < 0->ZO list os d=true->ZO list os m=true
 | [],_,_,_,_=> rfl
 | o ::r,d,m,hm,h=> by
  simp only [ZO,Q2] at h ⊢
  exact ⟨Zk1 list o d m hm h.1,ZbN list r d m hm h.2⟩
theorem Zk1(list:Int):∀ (o:OpOf Edit) (d m:Int),m < 0->Za list o d=true->Za list o m=true
 | ⟨k,n,l,e⟩,d,m,hm,h=> by
  have he:=Jq e d m hm
  rw [Za] at h ⊢
  split at h
  .grind
  .rename_i h0
   rw [if_neg h0]
   split at h
   .cases h
   .rename_i h1
    rw [if_neg h1]
    split at h
    .rename_i h2
     rw [if_pos h2,Z8h hm]
     simp only [Q2] at h ⊢
     exact ⟨⟨Zdr h.1.1,h.1.2⟩,h.2⟩
    grind
end
structure Wk (e:Edit):Prop where
 r:Z7 e (-1)=true
 g:Yi e
theorem Wk.of{e:Edit}{d:Int}(h:Z7 e d=true)(g:Yi e):Wk e:=⟨Jq e d _ V2 h,g⟩
theorem ZZ{n:Int}(h0:0<=n)(h9:n<=9):InR n:=V4
theorem ZaK{o n:Tree}(h1:Zh o (-1)=true)(h2:Zh n (-1)=true)(h3:o.kind≠10)(h4:n.kind≠10):Z7 (.mk 1 o n [] [] 0 []) (-1)=true:=by
 rw [Z7,if_neg V2,if_neg (by simp),if_pos rfl,Z8h V2,h1,h2]
 grind
theorem Zgr{w:List WEdit}{ks:List Kid}(h1:YA (-1) w=true)(h2:ZJ (-1) ks (-2)=true):Z7 (.mk 2 Tree.nil Tree.nil w ks 0 []) (-1)=true:=by
 rw [Z7,if_neg V2,if_neg (by simp [Z2j,Tree.nil]),if_neg V2,h1,show (-1:Int) - 1= -2 from rfl,h2]
 try rfl
theorem Zgq{l:Int}{os:List Op}(hl:2<=l/\l<=9)(h:ZO l os (-2)=true)(h1:Z2s os 0 < 1048576)(h2:Z2r os 0 < 1048576):Z7 (.mk 3 Tree.nil Tree.nil [] [] l os) (-1)=true:=by
 rw [Z7,if_neg V2,if_neg (by simp [Z2j,Tree.nil]),if_neg V2,show (-1:Int) - 1= -2 from rfl,h]
 simp only [YA,ZJ,Bool.true_and,Bool.and_true,Q2,decide_eq_true_eq]
 omega
theorem Z7A:∀ {l:List WEdit} {last:Int},asc WEdit.at_ last l->(∀ w∈l,w.at_<=65534/\w.mask≠0/\Y7 w.old w.mask=true/\Y7 w.new w.mask=true)->YA last l=true
 | [],_,_,_=> rfl
 | a ::r,last,h,hw=> by
  obtain ⟨h1,h2,h3,h4⟩:=hw a Q5
  simp only [YA,Q2,decide_eq_true_eq]
  exact ⟨⟨⟨⟨h.1,h1,h2⟩,h3⟩,h4⟩,Z7A h.2 fun w d=> hw w (Q3 _ d)⟩
theorem Z7R{d:Int}:∀ {l:List Kid} {last:Int},asc KidOf.at_ last l->(∀ k∈l,k.at_<=65534/\k.e.kind≠0/\Z7 k.e d=true)->ZJ last l d=true
 | [],_,_,_=> rfl
 | a ::r,last,h,hw=> by
  obtain ⟨h1,h2,h3⟩:=hw a Q5
  simp only [ZJ,ZbR,Q2,decide_eq_true_eq]
  exact ⟨⟨⟨h.1,h1,h2⟩,h3⟩,Z7R h.2 fun w aa=> hw w (Q3 _ aa)⟩
theorem Z7P{list d:Int}:∀ {l:List Op},(∀ o∈l,Za list o d=true)->ZO list l d=true
 | [],_=> rfl
 | a ::r,h=> by
  simp only [ZO,Q2]
  exact ⟨h a Q5,Z7P fun o ho=> h o (Q3 _ ho)⟩
theorem Z2x{D list:Int}:∀ {l:List Tree},(∀ t∈l,Zh (.mk list [] [t]) D=true)->YB D list l=true
 | [],_=> rfl
 | t ::r,h=> by
  simp only [YB,Q2]
  exact ⟨h t Q5,Z2x fun x d=> h x (Q3 _ d)⟩
theorem ZaJ{list:Int}(hl:2<=list/\list<=9){t:Tree}(h1:Z1m list t=true)(h2:Zh t (-1)=true):Zh (.mk list [] [t]) (-1)=true:=
 Zee hl (by simp) fun k d=> by grind
theorem Zpt{list n:Int}(h1:1<=n)(h2:n<=1048576)(d:Int):Za list ⟨0,n,[],Edit.nil⟩ d=true:=by
 rw [Za,if_pos rfl,Z2I]
 grind
theorem Z42{list k d:Int}{l:List Tree}(hk:k=1\/k=2)(h:YB (dT d) list l=true)(hl:l≠[]):Za list ⟨k,0,l,Edit.nil⟩ d=true:=by
 rw [Za,Yo,Yo,Yz,Z2I,h]
 have:=XA.2 hl
 grind
theorem Ziq{list d:Int}{e:Edit}(h:Z7 e d=true)(h0:e.kind≠0)(hl:7 < list)(hw:list=8\/e.kind=2\/e.kind=1/\e.old.kind=1/\e.new.kind=1):Za list ⟨3,0,[],e⟩ d=true:=by
 rw [Za,if_neg V2,if_neg V2,if_neg V2,h]
 grind
def Wl(list:Int)(e:Edit):Prop:=list=8\/e.kind=2\/e.kind=1/\e.old.kind=1/\e.new.kind=1
theorem Z0U(t:Tree):(Z0 t).kind=t.kind:=Z1K t
theorem Zar{w m:Int}(h:∀ i,i < 8->YK m (i:Nat)=false->Zl w i=0):Y7 w m=true:=by
 unfold Y7 mix of8
 rw [decide_eq_true_eq]
 have z:∀ i,i < 8->Z26 w 0 m i=0:=by
  intro i d
  unfold Z26
  split
  .exact ZcA i
  .grind
 grind
theorem ZxJ {a b:WEdit} (ra:J7 a) (rb:J7 b) (ha:a.at_<=65534/\a.mask≠0/\Y7 a.old a.mask=true/\Y7 a.new a.mask=true) (hb:Y7 b.old b.mask=true/\Y7 b.new b.mask=true)
  (hc:(YY a b).2=true):((YY a b).1.at_<=65534/\(YY a b).1.mask≠0/\Y7 (YY a b).1.old (YY a b).1.mask=true/\Y7 (YY a b).1.new (YY a b).1.mask=true)/\J7 (YY a b).1:=by
 have hw:Zbr a b=true:=by
  unfold YY at hc
  split at hc
  .assumption
  .cases hc
 have e:(YY a b).1=⟨a.at_,orM a.mask b.mask,mix b.old a.old a.mask,mix a.new b.new b.mask⟩:=by unfold YY;rw [if_pos hw]
 obtain ⟨m1,m2⟩:=ZuD ra.2.1 rb.2.1
 rw [e]
 dsimp only
 refine ⟨⟨ha.1,fun h=> ?_,Zar fun i hi d=> ?_,Zar fun i hi d=> ?_⟩,ra.1,m1,JI _ _ _,JI _ _ _⟩
 .refine ha.2.1 ?_
  have z:∀ i:Nat,YK a.mask (i:Int)=false:=by
   intro i
   have:=m2 i
   rw [h] at this
   have z0:YK 0 (i:Int)=false:=by unfold YK;simp
   rw [z0] at this
   cases d:YK a.mask (i:Int) with
   | false=> rfl
   | true=> grind
  have h0:=z 0;have h1:=z 1;have h2:=z 2;have h3:=z 3;have h4:=z 4;have h5:=z 5;have h6:=z 6;have h7:=z 7
  have:=ra.2.1
  simp only [YK,decide_eq_false_iff_not,QU] at h0 h1 h2 h3 h4 h5 h6 h7
  omega
 .rw [m2 i] at d
  simp only [QI] at d
  rw [Js hi,if_neg (by grind)]
  exact Z39 hb.1 hi d.2
 .rw [m2 i] at d
  simp only [QI] at d
  rw [Js hi,if_neg (by grind)]
  exact Z39 ha.2.2.2 hi d.1
def Zdt{β:Type}(φ:β->Nat):List β->Nat
 | []=> 0
 | a ::r=> φ a+Zdt φ r
theorem ZgQ{β:Type}{at_:β->Int}{one:β->β->β × Bool}(φ:β->Nat):∀ (k:Nat) (p q L:List β),p.length+q.length<=k->(∀ a∈p,∀ b∈q,(one a b).2=true->φ (one a b).1<=φ a+φ b)->Zj at_ one p q=some L->Zdt φ L<=Zdt φ p+Zdt φ q:=by
 intro k
 induction k with
 | zero=>
  intro p q L hk _ h
  have e1:p=[]:=Q1 V0
  have e2:q=[]:=Q1 V0
  subst e1 e2
  rw [Zj] at h
  grind
 | succ k ih=>
  intro p q L hk ho h
  match p,q with
  | [],q=> rw [Zj] at h;grind
  | a ::p,[]=> rw [Zj] at h;grind
  | a ::p,b ::q=>
   simp only [Qd] at hk
   rw [Zj] at h
   split at h
   .obtain ⟨L',d,rfl⟩:=Qa.1 h
    have:=ih p (b ::q) L' (by grind) (fun x hx y hy=> ho x (Q3 _ hx) y hy) d
    simp only [Zdt] at this ⊢;omega
   .split at h
    .obtain ⟨L',d,rfl⟩:=Qa.1 h
     have:=ih (a ::p) q L' (by grind) (fun x hx y hy=> ho x hx y (Q3 _ hy)) d
     simp only [Zdt] at this ⊢;omega
    .split at h
     .rename_i hc
      obtain ⟨L',d,rfl⟩:=Qa.1 h
      have:=ih p q L' V0 (fun x hx y hy=> ho x (Q3 _ hx) y (Q3 _ hy)) d
      have:=ho a Q5 b Q5 hc
      simp only [Zdt] at*;omega
     .cases h
theorem ZcR:∀ l:List Kid,Zdt Z2b l=Z0W l
 | []=> rfl
 | k ::r=> by simp only [Zdt,Z0W,ZcR r]
theorem Z8q{β:Type}:∀ l:List β,Zdt (fun _=> 1) l=l.length
 | []=> rfl
 | k ::r=> by simp only [Zdt,Qd,Z8q r];omega
theorem Zeb:∀ {l:List Kid},(∀ k∈l,InR k.at_/\Yi k.e)->Z1h l
 | [],_=> trivial
 | ⟨a,e⟩ ::r,h=> ⟨h _ Q5,Zeb fun k d=> h k (Q3 _ d)⟩
theorem ZjV:∀ {l:List Op},(∀ o∈l,YV o)->Z0k l
 | [],_=> trivial
 | o ::r,h=> ⟨h _ Q5,ZjV fun k d=> h k (Q3 _ d)⟩
structure ComWk (K:Prop) (c:Edit × Bool) (p q:Edit):Prop where
 wk:c.2=true->Wk c.1
 ct:K->c.2=true->ctE c.1+18<=ctE p+ctE q
 kind:p.kind≠0->q.kind≠0->c.2=true->c.1.kind≠0
 wl:∀ list,7 < list->list<=9->p.kind≠0->q.kind≠0->c.2=true->Wl list p->Wl list q->Wl list c.1
theorem ZiV{e:Edit}{t:Tree}(h:(doB e t).2=true):∃ v,doE false e t=some v/\(doB e t).1=Z0 v:=by
 unfold doB at h ⊢
 cases hv:doE false e t with
 | none=> grind
 | some v=> exact ⟨v,rfl,rfl⟩
theorem Z3m{t:Tree}{d:Int}(h:Zh t d=true):Zh (Z0 t) d=true:=Z20 t d h
theorem Wk.turn{p:Edit}(h:Wk p):Wk (Zv (Zp p)):=⟨Z0Q _ _ (YF _ _ h.r),Z2y _ _ (YF _ _ h.r) (Z3Y _ h.g)⟩
theorem Zcn{list:Int}(hl:2<=list/\list<=9){e:Edit}{t u:Tree}{d:Int}(hr:Z7 e d=true)(hd:doE false e t=some u)(h7:7 < list)(hw:Wl list e)(h0:e.kind≠0)(ht:Zh t (-1)=true):Z1m list u=true:=by
 obtain ⟨j1,j2,_,_⟩:=Z59 hr hd
 unfold Z1m
 rw [Yo]
 by_cases hl9:list=9
 .rw [if_pos hl9]
  refine decide_eq_true ?_
  rcases hw with q | q | q
  .omega
  .exact (j2 q).1
  .rw [j1 q.1];exact q.2.2
 .rw [if_neg hl9]
  exact decide_eq_true ((Z4t _ e d t u (Qg _) hr ht hd).2 h0)
theorem ZeZ{list:Int}(h7:7 < list){u:Tree}(h:Z1m list u=true):Z1m list (Z0 u)=true:=by
 unfold Z1m at h ⊢
 rw [Yo] at h ⊢
 rw [Z0U]
 exact h
theorem ZA9 {K:Prop} {f:Edit->Edit->Edit × Bool} {p q:Edit} (wp:Wk p) (wq:Wk q) (p3:p.kind=3) (hl:p.list=q.list)
  (ih:∀ a b,Zc a+Zc b < Zc p+Zc q->Wk a->Wk b->ComWk K (f a b) a b) {ps:List Piece} (e:(Yf 1 2 p.ops q.ops []).1=ps) (hb1:(Yf 1 2 p.ops q.ops []).2.1=true) {ops:List Op} (hc:Z0r f ps=some ops):
  (∀ o∈ops,Za p.list o (-2)=true/\YV o)/\Z0h ops=Z0h p.ops/\Z0B ops=Z0B q.ops/\(K->J5 ops<=J5 p.ops+J5 q.ops):=by
 have rp:=Zq wp.r
 have rq:=Zq wq.r
 have gp:=YL wp.g
 have gq:=YL wq.g
 have ae:=rp.list p3
 have op:=Jp wp.r
 have oq:=Jp wq.r
 have ca:ZO p.list p.ops (-2)=true:=rp.ops
 have b5:ZO p.list q.ops (-2)=true:=by rw [hl];exact rq.ops
 obtain ⟨i1,_⟩:=Z9f _ p.ops q.ops [] (Qg _) op oq
 obtain ⟨cu,e0,bi,_,_⟩:=i1 hb1
 obtain ⟨cw,e1,sA,sB,bh⟩:=ZeB ZCb ZCa 1 _ p.ops q.ops [] (Qg _) op oq hb1
 obtain ⟨cq,e2,sC,sD,_⟩:=ZeB ZC9 ZC9 1 _ p.ops q.ops [] (Qg _) op oq hb1
 rw [e,Qn] at e0 e1 e2
 subst e0 e1 e2
 have a6:∀ x∈ps,(x.of≠2->Za p.list x.p (-2)=true/\YV x.p)/\(x.of≠1->Za p.list x.q (-2)=true/\YV x.q):=by
  have one:∀ (l:List Op) (o:Op),(∀ o'∈l,Za p.list o' (-2)=true)->Z0k l->Part l o->YW o->Za p.list o (-2)=true/\YV o:=by
   intro l o hr hg ⟨o',m,k,e1,_,lt⟩ ho
   have R:=Y9 (hr o' m)
   have G:=Z1T (Z3X hg m)
   obtain ⟨kk,nn,ll,ee⟩:=o
   have k:kk=o'.kind:=k
   have e1:ee=o'.e:=e1
   have lt:∀ t∈ll,t∈o'.l:=lt
   have gl:Yd ll:=Z6C fun t ht=> J2 G.2.2.1 (lt t ht)
   cases R with
   | keep n1 a1 a2=>
    have k:kk=0:=k
    have e1:ee=Edit.nil:=e1
    subst k e1
    rcases ho with h | h | h
    .have hl:ll=[]:=h.2.1
     subst hl
     have h3:1<=nn/\nn<=1048576:=h.2.2.1
     exact ⟨Zpt h3.1 h3.2 _,ZZ V2 V2,V4,trivial,G.2.2.2⟩
    .have:=h.1;omega
    .have:=h.1;omega
   | gone l1 a1 a2=>
    have k:kk=1:=k
    have e1:ee=Edit.nil:=e1
    subst k e1
    rcases ho with h | h | h
    .have:=h.1;omega
    .have hn:nn=0:=h.2.1
     subst hn
     exact ⟨Z42 (.inl rfl) (Z2x fun t ht=> Z3b a1 t (lt t ht)) h.2.2.1,ZZ V2 V2,ZZ V2 V2,gl,G.2.2.2⟩
    .have:=h.1;omega
   | come l1 a1 a2=>
    have k:kk=2:=k
    have e1:ee=Edit.nil:=e1
    subst k e1
    rcases ho with h | h | h
    .have:=h.1;omega
    .have hn:nn=0:=h.2.1
     subst hn
     exact ⟨Z42 (.inr rfl) (Z2x fun t ht=> Z3b a1 t (lt t ht)) h.2.2.1,ZZ V2 V2,ZZ V2 V2,gl,G.2.2.2⟩
    .have:=h.1;omega
   | into e2 a1 a2 a3 a4=>
    have k:kk=3:=k
    have e1:ee=e2:=e1
    subst k e1
    rcases ho with h | h | h
    .have:=h.1;omega
    .have:=h.1;omega
    .have hn:nn=0:=h.2.1
     have hl:ll=[]:=h.2.2
     subst hn hl
     exact ⟨Ziq a1 a2 a3 a4,ZZ V2 V2,ZZ V2 V2,trivial,G.2.2.2⟩
  intro x hx
  have X:=bi x hx
  exact ⟨fun h=> one p.ops x.p (fun o ho=> rightOs_mem ca ho) gp.2.2.2.2 (X.pp h).1 (X.pp h).2,fun h=> one q.ops x.q (fun o ho=> rightOs_mem b5 ho) gq.2.2.2.2 (X.qq h).1 (X.qq h).2⟩
 have one:∀ x∈ps,(ZA f x).ok=true->((ZA f x).is=true->Za p.list (ZA f x).op (-2)=true/\YV (ZA f x).op)/\
   (φA (ZA f x).op*(if (ZA f x).is then 1 else 0)=(if x.of=2 then 0 else φA x.p))/\(φB (ZA f x).op*(if (ZA f x).is then 1 else 0)=(if x.of=1 then 0 else φB x.q))/\
   (K->(ZA f x).is=true->φC (ZA f x).op<=(if x.of=2 then 0 else φC x.p)+(if x.of=1 then 0 else φC x.q)):=by
  intro x hx d
  have X:=bi x hx
  obtain ⟨s1,s2⟩:=a6 x hx
  have al:∀ o:Op,0<=φC o:=fun o=> by unfold φC;have:=Zfn o.e;omega
  unfold ZA at d ⊢
  by_cases c1:x.of=1\/(x.of=0/\x.q.kind=0)
  .rw [if_pos c1] at d ⊢
   dsimp only
   have h2:x.of≠2:=V0
   rw [if_pos rfl,if_neg h2,if_neg h2]
   refine ⟨fun _=> s1 h2,V0,?_,fun _ _=> ?_⟩
   .rcases c1 with c | ⟨c,c'⟩
    .rw [if_pos c];unfold φB;rw [if_pos (X.one c)];try rfl
    .rw [Yo]
     obtain ⟨b1,b2,b3⟩:=X.both c
     unfold φB
     rw [if_neg b1,Yo,b3];omega
   .have:=al x.q
    split <;> omega
  rw [if_neg c1] at d ⊢
  by_cases c2:x.of=2\/x.p.kind=0
  .rw [if_pos c2] at d ⊢
   dsimp only
   have h2:x.of≠1:=V0
   rw [if_pos rfl,if_neg h2,if_neg h2]
   refine ⟨fun _=> s2 h2,?_,V0,fun _ _=> ?_⟩
   .by_cases c:x.of=2
    .rw [if_pos c];unfold φA;rw [if_pos (X.two c)];try rfl
    .rw [if_neg c]
     have c0:x.of=0:=by rcases X.of with h | h | h <;> omega
     obtain ⟨b1,b2,b3⟩:=X.both c0
     unfold φA
     rw [if_neg b2,Yo,b3];omega
   .have:=al x.p
    split <;> omega
  rw [if_neg c2] at d ⊢
  have c0:x.of=0:=by rcases X.of with h | h | h <;> omega
  obtain ⟨b1,b2,b3⟩:=X.both c0
  have h1:x.of≠1:=V0
  have h2:x.of≠2:=V0
  obtain ⟨u1,u2⟩:=s1 h2
  obtain ⟨v1,v2⟩:=s2 h1
  have bk:=(X.pp h2).2
  have az:=(X.qq h1).2
  have kp:x.p.kind=2\/x.p.kind=3:=by rcases Yx bk with k | k | k | k <;> omega
  have kq:x.q.kind=1\/x.q.kind=3:=by rcases Yx az with k | k | k | k <;> omega
  rw [if_neg h2,if_neg h2,if_neg h1,if_neg h1]
  by_cases c3:x.p.kind=2/\x.q.kind=1
  .rw [if_pos c3] at d ⊢
   dsimp only
   refine ⟨fun h=> (by cases h),?_,?_,fun _ h=> by cases h⟩
   .unfold φA;rw [if_pos c3.1];try rfl
   .unfold φB;rw [if_pos c3.2];try rfl
  rw [if_neg c3] at d ⊢
  have ak:∀ o:Op,o.kind=3->Za p.list o (-2)=true->YV o->(7 < p.list/\o.e.kind≠0/\Wl p.list o.e/\Wk o.e)/\o.l=[]:=by
   intro o k hr hg
   have R:=Y9 hr
   cases R with
   | keep | gone | come=> exact absurd k (by simp)
   | into e a1 a2 a3 a4=> exact ⟨⟨a3,a2,a4,⟨Jq _ _ _ V2 a1,(Z1T hg).2.2.2⟩⟩,rfl⟩
  have am:∀ o:Op,(o.kind=1\/o.kind=2)->Z5 o=1->YW o->Za p.list o (-2)=true->YV o->∃ t,o.l=[t]/\Z1m p.list t=true/\Zh t (-1)=true/\rng t/\o.e=Edit.nil:=by
   intro o k h1 ho hr hg
   have bh:=YP ho k
   have ao:o.l.length=1:=V0
   obtain ⟨t,ht⟩:∃ t,o.l=[t]:=by
    match h:o.l,ao with
    | [t],_=> exact ⟨t,rfl⟩
   have R:=Y9 hr
   have gt:=(Z1T hg).2.2.1
   rw [ht] at gt
   refine ⟨t,ht,?_⟩
   cases R with
   | keep=> exact absurd k (by simp)
   | into=> exact absurd k (by simp)
   | gone l a1 a2=> exact ⟨(Jo ae a1 t (by have ht:l=[t]:=ht;rw [ht];simp)).1,(Jo ae a1 t (by have ht:l=[t]:=ht;rw [ht];simp)).2,gt.1,rfl⟩
   | come l a1 a2=> exact ⟨(Jo ae a1 t (by have ht:l=[t]:=ht;rw [ht];simp)).1,(Jo ae a1 t (by have ht:l=[t]:=ht;rw [ht];simp)).2,gt.1,rfl⟩
  by_cases c4:x.p.kind=2
  .rw [if_pos c4] at d ⊢
   have aj:x.q.kind=3:=V0
   have ao:Z5 x.q=1:=Z0O aj
   obtain ⟨t,ht,t1,t2,t3,t4⟩:=am x.p (.inr c4) V0 bk u1 u2
   obtain ⟨⟨e1,e2,e3,e4⟩,e5⟩:=ak x.q aj v1 v2
   dsimp only at d ⊢
   rw [ht,Qz] at d ⊢
   obtain ⟨v,hv,ev⟩:=ZiV d
   rw [if_pos rfl,ev]
   have kv:=Zcn ae e4.r hv e1 e3 e2 t2
   have rv:=(Z4t _ _ _ t v (Qg _) e4.r t2 hv).1
   refine ⟨fun _=> ⟨Z42 (.inr rfl) ?_ (by simp),ZZ V2 V2,ZZ V2 V2,⟨Z0H _ (ZaH false _ _ v e4.g t3 hv),trivial⟩,?_⟩,?_,?_,fun _ _=> ?_⟩
   .rw [Z8h V2]
    exact Z2x fun y hy=> by rw [Q7.1 hy];exact ZaJ ae (ZeZ e1 kv) (Z3m rv)
   .rw [<-t4];exact (Z1T u2).2.2.2
   .unfold φA;rw [if_pos c4];try rfl
   .show (if (2:Int)=1 then (0:Int) else Z5 _)*1=(if x.q.kind=1 then 0 else Z5 x.q)
    rw [if_neg V2,Yo,ao];simp [Z5]
   .unfold φC
    dsimp only
    rw [ht,t4,e5]
    have:=Z9v false _ _ _ v e4.r hv
    have:=ZY v
    simp only [Z6,Z6u]
    omega
  rw [if_neg c4] at d ⊢
  have bb:x.p.kind=3:=V0
  have bd:Z5 x.p=1:=Z0O bb
  obtain ⟨⟨e1,e2,e3,e4⟩,e5⟩:=ak x.p bb u1 u2
  by_cases c5:x.q.kind=1
  .rw [if_pos c5] at d ⊢
   obtain ⟨t,ht,t1,t2,t3,t4⟩:=am x.q (.inl c5) V0 az v1 v2
   dsimp only at d ⊢
   rw [ht,Qz] at d ⊢
   obtain ⟨v,hv,ev⟩:=ZiV d
   have wt:=e4.turn
   have kt:(Zv (Zp x.p.e)).kind=x.p.e.kind:=by rw [Z43,Z1z]
   have b7:Wl p.list (Zv (Zp x.p.e)):=by
    rcases e3 with h | h | h
    .exact .inl h
    .exact .inr (.inl V0)
    .refine .inr (.inr ⟨V0,?_,?_⟩)
     .rw [(Z9m (Zp x.p.e) (by rw [Z1z];exact h.1)).1,Z0U,Zg0];exact h.2.2
     .rw [(Z9m (Zp x.p.e) (by rw [Z1z];exact h.1)).2,Z0U,Zg1];exact h.2.1
   rw [if_pos rfl,ev]
   have kv:=Zcn ae wt.r hv e1 b7 V0 t2
   have rv:=(Z4t _ _ _ t v (Qg _) wt.r t2 hv).1
   refine ⟨fun _=> ⟨Z42 (.inl rfl) ?_ (by simp),ZZ V2 V2,ZZ V2 V2,⟨Z0H _ (ZaH false _ _ v wt.g t3 hv),trivial⟩,?_⟩,?_,?_,fun _ _=> ?_⟩
   .rw [Z8h V2]
    exact Z2x fun y hy=> by rw [Q7.1 hy];exact ZaJ ae (ZeZ e1 kv) (Z3m rv)
   .rw [<-t4];exact (Z1T v2).2.2.2
   .show (if (1:Int)=2 then (0:Int) else Z5 _)*1=(if x.p.kind=2 then 0 else Z5 x.p)
    rw [if_neg V2,Yo,bd];simp [Z5]
   .unfold φB;rw [if_pos c5];try rfl
   .unfold φC
    dsimp only
    rw [ht,t4,e5]
    have:=Z9v false _ _ _ v wt.r hv
    have:=ZY v
    have:=Zbp (Zp x.p.e)
    rw [Zaj] at this
    simp only [Z6,Z6u]
    omega
  rw [if_neg c5] at d ⊢
  have aj:x.q.kind=3:=V0
  have ao:Z5 x.q=1:=Z0O aj
  obtain ⟨⟨f1,f2,f3,f4⟩,f5⟩:=ak x.q aj v1 v2
  dsimp only at d ⊢
  rw [if_pos rfl]
  obtain ⟨o1,m1,_,k1,_⟩:=(X.pp h2).1
  obtain ⟨o2,m2,_,k2,_⟩:=(X.qq h1).1
  have:=Z2V m1
  have:=Z2V m2
  have H:=ih x.p.e x.q.e (by rw [k1,k2];omega) e4 f4
  refine ⟨fun _=> ⟨Ziq (Jq _ _ _ V2 (H.wk d).r) (H.kind e2 f2 d) e1 (H.wl p.list e1 ae.2 e2 f2 d e3 f3),ZZ V2 V2,ZZ V2 V2,trivial,(H.wk d).g⟩,?_,?_,fun hK _=> ?_⟩
  .show (if (3:Int)=2 then (0:Int) else Z5 _)*1=(if x.p.kind=2 then 0 else Z5 x.p)
   rw [if_neg V2,Yo,bd];simp [Z5]
  .show (if (3:Int)=1 then (0:Int) else Z5 _)*1=(if x.q.kind=1 then 0 else Z5 x.q)
   rw [if_neg V2,Yo,ao];simp [Z5]
  .unfold φC
   dsimp only
   rw [e5,f5]
   have:=H.ct hK d
   simp only [Z6]
   omega
 have all:∀ (ps:List Piece) (ops:List Op),(∀ x∈ps,(ZA f x).ok=true->((ZA f x).is=true->Za p.list (ZA f x).op (-2)=true/\YV (ZA f x).op)/\
   (φA (ZA f x).op*(if (ZA f x).is then 1 else 0)=(if x.of=2 then 0 else φA x.p))/\(φB (ZA f x).op*(if (ZA f x).is then 1 else 0)=(if x.of=1 then 0 else φB x.q))/\
   (K->(ZA f x).is=true->φC (ZA f x).op<=(if x.of=2 then 0 else φC x.p)+(if x.of=1 then 0 else φC x.q)))->Z0r f ps=some ops->
   (∀ o∈ops,Za p.list o (-2)=true/\YV o)/\Z03 φA ops=Z03 φA (Z3i ps)/\Z03 φB ops=Z03 φB (Z3h ps)/\(K->Z03 φC ops<=Z03 φC (Z3i ps)+Z03 φC (Z3h ps))/\ops.length<=ps.length:=by
  intro ps
  induction ps with
  | nil=> intro ops _ h;cases h;exact ⟨fun o ho=> (by cases ho),rfl,rfl,fun _=> (by simp [Z3i,Z3h,Z03]),by simp⟩
  | cons x r ihp=>
   intro ops hx h
   rw [Z0r] at h
   split at h
   .rename_i d
    obtain ⟨l,bx,rfl⟩:=Qa.1 h
    obtain ⟨j1,j2,j3,j4,j5⟩:=ihp l (fun y hy=> hx y (Q3 _ hy)) bx
    obtain ⟨k1,k2,k3,k4⟩:=hx x Q5 d
    have al:∀ o:Op,0<=φC o:=fun o=> by unfold φC;have:=Zfn o.e;omega
    have c1:=al x.p
    have c2:=al x.q
    have bc:∀ φ:Op->Int,Z03 φ (Z3i (x ::r))=(if x.of=2 then 0 else φ x.p)+Z03 φ (Z3i r):=fun φ=> by
     simp only [Z3i]
     split <;> simp [Z03]
    have ay:∀ φ:Op->Int,Z03 φ (Z3h (x ::r))=(if x.of=1 then 0 else φ x.q)+Z03 φ (Z3h r):=fun φ=> by
     simp only [Z3h]
     split <;> simp [Z03]
    rw [bc,ay,bc,ay]
    by_cases his:(ZA f x).is=true
    .rw [if_pos his] at k2 k3
     rw [if_pos his]
     have k4:=fun hK=> k4 hK his
     simp only [Qp,Qn,Z03,Qd]
     refine ⟨fun o ho=> ?_,V0,V0,fun hK=> (by have:=k4 hK;have:=j4 hK;omega),V0⟩
     rcases Q9.1 ho with rfl | ho
     .exact k1 his
     .exact j1 o ho
    .rw [if_neg his] at k2 k3
     rw [if_neg his]
     simp only [Qn,Qd]
     refine ⟨j1,V0,V0,fun hK=> ?_,V0⟩
     have:=j4 hK
     have:0<=(if x.of=2 then 0 else φC x.p)+(if x.of=1 then 0 else φC x.q):=by split <;> split <;> omega
     omega
   .cases h
 obtain ⟨j1,j2,j3,j4,j5⟩:=all ps ops one hc
 rw [Zm5] at j2
 rw [Zm4] at j3
 rw [sA,Zm5] at j2
 rw [sB,Zm4] at j3
 have x1:=ZhJ ops
 have x2:=ZhJ p.ops
 have x3:=ZhJ q.ops
 exact ⟨j1,j2,j3,fun hK=> (by have:=j4 hK;omega)⟩
theorem ZyB {K:Prop} {f:Edit->Edit->Edit × Bool} {p q:Edit} (wp:Wk p) (wq:Wk q)
  (ih:∀ a b,Zc a+Zc b < Zc p+Zc q->Wk a->Wk b->ComWk K (f a b) a b):ComWk K (JV f p q) p q:=by
 have rp:=Zq wp.r
 have rq:=Zq wq.r
 have gp:=YL wp.g
 have gq:=YL wq.g
 have cp:=Zfn p
 have cq:=Zfn q
 have ap:=Z5d p
 have aq:=Z5d q
 unfold JV
 by_cases p0:p.kind=0
 .rw [if_pos p0]
  exact ⟨fun _=> wq,fun _ _=> by dsimp only;omega,fun h=> absurd p0 h,fun _ _ _ h=> absurd p0 h⟩
 rw [if_neg p0]
 by_cases q0:q.kind=0
 .rw [if_pos q0]
  exact ⟨fun _=> wp,fun _ _=> by dsimp only;omega,fun _ h=> absurd q0 h,fun _ _ _ _ h=> absurd q0 h⟩
 rw [if_neg q0]
 by_cases p1:p.kind=1
 .rw [if_pos p1]
  obtain ⟨r1,r2,r3,r4⟩:=rp.rep p1
  have aa:(doB q p.new).2=true->(Zh (doB q p.new).1 (-1)=true/\(doB q p.new).1.kind≠10)/\rng (doB q p.new).1/\mass (doB q p.new).1+18<=mass p.new+ctE q/\∀ list,7 < list->list<=9->p.new.kind=1->list=9->Wl list q->(doB q p.new).1.kind=1:=by
   intro d
   obtain ⟨v,hv,e⟩:=ZiV d
   rw [e]
   obtain ⟨x1,x2⟩:=Z4t _ q _ p.new v (Qg _) wq.r r2 hv
   refine ⟨⟨Z3m x1,by rw [Z0U];exact x2 q0⟩,Z0H _ (ZaH false q _ v wq.g gp.2.1 hv),?_,fun list h7 h9 hk bw hw=> ?_⟩
   .have:=Z9v false q _ _ v wq.r hv
    have:=ZY v
    omega
   .rw [Z0U]
    obtain ⟨j1,j2,_,_⟩:=Z59 wq.r hv
    rcases hw with h | h | h
    .omega
    .exact (j2 h).1
    .rw [j1 h.1];exact h.2.2
  refine ⟨fun d=> ?_,fun _ d=> ?_,fun _ _ _=> (show (1:Int)≠0 by decide),fun list h7 h9 _ _ d hp hq=> ?_⟩
  .obtain ⟨⟨k1,k2⟩,k3,_,_⟩:=aa d
   exact ⟨ZaK r1 k1 r3 k2,ZZ V2 V2,gp.1,k3,by simp,ZZ V2 V2,trivial,trivial⟩
  .obtain ⟨_,_,k4,_⟩:=aa d
   rw [Zqr]
   omega
  .by_cases h8:list=8
   .exact .inl h8
   .have ai:p.kind=1/\p.old.kind=1/\p.new.kind=1:=by
     rcases hp with h | h | h
     .exact absurd h h8
     .omega
     .exact h
    exact .inr (.inr ⟨rfl,ai.2.1,(aa d).2.2.2 list h7 h9 ai.2.2 V0 hq⟩)
 rw [if_neg p1]
 by_cases q1:q.kind=1
 .rw [if_pos q1]
  obtain ⟨r1,r2,r3,r4⟩:=rq.rep q1
  have wt:=wp.turn
  have kt:(Zv (Zp p)).kind=p.kind:=by rw [Z43,Z1z]
  have aa:(doB (Zv (Zp p)) q.old).2=true->(Zh (doB (Zv (Zp p)) q.old).1 (-1)=true/\(doB (Zv (Zp p)) q.old).1.kind≠10)/\rng (doB (Zv (Zp p)) q.old).1/\mass (doB (Zv (Zp p)) q.old).1+18<=mass q.old+ctE p/\(p.kind=2->(doB (Zv (Zp p)) q.old).1.kind=1):=by
   intro d
   obtain ⟨v,hv,e⟩:=ZiV d
   rw [e]
   obtain ⟨x1,x2⟩:=Z4t _ _ _ q.old v (Qg _) wt.r r1 hv
   refine ⟨⟨Z3m x1,by rw [Z0U];exact x2 V0⟩,Z0H _ (ZaH false _ _ v wt.g gq.1 hv),?_,fun hk=> ?_⟩
   .have:=Z9v false _ _ _ v wt.r hv
    have:=ZY v
    have:=Zbp (Zp p)
    rw [Zaj] at this
    omega
   .rw [Z0U]
    exact ((Z59 wt.r hv).2.1 V0).1
  refine ⟨fun d=> ?_,fun _ d=> ?_,fun _ _ _=> (show (1:Int)≠0 by decide),fun list h7 h9 _ _ d hp hq=> ?_⟩
  .obtain ⟨⟨k1,k2⟩,k3,_,_⟩:=aa d
   exact ⟨ZaK k1 r2 k2 r4,ZZ V2 V2,k3,gq.2.1,by simp,ZZ V2 V2,trivial,trivial⟩
  .obtain ⟨_,_,k4,_⟩:=aa d
   rw [Zqr]
   omega
  .by_cases h8:list=8
   .exact .inl h8
   .have ay:q.kind=1/\q.old.kind=1/\q.new.kind=1:=by
     rcases hq with h | h | h
     .exact absurd h h8
     .omega
     .exact h
    refine .inr (.inr ⟨rfl,(aa d).2.2.2 ?_,ay.2.2⟩)
    rcases hp with h | h | h
    .exact absurd h h8
    .exact h
    .exact absurd h.1 p1
 rw [if_neg q1]
 by_cases hd:p.kind≠q.kind\/p.list≠q.list
 .rw [if_pos hd]
  exact ⟨fun h=> (by cases h),fun _ h=> (by cases h),fun _ _ h=> (by cases h),fun _ _ _ _ _ h=> (by cases h)⟩
 rw [if_neg hd]
 by_cases p2:p.kind=2
 .rw [if_pos p2]
  have q2:q.kind=2:=V0
  have awp:=Jc rp.words
  have ax:=Jc rq.words
  have ab:=Ya rp.kids
  have af:=Ya rq.kids
  have aw:∀ a b:WEdit,a.at_=b.at_->(YY a b).2=true->(YY a b).1.at_=a.at_:=fun a b _ h=> Zqs a b h
  have av:∀ a b:Kid,a.at_=b.at_->(Z1p f a b).2=true->(Z1p f a b).1.at_=a.at_:=fun a b _ _=> rfl
  have hk:∀ a∈p.kids,∀ b∈q.kids,ComWk K (f a.e b.e) a.e b.e:=by
   intro a ha b d
   have:=Z1I ha
   have:=Z1I d
   exact ih a.e b.e V0 (.of (ab a ha).2 (Z0u gp.2.2.2.1 ha).2) (.of (af b d).2 (Z0u gq.2.2.2.1 d).2)
  cases hL:Zj WEdit.at_ YY p.words q.words with
  | none=> exact ⟨fun h=> (by cases h),fun _ h=> (by cases h),fun _ _ h=> (by cases h),fun _ _ _ _ _ h=> (by cases h)⟩
  | some L=>
   rw [if_pos (show (some L).isSome=true from rfl)]
   cases hM:Zj KidOf.at_ (Z1p f) p.kids q.kids with
   | none=> exact ⟨fun h=> (by cases h),fun _ h=> (by cases h),fun _ _ h=> (by cases h),fun _ _ _ _ _ h=> (by cases h)⟩
   | some M=>
    have S:=(Z2T aw _ p.words q.words (-1) (Qg _) (Z1x rp.words) (Z1x rq.words)).2 L hL
    have T:=(Z2T av _ p.kids q.kids (-1) (Qg _) (Z2X rp.kids) (Z2X rq.kids)).2 M hM
    have hw:∀ w∈L,(w.at_<=65534/\w.mask≠0/\Y7 w.old w.mask=true/\Y7 w.new w.mask=true)/\J7 w:=by
     intro w hw
     rcases S.of w hw with ⟨h,_⟩ | ⟨h,_⟩ | ⟨a,ha,b,d,_,hc,rfl⟩
     .exact ⟨(awp w h).2,gp.2.2.1 w h⟩
     .exact ⟨(ax w h).2,gq.2.2.1 w h⟩
     .exact ZxJ (gp.2.2.1 a ha) (gq.2.2.1 b d) (awp a ha).2 (ax b d).2.2.2 hc
    have hm:∀ k∈M,(k.at_<=65534/\k.e.kind≠0/\Z7 k.e (-2)=true)/\InR k.at_/\Yi k.e:=by
     intro k bd
     rcases T.of k bd with ⟨h,_⟩ | ⟨h,_⟩ | ⟨a,ha,b,d,_,hc,rfl⟩
     .exact ⟨⟨(ab k h).1.2.1,(ab k h).1.2.2,Jq _ _ _ V2 (ab k h).2⟩,Z0u gp.2.2.2.1 h⟩
     .exact ⟨⟨(af k h).1.2.1,(af k h).1.2.2,Jq _ _ _ V2 (af k h).2⟩,Z0u gq.2.2.2.1 h⟩
     .have H:=hk a ha b d
      have hc:(f a.e b.e).2=true:=hc
      exact ⟨⟨(ab a ha).1.2.1,H.kind (ab a ha).1.2.2 (af b d).1.2.2 hc,Jq _ _ _ V2 (H.wk hc).r⟩,(Z0u gp.2.2.2.1 ha).1,(H.wk hc).g⟩
    refine ⟨fun _=> ⟨Zgr (Z7A S.asc_ fun w h=> (hw w h).1) (Z7R T.asc_ fun k h=> (hm k h).1),?_⟩,fun hK _=> ?_,fun _ _ _=> (show (2:Int)≠0 by decide),fun _ _ _ _ _ _ _ _=> .inr (.inl rfl)⟩
    .exact ⟨ZZ V2 V2,Z0Y,Z0Y,fun w h=> (hw w h).2,ZZ V2 V2,Zeb fun k h=> (hm k h).2,trivial⟩
    .have c1:=ZgQ (fun _=> 1) _ _ _ _ (Qg _) (fun a _ b _ _=> by omega) hL
     have c2:=ZgQ Z2b _ _ _ _ (Qg _) (fun a ha b d hc=> by
      have H:=hk a ha b d
      have hc:(f a.e b.e).2=true:=hc
      have:=H.ct hK hc
      rw [Z4x,Z4x,Z4x]
      show 65600+ctE (f a.e b.e).1<=_
      omega) hM
     rw [Z8q,Z8q,Z8q] at c1
     rw [ZcR,ZcR,ZcR] at c2
     have mo:=ZM p.old;have mn:=ZM p.new;have bi:=ZM q.old;have a8:=ZM q.new
     simp only [ctE,J5,ofO,Xc,Z12]
     omega
 .rw [if_neg p2]
  have p3:p.kind=3:=by have:=rp.kind;omega
  have q3:q.kind=3:=V0
  have hl:p.list=q.list:=V0
  have bh:=rp.list p3
  have op:=Jp wp.r
  have oq:=Jp wq.r
  unfold Z0A
  by_cases hb1:(Yf 1 2 p.ops q.ops []).2.1=true
  .rw [if_pos hb1]
   cases hc:Z0r f (Yf 1 2 p.ops q.ops []).1 with
   | none=> exact ⟨fun h=> (by cases h),fun _ h=> (by cases h),fun _ _ h=> (by cases h),fun _ _ _ _ _ h=> (by cases h)⟩
   | some ops=>
    obtain ⟨j1,j2,j3,j4⟩:=ZA9 wp wq p3 hl ih rfl hb1 hc
    have au:∀ o∈ops,0<=Z5 o:=fun o ho=> Z2p (Z7Q (j1 o ho).1)
    have lA:=Z4d ops 0 au V2 V2
    have lB:=Z4c ops 0 au V2 V2
    have mA:=Z4d p.ops 0 (fun o ho=> Z2p (op o ho)) V2 V2
    have mB:=Z4c q.ops 0 (fun o ho=> Z2p (oq o ho)) V2 V2
    have t1:=rp.len.1
    have t2:=rq.len.2
    refine ⟨fun _=> ⟨?_,?_⟩,fun hK _=> ?_,fun _ _ _=> (show (3:Int)≠0 by decide),fun list h7 h9 _ _ _ ai ay=> ?_⟩
    .refine Zgq bh (Z7P fun o ho=> (j1 o ho).1) ?_ ?_
     .rw [show ofO (some ops)=ops from rfl];omega
     .rw [show ofO (some ops)=ops from rfl];omega
    .refine ⟨ZZ V2 V2,Z0Y,Z0Y,by simp,?_,trivial,ZjV fun o ho=> (j1 o ho).2⟩
     unfold InR;omega
    .have j4:=j4 hK;have mo:=ZM p.old;have mn:=ZM p.new;have bi:=ZM q.old;have a8:=ZM q.new
     simp only [ctE,Z0W,ofO,Xc,Z12,Qr]
     omega
    .rcases ai with h | h | h
     .exact .inl h
     .omega
     .omega
  .rw [if_neg hb1]
   exact ⟨fun h=> (by cases h),fun _ h=> (by cases h),fun _ _ h=> (by cases h),fun _ _ _ _ _ h=> (by cases h)⟩
theorem ZEv:∀ (n:Nat) (p q:Edit),Zc p+Zc q<=n->Wk p->Wk q->ComWk True (ZcL n p q) p q:=by
 intro n
 induction n with
 | zero=> intro p q h;obtain ⟨k,o,nw,w,ks,l,os⟩:=p;simp only [Zc] at h;omega
 | succ n ih=>
  intro p q hn wp wq
  exact ZyB wp wq fun a b ae wa d=> ih a b V0 wa d
end Go.AM.YtnfbomhidainjaaGreat
