import Derived.Test.YtpjenobkibfpcaaGreatZCL25j
import Derived.Test.YtpjenobkibfpcaaGreatZKL21t
import Derived.Test.YtpjenobkibfpcaaGreatZKRB07
set_option linter.all false
open Option renaming some->A,none->aT
open Bool renaming true->Y,false->I
open List renaming length->J,getD->aR
open Int renaming toNat->G
namespace Go.AM.YtpjenobkibfpcaaGreat
open Go.AM Go.Proofs
theorem Zj6{aK V}:∀{l},Jx aK V l=Y->Jx (-1) V l=Y|[],_=>rfl|t::r,h=>by simp only[Jx,Q9]at h⊢;exact⟨ru _ _ _ V1 h.1,Zj6 h.2⟩
mutual theorem Yu:∀(e:W)(d m:Int),m<0->Z3 e d=Y->Z3 e m=Y
 |.mk k o n w ks l os,d,m,hm,h=>by
  have s:=Zh3 ks;have h2:=Zh1 l os;rw[Z3]at h⊢;split at h;.cases h
  .rename_i a;rw[Q0 O];split at h;.cases h
   .rename_i b;rw[Q0 b];split at h;.rename_i c;rw[Q5 c,vc hm];simp only[Q9]at h⊢;exact⟨⟨ru _ _ _ V1 h.1.1,ru _ _ _ V1 h.1.2⟩,h.2⟩
    grind theorem Zh3:∀(ks:List (aW W))(s d m:Int),m<0->ZJ s ks d=Y->ZJ s ks m=Y
 |[],_,_,_,_,_=>rfl|k::r,s,d,m,hm,h=>by
  simp only[ZJ,Q9]at h⊢;exact⟨ZoR k s d m hm h.1,Zh3 r k.S d m hm h.2⟩theorem ZoR:∀(k:aW W)(s d m:Int),m<0->n7 s k d=Y->n7 s k m=Y|⟨a,e⟩,s,d,m,hm,h=>by simp only[n7,Q9]at h⊢;exact⟨h.1,Yu e d m hm h.2⟩theorem Zh1(V:Int):∀(os:List (bI W))(d m:Int),m<0->ZK V os d=Y->ZK V os m=Y|[],_,_,_,_=>rfl|o::r,d,m,hm,h=>by simp only[ZK,Q9]at h⊢;exact⟨ZrW V o d m hm h.1,Zh1 V r d m hm h.2⟩theorem ZrW(V:Int):∀(o:bI W)(d m:Int),m<0->Zg V o d=Y->Zg V o m=Y|⟨k,n,l,e⟩,d,m,hm,h=>by have s:=Yu e d m hm;grind[Zg,vc,Zj6]end
structure Wk(e:W):Prop where
 r:Z3 e (-1)=true
 g:Ye e
theorem Wk.of{e d}(h:Z3 e d=Y)(g:Ye e):Wk e:=⟨Yu e d _ V1 h,g⟩
theorem YI{n}(h:0<=n)(s:n<=9):bQ n:=V3
theorem Zmt{o n}(h1:Zf o (-1)=Y)(s:Zf n (-1)=Y)(h:o.D≠10)(h4:n.D≠10):Z3 (.mk 1 o n [] [] 0 []) (-1)=Y:=by grind[Z3,vc]
theorem Zms{w}{ks:List bP}(s:Ya (-1) w=Y)(h:ZJ (-1) ks (-2)=Y):Z3 (.mk 2 H.nil H.nil w ks 0 []) (-1)=Y:=by rw[Z3,Q0 V1,Q0 (by simp[JF,H.nil]),Q0 V1,s,show(-1:Int)-1=-2 from rfl,h];try rfl
theorem Wq{l}{os:List Op}(hl:2<=l/\l<=9)(h:ZK l os (-2)=Y)(h1:iT os 0<1048576)(s:iR os 0<1048576):Z3 (.mk 3 H.nil H.nil [] [] l os) (-1)=Y:=by simp_all[Z3,JF,H.nil,Ya,ZJ]
theorem VE:∀{l s},dM aV.S s l->(∀w∈l,w.S<=65534/\w.a_≠0/\Y2 w.bH w.a_=Y/\Y2 w.new w.a_=Y)->Ya s l=Y|[],_,_,_=>rfl|a::r,s,h,hw=>by obtain⟨h1,h2,h3,h4⟩:=hw a Q6;simp only[Ya,Q9,Qh];exact⟨⟨⟨⟨h.1,h1,h2⟩,h3⟩,h4⟩,VE h.2 λw aa=>hw w (Q4 _ aa)⟩
theorem U4{d}:∀{l:List bP}{s},dM aW.S s l->(∀k∈l,k.S<=65534/\k.e.D≠0/\Z3 k.e d=Y)->ZJ s l d=Y|[],_,_,_=>rfl|a::r,s,h,hw=>by obtain⟨h1,h2,h3⟩:=hw a Q6;simp only[ZJ,FT,Q9,Qh];exact⟨⟨⟨h.1,h1,h2⟩,h3⟩,U4 h.2 λw aa=>hw w (Q4 _ aa)⟩
theorem Ly{V d}:∀{l:List Op},(∀o∈l,Zg V o d=Y)->ZK V l d=Y|[],_=>rfl|a::r,h=>by simp only[ZK,Q9];exact⟨h a Q6,Ly λo s=>h o (Q4 _ s)⟩
theorem sd{aK V}:∀{l},(∀t∈l,Zf (.mk V [] [t]) aK=Y)->Jx aK V l=Y|[],_=>rfl|t::r,h=>by simp only[Jx,Q9];exact⟨h t Q6,sd λx s=>h x (Q4 _ s)⟩
theorem Zmr{V}(hl:2<=V/\V<=9){t}(h1:ic V t=Y)(h:Zf t (-1)=Y):Zf (.mk V [] [t]) (-1)=Y:=Zjv hl (by simp) λk s=>by grind
theorem Mp{V n}(s:1<=n)(h:n<=1048576)(d):Zg V ⟨0,n,[],W.nil⟩ d=Y:=by grind[Zg,Ff]
theorem u0{V k d l}(s:k=1\/k=2)(h:Jx (dT d) V l=Y)(hl:l≠[]):Zg V ⟨k,0,l,W.nil⟩ d=Y:=by rw[Zg,Q0 O,Q0 O,Q5 O,Ff,h];grind[List.length_pos_iff]
theorem NS{V d e}(h:Z3 e d=Y)(s:e.D≠0)(hl:7<V)(hw:V=8\/e.D=2\/e.D=1/\e.bH.D=1/\e.new.D=1):Zg V ⟨3,0,[],e⟩ d=Y:=by grind[Zg]
def Wl(V:Int)(e:W):Prop:=V=8\/e.D=2\/e.D=1/\e.bH.D=1/\e.new.D=1
theorem yv(t):(Z2 t).D=t.D:=CY t
theorem Ry{w m}(h:∀i,i<8->Zu m (i:Nat)=I->Z8 w i=0):Y2 w m=Y:=by simp_all[Y2,cS,ki,JR,vG]
theorem ZHV{a b}(ra:gN a)(rb:gN b)(ha:a.S<=65534/\a.a_≠0/\Y2 a.bH a.a_=Y/\Y2 a.new a.a_=Y)(hb:Y2 b.bH b.a_=Y/\Y2 b.new b.a_=Y)(L:(Jk a b).2=Y):((Jk a b).1.S<=65534/\(Jk a b).1.a_≠0/\Y2 (Jk a b).1.bH (Jk a b).1.a_=Y/\Y2 (Jk a b).1.new (Jk a b).1.a_=Y)/\gN (Jk a b).1:=by
 have hw:sF a b=Y:=by
  unfold Jk at L;split at L;.assumption
  .cases L
 have e:(Jk a b).1=⟨a.S,lh a.a_ b.a_,cS b.bH a.bH a.a_,cS a.new b.new b.a_⟩:=by unfold Jk;rw[if_pos hw]
 obtain⟨m1,m2⟩:=Pu ra.2.1 rb.2.1;rw[e];dsimp only;refine⟨⟨ha.1,λh=>?_,Ry λi hi s=>?_,Ry λi hi s=>?_⟩,ra.1,m1,JT _ _ _,JT _ _ _⟩
 .refine ha.2.1 ?_;have z:∀i:Nat,Zu a.a_ (i:Int)=I:=by
   intro i;have:=m2 i;rw[h]at this;have z0:Zu 0 (i:Int)=I:=by unfold Zu;simp
   rw[z0]at this;cases s:Zu a.a_ (i:Int)with|false=>rfl|true=>grind
  have h0:=z 0;have h1:=z 1;have h2:=z 2;have h3:=z 3;have h4:=z 4;have h5:=z 5;have h6:=z 6;have h7:=z 7;have:=ra.2.1;simp only[Zu,Xp,Kp]at h0 h1 h2 h3 h4 h5 h6 h7;omega
 .rw[m2 i]at s;simp only[QJ]at s;rw[J7 hi,Q0 (by grind)];exact zT hb.1 hi s.2
 .rw[m2 i]at s;simp only[QJ]at s;rw[J7 hi,Q0 (by grind)];exact zT ha.2.2.2 hi s.1
def oT{β:Type}(φ:β->Nat):List β->Nat|[]=>0|a::r=>φ a+oT φ r
theorem M4{β S cE}(φ):∀k(p q aB:List β),J p+J q<=k->(∀a∈p,∀b∈q,(cE a b).2=Y->φ (cE a b).1<=φ a+φ b)->Zk S cE p q=A aB->oT φ aB<=oT φ p+oT φ q:=by intro k;induction k with|zero=>simp_all[Zk]|succ k ih=>intro p q aB hk ho h;match p,q with
  |[],q=>rw[Zk]at h;grind|a::p,[]=>rw[Zk]at h;grind|a::p,b::q=>
   simp only[Qd]at hk;rw[Zk]at h;split at h;.obtain⟨L',hL,rfl⟩:=Qf.1 h;have:=ih p (b::q) L' (by grind) (λx hx y s=>ho x (Q4 _ hx) y s) hL;simp only[oT]at this⊢;omega
   .split at h;.obtain⟨L',hL,rfl⟩:=Qf.1 h;have:=ih (a::p) q L' (by grind) (λx hx y s=>ho x hx y (Q4 _ s)) hL;simp only[oT]at this⊢;omega
    .split at h;.rename_i L;obtain⟨L',hL,rfl⟩:=Qf.1 h;have:=ih p q L' O (λx hx y s=>ho x (Q4 _ hx) y (Q4 _ s)) hL;have:=ho a Q6 b Q6 L;simp only[oT]at*;omega
     .cases h
theorem Ns:∀l:List bP,oT nA l=gY l|[]=>rfl|k::r=>by simp only[oT,gY,Ns r]
theorem xy{β}:∀l:List β,oT (λ_=>1) l=J l|[]=>rfl|k::r=>by simp only[oT,Qd,xy r];omega
theorem Oy:∀{l:List bP},(∀k∈l,bQ k.S/\Ye k.e)->kG l|[],_=>trivial|⟨a,e⟩::r,h=>⟨h _ Q6,Oy λk s=>h k (Q4 _ s)⟩
theorem Fx:∀{l:List Op},(∀o∈l,Jt o)->jQ l|[],_=>trivial|o::r,h=>⟨h _ Q6,Fx λk s=>h k (Q4 _ s)⟩
structure gJ(K:Prop)(c:W×Bool)(p q:W):Prop where
 wk:c.2=true->Wk c.1
 ct:K->c.2=true->dZ c.1+18<=dZ p+dZ q
 D:p.D≠0->q.D≠0->c.2=true->c.1.D≠0
 wl:∀V,7<V->V<=9->p.D≠0->q.D≠0->c.2=true->Wl V p->Wl V q->Wl V c.1
theorem vU{e t}(h:(dX e t).2=Y):∃v,bX I e t=A v/\(dX e t).1=Z2 v:=by unfold dX at h⊢;cases hv:bX I e t with|none=>grind|some v=>exact⟨v,rfl,rfl⟩
theorem N6{t d}(h:Zf t d=Y):Zf (Z2 t) d=Y:=DT t d h
theorem Wk.tu{p}(h:Wk p):Wk (Zd (Zm p)):=⟨Jz _ _ (Jn _ _ h.r),rE _ _ (Jn _ _ h.r) (CF _ h.g)⟩
theorem ZhH{V}(hl:2<=V/\V<=9){e t u d}(h:Z3 e d=Y)(s:bX I e t=A u)(h7:7<V)(hw:Wl V e)(h0:e.D≠0)(ht:Zf t (-1)=Y):ic V u=Y:=by
 obtain⟨j1,j2,_,_⟩:=s_ h s;unfold ic;rw[Q0 O];by_cases hl9:V=9
 .rw[Q5 hl9];refine QD ?_;rcases hw with q|q|q<;>grind
 .rw[Q0 hl9];exact QD ((AN _ e d t u (Qa _) h ht s).2 h0)
theorem Zl2{V}(s:7<V){u}(h:ic V u=Y):ic V (Z2 u)=Y:=by grind[ic,yv]
theorem ZyU{K f p q}(wp:Wk p)(wq:Wk q)(p3:p.D=3)(hl:p.V=q.V)(ih:∀a b,Z1 a+Z1 b<Z1 p+Z1 q->Wk a->Wk b->gJ K (f a b) a b){ps}(e:(ZC 1 2 p.ops q.ops []).1=ps)(ar:(ZC 1 2 p.ops q.ops []).2.1=Y){ops}(L:iz f ps=A ops):(∀o∈ops,Zg p.V o (-2)=Y/\Jt o)/\fO ops=fO p.ops/\JO ops=JO q.ops/\(K->fK ops<=fK p.ops+fK q.ops):=by
 have rp:=Zc wp.r;have rq:=Zc wq.r;have gp:=Zp wp.g;have gq:=Zp wq.g;have ab:=rp.V p3;have op:=Zr wp.r;have oq:=Zr wq.r;have b5:ZK p.V p.ops (-2)=Y:=rp.ops;have bu:ZK p.V q.ops (-2)=Y:=by rw[hl];exact rq.ops
 obtain⟨i1,_⟩:=yn _ p.ops q.ops [] (Qa _) op oq;obtain⟨cx,e0,bb,_,_⟩:=i1 ar;obtain⟨cz,e1,sA,sB,a7⟩:=D6 ZOI Lr 1 _ p.ops q.ops [] (Qa _) op oq ar;obtain⟨cp,e2,sC,sD,_⟩:=D6 H0 H0 1 _ p.ops q.ops [] (Qa _) op oq ar;rw[e,Qn]at e0 e1 e2;subst e0 e1 e2;have bi:∀x∈ps,(x.of≠2->Zg p.V x.p (-2)=Y/\Jt x.p)/\(x.of≠1->Zg p.V x.q (-2)=Y/\Jt x.q):=by
  have cE:∀(l:List Op)(o:Op),(∀o'∈l,Zg p.V o' (-2)=Y)->jQ l->dB l o->ZH o->Zg p.V o (-2)=Y/\Jt o:=by
   intro l o hr hg⟨o',m,k,e1,_,lt⟩ho;have R:=ZQ (hr o' m);have aG:=Jr (qe hg m);obtain⟨kk,nn,ll,ee⟩:=o;have k:kk=o'.D:=k;have e1:ee=o'.e:=e1;have lt:∀t∈ll,t∈o'.l:=lt;have gl:Jf ll:=xL λt ht=>YW aG.2.2.1 (lt t ht);cases R with
   |bN n1 a1 a2=>
    have k:kk=0:=k;have e1:ee=W.nil:=e1;subst k e1;rcases ho with h|h|h
    .have hl:ll=[]:=h.2.1;subst hl;have h3:1<=nn/\nn<=1048576:=h.2.2.1;exact⟨Mp h3.1 h3.2 _,YI V1 V1,V3,trivial,aG.2.2.2⟩
    .have:=h.1;omega
    .have:=h.1;omega|gone l1 a1 a2=>
    have k:kk=1:=k;have e1:ee=W.nil:=e1;subst k e1;rcases ho with h|h|h;.have:=h.1;omega
    .have hn:nn=0:=h.2.1;subst hn;exact⟨u0 (.inl rfl) (sd λt ht=>rN a1 t (lt t ht)) h.2.2.1,YI V1 V1,YI V1 V1,gl,aG.2.2.2⟩
    .have:=h.1;omega|eD l1 a1 a2=>
    have k:kk=2:=k;have e1:ee=W.nil:=e1;subst k e1;rcases ho with h|h|h;.have:=h.1;omega
    .have hn:nn=0:=h.2.1;subst hn;exact⟨u0 (.inr rfl) (sd λt ht=>rN a1 t (lt t ht)) h.2.2.1,YI V1 V1,YI V1 V1,gl,aG.2.2.2⟩
    .have:=h.1;omega|dL e2 a1 a2 a3 a4=>
    have k:kk=3:=k;have e1:ee=e2:=e1;subst k e1;rcases ho with h|h|h;.have:=h.1;omega
    .have:=h.1;omega
    .have hn:nn=0:=h.2.1;have hl:ll=[]:=h.2.2;subst hn hl;exact⟨NS a1 a2 a3 a4,YI V1 V1,YI V1 V1,trivial,aG.2.2.2⟩
  intro x hx;have aC:=bb x hx;exact⟨λh=>cE p.ops x.p (λo ho=>bM b5 ho) gp.2.2.2.2 (aC.pp h).1 (aC.pp h).2,λh=>cE q.ops x.q (λo ho=>bM bu ho) gq.2.2.2.2 (aC.qq h).1 (aC.qq h).2⟩
 have cE:∀x∈ps,(Zw f x).ok=Y->((Zw f x).is=Y->Zg p.V (Zw f x).op (-2)=Y/\Jt (Zw f x).op)/\φA (Zw f x).op*(if(Zw f x).is then 1 else 0)=(if x.of=2 then 0 else φA x.p)/\φB (Zw f x).op*(if(Zw f x).is then 1 else 0)=(if x.of=1 then 0 else φB x.q)/\(K->(Zw f x).is=Y->φC (Zw f x).op<=(if x.of=2 then 0 else φC x.p)+if x.of=1 then 0 else φC x.q):=by
  intro x hx s;have aC:=bb x hx;obtain⟨s1,s2⟩:=bi x hx;have tj:∀o:Op,0<=φC o:=λo=>by unfold φC;have:=xg o.e;omega
  unfold Zw at s⊢;by_cases c1:x.of=1\/x.of=0/\x.q.D=0
  .rw[Q5 c1]at s⊢;dsimp only;have h2:x.of≠2:=O;rw[Q5 rfl,Q0 h2,Q0 h2];refine⟨λ_=>s1 h2,O,?_,λ_ _=>?_⟩
   .rcases c1 with c|⟨c,c'⟩;.rw[Q5 c];unfold φB;rw[if_pos (aC.cE c)];try rfl
    .rw[Q0 O];obtain⟨b1,b2,b3⟩:=aC.dF c;unfold φB;rw[Q0 b1,Q0 O,b3];omega
   .have:=tj x.q;split<;>omega
  rw[Q0 c1]at s⊢;by_cases c2:x.of=2\/x.p.D=0
  .rw[Q5 c2]at s⊢;dsimp only;have h2:x.of≠1:=O;rw[Q5 rfl,Q0 h2,Q0 h2];refine⟨λ_=>s2 h2,?_,O,λ_ _=>?_⟩
   .by_cases c:x.of=2;.rw[Q5 c];unfold φA;rw[if_pos (aC.qP c)];try rfl
    .rw[Q0 c];have c0:x.of=0:=by rcases aC.of with h|h|h<;>omega
     obtain⟨b1,b2,b3⟩:=aC.dF c0;unfold φA;rw[Q0 b2,Q0 O,b3];omega
   .have:=tj x.p;split<;>omega
  rw[Q0 c2]at s⊢;have c0:x.of=0:=by rcases aC.of with h|h|h<;>omega
  obtain⟨b1,b2,b3⟩:=aC.dF c0;have h1:x.of≠1:=O;have h2:x.of≠2:=O;obtain⟨u1,u2⟩:=s1 h2;obtain⟨v1,v2⟩:=s2 h1;have a5:=(aC.pp h2).2;have aw:=(aC.qq h1).2;have kp:x.p.D=2\/x.p.D=3:=by rcases Zx a5 with k|k|k|k<;>omega
  have kq:x.q.D=1\/x.q.D=3:=by rcases Zx aw with k|k|k|k<;>omega
  rw[Q0 h2,Q0 h2,Q0 h1,Q0 h1];by_cases c3:x.p.D=2/\x.q.D=1
  .rw[Q5 c3]at s⊢;dsimp only;refine⟨λh=>(by cases h),?_,?_,λ_ h=>by cases h⟩;.unfold φA;rw[if_pos c3.1];try rfl
   .unfold φB;rw[if_pos c3.2];try rfl
  rw[Q0 c3]at s⊢;have aj:∀o:Op,o.D=3->Zg p.V o (-2)=Y->Jt o->(7<p.V/\o.e.D≠0/\Wl p.V o.e/\Wk o.e)/\o.l=[]:=by
   intro o k hr hg;have R:=ZQ hr;cases R with|bN|gone|eD=>exact absurd k (by simp)|dL e a1 a2 a3 a4=>exact⟨⟨a3,a2,a4,⟨Yu _ _ _ V1 a1,(Jr hg).2.2.2⟩⟩,rfl⟩
  have al:∀o:Op,o.D=1\/o.D=2->Z4 o=1->ZH o->Zg p.V o (-2)=Y->Jt o->∃t,o.l=[t]/\ic p.V t=Y/\Zf t (-1)=Y/\ei t/\o.e=W.nil:=by
   intro o k h1 ho hr hg;have a7:=Yn ho k;have ai:J o.l=1:=O;obtain⟨t,ht⟩:∃t,o.l=[t]:=by match h:o.l,ai with|[t],_=>exact⟨t,rfl⟩
   have R:=ZQ hr;have gt:=(Jr hg).2.2.1;rw[ht]at gt;refine⟨t,ht,?_⟩;cases R with
   |bN=>exact absurd k (by simp)|dL=>exact absurd k (by simp)|gone l a1 a2=>exact⟨(xS ab a1 t (by have ht:l=[t]:=ht;rw[ht];simp)).1,(xS ab a1 t (by have ht:l=[t]:=ht;rw[ht];simp)).2,gt.1,rfl⟩|eD l a1 a2=>exact⟨(xS ab a1 t (by have ht:l=[t]:=ht;rw[ht];simp)).1,(xS ab a1 t (by have ht:l=[t]:=ht;rw[ht];simp)).2,gt.1,rfl⟩
  by_cases c4:x.p.D=2
  .rw[Q5 c4]at s⊢;have ak:x.q.D=3:=O;have ai:Z4 x.q=1:=Yk ak;obtain⟨t,ht,t1,t2,t3,t4⟩:=al x.p (.inr c4) O a5 u1 u2;obtain⟨⟨e1,e2,e3,e4⟩,e5⟩:=aj x.q ak v1 v2;dsimp only at s⊢;rw[ht,Qm]at s⊢;obtain⟨v,hv,ev⟩:=vU s;rw[Q5 rfl,ev];have kv:=ZhH ab e4.r hv e1 e3 e2 t2;have rv:=(AN _ _ _ t v (Qa _) e4.r t2 hv).1;refine⟨λ_=>⟨u0 (.inr rfl) ?_ (by simp),YI V1 V1,YI V1 V1,⟨pM _ (uf I _ _ v e4.g t3 hv),trivial⟩,?_⟩,?_,?_,λ_ _=>?_⟩;.rw[vc V1];exact sd λy hy=>by rw[Qs.1 hy];exact Zmr ab (Zl2 e1 kv) (N6 rv)
   .rw[<-t4];exact(Jr u2).2.2.2
   .unfold φA;rw[if_pos c4];try rfl
   .show(if(2:Int)=1 then(0:Int)else Z4 _)*1=if x.q.D=1 then 0 else Z4 x.q;rw[Q0 V1,Q0 O,ai];simp[Z4]
   .unfold φC;dsimp only;rw[ht,t4,e5];have:=pv I _ _ _ v e4.r hv;have:=ZX v;simp only[Ze,qK];omega
  rw[Q0 c4]at s⊢;have bc:x.p.D=3:=O;have a8:Z4 x.p=1:=Yk bc;obtain⟨⟨e1,e2,e3,e4⟩,e5⟩:=aj x.p bc u1 u2;by_cases c5:x.q.D=1
  .rw[Q5 c5]at s⊢;obtain⟨t,ht,t1,t2,t3,t4⟩:=al x.q (.inl c5) O aw v1 v2;dsimp only at s⊢;rw[ht,Qm]at s⊢;obtain⟨v,hv,ev⟩:=vU s;have wt:=e4.tu;have kt:(Zd (Zm x.p.e)).D=x.p.e.D:=by rw[Ez,A8]
   have b6:Wl p.V (Zd (Zm x.p.e)):=by
    rcases e3 with h|h|h;.exact .inl h
    .exact .inr (.inl O)
    .refine .inr (.inr ⟨O,?_,?_⟩);.rw[(Om (Zm x.p.e) (by rw[A8];exact h.1)).1,yv,Zmd];exact h.2.2
     .rw[(Om (Zm x.p.e) (by rw[A8];exact h.1)).2,yv,Zme];exact h.2.1
   rw[Q5 rfl,ev];have kv:=ZhH ab wt.r hv e1 b6 O t2;have rv:=(AN _ _ _ t v (Qa _) wt.r t2 hv).1;refine⟨λ_=>⟨u0 (.inl rfl) ?_ (by simp),YI V1 V1,YI V1 V1,⟨pM _ (uf I _ _ v wt.g t3 hv),trivial⟩,?_⟩,?_,?_,λ_ _=>?_⟩;.rw[vc V1];exact sd λy hy=>by rw[Qs.1 hy];exact Zmr ab (Zl2 e1 kv) (N6 rv)
   .rw[<-t4];exact(Jr v2).2.2.2
   .show(if(1:Int)=2 then(0:Int)else Z4 _)*1=if x.p.D=2 then 0 else Z4 x.p;rw[Q0 V1,Q0 O,a8];simp[Z4]
   .unfold φB;rw[if_pos c5];try rfl
   .unfold φC;dsimp only;rw[ht,t4,e5];have:=pv I _ _ _ v wt.r hv;have:=ZX v;have:=qJ (Zm x.p.e);rw[xX]at this;simp only[Ze,qK];omega
  rw[Q0 c5]at s⊢;have ak:x.q.D=3:=O;have ai:Z4 x.q=1:=Yk ak;obtain⟨⟨f1,f2,f3,f4⟩,f5⟩:=aj x.q ak v1 v2;dsimp only at s⊢;rw[Q5 rfl];obtain⟨o1,m1,_,k1,_⟩:=(aC.pp h2).1;obtain⟨o2,m2,_,k2,_⟩:=(aC.qq h1).1;have:=Yf m1;have:=Yf m2;have aF:=ih x.p.e x.q.e (by rw[k1,k2];omega) e4 f4;refine⟨λ_=>⟨NS (Yu _ _ _ V1 (aF.wk s).r) (aF.D e2 f2 s) e1 (aF.wl p.V e1 ab.2 e2 f2 s e3 f3),YI V1 V1,YI V1 V1,trivial,(aF.wk s).g⟩,?_,?_,λhK _=>?_⟩;.show(if(3:Int)=2 then(0:Int)else Z4 _)*1=if x.p.D=2 then 0 else Z4 x.p;rw[Q0 V1,Q0 O,a8];simp[Z4]
  .show(if(3:Int)=1 then(0:Int)else Z4 _)*1=if x.q.D=1 then 0 else Z4 x.q;rw[Q0 V1,Q0 O,ai];simp[Z4]
  .unfold φC;dsimp only;rw[e5,f5];have:=aF.ct hK s;simp only[Ze];omega
 have all:∀(ps:List cm)(ops:List Op),(∀x∈ps,(Zw f x).ok=Y->((Zw f x).is=Y->Zg p.V (Zw f x).op (-2)=Y/\Jt (Zw f x).op)/\φA (Zw f x).op*(if(Zw f x).is then 1 else 0)=(if x.of=2 then 0 else φA x.p)/\φB (Zw f x).op*(if(Zw f x).is then 1 else 0)=(if x.of=1 then 0 else φB x.q)/\(K->(Zw f x).is=Y->φC (Zw f x).op<=(if x.of=2 then 0 else φC x.p)+if x.of=1 then 0 else φC x.q))->iz f ps=A ops->(∀o∈ops,Zg p.V o (-2)=Y/\Jt o)/\ZG φA ops=ZG φA (jF ps)/\ZG φB ops=ZG φB (jZ ps)/\(K->ZG φC ops<=ZG φC (jF ps)+ZG φC (jZ ps))/\J ops<=J ps:=by intro ps;induction ps with|nil=>intro ops _ h;cases h;exact⟨λo ho=>(by cases ho),rfl,rfl,λ_=>by simp[jF,jZ,ZG],by simp⟩|cons x r ihp=>
   intro ops hx h;rw[iz]at h;split at h
   .rename_i s;obtain⟨l,bz,rfl⟩:=Qf.1 h;obtain⟨j1,j2,j3,j4,j5⟩:=ihp l (λy hy=>hx y (Q4 _ hy)) bz;obtain⟨k1,k2,k3,k4⟩:=hx x Q6 s;have tj:∀o:Op,0<=φC o:=λo=>by unfold φC;have:=xg o.e;omega
    have c1:=tj x.p;have c2:=tj x.q;have bh:∀φ:Op->Int,ZG φ (jF (x::r))=(if x.of=2 then 0 else φ x.p)+ZG φ (jF r):=λφ=>by simp only[jF];split<;>simp[ZG]
    have ax:∀φ:Op->Int,ZG φ (jZ (x::r))=(if x.of=1 then 0 else φ x.q)+ZG φ (jZ r):=λφ=>by simp only[jZ];split<;>simp[ZG]
    rw[bh,ax,bh,ax];by_cases his:(Zw f x).is=Y
    .rw[Q5 his]at k2 k3;rw[Q5 his];have k4:=λhK=>k4 hK his;simp only[Qw,Qn,ZG,Qd];refine⟨λo ho=>?_,O,O,λhK=>by have:=k4 hK;have:=j4 hK;omega,O⟩;rcases Qe.1 ho with rfl|ho;.exact k1 his
     .exact j1 o ho
    .rw[Q0 his]at k2 k3;rw[Q0 his];simp only[Qn,Qd];refine⟨j1,O,O,λhK=>?_,O⟩;have:=j4 hK;have:0<=(if x.of=2 then 0 else φC x.p)+if x.of=1 then 0 else φC x.q:=by split<;>split<;>omega
     omega
   .cases h
 obtain⟨j1,j2,j3,j4,j5⟩:=all ps ops cE L;rw[tS]at j2;rw[mv]at j3;rw[sA,tS]at j2;rw[sB,mv]at j3;have x1:=AH ops;have x2:=AH p.ops;have x3:=AH q.ops;exact⟨j1,j2,j3,λhK=>by have:=j4 hK;omega⟩
theorem ZwZ{K f p q}(wp:Wk p)(wq:Wk q)(ih:∀a b,Z1 a+Z1 b<Z1 p+Z1 q->Wk a->Wk b->gJ K (f a b) a b):gJ K (mE f p q) p q:=by
 have rp:=Zc wp.r;have rq:=Zc wq.r;have gp:=Zp wp.g;have gq:=Zp wq.g;have cp:=xg p;have cq:=xg q;have ap:=Ji p;have aq:=Ji q;unfold mE;by_cases p0:p.D=0;.rw[Q5 p0];exact⟨λ_=>wq,λ_ _=>by dsimp only;omega,λh=>absurd p0 h,λ_ _ _ h=>absurd p0 h⟩
 rw[Q0 p0];by_cases q0:q.D=0;.rw[Q5 q0];exact⟨λ_=>wp,λ_ _=>by dsimp only;omega,λ_ h=>absurd q0 h,λ_ _ _ _ h=>absurd q0 h⟩
 rw[Q0 q0];by_cases p1:p.D=1
 .rw[Q5 p1];obtain⟨r1,r2,r3,r4⟩:=rp.Mn p1;have ab:(dX q p.new).2=Y->(Zf (dX q p.new).1 (-1)=Y/\(dX q p.new).1.D≠10)/\ei (dX q p.new).1/\Zo (dX q p.new).1+18<=Zo p.new+dZ q/\∀V,7<V->V<=9->p.new.D=1->V=9->Wl V q->(dX q p.new).1.D=1:=by
   intro s;obtain⟨v,hv,e⟩:=vU s;rw[e];obtain⟨x1,x2⟩:=AN _ q _ p.new v (Qa _) wq.r r2 hv;refine⟨⟨N6 x1,by rw[yv];exact x2 q0⟩,pM _ (uf I q _ v wq.g gp.2.1 hv),?_,λV h7 h9 hk bp hw=>?_⟩;.have:=pv I q _ _ v wq.r hv;have:=ZX v;omega
   .rw[yv];obtain⟨j1,j2,_,_⟩:=s_ wq.r hv;rcases hw with h|h|h<;>grind
  refine⟨λs=>?_,λ_ s=>?_,λ_ _ _=>show(1:Int)≠0 by decide,λV h7 h9 _ _ s hp hq=>?_⟩;.obtain⟨⟨k1,k2⟩,k3,_,_⟩:=ab s;exact⟨Zmt r1 k1 r3 k2,YI V1 V1,gp.1,k3,by simp,YI V1 V1,trivial,trivial⟩
  .grind[Zzs]
  .by_cases h8:V=8;.exact .inl h8
   .have ah:p.D=1/\p.bH.D=1/\p.new.D=1:=by
     rcases hp with h|h|h;.exact absurd h h8
     .omega
     .exact h
    exact .inr (.inr ⟨rfl,ah.2.1,(ab s).2.2.2 V h7 h9 ah.2.2 O hq⟩)
 rw[Q0 p1];by_cases q1:q.D=1
 .rw[Q5 q1];obtain⟨r1,r2,r3,r4⟩:=rq.Mn q1;have wt:=wp.tu;have kt:(Zd (Zm p)).D=p.D:=by rw[Ez,A8]
  have ab:(dX (Zd (Zm p)) q.bH).2=Y->(Zf (dX (Zd (Zm p)) q.bH).1 (-1)=Y/\(dX (Zd (Zm p)) q.bH).1.D≠10)/\ei (dX (Zd (Zm p)) q.bH).1/\Zo (dX (Zd (Zm p)) q.bH).1+18<=Zo q.bH+dZ p/\(p.D=2->(dX (Zd (Zm p)) q.bH).1.D=1):=by
   intro s;obtain⟨v,hv,e⟩:=vU s;rw[e];obtain⟨x1,x2⟩:=AN _ _ _ q.bH v (Qa _) wt.r r1 hv;refine⟨⟨N6 x1,by rw[yv];exact x2 O⟩,pM _ (uf I _ _ v wt.g gq.1 hv),?_,λhk=>?_⟩;.have:=pv I _ _ _ v wt.r hv;grind[ZX,qJ,Zm,xX]
   .rw[yv];exact((s_ wt.r hv).2.1 O).1
  refine⟨λs=>?_,λ_ s=>?_,λ_ _ _=>show(1:Int)≠0 by decide,λV h7 h9 _ _ s hp hq=>?_⟩;.obtain⟨⟨k1,k2⟩,k3,_,_⟩:=ab s;exact⟨Zmt k1 r2 k2 r4,YI V1 V1,k3,gq.2.1,by simp,YI V1 V1,trivial,trivial⟩
  .grind[Zzs]
  .by_cases h8:V=8;.exact .inl h8
   .have ar:q.D=1/\q.bH.D=1/\q.new.D=1:=by
     rcases hq with h|h|h;.exact absurd h h8
     .omega
     .exact h
    refine .inr (.inr ⟨rfl,(ab s).2.2.2 ?_,ar.2.2⟩);rcases hp with h|h|h<;>grind
 rw[Q0 q1];by_cases hd:p.D≠q.D\/p.V≠q.V;.rw[Q5 hd];exact⟨λh=>(by cases h),λ_ h=>(by cases h),λ_ _ h=>(by cases h),λ_ _ _ _ _ h=>by cases h⟩
 rw[Q0 hd];by_cases p2:p.D=2
 .rw[Q5 p2];have q2:q.D=2:=O;have gD:=Yd rp.aS;have a8:=Yd rq.aS;have aj:=Zl rp.X;have au:=Zl rq.X;have ao:∀a b:aV,a.S=b.S->(Jk a b).2=Y->(Jk a b).1.S=a.S:=λa b _ h=>Zzt a b h;have av:∀a b:bP,a.S=b.S->(fV f a b).2=Y->(fV f a b).1.S=a.S:=λa b _ _=>rfl;have hk:∀a∈p.X,∀b∈q.X,gJ K (f a.e b.e) a.e b.e:=by intro a ha b s;have:=ZA ha;have:=ZA s;exact ih a.e b.e O (.of (aj a ha).2 (Y6 gp.2.2.2.1 ha).2) (.of (au b s).2 (Y6 gq.2.2.2.1 s).2)
  cases hL:Zk aV.S Jk p.aS q.aS with
  |none=>exact⟨λh=>(by cases h),λ_ h=>(by cases h),λ_ _ h=>(by cases h),λ_ _ _ _ _ h=>by cases h⟩|some aB=>
   rw[Q5 (show(A aB).isSome=Y from rfl)];cases hM:Zk aW.S (fV f) p.X q.X with
   |none=>exact⟨λh=>(by cases h),λ_ h=>(by cases h),λ_ _ h=>(by cases h),λ_ _ _ _ _ h=>by cases h⟩|some aM=>
    have aE:=(DJ ao _ p.aS q.aS (-1) (Qa _) (YJ rp.aS) (YJ rq.aS)).2 aB hL;have T:=(DJ av _ p.X q.X (-1) (Qa _) (Jh rp.X) (Jh rq.X)).2 aM hM;have hw:∀w∈aB,(w.S<=65534/\w.a_≠0/\Y2 w.bH w.a_=Y/\Y2 w.new w.a_=Y)/\gN w:=by
     intro w hw;rcases aE.of w hw with⟨h,_⟩|⟨h,_⟩|⟨a,ha,b,s,_,L,rfl⟩;.exact⟨(gD w h).2,gp.2.2.1 w h⟩
     .exact⟨(a8 w h).2,gq.2.2.1 w h⟩
     .simp_all[ZHV,gD]
    have hm:∀k∈aM,(k.S<=65534/\k.e.D≠0/\Z3 k.e (-2)=Y)/\bQ k.S/\Ye k.e:=by
     intro k ba;rcases T.of k ba with⟨h,_⟩|⟨h,_⟩|⟨a,ha,b,s,_,L,rfl⟩;.grind[Yu,Y6]
     .grind[Yu,Y6]
     .have aF:=hk a ha b s;have L:(f a.e b.e).2=Y:=L;exact⟨⟨(aj a ha).1.2.1,aF.D (aj a ha).1.2.2 (au b s).1.2.2 L,Yu _ _ _ V1 (aF.wk L).r⟩,(Y6 gp.2.2.2.1 ha).1,(aF.wk L).g⟩
    refine⟨λ_=>⟨Zms (VE aE.oU λw h=>(hw w h).1) (U4 T.oU λk h=>(hm k h).1),?_⟩,λhK _=>?_,λ_ _ _=>show(2:Int)≠0 by decide,λ_ _ _ _ _ _ _ _=>.inr (.inl rfl)⟩;.exact⟨YI V1 V1,oC,oC,λw h=>(hw w h).2,YI V1 V1,Oy λk h=>(hm k h).2,trivial⟩
    .have c1:=M4 (λ_=>1) _ _ _ _ (Qa _) λa _ b _ _=>by omega hL;have c2:=M4 nA _ _ _ _ (Qa _) λa ha b s L=>by have aF:=hk a ha b s;have L:(f a.e b.e).2=Y:=L;have:=aF.ct hK L;rw[tt,tt,tt];show 65600+dZ (f a.e b.e).1<=_;omega hM;rw[xy,xy,xy]at c1;rw[Ns,Ns,Ns]at c2;have mo:=Jg p.bH;have mn:=Jg p.new;have bk:=Jg q.bH;have bq:=Jg q.new;simp only[dZ,fK,kL,XL,oM];omega
 .rw[Q0 p2];have p3:p.D=3:=by have:=rp.D;omega
  have q3:q.D=3:=O;have hl:p.V=q.V:=O;have bo:=rp.V p3;have op:=Zr wp.r;have oq:=Zr wq.r;unfold je;by_cases hb1:(ZC 1 2 p.ops q.ops []).2.1=Y
  .rw[Q5 hb1];cases L:iz f (ZC 1 2 p.ops q.ops []).1 with
   |none=>exact⟨λh=>(by cases h),λ_ h=>(by cases h),λ_ _ h=>(by cases h),λ_ _ _ _ _ h=>by cases h⟩|some ops=>
    obtain⟨j1,j2,j3,j4⟩:=ZyU wp wq p3 hl ih rfl hb1 L;have aw:∀o∈ops,0<=Z4 o:=λo ho=>uL (uu (j1 o ho).1);have lA:=se ops 0 aw V1 V1;have lB:=sJ ops 0 aw V1 V1;have mA:=se p.ops 0 (λo ho=>uL (op o ho)) V1 V1;have mB:=sJ q.ops 0 (λo ho=>uL (oq o ho)) V1 V1;have t1:=rp.len.1;have t2:=rq.len.2;refine⟨λ_=>⟨?_,?_⟩,λhK _=>?_,λ_ _ _=>show(3:Int)≠0 by decide,λV h7 h9 _ _ _ ah ar=>?_⟩;.grind[Wq,Ly,kL]
    .refine⟨YI V1 V1,oC,oC,by simp,?_,trivial,Fx λo ho=>(j1 o ho).2⟩;unfold bQ;omega
    .grind[Jg,dZ,gY,kL,oM]
    .rcases ah with h|h|h;.exact .inl h
     .omega
     .omega
  .rw[Q0 hb1];exact⟨λh=>(by cases h),λ_ h=>(by cases h),λ_ _ h=>(by cases h),λ_ _ _ _ _ h=>by cases h⟩
theorem ZRi:∀n(p q:W),Z1 p+Z1 q<=n->Wk p->Wk q->gJ True (lC n p q) p q:=by intro n;induction n with|zero=>intro p q h;obtain⟨k,o,nw,w,ks,l,os⟩:=p;simp only[Z1]at h;omega|succ n ih=>intro p q hn wp wq;exact ZwZ wp wq λa b aa s wb=>ih a b O s wb
end Go.AM.YtpjenobkibfpcaaGreat
namespace Go.AM
noncomputable def iV(p q:W):W×Bool:=if(Jc p q).2=Y then(Zd (Jc p q).1,Y)else(W.nil,I)
noncomputable def kI(p q:W):W×Bool:=if(fC p q).2=Y then(Zd (fC p q).1,Y)else(W.nil,I)
noncomputable def rQ(p q:W):W×Bool:=match jh p.aS q.aS (Y7 (p.aS.map aV.S) (q.aS.map aV.S)),iS fC p.X q.X (Y7 (p.X.map aW.S) (q.X.map aW.S))with|some w,A k=>(.mk 2 H.nil H.nil w k 0 [],Y)|_,_=>(W.nil,I)
noncomputable def r_(p q:W):W×Bool:=if p.V≠q.V then(W.nil,I)else match o6 fC p.ops q.ops with|some l=>(.mk 3 H.nil H.nil [] [] p.V l,Y)|none=>(W.nil,I)
def xQ(w:aV):Prop:=gN w/\Y2 w.bH w.a_=Y/\Y2 w.new w.a_=Y
def Ej(u:bJ):Prop:=(u.D=0\/u.D=1\/u.D=2\/u.D=3)/\Zo u.t<=9000000000/\ei u.t/\(u.D=3->ZR u.e)
end Go.AM
namespace Go.AM.YtpjenobkibfpcaaGreat
open Go.AM Go.Proofs
theorem TI:∀k(P Q:List bJ)bB,J P+J Q<=k->∀x∈(ZI P Q bB).1,x∈bB\/x.of=0/\(x.p∈P/\x.p.bV=I)/\x.q∈Q/\x.q.bV=I\/x.of=1/\x.p∈P\/x.of=2/\x.q∈Q:=by
 intro k;induction k with
 |zero=>
  intro P Q bB hk x s;have e1:P=[]:=Q7 O;have e2:Q=[]:=Q7 O;subst e1 e2;rw[ZI,QC (by simp[k7]),QC (by simp[k7]),QW (by simp),Q5 rfl]at s;exact .inl s|succ k ih=>
  intro P Q bB hk x s;have ab:∀(P' Q':List bJ),(∀u∈P',u∈P)->(∀u∈Q',u∈Q)->x.of=0/\(x.p∈P'/\x.p.bV=I)/\x.q∈Q'/\x.q.bV=I\/x.of=1/\x.p∈P'\/x.of=2/\x.q∈Q'->x.of=0/\(x.p∈P/\x.p.bV=I)/\x.q∈Q/\x.q.bV=I\/x.of=1/\x.p∈P\/x.of=2/\x.q∈Q:=by
   rintro P' Q' hP hQ(⟨h,⟨a,b⟩,c,d⟩|⟨h,a⟩|⟨h,a⟩);.grind
   .grind
   .grind
  rw[ZI]at s;by_cases h1:k7 P=Y;.rw[QW h1]at s;cases P with|nil=>cases h1|cons a P'=>
    simp only[Qd]at hk;rcases ih P' Q _ O x s with h|h;.grind
    .exact .inr (ab P' Q (λu hu=>Q4 _ hu) (λu hu=>hu) h)
  .rw[QC h1]at s;by_cases h2:k7 Q=Y
   .rw[QW h2]at s;cases Q with
    |nil=>cases h2|cons a Q'=>
     simp only[Qd]at hk;rcases ih P Q' _ O x s with h|h;.grind
     .exact .inr (ab P Q' (λu hu=>hu) (λu hu=>Q4 _ hu) h)
   .rw[QC h2]at s;by_cases h3:J P=0\/J Q=0;.grind
    .rw[QC h3]at s;cases P with
     |nil=>simp at h3|cons a P'=>cases Q with
      |nil=>simp at h3|cons b Q'=>
       simp only[Qd]at hk;rcases ih P' Q' _ O x s with h|h
       .rcases Qo.1 h with h|h;.exact .inl h
        .rw[Qs.1 h];rw[tE]at h1 h2;grind
       .exact .inr (ab P' Q' (λu hu=>Q4 _ hu) (λu hu=>Q4 _ hu) h)
structure ns(o:Op)(a:Int)(u:bJ):Prop where
 D:u.D=o.D
 t:u.t=H.nil\/u.t∈o.l
 e:u.e=W.nil\/u.e=o.e
 dL:u.D=3->u.e=o.e
 bV:u.D=1\/u.D=2->u.bV=decide (u.D=a)
theorem sN{a}:∀{l i u},(∀o∈l,ZH o)->u∈Zn i a l->∃o∈l,ns o a u
 |o::r,i,u,hl,h=>by
  rw[Zn]at h;rcases Qo.1 h with h|h
  .simp only[Je,Qo,QU]at h;refine⟨o,Q6,?_⟩;rcases h with h|⟨t,ht,rfl⟩|h
   .split at h
    .rename_i s;rw[Ki h];exact⟨s.symm,.inl rfl,.inl rfl,λh=>(by cases h),λh=>by rcases h with h|h<;>cases h⟩
    .cases h
   .refine⟨rfl,.inr ht,.inl rfl,λh3=>?_,λ_=>rfl⟩;have h3:o.D=3:=h3;rcases hl o Q6 with k|k|k;.omega
    .omega
    .rw[k.2.2]at ht;cases ht
   .split at h;.rename_i s;rw[Qs.1 h];exact⟨s.symm,.inl rfl,.inr rfl,λ_=>rfl,λh=>by rcases h with h|h<;>cases h⟩
    .cases h
  .obtain⟨o',aa,h'⟩:=sN (λx hx=>hl x (Q4 _ hx)) h;exact⟨o',Q4 _ aa,h'⟩
theorem Pk:∀k(a b:List Int),J a+J b<=k->∀n∈Y7 a b,n∈a\/n∈b:=by
 intro k;induction k with
 |zero=>
  intro a b hk n s;have e1:a=[]:=Q7 O;have e2:b=[]:=Q7 O;subst e1 e2;rw[Y7]at s;cases s|succ k ih=>
  intro a b hk n s;match a,b with
  |[],b=>rw[Y7]at s;exact .inr s|x::a,[]=>rw[qv]at s;exact .inl s|x::a,y::b=>
   simp only[Qd]at hk;rw[Y7]at s;split at s
   .rcases Qe.1 s with rfl|s;.exact .inl Q6
    .rcases ih a (y::b) (by simp only[Qd];omega) n s with h|h;.exact .inl (Q4 _ h)
     .exact .inr h
   .split at s
    .rcases Qe.1 s with rfl|s;.exact .inr Q6
     .rcases ih (x::a) b (by simp only[Qd];omega) n s with h|h;.exact .inl h
      .exact .inr (Q4 _ h)
    .rcases Qe.1 s with rfl|s;.exact .inl Q6
     .rcases ih a b O n s with h|h;.exact .inl (Q4 _ h)
      .exact .inr (Q4 _ h)
theorem Dj:∀l(n:Int),Yc l n=W.nil/\n∉l.map aW.S\/∃k∈l,Yc l n=k.e
 |[],n=>.inl ⟨rfl,by simp⟩|a::r,n=>by
  rw[idxK_cons'];split;.exact .inr ⟨a,Q6,rfl⟩
  .rename_i h;rcases Dj r n with⟨h1,h2⟩|⟨k,hk,h1⟩;.refine .inl ⟨h1,?_⟩;simp only[Qu,Qe,not_or];exact⟨λe=>h e.symm,h2⟩
   .exact .inr ⟨k,Q4 _ hk,h1⟩where
 idxK_cons'(a:bP)(r:List bP)(n:Int):Yc (a::r) n=if a.S=n then a.e else Yc r n:=by
  unfold Yc;by_cases h:a.S=n;.rw[Q5 h,List.find?_cons_of_pos];rfl;simpa using h
  .rw[Q0 h,List.find?_cons_of_neg];simpa using h
theorem MO:Z1 W.nil=3:=rfl
theorem s8(e):3<=Z1 e:=by obtain⟨k,o,n,w,ks,l,os⟩:=e;have:=Jg o;have:=Jg n;simp only[Z1];omega
theorem Cg:Z3 W.nil 1=Y:=rfl
theorem Mt{p q d d'}(hp:Z3 p d=Y)(hq:Z3 q d'=Y){n}(hn:n∈Y7 (p.X.map aW.S) (q.X.map aW.S)):Z1 (Yc p.X n)+Z1 (Yc q.X n)<Z1 p+Z1 q/\(∃d,Z3 (Yc p.X n) d=Y)/\∃d,Z3 (Yc q.X n) d=Y:=by
 have rp:=Zc hp;have s:=Zc hq;have m1:=s8 p;have m2:=s8 q;rcases Dj p.X n with⟨e1,h1⟩|⟨k1,hk1,e1⟩
 .rcases Dj q.X n with⟨e2,h2⟩|⟨k2,hk2,e2⟩
  .rcases Pk _ _ _ (Qa _) n hn with h|h;.exact absurd h h1
   .exact absurd h h2
  .have:=ZA hk2;rw[e1,e2,MO];exact⟨O,⟨1,Cg⟩,_,(Zl s.X k2 hk2).2⟩
 .have:=ZA hk1;rcases Dj q.X n with⟨e2,h2⟩|⟨k2,hk2,e2⟩;.rw[e1,e2,MO];exact⟨O,⟨_,(Zl rp.X k1 hk1).2⟩,1,Cg⟩
  .have:=ZA hk2;rw[e1,e2];exact⟨O,⟨_,(Zl rp.X k1 hk1).2⟩,_,(Zl s.X k2 hk2).2⟩
theorem ZjN{f g p q}:∀{l},(∀n∈l,f (Yc p n) (Yc q n)=g (Yc p n) (Yc q n))->iS f p q l=iS g p q l|[],_=>rfl|n::r,h=>by rw[iS,iS,h n Q6,ZjN λm s=>h m (Q4 _ s)]
theorem uG{p d}(hp:Z3 p d=Y){o}(s:o∈p.ops){a u}(hu:ns o a u):Z1 u.e<Z1 p/\∃d,Z3 u.e d=Y:=by
 have:=Yf s;have h3:=s8 o.e;rcases hu.e with e|e;.rw[e,MO];exact⟨O,1,Cg⟩
 .rw[e];refine⟨this,?_⟩;have R:=ZQ (bM (Zc hp).ops s);cases R with|bN|gone|eD=>exact⟨1,Cg⟩|dL e h=>grind
theorem Zux{f g p q}(h:f p.e q.e=g p.e q.e):gk f p q=gk g p q:=by unfold gk;rw[h]
theorem ZjM{f g}:∀{m},(∀x∈m,x.of≠1->x.of≠2->f x.p.e x.q.e=g x.p.e x.q.e)->J4 f m=J4 g m
 |[],_=>rfl|x::r,h=>by
  rw[ur,ur,ZjM λy s=>h y (Q4 _ s)];have:rp f x=rp g x:=by
   unfold rp;split;.try rfl
   .split;.try rfl
    .exact Zux (h x Q6 (by assumption) (by assumption))
  rw[this]
theorem Zc8{f g p q d d'}(s:Z3 p d=Y)(hq:Z3 q d'=Y)(h:∀a b,Z1 a+Z1 b<Z1 p+Z1 q->(∃d,Z3 a d=Y)->(∃d,Z3 b d=Y)->f a b=g a b):lK f p q=lK g p q:=by
 have hk:iS f p.X q.X (Y7 (p.X.map aW.S) (q.X.map aW.S))=iS g p.X q.X (Y7 (p.X.map aW.S) (q.X.map aW.S)):=ZjN λn hn=>by obtain⟨a,b,c⟩:=Mt s hq hn;exact h _ _ a b c
 have ho:o6 f p.ops q.ops=o6 g p.ops q.ops:=by
  unfold o6;split
  .refine ZjM λx hx h1 h2=>?_;rcases TI _ _ _ _ (Qa _) x hx with m|⟨_,⟨m1,_⟩,m2,_⟩|⟨m,_⟩|⟨m,_⟩;.cases m
   .obtain⟨o1,ab,u1⟩:=sN (Zr s) m1;obtain⟨o2,aa,u2⟩:=sN (Zr hq) m2;obtain⟨a1,b1⟩:=uG s ab u1;obtain⟨a2,b2⟩:=uG hq aa u2;exact h _ _ O b1 b2
   .exact absurd m h1
   .exact absurd m h2
  .try rfl
 unfold lK;rw[hk,ho]
theorem ZA5:∀n m(p q:W)d s,Z3 p d=Y->Z3 q s=Y->Z1 p+Z1 q<=n->n<=m->gF m p q=gF n p q:=by intro n;induction n with|zero=>intro m p q d s _ _ h;obtain⟨k,o,nw,w,ks,l,os⟩:=p;simp only[Z1]at h;omega|succ n ih=>intro m p q d s hp hq h hm;obtain⟨m,rfl⟩:∃k,m=k+1:=⟨m-1,O⟩;show lK (gF m) p q=lK (gF n) p q;exact Zc8 hp hq λa b aa⟨d1,h1⟩⟨d2,h2⟩=>ih m a b d1 d2 h1 h2 O O
theorem ZA6{p q d h}(hp:Z3 p d=Y)(s:Z3 q h=Y):fC p q=lK fC p q:=by have m1:=s8 p;unfold fC;obtain⟨n,hn⟩:∃n,Z1 p+Z1 q=n+1:=⟨Z1 p+Z1 q-1,O⟩;rw[hn];show lK (gF n) p q=_;exact Zc8 hp s λa b aa⟨d1,h1⟩⟨d2,h2⟩=>ZA5 _ _ a b d1 d2 h1 h2 (Qa _) O
mutual def fv:W->Nat|.mk _ o n w ks _ os=>16+Zo o+Zo n+65600*J w+kS ks+gA os def kS:List (aW W)->Nat|[]=>0|k::r=>xv k+kS r def xv:aW W->Nat|⟨_,e⟩=>65600+fv e def gA:List (bI W)->Nat|[]=>0|o::r=>mU o+gA r def mU:bI W->Nat|⟨k,n,l,e⟩=>if k=3 then 16+fv e else 34*( G n+J l)+Ze l end
theorem ES(e):fv e=16+Zo e.bH+Zo e.new+65600*J e.aS+kS e.X+gA e.ops:=by cases e;rfl
theorem C7(k:bP):xv k=65600+fv k.e:=by cases k;rfl
theorem sf(o:Op):mU o=if o.D=3 then 16+fv o.e else 34*( G o.n+J o.l)+Ze o.l:=by cases o;rfl
theorem Hu(e):18<=fv e:=by grind[ES,Jg]
theorem zA:∀(a b:List Op),gA (a++b)=gA a+gA b|[],b=>by simp[gA]|o::r,b=>by simp only[Qw,gA,zA r b];omega
theorem vO:∀n(e:W),Z1 e<=n->(∃d,Z3 e d=Y)->dZ e<=fv e:=by
 intro n;induction n with
 |zero=>intro e h;have:=s8 e;omega|succ n ih=>
  intro e hn⟨d,hr⟩;have R:=Zc hr;have hk:∀l:List bP,(∀k∈l,k∈e.X)->gY l<=kS l:=by
   intro l;induction l with
   |nil=>intro _;trivial|cons a r ihl=>
    intro h;have s:=h a Q6;have:=ZA s;have:=ih a.e O ⟨_,(Zl R.X a s).2⟩;grind[gY,kS,tt,C7]
  have ho:∀l:List Op,(∀o∈l,o∈e.ops)->fK l<=gA l:=by
   intro l;induction l with
   |nil=>intro _;trivial|cons a r ihl=>
    intro h;have s:=h a Q6;have:=ihl λk hk=>h k (Q4 _ hk);have hr:=bM R.ops s;have ae:jT a<=mU a:=by
     have me:=Yf s;rw[rU,sf];have rt:=ZQ hr;cases rt with
     |bN n h1 h2=>grind[qK]|gone l h1 h2=>grind[qK]|eD l h1 h2=>grind[qK]|dL e' h1 h2=>rw[Q5 rfl];have:=ih e' (by grind) ⟨_,h1⟩;simp only[Ze];omega
    simp only[fK,gA];omega
  grind[Ji,ES]
theorem ZIy(e):ux ⟨3,0,[],e⟩=[⟨3,0,[],e⟩]:=(nd (o:=⟨3,0,[],e⟩) (.inr (.inr ⟨rfl,rfl,rfl⟩)) rfl).1
theorem Zv9{f bV x m}(ay:x.of=0\/x.of=1\/x.of=2)(ha:∀y∈m,y.of=x.of)(hp:x.of≠2->ZH x.p/\Z4 x.p=J m/\o9 x.p bV (m.map bK.p))(hq:x.of≠1->ZH x.q/\Z4 x.q=J m/\o9 x.q 2 (m.map bK.q))(hb:x.of=0->x.p.D≠1/\x.q.D≠2):J4 f m=if(Zw f x).ok then A (if(Zw f x).is then ux (Zw f x).op else[])else aT:=by
 have s:∀(o:Op)(h:bK->Op),(∀y∈m,rp f y=([h y],Y))->m.map h=ux o->Zw f x=⟨o,Y,Y⟩->J4 f m=if(Zw f x).ok then A (if(Zw f x).is then ux (Zw f x).op else[])else aT:=by
  intro o h h1 h2 h3;rw[R4 f h m h1,h2,h3];try rfl
 by_cases c1:x.of=1
 .obtain⟨o1,o2,o3⟩:=hp O;refine s x.p (λy=>cP y.p) (λy hy=>?_) ?_ (by unfold Zw;grind);.unfold rp;grind
  .rw[<-pD o3,QP];try rfl
 by_cases c2:x.of=2
 .obtain⟨o1,o2,o3⟩:=hq O;refine s x.q (λy=>cP y.q) (λy hy=>?_) ?_ (by unfold Zw;grind);.unfold rp;grind
  .rw[<-pD o3,QP];try rfl
 have c0:x.of=0:=O;obtain⟨p1,p2,p3⟩:=hp O;obtain⟨q1,q2,q3⟩:=hq O;obtain⟨b1,b2⟩:=hb c0;have up:=pD p3;have uq:=pD q3;have kp:∀y∈m,y.p.D=x.p.D:=λy hy=>by
  have:cP y.p∈ux x.p:=by rw[<-up];exact Xd (Xd hy)
  rw[<-Ju];exact yB this
 have kq:∀y∈m,y.q.D=x.q.D:=λy hy=>by
  have:cP y.q∈ux x.q:=by rw[<-uq];exact Xd (Xd hy)
  rw[<-Ju];exact yB this
 have hr:∀y∈m,rp f y=gk f y.p y.q:=λy hy=>by unfold rp;grind
 by_cases q0:x.q.D=0;.grind[cP,Zw,gk]
 by_cases p0:x.p.D=0;.grind[cP,Zw,gk]
 have ax:x.p.D=2\/x.p.D=3:=by rcases Zx p1 with k|k|k|k<;>omega
 have av:x.q.D=1\/x.q.D=3:=by rcases Zx q1 with k|k|k|k<;>omega
 by_cases pq:x.p.D=2/\x.q.D=1
 .obtain⟨t1,_⟩:=nW (k:=2) (.inr rfl) (l:=x.p.l) (m:=m.map bK.p) (by rw[up,iP (.inr pq.1),pq.1]);obtain⟨t2,_⟩:=nW (k:=1) (.inl rfl) (l:=x.q.l) (m:=m.map bK.q) (by rw[uq,iP (.inl pq.2),pq.2]);have t1:x.p.l=m.map λy=>y.p.t:=by rw[QP]at t1;exact t1
  have t2:x.q.l=m.map λy=>y.q.t:=by rw[QP]at t2;exact t2
  have L:Zw f x=⟨Op.nil,I,gw x.p.l x.q.l⟩:=by unfold Zw;rw[Q0 O,Q0 O,Q5 pq];congr 1;grind[List.take_of_length_le]
  grind[ZfO,gw,Z6,Yz]
 have ai:J m=1:=by
  have:Z4 x.p=1\/Z4 x.q=1:=by
   by_cases h:x.p.D=3;.exact .inl (Yk h)
   .exact .inr (Yk O)
  omega
 obtain⟨y,rfl⟩:∃y,m=[y]:=by match m,ai with|[y],_=>grind
 have ky:=kp y Q6;have kz:=kq y Q6;have e1:J4 f [y]=if(gk f y.p y.q).2 then A (gk f y.p y.q).1 else aT:=by
  rw[ur,hr y Q6];split;.simp[J4]
  .try rfl
 rw[e1];simp only[Qu,QG]at up uq;by_cases p2':x.p.D=2
 .have ab:x.q.D=3:=O;rw[iP (.inr p2')]at up;obtain⟨e2,_⟩:=nd q1 ab;rw[e2]at uq;have et:x.p.l=[y.p.t]:=by have:=(nW (k:=2) (.inr rfl) (l:=x.p.l) (m:=[y.p]) (by grind)).1;simpa using this
  have ee:y.q.e=x.q.e:=by have h:=(List.cons.inj uq).1;unfold cP at h;rw[Q0 O,Q5 O]at h;injection h
  have L:Zw f x=⟨⟨2,0,[YH (bX Y y.q.e y.p.t)],W.nil⟩,Y,(bX Y y.q.e y.p.t).isSome⟩:=by unfold Zw;rw[Q0 O,Q0 O,Q0 pq,Q5 p2',et,ee];simp only[Qm,dX,pr,XD]
  have hu:gk f y.p y.q=([⟨2,0,[YH (bX Y y.q.e y.p.t)],W.nil⟩],(bX Y y.q.e y.p.t).isSome):=by unfold gk;grind
  rw[L,hu];try rfl
 have ah:x.p.D=3:=O;obtain⟨e2,_⟩:=nd p1 ah;rw[e2]at up;have ao:y.p.e=x.p.e:=by
  have h:=(List.cons.inj up).1;unfold cP at h;rw[Q0 O,Q5 O]at h;injection h
 by_cases q1':x.q.D=1
 .rw[iP (.inl q1')]at uq;have et:x.q.l=[y.q.t]:=by have:=(nW (k:=1) (.inl rfl) (l:=x.q.l) (m:=[y.q]) (by grind)).1;simpa using this
  have L:Zw f x=⟨⟨1,0,[YH (bX Y (Zd (Zm y.p.e)) y.q.t)],W.nil⟩,Y,(bX Y (Zd (Zm y.p.e)) y.q.t).isSome⟩:=by unfold Zw;rw[Q0 O,Q0 O,Q0 pq,Q0 p2',Q5 q1',et,ao];simp only[Qm,dX,pr,XD]
  have hu:gk f y.p y.q=([⟨1,0,[YH (bX Y (Zd (Zm y.p.e)) y.q.t)],W.nil⟩],(bX Y (Zd (Zm y.p.e)) y.q.t).isSome):=by unfold gk;grind
  rw[L,hu];try rfl
 have ab:x.q.D=3:=O;obtain⟨e3,_⟩:=nd q1 ab;rw[e3]at uq;have a8:y.q.e=x.q.e:=by have h:=(List.cons.inj uq).1;unfold cP at h;rw[Q0 O,Q5 O]at h;injection h
 have L:Zw f x=⟨⟨3,0,[],(f x.p.e x.q.e).1⟩,Y,(f x.p.e x.q.e).2⟩:=by unfold Zw;grind
 have hu:gk f y.p y.q=([⟨3,0,[],(f x.p.e x.q.e).1⟩],(f x.p.e x.q.e).2):=by unfold gk;grind
 rw[L,hu];try rfl
theorem Ze3{f bV p0 q0}:∀{ps m},xb bV ps m->(∀x∈ps,nB p0 q0 x)->J4 f m=(iz f ps).map λl=>l.flatMap ux
 |[],m,h,_=>by
  have h:m=[]:=h;subst h;try rfl|x::r,m,h,hok=>by
  rw[zc]at h;obtain⟨m1,m2,rfl,hm,⟨s,_,ha,hp,hq⟩,hr⟩:=h;have ih:=Ze3 (f:=f) hr λy hy=>hok y (Q4 _ hy);have hx:=hok x Q6;have j:=Zv9 (f:=f) s ha (λh=>⟨(hp h).1,(hp h).2.2⟩) (λh=>⟨(hq h).1,(hq h).2.2⟩) λh=>⟨(hx.dF h).1,(hx.dF h).2.1⟩;rw[RT,j,iz];by_cases L:(Zw f x).ok=Y;.rw[Q5 L,Q5 L,Qp,ih];cases iz f r<;>grind[iz]
  grind
theorem ZsL{f p q}(hp:lR p)(hq:lR q):o6 f p q=(je f p q).map λl=>l.flatMap ux:=by obtain⟨ok,l,m,e1,e2,e3,e4⟩:=Zko 1 (.inl rfl) _ p q [] (Zn 0 1 p) (Zn 0 2 q) [] (Qa _) hp hq (xr 1 p 0) (xr 2 q 0);obtain⟨i1,_⟩:=yn _ p q [] (Qa _) (λo s=>(hp o s).1) λo s=>(hq o s).1;unfold je o6;rw[e2,e3,e1];cases ok with|false=>rfl|true=>obtain⟨ps,e,h,_,_⟩:=i1 e2;rw[e1,Q5 rfl]at e;simp only[Qn]at e;subst e;simp only[Xa,Qn];exact Ze3 (e4 rfl).1 h
theorem ZiU{V}{o:Op}(h:Zg V o (-2)=Y)(g:Jt o):∀y∈ux o,Zg V y (-2)=Y/\Jt y:=by have ho:=uu h;have aG:=Jr g;have R:=ZQ h;intro y s;cases R with|bN n h1 h2=>rw[(tR ho rfl).1]at s;rw[Ki s];exact⟨Mp V1 V1 _,YI V1 V1,YI V1 V1,trivial,aG.2.2.2⟩|gone l h1 h2=>rw[iP (.inl rfl)]at s;obtain⟨t,ht,rfl⟩:=QU.1 s;exact⟨u0 (.inl rfl) (sd λx hx=>by grind[rN]) (by simp),aG.1,YI V1 V1,⟨YW aG.2.2.1 ht,trivial⟩,aG.2.2.2⟩|eD l h1 h2=>rw[iP (.inr rfl)]at s;obtain⟨t,ht,rfl⟩:=QU.1 s;exact⟨u0 (.inr rfl) (sd λx hx=>by grind[rN]) (by simp),aG.1,YI V1 V1,⟨YW aG.2.2.1 ht,trivial⟩,aG.2.2.2⟩|dL e h1 h2=>rw[ZIy]at s;grind
theorem qI(φ)(h)(c)(L:∀t,φ (h t)=c t):∀l:List H,ZG φ (l.map h)=(l.map c).sum|[]=>rfl|t::r=>by simp only[Qu,ZG,L,Kr,qI φ h c L r]
theorem C3(φ)(o):∀n,ZG φ (List.replicate n o)=n*φ o|0=>by simp[ZG]|n+1=>by rw[XJ,ZG,C3 φ o n];grind
theorem uA(φ)(h:∀o,ZH o->ZG φ (ux o)=φ o):∀{l},(∀o∈l,ZH o)->ZG φ (l.flatMap ux)=ZG φ l|[],_=>rfl|o::r,hl=>by rw[XH,zd,h o (hl o Q6),uA φ h λx s=>hl x (Q4 _ s)];try rfl
theorem F8(c:Int):∀l:List H,(l.map λ_=>c).sum=J l*c|[]=>by simp|t::r=>by rw[Qu,Kr,F8 c r,Qd];grind
theorem ZWN{o}(h:ZH o):ZG φA (ux o)=φA o:=by
 rcases Zx h with k|k|k|k;.obtain⟨e,s⟩:=tR h k.1;rw[e,C3];have e1:φA ⟨0,1,[],W.nil⟩=1:=rfl;grind[φA,rL]
 .rw[iP (.inl k),qI φA _ (λ_=>1) λt=>by grind[φA,Z4],F8];grind[φA,Yn]
 .simp_all[iP,qI,φA,F8]
 grind[nd,ZG]
theorem ZTN{o}(h:ZH o):ZG φB (ux o)=φB o:=by
 rcases Zx h with k|k|k|k;.obtain⟨e,s⟩:=tR h k.1;rw[e,C3];have e1:φB ⟨0,1,[],W.nil⟩=1:=rfl;grind[φB,rL]
 .simp_all[iP,qI,φB,F8]
 .rw[iP (.inr k),qI φB _ (λ_=>1) λt=>by grind[φB,Z4],F8];grind[φB,Yn]
 grind[nd,ZG]
def φU(o:Op):Int:=mU o
theorem MC:∀l,ZG φU l=gA l|[]=>rfl|o::r=>by simp only[ZG,gA,φU,MC r];omega
theorem Uh:∀l,(l.map λt=>((34+Zo t:Nat):Int)).sum=34*J l+Ze l|[]=>rfl|t::r=>by rw[Qu,Kr,Uh r];grind[Ze]
theorem ZWL{o}(h:ZH o):ZG φU (ux o)=φU o:=by
 have hu:=sf o;rcases Zx h with k|k|k|k
 .obtain⟨e,s⟩:=tR h k.1;have hl:o.l=[]:=by rcases h with h|h|h<;>grind
  rw[e,C3];have e1:φU ⟨0,1,[],W.nil⟩=34:=rfl;grind[φU,Ze]
 .have s:o.n=0:=by rcases h with h|h|h<;>grind
  grind[iP,qI,φU,Zo,sf,Ze,Uh]
 .have s:o.n=0:=by rcases h with h|h|h<;>grind
  grind[iP,qI,φU,Zo,sf,Ze,Uh]
 grind[nd,ZG]
theorem ZOH:vM φU:=by
 intro o n h h1 s;have hl:=YN o;unfold φU;rw[sf,sf,sf,Jy,JD];unfold ZD iN;rw[Q0 s];rcases h with⟨k0,k1,k2,k3⟩|⟨k0,k1,k2,k3⟩|⟨k0,k1,k2⟩;.grind[Ze]
 .rw[Q0 O,Q0 O,Q0 O,Q0 O,Q0 O];rw[Q0 O]at hl;dsimp only;have:=Jl (o.l.take (G n)) (o.l.drop (G n));grind[List.take_append_drop]
 omega
theorem ZQi{l o}(h:dB l o):∃s∈l,o.D=s.D/\o.e=s.e:=by obtain⟨s,a,b,c,_⟩:=h;grind
theorem ZJo{f p q}(wp:Wk p)(wq:Wk q)(ih:∀a b,Z1 a+Z1 b<Z1 p+Z1 q->Wk a->Wk b->(f a b).2=Y->fv (f a b).1+18<=fv a+fv b){ps}(e:(ZC 1 2 p.ops q.ops []).1=ps)(al:(ZC 1 2 p.ops q.ops []).2.1=Y){ops}(L:iz f ps=A ops):gA ops<=gA p.ops+gA q.ops:=by
 have gp:=Zp wp.g;have gq:=Zp wq.g;have op:=Zr wp.r;have oq:=Zr wq.r;have ai:∀{e:W},Wk e->∀{o:Op},dB e.ops o->o.D=3->Z1 o.e<Z1 e/\Wk o.e:=by intro e w o h k;obtain⟨o',m,k1,e1⟩:=ZQi h;rw[e1];exact⟨Yf m,.of (Yi (bM (Zc w.r).ops m) O) (Jr (qe (Zp w.g).2.2.2.2 m)).2.2.2⟩
 obtain⟨i1,_⟩:=yn _ p.ops q.ops [] (Qa _) op oq;obtain⟨a8,e0,aw,_,_⟩:=i1 al;obtain⟨bi,e1,sA,sB,_⟩:=D6 ZOH ZOH 1 _ p.ops q.ops [] (Qa _) op oq al;rw[e,Qn]at e0 e1;subst e0 e1;have cE:∀x∈ps,(Zw f x).ok=Y->(Zw f x).is=Y->φU (Zw f x).op<=(if x.of=2 then 0 else φU x.p)+if x.of=1 then 0 else φU x.q:=by
  intro x hx s;have aC:=aw x hx;have ae:∀o:Op,0<=φU o:=λo=>by unfold φU;omega
  have n1:=ae x.p;have n2:=ae x.q;unfold Zw at s⊢;by_cases c1:x.of=1\/x.of=0/\x.q.D=0;.grind
  rw[Q0 c1]at s⊢;by_cases c2:x.of=2\/x.p.D=0;.grind
  rw[Q0 c2]at s⊢;have c0:x.of=0:=by rcases aC.of with h|h|h<;>omega
  obtain⟨b1,b2,b3⟩:=aC.dF c0;have h1:x.of≠1:=O;have h2:x.of≠2:=O;obtain⟨pp,am⟩:=aC.pp h2;obtain⟨pq,ak⟩:=aC.qq h1;have kp:x.p.D=2\/x.p.D=3:=by rcases Zx am with k|k|k|k<;>omega
  have kq:x.q.D=1\/x.q.D=3:=by rcases Zx ak with k|k|k|k<;>omega
  rw[Q0 h2,Q0 h1];have up:φU x.p=mU x.p:=rfl;have uq:φU x.q=mU x.q:=rfl;rw[sf]at up uq;by_cases c3:x.p.D=2/\x.q.D=1;.grind
  rw[Q0 c3]at s⊢;have ab:∀{o:Op},o.D=1\/o.D=2->Z4 o=1->ZH o->∃t,o.l=[t]:=by intro o k h1 ho;have a4:=Yn ho k;have aj:J o.l=1:=O;match h:o.l,aj with|[t],_=>exact⟨t,rfl⟩
  by_cases c4:x.p.D=2
  .rw[Q5 c4]at s⊢;have aa:x.q.D=3:=O;have aj:Z4 x.q=1:=Yk aa;obtain⟨t,ht⟩:=ab (.inr c4) O am;obtain⟨_,w⟩:=ai wq pq aa;rw[ht,Qm]at s⊢;dsimp only at s⊢;obtain⟨v,hv,ev⟩:=vU s;intro _;rw[ev];have m1:=pv I _ _ _ v w.r hv;have m2:=ZX v;have m3:=vO _ x.q.e (Qa _) ⟨_,w.r⟩;rw[Q0 O,ht]at up;rw[Q5 aa]at uq;have:φU ⟨2,0,[Z2 v],W.nil⟩=34+Zo (Z2 v):=rfl;grind[Ze]
  rw[Q0 c4]at s⊢;have ah:x.p.D=3:=O;have a7:Z4 x.p=1:=Yk ah;obtain⟨mp,w⟩:=ai wp pp ah;by_cases c5:x.q.D=1
  .rw[Q5 c5]at s⊢;obtain⟨t,ht⟩:=ab (.inl c5) O ak;rw[ht,Qm]at s⊢;dsimp only at s⊢;obtain⟨v,hv,ev⟩:=vU s;intro _;rw[ev];have m1:=pv I _ _ _ v w.tu.r hv;have m2:=ZX v;have m3:=vO _ x.p.e (Qa _) ⟨_,w.r⟩;have m4:=qJ (Zm x.p.e);rw[xX]at m4;rw[Q0 O,ht]at uq;rw[Q5 ah]at up;have:φU ⟨1,0,[Z2 v],W.nil⟩=34+Zo (Z2 v):=rfl;grind[Ze]
  rw[Q0 c5]at s⊢;have aa:x.q.D=3:=O;obtain⟨mq,w'⟩:=ai wq pq aa;dsimp only at s⊢;intro _;have aF:=ih x.p.e x.q.e O w w' s;rw[Q5 ah]at up;rw[Q5 aa]at uq;have:φU ⟨3,0,[],(f x.p.e x.q.e).1⟩=16+fv (f x.p.e x.q.e).1:=rfl;rw[this];omega
 have all:∀(ps:List cm)(ops:List Op),(∀x∈ps,(Zw f x).ok=Y->(Zw f x).is=Y->φU (Zw f x).op<=(if x.of=2 then 0 else φU x.p)+if x.of=1 then 0 else φU x.q)->iz f ps=A ops->ZG φU ops<=ZG φU (jF ps)+ZG φU (jZ ps):=by intro ps;induction ps with|nil=>intro ops _ h;cases h;trivial|cons x r ihp=>
   intro ops hx h;rw[iz]at h;split at h
   .rename_i s;obtain⟨l,ax,rfl⟩:=Qf.1 h;have j:=ihp l (λy hy=>hx y (Q4 _ hy)) ax;have k:=hx x Q6 s;have ae:∀o:Op,0<=φU o:=λo=>by unfold φU;omega
    have n1:=ae x.p;have n2:=ae x.q;have ba:ZG φU (jF (x::r))=(if x.of=2 then 0 else φU x.p)+ZG φU (jF r):=by simp only[jF];split<;>simp[ZG]
    grind[ZG,φU,jZ,Zw]
   .cases h
 grind[sA,sB,MC]
theorem ZwC(o n):fv (.mk 1 o n [] [] 0 [])=16+Zo o+Zo n:=by rfl
theorem ZEP:∀n(p q:W),Z1 p+Z1 q<=n->n<=18000000000->Wk p->Wk q->gJ False (gF n p q) p q/\((gF n p q).2=Y->fv (gF n p q).1+18<=fv p+fv q):=by intro n;induction n with|zero=>intro p q h;have:=s8 p;omega|succ n ih=>
  intro p q hn hN wp wq;have rp:=Zc wp.r;have rq:=Zc wq.r;have ak:∀a b,Z1 a+Z1 b<Z1 p+Z1 q->Wk a->Wk b->gJ False (gF n a b) a b:=λa b h wa wb=>(ih a b O O wa wb).1;have aj:∀a b,Z1 a+Z1 b<Z1 p+Z1 q->Wk a->Wk b->(gF n a b).2=Y->fv (gF n a b).1+18<=fv a+fv b:=λa b h wa wb=>(ih a b O O wa wb).2;have aE:=ZwZ wp wq ak;have up:=ES p;have uq:=ES q;have u1:=Hu p;have u2:=Hu q;have gp:=Zp wp.g;have gq:=Zp wq.g;have c1:=vO _ p (Qa _) ⟨_,wp.r⟩;have c2:=vO _ q (Qa _) ⟨_,wq.r⟩;have mo:=Jg p.bH;have mn:=Jg p.new;have a6:=Jg q.bH;have ba:=Jg q.new;have hB:∀(e:W)(t:H),dX e t=(YH (bX Y e t),(bX Y e t).isSome):=λe t=>by grind[dX,pr]
  have no:∀e:W,gJ False (e,I) p q/\((e,I).2=Y->fv (e,I).1+18<=fv p+fv q):=λe=>⟨⟨λh=>(by cases h),λh=>h.elim,λ_ _ h=>(by cases h),λ_ _ _ _ _ h=>by cases h⟩,λh=>by cases h⟩;show gJ False (lK (gF n) p q) p q/\((lK (gF n) p q).2=Y->fv (lK (gF n) p q).1+18<=fv p+fv q);unfold mE at aE;unfold lK;by_cases p0:p.D=0;.grind
  rw[Q0 p0]at aE⊢;by_cases q0:q.D=0;.grind
  rw[Q0 q0]at aE⊢;by_cases p1:p.D=1
  .rw[Q5 p1]at aE⊢;refine⟨by rw[hB]at aE;exact aE,λh=>?_⟩;have h:(dX q p.new).2=Y:=by rw[hB];exact h
   obtain⟨v,hv,e⟩:=vU h;have e':YH (bX Y q p.new)=Z2 v:=by rw[<-e,hB]
   have:=pv I q _ _ v wq.r hv;grind[ZX,ZwC]
  rw[Q0 p1]at aE⊢;by_cases q1:q.D=1
  .rw[Q5 q1]at aE⊢;refine⟨by rw[hB]at aE;exact aE,λh=>?_⟩;have h:(dX (Zd (Zm p)) q.bH).2=Y:=by rw[hB];exact h
   obtain⟨v,hv,e⟩:=vU h;have e':YH (bX Y (Zd (Zm p)) q.bH)=Z2 v:=by rw[<-e,hB]
   have:=pv I _ _ _ v wp.tu.r hv;grind[ZX,qJ,Zm,xX,ZwC]
  rw[Q0 q1]at aE⊢;by_cases hk:p.D=q.D
  .rw[Q0 (show¬p.D≠q.D by omega)];by_cases p2:p.D=2
   .have l1:=(rp.iy O).1;have l2:=(rq.iy O).1;rw[Q0 (by grind),Q5 p2]at aE;rw[Q5 p2];rw[Zh9 _ p.aS q.aS (-1) (Qa _) (YJ rp.aS) (YJ rq.aS)];have ay:1<=n\/p.X=[]/\q.X=[]:=by
     by_cases h1:p.X=[]
     .by_cases h2:q.X=[];.exact .inr ⟨h1,h2⟩
      .obtain⟨k,hk⟩:=XU _ h2;have:=ZA hk;have:=s8 k.e;exact .inl O
     .obtain⟨k,hk⟩:=XU _ h1;have:=ZA hk;have:=s8 k.e;exact .inl O
    have hm:iS (gF n) p.X q.X (Y7 (p.X.map aW.S) (q.X.map aW.S))=Zk aW.S (fV (gF n)) p.X q.X:=by
     rcases ay with h|⟨h1,h2⟩
     .obtain⟨m,rfl⟩:∃m,n=m+1:=⟨n-1,O⟩;exact Zhc _ p.X q.X (-1) (Qa _) (Jh rp.X) (Jh rq.X) (λk hk=>(No m (Zl rp.X k hk).1.2.2).1) λk hk=>(No m (Zl rq.X k hk).1.2.2).2
     .rw[h1,h2,QG,Y7,Zk];try rfl
    rw[hm];cases hw:Zk aV.S Jk p.aS q.aS with
    |none=>exact no W.nil|some aB=>
     rw[hw,Q5 (show(A aB).isSome=Y from rfl)]at aE;cases hf:Zk aW.S (fV (gF n)) p.X q.X with
     |none=>exact no W.nil|some aM=>
      rw[hf]at aE;refine⟨aE,λ_=>?_⟩;have aw:=Zl rp.X;have az:=Zl rq.X;have d1:=M4 (λ_=>1) _ _ _ _ (Qa _) λa _ b _ _=>by omega hw;have d2:=M4 xv _ _ _ _ (Qa _) λa ha b hb L=>by
       have L:(gF n a.e b.e).2=Y:=L;have m1:=ZA ha;have m2:=ZA hb;have:=aj a.e b.e O (.of (aw a ha).2 (Y6 gp.2.2.2.1 ha).2) (.of (az b hb).2 (Y6 gq.2.2.2.1 hb).2) L;rw[C7,C7,C7];show 65600+fv (gF n a.e b.e).1<=_;omega hf;rw[xy,xy,xy]at d1;have su:∀l:List bP,oT xv l=kS l:=by intro l;induction l with|nil=>rfl|cons a r ihl=>simp only[oT,kS,ihl]
      grind[fv,gA,oM]
   .have p3:p.D=3:=by have:=rp.D;omega
    have q3:q.D=3:=O;rw[Q0 p2];by_cases hl:p.V=q.V
    .rw[Q0 O];have ok:∀(e:W),Wk e->Z1 e<=18000000000->lR e.ops:=λe h hm o s=>by
      refine⟨Zr h.r o s,?_⟩;have:=Dr s;obtain⟨kk,ol,nn,w,ks,l,os⟩:=e;grind[Z1,W.jK]
     rw[ZsL (ok p wp O) (ok q wq O)];unfold je;by_cases hb1:(ZC 1 2 p.ops q.ops []).2.1=Y
     .rw[Q5 hb1];cases L:iz (gF n) (ZC 1 2 p.ops q.ops []).1 with
      |none=>exact no W.nil|some ops=>
       obtain⟨j1,j2,j3,_⟩:=ZyU wp wq p3 hl ak rfl hb1 L;have ju:=ZJo wp wq aj rfl hb1 L;have ae:∀o∈ops,ZH o:=λo s=>uu (j1 o s).1;have fr:∀y∈ops.flatMap ux,Zg p.V y (-2)=Y/\Jt y:=by intro y hy;obtain⟨o,s,hy⟩:=K7.1 hy;exact ZiU (j1 o s).1 (j1 o s).2 y hy
       have fA:=uA φA (λo h=>ZWN h) ae;have fB:=uA φB (λo h=>ZTN h) ae;have fU:=uA φU (λo h=>ZWL h) ae;rw[tS,tS]at fA;rw[mv,mv]at fB;rw[MC,MC]at fU;have al:∀o∈ops.flatMap ux,0<=Z4 o:=λo s=>uL (uu (fr o s).1);have lA:=se _ 0 al V1 V1;have lB:=sJ _ 0 al V1 V1;have mA:=se p.ops 0 (λo s=>uL (Zr wp.r o s)) V1 V1;have mB:=sJ q.ops 0 (λo s=>uL (Zr wq.r o s)) V1 V1;have t1:=rp.len.1;have t2:=rq.len.2;have aq:=rp.V p3;show gJ False (.mk 3 H.nil H.nil [] [] p.V (ops.flatMap ux),Y) p q/\_;refine⟨⟨λ_=>⟨Wq aq (Ly λo s=>(fr o s).1) O O,?_⟩,λh=>h.elim,λ_ _ _=>show(3:Int)≠0 by decide,λV h7 h9 _ _ _ a1 a9=>?_⟩,λ_=>?_⟩;.exact⟨YI V1 V1,oC,oC,by simp,V3,trivial,Fx λo s=>(fr o s).2⟩
       .rcases a1 with h|h|h;.exact .inl h
        .omega
        .omega
       grind[fv,H.nil,ux,kS,oM]
     .rw[Q0 hb1];exact no W.nil
    .rw[Q5 hl];exact no W.nil
  .rw[Q5 hk];exact no W.nil
def eJ(e:W):Prop:=fv e<=9000000000/\Ye e/\∃d,Z3 e d=Y
theorem eJ.re{e}(h:eJ e):ZR e:=⟨QS (vO _ e (Qa _) h.2.2) h.1,h.2⟩
noncomputable section
def ZL5:cF oZ:=.cons (J1 .u8) .nil
def I_(a:oZ):Prop:=0<=a.1/\a.1<256
def ZPD(a:oZ):aA U:=.c (.int .u64 ((i_ (G a.1) 8:Nat)))
def Zx9:Fs U:=fs ZL5 (λa=>[I_ a]) ZPD
def ZQ6(a:lV):aA U:=.c (.bool (decide (H.D a.1≠10)&&Zf a.1 64))
def Rs:Fs U:=fs ov (λa=>[tJ a]) ZQ6
def GU(a:Fc):Prop:=Zo a.2.1<=18000000000/\ei a.2.1/\bQ a.1
def ZPC(a:Fc):aA U:=.c (.bool (Zf (H.mk a.1 [] [a.2.1]) 64))
def Zx7:Fs U:=fs ZLu (λa=>[GU a]) ZPC
def WL:cF DG:=.cons (J1 .i64) (.cons (fe .aY) .nil)
def Ew(a:DG):Prop:=True
def ZPB(a:DG):aA U:=.c (.bool (ss a.1 a.2.1))
def Vz:Fs U:=fs WL (λa=>[Ew a]) ZPB
def ZMa:cF EF:=.cons (fY .bD) .nil
def NP(a:EF):Prop:=J a.1<=20000000000/\∀x∈a.1,gN x
def ZQ5(a:EF):aA U:=.c (.bool (Ya (-1) a.1))
def SB:Fs U:=fs ZMa (λa=>[NP a]) ZQ5
def BI:Zb U:=cI [[0],[3],[5],[6],[4,6],[12],[4,12],[],[0,2,3,5]]
def F3(m h s:Int):bT U:=L2 [(0,.c (.int .u8 m)),(3,.c (.int .u64 h)),pI 5 s] []
abbrev ZXL(m)(Q:QT):=AW (Za cQ) Tryz.f215 BI [] (L2 [(0,.c (.int .u8 m))] []) Q
theorem ZTv(m)(Q:QT)(h:Zi (AW (Za cQ) Tryz.f215 BI [1,1,0,1,0,0]) (F3 m 0 0) (xB 0 (SW (Za cQ) Tryz.f215 BI [1,1,1] Q))):ZXL m Q:=Eq.mpr V4 h
abbrev ZMq(m h s)(N0:NT)(Q:QT):=AW (Za cQ) Tryz.f215 BI [1,1,0,1,0,0] (F3 m h s) (xT N0 (xB 0 (SW (Za cQ) Tryz.f215 BI [1,1,1] Q)))
theorem ZBN(m x3 s)(N0)(Q)(h:let z1:=IntKind.bits .u8;let z0:=IntKind.bits .u64;iB (decide (s<8)) ( 0<=s/\iB ((IntKind.wrap .u8 (BitVec.ofInt z1 (Int.fdiv m (2^min s.toNat z1))&&&BitVec.ofInt z1 1).toNat)==1) ( bQ (8*s)/\0<=8*s/\bQ (s+1)/\N0 (F3 m (IntKind.wrap .u64 (BitVec.ofInt z0 x3|||BitVec.ofInt z0 (IntKind.wrap .u64 (255*2^min (Int.toNat (8*s)) z0))).toNat) (s+1))) ( bQ (s+1)/\N0 (F3 m x3 (s+1)))) (Q .ret (L2 [(2,.c (.int .u64 x3))] []))):ZMq m x3 s N0 Q:=Eq.mpr V4 h
def Zz2:List (FuncId×Fs U):=[(215,Zx9)]
def ZOd:Zb U:=cI [[0,1,2],[0,1,2,6]]
abbrev ZXM(a b m)(Q:QT):=AW (Za Zz2) Tryz.f176 ZOd [] (L2 [(0,.c (.int .u64 a)),(1,.c (.int .u64 b)),(2,.c (.int .u8 m))] []) Q
theorem ZTC(a b m)(Q)(h:let z0:=IntKind.bits .u64;I_ (m,())/\I_ (m,())/\Q .ret (L2 [(6,.c (.int .u64 (IntKind.wrap .u64 (BitVec.ofInt z0 (IntKind.wrap .u64 (BitVec.ofInt z0 a&&&~~~BitVec.ofInt z0 ((i_ m.toNat 8:Nat))).toNat)|||BitVec.ofInt z0 (IntKind.wrap .u64 (BitVec.ofInt z0 b&&&BitVec.ofInt z0 ((i_ m.toNat 8:Nat))).toNat)).toNat)))] [])):ZXM a b m Q:=Eq.mpr V4 h
def ZKi:List (FuncId×Fs U):=[(82,Un)]
def ZUr:Zb U:=cI [[0,3,503],[0,3,4,503]]
def ZJC:List (FuncId×Fs U):=[(220,T1)]
def ZUq:Zb U:=cI [[0,3,503],[5],[0,3,4,5,503],[3,4,13,503],[3,4,13,503],[]]
def vn:List (FuncId×Fs U):=[(176,sT)]
def Fe:Zb U:=cI [[0],[5,6,7],[8],[3,4,8,504],[3,39],[0,2,4,5,6,7,39,504],[0,2,5,6,7,53],[0,2,5,6,7,53],[0,2,5,6,7],[0,2,5,6,7]]
def I5(l:List aV)(h:Int):bT U:=L2 [(0,.c (sU .bD l .bA)),(5,.c (sU .bD l .bA)),pI 6 (J l),pI 7 h] []
abbrev ZME(l)(h)(N0:NT)(Q:QT):=AW (Za vn) Tryz.f123 Fe [1,0,1,0,0] (I5 l h) (xT N0 (xB 0 (SW (Za vn) Tryz.f123 Fe [1,1] Q)))
theorem ZCL(l)(x7)(N0)(Q)(h:∀s,s=aR l (G x7) (aV.mk 0 0 0 0)->∀ab,ab=List.getD l (Int.toNat (x7-1)) (aV.mk 0 0 0 0)->let z6:=Q .ret (L2 [pB 2 I] []);let z5:=decide (0<x7);let z4:=decide (s.S<0);let z2:=(cS s.bH 0 s.a_)!=0;let z0:=bif z4 then Y else decide (65535<=s.S);let z3:=!z0&&z5;let z1:=bif z0 then Y else bif z5 then decide (s.S<=ab.S)else I;iB (decide (x7<(J l))) ((0<=x7/\x7<(J l))/\Tk 2 (!z4) ((z4=I->(!z4)=Y)/\Tk 2 (!z0) ( Tt z3/\(z3=Y->bQ (x7-1))/\Tk 2 z3 ((z3=Y->0<=x7-1/\x7-1<(J l))/\Tk 5 z3 (((!z0)=Y->True->(!z0)=Y)/\((!z0)=Y->z5=Y->z3=Y)/\(z0=I->(!z0)=Y)/\Tk 2 (!z1) ((z1=I->(!z1)=Y)/\iB (bif z1 then Y else s.a_==0) z6 ( iK (s.bH,0,s.a_,())/\Tk 4 (!z2) (((!z2)=Y->iK (s.new,0,s.a_,()))/\Tt !z2/\(z2=I->(!z2)=Y)/\iB (bif z2 then Y else(cS s.new 0 s.a_)!=0) z6 ( bQ (x7+1)/\N0 (I5 l (x7+1))))))))))) (Q .ret (L2 [pB 2 Y] []))):ZME l x7 N0 Q:=Eq.mpr V4 (h _ rfl _ rfl)
end
theorem ZHr:∀n:Fin 256,∀i:Fin 8,IntKind.wrap .u8 (BitVec.ofInt (IntKind.bits .u8) (Int.fdiv n.1 (2^min (Int.toNat i.1) (IntKind.bits .u8)))&&&BitVec.ofInt (IntKind.bits .u8) 1).toNat=((n.1/2^i.1%2:Nat)):=by decide+kernel
theorem ZJ3:∀n:Fin 256,∀i:Fin 8,IntKind.wrap .u64 (BitVec.ofInt (IntKind.bits .u64) ((i_ n.1 i.1:Nat))|||BitVec.ofInt (IntKind.bits .u64) (IntKind.wrap .u64 (255*2^min (Int.toNat (8*i.1)) (IntKind.bits .u64)))).toNat=((i_ n.1 i.1+255*2^(8*i.1):Nat)):=by decide+kernel
theorem ZXq:aU Tryz.prog M 215 Zx9:=by
 refine kF (l:=cQ) trivial BI Tryz.func215 1 λ⟨m,_⟩hp=>?_;simp only[I_]at hp;obtain⟨n,rfl⟩:=XI hp.1;have hn:n<256:=O;refine ZTv _ _ ?_;refine Z5 (ι:=Nat) (λi=>F3 n ((i_ n i:Nat):Int) i) (λi=>i<=8) (λi=>8-i) 0 rfl O ?_;intro i hi;refine ZBN _ _ _ _ _ ?_;(simp only[iB,bW]);refine⟨λL=>⟨O,λs=>⟨V3,O,V3,i+1,?_,O,O⟩,λs=>⟨V3,i+1,?_,O,O⟩⟩,λL=>?_⟩
 .have h:=ZHr ⟨n,hn⟩ ⟨i,O⟩;have h2:=ZJ3 ⟨n,hn⟩ ⟨i,O⟩;simp only at h h2;rw[h]at s;rw[h2];have e:i_ n (i+1)=i_ n i+255*2^(8*i):=by simp only[i_];grind
  rw[e];try rfl
 .have h:=ZHr ⟨n,hn⟩ ⟨i,O⟩;simp only at h;rw[h]at s;have e:i_ n (i+1)=i_ n i:=by simp only[i_];rw[Q0 O];omega
  rw[e];try rfl
 .have:i=8:=O;subst this;trivial
theorem Mr(a:Nat)(h:a<2^64):(BitVec.ofInt 64 a).toNat=a:=by grind
theorem yq:aU Tryz.prog M 176 sT:=by
 refine kF (l:=Zz2) ⟨ZXq,trivial⟩ ZOd Tryz.func176 3 λ⟨a,b,m,_⟩hp=>?_;simp only[iK]at hp;obtain⟨⟨a0,a1⟩,⟨b0,b1⟩,m0,m1⟩:=hp;obtain⟨x,rfl⟩:=XI a0;obtain⟨y,rfl⟩:=XI b0;obtain⟨n,rfl⟩:=XI m0;have hn:n<256:=O;have hx:x<2^64:=O;have hy:y<2^64:=O;have s:=ZHX ⟨n,hn⟩;have h:=Zww ⟨n,hn⟩;simp only at s h;rw[<-h]at s;refine ZTC _ _ _ _ ?_;refine⟨⟨m0,m1⟩,⟨m0,m1⟩,YO rfl ?_⟩;have em:cS x y n=(( x&&&2^64-1-i_ n 8|||y&&&i_ n 8:Nat):Int):=by rw[<-ZFO,<-ZFN x y n hn]
 have e1:(BitVec.ofInt 64 (x:Int)&&&~~~BitVec.ofInt 64 ((i_ n 8:Nat):Int)).toNat=x&&&2^64-1-i_ n 8:=by rw[BitVec.toNat_and,BitVec.toNat_not,Mr x hx,Mr _ s]
 have e2:(BitVec.ofInt 64 (y:Int)&&&BitVec.ofInt 64 ((i_ n 8:Nat):Int)).toNat=y&&&i_ n 8:=by rw[BitVec.toNat_and,Mr y hy,Mr _ s]
 have l1:x&&&2^64-1-i_ n 8<2^64:=Nat.lt_of_le_of_lt Nat.and_le_left hx;have l2:y&&&i_ n 8<2^64:=Nat.lt_of_le_of_lt Nat.and_le_left hy;have l3:x&&&2^64-1-i_ n 8|||y&&&i_ n 8<2^64:=Nat.or_lt_two_pow l1 l2;have ab:IntKind.wrap .u64 ((BitVec.ofInt 64 (IntKind.wrap .u64 ((BitVec.ofInt 64 (x:Int)&&&~~~BitVec.ofInt 64 ((i_ n 8:Nat):Int)).toNat:Int))|||BitVec.ofInt 64 (IntKind.wrap .u64 ((BitVec.ofInt 64 (y:Int)&&&BitVec.ofInt 64 ((i_ n 8:Nat):Int)).toNat:Int))).toNat:Int)=cS x y n:=by have w1:∀k:Nat,k<2^64->IntKind.wrap .u64 (k:Int)=k:=λk hk=>DM O O;grind
 exact ab
theorem OG:aU Tryz.prog M 122 Rs:=by refine kF (l:=ZKi) ⟨Pm,trivial⟩ n8 Tryz.func122 1 λ⟨t,_⟩s=>?_;refine wV (λQ=>let z0:=H.mk t.D t.aS t.X;Tt (t.D !=10)/\((t.D !=10)=Y->tJ (z0,()))/\Tt (t.D !=10)/\Q .ret (L2 [pB 2 (bif t.D !=10 then Zf z0 64 else I)] [])) ?_ λ_ h=>Eq.mpr V4 h;(simp only[vE]);simp only[iB,bR,bW,nf,Xw];refine⟨λ_=>s,Z9 rfl ?_⟩;grind
theorem ZXo:aU Tryz.prog M 218 Zx7:=by
 refine kF (l:=ZKi) ⟨Pm,trivial⟩ ZUr Tryz.func218 2 λ⟨V,t,_⟩s=>?_;simp only[GU]at s;refine wV (λQ=>let z0:=H.mk V [] [H.mk t.D t.aS t.X];tJ (z0,())/\Q .ret (L2 [(4,.c (.bool (Zf z0 64)))] [])) ?_ λ_ h=>Eq.mpr V4 h;(simp only[vE]);refine⟨⟨?_,?_⟩,V0⟩;.simp only[Zo,Ze,Ql];omega
 .simp only[ei,Jf];have hi:=s.2.2;unfold bQ at hi;grind
theorem S9:aU Tryz.prog M 219 Vz:=by
 refine kF (l:=ZJC) ⟨ZVq,trivial⟩ ZUq Tryz.func219 2 λ⟨V,e,_⟩hp=>?_;refine wV (λQ=>let z1:=bif e.D==1 then e.bH.D==1 else I;let z0:=decide (2<=V/\V<=7);p8 (V,())/\Tk 2 (!z0) ((z0=I->(!z0)=Y)/\iB (bif z0 then Y else e.D==0) (Q .ret (L2 [pB 4 I] [])) (Tk 2 (! V==8) (((V==8)=I->(! V==8)=Y)/\iB (bif V==8 then Y else e.D==2) (Q .ret (L2 [pB 4 Y] [])) (Tk 4 (e.D==1) (Tk 4 z1 (Q .ret (L2 [pB 4 (bif z1 then e.new.D==1 else I)] [])))))))) ?_ λ_ h=>Eq.mpr V4 h;simp only[iB,bR,bW,nf,Xw];refine⟨trivial,λh=>?_,λh=>⟨λs=>?_,λs=>?_⟩⟩;.exact Z9 rfl (by show I=ss V e;unfold ss;rw[if_pos h])
 .exact Z9 rfl (by show Y=ss V e;unfold ss;grind)
 .refine Z9 rfl ?_;show _=ss V e;unfold ss;grind
theorem ZnH(h)(w)(r):Ya h (w::r)=(decide (h<w.S/\w.S<=65534/\w.a_≠0)&&Y2 w.bH w.a_&&Y2 w.new w.a_&&Ya w.S r):=rfl
theorem ZRV:aU Tryz.prog M 123 SB:=by
 refine kF (l:=vn) ⟨yq,trivial⟩ Fe Tryz.func123 1 λ⟨l,_⟩hp=>?_;simp only[NP]at hp;refine wV (λQ=>Zi (AW (Za vn) Tryz.f123 Fe [1,0,1,0,0]) (I5 l 0) (xB 0 (SW (Za vn) Tryz.f123 Fe [1,1] Q))) ?_ λ_ h=>Eq.mpr V4 h;refine Z5 (ι:=Int) (λi=>I5 l i) (λi=>0<=i/\i<=J l/\(i≠0->0<=(aR l (G (i-1)) (aV.mk 0 0 0 0)).S)/\Ya (if i=0 then-1 else(aR l (G (i-1)) (aV.mk 0 0 0 0)).S) (l.drop (G i))=Ya (-1) l) (λi=>G (( J l:Int)-i)) 0 rfl ⟨O,O,by simp,by simp⟩ ?_;rintro i⟨h1,h2,ab,s⟩;refine ZCL _ _ _ _ ?_;rintro y1 aa y2 ah;simp only[iB,bR,bW,nf,Xw];refine⟨λhi=>?_,λhi=>?_⟩
 .have hm:=hp.2 _ (Zh (l:=l) (i:=G i) O (aV.mk 0 0 0 0));rw[ZO h1 hi (aV.mk 0 0 0 0),ZnH]at s;rw[<-aa]at s hm;rw[<-ah]at s ab;obtain⟨r1,r2,r3,r4⟩:=hm;unfold iU at r3 r4;have hw:∀x:Int,Y2 x y1.a_=decide (cS x 0 y1.a_=0):=λx=>rfl;refine⟨⟨h1,hi⟩,λ_=>by unfold bQ;omega,λ_=>⟨O,O⟩,λhq=>?_,λhq=>⟨⟨r3,by grind,r2⟩,λ_=>⟨r4,by grind,r2⟩,λhz=>?_,λhz=>⟨V3,i+1,rfl,⟨O,O,λ_=>by grind,?_⟩,O⟩⟩⟩
  .refine Z9 rfl ?_;show I=Ya (-1) l;rw[<-s,Xe];.try rfl
   omega
  .refine Z9 rfl ?_;grind
  .rw[Q0 O,show i+1-1=i by omega,<-aa,<-s,hw,hw,QD hz.1,QD hz.2,QD];.simp
   omega
 .rw[Qb O]at s;trivial
end Go.AM.YtpjenobkibfpcaaGreat
namespace Go.AM
def wr(n:Int):Int:=IntKind.wrap .i64 n
def oY(o:Op):Int:=if o.D=3 then 1 else wr (o.n+J o.l)
def tV(n:Int):Int:=if 1048576<n then 1048576 else n
def nu:List Op->Int->Int|[],n=>n|o::r,n=>nu r (if o.D=2 then n else tV (wr (n+oY o)))
def mS:List Op->Int->Int|[],n=>n|o::r,n=>mS r (if o.D=1 then n else tV (wr (n+oY o)))
def oN(e:W):Bool:=if e.D≠1/\¬(JF e.bH=Y/\JF e.new=Y)\/e.D≠2/\¬( J e.aS=0/\J e.X=0)\/e.D≠3/\(e.V≠0\/J e.ops≠0)then I else Y
end Go.AM
namespace Go.AM.YtpjenobkibfpcaaGreat
open Go.AM Go.Proofs
noncomputable section
def ZPP(a:Ys):aA U:=.tup [(I,[ci (nu a.1.ops 0)]),(I,[ci (mS a.1.ops 0)])]
def SR:Fs U:=fs kV (λa=>[hH a]) ZPP
def k_:Zb U:=cI [[1,501],[4,5],[1,10,11,12,501],[13],[7,13,507],[8],[24],[],[24,27],[],[7,27,34,507],[8,34],[],[2,3,4,5,10,11,12]]
def xh(e:W)(x4 s h:Int):bT U:=L2 [pI 4 x4,pI 5 s,(10,.c (sU .op e.ops .bA)),pI 11 (J e.ops),pI 12 h] []
def P5(e:W)(x4 x5 h s:Int):bT U:=L2 [pI 4 x4,pI 5 x5,pL 7,pI 8 s,(10,.c (sU .op e.ops .bA)),pI 11 (J e.ops),pI 12 h,(24,.c (.bool ((bI.D (aR e.ops (G h) Op.nil))==3)))] [(.bE 7,enc .op (aR e.ops (G h) Op.nil))]
def TL(e:W)(x5 h s aa:Int):bT U:=L2 [pI 4 aa,pI 5 x5,pL 7,pI 8 s,(10,.c (sU .op e.ops .bA)),pI 11 (J e.ops),pI 12 h,(27,.c (.bool ((bI.D (aR e.ops (G h) Op.nil))!=2)))] [(.bE 7,enc .op (aR e.ops (G h) Op.nil))]
abbrev ZMw(e)(x4 s h)(N0:NT)(Q:QT):=AW (kW cQ) Tryz.f169 k_ [1,1,0,1,0,0] (xh e x4 s h) (xT N0 (xB 0 (SW (kW cQ) Tryz.f169 k_ [1,1,1] Q)))
theorem ZCf(e)(x4 x5 s)(N0:NT)(Q:QT)(h:let z1:=aR e.ops (G s) Op.nil;let z0:=xB 1 (SW (kW cQ) Tryz.f169 k_ [1,1,0,1,0,0,1,1,1] (xT N0 (xB 0 (SW (kW cQ) Tryz.f169 k_ [1,1,1] Q))));iB (decide (s<(J e.ops))) ((0<=s/\s<(J e.ops))/\iB ((bI.D z1)==3) (AW (kW cQ) Tryz.f169 k_ [1,1,0,1,0,0,1,1,0,0,1,1,1] (P5 e x4 x5 s 1) z0) (AW (kW cQ) Tryz.f169 k_ [1,1,0,1,0,0,1,1,0,0,1,1,1] (P5 e x4 x5 s (IntKind.wrap .i64 ((bI.n z1)+(J (bI.l z1))))) z0)) (Q .ret (L2 [pI 2 x4,pI 3 x5] []))):ZMw e x4 x5 s N0 Q:=Eq.mpr V4 h
abbrev ZzF(e)(x4 x5 s h)(N0:NT)(Q:QT):=AW (kW cQ) Tryz.f169 k_ [1,1,0,1,0,0,1,1,0,0,1,1,1] (P5 e x4 x5 s h) (xB 1 (SW (kW cQ) Tryz.f169 k_ [1,1,0,1,0,0,1,1,1] (xT N0 (xB 0 (SW (kW cQ) Tryz.f169 k_ [1,1,1] Q)))))
theorem ZCh(e)(x4 x5 aa s)(N0:NT)(Q:QT)(h:let z1:=IntKind.wrap .i64 (x4+s);let z0:=xB 1 (SW (kW cQ) Tryz.f169 k_ [1,1,0,1,0,0,1,1,1] (xT N0 (xB 0 (SW (kW cQ) Tryz.f169 k_ [1,1,1] Q))));iB ((bI.D (aR e.ops (G aa) Op.nil))!=2) (AW (kW cQ) Tryz.f169 k_ [1,1,0,1,0,0,1,1,0,0,1,1,1,1] (TL e x5 aa s (if 1048576<z1 then 1048576 else z1)) z0) (AW (kW cQ) Tryz.f169 k_ [1,1,0,1,0,0,1,1,0,0,1,1,1,1] (TL e x5 aa s x4) z0)):ZzF e x4 x5 aa s N0 Q:=Eq.mpr V4 h
abbrev ZzE(e)(x5 aa h s)(N0:NT)(Q:QT):=AW (kW cQ) Tryz.f169 k_ [1,1,0,1,0,0,1,1,0,0,1,1,1,1] (TL e x5 aa h s) (xB 1 (SW (kW cQ) Tryz.f169 k_ [1,1,0,1,0,0,1,1,1] (xT N0 (xB 0 (SW (kW cQ) Tryz.f169 k_ [1,1,1] Q)))))
theorem ZCg(e)(x5 aa ab s)(N0)(Q)(h:let z0:=IntKind.wrap .i64 (x5+ab);iB ((bI.D (aR e.ops (G aa) Op.nil))!=1) (N0 (xh e s (if 1048576<z0 then 1048576 else z0) (IntKind.wrap .i64 (aa+1)))) (N0 (xh e s x5 (IntKind.wrap .i64 (aa+1))))):ZzE e x5 aa ab s N0 Q:=Eq.mpr V4 h
end
theorem Fk{n}(h:bQ n):wr n=n:=by unfold bQ at h;simp[wr,IntKind.wrap,IntKind.signed,IntKind.bits];omega
theorem ZvC{l}{i:Int}(n)(s:0<=i)(h:i<J l):nu (l.drop (G i)) n=nu (l.drop (G (i+1))) (if(aR l (G i) Op.nil).D=2 then n else tV (wr (n+oY (aR l (G i) Op.nil)))):=by rw[ZO s h Op.nil,nu]
theorem ZvB{l}{i:Int}(n)(s:0<=i)(h:i<J l):mS (l.drop (G i)) n=mS (l.drop (G (i+1))) (if(aR l (G i) Op.nil).D=1 then n else tV (wr (n+oY (aR l (G i) Op.nil)))):=by rw[ZO s h Op.nil,mS]
theorem SV:aU Tryz.prog M 169 SR:=by
 refine Zll (l:=cQ) ZN rfl trivial k_ Tryz.func169 rfl rfl 1 (λ_=>rfl) V1 λ⟨e,_⟩hp=>?_;simp only[hH]at hp;have h1:=Yr e;have h2:=Y4 e.ops;refine wV (λQ=>Zi (AW (kW cQ) Tryz.f169 k_ [1,1,0,1,0,0]) (xh e 0 0 0) (xB 0 (SW (kW cQ) Tryz.f169 k_ [1,1,1] Q))) ?_ λ_ h=>Eq.mpr V4 h;refine Z5 (ι:=Int×Int×Int) (λs=>xh e s.1 s.2.1 s.2.2) (λs=>(0<=s.2.2/\s.2.2<=J e.ops)/\nu (e.ops.drop (G s.2.2)) s.1=nu e.ops 0/\mS (e.ops.drop (G s.2.2)) s.2.1=mS e.ops 0) (λs=>G (( J e.ops:Int)-s.2.2)) (0,0,0) rfl ⟨⟨by simp,by simp⟩,rfl,rfl⟩ ?_;rintro⟨n,m,i⟩⟨⟨g1,g2⟩,g3,g4⟩;dsimp only at g1 g2 g3 g4;refine ZCf _ _ _ _ _ _ ?_;(simp only[iB,bW]);refine⟨λhi=>⟨⟨g1,hi⟩,?_⟩,λhi=>?_⟩
 .rw[ZvC _ g1 hi]at g3;rw[ZvB _ g1 hi]at g4;have hk:IntKind.wrap .i64 (i+1)=i+1:=Fk V3;generalize hy:aR e.ops (G i) Op.nil=y at*;have ah:∀k:Int,k=oY y->∀(Q':c9->bT U->Prop),ZzF e n m i k (λs2=>∃j:Int×Int×Int,s2=xh e j.1 j.2.1 j.2.2/\((0<=j.2.2/\j.2.2<=J e.ops)/\nu (e.ops.drop (G j.2.2)) j.1=nu e.ops 0/\mS (e.ops.drop (G j.2.2)) j.2.1=mS e.ops 0)/\G (( J e.ops:Int)-j.2.2)<G (( J e.ops:Int)-i)) Q':=by
   rintro k rfl Q';have aa:∀a:Int,a=(if y.D=2 then n else tV (wr (n+oY y)))->ZzE e m i (oY y) a (λs2=>∃j:Int×Int×Int,s2=xh e j.1 j.2.1 j.2.2/\((0<=j.2.2/\j.2.2<=J e.ops)/\nu (e.ops.drop (G j.2.2)) j.1=nu e.ops 0/\mS (e.ops.drop (G j.2.2)) j.2.1=mS e.ops 0)/\G (( J e.ops:Int)-j.2.2)<G (( J e.ops:Int)-i)) Q':=by
    rintro a ha;refine ZCg _ _ _ _ _ _ _ ?_;rw[hy,hk];(simp only[iB,bW]);rw[<-ha]at g3;refine⟨λhb=>⟨(a,_,i+1),rfl,⟨⟨V2,V2⟩,g3,?_⟩,V2⟩,λhb=>⟨(a,_,i+1),rfl,⟨⟨V2,V2⟩,g3,?_⟩,V2⟩⟩;.rw[Q0 hb]at g4;exact g4
    .rw[Q5 hb]at g4;exact g4
   refine ZCh _ _ _ _ _ _ _ ?_;rw[hy];(simp only[iB,bW]);exact⟨λhb=>aa _ (by rw[Q0 hb];rfl),λhb=>aa _ (by rw[Q5 hb])⟩
  exact⟨λhb=>ah _ (by unfold oY;rw[if_pos hb]) _,λhb=>ah _ (by unfold oY;rw[if_neg hb];rfl) _⟩
 .rw[Qb O]at g3 g4;simp only[nu,mS]at g3 g4;rw[g3,g4];exact V0
theorem ZsR:∀l(n:Int),(∀o∈l,(0<=o.n/\o.n<=1048576)/\J o.l<=20000000000)->0<=n->n<=1048576->nu l n=iT l n
 |[],_,_,_,_=>rfl|o::r,n,h,h0,hn=>by
  have ho:=h o (Q6 ..);have hl:=YN o;have s:oY o=Z4 o:=by
   unfold oY;rw[hl];split;.try rfl
   .exact Fk V3
  have hb:0<=Z4 o/\Z4 o<=60000000000:=by rw[hl];split<;>omega
  simp only[nu,iT];rw[s,Fk V3];have e2:(if o.D=2 then n else tV (n+Z4 o))=min (if o.D=2 then n else n+Z4 o) 1048576:=by
   unfold tV;split;.omega
   .omega
  rw[e2];exact ZsR r _ (λx hx=>h x (Q4 _ hx)) O O
theorem ZsQ:∀l(n:Int),(∀o∈l,(0<=o.n/\o.n<=1048576)/\J o.l<=20000000000)->0<=n->n<=1048576->mS l n=iR l n
 |[],_,_,_,_=>rfl|o::r,n,h,h0,hn=>by
  have ho:=h o (Q6 ..);have hl:=YN o;have s:oY o=Z4 o:=by
   unfold oY;rw[hl];split;.try rfl
   .exact Fk V3
  have hb:0<=Z4 o/\Z4 o<=60000000000:=by rw[hl];split<;>omega
  simp only[mS,iR];rw[s,Fk V3];have e2:(if o.D=1 then n else tV (n+Z4 o))=min (if o.D=1 then n else n+Z4 o) 1048576:=by
   unfold tV;split;.omega
   .omega
  rw[e2];exact ZsQ r _ (λx hx=>h x (Q4 _ hx)) O O
noncomputable section
def ZLx:cF Pt:=.cons (fY .aX) (.cons (fY .aX) (.cons (sw 114) .nil))
def Av(a:Pt):Prop:=Ze a.1<=1000000000000/\Ze a.2.1<=1000000000000
def ZPN(a:Pt):aA U:=.c (.bool (kf (Z6 a.1) (Z6 a.2.1)))
def Ar:Fs U:=fs ZLx (λa=>[Av a]) ZPN
def DX:List (FuncId×Fs U):=[(114,l4)]
def Fa:Zb U:=cI [[0,1,2],[14],[0,1,2,6,14],[1,2,6,15,16,17],[18],[7,8,18,508],[7,9,509],[8,9,30,508,509],[1,2,6,15,16,17,30],[1,2,6,15,16,17],[1,2,6,15,16,17]]
def G3(a b:List H)(f:Unit)(h:Int):bT U:=L2 [(1,.c (sU .aX b .bA)),(2,.fn 114),(15,.c (sU .aX a .bA)),pI 16 (J a),pI 17 h] []
abbrev ZMv(a b)(f)(h)(N0:NT)(Q:QT):=AW (Za DX) Tryz.f177 Fa [1,1,0,1,0,0] (G3 a b f h) (xT N0 (xB 0 (SW (Za DX) Tryz.f177 Fa [1,1,1] Q)))
theorem ZCd(a b)(f)(s)(N0)(Q)(h:let z3:=aR a (G s) H.nil;let z2:=aR b (G s) H.nil;let z1:=H.mk (H.D z2) (H.aS z2) (H.X z2);let z0:=H.mk (H.D z3) (H.aS z3) (H.X z3);iB (decide (s<(J a))) ((0<=s/\s<(J a))/\(0<=s/\s<(J b))/\kM (z0,z1,())/\iB (! ZW (Z2 z0) (Z2 z1)) (Q .ret (L2 [pB 6 I] [])) ( bQ (s+1)/\N0 (G3 a b f (s+1)))) (Q .ret (L2 [pB 6 Y] []))):ZMv a b f s N0 Q:=Eq.mpr V4 h
end
theorem yc:aU Tryz.prog M 177 Ar:=by
 refine kF (l:=DX) ⟨qE,trivial⟩ Fa Tryz.func177 3 λ⟨a,b,f,_⟩hp=>?_;simp only[Av]at hp;refine wV (λQ=>iB ((( J a:Int):Int)!=( J b:Int)) (Q .ret (L2 [pB 6 I] [])) (Zi (AW (Za DX) Tryz.f177 Fa [1,1,0,1,0,0]) (G3 a b f 0) (xB 0 (SW (Za DX) Tryz.f177 Fa [1,1,1] Q)))) ?_ λ_ h=>Eq.mpr V4 h;(simp only[iB,bW]);refine⟨λL=>Z9 rfl (rW (a:=Z6 a) (b:=Z6 b) λh=>L (by have:=congrArg List.length h;simp[Z6]at this;omega)).symm,λL=>?_⟩;have hl:J a=J b:=O;have ai:=Zs a;refine Z5 (ι:=Int) (λi=>G3 a b f i) (λi=>0<=i/\i<=J a/\∀j:Nat,(j:Int)<i->Z2 (aR a j H.nil)=Z2 (aR b j H.nil)) (λi=>G (( J a:Int)-i)) 0 rfl ⟨O,O,O⟩ ?_;rintro i⟨h1,h2,h3⟩;refine ZCd a b f _ _ _ ?_;(simp only[iB,bW]);(simp only[vE]);refine⟨λhi=>⟨⟨h1,hi⟩,⟨h1,O⟩,?_,λs=>?_,λs=>⟨V3,i+1,rfl,⟨O,O,?_⟩,O⟩⟩,λhi=>?_⟩;.have:=YM (Zh (l:=a) (i:=G i) O H.nil);have:=YM (Zh (l:=b) (i:=G i) O H.nil);simp only[kM];omega
 .refine Z9 rfl (rW (a:=Z6 a) (b:=Z6 b) λh=>?_).symm;have h5:=Wc (d:=H.nil) h (G i);rw[JL]at s;exact s h5
 .intro j hj;by_cases hj2:(j:Int)<i;.exact h3 j hj2
  .rw[Yh,show G i=j by omega]at s;exact s
 .exact Z9 rfl (Yz (a:=Z6 a) (b:=Z6 b).2 (Zhx H.nil hl λj hj=>h3 j O)).symm
noncomputable section
def RP(a:DN):List Int:=a.1
def Py:Fs U:=C4 OK (λa=>[qc a]) .u64 RP
def H2(a:xO):Prop:=J a.1<=1000000000000
def OX(a:xO):List H:=a.1
def Zdw:Fs U:=C4 Pe (λa=>[H2 a]) .aX OX
def jr:cF oD:=.cons (fe .aY) (.cons (fe .aX) .nil)
def gg(a:oD):Prop:=(Z1 a.1<=20000000000/\Ye a.1/\∃d,Z3 a.1 d=Y)/\Zo a.2.1+dZ a.1<=200000000000/\ei a.2.1
def mL(a:oD):Nat:=2*Z1 a.1+1
def tX(a:oD):aA U:=.tup [(Y,enc .aX (pE a.1 a.2.1)),(I,[.bool (bX I a.1 a.2.1).isSome])]
def LI:Fs U:=fs jr (λa=>[gg a]) tX
def oo(a:oD):Prop:=W.D a.1=2/\(Z1 a.1<=20000000000/\Ye a.1/\∃d,Z3 a.1 d=Y)/\Zo a.2.1+dZ a.1<=200000000000/\ei a.2.1
def jB(a:oD):Nat:=2*Z1 a.1
def yl(a:oD):aA U:=.tup [(Y,enc .aX (YH (jY I a.1 a.2.1))),(I,[.bool (jY I a.1 a.2.1).isSome])]
def ZxD:Fs U:=fs jr (λa=>[oo a]) yl
def o7(a:oD):Prop:=W.D a.1=3/\(Z1 a.1<=20000000000/\Ye a.1/\∃d,Z3 a.1 d=Y)/\Zo a.2.1+dZ a.1<=200000000000/\ei a.2.1
def yE(a:oD):aA U:=.tup [(Y,enc .aX (ud a.1 (ix I a.1 a.2.1))),(I,[.bool (gX (ix I a.1 a.2.1)).isSome])]
def ZxC:Fs U:=fs jr (λa=>[o7 a]) yE
def ZGh:Zb U:=cI [[0],[4],[0,(2,[.wr .u64]),4],[]]
abbrev ZWv(p):=AW (qW cQ) Tryz.f117 ZGh p
theorem ZPi(l:List Int)(Q:QT)(h:( l=[]->Q .ret (⟨[(2,.c (.mref (.e 2 0)))],[],[(.e 2 0,LC.mk (U:=U) .u64 [] 0)]⟩))/\(True->( J ([]:List Int)+J l)*8<=140737488355328/\Q .ret (⟨[(2,.c (.mref (.e 2 0)))],[],[(.e 2 0,LC.mk (U:=U) .u64 (([]:List Int)++l) (J ([]:List Int)))]⟩))):ZWv [] (L2 [(0,.c (sU .u64 l .bA))] []) Q:=Eq.mpr V4 h
def ZOe:Zb U:=cI [[0],[4],[0,(2,[.wr .aX]),4],[]]
abbrev ZXR(p):=AW (qW cQ) Tryz.f175 ZOe p
theorem ZTD(l:List H)(Q:QT)(h:( l=[]->Q .ret (⟨[(2,.c (.mref (.e 2 0)))],[],[(.e 2 0,LC.mk (U:=U) .aX [] 0)]⟩))/\(True->( J ([]:List H)+J l)*56<=140737488355328/\Q .ret (⟨[(2,.c (.mref (.e 2 0)))],[],[(.e 2 0,LC.mk (U:=U) .aX (([]:List H)++l) (J ([]:List H)))]⟩))):ZXR [] (L2 [(0,.c (sU .aX l .bA))] []) Q:=Eq.mpr V4 h
def qF(N:Nat):List (FuncId×Fs U):=(74,fs jr (λa=>[gg a,mL a<N]) tX)::(115,fs jr (λa=>[oo a,jB a<N]) yl)::(116,fs jr (λa=>[o7 a,jB a<N]) yE)::[(114,l4),(173,zQ),(174,zG),(177,Ar),(175,Zdw),(176,sT),(117,Py)]
def ZUa:Zb U:=cI [[2,3,4,502,503,504],[7],[8],[2,3,5,7,8,502,503],[2,3,5,7,11,502,503],[2,3,5,7,11,502,503],[2,3,5,7,19,502,503],[2,3,5,7,19,502,503],[2,3,5,26,502,503],[2,3,5,26,502,503],[]]
def ZTf(N:Nat)(e:W)(t:H):Prop:=AW (Za (qF N)) Tryz.f74 ZUa [] (Y5 (jr.cK (e,t,())) []) (EQ Tryz.f74 (tX (e,t,())) [])
abbrev ZW6:Prop:=∀N(e:W)t(_:Unit),gg (e,t,())->mL (e,t,())<N+1->ZTf N e t
def Mw:Zb U:=cI [[2,3,4,502,503,504],[16],[2,3,5,16,502,503],[2,3,5,6,502,503,(506,[.any,.wr .u64,.wr .aX])],[26,27,28],[29],[8,29,508],[9],[42],[2,3,5,6,8,9,26,27,28,42,502,503,506,508],[2,3,5,6,8,9,26,27,28,42,49,502,503,(506,[.any,.wr .u64,.wr .aX]),508],[49],[8,9,42,508],[],[2,26,27,28,68,69,70,502],[71],[11,71,511],[12,13,512],[13,85],[3,5,6,11,12,68,69,70,85,503,506,511,512],[3,5,6,11,12,68,69,70,85,92,503,(506,[.any,.wr .u64,.wr .aX]),511,512],[92],[11,12,85,511,512],[],[3,5,6,68,69,70,503,506]]
def Mk(e:W)(t:H)(s:Int)(h:List Int):bT U:=(⟨[pL 2,pL 3,pL 4,pL 6,(26,.c (sU .bD e.aS .bA)),pI 27 ( J e.aS:Int),pI 28 s],[(.bE 2,enc .aY e),(.bE 3,enc .aX t),(.bE 4,[ci 0,.nils,.nils]),(.bE 6,[ci 1,.mref (.l 6 1),.mref (.l 6 2)])],[(.l 6 1,LC.mk (U:=U) .u64 h 0),(.l 6 2,LC.mk (U:=U) .aX t.X 0)]⟩)
def Ih(e:W)(t:H)(s:Int)(h:List Int):bT U:=(⟨[pL 2,pL 3,pL 4,pL 6,pL 8,(9,.c (.int .u64 (JJ (H.mk t.D t.aS t.X) (aV.S (aR e.aS (G s) (aV.mk 0 0 0 0)))))),(26,.c (sU .bD e.aS .bA)),pI 27 ( J e.aS:Int),pI 28 s,(42,.c (.bool (( cS 0 (JJ (H.mk t.D t.aS t.X) (aV.S (aR e.aS (G s) (aV.mk 0 0 0 0)))) (aV.a_ (aR e.aS (G s) (aV.mk 0 0 0 0))):Int)!=aV.bH (aR e.aS (G s) (aV.mk 0 0 0 0)))))],[(.bE 2,enc .aY e),(.bE 3,enc .aX t),(.bE 4,[ci 0,.nils,.nils]),(.bE 6,[ci 1,.mref (.l 6 1),.mref (.l 6 2)]),(.bE 8,enc .bD (aR e.aS (G s) (aV.mk 0 0 0 0)))],[(.l 6 1,LC.mk (U:=U) .u64 h 0),(.l 6 2,LC.mk (U:=U) .aX t.X 0)]⟩)
def Mu(e:W)(t:H)(s:List Int)(aa:Int)(h:List H):bT U:=(⟨[pL 3,pL 4,pL 6,(68,.c (sU .cJ e.X .bA)),pI 69 ( J e.X:Int),pI 70 aa],[(.bE 3,enc .aX t),(.bE 4,[ci 0,.nils,.nils]),(.bE 6,[ci 1,.mref (.l 6 1),.mref (.l 6 2)])],[(.l 6 1,LC.mk (U:=U) .u64 s 0),(.l 6 2,LC.mk (U:=U) .aX h 0)]⟩)
def NJ(e:W)(t:H)(aa:List Int)(h:Int)(s:List H):bT U:=(⟨[pL 3,pL 4,pL 6,pL 11,pL 12,(68,.c (sU .cJ e.X .bA)),pI 69 ( J e.X:Int),pI 70 h,(85,.c (.bool !(bX I (W.mk (W.D (aW.e (aR e.X (G h) (aW.mk 0 W.nil)))) (H.mk (H.D (W.bH (aW.e (aR e.X (G h) (aW.mk 0 W.nil))))) (H.aS (W.bH (aW.e (aR e.X (G h) (aW.mk 0 W.nil))))) (H.X (W.bH (aW.e (aR e.X (G h) (aW.mk 0 W.nil)))))) (H.mk (H.D (W.new (aW.e (aR e.X (G h) (aW.mk 0 W.nil))))) (H.aS (W.new (aW.e (aR e.X (G h) (aW.mk 0 W.nil))))) (H.X (W.new (aW.e (aR e.X (G h) (aW.mk 0 W.nil)))))) (W.aS (aW.e (aR e.X (G h) (aW.mk 0 W.nil)))) (W.X (aW.e (aR e.X (G h) (aW.mk 0 W.nil)))) (W.V (aW.e (aR e.X (G h) (aW.mk 0 W.nil)))) (W.ops (aW.e (aR e.X (G h) (aW.mk 0 W.nil))))) (H.mk (H.D (jq (H.mk t.D t.aS t.X) (aW.S (aR e.X (G h) (aW.mk 0 W.nil))))) (H.aS (jq (H.mk t.D t.aS t.X) (aW.S (aR e.X (G h) (aW.mk 0 W.nil))))) (H.X (jq (H.mk t.D t.aS t.X) (aW.S (aR e.X (G h) (aW.mk 0 W.nil))))))).isSome))],[(.bE 3,enc .aX t),(.bE 4,[ci 0,.nils,.nils]),(.bE 6,[ci 1,.mref (.l 6 1),.mref (.l 6 2)]),(.bE 11,enc .cJ (aR e.X (G h) (aW.mk 0 W.nil))),(.bE 12,enc .aX (pE (W.mk (W.D (aW.e (aR e.X (G h) (aW.mk 0 W.nil)))) (H.mk (H.D (W.bH (aW.e (aR e.X (G h) (aW.mk 0 W.nil))))) (H.aS (W.bH (aW.e (aR e.X (G h) (aW.mk 0 W.nil))))) (H.X (W.bH (aW.e (aR e.X (G h) (aW.mk 0 W.nil)))))) (H.mk (H.D (W.new (aW.e (aR e.X (G h) (aW.mk 0 W.nil))))) (H.aS (W.new (aW.e (aR e.X (G h) (aW.mk 0 W.nil))))) (H.X (W.new (aW.e (aR e.X (G h) (aW.mk 0 W.nil)))))) (W.aS (aW.e (aR e.X (G h) (aW.mk 0 W.nil)))) (W.X (aW.e (aR e.X (G h) (aW.mk 0 W.nil)))) (W.V (aW.e (aR e.X (G h) (aW.mk 0 W.nil)))) (W.ops (aW.e (aR e.X (G h) (aW.mk 0 W.nil))))) (H.mk (H.D (jq (H.mk t.D t.aS t.X) (aW.S (aR e.X (G h) (aW.mk 0 W.nil))))) (H.aS (jq (H.mk t.D t.aS t.X) (aW.S (aR e.X (G h) (aW.mk 0 W.nil))))) (H.X (jq (H.mk t.D t.aS t.X) (aW.S (aR e.X (G h) (aW.mk 0 W.nil))))))))],[(.l 6 1,LC.mk (U:=U) .u64 aa 0),(.l 6 2,LC.mk (U:=U) .aX s 0)]⟩)
abbrev uW(N)(p):=AW (Za (qF N)) Tryz.f115 Mw p
abbrev mK(N)(p):=SW (Za (qF N)) Tryz.f115 Mw p
theorem ZCR(N)(e)(t)(ab)(s)(N0:NT)(Q:QT)(h:∀ae,ae=t->∀aa,aa=aR e.aS (G ab) (aV.mk 0 0 0 0)->iB (decide (ab<(J e.aS))) ((0<=ab/\ab<(J e.aS))/\rM (ae,aa.S,())/\iK (0,JJ ae aa.S,aa.a_,())/\iB ((cS 0 (JJ ae aa.S) aa.a_)!=aa.bH) (Q .ret (L2 [pL 4,pB 5 I] [(.bE 4,[ci 0,.nils,.nils])])) (Zi (uW N [1,1,1,0,1,0,0,1,1,0,0,1,1,1,0,0,0]) (Ih e t ab s) (xB 2 (mK N [1,1,1,0,1,0,0,1,1,0,0,1,1,1,1] (xB 1 (mK N [1,1,1,0,1,0,0,1,1,1] (xT N0 (xB 0 (mK N [1,1,1,1] Q))))))))) (Zi (uW N [1,1,1,1,0,1,0,0]) (Mu e t s 0 t.X) (xB 4 (mK N [1,1,1,1,1] Q)))):uW N [1,1,1,0,1,0,0] (Mk e t ab s) (xT N0 (xB 0 (mK N [1,1,1,1] Q))):=Eq.mpr V4 (h _ (Z7 _) _ rfl)
theorem ZCQ(N)(e)(t)(aa)(s)(N1 N0:NT)(Q:QT)(h:let z0:=aR e.aS (G aa) (aV.mk 0 0 0 0);let z1:=JJ (H.mk t.D t.aS t.X) (aV.S z0);iB (decide ((( J s:Int))<=aV.S z0)) ( ( J s+J [0])*8<=140737488355328/\N1 (Ih e t aa (s++[0]))) ( iK (z1,aV.new z0,aV.a_ z0,())/\(0<=aV.S z0/\aV.S z0<(J s))/\0<=Int.toNat (aV.S z0)/\bQ (aa+1)/\N0 (Mk e t (aa+1) (List.set s (Int.toNat (aV.S z0)) (cS z1 (aV.new z0) (aV.a_ z0)))))):uW N [1,1,1,0,1,0,0,1,1,0,0,1,1,1,0,0,0] (Ih e t aa s) (xT N1 (xB 2 (mK N [1,1,1,0,1,0,0,1,1,0,0,1,1,1,1] (xB 1 (mK N [1,1,1,0,1,0,0,1,1,1] (xT N0 (xB 0 (mK N [1,1,1,1] Q)))))))):=Eq.mpr V4 h
theorem ZCP(N)(e:W)(t)(ab)(s)(aa)(N2:NT)(Q:QT)(h:∀ai,ai=t->∀ae,ae=aR e.X (G s) (aW.mk 0 W.nil)->∀af,af=ae.e->∀ah,ah=jq ai ae.S->iB (decide (s<(J e.X))) ((0<=s/\s<(J e.X))/\rM (ai,ae.S,())/\gg (af,ah,())/\mL (af,ah,())<N/\iB (!(bX I af ah).isSome) (Q .ret (L2 [pL 4,pB 5 I] [(.bE 4,[ci 0,.nils,.nils])])) (Zi (uW N [1,1,1,1,0,1,0,0,1,1,0,0,1,1,1,0,0,0]) (NJ e t ab s aa) (xB 6 (mK N [1,1,1,1,0,1,0,0,1,1,0,0,1,1,1,1] (xB 5 (mK N [1,1,1,1,0,1,0,0,1,1,1] (xT N2 (xB 4 (mK N [1,1,1,1,1] Q))))))))) (Q .ret (L2 [pL 4,pB 5 Y] [(.bE 4,[ci 1,sU .u64 ab (.bF (.l 4 1)),sU .aX aa (.bF (.l 4 2))])]))):uW N [1,1,1,1,0,1,0,0] (Mu e t ab s aa) (xT N2 (xB 4 (mK N [1,1,1,1,1] Q))):=Eq.mpr V4 (h _ (Z7 _) _ rfl _ (Z0 _) _ (Z7 _))
theorem ZCO(N)(e:W)(t)(ab)(aa)(s)(N3 N2:NT)(Q:QT)(h:∀af,af=t->∀ae,ae=aR e.X (G aa) (aW.mk 0 W.nil)->∀ah,ah=ae.e->∀ai,ai=jq af ae.S->∀aj,aj=pE ah ai->iB (decide ((( J s:Int))<=ae.S)) ( ( J s+J [H.mk 0 [] []])*56<=140737488355328/\N3 (NJ e t ab aa (s++[H.mk 0 [] []]))) ((0<=ae.S/\ae.S<(J s))/\0<=Int.toNat ae.S/\bQ (aa+1)/\N2 (Mu e t ab (aa+1) (List.set s (Int.toNat ae.S) aj)))):uW N [1,1,1,1,0,1,0,0,1,1,0,0,1,1,1,0,0,0] (NJ e t ab aa s) (xT N3 (xB 6 (mK N [1,1,1,1,0,1,0,0,1,1,0,0,1,1,1,1] (xB 5 (mK N [1,1,1,1,0,1,0,0,1,1,1] (xT N2 (xB 4 (mK N [1,1,1,1,1] Q)))))))):=Eq.mpr V4 (h _ (Z7 _) _ rfl _ (Z0 _) _ (Z7 _) _ (Z7 _))
def ZNb(N:Nat)(e:W)(t:H):Prop:=AW (Za (qF N)) Tryz.f115 Mw [] (Y5 (jr.cK (e,t,())) []) (EQ Tryz.f115 (yl (e,t,())) [])
abbrev ZP5:Prop:=∀N(e:W)t(_:Unit),oo (e,t,())->jB (e,t,())<N+1->ZNb N e t
def Iw:Zb U:=cI [[2,3,4,502,503,504],[18],[2,3,5,18,502,503],[2,3,5,6,502,503,506],[3,7,503],[2,26,27,28,502,(506,[.any,.any,.bF .aX])],[29,506,506],[9,29,509],[10],[35],[36],[9,10,35,36,97,509],[9,10,35,44,97,509],[35,44,49],[],[],[49,54],[5,6,7,9,10,26,27,28,54,506,509],[5,6,7,9,10,26,27,28,506,509],[10,11],[9,11,12,13,509,512],[13,72],[5,6,7,12,26,27,28,72,506,512],[5,6,7,26,27,28,97,506],[9,11,80,97,509],[9,11,80,97,509],[9,11,89,97,509],[9,11,89,97,509],[5,6,7,26,27,28,97,506],[5,6,7,26,27,28,(506,[.any,.any,.bF .aX])],[5,6,7,26,27,28,506]]
def x_(e:W)(t:H)(s:Int)(x7 h:List H):bT U:=L2 [pL 4,pL 6,(7,.c (sU .aX x7 .bA)),(26,.c (sU .op e.ops .bA)),pI 27 (J e.ops),pI 28 s] [(.bE 4,[ci 0,.nils,.nils]),(.bE 6,[ci t.D,.nils,sU .aX h (.bF (.l 6 2))])]
def An(e:W)(t:H)(ab:Int)(aa h:List H)(s:aA U):bT U:=L2 [pL 4,pL 6,(7,.c (sU .aX aa .bA)),(26,.c (sU .op e.ops .bA)),pI 27 (J e.ops),pI 28 ab,(97,s)] [(.bE 4,[ci 0,.nils,.nils]),(.bE 6,[ci t.D,.nils,sU .aX h (.bF (.l 6 2))])]
def G5(e:W)(t:H)(ab:Int)(x7 aa:List H)(h:Int)(s:aA U):bT U:=L2 [pL 4,pL 6,(7,.c (sU .aX x7 .bA)),pL 9,pI 10 h,(26,.c (sU .op e.ops .bA)),pI 27 (J e.ops),pI 28 ab,(49,s)] [(.bE 4,[ci 0,.nils,.nils]),(.bE 6,[ci t.D,.nils,sU .aX aa (.bF (.l 6 2))]),(.bE 9,enc .op (aR e.ops (G ab) Op.nil))]
abbrev qu(N)(p):=AW (Za (qF N)) Tryz.f116 Iw p
abbrev tc(N)(p):=SW (Za (qF N)) Tryz.f116 Iw p
theorem ZCM(N)(e)(t)(ab)(x7 s)(N0:NT)(Q:QT)(h:∀aa,aa=aR e.ops (G ab) Op.nil->let z1:=xT N0 (xB 0 (tc N [1,1,1,1,1] Q));let z0:=xB 1 (tc N [1,1,1,1,0,1,0,0,1,1,1] z1);iB (decide (ab<(J e.ops))) ((0<=ab/\ab<(J e.ops))/\iB (aa.D==2) ( ( J s+J aa.l)*56<=140737488355328/\qu N [1,1,1,1,0,1,0,0,1,1,1] (An e t ab x7 (s++aa.l) .cY) z1) (iB (aa.D==1) (qu N [1,1,1,1,0,1,0,0,1,1,0,0,1,1,1] (G5 e t ab x7 s (J aa.l) .cY) z0) (iB (aa.D==3) (qu N [1,1,1,1,0,1,0,0,1,1,0,0,1,1,1] (G5 e t ab x7 s 1 (.c (.bool (aa.D==3)))) z0) (qu N [1,1,1,1,0,1,0,0,1,1,0,0,1,1,1] (G5 e t ab x7 s aa.n (.c (.bool (aa.D==3)))) z0)))) (Q .ret (L2 [pL 4,pB 5 ((( J x7:Int))==0)] [(.bE 4,[ci t.D,.nils,sU .aX s (.bF (.l 4 2))])]))):qu N [1,1,1,1,0,1,0,0] (x_ e t ab x7 s) (xT N0 (xB 0 (tc N [1,1,1,1,1] Q))):=Eq.mpr V4 (h _ rfl)
theorem ZCN(N)(e)(t)(ae)(aa s)(ab)(N0:NT)(Q:QT)(h:bQ (ae+1)/\N0 (x_ e t (ae+1) aa s)):qu N [1,1,1,1,0,1,0,0,1,1,1] (An e t ae aa s ab) (xT N0 (xB 0 (tc N [1,1,1,1,1] Q))):=Eq.mpr V4 h
theorem Sz(N)(e)(t)(ae)(x7 aa)(s)(aj)(N0:NT)(Q:QT)(h:∀ab,ab=aR e.ops (G ae) Op.nil->∀am,am=List.getD (List.take (G s) x7) (Int.toNat 0) H.nil->∀af,af=am->∀ah,ah=ab.e->∀al,al=kf (Z6 ab.l) (Z6 (List.take (G s) x7))->∀ak,ak=pE ah af->let z3:=List.drop (G s) x7;let z2:=List.take (G s) x7;let z1:=xT N0 (xB 0 (tc N [1,1,1,1,1] Q));let z0:=Q .ret (L2 [pL 4,pB 5 I] [(.bE 4,[ci 0,.nils,.nils])]);iB (decide ((( J x7:Int))<s)) z0 ((0<=s/\s<=(J x7))/\(0<=s/\s<=(J x7))/\iB (ab.D==0) ( ( J aa+J z2)*56<=140737488355328/\qu N [1,1,1,1,0,1,0,0,1,1,1] (An e t ae z3 (aa++z2) .cY) z1) (iB (ab.D==1) ( Av (ab.l,z2,(),())/\iB (!al) z0 (qu N [1,1,1,1,0,1,0,0,1,1,1] (An e t ae z3 aa (.c (.bool !al))) z1)) (((0:Int)<=0/\0<( J z2:Int))/\gg (ah,af,())/\mL (ah,af,())<N/\iB (!(bX I ah af).isSome) z0 ( ( J aa+J [ak])*56<=140737488355328/\qu N [1,1,1,1,0,1,0,0,1,1,1] (An e t ae z3 (aa++[ak]) .cY) z1))))):qu N [1,1,1,1,0,1,0,0,1,1,0,0,1,1,1] (G5 e t ae x7 aa s aj) (xB 1 (tc N [1,1,1,1,0,1,0,0,1,1,1] (xT N0 (xB 0 (tc N [1,1,1,1,1] Q))))):=Eq.mpr V4 (h _ rfl _ rfl _ (Z7 _) _ (Z0 _) _ rfl _ (Z7 _))
def ZNa(N:Nat)(e:W)(t:H):Prop:=AW (Za (qF N)) Tryz.f116 Iw [] (Y5 (jr.cK (e,t,())) []) (EQ Tryz.f116 (yE (e,t,())) [])
abbrev ZP4:Prop:=∀N(e:W)t(_:Unit),o7 (e,t,())->jB (e,t,())<N+1->ZNa N e t
theorem ZJb(qE:CT 114 l4)(A5:CT 173 zQ)(By:CT 174 zG)(yc:CT 177 Ar)(Vu:CT 175 Zdw)(yq:CT 176 sT)(WC:CT 117 Py)(b74:ZW6)(ZSn:ZP5)(Su:ZP4):CT 74 LI/\CT 115 ZxD/\CT 116 ZxC:=by
 have ae:FK 74:=⟨Tryz.f74,Tryz.func74,rfl,rfl⟩;have aa:FK 115:=⟨Tryz.f115,Tryz.func115,rfl,rfl⟩;have s:FK 116:=⟨Tryz.f116,Tryz.func116,rfl,rfl⟩;have ab:∀N,CT 74 (fs jr (λa=>[gg a,mL a<N]) tX)/\CT 115 (fs jr (λa=>[oo a,jB a<N]) yl)/\CT 116 (fs jr (λa=>[o7 a,jB a<N]) yE):=by intro N;induction N with|zero=>exact⟨YU ae,YU aa,YU s⟩|succ N ih=>have kn:=mD (l:=qF N) ⟨ih.1,ih.2.1,ih.2.2,qE,A5,By,yc,Vu,yq,WC,trivial⟩;exact⟨Zt (Γ:=Za (qF N)) ZN rfl kn ZUa Tryz.func74 rfl rfl λa=>by show 2<=_;decide λ⟨e,t,_⟩h=>b74 N e t () h.1 h.2.1,Zt (Γ:=Za (qF N)) ZN rfl kn Mw Tryz.func115 rfl rfl λa=>by show 2<=_;decide λ⟨e,t,_⟩h=>ZSn N e t () h.1 h.2.1,Zt (Γ:=Za (qF N)) ZN rfl kn Iw Tryz.func116 rfl rfl λa=>by show 2<=_;decide λ⟨e,t,_⟩h=>Su N e t () h.1 h.2.1⟩
 exact⟨YV ae λN=>(ab N).1,YV aa λN=>(ab N).2.1,YV s λN=>(ab N).2.2⟩
end
noncomputable section
def Wj(a:oD):aA U:=.tup [(Y,enc .aX (YH ((bX I a.1 a.2.1).map Z2))),(I,[.bool (bX I a.1 a.2.1).isSome])]
def Be:Fs U:=fs jr (λa=>[gg a]) Wj
def wv(a:tQ):Prop:=0<=a.2.1
def Wf:Fs U:=fs sS (λa=>[wv a]) IX
def WA:Fs U:=fs sS (λa=>[wv a]) Es
def vH(a:oD):aA U:=.tup [(Y,enc .aX (YH (bX Y a.1 a.2.1))),(I,[.bool (bX Y a.1 a.2.1).isSome])]
def ui:Fs U:=fs jr (λa=>[gg a]) vH
def uU(a:oD):aA U:=.tup [(Y,enc .aX (YH (jY Y a.1 a.2.1))),(I,[.bool (jY Y a.1 a.2.1).isSome])]
def Zxm:Fs U:=fs jr (λa=>[oo a]) uU
def yg(a:oD):aA U:=.tup [(Y,enc .aX (ud a.1 (ix Y a.1 a.2.1))),(I,[.bool (gX (ix Y a.1 a.2.1)).isSome])]
def Zxl:Fs U:=fs jr (λa=>[o7 a]) yg
def ZR9:List (FuncId×Fs U):=[(75,mJ),(74,LI)]
def ZXa:Zb U:=cI [[2,3,4,502,503,504],[2,3,6,7,502,503,506],[7,15],[5,6,15,506],[]]
def ZUn:Zb U:=cI [[1,2,502],[9],[1,2,4,9,502],[]]
def ZUm:Zb U:=cI [[1,2,4,502,504],[9],[1,2,9,502],[]]
def rj(N:Nat):List (FuncId×Fs U):=(135,fs jr (λa=>[gg a,mL a<N]) vH)::(184,fs jr (λa=>[oo a,jB a<N]) uU)::(185,fs jr (λa=>[o7 a,jB a<N]) yg)::[(41,mJ),(151,l4),(222,Wf),(136,sT),(223,WA)]
def ZOm:Zb U:=cI [[2,3,4,502,503,504],[6,506],[10],[2,3,7,10,502,503],[2,3,7,10,11,502,503],[2,3,7,10,11,502,503],[2,3,7,10,13,502,503],[10,13],[2,3,7,502,503],[2,3,7,10,21,502,503],[2,3,7,10,21,502,503],[2,3,7,29,502,503],[2,3,7,29,502,503],[7,38],[5,6,38,506],[]]
def ZN5(N:Nat)(e:W)(t:H):Prop:=AW (Za (rj N)) Tryz.f135 ZOm [] (Y5 (jr.cK (e,t,())) []) (EQ Tryz.f135 (vH (e,t,())) [])
abbrev ZP0:Prop:=∀N(e:W)t(_:Unit),gg (e,t,())->mL (e,t,())<N+1->ZN5 N e t
def HK:Zb U:=cI [[2,3,4,502,503,504],[21],[2,3,5,21,502,503],[2,3,5,6,502,503,506],[7,8],[9],[45],[9,45],[10],[69],[10,69],[11],[12,(506,[.any,.bF .u64])],[80,506,506],[80,(506,[.any,.bF .u64])],[13,506,506],[100],[14,100,514],[112],[2,3,5,6,7,8,11,12,13,14,112,502,503,506,514],[2,3,5,6,7,8,11,12,13,502,503,506],[],[13],[7,12],[15,(506,[.any,.any,.bF .aX])],[130,506,506],[130,(506,[.any,.any,.bF .aX])],[16,506,506,516],[150],[17,18,150,517],[18,163],[2,3,5,6,8,11,15,16,17,163,502,503,506,516,517],[2,3,5,6,8,11,15,16,502,503,506,516],[],[16,516],[2,3,5,6,8,11,15,502,503,506]]
def tv(e:W)(t:H)(x8 x7 aa s:Int)(h:List Int):bT U:=L2 [pL 2,pL 3,pL 4,pL 6,pI 7 x7,pI 8 x8,pI 11 aa,pI 12 s] [(.bE 2,enc .aY e),(.bE 3,enc .aX t),(.bE 4,[ci 0,.nils,.nils]),(.bE 6,[ci 1,sU .u64 h (.bF (.l 6 1)),.nils])]
def Ee(e:W)(t:H)(x8:Int)(ab:List Int)(aa s:Int)(h:List H):bT U:=L2 [pL 2,pL 3,pL 4,pL 6,pI 8 x8,pI 11 aa,pI 15 s] [(.bE 2,enc .aY e),(.bE 3,enc .aX t),(.bE 4,[ci 0,.nils,.nils]),(.bE 6,[ci 1,sU .u64 ab (.bF (.l 6 1)),sU .aX h (.bF (.l 6 2))])]
abbrev CJ(N)(p):=AW (Za (rj N)) Tryz.f184 HK p
abbrev CL(N)(p):=SW (Za (rj N)) Tryz.f184 HK p
theorem ZC7(N)(e)(t)(x8 x7 ae s)(aa)(N0:NT)(Q:QT)(h:∀af,af=t->∀ab,ab=aR e.aS (G ae) (aV.mk 0 0 0 0)->let z0:=decide (ae<(J e.aS));iB (decide (s<x7)) ( wv (af,s,())/\Tk 3 z0 ((z0=Y->0<=ae/\ae<(J e.aS))/\Tk 5 z0 (iB (bif z0 then ab.S==s else I) ((0<=ae/\ae<(J e.aS))/\iK (0,JJ af s,ab.a_,())/\iB ((cS 0 (JJ af s) ab.a_)!=ab.bH) (Q .ret (L2 [pL 4,pB 5 I] [(.bE 4,[ci 0,.nils,.nils])])) ( iK ( JJ af s,ab.new,ab.a_,())/\bQ (ae+1)/\( J aa+J [cS (JJ af s) ab.new ab.a_])*8<=140737488355328/\bQ (s+1)/\N0 (tv e t x8 x7 (ae+1) (s+1) (aa++[cS (JJ af s) ab.new ab.a_])))) ( ( J aa+J [JJ af s])*8<=140737488355328/\bQ (s+1)/\N0 (tv e t x8 x7 ae (s+1) (aa++[JJ af s])))))) (Zi (CJ N [1,1,1,1,1,1,1,1,1,0,1,0,0]) (Ee e t x8 aa 0 0 []) (xB 2 (CL N [1,1,1,1,1,1,1,1,1,1] Q)))):CJ N [1,1,1,1,1,1,1,0,1,0,0] (tv e t x8 x7 ae s aa) (xT N0 (xB 0 (CL N [1,1,1,1,1,1,1,1] Q))):=Eq.mpr V4 (h _ (Z7 _) _ rfl)
theorem ZC6(N)(e:W)(t)(x8)(ae)(s ab)(aa:List H)(N1:NT)(Q:QT)(h:∀aj,aj=t->∀ai,ai=aR e.X (G s) (aW.mk 0 W.nil)->∀ah,ah=ai.e->∀af,af=jq aj ab->∀ak,ak=YH (bX Y ah af)->let z0:=decide (s<(J e.X));iB (decide (ab<x8)) ( wv (aj,ab,())/\Tk 3 z0 ((z0=Y->0<=s/\s<(J e.X))/\Tk 5 z0 (iB (bif z0 then ai.S==ab else I) ((0<=s/\s<(J e.X))/\gg (ah,af,())/\mL (ah,af,())<N/\iB (!(bX Y ah af).isSome) (Q .ret (L2 [pL 4,pB 5 I] [(.bE 4,[ci 0,.nils,.nils])])) ( bQ (s+1)/\( J aa+J [ak])*56<=140737488355328/\bQ (ab+1)/\N1 (Ee e t x8 ae (s+1) (ab+1) (aa++[ak])))) ( ( J aa+J [af])*56<=140737488355328/\bQ (ab+1)/\N1 (Ee e t x8 ae s (ab+1) (aa++[af])))))) (Q .ret (L2 [pL 4,pB 5 Y] [(.bE 4,[ci 1,sU .u64 ae (.bF (.l 4 1)),sU .aX aa (.bF (.l 4 2))])]))):CJ N [1,1,1,1,1,1,1,1,1,0,1,0,0] (Ee e t x8 ae s ab aa) (xT N1 (xB 2 (CL N [1,1,1,1,1,1,1,1,1,1] Q))):=Eq.mpr V4 (h _ (Z7 _) _ rfl _ (Z0 _) _ (Z7 _) _ (Z7 _))
def ZMW(N:Nat)(e:W)(t:H):Prop:=AW (Za (rj N)) Tryz.f184 HK [] (Y5 (jr.cK (e,t,())) []) (EQ Tryz.f184 (uU (e,t,())) [])
abbrev ZOR:Prop:=∀N(e:W)t(_:Unit),oo (e,t,())->jB (e,t,())<N+1->ZMW N e t
def G9:Zb U:=cI [[2,3,4,502,503,504],[18],[2,3,5,18,502,503],[2,3,5,6,502,503,506],[7],[8,(506,[.any,.any,.bF .aX])],[27,506,506],[27,(506,[.any,.any,.bF .aX])],[9,506,506,509],[10,(506,[.any,.any,.bF .aX])],[43,506,506],[43,(506,[.any,.any,.bF .aX])],[50,506,506],[2,3,5,6,7,8,9,10,50,502,503,506,509],[2,3,5,6,7,8,9,10,502,503,506,509],[],[10,11,(506,[.any,.any,.bF .aX])],[68,506,506],[68,(506,[.any,.any,.bF .aX])],[73,506,506],[73],[102],[2,3,5,6,7,8,9,11,102,502,503,506,509],[2,3,5,6,7,8,9,11,502,503,506,509],[11,108],[108,113],[2,3,5,6,7,8,9,113,502,503,506,509],[2,3,5,6,7,8,12,13,502,503,506,512],[13,127],[2,3,5,6,7,8,12,127,502,503,506,512],[2,3,5,6,7,8,502,503,506],[],[2,3,5,6,7,8,502,503,506]]
def wZ(e:W)(t:H)(s x8:Int)(h:List H):bT U:=L2 [pL 2,pL 3,pL 4,pL 6,pI 7 s,pI 8 x8] [(.bE 2,enc .aY e),(.bE 3,enc .aX t),(.bE 4,[ci 0,.nils,.nils]),(.bE 6,[ci t.D,.nils,sU .aX h (.bF (.l 6 2))])]
def xY(e:W)(t:H)(x8 aa s:Int)(h:List H):bT U:=L2 [pL 2,pL 3,pL 4,pL 6,pI 7 aa,pI 8 x8,pL 9,pI 10 s] [(.bE 2,enc .aY e),(.bE 3,enc .aX t),(.bE 4,[ci 0,.nils,.nils]),(.bE 6,[ci t.D,.nils,sU .aX h (.bF (.l 6 2))]),(.bE 9,enc .op (aR e.ops (G x8) Op.nil))]
def wD(e:W)(t:H)(x8 s aa:Int)(h:List H):bT U:=L2 [pL 2,pL 3,pL 4,pL 6,pI 7 aa,pI 8 x8,pL 9,pI 11 s] [(.bE 2,enc .aY e),(.bE 3,enc .aX t),(.bE 4,[ci 0,.nils,.nils]),(.bE 6,[ci t.D,.nils,sU .aX h (.bF (.l 6 2))]),(.bE 9,enc .op (aR e.ops (G x8) Op.nil))]
abbrev Bq(N)(p):=AW (Za (rj N)) Tryz.f185 G9 p
abbrev nG(N)(p):=SW (Za (rj N)) Tryz.f185 G9 p
theorem ZC5(N)(e)(t)(x7 x8)(s)(N0:NT)(Q:QT)(h:iB (decide (x8<( J e.ops:Int))) ((0<=x8/\x8<(J e.ops))/\Zi (Bq N [1,1,1,1,0,1,0,0,1,0,0,1,0,1,0,0]) (xY e t x8 x7 0 s) (xB 2 (nG N [1,1,1,1,0,1,0,0,1,0,0,1,1] (xB 1 (nG N [1,1,1,1,0,1,0,0,1,1] (xT N0 (xB 0 (nG N [1,1,1,1,1] Q)))))))) (Q .ret (L2 [pL 4,pB 5 (x7==(J t.X))] [(.bE 4,[ci t.D,.nils,sU .aX s (.bF (.l 4 2))])]))):Bq N [1,1,1,1,0,1,0,0] (wZ e t x7 x8 s) (xT N0 (xB 0 (nG N [1,1,1,1,1] Q))):=Eq.mpr V4 h
theorem Hy(N)(e)(t)(x8 aa ab)(s)(N1 N0:NT)(Q:QT)(h:∀ae,ae=aR e.ops (G x8) Op.nil->∀af,af=aR t.X (G aa) H.nil->Tk 3 (decide (ab<ae.n)) (iB (bif decide (ab<ae.n)then ae.D==0 else I) (iB (decide ((( J t.X:Int))<=aa)) (Q .ret (L2 [pL 4,pB 5 I] [(.bE 4,[ci 0,.nils,.nils])])) ((0<=aa/\aa<(J t.X))/\( J s+J [af])*56<=140737488355328/\bQ (aa+1)/\bQ (ab+1)/\N1 (xY e t x8 (aa+1) (ab+1) (s++[af])))) (Zi (Bq N [1,1,1,1,0,1,0,0,1,0,0,1,1,0,1,0,0]) (wD e t x8 0 aa s) (xB 4 (nG N [1,1,1,1,0,1,0,0,1,0,0,1,1,1] (xB 1 (nG N [1,1,1,1,0,1,0,0,1,1] (xT N0 (xB 0 (nG N [1,1,1,1,1] Q)))))))))):Bq N [1,1,1,1,0,1,0,0,1,0,0,1,0,1,0,0] (xY e t x8 aa ab s) (xT N1 (xB 2 (nG N [1,1,1,1,0,1,0,0,1,0,0,1,1] (xB 1 (nG N [1,1,1,1,0,1,0,0,1,1] (xT N0 (xB 0 (nG N [1,1,1,1,1] Q)))))))):=Eq.mpr V4 (h _ rfl _ (Z7 _))
theorem GD(N)(e)(t)(x8 aa ab)(s)(N2 N0:NT)(Q:QT)(h:∀ae,ae=aR e.ops (G x8) Op.nil->∀al,al=aR t.X (G ab) H.nil->∀af,af=al->∀ai,ai=ae.e->∀am,am=aR ae.l (G aa) H.nil->∀ah,ah=am->∀ak,ak=YH (bX Y ai af)->let z1:=Q .ret (L2 [pL 4,pB 5 I] [(.bE 4,[ci 0,.nils,.nils])]);let z0:=decide ((( J t.X:Int))<=ab);iB (decide (aa<(J ae.l))) (iB (ae.D==2) ((0<=aa/\aa<(J ae.l))/\( J s+J [ah])*56<=140737488355328/\bQ (aa+1)/\N2 (wD e t x8 (aa+1) ab (s++[ah]))) (Tk 3 (!z0) (((!z0)=Y->0<=ab/\ab<(J t.X))/\Tk 4 (!z0) (((!z0)=Y->0<=aa/\aa<(J ae.l))/\Tk 3 (!z0) (((!z0)=Y->kM (af,ah,()))/\Tt !z0/\(z0=I->(!z0)=Y)/\iB (bif z0 then Y else ! ZW (Z2 af) (Z2 ah)) z1 ( bQ (ab+1)/\bQ (aa+1)/\N2 (wD e t x8 (aa+1) (ab+1) s))))))) (iB (ae.D==3) (iB z0 z1 ((0<=ab/\ab<(J t.X))/\gg (ai,af,())/\mL (ai,af,())<N/\iB (!(bX Y ai af).isSome) z1 ( ( J s+J [ak])*56<=140737488355328/\bQ (ab+1)/\bQ (x8+1)/\N0 (wZ e t (ab+1) (x8+1) (s++[ak]))))) ( bQ (x8+1)/\N0 (wZ e t ab (x8+1) s)))):Bq N [1,1,1,1,0,1,0,0,1,0,0,1,1,0,1,0,0] (wD e t x8 aa ab s) (xT N2 (xB 4 (nG N [1,1,1,1,0,1,0,0,1,0,0,1,1,1] (xB 1 (nG N [1,1,1,1,0,1,0,0,1,1] (xT N0 (xB 0 (nG N [1,1,1,1,1] Q)))))))):=Eq.mpr V4 (h _ rfl _ rfl _ (Z7 _) _ (Z0 _) _ rfl _ (Z7 _) _ (Z7 _))
def ZMV(N:Nat)(e:W)(t:H):Prop:=AW (Za (rj N)) Tryz.f185 G9 [] (Y5 (jr.cK (e,t,())) []) (EQ Tryz.f185 (yg (e,t,())) [])
abbrev ZOQ:Prop:=∀N(e:W)t(_:Unit),o7 (e,t,())->jB (e,t,())<N+1->ZMV N e t
theorem ZFR(tC:CT 41 mJ)(qz:CT 151 l4)(Sh:CT 222 Wf)(vC:CT 136 sT)(OO:CT 223 WA)(SH:ZP0)(ZSb:ZOR)(Rt:ZOQ):CT 135 ui/\CT 184 Zxm/\CT 185 Zxl:=by
 have ab:FK 135:=⟨Tryz.f135,Tryz.func135,rfl,rfl⟩;have aa:FK 184:=⟨Tryz.f184,Tryz.func184,rfl,rfl⟩;have ae:FK 185:=⟨Tryz.f185,Tryz.func185,rfl,rfl⟩;have s:∀N,CT 135 (fs jr (λa=>[gg a,mL a<N]) vH)/\CT 184 (fs jr (λa=>[oo a,jB a<N]) uU)/\CT 185 (fs jr (λa=>[o7 a,jB a<N]) yg):=by intro N;induction N with|zero=>exact⟨YU ab,YU aa,YU ae⟩|succ N ih=>have kn:=mD (l:=rj N) ⟨ih.1,ih.2.1,ih.2.2,tC,qz,Sh,vC,OO,trivial⟩;exact⟨Zt (Γ:=Za (rj N)) ZN rfl kn ZOm Tryz.func135 rfl rfl λa=>by show 2<=_;decide λ⟨e,t,_⟩h=>SH N e t () h.1 h.2.1,Zt (Γ:=Za (rj N)) ZN rfl kn HK Tryz.func184 rfl rfl λa=>by show 2<=_;decide λ⟨e,t,_⟩h=>ZSb N e t () h.1 h.2.1,Zt (Γ:=Za (rj N)) ZN rfl kn G9 Tryz.func185 rfl rfl λa=>by show 2<=_;decide λ⟨e,t,_⟩h=>Rt N e t () h.1 h.2.1⟩
 exact⟨YV ab λN=>(s N).1,YV aa λN=>(s N).2.1,YV ae λN=>(s N).2.2⟩
