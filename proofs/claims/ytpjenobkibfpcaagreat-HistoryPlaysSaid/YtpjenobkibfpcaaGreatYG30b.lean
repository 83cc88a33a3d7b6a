import Derived.Test.YtpjenobkibfpcaaGreatZCL30r
import Derived.Test.YtpjenobkibfpcaaGreatZCG30b
import Derived.Test.YtpjenobkibfpcaaGreatZmXE
import Derived.Test.YtpjenobkibfpcaaGreatZCD40
set_option linter.all false
open Option renaming some->A,none->aT
open Bool renaming true->Y,false->I
open List renaming length->J,getD->aR
open Int renaming toNat->G
namespace Go.AM.YtpjenobkibfpcaaGreat
open Go.AM Go.Proofs
variable{K:Wt}
theorem ZPk{g p q}(h:p.D=0\/p.D=1\/p.D=3)(s:q.D=0\/q.D=1\/q.D=3):(J6 g p q).x=(ZS g (cP p) (cP q)).x:=by grind[J6,ZS,Ju,cP]
def za(g:W->W->dv)(a b:W):dv:=⟨(g b a).y,(g b a).x,(g b a).c,(g b a).a⟩
theorem ZPj{g p q}(h:p.D=0\/p.D=1\/p.D=3)(s:q.D=0\/q.D=1\/q.D=3):(J6 g p q).y=(J6 (za g) q p).x:=by grind[J6,cP,za]
theorem ZOu(m h):(Jd m h).y=(Jd h m).x:=by grind[Jd,Jb,gS]
def pP(x:bK):bK:=⟨if x.of=1 then 2 else if x.of=2 then 1 else x.of,x.q,x.p⟩
theorem Ae(a):∀l(i:Int),(Zn i a l).map cP=l.flatMap ux|[],_=>rfl|o::r,i=>by rw[Zn,XP,Zrf,Ae a r,XH]
theorem xG{a}:∀{l i u},u∈Zn i a l->u.bV=Y->u.D=a
 |o::r,i,u,h,ha=>by
  rw[Zn]at h;rcases Qo.1 h with h|h;.grind[Je]
  .exact xG h ha
theorem ZmC:∀k(P Q:List bJ)bB,J P+J Q<=k->(ZI P Q bB).2=Y->∃r,(ZI P Q bB).1=bB++r/\((r.filter λx=>!decide (x.of=2)).map bK.p=P/\(r.filter λx=>!decide (x.of=1)).map bK.q=Q)/\∀x∈r,x.of=1/\x.p∈P/\x.p.bV=Y\/x.of=2/\x.q∈Q/\x.q.bV=Y\/x.of=0/\(x.p∈P/\x.p.bV=I)/\x.q∈Q/\x.q.bV=I:=by intro k;induction k with
 |zero=>simp_all[ZI,k7]|succ k ih=>
  intro P Q bB hk h;rw[ZI]at h⊢;have ab:∀(P' Q':List bJ)(x:bK),(∀u∈P',u∈P)->(∀u∈Q',u∈Q)->x.of=1/\x.p∈P'/\x.p.bV=Y\/x.of=2/\x.q∈Q'/\x.q.bV=Y\/x.of=0/\(x.p∈P'/\x.p.bV=I)/\x.q∈Q'/\x.q.bV=I->x.of=1/\x.p∈P/\x.p.bV=Y\/x.of=2/\x.q∈Q/\x.q.bV=Y\/x.of=0/\(x.p∈P/\x.p.bV=I)/\x.q∈Q/\x.q.bV=I:=by
   rintro P' Q' x hP hQ(⟨h,a,b⟩|⟨h,a,b⟩|⟨h,⟨a,b⟩,c,d⟩);.exact .inl ⟨h,hP _ a,b⟩
   .exact .inr (.inl ⟨h,hQ _ a,b⟩)
   .exact .inr (.inr ⟨h,⟨hP _ a,b⟩,hQ _ c,d⟩)
  by_cases h1:k7 P=Y
  .rw[QW h1]at h⊢;cases P with|nil=>cases h1|cons a P'=>
    simp only[Qd]at hk;obtain⟨r,e1,⟨e2,e3⟩,e4⟩:=ih P' Q _ O h;refine⟨⟨1,a,bJ.nil⟩::r,e1.trans (by simp),⟨by simp[e2],by simp[e3]⟩,λx s=>?_⟩;rcases Qe.1 s with rfl|s;.grind[tE]
    .exact ab P' Q x (λu hu=>Q4 _ hu) (λu hu=>hu) (e4 x s)
  .rw[QC h1]at h⊢;by_cases h2:k7 Q=Y
   .rw[QW h2]at h⊢;cases Q with
    |nil=>cases h2|cons a Q'=>
     simp only[Qd]at hk;obtain⟨r,e1,⟨e2,e3⟩,e4⟩:=ih P Q' _ O h;refine⟨⟨2,bJ.nil,a⟩::r,e1.trans (by simp),⟨by simp[e2],by simp[e3]⟩,λx s=>?_⟩;rcases Qe.1 s with rfl|s;.grind[tE]
     .exact ab P Q' x (λu hu=>hu) (λu hu=>Q4 _ hu) (e4 x s)
   .rw[QC h2]at h⊢;by_cases h3:J P=0\/J Q=0
    .rw[QW h3]at h⊢;split at h
     .rename_i h4;have e0:J P=0/\J Q=0:=by
       by_cases a:J P=0
       .by_cases b:J Q=0;.exact⟨a,b⟩
        .simp[a,b]at h4
       .by_cases b:J Q=0;.simp[a,b]at h4
        .omega
      rw[Q5 h4];have e1:=Q7 e0.1;have e2:=Q7 e0.2;subst e1 e2;exact⟨[],by simp,⟨rfl,rfl⟩,λx s=>by cases s⟩
     .cases h
    .rw[QC h3]at h⊢;cases P with|nil=>simp at h3|cons a P'=>cases Q with
      |nil=>simp at h3|cons b Q'=>
       simp only[Qd]at hk;obtain⟨r,e1,⟨e2,e3⟩,e4⟩:=ih P' Q' _ O h;refine⟨⟨0,a,b⟩::r,e1.trans (by simp),⟨by simp[e2],by simp[e3]⟩,λx s=>?_⟩;rcases Qe.1 s with rfl|s;.grind[tE]
       .exact ab P' Q' x (λu hu=>Q4 _ hu) (λu hu=>Q4 _ hu) (e4 x s)
theorem TO:∀l,(l.map λt=>((K.d+Zo t:Nat):Int)).sum=gG K l|[]=>rfl|t::r=>by rw[Qu,Kr,TO r];simp only[gG,Ze,Qd,Nat.mul_add,Nat.mul_one];omega
theorem ZWM{o}(h:ZH o):ZG (λo=>((jj K o:Nat))) (ux o)=jj K o:=by
 have s:=mZ (K:=K) o;rcases Zx h with k|k|k|k
 .obtain⟨e,hn⟩:=tR h k.1;have hl:o.l=[]:=by rcases h with h|h|h<;>grind
  rw[e,C3,s,hl,Q0 O];try rfl
 .rw[iP (.inl k),qI _ _ (λt=>((K.d+Zo t:Nat):Int)) λt=>by grind[mZ,gG,Ze],TO,s,Q0 O];try rfl
 .rw[iP (.inr k),qI _ _ (λt=>((K.d+Zo t:Nat):Int)) λt=>by grind[mZ,gG,Ze],TO,s,Q0 O];try rfl
 grind[nd,ZG]
theorem Wv:∀l,ZG (λo=>((jj K o:Nat))) l=JP K l|[]=>rfl|o::r=>by simp only[ZG,JP,Wv r];omega
theorem AQ{φ}:∀{l},(∀o∈l,0<=φ o)->0<=ZG φ l|[],_=>Qz _|o::r,h=>by have h1:=h o Q6;have h2:=AQ (l:=r) λx s=>h x (Q4 _ s);simp only[ZG];omega
def pU(r:List bK):List Op:=(r.filter λx=>!decide (x.of=2)).map λx=>cP x.p
def qU(r:List bK):List Op:=(r.filter λx=>!decide (x.of=1)).map λx=>cP x.q
theorem Bm{x r}(h:x.of≠2):pU (x::r)=cP x.p::pU r:=by unfold pU;grind
theorem V8{x r}(h:x.of=2):pU (x::r)=pU r:=by unfold pU;grind
theorem ED{x r}(h:x.of≠1):qU (x::r)=cP x.q::qU r:=by unfold qU;grind
theorem WH{x r}(h:x.of=1):qU (x::r)=qU r:=by unfold qU;grind
def ZW3(V a:Int)(g:W->W->dv)(K:Wt)(T:Int)(x:bK):Prop:=x.of=1/\x.p.D=2/\kj V (cP x.p)\/x.of=2/\x.q.D=2/\kj V (cP x.q)\/x.of=0/\((x.p.D≠2/\kj V (cP x.p))/\x.q.D≠2/\kj V (cP x.q))/\YF a (cP x.p).e/\(x.p.D=3->x.q.D=3->gH K T (g (cP x.p).e (cP x.q).e).x (cP x.p).e)
theorem Bj{u}(h:ZH (cP u))(s:u.D≠2):u.D=0\/u.D=1\/u.D=3:=by have:=Zx h;grind[j8,Ju]
theorem GB{g V a b}(s:2<=V/\V<=9)(ha:0<=a)(hb:0<=b):∀{r m h},(∀x∈r,ZW3 V a g K (a+b) x)->AS V m->(J h)+ZG φB (qU r)<=1048576->(∀o∈qU r,0<=φB o)->e_ K V (a+b) (g9 g r m h).x ( J h+ZG φB (qU r)) ( J m+J h+ZG φB (pU r)+ZG φB (qU r)) (gG K m+JP K (pU r))
 |[],m,h,_,hm,hh,_=>by have hh:( J h:Int)+0<=1048576:=hh;exact(HI O hm O).mono (by show( J h:Int)<=J h+0;omega) (by show( J m+J h:Int)<=J m+J h+0+0;omega) O|x::r,m,h,hr,hm,hh,hn=>by
  have ab:=λy hy=>hr y (Q4 _ hy);rw[g9];rcases hr x Q6 with⟨h1,k2,op⟩|⟨h2,k2,oq⟩|⟨h0,⟨⟨kp,op⟩,kq,oq⟩,tp,hf⟩
  .rw[Q5 h1];rw[WH h1]at hh hn⊢;rw[Bm O];have el:(cP x.p).l=[x.p.t]:=by unfold cP;grind
   have ek:(cP x.p).D=2:=by rw[Ju];exact k2
   have kl:=ZmF op (.inr ek);rw[el]at kl;have e:=GB (g:=g) s ha hb (m:=m++[x.p.t]) ab (λt ht=>(Qo.1 ht).elim (hm t) (kl t)) hh hn;have l2:=Yn op.1 (.inr ek);grind[ZG,φB,F7,JP,mZ,el]
  .rw[Q0 O,Q5 h2];rw[ED O]at hh hn⊢;rw[V8 h2];have el:(cP x.q).l=[x.q.t]:=by unfold cP;grind
   have ek:(cP x.q).D=2:=by rw[Ju];exact k2
   have l2:=Yn oq.1 (.inr ek);have ak:φB (cP x.q)=1:=by unfold φB;rw[V5,l2,el];try rfl
   simp only[ZG,ak]at hh⊢;have e:=GB (g:=g) s ha hb (m:=m) (h:=h++[x.q.t]) ab hm (by grind) λo ho=>hn o (Q4 _ ho);grind
  .rw[Q0 O,Q0 O];rw[ED O]at hh hn⊢;rw[Bm O];simp only[ZG]at hh⊢;have nq:0<=ZG φB (qU r):=AQ λo ho=>hn o (Q4 _ ho);have n1:=hn _ Q6;have e:=GB (g:=g) s ha hb (m:=[]) (h:=[]) ab (λt ht=>by cases ht) (by grind) λo ho=>hn o (Q4 _ ho);have gx:=HI (K:=K) (T:=a+b) O hm (h:=h) O;have p1:=Bj op.1 kp;have q1:=Bj oq.1 kq;have ll:∀{u:bJ},ZH (cP u)->u.D≠2->Z4 (cP u)=1:=by
    intro u hu h2;rcases Bj hu h2 with k|k|k
    .have e:cP u=⟨0,1,[],W.nil⟩:=by unfold cP;rw[if_pos k]
     rw[e];try rfl
    .have e:cP u=⟨u.D,0,[u.t],W.nil⟩:=by unfold cP;grind
     rw[e,YN,Q0 (by grind)];try rfl
    .exact Yk (by rw[Ju];exact k)
   have pc:=Zyj (f:=g) (p:=cP x.p) (q:=cP x.q) s ha hb op oq tp (by rw[ll op.1 kp,ll oq.1 kq]) (by rw[Ju];exact kp) (by rw[Ju];exact kq) (by rw[Ju,Ju];exact hf);rw[<-ZPk p1 q1]at pc;refine((gx.dw pc).dw e).mono ?_ ?_ ?_<;>grind[gG,Ze,JP]
theorem Zsa{g}:∀{r}m h,(∀x∈r,x.of=1\/x.of=2\/x.of=0/\(x.p.D=0\/x.p.D=1\/x.p.D=3)/\(x.q.D=0\/x.q.D=1\/x.q.D=3))->(g9 g r m h).y=(g9 (za g) (r.map pP) h m).x
 |[],m,h,_=>ZOu m h|x::r,m,h,hr=>by
  have ih:=λm h=>Zsa (g:=g) (r:=r) m h λy s=>hr y (Q4 _ s);rw[Qu,g9,g9];rcases hr x Q6 with h1|h2|⟨h0,kp,kq⟩;.grind[pP]
  .grind[pP]
  .have e:(pP x).of=0:=by unfold pP;rw[V5,V5];exact h0
   rw[Q0 O,Q0 O,Q0 O,Q0 O];show(Jd m h).y++(J6 g x.p x.q).y++(g9 g r [] []).y=(Jd h m).x++(J6 (za g) x.q x.p).x++(g9 (za g) (r.map pP) [] []).x;rw[ZOu,ZPj kp kq,ih]
theorem ZIT(r):(∀x∈r,x.of=0\/x.of=1\/x.of=2)->pU (r.map pP)=qU r/\qU (r.map pP)=pU r:=by induction r with|nil=>intro _;trivial|cons x r ih=>grind[pP,Bm,ED,V8,WH]
theorem Zsb{g a b}(ha:0<=a)(hb:0<=b)(ai:a+b<1048576){p q r}(wp:Wk p)(wq:Wk q)(tp:YF a p)(tq:YF b q)(p3:p.D=3)(e1:pU r=p.ops.flatMap ux)(e2:qU r=q.ops.flatMap ux)(hr:∀x∈r,ZW3 p.V a g K (a+b) x):gH K (a+b) (J9 p.V (g9 g r [] []).x) p:=by
 have rp:=Zc wp.r;have s:=rp.V p3;rw[nC]at tp tq;have ab:=Zr wp.r;have am:=Zr wq.r;have sb:∀{l:List Op},(∀o∈l,ZH o)->ZG φB (l.flatMap ux)=JO l:=λh=>by grind[uA,φB,ZTN,mv]
 have so:JP K (p.ops.flatMap ux)=JP K p.ops:=by have:=uA (λo=>((jj K o:Nat):Int)) (λo=>ZWM) ab;rw[Wv,Wv]at this;omega
 have aE:=GB (K:=K) (g:=g) s ha hb (m:=[]) (h:=[]) hr (λt ht=>by cases ht) (by grind) λo ho=>by rw[e2]at ho;obtain⟨o',h1,h2⟩:=K7.1 ho;have R:=ZiU (nL wq o' h1).2.1 (nL wq o' h1).2.2 o h2;exact mw (uu R.1)
 grind[gG,Ze,ZE5]
theorem sH{p}(wp:Wk p){a}(ha:0<=a)(tp:YF a p){u}(h:u∈Zn 0 2 p.ops):kj p.V (cP u)/\YF a (cP u).e/\(u.D=3->∃o∈p.ops,o.D=3/\(cP u).e=o.e/\u.e=o.e)/\(u.D=2->u.bV=Y):=by
 have s:=Zr wp.r;obtain⟨o,ho,U⟩:=sN s h;have hm:cP u∈p.ops.flatMap ux:=by rw[<-Ae 2 p.ops 0];exact Xd h
 obtain⟨o',h1,h2⟩:=K7.1 hm;have R:=ZiU (nL wp o' h1).2.1 (nL wp o' h1).2.2 _ h2;refine⟨⟨uu R.1,R⟩,?_,λk=>⟨o,ho,by rw[<-U.D];exact k,?_,U.dL k⟩,λk=>by rw[U.bV (.inr k)];simp[k]⟩
 .unfold cP;split;.trivial
  .split
   .rename_i k;show YF a u.e;rw[U.dL k];exact(nC.1 tp).2.2 o ho
   trivial
 .unfold cP;rw[Q0 O,Q5 k];exact U.dL k
theorem ZV8{g a b}(ha:0<=a)(hb:0<=b)(al:a+b<1048576){p q}(wp:Wk p)(wq:Wk q)(tp:YF a p)(s:YF b q)(p3:p.D=3)(q3:q.D=3)(hf:∀x∈p.ops,∀y∈q.ops,x.D=3->y.D=3->gH K (a+b) (g x.e y.e).x x.e/\gH K (a+b) (g x.e y.e).y y.e):gH K (a+b) (n6 g p q).x p/\gH K (a+b) (n6 g p q).y q:=by
 unfold n6;dsimp only;by_cases L:(ZI (Zn 0 2 p.ops) (Zn 0 2 q.ops) []).2=Y/\p.V=q.V
 .obtain⟨L,hl⟩:=L;rw[Q5 ⟨L,hl⟩];obtain⟨r,e,⟨e1,e2⟩,hr⟩:=ZmC _ _ _ _ (Qa _) L;rw[e,Qn];have f1:pU r=p.ops.flatMap ux:=by rw[<-Ae 2 p.ops 0,<-e1,QP];try rfl
  have f2:qU r=q.ops.flatMap ux:=by rw[<-Ae 2 q.ops 0,<-e2,QP];try rfl
  have am:∀x∈r,x.of=0\/x.of=1\/x.of=2:=λx hx=>by rcases hr x hx with h|h|h<;>omega
  have ai:∀x∈r,x.of=1\/x.of=2\/x.of=0/\(x.p.D=0\/x.p.D=1\/x.p.D=3)/\(x.q.D=0\/x.q.D=1\/x.q.D=3):=by
   intro x hx;rcases hr x hx with h|h|⟨h,⟨m1,a1⟩,m2,a2⟩;.exact .inl h.1
   .exact .inr (.inl h.1)
   .obtain⟨o1,_,_,c1⟩:=sH wp ha tp m1;obtain⟨o2,_,_,c2⟩:=sH wq hb s m2;refine .inr (.inr ⟨h,Bj o1.1 λk=>?_,Bj o2.1 λk=>?_⟩)<;>grind[Bj]
  refine⟨Zsb ha hb al wp wq tp s p3 f1 f2 λx hx=>?_,?_⟩
  .rcases hr x hx with⟨h,m1,a1⟩|⟨h,m2,a2⟩|⟨h,⟨m1,a1⟩,m2,a2⟩;.exact .inl ⟨h,xG m1 a1,(sH wp ha tp m1).1⟩
   .exact .inr (.inl ⟨h,xG m2 a2,by rw[hl];exact(sH wq hb s m2).1⟩)
   .obtain⟨o1,t1,i1,c1⟩:=sH wp ha tp m1;obtain⟨o2,t2,i2,c2⟩:=sH wq hb s m2;refine .inr (.inr ⟨h,⟨⟨λk=>?_,o1⟩,λk=>?_,by rw[hl];exact o2⟩,t1,λk1 k2=>?_⟩)<;>grind
  .show gH K (a+b) (J9 p.V (g9 g r [] []).y) q;rw[hl,Zsa [] [] ai,KU];obtain⟨s1,s2⟩:=ZIT r am;refine Zsb hb ha O wq wp s tp q3 (s1.trans f2) (s2.trans f1) λy hy=>?_;obtain⟨x,hx,rfl⟩:=QU.1 hy;rcases hr x hx with⟨h,m1,a1⟩|⟨h,m2,a2⟩|⟨h,⟨m1,a1⟩,m2,a2⟩;.exact .inr (.inl ⟨by unfold pP;rw[if_pos h],xG m1 a1,by rw[<-hl];exact(sH wp ha tp m1).1⟩)
   .exact .inl ⟨by simp_all[pP],xG m2 a2,(sH wq hb s m2).1⟩
   .obtain⟨o1,t1,i1,c1⟩:=sH wp ha tp m1;obtain⟨o2,t2,i2,c2⟩:=sH wq hb s m2;refine .inr (.inr ⟨by simp_all[pP],⟨⟨λk=>?_,o2⟩,λk=>?_,by rw[<-hl];exact o1⟩,t2,λk2 k1=>?_⟩);.have k:x.q.D=2:=k;rw[c2 k]at a2;cases a2
    .have k:x.p.D=2:=k;rw[c1 k]at a1;cases a1
    .obtain⟨x1,y1,z1,w1,_⟩:=i1 k1;obtain⟨x2,y2,z2,w2,_⟩:=i2 k2;show gH K (b+a) (g (cP x.p).e (cP x.q).e).y (cP x.q).e;grind
 .rw[Q0 L];exact⟨.nil O p,.nil O q⟩
theorem ZTQ{g}(gl:∀e,g e W.nil=⟨e,W.nil,I,I⟩)(gr:∀e,g W.nil e=⟨W.nil,e,I,I⟩){a b}(ha:0<=a)(hb:0<=b){p q}(wp:Wk p)(h:Wk q)(tp:YF a p)(tq:YF b q)(p2:p.D=2)(q2:q.D=2)(hf:∀x∈p.X,∀y∈q.X,gH K (a+b) (g x.e y.e).x x.e/\gH K (a+b) (g x.e y.e).y y.e):gH K (a+b) (l6 g p q).x p/\gH K (a+b) (l6 g p q).y q:=by have rp:=Zc wp.r;have rq:=Zc h.r;rw[Zrw gl gr (YJ rp.aS) (YJ rq.aS) (λw hw=>(Yd rp.aS w hw).2.2.1) (λw hw=>(Yd rq.aS w hw).2.2.1) (Jh rp.X) (Jh rq.X)];refine⟨ZDv (f:=g) ha hb wp h tp p2 λx hx y s=>(hf x hx y s).1,?_⟩;rw[KU];exact ZDv (f:=za g) hb ha h wp tq q2 λy s x hx=>by rw[KU];exact(hf x hx y s).2
theorem ZWP{a b}(ha:0<=a)(hb:0<=b)(ak:a+b<1048576):∀n(p q:W),Z1 p+Z1 q<=n->Wk p->Wk q->YF a p->YF b q->gH K (a+b) (kQ n p q).x p/\gH K (a+b) (kQ n p q).y q:=by intro n;induction n with
 |zero=>intro p q h;obtain⟨k,o,nw,w,ks,l,os⟩:=p;simp only[Z1]at h;omega|succ n ih=>
  intro p q hn wp wq tp tq;have m1:=s8 p;have m2:=s8 q;obtain⟨n',rfl⟩:∃k,n=k+1:=⟨n-1,O⟩;show gH K (a+b) (nh (kQ (n'+1)) p q).x p/\gH K (a+b) (nh (kQ (n'+1)) p q).y q;have rp:=Zc wp.r;have rq:=Zc wq.r;have ae:=nC.1 tp;have af:=nC.1 tq;unfold nh;by_cases h0:p.D=0\/q.D=0;.rw[Q5 h0];exact⟨.g7 wp (zo _ _ (Qa _) O tp),.g7 wq (zo _ _ (Qa _) O tq)⟩
  rw[Q0 h0];by_cases p1:p.D=1;.rw[Q5 p1];exact⟨.nil O p,.nil O q⟩
  rw[Q0 p1];by_cases q1:q.D=1;.rw[Q5 q1];exact⟨.nil O p,.nil O q⟩
  rw[Q0 q1];by_cases hk:p.D≠q.D;.rw[Q5 hk];exact⟨.nil O p,.nil O q⟩
  rw[Q0 hk];by_cases p2:p.D=2;.rw[Q5 p2];refine ZTQ (PO n') (Ts n') ha hb wp wq tp tq p2 O λx hx y s=>?_;have:=ZA hx;have:=ZA s;exact ih _ _ O ⟨Yu _ _ _ V1 (Zl rp.X x hx).2,(Y6 (Zp wp.g).2.2.2.1 hx).2⟩ ⟨Yu _ _ _ V1 (Zl rq.X y s).2,(Y6 (Zp wq.g).2.2.2.1 s).2⟩ (ae.2.1 x hx) (af.2.1 y s)
  .rw[Q0 p2];have:=rp.D;refine ZV8 ha hb ak wp wq tp tq O O λx hx y s kx ky=>?_;have:=Yf hx;have:=Yf s;exact ih _ _ O (tN (nL wp x hx) kx).1.2.2.2 (tN (nL wq y s) ky).1.2.2.2 (ae.2.2 x hx) (af.2.2 y s)
def Lt(p q:W):Prop:=ZR p/\ZR q/\((dN (Zd p) (Zd q)).a=I->(dN (Zd p) (Zd q)).c=I->ZR (dN (Zd p) (Zd q)).x/\ZR (dN (Zd p) (Zd q)).y)
theorem Zha{f g p q}:∀{l},(∀n∈l,f (Yc p n) (Yc q n)=g (Yc p n) (Yc q n))->JA f p q l=JA g p q l|[],_=>rfl|n::r,h=>by rw[JA,JA,h n Q6,Zha λm s=>h m (Q4 _ s)]
theorem ZjT{f g}:∀{r}m h,(∀x∈r,x.of≠1->x.of≠2->f x.p.e x.q.e=g x.p.e x.q.e)->g9 f r m h=g9 g r m h|[],_,_,_=>rfl|x::r,m,h,hr=>by have ih:=λm h=>ZjT (f:=f) (g:=g) (r:=r) m h λy s=>hr y (Q4 _ s);grind[g9,J6]
theorem ZdU{f g p q d d'}(s:Z3 p d=Y)(hq:Z3 q d'=Y)(h:∀a b,Z1 a+Z1 b<Z1 p+Z1 q->(∃d,Z3 a d=Y)->(∃d,Z3 b d=Y)->f a b=g a b):nh f p q=nh g p q:=by
 have hk:l6 f p q=l6 g p q:=by unfold l6;rw[Zha (f:=f) (g:=g) λn hn=>by obtain⟨a,b,c⟩:=Mt s hq hn;exact h _ _ a b c]
 have ho:n6 f p q=n6 g p q:=by
  unfold n6;dsimp only;rw[ZjT (f:=f) (g:=g) [] [] λx hx h1 h2=>?_];rcases TI _ _ _ _ (Qa _) x hx with m|⟨_,⟨m1,_⟩,m2,_⟩|⟨m,_⟩|⟨m,_⟩;.cases m
  .obtain⟨o1,ab,u1⟩:=sN (Zr s) m1;obtain⟨o2,aa,u2⟩:=sN (Zr hq) m2;obtain⟨a1,b1⟩:=uG s ab u1;obtain⟨a2,b2⟩:=uG hq aa u2;grind
  .omega
  .omega
 unfold nh;rw[hk,ho]
theorem Zs7:∀n m(p q:W)d s,Z3 p d=Y->Z3 q s=Y->Z1 p+Z1 q<=n->n<=m->kQ m p q=kQ n p q:=by intro n;induction n with|zero=>intro m p q d s _ _ h;obtain⟨k,o,nw,w,ks,l,os⟩:=p;simp only[Z1]at h;omega|succ n ih=>intro m p q d s hp hq h hm;obtain⟨m,rfl⟩:∃k,m=k+1:=⟨m-1,O⟩;grind[nh,kQ,ZdU]
theorem ZEV{p q d h}(s:Z3 p d=Y)(hq:Z3 q h=Y):dN p q=nh dN p q:=by have e:dN p q=kQ (Z1 p+Z1 q+1) p q:=(Zs7 _ _ p q d h s hq (Qa _) O).symm;grind[nh,kQ,Z1,dN,ZdU,Zs7]
end Go.AM.YtpjenobkibfpcaaGreat
namespace Go.AM.YtpjenobkibfpcaaGreat
open Go.AM Go.Proofs
noncomputable section
def mX:List W->W->List W->(List W×W)×Int|[],f,bB=>((bB,f),0)|e::r,f,bB=>if(gz e f).2.2=0 then mX r (gz e f).2.1 (bB++[(gz e f).1])else((bB,f),(gz e f).2.2)
def zi:List W->W->Prop|[],_=>True|e::r,f=>(yP e f/\Lt e f)/\((gz e f).2.2=0->zi r (gz e f).2.1)
def yU(k:Int)(h:bG):W:=Zd (Zm (aR h.done (G k) W.nil))
def kY(k:Int)(h:bG):(List W×W)×Int:=mX (h.done.drop (G (k+1))) (yU k h) (h.done.take (G k))
def xE(k:Int)(h:bG):Bool:=decide (0<=k)&&decide (k<J h.done)
def kN(k:Int)(h:bG):bG×Int:=if xE k h=Y then if(kY k h).2=0 then if(Yx (kY k h).1.2 h.cX).2=0 then(⟨(Yx (kY k h).1.2 h.cX).1,(kY k h).1.1,[]⟩,0)else(h,(Yx (kY k h).1.2 h.cX).2)else(h,(kY k h).2)else(h,2)
def Gl(k:Int)(h:bG):Prop:=(xE k h=Y->(Z1 (aR h.done (G k) W.nil)<=20000000000/\∃d,Z3 (aR h.done (G k) W.nil) d=Y)/\zi (h.done.drop (G (k+1))) (yU k h)/\((kY k h).2=0->n9 (kY k h).1.2 h.cX))/\J h.done<=1000000000
end
structure H3(e:W):Prop where
 w:Wk e
 a:iG iZ e<=6000
 b:iG jo e<=196800000
structure iL(e:W):Prop extends H3 e where c:fv e<=210000000
theorem iL.rf{e}(h:iL e):eJ e:=⟨by have:=h.c;omega,h.w.g,-1,h.w.r⟩
theorem iL.ct{e}(h:iL e):dZ e<=210000000:=QS (vO _ e (Qa _) ⟨_,h.w.r⟩) h.c
theorem iL.re{e}(h:iL e):ZR e:=h.rf.re
structure mM(i:Nat)(s:H):Prop where
 r:eL s
 n:Z2 s=s
 l:jW s<=3000+6000*i
 m:Zo s<=3000+210000000*i
theorem mM.mono{i j s}(h:mM i s)(hj:i<=j):mM j s:=⟨h.r,h.n,by have:=h.l;omega,by have:=h.m;omega⟩
theorem MR{i e s}(h:ZR e)(hs:mM i s)(hi:i<=21):n9 e s:=by have:=ZL h;have:=h.1;have:=hs.m;exact⟨⟨O,h.2⟩,O,hs.r.2⟩
theorem ZxO{u}(h:eL u):eL (Z2 u):=by obtain⟨⟨d,r⟩,g⟩:=h;exact⟨⟨d,DT _ _ r⟩,pM _ g⟩
theorem iL.sem{e s u}(h:iL e)(hd:bX I e s=A u):Sem e s u:=wG _ e _ s u (Qa _) h.w.r hd
theorem mM.ed{i}(hi:i<=20){e s u}(h:mM i s)(he:H3 e)(hd:bX I e s=A u):iL e:=by have:=(wG _ e _ s u (Qa _) he.w.r hd).c;have:=he.b;have:=h.l;exact⟨he,O⟩
theorem mM.next{i e s u}(h:mM i s)(he:iL e)(hd:bX I e s=A u):mM (i+1) (Z2 u):=by have aE:=(he.sem hd).g;have:=he.a;have:=he.ct;have:=h.l;have:=h.m;have:=UF u;have:=ZX u;have:=pv I e _ s u he.w.r hd;exact⟨ZxO (Cm he.w.r h.r he.w.g hd),ZY u,O,O⟩
inductive eG(i:Nat):H->List W->H->Prop|nil{s}:mM i s->eG i s [] s|cons{s e u fs w}:mM i s->iL e->bX false e s=some u->eG i (Z2 u) fs w->eG i s (e::fs) w
theorem eG.E{i s w es}(h:eG i s es w):mM i s/\mM i w:=by induction h<;>grind
theorem eG.ok{i s w es}(h:eG i s es w):∀e∈es,iL e:=by induction h<;>grind
theorem eG.mono{i j s w es}(h:eG i s es w)(hj:i<=j):eG j s es w:=by induction h with|nil h=>exact .nil (h.mono hj)|cons h r d _ ih=>exact .cons (h.mono hj) r d ih
theorem GK{i es fs s w}:eG i s (es++fs) w↔∃m,eG i s es m/\eG i m fs w:=by
 constructor;.induction es generalizing s with
  |nil=>intro h;exact⟨s,.nil h.E.1,h⟩|cons e es ih=>intro h;cases h with|cons a b c d=>obtain⟨m,h1,h2⟩:=ih d;exact⟨m,.cons a b c h1,h2⟩
 .rintro⟨m,h1,h2⟩;induction h1 with|nil _=>exact h2|cons a b c _ ih=>exact .cons a b c (ih h2)
theorem vx{a b u}(h:bZ dG a b)(s:b=A u):∃v,a=A v/\dG v u:=by subst s;cases a with|none=>exact h.elim|some v=>exact⟨v,rfl,h⟩
theorem ZU2{i e f s u v}(he:iL e)(hf:iL f)(hs:mM i s)(hi:i<=20)(hu:bX I e s=A u)(hv:bX I f s=A v):(yP e f/\Lt e f)/\((gz e f).2.2=0->iL (gz e f).1/\iL (gz e f).2.1):=by
 have nw:∀{e:W},Wk e->Wk (Zd e):=λh=>.of (Jz _ _ h.r) (rE _ _ h.r h.g);obtain⟨u',ai,_⟩:=vx (oH e _ s he.w.r hs.r) hu;obtain⟨v',af,_⟩:=vx (oH f _ s hf.w.r hs.r) hv;have we:=nw he.w;have wf:=nw hf.w;have Se:=wG _ (Zd e) _ s u' (Qa _) we.r ai;have Sf:=wG _ (Zd f) _ s v' (Qa _) wf.r af;have a1:=pK (K:=iZ) e;have a2:=pK (K:=iZ) f;have b1:=pK (K:=jo) e;have b2:=pK (K:=jo) f;have:=he.a;have:=hf.a;have:=he.b;have:=hf.b;have:=hs.l;have te:=Se.t 130000 O;have tf:=Sf.t 130000 O;obtain⟨X0,Y0⟩:=ZOr (K:=iZ) (a:=130000) (b:=130000) V1 V1 V1 we wf te tf;obtain⟨X1,Y1⟩:=ZOr (K:=jo) (a:=130000) (b:=130000) V1 V1 V1 we wf te tf;obtain⟨ha,L⟩:=ZGz we wf s u' v' hs.r ai af;have ge:=Se.g;have gf:=Sf.g;have x0:=X0.ow;have y0:=Y0.ow;have x1:=X1.ow;have y1:=Y1.ow;have al:(dK (Zd e) (Zd f)).c=I->iL (dK (Zd e) (Zd f)).x/\iL (dK (Zd e) (Zd f)).y:=by
  intro c;obtain⟨w1,w2,g1,g2,_⟩:=L c;have Sy:=wG _ _ _ u' w1 (Qa _) Y0.wk.r g1;have Sx:=wG _ _ _ v' w2 (Qa _) X0.wk.r g2;have cx:=Sx.c;have cy:=Sy.c;exact⟨⟨⟨X0.wk,O,O⟩,O⟩,⟨⟨Y0.wk,O,O⟩,O⟩⟩
 have aj:(dN (Zd e) (Zd f)).a=I->(dN (Zd e) (Zd f)).c=I->ZR (dN (Zd e) (Zd f)).x/\ZR (dN (Zd e) (Zd f)).y:=by
  intro a c;have re:=wY he.re;have rf:=wY hf.re;have m1:=ZL re;have m2:=ZL rf;have aB:=ZyW _ (Zd e) (Zd f) _ _ (Qa _) (by have:=re.1;have:=rf.1;omega) we.r wf.r;obtain⟨RX,RY⟩:=ZWP (K:=jo) (a:=130000) (b:=130000) V1 V1 V1 _ _ _ (Qa _) we wf te tf;have rx:=RX.ow;have ry:=RY.ow;have c':=c;unfold dN at a c';rw[<-aB.a]at a;rw[<-aB.c a]at c';obtain⟨w1,w2,g1,g2,_⟩:=L c';have Ru:=Cm we.r hs.r we.g ai;have Rv:=Cm wf.r hs.r wf.g af;have cE:∀{l r:W}{s w:H},Wk l->Wk r->Zd l=Zd r->eL s->bX I l s=A w->iG jo r<=196800000->jW s<=130000->ZR r:=by intro l r s w wl wr e1 hs h1 h2 h3;obtain⟨y,hy,_⟩:=vx (oH l _ s wl.r hs) h1;rw[e1]at hy;obtain⟨z,hz,_⟩:=vx (ZAn (oH r _ s wr.r hs)) hy;have:=(wG _ r _ s z (Qa _) wr.r hz).c;have:=vO _ r (Qa _) ⟨_,wr.r⟩;exact⟨O,wr.g,-1,wr.r⟩
  exact⟨cE X0.wk RX.wk (aB.x a c').1 Rv g2 (QS rx O) O,cE Y0.wk RY.wk (aB.y a c').1 Ru g1 (QS ry O) O⟩
 refine⟨⟨⟨he.re,hf.re,λ_ c=>⟨(al c).1.re,(al c).2.re⟩⟩,he.re,hf.re,aj⟩,λh0=>?_⟩;have nE:∀{x:W},iL x->iL (Zd x):=λh=>⟨⟨nw h.w,QS (pK _) h.a,QS (pK _) h.b⟩,QS (I4 _) h.c⟩;grind[gz,dK,Zd,nE]
theorem ZFM{i}(hi:i<=20){t w es}(h:eG i t es w):∀{f z bB},iL f->bX I f t=A z->zi es f/\((mX es f bB).2=0->∃xs z',(mX es f bB).1.1=bB++xs/\eG (i+1) (Z2 z) xs (Z2 z')/\iL (mX es f bB).1.2/\bX I (mX es f bB).1.2 w=A z'/\J xs=J es):=by induction h with
 |nil hs=>intro f z bB hf hz;exact⟨trivial,λ_=>⟨[],z,by simp[mX],.nil (hs.next hf hz),hf,hz,rfl⟩⟩|cons hs he hu hp ih=>
  rename_i s e u fs w;intro f z bB hf hz;obtain⟨rb,k⟩:=ZU2 he hf hs hi hu hz;rcases ZQP rb.1 hs.r hu hz with c|⟨c,w1,w2,k1,k2,k3⟩
  .have hn:¬(gz e f).2.2=0:=by rw[c];decide
   refine⟨⟨rb,λh=>absurd h hn⟩,λh=>?_⟩<;>grind[mX]
  .obtain⟨ex,ey⟩:=k c;obtain⟨o,r⟩:=ih (bB:=bB++[(gz e f).1]) ey k1;refine⟨⟨rb,λ_=>o⟩,λh=>?_⟩;rw[mX,Q5 c]at h⊢;obtain⟨xs,z',r1,r2,r3,r4,r5⟩:=r h;have k3:Z2 w1=Z2 w2:=k3;rw[k3]at r2;exact⟨(gz e f).1::xs,z',by rw[r1];simp,.cons (hs.next hf hz) ex k2 r2,r3,r4,by simp[r5]⟩
theorem Zro{i}(hi:i<=20){e s u}(h:iL e)(hs:mM i s)(hu:bX I e s=A u):iL (Zd (Zm e))/\∃z,bX I (Zd (Zm e)) (Z2 u)=A z/\Z2 z=s:=by have ht:=hs.next h hu;obtain⟨z,h1,h2⟩:=Hc h.w.r h.w.g hs.r ht.r hu (show dG u (Z2 u)from(ZY u).symm);have h2:Z2 z=Z2 s:=h2;rw[hs.n]at h2;obtain⟨_,g,d,r⟩:=Uq h.re;have w:Wk (Zd (Zm e)):=.of r g;have aE:=wG _ _ _ (Z2 u) z (Qa _) w.r h1;have a1:=pK (K:=iZ) (Zm e);have b1:=pK (K:=jo) (Zm e);rw[WO]at a1 b1;have:=h.a;have:=h.b;have:=aE.c;have:=ht.l;exact⟨⟨⟨w,O,O⟩,O⟩,z,h1,h2⟩
theorem G6{e s}(h:(Yx e s).2=0):∃u,bX I e s=A u/\(Yx e s).1=Z2 u:=by grind[ZPt]
structure fL(i:Nat)(t:H)(h:bG):Prop where
 p:eG i t h.done h.cX
 g:∀e∈h.gone,iL e
 d:h.done.length<=i
 o:h.gone.length<=i
theorem fL.mono{i j t h}(k:fL i t h)(s:i<=j):fL j t h:=⟨k.p.mono s,k.g,QS k.d s,QS k.o s⟩
theorem ZH3{e}(h:Z3 e 64=Y)(s:Ye e)(hm:Z1 e<=3000):H3 (Zd e)/\ZR (Zd e):=by have a:=pK (K:=iZ) e;have b:=pK (K:=jo) e;have:=Wh e;have:=WE e;have:=qJ e;have:=ZqK e;exact⟨⟨.of (Jz _ _ h) (rE _ _ h s),O,O⟩,O,rE _ _ h s,_,Jz _ _ h⟩
theorem fL.act{i t h}(k:fL i t h){e}(s:iL e)(h0:(Yx e h.cX).2=0):eG (i+1) t (h.done++[e]) (Yx e h.cX).1:=by obtain⟨u,h1,h2⟩:=G6 h0;rw[h2];have n:=k.p.E.2.next s h1;exact GK.2 ⟨_,k.p.mono (Xy _),.cons (k.p.E.2.mono (Xy _)) s h1 (.nil n)⟩
theorem fL.do{i}(hi:i<=20){t h}(k:fL i t h){e}(he:Z3 e 64=Y->H3 (Zd e)):fL (i+1) t (jc e h).1:=by
 unfold jc;split
 .rename_i hr;split
  .rename_i s;have:=k.d;obtain⟨u,hu,_⟩:=G6 s;exact⟨k.act (k.p.E.2.ed hi (he hr) hu) s,λe h=>(by cases h),by simp;omega,X3 _⟩
  .exact k.mono (Xy _)
 .exact k.mono (Xy _)
theorem ZsV{l}(h:¬J l=0):l=l.take ( J l-1)++[iD l]:=by rcases List.eq_nil_or_concat l with rfl|⟨es,e,rfl⟩<;>grind[iD]
theorem fL.S5{i}(hi:i<=20){t h}(k:fL i t h):fL (i+1) t (JQ h).1:=by
 obtain⟨cX,done,gone⟩:=h;unfold JQ;split;.exact k.mono (Xy _)
 .rename_i hl;split
  .rename_i h0;have hp:=k.p;rw[ZsV hl]at hp;obtain⟨s,p1,p2⟩:=GK.1 hp;cases p2 with|cons a b c d=>rename_i u;cases d with|nil _=>
     obtain⟨_,z,z1,z2⟩:=Zro hi b a c;obtain⟨v,v1,v2⟩:=G6 h0;rw[z1]at v1;cases v1;have kd:=k.d;have ko:=k.o;dsimp only at kd ko;have hb:iL (iD done):=b;refine⟨?_,λe he=>?_,by simp;omega,by simp;omega⟩;.dsimp only;rw[v2,z2];exact p1.mono (Xy _)
     .rcases Qo.1 he with he|he;.exact k.g e he
      grind
  .exact k.mono (Xy _)
theorem fL.Sl{i t h}(k:fL i t h):fL (i+1) t (JM h).1:=by
 unfold JM;split;.exact k.mono (Xy _)
 .rename_i hl;split
  .rename_i h0;have s:iD h.gone∈h.gone:=by
    have e:=ZsV hl;have:iD h.gone∈h.gone.take ( J h.gone-1)++[iD h.gone]:=Xo _ (Qs.2 rfl);rw[<-e]at this;exact this
   have:=k.d;have:=k.o;exact⟨k.act (k.g _ s) h0,λe he=>k.g e (List.mem_of_mem_take he),by simp;omega,by simp;omega⟩
  .exact k.mono (Xy _)
theorem CM{k h}:xE k h=Y↔0<=k/\k<J h.done:=by grind[xE]
theorem ZDz{l}{k:Int}(s:0<=k)(h1:k<J l):l=l.take (G k)++aR l (G k) W.nil::l.drop (G (k+1)):=by
 have h:G k<J l:=O;have e:aR l (G k) W.nil=l[G k]:=by rw[Qr,Q8 h];try rfl
 rw[e,show G (k+1)=G k+1 by omega,<-QO h,QM]
theorem fL.drop{i}(hi:i<=20){t h}(v:fL i t h)(k):Gl k h/\fL (i+1) t (kN k h).1:=by
 have hd:=v.d;have ab:xE k h=Y->(iL (aR h.done (G k) W.nil)/\zi (h.done.drop (G (k+1))) (yU k h))/\((kY k h).2=0->iL (kY k h).1.2/\∃z',bX I (kY k h).1.2 h.cX=A z'/\eG (i+1) t (kY k h).1.1 (Z2 z')/\(kY k h).1.1.length<=i):=by
  intro hb;obtain⟨k0,k1⟩:=CM.1 hb;have hp:=v.p;have e:=ZDz k0 k1;rw[e]at hp;obtain⟨s,p1,p2⟩:=GK.1 hp;cases p2 with|cons a b c d=>
   obtain⟨ta,z,z1,z2⟩:=Zro hi b a c;have ta:iL (yU k h):=ta;have z1:bX I (yU k h) _=A z:=z1;obtain⟨o,m⟩:=ZFM hi d (bB:=h.done.take (G k)) ta z1;refine⟨⟨b,o⟩,λh0=>?_⟩;obtain⟨xs,z',r1,r2,r3,r4,r5⟩:=m h0;have r1:(kY k h).1.1=h.done.take (G k)++xs:=r1;rw[z2]at r2;refine⟨r3,z',r4,?_,?_⟩;.rw[r1];exact GK.2 ⟨s,p1.mono (Xy _),r2⟩
   grind
 refine⟨⟨λhb=>?_,O⟩,?_⟩
 .obtain⟨⟨k1,k2⟩,k3⟩:=ab hb;have:=ZL k1.re;exact⟨⟨O,k1.re.2.2⟩,k2,λh0=>MR (k3 h0).1.re v.p.E.2 O⟩
 .unfold kN;split
  .rename_i hb;split
   .rename_i h0;split;.rename_i hs;obtain⟨_,z',z1,z2,z3⟩:=(ab hb).2 h0;obtain⟨u,u1,u2⟩:=G6 hs;rw[z1]at u1;cases u1;refine⟨?_,λe he=>(by cases he),V2,Nat.zero_le _⟩<;>simp_all[Nat.zero_le]
    .exact v.mono (Xy _)
   .exact v.mono (Xy _)
  .exact v.mono (Xy _)
theorem ZAg{i s w es}(h:eG i s es w):∃z,nz es s=A z/\dG z w:=by induction h with|nil h=>exact⟨_,rfl,rfl⟩|cons a b c d ih=>rename_i s e u fs w;obtain⟨z,z1,z2⟩:=ih;have aI:=Hv (λe he=>⟨_,(d.ok e he).w.r⟩) (show dG u (Z2 u)from(ZY u).symm);obtain⟨y,y1,y2⟩:=vx aI z1;refine⟨y,?_,y2.trans z2⟩<;>grind[nz]
theorem P0{c}:∀{l},(∀e∈l,dZ e<=c)->oW l<=J l*c|[],_=>X3 _|e::r,h=>by have h1:=h e Q6;have h2:=P0 (l:=r) λx s=>h x (Q4 _ s);rw[oW,Qd,Xj];omega
theorem ZDy{i}(hi:i<=20){t h}(k:fL i (Z2 t) h)(ht:eL t):ZR (nY h.done).1/\∃u,bX I (nY h.done).1 t=A u/\dG u h.cX:=by obtain⟨z,z1,z2⟩:=ZAg k.p;have ok:=k.p.ok;have rd:∀e∈h.done,∃d,Z3 e d=Y:=λe s=>⟨_,(ok e s).w.r⟩;obtain⟨y,y1,y2⟩:=vx (Hv rd (show dG t (Z2 t)from(ZY t).symm)) z1;have c:=P0 (c:=210000000) λe s=>(ok e s).ct;have:=k.d;have c2:J h.done*210000000<=20*210000000:=Qx _ O;have cn:dZ W.nil=18:=rfl;have dn:∀t,bX I W.nil t=A t:=λt=>ng rfl t;obtain⟨j1,j2,_,j4⟩:=Zt2 h.done W.nil t Dd (λe s=>(ok e s).re) O ht (by rw[dn,Qp,y1];rfl);have aO:=j4 t ht;rw[dn,Qp]at aO;obtain⟨u,u1,u2⟩:=vx aO y1;obtain⟨_,g,d,r⟩:=id j2;obtain⟨v,v1,v2⟩:=vx (oH _ d t r ht) u1;unfold nY;rw[Q5 j1];exact⟨wY j2,v,v1,v2.trans (u2.trans (y2.trans z2))⟩
end Go.AM.YtpjenobkibfpcaaGreat
namespace Go.AM.YtpjenobkibfpcaaGreat
open Go.AM
theorem Zzj{l}{i:Int}(h0:0<=i)(h:i<J l):l.drop (G i)=aR l (G i) W.nil::l.drop (G (i+1)):=by have s:G i<J l:=O;rw[QO s,show G (i+1)=G i+1 by omega,Qr,Q8 s];try rfl
theorem Dx(t):H.mk t.D t.aS t.X=t:=by cases t;rfl
theorem ZOw(e):W.mk e.D (H.mk e.bH.D e.bH.aS e.bH.X) (H.mk e.new.D e.new.aS e.new.X) e.aS e.X e.V e.ops=e:=by rw[Dx,Dx];cases e;rfl
end Go.AM.YtpjenobkibfpcaaGreat
namespace Go.AM.YtpjenobkibfpcaaGreat
open Go.AM Go.Proofs
noncomputable def Cx(d:cM)(t:H):Bool:=( decide (d.D<0)||decide (3<d.D)||decide (0<=kD d.e 80 3000)&&(!Z3 d.e 64||pJ d.e))&&decide (0<=Y3 t 80 3000)
noncomputable def lz(d:cM)(h:bG):bG:=if 0<=d.D/\d.D<=3 then(jc d.e h).1 else if d.D=4\/d.D=5 then(JQ h).1 else if d.D=6 then(JM h).1 else if d.D=7 then(kN d.i h).1 else h
def TT(d:cM)(h:bG):Prop:=(0<=d.D->d.D<=3->(Z1 d.e<=18000000000/\Ye d.e)/\(Z3 d.e 64=Y->n9 (Zd d.e) h.cX))/\(∀e∈h.done,(Z1 e<=20000000000/\∃d,Z3 e d=Y)/\n9 (Zd (Zm e)) h.cX)/\(∀e∈h.gone,n9 e h.cX)/\Gl d.i h/\J h.done<=1000000000/\J h.gone<=1000000000
theorem fL.eF{i}(s:i<=20){t h}(v:fL i t h){d}(hd:0<=d.D->d.D<=3->Z1 d.e<=3000/\Ye d.e):TT d h/\fL (i+1) t (lz d h):=by
 have tr:=v.p.E.2;have vd:=v.d;have vo:=v.o;refine⟨⟨λa b=>?_,λe he=>?_,λe he=>MR (v.g e he).re tr O,(v.drop s d.i).1,O,O⟩,?_⟩;.obtain⟨m,g⟩:=hd a b;exact⟨⟨O,g⟩,λhr=>MR (ZH3 hr g m).2 tr O⟩
 .have re:=(v.p.ok e he).re;have:=ZL re;exact⟨⟨O,re.2.2⟩,MR (Uq re) tr O⟩
 .unfold lz;split;.rename_i k;exact v.do s λhr=>(ZH3 hr (hd k.1 k.2).2 (hd k.1 k.2).1).1
  split;.exact v.S5 s
  split;.exact v.Sl
  split;.exact(v.drop s d.i).2
  .exact v.mono (Xy _)
theorem ZDc{c}:∀{l},(∀e∈l,fv e<=c)->p_ l<=J l*c|[],_=>X3 _|e::r,h=>by have h1:=h e Q6;have h2:=ZDc (l:=r) λx s=>h x (Q4 _ s);rw[p_,Qd,Xj];omega
theorem ZQp{e f}(h:yP e f):gz e f=l7 e f:=by obtain⟨⟨s,h2⟩,_⟩:=Oe h;have m1:=ZL s;have m2:=ZL h2;obtain⟨_,d1,r1⟩:=s.2;obtain⟨_,d2,r2⟩:=h2.2;exact ZJr (by have:=s.1;have:=h2.1;omega) r1 r2
noncomputable section
def tF(a:tA):Prop:=J a.1<=10000000000
def Oq(a:tA):aA U:=.c (sU .aY a.1 (.bF (.r 0 0)))
def D5:Fs U:=fs Hl (λa=>[tF a]) Oq
def US(a:lV):Prop:=(kg a.1/\ei a.1)/\Zf a.1 64=Y/\H.D a.1≠10
def ZNG(a:lV):List (C U):=enc .aX (Z2 a.1)++[sU .aY ([]:List W) .bA,sU .aY ([]:List W) .bA]
def St:Fs U:=MD ov (λa=>[US a]) ZNG
def DA:cO oV:=.dU 0 (.cons (jv .i64) (.cons (ff .u64) (.cons (ff .aX) (.cons (ff .aY) (.cons (ff .aY) .nil))))) .nil
def zr(a:oV):Prop:=True
def ZNF(a:oV):aA U:=.agg (enc .aX (H.mk a.1.1 a.1.2.1 a.1.2.2.1))
def Aa(a:oV):List (List (C U)):=[[ci (H.D (H.mk a.1.1 a.1.2.1 a.1.2.2.1)),sU .u64 (H.aS (H.mk a.1.1 a.1.2.1 a.1.2.2.1)) .bA,sU .aX (H.X (H.mk a.1.1 a.1.2.1 a.1.2.2.1)) .bA,sU .aY a.1.2.2.2.1 .bA,sU .aY a.1.2.2.2.2.1 .bA]]
def Tz:Fs U:=fo DA (λa=>[zr a]) ZNF Aa
def ZNw(a:oV):aA U:=.tup [(I,[ci (J a.1.2.2.2.1)]),(I,[ci (J a.1.2.2.2.2.1)])]
def ZDI:Fs U:=fo DA (λa=>[zr a]) ZNw Aa
def ZSD:cO xj:=.dU 0 (.cons (jv .i64) (.cons (ff .u64) (.cons (ff .aX) (.cons (ff .aY) (.cons (ff .aY) .nil))))) (.cons (fe .aY) .nil)
def EV(a:xj):Prop:=n9 a.2.1 (H.mk a.1.1 a.1.2.1 a.1.2.2.1)
def ZNt(a:xj):aA U:=.c (ci (Yx a.2.1 (H.mk a.1.1 a.1.2.1 a.1.2.2.1)).2)
def ZEa(a:xj):List (List (C U)):=[enc .aX (Yx a.2.1 (H.mk a.1.1 a.1.2.1 a.1.2.2.1)).1++[sU .aY a.1.2.2.2.1 .bA,sU .aY a.1.2.2.2.2.1 .bA]]
def Ex:Fs U:=fo ZSD (λa=>[EV a]) ZNt ZEa
abbrev A84(p):=AW (Za cQ) Tryz.f84 FI p
theorem ZWz(l:List W)(Q:QT)(h:( l=[]->Q .ret (L2 [(2,.c .nils)] []))/\(True->( J ([]:List W)+J l)*200<=140737488355328/\Q .ret (L2 [(2,.c (sU .aY (([]:List W)++l) (.bF (.e 2 0))))] []))):A84 [] (L2 [(0,.c (sU .aY l .bA))] []) Q:=Eq.mpr V4 h
def ZR5:List (FuncId×Fs U):=[(82,Zji),(75,Pz)]
def ZX6:Zb U:=cI [[1,501],[10],[1,2,10,501],[514]]
def ZUg:Zb U:=cI [[0,2,502,900],[4],[0,4],[]]
abbrev A35(p):=AW (Za cQ) Tryz.f35 ZUg p
theorem ZWH(hk)(s:List Int)(L:List H)(hd hg:List W)(Q:QT)(h:iB I (Q .ret (L2 [pL 2] [(.bE 2,[ci 0,.nils,.nils]),(.x 0,[ci hk,sU .u64 s .bA,sU .aX L .bA,sU .aY hd .bA,sU .aY hg .bA])])) (Q .ret (L2 [pL 2] [(.bE 2,[ci hk,sU .u64 s .bA,sU .aX L .bA]),(.x 0,[ci hk,sU .u64 s .bA,sU .aX L .bA,sU .aY hd .bA,sU .aY hg .bA])]))):A35 [] (L2 [(0,.ptr (.x 0) 0)] [(.x 0,[ci hk,sU .u64 s .bA,sU .aX L .bA,sU .aY hd .bA,sU .aY hg .bA])]) Q:=Eq.mpr V4 h
def ZUd:Zb U:=cI [[0,900],[5],[0,2,3,5],[]]
abbrev A46(p):=AW (Za cQ) Tryz.f46 ZUd p
theorem ZWC(hk)(hw:List Int)(L:List H)(s hg:List W)(Q:QT)(h:iB I (Q .ret (L2 [pI 2 0,pI 3 0] [(.x 0,[ci hk,sU .u64 hw .bA,sU .aX L .bA,sU .aY s .bA,sU .aY hg .bA])])) (Q .ret (L2 [pI 2 (J s),pI 3 (J hg)] [(.x 0,[ci hk,sU .u64 hw .bA,sU .aX L .bA,sU .aY s .bA,sU .aY hg .bA])]))):A46 [] (L2 [(0,.ptr (.x 0) 0)] [(.x 0,[ci hk,sU .u64 hw .bA,sU .aX L .bA,sU .aY s .bA,sU .aY hg .bA])]) Q:=Eq.mpr V4 h
def ZQW:List (FuncId×Fs U):=[(25,Be),(82,Un)]
def ZWX:Zb U:=cI [[0,3,503,900],[3,5,6,503,505],[6,16],[0,4,5,16,505],[0,4,5,19,505],[0,4,5,19,505],[4],[4]]
end
noncomputable section
def W3(a:xj):Prop:=((Z1 a.2.1<=18000000000/\Ye a.2.1)/\(Z3 a.2.1 64=Y->n9 (Zd a.2.1) (H.mk a.1.1 a.1.2.1 a.1.2.2.1)))/\J a.1.2.2.2.1<=1000000000
def ZNE(a:xj):aA U:=.c (ci (jc a.2.1 (bG.mk (H.mk a.1.1 a.1.2.1 a.1.2.2.1) a.1.2.2.2.1 a.1.2.2.2.2.1)).2)
def ZEj(a:xj):List (List (C U)):=[enc .aX (bG.cX (jc a.2.1 (bG.mk (H.mk a.1.1 a.1.2.1 a.1.2.2.1) a.1.2.2.2.1 a.1.2.2.2.2.1)).1)++[sU .aY (bG.done (jc a.2.1 (bG.mk (H.mk a.1.1 a.1.2.1 a.1.2.2.1) a.1.2.2.2.1 a.1.2.2.2.2.1)).1) .bA,sU .aY (bG.gone (jc a.2.1 (bG.mk (H.mk a.1.1 a.1.2.1 a.1.2.2.1) a.1.2.2.2.1 a.1.2.2.2.2.1)).1) .bA]]
def PA:Fs U:=fo ZSD (λa=>[W3 a]) ZNE ZEj
def RM(a:oV):Prop:=(∀e∈a.1.2.2.2.1,(Z1 e<=20000000000/\∃d,Z3 e d=Y)/\n9 (Zd (Zm e)) (H.mk a.1.1 a.1.2.1 a.1.2.2.1))/\J a.1.2.2.2.1<=1000000000/\J a.1.2.2.2.2.1<=1000000000
def ZND(a:oV):aA U:=.c (.bool (JQ (bG.mk (H.mk a.1.1 a.1.2.1 a.1.2.2.1) a.1.2.2.2.1 a.1.2.2.2.2.1)).2)
def ZEi(a:oV):List (List (C U)):=[enc .aX (bG.cX (JQ (bG.mk (H.mk a.1.1 a.1.2.1 a.1.2.2.1) a.1.2.2.2.1 a.1.2.2.2.2.1)).1)++[sU .aY (bG.done (JQ (bG.mk (H.mk a.1.1 a.1.2.1 a.1.2.2.1) a.1.2.2.2.1 a.1.2.2.2.2.1)).1) .bA,sU .aY (bG.gone (JQ (bG.mk (H.mk a.1.1 a.1.2.1 a.1.2.2.1) a.1.2.2.2.1 a.1.2.2.2.2.1)).1) .bA]]
def Vp:Fs U:=fo DA (λa=>[RM a]) ZND ZEi
def Pc(a:oV):Prop:=(∀e∈a.1.2.2.2.2.1,n9 e (H.mk a.1.1 a.1.2.1 a.1.2.2.1))/\J a.1.2.2.2.1<=1000000000/\J a.1.2.2.2.2.1<=1000000000
def ZNC(a:oV):aA U:=.c (.bool (JM (bG.mk (H.mk a.1.1 a.1.2.1 a.1.2.2.1) a.1.2.2.2.1 a.1.2.2.2.2.1)).2)
def ZEh(a:oV):List (List (C U)):=[enc .aX (bG.cX (JM (bG.mk (H.mk a.1.1 a.1.2.1 a.1.2.2.1) a.1.2.2.2.1 a.1.2.2.2.2.1)).1)++[sU .aY (bG.done (JM (bG.mk (H.mk a.1.1 a.1.2.1 a.1.2.2.1) a.1.2.2.2.1 a.1.2.2.2.2.1)).1) .bA,sU .aY (bG.gone (JM (bG.mk (H.mk a.1.1 a.1.2.1 a.1.2.2.1) a.1.2.2.2.1 a.1.2.2.2.2.1)).1) .bA]]
def RO:Fs U:=fo DA (λa=>[Pc a]) ZNC ZEh
def ZTY(a:Unit):aA U:=.c (.bool Y)
def Sr:Fs U:=fs ZMf (λa=>[pz a]) ZTY
def ZR4:List (FuncId×Fs U):=[(28,ZDP),(67,oe),(83,Ex),(84,D5)]
def ZX5:Zb U:=cI [[0,3,503,900],[6],[0,3,4,6,503],[0,3,4,9,503],[0,3,4,9,503],[0,3,4,503],[5],[19],[0,3,4,5,19,503],[4],[4]]
def ZR3:List (FuncId×Fs U):=[(83,Ex),(84,D5),(85,sR)]
def ZX4:Zb U:=cI [[0,900],[14],[0,2,14],[0,2,3],[4,504],[32],[0,2,3,4,32,504],[2],[2]]
def ZR2:List (FuncId×Fs U):=[(83,Ex),(84,D5)]
def ZX3:Zb U:=cI [[0,900],[14],[0,2,14],[0,2,3],[4,504],[31],[0,2,3,4,31,504],[2],[2]]
def ZR6:List (FuncId×Fs U):=[(33,St),(35,Tz),(36,PA),(37,Vp),(38,RO)]
def ZX7:Zb U:=cI [[],[1,509],[2],[3],[4,504],[5],[1,6,506,509],[0,2,3,4,5,6,504,506]]
end
theorem FL:aU Tryz.prog M 84 D5:=by
 refine kF (l:=cQ) trivial FI Tryz.func84 1 λ⟨l,_⟩s=>?_;simp only[tF]at s;refine ZWz _ _ ⟨λh=>?_,λ_=>⟨by simp only[Ql];omega,?_⟩⟩;.subst h;simp only[Oq];exact V0
 .simp only[Oq,Qn];exact V0
mutual theorem ZiR:∀(t:H)(d:Int),Zf t d=Y->yr t
 |.mk k w ks,d,h=>by
  have z:J ks=0->C2 ks:=λh=>by rw[X4.1 h];trivial
  simp only[Zf]at h;simp only[yr];split at h;.rw[Qh]at h;exact⟨O,O,z h.2⟩
  split at h;.rw[Qh]at h;exact⟨O,O,z h.2⟩
  split at h;.cases h
  split at h;.rw[Q9,Qh]at h;exact⟨O,O,RI ks 1 _ h.2⟩
  .rw[Q9,Qh]at h;exact⟨O,O,RI ks k _ h.2⟩theorem RI:∀(l:List H)(V d:Int),YR V l d=Y->C2 l|[],_,_,_=>trivial|t::r,V,d,h=>by simp only[YR,Q9]at h;exact⟨ZiR t d h.1.2,RI r V d h.2⟩end
theorem c33:aU Tryz.prog M 33 St:=by
 refine Zlm (l:=ZR5) ZN rfl ⟨Sv,Vr,trivial⟩ ZX6 Tryz.func33 rfl rfl 1 (λ_=>rfl) V1 λ⟨t,_⟩hp=>?_;obtain⟨⟨h1,h2⟩,s,h4⟩:=hp;dsimp only at h1 h2 s h4;refine wV (λQ=>let z0:=H.mk t.D t.aS t.X;Uk (z0,())/\Tk 2 (! ! Zf z0 64) (((! Zf z0 64)=I->(! ! Zf z0 64)=Y)/\iB (bif ! Zf z0 64 then Y else t.D==10) (Q .ret (L2 [(2,.c .nilp)] [])) ( xF (z0,())/\Q .ret (L2 [(2,.ptr (.bE 14) 0)] [(.bE 14,enc .aX (Z2 z0)++[.nils,.nils])])))) ?_ λ_ h=>Eq.mpr V4 h;(simp only[vE]);(simp only[iB,bR,bW]);refine⟨⟨h1,h2⟩,λh=>?_,λ_=>⟨ZiR _ _ s,?_⟩⟩
 .rcases h with h|h;.rw[s]at h;cases h
  .exact absurd h h4
 .simp only[ZNG];exact V0
theorem c35:aU Tryz.prog M 35 Tz:=by refine kX (l:=cQ) trivial ZUg Tryz.func35 1 λ⟨⟨hk,hw,L,hd,s,_⟩,_⟩_=>?_;refine ZWH _ _ _ _ _ _ ⟨(λh=>by cases h),λ_=>?_⟩;simp only[ZNF,Aa];exact V0
theorem c46:aU Tryz.prog M 46 ZDI:=by refine kX (l:=cQ) trivial ZUd Tryz.func46 1 λ⟨⟨hk,hw,L,hd,s,_⟩,_⟩_=>?_;refine ZWC _ _ _ _ _ _ ⟨(λh=>by cases h),λ_=>?_⟩;simp only[ZNw,Aa];exact V0
theorem IS:aU Tryz.prog M 83 Ex:=by
 refine kX (l:=ZQW) ⟨Ay,Pm,trivial⟩ ZWX Tryz.func83 2 λ⟨⟨hk,hw,L,hd,hg,_⟩,e,_⟩hp=>?_;obtain⟨⟨h1,h2,d,h3⟩,h4,h5⟩:=hp;dsimp only at h1 h2 h3 h4 h5;refine wV (λQ=>∀af,af=e->∀ah,ah=YH ((bX I af (H.mk hk hw L)).map Z2)->let z0:=bX I af (H.mk hk hw L);gg (af,H.mk hk hw L,())/\iB (! z0.isSome) (Q .ret (L2 [pI 4 13] [(.x 0,[ci hk,sU .u64 hw .bA,sU .aX L .bA,sU .aY hd .bA,sU .aY hg .bA])])) ( tJ (ah,())/\iB (! Zf ah 64) (Q .ret (L2 [pI 4 3] [(.x 0,[ci hk,sU .u64 hw .bA,sU .aX L .bA,sU .aY hd .bA,sU .aY hg .bA])])) (Q .ret (L2 [pI 4 0] [(.x 0,enc .aX (YH (z0.map Z2))++[sU .aY hd .bA,sU .aY hg .bA])])))) ?_ λ_ h=>Eq.mpr V4 (h _ (Z0 _) _ (Z7 _));rintro y1 rfl y2 e2;(simp only[iB,bR,bW]);have cC:∀{r:H×Int}{s:bT U},Yx y1 (.mk hk hw L)=r->ZB M Tryz.f83.ntmps Tryz.f83.results.toList (.c (.int .i64 r.2)) [[.int .i64 r.1.D,.slice .u64 r.1.aS .bA,.slice .aX r.1.X .bA,.slice .aY hd .bA,.slice .aY hg .bA]] .ret s->ZB M Tryz.f83.ntmps Tryz.f83.results.toList (ZNt ((hk,hw,L,hd,hg,()),y1,())) (ZEa ((hk,hw,L,hd,hg,()),y1,())) .ret s:=by intro r s h hs;subst h;exact hs
 refine⟨⟨⟨h1,h2,d,h3⟩,V2,h5⟩,λhn=>?_,λhs=>?_⟩;.cases hu:bX I y1 (.mk hk hw L)with|some u=>rw[hu]at hn;cases hn|none=>exact cC (r:=(.mk hk hw L,13)) (by unfold Yx;rw[hu]) V0
 .obtain⟨u,hu⟩:=ZDW hs;have e3:y2=Z2 u:=by rw[e2,hu];try rfl
  rw[e3];have hm:=pv I _ d _ _ h3 hu;have ax:=ZX u;refine⟨⟨V2,pM _ (uf I _ _ _ h2 h5 hu)⟩,λhr=>?_,λhr=>?_⟩;.exact cC (r:=(.mk hk hw L,3)) (by unfold Yx;rw[hu];exact if_neg (by rw[hr];decide)) V0
  .rw[hu];exact cC (r:=(Z2 u,0)) (Du hu hr) V0
theorem c36:aU Tryz.prog M 36 PA:=by
 refine kX (l:=ZR4) ⟨c28,Ct.1,IS,FL,trivial⟩ ZX5 Tryz.func36 2 λ⟨⟨hk,hw,L,hd,hg,_⟩,e,_⟩hp=>?_;obtain⟨⟨h1,h2⟩,h3⟩:=hp;dsimp only at h1 h2 h3;refine wV (λQ=>∀ah,ah=e->∀af,af=Zd ah->let z0:=Yx af (H.mk hk hw L);iB I (Q .ret (L2 [pI 4 1] [(.x 0,[ci hk,sU .u64 hw .bA,sU .aX L .bA,sU .aY hd .bA,sU .aY hg .bA])])) ( ZFa (ah,())/\iB (! Z3 ah 64) (Q .ret (L2 [pI 4 2] [(.x 0,[ci hk,sU .u64 hw .bA,sU .aX L .bA,sU .aY hd .bA,sU .aY hg .bA])])) ( fg (ah,())/\EV ((hk,hw,L,hd,hg,()),af,())/\iB (( z0.2:Int)!=0) (Q .ret (L2 [pI 4 z0.2] [(.x 0,enc .aX z0.1++[sU .aY hd .bA,sU .aY hg .bA])])) ( tF (hd,())/\( J hd+J [af])*200<=140737488355328/\Q .ret (L2 [pI 4 0] [(.x 0,enc .aX z0.1++[sU .aY (hd++[af]) (.bF (.x 0 3)),.nils])]))))) ?_ λ_ h=>Eq.mpr V4 (h _ (Z0 _) _ (Z0 _));rintro y1 rfl y2 rfl;(simp only[iB,bR,bW]);have cC:∀{r:bG×Int}{s:bT U},jc y1 ⟨.mk hk hw L,hd,hg⟩=r->ZB M Tryz.f36.ntmps Tryz.f36.results.toList (.c (.int .i64 r.2)) [[.int .i64 r.1.cX.D,.slice .u64 r.1.cX.aS .bA,.slice .aX r.1.cX.X .bA,.slice .aY r.1.done .bA,.slice .aY r.1.gone .bA]] .ret s->ZB M Tryz.f36.ntmps Tryz.f36.results.toList (ZNE ((hk,hw,L,hd,hg,()),y1,())) (ZEj ((hk,hw,L,hd,hg,()),y1,())) .ret s:=by intro r s h hs;subst h;exact hs
 refine⟨(λh=>by cases h),h1,λhr=>?_,λhr=>?_⟩;.exact cC (r:=(⟨.mk hk hw L,hd,hg⟩,2)) (by unfold jc;exact if_neg (by rw[hr];decide)) V0
 .refine⟨⟨V2,64,hr⟩,h2 hr,λh0=>?_,λh0=>⟨by dsimp only[tF];omega,by simp only[List.length_cons,List.length_nil];omega,?_⟩⟩;.rw[uT h0];exact cC (r:=(⟨.mk hk hw L,hd,hg⟩,(Yx (Zd y1) (.mk hk hw L)).2)) (by unfold jc;rw[if_pos hr];exact if_neg h0) V0
  .exact cC (r:=(⟨(Yx (Zd y1) (.mk hk hw L)).1,hd++[Zd y1],[]⟩,0)) (by unfold jc;rw[if_pos hr];exact if_pos h0) V0
theorem GQ(l):aR l (G ((J l)-1)) W.nil=iD l:=by unfold iD;congr 1;omega
theorem LB{l}(h:J l≠0):iD l∈l:=Zh O _
theorem c37:aU Tryz.prog M 37 Vp:=by
 refine kX (l:=ZR3) ⟨IS,FL,Eg,trivial⟩ ZX4 Tryz.func37 1 λ⟨⟨hk,hw,L,hd,hg,_⟩,_⟩hp=>?_;obtain⟨h1,h2,h3⟩:=hp;dsimp only at h1 h2 h3;refine wV (λQ=>∀ak,ak=List.getD hd (Int.toNat ((( J hd:Int):Int)-1)) W.nil->∀ab,ab=ak->∀ah,ah=Zd (Zm ab)->let z0:=Yx ah (H.mk hk hw L);Tk 5 (!false) ((I=I->(!false)=Y)/\iB (bif I then Y else(( J hd:Int):Int)==0) (Q .ret (L2 [pB 2 I] [(.x 0,[ci hk,sU .u64 hw .bA,sU .aX L .bA,sU .aY hd .bA,sU .aY hg .bA])])) ( bQ ((( J hd:Int):Int)-1)/\((0:Int)<=(( J hd:Int):Int)-1/\(( J hd:Int):Int)-1<( J hd:Int))/\fg (ab,())/\EV ((hk,hw,L,hd,hg,()),ah,())/\iB (( z0.2:Int)!=0) (Q .ret (L2 [pB 2 I] [(.x 0,enc .aX z0.1++[sU .aY hd .bA,sU .aY hg .bA])])) (((0:Int)<=(( J hd:Int):Int)-1/\(( J hd:Int):Int)-1<=( J hd:Int))/\(( J hd:Int):Int)-1=(( J hd:Int):Int)-1/\tF (hg,())/\( J hg+J [ab])*200<=140737488355328/\Q .ret (L2 [pB 2 Y] [(.x 0,enc .aX z0.1++[sU .aY (List.take (Int.toNat ((( J hd:Int):Int)-1)) hd) .cU,sU .aY (hg++[ab]) (.bF (.x 0 4))])]))))) ?_ λ_ h=>Eq.mpr V4 (h _ rfl _ (Z0 _) _ (Z0 _));rintro y1 ai y2 rfl y3 rfl;rw[GQ]at ai;subst ai;(simp only[iB,bR,bW]);have cC:∀{r:bG×Bool}{s:bT U},JQ ⟨.mk hk hw L,hd,hg⟩=r->ZB M Tryz.f37.ntmps Tryz.f37.results.toList (.c (.bool r.2)) [[.int .i64 r.1.cX.D,.slice .u64 r.1.cX.aS .bA,.slice .aX r.1.cX.X .bA,.slice .aY r.1.done .bA,.slice .aY r.1.gone .bA]] .ret s->ZB M Tryz.f37.ntmps Tryz.f37.results.toList (ZND ((hk,hw,L,hd,hg,()),())) (ZEi ((hk,hw,L,hd,hg,()),())) .ret s:=by intro r s h hs;subst h;exact hs
 have aj:¬( J hd:Int)=0->iD hd∈hd:=λh=>LB O;refine⟨λh=>?_,λh=>⟨V3,⟨O,O⟩,(h1 _ (aj h)).1,(h1 _ (aj h)).2,λh0=>?_,λh0=>⟨⟨O,O⟩,by dsimp only[tF];omega,by simp only[List.length_cons,List.length_nil];omega,?_⟩⟩⟩
 .have h:J hd=0:=by rcases h with h|h;cases h;omega
  exact cC (r:=(⟨.mk hk hw L,hd,hg⟩,I)) (by unfold JQ;exact if_pos h) V0
 .rw[uT h0];exact cC (r:=(⟨.mk hk hw L,hd,hg⟩,I)) (by unfold JQ;rw[if_neg V2];exact if_neg h0) V0
 .rw[show G (( J hd:Int)-1)=J hd-1 by omega];exact cC (r:=(⟨(Yx (Zd (Zm (iD hd))) (.mk hk hw L)).1,hd.take ( J hd-1),hg++[iD hd]⟩,Y)) (by unfold JQ;rw[if_neg V2];exact if_pos h0) V0
theorem c38:aU Tryz.prog M 38 RO:=by
 refine kX (l:=ZR2) ⟨IS,FL,trivial⟩ ZX3 Tryz.func38 1 λ⟨⟨hk,hw,L,hd,hg,_⟩,_⟩hp=>?_;obtain⟨h1,h2,h3⟩:=hp;dsimp only at h1 h2 h3;refine wV (λQ=>∀ai,ai=List.getD hg (Int.toNat ((( J hg:Int):Int)-1)) W.nil->∀ab,ab=ai->let z0:=Yx ab (H.mk hk hw L);Tk 5 (!false) ((I=I->(!false)=Y)/\iB (bif I then Y else(( J hg:Int):Int)==0) (Q .ret (L2 [pB 2 I] [(.x 0,[ci hk,sU .u64 hw .bA,sU .aX L .bA,sU .aY hd .bA,sU .aY hg .bA])])) ( bQ ((( J hg:Int):Int)-1)/\((0:Int)<=(( J hg:Int):Int)-1/\(( J hg:Int):Int)-1<( J hg:Int))/\EV ((hk,hw,L,hd,hg,()),ab,())/\iB (( z0.2:Int)!=0) (Q .ret (L2 [pB 2 I] [(.x 0,enc .aX z0.1++[sU .aY hd .bA,sU .aY hg .bA])])) ( tF (hd,())/\( J hd+J [ab])*200<=140737488355328/\((0:Int)<=(( J hg:Int):Int)-1/\(( J hg:Int):Int)-1<=( J hg:Int))/\(( J hg:Int):Int)-1=(( J hg:Int):Int)-1/\Q .ret (L2 [pB 2 Y] [(.x 0,enc .aX z0.1++[sU .aY (hd++[ab]) (.bF (.x 0 3)),sU .aY (List.take (Int.toNat ((( J hg:Int):Int)-1)) hg) .cU])]))))) ?_ λ_ h=>Eq.mpr V4 (h _ rfl _ (Z0 _));rintro y1 ah y2 rfl;rw[GQ]at ah;subst ah;(simp only[iB,bR,bW]);have cC:∀{r:bG×Bool}{s:bT U},JM ⟨.mk hk hw L,hd,hg⟩=r->ZB M Tryz.f38.ntmps Tryz.f38.results.toList (.c (.bool r.2)) [[.int .i64 r.1.cX.D,.slice .u64 r.1.cX.aS .bA,.slice .aX r.1.cX.X .bA,.slice .aY r.1.done .bA,.slice .aY r.1.gone .bA]] .ret s->ZB M Tryz.f38.ntmps Tryz.f38.results.toList (ZNC ((hk,hw,L,hd,hg,()),())) (ZEh ((hk,hw,L,hd,hg,()),())) .ret s:=by
  intro r s h hs;subst h;exact hs
 have ak:¬( J hg:Int)=0->iD hg∈hg:=λh=>LB O;refine⟨λh=>?_,λh=>⟨V3,⟨O,O⟩,h1 _ (ak h),λh0=>?_,λh0=>⟨by dsimp only[tF];omega,by simp only[List.length_cons,List.length_nil];omega,⟨O,O⟩,?_⟩⟩⟩
 .have h:J hg=0:=by rcases h with h|h;cases h;omega
  exact cC (r:=(⟨.mk hk hw L,hd,hg⟩,I)) (by unfold JM;exact if_pos h) V0
 .rw[uT h0];exact cC (r:=(⟨.mk hk hw L,hd,hg⟩,I)) (by unfold JM;rw[if_neg V2];exact if_neg h0) V0
 .rw[show G (( J hg:Int)-1)=J hg-1 by omega];exact cC (r:=(⟨(Yx (iD hg) (.mk hk hw L)).1,hd++[iD hg],hg.take ( J hg-1)⟩,Y)) (by unfold JM;rw[if_neg V2];exact if_pos h0) V0
def nr(n:Int):H:=.mk 1 [n] []
def mI:W:=.mk 2 H.nil H.nil [⟨0,1,1,2⟩] [] 0 []
theorem ZE0:bX I mI (nr 1)=A (nr 2):=by unfold mI nr;rw[FQ,Q5 (show(H.mk 1 [1] []).D=1 from rfl)];try rfl
theorem s7:ZR mI/\Z3 mI 64=Y/\Zd mI=mI:=by
 have z:=oC;have i0:bQ 0:=YI V1 V1;refine⟨⟨V1,⟨YI V1 V1,z,z,λw h=>?_,i0,trivial,trivial⟩,64,rfl⟩,rfl,?_⟩;.rw[Qs.1 h];exact⟨YI V1 V1,⟨V1,V1⟩,⟨V1,V1⟩,⟨V1,V1⟩⟩
 .unfold mI;rw[RQ];try rfl
theorem ZOF{n}(h:n=1\/n=2):kH (nr n):=by
 have g:∀n:Int,iU n->ei (nr n):=λn hw=>⟨YI V1 V1,λx s=>by rw[Qs.1 s];exact hw,trivial⟩;rcases h with rfl|rfl;.exact⟨rfl,g 1 ⟨V1,V1⟩,rfl,V1⟩
 .exact⟨rfl,g 2 ⟨V1,V1⟩,rfl,V1⟩
theorem c32:aU Tryz.prog M 32 Sr:=by
 refine kF (l:=ZR6) ⟨c33,c35,c36,c37,c38,trivial⟩ ZX7 Tryz.func32 0 λ_ _=>?_;refine wV (λQ=>∀ak,ak=Z2 (H.mk 1 [1] [])->∀ah,ah=W.mk 2 (H.mk 0 [] []) (H.mk 0 [] []) [aV.mk 0 1 1 2] [] 0 []->∀al,al=bG.cX (jc ah (bG.mk ak ([]:List W) ([]:List W))).1->∀ai,ai=bG.done (jc ah (bG.mk ak ([]:List W) ([]:List W))).1->∀af,af=bG.gone (jc ah (bG.mk ak ([]:List W) ([]:List W))).1->∀aj,aj=al->∀ab,ab=bG.cX (JQ (bG.mk aj ai af)).1->∀ar,ar=ab->∀aq,aq=List.getD ab.aS (Int.toNat 0) (0:Int)->∀aa,aa=bG.mk ar (bG.done (JQ (bG.mk aj ai af)).1) (bG.gone (JQ (bG.mk aj ai af)).1)->∀ae,ae=bG.cX (JM aa).1->let z6:=bG.cX (JM aa).1;let z5:=H.mk 1 [1] [];let z4:=( (jc ah (bG.mk ak ([]:List W) ([]:List W))).2:Int)==0;let z3:=JQ (bG.mk aj ai af);let z2:=bif z4 then z3.2 else I;let z7:=bif z2 then(JM aa).2 else I;let z0:=bif z7 then(( J ab.aS:Int):Int)==1 else I;let z8:=bif z0 then aq==1 else I;let z1:=bif z8 then(( J ae.aS:Int):Int)==1 else I;US (z5,())/\W3 (( H.D (Z2 z5),H.aS (Z2 z5),H.X (Z2 z5),([]:List W),([]:List W),()),ah,())/\RM ((al.D,al.aS,al.X,ai,af,()),())/\zr (( H.D (bG.cX z3.1),H.aS (bG.cX z3.1),H.X (bG.cX z3.1),bG.done z3.1,bG.gone z3.1,()),())/\Pc (( H.D ab,H.aS ab,H.X ab,bG.done z3.1,bG.gone z3.1,()),())/\zr (( H.D z6,H.aS z6,H.X z6,bG.done (JM aa).1,bG.gone (JM aa).1,()),())/\Tt z4/\Tt z2/\Tk 4 z7 (Tk 2 z0 ((z0=Y->(0:Int)<=0/\0<( J ab.aS:Int))/\Tk 3 z0 (Tk 4 z8 (Tk 2 z1 ((z1=Y->(0:Int)<=0/\0<( J ae.aS:Int))/\Tk 3 z1 (Q .ret (L2 [(0,.c (.bool (bif z1 then( List.getD ae.aS (Int.toNat 0) (0:Int):Int)==2 else I)))] [])))))))) ?_ λ_ h=>Eq.mpr V4 (h _ (Z7 _) _ rfl _ rfl _ rfl _ rfl _ (Z7 _) _ (Z7 _) _ (Z7 _) _ rfl _ rfl _ (Z7 _));rintro y1 e1 y2 e2 y3 e3 y4 e4 y5 e5 y6 rfl y7 e7 y8 rfl y9 e9 a5 am a3 ao;have s1:=ZOF (n:=1) (.inl rfl);have s2:=ZOF (n:=2) (.inr rfl);have P:ia (nr 1) [mI] (nr 2):=.cons s1 s7.1 ZE0 (.nil s2);have d:jc mI ⟨nr 1,[],[]⟩=(⟨nr 2,[mI],[]⟩,0):=by unfold jc;rw[Q5 s7.2.1,s7.2.2,Du ZE0 s2.r,Q5 rfl];try rfl
 have u:JQ ⟨nr 2,[mI],[]⟩=(⟨nr 1,[],[mI]⟩,Y):=by obtain⟨s,h1,_,h2⟩:=ZzM (es:=[]) (gs:=[]) P;cases h1;exact h2
 have r:JM ⟨nr 1,[],[mI]⟩=(⟨nr 2,[mI],[]⟩,Y):=by obtain⟨m,h1,h3,h2⟩:=ZA7 (es:=[]) (gs:=[]) P;cases h3;exact h2
 have e1:y1=nr 1:=e1;have e2:y2=mI:=e2;subst e1 e2;rw[d]at e3 e4 e5⊢;subst e3 e4 e5;dsimp only at e7 am⊢;rw[u]at e7 am⊢;subst e7;dsimp only at e9 am⊢;subst am;rw[r]at ao⊢;subst ao e9;refine⟨⟨⟨IF _ V1,s1.g⟩,rfl,V1⟩,⟨⟨⟨V1,s7.1.2.1⟩,λ_=>?_⟩,V1⟩,⟨λe he=>?_,V1,V1⟩,trivial,⟨λe he=>?_,V1,V1⟩,trivial,?_⟩;.show n9 (Zd mI) (nr 1);rw[s7.2.2];exact We s7.1 s1
 .rw[Qs.1 he];have:=ZL s7.1;exact⟨⟨O,64,s7.2.1⟩,We (Uq s7.1) s2⟩
 .rw[Qs.1 he];exact We s7.1 s1
 .simp only[Tr];repeat'(first|exact λx=>x|exact λ_=>⟨V1,V1⟩|exact Z9 rfl rfl|apply And.intro)
noncomputable section
def ZSP:cO HU:=.dU 0 (.cons (jv .i64) (.cons (ff .u64) (.cons (ff .aX) (.cons (ff .aY) (.cons (ff .aY) .nil))))) (.cons (J1 .i64) .nil)
def ZO1(a:HU):Prop:=Gl a.2.1 (bG.mk (H.mk a.1.1 a.1.2.1 a.1.2.2.1) a.1.2.2.2.1 a.1.2.2.2.2.1)
def ZNB(a:HU):aA U:=.c (ci (kN a.2.1 (bG.mk (H.mk a.1.1 a.1.2.1 a.1.2.2.1) a.1.2.2.2.1 a.1.2.2.2.2.1)).2)
def ZEg(a:HU):List (List (C U)):=[enc .aX (bG.cX (kN a.2.1 (bG.mk (H.mk a.1.1 a.1.2.1 a.1.2.2.1) a.1.2.2.2.1 a.1.2.2.2.2.1)).1)++[sU .aY (bG.done (kN a.2.1 (bG.mk (H.mk a.1.1 a.1.2.1 a.1.2.2.1) a.1.2.2.2.1 a.1.2.2.2.2.1)).1) .bA,sU .aY (bG.gone (kN a.2.1 (bG.mk (H.mk a.1.1 a.1.2.1 a.1.2.2.1) a.1.2.2.2.1 a.1.2.2.2.2.1)).1) .bA]]
def ZDO:Fs U:=fo ZSP (λa=>[ZO1 a]) ZNB ZEg
def ZO0(a:oV):Prop:=(∀x∈a.1.2.2.2.1,ZR x)/\oW a.1.2.2.2.1<=8000000000
def ZNA(a:oV):aA U:=.agg (enc .aY (nY a.1.2.2.2.1).1)
def ZDN:Fs U:=fo DA (λa=>[ZO0 a]) ZNA Aa
def ZHv:cF U9:=.cons (fe .eF) (.cons (fe .aX) .nil)
def Zyh(a:U9):Prop:=(pO (cM.e a.1)/\Ye (cM.e a.1))/\kg a.2.1
def ZII(a:U9):aA U:=.c (.bool (Cx a.1 a.2.1))
def Zrx:Fs U:=fs ZHv (λa=>[Zyh a]) ZII
def U_:List (FuncId×Fs U):=[(85,sR),(16,ZDV),(83,Ex),(84,D5)]
def S3:Zb U:=cI [[0,1,900],[13],[0,1,4,13],[0,1,4,16],[0,1,4,16],[0,1,4,5,505],[6],[1,49,50,51],[52],[8,52,508],[8,9,10,11,508,509,510],[63],[0,4,5,6,9,10,11,49,50,51,63,505,509,510],[0,4,5,6,49,50,51,505],[],[5,12,49,50,51,505],[75],[0,4,6,12,75],[4],[4]]
def My(hk:Int)(hw:List Int)(L:List H)(hd hg:List W)(i:Int)(x6:List W)(am al s:Int)(af:List Int)(ab:List H)(ai:Int)(ae:List Int)(ak:List H)(ah:List aV)(aa:List bP)(aj:Int)(h:List Op):bT U:=L2 [(0,.ptr (.x 0) 0),pL 5,(6,.c (sU .aY x6 (.bF (.e 6 0)))),(49,.c (sU .aY (List.drop (Int.toNat (i+1)) hd) .bA)),(50,.c (ci (J (List.drop (Int.toNat ((i:Int)+1)) hd)))),pI 51 am] [(.bE 5,[ci al,ci s,sU .u64 af .bA,sU .aX ab .bA,ci ai,sU .u64 ae .bA,sU .aX ak .bA,sU .bD ah .bA,sU .cJ aa .bA,ci aj,sU .op h .bA]),(.x 0,[ci hk,sU .u64 hw .bA,sU .aX L .bA,sU .aY hd .bA,sU .aY hg .bA])]
abbrev A39(p):=AW (Za U_) Tryz.f39 S3 p
abbrev S39(p):=SW (Za U_) Tryz.f39 S3 p
theorem ZIo(hk)(hw)(L)(hd hg:List W)(i)(x6:List W)(ab ar af)(ak)(ai)(am)(aj)(aq)(al)(ah:List bP)(ao)(ae:List Op)(N0:NT)(Q:QT)(h:∀ax,ax=List.getD (List.drop (Int.toNat (i+1)) hd) (G ab) W.nil->∀s,s=W.mk ar (H.mk af ak ai) (H.mk am aj aq) al ah ao ae->∀aa,aa=ax->∀av,av=(gz aa s).1->let z3:=List.drop (Int.toNat (i+1)) hd;let z2:=W.new (gz aa s).2.1;let z1:=W.bH (gz aa s).2.1;let z0:=Yx s (H.mk hk hw L);iB (decide (ab<(J z3))) ((0<=ab/\ab<(J z3))/\ZO3 (aa,s,())/\iB (((gz aa s).2.2)!=0) (Q .ret (L2 [pI 4 (gz aa s).2.2] [(.x 0,[ci hk,sU .u64 hw .bA,sU .aX L .bA,sU .aY hd .bA,sU .aY hg .bA])])) ( ( J x6+J [av])*200<=140737488355328/\bQ (ab+1)/\N0 (My hk hw L hd hg i (x6++[av]) (ab+1) (W.D (gz aa s).2.1) (H.D z1) (H.aS z1) (H.X z1) (H.D z2) (H.aS z2) (H.X z2) (W.aS (gz aa s).2.1) (W.X (gz aa s).2.1) (W.V (gz aa s).2.1) (W.ops (gz aa s).2.1)))) ( EV ((hk,hw,L,hd,hg,()),s,())/\iB (z0.2 !=0) (Q .ret (L2 [pI 4 z0.2] [(.x 0,enc .aX z0.1++[sU .aY hd .bA,sU .aY hg .bA])])) (Q .ret (L2 [pI 4 0] [(.x 0,enc .aX z0.1++[sU .aY x6 (.bF (.x 0 3)),.nils])])))):A39 [1,1,1,1,0,1,0,0] (My hk hw L hd hg i x6 ab ar af ak ai am aj aq al ah ao ae) (xT N0 (xB 1 (S39 [1,1,1,1,1] Q))):=(Eq.mpr V4 (h _ rfl _ rfl _ (Z0 _) _ (Z0 _)):)
def ZR1:List (FuncId×Fs U):=[(20,ZDS)]
def ZX2:Zb U:=cI [[0,2,502,900],[6],[0,6],[3,503],[3,503]]
def ZGJ:List (FuncId×Fs U):=[(45,ZDJ),(64,Nw),(65,ZDH),(30,Hm)]
end
theorem c39:aU Tryz.prog M 39 ZDO:=by
 refine kX (l:=U_) ⟨Eg,c16,IS,FL,trivial⟩ S3 Tryz.func39 2 λ⟨⟨hk,hw,L,hd,hg,_⟩,i,_⟩hp=>?_;obtain⟨hD,hl⟩:=hp;dsimp only at hD hl;refine wV (λQ=>∀ao,ao=aR hd (G i) W.nil->∀ak,ak=ao->let z0:=Zd (Zm ak);iB I (Q .ret (L2 [pI 4 1] [(.x 0,[ci hk,sU .u64 hw .bA,sU .aX L .bA,sU .aY hd .bA,sU .aY hg .bA])])) (Tk 6 (! decide (i<0)) (( decide (i<0)=I->(! decide (i<0))=Y)/\iB (bif decide (i<0)then Y else decide ((( J hd:Int):Int)<=i)) (Q .ret (L2 [pI 4 2] [(.x 0,[ci hk,sU .u64 hw .bA,sU .aX L .bA,sU .aY hd .bA,sU .aY hg .bA])])) (((0:Int)<=i/\i<( J hd:Int))/\fg (ak,())/\((0:Int)<=i/\i<=( J hd:Int))/\tF ( List.take (G i) hd,())/\bQ (i+1)/\((0:Int)<=i+1/\i+1<=( J hd:Int))/\Zi (A39 [1,1,1,1,0,1,0,0]) (My hk hw L hd hg i (List.take (G i) hd) 0 (W.D z0) (H.D (W.bH z0)) (H.aS (W.bH z0)) (H.X (W.bH z0)) (H.D (W.new z0)) (H.aS (W.new z0)) (H.X (W.new z0)) (W.aS z0) (W.X z0) (W.V z0) (W.ops z0)) (xB 1 (S39 [1,1,1,1,1] Q)))))) ?_ λ_ h=>Eq.mpr V4 (h _ rfl _ (Z0 _));rintro y1 am y2 rfl;(simp only[iB,bR,bW]);have cC:∀{r:bG×Int}{s:bT U},kN i ⟨.mk hk hw L,hd,hg⟩=r->ZB M Tryz.f39.ntmps Tryz.f39.results.toList (.c (.int .i64 r.2)) [[.int .i64 r.1.cX.D,.slice .u64 r.1.cX.aS .bA,.slice .aX r.1.cX.X .bA,.slice .aY r.1.done .bA,.slice .aY r.1.gone .bA]] .ret s->ZB M Tryz.f39.ntmps Tryz.f39.results.toList (ZNB ((hk,hw,L,hd,hg,()),i,())) (ZEg ((hk,hw,L,hd,hg,()),i,())) .ret s:=by intro r s h hs;subst h;exact hs
 refine⟨(λh=>by cases h),λh=>?_,λh=>?_⟩;.refine cC (r:=(⟨.mk hk hw L,hd,hg⟩,2)) ?_ V0;unfold kN;exact Q0 λk=>by have k:=CM.1 k;dsimp only at k;omega
 have hB:xE i ⟨.mk hk hw L,hd,hg⟩=Y:=CM.2 ⟨O,V2⟩;obtain⟨d1,d2,d3⟩:=hD hB;rw[<-am]at d1;have ea:yU i ⟨.mk hk hw L,hd,hg⟩=Zd (Zm y2):=by rw[am];try rfl
 have em:kY i ⟨.mk hk hw L,hd,hg⟩=mX (hd.drop (G (i+1))) (Zd (Zm y2)) (hd.take (G i)):=by rw[<-ea];try rfl
 rw[ea]at d2;have hN:kN i ⟨.mk hk hw L,hd,hg⟩=_:=Q5 hB;have aj:J (hd.take (G i))<=J hd:=by rw[QB];omega
 have a1:J (hd.drop (G (i+1)))<=J hd:=by rw[QI];omega
 refine⟨⟨O,O⟩,d1,⟨O,O⟩,by show J (hd.take (G i))<=_;omega,V3,⟨O,O⟩,?_⟩;obtain⟨aB,ar⟩:∃aB,aB=hd.drop (G (i+1)):=⟨_,rfl⟩;rw[<-ar]at d2 em a1;refine Z5 (ι:=Int×W×List W) (λj=>My hk hw L hd hg i j.2.2 j.1 j.2.1.D j.2.1.bH.D j.2.1.bH.aS j.2.1.bH.X j.2.1.new.D j.2.1.new.aS j.2.1.new.X j.2.1.aS j.2.1.X j.2.1.V j.2.1.ops) (λj=>(0<=j.1/\j.1<=J aB)/\kY i ⟨.mk hk hw L,hd,hg⟩=mX (aB.drop (G j.1)) j.2.1 j.2.2/\zi (aB.drop (G j.1)) j.2.1/\( J j.2.2:Int)<=J hd+j.1) (λj=>G (( J aB:Int)-j.1)) (0,Zd (Zm y2),hd.take (G i)) rfl ⟨⟨V2,V2⟩,em,d2,V2⟩ ?_;rintro⟨k,f,bB⟩⟨⟨k0,k1⟩,hM,hO,hL⟩;dsimp only at k0 k1 hM hO hL;refine ZIo _ _ _ _ _ _ _ _ _ _ _ _ _ _ _ _ _ _ _ _ _ ?_;simp only[<-ar];rintro z1 av z2 al z3 rfl z4 ax;rw[ZOw]at al;subst al;(simp only[iB,bR,bW]);refine⟨λaj=>?_,λbc=>?_⟩
 .rw[Zzj k0 aj,<-av]at hM hO;obtain⟨o1,o2⟩:=hO;rw[mX]at hM;refine⟨⟨k0,aj⟩,o1.1,λhn=>?_,λh0=>⟨by simp only[Qd,Ql];omega,V3,(k+1,(gz z3 z2).2.1,bB++[z4]),rfl,⟨⟨V2,V2⟩,?_,o2 h0,?_⟩,V2⟩⟩;.rw[Q0 hn]at hM;rw[hM,Q0 hn]at hN;exact cC hN V0
  .rw[Q5 h0,<-ax]at hM;exact hM
  .rw[Qi];simp only[Qd,Ql];omega
 .have az:aB.drop (G k)=[]:=Qb O;rw[az]at hM;have hM:kY i ⟨.mk hk hw L,hd,hg⟩=((bB,z2),0):=hM;rw[hM]at d3 hN;rw[Q5 rfl]at hN;refine⟨d3 rfl,λhn=>?_,λh0=>?_⟩;.rw[uT hn];rw[Q0 hn]at hN;exact cC hN V0
  .rw[Q5 h0]at hN;exact cC hN V0
theorem c40:aU Tryz.prog M 40 ZDN:=by refine kX (l:=ZR1) ⟨c20,trivial⟩ ZX2 Tryz.func40 1 λ⟨⟨hk,hw,L,s,hg,_⟩,_⟩hp=>?_;refine wV (λQ=>iB I (Q .ret (L2 [pL 2] [(.bE 2,eI),(.x 0,[ci hk,sU .u64 hw .bA,sU .aX L .bA,sU .aY s .bA,sU .aY hg .bA])])) ( SN (s,())/\Q .ret (L2 [pL 2] [(.bE 2,enc .aY (nY s).1),(.x 0,[ci hk,sU .u64 hw .bA,sU .aX L .bA,sU .aY s .bA,sU .aY hg .bA])]))) ?_ λ_ h=>Eq.mpr V4 h;(simp only[iB,bR,bW]);refine⟨(λh=>by cases h),hp,?_⟩;simp only[ZNA,Aa];exact V0
theorem ZVr:aU Tryz.prog M 34 Zrx:=by
 refine kF (l:=ZGJ) ⟨c45,ZHg.1,c65,Pb,trivial⟩ ZUN Tryz.func34 2 λ⟨d,t,_⟩hp=>?_;obtain⟨⟨h1,h2⟩,h3⟩:=hp;dsimp only at h1 h2 h3;refine wV (λQ=>∀aa,aa=t->∀s,s=cM.e d->let z5:=! Z3 s 64;let z3:=decide (( cM.D d:Int)<0);let z1:=decide (0<=kD s 80 3000);let z0:=bif z3 then Y else decide ((3:Int)<cM.D d);let z4:=!z0&&z1&&!z5;let z2:=bif z0 then Y else bif z1 then bif z5 then Y else pJ s else I;Tk 2 (!z3) ((z3=I->(!z3)=Y)/\Tk 2 (!z0) (((!z0)=Y->ZNW (s,()))/\Tt !z0/\Tk 2 ( !z0&&z1) ((( !z0&&z1)=Y->vJ (s,64,()))/\Tk 2 ( !z0&&z1) (Tk 2 z4 ((z4=Y->Bu (s,()))/\(( !z0&&z1)=Y->True->( !z0&&z1)=Y)/\(( !z0&&z1)=Y->z5=I->z4=Y)/\((!z0)=Y->True->(!z0)=Y)/\((!z0)=Y->z1=Y->( !z0&&z1)=Y)/\(z0=I->(!z0)=Y)/\Tt z2/\(z2=Y->HC (aa,()))/\Tt z2/\Q .ret (L2 [(4,.c (.bool (bif z2 then decide (0<=Y3 aa 80 3000)else I)))] []))))))) ?_ λ_ h=>Eq.mpr V4 (h _ (Z7 _) _ (Z0 _));rintro y1 rfl y2 rfl;(simp only[iB,bR,bW]);refine⟨λ_=>h1,λh=>?_,λh=>?_,λh hr=>⟨h,hr⟩,λh hf=>⟨h,hf⟩,λ_=>h3,Z9 rfl ?_⟩;.have:=Vl h.2;exact⟨⟨V2,h2⟩,V2,V2⟩
 .have:=Vl h.1.2;exact⟨⟨V2,h2⟩,64,h.2⟩
 .unfold Cx;cases decide (d.D<0)<;>cases decide (3<d.D)<;>cases decide (0<=kD d.e 80 3000)<;>cases Z3 d.e 64<;>cases pJ d.e<;>cases decide (0<=Y3 y1 80 3000)<;>rfl
theorem ZIB{d t}(h:Cx d t=Y):Zo t<=3000/\(0<=d.D->d.D<=3->Z1 d.e<=3000):=by
 unfold Cx at h;simp only[Q9,K1,Qh]at h;obtain⟨h1,s⟩:=h;have:=Bn t 80 3000 s;refine⟨O,λa b=>?_⟩;rcases h1 with h|h;.omega
 .exact Vl h.1
noncomputable section
def oK(w:aV)(m:Int):List aV:=if(oA w (j7 m)).1.a_=0 then[]else[(oA w (j7 m)).1]
def jO:List bK->List H|[]=>[]|x::r=>if x.of=0 then[]else if x.of=1 then x.p.t::jO r else jO r
def jJ:List bK->List H|[]=>[]|x::r=>if x.of=0 then[]else if x.of=1 then jJ r else x.q.t::jJ r
def gO:List bK->Int|[]=>0|x::r=>if x.of=0 then 0 else gO r+1
def rC(l:List aV)(n:Int):Int:=Jw (λw:aV=>decide (aV.S w=n)) l 0
def lg(l:List bP)(n:Int):Int:=Jw (λk:bP=>decide (aW.S k=n)) l 0
end
theorem ZDu{a m}(ha:0<=a/\a<256)(hm:0<=m/\m<256):a-fX a m=fX (j7 m) a/\0<=a-fX a m/\a-fX a m<256:=by
 have s:∀x:BitVec 8,BitVec.ofInt 8 ((x.toNat:Nat):Int)=x:=λx=>by rw[BitVec.ofInt_natCast,BitVec.ofNat_toNat,BitVec.setWidth_eq]
 have bits:IntKind.bits .u8=8:=rfl;have e1:∀x y:BitVec 8,IntKind.wrap .u8 (((x&&&y).toNat:Nat):Int)=(((x&&&y).toNat:Nat):Int):=λx y=>qR O (by have:=(x&&&y).isLt;omega);have e2:∀x y:BitVec 8,IntKind.wrap .u8 (((x^^^y).toNat:Nat):Int)=(((x^^^y).toNat:Nat):Int):=λx y=>qR O (by have:=(x^^^y).isLt;omega);have ax:a=(((BitVec.ofInt 8 a).toNat:Nat):Int):=by rw[BitVec.toNat_ofInt];omega
 have hA:fX a m=(((BitVec.ofInt 8 a&&&BitVec.ofInt 8 m).toNat:Nat):Int):=e1 _ _;have hN:j7 m=(((BitVec.ofInt 8 255^^^BitVec.ofInt 8 m).toNat:Nat):Int):=e2 _ _;have hB:fX (j7 m) a=((((BitVec.ofInt 8 255^^^BitVec.ofInt 8 m)&&&BitVec.ofInt 8 a).toNat:Nat):Int):=by unfold fX;rw[hN];show IntKind.wrap .u8 (((BitVec.ofInt 8 _&&&BitVec.ofInt 8 a).toNat:Nat):Int)=_;rw[s];exact e1 _ _
 rw[hA,hB];generalize hx:BitVec.ofInt 8 a=x at*;generalize BitVec.ofInt 8 m=y at*;have hz:∀i(h:i<8),(BitVec.ofInt 8 255)[i]=Y:=λi h=>by rw[show BitVec.ofInt 8 255=BitVec.allOnes 8 from rfl];simp only[BitVec.getElem_allOnes]
 generalize BitVec.ofInt 8 255=z at*;have h0:x&&&y&&&((z^^^y)&&&x)=0#8:=by ext i hi;simp only[BitVec.getElem_and,BitVec.getElem_xor,hz i hi];cases x[i]<;>cases y[i]<;>simp
 have h1:x&&&y|||(z^^^y)&&&x=x:=by ext i hi;simp only[BitVec.getElem_and,BitVec.getElem_or,BitVec.getElem_xor,hz i hi];cases x[i]<;>cases y[i]<;>simp
 have h2:=BitVec.add_eq_or_of_and_eq_zero _ _ h0;have h3:(x&&&y).toNat+((z^^^y)&&&x).toNat=x.toNat:=by rw[<-BitVec.toNat_add_of_and_eq_zero h0,h2,h1]
 have:=x.isLt;omega
theorem F_:∀r,0<=gO r/\gO r<=J r|[]=>⟨Qz _,Qz _⟩|x::r=>by have:=F_ r;rw[gO,Qd];split<;>omega
theorem Zze:∀(r s:List bK)x,r.drop (G (gO r))=x::s->x.of=0
 |[],s,x,h=>by simp at h|y::r,s,x,h=>by
  rw[gO]at h;by_cases c:y.of=0;.rw[Q5 c]at h;injection h with h1 _;rw[<-h1];exact c
  .rw[Q0 c,show G (gO r+1)=G (gO r)+1 by have:=(F_ r).1;omega,QE]at h;exact Zze r s x h
theorem Zsc(g:W->W->dv):∀(r:List bK)(m h:List H),(∀x∈r,x.of=0\/x.of=1\/x.of=2)->g9 g r m h=match r.drop (G (gO r))with|[]=>Jd (m++jO r) (h++jJ r)|x::s=>((Jd (m++jO r) (h++jJ r)).dw (J6 g x.p x.q)).dw (g9 g s [] [])
 |[],m,h,_=>by
  rw[g9];show Jd m h=Jd (m++[]) (h++[]);rw[Qj,Qj]|x::r,m,h,hr=>by
  have ih:=λm h=>Zsc g r m h λy hy=>hr y (Q4 _ hy);rw[g9,gO,jO,jJ];by_cases c:x.of=0
  .rw[Q0 O,Q0 O,Q5 c,Q5 c,Q5 c,Qj,Qj];try rfl
  .rw[Q0 c,Q0 c,Q0 c,show G (gO r+1)=G (gO r)+1 by have:=(F_ r).1;omega,QE];by_cases c1:x.of=1;.rw[Q5 c1,Q5 c1,Q5 c1,ih,Qg,XF]
   .have c2:x.of=2:=by have:=hr x Q6;omega
    rw[Q0 c1,Q5 c2,Q0 c1,Q0 c1,ih,Qg,XF]
theorem Sj{α}(f)(d):∀(l:List α)i,l.find? f=aT/\Jw f l i=-1\/∃a,l.find? f=A a/\(i<=Jw f l i/\Jw f l i<i+J l)/\aR l (G (Jw f l i-i)) d=a
 |[],i=>.inl ⟨rfl,rfl⟩|a::r,i=>by
  rw[Jw];by_cases h:f a=Y
  .rw[Q5 h,List.find?_cons_of_pos h];refine .inr ⟨a,rfl,⟨Qz _,by rw[Qd];omega⟩,?_⟩;rw[show G (i-i)=0 by omega];try rfl
  .rw[Q0 h,List.find?_cons_of_neg h];rcases Sj f d r (i+1)with⟨h1,h2⟩|⟨b,h1,h2,h3⟩;.exact .inl ⟨h1,h2⟩
   .refine .inr ⟨b,h1,⟨O,by rw[Qd];omega⟩,?_⟩;rw[show G (Jw f r (i+1)-i)=G (Jw f r (i+1)-(i+1))+1 by omega];exact h3
theorem Zn8(l)(n):JZ l n=aT/\rC l n=-1\/∃a,JZ l n=A a/\(0<=rC l n/\rC l n<J l)/\aR l (G (rC l n)) ⟨0,0,0,0⟩=a:=by have h:=Sj (λw:aV=>decide (aV.S w=n)) ⟨0,0,0,0⟩ l 0;rw[Int.sub_zero,Int.zero_add]at h;exact h
theorem Zn9(l)(n):l.find? (λk=>decide (k.S=n))=aT/\lg l n=-1\/∃a,l.find? (λk=>decide (k.S=n))=A a/\(0<=lg l n/\lg l n<J l)/\aR l (G (lg l n)) ⟨0,W.nil⟩=a:=by have h:=Sj (λk:bP=>decide (aW.S k=n)) ⟨0,W.nil⟩ l 0;rw[Int.sub_zero,Int.zero_add]at h;exact h
def jt(s:dv):dD:=⟨s.x,s.y,s.c,s.a⟩
noncomputable section
def ZPU(a:Hz):aA U:=.c (ci (rC a.1 a.2.1))
def VI:Fs U:=fs ZL8 (λa=>[zn a]) ZPU
def ZPT(a:xk):aA U:=.c (ci (lg a.1 a.2.1))
def OR:Fs U:=fs BU (λa=>[vN a]) ZPT
def W6(a:CE):Prop:=gN a.1/\0<=a.2.1/\a.2.1<256
def R2(a:CE):aA U:=.c (sU .bD (oK a.1 a.2.1) .bA)
def Rn:Fs U:=fs ZLZ (λa=>[W6 a]) R2
def ZLJ:cF RE:=.cons (fY .eW) (.cons (J1 .i64) .nil)
def ZFl(a:RE):Prop:=0<=a.2.1/\a.2.1<=J a.1/\J a.1<=120000000000
def ZEG(a:RE):aA U:=.tup [(I,[sU .aX (jO (a.1.drop (G a.2.1))) .bA]),(I,[sU .aX (jJ (a.1.drop (G a.2.1))) .bA]),(I,[ci (a.2.1+gO (a.1.drop (G a.2.1)))])]
def R_:Fs U:=fs ZLJ (λa=>[ZFl a]) ZEG
def ZFk(a:DL):Prop:=Ze a.1<=100000000000/\Ze a.2.1<=100000000000
def ZPR(a:DL):aA U:=.c (.bool (gw a.1 a.2.1))
def VQ:Fs U:=fs ZSI (λa=>[ZFk a]) ZPR
def ZLH:cO vp:=.Ft (wS .op (.e 0 0)) (.cons (J1 .i64) .nil)
def K_(a:vp):Prop:=J a.1<=500000000000/\0<=a.2.1
def Re(a:vp):aA U:=.c (.mref (.r 0 0))
def RL(a:vp):List (List (C U)):=[]
def SE(a:vp):List (bL×LC U):=[(.r 0 0,LC.mk (U:=U) .op (a.1++Jb (G a.2.1)) 0)]
def WN:Fs U:=(pb ZLH (λa=>[K_ a]) Re RL SE).ef [0]
def ZLG:cO DQ:=.Ft (wS .op (.e 0 0)) (.cons (fY .aX) .nil)
def Ea(a:DQ):Prop:=J a.1<=500000000000
def RW(a:DQ):aA U:=.c (.mref (.r 0 0))
def SF(a:DQ):List (List (C U)):=[]
def Vi(a:DQ):List (bL×LC U):=[(.r 0 0,LC.mk (U:=U) .op (a.1++gS a.2.1) 0)]
def WZ:Fs U:=(pb ZLG (λa=>[Ea a]) RW SF Vi).ef [0]
def ZMe:cF WK:=.cons (fe .aY) (.cons (fe .aX) (.cons (fe .aX) .nil))
def OP(a:WK):Prop:=ZR a.1/\(Zo a.2.1<=100000000000/\ei a.2.1)/\Zo a.2.2.1<=100000000000
def ZQ9(a:WK):aA U:=.agg (enc .left (jt (qd a.1 a.2.1 a.2.2.1)))
def Sw:Fs U:=fs ZMe (λa=>[OP a]) ZQ9
def AX:Zb U:=cI [[0,1],[5],[9],[9],[18],[0,1,4,5,18],[]]
def Iz(l:List aV)(S h:Int):bT U:=L2 [(0,.c (sU .bD l .bA)),pI 1 S,pI 5 h] []
abbrev ZWt(p):=AW (Za cQ) Tryz.f153 AX p
abbrev ZVZ(p):=SW (Za cQ) Tryz.f153 AX p
theorem ZCx(l)(S s)(N0:NT)(Q:QT)(h:iB (decide (s<( J l:Int))) ((0<=s/\s<(J l))/\iB ((aV.S (aR l (G s) (aV.mk 0 0 0 0)))==S) (Q .ret (L2 [pI 4 s] [])) ( bQ (s+1)/\N0 (Iz l S (s+1)))) (Q .ret (L2 [pI 4 (-1)] []))):ZWt [1,0,1,0,0] (Iz l S s) (xT N0 (xB 0 (ZVZ [1,1] Q))):=(Eq.mpr V4 h:)
def Gr(l:List bP)(S h:Int):bT U:=L2 [(0,.c (sU .cJ l .bA)),pI 1 S,pI 5 h] []
abbrev ZWs(p):=AW (Za cQ) Tryz.f155 AX p
abbrev ZVY(p):=SW (Za cQ) Tryz.f155 AX p
theorem ZCw(l:List bP)(S s)(N0:NT)(Q:QT)(h:iB (decide (s<( J l:Int))) ((0<=s/\s<(J l))/\iB ((aW.S (aR l (G s) (aW.mk 0 W.nil)))==S) (Q .ret (L2 [pI 4 s] [])) ( bQ (s+1)/\N0 (Gr l S (s+1)))) (Q .ret (L2 [pI 4 (-1)] []))):ZWs [1,0,1,0,0] (Gr l S s) (xT N0 (xB 0 (ZVY [1,1] Q))):=(Eq.mpr V4 h:)
def ZUM:Zb U:=cI [[1,2,502],[1,5],[14],[2,4,5,14,502],[]]
def VU:Zb U:=cI [[0,1],[7,8],[1,(7,[.bF .aX]),(8,[.bF .aX]),9],[7,7,8,8,22],[22,28],[(7,[.bF .aX]),(8,[.bF .aX]),28],[],[],[0,4,5,6,7,8,9]]
def Ey(l:List bK)(h s:Int)(x7 x8:List H):bT U:=L2 [(0,.c (sU .eW l .bA)),(7,.c (sU .aX x7 (.bF (.e 7 0)))),(8,.c (sU .aX x8 (.bF (.e 8 0)))),pI 9 s] []
def G2(l:List bK)(aa x9:Int)(s h:List H):bT U:=L2 [(0,.c (sU .eW l .bA)),(7,.c (sU .aX s (.bF (.e 7 0)))),(8,.c (sU .aX h (.bF (.e 8 0)))),pI 9 x9] []
abbrev BM(p):=AW (Za cQ) Tryz.f158 VU p
abbrev EE(p):=SW (Za cQ) Tryz.f158 VU p
theorem ZCq(l)(s x9)(x7 x8)(N0:NT)(Q:QT)(h:∀ab,ab=aR l (G x9) (bK.mk 0 bJ.nil bJ.nil)->∀ae,ae=ab.p.t->∀af,af=ab.q.t->let z1:=xB 1 (xT N0 (xB 0 (EE [1,1,1,1] Q)));let z0:=decide (x9<(J l));Tk 2 z0 ((z0=Y->0<=x9/\x9<(J l))/\Tk 4 z0 (iB (bif z0 then ab.of !=0 else I) ((0<=x9/\x9<(J l))/\iB (ab.of==1) ((0<=x9/\x9<(J l))/\( J x7+J [ae])*56<=140737488355328/\BM [1,1,1,0,0,0,1,0,1] (G2 l s x9 (x7++[ae]) x8) z1) ((0<=x9/\x9<(J l))/\( J x8+J [af])*56<=140737488355328/\BM [1,1,1,0,0,0,1,0,1] (G2 l s x9 x7 (x8++[af])) z1)) (Q .ret (L2 [(4,.c (sU .aX x7 (.bF (.e 4 0)))),(5,.c (sU .aX x8 (.bF (.e 5 0)))),pI 6 x9] []))))):BM [1,1,1,0,0,0] (Ey l s x9 x7 x8) (xT N0 (xB 0 (EE [1,1,1,1] Q))):=(Eq.mpr V4 (h _ rfl _ (Z7 _) _ (Z7 _)):)
theorem ZCr(l)(s x9)(ab aa)(N0:NT)(Q:QT)(h:bQ (x9+1)/\N0 (Ey l s (x9+1) ab aa)):BM [1,1,1,0,0,0,1,0,1] (G2 l s x9 ab aa) (xB 1 (xT N0 (xB 0 (EE [1,1,1,1] Q)))):=(Eq.mpr V4 h:)
def Pw:List (FuncId×Fs U):=[(151,l4)]
abbrev ZWq(p):=AW (Za Pw) Tryz.f159 zb p
abbrev ZVW(p):=SW (Za Pw) Tryz.f159 zb p
theorem ZCp(a b)(s)(N0:NT)(Q:QT)(h:let z3:=aR a (G s) H.nil;let z2:=aR b (G s) H.nil;let z1:=H.mk (H.D z2) (H.aS z2) (H.X z2);let z0:=H.mk (H.D z3) (H.aS z3) (H.X z3);iB (decide (s<(J a))) ((0<=s/\s<(J a))/\(0<=s/\s<(J b))/\kM (z0,z1,())/\iB (! ZW (Z2 z0) (Z2 z1)) (Q .ret (L2 [pB 4 I] [])) ( bQ (s+1)/\N0 (uK a b (s+1)))) (Q .ret (L2 [pB 4 Y] []))):ZWq [1,1,0,1,0,0] (uK a b s) (xT N0 (xB 0 (ZVW [1,1,1] Q))):=(Eq.mpr V4 h:)
def ZUL:Zb U:=cI [[(0,[.wr .op]),1],[6],[0,1,(4,[.wr .op]),6],[]]
def ZUK:Zb U:=cI [[(0,[.wr .op]),1],[7],[0,1,(4,[.wr .op]),7],[]]
def Wx:Zb U:=cI [[0,1,4,504],[5],[9],[9],[17],[0,1,5,17],[]]
def Lb(V:Int)(l:List Op)(h:Int):bT U:=L2 [pI 0 V,(1,.c (sU .op l .bA)),pL 4,pI 5 h] [(.bE 4,eI)]
abbrev ZWp(p):=AW (Za cQ) Tryz.f163 Wx p
abbrev ZVV(p):=SW (Za cQ) Tryz.f163 Wx p
theorem ZCo(V)(l:List Op)(s)(N0:NT)(Q:QT)(h:iB (decide (s<( J l:Int))) ((0<=s/\s<(J l))/\iB ((bI.D (aR l (G s) Op.nil))!=0) (Q .ret (L2 [pL 4] [(.bE 4,[ci 3,ci 0,.nils,.nils,ci 0,.nils,.nils,.nils,.nils,ci V,sU .op l .bA])])) ( bQ (s+1)/\N0 (Lb V l (s+1)))) (Q .ret (L2 [pL 4] [(.bE 4,eI)]))):ZWp [1,0,1,0,0] (Lb V l s) (xT N0 (xB 0 (ZVV [1,1] Q))):=(Eq.mpr V4 h:)
def ZKl:List (FuncId×Fs U):=[(135,ui),(151,l4)]
def ZV3:Zb U:=cI [[3,4,5,6,503,504,505,506],[3,4,7,8,503,504,507],[5,7,8,505,507]]
end
theorem VR:aU Tryz.prog M 153 VI:=by
 refine kF (l:=cQ) trivial AX Tryz.func153 2 λ⟨l,a,_⟩hp=>?_;have hp:J l<=1000000:=hp;refine wV (λQ=>Zi (ZWt [1,0,1,0,0]) (Iz l a 0) (xB 0 (ZVZ [1,1] Q))) ?_ λ_ h=>Eq.mpr V4 h;refine Z5 (ι:=Int) (λi=>Iz l a i) (λi=>0<=i/\i<=J l/\Jw (λw:aV=>decide (aV.S w=a)) l 0=Jw (λw:aV=>decide (aV.S w=a)) (l.drop (G i)) i) (λi=>G (( J l:Int)-i)) 0 rfl ⟨O,O,by simp⟩ ?_;rintro i⟨f1,f2,s⟩;refine ZCx _ _ _ _ _ ?_;(simp only[iB,bR,bW]);refine⟨λhi=>?_,λhi=>?_⟩;.rw[ZO f1 hi ⟨0,0,0,0⟩,Jw]at s;generalize hw:aR l (G i) ⟨0,0,0,0⟩=w at*;refine⟨⟨f1,hi⟩,λhe=>?_,λhe=>⟨V3,i+1,rfl,⟨O,O,by grind⟩,O⟩⟩;rw[Q5 (by simpa using he)]at s;exact YO rfl s.symm
 .rw[Qb O]at s;exact YO rfl s.symm
theorem UB:aU Tryz.prog M 155 OR:=by
 refine kF (l:=cQ) trivial AX Tryz.func155 2 λ⟨l,a,_⟩hp=>?_;have hp:J l<=1000000:=hp;refine wV (λQ=>Zi (ZWs [1,0,1,0,0]) (Gr l a 0) (xB 0 (ZVY [1,1] Q))) ?_ λ_ h=>Eq.mpr V4 h;refine Z5 (ι:=Int) (λi=>Gr l a i) (λi=>0<=i/\i<=J l/\Jw (λk:bP=>decide (aW.S k=a)) l 0=Jw (λk:bP=>decide (aW.S k=a)) (l.drop (G i)) i) (λi=>G (( J l:Int)-i)) 0 rfl ⟨O,O,by simp⟩ ?_;rintro i⟨f1,f2,s⟩;refine ZCw _ _ _ _ _ ?_;(simp only[iB,bR,bW]);refine⟨λhi=>?_,λhi=>?_⟩;.rw[ZO f1 hi ⟨0,W.nil⟩,Jw]at s;generalize hw:aR l (G i) ⟨0,W.nil⟩=w at*;refine⟨⟨f1,hi⟩,λhe=>?_,λhe=>⟨V3,i+1,rfl,⟨O,O,by grind⟩,O⟩⟩;rw[Q5 (by simpa using he)]at s;exact YO rfl s.symm
 .rw[Qb O]at s;exact YO rfl s.symm
theorem U6:aU Tryz.prog M 154 Rn:=by
 refine kF (l:=ZKo) ⟨vC,trivial⟩ ZUM Tryz.func154 2 λ⟨w,m,_⟩hp=>?_;obtain⟨s,hm⟩:=hp;dsimp only at s hm;obtain⟨s1,s2,s3⟩:=ZDu s.2.1 hm;have e:IntKind.wrap .u8 (w.a_-IntKind.wrap .u8 (BitVec.ofInt (IntKind.bits .u8) w.a_&&&BitVec.ofInt (IntKind.bits .u8) m).toNat)=(oA w (j7 m)).1.a_:=(qR s2 s3).trans s1;have r:0<=(oA w (j7 m)).1.a_/\(oA w (j7 m)).1.a_<256:=by have e2:(oA w (j7 m)).1.a_=w.a_-fX w.a_ m:=s1.symm;omega
 have z0:(0:Int)<=0/\(0:Int)<18446744073709551616:=V1;refine wV (λQ=>let z0:=IntKind.wrap .u8 (w.a_-IntKind.wrap .u8 (BitVec.ofInt (IntKind.bits .u8) w.a_&&&BitVec.ofInt (IntKind.bits .u8) m).toNat);iB ((z0:Int)==0) (Q .ret (L2 [(4,.c .nils)] [])) ( iK (0,w.bH,z0,())/\iK (0,w.new,z0,())/\Q .ret (L2 [(4,.c (sU .bD [aV.mk w.S z0 (cS 0 w.bH z0) (cS 0 w.new z0)] .cU))] []))) ?_ λ_ h=>Eq.mpr V4 h;simp only[e];(simp only[iB,bR,bW]);refine⟨λh=>?_,λh=>⟨⟨z0,s.2.2.1,r⟩,⟨z0,s.2.2.2,r⟩,?_⟩⟩;.refine Y8 (r':=.c (.slice (U:=U) .bD [] .bA)) ?_ V0;simp only[R2,oK];rw[Q5 h]
 .refine Y8 (r':=.c (.slice (U:=U) .bD [(oA w (j7 m)).1] .bA)) ?_ V0;simp only[R2,oK];rw[Q0 h]
theorem Tq:aU Tryz.prog M 158 R_:=by
 refine kF (l:=cQ) trivial VU Tryz.func158 2 λ⟨l,aa,_⟩hp=>?_;obtain⟨h1,h2,h3⟩:=hp;dsimp only at h1 h2 h3;refine wV (λQ=>Zi (BM [1,1,1,0,0,0]) (Ey l aa aa [] []) (xB 0 (EE [1,1,1,1] Q))) ?_ λ_ h=>Eq.mpr V4 h;refine Z5 (ι:=Int×List H×List H) (λs=>Ey l aa s.1 s.2.1 s.2.2) (λs=>(0<=s.1/\s.1<=J l)/\(jO (l.drop (G aa))=s.2.1++jO (l.drop (G s.1))/\jJ (l.drop (G aa))=s.2.2++jJ (l.drop (G s.1))/\aa+gO (l.drop (G aa))=s.1+gO (l.drop (G s.1)))/\( J s.2.1:Int)<=s.1/\( J s.2.2:Int)<=s.1) (λs=>G (( J l:Int)-s.1)) (aa,[],[]) rfl ⟨⟨h1,h2⟩,⟨rfl,rfl,rfl⟩,h1,h1⟩ ?_;rintro⟨i,a,b⟩⟨⟨i0,i1⟩,⟨f1,f2,f3⟩,l1,l2⟩;dsimp only at i0 i1 f1 f2 f3 l1 l2;refine ZCq _ _ _ _ _ _ _ ?_;intro y1 e1 y2 e2 y3 e3;have go:∀(a' b':List H)(N0:bT U->Prop)(Q:c9->bT U->Prop),i<J l->N0 (Ey l aa (i+1) a' b')->BM [1,1,1,0,0,0,1,0,1] (G2 l aa i a' b') (c9.inBlock 1 (c9.then N0 (c9.inBlock 0 (EE [1,1,1,1] Q)))):=λa' b' N0 Q hi h=>ZCr _ _ _ _ _ _ _ ⟨V3,h⟩;have hd:i<J l->l.drop (G i)=y1::l.drop (G (i+1)):=λhi=>by rw[e1];exact ZO i0 hi _
 (simp only[iB,bR,bW]);refine⟨λhi=>⟨i0,hi⟩,λL=>⟨⟨i0,L.1⟩,λc1=>⟨⟨i0,L.1⟩,by grind,go _ _ _ _ L.1 ⟨(i+1,a++[y2],b),rfl,⟨⟨O,O⟩,?_,by grind,by grind⟩,O⟩⟩,λc1=>⟨⟨i0,L.1⟩,by grind,go _ _ _ _ L.1 ⟨(i+1,a,b++[y3]),rfl,⟨⟨O,O⟩,?_,by grind,by grind⟩,O⟩⟩⟩,λL=>?_⟩;.rw[hd L.1,jO,Q0 L.2,Q5 c1,<-e2]at f1;rw[hd L.1,jJ,Q0 L.2,Q5 c1]at f2;rw[hd L.1,gO,Q0 L.2]at f3;grind
 .rw[hd L.1,jO,Q0 L.2,Q0 c1]at f1;rw[hd L.1,jJ,Q0 L.2,Q0 c1,<-e3]at f2;rw[hd L.1,gO,Q0 L.2]at f3;grind
 .have z:jO (l.drop (G i))=[]/\jJ (l.drop (G i))=[]/\gO (l.drop (G i))=0:=by
   by_cases hi:i<J l
   .have h0:y1.of=0:=by
     rcases L with h|h;.omega
     .exact h
    rw[hd hi,jO,jJ,gO,Q5 h0,Q5 h0,Q5 h0];grind
   .rw[Qb O];trivial
  rw[z.1,Qj]at f1;rw[z.2.1,Qj]at f2;rw[z.2.2,Int.add_zero]at f3;simp only[ZEG,f1,f2,f3];exact V0
theorem ZB3(x y)(r s):gw (x::r) (y::s)=(ZW (Z2 x) (Z2 y)&&gw r s):=by unfold gw;rw[QA,Q9,Yz,Yz,Yh];simp[Z6]
theorem R8:aU Tryz.prog M 159 VQ:=by
 refine kF (l:=Pw) ⟨qz,trivial⟩ zb Tryz.func159 2 λ⟨a,b,_⟩hp=>?_;obtain⟨h1,h2⟩:=hp;dsimp only at h1 h2;have ln:=Zs a;refine wV (λQ=>iB ((( J a:Int):Int)!=( J b:Int)) (Q .ret (L2 [pB 4 I] [])) (Zi (ZWq [1,1,0,1,0,0]) (uK a b 0) (xB 0 (ZVW [1,1,1] Q)))) ?_ λ_ h=>Eq.mpr V4 h;(simp only[iB,bR,bW]);refine⟨λhn=>?_,λhl=>?_⟩
 .refine Z9 rfl ?_;have:gw a b≠Y:=by
   intro h;unfold gw at h;rw[Yz]at h;have:=congrArg List.length h;simp only[Z6,QF]at this;omega
  grind
 .refine Z5 (ι:=Int) (λi=>uK a b i) (λi=>(0<=i/\i<=J a)/\gw a b=gw (a.drop (G i)) (b.drop (G i))) (λi=>G (( J a:Int)-i)) 0 rfl ⟨⟨O,O⟩,rfl⟩ ?_;rintro i⟨⟨f1,f2⟩,f3⟩;refine ZCp _ _ _ _ _ ?_;(simp only[vE]);(simp only[iB,bR,bW]);refine⟨λs=>?_,λs=>?_⟩
  .rw[ZO f1 s H.nil,ZO f1 (show i<J b by omega) H.nil,ZB3]at f3;have m1:=YM (Zh (l:=a) (i:=G i) O H.nil);have m2:=YM (Zh (l:=b) (i:=G i) O H.nil);generalize aR a (G i) H.nil=x at*;generalize aR b (G i) H.nil=y at*;refine⟨⟨f1,s⟩,⟨f1,O⟩,⟨by grind,by grind⟩,λh=>?_,λh=>⟨V3,i+1,rfl,⟨⟨O,O⟩,?_⟩,O⟩⟩;.refine Z9 rfl ?_;grind
   grind
  .rw[Qb O,Qb O]at f3;refine Z9 rfl ?_;rw[f3];exact(Yz.2 rfl).symm
theorem OS:aU Tryz.prog M 160 WN:=by
 refine aU.ef<|J0 (l:=cQ) ZN rfl trivial ZUL Tryz.func160 rfl rfl 2 (λ_=>rfl) V1 λ⟨l,n,_⟩hp=>?_;obtain⟨s,h2⟩:=hp;dsimp only at s h2;refine wV (λQ=>let z0:=W.mk 0 (H.mk 0 [] []) (H.mk 0 [] []) [] [] 0 [];iB (n==0) (Q .ret (⟨[(4,.c (.mref (.e 4 0)))],[],[(.e 4 0,LC.mk (U:=U) .op l 0)]⟩:bT U)) ( ( J l+J [bI.mk 0 n [] z0])*240<=140737488355328/\Q .ret (⟨[(4,.c (.mref (.e 4 0)))],[],[(.e 4 0,LC.mk (U:=U) .op (l++[bI.mk 0 n [] z0]) 0)]⟩:bT U))) ?_ λ_ h=>Eq.mpr V4 h;(simp only[iB,bR,bW]);refine⟨λh=>?_,λh=>⟨by grind,?_⟩⟩
 .have e:l++Jb (G n)=l:=by unfold Jb;grind
  simp only[Re,RL,SE,e];exact V0
 .have e:Jb (G n)=[⟨0,n,[],W.nil⟩]:=by unfold Jb;grind
  simp only[Re,RL,SE,e];exact V0
theorem R5:aU Tryz.prog M 161 WZ:=by
 refine aU.ef<|J0 (l:=cQ) ZN rfl trivial ZUK Tryz.func161 rfl rfl 2 (λ_=>rfl) V1 λ⟨l,t,_⟩s=>?_;have h1:J l<=500000000000:=s;refine wV (λQ=>let z0:=W.mk 0 (H.mk 0 [] []) (H.mk 0 [] []) [] [] 0 [];iB ((( J t:Int):Int)==0) (Q .ret (⟨[(4,.c (.mref (.e 4 0)))],[],[(.e 4 0,LC.mk (U:=U) .op l 0)]⟩:bT U)) ( ( J l+J [bI.mk 2 0 t z0])*240<=140737488355328/\Q .ret (⟨[(4,.c (.mref (.e 4 0)))],[],[(.e 4 0,LC.mk (U:=U) .op (l++[bI.mk 2 0 t z0]) 0)]⟩:bT U))) ?_ λ_ h=>Eq.mpr V4 h;(simp only[iB,bR,bW]);refine⟨λh=>?_,λh=>⟨by grind,?_⟩⟩
 .have e:l++gS t=l:=by unfold gS;simp_all
  simp only[RW,SF,Vi,e];exact V0
 .have e:gS t=[⟨2,0,t,W.nil⟩]:=by unfold gS;grind
  simp only[RW,SF,Vi,e];exact V0
theorem PT:aU Tryz.prog M 202 zO:=by
 refine kF (l:=cQ) trivial ZUz Tryz.func202 1 λ⟨e,_⟩_=>?_;refine wV (λQ=>iB (e.D==0) (Q .ret (L2 [pL 2] [(.bE 2,[ci 0,ci 1,.nils,ci 0,ci 0,.nils,.nils,ci 0,.nils,.nils,.nils,.nils,ci 0,.nils])])) (Q .ret (L2 [pL 2] [(.bE 2,[ci 3,ci 0,.nils]++enc .aY e)]))) ?_ λ_ h=>Eq.mpr V4 h;(simp only[iB,bR,bW]);refine⟨λh=>?_,λh=>?_⟩;.refine Y8 (r':=.agg (enc .op ⟨0,1,[],W.nil⟩)) ?_ V0;simp only[DV,jP];rw[Q5 h];try rfl
 .refine Y8 (r':=.agg (enc .op ⟨3,0,[],e⟩)) ?_ V0;simp only[DV,jP];rw[Q0 h];try rfl
theorem Ou:aU Tryz.prog M 163 AI:=by
 refine kF (l:=cQ) trivial Wx Tryz.func163 2 λ⟨V,l,_⟩hp=>?_;have hp:J l<=1000000000000:=hp;refine wV (λQ=>Zi (ZWp [1,0,1,0,0]) (Lb V l 0) (xB 0 (ZVV [1,1] Q))) ?_ λ_ h=>Eq.mpr V4 h;refine Z5 (ι:=Int) (λi=>Lb V l i) (λi=>0<=i/\i<=J l/\(l.any λo=>!decide (o.D=0))=(l.drop (G i)).any λo=>!decide (o.D=0)) (λi=>G (( J l:Int)-i)) 0 rfl ⟨O,O,rfl⟩ ?_;rintro i⟨f1,f2,f3⟩;refine ZCo _ _ _ _ _ ?_;(simp only[iB,bR,bW]);refine⟨λs=>?_,λs=>?_⟩;.rw[ZO f1 s Op.nil,List.any_cons]at f3;generalize aR l (G i) Op.nil=o at*;refine⟨⟨f1,s⟩,λh=>?_,λh=>⟨V3,i+1,rfl,⟨O,O,by grind⟩,O⟩⟩;refine Y8 (r':=.agg (enc .aY (.mk 3 H.nil H.nil [] [] V l))) ?_ V0;simp only[Cr,J9];rw[Q5 (by grind)];try rfl
 .rw[Qb O]at f3;refine Y8 (r':=.agg (enc .aY W.nil)) ?_ V0;simp only[Cr,J9];rw[Q0 (by rw[f3];simp)];try rfl
theorem ZFP{e t}(h:ZR e)(s:Zo t<=100000000000):Zo (YH (bX Y e t))<=1000000000000:=by have:=ZL h;have:=h.1;rw[pr];exact ZkR h.2.2 O
theorem ZRZ:aU Tryz.prog M 108 Sw:=by
 refine kF (l:=ZKl) ⟨vh,qz,trivial⟩ ZV3 Tryz.func108 3 λ⟨e,bH,cX,_⟩hp=>?_;obtain⟨h1,⟨h2,h3⟩,h4⟩:=hp;dsimp only at h1 h2 h3 h4;refine wV (λQ=>∀s,s=e->∀ab,ab=cX->∀aa,aa=bH->∀ae,ae=YH (bX Y s aa)->let z0:=bX Y s aa;gg (s,aa,())/\Tk 2 z0.isSome (( z0.isSome=Y->kM (ae,ab,()))/\Tk 2 z0.isSome (Q .ret (L2 [pL 6] [(.bE 6,[ci 0,ci 0,.nils,.nils,ci 0,.nils,.nils,.nils,.nils,ci 0,.nils,ci 0,ci 0,.nils,.nils,ci 0,.nils,.nils,.nils,.nils,ci 0,.nils,.bool (bif z0.isSome then ! ZW (Z2 ae) (Z2 ab)else I),.bool ! z0.isSome])])))) ?_ λ_ h=>Eq.mpr V4 (h _ (Z0 _) _ (Z7 _) _ (Z7 _) _ (Z7 _));intro y1 e1 y2 e2 y3 e3 y4 e4;subst e1 e2 e3;(simp only[iB,bR,bW]);refine⟨yx h1 h2 h3,λ_=>⟨by rw[e4];exact ZFP h1 h2,by grind⟩,?_⟩;refine Y8 (r':=.agg (enc .left (jt (qd y1 y3 y2)))) rfl ?_;have e:(bif(bX Y y1 y3).isSome then ! ZW (Z2 y4) (Z2 y2)else I)=(qd y1 y3 y2).c:=by rw[e4];unfold qd;dsimp only;grind
 rw[e];exact V0
noncomputable section
def DI(a:YC):aA U:=.agg (enc .left (jt (dN a.1 a.2.1)))
def NM:Fs U:=fs gM (λa=>[jI a]) DI
def Ek(a:YC):aA U:=.agg (enc .left (jt (l6 dN a.1 a.2.1)))
def ZxF:Fs U:=fs gM (λa=>[sI a]) Ek
def Eh(a:YC):aA U:=.agg (enc .left (jt (n6 dN a.1 a.2.1)))
def ZxE:Fs U:=fs gM (λa=>[sm a]) Eh
def EO(a:ze):Prop:=(Ej a.1/\Ej a.2.1)/\bJ.D a.1≠2/\bJ.D a.2.1≠2
def D1(a:ze):aA U:=.tup [(I,[sU .op (J6 dN a.1 a.2.1).x .bA]),(I,[sU .op (J6 dN a.1 a.2.1).y .bA]),(I,[.bool (J6 dN a.1 a.2.1).c]),(I,[.bool (J6 dN a.1 a.2.1).a])]
def Zxw:Fs U:=fs vQ (λa=>[EO a]) D1
def xH(N:Nat):List (FuncId×Fs U):=(68,fs gM (λa=>[jI a,sL a<N]) DI)::(109,fs gM (λa=>[sI a,kE a<N]) Ek)::(110,fs gM (λa=>[sm a,kE a<N]) Eh)::(162,fs vQ (λa=>[EO a,uN a<N]) D1)::[(135,ui),(151,l4),(152,EN),(156,DE),(157,Dy),(201,Eu),(136,sT),(108,Sw),(153,VI),(154,Rn),(155,OR),(158,R_),(159,VQ),(160,WN),(161,WZ),(163,AI),(202,zO)]
def ZUb:Zb U:=cI [[2,3,4,502,503,504],[5],[2,3,5,502,503],[2,3,17,502,503],[2,3,17,502,503],[2,3,27,502,503],[2,3,27,502,503],[2,3,37,502,503],[2,3,37,502,503],[2,3,44,502,503],[2,3,44,502,503],[]]
abbrev ZTg(N:Nat)(p q:W):Prop:=AW (Za (xH N)) Tryz.f68 ZUb [] (Y5 (gM.cK (p,q,())) []) (EQ Tryz.f68 (DI (p,q,())) [])
abbrev ZW7:Prop:=∀N(p:W)q(_:Unit),jI (p,q,())->sL (p,q,())<N+1->ZTg N p q
def wX(N:Nat):List (FuncId×Fs U):=xH N
def NA:Zb U:=cI [[2,3,4,502,503,504],[5,505],[6,7,506,507],[8,9],[10,(506,an 7 [.bF .bD]),(507,an 7 [.bF .bD])],[32,506,506,507,507],[32,(506,an 7 [.bF .bD]),(507,an 7 [.bF .bD])],[11,12,506,506,507,507],[11,12,13,14,513,514],[15],[],[15],[],[13,14,513,514],[11,12,108],[11,12,108],[11,12,121],[11,12,121],[8,10,16,(506,an 8 [.bF .cJ]),(507,an 8 [.bF .cJ])],[137,506,506,507,507],[137,(506,an 8 [.bF .cJ]),(507,an 8 [.bF .cJ])],[17,18,506,506,507,507],[19,519],[17,18],[17,18,168],[17,18,168],[17,18,178],[17,18,178],[],[],[205],[205],[221],[19,221,519],[2,3,9,16,241,502,503],[6,241,506],[251],[7,251,507],[5,505]]
def uZ(p q:W)(ae:Int)(h s:Bool)(aa ab:List aV):bT U:=L2 [pL 2,pL 3,pL 4,pL 5,pL 6,pL 7,(8,.c (sU .int (Y7 ((W.mk p.D (H.mk p.bH.D p.bH.aS p.bH.X) (H.mk p.new.D p.new.aS p.new.X) p.aS p.X p.V p.ops).aS.map aV.S) ((W.mk q.D (H.mk q.bH.D q.bH.aS q.bH.X) (H.mk q.new.D q.new.aS q.new.X) q.aS q.X q.V q.ops).aS.map aV.S)) .bA)),(9,.c (sU .int (Y7 ((W.mk p.D (H.mk p.bH.D p.bH.aS p.bH.X) (H.mk p.new.D p.new.aS p.new.X) p.aS p.X p.V p.ops).X.map aW.S) ((W.mk q.D (H.mk q.bH.D q.bH.aS q.bH.X) (H.mk q.new.D q.new.aS q.new.X) q.aS q.X q.V q.ops).X.map aW.S)) .bA)),pI 10 ae] [(.bE 2,enc .aY p),(.bE 3,enc .aY q),(.bE 4,Dn),(.bE 5,[ci 0,ci 0,.nils,.nils,ci 0,.nils,.nils,.nils,.nils,ci 0,.nils,ci 0,ci 0,.nils,.nils,ci 0,.nils,.nils,.nils,.nils,ci 0,.nils,.bool h,.bool s]),(.bE 6,[ci 2,ci 0,.nils,.nils,ci 0,.nils,.nils,sU .bD aa (.bF (.l 6 7)),.nils,ci 0,.nils]),(.bE 7,[ci 2,ci 0,.nils,.nils,ci 0,.nils,.nils,sU .bD ab (.bF (.l 7 7)),.nils,ci 0,.nils])]
def Jm(p q:W)(ae ah:List aV)(af:Int)(s h:Bool)(ab aa:List bP):bT U:=L2 [pL 2,pL 3,pL 4,pL 5,pL 6,pL 7,(9,.c (sU .int (Y7 ((W.mk p.D (H.mk p.bH.D p.bH.aS p.bH.X) (H.mk p.new.D p.new.aS p.new.X) p.aS p.X p.V p.ops).X.map aW.S) ((W.mk q.D (H.mk q.bH.D q.bH.aS q.bH.X) (H.mk q.new.D q.new.aS q.new.X) q.aS q.X q.V q.ops).X.map aW.S)) .bA)),pI 16 af] [(.bE 2,enc .aY p),(.bE 3,enc .aY q),(.bE 4,Dn),(.bE 5,[ci 0,ci 0,.nils,.nils,ci 0,.nils,.nils,.nils,.nils,ci 0,.nils,ci 0,ci 0,.nils,.nils,ci 0,.nils,.nils,.nils,.nils,ci 0,.nils,.bool s,.bool h]),(.bE 6,[ci 2,ci 0,.nils,.nils,ci 0,.nils,.nils,sU .bD ae (.bF (.l 6 7)),sU .cJ ab (.bF (.l 6 8)),ci 0,.nils]),(.bE 7,[ci 2,ci 0,.nils,.nils,ci 0,.nils,.nils,sU .bD ah (.bF (.l 7 7)),sU .cJ aa (.bF (.l 7 8)),ci 0,.nils])]
abbrev NC(N)(p):=AW (Za (wX N)) Tryz.f109 NA p
abbrev MV(N)(p):=SW (Za (wX N)) Tryz.f109 NA p
theorem ZCX(N)(p q)(af)(s aa)(ab ae)(N0:NT)(Q:QT)(h:∀ar,ar=p->∀aq,aq=q->∀am,am=Y7 (ar.aS.map aV.S) (aq.aS.map aV.S)->∀aj,aj=aR am af.toNat 0->∀ai,ai=List.getD p.aS (Int.toNat (rC p.aS aj)) (aV.mk 0 0 0 0)->∀ah,ah=List.getD q.aS (Int.toNat (rC q.aS aj)) (aV.mk 0 0 0 0)->∀ak,ak=ai->∀al,al=ah->∀ao,ao=BitVec.ofInt (IntKind.bits .u8) ai.a_&&&BitVec.ofInt (IntKind.bits .u8) ah.a_->let z2:=rC p.aS aj;let z1:=rC q.aS aj;let z0:=IntKind.wrap .u8 ao.toNat;iB (decide (af<( J am:Int))) ((0<=af/\af<(J am))/\zn (p.aS,aj,())/\(0<=af/\af<(J am))/\zn (q.aS,aj,())/\iB (decide (z1<0)) ((0<=z2/\z2<(J p.aS))/\( J ab+J [ak])*32<=140737488355328/\bQ (af+1)/\N0 (uZ p q (af+1) s aa (ab++[ak]) ae)) (iB (decide (z2<0)) ((0<=z1/\z1<(J q.aS))/\( J ae+J [al])*32<=140737488355328/\bQ (af+1)/\N0 (uZ p q (af+1) s aa ab (ae++[al]))) ((0<=z2/\z2<(J p.aS))/\(0<=z1/\z1<(J q.aS))/\Tk 3 (!aa) (((!aa)=Y->iK (0,ai.bH,z0,()))/\Tk 3 (!aa) (((!aa)=Y->iK (0,ah.bH,z0,()))/\Tk 2 (!aa) ((aa=I->(!aa)=Y)/\Tk 3 (!s) (((!s)=Y->iK (0,ai.new,z0,()))/\Tk 3 (!s) (((!s)=Y->iK (0,ah.new,z0,()))/\Tk 2 (!s) ((s=I->(!s)=Y)/\W6 (ak,ah.a_,())/\( J ab+J (oK ak ah.a_))*32<=140737488355328/\W6 (al,ai.a_,())/\( J ae+J (oK al ai.a_))*32<=140737488355328/\bQ (af+1)/\N0 (uZ p q (af+1) (bif s then Y else(cS 0 ai.new z0)!=cS 0 ah.new z0) (bif aa then Y else(cS 0 ai.bH z0)!=cS 0 ah.bH z0) (ab++oK ak ah.a_) (ae++oK al ai.a_))))))))))) (Zi (NC N [1,1,1,1,1,0,1,0,0]) (Jm p q ab ae 0 s aa [] []) (xB 3 (MV N [1,1,1,1,1,1] Q)))):NC N [1,1,1,1,0,1,0,0] (uZ p q af s aa ab ae) (xT N0 (xB 0 (MV N [1,1,1,1,1] Q))):=(Eq.mpr V4 (h _ (Z0 _) _ (Z0 _) _ rfl _ rfl _ rfl _ rfl _ (JB _) _ (JB _) _ rfl):)
theorem ZCW(N)(p q:W)(ah ai)(s)(ae af)(ab aa)(N1:NT)(Q:QT)(h:∀aw,aw=p->∀av,av=q->∀ax,ax=W.mk 0 (H.mk 0 [] []) (H.mk 0 [] []) [] [] 0 []->∀ak,ak=Y7 (aw.X.map aW.S) (av.X.map aW.S)->∀aj,aj=aR ak (G s) 0->∀au,au=List.getD p.X (Int.toNat (lg p.X aj)) (aW.mk 0 W.nil)->∀ao,ao=List.getD q.X (Int.toNat (lg q.X aj)) (aW.mk 0 W.nil)->∀am,am=au.e->∀al,al=ao.e->∀aq,aq=dD.x (jt (dN am al))->∀ar,ar=dD.y (jt (dN am al))->let z13:=aW.mk aj am;let z12:=aW.mk aj aq;let z10:=aW.mk aj al;let z9:=aW.mk aj ar;let z8:=bQ ((( J ai:Int))+(J aa));let z6:=jt (dN am al);let z11:=(W.D (dD.y z6))!=0;let z5:=decide (0<(( J ai:Int))+(J aa));let z4:=aW.mk aj ax;let z3:=bif af then Y else dD.apart z6;let z2:=bif ae then Y else dD.mi z6;let z1:=bif af then Y else I;let z0:=bif ae then Y else I;let z7:=N1 (Jm p q ah ai (s+1) z0 z1 ab aa);iB (decide (s<(J ak))) ((0<=s/\s<(J ak))/\vN (p.X,aj,())/\(0<=s/\s<(J ak))/\vN (q.X,aj,())/\iB (decide ((lg q.X aj)<0)) ((0<=lg p.X aj/\lg p.X aj<(J p.X))/\Tt !af/\(af=I->(!af)=Y)/\Tt !ae/\(ae=I->(!ae)=Y)/\iB (au.e.D !=0) ((0<=s/\s<(J ak))/\( J ab+J [z13])*208<=140737488355328/\iB ((0:Int)!=0) ((0<=s/\s<(J ak))/\( J aa+J [z4])*208<=140737488355328/\bQ (s+1)/\N1 (Jm p q ah ai (s+1) z0 z1 (ab++[z13]) (aa++[z4]))) ( bQ (s+1)/\N1 (Jm p q ah ai (s+1) z0 z1 (ab++[z13]) aa))) (iB ((0:Int)!=0) ((0<=s/\s<(J ak))/\( J aa+J [z4])*208<=140737488355328/\bQ (s+1)/\N1 (Jm p q ah ai (s+1) z0 z1 ab (aa++[z4]))) ( bQ (s+1)/\z7))) (iB (decide ((lg p.X aj)<0)) ((0<=lg q.X aj/\lg q.X aj<(J q.X))/\Tt !af/\(af=I->(!af)=Y)/\Tt !ae/\(ae=I->(!ae)=Y)/\iB ((0:Int)!=0) ((0<=s/\s<(J ak))/\( J ab+J [z4])*208<=140737488355328/\iB (ao.e.D !=0) ((0<=s/\s<(J ak))/\( J aa+J [z10])*208<=140737488355328/\bQ (s+1)/\N1 (Jm p q ah ai (s+1) z0 z1 (ab++[z4]) (aa++[z10]))) ( bQ (s+1)/\N1 (Jm p q ah ai (s+1) z0 z1 (ab++[z4]) aa))) (iB (ao.e.D !=0) ((0<=s/\s<(J ak))/\( J aa+J [z10])*208<=140737488355328/\bQ (s+1)/\N1 (Jm p q ah ai (s+1) z0 z1 ab (aa++[z10]))) ( bQ (s+1)/\z7))) ((0<=lg p.X aj/\lg p.X aj<(J p.X))/\(0<=lg q.X aj/\lg q.X aj<(J q.X))/\jI (am,al,())/\sL (am,al,())<N/\Tt !af/\(af=I->(!af)=Y)/\Tt !ae/\(ae=I->(!ae)=Y)/\iB ((W.D (dD.x z6))!=0) ((0<=s/\s<(J ak))/\( J ab+J [z12])*208<=140737488355328/\iB z11 ((0<=s/\s<(J ak))/\( J aa+J [z9])*208<=140737488355328/\bQ (s+1)/\N1 (Jm p q ah ai (s+1) z2 z3 (ab++[z12]) (aa++[z9]))) ( bQ (s+1)/\N1 (Jm p q ah ai (s+1) z2 z3 (ab++[z12]) aa))) (iB z11 ((0<=s/\s<(J ak))/\( J aa+J [z9])*208<=140737488355328/\bQ (s+1)/\N1 (Jm p q ah ai (s+1) z2 z3 ab (aa++[z9]))) ( bQ (s+1)/\N1 (Jm p q ah ai (s+1) z2 z3 ab aa)))))) ( bQ ((( J ah:Int))+(J ab))/\iB (decide (0<(( J ah:Int))+(J ab))) (z8/\iB z5 (Q .ret (L2 [pL 4] [(.bE 4,[ci 2,ci 0,.nils,.nils,ci 0,.nils,.nils,sU .bD ah (.bF (.l 4 7)),sU .cJ ab (.bF (.l 4 8)),ci 0,.nils,ci 2,ci 0,.nils,.nils,ci 0,.nils,.nils,sU .bD ai (.bF (.l 4 18)),sU .cJ aa (.bF (.l 4 19)),ci 0,.nils,.bool ae,.bool af])])) (Q .ret (L2 [pL 4] [(.bE 4,[ci 2,ci 0,.nils,.nils,ci 0,.nils,.nils,sU .bD ah (.bF (.l 4 7)),sU .cJ ab (.bF (.l 4 8)),ci 0,.nils,ci 0,ci 0,.nils,.nils,ci 0,.nils,.nils,.nils,.nils,ci 0,.nils,.bool ae,.bool af])]))) (z8/\iB z5 (Q .ret (L2 [pL 4] [(.bE 4,[ci 0,ci 0,.nils,.nils,ci 0,.nils,.nils,.nils,.nils,ci 0,.nils,ci 2,ci 0,.nils,.nils,ci 0,.nils,.nils,sU .bD ai (.bF (.l 4 18)),sU .cJ aa (.bF (.l 4 19)),ci 0,.nils,.bool ae,.bool af])])) (Q .ret (L2 [pL 4] [(.bE 4,[ci 0,ci 0,.nils,.nils,ci 0,.nils,.nils,.nils,.nils,ci 0,.nils,ci 0,ci 0,.nils,.nils,ci 0,.nils,.nils,.nils,.nils,ci 0,.nils,.bool ae,.bool af])]))))):NC N [1,1,1,1,1,0,1,0,0] (Jm p q ah ai s ae af ab aa) (xT N1 (xB 3 (MV N [1,1,1,1,1,1] Q))):=(Eq.mpr V4 (h _ (Z0 _) _ (Z0 _) _ rfl _ rfl _ rfl _ rfl _ rfl _ (Z0 _) _ (Z0 _) _ (Z0 _) _ (Z0 _)):)
abbrev ZNg(N:Nat)(p q:W):Prop:=AW (Za (wX N)) Tryz.f109 NA [] (Y5 (gM.cK (p,q,())) []) (EQ Tryz.f109 (Ek (p,q,())) [])
abbrev ZP9:Prop:=∀N(p:W)q(_:Unit),sI (p,q,())->kE (p,q,())<N+1->ZNg N p q
def MF:Zb U:=cI [[2,3,4,502,503,504],[5,6],[3,6,36,503],[2,5,36,502],[2,5,7,502,507],[(8,[.wr .op]),(9,[.wr .op])],[10],[42],[42],[10,11,12,13],[59],[59],[12],[11],[11,12],[11,12],[10,13],[93],[14,15,16,17,93],[14],[15],[16],[17,93],[5,8,10,93],[2,9,502],[7,507]]
def yF(p q:W)(ae:Int)(s ab:Bool)(aa h:List Op):bT U:=(⟨[pL 2,pL 4,(5,.c (sU .eW (ZI (Zn 0 2 p.ops) (Zn 0 2 q.ops) []).1 .bA)),pL 7,(8,.c (.mref (.e 8 0))),(9,.c (.mref (.e 9 0))),pI 10 ae],[(.bE 2,enc .aY p),(.bE 4,Dn),(.bE 7,[ci 0,ci 0,.nils,.nils,ci 0,.nils,.nils,.nils,.nils,ci 0,.nils,ci 0,ci 0,.nils,.nils,ci 0,.nils,.nils,.nils,.nils,ci 0,.nils,.bool s,.bool ab])],[(.e 8 0,LC.mk (U:=U) .op aa 0),(.e 9 0,LC.mk (U:=U) .op h 0)]⟩)
def Mc(p q:W)(ae:Int)(ab s:Bool)(h aa:List Op):bT U:=(⟨[pL 2,pL 4,(5,.c (sU .eW (ZI (Zn 0 2 p.ops) (Zn 0 2 q.ops) []).1 .bA)),pL 7,(8,.c (.mref (.e 8 0))),(9,.c (.mref (.e 9 0))),(13,.c (ci (ae+gO (((ZI (Zn 0 2 p.ops) (Zn 0 2 q.ops) []).1).drop (G ae)))))],[(.bE 2,enc .aY p),(.bE 4,Dn),(.bE 7,[ci 0,ci 0,.nils,.nils,ci 0,.nils,.nils,.nils,.nils,ci 0,.nils,ci 0,ci 0,.nils,.nils,ci 0,.nils,.nils,.nils,.nils,ci 0,.nils,.bool s,.bool ab])],[(.e 8 0,LC.mk (U:=U) .op h 0),(.e 9 0,LC.mk (U:=U) .op aa 0)]⟩)
def Ws(p q:W)(af:Int)(ae:aA U)(h ab:Bool)(aa s:List Op):bT U:=(⟨[pL 2,pL 4,(5,.c (sU .eW (ZI (Zn 0 2 p.ops) (Zn 0 2 q.ops) []).1 .bA)),pL 7,(8,.c (.mref (.e 8 0))),(9,.c (.mref (.e 9 0))),(10,.c (ci (af+gO (((ZI (Zn 0 2 p.ops) (Zn 0 2 q.ops) []).1).drop (G af))))),(93,ae)],[(.bE 2,enc .aY p),(.bE 4,Dn),(.bE 7,[ci 0,ci 0,.nils,.nils,ci 0,.nils,.nils,.nils,.nils,ci 0,.nils,ci 0,ci 0,.nils,.nils,ci 0,.nils,.nils,.nils,.nils,ci 0,.nils,.bool h,.bool ab])],[(.e 8 0,LC.mk (U:=U) .op aa 0),(.e 9 0,LC.mk (U:=U) .op s 0)]⟩)
abbrev u9(N)(p):=AW (Za (wX N)) Tryz.f110 MF p
abbrev rP(N)(p):=SW (Za (wX N)) Tryz.f110 MF p
theorem ZCU(N)(p q)(af)(s ae)(aa ab)(N0:NT)(Q:QT)(h:∀ah,ah=ZI (Zn 0 2 p.ops) (Zn 0 2 q.ops) []->let z2:=xB 1 (rP N [1,1,1,1,1,0,1,0,0,1,1] (xT N0 (xB 0 (rP N [1,1,1,1,1,1] Q))));let z1:=jJ (ah.1.drop (G af));let z0:=jO (ah.1.drop (G af));let z4:=K_ (ab,(J z0),());let z3:=decide (0<( J z0:Int));iB (decide (af<=(J ah.1))) ( ZFl ( ah.1,af,())/\Tk 3 z3 (iB (bif z3 then decide (0<( J z1:Int))else I) (Tk 2 (!s) (((!s)=Y->ZFk (z0,z1,()))/\Tt !s/\(s=I->(!s)=Y)/\K_ (aa,(J z1),())/\z4/\u9 N [1,1,1,1,1,0,1,0,0,1,0,0,1,1] (Mc p q af ae (bif s then Y else ! gw z0 z1) (aa++Jb (G (J z1))) (ab++Jb (G (J z0)))) z2)) ( Ea (aa,z0,())/\K_ ( aa++gS z0,(J z1),())/\z4/\Ea ( ab++Jb (G (J z0)),z1,())/\u9 N [1,1,1,1,1,0,1,0,0,1,0,0,1,1] (Mc p q af ae s ( aa++gS z0++Jb (G (J z1))) ( ab++Jb (G (J z0))++gS z1)) z2))) ( vA (p.V,aa,())/\vA (p.V,ab,())/\Q .ret (L2 [pL 4] [(.bE 4,enc .aY (J9 p.V aa)++enc .aY (J9 p.V ab)++[.bool s,.bool ae])]))):u9 N [1,1,1,1,1,0,1,0,0] (yF p q af s ae aa ab) (xT N0 (xB 0 (rP N [1,1,1,1,1,1] Q))):=(Eq.mpr V4 (h _ rfl):)
theorem ZCV(N)(p q)(ae)(af s)(aa ab)(N0:NT)(Q:QT)(h:∀ah,ah=ZI (Zn 0 2 p.ops) (Zn 0 2 q.ops) []->∀ak,ak=List.getD ah.1 (Int.toNat (ae+gO (ah.1.drop (G ae)))) (bK.mk 0 bJ.nil bJ.nil)->∀ai,ai=ak.p->∀aj,aj=ak.q->let z2:=xT N0 (xB 0 (rP N [1,1,1,1,1,1] Q));let z1:=decide ((ae+gO ((ah.1).drop (G ae)))<(J ah.1));let z0:=J6 dN ai aj;iB z1 ((0<=ae+gO (ah.1.drop (G ae))/\ae+gO (ah.1.drop (G ae))<(J ah.1))/\(0<=ae+gO (ah.1.drop (G ae))/\ae+gO (ah.1.drop (G ae))<(J ah.1))/\EO (ai,aj,())/\uN (ai,aj,())<N/\( J aa+J z0.x)*240<=140737488355328/\( J ab+J z0.y)*240<=140737488355328/\(s=I->(!s)=Y)/\(af=I->(!af)=Y)/\u9 N [1,1,1,1,1,0,1,0,0,1,1] (Ws p q ae .cY (bif s then Y else z0.c) (bif af then Y else z0.a) (aa++z0.x) (ab++z0.y)) z2) (u9 N [1,1,1,1,1,0,1,0,0,1,1] (Ws p q ae (.c (.bool z1)) s af aa ab) z2)):u9 N [1,1,1,1,1,0,1,0,0,1,0,0,1,1] (Mc p q ae af s aa ab) (xB 1 (rP N [1,1,1,1,1,0,1,0,0,1,1] (xT N0 (xB 0 (rP N [1,1,1,1,1,1] Q))))):=(Eq.mpr V4 (h _ rfl _ rfl _ (qp _) _ (qp _)):)
theorem Zrc(N)(p q)(af)(ah)(s ae)(ab aa)(N0:NT)(Q:QT)(h:let z0:=ZI (Zn 0 2 p.ops) (Zn 0 2 q.ops) [];bQ ((af+gO ((z0.1).drop (G af)))+1)/\N0 (yF p q ((af+gO ((z0.1).drop (G af)))+1) s ae ab aa)):u9 N [1,1,1,1,1,0,1,0,0,1,1] (Ws p q af ah s ae ab aa) (xT N0 (xB 0 (rP N [1,1,1,1,1,1] Q))):=(Eq.mpr V4 h:)
abbrev ZNf(N:Nat)(p q:W):Prop:=AW (Za (wX N)) Tryz.f110 MF [] (Y5 (gM.cK (p,q,())) []) (EQ Tryz.f110 (Eh (p,q,())) [])
abbrev ZP8:Prop:=∀N(p:W)q(_:Unit),sm (p,q,())->kE (p,q,())<N+1->ZNf N p q
def ZOh:Zb U:=cI [[2,3,502,503],[8],[16],[2,3,4,5,6,7,8,16,502,503],[2,3,4,5,6,7,8,28,502,503],[2,3,4,5,6,7,8,28,502,503],[2,3,4,5,6,7,8,40,502,503],[2,3,4,5,6,7,8,40,502,503],[2,3,4,5,6,7,8,48,502,503],[2,3,4,5,6,7,8,48,502,503],[2,3,4,5,6,7,56,502,503],[2,3,4,5,6,7,56,502,503],[2,3,4,5,6,7,71,502,503],[2,3,10,71,502,503],[4,5,6,7,10],[2,3,4,5,6,7,85,502,503],[2,3,12,85,502,503],[4,5,6,7,12],[4,5,6,7,13,513],[4,5,6,7,13,513]]
abbrev ZN3(N:Nat)(p q:bJ):Prop:=AW (Za (wX N)) Tryz.f162 ZOh [] (Y5 (vQ.cK (p,q,())) []) (EQ Tryz.f162 (D1 (p,q,())) [])
abbrev ZOY:Prop:=∀N(p:bJ)q(_:Unit),EO (p,q,())->uN (p,q,())<N+1->ZN3 N p q
theorem ZJc(vh:CT 135 ui)(qz:CT 151 l4)(zf:CT 152 EN)(BL:CT 156 DE)(BZ:CT 157 Dy)(BA:CT 201 Eu)(vC:CT 136 sT)(ZRZ:CT 108 Sw)(VR:CT 153 VI)(U6:CT 154 Rn)(UB:CT 155 OR)(Tq:CT 158 R_)(R8:CT 159 VQ)(OS:CT 160 WN)(R5:CT 161 WZ)(Ou:CT 163 AI)(PT:CT 202 zO)(To:ZW7)(PG:ZP9)(RB:ZP8)(Vq:ZOY):CT 68 NM/\CT 109 ZxF/\CT 110 ZxE/\CT 162 Zxw:=by
 have af:FK 68:=⟨Tryz.f68,Tryz.func68,rfl,rfl⟩;have aa:FK 109:=⟨Tryz.f109,Tryz.func109,rfl,rfl⟩;have ab:FK 110:=⟨Tryz.f110,Tryz.func110,rfl,rfl⟩;have ae:FK 162:=⟨Tryz.f162,Tryz.func162,rfl,rfl⟩;have s:∀N,CT 68 (fs gM (λa=>[jI a,sL a<N]) DI)/\CT 109 (fs gM (λa=>[sI a,kE a<N]) Ek)/\CT 110 (fs gM (λa=>[sm a,kE a<N]) Eh)/\CT 162 (fs vQ (λa=>[EO a,uN a<N]) D1):=by intro N;induction N with|zero=>exact⟨YU af,YU aa,YU ab,YU ae⟩|succ N ih=>have kn:=mD (l:=xH N) ⟨ih.1,ih.2.1,ih.2.2.1,ih.2.2.2,vh,qz,zf,BL,BZ,BA,vC,ZRZ,VR,U6,UB,Tq,R8,OS,R5,Ou,PT,trivial⟩;exact⟨Zt (Γ:=Za (xH N)) ZN rfl kn ZUb Tryz.func68 rfl rfl λa=>by show 2<=_;decide λ⟨p,q,_⟩h=>To N p q () h.1 h.2.1,Zt (Γ:=Za (xH N)) ZN rfl kn NA Tryz.func109 rfl rfl λa=>by show 2<=_;decide λ⟨p,q,_⟩h=>PG N p q () h.1 h.2.1,Zt (Γ:=Za (xH N)) ZN rfl kn MF Tryz.func110 rfl rfl λa=>by show 2<=_;decide λ⟨p,q,_⟩h=>RB N p q () h.1 h.2.1,Zt (Γ:=Za (xH N)) ZN rfl kn ZOh Tryz.func162 rfl rfl λa=>by show 2<=_;decide λ⟨p,q,_⟩h=>Vq N p q () h.1 h.2.1⟩
 exact⟨YV af λN=>(s N).1,YV aa λN=>(s N).2.1,YV ab λN=>(s N).2.2.1,YV ae λN=>(s N).2.2.2⟩
