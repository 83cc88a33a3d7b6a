import Derived.Test.YtpjenobkibfpcaaGreatYG30b
import Derived.Test.YtpjenobkibfpcaaGreatZCL30r
import Derived.Test.YtpjenobkibfpcaaGreatZCD40
set_option linter.all false
open Option renaming some->A,none->aT
open Bool renaming true->Y,false->I
open List renaming length->J,getD->aR
open Int renaming toNat->G
namespace Go.AM.YtpjenobkibfpcaaGreat
open Go.AM Go.Proofs
theorem To:ZW7:=by
 intro N p q _ hp hN;obtain⟨op,oq⟩:=hp;dsimp only at op oq;have ay:8*(Z1 p+Z1 q)+1<N+1:=hN;obtain⟨dp,rp⟩:=op.2.2;obtain⟨dq,rq⟩:=oq.2.2;have aa:=ZEV rp rq;unfold nh at aa;have gp:=Zp op.2.1;have gq:=Zp oq.2.1;have cp:=Ji p;have cq:=Ji q;have a5:=op.1;have a4:=oq.1;have cC:∀{aC:dv}{s:bT U},dN p q=aC->ZB M Tryz.f68.ntmps Tryz.f68.results.toList (.agg (enc .left (jt aC))) [] .ret s->ZB M Tryz.f68.ntmps Tryz.f68.results.toList (DI (p,q,())) [] .ret s:=by intro aC s h hs;subst h;exact hs
 refine wV (λQ=>∀ae,ae=p->∀ab,ab=q->∀ai,ai=p.new->∀ak,ak=q.new->∀af,af=p.bH->∀ah,ah=q.bH->Tk 2 (! p.D==0) (((p.D==0)=I->! p.D==0=Y)/\iB (bif p.D==0 then Y else q.D==0) (Q .ret (L2 [pL 4] [(.bE 4,enc .aY p++enc .aY q++[.bool I,.bool I])])) (iB (p.D==1) ( OP (ab,af,ai,())/\Q .ret (L2 [pL 4] [(.bE 4,enc .left (jt (qd ab af ai)))])) (iB (q.D==1) ( OP (ae,ah,ak,())/\Q .ret (L2 [pL 4] [(.bE 4,enc .left (jt (qd ae ah ak)))])) (iB (p.D !=q.D) (Q .ret (L2 [pL 4] [(.bE 4,[ci 0,ci 0,.nils,.nils,ci 0,.nils,.nils,.nils,.nils,ci 0,.nils,ci 0,ci 0,.nils,.nils,ci 0,.nils,.nils,.nils,.nils,ci 0,.nils,.bool I,.bool Y])])) (iB (p.D==2) ( sI (ae,ab,())/\kE (ae,ab,())<N/\Q .ret (L2 [pL 4] [(.bE 4,enc .left (jt (l6 dN ae ab)))])) ( sm (ae,ab,())/\kE (ae,ab,())<N/\Q .ret (L2 [pL 4] [(.bE 4,enc .left (jt (n6 dN ae ab)))])))))))) ?_ λ_ h=>Eq.mpr V4 (h _ (Z0 _) _ (Z0 _) _ (Z7 _) _ (Z7 _) _ (Z7 _) _ (Z7 _));intro y1 h1 y2 h2 y3 h3 y4 h4 y5 h5 y6 h6;replace h1:=h1.symm;replace h2:=h2.symm;subst h1 h2 h3 h4 h5 h6;(simp only[iB,bR,bW]);refine⟨λh0=>cC (aC:=⟨p,q,I,I⟩) (by rw[aa,Q5 h0]) V0,λh0=>?_⟩;rw[Q0 O]at aa;refine⟨λp1=>⟨⟨oq,⟨V2,gp.1⟩,V2⟩,cC (aC:=qd q p.bH p.new) (by rw[aa,if_pos p1]) V0⟩,λp1=>?_⟩;rw[Q0 p1]at aa;refine⟨λq1=>⟨⟨op,⟨V2,gq.1⟩,V2⟩,cC (aC:=qd p q.bH q.new) (by rw[aa,if_pos q1]) V0⟩,λq1=>?_⟩;rw[Q0 q1]at aa;refine⟨λhk=>cC (aC:=⟨W.nil,W.nil,I,Y⟩) (by rw[aa,Q5 hk]) V0,λhk=>?_⟩;rw[Q0 O]at aa;refine⟨λp2=>?_,λp2=>?_⟩;.rw[Q5 p2]at aa;exact⟨⟨p2,V2,op,oq⟩,by show 8*(Z1 p+Z1 q)<N;omega,cC (aC:=l6 dN p q) aa V0⟩
 .rw[Q0 p2]at aa;have:=(Zc rp).D;exact⟨⟨V2,V2,op,oq⟩,by show 8*(Z1 p+Z1 q)<N;omega,cC (aC:=n6 dN p q) aa V0⟩
theorem Vq:ZOY:=by
 intro N p q _ hp hN;obtain⟨⟨op,oq⟩,np,nq⟩:=hp;dsimp only at op oq np nq;have bb:8*(Z1 p.e+Z1 q.e)+2<N+1:=hN;obtain⟨kp,mp,gp,rp⟩:=op;obtain⟨kq,mq,gq,rq⟩:=oq;have cC:∀{aC:PL}{s:bT U},J6 dN p q=aC->ZB M Tryz.f162.ntmps Tryz.f162.results.toList (.tup [(I,[.slice (U:=U) .op aC.x .bA]),(I,[.slice (U:=U) .op aC.y .bA]),(I,[.bool aC.c]),(I,[.bool aC.a])]) [] .ret s->ZB M Tryz.f162.ntmps Tryz.f162.results.toList (D1 (p,q,())) [] .ret s:=by intro aC s h hs;subst h;exact hs
 have hu:=J6.eq_1 dN p q;refine wV (λQ=>∀ak,ak=p->∀aj,aj=q->∀aa,aa=p.e->∀ab,ab=q.e->∀af,af=p.t->∀ah,ah=q.t->∀aq,aq=cP ak->∀ar,ar=cP aj->∀ao,ao=dD.x (jt (dN aa ab))->∀ai,ai=dD.y (jt (dN aa ab))->∀am,am=jP ao->∀al,al=jP ai->let z0:=sU .op [bI.mk 0 1 [] (W.mk 0 (H.mk 0 [] []) (H.mk 0 [] []) [] [] 0 [])] .cU;Tk 3 (p.D==0) (iB (bif p.D==0 then q.D==1 else I) ( uv (aj,())/\Q .ret (L2 [(4,.c .nils),(5,.c (sU .op [ar] .cU)),pB 6 I,pB 7 I] [])) (Tk 3 (p.D==1) (iB (bif p.D==1 then q.D==0 else I) ( uv (ak,())/\Q .ret (L2 [(4,.c (sU .op [aq] .cU)),(5,.c .nils),pB 6 I,pB 7 I] [])) (iB (p.D==0) ( uv (aj,())/\Q .ret (L2 [(4,.c z0),(5,.c (sU .op [ar] .cU)),pB 6 I,pB 7 I] [])) (iB (q.D==0) ( uv (ak,())/\Q .ret (L2 [(4,.c (sU .op [aq] .cU)),(5,.c z0),pB 6 I,pB 7 I] [])) (Tk 3 (p.D==1) (iB (bif p.D==1 then q.D==1 else I) ( kM (af,ah,())/\Q .ret (L2 [(4,.c .nils),(5,.c .nils),pB 6 I,pB 7 ! ZW (Z2 af) (Z2 ah)] [])) (iB (p.D==1) ( gg (ab,af,())/\Q .ret (L2 [(4,.c .nils),(5,.c .nils),pB 6 Y,pB 7 !(bX Y ab af).isSome] [])) (iB (q.D==1) ( gg (aa,ah,())/\Q .ret (L2 [(4,.c .nils),(5,.c .nils),pB 6 Y,pB 7 !(bX Y aa ah).isSome] [])) ( jI (aa,ab,())/\sL (aa,ab,())<N/\Df (ao,())/\Df (ai,())/\Q .ret (L2 [(4,.c (sU .op [am] .cU)),(5,.c (sU .op [al] .cU)),pB 6 (dD.mi (jt (dN aa ab))),pB 7 (dD.apart (jt (dN aa ab)))] [])))))))))))) ?_ λ_ h=>Eq.mpr V4 (h _ (qp _) _ (qp _) _ (Z0 _) _ (Z0 _) _ (Z7 _) _ (Z7 _) _ (Yp _) _ (Yp _) _ (Z0 _) _ (Z0 _) _ (Yp _) _ (Yp _));intro y1 h1 y2 h2 y3 h3 y4 h4 y5 h5 y6 h6 y7 h7 y8 h8 y9 h9 be au ba aw a2 ax;replace h1:=h1.symm;replace h2:=h2.symm;subst h1 h2 h3 h4 h5 h6 h7 h8 h9 au aw ax;(simp only[iB,bR,bW]);refine⟨λc=>⟨trivial,cC (by rw[hu,Q5 c]) V0⟩,λc=>?_⟩;rw[Q0 O]at hu;refine⟨λc=>⟨trivial,cC (by rw[hu,Q5 c]) V0⟩,λc=>?_⟩;rw[Q0 O]at hu;refine⟨λc=>⟨trivial,cC (by rw[hu,Q5 c]) V0⟩,λp0=>?_⟩;rw[Q0 p0]at hu;refine⟨λc=>⟨trivial,cC (by rw[hu,Q5 c]) V0⟩,λq0=>?_⟩;rw[Q0 q0]at hu;refine⟨λc=>⟨⟨V2,V2⟩,cC (by rw[hu,if_pos c]) V0⟩,λc=>?_⟩;rw[Q0 O]at hu;refine⟨λp1=>?_,λp1=>?_⟩;.rw[Q5 p1]at hu;exact⟨yx (rq O) O gp,cC hu V0⟩
 rw[Q0 p1]at hu;refine⟨λq1=>?_,λq1=>?_⟩;.rw[Q5 q1]at hu;exact⟨yx (rp O) O gq,cC hu V0⟩
 .rw[Q0 q1]at hu;exact⟨⟨rp O,rq O⟩,by show 8*(Z1 p.e+Z1 q.e)+1<N;omega,trivial,trivial,cC hu V0⟩
def φM(o:Op):Int:=Ze o.l
theorem T4:∀l,(l.map λt=>((Zo t):Int)).sum=Ze l|[]=>rfl|t::r=>by rw[Qu,Kr,T4 r];simp only[Ze];omega
theorem ZTM{o}(h:ZH o):ZG φM (ux o)=φM o:=by
 rcases Zx h with k|k|k|k
 .obtain⟨e,s⟩:=tR h k.1;have hl:o.l=[]:=by rcases h with h|h|h<;>first|exact h.2.1|omega
  rw[e,C3];unfold φM;rw[hl];simp[Ze]
 .rw[iP (.inl k),qI φM _ (λt=>((Zo t:Nat):Int)) λt=>by unfold φM;simp[Ze],T4];try rfl
 .rw[iP (.inr k),qI φM _ (λt=>((Zo t:Nat):Int)) λt=>by unfold φM;simp[Ze],T4];try rfl
 .obtain⟨e1,e2⟩:=nd h k;rw[e1,<-e2];simp[ZG]
theorem ZtN:∀l,ZG φM l<=Zq l|[]=>Qz _|o::r=>by have:=ZtN r;have:=ZZ o;simp only[ZG,Zq,φM];omega
theorem Znh:∀r,(∀x∈r,x.of=1->x.p.D=2)->(Ze (jO r))<=ZG φM (pU r)
 |[],_=>Qz _|x::r,h=>by
  have ih:=Znh r λy s=>h y (Q4 _ s);have n0:0<=ZG φM (pU r):=AQ λo _=>by unfold φM;omega
  rw[jO];by_cases h0:x.of=0;.rw[Q5 h0,Bm O];simp only[ZG,Ze,φM];omega
  rw[Q0 h0];by_cases h1:x.of=1
  .have k:=h x Q6 h1;have el:(cP x.p).l=[x.p.t]:=by unfold cP;rw[V5,V5]
   rw[Q5 h1,Bm O];simp only[ZG,Ze,φM,el];omega
  .rw[Q0 h1];by_cases h2:x.of=2;.rw[V8 h2];exact ih
   .rw[Bm h2];simp only[ZG,φM];omega
theorem Zng:∀r,(∀x∈r,x.of=0\/x.of=1\/x.of=2)->(∀x∈r,x.of=2->x.q.D=2)->(Ze (jJ r))<=ZG φM (qU r)
 |[],_,_=>Qz _|x::r,h3,h=>by
  have ih:=Zng r (λy s=>h3 y (Q4 _ s)) λy s=>h y (Q4 _ s);have n0:0<=ZG φM (qU r):=AQ λo _=>by unfold φM;omega
  rw[jJ];by_cases h0:x.of=0;.rw[Q5 h0,ED O];simp only[ZG,Ze,φM];omega
  rw[Q0 h0];by_cases h1:x.of=1;.rw[Q5 h1,WH h1];exact ih
  .have h2:x.of=2:=by have:=h3 x Q6;omega
   have k:=h x Q6 h2;have el:(cP x.q).l=[x.q.t]:=by unfold cP;rw[V5,V5]
   rw[Q0 h1,ED h1];simp only[ZG,Ze,φM,el];omega
theorem ZIU(r)(n):ZG φM (pU (r.drop n))<=ZG φM (pU r)/\ZG φM (qU (r.drop n))<=ZG φM (qU r):=by
 have a:pU r=pU (r.take n)++pU (r.drop n):=by unfold pU;rw[<-List.map_append,<-List.filter_append,List.take_append_drop]
 have b:qU r=qU (r.take n)++qU (r.drop n):=by unfold qU;rw[<-List.map_append,<-List.filter_append,List.take_append_drop]
 have s:0<=ZG φM (pU (r.take n)):=AQ λo _=>by unfold φM;omega
 have h:0<=ZG φM (qU (r.take n)):=AQ λo _=>by unfold φM;omega
 rw[a,b,zd,zd];omega
def HN(ps:List bK)(i:Int)(c a:Bool)(x y:List Op):Prop:=(0<=i/\i<=J ps+1)/\g9 dN ps [] []=(PL.mk x y c a).dw (if i<=J ps then g9 dN (ps.drop (G i)) [] []else B7)/\(J x)<=3*i/\(J y)<=3*i
theorem ZKv(m h):(Jd m h).x.length<=2/\(Jd m h).y.length<=2:=by
 have k:∀n,J (Jb n)<=1:=λn=>by unfold Jb;split<;>simp
 have i:∀l,J (gS l)<=1:=λl=>by unfold gS;split<;>simp
 have k1:=k (J m);have k2:=k (J h);have s:=i m;have i2:=i h;unfold Jd;split;.exact⟨V2,V2⟩
 .simp only[Qi];omega
theorem ZDd(p q):(J6 dN p q).x.length<=1/\(J6 dN p q).y.length<=1:=by unfold J6;repeat'(first|(split;simp)|simp)
set_option maxHeartbeats 2000000 in theorem RB:ZP8:=by
 intro N p q _ hp hN;obtain⟨k3,l3,op,oq⟩:=hp;dsimp only at k3 l3 op oq;have b8:8*(Z1 p+Z1 q)<N+1:=hN;obtain⟨dp,ay⟩:=op.2.2;obtain⟨dq,av⟩:=oq.2.2;have cp:=Ji p;have cq:=Ji q;have ck:=op.1;have b7:=oq.1;have ak:=Zr ay;have am:=Zr av;have s1:=GX ay;have s2:=GX av;have n1:=CA ak;have n2:=CA am;have u1:=BQ 2 p.ops 0 ak;have u2:=BQ 2 q.ops 0 am;have m1:=u6 p.ops;have m2:=u6 q.ops;have cC:∀{aC:dv}{s:bT U},n6 dN p q=aC->ZB M Tryz.f110.ntmps Tryz.f110.results.toList (.agg (enc .left (jt aC))) [] .ret s->ZB M Tryz.f110.ntmps Tryz.f110.results.toList (Eh (p,q,())) [] .ret s:=by intro aC s h hs;subst h;exact hs
 have hL:n6 dN p q=if(ZI (Zn 0 2 p.ops) (Zn 0 2 q.ops) []).2=Y/\p.V=q.V then⟨J9 p.V (g9 dN (ZI (Zn 0 2 p.ops) (Zn 0 2 q.ops) []).1 [] []).x,J9 p.V (g9 dN (ZI (Zn 0 2 p.ops) (Zn 0 2 q.ops) []).1 [] []).y,(g9 dN (ZI (Zn 0 2 p.ops) (Zn 0 2 q.ops) []).1 [] []).c,(g9 dN (ZI (Zn 0 2 p.ops) (Zn 0 2 q.ops) []).1 [] []).a⟩else⟨W.nil,W.nil,I,Y⟩:=rfl;refine wV (λQ=>let z0:=!(ZI (Zn 0 2 p.ops) (Zn 0 2 q.ops) []).2;Bb (p.ops,2,())/\Bb (q.ops,2,())/\GG ( Zn 0 2 p.ops,Zn 0 2 q.ops,())/\Tk 4 (!z0) ((z0=I->(!z0)=Y)/\iB (bif z0 then Y else p.V !=q.V) (Q .ret (L2 [pL 4] [(.bE 4,[ci 0,ci 0,.nils,.nils,ci 0,.nils,.nils,.nils,.nils,ci 0,.nils,ci 0,ci 0,.nils,.nils,ci 0,.nils,.nils,.nils,.nils,ci 0,.nils,.bool I,.bool Y])])) (Zi (u9 N [1,1,1,1,1,0,1,0,0]) (yF p q 0 I I [] []) (xB 0 (rP N [1,1,1,1,1,1] Q))))) ?_ λ_ h=>Eq.mpr V4 h;(simp only[iB,bR,bW]);have bh:Zq p.ops<=20000000000:=O;have bn:Zq q.ops<=20000000000:=O;refine⟨⟨⟨ak,bh⟩,V2⟩,⟨⟨am,bn⟩,V2⟩,⟨V2,V2⟩,λhb=>?_,λhb=>?_⟩
 .refine cC (aC:=⟨W.nil,W.nil,I,Y⟩) ?_ V0;rw[hL,Q0];rintro⟨h1,h2⟩;rcases hb with h|h;.rw[h1]at h;cases h
  .exact h h2
 .obtain⟨r,er,⟨e1,e2⟩,hr⟩:=ZmC _ _ _ _ (Qa _) hb.1;rw[Qn]at er;rw[Q5 hb,er]at hL;have pl:=ZmB _ (Zn 0 2 p.ops) (Zn 0 2 q.ops) [] (Qa _);rw[er]at pl;have pl:J r<=8000000:=by simp only[Ql]at pl;omega
  have f1:pU r=p.ops.flatMap ux:=by rw[<-Ae 2 p.ops 0,<-e1,QP];try rfl
  have f2:qU r=q.ops.flatMap ux:=by rw[<-Ae 2 q.ops 0,<-e2,QP];try rfl
  have a9:∀x∈r,x.of=0\/x.of=1\/x.of=2:=λx hx=>by rcases hr x hx with h|h|h<;>omega
  have o1:∀x∈r,x.of=1->x.p.D=2:=λx hx h=>by
   rcases hr x hx with⟨_,m,a⟩|⟨h',_⟩|⟨h',_⟩;.exact xG m a
   .omega
   .omega
  have o2:∀x∈r,x.of=2->x.q.D=2:=λx hx h=>by
   rcases hr x hx with⟨h',_⟩|⟨_,m,a⟩|⟨h',_⟩;.omega
   .exact xG m a
   .omega
  have gm:∀i:Nat,Ze (jO (r.drop i))<=20000000000/\Ze (jJ (r.drop i))<=20000000000:=by intro i;have a:=Znh (r.drop i) λx hx=>o1 x (Xb hx);have b:=Zng (r.drop i) (λx hx=>a9 x (Xb hx)) λx hx=>o2 x (Xb hx);obtain⟨d1,d2⟩:=ZIU r i;rw[f1,uA φM (λo=>ZTM) ak]at d1;rw[f2,uA φM (λo=>ZTM) am]at d2;have:=ZtN p.ops;have:=ZtN q.ops;omega
  refine Z5 (ι:=Int×Bool×Bool×List Op×List Op) (λs=>yF p q s.1 s.2.1 s.2.2.1 s.2.2.2.1 s.2.2.2.2) (λs=>HN r s.1 s.2.1 s.2.2.1 s.2.2.2.1 s.2.2.2.2) (λs=>G (( J r:Int)+1-s.1)) (0,I,I,[],[]) rfl ⟨⟨V2,V2⟩,?_,by simp,by simp⟩ ?_;.dsimp only;rw[Q5 O];exact(PL.og _).symm
  rintro⟨i,c,a,x,y⟩⟨⟨i0,i1⟩,f3,lx,ly⟩;dsimp only at i0 i1 f3 lx ly;have a5:∀(c1:Bool)(x1 y1:List Op)(N0:bT U->Prop)(Q:c9->bT U->Prop),i<=J r->x1=x++(Jd (jO (r.drop (G i))) (jJ (r.drop (G i)))).x->y1=y++(Jd (jO (r.drop (G i))) (jJ (r.drop (G i)))).y->c1=(c||(Jd (jO (r.drop (G i))) (jJ (r.drop (G i)))).c)->(∀(i':Int)(c' a':Bool)(x' y':List Op),HN r i' c' a' x' y'->i<i'->N0 (yF p q i' c' a' x' y'))->u9 N [1,1,1,1,1,0,1,0,0,1,0,0,1,1] (Mc p q i a c1 x1 y1) (c9.inBlock 1 (rP N [1,1,1,1,1,0,1,0,0,1,1] (c9.then N0 (c9.inBlock 0 (rP N [1,1,1,1,1,1] Q))))):=by
   intro c1 x1 y1 N0 Q hi az au a4 a8;rw[Q5 hi]at f3;rw[Zsc dN _ [] [] λx hx=>a9 x (Xb hx),Xt,Qn,Qn]at f3;have gc:=F_ (r.drop (G i));rw[QI]at gc;rw[show G i+G (gO (r.drop (G i)))=G (i+gO (r.drop (G i)))by omega]at f3;obtain⟨g1,g2⟩:=ZKv (jO (r.drop (G i))) (jJ (r.drop (G i)));have ga:(Jd (jO (r.drop (G i))) (jJ (r.drop (G i)))).a=I:=by unfold Jd;split<;>rfl
   have br:J x1<=J x+2:=by rw[az,Qi];omega
   have bz:J y1<=J y+2:=by rw[au,Qi];omega
   refine ZCV N _ _ _ _ _ _ _ _ _ ?_;intro z1 q1 z2 q2 z3 q3 z4 q4;have qr:z1.1=r:=by rw[q1];exact er
   simp only[qr]at q2⊢;subst q3 q4;(simp only[iB,bR,bW]);refine⟨λao=>?_,λao=>?_⟩
   .have hd:r.drop (G (i+gO (r.drop (G i))))=z2::r.drop (G (i+gO (r.drop (G i))+1)):=by rw[q2];exact ZO O ao _
    rw[hd]at f3;dsimp only at f3;have a6:z2∈r:=by rw[q2];exact Zh O _
    have h0:z2.of=0:=Zze (r.drop (G i)) _ z2 (by rw[Xt,show G i+G (gO (r.drop (G i)))=G (i+gO (r.drop (G i)))by omega];exact hd);rcases hr z2 a6 with⟨h,_⟩|⟨h,_⟩|⟨_,⟨m1,a1⟩,m2,a2⟩;.omega
    .omega
    obtain⟨b1,a3,ax⟩:=sN ak m1;obtain⟨b2,a7,aw⟩:=sN am m2;have w1:=(uG ay a3 ax).1;have w2:=(uG av a7 aw).1;obtain⟨cg,cb⟩:=ZDd z2.p z2.q;refine⟨⟨O,ao⟩,⟨O,ao⟩,⟨⟨NO op a3 ax,NO oq a7 aw⟩,λk=>?_,λk=>?_⟩,by show 8*(Z1 z2.p.e+Z1 z2.q.e)+2<N;omega,O,O,?_⟩;.have k:z2.p.D=2:=k;have:=ax.bV (.inr k);rw[a1,QD k]at this;cases this
    .have k:z2.q.D=2:=k;have:=aw.bV (.inr k);rw[a2,QD k]at this;cases this
    refine Zrc N _ _ _ _ _ _ _ _ _ _ ?_;simp only[er];refine⟨V3,a8 _ _ _ _ _ ⟨⟨O,O⟩,?_,by rw[List.length_append];omega,by rw[List.length_append];omega⟩ O⟩;rw[Q5 O,f3,az,au,a4];simp[PL.dw,ga,XQ]
   .rw[Qb O]at f3;dsimp only at f3;refine Zrc N _ _ _ _ _ _ _ _ _ _ ?_;simp only[er];refine⟨V3,a8 _ _ _ _ _ ⟨⟨O,O⟩,?_,O,O⟩ O⟩;rw[Q0 O,f3,az,au,a4,PL.jD];simp[PL.dw,ga]
  refine ZCU N p q _ _ _ _ _ _ _ ?_;intro z1 q1;have qr:z1.1=r:=by rw[q1];exact er
  simp only[qr];(simp only[iB,bR,bW]);obtain⟨ma,mb⟩:=gm (G i);have la:=Zs (jO (r.drop (G i)));have lb:=Zs (jJ (r.drop (G i)));have nx:∀(i':Int)(c' a':Bool)(x' y':List Op),i<=J r->HN r i' c' a' x' y'->i<i'->∃j:Int×Bool×Bool×List Op×List Op,yF p q i' c' a' x' y'=yF p q j.1 j.2.1 j.2.2.1 j.2.2.2.1 j.2.2.2.2/\HN r j.1 j.2.1 j.2.2.1 j.2.2.2.1 j.2.2.2.2/\G (( J r:Int)+1-j.1)<G (( J r:Int)+1-i):=by intro i' c' a' x' y' hi hI b6;exact⟨(i',c',a',x',y'),rfl,hI,V2⟩
  generalize hA:jO (r.drop (G i))=aD at*;generalize hB:jJ (r.drop (G i))=B at*;refine⟨λhi=>⟨⟨i0,hi,V2⟩,λhg=>?_,λhg=>?_⟩,λhi=>?_⟩
  .have e:Jd aD B=⟨Jb (J B),Jb (J aD),!gw aD B,I⟩:=by
    unfold Jd;rw[Q5 ⟨by rintro rfl;simp at hg,by rintro rfl;simp at hg⟩]
   refine⟨λ_=>⟨V2,V2⟩,⟨V2,V2⟩,⟨V2,V2⟩,a5 _ _ _ _ _ hi (by rw[e];simp) (by rw[e];simp) (by rw[e];cases c<;>rfl) λi' c' a' x' y'=>nx i' c' a' x' y' hi⟩
  .have e:Jd aD B=⟨gS aD++Jb (J B),Jb (J aD)++gS B,I,I⟩:=by unfold Jd;rw[Q0];rintro⟨h1,h2⟩;have:=XK.2 h1;have:=XK.2 h2;omega
   have i1:J (gS aD)<=1:=by unfold gS;split<;>simp
   have k1:J (Jb (J aD))<=1:=by unfold Jb;split<;>simp
   refine⟨by dsimp only[Ea];omega,⟨by simp only[List.length_append];omega,V2⟩,⟨V2,V2⟩,by dsimp only[Ea];rw[List.length_append];simp only[Int.toNat_natCast];omega,a5 _ _ _ _ _ hi (by rw[e];simp) (by rw[e];simp) (by rw[e];simp) λi' c' a' x' y'=>nx i' c' a' x' y' hi⟩
  .rw[Q0 O,PL.jD]at f3;refine⟨by dsimp only[vA];omega,by dsimp only[vA];omega,cC (aC:=⟨J9 p.V x,J9 p.V y,c,a⟩) (by rw[hL,f3]) V0⟩
def iC{α:Type}(s t:List α×List α×Bool×Bool):List α×List α×Bool×Bool:=(s.1++t.1,s.2.1++t.2.1,s.2.2.1||t.2.2.1,s.2.2.2||t.2.2.2)
theorem Znb{α}(s t u:List α×List α×Bool×Bool):iC (iC s t) u=iC s (iC t u):=by simp[iC,XQ]
theorem Zza{α}(s:List α×List α×Bool×Bool):iC s ([],[],I,I)=s:=by simp[iC]
theorem ZJ9{α}(s:List α×List α×Bool×Bool):iC ([],[],I,I) s=s:=by simp[iC]
noncomputable def sZ(p q:List aV)(n:Int):List aV×List aV×Bool×Bool:=match JZ p n,JZ q n with|some a,aT=>([a],[],I,I)|none,A b=>([],[b],I,I)|some a,A b=>(Mi a b,Mi b a,jH a b,YB a b)|none,aT=>([],[],I,I)
theorem Zs1(p q)(n)(r):YX p q (n::r)=iC (sZ p q n) (YX p q r):=by rw[YX];unfold sZ iC;cases JZ p n<;>cases JZ q n<;>simp
noncomputable def wI(f:W->W->dv)(p q:List bP)(n:Int):List bP×List bP×Bool×Bool:=(iX n (f (Yc p n) (Yc q n)).x,iX n (f (Yc p n) (Yc q n)).y,(f (Yc p n) (Yc q n)).c,(f (Yc p n) (Yc q n)).a)
theorem Zs2(f)(p q)(n)(r):JA f p q (n::r)=iC (wI f p q n) (JA f p q r):=rfl
theorem ZIR(e):dN e W.nil=⟨e,W.nil,I,I⟩:=PO (Z1 e+2) e
theorem ZEW(e):dN W.nil e=⟨W.nil,e,I,I⟩:=by unfold dN;rw[MO,show 3+Z1 e=Z1 e+2+1 by omega];exact Ts _ e
theorem Zss:∀k(a b:List Int),J a+J b<=k->J (Y7 a b)<=J a+J b:=by
 intro k;induction k with
 |zero=>intro a b h;have e1:a=[]:=Q7 O;have e2:b=[]:=Q7 O;subst e1 e2;rw[Y7];simp|succ k ih=>intro a b h;match a,b with
  |[],b=>rw[Y7];simp|x::a,[]=>rw[qv];simp|x::a,y::b=>
   simp only[Qd]at h;rw[Y7];have s:=ih a (y::b) (by simp only[Qd];omega);have h2:=ih (x::a) b (by simp only[Qd];omega);have h3:=ih a b O;simp only[Qd]at s h2⊢;split;.simp only[Qd];omega
   .split;.simp only[Qd];omega
    .simp only[Qd];omega
theorem Zzw(a b:Int):(a !=b)=decide (a≠b):=by rw[QA];simp
set_option maxHeartbeats 2000000 in theorem PG:ZP9:=by
 intro N p q _ hp hN;obtain⟨k2,l2,op,oq⟩:=hp;dsimp only at k2 l2 op oq;have cv:8*(Z1 p+Z1 q)<N+1:=hN;obtain⟨dp,rp⟩:=op.2.2;obtain⟨dq,rq⟩:=oq.2.2;have cp:=Ji p;have cq:=Ji q;have c8:=op.1;have cn:=oq.1;have kl:=λl=>Bk l;have a1:J p.aS<=1000000/\J q.aS<=1000000:=⟨O,O⟩;have kn:∀l:List bP,65600*J l<=gY l:=by intro l;induction l with|nil=>simp|cons a r ih=>simp only[Qd,gY,tt];omega
 have c5:=kn p.X;have ck:=kn q.X;have az:J p.X<=1000000/\J q.X<=1000000:=⟨O,O⟩;generalize hw:Y7 (p.aS.map aV.S) (q.aS.map aV.S)=wn;generalize hk:Y7 (p.X.map aW.S) (q.X.map aW.S)=kn';have cw:J wn<=2000000:=by rw[<-hw];have:=Zss _ (p.aS.map aV.S) (q.aS.map aV.S) (Qa _);simp only[QF]at this;omega
 have cl:J kn'<=2000000:=by rw[<-hk];have:=Zss _ (p.X.map aW.S) (q.X.map aW.S) (Qa _);simp only[QF]at this;omega
 have cC:∀{aC:dv}{s:bT U},l6 dN p q=aC->ZB M Tryz.f109.ntmps Tryz.f109.results.toList (.agg (enc .left (jt aC))) [] .ret s->ZB M Tryz.f109.ntmps Tryz.f109.results.toList (Ek (p,q,())) [] .ret s:=by intro aC s h hs;subst h;exact hs
 refine wV (λQ=>Um ( W.mk p.D (H.mk p.bH.D p.bH.aS p.bH.X) (H.mk p.new.D p.new.aS p.new.X) p.aS p.X p.V p.ops,W.mk q.D (H.mk q.bH.D q.bH.aS q.bH.X) (H.mk q.new.D q.new.aS q.new.X) q.aS q.X q.V q.ops,())/\Zi (NC N [1,1,1,1,0,1,0,0]) (uZ p q 0 I I [] []) (xB 0 (MV N [1,1,1,1,1] Q))) ?_ λ_ h=>Eq.mpr V4 h;(simp only[vE]);refine⟨⟨⟨a1.1,az.1⟩,a1.2,az.2⟩,?_⟩;refine Z5 (ι:=Int×Bool×Bool×List aV×List aV) (λs=>uZ p q s.1 s.2.1 s.2.2.1 s.2.2.2.1 s.2.2.2.2) (λs=>(0<=s.1/\s.1<=J wn)/\YX p.aS q.aS wn=iC (s.2.2.2.1,s.2.2.2.2,s.2.1,s.2.2.1) (YX p.aS q.aS (wn.drop (G s.1)))/\( J s.2.2.2.1:Int)<=s.1/\( J s.2.2.2.2:Int)<=s.1) (λs=>G (( J wn:Int)-s.1)) (0,I,I,[],[]) rfl ⟨by simp,by exact(ZJ9 _).symm,by simp,by simp⟩ ?_;rintro⟨i,c,a,aC,aH⟩⟨⟨i0,i1⟩,f3,lx,ly⟩;dsimp only at i0 i1 f3 lx ly;refine ZCX N p q _ _ _ _ _ _ _ ?_;intro y1 h1 y2 h2 y3 h3 y4 h4 y5 h5 y6 h6 y7 h7 y8 h8 y9 h9;subst h1 h2;rw[hw]at h3;subst h3;subst h7 h8 h9;(simp only[iB,bR,bW]);refine⟨λhi=>?_,λhi=>?_⟩
 .have hd:y3.drop (G i)=y4::y3.drop (G (i+1)):=by rw[h4];exact ZO i0 hi 0
  rw[hd,Zs1,<-Znb]at f3;have ak:y4∈y3:=by rw[h4];exact Zh O _
  have a5:JZ y1.aS y4≠aT\/JZ y2.aS y4≠aT:=by
   rw[<-hw]at ak;have:=Pk _ _ _ (Qa _) _ ak;refine this.imp (λh e=>?_) λh e=>?_;.obtain⟨w,al,aq⟩:=QU.1 h;have:=XN.1 e w al;simp[aq]at this
   .obtain⟨w,al,aq⟩:=QU.1 h;have:=XN.1 e w al;simp[aq]at this
  have F1:=Zn8 y1.aS y4;have F2:=Zn8 y2.aS y4;have nx:∀(c' a':Bool)(X' Y':List aV),iC (aC,aH,c,a) (sZ y1.aS y2.aS y4)=(X',Y',c',a')->X'.length<=J aC+1->Y'.length<=J aH+1->∃j:Int×Bool×Bool×List aV×List aV,uZ y1 y2 (i+1) c' a' X' Y'=uZ y1 y2 j.1 j.2.1 j.2.2.1 j.2.2.2.1 j.2.2.2.2/\((0<=j.1/\j.1<=J y3)/\YX y1.aS y2.aS y3=iC (j.2.2.2.1,j.2.2.2.2,j.2.1,j.2.2.1) (YX y1.aS y2.aS (y3.drop (G j.1)))/\( J j.2.2.2.1:Int)<=j.1/\( J j.2.2.2.2:Int)<=j.1)/\G (( J y3:Int)-j.1)<G (( J y3:Int)-i):=by intro c' a' X' Y' he l1 l2;exact⟨(i+1,c',a',X',Y'),rfl,⟨⟨V2,V2⟩,by rw[f3,he],V2,V2⟩,V2⟩
  generalize rC y1.aS y4=IP at*;generalize rC y2.aS y4=IQ at*;have s1:∀x:aV,[x].length=1:=λ_=>rfl;have pl:∀(x:aV)(m:Int),J (oK x m)<=1:=λx m=>by unfold oK;split<;>simp
  refine⟨⟨i0,hi⟩,a1.1,⟨i0,hi⟩,a1.2,λhb=>?_,λhb=>⟨λha=>?_,λha=>?_⟩⟩
  .rcases F2 with⟨fq,iq⟩|⟨y,fq,⟨iq0,iq1⟩,gb⟩
   .rcases F1 with⟨fp,ip⟩|⟨x,fp,⟨ip0,ip1⟩,ga⟩;.exact absurd fq (a5.resolve_left λh=>h fp)
    .rw[h5,ga];have e:sZ y1.aS y2.aS y4=([x],[],I,I):=by unfold sZ;rw[show JZ y1.aS y4=A x from fp,show JZ y2.aS y4=aT from fq]
     exact⟨⟨ip0,O⟩,by rw[s1];omega,V3,nx _ _ _ _ (by rw[e];simp[iC]) (by simp) (by simp)⟩
   .omega
  .rcases F2 with⟨fq,iq⟩|⟨y,fq,⟨iq0,iq1⟩,gb⟩;.omega
   .rcases F1 with⟨fp,ip⟩|⟨x,fp,⟨ip0,ip1⟩,ga⟩
    .rw[h6,gb];have e:sZ y1.aS y2.aS y4=([],[y],I,I):=by unfold sZ;rw[show JZ y1.aS y4=aT from fp,show JZ y2.aS y4=A y from fq]
     exact⟨⟨iq0,O⟩,by rw[s1];omega,V3,nx _ _ _ _ (by rw[e];simp[iC]) (by simp) (by simp)⟩
    .omega
  .rcases F2 with⟨fq,iq⟩|⟨y,fq,⟨iq0,iq1⟩,gb⟩;.omega
   rcases F1 with⟨fp,ip⟩|⟨x,fp,⟨ip0,ip1⟩,ga⟩;.omega
   have e:sZ y1.aS y2.aS y4=(oK x y.a_,oK y x.a_,jH x y,YB x y):=by unfold sZ;rw[show JZ y1.aS y4=A x from fp,show JZ y2.aS y4=A y from fq];try rfl
   rw[h5,h6,ga,gb];have wx:=HB op y4 x fp;have wy:=HB oq y4 y fq;obtain⟨⟨bo,bl⟩,_⟩:=sV wx.1.2.1 wy.1.2.1;have z0:(0:Int)<=0/\(0:Int)<18446744073709551616:=V1;have l1:=pl x y.a_;have l2:=pl y x.a_;refine⟨⟨ip0,O⟩,⟨iq0,O⟩,?_⟩;have am:0<=fX x.a_ y.a_/\fX x.a_ y.a_<256:=⟨bo,bl⟩;refine⟨λ_=>⟨z0,wx.1.2.2.1,am⟩,λ_=>⟨z0,wy.1.2.2.1,am⟩,λ_=>⟨z0,wx.1.2.2.2,am⟩,λ_=>⟨z0,wy.1.2.2.2,am⟩,⟨wx.1,wy.1.2.1⟩,by show( J aC+J (oK x y.a_))*32<=_;omega,⟨wy.1,wx.1.2.1⟩,by show( J aH+J (oK y x.a_))*32<=_;omega,V3,nx _ _ _ _ ?_ ?_ ?_⟩;.rw[e,Zzw,Zzw];cases c<;>cases a<;>rfl
   .rw[Qi];exact Kb l1 _
   .rw[Qi];exact Kb l2 _
 .rw[Qb O,show YX y1.aS y2.aS []=([],[],I,I)from rfl,Zza]at f3;refine Z5 (ι:=Int×Bool×Bool×List bP×List bP) (λs=>Jm y1 y2 aC aH s.1 s.2.1 s.2.2.1 s.2.2.2.1 s.2.2.2.2) (λs=>(0<=s.1/\s.1<=J kn')/\iC ([],[],c,a) (JA dN y1.X y2.X kn')=iC (s.2.2.2.1,s.2.2.2.2,s.2.1,s.2.2.1) (JA dN y1.X y2.X (kn'.drop (G s.1)))/\( J s.2.2.2.1:Int)<=s.1/\( J s.2.2.2.2:Int)<=s.1) (λs=>G (( J kn':Int)-s.1)) (0,c,a,[],[]) rfl ⟨by simp,rfl,by simp,by simp⟩ ?_;rintro⟨j,c2,a2,KX,KY⟩⟨⟨j0,j1⟩,g3,gx,gy⟩;dsimp only at j0 j1 g3 gx gy;refine ZCW N y1 y2 _ _ _ _ _ _ _ _ _ ?_;intro z1 q1 z2 q2 z3 q3 z4 q4 z5 q5 z6 q6 z7 q7 z8 q8 z9 q9 cj bp c3 bq;subst q1 q2;rw[hk]at q4;subst q4;subst q8 q9 bp bq;(simp only[iB,bR,bW]);refine⟨λhj=>?_,λhj=>?_⟩
  .have hd:z4.drop (G j)=z5::z4.drop (G (j+1)):=by rw[q5];exact ZO j0 hj 0
   rw[hd,Zs2,<-Znb]at g3;have ak:z5∈z4:=by rw[q5];exact Zh O _
   have a5:z1.X.find? (λk=>decide (k.S=z5))≠aT\/z2.X.find? (λk=>decide (k.S=z5))≠aT:=by
    have hm:=ak;rw[<-hk]at hm;have:=Pk _ _ _ (Qa _) _ hm;refine this.imp (λh e=>?_) λh e=>?_;.obtain⟨w,al,aq⟩:=QU.1 h;have:=XN.1 e w al;simp[aq]at this
    .obtain⟨w,al,aq⟩:=QU.1 h;have:=XN.1 e w al;simp[aq]at this
   have F1:=Zn9 z1.X z5;have F2:=Zn9 z2.X z5;have kp:=Hp op z5;have kq:=Hp oq z5;have hm:=ak;rw[<-hk]at hm;obtain⟨m1,_,_⟩:=Mt rp rq hm;have nx:∀(c' a':Bool)(X' Y':List bP),iC (KX,KY,c2,a2) (wI dN z1.X z2.X z5)=(X',Y',c',a')->∃s:Int×Bool×Bool×List bP×List bP,Jm z1 z2 aC aH (j+1) c' a' X' Y'=Jm z1 z2 aC aH s.1 s.2.1 s.2.2.1 s.2.2.2.1 s.2.2.2.2/\((0<=s.1/\s.1<=J z4)/\iC ([],[],c,a) (JA dN z1.X z2.X z4)=iC (s.2.2.2.1,s.2.2.2.2,s.2.1,s.2.2.1) (JA dN z1.X z2.X (z4.drop (G s.1)))/\( J s.2.2.2.1:Int)<=s.1/\( J s.2.2.2.2:Int)<=s.1)/\G (( J z4:Int)-s.1)<G (( J z4:Int)-j):=by
    intro c' a' X' Y' he;have sk:∀e:W,J (iX z5 e)<=1:=λe=>by unfold iX;split<;>simp
    have l1:X'.length<=KX.length+1:=by have:X'=KX++iX z5 (dN (Yc z1.X z5) (Yc z2.X z5)).x:=(congrArg (λt=>t.1) he).symm;rw[this,Qi];exact Kb (sk _) _
    have l2:Y'.length<=KY.length+1:=by have:Y'=KY++iX z5 (dN (Yc z1.X z5) (Yc z2.X z5)).y:=(congrArg (λt=>t.2.1) he).symm;rw[this,Qi];exact Kb (sk _) _
    exact⟨(j+1,c',a',X',Y'),rfl,⟨⟨V2,V2⟩,by rw[g3,he],V2,V2⟩,V2⟩
   generalize lg z1.X z5=IP at*;generalize lg z2.X z5=IQ at*;have s1:∀x:bP,[x].length=1:=λ_=>rfl;have r0:(0:Int)<=j/\j<J z4:=⟨j0,hj⟩;have ab:bQ (j+1):=V3;refine⟨⟨j0,hj⟩,az.1,⟨j0,hj⟩,az.2,λhb=>?_,λhb=>⟨λha=>?_,λha=>?_⟩⟩
   .rcases F2 with⟨fq,iq⟩|⟨y,fq,⟨iq0,iq1⟩,gb⟩
    .rcases F1 with⟨fp,ip⟩|⟨x,fp,⟨ip0,ip1⟩,ga⟩;.exact absurd fq (a5.resolve_left λh=>h fp)
     .rw[q6,ga];have e1:Yc z1.X z5=x.e:=by unfold Yc;rw[show z1.X.find? (λk=>decide (k.S=z5))=A x from fp];try rfl
      have e2:Yc z2.X z5=W.nil:=by unfold Yc;rw[show z2.X.find? (λk=>decide (k.S=z5))=aT from fq];try rfl
      have e:wI dN z1.X z2.X z5=(iX z5 x.e,[],I,I):=by unfold wI;rw[e1,e2,ZIR];exact congrArg _ (congrArg (·,I,I) (Br z5))
      refine⟨⟨ip0,O⟩,λh=>⟨r0,by rw[s1];omega,λh=>absurd trivial h,ab,nx _ _ _ _ ?_⟩,λh=>⟨λh=>absurd trivial h,ab,nx _ _ _ _ ?_⟩⟩;.rw[e,BD h];cases c2<;>cases a2<;>simp[iC]
      .rw[e,show iX z5 x.e=[]from Q5 h];cases c2<;>cases a2<;>simp[iC]
    .omega
   .rcases F2 with⟨fq,iq⟩|⟨y,fq,⟨iq0,iq1⟩,gb⟩;.omega
    .rcases F1 with⟨fp,ip⟩|⟨x,fp,⟨ip0,ip1⟩,ga⟩
     .rw[q7,gb];have e1:Yc z1.X z5=W.nil:=by unfold Yc;rw[show z1.X.find? (λk=>decide (k.S=z5))=aT from fp];try rfl
      have e2:Yc z2.X z5=y.e:=by unfold Yc;rw[show z2.X.find? (λk=>decide (k.S=z5))=A y from fq];try rfl
      have e:wI dN z1.X z2.X z5=([],iX z5 y.e,I,I):=by unfold wI;rw[e1,e2,ZEW];exact congrArg (·,_) (Br z5)
      refine⟨⟨iq0,O⟩,λh=>absurd trivial h,λh=>⟨r0,by rw[s1];omega,ab,nx _ _ _ _ ?_⟩,λh=>⟨ab,nx _ _ _ _ ?_⟩⟩;.rw[e,BD h];cases c2<;>cases a2<;>simp[iC]
      .rw[e,show iX z5 y.e=[]from Q5 h];cases c2<;>cases a2<;>simp[iC]
     .omega
   .rcases F2 with⟨fq,iq⟩|⟨y,fq,⟨iq0,iq1⟩,gb⟩;.omega
    rcases F1 with⟨fp,ip⟩|⟨x,fp,⟨ip0,ip1⟩,ga⟩;.omega
    rw[q6,q7,ga,gb];have e1:Yc z1.X z5=x.e:=by unfold Yc;rw[show z1.X.find? (λk=>decide (k.S=z5))=A x from fp];try rfl
    have e2:Yc z2.X z5=y.e:=by unfold Yc;rw[show z2.X.find? (λk=>decide (k.S=z5))=A y from fq];try rfl
    have e:wI dN z1.X z2.X z5=(iX z5 (dN x.e y.e).x,iX z5 (dN x.e y.e).y,(dN x.e y.e).c,(dN x.e y.e).a):=by unfold wI;rw[e1,e2]
    rw[e1]at kp m1;rw[e2]at kq m1;simp only[jt];generalize dN x.e y.e=aB at*;refine⟨⟨ip0,O⟩,⟨iq0,O⟩,⟨kp,kq⟩,by show 8*(Z1 x.e+Z1 y.e)+1<N;omega,λhx=>⟨r0,by rw[s1];omega,λhy=>⟨r0,by rw[s1];omega,ab,nx _ _ _ _ ?_⟩,λhy=>⟨ab,nx _ _ _ _ ?_⟩⟩,λhx=>⟨λhy=>⟨r0,by rw[s1];omega,ab,nx _ _ _ _ ?_⟩,λhy=>⟨ab,nx _ _ _ _ ?_⟩⟩⟩;.rw[e,BD hx,BD hy];cases c2<;>cases a2<;>simp[iC]
    .rw[e,BD hx,show iX z5 aB.y=[]from Q5 hy];cases c2<;>cases a2<;>simp[iC]
    .rw[e,BD hy,show iX z5 aB.x=[]from Q5 hx];cases c2<;>cases a2<;>simp[iC]
    .rw[e,show iX z5 aB.x=[]from Q5 hx,show iX z5 aB.y=[]from Q5 hy];cases c2<;>cases a2<;>simp[iC]
  .rw[Qb O,show JA dN z1.X z2.X []=([],[],I,I)from rfl,Zza]at g3;have hS:l6 dN z1 z2=⟨lS aC KX,lS aH KY,c2,a2⟩:=by unfold l6;dsimp only;rw[hw,hk,f3];generalize JA dN z1.X z2.X z4=R at g3⊢;obtain⟨r1,r2,r3,r4⟩:=R;simp only[iC,Qn,Prod.mk.injEq]at g3;obtain⟨rfl,rfl,rfl,rfl⟩:=g3;try rfl
   have ex:∀{aJ:List aV}{k:List bP},0<( J aJ:Int)+J k->lS aJ k=.mk 2 H.nil H.nil aJ k 0 []:=λh=>by unfold lS;rw[V5]
   have e0:∀{aJ:List aV}{k:List bP},¬0<( J aJ:Int)+J k->lS aJ k=W.nil:=λh=>by unfold lS;rw[V6]
   have i1:bQ (( J aC:Int)+KX.length):=V3;have i2:bQ (( J aH:Int)+KY.length):=V3;exact⟨i1,λhx=>⟨i2,λhy=>cC (aC:=⟨_,_,c2,a2⟩) (by rw[hS,ex hx,ex hy]) V0,λhy=>cC (aC:=⟨_,_,c2,a2⟩) (by rw[hS,ex hx,e0 hy]) V0⟩,λhx=>⟨i2,λhy=>cC (aC:=⟨_,_,c2,a2⟩) (by rw[hS,e0 hx,ex hy]) V0,λhy=>cC (aC:=⟨_,_,c2,a2⟩) (by rw[hS,e0 hx,e0 hy]) V0⟩⟩
theorem ZXf:aU Tryz.prog M 68 NM/\aU Tryz.prog M 109 ZxF/\aU Tryz.prog M 110 ZxE/\aU Tryz.prog M 162 Zxw:=ZJc vh qz zf BL BZ BA vC ZRZ VR U6 UB Tq R8 OS R5 Ou PT To PG RB Vq
theorem c68:aU Tryz.prog M 68 NM:=ZXf.1
noncomputable section
def ZO2(a:YC):Prop:=Lt a.1 a.2.1
def Vw(a:YC):aA U:=.tup [(Y,enc .aY (l7 a.1 a.2.1).1),(Y,enc .aY (l7 a.1 a.2.1).2.1),(I,[ci (l7 a.1 a.2.1).2.2])]
def ZDU:Fs U:=fs gM (λa=>[ZO2 a]) Vw
def ZGM:List (FuncId×Fs U):=[(29,oe),(68,NM)]
def ZUJ:Zb U:=cI [[2,3,4,5,502,503,504,505],[2,3,7,502,503,507],[14],[6,7,14,507],[6,7,18,507],[6,7,18,507],[]]
abbrev A17(p):=AW (Za ZGM) Tryz.f17 ZUJ p
theorem ZWK(p q)(Q:QT)(h:∀af,af=p->∀ab,ab=q->∀s,s=Zd af->∀aa,aa=Zd ab->∀ah,ah=dD.x (jt (dN s aa))->∀ae,ae=dD.y (jt (dN s aa))->fg (af,())/\fg (ab,())/\jI (s,aa,())/\iB (dD.apart (jt (dN s aa))) (Q .ret (L2 [pL 4,pL 5,pI 6 14] [(.bE 4,eI),(.bE 5,eI)])) (iB (dD.mi (jt (dN s aa))) (Q .ret (L2 [pL 4,pL 5,pI 6 13] [(.bE 4,eI),(.bE 5,eI)])) ( fg (ah,())/\fg (ae,())/\Q .ret (L2 [pL 4,pL 5,pI 6 0] [(.bE 4,enc .aY (Zd ah)),(.bE 5,enc .aY (Zd ae))])))):A17 [] (L2 [(0,.agg (enc .aY p)),(1,.agg (enc .aY q))] []) Q:=(Eq.mpr V4 (h _ (Z0 _) _ (Z0 _) _ (Z0 _) _ (Z0 _) _ (Z0 _) _ (Z0 _)):)
end
theorem NW{e}(h:ZR e):fg (e,()):=by have:=ZL h;exact⟨by grind,h.2.2⟩
theorem c17:aU Tryz.prog M 17 ZDU:=by
 refine kF (l:=ZGM) ⟨Cv.1,c68,trivial⟩ ZUJ Tryz.func17 2 λ⟨p,q,_⟩hp=>?_;obtain⟨ah,af,aa⟩:=id (show Lt p q from hp);have h1:=wY ah;have h2:=wY af;have cC:∀{aC aH:W}{n:Int}{s:bT U},l7 p q=(aC,aH,n)->ZB M Tryz.f17.ntmps Tryz.f17.results.toList (.tup [(Y,enc .aY aC),(Y,enc .aY aH),(I,[.int .i64 n])]) [] .ret s->ZB M Tryz.f17.ntmps Tryz.f17.results.toList (Vw (p,q,())) [] .ret s:=by
  intro aC aH n s h hs;refine Y8 ?_ hs;simp only[Vw];rw[h];try rfl
 have eN:=l7.eq_1 p q;refine ZWK _ _ _ ?_;intro y1 e1 y2 e2 y3 e3 y4 e4 y5 e5 y6 e6;subst e1 e2;rw[<-e3]at h1;rw[<-e4]at h2;rw[<-e3,<-e4]at aa eN;simp only[jt]at e5 e6⊢;generalize dN y3 y4=aB at aa eN e5 e6⊢;refine⟨NW ah,NW af,⟨h1,h2⟩,λha=>cC (by rw[eN,Q5 ha]) V0,λha=>⟨λL=>cC (by rw[eN,Q0 (by rw[ha];decide),Q5 L]) V0,λL=>⟨by rw[e5];exact NW (aa ha L).1,by rw[e6];exact NW (aa ha L).2,?_⟩⟩⟩;exact cC (by rw[eN,Q0 (by rw[ha];decide),Q0 (by rw[L];decide),<-e5,<-e6]) V0
noncomputable section
def OY(a:tA):Prop:=(∀x∈a.1,eJ x)/\p_ a.1<=8000000000
def PH(a:tA):aA U:=.tup [(Y,enc .aY (js a.1).1),(I,[.bool (js a.1).2])]
def ZDQ:Fs U:=fs Hl (λa=>[OY a]) PH
def PK:List (FuncId×Fs U):=[(29,oe),(72,ZDF)]
def Tw:Zb U:=cI [[0,2,502],[4,504],[5,(504,[.any,.any,.bA .u64,.bA .aX,.any,.bA .u64,.bA .aX,.bA .bD,.bA .cJ,.any,.bA .op])],[12,504,504],[12,(504,[.any,.any,.bA .u64,.bA .aX,.any,.bA .u64,.bA .aX,.bA .bD,.bA .cJ,.any,.bA .op])],[6,7,504,504,506],[7,25],[0,3,4,5,6,25,504,506],[0,3,4,5,504],[0,3,4,5,504]]
def HM(l:List W)(x5 aj s ah ak:Int)(ai:List Int)(af:List H)(ae:List Int)(aa:List H)(al:List aV)(ab:List bP)(h:List Op):bT U:=L2 [(0,.c (sU .aY l .bA)),pL 2,pL 4,pI 5 x5] [(.bE 2,eI),(.bE 4,[ci aj,ci s,sU .u64 ai .bA,sU .aX af .bA,ci ah,sU .u64 ae .bA,sU .aX aa .bA,sU .bD al .bA,sU .cJ ab .bA,ci ak,sU .op h .bA])]
abbrev A21(p):=AW (Za PK) Tryz.f21 Tw p
abbrev S21(p):=SW (Za PK) Tryz.f21 Tw p
theorem ZIs(l)(x5 al ae aj aq)(ak)(ai)(ah)(ao)(am)(af:List bP)(ab:List Op)(N0:NT)(Q:QT)(h:∀au,au=aR l (G x5) W.nil->∀s,s=W.mk al (H.mk ae ak ai) (H.mk aj ah ao) am af aq ab->∀aa,aa=au->let z1:=W.new (kI s aa).1;let z0:=W.bH (kI s aa).1;iB (decide (x5<(J l))) ((0<=x5/\x5<(J l))/\ZNT (s,aa,())/\iB (!(kI s aa).2) (Q .ret (L2 [pL 2,pB 3 I] [(.bE 2,eI)])) ( bQ (x5+1)/\N0 (HM l (x5+1) (W.D (kI s aa).1) (H.D z0) (H.D z1) (W.V (kI s aa).1) (H.aS z0) (H.X z0) (H.aS z1) (H.X z1) (W.aS (kI s aa).1) (W.X (kI s aa).1) (W.ops (kI s aa).1)))) ( fg (s,())/\Q .ret (L2 [pL 2,pB 3 Y] [(.bE 2,enc .aY (Zd s))]))):A21 [1,1,0,1,0,0] (HM l x5 al ae aj aq ak ai ah ao am af ab) (xT N0 (xB 0 (S21 [1,1,1] Q))):=Eq.mpr V4 (h _ rfl _ rfl _ (Z0 _))
end
theorem c21:aU Tryz.prog M 21 ZDQ:=by
 refine kF (l:=PK) ⟨Cv.1,c72,trivial⟩ Tw Tryz.func21 1 λ⟨l,_⟩hp=>?_;simp only[OY]at hp;obtain⟨hx,L⟩:=hp;have au:=ZwA l;refine wV (λQ=>Zi (A21 [1,1,0,1,0,0]) (HM l 0 0 0 0 0 [] [] [] [] [] [] []) (xB 0 (S21 [1,1,1] Q))) ?_ λ_ h=>Eq.mpr V4 h;try(simp only[iB,bR,bW])
 refine Z5 (ι:=Int×W) (λj=>HM l j.1 j.2.D j.2.bH.D j.2.new.D j.2.V j.2.bH.aS j.2.bH.X j.2.new.aS j.2.new.X j.2.aS j.2.X j.2.ops) (λj=>(0<=j.1/\j.1<=J l)/\(eJ j.2/\fv j.2+p_ (l.drop (G j.1))<=8000000018)/\ug (l.drop (G j.1)) j.2=ug l W.nil) (λj=>G (( J l:Int)-j.1)) (0,W.nil) rfl ⟨⟨V2,V2⟩,⟨Zmz,by have:=ZwB;simp only[X9,Int.toNat_zero];omega⟩,by simp⟩ ?_;rintro⟨i,x⟩⟨⟨i1,i2⟩,⟨x1,x2⟩,s⟩;dsimp only at i1 i2 x1 x2 s;refine ZIs _ _ _ _ _ _ _ _ _ _ _ _ _ _ _ ?_;rintro y1 aa y2 ae y3 rfl;dsimp only at aa ae;(simp only[iB,bR,bW]);have e2:y2=x:=by rw[ae];obtain⟨k,⟨_,_,_⟩,⟨_,_,_⟩,w,ks,l,os⟩:=x;rfl
 subst e2;refine⟨λhi=>?_,λhi=>?_⟩
 .have hd:=ZO i1 hi W.nil;rw[<-aa]at hd;have hm:y3∈l:=by rw[aa];exact Zh O _
  rw[hd,p_]at x2;rw[hd,ug]at s;refine⟨⟨i1,hi⟩,⟨x1,hx _ hm⟩,λL=>?_,λL=>⟨V3,(i+1,(kI y2 y3).1),rfl,⟨⟨V2,V2⟩,?_,?_⟩,V2⟩⟩
  .rw[Q0 (by rw[L];decide)]at s;have:js l=(W.nil,I):=by rw[js,Q0];rw[<-s];decide
   simp only[PH,this];exact V0
  .have:=Zs0 x1 (hx _ hm) L O;exact⟨this.1,V2⟩
  .rw[Q5 L]at s;exact s
 .rw[Qb O,ug]at s;have hm:=ZL x1.re;refine⟨⟨V2,x1.2.2⟩,?_⟩;have:js l=(Zd y2,Y):=by rw[js,<-s];try rfl
  simp only[PH,this];exact V0
noncomputable section
def ZM6:cO xm:=.dU 0 (.cons (jv .i64) (.cons (ff .u64) (.cons (ff .aX) (.cons (jv .i64) (.cons (ff .u64) (.cons (ff .aX) (.cons (iJ .aY 0 6) (.cons (iJ .aY 0 7) .nil)))))))) (.cons (fe .aY) .nil)
def EW(a:xm):Prop:=n9 a.2.1 (H.mk a.1.2.2.2.1 a.1.2.2.2.2.1 a.1.2.2.2.2.2.1)
def ZEL(a:xm):aA U:=.c (ci (Yx a.2.1 (H.mk a.1.2.2.2.1 a.1.2.2.2.2.1 a.1.2.2.2.2.2.1)).2)
def ZxZ(a:xm):List (List (C U)):=[[ci a.1.1,sU .u64 a.1.2.1 .bA,sU .aX a.1.2.2.1 .bA]++enc .aX (Yx a.2.1 (H.mk a.1.2.2.2.1 a.1.2.2.2.2.1 a.1.2.2.2.2.2.1)).1++[sU .aY a.1.2.2.2.2.2.2.1 (.bF (.x 0 6)),sU .aY a.1.2.2.2.2.2.2.2.1 (.bF (.x 0 7))]]
def Dv:Fs U:=fo ZM6 (λa=>[EW a]) ZEL ZxZ
def U1(a:tA):Prop:=0<J a.1/\J a.1<=1000000000
def ZEJ(a:tA):aA U:=.c (sU .aY (a.1.take ( J a.1-1)) (.bF (.r 0 0)))
def Vt:Fs U:=fs Hl (λa=>[U1 a]) ZEJ
def SY:cO s9:=.dU 0 (.cons (jv .i64) (.cons (ff .u64) (.cons (ff .aX) (.cons (jv .i64) (.cons (ff .u64) (.cons (ff .aX) (.cons (iJ .aY 0 6) (.cons (iJ .aY 0 7) .nil)))))))) .nil
def ZNX(a:s9):Prop:=(∀x∈a.1.2.2.2.2.2.2.1,eJ x)/\p_ a.1.2.2.2.2.2.2.1<=8000000000
def ZNx(a:s9):aA U:=.agg (enc .aY (js a.1.2.2.2.2.2.2.1).1)
def ZEc(a:s9):List (List (C U)):=[[ci a.1.1,sU .u64 a.1.2.1 .bA,sU .aX a.1.2.2.1 .bA]++enc .aX (bG.cX (bG.mk (H.mk a.1.2.2.2.1 a.1.2.2.2.2.1 a.1.2.2.2.2.2.1) a.1.2.2.2.2.2.2.1 a.1.2.2.2.2.2.2.2.1))++[sU .aY (bG.done (bG.mk (H.mk a.1.2.2.2.1 a.1.2.2.2.2.1 a.1.2.2.2.2.2.1) a.1.2.2.2.2.2.2.1 a.1.2.2.2.2.2.2.2.1)) (.bF (.x 0 6)),sU .aY (bG.gone (bG.mk (H.mk a.1.2.2.2.1 a.1.2.2.2.2.1 a.1.2.2.2.2.2.1) a.1.2.2.2.2.2.2.1 a.1.2.2.2.2.2.2.2.1)) (.bF (.x 0 7))]]
def ZDK:Fs U:=fo SY (λa=>[ZNX a]) ZNx ZEc
def ZNS(a:xm):Prop:=((Z1 a.2.1<=18000000000/\Ye a.2.1)/\(Z3 a.2.1 64=Y->n9 (Zd a.2.1) (H.mk a.1.2.2.2.1 a.1.2.2.2.2.1 a.1.2.2.2.2.2.1)))/\J a.1.2.2.2.2.2.2.1<=1000000000
def ZNq(a:xm):aA U:=.c (ci (jc a.2.1 (bG.mk (H.mk a.1.2.2.2.1 a.1.2.2.2.2.1 a.1.2.2.2.2.2.1) a.1.2.2.2.2.2.2.1 a.1.2.2.2.2.2.2.2.1)).2)
def ZE9(a:xm):List (List (C U)):=[[ci a.1.1,sU .u64 a.1.2.1 .bA,sU .aX a.1.2.2.1 .bA]++enc .aX (bG.cX (jc a.2.1 (bG.mk (H.mk a.1.2.2.2.1 a.1.2.2.2.2.1 a.1.2.2.2.2.2.1) a.1.2.2.2.2.2.2.1 a.1.2.2.2.2.2.2.2.1)).1)++[sU .aY (bG.done (jc a.2.1 (bG.mk (H.mk a.1.2.2.2.1 a.1.2.2.2.2.1 a.1.2.2.2.2.2.1) a.1.2.2.2.2.2.2.1 a.1.2.2.2.2.2.2.2.1)).1) (.bF (.x 0 6)),sU .aY (bG.gone (jc a.2.1 (bG.mk (H.mk a.1.2.2.2.1 a.1.2.2.2.2.1 a.1.2.2.2.2.2.1) a.1.2.2.2.2.2.2.1 a.1.2.2.2.2.2.2.2.1)).1) (.bF (.x 0 7))]]
def ZDD:Fs U:=fo ZM6 (λa=>[ZNS a]) ZNq ZE9
def ZNR(a:s9):Prop:=(∀e∈a.1.2.2.2.2.2.2.1,(Z1 e<=20000000000/\∃d,Z3 e d=Y)/\n9 (Zd (Zm e)) (H.mk a.1.2.2.2.1 a.1.2.2.2.2.1 a.1.2.2.2.2.2.1))/\J a.1.2.2.2.2.2.2.1<=1000000000/\J a.1.2.2.2.2.2.2.2.1<=1000000000
def ZNp(a:s9):aA U:=.c (.bool (JQ (bG.mk (H.mk a.1.2.2.2.1 a.1.2.2.2.2.1 a.1.2.2.2.2.2.1) a.1.2.2.2.2.2.2.1 a.1.2.2.2.2.2.2.2.1)).2)
def ZE8(a:s9):List (List (C U)):=[[ci a.1.1,sU .u64 a.1.2.1 .bA,sU .aX a.1.2.2.1 .bA]++enc .aX (bG.cX (JQ (bG.mk (H.mk a.1.2.2.2.1 a.1.2.2.2.2.1 a.1.2.2.2.2.2.1) a.1.2.2.2.2.2.2.1 a.1.2.2.2.2.2.2.2.1)).1)++[sU .aY (bG.done (JQ (bG.mk (H.mk a.1.2.2.2.1 a.1.2.2.2.2.1 a.1.2.2.2.2.2.1) a.1.2.2.2.2.2.2.1 a.1.2.2.2.2.2.2.2.1)).1) (.bF (.x 0 6)),sU .aY (bG.gone (JQ (bG.mk (H.mk a.1.2.2.2.1 a.1.2.2.2.2.1 a.1.2.2.2.2.2.1) a.1.2.2.2.2.2.2.1 a.1.2.2.2.2.2.2.2.1)).1) (.bF (.x 0 7))]]
def ZDC:Fs U:=fo SY (λa=>[ZNR a]) ZNp ZE8
def ZNQ(a:s9):Prop:=(∀e∈a.1.2.2.2.2.2.2.2.1,n9 e (H.mk a.1.2.2.2.1 a.1.2.2.2.2.1 a.1.2.2.2.2.2.1))/\J a.1.2.2.2.2.2.2.1<=1000000000/\J a.1.2.2.2.2.2.2.2.1<=1000000000
def ZNo(a:s9):aA U:=.c (.bool (JM (bG.mk (H.mk a.1.2.2.2.1 a.1.2.2.2.2.1 a.1.2.2.2.2.2.1) a.1.2.2.2.2.2.2.1 a.1.2.2.2.2.2.2.2.1)).2)
def ZE7(a:s9):List (List (C U)):=[[ci a.1.1,sU .u64 a.1.2.1 .bA,sU .aX a.1.2.2.1 .bA]++enc .aX (bG.cX (JM (bG.mk (H.mk a.1.2.2.2.1 a.1.2.2.2.2.1 a.1.2.2.2.2.2.1) a.1.2.2.2.2.2.2.1 a.1.2.2.2.2.2.2.2.1)).1)++[sU .aY (bG.done (JM (bG.mk (H.mk a.1.2.2.2.1 a.1.2.2.2.2.1 a.1.2.2.2.2.2.1) a.1.2.2.2.2.2.2.1 a.1.2.2.2.2.2.2.2.1)).1) (.bF (.x 0 6)),sU .aY (bG.gone (JM (bG.mk (H.mk a.1.2.2.2.1 a.1.2.2.2.2.1 a.1.2.2.2.2.2.1) a.1.2.2.2.2.2.2.1 a.1.2.2.2.2.2.2.2.1)).1) (.bF (.x 0 7))]]
def ZDB:Fs U:=fo SY (λa=>[ZNQ a]) ZNo ZE7
def ZSw:cO Le:=.dU 0 (.cons (jv .i64) (.cons (ff .u64) (.cons (ff .aX) (.cons (jv .i64) (.cons (ff .u64) (.cons (ff .aX) (.cons (iJ .aY 0 6) (.cons (iJ .aY 0 7) .nil)))))))) (.cons (J1 .i64) .nil)
def ZNP(a:Le):Prop:=Gl a.2.1 (bG.mk (H.mk a.1.2.2.2.1 a.1.2.2.2.2.1 a.1.2.2.2.2.2.1) a.1.2.2.2.2.2.2.1 a.1.2.2.2.2.2.2.2.1)
def ZNn(a:Le):aA U:=.c (ci (kN a.2.1 (bG.mk (H.mk a.1.2.2.2.1 a.1.2.2.2.2.1 a.1.2.2.2.2.2.1) a.1.2.2.2.2.2.2.1 a.1.2.2.2.2.2.2.2.1)).2)
def ZE6(a:Le):List (List (C U)):=[[ci a.1.1,sU .u64 a.1.2.1 .bA,sU .aX a.1.2.2.1 .bA]++enc .aX (bG.cX (kN a.2.1 (bG.mk (H.mk a.1.2.2.2.1 a.1.2.2.2.2.1 a.1.2.2.2.2.2.1) a.1.2.2.2.2.2.2.1 a.1.2.2.2.2.2.2.2.1)).1)++[sU .aY (bG.done (kN a.2.1 (bG.mk (H.mk a.1.2.2.2.1 a.1.2.2.2.2.1 a.1.2.2.2.2.2.1) a.1.2.2.2.2.2.2.1 a.1.2.2.2.2.2.2.2.1)).1) (.bF (.x 0 6)),sU .aY (bG.gone (kN a.2.1 (bG.mk (H.mk a.1.2.2.2.1 a.1.2.2.2.2.1 a.1.2.2.2.2.2.1) a.1.2.2.2.2.2.2.1 a.1.2.2.2.2.2.2.2.1)).1) (.bF (.x 0 7))]]
def ZDA:Fs U:=fo ZSw (λa=>[ZNP a]) ZNn ZE6
def ZKf:List (FuncId×Fs U):=[(135,ui),(31,v7)]
def ZUX:Zb U:=cI [[0,3,503,900],[3,5,6,503,505],[6,17],[0,4,5,17,505],[0,4,5,20,505],[0,4,5,20,505],[4],[4]]
def ZOn:Zb U:=cI [[0],[3],[0,2,3]]
abbrev ZXW(p):=AW (Za cQ) Tryz.f134 ZOn p
theorem ZTI(l:List W)(Q:QT)(h:let z0:=List.take (Int.toNat ((( J l:Int))-1)) l;bQ ((( J l:Int))-1)/\(0<=(( J l:Int))-1/\(( J l:Int))-1<=(J l))/\( J ([]:List W)+J z0)*200<=140737488355328/\Q .ret (L2 [(2,.c (sU .aY (([]:List W)++z0) (.bF (.e 2 0))))] [])):ZXW [] (L2 [(0,.c (sU .aY l .bA))] []) Q:=(Eq.mpr V4 h:)
def ZGG:List (FuncId×Fs U):=[(21,ZDQ)]
def ZUe:Zb U:=cI [[0,2,502,900],[0,3,503],[3,503]]
abbrev A44(p):=AW (Za ZGG) Tryz.f44 ZUe p
theorem ZWD(fk)(fw:List Int)(fc:List H)(hk)(hw:List Int)(L:List H)(s hg:List W)(Q:QT)(h:OY (s,())/\Q .ret (L2 [pL 2] [(.bE 2,enc .aY (js s).1),(.x 0,[ci fk,sU .u64 fw .bA,sU .aX fc .bA,ci hk,sU .u64 hw .bA,sU .aX L .bA,sU .aY s (.bF (.x 0 6)),sU .aY hg (.bF (.x 0 7))])])):A44 [] (L2 [(0,.ptr (.x 0) 0)] [(.x 0,[ci fk,sU .u64 fw .bA,sU .aX fc .bA,ci hk,sU .u64 hw .bA,sU .aX L .bA,sU .aY s (.bF (.x 0 6)),sU .aY hg (.bF (.x 0 7))])]) Q:=(Eq.mpr V4 h:)
def ZQU:List (FuncId×Fs U):=[(64,Nw),(29,oe),(132,Dv)]
def ZWV:Zb U:=cI [[0,3,503,900],[8],[0,3,4,8,503],[0,3,4,503],[5],[15],[3,15,503],[0],[4,5]]
def ZQT:List (FuncId×Fs U):=[(133,sR),(132,Dv),(134,Vt)]
def ZWU:Zb U:=cI [[0,900],[9],[0,2,9],[0,2,3,503],[26],[0,2,3,26,503],[0,2,3,503],[0,3,503],[2]]
def ZQS:List (FuncId×Fs U):=[(132,Dv),(134,Vt)]
def ZWT:Zb U:=cI [[0,900],[9],[0,2,9],[0,2,3,503],[25],[0,2,3,25,503],[0,2,3,503],[0,3,503],[2]]
def Vj:List (FuncId×Fs U):=[(17,ZDU),(133,sR),(132,Dv)]
def OH:Zb U:=cI [[0,1,900],[22],[0,1,4,22],[0,1,4,5],[],[6,506],[1,7],[47],[47],[8,9,10,508,509],[64],[0,4,5,6,7,8,9,10,64,506,508,509],[0,4,5,6,7,9,506,509],[9,509],[6,7,11,506],[75],[5,75],[0],[4,11]]
def Hh(fk:Int)(fw:List Int)(fc:List H)(hk:Int)(hw:List Int)(L:List H)(hd hg:List W)(i:Int)(x5:List W)(x7 ah al:Int)(ab:List Int)(aa:List H)(ae:Int)(s:List Int)(ai:List H)(aj:List aV)(ak:List bP)(af:Int)(h:List Op):bT U:=L2 [(0,.ptr (.x 0) 0),(5,.c (sU .aY x5 (.bF (.e 5 0)))),pL 6,pI 7 x7] [(.bE 6,[ci ah,ci al,sU .u64 ab .bA,sU .aX aa .bA,ci ae,sU .u64 s .bA,sU .aX ai .bA,sU .bD aj .bA,sU .cJ ak .bA,ci af,sU .op h .bA]),(.x 0,[ci fk,sU .u64 fw .bA,sU .aX fc .bA,ci hk,sU .u64 hw .bA,sU .aX L .bA,sU .aY hd (.bF (.x 0 6)),sU .aY hg (.bF (.x 0 7))])]
abbrev A90(p):=AW (Za Vj) Tryz.f90 OH p
abbrev S90(p):=SW (Za Vj) Tryz.f90 OH p
theorem ZI3(fk)(fw:List Int)(fc:List H)(hk)(hw)(L)(hd hg:List W)(i)(x5:List W)(x7 ak aq)(ah)(af)(ai)(ae)(al)(am)(ao:List bP)(aj)(ab:List Op)(N0:NT)(Q:QT)(h:∀a1,a1=aR hd (G x7) W.nil->∀s,s=W.mk ak (H.mk aq ah af) (H.mk ai ae al) am ao aj ab->∀aa,aa=a1->∀au,au=(l7 aa s).1->let z2:=W.new (l7 aa s).2.1;let z1:=W.bH (l7 aa s).2.1;let z0:=Yx s (H.mk hk hw L);iB (decide (x7<(J hd))) ((0<=x7/\x7<(J hd))/\ZO2 (aa,s,())/\iB (((l7 aa s).2.2)!=0) (Q .ret (L2 [pI 4 (l7 aa s).2.2] [(.x 0,[ci fk,sU .u64 fw .bA,sU .aX fc .bA,ci hk,sU .u64 hw .bA,sU .aX L .bA,sU .aY hd (.bF (.x 0 6)),sU .aY hg (.bF (.x 0 7))])])) ( ( J x5+J [au])*200<=140737488355328/\bQ (x7+1)/\N0 (Hh fk fw fc hk hw L hd hg i (x5++[au]) (x7+1) (W.D (l7 aa s).2.1) (H.D z1) (H.aS z1) (H.X z1) (H.D z2) (H.aS z2) (H.X z2) (W.aS (l7 aa s).2.1) (W.X (l7 aa s).2.1) (W.V (l7 aa s).2.1) (W.ops (l7 aa s).2.1)))) ( EW ((fk,fw,fc,hk,hw,L,hd,hg,()),s,())/\iB (z0.2==0) (Q .ret (L2 [pI 4 z0.2] [(.x 0,[ci fk,sU .u64 fw .bA,sU .aX fc .bA]++enc .aX z0.1++[sU .aY x5 (.bF (.x 0 6)),.nils])])) (Q .ret (L2 [pI 4 z0.2] [(.x 0,[ci fk,sU .u64 fw .bA,sU .aX fc .bA]++enc .aX z0.1++[sU .aY hd (.bF (.x 0 6)),sU .aY hg (.bF (.x 0 7))])])))):A90 [1,1,1,1,1,0,1,0,0] (Hh fk fw fc hk hw L hd hg i x5 x7 ak aq ah af ai ae al am ao aj ab) (xT N0 (xB 0 (S90 [1,1,1,1,1,1] Q))):=(Eq.mpr V4 (h _ rfl _ rfl _ (Z0 _) _ (Z0 _)):)
end
theorem ZH8{e t}(h:(bX Y e t).isSome=Y):∃u,bX I e t=A u/\bX Y e t=A (Z2 u):=by have s:=pr e t;cases hu:bX I e t with|none=>rw[hu]at s;rw[s]at h;cases h|some u=>exact⟨u,rfl,by rw[s,hu];rfl⟩
theorem Nl:aU Tryz.prog M 132 Dv:=by
 refine kX (l:=ZKf) ⟨vh,Aj,trivial⟩ ZUX Tryz.func132 2 λ⟨⟨fk,fw,fc,hk,hw,L,hd,hg,_⟩,e,_⟩hp=>?_;obtain⟨⟨h1,h2,d,h3⟩,h4,h5⟩:=hp;dsimp only at h1 h2 h3 h4 h5;refine wV (λQ=>∀aa,aa=e->∀ah,ah=YH (bX Y aa (H.mk hk hw L))->let z0:=H.mk hk hw L;gg (aa,z0,())/\iB (!(bX Y aa z0).isSome) (Q .ret (L2 [pI 4 13] [(.x 0,[ci fk,sU .u64 fw .bA,sU .aX fc .bA,ci hk,sU .u64 hw .bA,sU .aX L .bA,sU .aY hd (.bF (.x 0 6)),sU .aY hg (.bF (.x 0 7))])])) ( pd (ah,64,())/\iB (! Zf ah 64) (Q .ret (L2 [pI 4 3] [(.x 0,[ci fk,sU .u64 fw .bA,sU .aX fc .bA,ci hk,sU .u64 hw .bA,sU .aX L .bA,sU .aY hd (.bF (.x 0 6)),sU .aY hg (.bF (.x 0 7))])])) (Q .ret (L2 [pI 4 0] [(.x 0,[ci fk,sU .u64 fw .bA,sU .aX fc .bA]++enc .aX (YH (bX Y aa z0))++[sU .aY hd (.bF (.x 0 6)),sU .aY hg (.bF (.x 0 7))])])))) ?_ λ_ h=>Eq.mpr V4 (h _ (Z0 _) _ (Z7 _));rintro y1 rfl y2 e2;(simp only[iB,bR,bW]);have cC:∀{r:H×Int}{s:bT U},Yx y1 (.mk hk hw L)=r->ZB M Tryz.f132.ntmps Tryz.f132.results.toList (.c (.int .i64 r.2)) [[.int .i64 fk,.slice .u64 fw .bA,.slice .aX fc .bA,.int .i64 r.1.D,.slice .u64 r.1.aS .bA,.slice .aX r.1.X .bA,.slice .aY hd (.bF (.x 0 6)),.slice .aY hg (.bF (.x 0 7))]] .ret s->ZB M Tryz.f132.ntmps Tryz.f132.results.toList (ZEL ((fk,fw,fc,hk,hw,L,hd,hg,()),y1,())) (ZxZ ((fk,fw,fc,hk,hw,L,hd,hg,()),y1,())) .ret s:=by intro r s h hs;subst h;exact hs
 refine⟨⟨⟨h1,h2,d,h3⟩,V2,h5⟩,λhn=>?_,λhs=>?_⟩;.cases hu:bX I y1 (.mk hk hw L)with|some u=>rw[pr,hu]at hn;cases hn|none=>exact cC (r:=(.mk hk hw L,13)) (by unfold Yx;rw[hu]) V0
 .obtain⟨u,hu,eT⟩:=ZH8 hs;have e3:y2=Z2 u:=by rw[e2,eT];try rfl
  rw[e3];have hm:=pv I _ d _ _ h3 hu;have a2:=ZX u;refine⟨⟨V2,pM _ (uf I _ _ _ h2 h5 hu),V2,V2⟩,λhr=>?_,λhr=>?_⟩;.exact cC (r:=(.mk hk hw L,3)) (by unfold Yx;rw[hu];exact if_neg (by rw[hr];decide)) V0
  .rw[eT];exact cC (r:=(Z2 u,0)) (Du hu hr) V0
theorem ZVA:aU Tryz.prog M 134 Vt:=by refine kF (l:=cQ) trivial ZOn Tryz.func134 1 λ⟨l,_⟩h=>?_;obtain⟨h1,s⟩:=h;dsimp only at h1 s;refine ZTI l _ ⟨V3,⟨O,O⟩,by simp only[List.length_nil,List.length_take];omega,?_⟩;rw[show G (( J l:Int)-1)=J l-1 by omega];simp only[ZEJ];exact V0
theorem c44:aU Tryz.prog M 44 ZDK:=by refine kX (l:=ZGG) ⟨c21,trivial⟩ ZUe Tryz.func44 1 λ⟨⟨fk,fw,fc,hk,hw,L,hd,s,_⟩,_⟩h=>?_;refine ZWD _ _ _ _ _ _ _ _ _ ⟨h,?_⟩;simp only[ZNx,ZEc];exact V0
theorem c87:aU Tryz.prog M 87 ZDD:=by
 refine kX (l:=ZQU) ⟨ZHg.1,Cv.1,Nl,trivial⟩ ZWV Tryz.func87 2 λ⟨⟨fk,fw,fc,hk,hw,L,hd,hg,_⟩,e,_⟩hp=>?_;obtain⟨⟨h1,h2⟩,h3⟩:=hp;dsimp only at h1 h2 h3;refine wV (λQ=>∀ab,ab=e->∀aa,aa=Zd ab->let z0:=Yx aa (H.mk hk hw L);vJ (ab,64,())/\iB (! Z3 ab 64) (Q .ret (L2 [pI 4 2] [(.x 0,[ci fk,sU .u64 fw .bA,sU .aX fc .bA,ci hk,sU .u64 hw .bA,sU .aX L .bA,sU .aY hd (.bF (.x 0 6)),sU .aY hg (.bF (.x 0 7))])])) ( fg (ab,())/\EW ((fk,fw,fc,hk,hw,L,hd,hg,()),aa,())/\iB (( z0.2:Int)==0) ( ( J hd+J [aa])*200<=140737488355328/\Q .ret (L2 [pI 4 z0.2] [(.x 0,[ci fk,sU .u64 fw .bA,sU .aX fc .bA]++enc .aX z0.1++[sU .aY (hd++[aa]) (.bF (.x 0 6)),.nils])])) (Q .ret (L2 [pI 4 z0.2] [(.x 0,[ci fk,sU .u64 fw .bA,sU .aX fc .bA]++enc .aX z0.1++[sU .aY hd (.bF (.x 0 6)),sU .aY hg (.bF (.x 0 7))])])))) ?_ λ_ h=>Eq.mpr V4 (h _ (Z0 _) _ (Z0 _));rintro y1 rfl y2 rfl;(simp only[iB,bR,bW]);have cC:∀{r:bG×Int}{s:bT U},jc y1 ⟨.mk hk hw L,hd,hg⟩=r->ZB M Tryz.f87.ntmps Tryz.f87.results.toList (.c (.int .i64 r.2)) [[.int .i64 fk,.slice .u64 fw .bA,.slice .aX fc .bA,.int .i64 r.1.cX.D,.slice .u64 r.1.cX.aS .bA,.slice .aX r.1.cX.X .bA,.slice .aY r.1.done (.bF (.x 0 6)),.slice .aY r.1.gone (.bF (.x 0 7))]] .ret s->ZB M Tryz.f87.ntmps Tryz.f87.results.toList (ZNq ((fk,fw,fc,hk,hw,L,hd,hg,()),y1,())) (ZE9 ((fk,fw,fc,hk,hw,L,hd,hg,()),y1,())) .ret s:=by intro r s h hs;subst h;exact hs
 refine⟨⟨⟨V2,h1.2⟩,V2,V2⟩,λhr=>?_,λhr=>?_⟩;.exact cC (r:=(⟨.mk hk hw L,hd,hg⟩,2)) (by unfold jc;exact if_neg (by rw[hr];decide)) V0
 .refine⟨⟨V2,64,hr⟩,h2 hr,λh0=>⟨by simp only[List.length_cons,List.length_nil];omega,?_⟩,λh0=>?_⟩;.rw[h0];exact cC (r:=(⟨(Yx (Zd y1) (.mk hk hw L)).1,hd++[Zd y1],[]⟩,0)) (by unfold jc;rw[if_pos hr];exact if_pos h0) V0
  .rw[uT h0];exact cC (r:=(⟨.mk hk hw L,hd,hg⟩,(Yx (Zd y1) (.mk hk hw L)).2)) (by unfold jc;rw[if_pos hr];exact if_neg h0) V0
theorem c88:aU Tryz.prog M 88 ZDC:=by
 refine kX (l:=ZQT) ⟨Dc,Nl,ZVA,trivial⟩ ZWU Tryz.func88 1 λ⟨⟨fk,fw,fc,hk,hw,L,hd,hg,_⟩,_⟩hp=>?_;obtain⟨h1,h2,h3⟩:=hp;dsimp only at h1 h2 h3;refine wV (λQ=>∀ao,ao=List.getD hd (Int.toNat ((( J hd:Int):Int)-1)) W.nil->∀ab,ab=ao->∀ai,ai=Zd (Zm ab)->let z0:=Yx ai (H.mk hk hw L);iB ((( J hd:Int):Int)==0) (Q .ret (L2 [pB 2 I] [(.x 0,[ci fk,sU .u64 fw .bA,sU .aX fc .bA,ci hk,sU .u64 hw .bA,sU .aX L .bA,sU .aY hd (.bF (.x 0 6)),sU .aY hg (.bF (.x 0 7))])])) ( bQ ((( J hd:Int):Int)-1)/\((0:Int)<=(( J hd:Int):Int)-1/\(( J hd:Int):Int)-1<( J hd:Int))/\fg (ab,())/\EW ((fk,fw,fc,hk,hw,L,hd,hg,()),ai,())/\iB (( z0.2:Int)!=0) (Q .ret (L2 [pB 2 I] [(.x 0,[ci fk,sU .u64 fw .bA,sU .aX fc .bA]++enc .aX z0.1++[sU .aY hd (.bF (.x 0 6)),sU .aY hg (.bF (.x 0 7))])])) ( U1 (hd,())/\( J hg+J [ab])*200<=140737488355328/\Q .ret (L2 [pB 2 Y] [(.x 0,[ci fk,sU .u64 fw .bA,sU .aX fc .bA]++enc .aX z0.1++[sU .aY (hd.take ( J hd-1)) (.bF (.x 0 6)),sU .aY (hg++[ab]) (.bF (.x 0 7))])])))) ?_ λ_ h=>Eq.mpr V4 (h _ rfl _ (Z0 _) _ (Z0 _));rintro y1 al y2 rfl y3 rfl;rw[GQ]at al;subst al;(simp only[iB,bR,bW]);have cC:∀{r:bG×Bool}{s:bT U},JQ ⟨.mk hk hw L,hd,hg⟩=r->ZB M Tryz.f88.ntmps Tryz.f88.results.toList (.c (.bool r.2)) [[.int .i64 fk,.slice .u64 fw .bA,.slice .aX fc .bA,.int .i64 r.1.cX.D,.slice .u64 r.1.cX.aS .bA,.slice .aX r.1.cX.X .bA,.slice .aY r.1.done (.bF (.x 0 6)),.slice .aY r.1.gone (.bF (.x 0 7))]] .ret s->ZB M Tryz.f88.ntmps Tryz.f88.results.toList (ZNp ((fk,fw,fc,hk,hw,L,hd,hg,()),())) (ZE8 ((fk,fw,fc,hk,hw,L,hd,hg,()),())) .ret s:=by intro r s h hs;subst h;exact hs
 have am:¬( J hd:Int)=0->iD hd∈hd:=λh=>LB O;refine⟨λh=>?_,λh=>⟨V3,⟨O,O⟩,(h1 _ (am h)).1,(h1 _ (am h)).2,λh0=>?_,λh0=>⟨⟨V2,h2⟩,by simp only[List.length_cons,List.length_nil];omega,?_⟩⟩⟩;.exact cC (r:=(⟨.mk hk hw L,hd,hg⟩,I)) (by unfold JQ;exact if_pos V2) V0
 .rw[uT h0];exact cC (r:=(⟨.mk hk hw L,hd,hg⟩,I)) (by unfold JQ;rw[if_neg V2];exact if_neg h0) V0
 .exact cC (r:=(⟨(Yx (Zd (Zm (iD hd))) (.mk hk hw L)).1,hd.take ( J hd-1),hg++[iD hd]⟩,Y)) (by unfold JQ;rw[if_neg V2];exact if_pos h0) V0
theorem c89:aU Tryz.prog M 89 ZDB:=by
 refine kX (l:=ZQS) ⟨Nl,ZVA,trivial⟩ ZWT Tryz.func89 1 λ⟨⟨fk,fw,fc,hk,hw,L,hd,hg,_⟩,_⟩hp=>?_;obtain⟨h1,h2,h3⟩:=hp;dsimp only at h1 h2 h3;refine wV (λQ=>∀al,al=List.getD hg (Int.toNat ((( J hg:Int):Int)-1)) W.nil->∀aa,aa=al->let z0:=Yx aa (H.mk hk hw L);iB ((( J hg:Int):Int)==0) (Q .ret (L2 [pB 2 I] [(.x 0,[ci fk,sU .u64 fw .bA,sU .aX fc .bA,ci hk,sU .u64 hw .bA,sU .aX L .bA,sU .aY hd (.bF (.x 0 6)),sU .aY hg (.bF (.x 0 7))])])) ( bQ ((( J hg:Int):Int)-1)/\((0:Int)<=(( J hg:Int):Int)-1/\(( J hg:Int):Int)-1<( J hg:Int))/\EW ((fk,fw,fc,hk,hw,L,hd,hg,()),aa,())/\iB (( z0.2:Int)!=0) (Q .ret (L2 [pB 2 I] [(.x 0,[ci fk,sU .u64 fw .bA,sU .aX fc .bA]++enc .aX z0.1++[sU .aY hd (.bF (.x 0 6)),sU .aY hg (.bF (.x 0 7))])])) ( U1 (hg,())/\( J hd+J [aa])*200<=140737488355328/\Q .ret (L2 [pB 2 Y] [(.x 0,[ci fk,sU .u64 fw .bA,sU .aX fc .bA]++enc .aX z0.1++[sU .aY (hd++[aa]) (.bF (.x 0 6)),sU .aY (hg.take ( J hg-1)) (.bF (.x 0 7))])])))) ?_ λ_ h=>Eq.mpr V4 (h _ rfl _ (Z0 _));rintro y1 ak y2 rfl;rw[GQ]at ak;subst ak;(simp only[iB,bR,bW]);have cC:∀{r:bG×Bool}{s:bT U},JM ⟨.mk hk hw L,hd,hg⟩=r->ZB M Tryz.f89.ntmps Tryz.f89.results.toList (.c (.bool r.2)) [[.int .i64 fk,.slice .u64 fw .bA,.slice .aX fc .bA,.int .i64 r.1.cX.D,.slice .u64 r.1.cX.aS .bA,.slice .aX r.1.cX.X .bA,.slice .aY r.1.done (.bF (.x 0 6)),.slice .aY r.1.gone (.bF (.x 0 7))]] .ret s->ZB M Tryz.f89.ntmps Tryz.f89.results.toList (ZNo ((fk,fw,fc,hk,hw,L,hd,hg,()),())) (ZE7 ((fk,fw,fc,hk,hw,L,hd,hg,()),())) .ret s:=by intro r s h hs;subst h;exact hs
 have ao:¬( J hg:Int)=0->iD hg∈hg:=λh=>LB O;refine⟨λh=>?_,λh=>⟨V3,⟨O,O⟩,h1 _ (ao h),λh0=>?_,λh0=>⟨⟨V2,h3⟩,by simp only[List.length_cons,List.length_nil];omega,?_⟩⟩⟩;.exact cC (r:=(⟨.mk hk hw L,hd,hg⟩,I)) (by unfold JM;exact if_pos V2) V0
 .rw[uT h0];exact cC (r:=(⟨.mk hk hw L,hd,hg⟩,I)) (by unfold JM;rw[if_neg V2];exact if_neg h0) V0
 .exact cC (r:=(⟨(Yx (iD hg) (.mk hk hw L)).1,hd++[iD hg],hg.take ( J hg-1)⟩,Y)) (by unfold JM;rw[if_neg V2];exact if_pos h0) V0
theorem c90:aU Tryz.prog M 90 ZDA:=by
 refine kX (l:=Vj) ⟨c17,Dc,Nl,trivial⟩ OH Tryz.func90 2 λ⟨⟨fk,fw,fc,hk,hw,L,hd,hg,_⟩,i,_⟩hp=>?_;obtain⟨hD,hl⟩:=hp;dsimp only at hD hl;refine wV (λQ=>∀au,au=aR hd (G i) W.nil->∀ak,ak=au->let z0:=Zd (Zm ak);Tk 6 (! decide (i<0)) (( decide (i<0)=I->(! decide (i<0))=Y)/\iB (bif decide (i<0)then Y else decide ((( J hd:Int):Int)<=i)) (Q .ret (L2 [pI 4 2] [(.x 0,[ci fk,sU .u64 fw .bA,sU .aX fc .bA,ci hk,sU .u64 hw .bA,sU .aX L .bA,sU .aY hd (.bF (.x 0 6)),sU .aY hg (.bF (.x 0 7))])])) (((0:Int)<=i/\i<=( J hd:Int))/\( J ([]:List W)+J (List.take (G i) hd))*200<=140737488355328/\((0:Int)<=i/\i<( J hd:Int))/\fg (ak,())/\bQ (i+1)/\Zi (A90 [1,1,1,1,1,0,1,0,0]) (Hh fk fw fc hk hw L hd hg i (([]:List W)++List.take (G i) hd) (i+1) (W.D z0) (H.D (W.bH z0)) (H.aS (W.bH z0)) (H.X (W.bH z0)) (H.D (W.new z0)) (H.aS (W.new z0)) (H.X (W.new z0)) (W.aS z0) (W.X z0) (W.V z0) (W.ops z0)) (xB 0 (S90 [1,1,1,1,1,1] Q))))) ?_ λ_ h=>Eq.mpr V4 (h _ rfl _ (Z0 _));rintro y1 ar y2 rfl;(simp only[iB,bR,bW]);have cC:∀{r:bG×Int}{s:bT U},kN i ⟨.mk hk hw L,hd,hg⟩=r->ZB M Tryz.f90.ntmps Tryz.f90.results.toList (.c (.int .i64 r.2)) [[.int .i64 fk,.slice .u64 fw .bA,.slice .aX fc .bA,.int .i64 r.1.cX.D,.slice .u64 r.1.cX.aS .bA,.slice .aX r.1.cX.X .bA,.slice .aY r.1.done (.bF (.x 0 6)),.slice .aY r.1.gone (.bF (.x 0 7))]] .ret s->ZB M Tryz.f90.ntmps Tryz.f90.results.toList (ZNn ((fk,fw,fc,hk,hw,L,hd,hg,()),i,())) (ZE6 ((fk,fw,fc,hk,hw,L,hd,hg,()),i,())) .ret s:=by intro r s h hs;subst h;exact hs
 refine⟨λh=>?_,λh=>?_⟩;.refine cC (r:=(⟨.mk hk hw L,hd,hg⟩,2)) ?_ V0;unfold kN;exact Q0 λk=>by have k:=CM.1 k;dsimp only at k;omega
 have hB:xE i ⟨.mk hk hw L,hd,hg⟩=Y:=CM.2 ⟨O,V2⟩;obtain⟨d1,d2,d3⟩:=hD hB;rw[<-ar]at d1;have ea:yU i ⟨.mk hk hw L,hd,hg⟩=Zd (Zm y2):=by rw[ar];try rfl
 have em:kY i ⟨.mk hk hw L,hd,hg⟩=mX (hd.drop (G (i+1))) (Zd (Zm y2)) (hd.take (G i)):=by rw[<-ea];try rfl
 rw[ea]at d2;have hN:kN i ⟨.mk hk hw L,hd,hg⟩=_:=Q5 hB;have aj:J (hd.take (G i))<=J hd:=by rw[QB];omega
 refine⟨⟨O,O⟩,by simp only[Ql];omega,⟨O,O⟩,d1,V3,?_⟩;refine Z5 (ι:=Int×W×List W) (λj=>Hh fk fw fc hk hw L hd hg i j.2.2 j.1 j.2.1.D j.2.1.bH.D j.2.1.bH.aS j.2.1.bH.X j.2.1.new.D j.2.1.new.aS j.2.1.new.X j.2.1.aS j.2.1.X j.2.1.V j.2.1.ops) (λj=>(0<=j.1/\j.1<=J hd)/\kY i ⟨.mk hk hw L,hd,hg⟩=mX (hd.drop (G j.1)) j.2.1 j.2.2/\zi (hd.drop (G j.1)) j.2.1/\( J j.2.2:Int)<=J hd+j.1) (λj=>G (( J hd:Int)-j.1)) (i+1,Zd (Zm y2),hd.take (G i)) rfl ⟨⟨V2,V2⟩,em,d2,V2⟩ ?_;rintro⟨k,f,bB⟩⟨⟨k0,k1⟩,hM,hO,hL⟩;dsimp only at k0 k1 hM hO hL;refine ZI3 _ _ _ _ _ _ _ _ _ _ _ _ _ _ _ _ _ _ _ _ _ _ _ _ ?_;rintro z1 ax z2 aq z3 rfl z4 ay;rw[ZOw]at aq;subst aq;(simp only[iB,bR,bW]);refine⟨λaj=>?_,λbd=>?_⟩
 .rw[Zzj k0 aj,<-ax]at hM hO;obtain⟨⟨o0,o1⟩,o2⟩:=hO;have eq:=ZQp o0;rw[mX,eq]at hM;rw[eq]at o2;refine⟨⟨k0,aj⟩,o1,λhn=>?_,λh0=>⟨by simp only[Qd,Ql];omega,V3,(k+1,(l7 z3 z2).2.1,bB++[z4]),rfl,⟨⟨V2,V2⟩,?_,o2 h0,?_⟩,V2⟩⟩;.rw[Q0 hn]at hM;rw[hM,Q0 hn]at hN;exact cC hN V0
  .rw[Q5 h0,<-ay]at hM;exact hM
  .rw[Qi];simp only[Qd,Ql];omega
 .have a1:hd.drop (G k)=[]:=Qb O;rw[a1]at hM;have hM:kY i ⟨.mk hk hw L,hd,hg⟩=((bB,z2),0):=hM;rw[hM]at d3 hN;rw[Q5 rfl]at hN;refine⟨d3 rfl,λh0=>?_,λhn=>?_⟩;.rw[Q5 h0]at hN;rw[h0];exact cC hN V0
  .rw[uT hn];rw[Q0 hn]at hN;exact cC hN V0
noncomputable section
def Zyi(a:lV):Prop:=(kg a.1/\ei a.1)/\¬(Zf a.1 64=Y/\H.D a.1≠10)
def Zy4(a:lV):aA U:=.c .nilp
def Zry:Fs U:=fs ov (λa=>[Zyi a]) Zy4
def ZSN:cO Ml:=.dU 0 (.cons (jv .i64) (.cons (ff .u64) (.cons (ff .aX) (.cons (ff .aY) (.cons (ff .aY) .nil))))) (.dU 1 (.cons (jv .i64) (.cons (ff .u64) (.cons (ff .aX) (.cons (jv .i64) (.cons (ff .u64) (.cons (ff .aX) (.cons (iJ .aY 1 6) (.cons (iJ .aY 1 7) .nil)))))))) (.cons (fe .eF) .nil))
def ZNZ(a:Ml):Prop:=TT a.2.2.1 (bG.mk (H.mk a.1.1 a.1.2.1 a.1.2.2.1) a.1.2.2.2.1 a.1.2.2.2.2.1)/\bG.mk (H.mk a.1.1 a.1.2.1 a.1.2.2.1) a.1.2.2.2.1 a.1.2.2.2.2.1=bG.mk (H.mk a.2.1.2.2.2.1 a.2.1.2.2.2.2.1 a.2.1.2.2.2.2.2.1) a.2.1.2.2.2.2.2.2.1 a.2.1.2.2.2.2.2.2.2.1
def ZNz(a:Ml):aA U:=.c (.bool Y)
def ZEe(a:Ml):List (List (C U)):=[enc .aX (bG.cX (lz a.2.2.1 (bG.mk (H.mk a.1.1 a.1.2.1 a.1.2.2.1) a.1.2.2.2.1 a.1.2.2.2.2.1)))++[sU .aY (bG.done (lz a.2.2.1 (bG.mk (H.mk a.1.1 a.1.2.1 a.1.2.2.1) a.1.2.2.2.1 a.1.2.2.2.2.1))) .bA,sU .aY (bG.gone (lz a.2.2.1 (bG.mk (H.mk a.1.1 a.1.2.1 a.1.2.2.1) a.1.2.2.2.1 a.1.2.2.2.2.1))) .bA],[ci a.2.1.1,sU .u64 a.2.1.2.1 .bA,sU .aX a.2.1.2.2.1 .bA]++enc .aX (bG.cX (lz a.2.2.1 (bG.mk (H.mk a.1.1 a.1.2.1 a.1.2.2.1) a.1.2.2.2.1 a.1.2.2.2.2.1)))++[sU .aY (bG.done (lz a.2.2.1 (bG.mk (H.mk a.1.1 a.1.2.1 a.1.2.2.1) a.1.2.2.2.1 a.1.2.2.2.2.1))) (.bF (.x 1 6)),sU .aY (bG.gone (lz a.2.2.1 (bG.mk (H.mk a.1.1 a.1.2.1 a.1.2.2.1) a.1.2.2.2.1 a.1.2.2.2.2.1))) (.bF (.x 1 7))]]
def ZDM:Fs U:=fo ZSN (λa=>[ZNZ a]) ZNz ZEe
def ZSM:cO GJ:=.dU 0 (.cons (jv .i64) (.cons (ff .u64) (.cons (ff .aX) (.cons (ff .aY) (.cons (ff .aY) .nil))))) (.dU 1 (.cons (jv .i64) (.cons (ff .u64) (.cons (ff .aX) (.cons (jv .i64) (.cons (ff .u64) (.cons (ff .aX) (.cons (iJ .aY 1 6) (.cons (iJ .aY 1 7) .nil)))))))) .nil)
def ZNY(a:GJ):Prop:=Zo (H.mk a.1.1 a.1.2.1 a.1.2.2.1)<=1000000000000/\bG.mk (H.mk a.1.1 a.1.2.1 a.1.2.2.1) a.1.2.2.2.1 a.1.2.2.2.2.1=bG.mk (H.mk a.2.1.2.2.2.1 a.2.1.2.2.2.2.1 a.2.1.2.2.2.2.2.1) a.2.1.2.2.2.2.2.2.1 a.2.1.2.2.2.2.2.2.2.1
def ZNy(a:GJ):aA U:=.c (.bool Y)
def ZEd(a:GJ):List (List (C U)):=[enc .aX (bG.cX (bG.mk (H.mk a.1.1 a.1.2.1 a.1.2.2.1) a.1.2.2.2.1 a.1.2.2.2.2.1))++[sU .aY (bG.done (bG.mk (H.mk a.1.1 a.1.2.1 a.1.2.2.1) a.1.2.2.2.1 a.1.2.2.2.2.1)) .bA,sU .aY (bG.gone (bG.mk (H.mk a.1.1 a.1.2.1 a.1.2.2.1) a.1.2.2.2.1 a.1.2.2.2.2.1)) .bA],[ci a.2.1.1,sU .u64 a.2.1.2.1 .bA,sU .aX a.2.1.2.2.1 .bA]++enc .aX (bG.cX (bG.mk (H.mk a.1.1 a.1.2.1 a.1.2.2.1) a.1.2.2.2.1 a.1.2.2.2.2.1))++[sU .aY (bG.done (bG.mk (H.mk a.1.1 a.1.2.1 a.1.2.2.1) a.1.2.2.2.1 a.1.2.2.2.2.1)) (.bF (.x 1 6)),sU .aY (bG.gone (bG.mk (H.mk a.1.1 a.1.2.1 a.1.2.2.1) a.1.2.2.2.1 a.1.2.2.2.2.1)) (.bF (.x 1 7))]]
def ZDL:Fs U:=fo ZSM (λa=>[ZNY a]) ZNy ZEd
def X_:cF F0:=.cons (fe .aX) (.cons (fY .eF) .nil)
def ZWQ(a:F0):Prop:=((kg a.1/\ei a.1)/\Zf a.1 64=Y/\H.D a.1≠10)/\∀d∈a.2.1,pO (cM.e d)/\Ye (cM.e d)
def Ui(a:F0):aA U:=.c (.bool Y)
def ZTR:Fs U:=fs X_ (λa=>[ZWQ a]) Ui
def ZIS(a:F0):Prop:=((kg a.1/\ei a.1)/\¬(Zf a.1 64=Y/\H.D a.1≠10))/\∀d∈a.2.1,pO (cM.e d)/\Ye (cM.e d)
def ZDR:Fs U:=fs X_ (λa=>[ZIS a]) Ui
def Ux:List (FuncId×Fs U):=[(36,PA),(37,Vp),(38,RO),(39,ZDO),(87,ZDD),(88,ZDC),(89,ZDB),(90,ZDA)]
def Ul:Zb U:=cI [[0,1,5,505,900,901],[8],[9],[],[],[],[0,1,5,6,8,9,505],[0,1,5,6,8,23,505],[],[0,1,5,6,8,23,505],[0,1,5,6,8,31,505],[0,1,5,6,8,31,505],[0,1,5,6,38,505],[0,1,5,6,38,505],[]]
def zZ(hk:Int)(hw:List Int)(L:List H)(hd hg:List W)(fk:Int)(fw:List Int)(fc:List H)(s:Int)(rv:List Int)(h:List H)(rd rg:List W)(d:cM)(x9:Bool):bT U:=L2 [(0,.ptr (.x 0) 0),(1,.ptr (.x 1) 0),pL 5,pI 8 (cM.D d),pB 9 x9] [(.bE 5,enc .eF d),(.x 0,[ci hk,sU .u64 hw .bA,sU .aX L .bA,sU .aY hd .bA,sU .aY hg .bA]),(.x 1,[ci fk,sU .u64 fw .bA,sU .aX fc .bA,ci s,sU .u64 rv .bA,sU .aX h .bA,sU .aY rd (.bF (.x 1 6)),sU .aY rg (.bF (.x 1 7))])]
def MZ(hk:Int)(hw:List Int)(L:List H)(hd hg:List W)(fk:Int)(fw:List Int)(fc:List H)(rk:Int)(rv:List Int)(s:List H)(rd rg:List W)(d:cM)(h:Bool):bT U:=L2 [(0,.ptr (.x 0) 0),(1,.ptr (.x 1) 0),pL 5,pI 8 (cM.D d),pB 23 h] [(.bE 5,enc .eF d),(.x 0,[ci hk,sU .u64 hw .bA,sU .aX L .bA,sU .aY hd .bA,sU .aY hg .bA]),(.x 1,[ci fk,sU .u64 fw .bA,sU .aX fc .bA,ci rk,sU .u64 rv .bA,sU .aX s .bA,sU .aY rd (.bF (.x 1 6)),sU .aY rg (.bF (.x 1 7))])]
def Zt5(hk:Int)(hw:List Int)(L:List H)(hd hg:List W)(fk:Int)(fw:List Int)(fc:List H)(s:Int)(rv:List Int)(h:List H)(rd rg:List W)(d:cM):bT U:=L2 [(0,.ptr (.x 0) 0),(1,.ptr (.x 1) 0),pL 5,pB 38 ((cM.D d)==7)] [(.bE 5,enc .eF d),(.x 0,[ci hk,sU .u64 hw .bA,sU .aX L .bA,sU .aY hd .bA,sU .aY hg .bA]),(.x 1,[ci fk,sU .u64 fw .bA,sU .aX fc .bA,ci s,sU .u64 rv .bA,sU .aX h .bA,sU .aY rd (.bF (.x 1 6)),sU .aY rg (.bF (.x 1 7))])]
abbrev ou(p):=AW (Za Ux) Tryz.f42 Ul p
abbrev xw(p):=SW (Za Ux) Tryz.f42 Ul p
theorem ZWF(hk)(hw)(L)(hd hg)(fk)(fw)(fc)(rk)(rv)(s)(rd rg)(d)(Q:QT)(h:let z0:=xB 0 (xw [1,1] Q);iB ((cM.D d)==0) (ou [1,0,1,0,1] (zZ hk hw L hd hg fk fw fc rk rv s rd rg d ((cM.D d)==0)) z0) (iB ((cM.D d)==1) (ou [1,0,1,0,1] (zZ hk hw L hd hg fk fw fc rk rv s rd rg d ((cM.D d)==1)) z0) (iB ((cM.D d)==2) (ou [1,0,1,0,1] (zZ hk hw L hd hg fk fw fc rk rv s rd rg d ((cM.D d)==2)) z0) (ou [1,0,1,0,1] (zZ hk hw L hd hg fk fw fc rk rv s rd rg d ((cM.D d)==3)) z0)))):ou [] (L2 [(0,.ptr (.x 0) 0),(1,.ptr (.x 1) 0),(2,.agg (enc .eF d))] [(.x 0,[ci hk,sU .u64 hw .bA,sU .aX L .bA,sU .aY hd .bA,sU .aY hg .bA]),(.x 1,[ci fk,sU .u64 fw .bA,sU .aX fc .bA,ci rk,sU .u64 rv .bA,sU .aX s .bA,sU .aY rd (.bF (.x 1 6)),sU .aY rg (.bF (.x 1 7))])]) Q:=(Eq.mpr V4 h:)
theorem ZIm(hk)(hw)(L)(hd hg)(fk)(fw)(fc)(rk)(rv)(rc)(rd rg)(d)(x9)(Q:QT)(h:∀s,s=cM.e d->let z1:=jc s (bG.mk (H.mk rk rv rc) rd rg);let z0:=jc s (bG.mk (H.mk hk hw L) hd hg);iB x9 ( W3 ((hk,hw,L,hd,hg,()),s,())/\ZNS ((fk,fw,fc,rk,rv,rc,rd,rg,()),s,())/\Q .ret (L2 [(6,.c (.bool (z0.2==z1.2)))] [(.x 0,enc .aX (bG.cX z0.1)++[sU .aY (bG.done z0.1) .bA,sU .aY (bG.gone z0.1) .bA]),(.x 1,[ci fk,sU .u64 fw .bA,sU .aX fc .bA]++enc .aX (bG.cX z1.1)++[sU .aY (bG.done z1.1) (.bF (.x 1 6)),sU .aY (bG.gone z1.1) (.bF (.x 1 7))])])) (iB ((cM.D d)==4) (ou [1,0,1,0,1,1,1] (MZ hk hw L hd hg fk fw fc rk rv rc rd rg d ((cM.D d)==4)) (xB 0 (xw [1,1] Q))) (ou [1,0,1,0,1,1,1] (MZ hk hw L hd hg fk fw fc rk rv rc rd rg d ((cM.D d)==5)) (xB 0 (xw [1,1] Q))))):ou [1,0,1,0,1] (zZ hk hw L hd hg fk fw fc rk rv rc rd rg d x9) (xB 0 (xw [1,1] Q)):=(Eq.mpr V4 (h _ (Z0 _)):)
theorem ZIl(hk)(hw)(L)(hd hg)(fk)(fw)(fc)(rk)(rv)(rc)(rd rg)(d)(s)(Q:QT)(h:∀ar,ar=bG.cX (kN (cM.i d) (bG.mk (H.mk hk hw L) hd hg)).1->∀aq,aq=bG.cX (kN (cM.i d) (bG.mk (H.mk rk rv rc) rd rg)).1->let z1:=bG.mk (H.mk rk rv rc) rd rg;let z3:=kN (cM.i d) z1;let z0:=bG.mk (H.mk hk hw L) hd hg;let z2:=kN (cM.i d) z0;iB s ( RM ((hk,hw,L,hd,hg,()),())/\ZNR ((fk,fw,fc,rk,rv,rc,rd,rg,()),())/\Q .ret (L2 [(6,.c (.bool ( (JQ z0).2==(JQ z1).2)))] [(.x 0,enc .aX (bG.cX (JQ z0).1)++[sU .aY (bG.done (JQ z0).1) .bA,sU .aY (bG.gone (JQ z0).1) .bA]),(.x 1,[ci fk,sU .u64 fw .bA,sU .aX fc .bA]++enc .aX (bG.cX (JQ z1).1)++[sU .aY (bG.done (JQ z1).1) (.bF (.x 1 6)),sU .aY (bG.gone (JQ z1).1) (.bF (.x 1 7))])])) (iB ((cM.D d)==6) ( Pc ((hk,hw,L,hd,hg,()),())/\ZNQ ((fk,fw,fc,rk,rv,rc,rd,rg,()),())/\Q .ret (L2 [(6,.c (.bool ( (JM z0).2==(JM z1).2)))] [(.x 0,enc .aX (bG.cX (JM z0).1)++[sU .aY (bG.done (JM z0).1) .bA,sU .aY (bG.gone (JM z0).1) .bA]),(.x 1,[ci fk,sU .u64 fw .bA,sU .aX fc .bA]++enc .aX (bG.cX (JM z1).1)++[sU .aY (bG.done (JM z1).1) (.bF (.x 1 6)),sU .aY (bG.gone (JM z1).1) (.bF (.x 1 7))])])) (iB ((cM.D d)==7) ( ZO1 ((hk,hw,L,hd,hg,()),cM.i d,())/\ZNP ((fk,fw,fc,rk,rv,rc,rd,rg,()),cM.i d,())/\Q .ret (L2 [(6,.c (.bool (z2.2==z3.2)))] [(.x 0,enc .aX ar++[sU .aY (bG.done z2.1) .bA,sU .aY (bG.gone z2.1) .bA]),(.x 1,[ci fk,sU .u64 fw .bA,sU .aX fc .bA]++enc .aX aq++[sU .aY (bG.done z3.1) (.bF (.x 1 6)),sU .aY (bG.gone z3.1) (.bF (.x 1 7))])])) (ou [1,1] (Zt5 hk hw L hd hg fk fw fc rk rv rc rd rg d) Q)))):ou [1,0,1,0,1,1,1] (MZ hk hw L hd hg fk fw fc rk rv rc rd rg d s) (xB 0 (xw [1,1] Q)):=(Eq.mpr V4 (h _ rfl _ rfl):)
theorem ZIk(hk)(hw:List Int)(L:List H)(hd hg:List W)(fk)(fw:List Int)(fc:List H)(rk)(rv:List Int)(s:List H)(rd rg:List W)(d)(Q:QT)(h:Q .ret (L2 [pB 6 Y] [(.x 0,[ci hk,sU .u64 hw .bA,sU .aX L .bA,sU .aY hd .bA,sU .aY hg .bA]),(.x 1,[ci fk,sU .u64 fw .bA,sU .aX fc .bA,ci rk,sU .u64 rv .bA,sU .aX s .bA,sU .aY rd (.bF (.x 1 6)),sU .aY rg (.bF (.x 1 7))])])):ou [1,1] (Zt5 hk hw L hd hg fk fw fc rk rv s rd rg d) Q:=(Eq.mpr V4 h:)
def ZGH:List (FuncId×Fs U):=[(46,ZDI),(35,Tz),(26,yJ)]
def ZUf:Zb U:=cI [[0,1,900,901],[5,6],[0,1,4,5,6]]
abbrev A43(p):=AW (Za ZGH) Tryz.f43 ZUf p
theorem ZWE(hk)(hw)(L)(hd hg)(fk)(fw:List Int)(fc:List H)(rk)(rv)(rc)(rd rg:List W)(Q:QT)(h:∀s,s=H.mk hk hw L->∀aa,aa=s->let z2:=H.mk hk hw L;let z1:=H.mk rk rv rc;let z0:=bif ZW aa z1 then(( J hd:Int))==(J rd)else I;zr ((hk,hw,L,hd,hg,()),())/\zr (( H.D z2,H.aS z2,H.X z2,hd,hg,()),())/\mT (aa,z1,())/\Tk 7 (ZW aa z1) (Tk 7 z0 (Q .ret (L2 [(4,.c (.bool (bif z0 then(( J hg:Int))==(J rg)else I)))] [(.x 0,[ci (H.D s),sU .u64 (H.aS s) .bA,sU .aX (H.X s) .bA,sU .aY hd .bA,sU .aY hg .bA]),(.x 1,[ci fk,sU .u64 fw .bA,sU .aX fc .bA,ci rk,sU .u64 rv .bA,sU .aX rc .bA,sU .aY rd (.bF (.x 1 6)),sU .aY rg (.bF (.x 1 7))])])))):A43 [] (L2 [(0,.ptr (.x 0) 0),(1,.ptr (.x 1) 0)] [(.x 0,[ci hk,sU .u64 hw .bA,sU .aX L .bA,sU .aY hd .bA,sU .aY hg .bA]),(.x 1,[ci fk,sU .u64 fw .bA,sU .aX fc .bA,ci rk,sU .u64 rv .bA,sU .aX rc .bA,sU .aY rd (.bF (.x 1 6)),sU .aY rg (.bF (.x 1 7))])]) Q:=(Eq.mpr V4 (h _ (Z7 _) _ (Z7 _)):)
def ZGD:List (FuncId×Fs U):=[(30,Hm),(31,v7),(32,Sr),(33,St),(41,mJ),(34,Zrx),(42,ZDM),(43,ZDL),(40,ZDN),(44,ZDK),(18,ZDT)]
def lv7:Zb U:=cI [[1,2,502],[5,509],[12],[1,2,4,5,12,502,509],[1,2,4,5,21,502,509],[1,2,4,5,21,502,509],[1,4,5,6,509,532],[7,(532,an 6 [.bF .aY,.bF .aY])],[40,532,532],[40,(532,an 6 [.bF .aY,.bF .aY])],[52,532,532],[1,4,5,6,7,52,509,532],[1,4,5,6,7,67,509,532],[1,4,5,6,7,67,509,532],[]]
def FO(t:H)(l:List cM)(x7 al:Int)(am:List Int)(ak:List H)(aj ao:List W)(aa:Int)(ab:List Int)(s:List H)(h:Int)(ah:List Int)(ae:List H)(ai af:List W):bT U:=L2 [(1,.c (sU .eF l .bA)),(5,.ptr (.bE 9) 0),(6,.ptr (.bE 32) 0),pI 7 x7] [(.bE 9,[ci al,sU .u64 am .bA,sU .aX ak .bA,sU .aY aj .bA,sU .aY ao .bA]),(.bE 32,[ci aa,sU .u64 ab .bA,sU .aX s .bA,ci h,sU .u64 ah .bA,sU .aX ae .bA,sU .aY ai (.bF (.l 32 6)),sU .aY af (.bF (.l 32 7))])]
abbrev A7(p):=AW (Za ZGD) Tryz.f7 lv7 p
abbrev S7(p):=SW (Za ZGD) Tryz.f7 lv7 p
theorem ZPh(t)(l)(x7 am)(ao)(al)(ak aq)(s)(ae)(ab)(ah)(aj)(ai)(af ar)(N0:NT)(Q:QT)(h:∀av,av=(nY ak).1->∀au,au=(js af).1->∀az,az=aR l (G x7) (cM.mk 0 0 W.nil)->∀aw,aw=az->∀aa,aa=lz aw (bG.mk (H.mk am ao al) ak aq)->∀ay,ay=bG.cX aa->let z2:=H.mk ah aj ai;let z1:=decide (x7<(J l));let z0:=bG.mk ay (bG.done aa) (bG.gone aa);Tk 2 z1 (iB (bif z1 then decide (x7<20)else I) ((0<=x7/\x7<(J l))/\Zyh (aw,z2,())/\iB (! Cx aw z2) ( pz ()/\Q .ret (L2 [pB 4 Y] [])) ((0<=x7/\x7<(J l))/\ZNZ ((am,ao,al,ak,aq,()),(s,ae,ab,ah,aj,ai,af,ar,()),aw,())/\Tk 2 (! !true) ( ZNY (( H.D (bG.cX aa),H.aS (bG.cX aa),H.X (bG.cX aa),bG.done aa,bG.gone aa,()),(s,ae,ab,H.D (bG.cX aa),H.aS (bG.cX aa),H.X (bG.cX aa),bG.done aa,bG.gone aa,()),())/\((!true)=I->(! !true)=Y)/\iB (bif !true then Y else !true) (Q .ret (L2 [pB 4 I] [])) ( bQ (x7+1)/\N0 (FO t l (x7+1) (H.D (bG.cX z0)) (H.aS (bG.cX z0)) (H.X (bG.cX z0)) (bG.done z0) (bG.gone z0) s ae ab (H.D (bG.cX z0)) (H.aS (bG.cX z0)) (H.X (bG.cX z0)) (bG.done z0) (bG.gone z0)))))) ( ZO0 ((am,ao,al,ak,aq,()),())/\ZNX ((s,ae,ab,ah,aj,ai,af,ar,()),())/\tI (av,au,())/\( kf av au=Y->pz ())/\Tt (kf av au)/\Q .ret (L2 [pB 4 (bif kf av au then Y else I)] [])))):A7 [1,1,1,1,1,0,1,0,0] (FO t l x7 am ao al ak aq s ae ab ah aj ai af ar) (xT N0 (xB 0 (S7 [1,1,1,1,1,1] Q))):=(Eq.mpr V4 (h _ (Z0 _) _ (Z0 _) _ rfl _ (ZA9 _) _ rfl _ (Z7 _)):)
def ZsY:List (FuncId×Fs U):=[(30,Hm),(31,v7),(32,Sr),(33,Zry)]
def ZFZ:Zb U:=cI [[1,2,502],[5],[12],[1,2,4,5,12,502],[1,2,4,5,21,502],[1,2,4,5,21,502],[1,4,5,6],[7],[40],[40],[52],[1,4,5,6,7,52],[1,4,5,6,7,67],[1,4,5,6,7,67],[]]
abbrev ZWh(p):=AW (Za ZsY) Tryz.f7 ZFZ p
end
theorem ZVs:aU Tryz.prog M 33 Zry:=by refine kF (l:=ZR5) ⟨Sv,Vr,trivial⟩ ZX6 Tryz.func33 1 λ⟨t,_⟩hp=>?_;obtain⟨⟨s,h2⟩,h3⟩:=hp;dsimp only at s h2 h3;refine wV (λQ=>let z0:=H.mk t.D t.aS t.X;Uk (z0,())/\Tk 2 (! ! Zf z0 64) (((! Zf z0 64)=I->(! ! Zf z0 64)=Y)/\iB (bif ! Zf z0 64 then Y else t.D==10) (Q .ret (L2 [(2,.c .nilp)] [])) ( xF (z0,())/\Q .ret (L2 [(2,.ptr (.bE 14) 0)] [(.bE 14,enc .aX (Z2 z0)++[.nils,.nils])])))) ?_ λ_ h=>Eq.mpr V4 h;(simp only[vE]);(simp only[iB,bR,bW]);refine⟨⟨s,h2⟩,λ_=>?_,λh=>absurd h h3⟩;simp only[Zy4];exact V0
theorem c42:aU Tryz.prog M 42 ZDM:=by
 refine kX (l:=Ux) ⟨c36,c37,c38,c39,c87,c88,c89,c90,trivial⟩ Ul Tryz.func42 3 λ⟨⟨hk,hw,L,hd,hg,_⟩,⟨fk,fw,fc,rk,rv,rc,rd,rg,_⟩,d,_⟩hp=>?_;obtain⟨⟨a1,a2,a3,a4,a5,a6⟩,e⟩:=hp;dsimp only at a1 a2 a3 a4 a5 a6 e;cases e;have S1:∀Q:c9->bT U->Prop,(∀{r:bG}{s:bT U},lz d ⟨.mk hk hw L,hd,hg⟩=r->ZB M Tryz.f42.ntmps Tryz.f42.results.toList (.c (.bool Y)) [[.int .i64 r.cX.D,.slice .u64 r.cX.aS .bA,.slice .aX r.cX.X .bA,.slice .aY r.done .bA,.slice .aY r.gone .bA],[.int .i64 fk,.slice .u64 fw .bA,.slice .aX fc .bA,.int .i64 r.cX.D,.slice .u64 r.cX.aS .bA,.slice .aX r.cX.X .bA,.slice .aY r.done (.bF (.x 1 6)),.slice .aY r.gone (.bF (.x 1 7))]] .ret s->Q .ret s)->∀b:Bool,(b=Y->0<=d.D/\d.D<=3)/\(b=I->¬(0<=d.D/\d.D<=3))->ou [1,0,1,0,1] (zZ hk hw L hd hg fk fw fc hk hw L hd hg d b) (c9.inBlock 0 (xw [1,1] Q)):=by
  intro Q cC b hb;have S2:¬(0<=d.D/\d.D<=3)->∀b:Bool,(b=Y->d.D=4\/d.D=5)/\(b=I->¬(d.D=4\/d.D=5))->ou [1,0,1,0,1,1,1] (MZ hk hw L hd hg fk fw fc hk hw L hd hg d b) (c9.inBlock 0 (xw [1,1] Q)):=by
   intro n0 b hb;refine ZIl _ _ _ _ _ _ _ _ _ _ _ _ _ _ _ _ ?_;rintro y1 rfl y2 rfl;(simp only[iB,bR,bW]);simp only[Kw];refine⟨λh=>⟨⟨a2,a5,a6⟩,⟨a2,a5,a6⟩,cC (by unfold lz;rw[if_neg n0,if_pos (hb.1 h)]) V0⟩,λh=>?_⟩;have n1:=hb.2 h;refine⟨λh=>⟨⟨a3,a5,a6⟩,⟨a3,a5,a6⟩,cC (by unfold lz;rw[if_neg n0,if_neg n1,if_pos h]) V0⟩,λn2=>⟨λh=>⟨a4,a4,cC (by unfold lz;rw[if_neg n0,if_neg n1,if_neg n2,if_pos h]) V0⟩,λn3=>?_⟩⟩;exact ZIk _ _ _ _ _ _ _ _ _ _ _ _ _ _ _ (cC (by unfold lz;rw[if_neg n0,if_neg n1,if_neg n2,if_neg n3]) V0)
  refine ZIm _ _ _ _ _ _ _ _ _ _ _ _ _ _ _ _ ?_;rintro y1 rfl;(simp only[iB,bR,bW]);simp only[Kw];refine⟨λh=>⟨⟨a1 (hb.1 h).1 (hb.1 h).2,a5⟩,⟨a1 (hb.1 h).1 (hb.1 h).2,a5⟩,cC (by unfold lz;rw[if_pos (hb.1 h)]) V0⟩,λh=>⟨λk=>S2 (hb.2 h) _ ⟨λ_=>.inl k,λc=>by simp[k]at c⟩,λk=>S2 (hb.2 h) _ ⟨λc=>.inr (by simpa using c),λc=>by rintro(x|x);exact k x;simp[x]at c⟩⟩⟩
 have cC:∀{r:bG}{s:bT U},lz d ⟨.mk hk hw L,hd,hg⟩=r->ZB M Tryz.f42.ntmps Tryz.f42.results.toList (.c (.bool Y)) [[.int .i64 r.cX.D,.slice .u64 r.cX.aS .bA,.slice .aX r.cX.X .bA,.slice .aY r.done .bA,.slice .aY r.gone .bA],[.int .i64 fk,.slice .u64 fw .bA,.slice .aX fc .bA,.int .i64 r.cX.D,.slice .u64 r.cX.aS .bA,.slice .aX r.cX.X .bA,.slice .aY r.done (.bF (.x 1 6)),.slice .aY r.gone (.bF (.x 1 7))]] .ret s->ZB M Tryz.f42.ntmps Tryz.f42.results.toList (ZNz ((hk,hw,L,hd,hg,()),(fk,fw,fc,hk,hw,L,hd,hg,()),d,())) (ZEe ((hk,hw,L,hd,hg,()),(fk,fw,fc,hk,hw,L,hd,hg,()),d,())) .ret s:=by intro r s h hs;subst h;exact hs
 refine ZWF _ _ _ _ _ _ _ _ _ _ _ _ _ _ _ ?_;(simp only[iB,bR,bW]);have no:∀{n:Int},d.D=n->(d.D==n)=I->∀P:Prop,P:=λh k=>by rw[h]at k;simp at k
 exact⟨λh=>S1 _ cC _ ⟨λ_=>by omega,λk=>no h k _⟩,λ_=>⟨λh=>S1 _ cC _ ⟨λ_=>by omega,λk=>no h k _⟩,λ_=>⟨λh=>S1 _ cC _ ⟨λ_=>by omega,λk=>no h k _⟩,λ_=>S1 _ cC _ ⟨λk=>by have:d.D=3:=(by simpa using k);omega,λk=>by have:¬d.D=3:=(by simpa using k);omega⟩⟩⟩⟩
theorem c43:aU Tryz.prog M 43 ZDL:=by refine kX (l:=ZGH) ⟨c46,c35,Ij,trivial⟩ ZUf Tryz.func43 2 λ⟨⟨s,h,L,hd,hg,_⟩,⟨fk,fw,fc,rk,rv,rc,rd,rg,_⟩,_⟩hp=>?_;obtain⟨m,e⟩:=hp;dsimp only at m e;cases e;refine ZWE _ _ _ _ _ _ _ _ _ _ _ _ _ _ ?_;rintro y1 rfl y2 rfl;(simp only[iB,bR,bW]);have hs:ZW (.mk s h L) (.mk s h L)=Y:=Zjn _;refine⟨trivial,trivial,m,?_⟩;simp only[hs,Kw,XE,ZNy,ZEd];exact V0
set_option maxHeartbeats 1000000 in theorem c7:aU Tryz.prog M 7 ZTR:=by
 refine kF (l:=ZGD) ⟨Pb,Aj,c32,c33,tC,ZVr,c42,c43,c40,c44,c18,trivial⟩ lv7 Tryz.func7 2 λ⟨t,l,_⟩hp=>?_;obtain⟨⟨⟨h1,h2⟩,hr,hk⟩,h3⟩:=hp;dsimp only at h1 h2 hr hk h3;refine wV (λQ=>∀s,s=t->let z3:=H.X (Z2 s);let z2:=H.D (Z2 s);let z1:=H.aS (Z2 s);let z0:=! Zf s 64;US (s,())/\HC (s,())/\iB (! decide (0<=Y3 s 80 3000)) ( pz ()/\Q .ret (L2 [pB 4 Y] [])) ( pd (s,64,())/\Tk 2 (!z0) ((z0=I->(!z0)=Y)/\iB (bif z0 then Y else t.D==10) ((I=Y->pz ())/\Tt I/\Q .ret (L2 [pB 4 I] [])) ( gQ (s,())/\gQ (s,())/\Zi (A7 [1,1,1,1,1,0,1,0,0]) (FO t l 0 z2 z1 z3 ([]:List W) ([]:List W) z2 z1 z3 z2 z1 z3 [] []) (xB 0 (S7 [1,1,1,1,1,1] Q)))))) ?_ λ_ h=>Eq.mpr V4 (h _ (Z7 _));rintro y1 rfl;(simp only[iB,bR,bW]);refine⟨⟨⟨h1,h2⟩,hr,hk⟩,h1,λ_=>⟨trivial,Z9 rfl rfl⟩,λhf=>?_⟩;have hm:=Znj hf;have hs:=Bn y1 80 3000 hf;have a9:=ZX y1;have ln:=UF y1;have lm:=Uf y1;have rt:eL y1:=⟨⟨64,hr⟩,h2⟩;have s0:mM 0 (Z2 y1):=⟨ZxO rt,ZY _,O,O⟩;refine⟨⟨V2,h2,V2,V2⟩,λh=>?_,λ_=>⟨by show Zo y1<=_;omega,by show Zo y1<=_;omega,?_⟩⟩
 .rcases h with h|h;.rw[hr]at h;cases h
  .exact absurd h hk
 refine Z5 (ι:=Int×bG) (λj=>FO y1 l j.1 j.2.cX.D j.2.cX.aS j.2.cX.X j.2.done j.2.gone (Z2 y1).D (Z2 y1).aS (Z2 y1).X j.2.cX.D j.2.cX.aS j.2.cX.X j.2.done j.2.gone) (λj=>(0<=j.1/\j.1<=20/\j.1<=J l)/\fL (G j.1) (Z2 y1) j.2) (λj=>G (20-j.1)) (0,⟨Z2 y1,[],[]⟩) rfl ⟨⟨V2,V2,V2⟩,.nil s0,λe he=>(by cases he),Nat.le_refl _,Nat.le_refl _⟩ ?_;rintro⟨i,aF⟩⟨⟨i0,i1,i2⟩,hI⟩;dsimp only at i0 i1 i2 hI;have aq:=hI.p.E.2;have ae:G i<=20:=O;have eH:bG.mk (H.mk aF.cX.D aF.cX.aS aF.cX.X) aF.done aF.gone=aF:=by rw[Dx]
 refine ZPh _ _ _ _ _ _ _ _ _ _ _ _ _ _ _ _ _ _ ?_;rintro z1 f1 z2 f2 z3 f3 z4 rfl z5 f5 z6 rfl;rw[eH]at f5;subst f5;simp only[Dx];(simp only[iB,bR,bW]);refine⟨λL=>?_,λ_=>?_⟩
 .obtain⟨hl,hi⟩:=L;have ah:z4∈l:=by rw[f3];exact Zh O _
  obtain⟨q1,q2⟩:=h3 _ ah;refine⟨⟨i0,hl⟩,⟨⟨q1,q2⟩,IF _ (by have:=aq.m;dsimp only;omega)⟩,λ_=>⟨trivial,Z9 rfl rfl⟩,λhs=>?_⟩;obtain⟨dk,dI⟩:=hI.eF ae (d:=z4) λa b=>⟨(ZIB hs).2 a b,q2⟩;have dm:Zo (lz z4 aF).cX<=3000+210000000*21:=(dI.p.E.2.mono (j:=21) O).m;refine⟨⟨i0,hl⟩,⟨?_,rfl⟩,⟨?_,rfl⟩,λh=>?_,V3,(i+1,lz z4 aF),rfl,⟨⟨V2,V2,V2⟩,?_⟩,V2⟩;.show TT z4 ⟨.mk _ _ _,_,_⟩;dsimp only;rw[eH];exact dk
  .show Zo (.mk _ _ _)<=_;dsimp only;rw[Dx];omega
  .rcases h with h|h<;>cases h
  .dsimp only;rw[show G (i+1)=G i+1 by omega];exact dI
 .have ab:=hI.p.ok;have ba:=hI.d;obtain⟨j1,u,j2,j3⟩:=ZDy ae hI rt;have c:=P0 (c:=210000000) λe he=>(ab e he).ct;have c1:=ZDc (c:=210000000) λe he=>(ab e he).c;have c2:J aF.done*210000000<=20*210000000:=Qx _ O;have rf:∀e∈aF.done,eJ e:=λe he=>(ab e he).rf;have ej:=ZGR rf O;rw[<-ej,<-f1]at f2;subst f2;rw[<-f1]at j1;have jm:=ZL j1;refine⟨⟨λe he=>(ab e he).re,V2⟩,⟨rf,V2⟩,by dsimp only[tI];omega,λ_=>trivial,Z9 rfl ?_⟩;simp
set_option maxHeartbeats 1000000 in theorem ZVt:aU Tryz.prog M 7 ZDR:=by refine kF (l:=ZsY) ⟨Pb,Aj,c32,ZVs,trivial⟩ ZFZ Tryz.func7 2 λ⟨t,l,_⟩hp=>?_;obtain⟨⟨⟨s,h2⟩,hn⟩,h3⟩:=hp;dsimp only at s h2 hn h3;refine wV (λQ=>let z0:=H.mk t.D t.aS t.X;let z1:=bif ! Zf z0 64 then Y else t.D==10;Zyi (z0,())/\HC (z0,())/\iB (! decide (0<=Y3 z0 80 3000)) ( pz ()/\Q .ret (L2 [pB 4 Y] [])) ( pd (z0,64,())/\Tk 2 (! ! Zf z0 64) (((! Zf z0 64)=I->(! ! Zf z0 64)=Y)/\iB z1 ((Y=Y->pz ())/\Tt Y/\Q .ret (L2 [pB 4 Y] [])) (ZWh [1,1,1,1] (L2 [(1,.c (sU .eF l .bA)),pL 2,(5,.c .nilp),(21,.c (.bool z1))] [(.bE 2,enc .aX t)]) Q)))) ?_ λ_ h=>Eq.mpr V4 h;(simp only[vE]);(simp only[iB,bR,bW]);refine⟨⟨⟨s,h2⟩,hn⟩,s,λ_=>⟨trivial,Z9 rfl rfl⟩,λhf=>?_⟩;have hm:=Znj hf;exact⟨⟨V2,h2,V2,V2⟩,λ_=>⟨trivial,Z9 rfl rfl⟩,λh=>absurd h hn⟩
theorem ZRe{α aD}{c_ p q:α->Prop}{s f}(c:aU Tryz.prog M f (fs aD (λa=>[p a]) s))(d:aU Tryz.prog M f (fs aD (λa=>[q a]) s))(h:∀a,c_ a->p a\/q a):aU Tryz.prog M f (fs aD (λa=>[c_ a]) s):=by
 refine tn c.1 rfl ?_;intro args aC ps r X' hs ab;unfold fs at hs;simp only at hs;split at hs
 .split at hs
  .rename_i a ha;cases hs;have e:∀p:_->Prop,(fs aD (λx=>[p x]) s).fn args []=A ([p a],s a,[]):=by intro p;unfold fs;simp only[ha]
   rcases h a ab.1 with k|k;.exact c.cE rfl args [] _ _ [] (e _) ⟨k,trivial⟩
   .exact d.cE rfl args [] _ _ [] (e _) ⟨k,trivial⟩
  .cases hs
 .cases hs
def ZNO(a:F0):Prop:=(kg a.1/\ei a.1)/\∀d∈a.2.1,pO d.e/\Ye d.e
noncomputable def Ow:Fs U:=fs X_ (λa=>[ZNO a]) Ui
theorem cL7:aU Tryz.prog M 7 Ow:=ZRe c7 ZVt λa h=>by
 by_cases k:Zf a.1 64=Y/\H.D a.1≠10;.exact .inl ⟨⟨h.1,k⟩,h.2⟩
 .exact .inr ⟨⟨h.1,k⟩,h.2⟩
