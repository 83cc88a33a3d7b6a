import Derived.Test.YtpjenobkibfpcaaGreatZKG21b
import Derived.Test.YtpjenobkibfpcaaGreatZKL21t
import Derived.Test.YtpjenobkibfpcaaGreatZKL24
import Derived.Test.YtpjenobkibfpcaaGreatZCL25j
set_option linter.all false
open Option renaming some->A,none->aT
open Bool renaming true->Y,false->I
open List renaming length->J,getD->aR
open Int renaming toNat->G
namespace Go.AM.YtpjenobkibfpcaaGreat
open Go.AM Go.Proofs
theorem WC:aU Tryz.prog M 117 Py:=by
 refine Hw (l:=cQ) ZN rfl trivial ZGh Tryz.func117 rfl rfl 1 (λ_=>rfl) V1 λ⟨l,_⟩s=>?_;simp only[qc]at s;refine ZPi _ _ ⟨λh=>?_,λ_=>⟨by simp only[Ql];omega,?_⟩⟩;.subst h;simp only[RP];exact V0
 .simp only[RP];exact V0
theorem Vu:aU Tryz.prog M 175 Zdw:=by
 refine Hw (l:=cQ) ZN rfl trivial ZOe Tryz.func175 rfl rfl 1 (λ_=>rfl) V1 λ⟨l,_⟩s=>?_;simp only[H2]at s;refine ZTD _ _ ⟨λh=>?_,λ_=>⟨by simp only[Ql];omega,?_⟩⟩;.subst h;simp only[OX];exact V0
 .simp only[OX];exact V0
theorem Zmi{α}(z){l i}(h:i<J l)(x:α):YQ z l i x=l.set i x:=by simp only[YQ];rw[show i+1-J l=0 by omega];simp
theorem ZgX{α}(z){l i}(h:J l<=i)(x:α):YQ z (l++[z]) i x=YQ z l i x:=by simp only[YQ,Qi,QN,Qg];rw[show i+1-J l=i+1-( J l+1)+1 by omega,XJ];try rfl
theorem ZFQ(t):J t.aS+Ze t.X+1=Zo t:=by obtain⟨k,w,ks⟩:=t;simp only[Zo,H.dz,H.dt];omega
theorem NB{t}(h:ei t):bQ t.D/\(∀x∈t.aS,iU x)/\Jf t.X:=by obtain⟨k,w,ks⟩:=t;exact h
theorem M7{ks}(h:Jf ks)(i):ei (aR ks i H.nil):=by
 by_cases hi:i<J ks;.exact YW h (Zh hi _)
 .rw[Qr,QX O];trivial
theorem BY(ks)(i):Zo (aR ks i H.nil)<=Ze ks+1:=by
 by_cases hi:i<J ks;.have:=YM (Zh hi H.nil);omega
 .rw[Qr,QX O];simp[H.nil,Zo,Ze]
theorem Va(t){i}(h:0<=i):jq t i=aR t.X (G i) H.nil:=by unfold jq;grind
theorem I6(t){i}(h:0<=i):JJ t i=aR t.aS (G i) 0:=by unfold JJ;omega
theorem Zwv{l}(h:∀x∈l,iU x)(i):iU (aR l i 0):=by
 by_cases hi:i<J l;.grind
 .rw[Qr,QX O];trivial
theorem b74:ZW6:=by
 intro N e t _ hp hN;simp only[gg,mL]at hp hN;obtain⟨⟨p1,p2,d,p3⟩,p4,p5⟩:=hp;have h1:=Yr e;have h2:=uo p2;have hd:=lH I e t;rw[Ja]at hd;refine wV (λQ=>∀aa,aa=e->∀s,s=t->∀aj,aj=e.bH->iB (e.D==0) (Q .ret (L2 [pL 4,pB 5 Y] [(.bE 4,enc .aX t)])) (iB (e.D==1) ( kM (aj,s,())/\Q .ret (L2 [pL 4,pB 5 (ZW (Z2 aj) (Z2 s))] [(.bE 4,enc .aX e.new)])) (iB (e.D==2) ( oo (aa,s,())/\jB (aa,s,())<N/\Q .ret (L2 [pL 4,pB 5 (jY I aa s).isSome] [(.bE 4,enc .aX (YH (jY I aa s)))])) (iB (e.D==3) ( o7 (aa,s,())/\jB (aa,s,())<N/\Q .ret (L2 [pL 4,pB 5 (gX (ix I aa s)).isSome] [(.bE 4,enc .aX (ud aa (ix I aa s)))])) (Q .ret (L2 [pL 4,pB 5 I] [(.bE 4,[ci 0,.nils,.nils])])))))) ?_ λ_ h=>Eq.mpr V4 (h _ (Z0 _) _ (Z7 _) _ (Z7 _));rintro y1 am y2 ao y3 aq;subst am ao aq;(simp only[iB,bR,bW]);refine⟨λhk=>?_,λhk=>⟨λab=>⟨by simp only[kM];omega,?_⟩,λab=>⟨λae=>⟨by simp only[oo];grind,by simp only[jB];omega,?_⟩,λae=>⟨λah=>⟨by simp only[o7];grind,by simp only[jB];omega,?_⟩,λah=>?_⟩⟩⟩⟩;.rw[Q5 hk]at hd;simp only[tX,pE,Q5 hk,hd];exact V0
 .rw[Q0 hk,Q5 ab]at hd;simp only[tX,pE,Q0 hk,Q5 ab,hd];cases ZW (Z2 y1.bH) (Z2 y2)<;>(repeat'(first|exact trivial|exact rfl|apply And.intro))
 .rw[Q0 hk,Q0 ab,Q5 ae]at hd;simp only[tX,pE,Q0 hk,Q0 ab,Q5 ae,hd];exact V0
 .rw[Q0 hk,Q0 ab,Q0 ae,Q5 ah]at hd;simp only[tX,pE,Q0 hk,Q0 ab,Q0 ae,Q5 ah,hd];have e2:(if y2.D=y1.V then(gX (ZV I y1.ops y2.X [])).map λb=>H.mk y1.V [] b else aT).isSome=(gX (ix I y1 y2)).isSome:=by
   unfold ix;split;.grind
   .try rfl
  rw[e2];exact V0
 .rw[Q0 hk,Q0 ab,Q0 ae,Q0 ah]at hd;simp only[tX,pE,Q0 hk,Q0 ab,Q0 ae,Q0 ah,hd];exact V0
theorem ZSn:ZP5:=by
 intro N e t _ hp hN;simp only[oo,jB]at hp hN;obtain⟨k2,⟨p1,p2,d,p3⟩,p4,p5⟩:=hp;have h1:=Yr e;have h2:=Yl e.X;have h3:=ZFQ t;have h4:=Zs t.X;have r2:=uo p2;have rt:=NB p5;have ri:=Zc p3;refine wV (λQ=>iB (t.D !=1) (Q .ret (L2 [pL 4,pB 5 I] [(.bE 4,[ci 0,.nils,.nils])])) ( qc (t.aS,())/\H2 (t.X,())/\Zi (uW N [1,1,1,0,1,0,0]) (Mk e t 0 t.aS) (xB 0 (mK N [1,1,1,1] Q)))) ?_ λ_ h=>Eq.mpr V4 h;(simp only[iB,bR,bW]);have no:jY I e t=aT->ZB M Tryz.f115.ntmps Tryz.f115.results.toList (yl (e,t,())) [] .ret (⟨[(4,.ptr (.bE 4) 0),(5,.c (.bool I))],[( .bE 4,[.int .i64 0,.nils,.nils])],[]⟩:bT U):=by intro hs;simp only[yl,hs];exact V0
 refine⟨λhk=>no (by unfold jY;rw[if_neg hk]),λhk=>?_⟩;have hk:t.D=1:=by simpa using hk
 refine⟨by simp only[qc];omega,by simp only[H2];omega,?_⟩;refine Z5 (ι:=Int×List Int) (λs=>Mk e t s.1 s.2) (λs=>0<=s.1/\s.1<=J e.aS/\gK t.aS (e.aS.drop (G s.1)) s.2=gK t.aS e.aS t.aS/\J s.2<=J t.aS+65536) (λs=>G (( J e.aS:Int)-s.1)) (0,t.aS) rfl ⟨by simp,by simp,by simp,by simp⟩ ?_;rintro⟨i,bB⟩⟨f1,f2,f3,f4⟩;dsimp only at f1 f2 f3 f4;refine ZCR _ _ _ _ _ _ _ ?_;rintro y1 am y2 af;subst am;(simp only[iB,bR,bW]);refine⟨λhi=>?_,λhi=>?_⟩
 .have aa:=Zh (l:=e.aS) (i:=G i) O (aV.mk 0 0 0 0);rw[ZO f1 hi (aV.mk 0 0 0 0),<-af]at f3;rw[<-af]at aa;have hw:=Yd ri.aS y2 aa;obtain⟨g1,g2,g3,g4⟩:=r2.2.2.2.1 y2 aa;have ai:JJ y1 y2.S=aR y1.aS (G y2.S) 0:=I6 y1 O;have a1:=Zwv rt.2.1 (G y2.S);rw[gK]at f3;rw[ai];unfold iU at g3 g4 a1;refine⟨⟨f1,hi⟩,by simp only[rM],by simp only[iK];omega,λah=>no ?_,λaj=>?_⟩;.rw[Q0 ah]at f3;unfold jY;rw[Q5 hk,<-f3];try rfl
  .have aj:cS 0 (aR y1.aS (G y2.S) 0) y2.a_=y2.bH:=by simpa using aj
   rw[Q5 aj]at f3;refine Z5 (ι:=List Int) (λs=>Ih e y1 i s) (λs=>(∀v,YQ 0 s (G y2.S) v=YQ 0 bB (G y2.S) v)/\J s<=J y1.aS+65536) (λs=>G (y2.S+1-J s)) bB rfl ⟨λv=>rfl,f4⟩ ?_;rintro s⟨q1,q2⟩;refine ZCQ _ _ _ _ _ _ _ _ ?_;(simp only[vE]);rw[<-af,ai];(simp only[iB,bR,bW]);refine⟨λhl=>⟨by simp;omega,s++[0],rfl,⟨λv=>?_,by simp;omega⟩,by simp;omega⟩,λhl=>?_⟩;.rw[ZgX 0 O,q1]
   .have hl:y2.S<J s:=O;refine⟨by simp only[iK];omega,O,O,V3,(i+1,s.set (G y2.S) (cS (aR y1.aS (G y2.S) 0) y2.new y2.a_)),rfl,⟨V2,V2,?_,by simp only[List.length_set];omega⟩,V2⟩;dsimp only;rw[<-f3,<-Zmi 0 O,q1]
 .rw[Qb O,gK]at f3;refine Z5 (ι:=Int×List H) (λs=>Mu e y1 bB s.1 s.2) (λs=>0<=s.1/\s.1<=J e.X/\fD I y1.X (e.X.drop (G s.1)) s.2=fD I y1.X e.X y1.X/\J s.2<=J y1.X+65536) (λs=>G (( J e.X:Int)-s.1)) (0,y1.X) rfl ⟨by simp,by simp,by simp,by simp⟩ ?_;rintro⟨j,ks⟩⟨e1,e2,e3,e4⟩;dsimp only at e1 e2 e3 e4;refine ZCP _ _ _ _ _ _ _ _ ?_;rintro y1 am y2 af y3 aq y4 al;subst am;(simp only[iB,bR,bW]);refine⟨λhj=>?_,λhj=>?_⟩
  .have aa:=Zh (l:=e.X) (i:=G j) O (aW.mk 0 W.nil);rw[ZO e1 hj (aW.mk 0 W.nil),<-af]at e3;rw[<-af]at aa;have ar:=Zl ri.X y2 aa;have hm:=JC aa;have a8:=Dw aa;have bk:=Ji e;have hr:=(Y6 r2.2.2.2.2.2.1 aa).2;have ai:jq y1 y2.S=aR y1.X (G y2.S) H.nil:=Va y1 O;rw[ai]at al;have a4:=BY y1.X (G y2.S);have ay:=M7 rt.2.2 (G y2.S);rw[fD,xe,<-al,<-aq]at e3;rw[<-al]at a4 ay;rw[<-aq]at hm hr ar a8;refine⟨⟨e1,hj⟩,by simp only[rM],by simp only[gg];exact⟨⟨O,hr,_,ar.2⟩,O,ay⟩,by simp only[mL];omega,λah=>no ?_,λaj=>?_⟩
   .have ah:bX I y3 y4=aT:=by simpa using ah
    rw[ah]at e3;unfold jY;rw[Q5 hk,<-f3,<-e3];try rfl
   .obtain⟨u,hu⟩:=QL.1 aj;rw[hu,Qp]at e3;refine Z5 (ι:=List H) (λs=>NJ e y1 bB j s) (λs=>(∀v,YQ H.nil s (G y2.S) v=YQ H.nil ks (G y2.S) v)/\J s<=J y1.X+65536) (λs=>G (y2.S+1-J s)) ks rfl ⟨λv=>rfl,e4⟩ ?_;rintro s⟨q1,q2⟩;refine ZCO _ _ _ _ _ _ _ _ _ ?_;rintro z1 a7 z2 ax z3 au z4 av z5 az;rw[<-af]at ax;subst a7 ax;rw[<-aq]at au;subst au;rw[ai,<-al]at av;subst av;rw[T3 hu]at az;subst az;(simp only[iB,bR,bW]);refine⟨λhl=>⟨by simp;omega,s++[H.nil],rfl,⟨λv=>?_,by simp;omega⟩,by simp;omega⟩,λhl=>?_⟩;.rw[ZgX H.nil O,q1]
    .have hl:z2.S<J s:=O;refine⟨O,O,V3,(j+1,s.set (G z2.S) z5),rfl,⟨V2,V2,?_,by simp only[List.length_set];omega⟩,V2⟩;dsimp only;rw[<-e3,<-Zmi H.nil O,q1]
  .rw[Qb O,fD]at e3;have hs:jY I e y1=A (.mk 1 bB ks):=by unfold jY;rw[Q5 hk,<-f3,<-e3];try rfl
   simp only[yl,hs];exact V0
theorem Znl(r)(o:Op)(s:List Op)(h bB):ZV r (o::s) h bB=(iQ r o h bB).bind λx=>ZV r s x.2 x.1:=by rw[ZV]
theorem BF{ks}(h:Jf ks)(n):Jf (ks.drop n):=by induction n generalizing ks with|zero=>exact h|succ n ih=>cases ks with|nil=>exact h|cons a r=>exact ih h.2
theorem Su:ZP4:=by
 intro N e t _ hp hN;simp only[o7,jB]at hp hN;obtain⟨k3,⟨p1,p2,d,p3⟩,p4,p5⟩:=hp;have h1:=Yr e;have h2:=Y4 e.ops;have h3:=ZFQ t;have h4:=Zs t.X;have r2:=uo p2;have rt:=NB p5;have ri:=Zc p3;refine wV (λQ=>iB (t.D !=e.V) (Q .ret (L2 [pL 4,pB 5 I] [(.bE 4,[ci 0,.nils,.nils])])) (Zi (qu N [1,1,1,1,0,1,0,0]) (x_ e t 0 t.X []) (xB 0 (tc N [1,1,1,1,1] Q)))) ?_ λ_ h=>Eq.mpr V4 h;(simp only[iB,bR,bW]);have no:ix I e t=aT->ZB M Tryz.f116.ntmps Tryz.f116.results.toList (yE (e,t,())) [] .ret (⟨[(4,.ptr (.bE 4) 0),(5,.c (.bool I))],[( .bE 4,[.int .i64 0,.nils,.nils])],[]⟩:bT U):=by intro hs;simp only[yE,hs];exact V0
 refine⟨λhk=>no (by unfold ix;rw[if_neg hk]),λhk=>?_⟩;have hk:t.D=e.V:=by simpa using hk
 have bk:ix I e t=ZV I e.ops t.X []:=by unfold ix;rw[if_pos hk]
 refine Z5 (ι:=Int×List H×List H) (λs=>x_ e t s.1 s.2.2 s.2.1) (λs=>0<=s.1/\s.1<=J e.ops/\ZV I (e.ops.drop (G s.1)) s.2.2 s.2.1=ix I e t/\J s.2.1+J s.2.2+Zq (e.ops.drop (G s.1))<=J t.X+Zq e.ops/\Ze s.2.2<=Ze t.X/\Jf s.2.2) (λs=>G (( J e.ops:Int)-s.1)) (0,[],t.X) rfl ⟨by simp,by simp,by simp[bk],by simp,by simp,rt.2.2⟩ ?_;rintro⟨i,bB,aa⟩⟨f1,f2,f3,f4,f5,f6⟩;dsimp only at f1 f2 f3 f4 f5 f6;refine ZCM _ _ _ _ _ _ _ _ ?_;rintro y1 ak;(simp only[iB,bR,bW]);refine⟨λhi=>?_,λhi=>?_⟩
 .have af:=Zh (l:=e.ops) (i:=G i) O Op.nil;rw[ZO f1 hi Op.nil,<-ak]at f3 f4;rw[<-ak]at af;have hr:=Go.AM.bM ri.ops y1 af;have hm:=Y9 af;have bp:=F4 af;have b6:=Ji e;have bn:=ZZ y1;have a8:=Jr (qe r2.2.2.2.2.2.2 af);have b9:=Zs y1.l;simp only[Zq]at f4;rw[Znl,Js]at f3;have go:∀(x:List H)(m:List H)(v:aA U)N0 Q',ZV I (e.ops.drop (G (i+1))) x m=ix I e t->J m+J x+Zq (e.ops.drop (G (i+1)))<=J t.X+Zq e.ops->Ze x<=Ze t.X->Jf x->(∀s2,s2=x_ e t (i+1) x m->N0 s2)->qu N [1,1,1,1,0,1,0,0,1,1,1] (An e t i x m v) (c9.then N0 (c9.inBlock 0 (tc N [1,1,1,1,1] Q'))):=by intro x m v N0 Q' a1 a2 a3 a4 a5;exact ZCN _ _ _ _ _ _ _ _ _ ⟨V3,a5 _ rfl⟩
  have cC:∀(x m:List H),ZV I (e.ops.drop (G (i+1))) x m=ix I e t->J m+J x+Zq (e.ops.drop (G (i+1)))<=J t.X+Zq e.ops->Ze x<=Ze t.X->Jf x->∀s2,s2=x_ e t (i+1) x m->∃j:Int×List H×List H,s2=x_ e t j.1 j.2.2 j.2.1/\(0<=j.1/\j.1<=J e.ops/\ZV I (e.ops.drop (G j.1)) j.2.2 j.2.1=ix I e t/\J j.2.1+J j.2.2+Zq (e.ops.drop (G j.1))<=J t.X+Zq e.ops/\Ze j.2.2<=Ze t.X/\Jf j.2.2)/\G (( J e.ops:Int)-j.1)<G (( J e.ops:Int)-i):=by rintro x m a1 a2 a3 a4 _ rfl;exact⟨(i+1,m,x),rfl,⟨V2,V2,a1,a2,a3,a4⟩,V2⟩
  have r1:=ZQ hr;have ht:∀n:Nat,J (aa.take n)<=J aa/\J (aa.take n)+J (aa.drop n)=J aa:=by intro n;simp only[QB,QI];omega
  refine⟨⟨f1,hi⟩,λaj=>⟨O,?_⟩,λaj=>⟨λah=>?_,λah=>⟨λar=>?_,λar=>?_⟩⟩⟩;.rw[Q0 O,Q0 O,Q5 aj,Qp]at f3;exact go _ _ _ _ _ f3 (by simp only[Qi];omega) f5 f6 (cC _ _ f3 (by simp only[Qi];omega) f5 f6)
  .refine Sz _ _ _ _ _ _ _ _ _ _ ?_;rintro z1 ae z2 aw z3 av z4 aq z5 al z6 ao;rw[<-ak]at ae;subst ae;rw[Q0 O,Q5 ah]at f3;(simp only[iB,bR,bW]);rw[Kp]at al;rw[Kp];refine⟨λhs=>no ?_,λhs=>⟨O,O,λh=>by omega,λ_=>⟨λ_=>⟨?_,λhq=>no ?_,λhq=>?_⟩,λh=>absurd ah h⟩⟩⟩
   .have:iI z1.l aa=I:=by unfold iI;rw[decide_eq_false O];try rfl
    rw[this,Q0 (by simp)]at f3;exact f3.symm
   .have:=ZkS (J z1.l) aa;simp only[Av];omega
   .have:iI z1.l aa=I:=by unfold iI;rw[<-al,hq];simp
    rw[this,Q0 (by simp)]at f3;exact f3.symm
   .have:iI z1.l aa=Y:=by unfold iI;rw[<-al,hq,decide_eq_true O];try rfl
    rw[this,Q5 rfl,Qp]at f3;have hd:=D_ (J z1.l) aa;have bb:=ht (J z1.l);exact go _ _ _ _ _ f3 O O (BF f6 _) (cC _ _ f3 O O (BF f6 _))
  .refine Sz _ _ _ _ _ _ _ _ _ _ ?_;rintro z1 ae z2 aw z3 av z4 aq z5 al z6 ao;rw[<-ak]at ae;subst ae;rw[Q0 O,Q0 ah,Q0 aj]at f3;(simp only[iB,bR,bW]);rw[show Int.toNat 1=1 from rfl];refine⟨λhs=>no ?_,λhs=>⟨O,O,λh=>by omega,λ_=>⟨λh=>absurd h ah,λ_=>?_⟩⟩⟩;.rw[Q5 O]at f3;exact f3.symm
   .have hz:z3=aR aa 0 H.nil:=by rw[av,aw];cases aa with|nil=>rfl|cons a r=>rfl
    rw[Q0 O,<-hz,<-aq]at f3;have bl:=BY aa 0;have bc:=M7 f6 0;rw[<-hz]at bl bc;have a9:=Yi hr ar;rw[<-aq]at a9 bn a8 bp;refine⟨?_,by simp only[gg];exact⟨⟨O,a8.2.2.2,_,a9⟩,O,bc⟩,by simp only[mL];omega,λau=>no ?_,λbq=>?_⟩;.simp only[QB];omega
    .have au:bX I z4 z3=aT:=by simpa using au
     rw[au]at f3;exact f3.symm
    .obtain⟨u,hu⟩:=QL.1 bq;rw[T3 hu]at ao;subst ao;rw[hu,Qv,Qp]at f3;have hd:=D_ 1 aa;have bb:=ht 1;have cb:J (aa.take 1)=1:=by simp only[QB];omega
     refine⟨by simp only[QN];omega,?_⟩;exact go _ _ _ _ _ f3 (by simp only[Qi,QN];omega) O (BF f6 _) (cC _ _ f3 (by simp only[Qi,QN];omega) O (BF f6 _))
  .have ay:y1.D=0:=by cases r1<;>first|rfl|(exfalso;simp at ah aj ar)
   refine Sz _ _ _ _ _ _ _ _ _ _ ?_;rintro z1 ae z2 aw z3 av z4 aq z5 al z6 ao;rw[<-ak]at ae;subst ae;rw[Q5 ay]at f3;have hn:1<=z1.n/\z1.n<=1048576:=by cases r1<;>first|(constructor<;>assumption)|(exfalso;simp at ah aj ar ay)
   (simp only[iB,bR,bW]);refine⟨λhs=>no ?_,λhs=>⟨O,O,λ_=>⟨?_,?_⟩,λh=>absurd ay h⟩⟩;.rw[Q0 O]at f3;exact f3.symm
   .have:=(ht (G z1.n)).1;omega
   .rw[Q5 O,Qp]at f3;have hd:=D_ (G z1.n) aa;have bb:=ht (G z1.n);exact go _ _ _ _ _ f3 (by simp only[Qi];omega) O (BF f6 _) (cC _ _ f3 (by simp only[Qi];omega) O (BF f6 _))
 .rw[Qb O,ZV]at f3;simp only[yE,<-f3,ud,gX,Qp,hk];by_cases hr:J aa=0;.rw[Q5 hr,hr];exact V0
  .rw[Q0 hr,show(( J aa:Int)==0)=I by rw[KE];omega];exact V0
theorem ZXe:aU Tryz.prog M 74 LI/\aU Tryz.prog M 115 ZxD/\aU Tryz.prog M 116 ZxC:=ZJb qE A5 By yc Vu yq WC b74 ZSn Su
theorem c74:aU Tryz.prog M 74 LI:=ZXe.1
theorem Zth{r e t u}(s:∃d,Z3 e d=Y)(ht:Zo t+dZ e<=200000000000)(h:bX r e t=A u):Zo u<=1000000000000:=by obtain⟨d,s⟩:=s;have:=pv r e d t u s h;omega
theorem Ay:aU Tryz.prog M 25 Be:=by
 refine kF (l:=ZR9) ⟨Ap,c74,trivial⟩ ZXa Tryz.func25 2 λ⟨e,t,_⟩hp=>?_;simp only[gg]at hp;refine wV (λQ=>∀aa,aa=e->∀s,s=t->∀ab,ab=pE aa s->gg (aa,s,())/\iB (!(bX I aa s).isSome) (Q .ret (L2 [pL 4,pB 5 I] [(.bE 4,[ci 0,.nils,.nils])])) ( gQ (ab,())/\Q .ret (L2 [pL 4,pB 5 Y] [(.bE 4,enc .aX (Z2 ab))]))) ?_ λ_ h=>Eq.mpr V4 (h _ (Z0 _) _ (Z7 _) _ (Z7 _));rintro y1 ah y2 ak y3 ae;subst ah ak;(simp only[iB,bR,bW]);refine⟨by simp only[gg];exact hp,λhn=>?_,λhs=>?_⟩
 .have hn:bX I y1 y2=aT:=by simpa using hn
  simp only[Wj,hn];exact V0
 .obtain⟨u,hu⟩:=QL.1 hs;rw[T3 hu]at ae;subst ae;have:=Zth hp.1.2.2 hp.2.1 hu;refine⟨by simp only[gQ];exact this,?_⟩;simp only[Wj,hu];exact V0
theorem Sh:aU Tryz.prog M 222 Wf:=by refine kF (l:=cQ) trivial ZUn Tryz.func222 2 λ⟨t,i,_⟩s=>?_;simp only[wv]at s;refine wV (λQ=>iB (decide (i<( J t.aS:Int))) (((0:Int)<=i/\i<( J t.aS:Int))/\Q .ret (L2 [(4,.c (.int .u64 (aR t.aS (G i) (0:Int))))] [])) (Q .ret (L2 [(4,.c (.int .u64 0))] []))) ?_ λ_ h=>Eq.mpr V4 h;(simp only[iB,bR,bW]);refine⟨λh=>⟨⟨s,h⟩,YO rfl (I6 t s).symm⟩,λh=>YO rfl ?_⟩;rw[I6 t s,Qr,QX O];try rfl
theorem OO:aU Tryz.prog M 223 WA:=by
 refine kF (l:=cQ) trivial ZUm Tryz.func223 2 λ⟨t,i,_⟩s=>?_;simp only[wv]at s;have hk:=Va t s;refine wV (λQ=>iB (decide (i<( J t.X:Int))) (((0:Int)<=i/\i<( J t.X:Int))/\Q .ret (L2 [pL 4] [(.bE 4,enc .aX (aR t.X (G i) H.nil))])) (Q .ret (L2 [pL 4] [(.bE 4,[ci 0,.nils,.nils])]))) ?_ λ_ h=>Eq.mpr V4 h;(simp only[iB,bR,bW]);simp only[Es,hk];refine⟨λh=>⟨⟨s,h⟩,?_⟩,λh=>?_⟩;·exact V0
 .rw[Qr,QX O];exact V0
theorem ZGj{r e t l}(h:gX (ix r e t)=A l):ud e (ix r e t)=.mk e.V [] l:=by
 unfold gX at h;obtain⟨x,hx,s⟩:=Qq.1 h;rw[hx];split at s;.cases s;rfl
 .cases s
theorem SH:ZP0:=by
 intro N e t _ hp hN;simp only[gg,mL]at hp hN;obtain⟨⟨p1,p2,d,p3⟩,p4,p5⟩:=hp;have h1:=Yr e;have ri:=Zc p3;have hd:=uH Y e t;have hm:=Hx Y e d t;refine wV (λQ=>∀ab,ab=e->∀s,s=t->∀ao,ao=e.new->∀ar,ar=e.bH->∀al,al=YH (jY Y ab s)->∀am,am=ud ab (ix Y ab s)->let z1:=Q .ret (L2 [pL 4,pB 5 Y] [(.bE 4,enc .aX (Z2 s))]);let z0:=Q .ret (L2 [pL 4,pB 5 I] [(.bE 4,[ci 0,.nils,.nils])]);iB (e.D==0) (iB (!true) z0 ( gQ (s,())/\z1)) (iB (e.D==1) ( kM (ar,s,())/\iB (! ZW (Z2 ar) (Z2 s)) z0 ( gQ (ao,())/\Q .ret (L2 [pL 4,pB 5 Y] [(.bE 4,enc .aX (Z2 ao))]))) (iB (e.D==2) ( oo (ab,s,())/\jB (ab,s,())<N/\iB (!(jY Y ab s).isSome) z0 ( gQ (al,())/\Q .ret (L2 [pL 4,pB 5 Y] [(.bE 4,enc .aX (Z2 al))]))) (iB (e.D==3) ( o7 (ab,s,())/\jB (ab,s,())<N/\iB (!(gX (ix Y ab s)).isSome) z0 ( gQ (am,())/\Q .ret (L2 [pL 4,pB 5 Y] [(.bE 4,enc .aX (Z2 am))]))) (iB (!false) z0 ( gQ (s,())/\z1)))))) ?_ λ_ h=>Eq.mpr V4 (h _ (Z0 _) _ (Z7 _) _ (Z7 _) _ (Z7 _) _ (Z7 _) _ (Z7 _));rintro y1 ax y2 az y3 a5 y4 a4 y5 a1 y6 a3;subst ax az a5 a4;(simp only[iB,bR,bW]);simp only[iB,vcF];have ae:∀v,oL Y y1 y2=A v->Zo v<=1000000000000:=λv hv=>by grind
 have no:oL Y y1 y2=aT->ZB M Tryz.f135.ntmps Tryz.f135.results.toList (vH (y1,y2,())) [] .ret (⟨[(4,.ptr (.bE 4) 0),(5,.c (.bool I))],[( .bE 4,[.int .i64 0,.nils,.nils])],[]⟩:bT U):=by
  intro h;rw[h]at hd;simp only[vH,hd];exact V0
 have aa:∀v,oL Y y1 y2=A v->ZB M Tryz.f135.ntmps Tryz.f135.results.toList (vH (y1,y2,())) [] .ret (⟨[(4,.ptr (.bE 4) 0),(5,.c (.bool Y))],[( .bE 4,[.int .i64 (H.D (Z2 v)),.slice (U:=U) .u64 (H.aS (Z2 v)) .bA,.slice (U:=U) .aX (H.X (Z2 v)) .bA])],[]⟩:bT U):=by intro v h;rw[h]at hd;simp only[vH,hd];exact V0
 unfold oL at ae no aa;refine⟨λhk=>?_,λhk=>⟨λaj=>?_,λaj=>⟨λaq=>?_,λaq=>⟨λav=>?_,λav=>?_⟩⟩⟩⟩;.rw[Q5 hk]at ae no aa;exact⟨by simp only[gQ];omega,aa _ rfl⟩
 .rw[Q0 hk,Q5 aj]at ae no aa;refine⟨by simp only[kM];omega,λhs=>no (by rw[hs];rfl),λhs=>?_⟩;rw[Q5 hs]at ae aa;exact⟨by simp only[gQ];omega,aa _ rfl⟩
 .rw[Q0 hk,Q0 aj,Q5 aq]at ae no aa;refine⟨by simp only[oo];grind,by simp only[jB];omega,λhs=>no ?_,λhs=>?_⟩
  .have hs:jY Y y1 y2=aT:=by simpa using hs
   exact hs
  .obtain⟨u,hu⟩:=QL.1 hs;have e5:y5=u:=by rw[a1,hu];try rfl
   subst e5;exact⟨by simp only[gQ];exact ae _ hu,aa _ hu⟩
 .rw[Q0 hk,Q0 aj,Q0 aq,Q5 av]at ae no aa;have e2:∀o,gX (ix Y y1 y2)=o->(if y2.D=y1.V then(gX (ZV Y y1.ops y2.X [])).map λb=>H.mk y1.V [] b else aT)=o.map λb=>H.mk y1.V [] b:=by
   intro o ho;unfold ix at ho;split;.grind
   .rename_i h;rw[Q0 h]at ho;rw[<-ho];try rfl
  refine⟨by simp only[o7];grind,by simp only[jB];omega,λhs=>no ?_,λhs=>?_⟩;.simp_all
  .obtain⟨l,hl⟩:=QL.1 hs;have e6:y6=.mk y1.V [] l:=by rw[a3,ZGj hl]
   subst e6;have e3:=e2 _ hl;exact⟨by simp only[gQ];exact ae _ e3,aa _ e3⟩
 grind
theorem ZSb:ZOR:=by
 intro N e t _ hp hN;simp only[oo,jB]at hp hN;obtain⟨k2,⟨p1,p2,d,p3⟩,p4,p5⟩:=hp;have h1:=Yr e;have h2:=Yl e.X;have h3:=Zvs t;have h4:=Zs t.X;have r2:=uo p2;have rt:=NB p5;have ri:=Zc p3;have no:jY Y e t=aT->ZB M Tryz.f184.ntmps Tryz.f184.results.toList (uU (e,t,())) [] .ret (⟨[(4,.ptr (.bE 4) 0),(5,.c (.bool I))],[( .bE 4,[.int .i64 0,.nils,.nils])],[]⟩:bT U):=by
  intro hs;simp only[uU,hs];exact V0
 refine wV (λQ=>∀aj,aj=List.getD e.aS (Int.toNat ((( J e.aS:Int):Int)-1)) (aV.mk 0 0 0 0)->∀ah,ah=List.getD e.X (Int.toNat ((( J e.X:Int):Int)-1)) (aW.mk 0 W.nil)->let z5:=bQ ((( J e.X:Int):Int)-1);let z3:=xB 0 (CL N [1,1,1,1,1,1,1,1] Q);let z2:=CJ N [1,1,1,1,1,1,1,0,1,0,0];let z1:=decide ((0:Int)<( J e.aS:Int));let z0:=decide ((0:Int)<( J e.X:Int));let z4:=bif z0 then decide ((( J t.X:Int):Int)<=ah.S)else I;iB (t.D !=1) (Q .ret (L2 [pL 4,pB 5 I] [(.bE 4,[ci 0,.nils,.nils])])) (Tk 2 z1 ((z1=Y->bQ ((( J e.aS:Int):Int)-1))/\Tk 2 z1 ((z1=Y->(0:Int)<=(( J e.aS:Int):Int)-1/\(( J e.aS:Int):Int)-1<( J e.aS:Int))/\Tk 5 z1 (iB (bif z1 then decide ((( J t.aS:Int):Int)<=aj.S)else I) ( bQ ((( J e.aS:Int):Int)-1)/\((0:Int)<=(( J e.aS:Int):Int)-1/\(( J e.aS:Int):Int)-1<( J e.aS:Int))/\bQ (aj.S+1)/\Tk 2 z0 ((z0=Y->bQ ((( J e.X:Int):Int)-1))/\Tk 2 z0 ((z0=Y->(0:Int)<=(( J e.X:Int):Int)-1/\(( J e.X:Int):Int)-1<( J e.X:Int))/\Tk 5 z0 (iB z4 (z5/\((0:Int)<=(( J e.X:Int):Int)-1/\(( J e.X:Int):Int)-1<( J e.X:Int))/\bQ (ah.S+1)/\Zi z2 (tv e t (ah.S+1) (aj.S+1) 0 0 []) z3) (Zi z2 (tv e t ( J t.X:Int) (aj.S+1) 0 0 []) z3))))) (Tk 2 z0 ((z0=Y->bQ ((( J e.X:Int):Int)-1))/\Tk 2 z0 ((z0=Y->(0:Int)<=(( J e.X:Int):Int)-1/\(( J e.X:Int):Int)-1<( J e.X:Int))/\Tk 5 z0 (iB z4 (z5/\((0:Int)<=(( J e.X:Int):Int)-1/\(( J e.X:Int):Int)-1<( J e.X:Int))/\bQ (ah.S+1)/\Zi z2 (tv e t (ah.S+1) ( J t.aS:Int) 0 0 []) z3) (Zi z2 (tv e t ( J t.X:Int) ( J t.aS:Int) 0 0 []) z3)))))))))) ?_ λ_ h=>Eq.mpr V4 (h _ rfl _ rfl);rintro y1 ax y2 ay;(simp only[iB,bR,bW]);refine⟨λhk=>no (by unfold jY;rw[if_neg hk]),λhk=>?_⟩;have hk:t.D=1:=by simpa using hk
 rw[show Int.toNat (( J e.aS:Int)-1)=J e.aS-1 by omega]at ax;rw[show Int.toNat (( J e.X:Int)-1)=J e.X-1 by omega]at ay;have wm:0<J e.aS->y1∈e.aS:=λh=>by rw[ax];exact Zh O _
 have km:0<J e.X->y2∈e.X:=λh=>by rw[ay];exact Zh O _
 have wr:0<J e.aS->0<=y1.S/\y1.S<=65534:=λh=>by have:=Yd ri.aS y1 (wm h);omega
 have kr:0<J e.X->0<=y2.S/\y2.S<=65534:=λh=>by have:=Zl ri.X y2 (km h);omega
 have go:∀n m:Int,n=(if 0<J e.aS/\( J t.aS:Int)<=y1.S then y1.S+1 else( J t.aS:Int))->m=(if 0<J e.X/\( J t.X:Int)<=y2.S then y2.S+1 else( J t.X:Int))->Zi (CJ N [1,1,1,1,1,1,1,0,1,0,0]) (tv e t m n 0 0 []) (c9.inBlock 0 (CL N [1,1,1,1,1,1,1,1] (ZB M Tryz.f184.ntmps Tryz.f184.results.toList (uU (e,t,())) []))):=by
  intro n m hn hm;have ln:n<=J t.aS+65536:=by
   rw[hn];split;.rename_i h;have:=wr h.1;omega
   .omega
  have lm:m<=J t.X+65536:=by
   rw[hm];split;.rename_i h;have:=kr h.1;omega
   .omega
  rw[ax]at hn;rw[ay]at hm;have i0:=Mg.qH (z:=0) (f:=λw=>if cS 0 (aR t.aS (G w.S) 0) w.a_=w.bH then A (cS (aR t.aS (G w.S) 0) w.new w.a_)else aT) (aV.mk 0 0 0 0) (YJ ri.aS) hn;have j0:=Mg.qH (z:=H.nil) (f:=jE Y t.X) (aW.mk 0 W.nil) (Jh ri.X) hm;refine Z5 (ι:=Int×Int×List Int) (λs=>tv e t m n s.1 s.2.1 s.2.2) (λs=>Mg 0 (λw=>if cS 0 (aR t.aS (G w.S) 0) w.a_=w.bH then A (cS (aR t.aS (G w.S) 0) w.new w.a_)else aT) aV.S t.aS e.aS n s.1 s.2.1 s.2.2) (λs=>G (n-s.2.1)) (0,0,[]) rfl i0 ?_;rintro⟨a,i,bB⟩hI;dsimp only at hI;have q1:=hI.i0;have q2:=hI.a0;have q3:=hI.len;refine ZC7 _ _ _ _ _ _ _ _ _ _ ?_;rintro z1 bj z2 ao;subst bj;have hw:JJ z1 i=aR z1.aS (G i) 0:=I6 z1 O;have bf:=Zwv rt.2.1 (G i);rw[hw];unfold iU at bf;(simp only[iB,bR,bW]);refine⟨λhi=>⟨by simp only[wv];omega,λh=>⟨O,h⟩,λhg=>⟨⟨O,hg.1⟩,?_⟩,λhg=>⟨by simp only[QN];omega,V3,(a,i+1,bB++[aR z1.aS (G i) 0]),rfl,?_,V2⟩⟩,λhi=>?_⟩
  .have ae:z2∈e.aS:=by rw[ao];exact Zh O _
   obtain⟨g1,g2,g3,g4⟩:=r2.2.2.2.1 z2 ae;unfold iU at g3 g4;have hf:∀v,(if cS 0 (aR z1.aS (G z2.S) 0) z2.a_=z2.bH then A (cS (aR z1.aS (G z2.S) 0) z2.new z2.a_)else aT)=v->(λw:aV=>if cS 0 (aR z1.aS (G w.S) 0) w.a_=w.bH then A (cS (aR z1.aS (G w.S) 0) w.new w.a_)else aT) (aR e.aS (G a) (aV.mk 0 0 0 0))=v:=by intro v hv;rw[<-ao];exact hv
   rw[hg.2]at hf;refine⟨by simp only[iK];omega,λai=>no ?_,λak=>?_⟩;.have:=hI.none (aV.mk 0 0 0 0) hg.1 (hf _ (Q0 ai));unfold jY;rw[Q5 hk,Am,this];try rfl
   .have ak:cS 0 (aR z1.aS (G i) 0) z2.a_=z2.bH:=by simpa using ak
    have:=hI.aY (aV.mk 0 0 0 0) hi hg.1 (by rw[<-ao];exact hg.2) (hf _ (Q5 ak));exact⟨by simp only[iK];omega,V3,by simp only[List.length_singleton];omega,V3,(a+1,i+1,bB++[cS (aR z1.aS (G i) 0) z2.new z2.a_]),rfl,this,V2⟩
  .refine hI.plain (aV.mk 0 0 0 0) hi λh=>?_;rw[<-ao]at h;rcases hg with hg|hg;.exact hg h.1
   .exact hg h.2
  .have aw:=hI.cC hi;rw[<-Am]at aw;refine Z5 (ι:=Int×Int×List H) (λs=>Ee e z1 m bB s.1 s.2.1 s.2.2) (λs=>Mg H.nil (jE Y z1.X) aW.S z1.X e.X m s.1 s.2.1 s.2.2) (λs=>G (m-s.2.1)) (0,0,[]) rfl j0 ?_;rintro⟨b,j,ks⟩hJ;dsimp only at hJ;have w1:=hJ.i0;have w2:=hJ.a0;have w3:=hJ.len;refine ZC6 _ _ _ _ _ _ _ _ _ _ ?_;rintro x1 bm x2 am x4 ba x5 aq x6 a6;subst bm;have a5:jq x1 j=aR x1.X (G j) H.nil:=Va x1 O;rw[a5]at aq;(simp only[iB,bR,bW]);refine⟨λhj=>⟨by simp only[wv];omega,λh=>⟨O,h⟩,λhg=>⟨⟨O,hg.1⟩,?_⟩,λhg=>⟨by simp only[QN];omega,V3,(b,j+1,ks++[x5]),rfl,?_,V2⟩⟩,λhj=>?_⟩
   .have ae:x2∈e.X:=by rw[am];exact Zh O _
    have a4:=Zl ri.X x2 ae;have hm:=JC ae;have bk:=Dw ae;have b0:=Ji e;have hr:=(Y6 r2.2.2.2.2.2.1 ae).2;have be:=BY x1.X (G j);have a7:=M7 rt.2.2 (G j);rw[<-aq]at be a7;rw[<-ba]at hm hr a4 bk;have hf:∀v,bX Y x4 x5=v->jE Y x1.X (aR e.X (G b) (aW.mk 0 W.nil))=v:=by intro v hv;rw[<-am,xe,hg.2,<-aq,<-ba];exact hv
    refine⟨by simp only[gg];exact⟨⟨O,hr,_,a4.2⟩,O,a7⟩,by simp only[mL];omega,λai=>no ?_,λak=>?_⟩
    .have ai:bX Y x4 x5=aT:=by simpa using ai
     have:=hJ.none (aW.mk 0 W.nil) hg.1 (hf _ ai);unfold jY;rw[Q5 hk,aw,Qp,BG,this];try rfl
    .obtain⟨u,hu⟩:=QL.1 ak;have:=hJ.aY (aW.mk 0 W.nil) hj hg.1 (by rw[<-am];exact hg.2) (hf _ hu);rw[hu]at a6;have e6:x6=u:=a6;subst e6;exact⟨V3,by simp only[List.length_singleton];omega,V3,(b+1,j+1,ks++[x6]),rfl,this,V2⟩
   .rw[aq];refine hJ.plain (aW.mk 0 W.nil) hj λh=>?_;rw[<-am]at h;rcases hg with hg|hg;.exact hg h.1
    .exact hg h.2
   .have a9:=hJ.cC hj;rw[<-BG]at a9;have hs:jY Y e x1=A (.mk 1 bB ks):=by unfold jY;rw[Q5 hk,aw,Qp,a9];try rfl
    simp only[uU,hs];exact V0
 have kk:∀n:Int,n=(if 0<J e.aS/\( J t.aS:Int)<=y1.S then y1.S+1 else( J t.aS:Int))->_:=λn hn=>And.intro λ(_:(0:Int)<J e.X)=>show bQ (( J e.X:Int)-1)by unfold bQ;omega (And.intro λ(_:(0:Int)<J e.X)=>show(0:Int)<=( J e.X:Int)-1/\( J e.X:Int)-1<J e.X by omega (And.intro (λ(h:(0:Int)<J e.X/\( J t.X:Int)<=y2.S)=>And.intro (show bQ (( J e.X:Int)-1)by unfold bQ;omega) (And.intro (show(0:Int)<=( J e.X:Int)-1/\( J e.X:Int)-1<J e.X by omega) (And.intro (show bQ (y2.S+1)by have:=kr O;unfold bQ;omega) (go n (y2.S+1) hn (by rw[if_pos ⟨O,h.2⟩]))))) λ(h:¬(0:Int)<J e.X\/¬( J t.X:Int)<=y2.S)=>go n (J t.X) hn (by rw[Q0 O])));refine⟨λ_=>by unfold bQ;omega,λ_=>by omega,λhw=>⟨V3,O,by have:=wr O;unfold bQ;omega,kk _ (by rw[if_pos ⟨O,hw.2⟩])⟩,λhw=>kk _ (by rw[V5])⟩
theorem ZlK{V}{o:Op}{d}(h:Zg V o d=Y):o.D=0/\(1<=o.n/\o.n<=1048576)/\o.l=[]\/o.D=1/\o.n=0\/o.D=2/\o.n=0\/o.D=3/\o.n=0/\o.l=[]/\Z3 o.e d=Y:=by have r:=ZQ h;cases r with|bN n h1 h2=>grind|gone=>grind|eD=>grind|dL e h1=>grind
theorem Zmh{α:Type}{l n}(h:n<J l)(d:α):l.take (n+1)=l.take n++[aR l n d]:=by simp_all
theorem Zle{α:Type}(l)(m n)(d:α):(l.drop m).getD n d=aR l (m+n) d:=by grind
theorem Rt:ZOQ:=by
 intro N e t _ hp hN;simp only[o7,jB]at hp hN;obtain⟨k3,⟨p1,p2,d,p3⟩,p4,p5⟩:=hp;have h1:=Yr e;have h2:=Y4 e.ops;have h3:=Zvs t;have h4:=Zs t.X;have r2:=uo p2;have rt:=NB p5;have ri:=Zc p3;refine wV (λQ=>iB (t.D !=e.V) (Q .ret (L2 [pL 4,pB 5 I] [(.bE 4,[ci 0,.nils,.nils])])) (Zi (Bq N [1,1,1,1,0,1,0,0]) (wZ e t 0 0 []) (xB 0 (nG N [1,1,1,1,1] Q)))) ?_ λ_ h=>Eq.mpr V4 h;(simp only[iB,bR,bW]);have no:ix Y e t=aT->ZB M Tryz.f185.ntmps Tryz.f185.results.toList (yg (e,t,())) [] .ret (⟨[(4,.ptr (.bE 4) 0),(5,.c (.bool I))],[( .bE 4,[.int .i64 0,.nils,.nils])],[]⟩:bT U):=by intro hs;simp only[yg,hs];exact V0
 refine⟨λhk=>no (by unfold ix;rw[if_neg hk]),λhk=>?_⟩;have hk:t.D=e.V:=by simpa using hk
 have bc:ix Y e t=ZV Y e.ops t.X []:=by unfold ix;rw[if_pos hk]
 refine Z5 (ι:=Int×Int×List H) (λs=>wZ e t s.1 s.2.1 s.2.2) (λs=>(0<=s.1/\s.1<=J t.X)/\(0<=s.2.1/\s.2.1<=J e.ops)/\ZV Y (e.ops.drop (G s.2.1)) (t.X.drop (G s.1)) s.2.2=ix Y e t/\( J s.2.2:Int)+( J t.X-s.1)+Zq (e.ops.drop (G s.2.1))<=J t.X+Zq e.ops) (λs=>G (( J e.ops:Int)-s.2.1)) (0,0,[]) rfl ⟨by simp,by simp,by simp[bc],by simp⟩ ?_;rintro⟨S,i,bB⟩⟨⟨a1,a2⟩,⟨f1,f2⟩,f3,f4⟩;dsimp only at a1 a2 f1 f2 f3 f4;refine ZC5 _ _ _ _ _ _ _ _ ?_;(simp only[iB,bR,bW]);refine⟨λhi=>⟨⟨f1,hi⟩,?_⟩,λhi=>?_⟩
 .have ai:=Zh (l:=e.ops) (i:=G i) O Op.nil;rw[ZO f1 hi Op.nil]at f3 f4;have cC:∀(a:Int)(m:List H),0<=a/\a<=J t.X->ZV Y (e.ops.drop (G (i+1))) (t.X.drop (G a)) m=ix Y e t->( J m:Int)+( J t.X-a)+Zq (e.ops.drop (G (i+1)))<=J t.X+Zq e.ops->∀s2,s2=wZ e t a (i+1) m->∃j:Int×Int×List H,s2=wZ e t j.1 j.2.1 j.2.2/\((0<=j.1/\j.1<=J t.X)/\(0<=j.2.1/\j.2.1<=J e.ops)/\ZV Y (e.ops.drop (G j.2.1)) (t.X.drop (G j.1)) j.2.2=ix Y e t/\( J j.2.2:Int)+( J t.X-j.1)+Zq (e.ops.drop (G j.2.1))<=J t.X+Zq e.ops)/\G (( J e.ops:Int)-j.2.1)<G (( J e.ops:Int)-i):=by rintro a m b1 b2 b3 _ rfl;exact⟨(a,i+1,m),rfl,⟨b1,⟨V2,V2⟩,b2,b3⟩,V2⟩
  generalize hy:aR e.ops (G i) Op.nil=y1 at*;have hr:=Go.AM.bM ri.ops y1 ai;have hm:=Y9 ai;have bl:=F4 ai;have b0:=Ji e;have bj:=ZZ y1;have a3:=Jr (qe r2.2.2.2.2.2.2 ai);have ca:=Zs y1.l;simp only[Zq]at f4;rw[Znl,Js]at f3;have bd:J (t.X.drop (G S))=J t.X-G S:=QI ..;rcases ZlK hr with⟨k0,hn,hl⟩|⟨k1,hn⟩|⟨k2,hn⟩|⟨k3',hn,hl,hre⟩;·-- X are kept
   rw[Q5 k0]at f3;refine Z5 (ι:=Int×Int×List H) (λs=>xY e t i s.1 s.2.1 s.2.2) (λs=>(0<=s.2.1/\s.2.1<=y1.n)/\s.1=S+s.2.1/\s.1<=J t.X/\s.2.2=bB++(t.X.drop (G S)).take (G s.2.1)) (λs=>G (y1.n-s.2.1)) (S,0,bB) rfl ⟨by simp;omega,by simp,by simp;omega,by simp⟩ ?_;rintro⟨a,q,m⟩⟨⟨c1,c2⟩,c3,c4,c5⟩;dsimp only at c1 c2 c3 c4 c5;refine Hy _ _ _ _ _ _ _ _ _ _ ?_;rintro z1 ae z2 ar;rw[hy]at ae;subst ae;(simp only[iB,bR,bW]);have a6:( J m:Int)<=J bB+q:=by rw[c5];simp only[Qi,QB];omega
   refine⟨λhg=>⟨λhx=>no ?_,λhx=>⟨O,by simp only[QN];omega,V3,V3,(a+1,q+1,m++[z2]),rfl,⟨V2,V2,V2,?_⟩,V2⟩⟩,λhg=>?_⟩;.rw[Q0 O]at f3;exact f3.symm
   .dsimp only;rw[show G (q+1)=G q+1 by omega,Zmh O H.nil,Zle,show G S+G q=G a by omega,<-ar,c5,Qg]
   .have hq:q=z1.n:=O;subst hq;rw[Q5 O,Qp,Xt,show G S+G z1.n=G a by omega,<-c5]at f3;dsimp only at f3;refine Z5 (ι:=Unit) (λ_=>wD e t i 0 a m) (λ_=>True) (λ_=>0) () rfl trivial ?_;intro _ _;refine GD _ _ _ _ _ _ _ _ _ _ ?_;rintro w1 ab w2 af w3 am w4 ak w5 ah w6 aq w7 al;rw[hy]at ab;subst ab;rw[hl];(simp only[iB,bR,bW]);exact⟨λh=>absurd h (by simp),λ_=>⟨λh=>absurd h O,λ_=>⟨V3,cC _ _ O f3 O _ rfl⟩⟩⟩
  ·-- X are gone
   rw[Q0 O,Q5 k1]at f3;refine Z5 (ι:=Unit) (λ_=>xY e t i S 0 bB) (λ_=>True) (λ_=>0) () rfl trivial ?_;intro _ _;refine Hy _ _ _ _ _ _ _ _ _ _ ?_;rintro z1 ae z2 ar;rw[hy]at ae;subst ae;(simp only[iB,bR,bW]);refine⟨λhg=>absurd hg.1 O,λ_=>?_⟩;refine Z5 (ι:=Int×Int) (λs=>wD e t i s.1 s.2 bB) (λs=>(0<=s.1/\s.1<=J z1.l)/\s.2=S+s.1/\s.2<=J t.X/\∀j:Nat,(j:Int)<s.1->Z2 (aR t.X ( G S+j) H.nil)=Z2 (aR z1.l j H.nil)) (λs=>G (( J z1.l:Int)-s.1)) (0,S) rfl ⟨by simp,by simp,by simp;omega,λj hj=>by simp at hj;omega⟩ ?_;rintro⟨q,a⟩⟨⟨c1,c2⟩,c3,c4,c5⟩;dsimp only at c1 c2 c3 c4 c5;refine GD _ _ _ _ _ _ _ _ _ _ ?_;rintro w1 ab w2 af w3 am w4 ak w5 ah w6 aq w7 al;rw[hy]at ab;subst ab am aq;(simp only[iB,bR,bW]);have bk:iI w1.l (t.X.drop (G S))=I->ix Y e t=aT:=by intro h;rw[h,Q0 (by simp)]at f3;exact f3.symm
   have m2:=BY t.X (G a);have m5:=BY w1.l (G q);rw[<-af]at m2;rw[<-ah]at m5;refine⟨λhq=>⟨λh=>absurd h O,λ_=>⟨λ_=>by omega,λ_=>by omega,λ_=>by simp only[kM];omega,λh=>no (bk ?_),λh=>⟨V3,V3,(q+1,a+1),rfl,⟨V2,V2,V2,λj hj=>?_⟩,V2⟩⟩⟩,λhq=>⟨λh=>absurd h O,λ_=>⟨V3,?_⟩⟩⟩
   .unfold iI;by_cases hx:J w1.l<=J (t.X.drop (G S))
    .rw[QD hx,X6];refine rW λhh=>?_;have h3:ZW (Z2 w3) (Z2 w6)=I:=by
      rcases h with h|h;.omega
      .exact h
     rw[JL]at h3;apply h3;have:=Wc (d:=H.nil) hh (G q);rw[af,ah,this,Qr,Qr,Xv,Q5 O,QY,show G S+G q=G a by omega]
    .rw[Xe hx];try rfl
   .by_cases hj2:(j:Int)<q;.exact c5 j hj2
    .have e1:G S+j=G a:=by dsimp only at hj;omega
     have e2:j=G q:=by dsimp only at hj;omega
     rw[e1,e2,<-af,<-ah];exact Yh.1 h.2
   .have hq:q=J w1.l:=O;subst hq;have j_:iI w1.l (t.X.drop (G S))=Y:=by unfold iI;rw[QD O,X6,Yz];refine Zhx H.nil (by rw[QB];omega) λj hj=>?_;rw[<-c5 j O,Qr,Qr,Xv,Q5 hj,QY]
    rw[j_,Q5 rfl,Qp,Xt,show G S+J w1.l=G a by omega]at f3;dsimp only at f3;exact cC _ _ O f3 O _ rfl
  ·-- X eD
   rw[Q0 O,Q0 O,Q5 k2,Qp]at f3;refine Z5 (ι:=Unit) (λ_=>xY e t i S 0 bB) (λ_=>True) (λ_=>0) () rfl trivial ?_;intro _ _;refine Hy _ _ _ _ _ _ _ _ _ _ ?_;rintro z1 ae z2 ar;rw[hy]at ae;subst ae;(simp only[iB,bR,bW]);refine⟨λhg=>absurd hg.1 O,λ_=>?_⟩;refine Z5 (ι:=Int×List H) (λs=>wD e t i s.1 S s.2) (λs=>(0<=s.1/\s.1<=J z1.l)/\s.2=bB++z1.l.take (G s.1)) (λs=>G (( J z1.l:Int)-s.1)) (0,bB) rfl ⟨by simp,by simp⟩ ?_;rintro⟨q,m⟩⟨⟨c1,c2⟩,c5⟩;dsimp only at c1 c2 c5;refine GD _ _ _ _ _ _ _ _ _ _ ?_;rintro w1 ab w2 af w3 am w4 ak w5 ah w6 aq w7 al;rw[hy]at ab;subst ab aq;(simp only[iB,bR,bW]);have a6:( J m:Int)<=J bB+q:=by rw[c5];simp only[Qi,QB];omega
   refine⟨λhq=>⟨λ_=>⟨O,by simp only[QN];omega,V3,(q+1,m++[w6]),rfl,⟨V2,?_⟩,V2⟩,λh=>absurd k2 h⟩,λhq=>⟨λh=>absurd h O,λ_=>⟨V3,?_⟩⟩⟩;.dsimp only;rw[show G (q+1)=G q+1 by omega,Zmh O H.nil,<-ah,c5,Qg]
   .rw[show G q=J w1.l by omega,Kx]at c5;rw[<-c5]at f3;dsimp only at f3;exact cC _ _ O f3 O _ rfl
  ·-- what is within a cJ
   rw[Q0 O,Q0 O,Q0 O]at f3;refine Z5 (ι:=Unit) (λ_=>xY e t i S 0 bB) (λ_=>True) (λ_=>0) () rfl trivial ?_;intro _ _;refine Hy _ _ _ _ _ _ _ _ _ _ ?_;rintro z1 ae z2 ar;rw[hy]at ae;subst ae;(simp only[iB,bR,bW]);refine⟨λhg=>absurd hg.1 O,λ_=>?_⟩;refine Z5 (ι:=Unit) (λ_=>wD e t i 0 S bB) (λ_=>True) (λ_=>0) () rfl trivial ?_;intro _ _;refine GD _ _ _ _ _ _ _ _ _ _ ?_;rintro w1 ab w2 af w3 am w4 ak w5 ah w6 aq w7 al;rw[hy]at ab;subst ab am;rw[hl];(simp only[iB,bR,bW]);have hz:w3=(t.X.drop (G S)).getD 0 H.nil:=by rw[Zle,Kg];exact af
   have m2:=BY t.X (G S);have g2:=M7 rt.2.2 (G S);rw[<-af]at m2 g2;rw[<-ak]at hre bj a3 bl;refine⟨λh=>absurd h (by simp),λ_=>⟨λ_=>⟨λhx=>no ?_,λhx=>⟨O,by simp only[gg];exact⟨⟨O,a3.2.2.2,_,hre⟩,O,g2⟩,by simp only[mL];omega,λau=>no ?_,λbo=>?_⟩⟩,λh=>absurd k3' h⟩⟩;.rw[Q5 O]at f3;exact f3.symm
   .rw[Q0 O,<-hz,<-ak]at f3;have au:bX Y w4 w3=aT:=by simpa using au
    rw[au]at f3;exact f3.symm
   .obtain⟨u,hu⟩:=QL.1 bo;rw[hu]at al;have e7:w7=u:=al;subst e7;rw[Q0 O,<-hz,<-ak,hu,Qv,Qp,Xt,show G S+1=G (S+1)by omega]at f3;dsimp only at f3;exact⟨by simp only[QN];omega,V3,V3,cC _ _ O f3 (by simp only[List.length_append,List.length_singleton];omega) _ rfl⟩
 .rw[Qb O,ZV]at f3;simp only[yg,<-f3,ud,gX,Qp,hk];by_cases hr:S=J t.X;.rw[Q5 (by rw[QI];omega),hr];simp only[Kw];exact V0
  .rw[Q0 (by rw[QI];omega),show(S==( J t.X:Int))=I by rw[KE];omega];exact V0
theorem ZVz:aU Tryz.prog M 135 ui/\aU Tryz.prog M 184 Zxm/\aU Tryz.prog M 185 Zxl:=ZFR tC qz Sh vC OO SH ZSb Rt
theorem vh:aU Tryz.prog M 135 ui:=ZVz.1
noncomputable section
def ZLR:cO D9:=.dU 0 (.cons (Ir .op 0 0) (.cons (iJ .aX 0 1) (.cons (iJ .aX 0 2) .nil))) .nil
def xc(a:D9):Prop:=J a.1.1<=200000000000/\J a.1.2.1<=200000000000/\J a.1.2.2.1<=200000000000
def D2(a:D9):aA U:=.tup []
def Cf(a:D9):List (List (C U)):=[[.mref (.x 0 0),sU .aX (Zj (dA.mk a.1.1 a.1.2.1 a.1.2.2.1)).gone (.bF (.x 0 1)),sU .aX (Zj (dA.mk a.1.1 a.1.2.1 a.1.2.2.1)).bO (.bF (.x 0 2))]]
def CQ(a:D9):List (bL×LC U):=[(.x 0 0,LC.mk (U:=U) .op (Zj (dA.mk a.1.1 a.1.2.1 a.1.2.2.1)).bB 0)]
def F6:Fs U:=pb ZLR (λa=>[xc a]) D2 Cf CQ
def ZLT:cO EX:=.dU 0 (.cons (Ir .op 0 0) (.cons (iJ .aX 0 1) (.cons (iJ .aX 0 2) .nil))) (.cons (J1 .i64) .nil)
def Az(a:EX):Prop:=J a.1.1<=200000000000/\J a.1.2.1<=200000000000/\J a.1.2.2.1<=200000000000/\(∀o∈a.1.1,0<=o.n/\o.n<=100000000000000000)/\0<=a.2.1/\a.2.1<=1048576
def ZEH(a:EX):aA U:=.tup []
def ZxY(a:EX):List (List (C U)):=[[.mref (.x 0 0),sU .aX (Yt (dA.mk a.1.1 a.1.2.1 a.1.2.2.1) a.2.1).gone (.bF (.x 0 1)),sU .aX (Yt (dA.mk a.1.1 a.1.2.1 a.1.2.2.1) a.2.1).bO (.bF (.x 0 2))]]
def Zy0(a:EX):List (bL×LC U):=[(.x 0 0,LC.mk (U:=U) .op (Yt (dA.mk a.1.1 a.1.2.1 a.1.2.2.1) a.2.1).bB 0)]
def Fz:Fs U:=pb ZLT (λa=>[Az a]) ZEH ZxY Zy0
def ZLS:cO wE:=.rB 0 1 (.cons (Ir .op 0 0) (.cons (iJ .aX 0 1) (.cons (iJ .aX 0 2) .nil))) (.cons (fY .aX) .nil)
def vt(a:wE):Prop:=J a.1.1<=200000000000/\J a.1.2.1<=200000000000/\J a.1.2.2.1<=200000000000/\Ze a.2.1<=20000000000
def ZPX(a:wE):aA U:=.tup []
def ZIG(a:wE):List (List (C U)):=[[.mref (.x 0 0),sU .aX (dA.mk a.1.1 (a.1.2.1++Z6 a.2.1) a.1.2.2.1).gone (.bF (.x 0 1)),sU .aX (dA.mk a.1.1 (a.1.2.1++Z6 a.2.1) a.1.2.2.1).bO (.bF (.x 0 2))]]
def ZIH(a:wE):List (bL×LC U):=[(.x 0 0,LC.mk (U:=U) .op (dA.mk a.1.1 (a.1.2.1++Z6 a.2.1) a.1.2.2.1).bB 0)]
def Zxx:Fs U:=pb ZLS (λa=>[vt a]) ZPX ZIG ZIH
def ZHB:cO wE:=.rB 0 2 (.cons (Ir .op 0 0) (.cons (iJ .aX 0 1) (.cons (iJ .aX 0 2) .nil))) (.cons (fY .aX) .nil)
def ZEl(a:wE):List (List (C U)):=[[.mref (.x 0 0),sU .aX (dA.mk a.1.1 a.1.2.1 (a.1.2.2.1++Z6 a.2.1)).gone (.bF (.x 0 1)),sU .aX (dA.mk a.1.1 a.1.2.1 (a.1.2.2.1++Z6 a.2.1)).bO (.bF (.x 0 2))]]
def ZEm(a:wE):List (bL×LC U):=[(.x 0 0,LC.mk (U:=U) .op (dA.mk a.1.1 a.1.2.1 (a.1.2.2.1++Z6 a.2.1)).bB 0)]
def ZrA:Fs U:=pb ZHB (λa=>[vt a]) ZPX ZEl ZEm
def MQ(a:DG):Prop:=J a.2.1.aS<=20000000000/\J a.2.1.X<=20000000000
def ZIK(a:DG):aA U:=.c (.bool (tH a.1 a.2.1))
def FA:Fs U:=fs WL (λa=>[MQ a]) ZIK
def FN:Fs U:=fs WL (λa=>[Ew a]) ZIK
def ZUO:Zb U:=cI [[0,7,(900,[.wr .op])],[7],[28],[28],[0]]
def ZK6:List (FuncId×Fs U):=[(150,F6)]
def ZUP:Zb U:=cI [[0,1,(900,[.wr .op])],[4],[25],[0,1,4,25],[]]
def zN:List (FuncId×Fs U):=[(75,mJ)]
def BK:Zb U:=cI [[0,6,7,8,(900,[.wr .op])],[9],[5,9,505],[5,505],[]]
def Ge(s:List Op)(wg wb l:List H)(x8:Int)(h:List H):bT U:=(⟨[(0,.ptr (.x 0) 1),(6,.c (sU .aX l .bA)),pI 7 ( J l:Int),pI 8 x8],[(.x 0,[.mref (.x 0 0),sU .aX h (.bF (.x 0 1)),sU .aX wb (.bF (.x 0 2))])],[(.x 0 0,LC.mk (U:=U) .op s 0)]⟩)
abbrev ZMx(s)(wg wb l)(x8)(h)(N0:NT)(Q:QT):=AW (Za zN) Tryz.f148 BK [1,0,0] (Ge s wg wb l x8 h) (xT N0 (xB 0 Q))
theorem ZCC(wo)(wg wb l)(x8)(s)(N0)(Q)(h:let z2:=decide (x8<( J l:Int));let z1:=aR l (G x8) H.nil;let z0:=H.mk (H.D z1) (H.aS z1) (H.X z1);iB z2 ((0<=x8/\x8<(J l))/\gQ (z0,())/\( J s+J [H.mk 0 [] []])*56<=140737488355328/\(0<=( J s:Int)/\(J s)<( J (s++[H.mk 0 [] []]):Int))/\J s<=Int.toNat (J s)/\bQ (x8+1)/\N0 (Ge wo wg wb l (x8+1) (List.set (s++[H.mk 0 [] []]) (Int.toNat (J s)) (H.mk (H.D (Z2 z0)) (H.aS (Z2 z0)) (H.X (Z2 z0)))))) (Q .normal (⟨[(0,.ptr (.x 0) 1),(6,.c (sU .aX l .bA)),pI 7 ( J l:Int),pI 8 x8,pB 9 z2],[(.x 0,[.mref (.x 0 0),sU .aX s (.bF (.x 0 1)),sU .aX wb (.bF (.x 0 2))])],[(.x 0 0,LC.mk (U:=U) .op wo 0)]⟩))):ZMx wo wg wb l x8 s N0 Q:=Eq.mpr V4 h
def H5(s:List Op)(wg wb l:List H)(x8:Int)(h:List H):bT U:=(⟨[(0,.ptr (.x 0) 2),(6,.c (sU .aX l .bA)),pI 7 ( J l:Int),pI 8 x8],[(.x 0,[.mref (.x 0 0),sU .aX wg (.bF (.x 0 1)),sU .aX h (.bF (.x 0 2))])],[(.x 0 0,LC.mk (U:=U) .op s 0)]⟩)
abbrev ZHK(s)(wg wb l)(x8)(h)(N0:NT)(Q:QT):=AW (Za zN) Tryz.f148 BK [1,0,0] (H5 s wg wb l x8 h) (xT N0 (xB 0 Q))
theorem ZzK(wo)(wg wb l)(x8)(s)(N0)(Q)(h:let z2:=decide (x8<( J l:Int));let z1:=aR l (G x8) H.nil;let z0:=H.mk (H.D z1) (H.aS z1) (H.X z1);iB z2 ((0<=x8/\x8<(J l))/\gQ (z0,())/\( J s+J [H.mk 0 [] []])*56<=140737488355328/\(0<=( J s:Int)/\(J s)<( J (s++[H.mk 0 [] []]):Int))/\J s<=Int.toNat (J s)/\bQ (x8+1)/\N0 (H5 wo wg wb l (x8+1) (List.set (s++[H.mk 0 [] []]) (Int.toNat (J s)) (H.mk (H.D (Z2 z0)) (H.aS (Z2 z0)) (H.X (Z2 z0)))))) (Q .normal (⟨[(0,.ptr (.x 0) 2),(6,.c (sU .aX l .bA)),pI 7 ( J l:Int),pI 8 x8,pB 9 z2],[(.x 0,[.mref (.x 0 0),sU .aX wg (.bF (.x 0 1)),sU .aX s (.bF (.x 0 2))])],[(.x 0 0,LC.mk (U:=U) .op wo 0)]⟩))):ZHK wo wg wb l x8 s N0 Q:=Eq.mpr V4 h
end
theorem vF{α:Type}(l)(z x:α):(l++[z]).set (Int.toNat (J l)) x=l++[x]:=by simp_all
theorem ET:∀F(n:Int),iE F n=if J F≠0/\(F.getD ( J F-1) Op.nil).D=0 then F.set ( J F-1) ⟨(F.getD ( J F-1) Op.nil).D,(F.getD ( J F-1) Op.nil).n+n,(F.getD ( J F-1) Op.nil).l,(F.getD ( J F-1) Op.nil).e⟩else F++[⟨0,n,[],W.nil⟩]
 |[],n=>by simp[iE]|[o],n=>by simp[iE]|o::p::r,n=>by
  have h:=ET (p::r) n;have e:J (o::p::r)-1=J (p::r)-1+1:=by simp
  rw[iE,h,e];grind
theorem Lv(s):(Zj s).bB.length<=J s.bB+2:=by simp only[Zj,kU];grind
theorem MB(s):∀o∈(Zj s).bB,o∈s.bB\/o.n=0:=by intro o h;simp only[Zj,kU,Qo]at h;grind
theorem Hf:aU Tryz.prog M 150 F6:=by
 refine J0 (l:=cQ) ZN rfl trivial ZUO Tryz.func150 rfl rfl 1 (λ_=>rfl) V1 λ⟨⟨wo,wg,wb,_⟩,_⟩hp=>?_;simp only[xc]at hp;refine wV (λQ=>∀s,s=W.mk 0 (H.mk 0 [] []) (H.mk 0 [] []) [] [] 0 []->∀ab,ab=List.set (wo++[(bI.mk 0 0 [] s:Op)]) (Int.toNat ( J wo:Int)) (bI.mk 1 0 wg s:Op)->let z0:=decide ((0:Int)<( J wb:Int));iB (decide ((0:Int)<( J wg:Int))) ( ( J wo+J [(bI.mk 0 0 [] s:Op)])*240<=140737488355328/\((0:Int)<=( J wo:Int)/\( J wo:Int)<( J (wo++[(bI.mk 0 0 [] s:Op)]):Int))/\(0:Nat)<=Int.toNat ( J wo:Int)/\iB z0 ( ( J ab+J [(bI.mk 0 0 [] s:Op)])*240<=140737488355328/\((0:Int)<=( J ab:Int)/\( J ab:Int)<( J (ab++[(bI.mk 0 0 [] s:Op)]):Int))/\(0:Nat)<=Int.toNat ( J ab:Int)/\Q .normal (⟨[],[(.x 0,[.mref (.x 0 0),.nils,.nils])],[(.x 0 0,LC.mk (U:=U) .op (List.set (ab++[(bI.mk 0 0 [] s:Op)]) (Int.toNat ( J ab:Int)) (bI.mk 2 0 wb s:Op)) 0)]⟩:bT U)) (Q .normal (⟨[],[(.x 0,[.mref (.x 0 0),.nils,.nils])],[(.x 0 0,LC.mk (U:=U) .op ab 0)]⟩:bT U))) (iB z0 ( ( J wo+J [(bI.mk 0 0 [] s:Op)])*240<=140737488355328/\((0:Int)<=( J wo:Int)/\( J wo:Int)<( J (wo++[(bI.mk 0 0 [] s:Op)]):Int))/\(0:Nat)<=Int.toNat ( J wo:Int)/\Q .normal (⟨[],[(.x 0,[.mref (.x 0 0),.nils,.nils])],[(.x 0 0,LC.mk (U:=U) .op (List.set (wo++[(bI.mk 0 0 [] s:Op)]) (Int.toNat ( J wo:Int)) (bI.mk 2 0 wb s:Op)) 0)]⟩:bT U)) (Q .normal (⟨[],[(.x 0,[.mref (.x 0 0),.nils,.nils])],[(.x 0 0,LC.mk (U:=U) .op wo 0)]⟩:bT U)))) ?_ λ_ h=>Eq.mpr V4 (h _ rfl _ rfl);rintro y1 ai y2 ah;have hy:y1=W.nil:=ai;subst hy;rw[vF]at ah;subst ah;(simp only[iB,bW]);refine⟨λh1=>⟨by simp;omega,by simp;omega,O,λh2=>⟨by simp;omega,by simp;omega,O,?_⟩,λh2=>?_⟩,λh1=>⟨λh2=>⟨by simp;omega,by simp;omega,O,?_⟩,λh2=>?_⟩⟩
 .rw[vF];have e:Zj ⟨wo,wg,wb⟩=⟨wo++[⟨1,0,wg,W.nil⟩]++[⟨2,0,wb,W.nil⟩],[],[]⟩:=by simp only[Zj,kU];rw[Q0 O,Q0 O];simp
  simp only[D2,Cf,CQ,e];exact V0
 .have e:Zj ⟨wo,wg,wb⟩=⟨wo++[⟨1,0,wg,W.nil⟩],[],[]⟩:=by simp only[Zj,kU];rw[Q0 O,Q5 O];simp
  simp only[D2,Cf,CQ,e];exact V0
 .rw[vF];have e:Zj ⟨wo,wg,wb⟩=⟨wo++[⟨2,0,wb,W.nil⟩],[],[]⟩:=by simp only[Zj,kU];rw[Q5 O,Q0 O];simp
  simp only[D2,Cf,CQ,e];exact V0
 .have e:Zj ⟨wo,wg,wb⟩=⟨wo,[],[]⟩:=by simp only[Zj,kU];rw[Q5 O,Q5 O];simp
  simp only[D2,Cf,CQ,e];exact V0
theorem ZRK:aU Tryz.prog M 147 Fz:=by
 refine J0 (l:=ZK6) ZN rfl ⟨Hf,trivial⟩ ZUP Tryz.func147 rfl rfl 2 (λ_=>rfl) V1 λ⟨⟨wo,wg,wb,_⟩,n,_⟩hp=>?_;simp only[Az]at hp;obtain⟨p1,p2,p3,p4,p5,p6⟩:=hp;have aq:=Lv ⟨wo,wg,wb⟩;have ai:=MB ⟨wo,wg,wb⟩;have hg:(Zj ⟨wo,wg,wb⟩).gone=[]:=rfl;have hb:(Zj ⟨wo,wg,wb⟩).bO=[]:=rfl;have hk:=ET (Zj ⟨wo,wg,wb⟩).bB n;have ar:Yt ⟨wo,wg,wb⟩ n=⟨iE (Zj ⟨wo,wg,wb⟩).bB n,[],[]⟩:=rfl;refine wV (λQ=>∀af,af=W.mk 0 (H.mk 0 [] []) (H.mk 0 [] []) [] [] 0 []->∀ah,ah=Int.toNat ((( J (Zj (dA.mk wo wg wb)).bB:Int):Int)-1)->∀s,s=List.getD (Zj (dA.mk wo wg wb)).bB ah Op.nil->∀al,al=s.e->let z0:=Zj (dA.mk wo wg wb);let z1:=decide ((0:Int)<=(( J z0.bB:Int):Int)-1);xc ((wo,wg,wb,()),())/\bQ ((( J z0.bB:Int):Int)-1)/\Tk 5 z1 ((z1=Y->(0:Int)<=(( J z0.bB:Int):Int)-1/\(( J z0.bB:Int):Int)-1<( J z0.bB:Int))/\Tk 4 z1 (iB (bif z1 then s.D==0 else I) (((0:Int)<=(( J z0.bB:Int):Int)-1/\(( J z0.bB:Int):Int)-1<( J z0.bB:Int))/\bQ (s.n+n)/\((0:Int)<=(( J z0.bB:Int):Int)-1/\(( J z0.bB:Int):Int)-1<( J z0.bB:Int))/\(0:Nat)<=ah/\Q .ret (⟨[],[(.x 0,[.mref (.x 0 0),sU .aX z0.gone (.bF (.x 0 1)),sU .aX z0.bO (.bF (.x 0 2))])],[(.x 0 0,LC.mk (U:=U) .op (List.set z0.bB ah (bI.mk s.D (s.n+n) s.l al:Op)) 0)]⟩:bT U)) ( ( J z0.bB+J [(bI.mk 0 0 [] af:Op)])*240<=140737488355328/\((0:Int)<=( J z0.bB:Int)/\( J z0.bB:Int)<( J ( z0.bB++[(bI.mk 0 0 [] af:Op)]):Int))/\(0:Nat)<=Int.toNat ( J z0.bB:Int)/\Q .normal (⟨[],[(.x 0,[.mref (.x 0 0),sU .aX z0.gone (.bF (.x 0 1)),sU .aX z0.bO (.bF (.x 0 2))])],[(.x 0 0,LC.mk (U:=U) .op (List.set ( z0.bB++[(bI.mk 0 0 [] af:Op)]) (Int.toNat ( J z0.bB:Int)) (bI.mk 0 n [] af:Op)) 0)]⟩:bT U))))) ?_ λ_ h=>Eq.mpr V4 (h _ rfl _ rfl _ rfl _ (Z0 _));simp only[hg,hb,ZEH,ZxY,Zy0,ar];generalize(Zj ⟨wo,wg,wb⟩).bB=F at*;simp only at aq ai;rintro y1 ao y2 a2 y3 am y4 au;have hy:y1=W.nil:=ao;subst hy;have e2:y2=J F-1:=O;subst e2;rw[<-am,<-au]at hk;simp only[iB,bR,bW,nf,Xw];refine⟨by simp only[xc];exact⟨p1,p2,p3⟩,V3,λh=>⟨h,O⟩,λh=>?_,λh=>?_⟩
 .have aw:0<=y3.n/\y3.n<=100000000000000000:=by
   have hm:y3∈F:=by rw[am];exact Zh O _
   rcases ai y3 hm with h1|h1;.exact p4 y3 h1
   .omega
  rw[Q5 ⟨O,h.2⟩]at hk;rw[hk];refine⟨O,V3,O,O,?_⟩;exact V0
 .rw[Q0 O]at hk;rw[hk,vF];refine⟨by simp;omega,by simp;omega,O,?_⟩;exact V0
theorem ZXC:aU Tryz.prog M 148 Zxx:=by
 refine J0 (l:=zN) ZN rfl ⟨Ap,trivial⟩ BK Tryz.func148 rfl rfl 2 (λ_=>rfl) V1 λ⟨⟨wo,wg,wb,_⟩,l,_⟩hp=>?_;simp only[vt]at hp;obtain⟨p1,p2,p3,p4⟩:=hp;have hl:=Zs l;refine wV (λQ=>Zi (AW (Za zN) Tryz.f148 BK [1,0,0]) (Ge wo wg wb l 0 wg) (xB 0 Q)) ?_ λ_ h=>Eq.mpr V4 h;refine Z5 (ι:=Int×List H) (λs=>Ge wo wg wb l s.1 s.2) (λs=>0<=s.1/\s.1<=J l/\J s.2=J wg+s.1/\s.2++Z6 (l.drop (G s.1))=wg++Z6 l) (λs=>G (( J l:Int)-s.1)) (0,wg) rfl ⟨by simp,by simp,by simp,by simp⟩ ?_;rintro⟨i,bB⟩⟨h1,h2,h3,h4⟩;dsimp only at h1 h2 h3 h4;refine ZCC _ _ _ _ _ _ _ _ ?_;(simp only[iB,bW]);(simp only[vE]);refine⟨λhi=>?_,λhi=>?_⟩;.have hm:=YM (Zh (l:=l) (i:=G i) O H.nil);rw[ZO h1 hi H.nil]at h4;simp only[Z6,Qu]at h4;rw[vF];refine⟨⟨h1,hi⟩,by simp only[gQ];omega,by simp;omega,by simp;omega,O,V3,(i+1,bB++[Z2 (aR l (G i) H.nil)]),rfl,⟨V2,V2,by simp;omega,?_⟩,V2⟩;simp only[Qg,Qw,Qn];exact h4
 .rw[Qb O]at h4;simp only[Z6,QG,Qj]at h4;rw[h4];exact V0
theorem ZVC:aU Tryz.prog M 148 ZrA:=by
 refine J0 (l:=zN) ZN rfl ⟨Ap,trivial⟩ BK Tryz.func148 rfl rfl 2 (λ_=>rfl) V1 λ⟨⟨wo,wg,wb,_⟩,l,_⟩hp=>?_;simp only[vt]at hp;obtain⟨p1,p2,p3,p4⟩:=hp;have hl:=Zs l;refine wV (λQ=>Zi (AW (Za zN) Tryz.f148 BK [1,0,0]) (H5 wo wg wb l 0 wb) (xB 0 Q)) ?_ λ_ h=>Eq.mpr V4 h;refine Z5 (ι:=Int×List H) (λs=>H5 wo wg wb l s.1 s.2) (λs=>0<=s.1/\s.1<=J l/\J s.2=J wb+s.1/\s.2++Z6 (l.drop (G s.1))=wb++Z6 l) (λs=>G (( J l:Int)-s.1)) (0,wb) rfl ⟨by simp,by simp,by simp,by simp⟩ ?_;rintro⟨i,bB⟩⟨h1,h2,h3,h4⟩;dsimp only at h1 h2 h3 h4;refine ZzK _ _ _ _ _ _ _ _ ?_;(simp only[iB,bW]);(simp only[vE]);refine⟨λhi=>?_,λhi=>?_⟩;.have hm:=YM (Zh (l:=l) (i:=G i) O H.nil);rw[ZO h1 hi H.nil]at h4;simp only[Z6,Qu]at h4;rw[vF];refine⟨⟨h1,hi⟩,by simp only[gQ];omega,by simp;omega,by simp;omega,O,V3,(i+1,bB++[Z2 (aR l (G i) H.nil)]),rfl,⟨V2,V2,by simp;omega,?_⟩,V2⟩;simp only[Qg,Qw,Qn];exact h4
 .rw[Qb O]at h4;simp only[Z6,QG,Qj]at h4;rw[h4];exact V0
theorem S_:aU Tryz.prog M 149 FA:=by refine kF (l:=cQ) trivial ZUr Tryz.func149 2 λ⟨V,e,_⟩s=>?_;simp only[MQ]at s;refine wV (λQ=>let z2:=! e.D==0&&V==9;let z0:=bif V==9 then e.D==2 else I;let z1:=! e.D==0&&z0;Tk 2 (! e.D==0) (Tk 2 z2 (( ! e.D==0=Y->True->! e.D==0=Y)/\((! e.D==0)=Y->(V==9)=Y->z2=Y)/\Tt ! e.D==0/\Tk 6 z1 ((z1=Y->bQ ((( J e.aS:Int):Int)+( J e.X:Int)))/\Tt z1/\( ! e.D==0=Y->True->! e.D==0=Y)/\((! e.D==0)=Y->z0=Y->z1=Y)/\((e.D==0)=I->(! e.D==0)=Y)/\Q .ret (L2 [(4,.c (.bool (bif e.D==0 then Y else bif z0 then( (( J e.aS:Int):Int)+( J e.X:Int):Int)==0 else I)))] []))))) ?_ λ_ h=>Eq.mpr V4 h;simp only[iB,bR,bW,nf,Xw];refine⟨λ_=>by unfold bQ;grind,Z9 rfl ?_⟩;rw[QA];simp only[tH];grind
theorem ZHn:aU Tryz.prog M 128 FN:=by refine kF (l:=cQ) trivial ZUr Tryz.func128 2 λ⟨V,e,_⟩s=>?_;refine wV (λQ=>let z2:=! e.D==0&&e.D==2;let z1:=bif e.D==2 then V==9 else I;let z0:=bif z1 then(( J e.aS:Int):Int)==0 else I;Tk 3 (! e.D==0) ( Tt z2/\( ! e.D==0=Y->True->! e.D==0=Y)/\((! e.D==0)=Y->(e.D==2)=Y->z2=Y)/\Tt ! e.D==0/\Tk 3 ( ! e.D==0&&z1) (((! e.D==0)=Y->True->(! e.D==0)=Y)/\( ! e.D==0=Y->z1=Y->( ! e.D==0&&z1)=Y)/\Tt ! e.D==0/\Tk 3 ( ! e.D==0&&z0) (( ! e.D==0=Y->True->! e.D==0=Y)/\((! e.D==0)=Y->z0=Y->( ! e.D==0&&z0)=Y)/\((e.D==0)=I->(! e.D==0)=Y)/\Q .ret (L2 [(4,.c (.bool (bif e.D==0 then Y else bif z0 then(( J e.X:Int):Int)==0 else I)))] []))))) ?_ λ_ h=>Eq.mpr V4 h;simp only[iB,bR,bW,nf,Xw];refine Z9 rfl ?_;rw[QA];simp only[tH];grind
noncomputable def LJ:Fs U:=UN Zxx ZrA
theorem VM:aU Tryz.prog M 148 LJ:=Ztn ZXC ZVC
noncomputable section
def fg(a:Ys):Prop:=Z1 a.1<=20000000000/\∃d,Z3 a.1 d=Y
def o_(a:Ys):aA U:=.agg (enc .aY (Zd a.1))
def oe:Fs U:=fs kV (λa=>[fg a]) o_
def BH:cF BC:=.cons (J1 .i64) (.cons (fY .op) .nil)
def r9(a:BC):Prop:=Zq a.2.1<=20000000000/\∀o∈a.2.1,∃d,Zg a.1 o d=Y
def qo(a:BC):Nat:=2*Zq a.2.1+1
def tG(a:BC):aA U:=.c (sU .op (Zj (Zz a.1 a.2.1 (dA.mk [] [] []))).bB .bA)
def H8:Fs U:=fs BH (λa=>[r9 a]) tG
def rO(N:Nat):List (FuncId×Fs U):=(67,fs kV (λa=>[fg a,jA a<N]) o_)::(107,fs BH (λa=>[r9 a,qo a<N]) tG)::[(75,mJ),(149,FA),(147,Fz),(150,F6),(148,LJ)]
def Bg:Zb U:=cI [[1,2,501,502],[3,503],[12],[13],[1,12,13,501],[1,12,23,501],[12,23],[1,32,33,34,501,(503,an 8 [.bF .cJ])],[35,503,503],[5,35,505],[5,505],[(503,an 8 [.bF .cJ])],[1,32,33,34,50,501,503,503],[1,50,501],[3,503]]
def GZ(e:W)(s:Int)(h:List bP):bT U:=L2 [pL 2,pL 3,(32,.c (sU .cJ e.X .bA)),pI 33 (J e.X),pI 34 s] [(.bE 2,eI),(.bE 3,[ci e.D,ci 0,.nils,.nils,ci 0,.nils,.nils,sU .bD (([]:List aV)++e.aS) (.bF (.l 3 7)),sU .cJ h (.bF (.l 3 8)),ci e.V,.nils])]
abbrev ZT5(N)(e)(s)(h)(N0:NT)(Q:QT):=AW (Za (rO N)) Tryz.f67 Bg [1,1,0,1,0,1,1,1,0,1,1,0,0] (GZ e s h) (xT N0 (xB 1 (xB 0 (SW (Za (rO N)) Tryz.f67 Bg [1,1,1] Q))))
theorem ZIe(N)(e:W)(aa)(s:List bP)(N0)(Q)(h:∀ae,ae=aR e.X (G aa) (aW.mk 0 W.nil)->∀ab,ab=ae.e->∀af,af=Zd ab->iB (decide (aa<(J e.X))) ((0<=aa/\aa<(J e.X))/\fg (ab,())/\jA (ab,())<N/\( J s+J [(aW.mk ae.S af)])*208<=140737488355328/\bQ (aa+1)/\N0 (GZ e (aa+1) (s++[(aW.mk ae.S af)]))) (Q .ret (L2 [pL 2] [(.bE 2,[ci e.D,ci 0,.nils,.nils,ci 0,.nils,.nils,sU .bD (([]:List aV)++e.aS) (.bF (.l 2 7)),sU .cJ s (.bF (.l 2 8)),ci e.V,.nils])]))):ZT5 N e aa s N0 Q:=Eq.mpr V4 (h _ rfl _ (Z0 _) _ (Z0 _))
def ZTh(N:Nat)(e:W):Prop:=AW (Za (rO N)) Tryz.f67 Bg [] (Y5 (kV.cK (e,())) []) (EQ Tryz.f67 (o_ (e,())) [])
abbrev ZW8:Prop:=∀N(e:W)(_:Unit),fg (e,())->jA (e,())<N+1->ZTh N e
def AV:Zb U:=cI [[0,1],[5,(510,[.wr .op])],[1,11,12,13,(510,[.wr .op,.bF .aX,.bF .aX])],[14,(510,[.wr .op])],[7,14,507],[18],[19],[7,18,19,507],[7,18,25,507],[7,18,25,507],[7,18,33,507],[7,18,33,507],[7,41,507],[7,8,41,507,508],[48],[8,48,508],[8,508],[8,508],[(510,[.wr .op,.bF .aX,.bF .aX])],[0,11,12,13,(510,[.wr .op])],[4,5,510]]
def rH(V:Int)(l:List Op)(ab:Int)(h:List Op)(s aa:List H):bT U:=(⟨[pI 0 V,(5,.ptr (.bE 10) 0),(11,.c (sU .op l .bA)),pI 12 ( J l:Int),pI 13 ab],[(.bE 10,[.mref (.l 10 0),sU .aX s (.bF (.l 10 1)),sU .aX aa (.bF (.l 10 2))])],[(.l 10 0,LC.mk (U:=U) .op h 0)]⟩)
abbrev ZMF(N)(V)(l)(ab)(h)(s aa)(N0:NT)(Q:QT):=AW (Za (rO N)) Tryz.f107 AV [1,1,0,1,0,0] (rH V l ab h s aa) (xT N0 (xB 0 (SW (Za (rO N)) Tryz.f107 AV [1,1,1] Q)))
theorem ZCY(N)(V)(l)(ae)(s)(aa ab)(N0)(Q)(h:∀af,af=aR l (G ae) Op.nil->∀ah,ah=W.mk 0 (H.mk 0 [] []) (H.mk 0 [] []) [] [] 0 []->∀ak,ak=Int.toNat (J (Zj (dA.mk s aa ab)).bB)->∀ai,ai=af.e->∀aj,aj=Zd ai->let z3:=xc ((s,aa,ab,()),());let z2:=dA.mk s aa (ab++Z6 af.l);let z1:=dA.mk s (aa++Z6 af.l) ab;let z0:=dA.mk s aa ab;iB (decide (ae<(J l))) ((0<=ae/\ae<(J l))/\iB (af.D==0) ( Az ((s,aa,ab,()),af.n,())/\bQ (ae+1)/\N0 (rH V l (ae+1) (Yt z0 af.n).bB (Yt z0 af.n).gone (Yt z0 af.n).bO)) (iB (af.D==1) ( vt ((s,aa,ab,()),af.l,())/\bQ (ae+1)/\N0 (rH V l (ae+1) z1.bB z1.gone z1.bO)) (iB (af.D==2) ( vt ((s,aa,ab,()),af.l,())/\bQ (ae+1)/\N0 (rH V l (ae+1) z2.bB z2.gone z2.bO)) (iB (af.D==3) ( fg (ai,())/\jA (ai,())<N/\MQ (V,aj,())/\iB (tH V aj) ( Az ((s,aa,ab,()),1,())/\bQ (ae+1)/\N0 (rH V l (ae+1) (Yt z0 1).bB (Yt z0 1).gone (Yt z0 1).bO)) (z3/\( J (Zj z0).bB+J [(bI.mk 0 0 [] ah)])*240<=140737488355328/\(0<=( J (Zj z0).bB:Int)/\(J (Zj z0).bB)<( J ( (Zj z0).bB++[(bI.mk 0 0 [] ah)]):Int))/\0<=ak/\bQ (ae+1)/\N0 (rH V l (ae+1) (List.set ( (Zj z0).bB++[(bI.mk 0 0 [] ah)]) ak (bI.mk 3 0 [] aj)) (Zj z0).gone (Zj z0).bO))) ( bQ (ae+1)/\N0 (rH V l (ae+1) s aa ab)))))) (z3/\Q .ret (L2 [(4,.c (sU .op (Zj z0).bB (.bF (.e 4 0))))] []))):ZMF N V l ae s aa ab N0 Q:=Eq.mpr V4 (h _ rfl _ rfl _ rfl _ (Z0 _) _ (Z0 _))
def ZNh(N:Nat)(V:Int)(l:List Op):Prop:=AW (Za (rO N)) Tryz.f107 AV [] (Y5 (BH.cK (V,l,())) []) (EQ Tryz.f107 (tG (V,l,())) [])
abbrev ZPa:Prop:=∀N(V:Int)(l:List Op)(_:Unit),r9 (V,l,())->qo (V,l,())<N+1->ZNh N V l
theorem ZAF(Ap:CT 75 mJ)(S_:CT 149 FA)(ZRK:CT 147 Fz)(Hf:CT 150 F6)(VM:CT 148 LJ)(h:ZW8)(s:ZPa):CT 67 oe/\CT 107 H8:=M9 (μA:=jA) (μB:=qo) (l:=[(75,mJ),(149,FA),(147,Fz),(150,F6),(148,LJ)]) ZN rfl ⟨Ap,S_,ZRK,Hf,VM,trivial⟩ Bg AV Tryz.func67 Tryz.func107 rfl rfl rfl rfl 1 2 (λ_=>rfl) (λ_=>rfl) V1 V1 (λN⟨e,_⟩=>h N e ()) λN⟨V,l,_⟩=>s N V l ()
end
theorem ZAR(s)(n):(Yt s n).bB.length<=J s.bB+3:=by have h:=Lv s;simp only[Yt];rw[ET];grind
theorem ZKr{s n B K}(hB:0<=B)(hn:0<=n/\n<=K)(h:∀o∈s.bB,0<=o.n/\o.n<=B):∀o∈(Yt s n).bB,0<=o.n/\o.n<=B+K:=by
 have hF:∀o∈(Zj s).bB,0<=o.n/\o.n<=B:=by
  intro o ho;rcases MB s o ho with h1|h1;.exact h o h1
  .omega
 intro o ho;simp only[Yt]at ho;rw[ET]at ho;grind
theorem Zky:∀(l:List bP),J (Jo l)=J l|[]=>rfl|k::r=>by simp[Jo,Zky r]
theorem Zvi(e):(Zd e).aS.length<=J e.aS/\(Zd e).X.length<=J e.X:=by
 rw[zH];split;.simp
 .split;.simp[Zky]
  .split<;>simp
theorem ZdL{V}{o:Op}{d}(h:Zg V o d=Y)(s:o.D=0):1<=o.n/\o.n<=1048576:=by obtain⟨k,n,l,e⟩:=o;simp only at s;subst s;simp[Zg]at h;grind
theorem ZdM{V}{o:Op}{d}(h:Zg V o d=Y)(s:o.D=3):Z3 o.e d=Y:=by obtain⟨k,n,l,e⟩:=o;simp only at s;subst s;simp[Zg]at h;exact h.2.1.2
theorem Zn6{e d}(h:Z3 e d=Y)(hk:e.D=2):∀k∈e.X,∃d,Z3 k.e d=Y:=by
 obtain⟨k,o,n,w,ks,l,os⟩:=e;change k=2 at hk;subst hk;have aa:∃d s,ZJ s ks d=Y:=by
  unfold Z3 at h;split at h;.cases h
  .grind
 obtain⟨d',s,aa⟩:=aa;change∀k∈ks,_;clear h;induction ks generalizing s with|nil=>grind|cons a r ih=>
  simp only[ZJ,Q9]at aa;intro k hk;rcases Qe.1 hk with rfl|hk;.obtain⟨a,e⟩:=k;simp only[n7,Q9]at aa;grind
  grind
theorem Zsm{e d}(h:Z3 e d=Y)(hk:e.D=3):∀o∈e.ops,∃d,Zg e.V o d=Y:=by
 obtain⟨k,o,n,w,ks,l,os⟩:=e;change k=3 at hk;subst hk;have s:∃d,ZK l os d=Y:=by
  unfold Z3 at h;split at h;.cases h
  .grind
 obtain⟨d',s⟩:=s;change∀o∈os,∃d,Zg l o d=Y;clear h;induction os with|nil=>grind|cons a r ih=>simp only[ZK,Q9]at s;grind
theorem ZXJ:ZPa:=by
 intro N V l _ hp hN;simp only[r9,qo]at hp hN;obtain⟨p1,p3⟩:=hp;have hl:=Y4 l;refine wV (λQ=>Zi (AW (Za (rO N)) Tryz.f107 AV [1,1,0,1,0,0]) (rH V l 0 [] [] []) (xB 0 (SW (Za (rO N)) Tryz.f107 AV [1,1,1] Q))) ?_ λ_ h=>Eq.mpr V4 h;refine Z5 (ι:=Int×dA) (λs=>rH V l s.1 s.2.bB s.2.gone s.2.bO) (λs=>0<=s.1/\s.1<=J l/\Zz V (l.drop (G s.1)) s.2=Zz V l ⟨[],[],[]⟩/\J s.2.bB<=3*s.1/\J s.2.gone+J s.2.bO+Zq (l.drop (G s.1))<=Zq l/\∀o∈s.2.bB,0<=o.n/\o.n<=s.1*1048576) (λs=>G (( J l:Int)-s.1)) (0,⟨[],[],[]⟩) rfl ⟨by simp,by simp,by simp,by simp,by simp,by simp⟩ ?_;rintro⟨i,s⟩⟨g1,g2,g3,g4,g5,g6⟩;dsimp only at g1 g2 g3 g4 g5 g6;refine ZCY _ _ _ _ _ _ _ _ _ ?_;rintro y1 ax y2 ay y3 ao y4 ak y5 al;have hy:y2=W.nil:=ay;subst hy;have es:dA.mk s.bB s.gone s.bO=s:=rfl;simp only[es]at ao⊢;(simp only[iB,bW]);refine⟨λhi=>?_,λhi=>?_⟩
 .have ai:=Zh (l:=l) (i:=G i) O Op.nil;have hm:=Y9 ai;have hr:=p3 _ ai;rw[ZO g1 hi Op.nil]at g3 g5;rw[<-ax]at g3 g5 hm hr;have aw:=ZZ y1;simp only[Zz,JV,Zq]at g3 g5;rw[<-ak,<-al]at g3;obtain⟨d,am⟩:=hr;have bg:=Lv s;have hP:∀n:Int,0<=n/\n<=1048576->Az ((s.bB,s.gone,s.bO,()),n,()):=by
   intro n hn;simp only[Az];refine⟨O,O,O,λo ho=>?_,O,O⟩;have:=g6 o ho;constructor;.omega
   .have:i*1048576<=20000000000*1048576:=O;omega
  have hK:∀n:Int,0<=n/\n<=1048576->Zz V (l.drop (G (i+1))) (Yt s n)=Zz V l ⟨[],[],[]⟩->∃j:Int×dA,rH V l (i+1) (Yt s n).bB (Yt s n).gone (Yt s n).bO=rH V l j.1 j.2.bB j.2.gone j.2.bO/\(0<=j.1/\j.1<=J l/\Zz V (l.drop (G j.1)) j.2=Zz V l ⟨[],[],[]⟩/\J j.2.bB<=3*j.1/\J j.2.gone+J j.2.bO+Zq (l.drop (G j.1))<=Zq l/\∀o∈j.2.bB,0<=o.n/\o.n<=j.1*1048576)/\G (( J l:Int)-j.1)<G (( J l:Int)-i):=by
   intro n hn he;have h1:=ZAR s n;have h2:=ZKr (s:=s) (n:=n) (B:=i*1048576) (K:=1048576) O hn g6;refine⟨(i+1,Yt s n),rfl,⟨O,O,he,by grind,by simp only[Yt,Ql];omega,λo ho=>?_⟩,O⟩;have:=h2 o ho;dsimp only;omega
  refine⟨⟨g1,hi⟩,λhk=>?_,λhk=>⟨λae=>?_,λae=>⟨λah=>?_,λah=>⟨λaf=>?_,λaf=>?_⟩⟩⟩⟩;.rw[Q5 hk]at g3;have h1:=ZdL am hk;exact⟨hP _ O,V3,hK _ O g3⟩
  .rw[Q0 hk,Q5 ae]at g3;refine⟨by simp only[vt];omega,V3,(i+1,⟨s.bB,s.gone++Z6 y1.l,s.bO⟩),rfl,⟨O,O,g3,by grind,?_,λo ho=>?_⟩,O⟩;.have:=Zs y1.l;simp only[Qi,Z6,QF];omega
   grind
  .rw[Q0 hk,Q0 ae,Q5 ah]at g3;refine⟨by simp only[vt];omega,V3,(i+1,⟨s.bB,s.gone,s.bO++Z6 y1.l⟩),rfl,⟨O,O,g3,by grind,?_,λo ho=>?_⟩,O⟩;.have:=Zs y1.l;simp only[Qi,Z6,QF];omega
   .have:=g6 o ho;dsimp only;omega
  .rw[Q0 hk,Q0 ae,Q0 ah,Q5 af]at g3;have az:=ZdM am af;rw[<-ak]at az;have hw:=Zvi y4;rw[<-al]at hw;have h1:=Yr y4;have h2:=Yl y4.X;have bl:Z1 y4<=Zy y1:=by rw[aw,ak];omega
   refine⟨by simp only[fg];grind,by simp only[jA];omega,by simp only[MQ];omega,λhq=>?_,λhq=>?_⟩;.rw[Q5 hq]at g3;exact⟨hP 1 O,V3,hK 1 O g3⟩
   .rw[Q0 (by rw[hq];simp)]at g3;rw[ao,vF];refine⟨by simp only[xc];omega,by grind,by grind,O,V3,(i+1,⟨(Zj s).bB++[⟨3,0,[],y5⟩],[],[]⟩),rfl,⟨O,O,g3,by simp;omega,by simp;omega,λo ho=>?_⟩,O⟩;dsimp only at ho⊢;rcases Qo.1 ho with ho|ho
    .rcases MB s o ho with h5|h5;.grind
     .omega
    grind
  .rw[Q0 hk,Q0 ae,Q0 ah,Q0 af]at g3;refine⟨V3,(i+1,s),rfl,⟨O,O,g3,by grind,by grind,λo ho=>?_⟩,O⟩;grind
 .rw[Qb O]at g3;simp only[Zz]at g3;refine⟨by simp only[xc];omega,?_⟩;simp only[tG];rw[<-g3];exact V0
theorem b67:ZW8:=by
 intro N e _ hp hN;simp only[fg,jA]at hp hN;obtain⟨p1,d,p3⟩:=hp;have h1:=Yr e;have h2:=Yl e.X;have h3:=Y4 e.ops;have ha:=zH e;refine wV (λQ=>let z1:=H.mk e.new.D e.new.aS e.new.X;let z0:=H.mk e.bH.D e.bH.aS e.bH.X;iB (e.D==1) ( gQ (z0,())/\gQ (z1,())/\Q .ret (L2 [pL 2] [(.bE 2,[ci e.D]++enc .aX (Z2 z0)++enc .aX (Z2 z1)++[.nils,.nils,ci e.V,.nils])])) (iB (e.D==2) ( ( J ([]:List aV)+J e.aS)*32<=140737488355328/\Zi (AW (Za (rO N)) Tryz.f67 Bg [1,1,0,1,0,1,1,1,0,1,1,0,0]) (GZ e 0 []) (xB 1 (xB 0 (SW (Za (rO N)) Tryz.f67 Bg [1,1,1] Q)))) (iB (e.D==3) ( r9 (e.V,e.ops,())/\qo (e.V,e.ops,())<N/\Q .ret (L2 [pL 2] [(.bE 2,[ci e.D,ci 0,.nils,.nils,ci 0,.nils,.nils,.nils,.nils,ci e.V,sU .op (Zj (Zz e.V e.ops (dA.mk [] [] []))).bB .bA])])) (Q .ret (L2 [pL 2] [(.bE 2,[ci e.D,ci 0,.nils,.nils,ci 0,.nils,.nils,.nils,.nils,ci e.V,.nils])]))))) ?_ λ_ h=>Eq.mpr V4 h;(simp only[iB,bW]);(simp only[vE]);refine⟨λhk=>⟨by simp only[gQ];omega,by simp only[gQ];omega,?_⟩,λhk=>⟨λaa=>⟨by simp;omega,?_⟩,λaa=>⟨λae=>⟨?_,by simp only[qo];omega,?_⟩,λae=>?_⟩⟩⟩;.rw[Q5 hk]at ha;simp only[o_,ha];exact V0
 .rw[Q0 hk,Q5 aa]at ha;refine Z5 (ι:=Int×List bP) (λs=>GZ e s.1 s.2) (λs=>0<=s.1/\s.1<=J e.X/\J s.2=s.1/\s.2++Jo (e.X.drop (G s.1))=Jo e.X) (λs=>G (( J e.X:Int)-s.1)) (0,[]) rfl ⟨by simp,by simp,by simp,by simp⟩ ?_;rintro⟨j,ks⟩⟨f1,f2,f3,f4⟩;dsimp only at f1 f2 f3 f4;refine ZIe _ _ _ _ _ _ ?_;rintro y1 aj y2 ak y3 am;(simp only[iB,bW]);refine⟨λhj=>?_,λhj=>?_⟩;.have ah:=Zh (l:=e.X) (i:=G j) O (aW.mk 0 W.nil);have hm:=JC ah;have hr:=Zn6 p3 aa _ ah;rw[ZO f1 hj (aW.mk 0 W.nil)]at f4;rw[<-aj]at f4 hm hr;simp only[Jo,WB]at f4;rw[<-ak]at f4 hm hr;rw[<-am]at f4;refine⟨⟨f1,hj⟩,by simp only[fg];grind,by simp only[jA];omega,by simp;omega,V3,(j+1,ks++[⟨y1.S,y3⟩]),rfl,⟨O,O,by simp;omega,?_⟩,O⟩;grind
  .rw[Qb O]at f4;simp only[Jo,Qj]at f4;rw[f4];simp only[o_,ha];exact V0
 .simp only[r9];exact⟨O,λo ho=>Zsm p3 ae o ho⟩
 .rw[Q0 hk,Q0 aa,Q5 ae]at ha;simp only[o_,ha];exact V0
 .rw[Q0 hk,Q0 aa,Q0 ae]at ha;simp only[o_,ha];exact V0
theorem Ct:aU Tryz.prog M 67 oe/\aU Tryz.prog M 107 H8:=ZAF Ap S_ ZRK Hf VM b67 ZXJ
noncomputable section
def kB(N:Nat):List (FuncId×Fs U):=(29,fs kV (λa=>[fg a,jA a<N]) o_)::(79,fs BH (λa=>[r9 a,qo a<N]) tG)::[(41,mJ),(127,Fw),(128,FN)]
def v8:Zb U:=cI [[1,2,501,502],[6],[7],[1,6,7,501],[1,6,16,501],[3,6,16,503],[],[4,(503,an 8 [.bF .cJ])],[29,503,503],[29,(503,an 8 [.bF .cJ])],[503,503],[1,3,4,501,503],[1,52,501],[1,52,501],[]]
def Ie(e:W)(s:Int)(h:List bP):bT U:=L2 [pL 1,pL 2,pL 3,pI 4 s] [(.bE 1,enc .aY e),(.bE 2,eI),(.bE 3,[ci 2,ci 0,.nils,.nils,ci 0,.nils,.nils,sU .bD (([]:List aV)++e.aS) (.bF (.l 3 7)),sU .cJ h (.bF (.l 3 8)),ci 0,.nils])]
abbrev ZT6(N)(e)(s)(h)(N0:NT)(Q:QT):=AW (Za (kB N)) Tryz.f29 v8 [1,0,1,0,1,1,1,0,1,1,0,1,0,0] (Ie e s h) (xT N0 (xB 1 (SW (Za (kB N)) Tryz.f29 v8 [1,0,1,0,1,1,1,0,1,1,1] (xB 0 (SW (Za (kB N)) Tryz.f29 v8 [1,1] Q)))))
theorem ZIq(N)(e:W)(x4)(s:List bP)(N0)(Q)(h:∀ab,ab=aR e.X (G x4) (aW.mk 0 W.nil)->∀aa,aa=ab.e->∀af,af=Zd aa->iB (decide (x4<(J e.X))) ((0<=x4/\x4<(J e.X))/\(0<=x4/\x4<(J e.X))/\fg (aa,())/\jA (aa,())<N/\( J s+J [(aW.mk ab.S af)])*208<=140737488355328/\bQ (x4+1)/\N0 (Ie e (x4+1) (s++[(aW.mk ab.S af)]))) (Q .ret (L2 [pL 2] [(.bE 2,[ci 2,ci 0,.nils,.nils,ci 0,.nils,.nils,sU .bD (([]:List aV)++e.aS) (.bF (.l 2 7)),sU .cJ s (.bF (.l 2 8)),ci 0,.nils])]))):ZT6 N e x4 s N0 Q:=Eq.mpr V4 (h _ rfl _ (Z0 _) _ (Z0 _))
def ZTm(N:Nat)(e:W):Prop:=AW (Za (kB N)) Tryz.f29 v8 [] (Y5 (kV.cK (e,())) []) (EQ Tryz.f29 (o_ (e,())) [])
abbrev ZWb:Prop:=∀N(e:W)(_:Unit),fg (e,())->jA (e,())<N+1->ZTm N e
def mY:Zb U:=cI [[0,1],[(5,[.wr .op])],[6],[16],[16],[7,8],[6,9],[33],[7,33],[41],[],[6,8,9,41],[51],[0,1,4,5,6,51],[0,1,4,(5,[.wr .op]),6,11,511],[64],[64],[75],[75],[12],[94],[11,12,94,511],[],[0,1,4,5,6]]
def nF(V:Int)(l:List Op)(s:Int)(h:List Op):bT U:=(⟨[pI 0 V,(1,.c (sU .op l .bA)),(5,.c (.mref (.e 5 0))),pI 6 s],[],[(.e 5 0,LC.mk (U:=U) .op h 0)]⟩)
def F9(V:Int)(l:List Op)(s:Int)(h:List Op):bT U:=(⟨[pI 0 V,(1,.c (sU .op l .bA)),(5,.c (.mref (.e 5 0))),pI 8 (s+fj (l.drop (G s))),(9,.c (sU .aX (iY 2 (l.drop (G s))) .bA)),(41,.c (.bool (decide ((0:Int)<( J (iY 2 (l.drop (G s))):Int)))))],[],[(.e 5 0,LC.mk (U:=U) .op h 0)]⟩)
abbrev ZT4(N)(V)(l)(s)(h)(N0:NT)(Q:QT):=AW (Za (kB N)) Tryz.f79 mY [1,1,0,1,0,0] (nF V l s h) (xT N0 (xB 0 (SW (Za (kB N)) Tryz.f79 mY [1,1,1] Q)))
theorem ZI7(N)(V)(l)(x6)(s)(N0:NT)(Q:QT)(h:∀aa,aa=W.mk 0 (H.mk 0 [] []) (H.mk 0 [] []) [] [] 0 []->let z2:=iY 1 (l.drop (G x6));let z1:=iY 2 (l.drop (G x6));let z3:=decide (0<( J z1:Int));let z0:=xB 1 (SW (Za (kB N)) Tryz.f79 mY [1,1,0,1,0,0,1,1] (xT N0 (xB 0 (SW (Za (kB N)) Tryz.f79 mY [1,1,1] Q))));iB (decide (x6<( J l:Int))) ( Bs (l,x6,1,())/\Bs (l,x6,2,())/\iB (decide (0<( J z2:Int))) ( ( J s+J [(bI.mk 1 0 z2 aa)])*240<=140737488355328/\iB z3 ( ( J (s++[(bI.mk 1 0 z2 aa)])+J [(bI.mk 2 0 z1 aa)])*240<=140737488355328/\AW (Za (kB N)) Tryz.f79 mY [1,1,0,1,0,0,1,0,0,1,1,1,1] (F9 V l x6 ( s++[(bI.mk 1 0 z2 aa)]++[(bI.mk 2 0 z1 aa)])) z0) (AW (Za (kB N)) Tryz.f79 mY [1,1,0,1,0,0,1,0,0,1,1,1,1] (F9 V l x6 (s++[(bI.mk 1 0 z2 aa)])) z0)) (iB z3 ( ( J s+J [(bI.mk 2 0 z1 aa)])*240<=140737488355328/\AW (Za (kB N)) Tryz.f79 mY [1,1,0,1,0,0,1,0,0,1,1,1,1] (F9 V l x6 (s++[(bI.mk 2 0 z1 aa)])) z0) (AW (Za (kB N)) Tryz.f79 mY [1,1,0,1,0,0,1,0,0,1,1,1,1] (F9 V l x6 s) z0))) (Q .ret (L2 [(4,.c (sU .op s (.bF (.e 4 0))))] []))):ZT4 N V l x6 s N0 Q:=Eq.mpr V4 (h _ rfl)
abbrev ZHJ(N)(V)(l)(s)(h)(N0:NT)(Q:QT):=AW (Za (kB N)) Tryz.f79 mY [1,1,0,1,0,0,1,0,0,1,1,1,1] (F9 V l s h) (xB 1 (SW (Za (kB N)) Tryz.f79 mY [1,1,0,1,0,0,1,1] (xT N0 (xB 0 (SW (Za (kB N)) Tryz.f79 mY [1,1,1] Q)))))
theorem ZI8(N)(V)(l)(x6)(s)(N0)(Q)(h:∀ae,ae=List.getD l (Int.toNat (x6+fj (l.drop (G x6)))) Op.nil->∀af,af=W.mk 0 (H.mk 0 [] []) (H.mk 0 [] []) [] [] 0 []->∀aa,aa=List.getD s (Int.toNat ((( J s:Int))-1)) Op.nil->∀ai,ai=ae.e->∀aj,aj=aa.e->∀ah,ah=Zd ai->let z4:=decide (0<( J s:Int));let z3:=bQ ((( J s:Int))-1);let z2:=bQ ((x6+fj (l.drop (G x6)))+1);let z1:=bif(3:Int)==0 then z4 else I;let z0:=bif(0:Int)==0 then z4 else I;let z5:=bif z0 then aa.D==0 else I;iB (decide ((( J l:Int))<=x6+fj (l.drop (G x6)))) (Q .ret (L2 [(4,.c (sU .op s (.bF (.e 4 0))))] [])) ((0<=x6+fj (l.drop (G x6))/\x6+fj (l.drop (G x6))<(J l))/\(0<=x6+fj (l.drop (G x6))/\x6+fj (l.drop (G x6))<(J l))/\iB (ae.D==3) ((0<=x6+fj (l.drop (G x6))/\x6+fj (l.drop (G x6))<(J l))/\fg (ai,())/\jA (ai,())<N/\Ew (V,ah,())/\iB (tH V ah) (Tk 2 ((0:Int)==0) ( Tt z0/\(z0=Y->bQ ((( J s:Int))-1))/\Tk 2 z0 ((z0=Y->0<=(( J s:Int))-1/\(( J s:Int))-1<(J s))/\Tk 4 z0 (iB z5 (z3/\z3/\(0<=(( J s:Int))-1/\(( J s:Int))-1<(J s))/\bQ (aa.n+1)/\(0<=(( J s:Int))-1/\(( J s:Int))-1<(J s))/\0<=Int.toNat ((( J s:Int))-1)/\z2/\N0 (nF V l ((x6+fj (l.drop (G x6)))+1) (List.set s (Int.toNat ((( J s:Int))-1)) (bI.mk aa.D (aa.n+1) aa.l aj)))) ( ( J s+J [(bI.mk 0 1 [] af)])*240<=140737488355328/\z2/\N0 (nF V l ((x6+fj (l.drop (G x6)))+1) (s++[(bI.mk 0 1 [] af)]))))))) (Tk 2 ((3:Int)==0) ( Tt z1/\(z1=Y->bQ ((( J s:Int))-1))/\Tk 2 z1 ((z1=Y->0<=(( J s:Int))-1/\(( J s:Int))-1<(J s))/\Tk 4 z1 (iB (bif z1 then aa.D==0 else I) (z3/\z3/\(0<=(( J s:Int))-1/\(( J s:Int))-1<(J s))/\bQ (aa.n+0)/\(0<=(( J s:Int))-1/\(( J s:Int))-1<(J s))/\0<=Int.toNat ((( J s:Int))-1)/\z2/\N0 (nF V l ((x6+fj (l.drop (G x6)))+1) (List.set s (Int.toNat ((( J s:Int))-1)) (bI.mk aa.D (aa.n+0) aa.l aj)))) ( ( J s+J [(bI.mk 3 0 [] ah)])*240<=140737488355328/\z2/\N0 (nF V l ((x6+fj (l.drop (G x6)))+1) (s++[(bI.mk 3 0 [] ah)])))))))) (Tk 2 ((0:Int)==0) ( Tt z0/\(z0=Y->bQ ((( J s:Int))-1))/\Tk 2 z0 ((z0=Y->0<=(( J s:Int))-1/\(( J s:Int))-1<(J s))/\Tk 4 z0 (iB z5 (z3/\z3/\(0<=(( J s:Int))-1/\(( J s:Int))-1<(J s))/\bQ (aa.n+ae.n)/\(0<=(( J s:Int))-1/\(( J s:Int))-1<(J s))/\0<=Int.toNat ((( J s:Int))-1)/\z2/\N0 (nF V l ((x6+fj (l.drop (G x6)))+1) (List.set s (Int.toNat ((( J s:Int))-1)) (bI.mk aa.D (aa.n+ae.n) aa.l aj)))) ( ( J s+J [(bI.mk 0 ae.n [] af)])*240<=140737488355328/\z2/\N0 (nF V l ((x6+fj (l.drop (G x6)))+1) (s++[(bI.mk 0 ae.n [] af)]))))))))):ZHJ N V l x6 s N0 Q:=Eq.mpr V4 (h _ rfl _ rfl _ rfl _ (Z0 _) _ (Z0 _) _ (Z0 _))
def ZTc(N:Nat)(V:Int)(l:List Op):Prop:=AW (Za (kB N)) Tryz.f79 mY [] (Y5 (BH.cK (V,l,())) []) (EQ Tryz.f79 (tG (V,l,())) [])
abbrev ZW4:Prop:=∀N(V:Int)(l:List Op)(_:Unit),r9 (V,l,())->qo (V,l,())<N+1->ZTc N V l
theorem ZAH(tC:CT 41 mJ)(Si:CT 127 Fw)(ZHn:CT 128 FN)(h:ZWb)(s:ZW4):CT 29 oe/\CT 79 H8:=M9 (μA:=jA) (μB:=qo) (l:=[(41,mJ),(127,Fw),(128,FN)]) ZN rfl ⟨tC,Si,ZHn,trivial⟩ v8 mY Tryz.func29 Tryz.func79 rfl rfl rfl rfl 1 2 (λ_=>rfl) (λ_=>rfl) V1 V1 (λN⟨e,_⟩=>h N e ()) λN⟨V,l,_⟩=>s N V l ()
end
theorem Znd:∀l,0<=fj l/\(fj l<J l->(aR l (G (fj l)) Op.nil).D≠1/\(aR l (G (fj l)) Op.nil).D≠2)|[]=>by simp[fj]|o::r=>by obtain⟨s,h⟩:=Znd r;rw[fj];grind
theorem Zzd:∀l,fj l<=J l|[]=>by simp[fj]|o::r=>by have:=Zzd r;rw[fj];grind
theorem Zw2(l)(i k):(l.drop i).getD k Op.nil=aR l (i+k) Op.nil:=by grind
theorem ZoP{V}{o:Op}{d}(h:Zg V o d=Y):o.D=0\/o.D=1\/o.D=2\/o.D=3:=by obtain⟨k,n,l,e⟩:=o;show k=0\/k=1\/k=2\/k=3;rw[Zg]at h;grind
theorem b79:ZW4:=by
 intro N V l _ hp hN;simp only[r9,qo]at hp hN;obtain⟨p1,p3⟩:=hp;have hl:=Y4 l;refine wV (λQ=>Zi (AW (Za (kB N)) Tryz.f79 mY [1,1,0,1,0,0]) (nF V l 0 []) (xB 0 (SW (Za (kB N)) Tryz.f79 mY [1,1,1] Q))) ?_ λ_ h=>Eq.mpr V4 h;refine Z5 (ι:=Int×List Op) (λs=>nF V l s.1 s.2) (λs=>0<=s.1/\s.1<=J l/\(Zj (Zz V (l.drop (G s.1)) ⟨s.2,[],[]⟩)).bB=(Zj (Zz V l ⟨[],[],[]⟩)).bB/\J s.2<=3*s.1/\∀o∈s.2,0<=o.n/\o.n<=s.1*1048576) (λs=>G (( J l:Int)-s.1)) (0,[]) rfl ⟨by simp,by simp,by simp,by simp,by simp⟩ ?_;rintro⟨i,bB⟩⟨g1,g2,g3,g4,g6⟩;dsimp only at g1 g2 g3 g4 g6;have be:i<J l->∀F,F=(Zj ⟨bB,iY 1 (l.drop (G i)),iY 2 (l.drop (G i))⟩).bB->ZHJ N V l i F (λs2=>∃j:Int×List Op,s2=nF V l j.1 j.2/\(0<=j.1/\j.1<=J l/\(Zj (Zz V (l.drop (G j.1)) ⟨j.2,[],[]⟩)).bB=(Zj (Zz V l ⟨[],[],[]⟩)).bB/\J j.2<=3*j.1/\∀o∈j.2,0<=o.n/\o.n<=j.1*1048576)/\G (( J l:Int)-j.1)<G (( J l:Int)-i)) (ZB M Tryz.f79.ntmps Tryz.f79.results.toList (tG (V,l,())) []):=by
  intro hi F hF;obtain⟨q1,q2⟩:=Znd (l.drop (G i));have q3:=Zzd (l.drop (G i));rw[QI]at q2 q3;rw[Zw2,show G i+G (fj (l.drop (G i)))=G (i+fj (l.drop (G i)))by omega]at q2;rw[ZmH,Xt,show G i+G (fj (l.drop (G i)))=G (i+fj (l.drop (G i)))by omega]at g3;simp only[Qn]at g3;have az:=Lv ⟨bB,iY 1 (l.drop (G i)),iY 2 (l.drop (G i))⟩;have am:=MB ⟨bB,iY 1 (l.drop (G i)),iY 2 (l.drop (G i))⟩;have ae:Zj ⟨bB,iY 1 (l.drop (G i)),iY 2 (l.drop (G i))⟩=⟨F,[],[]⟩:=by rw[hF];try rfl
  have af:∀n,Yt ⟨bB,iY 1 (l.drop (G i)),iY 2 (l.drop (G i))⟩ n=⟨iE F n,[],[]⟩:=by intro n;rw[hF];try rfl
  rw[<-hF]at az am;simp only at az am;refine ZI8 _ _ _ _ _ _ _ ?_;rintro y1 ai y2 bc y3 au y4 ao y5 bd y6 bf;generalize hj:i+fj (l.drop (G i))=j at*;have hy:y2=W.nil:=bc;subst hy;have aj:∀o∈F,0<=o.n/\o.n<=i*1048576:=by
   intro o ho;rcases am o ho with h1|h1;.exact g6 o h1
   .omega
  simp only[show((0:Int)==0)=Y from rfl,show((3:Int)==0)=I from rfl,XE,Xi];simp only[iB,bR,bW,nf,Xw];refine⟨λa7=>?_,λa7=>?_⟩
  .rw[Qb O]at g3;simp only[Zz,ae]at g3;simp only[tG];rw[<-g3];exact V0
  .have al:=Zh (l:=l) (i:=G j) O Op.nil;have hm:=Y9 al;obtain⟨d,ak⟩:=p3 _ al;have hq:=q2 O;rw[<-ai]at hm ak hq;have bg:=ZoP ak;rw[ZO O O Op.nil,<-ai,Zz,JV]at g3;have a6:=ZZ y1;have bh:( J F:Int)-1=(( J F-1:Nat):Int)\/J F=0:=O;have e2:G (( J F:Int)-1)=J F-1:=O;rw[e2]at au⊢;have aq:0<J F->0<=y3.n/\y3.n<=i*1048576:=λh=>by rw[au];exact aj _ (Zh O _)
   have ah:∀n:Int,0<=n/\n<=1048576->(Zj (Zz V (l.drop (G (j+1))) ⟨iE F n,[],[]⟩)).bB=(Zj (Zz V l ⟨[],[],[]⟩)).bB->(0<J F/\y3.D=0->∃q:Int×List Op,nF V l (j+1) (F.set ( J F-1) ⟨y3.D,y3.n+n,y3.l,y5⟩)=nF V l q.1 q.2/\(0<=q.1/\q.1<=J l/\(Zj (Zz V (l.drop (G q.1)) ⟨q.2,[],[]⟩)).bB=(Zj (Zz V l ⟨[],[],[]⟩)).bB/\J q.2<=3*q.1/\∀o∈q.2,0<=o.n/\o.n<=q.1*1048576)/\G (( J l:Int)-q.1)<G (( J l:Int)-i))/\(¬(0<J F/\y3.D=0)->∃q:Int×List Op,nF V l (j+1) (F++[⟨0,n,[],W.nil⟩])=nF V l q.1 q.2/\(0<=q.1/\q.1<=J l/\(Zj (Zz V (l.drop (G q.1)) ⟨q.2,[],[]⟩)).bB=(Zj (Zz V l ⟨[],[],[]⟩)).bB/\J q.2<=3*q.1/\∀o∈q.2,0<=o.n/\o.n<=q.1*1048576)/\G (( J l:Int)-q.1)<G (( J l:Int)-i)):=by
    intro n hn hg;rw[ET,<-au,<-bd]at hg;refine⟨λL=>?_,λL=>?_⟩
    .rw[Q5 ⟨O,L.2⟩]at hg;refine⟨(j+1,_),rfl,⟨V2,V2,hg,by dsimp only;rw[List.length_set];omega,λo ho=>?_⟩,V2⟩;dsimp only at ho⊢;have a2:=aq O;rcases List.mem_or_eq_of_mem_set ho with ho|rfl;.have:=aj o ho;omega
     .simp only;omega
    .rw[Q0 λh=>L ⟨O,h.2⟩]at hg;refine⟨(j+1,_),rfl,⟨V2,V2,hg,by dsimp only;rw[List.length_append,List.length_singleton];omega,λo ho=>?_⟩,V2⟩;dsimp only at ho⊢;rcases Qo.1 ho with ho|ho;.have:=aj o ho;omega
     .simp only[Qs]at ho;subst ho;simp only;omega
   refine⟨O,O,λhk=>?_,λhk=>?_⟩
   .rw[Q0 O,Q0 O,Q0 O,Q5 hk]at g3;rw[<-ao,<-bf,af,ae]at g3;have ay:=ZdM ak hk;rw[<-ao]at ay;have bw:Z1 y4<=Zy y1:=by rw[a6,ao];omega
    refine⟨O,by simp only[fg];exact⟨O,d,ay⟩,by simp only[jA];omega,by simp only[Ew],λhq=>?_,λhq=>?_⟩
    .rw[Q5 hq]at g3;have hK:=ah 1 O g3;refine⟨V3,O,λL=>?_,λL=>?_⟩;.have a2:=aq O;exact⟨V3,V3,O,V3,O,O,V3,hK.1 ⟨O,L.2⟩⟩
     .exact⟨by simp only[QN];omega,V3,hK.2 λh=>by omega⟩
    .rw[Q0 (by rw[hq];simp)]at g3;refine⟨λh=>(nomatch h),λh=>(nomatch h),λh=>(nomatch h),by simp only[QN];omega,V3,(j+1,F++[⟨3,0,[],y6⟩]),rfl,⟨V2,V2,g3,by dsimp only;rw[List.length_append,List.length_singleton];omega,λo ho=>?_⟩,V2⟩;dsimp only at ho⊢;rcases Qo.1 ho with ho|ho;.have:=aj o ho;omega
     .simp only[Qs]at ho;subst ho;simp only;omega
   .have a3:y1.D=0:=O;rw[Q5 a3,af]at g3;have h1:=ZdL ak a3;have hK:=ah y1.n O g3;refine⟨V3,O,λL=>?_,λL=>?_⟩;.have a2:=aq O;exact⟨V3,V3,O,V3,O,O,V3,hK.1 ⟨O,L.2⟩⟩
    .exact⟨by simp only[QN];omega,V3,hK.2 λh=>by omega⟩
 refine ZI7 _ _ _ _ _ _ _ ?_;rintro y1 ai;have hy:y1=W.nil:=ai;subst hy;(simp only[iB,bW]);refine⟨λhi=>?_,λhi=>?_⟩
 .have kk:=be hi;simp only[Zj,kU]at kk;refine⟨by simp only[Bs];omega,by simp only[Bs];omega,λh1=>⟨by simp only[QN];omega,λh2=>⟨by simp only[Qi,QN];omega,?_⟩,λh2=>?_⟩,λh1=>⟨λh2=>⟨by simp only[QN];omega,?_⟩,λh2=>?_⟩⟩;.refine kk _ ?_;rw[Q0 O,Q0 O];simp
  .refine kk _ ?_;rw[Q0 O,Q5 O];simp
  .refine kk _ ?_;rw[Q5 O,Q0 O];simp
  .refine kk _ ?_;rw[Q5 O,Q5 O];simp
 .rw[Qb O]at g3;have:(Zj (Zz V [] ⟨bB,[],[]⟩)).bB=bB:=by simp[Zz,Zj,kU]
  rw[this]at g3;simp only[tG];rw[<-g3];exact V0
theorem Zu6{e d}(h:Z3 e d=Y):(e.D=0\/e.D=1\/e.D=2\/e.D=3)/\(e.D≠3->e.V=0):=by obtain⟨k,o,n,w,ks,l,os⟩:=e;show(k=0\/k=1\/k=2\/k=3)/\(k≠3->l=0);rw[Z3]at h;grind
theorem b29:ZWb:=by
 intro N e _ hp hN;simp only[fg,jA]at hp hN;obtain⟨p1,d,p3⟩:=hp;have h1:=Yr e;have h2:=Yl e.X;have h3:=Y4 e.ops;have ha:=zH e;obtain⟨a2,ai⟩:=Zu6 p3;refine wV (λQ=>let z1:=H.mk e.new.D e.new.aS e.new.X;let z0:=H.mk e.bH.D e.bH.aS e.bH.X;iB (e.D==1) ( gQ (z0,())/\gQ (z1,())/\Q .ret (L2 [pL 2] [(.bE 2,[ci 1]++enc .aX (Z2 z0)++enc .aX (Z2 z1)++[.nils,.nils,ci 0,.nils])])) (iB (e.D==2) ( ( J ([]:List aV)+J e.aS)*32<=140737488355328/\Zi (AW (Za (kB N)) Tryz.f29 v8 [1,0,1,0,1,1,1,0,1,1,0,1,0,0]) (Ie e 0 []) (xB 1 (SW (Za (kB N)) Tryz.f29 v8 [1,0,1,0,1,1,1,0,1,1,1] (xB 0 (SW (Za (kB N)) Tryz.f29 v8 [1,1] Q))))) (iB (e.D==3) ( r9 (e.V,e.ops,())/\qo (e.V,e.ops,())<N/\Q .ret (L2 [pL 2] [(.bE 2,[ci 3,ci 0,.nils,.nils,ci 0,.nils,.nils,.nils,.nils,ci e.V,sU .op (Zj (Zz e.V e.ops (dA.mk [] [] []))).bB .bA])])) (Q .ret (L2 [pL 2] [(.bE 2,eI)]))))) ?_ λ_ h=>Eq.mpr V4 h;(simp only[iB,bW]);(simp only[vE]);refine⟨λhk=>⟨by simp only[gQ];omega,by simp only[gQ];omega,?_⟩,λhk=>⟨λab=>⟨by simp;omega,?_⟩,λab=>⟨λaa=>⟨?_,by simp only[qo];omega,?_⟩,λaa=>?_⟩⟩⟩
 .rw[Q5 hk]at ha;simp only[o_,ha];(repeat'(first|exact trivial|exact rfl|apply And.intro));.exact hk.symm
  .exact(ai O).symm
 .rw[Q0 hk,Q5 ab]at ha;refine Z5 (ι:=Int×List bP) (λs=>Ie e s.1 s.2) (λs=>0<=s.1/\s.1<=J e.X/\J s.2=s.1/\s.2++Jo (e.X.drop (G s.1))=Jo e.X) (λs=>G (( J e.X:Int)-s.1)) (0,[]) rfl ⟨by simp,by simp,by simp,by simp⟩ ?_;rintro⟨j,ks⟩⟨f1,f2,f3,f4⟩;dsimp only at f1 f2 f3 f4;refine ZIq _ _ _ _ _ _ ?_;rintro y1 al y2 ao y3 ar;(simp only[iB,bW]);refine⟨λhj=>?_,λhj=>?_⟩;.have ah:=Zh (l:=e.X) (i:=G j) O (aW.mk 0 W.nil);have hm:=JC ah;have hr:=Zn6 p3 ab _ ah;rw[ZO f1 hj (aW.mk 0 W.nil)]at f4;rw[<-al]at f4 hm hr;simp only[Jo,WB]at f4;rw[<-ao]at f4 hm hr;rw[<-ar]at f4;refine⟨⟨f1,hj⟩,⟨f1,hj⟩,by simp only[fg];exact⟨O,hr⟩,by simp only[jA];omega,by simp;omega,V3,(j+1,ks++[⟨y1.S,y3⟩]),rfl,⟨V2,V2,by simp;omega,?_⟩,V2⟩;simp only[Qg,Qw,Qn];exact f4
  .rw[Qb O]at f4;simp only[Jo,Qj]at f4;rw[f4];simp only[o_,ha];(repeat'(first|exact trivial|exact rfl|apply And.intro));.exact ab.symm
   .exact(ai O).symm
 .simp only[r9];exact⟨O,λo ho=>Zsm p3 aa o ho⟩
 .rw[Q0 hk,Q0 ab,Q5 aa]at ha;simp only[o_,ha];(repeat'(first|exact trivial|exact rfl|apply And.intro));exact aa.symm
 .rw[Q0 hk,Q0 ab,Q0 aa]at ha;simp only[o_,ha];(repeat'(first|exact trivial|exact rfl|apply And.intro));.show 0=e.D;omega
  .exact(ai aa).symm
theorem Cv:aU Tryz.prog M 29 oe/\aU Tryz.prog M 79 H8:=ZAH tC Si ZHn b29 b79
noncomputable section
def TC(a:Ys):aA U:=.agg (enc .aY (Zd (Zm a.1)))
def sR:Fs U:=fs kV (λa=>[fg a]) TC
def ZQV:List (FuncId×Fs U):=[(67,oe),(131,PM)]
def ZWW:Zb U:=cI [[1,2,501,502],[1,501]]
end
mutual theorem Fq:∀(e:W),Z1 (Zm e)=Z1 e
 |.mk k o n w ks l os=>by
  have s:=Zhu ks;have h:=Zht os;simp only[Zm,Z1,QF,Ww,s,h];omega theorem Zhu:∀(ks:List (aW W)),ZM (YE ks)=ZM ks
 |[]=>rfl|k::r=>by
  have s:=ZpW k;have h:=Zhu r;simp only[YE,ZM,s,h]theorem ZpW:∀(k:aW W),JS (Jq k)=JS k
 |⟨a,e⟩=>by have h:=Fq e;trivial theorem Zht:∀(os:List (bI W)),Zq (YK os)=Zq os|[]=>rfl|o::r=>by have s:=ZsA o;have h:=Zht r;simp only[YK,Zq,s,h]theorem ZsA:∀(o:bI W),Zy (YD o)=Zy o
 |⟨k,n,l,e⟩=>by
  have h:=Fq e;simp only[YD];split;.try rfl
  .split;.try rfl
   .split;.simp only[Zy,h]
    .try rfl end
theorem Eg:aU Tryz.prog M 85 sR:=by refine kF (l:=ZQV) ⟨Ct.1,ZHl.1,trivial⟩ ZWW Tryz.func85 1 λ⟨e,_⟩hp=>?_;simp only[fg]at hp;obtain⟨hm,d,hr⟩:=hp;refine wV (λQ=>∀aa,aa=e->∀s,s=Zm aa->hH (aa,())/\fg (s,())/\Q .ret (L2 [pL 2] [(.bE 2,enc .aY (Zd s))])) ?_ λ_ h=>Eq.mpr V4 (h _ (Z0 _) _ (Z0 _));rintro y1 ae y2 ab;subst ae;have h1:=Fq y1;have h2:=Jn _ _ hr;rw[<-ab]at h1 h2;refine⟨by simp only[hH];omega,by simp only[fg];grind,?_⟩;simp only[TC];rw[<-ab];exact V0
noncomputable section
def ZLb:cF Gk:=.cons (fe .bD) (.cons (fe .bD) .nil)
def ZFg(a:Gk):Prop:=gN a.1/\gN a.2.1
def zw(a:Gk):aA U:=.tup [(Y,enc .bD (Jk a.1 a.2.1).1),(I,[.bool (Jk a.1 a.2.1).2])]
def Is:Fs U:=fs ZLb (λa=>[ZFg a]) zw
def ZLc:cF FH:=.cons (fe .bD) .nil
def vT(a:FH):Prop:=True
def ZPG(a:FH):aA U:=.c (ci a.1.S)
def Io:Fs U:=fs ZLc (λa=>[vT a]) ZPG
def ZLa:cF L4:=.cons (fe .cJ) .nil
def uR(a:L4):Prop:=True
def ZPF(a:L4):aA U:=.c (ci a.1.S)
def Y_:Fs U:=fs ZLa (λa=>[uR a]) ZPF
def Zzx:cF Rj:=.cons (fY .bD) (.cons (fY .bD) (.cons (sw 204) (.cons (sw 205) .nil)))
def ZuM(a:Rj):Prop:=((∀x∈a.1,gN x)/\J a.1<=1000000)/\(∀x∈a.2.1,gN x)/\J a.2.1<=1000000
def GC(a:Rj):aA U:=.tup [(I,[sU .bD (kL (Zk aV.S Jk a.1 a.2.1)) .bA]),(I,[.bool (Zk aV.S Jk a.1 a.2.1).isSome])]
def Pd:Fs U:=fs Zzx (λa=>[ZuM a]) GC
def ZLE:cF ZDi:=.cons (fY .bD) (.cons (fY .bD) .nil)
def ZFj(a:ZDi):Prop:=((∀x∈a.1,gN x)/\J a.1<=1000000)/\(∀x∈a.2.1,gN x)/\J a.2.1<=1000000
def ZPQ(a:ZDi):aA U:=.tup [(I,[sU .bD (kL (Zk aV.S Jk a.1 a.2.1)) .bA]),(I,[.bool (Zk aV.S Jk a.1 a.2.1).isSome])]
def SI:Fs U:=fs ZLE (λa=>[ZFj a]) ZPQ
def ZUv:Zb U:=cI [[2,3,4,502,503,504],[6],[6,20],[2,3,5,20,502,503],[]]
abbrev ZXP(p):=AW (Za cQ) Tryz.f204 n8 p
theorem ZTy(w:aV)(Q:QT)(h:Q .ret (L2 [pI 2 w.S] [])):ZXP [] (L2 [(0,.agg (enc .bD w))] []) Q:=Eq.mpr V4 h
abbrev ZXO(p):=AW (Za cQ) Tryz.f207 n8 p
theorem ZTw(k:bP)(Q:QT)(h:Q .ret (L2 [pI 2 k.S] [])):ZXO [] (L2 [(0,.agg (enc .cJ k))] []) Q:=Eq.mpr V4 h
def OF:List (FuncId×Fs U):=[(204,Io),(205,Is)]
def Np:Zb U:=cI [[0,1,2,3],[(10,[.bF .bD])],[10,10,20],[11,12,20,511],[12,33],[0,1,2,3,8,9,10,11,33,511],[0,1,2,3,8,9,(10,[.bF .bD])],[10,10,42],[(10,[.bF .bD]),42],[10,10,72],[(10,[.bF .bD]),72],[0,1,2,3,8,9,10]]
def B2(p q:List aV)(S cE:Unit)(x0 s h:List aV):bT U:=L2 [(0,.c (sU .bD x0 .bA)),(1,.c (sU .bD s .bA)),(2,.fn 204),(3,.fn 205),(10,.c (sU .bD h (.bF (.e 10 0))))] []
abbrev V_(p):=AW (Za OF) Tryz.f203 Np p
abbrev ZVN(p):=SW (Za OF) Tryz.f203 Np p
theorem ZTz(p q)(S cE)(Q:QT)(h:Zi (V_ [1,1,0,0,0]) (B2 p q S cE p q []) (xB 0 (ZVN [1,1,1] Q))):V_ [] (L2 [(0,.c (sU .bD p .bA)),(1,.c (sU .bD q .bA)),(2,.fn 204),(3,.fn 205)] []) Q:=Eq.mpr V4 h
theorem ZBU(p q)(S cE)(x0 x1 ab:List aV)(N0:NT)(Q:QT)(h:∀ai,ai=List.getD x0 (Int.toNat 0) (aV.mk 0 0 0 0)->∀ah,ah=List.getD x1 (Int.toNat 0) (aV.mk 0 0 0 0)->∀s,s=ai->∀aa,aa=ah->∀af,af=(Jk s aa).1->let z3:=(( J x1:Int))==0;let z2:=decide (0<( J x0:Int));let z1:=(( J x0:Int))==0;let z0:=!z3&&z2;Tk 2 (!z2) ((z2=I->(!z2)=Y)/\iB (bif z2 then Y else decide (0<( J x1:Int))) (Tk 3 (!z3) ( Tt z0/\(z0=Y->(0:Int)<=0/\0<( J x0:Int))/\Tk 3 z0 ((z0=Y->vT (s,()))/\Tt z0/\(z0=Y->(0:Int)<=0/\0<( J x1:Int))/\Tk 3 z0 ((z0=Y->vT (aa,()))/\Tk 2 z0 (((!z3)=Y->True->(!z3)=Y)/\((!z3)=Y->z2=Y->z0=Y)/\(z3=I->(!z3)=Y)/\iB (bif z3 then Y else bif z2 then decide (s.S<aa.S)else I) (((0:Int)<=0/\0<( J x0:Int))/\( J ab+J [s])*32<=140737488355328/\((0:Int)<=1/\1<=( J x0:Int))/\N0 (B2 p q S cE (List.drop (Int.toNat 1) x0) x1 (ab++[s]))) ( Tt !z1/\((!z1)=Y->(0:Int)<=0/\0<( J x1:Int))/\Tk 3 (!z1) (((!z1)=Y->vT (aa,()))/\Tt !z1/\((!z1)=Y->(0:Int)<=0/\0<( J x0:Int))/\Tk 3 (!z1) (((!z1)=Y->vT (s,()))/\Tk 2 (!z1) ((z1=I->(!z1)=Y)/\iB (bif z1 then Y else decide (aa.S<s.S)) (((0:Int)<=0/\0<( J x1:Int))/\( J ab+J [aa])*32<=140737488355328/\((0:Int)<=1/\1<=( J x1:Int))/\N0 (B2 p q S cE x0 (List.drop (Int.toNat 1) x1) (ab++[aa]))) (((0:Int)<=0/\0<( J x0:Int))/\((0:Int)<=0/\0<( J x1:Int))/\ZFg (s,aa,())/\iB (!(Jk s aa).2) (Q .ret (L2 [(8,.c .nils),pB 9 I] [])) ( ( J ab+J [af])*32<=140737488355328/\((0:Int)<=1/\1<=( J x0:Int))/\((0:Int)<=1/\1<=( J x1:Int))/\N0 (B2 p q S cE (List.drop (Int.toNat 1) x0) (List.drop (Int.toNat 1) x1) (ab++[af]))))))))))))) (Q .ret (L2 [(8,.c (sU .bD ab (.bF (.e 8 0)))),pB 9 Y] [])))):V_ [1,1,0,0,0] (B2 p q S cE x0 x1 ab) (xT N0 (xB 0 (ZVN [1,1,1] Q))):=Eq.mpr V4 (h _ rfl _ rfl _ (JB _) _ (JB _) _ (JB _))
def ZMU(p q:List aV)(S cE:Unit):Prop:=AW (Za OF) Tryz.f203 Np [] (Y5 (Zzx.cK (p,q,S,cE,())) []) (EQ Tryz.f203 (GC (p,q,S,cE,())) [])
theorem ZJe(T5:CT 204 Io)(Vc:CT 205 Is)(h:∀(p:List aV)(q:List aV)S(cE:Unit)(_:Unit),ZuM (p,q,S,cE,())->ZMU p q S cE):CT 203 Pd:=Zcj (l:=[(204,Io),(205,Is)]) ZN rfl ⟨T5,Vc,trivial⟩ Np Tryz.func203 rfl rfl 4 (λ_=>rfl) V1 λ⟨p,q,S,cE,_⟩=>h p q S cE ()
def Zz4:List (FuncId×Fs U):=[(203,Pd)]
abbrev ZXS(p):=AW (Za Zz4) Tryz.f164 C5 p
theorem ZTE(p q)(Q:QT)(h:ZuM (p,q,(),(),())/\Q .ret (L2 [(4,.c (sU .bD (kL (Zk aV.S Jk p q)) .bA)),pB 5 (Zk aV.S Jk p q).isSome] [])):ZXS [] (L2 [(0,.c (sU .bD p .bA)),(1,.c (sU .bD q .bA))] []) Q:=Eq.mpr V4 h
end
noncomputable section
def jI(a:YC):Prop:=ZR a.1/\ZR a.2.1
def kE(a:YC):Nat:=8*(Z1 a.1+Z1 a.2.1)
def zR(a:YC):aA U:=.tup [(Y,enc .aY (Jc a.1 a.2.1).1),(I,[.bool (Jc a.1 a.2.1).2])]
def Gu:Fs U:=fs gM (λa=>[jI a]) zR
def L5:cF HG:=.cons (fY .cJ) (.cons (fY .cJ) .nil)
def EA(a:HG):Prop:=qj a.1/\qj a.2.1
def Hs(a:HG):Nat:=8*(ZM a.1+ZM a.2.1)+4
def Lu(a:HG):aA U:=.tup [(I,[sU .cJ (kL (Zk aW.S (fV Jc) a.1 a.2.1)) .bA]),(I,[.bool (Zk aW.S (fV Jc) a.1 a.2.1).isSome])]
def Zxv:Fs U:=fs L5 (λa=>[EA a]) Lu
def IG:cF L6:=.cons (fY .cJ) (.cons (fY .cJ) (.cons (sw 207) (.cons (sw 208) .nil)))
def Co(a:L6):Prop:=qj a.1/\qj a.2.1
def H6(a:L6):Nat:=8*(ZM a.1+ZM a.2.1)+3
def A3(a:L6):aA U:=.tup [(I,[sU .cJ (kL (Zk aW.S (fV Jc) a.1 a.2.1)) .bA]),(I,[.bool (Zk aW.S (fV Jc) a.1 a.2.1).isSome])]
def Zxd:Fs U:=fs IG (λa=>[Co a]) A3
def Nf:cF LK:=.cons (fe .cJ) (.cons (fe .cJ) .nil)
def Db(a:LK):Prop:=ZGP a.1/\ZGP a.2.1
def LD(a:LK):Nat:=8*(JS a.1+JS a.2.1)+1
def Em(a:LK):aA U:=.tup [(Y,enc .cJ (fV Jc a.1 a.2.1).1),(I,[.bool (fV Jc a.1 a.2.1).2])]
def Zxc:Fs U:=fs Nf (λa=>[Db a]) Em
def CP(a:xU):Prop:=uX a.1/\uX a.2.1
def Nc(a:xU):Nat:=8*(Zq a.1+Zq a.2.1)+40
def yQ(a:xU):aA U:=.tup [(I,[sU .op (kL (je Jc a.1 a.2.1)) .bA]),(I,[.bool (je Jc a.1 a.2.1).isSome])]
def Zxu:Fs U:=fs Af (λa=>[CP a]) yQ
def Hn:cF Mm:=.cons (fe .dO) .nil
def Dm(a:Mm):Prop:=yf a.1
def N_(a:Mm):Nat:=8*(Zy a.1.p+Zy a.1.q)+1
def BJ(a:Mm):aA U:=.tup [(Y,enc .op (Zw Jc a.1).op),(I,[.bool (Zw Jc a.1).is]),(I,[.bool (Zw Jc a.1).ok])]
def Zxb:Fs U:=fs Hn (λa=>[Dm a]) BJ
def ld(N:Nat):List (FuncId×Fs U):=(111,fs gM (λa=>[jI a,kE a<N]) zR)::(165,fs L5 (λa=>[EA a,Hs a<N]) Lu)::(206,fs IG (λa=>[Co a,H6 a<N]) A3)::(208,fs Nf (λa=>[Db a,LD a<N]) Em)::(166,fs Af (λa=>[CP a,Nc a<N]) yQ)::(210,fs Hn (λa=>[Dm a,N_ a<N]) BJ)::[(25,Be),(85,sR),(114,l4),(164,SI),(207,Y_),(209,Tc)]
def ZOp:Zb U:=cI [[2,3,4,502,503,504],[15],[2,3,5,15,502,503],[2,3,5,20,502,503],[2,3,5,20,502,503],[2,3,5,25,502,503],[3,6,7,25,503,506],[2,5,6,7,502,506],[2,3,5,41,502,503],[2,8,9,41,502,508],[3,5,8,9,503,508],[2,3,5,58,502,503],[2,3,5,58,502,503],[2,3,5,72,502,503],[10,11,72],[11,85],[2,3,5,10,85,502,503],[5,10,11,12],[5,10,11,12],[2,5,13,14,502],[2,5,13,14,502]]
def ZNe(N:Nat)(p q:W):Prop:=AW (Za (ld N)) Tryz.f111 ZOp [] (Y5 (gM.cK (p,q,())) []) (EQ Tryz.f111 (zR (p,q,())) [])
abbrev ZP7:Prop:=∀N(p:W)q(_:Unit),jI (p,q,())->kE (p,q,())<N+1->ZNe N p q
def ZN2(N:Nat)(p q:List bP):Prop:=AW (Za (ld N)) Tryz.f165 C5 [] (Y5 (L5.cK (p,q,())) []) (EQ Tryz.f165 (Lu (p,q,())) [])
abbrev ZOX:Prop:=∀N(p:List bP)(q:List bP)(_:Unit),EA (p,q,())->Hs (p,q,())<N+1->ZN2 N p q
def Fo:Zb U:=cI [[0,1,2,3],[(10,[.bF .cJ])],[10,10,20],[11,12,20,511],[12,33],[0,1,2,3,8,9,10,11,33,511],[0,1,2,3,8,9,(10,[.bF .cJ])],[10,10,42],[(10,[.bF .cJ]),42],[10,10,72],[(10,[.bF .cJ]),72],[0,1,2,3,8,9,10]]
def zC(p q:List bP)(S cE:Unit)(x0 s h:List bP):bT U:=L2 [(0,.c (sU .cJ x0 .bA)),(1,.c (sU .cJ s .bA)),(2,.fn 207),(3,.fn 208),(10,.c (sU .cJ h (.bF (.e 10 0))))] []
abbrev UH(N)(p):=AW (Za (ld N)) Tryz.f206 Fo p
abbrev ZVM(N)(p):=SW (Za (ld N)) Tryz.f206 Fo p
theorem ZTx(N)(p q)(S cE)(Q:QT)(h:Zi (UH N [1,1,0,0,0]) (zC p q S cE p q []) (xB 0 (ZVM N [1,1,1] Q))):UH N [] (L2 [(0,.c (sU .cJ p .bA)),(1,.c (sU .cJ q .bA)),(2,.fn 207),(3,.fn 208)] []) Q:=Eq.mpr V4 h
theorem ZBT(N)(p q)(S cE)(x0 x1 ab:List bP)(N0:NT)(Q:QT)(h:∀ai,ai=List.getD x0 (Int.toNat 0) (aW.mk 0 W.nil)->∀ah,ah=List.getD x1 (Int.toNat 0) (aW.mk 0 W.nil)->∀s,s=ai->∀aa,aa=ah->∀af,af=(fV Jc s aa).1->let z3:=(( J x1:Int))==0;let z2:=decide (0<( J x0:Int));let z1:=(( J x0:Int))==0;let z0:=!z3&&z2;Tk 2 (!z2) ((z2=I->(!z2)=Y)/\iB (bif z2 then Y else decide (0<( J x1:Int))) (Tk 3 (!z3) ( Tt z0/\(z0=Y->(0:Int)<=0/\0<( J x0:Int))/\Tk 3 z0 ((z0=Y->uR (s,()))/\Tt z0/\(z0=Y->(0:Int)<=0/\0<( J x1:Int))/\Tk 3 z0 ((z0=Y->uR (aa,()))/\Tk 2 z0 (((!z3)=Y->True->(!z3)=Y)/\((!z3)=Y->z2=Y->z0=Y)/\(z3=I->(!z3)=Y)/\iB (bif z3 then Y else bif z2 then decide (s.S<aa.S)else I) (((0:Int)<=0/\0<( J x0:Int))/\( J ab+J [s])*208<=140737488355328/\((0:Int)<=1/\1<=( J x0:Int))/\N0 (zC p q S cE (List.drop (Int.toNat 1) x0) x1 (ab++[s]))) ( Tt !z1/\((!z1)=Y->(0:Int)<=0/\0<( J x1:Int))/\Tk 3 (!z1) (((!z1)=Y->uR (aa,()))/\Tt !z1/\((!z1)=Y->(0:Int)<=0/\0<( J x0:Int))/\Tk 3 (!z1) (((!z1)=Y->uR (s,()))/\Tk 2 (!z1) ((z1=I->(!z1)=Y)/\iB (bif z1 then Y else decide (aa.S<s.S)) (((0:Int)<=0/\0<( J x1:Int))/\( J ab+J [aa])*208<=140737488355328/\((0:Int)<=1/\1<=( J x1:Int))/\N0 (zC p q S cE x0 (List.drop (Int.toNat 1) x1) (ab++[aa]))) (((0:Int)<=0/\0<( J x0:Int))/\((0:Int)<=0/\0<( J x1:Int))/\Db (s,aa,())/\LD (s,aa,())<N/\iB (!(fV Jc s aa).2) (Q .ret (L2 [(8,.c .nils),pB 9 I] [])) ( ( J ab+J [af])*208<=140737488355328/\((0:Int)<=1/\1<=( J x0:Int))/\((0:Int)<=1/\1<=( J x1:Int))/\N0 (zC p q S cE (List.drop (Int.toNat 1) x0) (List.drop (Int.toNat 1) x1) (ab++[af]))))))))))))) (Q .ret (L2 [(8,.c (sU .cJ ab (.bF (.e 8 0)))),pB 9 Y] [])))):UH N [1,1,0,0,0] (zC p q S cE x0 x1 ab) (xT N0 (xB 0 (ZVM N [1,1,1] Q))):=Eq.mpr V4 (h _ rfl _ rfl _ (EU _) _ (EU _) _ (EU _))
def ZMT(N:Nat)(p q:List bP)(S cE:Unit):Prop:=AW (Za (ld N)) Tryz.f206 Fo [] (Y5 (IG.cK (p,q,S,cE,())) []) (EQ Tryz.f206 (A3 (p,q,S,cE,())) [])
abbrev ZOP:Prop:=∀N(p:List bP)(q:List bP)S(cE:Unit)(_:Unit),Co (p,q,S,cE,())->H6 (p,q,S,cE,())<N+1->ZMT N p q S cE
def ZO6:Zb U:=cI [[2,3,4,502,503,504],[3,6,7,503,506],[2,5,6,7,502,506]]
def ZMS(N:Nat)(a b:bP):Prop:=AW (Za (ld N)) Tryz.f208 ZO6 [] (Y5 (Nf.cK (a,b,())) []) (EQ Tryz.f208 (Em (a,b,())) [])
abbrev ZOO:Prop:=∀N(a:bP)b(_:Unit),Db (a,b,())->LD (a,b,())<N+1->ZMS N a b
def FR:Zb U:=cI [[0,1],[0,1,6,7],[7,21],[4,5,6,21],[4,5,6,8],[6,(8,[.bF .op]),22,23,24],[8,8,25],[10,25,510],[10,11,12,13,510,511],[13,35],[4,5,8,11,12,22,23,24,35,511],[4,5,8,11,22,23,24,36,511],[11,36,511],[(8,[.bF .op])],[4,5,8,22,23,24]]
def DK(p q:List Op)(h:Int)(s:List Op):bT U:=L2 [(8,.c (sU .op s (.bF (.e 8 0)))),(22,.c (sU .dO (ZC 1 2 p q []).1 .bA)),pI 23 (J (ZC 1 2 p q []).1),pI 24 h] []
abbrev ZWo(N)(p):=AW (Za (ld N)) Tryz.f166 FR p
abbrev ZVU(N)(p):=SW (Za (ld N)) Tryz.f166 FR p
theorem ZCn(N)(p q)(s)(x8)(N0:NT)(Q:QT)(h:∀ae,ae=List.getD (ZC 1 2 p q []).1 (G s) (cm.mk 0 Op.nil Op.nil)->∀aa,aa=ae->∀ab,ab=(Zw Jc aa).op->iB (decide (s<(J (ZC 1 2 p q []).1))) ((0<=s/\s<(J (ZC 1 2 p q []).1))/\Dm (aa,())/\N_ (aa,())<N/\iB (!(Zw Jc aa).ok) (Q .ret (L2 [(4,.c .nils),pB 5 I] [])) (iB (Zw Jc aa).is ( ( J x8+J [ab])*240<=140737488355328/\bQ (s+1)/\N0 (DK p q (s+1) (x8++[ab]))) ( bQ (s+1)/\N0 (DK p q (s+1) x8)))) (Q .ret (L2 [(4,.c (sU .op x8 (.bF (.e 4 0)))),pB 5 Y] []))):ZWo N [1,1,1,1,0,1,0,0] (DK p q s x8) (xT N0 (xB 0 (ZVU N [1,1,1,1,1] Q))):=Eq.mpr V4 (h _ rfl _ (ZuE _) _ (Yp _))
def ZN1(N:Nat)(p q:List Op):Prop:=AW (Za (ld N)) Tryz.f166 FR [] (Y5 (Af.cK (p,q,())) []) (EQ Tryz.f166 (yQ (p,q,())) [])
abbrev ZOW:Prop:=∀N(p:List Op)(q:List Op)(_:Unit),CP (p,q,())->Nc (p,q,())<N+1->ZN1 N p q
def FU:Zb U:=cI [[1,2,501,502],[13],[1,3,4,13,501],[1,3,4,30,501],[1,3,4,30,501],[1,3,4,42,501],[42,55,56,57],[58],[5,6,58,506],[5,6,70,506],[1,3,4,55,56,57,70,501],[1,3,4,55,56,57,501],[1,3,4,55,56,57,501],[1,3,4,74,501],[1,7,8,74,501,507],[3,4,7,8,507],[1,3,4,95,501],[1,9,10,95,501,509],[3,4,9,10,509],[3,4,11,12,511],[3,4,11,12,511]]
def IC(x:cm)(h:Int):bT U:=L2 [pL 1,pL 2,(55,.c (sU .aX x.p.l .bA)),pI 56 (J x.p.l),pI 57 h] [(.bE 1,enc .dO x),(.bE 2,Sa)]
abbrev ZWg(N)(p):=AW (Za (ld N)) Tryz.f210 FU p
abbrev GS(N)(p):=SW (Za (ld N)) Tryz.f210 FU p
theorem ZBS(N)(x)(s)(N0:NT)(Q:QT)(h:∀af,af=aR x.p.l (G s) H.nil->∀ae,ae=aR x.q.l (G s) H.nil->∀aa,aa=af->∀ab,ab=ae->iB (decide (s<(J x.p.l))) ((0<=s/\s<(J x.p.l))/\(0<=s/\s<(J x.q.l))/\kM (aa,ab,())/\iB (! ZW (Z2 aa) (Z2 ab)) (Q .ret (L2 [pL 2,pB 3 I,pB 4 I] [(.bE 2,Sa)])) ( bQ (s+1)/\N0 (IC x (s+1)))) (Q .ret (L2 [pL 2,pB 3 I,pB 4 Y] [(.bE 2,Sa)]))):ZWg N [1,0,0,1,1,1,1,1,0,0,1,0,0] (IC x s) (xT N0 (xB 1 (GS N [1,0,0,1,1,1,1,1,0,1] (xB 0 (GS N [1,1] Q))))):=Eq.mpr V4 (h _ rfl _ rfl _ (Z7 _) _ (Z7 _))
def ZMR(N:Nat)(x:cm):Prop:=AW (Za (ld N)) Tryz.f210 FU [] (Y5 (Hn.cK (x,())) []) (EQ Tryz.f210 (BJ (x,())) [])
abbrev ZON:Prop:=∀N(x:cm)(_:Unit),Dm (x,())->N_ (x,())<N+1->ZMR N x
theorem ZFT(Ay:CT 25 Be)(Eg:CT 85 sR)(qE:CT 114 l4)(Q_:CT 164 SI)(PE:CT 207 Y_)(T6:CT 209 Tc)(Tj:ZP7)(Ve:ZOX)(Wy:ZOP)(RG:ZOO)(UQ:ZOW)(Vs:ZON):CT 111 Gu/\CT 165 Zxv/\CT 206 Zxd/\CT 208 Zxc/\CT 166 Zxu/\CT 210 Zxb:=by
 have ah:FK 111:=⟨Tryz.f111,Tryz.func111,rfl,rfl⟩;have aj:FK 165:=⟨Tryz.f165,Tryz.func165,rfl,rfl⟩;have ae:FK 206:=⟨Tryz.f206,Tryz.func206,rfl,rfl⟩;have aa:FK 208:=⟨Tryz.f208,Tryz.func208,rfl,rfl⟩;have ai:FK 166:=⟨Tryz.f166,Tryz.func166,rfl,rfl⟩;have ab:FK 210:=⟨Tryz.f210,Tryz.func210,rfl,rfl⟩;have s:∀N,CT 111 (fs gM (λa=>[jI a,kE a<N]) zR)/\CT 165 (fs L5 (λa=>[EA a,Hs a<N]) Lu)/\CT 206 (fs IG (λa=>[Co a,H6 a<N]) A3)/\CT 208 (fs Nf (λa=>[Db a,LD a<N]) Em)/\CT 166 (fs Af (λa=>[CP a,Nc a<N]) yQ)/\CT 210 (fs Hn (λa=>[Dm a,N_ a<N]) BJ):=by intro N;induction N with|zero=>exact⟨YU ah,YU aj,YU ae,YU aa,YU ai,YU ab⟩|succ N ih=>have kn:=mD (l:=ld N) ⟨ih.1,ih.2.1,ih.2.2.1,ih.2.2.2.1,ih.2.2.2.2.1,ih.2.2.2.2.2,Ay,Eg,qE,Q_,PE,T6,trivial⟩;exact⟨Zt (Γ:=Za (ld N)) ZN rfl kn ZOp Tryz.func111 rfl rfl λa=>by show 2<=_;decide λ⟨p,q,_⟩h=>Tj N p q () h.1 h.2.1,Zt (Γ:=Za (ld N)) ZN rfl kn C5 Tryz.func165 rfl rfl λa=>by show 2<=_;decide λ⟨p,q,_⟩h=>Ve N p q () h.1 h.2.1,Zt (Γ:=Za (ld N)) ZN rfl kn Fo Tryz.func206 rfl rfl λa=>by show 4<=_;decide λ⟨p,q,S,cE,_⟩h=>Wy N p q S cE () h.1 h.2.1,Zt (Γ:=Za (ld N)) ZN rfl kn ZO6 Tryz.func208 rfl rfl λa=>by show 2<=_;decide λ⟨a,b,_⟩h=>RG N a b () h.1 h.2.1,Zt (Γ:=Za (ld N)) ZN rfl kn FR Tryz.func166 rfl rfl λa=>by show 2<=_;decide λ⟨p,q,_⟩h=>UQ N p q () h.1 h.2.1,Zt (Γ:=Za (ld N)) ZN rfl kn FU Tryz.func210 rfl rfl λa=>by show 1<=_;decide λ⟨x,_⟩h=>Vs N x () h.1 h.2.1⟩
 exact⟨YV ah λN=>(s N).1,YV aj λN=>(s N).2.1,YV ae λN=>(s N).2.2.1,YV aa λN=>(s N).2.2.2.1,YV ai λN=>(s N).2.2.2.2.1,YV ab λN=>(s N).2.2.2.2.2⟩
end
theorem Y8{n rs r r' aC e s}(hr:r=r')(h:ZB M n rs r' aC e s):ZB M n rs r aC e s:=by grind
theorem Vc:aU Tryz.prog M 205 Is:=by
 refine kF (l:=vn) ⟨yq,trivial⟩ ZUv Tryz.func205 2 λ⟨p,q,_⟩hp=>?_;obtain⟨rp,rq⟩:=hp;dsimp only at rp rq;have aD:=(sV rp.2.1 rq.2.1).1;refine wV (λQ=>let z1:=IntKind.bits .u8;let s:=IntKind.wrap .u8 (BitVec.ofInt z1 p.a_&&&BitVec.ofInt z1 q.a_).toNat;iK (0,p.new,s,())/\iK (0,q.bH,s,())/\iB (( cS 0 p.new s:Int)!=cS 0 q.bH s) (Q .ret (L2 [pL 4,pB 5 I] [(.bE 4,[ci 0,.int .u8 0,.int .u64 0,.int .u64 0])])) ( iK (q.bH,p.bH,p.a_,())/\iK (p.new,q.new,q.a_,())/\Q .ret (L2 [pL 4,pB 5 Y] [(.bE 4,[ci p.S,.int .u8 (IntKind.wrap .u8 (BitVec.ofInt z1 p.a_|||BitVec.ofInt z1 q.a_).toNat),.int .u64 (cS q.bH p.bH p.a_),.int .u64 (cS p.new q.new q.a_)])]))) ?_ λ_ h=>Eq.mpr V4 h;(simp only[iB,bR,bW]);have s:(0:Int)<=0/\(0:Int)<18446744073709551616:=V1;refine⟨⟨s,rp.2.2.2,aD⟩,⟨s,rq.2.2.1,aD⟩,λh=>?_,λh=>⟨⟨rq.2.2.1,rp.2.2.1,rp.2.1⟩,⟨rp.2.2.2,rq.2.2.2,rq.2.1⟩,?_⟩⟩;.have hn:sF p q=I:=Xe h;refine Y8 (r':=.tup [(Y,enc .bD (⟨0,0,0,0⟩:aV)),(I,[.bool I])]) ?_ V0;simp only[zw,Jk];rw[hn];try rfl
 .have hn:sF p q=Y:=QD h;refine Y8 (r':=.tup [(Y,enc .bD (⟨p.S,lh p.a_ q.a_,cS q.bH p.bH p.a_,cS p.new q.new q.a_⟩:aV)),(I,[.bool Y])]) ?_ V0;simp only[zw,Jk];rw[hn];try rfl
theorem T5:aU Tryz.prog M 204 Io:=by refine kF (l:=cQ) trivial n8 Tryz.func204 1 λ⟨w,_⟩_=>?_;exact ZTy _ _ (YO rfl rfl)
theorem PE:aU Tryz.prog M 207 Y_:=by refine kF (l:=cQ) trivial n8 Tryz.func207 1 λ⟨w,_⟩_=>?_;exact ZTw _ _ (YO rfl rfl)
theorem ZkM{α S cE}{p q:List α}(h:Zk S cE p q=aT):(Zk S cE p q).isSome=I/\kL (Zk S cE p q)=[]:=by rw[h];trivial
structure fM{α:Type}(S:α->Int)(cE:α->α->α×Bool)(p q x0 x1 bB:List α):Prop where eq:Zk S cE p q=(Zk S cE x0 x1).map (bB++·)len:bB.length+x0.length+x1.length<=p.length+q.length
theorem fM.left{α S cE p q s bB a}{x0:List α}(h:fM S cE p q (a::x0) s bB)(hb:∀b∈s.head?,S a<S b):fM S cE p q x0 s (bB++[a]):=by
 refine⟨?_,by have:=h.len;grind⟩;rw[h.eq];cases s with
 |nil=>
  rw[Zk];have:Zk S cE x0 []=A x0:=by cases x0<;>rw[Zk]
  grind|cons b r=>rw[Zk,Q5 (hb b (by simp))];cases Zk S cE x0 (b::r)<;>simp
theorem fM.right{α S cE p q x0 bB b}{s:List α}(h:fM S cE p q x0 (b::s) bB)(hb:∀a∈x0.head?,S b<S a):fM S cE p q x0 s (bB++[b]):=by refine⟨?_,by have:=h.len;grind⟩;rw[h.eq];cases x0 with|nil=>rw[Zk,Zk];simp|cons a r=>have:=hb a (by simp);rw[Zk,Q0 O,Q5 this];cases Zk S cE (a::r) s<;>simp
theorem fM.dF{α S cE p q x0 s bB}{a b:α}(h:fM S cE p q (a::x0) (b::s) bB)(e:S a=S b):((cE a b).2=Y->fM S cE p q x0 s (bB++[(cE a b).1]))/\((cE a b).2=I->Zk S cE p q=aT):=by
 refine⟨λL=>⟨?_,by have:=h.len;grind⟩,λL=>?_⟩;.rw[h.eq,Zk,Q0 O,Q0 O,Q5 L];cases Zk S cE x0 s<;>simp
 .rw[h.eq,Zk,Q0 O,Q0 O,Q0 (by grind)];try rfl
theorem fM.done{α S cE}{p q bB:List α}(h:fM S cE p q [] [] bB):Zk S cE p q=A bB:=by rw[h.eq,Zk];simp
theorem fM.vq{α S cE p q x0 x1 bB}(z:α)(h:fM S cE p q x0 x1 bB)(hx:0<J x0)(hb:J x1=0\/S (aR x0 0 z)<S (aR x1 0 z)):fM S cE p q (x0.drop 1) x1 (bB++[aR x0 0 z]):=by cases x0 with|nil=>simp at hx|cons a r=>refine h.left λb ab=>?_;cases x1 with|nil=>simp at ab|cons c s=>grind
theorem fM.jX{α S cE p q x0 x1 bB}(z:α)(h:fM S cE p q x0 x1 bB)(hx:0<J x1)(hb:J x0=0\/S (aR x1 0 z)<S (aR x0 0 z)):fM S cE p q x0 (x1.drop 1) (bB++[aR x1 0 z]):=by cases x1 with|nil=>simp at hx|cons a r=>refine h.right λb ab=>?_;cases x0 with|nil=>simp at ab|cons c s=>grind
theorem fM.ve{α S cE p q x0 x1 bB}(z:α)(h:fM S cE p q x0 x1 bB)(h0:0<J x0)(h1:0<J x1)(e:S (aR x0 0 z)=S (aR x1 0 z)):((cE (aR x0 0 z) (aR x1 0 z)).2=Y->fM S cE p q (x0.drop 1) (x1.drop 1) (bB++[(cE (aR x0 0 z) (aR x1 0 z)).1]))/\((cE (aR x0 0 z) (aR x1 0 z)).2=I->Zk S cE p q=aT):=by cases x0 with|nil=>simp at h0|cons a r=>cases x1 with|nil=>simp at h1|cons b s=>exact h.dF e
theorem ZXr:aU Tryz.prog M 203 Pd:=by
 refine ZJe T5 Vc ?_;rintro p q⟨⟩⟨⟩_ hp;obtain⟨⟨rp,lp⟩,rq,lq⟩:=hp;dsimp only at rp lp rq lq;refine ZTz p q () () _ ?_;refine Z5 (ι:=List aV×List aV×List aV) (λx=>B2 p q () () x.1 x.2.1 x.2.2) (λx=>fM aV.S Jk p q x.1 x.2.1 x.2.2/\(∀w∈x.1,gN w)/\∀w∈x.2.1,gN w) (λx=>J x.1+J x.2.1) (p,q,[]) rfl ⟨⟨by simp_all,by simp⟩,rp,rq⟩ ?_;rintro⟨x0,x1,s⟩⟨cN,r0,r1⟩;dsimp only at cN r0 r1;have al:=cN.len;refine ZBU p q () () _ _ _ _ _ ?_;intro y1 h1 y2 h2 y3 h3 y4 h4 y5 h5;subst h3 h4;(simp only[iB,bR,bW]);have h3:y3=aR x0 0 ⟨0,0,0,0⟩:=h1;have h4:y4=aR x1 0 ⟨0,0,0,0⟩:=h2;have d0:∀w∈x0.drop 1,gN w:=λw hw=>r0 w (Xb hw);have d1:∀w∈x1.drop 1,gN w:=λw hw=>r1 w (Xb hw);refine⟨λav=>⟨λh=>⟨O,O⟩,λ_=>trivial,λh=>⟨O,O⟩,λ_=>trivial,λg1 g2=>⟨g1,g2⟩,λhA=>?_,λhB=>?_⟩,λhE=>?_⟩;.refine⟨⟨O,O⟩,by grind,⟨O,O⟩,(x0.drop 1,x1,s++[y3]),rfl,⟨?_,d0,r1⟩,by grind⟩;rw[h3];exact cN.vq _ O (by grind)
 .refine⟨λh=>⟨O,O⟩,λ_=>trivial,λh=>⟨O,O⟩,λ_=>trivial,λhC=>?_,λhD=>?_⟩;.refine⟨⟨O,O⟩,by grind,⟨O,O⟩,(x0,x1.drop 1,s++[y4]),rfl,⟨?_,r0,d1⟩,by grind⟩;rw[h4];exact cN.jX _ O (by grind)
  .have hb:=cN.ve ⟨0,0,0,0⟩ O O (by grind);rw[<-h3,<-h4]at hb;have m3:gN y3:=by rw[h3];exact r0 _ (Zh O _)
   have m4:gN y4:=by rw[h4];exact r1 _ (Zh O _)
   refine⟨⟨O,O⟩,⟨O,O⟩,⟨m3,m4⟩,λL=>?_,λL=>?_⟩;.have e:=ZkM (hb.2 L);refine Y8 (r':=.tup [(I,[.slice (U:=U) .bD [] .bA]),(I,[.bool I])]) ?_ V0;simp only[GC];rw[e.1,e.2]
   .refine⟨by grind,⟨O,O⟩,⟨O,O⟩,(x0.drop 1,x1.drop 1,s++[y5]),rfl,⟨?_,d0,d1⟩,by grind⟩;grind
 .have e0:x0=[]:=Q7 O;have e1:x1=[]:=Q7 O;subst e0 e1;have e:=cN.done;refine Y8 (r':=.tup [(I,[.slice (U:=U) .bD s .bA]),(I,[.bool Y])]) ?_ V0;simp only[GC];rw[e];try rfl
theorem Q_:aU Tryz.prog M 164 SI:=by refine kF (l:=Zz4) ⟨ZXr,trivial⟩ C5 Tryz.func164 2 λ⟨p,q,_⟩h=>?_;exact ZTE _ _ _ ⟨h,V0⟩
