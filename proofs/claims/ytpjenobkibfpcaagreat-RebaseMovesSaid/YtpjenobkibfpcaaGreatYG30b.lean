import Derived.Test.YtpjenobkibfpcaaGreatZCB30b
import Derived.Test.YtpjenobkibfpcaaGreatZCL30k
import Derived.Test.YtpjenobkibfpcaaGreatZKG22a
import Derived.Test.YtpjenobkibfpcaaGreatZKG21b
import Derived.Test.YtpjenobkibfpcaaGreatZCD30b
import Derived.Test.YtpjenobkibfpcaaGreatZCL25i
import Derived.Test.YtpjenobkibfpcaaGreatZCB30a
set_option linter.unusedSimpArgs false
set_option linter.unusedVariables false
namespace Go.AM.YtpjenobkibfpcaaGreat
open Go.AM Go.Proofs
theorem Zpg(m:Int):0<=Z7P m/\Z7P m < 256:=by
 unfold Z7P
 have h:=(BitVec.ofInt (IntKind.bits .u8) 255 ^^^ BitVec.ofInt (IntKind.bits .u8) m).isLt
 have e:(2:Nat) ^ IntKind.bits .u8=256:=rfl
 rw [Z3m YS YS]
 omega
theorem b66:ZIq:=by
 intro N mc ma p q _ hp hN
 obtain ⟨op,oq⟩:=hp
 dsimp only at op oq
 have hN':8*(Z3 p+Z3 q)+1 < N+1:=hN
 obtain ⟨dp,rp⟩:=op.2.2
 obtain ⟨dq,rq⟩:=oq.2.2
 have hst:=ZlK rp rq
 unfold YD at hst
 have lp:=Zhf p
 have lq:=Zhf q
 have gp:=ZR op.2.1
 have gq:=ZR oq.2.1
 have cp:=JO p;have cq:=JO q;have cp':=op.1;have cq':=oq.1
 have fin:∀ {L:Lft} {s:LSt U},lbE p q=L->Y3 cfg Tryz.f66.ntmps Tryz.f66.results.toList (.tup [(true,enc .edit L.x),(true,enc .edit L.y)]) [[.bool (mc || L.c),.bool (ma || L.a)]] .ret s->
   Y3 cfg Tryz.f66.ntmps Tryz.f66.results.toList (ZkP ((mc,ma,()),p,q,())) (ZeH ((mc,ma,()),p,q,())) .ret s:=by
  intro L s h hs
  subst h
  exact hs
 have wh:∀ {e:Edit} {o n:Tree},J2 e->Zm o<=10000000000->rng o->Zm n<=10000000000->ZaZ ((mc,ma,()),e,o,n,()):=by
  intro e o n he ho hr hn
  have:=Ju he
  have:=he.1
  exact ⟨⟨V2,he.2⟩,⟨V2,hr⟩,V2⟩
 refine ZIH N mc ma p q _ ?_
 intro y1 h1 y2 h2 y3 h3 y4 h4 y5 h5 y6 h6
 replace h1:=h1.symm;replace h2:=h2.symm;replace h3:=h3.symm;replace h4:=h4.symm;replace h5:=h5.symm;replace h6:=h6.symm
 subst h1 h2 h3 h4 h5 h6
 (simp only [iB,vcT,vcS])
 refine ⟨fun h0=> ?_,fun h0=> ?_⟩
 .exact fin (by rw [hst,if_pos h0]) (by simp only [QB];(repeat' (first | exact trivial | exact rfl | apply And.intro)))
 rw [if_neg (by rintro (h | h);exact h0.1 h;exact h0.2 h)] at hst
 refine ⟨fun p1=> ?_,fun p1=> ?_⟩
 .rw [if_pos p1] at hst
  exact ⟨wh oq YS gp.1 YS,trivial,fin hst JP⟩
 rw [if_neg p1] at hst
 refine ⟨fun q1=> ?_,fun q1=> ?_⟩
 .rw [if_pos q1] at hst
  exact ⟨wh op YS gq.1 YS,trivial,fin hst JP⟩
 rw [if_neg q1] at hst
 refine ⟨fun hd=> ?_,fun hd=> ?_⟩
 .rw [V0] at hst
  exact ⟨trivial,fin hst (by simp only [QB,Xk];(repeat' (first | exact trivial | exact rfl | apply And.intro)))⟩
 rw [JL] at hst
 refine ⟨fun p2=> ?_,fun p2=> ?_⟩
 .rw [if_pos p2] at hst
  exact ⟨⟨op,oq,V2,V2⟩,by show 8*(Z3 p+Z3 q) < N;omega,fin hst JP⟩
 .rw [if_neg p2] at hst
  have kp:=(Zj rp).kind
  exact ⟨⟨op,oq,V2,V2⟩,by show 8*(Z3 p+Z3 q) < N;omega,fin hst JP⟩
theorem ZlX(m h:List Tree):(Ym m h).x.length<=2/\(Ym m h).y.length<=2:=by
 unfold Ym
 have:=Z6Y m.length;have:=Z6Y h.length;have:=Z9T m;have:=Z9T h
 split <;> (simp only [Q7];omega)
theorem Znc(f:Edit->Edit->Lft)(p q:Op):(ZA f p q).x.length<=1/\(ZA f p q).y.length<=1:=by
 unfold ZA
 split;. simp
 split;. simp
 split;. simp
 split;. simp
 split;. simp
 split;. simp
 split <;> simp
structure LInv (f:Edit->Edit->Lft) (mc ma:Bool) (ps:List Piece) (i:Int) (c a:Bool) (m h:List Tree) (x y:List Op):Prop where
 i0:0<=i
 il:i<=ps.length
 ec:(mc || (Z14 f ps [] []).c)=(c || (Z14 f (ps.drop i.toNat) m h).c)
 ea:(ma || (Z14 f ps [] []).a)=(a || (Z14 f (ps.drop i.toNat) m h).a)
 ex:(Z14 f ps [] []).x=x++(Z14 f (ps.drop i.toNat) m h).x
 ey:(Z14 f ps [] []).y=y++(Z14 f (ps.drop i.toNat) m h).y
 lx:(x.length:Int)<=3*i
 ly:(y.length:Int)<=3*i
 km:((Z9 m:Nat):Int)+ZE φC (Z7S (ps.drop i.toNat))<=ZE φC (Z7S ps)
 kh:((Z9 h:Nat):Int)+ZE φC (Z7R (ps.drop i.toNat))<=ZE φC (Z7R ps)
theorem cnn(o:Op):((Z9 o.l:Nat):Int)<=φC o:=by unfold φC;have:=Zxk o.e;omega
theorem ZhR:∀ l:List Op,0<=ZE φC l
 | []=> Qw _
 | o ::r=> by have:=ZhR r;have:=cnn o;simp only [ZE];omega
theorem LInv.step{f:Edit->Edit->Lft}{mc ma:Bool}{ps:List Piece}{i:Int}{c a:Bool}{m h:List Tree}{x y:List Op}(H:LInv f mc ma ps i c a m h x y)(hi:i < ps.length)(z:Piece)(X:Piece)(hX:X=ps.getD i.toNat z):
  (X.of=1->LInv f mc ma ps (i+1) c a (m++X.p.l) h x y)/\(¬X.of=1->X.of=2->LInv f mc ma ps (i+1) c a m (h++X.q.l) x y)/\
  (¬X.of=1->¬X.of=2->LInv f mc ma ps (i+1) ((c || (Ym m h).c) || (ZA f X.p X.q).c) (a || (ZA f X.p X.q).a) [] [] ((x++(Ym m h).x)++(ZA f X.p X.q).x) ((y++(Ym m h).y)++(ZA f X.p X.q).y)):=by
 have hd:=ZQ H.i0 hi z
 rw [<-hX] at hd
 have h0:=H.i0
 obtain ⟨_,_,ec,ea,ex,ey,lx,ly,km,kh⟩:=H
 rw [hd] at ec ea ex ey km kh
 simp only [Z14] at ec ea ex ey
 simp only [Z7S,Z7R] at km kh
 have np:=cnn X.p;have nq:=cnn X.q
 refine ⟨fun e=> ?_,fun e1 e2=> ?_,fun e1 e2=> ?_⟩
 .rw [if_pos e] at ec ea ex ey
  rw [JL,Xw,ZE] at km
  rw [if_pos e,Qr] at kh
  exact ⟨YS,YS,ec,ea,ex,ey,YS,YS,by rw [J3];omega,kh⟩
 .rw [if_neg e1,if_pos e2] at ec ea ex ey
  rw [if_pos e2,Qr] at km
  rw [if_neg e1,Xw,ZE] at kh
  exact ⟨YS,YS,ec,ea,ex,ey,YS,YS,km,by rw [J3];omega⟩
 .rw [if_neg e1,if_neg e2] at ec ea ex ey
  rw [if_neg e2,Xw,ZE] at km
  rw [if_neg e1,Xw,ZE] at kh
  simp only [PL.app] at ec ea ex ey
  obtain ⟨g1,g2⟩:=ZlX m h
  obtain ⟨g3,g4⟩:=Znc f X.p X.q
  have ga:(Ym m h).a=false:=by unfold Ym;split <;> rfl
  rw [ga,XQ] at ea
  refine ⟨YS,YS,?_,?_,?_,?_,?_,?_,?_,?_⟩
  .rw [ec];simp only [Xv]
  .rw [ea,Xv]
  .rw [ex];simp only [Qa]
  .rw [ey];simp only [Qa]
  .simp only [Q7];omega
  .simp only [Q7];omega
  .simp only [Z9];omega
  .simp only [Z9];omega
theorem Zsk{p q:List Op}(hp:Zyz p)(hq:Zyz q){x:Piece}(h:POk2 p q x):(x.of≠2->ZhW x.p)/\(x.of≠1->ZhW x.q):=by
 refine ⟨fun e=> ?_,fun e=> ?_⟩
 .obtain ⟨a,b⟩:=h.pp e
  exact ⟨b,Xf (Zdy a).1 hp.1,Zld a b hp.2.1,Zfq a hp.2.2⟩
 .obtain ⟨a,b⟩:=h.qq e
  exact ⟨b,Xf (Zdy a).1 hq.1,Zld a b hq.2.1,Zfq a hq.2.2⟩
theorem ZFc:ZCQ:=by
 intro N mc ma p q _ hp hN
 obtain ⟨op,oq,kp3,kq3⟩:=hp
 dsimp only at op oq kp3 kq3
 have hN':8*(Z3 p+Z3 q) < N+1:=hN
 have rop:=ZoZ op
 have roq:=ZoZ oq
 have kp:=ZC2 rop
 have kq:=ZC2 roq
 have lp:=Zhf p
 have lq:=Zhf q
 obtain ⟨i1,_⟩:=Zb2 _ p.ops q.ops [] (Qb _) kp.1 kq.1
 have fin:∀ {L:Lft} {s:LSt U},Z4k lbE p q=L->Y3 cfg Tryz.f106.ntmps Tryz.f106.results.toList (.tup [(true,enc .edit L.x),(true,enc .edit L.y)]) [[.bool (mc || L.c),.bool (ma || L.a)]] .ret s->
   Y3 cfg Tryz.f106.ntmps Tryz.f106.results.toList (ZeR ((mc,ma,()),p,q,())) (Z9j ((mc,ma,()),p,q,())) .ret s:=by
  intro L s h hs
  subst h
  exact hs
 refine ZHf N mc ma p q _ ?_
 (simp only [iB,vcT,vcS])
 refine ⟨⟨kp,kq⟩,fun hb=> ⟨trivial,fin (by rw [Z4k,if_neg (by rw [hb];decide)]) (by simp only [QB,Xk];(repeat' (first | exact trivial | exact rfl | apply And.intro)))⟩,fun hb=> ?_⟩
 obtain ⟨ps,e,hps,_,_⟩:=i1 hb
 obtain ⟨ps1,e1,sp,sq,hlen⟩:=Zvv ZCy ZCy 2 _ p.ops q.ops [] (Qb _) kp.1 kq.1 hb
 rw [e,Qr,Qr] at e1
 subst e1
 rw [Qr] at e
 have hL:Z4k lbE p q=⟨Yx p.list (Z14 lbE ps [] []).x,Yx p.list (Z14 lbE ps [] []).y,(Z14 lbE ps [] []).c,(Z14 lbE ps [] []).a⟩:=by rw [Z4k,if_pos hb,e]
 have c1:=ZmB p.ops;have c2:=ZmB q.ops;have c3:=rop.1;have c4:=roq.1
 refine Z5 (ι:=Int × Bool × Bool × List Tree × List Tree × List Op × List Op) (fun s=> Z2S mc ma p q s.1 s.2.1 s.2.2.1 s.2.2.2.1 s.2.2.2.2.1 s.2.2.2.2.2.1 s.2.2.2.2.2.2)
  (fun s=> LInv lbE mc ma ps s.1 s.2.1 s.2.2.1 s.2.2.2.1 s.2.2.2.2.1 s.2.2.2.2.2.1 s.2.2.2.2.2.2) (fun s=> ((ps.length:Int) - s.1).toNat) (0,mc,ma,[],[],[],[]) rfl
  ⟨by simp,by simp,by simp,by simp,by simp,by simp,by simp,by simp,by simp [Z9],by simp [Z9]⟩ ?_
 rintro ⟨i,c,a,m,h,x,y⟩ H
 dsimp only at H
 refine Zuf N mc ma p q _ _ _ _ _ _ _ _ _ ?_
 intro y1 h1 y2 h2 y3 h3 y4 h4 y5 h5 y6 h6 y7 h7
 rw [e] at h5 ⊢
 replace h6:=h6.symm;replace h7:=h7.symm
 have i0:=H.i0;have il:=H.il;have lx:=H.lx;have ly:=H.ly;have km:=H.km;have kh:=H.kh
 have n1:=ZhR (Z7S (ps.drop i.toNat));have n2:=ZhR (Z7R (ps.drop i.toNat))
 obtain ⟨g1,g2⟩:=ZlX m h
 (simp only [iB,vcT,vcS])
 refine ⟨fun hi=> ?_,fun hi=> ?_⟩
 .obtain ⟨s1,s2,s3⟩:=H.step hi _ y5 h5
  have hmem:y5∈ps:=by rw [h5];exact Ze YS _
  have hx:=hps y5 hmem
  obtain ⟨o1,o2⟩:=Zsk rop roq hx
  have km1:(Z9 y5.p.l:Int)<=9000000000:=by
   rcases hx.of with h | h | h
   .have:=Z4j y5.p;have:=(o1 YS).2.1;omega
   .have:=Z4j y5.p;have:=(o1 YS).2.1;omega
   .rw [hx.pn h];simp [Op.nil,Z9]
  have km2:(Z9 y5.q.l:Int)<=9000000000:=by
   rcases hx.of with h | h | h
   .have:=Z4j y5.q;have:=(o2 YS).2.1;omega
   .rw [hx.qn h];simp [Op.nil,Z9]
   .have:=Z4j y5.q;have:=(o2 YS).2.1;omega
  have q1:=Zq m;have q2:=Zq h;have q3:=Zq y5.p.l;have q4:=Zq y5.q.l
  refine ⟨⟨i0,hi⟩,fun f1=> ⟨YS,V3,(i+1,c,a,m++y5.p.l,h,x,y),rfl,s1 f1,V2⟩,fun f1=> ⟨fun f2=> ⟨YS,V3,(i+1,c,a,m,h++y5.q.l,x,y),rfl,s2 f1 f2,V2⟩,fun f2=> ?_⟩⟩
  have f0:y5.of=0:=by rcases hx.of with h | h | h <;> omega
  obtain ⟨b1,b2,b3⟩:=hx.both f0
  have mp:=(Zdy (hx.pp f2).1).2
  have mq:=(Zdy (hx.qq f1).1).2
  rw [<-h6,<-h7]
  refine ⟨⟨⟨V2,V2⟩,V2,V2⟩,⟨⟨o1 f2,o2 f1,b3,b1,b2⟩,by simp only [List.length_append];omega,by simp only [List.length_append];omega⟩,by show 8*(Zu y5.p+Zu y5.q)+2 < N;omega,V3,
   (i+1,_,_,[],[],_,_),rfl,s3 f1 f2,V2⟩
 .have hd:ps.drop i.toNat=[]:=Q9 YS
  have ec:=H.ec;have ea:=H.ea;have ex:=H.ex;have ey:=H.ey
  rw [hd] at ec ea ex ey
  simp only [Z14] at ec ea ex ey
  have ga:(Ym m h).a=false:=by unfold Ym;split <;> rfl
  rw [ga,QB] at ea
  refine ⟨⟨⟨V2,V2⟩,V2,V2⟩,by show (x++_).length<=_;rw [List.length_append];omega,by show (y++_).length<=_;rw [List.length_append];omega,fin hL ?_⟩
  dsimp only
  rw [ec,ea,ex,ey]
  subst h1 h2 h3 h4
  exact JP
theorem ZF6:ZCJ:=by
 intro N sm_ sx sy si sh p q mc ma _ hp hN
 simp only [ZaX] at hp
 obtain ⟨⟨⟨op,mp,gp,rp⟩,⟨oq,mq,gq,rq⟩,hl,p2,q2⟩,lx,ly⟩:=hp
 have hN':8*(Zu p+Zu q)+2 < N+1:=hN
 have ep:=Z3G p
 have eq:=Z3G q
 have gp':=Z0y gp
 have gq':=Z0y gq
 have ap:=Z4j p
 have aq:=Z4j q
 have kp:=YX op
 have kq:=YX oq
 have fin:∀ {L:PL} {s:LSt U},ZA lbE p q=L->Y3 cfg Tryz.f145.ntmps Tryz.f145.results.toList (.tup []) [[.xp 1,.slice (U:=U) .op (sx++L.x) (.own (.x 0 1)),.slice (U:=U) .op (sy++L.y) (.own (.x 0 2)),.slice (U:=U) .tree si (.own (.x 0 3)),.slice (U:=U) .tree sh (.own (.x 0 4))],[.bool (mc || L.c),.bool (ma || L.a)]] .normal s->
   Y3 cfg Tryz.f145.ntmps Tryz.f145.results.toList (ZeN ((sm_,sx,sy,si,sh,()),p,q,(mc,ma,()),())) (Z9g ((sm_,sx,sy,si,sh,()),p,q,(mc,ma,()),())) .normal s:=by
  intro L s h hs
  subst h
  exact hs
 have hc:=ZA.eq_1 lbE p q
 refine ZGU N sm_ sx sy si sh p q mc ma _ ?_
 intro y1 h1 y2 h2 y3 h3 y4 h4 y5 h5 y6 h6 y7 h7 y8 h8 y9 h9 y10 h10 y11 h11
 replace h3:=h3.symm;replace h4:=h4.symm
 subst h1 h2 h3 h4 h7 h8 h9 h10 h11
 simp only [Z1S]
 (simp only [iB,vcT,vcS])
 refine ⟨fun c1=> ?_,fun c1=> ?_⟩
 .rw [if_pos c1] at hc
  exact ⟨by simp only [Q6,Q8];omega,⟨YS,by simp only [Q7,Q6,Q8];omega⟩,YS,fin hc (by simp only [QB,Qo];(repeat' (first | exact trivial | exact rfl | apply And.intro)))⟩
 rw [JL] at hc
 refine ⟨fun c2=> ?_,fun c2=> ?_⟩
 .rw [if_pos c2] at hc
  exact ⟨by simp only [Q6,Q8];omega,⟨YS,by simp only [Q7,Q6,Q8];omega⟩,YS,fin hc (by simp only [QB,Qo];(repeat' (first | exact trivial | exact rfl | apply And.intro)))⟩
 rw [JL] at hc
 refine ⟨fun c3=> ?_,fun c3=> ?_⟩
 .rw [if_pos c3] at hc
  exact ⟨by simp only [Q6,Q8];omega,by simp only [Q6,Q8];omega,fin hc (by simp only [QB];(repeat' (first | exact trivial | exact rfl | apply And.intro)))⟩
 rw [if_neg c3] at hc
 refine ⟨fun c4=> ?_,fun c4=> ?_⟩
 .rw [if_pos c4] at hc
  exact ⟨by simp only [Q6,Q8];omega,by simp only [Q6,Q8];omega,fin hc (by simp only [QB];(repeat' (first | exact trivial | exact rfl | apply And.intro)))⟩
 rw [if_neg c4] at hc
 refine ⟨fun c5=> ⟨⟨V2,V2⟩,fun he=> ?_,fun he=> ?_⟩,fun c5=> ?_⟩
 .rw [if_pos c5,Z2u,he] at hc
  exact fin hc (by simp only [XL,QB,Xk,Qo];(repeat' (first | exact trivial | exact rfl | apply And.intro)))
 .rw [if_pos c5,Z2u,he] at hc
  exact fin hc (by simp only [XA,QB,Qo];(repeat' (first | exact trivial | exact rfl | apply And.intro)))
 rw [JL] at hc
 refine ⟨fun c6=> ?_,fun c6=> ?_⟩
 .rw [if_pos c6] at hc
  have l1:=Z15 op (.inl c6)
  have l2:=Z0c (o:=y2) (by unfold kOk at kq;omega)
  have hp0:0 < y1.l.length:=YS
  have m3:y5∈y1.l:=by rw [h5];exact Ze hp0 _
  have m3':=YN m3
  have rk:J2 y2.e:=⟨YS,gq'.2.2.2,rq (by unfold kOk at kq;omega)⟩
  have:=Ju rk
  rw [show y1.l.getD 0 Tree.nil=y5 from h5.symm] at hc
  exact ⟨⟨YS,YS⟩,⟨⟨V2,rk.2⟩,V2,JX gp'.2.2.1 m3⟩,fin hc (by simp only [Bool.or_true,List.append_nil];(repeat' (first | exact trivial | exact rfl | apply And.intro)))⟩
 rw [if_neg c6] at hc
 have kp3:y1.kind=3:=by unfold kOk at kp;omega
 refine ⟨fun c7=> ?_,fun c7=> ?_⟩
 .rw [if_pos c7] at hc
  have l1:=Z15 oq (.inl c7)
  have l2:=Z0c (o:=y1) kp3
  have hp0:0 < y2.l.length:=YS
  have m3:y6∈y2.l:=by rw [h6];exact Ze hp0 _
  have m3':=YN m3
  have rk:J2 y1.e:=⟨YS,gp'.2.2.2,rp kp3⟩
  have:=Ju rk
  rw [show y2.l.getD 0 Tree.nil=y6 from h6.symm] at hc
  exact ⟨⟨YS,YS⟩,⟨⟨V2,rk.2⟩,V2,JX gq'.2.2.1 m3⟩,fin hc (by simp only [Bool.or_true,List.append_nil];(repeat' (first | exact trivial | exact rfl | apply And.intro)))⟩
 rw [if_neg c7] at hc
 have k1:J2 y1.e:=⟨YS,gp'.2.2.2,rp kp3⟩
 have k2:J2 y2.e:=⟨YS,gq'.2.2.2,rq (by unfold kOk at kq;omega)⟩
 refine ⟨⟨k1,k2⟩,?_,trivial,by simp only [Q6,Q8];omega,trivial,by simp only [Q6,Q8];omega,fin hc JP⟩
 show 8*(Z3 y1.e+Z3 y2.e)+1 < N
 rw [ZI,ZI] at hN'
 omega
set_option maxHeartbeats 1000000 in
theorem ZFd:ZCR:=by
 intro N mc ma p q _ hp hN
 obtain ⟨op,oq,kp2,kq2⟩:=hp
 dsimp only at op oq kp2 kq2
 have hN':8*(Z3 p+Z3 q) < N+1:=hN
 have lp:=Zhf p
 have lq:=Zhf q
 have mp:=Ju op
 have mq:=Ju oq
 have wk:∀ {e:Edit},J2 e->∀ w∈e.words,wOk w:=by
  intro e h w hw
  obtain ⟨d,hr⟩:=h.2.2
  have a:=Yu (Zj hr).words w hw
  exact ⟨(ZR h.2.1).2.2.1 w hw,a.2.2.2.1,a.2.2.2.2⟩
 have kk:∀ {e:Edit},J2 e->∀ k∈e.kids,J2 k.e/\Z3 k.e < Z3 e:=by
  intro e h k hk
  obtain ⟨d,hr⟩:=h.2.2
  have c:=Z6j hk
  have:=JO e
  have:=h.1
  exact ⟨⟨YS,(Yz (ZR h.2.1).2.2.2.1 hk).2,_,(Zp (Zj hr).kids k hk).2⟩,ZV hk⟩
 have lkp:=YQ p.kids;have lkq:=YQ q.kids
 have fin:∀ {L:Lft} {s:LSt U},Z2g lbE p q=L->Y3 cfg Tryz.f105.ntmps Tryz.f105.results.toList (.tup [(true,enc .edit L.x),(true,enc .edit L.y)]) [[.bool (mc || L.c),.bool (ma || L.a)]] .ret s->
   Y3 cfg Tryz.f105.ntmps Tryz.f105.results.toList (ZeS ((mc,ma,()),p,q,())) (Z9k ((mc,ma,()),p,q,())) .ret s:=by
  intro L s h hs
  subst h
  exact hs
 refine ZHg N mc ma p q _ ?_
 refine ⟨by show p.words.length<=_;omega,by show q.words.length<=_;omega,?_⟩
 let WI:=SInv WEdit.at_ Z1m Z1m (fun a b=> !Yi a b && Jj a b) Yi mc ma p.words q.words
 refine Z5 (ι:=Int × Bool × Bool × List WEdit × List WEdit) (fun s=> Z7v mc ma p q s.1 s.2.1 s.2.2.1 s.2.2.2.1 s.2.2.2.2)
  (fun s=> (0<=s.1/\s.1<=p.words.length)/\WI s.1.toNat 0 s.2.1 s.2.2.1 s.2.2.2.1 s.2.2.2.2) (fun s=> ((p.words.length:Int) - s.1).toNat) (0,mc,ma,p.words,q.words) rfl ⟨⟨V2,V2⟩,SInv.init⟩ ?_
 rintro ⟨i,c,a,X,Y⟩ ⟨⟨i0,il⟩,H⟩
 dsimp only at i0 il H
 refine Zuj N mc ma p q _ _ _ _ _ _ _ ?_
 dsimp only
 refine ⟨fun hi=> ?_,fun hi=> ?_⟩
 .replace hi:=of_decide_eq_true hi
  refine ⟨⟨i0,hi⟩,?_⟩
  refine Z5 (ι:=Int × Bool × Bool × List WEdit × List WEdit) (fun s=> Z7u mc ma p q i s.1 s.2.1 s.2.2.1 s.2.2.2.1 s.2.2.2.2)
   (fun s=> (0<=s.1/\s.1<=q.words.length)/\WI i.toNat s.1.toNat s.2.1 s.2.2.1 s.2.2.2.1 s.2.2.2.2) (fun s=> ((q.words.length:Int) - s.1).toNat) (0,c,a,X,Y) rfl ⟨⟨V2,V2⟩,H⟩ ?_
  clear H
  clear c a X Y
  rintro ⟨j,c,a,X,Y⟩ ⟨⟨j0,jl⟩,H⟩
  dsimp only at j0 jl H
  have lx:=H.lx
  have ly:=H.ly
  refine Zui N mc ma p q _ _ _ _ _ _ _ _ _ ?_
  intro y1 h1 y2 h2 y3 h3 y4 h4 y5 h5 y6 h6
  replace h3:=h3.symm;replace h4:=h4.symm
  subst h3 h4
  (simp only [iB,vcT,vcS])
  try dsimp only at*
  refine ⟨fun hj=> ⟨⟨j0,hj⟩,fun he=> ?_,fun he=> ?_⟩,fun hj=> ?_⟩
  .have st:=(H.step YS YS ⟨0,0,0,0⟩).1 (by rw [<-h1,<-h2];exact he)
   rw [<-h1,<-h2] at st
   have m1:y1∈p.words:=by rw [h1];exact Ze YS _
   have m2:y2∈q.words:=by rw [h2];exact Ze YS _
   subst h5 h6
   refine ⟨⟨wk op _ m1,wk oq _ m2⟩,⟨wk op _ m1,Zpg _⟩,⟨i0,YS⟩,Xb _,⟨wk oq _ m2,Zpg _⟩,⟨j0,YS⟩,Xb _,?_⟩
   refine Zkh N mc ma p q _ _ _ _ _ _ _ _ _ _ ⟨V3,(j+1,_,_,_,_),rfl,⟨⟨V2,V2⟩,?_⟩,V2⟩
   rw [show (j+1).toNat=j.toNat+1 by omega]
   exact st
  .have st:=(H.step YS YS ⟨0,0,0,0⟩).2 (by rw [<-h1,<-h2];exact he)
   refine Zkh N mc ma p q _ _ _ _ _ _ _ _ _ _ ⟨V3,(j+1,_,_,_,_),rfl,⟨⟨V2,V2⟩,?_⟩,V2⟩
   rw [show (j+1).toNat=j.toNat+1 by omega]
   exact st
  .refine ⟨V3,(i+1,_,_,_,_),rfl,⟨⟨V2,V2⟩,?_⟩,V2⟩
   rw [show (i+1).toNat=i.toNat+1 by omega]
   rw [show j.toNat=q.words.length by omega] at H
   exact H.next YS
 replace hi:=of_decide_eq_false hi
 rw [show i.toNat=p.words.length by omega] at H
 obtain ⟨ec,ea,eX,eY⟩:=H.fin
 refine ⟨by show p.kids.length<=_;omega,by show q.kids.length<=_;omega,?_⟩
 let KI:=SInv KidOf.at_ (fun a b:Kid=> ⟨a.at_,(lbE a.e b.e).x⟩) (fun b a:Kid=> ⟨b.at_,(lbE a.e b.e).y⟩) (fun a b=> (lbE a.e b.e).c) (fun a b=> (lbE a.e b.e).a) c a p.kids q.kids
 refine Z5 (ι:=Int × Bool × Bool × List Kid × List Kid) (fun s=> Z7t mc ma p q X Y s.1 s.2.1 s.2.2.1 s.2.2.2.1 s.2.2.2.2)
  (fun s=> (0<=s.1/\s.1<=p.kids.length)/\KI s.1.toNat 0 s.2.1 s.2.2.1 s.2.2.2.1 s.2.2.2.2) (fun s=> ((p.kids.length:Int) - s.1).toNat) (0,c,a,p.kids,q.kids) rfl ⟨⟨V2,V2⟩,SInv.init⟩ ?_
 clear H hi il i0
 rintro ⟨i,c1,a1,X1,Y1⟩ ⟨⟨i0,il⟩,H⟩
 dsimp only at i0 il H
 refine Zuh N mc ma p q _ _ _ _ _ _ _ _ _ ?_
 intro z1 hz1 z2 hz2
 dsimp only at hz1 hz2 ⊢
 refine ⟨fun hi=> ?_,fun hi=> ?_⟩
 .replace hi:=of_decide_eq_true hi
  refine ⟨⟨i0,hi⟩,?_⟩
  refine Z5 (ι:=Int × Bool × Bool × List Kid × List Kid) (fun s=> Z7s mc ma p q X Y i s.1 s.2.1 s.2.2.1 s.2.2.2.1 s.2.2.2.2)
   (fun s=> (0<=s.1/\s.1<=q.kids.length)/\KI i.toNat s.1.toNat s.2.1 s.2.2.1 s.2.2.2.1 s.2.2.2.2) (fun s=> ((q.kids.length:Int) - s.1).toNat) (0,c1,a1,X1,Y1) rfl ⟨⟨V2,V2⟩,H⟩ ?_
  clear H hz1 hz2
  clear c1 a1 X1 Y1
  rintro ⟨j,c1,a1,X1,Y1⟩ ⟨⟨j0,jl⟩,H⟩
  dsimp only at j0 jl H
  have lx:=H.lx
  have ly:=H.ly
  refine Zug N mc ma p q _ _ _ _ _ _ _ _ _ _ _ ?_
  intro y1 h1 y2 h2 y3 h3 y4 h4 y5 h5 y6 h6
  (simp only [iB,vcT,vcS])
  try dsimp only at*
  refine ⟨fun hj=> ⟨⟨j0,hj⟩,fun he=> ?_,fun he=> ?_⟩,fun hj=> ?_⟩
  .have st:=(H.step YS YS ⟨0,Edit.nil⟩).1 (by rw [<-h1,<-h2];exact he)
   have e1:=H.at_x (fun a b=> rfl) YS ⟨0,Edit.nil⟩
   have e2:=H.at_y (fun a b=> rfl) YS ⟨0,Edit.nil⟩
   rw [<-h1] at e1
   rw [<-h2] at e2
   rw [<-h1,<-h2] at st
   have m1:=kk op y1 (by rw [h1];exact Ze YS _)
   have m2:=kk oq y2 (by rw [h2];exact Ze YS _)
   subst h3 h4 h5 h6
   refine ⟨⟨m1.1,m2.1⟩,by show 8*(Z3 y1.e+Z3 y2.e)+1 < N;omega,⟨i0,YS⟩,Xb _,⟨j0,YS⟩,Xb _,?_⟩
   refine Zkg N mc ma p q _ _ _ _ _ _ _ _ _ _ _ ⟨V3,(j+1,_,_,_,_),rfl,⟨⟨V2,V2⟩,?_⟩,V2⟩
   rw [show (j+1).toNat=j.toNat+1 by omega]
   dsimp only
   rw [e1,e2]
   exact st
  .have st:=(H.step YS YS ⟨0,Edit.nil⟩).2 (by rw [<-h1,<-h2];exact he)
   refine Zkg N mc ma p q _ _ _ _ _ _ _ _ _ _ _ ⟨V3,(j+1,_,_,_,_),rfl,⟨⟨V2,V2⟩,?_⟩,V2⟩
   rw [show (j+1).toNat=j.toNat+1 by omega]
   exact st
  .refine ⟨V3,(i+1,_,_,_,_),rfl,⟨⟨V2,V2⟩,?_⟩,V2⟩
   rw [show (i+1).toNat=i.toNat+1 by omega]
   rw [show j.toNat=q.kids.length by omega] at H
   exact H.next YS
 replace hi:=of_decide_eq_false hi
 rw [show i.toNat=p.kids.length by omega] at H
 have lx:=H.lx;have ly:=H.ly
 obtain ⟨ec1,ea1,eX1,eY1⟩:=H.fin
 have lX:X.length=p.words.length:=by rw [eX,Qv]
 have lY:Y.length=q.words.length:=by rw [eY,Qv]
 refine ⟨⟨V2,V2⟩,⟨V2,V2⟩,fin rfl ?_⟩
 have e1:(Z2g lbE p q).x=Z5D z1:=by rw [hz1,eX,eX1];try rfl
 have e2:(Z2g lbE p q).y=Z5D z2:=by rw [hz2,eY,eY1];try rfl
 have e3:(mc || (Z2g lbE p q).c)=c1:=by rw [ec1,ec,Xv];try rfl
 have e4:(ma || (Z2g lbE p q).a)=a1:=by rw [ea1,ea,Xv];try rfl
 rw [e1,e2,e3,e4]
 exact JP
theorem ZJ2:Contract Tryz.prog cfg 66 ZaE/\Contract Tryz.prog cfg 105 ZoF/\Contract Tryz.prog cfg 106 ZoE/\Contract Tryz.prog cfg 145 Zoy:=
 ZyS ZcL ZF0 ZEZ ZjO ZET ZES ZER ZEQ ZEP (ZEO Zxm) ZEN ZEM ZEp ZEo b66 ZFd ZFc ZF6
theorem c66:Contract Tryz.prog cfg 66 ZaE:=ZJ2.1
noncomputable section
def Zp7(a:Edit × Edit × Unit):Prop:=ZkX a.1 a.2.1
def ZoU(a:Edit × Edit × Unit):V U:= .tup [(true,(enc .edit ((lbN a.1 a.2.1).1))),(true,(enc .edit ((lbN a.1 a.2.1).2.1))),(false,[ci ((lbN a.1 a.2.1).2.2)])]
def Z5A:Fs U:=fs Zoa (fun a=> [Zp7 a]) ZoU
def ZC7(a:Unit):V U:= .c (.bool true)
def Zeu:Fs U:=fs ZrF (fun a=> [ZaY a]) ZC7
def Zx1:List (FuncId × Fs U):=[(67,Zen),(66,ZaE)]
def ZDX:Zc U:=lvl [([2,3,4,5],[2,3,4,5]),([2,3,4,5,7],[2,3,4,5,11]),([4,5,7,8,9],[4,5,8,9,11]),([4,5,7,8,9,21],[4,5,8,9,11]),([4,5,6],[4,5]),([4,5,8,9,28],[4,5,8,9]),([4,5,6],[4,5]),([4,5,6],[4,5])]
abbrev A16(p:List Nat):=AW (Z0 Zx1) Tryz.f16 ZDX p
theorem ZIS(p q:Edit)(Q:QT)(h:∀ y_1,y_1=p->∀ y_2,y_2=q->∀ y_3,y_3=(Zn y_1)->∀ y_4,y_4=(Zn y_2)->∀ y_5,y_5=((lbE y_3 y_4).x)->∀ y_6,y_6=((lbE y_3 y_4).y)->((Z29 (y_1,()))/\(Z29 (y_2,()))/\(Zf1 ((false,false,()),y_3,y_4,()))/\(iB (false || (lbE y_3 y_4).a) ((Q .ret (L2 [pL 4,pL 5,pI 6 14] [(.loc 4,zc1),(.loc 5,zc1)]))) ((iB (false || (lbE y_3 y_4).c) ((Q .ret (L2 [pL 4,pL 5,pI 6 13] [(.loc 4,zc1),(.loc 5,zc1)]))) ((Z29 (y_5,()))/\(Z29 (y_6,()))/\(Q .ret (L2 [pL 4,pL 5,pI 6 0] [(.loc 4,(enc .edit (Zn y_5))),(.loc 5,(enc .edit (Zn y_6)))])))))))):
  A16 [] (L2 [(0,.agg (enc .edit p)),(1,.agg (enc .edit q))] []) Q:=
 Eq.mpr V4 (h _ (Z7 _) _ (Z7 _) _ (Z7 _) _ (Z7 _) _ (Z7 _) _ (Z7 _))
def ZFF(p q:Edit):Prop:=AW (Z0 Zx1) Tryz.f16 ZDX [] (Zh (Zoa.can (p,q,())) []) (EQ Tryz.f16 (ZoU (p,q,())) [])
theorem ZDN(c67:CT 67 Zen)(c66:CT 66 ZaE)(hb:∀ (p:Edit) (q:Edit) (_:Unit),Zp7 (p,q,())->ZFF p q):CT 16 Z5A:=
 Z1 (l:=[(67,Zen),(66,ZaE)]) Zi rfl (⟨c67,c66,trivial⟩) ZDX Tryz.func16 rfl rfl 2 (fun _=> rfl) V1 (fun ⟨p,q,_⟩=> hb p q ())
def Zx2:List (FuncId × Fs U):=[(16,Z5A)]
def ZDY:Zc U:=lvl [([],[]),([1],[]),([1,2],[]),([2,3],[3]),([3,4],[3,4]),([5,6,7],[5,6]),([0],[])]
abbrev A15(p:List Nat):=AW (Z0 Zx2) Tryz.f15 ZDY p
theorem ZIT(Q:QT)(h:∀ y_1,y_1=(Edit.mk 0 (Tree.mk 0 [] []) (Tree.mk 0 [] []) [] [] 0 [])->∀ y_2,y_2=(Edit.mk 3 (Tree.mk 0 [] []) (Tree.mk 0 [] []) [] [] 4 ([(OpOf.mk 0 1 [] y_1),(OpOf.mk 2 0 ([(Tree.mk 10 ([2]) [])]) y_1)]))->∀ y_3,y_3=(Edit.mk 3 (Tree.mk 0 [] []) (Tree.mk 0 [] []) [] [] 4 ([(OpOf.mk 2 0 ([(Tree.mk 10 ([1]) [])]) y_1),(OpOf.mk 0 1 [] y_1)]))->∀ y_4,y_4=(List.getD (Edit.ops ((lbN y_3 y_2).1)) (Int.toNat 0) Op.nil)->∀ y_5,y_5=(List.getD (Edit.ops ((lbN y_3 y_2).1)) (Int.toNat 1) Op.nil)->∀ y_6,y_6=(List.getD (Edit.ops ((lbN y_3 y_2).2.1)) (Int.toNat 0) Op.nil)->let z7:=Edit.ops ((lbN y_3 y_2).1);let z6:=Edit.ops ((lbN y_3 y_2).2.1);let z5:=(((lbN y_3 y_2).2.2):Int)==0;let z1:=bif z5 then (((z7.length:Int):Int)==2) else false;let z2:=bif z1 then (y_4.kind==2) else false;let z4:=bif z2 then (y_5.n==2) else false;let z0:=bif z4 then (((z6.length:Int):Int)==2) else false;let z3:=bif z0 then (y_6.n==2) else false;((Zp7 (y_3,y_2,()))/\((Tt z5)/\(Tt z5)/\(Tt z5)/\(Tt z5)/\(Tt z1)/\(Tt z1)/\(z1=true->(0:Int)<=0/\0 < (z7.length:Int))/\(Tt z1)/\(Tt z1)/\(Tt z1)/\(Tt z1)/\(Tt z2)/\(Tt z2)/\(z2=true->(0:Int)<=1/\1 < (z7.length:Int))/\(Tt z2)/\(Tt z2)/\(Tt z2)/\(Tt z2)/\(Tt z4)/\(Tt z4)/\(Tt z4)/\(Tt z4)/\(Tt z0)/\(Tt z0)/\(z0=true->(0:Int)<=0/\0 < (z6.length:Int))/\(Tt z0)/\(Tt z0)/\(Tt z0)/\(Tt z0)/\(Tt z3)/\(Tt z3)/\(z3=true->(0:Int)<=1/\1 < (z6.length:Int))/\(Tt z3)/\(Tt z3)/\(Tt z3)/\(Tt z3)/\(Q .ret (L2 [(0,.c (.bool (bif z3 then (((OpOf.kind (List.getD z6 (Int.toNat 1) Op.nil)):Int)==2) else false)))] []))))):
  A15 [] (L2 [] []) Q:=
 Eq.mpr V4 (h _ rfl _ rfl _ rfl _ rfl _ rfl _ rfl)
def ZFG:Prop:=AW (Z0 Zx2) Tryz.f15 ZDY [] (Zh (ZrF.can ()) []) (EQ Tryz.f15 (ZC7 ()) [])
theorem ZDO(c16:CT 16 Z5A)(hb:∀ (_:Unit),ZaY ()->ZFG):CT 15 Zeu:=
 Z1 (l:=[(16,Z5A)]) Zi rfl (⟨c16,trivial⟩) ZDY Tryz.func15 rfl rfl 0 (fun _=> rfl) V1 (fun _=> hb ())
end
theorem Z9q{e:Edit}(h:J2 e):Z29 (e,()):=by
 have:=Ju h
 exact ⟨V2,h.2.2⟩
set_option maxHeartbeats 1000000 in
theorem c16:Contract Tryz.prog cfg 16 Z5A:=by
 refine ZDN ZE9.1 c66 ?_
 intro p q _ hp
 have hp:ZkX p q:=hp
 obtain ⟨⟨h1,h2⟩,h3,h4⟩:=Zp1 hp
 have fin:∀ {X Y:Edit} {n:Int} {s:LSt U},lbN p q=(X,Y,n)->Y3 cfg Tryz.f16.ntmps Tryz.f16.results.toList (.tup [(true,enc .edit X),(true,enc .edit Y),(false,[.int .i64 n])]) [] .ret s->Y3 cfg Tryz.f16.ntmps Tryz.f16.results.toList (ZoU (p,q,())) [] .ret s:=by
  intro X Y n s h hs
  refine Z1O ?_ hs
  simp only [ZoU]
  rw [h]
  try rfl
 have eN:=lbN.eq_1 p q
 refine ZIS _ _ _ ?_
 intro y1 e1 y2 e2 y3 e3 y4 e4 y5 e5 y6 e6
 subst e1 e2
 rw [<-e3] at h1
 rw [<-e4] at h2
 rw [<-e3,<-e4] at h3 h4 eN
 generalize hL:lbE y3 y4=L at h3 h4 eN e5 e6 ⊢
 simp only [XQ]
 refine ⟨Z9q hp.1,Z9q hp.2.1,⟨h1,h2⟩,fun ha=> fin (by rw [eN,if_pos ha]) JP,fun ha=> ⟨fun hc=> fin (by rw [eN,if_neg (by rw [ha];decide),if_pos hc]) JP,fun hc=> ⟨by rw [e5];exact Z9q h3,by rw [e6];exact Z9q h4,?_⟩⟩⟩
 exact fin (by rw [eN,if_neg (by rw [ha];decide),if_neg (by rw [hc];decide),<-e5,<-e6]) JP
theorem ZE3{p q:Edit}(h:ZkX p q):J2 (lbN p q).1/\J2 (lbN p q).2.1:=by
 obtain ⟨_,h3,h4⟩:=Zp1 h
 unfold lbN
 split
 .exact ⟨Z4b,Z4b⟩
 .split
  .exact ⟨Z4b,Z4b⟩
  .exact ⟨Z4a h3,Z4a h4⟩
def Z3i(n:Int):Tree:= .mk 10 [n] []
def ZfW:Edit:= .mk 3 Tree.nil Tree.nil [] [] 4 [⟨2,0,[Z3i 1],Edit.nil⟩,⟨0,1,[],Edit.nil⟩]
def ZfX:Edit:= .mk 3 Tree.nil Tree.nil [] [] 4 [⟨0,1,[],Edit.nil⟩,⟨2,0,[Z3i 2],Edit.nil⟩]
theorem Z6Z:Zb ZfW 64=true/\Zb ZfX 64=true:=⟨rfl,rfl⟩
theorem ZqE:J8 ZfW/\J8 ZfX:=by
 have z:=Z6E
 have i0:InR 0:=YW V1 V1
 have zn:J8 Edit.nil:=⟨i0,z,z,by simp,i0,trivial,trivial⟩
 have at_:∀ n:Int,isW n->rng (Z3i n):=fun n h=> ⟨⟨V1,V1⟩,fun x hx=> by rw [Qf.1 hx];exact h,trivial⟩
 refine ⟨⟨YW V1 V1,z,z,by simp,YW V1 V1,trivial,⟨YW V1 V1,i0,⟨at_ 1 (by unfold isW;omega),trivial⟩,zn⟩,⟨i0,YW V1 V1,trivial,zn⟩,trivial⟩,
  ⟨YW V1 V1,z,z,by simp,YW V1 V1,trivial,⟨i0,YW V1 V1,trivial,zn⟩,⟨YW V1 V1,i0,⟨at_ 2 (by unfold isW;omega),trivial⟩,zn⟩,trivial⟩⟩
theorem ZqF:Zn ZfW=ZfW/\Zn ZfX=ZfX:=by
 unfold ZfW ZfX
 rw [Zj4,Zj4]
 exact ⟨rfl,rfl⟩
theorem Zx7:lbN ZfW ZfX=(.mk 3 Tree.nil Tree.nil [] [] 4 [⟨2,0,[Z3i 1],Edit.nil⟩,⟨0,2,[],Edit.nil⟩],.mk 3 Tree.nil Tree.nil [] [] 4 [⟨0,2,[],Edit.nil⟩,⟨2,0,[Z3i 2],Edit.nil⟩],0):=by
 have L0:Lay lbE [] [] [] [Z3i 2] (Ym [] [Z3i 2]):= .nil _ _
 have L1:Lay lbE [] [⟨2,0,[Z3i 2],Edit.nil⟩] [] [] (Ym [] [Z3i 2]):= .right (fun a ha=> by cases ha) rfl L0
 have t:∀ r:List Op,Zz (⟨0,1,[],Edit.nil⟩ ::r) 1=r/\Zs ⟨0,1,[],Edit.nil⟩ 1=⟨0,1,[],Edit.nil⟩:=by
  intro r
  simp [Zz,Zs,Z6]
 have L2:=Lay.both (f:=lbE) (a:=⟨0,1,[],Edit.nil⟩) (p:=[]) (b:=⟨0,1,[],Edit.nil⟩) (q:=[⟨2,0,[Z3i 2],Edit.nil⟩]) (m:=[Z3i 1]) (h:=[]) (n:=1) V1 V1 (by simp [Z6]) (by rw [(t _).1,(t _).1];exact L1)
 have L3:Lay lbE ZfW.ops ZfX.ops [] [] _:= .left rfl L2
 obtain ⟨b,ps,e1,e2⟩:=ZnB L3 []
 rw [(t []).2] at e2
 have e3:Z14 lbE ps [] []=⟨[⟨2,0,[Z3i 1],Edit.nil⟩,⟨0,1,[],Edit.nil⟩,⟨0,1,[],Edit.nil⟩],[⟨0,1,[],Edit.nil⟩,⟨0,1,[],Edit.nil⟩,⟨2,0,[Z3i 2],Edit.nil⟩],false,false⟩:=by
  rw [<-e2,pL0 rfl V1]
  simp [Ym,Z0g,Yl,PL.app]
 have hl:lbE ZfW ZfX=⟨.mk 3 Tree.nil Tree.nil [] [] 4 [⟨2,0,[Z3i 1],Edit.nil⟩,⟨0,1,[],Edit.nil⟩,⟨0,1,[],Edit.nil⟩],.mk 3 Tree.nil Tree.nil [] [] 4 [⟨0,1,[],Edit.nil⟩,⟨0,1,[],Edit.nil⟩,⟨2,0,[Z3i 2],Edit.nil⟩],false,false⟩:=by
  rw [ZlK Z6Z.1 Z6Z.2,lb3 (p:=ZfW) (q:=ZfX) rfl V1 V1 V1 rfl]
  unfold Z4k
  rw [if_pos b,e1,Qr,e3]
  try rfl
 unfold lbN
 rw [ZqF.1,ZqF.2,hl]
 show (Zn _,Zn _,(0:Int))=_
 rw [Zj4,Zj4]
 try rfl
theorem c15:Contract Tryz.prog cfg 15 Zeu:=by
 refine ZDO c16 ?_
 intro _ _
 refine ZIT _ ?_
 intro y1 h1 y2 h2 y3 h3 y4 h4 y5 h5 y6 h6
 have e1:y1=Edit.nil:=h1
 subst e1
 have e2:y2=ZfX:=h2
 have e3:y3=ZfW:=h3
 subst e2 e3
 rw [Zx7] at*
 subst h4 h5 h6
 have m1:Z3 ZfW<=20000:=V1
 have m2:Z3 ZfX<=20000:=V1
 refine ⟨Zp2 Z6Z.1 Z6Z.2 ZqE.1 ZqE.2 rfl rfl m1 m2,?_⟩
 simp only [Tr]
 repeat' (first | exact (fun x=> x) | exact (fun _=> ⟨V1,V1⟩) | exact Zf rfl rfl | apply And.intro)
theorem Zg0{e:Edit}(h:Z06 e=true):YR e=true:=by simp only [Z06,Q3] at h;exact h.2
def Z21(s:Lft):LeftE:=⟨s.x,s.y,s.c,s.a⟩
noncomputable section
def Zrr:ArgL (List WEdit × Int × Unit):=(.cons (aSl .wedit) (.cons (J9 .i64) .nil))
def ZiQ(a:List WEdit × Int × Unit):Prop:=(a.1).length<=1000000
def ZuY(a:List WEdit × Int × Unit):V U:= .c (ci (ZfZ a.1 a.2.1))
def Zd1:Fs U:=fs Zrr (fun a=> [ZiQ a]) ZuY
def Zrp:ArgL (List Kid × Int × Unit):=(.cons (aSl .kid) (.cons (J9 .i64) .nil))
def ZiO(a:List Kid × Int × Unit):Prop:=(a.1).length<=1000000
def ZuX(a:List Kid × Int × Unit):V U:= .c (ci (Z5a a.1 a.2.1))
def ZcZ:Fs U:=fs Zrp (fun a=> [ZiO a]) ZuX
def ZiP(a:WEdit × Int × Unit):Prop:=Zi3 a.1/\0<=a.2.1/\a.2.1 < 256
def Zip(a:WEdit × Int × Unit):V U:= .c (sU .wedit (Z4d a.1 a.2.1) .unk)
def Zd0:Fs U:=fs Zrx (fun a=> [ZiP a]) Zip
def Zrm:ArgL (List APair × Int × Unit):=(.cons (aSl .pair) (.cons (J9 .i64) .nil))
def Zn8(a:List APair × Int × Unit):Prop:=0<=a.2.1/\a.2.1<=(a.1).length/\(a.1).length<=120000000000
def ZmR(a:List APair × Int × Unit):V U:= .tup [(false,[sU .tree (Z3g ((a.1).drop (a.2.1).toNat)) .unk]),(false,[sU .tree (Z3f ((a.1).drop (a.2.1).toNat)) .unk]),(false,[ci (a.2.1+Z07 ((a.1).drop (a.2.1).toNat))])]
def ZcW:Fs U:=fs Zrm (fun a=> [Zn8 a]) ZmR
def Zn7(a:List Tree × List Tree × Unit):Prop:=Z9 a.1<=100000000000/\Z9 a.2.1<=100000000000
def ZuV(a:List Tree × List Tree × Unit):V U:= .c (.bool (Z2u a.1 a.2.1))
def ZcV:Fs U:=fs Zxz (fun a=> [Zn7 a]) ZuV
def ZdL:ArgM (List Op × Int × Unit):=(.lst (cWt .op (.e 0 0)) (.cons (J9 .i64) .nil))
def Zfb(a:List Op × Int × Unit):Prop:=(a.1).length<=500000000000/\0<=a.2.1
def Zin(a:List Op × Int × Unit):V U:= .c (.mref (.r 0 0))
def Zdk(a:List Op × Int × Unit):List (List (C U)):=[]
def Zdq(a:List Op × Int × Unit):List (Tok × LC U):=[(.r 0 0,LC.mk (U:=U) .op (a.1++Yl (a.2.1).toNat) 0)]
def ZcU:Fs U:=(ZcI ZdL (fun a=> [Zfb a]) Zin Zdk Zdq).passing [0]
def ZdK:ArgM (List Op × List Tree × Unit):=(.lst (cWt .op (.e 0 0)) (.cons (aSl .tree) .nil))
def ZaV(a:List Op × List Tree × Unit):Prop:=(a.1).length<=500000000000
def Zim(a:List Op × List Tree × Unit):V U:= .c (.mref (.r 0 0))
def Zdj(a:List Op × List Tree × Unit):List (List (C U)):=[]
def Zdp(a:List Op × List Tree × Unit):List (Tok × LC U):=[(.r 0 0,LC.mk (U:=U) .op (a.1++Z0g a.2.1) 0)]
def ZcT:Fs U:=(ZcI ZdK (fun a=> [ZaV a]) Zim Zdj Zdp).passing [0]
def ZrE:ArgL (Edit × Tree × Tree × Unit):=(.cons (aEl .edit) (.cons (aEl .tree) (.cons (aEl .tree) .nil)))
def ZiT(a:Edit × Tree × Tree × Unit):Prop:=J2 a.1/\(Zm a.2.1<=100000000000/\rng a.2.1)/\Zm a.2.2.1<=100000000000
def Zv9(a:Edit × Tree × Tree × Unit):V U:= .agg (enc .left (Z21 (Z0w a.1 a.2.1 a.2.2.1)))
def Zdb:Fs U:=fs ZrE (fun a=> [ZiT a]) Zv9
def ZpH:Zc U:=lvl [([0,1],[]),([0,1,5],[]),([0,1,5,9],[]),([0,1,5],[]),([0,1,5,18],[]),([4],[]),([4],[])]
def Z7e(l:List WEdit)(at_ x5:Int):LSt U:=(L2 [(0,.c (sU .wedit l .unk)),pI 1 at_,pI 5 x5] [])
abbrev ZFW(p:List Nat):=AW (Z0 ZnJ) Tryz.f153 ZpH p
abbrev ZIi(p:List Nat):=SW (Z0 ZnJ) Tryz.f153 ZpH p
theorem ZGN(l:List WEdit)(at_:Int)(Q:QT)(h:(Zd (ZFW [1,0,1,0,0]) (Z7e l at_ 0) (xB 0 (ZIi [1,1] Q)))):
  ZFW [] (L2 [(0,.c (sU .wedit l .unk)),pI 1 at_] []) Q:=
 (Eq.mpr V4 h:)
theorem ZtU(l:List WEdit)(at_ x5:Int)(N0:NT)(Q:QT)(h:(iB (decide (x5 < (l.length:Int))) (((0:Int)<=x5/\x5 < (l.length:Int))/\(iB (((WEdit.at_ (l.getD x5.toNat (WEdit.mk 0 0 0 0))):Int)==at_) ((Q .ret (L2 [pI 4 x5] []))) ((InR (x5+1))/\(N0 (Z7e l at_ (x5+1)))))) ((Q .ret (L2 [pI 4 (-1)] []))))):
  ZFW [1,0,1,0,0] (Z7e l at_ x5) (xT N0 (xB 0 (ZIi [1,1] Q))):=
 (Eq.mpr V4 h:)
abbrev ZBq(l:List WEdit)(at_:Int):Prop:=AW (Z0 ZnJ) Tryz.f153 ZpH [] (Zh (Zrr.can (l,at_,())) []) (EQ Tryz.f153 (ZuY (l,at_,())) [])
theorem Zzz(hb:∀ (l:List WEdit) (at_:Int) (_:Unit),ZiQ (l,at_,())->ZBq l at_):CT 153 Zd1:=
 Z1 (l:=[]) Zi rfl trivial ZpH Tryz.func153 rfl rfl 2 (fun _=> rfl) V1 (fun ⟨l,at_,_⟩=> hb l at_ ())
def Z7d(l:List Kid)(at_ x5:Int):LSt U:=(L2 [(0,.c (sU .kid l .unk)),pI 1 at_,pI 5 x5] [])
abbrev ZFV(p:List Nat):=AW (Z0 ZnJ) Tryz.f155 ZpH p
abbrev ZIh(p:List Nat):=SW (Z0 ZnJ) Tryz.f155 ZpH p
theorem ZGL(l:List Kid)(at_:Int)(Q:QT)(h:(Zd (ZFV [1,0,1,0,0]) (Z7d l at_ 0) (xB 0 (ZIh [1,1] Q)))):
  ZFV [] (L2 [(0,.c (sU .kid l .unk)),pI 1 at_] []) Q:=
 (Eq.mpr V4 h:)
theorem ZtT(l:List Kid)(at_ x5:Int)(N0:NT)(Q:QT)(h:(iB (decide (x5 < (l.length:Int))) (((0:Int)<=x5/\x5 < (l.length:Int))/\(iB (((KidOf.at_ (l.getD x5.toNat (KidOf.mk 0 Edit.nil))):Int)==at_) ((Q .ret (L2 [pI 4 x5] []))) ((InR (x5+1))/\(N0 (Z7d l at_ (x5+1)))))) ((Q .ret (L2 [pI 4 (-1)] []))))):
  ZFV [1,0,1,0,0] (Z7d l at_ x5) (xT N0 (xB 0 (ZIh [1,1] Q))):=
 (Eq.mpr V4 h:)
abbrev ZBo(l:List Kid)(at_:Int):Prop:=AW (Z0 ZnJ) Tryz.f155 ZpH [] (Zh (Zrp.can (l,at_,())) []) (EQ Tryz.f155 (ZuX (l,at_,())) [])
theorem Zzx(hb:∀ (l:List Kid) (at_:Int) (_:Unit),ZiO (l,at_,())->ZBo l at_):CT 155 ZcZ:=
 Z1 (l:=[]) Zi rfl trivial ZpH Tryz.func155 rfl rfl 2 (fun _=> rfl) V1 (fun ⟨l,at_,_⟩=> hb l at_ ())
def Zwn:Zc U:=lvl [([1,2],[2]),([2,5],[2]),([2,5,14],[2]),([4],[]),([4],[])]
abbrev ZJt(p:List Nat):=AW (Z0 ZqC) Tryz.f154 Zwn p
theorem ZGM(w:WEdit)(mask:Int)(Q:QT)(h:let z0:=IntKind.wrap .u8 (w.mask - (IntKind.wrap .u8 (BitVec.ofInt (IntKind.bits .u8) w.mask &&& BitVec.ofInt (IntKind.bits .u8) mask).toNat));(iB ((z0:Int)==0) ((Q .ret (L2 [(4,.c (.nils))] []))) ((Z13 (0,w.old,z0,()))/\(Z13 (0,w.new,z0,()))/\(Q .ret (L2 [(4,.c (sU .wedit ([(WEdit.mk w.at_ z0 (mix 0 w.old z0) (mix 0 w.new z0))]) .full))] []))))):
  ZJt [] (L2 [(0,.agg (enc .wedit w)),(1,.c (.int .u8 mask))] []) Q:=
 (Eq.mpr V4 h:)
abbrev ZBp(w:WEdit)(mask:Int):Prop:=AW (Z0 ZqC) Tryz.f154 Zwn [] (Zh (Zrx.can (w,mask,())) []) (EQ Tryz.f154 (Zip (w,mask,())) [])
theorem Zzy(ZcK:CT 136 JQ)(hb:∀ (w:WEdit) (mask:Int) (_:Unit),ZiP (w,mask,())->ZBp w mask):CT 154 Zd0:=
 Z1 (l:=[(136,JQ)]) Zi rfl (⟨ZcK,trivial⟩) Zwn Tryz.func154 rfl rfl 2 (fun _=> rfl) V1 (fun ⟨w,mask,_⟩=> hb w mask ())
def ZpD:Zc U:=lvk [([0,1],[]),([0,1,7,8],[]),([0,(7,[.own .tree]),(8,[.own .tree]),9],[]),([0,7,8,9,22],[]),([0,7,8,9,28],[]),([0,(7,[.own .tree]),(8,[.own .tree]),9],[]),([0,(7,[.own .tree]),(8,[.own .tree]),9],[]),([0,(7,[.own .tree]),(8,[.own .tree]),9],[]),([4,5,6],[])]
def Z4x(l:List APair)(from_ x9:Int)(x7 x8:List Tree):LSt U:=(L2 [(0,.c (sU .pair l .unk)),(7,.c (sU .tree x7 (.own (.e 7 0)))),(8,.c (sU .tree x8 (.own (.e 8 0)))),pI 9 x9] [])
def Z7a(l:List APair)(from_ x9:Int)(x7_a x8_a:List Tree):LSt U:=(L2 [(0,.c (sU .pair l .unk)),(7,.c (sU .tree x7_a (.own (.e 7 0)))),(8,.c (sU .tree x8_a (.own (.e 8 0)))),pI 9 x9] [])
abbrev Zoh(p:List Nat):=AW (Z0 ZnJ) Tryz.f158 ZpD p
abbrev ZxN(p:List Nat):=SW (Z0 ZnJ) Tryz.f158 ZpD p
theorem ZGI(l:List APair)(from_:Int)(Q:QT)(h:(Zd (Zoh [1,1,1,0,0,0]) (Z4x l from_ from_ [] []) (xB 0 (ZxN [1,1,1,1] Q)))):
  Zoh [] (L2 [(0,.c (sU .pair l .unk)),pI 1 from_] []) Q:=
 (Eq.mpr V4 h:)
theorem ZtN(l:List APair)(from_ x9:Int)(x7 x8:List Tree)(N0:NT)(Q:QT)(h:∀ y_1,y_1=(l.getD x9.toNat (APair.mk 0 AUnit.nil AUnit.nil))->∀ y_2,y_2=(y_1.p.t)->∀ y_3,y_3=(y_1.q.t)->let z1:=xB 1 (xT N0 (xB 0 (ZxN [1,1,1,1] Q)));let z0:=decide (x9 < (l.length:Int));(Tt z0)/\(Tt z0)/\(z0=true->(0:Int)<=x9/\x9 < (l.length:Int))/\(Tt z0)/\(Tt z0)/\(Tt z0)/\(Tt z0)/\(iB (bif z0 then (y_1.of !=0) else false) (((0:Int)<=x9/\x9 < (l.length:Int))/\(iB (y_1.of==1) (((0:Int)<=x9/\x9 < (l.length:Int))/\((x7.length+([y_2]).length)*56<=140737488355328)/\(Zoh [1,1,1,0,0,0,1,0,1] (Z7a l from_ x9 (x7++([y_2])) x8) z1)) (((0:Int)<=x9/\x9 < (l.length:Int))/\((x8.length+([y_3]).length)*56<=140737488355328)/\(Zoh [1,1,1,0,0,0,1,0,1] (Z7a l from_ x9 x7 (x8++([y_3]))) z1)))) ((Q .ret (L2 [(4,.c (sU .tree x7 (.own (.e 4 0)))),(5,.c (sU .tree x8 (.own (.e 5 0)))),pI 6 x9] []))))):
  Zoh [1,1,1,0,0,0] (Z4x l from_ x9 x7 x8) (xT N0 (xB 0 (ZxN [1,1,1,1] Q))):=
 (Eq.mpr V4 (h _ rfl _ (Za _) _ (Za _)):)
theorem ZtO(l:List APair)(from_ x9:Int)(x7_a x8_a:List Tree)(N0:NT)(Q:QT)(h:(InR (x9+1))/\(N0 (Z4x l from_ (x9+1) x7_a x8_a))):
  Zoh [1,1,1,0,0,0,1,0,1] (Z7a l from_ x9 x7_a x8_a) (xB 1 (xT N0 (xB 0 (ZxN [1,1,1,1] Q)))):=
 (Eq.mpr V4 h:)
abbrev ZBl(l:List APair)(from_:Int):Prop:=AW (Z0 ZnJ) Tryz.f158 ZpD [] (Zh (Zrm.can (l,from_,())) []) (EQ Tryz.f158 (ZmR (l,from_,())) [])
theorem Zzu(hb:∀ (l:List APair) (from_:Int) (_:Unit),Zn8 (l,from_,())->ZBl l from_):CT 158 ZcW:=
 Z1 (l:=[]) Zi rfl trivial ZpD Tryz.func158 rfl rfl 2 (fun _=> rfl) V1 (fun ⟨l,from_,_⟩=> hb l from_ ())
def Zjp:List (FuncId × Fs U):=[(151,JR)]
abbrev ZFT(p:List Nat):=AW (Z0 Zjp) Tryz.f159 ZA4 p
abbrev ZIf(p:List Nat):=SW (Z0 Zjp) Tryz.f159 ZA4 p
theorem ZGH(a b:List Tree)(Q:QT)(h:(iB (((a.length:Int):Int) !=(b.length:Int)) ((Q .ret (L2 [pB 4 false] []))) ((Zd (ZFT [1,1,0,1,0,0]) (Za4 a b 0) (xB 0 (ZIf [1,1,1] Q)))))):
  ZFT [] (L2 [(0,.c (sU .tree a .unk)),(1,.c (sU .tree b .unk))] []) Q:=
 (Eq.mpr V4 h:)
theorem ZtM(a b:List Tree)(x5:Int)(N0:NT)(Q:QT)(h:let z3:=a.getD x5.toNat Tree.nil;let z2:=b.getD x5.toNat Tree.nil;let z1:=Tree.mk (Tree.kind z2) (Tree.words z2) (Tree.kids z2);let z0:=Tree.mk (Tree.kind z3) (Tree.words z3) (Tree.kids z3);(iB (decide (x5 < (a.length:Int))) (((0:Int)<=x5/\x5 < (a.length:Int))/\((0:Int)<=x5/\x5 < (b.length:Int))/\(Z23 (z0,z1,()))/\(iB (!(ZU (Z4 z0) (Z4 z1))) ((Q .ret (L2 [pB 4 false] []))) ((InR (x5+1))/\(N0 (Za4 a b (x5+1)))))) ((Q .ret (L2 [pB 4 true] []))))):
  ZFT [1,1,0,1,0,0] (Za4 a b x5) (xT N0 (xB 0 (ZIf [1,1,1] Q))):=
 (Eq.mpr V4 h:)
abbrev ZBk(a b:List Tree):Prop:=AW (Z0 Zjp) Tryz.f159 ZA4 [] (Zh (Zxz.can (a,b,())) []) (EQ Tryz.f159 (ZuV (a,b,())) [])
theorem Zzt(ZcJ:CT 151 JR)(hb:∀ (a:List Tree) (b:List Tree) (_:Unit),Zn7 (a,b,())->ZBk a b):CT 159 ZcV:=
 Z1 (l:=[(151,JR)]) Zi rfl (⟨ZcJ,trivial⟩) ZA4 Tryz.func159 rfl rfl 2 (fun _=> rfl) V1 (fun ⟨a,b,_⟩=> hb a b ())
def Zwm:Zc U:=lvk [([(0,[.wr .op]),1],[]),([(0,[.wr .op]),1,6],[]),([(4,[.wr .op])],[]),([(4,[.wr .op])],[])]
abbrev ZJs(p:List Nat):=AW (Z0 ZnJ) Tryz.f160 Zwm p
theorem ZGG(l:List Op)(n:Int)(Q:QT)(h:let z0:=Edit.mk 0 (Tree.mk 0 [] []) (Tree.mk 0 [] []) [] [] 0 [];(iB (n==0) ((Q .ret (⟨[(4,.c (.mref (.e 4 0)))],[],[(.e 4 0,LC.mk (U:=U) .op l 0)]⟩:LSt U))) (((l.length+([(OpOf.mk 0 n [] z0)]).length)*240<=140737488355328)/\(Q .ret (⟨[(4,.c (.mref (.e 4 0)))],[],[(.e 4 0,LC.mk (U:=U) .op (l++([(OpOf.mk 0 n [] z0)])) 0)]⟩:LSt U))))):
  ZJs [] (⟨[(0,.c (.mref (.e 0 0))),pI 1 n],[],[(.e 0 0,LC.mk (U:=U) .op l 0)]⟩:LSt U) Q:=
 (Eq.mpr V4 h:)
abbrev ZBj(l:List Op)(n:Int):Prop:=AW (Z0 ZnJ) Tryz.f160 Zwm [] (JK (ZdL.can (l,n,())) (ZdL.canX (l,n,())) (ZdL.canL (l,n,()))) (Z09 cfg Tryz.f160.ntmps Tryz.f160.results.toList (Zin (l,n,())) (Zdk (l,n,())) (Zdq (l,n,())))
theorem Zzs(hb:∀ (l:List Op) (n:Int) (_:Unit),Zfb (l,n,())->ZBj l n):CT 160 ZcU:=
 Contract.passing <| Yg (l:=[]) Zi rfl trivial Zwm Tryz.func160 rfl rfl 2 (fun _=> rfl) V1 (fun ⟨l,n,_⟩=> hb l n ())
def Zwl:Zc U:=lvk [([(0,[.wr .op]),1],[]),([(0,[.wr .op]),1,7],[]),([(4,[.wr .op])],[]),([(4,[.wr .op])],[])]
abbrev ZJr(p:List Nat):=AW (Z0 ZnJ) Tryz.f161 Zwl p
theorem ZGF(l:List Op)(t:List Tree)(Q:QT)(h:let z0:=Edit.mk 0 (Tree.mk 0 [] []) (Tree.mk 0 [] []) [] [] 0 [];(iB (((t.length:Int):Int)==0) ((Q .ret (⟨[(4,.c (.mref (.e 4 0)))],[],[(.e 4 0,LC.mk (U:=U) .op l 0)]⟩:LSt U))) (((l.length+([(OpOf.mk 2 0 t z0)]).length)*240<=140737488355328)/\(Q .ret (⟨[(4,.c (.mref (.e 4 0)))],[],[(.e 4 0,LC.mk (U:=U) .op (l++([(OpOf.mk 2 0 t z0)])) 0)]⟩:LSt U))))):
  ZJr [] (⟨[(0,.c (.mref (.e 0 0))),(1,.c (sU .tree t .unk))],[],[(.e 0 0,LC.mk (U:=U) .op l 0)]⟩:LSt U) Q:=
 (Eq.mpr V4 h:)
abbrev ZBi(l:List Op)(t:List Tree):Prop:=AW (Z0 ZnJ) Tryz.f161 Zwl [] (JK (ZdK.can (l,t,())) (ZdK.canX (l,t,())) (ZdK.canL (l,t,()))) (Z09 cfg Tryz.f161.ntmps Tryz.f161.results.toList (Zim (l,t,())) (Zdj (l,t,())) (Zdp (l,t,())))
theorem Zzr(hb:∀ (l:List Op) (t:List Tree) (_:Unit),ZaV (l,t,())->ZBi l t):CT 161 ZcT:=
 Contract.passing <| Yg (l:=[]) Zi rfl trivial Zwl Tryz.func161 rfl rfl 2 (fun _=> rfl) V1 (fun ⟨l,t,_⟩=> hb l t ())
abbrev ZJd(p:List Nat):=AW (Z0 ZnJ) Tryz.f202 Zw9 p
theorem ZGd(e:Edit)(Q:QT)(h:(iB (e.kind==0) ((Q .ret (L2 [pL 2] [(.loc 2,[ci 0,ci 1,.nils,ci 0,ci 0,.nils,.nils,ci 0,.nils,.nils,.nils,.nils,ci 0,.nils])]))) ((Q .ret (L2 [pL 2] [(.loc 2,([ci 3,ci 0,.nils]++enc .edit e))]))))):
  ZJd [] (L2 [(0,.agg (enc .edit e))] []) Q:=
 (Eq.mpr V4 h:)
abbrev ZAQ(e:Edit):Prop:=AW (Z0 ZnJ) Tryz.f202 Zw9 [] (Zh (Zrz.can (e,())) []) (EQ Tryz.f202 (Zid (e,())) [])
theorem Zz2(hb:∀ (e:Edit) (_:Unit),ZiE (e,())->ZAQ e):CT 202 ZcQ:=
 Z1 (l:=[]) Zi rfl trivial Zw9 Tryz.func202 rfl rfl 1 (fun _=> rfl) V1 (fun ⟨e,_⟩=> hb e ())
def ZpB:Zc U:=lvl [([0,1,4],[4]),([0,1,4,5],[4]),([0,1,4,5,9],[4]),([0,1,4,5],[4]),([0,1,4,5,17],[4]),([4],[4]),([4],[4])]
def Z78(list:Int)(l:List Op)(x5:Int):LSt U:=(L2 [pI 0 list,(1,.c (sU .op l .unk)),pL 4,pI 5 x5] [(.loc 4,zc1)])
abbrev ZFS(p:List Nat):=AW (Z0 ZnJ) Tryz.f163 ZpB p
abbrev ZIe(p:List Nat):=SW (Z0 ZnJ) Tryz.f163 ZpB p
theorem ZGD(list:Int)(l:List Op)(Q:QT)(h:(Zd (ZFS [1,0,1,0,0]) (Z78 list l 0) (xB 0 (ZIe [1,1] Q)))):
  ZFS [] (L2 [pI 0 list,(1,.c (sU .op l .unk))] []) Q:=
 (Eq.mpr V4 h:)
theorem ZtL(list:Int)(l:List Op)(x5:Int)(N0:NT)(Q:QT)(h:(iB (decide (x5 < (l.length:Int))) (((0:Int)<=x5/\x5 < (l.length:Int))/\(iB (((OpOf.kind (l.getD x5.toNat Op.nil)):Int) !=0) ((Q .ret (L2 [pL 4] [(.loc 4,[ci 3,ci 0,.nils,.nils,ci 0,.nils,.nils,.nils,.nils,ci list,sU .op l .unk])]))) ((InR (x5+1))/\(N0 (Z78 list l (x5+1)))))) ((Q .ret (L2 [pL 4] [(.loc 4,zc1)]))))):
  ZFS [1,0,1,0,0] (Z78 list l x5) (xT N0 (xB 0 (ZIe [1,1] Q))):=
 (Eq.mpr V4 h:)
abbrev ZBg(list:Int)(l:List Op):Prop:=AW (Z0 ZnJ) Tryz.f163 ZpB [] (Zh (ZdS.can (list,l,())) []) (EQ Tryz.f163 (Ziq (list,l,())) [])
theorem Zzq(hb:∀ (list:Int) (l:List Op) (_:Unit),Zfd (list,l,())->ZBg list l):CT 163 Zd3:=
 Z1 (l:=[]) Zi rfl trivial ZpB Tryz.func163 rfl rfl 2 (fun _=> rfl) V1 (fun ⟨list,l,_⟩=> hb list l ())
def Zqz:List (FuncId × Fs U):=[(135,Z3s),(151,JR)]
def ZwE:Zc U:=lvl [([3,4,5,6],[3,4,5,6]),([5,6,7,8],[5,6,7]),([6],[6])]
abbrev ZJI(p:List Nat):=AW (Z0 Zqz) Tryz.f108 ZwE p
theorem ZHd(e:Edit)(old now:Tree)(Q:QT)(h:∀ y_1,y_1=e->∀ y_2,y_2=now->∀ y_3,y_3=old->∀ y_4,y_4=(Z0O (doE true y_1 y_3))->let z0:=doE true y_1 y_3;((Z4c (y_1,y_3,()))/\((Tt (z0.isSome))/\(Tt (z0.isSome))/\((z0.isSome)=true->Z23 (y_4,y_2,()))/\(Tt (z0.isSome))/\(Tt (z0.isSome))/\(Q .ret (L2 [pL 6] [(.loc 6,[ci 0,ci 0,.nils,.nils,ci 0,.nils,.nils,.nils,.nils,ci 0,.nils,ci 0,ci 0,.nils,.nils,ci 0,.nils,.nils,.nils,.nils,ci 0,.nils,.bool (bif (z0.isSome) then (!(ZU (Z4 y_4) (Z4 y_2))) else false),.bool (!(z0.isSome))])]))))):
  ZJI [] (L2 [(0,.agg (enc .edit e)),(1,.agg (enc .tree old)),(2,.agg (enc .tree now))] []) Q:=
 (Eq.mpr V4 (h _ (Z7 _) _ (Za _) _ (Za _) _ (Za _)):)
abbrev ZBQ(e:Edit)(old now:Tree):Prop:=AW (Z0 Zqz) Tryz.f108 ZwE [] (Zh (ZrE.can (e,old,now,())) []) (EQ Tryz.f108 (Zv9 (e,old,now,())) [])
theorem ZzT(Zt6:CT 135 Z3s)(ZcJ:CT 151 JR)(hb:∀ (e:Edit) (old:Tree) (now:Tree) (_:Unit),ZiT (e,old,now,())->ZBQ e old now):CT 108 Zdb:=
 Z1 (l:=[(135,Z3s),(151,JR)]) Zi rfl (⟨Zt6,ZcJ,trivial⟩) ZwE Tryz.func108 rfl rfl 3 (fun _=> rfl) V1 (fun ⟨e,old,now,_⟩=> hb e old now ())
end
theorem ZEJ:Contract Tryz.prog cfg 153 Zd1:=by
 refine Zzz ?_
 intro l a _ hp
 have hp:l.length<=1000000:=hp
 refine ZGN _ _ _ ?_
 refine Z5 (ι:=Int) (fun i=> Z7e l a i) (fun i=> 0<=i/\i<=l.length/\Yy (fun w:WEdit=> decide (WEdit.at_ w=a)) l 0=Yy (fun w:WEdit=> decide (WEdit.at_ w=a)) (l.drop i.toNat) i) (fun i=> ((l.length:Int) - i).toNat) 0 rfl ⟨YS,YS,by simp⟩ ?_
 rintro i ⟨f1,f2,f3⟩
 refine ZtU _ _ _ _ _ ?_
 (simp only [iB,vcT,vcS])
 refine ⟨fun hi=> ?_,fun hi=> ?_⟩
 .rw [ZQ f1 hi ⟨0,0,0,0⟩,Yy] at f3
  generalize hw:l.getD i.toNat ⟨0,0,0,0⟩=w at*
  refine ⟨⟨f1,hi⟩,fun he=> ?_,fun he=> ⟨V3,i+1,rfl,⟨YS,YS,by rw [f3,if_neg (by simpa using he)]⟩,YS⟩⟩
  rw [if_pos (by simpa using he)] at f3
  exact Yd rfl f3.symm
 .rw [Q9 YS] at f3
  exact Yd rfl f3.symm
theorem ZEH:Contract Tryz.prog cfg 155 ZcZ:=by
 refine Zzx ?_
 intro l a _ hp
 have hp:l.length<=1000000:=hp
 refine ZGL _ _ _ ?_
 refine Z5 (ι:=Int) (fun i=> Z7d l a i) (fun i=> 0<=i/\i<=l.length/\Yy (fun k:Kid=> decide (KidOf.at_ k=a)) l 0=Yy (fun k:Kid=> decide (KidOf.at_ k=a)) (l.drop i.toNat) i) (fun i=> ((l.length:Int) - i).toNat) 0 rfl ⟨YS,YS,by simp⟩ ?_
 rintro i ⟨f1,f2,f3⟩
 refine ZtT _ _ _ _ _ ?_
 (simp only [iB,vcT,vcS])
 refine ⟨fun hi=> ?_,fun hi=> ?_⟩
 .rw [ZQ f1 hi ⟨0,Edit.nil⟩,Yy] at f3
  generalize hw:l.getD i.toNat ⟨0,Edit.nil⟩=w at*
  refine ⟨⟨f1,hi⟩,fun he=> ?_,fun he=> ⟨V3,i+1,rfl,⟨YS,YS,by rw [f3,if_neg (by simpa using he)]⟩,YS⟩⟩
  rw [if_pos (by simpa using he)] at f3
  exact Yd rfl f3.symm
 .rw [Q9 YS] at f3
  exact Yd rfl f3.symm
theorem ZEI:Contract Tryz.prog cfg 154 Zd0:=by
 refine Zzy ZcK ?_
 intro w m _ hp
 obtain ⟨rw_,hm⟩:=hp
 dsimp only at rw_ hm
 obtain ⟨s1,s2,s3⟩:=Zux rw_.2.1 hm
 have e:IntKind.wrap .u8 (w.mask - IntKind.wrap .u8 (BitVec.ofInt (IntKind.bits .u8) w.mask &&& BitVec.ofInt (IntKind.bits .u8) m).toNat)=(Z4n w (Z7P m)).1.mask:=(Z3m s2 s3).trans s1
 have r:0<=(Z4n w (Z7P m)).1.mask/\(Z4n w (Z7P m)).1.mask < 256:=by
  have e2:(Z4n w (Z7P m)).1.mask=w.mask - Z1h w.mask m:=s1.symm
  omega
 have z0:(0:Int)<=0/\(0:Int) < 18446744073709551616:=V1
 refine ZGM _ _ _ ?_
 simp only [e]
 (simp only [iB,vcT,vcS])
 refine ⟨fun h=> ?_,fun h=> ⟨⟨z0,rw_.2.2.1,r⟩,⟨z0,rw_.2.2.2,r⟩,?_⟩⟩
 .refine Z1O (r':= .c (.slice (U:=U) .wedit [] .unk)) ?_ JP
  simp only [Zip,Z4d]
  rw [if_pos h]
 .refine Z1O (r':= .c (.slice (U:=U) .wedit [(Z4n w (Z7P m)).1] .unk)) ?_ JP
  simp only [Zip,Z4d]
  rw [if_neg h]
theorem ZEE:Contract Tryz.prog cfg 158 ZcW:=by
 refine Zzu ?_
 intro l from_ _ hp
 obtain ⟨h1,h2,h3⟩:=hp
 dsimp only at h1 h2 h3
 refine ZGI _ _ _ ?_
 refine Z5 (ι:=Int × List Tree × List Tree) (fun s=> Z4x l from_ s.1 s.2.1 s.2.2) (fun s=> (0<=s.1/\s.1<=l.length)/\(Z3g (l.drop from_.toNat)=s.2.1++Z3g (l.drop s.1.toNat)/\Z3f (l.drop from_.toNat)=s.2.2++Z3f (l.drop s.1.toNat)/\from_+Z07 (l.drop from_.toNat)=s.1+Z07 (l.drop s.1.toNat))/\(s.2.1.length:Int)<=s.1/\(s.2.2.length:Int)<=s.1)
  (fun s=> ((l.length:Int) - s.1).toNat) (from_,[],[]) rfl ⟨⟨h1,h2⟩,⟨rfl,rfl,rfl⟩,h1,h1⟩ ?_
 rintro ⟨i,a,b⟩ ⟨⟨i0,i1⟩,⟨f1,f2,f3⟩,l1,l2⟩
 dsimp only at i0 i1 f1 f2 f3 l1 l2
 refine ZtN _ _ _ _ _ _ _ ?_
 intro y1 e1 y2 e2 y3 e3
 have go:∀ (a' b':List Tree) (N0:LSt U->Prop) (Q:AExit->LSt U->Prop),i < l.length->N0 (Z4x l from_ (i+1) a' b')->Zoh [1,1,1,0,0,0,1,0,1] (Z7a l from_ i a' b') (AExit.inBlock 1 (AExit.then N0 (AExit.inBlock 0 (ZxN [1,1,1,1] Q)))):=fun a' b' N0 Q hi h=> ZtO _ _ _ _ _ _ _ ⟨V3,h⟩
 have hd:i < l.length->l.drop i.toNat=y1 ::l.drop (i+1).toNat:=fun hi=> by rw [e1];exact ZQ i0 hi _
 (simp only [iB,vcT,vcS])
 refine ⟨fun hi=> ⟨i0,hi⟩,fun hc=> ⟨⟨i0,hc.1⟩,fun c1=> ⟨⟨i0,hc.1⟩,by simp only [Q6,Q8];omega,go _ _ _ _ hc.1 ⟨(i+1,a++[y2],b),rfl,⟨⟨V2,V2⟩,?_,by simp only [List.length_append,List.length_cons,List.length_nil];omega,V2⟩,V2⟩⟩,
  fun c1=> ⟨⟨i0,hc.1⟩,by simp only [Q6,Q8];omega,go _ _ _ _ hc.1 ⟨(i+1,a,b++[y3]),rfl,⟨⟨V2,V2⟩,?_,V2,by simp only [List.length_append,List.length_cons,List.length_nil];omega⟩,V2⟩⟩⟩,fun hc=> ?_⟩
 .rw [hd hc.1,Z3g,if_neg hc.2,if_pos c1,<-e2] at f1
  rw [hd hc.1,Z3f,if_neg hc.2,if_pos c1] at f2
  rw [hd hc.1,Z07,if_neg hc.2] at f3
  exact ⟨by rw [f1];simp,f2,by rw [f3];dsimp only;omega⟩
 .rw [hd hc.1,Z3g,if_neg hc.2,if_neg c1] at f1
  rw [hd hc.1,Z3f,if_neg hc.2,if_neg c1,<-e3] at f2
  rw [hd hc.1,Z07,if_neg hc.2] at f3
  exact ⟨f1,by rw [f2];simp,by rw [f3];dsimp only;omega⟩
 .have z:Z3g (l.drop i.toNat)=[]/\Z3f (l.drop i.toNat)=[]/\Z07 (l.drop i.toNat)=0:=by
   by_cases hi:i < l.length
   .have h0:y1.of=0:=by
     rcases hc with h | h
     .omega
     .exact h
    rw [hd hi,Z3g,Z3f,Z07,if_pos h0,if_pos h0,if_pos h0]
    exact ⟨rfl,rfl,rfl⟩
   .rw [Q9 YS];exact ⟨rfl,rfl,rfl⟩
  rw [z.1,Qo] at f1
  rw [z.2.1,Qo] at f2
  rw [z.2.2,Int.add_zero] at f3
  simp only [ZmR,f1,f2,f3]
  exact JP
theorem ZsT(x y:Tree)(r s:List Tree):Z2u (x ::r) (y ::s)=(ZU (Z4 x) (Z4 y) && Z2u r s):=by
 unfold Z2u
 rw [Qs,Q3,YO,YO,J4]
 simp [Z8]
theorem ZED:Contract Tryz.prog cfg 159 ZcV:=by
 refine Zzt ZcJ ?_
 intro a b _ hp
 obtain ⟨h1,h2⟩:=hp
 dsimp only at h1 h2
 have ln:=Zq a
 refine ZGH _ _ _ ?_
 (simp only [iB,vcT,vcS])
 refine ⟨fun hn=> ?_,fun hl=> ?_⟩
 .refine Zf rfl ?_
  have:Z2u a b≠true:=by
   intro h
   unfold Z2u at h
   rw [YO] at h
   have:=congrArg List.length h
   simp only [Z8,Qv] at this
   omega
  exact (Bool.eq_false_iff.2 this).symm
 .refine Z5 (ι:=Int) (fun i=> Za4 a b i) (fun i=> (0<=i/\i<=a.length)/\Z2u a b=Z2u (a.drop i.toNat) (b.drop i.toNat)) (fun i=> ((a.length:Int) - i).toNat) 0 rfl ⟨⟨YS,YS⟩,rfl⟩ ?_
  rintro i ⟨⟨f1,f2⟩,f3⟩
  refine ZtM _ _ _ _ _ ?_
  (simp only [Tree.eta,Edit.eta,Tree.kind_mk,Tree.words_mk,Tree.kids_mk])
  (simp only [iB,vcT,vcS])
  refine ⟨fun hi=> ?_,fun hi=> ?_⟩
  .rw [ZQ f1 hi Tree.nil,ZQ f1 (show i < b.length by omega) Tree.nil,ZsT] at f3
   have m1:=YN (Ze (l:=a) (i:=i.toNat) YS Tree.nil)
   have m2:=YN (Ze (l:=b) (i:=i.toNat) YS Tree.nil)
   generalize a.getD i.toNat Tree.nil=x at*
   generalize b.getD i.toNat Tree.nil=y at*
   refine ⟨⟨f1,hi⟩,⟨f1,YS⟩,⟨V2,V2⟩,fun h=> ?_,fun h=> ⟨V3,i+1,rfl,⟨⟨YS,YS⟩,?_⟩,YS⟩⟩
   .refine Zf rfl ?_
    rw [f3,h];try rfl
   .rw [f3,h,QG]
  .rw [Q9 YS,Q9 YS] at f3
   refine Zf rfl ?_
   rw [f3]
   exact (YO.2 rfl).symm
theorem ZEC:Contract Tryz.prog cfg 160 ZcU:=by
 refine Zzs ?_
 intro l n _ hp
 obtain ⟨h1,h2⟩:=hp
 dsimp only at h1 h2
 refine ZGG _ _ _ ?_
 (simp only [iB,vcT,vcS])
 refine ⟨fun h=> ?_,fun h=> ⟨by simp only [Q6,Q8];omega,?_⟩⟩
 .have e:l++Yl n.toNat=l:=by unfold Yl;rw [V0,List.append_nil]
  simp only [Zin,Zdk,Zdq,e]
  exact JP
 .have e:Yl n.toNat=[⟨0,n,[],Edit.nil⟩]:=by unfold Yl;rw [JL,show ((n.toNat:Nat):Int)=n by omega]
  simp only [Zin,Zdk,Zdq,e]
  exact JP
theorem ZEB:Contract Tryz.prog cfg 161 ZcT:=by
 refine Zzr ?_
 intro l t _ hp
 have h1:l.length<=500000000000:=hp
 refine ZGF _ _ _ ?_
 (simp only [iB,vcT,vcS])
 refine ⟨fun h=> ?_,fun h=> ⟨by simp only [Q6,Q8];omega,?_⟩⟩
 .have e:l++Z0g t=l:=by unfold Z0g;rw [if_pos (List.eq_nil_of_length_eq_zero YS),List.append_nil]
  simp only [Zim,Zdj,Zdp,e]
  exact JP
 .have e:Z0g t=[⟨2,0,t,Edit.nil⟩]:=by unfold Z0g;rw [if_neg (by rintro rfl;exact h rfl)]
  simp only [Zim,Zdj,Zdp,e]
  exact JP
theorem ZEj:Contract Tryz.prog cfg 202 ZcQ:=by
 refine Zz2 ?_
 intro e _ _
 refine ZGd _ _ ?_
 (simp only [iB,vcT,vcS])
 refine ⟨fun h=> ?_,fun h=> ?_⟩
 .refine Z1O (r':= .agg (enc .op ⟨0,1,[],Edit.nil⟩)) ?_ JP
  simp only [Zid,Z0j]
  rw [if_pos h]
  try rfl
 .refine Z1O (r':= .agg (enc .op ⟨3,0,[],e⟩)) ?_ JP
  simp only [Zid,Z0j]
  rw [if_neg h]
  try rfl
theorem ZEA:Contract Tryz.prog cfg 163 Zd3:=by
 refine Zzq ?_
 intro list l _ hp
 have hp:l.length<=1000000000000:=hp
 refine ZGD _ _ _ ?_
 refine Z5 (ι:=Int) (fun i=> Z78 list l i) (fun i=> 0<=i/\i<=l.length/\(l.any fun o=> !decide (o.kind=0))=((l.drop i.toNat).any fun o=> !decide (o.kind=0))) (fun i=> ((l.length:Int) - i).toNat) 0 rfl ⟨YS,YS,rfl⟩ ?_
 rintro i ⟨f1,f2,f3⟩
 refine ZtL _ _ _ _ _ ?_
 (simp only [iB,vcT,vcS])
 refine ⟨fun hi=> ?_,fun hi=> ?_⟩
 .rw [ZQ f1 hi Op.nil,XZ] at f3
  generalize l.getD i.toNat Op.nil=o at*
  refine ⟨⟨f1,hi⟩,fun h=> ?_,fun h=> ⟨V3,i+1,rfl,⟨YS,YS,by rw [f3,decide_eq_true h];rfl⟩,YS⟩⟩
  refine Z1O (r':= .agg (enc .edit (.mk 3 Tree.nil Tree.nil [] [] list l))) ?_ JP
  simp only [Ziq,Yx]
  rw [if_pos (by rw [f3,decide_eq_false h];rfl)]
  try rfl
 .rw [Q9 YS] at f3
  refine Z1O (r':= .agg (enc .edit Edit.nil)) ?_ JP
  simp only [Ziq,Yx]
  rw [if_neg (by rw [f3];simp)]
  try rfl
theorem ZvR{e:Edit}{t:Tree}(h:J2 e)(hm:Zm t<=100000000000):Zm (Z0O (doE true e t))<=1000000000000:=by
 have:=Ju h
 have:=h.1
 rw [Zak]
 exact ZfH h.2.2 YS
theorem ZEY:Contract Tryz.prog cfg 108 Zdb:=by
 refine ZzT Zt6 ZcJ ?_
 intro e old now _ hp
 obtain ⟨h1,⟨h2,h3⟩,h4⟩:=hp
 dsimp only at h1 h2 h3 h4
 refine ZHd _ _ _ _ ?_
 intro y1 e1 y2 e2 y3 e3 y4 e4
 subst e1 e2 e3
 (simp only [iB,vcT,vcS])
 refine ⟨ZbD h1 h2 h3,fun _=> ⟨by rw [e4];exact ZvR h1 h2,V2⟩,?_⟩
 refine Z1O (r':= .agg (enc .left (Z21 (Z0w y1 y3 y2)))) rfl ?_
 have e:(bif (doE true y1 y3).isSome then !(ZU (Z4 y4) (Z4 y2)) else false)=(Z0w y1 y3 y2).c:=by
  rw [e4]
  unfold Z0w
  dsimp only
  cases (doE true y1 y3).isSome <;> rfl
 rw [e]
 exact JP
noncomputable section
def Zf0(a:Edit × Edit × Unit):Prop:=J2 a.1/\J2 a.2.1
def ZvL(a:Edit × Edit × Unit):Nat:=8*(Z3 a.1+Z3 a.2.1)+1
def ZkO(a:Edit × Edit × Unit):V U:= .agg (enc .left (Z21 (rbE a.1 a.2.1)))
def ZaD:Fs U:=fs Zoa (fun a=> [Zf0 a]) ZkO
def Zfk(a:Edit × Edit × Unit):Prop:=Edit.kind a.1=2/\Edit.kind a.2.1=2/\J2 a.1/\J2 a.2.1
def Zpk(a:Edit × Edit × Unit):Nat:=8*(Z3 a.1+Z3 a.2.1)
def ZeP(a:Edit × Edit × Unit):V U:= .agg (enc .left (Z21 (Z10 rbE a.1 a.2.1)))
def ZoC:Fs U:=fs Zoa (fun a=> [Zfk a]) ZeP
def Zfj(a:Edit × Edit × Unit):Prop:=Edit.kind a.1=3/\Edit.kind a.2.1=3/\J2 a.1/\J2 a.2.1
def ZeO(a:Edit × Edit × Unit):V U:= .agg (enc .left (Z21 (Z3b rbE a.1 a.2.1)))
def ZoB:Fs U:=fs Zoa (fun a=> [Zfj a]) ZeO
def ZdJ:ArgL (AUnit × AUnit × Unit):=(.cons (aEl .unit) (.cons (aEl .unit) .nil))
def Zfa(a:AUnit × AUnit × Unit):Prop:=(uOk a.1/\uOk a.2.1)/\AUnit.kind a.1≠2/\AUnit.kind a.2.1≠2
def Zph(a:AUnit × AUnit × Unit):Nat:=8*(Z3 a.1.e+Z3 a.2.1.e)+2
def ZeM(a:AUnit × AUnit × Unit):V U:= .tup [(false,[sU .op ((Y4 rbE a.1 a.2.1).x) .unk]),(false,[sU .op ((Y4 rbE a.1 a.2.1).y) .unk]),(false,[.bool ((Y4 rbE a.1 a.2.1).c)]),(false,[.bool ((Y4 rbE a.1 a.2.1).a)])]
def Zox:Fs U:=fs ZdJ (fun a=> [Zfa a]) ZeM
def Z3R(N:Nat):List (FuncId × Fs U):=(68,fs Zoa (fun a=> [Zf0 a,ZvL a < N]) ZkO) ::(109,fs Zoa (fun a=> [Zfk a,Zpk a < N]) ZeP) ::(110,fs Zoa (fun a=> [Zfj a,Zpk a < N]) ZeO) ::(162,fs ZdJ (fun a=> [Zfa a,Zph a < N]) ZeM) ::[(135,Z3s),(151,JR),(152,Zd2),(156,ZcY),(157,ZcX),(201,ZcP),(136,JQ),(108,Zdb),(153,Zd1),(154,Zd0),(155,ZcZ),(158,ZcW),(159,ZcV),(160,ZcU),(161,ZcT),(163,Zd3),(202,ZcQ)]
def ZDS:Zc U:=lvl [([2,3,4],[2,3,4]),([2,3,4,5],[2,3,4]),([4],[4]),([2,3,4,17],[2,3,4]),([4],[4]),([2,3,4,27],[2,3,4]),([4],[4]),([2,3,4,37],[2,3,4]),([4],[4]),([2,3,4,44],[2,3,4]),([4],[4]),([4],[4])]
abbrev A68(N:Nat)(p:List Nat):=AW (Z0 (Z3R N)) Tryz.f68 ZDS p
theorem ZIF(N:Nat)(p q:Edit)(Q:QT)(h:∀ y_1,y_1=p->∀ y_2,y_2=q->∀ y_3,y_3=(p.new)->∀ y_4,y_4=(q.new)->∀ y_5,y_5=(p.old)->∀ y_6,y_6=(q.old)->((Tt (!(p.kind==0)))/\(Tt (!(p.kind==0)))/\((p.kind==0)=false->(!(p.kind==0))=true)/\(iB (bif (p.kind==0) then true else (q.kind==0)) ((Q .ret (L2 [pL 4] [(.loc 4,(enc .edit p++enc .edit q++[.bool false,.bool false]))]))) ((iB (p.kind==1) ((ZiT (y_2,y_5,y_3,()))/\(Q .ret (L2 [pL 4] [(.loc 4,(enc .left (Z21 (Z0w y_2 y_5 y_3))))]))) ((iB (q.kind==1) ((ZiT (y_1,y_6,y_4,()))/\(Q .ret (L2 [pL 4] [(.loc 4,(enc .left (Z21 (Z0w y_1 y_6 y_4))))]))) ((iB (p.kind !=q.kind) ((Q .ret (L2 [pL 4] [(.loc 4,[ci 0,ci 0,.nils,.nils,ci 0,.nils,.nils,.nils,.nils,ci 0,.nils,ci 0,ci 0,.nils,.nils,ci 0,.nils,.nils,.nils,.nils,ci 0,.nils,.bool false,.bool true])]))) ((iB (p.kind==2) ((Zfk (y_1,y_2,()))/\(Zpk (y_1,y_2,()) < N)/\(Q .ret (L2 [pL 4] [(.loc 4,(enc .left (Z21 (Z10 rbE y_1 y_2))))]))) ((Zfj (y_1,y_2,()))/\(Zpk (y_1,y_2,()) < N)/\(Q .ret (L2 [pL 4] [(.loc 4,(enc .left (Z21 (Z3b rbE y_1 y_2))))])))))))))))))):
  A68 N [] (L2 [(0,.agg (enc .edit p)),(1,.agg (enc .edit q))] []) Q:=
 (Eq.mpr V4 (h _ (Z7 _) _ (Z7 _) _ (Za _) _ (Za _) _ (Za _) _ (Za _)):)
abbrev ZFs(N:Nat)(p q:Edit):Prop:=AW (Z0 (Z3R N)) Tryz.f68 ZDS [] (Zh (Zoa.can (p,q,())) []) (EQ Tryz.f68 (ZkO (p,q,())) [])
abbrev ZIo:Prop:=∀ (N:Nat) (p:Edit) (q:Edit) (_:Unit),Zf0 (p,q,())->ZvL (p,q,()) < N+1->ZFs N p q
def ZjB(N:Nat):List (FuncId × Fs U):=Z3R N
def ZpO:Zc U:=lvk [([2,3,4],[2,3,4]),([2,3,4,5],[2,3,4,5]),([2,3,4,5,6,7],[2,3,4,5,6,7]),([2,3,4,5,6,7,8,9],[2,3,4,5,6,7]),([2,3,4,5,6,7,8,9,10],[2,3,4,5,((.loc 6),(an 7 [.own .wedit])),((.loc 7),(an 7 [.own .wedit]))]),([2,3,4,5,6,7,8,9,10,32],[2,3,4,5,6,7]),([2,3,4,5,6,7,8,9,10],[2,3,4,5,((.loc 6),(an 7 [.own .wedit])),((.loc 7),(an 7 [.own .wedit]))]),([2,3,4,5,6,7,8,9,10,11,12],[2,3,4,5,6,7]),([2,3,4,5,6,7,8,9,10,13,14],[2,3,4,5,6,7,13,14]),([2,3,4,5,6,7,8,9,10,13,14,15],[2,3,4,5,6,7,13,14]),([2,3,4,5,6,7,8,9,10,13,14,15],[2,3,4,5,6,7,13,14]),([2,3,4,5,6,7,8,9,10,13,14],[2,3,4,5,6,7,13,14]),([2,3,4,5,6,7,8,9,10,13,14],[2,3,4,5,6,7,13,14]),([2,3,4,5,6,7,8,9,10],[2,3,4,5,6,7]),([2,3,4,5,6,7,8,9,10,11,12,108],[2,3,4,5,6,7]),([2,3,4,5,6,7,8,9,10],[2,3,4,5,6,7]),([2,3,4,5,6,7,8,9,10,11,12,121],[2,3,4,5,6,7]),([2,3,4,5,6,7,8,9,10],[2,3,4,5,6,7]),([2,3,4,5,6,7,9,16],[2,3,4,5,((.loc 6),(an 8 [.own .kid])),((.loc 7),(an 8 [.own .kid]))]),([2,3,4,5,6,7,9,16,137],[2,3,4,5,6,7]),([2,3,4,5,6,7,9,16],[2,3,4,5,((.loc 6),(an 8 [.own .kid])),((.loc 7),(an 8 [.own .kid]))]),([2,3,4,5,6,7,9,16,17,18],[2,3,4,5,6,7]),([2,3,4,5,6,7,9,16,17,18,19],[2,3,4,5,6,7,19]),([2,3,4,5,6,7,9,16,19],[2,3,4,5,6,7,19]),([2,3,4,5,6,7,9,16,17,18,19,168],[2,3,4,5,6,7,19]),([2,3,4,5,6,7,9,16,19],[2,3,4,5,6,7,19]),([2,3,4,5,6,7,9,16,17,18,19,178],[2,3,4,5,6,7,19]),([2,3,4,5,6,7,9,16,19],[2,3,4,5,6,7,19]),([2,3,4,5,6,7,9,16,19],[2,3,4,5,6,7,19]),([2,3,4,5,6,7,9,16,19],[2,3,4,5,6,7,19]),([2,3,4,5,6,7,9,16,19,205],[2,3,4,5,6,7,19]),([2,3,4,5,6,7,9,16,19],[2,3,4,5,6,7,19]),([2,3,4,5,6,7,9,16,19,221],[2,3,4,5,6,7,19]),([2,3,4,5,6,7,9,16],[2,3,4,5,6,7]),([4,5,6,7,241],[4,5,6,7]),([4,5,7],[4,5,7]),([4,5,7,251],[4,5,7]),([4,5],[4,5]),([4],[4])]
def Z0V(p q:Edit)(x10:Int)(ml5_22 ml5_23:Bool)(ml6_7 ml7_7:List WEdit):LSt U:=(L2 [pL 2,pL 3,pL 4,pL 5,pL 6,pL 7,(8,.c (sU .int (Yv ((Edit.mk p.kind (Tree.mk p.old.kind p.old.words p.old.kids) (Tree.mk p.new.kind p.new.words p.new.kids) p.words p.kids p.list p.ops).words.map WEdit.at_) ((Edit.mk q.kind (Tree.mk q.old.kind q.old.words q.old.kids) (Tree.mk q.new.kind q.new.words q.new.kids) q.words q.kids q.list q.ops).words.map WEdit.at_)) .unk)),(9,.c (sU .int (Yv ((Edit.mk p.kind (Tree.mk p.old.kind p.old.words p.old.kids) (Tree.mk p.new.kind p.new.words p.new.kids) p.words p.kids p.list p.ops).kids.map KidOf.at_) ((Edit.mk q.kind (Tree.mk q.old.kind q.old.words q.old.kids) (Tree.mk q.new.kind q.new.words q.new.kids) q.words q.kids q.list q.ops).kids.map KidOf.at_)) .unk)),pI 10 x10] [(.loc 2,(enc .edit p)),(.loc 3,(enc .edit q)),(.loc 4,zc2),(.loc 5,[ci 0,ci 0,.nils,.nils,ci 0,.nils,.nils,.nils,.nils,ci 0,.nils,ci 0,ci 0,.nils,.nils,ci 0,.nils,.nils,.nils,.nils,ci 0,.nils,.bool ml5_22,.bool ml5_23]),(.loc 6,[ci 2,ci 0,.nils,.nils,ci 0,.nils,.nils,sU .wedit ml6_7 (.own (.l 6 7)),.nils,ci 0,.nils]),(.loc 7,[ci 2,ci 0,.nils,.nils,ci 0,.nils,.nils,sU .wedit ml7_7 (.own (.l 7 7)),.nils,ci 0,.nils])])
def Yt(p q:Edit)(ml6_7 ml7_7:List WEdit)(x16_a:Int)(ml5_22_a ml5_23_a:Bool)(ml6_8_a ml7_8_a:List Kid):LSt U:=(L2 [pL 2,pL 3,pL 4,pL 5,pL 6,pL 7,(9,.c (sU .int (Yv ((Edit.mk p.kind (Tree.mk p.old.kind p.old.words p.old.kids) (Tree.mk p.new.kind p.new.words p.new.kids) p.words p.kids p.list p.ops).kids.map KidOf.at_) ((Edit.mk q.kind (Tree.mk q.old.kind q.old.words q.old.kids) (Tree.mk q.new.kind q.new.words q.new.kids) q.words q.kids q.list q.ops).kids.map KidOf.at_)) .unk)),pI 16 x16_a] [(.loc 2,(enc .edit p)),(.loc 3,(enc .edit q)),(.loc 4,zc2),(.loc 5,[ci 0,ci 0,.nils,.nils,ci 0,.nils,.nils,.nils,.nils,ci 0,.nils,ci 0,ci 0,.nils,.nils,ci 0,.nils,.nils,.nils,.nils,ci 0,.nils,.bool ml5_22_a,.bool ml5_23_a]),(.loc 6,[ci 2,ci 0,.nils,.nils,ci 0,.nils,.nils,sU .wedit ml6_7 (.own (.l 6 7)),sU .kid ml6_8_a (.own (.l 6 8)),ci 0,.nils]),(.loc 7,[ci 2,ci 0,.nils,.nils,ci 0,.nils,.nils,sU .wedit ml7_7 (.own (.l 7 7)),sU .kid ml7_8_a (.own (.l 7 8)),ci 0,.nils])])
abbrev ZxX(N:Nat)(p:List Nat):=AW (Z0 (ZjB N)) Tryz.f109 ZpO p
abbrev ZAE(N:Nat)(p:List Nat):=SW (Z0 (ZjB N)) Tryz.f109 ZpO p
theorem ZHc(N:Nat)(p q:Edit)(Q:QT)(h:((Zn9 ((Edit.mk p.kind (Tree.mk p.old.kind p.old.words p.old.kids) (Tree.mk p.new.kind p.new.words p.new.kids) p.words p.kids p.list p.ops),(Edit.mk q.kind (Tree.mk q.old.kind q.old.words q.old.kids) (Tree.mk q.new.kind q.new.words q.new.kids) q.words q.kids q.list q.ops),()))/\(Zd (ZxX N [1,1,1,1,0,1,0,0]) (Z0V p q 0 false false [] []) (xB 0 (ZAE N [1,1,1,1,1] Q))))):
  ZxX N [] (L2 [(0,.agg (enc .edit p)),(1,.agg (enc .edit q))] []) Q:=
 (Eq.mpr V4 h:)
theorem Zud(N:Nat)(p q:Edit)(x10:Int)(ml5_22 ml5_23:Bool)(ml6_7 ml7_7:List WEdit)(N0:NT)(Q:QT)(h:∀ y_1,y_1=p->∀ y_2,y_2=q->∀ y_3,y_3=(Yv (y_1.words.map WEdit.at_) (y_2.words.map WEdit.at_))->∀ y_4,y_4=(y_3.getD x10.toNat (0:Int))->∀ y_5,y_5=(List.getD p.words (Int.toNat (ZfZ p.words y_4)) (WEdit.mk 0 0 0 0))->∀ y_6,y_6=(List.getD q.words (Int.toNat (ZfZ q.words y_4)) (WEdit.mk 0 0 0 0))->∀ y_7,y_7=y_5->∀ y_8,y_8=y_6->∀ y_9,y_9=(BitVec.ofInt (IntKind.bits .u8) y_5.mask &&& BitVec.ofInt (IntKind.bits .u8) y_6.mask)->let z2:=ZfZ p.words y_4;let z1:=ZfZ q.words y_4;let z0:=IntKind.wrap .u8 y_9.toNat;(iB (decide (x10 < (y_3.length:Int))) (((0:Int)<=x10/\x10 < (y_3.length:Int))/\(ZiQ (p.words,y_4,()))/\((0:Int)<=x10/\x10 < (y_3.length:Int))/\(ZiQ (q.words,y_4,()))/\(iB (decide ((z1:Int) < 0)) (((0:Int)<=z2/\z2 < (p.words.length:Int))/\((ml6_7.length+([y_7]).length)*32<=140737488355328)/\((InR (x10+1))/\(N0 (Z0V p q (x10+1) ml5_22 ml5_23 (ml6_7++([y_7])) ml7_7)))) ((iB (decide ((z2:Int) < 0)) (((0:Int)<=z1/\z1 < (q.words.length:Int))/\((ml7_7.length+([y_8]).length)*32<=140737488355328)/\((InR (x10+1))/\(N0 (Z0V p q (x10+1) ml5_22 ml5_23 ml6_7 (ml7_7++([y_8])))))) (((0:Int)<=z2/\z2 < (p.words.length:Int))/\((0:Int)<=z1/\z1 < (q.words.length:Int))/\((Tt (!ml5_23))/\(Tt (!ml5_23))/\(Tt (!ml5_23))/\((!ml5_23)=true->Z13 (0,y_5.old,z0,()))/\(Tt (!ml5_23))/\(Tt (!ml5_23))/\(Tt (!ml5_23))/\((!ml5_23)=true->Z13 (0,y_6.old,z0,()))/\(Tt (!ml5_23))/\(Tt (!ml5_23))/\(ml5_23=false->(!ml5_23)=true)/\((Tt (!ml5_22))/\(Tt (!ml5_22))/\(Tt (!ml5_22))/\((!ml5_22)=true->Z13 (0,y_5.new,z0,()))/\(Tt (!ml5_22))/\(Tt (!ml5_22))/\(Tt (!ml5_22))/\((!ml5_22)=true->Z13 (0,y_6.new,z0,()))/\(Tt (!ml5_22))/\(Tt (!ml5_22))/\(ml5_22=false->(!ml5_22)=true)/\((ZiP (y_7,y_6.mask,()))/\((ml6_7.length+(Z4d y_7 y_6.mask).length)*32<=140737488355328)/\((ZiP (y_8,y_5.mask,()))/\((ml7_7.length+(Z4d y_8 y_5.mask).length)*32<=140737488355328)/\((InR (x10+1))/\(N0 (Z0V p q (x10+1) (bif ml5_22 then true else (((mix 0 y_5.new z0):Int) !=(mix 0 y_6.new z0))) (bif ml5_23 then true else (((mix 0 y_5.old z0):Int) !=(mix 0 y_6.old z0))) (ml6_7++(Z4d y_7 y_6.mask)) (ml7_7++(Z4d y_8 y_5.mask)))))))))))))) ((Zd (ZxX N [1,1,1,1,1,0,1,0,0]) (Yt p q ml6_7 ml7_7 0 ml5_22 ml5_23 [] []) (xB 3 (ZAE N [1,1,1,1,1,1] Q)))))):
  ZxX N [1,1,1,1,0,1,0,0] (Z0V p q x10 ml5_22 ml5_23 ml6_7 ml7_7) (xT N0 (xB 0 (ZAE N [1,1,1,1,1] Q))):=
 (Eq.mpr V4 (h _ (Z7 _) _ (Z7 _) _ rfl _ rfl _ rfl _ rfl _ (Z0F _) _ (Z0F _) _ rfl):)
theorem Zuc(N:Nat)(p q:Edit)(ml6_7 ml7_7:List WEdit)(x16_a:Int)(ml5_22_a ml5_23_a:Bool)(ml6_8_a ml7_8_a:List Kid)(N1:NT)(Q:QT)(h:∀ y_1,y_1=p->∀ y_2,y_2=q->∀ y_3,y_3=(Edit.mk 0 (Tree.mk 0 [] []) (Tree.mk 0 [] []) [] [] 0 [])->∀ y_4,y_4=(Yv (y_1.kids.map KidOf.at_) (y_2.kids.map KidOf.at_))->∀ y_5,y_5=(y_4.getD x16_a.toNat (0:Int))->∀ y_6,y_6=(List.getD p.kids (Int.toNat (Z5a p.kids y_5)) (KidOf.mk 0 Edit.nil))->∀ y_7,y_7=(List.getD q.kids (Int.toNat (Z5a q.kids y_5)) (KidOf.mk 0 Edit.nil))->∀ y_8,y_8=(y_6.e)->∀ y_9,y_9=(y_7.e)->∀ y_10,y_10=(LeftE.x (Z21 (rbE y_8 y_9)))->∀ y_11,y_11=(LeftE.y (Z21 (rbE y_8 y_9)))->let z13:=KidOf.mk y_5 y_8;let z12:=KidOf.mk y_5 y_10;let z10:=KidOf.mk y_5 y_9;let z9:=KidOf.mk y_5 y_11;let z8:=InR (((ml7_7.length:Int):Int)+(ml7_8_a.length:Int));let z6:=Z21 (rbE y_8 y_9);let z11:=((Edit.kind (LeftE.y z6)):Int) !=0;let z5:=decide ((0:Int) < (((ml7_7.length:Int):Int)+(ml7_8_a.length:Int)));let z4:=KidOf.mk y_5 y_3;let z3:=bif ml5_23_a then true else (LeftE.apart z6);let z2:=bif ml5_22_a then true else (LeftE.clash z6);let z1:=bif ml5_23_a then true else false;let z0:=bif ml5_22_a then true else false;let z7:=N1 (Yt p q ml6_7 ml7_7 (x16_a+1) z0 z1 ml6_8_a ml7_8_a);(iB (decide (x16_a < (y_4.length:Int))) (((0:Int)<=x16_a/\x16_a < (y_4.length:Int))/\(ZiO (p.kids,y_5,()))/\((0:Int)<=x16_a/\x16_a < (y_4.length:Int))/\(ZiO (q.kids,y_5,()))/\(iB (decide (((Z5a q.kids y_5):Int) < 0)) (((0:Int)<=(Z5a p.kids y_5)/\(Z5a p.kids y_5) < (p.kids.length:Int))/\((Tt (!ml5_23_a))/\(ml5_23_a=false->(!ml5_23_a)=true)/\((Tt (!ml5_22_a))/\(ml5_22_a=false->(!ml5_22_a)=true)/\(iB (y_6.e.kind !=0) (((0:Int)<=x16_a/\x16_a < (y_4.length:Int))/\((ml6_8_a.length+([z13]).length)*208<=140737488355328)/\(iB ((0:Int) !=0) (((0:Int)<=x16_a/\x16_a < (y_4.length:Int))/\((ml7_8_a.length+([z4]).length)*208<=140737488355328)/\((InR (x16_a+1))/\(N1 (Yt p q ml6_7 ml7_7 (x16_a+1) z0 z1 (ml6_8_a++([z13])) (ml7_8_a++([z4])))))) ((InR (x16_a+1))/\(N1 (Yt p q ml6_7 ml7_7 (x16_a+1) z0 z1 (ml6_8_a++([z13])) ml7_8_a))))) ((iB ((0:Int) !=0) (((0:Int)<=x16_a/\x16_a < (y_4.length:Int))/\((ml7_8_a.length+([z4]).length)*208<=140737488355328)/\((InR (x16_a+1))/\(N1 (Yt p q ml6_7 ml7_7 (x16_a+1) z0 z1 ml6_8_a (ml7_8_a++([z4])))))) ((InR (x16_a+1))/\z7))))))) ((iB (decide (((Z5a p.kids y_5):Int) < 0)) (((0:Int)<=(Z5a q.kids y_5)/\(Z5a q.kids y_5) < (q.kids.length:Int))/\((Tt (!ml5_23_a))/\(ml5_23_a=false->(!ml5_23_a)=true)/\((Tt (!ml5_22_a))/\(ml5_22_a=false->(!ml5_22_a)=true)/\(iB ((0:Int) !=0) (((0:Int)<=x16_a/\x16_a < (y_4.length:Int))/\((ml6_8_a.length+([z4]).length)*208<=140737488355328)/\(iB (y_7.e.kind !=0) (((0:Int)<=x16_a/\x16_a < (y_4.length:Int))/\((ml7_8_a.length+([z10]).length)*208<=140737488355328)/\((InR (x16_a+1))/\(N1 (Yt p q ml6_7 ml7_7 (x16_a+1) z0 z1 (ml6_8_a++([z4])) (ml7_8_a++([z10])))))) ((InR (x16_a+1))/\(N1 (Yt p q ml6_7 ml7_7 (x16_a+1) z0 z1 (ml6_8_a++([z4])) ml7_8_a))))) ((iB (y_7.e.kind !=0) (((0:Int)<=x16_a/\x16_a < (y_4.length:Int))/\((ml7_8_a.length+([z10]).length)*208<=140737488355328)/\((InR (x16_a+1))/\(N1 (Yt p q ml6_7 ml7_7 (x16_a+1) z0 z1 ml6_8_a (ml7_8_a++([z10])))))) ((InR (x16_a+1))/\z7))))))) (((0:Int)<=(Z5a p.kids y_5)/\(Z5a p.kids y_5) < (p.kids.length:Int))/\((0:Int)<=(Z5a q.kids y_5)/\(Z5a q.kids y_5) < (q.kids.length:Int))/\(Zf0 (y_8,y_9,()))/\(ZvL (y_8,y_9,()) < N)/\((Tt (!ml5_23_a))/\(ml5_23_a=false->(!ml5_23_a)=true)/\((Tt (!ml5_22_a))/\(ml5_22_a=false->(!ml5_22_a)=true)/\(iB (((Edit.kind (LeftE.x z6)):Int) !=0) (((0:Int)<=x16_a/\x16_a < (y_4.length:Int))/\((ml6_8_a.length+([z12]).length)*208<=140737488355328)/\(iB z11 (((0:Int)<=x16_a/\x16_a < (y_4.length:Int))/\((ml7_8_a.length+([z9]).length)*208<=140737488355328)/\((InR (x16_a+1))/\(N1 (Yt p q ml6_7 ml7_7 (x16_a+1) z2 z3 (ml6_8_a++([z12])) (ml7_8_a++([z9])))))) ((InR (x16_a+1))/\(N1 (Yt p q ml6_7 ml7_7 (x16_a+1) z2 z3 (ml6_8_a++([z12])) ml7_8_a))))) ((iB z11 (((0:Int)<=x16_a/\x16_a < (y_4.length:Int))/\((ml7_8_a.length+([z9]).length)*208<=140737488355328)/\((InR (x16_a+1))/\(N1 (Yt p q ml6_7 ml7_7 (x16_a+1) z2 z3 ml6_8_a (ml7_8_a++([z9])))))) ((InR (x16_a+1))/\(N1 (Yt p q ml6_7 ml7_7 (x16_a+1) z2 z3 ml6_8_a ml7_8_a))))))))))))) ((InR (((ml6_7.length:Int):Int)+(ml6_8_a.length:Int)))/\(iB (decide ((0:Int) < (((ml6_7.length:Int):Int)+(ml6_8_a.length:Int)))) ((z8/\(iB z5 ((Q .ret (L2 [pL 4] [(.loc 4,[ci 2,ci 0,.nils,.nils,ci 0,.nils,.nils,sU .wedit ml6_7 (.own (.l 4 7)),sU .kid ml6_8_a (.own (.l 4 8)),ci 0,.nils,ci 2,ci 0,.nils,.nils,ci 0,.nils,.nils,sU .wedit ml7_7 (.own (.l 4 18)),sU .kid ml7_8_a (.own (.l 4 19)),ci 0,.nils,.bool ml5_22_a,.bool ml5_23_a])]))) ((Q .ret (L2 [pL 4] [(.loc 4,[ci 2,ci 0,.nils,.nils,ci 0,.nils,.nils,sU .wedit ml6_7 (.own (.l 4 7)),sU .kid ml6_8_a (.own (.l 4 8)),ci 0,.nils,ci 0,ci 0,.nils,.nils,ci 0,.nils,.nils,.nils,.nils,ci 0,.nils,.bool ml5_22_a,.bool ml5_23_a])])))))) (z8/\(iB z5 ((Q .ret (L2 [pL 4] [(.loc 4,[ci 0,ci 0,.nils,.nils,ci 0,.nils,.nils,.nils,.nils,ci 0,.nils,ci 2,ci 0,.nils,.nils,ci 0,.nils,.nils,sU .wedit ml7_7 (.own (.l 4 18)),sU .kid ml7_8_a (.own (.l 4 19)),ci 0,.nils,.bool ml5_22_a,.bool ml5_23_a])]))) ((Q .ret (L2 [pL 4] [(.loc 4,[ci 0,ci 0,.nils,.nils,ci 0,.nils,.nils,.nils,.nils,ci 0,.nils,ci 0,ci 0,.nils,.nils,ci 0,.nils,.nils,.nils,.nils,ci 0,.nils,.bool ml5_22_a,.bool ml5_23_a])]))))))))):
  ZxX N [1,1,1,1,1,0,1,0,0] (Yt p q ml6_7 ml7_7 x16_a ml5_22_a ml5_23_a ml6_8_a ml7_8_a) (xT N1 (xB 3 (ZAE N [1,1,1,1,1,1] Q))):=
 (Eq.mpr V4 (h _ (Z7 _) _ (Z7 _) _ rfl _ rfl _ rfl _ rfl _ rfl _ (Z7 _) _ (Z7 _) _ (Z7 _) _ (Z7 _)):)
abbrev ZBP(N:Nat)(p q:Edit):Prop:=AW (Z0 (ZjB N)) Tryz.f109 ZpO [] (Zh (Zoa.can (p,q,())) []) (EQ Tryz.f109 (ZeP (p,q,())) [])
abbrev ZCO:Prop:=∀ (N:Nat) (p:Edit) (q:Edit) (_:Unit),Zfk (p,q,())->Zpk (p,q,()) < N+1->ZBP N p q
def ZpN:Zc U:=lvk [([2,3,4],[2,3,4]),([2,3,4,5,6],[2,3,4]),([2,4,5,36],[2,4]),([4],[4]),([2,4,5,7],[2,4,7]),([2,4,5,7,(8,[.wr .op]),(9,[.wr .op])],[2,4,7]),([2,4,5,7,(8,[.wr .op]),(9,[.wr .op]),10],[2,4,7]),([2,4,5,7,(8,[.wr .op]),(9,[.wr .op]),10,42],[2,4,7]),([2,4,5,7,(8,[.wr .op]),(9,[.wr .op]),10],[2,4,7]),([2,4,5,7,(8,[.wr .op]),(9,[.wr .op]),11,12,13],[2,4,7]),([2,4,5,7,(8,[.wr .op]),(9,[.wr .op]),11,12,13,59],[2,4,7]),([2,4,5,7,(8,[.wr .op]),(9,[.wr .op]),11,12,13],[2,4,7]),([2,4,5,7,(8,[.wr .op]),(9,[.wr .op]),11,13],[2,4,7]),([2,4,5,7,(8,[.wr .op]),(9,[.wr .op]),13],[2,4,7]),([2,4,5,7,(8,[.wr .op]),(9,[.wr .op]),11,12,13],[2,4,7]),([2,4,5,7,(8,[.wr .op]),(9,[.wr .op]),13],[2,4,7]),([2,4,5,7,(8,[.wr .op]),(9,[.wr .op]),10],[2,4,7]),([2,4,5,7,(8,[.wr .op]),(9,[.wr .op]),10,93],[2,4,7]),([2,4,5,7,(8,[.wr .op]),(9,[.wr .op]),10,14,15,16,17],[2,4,7]),([2,4,5,7,(8,[.wr .op]),(9,[.wr .op]),10,15,16,17],[2,4,7]),([2,4,5,7,(8,[.wr .op]),(9,[.wr .op]),10,16,17],[2,4,7]),([2,4,5,7,(8,[.wr .op]),(9,[.wr .op]),10,17],[2,4,7]),([2,4,5,7,(8,[.wr .op]),(9,[.wr .op]),10,93],[2,4,7]),([2,4,7,(9,[.wr .op])],[2,4,7]),([4,7],[4,7]),([4],[4])]
def Z1D(p q:Edit)(x10:Int)(ml7_22 ml7_23:Bool)(re_8_0 re_9_0:List Op):LSt U:=(⟨[pL 2,pL 4,(5,.c (sU .pair ((ZB (Zr 0 2 p.ops) (Zr 0 2 q.ops) []).1) .unk)),pL 7,(8,.c (.mref (.e 8 0))),(9,.c (.mref (.e 9 0))),pI 10 x10],[(.loc 2,(enc .edit p)),(.loc 4,zc2),(.loc 7,[ci 0,ci 0,.nils,.nils,ci 0,.nils,.nils,.nils,.nils,ci 0,.nils,ci 0,ci 0,.nils,.nils,ci 0,.nils,.nils,.nils,.nils,ci 0,.nils,.bool ml7_22,.bool ml7_23])],[(.e 8 0,LC.mk (U:=U) .op re_8_0 0),(.e 9 0,LC.mk (U:=U) .op re_9_0 0)]⟩:LSt U)
def Z7r(p q:Edit)(x10:Int)(ml7_23 ml7_22_a:Bool)(re_8_0_a re_9_0_a:List Op):LSt U:=(⟨[pL 2,pL 4,(5,.c (sU .pair ((ZB (Zr 0 2 p.ops) (Zr 0 2 q.ops) []).1) .unk)),pL 7,(8,.c (.mref (.e 8 0))),(9,.c (.mref (.e 9 0))),(13,.c (ci (x10+Z07 (((ZB (Zr 0 2 p.ops) (Zr 0 2 q.ops) []).1).drop x10.toNat))))],[(.loc 2,(enc .edit p)),(.loc 4,zc2),(.loc 7,[ci 0,ci 0,.nils,.nils,ci 0,.nils,.nils,.nils,.nils,ci 0,.nils,ci 0,ci 0,.nils,.nils,ci 0,.nils,.nils,.nils,.nils,ci 0,.nils,.bool ml7_22_a,.bool ml7_23])],[(.e 8 0,LC.mk (U:=U) .op re_8_0_a 0),(.e 9 0,LC.mk (U:=U) .op re_9_0_a 0)]⟩:LSt U)
def Zbr(p q:Edit)(x10:Int)(v93_b:V U)(ml7_22_b ml7_23_b:Bool)(re_8_0_b re_9_0_b:List Op):LSt U:=(⟨[pL 2,pL 4,(5,.c (sU .pair ((ZB (Zr 0 2 p.ops) (Zr 0 2 q.ops) []).1) .unk)),pL 7,(8,.c (.mref (.e 8 0))),(9,.c (.mref (.e 9 0))),(10,.c (ci (x10+Z07 (((ZB (Zr 0 2 p.ops) (Zr 0 2 q.ops) []).1).drop x10.toNat)))),(93,v93_b)],[(.loc 2,(enc .edit p)),(.loc 4,zc2),(.loc 7,[ci 0,ci 0,.nils,.nils,ci 0,.nils,.nils,.nils,.nils,ci 0,.nils,ci 0,ci 0,.nils,.nils,ci 0,.nils,.nils,.nils,.nils,ci 0,.nils,.bool ml7_22_b,.bool ml7_23_b])],[(.e 8 0,LC.mk (U:=U) .op re_8_0_b 0),(.e 9 0,LC.mk (U:=U) .op re_9_0_b 0)]⟩:LSt U)
abbrev ZgC(N:Nat)(p:List Nat):=AW (Z0 (ZjB N)) Tryz.f110 ZpN p
abbrev ZgB(N:Nat)(p:List Nat):=SW (Z0 (ZjB N)) Tryz.f110 ZpN p
theorem ZHb(N:Nat)(p q:Edit)(Q:QT)(h:let z0:= !((ZB (Zr 0 2 p.ops) (Zr 0 2 q.ops) []).2);((Zfc (p.ops,2,()))/\(Zfc (q.ops,2,()))/\(ZiN ((Zr 0 2 p.ops),(Zr 0 2 q.ops),()))/\((Tt (!z0))/\(Tt (!z0))/\(Tt (!z0))/\(Tt (!z0))/\(z0=false->(!z0)=true)/\(iB (bif z0 then true else (p.list !=q.list)) ((Q .ret (L2 [pL 4] [(.loc 4,[ci 0,ci 0,.nils,.nils,ci 0,.nils,.nils,.nils,.nils,ci 0,.nils,ci 0,ci 0,.nils,.nils,ci 0,.nils,.nils,.nils,.nils,ci 0,.nils,.bool false,.bool true])]))) ((Zd (ZgC N [1,1,1,1,1,0,1,0,0]) (Z1D p q 0 false false [] []) (xB 0 (ZgB N [1,1,1,1,1,1] Q)))))))):
  ZgC N [] (L2 [(0,.agg (enc .edit p)),(1,.agg (enc .edit q))] []) Q:=
 (Eq.mpr V4 h:)
theorem Zua(N:Nat)(p q:Edit)(x10:Int)(ml7_22 ml7_23:Bool)(re_8_0 re_9_0:List Op)(N0:NT)(Q:QT)(h:∀ y_1,y_1=(ZB (Zr 0 2 p.ops) (Zr 0 2 q.ops) [])->let z3:=xB 1 (ZgB N [1,1,1,1,1,0,1,0,0,1,1] (xT N0 (xB 0 (ZgB N [1,1,1,1,1,1] Q))));let z1:=Z3f ((y_1.1).drop x10.toNat);let z0:=Z3g ((y_1.1).drop x10.toNat);let z4:=Zfb (re_9_0,(z0.length:Int),());let z2:=decide ((0:Int) < (z0.length:Int));(iB (decide (x10<=((y_1.1).length:Int))) ((Zn8 ((y_1.1),x10,()))/\((Tt z2)/\(Tt z2)/\(Tt z2)/\(iB (bif z2 then (decide ((0:Int) < (z1.length:Int))) else false) ((Tt (!ml7_22))/\(Tt (!ml7_22))/\((!ml7_22)=true->Zn7 (z0,z1,()))/\(Tt (!ml7_22))/\(ml7_22=false->(!ml7_22)=true)/\((Zfb (re_8_0,(z1.length:Int),()))/\(z4/\(ZgC N [1,1,1,1,1,0,1,0,0,1,0,0,1,1] (Z7r p q x10 ml7_23 (bif ml7_22 then true else (!(Z2u z0 z1))) (re_8_0++Yl (z1.length:Int).toNat) (re_9_0++Yl (z0.length:Int).toNat)) z3)))) ((ZaV (re_8_0,z0,()))/\(Zfb ((re_8_0++Z0g z0),(z1.length:Int),()))/\(z4/\(ZaV ((re_9_0++Yl (z0.length:Int).toNat),z1,()))/\(ZgC N [1,1,1,1,1,0,1,0,0,1,0,0,1,1] (Z7r p q x10 ml7_23 ml7_22 ((re_8_0++Z0g z0)++Yl (z1.length:Int).toNat) ((re_9_0++Yl (z0.length:Int).toNat)++Z0g z1)) z3)))))) ((Zfd (p.list,re_8_0,()))/\((Zfd (p.list,re_9_0,()))/\(Q .ret (L2 [pL 4] [(.loc 4,(enc .edit (Yx p.list re_8_0)++enc .edit (Yx p.list re_9_0)++[.bool ml7_22,.bool ml7_23]))])))))):
  ZgC N [1,1,1,1,1,0,1,0,0] (Z1D p q x10 ml7_22 ml7_23 re_8_0 re_9_0) (xT N0 (xB 0 (ZgB N [1,1,1,1,1,1] Q))):=
 (Eq.mpr V4 (h _ rfl):)
theorem Zub(N:Nat)(p q:Edit)(x10:Int)(ml7_23 ml7_22_a:Bool)(re_8_0_a re_9_0_a:List Op)(N0:NT)(Q:QT)(h:∀ y_1,y_1=(ZB (Zr 0 2 p.ops) (Zr 0 2 q.ops) [])->∀ y_2,y_2=(List.getD (y_1.1) (Int.toNat (x10+Z07 ((y_1.1).drop x10.toNat))) (APair.mk 0 AUnit.nil AUnit.nil))->∀ y_3,y_3=(y_2.p)->∀ y_4,y_4=(y_2.q)->let z2:=xT N0 (xB 0 (ZgB N [1,1,1,1,1,1] Q));let z1:=decide (((x10+Z07 ((y_1.1).drop x10.toNat)):Int) < ((y_1.1).length:Int));let z0:=Y4 rbE y_3 y_4;(iB z1 (((0:Int)<=(x10+Z07 ((y_1.1).drop x10.toNat))/\(x10+Z07 ((y_1.1).drop x10.toNat)) < ((y_1.1).length:Int))/\((0:Int)<=(x10+Z07 ((y_1.1).drop x10.toNat))/\(x10+Z07 ((y_1.1).drop x10.toNat)) < ((y_1.1).length:Int))/\(Zfa (y_3,y_4,()))/\(Zph (y_3,y_4,()) < N)/\(((re_8_0_a.length+(z0.x).length)*240<=140737488355328)/\(((re_9_0_a.length+(z0.y).length)*240<=140737488355328)/\((ml7_22_a=false->(!ml7_22_a)=true)/\((ml7_23=false->(!ml7_23)=true)/\(ZgC N [1,1,1,1,1,0,1,0,0,1,1] (Zbr p q x10 .junk (bif ml7_22_a then true else (z0.c)) (bif ml7_23 then true else (z0.a)) (re_8_0_a++(z0.x)) (re_9_0_a++(z0.y))) z2)))))) (ZgC N [1,1,1,1,1,0,1,0,0,1,1] (Zbr p q x10 (.c (.bool z1)) ml7_22_a ml7_23 re_8_0_a re_9_0_a) z2))):
  ZgC N [1,1,1,1,1,0,1,0,0,1,0,0,1,1] (Z7r p q x10 ml7_23 ml7_22_a re_8_0_a re_9_0_a) (xB 1 (ZgB N [1,1,1,1,1,0,1,0,0,1,1] (xT N0 (xB 0 (ZgB N [1,1,1,1,1,1] Q))))):=
 (Eq.mpr V4 (h _ rfl _ rfl _ (Z0N _) _ (Z0N _)):)
theorem Zkf(N:Nat)(p q:Edit)(x10:Int)(v93_b:V U)(ml7_22_b ml7_23_b:Bool)(re_8_0_b re_9_0_b:List Op)(N0:NT)(Q:QT)(h:let z0:=ZB (Zr 0 2 p.ops) (Zr 0 2 q.ops) [];(InR (((x10+Z07 ((z0.1).drop x10.toNat)):Int)+1))/\(N0 (Z1D p q (((x10+Z07 ((z0.1).drop x10.toNat)):Int)+1) ml7_22_b ml7_23_b re_8_0_b re_9_0_b))):
  ZgC N [1,1,1,1,1,0,1,0,0,1,1] (Zbr p q x10 v93_b ml7_22_b ml7_23_b re_8_0_b re_9_0_b) (xT N0 (xB 0 (ZgB N [1,1,1,1,1,1] Q))):=
 (Eq.mpr V4 h:)
abbrev ZBO(N:Nat)(p q:Edit):Prop:=AW (Z0 (ZjB N)) Tryz.f110 ZpN [] (Zh (Zoa.can (p,q,())) []) (EQ Tryz.f110 (ZeO (p,q,())) [])
abbrev ZCN:Prop:=∀ (N:Nat) (p:Edit) (q:Edit) (_:Unit),Zfj (p,q,())->Zpk (p,q,()) < N+1->ZBO N p q
def Zwk:Zc U:=lvl [([2,3],[2,3]),([2,3,8],[2,3]),([2,3,8,16],[2,3]),([4,5,6,7],[]),([2,3,8,28],[2,3]),([4,5,6,7],[]),([2,3,8,40],[2,3]),([4,5,6,7],[]),([2,3,8,48],[2,3]),([4,5,6,7],[]),([2,3,56],[2,3]),([4,5,6,7],[]),([2,3,71],[2,3]),([10],[]),([4,5,6,7],[]),([2,3,85],[2,3]),([12],[]),([4,5,6,7],[]),([13],[13]),([4,5,6,7],[])]
abbrev ZJq(N:Nat)(p:List Nat):=AW (Z0 (ZjB N)) Tryz.f162 Zwk p
theorem ZGE(N:Nat)(p q:AUnit)(Q:QT)(h:∀ y_1,y_1=p->∀ y_2,y_2=q->∀ y_3,y_3=(p.e)->∀ y_4,y_4=(q.e)->∀ y_5,y_5=(p.t)->∀ y_6,y_6=(q.t)->∀ y_7,y_7=(opU y_1)->∀ y_8,y_8=(opU y_2)->∀ y_9,y_9=(LeftE.x (Z21 (rbE y_3 y_4)))->∀ y_10,y_10=(LeftE.y (Z21 (rbE y_3 y_4)))->∀ y_11,y_11=(Z0j y_9)->∀ y_12,y_12=(Z0j y_10)->let z0:=sU .op ([(OpOf.mk 0 1 [] (Edit.mk 0 (Tree.mk 0 [] []) (Tree.mk 0 [] []) [] [] 0 []))]) .full;((Tt (p.kind==0))/\(Tt (p.kind==0))/\(Tt (p.kind==0))/\(iB (bif (p.kind==0) then (q.kind==1) else false) ((ZaQ (y_2,()))/\(Q .ret (L2 [(4,.c (.nils)),(5,.c (sU .op ([y_8]) .full)),pB 6 false,pB 7 false] []))) ((Tt (p.kind==1))/\(Tt (p.kind==1))/\(Tt (p.kind==1))/\(iB (bif (p.kind==1) then (q.kind==0) else false) ((ZaQ (y_1,()))/\(Q .ret (L2 [(4,.c (sU .op ([y_7]) .full)),(5,.c (.nils)),pB 6 false,pB 7 false] []))) ((iB (p.kind==0) ((ZaQ (y_2,()))/\(Q .ret (L2 [(4,.c z0),(5,.c (sU .op ([y_8]) .full)),pB 6 false,pB 7 false] []))) ((iB (q.kind==0) ((ZaQ (y_1,()))/\(Q .ret (L2 [(4,.c (sU .op ([y_7]) .full)),(5,.c z0),pB 6 false,pB 7 false] []))) ((Tt (p.kind==1))/\(Tt (p.kind==1))/\(Tt (p.kind==1))/\(iB (bif (p.kind==1) then (q.kind==1) else false) ((Z23 (y_5,y_6,()))/\(Q .ret (L2 [(4,.c (.nils)),(5,.c (.nils)),pB 6 false,pB 7 (!(ZU (Z4 y_5) (Z4 y_6)))] []))) ((iB (p.kind==1) ((Z4c (y_4,y_5,()))/\(Q .ret (L2 [(4,.c (.nils)),(5,.c (.nils)),pB 6 true,pB 7 (!((doE true y_4 y_5).isSome))] []))) ((iB (q.kind==1) ((Z4c (y_3,y_6,()))/\(Q .ret (L2 [(4,.c (.nils)),(5,.c (.nils)),pB 6 true,pB 7 (!((doE true y_3 y_6).isSome))] []))) ((Zf0 (y_3,y_4,()))/\(ZvL (y_3,y_4,()) < N)/\((ZiE (y_9,()))/\(ZiE (y_10,()))/\(Q .ret (L2 [(4,.c (sU .op ([y_11]) .full)),(5,.c (sU .op ([y_12]) .full)),pB 6 (LeftE.clash (Z21 (rbE y_3 y_4))),pB 7 (LeftE.apart (Z21 (rbE y_3 y_4)))] []))))))))))))))))))):
  ZJq N [] (L2 [(0,.agg (enc .unit p)),(1,.agg (enc .unit q))] []) Q:=
 (Eq.mpr V4 (h _ (Z0N _) _ (Z0N _) _ (Z7 _) _ (Z7 _) _ (Za _) _ (Za _) _ (Yw _) _ (Yw _) _ (Z7 _) _ (Z7 _) _ (Yw _) _ (Yw _)):)
abbrev ZBh(N:Nat)(p q:AUnit):Prop:=AW (Z0 (ZjB N)) Tryz.f162 Zwk [] (Zh (ZdJ.can (p,q,())) []) (EQ Tryz.f162 (ZeM (p,q,())) [])
abbrev ZCI:Prop:=∀ (N:Nat) (p:AUnit) (q:AUnit) (_:Unit),Zfa (p,q,())->Zph (p,q,()) < N+1->ZBh N p q
theorem ZyR(Zt6:CT 135 Z3s)(ZcJ:CT 151 JR)(ZEK:CT 152 Zd2)(ZEG:CT 156 ZcY)(ZEF:CT 157 ZcX)(ZEk:CT 201 ZcP)(ZcK:CT 136 JQ)(ZEY:CT 108 Zdb)(ZEJ:CT 153 Zd1)(ZEI:CT 154 Zd0)(ZEH:CT 155 ZcZ)(ZEE:CT 158 ZcW)(ZED:CT 159 ZcV)(ZEC:CT 160 ZcU)(ZEB:CT 161 ZcT)(ZEA:CT 163 Zd3)(ZEj:CT 202 ZcQ)(b68:ZIo)(ZFb:ZCO)(ZFa:ZCN)(ZF5:ZCI):
  CT 68 ZaD/\CT 109 ZoC/\CT 110 ZoB/\CT 162 Zox:=by
 have h68 : ∃ fn, Tryz.prog.funcs[(68 : FuncId)]? = some fn ∧ fn.body.isSome = true ∧ (fn.name == "runtime.NumGoroutine") = false := ⟨Tryz.f68, Tryz.func68, rfl, rfl⟩
 have h109 : ∃ fn, Tryz.prog.funcs[(109 : FuncId)]? = some fn ∧ fn.body.isSome = true ∧ (fn.name == "runtime.NumGoroutine") = false := ⟨Tryz.f109, Tryz.func109, rfl, rfl⟩
 have h110 : ∃ fn, Tryz.prog.funcs[(110 : FuncId)]? = some fn ∧ fn.body.isSome = true ∧ (fn.name == "runtime.NumGoroutine") = false := ⟨Tryz.f110, Tryz.func110, rfl, rfl⟩
 have h162 : ∃ fn, Tryz.prog.funcs[(162 : FuncId)]? = some fn ∧ fn.body.isSome = true ∧ (fn.name == "runtime.NumGoroutine") = false := ⟨Tryz.f162, Tryz.func162, rfl, rfl⟩
 have key:∀ N,CT 68 (fs Zoa (fun a=> [Zf0 a,ZvL a < N]) ZkO)/\CT 109 (fs Zoa (fun a=> [Zfk a,Zpk a < N]) ZeP)/\CT 110 (fs Zoa (fun a=> [Zfj a,Zpk a < N]) ZeO)/\CT 162 (fs ZdJ (fun a=> [Zfa a,Zph a < N]) ZeM):=by
  intro N
  induction N with
  | zero=> exact ⟨Z0A h68,Z0A h109,Z0A h110,Z0A h162⟩
  | succ N ih=>
   have kn:=Z0z (l:=Z3R N) ⟨ih.1,ih.2.1,ih.2.2.1,ih.2.2.2,Zt6,ZcJ,ZEK,ZEG,ZEF,ZEk,ZcK,ZEY,ZEJ,ZEI,ZEH,ZEE,ZED,ZEC,ZEB,ZEA,ZEj,trivial⟩
   exact ⟨Y7 (Γ:=Z0 (Z3R N)) Zi rfl kn ZDS Tryz.func68 rfl rfl (fun a=> by show 2<=_;decide) (fun ⟨p,q,_⟩ h=> b68 N p q () h.1 h.2.1),
    Y7 (Γ:=Z0 (Z3R N)) Zi rfl kn ZpO Tryz.func109 rfl rfl (fun a=> by show 2<=_;decide) (fun ⟨p,q,_⟩ h=> ZFb N p q () h.1 h.2.1),
    Y7 (Γ:=Z0 (Z3R N)) Zi rfl kn ZpN Tryz.func110 rfl rfl (fun a=> by show 2<=_;decide) (fun ⟨p,q,_⟩ h=> ZFa N p q () h.1 h.2.1),
    Y7 (Γ:=Z0 (Z3R N)) Zi rfl kn Zwk Tryz.func162 rfl rfl (fun a=> by show 2<=_;decide) (fun ⟨p,q,_⟩ h=> ZF5 N p q () h.1 h.2.1)⟩
 exact ⟨Z0B h68 fun N=> (key N).1,Z0B h109 fun N=> (key N).2.1,Z0B h110 fun N=> (key N).2.2.1,Z0B h162 fun N=> (key N).2.2.2⟩
end
end Go.AM.YtpjenobkibfpcaaGreat
