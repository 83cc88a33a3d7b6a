import Derived.Test.YtpjenobkibfpcaaCB30b
import Derived.Test.YtpjenobkibfpcaaCB30a
import Derived.Test.YtpjenobkibfpcaaKL22m
import Derived.Test.YtpjenobkibfpcaaKB20e
import Derived.Test.YtpjenobkibfpcaaCL30a
set_option linter.unusedSimpArgs false
set_option linter.unusedVariables false
namespace Go.AM.Ytpjenobkibfpcaa
open Go.AM Go.Proofs
theorem ZjV(m:Int):0<=ZeU m/\ZeU m < 256:=by
 unfold ZeU
 have h:=(BitVec.ofInt (IntKind.bits .u8) 255 ^^^ BitVec.ofInt (IntKind.bits .u8) m).isLt
 have e:(2:Nat) ^ IntKind.bits .u8=256:=rfl
 rw [Z4u (by omega) (by omega)]
 omega
theorem b77:ZyW:=by
 intro N mc ma p q _ hp hN
 obtain ⟨op,oq⟩:=hp
 dsimp only at op oq
 have hN':8*(Z7 p+Z7 q)+1 < N+1:=hN
 obtain ⟨dp,rp⟩:=op.2.2
 obtain ⟨dq,rq⟩:=oq.2.2
 have hst:=Zc7 rp rq
 unfold Ya at hst
 have lp:=Zdw p
 have lq:=Zdw q
 have gp:=Yq op.2.1
 have gq:=Yq oq.2.1
 have cp:=Z4s p;have cq:=Z4s q;have cp':=op.1;have cq':=oq.1
 have fin:∀ {L:Lft} {s:LSt U},lbE p q=L->Yy cfg Try.f77.ntmps Try.f77.results.toList (.tup [(true,enc .edit L.x),(true,enc .edit L.y)]) [[.bool (mc || L.c),.bool (ma || L.a)]] .ret s->
   Yy cfg Try.f77.ntmps Try.f77.results.toList (Zge ((mc,ma,()),p,q,())) (Zbg ((mc,ma,()),p,q,())) .ret s:=by
  intro L s h hs
  subst h
  exact hs
 have wh:∀ {e:Edit} {o n:Tree},Z0p e->Zm o<=10000000000->rng o->Zm n<=10000000000->Z8f ((mc,ma,()),e,o,n,()):=by
  intro e o n he ho hr hn
  have:=Z1l he
  have:=he.1
  exact ⟨⟨by dsimp only;omega,he.2⟩,⟨by dsimp only;omega,hr⟩,by dsimp only;omega⟩
 refine Zza N mc ma p q _ ?_
 intro y1 h1 y2 h2 y3 h3 y4 h4 y5 h5 y6 h6
 replace h1:=h1.symm;replace h2:=h2.symm;replace h3:=h3.symm;replace h4:=h4.symm;replace h5:=h5.symm;replace h6:=h6.symm
 subst h1 h2 h3 h4 h5 h6
 (simp only [vcT,vcS])
 refine ⟨fun h0=> ?_,fun h0=> ?_⟩
 ·exact fin (by rw [hst,if_pos h0]) (by simp only [Qs];(repeat' (first | exact trivial | exact rfl | apply And.intro)))
 rw [if_neg (by rintro (h | h);exact h0.1 h;exact h0.2 h)] at hst
 refine ⟨fun p1=> ?_,fun p1=> ?_⟩
 ·rw [if_pos p1] at hst
  exact ⟨wh oq (by omega) gp.1 (by omega),trivial,fin hst (by (repeat' (first | exact trivial | exact rfl | apply And.intro)))⟩
 rw [if_neg p1] at hst
 refine ⟨fun q1=> ?_,fun q1=> ?_⟩
 ·rw [if_pos q1] at hst
  exact ⟨wh op (by omega) gq.1 (by omega),trivial,fin hst (by (repeat' (first | exact trivial | exact rfl | apply And.intro)))⟩
 rw [if_neg q1] at hst
 refine ⟨fun hd=> ?_,fun hd=> ?_⟩
 ·rw [if_pos (by omega)] at hst
  exact ⟨trivial,fin hst (by simp only [Qs,Xg];(repeat' (first | exact trivial | exact rfl | apply And.intro)))⟩
 rw [if_neg (by omega)] at hst
 refine ⟨fun p2=> ?_,fun p2=> ?_⟩
 ·rw [if_pos p2] at hst
  exact ⟨⟨op,oq,by dsimp only;omega,by dsimp only;omega⟩,by show 8*(Z7 p+Z7 q) < N;omega,fin hst (by (repeat' (first | exact trivial | exact rfl | apply And.intro)))⟩
 ·rw [if_neg p2] at hst
  have kp:=(Zt rp).kind
  exact ⟨⟨op,oq,by dsimp only;omega,by dsimp only;omega⟩,by show 8*(Z7 p+Z7 q) < N;omega,fin hst (by (repeat' (first | exact trivial | exact rfl | apply And.intro)))⟩
theorem Zhd(m h:List Tree):(Ja m h).x.length<=2/\(Ja m h).y.length<=2:=by
 unfold Ja
 have:=Z4U m.length;have:=Z4U h.length;have:=Z76 m;have:=Z76 h
 split <;> (simp only [Q6];omega)
theorem Zi5(f:Edit->Edit->Lft)(p q:Op):(ZC f p q).x.length<=1/\(ZC f p q).y.length<=1:=by
 unfold ZC
 split;· simp
 split;· simp
 split;· simp
 split;· simp
 split;· simp
 split;· simp
 split <;> simp
structure LInv (f:Edit->Edit->Lft) (mc ma:Bool) (ps:List Piece) (i:Int) (c a:Bool) (m h:List Tree) (x y:List Op):Prop where
 i0:0<=i
 il:i<=ps.length
 ec:(mc || (Z0q f ps [] []).c)=(c || (Z0q f (ps.drop i.toNat) m h).c)
 ea:(ma || (Z0q f ps [] []).a)=(a || (Z0q f (ps.drop i.toNat) m h).a)
 ex:(Z0q f ps [] []).x=x++(Z0q f (ps.drop i.toNat) m h).x
 ey:(Z0q f ps [] []).y=y++(Z0q f (ps.drop i.toNat) m h).y
 lx:(x.length:Int)<=3*i
 ly:(y.length:Int)<=3*i
 km:((Z6 m:Nat):Int)+YC φC (Z5q (ps.drop i.toNat))<=YC φC (Z5q ps)
 kh:((Z6 h:Nat):Int)+YC φC (Z5p (ps.drop i.toNat))<=YC φC (Z5p ps)
theorem cnn(o:Op):((Z6 o.l:Nat):Int)<=φC o:=by unfold φC;have:=ZpS o.e;omega
theorem ZdZ:∀ l:List Op,0<=YC φC l
 | []=> Xa _
 | o ::r=> by have:=ZdZ r;have:=cnn o;simp only [YC];omega
theorem LInv.step{f:Edit->Edit->Lft}{mc ma:Bool}{ps:List Piece}{i:Int}{c a:Bool}{m h:List Tree}{x y:List Op}(H:LInv f mc ma ps i c a m h x y)(hi:i < ps.length)(z:Piece)(X:Piece)(hX:X=ps.getD i.toNat z):
  (X.of=1->LInv f mc ma ps (i+1) c a (m++X.p.l) h x y)/\(¬X.of=1->X.of=2->LInv f mc ma ps (i+1) c a m (h++X.q.l) x y)/\
  (¬X.of=1->¬X.of=2->LInv f mc ma ps (i+1) ((c || (Ja m h).c) || (ZC f X.p X.q).c) (a || (ZC f X.p X.q).a) [] [] ((x++(Ja m h).x)++(ZC f X.p X.q).x) ((y++(Ja m h).y)++(ZC f X.p X.q).y)):=by
 have hd:=Yn H.i0 hi z
 rw [<-hX] at hd
 have h0:=H.i0
 obtain ⟨_,_,ec,ea,ex,ey,lx,ly,km,kh⟩:=H
 rw [hd] at ec ea ex ey km kh
 simp only [Z0q] at ec ea ex ey
 simp only [Z5q,Z5p] at km kh
 have np:=cnn X.p;have nq:=cnn X.q
 refine ⟨fun e=> ?_,fun e1 e2=> ?_,fun e1 e2=> ?_⟩
 ·rw [if_pos e] at ec ea ex ey
  rw [if_neg (by omega),XD,YC] at km
  rw [if_pos e,Qu] at kh
  exact ⟨by omega,by omega,ec,ea,ex,ey,by omega,by omega,by rw [Yo];omega,kh⟩
 ·rw [if_neg e1,if_pos e2] at ec ea ex ey
  rw [if_pos e2,Qu] at km
  rw [if_neg e1,XD,YC] at kh
  exact ⟨by omega,by omega,ec,ea,ex,ey,by omega,by omega,km,by rw [Yo];omega⟩
 ·rw [if_neg e1,if_neg e2] at ec ea ex ey
  rw [if_neg e2,XD,YC] at km
  rw [if_neg e1,XD,YC] at kh
  simp only [PL.app] at ec ea ex ey
  obtain ⟨g1,g2⟩:=Zhd m h
  obtain ⟨g3,g4⟩:=Zi5 f X.p X.q
  have ga:(Ja m h).a=false:=by unfold Ja;split <;> rfl
  rw [ga,XG] at ea
  refine ⟨by omega,by omega,?_,?_,?_,?_,?_,?_,?_,?_⟩
  ·rw [ec];simp only [Xz]
  ·rw [ea,Xz]
  ·rw [ex];simp only [Qd]
  ·rw [ey];simp only [Qd]
  ·simp only [Q6];omega
  ·simp only [Q6];omega
  ·simp only [Z6];omega
  ·simp only [Z6];omega
theorem ZlY{p q:List Op}(hp:Zrm p)(hq:Zrm q){x:Piece}(h:POk2 p q x):(x.of≠2->Ze5 x.p)/\(x.of≠1->Ze5 x.q):=by
 refine ⟨fun e=> ?_,fun e=> ?_⟩
 ·obtain ⟨a,b⟩:=h.pp e
  exact ⟨b,X4 (Zag a).1 hp.1,Zgv a b hp.2.1,ZbH a hp.2.2⟩
 ·obtain ⟨a,b⟩:=h.qq e
  exact ⟨b,X4 (Zag a).1 hq.1,Zgv a b hq.2.1,ZbH a hq.2.2⟩
theorem Zwu:Zuw:=by
 intro N mc ma p q _ hp hN
 obtain ⟨op,oq,kp3,kq3⟩:=hp
 dsimp only at op oq kp3 kq3
 have hN':8*(Z7 p+Z7 q) < N+1:=hN
 have rop:=ZjH op
 have roq:=ZjH oq
 have kp:=ZtQ rop
 have kq:=ZtQ roq
 have lp:=Zdw p
 have lq:=Zdw q
 obtain ⟨i1,_⟩:=Zdg _ p.ops q.ops [] (Qf _) kp.1 kq.1
 have fin:∀ {L:Lft} {s:LSt U},Z3p lbE p q=L->Yy cfg Try.f115.ntmps Try.f115.results.toList (.tup [(true,enc .edit L.x),(true,enc .edit L.y)]) [[.bool (mc || L.c),.bool (ma || L.a)]] .ret s->
   Yy cfg Try.f115.ntmps Try.f115.results.toList (Zbl ((mc,ma,()),p,q,())) (Z6D ((mc,ma,()),p,q,())) .ret s:=by
  intro L s h hs
  subst h
  exact hs
 refine Zy1 N mc ma p q _ ?_
 (simp only [vcT,vcS])
 refine ⟨⟨kp,kq⟩,fun hb=> ⟨trivial,fin (by rw [Z3p,if_neg (by rw [hb];decide)]) (by simp only [Qs,Xg];(repeat' (first | exact trivial | exact rfl | apply And.intro)))⟩,fun hb=> ?_⟩
 obtain ⟨ps,e,hps,_,_⟩:=i1 hb
 obtain ⟨ps1,e1,sp,sq,hlen⟩:=Zoj Zun Zun 2 _ p.ops q.ops [] (Qf _) kp.1 kq.1 hb
 rw [e,Qu,Qu] at e1
 subst e1
 rw [Qu] at e
 have hL:Z3p lbE p q=⟨Z0K p.list (Z0q lbE ps [] []).x,Z0K p.list (Z0q lbE ps [] []).y,(Z0q lbE ps [] []).c,(Z0q lbE ps [] []).a⟩:=by rw [Z3p,if_pos hb,e]
 have c1:=ZhE p.ops;have c2:=ZhE q.ops;have c3:=rop.1;have c4:=roq.1
 refine Z9 (ι:=Int × Bool × Bool × List Tree × List Tree × List Op × List Op) (fun s=> Z1t mc ma p q s.1 s.2.1 s.2.2.1 s.2.2.2.1 s.2.2.2.2.1 s.2.2.2.2.2.1 s.2.2.2.2.2.2)
  (fun s=> LInv lbE mc ma ps s.1 s.2.1 s.2.2.1 s.2.2.2.1 s.2.2.2.2.1 s.2.2.2.2.2.1 s.2.2.2.2.2.2) (fun s=> ((ps.length:Int) - s.1).toNat) (0,mc,ma,[],[],[],[]) rfl
  ⟨by simp,by simp,by simp,by simp,by simp,by simp,by simp,by simp,by simp [Z6],by simp [Z6]⟩ ?_
 rintro ⟨i,c,a,m,h,x,y⟩ H
 dsimp only at H
 refine Znc N mc ma p q _ _ _ _ _ _ _ _ _ ?_
 intro y1 h1 y2 h2 y3 h3 y4 h4 y5 h5 y6 h6 y7 h7
 rw [e] at h5 ⊢
 replace h6:=h6.symm;replace h7:=h7.symm
 have i0:=H.i0;have il:=H.il;have lx:=H.lx;have ly:=H.ly;have km:=H.km;have kh:=H.kh
 have n1:=ZdZ (Z5q (ps.drop i.toNat));have n2:=ZdZ (Z5p (ps.drop i.toNat))
 obtain ⟨g1,g2⟩:=Zhd m h
 (simp only [vcT,vcS])
 refine ⟨fun hi=> ?_,fun hi=> ?_⟩
 ·obtain ⟨s1,s2,s3⟩:=H.step hi _ y5 h5
  have hmem:y5∈ps:=by rw [h5];exact Zh (by omega) _
  have hx:=hps y5 hmem
  obtain ⟨o1,o2⟩:=ZlY rop roq hx
  have km1:(Z6 y5.p.l:Int)<=9000000000:=by
   rcases hx.of with h | h | h
   ·have:=Z2J y5.p;have:=(o1 (by omega)).2.1;omega
   ·have:=Z2J y5.p;have:=(o1 (by omega)).2.1;omega
   ·rw [hx.pn h];simp [Op.nil,Z6]
  have km2:(Z6 y5.q.l:Int)<=9000000000:=by
   rcases hx.of with h | h | h
   ·have:=Z2J y5.q;have:=(o2 (by omega)).2.1;omega
   ·rw [hx.qn h];simp [Op.nil,Z6]
   ·have:=Z2J y5.q;have:=(o2 (by omega)).2.1;omega
  have q1:=Zs m;have q2:=Zs h;have q3:=Zs y5.p.l;have q4:=Zs y5.q.l
  refine ⟨⟨i0,hi⟩,fun f1=> ⟨by omega,by unfold InR;omega,(i+1,c,a,m++y5.p.l,h,x,y),rfl,s1 f1,by dsimp only;omega⟩,fun f1=> ⟨fun f2=> ⟨by omega,by unfold InR;omega,(i+1,c,a,m,h++y5.q.l,x,y),rfl,s2 f1 f2,by dsimp only;omega⟩,fun f2=> ?_⟩⟩
  have f0:y5.of=0:=by rcases hx.of with h | h | h <;> omega
  obtain ⟨b1,b2,b3⟩:=hx.both f0
  have mp:=(Zag (hx.pp f2).1).2
  have mq:=(Zag (hx.qq f1).1).2
  rw [<-h6,<-h7]
  refine ⟨⟨⟨by dsimp only;omega,by dsimp only;omega⟩,by dsimp only;omega,by dsimp only;omega⟩,⟨⟨o1 f2,o2 f1,b3,b1,b2⟩,by simp only [List.length_append];omega,by simp only [List.length_append];omega⟩,by show 8*(Zv y5.p+Zv y5.q)+2 < N;omega,by unfold InR;omega,
   (i+1,_,_,[],[],_,_),rfl,s3 f1 f2,by dsimp only;omega⟩
 ·have hd:ps.drop i.toNat=[]:=Qg (by omega)
  have ec:=H.ec;have ea:=H.ea;have ex:=H.ex;have ey:=H.ey
  rw [hd] at ec ea ex ey
  simp only [Z0q] at ec ea ex ey
  have ga:(Ja m h).a=false:=by unfold Ja;split <;> rfl
  rw [ga,Qs] at ea
  refine ⟨⟨⟨by dsimp only;omega,by dsimp only;omega⟩,by dsimp only;omega,by dsimp only;omega⟩,by show (x++_).length<=_;rw [List.length_append];omega,by show (y++_).length<=_;rw [List.length_append];omega,fin hL ?_⟩
  dsimp only
  rw [ec,ea,ex,ey]
  subst h1 h2 h3 h4
  (repeat' (first | exact trivial | exact rfl | apply And.intro))
theorem Zwt:Zuv:=by
 intro N sm_ sx sy si sh p q mc ma _ hp hN
 simp only [Z8a] at hp
 obtain ⟨⟨⟨op,mp,gp,rp⟩,⟨oq,mq,gq,rq⟩,hl,p2,q2⟩,lx,ly⟩:=hp
 have hN':8*(Zv p+Zv q)+2 < N+1:=hN
 have ep:=Z2b p
 have eq:=Z2b q
 have gp':=Z14 gp
 have gq':=Z14 gq
 have ap:=Z2J p
 have aq:=Z2J q
 have kp:=JQ op
 have kq:=JQ oq
 have fin:∀ {L:PL} {s:LSt U},ZC lbE p q=L->Yy cfg Try.f160.ntmps Try.f160.results.toList (.tup []) [[.xp 1,.slice (U:=U) .op (sx++L.x) (.own (.x 0 1)),.slice (U:=U) .op (sy++L.y) (.own (.x 0 2)),.slice (U:=U) .tree si (.own (.x 0 3)),.slice (U:=U) .tree sh (.own (.x 0 4))],[.bool (mc || L.c),.bool (ma || L.a)]] .normal s->
   Yy cfg Try.f160.ntmps Try.f160.results.toList (Zbj ((sm_,sx,sy,si,sh,()),p,q,(mc,ma,()),())) (Z6A ((sm_,sx,sy,si,sh,()),p,q,(mc,ma,()),())) .normal s:=by
  intro L s h hs
  subst h
  exact hs
 have hc:=ZC.eq_1 lbE p q
 refine ZxK N sm_ sx sy si sh p q mc ma _ ?_
 intro y1 h1 y2 h2 y3 h3 y4 h4 y5 h5 y6 h6 y7 h7 y8 h8 y9 h9 y10 h10 y11 h11
 replace h3:=h3.symm;replace h4:=h4.symm
 subst h1 h2 h3 h4 h7 h8 h9 h10 h11
 simp only [Z0F]
 (simp only [vcT,vcS])
 refine ⟨fun c1=> ?_,fun c1=> ?_⟩
 ·rw [if_pos c1] at hc
  exact ⟨by simp only [Q9,Qb];omega,⟨by omega,by simp only [Q6,Q9,Qb];omega⟩,by omega,fin hc (by simp only [Qs,QG];(repeat' (first | exact trivial | exact rfl | apply And.intro)))⟩
 rw [if_neg (by omega)] at hc
 refine ⟨fun c2=> ?_,fun c2=> ?_⟩
 ·rw [if_pos c2] at hc
  exact ⟨by simp only [Q9,Qb];omega,⟨by omega,by simp only [Q6,Q9,Qb];omega⟩,by omega,fin hc (by simp only [Qs,QG];(repeat' (first | exact trivial | exact rfl | apply And.intro)))⟩
 rw [if_neg (by omega)] at hc
 refine ⟨fun c3=> ?_,fun c3=> ?_⟩
 ·rw [if_pos c3] at hc
  exact ⟨by simp only [Q9,Qb];omega,by simp only [Q9,Qb];omega,fin hc (by simp only [Qs];(repeat' (first | exact trivial | exact rfl | apply And.intro)))⟩
 rw [if_neg c3] at hc
 refine ⟨fun c4=> ?_,fun c4=> ?_⟩
 ·rw [if_pos c4] at hc
  exact ⟨by simp only [Q9,Qb];omega,by simp only [Q9,Qb];omega,fin hc (by simp only [Qs];(repeat' (first | exact trivial | exact rfl | apply And.intro)))⟩
 rw [if_neg c4] at hc
 refine ⟨fun c5=> ⟨⟨by dsimp only;omega,by dsimp only;omega⟩,fun he=> ?_,fun he=> ?_⟩,fun c5=> ?_⟩
 ·rw [if_pos c5,Z62,he] at hc
  exact fin hc (by simp only [Xv,Qs,Xg,QG];(repeat' (first | exact trivial | exact rfl | apply And.intro)))
 ·rw [if_pos c5,Z62,he] at hc
  exact fin hc (by simp only [Xi,Qs,QG];(repeat' (first | exact trivial | exact rfl | apply And.intro)))
 rw [if_neg (by omega)] at hc
 refine ⟨fun c6=> ?_,fun c6=> ?_⟩
 ·rw [if_pos c6] at hc
  have l1:=Z2G op (.inl c6)
  have l2:=Z25 (o:=y2) (by unfold kOk at kq;omega)
  have hp0:0 < y1.l.length:=by omega
  have m3:y5∈y1.l:=by rw [h5];exact Zh hp0 _
  have m3':=YX m3
  have rk:Z0p y2.e:=⟨by omega,gq'.2.2.2,rq (by unfold kOk at kq;omega)⟩
  have:=Z1l rk
  rw [show y1.l.getD 0 Tree.nil=y5 from h5.symm] at hc
  exact ⟨⟨by omega,by omega⟩,⟨⟨by dsimp only;omega,rk.2⟩,by dsimp only;omega,Z0I gp'.2.2.1 m3⟩,fin hc (by simp only [Bool.or_true,List.append_nil];(repeat' (first | exact trivial | exact rfl | apply And.intro)))⟩
 rw [if_neg c6] at hc
 have kp3:y1.kind=3:=by unfold kOk at kp;omega
 refine ⟨fun c7=> ?_,fun c7=> ?_⟩
 ·rw [if_pos c7] at hc
  have l1:=Z2G oq (.inl c7)
  have l2:=Z25 (o:=y1) kp3
  have hp0:0 < y2.l.length:=by omega
  have m3:y6∈y2.l:=by rw [h6];exact Zh hp0 _
  have m3':=YX m3
  have rk:Z0p y1.e:=⟨by omega,gp'.2.2.2,rp kp3⟩
  have:=Z1l rk
  rw [show y2.l.getD 0 Tree.nil=y6 from h6.symm] at hc
  exact ⟨⟨by omega,by omega⟩,⟨⟨by dsimp only;omega,rk.2⟩,by dsimp only;omega,Z0I gq'.2.2.1 m3⟩,fin hc (by simp only [Bool.or_true,List.append_nil];(repeat' (first | exact trivial | exact rfl | apply And.intro)))⟩
 rw [if_neg c7] at hc
 have k1:Z0p y1.e:=⟨by omega,gp'.2.2.2,rp kp3⟩
 have k2:Z0p y2.e:=⟨by omega,gq'.2.2.2,rq (by unfold kOk at kq;omega)⟩
 refine ⟨⟨k1,k2⟩,?_,trivial,by simp only [Q9,Qb];omega,trivial,by simp only [Q9,Qb];omega,fin hc (by (repeat' (first | exact trivial | exact rfl | apply And.intro)))⟩
 show 8*(Z7 y1.e+Z7 y2.e)+1 < N
 rw [ZI,ZI] at hN'
 omega
set_option maxHeartbeats 1000000 in
theorem Zwv:Zux:=by
 intro N mc ma p q _ hp hN
 obtain ⟨op,oq,kp2,kq2⟩:=hp
 dsimp only at op oq kp2 kq2
 have hN':8*(Z7 p+Z7 q) < N+1:=hN
 have lp:=Zdw p
 have lq:=Zdw q
 have mp:=Z1l op
 have mq:=Z1l oq
 have wk:∀ {e:Edit},Z0p e->∀ w∈e.words,wOk w:=by
  intro e h w hw
  obtain ⟨d,hr⟩:=h.2.2
  have a:=JX (Zt hr).words w hw
  exact ⟨(Yq h.2.1).2.2.1 w hw,a.2.2.2.1,a.2.2.2.2⟩
 have kk:∀ {e:Edit},Z0p e->∀ k∈e.kids,Z0p k.e/\Z7 k.e < Z7 e:=by
  intro e h k hk
  obtain ⟨d,hr⟩:=h.2.2
  have c:=Zcr hk
  have:=Z4s e
  have:=h.1
  exact ⟨⟨by omega,(YT (Yq h.2.1).2.2.2.1 hk).2,_,(Zz (Zt hr).kids k hk).2⟩,Yp hk⟩
 have lkp:=Ys p.kids;have lkq:=Ys q.kids
 have fin:∀ {L:Lft} {s:LSt U},Z3H lbE p q=L->Yy cfg Try.f114.ntmps Try.f114.results.toList (.tup [(true,enc .edit L.x),(true,enc .edit L.y)]) [[.bool (mc || L.c),.bool (ma || L.a)]] .ret s->
   Yy cfg Try.f114.ntmps Try.f114.results.toList (Zbm ((mc,ma,()),p,q,())) (Z6E ((mc,ma,()),p,q,())) .ret s:=by
  intro L s h hs
  subst h
  exact hs
 refine Zy2 N mc ma p q _ ?_
 refine ⟨by show p.words.length<=_;omega,by show q.words.length<=_;omega,?_⟩
 let WI:=SInv WEdit.at_ Z0X Z0X (fun a b=> !Yz a b && Z06 a b) Yz mc ma p.words q.words
 refine Z9 (ι:=Int × Bool × Bool × List WEdit × List WEdit) (fun s=> Z53 mc ma p q s.1 s.2.1 s.2.2.1 s.2.2.2.1 s.2.2.2.2)
  (fun s=> (0<=s.1/\s.1<=p.words.length)/\WI s.1.toNat 0 s.2.1 s.2.2.1 s.2.2.2.1 s.2.2.2.2) (fun s=> ((p.words.length:Int) - s.1).toNat) (0,mc,ma,p.words,q.words) rfl ⟨⟨by dsimp only;omega,by dsimp only;omega⟩,SInv.init⟩ ?_
 rintro ⟨i,c,a,X,Y⟩ ⟨⟨i0,il⟩,H⟩
 dsimp only at i0 il H
 refine Zng N mc ma p q _ _ _ _ _ _ _ ?_
 dsimp only
 refine ⟨fun hi=> ?_,fun hi=> ?_⟩
 ·replace hi:=of_decide_eq_true hi
  refine ⟨⟨i0,hi⟩,?_⟩
  refine Z9 (ι:=Int × Bool × Bool × List WEdit × List WEdit) (fun s=> Z52 mc ma p q i s.1 s.2.1 s.2.2.1 s.2.2.2.1 s.2.2.2.2)
   (fun s=> (0<=s.1/\s.1<=q.words.length)/\WI i.toNat s.1.toNat s.2.1 s.2.2.1 s.2.2.2.1 s.2.2.2.2) (fun s=> ((q.words.length:Int) - s.1).toNat) (0,c,a,X,Y) rfl ⟨⟨by dsimp only;omega,by dsimp only;omega⟩,H⟩ ?_
  clear H
  clear c a X Y
  rintro ⟨j,c,a,X,Y⟩ ⟨⟨j0,jl⟩,H⟩
  dsimp only at j0 jl H
  have lx:=H.lx
  have ly:=H.ly
  refine Znf N mc ma p q _ _ _ _ _ _ _ _ _ ?_
  intro y1 h1 y2 h2 y3 h3 y4 h4 y5 h5 y6 h6
  replace h3:=h3.symm;replace h4:=h4.symm
  subst h3 h4
  (simp only [vcT,vcS])
  try dsimp only at*
  refine ⟨fun hj=> ⟨⟨j0,hj⟩,fun he=> ?_,fun he=> ?_⟩,fun hj=> ?_⟩
  ·have st:=(H.step (by omega) (by omega) ⟨0,0,0,0⟩).1 (by rw [<-h1,<-h2];exact he)
   rw [<-h1,<-h2] at st
   have m1:y1∈p.words:=by rw [h1];exact Zh (by omega) _
   have m2:y2∈q.words:=by rw [h2];exact Zh (by omega) _
   subst h5 h6
   refine ⟨⟨wk op _ m1,wk oq _ m2⟩,⟨wk op _ m1,ZjV _⟩,⟨i0,by omega⟩,QY _,⟨wk oq _ m2,ZjV _⟩,⟨j0,by omega⟩,QY _,?_⟩
   refine ZfP N mc ma p q _ _ _ _ _ _ _ _ _ _ ⟨by unfold InR;omega,(j+1,_,_,_,_),rfl,⟨⟨by dsimp only;omega,by dsimp only;omega⟩,?_⟩,by dsimp only;omega⟩
   rw [show (j+1).toNat=j.toNat+1 by omega]
   exact st
  ·have st:=(H.step (by omega) (by omega) ⟨0,0,0,0⟩).2 (by rw [<-h1,<-h2];exact he)
   refine ZfP N mc ma p q _ _ _ _ _ _ _ _ _ _ ⟨by unfold InR;omega,(j+1,_,_,_,_),rfl,⟨⟨by dsimp only;omega,by dsimp only;omega⟩,?_⟩,by dsimp only;omega⟩
   rw [show (j+1).toNat=j.toNat+1 by omega]
   exact st
  ·refine ⟨by unfold InR;omega,(i+1,_,_,_,_),rfl,⟨⟨by dsimp only;omega,by dsimp only;omega⟩,?_⟩,by dsimp only;omega⟩
   rw [show (i+1).toNat=i.toNat+1 by omega]
   rw [show j.toNat=q.words.length by omega] at H
   exact H.next (by omega)
 replace hi:=of_decide_eq_false hi
 rw [show i.toNat=p.words.length by omega] at H
 obtain ⟨ec,ea,eX,eY⟩:=H.fin
 refine ⟨by show p.kids.length<=_;omega,by show q.kids.length<=_;omega,?_⟩
 let KI:=SInv KidOf.at_ (fun a b:Kid=> ⟨a.at_,(lbE a.e b.e).x⟩) (fun b a:Kid=> ⟨b.at_,(lbE a.e b.e).y⟩) (fun a b=> (lbE a.e b.e).c) (fun a b=> (lbE a.e b.e).a) c a p.kids q.kids
 refine Z9 (ι:=Int × Bool × Bool × List Kid × List Kid) (fun s=> Z51 mc ma p q X Y s.1 s.2.1 s.2.2.1 s.2.2.2.1 s.2.2.2.2)
  (fun s=> (0<=s.1/\s.1<=p.kids.length)/\KI s.1.toNat 0 s.2.1 s.2.2.1 s.2.2.2.1 s.2.2.2.2) (fun s=> ((p.kids.length:Int) - s.1).toNat) (0,c,a,p.kids,q.kids) rfl ⟨⟨by dsimp only;omega,by dsimp only;omega⟩,SInv.init⟩ ?_
 clear H hi il i0
 rintro ⟨i,c1,a1,X1,Y1⟩ ⟨⟨i0,il⟩,H⟩
 dsimp only at i0 il H
 refine Zne N mc ma p q _ _ _ _ _ _ _ _ _ ?_
 intro z1 hz1 z2 hz2
 dsimp only at hz1 hz2 ⊢
 refine ⟨fun hi=> ?_,fun hi=> ?_⟩
 ·replace hi:=of_decide_eq_true hi
  refine ⟨⟨i0,hi⟩,?_⟩
  refine Z9 (ι:=Int × Bool × Bool × List Kid × List Kid) (fun s=> Z50 mc ma p q X Y i s.1 s.2.1 s.2.2.1 s.2.2.2.1 s.2.2.2.2)
   (fun s=> (0<=s.1/\s.1<=q.kids.length)/\KI i.toNat s.1.toNat s.2.1 s.2.2.1 s.2.2.2.1 s.2.2.2.2) (fun s=> ((q.kids.length:Int) - s.1).toNat) (0,c1,a1,X1,Y1) rfl ⟨⟨by dsimp only;omega,by dsimp only;omega⟩,H⟩ ?_
  clear H hz1 hz2
  clear c1 a1 X1 Y1
  rintro ⟨j,c1,a1,X1,Y1⟩ ⟨⟨j0,jl⟩,H⟩
  dsimp only at j0 jl H
  have lx:=H.lx
  have ly:=H.ly
  refine Znd N mc ma p q _ _ _ _ _ _ _ _ _ _ _ ?_
  intro y1 h1 y2 h2 y3 h3 y4 h4 y5 h5 y6 h6
  (simp only [vcT,vcS])
  try dsimp only at*
  refine ⟨fun hj=> ⟨⟨j0,hj⟩,fun he=> ?_,fun he=> ?_⟩,fun hj=> ?_⟩
  ·have st:=(H.step (by omega) (by omega) ⟨0,Edit.nil⟩).1 (by rw [<-h1,<-h2];exact he)
   have e1:=H.at_x (fun a b=> rfl) (by omega) ⟨0,Edit.nil⟩
   have e2:=H.at_y (fun a b=> rfl) (by omega) ⟨0,Edit.nil⟩
   rw [<-h1] at e1
   rw [<-h2] at e2
   rw [<-h1,<-h2] at st
   have m1:=kk op y1 (by rw [h1];exact Zh (by omega) _)
   have m2:=kk oq y2 (by rw [h2];exact Zh (by omega) _)
   subst h3 h4 h5 h6
   refine ⟨⟨m1.1,m2.1⟩,by show 8*(Z7 y1.e+Z7 y2.e)+1 < N;omega,⟨i0,by omega⟩,QY _,⟨j0,by omega⟩,QY _,?_⟩
   refine ZfO N mc ma p q _ _ _ _ _ _ _ _ _ _ _ ⟨by unfold InR;omega,(j+1,_,_,_,_),rfl,⟨⟨by dsimp only;omega,by dsimp only;omega⟩,?_⟩,by dsimp only;omega⟩
   rw [show (j+1).toNat=j.toNat+1 by omega]
   dsimp only
   rw [e1,e2]
   exact st
  ·have st:=(H.step (by omega) (by omega) ⟨0,Edit.nil⟩).2 (by rw [<-h1,<-h2];exact he)
   refine ZfO N mc ma p q _ _ _ _ _ _ _ _ _ _ _ ⟨by unfold InR;omega,(j+1,_,_,_,_),rfl,⟨⟨by dsimp only;omega,by dsimp only;omega⟩,?_⟩,by dsimp only;omega⟩
   rw [show (j+1).toNat=j.toNat+1 by omega]
   exact st
  ·refine ⟨by unfold InR;omega,(i+1,_,_,_,_),rfl,⟨⟨by dsimp only;omega,by dsimp only;omega⟩,?_⟩,by dsimp only;omega⟩
   rw [show (i+1).toNat=i.toNat+1 by omega]
   rw [show j.toNat=q.kids.length by omega] at H
   exact H.next (by omega)
 replace hi:=of_decide_eq_false hi
 rw [show i.toNat=p.kids.length by omega] at H
 have lx:=H.lx;have ly:=H.ly
 obtain ⟨ec1,ea1,eX1,eY1⟩:=H.fin
 have lX:X.length=p.words.length:=by rw [eX,Xc]
 have lY:Y.length=q.words.length:=by rw [eY,Xc]
 refine ⟨⟨by dsimp only;omega,by dsimp only;omega⟩,⟨by dsimp only;omega,by dsimp only;omega⟩,fin rfl ?_⟩
 have e1:(Z3H lbE p q).x=Z2w z1:=by rw [hz1,eX,eX1];try rfl
 have e2:(Z3H lbE p q).y=Z2w z2:=by rw [hz2,eY,eY1];try rfl
 have e3:(mc || (Z3H lbE p q).c)=c1:=by rw [ec1,ec,Xz];try rfl
 have e4:(ma || (Z3H lbE p q).a)=a1:=by rw [ea1,ea,Xz];try rfl
 rw [e1,e2,e3,e4]
 (repeat' (first | exact trivial | exact rfl | apply And.intro))
theorem ZzE:Contract Try.prog cfg 77 Z7W/\Contract Try.prog cfg 114 Zjj/\Contract Try.prog cfg 115 Zji/\Contract Try.prog cfg 160 Zjh:=
 ZrD Z9N Zwm Zwl Zfm Zwf Zwe Zwd Zwc Zwb (Zwa ZpU) Zw9 Zw8 Zw3 Zw2 b77 Zwv Zwu Zwt
theorem c77:Contract Try.prog cfg 77 Z7W:=ZzE.1
noncomputable section
def Zgq(a:Edit × Edit × Unit):Prop:=Zrs a.1 a.2.1
def Zjz(a:Edit × Edit × Unit):V U:= .tup [(true,(enc .edit ((lbN a.1 a.2.1).1))),(true,(enc .edit ((lbN a.1 a.2.1).2.1))),(false,[ci ((lbN a.1 a.2.1).2.2)])]
def Z3N:Fs U:=fs Zj2 (fun a=> [Zgq a]) Zjz
def ZtZ(a:Unit):V U:= .c (.bool true)
def ZaZ:Fs U:=fs Zlh (fun a=> [Z8e a]) ZtZ
def Zoe(a:Edit × Unit):Prop:=(Z2f a.1/\YQ a.1)
def Zu1(a:Edit × Unit):V U:= .c (.bool true)
def Ze3:Fs U:=fs Zll (fun a=> [Zoe a]) Zu1
def Zpy:List (FuncId × Fs U):=[(57,ZaW),(77,Z7W)]
def ZvF:Zf U:=lvl [([2,3,4,5],[2,3,4,5]),([2,3,4,5,7],[2,3,4,5,11]),([4,5,7,8,9],[4,5,8,9,11]),([4,5,7,8,9,21],[4,5,8,9,11]),([4,5,6],[4,5]),([4,5,8,9,28],[4,5,8,9]),([4,5,6],[4,5]),([4,5,6],[4,5])]
abbrev A35(p:List Nat):=AW (Z1 Zpy) Try.f35 ZvF p
theorem Zzt(p q:Edit)(Q:QT)(h:∀ y_1,y_1=p->∀ y_2,y_2=q->∀ y_3,y_3=(Zo y_1)->∀ y_4,y_4=(Zo y_2)->∀ y_5,y_5=((lbE y_3 y_4).x)->∀ y_6,y_6=((lbE y_3 y_4).y)->((Z0W (y_1,()))/\(Z0W (y_2,()))/\(Zbr ((false,false,()),y_3,y_4,()))/\(((false || (lbE y_3 y_4).a)=true->(Q .ret (L2 [pL 4,pL 5,pI 6 14] [(.loc 4,zc1),(.loc 5,zc1)])))/\((false || (lbE y_3 y_4).a)=false->(((false || (lbE y_3 y_4).c)=true->(Q .ret (L2 [pL 4,pL 5,pI 6 13] [(.loc 4,zc1),(.loc 5,zc1)])))/\((false || (lbE y_3 y_4).c)=false->(Z0W (y_5,()))/\(Z0W (y_6,()))/\(Q .ret (L2 [pL 4,pL 5,pI 6 0] [(.loc 4,(enc .edit (Zo y_5))),(.loc 5,(enc .edit (Zo y_6)))])))))))):
  A35 [] (L2 [(0,.agg (enc .edit p)),(1,.agg (enc .edit q))] []) Q:=
 Eq.mpr (by kernel_rfl) (h _ (Za _) _ (Za _) _ (Za _) _ (Za _) _ (Za _) _ (Za _))
def Zx6(p q:Edit):Prop:=AW (Z1 Zpy) Try.f35 ZvF [] (Zj (Zj2.can (p,q,())) []) (EQ Try.f35 (Zjz (p,q,())) [])
theorem Zvr(c57:CT 57 ZaW)(c77:CT 77 Z7W)(hb:∀ (p:Edit) (q:Edit) (_:Unit),Zgq (p,q,())->Zx6 p q):CT 35 Z3N:=
 Z3 (l:=[(57,ZaW),(77,Z7W)]) Zl rfl (⟨c57,c77,trivial⟩) ZvF Try.func35 rfl rfl 2 (fun _=> rfl) (by decide) (fun ⟨p,q,_⟩=> hb p q ())
def Zpz:List (FuncId × Fs U):=[(35,Z3N)]
def ZvG:Zf U:=lvl [([],[]),([1],[]),([1,2],[]),([2,3],[3]),([3,4],[3,4]),([5,6,7],[5,6]),([0],[])]
abbrev A34(p:List Nat):=AW (Z1 Zpz) Try.f34 ZvG p
theorem Zzu(Q:QT)(h:∀ y_1,y_1=(Edit.mk 0 (Tree.mk 0 [] []) (Tree.mk 0 [] []) [] [] 0 [])->∀ y_2,y_2=(Edit.mk 3 (Tree.mk 0 [] []) (Tree.mk 0 [] []) [] [] 4 ([(OpOf.mk 0 1 [] y_1),(OpOf.mk 2 0 ([(Tree.mk 10 ([2]) [])]) y_1)]))->∀ y_3,y_3=(Edit.mk 3 (Tree.mk 0 [] []) (Tree.mk 0 [] []) [] [] 4 ([(OpOf.mk 2 0 ([(Tree.mk 10 ([1]) [])]) y_1),(OpOf.mk 0 1 [] y_1)]))->∀ y_4,y_4=(List.getD (Edit.ops ((lbN y_3 y_2).1)) (Int.toNat 0) Op.nil)->∀ y_5,y_5=(List.getD (Edit.ops ((lbN y_3 y_2).1)) (Int.toNat 1) Op.nil)->∀ y_6,y_6=(List.getD (Edit.ops ((lbN y_3 y_2).2.1)) (Int.toNat 0) Op.nil)->let z7:=Edit.ops ((lbN y_3 y_2).1);let z6:=Edit.ops ((lbN y_3 y_2).2.1);let z5:=(((lbN y_3 y_2).2.2):Int)==0;let z1:=bif z5 then (((z7.length:Int):Int)==2) else false;let z2:=bif z1 then (y_4.kind==2) else false;let z4:=bif z2 then (y_5.n==2) else false;let z0:=bif z4 then (((z6.length:Int):Int)==2) else false;let z3:=bif z0 then (y_6.n==2) else false;((Zgq (y_3,y_2,()))/\((Tr (z5=true))/\(Tr (z5=true))/\(Tr (z5=true))/\(Tr (z5=true))/\(Tr (z1=true))/\(Tr (z1=true))/\(z1=true->(0:Int)<=0/\0 < (z7.length:Int))/\(Tr (z1=true))/\(Tr (z1=true))/\(Tr (z1=true))/\(Tr (z1=true))/\(Tr (z2=true))/\(Tr (z2=true))/\(z2=true->(0:Int)<=1/\1 < (z7.length:Int))/\(Tr (z2=true))/\(Tr (z2=true))/\(Tr (z2=true))/\(Tr (z2=true))/\(Tr (z4=true))/\(Tr (z4=true))/\(Tr (z4=true))/\(Tr (z4=true))/\(Tr (z0=true))/\(Tr (z0=true))/\(z0=true->(0:Int)<=0/\0 < (z6.length:Int))/\(Tr (z0=true))/\(Tr (z0=true))/\(Tr (z0=true))/\(Tr (z0=true))/\(Tr (z3=true))/\(Tr (z3=true))/\(z3=true->(0:Int)<=1/\1 < (z6.length:Int))/\(Tr (z3=true))/\(Tr (z3=true))/\(Tr (z3=true))/\(Tr (z3=true))/\(Q .ret (L2 [(0,.c (.bool (bif z3 then (((OpOf.kind (List.getD z6 (Int.toNat 1) Op.nil)):Int)==2) else false)))] []))))):
  A34 [] (L2 [] []) Q:=
 Eq.mpr (by kernel_rfl) (h _ rfl _ rfl _ rfl _ rfl _ rfl _ rfl)
def Zx7:Prop:=AW (Z1 Zpz) Try.f34 ZvG [] (Zj (Zlh.can ()) []) (EQ Try.f34 (ZtZ ()) [])
theorem Zvs(c35:CT 35 Z3N)(hb:∀ (_:Unit),Z8e ()->Zx7):CT 34 ZaZ:=
 Z3 (l:=[(35,Z3N)]) Zl rfl (⟨c35,trivial⟩) ZvG Try.func34 rfl rfl 0 (fun _=> rfl) (by decide) (fun _=> hb ())
def ZpC:List (FuncId × Fs U):=[(15,Zb3),(19,Zb2),(32,ZaW),(34,ZaZ),(35,Z3N)]
def ZvJ:Zf U:=lvl [([1],[1]),([1,11],[1]),([2],[]),([1,3,4,5],[1,3,4]),([1,3,4,5,6,7,8],[1,3,4,6,7]),([2],[])]
abbrev A10(p:List Nat):=AW (Z1 ZpC) Try.f10 ZvJ p
theorem ZzB(e:Edit)(Q:QT)(h:∀ y_1,y_1=e->∀ y_2,y_2=(Edit.mk 0 (Tree.mk 0 [] []) (Tree.mk 0 [] []) [] [] 0 [])->∀ y_3,y_3=(Zo y_1)->∀ y_4,y_4=((lbN y_1 y_2).1)->let z5:=(((lbN y_1 y_1).2.2):Int)==0;let z1:=bif z5 then (((Edit.kind ((lbN y_1 y_1).1)):Int)==0) else false;let z3:=bif z1 then (((Edit.kind ((lbN y_1 y_1).2.1)):Int)==0) else false;let z0:=bif z3 then ((((lbN y_1 y_2).2.2):Int)==0) else false;let z4:=bif z0 then (eqX y_4 y_3) else false;let z2:=bif z4 then (((Edit.kind ((lbN y_1 y_2).2.1)):Int)==0) else false;((ZjN (y_1,()))/\(((!(Z0f y_1))=true->(Z8e ())/\(Q .ret (L2 [pB 2 true] [])))/\((!(Z0f y_1))=false->(Zgq (y_1,y_1,()))/\((Zgq (y_1,y_2,()))/\((Tr (z5=true))/\(Tr (z5=true))/\(Tr (z5=true))/\(Tr (z1=true))/\(Tr (z1=true))/\(Tr (z1=true))/\(Tr (z3=true))/\(Tr (z3=true))/\(Tr (z0=true))/\(z0=true->Z0W (y_1,()))/\(Tr (z0=true))/\(Tr (z0=true))/\(z0=true->Z5u (y_4,y_3,()))/\(Tr (z0=true))/\(Tr (z4=true))/\(Tr (z4=true))/\(Tr (z4=true))/\(z2=true->Z8e ())/\(Tr (z2=true))/\(Q .ret (L2 [(2,.c (.bool (bif z2 then true else false)))] [])))))))):
  A10 [] (L2 [(0,.agg (enc .edit e))] []) Q:=
 Eq.mpr (by kernel_rfl) (h _ (Za _) _ rfl _ (Za _) _ (Za _))
def Zxe(e:Edit):Prop:=AW (Z1 ZpC) Try.f10 ZvJ [] (Zj (Zll.can (e,())) []) (EQ Try.f10 (Zu1 (e,())) [])
theorem Zvx(c15:CT 15 Zb3)(c19:CT 19 Zb2)(c32:CT 32 ZaW)(c34:CT 34 ZaZ)(c35:CT 35 Z3N)(hb:∀ (e:Edit) (_:Unit),Zoe (e,())->Zxe e):CT 10 Ze3:=
 Z3 (l:=[(15,Zb3),(19,Zb2),(32,ZaW),(34,ZaZ),(35,Z3N)]) Zl rfl (⟨c15,c19,c32,c34,c35,trivial⟩) ZvJ Try.func10 rfl rfl 1 (fun _=> rfl) (by decide) (fun ⟨e,_⟩=> hb e ())
end
theorem Zrn{e:Edit}{d:Int}(h:Z8 e d=true)(k:e.kind=0):e=Edit.nil:=by
 have r:=Zt h
 obtain ⟨kk,o,n,w,ks,l,os⟩:=e
 obtain ⟨h1,h2⟩:=r.none (by rw [k];decide)
 obtain ⟨h3,h4⟩:=r.words0 (by rw [k];decide)
 obtain ⟨h5,h6⟩:=r.ops0 (by rw [k];decide)
 have k:kk=0:=k
 have h1:o=Tree.nil:=h1
 have h2:n=Tree.nil:=h2
 have h3:w=[]:=h3
 have h4:ks=[]:=h4
 have h5:l=0:=h5
 have h6:os=[]:=h6
 subst k h1 h2 h3 h4 h5 h6
 try rfl
theorem Z1L{α:Type}{at_:α->Int}:∀ {l:List α} {last:Int},asc at_ last l->∀ a∈l,Z1M at_ l (at_ a)=some a
 | x ::r,last,h,a,ha=> by
  unfold Z1M
  rw [XL,Z3r]
  have none_:∀ (r:List α) (n m:Int),asc at_ m r->n<=m->Z1M at_ r n=none:=by
   intro r n m hr hn
   cases e:Z1M at_ r n with
   | none=> rfl
   | some b=>
    obtain ⟨h1,h2⟩:=Z4T at_ n r b e
    have:=Zq3 hr b h1
    omega
  rcases Qc.1 ha with rfl | ha
  ·rw [none_ r _ _ h.2 (Xa _)]
   simp only [if_pos]
  ·rw [Z1L h.2 a ha]
theorem ZsU{α:Type}{at_:α->Int}{l:List α}{last:Int}(h:asc at_ last l){a b:α}(ha:a∈l)(hb:b∈l)(e:at_ a=at_ b):a=b:=by
 have h1:=Z1L h a ha
 rw [e,Z1L h b hb] at h1
 exact (Option.some.inj h1).symm
theorem Z5j{α:Type}{at_:α->Int}{g:α->α->Bool}{l:List α}{last:Int}(h:asc at_ last l)(hg:∀ a∈l,g a a=false):JV at_ g l l=false:=by
 unfold JV
 rw [Xs]
 intro a ha
 rw [K0,Xs]
 intro b hb
 rw [K0,Bool.and_eq_false_iff]
 by_cases e:at_ a=at_ b
 ·have:=ZsU h ha hb e
  subst this
  exact .inr (hg a ha)
 ·exact .inl (decide_eq_false e)
theorem Zqo(m:Int):Z1T (ZeU m) m=0:=by
 unfold Z1T ZeU
 have h:∀ x:BitVec 8,(BitVec.ofInt 8 (IntKind.wrap .u8 (BitVec.ofInt 8 255 ^^^ x).toNat)) &&& x=0#8:=by
  intro x
  have e:IntKind.wrap .u8 (((BitVec.ofInt 8 255 ^^^ x).toNat:Nat):Int)=((BitVec.ofInt 8 255 ^^^ x).toNat:Nat):=Z4u (by omega) (by have:=(BitVec.ofInt 8 255 ^^^ x).isLt;omega)
  rw [e]
  have e2:BitVec.ofInt 8 (((BitVec.ofInt 8 255 ^^^ x).toNat:Nat):Int)=BitVec.ofInt 8 255 ^^^ x:=by
   rw [BitVec.ofInt_natCast];simp
  rw [e2]
  revert x
  decide
 have h':=h (BitVec.ofInt 8 m)
 show IntKind.wrap .u8 (BitVec.toNat (BitVec.ofInt 8 (IntKind.wrap .u8 (BitVec.ofInt 8 255 ^^^ BitVec.ofInt 8 m).toNat) &&& BitVec.ofInt 8 m))=0
 rw [h']
 try rfl
def ZfK(L:Lft):Prop:=L=⟨Edit.nil,Edit.nil,false,false⟩
structure Kept (S:PL):Prop where
 x:∀ o∈S.x,o.kind=0
 y:∀ o∈S.y,o.kind=0
 c:S.c=false
 a:S.a=false
theorem Kept.app{s t:PL}(h:Kept s)(k:Kept t):Kept (s.app t):=
 ⟨fun o ho=> (Qh.1 ho).elim (h.x o) (k.x o),fun o ho=> (Qh.1 ho).elim (h.y o) (k.y o),by simp [PL.app,h.c,k.c],by simp [PL.app,h.a,k.a]⟩
theorem ZkM(n:Int):∀ o∈J9 n,o.kind=0:=by
 intro o ho
 unfold J9 at ho
 split at ho
 ·cases ho
 ·rw [Qe.1 ho]
theorem Zhc(m:List Tree):Kept (Ja m m):=by
 unfold Ja
 split
 ·exact ⟨ZkM _,ZkM _,by simp [Z62],rfl⟩
 ·rename_i h
  have:m=[]:=by
   by_cases e:m=[]
   ·exact e
   ·exact absurd ⟨e,e⟩ h
  subst this
  exact ⟨by simp [Z2O,J9],by simp [Z2O,J9],rfl,rfl⟩
theorem Zi4{f:Edit->Edit->Lft}{o:Op}(ho:ZT o)(h2:o.kind≠2)(hf:o.kind=3->ZfK (f o.e o.e)):Kept (ZC f o o):=by
 have k:=JQ ho
 unfold kOk at k
 by_cases k0:o.kind=0
 ·rw [pL0 k0 (by omega)]
  exact ⟨fun x hx=> by rw [Qe.1 hx],fun x hx=> by rw [Qe.1 hx];exact k0,rfl,rfl⟩
 by_cases k1:o.kind=1
 ·rw [Zrv k1 k1]
  exact ⟨fun x hx=> (by cases hx),fun x hx=> (by cases hx),rfl,by simp [Z62]⟩
 ·rw [Zru k0 k1 k0 k1]
  have h:f o.e o.e=⟨Edit.nil,Edit.nil,false,false⟩:=hf (by omega)
  rw [h]
  have e:Z3M Edit.nil=⟨0,1,[],Edit.nil⟩:=rfl
  exact ⟨fun x hx=> by rw [Qe.1 hx,e],fun x hx=> by rw [Qe.1 hx,e],rfl,rfl⟩
theorem Zc8{f:Edit->Edit->Lft}:∀ (p:List Op) (m:List Tree),(∀ o∈p,ZT o)->(∀ o∈p,o.kind=3->ZfK (f o.e o.e))->∃ S,Lay f p p m m S/\Kept S
 | [],m,_,_=> ⟨_,.nil m m,Zhc m⟩
 | a ::p,m,ho,hf=> by
  have ho':=fun o h=> ho o (Q4 a h)
  have hf':=fun o h=> hf o (Q4 a h)
  by_cases k2:a.kind=2
  ·obtain ⟨S,h1,h2⟩:=Zc8 (f:=f) p (m++a.l) ho' hf'
   exact ⟨S,.left k2 (h1.right' k2),h2⟩
  ·obtain ⟨S,h1,h2⟩:=Zc8 (f:=f) p [] ho' hf'
   have e1:Zw (a ::p) (Z2 a)=p:=by
    unfold Zw
    simp
   have e2:Zq a (Z2 a)=a:=by unfold Zq;rw [if_pos (Int.le_refl _)]
   have:=Lay.both (f:=f) (p:=p) (q:=p) (m:=m) (h:=m) (n:=Z2 a) k2 k2 (by omega) (by rw [e1];exact h1)
   rw [e2] at this
   exact ⟨_,this,((Zhc m).app (Zi4 (ho a Q5) k2 (hf a Q5))).app h2⟩
theorem Zd4{list:Int}{l:List Op}(h:∀ o∈l,o.kind=0):Z0K list l=Edit.nil:=by
 unfold Z0K
 rw [if_neg]
 rw [K0,Xs]
 intro o ho
 rw [h o ho];decide
theorem ZsE:∀ (n:Nat) (e:Edit) (d:Int),Z7 e+Z7 e<=n->Z8 e d=true->ZfK (lbF n e e):=by
 intro n
 induction n with
 | zero=> intro e d h;obtain ⟨k,o,nw,w,ks,l,os⟩:=e;simp only [Z7] at h;omega
 | succ n ih=>
  intro e d hn hr
  have re:=Zt hr
  show ZfK (Ya (lbF n) e e)
  by_cases k0:e.kind=0
  ·rw [lb0 (.inl k0),Zrn hr k0];try rfl
  by_cases k1:e.kind=1
  ·rw [lb1 k1 k0]
   have hd:doB e e.old=(Z4 e.new,true):=by
    unfold doB
    rw [ZvS k1,Zb9,if_pos rfl];try rfl
   show (⟨_,_,(doB e e.old).2 && !ZZ (Z4 (doB e e.old).1) (Z4 e.new),!(doB e e.old).2⟩:Lft)=_
   rw [hd,JR,Zb9];try rfl
  have hk:=re.kind
  by_cases k2:e.kind=2
  ·rw [lb2 k2 k2 rfl]
   have hkid:∀ k∈e.kids,lbF n k.e k.e=⟨Edit.nil,Edit.nil,false,false⟩:=fun k hk=> ih k.e _ (by have:=Yp hk;omega) (Zz re.kids k hk).2
   have ww:=Z7Q re.words
   have kk:=Zcb re.kids
   have f1:∀ x:List WEdit,(∀ w∈x,w∈e.words)->((x.map (YA WEdit.at_ Z0X e.words)).filter fun w=> !decide (w.mask=0))=[]:=by
    intro x hx
    rw [List.filter_eq_nil_iff]
    intro w hw
    obtain ⟨v,hv,rfl⟩:=Xo.1 hw
    have:YA WEdit.at_ Z0X e.words v=Z0X v v:=by unfold YA;rw [Z1L ww v (hx v hv)]
    rw [this]
    show ¬(!decide (Z1T (ZeU v.mask) v.mask=0))=true
    rw [Zqo];decide
   have f2:∀ g:Kid->Kid->Kid,(∀ k∈e.kids,(g k k).e=Edit.nil)->((e.kids.map (YA KidOf.at_ g e.kids)).filter fun k=> !decide (k.e.kind=0))=[]:=by
    intro g hg
    rw [List.filter_eq_nil_iff]
    intro w hw
    obtain ⟨v,hv,rfl⟩:=Xo.1 hw
    have:YA KidOf.at_ g e.kids v=g v v:=by unfold YA;rw [Z1L kk v hv]
    rw [this,hg v hv];decide
   have sl:∀ g:Kid->Kid->Kid,(∀ k∈e.kids,(g k k).e=Edit.nil)->Z2w (.mk 2 Tree.nil Tree.nil (e.words.map (YA WEdit.at_ Z0X e.words)) (e.kids.map (YA KidOf.at_ g e.kids)) 0 [])=Edit.nil:=by
    intro g hg
    unfold Z2w
    refine if_pos ?_
    have a:=f1 e.words fun _ h=> h
    have b:=f2 g hg
    show ((e.words.map (YA WEdit.at_ Z0X e.words)).filter fun w=> !decide (w.mask=0)).length+((e.kids.map (YA KidOf.at_ g e.kids)).filter fun k=> !decide (k.e.kind=0)).length=0
    rw [a,b];try rfl
   have ap:∀ w:WEdit,Yz w w=false/\Z06 w w=false:=fun w=> ⟨decide_eq_false (fun h=> h rfl),decide_eq_false (fun h=> h rfl)⟩
   unfold Z3H
   rw [sl _ fun k hk=> by rw [hkid k hk],sl _ fun k hk=> by rw [hkid k hk],Z5j ww (fun w _=> by rw [(ap w).1,(ap w).2];rfl),Z5j ww (fun w _=> (ap w).1),Z5j kk (fun k hk=> by rw [hkid k hk]),Z5j kk (fun k hk=> by rw [hkid k hk])]
   try rfl
  ·rw [lb3 rfl k0 k1 k2 rfl]
   obtain ⟨S,hL,hS⟩:=Zc8 (f:=lbF n) e.ops [] (J3 hr) fun o ho k3=> ih o.e _ (by have:=J8 ho;omega) (J2 (rightOs_mem re.ops ho) k3)
   obtain ⟨b,ps,e1,e2⟩:=Zf3 hL []
   unfold Z3p
   rw [if_pos b,e1,Qu,<-e2,Zd4 hS.x,Zd4 hS.y,hS.c,hS.a]
   try rfl
theorem Zpp{e:Edit}{d:Int}(h:Z8 e d=true):lbN e e=(Zo Edit.nil,Zo Edit.nil,0):=by
 have:=ZsE _ (Zo e) d (Qf _) (YN e d h)
 have this:lbE (Zo e) (Zo e)=⟨Edit.nil,Edit.nil,false,false⟩:=this
 unfold lbN
 rw [this]
 try rfl
theorem Zpq{e q:Edit}{d:Int}(h:Z8 e d=true)(hq:(Zo q).kind=0){d':Int}(hr:Z8 q d'=true):lbN e q=(Zo (Zo e),Zo (Zo q),0):=by
 have:lbE (Zo e) (Zo q)=⟨Zo e,Zo q,false,false⟩:=by rw [Zc7 (YN e d h) (YN q d' hr),lb0 (.inr hq)]
 unfold lbN
 rw [this]
 try rfl
theorem Z6I{e:Edit}(h:Z0p e):Z0W (e,()):=by
 have:=Z1l h
 exact ⟨by dsimp only;omega,h.2.2⟩
set_option maxHeartbeats 1000000 in
theorem c35:Contract Try.prog cfg 35 Z3N:=by
 refine Zvr ZvT.1 c77 ?_
 intro p q _ hp
 have hp:Zrs p q:=hp
 obtain ⟨⟨h1,h2⟩,h3,h4⟩:=Zrr hp
 have fin:∀ {X Y:Edit} {n:Int} {s:LSt U},lbN p q=(X,Y,n)->Yy cfg Try.f35.ntmps Try.f35.results.toList (.tup [(true,enc .edit X),(true,enc .edit Y),(false,[.int .i64 n])]) [] .ret s->Yy cfg Try.f35.ntmps Try.f35.results.toList (Zjz (p,q,())) [] .ret s:=by
  intro X Y n s h hs
  refine ZsN ?_ hs
  simp only [Zjz]
  rw [h]
  try rfl
 have eN:=lbN.eq_1 p q
 refine Zzt _ _ _ ?_
 intro y1 e1 y2 e2 y3 e3 y4 e4 y5 e5 y6 e6
 subst e1 e2
 rw [<-e3] at h1
 rw [<-e4] at h2
 rw [<-e3,<-e4] at h3 h4 eN
 generalize hL:lbE y3 y4=L at h3 h4 eN e5 e6 ⊢
 simp only [XG]
 refine ⟨Z6I hp.1,Z6I hp.2.1,⟨h1,h2⟩,fun ha=> fin (by rw [eN,if_pos ha]) (by (repeat' (first | exact trivial | exact rfl | apply And.intro))),fun ha=> ⟨fun hc=> fin (by rw [eN,if_neg (by rw [ha];decide),if_pos hc]) (by (repeat' (first | exact trivial | exact rfl | apply And.intro))),fun hc=> ⟨by rw [e5];exact Z6I h3,by rw [e6];exact Z6I h4,?_⟩⟩⟩
 exact fin (by rw [eN,if_neg (by rw [ha];decide),if_neg (by rw [hc];decide),<-e5,<-e6]) (by (repeat' (first | exact trivial | exact rfl | apply And.intro)))
def Z1Q(n:Int):Tree:= .mk 10 [n] []
def Zcf:Edit:= .mk 3 Tree.nil Tree.nil [] [] 4 [⟨2,0,[Z1Q 1],Edit.nil⟩,⟨0,1,[],Edit.nil⟩]
def Zcg:Edit:= .mk 3 Tree.nil Tree.nil [] [] 4 [⟨0,1,[],Edit.nil⟩,⟨2,0,[Z1Q 2],Edit.nil⟩]
theorem Z4V:Z8 Zcf 64=true/\Z8 Zcg 64=true:=⟨rfl,rfl⟩
theorem ZkN:YQ Zcf/\YQ Zcg:=by
 have z:=Z81
 have i0:InR 0:=YH (by decide) (by decide)
 have zn:YQ Edit.nil:=⟨i0,z,z,by simp,i0,trivial,trivial⟩
 have at_:∀ n:Int,isW n->rng (Z1Q n):=fun n h=> ⟨⟨by decide,by decide⟩,fun x hx=> by rw [Qe.1 hx];exact h,trivial⟩
 refine ⟨⟨YH (by decide) (by decide),z,z,by simp,YH (by decide) (by decide),trivial,⟨YH (by decide) (by decide),i0,⟨at_ 1 (by unfold isW;omega),trivial⟩,zn⟩,⟨i0,YH (by decide) (by decide),trivial,zn⟩,trivial⟩,
  ⟨YH (by decide) (by decide),z,z,by simp,YH (by decide) (by decide),trivial,⟨i0,YH (by decide) (by decide),trivial,zn⟩,⟨YH (by decide) (by decide),i0,⟨at_ 2 (by unfold isW;omega),trivial⟩,zn⟩,trivial⟩⟩
theorem ZkO:Zo Zcf=Zcf/\Zo Zcg=Zcg:=by
 unfold Zcf Zcg
 rw [ZeT,ZeT]
 exact ⟨rfl,rfl⟩
theorem ZpE:lbN Zcf Zcg=(.mk 3 Tree.nil Tree.nil [] [] 4 [⟨2,0,[Z1Q 1],Edit.nil⟩,⟨0,2,[],Edit.nil⟩],.mk 3 Tree.nil Tree.nil [] [] 4 [⟨0,2,[],Edit.nil⟩,⟨2,0,[Z1Q 2],Edit.nil⟩],0):=by
 have L0:Lay lbE [] [] [] [Z1Q 2] (Ja [] [Z1Q 2]):= .nil _ _
 have L1:Lay lbE [] [⟨2,0,[Z1Q 2],Edit.nil⟩] [] [] (Ja [] [Z1Q 2]):= .right (fun a ha=> by cases ha) rfl L0
 have t:∀ r:List Op,Zw (⟨0,1,[],Edit.nil⟩ ::r) 1=r/\Zq ⟨0,1,[],Edit.nil⟩ 1=⟨0,1,[],Edit.nil⟩:=by
  intro r
  simp [Zw,Zq,Z2]
 have L2:=Lay.both (f:=lbE) (a:=⟨0,1,[],Edit.nil⟩) (p:=[]) (b:=⟨0,1,[],Edit.nil⟩) (q:=[⟨2,0,[Z1Q 2],Edit.nil⟩]) (m:=[Z1Q 1]) (h:=[]) (n:=1) (by decide) (by decide) (by simp [Z2]) (by rw [(t _).1,(t _).1];exact L1)
 have L3:Lay lbE Zcf.ops Zcg.ops [] [] _:= .left rfl L2
 obtain ⟨b,ps,e1,e2⟩:=Zf3 L3 []
 rw [(t []).2] at e2
 have e3:Z0q lbE ps [] []=⟨[⟨2,0,[Z1Q 1],Edit.nil⟩,⟨0,1,[],Edit.nil⟩,⟨0,1,[],Edit.nil⟩],[⟨0,1,[],Edit.nil⟩,⟨0,1,[],Edit.nil⟩,⟨2,0,[Z1Q 2],Edit.nil⟩],false,false⟩:=by
  rw [<-e2,pL0 rfl (by decide)]
  simp [Ja,Z2O,J9,PL.app]
 have hl:lbE Zcf Zcg=⟨.mk 3 Tree.nil Tree.nil [] [] 4 [⟨2,0,[Z1Q 1],Edit.nil⟩,⟨0,1,[],Edit.nil⟩,⟨0,1,[],Edit.nil⟩],.mk 3 Tree.nil Tree.nil [] [] 4 [⟨0,1,[],Edit.nil⟩,⟨0,1,[],Edit.nil⟩,⟨2,0,[Z1Q 2],Edit.nil⟩],false,false⟩:=by
  rw [Zc7 Z4V.1 Z4V.2,lb3 (p:=Zcf) (q:=Zcg) rfl (by decide) (by decide) (by decide) rfl]
  unfold Z3p
  rw [if_pos b,e1,Qu,e3]
  try rfl
 unfold lbN
 rw [ZkO.1,ZkO.2,hl]
 show (Zo _,Zo _,(0:Int))=_
 rw [ZeT,ZeT]
 try rfl
theorem c34:Contract Try.prog cfg 34 ZaZ:=by
 refine Zvs c35 ?_
 intro _ _
 refine Zzu _ ?_
 intro y1 h1 y2 h2 y3 h3 y4 h4 y5 h5 y6 h6
 have e1:y1=Edit.nil:=h1
 subst e1
 have e2:y2=Zcg:=h2
 have e3:y3=Zcf:=h3
 subst e2 e3
 rw [ZpE] at*
 subst h4 h5 h6
 have m1:Z7 Zcf<=20000:=by decide
 have m2:Z7 Zcg<=20000:=by decide
 refine ⟨Zev Z4V.1 Z4V.2 ZkN.1 ZkN.2 rfl rfl m1 m2,?_⟩
 simp only [Tr]
 repeat' (first | exact (fun x=> x) | exact (fun _=> ⟨by decide,by decide⟩) | exact Zb rfl rfl | apply And.intro)
theorem Z60{e:Edit}(h:Z0f e=true):Y3 e=true:=by simp only [Z0f,Q1] at h;exact h.2
theorem c10:Contract Try.prog cfg 10 Ze3:=by
 refine Zvx c15 c19 ZvU.1 c34 c35 ?_
 intro e _ hp
 refine ZzB _ _ ?_
 intro y1 h1 y2 h2 y3 h3 y4 h4
 subst h1
 (simp only [vcT,vcS])
 refine ⟨hp,fun _=> ⟨trivial,Zb rfl rfl⟩,fun hg=> ?_⟩
 have g:Z0f y1=true:=by simpa using hg
 obtain ⟨_,m1,r1⟩:=ZpH g hp.2
 have e2:y2=Edit.nil:=h2
 subst e2
 have rb1:=Zev r1 r1 hp.2 hp.2 (Z60 g) (Z60 g) (by omega) (by omega)
 have rb2:=Zev (p:=y1) (q:=Edit.nil) r1 (d':=64) rfl hp.2 ZdU.g (Z60 g) rfl (by omega) (by decide)
 have n0:(Zo Edit.nil).kind=0:=Z2H _
 rw [Zpq r1 n0 (d':=64) rfl] at h4 ⊢
 rw [Zpp r1]
 dsimp only at h4 ⊢
 have o1:=Z1p (Zo y1)
 have o2:=Z1p y1
 have e43:y4=y3:=by rw [h4,h3,Z8n]
 subst e43
 have n1:(Zo (Zo Edit.nil)).kind=0:=by rw [Z2H,Z2H];try rfl
 rw [n0,n1]
 refine ⟨rb1,rb2,fun _=> ⟨by dsimp only;omega,64,r1⟩,fun _=> by rw [h4];dsimp only [Z5u];omega,fun _=> trivial,Zb rfl ?_⟩
 simp
end Go.AM.Ytpjenobkibfpcaa
