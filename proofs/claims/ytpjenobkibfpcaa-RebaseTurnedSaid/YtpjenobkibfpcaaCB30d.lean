import Derived.Test.YtpjenobkibfpcaaCB30b
import Derived.Test.YtpjenobkibfpcaaCB30a
import Derived.Test.YtpjenobkibfpcaaKL23r
import Derived.Test.YtpjenobkibfpcaaKG21b
import Derived.Test.YtpjenobkibfpcaaCD30b
set_option linter.unusedSimpArgs false
set_option linter.unusedVariables false
namespace Go.AM.Ytpjenobkibfpcaa
open Go.AM Go.Proofs
theorem Ziu(m:Int):0<=ZkC m/\ZkC m < 256:=by
 unfold ZkC
 have h:=(BitVec.ofInt (IntKind.bits .u8) 255 ^^^ BitVec.ofInt (IntKind.bits .u8) m).isLt
 have e:(2:Nat) ^ IntKind.bits .u8=256:=rfl
 rw [Z5q (by omega) (by omega)]
 omega
theorem b77:ZwE:=by
 intro N mc ma p q _ hp hN
 obtain ⟨op,oq⟩:=hp
 dsimp only at op oq
 have hN':8*(Z5 p+Z5 q)+1 < N+1:=hN
 obtain ⟨dp,rp⟩:=op.2.2
 obtain ⟨dq,rq⟩:=oq.2.2
 have hst:=ZfN rp rq
 unfold Ya at hst
 have lp:=Zcv p
 have lq:=Zcv q
 have gp:=Yg op.2.1
 have gq:=Yg oq.2.1
 have cp:=Z3S p;have cq:=Z3S q;have cp':=op.1;have cq':=oq.1
 have fin:∀ {L:Lft} {s:LSt U},lbE p q=L->Yw cfg Try.f77.ntmps Try.f77.results.toList (.tup [(true,enc .edit L.x),(true,enc .edit L.y)]) [[.bool (mc || L.c),.bool (ma || L.a)]] .ret s->
   Yw cfg Try.f77.ntmps Try.f77.results.toList (Zf2 ((mc,ma,()),p,q,())) (Zao ((mc,ma,()),p,q,())) .ret s:=by
  intro L s h hs
  subst h
  exact hs
 have wh:∀ {e:Edit} {o n:Tree},JR e->Zj o<=10000000000->rng o->Zj n<=10000000000->Z7q ((mc,ma,()),e,o,n,()):=by
  intro e o n he ho hr hn
  have:=JI he
  have:=he.1
  exact ⟨⟨by dsimp only;omega,he.2⟩,⟨by dsimp only;omega,hr⟩,by dsimp only;omega⟩
 refine ZwQ N mc ma p q _ ?_
 intro y1 h1 y2 h2 y3 h3 y4 h4 y5 h5 y6 h6
 replace h1:=h1.symm;replace h2:=h2.symm;replace h3:=h3.symm;replace h4:=h4.symm;replace h5:=h5.symm;replace h6:=h6.symm
 subst h1 h2 h3 h4 h5 h6
 (simp only [vcT,vcS])
 refine ⟨fun h0=> ?_,fun h0=> ?_⟩
 ·exact fin (by rw [hst,if_pos h0]) (by simp only [Qp];(repeat' (first | exact trivial | exact rfl | apply And.intro)))
 rw [if_neg (by rintro (h | h);exact h0.1 h;exact h0.2 h)] at hst
 refine ⟨fun p1=> ?_,fun p1=> ?_⟩
 ·rw [if_pos p1] at hst
  exact ⟨wh oq (by omega) gp.1 (by omega),trivial,fin hst (by (repeat' (first | exact trivial | exact rfl | apply And.intro)))⟩
 rw [if_neg p1] at hst
 refine ⟨fun q1=> ?_,fun q1=> ?_⟩
 ·rw [if_pos q1] at hst
  exact ⟨wh op (by omega) gq.1 (by omega),trivial,fin hst (by (repeat' (first | exact trivial | exact rfl | apply And.intro)))⟩
 rw [if_neg q1] at hst
 refine ⟨fun hd=> ?_,fun hd=> ?_⟩
 ·rw [if_pos (by omega)] at hst
  exact ⟨trivial,fin hst (by simp only [Qp,Xf];(repeat' (first | exact trivial | exact rfl | apply And.intro)))⟩
 rw [if_neg (by omega)] at hst
 refine ⟨fun p2=> ?_,fun p2=> ?_⟩
 ·rw [if_pos p2] at hst
  exact ⟨⟨op,oq,by dsimp only;omega,by dsimp only;omega⟩,by show 8*(Z5 p+Z5 q) < N;omega,fin hst (by (repeat' (first | exact trivial | exact rfl | apply And.intro)))⟩
 ·rw [if_neg p2] at hst
  have kp:=(Zr rp).kind
  exact ⟨⟨op,oq,by dsimp only;omega,by dsimp only;omega⟩,by show 8*(Z5 p+Z5 q) < N;omega,fin hst (by (repeat' (first | exact trivial | exact rfl | apply And.intro)))⟩
theorem ZfY(m h:List Tree):(YX m h).x.length<=2/\(YX m h).y.length<=2:=by
 unfold YX
 have:=Z4j m.length;have:=Z4j h.length;have:=Z6o m;have:=Z6o h
 split <;> (simp only [Q6];omega)
theorem ZgL(f:Edit->Edit->Lft)(p q:Op):(Zz f p q).x.length<=1/\(Zz f p q).y.length<=1:=by
 unfold Zz
 split;· simp
 split;· simp
 split;· simp
 split;· simp
 split;· simp
 split;· simp
 split <;> simp
structure LInv (f:Edit->Edit->Lft) (mc ma:Bool) (ps:List Piece) (i:Int) (c a:Bool) (m h:List Tree) (x y:List Op):Prop where
 i0:0<=i
 il:i<=ps.length
 ec:(mc || (Z0a f ps [] []).c)=(c || (Z0a f (ps.drop i.toNat) m h).c)
 ea:(ma || (Z0a f ps [] []).a)=(a || (Z0a f (ps.drop i.toNat) m h).a)
 ex:(Z0a f ps [] []).x=x++(Z0a f (ps.drop i.toNat) m h).x
 ey:(Z0a f ps [] []).y=y++(Z0a f (ps.drop i.toNat) m h).y
 lx:(x.length:Int)<=3*i
 ly:(y.length:Int)<=3*i
 km:((Z4 m:Nat):Int)+Yp φC (Z4N (ps.drop i.toNat))<=Yp φC (Z4N ps)
 kh:((Z4 h:Nat):Int)+Yp φC (Z4M (ps.drop i.toNat))<=Yp φC (Z4M ps)
theorem cnn(o:Op):((Z4 o.l:Nat):Int)<=φC o:=by unfold φC;have:=Zod o.e;omega
theorem ZcT:∀ l:List Op,0<=Yp φC l
 | []=> Xc _
 | o ::r=> by have:=ZcT r;have:=cnn o;simp only [Yp];omega
theorem LInv.step{f:Edit->Edit->Lft}{mc ma:Bool}{ps:List Piece}{i:Int}{c a:Bool}{m h:List Tree}{x y:List Op}(H:LInv f mc ma ps i c a m h x y)(hi:i < ps.length)(z:Piece)(X:Piece)(hX:X=ps.getD i.toNat z):
  (X.of=1->LInv f mc ma ps (i+1) c a (m++X.p.l) h x y)/\(¬X.of=1->X.of=2->LInv f mc ma ps (i+1) c a m (h++X.q.l) x y)/\
  (¬X.of=1->¬X.of=2->LInv f mc ma ps (i+1) ((c || (YX m h).c) || (Zz f X.p X.q).c) (a || (Zz f X.p X.q).a) [] [] ((x++(YX m h).x)++(Zz f X.p X.q).x) ((y++(YX m h).y)++(Zz f X.p X.q).y)):=by
 have hd:=YL H.i0 hi z
 rw [<-hX] at hd
 have h0:=H.i0
 obtain ⟨_,_,ec,ea,ex,ey,lx,ly,km,kh⟩:=H
 rw [hd] at ec ea ex ey km kh
 simp only [Z0a] at ec ea ex ey
 simp only [Z4N,Z4M] at km kh
 have np:=cnn X.p;have nq:=cnn X.q
 refine ⟨fun e=> ?_,fun e1 e2=> ?_,fun e1 e2=> ?_⟩
 ·rw [if_pos e] at ec ea ex ey
  rw [if_neg (by omega),Xy,Yp] at km
  rw [if_pos e,QH] at kh
  exact ⟨by omega,by omega,ec,ea,ex,ey,by omega,by omega,by rw [Yf];omega,kh⟩
 ·rw [if_neg e1,if_pos e2] at ec ea ex ey
  rw [if_pos e2,QH] at km
  rw [if_neg e1,Xy,Yp] at kh
  exact ⟨by omega,by omega,ec,ea,ex,ey,by omega,by omega,km,by rw [Yf];omega⟩
 ·rw [if_neg e1,if_neg e2] at ec ea ex ey
  rw [if_neg e2,Xy,Yp] at km
  rw [if_neg e1,Xy,Yp] at kh
  simp only [PL.app] at ec ea ex ey
  obtain ⟨g1,g2⟩:=ZfY m h
  obtain ⟨g3,g4⟩:=ZgL f X.p X.q
  have ga:(YX m h).a=false:=by unfold YX;split <;> rfl
  rw [ga,XD] at ea
  refine ⟨by omega,by omega,?_,?_,?_,?_,?_,?_,?_,?_⟩
  ·rw [ec];simp only [Xu]
  ·rw [ea,Xu]
  ·rw [ex];simp only [Qe]
  ·rw [ey];simp only [Qe]
  ·simp only [Q6];omega
  ·simp only [Q6];omega
  ·simp only [Z4];omega
  ·simp only [Z4];omega
theorem Zku{p q:List Op}(hp:Zpu p)(hq:Zpu q){x:Piece}(h:POk2 p q x):(x.of≠2->ZcY x.p)/\(x.of≠1->ZcY x.q):=by
 refine ⟨fun e=> ?_,fun e=> ?_⟩
 ·obtain ⟨a,b⟩:=h.pp e
  exact ⟨b,QY (Z9q a).1 hp.1,Zfi a b hp.2.1,ZaO a hp.2.2⟩
 ·obtain ⟨a,b⟩:=h.qq e
  exact ⟨b,QY (Z9q a).1 hq.1,Zfi a b hq.2.1,ZaO a hq.2.2⟩
theorem Zui:Zsq:=by
 intro N mc ma p q _ hp hN
 obtain ⟨op,oq,kp3,kq3⟩:=hp
 dsimp only at op oq kp3 kq3
 have hN':8*(Z5 p+Z5 q) < N+1:=hN
 have rop:=Zig op
 have roq:=Zig oq
 have kp:=ZrK rop
 have kq:=ZrK roq
 have lp:=Zcv p
 have lq:=Zcv q
 obtain ⟨i1,_⟩:=Zce _ p.ops q.ops [] (Qd _) kp.1 kq.1
 have fin:∀ {L:Lft} {s:LSt U},Z35 lbE p q=L->Yw cfg Try.f115.ntmps Try.f115.results.toList (.tup [(true,enc .edit L.x),(true,enc .edit L.y)]) [[.bool (mc || L.c),.bool (ma || L.a)]] .ret s->
   Yw cfg Try.f115.ntmps Try.f115.results.toList (Zas ((mc,ma,()),p,q,())) (Z5X ((mc,ma,()),p,q,())) .ret s:=by
  intro L s h hs
  subst h
  exact hs
 refine ZvJ N mc ma p q _ ?_
 (simp only [vcT,vcS])
 refine ⟨⟨kp,kq⟩,fun hb=> ⟨trivial,fin (by rw [Z35,if_neg (by rw [hb];decide)]) (by simp only [Qp,Xf];(repeat' (first | exact trivial | exact rfl | apply And.intro)))⟩,fun hb=> ?_⟩
 obtain ⟨ps,e,hps,_,_⟩:=i1 hb
 obtain ⟨ps1,e1,sp,sq,hlen⟩:=ZmI Zsi Zsi 2 _ p.ops q.ops [] (Qd _) kp.1 kq.1 hb
 rw [e,QH,QH] at e1
 subst e1
 rw [QH] at e
 have hL:Z35 lbE p q=⟨Z1c p.list (Z0a lbE ps [] []).x,Z1c p.list (Z0a lbE ps [] []).y,(Z0a lbE ps [] []).c,(Z0a lbE ps [] []).a⟩:=by rw [Z35,if_pos hb,e]
 have c1:=Zgp p.ops;have c2:=Zgp q.ops;have c3:=rop.1;have c4:=roq.1
 refine Za (ι:=Int × Bool × Bool × List Tree × List Tree × List Op × List Op) (fun s=> Z14 mc ma p q s.1 s.2.1 s.2.2.1 s.2.2.2.1 s.2.2.2.2.1 s.2.2.2.2.2.1 s.2.2.2.2.2.2)
  (fun s=> LInv lbE mc ma ps s.1 s.2.1 s.2.2.1 s.2.2.2.1 s.2.2.2.2.1 s.2.2.2.2.2.1 s.2.2.2.2.2.2) (fun s=> ((ps.length:Int) - s.1).toNat) (0,mc,ma,[],[],[],[]) rfl
  ⟨by simp,by simp,by simp,by simp,by simp,by simp,by simp,by simp,by simp [Z4],by simp [Z4]⟩ ?_
 rintro ⟨i,c,a,m,h,x,y⟩ H
 dsimp only at H
 refine ZlF N mc ma p q _ _ _ _ _ _ _ _ _ ?_
 intro y1 h1 y2 h2 y3 h3 y4 h4 y5 h5 y6 h6 y7 h7
 rw [e] at h5 ⊢
 replace h6:=h6.symm;replace h7:=h7.symm
 have i0:=H.i0;have il:=H.il;have lx:=H.lx;have ly:=H.ly;have km:=H.km;have kh:=H.kh
 have n1:=ZcT (Z4N (ps.drop i.toNat));have n2:=ZcT (Z4M (ps.drop i.toNat))
 obtain ⟨g1,g2⟩:=ZfY m h
 (simp only [vcT,vcS])
 refine ⟨fun hi=> ?_,fun hi=> ?_⟩
 ·obtain ⟨s1,s2,s3⟩:=H.step hi _ y5 h5
  have hmem:y5∈ps:=by rw [h5];exact Zh (by omega) _
  have hx:=hps y5 hmem
  obtain ⟨o1,o2⟩:=Zku rop roq hx
  have km1:(Z4 y5.p.l:Int)<=9000000000:=by
   rcases hx.of with h | h | h
   ·have:=Z2f y5.p;have:=(o1 (by omega)).2.1;omega
   ·have:=Z2f y5.p;have:=(o1 (by omega)).2.1;omega
   ·rw [hx.pn h];simp [Op.nil,Z4]
  have km2:(Z4 y5.q.l:Int)<=9000000000:=by
   rcases hx.of with h | h | h
   ·have:=Z2f y5.q;have:=(o2 (by omega)).2.1;omega
   ·rw [hx.qn h];simp [Op.nil,Z4]
   ·have:=Z2f y5.q;have:=(o2 (by omega)).2.1;omega
  have q1:=Zt m;have q2:=Zt h;have q3:=Zt y5.p.l;have q4:=Zt y5.q.l
  refine ⟨⟨i0,hi⟩,fun f1=> ⟨by omega,by unfold InR;omega,(i+1,c,a,m++y5.p.l,h,x,y),rfl,s1 f1,by dsimp only;omega⟩,fun f1=> ⟨fun f2=> ⟨by omega,by unfold InR;omega,(i+1,c,a,m,h++y5.q.l,x,y),rfl,s2 f1 f2,by dsimp only;omega⟩,fun f2=> ?_⟩⟩
  have f0:y5.of=0:=by rcases hx.of with h | h | h <;> omega
  obtain ⟨b1,b2,b3⟩:=hx.both f0
  have mp:=(Z9q (hx.pp f2).1).2
  have mq:=(Z9q (hx.qq f1).1).2
  rw [<-h6,<-h7]
  refine ⟨⟨⟨by dsimp only;omega,by dsimp only;omega⟩,by dsimp only;omega,by dsimp only;omega⟩,⟨⟨o1 f2,o2 f1,b3,b1,b2⟩,by simp only [List.length_append];omega,by simp only [List.length_append];omega⟩,by show 8*(Zs y5.p+Zs y5.q)+2 < N;omega,by unfold InR;omega,
   (i+1,_,_,[],[],_,_),rfl,s3 f1 f2,by dsimp only;omega⟩
 ·have hd:ps.drop i.toNat=[]:=Qj (by omega)
  have ec:=H.ec;have ea:=H.ea;have ex:=H.ex;have ey:=H.ey
  rw [hd] at ec ea ex ey
  simp only [Z0a] at ec ea ex ey
  have ga:(YX m h).a=false:=by unfold YX;split <;> rfl
  rw [ga,Qp] at ea
  refine ⟨⟨⟨by dsimp only;omega,by dsimp only;omega⟩,by dsimp only;omega,by dsimp only;omega⟩,by show (x++_).length<=_;rw [List.length_append];omega,by show (y++_).length<=_;rw [List.length_append];omega,fin hL ?_⟩
  dsimp only
  rw [ec,ea,ex,ey]
  subst h1 h2 h3 h4
  (repeat' (first | exact trivial | exact rfl | apply And.intro))
theorem Zuh:Zsp:=by
 intro N sm_ sx sy si sh p q mc ma _ hp hN
 simp only [Z7m] at hp
 obtain ⟨⟨⟨op,mp,gp,rp⟩,⟨oq,mq,gq,rq⟩,hl,p2,q2⟩,lx,ly⟩:=hp
 have hN':8*(Zs p+Zs q)+2 < N+1:=hN
 have ep:=Z1K p
 have eq:=Z1K q
 have gp':=Z0I gp
 have gq':=Z0I gq
 have ap:=Z2f p
 have aq:=Z2f q
 have kp:=JS op
 have kq:=JS oq
 have fin:∀ {L:PL} {s:LSt U},Zz lbE p q=L->Yw cfg Try.f160.ntmps Try.f160.results.toList (.tup []) [[.xp 1,.slice (U:=U) .op (sx++L.x) (.own (.x 0 1)),.slice (U:=U) .op (sy++L.y) (.own (.x 0 2)),.slice (U:=U) .tree si (.own (.x 0 3)),.slice (U:=U) .tree sh (.own (.x 0 4))],[.bool (mc || L.c),.bool (ma || L.a)]] .normal s->
   Yw cfg Try.f160.ntmps Try.f160.results.toList (Zaq ((sm_,sx,sy,si,sh,()),p,q,(mc,ma,()),())) (Z5U ((sm_,sx,sy,si,sh,()),p,q,(mc,ma,()),())) .normal s:=by
  intro L s h hs
  subst h
  exact hs
 have hc:=Zz.eq_1 lbE p q
 refine Zvt N sm_ sx sy si sh p q mc ma _ ?_
 intro y1 h1 y2 h2 y3 h3 y4 h4 y5 h5 y6 h6 y7 h7 y8 h8 y9 h9 y10 h10 y11 h11
 replace h3:=h3.symm;replace h4:=h4.symm
 subst h1 h2 h3 h4 h7 h8 h9 h10 h11
 simp only [Z0m]
 (simp only [vcT,vcS])
 refine ⟨fun c1=> ?_,fun c1=> ?_⟩
 ·rw [if_pos c1] at hc
  exact ⟨by simp only [Q9,Qb];omega,⟨by omega,by simp only [Q6,Q9,Qb];omega⟩,by omega,fin hc (by simp only [Qp,QN];(repeat' (first | exact trivial | exact rfl | apply And.intro)))⟩
 rw [if_neg (by omega)] at hc
 refine ⟨fun c2=> ?_,fun c2=> ?_⟩
 ·rw [if_pos c2] at hc
  exact ⟨by simp only [Q9,Qb];omega,⟨by omega,by simp only [Q6,Q9,Qb];omega⟩,by omega,fin hc (by simp only [Qp,QN];(repeat' (first | exact trivial | exact rfl | apply And.intro)))⟩
 rw [if_neg (by omega)] at hc
 refine ⟨fun c3=> ?_,fun c3=> ?_⟩
 ·rw [if_pos c3] at hc
  exact ⟨by simp only [Q9,Qb];omega,by simp only [Q9,Qb];omega,fin hc (by simp only [Qp];(repeat' (first | exact trivial | exact rfl | apply And.intro)))⟩
 rw [if_neg c3] at hc
 refine ⟨fun c4=> ?_,fun c4=> ?_⟩
 ·rw [if_pos c4] at hc
  exact ⟨by simp only [Q9,Qb];omega,by simp only [Q9,Qb];omega,fin hc (by simp only [Qp];(repeat' (first | exact trivial | exact rfl | apply And.intro)))⟩
 rw [if_neg c4] at hc
 refine ⟨fun c5=> ⟨⟨by dsimp only;omega,by dsimp only;omega⟩,fun he=> ?_,fun he=> ?_⟩,fun c5=> ?_⟩
 ·rw [if_pos c5,Z7S,he] at hc
  exact fin hc (by simp only [Xr,Qp,Xf,QN];(repeat' (first | exact trivial | exact rfl | apply And.intro)))
 ·rw [if_pos c5,Z7S,he] at hc
  exact fin hc (by simp only [Xh,Qp,QN];(repeat' (first | exact trivial | exact rfl | apply And.intro)))
 rw [if_neg (by omega)] at hc
 refine ⟨fun c6=> ?_,fun c6=> ?_⟩
 ·rw [if_pos c6] at hc
  have l1:=Z2c op (.inl c6)
  have l2:=Z1F (o:=y2) (by unfold kOk at kq;omega)
  have hp0:0 < y1.l.length:=by omega
  have m3:y5∈y1.l:=by rw [h5];exact Zh hp0 _
  have m3':=YS m3
  have rk:JR y2.e:=⟨by omega,gq'.2.2.2,rq (by unfold kOk at kq;omega)⟩
  have:=JI rk
  rw [show y1.l.getD 0 Tree.nil=y5 from h5.symm] at hc
  exact ⟨⟨by omega,by omega⟩,⟨⟨by dsimp only;omega,rk.2⟩,by dsimp only;omega,Z0p gp'.2.2.1 m3⟩,fin hc (by simp only [Bool.or_true,List.append_nil];(repeat' (first | exact trivial | exact rfl | apply And.intro)))⟩
 rw [if_neg c6] at hc
 have kp3:y1.kind=3:=by unfold kOk at kp;omega
 refine ⟨fun c7=> ?_,fun c7=> ?_⟩
 ·rw [if_pos c7] at hc
  have l1:=Z2c oq (.inl c7)
  have l2:=Z1F (o:=y1) kp3
  have hp0:0 < y2.l.length:=by omega
  have m3:y6∈y2.l:=by rw [h6];exact Zh hp0 _
  have m3':=YS m3
  have rk:JR y1.e:=⟨by omega,gp'.2.2.2,rp kp3⟩
  have:=JI rk
  rw [show y2.l.getD 0 Tree.nil=y6 from h6.symm] at hc
  exact ⟨⟨by omega,by omega⟩,⟨⟨by dsimp only;omega,rk.2⟩,by dsimp only;omega,Z0p gq'.2.2.1 m3⟩,fin hc (by simp only [Bool.or_true,List.append_nil];(repeat' (first | exact trivial | exact rfl | apply And.intro)))⟩
 rw [if_neg c7] at hc
 have k1:JR y1.e:=⟨by omega,gp'.2.2.2,rp kp3⟩
 have k2:JR y2.e:=⟨by omega,gq'.2.2.2,rq (by unfold kOk at kq;omega)⟩
 refine ⟨⟨k1,k2⟩,?_,trivial,by simp only [Q9,Qb];omega,trivial,by simp only [Q9,Qb];omega,fin hc (by (repeat' (first | exact trivial | exact rfl | apply And.intro)))⟩
 show 8*(Z5 y1.e+Z5 y2.e)+1 < N
 rw [ZK,ZK] at hN'
 omega
set_option maxHeartbeats 1000000 in
theorem Zuj:Zsr:=by
 intro N mc ma p q _ hp hN
 obtain ⟨op,oq,kp2,kq2⟩:=hp
 dsimp only at op oq kp2 kq2
 have hN':8*(Z5 p+Z5 q) < N+1:=hN
 have lp:=Zcv p
 have lq:=Zcv q
 have mp:=JI op
 have mq:=JI oq
 have wk:∀ {e:Edit},JR e->∀ w∈e.words,wOk w:=by
  intro e h w hw
  obtain ⟨d,hr⟩:=h.2.2
  have a:=JH (Zr hr).words w hw
  exact ⟨(Yg h.2.1).2.2.1 w hw,a.2.2.2.1,a.2.2.2.2⟩
 have kk:∀ {e:Edit},JR e->∀ k∈e.kids,JR k.e/\Z5 k.e < Z5 e:=by
  intro e h k hk
  obtain ⟨d,hr⟩:=h.2.2
  have c:=Zbq hk
  have:=Z3S e
  have:=h.1
  exact ⟨⟨by omega,(YF (Yg h.2.1).2.2.2.1 hk).2,_,(ZD (Zr hr).kids k hk).2⟩,Yo hk⟩
 have lkp:=YB p.kids;have lkq:=YB q.kids
 have fin:∀ {L:Lft} {s:LSt U},Z3b lbE p q=L->Yw cfg Try.f114.ntmps Try.f114.results.toList (.tup [(true,enc .edit L.x),(true,enc .edit L.y)]) [[.bool (mc || L.c),.bool (ma || L.a)]] .ret s->
   Yw cfg Try.f114.ntmps Try.f114.results.toList (Zat ((mc,ma,()),p,q,())) (Z5Y ((mc,ma,()),p,q,())) .ret s:=by
  intro L s h hs
  subst h
  exact hs
 refine ZvK N mc ma p q _ ?_
 refine ⟨by show p.words.length<=_;omega,by show q.words.length<=_;omega,?_⟩
 let WI:=SInv WEdit.at_ Z3I Z3I (fun a b=> !Yx a b && Z07 a b) Yx mc ma p.words q.words
 refine Za (ι:=Int × Bool × Bool × List WEdit × List WEdit) (fun s=> Z4s mc ma p q s.1 s.2.1 s.2.2.1 s.2.2.2.1 s.2.2.2.2)
  (fun s=> (0<=s.1/\s.1<=p.words.length)/\WI s.1.toNat 0 s.2.1 s.2.2.1 s.2.2.2.1 s.2.2.2.2) (fun s=> ((p.words.length:Int) - s.1).toNat) (0,mc,ma,p.words,q.words) rfl ⟨⟨by dsimp only;omega,by dsimp only;omega⟩,SInv.init⟩ ?_
 rintro ⟨i,c,a,X,Y⟩ ⟨⟨i0,il⟩,H⟩
 dsimp only at i0 il H
 refine ZlJ N mc ma p q _ _ _ _ _ _ _ ?_
 dsimp only
 refine ⟨fun hi=> ?_,fun hi=> ?_⟩
 ·replace hi:=of_decide_eq_true hi
  refine ⟨⟨i0,hi⟩,?_⟩
  refine Za (ι:=Int × Bool × Bool × List WEdit × List WEdit) (fun s=> Z4r mc ma p q i s.1 s.2.1 s.2.2.1 s.2.2.2.1 s.2.2.2.2)
   (fun s=> (0<=s.1/\s.1<=q.words.length)/\WI i.toNat s.1.toNat s.2.1 s.2.2.1 s.2.2.2.1 s.2.2.2.2) (fun s=> ((q.words.length:Int) - s.1).toNat) (0,c,a,X,Y) rfl ⟨⟨by dsimp only;omega,by dsimp only;omega⟩,H⟩ ?_
  clear H
  clear c a X Y
  rintro ⟨j,c,a,X,Y⟩ ⟨⟨j0,jl⟩,H⟩
  dsimp only at j0 jl H
  have lx:=H.lx
  have ly:=H.ly
  refine ZlI N mc ma p q _ _ _ _ _ _ _ _ _ ?_
  intro y1 h1 y2 h2 y3 h3 y4 h4 y5 h5 y6 h6
  replace h3:=h3.symm;replace h4:=h4.symm
  subst h3 h4
  (simp only [vcT,vcS])
  try dsimp only at*
  refine ⟨fun hj=> ⟨⟨j0,hj⟩,fun he=> ?_,fun he=> ?_⟩,fun hj=> ?_⟩
  ·have st:=(H.step (by omega) (by omega) ⟨0,0,0,0⟩).1 (by rw [<-h1,<-h2];exact he)
   rw [<-h1,<-h2] at st
   have m1:y1∈p.words:=by rw [h1];exact Zh (by omega) _
   have m2:y2∈q.words:=by rw [h2];exact Zh (by omega) _
   subst h5 h6
   refine ⟨⟨wk op _ m1,wk oq _ m2⟩,⟨wk op _ m1,Ziu _⟩,⟨i0,by omega⟩,X2 _,⟨wk oq _ m2,Ziu _⟩,⟨j0,by omega⟩,X2 _,?_⟩
   refine ZeE N mc ma p q _ _ _ _ _ _ _ _ _ _ ⟨by unfold InR;omega,(j+1,_,_,_,_),rfl,⟨⟨by dsimp only;omega,by dsimp only;omega⟩,?_⟩,by dsimp only;omega⟩
   rw [show (j+1).toNat=j.toNat+1 by omega]
   exact st
  ·have st:=(H.step (by omega) (by omega) ⟨0,0,0,0⟩).2 (by rw [<-h1,<-h2];exact he)
   refine ZeE N mc ma p q _ _ _ _ _ _ _ _ _ _ ⟨by unfold InR;omega,(j+1,_,_,_,_),rfl,⟨⟨by dsimp only;omega,by dsimp only;omega⟩,?_⟩,by dsimp only;omega⟩
   rw [show (j+1).toNat=j.toNat+1 by omega]
   exact st
  ·refine ⟨by unfold InR;omega,(i+1,_,_,_,_),rfl,⟨⟨by dsimp only;omega,by dsimp only;omega⟩,?_⟩,by dsimp only;omega⟩
   rw [show (i+1).toNat=i.toNat+1 by omega]
   rw [show j.toNat=q.words.length by omega] at H
   exact H.next (by omega)
 replace hi:=of_decide_eq_false hi
 rw [show i.toNat=p.words.length by omega] at H
 obtain ⟨ec,ea,eX,eY⟩:=H.fin
 refine ⟨by show p.kids.length<=_;omega,by show q.kids.length<=_;omega,?_⟩
 let KI:=SInv KidOf.at_ (fun a b:Kid=> ⟨a.at_,(lbE a.e b.e).x⟩) (fun b a:Kid=> ⟨b.at_,(lbE a.e b.e).y⟩) (fun a b=> (lbE a.e b.e).c) (fun a b=> (lbE a.e b.e).a) c a p.kids q.kids
 refine Za (ι:=Int × Bool × Bool × List Kid × List Kid) (fun s=> Z4q mc ma p q X Y s.1 s.2.1 s.2.2.1 s.2.2.2.1 s.2.2.2.2)
  (fun s=> (0<=s.1/\s.1<=p.kids.length)/\KI s.1.toNat 0 s.2.1 s.2.2.1 s.2.2.2.1 s.2.2.2.2) (fun s=> ((p.kids.length:Int) - s.1).toNat) (0,c,a,p.kids,q.kids) rfl ⟨⟨by dsimp only;omega,by dsimp only;omega⟩,SInv.init⟩ ?_
 clear H hi il i0
 rintro ⟨i,c1,a1,X1,Y1⟩ ⟨⟨i0,il⟩,H⟩
 dsimp only at i0 il H
 refine ZlH N mc ma p q _ _ _ _ _ _ _ _ _ ?_
 intro z1 hz1 z2 hz2
 dsimp only at hz1 hz2 ⊢
 refine ⟨fun hi=> ?_,fun hi=> ?_⟩
 ·replace hi:=of_decide_eq_true hi
  refine ⟨⟨i0,hi⟩,?_⟩
  refine Za (ι:=Int × Bool × Bool × List Kid × List Kid) (fun s=> Z4p mc ma p q X Y i s.1 s.2.1 s.2.2.1 s.2.2.2.1 s.2.2.2.2)
   (fun s=> (0<=s.1/\s.1<=q.kids.length)/\KI i.toNat s.1.toNat s.2.1 s.2.2.1 s.2.2.2.1 s.2.2.2.2) (fun s=> ((q.kids.length:Int) - s.1).toNat) (0,c1,a1,X1,Y1) rfl ⟨⟨by dsimp only;omega,by dsimp only;omega⟩,H⟩ ?_
  clear H hz1 hz2
  clear c1 a1 X1 Y1
  rintro ⟨j,c1,a1,X1,Y1⟩ ⟨⟨j0,jl⟩,H⟩
  dsimp only at j0 jl H
  have lx:=H.lx
  have ly:=H.ly
  refine ZlG N mc ma p q _ _ _ _ _ _ _ _ _ _ _ ?_
  intro y1 h1 y2 h2 y3 h3 y4 h4 y5 h5 y6 h6
  (simp only [vcT,vcS])
  try dsimp only at*
  refine ⟨fun hj=> ⟨⟨j0,hj⟩,fun he=> ?_,fun he=> ?_⟩,fun hj=> ?_⟩
  ·have st:=(H.step (by omega) (by omega) ⟨0,Edit.nil⟩).1 (by rw [<-h1,<-h2];exact he)
   have e1:=H.at_x (fun a b=> rfl) (by omega) ⟨0,Edit.nil⟩
   have e2:=H.at_y (fun a b=> rfl) (by omega) ⟨0,Edit.nil⟩
   rw [<-h1] at e1
   rw [<-h2] at e2
   rw [<-h1,<-h2] at st
   have m1:=kk op y1 (by rw [h1];exact Zh (by omega) _)
   have m2:=kk oq y2 (by rw [h2];exact Zh (by omega) _)
   subst h3 h4 h5 h6
   refine ⟨⟨m1.1,m2.1⟩,by show 8*(Z5 y1.e+Z5 y2.e)+1 < N;omega,⟨i0,by omega⟩,X2 _,⟨j0,by omega⟩,X2 _,?_⟩
   refine ZeD N mc ma p q _ _ _ _ _ _ _ _ _ _ _ ⟨by unfold InR;omega,(j+1,_,_,_,_),rfl,⟨⟨by dsimp only;omega,by dsimp only;omega⟩,?_⟩,by dsimp only;omega⟩
   rw [show (j+1).toNat=j.toNat+1 by omega]
   dsimp only
   rw [e1,e2]
   exact st
  ·have st:=(H.step (by omega) (by omega) ⟨0,Edit.nil⟩).2 (by rw [<-h1,<-h2];exact he)
   refine ZeD N mc ma p q _ _ _ _ _ _ _ _ _ _ _ ⟨by unfold InR;omega,(j+1,_,_,_,_),rfl,⟨⟨by dsimp only;omega,by dsimp only;omega⟩,?_⟩,by dsimp only;omega⟩
   rw [show (j+1).toNat=j.toNat+1 by omega]
   exact st
  ·refine ⟨by unfold InR;omega,(i+1,_,_,_,_),rfl,⟨⟨by dsimp only;omega,by dsimp only;omega⟩,?_⟩,by dsimp only;omega⟩
   rw [show (i+1).toNat=i.toNat+1 by omega]
   rw [show j.toNat=q.kids.length by omega] at H
   exact H.next (by omega)
 replace hi:=of_decide_eq_false hi
 rw [show i.toNat=p.kids.length by omega] at H
 have lx:=H.lx;have ly:=H.ly
 obtain ⟨ec1,ea1,eX1,eY1⟩:=H.fin
 have lX:X.length=p.words.length:=by rw [eX,X9]
 have lY:Y.length=q.words.length:=by rw [eY,X9]
 refine ⟨⟨by dsimp only;omega,by dsimp only;omega⟩,⟨by dsimp only;omega,by dsimp only;omega⟩,fin rfl ?_⟩
 have e1:(Z3b lbE p q).x=Z3i z1:=by rw [hz1,eX,eX1];try rfl
 have e2:(Z3b lbE p q).y=Z3i z2:=by rw [hz2,eY,eY1];try rfl
 have e3:(mc || (Z3b lbE p q).c)=c1:=by rw [ec1,ec,Xu];try rfl
 have e4:(ma || (Z3b lbE p q).a)=a1:=by rw [ea1,ea,Xu];try rfl
 rw [e1,e2,e3,e4]
 (repeat' (first | exact trivial | exact rfl | apply And.intro))
theorem Zxg:Contract Try.prog cfg 77 Z78/\Contract Try.prog cfg 114 ZhT/\Contract Try.prog cfg 115 ZhS/\Contract Try.prog cfg 160 ZhR:=
 ZpG Z8X Zub Zua Zee Zu5 Zu4 Zu3 Zu2 Zu1 (Zu0 Zof) ZtZ ZtY ZtT ZtS b77 Zuj Zui Zuh
theorem c77:Contract Try.prog cfg 77 Z78:=Zxg.1
noncomputable section
def Zfc(a:Edit × Edit × Unit):Prop:=Zmv a.1 a.2.1
def Zi9(a:Edit × Edit × Unit):V U:= .tup [(true,(enc .edit ((lbN a.1 a.2.1).1))),(true,(enc .edit ((lbN a.1 a.2.1).2.1))),(false,[ci ((lbN a.1 a.2.1).2.2)])]
def Z3c:Fs U:=fs ZhE (fun a=> [Zfc a]) Zi9
def ZrT(a:Unit):V U:= .c (.bool true)
def Za9:Fs U:=fs ZjO (fun a=> [Z7p a]) ZrT
def ZsO(a:Edit × Edit × Unit):Prop:=(Z17 a.1/\Yz a.1)/\Z17 a.2.1/\Yz a.2.1
def ZvY(a:Edit × Edit × Unit):V U:= .c (.bool true)
def ZhQ:Fs U:=fs ZhE (fun a=> [ZsO a]) ZvY
def ZnV:List (FuncId × Fs U):=[(57,Za6),(77,Z78)]
def Ztx:Ze U:=lvl [([2,3,4,5],[2,3,4,5]),([2,3,4,5,7],[2,3,4,5,11]),([4,5,7,8,9],[4,5,8,9,11]),([4,5,7,8,9,21],[4,5,8,9,11]),([4,5,6],[4,5]),([4,5,8,9,28],[4,5,8,9]),([4,5,6],[4,5]),([4,5,6],[4,5])]
abbrev A35(p:List Nat):=AW (Z2 ZnV) Try.f35 Ztx p
theorem Zx7(p q:Edit)(Q:QT)(h:∀ y_1,y_1=p->∀ y_2,y_2=q->∀ y_3,y_3=(ZE y_1)->∀ y_4,y_4=(ZE y_2)->∀ y_5,y_5=((lbE y_3 y_4).x)->∀ y_6,y_6=((lbE y_3 y_4).y)->((Z0B (y_1,()))/\(Z0B (y_2,()))/\(Zay ((false,false,()),y_3,y_4,()))/\(((false || (lbE y_3 y_4).a)=true->(Q .ret (L2 [pL 4,pL 5,pI 6 14] [(.loc 4,zc1),(.loc 5,zc1)])))/\((false || (lbE y_3 y_4).a)=false->(((false || (lbE y_3 y_4).c)=true->(Q .ret (L2 [pL 4,pL 5,pI 6 13] [(.loc 4,zc1),(.loc 5,zc1)])))/\((false || (lbE y_3 y_4).c)=false->(Z0B (y_5,()))/\(Z0B (y_6,()))/\(Q .ret (L2 [pL 4,pL 5,pI 6 0] [(.loc 4,(enc .edit (ZE y_5))),(.loc 5,(enc .edit (ZE y_6)))])))))))):
  A35 [] (L2 [(0,.agg (enc .edit p)),(1,.agg (enc .edit q))] []) Q:=
 Eq.mpr (by kernel_rfl) (h _ (Z8 _) _ (Z8 _) _ (Z8 _) _ (Z8 _) _ (Z8 _) _ (Z8 _))
def ZuR(p q:Edit):Prop:=AW (Z2 ZnV) Try.f35 Ztx [] (Zk (ZhE.can (p,q,())) []) (EQ Try.f35 (Zi9 (p,q,())) [])
theorem Ztk(c57:CT 57 Za6)(c77:CT 77 Z78)(hb:∀ (p:Edit) (q:Edit) (_:Unit),Zfc (p,q,())->ZuR p q):CT 35 Z3c:=
 Z3 (l:=[(57,Za6),(77,Z78)]) Zl rfl (⟨c57,c77,trivial⟩) Ztx Try.func35 rfl rfl 2 (fun _=> rfl) (by decide) (fun ⟨p,q,_⟩=> hb p q ())
def ZnW:List (FuncId × Fs U):=[(35,Z3c)]
def Zty:Ze U:=lvl [([],[]),([1],[]),([1,2],[]),([2,3],[3]),([3,4],[3,4]),([5,6,7],[5,6]),([0],[])]
abbrev A34(p:List Nat):=AW (Z2 ZnW) Try.f34 Zty p
theorem Zx8(Q:QT)(h:∀ y_1,y_1=(Edit.mk 0 (Tree.mk 0 [] []) (Tree.mk 0 [] []) [] [] 0 [])->∀ y_2,y_2=(Edit.mk 3 (Tree.mk 0 [] []) (Tree.mk 0 [] []) [] [] 4 ([(OpOf.mk 0 1 [] y_1),(OpOf.mk 2 0 ([(Tree.mk 10 ([2]) [])]) y_1)]))->∀ y_3,y_3=(Edit.mk 3 (Tree.mk 0 [] []) (Tree.mk 0 [] []) [] [] 4 ([(OpOf.mk 2 0 ([(Tree.mk 10 ([1]) [])]) y_1),(OpOf.mk 0 1 [] y_1)]))->∀ y_4,y_4=(List.getD (Edit.ops ((lbN y_3 y_2).1)) (Int.toNat 0) Op.nil)->∀ y_5,y_5=(List.getD (Edit.ops ((lbN y_3 y_2).1)) (Int.toNat 1) Op.nil)->∀ y_6,y_6=(List.getD (Edit.ops ((lbN y_3 y_2).2.1)) (Int.toNat 0) Op.nil)->let z7:=Edit.ops ((lbN y_3 y_2).1);let z6:=Edit.ops ((lbN y_3 y_2).2.1);let z5:=(((lbN y_3 y_2).2.2):Int)==0;let z1:=bif z5 then (((z7.length:Int):Int)==2) else false;let z2:=bif z1 then (y_4.kind==2) else false;let z4:=bif z2 then (y_5.n==2) else false;let z0:=bif z4 then (((z6.length:Int):Int)==2) else false;let z3:=bif z0 then (y_6.n==2) else false;((Zfc (y_3,y_2,()))/\((Tr (z5=true))/\(Tr (z5=true))/\(Tr (z5=true))/\(Tr (z5=true))/\(Tr (z1=true))/\(Tr (z1=true))/\(z1=true->(0:Int)<=0/\0 < (z7.length:Int))/\(Tr (z1=true))/\(Tr (z1=true))/\(Tr (z1=true))/\(Tr (z1=true))/\(Tr (z2=true))/\(Tr (z2=true))/\(z2=true->(0:Int)<=1/\1 < (z7.length:Int))/\(Tr (z2=true))/\(Tr (z2=true))/\(Tr (z2=true))/\(Tr (z2=true))/\(Tr (z4=true))/\(Tr (z4=true))/\(Tr (z4=true))/\(Tr (z4=true))/\(Tr (z0=true))/\(Tr (z0=true))/\(z0=true->(0:Int)<=0/\0 < (z6.length:Int))/\(Tr (z0=true))/\(Tr (z0=true))/\(Tr (z0=true))/\(Tr (z0=true))/\(Tr (z3=true))/\(Tr (z3=true))/\(z3=true->(0:Int)<=1/\1 < (z6.length:Int))/\(Tr (z3=true))/\(Tr (z3=true))/\(Tr (z3=true))/\(Tr (z3=true))/\(Q .ret (L2 [(0,.c (.bool (bif z3 then (((OpOf.kind (List.getD z6 (Int.toNat 1) Op.nil)):Int)==2) else false)))] []))))):
  A34 [] (L2 [] []) Q:=
 Eq.mpr (by kernel_rfl) (h _ rfl _ rfl _ rfl _ rfl _ rfl _ rfl)
def ZuS:Prop:=AW (Z2 ZnW) Try.f34 Zty [] (Zk (ZjO.can ()) []) (EQ Try.f34 (ZrT ()) [])
theorem Ztl(c35:CT 35 Z3c)(hb:∀ (_:Unit),Z7p ()->ZuS):CT 34 Za9:=
 Z3 (l:=[(35,Z3c)]) Zl rfl (⟨c35,trivial⟩) Zty Try.func34 rfl rfl 0 (fun _=> rfl) (by decide) (fun _=> hb ())
def Zs1:List (FuncId × Fs U):=[(15,Zac),(19,Zab),(34,Za9),(35,Z3c)]
def lv9:Ze U:=lvl [([2,3],[2,3]),([2,3,18],[2,3]),([4],[]),([2,3,5,6,7],[2,3,5,6]),([5,6,7,8,9,10],[5,6,8,9]),([4],[])]
abbrev A9(p:List Nat):=AW (Z2 Zs1) Try.f9 lv9 p
theorem vc9(p q:Edit)(Q:QT)(h:∀ y_1,y_1=p->∀ y_2,y_2=q->∀ y_3,y_3=((lbN y_1 y_2).1)->∀ y_4,y_4=((lbN y_2 y_1).1)->∀ y_5,y_5=((lbN y_1 y_2).2.1)->∀ y_6,y_6=((lbN y_2 y_1).2.1)->let z3:=bif (!(Jt y_1)) then true else (!(Jt y_2));let z1:=(((lbN y_1 y_2).2.2):Int)==((lbN y_2 y_1).2.2);let z0:=bif z1 then (eqX y_3 y_6) else false;let z2:=bif z0 then (eqX y_5 y_4) else false;((Zfe (y_1,()))/\(Tr ((!(!(Jt y_1)))=true))/\((!(!(Jt y_1)))=true->Zfe (y_2,()))/\(Tr ((!(!(Jt y_1)))=true))/\((!(Jt y_1))=false->(!(!(Jt y_1)))=true)/\((z3=true->(Z7p ())/\(Q .ret (L2 [pB 4 true] [])))/\(z3=false->(Zfc (y_1,y_2,()))/\((Zfc (y_2,y_1,()))/\((Tr (z1=true))/\(Tr (z1=true))/\(z1=true->Z31 (y_3,y_6,()))/\(Tr (z1=true))/\(Tr (z0=true))/\(Tr (z0=true))/\(z0=true->Z31 (y_5,y_4,()))/\(Tr (z0=true))/\(z2=true->Z7p ())/\(Tr (z2=true))/\(Q .ret (L2 [(4,.c (.bool (bif z2 then true else false)))] [])))))))):
  A9 [] (L2 [(0,.agg (enc .edit p)),(1,.agg (enc .edit q))] []) Q:=
 Eq.mpr (by kernel_rfl) (h _ (Z8 _) _ (Z8 _) _ (Z8 _) _ (Z8 _) _ (Z8 _) _ (Z8 _))
def ZwJ(p q:Edit):Prop:=AW (Z2 Zs1) Try.f9 lv9 [] (Zk (ZhE.can (p,q,())) []) (EQ Try.f9 (ZvY (p,q,())) [])
theorem Zw5(c15:CT 15 Zac)(c19:CT 19 Zab)(c34:CT 34 Za9)(c35:CT 35 Z3c)(hb:∀ (p:Edit) (q:Edit) (_:Unit),ZsO (p,q,())->ZwJ p q):CT 9 ZhQ:=
 Z3 (l:=[(15,Zac),(19,Zab),(34,Za9),(35,Z3c)]) Zl rfl (⟨c15,c19,c34,c35,trivial⟩) lv9 Try.func9 rfl rfl 2 (fun _=> rfl) (by decide) (fun ⟨p,q,_⟩=> hb p q ())
end
theorem ZnO{p q:Edit}{d d':Int}(hp:Z6 p d=true)(hq:Z6 q d'=true):lbN q p=((lbN p q).2.1,(lbN p q).1,(lbN p q).2.2):=by
 unfold lbN
 rw [ZfM (YO p d hp) (YO q d' hq)]
 show (if (lbE (ZE p) (ZE q)).a=true then _ else _)=_
 split
 ·try rfl
 ·show (if (lbE (ZE p) (ZE q)).c=true then _ else _)=_
  split <;> rfl
theorem Z62{e:Edit}(h:JR e):Z0B (e,()):=by
 have:=JI h
 exact ⟨by dsimp only;omega,h.2.2⟩
set_option maxHeartbeats 1000000 in
theorem c35:Contract Try.prog cfg 35 Z3c:=by
 refine Ztk ZtK.1 c77 ?_
 intro p q _ hp
 have hp:Zmv p q:=hp
 obtain ⟨⟨h1,h2⟩,h3,h4⟩:=Zih hp
 have fin:∀ {X Y:Edit} {n:Int} {s:LSt U},lbN p q=(X,Y,n)->Yw cfg Try.f35.ntmps Try.f35.results.toList (.tup [(true,enc .edit X),(true,enc .edit Y),(false,[.int .i64 n])]) [] .ret s->Yw cfg Try.f35.ntmps Try.f35.results.toList (Zi9 (p,q,())) [] .ret s:=by
  intro X Y n s h hs
  refine ZqL ?_ hs
  simp only [Zi9]
  rw [h]
  try rfl
 have eN:=lbN.eq_1 p q
 refine Zx7 _ _ _ ?_
 intro y1 e1 y2 e2 y3 e3 y4 e4 y5 e5 y6 e6
 subst e1 e2
 rw [<-e3] at h1
 rw [<-e4] at h2
 rw [<-e3,<-e4] at h3 h4 eN
 generalize hL:lbE y3 y4=L at h3 h4 eN e5 e6 ⊢
 simp only [XD]
 refine ⟨Z62 hp.1,Z62 hp.2.1,⟨h1,h2⟩,fun ha=> fin (by rw [eN,if_pos ha]) (by (repeat' (first | exact trivial | exact rfl | apply And.intro))),fun ha=> ⟨fun hc=> fin (by rw [eN,if_neg (by rw [ha];decide),if_pos hc]) (by (repeat' (first | exact trivial | exact rfl | apply And.intro))),fun hc=> ⟨by rw [e5];exact Z62 h3,by rw [e6];exact Z62 h4,?_⟩⟩⟩
 exact fin (by rw [eN,if_neg (by rw [ha];decide),if_neg (by rw [hc];decide),<-e5,<-e6]) (by (repeat' (first | exact trivial | exact rfl | apply And.intro)))
theorem ZtE{p q:Edit}(h:Zmv p q):JR (lbN p q).1/\JR (lbN p q).2.1:=by
 obtain ⟨_,h3,h4⟩:=Zih h
 unfold lbN
 split
 ·exact ⟨Z3o,Z3o⟩
 ·split
  ·exact ⟨Z3o,Z3o⟩
  ·exact ⟨Z61 h3,Z61 h4⟩
def Z1q(n:Int):Tree:= .mk 10 [n] []
def Zbf:Edit:= .mk 3 Tree.nil Tree.nil [] [] 4 [⟨2,0,[Z1q 1],Edit.nil⟩,⟨0,1,[],Edit.nil⟩]
def Zbg:Edit:= .mk 3 Tree.nil Tree.nil [] [] 4 [⟨0,1,[],Edit.nil⟩,⟨2,0,[Z1q 2],Edit.nil⟩]
theorem Z4k:Z6 Zbf 64=true/\Z6 Zbg 64=true:=⟨rfl,rfl⟩
theorem Zjl:Yz Zbf/\Yz Zbg:=by
 have z:=Z7d
 have i0:InR 0:=Yt (by decide) (by decide)
 have zn:Yz Edit.nil:=⟨i0,z,z,by simp,i0,trivial,trivial⟩
 have at_:∀ n:Int,isW n->rng (Z1q n):=fun n h=> ⟨⟨by decide,by decide⟩,fun x hx=> by rw [Qi.1 hx];exact h,trivial⟩
 refine ⟨⟨Yt (by decide) (by decide),z,z,by simp,Yt (by decide) (by decide),trivial,⟨Yt (by decide) (by decide),i0,⟨at_ 1 (by unfold isW;omega),trivial⟩,zn⟩,⟨i0,Yt (by decide) (by decide),trivial,zn⟩,trivial⟩,
  ⟨Yt (by decide) (by decide),z,z,by simp,Yt (by decide) (by decide),trivial,⟨i0,Yt (by decide) (by decide),trivial,zn⟩,⟨Yt (by decide) (by decide),i0,⟨at_ 2 (by unfold isW;omega),trivial⟩,zn⟩,trivial⟩⟩
theorem Zjm:ZE Zbf=Zbf/\ZE Zbg=Zbg:=by
 unfold Zbf Zbg
 rw [ZdM,ZdM]
 exact ⟨rfl,rfl⟩
theorem Zo0:lbN Zbf Zbg=(.mk 3 Tree.nil Tree.nil [] [] 4 [⟨2,0,[Z1q 1],Edit.nil⟩,⟨0,2,[],Edit.nil⟩],.mk 3 Tree.nil Tree.nil [] [] 4 [⟨0,2,[],Edit.nil⟩,⟨2,0,[Z1q 2],Edit.nil⟩],0):=by
 have L0:Lay lbE [] [] [] [Z1q 2] (YX [] [Z1q 2]):= .nil _ _
 have L1:Lay lbE [] [⟨2,0,[Z1q 2],Edit.nil⟩] [] [] (YX [] [Z1q 2]):= .right (fun a ha=> by cases ha) rfl L0
 have t:∀ r:List Op,Zu (⟨0,1,[],Edit.nil⟩ ::r) 1=r/\Zp ⟨0,1,[],Edit.nil⟩ 1=⟨0,1,[],Edit.nil⟩:=by
  intro r
  simp [Zu,Zp,Z1]
 have L2:=Lay.both (f:=lbE) (a:=⟨0,1,[],Edit.nil⟩) (p:=[]) (b:=⟨0,1,[],Edit.nil⟩) (q:=[⟨2,0,[Z1q 2],Edit.nil⟩]) (m:=[Z1q 1]) (h:=[]) (n:=1) (by decide) (by decide) (by simp [Z1]) (by rw [(t _).1,(t _).1];exact L1)
 have L3:Lay lbE Zbf.ops Zbg.ops [] [] _:= .left rfl L2
 obtain ⟨b,ps,e1,e2⟩:=Zh8 L3 []
 rw [(t []).2] at e2
 have e3:Z0a lbE ps [] []=⟨[⟨2,0,[Z1q 1],Edit.nil⟩,⟨0,1,[],Edit.nil⟩,⟨0,1,[],Edit.nil⟩],[⟨0,1,[],Edit.nil⟩,⟨0,1,[],Edit.nil⟩,⟨2,0,[Z1q 2],Edit.nil⟩],false,false⟩:=by
  rw [<-e2,pL0 rfl (by decide)]
  simp [YX,Z36,Jx,PL.app]
 have hl:lbE Zbf Zbg=⟨.mk 3 Tree.nil Tree.nil [] [] 4 [⟨2,0,[Z1q 1],Edit.nil⟩,⟨0,1,[],Edit.nil⟩,⟨0,1,[],Edit.nil⟩],.mk 3 Tree.nil Tree.nil [] [] 4 [⟨0,1,[],Edit.nil⟩,⟨0,1,[],Edit.nil⟩,⟨2,0,[Z1q 2],Edit.nil⟩],false,false⟩:=by
  rw [ZfN Z4k.1 Z4k.2,lb3 (p:=Zbf) (q:=Zbg) rfl (by decide) (by decide) (by decide) rfl]
  unfold Z35
  rw [if_pos b,e1,QH,e3]
  try rfl
 unfold lbN
 rw [Zjm.1,Zjm.2,hl]
 show (ZE _,ZE _,(0:Int))=_
 rw [ZdM,ZdM]
 try rfl
theorem c34:Contract Try.prog cfg 34 Za9:=by
 refine Ztl c35 ?_
 intro _ _
 refine Zx8 _ ?_
 intro y1 h1 y2 h2 y3 h3 y4 h4 y5 h5 y6 h6
 have e1:y1=Edit.nil:=h1
 subst e1
 have e2:y2=Zbg:=h2
 have e3:y3=Zbf:=h3
 subst e2 e3
 rw [Zo0] at*
 subst h4 h5 h6
 have m1:Z5 Zbf<=20000:=by decide
 have m2:Z5 Zbg<=20000:=by decide
 refine ⟨Zdo Z4k.1 Z4k.2 Zjl.1 Zjl.2 rfl rfl m1 m2,?_⟩
 simp only [Tr]
 repeat' (first | exact (fun x=> x) | exact (fun _=> ⟨by decide,by decide⟩) | exact Zb rfl rfl | apply And.intro)
theorem Z2T{e:Edit}(h:Jt e=true):ZU e=true:=by simp only [Jt,Q1] at h;exact h.2
theorem c9:Contract Try.prog cfg 9 ZhQ:=by
 refine Zw5 c15 c19 c34 c35 ?_
 intro p q _ hp
 refine vc9 _ _ _ ?_
 intro y1 h1 y2 h2 y3 h3 y4 h4 y5 h5 y6 h6
 subst h1 h2
 (simp only [vcT,vcS])
 refine ⟨hp.1,fun _=> hp.2,fun _=> ⟨trivial,Zb rfl rfl⟩,fun hg=> ?_⟩
 obtain ⟨g1,g2⟩:=hg
 obtain ⟨_,m1,r1⟩:=ZfW g1 hp.1.2
 obtain ⟨_,m2,r2⟩:=ZfW g2 hp.2.2
 have rb1:=Zdo r1 r2 hp.1.2 hp.2.2 (Z2T g1) (Z2T g2) (by omega) (by omega)
 have rb2:=Zdo r2 r1 hp.2.2 hp.1.2 (Z2T g2) (Z2T g1) (by omega) (by omega)
 rw [ZnO r1 r2] at h4 h6 ⊢
 dsimp only at h4 h6 ⊢
 have e36:y6=y3:=h6.trans h3.symm
 have e45:y4=y5:=h4.trans h5.symm
 subst e36 e45
 have o:=ZtE rb1
 rw [<-h3,<-h5] at o
 have o1:=JI o.1
 have o2:=JI o.2
 refine ⟨rb1,rb2,fun _=> by dsimp only [Z31];omega,fun _=> by dsimp only [Z31];omega,fun _=> trivial,Zb rfl ?_⟩
 simp
end Go.AM.Ytpjenobkibfpcaa
