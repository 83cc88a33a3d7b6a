import Derived.Test.YtpjenobkibfpcaaCB30b
import Derived.Test.YtpjenobkibfpcaaCL30d
import Derived.Test.YtpjenobkibfpcaaCB30a
import Derived.Test.YtpjenobkibfpcaaKL23r
import Derived.Test.YtpjenobkibfpcaaCD25s
set_option linter.unusedSimpArgs false
set_option linter.unusedVariables false
namespace Go.AM.Ytpjenobkibfpcaa
open Go.AM Go.Proofs
theorem ZjO(m:Int):0<=Z3L m/\Z3L m < 256:=by
 unfold Z3L
 have h:=(BitVec.ofInt (IntKind.bits .u8) 255 ^^^ BitVec.ofInt (IntKind.bits .u8) m).isLt
 have e:(2:Nat) ^ IntKind.bits .u8=256:=rfl
 rw [Z4C (by omega) (by omega)]
 omega
theorem b77:Zyk:=by
 intro N mc ma p q _ hp hN
 obtain ⟨op,oq⟩:=hp
 dsimp only at op oq
 have hN':8*(Z8 p+Z8 q)+1 < N+1:=hN
 obtain ⟨dp,rp⟩:=op.2.2
 obtain ⟨dq,rq⟩:=oq.2.2
 have hst:=ZgU rp rq
 unfold Ye at hst
 have lp:=ZdB p
 have lq:=ZdB q
 have gp:=ZQ op.2.1
 have gq:=ZQ oq.2.1
 have cp:=Z4z p;have cq:=Z4z q;have cp':=op.1;have cq':=oq.1
 have fin:∀ {L:Lft} {s:LSt U},lbE p q=L->YM cfg Try.f77.ntmps Try.f77.results.toList (.tup [(true,enc .edit L.x),(true,enc .edit L.y)]) [[.bool (mc || L.c),.bool (ma || L.a)]] .ret s->
   YM cfg Try.f77.ntmps Try.f77.results.toList (Zgd ((mc,ma,()),p,q,())) (Zbm ((mc,ma,()),p,q,())) .ret s:=by
  intro L s h hs
  subst h
  exact hs
 have wh:∀ {e:Edit} {o n:Tree},Z0d e->Zi o<=10000000000->rng o->Zi n<=10000000000->Z8h ((mc,ma,()),e,o,n,()):=by
  intro e o n he ho hr hn
  have:=Z0H he
  have:=he.1
  exact ⟨⟨by dsimp only;omega,he.2⟩,⟨by dsimp only;omega,hr⟩,by dsimp only;omega⟩
 refine Zyw N mc ma p q _ ?_
 intro y1 h1 y2 h2 y3 h3 y4 h4 y5 h5 y6 h6
 replace h1:=h1.symm;replace h2:=h2.symm;replace h3:=h3.symm;replace h4:=h4.symm;replace h5:=h5.symm;replace h6:=h6.symm
 subst h1 h2 h3 h4 h5 h6
 (simp only [vcT,vcS])
 refine ⟨fun h0=> ?_,fun h0=> ?_⟩
 ·exact fin (by rw [hst,if_pos h0]) (by simp only [Qx];(repeat' (first | exact trivial | exact rfl | apply And.intro)))
 rw [if_neg (by rintro (h | h);exact h0.1 h;exact h0.2 h)] at hst
 refine ⟨fun p1=> ?_,fun p1=> ?_⟩
 ·rw [if_pos p1] at hst
  exact ⟨wh oq (by omega) gp.1 (by omega),trivial,fin hst (by (repeat' (first | exact trivial | exact rfl | apply And.intro)))⟩
 rw [if_neg p1] at hst
 refine ⟨fun q1=> ?_,fun q1=> ?_⟩
 ·rw [if_pos q1] at hst
  exact ⟨wh op (by omega) gq.1 (by omega),trivial,fin hst (by (repeat' (first | exact trivial | exact rfl | apply And.intro)))⟩
 rw [if_neg q1] at hst
 refine ⟨fun hd=> ?_,fun hd=> ?_⟩
 ·rw [if_pos (by omega)] at hst
  exact ⟨trivial,fin hst (by simp only [Qx,Xo];(repeat' (first | exact trivial | exact rfl | apply And.intro)))⟩
 rw [if_neg (by omega)] at hst
 refine ⟨fun p2=> ?_,fun p2=> ?_⟩
 ·rw [if_pos p2] at hst
  exact ⟨⟨op,oq,by dsimp only;omega,by dsimp only;omega⟩,by show 8*(Z8 p+Z8 q) < N;omega,fin hst (by (repeat' (first | exact trivial | exact rfl | apply And.intro)))⟩
 ·rw [if_neg p2] at hst
  have kp:=(Zj rp).kind
  exact ⟨⟨op,oq,by dsimp only;omega,by dsimp only;omega⟩,by show 8*(Z8 p+Z8 q) < N;omega,fin hst (by (repeat' (first | exact trivial | exact rfl | apply And.intro)))⟩
theorem Zh5(m h:List Tree):(Jb m h).x.length<=2/\(Jb m h).y.length<=2:=by
 unfold Jb
 have:=Z54 m.length;have:=Z54 h.length;have:=Z7k m;have:=Z7k h
 split <;> (simp only [Q9];omega)
theorem Zi3(f:Edit->Edit->Lft)(p q:Op):(Zz f p q).x.length<=1/\(Zz f p q).y.length<=1:=by
 unfold Zz
 split;· simp
 split;· simp
 split;· simp
 split;· simp
 split;· simp
 split;· simp
 split <;> simp
structure LInv (f:Edit->Edit->Lft) (mc ma:Bool) (ps:List Piece) (i:Int) (c a:Bool) (m h:List Tree) (x y:List Op):Prop where
 i0:0<=i
 il:i<=ps.length
 ec:(mc || (Z0I f ps [] []).c)=(c || (Z0I f (ps.drop i.toNat) m h).c)
 ea:(ma || (Z0I f ps [] []).a)=(a || (Z0I f (ps.drop i.toNat) m h).a)
 ex:(Z0I f ps [] []).x=x++(Z0I f (ps.drop i.toNat) m h).x
 ey:(Z0I f ps [] []).y=y++(Z0I f (ps.drop i.toNat) m h).y
 lx:(x.length:Int)<=3*i
 ly:(y.length:Int)<=3*i
 km:((Z7 m:Nat):Int)+YE φC (Z5B (ps.drop i.toNat))<=YE φC (Z5B ps)
 kh:((Z7 h:Nat):Int)+YE φC (Z5A (ps.drop i.toNat))<=YE φC (Z5A ps)
theorem cnn(o:Op):((Z7 o.l:Nat):Int)<=φC o:=by unfold φC;have:=ZpO o.e;omega
theorem Ze2:∀ l:List Op,0<=YE φC l
 | []=> QX _
 | o ::r=> by have:=Ze2 r;have:=cnn o;simp only [YE];omega
theorem LInv.step{f:Edit->Edit->Lft}{mc ma:Bool}{ps:List Piece}{i:Int}{c a:Bool}{m h:List Tree}{x y:List Op}(H:LInv f mc ma ps i c a m h x y)(hi:i < ps.length)(z:Piece)(X:Piece)(hX:X=ps.getD i.toNat z):
  (X.of=1->LInv f mc ma ps (i+1) c a (m++X.p.l) h x y)/\(¬X.of=1->X.of=2->LInv f mc ma ps (i+1) c a m (h++X.q.l) x y)/\
  (¬X.of=1->¬X.of=2->LInv f mc ma ps (i+1) ((c || (Jb m h).c) || (Zz f X.p X.q).c) (a || (Zz f X.p X.q).a) [] [] ((x++(Jb m h).x)++(Zz f X.p X.q).x) ((y++(Jb m h).y)++(Zz f X.p X.q).y)):=by
 have hd:=J1 H.i0 hi z
 rw [<-hX] at hd
 have h0:=H.i0
 obtain ⟨_,_,ec,ea,ex,ey,lx,ly,km,kh⟩:=H
 rw [hd] at ec ea ex ey km kh
 simp only [Z0I] at ec ea ex ey
 simp only [Z5B,Z5A] at km kh
 have np:=cnn X.p;have nq:=cnn X.q
 refine ⟨fun e=> ?_,fun e1 e2=> ?_,fun e1 e2=> ?_⟩
 ·rw [if_pos e] at ec ea ex ey
  rw [if_neg (by omega),XI,YE] at km
  rw [if_pos e,QN] at kh
  exact ⟨by omega,by omega,ec,ea,ex,ey,by omega,by omega,by rw [Yu];omega,kh⟩
 ·rw [if_neg e1,if_pos e2] at ec ea ex ey
  rw [if_pos e2,QN] at km
  rw [if_neg e1,XI,YE] at kh
  exact ⟨by omega,by omega,ec,ea,ex,ey,by omega,by omega,km,by rw [Yu];omega⟩
 ·rw [if_neg e1,if_neg e2] at ec ea ex ey
  rw [if_neg e2,XI,YE] at km
  rw [if_neg e1,XI,YE] at kh
  simp only [PL.app] at ec ea ex ey
  obtain ⟨g1,g2⟩:=Zh5 m h
  obtain ⟨g3,g4⟩:=Zi3 f X.p X.q
  have ga:(Jb m h).a=false:=by unfold Jb;split <;> rfl
  rw [ga,XP] at ea
  refine ⟨by omega,by omega,?_,?_,?_,?_,?_,?_,?_,?_⟩
  ·rw [ec];simp only [XE]
  ·rw [ea,XE]
  ·rw [ex];simp only [Qa]
  ·rw [ey];simp only [Qa]
  ·simp only [Q9];omega
  ·simp only [Q9];omega
  ·simp only [Z7];omega
  ·simp only [Z7];omega
theorem ZlS{p q:List Op}(hp:Zr4 p)(hq:Zr4 q){x:Piece}(h:POk2 p q x):(x.of≠2->Ze7 x.p)/\(x.of≠1->Ze7 x.q):=by
 refine ⟨fun e=> ?_,fun e=> ?_⟩
 ·obtain ⟨a,b⟩:=h.pp e
  exact ⟨b,X2 (Zaj a).1 hp.1,Zgr a b hp.2.1,ZbO a hp.2.2⟩
 ·obtain ⟨a,b⟩:=h.qq e
  exact ⟨b,X2 (Zaj a).1 hq.1,Zgr a b hq.2.1,ZbO a hq.2.2⟩
theorem ZvY:Zu6:=by
 intro N mc ma p q _ hp hN
 obtain ⟨op,oq,kp3,kq3⟩:=hp
 dsimp only at op oq kp3 kq3
 have hN':8*(Z8 p+Z8 q) < N+1:=hN
 have rop:=Zjz op
 have roq:=Zjz oq
 have kp:=Ztr rop
 have kq:=Ztr roq
 have lp:=ZdB p
 have lq:=ZdB q
 obtain ⟨i1,_⟩:=Zdm _ p.ops q.ops [] (Qh _) kp.1 kq.1
 have fin:∀ {L:Lft} {s:LSt U},Z2v lbE p q=L->YM cfg Try.f115.ntmps Try.f115.results.toList (.tup [(true,enc .edit L.x),(true,enc .edit L.y)]) [[.bool (mc || L.c),.bool (ma || L.a)]] .ret s->
   YM cfg Try.f115.ntmps Try.f115.results.toList (Zbq ((mc,ma,()),p,q,())) (Z6Q ((mc,ma,()),p,q,())) .ret s:=by
  intro L s h hs
  subst h
  exact hs
 refine Zxp N mc ma p q _ ?_
 (simp only [vcT,vcS])
 refine ⟨⟨kp,kq⟩,fun hb=> ⟨trivial,fin (by rw [Z2v,if_neg (by rw [hb];decide)]) (by simp only [Qx,Xo];(repeat' (first | exact trivial | exact rfl | apply And.intro)))⟩,fun hb=> ?_⟩
 obtain ⟨ps,e,hps,_,_⟩:=i1 hb
 obtain ⟨ps1,e1,sp,sq,hlen⟩:=Zoc ZtY ZtY 2 _ p.ops q.ops [] (Qh _) kp.1 kq.1 hb
 rw [e,QN,QN] at e1
 subst e1
 rw [QN] at e
 have hL:Z2v lbE p q=⟨Z0j p.list (Z0I lbE ps [] []).x,Z0j p.list (Z0I lbE ps [] []).y,(Z0I lbE ps [] []).c,(Z0I lbE ps [] []).a⟩:=by rw [Z2v,if_pos hb,e]
 have c1:=ZhD p.ops;have c2:=ZhD q.ops;have c3:=rop.1;have c4:=roq.1
 refine Zb (ι:=Int × Bool × Bool × List Tree × List Tree × List Op × List Op) (fun s=> Z1I mc ma p q s.1 s.2.1 s.2.2.1 s.2.2.2.1 s.2.2.2.2.1 s.2.2.2.2.2.1 s.2.2.2.2.2.2)
  (fun s=> LInv lbE mc ma ps s.1 s.2.1 s.2.2.1 s.2.2.2.1 s.2.2.2.2.1 s.2.2.2.2.2.1 s.2.2.2.2.2.2) (fun s=> ((ps.length:Int) - s.1).toNat) (0,mc,ma,[],[],[],[]) rfl
  ⟨by simp,by simp,by simp,by simp,by simp,by simp,by simp,by simp,by simp [Z7],by simp [Z7]⟩ ?_
 rintro ⟨i,c,a,m,h,x,y⟩ H
 dsimp only at H
 refine Zn8 N mc ma p q _ _ _ _ _ _ _ _ _ ?_
 intro y1 h1 y2 h2 y3 h3 y4 h4 y5 h5 y6 h6 y7 h7
 rw [e] at h5 ⊢
 replace h6:=h6.symm;replace h7:=h7.symm
 have i0:=H.i0;have il:=H.il;have lx:=H.lx;have ly:=H.ly;have km:=H.km;have kh:=H.kh
 have n1:=Ze2 (Z5B (ps.drop i.toNat));have n2:=Ze2 (Z5A (ps.drop i.toNat))
 obtain ⟨g1,g2⟩:=Zh5 m h
 (simp only [vcT,vcS])
 refine ⟨fun hi=> ?_,fun hi=> ?_⟩
 ·obtain ⟨s1,s2,s3⟩:=H.step hi _ y5 h5
  have hmem:y5∈ps:=by rw [h5];exact Zk (by omega) _
  have hx:=hps y5 hmem
  obtain ⟨o1,o2⟩:=ZlS rop roq hx
  have km1:(Z7 y5.p.l:Int)<=9000000000:=by
   rcases hx.of with h | h | h
   ·have:=Z2T y5.p;have:=(o1 (by omega)).2.1;omega
   ·have:=Z2T y5.p;have:=(o1 (by omega)).2.1;omega
   ·rw [hx.pn h];simp [Op.nil,Z7]
  have km2:(Z7 y5.q.l:Int)<=9000000000:=by
   rcases hx.of with h | h | h
   ·have:=Z2T y5.q;have:=(o2 (by omega)).2.1;omega
   ·rw [hx.qn h];simp [Op.nil,Z7]
   ·have:=Z2T y5.q;have:=(o2 (by omega)).2.1;omega
  have q1:=Zv m;have q2:=Zv h;have q3:=Zv y5.p.l;have q4:=Zv y5.q.l
  refine ⟨⟨i0,hi⟩,fun f1=> ⟨by omega,by unfold InR;omega,(i+1,c,a,m++y5.p.l,h,x,y),rfl,s1 f1,by dsimp only;omega⟩,fun f1=> ⟨fun f2=> ⟨by omega,by unfold InR;omega,(i+1,c,a,m,h++y5.q.l,x,y),rfl,s2 f1 f2,by dsimp only;omega⟩,fun f2=> ?_⟩⟩
  have f0:y5.of=0:=by rcases hx.of with h | h | h <;> omega
  obtain ⟨b1,b2,b3⟩:=hx.both f0
  have mp:=(Zaj (hx.pp f2).1).2
  have mq:=(Zaj (hx.qq f1).1).2
  rw [<-h6,<-h7]
  refine ⟨⟨⟨by dsimp only;omega,by dsimp only;omega⟩,by dsimp only;omega,by dsimp only;omega⟩,⟨⟨o1 f2,o2 f1,b3,b1,b2⟩,by simp only [List.length_append];omega,by simp only [List.length_append];omega⟩,by show 8*(Zt y5.p+Zt y5.q)+2 < N;omega,by unfold InR;omega,
   (i+1,_,_,[],[],_,_),rfl,s3 f1 f2,by dsimp only;omega⟩
 ·have hd:ps.drop i.toNat=[]:=Ql (by omega)
  have ec:=H.ec;have ea:=H.ea;have ex:=H.ex;have ey:=H.ey
  rw [hd] at ec ea ex ey
  simp only [Z0I] at ec ea ex ey
  have ga:(Jb m h).a=false:=by unfold Jb;split <;> rfl
  rw [ga,Qx] at ea
  refine ⟨⟨⟨by dsimp only;omega,by dsimp only;omega⟩,by dsimp only;omega,by dsimp only;omega⟩,by show (x++_).length<=_;rw [List.length_append];omega,by show (y++_).length<=_;rw [List.length_append];omega,fin hL ?_⟩
  dsimp only
  rw [ec,ea,ex,ey]
  subst h1 h2 h3 h4
  (repeat' (first | exact trivial | exact rfl | apply And.intro))
theorem ZvX:Zu5:=by
 intro N sm_ sx sy si sh p q mc ma _ hp hN
 simp only [Z8d] at hp
 obtain ⟨⟨⟨op,mp,gp,rp⟩,⟨oq,mq,gq,rq⟩,hl,p2,q2⟩,lx,ly⟩:=hp
 have hN':8*(Zt p+Zt q)+2 < N+1:=hN
 have ep:=Z2p p
 have eq:=Z2p q
 have gp':=Z1l gp
 have gq':=Z1l gq
 have ap:=Z2T p
 have aq:=Z2T q
 have kp:=YO op
 have kq:=YO oq
 have fin:∀ {L:PL} {s:LSt U},Zz lbE p q=L->YM cfg Try.f160.ntmps Try.f160.results.toList (.tup []) [[.xp 1,.slice (U:=U) .op (sx++L.x) (.own (.x 0 1)),.slice (U:=U) .op (sy++L.y) (.own (.x 0 2)),.slice (U:=U) .tree si (.own (.x 0 3)),.slice (U:=U) .tree sh (.own (.x 0 4))],[.bool (mc || L.c),.bool (ma || L.a)]] .normal s->
   YM cfg Try.f160.ntmps Try.f160.results.toList (Zbo ((sm_,sx,sy,si,sh,()),p,q,(mc,ma,()),())) (Z6N ((sm_,sx,sy,si,sh,()),p,q,(mc,ma,()),())) .normal s:=by
  intro L s h hs
  subst h
  exact hs
 have hc:=Zz.eq_1 lbE p q
 refine Zx9 N sm_ sx sy si sh p q mc ma _ ?_
 intro y1 h1 y2 h2 y3 h3 y4 h4 y5 h5 y6 h6 y7 h7 y8 h8 y9 h9 y10 h10 y11 h11
 replace h3:=h3.symm;replace h4:=h4.symm
 subst h1 h2 h3 h4 h7 h8 h9 h10 h11
 simp only [Z0W]
 (simp only [vcT,vcS])
 refine ⟨fun c1=> ?_,fun c1=> ?_⟩
 ·rw [if_pos c1] at hc
  exact ⟨by simp only [Qb,Qg];omega,⟨by omega,by simp only [Q9,Qb,Qg];omega⟩,by omega,fin hc (by simp only [Qx,Qr];(repeat' (first | exact trivial | exact rfl | apply And.intro)))⟩
 rw [if_neg (by omega)] at hc
 refine ⟨fun c2=> ?_,fun c2=> ?_⟩
 ·rw [if_pos c2] at hc
  exact ⟨by simp only [Qb,Qg];omega,⟨by omega,by simp only [Q9,Qb,Qg];omega⟩,by omega,fin hc (by simp only [Qx,Qr];(repeat' (first | exact trivial | exact rfl | apply And.intro)))⟩
 rw [if_neg (by omega)] at hc
 refine ⟨fun c3=> ?_,fun c3=> ?_⟩
 ·rw [if_pos c3] at hc
  exact ⟨by simp only [Qb,Qg];omega,by simp only [Qb,Qg];omega,fin hc (by simp only [Qx];(repeat' (first | exact trivial | exact rfl | apply And.intro)))⟩
 rw [if_neg c3] at hc
 refine ⟨fun c4=> ?_,fun c4=> ?_⟩
 ·rw [if_pos c4] at hc
  exact ⟨by simp only [Qb,Qg];omega,by simp only [Qb,Qg];omega,fin hc (by simp only [Qx];(repeat' (first | exact trivial | exact rfl | apply And.intro)))⟩
 rw [if_neg c4] at hc
 refine ⟨fun c5=> ⟨⟨by dsimp only;omega,by dsimp only;omega⟩,fun he=> ?_,fun he=> ?_⟩,fun c5=> ?_⟩
 ·rw [if_pos c5,Z6l,he] at hc
  exact fin hc (by simp only [XB,Qx,Xo,Qr];(repeat' (first | exact trivial | exact rfl | apply And.intro)))
 ·rw [if_pos c5,Z6l,he] at hc
  exact fin hc (by simp only [Xq,Qx,Qr];(repeat' (first | exact trivial | exact rfl | apply And.intro)))
 rw [if_neg (by omega)] at hc
 refine ⟨fun c6=> ?_,fun c6=> ?_⟩
 ·rw [if_pos c6] at hc
  have l1:=Z1Y op (.inl c6)
  have l2:=Z0k (o:=y2) (by unfold kOk at kq;omega)
  have hp0:0 < y1.l.length:=by omega
  have m3:y5∈y1.l:=by rw [h5];exact Zk hp0 _
  have m3':=JH m3
  have rk:Z0d y2.e:=⟨by omega,gq'.2.2.2,rq (by unfold kOk at kq;omega)⟩
  have:=Z0H rk
  rw [show y1.l.getD 0 Tree.nil=y5 from h5.symm] at hc
  exact ⟨⟨by omega,by omega⟩,⟨⟨by dsimp only;omega,rk.2⟩,by dsimp only;omega,YV gp'.2.2.1 m3⟩,fin hc (by simp only [Bool.or_true,List.append_nil];(repeat' (first | exact trivial | exact rfl | apply And.intro)))⟩
 rw [if_neg c6] at hc
 have kp3:y1.kind=3:=by unfold kOk at kp;omega
 refine ⟨fun c7=> ?_,fun c7=> ?_⟩
 ·rw [if_pos c7] at hc
  have l1:=Z1Y oq (.inl c7)
  have l2:=Z0k (o:=y1) kp3
  have hp0:0 < y2.l.length:=by omega
  have m3:y6∈y2.l:=by rw [h6];exact Zk hp0 _
  have m3':=JH m3
  have rk:Z0d y1.e:=⟨by omega,gp'.2.2.2,rp kp3⟩
  have:=Z0H rk
  rw [show y2.l.getD 0 Tree.nil=y6 from h6.symm] at hc
  exact ⟨⟨by omega,by omega⟩,⟨⟨by dsimp only;omega,rk.2⟩,by dsimp only;omega,YV gq'.2.2.1 m3⟩,fin hc (by simp only [Bool.or_true,List.append_nil];(repeat' (first | exact trivial | exact rfl | apply And.intro)))⟩
 rw [if_neg c7] at hc
 have k1:Z0d y1.e:=⟨by omega,gp'.2.2.2,rp kp3⟩
 have k2:Z0d y2.e:=⟨by omega,gq'.2.2.2,rq (by unfold kOk at kq;omega)⟩
 refine ⟨⟨k1,k2⟩,?_,trivial,by simp only [Qb,Qg];omega,trivial,by simp only [Qb,Qg];omega,fin hc (by (repeat' (first | exact trivial | exact rfl | apply And.intro)))⟩
 show 8*(Z8 y1.e+Z8 y2.e)+1 < N
 rw [ZV,ZV] at hN'
 omega
set_option maxHeartbeats 1000000 in
theorem ZvZ:Zu7:=by
 intro N mc ma p q _ hp hN
 obtain ⟨op,oq,kp2,kq2⟩:=hp
 dsimp only at op oq kp2 kq2
 have hN':8*(Z8 p+Z8 q) < N+1:=hN
 have lp:=ZdB p
 have lq:=ZdB q
 have mp:=Z0H op
 have mq:=Z0H oq
 have wk:∀ {e:Edit},Z0d e->∀ w∈e.words,wOk w:=by
  intro e h w hw
  obtain ⟨d,hr⟩:=h.2.2
  have a:=Z06 (Zj hr).words w hw
  exact ⟨(ZQ h.2.1).2.2.1 w hw,a.2.2.2.1,a.2.2.2.2⟩
 have kk:∀ {e:Edit},Z0d e->∀ k∈e.kids,Z0d k.e/\Z8 k.e < Z8 e:=by
  intro e h k hk
  obtain ⟨d,hr⟩:=h.2.2
  have c:=Zcx hk
  have:=Z4z e
  have:=h.1
  exact ⟨⟨by omega,(Ys (ZQ h.2.1).2.2.2.1 hk).2,_,(Zs (Zj hr).kids k hk).2⟩,Y5 hk⟩
 have lkp:=J6 p.kids;have lkq:=J6 q.kids
 have fin:∀ {L:Lft} {s:LSt U},Z3K lbE p q=L->YM cfg Try.f114.ntmps Try.f114.results.toList (.tup [(true,enc .edit L.x),(true,enc .edit L.y)]) [[.bool (mc || L.c),.bool (ma || L.a)]] .ret s->
   YM cfg Try.f114.ntmps Try.f114.results.toList (Zbr ((mc,ma,()),p,q,())) (Z6R ((mc,ma,()),p,q,())) .ret s:=by
  intro L s h hs
  subst h
  exact hs
 refine Zxq N mc ma p q _ ?_
 refine ⟨by show p.words.length<=_;omega,by show q.words.length<=_;omega,?_⟩
 let WI:=SInv WEdit.at_ Z0r Z0r (fun a b=> !Yj a b && JX a b) Yj mc ma p.words q.words
 refine Zb (ι:=Int × Bool × Bool × List WEdit × List WEdit) (fun s=> Z5d mc ma p q s.1 s.2.1 s.2.2.1 s.2.2.2.1 s.2.2.2.2)
  (fun s=> (0<=s.1/\s.1<=p.words.length)/\WI s.1.toNat 0 s.2.1 s.2.2.1 s.2.2.2.1 s.2.2.2.2) (fun s=> ((p.words.length:Int) - s.1).toNat) (0,mc,ma,p.words,q.words) rfl ⟨⟨by dsimp only;omega,by dsimp only;omega⟩,SInv.init⟩ ?_
 rintro ⟨i,c,a,X,Y⟩ ⟨⟨i0,il⟩,H⟩
 dsimp only at i0 il H
 refine Znc N mc ma p q _ _ _ _ _ _ _ ?_
 dsimp only
 refine ⟨fun hi=> ?_,fun hi=> ?_⟩
 ·replace hi:=of_decide_eq_true hi
  refine ⟨⟨i0,hi⟩,?_⟩
  refine Zb (ι:=Int × Bool × Bool × List WEdit × List WEdit) (fun s=> Z5c mc ma p q i s.1 s.2.1 s.2.2.1 s.2.2.2.1 s.2.2.2.2)
   (fun s=> (0<=s.1/\s.1<=q.words.length)/\WI i.toNat s.1.toNat s.2.1 s.2.2.1 s.2.2.2.1 s.2.2.2.2) (fun s=> ((q.words.length:Int) - s.1).toNat) (0,c,a,X,Y) rfl ⟨⟨by dsimp only;omega,by dsimp only;omega⟩,H⟩ ?_
  clear H
  clear c a X Y
  rintro ⟨j,c,a,X,Y⟩ ⟨⟨j0,jl⟩,H⟩
  dsimp only at j0 jl H
  have lx:=H.lx
  have ly:=H.ly
  refine Znb N mc ma p q _ _ _ _ _ _ _ _ _ ?_
  intro y1 h1 y2 h2 y3 h3 y4 h4 y5 h5 y6 h6
  replace h3:=h3.symm;replace h4:=h4.symm
  subst h3 h4
  (simp only [vcT,vcS])
  try dsimp only at*
  refine ⟨fun hj=> ⟨⟨j0,hj⟩,fun he=> ?_,fun he=> ?_⟩,fun hj=> ?_⟩
  ·have st:=(H.step (by omega) (by omega) ⟨0,0,0,0⟩).1 (by rw [<-h1,<-h2];exact he)
   rw [<-h1,<-h2] at st
   have m1:y1∈p.words:=by rw [h1];exact Zk (by omega) _
   have m2:y2∈q.words:=by rw [h2];exact Zk (by omega) _
   subst h5 h6
   refine ⟨⟨wk op _ m1,wk oq _ m2⟩,⟨wk op _ m1,ZjO _⟩,⟨i0,by omega⟩,Xk _,⟨wk oq _ m2,ZjO _⟩,⟨j0,by omega⟩,Xk _,?_⟩
   refine ZfK N mc ma p q _ _ _ _ _ _ _ _ _ _ ⟨by unfold InR;omega,(j+1,_,_,_,_),rfl,⟨⟨by dsimp only;omega,by dsimp only;omega⟩,?_⟩,by dsimp only;omega⟩
   rw [show (j+1).toNat=j.toNat+1 by omega]
   exact st
  ·have st:=(H.step (by omega) (by omega) ⟨0,0,0,0⟩).2 (by rw [<-h1,<-h2];exact he)
   refine ZfK N mc ma p q _ _ _ _ _ _ _ _ _ _ ⟨by unfold InR;omega,(j+1,_,_,_,_),rfl,⟨⟨by dsimp only;omega,by dsimp only;omega⟩,?_⟩,by dsimp only;omega⟩
   rw [show (j+1).toNat=j.toNat+1 by omega]
   exact st
  ·refine ⟨by unfold InR;omega,(i+1,_,_,_,_),rfl,⟨⟨by dsimp only;omega,by dsimp only;omega⟩,?_⟩,by dsimp only;omega⟩
   rw [show (i+1).toNat=i.toNat+1 by omega]
   rw [show j.toNat=q.words.length by omega] at H
   exact H.next (by omega)
 replace hi:=of_decide_eq_false hi
 rw [show i.toNat=p.words.length by omega] at H
 obtain ⟨ec,ea,eX,eY⟩:=H.fin
 refine ⟨by show p.kids.length<=_;omega,by show q.kids.length<=_;omega,?_⟩
 let KI:=SInv KidOf.at_ (fun a b:Kid=> ⟨a.at_,(lbE a.e b.e).x⟩) (fun b a:Kid=> ⟨b.at_,(lbE a.e b.e).y⟩) (fun a b=> (lbE a.e b.e).c) (fun a b=> (lbE a.e b.e).a) c a p.kids q.kids
 refine Zb (ι:=Int × Bool × Bool × List Kid × List Kid) (fun s=> Z5b mc ma p q X Y s.1 s.2.1 s.2.2.1 s.2.2.2.1 s.2.2.2.2)
  (fun s=> (0<=s.1/\s.1<=p.kids.length)/\KI s.1.toNat 0 s.2.1 s.2.2.1 s.2.2.2.1 s.2.2.2.2) (fun s=> ((p.kids.length:Int) - s.1).toNat) (0,c,a,p.kids,q.kids) rfl ⟨⟨by dsimp only;omega,by dsimp only;omega⟩,SInv.init⟩ ?_
 clear H hi il i0
 rintro ⟨i,c1,a1,X1,Y1⟩ ⟨⟨i0,il⟩,H⟩
 dsimp only at i0 il H
 refine Zna N mc ma p q _ _ _ _ _ _ _ _ _ ?_
 intro z1 hz1 z2 hz2
 dsimp only at hz1 hz2 ⊢
 refine ⟨fun hi=> ?_,fun hi=> ?_⟩
 ·replace hi:=of_decide_eq_true hi
  refine ⟨⟨i0,hi⟩,?_⟩
  refine Zb (ι:=Int × Bool × Bool × List Kid × List Kid) (fun s=> Z5a mc ma p q X Y i s.1 s.2.1 s.2.2.1 s.2.2.2.1 s.2.2.2.2)
   (fun s=> (0<=s.1/\s.1<=q.kids.length)/\KI i.toNat s.1.toNat s.2.1 s.2.2.1 s.2.2.2.1 s.2.2.2.2) (fun s=> ((q.kids.length:Int) - s.1).toNat) (0,c1,a1,X1,Y1) rfl ⟨⟨by dsimp only;omega,by dsimp only;omega⟩,H⟩ ?_
  clear H hz1 hz2
  clear c1 a1 X1 Y1
  rintro ⟨j,c1,a1,X1,Y1⟩ ⟨⟨j0,jl⟩,H⟩
  dsimp only at j0 jl H
  have lx:=H.lx
  have ly:=H.ly
  refine Zn9 N mc ma p q _ _ _ _ _ _ _ _ _ _ _ ?_
  intro y1 h1 y2 h2 y3 h3 y4 h4 y5 h5 y6 h6
  (simp only [vcT,vcS])
  try dsimp only at*
  refine ⟨fun hj=> ⟨⟨j0,hj⟩,fun he=> ?_,fun he=> ?_⟩,fun hj=> ?_⟩
  ·have st:=(H.step (by omega) (by omega) ⟨0,Edit.nil⟩).1 (by rw [<-h1,<-h2];exact he)
   have e1:=H.at_x (fun a b=> rfl) (by omega) ⟨0,Edit.nil⟩
   have e2:=H.at_y (fun a b=> rfl) (by omega) ⟨0,Edit.nil⟩
   rw [<-h1] at e1
   rw [<-h2] at e2
   rw [<-h1,<-h2] at st
   have m1:=kk op y1 (by rw [h1];exact Zk (by omega) _)
   have m2:=kk oq y2 (by rw [h2];exact Zk (by omega) _)
   subst h3 h4 h5 h6
   refine ⟨⟨m1.1,m2.1⟩,by show 8*(Z8 y1.e+Z8 y2.e)+1 < N;omega,⟨i0,by omega⟩,Xk _,⟨j0,by omega⟩,Xk _,?_⟩
   refine ZfJ N mc ma p q _ _ _ _ _ _ _ _ _ _ _ ⟨by unfold InR;omega,(j+1,_,_,_,_),rfl,⟨⟨by dsimp only;omega,by dsimp only;omega⟩,?_⟩,by dsimp only;omega⟩
   rw [show (j+1).toNat=j.toNat+1 by omega]
   dsimp only
   rw [e1,e2]
   exact st
  ·have st:=(H.step (by omega) (by omega) ⟨0,Edit.nil⟩).2 (by rw [<-h1,<-h2];exact he)
   refine ZfJ N mc ma p q _ _ _ _ _ _ _ _ _ _ _ ⟨by unfold InR;omega,(j+1,_,_,_,_),rfl,⟨⟨by dsimp only;omega,by dsimp only;omega⟩,?_⟩,by dsimp only;omega⟩
   rw [show (j+1).toNat=j.toNat+1 by omega]
   exact st
  ·refine ⟨by unfold InR;omega,(i+1,_,_,_,_),rfl,⟨⟨by dsimp only;omega,by dsimp only;omega⟩,?_⟩,by dsimp only;omega⟩
   rw [show (i+1).toNat=i.toNat+1 by omega]
   rw [show j.toNat=q.kids.length by omega] at H
   exact H.next (by omega)
 replace hi:=of_decide_eq_false hi
 rw [show i.toNat=p.kids.length by omega] at H
 have lx:=H.lx;have ly:=H.ly
 obtain ⟨ec1,ea1,eX1,eY1⟩:=H.fin
 have lX:X.length=p.words.length:=by rw [eX,Xn]
 have lY:Y.length=q.words.length:=by rw [eY,Xn]
 refine ⟨⟨by dsimp only;omega,by dsimp only;omega⟩,⟨by dsimp only;omega,by dsimp only;omega⟩,fin rfl ?_⟩
 have e1:(Z3K lbE p q).x=Z2I z1:=by rw [hz1,eX,eX1];try rfl
 have e2:(Z3K lbE p q).y=Z2I z2:=by rw [hz2,eY,eY1];try rfl
 have e3:(mc || (Z3K lbE p q).c)=c1:=by rw [ec1,ec,XE];try rfl
 have e4:(ma || (Z3K lbE p q).a)=a1:=by rw [ea1,ea,XE];try rfl
 rw [e1,e2,e3,e4]
 (repeat' (first | exact trivial | exact rfl | apply And.intro))
theorem ZyW:Contract Try.prog cfg 77 Z80/\Contract Try.prog cfg 114 Zj9/\Contract Try.prog cfg 115 Zj8/\Contract Try.prog cfg 160 Zj7:=
 Zrn Z9O ZvR ZvQ Zfi ZvL ZvK ZvJ ZvI ZvH (ZvG ZpQ) ZvF ZvE Zvz Zvy b77 ZvZ ZvY ZvX
theorem c77:Contract Try.prog cfg 77 Z80:=ZyW.1
noncomputable section
def Zq9:ArgL (Edit × Edit × Unit):=(.cons (aEl .edit) (.cons (aEl .edit) .nil))
def ZjG(a:Edit × Edit × Unit):Prop:=ZlO a.1 a.2.1
def Zjt(a:Edit × Edit × Unit):V U:= .tup [(true,(enc .edit ((lbN a.1 a.2.1).1))),(true,(enc .edit ((lbN a.1 a.2.1).2.1))),(false,[ci ((lbN a.1 a.2.1).2.2)])]
def Z3S:Fs U:=fs Zq9 (fun a=> [ZjG a]) Zjt
def ZtA(a:Unit):V U:= .c (.bool true)
def Zb4:Fs U:=fs Zla (fun a=> [Z8g a]) ZtA
def Zby(a:Tree × Unit):Prop:=Z1O a.1/\rng a.1
def ZtB(a:Tree × Unit):V U:= .c (.bool (Z4s a.1))
def Zb5:Fs U:=fs Zq8 (fun a=> [Zby a]) ZtB
def ZtX:ArgL (Edit × Edit × Tree × Unit):=(.cons (aEl .edit) (.cons (aEl .edit) (.cons (aEl .tree) .nil)))
def Zut(a:Edit × Edit × Tree × Unit):Prop:=(Z1N a.1/\Yl a.1)/\(Z1N a.2.1/\Yl a.2.1)/\Z1O a.2.2.1/\rng a.2.2.1
def ZxC(a:Edit × Edit × Tree × Unit):V U:= .c (.bool true)
def Zj6:Fs U:=fs ZtX (fun a=> [Zut a]) ZxC
def Zpt:List (FuncId × Fs U):=[(57,Zb0),(77,Z80)]
def Zv5:Zf U:=lvl [([2,3,4,5],[2,3,4,5]),([2,3,4,5,7],[2,3,4,5,11]),([4,5,7,8,9],[4,5,8,9,11]),([4,5,7,8,9,21],[4,5,8,9,11]),([4,5,6],[4,5]),([4,5,8,9,28],[4,5,8,9]),([4,5,6],[4,5]),([4,5,6],[4,5])]
abbrev A35(p:List Nat):=AW (Z6 Zpt) Try.f35 Zv5 p
theorem ZyN(p q:Edit)(Q:QT)(h:∀ y_1,y_1=p->∀ y_2,y_2=q->∀ y_3,y_3=(Zx y_1)->∀ y_4,y_4=(Zx y_2)->∀ y_5,y_5=((lbE y_3 y_4).x)->∀ y_6,y_6=((lbE y_3 y_4).y)->((Z1d (y_1,()))/\(Z1d (y_2,()))/\(Zbw ((false,false,()),y_3,y_4,()))/\(((false || (lbE y_3 y_4).a)=true->(Q .ret (L2 [pL 4,pL 5,pI 6 14] [(.loc 4,zc1),(.loc 5,zc1)])))/\((false || (lbE y_3 y_4).a)=false->(((false || (lbE y_3 y_4).c)=true->(Q .ret (L2 [pL 4,pL 5,pI 6 13] [(.loc 4,zc1),(.loc 5,zc1)])))/\((false || (lbE y_3 y_4).c)=false->(Z1d (y_5,()))/\(Z1d (y_6,()))/\(Q .ret (L2 [pL 4,pL 5,pI 6 0] [(.loc 4,(enc .edit (Zx y_5))),(.loc 5,(enc .edit (Zx y_6)))])))))))):
  A35 [] (L2 [(0,.agg (enc .edit p)),(1,.agg (enc .edit q))] []) Q:=
 Eq.mpr (by kernel_rfl) (h _ (Zd _) _ (Zd _) _ (Zd _) _ (Zd _) _ (Zd _) _ (Zd _))
def Zwy(p q:Edit):Prop:=AW (Z6 Zpt) Try.f35 Zv5 [] (Zm (Zq9.can (p,q,())) []) (EQ Try.f35 (Zjt (p,q,())) [])
theorem ZuR(c57:CT 57 Zb0)(c77:CT 77 Z80)(hb:∀ (p:Edit) (q:Edit) (_:Unit),ZjG (p,q,())->Zwy p q):CT 35 Z3S:=
 Z4 (l:=[(57,Zb0),(77,Z80)]) Zn rfl (⟨c57,c77,trivial⟩) Zv5 Try.func35 rfl rfl 2 (fun _=> rfl) (by decide) (fun ⟨p,q,_⟩=> hb p q ())
def Zpu:List (FuncId × Fs U):=[(35,Z3S)]
def Zv6:Zf U:=lvl [([],[]),([1],[]),([1,2],[]),([2,3],[3]),([3,4],[3,4]),([5,6,7],[5,6]),([0],[])]
abbrev A34(p:List Nat):=AW (Z6 Zpu) Try.f34 Zv6 p
theorem ZyO(Q:QT)(h:∀ y_1,y_1=(Edit.mk 0 (Tree.mk 0 [] []) (Tree.mk 0 [] []) [] [] 0 [])->∀ y_2,y_2=(Edit.mk 3 (Tree.mk 0 [] []) (Tree.mk 0 [] []) [] [] 4 ([(OpOf.mk 0 1 [] y_1),(OpOf.mk 2 0 ([(Tree.mk 10 ([2]) [])]) y_1)]))->∀ y_3,y_3=(Edit.mk 3 (Tree.mk 0 [] []) (Tree.mk 0 [] []) [] [] 4 ([(OpOf.mk 2 0 ([(Tree.mk 10 ([1]) [])]) y_1),(OpOf.mk 0 1 [] y_1)]))->∀ y_4,y_4=(List.getD (Edit.ops ((lbN y_3 y_2).1)) (Int.toNat 0) Op.nil)->∀ y_5,y_5=(List.getD (Edit.ops ((lbN y_3 y_2).1)) (Int.toNat 1) Op.nil)->∀ y_6,y_6=(List.getD (Edit.ops ((lbN y_3 y_2).2.1)) (Int.toNat 0) Op.nil)->let z7:=Edit.ops ((lbN y_3 y_2).1);let z6:=Edit.ops ((lbN y_3 y_2).2.1);let z5:=(((lbN y_3 y_2).2.2):Int)==0;let z1:=bif z5 then (((z7.length:Int):Int)==2) else false;let z2:=bif z1 then (y_4.kind==2) else false;let z4:=bif z2 then (y_5.n==2) else false;let z0:=bif z4 then (((z6.length:Int):Int)==2) else false;let z3:=bif z0 then (y_6.n==2) else false;((ZjG (y_3,y_2,()))/\((Tr (z5=true))/\(Tr (z5=true))/\(Tr (z5=true))/\(Tr (z5=true))/\(Tr (z1=true))/\(Tr (z1=true))/\(z1=true->(0:Int)<=0/\0 < (z7.length:Int))/\(Tr (z1=true))/\(Tr (z1=true))/\(Tr (z1=true))/\(Tr (z1=true))/\(Tr (z2=true))/\(Tr (z2=true))/\(z2=true->(0:Int)<=1/\1 < (z7.length:Int))/\(Tr (z2=true))/\(Tr (z2=true))/\(Tr (z2=true))/\(Tr (z2=true))/\(Tr (z4=true))/\(Tr (z4=true))/\(Tr (z4=true))/\(Tr (z4=true))/\(Tr (z0=true))/\(Tr (z0=true))/\(z0=true->(0:Int)<=0/\0 < (z6.length:Int))/\(Tr (z0=true))/\(Tr (z0=true))/\(Tr (z0=true))/\(Tr (z0=true))/\(Tr (z3=true))/\(Tr (z3=true))/\(z3=true->(0:Int)<=1/\1 < (z6.length:Int))/\(Tr (z3=true))/\(Tr (z3=true))/\(Tr (z3=true))/\(Tr (z3=true))/\(Q .ret (L2 [(0,.c (.bool (bif z3 then (((OpOf.kind (List.getD z6 (Int.toNat 1) Op.nil)):Int)==2) else false)))] []))))):
  A34 [] (L2 [] []) Q:=
 Eq.mpr (by kernel_rfl) (h _ rfl _ rfl _ rfl _ rfl _ rfl _ rfl)
def Zwz:Prop:=AW (Z6 Zpu) Try.f34 Zv6 [] (Zm (Zla.can ()) []) (EQ Try.f34 (ZtA ()) [])
theorem ZuS(c35:CT 35 Z3S)(hb:∀ (_:Unit),Z8g ()->Zwz):CT 34 Zb4:=
 Z4 (l:=[(35,Z3S)]) Zn rfl (⟨c35,trivial⟩) Zv6 Try.func34 rfl rfl 0 (fun _=> rfl) (by decide) (fun _=> hb ())
def Zpv:List (FuncId × Fs U):=[(36,Zb3),(37,Z3l)]
abbrev A33(p:List Nat):=AW (Z6 Zpv) Try.f33 Zv4 p
theorem ZyP(t:Tree)(Q:QT)(h:let z2:=Tree.mk t.kind t.words t.kids;let z1:=decide (0<=Zy z2 80 3000);let z0:=bif z1 then (Zh z2 64) else false;((ZjF (z2,()))/\(Tr (z1=true))/\(z1=true->Z45 (z2,64,()))/\(Tr (z1=true))/\(Tr (z0=true))/\(Tr (z0=true))/\(Tr (z0=true))/\(Q .ret (L2 [(2,.c (.bool (bif z0 then (t.kind !=10) else false)))] [])))):
  A33 [] (L2 [(0,.agg (enc .tree t))] []) Q:=
 Eq.mpr (by kernel_rfl) h
def ZwA(t:Tree):Prop:=AW (Z6 Zpv) Try.f33 Zv4 [] (Zm (Zq8.can (t,())) []) (EQ Try.f33 (ZtB (t,())) [])
theorem ZuT(c36:CT 36 Zb3)(c37:CT 37 Z3l)(hb:∀ (t:Tree) (_:Unit),Zby (t,())->ZwA t):CT 33 Zb5:=
 Z4 (l:=[(36,Zb3),(37,Z3l)]) Zn rfl (⟨c36,c37,trivial⟩) Zv4 Try.func33 rfl rfl 1 (fun _=> rfl) (by decide) (fun ⟨t,_⟩=> hb t ())
def ZtI:List (FuncId × Fs U):=[(15,Zb8),(26,Z1L),(29,Zb6),(33,Zb5),(34,Zb4),(35,Z3S)]
def lv8:Zf U:=lvl [([3,4,5],[3,4,5]),([3,4,5,30],[3,4,5]),([6],[]),([3,4,5,7,8],[3,4,5,7]),([3,4,7,8,9,10],[3,4,7,9]),([3,4,7,9,59],[3,4,7,9]),([6],[]),([7,9,11,12,13],[7,9,11,12]),([7,9,11,12,13,69],[7,9,11,12]),([6],[]),([9,11,14,15],[9,11,14]),([14,15,16,17],[14,16]),([6],[])]
abbrev A8(p:List Nat):=AW (Z6 ZtI) Try.f8 lv8 p
theorem vc8(p q:Edit)(t:Tree)(Q:QT)(h:∀ y_1,y_1=p->∀ y_2,y_2=q->∀ y_3,y_3=t->∀ y_4,y_4=((lbN y_1 y_2).1)->∀ y_5,y_5=((lbN y_1 y_2).2.1)->∀ y_6,y_6=(JK ((doE false y_1 y_3).map Z2))->∀ y_7,y_7=(JK ((doE false y_2 y_3).map Z2))->∀ y_8,y_8=(JK ((doE false y_4 y_7).map Z2))->∀ y_9,y_9=(JK ((doE false y_5 y_6).map Z2))->let z9:=(((lbN y_1 y_2).2.2):Int) !=0;let z6:=(((lbN y_1 y_2).2.2):Int)==13;let z4:= !((doE false y_1 y_3).isSome);let z2:=bif (!(Ji y_1)) then true else (!(Ji y_2));let z7:=bif z2 then true else (!(Z4s y_3));let z1:=bif ((doE false y_5 y_6).isSome) then ((doE false y_4 y_7).isSome) else false;let z5:=bif z1 then (ZT y_9 y_8) else false;let z0:=bif z4 then true else (!((doE false y_2 y_3).isSome));let z3:=bif z0 then true else (!(Z4s y_6));let z8:=bif z3 then true else (!(Z4s y_7));((Zgn (y_1,()))/\(Tr ((!(!(Ji y_1)))=true))/\((!(!(Ji y_1)))=true->Zgn (y_2,()))/\(Tr ((!(!(Ji y_1)))=true))/\((!(Ji y_1))=false->(!(!(Ji y_1)))=true)/\(Tr ((!z2)=true))/\((!z2)=true->Zby (y_3,()))/\(Tr ((!z2)=true))/\(z2=false->(!z2)=true)/\((z7=true->(Z8g ())/\(Q .ret (L2 [pB 6 true] [])))/\(z7=false->(Z2N (y_1,y_3,()))/\((Z2N (y_2,y_3,()))/\((Tr ((!z4)=true))/\(z4=false->(!z4)=true)/\(Tr ((!z0)=true))/\((!z0)=true->Zby (y_6,()))/\(Tr ((!z0)=true))/\(z0=false->(!z0)=true)/\(Tr ((!z3)=true))/\((!z3)=true->Zby (y_7,()))/\(Tr ((!z3)=true))/\(z3=false->(!z3)=true)/\((z8=true->(Z8g ())/\(Q .ret (L2 [pB 6 true] [])))/\(z8=false->(ZjG (y_1,y_2,()))/\((z9=true->(z6=true->Z8g ())/\(Tr (z6=true))/\(Q .ret (L2 [(6,.c (.bool (bif z6 then true else false)))] [])))/\(z9=false->(Z2N (y_5,y_6,()))/\((Z2N (y_4,y_7,()))/\((Tr (((doE false y_5 y_6).isSome)=true))/\(Tr (z1=true))/\(Tr (z1=true))/\(z1=true->Zbz (y_9,y_8,()))/\(Tr (z1=true))/\(z5=true->Z8g ())/\(Tr (z5=true))/\(Q .ret (L2 [(6,.c (.bool (bif z5 then true else false)))] [])))))))))))))):
  A8 [] (L2 [(0,.agg (enc .edit p)),(1,.agg (enc .edit q)),(2,.agg (enc .tree t))] []) Q:=
 Eq.mpr (by kernel_rfl) (h _ (Zd _) _ (Zd _) _ (Zc _) _ (Zd _) _ (Zd _) _ (Zc _) _ (Zc _) _ (Zc _) _ (Zc _))
def Zyp(p q:Edit)(t:Tree):Prop:=AW (Z6 ZtI) Try.f8 lv8 [] (Zm (ZtX.can (p,q,t,())) []) (EQ Try.f8 (ZxC (p,q,t,())) [])
theorem ZxJ(c15:CT 15 Zb8)(c26:CT 26 Z1L)(c29:CT 29 Zb6)(c33:CT 33 Zb5)(c34:CT 34 Zb4)(c35:CT 35 Z3S)(hb:∀ (p:Edit) (q:Edit) (t:Tree) (_:Unit),Zut (p,q,t,())->Zyp p q t):CT 8 Zj6:=
 Z4 (l:=[(15,Zb8),(26,Z1L),(29,Zb6),(33,Zb5),(34,Zb4),(35,Z3S)]) Zn rfl (⟨c15,c26,c29,c33,c34,c35,trivial⟩) lv8 Try.func8 rfl rfl 3 (fun _=> rfl) (by decide) (fun ⟨p,q,t,_⟩=> hb p q t ())
end
theorem Z6W{e:Edit}(h:Z0d e):Z1d (e,()):=by
 have:=Z0H h
 exact ⟨by dsimp only;omega,h.2.2⟩
set_option maxHeartbeats 1000000 in
theorem c35:Contract Try.prog cfg 35 Z3S:=by
 refine ZuR Zvq.1 c77 ?_
 intro p q _ hp
 have hp:ZlO p q:=hp
 obtain ⟨⟨h1,h2⟩,h3,h4⟩:=Zex hp
 have fin:∀ {X Y:Edit} {n:Int} {s:LSt U},lbN p q=(X,Y,n)->YM cfg Try.f35.ntmps Try.f35.results.toList (.tup [(true,enc .edit X),(true,enc .edit Y),(false,[.int .i64 n])]) [] .ret s->YM cfg Try.f35.ntmps Try.f35.results.toList (Zjt (p,q,())) [] .ret s:=by
  intro X Y n s h hs
  refine Zsr ?_ hs
  simp only [Zjt]
  rw [h]
  try rfl
 have eN:=lbN.eq_1 p q
 refine ZyN _ _ _ ?_
 intro y1 e1 y2 e2 y3 e3 y4 e4 y5 e5 y6 e6
 subst e1 e2
 rw [<-e3] at h1
 rw [<-e4] at h2
 rw [<-e3,<-e4] at h3 h4 eN
 generalize hL:lbE y3 y4=L at h3 h4 eN e5 e6 ⊢
 simp only [XP]
 refine ⟨Z6W hp.1,Z6W hp.2.1,⟨h1,h2⟩,fun ha=> fin (by rw [eN,if_pos ha]) (by (repeat' (first | exact trivial | exact rfl | apply And.intro))),fun ha=> ⟨fun hc=> fin (by rw [eN,if_neg (by rw [ha];decide),if_pos hc]) (by (repeat' (first | exact trivial | exact rfl | apply And.intro))),fun hc=> ⟨by rw [e5];exact Z6W h3,by rw [e6];exact Z6W h4,?_⟩⟩⟩
 exact fin (by rw [eN,if_neg (by rw [ha];decide),if_neg (by rw [hc];decide),<-e5,<-e6]) (by (repeat' (first | exact trivial | exact rfl | apply And.intro)))
theorem Zve{p q:Edit}(h:ZlO p q):Z0d (lbN p q).1/\Z0d (lbN p q).2.1:=by
 obtain ⟨_,h3,h4⟩:=Zex h
 unfold lbN
 split
 ·exact ⟨Z43,Z43⟩
 ·split
  ·exact ⟨Z43,Z43⟩
  ·exact ⟨Z6U h3,Z6U h4⟩
theorem c33:Contract Try.prog cfg 33 Zb5:=by
 refine ZuT c36 c37 ?_
 intro t _ hp
 simp only [Zby] at hp
 refine ZyP _ _ ?_
 (simp only [Tree.eta,Edit.eta,Tree.kind_mk,Tree.words_mk,Tree.kids_mk])
 (simp only [vcT,vcS])
 refine ⟨by simp only [ZjF];exact hp.1,fun h=> by simp only [Z45];exact ⟨X2 (ZdI h) (by decide),hp.2,by omega,by omega⟩,Ze rfl ?_⟩
 unfold Z4s
 rw [QC]
 simp only [ZiI,Q0,decide_eq_true_eq,bne_iff_ne]
def Zci:Edit:= .mk 3 Tree.nil Tree.nil [] [] 4 [⟨2,0,[at1 1],Edit.nil⟩,⟨0,1,[],Edit.nil⟩]
def Zcj:Edit:= .mk 3 Tree.nil Tree.nil [] [] 4 [⟨0,1,[],Edit.nil⟩,⟨2,0,[at1 2],Edit.nil⟩]
theorem Z55:Z5 Zci 64=true/\Z5 Zcj 64=true:=⟨rfl,rfl⟩
theorem ZkG:Yl Zci/\Yl Zcj:=by
 have z:=Z0G
 have i0:InR 0:=YK (by decide) (by decide)
 have zn:Yl Edit.nil:=⟨i0,z,z,by simp,i0,trivial,trivial⟩
 have at_:∀ n:Int,isW n->rng (at1 n):=fun n h=> ⟨⟨by decide,by decide⟩,fun x hx=> by rw [Qj.1 hx];exact h,trivial⟩
 refine ⟨⟨YK (by decide) (by decide),z,z,by simp,YK (by decide) (by decide),trivial,⟨YK (by decide) (by decide),i0,⟨at_ 1 (by unfold isW;omega),trivial⟩,zn⟩,⟨i0,YK (by decide) (by decide),trivial,zn⟩,trivial⟩,
  ⟨YK (by decide) (by decide),z,z,by simp,YK (by decide) (by decide),trivial,⟨i0,YK (by decide) (by decide),trivial,zn⟩,⟨YK (by decide) (by decide),i0,⟨at_ 2 (by unfold isW;omega),trivial⟩,zn⟩,trivial⟩⟩
theorem ZkH:Zx Zci=Zci/\Zx Zcj=Zcj:=by
 unfold Zci Zcj
 rw [ZeS,ZeS]
 exact ⟨rfl,rfl⟩
theorem Zpz:lbN Zci Zcj=(.mk 3 Tree.nil Tree.nil [] [] 4 [⟨2,0,[at1 1],Edit.nil⟩,⟨0,2,[],Edit.nil⟩],.mk 3 Tree.nil Tree.nil [] [] 4 [⟨0,2,[],Edit.nil⟩,⟨2,0,[at1 2],Edit.nil⟩],0):=by
 have L0:Lay lbE [] [] [] [at1 2] (Jb [] [at1 2]):= .nil _ _
 have L1:Lay lbE [] [⟨2,0,[at1 2],Edit.nil⟩] [] [] (Jb [] [at1 2]):= .right (fun a ha=> by cases ha) rfl L0
 have t:∀ r:List Op,Zw (⟨0,1,[],Edit.nil⟩ ::r) 1=r/\Zq ⟨0,1,[],Edit.nil⟩ 1=⟨0,1,[],Edit.nil⟩:=by
  intro r
  simp [Zw,Zq,Z1]
 have L2:=Lay.both (f:=lbE) (a:=⟨0,1,[],Edit.nil⟩) (p:=[]) (b:=⟨0,1,[],Edit.nil⟩) (q:=[⟨2,0,[at1 2],Edit.nil⟩]) (m:=[at1 1]) (h:=[]) (n:=1) (by decide) (by decide) (by simp [Z1]) (by rw [(t _).1,(t _).1];exact L1)
 have L3:Lay lbE Zci.ops Zcj.ops [] [] _:= .left rfl L2
 obtain ⟨b,ps,e1,e2⟩:=Zf1 L3 []
 rw [(t []).2] at e2
 have e3:Z0I lbE ps [] []=⟨[⟨2,0,[at1 1],Edit.nil⟩,⟨0,1,[],Edit.nil⟩,⟨0,1,[],Edit.nil⟩],[⟨0,1,[],Edit.nil⟩,⟨0,1,[],Edit.nil⟩,⟨2,0,[at1 2],Edit.nil⟩],false,false⟩:=by
  rw [<-e2,pL0 rfl (by decide)]
  simp [Jb,Z2Z,JA,PL.app]
 have hl:lbE Zci Zcj=⟨.mk 3 Tree.nil Tree.nil [] [] 4 [⟨2,0,[at1 1],Edit.nil⟩,⟨0,1,[],Edit.nil⟩,⟨0,1,[],Edit.nil⟩],.mk 3 Tree.nil Tree.nil [] [] 4 [⟨0,1,[],Edit.nil⟩,⟨0,1,[],Edit.nil⟩,⟨2,0,[at1 2],Edit.nil⟩],false,false⟩:=by
  rw [ZgU Z55.1 Z55.2,lb3 (p:=Zci) (q:=Zcj) rfl (by decide) (by decide) (by decide) rfl]
  unfold Z2v
  rw [if_pos b,e1,QN,e3]
  try rfl
 unfold lbN
 rw [ZkH.1,ZkH.2,hl]
 show (Zx _,Zx _,(0:Int))=_
 rw [ZeS,ZeS]
 try rfl
theorem c34:Contract Try.prog cfg 34 Zb4:=by
 refine ZuS c35 ?_
 intro _ _
 refine ZyO _ ?_
 intro y1 h1 y2 h2 y3 h3 y4 h4 y5 h5 y6 h6
 have e1:y1=Edit.nil:=h1
 subst e1
 have e2:y2=Zcj:=h2
 have e3:y3=Zci:=h3
 subst e2 e3
 rw [Zpz] at*
 subst h4 h5 h6
 have m1:Z8 Zci<=20000:=by decide
 have m2:Z8 Zcj<=20000:=by decide
 refine ⟨ZjA Z55.1 Z55.2 ZkG.1 ZkG.2 rfl rfl m1 m2,?_⟩
 simp only [Tr]
 repeat' (first | exact (fun x=> x) | exact (fun _=> ⟨by decide,by decide⟩) | exact Ze rfl rfl | apply And.intro)
theorem Zcm{e:Edit}(h:Ji e=true):Y6 e=true:=by simp only [Ji,Q0] at h;exact h.2
theorem Zhd{e:Edit}{t u:Tree}(h:doE false e t=some u):JK ((doE false e t).map Z2)=Z2 u:=by rw [h];try rfl
set_option maxHeartbeats 1000000 in
theorem c8:Contract Try.prog cfg 8 Zj6:=by
 refine ZxJ c15 c26 c29 c33 c34 c35 ?_
 intro p q t _ hp
 obtain ⟨hp1,hp2,hs,hr⟩:=hp
 refine vc8 _ _ _ _ ?_
 intro y1 h1 y2 h2 y3 h3 y4 h4 y5 h5 y6 h6 y7 h7 y8 h8 y9 h9
 subst h1 h2 h3
 (simp only [vcT,vcS])
 have M:∀ {e:Edit} {t:Tree},Ji e=true->Yl e->Z4s t=true->Zi (JK ((doE false e t).map Z2))<=1000000000000:=by
  intro e t ge re gt
  obtain ⟨_,m,r⟩:=Zcl ge re
  have:=ZkK gt
  have:=Z5n e
  exact Z6e ⟨64,r⟩ (by omega)
 have T:∀ {e:Edit} {t:Tree},Ji e=true->Yl e->Z4s t=true->rng t->Zby (JK ((doE false e t).map Z2),()):=fun ge re gt rt=>
  ⟨Z5z _ (X2 (M ge re gt) (by decide)),Z85 re rt⟩
 refine ⟨hp1,fun _=> hp2,fun _=> ⟨hs,hr⟩,fun _=> ⟨trivial,Ze rfl rfl⟩,fun hg=> ?_⟩
 obtain ⟨⟨g1,g2⟩,g3⟩:=hg
 obtain ⟨_,m1,r1⟩:=Zcl g1 hp1.2
 obtain ⟨_,m2,r2⟩:=Zcl g2 hp2.2
 have m3:=ZkK g3
 have rt:=(ZpC g3 hr).2.1
 have q1:=Zgm (t:=y3) g1 hp1.2 (by omega) hr
 have q2:=Zgm (t:=y3) g2 hp2.2 (by omega) hr
 refine ⟨q1,q2,fun _=> by rw [h6];exact T g1 hp1.2 g3 hr,fun _=> by rw [h7];exact T g2 hp2.2 g3 hr,fun _=> ⟨trivial,Ze rfl rfl⟩,fun hh=> ?_⟩
 obtain ⟨⟨⟨s1,s2⟩,g6⟩,g7⟩:=hh
 obtain ⟨u,hu⟩:=ZfR s1
 obtain ⟨v,hv⟩:=ZfR s2
 have rb:=ZjA r1 r2 hp1.2 hp2.2 (Zcm g1) (Zcm g2) (by omega) (by omega)
 have m6:=ZkK g6
 have m7:=ZkK g7
 have r6:rng y6:=by rw [h6];exact Z85 hp1.2 hr
 have r7:rng y7:=by rw [h7];exact Z85 hp2.2 hr
 have o:=Zve rb
 rw [<-h4,<-h5] at o
 have S:=Zvd rb rt hu hv
 rw [<-h4,<-h5,<-Zhd hu,<-Zhd hv,<-h6,<-h7] at S
 have P:∀ {e:Edit} {t:Tree},Z0d e->Zi t<=3000->rng t->Z2N (e,t,()):=by
  intro e t he mt rt
  have:=Z0H he
  have:=he.1
  exact ⟨⟨by dsimp only;omega,he.2⟩,by dsimp only;omega,rt⟩
 refine ⟨rb,fun hn=> ⟨fun _=> trivial,?_⟩,fun hz=> ⟨P o.2 m6 r6,P o.1 m7 r7,fun _=> ?_,fun _=> trivial,?_⟩⟩
 ·rcases S with e | ⟨e,_⟩
  ·rw [e];exact Ze rfl rfl
  ·exact absurd e hn
 ·show Zi y9<=_
  have q:=P o.2 m6 r6
  rw [h9]
  exact Z6e q.1.2.2 q.2.1
 ·rcases S with e | ⟨_,w1,w2,k1,k2,k3⟩
  ·rw [hz] at e;cases e
  ·rw [h9,h8,k1,k2]
   have:ZT (JK (Option.map Z2 (some w1))) (JK (Option.map Z2 (some w2)))=true:=Z84.2 k3
   rw [this]
   exact Ze rfl rfl
end Go.AM.Ytpjenobkibfpcaa
