import Derived.Test.YtpjenobkibfpcaaCB30b
import Derived.Test.YtpjenobkibfpcaaCL30d
import Derived.Test.YtpjenobkibfpcaaCB30a
import Derived.Test.YtpjenobkibfpcaaKL23r
import Derived.Test.YtpjenobkibfpcaaCD25s
set_option linter.unusedSimpArgs false
set_option linter.unusedVariables false
namespace Go.AM.Ytpjenobkibfpcaa
open Go.AM Go.Proofs
theorem ZjY(m:Int):0<=Z3O m/\Z3O m < 256:=by
 unfold Z3O
 have h:=(BitVec.ofInt (IntKind.bits .u8) 255 ^^^ BitVec.ofInt (IntKind.bits .u8) m).isLt
 have e:(2:Nat) ^ IntKind.bits .u8=256:=rfl
 rw [Z4H (by omega) (by omega)]
 omega
theorem b77:ZyB:=by
 intro N mc ma p q _ hp hN
 obtain ⟨op,oq⟩:=hp
 dsimp only at op oq
 have hN':8*(Z8 p+Z8 q)+1 < N+1:=hN
 obtain ⟨dp,rp⟩:=op.2.2
 obtain ⟨dq,rq⟩:=oq.2.2
 have hst:=Zh3 rp rq
 unfold Ye at hst
 have lp:=ZdK p
 have lq:=ZdK q
 have gp:=ZR op.2.1
 have gq:=ZR oq.2.1
 have cp:=Z4E p;have cq:=Z4E q;have cp':=op.1;have cq':=oq.1
 have fin:∀ {L:Lft} {s:LSt U},lbE p q=L->YN cfg Try.f77.ntmps Try.f77.results.toList (.tup [(true,enc .edit L.x),(true,enc .edit L.y)]) [[.bool (mc || L.c),.bool (ma || L.a)]] .ret s->
   YN cfg Try.f77.ntmps Try.f77.results.toList (Zgl ((mc,ma,()),p,q,())) (Zbu ((mc,ma,()),p,q,())) .ret s:=by
  intro L s h hs
  subst h
  exact hs
 have wh:∀ {e:Edit} {o n:Tree},Z0e e->Zi o<=10000000000->rng o->Zi n<=10000000000->Z8q ((mc,ma,()),e,o,n,()):=by
  intro e o n he ho hr hn
  have:=Z0H he
  have:=he.1
  exact ⟨⟨by dsimp only;omega,he.2⟩,⟨by dsimp only;omega,hr⟩,by dsimp only;omega⟩
 refine ZyN N mc ma p q _ ?_
 intro y1 h1 y2 h2 y3 h3 y4 h4 y5 h5 y6 h6
 replace h1:=h1.symm;replace h2:=h2.symm;replace h3:=h3.symm;replace h4:=h4.symm;replace h5:=h5.symm;replace h6:=h6.symm
 subst h1 h2 h3 h4 h5 h6
 (simp only [vcT,vcS])
 refine ⟨fun h0=> ?_,fun h0=> ?_⟩
 ·exact fin (by rw [hst,if_pos h0]) (by simp only [Qx];(repeat' (first | exact trivial | exact rfl | apply And.intro)))
 rw [if_neg (by rintro (h | h);exact h0.1 h;exact h0.2 h)] at hst
 refine ⟨fun p1=> ?_,fun p1=> ?_⟩
 ·rw [if_pos p1] at hst
  exact ⟨wh oq (by omega) gp.1 (by omega),trivial,fin hst (by (repeat' (first | exact trivial | exact rfl | apply And.intro)))⟩
 rw [if_neg p1] at hst
 refine ⟨fun q1=> ?_,fun q1=> ?_⟩
 ·rw [if_pos q1] at hst
  exact ⟨wh op (by omega) gq.1 (by omega),trivial,fin hst (by (repeat' (first | exact trivial | exact rfl | apply And.intro)))⟩
 rw [if_neg q1] at hst
 refine ⟨fun hd=> ?_,fun hd=> ?_⟩
 ·rw [if_pos (by omega)] at hst
  exact ⟨trivial,fin hst (by simp only [Qx,Xo];(repeat' (first | exact trivial | exact rfl | apply And.intro)))⟩
 rw [if_neg (by omega)] at hst
 refine ⟨fun p2=> ?_,fun p2=> ?_⟩
 ·rw [if_pos p2] at hst
  exact ⟨⟨op,oq,by dsimp only;omega,by dsimp only;omega⟩,by show 8*(Z8 p+Z8 q) < N;omega,fin hst (by (repeat' (first | exact trivial | exact rfl | apply And.intro)))⟩
 ·rw [if_neg p2] at hst
  have kp:=(Zk rp).kind
  exact ⟨⟨op,oq,by dsimp only;omega,by dsimp only;omega⟩,by show 8*(Z8 p+Z8 q) < N;omega,fin hst (by (repeat' (first | exact trivial | exact rfl | apply And.intro)))⟩
theorem Zhe(m h:List Tree):(Jc m h).x.length<=2/\(Jc m h).y.length<=2:=by
 unfold Jc
 have:=Z59 m.length;have:=Z59 h.length;have:=Z7r m;have:=Z7r h
 split <;> (simp only [Q9];omega)
theorem Zic(f:Edit->Edit->Lft)(p q:Op):(ZA f p q).x.length<=1/\(ZA f p q).y.length<=1:=by
 unfold ZA
 split;· simp
 split;· simp
 split;· simp
 split;· simp
 split;· simp
 split;· simp
 split <;> simp
structure LInv (f:Edit->Edit->Lft) (mc ma:Bool) (ps:List Piece) (i:Int) (c a:Bool) (m h:List Tree) (x y:List Op):Prop where
 i0:0<=i
 il:i<=ps.length
 ec:(mc || (Z0I f ps [] []).c)=(c || (Z0I f (ps.drop i.toNat) m h).c)
 ea:(ma || (Z0I f ps [] []).a)=(a || (Z0I f (ps.drop i.toNat) m h).a)
 ex:(Z0I f ps [] []).x=x++(Z0I f (ps.drop i.toNat) m h).x
 ey:(Z0I f ps [] []).y=y++(Z0I f (ps.drop i.toNat) m h).y
 lx:(x.length:Int)<=3*i
 ly:(y.length:Int)<=3*i
 km:((Z7 m:Nat):Int)+YE φC (Z5H (ps.drop i.toNat))<=YE φC (Z5H ps)
 kh:((Z7 h:Nat):Int)+YE φC (Z5G (ps.drop i.toNat))<=YE φC (Z5G ps)
theorem cnn(o:Op):((Z7 o.l:Nat):Int)<=φC o:=by unfold φC;have:=ZpZ o.e;omega
theorem Zea:∀ l:List Op,0<=YE φC l
 | []=> X2 _
 | o ::r=> by have:=Zea r;have:=cnn o;simp only [YE];omega
theorem LInv.step{f:Edit->Edit->Lft}{mc ma:Bool}{ps:List Piece}{i:Int}{c a:Bool}{m h:List Tree}{x y:List Op}(H:LInv f mc ma ps i c a m h x y)(hi:i < ps.length)(z:Piece)(X:Piece)(hX:X=ps.getD i.toNat z):
  (X.of=1->LInv f mc ma ps (i+1) c a (m++X.p.l) h x y)/\(¬X.of=1->X.of=2->LInv f mc ma ps (i+1) c a m (h++X.q.l) x y)/\
  (¬X.of=1->¬X.of=2->LInv f mc ma ps (i+1) ((c || (Jc m h).c) || (ZA f X.p X.q).c) (a || (ZA f X.p X.q).a) [] [] ((x++(Jc m h).x)++(ZA f X.p X.q).x) ((y++(Jc m h).y)++(ZA f X.p X.q).y)):=by
 have hd:=J5 H.i0 hi z
 rw [<-hX] at hd
 have h0:=H.i0
 obtain ⟨_,_,ec,ea,ex,ey,lx,ly,km,kh⟩:=H
 rw [hd] at ec ea ex ey km kh
 simp only [Z0I] at ec ea ex ey
 simp only [Z5H,Z5G] at km kh
 have np:=cnn X.p;have nq:=cnn X.q
 refine ⟨fun e=> ?_,fun e1 e2=> ?_,fun e1 e2=> ?_⟩
 ·rw [if_pos e] at ec ea ex ey
  rw [if_neg (by omega),XJ,YE] at km
  rw [if_pos e,QO] at kh
  exact ⟨by omega,by omega,ec,ea,ex,ey,by omega,by omega,by rw [Yu];omega,kh⟩
 ·rw [if_neg e1,if_pos e2] at ec ea ex ey
  rw [if_pos e2,QO] at km
  rw [if_neg e1,XJ,YE] at kh
  exact ⟨by omega,by omega,ec,ea,ex,ey,by omega,by omega,km,by rw [Yu];omega⟩
 ·rw [if_neg e1,if_neg e2] at ec ea ex ey
  rw [if_neg e2,XJ,YE] at km
  rw [if_neg e1,XJ,YE] at kh
  simp only [PL.app] at ec ea ex ey
  obtain ⟨g1,g2⟩:=Zhe m h
  obtain ⟨g3,g4⟩:=Zic f X.p X.q
  have ga:(Jc m h).a=false:=by unfold Jc;split <;> rfl
  rw [ga,XQ] at ea
  refine ⟨by omega,by omega,?_,?_,?_,?_,?_,?_,?_,?_⟩
  ·rw [ec];simp only [XF]
  ·rw [ea,XF]
  ·rw [ex];simp only [Qa]
  ·rw [ey];simp only [Qa]
  ·simp only [Q9];omega
  ·simp only [Q9];omega
  ·simp only [Z7];omega
  ·simp only [Z7];omega
theorem Zm1{p q:List Op}(hp:Zrf p)(hq:Zrf q){x:Piece}(h:POk2 p q x):(x.of≠2->Zef x.p)/\(x.of≠1->Zef x.q):=by
 refine ⟨fun e=> ?_,fun e=> ?_⟩
 ·obtain ⟨a,b⟩:=h.pp e
  exact ⟨b,X4 (Zas a).1 hp.1,Zgz a b hp.2.1,ZbW a hp.2.2⟩
 ·obtain ⟨a,b⟩:=h.qq e
  exact ⟨b,X4 (Zas a).1 hq.1,Zgz a b hq.2.1,ZbW a hq.2.2⟩
theorem Zwc:Zuj:=by
 intro N mc ma p q _ hp hN
 obtain ⟨op,oq,kp3,kq3⟩:=hp
 dsimp only at op oq kp3 kq3
 have hN':8*(Z8 p+Z8 q) < N+1:=hN
 have rop:=ZjJ op
 have roq:=ZjJ oq
 have kp:=ZtC rop
 have kq:=ZtC roq
 have lp:=ZdK p
 have lq:=ZdK q
 obtain ⟨i1,_⟩:=Zdv _ p.ops q.ops [] (Qh _) kp.1 kq.1
 have fin:∀ {L:Lft} {s:LSt U},Z2w lbE p q=L->YN cfg Try.f115.ntmps Try.f115.results.toList (.tup [(true,enc .edit L.x),(true,enc .edit L.y)]) [[.bool (mc || L.c),.bool (ma || L.a)]] .ret s->
   YN cfg Try.f115.ntmps Try.f115.results.toList (Zby ((mc,ma,()),p,q,())) (Z6W ((mc,ma,()),p,q,())) .ret s:=by
  intro L s h hs
  subst h
  exact hs
 refine ZxD N mc ma p q _ ?_
 (simp only [vcT,vcS])
 refine ⟨⟨kp,kq⟩,fun hb=> ⟨trivial,fin (by rw [Z2w,if_neg (by rw [hb];decide)]) (by simp only [Qx,Xo];(repeat' (first | exact trivial | exact rfl | apply And.intro)))⟩,fun hb=> ?_⟩
 obtain ⟨ps,e,hps,_,_⟩:=i1 hb
 obtain ⟨ps1,e1,sp,sq,hlen⟩:=Zon Zub Zub 2 _ p.ops q.ops [] (Qh _) kp.1 kq.1 hb
 rw [e,QO,QO] at e1
 subst e1
 rw [QO] at e
 have hL:Z2w lbE p q=⟨Z0j p.list (Z0I lbE ps [] []).x,Z0j p.list (Z0I lbE ps [] []).y,(Z0I lbE ps [] []).c,(Z0I lbE ps [] []).a⟩:=by rw [Z2w,if_pos hb,e]
 have c1:=ZhM p.ops;have c2:=ZhM q.ops;have c3:=rop.1;have c4:=roq.1
 refine Zb (ι:=Int × Bool × Bool × List Tree × List Tree × List Op × List Op) (fun s=> Z1K mc ma p q s.1 s.2.1 s.2.2.1 s.2.2.2.1 s.2.2.2.2.1 s.2.2.2.2.2.1 s.2.2.2.2.2.2)
  (fun s=> LInv lbE mc ma ps s.1 s.2.1 s.2.2.1 s.2.2.2.1 s.2.2.2.2.1 s.2.2.2.2.2.1 s.2.2.2.2.2.2) (fun s=> ((ps.length:Int) - s.1).toNat) (0,mc,ma,[],[],[],[]) rfl
  ⟨by simp,by simp,by simp,by simp,by simp,by simp,by simp,by simp,by simp [Z7],by simp [Z7]⟩ ?_
 rintro ⟨i,c,a,m,h,x,y⟩ H
 dsimp only at H
 refine Znj N mc ma p q _ _ _ _ _ _ _ _ _ ?_
 intro y1 h1 y2 h2 y3 h3 y4 h4 y5 h5 y6 h6 y7 h7
 rw [e] at h5 ⊢
 replace h6:=h6.symm;replace h7:=h7.symm
 have i0:=H.i0;have il:=H.il;have lx:=H.lx;have ly:=H.ly;have km:=H.km;have kh:=H.kh
 have n1:=Zea (Z5H (ps.drop i.toNat));have n2:=Zea (Z5G (ps.drop i.toNat))
 obtain ⟨g1,g2⟩:=Zhe m h
 (simp only [vcT,vcS])
 refine ⟨fun hi=> ?_,fun hi=> ?_⟩
 ·obtain ⟨s1,s2,s3⟩:=H.step hi _ y5 h5
  have hmem:y5∈ps:=by rw [h5];exact Zl (by omega) _
  have hx:=hps y5 hmem
  obtain ⟨o1,o2⟩:=Zm1 rop roq hx
  have km1:(Z7 y5.p.l:Int)<=9000000000:=by
   rcases hx.of with h | h | h
   ·have:=Z2U y5.p;have:=(o1 (by omega)).2.1;omega
   ·have:=Z2U y5.p;have:=(o1 (by omega)).2.1;omega
   ·rw [hx.pn h];simp [Op.nil,Z7]
  have km2:(Z7 y5.q.l:Int)<=9000000000:=by
   rcases hx.of with h | h | h
   ·have:=Z2U y5.q;have:=(o2 (by omega)).2.1;omega
   ·rw [hx.qn h];simp [Op.nil,Z7]
   ·have:=Z2U y5.q;have:=(o2 (by omega)).2.1;omega
  have q1:=Zv m;have q2:=Zv h;have q3:=Zv y5.p.l;have q4:=Zv y5.q.l
  refine ⟨⟨i0,hi⟩,fun f1=> ⟨by omega,by unfold InR;omega,(i+1,c,a,m++y5.p.l,h,x,y),rfl,s1 f1,by dsimp only;omega⟩,fun f1=> ⟨fun f2=> ⟨by omega,by unfold InR;omega,(i+1,c,a,m,h++y5.q.l,x,y),rfl,s2 f1 f2,by dsimp only;omega⟩,fun f2=> ?_⟩⟩
  have f0:y5.of=0:=by rcases hx.of with h | h | h <;> omega
  obtain ⟨b1,b2,b3⟩:=hx.both f0
  have mp:=(Zas (hx.pp f2).1).2
  have mq:=(Zas (hx.qq f1).1).2
  rw [<-h6,<-h7]
  refine ⟨⟨⟨by dsimp only;omega,by dsimp only;omega⟩,by dsimp only;omega,by dsimp only;omega⟩,⟨⟨o1 f2,o2 f1,b3,b1,b2⟩,by simp only [List.length_append];omega,by simp only [List.length_append];omega⟩,by show 8*(Zt y5.p+Zt y5.q)+2 < N;omega,by unfold InR;omega,
   (i+1,_,_,[],[],_,_),rfl,s3 f1 f2,by dsimp only;omega⟩
 ·have hd:ps.drop i.toNat=[]:=Qn (by omega)
  have ec:=H.ec;have ea:=H.ea;have ex:=H.ex;have ey:=H.ey
  rw [hd] at ec ea ex ey
  simp only [Z0I] at ec ea ex ey
  have ga:(Jc m h).a=false:=by unfold Jc;split <;> rfl
  rw [ga,Qx] at ea
  refine ⟨⟨⟨by dsimp only;omega,by dsimp only;omega⟩,by dsimp only;omega,by dsimp only;omega⟩,by show (x++_).length<=_;rw [List.length_append];omega,by show (y++_).length<=_;rw [List.length_append];omega,fin hL ?_⟩
  dsimp only
  rw [ec,ea,ex,ey]
  subst h1 h2 h3 h4
  (repeat' (first | exact trivial | exact rfl | apply And.intro))
theorem Zwb:Zui:=by
 intro N sm_ sx sy si sh p q mc ma _ hp hN
 simp only [Z8m] at hp
 obtain ⟨⟨⟨op,mp,gp,rp⟩,⟨oq,mq,gq,rq⟩,hl,p2,q2⟩,lx,ly⟩:=hp
 have hN':8*(Zt p+Zt q)+2 < N+1:=hN
 have ep:=Z2q p
 have eq:=Z2q q
 have gp':=Z1n gp
 have gq':=Z1n gq
 have ap:=Z2U p
 have aq:=Z2U q
 have kp:=YQ op
 have kq:=YQ oq
 have fin:∀ {L:PL} {s:LSt U},ZA lbE p q=L->YN cfg Try.f160.ntmps Try.f160.results.toList (.tup []) [[.xp 1,.slice (U:=U) .op (sx++L.x) (.own (.x 0 1)),.slice (U:=U) .op (sy++L.y) (.own (.x 0 2)),.slice (U:=U) .tree si (.own (.x 0 3)),.slice (U:=U) .tree sh (.own (.x 0 4))],[.bool (mc || L.c),.bool (ma || L.a)]] .normal s->
   YN cfg Try.f160.ntmps Try.f160.results.toList (Zbw ((sm_,sx,sy,si,sh,()),p,q,(mc,ma,()),())) (Z6T ((sm_,sx,sy,si,sh,()),p,q,(mc,ma,()),())) .normal s:=by
  intro L s h hs
  subst h
  exact hs
 have hc:=ZA.eq_1 lbE p q
 refine Zxn N sm_ sx sy si sh p q mc ma _ ?_
 intro y1 h1 y2 h2 y3 h3 y4 h4 y5 h5 y6 h6 y7 h7 y8 h8 y9 h9 y10 h10 y11 h11
 replace h3:=h3.symm;replace h4:=h4.symm
 subst h1 h2 h3 h4 h7 h8 h9 h10 h11
 simp only [Z0X]
 (simp only [vcT,vcS])
 refine ⟨fun c1=> ?_,fun c1=> ?_⟩
 ·rw [if_pos c1] at hc
  exact ⟨by simp only [Qb,Qg];omega,⟨by omega,by simp only [Q9,Qb,Qg];omega⟩,by omega,fin hc (by simp only [Qx,Qr];(repeat' (first | exact trivial | exact rfl | apply And.intro)))⟩
 rw [if_neg (by omega)] at hc
 refine ⟨fun c2=> ?_,fun c2=> ?_⟩
 ·rw [if_pos c2] at hc
  exact ⟨by simp only [Qb,Qg];omega,⟨by omega,by simp only [Q9,Qb,Qg];omega⟩,by omega,fin hc (by simp only [Qx,Qr];(repeat' (first | exact trivial | exact rfl | apply And.intro)))⟩
 rw [if_neg (by omega)] at hc
 refine ⟨fun c3=> ?_,fun c3=> ?_⟩
 ·rw [if_pos c3] at hc
  exact ⟨by simp only [Qb,Qg];omega,by simp only [Qb,Qg];omega,fin hc (by simp only [Qx];(repeat' (first | exact trivial | exact rfl | apply And.intro)))⟩
 rw [if_neg c3] at hc
 refine ⟨fun c4=> ?_,fun c4=> ?_⟩
 ·rw [if_pos c4] at hc
  exact ⟨by simp only [Qb,Qg];omega,by simp only [Qb,Qg];omega,fin hc (by simp only [Qx];(repeat' (first | exact trivial | exact rfl | apply And.intro)))⟩
 rw [if_neg c4] at hc
 refine ⟨fun c5=> ⟨⟨by dsimp only;omega,by dsimp only;omega⟩,fun he=> ?_,fun he=> ?_⟩,fun c5=> ?_⟩
 ·rw [if_pos c5,Z6s,he] at hc
  exact fin hc (by simp only [XB,Qx,Xo,Qr];(repeat' (first | exact trivial | exact rfl | apply And.intro)))
 ·rw [if_pos c5,Z6s,he] at hc
  exact fin hc (by simp only [Xq,Qx,Qr];(repeat' (first | exact trivial | exact rfl | apply And.intro)))
 rw [if_neg (by omega)] at hc
 refine ⟨fun c6=> ?_,fun c6=> ?_⟩
 ·rw [if_pos c6] at hc
  have l1:=Z20 op (.inl c6)
  have l2:=Z0k (o:=y2) (by unfold kOk at kq;omega)
  have hp0:0 < y1.l.length:=by omega
  have m3:y5∈y1.l:=by rw [h5];exact Zl hp0 _
  have m3':=JJ m3
  have rk:Z0e y2.e:=⟨by omega,gq'.2.2.2,rq (by unfold kOk at kq;omega)⟩
  have:=Z0H rk
  rw [show y1.l.getD 0 Tree.nil=y5 from h5.symm] at hc
  exact ⟨⟨by omega,by omega⟩,⟨⟨by dsimp only;omega,rk.2⟩,by dsimp only;omega,YY gp'.2.2.1 m3⟩,fin hc (by simp only [Bool.or_true,List.append_nil];(repeat' (first | exact trivial | exact rfl | apply And.intro)))⟩
 rw [if_neg c6] at hc
 have kp3:y1.kind=3:=by unfold kOk at kp;omega
 refine ⟨fun c7=> ?_,fun c7=> ?_⟩
 ·rw [if_pos c7] at hc
  have l1:=Z20 oq (.inl c7)
  have l2:=Z0k (o:=y1) kp3
  have hp0:0 < y2.l.length:=by omega
  have m3:y6∈y2.l:=by rw [h6];exact Zl hp0 _
  have m3':=JJ m3
  have rk:Z0e y1.e:=⟨by omega,gp'.2.2.2,rp kp3⟩
  have:=Z0H rk
  rw [show y2.l.getD 0 Tree.nil=y6 from h6.symm] at hc
  exact ⟨⟨by omega,by omega⟩,⟨⟨by dsimp only;omega,rk.2⟩,by dsimp only;omega,YY gq'.2.2.1 m3⟩,fin hc (by simp only [Bool.or_true,List.append_nil];(repeat' (first | exact trivial | exact rfl | apply And.intro)))⟩
 rw [if_neg c7] at hc
 have k1:Z0e y1.e:=⟨by omega,gp'.2.2.2,rp kp3⟩
 have k2:Z0e y2.e:=⟨by omega,gq'.2.2.2,rq (by unfold kOk at kq;omega)⟩
 refine ⟨⟨k1,k2⟩,?_,trivial,by simp only [Qb,Qg];omega,trivial,by simp only [Qb,Qg];omega,fin hc (by (repeat' (first | exact trivial | exact rfl | apply And.intro)))⟩
 show 8*(Z8 y1.e+Z8 y2.e)+1 < N
 rw [ZV,ZV] at hN'
 omega
set_option maxHeartbeats 1000000 in
theorem Zwd:Zuk:=by
 intro N mc ma p q _ hp hN
 obtain ⟨op,oq,kp2,kq2⟩:=hp
 dsimp only at op oq kp2 kq2
 have hN':8*(Z8 p+Z8 q) < N+1:=hN
 have lp:=ZdK p
 have lq:=ZdK q
 have mp:=Z0H op
 have mq:=Z0H oq
 have wk:∀ {e:Edit},Z0e e->∀ w∈e.words,wOk w:=by
  intro e h w hw
  obtain ⟨d,hr⟩:=h.2.2
  have a:=Z07 (Zk hr).words w hw
  exact ⟨(ZR h.2.1).2.2.1 w hw,a.2.2.2.1,a.2.2.2.2⟩
 have kk:∀ {e:Edit},Z0e e->∀ k∈e.kids,Z0e k.e/\Z8 k.e < Z8 e:=by
  intro e h k hk
  obtain ⟨d,hr⟩:=h.2.2
  have c:=ZcG hk
  have:=Z4E e
  have:=h.1
  exact ⟨⟨by omega,(Ys (ZR h.2.1).2.2.2.1 hk).2,_,(Zs (Zk hr).kids k hk).2⟩,Y5 hk⟩
 have lkp:=J8 p.kids;have lkq:=J8 q.kids
 have fin:∀ {L:Lft} {s:LSt U},Z3N lbE p q=L->YN cfg Try.f114.ntmps Try.f114.results.toList (.tup [(true,enc .edit L.x),(true,enc .edit L.y)]) [[.bool (mc || L.c),.bool (ma || L.a)]] .ret s->
   YN cfg Try.f114.ntmps Try.f114.results.toList (Zbz ((mc,ma,()),p,q,())) (Z6X ((mc,ma,()),p,q,())) .ret s:=by
  intro L s h hs
  subst h
  exact hs
 refine ZxE N mc ma p q _ ?_
 refine ⟨by show p.words.length<=_;omega,by show q.words.length<=_;omega,?_⟩
 let WI:=SInv WEdit.at_ Z0r Z0r (fun a b=> !Yj a b && JY a b) Yj mc ma p.words q.words
 refine Zb (ι:=Int × Bool × Bool × List WEdit × List WEdit) (fun s=> Z5i mc ma p q s.1 s.2.1 s.2.2.1 s.2.2.2.1 s.2.2.2.2)
  (fun s=> (0<=s.1/\s.1<=p.words.length)/\WI s.1.toNat 0 s.2.1 s.2.2.1 s.2.2.2.1 s.2.2.2.2) (fun s=> ((p.words.length:Int) - s.1).toNat) (0,mc,ma,p.words,q.words) rfl ⟨⟨by dsimp only;omega,by dsimp only;omega⟩,SInv.init⟩ ?_
 rintro ⟨i,c,a,X,Y⟩ ⟨⟨i0,il⟩,H⟩
 dsimp only at i0 il H
 refine Znn N mc ma p q _ _ _ _ _ _ _ ?_
 dsimp only
 refine ⟨fun hi=> ?_,fun hi=> ?_⟩
 ·replace hi:=of_decide_eq_true hi
  refine ⟨⟨i0,hi⟩,?_⟩
  refine Zb (ι:=Int × Bool × Bool × List WEdit × List WEdit) (fun s=> Z5h mc ma p q i s.1 s.2.1 s.2.2.1 s.2.2.2.1 s.2.2.2.2)
   (fun s=> (0<=s.1/\s.1<=q.words.length)/\WI i.toNat s.1.toNat s.2.1 s.2.2.1 s.2.2.2.1 s.2.2.2.2) (fun s=> ((q.words.length:Int) - s.1).toNat) (0,c,a,X,Y) rfl ⟨⟨by dsimp only;omega,by dsimp only;omega⟩,H⟩ ?_
  clear H
  clear c a X Y
  rintro ⟨j,c,a,X,Y⟩ ⟨⟨j0,jl⟩,H⟩
  dsimp only at j0 jl H
  have lx:=H.lx
  have ly:=H.ly
  refine Znm N mc ma p q _ _ _ _ _ _ _ _ _ ?_
  intro y1 h1 y2 h2 y3 h3 y4 h4 y5 h5 y6 h6
  replace h3:=h3.symm;replace h4:=h4.symm
  subst h3 h4
  (simp only [vcT,vcS])
  try dsimp only at*
  refine ⟨fun hj=> ⟨⟨j0,hj⟩,fun he=> ?_,fun he=> ?_⟩,fun hj=> ?_⟩
  ·have st:=(H.step (by omega) (by omega) ⟨0,0,0,0⟩).1 (by rw [<-h1,<-h2];exact he)
   rw [<-h1,<-h2] at st
   have m1:y1∈p.words:=by rw [h1];exact Zl (by omega) _
   have m2:y2∈q.words:=by rw [h2];exact Zl (by omega) _
   subst h5 h6
   refine ⟨⟨wk op _ m1,wk oq _ m2⟩,⟨wk op _ m1,ZjY _⟩,⟨i0,by omega⟩,X9 _,⟨wk oq _ m2,ZjY _⟩,⟨j0,by omega⟩,X9 _,?_⟩
   refine ZfR N mc ma p q _ _ _ _ _ _ _ _ _ _ ⟨by unfold InR;omega,(j+1,_,_,_,_),rfl,⟨⟨by dsimp only;omega,by dsimp only;omega⟩,?_⟩,by dsimp only;omega⟩
   rw [show (j+1).toNat=j.toNat+1 by omega]
   exact st
  ·have st:=(H.step (by omega) (by omega) ⟨0,0,0,0⟩).2 (by rw [<-h1,<-h2];exact he)
   refine ZfR N mc ma p q _ _ _ _ _ _ _ _ _ _ ⟨by unfold InR;omega,(j+1,_,_,_,_),rfl,⟨⟨by dsimp only;omega,by dsimp only;omega⟩,?_⟩,by dsimp only;omega⟩
   rw [show (j+1).toNat=j.toNat+1 by omega]
   exact st
  ·refine ⟨by unfold InR;omega,(i+1,_,_,_,_),rfl,⟨⟨by dsimp only;omega,by dsimp only;omega⟩,?_⟩,by dsimp only;omega⟩
   rw [show (i+1).toNat=i.toNat+1 by omega]
   rw [show j.toNat=q.words.length by omega] at H
   exact H.next (by omega)
 replace hi:=of_decide_eq_false hi
 rw [show i.toNat=p.words.length by omega] at H
 obtain ⟨ec,ea,eX,eY⟩:=H.fin
 refine ⟨by show p.kids.length<=_;omega,by show q.kids.length<=_;omega,?_⟩
 let KI:=SInv KidOf.at_ (fun a b:Kid=> ⟨a.at_,(lbE a.e b.e).x⟩) (fun b a:Kid=> ⟨b.at_,(lbE a.e b.e).y⟩) (fun a b=> (lbE a.e b.e).c) (fun a b=> (lbE a.e b.e).a) c a p.kids q.kids
 refine Zb (ι:=Int × Bool × Bool × List Kid × List Kid) (fun s=> Z5g mc ma p q X Y s.1 s.2.1 s.2.2.1 s.2.2.2.1 s.2.2.2.2)
  (fun s=> (0<=s.1/\s.1<=p.kids.length)/\KI s.1.toNat 0 s.2.1 s.2.2.1 s.2.2.2.1 s.2.2.2.2) (fun s=> ((p.kids.length:Int) - s.1).toNat) (0,c,a,p.kids,q.kids) rfl ⟨⟨by dsimp only;omega,by dsimp only;omega⟩,SInv.init⟩ ?_
 clear H hi il i0
 rintro ⟨i,c1,a1,X1,Y1⟩ ⟨⟨i0,il⟩,H⟩
 dsimp only at i0 il H
 refine Znl N mc ma p q _ _ _ _ _ _ _ _ _ ?_
 intro z1 hz1 z2 hz2
 dsimp only at hz1 hz2 ⊢
 refine ⟨fun hi=> ?_,fun hi=> ?_⟩
 ·replace hi:=of_decide_eq_true hi
  refine ⟨⟨i0,hi⟩,?_⟩
  refine Zb (ι:=Int × Bool × Bool × List Kid × List Kid) (fun s=> Z5f mc ma p q X Y i s.1 s.2.1 s.2.2.1 s.2.2.2.1 s.2.2.2.2)
   (fun s=> (0<=s.1/\s.1<=q.kids.length)/\KI i.toNat s.1.toNat s.2.1 s.2.2.1 s.2.2.2.1 s.2.2.2.2) (fun s=> ((q.kids.length:Int) - s.1).toNat) (0,c1,a1,X1,Y1) rfl ⟨⟨by dsimp only;omega,by dsimp only;omega⟩,H⟩ ?_
  clear H hz1 hz2
  clear c1 a1 X1 Y1
  rintro ⟨j,c1,a1,X1,Y1⟩ ⟨⟨j0,jl⟩,H⟩
  dsimp only at j0 jl H
  have lx:=H.lx
  have ly:=H.ly
  refine Znk N mc ma p q _ _ _ _ _ _ _ _ _ _ _ ?_
  intro y1 h1 y2 h2 y3 h3 y4 h4 y5 h5 y6 h6
  (simp only [vcT,vcS])
  try dsimp only at*
  refine ⟨fun hj=> ⟨⟨j0,hj⟩,fun he=> ?_,fun he=> ?_⟩,fun hj=> ?_⟩
  ·have st:=(H.step (by omega) (by omega) ⟨0,Edit.nil⟩).1 (by rw [<-h1,<-h2];exact he)
   have e1:=H.at_x (fun a b=> rfl) (by omega) ⟨0,Edit.nil⟩
   have e2:=H.at_y (fun a b=> rfl) (by omega) ⟨0,Edit.nil⟩
   rw [<-h1] at e1
   rw [<-h2] at e2
   rw [<-h1,<-h2] at st
   have m1:=kk op y1 (by rw [h1];exact Zl (by omega) _)
   have m2:=kk oq y2 (by rw [h2];exact Zl (by omega) _)
   subst h3 h4 h5 h6
   refine ⟨⟨m1.1,m2.1⟩,by show 8*(Z8 y1.e+Z8 y2.e)+1 < N;omega,⟨i0,by omega⟩,X9 _,⟨j0,by omega⟩,X9 _,?_⟩
   refine ZfQ N mc ma p q _ _ _ _ _ _ _ _ _ _ _ ⟨by unfold InR;omega,(j+1,_,_,_,_),rfl,⟨⟨by dsimp only;omega,by dsimp only;omega⟩,?_⟩,by dsimp only;omega⟩
   rw [show (j+1).toNat=j.toNat+1 by omega]
   dsimp only
   rw [e1,e2]
   exact st
  ·have st:=(H.step (by omega) (by omega) ⟨0,Edit.nil⟩).2 (by rw [<-h1,<-h2];exact he)
   refine ZfQ N mc ma p q _ _ _ _ _ _ _ _ _ _ _ ⟨by unfold InR;omega,(j+1,_,_,_,_),rfl,⟨⟨by dsimp only;omega,by dsimp only;omega⟩,?_⟩,by dsimp only;omega⟩
   rw [show (j+1).toNat=j.toNat+1 by omega]
   exact st
  ·refine ⟨by unfold InR;omega,(i+1,_,_,_,_),rfl,⟨⟨by dsimp only;omega,by dsimp only;omega⟩,?_⟩,by dsimp only;omega⟩
   rw [show (i+1).toNat=i.toNat+1 by omega]
   rw [show j.toNat=q.kids.length by omega] at H
   exact H.next (by omega)
 replace hi:=of_decide_eq_false hi
 rw [show i.toNat=p.kids.length by omega] at H
 have lx:=H.lx;have ly:=H.ly
 obtain ⟨ec1,ea1,eX1,eY1⟩:=H.fin
 have lX:X.length=p.words.length:=by rw [eX,Xl]
 have lY:Y.length=q.words.length:=by rw [eY,Xl]
 refine ⟨⟨by dsimp only;omega,by dsimp only;omega⟩,⟨by dsimp only;omega,by dsimp only;omega⟩,fin rfl ?_⟩
 have e1:(Z3N lbE p q).x=Z2J z1:=by rw [hz1,eX,eX1];try rfl
 have e2:(Z3N lbE p q).y=Z2J z2:=by rw [hz2,eY,eY1];try rfl
 have e3:(mc || (Z3N lbE p q).c)=c1:=by rw [ec1,ec,XF];try rfl
 have e4:(ma || (Z3N lbE p q).a)=a1:=by rw [ea1,ea,XF];try rfl
 rw [e1,e2,e3,e4]
 (repeat' (first | exact trivial | exact rfl | apply And.intro))
theorem Zzd:Contract Try.prog cfg 77 Z89/\Contract Try.prog cfg 114 Zjj/\Contract Try.prog cfg 115 Zji/\Contract Try.prog cfg 160 Zjh:=
 Zry Z9W Zw5 Zw4 Zfp ZvZ ZvY ZvX ZvW ZvV (ZvU Zq1) ZvT ZvS ZvN ZvM b77 Zwd Zwc Zwb
theorem c77:Contract Try.prog cfg 77 Z89:=Zzd.1
noncomputable section
def Zqk:ArgL (Edit × Edit × Unit):=(.cons (aEl .edit) (.cons (aEl .edit) .nil))
def ZjQ(a:Edit × Edit × Unit):Prop:=ZlX a.1 a.2.1
def ZjD(a:Edit × Edit × Unit):V U:= .tup [(true,(enc .edit ((lbN a.1 a.2.1).1))),(true,(enc .edit ((lbN a.1 a.2.1).2.1))),(false,[ci ((lbN a.1 a.2.1).2.2)])]
def Z3V:Fs U:=fs Zqk (fun a=> [ZjQ a]) ZjD
def ZtL(a:Unit):V U:= .c (.bool true)
def Zbc:Fs U:=fs Zlj (fun a=> [Z8p a]) ZtL
def ZbG(a:Tree × Unit):Prop:=Z1Q a.1/\rng a.1
def ZtM(a:Tree × Unit):V U:= .c (.bool (Z4x a.1))
def Zbd:Fs U:=fs Zqj (fun a=> [ZbG a]) ZtM
def Zua:ArgL (Edit × Edit × Tree × Unit):=(.cons (aEl .edit) (.cons (aEl .edit) (.cons (aEl .tree) .nil)))
def ZuH(a:Edit × Edit × Tree × Unit):Prop:=(Z1P a.1/\Yl a.1)/\(Z1P a.2.1/\Yl a.2.1)/\Z1Q a.2.2.1/\rng a.2.2.1
def ZxS(a:Edit × Edit × Tree × Unit):V U:= .c (.bool true)
def Zjg:Fs U:=fs Zua (fun a=> [ZuH a]) ZxS
def ZpE:List (FuncId × Fs U):=[(57,Zb8),(77,Z89)]
def Zvj:Zf U:=lvl [([2,3,4,5],[2,3,4,5]),([2,3,4,5,7],[2,3,4,5,11]),([4,5,7,8,9],[4,5,8,9,11]),([4,5,7,8,9,21],[4,5,8,9,11]),([4,5,6],[4,5]),([4,5,8,9,28],[4,5,8,9]),([4,5,6],[4,5]),([4,5,6],[4,5])]
abbrev A35(p:List Nat):=AW (Z6 ZpE) Try.f35 Zvj p
theorem Zz4(p q:Edit)(Q:QT)(h:∀ y_1,y_1=p->∀ y_2,y_2=q->∀ y_3,y_3=(Zx y_1)->∀ y_4,y_4=(Zx y_2)->∀ y_5,y_5=((lbE y_3 y_4).x)->∀ y_6,y_6=((lbE y_3 y_4).y)->((Z1e (y_1,()))/\(Z1e (y_2,()))/\(ZbE ((false,false,()),y_3,y_4,()))/\(((false || (lbE y_3 y_4).a)=true->(Q .ret (L2 [pL 4,pL 5,pI 6 14] [(.loc 4,zc1),(.loc 5,zc1)])))/\((false || (lbE y_3 y_4).a)=false->(((false || (lbE y_3 y_4).c)=true->(Q .ret (L2 [pL 4,pL 5,pI 6 13] [(.loc 4,zc1),(.loc 5,zc1)])))/\((false || (lbE y_3 y_4).c)=false->(Z1e (y_5,()))/\(Z1e (y_6,()))/\(Q .ret (L2 [pL 4,pL 5,pI 6 0] [(.loc 4,(enc .edit (Zx y_5))),(.loc 5,(enc .edit (Zx y_6)))])))))))):
  A35 [] (L2 [(0,.agg (enc .edit p)),(1,.agg (enc .edit q))] []) Q:=
 Eq.mpr (by kernel_rfl) (h _ (Zd _) _ (Zd _) _ (Zd _) _ (Zd _) _ (Zd _) _ (Zd _))
def ZwM(p q:Edit):Prop:=AW (Z6 ZpE) Try.f35 Zvj [] (Zm (Zqk.can (p,q,())) []) (EQ Try.f35 (ZjD (p,q,())) [])
theorem Zv5(c57:CT 57 Zb8)(c77:CT 77 Z89)(hb:∀ (p:Edit) (q:Edit) (_:Unit),ZjQ (p,q,())->ZwM p q):CT 35 Z3V:=
 Z4 (l:=[(57,Zb8),(77,Z89)]) Zn rfl (⟨c57,c77,trivial⟩) Zvj Try.func35 rfl rfl 2 (fun _=> rfl) (by decide) (fun ⟨p,q,_⟩=> hb p q ())
def ZpF:List (FuncId × Fs U):=[(35,Z3V)]
def Zvk:Zf U:=lvl [([],[]),([1],[]),([1,2],[]),([2,3],[3]),([3,4],[3,4]),([5,6,7],[5,6]),([0],[])]
abbrev A34(p:List Nat):=AW (Z6 ZpF) Try.f34 Zvk p
theorem Zz5(Q:QT)(h:∀ y_1,y_1=(Edit.mk 0 (Tree.mk 0 [] []) (Tree.mk 0 [] []) [] [] 0 [])->∀ y_2,y_2=(Edit.mk 3 (Tree.mk 0 [] []) (Tree.mk 0 [] []) [] [] 4 ([(OpOf.mk 0 1 [] y_1),(OpOf.mk 2 0 ([(Tree.mk 10 ([2]) [])]) y_1)]))->∀ y_3,y_3=(Edit.mk 3 (Tree.mk 0 [] []) (Tree.mk 0 [] []) [] [] 4 ([(OpOf.mk 2 0 ([(Tree.mk 10 ([1]) [])]) y_1),(OpOf.mk 0 1 [] y_1)]))->∀ y_4,y_4=(List.getD (Edit.ops ((lbN y_3 y_2).1)) (Int.toNat 0) Op.nil)->∀ y_5,y_5=(List.getD (Edit.ops ((lbN y_3 y_2).1)) (Int.toNat 1) Op.nil)->∀ y_6,y_6=(List.getD (Edit.ops ((lbN y_3 y_2).2.1)) (Int.toNat 0) Op.nil)->let z7:=Edit.ops ((lbN y_3 y_2).1);let z6:=Edit.ops ((lbN y_3 y_2).2.1);let z5:=(((lbN y_3 y_2).2.2):Int)==0;let z1:=bif z5 then (((z7.length:Int):Int)==2) else false;let z2:=bif z1 then (y_4.kind==2) else false;let z4:=bif z2 then (y_5.n==2) else false;let z0:=bif z4 then (((z6.length:Int):Int)==2) else false;let z3:=bif z0 then (y_6.n==2) else false;((ZjQ (y_3,y_2,()))/\((Tr (z5=true))/\(Tr (z5=true))/\(Tr (z5=true))/\(Tr (z5=true))/\(Tr (z1=true))/\(Tr (z1=true))/\(z1=true->(0:Int)<=0/\0 < (z7.length:Int))/\(Tr (z1=true))/\(Tr (z1=true))/\(Tr (z1=true))/\(Tr (z1=true))/\(Tr (z2=true))/\(Tr (z2=true))/\(z2=true->(0:Int)<=1/\1 < (z7.length:Int))/\(Tr (z2=true))/\(Tr (z2=true))/\(Tr (z2=true))/\(Tr (z2=true))/\(Tr (z4=true))/\(Tr (z4=true))/\(Tr (z4=true))/\(Tr (z4=true))/\(Tr (z0=true))/\(Tr (z0=true))/\(z0=true->(0:Int)<=0/\0 < (z6.length:Int))/\(Tr (z0=true))/\(Tr (z0=true))/\(Tr (z0=true))/\(Tr (z0=true))/\(Tr (z3=true))/\(Tr (z3=true))/\(z3=true->(0:Int)<=1/\1 < (z6.length:Int))/\(Tr (z3=true))/\(Tr (z3=true))/\(Tr (z3=true))/\(Tr (z3=true))/\(Q .ret (L2 [(0,.c (.bool (bif z3 then (((OpOf.kind (List.getD z6 (Int.toNat 1) Op.nil)):Int)==2) else false)))] []))))):
  A34 [] (L2 [] []) Q:=
 Eq.mpr (by kernel_rfl) (h _ rfl _ rfl _ rfl _ rfl _ rfl _ rfl)
def ZwN:Prop:=AW (Z6 ZpF) Try.f34 Zvk [] (Zm (Zlj.can ()) []) (EQ Try.f34 (ZtL ()) [])
theorem Zv6(c35:CT 35 Z3V)(hb:∀ (_:Unit),Z8p ()->ZwN):CT 34 Zbc:=
 Z4 (l:=[(35,Z3V)]) Zn rfl (⟨c35,trivial⟩) Zvk Try.func34 rfl rfl 0 (fun _=> rfl) (by decide) (fun _=> hb ())
def ZpG:List (FuncId × Fs U):=[(36,Zbb),(37,Z3m)]
abbrev A33(p:List Nat):=AW (Z6 ZpG) Try.f33 Zvi p
theorem Zz6(t:Tree)(Q:QT)(h:let z2:=Tree.mk t.kind t.words t.kids;let z1:=decide (0<=Zz z2 80 3000);let z0:=bif z1 then (Zh z2 64) else false;((ZjP (z2,()))/\(Tr (z1=true))/\(z1=true->Z49 (z2,64,()))/\(Tr (z1=true))/\(Tr (z0=true))/\(Tr (z0=true))/\(Tr (z0=true))/\(Q .ret (L2 [(2,.c (.bool (bif z0 then (t.kind !=10) else false)))] [])))):
  A33 [] (L2 [(0,.agg (enc .tree t))] []) Q:=
 Eq.mpr (by kernel_rfl) h
def ZwO(t:Tree):Prop:=AW (Z6 ZpG) Try.f33 Zvi [] (Zm (Zqj.can (t,())) []) (EQ Try.f33 (ZtM (t,())) [])
theorem Zv7(c36:CT 36 Zbb)(c37:CT 37 Z3m)(hb:∀ (t:Tree) (_:Unit),ZbG (t,())->ZwO t):CT 33 Zbd:=
 Z4 (l:=[(36,Zbb),(37,Z3m)]) Zn rfl (⟨c36,c37,trivial⟩) Zvi Try.func33 rfl rfl 1 (fun _=> rfl) (by decide) (fun ⟨t,_⟩=> hb t ())
def ZtU:List (FuncId × Fs U):=[(15,Zbg),(26,Z1N),(29,Zbe),(33,Zbd),(34,Zbc),(35,Z3V)]
def lv8:Zf U:=lvl [([3,4,5],[3,4,5]),([3,4,5,30],[3,4,5]),([6],[]),([3,4,5,7,8],[3,4,5,7]),([3,4,7,8,9,10],[3,4,7,9]),([3,4,7,9,59],[3,4,7,9]),([6],[]),([7,9,11,12,13],[7,9,11,12]),([7,9,11,12,13,69],[7,9,11,12]),([6],[]),([9,11,14,15],[9,11,14]),([14,15,16,17],[14,16]),([6],[])]
abbrev A8(p:List Nat):=AW (Z6 ZtU) Try.f8 lv8 p
theorem vc8(p q:Edit)(t:Tree)(Q:QT)(h:∀ y_1,y_1=p->∀ y_2,y_2=q->∀ y_3,y_3=t->∀ y_4,y_4=((lbN y_1 y_2).1)->∀ y_5,y_5=((lbN y_1 y_2).2.1)->∀ y_6,y_6=(JM ((doE false y_1 y_3).map Z2))->∀ y_7,y_7=(JM ((doE false y_2 y_3).map Z2))->∀ y_8,y_8=(JM ((doE false y_4 y_7).map Z2))->∀ y_9,y_9=(JM ((doE false y_5 y_6).map Z2))->let z9:=(((lbN y_1 y_2).2.2):Int) !=0;let z6:=(((lbN y_1 y_2).2.2):Int)==13;let z4:= !((doE false y_1 y_3).isSome);let z2:=bif (!(Jk y_1)) then true else (!(Jk y_2));let z7:=bif z2 then true else (!(Z4x y_3));let z1:=bif ((doE false y_5 y_6).isSome) then ((doE false y_4 y_7).isSome) else false;let z5:=bif z1 then (ZT y_9 y_8) else false;let z0:=bif z4 then true else (!((doE false y_2 y_3).isSome));let z3:=bif z0 then true else (!(Z4x y_6));let z8:=bif z3 then true else (!(Z4x y_7));((Zgv (y_1,()))/\(Tr ((!(!(Jk y_1)))=true))/\((!(!(Jk y_1)))=true->Zgv (y_2,()))/\(Tr ((!(!(Jk y_1)))=true))/\((!(Jk y_1))=false->(!(!(Jk y_1)))=true)/\(Tr ((!z2)=true))/\((!z2)=true->ZbG (y_3,()))/\(Tr ((!z2)=true))/\(z2=false->(!z2)=true)/\((z7=true->(Z8p ())/\(Q .ret (L2 [pB 6 true] [])))/\(z7=false->(Z2O (y_1,y_3,()))/\((Z2O (y_2,y_3,()))/\((Tr ((!z4)=true))/\(z4=false->(!z4)=true)/\(Tr ((!z0)=true))/\((!z0)=true->ZbG (y_6,()))/\(Tr ((!z0)=true))/\(z0=false->(!z0)=true)/\(Tr ((!z3)=true))/\((!z3)=true->ZbG (y_7,()))/\(Tr ((!z3)=true))/\(z3=false->(!z3)=true)/\((z8=true->(Z8p ())/\(Q .ret (L2 [pB 6 true] [])))/\(z8=false->(ZjQ (y_1,y_2,()))/\((z9=true->(z6=true->Z8p ())/\(Tr (z6=true))/\(Q .ret (L2 [(6,.c (.bool (bif z6 then true else false)))] [])))/\(z9=false->(Z2O (y_5,y_6,()))/\((Z2O (y_4,y_7,()))/\((Tr (((doE false y_5 y_6).isSome)=true))/\(Tr (z1=true))/\(Tr (z1=true))/\(z1=true->ZbH (y_9,y_8,()))/\(Tr (z1=true))/\(z5=true->Z8p ())/\(Tr (z5=true))/\(Q .ret (L2 [(6,.c (.bool (bif z5 then true else false)))] [])))))))))))))):
  A8 [] (L2 [(0,.agg (enc .edit p)),(1,.agg (enc .edit q)),(2,.agg (enc .tree t))] []) Q:=
 Eq.mpr (by kernel_rfl) (h _ (Zd _) _ (Zd _) _ (Zc _) _ (Zd _) _ (Zd _) _ (Zc _) _ (Zc _) _ (Zc _) _ (Zc _))
def ZyG(p q:Edit)(t:Tree):Prop:=AW (Z6 ZtU) Try.f8 lv8 [] (Zm (Zua.can (p,q,t,())) []) (EQ Try.f8 (ZxS (p,q,t,())) [])
theorem ZxZ(c15:CT 15 Zbg)(c26:CT 26 Z1N)(c29:CT 29 Zbe)(c33:CT 33 Zbd)(c34:CT 34 Zbc)(c35:CT 35 Z3V)(hb:∀ (p:Edit) (q:Edit) (t:Tree) (_:Unit),ZuH (p,q,t,())->ZyG p q t):CT 8 Zjg:=
 Z4 (l:=[(15,Zbg),(26,Z1N),(29,Zbe),(33,Zbd),(34,Zbc),(35,Z3V)]) Zn rfl (⟨c15,c26,c29,c33,c34,c35,trivial⟩) lv8 Try.func8 rfl rfl 3 (fun _=> rfl) (by decide) (fun ⟨p,q,t,_⟩=> hb p q t ())
end
theorem Z72{e:Edit}(h:Z0e e):Z1e (e,()):=by
 have:=Z0H h
 exact ⟨by dsimp only;omega,h.2.2⟩
set_option maxHeartbeats 1000000 in
theorem c35:Contract Try.prog cfg 35 Z3V:=by
 refine Zv5 ZvE.1 c77 ?_
 intro p q _ hp
 have hp:ZlX p q:=hp
 obtain ⟨⟨h1,h2⟩,h3,h4⟩:=ZeF hp
 have fin:∀ {X Y:Edit} {n:Int} {s:LSt U},lbN p q=(X,Y,n)->YN cfg Try.f35.ntmps Try.f35.results.toList (.tup [(true,enc .edit X),(true,enc .edit Y),(false,[.int .i64 n])]) [] .ret s->YN cfg Try.f35.ntmps Try.f35.results.toList (ZjD (p,q,())) [] .ret s:=by
  intro X Y n s h hs
  refine ZsC ?_ hs
  simp only [ZjD]
  rw [h]
  try rfl
 have eN:=lbN.eq_1 p q
 refine Zz4 _ _ _ ?_
 intro y1 e1 y2 e2 y3 e3 y4 e4 y5 e5 y6 e6
 subst e1 e2
 rw [<-e3] at h1
 rw [<-e4] at h2
 rw [<-e3,<-e4] at h3 h4 eN
 generalize hL:lbE y3 y4=L at h3 h4 eN e5 e6 ⊢
 simp only [XQ]
 refine ⟨Z72 hp.1,Z72 hp.2.1,⟨h1,h2⟩,fun ha=> fin (by rw [eN,if_pos ha]) (by (repeat' (first | exact trivial | exact rfl | apply And.intro))),fun ha=> ⟨fun hc=> fin (by rw [eN,if_neg (by rw [ha];decide),if_pos hc]) (by (repeat' (first | exact trivial | exact rfl | apply And.intro))),fun hc=> ⟨by rw [e5];exact Z72 h3,by rw [e6];exact Z72 h4,?_⟩⟩⟩
 exact fin (by rw [eN,if_neg (by rw [ha];decide),if_neg (by rw [hc];decide),<-e5,<-e6]) (by (repeat' (first | exact trivial | exact rfl | apply And.intro)))
theorem Zvs{p q:Edit}(h:ZlX p q):Z0e (lbN p q).1/\Z0e (lbN p q).2.1:=by
 obtain ⟨_,h3,h4⟩:=ZeF h
 unfold lbN
 split
 ·exact ⟨Z47,Z47⟩
 ·split
  ·exact ⟨Z47,Z47⟩
  ·exact ⟨Z70 h3,Z70 h4⟩
theorem c33:Contract Try.prog cfg 33 Zbd:=by
 refine Zv7 c36 c37 ?_
 intro t _ hp
 simp only [ZbG] at hp
 refine Zz6 _ _ ?_
 (simp only [Tree.eta,Edit.eta,Tree.kind_mk,Tree.words_mk,Tree.kids_mk])
 (simp only [vcT,vcS])
 refine ⟨by simp only [ZjP];exact hp.1,fun h=> by simp only [Z49];exact ⟨X4 (ZdQ h) (by decide),hp.2,by omega,by omega⟩,Ze rfl ?_⟩
 unfold Z4x
 rw [QD]
 simp only [ZiS,Q0,decide_eq_true_eq,bne_iff_ne]
def Zcq:Edit:= .mk 3 Tree.nil Tree.nil [] [] 4 [⟨2,0,[at1 1],Edit.nil⟩,⟨0,1,[],Edit.nil⟩]
def Zcr:Edit:= .mk 3 Tree.nil Tree.nil [] [] 4 [⟨0,1,[],Edit.nil⟩,⟨2,0,[at1 2],Edit.nil⟩]
theorem Z5a:Z5 Zcq 64=true/\Z5 Zcr 64=true:=⟨rfl,rfl⟩
theorem ZkQ:Yl Zcq/\Yl Zcr:=by
 have z:=Z0G
 have i0:InR 0:=YK (by decide) (by decide)
 have zn:Yl Edit.nil:=⟨i0,z,z,by simp,i0,trivial,trivial⟩
 have at_:∀ n:Int,isW n->rng (at1 n):=fun n h=> ⟨⟨by decide,by decide⟩,fun x hx=> by rw [Qj.1 hx];exact h,trivial⟩
 refine ⟨⟨YK (by decide) (by decide),z,z,by simp,YK (by decide) (by decide),trivial,⟨YK (by decide) (by decide),i0,⟨at_ 1 (by unfold isW;omega),trivial⟩,zn⟩,⟨i0,YK (by decide) (by decide),trivial,zn⟩,trivial⟩,
  ⟨YK (by decide) (by decide),z,z,by simp,YK (by decide) (by decide),trivial,⟨i0,YK (by decide) (by decide),trivial,zn⟩,⟨YK (by decide) (by decide),i0,⟨at_ 2 (by unfold isW;omega),trivial⟩,zn⟩,trivial⟩⟩
theorem ZkR:Zx Zcq=Zcq/\Zx Zcr=Zcr:=by
 unfold Zcq Zcr
 rw [Zf0,Zf0]
 exact ⟨rfl,rfl⟩
theorem ZpK:lbN Zcq Zcr=(.mk 3 Tree.nil Tree.nil [] [] 4 [⟨2,0,[at1 1],Edit.nil⟩,⟨0,2,[],Edit.nil⟩],.mk 3 Tree.nil Tree.nil [] [] 4 [⟨0,2,[],Edit.nil⟩,⟨2,0,[at1 2],Edit.nil⟩],0):=by
 have L0:Lay lbE [] [] [] [at1 2] (Jc [] [at1 2]):= .nil _ _
 have L1:Lay lbE [] [⟨2,0,[at1 2],Edit.nil⟩] [] [] (Jc [] [at1 2]):= .right (fun a ha=> by cases ha) rfl L0
 have t:∀ r:List Op,Zw (⟨0,1,[],Edit.nil⟩ ::r) 1=r/\Zq ⟨0,1,[],Edit.nil⟩ 1=⟨0,1,[],Edit.nil⟩:=by
  intro r
  simp [Zw,Zq,Z1]
 have L2:=Lay.both (f:=lbE) (a:=⟨0,1,[],Edit.nil⟩) (p:=[]) (b:=⟨0,1,[],Edit.nil⟩) (q:=[⟨2,0,[at1 2],Edit.nil⟩]) (m:=[at1 1]) (h:=[]) (n:=1) (by decide) (by decide) (by simp [Z1]) (by rw [(t _).1,(t _).1];exact L1)
 have L3:Lay lbE Zcq.ops Zcr.ops [] [] _:= .left rfl L2
 obtain ⟨b,ps,e1,e2⟩:=Zf9 L3 []
 rw [(t []).2] at e2
 have e3:Z0I lbE ps [] []=⟨[⟨2,0,[at1 1],Edit.nil⟩,⟨0,1,[],Edit.nil⟩,⟨0,1,[],Edit.nil⟩],[⟨0,1,[],Edit.nil⟩,⟨0,1,[],Edit.nil⟩,⟨2,0,[at1 2],Edit.nil⟩],false,false⟩:=by
  rw [<-e2,pL0 rfl (by decide)]
  simp [Jc,Z30,JB,PL.app]
 have hl:lbE Zcq Zcr=⟨.mk 3 Tree.nil Tree.nil [] [] 4 [⟨2,0,[at1 1],Edit.nil⟩,⟨0,1,[],Edit.nil⟩,⟨0,1,[],Edit.nil⟩],.mk 3 Tree.nil Tree.nil [] [] 4 [⟨0,1,[],Edit.nil⟩,⟨0,1,[],Edit.nil⟩,⟨2,0,[at1 2],Edit.nil⟩],false,false⟩:=by
  rw [Zh3 Z5a.1 Z5a.2,lb3 (p:=Zcq) (q:=Zcr) rfl (by decide) (by decide) (by decide) rfl]
  unfold Z2w
  rw [if_pos b,e1,QO,e3]
  try rfl
 unfold lbN
 rw [ZkR.1,ZkR.2,hl]
 show (Zx _,Zx _,(0:Int))=_
 rw [Zf0,Zf0]
 try rfl
theorem c34:Contract Try.prog cfg 34 Zbc:=by
 refine Zv6 c35 ?_
 intro _ _
 refine Zz5 _ ?_
 intro y1 h1 y2 h2 y3 h3 y4 h4 y5 h5 y6 h6
 have e1:y1=Edit.nil:=h1
 subst e1
 have e2:y2=Zcr:=h2
 have e3:y3=Zcq:=h3
 subst e2 e3
 rw [ZpK] at*
 subst h4 h5 h6
 have m1:Z8 Zcq<=20000:=by decide
 have m2:Z8 Zcr<=20000:=by decide
 refine ⟨ZjK Z5a.1 Z5a.2 ZkQ.1 ZkQ.2 rfl rfl m1 m2,?_⟩
 simp only [Tr]
 repeat' (first | exact (fun x=> x) | exact (fun _=> ⟨by decide,by decide⟩) | exact Ze rfl rfl | apply And.intro)
theorem Zcu{e:Edit}(h:Jk e=true):Y6 e=true:=by simp only [Jk,Q0] at h;exact h.2
theorem Zhm{e:Edit}{t u:Tree}(h:doE false e t=some u):JM ((doE false e t).map Z2)=Z2 u:=by rw [h];try rfl
set_option maxHeartbeats 1000000 in
theorem c8:Contract Try.prog cfg 8 Zjg:=by
 refine ZxZ c15 c26 c29 c33 c34 c35 ?_
 intro p q t _ hp
 obtain ⟨hp1,hp2,hs,hr⟩:=hp
 refine vc8 _ _ _ _ ?_
 intro y1 h1 y2 h2 y3 h3 y4 h4 y5 h5 y6 h6 y7 h7 y8 h8 y9 h9
 subst h1 h2 h3
 (simp only [vcT,vcS])
 have M:∀ {e:Edit} {t:Tree},Jk e=true->Yl e->Z4x t=true->Zi (JM ((doE false e t).map Z2))<=1000000000000:=by
  intro e t ge re gt
  obtain ⟨_,m,r⟩:=Zct ge re
  have:=ZkT gt
  have:=Z5s e
  exact Z6m ⟨64,r⟩ (by omega)
 have T:∀ {e:Edit} {t:Tree},Jk e=true->Yl e->Z4x t=true->rng t->ZbG (JM ((doE false e t).map Z2),()):=fun ge re gt rt=>
  ⟨Z5F _ (X4 (M ge re gt) (by decide)),Z8e re rt⟩
 refine ⟨hp1,fun _=> hp2,fun _=> ⟨hs,hr⟩,fun _=> ⟨trivial,Ze rfl rfl⟩,fun hg=> ?_⟩
 obtain ⟨⟨g1,g2⟩,g3⟩:=hg
 obtain ⟨_,m1,r1⟩:=Zct g1 hp1.2
 obtain ⟨_,m2,r2⟩:=Zct g2 hp2.2
 have m3:=ZkT g3
 have rt:=(ZpN g3 hr).2.1
 have q1:=Zgu (t:=y3) g1 hp1.2 (by omega) hr
 have q2:=Zgu (t:=y3) g2 hp2.2 (by omega) hr
 refine ⟨q1,q2,fun _=> by rw [h6];exact T g1 hp1.2 g3 hr,fun _=> by rw [h7];exact T g2 hp2.2 g3 hr,fun _=> ⟨trivial,Ze rfl rfl⟩,fun hh=> ?_⟩
 obtain ⟨⟨⟨s1,s2⟩,g6⟩,g7⟩:=hh
 obtain ⟨u,hu⟩:=ZfY s1
 obtain ⟨v,hv⟩:=ZfY s2
 have rb:=ZjK r1 r2 hp1.2 hp2.2 (Zcu g1) (Zcu g2) (by omega) (by omega)
 have m6:=ZkT g6
 have m7:=ZkT g7
 have r6:rng y6:=by rw [h6];exact Z8e hp1.2 hr
 have r7:rng y7:=by rw [h7];exact Z8e hp2.2 hr
 have o:=Zvs rb
 rw [<-h4,<-h5] at o
 have S:=Zvr rb rt hu hv
 rw [<-h4,<-h5,<-Zhm hu,<-Zhm hv,<-h6,<-h7] at S
 have P:∀ {e:Edit} {t:Tree},Z0e e->Zi t<=3000->rng t->Z2O (e,t,()):=by
  intro e t he mt rt
  have:=Z0H he
  have:=he.1
  exact ⟨⟨by dsimp only;omega,he.2⟩,by dsimp only;omega,rt⟩
 refine ⟨rb,fun hn=> ⟨fun _=> trivial,?_⟩,fun hz=> ⟨P o.2 m6 r6,P o.1 m7 r7,fun _=> ?_,fun _=> trivial,?_⟩⟩
 ·rcases S with e | ⟨e,_⟩
  ·rw [e];exact Ze rfl rfl
  ·exact absurd e hn
 ·show Zi y9<=_
  have q:=P o.2 m6 r6
  rw [h9]
  exact Z6m q.1.2.2 q.2.1
 ·rcases S with e | ⟨_,w1,w2,k1,k2,k3⟩
  ·rw [hz] at e;cases e
  ·rw [h9,h8,k1,k2]
   have:ZT (JM (Option.map Z2 (some w1))) (JM (Option.map Z2 (some w2)))=true:=Z8d.2 k3
   rw [this]
   exact Ze rfl rfl
end Go.AM.Ytpjenobkibfpcaa
