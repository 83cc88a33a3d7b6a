import Derived.Test.YtcljdbpmjdgooaaEB6
import Derived.Test.YtcljdbpmjdgooaaEQBo
import Derived.Test.YtcljdbpmjdgooaaEB1
import Derived.Test.YtcljdbpmjdgooaaEmY
set_option linter.unusedSimpArgs false
set_option linter.unusedVariables false
namespace Go.AM.Ytcljdbpmjdgooaa
open Go.AM Go.Proofs
theorem b51:ZmB:=by
 intro N a room s at_ t _ hp hN
 obtain ⟨⟨h,hf⟩,⟨hm,hg⟩,hK⟩:=hp
 dsimp only at h hf hm hg hK
 have hN:2*ZE t < N+1:=hN
 have hu:=h.used
 have hl:=h.len s
 refine Zne N a room s at_ t _ ?_
 cases room with
 | false=>
  refine Zj (ι:=Unit) (fun _=> Z05 a false s at_ t 0 false a) (fun _=> True) (fun _=> 0) () rfl trivial ?_
  rintro ⟨⟩ _
  refine ZbB N a false s at_ t 0 false a _ _ ⟨fun q=> ?_,fun _=> ?_⟩
  .cases hq:decide ((0:Int) < (t.kids.length:Int)) <;> rw [hq] at q <;> cases q
  .simp only [Z44,Z46,XH,cond_false]
   (repeat' (first | exact trivial | exact rfl | apply And.intro))
 | true=>
  have hh:=Zb.1 (hf rfl)
  refine Zj (ι:=Int × Bool × Arena) (fun p=> Z05 a true s at_ t p.1 p.2.1 p.2.2) (fun p=> (0<=p.1/\p.1<=t.kids.length)/\(OkAr p.2.2/\Gr a p.2.2)/\ZL t.kids a s at_=bif p.2.1 then ZL (t.kids.drop p.1.toNat) p.2.2 s (at_+p.1) else (p.2.2,false)) (fun p=> ((t.kids.length:Int) - p.1).toNat) (0,true,a) rfl ⟨⟨by dsimp only;omega,by dsimp only;omega⟩,⟨h,.refl a⟩,by simp⟩ ?_
  rintro ⟨i,room,r⟩ ⟨⟨g1,g2⟩,⟨g3,g4⟩,g5⟩
  dsimp only at g1 g2 g3 g4 g5
  refine ZbB N a true s at_ t i room r _ _ ?_
  simp only [Tree.eta]
  refine ⟨fun hb=> ?_,fun hb=> ?_⟩
  .have hi:i < t.kids.length:=by
    cases q:decide (i < (t.kids.length:Int)) with
    | true=> exact of_decide_eq_true q
    | false=> rw [q] at hb;cases hb
   have hr:room=true:=by rw [decide_eq_true hi] at hb;exact hb
   subst hr
   have m1:=Z3D (t:=t) (i:=i.toNat) (by omega)
   have m4:=Jy (l:=t.kids) (i:=i.toNat) (by omega) Tree.nil
   have st:=Z6N t.kids r s (at_+i) g1 hi
   have hat:Y2 r.segs s (at_+i) 1=true:=g4.has (Zb.2 ⟨hh.1,hh.2.1,by omega,by decide,by omega⟩)
   have ok:=Z3u (t.kids.getD i.toNat Tree.nil) s (at_+i) g3 (Jf hg m4) (hK _ m4).2
   refine ⟨by ((unfold InR;omega)),⟨g1,hi⟩,⟨⟨g3,rfl,hat⟩,⟨?_,Jf hg m4⟩,hK _ m4⟩,?_,by ((unfold InR;omega)),(i+1,(Zx (t.kids.getD i.toNat Tree.nil) r s (at_+i)).2,(Zx (t.kids.getD i.toNat Tree.nil) r s (at_+i)).1),rfl,⟨⟨by dsimp only;omega,by dsimp only;omega⟩,⟨ok.1,g4.trans ok.2⟩,?_⟩,by dsimp only;omega⟩
   .show ZE (t.kids.getD i.toNat Tree.nil)<=1000000;omega
   .show 2*ZE (t.kids.getD i.toNat Tree.nil)+1 < N;omega
   .dsimp only
    rw [g5,cond_true,st]
    unfold YG
    cases q:(Zx (t.kids.getD i.toNat Tree.nil) r s (at_+i)).2 with
    | true=> rw [cond_true,cond_true,K0]
    | false=> rw [cond_false,cond_false,<-q]
  .have e:ZL t.kids a s at_=(r,room):=by
    rw [g5]
    cases room with
    | false=> rfl
    | true=>
     have hi:¬i < t.kids.length:=by
      intro q
      rw [decide_eq_true q] at hb
      cases hb
     have:i=t.kids.length:=by omega
     subst this
     rw [Qe,XN,ZL]
     try rfl
   simp only [Z44,Z46,QY,cond_true,e]
   (repeat' (first | exact trivial | exact rfl | apply And.intro))
theorem Z5z{a:Arena}(h:OkAr a){s i n k up:Int}(hf:Y2 a.segs s i 1=true)(hk:0<=k/\k < 4)(hu:Z0 a n=true->0<=up/\up < 4294967296):
  ∃ S T:Int,∃ b:Arena × Bool,∃ g:Bool,b=ZW a s i n k up/\(if Z0 a n then giveS a n else -1)=S/\(if Z0 a n then giveT a n else -1)=T/\Z0 a n=g/\
   Z1O ((Z5 a n,g,()),s,i,S,T,k,up,())/\(bif g then (Zu (Z5 a n) s i S T k up).1 else Z5 a n)=b.1/\(g && (Zu (Z5 a n) s i S T k up).2)=b.2/\
   (-1<=T/\T<=131072)/\(b.2=true->S=giveS a n/\T=giveT a n/\Y2 b.1.segs S T n=true/\0<=n/\n<=131072)/\OkAr b.1:=by
 cases hg:Z0 a n with
 | false=>
  obtain ⟨e1,e2⟩:=Z90 (s:=s) (i:=i) (k:=k) (up:=up) hg
  refine ⟨-1,-1,(a,false),false,e1.symm,rfl,rfl,rfl,⟨by rw [e2];exact h,fun q=> by cases q⟩,by rw [e2];rfl,rfl,by decide,fun q=> (by cases q),h⟩
 | true=>
  have hgs:=Z4q hg
  have hgt:=h.giveT n
  refine ⟨giveS a n,giveT a n,ZW a s i n k up,true,rfl,rfl,rfl,rfl,⟨h.give n,fun _=> ⟨⟨hk,hu hg⟩,(JK a n).has hf,hgs,hgt⟩⟩,?_,?_,by omega,fun q=> ⟨rfl,rfl,Z5F hg q,Z1f h hg⟩,(Y0 h s i n hk hu).1⟩
  .rw [Z3R hg];try rfl
  .rw [Z3R hg];try rfl
set_option maxHeartbeats 4000000 in
theorem b28:ZmE:=by
 intro N a room s at_ t _ hp hN
 obtain ⟨⟨h,hr,hf⟩,⟨hm,hg⟩,h10,d,hd⟩:=hp
 dsimp only at h hr hf hm hg h10 hd
 subst hr
 have hN:2*ZE t+1 < N+1:=hN
 have rt:=ZcU hd
 have hlen:=rt.len
 have hkr:=rt.kind
 have hkl:=Z2x t
 have hw:=YK hg
 have hlay:=Z8P t a s at_
 have fin:∀ {c:Arena × Bool} {e:AExit} {st:LSt U},Zx t a s at_=c->(e= .ret\/e= .normal)->st.mem=[((.x 0),[.mref (.A),.bool c.2])]->st.ls=[(.A,LC.mk (U:=U) .arena ([c.1]) 0)]->
   ZK cfg Try.f28.ntmps Try.f28.results.toList (Z9K ((a,true,()),s,at_,t,())) (Z1J ((a,true,()),s,at_,t,())) (Z1L ((a,true,()),s,at_,t,())) e st:=by
  intro c e st h1 h3 h4 h5
  subst h1
  obtain ⟨env,mem,ls⟩:=st
  dsimp only at h4 h5
  subst h4 h5
  simp only [Z1J,Z1L]
  rcases h3 with rfl | rfl <;> (repeat' (first | exact trivial | exact rfl | apply And.intro))
 refine Znv N a true s at_ t _ ?_
 rintro y1 rfl y2 hy2 y3 hy3 y4 hy4 y5 hy5 y6 hy6 y7 hy7 y8 hy8 y9 hy9 y10 hy10 y11 hy11 y12 hy12 y13 hy13 y14 hy14 y15 hy15 y16 hy16 y17 hy17 y18 hy18 y19 hy19 y20 hy20 y21 hy21
 simp only [Tree.eta,QY] at hy6 hy13 hy17 ⊢
 have hkn:IntKind.wrap .u64 (y1.kids.length:Int)=y1.kids.length:=Z8 (by omega) (by omega)
 rw [hkn] at hy4 hy5
 rw [Z8 (by omega) (by omega)] at hy2 hy4 hy5
 refine ⟨fun k0=> ?_,fun k0=> ⟨fun k1=> ?_,fun k1=> ⟨fun k8=> ?_,fun k8=> ⟨fun k9=> ?_,fun k9=> ?_⟩⟩⟩⟩
 .have k0:y1.kind=0:=eq_of_beq k0
  rw [if_pos k0] at hlay
  simp only [Z1J,Z1L,hlay]
  (repeat' (first | exact trivial | exact rfl | apply And.intro))
 .have k1:y1.kind=1:=eq_of_beq k1
  have hs:=rt.stru k1
  rw [if_neg (by omega),if_pos k1] at hlay
  have hy8:y8=(y1.words.length:Int)+65536*y1.kids.length:=by
   rw [hy8,hy5,Z8 (n:=(y1.words.length:Int)) (by omega) (by omega),Z8 (by omega) (by omega)]
  obtain ⟨S,T,b,g,eb,eS,eT,eg,p49,e1,e2,hT,hb,okb⟩:=Z5z (n:=(y1.words.length:Int)+y1.kids.length) (k:=0) (up:=(y1.words.length:Int)+65536*y1.kids.length) h hf (by decide) (fun _=> by omega)
  rw [eS,eT] at hy18 hy21 ⊢
  rw [eg] at hy6
  rw [hy3,hy8] at hy18
  have E1:(bif y6 then y18.1 else y3)=b.1:=by rw [hy6,hy18,hy3];exact e1
  have E2:(y6 && y18.2)=b.2:=by rw [hy6,hy18];exact e2
  rw [E1,E2] at hy21 ⊢
  rw [<-eb] at hlay
  have okc:OkAr (bif b.2 then Zk y1.words b.1 S T else b.1):=by cases b.2;exact okb;exact Yz _ _ _ okb hw
  have grc:Gr b.1 (bif b.2 then Zk y1.words b.1 S T else b.1):=by cases b.2;exact .refl _;exact Jr _ _ _ _
  refine ⟨by ((unfold InR;omega)),h,by rw [hy3,hy6,hy8];exact p49,⟨⟨okb,hw⟩,fun q=> ?_,⟨by dsimp only;omega,by dsimp only;omega⟩,by dsimp only;omega⟩,by ((unfold InR;omega)),⟨⟨okc,fun q=> ?_⟩,⟨hm,hg⟩,rt.kidsOk (.inl k1)⟩,?_,?_⟩
  .have:=Zb.1 (hb q).2.2.1
   exact Zb.2 ⟨this.1,this.2.1,this.2.2.1,by dsimp only;omega,by dsimp only;omega⟩
  .have:=Zb.1 (grc.has (hb q).2.2.1)
   exact Zb.2 ⟨this.1,this.2.1,by dsimp only;omega,by dsimp only;omega,by dsimp only;omega⟩
  .show 2*ZE y1 < N;omega
  .cases q:b.2 with
   | false=>
    have hl:Zx y1 a s at_=b:=by rw [hlay];unfold YG;rw [q];try rfl
    refine fin hl (.inr rfl) ?_ ?_
    .rw [q];try rfl
    .try rfl
   | true=>
    obtain ⟨s1,s2,_⟩:=hb q
    rw [q] at hy21
    have hl:Zx y1 a s at_=y21:=by rw [hlay,hy21,s1,s2];unfold YG;rw [q];try rfl
    exact fin hl (.inr rfl) rfl rfl
 .have k8:y1.kind=8:=eq_of_beq k8
  rw [if_neg (by omega),if_neg (by omega),if_pos k8] at hlay
  have e6:IntKind.wrap .u64 (6+y4)=6+8*(y1.kids.length:Int):=by rw [hy4,Z8 (by omega) (by omega)]
  rw [e6] at hy14 ⊢
  obtain ⟨S,T,b,g,eb,eS,eT,eg,p49,e1,e2,hT,hb,okb⟩:=Z5z (n:=(y1.kids.length:Int)) (k:=1) (up:=6+8*(y1.kids.length:Int)) h hf (by decide) (fun q=> by have:=Z1f h q;omega)
  rw [eS,eT] at hy14 hy17 ⊢
  rw [eg] at hy17 ⊢
  have E1:(bif g then y14.1 else Z5 a (y1.kids.length:Int))=b.1:=by rw [hy14];exact e1
  have E2:(g && y14.2)=b.2:=by rw [hy14];exact e2
  rw [E1] at hy17
  rw [E1,E2]
  rw [<-eb] at hlay
  refine ⟨h,p49,⟨⟨okb,fun q=> (hb q).2.2.1⟩,⟨hm,hg⟩,rt.kidsOk (.inr k8)⟩,?_,?_⟩
  .show 2*ZE y1 < N;omega
  .cases q:b.2 with
   | false=>
    have hl:Zx y1 a s at_=b:=by rw [hlay];unfold YG;rw [q];try rfl
    refine fin hl (.inr rfl) ?_ ?_
    .rw [q];try rfl
    .try rfl
   | true=>
    obtain ⟨s1,s2,_⟩:=hb q
    have hl:Zx y1 a s at_=y17:=by rw [hlay,hy17,s1,s2];unfold YG;rw [q];try rfl
    exact fin hl (.inr rfl) rfl rfl
 .have k9:y1.kind=9:=eq_of_beq k9
  rw [if_neg (by omega),if_neg (by omega),if_neg (by omega),if_pos k9] at hlay
  rw [k9] at rt
  have rows:=rt.rows
  have hfr:=ZfF fun t ht=> (rows t ht).2.2
  have hfit:Fit (frW y1.kids) (frK y1.kids) y1.kids:=fun t ht=> Z8S ht
  have htag:=Z3Y hlen hfr.1 hfr.2
  have pre38':Z7K (y1,()):=hm
  generalize hfw:frW y1.kids=fw at*
  generalize hfk:frK y1.kids=fk at*
  obtain ⟨P,hP⟩:∃ P:Int,P=(y1.kids.length:Int)*((fw:Int)+fk):=⟨_,rfl⟩
  have hP0:0<=P:=by rw [hP];exact QS (by omega) (by omega)
  have hPm:P<=4000000000000:=by
   rw [hP]
   have:=Int.mul_le_mul (show (y1.kids.length:Int)<=1048576 by omega) (show (fw:Int)+fk<=131072 by omega) (by omega) (by decide)
   omega
  rw [<-hP] at hy10 hy11 hy12 hy13 hy20 hlay ⊢
  have hy7:y7:=by rw [hy7];((unfold InR;omega))
  have hy10:y10:=by rw [hy10];((unfold InR;omega))
  have hy15:y15=7+8*P:=by
   rw [Z8 (by omega) (by omega)] at hy11
   rw [hy15,hy11,Z8 (n:=8*P) (by omega) (by omega),Z8 (by omega) (by omega)]
  have hy19:y19=Z3g y1.kids.length fw fk:=by
   rw [Z8 (n:=(fk:Int)) (by omega) (by omega),Z8 (by omega) (by omega)] at hy9
   rw [Z8 (n:=(fw:Int)) (by omega) (by omega),hy9,Z8 (by omega) (by omega)] at hy16
   rw [hy19,hy2,hy16,Z8 (n:=4294967296*((fw:Int)+65536*fk)) (by omega) (by omega),Z8 (by omega) (by omega)]
   unfold Z3g
   omega
  obtain ⟨S,T,b,g,eb,eS,eT,eg,p49,e1,e2,hT,hb,okb⟩:=Z5z (n:=1+P) (k:=1) (up:=7+8*P) h hf (by decide) (fun q=> by have:=Z1f h q;omega)
  rw [eS,eT] at hy20 ⊢
  rw [eg] at hy13
  rw [hy12,hy15] at hy20
  have E1:(bif y13 then y20.1 else y12)=b.1:=by rw [hy13,hy20,hy12];exact e1
  have E2:(y13 && y20.2)=b.2:=by rw [hy13,hy20];exact e2
  rw [E1,E2,hy19]
  rw [<-eb] at hlay
  have okc:OkAr (bif b.2 then ZD b.1 S T (Z3g y1.kids.length fw fk) else b.1):=by cases b.2;exact okb;exact okb.put _ _ htag
  have grc:Gr b.1 (bif b.2 then ZD b.1 S T (Z3g y1.kids.length fw fk) else b.1):=by cases b.2;exact .refl _;exact Yd _ _ _ _
  refine ⟨pre38',hy7,hy10,by ((unfold InR;omega)),h,hy7,hy10,by rw [hy12,hy13,hy15];exact p49,by ((unfold InR;omega)),⟨⟨okb,htag⟩,fun q=> ?_⟩,?_⟩
  .have:=Zb.1 (hb q).2.2.1
   exact Zb.2 ⟨this.1,this.2.1,this.2.2.1,by decide,by dsimp only;omega⟩
  refine Zj (ι:=Int × Bool × Arena) (fun p=> Z0P a true s at_ y1 p.1 p.2.1 p.2.2) (fun p=> (0<=p.1/\p.1<=y1.kids.length)/\(OkAr p.2.2/\Gr b.1 p.2.2)/\(p.2.1=true->b.2=true)/\Zx y1 a s at_=bif p.2.1 then JY fw fk (y1.kids.drop p.1.toNat) p.2.2 S (T+1+p.1*((fw:Int)+fk)) else (p.2.2,false)) (fun p=> ((y1.kids.length:Int) - p.1).toNat) (0,b.2,bif b.2 then ZD b.1 S T (Z3g y1.kids.length fw fk) else b.1) rfl ⟨⟨by dsimp only;omega,by dsimp only;omega⟩,⟨okc,grc⟩,fun q=> q,?_⟩ ?_
  .dsimp only
   cases q:b.2 with
   | false=> rw [hlay];unfold YG;rw [q];simp only [cond_false];rw [<-q]
   | true=>
    obtain ⟨s1,s2,_⟩:=hb q
    rw [hlay,s1,s2];unfold YG;rw [q];simp
  rintro ⟨i,room,r⟩ ⟨⟨g1,g2⟩,⟨g3,g4⟩,g6,g5⟩
  dsimp only at g1 g2 g3 g4 g5 g6
  refine ZgY N a true s at_ y1 i room r _ _ ?_
  rintro z1 rfl z2 hz2 z3 rfl z4 hz4 z5 hz5 z6 hz6 z7 hz7 z8 hz8
  rw [hfw,hfk] at hz4 hz5
  rw [hfw,hfk,<-hP] at hz6 hz7 hz8
  rw [eT] at hz6
  rw [eT] at hz7
  rw [eS,eT] at hz8
  rw [hfw,hfk,<-hP,eS,eT]
  simp only [Tree.eta]
  obtain ⟨R,hR⟩:∃ R:Int,R=i*((fw:Int)+fk):=⟨_,rfl⟩
  have hR0:0<=R:=by rw [hR];exact QS g1 (by omega)
  rw [<-hR] at hz5 hz7 hz8 g5 ⊢
  refine ⟨fun hb1=> ?_,fun hb1=> ?_⟩
  .have hi:i < z1.kids.length:=by
    cases q:decide (i < (z1.kids.length:Int)) with
    | true=> exact of_decide_eq_true q
    | false=> rw [q] at hb1;cases hb1
   have hr:room=true:=by rw [decide_eq_true hi] at hb1;exact hb1
   subst hr
   have hbt:=g6 rfl
   obtain ⟨s1,s2,hbb,hn0,hn1⟩:=hb hbt
   have hmem:=Jy (l:=z1.kids) (i:=i.toNat) (by omega) Tree.nil
   have m1:=Z3D (t:=z1) (i:=i.toNat) (by omega)
   rw [<-hz2] at hmem m1
   obtain ⟨w1,w2,w3,w4⟩:=rows _ hmem
   have hff:=hfit _ hmem
   have hrg:=Jf hg hmem
   have hRP:R+((fw:Int)+fk)<=P:=by
    have h1:(i+1)*((fw:Int)+fk)<=(z1.kids.length:Int)*((fw:Int)+fk):=Xn (by omega) (by omega)
    rw [XL,XX,<-hR,<-hP] at h1
    exact h1
   simp only [cond_true] at hz8 g5 ⊢
   have hbr:=Zb.1 (g4.has hbb)
   have hasr:Y2 r.segs S (T+1+R) z3.words.length=true:=Zb.2 ⟨hbr.1,hbr.2.1,by omega,by omega,by omega⟩
   obtain ⟨c,hc⟩:∃ c,c=Zk z3.words r S (T+1+R):=⟨_,rfl⟩
   rw [<-hc] at hz8 ⊢
   have ok8:OkAr c:=by rw [hc];exact Yz _ _ _ g3 (YK hrg)
   have g8:Gr r c:=by rw [hc];exact Jr _ _ _ _
   have hbk:=Zb.1 ((g4.trans g8).has hbb)
   have hask:Y2 c.segs S (T+1+R+fw) z3.kids.length=true:=Zb.2 ⟨hbk.1,hbk.2.1,by omega,by omega,by omega⟩
   have ok11:=JP z3.kids S (T+1+R+fw) ok8 (fun x hx=> Jf hrg hx) w2
   rw [<-hz8] at ok11
   have st:=Z7o fw fk z1.kids r S (T+1+R) g1 hi
   rw [<-hz2] at st
   rw [st,<-hc,<-hz8] at g5
   have hz4:z4:=by rw [hz4];((unfold InR;omega))
   have hz5:z5:=by rw [hz5];((unfold InR;omega))
   have hz6:z6:=by rw [hz6];((unfold InR;omega))
   have hz7:z7:=by rw [hz7];((unfold InR;omega))
   refine ⟨hz6,hz4,hz5,hz7,⟨g1,hi⟩,⟨⟨g3,YK hrg⟩,fun _=> hasr,⟨by dsimp only;omega,by dsimp only;omega⟩,by dsimp only;omega⟩,hz6,hz4,hz5,hz7,by ((unfold InR;omega)),⟨g1,hi⟩,⟨⟨ok8,fun _=> hask⟩,⟨?_,hrg⟩,w2⟩,?_,by ((unfold InR;omega)),(i+1,z8.2,z8.1),rfl,⟨⟨by dsimp only;omega,by dsimp only;omega⟩,⟨ok11.1,g4.trans (g8.trans ok11.2)⟩,fun _=> hbt,?_⟩,by dsimp only;omega⟩
   .show ZE z3<=1000000;omega
   .show 2*ZE z3 < N;omega
   .dsimp only
    rw [g5]
    unfold YG
    cases q:z8.2 with
    | true=> rw [cond_true,cond_true,XL,XX,<-hR,K0 (T+1)]
    | false=> rw [cond_false,cond_false,<-q]
  .have e:Zx z1 a s at_=(r,room):=by
    rw [g5]
    cases room with
    | false=> rfl
    | true=>
     have hi:¬i < z1.kids.length:=by
      intro q
      rw [decide_eq_true q] at hb1
      cases hb1
     have:i=z1.kids.length:=by omega
     subst this
     rw [Qe,XN,JY]
     try rfl
   simp only [Z1J,Z1L,e]
   (repeat' (first | exact trivial | exact rfl | apply And.intro))
 .have n0:y1.kind≠0:=fun q=> by rw [q] at k0;cases k0
  have n1:y1.kind≠1:=fun q=> by rw [q] at k1;cases k1
  have n8:y1.kind≠8:=fun q=> by rw [q] at k8;cases k8
  have n9:y1.kind≠9:=fun q=> by rw [q] at k9;cases k9
  rw [if_neg n0,if_neg n1,if_neg n8,if_neg n9] at hlay
  obtain ⟨hfit,hat⟩:=rt.data (by omega) (by omega)
  have hnl:(Y9 y1.kids).length=y1.kids.length:=by rw [Y9,QP]
  have hnW:=Z6C hg
  have hpW:=Z6B (c:=y1.kind - 2) hnW (by omega)
  refine Zj (ι:=Int × List Int) (fun p=> Z0O a true s at_ y1 p.1 p.2) (fun p=> 0<=p.1/\p.1<=y1.kids.length/\p.2=Y9 (y1.kids.take p.1.toNat)) (fun p=> ((y1.kids.length:Int) - p.1).toNat) (0,[]) rfl ⟨by dsimp only;omega,by dsimp only;omega,rfl⟩ ?_
  rintro ⟨i,m⟩ ⟨g1,g2,g3⟩
  dsimp only at g1 g2 g3
  refine ZgX N a true s at_ y1 i m _ _ ?_
  rintro z1 hz1 z2 hz2 z3 hz3 z4 hz4 z5 hz5 z6 hz6
  refine ⟨fun hb=> ?_,fun hb=> ?_⟩
  .have hi:i < y1.kids.length:=of_decide_eq_true hb
   have hl:m.length<=y1.kids.length:=by rw [g3,Y9,QP,Qc];omega
   have hmem:=Jy (l:=y1.kids) (i:=i.toNat) (by omega) Tree.nil
   have hq:=(hat _ hmem).2.2
   rw [<-hz1] at hq
   refine ⟨⟨g1,hi⟩,⟨by decide,by rw [hq];decide⟩,?_,by ((unfold InR;omega)),(i+1,m++[List.getD (Tree.words z1) (Int.toNat 0) 0]),rfl,⟨by dsimp only;omega,by dsimp only;omega,?_⟩,by dsimp only;omega⟩
   .simp only [Xa]
    omega
   .dsimp only
    rw [ZdE g1 hi,Y9,XT,g3,hz1]
    try rfl
  .have e:i=y1.kids.length:=by have:¬i < y1.kids.length:=of_decide_eq_false hb;omega
   subst e
   rw [Qe,Xf] at g3
   subst g3
   have hup:z5=y1.kind - 2+8*(y1.kids.length:Int):=by
    rw [hkn,Z8 (n:=8*(y1.kids.length:Int)) (by omega) (by omega)] at hz4
    rw [hz5,hz4,Z8 (n:=y1.kind - 2) (by omega) (by omega),Z8 (by omega) (by omega)]
   generalize hP:ZF (y1.kind - 2) (Y9 y1.kids)=P at*
   obtain ⟨S,T,b,g,eb,eS,eT,eg,p49,e1,e2,hT,hb,okb⟩:=Z5z (n:=(P.length:Int)) (k:=1) (up:=y1.kind - 2+8*(y1.kids.length:Int)) h hf (by decide) (fun _=> by omega)
   rw [eS,eT] at hz6 ⊢
   have hz3:z3=g:=by rw [hz3,QY,eg]
   rw [hz2,hup] at hz6
   have E1:(bif z3 then z6.1 else z2)=b.1:=by rw [hz3,hz6,hz2];exact e1
   have E2:(z3 && z6.2)=b.2:=by rw [hz3,hz6];exact e2
   rw [E1,E2]
   rw [<-eb] at hlay
   have hPl:P.length<=1000000:=by
    rw [<-hP]
    unfold ZF
    rw [if_pos hfit,Z9P,hnl]
    have:ZU (y1.kind - 2) (y1.kids.length:Int)<=1000000:=by
     unfold ZU
     split
     .decide
     .rcases Z3U (y1.kind - 2) with e | e | e | e | e | e <;> (try rw [e]) <;> omega
    omega
   refine ⟨by ((unfold InR;omega)),⟨hnW,by dsimp only;omega⟩,h,by ((unfold InR;omega)),by rw [hz2,hz3,hup];exact p49,⟨⟨okb,hpW⟩,fun q=> ?_,⟨by dsimp only;omega,by dsimp only;omega⟩,hPl⟩,?_⟩
   .exact (hb q).2.2.1
   .cases q:b.2 with
    | false=>
     have hl:Zx y1 a s at_=b:=by rw [hlay];unfold YG;rw [q];try rfl
     refine fin hl (.inr rfl) ?_ ?_
     .rw [q]
     .try rfl
    | true=>
     obtain ⟨s1,s2,_⟩:=hb q
     have hl:Zx y1 a s at_=(Zk P b.1 S T,true):=by rw [hlay,s1,s2];unfold YG;rw [q];try rfl
     exact fin hl (.inr rfl) rfl rfl
theorem ZnN:Contract Try.prog cfg 28 Z40/\Contract Try.prog cfg 51 ZdJ:=Zhq c27 c49 c50 c52 c38 c53 b28 b51
theorem c28:Contract Try.prog cfg 28 Z40:=ZnN.1
theorem c26:Contract Try.prog cfg 26 Z69:=by
 refine Zk8 ?_
 intro size most _ _
 have fin:∀ {x y:Int},x=max size 1->y=min (max most 0) 131072->Z4F cfg Try.f26.ntmps Try.f26.results.toList [] (ZiF (size,most,())) .ret (⟨[(4,.ptr (.loc 14) 0)],[((.loc 14),[.nils,.int .i64 x,.int .i64 y,.int .i64 0])],[]⟩:LSt U):=by
  rintro x y rfl rfl
  (repeat' (first | exact trivial | exact rfl | apply And.intro))
 refine Znx size most _ ⟨fun h1=> ⟨fun h2=> ⟨fun h3=> absurd h3 (by decide),fun _=> fin ?_ ?_⟩,fun h2=> ⟨fun h3=> fin ?_ ?_,fun h3=> fin ?_ ?_⟩⟩,fun h1=> ⟨fun h2=> ⟨fun h3=> absurd h3 (by decide),fun _=> fin ?_ ?_⟩,fun h2=> ⟨fun h3=> fin ?_ ?_,fun h3=> fin ?_ ?_⟩⟩⟩
 all_goals (try rw [decide_eq_true_eq] at h1) <;> (try rw [decide_eq_false_iff_not] at h1) <;> (try rw [decide_eq_true_eq] at h2) <;> (try rw [decide_eq_false_iff_not] at h2) <;> (try rw [decide_eq_true_eq] at h3) <;> (try rw [decide_eq_false_iff_not] at h3) <;> omega
theorem c9:Contract Try.prog cfg 9 Z9w:=by
 refine Zmh c26 c25 c27 c13 c28 ?_
 intro t size most _ hp
 obtain ⟨⟨hm,hg⟩,hs⟩:=hp
 dsimp only at hm hg hs
 have fin:∀ {r:Arena},Z4 t size most=(r,false)->YN cfg Try.f9.ntmps Try.f9.results.toList (Ze9 (t,size,most,())) [] .ret (⟨[(6,.c (.nils)),(7,.c (.bool false))],[],[]⟩:LSt U):=by
  intro r e
  refine YE (r':= .tup [(false,[.slice (U:=U) .words [] .unk]),(false,[.bool false])]) ?_ (by (repeat' (first | exact trivial | exact rfl | apply And.intro)))
  simp only [Ze9,e]
  try rfl
 have hn:=Z35 t
 refine vc9 t size most _ ?_
 rintro y1 rfl y2 hy2 y3 hy3 y4 hy4 y5 hy5
 have eA:(Arena.mk ([]) (max size 1) (min (max most 0) 131072) 0)=ZO size most:=rfl
 rw [eA] at hy2 hy3 hy5 ⊢
 have ok0:OkAr (ZO size most):=OkAr.new size most (by unfold InR at hs;omega)
 rw [QY] at hy3
 refine ⟨⟨hm,hg,(show (0:Int)<=64 by decide),(show (64:Int)<=1000 by decide)⟩,fun hb=> ?_,fun hb=> ?_⟩
 .have:¬(Z6 y1 64=true/\y1.kind≠10):=by
   rintro ⟨q1,q2⟩
   rw [q1] at hb
   exact q2 (eq_of_beq hb)
  refine fin (r:=ZO size most) ?_
  unfold Z4
  rw [if_neg this]
 .have hr:Z6 y1 64=true:=by
   cases q:Z6 y1 64 with
   | true=> rfl
   | false=> rw [q] at hb;cases hb
  have hk:y1.kind≠10:=by
   intro q
   rw [hr,q] at hb
   cases hb
  have hn10:(Zi y1).kind≠10:=by rw [Z17];exact hk
  have hB:Z4 y1 size most=if Z0 (ZO size most) 1 then Zx (Zi y1) (Z5 (ZO size most) 1) (giveS (ZO size most) 1) (giveT (ZO size most) 1) else (ZO size most,false):=by
   unfold Z4
   rw [if_pos ⟨hr,hk⟩]
  subst hy4
  refine ⟨trivial,ok0,fun q3=> ?_,fun q3=> ⟨fun _=> ?_,fun q=> ?_⟩⟩
  .have q3:Z0 (ZO size most) 1=true:=by rw [<-hy3];exact q3
   rw [if_pos q3,if_pos q3] at hy5 ⊢
   rw [if_pos q3,hy2.symm] at hB
   rw [hy2.symm.symm] at hB
   have hB:Z4 y1 size most=y5:=by rw [hB,hy5,hy2]
   refine ⟨(show ZE y1<=1000000000000 by omega),⟨⟨by rw [hy2];exact ok0.give _,by rw [hy3];exact q3,by rw [hy2];exact Z2c q3⟩,⟨by dsimp only;omega,Z3n _ hg⟩,hn10,64,Jw _ _ hr⟩,fun q=> ?_,fun q=> ?_⟩
   .have q:y5.2=false:=by simpa using q
    refine fin (r:=y5.1) ?_
    rw [hB,<-q]
   .have q:y5.2=true:=by simpa using q
    refine YE (r':= .tup [(false,[.slice (U:=U) .words (Arena.segs y5.1) .unk]),(false,[.bool true])]) ?_ (by (repeat' (first | exact trivial | exact rfl | apply And.intro)))
    simp only [Ze9,hB,q,if_true]
  .have q3:Z0 (ZO size most) 1=false:=by rw [<-hy3];exact q3
   refine fin (r:=ZO size most) ?_
   rw [hB,q3]
   try rfl
  .rw [q3] at q
   cases q
def Has(A:List Int)(to:Int)(b:List Int):Prop:=∃ p s,A=p++(b++s)/\(p.length:Int)=to
theorem Zf3{n:Tree}{d:Int}(hr:Z6 n d=true)(h10:n.kind≠10):
  (Zdg [0] 0 n).length=Z1G n+1/\(Zdg [0] 0 n).getD 0 0=Zab 0 1 n/\Has (Zdg [0] 0 n) 1 (Z91 n 1):=by
 have hb:=Zao n d 1 hr h10
 unfold Zdg
 by_cases h0:n.kind=0
 .have rt:=ZcU hr
  have e:=rt.nil h0
  have hs:Z1G n=0:=by rw [Zha,if_neg (by omega),if_neg (by omega),if_neg (by omega),if_neg (by omega),e.2];try rfl
  have hbl:Z91 n 1=[]:=QL.1 (by omega)
  rw [if_pos h0,hs,hbl]
  refine ⟨rfl,?_,⟨[0],[],rfl,rfl⟩⟩
  rw [ZhJ,if_pos h0]
  try rfl
 .rw [if_neg h0]
  refine ⟨?_,rfl,⟨[Zab 0 1 n],[],by simp,rfl⟩⟩
  rw [Qa,QI]
  show 1+(Z91 n 1).length=_
  omega
theorem ZhR{t:Tree}{m:Int}(h:(Zai t m).2=true):Z6 t 64=true/\t.kind≠10/\(Z1G (Zi t):Int) < m/\Z1G (Zi t) < 131072/\Zai t m=(Zdg [0] 0 (Zi t),true):=by
 unfold Zai at h ⊢
 split at h
 .rename_i h1
  rw [if_pos h1]
  split at h
  .rename_i h2
   rw [if_pos h2]
   exact ⟨h1.1,h1.2,h2.1,h2.2,rfl⟩
  .cases h
 .cases h
theorem ZkT{t:Tree}{m:Int}(h:(Zai t m).2=false):Zai t m=([],false):=by
 unfold Zai at h ⊢
 split
 .rename_i h1
  rw [if_pos h1] at h
  split
  .rename_i h2
   rw [if_pos h2] at h
   cases h
  .try rfl
 .try rfl
theorem enc_len(t:Tree)(m:Int):(Zai t m).1.length<=131072:=by
 cases h:(Zai t m).2 with
 | false=> rw [ZkT h];simp
 | true=>
  obtain ⟨h1,h2,_,h4,h5⟩:=ZhR h
  rw [h5]
  have:=(Zf3 (Jw _ _ h1) (by rw [Z17];exact h2)).1
  dsimp only
  omega
theorem ZfG{t:Tree}(h:0<=ZG t 80 3000):ZE t<=1000000:=by
 have:=Z3k t 80 3000 h
 omega
noncomputable section
def Zj1:ArgL Unit:= .nil
def Zd3(a:Unit):Prop:=True
def Zm4(a:Unit):V U:= .c (.bool true)
def Z9x:Fs U:=fs Zj1 (fun a=> [Zd3 a]) Zm4
def Zjm(a:Tree × Int × Int × Unit):Prop:=(Z6f a.1/\rng a.1)/\InR a.2.1
def Zm6(a:Tree × Int × Int × Unit):V U:= .c (.bool true)
def ZbF:Fs U:=fs Zbr (fun a=> [Zjm a]) Zm6
def ZiT:List (FuncId × Fs U):=[(8,Z4J),(11,Z1E),(10,Z1F)]
def lv7:Zc U:=lvl [([],[]),([1,2],[]),([0],[])]
abbrev W7(Q:QT):=AW (Z1 ZiT) Try.f7 lv7 [] (L2 [] []) Q
theorem vc7(Q:QT)(h:(ZaS ((Tree.mk 1 ([5]) []),1,9,()))/\((((Z4 (Tree.mk 1 ([5]) []) 1 9).2)=true->Z4d ((if (Z4 (Tree.mk 1 ([5]) []) 1 9).2=true then some (Z4 (Tree.mk 1 ([5]) []) 1 9).1 else none),()))/\(((Z4 (Tree.mk 1 ([5]) []) 1 9).2)=true->Z6x ((YB (if (Z4 (Tree.mk 1 ([5]) []) 1 9).2=true then some (Z4 (Tree.mk 1 ([5]) []) 1 9).1 else none)),([[8589934598],[5],[4294967298,4294967296]]),()))/\(Q .ret (L2 [(0,.c (.bool (bif ((Z4 (Tree.mk 1 ([5]) []) 1 9).2) then (decide ((YB (if (Z4 (Tree.mk 1 ([5]) []) 1 9).2=true then some (Z4 (Tree.mk 1 ([5]) []) 1 9).1 else none))=([[8589934598],[5],[4294967298,4294967296]]))) else false)))] [])))):
  W7 Q:=by
 have e_:(W7 Q)=((ZaS ((Tree.mk 1 ([5]) []),1,9,()))/\((Tr (((Z4 (Tree.mk 1 ([5]) []) 1 9).2)=true))/\(((Z4 (Tree.mk 1 ([5]) []) 1 9).2)=true->Z4d ((if (Z4 (Tree.mk 1 ([5]) []) 1 9).2=true then some (Z4 (Tree.mk 1 ([5]) []) 1 9).1 else none),()))/\(Tr (((Z4 (Tree.mk 1 ([5]) []) 1 9).2)=true))/\(Tr (((Z4 (Tree.mk 1 ([5]) []) 1 9).2)=true))/\(Tr (((Z4 (Tree.mk 1 ([5]) []) 1 9).2)=true))/\(Tr (((Z4 (Tree.mk 1 ([5]) []) 1 9).2)=true))/\(Tr (((Z4 (Tree.mk 1 ([5]) []) 1 9).2)=true))/\(((Z4 (Tree.mk 1 ([5]) []) 1 9).2)=true->Z6x ((YB (if (Z4 (Tree.mk 1 ([5]) []) 1 9).2=true then some (Z4 (Tree.mk 1 ([5]) []) 1 9).1 else none)),([[8589934598],[5],[4294967298,4294967296]]),()))/\(Tr (((Z4 (Tree.mk 1 ([5]) []) 1 9).2)=true))/\(Q .ret (L2 [(0,.c (.bool (bif ((Z4 (Tree.mk 1 ([5]) []) 1 9).2) then (decide ((YB (if (Z4 (Tree.mk 1 ([5]) []) 1 9).2=true then some (Z4 (Tree.mk 1 ([5]) []) 1 9).1 else none))=([[8589934598],[5],[4294967298,4294967296]]))) else false)))] [])))):=by kernel_rfl
 exact e_.mpr ⟨h.1,⟨id,h.2.1,id,id,id,id,id,h.2.2.1,(by generalize ((Z4 (Tree.mk 1 ([5]) []) 1 9).2)=b0;revert b0;decide),h.2.2.2⟩⟩
abbrev ZmI:Prop:=AW (Z1 ZiT) Try.f7 lv7 [] (Zs (Zj1.can ()) []) (EQ Try.f7 (Zm4 ()) [])
theorem Zmj(c8:CT 8 Z4J)(c11:CT 11 Z1E)(c10:CT 10 Z1F)(hb:∀ (_:Unit),Zd3 ()->ZmI):CT 7 Z9x:=
 Z3 (l:=[(8,Z4J),(11,Z1E),(10,Z1F)]) Zf rfl (⟨c8,c11,c10,trivial⟩) lv7 Try.func7 rfl rfl 0 (fun _=> rfl) (by decide) (fun _=> hb ())
def ZiU:List (FuncId × Fs U):=[(6,Z9y),(7,Z9x),(8,Z4J),(9,Z9w),(11,Z1E),(10,Z1F)]
def lv3:Zc U:=lvl [([1,2,3],[3]),([1,2,3,13],[3]),([6],[]),([1,2,3,7,8],[3]),([7,8,9,10],[]),([7,8,9,31],[]),([6],[]),([6],[])]
abbrev W3(t:Tree)(size most:Int)(Q:QT):=AW (Z1 ZiU) Try.f3 lv3 [] (L2 [(0,.agg (enc .tree t)),pI 1 size,pI 2 most] []) Q
theorem vc3(t:Tree)(size most:Int)(Q:QT)(h:∀ y_1,y_1=t->∀ y_2,y_2=(YB (if (Z4 y_1 size most).2=true then some (Z4 y_1 size most).1 else none))->∀ y_3,y_3=(Option.isNone (if (Z4 y_1 size most).2=true then some (Z4 y_1 size most).1 else none))->(pre6 (y_1,()))/\(((!(decide (0<=ZG y_1 80 3000)))=true->(Zd3 ())/\(Q .ret (L2 [pB 6 true] [])))/\((!(decide (0<=ZG y_1 80 3000)))=false->(ZaS (y_1,size,most,()))/\((ZaS (y_1,size,most,()))/\(((((Z4 y_1 size most).2) !=((Z4 y_1 size most).2))=true->Q .ret (L2 [pB 6 false] []))/\((((Z4 y_1 size most).2) !=((Z4 y_1 size most).2))=false->(((!(bif (!((Z4 y_1 size most).2)) then y_3 else false)) && ((Z4 y_1 size most).2))=true->Z4d ((if (Z4 y_1 size most).2=true then some (Z4 y_1 size most).1 else none),()))/\(((!(bif (!((Z4 y_1 size most).2)) then y_3 else false)) && ((Z4 y_1 size most).2))=true->Z6x (y_2,(if (Z4 y_1 size most).2=true then (Z4 y_1 size most).1.segs else []),()))/\((bif (bif (!((Z4 y_1 size most).2)) then y_3 else false) then true else (bif ((Z4 y_1 size most).2) then (decide (y_2=(if (Z4 y_1 size most).2=true then (Z4 y_1 size most).1.segs else []))) else false))=true->Zd3 ())/\(Q .ret (L2 [(6,.c (.bool (bif (bif (bif (!((Z4 y_1 size most).2)) then y_3 else false) then true else (bif ((Z4 y_1 size most).2) then (decide (y_2=(if (Z4 y_1 size most).2=true then (Z4 y_1 size most).1.segs else []))) else false)) then true else false)))] [])))))))):
  W3 t size most Q:=by
 have e_:(W3 t size most Q)=(let y_1:=(YY t);let y_2:=(YB (if (Z4 y_1 size most).2=true then some (Z4 y_1 size most).1 else none));let y_3:=(Option.isNone (if (Z4 y_1 size most).2=true then some (Z4 y_1 size most).1 else none));let zz3:=(!((Z4 y_1 size most).2));let zz2:=(((Z4 y_1 size most).2) !=((Z4 y_1 size most).2));let zz1:=(bif ((Z4 y_1 size most).2) then (decide (y_2=(if (Z4 y_1 size most).2=true then (Z4 y_1 size most).1.segs else []))) else false);let zz0:=(bif zz3 then y_3 else false);((pre6 (y_1,()))/\(((!(decide (0<=ZG y_1 80 3000)))=true->(Zd3 ())/\(Q .ret (L2 [pB 6 true] [])))/\((!(decide (0<=ZG y_1 80 3000)))=false->(ZaS (y_1,size,most,()))/\((ZaS (y_1,size,most,()))/\((zz2=true->(Q .ret (L2 [pB 6 false] [])))/\(zz2=false->(Tr (zz3=true))/\(Tr (zz3=true))/\(Tr ((!zz0)=true))/\(Tr (((!zz0) && ((Z4 y_1 size most).2))=true))/\(((!zz0) && ((Z4 y_1 size most).2))=true->Z4d ((if (Z4 y_1 size most).2=true then some (Z4 y_1 size most).1 else none),()))/\(Tr (((!zz0) && ((Z4 y_1 size most).2))=true))/\(Tr (((!zz0) && ((Z4 y_1 size most).2))=true))/\(((!zz0) && ((Z4 y_1 size most).2))=true->Z6x (y_2,(if (Z4 y_1 size most).2=true then (Z4 y_1 size most).1.segs else []),()))/\((!zz0)=true->(True->(!zz0)=true))/\((!zz0)=true->(((Z4 y_1 size most).2)=true->((!zz0) && ((Z4 y_1 size most).2))=true))/\(zz0=false->(!zz0)=true)/\((bif zz0 then true else zz1)=true->Zd3 ())/\(Tr ((bif zz0 then true else zz1)=true))/\(Q .ret (L2 [pB 6 (bif (bif zz0 then true else zz1) then true else false)] []))))))))):=by kernel_rfl
 exact e_.mpr (by intro y_1 y_2 y_3;have hh:=h y_1 (ZX _) y_2 rfl y_3 rfl;exact ⟨hh.1,⟨fun c_1=> ⟨(hh.2.1 c_1).1,(hh.2.1 c_1).2⟩,fun c_1=> ⟨(hh.2.2 c_1).1,⟨(hh.2.2 c_1).2.1,⟨fun c_2=> ((hh.2.2 c_1).2.2.1 c_2),fun c_2=> ⟨id,(by generalize ((Z4 y_1 size most).2)=b0;revert b0;decide),id,id,((hh.2.2 c_1).2.2.2 c_2).1,id,id,((hh.2.2 c_1).2.2.2 c_2).2.1,(by generalize y_3=b0;generalize ((Z4 y_1 size most).2)=b1;revert b0 b1;decide),(by generalize y_3=b0;generalize ((Z4 y_1 size most).2)=b1;revert b0 b1;decide),(by generalize y_3=b0;generalize ((Z4 y_1 size most).2)=b1;revert b0 b1;decide),((hh.2.2 c_1).2.2.2 c_2).2.2.1,(by generalize (decide (y_2=(if (Z4 y_1 size most).2=true then (Z4 y_1 size most).1.segs else [])))=b0;generalize y_3=b1;generalize ((Z4 y_1 size most).2)=b2;revert b0 b1 b2;decide),((hh.2.2 c_1).2.2.2 c_2).2.2.2⟩⟩⟩⟩⟩⟩)
abbrev ZmK(t:Tree)(size most:Int):Prop:=AW (Z1 ZiU) Try.f3 lv3 [] (Zs (Zbr.can (t,size,most,())) []) (EQ Try.f3 (Zm6 (t,size,most,())) [])
theorem Zml(c6:CT 6 Z9y)(c7:CT 7 Z9x)(c8:CT 8 Z4J)(c9:CT 9 Z9w)(c11:CT 11 Z1E)(c10:CT 10 Z1F)(hb:∀ (t:Tree) (size:Int) (most:Int) (_:Unit),Zjm (t,size,most,())->ZmK t size most):CT 3 ZbF:=
 Z3 (l:=[(6,Z9y),(7,Z9x),(8,Z4J),(9,Z9w),(11,Z1E),(10,Z1F)]) Zf rfl (⟨c6,c7,c8,c9,c11,c10,trivial⟩) lv3 Try.func3 rfl rfl 3 (fun _=> rfl) (by decide) (fun ⟨t,size,most,_⟩=> hb t size most ())
end
theorem ZaW{t:Tree}{size most:Int}(hg:rng t)(hs:InR size):OkAr (Z4 t size most).1:=by
 have ok0:OkAr (ZO size most):=OkAr.new size most (by unfold InR at hs;omega)
 unfold Z4
 split
 .rename_i h
  split
  .exact (Z3u (Zi t) _ _ (ok0.give 1) (Z3n _ hg) ⟨64,Jw _ _ h.1⟩).1
  .exact ok0
 .exact ok0
theorem c7:Contract Try.prog cfg 7 Z9x:=by
 refine Zmj c8 c11 c10 ?_
 rintro _ hp
 have e:Z4 (Tree.mk 1 [5] []) 1 9=(Arena.mk [[8589934598],[5],[4294967298,4294967296]] 1 9 4,true):=by rfl
 refine vc7 _ ?_
 simp only [e,if_true,cond_true]
 have ok:Z7P [[8589934598],[5],[4294967298,4294967296]]:=by
  refine ⟨by decide,fun w hw=> ?_⟩
  simp only [QF,List.not_mem_nil,or_false] at hw
  rcases hw with rfl | rfl | rfl <;> exact ⟨by decide,by decide⟩
 refine ⟨⟨⟨by decide,by decide,?_,trivial⟩,by unfold InR;decide⟩,fun _=> ok,fun _=> ok,?_⟩
 .intro x hx
  simp at hx
  omega
 ·(repeat' (first | exact trivial | exact rfl | apply And.intro))
theorem c3:Contract Try.prog cfg 3 ZbF:=by
 refine Zml c6 c7 c8 c9 c11 c10 ?_
 intro t size most _ hp
 obtain ⟨⟨hs,hg⟩,hsz⟩:=hp
 dsimp only at hs hg hsz
 refine vc3 t size most _ ?_
 rintro y1 rfl y2 hy2 y3 hy3
 refine ⟨hs,fun _=> ⟨trivial,by (repeat' (first | exact trivial | exact rfl | apply And.intro))⟩,fun hf=> ?_⟩
 have hf:0<=ZG y1 80 3000:=by simpa using hf
 have hm:=ZfG hf
 have pre:ZaS (y1,size,most,()):=⟨⟨hm,hg⟩,hsz⟩
 have ok:=ZaW (most:=most) hg hsz
 cases hb:(Z4 y1 size most).2 with
 | false=>
  rw [hb] at hy2 hy3
  have hy3:y3=true:=hy3
  subst hy3
  refine ⟨pre,pre,fun q=> (by cases q),fun _=> ⟨fun q=> (by cases q),fun q=> (by cases q),fun _=> trivial,?_⟩⟩
  (repeat' (first | exact trivial | exact rfl | apply And.intro))
 | true=>
  rw [hb] at hy2 hy3
  have hy3:y3=false:=hy3
  have hy2:y2=(Z4 y1 size most).1.segs:=hy2
  subst hy3 hy2
  refine ⟨pre,pre,fun q=> (by cases q),fun _=> ⟨fun q=> ok.seg,fun q=> ok.seg,fun _=> trivial,?_⟩⟩
  have e:decide ((Z4 y1 size most).1.segs=(if (true:Bool)=true then (Z4 y1 size most).1.segs else []))=true:=by simp
  rw [e]
  (repeat' (first | exact trivial | exact rfl | apply And.intro))
end Go.AM.Ytcljdbpmjdgooaa
