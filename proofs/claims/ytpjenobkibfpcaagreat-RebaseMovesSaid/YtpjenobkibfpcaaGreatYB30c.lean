import Derived.Test.YtpjenobkibfpcaaGreatYG30b
set_option linter.unusedSimpArgs false
set_option linter.unusedVariables false
namespace Go.AM.YtpjenobkibfpcaaGreat
open Go.AM Go.Proofs
theorem b68:ZIo:=by
 intro N p q _ hp hN
 obtain ⟨op,oq⟩:=hp
 dsimp only at op oq
 have hN':8*(Z3 p+Z3 q)+1 < N+1:=hN
 obtain ⟨dp,rp⟩:=op.2.2
 obtain ⟨dq,rq⟩:=oq.2.2
 have hst:=Zvh rp rq
 unfold JG at hst
 have gp:=ZR op.2.1
 have gq:=ZR oq.2.1
 have cp:=JO p;have cq:=JO q;have cp':=op.1;have cq':=oq.1
 have fin:∀ {X:Lft} {s:LSt U},rbE p q=X->Y3 cfg Tryz.f68.ntmps Tryz.f68.results.toList (.agg (enc .left (Z21 X))) [] .ret s->Y3 cfg Tryz.f68.ntmps Tryz.f68.results.toList (ZkO (p,q,())) [] .ret s:=by
  intro X s h hs
  subst h
  exact hs
 refine ZIF N p q _ ?_
 intro y1 h1 y2 h2 y3 h3 y4 h4 y5 h5 y6 h6
 replace h1:=h1.symm;replace h2:=h2.symm
 subst h1 h2 h3 h4 h5 h6
 (simp only [iB,vcT,vcS])
 refine ⟨fun h0=> fin (X:=⟨p,q,false,false⟩) (by rw [hst,if_pos h0]) JP,fun h0=> ?_⟩
 rw [JL] at hst
 refine ⟨fun p1=> ⟨⟨oq,⟨V2,gp.1⟩,V2⟩,fin (X:=Z0w q p.old p.new) (by rw [hst,if_pos p1]) JP⟩,fun p1=> ?_⟩
 rw [if_neg p1] at hst
 refine ⟨fun q1=> ⟨⟨op,⟨V2,gq.1⟩,V2⟩,fin (X:=Z0w p q.old q.new) (by rw [hst,if_pos q1]) JP⟩,fun q1=> ?_⟩
 rw [if_neg q1] at hst
 refine ⟨fun hk=> fin (X:=⟨Edit.nil,Edit.nil,false,true⟩) (by rw [hst,if_pos hk]) JP,fun hk=> ?_⟩
 rw [JL] at hst
 refine ⟨fun p2=> ?_,fun p2=> ?_⟩
 .rw [if_pos p2] at hst
  exact ⟨⟨p2,V2,op,oq⟩,by show 8*(Z3 p+Z3 q) < N;omega,fin (X:=Z10 rbE p q) hst JP⟩
 .rw [if_neg p2] at hst
  have:=(Zj rp).kind
  exact ⟨⟨V2,V2,op,oq⟩,by show 8*(Z3 p+Z3 q) < N;omega,fin (X:=Z3b rbE p q) hst JP⟩
theorem ZF5:ZCI:=by
 intro N p q _ hp hN
 obtain ⟨⟨op,oq⟩,np,nq⟩:=hp
 dsimp only at op oq np nq
 have hN':8*(Z3 p.e+Z3 q.e)+2 < N+1:=hN
 obtain ⟨kp,mp,gp,rp⟩:=op
 obtain ⟨kq,mq,gq,rq⟩:=oq
 have fin:∀ {X:PL} {s:LSt U},Y4 rbE p q=X->Y3 cfg Tryz.f162.ntmps Tryz.f162.results.toList (.tup [(false,[.slice (U:=U) .op X.x .unk]),(false,[.slice (U:=U) .op X.y .unk]),(false,[.bool X.c]),(false,[.bool X.a])]) [] .ret s->Y3 cfg Tryz.f162.ntmps Tryz.f162.results.toList (ZeM (p,q,())) [] .ret s:=by
  intro X s h hs
  subst h
  exact hs
 have hu:=Y4.eq_1 rbE p q
 refine ZGE N p q _ ?_
 intro y1 h1 y2 h2 y3 h3 y4 h4 y5 h5 y6 h6 y7 h7 y8 h8 y9 h9 y10 h10 y11 h11 y12 h12
 replace h1:=h1.symm;replace h2:=h2.symm
 subst h1 h2 h3 h4 h5 h6 h7 h8 h9 h10 h11 h12
 (simp only [iB,vcT,vcS])
 refine ⟨fun c=> ⟨trivial,fin (by rw [hu,if_pos c]) JP⟩,fun c=> ?_⟩
 rw [JL] at hu
 refine ⟨fun c=> ⟨trivial,fin (by rw [hu,if_pos c]) JP⟩,fun c=> ?_⟩
 rw [JL] at hu
 refine ⟨fun c=> ⟨trivial,fin (by rw [hu,if_pos c]) JP⟩,fun p0=> ?_⟩
 rw [if_neg p0] at hu
 refine ⟨fun c=> ⟨trivial,fin (by rw [hu,if_pos c]) JP⟩,fun q0=> ?_⟩
 rw [if_neg q0] at hu
 refine ⟨fun c=> ⟨⟨V2,V2⟩,fin (by rw [hu,if_pos c]) JP⟩,fun c=> ?_⟩
 rw [JL] at hu
 refine ⟨fun p1=> ?_,fun p1=> ?_⟩
 .rw [if_pos p1] at hu
  exact ⟨ZbD (rq YS) YS gp,fin hu JP⟩
 rw [if_neg p1] at hu
 refine ⟨fun q1=> ?_,fun q1=> ?_⟩
 .rw [if_pos q1] at hu
  exact ⟨ZbD (rp YS) YS gq,fin hu JP⟩
 .rw [if_neg q1] at hu
  exact ⟨⟨rp YS,rq YS⟩,by show 8*(Z3 p.e+Z3 q.e)+1 < N;omega,trivial,trivial,fin hu JP⟩
def φM(o:Op):Int:=Z9 o.l
theorem Zbf:∀ l:List Tree,(l.map fun t=> ((Zm t:Nat):Int)).sum=Z9 l
 | []=> rfl
 | t ::r=> by rw [Qn,Kz,Zbf r];simp only [Z9];omega
theorem ZHn{o:Op}(h:ZC o):ZE φM (ux o)=φM o:=by
 rcases YX h with k | k | k | k
 .obtain ⟨e,hn⟩:=Zmv h k.1
  have hl:o.l=[]:=by rcases h with h | h | h <;> first | exact h.2.1 | omega
  rw [e,Z8L]
  unfold φM
  rw [hl]
  simp [Z9]
 .rw [Z1Q (.inl k),Z2T φM _ (fun t=> ((Zm t:Nat):Int)) (fun t=> by unfold φM;simp [Z9]),Zbf];try rfl
 .rw [Z1Q (.inr k),Z2T φM _ (fun t=> ((Zm t:Nat):Int)) (fun t=> by unfold φM;simp [Z9]),Zbf];try rfl
 .obtain ⟨e1,e2⟩:=Zmu h k
  rw [e1,<-e2];simp [ZE]
theorem ZmA:∀ l:List Op,ZE φM l<=Zg l
 | []=> Qw _
 | o ::r=> by
  have:=ZmA r
  have:=ZI o
  simp only [ZE,Zg,φM];omega
theorem Zhv:∀ r:List APair,(∀ x∈r,x.of=1->x.p.kind=2)->(Z9 (Z3g r):Int)<=ZE φM (pU r)
 | [],_=> Qw _
 | x ::r,h=> by
  have ih:=Zhv r fun y hy=> h y (Q1 _ hy)
  have n0:0<=ZE φM (pU r):=Z6s fun o _=> by unfold φM;omega
  rw [Z3g]
  by_cases h0:x.of=0
  .rw [if_pos h0,ZiX YS]
   simp only [ZE,Z9,φM];omega
  rw [if_neg h0]
  by_cases h1:x.of=1
  .have k:=h x Q2 h1
   have el:(opU x.p).l=[x.p.t]:=by unfold opU;rw [JL,JL]
   rw [if_pos h1,ZiX YS]
   simp only [ZE,Z9,φM,el];omega
  .rw [if_neg h1]
   by_cases h2:x.of=2
   .rw [ZyH h2];exact ih
   .rw [ZiX h2];simp only [ZE,φM];omega
theorem Zhu:∀ r:List APair,(∀ x∈r,x.of=0\/x.of=1\/x.of=2)->(∀ x∈r,x.of=2->x.q.kind=2)->(Z9 (Z3f r):Int)<=ZE φM (qU r)
 | [],_,_=> Qw _
 | x ::r,h3,h=> by
  have ih:=Zhu r (fun y hy=> h3 y (Q1 _ hy)) fun y hy=> h y (Q1 _ hy)
  have n0:0<=ZE φM (qU r):=Z6s fun o _=> by unfold φM;omega
  rw [Z3f]
  by_cases h0:x.of=0
  .rw [if_pos h0,Zl1 YS]
   simp only [ZE,Z9,φM];omega
  rw [if_neg h0]
  by_cases h1:x.of=1
  .rw [if_pos h1,ZyE h1];exact ih
  .have h2:x.of=2:=by have:=h3 x Q2;omega
   have k:=h x Q2 h2
   have el:(opU x.q).l=[x.q.t]:=by unfold opU;rw [JL,JL]
   rw [if_neg h1,Zl1 h1]
   simp only [ZE,Z9,φM,el];omega
theorem ZyG(r:List APair)(n:Nat):ZE φM (pU (r.drop n))<=ZE φM (pU r)/\ZE φM (qU (r.drop n))<=ZE φM (qU r):=by
 have a:pU r=pU (r.take n)++pU (r.drop n):=by unfold pU;rw [<-List.map_append,<-List.filter_append,List.take_append_drop]
 have b:qU r=qU (r.take n)++qU (r.drop n):=by unfold qU;rw [<-List.map_append,<-List.filter_append,List.take_append_drop]
 have n1:0<=ZE φM (pU (r.take n)):=Z6s fun o _=> by unfold φM;omega
 have n2:0<=ZE φM (qU (r.take n)):=Z6s fun o _=> by unfold φM;omega
 rw [a,b,Z40,Z40]
 omega
def ZrT(ps:List APair)(i:Int)(c a:Bool)(x y:List Op):Prop:=
 (0<=i/\i<=ps.length+1)/\Jq rbE ps [] []=(PL.mk x y c a).app (if i<=ps.length then Jq rbE (ps.drop i.toNat) [] [] else Zh5)/\(x.length:Int)<=3*i/\(y.length:Int)<=3*i
theorem ZAk(m h:List Tree):(Ym m h).x.length<=2/\(Ym m h).y.length<=2:=by
 have k:∀ n,(Yl n).length<=1:=fun n=> by unfold Yl;split <;> simp
 have i:∀ l,(Z0g l).length<=1:=fun l=> by unfold Z0g;split <;> simp
 have k1:=k m.length;have k2:=k h.length;have i1:=i m;have i2:=i h
 unfold Ym
 split
 .exact ⟨V2,V2⟩
 .simp only [Q7];omega
theorem Zut(p q:AUnit):(Y4 rbE p q).x.length<=1/\(Y4 rbE p q).y.length<=1:=by
 unfold Y4
 repeat' (first | (split;simp) | simp)
set_option maxHeartbeats 2000000 in
theorem ZFa:ZCN:=by
 intro N p q _ hp hN
 obtain ⟨k3,l3,op,oq⟩:=hp
 dsimp only at k3 l3 op oq
 have hN':8*(Z3 p+Z3 q) < N+1:=hN
 obtain ⟨dp,hrp⟩:=op.2.2
 obtain ⟨dq,hrq⟩:=oq.2.2
 have cp:=JO p;have cq:=JO q;have cp':=op.1;have cq':=oq.1
 have okp:=ZS hrp
 have okq:=ZS hrq
 have s1:=ZgP hrp
 have s2:=ZgP hrq
 have n1:=kids_sum okp
 have n2:=kids_sum okq
 have u1:=Z4K 2 p.ops 0 okp
 have u2:=Z4K 2 q.ops 0 okq
 have m1:=Z4i p.ops
 have m2:=Z4i q.ops
 have fin:∀ {X:Lft} {s:LSt U},Z3b rbE p q=X->Y3 cfg Tryz.f110.ntmps Tryz.f110.results.toList (.agg (enc .left (Z21 X))) [] .ret s->Y3 cfg Tryz.f110.ntmps Tryz.f110.results.toList (ZeO (p,q,())) [] .ret s:=by
  intro X s h hs
  subst h
  exact hs
 have hL:Z3b rbE p q=if (ZB (Zr 0 2 p.ops) (Zr 0 2 q.ops) []).2=true/\p.list=q.list then
   ⟨Yx p.list (Jq rbE (ZB (Zr 0 2 p.ops) (Zr 0 2 q.ops) []).1 [] []).x,Yx p.list (Jq rbE (ZB (Zr 0 2 p.ops) (Zr 0 2 q.ops) []).1 [] []).y,(Jq rbE (ZB (Zr 0 2 p.ops) (Zr 0 2 q.ops) []).1 [] []).c,(Jq rbE (ZB (Zr 0 2 p.ops) (Zr 0 2 q.ops) []).1 [] []).a⟩
  else ⟨Edit.nil,Edit.nil,false,true⟩:=rfl
 refine ZHb N p q _ ?_
 (simp only [iB,vcT,vcS])
 have mo1:Zg p.ops<=20000000000:=YS
 have mo2:Zg q.ops<=20000000000:=YS
 refine ⟨⟨⟨okp,mo1⟩,V2⟩,⟨⟨okq,mo2⟩,V2⟩,⟨V2,V2⟩,fun hb=> ?_,fun hb=> ?_⟩
 .refine fin (X:=⟨Edit.nil,Edit.nil,false,true⟩) ?_ JP
  rw [hL,if_neg]
  rintro ⟨h1,h2⟩
  rcases hb with h | h
  .rw [h1] at h;cases h
  .exact h h2
 .obtain ⟨r,er,⟨e1,e2⟩,hr⟩:=ZgY _ _ _ _ (Qb _) hb.1
  rw [Qr] at er
  rw [if_pos hb,er] at hL
  have pl:=Zso _ (Zr 0 2 p.ops) (Zr 0 2 q.ops) [] (Qb _)
  rw [er] at pl
  have pl:r.length<=8000000:=by simp only [Q8] at pl;omega
  have f1:pU r=p.ops.flatMap ux:=by rw [<-Z1o 2 p.ops 0,<-e1,X5];try rfl
  have f2:qU r=q.ops.flatMap ux:=by rw [<-Z1o 2 q.ops 0,<-e2,X5];try rfl
  have of3:∀ x∈r,x.of=0\/x.of=1\/x.of=2:=fun x hx=> by rcases hr x hx with h | h | h <;> omega
  have o1:∀ x∈r,x.of=1->x.p.kind=2:=fun x hx h=> by
   rcases hr x hx with ⟨_,m,a⟩ | ⟨h',_⟩ | ⟨h',_⟩
   .exact Z0D m a
   .omega
   .omega
  have o2:∀ x∈r,x.of=2->x.q.kind=2:=fun x hx h=> by
   rcases hr x hx with ⟨h',_⟩ | ⟨_,m,a⟩ | ⟨h',_⟩
   .omega
   .exact Z0D m a
   .omega
  have gm:∀ i:Nat,Z9 (Z3g (r.drop i))<=20000000000/\Z9 (Z3f (r.drop i))<=20000000000:=by
   intro i
   have a:=Zhv (r.drop i) fun x hx=> o1 x (Xm hx)
   have b:=Zhu (r.drop i) (fun x hx=> of3 x (Xm hx)) fun x hx=> o2 x (Xm hx)
   obtain ⟨d1,d2⟩:=ZyG r i
   rw [f1,Z3Z φM (fun o=> ZHn) okp] at d1
   rw [f2,Z3Z φM (fun o=> ZHn) okq] at d2
   have:=ZmA p.ops;have:=ZmA q.ops
   omega
  refine Z5 (ι:=Int × Bool × Bool × List Op × List Op) (fun s=> Z1D p q s.1 s.2.1 s.2.2.1 s.2.2.2.1 s.2.2.2.2) (fun s=> ZrT r s.1 s.2.1 s.2.2.1 s.2.2.2.1 s.2.2.2.2) (fun s=> ((r.length:Int)+1 - s.1).toNat) (0,false,false,[],[]) rfl ⟨⟨V2,V2⟩,?_,by simp,by simp⟩ ?_
  .dsimp only
   rw [V0]
   exact (PL.nil_app _).symm
  rintro ⟨i,c,a,x,y⟩ ⟨⟨i0,i1⟩,f3,lx,ly⟩
  dsimp only at i0 i1 f3 lx ly
  have cgo:∀ (c1:Bool) (x1 y1:List Op) (N0:LSt U->Prop) (Q:AExit->LSt U->Prop),i<=r.length->x1=x++(Ym (Z3g (r.drop i.toNat)) (Z3f (r.drop i.toNat))).x->y1=y++(Ym (Z3g (r.drop i.toNat)) (Z3f (r.drop i.toNat))).y->c1=(c || (Ym (Z3g (r.drop i.toNat)) (Z3f (r.drop i.toNat))).c)->
    (∀ (i':Int) (c' a':Bool) (x' y':List Op),ZrT r i' c' a' x' y'->i < i'->N0 (Z1D p q i' c' a' x' y'))->
    ZgC N [1,1,1,1,1,0,1,0,0,1,0,0,1,1] (Z7r p q i a c1 x1 y1) (AExit.inBlock 1 (ZgB N [1,1,1,1,1,0,1,0,0,1,1] (AExit.then N0 (AExit.inBlock 0 (ZgB N [1,1,1,1,1,1] Q))))):=by
   intro c1 x1 y1 N0 Q hi hx1 hy1 hc1 hN0
   rw [if_pos hi] at f3
   rw [Zl4 rbE _ [] [] fun x hx=> of3 x (Xm hx),Xo,Qr,Qr] at f3
   have gc:=ZdB (r.drop i.toNat)
   rw [Qk] at gc
   rw [show i.toNat+(Z07 (r.drop i.toNat)).toNat=(i+Z07 (r.drop i.toNat)).toNat by omega] at f3
   obtain ⟨g1,g2⟩:=ZAk (Z3g (r.drop i.toNat)) (Z3f (r.drop i.toNat))
   have ga:(Ym (Z3g (r.drop i.toNat)) (Z3f (r.drop i.toNat))).a=false:=by unfold Ym;split <;> rfl
   have hx1':x1.length<=x.length+2:=by rw [hx1,Q7];omega
   have hy1':y1.length<=y.length+2:=by rw [hy1,Q7];omega
   refine Zub N _ _ _ _ _ _ _ _ _ ?_
   intro z1 q1 z2 q2 z3 q3 z4 q4
   have qr:z1.1=r:=by rw [q1];exact er
   simp only [qr] at q2 ⊢
   subst q3 q4
   (simp only [iB,vcT,vcS])
   refine ⟨fun hat=> ?_,fun hat=> ?_⟩
   .have hd:r.drop (i+Z07 (r.drop i.toNat)).toNat=z2 ::r.drop (i+Z07 (r.drop i.toNat)+1).toNat:=by rw [q2];exact ZQ YS hat _
    rw [hd] at f3
    dsimp only at f3
    have hmem:z2∈r:=by rw [q2];exact Ze YS _
    have h0:z2.of=0:=ZqJ (r.drop i.toNat) _ z2 (by rw [Xo,show i.toNat+(Z07 (r.drop i.toNat)).toNat=(i+Z07 (r.drop i.toNat)).toNat by omega];exact hd)
    rcases hr z2 hmem with ⟨h,_⟩ | ⟨h,_⟩ | ⟨_,⟨m1,a1⟩,m2,a2⟩
    .omega
    .omega
    obtain ⟨b1,ho1,uo1⟩:=Z2x okp m1
    obtain ⟨b2,ho2,uo2⟩:=Z2x okq m2
    have w1:=(Z6n hrp ho1 uo1).1
    have w2:=(Z6n hrq ho2 uo2).1
    obtain ⟨ul1,ul2⟩:=Zut z2.p z2.q
    refine ⟨⟨YS,hat⟩,⟨YS,hat⟩,⟨⟨Zop op ho1 uo1,Zop oq ho2 uo2⟩,fun k=> ?_,fun k=> ?_⟩,by show 8*(Z3 z2.p.e+Z3 z2.q.e)+2 < N;omega,YS,YS,?_⟩
    .have k:z2.p.kind=2:=k
     have:=uo1.alone (.inr k)
     rw [a1,decide_eq_true k] at this;cases this
    .have k:z2.q.kind=2:=k
     have:=uo2.alone (.inr k)
     rw [a2,decide_eq_true k] at this;cases this
    refine Zkf N _ _ _ _ _ _ _ _ _ _ ?_
    simp only [er]
    refine ⟨V3,hN0 _ _ _ _ _ ⟨⟨YS,YS⟩,?_,by rw [List.length_append];omega,by rw [List.length_append];omega⟩ YS⟩
    rw [V0,f3,hx1,hy1,hc1]
    simp [PL.app,ga,Xv]
   .rw [Q9 YS] at f3
    dsimp only at f3
    refine Zkf N _ _ _ _ _ _ _ _ _ _ ?_
    simp only [er]
    refine ⟨V3,hN0 _ _ _ _ _ ⟨⟨YS,YS⟩,?_,YS,YS⟩ YS⟩
    rw [JL,f3,hx1,hy1,hc1,PL.app_nil]
    simp [PL.app,ga]
  refine Zua N p q _ _ _ _ _ _ _ ?_
  intro z1 q1
  have qr:z1.1=r:=by rw [q1];exact er
  simp only [qr]
  (simp only [iB,vcT,vcS])
  obtain ⟨ma,mb⟩:=gm i.toNat
  have la:=Zq (Z3g (r.drop i.toNat));have lb:=Zq (Z3f (r.drop i.toNat))
  have nx:∀ (i':Int) (c' a':Bool) (x' y':List Op),i<=r.length->ZrT r i' c' a' x' y'->i < i'->∃ j:Int × Bool × Bool × List Op × List Op,Z1D p q i' c' a' x' y'=Z1D p q j.1 j.2.1 j.2.2.1 j.2.2.2.1 j.2.2.2.2/\ZrT r j.1 j.2.1 j.2.2.1 j.2.2.2.1 j.2.2.2.2/\((r.length:Int)+1 - j.1).toNat < ((r.length:Int)+1 - i).toNat:=by
   intro i' c' a' x' y' hi hI hlt
   exact ⟨(i',c',a',x',y'),rfl,hI,V2⟩
  generalize hA:Z3g (r.drop i.toNat)=A at*
  generalize hB:Z3f (r.drop i.toNat)=B at*
  refine ⟨fun hi=> ⟨⟨i0,hi,V2⟩,fun hg=> ?_,fun hg=> ?_⟩,fun hi=> ?_⟩
  .have e:Ym A B=⟨Yl B.length,Yl A.length,!Z2u A B,false⟩:=by
    unfold Ym
    rw [if_pos ⟨by rintro rfl;simp at hg,by rintro rfl;simp at hg⟩]
   refine ⟨fun _=> ⟨V2,V2⟩,⟨V2,V2⟩,⟨V2,V2⟩,cgo _ _ _ _ _ hi (by rw [e];simp) (by rw [e];simp) (by rw [e];cases c <;> rfl) fun i' c' a' x' y'=> nx i' c' a' x' y' hi⟩
  .have e:Ym A B=⟨Z0g A++Yl B.length,Yl A.length++Z0g B,false,false⟩:=by
    unfold Ym
    rw [if_neg]
    rintro ⟨h1,h2⟩
    have:=Xt.2 h1
    have:=Xt.2 h2
    omega
   have i1:(Z0g A).length<=1:=by unfold Z0g;split <;> simp
   have k1:(Yl A.length).length<=1:=by unfold Yl;split <;> simp
   refine ⟨by dsimp only [ZaV];omega,⟨by simp only [List.length_append];omega,V2⟩,⟨V2,V2⟩,by dsimp only [ZaV];rw [List.length_append];simp only [Int.toNat_natCast];omega,cgo _ _ _ _ _ hi (by rw [e];simp) (by rw [e];simp) (by rw [e];simp) fun i' c' a' x' y'=> nx i' c' a' x' y' hi⟩
  .rw [JL,PL.app_nil] at f3
   refine ⟨by dsimp only [Zfd];omega,by dsimp only [Zfd];omega,fin (X:=⟨Yx p.list x,Yx p.list y,c,a⟩) (by rw [hL,f3]) JP⟩
def gl4{α:Type}(s t:List α × List α × Bool × Bool):List α × List α × Bool × Bool:=(s.1++t.1,s.2.1++t.2.1,s.2.2.1 || t.2.2.1,s.2.2.2 || t.2.2.2)
theorem Zhp{α:Type}(s t u:List α × List α × Bool × Bool):gl4 (gl4 s t) u=gl4 s (gl4 t u):=by simp [gl4,Xv]
theorem ZqG{α:Type}(s:List α × List α × Bool × Bool):gl4 s ([],[],false,false)=s:=by simp [gl4]
theorem ZyO{α:Type}(s:List α × List α × Bool × Bool):gl4 ([],[],false,false) s=s:=by simp [gl4]
noncomputable def Z9n(p q:List WEdit)(n:Int):List WEdit × List WEdit × Bool × Bool:=match Z0Y p n,Z0Y q n with
 | some a,none=> ([a],[],false,false)
 | none,some b=> ([],[b],false,false)
 | some a,some b=> (Zpb a b,Zpb b a,Jj a b,Yi a b)
 | none,none=> ([],[],false,false)
theorem ZkQ(p q:List WEdit)(n:Int)(r:List Int):Y9 p q (n ::r)=gl4 (Z9n p q n) (Y9 p q r):=by
 rw [Y9]
 unfold Z9n gl4
 cases Z0Y p n <;> cases Z0Y q n <;> simp
noncomputable def ZbX(f:Edit->Edit->Lft)(p q:List Kid)(n:Int):List Kid × List Kid × Bool × Bool:=
 (Je n (f (Ys p n) (Ys q n)).x,Je n (f (Ys p n) (Ys q n)).y,(f (Ys p n) (Ys q n)).c,(f (Ys p n) (Ys q n)).a)
theorem ZkR(f:Edit->Edit->Lft)(p q:List Kid)(n:Int)(r:List Int):YB f p q (n ::r)=gl4 (ZbX f p q n) (YB f p q r):=rfl
theorem ZyD(e:Edit):rbE e Edit.nil=⟨e,Edit.nil,false,false⟩:=Ziw (Z3 e+2) e
theorem Zvi(e:Edit):rbE Edit.nil e=⟨Edit.nil,e,false,false⟩:=by
 unfold rbE
 rw [Z0K,show 3+Z3 e=(Z3 e+2)+1 by omega]
 exact ZeX _ e
theorem Zlp:∀ (k:Nat) (a b:List Int),a.length+b.length<=k->(Yv a b).length<=a.length+b.length:=by
 intro k
 induction k with
 | zero=>
  intro a b h
  have e1:a=[]:=Q4 YS
  have e2:b=[]:=Q4 YS
  subst e1 e2
  rw [Yv];simp
 | succ k ih=>
  intro a b h
  match a,b with
  | [],b=> rw [Yv];simp
  | x ::a,[]=> rw [Z17];simp
  | x ::a,y ::b=>
   simp only [Q6] at h
   rw [Yv]
   have h1:=ih a (y ::b) (by simp only [Q6];omega)
   have h2:=ih (x ::a) b (by simp only [Q6];omega)
   have h3:=ih a b YS
   simp only [Q6] at h1 h2 ⊢
   split
   .simp only [Q6];omega
   .split
    .simp only [Q6];omega
    .simp only [Q6];omega
theorem ZqT(a b:Int):(a !=b)=decide (a≠b):=by rw [Qs];simp
set_option maxHeartbeats 2000000 in
theorem ZFb:ZCO:=by
 intro N p q _ hp hN
 obtain ⟨k2,l2,op,oq⟩:=hp
 dsimp only at k2 l2 op oq
 have hN':8*(Z3 p+Z3 q) < N+1:=hN
 obtain ⟨dp,rp⟩:=op.2.2
 obtain ⟨dq,rq⟩:=oq.2.2
 have cp:=JO p;have cq:=JO q;have cp':=op.1;have cq':=oq.1
 have kl:=fun l=> Zbd l
 have wl1:p.words.length<=1000000/\q.words.length<=1000000:=⟨YS,YS⟩
 have kn:∀ l:List Kid,65600*l.length<=Z3h l:=by
  intro l
  induction l with
  | nil=> simp
  | cons a r ih=> simp only [Q6,Z3h,Zga];omega
 have kl1:=kn p.kids
 have kl2:=kn q.kids
 have kl3:p.kids.length<=1000000/\q.kids.length<=1000000:=⟨YS,YS⟩
 generalize hw:Yv (p.words.map WEdit.at_) (q.words.map WEdit.at_)=wn
 generalize hk:Yv (p.kids.map KidOf.at_) (q.kids.map KidOf.at_)=kn'
 have wnl:wn.length<=2000000:=by rw [<-hw];have:=Zlp _ (p.words.map WEdit.at_) (q.words.map WEdit.at_) (Qb _);simp only [Qv] at this;omega
 have knl:kn'.length<=2000000:=by rw [<-hk];have:=Zlp _ (p.kids.map KidOf.at_) (q.kids.map KidOf.at_) (Qb _);simp only [Qv] at this;omega
 have fin:∀ {X:Lft} {s:LSt U},Z10 rbE p q=X->Y3 cfg Tryz.f109.ntmps Tryz.f109.results.toList (.agg (enc .left (Z21 X))) [] .ret s->Y3 cfg Tryz.f109.ntmps Tryz.f109.results.toList (ZeP (p,q,())) [] .ret s:=by
  intro X s h hs
  subst h
  exact hs
 refine ZHc N p q _ ?_
 (simp only [Tree.eta,Edit.eta,Tree.kind_mk,Tree.words_mk,Tree.kids_mk])
 refine ⟨⟨⟨wl1.1,kl3.1⟩,wl1.2,kl3.2⟩,?_⟩
 refine Z5 (ι:=Int × Bool × Bool × List WEdit × List WEdit) (fun s=> Z0V p q s.1 s.2.1 s.2.2.1 s.2.2.2.1 s.2.2.2.2) (fun s=> (0<=s.1/\s.1<=wn.length)/\Y9 p.words q.words wn=gl4 (s.2.2.2.1,s.2.2.2.2,s.2.1,s.2.2.1) (Y9 p.words q.words (wn.drop s.1.toNat))/\(s.2.2.2.1.length:Int)<=s.1/\(s.2.2.2.2.length:Int)<=s.1)
  (fun s=> ((wn.length:Int) - s.1).toNat) (0,false,false,[],[]) rfl ⟨by simp,by exact (ZyO _).symm,by simp,by simp⟩ ?_
 rintro ⟨i,c,a,X,Y⟩ ⟨⟨i0,i1⟩,f3,lx,ly⟩
 dsimp only at i0 i1 f3 lx ly
 refine Zud N p q _ _ _ _ _ _ _ ?_
 intro y1 h1 y2 h2 y3 h3 y4 h4 y5 h5 y6 h6 y7 h7 y8 h8 y9 h9
 subst h1 h2
 rw [hw] at h3
 subst h3
 subst h7 h8 h9
 (simp only [iB,vcT,vcS])
 refine ⟨fun hi=> ?_,fun hi=> ?_⟩
 .have hd:y3.drop i.toNat=y4 ::y3.drop (i+1).toNat:=by rw [h4];exact ZQ i0 hi 0
  rw [hd,ZkQ,<-Zhp] at f3
  have hmem:y4∈y3:=by rw [h4];exact Ze YS _
  have hin:Z0Y y1.words y4≠none\/Z0Y y2.words y4≠none:=by
   rw [<-hw] at hmem
   have:=Zfw _ _ _ (Qb _) _ hmem
   refine this.imp (fun h e=> ?_) (fun h e=> ?_)
   .obtain ⟨w,hw1,hw2⟩:=QM.1 h
    have:=XF.1 e w hw1
    simp [hw2] at this
   .obtain ⟨w,hw1,hw2⟩:=QM.1 h
    have:=XF.1 e w hw1
    simp [hw2] at this
  have F1:=Zhm y1.words y4
  have F2:=Zhm y2.words y4
  have nx:∀ (c' a':Bool) (X' Y':List WEdit),gl4 (X,Y,c,a) (Z9n y1.words y2.words y4)=(X',Y',c',a')->X'.length<=X.length+1->Y'.length<=Y.length+1->
    ∃ j:Int × Bool × Bool × List WEdit × List WEdit,Z0V y1 y2 (i+1) c' a' X' Y'=Z0V y1 y2 j.1 j.2.1 j.2.2.1 j.2.2.2.1 j.2.2.2.2/\
     ((0<=j.1/\j.1<=y3.length)/\Y9 y1.words y2.words y3=gl4 (j.2.2.2.1,j.2.2.2.2,j.2.1,j.2.2.1) (Y9 y1.words y2.words (y3.drop j.1.toNat))/\(j.2.2.2.1.length:Int)<=j.1/\(j.2.2.2.2.length:Int)<=j.1)/\((y3.length:Int) - j.1).toNat < ((y3.length:Int) - i).toNat:=by
   intro c' a' X' Y' he l1 l2
   exact ⟨(i+1,c',a',X',Y'),rfl,⟨⟨V2,V2⟩,by rw [f3,he],V2,V2⟩,V2⟩
  generalize ZfZ y1.words y4=IP at*
  generalize ZfZ y2.words y4=IQ at*
  have s1:∀ x:WEdit,[x].length=1:=fun _=> rfl
  have pl:∀ (x:WEdit) (m:Int),(Z4d x m).length<=1:=fun x m=> by unfold Z4d;split <;> simp
  refine ⟨⟨i0,hi⟩,wl1.1,⟨i0,hi⟩,wl1.2,fun hb=> ?_,fun hb=> ⟨fun ha=> ?_,fun ha=> ?_⟩⟩
  .rcases F2 with ⟨fq,iq⟩ | ⟨y,fq,⟨iq0,iq1⟩,gb⟩
   .rcases F1 with ⟨fp,ip⟩ | ⟨x,fp,⟨ip0,ip1⟩,ga⟩
    .exact absurd fq (hin.resolve_left fun h=> h fp)
    .rw [h5,ga]
     have e:Z9n y1.words y2.words y4=([x],[],false,false):=by unfold Z9n;rw [show Z0Y y1.words y4=some x from fp,show Z0Y y2.words y4=none from fq]
     exact ⟨⟨ip0,YS⟩,by rw [s1];omega,V3,nx _ _ _ _ (by rw [e];simp [gl4]) (by simp) (by simp)⟩
   .omega
  .rcases F2 with ⟨fq,iq⟩ | ⟨y,fq,⟨iq0,iq1⟩,gb⟩
   .omega
   .rcases F1 with ⟨fp,ip⟩ | ⟨x,fp,⟨ip0,ip1⟩,ga⟩
    .rw [h6,gb]
     have e:Z9n y1.words y2.words y4=([],[y],false,false):=by unfold Z9n;rw [show Z0Y y1.words y4=none from fp,show Z0Y y2.words y4=some y from fq]
     exact ⟨⟨iq0,YS⟩,by rw [s1];omega,V3,nx _ _ _ _ (by rw [e];simp [gl4]) (by simp) (by simp)⟩
    .omega
  .rcases F2 with ⟨fq,iq⟩ | ⟨y,fq,⟨iq0,iq1⟩,gb⟩
   .omega
   rcases F1 with ⟨fp,ip⟩ | ⟨x,fp,⟨ip0,ip1⟩,ga⟩
   .omega
   have e:Z9n y1.words y2.words y4=(Z4d x y.mask,Z4d y x.mask,Jj x y,Yi x y):=by unfold Z9n;rw [show Z0Y y1.words y4=some x from fp,show Z0Y y2.words y4=some y from fq];try rfl
   rw [h5,h6,ga,gb]
   have wx:=Zok op y4 x fp
   have wy:=Zok oq y4 y fq
   obtain ⟨⟨am1,am2⟩,_⟩:=ZdU wx.1.2.1 wy.1.2.1
   have z0:(0:Int)<=0/\(0:Int) < 18446744073709551616:=V1
   have l1:=pl x y.mask
   have l2:=pl y x.mask
   refine ⟨⟨ip0,YS⟩,⟨iq0,YS⟩,?_⟩
   have am:0<=Z1h x.mask y.mask/\Z1h x.mask y.mask < 256:=⟨am1,am2⟩
   refine ⟨fun _=> ⟨z0,wx.1.2.2.1,am⟩,fun _=> ⟨z0,wy.1.2.2.1,am⟩,fun _=> ⟨z0,wx.1.2.2.2,am⟩,fun _=> ⟨z0,wy.1.2.2.2,am⟩,⟨wx.1,wy.1.2.1⟩,by show (X.length+(Z4d x y.mask).length)*32<=_;omega,⟨wy.1,wx.1.2.1⟩,by show (Y.length+(Z4d y x.mask).length)*32<=_;omega,V3,nx _ _ _ _ ?_ ?_ ?_⟩
   .rw [e,ZqT,ZqT]
    cases c <;> cases a <;> rfl
   .rw [Q7];exact XO l1 _
   .rw [Q7];exact XO l2 _
 .rw [Q9 YS,show Y9 y1.words y2.words []=([],[],false,false) from rfl,ZqG] at f3
  refine Z5 (ι:=Int × Bool × Bool × List Kid × List Kid) (fun s=> Yt y1 y2 X Y s.1 s.2.1 s.2.2.1 s.2.2.2.1 s.2.2.2.2) (fun s=> (0<=s.1/\s.1<=kn'.length)/\gl4 ([],[],c,a) (YB rbE y1.kids y2.kids kn')=gl4 (s.2.2.2.1,s.2.2.2.2,s.2.1,s.2.2.1) (YB rbE y1.kids y2.kids (kn'.drop s.1.toNat))/\(s.2.2.2.1.length:Int)<=s.1/\(s.2.2.2.2.length:Int)<=s.1)
   (fun s=> ((kn'.length:Int) - s.1).toNat) (0,c,a,[],[]) rfl ⟨by simp,rfl,by simp,by simp⟩ ?_
  rintro ⟨j,c2,a2,KX,KY⟩ ⟨⟨j0,j1⟩,g3,gx,gy⟩
  dsimp only at j0 j1 g3 gx gy
  refine Zuc N y1 y2 _ _ _ _ _ _ _ _ _ ?_
  intro z1 q1 z2 q2 z3 q3 z4 q4 z5 q5 z6 q6 z7 q7 z8 q8 z9 q9 z10 q10 z11 q11
  subst q1 q2
  rw [hk] at q4
  subst q4
  subst q8 q9 q10 q11
  (simp only [iB,vcT,vcS])
  refine ⟨fun hj=> ?_,fun hj=> ?_⟩
  .have hd:z4.drop j.toNat=z5 ::z4.drop (j+1).toNat:=by rw [q5];exact ZQ j0 hj 0
   rw [hd,ZkR,<-Zhp] at g3
   have hmem:z5∈z4:=by rw [q5];exact Ze YS _
   have hin:z1.kids.find? (fun k=> decide (k.at_=z5))≠none\/z2.kids.find? (fun k=> decide (k.at_=z5))≠none:=by
    have hm:=hmem
    rw [<-hk] at hm
    have:=Zfw _ _ _ (Qb _) _ hm
    refine this.imp (fun h e=> ?_) (fun h e=> ?_)
    .obtain ⟨w,hw1,hw2⟩:=QM.1 h
     have:=XF.1 e w hw1
     simp [hw2] at this
    .obtain ⟨w,hw1,hw2⟩:=QM.1 h
     have:=XF.1 e w hw1
     simp [hw2] at this
   have F1:=Zhn z1.kids z5
   have F2:=Zhn z2.kids z5
   have kp:=Zx4 op z5
   have kq:=Zx4 oq z5
   have hm:=hmem
   rw [<-hk] at hm
   obtain ⟨m1,_,_⟩:=ZlR rp rq hm
   have nx:∀ (c' a':Bool) (X' Y':List Kid),gl4 (KX,KY,c2,a2) (ZbX rbE z1.kids z2.kids z5)=(X',Y',c',a')->
     ∃ s:Int × Bool × Bool × List Kid × List Kid,Yt z1 z2 X Y (j+1) c' a' X' Y'=Yt z1 z2 X Y s.1 s.2.1 s.2.2.1 s.2.2.2.1 s.2.2.2.2/\
      ((0<=s.1/\s.1<=z4.length)/\gl4 ([],[],c,a) (YB rbE z1.kids z2.kids z4)=gl4 (s.2.2.2.1,s.2.2.2.2,s.2.1,s.2.2.1) (YB rbE z1.kids z2.kids (z4.drop s.1.toNat))/\(s.2.2.2.1.length:Int)<=s.1/\(s.2.2.2.2.length:Int)<=s.1)/\((z4.length:Int) - s.1).toNat < ((z4.length:Int) - j).toNat:=by
    intro c' a' X' Y' he
    have sk:∀ e:Edit,(Je z5 e).length<=1:=fun e=> by unfold Je;split <;> simp
    have l1:X'.length<=KX.length+1:=by
     have:X'=KX++Je z5 (rbE (Ys z1.kids z5) (Ys z2.kids z5)).x:=(congrArg (fun t=> t.1) he).symm
     rw [this,Q7]
     exact XO (sk _) _
    have l2:Y'.length<=KY.length+1:=by
     have:Y'=KY++Je z5 (rbE (Ys z1.kids z5) (Ys z2.kids z5)).y:=(congrArg (fun t=> t.2.1) he).symm
     rw [this,Q7]
     exact XO (sk _) _
    exact ⟨(j+1,c',a',X',Y'),rfl,⟨⟨V2,V2⟩,by rw [g3,he],V2,V2⟩,V2⟩
   generalize Z5a z1.kids z5=IP at*
   generalize Z5a z2.kids z5=IQ at*
   have s1:∀ x:Kid,[x].length=1:=fun _=> rfl
   have r0:(0:Int)<=j/\j < z4.length:=⟨j0,hj⟩
   have inr_:InR (j+1):=V3
   refine ⟨⟨j0,hj⟩,kl3.1,⟨j0,hj⟩,kl3.2,fun hb=> ?_,fun hb=> ⟨fun ha=> ?_,fun ha=> ?_⟩⟩
   .rcases F2 with ⟨fq,iq⟩ | ⟨y,fq,⟨iq0,iq1⟩,gb⟩
    .rcases F1 with ⟨fp,ip⟩ | ⟨x,fp,⟨ip0,ip1⟩,ga⟩
     .exact absurd fq (hin.resolve_left fun h=> h fp)
     .rw [q6,ga]
      have e1:Ys z1.kids z5=x.e:=by unfold Ys;rw [show z1.kids.find? (fun k=> decide (k.at_=z5))=some x from fp];try rfl
      have e2:Ys z2.kids z5=Edit.nil:=by unfold Ys;rw [show z2.kids.find? (fun k=> decide (k.at_=z5))=none from fq];try rfl
      have e:ZbX rbE z1.kids z2.kids z5=(Je z5 x.e,[],false,false):=by unfold ZbX;rw [e1,e2,ZyD];exact congrArg _ (congrArg (·,false,false) (Z2A z5))
      refine ⟨⟨ip0,YS⟩,fun h=> ⟨r0,by rw [s1];omega,fun h=> absurd trivial h,inr_,nx _ _ _ _ ?_⟩,fun h=> ⟨fun h=> absurd trivial h,inr_,nx _ _ _ _ ?_⟩⟩
      .rw [e,Z1s h];cases c2 <;> cases a2 <;> simp [gl4]
      .rw [e,show Je z5 x.e=[] from if_pos h];cases c2 <;> cases a2 <;> simp [gl4]
    .omega
   .rcases F2 with ⟨fq,iq⟩ | ⟨y,fq,⟨iq0,iq1⟩,gb⟩
    .omega
    .rcases F1 with ⟨fp,ip⟩ | ⟨x,fp,⟨ip0,ip1⟩,ga⟩
     .rw [q7,gb]
      have e1:Ys z1.kids z5=Edit.nil:=by unfold Ys;rw [show z1.kids.find? (fun k=> decide (k.at_=z5))=none from fp];try rfl
      have e2:Ys z2.kids z5=y.e:=by unfold Ys;rw [show z2.kids.find? (fun k=> decide (k.at_=z5))=some y from fq];try rfl
      have e:ZbX rbE z1.kids z2.kids z5=([],Je z5 y.e,false,false):=by unfold ZbX;rw [e1,e2,Zvi];exact congrArg (·,_) (Z2A z5)
      refine ⟨⟨iq0,YS⟩,fun h=> absurd trivial h,fun h=> ⟨r0,by rw [s1];omega,inr_,nx _ _ _ _ ?_⟩,fun h=> ⟨inr_,nx _ _ _ _ ?_⟩⟩
      .rw [e,Z1s h];cases c2 <;> cases a2 <;> simp [gl4]
      .rw [e,show Je z5 y.e=[] from if_pos h];cases c2 <;> cases a2 <;> simp [gl4]
     .omega
   .rcases F2 with ⟨fq,iq⟩ | ⟨y,fq,⟨iq0,iq1⟩,gb⟩
    .omega
    rcases F1 with ⟨fp,ip⟩ | ⟨x,fp,⟨ip0,ip1⟩,ga⟩
    .omega
    rw [q6,q7,ga,gb]
    have e1:Ys z1.kids z5=x.e:=by unfold Ys;rw [show z1.kids.find? (fun k=> decide (k.at_=z5))=some x from fp];try rfl
    have e2:Ys z2.kids z5=y.e:=by unfold Ys;rw [show z2.kids.find? (fun k=> decide (k.at_=z5))=some y from fq];try rfl
    have e:ZbX rbE z1.kids z2.kids z5=(Je z5 (rbE x.e y.e).x,Je z5 (rbE x.e y.e).y,(rbE x.e y.e).c,(rbE x.e y.e).a):=by unfold ZbX;rw [e1,e2]
    rw [e1] at kp m1
    rw [e2] at kq m1
    simp only [Z21]
    generalize rbE x.e y.e=L at*
    refine ⟨⟨ip0,YS⟩,⟨iq0,YS⟩,⟨kp,kq⟩,by show 8*(Z3 x.e+Z3 y.e)+1 < N;omega,fun hx=> ⟨r0,by rw [s1];omega,fun hy=> ⟨r0,by rw [s1];omega,inr_,nx _ _ _ _ ?_⟩,fun hy=> ⟨inr_,nx _ _ _ _ ?_⟩⟩,fun hx=> ⟨fun hy=> ⟨r0,by rw [s1];omega,inr_,nx _ _ _ _ ?_⟩,fun hy=> ⟨inr_,nx _ _ _ _ ?_⟩⟩⟩
    .rw [e,Z1s hx,Z1s hy];cases c2 <;> cases a2 <;> simp [gl4]
    .rw [e,Z1s hx,show Je z5 L.y=[] from if_pos hy];cases c2 <;> cases a2 <;> simp [gl4]
    .rw [e,Z1s hy,show Je z5 L.x=[] from if_pos hx];cases c2 <;> cases a2 <;> simp [gl4]
    .rw [e,show Je z5 L.x=[] from if_pos hx,show Je z5 L.y=[] from if_pos hy];cases c2 <;> cases a2 <;> simp [gl4]
  .rw [Q9 YS,show YB rbE z1.kids z2.kids []=([],[],false,false) from rfl,ZqG] at g3
   have hS:Z10 rbE z1 z2=⟨Z5x X KX,Z5x Y KY,c2,a2⟩:=by
    unfold Z10
    dsimp only
    rw [hw,hk,f3]
    generalize YB rbE z1.kids z2.kids z4=R at g3 ⊢
    obtain ⟨r1,r2,r3,r4⟩:=R
    simp only [gl4,Qr,Prod.mk.injEq] at g3
    obtain ⟨rfl,rfl,rfl,rfl⟩:=g3
    try rfl
   have ex:∀ {W:List WEdit} {k:List Kid},0 < (W.length:Int)+k.length->Z5x W k= .mk 2 Tree.nil Tree.nil W k 0 []:=fun h=> by unfold Z5x;rw [JL]
   have e0:∀ {W:List WEdit} {k:List Kid},¬0 < (W.length:Int)+k.length->Z5x W k=Edit.nil:=fun h=> by unfold Z5x;rw [V0]
   have i1:InR ((X.length:Int)+KX.length):=V3
   have i2:InR ((Y.length:Int)+KY.length):=V3
   exact ⟨i1,fun hx=> ⟨i2,fun hy=> fin (X:=⟨_,_,c2,a2⟩) (by rw [hS,ex hx,ex hy]) JP,fun hy=> fin (X:=⟨_,_,c2,a2⟩) (by rw [hS,ex hx,e0 hy]) JP⟩,
    fun hx=> ⟨i2,fun hy=> fin (X:=⟨_,_,c2,a2⟩) (by rw [hS,e0 hx,ex hy]) JP,fun hy=> fin (X:=⟨_,_,c2,a2⟩) (by rw [hS,e0 hx,e0 hy]) JP⟩⟩
theorem ZJ1:Contract Tryz.prog cfg 68 ZaD/\Contract Tryz.prog cfg 109 ZoC/\Contract Tryz.prog cfg 110 ZoB/\Contract Tryz.prog cfg 162 Zox:=
 ZyR Zt6 ZcJ ZEK ZEG ZEF ZEk ZcK ZEY ZEJ ZEI ZEH ZEE ZED ZEC ZEB ZEA ZEj b68 ZFb ZFa ZF5
theorem c68:Contract Tryz.prog cfg 68 ZaD:=ZJ1.1
noncomputable section
def ZoT(a:Edit × Edit × Unit):V U:= .tup [(true,(enc .edit ((rbN a.1 a.2.1).1))),(true,(enc .edit ((rbN a.1 a.2.1).2.1))),(false,[ci ((rbN a.1 a.2.1).2.2)])]
def Zet:Fs U:=fs Zoa (fun a=> [Zp7 a]) ZoT
def ZDi(a:Edit × Edit × Unit):Prop:=(Z2W a.1/\J8 a.1)/\Z2W a.2.1/\J8 a.2.1
def ZHr(a:Edit × Edit × Unit):V U:= .c (.bool true)
def Zou:Fs U:=fs Zoa (fun a=> [ZDi a]) ZHr
def Zx0:List (FuncId × Fs U):=[(29,Zen),(68,ZaD)]
def ZDW:Zc U:=lvl [([2,3,4,5],[2,3,4,5]),([4,5,7],[4,5,7]),([4,5,7,14],[4,5,7]),([4,5,6],[4,5]),([4,5,7,18],[4,5,7]),([4,5,6],[4,5]),([4,5,6],[4,5])]
abbrev A17(p:List Nat):=AW (Z0 Zx0) Tryz.f17 ZDW p
theorem ZIR(p q:Edit)(Q:QT)(h:∀ y_1,y_1=p->∀ y_2,y_2=q->∀ y_3,y_3=(Zn y_1)->∀ y_4,y_4=(Zn y_2)->∀ y_5,y_5=(LeftE.x (Z21 (rbE y_3 y_4)))->∀ y_6,y_6=(LeftE.y (Z21 (rbE y_3 y_4)))->((Z29 (y_1,()))/\(Z29 (y_2,()))/\(Zf0 (y_3,y_4,()))/\(iB (LeftE.apart (Z21 (rbE y_3 y_4))) ((Q .ret (L2 [pL 4,pL 5,pI 6 14] [(.loc 4,zc1),(.loc 5,zc1)]))) ((iB (LeftE.clash (Z21 (rbE y_3 y_4))) ((Q .ret (L2 [pL 4,pL 5,pI 6 13] [(.loc 4,zc1),(.loc 5,zc1)]))) ((Z29 (y_5,()))/\(Z29 (y_6,()))/\(Q .ret (L2 [pL 4,pL 5,pI 6 0] [(.loc 4,(enc .edit (Zn y_5))),(.loc 5,(enc .edit (Zn y_6)))])))))))):
  A17 [] (L2 [(0,.agg (enc .edit p)),(1,.agg (enc .edit q))] []) Q:=
 (Eq.mpr V4 (h _ (Z7 _) _ (Z7 _) _ (Z7 _) _ (Z7 _) _ (Z7 _) _ (Z7 _)):)
abbrev ZFE(p q:Edit):Prop:=AW (Z0 Zx0) Tryz.f17 ZDW [] (Zh (Zoa.can (p,q,())) []) (EQ Tryz.f17 (ZoT (p,q,())) [])
theorem ZDM(c29:CT 29 Zen)(c68:CT 68 ZaD)(hb:∀ (p:Edit) (q:Edit) (_:Unit),Zp7 (p,q,())->ZFE p q):CT 17 Zet:=
 Z1 (l:=[(29,Zen),(68,ZaD)]) Zi rfl (⟨c29,c68,trivial⟩) ZDW Tryz.func17 rfl rfl 2 (fun _=> rfl) V1 (fun ⟨p,q,_⟩=> hb p q ())
def ZCh:List (FuncId × Fs U):=[(14,Zev),(17,Zet),(18,Zes),(15,Zeu),(16,Z5A)]
def lv3:Zc U:=lvl [([2,3],[2,3]),([2,3,18],[2,3]),([4],[]),([2,3,5,6,7],[2,3,5,6]),([5,6,7,8,9,10],[5,6,8,9]),([4],[])]
abbrev A3(p:List Nat):=AW (Z0 ZCh) Tryz.f3 lv3 p
theorem vc3(p q:Edit)(Q:QT)(h:∀ y_1,y_1=p->∀ y_2,y_2=q->∀ y_3,y_3=((lbN y_1 y_2).1)->∀ y_4,y_4=((rbN y_1 y_2).1)->∀ y_5,y_5=((lbN y_1 y_2).2.1)->∀ y_6,y_6=((rbN y_1 y_2).2.1)->let z1:=(((lbN y_1 y_2).2.2):Int)==((rbN y_1 y_2).2.2);let z0:=bif z1 then (eqX y_3 y_4) else false;let z2:=bif z0 then (eqX y_5 y_6) else false;((Zl8 (y_1,()))/\(Tt (!(!(Z06 y_1))))/\((!(!(Z06 y_1)))=true->Zl8 (y_2,()))/\(Tt (!(!(Z06 y_1))))/\((!(Z06 y_1))=false->(!(!(Z06 y_1)))=true)/\(iB (bif (!(Z06 y_1)) then true else (!(Z06 y_2))) ((ZaY ())/\(Q .ret (L2 [pB 4 true] []))) ((Zp7 (y_1,y_2,()))/\((Zp7 (y_1,y_2,()))/\((Tt z1)/\(Tt z1)/\(z1=true->Z5l (y_3,y_4,()))/\(Tt z1)/\(Tt z0)/\(Tt z0)/\(z0=true->Z5l (y_5,y_6,()))/\(Tt z0)/\(z2=true->ZaY ())/\(Tt z2)/\(Q .ret (L2 [(4,.c (.bool (bif z2 then true else false)))] [])))))))):
  A3 [] (L2 [(0,.agg (enc .edit p)),(1,.agg (enc .edit q))] []) Q:=
 (Eq.mpr V4 (h _ (Z7 _) _ (Z7 _) _ (Z7 _) _ (Z7 _) _ (Z7 _) _ (Z7 _)):)
abbrev ZIt(p q:Edit):Prop:=AW (Z0 ZCh) Tryz.f3 lv3 [] (Zh (Zoa.can (p,q,())) []) (EQ Tryz.f3 (ZHr (p,q,())) [])
theorem ZHz(c14:CT 14 Zev)(c17:CT 17 Zet)(c18:CT 18 Zes)(c15:CT 15 Zeu)(c16:CT 16 Z5A)(hb:∀ (p:Edit) (q:Edit) (_:Unit),ZDi (p,q,())->ZIt p q):CT 3 Zou:=
 Z1 (l:=[(14,Zev),(17,Zet),(18,Zes),(15,Zeu),(16,Z5A)]) Zi rfl (⟨c14,c17,c18,c15,c16,trivial⟩) lv3 Tryz.func3 rfl rfl 2 (fun _=> rfl) V1 (fun ⟨p,q,_⟩=> hb p q ())
end
theorem Z9s{e:Edit}(h:J2 e):Z29 (e,()):=by
 have:=Ju h
 exact ⟨V2,h.2.2⟩
theorem c17:Contract Tryz.prog cfg 17 Zet:=by
 refine ZDM ZEb.1 c68 ?_
 intro p q _ hp
 have hp:ZkX p q:=hp
 obtain ⟨⟨h1,h2⟩,h3,h4⟩:=Zvg hp
 have fin:∀ {X Y:Edit} {n:Int} {s:LSt U},rbN p q=(X,Y,n)->Y3 cfg Tryz.f17.ntmps Tryz.f17.results.toList (.tup [(true,enc .edit X),(true,enc .edit Y),(false,[.int .i64 n])]) [] .ret s->Y3 cfg Tryz.f17.ntmps Tryz.f17.results.toList (ZoT (p,q,())) [] .ret s:=by
  intro X Y n s h hs
  refine Z1O ?_ hs
  simp only [ZoT]
  rw [h]
  try rfl
 have eN:=rbN.eq_1 p q
 refine ZIR _ _ _ ?_
 intro y1 e1 y2 e2 y3 e3 y4 e4 y5 e5 y6 e6
 subst e1 e2
 rw [<-e3] at h1
 rw [<-e4] at h2
 rw [<-e3,<-e4] at h3 h4 eN
 simp only [Z21] at e5 e6 ⊢
 generalize rbE y3 y4=L at h3 h4 eN e5 e6 ⊢
 refine ⟨Z9s hp.1,Z9s hp.2.1,⟨h1,h2⟩,fun ha=> fin (by rw [eN,if_pos ha]) JP,fun ha=> ⟨fun hc=> fin (by rw [eN,if_neg (by rw [ha];decide),if_pos hc]) JP,fun hc=> ⟨by rw [e5];exact Z9s h3,by rw [e6];exact Z9s h4,?_⟩⟩⟩
 exact fin (by rw [eN,if_neg (by rw [ha];decide),if_neg (by rw [hc];decide),<-e5,<-e6]) JP
theorem c3:Contract Tryz.prog cfg 3 Zou:=by
 refine ZHz c14 c17 c18 c15 c16 ?_
 intro p q _ hp
 refine vc3 _ _ _ ?_
 intro y1 h1 y2 h2 y3 h3 y4 h4 y5 h5 y6 h6
 subst h1 h2
 (simp only [iB,vcT,vcS])
 refine ⟨hp.1,fun _=> hp.2,fun _=> ⟨trivial,Zf rfl rfl⟩,fun hg=> ?_⟩
 obtain ⟨g1,g2⟩:=hg
 obtain ⟨_,m1,r1⟩:=ZlW g1 hp.1.2
 obtain ⟨_,m2,r2⟩:=ZlW g2 hp.2.2
 have rb1:=Zp2 r1 r2 hp.1.2 hp.2.2 (Zg0 g1) (Zg0 g2) YS YS
 have n1:=Z2H y1
 have n2:=Z2H y2
 have eq:lbN y1 y2=rbN y1 y2:=ZAd YS (JE _ _ r1) (JE _ _ r2)
 rw [<-eq] at h4 h6 ⊢
 have e43:y4=y3:=h4.trans h3.symm
 have e65:y6=y5:=h6.trans h5.symm
 subst e43 e65
 have o:=ZE3 rb1
 rw [<-h3,<-h5] at o
 have o1:=Ju o.1
 have o2:=Ju o.2
 refine ⟨rb1,rb1,fun _=> by dsimp only [Z5l];omega,fun _=> by dsimp only [Z5l];omega,fun _=> trivial,Zf rfl ?_⟩
 simp
end Go.AM.YtpjenobkibfpcaaGreat
