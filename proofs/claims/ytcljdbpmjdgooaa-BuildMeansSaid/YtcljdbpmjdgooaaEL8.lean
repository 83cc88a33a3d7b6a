import Derived.Test.YtcljdbpmjdgooaaEL3
import Derived.Test.YtcljdbpmjdgooaaEmY
import Derived.Test.YtcljdbpmjdgooaaEQBa
import Derived.Test.YtcljdbpmjdgooaaEG1
set_option linter.unusedSimpArgs false
set_option linter.unusedVariables false
namespace Go.AM.Ytcljdbpmjdgooaa
open Go.AM Go.Proofs
theorem c22:Contract Try.prog cfg 22 Z03:=by
 refine Zoy c40 ?_
 intro a n _ h
 refine Zsv a n _ ⟨h,?_⟩
 (repeat' (first | exact trivial | exact rfl | apply And.intro))
theorem c46:Contract Try.prog cfg 46 Z4h:=by
 refine Zok ?_
 intro s n _ h
 refine Zse s n _ ⟨h,?_⟩
 (repeat' (first | exact trivial | exact rfl | apply And.intro))
theorem Za1:∀ (x y:List Int) (a:Arena) (s i:Int),ZG (x++y) a s i=ZG y (ZG x a s i) s (i+x.length)
 | [],y,a,s,i=> by simp [ZG]
 | w ::r,y,a,s,i=> by
  rw [QX,ZG,ZG,Za1 r y]
  congr 1
  rw [Qc]
  omega
theorem c44:Contract Try.prog cfg 44 Ji:=by
 refine Zol c79 ?_
 intro a s l _ hp
 obtain ⟨⟨h,hw⟩,hh⟩:=hp
 dsimp only at h hw hh
 have hb:=Z3.1 hh
 have hu:=h.used
 have hl:=h.len (Spot.segment s)
 refine Zsg a s l _ ?_
 refine Zr (ι:=Int × Arena) (fun p=> Z1A a s l p.1 p.2) (fun p=> (0<=p.1/\p.1<=l.length)/\p.2=ZG (l.take p.1.toNat) a s.segment s.at_) (fun p=> ((l.length:Int) - p.1).toNat) (0,a) rfl ⟨⟨by dsimp only;omega,by dsimp only;omega⟩,rfl⟩ ?_
 rintro ⟨i,r⟩ ⟨⟨g1,g2⟩,g3⟩
 dsimp only at g1 g2 g3
 have hr:OkAr r:=by rw [g3];exact J9 _ _ _ h fun x hx=> hw x (XX hx)
 have hg:Gr a r:=by rw [g3];exact Z2f _ _ _ _
 refine ZkN a s l i r _ _ ⟨fun hb1=> ?_,fun hb1=> ?_⟩
 .have hi:i < l.length:=of_decide_eq_true hb1
  have hw':=Jd hw i.toNat
  have h1:Zc r.segs s.segment (s.at_+i) 1=true:=hg.has (Z3.2 ⟨hb.1,hb.2.1,by omega,by omega,by omega⟩)
  refine ⟨⟨g1,hi⟩,by ((unfold InR;omega)),⟨hr,hw'⟩,fun hc=> ?_,fun _=> ⟨by ((unfold InR;omega)),(i+1,ZW r s.segment (s.at_+i) (l.getD i.toNat 0)),rfl,⟨⟨by dsimp only;omega,by dsimp only;omega⟩,?_⟩,by dsimp only;omega⟩⟩
  .rw [h1] at hc
   cases hc
  .dsimp only
   have e:l.take (i+1).toNat=l.take i.toNat++[l.getD i.toNat 0]:=by
    rw [show (i+1).toNat=i.toNat+1 by omega,Q2,Q0 (show i.toNat < l.length by omega),Qu]
    exact (Xp (by omega)).symm
   rw [e,Za1,<-g3,Qd,Xb (by omega),ZG,ZG,XJ g1]
 .have hi:¬i < l.length:=of_decide_eq_false hb1
  have e:i=l.length:=by omega
  subst e
  rw [Qj,XC] at g3
  subst g3
  (repeat' (first | exact trivial | exact rfl | apply And.intro))
theorem Zm9{d:Bool}{s o:Int}(hs:0<=s/\s < 4294967296)(ho:0<=o/\o < 536870912):Z6 (Yo d s o)=⟨3,o,0,0,0,0,s,d⟩:=by
 unfold Yo Z6
 cases d with
 | true=>
  rw [if_pos rfl,if_neg (by omega),if_neg (by omega),if_neg (by omega),if_pos (by omega)]
  congr 1
  .omega
  .omega
  .exact decide_eq_true (by omega)
 | false=>
  simp only [Qs,if_false]
  rw [if_neg (by omega),if_neg (by omega),if_neg (by omega),if_pos (by omega)]
  congr 1
  .omega
  .omega
  .exact decide_eq_false (by omega)
theorem Zdx{x y:Nat}(hx:x < 18446744073709551616)(hy:y < 18446744073709551616):IntKind.wrap .u64 (BitVec.ofInt (IntKind.bits .u64) (x:Int) ||| BitVec.ofInt (IntKind.bits .u64) (y:Int)).toNat=((x ||| y:Nat):Int):=by
 have e:∀ z:Nat,z < 18446744073709551616->(BitVec.ofInt (IntKind.bits .u64) (z:Int)).toNat=z:=by
  intro z z1
  simp [IntKind.bits]
  omega
 rw [Kd,e x hx,e y hy]
 have:(x ||| y) < 2 ^ 64:=Nat.or_lt_two_pow hx hy
 exact Z0d (by omega) (by omega)
theorem Zf4{o:Int}(h0:0<=o)(h1:o < 536870912):IntKind.wrap .u64 (BitVec.ofInt (IntKind.bits .u64) (8*o) ||| BitVec.ofInt (IntKind.bits .u64) 2).toNat=2+8*o:=by
 obtain ⟨n,rfl⟩:=Ql h0
 have h:=Zdx (x:=8*n) (y:=2) (by omega) (by decide)
 rw [show ((8*n:Nat):Int)=8*(n:Int) by omega,show ((2:Nat):Int)=2 from rfl] at h
 rw [h]
 have:=QU (i:=3) (b:=2) (by decide) n
 rw [show (2:Nat) ^ 3=8 from rfl] at this
 rw [<-this]
 omega
theorem Zad{x s:Int}(h0:0<=x)(h1:x < 4294967296)(hs:0<=s/\s < 4294967296):IntKind.wrap .u64 (BitVec.ofInt (IntKind.bits .u64) x ||| BitVec.ofInt (IntKind.bits .u64) (4294967296*s)).toNat=x+4294967296*s:=by
 obtain ⟨n,rfl⟩:=Ql h0
 obtain ⟨m,rfl⟩:=Ql hs.1
 have h:=Zdx (x:=n) (y:=4294967296*m) (by omega) (by omega)
 rw [show ((4294967296*m:Nat):Int)=4294967296*(m:Int) by omega] at h
 rw [h,Nat.or_comm]
 have:=QU (i:=32) (b:=n) (by omega) m
 rw [show (2:Nat) ^ 32=4294967296 from rfl] at this
 rw [<-this]
 omega
theorem Zll{o s:Int}(h0:0<=o/\o < 536870912)(hs:0<=s/\s < 4294967296):IntKind.wrap .u64 (BitVec.ofInt (IntKind.bits .u64) (2+8*o+4294967296*s) ||| BitVec.ofInt (IntKind.bits .u64) 4).toNat=6+8*o+4294967296*s:=by
 obtain ⟨n,rfl⟩:=Ql h0.1
 obtain ⟨m,rfl⟩:=Ql hs.1
 have h:=Zdx (x:=2+8*n+4294967296*m) (y:=4) (by omega) (by decide)
 rw [show ((2+8*n+4294967296*m:Nat):Int)=2+8*(n:Int)+4294967296*(m:Int) by omega,show ((4:Nat):Int)=4 from rfl] at h
 rw [h]
 have e:2+8*n+4294967296*m=2 ^ 3*(n+536870912*m)+2:=by omega
 have e1:=QU (i:=3) (b:=2) (by decide) (n+536870912*m)
 have e2:=QU (i:=3) (b:=6) (by decide) (n+536870912*m)
 have:(2+8*n+4294967296*m) ||| 4=2 ^ 3*(n+536870912*m)+6:=by
  rw [e,e1,e2,Nat.or_assoc]
  try rfl
 rw [this]
 omega
theorem ZjJ:Contract Try.prog cfg 75 Z2M:=by
 refine Ziw c98 c99 ZgW Z4G ?_
 intro p _ hp
 obtain ⟨o,s,d,e,ho,hs⟩:=hp
 dsimp only at e
 subst e
 have fin:∀ {x:Int} {v1 v2 v3 v4 v5:V U},x=Yo d s o->awp cfg (Z0 Zj8) (Y0 cfg (Z0 Zj8)) Try.f75.ntmps Zp0 (cd Try.f75 [1,1,1]) (Jt (Ptr.mk 3 o 0 0 0 0 s d) x v1 v2 v3 v4 v5) (Yg cfg Try.f75.ntmps Try.f75.results.toList (ZaU (Ptr.mk 3 o 0 0 0 0 s d,())) []):=by
  intro x v1 v2 v3 v4 v5 hx
  refine ZfY _ _ _ _ _ _ _ _ ?_
  have hr:=JH (d:=d) hs ho
  refine ⟨by subst hx;exact hr,?_⟩
  subst hx
  rw [Zm9 hs ho]
  refine Y4 (r':= .tup [(false,[.int .u64 (Yo d s o)]),(false,[.bool true])]) rfl ?_
  simp only [beq_self_eq_true,Bool.and_self,cond_true]
  (repeat' (first | exact trivial | exact rfl | apply And.intro))
 have e3:min (Int.toNat 3) (IntKind.bits .u64)=3:=rfl
 have e32:min (Int.toNat 32) (IntKind.bits .u64)=32:=rfl
 have q3:(2:Int) ^ 3=8:=rfl
 have q32:(2:Int) ^ 32=4294967296:=rfl
 have q2:(2:Int) ^ 2=4:=rfl
 have q1:(2:Int) ^ 1=2:=rfl
 refine ZnA (Ptr.mk 3 o 0 0 0 0 s d) _ ?_
 intro y1 hy1 y2 hy2 y3 _ y4 _ y5 hy5 y6 hy6
 have hy1:y1=8*o:=by
  rw [hy1,Z9M 3 e3 (by dsimp only;omega) (by dsimp only;omega) (by dsimp only;omega)]
  dsimp only
  omega
 have hy2:y2=4294967296*s:=by
  rw [hy2,Z9M 32 e32 (by dsimp only;omega) (by dsimp only;omega) (by dsimp only;omega)]
  dsimp only
  omega
 refine ⟨fun h=> by simp at h,fun _=> ⟨fun h=> by simp at h,fun _=> ⟨fun _=> ⟨trivial,fun _=> trivial,fun _=> ⟨by decide,by decide,fun hd=> fin ?_,fun hd=> fin ?_⟩,fun hc=> ?_⟩,fun h=> by simp at h⟩⟩⟩
 .rw [hy6,hy5,hy1,hy2]
  show _=2+(if d=true then 4 else 0)+8*o+4294967296*s
  have hd:d=true:=hd
  rw [Zf4 (by omega) (by omega),Zad (by omega) (by omega) hs]
  rw [hd,if_pos rfl,Zll (by omega) (by omega)]
  omega
 .rw [hy6,hy5,hy1,hy2]
  show _=2+(if d=true then 4 else 0)+8*o+4294967296*s
  have hd:d=false:=hd
  rw [Zf4 (by omega) (by omega),Zad (by omega) (by omega) hs]
  rw [hd,if_neg (by decide)]
  omega
 .rw [decide_eq_true (show 0<=o/\o<=536870911 by omega),decide_eq_true (show 0<=s/\s<=4294967295 by omega)] at hc
  cases hc
theorem c78:Contract Try.prog cfg 78 Z7K:=by
 refine Zo1 ZjJ c44 ?_
 intro a fr to d _ hp
 obtain ⟨⟨h,hf⟩,ho,hs⟩:=hp
 dsimp only at h hf ho hs
 have hr:=JH (d:=d) hs ho
 refine ZrU a fr to d _ ⟨⟨_,_,_,rfl,ho,hs⟩,fun _=> ⟨⟨h,fun x hx=> ?_⟩,hf⟩,?_⟩
 .rw [Qy.1 hx]
  exact hr
 ·(repeat' (first | exact trivial | exact rfl | apply And.intro))
theorem Zfz{p:Ptr}(h:Z6H p){o:Int}(ho: -536870912<=o/\o < 536870912)(hz:¬(o=0/\kdP p=0/\upP p=0)){q:Ptr}(hq:q=Ptr.mk p.kind o p.data p.ptrs p.code p.count p.segment p.double):
  (eqP (Z6 (ZA q)) q && !decide (q.kind=4))=true/\ZA q=4*(o % 1073741824)+kdP p+4294967296*upP p:=by
 subst hq
 obtain ⟨k,o0,d,q,c,n,s,b⟩:=p
 obtain ⟨h,hs,hb⟩:=h
 dsimp only at h hs hb
 subst hs hb
 rcases h with ⟨rfl,hd,hp,rfl,rfl⟩ | ⟨rfl,rfl,rfl,hc,hn⟩
 .have ek:kdP ⟨1,o0,d,q,0,0,0,false⟩=0:=rfl
  have eu:upP ⟨1,o0,d,q,0,0,0,false⟩=d+65536*q:=rfl
  rw [ek,eu] at hz ⊢
  have e:ZA ⟨1,o,d,q,0,0,0,false⟩=4*(o % 1073741824)+0+4294967296*(d+65536*q):=by
   unfold ZA
   dsimp only
   rw [if_pos rfl,if_pos ⟨ho,⟨by omega,by omega⟩,by omega,by omega⟩]
   omega
  refine ⟨?_,e⟩
  rw [e,Z4E ho hd hp (by omega),ZcF]
  try rfl
 .have ek:kdP ⟨2,o0,0,0,c,n,0,false⟩=1:=rfl
  have eu:upP ⟨2,o0,0,0,c,n,0,false⟩=c+8*n:=rfl
  rw [ek,eu] at hz ⊢
  have e:ZA ⟨2,o,0,0,c,n,0,false⟩=4*(o % 1073741824)+1+4294967296*(c+8*n):=by
   unfold ZA
   dsimp only
   rw [if_neg (by decide),if_pos rfl,if_pos ⟨ho,⟨by omega,by omega⟩,by omega,by omega⟩]
  refine ⟨?_,e⟩
  rw [e,ZcI ho hc hn,ZcF]
  try rfl
theorem Zb6{p:Ptr}(h:Z6H p):(p.kind=1\/p.kind=2)/\(0<=kdP p/\kdP p < 4)/\(0<=upP p/\upP p < 4294967296)/\((kdP p=0/\upP p=0)↔(p.kind=1/\p.data+p.ptrs=0)):=by
 obtain ⟨k,o0,d,q,c,n,s,b⟩:=p
 obtain ⟨h,hs,hb⟩:=h
 dsimp only at h hs hb
 subst hs hb
 rcases h with ⟨rfl,hd,hp,rfl,rfl⟩ | ⟨rfl,rfl,rfl,hc,hn⟩
 .have ek:kdP ⟨1,o0,d,q,0,0,0,false⟩=0:=rfl
  have eu:upP ⟨1,o0,d,q,0,0,0,false⟩=d+65536*q:=rfl
  rw [ek,eu]
  dsimp only
  omega
 .have ek:kdP ⟨2,o0,0,0,c,n,0,false⟩=1:=rfl
  have eu:upP ⟨2,o0,0,0,c,n,0,false⟩=c+8*n:=rfl
  rw [ek,eu]
  dsimp only
  omega
theorem c76:Contract Try.prog cfg 76 Z7M:=by
 refine Zo3 c75 c44 ?_
 intro a fr to p _ hp
 obtain ⟨⟨h,hf⟩,ht,hpn⟩:=hp
 dsimp only at h hf ht hpn
 obtain ⟨hk,r1,r2,r3⟩:=Zb6 hpn
 have hh:=Z3.1 hf
 have hu:=h.used
 have hl:=h.len fr.segment
 have key:∀ {q:Ptr} {o:Int},(-536870912<=o/\o < 536870912)->¬(o=0/\kdP p=0/\upP p=0)->q=Ptr.mk p.kind o p.data p.ptrs p.code p.count p.segment p.double->pwA fr.at_ to.at_ (kdP p) (upP p)=4*(o % 1073741824)+kdP p+4294967296*upP p->
   (Z1u (q,()))/\(((eqP (Z6 (ZA q)) q && !decide (Ptr.kind q=4))=true->JR ((a,()),fr,([ZA q]),()))/\(YQ cfg Try.f76.ntmps Try.f76.results.toList (ZhH ((a,()),fr,to,p,())) (Zdc ((a,()),fr,to,p,())) (Zde ((a,()),fr,to,p,())) .ret (⟨[(0,.agg [.mref (.A)]),(8,.c (.bool (bif (eqP (Z6 (ZA q)) q && !decide (Ptr.kind q=4)) then true else false)))],[],[(.A,LC.mk (U:=U) .arena ([bif (eqP (Z6 (ZA q)) q && !decide (Ptr.kind q=4)) then (ZG ([ZA q]) a (Spot.segment fr) (Spot.at_ fr)) else a]) 0)]⟩:LSt U))):=by
  intro q o ho hz hq hw
  obtain ⟨e1,e2⟩:=Zfz hpn ho hz hq
  have hrw:=Z8k (a:=fr.at_) (to:=to.at_) r1 r2
  rw [e1,e2,<-hw]
  refine ⟨?_,fun _=> ⟨⟨h,fun x hx=> ?_⟩,hf⟩,?_⟩
  .show q.kind=1\/q.kind=2
   rw [hq]
   exact hk
  .rw [Qy.1 hx]
   exact hrw
  ·(repeat' (first | exact trivial | exact rfl | apply And.intro))
 refine ZrW a fr to p _ ?_
 rintro y1 rfl y2 hy2 y3 hy3
 refine ⟨by ((unfold InR;omega)),by ((unfold InR;omega)),fun _=> ?_,fun hb=> ?_,fun hb=> ?_⟩
 .rcases hpn.1 with g | g <;> ((unfold InR;omega))
 .have hb:p.kind=1/\p.data+p.ptrs=0:=by
   cases c1:((Ptr.kind p:Int)==1) with
   | false=> rw [c1] at hb;cases hb
   | true=> rw [c1] at hb;exact ⟨eq_of_beq c1,eq_of_beq hb⟩
  obtain ⟨z1,z2⟩:=r3.2 hb
  refine key (o:= -1) ⟨by decide,by decide⟩ (by omega) hy2 ?_
  unfold pwA
  rw [if_pos ⟨z1,z2⟩,z1,z2]
  decide
 .have hb:¬(p.kind=1/\p.data+p.ptrs=0):=by
   rintro ⟨q1,q2⟩
   simp [q1,q2] at hb
  have hz:¬(kdP p=0/\upP p=0):=fun q=> hb (r3.1 q)
  refine key (o:=to.at_ - y1.at_ - 1) ⟨by omega,by omega⟩ (fun q=> hz q.2) hy3 ?_
  unfold pwA
  rw [if_neg hz]
  try rfl
set_option maxHeartbeats 1000000 in
theorem c43:Contract Try.prog cfg 43 Z4i:=by
 refine Zom c76 c77 c78 c22 c75 c46 c44 ?_
 intro a fr to p _ hp
 obtain ⟨⟨h,hf⟩,ht,hpn,hs⟩:=hp
 dsimp only at h hf ht hpn hs
 obtain ⟨hk,r1,r2,r3⟩:=Zb6 hpn
 have hfew:=h.few
 have hresT:∀ {c:Arena × Bool} {b:Bool} {r:Arena},ZN a fr.segment fr.at_ to.segment to.at_ (kdP p) (upP p)=c->c=(r,b)->
   YQ cfg Try.f43.ntmps Try.f43.results.toList (ZeG ((a,()),fr,to,p,())) (Zdc ((a,()),fr,to,p,())) (ZaT ((a,()),fr,to,p,())) .ret (⟨[(0,.agg [.mref (.A)]),(8,.c (.bool b))],[],[(.A,LC.mk (U:=U) .arena ([r]) 0)]⟩:LSt U):=by
  intro c b r h1 h2
  have e:ZN a fr.segment fr.at_ to.segment to.at_ (kdP p) (upP p)=(r,b):=h1.trans h2
  simp only [ZeG,ZaT,e]
  (repeat' (first | exact trivial | exact rfl | apply And.intro))
 refine Zsh a fr to p _ ?_
 rintro y1 rfl y2 rfl y3 rfl y4 hy4 y5 hy5 y6 hy6 y7 rfl y8 hy8 y9 hy9 y10 hy10 y11 hy11
 refine ⟨fun _=> ?_,fun hb=> ?_,fun hb=> ?_⟩
 .rcases hpn.1 with g | g <;> ((unfold InR;omega))
 .have hb:y2.segment=y3.segment\/(kdP y1=0/\upP y1=0):=by
   rw [r3]
   cases c0:((Spot.segment y2:Int)==Spot.segment y3) with
   | true=> exact .inl (eq_of_beq c0)
   | false=>
    rw [c0] at hb
    cases c1:((Ptr.kind y1:Int)==1) with
    | false=> rw [c1] at hb;cases hb
    | true=> rw [c1] at hb;exact .inr ⟨eq_of_beq c1,eq_of_beq hb⟩
  refine ⟨⟨⟨h,hf⟩,ht,hpn⟩,hresT rfl ?_⟩
  unfold ZN
  rw [if_pos hb]
 .have hb:¬(y2.segment=y3.segment\/(kdP y1=0/\upP y1=0)):=by
   rw [r3]
   rintro (q | ⟨q1,q2⟩)
   .simp [q] at hb
   .simp [q1,q2] at hb
  have hz:¬((0:Int)=0/\kdP y1=0/\upP y1=0):=fun q=> hb (.inr q.2)
  refine ⟨h,fun hi=> ?_,fun hi=> ?_⟩
  .have hin:=Zjv hi
   have hi1:Zc (inA a y3.segment 1).segs y2.segment y2.at_ 1=true:=(Zft a y3.segment 1).has hf
   have he:=h.endA y3.segment
   have h5:y5=Spot.mk y3.segment (endA a y3.segment):=by rw [hy5,if_pos hi];try rfl
   have g8:Gr (inA a y3.segment 1) y8:=by rw [hy8];exact Yw _ _ _ _
   have o8:OkAr y8:=by
    rw [hy8,h5]
    exact (h.inn _ _).put _ _ (JH ⟨by dsimp only;omega,by dsimp only;omega⟩ ⟨by dsimp only;omega,by dsimp only;omega⟩)
   rw [h5] at hy8 ⊢
   refine ⟨⟨⟨h.inn _ _,hi1⟩,⟨by dsimp only;omega,by dsimp only;omega⟩,by dsimp only;omega,by dsimp only;omega⟩,fun _=> ⟨⟨o8,g8.has hin⟩,ht,hpn⟩,hresT rfl ?_⟩
   unfold ZN
   rw [if_neg hb,if_pos hi,hy8]
   try rfl
  .have ea:inA a y3.segment 1=a:=by unfold inA;rw [if_neg (by rw [hi];decide)]
   obtain ⟨e1,e2⟩:=Zfz hpn (o:=0) ⟨by decide,by decide⟩ hz hy4
   have e2:ZA y4=kdP y1+4294967296*upP y1:=by rw [e2];omega
   rw [ea] at hy6 hy8 hy10 hy11 ⊢
   rw [e1,e2]
   rw [e1] at hy11
   have hg2:=h.giveS 2
   have ht2:=h.giveT 2
   refine ⟨h,by show y4.kind=1\/y4.kind=2;rw [hy4];exact hk,?_⟩
   cases hg:Z4 a 2 with
   | false=>
    refine ⟨fun q=> (by cases q),fun q=> (by cases q),fun q=> (by cases q),fun q=> (by cases q),hresT rfl ?_⟩
    unfold ZN
    rw [if_neg hb,if_neg (by rw [hi];decide),if_neg (by rw [hg];decide)]
    have:Zd a 2=a:=by unfold Zd;rw [if_neg (by rw [hg];decide)]
    rw [this]
    try rfl
   | true=>
    have e7:y7=Spot.mk (giveS a 2) (giveT a 2):=by rw [hy6,if_pos hg,if_pos hg]
    have hgh:=Z0Y hg
    have hgs:=Z8W hg
    have hgh':=Z3.1 hgh
    have gg:=Jy a 2
    rw [hg] at hy11
    simp only [cond_true] at hy11 ⊢
    have o10:OkAr y10:=by
     rw [hy10,e7]
     exact (h.give 2).put _ _ (JH ⟨by dsimp only;omega,by dsimp only;omega⟩ ⟨by dsimp only;omega,by dsimp only;omega⟩)
    have g10:Gr (Zd a 2) y10:=by rw [hy10];exact Yw _ _ _ _
    have w11:=JH (d:=false) (s:=y3.segment) (i:=y3.at_) ⟨by omega,by omega⟩ ⟨by omega,by omega⟩
    have o11:OkAr y11:=by rw [hy11];exact o10.put _ _ w11
    have g11:Gr y10 y11:=by rw [hy11];exact Yw _ _ _ _
    rw [e7] at hy9 hy10 hy11 ⊢
    have k1:Zc y10.segs (giveS a 2) (giveT a 2) 1=true:=g10.has (Z3.2 ⟨hgh'.1,hgh'.2.1,hgh'.2.2.1,by decide,by omega⟩)
    have k2:Zc y11.segs (giveS a 2) (giveT a 2+1) 1=true:=(g10.trans g11).has (Z3.2 ⟨hgh'.1,hgh'.2.1,by omega,by decide,by omega⟩)
    refine ⟨fun _=> ⟨⟨h.give 2,gg.has hf⟩,⟨by dsimp only;omega,by dsimp only;omega⟩,by dsimp only;omega,by dsimp only;omega⟩,fun _=> ⟨⟨o10,k1⟩,⟨by dsimp only;omega,by dsimp only;omega⟩,by dsimp only;omega,by dsimp only;omega⟩,fun _=> ?_,fun _=> ⟨⟨o11,fun x hx=> ?_⟩,?_⟩,hresT rfl ?_⟩
    .show InR (giveT a 2+1)
     ((unfold InR;omega))
    .rw [Qy.1 hx]
     omega
    .rw [hy9]
     exact k2
    .unfold ZN
     rw [if_neg hb,if_neg (by rw [hi];decide),if_pos hg,hy11,hy10,hy9]
     try rfl
noncomputable section
noncomputable section
def Zbv:ArgM ((Arena × Unit) × Spot × Tree × Unit):=(.agg (.cons cAr .nil) (.cons (aEl .spot) (.cons (aEl .tree) .nil)))
def ZeW(a:(Arena × Unit) × Spot × Tree × Unit):Prop:=((OkAr a.1.1/\Zc a.1.1.segs (Spot.segment a.2.1) (Spot.at_ a.2.1) 1=true)/\(Zm a.2.2.1<=1000000/\rng a.2.2.1)/\Tree.kind a.2.2.1≠10/\∃ d,Z5 a.2.2.1 d=true)/\2<=Tree.kind a.2.2.1/\Tree.kind a.2.2.1<=7
def ZbX(a:(Arena × Unit) × Spot × Tree × Unit):V U:= .c (.bool ((ZP a.2.2.1 a.1.1 (Spot.segment a.2.1) (Spot.at_ a.2.1)).2))
def Zhw(a:(Arena × Unit) × Spot × Tree × Unit):List (List (C U)):=[]
def Z8f(a:(Arena × Unit) × Spot × Tree × Unit):List (Tok × LC U):=[(.A,LC.mk (U:=U) .arena [(ZP a.2.2.1 a.1.1 (Spot.segment a.2.1) (Spot.at_ a.2.1)).1] 0)]
def ZaI:Fs U:=(Z07 Zbv (fun a=> [ZeW a]) ZbX Zhw Z8f).passing [0]
def Z6D(a:(Arena × Unit) × Spot × Tree × Unit):Prop:=(OkAr a.1.1/\Zc a.1.1.segs (Spot.segment a.2.1) (Spot.at_ a.2.1) 1=true)/\(Zm a.2.2.1<=1000000/\rng a.2.2.1)/\Tree.kind a.2.2.1≠10/\∃ d,Z5 a.2.2.1 d=true
def Zit(a:(Arena × Unit) × Spot × Tree × Unit):Nat:=4*Zm a.2.2.1+3
def Z5J:Fs U:=(Z07 Zbv (fun a=> [Z6D a]) ZbX Zhw Z8f).passing [0]
def Z53(a:(Arena × Unit) × Spot × Tree × Unit):Prop:=(OkAr a.1.1/\Zc a.1.1.segs (Spot.segment a.2.1) (Spot.at_ a.2.1) a.2.2.1.kids.length=true)/\(Zm a.2.2.1<=1000000/\rng a.2.2.1)/\∀ k∈Tree.kids a.2.2.1,Tree.kind k≠10/\∃ d,Z5 k d=true
def ZdC(a:(Arena × Unit) × Spot × Tree × Unit):Nat:=4*Zm a.2.2.1+1
def Z9V(a:(Arena × Unit) × Spot × Tree × Unit):V U:= .c (.bool ((ZX a.2.2.1.kids a.1.1 (Spot.segment a.2.1) (Spot.at_ a.2.1)).2))
def Z5N(a:(Arena × Unit) × Spot × Tree × Unit):List (Tok × LC U):=[(.A,LC.mk (U:=U) .arena [(ZX a.2.2.1.kids a.1.1 (Spot.segment a.2.1) (Spot.at_ a.2.1)).1] 0)]
def Zhl:Fs U:=(Z07 Zbv (fun a=> [Z53 a]) Z9V Zhw Z5N).passing [0]
def Zaa(a:(Arena × Unit) × Spot × Tree × Unit):Prop:=(OkAr a.1.1/\Zc a.1.1.segs (Spot.segment a.2.1) (Spot.at_ a.2.1) 1=true)/\(Zm a.2.2.1<=1000000/\rng a.2.2.1)/\Tree.kind a.2.2.1≠10/\∃ d,Z5 a.2.2.1 d=true/\Tree.kind a.2.2.1=9
def Zis(a:(Arena × Unit) × Spot × Tree × Unit):Nat:=4*Zm a.2.2.1+2
def Zhm:Fs U:=(Z07 Zbv (fun a=> [Zaa a]) ZbX Zhw Z8f).passing [0]
def Z1o:List (FuncId × Fs U):=[(59,Z7R),(60,Z4S),(22,Z03),(43,Z4i),(44,Ji)]
def Zbe:Z8 U:=fun i=> match i with
 | 0=> ([(0,[.ar]),(3,[]),(4,[]),(5,[])],[(.loc 3,[.ar]),(.loc 4,[]),(.loc 5,[])])
 | 1=> ([(0,[.ar]),(3,[]),(4,[]),(5,[]),(7,[])],[(.loc 3,[.ar]),(.loc 4,[]),(.loc 5,[])])
 | 2=> ([(0,[.ar]),(3,[]),(4,[]),(5,[]),(7,[.own .u64]),(15,[]),(16,[]),(17,[])],[(.loc 3,[.ar]),(.loc 4,[]),(.loc 5,[])])
 | 3=> ([(0,[.ar]),(3,[]),(4,[]),(5,[]),(7,[]),(15,[]),(16,[]),(17,[]),(18,[])],[(.loc 3,[.ar]),(.loc 4,[]),(.loc 5,[])])
 | 4=> ([(0,[.ar]),(3,[]),(4,[]),(5,[]),(7,[]),(9,[]),(15,[]),(16,[]),(17,[])],[(.loc 3,[.ar]),(.loc 4,[]),(.loc 5,[]),(.loc 9,[])])
 | 5=> ([(0,[.ar]),(3,[]),(4,[]),(5,[]),(7,[]),(15,[]),(16,[]),(17,[])],[(.loc 3,[.ar]),(.loc 4,[]),(.loc 5,[])])
 | 6=> ([(0,[.ar]),(3,[]),(4,[]),(5,[]),(7,[.own .u64]),(15,[]),(16,[]),(17,[])],[(.loc 3,[.ar]),(.loc 4,[]),(.loc 5,[])])
 | 7=> ([(0,[.ar]),(3,[]),(4,[]),(5,[]),(7,[]),(10,[]),(11,[])],[(.loc 3,[.ar]),(.loc 4,[]),(.loc 5,[])])
 | 8=> ([(0,[.ar]),(3,[]),(4,[]),(5,[]),(7,[]),(10,[]),(11,[]),(12,[]),(13,[])],[(.loc 3,[.ar]),(.loc 4,[]),(.loc 5,[]),(.loc 12,[])])
 | 9=> ([(0,[.ar]),(6,[])],[])
 | _=> ([],[])
def Z1B(a:Arena)(fr:Spot)(t:Tree)(x17:Int)(x7:List Int):LSt U:=(⟨[(0,.agg [.mref (.A)]),pL 3,pL 4,pL 5,(7,.c (sU .u64 x7 (.own (.e 7 0)))),(15,.c (sU .tree t.kids .unk)),pI 16 (t.kids.length:Int),pI 17 x17],[(.loc 3,[.mref (.A)]),(.loc 4,(enc .spot fr)),(.loc 5,(enc .tree t))],[(.A,LC.mk (U:=U) .arena ([a]) 0)]⟩:LSt U)
abbrev W42(a:Arena)(fr:Spot)(t:Tree)(Q:QT):=AW (Z0 Z1o) Try.f42 Zbe [] (⟨[(0,.agg [.mref (.A)]),(1,.agg (enc .spot fr)),(2,.agg (enc .tree t))],[],[(.A,LC.mk (U:=U) .arena ([a]) 0)]⟩:LSt U) Q
abbrev Zml:=awp cfg (Z0 Z1o) (Y0 cfg (Z0 Z1o)) Try.f42.ntmps Zbe
abbrev Zlg:=Zd8 cfg (Z0 Z1o) (Y0 cfg (Z0 Z1o)) Try.f42.ntmps Zbe
theorem Zsi(a:Arena)(fr:Spot)(t:Tree)(Q:QT)(h:ZJ (AW (Z0 Z1o) Try.f42 Zbe [1,1,0,1,0,0]) (Z1B a fr t 0 []) (xB 0 (SW (Z0 Z1o) Try.f42 Zbe [1,1,1] Q))):
  W42 a fr t Q:=by
 have e_:(W42 a fr t Q)=(ZJ (Zml (cd Try.f42 [1,1,0,1,0,0])) (Z1B a fr t 0 []) (xB 0 (Zlg (cd Try.f42 [1,1,1]) Q))):=by kernel_rfl
 exact e_.mpr h
abbrev Zkx(a:Arena)(fr:Spot)(t:Tree)(x17:Int)(x7:List Int)(N0:NT)(Q:QT):=AW (Z0 Z1o) Try.f42 Zbe [1,1,0,1,0,0] (Z1B a fr t x17 x7) (xT N0 (xB 0 (SW (Z0 Z1o) Try.f42 Zbe [1,1,1] Q)))
theorem ZkO(a:Arena)(fr:Spot)(t:Tree)(x17:Int)(x7:List Int)(N0:NT)(Q:QT)(h:∀ y_1,y_1=fr->∀ y_2,y_2=(t.kids.getD x17.toNat Tree.nil)->∀ y_3,y_3=(Zd a ((J3 (t.kind - 2) x7).length:Int))->∀ y_4,y_4=(Z4 a ((J3 (t.kind - 2) x7).length:Int))->∀ y_5,y_5=(Ptr.mk 2 0 0 0 (t.kind - 2) (x7.length:Int) 0 false)->∀ y_6,y_6=(Spot.mk (if Z4 a ((J3 (t.kind - 2) x7).length:Int) then giveS a ((J3 (t.kind - 2) x7).length:Int) else 0) (if Z4 a ((J3 (t.kind - 2) x7).length:Int) then giveT a ((J3 (t.kind - 2) x7).length:Int) else 0))->∀ y_7,y_7=y_6->∀ y_8,y_8=y_2->∀ y_9,y_9=(ZN y_3 (Spot.segment y_1) (Spot.at_ y_1) (Spot.segment y_7) (Spot.at_ y_7) (kdP y_5) (upP y_5))->((decide (x17 < (t.kids.length:Int)))=true->((0:Int)<=x17/\x17 < (t.kids.length:Int))/\((ZeV (y_8,0,()))/\((x7.length+([Z1U y_8 0]).length)*8<=140737488355328)/\((InR (x17+1))/\(N0 (Z1B a fr t (x17+1) (x7++([Z1U y_8 0])))))))/\((decide (x17 < (t.kids.length:Int)))=false->(InR (t.kind - 2))/\(Zb3 ((t.kind - 2),x7,()))/\((Z2p ((a,()),((J3 (t.kind - 2) x7).length:Int),()))/\((y_4=true->InR (t.kind - 2))/\(y_4=true->Z54 ((y_3,()),y_1,y_7,y_5,()))/\((bif y_4 then (y_9.2) else false)=true->JR (((bif y_4 then (y_9.1) else y_3),()),y_7,(J3 (t.kind - 2) x7),()))/\(Q .ret (⟨[(0,.agg [.mref (.A)]),pB 6 (bif (bif y_4 then (y_9.2) else false) then true else false)],[],[(.A,LC.mk (U:=U) .arena ([bif (bif y_4 then (y_9.2) else false) then (ZG (J3 (t.kind - 2) x7) (bif y_4 then (y_9.1) else y_3) (Spot.segment y_7) (Spot.at_ y_7)) else (bif y_4 then (y_9.1) else y_3)]) 0)]⟩:LSt U)))))):
  Zkx a fr t x17 x7 N0 Q:=by
 have e_:(Zkx a fr t x17 x7 N0 Q)=(let y_1:=(YM fr);let y_2:=(t.kids.getD x17.toNat Tree.nil);let y_3:=(Zd a ((J3 (t.kind - 2) x7).length:Int));let y_4:=(Z4 a ((J3 (t.kind - 2) x7).length:Int));let y_5:=(Ptr.mk 2 0 0 0 (t.kind - 2) (x7.length:Int) 0 false);let y_6:=(Spot.mk (if Z4 a ((J3 (t.kind - 2) x7).length:Int) then giveS a ((J3 (t.kind - 2) x7).length:Int) else 0) (if Z4 a ((J3 (t.kind - 2) x7).length:Int) then giveT a ((J3 (t.kind - 2) x7).length:Int) else 0));let y_7:=(YM y_6);let y_8:=(Z04 y_2);let y_9:=(ZN y_3 (Spot.segment y_1) (Spot.at_ y_1) (Spot.segment y_7) (Spot.at_ y_7) (kdP y_5) (upP y_5));let zz1:=(bif y_4 then (y_9.1) else y_3);let zz0:=(bif y_4 then (y_9.2) else false);(((decide ((x17:Int) < (t.kids.length:Int)))=true->((0:Int)<=x17/\x17 < (t.kids.length:Int))/\((ZeV (y_8,0,()))/\((x7.length+([Z1U y_8 0]).length)*8<=140737488355328)/\((InR ((x17:Int)+1))/\(N0 (Z1B a fr t ((x17:Int)+1) (x7++([Z1U y_8 0])))))))/\((decide ((x17:Int) < (t.kids.length:Int)))=false->(InR (t.kind - 2))/\(Zb3 ((t.kind - 2),x7,()))/\((Z2p ((a,()),((J3 (t.kind - 2) x7).length:Int),()))/\((true=true->true=true)/\(y_4=true->y_4=true)/\(y_4=true->y_4=true)/\(y_4=true->InR (t.kind - 2))/\(y_4=true->y_4=true)/\(y_4=true->y_4=true)/\(y_4=true->y_4=true)/\(y_4=true->y_4=true)/\(y_4=true->y_4=true)/\(y_4=true->y_4=true)/\(y_4=true->y_4=true)/\(y_4=true->Z54 ((y_3,()),y_1,y_7,y_5,()))/\(y_4=true->y_4=true)/\(Tr (zz0=true))/\(Tr (zz0=true))/\(Tr (zz0=true))/\(zz0=true->JR ((zz1,()),y_7,(J3 (t.kind - 2) x7),()))/\(Tr (zz0=true))/\(Q .ret (⟨[(0,.agg [.mref (.A)]),pB 6 (bif zz0 then true else false)],[],[(.A,LC.mk (U:=U) .arena ([bif zz0 then (ZG (J3 (t.kind - 2) x7) zz1 (Spot.segment y_7) (Spot.at_ y_7)) else zz1]) 0)]⟩:LSt U))))))):=by kernel_rfl
 exact e_.mpr (by intro y_1 y_2 y_3 y_4 y_5 y_6 y_7 y_8 y_9;have hh:=h y_1 (ZU _) y_2 rfl y_3 rfl y_4 rfl y_5 rfl y_6 rfl y_7 (ZU _) y_8 (ZT _) y_9 rfl;exact ⟨fun c_1=> ⟨(hh.1 c_1).1,⟨(hh.1 c_1).2.1,(hh.1 c_1).2.2.1,⟨(hh.1 c_1).2.2.2.1,(hh.1 c_1).2.2.2.2⟩⟩⟩,fun c_1=> ⟨(hh.2 c_1).1,(hh.2 c_1).2.1,⟨(hh.2 c_1).2.2.1,⟨(by decide),id,id,(hh.2 c_1).2.2.2.1,id,id,id,id,id,id,id,(hh.2 c_1).2.2.2.2.1,(by generalize y_4=b0;revert b0;decide),id,id,id,(hh.2 c_1).2.2.2.2.2.1,(by generalize (y_9.2)=b0;generalize y_4=b1;revert b0 b1;decide),(hh.2 c_1).2.2.2.2.2.2⟩⟩⟩⟩)
abbrev Zqn(a:Arena)(fr:Spot)(t:Tree):Prop:=AW (Z0 Z1o) Try.f42 Zbe [] (Yu (Zbv.can ((a,()),fr,t,())) (Zbv.canX ((a,()),fr,t,())) (Zbv.canL ((a,()),fr,t,()))) (YQ cfg Try.f42.ntmps Try.f42.results.toList (ZbX ((a,()),fr,t,())) (Zhw ((a,()),fr,t,())) (Z8f ((a,()),fr,t,())))
theorem Zon(c59:CT 59 Z7R)(ZjK:CT 60 Z4S)(c22:CT 22 Z03)(c43:CT 43 Z4i)(c44:CT 44 Ji)(hb:∀ (a:Arena) (fr:Spot) (t:Tree) (_:Unit),ZeW ((a,()),fr,t,())->Zqn a fr t):CT 42 ZaI:=
 Contract.passing <| ZM (l:=[(59,Z7R),(60,Z4S),(22,Z03),(43,Z4i),(44,Ji)]) Zf rfl (⟨c59,ZjK,c22,c43,c44,trivial⟩) Zbe Try.func42 rfl rfl 3 (fun _=> rfl) (by decide) (fun ⟨⟨a,_⟩,fr,t,_⟩=> hb a fr t ())
def Z05(N:Nat):List (FuncId × Fs U):=(23,(Z07 Zbv (fun a=> [Z6D a,Zit a < N]) ZbX Zhw Z8f).passing [0]) ::(45,(Z07 Zbv (fun a=> [Z53 a,ZdC a < N]) Z9V Zhw Z5N).passing [0]) ::(41,(Z07 Zbv (fun a=> [Zaa a,Zis a < N]) ZbX Zhw Z8f).passing [0]) ::[(22,Z03),(43,Z4i),(44,Ji),(46,Z4h),(42,ZaI),(74,Z7U),(75,Z1i)]
def ZdD:Z8 U:=fun i=> match i with
 | 0=> ([(0,[.ar]),(3,[]),(4,[]),(5,[])],[(.loc 3,[.ar]),(.loc 4,[]),(.loc 5,[])])
 | 1=> ([(0,[.ar]),(3,[]),(4,[]),(5,[]),(7,[])],[(.loc 3,[.ar]),(.loc 4,[]),(.loc 5,[]),(.loc 7,[])])
 | 2=> ([(0,[.ar]),(3,[]),(4,[]),(5,[]),(7,[]),(8,[])],[(.loc 3,[.ar]),(.loc 4,[]),(.loc 5,[]),(.loc 7,[])])
 | 3=> ([(0,[.ar]),(6,[])],[])
 | 4=> ([(0,[.ar]),(3,[]),(4,[]),(5,[]),(7,[]),(8,[]),(22,[])],[(.loc 3,[.ar]),(.loc 4,[]),(.loc 5,[]),(.loc 7,[])])
 | 5=> ([(0,[.ar]),(6,[])],[])
 | 6=> ([(0,[.ar]),(3,[]),(4,[]),(5,[]),(7,[]),(8,[]),(26,[])],[(.loc 3,[.ar]),(.loc 4,[]),(.loc 5,[]),(.loc 7,[])])
 | 7=> ([(0,[.ar]),(3,[]),(4,[]),(5,[]),(7,[]),(8,[])],[(.loc 3,[.ar]),(.loc 4,[]),(.loc 5,[]),(.loc 7,[])])
 | 8=> ([(0,[.ar]),(3,[]),(4,[]),(5,[]),(7,[]),(8,[])],[(.loc 3,[.ar]),(.loc 4,[]),(.loc 5,[]),(.loc 7,[])])
 | 9=> ([(0,[.ar]),(3,[]),(4,[]),(5,[]),(7,[]),(8,[]),(42,[])],[(.loc 3,[.ar]),(.loc 4,[]),(.loc 5,[]),(.loc 7,[])])
 | 10=> ([(0,[.ar]),(3,[]),(4,[]),(5,[]),(7,[]),(8,[])],[(.loc 3,[.ar]),(.loc 4,[]),(.loc 5,[]),(.loc 7,[])])
 | 11=> ([(0,[.ar]),(3,[]),(4,[]),(5,[]),(47,[])],[(.loc 3,[.ar]),(.loc 4,[]),(.loc 5,[])])
 | 12=> ([(0,[.ar]),(6,[])],[])
 | 13=> ([(0,[.ar]),(3,[]),(4,[]),(5,[]),(7,[]),(9,[]),(10,[])],[(.loc 3,[.ar]),(.loc 4,[]),(.loc 5,[]),(.loc 7,[]),(.loc 9,[])])
 | 14=> ([(0,[.ar]),(6,[])],[])
 | _=> ([],[])
def Z3l(a:Arena)(fr:Spot)(t:Tree)(x8 ml7_0 ml7_2 ml7_3 ml7_4 ml7_5:Int):LSt U:=(⟨[(0,.agg [.mref (.A)]),pL 3,pL 4,pL 5,pL 7,pI 8 x8],[(.loc 3,[.mref (.A)]),(.loc 4,(enc .spot fr)),(.loc 5,(enc .tree t)),(.loc 7,[ci ml7_0,ci 0,ci ml7_2,ci ml7_3,ci ml7_4,ci ml7_5,ci 0,.bool false])],[(.A,LC.mk (U:=U) .arena ([a]) 0)]⟩:LSt U)
abbrev W23(N:Nat)(a:Arena)(fr:Spot)(t:Tree)(Q:QT):=AW (Z0 (Z05 N)) Try.f23 ZdD [] (⟨[(0,.agg [.mref (.A)]),(1,.agg (enc .spot fr)),(2,.agg (enc .tree t))],[],[(.A,LC.mk (U:=U) .arena ([a]) 0)]⟩:LSt U) Q
abbrev ZfT(N:Nat):=awp cfg (Z0 (Z05 N)) (Y0 cfg (Z0 (Z05 N))) Try.f23.ntmps ZdD
theorem Zsu(N:Nat)(a:Arena)(fr:Spot)(t:Tree)(Q:QT)(h:((t.kind==0)=true->Q .ret (⟨[(0,.agg [.mref (.A)]),pB 6 true],[],[(.A,LC.mk (U:=U) .arena ([a]) 0)]⟩:LSt U))/\((t.kind==0)=false->((t.kind==1)=true->(InR (((t.kids.length:Int):Int)+(t.words.length:Int)))/\(AW (Z0 (Z05 N)) Try.f23 ZdD [1,1,1,1] (Z3l a fr t (((t.kids.length:Int):Int)+(t.words.length:Int)) 1 (t.words.length:Int) (t.kids.length:Int) 0 0) Q))/\((t.kind==1)=false->((t.kind==8)=true->AW (Z0 (Z05 N)) Try.f23 ZdD [1,1,1,1] (Z3l a fr t (t.kids.length:Int) 2 0 0 6 (t.kids.length:Int)) Q)/\((t.kind==8)=false->((t.kind==9)=true->(Zaa ((a,()),(Spot.mk (Spot.segment fr) (Spot.at_ fr)),(Tree.mk t.kind t.words t.kids),()))/\(Zis ((a,()),(Spot.mk (Spot.segment fr) (Spot.at_ fr)),(Tree.mk t.kind t.words t.kids),()) < N)/\(Q .ret (⟨[(0,.agg [.mref (.A)]),(6,.c (.bool ((ZP (Tree.mk t.kind t.words t.kids) a (Spot.segment (Spot.mk (Spot.segment fr) (Spot.at_ fr))) (Spot.at_ (Spot.mk (Spot.segment fr) (Spot.at_ fr)))).2)))],[],[(.A,LC.mk (U:=U) .arena ([(ZP (Tree.mk t.kind t.words t.kids) a (Spot.segment (Spot.mk (Spot.segment fr) (Spot.at_ fr))) (Spot.at_ (Spot.mk (Spot.segment fr) (Spot.at_ fr)))).1]) 0)]⟩:LSt U)))/\((t.kind==9)=false->(ZeW ((a,()),(Spot.mk (Spot.segment fr) (Spot.at_ fr)),(Tree.mk t.kind t.words t.kids),()))/\(Q .ret (⟨[(0,.agg [.mref (.A)]),(6,.c (.bool ((ZP (Tree.mk t.kind t.words t.kids) a (Spot.segment (Spot.mk (Spot.segment fr) (Spot.at_ fr))) (Spot.at_ (Spot.mk (Spot.segment fr) (Spot.at_ fr)))).2)))],[],[(.A,LC.mk (U:=U) .arena ([(ZP (Tree.mk t.kind t.words t.kids) a (Spot.segment (Spot.mk (Spot.segment fr) (Spot.at_ fr))) (Spot.at_ (Spot.mk (Spot.segment fr) (Spot.at_ fr)))).1]) 0)]⟩:LSt U))))))):
  W23 N a fr t Q:=by
 have e_:(W23 N a fr t Q)=(((t.kind==0)=true->(Q .ret (⟨[(0,.agg [.mref (.A)]),pB 6 true],[],[(.A,LC.mk (U:=U) .arena ([a]) 0)]⟩:LSt U)))/\((t.kind==0)=false->(((t.kind==1)=true->((InR ((t.kids.length:Int)+(t.words.length:Int)))/\(ZfT N (cd Try.f23 [1,1,1,1]) (Z3l a fr t ((t.kids.length:Int)+(t.words.length:Int)) 1 (t.words.length:Int) (t.kids.length:Int) 0 0) Q)))/\((t.kind==1)=false->(((t.kind==8)=true->(ZfT N (cd Try.f23 [1,1,1,1]) (Z3l a fr t (t.kids.length:Int) 2 0 0 6 (t.kids.length:Int)) Q))/\((t.kind==8)=false->(((t.kind==9)=true->(Zaa ((a,()),(Spot.mk (Spot.segment fr) (Spot.at_ fr)),(Tree.mk t.kind t.words t.kids),()))/\(Zis ((a,()),(Spot.mk (Spot.segment fr) (Spot.at_ fr)),(Tree.mk t.kind t.words t.kids),()) < N)/\(Q .ret (⟨[(0,.agg [.mref (.A)]),(6,.c (.bool ((ZP (Tree.mk t.kind t.words t.kids) a (Spot.segment (Spot.mk (Spot.segment fr) (Spot.at_ fr))) (Spot.at_ (Spot.mk (Spot.segment fr) (Spot.at_ fr)))).2)))],[],[(.A,LC.mk (U:=U) .arena ([(ZP (Tree.mk t.kind t.words t.kids) a (Spot.segment (Spot.mk (Spot.segment fr) (Spot.at_ fr))) (Spot.at_ (Spot.mk (Spot.segment fr) (Spot.at_ fr)))).1]) 0)]⟩:LSt U)))/\((t.kind==9)=false->(ZeW ((a,()),(Spot.mk (Spot.segment fr) (Spot.at_ fr)),(Tree.mk t.kind t.words t.kids),()))/\(Q .ret (⟨[(0,.agg [.mref (.A)]),(6,.c (.bool ((ZP (Tree.mk t.kind t.words t.kids) a (Spot.segment (Spot.mk (Spot.segment fr) (Spot.at_ fr))) (Spot.at_ (Spot.mk (Spot.segment fr) (Spot.at_ fr)))).2)))],[],[(.A,LC.mk (U:=U) .arena ([(ZP (Tree.mk t.kind t.words t.kids) a (Spot.segment (Spot.mk (Spot.segment fr) (Spot.at_ fr))) (Spot.at_ (Spot.mk (Spot.segment fr) (Spot.at_ fr)))).1]) 0)]⟩:LSt U)))))))))):=by kernel_rfl
 exact e_.mpr ⟨fun c_2=> (h.1 c_2),fun c_2=> ⟨fun c_3=> ⟨((h.2 c_2).1 c_3).1,((h.2 c_2).1 c_3).2⟩,fun c_3=> ⟨fun c_4=> (((h.2 c_2).2 c_3).1 c_4),fun c_4=> ⟨fun c_5=> ⟨((((h.2 c_2).2 c_3).2 c_4).1 c_5).1,((((h.2 c_2).2 c_3).2 c_4).1 c_5).2.1,((((h.2 c_2).2 c_3).2 c_4).1 c_5).2.2⟩,fun c_5=> ⟨((((h.2 c_2).2 c_3).2 c_4).2 c_5).1,((((h.2 c_2).2 c_3).2 c_4).2 c_5).2⟩⟩⟩⟩⟩
abbrev Zej(N:Nat)(a:Arena)(fr:Spot)(t:Tree)(x8 ml7_0 ml7_2 ml7_3 ml7_4 ml7_5:Int)(Q:QT):=AW (Z0 (Z05 N)) Try.f23 ZdD [1,1,1,1] (Z3l a fr t x8 ml7_0 ml7_2 ml7_3 ml7_4 ml7_5) Q
theorem ZkZ(N:Nat)(a:Arena)(fr:Spot)(t:Tree)(x8 ml7_0 ml7_2 ml7_3 ml7_4 ml7_5:Int)(Q:QT)(h:∀ y_1,y_1=t->∀ y_2,y_2=fr->∀ y_3,y_3=(Spot.mk (if Z4 a x8 then giveS a x8 else 0) (if Z4 a x8 then giveT a x8 else 0))->∀ y_4,y_4=y_3->∀ y_5,y_5=(Spot.mk (Spot.segment y_4) (Spot.at_ y_4+(t.words.length:Int)))->∀ y_6,y_6=(ZN (Zd a x8) (Spot.segment y_2) (Spot.at_ y_2) (Spot.segment y_4) (Spot.at_ y_4) (kdP (Ptr.mk ml7_0 0 ml7_2 ml7_3 ml7_4 ml7_5 0 false)) (upP (Ptr.mk ml7_0 0 ml7_2 ml7_3 ml7_4 ml7_5 0 false)))->∀ y_7,y_7=y_5->∀ y_8,y_8=(ZG t.words (bif (Z4 a x8) then (y_6.1) else (Zd a x8)) (Spot.segment y_4) (Spot.at_ y_4))->∀ y_9,y_9=(ZX y_1.kids (bif (bif (Z4 a x8) then (y_6.2) else false) then y_8 else (bif (Z4 a x8) then (y_6.1) else (Zd a x8))) (Spot.segment y_7) (Spot.at_ y_7))->(Z2p ((a,()),x8,()))/\(((Z4 a x8)=true->Z54 (((Zd a x8),()),y_2,y_4,(Ptr.mk ml7_0 0 ml7_2 ml7_3 ml7_4 ml7_5 0 false),()))/\((bif (Z4 a x8) then (y_6.2) else false)=true->JR (((bif (Z4 a x8) then (y_6.1) else (Zd a x8)),()),y_4,t.words,()))/\((bif (bif (Z4 a x8) then (y_6.2) else false) then true else false)=true->Z2o (y_4,(t.words.length:Int),()))/\((bif (bif (Z4 a x8) then (y_6.2) else false) then true else false)=true->Z53 (((bif (bif (Z4 a x8) then (y_6.2) else false) then y_8 else (bif (Z4 a x8) then (y_6.1) else (Zd a x8))),()),y_7,y_1,()))/\((bif (bif (Z4 a x8) then (y_6.2) else false) then true else false)=true->ZdC (((bif (bif (Z4 a x8) then (y_6.2) else false) then y_8 else (bif (Z4 a x8) then (y_6.1) else (Zd a x8))),()),y_7,y_1,()) < N)/\(Q .ret (⟨[(0,.agg [.mref (.A)]),(6,.c (.bool (bif (bif (bif (Z4 a x8) then (y_6.2) else false) then true else false) then (y_9.2) else false)))],[],[(.A,LC.mk (U:=U) .arena ([bif (bif (bif (Z4 a x8) then (y_6.2) else false) then true else false) then (y_9.1) else (bif (bif (Z4 a x8) then (y_6.2) else false) then y_8 else (bif (Z4 a x8) then (y_6.1) else (Zd a x8)))]) 0)]⟩:LSt U)))):
  Zej N a fr t x8 ml7_0 ml7_2 ml7_3 ml7_4 ml7_5 Q:=by
 have e_:(Zej N a fr t x8 ml7_0 ml7_2 ml7_3 ml7_4 ml7_5 Q)=(let y_1:=(Z04 t);let y_2:=(YM fr);let y_3:=(Spot.mk (if Z4 a x8 then giveS a x8 else 0) (if Z4 a x8 then giveT a x8 else 0));let y_4:=(YM y_3);let y_5:=(Spot.mk (Spot.segment y_4) (Spot.at_ y_4+(t.words.length:Int)));let y_6:=(ZN (Zd a x8) (Spot.segment y_2) (Spot.at_ y_2) (Spot.segment y_4) (Spot.at_ y_4) (kdP (Ptr.mk ml7_0 0 ml7_2 ml7_3 ml7_4 ml7_5 0 false)) (upP (Ptr.mk ml7_0 0 ml7_2 ml7_3 ml7_4 ml7_5 0 false)));let y_7:=(YM y_5);let y_8:=(ZG t.words (bif (Z4 a x8) then (y_6.1) else (Zd a x8)) (Spot.segment y_4) (Spot.at_ y_4));let y_9:=(ZX y_1.kids (bif (bif (Z4 a x8) then (y_6.2) else false) then y_8 else (bif (Z4 a x8) then (y_6.1) else (Zd a x8))) (Spot.segment y_7) (Spot.at_ y_7));let zz1:=(bif (Z4 a x8) then (y_6.1) else (Zd a x8));let zz0:=(bif (Z4 a x8) then (y_6.2) else false);(Z2p ((a,()),x8,()))/\((Tr ((Z4 a x8)=true))/\(Tr ((Z4 a x8)=true))/\(Tr ((Z4 a x8)=true))/\(Tr ((Z4 a x8)=true))/\((Z4 a x8)=true->Z54 (((Zd a x8),()),y_2,y_4,(Ptr.mk ml7_0 0 ml7_2 ml7_3 ml7_4 ml7_5 0 false),()))/\(Tr ((Z4 a x8)=true))/\(Tr (zz0=true))/\(Tr (zz0=true))/\(Tr (zz0=true))/\(Tr (zz0=true))/\(zz0=true->JR ((zz1,()),y_4,t.words,()))/\(Tr (zz0=true))/\(Tr ((bif zz0 then true else false)=true))/\(Tr ((bif zz0 then true else false)=true))/\(Tr ((bif zz0 then true else false)=true))/\(Tr ((bif zz0 then true else false)=true))/\((bif zz0 then true else false)=true->Z2o (y_4,(t.words.length:Int),()))/\(Tr ((bif zz0 then true else false)=true))/\(Tr ((bif zz0 then true else false)=true))/\(Tr ((bif zz0 then true else false)=true))/\((bif zz0 then true else false)=true->Z53 (((bif zz0 then y_8 else zz1),()),y_7,y_1,()))/\((bif zz0 then true else false)=true->ZdC (((bif zz0 then y_8 else zz1),()),y_7,y_1,()) < N)/\(Tr ((bif zz0 then true else false)=true))/\(Q .ret (⟨[(0,.agg [.mref (.A)]),pB 6 (bif (bif zz0 then true else false) then (y_9.2) else false)],[],[(.A,LC.mk (U:=U) .arena ([bif (bif zz0 then true else false) then (y_9.1) else (bif zz0 then y_8 else zz1)]) 0)]⟩:LSt U)))):=by kernel_rfl
 exact e_.mpr (by intro y_1 y_2 y_3 y_4 y_5 y_6 y_7 y_8 y_9;have hh:=h y_1 (ZT _) y_2 (ZU _) y_3 rfl y_4 (ZU _) y_5 rfl y_6 rfl y_7 (ZU _) y_8 rfl y_9 rfl;exact ⟨hh.1,⟨id,id,id,id,hh.2.1,(by generalize (Z4 a x8)=b0;revert b0;decide),id,id,id,id,hh.2.2.1,(by generalize (y_6.2)=b0;generalize (Z4 a x8)=b1;revert b0 b1;decide),id,id,id,id,hh.2.2.2.1,id,id,id,hh.2.2.2.2.1,hh.2.2.2.2.2.1,(by generalize (y_6.2)=b0;generalize (Z4 a x8)=b1;revert b0 b1;decide),hh.2.2.2.2.2.2⟩⟩)
abbrev Zqz(N:Nat)(a:Arena)(fr:Spot)(t:Tree):Prop:=AW (Z0 (Z05 N)) Try.f23 ZdD [] (Yu (Zbv.can ((a,()),fr,t,())) (Zbv.canX ((a,()),fr,t,())) (Zbv.canL ((a,()),fr,t,()))) (YQ cfg Try.f23.ntmps Try.f23.results.toList (ZbX ((a,()),fr,t,())) (Zhw ((a,()),fr,t,())) (Z8f ((a,()),fr,t,())))
abbrev ZrA:Prop:=∀ (N:Nat) (a:Arena) (fr:Spot) (t:Tree) (_:Unit),Z6D ((a,()),fr,t,())->Zit ((a,()),fr,t,()) < N+1->Zqz N a fr t
def Z1m(N:Nat):List (FuncId × Fs U):=Z05 N
def Zbc:Z8 U:=fun i=> match i with
 | 0=> ([(0,[.ar]),(3,[]),(4,[]),(5,[])],[(.loc 3,[.ar]),(.loc 4,[]),(.loc 5,[])])
 | 1=> ([(0,[.ar]),(3,[]),(4,[]),(10,[]),(11,[]),(12,[])],[(.loc 3,[.ar]),(.loc 4,[])])
 | 2=> ([(0,[.ar]),(3,[]),(4,[]),(10,[]),(11,[]),(12,[]),(13,[])],[(.loc 3,[.ar]),(.loc 4,[])])
 | 3=> ([(0,[.ar]),(3,[]),(4,[]),(7,[]),(8,[]),(10,[]),(11,[]),(12,[])],[(.loc 3,[.ar]),(.loc 4,[]),(.loc 8,[])])
 | 4=> ([(0,[.ar]),(3,[]),(4,[]),(10,[]),(11,[]),(12,[]),(23,[])],[(.loc 3,[.ar]),(.loc 4,[])])
 | 5=> ([(0,[.ar]),(6,[])],[])
 | 6=> ([(0,[.ar]),(3,[]),(4,[]),(10,[]),(11,[]),(12,[])],[(.loc 3,[.ar]),(.loc 4,[])])
 | 7=> ([(0,[.ar]),(6,[])],[])
 | _=> ([],[])
def Z1z(a:Arena)(fr:Spot)(t:Tree)(x12:Int)(rA:Arena):LSt U:=(⟨[(0,.agg [.mref (.A)]),pL 3,pL 4,(10,.c (sU .tree t.kids .unk)),pI 11 (t.kids.length:Int),pI 12 x12],[(.loc 3,[.mref (.A)]),(.loc 4,(enc .spot fr))],[(.A,LC.mk (U:=U) .arena ([rA]) 0)]⟩:LSt U)
abbrev W45(N:Nat)(a:Arena)(fr:Spot)(t:Tree)(Q:QT):=AW (Z0 (Z1m N)) Try.f45 Zbc [] (⟨[(0,.agg [.mref (.A)]),(1,.agg (enc .spot fr)),(2,.agg (enc .tree t))],[],[(.A,LC.mk (U:=U) .arena ([a]) 0)]⟩:LSt U) Q
abbrev Zmj(N:Nat):=awp cfg (Z0 (Z1m N)) (Y0 cfg (Z0 (Z1m N))) Try.f45.ntmps Zbc
abbrev Zle(N:Nat):=Zd8 cfg (Z0 (Z1m N)) (Y0 cfg (Z0 (Z1m N))) Try.f45.ntmps Zbc
theorem Zsf(N:Nat)(a:Arena)(fr:Spot)(t:Tree)(Q:QT)(h:ZJ (AW (Z0 (Z1m N)) Try.f45 Zbc [1,0,1,0,0]) (Z1z a fr t 0 a) (xB 0 (SW (Z0 (Z1m N)) Try.f45 Zbc [1,1] Q))):
  W45 N a fr t Q:=by
 have e_:(W45 N a fr t Q)=(ZJ (Zmj N (cd Try.f45 [1,0,1,0,0])) (Z1z a fr t 0 a) (xB 0 (Zle N (cd Try.f45 [1,1]) Q))):=by kernel_rfl
 exact e_.mpr h
abbrev Zkv(N:Nat)(a:Arena)(fr:Spot)(t:Tree)(x12:Int)(rA:Arena)(N0:NT)(Q:QT):=AW (Z0 (Z1m N)) Try.f45 Zbc [1,0,1,0,0] (Z1z a fr t x12 rA) (xT N0 (xB 0 (SW (Z0 (Z1m N)) Try.f45 Zbc [1,1] Q)))
theorem ZkM(N:Nat)(a:Arena)(fr:Spot)(t:Tree)(x12:Int)(rA:Arena)(N0:NT)(Q:QT)(h:∀ y_1,y_1=fr->∀ y_2,y_2=(t.kids.getD x12.toNat Tree.nil)->∀ y_3,y_3=y_2->∀ y_4,y_4=(Spot.mk (Spot.segment y_1) (Spot.at_ y_1+x12))->((decide (x12 < (t.kids.length:Int)))=true->((0:Int)<=x12/\x12 < (t.kids.length:Int))/\((Z2o (y_1,x12,()))/\(Z6D ((rA,()),y_4,y_3,()))/\(Zit ((rA,()),y_4,y_3,()) < N)/\(((!((ZP y_3 rA (Spot.segment y_4) (Spot.at_ y_4)).2))=true->Q .ret (⟨[(0,.agg [.mref (.A)]),pB 6 false],[],[(.A,LC.mk (U:=U) .arena ([(ZP y_3 rA (Spot.segment y_4) (Spot.at_ y_4)).1]) 0)]⟩:LSt U))/\((!((ZP y_3 rA (Spot.segment y_4) (Spot.at_ y_4)).2))=false->(InR (x12+1))/\(N0 (Z1z a fr t (x12+1) ((ZP y_3 rA (Spot.segment y_4) (Spot.at_ y_4)).1)))))))/\((decide (x12 < (t.kids.length:Int)))=false->Q .ret (⟨[(0,.agg [.mref (.A)]),pB 6 true],[],[(.A,LC.mk (U:=U) .arena ([rA]) 0)]⟩:LSt U))):
  Zkv N a fr t x12 rA N0 Q:=by
 have e_:(Zkv N a fr t x12 rA N0 Q)=(let y_1:=(YM fr);let y_2:=(t.kids.getD x12.toNat Tree.nil);let y_3:=(Z04 y_2);let y_4:=(YM (Spot.mk (Spot.segment y_1) (Spot.at_ y_1+x12)));let zz0:=(!((ZP y_3 rA (Spot.segment y_4) (Spot.at_ y_4)).2));(((decide ((x12:Int) < (t.kids.length:Int)))=true->((0:Int)<=x12/\x12 < (t.kids.length:Int))/\((Z2o (y_1,x12,()))/\(Z6D ((rA,()),y_4,y_3,()))/\(Zit ((rA,()),y_4,y_3,()) < N)/\((zz0=true->(Q .ret (⟨[(0,.agg [.mref (.A)]),pB 6 false],[],[(.A,LC.mk (U:=U) .arena ([(ZP y_3 rA (Spot.segment y_4) (Spot.at_ y_4)).1]) 0)]⟩:LSt U)))/\(zz0=false->(InR ((x12:Int)+1))/\(N0 (Z1z a fr t ((x12:Int)+1) ((ZP y_3 rA (Spot.segment y_4) (Spot.at_ y_4)).1)))))))/\((decide ((x12:Int) < (t.kids.length:Int)))=false->(Q .ret (⟨[(0,.agg [.mref (.A)]),pB 6 true],[],[(.A,LC.mk (U:=U) .arena ([rA]) 0)]⟩:LSt U))))):=by kernel_rfl
 exact e_.mpr (by intro y_1 y_2 y_3 y_4;have hh:=h y_1 (ZU _) y_2 rfl y_3 (ZT _) y_4 (ZU _);exact ⟨fun c_6=> ⟨(hh.1 c_6).1,⟨(hh.1 c_6).2.1,(hh.1 c_6).2.2.1,(hh.1 c_6).2.2.2.1,⟨fun c_7=> ((hh.1 c_6).2.2.2.2.1 c_7),fun c_7=> ⟨((hh.1 c_6).2.2.2.2.2 c_7).1,((hh.1 c_6).2.2.2.2.2 c_7).2⟩⟩⟩⟩,fun c_6=> (hh.2 c_6)⟩)
abbrev Zqk(N:Nat)(a:Arena)(fr:Spot)(t:Tree):Prop:=AW (Z0 (Z1m N)) Try.f45 Zbc [] (Yu (Zbv.can ((a,()),fr,t,())) (Zbv.canX ((a,()),fr,t,())) (Zbv.canL ((a,()),fr,t,()))) (YQ cfg Try.f45.ntmps Try.f45.results.toList (Z9V ((a,()),fr,t,())) (Zhw ((a,()),fr,t,())) (Z5N ((a,()),fr,t,())))
abbrev Zry:Prop:=∀ (N:Nat) (a:Arena) (fr:Spot) (t:Tree) (_:Unit),Z53 ((a,()),fr,t,())->ZdC ((a,()),fr,t,()) < N+1->Zqk N a fr t
def Zbf:Z8 U:=fun i=> match i with
 | 0=> ([(0,[.ar]),(3,[]),(4,[]),(5,[])],[(.loc 3,[.ar]),(.loc 4,[]),(.loc 5,[])])
 | 1=> ([(0,[.ar]),(3,[]),(4,[]),(5,[]),(7,[]),(8,[])],[(.loc 3,[.ar]),(.loc 4,[]),(.loc 5,[])])
 | 2=> ([(0,[.ar]),(3,[]),(4,[]),(5,[]),(7,[]),(8,[]),(9,[])],[(.loc 3,[.ar]),(.loc 4,[]),(.loc 5,[])])
 | 3=> ([(0,[.ar]),(3,[]),(4,[]),(5,[]),(7,[]),(9,[]),(10,[])],[(.loc 3,[.ar]),(.loc 4,[]),(.loc 5,[])])
 | 4=> ([(0,[.ar]),(3,[]),(4,[]),(5,[]),(7,[]),(9,[]),(10,[]),(12,[]),(13,[])],[(.loc 3,[.ar]),(.loc 4,[]),(.loc 5,[]),(.loc 12,[])])
 | 5=> ([(0,[.ar]),(3,[]),(5,[]),(7,[]),(9,[]),(12,[]),(68,[])],[(.loc 3,[.ar]),(.loc 5,[]),(.loc 12,[])])
 | 6=> ([(0,[.ar]),(6,[])],[])
 | 7=> ([(0,[.ar]),(3,[]),(7,[]),(9,[]),(12,[]),(70,[]),(71,[]),(72,[])],[(.loc 3,[.ar]),(.loc 12,[])])
 | 8=> ([(0,[.ar]),(3,[]),(7,[]),(9,[]),(12,[]),(70,[]),(71,[]),(72,[]),(73,[])],[(.loc 3,[.ar]),(.loc 12,[])])
 | 9=> ([(0,[.ar]),(3,[]),(7,[]),(9,[]),(12,[]),(14,[]),(15,[]),(70,[]),(71,[]),(72,[])],[(.loc 3,[.ar]),(.loc 12,[]),(.loc 15,[])])
 | 10=> ([(0,[.ar]),(3,[]),(7,[]),(9,[]),(12,[]),(15,[]),(16,[]),(70,[]),(71,[]),(72,[])],[(.loc 3,[.ar]),(.loc 12,[]),(.loc 15,[]),(.loc 16,[])])
 | 11=> ([(0,[.ar]),(3,[]),(7,[]),(9,[]),(12,[]),(70,[]),(71,[]),(72,[]),(97,[])],[(.loc 3,[.ar]),(.loc 12,[])])
 | 12=> ([(0,[.ar]),(6,[])],[])
 | 13=> ([(0,[.ar]),(3,[]),(7,[]),(9,[]),(12,[]),(70,[]),(71,[]),(72,[])],[(.loc 3,[.ar]),(.loc 12,[])])
 | 14=> ([(0,[.ar]),(6,[])],[])
 | _=> ([],[])
def Z1C(a:Arena)(fr:Spot)(t:Tree)(x72:Int)(rA:Arena):LSt U:=(⟨[(0,.agg [.mref (.A)]),pL 3,pI 7 (frW (Tree.kids (Tree.mk t.kind t.words t.kids)):Int),(9,.c (ci (((frW (Tree.kids (Tree.mk t.kind t.words t.kids)):Int):Int)+(frK (Tree.kids (Tree.mk t.kind t.words t.kids)):Int)))),pL 12,(70,.c (sU .tree t.kids .unk)),pI 71 (t.kids.length:Int),pI 72 x72],[(.loc 3,[.mref (.A)]),(.loc 12,(enc .spot (Spot.mk (if Z4 a ((1:Int)+(((t.kids.length:Int):Int)*(((frW (Tree.kids (Tree.mk t.kind t.words t.kids)):Int):Int)+(frK (Tree.kids (Tree.mk t.kind t.words t.kids)):Int)))) then giveS a ((1:Int)+(((t.kids.length:Int):Int)*(((frW (Tree.kids (Tree.mk t.kind t.words t.kids)):Int):Int)+(frK (Tree.kids (Tree.mk t.kind t.words t.kids)):Int)))) else 0) (if Z4 a ((1:Int)+(((t.kids.length:Int):Int)*(((frW (Tree.kids (Tree.mk t.kind t.words t.kids)):Int):Int)+(frK (Tree.kids (Tree.mk t.kind t.words t.kids)):Int)))) then giveT a ((1:Int)+(((t.kids.length:Int):Int)*(((frW (Tree.kids (Tree.mk t.kind t.words t.kids)):Int):Int)+(frK (Tree.kids (Tree.mk t.kind t.words t.kids)):Int)))) else 0))))],[(.A,LC.mk (U:=U) .arena ([rA]) 0)]⟩:LSt U)
abbrev W41(N:Nat)(a:Arena)(fr:Spot)(t:Tree)(Q:QT):=AW (Z0 (Z1m N)) Try.f41 Zbf [] (⟨[(0,.agg [.mref (.A)]),(1,.agg (enc .spot fr)),(2,.agg (enc .tree t))],[],[(.A,LC.mk (U:=U) .arena ([a]) 0)]⟩:LSt U) Q
abbrev Zmm(N:Nat):=awp cfg (Z0 (Z1m N)) (Y0 cfg (Z0 (Z1m N))) Try.f41.ntmps Zbf
abbrev Zlh(N:Nat):=Zd8 cfg (Z0 (Z1m N)) (Y0 cfg (Z0 (Z1m N))) Try.f41.ntmps Zbf
theorem Zsj(N:Nat)(a:Arena)(fr:Spot)(t:Tree)(Q:QT)(h:∀ y_1,y_1=t->∀ y_2,y_2=fr->∀ y_3,y_3=(Ptr.mk 1 (t.kids.length:Int) (frW y_1.kids:Int) (frK y_1.kids:Int) 0 0 0 false)->∀ y_4,y_4=(Zd a ((1:Int)+(((t.kids.length:Int):Int)*(((frW y_1.kids:Int):Int)+(frK y_1.kids:Int)))))->∀ y_5,y_5=(Z4 a ((1:Int)+(((t.kids.length:Int):Int)*(((frW y_1.kids:Int):Int)+(frK y_1.kids:Int)))))->∀ y_6,y_6=(Ptr.mk 2 0 0 0 7 (((t.kids.length:Int):Int)*(((frW y_1.kids:Int):Int)+(frK y_1.kids:Int))) 0 false)->∀ y_7,y_7=(Spot.mk (if Z4 a ((1:Int)+(((t.kids.length:Int):Int)*(((frW y_1.kids:Int):Int)+(frK y_1.kids:Int)))) then giveS a ((1:Int)+(((t.kids.length:Int):Int)*(((frW y_1.kids:Int):Int)+(frK y_1.kids:Int)))) else 0) (if Z4 a ((1:Int)+(((t.kids.length:Int):Int)*(((frW y_1.kids:Int):Int)+(frK y_1.kids:Int)))) then giveT a ((1:Int)+(((t.kids.length:Int):Int)*(((frW y_1.kids:Int):Int)+(frK y_1.kids:Int)))) else 0))->∀ y_8,y_8=y_7->∀ y_9,y_9=(ZN y_4 (Spot.segment y_2) (Spot.at_ y_2) (Spot.segment y_8) (Spot.at_ y_8) (kdP y_6) (upP y_6))->∀ y_10,y_10=(ZG ([ZA y_3]) (bif (!(!y_5)) then (y_9.1) else y_4) (Spot.segment y_8) (Spot.at_ y_8))->(ZeY (y_1,()))/\((InR (((frW y_1.kids:Int):Int)+(frK y_1.kids:Int)))/\((Z1u (y_3,()))/\((InR (((t.kids.length:Int):Int)*(((frW y_1.kids:Int):Int)+(frK y_1.kids:Int))))/\(InR ((1:Int)+(((t.kids.length:Int):Int)*(((frW y_1.kids:Int):Int)+(frK y_1.kids:Int)))))/\(Z2p ((a,()),((1:Int)+(((t.kids.length:Int):Int)*(((frW y_1.kids:Int):Int)+(frK y_1.kids:Int)))),()))/\(((!(!y_5))=true->InR (((t.kids.length:Int):Int)*(((frW y_1.kids:Int):Int)+(frK y_1.kids:Int))))/\((!(!y_5))=true->Z54 ((y_4,()),y_2,y_8,y_6,()))/\((!(bif (!y_5) then true else (!(y_9.2))))=true->JR (((bif (!(!y_5)) then (y_9.1) else y_4),()),y_8,([ZA y_3]),()))/\(((bif (bif (!y_5) then true else (!(y_9.2))) then true else (!true))=true->Q .ret (⟨[(0,.agg [.mref (.A)]),pB 6 false],[],[(.A,LC.mk (U:=U) .arena ([bif (!(bif (!y_5) then true else (!(y_9.2)))) then y_10 else (bif (!(!y_5)) then (y_9.1) else y_4)]) 0)]⟩:LSt U))/\((bif (bif (!y_5) then true else (!(y_9.2))) then true else (!true))=false->ZJ (AW (Z0 (Z1m N)) Try.f41 Zbf [1,1,1,1,1,1,0,1,0,0]) (Z1C a fr t 0 (bif (!(bif (!y_5) then true else (!(y_9.2)))) then y_10 else (bif (!(!y_5)) then (y_9.1) else y_4))) (xB 0 (SW (Z0 (Z1m N)) Try.f41 Zbf [1,1,1,1,1,1,1] Q))))))))):
  W41 N a fr t Q:=by
 have e_:(W41 N a fr t Q)=(let y_1:=(Z04 t);let y_2:=(YM fr);let y_3:=(Ptr.mk 1 (t.kids.length:Int) (frW y_1.kids:Int) (frK y_1.kids:Int) 0 0 0 false);let y_4:=(Zd a ((1:Int)+((t.kids.length:Int)*(((frW y_1.kids:Int):Int)+(frK y_1.kids:Int)))));let y_5:=(Z4 a ((1:Int)+((t.kids.length:Int)*(((frW y_1.kids:Int):Int)+(frK y_1.kids:Int)))));let y_6:=(Ptr.mk 2 0 0 0 7 ((t.kids.length:Int)*(((frW y_1.kids:Int):Int)+(frK y_1.kids:Int))) 0 false);let y_7:=(Spot.mk (if Z4 a ((1:Int)+((t.kids.length:Int)*(((frW y_1.kids:Int):Int)+(frK y_1.kids:Int)))) then giveS a ((1:Int)+((t.kids.length:Int)*(((frW y_1.kids:Int):Int)+(frK y_1.kids:Int)))) else 0) (if Z4 a ((1:Int)+((t.kids.length:Int)*(((frW y_1.kids:Int):Int)+(frK y_1.kids:Int)))) then giveT a ((1:Int)+((t.kids.length:Int)*(((frW y_1.kids:Int):Int)+(frK y_1.kids:Int)))) else 0));let y_8:=(YM y_7);let y_9:=(ZN y_4 (Spot.segment y_2) (Spot.at_ y_2) (Spot.segment y_8) (Spot.at_ y_8) (kdP y_6) (upP y_6));let y_10:=(ZG ([ZA y_3]) (bif (!(!y_5)) then (y_9.1) else y_4) (Spot.segment y_8) (Spot.at_ y_8));let zz1:=(bif (!(!y_5)) then (y_9.1) else y_4);let zz0:=(bif (!y_5) then true else (!(y_9.2)));((ZeY (y_1,()))/\((InR (((frW y_1.kids:Int):Int)+(frK y_1.kids:Int)))/\((Z1u (y_3,()))/\((InR ((t.kids.length:Int)*(((frW y_1.kids:Int):Int)+(frK y_1.kids:Int))))/\(InR ((1:Int)+((t.kids.length:Int)*(((frW y_1.kids:Int):Int)+(frK y_1.kids:Int)))))/\(Z2p ((a,()),((1:Int)+((t.kids.length:Int)*(((frW y_1.kids:Int):Int)+(frK y_1.kids:Int)))),()))/\(((!(!y_5))=true->(!(!y_5))=true)/\((!(!y_5))=true->(!(!y_5))=true)/\((!(!y_5))=true->(!(!y_5))=true)/\((!(!y_5))=true->(!(!y_5))=true)/\((!(!y_5))=true->InR ((t.kids.length:Int)*(((frW y_1.kids:Int):Int)+(frK y_1.kids:Int))))/\((!(!y_5))=true->(!(!y_5))=true)/\((!(!y_5))=true->(!(!y_5))=true)/\((!(!y_5))=true->(!(!y_5))=true)/\((!(!y_5))=true->(!(!y_5))=true)/\((!(!y_5))=true->(!(!y_5))=true)/\((!(!y_5))=true->Z54 ((y_4,()),y_2,y_8,y_6,()))/\((!(!y_5))=true->(!(!y_5))=true)/\((!y_5)=false->(!(!y_5))=true)/\(Tr ((!zz0)=true))/\(Tr ((!zz0)=true))/\(Tr ((!zz0)=true))/\(Tr ((!zz0)=true))/\((!zz0)=true->JR ((zz1,()),y_8,([ZA y_3]),()))/\(Tr ((!zz0)=true))/\(zz0=false->(!zz0)=true)/\(((bif zz0 then true else (!true))=true->(Q .ret (⟨[(0,.agg [.mref (.A)]),pB 6 false],[],[(.A,LC.mk (U:=U) .arena ([bif (!zz0) then y_10 else zz1]) 0)]⟩:LSt U)))/\((bif zz0 then true else (!true))=false->(ZJ (Zmm N (cd Try.f41 [1,1,1,1,1,1,0,1,0,0])) (Z1C a fr t 0 (bif (!zz0) then y_10 else zz1)) (xB 0 (Zlh N (cd Try.f41 [1,1,1,1,1,1,1]) Q))))))))))):=by kernel_rfl
 exact e_.mpr (by intro y_1 y_2 y_3 y_4 y_5 y_6 y_7 y_8 y_9 y_10;have hh:=h y_1 (ZT _) y_2 (ZU _) y_3 rfl y_4 rfl y_5 rfl y_6 rfl y_7 rfl y_8 (ZU _) y_9 rfl y_10 rfl;exact ⟨hh.1,⟨hh.2.1,⟨hh.2.2.1,⟨hh.2.2.2.1,hh.2.2.2.2.1,hh.2.2.2.2.2.1,⟨id,id,id,id,hh.2.2.2.2.2.2.1,id,id,id,id,id,hh.2.2.2.2.2.2.2.1,id,(by generalize y_5=b0;revert b0;decide),id,id,id,id,hh.2.2.2.2.2.2.2.2.1,id,(by generalize (y_9.2)=b0;generalize y_5=b1;revert b0 b1;decide),⟨fun c_8=> (hh.2.2.2.2.2.2.2.2.2.1 c_8),fun c_8=> (hh.2.2.2.2.2.2.2.2.2.2 c_8)⟩⟩⟩⟩⟩⟩)
abbrev Zky(N:Nat)(a:Arena)(fr:Spot)(t:Tree)(x72:Int)(rA:Arena)(N0:NT)(Q:QT):=AW (Z0 (Z1m N)) Try.f41 Zbf [1,1,1,1,1,1,0,1,0,0] (Z1C a fr t x72 rA) (xT N0 (xB 0 (SW (Z0 (Z1m N)) Try.f41 Zbf [1,1,1,1,1,1,1] Q)))
theorem ZkP(N:Nat)(a:Arena)(fr:Spot)(t:Tree)(x72:Int)(rA:Arena)(N0:NT)(Q:QT)(h:∀ y_1,y_1=t->∀ y_2,y_2=(t.kids.getD x72.toNat Tree.nil)->∀ y_3,y_3=y_2->∀ y_4,y_4=(Spot.mk (if Z4 a ((1:Int)+(((t.kids.length:Int):Int)*(((frW y_1.kids:Int):Int)+(frK y_1.kids:Int)))) then giveS a ((1:Int)+(((t.kids.length:Int):Int)*(((frW y_1.kids:Int):Int)+(frK y_1.kids:Int)))) else 0) (if Z4 a ((1:Int)+(((t.kids.length:Int):Int)*(((frW y_1.kids:Int):Int)+(frK y_1.kids:Int)))) then giveT a ((1:Int)+(((t.kids.length:Int):Int)*(((frW y_1.kids:Int):Int)+(frK y_1.kids:Int)))) else 0))->∀ y_5,y_5=y_4->∀ y_6,y_6=(Spot.mk (Spot.segment y_5) (Spot.at_ y_5+((1:Int)+(x72*(((frW y_1.kids:Int):Int)+(frK y_1.kids:Int))))))->∀ y_7,y_7=y_6->∀ y_8,y_8=(ZG y_2.words rA (Spot.segment y_7) (Spot.at_ y_7))->∀ y_9,y_9=(Spot.mk (Spot.segment y_7) (Spot.at_ y_7+(frW y_1.kids:Int)))->∀ y_10,y_10=y_9->∀ y_11,y_11=(ZX y_3.kids y_8 (Spot.segment y_10) (Spot.at_ y_10))->((decide (x72 < (t.kids.length:Int)))=true->((0:Int)<=x72/\x72 < (t.kids.length:Int))/\((InR (x72*(((frW y_1.kids:Int):Int)+(frK y_1.kids:Int))))/\(InR ((1:Int)+(x72*(((frW y_1.kids:Int):Int)+(frK y_1.kids:Int)))))/\(Z2o (y_5,((1:Int)+(x72*(((frW y_1.kids:Int):Int)+(frK y_1.kids:Int)))),()))/\((JR ((rA,()),y_7,y_2.words,()))/\((!(!true))=true->Z2o (y_7,(frW y_1.kids:Int),()))/\((!(!true))=true->Z53 ((y_8,()),y_10,y_3,()))/\((!(!true))=true->ZdC ((y_8,()),y_10,y_3,()) < N)/\(((bif (!true) then true else (!(y_11.2)))=true->Q .ret (⟨[(0,.agg [.mref (.A)]),pB 6 false],[],[(.A,LC.mk (U:=U) .arena ([bif (!(!true)) then (y_11.1) else y_8]) 0)]⟩:LSt U))/\((bif (!true) then true else (!(y_11.2)))=false->(InR (x72+1))/\(N0 (Z1C a fr t (x72+1) (bif (!(!true)) then (y_11.1) else y_8))))))))/\((decide (x72 < (t.kids.length:Int)))=false->Q .ret (⟨[(0,.agg [.mref (.A)]),pB 6 true],[],[(.A,LC.mk (U:=U) .arena ([rA]) 0)]⟩:LSt U))):
  Zky N a fr t x72 rA N0 Q:=by
 have e_:(Zky N a fr t x72 rA N0 Q)=(let y_1:=(Z04 t);let y_2:=(t.kids.getD x72.toNat Tree.nil);let y_3:=(Z04 y_2);let y_4:=(Spot.mk (if Z4 a ((1:Int)+((t.kids.length:Int)*(((frW y_1.kids:Int):Int)+(frK y_1.kids:Int)))) then giveS a ((1:Int)+((t.kids.length:Int)*(((frW y_1.kids:Int):Int)+(frK y_1.kids:Int)))) else 0) (if Z4 a ((1:Int)+((t.kids.length:Int)*(((frW y_1.kids:Int):Int)+(frK y_1.kids:Int)))) then giveT a ((1:Int)+((t.kids.length:Int)*(((frW y_1.kids:Int):Int)+(frK y_1.kids:Int)))) else 0));let y_5:=(YM y_4);let y_6:=(Spot.mk (Spot.segment y_5) (Spot.at_ y_5+((1:Int)+((x72:Int)*(((frW y_1.kids:Int):Int)+(frK y_1.kids:Int))))));let y_7:=(YM y_6);let y_8:=(ZG y_2.words rA (Spot.segment y_7) (Spot.at_ y_7));let y_9:=(Spot.mk (Spot.segment y_7) (Spot.at_ y_7+(frW y_1.kids:Int)));let y_10:=(YM y_9);let y_11:=(ZX y_3.kids y_8 (Spot.segment y_10) (Spot.at_ y_10));(((decide ((x72:Int) < (t.kids.length:Int)))=true->((0:Int)<=x72/\x72 < (t.kids.length:Int))/\((InR ((x72:Int)*(((frW y_1.kids:Int):Int)+(frK y_1.kids:Int))))/\(InR ((1:Int)+((x72:Int)*(((frW y_1.kids:Int):Int)+(frK y_1.kids:Int)))))/\(Z2o (y_5,((1:Int)+((x72:Int)*(((frW y_1.kids:Int):Int)+(frK y_1.kids:Int)))),()))/\((JR ((rA,()),y_7,y_2.words,()))/\((!(!true))=true->(!(!true))=true)/\((!(!true))=true->(!(!true))=true)/\((!(!true))=true->Z2o (y_7,(frW y_1.kids:Int),()))/\((!(!true))=true->(!(!true))=true)/\((!(!true))=true->(!(!true))=true)/\((!(!true))=true->(!(!true))=true)/\((!(!true))=true->Z53 ((y_8,()),y_10,y_3,()))/\((!(!true))=true->ZdC ((y_8,()),y_10,y_3,()) < N)/\((!(!true))=true->(!(!true))=true)/\((!true)=false->(!(!true))=true)/\(((bif (!true) then true else (!(y_11.2)))=true->(Q .ret (⟨[(0,.agg [.mref (.A)]),pB 6 false],[],[(.A,LC.mk (U:=U) .arena ([bif (!(!true)) then (y_11.1) else y_8]) 0)]⟩:LSt U)))/\((bif (!true) then true else (!(y_11.2)))=false->(InR ((x72:Int)+1))/\(N0 (Z1C a fr t ((x72:Int)+1) (bif (!(!true)) then (y_11.1) else y_8))))))))/\((decide ((x72:Int) < (t.kids.length:Int)))=false->(Q .ret (⟨[(0,.agg [.mref (.A)]),pB 6 true],[],[(.A,LC.mk (U:=U) .arena ([rA]) 0)]⟩:LSt U))))):=by kernel_rfl
 exact e_.mpr (by intro y_1 y_2 y_3 y_4 y_5 y_6 y_7 y_8 y_9 y_10 y_11;have hh:=h y_1 (ZT _) y_2 rfl y_3 (ZT _) y_4 rfl y_5 (ZU _) y_6 rfl y_7 (ZU _) y_8 rfl y_9 rfl y_10 (ZU _) y_11 rfl;exact ⟨fun c_9=> ⟨(hh.1 c_9).1,⟨(hh.1 c_9).2.1,(hh.1 c_9).2.2.1,(hh.1 c_9).2.2.2.1,⟨(hh.1 c_9).2.2.2.2.1,id,id,(hh.1 c_9).2.2.2.2.2.1,id,id,id,(hh.1 c_9).2.2.2.2.2.2.1,(hh.1 c_9).2.2.2.2.2.2.2.1,id,(by decide),⟨fun c_10=> ((hh.1 c_9).2.2.2.2.2.2.2.2.1 c_10),fun c_10=> ⟨((hh.1 c_9).2.2.2.2.2.2.2.2.2 c_10).1,((hh.1 c_9).2.2.2.2.2.2.2.2.2 c_10).2⟩⟩⟩⟩⟩,fun c_9=> (hh.2 c_9)⟩)
abbrev Zqo(N:Nat)(a:Arena)(fr:Spot)(t:Tree):Prop:=AW (Z0 (Z1m N)) Try.f41 Zbf [] (Yu (Zbv.can ((a,()),fr,t,())) (Zbv.canX ((a,()),fr,t,())) (Zbv.canL ((a,()),fr,t,()))) (YQ cfg Try.f41.ntmps Try.f41.results.toList (ZbX ((a,()),fr,t,())) (Zhw ((a,()),fr,t,())) (Z8f ((a,()),fr,t,())))
abbrev Zrz:Prop:=∀ (N:Nat) (a:Arena) (fr:Spot) (t:Tree) (_:Unit),Zaa ((a,()),fr,t,())->Zis ((a,()),fr,t,()) < N+1->Zqo N a fr t
theorem Zlr(c22:CT 22 Z03)(c43:CT 43 Z4i)(c44:CT 44 Ji)(c46:CT 46 Z4h)(c42:CT 42 ZaI)(c74:CT 74 Z7U)(c75:CT 75 Z1i)(b23:ZrA)(b45:Zry)(b41:Zrz):
  CT 23 Z5J/\CT 45 Zhl/\CT 41 Zhm:=by
 have h23 : ∃ fn, Try.prog.funcs[(23 : FuncId)]? = some fn ∧ fn.body.isSome = true ∧ (fn.name == "runtime.NumGoroutine") = false := ⟨Try.f23, Try.func23, rfl, rfl⟩
 have h45 : ∃ fn, Try.prog.funcs[(45 : FuncId)]? = some fn ∧ fn.body.isSome = true ∧ (fn.name == "runtime.NumGoroutine") = false := ⟨Try.f45, Try.func45, rfl, rfl⟩
 have h41 : ∃ fn, Try.prog.funcs[(41 : FuncId)]? = some fn ∧ fn.body.isSome = true ∧ (fn.name == "runtime.NumGoroutine") = false := ⟨Try.f41, Try.func41, rfl, rfl⟩
 have key:∀ N,CT 23 (Z07 Zbv (fun a=> [Z6D a,Zit a < N]) ZbX Zhw Z8f)/\CT 45 (Z07 Zbv (fun a=> [Z53 a,ZdC a < N]) Z9V Zhw Z5N)/\CT 41 (Z07 Zbv (fun a=> [Zaa a,Zis a < N]) ZbX Zhw Z8f):=by
  intro N
  induction N with
  | zero=> exact ⟨Z68 h23,Z68 h45,Z68 h41⟩
  | succ N ih=>
   have kn:=Z0a (l:=Z05 N) ⟨ih.1,ih.2.1,ih.2.2,c22,c43,c44,c46,c42,c74,c75,trivial⟩
   exact ⟨Z0c (Γ:=Z0 (Z05 N)) Zf rfl kn ZdD Try.func23 rfl rfl (fun a=> by show 3<=_;decide) (fun ⟨⟨a,_⟩,fr,t,_⟩ h=> b23 N a fr t () h.1 h.2.1),
    Z0c (Γ:=Z0 (Z05 N)) Zf rfl kn Zbc Try.func45 rfl rfl (fun a=> by show 3<=_;decide) (fun ⟨⟨a,_⟩,fr,t,_⟩ h=> b45 N a fr t () h.1 h.2.1),
    Z0c (Γ:=Z0 (Z05 N)) Zf rfl kn Zbf Try.func41 rfl rfl (fun a=> by show 3<=_;decide) (fun ⟨⟨a,_⟩,fr,t,_⟩ h=> b41 N a fr t () h.1 h.2.1)⟩
 exact ⟨Z6a fun N=> (key N).1,Z6a fun N=> (key N).2.1,Z6a fun N=> (key N).2.2⟩
end
end
theorem JE{t:Tree}(h:rng t):okW t.words:=by
 obtain ⟨k,w,ks⟩:=t
 rw [rng] at h
 exact h.2.1
theorem Z8C{t:Tree}(h:rng t):okW (ZO t.kids):=by
 intro x hx
 obtain ⟨t',ht',rfl⟩:=Xi.1 hx
 exact Jd (JE (Jx h ht')) 0
theorem Zch{c:Int}{ns:List Int}(hn:okW ns)(hl:(ns.length:Int)<=1099511627776):okW (JX c ns):=by
 unfold JX
 split
 .rename_i hf
  exact ZhV hn hl hf
 .intro x hx
  cases hx
theorem Z5F{n fw fk:Nat}(hn:n < 1048576)(hw:fw < 65536)(hk:fk < 65536):0<=Z5G n fw fk/\Z5G n fw fk < 18446744073709551616:=by
 unfold Z5G
 omega
mutual
theorem Z57:∀ (t:Tree) {a:Arena} (s i:Int),OkAr a->rng t->(∃ d,Z5 t d=true)->OkAr (ZP t a s i).1/\Gr a (ZP t a s i).1
 | .mk k w ks,a,s,i,h,hg,⟨d,hr⟩=> by
  have rt:=riT hr
  have hlen:=rt.len
  have hkr:=rt.kind
  have hkg:∀ t∈ks,rng t:=fun t ht=> Jx hg (show t∈(Tree.mk k w ks).kids from ht)
  have hw:okW w:=JE hg
  have hnW:okW (ZO ks):=Z8C hg
  have hnl:(ZO ks).length=ks.length:=by rw [ZO,QG]
  rw [ZP]
  split
  .exact ⟨h,.refl a⟩
  .split
   .rename_i k0 k1
    have hs:=rt.stru k1
    refine Z6l (Y3 h _ _ _ (by decide) (fun _=> by omega)) fun _=> ?_
    have hb:=Y3 h s i ((w.length:Int)+ks.length) (k:=0) (up:=(w.length:Int)+65536*ks.length) (by decide) (fun _=> by omega)
    have h2:=Z0C ks (giveS a ((w.length:Int)+ks.length)) (giveT a ((w.length:Int)+ks.length)+w.length) (J9 w (giveS a ((w.length:Int)+ks.length)) (giveT a ((w.length:Int)+ks.length)) hb.1 hw) hkg (rt.kidsOk (.inl k1))
    exact ⟨h2.1,(Z2f _ _ _ _).trans h2.2⟩
   .split
    .rename_i k0 k1 k8
     have hu:Z4 a (ks.length:Int)=true->0<=6+8*(ks.length:Int)/\6+8*(ks.length:Int) < 4294967296:=fun q=> by have:=Z3O h q;omega
     refine Z6l (Y3 h _ _ _ (by decide) hu) fun _=> ?_
     exact Z0C ks _ _ (Y3 h s i _ (by decide) hu).1 hkg (rt.kidsOk (.inr k8))
    .split
     .rename_i k0 k1 k8 k9
      rw [k9] at rt
      have rows:=rt.rows
      have hfr:=Zfw fun t ht=> (rows t ht).2.2
      have hu:Z4 a (1+ks.length*((frW ks:Int)+frK ks))=true->0<=7+8*(ks.length*((frW ks:Int)+frK ks))/\7+8*(ks.length*((frW ks:Int)+frK ks)) < 4294967296:=fun q=> by
       have:=Z3O h q
       have h0:0<=(ks.length:Int)*((frW ks:Int)+frK ks):=Qw (by omega) (by omega)
       omega
      refine Z6l (Y3 h _ _ _ (by decide) hu) fun _=> ?_
      have hb:=Y3 h s i (1+ks.length*((frW ks:Int)+frK ks)) (k:=1) (by decide) hu
      have h2:=Zae (frW ks) (frK ks) ks (giveS a (1+ks.length*((frW ks:Int)+frK ks))) (giveT a (1+ks.length*((frW ks:Int)+frK ks))+1)
       (hb.1.put (giveS a (1+ks.length*((frW ks:Int)+frK ks))) (giveT a (1+ks.length*((frW ks:Int)+frK ks))) (Z5F hlen hfr.1 hfr.2)) hkg (fun t ht=> (rows t ht).2.1)
      exact ⟨h2.1,(Yw _ _ _ _).trans h2.2⟩
     .have hu:Z4 a ((JX (k - 2) (ZO ks)).length:Int)=true->0<=k - 2+8*(ks.length:Int)/\k - 2+8*(ks.length:Int) < 4294967296:=fun _=> by omega
      refine Z6l (Y3 h _ _ _ (by decide) hu) fun _=> ?_
      have hb:=Y3 h s i ((JX (k - 2) (ZO ks)).length:Int) (k:=1) (by decide) hu
      exact ⟨J9 _ _ _ hb.1 (Zch hnW (by omega)),Z2f _ _ _ _⟩
theorem Z0C:∀ (ks:List Tree) {a:Arena} (s i:Int),OkAr a->(∀ t∈ks,rng t)->Z12 ks->OkAr (ZX ks a s i).1/\Gr a (ZX ks a s i).1
 | [],a,s,i,h,_,_=> by rw [ZX];exact ⟨h,.refl a⟩
 | t ::r,a,s,i,h,hg,hk=> by
  rw [ZX]
  have h1:=Z57 t s i h (hg t (Q9 ..)) (hk t (Q9 ..)).2
  exact Z6l h1 fun _=> Z0C r s (i+1) h1.1 (fun x hx=> hg x (Q7 _ hx)) fun x hx=> hk x (Q7 _ hx)
theorem Zae:∀ (fw fk:Nat) (ks:List Tree) {a:Arena} (s i:Int),OkAr a->(∀ t∈ks,rng t)->(∀ t∈ks,Z12 t.kids)->OkAr (YT fw fk ks a s i).1/\Gr a (YT fw fk ks a s i).1
 | _,_,[],a,s,i,h,_,_=> by rw [YT];exact ⟨h,.refl a⟩
 | fw,fk,.mk k w l ::r,a,s,i,h,hg,hk=> by
  rw [YT]
  have hg0:=hg _ (Q9 ..)
  have h1:=Z0C l s (i+fw) (J9 w s i h (JE hg0)) (fun x hx=> Jx hg0 hx) (hk _ (Q9 ..))
  have h2:OkAr (ZX l (ZG w a s i) s (i+fw)).1/\Gr a (ZX l (ZG w a s i) s (i+fw)).1:=⟨h1.1,(Z2f _ _ _ _).trans h1.2⟩
  exact Z6l h2 fun _=> Zae fw fk r s _ h1.1 (fun x hx=> hg x (Q7 _ hx)) fun x hx=> hk x (Q7 _ hx)
end
theorem ZdG(t:Tree)(a:Arena)(s i:Int):ZP t a s i=
  if t.kind=0 then (a,true)
  else if t.kind=1 then JW (Y5 a s i (t.words.length+t.kids.length) 0 (t.words.length+65536*t.kids.length)) fun b=>
   ZX t.kids (ZG t.words b (giveS a (t.words.length+t.kids.length)) (giveT a (t.words.length+t.kids.length))) (giveS a (t.words.length+t.kids.length)) (giveT a (t.words.length+t.kids.length)+t.words.length)
  else if t.kind=8 then JW (Y5 a s i t.kids.length 1 (6+8*t.kids.length)) fun b=> ZX t.kids b (giveS a t.kids.length) (giveT a t.kids.length)
  else if t.kind=9 then JW (Y5 a s i (1+t.kids.length*((frW t.kids:Int)+frK t.kids)) 1 (7+8*(t.kids.length*((frW t.kids:Int)+frK t.kids)))) fun b=>
   YT (frW t.kids) (frK t.kids) t.kids (ZW b (giveS a (1+t.kids.length*((frW t.kids:Int)+frK t.kids))) (giveT a (1+t.kids.length*((frW t.kids:Int)+frK t.kids))) (Z5G t.kids.length (frW t.kids) (frK t.kids)))
    (giveS a (1+t.kids.length*((frW t.kids:Int)+frK t.kids))) (giveT a (1+t.kids.length*((frW t.kids:Int)+frK t.kids))+1)
  else JW (Y5 a s i (JX (t.kind - 2) (ZO t.kids)).length 1 (t.kind - 2+8*t.kids.length)) fun b=>
   (ZG (JX (t.kind - 2) (ZO t.kids)) b (giveS a (JX (t.kind - 2) (ZO t.kids)).length) (giveT a (JX (t.kind - 2) (ZO t.kids)).length),true):=by
 obtain ⟨k,w,ks⟩:=t
 rw [ZP]
 try rfl
theorem ZdY(ks:List Tree)(a:Arena)(s i:Int){j:Int}(h0:0<=j)(h:j < ks.length):
  ZX (ks.drop j.toNat) a s i=JW (ZP (ks.getD j.toNat Tree.nil) a s i) fun b=> ZX (ks.drop (j+1).toNat) b s (i+1):=by
 rw [ZjI h0 h Tree.nil,ZX]
theorem b45:Zry:=by
 intro N a fr t _ hp hN
 obtain ⟨⟨h,hf⟩,⟨hm,hg⟩,hK⟩:=hp
 dsimp only at h hf hm hg hK
 have hN:4*Zm t+1 < N+1:=hN
 have hk:=Z3L t
 have hh:=Z3.1 hf
 have hu:=h.used
 have hl:=h.len fr.segment
 refine Zsf N a fr t _ ?_
 refine Zr (ι:=Int × Arena) (fun p=> Z1z a fr t p.1 p.2) (fun p=> (0<=p.1/\p.1<=t.kids.length)/\(OkAr p.2/\Gr a p.2)/\ZX t.kids a fr.segment fr.at_=ZX (t.kids.drop p.1.toNat) p.2 fr.segment (fr.at_+p.1)) (fun p=> ((t.kids.length:Int) - p.1).toNat) (0,a) rfl ⟨⟨by dsimp only;omega,by dsimp only;omega⟩,⟨h,.refl a⟩,by simp⟩ ?_
 rintro ⟨i,r⟩ ⟨⟨g1,g2⟩,⟨g3,g4⟩,g5⟩
 dsimp only at g1 g2 g3 g4 g5
 refine ZkM N a fr t i r _ _ ?_
 rintro y1 rfl y2 hy2 y3 rfl y4 hy4
 refine ⟨fun hb=> ?_,fun hb=> ?_⟩
 .have hi:i < t.kids.length:=of_decide_eq_true hb
  have m1:=Z8R (t:=t) (i:=i.toNat) (by omega)
  have m4:=Z1w (l:=t.kids) (i:=i.toNat) (by omega) Tree.nil
  rw [<-hy2] at m1 m4
  have hat:Zc r.segs y1.segment (y1.at_+i) 1=true:=g4.has (Z3.2 ⟨hh.1,hh.2.1,by omega,by decide,by omega⟩)
  have ok:=Z57 y3 y1.segment (y1.at_+i) g3 (Jx hg m4) (hK _ m4).2
  have st:=ZdY t.kids r y1.segment (y1.at_+i) g1 hi
  rw [<-hy2] at st
  refine ⟨⟨g1,hi⟩,?_,⟨⟨g3,?_⟩,⟨?_,Jx hg m4⟩,hK _ m4⟩,?_,fun hc=> ?_,fun hc=> ⟨by ((unfold InR;omega)),(i+1,(ZP y3 r y1.segment (y1.at_+i)).1),?_,⟨⟨by dsimp only;omega,by dsimp only;omega⟩,⟨ok.1,g4.trans ok.2⟩,?_⟩,by dsimp only;omega⟩⟩
  .show InR (y1.at_+i)
   ((unfold InR;omega))
  .rw [hy4];exact hat
  .show Zm y3<=1000000;omega
  .show 4*Zm y3+3 < N;omega
  .have hc:(ZP y3 r y1.segment (y1.at_+i)).2=false:=by rw [hy4] at hc;simpa using hc
   have e:ZX t.kids a y1.segment y1.at_=ZP y3 r y1.segment (y1.at_+i):=by
    rw [g5,st]
    unfold JW
    rw [hc]
    try rfl
   simp only [Z9V,Z5N,e,hc]
   rw [hy4]
   (repeat' (first | exact trivial | exact rfl | apply And.intro))
  .rw [hy4]
  .dsimp only
   have hc:(ZP y3 r y1.segment (y1.at_+i)).2=true:=by rw [hy4] at hc;simpa using hc
   rw [g5,st]
   unfold JW
   rw [hc,cond_true,XH]
 .have e:i=t.kids.length:=by have:¬i < t.kids.length:=of_decide_eq_false hb;omega
  subst e
  have e:ZX t.kids a y1.segment y1.at_=(r,true):=by
   rw [g5,Qj,List.drop_length,ZX]
  simp only [Z9V,Z5N,e]
  (repeat' (first | exact trivial | exact rfl | apply And.intro))
theorem Zdw{c n:Int}(hc:0<=c/\c < 8)(hn:0<=n/\n < 536870912):Z6H (Ptr.mk 2 0 0 0 c n 0 false)/\kdP (Ptr.mk 2 0 0 0 c n 0 false)=1/\upP (Ptr.mk 2 0 0 0 c n 0 false)=c+8*n:=⟨ZnJ hc hn,rfl,rfl⟩
theorem Z7t{a:Arena}{s i n k up:Int}(hg:Z4 a n=true)(hb:(Y5 a s i n k up).2=true):Zc (Y5 a s i n k up).1.segs (giveS a n) (giveT a n) n=true:=(Z3S hb).2.has (Z0Y hg)
theorem Z5y{a:Arena}{s i n k up:Int}(hg:Z4 a n=true):Y5 a s i n k up=ZN (Zd a n) s i (giveS a n) (giveT a n) k up:=by
 unfold Y5
 rw [if_pos hg]
theorem Ze4{a:Arena}{s i n k up:Int}(hg:Z4 a n=false):Y5 a s i n k up=(a,false)/\Zd a n=a:=by
 unfold Y5 Zd
 rw [hg]
 exact ⟨rfl,rfl⟩
set_option maxHeartbeats 1000000 in
theorem c42:Contract Try.prog cfg 42 ZaI:=by
 refine Zon c59 ZjK c22 c43 c44 ?_
 intro a fr t _ hp
 obtain ⟨⟨⟨h,hf⟩,⟨hm,hg⟩,h10,d,hr⟩,k2,k7⟩:=hp
 dsimp only at h hf hm hg h10 hr k2 k7
 have rt:=Zhq hr
 have hlen:=rt.len
 obtain ⟨hfit,hat⟩:=rt.data k2 k7
 have hnl:(ZO t.kids).length=t.kids.length:=by rw [ZO,QG]
 have hnW:=Z8C hg
 have hlay:=ZdG t a fr.segment fr.at_
 rw [if_neg (by omega),if_neg (by omega),if_neg (by omega),if_neg (by omega)] at hlay
 have hpW:=Zch (c:=t.kind - 2) hnW (by omega)
 have hpR:JX (t.kind - 2) (ZO t.kids)=J3 (t.kind - 2) (ZO t.kids):=by unfold JX;rw [if_pos hfit]
 rw [hpR] at hlay hpW
 refine Zsi a fr t _ ?_
 refine Zr (ι:=Int × List Int) (fun p=> Z1B a fr t p.1 p.2) (fun p=> 0<=p.1/\p.1<=t.kids.length/\p.2=ZO (t.kids.take p.1.toNat)) (fun p=> ((t.kids.length:Int) - p.1).toNat) (0,[]) rfl ⟨by dsimp only;omega,by dsimp only;omega,rfl⟩ ?_
 rintro ⟨i,m⟩ ⟨g1,g2,g3⟩
 dsimp only at g1 g2 g3
 refine ZkO a fr t i m _ _ ?_
 rintro y1 rfl y2 hy2 y3 hy3 y4 hy4 y5 hy5 y6 hy6 y7 rfl y8 rfl y9 hy9
 refine ⟨fun hb=> ?_,fun hb=> ?_⟩
 .have hi:i < t.kids.length:=of_decide_eq_true hb
  have hl:m.length<=t.kids.length:=by rw [g3,ZO,QG,Qd];omega
  refine ⟨⟨g1,hi⟩,trivial,?_,by ((unfold InR;omega)),(i+1,_),rfl,⟨by dsimp only;omega,by dsimp only;omega,?_⟩,by dsimp only;omega⟩
  .simp only [Xl]
   omega
  .dsimp only
   rw [Zhf g1 hi,ZO,XY,g3,hy2]
   try rfl
 .have e:i=t.kids.length:=by have:¬i < t.kids.length:=of_decide_eq_false hb;omega
  subst e
  rw [Qj,XC] at g3
  subst g3
  generalize hP:J3 (t.kind - 2) (ZO t.kids)=P at*
  have hnl':((ZO t.kids).length:Int)=t.kids.length:=by rw [hnl]
  rw [hnl'] at hy5
  obtain ⟨q1,q2,q3⟩:=Zdw (c:=t.kind - 2) (n:=t.kids.length) ⟨by omega,by omega⟩ ⟨by omega,by omega⟩
  rw [<-hy5] at q1 q2 q3
  rw [q2,q3] at hy9
  cases hk:Z4 a (P.length:Int) with
  | false=>
   obtain ⟨e1,e2⟩:=Ze4 (s:=y1.segment) (i:=y1.at_) (k:=1) (up:=t.kind - 2+8*(t.kids.length:Int)) hk
   rw [e1] at hlay
   have hlay:ZP t a y1.segment y1.at_=(a,false):=hlay
   have hy4:y4=false:=hy4.trans hk
   subst hy4
   have hy3:y3=a:=hy3.trans e2
   refine ⟨by ((unfold InR;omega)),⟨⟨hnW,by dsimp only;omega⟩,hfit⟩,h,fun q=> (by cases q),fun q=> (by cases q),fun q=> (by cases q),?_⟩
   simp only [ZbX,Z8f,hlay,cond_false,hy3]
   (repeat' (first | exact trivial | exact rfl | apply And.intro))
  | true=>
   have hy4:y4=true:=hy4.trans hk
   subst hy4
   have hgs:=Z8W hk
   have hgt:=h.giveT (P.length:Int)
   have hy7:y7=Spot.mk (giveS a P.length) (giveT a P.length):=by rw [hy6,if_pos hk,if_pos hk]
   rw [hy7] at hy9
   have e9:y9=Y5 a y1.segment y1.at_ P.length 1 (t.kind - 2+8*(t.kids.length:Int)):=by rw [hy9,hy3,Z5y hk]
   have hb9:OkAr y9.1:=by rw [e9];exact (Y3 h _ _ _ (by decide) (fun _=> by omega)).1
   rw [<-e9] at hlay
   rw [hy7]
   refine ⟨by ((unfold InR;omega)),⟨⟨hnW,by dsimp only;omega⟩,hfit⟩,h,fun _=> by ((unfold InR;omega)),fun _=> ⟨⟨by rw [hy3];exact h.give _,by rw [hy3];exact (Jy a _).has hf⟩,hgt,q1,by rw [hy3];exact hgs⟩,fun hq=> ⟨⟨hb9,hpW⟩,?_⟩,?_⟩
   .have hq:y9.2=true:=hq
    have:=Z7t (s:=y1.segment) (i:=y1.at_) (k:=1) (up:=t.kind - 2+8*(t.kids.length:Int)) hk (by rw [<-e9];exact hq)
    rw [<-e9] at this
    exact this
   .cases hq:y9.2 with
    | false=>
     have hlay:ZP t a y1.segment y1.at_=y9:=by rw [hlay];unfold JW;rw [hq];try rfl
     simp only [ZbX,Z8f,hlay,hq,cond_false,cond_true]
     (repeat' (first | exact trivial | exact rfl | apply And.intro))
    | true=>
     have hlay:ZP t a y1.segment y1.at_=(ZG P y9.1 (giveS a P.length) (giveT a P.length),true):=by rw [hlay];unfold JW;rw [hq];try rfl
     simp only [ZbX,Z8f,hlay,hq,cond_true]
     (repeat' (first | exact trivial | exact rfl | apply And.intro))
set_option maxHeartbeats 1000000 in
theorem b23:ZrA:=by
 intro N a fr t _ hp hN
 have hpre:=hp
 obtain ⟨⟨h,hf⟩,⟨hm,hg⟩,h10,d,hr⟩:=hp
 dsimp only at h hf hm hg h10 hr
 have hN:4*Zm t+3 < N+1:=hN
 have rt:=Zhq hr
 have hlen:=rt.len
 have hkr:=rt.kind
 have hk:=Z3L t
 have hw:=JE hg
 have hlay:=ZdG t a fr.segment fr.at_
 have core:∀ (n K UP k0 k2 k3 k4 k5:Int),n=(t.words.length:Int)+t.kids.length->Z6H (Ptr.mk k0 0 k2 k3 k4 k5 0 false)->kdP (Ptr.mk k0 0 k2 k3 k4 k5 0 false)=K->upP (Ptr.mk k0 0 k2 k3 k4 k5 0 false)=UP->
   Z12 t.kids->ZP t a fr.segment fr.at_=JW (Y5 a fr.segment fr.at_ n K UP) (fun b=> ZX t.kids (ZG t.words b (giveS a n) (giveT a n)) (giveS a n) (giveT a n+t.words.length))->
   Zej N a fr t n k0 k2 k3 k4 k5 (YQ cfg Try.f23.ntmps Try.f23.results.toList (ZbX ((a,()),fr,t,())) (Zhw ((a,()),fr,t,())) (Z8f ((a,()),fr,t,()))):=by
  intro n K UP k0 k2 k3 k4 k5 hn hp1 hp2 hp3 kOk hl
  obtain ⟨hkk,r1,r2,r3⟩:=Zb6 hp1
  rw [hp2] at r1
  rw [hp3] at r2
  refine ZkZ N a fr t n k0 k2 k3 k4 k5 _ ?_
  rintro y1 rfl y2 rfl y3 hy3 y4 rfl y5 hy5 y6 hy6 y7 rfl y8 hy8 y9 hy9
  rw [hp2,hp3] at hy6
  cases hk:Z4 a n with
  | false=>
   obtain ⟨e1,e2⟩:=Ze4 (s:=y2.segment) (i:=y2.at_) (k:=K) (up:=UP) hk
   rw [e1] at hl
   have hl:ZP y1 a y2.segment y2.at_=(a,false):=hl
   refine ⟨h,fun q=> (by cases q),fun q=> (by cases q),fun q=> (by cases q),fun q=> (by cases q),fun q=> (by cases q),?_⟩
   simp only [ZbX,Z8f,hl,cond_false,e2]
   (repeat' (first | exact trivial | exact rfl | apply And.intro))
  | true=>
   rw [hk] at hy8 hy9
   have hgs:=Z8W hk
   have hgt:=h.giveT n
   have hnl:=Z3O h hk
   have hy4:y4=Spot.mk (giveS a n) (giveT a n):=by rw [hy3,if_pos hk,if_pos hk]
   rw [hy4] at hy5 hy6 hy8
   have e6:y6=Y5 a y2.segment y2.at_ n K UP:=by rw [hy6,Z5y hk]
   have hb6:OkAr y6.1:=by rw [e6];exact (Y3 h _ _ _ r1 (fun _=> r2)).1
   rw [<-e6] at hl
   rw [hy4]
   simp only [cond_true] at hy8 hy9 ⊢
   have hb:y6.2=true->Zc y6.1.segs (giveS a n) (giveT a n) n=true:=fun q=> by
    have:=Z7t (s:=y2.segment) (i:=y2.at_) (k:=K) (up:=UP) hk (by rw [<-e6];exact q)
    rw [<-e6] at this
    exact this
   have ok8:OkAr y8:=by rw [hy8];exact J9 _ _ _ hb6 hw
   have g8:Gr y6.1 y8:=by rw [hy8];exact Z2f _ _ _ _
   have pre4:y6.2=true->Z53 ((y8,()),y7,y1,()):=fun q=> by
    have hb':=Z3.1 (hb q)
    rw [hy5]
    exact ⟨⟨ok8,g8.has (Z3.2 ⟨hb'.1,hb'.2.1,by dsimp only;omega,by dsimp only;omega,by dsimp only;omega⟩)⟩,⟨hm,hg⟩,kOk⟩
   refine ⟨h,fun _=> ⟨⟨h.give _,(Jy a _).has hf⟩,hgt,hp1,hgs⟩,fun q=> ⟨⟨hb6,hw⟩,?_⟩,fun q=> ?_,fun q=> ?_,fun q=> ?_,?_⟩
   .have hb':=Z3.1 (hb q)
    exact Z3.2 ⟨hb'.1,hb'.2.1,hb'.2.2.1,by dsimp only;omega,by dsimp only;omega⟩
   .show InR (giveT a n+(y1.words.length:Int))
    ((unfold InR;omega))
   .have q:y6.2=true:=by
     cases q6:y6.2 with
     | true=> rfl
     | false=> rw [q6] at q;cases q
    rw [q,cond_true]
    exact pre4 q
   .show 4*Zm y1+1 < N
    omega
   .cases q:y6.2 with
    | false=>
     have hl:ZP y1 a y2.segment y2.at_=y6:=by rw [hl];unfold JW;rw [q];try rfl
     simp only [ZbX,Z8f,hl,q,cond_false]
     (repeat' (first | exact trivial | exact rfl | apply And.intro))
    | true=>
     have hl:ZP y1 a y2.segment y2.at_=y9:=by
      rw [hl,hy9,hy8,hy5]
      unfold JW
      rw [q]
      try rfl
     simp only [ZbX,Z8f,hl,cond_true]
     (repeat' (first | exact trivial | exact rfl | apply And.intro))
 refine Zsu N a fr t _ ?_
 simp only [Tree.eta]
 refine ⟨fun k0=> ?_,fun k0=> ⟨fun k1=> ?_,fun k1=> ⟨fun k8=> ?_,fun k8=> ⟨fun k9=> ?_,fun k9=> ?_⟩⟩⟩⟩
 .have k0:t.kind=0:=eq_of_beq k0
  rw [if_pos k0] at hlay
  simp only [ZbX,Z8f,hlay]
  (repeat' (first | exact trivial | exact rfl | apply And.intro))
 .have k1:t.kind=1:=eq_of_beq k1
  have hs:=rt.stru k1
  rw [if_neg (by omega),if_pos k1] at hlay
  refine ⟨by ((unfold InR;omega)),core _ 0 ((t.words.length:Int)+65536*t.kids.length) 1 _ _ 0 0 (by omega) (ZnK ⟨by omega,by omega⟩ ⟨by omega,by omega⟩) rfl rfl (rt.kidsOk (.inl k1)) ?_⟩
  rw [hlay,Int.add_comm (t.kids.length:Int)]
 .have k8:t.kind=8:=eq_of_beq k8
  have hw0:=rt.list (by omega) (by omega)
  rw [if_neg (by omega),if_neg (by omega),if_pos k8] at hlay
  obtain ⟨q1,q2,q3⟩:=Zdw (c:=6) (n:=t.kids.length) ⟨by omega,by omega⟩ ⟨by omega,by omega⟩
  refine core _ _ _ 2 0 0 6 _ (by rw [hw0];simp) q1 q2 q3 (rt.kidsOk (.inr k8)) ?_
  rw [hlay,hw0]
  simp only [ZG,QS,Int.natCast_zero,K1]
 .have k9:t.kind=9:=eq_of_beq k9
  refine ⟨⟨⟨h,hf⟩,⟨hm,hg⟩,h10,d,hr,k9⟩,?_,?_⟩
  .show 4*Zm t+2 < N
   omega
  ·(repeat' (first | exact trivial | exact rfl | apply And.intro))
 .have n0:t.kind≠0:=fun q=> by rw [q] at k0;cases k0
  have n1:t.kind≠1:=fun q=> by rw [q] at k1;cases k1
  have n8:t.kind≠8:=fun q=> by rw [q] at k8;cases k8
  have n9:t.kind≠9:=fun q=> by rw [q] at k9;cases k9
  refine ⟨⟨hpre,?_,?_⟩,?_⟩
  .show 2<=t.kind;omega
  .show t.kind<=7;omega
  ·(repeat' (first | exact trivial | exact rfl | apply And.intro))
theorem Zga(fw fk:Nat)(ks:List Tree)(a:Arena)(s i:Int){j:Int}(h0:0<=j)(h:j < ks.length):
  YT fw fk (ks.drop j.toNat) a s i=JW (ZX (ks.getD j.toNat Tree.nil).kids (ZG (ks.getD j.toNat Tree.nil).words a s i) s (i+fw)) fun b=> YT fw fk (ks.drop (j+1).toNat) b s (i+((fw:Int)+fk)):=by
 rw [ZjI h0 h Tree.nil]
 obtain ⟨k,w,l⟩:=ks.getD j.toNat Tree.nil
 rw [YT]
 try rfl
set_option maxHeartbeats 2000000 in
theorem b41:Zrz:=by
 intro N a fr t _ hp hN
 obtain ⟨⟨h,hf⟩,⟨hm,hg⟩,h10,d,hr,k9⟩:=hp
 dsimp only at h hf hm hg h10 hr k9
 have hN:4*Zm t+2 < N+1:=hN
 have rt:=Zhq hr
 have hkl:=Z3L t
 have hlen:=rt.len
 have hlay:=ZdG t a fr.segment fr.at_
 rw [if_neg (by omega),if_neg (by omega),if_neg (by omega),if_pos k9] at hlay
 rw [k9] at rt
 have rows:=rt.rows
 have hfr:=Zfw fun t ht=> (rows t ht).2.2
 have hfit:Fit (frW t.kids) (frK t.kids) t.kids:=fun t ht=> Z4C ht
 have hfm:=Z7q t.kids
 have htag:=Z5F hlen hfr.1 hfr.2
 have fz:t.kids.length=0->frW t.kids=0/\frK t.kids=0:=fun h=> by
  rw [Qk.1 h];exact ⟨rfl,rfl⟩
 refine Zsj N a fr t _ ?_
 rintro y1 rfl y2 rfl y3 hy3 y4 hy4 y5 hy5 y6 hy6 y7 hy7 y8 rfl y9 hy9 y10 hy10
 simp only [Tree.eta]
 generalize hfw:frW y1.kids=fw at*
 generalize hfk:frK y1.kids=fk at*
 obtain ⟨P,hP⟩:∃ P:Int,P=(y1.kids.length:Int)*((fw:Int)+fk):=⟨_,rfl⟩
 have hP0:0<=P:=by rw [hP];exact Qw (by omega) (by omega)
 have hPm:P<=4000000000000:=by
  rw [hP]
  have:=K3 (show (y1.kids.length:Int)<=1048576 by omega) (show (fw:Int)+fk<=131072 by omega) (by omega) (by decide)
  omega
 rw [<-hP] at hy4 hy5 hy6 hy7 hlay ⊢
 have hen:ZA y3=Z5G y1.kids.length fw fk:=by
  rw [hy3]
  unfold ZA Z5G
  dsimp only
  rw [if_pos rfl,if_pos ⟨⟨by omega,by omega⟩,⟨by omega,by omega⟩,by omega,by omega⟩]
  omega
 rw [hen] at hy10 ⊢
 have pre74':ZeY (y1,()):=hm
 have pre75':Z1u (y3,()):=by rw [hy3];exact .inl rfl
 cases hk:Z4 a (1+P) with
 | false=>
  obtain ⟨e1,e2⟩:=Ze4 (s:=y2.segment) (i:=y2.at_) (k:=1) (up:=7+8*P) hk
  rw [e1] at hlay
  have hlay:ZP y1 a y2.segment y2.at_=(a,false):=hlay
  have hy5:y5=false:=hy5.trans hk
  subst hy5
  have hy4:y4=a:=hy4.trans e2
  refine ⟨pre74',by ((unfold InR;omega)),pre75',by ((unfold InR;omega)),by ((unfold InR;omega)),h,fun q=> (by cases q),fun q=> (by cases q),fun q=> (by cases q),fun _=> ?_,fun q=> (by cases q)⟩
  simp only [ZbX,Z8f,hlay,XQ,Xu,cond_true,cond_false,hy4]
  (repeat' (first | exact trivial | exact rfl | apply And.intro))
 | true=>
  have hy5:y5=true:=hy5.trans hk
  subst hy5
  have hgs:=Z8W hk
  have hgt:=h.giveT (1+P)
  have hnl:=Z3O h hk
  have hy8:y8=Spot.mk (giveS a (1+P)) (giveT a (1+P)):=by rw [hy7,if_pos hk,if_pos hk]
  obtain ⟨q1,q2,q3⟩:=Zdw (c:=7) (n:=P) ⟨by omega,by omega⟩ ⟨by omega,by omega⟩
  rw [<-hy6] at q1 q2 q3
  rw [q2,q3,hy8] at hy9
  have hu:0<=7+8*P/\7+8*P < 4294967296:=by omega
  have e9:y9=Y5 a y2.segment y2.at_ (1+P) 1 (7+8*P):=by rw [hy9,hy4,Z5y hk]
  have hb9:OkAr y9.1:=by rw [e9];exact (Y3 h _ _ _ (by decide) (fun _=> hu)).1
  rw [<-e9] at hlay
  have hb:y9.2=true->Zc y9.1.segs (giveS a (1+P)) (giveT a (1+P)) (1+P)=true:=fun q=> by
   have:=Z7t (s:=y2.segment) (i:=y2.at_) (k:=1) (up:=7+8*P) hk (by rw [<-e9];exact q)
   rw [<-e9] at this
   exact this
  rw [hy8] at hy10 ⊢
  have pre43':Z54 ((y4,()),y2,Spot.mk (giveS a (1+P)) (giveT a (1+P)),y6,()):=⟨⟨by rw [hy4];exact h.give _,by rw [hy4];exact (Jy a _).has hf⟩,hgt,q1,by rw [hy4];exact hgs⟩
  cases hq:y9.2 with
  | false=>
   have hlay:ZP y1 a y2.segment y2.at_=y9:=by rw [hlay];unfold JW;rw [hq];try rfl
   refine ⟨pre74',by ((unfold InR;omega)),pre75',by ((unfold InR;omega)),by ((unfold InR;omega)),h,fun _=> by ((unfold InR;omega)),fun _=> pre43',fun q=> (by cases q),fun _=> ?_,fun q=> (by cases q)⟩
   simp only [ZbX,Z8f,hlay,hq,XQ,Xu,cond_true,cond_false]
   (repeat' (first | exact trivial | exact rfl | apply And.intro))
  | true=>
   have hbb:=Z3.1 (hb hq)
   have ey10:y10=ZW y9.1 (giveS a (1+P)) (giveT a (1+P)) (Z5G y1.kids.length fw fk):=hy10
   have ok10:OkAr y10:=by rw [ey10];exact hb9.put _ _ htag
   have g10:Gr y9.1 y10:=by rw [ey10];exact Yw _ _ _ _
   have hlay:ZP y1 a y2.segment y2.at_=YT fw fk y1.kids y10 (giveS a (1+P)) (giveT a (1+P)+1):=by
    rw [hlay,ey10];unfold JW;rw [hq];try rfl
   have has10:=g10.has (hb hq)
   simp only [XQ,Xu,cond_true,cond_false]
   refine ⟨pre74',by ((unfold InR;omega)),pre75',by ((unfold InR;omega)),by ((unfold InR;omega)),h,fun _=> by ((unfold InR;omega)),fun _=> pre43',fun _=> ⟨⟨hb9,fun x hx=> ?_⟩,?_⟩,fun q=> (by cases q),fun _=> ?_⟩
   .rw [Qy.1 hx]
    exact htag
   .exact Z3.2 ⟨hbb.1,hbb.2.1,hbb.2.2.1,by dsimp only [List.length_singleton];omega,by dsimp only [List.length_singleton];omega⟩
   .refine Zr (ι:=Int × Arena) (fun p=> Z1C a y2 y1 p.1 p.2) (fun p=> (0<=p.1/\p.1<=y1.kids.length)/\(OkAr p.2/\Gr y10 p.2)/\ZP y1 a y2.segment y2.at_=YT fw fk (y1.kids.drop p.1.toNat) p.2 (giveS a (1+P)) (giveT a (1+P)+1+p.1*((fw:Int)+fk))) (fun p=> ((y1.kids.length:Int) - p.1).toNat) (0,y10) rfl ⟨⟨by dsimp only;omega,by dsimp only;omega⟩,⟨ok10,.refl _⟩,by simp [hlay]⟩ ?_
    rintro ⟨i,r⟩ ⟨⟨g1,g2⟩,⟨g3,g4⟩,g5⟩
    dsimp only at g1 g2 g3 g4 g5
    refine ZkP N a y2 y1 i r _ _ ?_
    rintro z1 rfl z2 hz2 z3 rfl z4 hz4 z5 rfl z6 hz6 z7 rfl z8 hz8 z9 hz9 z10 rfl z11 hz11
    rw [hfw,hfk,<-hP] at hz4
    rw [if_pos hk,if_pos hk] at hz4
    rw [hfw,hfk] at hz6
    rw [hfw] at hz9
    simp only [Tree.eta]
    rw [hfw,hfk]
    refine ⟨fun hb1=> ?_,fun hb1=> ?_⟩
    .have hi:i < z1.kids.length:=of_decide_eq_true hb1
     have hmem:=Z1w (l:=z1.kids) (i:=i.toNat) (by omega) Tree.nil
     have m1:=Z8R (t:=z1) (i:=i.toNat) (by omega)
     rw [<-hz2] at hmem m1
     obtain ⟨w1,w2,w3,w4⟩:=rows _ hmem
     have hff:=hfit _ hmem
     have hrg:=Jx hg hmem
     obtain ⟨R,hR⟩:∃ R:Int,R=i*((fw:Int)+fk):=⟨_,rfl⟩
     have hR0:0<=R:=by rw [hR];exact Qw g1 (by omega)
     have hRP:R+((fw:Int)+fk)<=P:=by
      have h1:(i+1)*((fw:Int)+fk)<=(z1.kids.length:Int)*((fw:Int)+fk):=X3 (by omega) (by omega)
      rw [Xn,Kg,<-hR,<-hP] at h1
      exact h1
     rw [<-hR] at hz6 g5 ⊢
     have ez7:z7=Spot.mk (giveS a (1+P)) (giveT a (1+P)+1+R):=by rw [hz6,hz4];dsimp only;rw [Int.add_assoc]
     rw [ez7] at hz8 hz9 ⊢
     rw [hz9] at hz11 ⊢
     rw [hz4]
     have hbr:=Z3.1 ((g10.trans g4).has (hb hq))
     have hasr:Zc r.segs (giveS a (1+P)) (giveT a (1+P)+1+R) z3.words.length=true:=Z3.2 ⟨hbr.1,hbr.2.1,by omega,by omega,by omega⟩
     have ok8:OkAr z8:=by rw [hz8];exact J9 _ _ _ g3 (JE hrg)
     have g8:Gr r z8:=by rw [hz8];exact Z2f _ _ _ _
     have hbk:=Z3.1 ((g10.trans (g4.trans g8)).has (hb hq))
     have hask:Zc z8.segs (giveS a (1+P)) (giveT a (1+P)+1+R+fw) z3.kids.length=true:=Z3.2 ⟨hbk.1,hbk.2.1,by omega,by omega,by omega⟩
     have ok11:=Z0C z3.kids (giveS a (1+P)) (giveT a (1+P)+1+R+fw) ok8 (fun x hx=> Jx hrg hx) w2
     dsimp only at hz11
     rw [<-hz11] at ok11
     have st:=Zga fw fk z1.kids r (giveS a (1+P)) (giveT a (1+P)+1+R) g1 hi
     rw [<-hz2] at st
     rw [st,<-hz8,<-hz11] at g5
     refine ⟨⟨g1,hi⟩,by ((unfold InR;omega)),by ((unfold InR;omega)),?_,⟨⟨g3,JE hrg⟩,hasr⟩,fun _=> ?_,fun _=> ⟨⟨ok8,hask⟩,⟨?_,hrg⟩,w2⟩,fun _=> ?_,fun hc=> ?_,fun hc=> ⟨by ((unfold InR;omega)),(i+1,z11.1),rfl,⟨⟨by dsimp only;omega,by dsimp only;omega⟩,⟨ok11.1,g4.trans (g8.trans ok11.2)⟩,?_⟩,by dsimp only;omega⟩⟩
     .show InR (giveT a (1+P)+(1+R))
      ((unfold InR;omega))
     .show InR (giveT a (1+P)+1+R+(fw:Int))
      ((unfold InR;omega))
     .show Zm z3<=1000000
      omega
     .show 4*Zm z3+1 < N
      omega
     .have hc:z11.2=false:=by
       cases q:z11.2 with
       | false=> rfl
       | true=> rw [q] at hc;cases hc
      have e:ZP z1 a y2.segment y2.at_=z11:=by rw [g5];unfold JW;rw [hc];try rfl
      simp only [ZbX,Z8f,e,hc,XQ,Xu,cond_true,cond_false]
      (repeat' (first | exact trivial | exact rfl | apply And.intro))
     .have hc:z11.2=true:=by
       cases q:z11.2 with
       | true=> rfl
       | false=> rw [q] at hc;cases hc
      dsimp only
      rw [g5]
      unfold JW
      rw [hc,cond_true,Xn,Kg,<-hR,XH (giveT a (1+P)+1)]
    .have e:i=z1.kids.length:=by have:¬i < z1.kids.length:=of_decide_eq_false hb1;omega
     subst e
     have e:ZP z1 a y2.segment y2.at_=(r,true):=by rw [g5,Qj,List.drop_length,YT]
     simp only [ZbX,Z8f,e]
     (repeat' (first | exact trivial | exact rfl | apply And.intro))
theorem ZsM:Contract Try.prog cfg 23 Z5J/\Contract Try.prog cfg 45 Zhl/\Contract Try.prog cfg 41 Zhm:=Zlr c22 c43 c44 c46 c42 c74 c75 b23 b45 b41
theorem c23:Contract Try.prog cfg 23 Z5J:=ZsM.1
noncomputable section
def ZeJ(a:Tree × Unit):V U:= .c (ci (weight a.1))
def Z83:Fs U:=fs Zno (fun a=> [ZeY a]) ZeJ
def ZdT(N:Nat):List (FuncId × Fs U):=(16,fs Zno (fun a=> [ZeY a,ZgA a < N]) ZeJ) ::[]
def ZlR:Z8 U:=lvl [([1],[1]),([1,7],[1]),([2],[]),([1,3],[1]),([1,3,10],[1]),([1,3],[1]),([1,3,4],[1]),([1,3,4,20],[1]),([1,3,4],[1]),([1,3,4],[1]),([1,3,4,38],[1]),([1,3,4],[1]),([2],[])]
def Z0X(t:Tree)(x3 x4:Int):LSt U:=(L2 [pL 1,pI 3 x3,pI 4 x4] [(.loc 1,(enc .tree t))])
abbrev A16(N:Nat)(p:List Nat):=AW (Z0 (ZdT N)) Try.f16 ZlR p
abbrev S16(N:Nat)(p:List Nat):=SW (Z0 (ZdT N)) Try.f16 ZlR p
theorem ZsB(N:Nat)(t:Tree)(Q:QT)(h:let z1:=xB 0 (S16 N [1,1,1,1,1] Q);let z0:=A16 N [1,1,1,1,0,1,0,0];(((t.kind==0)=true->(Q .ret (L2 [pI 2 0] [])))/\((t.kind==0)=false->(((t.kind==1)=true->(InR ((1:Int)+(t.words.length:Int)))/\(ZJ z0 (Z0X t ((1:Int)+(t.words.length:Int)) 0) z1))/\((t.kind==1)=false->(ZJ z0 (Z0X t 1 0) z1)))))):
  A16 N [] (L2 [(0,.agg (enc .tree t))] []) Q:=
 Eq.mpr (by kernel_rfl) h
theorem Zl3(N:Nat)(t:Tree)(x3 x4:Int)(N0:NT)(Q:QT)(h:∀ y_1,y_1=(t.kids.getD x4.toNat Tree.nil)->∀ y_2,y_2=y_1->let z1:=decide (x4 < (t.kids.length:Int));let z0:=bif (t.kind==1) then true else (t.kind==8);((z1=true->((0:Int)<=x4/\x4 < (t.kids.length:Int))/\(ZeY (y_2,()))/\(ZgA (y_2,()) < N)/\(InR (x3+(weight y_2)))/\((Tr ((!(t.kind==1))=true))/\(Tr ((!(t.kind==1))=true))/\((t.kind==1)=false->(!(t.kind==1))=true)/\((z0=true->(InR (((x3+(weight y_2)):Int)+1))/\((InR (x4+1))/\(N0 (Z0X t (((x3+(weight y_2)):Int)+1) (x4+1)))))/\(z0=false->(InR (x4+1))/\(N0 (Z0X t (x3+(weight y_2)) (x4+1)))))))/\(z1=false->(Q .ret (L2 [pI 2 x3] []))))):
  A16 N [1,1,1,1,0,1,0,0] (Z0X t x3 x4) (xT N0 (xB 0 (S16 N [1,1,1,1,1] Q))):=
 Eq.mpr (by kernel_rfl) (h _ rfl _ (ZT _))
def ZqG(N:Nat)(t:Tree):Prop:=AW (Z0 (ZdT N)) Try.f16 ZlR [] (Zi (Zno.can (t,())) []) (EQ Try.f16 (ZeJ (t,())) [])
theorem ZoE(hb:∀ (N:Nat) (t:Tree) (_:Unit),ZeY (t,())->ZgA (t,()) < N+1->ZqG N t):CT 16 Z83:=
 YB (μ:=ZgA) (l:=[]) Zf rfl trivial ZlR Try.func16 rfl rfl 1 (fun _=> rfl) (by decide) (fun N ⟨t,_⟩=> hb N t ())
end
theorem c16:Contract Try.prog cfg 16 Z83:=by
 refine ZoE ?_
 rintro N ⟨k,ws,ks⟩ _ hp hN
 have hlen:=JG ks
 have hw:=J8 (.mk k ws ks)
 simp only [ZeY,ZgA,Zm] at hp hN hw
 have key:∀ (n0:Int),0<=n0->n0+Zl ks+(if k=1\/k=8 then (ks.length:Int) else 0)=weight (.mk k ws ks)->
   ZJ (A16 N [1,1,1,1,0,1,0,0]) (Z0X (.mk k ws ks) n0 0) (AExit.inBlock 0 (S16 N [1,1,1,1,1] (Yg cfg Try.f16.ntmps Try.f16.results.toList (ZeJ (.mk k ws ks,())) []))):=by
  intro n0 hn0 hn
  refine Zr (ι:=Int × Int) (fun p=> Z0X (.mk k ws ks) p.1 p.2) (fun p=> 0<=p.2/\p.2<=ks.length/\0<=p.1/\p.1+Zl (ks.drop p.2.toNat)+(if k=1\/k=8 then (ks.length:Int) - p.2 else 0)=weight (.mk k ws ks)) (fun p=> ((ks.length:Int) - p.2).toNat) (n0,0) rfl ⟨by dsimp only;omega,by dsimp only;omega,by dsimp only;omega,by simpa using hn⟩ ?_
  rintro ⟨n,i⟩ ⟨h1,h2,h3,h4⟩
  dsimp only at*
  refine Zl3 N _ _ _ _ _ ?_
  (simp only [vcT,vcS])
  (simp only [Tree.eta,Tree.kind_mk,Tree.words_mk,Tree.kids_mk])
  rintro y1 e1 y2 e2
  subst e2
  refine ⟨fun hc=> ?_,fun hc=> ?_⟩
  .have hm:=Jc (ks:=ks) (i:=i.toNat) (by omega)
   have hd:=ZaC h1 hc
   rw [<-e1] at hm hd
   have hr:=J8 y2
   have hr2:=Z1h (ks.drop (i+1).toNat)
   refine ⟨by omega,by simp only [ZeY];omega,by simp only [ZgA];omega,?_,fun q=> ?_,fun q=> ?_⟩
   .unfold InR;split at h4 <;> omega
   .rw [if_pos q] at h4
    exact ⟨by unfold InR;omega,by unfold InR;omega,(_,i+1),rfl,⟨by dsimp only;omega,by dsimp only;omega,by dsimp only;omega,by dsimp only;rw [if_pos q];omega⟩,by dsimp only;omega⟩
   .rw [if_neg (by omega)] at h4
    exact ⟨by unfold InR;omega,(_,i+1),rfl,⟨by dsimp only;omega,by dsimp only;omega,by dsimp only;omega,by dsimp only;rw [if_neg (by omega)];omega⟩,by dsimp only;omega⟩
  .rw [QK (by omega)] at h4
   simp only [Zl] at h4
   refine ZC rfl ?_
   dsimp only
   split at h4 <;> omega
 refine ZsB N _ _ ?_
 (simp only [vcT,vcS])
 (simp only [Tree.eta,Tree.kind_mk,Tree.words_mk,Tree.kids_mk])
 refine ⟨fun hc=> ZC rfl (by rw [weight,if_pos hc]),fun hc=> ⟨fun h1=> ⟨by unfold InR;omega,key _ (by omega) ?_⟩,fun h1=> key _ (by omega) ?_⟩⟩
 .rw [weight,if_neg hc,if_pos h1,if_pos (.inl h1)];omega
 .rw [weight,if_neg hc,if_neg h1]
  split
  .rw [if_pos (by omega)];omega
  .rw [if_neg (by omega)];omega
theorem ZcM(n t:Int)(h:0<=t):0<=Jo n t/\Jo n t<=t:=by unfold Jo;split <;> (try split) <;> omega
end Go.AM.Ytcljdbpmjdgooaa
namespace Go.AM
def Zmo(r r':Tree × Int × Int)(k:Int):Prop:=r.2.2=0->r'=(r.1,r.2.1+k,0)
def Z7a(m m':XRef->Int->Tree × Int × Int)(k:Int):Prop:=∀ x left,Zmo (m x left) (m' x (left+k)) k
theorem Z4y{f g:Int->Int->Tree × Int × Int}{k:Int}(h:∀ i left,Zmo (f i left) (g i (left+k)) k):∀ (n:Nat) (i left:Int) (acc:List Tree),(ZZ f n i left acc).2.2=0->
  ZZ g n i (left+k) acc=((ZZ f n i left acc).1,(ZZ f n i left acc).2.1+k,0)
 | 0,_,_,_,_=> rfl
 | n+1,i,left,acc,h0=> by
  simp only [ZZ] at h0 ⊢
  by_cases he:(f i left).2.2=0
  .rw [if_pos he] at h0 ⊢
   have hg:=h i left he
   rw [hg]
   simp only
   rw [if_pos trivial]
   exact Z4y h n (i+1) (f i left).2.1 (acc++[(f i left).1]) h0
  .rw [if_neg he] at h0
   exact absurd h0 he
theorem ZdW{l:List (List Int)}{m m':XRef->Int->Tree × Int × Int}{k:Int}(h:Z7a m m' k)(x:XRef)(left:Int):Zmo (Js l m x left) (Js l m' x (left+k)) k:=by
 intro h0
 unfold Js at h0 ⊢
 have:=Z4y (f:=fun j left=> if (Zk l x j).2=0 then m (Zk l x j).1 left else (Tree.nil,left,(Zk l x j).2)) (g:=fun j left=> if (Zk l x j).2=0 then m' (Zk l x j).1 left else (Tree.nil,left,(Zk l x j).2)) (k:=k) (by
  intro i left hi
  by_cases he:(Zk l x i).2=0
  .simp only [he,if_true] at hi ⊢
   exact h _ _ hi
  .simp only [he,if_false] at hi) x.ptrs.toNat 0 left [] h0
 rw [this]
theorem ZgI{l:List (List Int)}{m m' n n':XRef->Int->Tree × Int × Int}{k:Int}(h:Z7a m m' k)(h':Z7a n n' k)(x:XRef)(i left:Int):Zmo (Ym l m n x i left) (Ym l m' n' x i (left+k)) k:=by
 intro h0
 unfold Ym at h0 ⊢
 by_cases he:(Zk l x i).2=0
 .rw [if_pos he] at h0 ⊢
  rw [if_pos he]
  by_cases h9:x.kind=9
  .rw [if_pos h9] at h0 ⊢
   rw [if_pos h9]
   exact ZdW h' _ _ h0
  .rw [if_neg h9] at h0 ⊢
   rw [if_neg h9]
   by_cases h1:x.kind=1\/x.kind=8
   .rw [if_pos h1] at h0 ⊢
    rw [if_pos h1]
    exact h _ _ h0
   .rw [if_neg h1,if_neg h1]
 .rw [if_neg he] at h0
  exact absurd h0 he
theorem Z02{l:List (List Int)}{d d':Nat}(hd:d<=d'){m m' n n':XRef->Int->Tree × Int × Int}{k:Int}(hk:0<=k)(h:Z7a m m' k)(h':Z7a n n' k):Z7a (YR l d m n) (YR l d' m' n') k:=by
 intro x left h0
 unfold YR at h0 ⊢
 by_cases h1:x.kind=0
 .rw [if_pos h1,if_pos h1]
 .rw [if_neg h1] at h0 ⊢
  rw [if_neg h1]
  by_cases h2:d=0\/(x.kind=9/\0 < x.count/\d < 2)\/left < ZV x
  .rw [if_pos h2] at h0;cases h0
  .rw [if_neg h2] at h0 ⊢
   rw [if_neg (show ¬(d'=0\/(x.kind=9/\0 < x.count/\d' < 2)\/left+k < ZV x) by
    rintro (q | q | q)
    .exact h2 (.inl (by omega))
    .exact h2 (.inr (.inl ⟨q.1,q.2.1,by omega⟩))
    .exact h2 (.inr (.inr (by omega))))]
   have:=Z4y (k:=k) (fun i left=> ZgI (l:=l) h h' x i left) (ZH x).toNat 0 (left - ZV x) [] h0
   rw [show left+k - ZV x=left - ZV x+k by omega,this]
theorem JF{m':XRef->Int->Tree × Int × Int}{k:Int}:Z7a (fun _ left=> (Tree.nil,left,3)) m' k:=fun _ _ h=> by cases h
theorem ZgB{l:List (List Int)}{k:Int}(hk:0<=k):∀ (d d':Nat),d<=d'->Z7a (Zs l d) (Zs l d') k:=by
 intro d
 induction d using Nat.strongRecOn with
 | ind d ih=>
  intro d' hd
  match d,d',hd with
  | 0,0,hd=> exact Z02 hd hk JF JF
  | 0,1,hd=> exact Z02 hd hk JF JF
  | 0,d'+2,hd=> exact Z02 hd hk JF JF
  | 1,1,hd=> exact Z02 hd hk (ih 0 (by omega) 0 (by omega)) JF
  | 1,d'+2,hd=> exact Z02 hd hk (ih 0 (by omega) (d'+1) (by omega)) JF
  | d+2,d'+2,hd=> exact Z02 hd hk (ih (d+1) (by omega) (d'+1) (by omega)) (ih d (by omega) d' (by omega))
end Go.AM
namespace Go.AM.Ytcljdbpmjdgooaa
open Go.AM
def Z9m(l:List (List Int))(x:XRef):Tree:=(Zs l 64 x 65536).1
def Z7c(r:Ref):Tree:=Z9m (Z1 r.a) (unX r)
def Zl8(r:Ref):Prop:=(Zs (Z1 r.a) 64 (unX r) 65536).2.2=0
theorem Zd2{l:List (List Int)}{d:Nat}{x:XRef}{left:Int}(hd:d<=64)(hl:left<=65536)(h:(Zs l d x left).2.2=0):(Zs l 64 x 65536).2.2=0/\(Zs l d x left).1=Z9m l x:=by
 have:=ZgB (l:=l) (k:=65536 - left) (by omega) d 64 hd x left h
 rw [show left+(65536 - left)=65536 by omega] at this
 unfold Z9m
 rw [this]
 exact ⟨rfl,rfl⟩
theorem Zaj{f:Int->Int->Tree × Int × Int}{Q:Int->Int->Prop}(hf:∀ i left,Q i left->(f i left).2.2=0->Q (i+1) (f i left).2.1):
  ∀ (n:Nat) (i left:Int) (acc:List Tree),Q i left->(ZZ f n i left acc).2.2=0->
   ∃ ks,(ZZ f n i left acc).1=acc++ks/\ks.length=n/\∀ j:Nat,j < n->∃ le,Q (i+j) le/\(f (i+j) le).2.2=0/\ks.getD j Tree.nil=(f (i+j) le).1
 | 0,i,left,acc,_,_=> ⟨[],by simp [ZZ]⟩
 | n+1,i,left,acc,h0,he=> by
  simp only [ZZ] at he ⊢
  by_cases h1:(f i left).2.2=0
  .rw [if_pos h1] at he ⊢
   obtain ⟨ks,q1,q2,q3⟩:=Zaj hf n (i+1) (f i left).2.1 (acc++[(f i left).1]) (hf i left h0 h1) he
   refine ⟨(f i left).1 ::ks,by rw [q1];simp,by simp [q2],?_⟩
   rintro (_ | j) hj
   .exact ⟨left,by simpa using h0,by simpa using h1,by simp⟩
   .obtain ⟨le,a1,a2,a3⟩:=q3 j (by omega)
    rw [show i+1+(j:Int)=i+((j+1:Nat):Int) by omega] at a1 a2 a3
    exact ⟨le,a1,a2,by rw [List.getD_cons_succ];exact a3⟩
  .rw [if_neg h1] at he
   exact absurd he h1
theorem Z9G{l:List (List Int)}{x:XRef}(h:x.kind=0):Z9m l x=⟨0,ZF l x,[]⟩/\(Zs l 64 x 65536).2.2=0:=by
 unfold Z9m
 rw [JT (by omega)]
 unfold YR
 rw [if_pos h]
 exact ⟨rfl,rfl⟩
theorem Zhd{l:List (List Int)}(hl:YK l){x:XRef}(hx:OkX l x)(h:(Zs l 64 x 65536).2.2=0):
  ∃ ks,Z9m l x=⟨x.kind,ZF l x,ks⟩/\(ks.length:Int)=ZH x/\∀ i:Int,0<=i->i < ZH x->(Zk l x i).2=0/\(Zs l 64 (Zk l x i).1 65536).2.2=0/\ks.getD i.toNat Tree.nil=Z9m l (Zk l x i).1:=by
 have hkx:=Z8P hx
 by_cases h0:x.kind=0
 .refine ⟨[],by rw [(Z9G h0).1,h0],?_,?_⟩
  .have:=hx.null h0
   rw [this];try rfl
  .intro i h1 h2
   rw [hx.null h0] at h2
   exact absurd h2 (by show ¬i < 0;omega)
 have hdt:=hx.data
 have hpt:=hx.ptrs
 have hcc:=hx.count
 have hown:=Z56 hx
 unfold Z9m
 rw [JT (by omega)] at h ⊢
 unfold YR at h ⊢
 rw [if_neg h0] at h ⊢
 by_cases hq:(64:Nat)=0\/(x.kind=9/\0 < x.count/\64 < 2)\/(65536:Int) < ZV x
 .rw [if_pos hq] at h;cases h
 .rw [if_neg hq] at h ⊢
  obtain ⟨ks,q1,q2,q3⟩:=Zaj (Q:=fun _ left=> 0<=left/\left<=65536 - ZV x) (f:=Ym l (Zs l 63) (Zs l 62) x) (fun i left hQ he=> by
   have hf:=Zar hl (Z3I hl 63) (Z3I hl 62) hx i left hQ.1
   exact ⟨hf.1,Int.le_trans hf.2 hQ.2⟩) (ZH x).toNat 0 (65536 - ZV x) [] ⟨by omega,QE _⟩ h
  refine ⟨ks,by dsimp only;rw [q1,List.nil_append],by rw [q2,Int.toNat_of_nonneg hkx.1],?_⟩
  intro i hi hn
  obtain ⟨le,a1,a2,a3⟩:=q3 i.toNat (by omega)
  rw [show (0:Int)+(i.toNat:Int)=i by omega] at a2 a3
  rw [a3]
  unfold Ym at a2 ⊢
  by_cases hk2:(Zk l x i).2=0
  .rw [if_pos hk2] at a2 ⊢
   refine ⟨hk2,?_⟩
   by_cases h9:x.kind=9
   .rw [if_pos h9] at a2 ⊢
    have hkx':=Ja hl hx i
    have e1:(Zk l x i).1.kind=1/\(Zk l x i).1.data=x.data/\(Zk l x i).1.ptrs=x.ptrs:=by
     have e:ZH x=x.count:=by unfold ZH;rw [if_neg (by omega)]
     unfold Zk
     rw [if_neg (by omega),if_neg (by omega),if_neg (by omega),if_pos h9]
     exact ⟨rfl,rfl,rfl⟩
    generalize (Zk l x i).1=z at a2 e1 hkx' ⊢
    have hoz:ZV z=1+x.data+x.ptrs:=by unfold ZV;rw [if_pos e1.1,e1.2.1,e1.2.2]
    have hox:1+x.data+x.ptrs < ZV x:=by
     have e:ZH x=x.count:=by unfold ZH;rw [if_neg (by omega)]
     unfold ZV
     rw [if_neg (by omega),if_pos h9]
     have:1*(1+x.data+x.ptrs)<=x.count*(1+x.data+x.ptrs):=X3 (by omega) (by omega)
     omega
    have key:Zs l 63 z (le+ZV z)=Js l (Zs l 62) z le:=by
     rw [JT (by omega)]
     unfold YR Js
     rw [if_neg (show ¬z.kind=0 by omega),if_neg (show ¬((63:Nat)=0\/(z.kind=9/\0 < z.count/\(63:Nat) < 2)\/le+ZV z < ZV z) by omega),show le+ZV z - ZV z=le by omega,show ZH z=z.ptrs by unfold ZH;rw [if_pos e1.1]]
     have ef:Ym l (Zs l 62) (Zs l 61) z=fun j left=> if (Zk l z j).2=0 then Zs l 62 (Zk l z j).1 left else (Tree.nil,left,(Zk l z j).2):=by
      funext j left
      unfold Ym
      rw [if_neg (show ¬z.kind=9 by omega),if_pos (show z.kind=1\/z.kind=8 from .inl e1.1)]
     rw [e1.1,show (63:Nat) - 1=62 from rfl,show (63:Nat) - 2=61 from rfl,ef]
    rw [<-key] at a2 ⊢
    exact Zd2 (by omega) (by omega) a2
   .rw [if_neg h9] at a2 ⊢
    by_cases h18:x.kind=1\/x.kind=8
    .rw [if_pos h18] at a2 ⊢
     exact Zd2 (by omega) (by omega) a2
    .rw [if_neg h18]
     have e:ZH x=x.count:=by unfold ZH;rw [if_neg (by omega)]
     have ek:(Zk l x i).1.kind=10:=by
      unfold Zk
      rw [if_neg (by omega),if_neg (by omega),if_neg (by omega),if_neg (by omega)]
     have hz:=Ja hl hx i
     generalize (Zk l x i).1=z at ek hz ⊢
     have h10:=hz.zero (.inr ek)
     have hkz:ZH z=0:=by unfold ZH;rw [if_neg (by omega)];exact h10
     have ho:ZV z=1:=by unfold ZV;rw [if_neg (by omega),if_neg (by omega),h10];try rfl
     rw [JT (by omega)]
     unfold YR
     rw [if_neg (show ¬z.kind=0 by omega),if_neg (show ¬((64:Nat)=0\/(z.kind=9/\0 < z.count/\(64:Nat) < 2)\/(65536:Int) < ZV z) by omega),hkz]
     exact ⟨rfl,rfl⟩
  .rw [if_neg hk2] at a2
   exact absurd a2 hk2
theorem ZbK{a:Option Arena}{x:XRef}(hx:OkX (Z1 a) x):Z7c (Yc a x)=Z9m (Z1 a) x/\((Zs (Z1 a) 64 x 65536).2.2=0->Zl8 (Yc a x)):=by
 unfold Z7c Zl8
 rw [Z4L hx]
 by_cases h0:x.kind=0
 .have e:=hx.null h0
  subst e
  exact ⟨rfl,fun _=> (Z9G rfl).2⟩
 .rw [Z9h h0]
  exact ⟨rfl,id⟩
theorem ZbL{r:Ref}(h:okR r)(he:Zl8 r):Z5 (Z7c r) 64=true/\rng (Z7c r)/\Zm (Z7c r)<=140000:=by
 obtain ⟨g1,g2,g3,g4,g5⟩:=ZgD h.1 64 (unX r) 65536 h.2 (by omega) (by omega) he
 have hm:=Z6S _ _ g2
 refine ⟨g2,g3,?_⟩
 show Zm (Zs (Z1 r.a) 64 (unX r) 65536).1<=140000
 split at hm <;> omega
theorem Zhe{l:List (List Int)}{x:Limits}(h:(Z0l l x).2.2=0):(Zo l 0 0).2=0/\(Zs l 64 (Zo l 0 0).1 65536).2.2=0/\(Z0l l x).1=Z9m l (Zo l 0 0).1:=by
 have hd:=ZcM x.depth 64 (by omega)
 have hw:=ZcM x.weight 65536 (by omega)
 rw [show Jo x.depth 64=(JM x).depth from rfl] at hd
 rw [show Jo x.weight 65536=(JM x).weight from rfl] at hw
 unfold Z0l at h ⊢
 by_cases h1:(Zo l 0 0).2=0
 .rw [if_pos h1] at h ⊢
  by_cases h2:(Zs l (JM x).depth.toNat (Zo l 0 0).1 (JM x).weight).2.2=0
  .rw [if_pos h2] at h ⊢
   have:=Zd2 (by omega) hw.2 h2
   exact ⟨h1,this⟩
  .rw [if_neg h2] at h;exact absurd h h2
 .rw [if_neg h1] at h;exact absurd h h1
theorem Zl9{l:List (List Int)}{x:Limits}(h:(Z0l l x).2.2≠0):(Z0l l x).1=Tree.nil:=by
 unfold Z0l at h ⊢
 by_cases h1:(Zo l 0 0).2=0
 .rw [if_pos h1] at h ⊢
  by_cases h2:(Zs l (JM x).depth.toNat (Zo l 0 0).1 (JM x).weight).2.2=0
  .rw [if_pos h2] at h;exact absurd rfl h
  .rw [if_neg h2]
 .rw [if_neg h1]
end Go.AM.Ytcljdbpmjdgooaa
namespace Go.AM.Ytcljdbpmjdgooaa
open Go.AM Go.Proofs
def Has(A:List Int)(to:Int)(b:List Int):Prop:=∃ p s,A=p++(b++s)/\(p.length:Int)=to
mutual
def Zt:Tree->Tree
 | .mk k w ks=> .mk k w (if k=9 then Z71 (frW ks) (frK ks) ks else ZL ks)
def ZL:List Tree->List Tree
 | []=> []
 | t ::r=> Zt t ::ZL r
def Z71(fw fk:Nat):List Tree->List Tree
 | []=> []
 | .mk k w ks ::r=> .mk k (w++zs (fw - w.length)) ((if k=9 then Z71 (frW ks) (frK ks) ks else ZL ks)++List.replicate (fk - ks.length) Tree.nil) ::Z71 fw fk r
end
theorem Z6n{c n:Int}(hc:0<=c/\c<=6)(hn:0<=n/\n < 536870912)(o:Int):ZY ⟨2,o,0,0,c,n,0,false⟩=(n*Z0k c+63) / 64:=by
 unfold ZY
 dsimp only
 rw [if_neg (by decide),if_pos rfl,if_neg (by omega),if_neg (by omega)]
theorem Zmb{c:Int}(hc:0<=c/\c<=5):Z0k c=wd c:=by
 have:c=0\/c=1\/c=2\/c=3\/c=4\/c=5:=by omega
 rcases this with rfl | rfl | rfl | rfl | rfl | rfl <;> rfl
theorem Zgb{c:Int}{n:Nat}(hc:0<=c/\c<=5)(hn:n < 536870912):((n:Int)*Z0k c+63) / 64=(YI c n).toNat:=by
 rw [Zmb hc]
 unfold YI
 have:c=0\/c=1\/c=2\/c=3\/c=4\/c=5:=by omega
 rcases this with rfl | rfl | rfl | rfl | rfl | rfl
 .rw [show wd 0=0 from rfl,if_pos (by omega)];omega
 all_goals (first | rw [show wd 1=1 from rfl] | rw [show wd 2=8 from rfl] | rw [show wd 3=16 from rfl] | rw [show wd 4=32 from rfl] | rw [show wd 5=64 from rfl])
 all_goals (rw [if_neg (by omega)];omega)
def Z0t(cost:Tree->Int):List Tree->Int
 | []=> 0
 | t ::r=> cost t+Z0t cost r
theorem JD:∀ l:List Tree,Z0t weight l=Zl l
 | []=> by rw [Z0t,Zl]
 | t ::r=> by rw [Z0t,Zl,JD r]
theorem Z2B{cost:Tree->Int}:∀ {l:List Tree},(∀ t∈l,0<=cost t)->0<=Z0t cost l
 | [],_=> by rw [Z0t];omega
 | t ::r,h=> by rw [Z0t];have:=h t Q9;have:=Z2B fun t ht=> h t (Q7 _ ht);omega
theorem Yx:∀ l:List Tree,(ZL l).length=l.length
 | []=> by rw [ZL]
 | t ::r=> by rw [ZL,Qc,Yx r,Qc]
theorem Z3Q:∀ (l:List Tree) (j:Nat),j < l.length->(ZL l).getD j Tree.nil=Zt (l.getD j Tree.nil)
 | t ::r,0,_=> by rw [ZL];simp
 | t ::r,j+1,h=> by rw [ZL];simpa using Z3Q r j (by simpa using h)
def Jh(fw fk:Nat)(t:Tree):Tree:= .mk t.kind (t.words++zs (fw - t.words.length)) ((if t.kind=9 then Z71 (frW t.kids) (frK t.kids) t.kids else ZL t.kids)++List.replicate (fk - t.kids.length) Tree.nil)
theorem Z1J(fw fk:Nat):∀ l:List Tree,Z71 fw fk l=l.map (Jh fw fk)
 | []=> by rw [Z71];try rfl
 | .mk k w ks ::r=> by rw [Z71,Z1J fw fk r];try rfl
theorem Jq(t:Tree):0<=weight t:=(J8 t).1
theorem Z2z:∀ a b:List Tree,Zl (a++b)=Zl a+Zl b
 | [],b=> by simp [Zl]
 | t ::r,b=> by rw [QX,Zl,Zl,Z2z r b];omega
theorem Z2y:∀ n:Nat,Zl (List.replicate n Tree.nil)=0
 | 0=> by simp [Zl]
 | n+1=> by rw [K2,Zl,Z2y n];simp [Tree.nil,weight]
theorem Zf9{l:List (List Int)}(d:Nat)(left:Int):Zs l d xz left=(Tree.nil,left,0):=by
 by_cases h:d=0
 .subst h;rw [Zag];try rfl
 .rw [JT (by omega)];try rfl
theorem Z1x:∀ {l:List Tree} {t:Tree},t∈l->Zm t<=Zp l
 | k ::r,t,h=> by
  rw [Zp]
  rcases QH.1 h with rfl | h
  .omega
  .have:=Z1x h;omega
theorem Z1I{l:List Tree}{j:Nat}(h:j < l.length):l.getD j Tree.nil∈l:=by
 rw [Q2,Q0 h]
 exact X8 h
def WordsAt(F:Int->Int->Prop)(L:List (List Int))(s i:Int)(w:List Int):Prop:=Zc L s i w.length=true/\∀ j:Nat,j < w.length->F s (i+j)/\Zg L s (i+j)=w.getD j 0
def Points(F:Int->Int->Prop)(L:List (List Int))(s i s' i' k up:Int):Prop:=
 (Zc L s i 1=true/\F s i)/\
  (((s=s'\/(k=0/\up=0))/\Zg L s i=pwA i i' k up)\/
   (¬(k=0/\up=0)/\∃ p,Zg L s i=Yo false s' p/\(Zc L s' p 1=true/\F s' p)/\Zg L s' p=pwA p i' k up)\/
   (¬(k=0/\up=0)/\∃ x y,Zg L s i=Yo true x y/\(Zc L x y 2=true/\F x y/\F x (y+1))/\Zg L x y=Yo false s' i'/\Zg L x (y+1)=k+4294967296*up))
mutual
def Lies(F:Int->Int->Prop)(L:List (List Int)):Tree->Int->Int->Prop
 | .mk k w ks,s,i=>
  if k=0 then (Zc L s i 1=true/\F s i)/\Zg L s i=0
  else if k=1 then ∃ s' i',Points F L s i s' i' 0 (w.length+65536*ks.length)/\Zc L s' i' (w.length+ks.length)=true/\WordsAt F L s' i' w/\LiesK F L ks s' (i'+w.length)
  else if k=8 then ∃ s' i',Points F L s i s' i' 1 (6+8*ks.length)/\Zc L s' i' ks.length=true/\LiesK F L ks s' i'
  else if k=9 then ∃ s' i',Points F L s i s' i' 1 (7+8*(ks.length*((frW ks:Int)+frK ks)))/\Zc L s' i' (1+ks.length*((frW ks:Int)+frK ks))=true/\(F s' i'/\Zg L s' i'=Z5G ks.length (frW ks) (frK ks))/\LiesR (frW ks) (frK ks) F L ks s' (i'+1)
  else ∃ s' i',Points F L s i s' i' 1 (k - 2+8*ks.length)/\WordsAt F L s' i' (JX (k - 2) (ZO ks))
def LiesK(F:Int->Int->Prop)(L:List (List Int)):List Tree->Int->Int->Prop
 | [],_,_=> True
 | t ::r,s,i=> Lies F L t s i/\LiesK F L r s (i+1)
def LiesR(fw fk:Nat)(F:Int->Int->Prop)(L:List (List Int)):List Tree->Int->Int->Prop
 | [],_,_=> True
 | .mk _ w ks ::r,s,i=> WordsAt F L s i (w++zs (fw - w.length))/\LiesK F L ks s (i+fw)/\WordsAt F L s (i+fw+ks.length) (zs (fk - ks.length))/\LiesR fw fk F L r s (i+((fw:Int)+fk))
end
structure Same (F F':Int->Int->Prop) (L L':List (List Int)):Prop where
 has:∀ s i n,Zc L s i n=true->Zc L' s i n=true
 get:∀ s i,F s i->Zg L' s i=Zg L s i
 le:∀ s i,F s i->F' s i
variable {F F':Int->Int->Prop} {L L':List (List Int)}
theorem WordsAt.same(h:Same F F' L L'){s i:Int}{w:List Int}(hw:WordsAt F L s i w):WordsAt F' L' s i w:=
 ⟨h.has _ _ _ hw.1,fun j hj=> ⟨h.le _ _ (hw.2 j hj).1,(h.get _ _ (hw.2 j hj).1).trans (hw.2 j hj).2⟩⟩
theorem Points.same(h:Same F F' L L'){s i s' i' k up:Int}(hp:Points F L s i s' i' k up):Points F' L' s i s' i' k up:=by
 obtain ⟨⟨h1,h2⟩,h3⟩:=hp
 refine ⟨⟨h.has _ _ _ h1,h.le _ _ h2⟩,?_⟩
 rw [h.get _ _ h2]
 rcases h3 with h3 | ⟨hz,p,e1,⟨e2,e3⟩,e4⟩ | ⟨hz,x,y,e1,⟨e2,e3,e4⟩,e5,e6⟩
 .exact .inl h3
 .exact .inr (.inl ⟨hz,p,e1,⟨h.has _ _ _ e2,h.le _ _ e3⟩,(h.get _ _ e3).trans e4⟩)
 .exact .inr (.inr ⟨hz,x,y,e1,⟨h.has _ _ _ e2,h.le _ _ e3,h.le _ _ e4⟩,(h.get _ _ e3).trans e5,(h.get _ _ e4).trans e6⟩)
mutual
theorem Lies.same(h:Same F F' L L'):∀ (t:Tree) (s i:Int),Lies F L t s i->Lies F' L' t s i
 | .mk k w ks,s,i,hl=> by
  rw [Lies] at hl ⊢
  by_cases h0:k=0
  .rw [if_pos h0] at hl ⊢
   exact ⟨⟨h.has _ _ _ hl.1.1,h.le _ _ hl.1.2⟩,(h.get _ _ hl.1.2).trans hl.2⟩
  rw [if_neg h0] at hl ⊢
  by_cases h1:k=1
  .rw [if_pos h1] at hl ⊢
   obtain ⟨s',i',e1,e2,e3,e4⟩:=hl
   exact ⟨s',i',e1.same h,h.has _ _ _ e2,e3.same h,LiesK.same h ks _ _ e4⟩
  rw [if_neg h1] at hl ⊢
  by_cases h8:k=8
  .rw [if_pos h8] at hl ⊢
   obtain ⟨s',i',e1,e2,e4⟩:=hl
   exact ⟨s',i',e1.same h,h.has _ _ _ e2,LiesK.same h ks _ _ e4⟩
  rw [if_neg h8] at hl ⊢
  by_cases h9:k=9
  .rw [if_pos h9] at hl ⊢
   obtain ⟨s',i',e1,e2,⟨e3,e4⟩,e5⟩:=hl
   exact ⟨s',i',e1.same h,h.has _ _ _ e2,⟨h.le _ _ e3,(h.get _ _ e3).trans e4⟩,LiesR.same h _ _ ks _ _ e5⟩
  rw [if_neg h9] at hl ⊢
  obtain ⟨s',i',e1,e2⟩:=hl
  exact ⟨s',i',e1.same h,e2.same h⟩
theorem LiesK.same(h:Same F F' L L'):∀ (ks:List Tree) (s i:Int),LiesK F L ks s i->LiesK F' L' ks s i
 | [],_,_,_=> by rw [LiesK];trivial
 | t ::r,s,i,hl=> by
  rw [LiesK] at hl ⊢
  exact ⟨Lies.same h t s i hl.1,LiesK.same h r s _ hl.2⟩
theorem LiesR.same(h:Same F F' L L'):∀ (fw fk:Nat) (ks:List Tree) (s i:Int),LiesR fw fk F L ks s i->LiesR fw fk F' L' ks s i
 | _,_,[],_,_,_=> by rw [LiesR];trivial
 | fw,fk,.mk k w l ::r,s,i,hl=> by
  rw [LiesR] at hl ⊢
  exact ⟨hl.1.same h,LiesK.same h l _ _ hl.2.1,hl.2.2.1.same h,LiesR.same h fw fk r s _ hl.2.2.2⟩
end
def New(a b:Arena)(s i:Int):Prop:=Zc a.segs s i 1=false/\Zc b.segs s i 1=true
structure Keep (S:Int->Int->Prop) (a b:Arena):Prop where
 gr:Gr a b
 get:∀ s i,Zc a.segs s i 1=true->¬S s i->Zg b.segs s i=Zg a.segs s i
theorem Keep.refl(S:Int->Int->Prop)(a:Arena):Keep S a a:=⟨.refl a,fun _ _ _ _=> rfl⟩
theorem Keep.trans{S T:Int->Int->Prop}{a b c:Arena}(h:Keep S a b)(k:Keep T b c)(hT:∀ s i,Zc a.segs s i 1=true->T s i->S s i):Keep S a c:=
 ⟨h.gr.trans k.gr,fun s i h1 h2=> (k.get s i (h.gr.has h1) fun q=> h2 (hT s i h1 q)).trans (h.get s i h1 h2)⟩
theorem New.right{a b c:Arena}{s i:Int}(h:New a b s i)(g:Gr b c):New a c s i:=⟨h.1,g.has h.2⟩
theorem New.left{a b c:Arena}{s i:Int}(h:New b c s i)(g:Gr a b):New a c s i:=by
 refine ⟨?_,h.2⟩
 cases q:Zc a.segs s i 1 with
 | false=> rfl
 | true=> have h1:=h.1;rw [g.has q] at h1;cases h1
theorem Z3A{S T S':Int->Int->Prop}{a b c:Arena}(hab:Gr a b)(k:Keep T b c)(hS:∀ s i,S s i->Zc b.segs s i 1=true/\¬T s i)(hT:∀ s i,T s i->Zc a.segs s i 1=true)(hS':∀ s i,S s i->S' s i):
  Same (fun s i=> S s i\/New a b s i) (fun s i=> S' s i\/New a c s i) b.segs c.segs:=by
 refine ⟨fun s i n h=> k.gr.has h,fun s i h=> ?_,fun s i h=> ?_⟩
 .rcases h with h | h
  .exact k.get s i (hS s i h).1 (hS s i h).2
  .exact k.get s i h.2 fun q=> by have h1:=h.1;rw [hT s i q] at h1;cases h1
 .rcases h with h | h
  .exact .inl (hS' s i h)
  .exact .inr (h.right k.gr)
theorem Zcx{L:List (List Int)}{s i x y w:Int}(h:Zc L s i 1=true)(hy:0<=y):Zg (L.set s.toNat ((Zh L s).set i.toNat w)) x y=if x=s/\y=i then w else Zg L x y:=by
 have hh:=Z3.1 h
 unfold Zg
 rw [Z0y hh.1 hh.2.1]
 by_cases hx:x=s
 .subst hx
  rw [if_pos rfl,Q2,Xd]
  by_cases e:y=i
  .subst e
   rw [if_pos rfl,if_pos (by omega),if_pos ⟨rfl,rfl⟩]
   try rfl
  .rw [if_neg (by omega),if_neg (fun q=> e q.2),Q2]
 .rw [if_neg hx,if_neg (fun q=> hx q.1)]
theorem Z17{a:Arena}{s i w:Int}(h:Zc a.segs s i 1=true):Zg (ZW a s i w).segs s i=w:=by
 have hh:=Z3.1 h
 unfold ZW
 rw [if_pos h,Zcx h hh.2.2.1,if_pos ⟨rfl,rfl⟩]
theorem Z0h{a:Arena}{s i w:Int}:Keep (fun x y=> x=s/\y=i) a (ZW a s i w):=by
 refine ⟨Yw _ _ _ _,fun x y h1 h2=> ?_⟩
 unfold ZW
 split
 .rename_i h
  rw [Zcx h (Z3.1 h1).2.2.1,if_neg h2]
 .try rfl
theorem Z0B:∀ (w:List Int) (a:Arena) (s i:Int),Keep (fun x y=> x=s/\i<=y/\y < i+w.length) a (ZG w a s i)
 | [],a,s,i=> .refl _ a
 | x ::r,a,s,i=> by
  rw [ZG]
  have h1:=Z0h (a:=a) (s:=s) (i:=i) (w:=x)
  have h2:=Z0B r (ZW a s i x) s (i+1)
  refine ⟨h1.gr.trans h2.gr,fun s' j h3 h4=> ?_⟩
  rw [Qc] at h4
  rw [h2.get s' j (h1.gr.has h3) (by rintro ⟨q1,q2,q3⟩;exact h4 ⟨q1,by omega,by omega⟩),h1.get s' j h3 (by rintro ⟨q1,q2⟩;exact h4 ⟨q1,by omega,by omega⟩)]
theorem Z8l:∀ (w:List Int) (a:Arena) (s i:Int),Zc a.segs s i w.length=true->∀ j:Nat,j < w.length->Zg (ZG w a s i).segs s (i+j)=w.getD j 0
 | [],_,_,_,_,j,hj=> by cases hj
 | x ::r,a,s,i,h,j,hj=> by
  rw [ZG]
  have hh:=Z3.1 h
  rw [Qc] at hh hj
  have h1:Zc a.segs s i 1=true:=Z3.2 ⟨hh.1,hh.2.1,hh.2.2.1,by decide,by omega⟩
  have h2:Zc (ZW a s i x).segs s (i+1) r.length=true:=(Yw _ _ _ _).has (Z3.2 ⟨hh.1,hh.2.1,by omega,by omega,by omega⟩)
  cases j with
  | zero=>
   rw [(Z0B r (ZW a s i x) s (i+1)).get s _ ((Yw _ _ _ _).has (Z3.2 ⟨hh.1,hh.2.1,by omega,by decide,by omega⟩)) (by omega)]
   rw [show i+((0:Nat):Int)=i by omega,Z17 h1]
   try rfl
  | succ j=>
   have:=Z8l r (ZW a s i x) s (i+1) h2 j (by omega)
   rw [show i+((j+1:Nat):Int)=i+1+(j:Int) by omega,this]
   simp
theorem Zcw{a:Arena}{s n x y:Int}(h0:0<=s)(h:s < a.segs.length)(hy:0<=y):Zg (Z01 a s n).segs x y=Zg a.segs x y:=by
 show Zg (a.segs.set s.toNat (Zh a.segs s++List.replicate n.toNat 0)) x y=_
 unfold Zg
 rw [Z0y h0 h]
 split
 .rename_i e
  subst e
  rw [Q2,Q2]
  by_cases hl:y.toNat < (Zh a.segs x).length
  .rw [Qf hl]
  .rw [Qe (XB hl),Qz (XB hl),QW]
   split <;> rfl
 .try rfl
theorem Zm0{L:List (List Int)}{s i:Int}(h:Zc L s i 1=false)(hi:0<=i):Zg L s i=0:=by
 unfold Zg
 rw [Q2,Qz]
 .try rfl
 .by_cases q:(Zh L s).length<=i.toNat
  .exact q
  .have h0:0<=s/\s < L.length:=by
    by_cases hs:s < 0
    .unfold Zh at q;rw [if_pos hs] at q;exact absurd (Nat.zero_le _) q
    .by_cases hs2:s < L.length
     .exact ⟨by omega,hs2⟩
     .rw [YS (by omega),Q2,Qz (by omega)] at q
      exact absurd (XI _) q
   rw [Z3.2 ⟨h0.1,h0.2,hi,by decide,by omega⟩] at h
   cases h
theorem Zig{a:Arena}{n x y:Int}:Zg (Yz a n).segs x y=Zg a.segs x y:=by
 unfold Yz
 split
 .show Zg (a.segs++[[]]) x y=_
  unfold Zg Zh
  split
  .try rfl
  .rw [Q2 (l:=a.segs++[[]]),Q2 (l:=a.segs)]
   by_cases h:x.toNat < a.segs.length
   .rw [Qf h]
   .rw [Qe (XB h),Qz (XB h)]
    cases x.toNat - a.segs.length with
    | zero=> rfl
    | succ m=> rfl
 .try rfl
theorem Z8Y{a:Arena}{n x y:Int}(hy:0<=y):Zg (Zd a n).segs x y=Zg a.segs x y:=by
 unfold Zd
 split
 .have hs:=Z1d a n
  rw [Zcw hs.1 hs.2 hy,Zig]
 .try rfl
theorem Zpp{a:Arena}{s n x y:Int}(hy:0<=y):Zg (inA a s n).segs x y=Zg a.segs x y:=by
 unfold inA
 split
 .rename_i h
  have hs:=ZsJ h
  exact Zcw hs.1 hs.2 hy
 .try rfl
theorem Zas(S:Int->Int->Prop)(a:Arena)(n:Int):Keep S a (Zd a n):=⟨Jy a n,fun _ _ h _=> Z8Y (Z3.1 h).2.2.1⟩
theorem ZlY(S:Int->Int->Prop)(a:Arena)(s n:Int):Keep S a (inA a s n):=⟨Zft a s n,fun _ _ h _=> Zpp (Z3.1 h).2.2.1⟩
theorem Z8X{a:Arena}{n:Int}(j:Int)(hj:0<=j):Zc a.segs (giveS a n) (giveT a n+j) 1=false:=by
 cases q:Zc a.segs (giveS a n) (giveT a n+j) 1 with
 | false=> rfl
 | true=>
  have:=Z3.1 ((Zfs a n).has q)
  unfold giveT at this
  omega
theorem Zpo{a:Arena}{s:Int}:Zc a.segs s (endA a s) 1=false:=by
 cases q:Zc a.segs s (endA a s) 1 with
 | false=> rfl
 | true=>
  have:=Z3.1 q
  unfold endA at this
  omega
end Go.AM.Ytcljdbpmjdgooaa
namespace Go.AM.Ytcljdbpmjdgooaa
open Go.AM Go.Proofs
theorem Same.weak{F F':Int->Int->Prop}{L:List (List Int)}(h:∀ s i,F s i->F' s i):Same F F' L L:=⟨fun _ _ _ h=> h,fun _ _ _=> rfl,h⟩
theorem Zbb{a:Arena}{s i s' i':Int}(h1:Zc a.segs s i 1=true)(h2:Zc a.segs s' i' 1=false):¬(s=s'/\i=i'):=by
 rintro ⟨rfl,rfl⟩
 rw [h1] at h2
 cases h2
set_option maxHeartbeats 1000000 in
theorem Zdv{a:Arena}{s i s' i' k up:Int}(hf:Zc a.segs s i 1=true)(h2:(ZN a s i s' i' k up).2=true):
  Keep (fun x y=> x=s/\y=i) a (ZN a s i s' i' k up).1/\Points (fun x y=> (x=s/\y=i)\/New a (ZN a s i s' i' k up).1 x y) (ZN a s i s' i' k up).1.segs s i s' i' k up:=by
 have hi:=(Z3.1 hf).2.2.1
 by_cases c1:s=s'\/(k=0/\up=0)
 .have e:ZN a s i s' i' k up=(ZW a s i (pwA i i' k up),true):=by unfold ZN;rw [if_pos c1]
  rw [e]
  exact ⟨Z0h,⟨(Yw _ _ _ _).has hf,.inl ⟨rfl,rfl⟩⟩,.inl ⟨c1,Z17 hf⟩⟩
 have hz:¬(k=0/\up=0):=fun q=> c1 (.inr q)
 by_cases c2:Z0W a s' 1=true
 .have e:ZN a s i s' i' k up=(ZW (ZW (inA a s' 1) s i (Yo false s' (endA a s'))) s' (endA a s') (pwA (endA a s') i' k up),true):=by unfold ZN;rw [if_neg c1,if_pos c2]
  rw [e]
  have n1:=Zpo (a:=a) (s:=s')
  have hp:=Zjv c2
  have he:0<=endA a s':=by unfold endA;omega
  have k1:=ZlY (fun x y=> x=s/\y=i) a s' 1
  have f1:=k1.gr.has hf
  have k2:=Z0h (a:=inA a s' 1) (s:=s) (i:=i) (w:=Yo false s' (endA a s'))
  have p2:Zc (ZW (inA a s' 1) s i (Yo false s' (endA a s'))).segs s' (endA a s') 1=true:=k2.gr.has hp
  have k3:=Z0h (a:=ZW (inA a s' 1) s i (Yo false s' (endA a s'))) (s:=s') (i:=endA a s') (w:=pwA (endA a s') i' k up)
  have hne:=Zbb hf n1
  have f2:=k2.gr.has f1
  have g1:Zg (ZW (ZW (inA a s' 1) s i (Yo false s' (endA a s'))) s' (endA a s') (pwA (endA a s') i' k up)).segs s i=Yo false s' (endA a s'):=by
   rw [k3.get s i f2 hne,Z17 f1]
  refine ⟨(k1.trans k2 (fun _ _ _ q=> q)).trans k3 (fun x y h q=> ?_),⟨k3.gr.has f2,.inl ⟨rfl,rfl⟩⟩,.inr (.inl ⟨hz,endA a s',g1,⟨k3.gr.has p2,.inr ⟨n1,k3.gr.has p2⟩⟩,Z17 p2⟩)⟩
  obtain ⟨rfl,rfl⟩:=q
  rw [n1] at h
  cases h
 by_cases c3:Z4 a 2=true
 .have e:ZN a s i s' i' k up=(ZW (ZW (ZW (Zd a 2) s i (Yo true (giveS a 2) (giveT a 2))) (giveS a 2) (giveT a 2) (Yo false s' i')) (giveS a 2) (giveT a 2+1) (k+4294967296*up),true):=by
   unfold ZN;rw [if_neg c1,if_neg c2,if_pos c3]
  rw [e]
  have n0:=Z8X (a:=a) (n:=2) 0 (QE _)
  rw [K1] at n0
  have n1:=Z8X (a:=a) (n:=2) 1 (by decide)
  have hg:=Z3.1 (Z0Y c3)
  have p0:Zc (Zd a 2).segs (giveS a 2) (giveT a 2) 1=true:=Z3.2 ⟨hg.1,hg.2.1,hg.2.2.1,by decide,by omega⟩
  have p1:Zc (Zd a 2).segs (giveS a 2) (giveT a 2+1) 1=true:=Z3.2 ⟨hg.1,hg.2.1,by omega,by decide,by omega⟩
  have k1:=Zas (fun x y=> x=s/\y=i) a 2
  have f1:=k1.gr.has hf
  have k2:=Z0h (a:=Zd a 2) (s:=s) (i:=i) (w:=Yo true (giveS a 2) (giveT a 2))
  have k3:=Z0h (a:=ZW (Zd a 2) s i (Yo true (giveS a 2) (giveT a 2))) (s:=giveS a 2) (i:=giveT a 2) (w:=Yo false s' i')
  have k4:=Z0h (a:=ZW (ZW (Zd a 2) s i (Yo true (giveS a 2) (giveT a 2))) (giveS a 2) (giveT a 2) (Yo false s' i')) (s:=giveS a 2) (i:=giveT a 2+1) (w:=k+4294967296*up)
  have hn0:=Zbb hf n0
  have hn1:=Zbb hf n1
  have f2:=k2.gr.has f1
  have f3:=k3.gr.has f2
  have q0:=k2.gr.has p0
  have q1:=k3.gr.has (k2.gr.has p1)
  have g0:=Z17 (w:=Yo true (giveS a 2) (giveT a 2)) f1
  have g1:=Z17 (w:=Yo false s' i') q0
  have g2:=Z17 (w:=k+4294967296*up) q1
  have e1:Zg (ZW (ZW (ZW (Zd a 2) s i (Yo true (giveS a 2) (giveT a 2))) (giveS a 2) (giveT a 2) (Yo false s' i')) (giveS a 2) (giveT a 2+1) (k+4294967296*up)).segs s i=Yo true (giveS a 2) (giveT a 2):=by
   rw [k4.get s i f3 hn1,k3.get s i f2 hn0,g0]
  have e2:Zg (ZW (ZW (ZW (Zd a 2) s i (Yo true (giveS a 2) (giveT a 2))) (giveS a 2) (giveT a 2) (Yo false s' i')) (giveS a 2) (giveT a 2+1) (k+4294967296*up)).segs (giveS a 2) (giveT a 2)=Yo false s' i':=by
   rw [k4.get _ _ (k3.gr.has q0) (by omega),g1]
  refine ⟨((k1.trans k2 (fun _ _ _ q=> q)).trans k3 (fun x y h q=> ?_)).trans k4 (fun x y h q=> ?_),⟨k4.gr.has f3,.inl ⟨rfl,rfl⟩⟩,
   .inr (.inr ⟨hz,giveS a 2,giveT a 2,e1,⟨(k2.gr.trans (k3.gr.trans k4.gr)).has (Z0Y c3),.inr ⟨n0,k4.gr.has (k3.gr.has q0)⟩,.inr ⟨n1,k4.gr.has q1⟩⟩,e2,g2⟩)⟩
  .obtain ⟨rfl,rfl⟩:=q
   rw [n0] at h
   cases h
  .obtain ⟨rfl,rfl⟩:=q
   rw [n1] at h
   cases h
 .have e:ZN a s i s' i' k up=(a,false):=by unfold ZN;rw [if_neg c1,if_neg c2,if_neg c3]
  rw [e] at h2
  cases h2
theorem Z2k{a:Arena}{s i n k up:Int}(hf:Zc a.segs s i 1=true)(h2:(Y5 a s i n k up).2=true):
  ∃ b,b=(Y5 a s i n k up).1/\(0<=n/\Zc b.segs (giveS a n) (giveT a n) n=true)/\Gr (Zd a n) b/\Keep (fun x y=> x=s/\y=i) a b/\
   Points (fun x y=> (x=s/\y=i)\/New (Zd a n) b x y) b.segs s i (giveS a n) (giveT a n) k up/\
   ∀ j,0<=j->j < n->New a b (giveS a n) (giveT a n+j)/\Zc (Zd a n).segs (giveS a n) (giveT a n+j) 1=true/\Zg b.segs (giveS a n) (giveT a n+j)=0:=by
 have hg:=(Z3S h2).1
 have hn:0<=n:=(of_decide_eq_true hg:0<=n/\n<=a.most - a.used).1
 have hb:=Z5y (s:=s) (i:=i) (k:=k) (up:=up) hg
 have hgr:=(Z3S h2).2
 have hhas:=Z7t hg h2
 rw [hb] at h2 hgr hhas ⊢
 have k0:=Zas (fun x y=> x=s/\y=i) a n
 obtain ⟨k1,p1⟩:=Zdv (k0.gr.has hf) h2
 refine ⟨_,rfl,⟨hn,hhas⟩,hgr,k0.trans k1 (fun _ _ _ q=> q),p1,fun j h0 hj=> ?_⟩
 have nw:=Z8X (a:=a) (n:=n) j h0
 have hh:=Z3.1 (Z0Y hg)
 have hin:Zc (Zd a n).segs (giveS a n) (giveT a n+j) 1=true:=Z3.2 ⟨hh.1,hh.2.1,by omega,by decide,by omega⟩
 refine ⟨⟨nw,hgr.has hin⟩,hin,?_⟩
 have hne:=Zbb hf nw
 rw [k1.get _ _ hin (fun q=> hne ⟨q.1.symm,q.2.symm⟩),Z8Y (by omega),Zm0 nw (by omega)]
theorem Jz{b:Arena × Bool}{f:Arena->Arena × Bool}(h:(JW b f).2=true):b.2=true/\(f b.1).2=true/\(JW b f).1=(f b.1).1:=by
 unfold JW at h ⊢
 cases q:b.2 with
 | false=> rw [q,cond_false] at h;rw [q] at h;cases h
 | true=> rw [q,cond_true] at h;exact ⟨rfl,h,rfl⟩
def Row(s i n:Int)(x y:Int):Prop:=x=s/\i<=y/\y < i+n
theorem Z9D{a c e:Arena}{s i:Int}{w:List Int}{F T:Int->Int->Prop}(hc:c=ZG w a s i)(hh:Zc a.segs s i w.length=true)(k:Keep T c e)(hT:∀ j:Nat,j < w.length->¬T s (i+j))(hF:∀ j:Nat,j < w.length->F s (i+j)):WordsAt F e.segs s i w:=by
 have g:=Z0B w a s i
 rw [<-hc] at g
 have hb:=Z3.1 (g.gr.has hh)
 refine ⟨k.gr.has (g.gr.has hh),fun j hj=> ⟨hF j hj,?_⟩⟩
 rw [k.get s (i+j) (Z3.2 ⟨hb.1,hb.2.1,by omega,by decide,by omega⟩) (hT j hj),hc,Z8l w a s i hh j hj]
mutual
theorem Zco:∀ (t:Tree) (a:Arena) (s i:Int),OkAr a->rng t->(∃ d,Z5 t d=true)->Zc a.segs s i 1=true->Zg a.segs s i=0->(ZP t a s i).2=true->
  Keep (fun x y=> x=s/\y=i) a (ZP t a s i).1/\Lies (fun x y=> (x=s/\y=i)\/New a (ZP t a s i).1 x y) (ZP t a s i).1.segs t s i
 | .mk k w ks,a,s,i,h,hg,⟨d,hr⟩,hf,hz,h2=> by
  have rt:=riT hr
  have hkr:=rt.kind
  have hkg:∀ t∈ks,rng t:=fun t ht=> Jx hg (show t∈(Tree.mk k w ks).kids from ht)
  have hw:okW w:=JE hg
  rw [ZP] at h2 ⊢
  rw [Lies]
  by_cases h0:k=0
  .rw [if_pos h0] at h2 ⊢
   rw [if_pos h0]
   exact ⟨.refl _ a,⟨hf,.inl ⟨rfl,rfl⟩⟩,hz⟩
  rw [if_neg h0] at h2 ⊢
  rw [if_neg h0]
  by_cases h1:k=1
  .rw [if_pos h1] at h2 ⊢
   rw [if_pos h1]
   have hs:=rt.stru h1
   obtain ⟨b2,f2,e2⟩:=Jz h2
   rw [e2]
   obtain ⟨b,hb,⟨hn,hbn⟩,hgb,kab,pt,zs0⟩:=Z2k hf b2
   have okb:=(Y3 h s i ((w.length:Int)+ks.length) (k:=0) (up:=(w.length:Int)+65536*ks.length) (by decide) (fun _=> by omega)).1
   rw [<-hb] at okb f2 ⊢
   generalize hS:giveS a ((w.length:Int)+ks.length)=S at*
   generalize hTt:giveT a ((w.length:Int)+ks.length)=T at*
   have hbb:=Z3.1 hbn
   obtain ⟨c,hc⟩:∃ c,c=ZG w b S T:=⟨_,rfl⟩
   rw [<-hc] at f2 ⊢
   have kbc:=Z0B w b S T
   rw [<-hc] at kbc
   have okc:OkAr c:=by rw [hc];exact J9 w S T okb hw
   have hwn:Zc b.segs S T w.length=true:=Z3.2 ⟨hbb.1,hbb.2.1,hbb.2.2.1,by omega,by omega⟩
   have hkn:Zc c.segs S (T+w.length) ks.length=true:=kbc.gr.has (Z3.2 ⟨hbb.1,hbb.2.1,by omega,by omega,by omega⟩)
   have z1:∀ j:Nat,j < ks.length->Zg c.segs S (T+w.length+j)=0:=by
    intro j hj
    have:=zs0 ((w.length:Int)+j) (by omega) (by omega)
    rw [<-XH] at this
    rw [kbc.get S _ (Z3.2 ⟨hbb.1,hbb.2.1,by omega,by decide,by omega⟩) (by rintro ⟨_,_,q⟩;omega),this.2.2]
   obtain ⟨kce,lk⟩:=Z3K ks c S (T+w.length) okc hkg (rt.kidsOk (.inl h1)) hkn z1 f2
   generalize (ZX ks c S (T+w.length)).1=e at*
   have kbe:Keep (Row S T ((w.length:Int)+ks.length)) b e:=(⟨kbc.gr,fun x y q1 q2=> kbc.get x y q1 fun q=> q2 ⟨q.1,q.2.1,by omega⟩⟩:Keep (Row S T ((w.length:Int)+ks.length)) b c).trans kce (fun x y _ q=> ⟨q.1,by have:=q.2.1;omega,by have:=q.2.2;omega⟩)
   have rown:∀ x y,Row S T ((w.length:Int)+ks.length) x y->New a b x y/\Zc (Zd a ((w.length:Int)+ks.length)).segs x y 1=true:=by
    rintro x y ⟨rfl,q1,q2⟩
    have:=zs0 (y - T) (by omega) (by omega)
    rw [show T+(y - T)=y by omega] at this
    exact ⟨this.1,this.2.1⟩
   refine ⟨kab.trans kbe (fun x y q1 q2=> ?_),S,T,?_,kbe.gr.has hbn,?_,?_⟩
   .have:=(rown x y q2).1.1
    rw [q1] at this
    cases this
   .refine (pt.same (Z3A hgb kbe (fun x y q=> ⟨?_,fun q2=> ?_⟩) (fun x y q=> (rown x y q).2) (fun _ _ q=> q))).same (.weak fun x y q=> q.imp_right fun q=> q.left (Jy a _))
    .rw [q.1,q.2];exact kab.gr.has hf
    .have:=(rown x y q2).1.1
     rw [q.1,q.2,hf] at this
     cases this
   .exact Z9D hc hwn kce (fun j hj q=> by have:=q.2.1;omega) (fun j hj=> .inr ((rown S (T+j) ⟨rfl,by omega,by omega⟩).1.right kbe.gr))
   .refine LiesK.same (.weak fun x y q=> ?_) ks _ _ lk
    rcases q with q | q
    .exact .inr ((rown x y ⟨q.1,by have:=q.2.1;omega,by have:=q.2.2;omega⟩).1.right kbe.gr)
    .exact .inr (q.left (kab.gr.trans kbc.gr))
  rw [if_neg h1] at h2 ⊢
  rw [if_neg h1]
  by_cases h8:k=8
  .rw [if_pos h8] at h2 ⊢
   rw [if_pos h8]
   obtain ⟨b2,f2,e2⟩:=Jz h2
   rw [e2]
   obtain ⟨b,hb,⟨hn,hbn⟩,hgb,kab,pt,zs0⟩:=Z2k hf b2
   have okb:=(Y3 h s i (ks.length:Int) (k:=1) (up:=6+8*(ks.length:Int)) (by decide) (fun q=> by have:=Z3O h q;omega)).1
   rw [<-hb] at okb f2 ⊢
   generalize hS:giveS a (ks.length:Int)=S at*
   generalize hTt:giveT a (ks.length:Int)=T at*
   have hbb:=Z3.1 hbn
   obtain ⟨kbe,lk⟩:=Z3K ks b S T okb hkg (rt.kidsOk (.inr h8)) hbn (fun j hj=> (zs0 j (by omega) (by omega)).2.2) f2
   generalize (ZX ks b S T).1=e at*
   have rown:∀ x y,Row S T (ks.length:Int) x y->New a b x y/\Zc (Zd a (ks.length:Int)).segs x y 1=true:=by
    rintro x y ⟨rfl,q1,q2⟩
    have:=zs0 (y - T) (by omega) (by omega)
    rw [show T+(y - T)=y by omega] at this
    exact ⟨this.1,this.2.1⟩
   refine ⟨kab.trans kbe (fun x y q1 q2=> ?_),S,T,?_,kbe.gr.has hbn,?_⟩
   .have:=(rown x y q2).1.1
    rw [q1] at this
    cases this
   .refine (pt.same (Z3A hgb kbe (fun x y q=> ⟨?_,fun q2=> ?_⟩) (fun x y q=> (rown x y q).2) (fun _ _ q=> q))).same (.weak fun x y q=> q.imp_right fun q=> q.left (Jy a _))
    .rw [q.1,q.2];exact kab.gr.has hf
    .have:=(rown x y q2).1.1
     rw [q.1,q.2,hf] at this
     cases this
   .refine LiesK.same (.weak fun x y q=> ?_) ks _ _ lk
    rcases q with q | q
    .exact .inr ((rown x y q).1.right kbe.gr)
    .exact .inr (q.left kab.gr)
  rw [if_neg h8] at h2 ⊢
  rw [if_neg h8]
  by_cases h9:k=9
  .rw [if_pos h9] at h2 ⊢
   rw [if_pos h9]
   rw [h9] at rt
   have rows:=rt.rows
   have hfr:=Zfw fun t ht=> (rows t ht).2.2
   have hfit:Fit (frW ks) (frK ks) ks:=fun t ht=> Z4C ht
   have hlen:=rt.len
   have htag:=Z5F hlen hfr.1 hfr.2
   generalize hfw:frW ks=fw at*
   generalize hfk:frK ks=fk at*
   obtain ⟨b2,f2,e2⟩:=Jz h2
   rw [e2]
   obtain ⟨b,hb,⟨hn,hbn⟩,hgb,kab,pt,zs0⟩:=Z2k hf b2
   have hP0:0<=(ks.length:Int)*((fw:Int)+fk):=Qw (by omega) (by omega)
   have okb:=(Y3 h s i (1+ks.length*((fw:Int)+fk)) (k:=1) (up:=7+8*(ks.length*((fw:Int)+fk))) (by decide) (fun q=> by have:=Z3O h q;omega)).1
   rw [<-hb] at okb f2 ⊢
   generalize hPe:(ks.length:Int)*((fw:Int)+fk)=P at*
   generalize hS:giveS a (1+P)=S at*
   generalize hTt:giveT a (1+P)=T at*
   have hbb:=Z3.1 hbn
   obtain ⟨c,hc⟩:∃ c,c=ZW b S T (Z5G ks.length fw fk):=⟨_,rfl⟩
   rw [<-hc] at f2 ⊢
   have kbc:=Z0h (a:=b) (s:=S) (i:=T) (w:=Z5G ks.length fw fk)
   rw [<-hc] at kbc
   have okc:OkAr c:=by rw [hc];exact okb.put S T htag
   have ht1:Zc b.segs S T 1=true:=Z3.2 ⟨hbb.1,hbb.2.1,hbb.2.2.1,by decide,by omega⟩
   have hkn:Zc c.segs S (T+1) (ks.length*((fw:Int)+fk))=true:=kbc.gr.has (Z3.2 ⟨hbb.1,hbb.2.1,by omega,by omega,by omega⟩)
   have z1:∀ j:Int,0<=j->j < ks.length*((fw:Int)+fk)->Zg c.segs S (T+1+j)=0:=by
    intro j hj0 hj
    have:=zs0 (1+j) (by omega) (by omega)
    rw [<-XH] at this
    rw [kbc.get S _ (Z3.2 ⟨hbb.1,hbb.2.1,by omega,by decide,by omega⟩) (by rintro ⟨_,q⟩;omega),this.2.2]
   obtain ⟨kce,lk⟩:=Z9O fw fk ks c S (T+1) okc hkg hfit (fun t ht=> (rows t ht).2.1) hkn z1 f2
   generalize (YT fw fk ks c S (T+1)).1=e at*
   rw [hPe] at kce lk
   have kbe:Keep (Row S T (1+P)) b e:=(⟨kbc.gr,fun x y q1 q2=> kbc.get x y q1 fun q=> q2 ⟨q.1,by have:=q.2;omega,by have:=q.2;omega⟩⟩:Keep (Row S T (1+P)) b c).trans kce (fun x y _ q=> ⟨q.1,by have:=q.2.1;omega,by have:=q.2.2;omega⟩)
   have rown:∀ x y,Row S T (1+P) x y->New a b x y/\Zc (Zd a (1+P)).segs x y 1=true:=by
    rintro x y ⟨rfl,q1,q2⟩
    have:=zs0 (y - T) (by omega) (by omega)
    rw [show T+(y - T)=y by omega] at this
    exact ⟨this.1,this.2.1⟩
   refine ⟨kab.trans kbe (fun x y q1 q2=> ?_),S,T,?_,kbe.gr.has hbn,⟨?_,?_⟩,?_⟩
   .have:=(rown x y q2).1.1
    rw [q1] at this
    cases this
   .refine (pt.same (Z3A hgb kbe (fun x y q=> ⟨?_,fun q2=> ?_⟩) (fun x y q=> (rown x y q).2) (fun _ _ q=> q))).same (.weak fun x y q=> q.imp_right fun q=> q.left (Jy a _))
    .rw [q.1,q.2];exact kab.gr.has hf
    .have:=(rown x y q2).1.1
     rw [q.1,q.2,hf] at this
     cases this
   .exact .inr ((rown S T ⟨rfl,by omega,by omega⟩).1.right kbe.gr)
   .rw [kce.get S T (kbc.gr.has ht1) (by rintro ⟨_,q,_⟩;omega),hc,Z17 ht1]
   .refine LiesR.same (.weak fun x y q=> ?_) fw fk ks _ _ lk
    rcases q with q | q
    .exact .inr ((rown x y ⟨q.1,by have:=q.2.1;omega,by have:=q.2.2;omega⟩).1.right kbe.gr)
    .exact .inr (q.left (kab.gr.trans kbc.gr))
  rw [if_neg h9] at h2 ⊢
  rw [if_neg h9]
  obtain ⟨b2,f2,e2⟩:=Jz h2
  rw [e2]
  obtain ⟨b,hb,⟨hn,hbn⟩,hgb,kab,pt,zs0⟩:=Z2k hf b2
  rw [<-hb]
  dsimp only
  generalize hPe:JX (k - 2) (ZO ks)=p at*
  generalize hS:giveS a (p.length:Int)=S at*
  generalize hTt:giveT a (p.length:Int)=T at*
  obtain ⟨c,hc⟩:∃ c,c=ZG p b S T:=⟨_,rfl⟩
  rw [<-hc]
  have kbc:=Z0B p b S T
  rw [<-hc] at kbc
  have rown:∀ x y,Row S T (p.length:Int) x y->New a b x y/\Zc (Zd a (p.length:Int)).segs x y 1=true:=by
   rintro x y ⟨rfl,q1,q2⟩
   have:=zs0 (y - T) (by omega) (by omega)
   rw [show T+(y - T)=y by omega] at this
   exact ⟨this.1,this.2.1⟩
  refine ⟨kab.trans kbc (fun x y q1 q2=> ?_),S,T,?_,?_⟩
  .have:=(rown x y q2).1.1
   rw [q1] at this
   cases this
  .refine (pt.same (Z3A hgb kbc (fun x y q=> ⟨?_,fun q2=> ?_⟩) (fun x y q=> (rown x y q).2) (fun _ _ q=> q))).same (.weak fun x y q=> q.imp_right fun q=> q.left (Jy a _))
   .rw [q.1,q.2];exact kab.gr.has hf
   .have:=(rown x y q2).1.1
    rw [q.1,q.2,hf] at this
    cases this
  .exact Z9D hc hbn (.refl (fun _ _=> False) c) (fun _ _ q=> q) (fun j hj=> .inr ((rown S (T+j) ⟨rfl,by omega,by omega⟩).1.right kbc.gr))
theorem Z3K:∀ (ks:List Tree) (a:Arena) (s i:Int),OkAr a->(∀ t∈ks,rng t)->Z12 ks->Zc a.segs s i ks.length=true->(∀ j:Nat,j < ks.length->Zg a.segs s (i+j)=0)->(ZX ks a s i).2=true->
  Keep (Row s i ks.length) a (ZX ks a s i).1/\LiesK (fun x y=> Row s i ks.length x y\/New a (ZX ks a s i).1 x y) (ZX ks a s i).1.segs ks s i
 | [],a,s,i,_,_,_,_,_,_=> by rw [ZX,LiesK];exact ⟨.refl _ a,trivial⟩
 | t ::r,a,s,i,h,hg,hk,hh,hz,h2=> by
  rw [ZX] at h2 ⊢
  rw [LiesK]
  obtain ⟨b2,f2,e2⟩:=Jz h2
  rw [e2]
  have hb:=Z3.1 hh
  rw [Qc] at hb hz ⊢
  have f0:Zc a.segs s i 1=true:=Z3.2 ⟨hb.1,hb.2.1,hb.2.2.1,by decide,by omega⟩
  have z0:=hz 0 (by omega)
  rw [show i+((0:Nat):Int)=i by omega] at z0
  have okb:=(Z57 t s i h (hg t (Q9 ..)) (hk t (Q9 ..)).2).1
  obtain ⟨k1,l1⟩:=Zco t a s i h (hg t (Q9 ..)) (hk t (Q9 ..)).2 f0 z0 b2
  generalize (ZP t a s i).1=b at*
  have hin:∀ j:Nat,j < r.length->Zc a.segs s (i+1+j) 1=true:=fun j hj=> Z3.2 ⟨hb.1,hb.2.1,by omega,by decide,by omega⟩
  obtain ⟨k2,l2⟩:=Z3K r b s (i+1) okb (fun x hx=> hg x (Q7 _ hx)) (fun x hx=> hk x (Q7 _ hx))
   (k1.gr.has (Z3.2 ⟨hb.1,hb.2.1,by omega,by omega,by omega⟩)) (fun j hj=> by
    rw [k1.get s _ (hin j hj) (by rintro ⟨_,q⟩;omega)]
    have:=hz (j+1) (by omega)
    rw [show i+((j+1:Nat):Int)=i+1+j by omega] at this
    exact this) f2
  generalize (ZX r b s (i+1)).1=e at*
  refine ⟨(⟨k1.gr,fun x y q1 q2=> k1.get x y q1 fun q=> q2 ⟨q.1,by have:=q.2;omega,by have:=q.2;omega⟩⟩:Keep (Row s i (r.length+1:Nat)) a b).trans k2 (fun x y _ q=> ⟨q.1,by have:=q.2.1;omega,by have:=q.2.2;omega⟩),?_,?_⟩
  .refine Lies.same (Z3A k1.gr k2 (fun x y q=> ⟨by rw [q.1,q.2];exact k1.gr.has f0,fun q2=> by have:=q2.2.1;have:=q.2;omega⟩) (fun x y q=> ?_) (fun x y q=> ⟨q.1,by have:=q.2;omega,by have:=q.2;omega⟩)) t s i l1
   obtain ⟨rfl,q1,q2⟩:=q
   have:=hin (y - (i+1)).toNat (by omega)
   rw [show i+1+(((y - (i+1)).toNat:Nat):Int)=y by omega] at this
   exact this
  .refine LiesK.same (.weak fun x y q=> ?_) r s (i+1) l2
   rcases q with q | q
   .exact .inl ⟨q.1,by have:=q.2.1;omega,by have:=q.2.2;omega⟩
   .exact .inr (q.left k1.gr)
theorem Z9O:∀ (fw fk:Nat) (ks:List Tree) (a:Arena) (s i:Int),OkAr a->(∀ t∈ks,rng t)->Fit fw fk ks->(∀ t∈ks,Z12 t.kids)->Zc a.segs s i (ks.length*((fw:Int)+fk))=true->(∀ j:Int,0<=j->j < ks.length*((fw:Int)+fk)->Zg a.segs s (i+j)=0)->(YT fw fk ks a s i).2=true->
  Keep (Row s i (ks.length*((fw:Int)+fk))) a (YT fw fk ks a s i).1/\LiesR fw fk (fun x y=> Row s i (ks.length*((fw:Int)+fk)) x y\/New a (YT fw fk ks a s i).1 x y) (YT fw fk ks a s i).1.segs ks s i
 | _,_,[],a,s,i,_,_,_,_,_,_,_=> by rw [YT,LiesR];exact ⟨.refl _ a,trivial⟩
 | fw,fk,.mk k w l ::r,a,s,i,h,hg,hfit,hk,hh,hz,h2=> by
  rw [YT] at h2 ⊢
  rw [LiesR]
  obtain ⟨b2,f2,e2⟩:=Jz h2
  rw [e2]
  have hb:=Z3.1 hh
  obtain ⟨R,hR⟩:∃ R:Int,R=(r.length:Int)*((fw:Int)+fk):=⟨_,rfl⟩
  have hR0:0<=R:=by rw [hR];exact Qw (by omega) (by omega)
  have hlen:(((Tree.mk k w l ::r:List Tree).length:Nat):Int)*((fw:Int)+fk)=R+((fw:Int)+fk):=by rw [Qc,Xw,Xn,hR];simp
  rw [hlen] at hb hz ⊢
  have hff:w.length<=fw/\l.length<=fk:=hfit _ (Q9 ..)
  have hg0:=hg _ (Q9 ..)
  have hk0:Z12 l:=hk _ (Q9 ..)
  have one:∀ j:Int,0<=j->j < R+((fw:Int)+fk)->Zc a.segs s (i+j) 1=true:=fun j h0 hj=> Z3.2 ⟨hb.1,hb.2.1,by omega,by decide,by omega⟩
  obtain ⟨c,hc⟩:∃ c,c=ZG w a s i:=⟨_,rfl⟩
  rw [<-hc] at b2 f2 ⊢
  have kac:=Z0B w a s i
  rw [<-hc] at kac
  have okc:OkAr c:=by rw [hc];exact J9 w s i h (JE hg0)
  have hwn:Zc a.segs s i w.length=true:=Z3.2 ⟨hb.1,hb.2.1,hb.2.2.1,by omega,by omega⟩
  have zc:∀ j:Int,(w.length:Int)<=j->j < R+((fw:Int)+fk)->Zg c.segs s (i+j)=0:=by
   intro j h0 hj
   rw [kac.get s _ (one j (by omega) hj) (by rintro ⟨_,_,q⟩;omega),hz j (by omega) hj]
  obtain ⟨kcd,lk⟩:=Z3K l c s (i+fw) okc (fun x hx=> Jx hg0 hx) hk0 (kac.gr.has (Z3.2 ⟨hb.1,hb.2.1,by omega,by omega,by omega⟩)) (fun j hj=> by
   rw [XH]
   exact zc _ (by omega) (by omega)) b2
  have okd:=(Z0C l s (i+fw) okc (fun x hx=> Jx hg0 hx) hk0).1
  generalize (ZX l c s (i+fw)).1=d at*
  have zd:∀ j:Int,(w.length:Int)<=j->j < R+((fw:Int)+fk)->¬((fw:Int)<=j/\j < fw+l.length)->Zg d.segs s (i+j)=0:=by
   intro j h0 hj hn
   rw [kcd.get s _ (kac.gr.has (one j (by omega) hj)) (by rintro ⟨_,q1,q2⟩;omega),zc j h0 hj]
  obtain ⟨kde,lr⟩:=Z9O fw fk r d s (i+((fw:Int)+fk)) okd (fun x hx=> hg x (Q7 _ hx)) (fun x hx=> hfit x (Q7 _ hx)) (fun x hx=> hk x (Q7 _ hx))
   (by rw [<-hR];exact kcd.gr.has (kac.gr.has (Z3.2 ⟨hb.1,hb.2.1,by omega,by omega,by omega⟩))) (fun j h0 hj=> by
    rw [XH]
    rw [<-hR] at hj
    exact zd _ (by omega) (by omega) (by omega)) f2
  rw [<-hR] at kde lr
  generalize (YT fw fk r d s (i+((fw:Int)+fk))).1=e at*
  have ge:Gr a e:=kac.gr.trans (kcd.gr.trans kde.gr)
  have ze:∀ j:Int,(w.length:Int)<=j->j < (fw:Int)+fk->¬((fw:Int)<=j/\j < fw+l.length)->Zg e.segs s (i+j)=0:=by
   intro j h0 hj hn
   rw [kde.get s _ (kcd.gr.has (kac.gr.has (one j (by omega) (by omega)))) (by rintro ⟨_,q1,q2⟩;omega),zd j h0 (by omega) hn]
  refine ⟨((⟨kac.gr,fun x y q1 q2=> kac.get x y q1 fun q=> q2 ⟨q.1,q.2.1,by have:=q.2.2;omega⟩⟩:Keep (Row s i (R+((fw:Int)+fk))) a c).trans kcd (fun x y _ q=> ⟨q.1,by have:=q.2.1;omega,by have:=q.2.2;omega⟩)).trans kde (fun x y _ q=> ⟨q.1,by have:=q.2.1;omega,by have:=q.2.2;omega⟩),⟨?_,fun j hj=> ⟨.inl ⟨rfl,by omega,?_⟩,?_⟩⟩,?_,⟨?_,fun j hj=> ⟨.inl ⟨rfl,by omega,?_⟩,?_⟩⟩,?_⟩
  .exact ge.has (Z3.2 ⟨hb.1,hb.2.1,hb.2.2.1,by omega,by rw [Qb,Z0G];omega⟩)
  .rw [Qb,Z0G] at hj;omega
  .rw [Qb,Z0G] at hj
   by_cases hjw:j < w.length
   .rw [Q2,Qf hjw,<-Q2]
    rw [kde.get s _ (kcd.gr.has (kac.gr.has (one j (by omega) (by omega)))) (by rintro ⟨_,q1,q2⟩;omega),kcd.get s _ (kac.gr.has (one j (by omega) (by omega))) (by rintro ⟨_,q1,q2⟩;omega),hc,Z8l w a s i hwn j hjw]
   .rw [Q2,Qe (by omega),zs,QW,ze j (by omega) (by omega) (by omega)]
    split <;> rfl
  .have inA:∀ x y,Row s i (R+((fw:Int)+fk)) x y->Zc a.segs x y 1=true:=by
    rintro x y ⟨rfl,q1,q2⟩
    have:=one (y - i) (by omega) (by omega)
    rw [show i+(y - i)=y by omega] at this
    exact this
   have lk2:=LiesK.same (Z3A (S':=Row s (i+fw) l.length) (a:=c) kcd.gr kde (fun x y q=> ⟨kcd.gr.has (kac.gr.has (inA x y ⟨q.1,by have:=q.2.1;omega,by have:=q.2.2;omega⟩)),fun q2=> by have:=q2.2.1;have:=q.2.2;omega⟩)
    (fun x y q=> kac.gr.has (inA x y ⟨q.1,by have:=q.2.1;omega,by have:=q.2.2;omega⟩)) (fun x y q=> q)) l _ _ lk
   refine LiesK.same (.weak fun x y q=> ?_) l _ _ lk2
   rcases q with q | q
   .exact .inl ⟨q.1,by have:=q.2.1;omega,by have:=q.2.2;omega⟩
   .exact .inr (q.left kac.gr)
  .exact ge.has (Z3.2 ⟨hb.1,hb.2.1,by omega,by omega,by rw [Z0G];omega⟩)
  .rw [Z0G] at hj;omega
  .rw [Z0G] at hj
   have:=ze ((fw:Int)+l.length+j) (by omega) (by omega) (by omega)
   rw [show i+((fw:Int)+l.length+j)=i+fw+l.length+j by omega] at this
   rw [this,Q2,zs,QW]
   split <;> rfl
  .refine LiesR.same (.weak fun x y q=> ?_) fw fk r _ _ lr
   rcases q with q | q
   .exact .inl ⟨q.1,by have:=q.2.1;omega,by have:=q.2.2;omega⟩
   .exact .inr (q.left (kac.gr.trans kcd.gr))
end
end Go.AM.Ytcljdbpmjdgooaa
