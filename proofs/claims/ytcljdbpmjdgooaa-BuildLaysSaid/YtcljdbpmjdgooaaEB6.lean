import Derived.Test.YtcljdbpmjdgooaaEG4
import Derived.Test.YtcljdbpmjdgooaaEQBo
import Derived.Test.YtcljdbpmjdgooaaEmY
import Derived.Test.YtcljdbpmjdgooaaEB1
set_option linter.unusedSimpArgs false
set_option linter.unusedVariables false
namespace Go.AM.Ytcljdbpmjdgooaa
open Go.AM Go.Proofs
theorem YK{t:Tree}(h:rng t):okW t.words:=by
 obtain ⟨k,w,ks⟩:=t
 rw [rng] at h
 exact h.2.1
theorem Z6C{t:Tree}(h:rng t):okW (Y9 t.kids):=by
 intro x hx
 obtain ⟨t',ht',rfl⟩:=Xh.1 hx
 exact J3 (YK (Jf h ht')) 0
theorem Z6B{c:Int}{ns:List Int}(hn:okW ns)(hl:(ns.length:Int)<=1099511627776):okW (ZF c ns):=by
 unfold ZF
 split
 .rename_i hf
  exact Zeq hn hl hf
 .intro x hx
  cases hx
theorem Z3Y{n fw fk:Nat}(hn:n < 1048576)(hw:fw < 65536)(hk:fk < 65536):0<=Z3g n fw fk/\Z3g n fw fk < 18446744073709551616:=by
 unfold Z3g
 omega
mutual
theorem Z3u:∀ (t:Tree) {a:Arena} (s i:Int),OkAr a->rng t->(∃ d,Z6 t d=true)->OkAr (Zx t a s i).1/\Gr a (Zx t a s i).1
 | .mk k w ks,a,s,i,h,hg,⟨d,hr⟩=> by
  have rt:=riT hr
  have hlen:=rt.len
  have hkr:=rt.kind
  have hkg:∀ t∈ks,rng t:=fun t ht=> Jf hg (show t∈(Tree.mk k w ks).kids from ht)
  have hw:okW w:=YK hg
  have hnW:okW (Y9 ks):=Z6C hg
  have hnl:(Y9 ks).length=ks.length:=by rw [Y9,QP]
  rw [Zx]
  split
  .exact ⟨h,.refl a⟩
  .split
   .rename_i k0 k1
    have hs:=rt.stru k1
    refine Z4D (Y0 h _ _ _ (by decide) (fun _=> by omega)) fun _=> ?_
    have hb:=Y0 h s i ((w.length:Int)+ks.length) (k:=0) (up:=(w.length:Int)+65536*ks.length) (by decide) (fun _=> by omega)
    have h2:=JP ks (giveS a ((w.length:Int)+ks.length)) (giveT a ((w.length:Int)+ks.length)+w.length) (Yz w (giveS a ((w.length:Int)+ks.length)) (giveT a ((w.length:Int)+ks.length)) hb.1 hw) hkg (rt.kidsOk (.inl k1))
    exact ⟨h2.1,(Jr _ _ _ _).trans h2.2⟩
   .split
    .rename_i k0 k1 k8
     have hu:Z0 a (ks.length:Int)=true->0<=6+8*(ks.length:Int)/\6+8*(ks.length:Int) < 4294967296:=fun q=> by have:=Z1f h q;omega
     refine Z4D (Y0 h _ _ _ (by decide) hu) fun _=> ?_
     exact JP ks _ _ (Y0 h s i _ (by decide) hu).1 hkg (rt.kidsOk (.inr k8))
    .split
     .rename_i k0 k1 k8 k9
      rw [k9] at rt
      have rows:=rt.rows
      have hfr:=ZfF fun t ht=> (rows t ht).2.2
      have hu:Z0 a (1+ks.length*((frW ks:Int)+frK ks))=true->0<=7+8*(ks.length*((frW ks:Int)+frK ks))/\7+8*(ks.length*((frW ks:Int)+frK ks)) < 4294967296:=fun q=> by
       have:=Z1f h q
       have h0:0<=(ks.length:Int)*((frW ks:Int)+frK ks):=QS (by omega) (by omega)
       omega
      refine Z4D (Y0 h _ _ _ (by decide) hu) fun _=> ?_
      have hb:=Y0 h s i (1+ks.length*((frW ks:Int)+frK ks)) (k:=1) (by decide) hu
      have h2:=Z7O (frW ks) (frK ks) ks (giveS a (1+ks.length*((frW ks:Int)+frK ks))) (giveT a (1+ks.length*((frW ks:Int)+frK ks))+1)
       (hb.1.put (giveS a (1+ks.length*((frW ks:Int)+frK ks))) (giveT a (1+ks.length*((frW ks:Int)+frK ks))) (Z3Y hlen hfr.1 hfr.2)) hkg (fun t ht=> (rows t ht).2.1)
      exact ⟨h2.1,(Yd _ _ _ _).trans h2.2⟩
     .have hu:Z0 a ((ZF (k - 2) (Y9 ks)).length:Int)=true->0<=k - 2+8*(ks.length:Int)/\k - 2+8*(ks.length:Int) < 4294967296:=fun _=> by omega
      refine Z4D (Y0 h _ _ _ (by decide) hu) fun _=> ?_
      have hb:=Y0 h s i ((ZF (k - 2) (Y9 ks)).length:Int) (k:=1) (by decide) hu
      exact ⟨Yz _ _ _ hb.1 (Z6B hnW (by omega)),Jr _ _ _ _⟩
theorem JP:∀ (ks:List Tree) {a:Arena} (s i:Int),OkAr a->(∀ t∈ks,rng t)->Z73 ks->OkAr (ZL ks a s i).1/\Gr a (ZL ks a s i).1
 | [],a,s,i,h,_,_=> by rw [ZL];exact ⟨h,.refl a⟩
 | t ::r,a,s,i,h,hg,hk=> by
  rw [ZL]
  have h1:=Z3u t s i h (hg t (Qz ..)) (hk t (Qz ..)).2
  exact Z4D h1 fun _=> JP r s (i+1) h1.1 (fun x hx=> hg x (Qk _ hx)) fun x hx=> hk x (Qk _ hx)
theorem Z7O:∀ (fw fk:Nat) (ks:List Tree) {a:Arena} (s i:Int),OkAr a->(∀ t∈ks,rng t)->(∀ t∈ks,Z73 t.kids)->OkAr (JY fw fk ks a s i).1/\Gr a (JY fw fk ks a s i).1
 | _,_,[],a,s,i,h,_,_=> by rw [JY];exact ⟨h,.refl a⟩
 | fw,fk,.mk k w l ::r,a,s,i,h,hg,hk=> by
  rw [JY]
  have hg0:=hg _ (Qz ..)
  have h1:=JP l s (i+fw) (Yz w s i h (YK hg0)) (fun x hx=> Jf hg0 hx) (hk _ (Qz ..))
  have h2:OkAr (ZL l (Zk w a s i) s (i+fw)).1/\Gr a (ZL l (Zk w a s i) s (i+fw)).1:=⟨h1.1,(Jr _ _ _ _).trans h1.2⟩
  exact Z4D h2 fun _=> Z7O fw fk r s _ h1.1 (fun x hx=> hg x (Qk _ hx)) fun x hx=> hk x (Qk _ hx)
end
theorem Z8P(t:Tree)(a:Arena)(s i:Int):Zx t a s i=
  if t.kind=0 then (a,true)
  else if t.kind=1 then YG (ZW a s i (t.words.length+t.kids.length) 0 (t.words.length+65536*t.kids.length)) fun b=>
   ZL t.kids (Zk t.words b (giveS a (t.words.length+t.kids.length)) (giveT a (t.words.length+t.kids.length))) (giveS a (t.words.length+t.kids.length)) (giveT a (t.words.length+t.kids.length)+t.words.length)
  else if t.kind=8 then YG (ZW a s i t.kids.length 1 (6+8*t.kids.length)) fun b=> ZL t.kids b (giveS a t.kids.length) (giveT a t.kids.length)
  else if t.kind=9 then YG (ZW a s i (1+t.kids.length*((frW t.kids:Int)+frK t.kids)) 1 (7+8*(t.kids.length*((frW t.kids:Int)+frK t.kids)))) fun b=>
   JY (frW t.kids) (frK t.kids) t.kids (ZD b (giveS a (1+t.kids.length*((frW t.kids:Int)+frK t.kids))) (giveT a (1+t.kids.length*((frW t.kids:Int)+frK t.kids))) (Z3g t.kids.length (frW t.kids) (frK t.kids)))
    (giveS a (1+t.kids.length*((frW t.kids:Int)+frK t.kids))) (giveT a (1+t.kids.length*((frW t.kids:Int)+frK t.kids))+1)
  else YG (ZW a s i (ZF (t.kind - 2) (Y9 t.kids)).length 1 (t.kind - 2+8*t.kids.length)) fun b=>
   (Zk (ZF (t.kind - 2) (Y9 t.kids)) b (giveS a (ZF (t.kind - 2) (Y9 t.kids)).length) (giveT a (ZF (t.kind - 2) (Y9 t.kids)).length),true):=by
 obtain ⟨k,w,ks⟩:=t
 rw [Zx]
 try rfl
theorem Z6N(ks:List Tree)(a:Arena)(s i:Int){j:Int}(h0:0<=j)(h:j < ks.length):
  ZL (ks.drop j.toNat) a s i=YG (Zx (ks.getD j.toNat Tree.nil) a s i) fun b=> ZL (ks.drop (j+1).toNat) b s (i+1):=by
 rw [ZfK h0 h Tree.nil,ZL]
theorem b45:ZmC:=by
 intro N a fr t _ hp hN
 obtain ⟨⟨h,hf⟩,⟨hm,hg⟩,hK⟩:=hp
 dsimp only at h hf hm hg hK
 have hN:4*ZE t+1 < N+1:=hN
 have hk:=Z2x t
 have hh:=Zb.1 hf
 have hu:=h.used
 have hl:=h.len fr.segment
 refine Znk N a fr t _ ?_
 refine Zj (ι:=Int × Arena) (fun p=> Z0J a fr t p.1 p.2) (fun p=> (0<=p.1/\p.1<=t.kids.length)/\(OkAr p.2/\Gr a p.2)/\ZL t.kids a fr.segment fr.at_=ZL (t.kids.drop p.1.toNat) p.2 fr.segment (fr.at_+p.1)) (fun p=> ((t.kids.length:Int) - p.1).toNat) (0,a) rfl ⟨⟨by dsimp only;omega,by dsimp only;omega⟩,⟨h,.refl a⟩,by simp⟩ ?_
 rintro ⟨i,r⟩ ⟨⟨g1,g2⟩,⟨g3,g4⟩,g5⟩
 dsimp only at g1 g2 g3 g4 g5
 refine ZgP N a fr t i r _ _ ?_
 rintro y1 rfl y2 hy2 y3 rfl y4 hy4
 refine ⟨fun hb=> ?_,fun hb=> ?_⟩
 .have hi:i < t.kids.length:=of_decide_eq_true hb
  have m1:=Z3D (t:=t) (i:=i.toNat) (by omega)
  have m4:=Jy (l:=t.kids) (i:=i.toNat) (by omega) Tree.nil
  rw [<-hy2] at m1 m4
  have hat:Y2 r.segs y1.segment (y1.at_+i) 1=true:=g4.has (Zb.2 ⟨hh.1,hh.2.1,by omega,by decide,by omega⟩)
  have ok:=Z3u y3 y1.segment (y1.at_+i) g3 (Jf hg m4) (hK _ m4).2
  have st:=Z6N t.kids r y1.segment (y1.at_+i) g1 hi
  rw [<-hy2] at st
  refine ⟨⟨g1,hi⟩,?_,⟨⟨g3,?_⟩,⟨?_,Jf hg m4⟩,hK _ m4⟩,?_,fun hc=> ?_,fun hc=> ⟨by ((unfold InR;omega)),(i+1,(Zx y3 r y1.segment (y1.at_+i)).1),?_,⟨⟨by dsimp only;omega,by dsimp only;omega⟩,⟨ok.1,g4.trans ok.2⟩,?_⟩,by dsimp only;omega⟩⟩
  .show InR (y1.at_+i)
   ((unfold InR;omega))
  .rw [hy4];exact hat
  .show ZE y3<=1000000;omega
  .show 4*ZE y3+3 < N;omega
  .have hc:(Zx y3 r y1.segment (y1.at_+i)).2=false:=by rw [hy4] at hc;simpa using hc
   have e:ZL t.kids a y1.segment y1.at_=Zx y3 r y1.segment (y1.at_+i):=by
    rw [g5,st]
    unfold YG
    rw [hc]
    try rfl
   simp only [Z7v,Z47,e,hc]
   rw [hy4]
   (repeat' (first | exact trivial | exact rfl | apply And.intro))
  .rw [hy4]
  .dsimp only
   have hc:(Zx y3 r y1.segment (y1.at_+i)).2=true:=by rw [hy4] at hc;simpa using hc
   rw [g5,st]
   unfold YG
   rw [hc,cond_true,K0]
 .have e:i=t.kids.length:=by have:¬i < t.kids.length:=of_decide_eq_false hb;omega
  subst e
  have e:ZL t.kids a y1.segment y1.at_=(r,true):=by
   rw [g5,Qe,XN,ZL]
  simp only [Z7v,Z47,e]
  (repeat' (first | exact trivial | exact rfl | apply And.intro))
theorem ZaT{c n:Int}(hc:0<=c/\c < 8)(hn:0<=n/\n < 536870912):Z4Z (Ptr.mk 2 0 0 0 c n 0 false)/\kdP (Ptr.mk 2 0 0 0 c n 0 false)=1/\upP (Ptr.mk 2 0 0 0 c n 0 false)=c+8*n:=⟨Zjn hc hn,rfl,rfl⟩
theorem Z5F{a:Arena}{s i n k up:Int}(hg:Z0 a n=true)(hb:(ZW a s i n k up).2=true):Y2 (ZW a s i n k up).1.segs (giveS a n) (giveT a n) n=true:=(Zdo hb).2.has (Z2c hg)
theorem Z3R{a:Arena}{s i n k up:Int}(hg:Z0 a n=true):ZW a s i n k up=Zu (Z5 a n) s i (giveS a n) (giveT a n) k up:=by
 unfold ZW
 rw [if_pos hg]
theorem Z90{a:Arena}{s i n k up:Int}(hg:Z0 a n=false):ZW a s i n k up=(a,false)/\Z5 a n=a:=by
 unfold ZW Z5
 rw [hg]
 exact ⟨rfl,rfl⟩
set_option maxHeartbeats 1000000 in
theorem c42:Contract Try.prog cfg 42 Z8k:=by
 refine Zk0 c59 ZfN c22 c43 c44 ?_
 intro a fr t _ hp
 obtain ⟨⟨⟨h,hf⟩,⟨hm,hg⟩,h10,d,hr⟩,k2,k7⟩:=hp
 dsimp only at h hf hm hg h10 hr k2 k7
 have rt:=ZcU hr
 have hlen:=rt.len
 obtain ⟨hfit,hat⟩:=rt.data k2 k7
 have hnl:(Y9 t.kids).length=t.kids.length:=by rw [Y9,QP]
 have hnW:=Z6C hg
 have hlay:=Z8P t a fr.segment fr.at_
 rw [if_neg (by omega),if_neg (by omega),if_neg (by omega),if_neg (by omega)] at hlay
 have hpW:=Z6B (c:=t.kind - 2) hnW (by omega)
 have hpR:ZF (t.kind - 2) (Y9 t.kids)=J0 (t.kind - 2) (Y9 t.kids):=by unfold ZF;rw [if_pos hfit]
 rw [hpR] at hlay hpW
 refine Znn a fr t _ ?_
 refine Zj (ι:=Int × List Int) (fun p=> Z0L a fr t p.1 p.2) (fun p=> 0<=p.1/\p.1<=t.kids.length/\p.2=Y9 (t.kids.take p.1.toNat)) (fun p=> ((t.kids.length:Int) - p.1).toNat) (0,[]) rfl ⟨by dsimp only;omega,by dsimp only;omega,rfl⟩ ?_
 rintro ⟨i,m⟩ ⟨g1,g2,g3⟩
 dsimp only at g1 g2 g3
 refine ZgR a fr t i m _ _ ?_
 rintro y1 rfl y2 hy2 y3 hy3 y4 hy4 y5 hy5 y6 hy6 y7 rfl y8 rfl y9 hy9
 refine ⟨fun hb=> ?_,fun hb=> ?_⟩
 .have hi:i < t.kids.length:=of_decide_eq_true hb
  have hl:m.length<=t.kids.length:=by rw [g3,Y9,QP,Qc];omega
  refine ⟨⟨g1,hi⟩,trivial,?_,by ((unfold InR;omega)),(i+1,_),rfl,⟨by dsimp only;omega,by dsimp only;omega,?_⟩,by dsimp only;omega⟩
  .simp only [Xa]
   omega
  .dsimp only
   rw [ZdE g1 hi,Y9,XT,g3,hy2]
   try rfl
 .have e:i=t.kids.length:=by have:¬i < t.kids.length:=of_decide_eq_false hb;omega
  subst e
  rw [Qe,Xf] at g3
  subst g3
  generalize hP:J0 (t.kind - 2) (Y9 t.kids)=P at*
  have hnl':((Y9 t.kids).length:Int)=t.kids.length:=by rw [hnl]
  rw [hnl'] at hy5
  obtain ⟨q1,q2,q3⟩:=ZaT (c:=t.kind - 2) (n:=t.kids.length) ⟨by omega,by omega⟩ ⟨by omega,by omega⟩
  rw [<-hy5] at q1 q2 q3
  rw [q2,q3] at hy9
  cases hk:Z0 a (P.length:Int) with
  | false=>
   obtain ⟨e1,e2⟩:=Z90 (s:=y1.segment) (i:=y1.at_) (k:=1) (up:=t.kind - 2+8*(t.kids.length:Int)) hk
   rw [e1] at hlay
   have hlay:Zx t a y1.segment y1.at_=(a,false):=hlay
   have hy4:y4=false:=hy4.trans hk
   subst hy4
   have hy3:y3=a:=hy3.trans e2
   refine ⟨by ((unfold InR;omega)),⟨⟨hnW,by dsimp only;omega⟩,hfit⟩,h,fun q=> (by cases q),fun q=> (by cases q),fun q=> (by cases q),?_⟩
   simp only [Z9I,Z6r,hlay,cond_false,hy3]
   (repeat' (first | exact trivial | exact rfl | apply And.intro))
  | true=>
   have hy4:y4=true:=hy4.trans hk
   subst hy4
   have hgs:=Z4q hk
   have hgt:=h.giveT (P.length:Int)
   have hy7:y7=Spot.mk (giveS a P.length) (giveT a P.length):=by rw [hy6,if_pos hk,if_pos hk]
   rw [hy7] at hy9
   have e9:y9=ZW a y1.segment y1.at_ P.length 1 (t.kind - 2+8*(t.kids.length:Int)):=by rw [hy9,hy3,Z3R hk]
   have hb9:OkAr y9.1:=by rw [e9];exact (Y0 h _ _ _ (by decide) (fun _=> by omega)).1
   rw [<-e9] at hlay
   rw [hy7]
   refine ⟨by ((unfold InR;omega)),⟨⟨hnW,by dsimp only;omega⟩,hfit⟩,h,fun _=> by ((unfold InR;omega)),fun _=> ⟨⟨by rw [hy3];exact h.give _,by rw [hy3];exact (JK a _).has hf⟩,hgt,q1,by rw [hy3];exact hgs⟩,fun hq=> ⟨⟨hb9,hpW⟩,?_⟩,?_⟩
   .have hq:y9.2=true:=hq
    have:=Z5F (s:=y1.segment) (i:=y1.at_) (k:=1) (up:=t.kind - 2+8*(t.kids.length:Int)) hk (by rw [<-e9];exact hq)
    rw [<-e9] at this
    exact this
   .cases hq:y9.2 with
    | false=>
     have hlay:Zx t a y1.segment y1.at_=y9:=by rw [hlay];unfold YG;rw [hq];try rfl
     simp only [Z9I,Z6r,hlay,hq,cond_false,cond_true]
     (repeat' (first | exact trivial | exact rfl | apply And.intro))
    | true=>
     have hlay:Zx t a y1.segment y1.at_=(Zk P y9.1 (giveS a P.length) (giveT a P.length),true):=by rw [hlay];unfold YG;rw [hq];try rfl
     simp only [Z9I,Z6r,hlay,hq,cond_true]
     (repeat' (first | exact trivial | exact rfl | apply And.intro))
set_option maxHeartbeats 1000000 in
theorem b23:ZmF:=by
 intro N a fr t _ hp hN
 have hpre:=hp
 obtain ⟨⟨h,hf⟩,⟨hm,hg⟩,h10,d,hr⟩:=hp
 dsimp only at h hf hm hg h10 hr
 have hN:4*ZE t+3 < N+1:=hN
 have rt:=ZcU hr
 have hlen:=rt.len
 have hkr:=rt.kind
 have hk:=Z2x t
 have hw:=YK hg
 have hlay:=Z8P t a fr.segment fr.at_
 have core:∀ (n K UP k0 k2 k3 k4 k5:Int),n=(t.words.length:Int)+t.kids.length->Z4Z (Ptr.mk k0 0 k2 k3 k4 k5 0 false)->kdP (Ptr.mk k0 0 k2 k3 k4 k5 0 false)=K->upP (Ptr.mk k0 0 k2 k3 k4 k5 0 false)=UP->
   Z73 t.kids->Zx t a fr.segment fr.at_=YG (ZW a fr.segment fr.at_ n K UP) (fun b=> ZL t.kids (Zk t.words b (giveS a n) (giveT a n)) (giveS a n) (giveT a n+t.words.length))->
   Zbx N a fr t n k0 k2 k3 k4 k5 (ZK cfg Try.f23.ntmps Try.f23.results.toList (Z9I ((a,()),fr,t,())) (ZdZ ((a,()),fr,t,())) (Z6r ((a,()),fr,t,()))):=by
  intro n K UP k0 k2 k3 k4 k5 hn hp1 hp2 hp3 kOk hl
  obtain ⟨hkk,r1,r2,r3⟩:=Z8E hp1
  rw [hp2] at r1
  rw [hp3] at r2
  refine Zh3 N a fr t n k0 k2 k3 k4 k5 _ ?_
  rintro y1 rfl y2 rfl y3 hy3 y4 rfl y5 hy5 y6 hy6 y7 rfl y8 hy8 y9 hy9
  rw [hp2,hp3] at hy6
  cases hk:Z0 a n with
  | false=>
   obtain ⟨e1,e2⟩:=Z90 (s:=y2.segment) (i:=y2.at_) (k:=K) (up:=UP) hk
   rw [e1] at hl
   have hl:Zx y1 a y2.segment y2.at_=(a,false):=hl
   refine ⟨h,fun q=> (by cases q),fun q=> (by cases q),fun q=> (by cases q),fun q=> (by cases q),fun q=> (by cases q),?_⟩
   simp only [Z9I,Z6r,hl,cond_false,e2]
   (repeat' (first | exact trivial | exact rfl | apply And.intro))
  | true=>
   rw [hk] at hy8 hy9
   have hgs:=Z4q hk
   have hgt:=h.giveT n
   have hnl:=Z1f h hk
   have hy4:y4=Spot.mk (giveS a n) (giveT a n):=by rw [hy3,if_pos hk,if_pos hk]
   rw [hy4] at hy5 hy6 hy8
   have e6:y6=ZW a y2.segment y2.at_ n K UP:=by rw [hy6,Z3R hk]
   have hb6:OkAr y6.1:=by rw [e6];exact (Y0 h _ _ _ r1 (fun _=> r2)).1
   rw [<-e6] at hl
   rw [hy4]
   simp only [cond_true] at hy8 hy9 ⊢
   have hb:y6.2=true->Y2 y6.1.segs (giveS a n) (giveT a n) n=true:=fun q=> by
    have:=Z5F (s:=y2.segment) (i:=y2.at_) (k:=K) (up:=UP) hk (by rw [<-e6];exact q)
    rw [<-e6] at this
    exact this
   have ok8:OkAr y8:=by rw [hy8];exact Yz _ _ _ hb6 hw
   have g8:Gr y6.1 y8:=by rw [hy8];exact Jr _ _ _ _
   have pre4:y6.2=true->Z3r ((y8,()),y7,y1,()):=fun q=> by
    have hb':=Zb.1 (hb q)
    rw [hy5]
    exact ⟨⟨ok8,g8.has (Zb.2 ⟨hb'.1,hb'.2.1,by dsimp only;omega,by dsimp only;omega,by dsimp only;omega⟩)⟩,⟨hm,hg⟩,kOk⟩
   refine ⟨h,fun _=> ⟨⟨h.give _,(JK a _).has hf⟩,hgt,hp1,hgs⟩,fun q=> ⟨⟨hb6,hw⟩,?_⟩,fun q=> ?_,fun q=> ?_,fun q=> ?_,?_⟩
   .have hb':=Zb.1 (hb q)
    exact Zb.2 ⟨hb'.1,hb'.2.1,hb'.2.2.1,by dsimp only;omega,by dsimp only;omega⟩
   .show InR (giveT a n+(y1.words.length:Int))
    ((unfold InR;omega))
   .have q:y6.2=true:=by
     cases q6:y6.2 with
     | true=> rfl
     | false=> rw [q6] at q;cases q
    rw [q,cond_true]
    exact pre4 q
   .show 4*ZE y1+1 < N
    omega
   .cases q:y6.2 with
    | false=>
     have hl:Zx y1 a y2.segment y2.at_=y6:=by rw [hl];unfold YG;rw [q];try rfl
     simp only [Z9I,Z6r,hl,q,cond_false]
     (repeat' (first | exact trivial | exact rfl | apply And.intro))
    | true=>
     have hl:Zx y1 a y2.segment y2.at_=y9:=by
      rw [hl,hy9,hy8,hy5]
      unfold YG
      rw [q]
      try rfl
     simp only [Z9I,Z6r,hl,cond_true]
     (repeat' (first | exact trivial | exact rfl | apply And.intro))
 refine ZnA N a fr t _ ?_
 simp only [Tree.eta]
 refine ⟨fun k0=> ?_,fun k0=> ⟨fun k1=> ?_,fun k1=> ⟨fun k8=> ?_,fun k8=> ⟨fun k9=> ?_,fun k9=> ?_⟩⟩⟩⟩
 .have k0:t.kind=0:=eq_of_beq k0
  rw [if_pos k0] at hlay
  simp only [Z9I,Z6r,hlay]
  (repeat' (first | exact trivial | exact rfl | apply And.intro))
 .have k1:t.kind=1:=eq_of_beq k1
  have hs:=rt.stru k1
  rw [if_neg (by omega),if_pos k1] at hlay
  refine ⟨by ((unfold InR;omega)),core _ 0 ((t.words.length:Int)+65536*t.kids.length) 1 _ _ 0 0 (by omega) (Zjo ⟨by omega,by omega⟩ ⟨by omega,by omega⟩) rfl rfl (rt.kidsOk (.inl k1)) ?_⟩
  rw [hlay,Int.add_comm (t.kids.length:Int)]
 .have k8:t.kind=8:=eq_of_beq k8
  have hw0:=rt.list (by omega) (by omega)
  rw [if_neg (by omega),if_neg (by omega),if_pos k8] at hlay
  obtain ⟨q1,q2,q3⟩:=ZaT (c:=6) (n:=t.kids.length) ⟨by omega,by omega⟩ ⟨by omega,by omega⟩
  refine core _ _ _ 2 0 0 6 _ (by rw [hw0];simp) q1 q2 q3 (rt.kidsOk (.inr k8)) ?_
  rw [hlay,hw0]
  simp only [Zk,Xb,Int.natCast_zero,Int.add_zero]
 .have k9:t.kind=9:=eq_of_beq k9
  refine ⟨⟨⟨h,hf⟩,⟨hm,hg⟩,h10,d,hr,k9⟩,?_,?_⟩
  .show 4*ZE t+2 < N
   omega
  ·(repeat' (first | exact trivial | exact rfl | apply And.intro))
 .have n0:t.kind≠0:=fun q=> by rw [q] at k0;cases k0
  have n1:t.kind≠1:=fun q=> by rw [q] at k1;cases k1
  have n8:t.kind≠8:=fun q=> by rw [q] at k8;cases k8
  have n9:t.kind≠9:=fun q=> by rw [q] at k9;cases k9
  refine ⟨⟨hpre,?_,?_⟩,?_⟩
  .show 2<=t.kind;omega
  .show t.kind<=7;omega
  ·(repeat' (first | exact trivial | exact rfl | apply And.intro))
theorem Z7o(fw fk:Nat)(ks:List Tree)(a:Arena)(s i:Int){j:Int}(h0:0<=j)(h:j < ks.length):
  JY fw fk (ks.drop j.toNat) a s i=YG (ZL (ks.getD j.toNat Tree.nil).kids (Zk (ks.getD j.toNat Tree.nil).words a s i) s (i+fw)) fun b=> JY fw fk (ks.drop (j+1).toNat) b s (i+((fw:Int)+fk)):=by
 rw [ZfK h0 h Tree.nil]
 obtain ⟨k,w,l⟩:=ks.getD j.toNat Tree.nil
 rw [JY]
 try rfl
set_option maxHeartbeats 2000000 in
theorem b41:ZmD:=by
 intro N a fr t _ hp hN
 obtain ⟨⟨h,hf⟩,⟨hm,hg⟩,h10,d,hr,k9⟩:=hp
 dsimp only at h hf hm hg h10 hr k9
 have hN:4*ZE t+2 < N+1:=hN
 have rt:=ZcU hr
 have hkl:=Z2x t
 have hlen:=rt.len
 have hlay:=Z8P t a fr.segment fr.at_
 rw [if_neg (by omega),if_neg (by omega),if_neg (by omega),if_pos k9] at hlay
 rw [k9] at rt
 have rows:=rt.rows
 have hfr:=ZfF fun t ht=> (rows t ht).2.2
 have hfit:Fit (frW t.kids) (frK t.kids) t.kids:=fun t ht=> Z8S ht
 have hfm:=Z8R t.kids
 have htag:=Z3Y hlen hfr.1 hfr.2
 have fz:t.kids.length=0->frW t.kids=0/\frK t.kids=0:=fun h=> by
  rw [QL.1 h];exact ⟨rfl,rfl⟩
 refine Zno N a fr t _ ?_
 rintro y1 rfl y2 rfl y3 hy3 y4 hy4 y5 hy5 y6 hy6 y7 hy7 y8 rfl y9 hy9 y10 hy10
 simp only [Tree.eta]
 generalize hfw:frW y1.kids=fw at*
 generalize hfk:frK y1.kids=fk at*
 obtain ⟨P,hP⟩:∃ P:Int,P=(y1.kids.length:Int)*((fw:Int)+fk):=⟨_,rfl⟩
 have hP0:0<=P:=by rw [hP];exact QS (by omega) (by omega)
 have hPm:P<=4000000000000:=by
  rw [hP]
  have:=Int.mul_le_mul (show (y1.kids.length:Int)<=1048576 by omega) (show (fw:Int)+fk<=131072 by omega) (by omega) (by decide)
  omega
 rw [<-hP] at hy4 hy5 hy6 hy7 hlay ⊢
 have hen:Zt y3=Z3g y1.kids.length fw fk:=by
  rw [hy3]
  unfold Zt Z3g
  dsimp only
  rw [if_pos rfl,if_pos ⟨⟨by omega,by omega⟩,⟨by omega,by omega⟩,by omega,by omega⟩]
  omega
 rw [hen] at hy10 ⊢
 have pre74':Z7K (y1,()):=hm
 have pre75':Z0E (y3,()):=by rw [hy3];exact .inl rfl
 cases hk:Z0 a (1+P) with
 | false=>
  obtain ⟨e1,e2⟩:=Z90 (s:=y2.segment) (i:=y2.at_) (k:=1) (up:=7+8*P) hk
  rw [e1] at hlay
  have hlay:Zx y1 a y2.segment y2.at_=(a,false):=hlay
  have hy5:y5=false:=hy5.trans hk
  subst hy5
  have hy4:y4=a:=hy4.trans e2
  refine ⟨pre74',by ((unfold InR;omega)),pre75',by ((unfold InR;omega)),by ((unfold InR;omega)),h,fun q=> (by cases q),fun q=> (by cases q),fun q=> (by cases q),fun _=> ?_,fun q=> (by cases q)⟩
  simp only [Z9I,Z6r,hlay,XG,Xm,cond_true,cond_false,hy4]
  (repeat' (first | exact trivial | exact rfl | apply And.intro))
 | true=>
  have hy5:y5=true:=hy5.trans hk
  subst hy5
  have hgs:=Z4q hk
  have hgt:=h.giveT (1+P)
  have hnl:=Z1f h hk
  have hy8:y8=Spot.mk (giveS a (1+P)) (giveT a (1+P)):=by rw [hy7,if_pos hk,if_pos hk]
  obtain ⟨q1,q2,q3⟩:=ZaT (c:=7) (n:=P) ⟨by omega,by omega⟩ ⟨by omega,by omega⟩
  rw [<-hy6] at q1 q2 q3
  rw [q2,q3,hy8] at hy9
  have hu:0<=7+8*P/\7+8*P < 4294967296:=by omega
  have e9:y9=ZW a y2.segment y2.at_ (1+P) 1 (7+8*P):=by rw [hy9,hy4,Z3R hk]
  have hb9:OkAr y9.1:=by rw [e9];exact (Y0 h _ _ _ (by decide) (fun _=> hu)).1
  rw [<-e9] at hlay
  have hb:y9.2=true->Y2 y9.1.segs (giveS a (1+P)) (giveT a (1+P)) (1+P)=true:=fun q=> by
   have:=Z5F (s:=y2.segment) (i:=y2.at_) (k:=1) (up:=7+8*P) hk (by rw [<-e9];exact q)
   rw [<-e9] at this
   exact this
  rw [hy8] at hy10 ⊢
  have pre43':Z3s ((y4,()),y2,Spot.mk (giveS a (1+P)) (giveT a (1+P)),y6,()):=⟨⟨by rw [hy4];exact h.give _,by rw [hy4];exact (JK a _).has hf⟩,hgt,q1,by rw [hy4];exact hgs⟩
  cases hq:y9.2 with
  | false=>
   have hlay:Zx y1 a y2.segment y2.at_=y9:=by rw [hlay];unfold YG;rw [hq];try rfl
   refine ⟨pre74',by ((unfold InR;omega)),pre75',by ((unfold InR;omega)),by ((unfold InR;omega)),h,fun _=> by ((unfold InR;omega)),fun _=> pre43',fun q=> (by cases q),fun _=> ?_,fun q=> (by cases q)⟩
   simp only [Z9I,Z6r,hlay,hq,XG,Xm,cond_true,cond_false]
   (repeat' (first | exact trivial | exact rfl | apply And.intro))
  | true=>
   have hbb:=Zb.1 (hb hq)
   have ey10:y10=ZD y9.1 (giveS a (1+P)) (giveT a (1+P)) (Z3g y1.kids.length fw fk):=hy10
   have ok10:OkAr y10:=by rw [ey10];exact hb9.put _ _ htag
   have g10:Gr y9.1 y10:=by rw [ey10];exact Yd _ _ _ _
   have hlay:Zx y1 a y2.segment y2.at_=JY fw fk y1.kids y10 (giveS a (1+P)) (giveT a (1+P)+1):=by
    rw [hlay,ey10];unfold YG;rw [hq];try rfl
   have has10:=g10.has (hb hq)
   simp only [XG,Xm,cond_true,cond_false]
   refine ⟨pre74',by ((unfold InR;omega)),pre75',by ((unfold InR;omega)),by ((unfold InR;omega)),h,fun _=> by ((unfold InR;omega)),fun _=> pre43',fun _=> ⟨⟨hb9,fun x hx=> ?_⟩,?_⟩,fun q=> (by cases q),fun _=> ?_⟩
   .rw [QD.1 hx]
    exact htag
   .exact Zb.2 ⟨hbb.1,hbb.2.1,hbb.2.2.1,by dsimp only [List.length_singleton];omega,by dsimp only [List.length_singleton];omega⟩
   .refine Zj (ι:=Int × Arena) (fun p=> Z0M a y2 y1 p.1 p.2) (fun p=> (0<=p.1/\p.1<=y1.kids.length)/\(OkAr p.2/\Gr y10 p.2)/\Zx y1 a y2.segment y2.at_=JY fw fk (y1.kids.drop p.1.toNat) p.2 (giveS a (1+P)) (giveT a (1+P)+1+p.1*((fw:Int)+fk))) (fun p=> ((y1.kids.length:Int) - p.1).toNat) (0,y10) rfl ⟨⟨by dsimp only;omega,by dsimp only;omega⟩,⟨ok10,.refl _⟩,by simp [hlay]⟩ ?_
    rintro ⟨i,r⟩ ⟨⟨g1,g2⟩,⟨g3,g4⟩,g5⟩
    dsimp only at g1 g2 g3 g4 g5
    refine ZgS N a y2 y1 i r _ _ ?_
    rintro z1 rfl z2 hz2 z3 rfl z4 hz4 z5 rfl z6 hz6 z7 rfl z8 hz8 z9 hz9 z10 rfl z11 hz11
    rw [hfw,hfk,<-hP] at hz4
    rw [if_pos hk,if_pos hk] at hz4
    rw [hfw,hfk] at hz6
    rw [hfw] at hz9
    simp only [Tree.eta]
    rw [hfw,hfk]
    refine ⟨fun hb1=> ?_,fun hb1=> ?_⟩
    .have hi:i < z1.kids.length:=of_decide_eq_true hb1
     have hmem:=Jy (l:=z1.kids) (i:=i.toNat) (by omega) Tree.nil
     have m1:=Z3D (t:=z1) (i:=i.toNat) (by omega)
     rw [<-hz2] at hmem m1
     obtain ⟨w1,w2,w3,w4⟩:=rows _ hmem
     have hff:=hfit _ hmem
     have hrg:=Jf hg hmem
     obtain ⟨R,hR⟩:∃ R:Int,R=i*((fw:Int)+fk):=⟨_,rfl⟩
     have hR0:0<=R:=by rw [hR];exact QS g1 (by omega)
     have hRP:R+((fw:Int)+fk)<=P:=by
      have h1:(i+1)*((fw:Int)+fk)<=(z1.kids.length:Int)*((fw:Int)+fk):=Xn (by omega) (by omega)
      rw [XL,XX,<-hR,<-hP] at h1
      exact h1
     rw [<-hR] at hz6 g5 ⊢
     have ez7:z7=Spot.mk (giveS a (1+P)) (giveT a (1+P)+1+R):=by rw [hz6,hz4];dsimp only;rw [Int.add_assoc]
     rw [ez7] at hz8 hz9 ⊢
     rw [hz9] at hz11 ⊢
     rw [hz4]
     have hbr:=Zb.1 ((g10.trans g4).has (hb hq))
     have hasr:Y2 r.segs (giveS a (1+P)) (giveT a (1+P)+1+R) z3.words.length=true:=Zb.2 ⟨hbr.1,hbr.2.1,by omega,by omega,by omega⟩
     have ok8:OkAr z8:=by rw [hz8];exact Yz _ _ _ g3 (YK hrg)
     have g8:Gr r z8:=by rw [hz8];exact Jr _ _ _ _
     have hbk:=Zb.1 ((g10.trans (g4.trans g8)).has (hb hq))
     have hask:Y2 z8.segs (giveS a (1+P)) (giveT a (1+P)+1+R+fw) z3.kids.length=true:=Zb.2 ⟨hbk.1,hbk.2.1,by omega,by omega,by omega⟩
     have ok11:=JP z3.kids (giveS a (1+P)) (giveT a (1+P)+1+R+fw) ok8 (fun x hx=> Jf hrg hx) w2
     dsimp only at hz11
     rw [<-hz11] at ok11
     have st:=Z7o fw fk z1.kids r (giveS a (1+P)) (giveT a (1+P)+1+R) g1 hi
     rw [<-hz2] at st
     rw [st,<-hz8,<-hz11] at g5
     refine ⟨⟨g1,hi⟩,by ((unfold InR;omega)),by ((unfold InR;omega)),?_,⟨⟨g3,YK hrg⟩,hasr⟩,fun _=> ?_,fun _=> ⟨⟨ok8,hask⟩,⟨?_,hrg⟩,w2⟩,fun _=> ?_,fun hc=> ?_,fun hc=> ⟨by ((unfold InR;omega)),(i+1,z11.1),rfl,⟨⟨by dsimp only;omega,by dsimp only;omega⟩,⟨ok11.1,g4.trans (g8.trans ok11.2)⟩,?_⟩,by dsimp only;omega⟩⟩
     .show InR (giveT a (1+P)+(1+R))
      ((unfold InR;omega))
     .show InR (giveT a (1+P)+1+R+(fw:Int))
      ((unfold InR;omega))
     .show ZE z3<=1000000
      omega
     .show 4*ZE z3+1 < N
      omega
     .have hc:z11.2=false:=by
       cases q:z11.2 with
       | false=> rfl
       | true=> rw [q] at hc;cases hc
      have e:Zx z1 a y2.segment y2.at_=z11:=by rw [g5];unfold YG;rw [hc];try rfl
      simp only [Z9I,Z6r,e,hc,XG,Xm,cond_true,cond_false]
      (repeat' (first | exact trivial | exact rfl | apply And.intro))
     .have hc:z11.2=true:=by
       cases q:z11.2 with
       | true=> rfl
       | false=> rw [q] at hc;cases hc
      dsimp only
      rw [g5]
      unfold YG
      rw [hc,cond_true,XL,XX,<-hR,K0 (giveT a (1+P)+1)]
    .have e:i=z1.kids.length:=by have:¬i < z1.kids.length:=of_decide_eq_false hb1;omega
     subst e
     have e:Zx z1 a y2.segment y2.at_=(r,true):=by rw [g5,Qe,XN,JY]
     simp only [Z9I,Z6r,e]
     (repeat' (first | exact trivial | exact rfl | apply And.intro))
theorem ZnO:Contract Try.prog cfg 23 Z41/\Contract Try.prog cfg 45 ZdK/\Contract Try.prog cfg 41 ZdL:=Zhr c22 c43 c44 c46 c42 c74 c75 b23 b45 b41
theorem c23:Contract Try.prog cfg 23 Z41:=ZnO.1
noncomputable section
def ZiF(a:Int × Int × Unit):List (C U):=[.nils,ci (max a.1 1),ci (min (max a.2.1 0) 131072),ci 0]
def Z69:Fs U:=fsN ZfQ (fun a=> [J2 a]) ZiF
def ZaS(a:Tree × Int × Int × Unit):Prop:=(ZE a.1<=1000000/\rng a.1)/\InR a.2.1
def Zea(a:Tree × Int × Int × Unit):V U:= .tup [(false,[.po (U:=U) .arena (if (Z4 a.1 a.2.1 a.2.2.1).2=true then some (Z4 a.1 a.2.1 a.2.2.1).1 else none)]),(false,[.bool ((Z4 a.1 a.2.1 a.2.2.1).2)])]
def Z4J:Fs U:=fs Zbr (fun a=> [ZaS a]) Zea
def ZkM:Zc U:=lvl [([0,1],[]),([4],[11])]
abbrev W21(size most:Int)(Q:QT):=AW (Z1 Zff) Try.f21 ZkM [] (L2 [pI 0 size,pI 1 most] []) Q
theorem ZnC(size most:Int)(Q:QT)(h:Q .ret (L2 [(4,.ptr (.loc 11) 0)] [(.loc 11,[.nils,ci (if size < 1 then 1 else size),ci (if (131072:Int) < (if most < 0 then 0 else most) then 131072 else (if most < 0 then 0 else most)),ci 0])])):
  W21 size most Q:=by
 have e_:(W21 size most Q)=(Q .ret (L2 [(4,.ptr (.loc 11) 0)] [(.loc 11,[.nils,ci (if (size:Int) < 1 then 1 else size),ci (if (131072:Int) < (if (most:Int) < 0 then 0 else most) then 131072 else (if (most:Int) < 0 then 0 else most)),ci 0])])):=by kernel_rfl
 exact e_.mpr h
abbrev ZlS(size most:Int):Prop:=AW (Z1 Zff) Try.f21 ZkM [] (Zs (ZfQ.can (size,most,())) []) (Z4F cfg Try.f21.ntmps Try.f21.results.toList [] (ZiF (size,most,())))
theorem Zkc(hb:∀ (size:Int) (most:Int) (_:Unit),J2 (size,most,())->ZlS size most):CT 21 Z69:=
 Z2i (l:=[]) Zf rfl trivial ZkM Try.func21 rfl rfl 2 (fun _=> rfl) (by decide) (fun ⟨size,most,_⟩=> hb size most ())
def ZiS:List (FuncId × Fs U):=[(21,ZfP Z69),(20,Z6a),(22,Jk),(24,Z6d),(23,Z41)]
def lv8:Zc U:=fun i=> match i with
 | 0=> ([(1,[]),(2,[]),(3,[])],[(.loc 3,[])])
 | 1=> ([(1,[]),(2,[]),(3,[]),(18,[])],[(.loc 3,[])])
 | 2=> ([(6,[]),(7,[])],[])
 | 3=> ([(3,[]),(8,[])],[(.loc 3,[]),(.loc 8,[.ar])])
 | 4=> ([(3,[]),(8,[]),(9,[]),(10,[])],[(.loc 3,[]),(.loc 8,[.ar]),(.loc 9,[])])
 | 5=> ([(8,[]),(37,[])],[(.loc 8,[.ar])])
 | 6=> ([(6,[]),(7,[])],[])
 | 7=> ([(6,[.pt .arena]),(7,[])],[])
 | _=> ([],[])
abbrev W8(t:Tree)(size most:Int)(Q:QT):=AW (Z7X ZiS) Try.f8 lv8 [] (L2 [(0,.agg (enc .tree t)),pI 1 size,pI 2 most] []) Q
theorem vc8(t:Tree)(size most:Int)(Q:QT)(h:∀ y_1,y_1=t->∀ y_2,y_2=(Z5 (Arena.mk [] (max size 1) (min (max most 0) 131072) 0) 1)->∀ y_3,y_3=(Z0 (Arena.mk [] (max size 1) (min (max most 0) 131072) 0) 1)->∀ y_4,y_4=(Spot.mk (if Z0 (Arena.mk [] (max size 1) (min (max most 0) 131072) 0) 1 then giveS (Arena.mk [] (max size 1) (min (max most 0) 131072) 0) 1 else 0) (if Z0 (Arena.mk [] (max size 1) (min (max most 0) 131072) 0) 1 then giveT (Arena.mk [] (max size 1) (min (max most 0) 131072) 0) 1 else 0))->∀ y_5,y_5=y_4->∀ y_6,y_6=(Zi y_1)->(Zca (y_1,()))/\(((bif (!(Z6 y_1 64)) then true else (t.kind==10))=true->Q .ret (L2 [(6,.c (.nilp)),pB 7 false] []))/\((bif (!(Z6 y_1 64)) then true else (t.kind==10))=false->(J2 (size,most,()))/\((Z1j (((Arena.mk [] (max size 1) (min (max most 0) 131072) 0),()),1,()))/\(((!(!y_3))=true->Z4Y (y_1,()))/\((!(!y_3))=true->Z4X ((y_2,()),y_5,y_6,()))/\(((bif (!y_3) then true else (!((Zx y_6 y_2 (Spot.segment y_5) (Spot.at_ y_5)).2)))=true->Q .ret (L2 [(6,.c (.nilp)),pB 7 false] []))/\((bif (!y_3) then true else (!((Zx y_6 y_2 (Spot.segment y_5) (Spot.at_ y_5)).2)))=false->Q .ret (L2 [(6,.c (.po (U:=U) .arena (some (bif (!(!y_3)) then ((Zx y_6 y_2 (Spot.segment y_5) (Spot.at_ y_5)).1) else y_2)))),pB 7 true] [])))))))):
  W8 t size most Q:=by
 have e_:(W8 t size most Q)=(let y_1:=(YY t);let y_2:=(Z5 (Arena.mk [] (max size 1) (min (max most 0) 131072) 0) 1);let y_3:=(Z0 (Arena.mk [] (max size 1) (min (max most 0) 131072) 0) 1);let y_4:=(Spot.mk (if Z0 (Arena.mk [] (max size 1) (min (max most 0) 131072) 0) 1 then giveS (Arena.mk [] (max size 1) (min (max most 0) 131072) 0) 1 else 0) (if Z0 (Arena.mk [] (max size 1) (min (max most 0) 131072) 0) 1 then giveT (Arena.mk [] (max size 1) (min (max most 0) 131072) 0) 1 else 0));let y_5:=(Yt y_4);let y_6:=(YY (Zi y_1));let zz1:=(bif (!(Z6 y_1 64)) then true else (t.kind==10));let zz0:=(bif (!y_3) then true else (!((Zx y_6 y_2 (Spot.segment y_5) (Spot.at_ y_5)).2)));((Zca (y_1,()))/\(Tr ((!(!(Z6 y_1 64)))=true))/\(Tr ((!(!(Z6 y_1 64)))=true))/\((!(Z6 y_1 64))=false->(!(!(Z6 y_1 64)))=true)/\((zz1=true->(Q .ret (L2 [(6,.c (.nilp)),pB 7 false] [])))/\(zz1=false->(J2 (size,most,()))/\((Z1j (((Arena.mk [] (max size 1) (min (max most 0) 131072) 0),()),1,()))/\(((!(!y_3))=true->(!(!y_3))=true)/\((!(!y_3))=true->Z4Y (y_1,()))/\((!(!y_3))=true->(!(!y_3))=true)/\((!(!y_3))=true->(!(!y_3))=true)/\((!(!y_3))=true->(!(!y_3))=true)/\((!(!y_3))=true->Z4X ((y_2,()),y_5,y_6,()))/\((!(!y_3))=true->(!(!y_3))=true)/\((!y_3)=false->(!(!y_3))=true)/\((zz0=true->(Q .ret (L2 [(6,.c (.nilp)),pB 7 false] [])))/\(zz0=false->(Q .ret (L2 [(6,.c (.po (U:=U) .arena (some (bif (!(!y_3)) then ((Zx y_6 y_2 (Spot.segment y_5) (Spot.at_ y_5)).1) else y_2)))),pB 7 true] [])))))))))):=by kernel_rfl
 exact e_.mpr (by intro y_1 y_2 y_3 y_4 y_5 y_6;have hh:=h y_1 (ZX _) y_2 rfl y_3 rfl y_4 rfl y_5 (ZH _) y_6 (ZX _);exact ⟨hh.1,id,id,(by generalize (Z6 y_1 64)=b0;revert b0;decide),⟨fun c_1=> (hh.2.1 c_1),fun c_1=> ⟨(hh.2.2 c_1).1,⟨(hh.2.2 c_1).2.1,⟨id,(hh.2.2 c_1).2.2.1,id,id,id,(hh.2.2 c_1).2.2.2.1,id,(by generalize y_3=b0;revert b0;decide),⟨fun c_2=> ((hh.2.2 c_1).2.2.2.2.1 c_2),fun c_2=> ((hh.2.2 c_1).2.2.2.2.2 c_2)⟩⟩⟩⟩⟩⟩)
abbrev ZmH(t:Tree)(size most:Int):Prop:=AW (Z7X ZiS) Try.f8 lv8 [] (Zs (Zbr.can (t,size,most,())) []) (EQ Try.f8 (Zea (t,size,most,())) [])
theorem Zmi(c21:CT 21 Z69)(c20:CT 20 Z6a)(c22:CT 22 Jk)(c24:CT 24 Z6d)(c23:CT 23 Z41)(hb:∀ (t:Tree) (size:Int) (most:Int) (_:Unit),ZaS (t,size,most,())->ZmH t size most):CT 8 Z4J:=
 Z2k (l:=[(21,ZfP Z69),(20,Z6a),(22,Jk),(24,Z6d),(23,Z41)]) Zf rfl (⟨Z3P c21,c20,c22,c24,c23,trivial⟩) lv8 Try.func8 rfl rfl 3 (fun _=> rfl) (by decide) (fun ⟨t,size,most,_⟩=> hb t size most ())
end
theorem Zmg(x y:Int):(if x < y then y else x)=max x y:=by omega
theorem ZnL(x y:Int):(if y < x then y else x)=min x y:=by omega
theorem c21:Contract Try.prog cfg 21 Z69:=by
 refine Zkc ?_
 intro size most _ _
 refine ZnC size most _ ?_
 rw [Zmg,Zmg,ZnL]
 (repeat' (first | exact trivial | exact rfl | apply And.intro))
theorem c8:Contract Try.prog cfg 8 Z4J:=by
 refine Zmi c21 c20 c22 c24 c23 ?_
 intro t size most _ hp
 obtain ⟨⟨hm,hg⟩,hs⟩:=hp
 dsimp only at hm hg hs
 have fin:∀ {r:Arena},Z4 t size most=(r,false)->YN cfg Try.f8.ntmps Try.f8.results.toList (Zea (t,size,most,())) [] .ret (⟨[(6,.c (.nilp)),(7,.c (.bool false))],[],[]⟩:LSt U):=by
  intro r e
  refine YE (r':= .tup [(false,[.po (U:=U) .arena none]),(false,[.bool false])]) ?_ (by (repeat' (first | exact trivial | exact rfl | apply And.intro)))
  simp only [Zea,e]
  try rfl
 have hn:=Z35 t
 refine vc8 t size most _ ?_
 rintro y1 rfl y2 hy2 y3 hy3 y4 hy4 y5 rfl y6 hy6
 have eA:(Arena.mk ([]) (max size 1) (min (max most 0) 131072) 0)=ZO size most:=rfl
 rw [eA] at hy2 hy3 hy4 ⊢
 have ok0:OkAr (ZO size most):=OkAr.new size most (by unfold InR at hs;omega)
 refine ⟨⟨by dsimp only;omega,hg⟩,fun hb=> ?_,fun hb=> ?_⟩
 .have:¬(Z6 y1 64=true/\y1.kind≠10):=by
   rintro ⟨q1,q2⟩
   rw [q1] at hb
   exact q2 (eq_of_beq hb)
  refine fin (r:=ZO size most) ?_
  unfold Z4
  rw [if_neg this]
 .have hr:Z6 y1 64=true:=by
   cases q:Z6 y1 64 with
   | true=> rfl
   | false=> rw [q] at hb;cases hb
  have hk:y1.kind≠10:=by
   intro q
   rw [hr,q] at hb
   cases hb
  have hn10:(Zi y1).kind≠10:=by rw [Z17];exact hk
  have hB:Z4 y1 size most=if Z0 (ZO size most) 1 then Zx (Zi y1) (Z5 (ZO size most) 1) (giveS (ZO size most) 1) (giveT (ZO size most) 1) else (ZO size most,false):=by
   unfold Z4
   rw [if_pos ⟨hr,hk⟩]
  subst hy6
  refine ⟨trivial,ok0,fun _=> (show ZE y1<=1000000000000 by omega),fun q=> ?_,fun q=> ?_,fun q=> ?_⟩
  .have q3:Z0 (ZO size most) 1=true:=by
    rw [<-hy3]
    cases y3 with
    | true=> rfl
    | false=> cases q
   have hy5:y5=Spot.mk (giveS (ZO size most) 1) (giveT (ZO size most) 1):=by rw [hy4,if_pos q3,if_pos q3]
   rw [hy5]
   exact ⟨⟨by rw [hy2];exact ok0.give _,by rw [hy2];exact Z2c q3⟩,⟨by dsimp only;omega,Z3n _ hg⟩,hn10,64,Jw _ _ hr⟩
  .cases q3:Z0 (ZO size most) 1 with
   | false=>
    refine fin (r:=ZO size most) ?_
    rw [hB,q3]
    try rfl
   | true=>
    have hy5:y5=Spot.mk (giveS (ZO size most) 1) (giveT (ZO size most) 1):=by rw [hy4,if_pos q3,if_pos q3]
    rw [hy3,q3,hy5,hy2] at q
    have q:(Zx (Zi y1) (Z5 (ZO size most) 1) (giveS (ZO size most) 1) (giveT (ZO size most) 1)).2=false:=by
     cases q4:(Zx (Zi y1) (Z5 (ZO size most) 1) (giveS (ZO size most) 1) (giveT (ZO size most) 1)).2 with
     | false=> rfl
     | true=> dsimp only at q;rw [q4] at q;cases q
    refine fin (r:=(Zx (Zi y1) (Z5 (ZO size most) 1) (giveS (ZO size most) 1) (giveT (ZO size most) 1)).1) ?_
    rw [hB,if_pos q3,<-q]
  .cases q3:Z0 (ZO size most) 1 with
   | false=> rw [hy3,q3] at q;cases q
   | true=>
    have hy5:y5=Spot.mk (giveS (ZO size most) 1) (giveT (ZO size most) 1):=by rw [hy4,if_pos q3,if_pos q3]
    rw [hy3,q3,hy5,hy2] at q
    have q:(Zx (Zi y1) (Z5 (ZO size most) 1) (giveS (ZO size most) 1) (giveT (ZO size most) 1)).2=true:=by
     cases q4:(Zx (Zi y1) (Z5 (ZO size most) 1) (giveS (ZO size most) 1) (giveT (ZO size most) 1)).2 with
     | true=> rfl
     | false=> dsimp only at q;rw [q4] at q;cases q
    rw [hy3,q3,hy5,hy2]
    refine YE (r':= .tup [(false,[.po (U:=U) .arena (some (Zx (Zi y1) (Z5 (ZO size most) 1) (giveS (ZO size most) 1) (giveT (ZO size most) 1)).1)]),(false,[.bool true])]) ?_ (by (repeat' (first | exact trivial | exact rfl | apply And.intro)))
    simp only [Zea,hB,if_pos q3,q,if_true]
noncomputable section
def ZfY:ArgL (Int × Int × Int × Int × Unit):=(.cons (Zv .i64) (.cons (Zv .i64) (.cons (Zv .u64) (.cons (Zv .u64) .nil))))
def Z7D(a:Int × Int × Int × Int × Unit):Prop:=((0<=a.1/\a.1<=1000000)/\0<=a.2.1/\a.2.1<=1000000)/\(0<=a.2.2.1/\a.2.2.1 < 4)/\0<=a.2.2.2.1/\a.2.2.2.1 < 4294967296
def Zil(a:Int × Int × Int × Int × Unit):V U:= .c (.int .u64 (Z0b a.1 a.2.1 a.2.2.1 a.2.2.2.1))
def Z5T:Fs U:=fs ZfY (fun a=> [Z7D a]) Zil
def Z9h:ArgM ((Arena × Bool × Unit) × Int × Unit):=(.obj 0 (.cons cAr (.cons Z83 .nil)) (.cons (Zv .i64) .nil))
def Z0h(a:(Arena × Bool × Unit) × Int × Unit):Prop:=OkAr a.1.1
def ZbS(a:(Arena × Bool × Unit) × Int × Unit):V U:= .tup [(false,[ci (if Z0 a.1.1 a.2.1 then giveS a.1.1 a.2.1 else -1)]),(false,[ci (if Z0 a.1.1 a.2.1 then giveT a.1.1 a.2.1 else -1)])]
def Z8r(a:(Arena × Bool × Unit) × Int × Unit):List (List (C U)):=[[.mref (.A),.bool (a.1.2.1 && Z0 a.1.1 a.2.1)]]
def Ze7(a:(Arena × Bool × Unit) × Int × Unit):List (Tok × LC U):=[(.A,LC.mk (U:=U) .arena [Z5 a.1.1 a.2.1] 0)]
def Z0s:Fs U:=Ys Z9h (fun a=> [Z0h a]) ZbS Z8r Ze7
def Z99:ArgM ((Arena × Bool × Unit) × Int × Int × Int × Unit):=(.obj 0 (.cons cAr (.cons Z83 .nil)) (.cons (Zv .i64) (.cons (Zv .i64) (.cons (Zv .u64) .nil))))
def Ja(a:(Arena × Bool × Unit) × Int × Int × Int × Unit):Prop:=(OkAr a.1.1/\0<=a.2.2.2.1/\a.2.2.2.1 < 18446744073709551616)/\(a.1.2.1=true->Y2 a.1.1.segs a.2.1 a.2.2.1 1=true)
def Ziw(a:(Arena × Bool × Unit) × Int × Int × Int × Unit):V U:= .tup []
def ZdV(a:(Arena × Bool × Unit) × Int × Int × Int × Unit):List (List (C U)):=[[.mref (.A),.bool a.1.2.1]]
def Z8v(a:(Arena × Bool × Unit) × Int × Int × Int × Unit):List (Tok × LC U):=[(.A,LC.mk (U:=U) .arena [bif a.1.2.1 then ZD a.1.1 a.2.1 a.2.2.1 a.2.2.2.1 else a.1.1] 0)]
def Z0r:Fs U:=Ys Z99 (fun a=> [Ja a]) Ziw ZdV Z8v
def Z9a:ArgM ((Arena × Bool × Unit) × Int × Int × List Int × Unit):=(.obj 0 (.cons cAr (.cons Z83 .nil)) (.cons (Zv .i64) (.cons (Zv .i64) (.cons (aSl .u64) .nil))))
def Z4U(a:(Arena × Bool × Unit) × Int × Int × List Int × Unit):Prop:=(OkAr a.1.1/\okW a.2.2.2.1)/\(a.1.2.1=true->Y2 a.1.1.segs a.2.1 a.2.2.1 a.2.2.2.1.length=true)/\(-1<=a.2.2.1/\a.2.2.1<=1000000)/\a.2.2.2.1.length<=1000000
def Zix(a:(Arena × Bool × Unit) × Int × Int × List Int × Unit):V U:= .tup []
def ZdW(a:(Arena × Bool × Unit) × Int × Int × List Int × Unit):List (List (C U)):=[[.mref (.A),.bool a.1.2.1]]
def Ze5(a:(Arena × Bool × Unit) × Int × Int × List Int × Unit):List (Tok × LC U):=[(.A,LC.mk (U:=U) .arena [bif a.1.2.1 then Zk a.2.2.2.1 a.1.1 a.2.1 a.2.2.1 else a.1.1] 0)]
def Z8i:Fs U:=Ys Z9a (fun a=> [Z4U a]) Zix ZdW Ze5
def Z9b:ArgM ((Arena × Bool × Unit) × Int × Int × Int × Int × Int × Int × Unit):=(.obj 0 (.cons cAr (.cons Z83 .nil)) (.cons (Zv .i64) (.cons (Zv .i64) (.cons (Zv .i64) (.cons (Zv .i64) (.cons (Zv .u64) (.cons (Zv .u64) .nil)))))))
def Z1O(a:(Arena × Bool × Unit) × Int × Int × Int × Int × Int × Int × Unit):Prop:=OkAr a.1.1/\(a.1.2.1=true->((0<=a.2.2.2.2.2.1/\a.2.2.2.2.2.1 < 4)/\0<=a.2.2.2.2.2.2.1/\a.2.2.2.2.2.2.1 < 4294967296)/\Y2 a.1.1.segs a.2.1 a.2.2.1 1=true/\(0<=a.2.2.2.1/\a.2.2.2.1 < a.1.1.segs.length)/\0<=a.2.2.2.2.1/\a.2.2.2.2.1<=131072)
def Zec(a:(Arena × Bool × Unit) × Int × Int × Int × Int × Int × Int × Unit):V U:= .tup []
def Z6n(a:(Arena × Bool × Unit) × Int × Int × Int × Int × Int × Int × Unit):List (List (C U)):=[[.mref (.A),.bool (a.1.2.1 && (Zu a.1.1 a.2.1 a.2.2.1 a.2.2.2.1 a.2.2.2.2.1 a.2.2.2.2.2.1 a.2.2.2.2.2.2.1).2)]]
def Z6p(a:(Arena × Bool × Unit) × Int × Int × Int × Int × Int × Int × Unit):List (Tok × LC U):=[(.A,LC.mk (U:=U) .arena [bif a.1.2.1 then (Zu a.1.1 a.2.1 a.2.2.1 a.2.2.2.1 a.2.2.2.2.1 a.2.2.2.2.2.1 a.2.2.2.2.2.2.1).1 else a.1.1] 0)]
def Z8j:Fs U:=Ys Z9b (fun a=> [Z1O a]) Zec Z6n Z6p
def Zkr:Zc U:=lvl [([0,1,2,3],[]),([2,3,9],[]),([2,3,9,15],[]),([2,3,9],[]),([8],[])]
abbrev W83(fr to kind upper:Int)(Q:QT):=AW (Z1 Zff) Try.f83 Zkr [] (L2 [pI 0 fr,pI 1 to,(2,.c (.int .u64 kind)),(3,.c (.int .u64 upper))] []) Q
theorem ZmV(fr to kind upper:Int)(Q:QT)(h:(InR (to - fr))/\(InR (((to - fr):Int) - 1))/\(((decide (((((to - fr):Int) - 1):Int) < 0))=true->(InR (((((to - fr):Int) - 1):Int)+1073741824))/\((InR ((4:Int)*(((((to - fr):Int) - 1):Int)+1073741824)))/\(Q .ret (L2 [(8,.c (.int .u64 (IntKind.wrap .u64 (((IntKind.wrap .u64 (((IntKind.wrap .u64 ((4:Int)*(((((to - fr):Int) - 1):Int)+1073741824))):Int)+kind)):Int)+(IntKind.wrap .u64 (upper*4294967296))))))] []))))/\((decide (((((to - fr):Int) - 1):Int) < 0))=false->(InR ((4:Int)*(((to - fr):Int) - 1)))/\(Q .ret (L2 [(8,.c (.int .u64 (IntKind.wrap .u64 (((IntKind.wrap .u64 (((IntKind.wrap .u64 ((4:Int)*(((to - fr):Int) - 1))):Int)+kind)):Int)+(IntKind.wrap .u64 (upper*4294967296))))))] []))))):
  W83 fr to kind upper Q:=by
 have e_:(W83 fr to kind upper Q)=(let zz0:=(decide ((((((to:Int) - fr):Int) - 1):Int) < 0));((InR ((to:Int) - fr))/\(InR ((((to:Int) - fr):Int) - 1))/\((zz0=true->(InR ((((((to:Int) - fr):Int) - 1):Int)+1073741824))/\((InR ((4:Int)*((((((to:Int) - fr):Int) - 1):Int)+1073741824)))/\(Q .ret (L2 [(8,.c (.int .u64 (IntKind.wrap .u64 (((IntKind.wrap .u64 (((IntKind.wrap .u64 ((4:Int)*((((((to:Int) - fr):Int) - 1):Int)+1073741824))):Int)+kind)):Int)+(IntKind.wrap .u64 ((upper:Int)*4294967296))))))] []))))/\(zz0=false->(InR ((4:Int)*((((to:Int) - fr):Int) - 1)))/\(Q .ret (L2 [(8,.c (.int .u64 (IntKind.wrap .u64 (((IntKind.wrap .u64 (((IntKind.wrap .u64 ((4:Int)*((((to:Int) - fr):Int) - 1))):Int)+kind)):Int)+(IntKind.wrap .u64 ((upper:Int)*4294967296))))))] [])))))):=by kernel_rfl
 exact e_.mpr ⟨h.1,h.2.1,⟨fun c_1=> ⟨(h.2.2.1 c_1).1,⟨(h.2.2.1 c_1).2.1,(h.2.2.1 c_1).2.2⟩⟩,fun c_1=> ⟨(h.2.2.2 c_1).1,(h.2.2.2 c_1).2⟩⟩⟩
abbrev Zlb(fr to kind upper:Int):Prop:=AW (Z1 Zff) Try.f83 Zkr [] (Zs (ZfY.can (fr,to,kind,upper,())) []) (EQ Try.f83 (Zil (fr,to,kind,upper,())) [])
theorem ZjA(hb:∀ (fr:Int) (to:Int) (kind:Int) (upper:Int) (_:Unit),Z7D (fr,to,kind,upper,())->Zlb fr to kind upper):CT 83 Z5T:=
 Z3 (l:=[]) Zf rfl trivial Zkr Try.func83 rfl rfl 4 (fun _=> rfl) (by decide) (fun ⟨fr,to,kind,upper,_⟩=> hb fr to kind upper ())
def Zfw:List (FuncId × Fs U):=[(48,Z61)]
def ZkJ:Zc U:=fun i=> match i with
 | 0=> ([(0,[]),(1,[])],[(.x 0,[.ar])])
 | 1=> ([(0,[]),(6,[]),(7,[])],[(.x 0,[.ar])])
 | 2=> ([(0,[]),(6,[]),(7,[]),(18,[])],[(.x 0,[.ar])])
 | 3=> ([(6,[]),(7,[])],[(.x 0,[.ar])])
 | 4=> ([(4,[]),(5,[])],[(.x 0,[.ar])])
 | _=> ([],[])
abbrev W27(a:Arena)(room:Bool)(n:Int)(Q:QT):=AW (Z1 Zfw) Try.f27 ZkJ [] (⟨[(0,.ptr (.x 0) 0),pI 1 n],[(.x 0,[.mref (.A),.bool room])],[(.A,LC.mk (U:=U) .arena ([a]) 0)]⟩:LSt U) Q
theorem Znw(a:Arena)(room:Bool)(n:Int)(Q:QT)(h:(Zc6 (a,n,()))/\(((decide (((if Z0 a n then giveS a n else -1):Int) < 0))=true->Q .ret (⟨[pI 4 (if Z0 a n then giveS a n else -1),pI 5 (if Z0 a n then giveT a n else -1)],[(.x 0,[.mref (.A),.bool false])],[(.A,LC.mk (U:=U) .arena ([Z5 a n]) 0)]⟩:LSt U))/\((decide (((if Z0 a n then giveS a n else -1):Int) < 0))=false->Q .ret (⟨[pI 4 (if Z0 a n then giveS a n else -1),pI 5 (if Z0 a n then giveT a n else -1)],[(.x 0,[.mref (.A),.bool room])],[(.A,LC.mk (U:=U) .arena ([Z5 a n]) 0)]⟩:LSt U)))):
  W27 a room n Q:=by
 have e_:(W27 a room n Q)=((Zc6 (a,n,()))/\(((decide (((if Z0 a n then giveS a n else -1):Int) < 0))=true->(Q .ret (⟨[pI 4 (if Z0 a n then giveS a n else -1),pI 5 (if Z0 a n then giveT a n else -1)],[(.x 0,[.mref (.A),.bool false])],[(.A,LC.mk (U:=U) .arena ([Z5 a n]) 0)]⟩:LSt U)))/\((decide (((if Z0 a n then giveS a n else -1):Int) < 0))=false->(Q .ret (⟨[pI 4 (if Z0 a n then giveS a n else -1),pI 5 (if Z0 a n then giveT a n else -1)],[(.x 0,[.mref (.A),.bool room])],[(.A,LC.mk (U:=U) .arena ([Z5 a n]) 0)]⟩:LSt U))))):=by kernel_rfl
 exact e_.mpr ⟨h.1,⟨fun c_2=> (h.2.1 c_2),fun c_2=> (h.2.2 c_2)⟩⟩
abbrev ZlM(a:Arena)(room:Bool)(n:Int):Prop:=AW (Z1 Zfw) Try.f27 ZkJ [] (ZI (Z9h.can ((a,room,()),n,())) (Z9h.canX ((a,room,()),n,())) (Z9h.canL ((a,room,()),n,()))) (ZK cfg Try.f27.ntmps Try.f27.results.toList (ZbS ((a,room,()),n,())) (Z8r ((a,room,()),n,())) (Ze7 ((a,room,()),n,())))
theorem Zk7(c48:CT 48 Z61)(hb:∀ (a:Arena) (room:Bool) (n:Int) (_:Unit),Z0h ((a,room,()),n,())->ZlM a room n):CT 27 Z0s:=
 Ze (l:=[(48,Z61)]) Zf rfl (⟨c48,trivial⟩) ZkJ Try.func27 rfl rfl 2 (fun _=> rfl) (by decide) (fun ⟨⟨a,room,_⟩,n,_⟩=> hb a room n ())
def ZkC:Zc U:=fun i=> match i with
 | 0=> ([(0,[]),(1,[]),(2,[]),(3,[]),(11,[])],[(.x 0,[.ar])])
 | 1=> ([],[(.x 0,[.ar])])
 | _=> ([],[])
abbrev W52(a:Arena)(room:Bool)(s at_ w:Int)(Q:QT):=AW (Z1 Zff) Try.f52 ZkC [] (⟨[(0,.ptr (.x 0) 0),pI 1 s,pI 2 at_,(3,.c (.int .u64 w))],[(.x 0,[.mref (.A),.bool room])],[(.A,LC.mk (U:=U) .arena ([a]) 0)]⟩:LSt U) Q
theorem Znd(a:Arena)(room:Bool)(s at_ w:Int)(Q:QT)(h:(room=true->((0:Int)<=s/\s < ((Arena.segs a).length:Int))/\((0:Int)<=at_/\at_ < ((List.getD (Arena.segs a) s.toNat []).length:Int))/\(Q .normal (⟨[],[(.x 0,[.mref (.A),.bool room])],[(.A,LC.mk (U:=U) .arena ([Arena.mk (List.set (Arena.segs a) s.toNat (List.set (List.getD (Arena.segs a) s.toNat []) at_.toNat w)) (Arena.size a) (Arena.most a) (Arena.used a)]) 0)]⟩:LSt U)))/\(room=false->Q .normal (⟨[(0,.ptr (.x 0) 0),pI 1 s,pI 2 at_,(3,.c (.int .u64 w)),pB 11 room],[(.x 0,[.mref (.A),.bool room])],[(.A,LC.mk (U:=U) .arena ([a]) 0)]⟩:LSt U))):
  W52 a room s at_ w Q:=by
 have e_:(W52 a room s at_ w Q)=(type_of% h):=by kernel_rfl
 exact e_.mpr ⟨fun c_3=> ⟨(h.1 c_3).1,(h.1 c_3).2.1,(h.1 c_3).2.2⟩,fun c_3=> (h.2 c_3)⟩
abbrev Zlt(a:Arena)(room:Bool)(s at_ w:Int):Prop:=AW (Z1 Zff) Try.f52 ZkC [] (ZI (Z99.can ((a,room,()),s,at_,w,())) (Z99.canX ((a,room,()),s,at_,w,())) (Z99.canL ((a,room,()),s,at_,w,()))) (ZK cfg Try.f52.ntmps Try.f52.results.toList (Ziw ((a,room,()),s,at_,w,())) (ZdV ((a,room,()),s,at_,w,())) (Z8v ((a,room,()),s,at_,w,())))
theorem ZjS(hb:∀ (a:Arena) (room:Bool) (s:Int) (at_:Int) (w:Int) (_:Unit),Ja ((a,room,()),s,at_,w,())->Zlt a room s at_ w):CT 52 Z0r:=
 Ze (l:=[]) Zf rfl trivial ZkC Try.func52 rfl rfl 4 (fun _=> rfl) (by decide) (fun ⟨⟨a,room,_⟩,s,at_,w,_⟩=> hb a room s at_ w ())
def Z8Q:List (FuncId × Fs U):=[(52,Z0r)]
def ZeR:Zc U:=fun i=> match i with
 | 0=> ([(0,[]),(1,[]),(2,[]),(3,[]),(8,[])],[(.x 0,[.ar])])
 | 1=> ([(0,[]),(1,[]),(2,[]),(3,[]),(8,[]),(12,[])],[(.x 0,[.ar])])
 | 2=> ([(0,[]),(1,[]),(2,[]),(3,[]),(8,[])],[(.x 0,[.ar])])
 | 3=> ([(0,[]),(1,[]),(2,[]),(3,[]),(8,[])],[(.x 0,[.ar])])
 | _=> ([],[])
def Z3G(a:Arena)(room:Bool)(s at_:Int)(l:List Int)(x8:Int)(rA:Arena):LSt U:=(⟨[(0,.ptr (.x 0) 0),pI 1 s,pI 2 at_,(3,.c (sU .u64 l .unk)),pI 8 x8],[(.x 0,[.mref (.A),.bool room])],[(.A,LC.mk (U:=U) .arena ([rA]) 0)]⟩:LSt U)
abbrev W50(a:Arena)(room:Bool)(s at_:Int)(l:List Int)(Q:QT):=AW (Z1 Z8Q) Try.f50 ZeR [] (⟨[(0,.ptr (.x 0) 0),pI 1 s,pI 2 at_,(3,.c (sU .u64 l .unk))],[(.x 0,[.mref (.A),.bool room])],[(.A,LC.mk (U:=U) .arena ([a]) 0)]⟩:LSt U) Q
theorem Znf(a:Arena)(room:Bool)(s at_:Int)(l:List Int)(Q:QT)(h:Zo (AW (Z1 Z8Q) Try.f50 ZeR [1,0,0]) (Z3G a room s at_ l 0 a) (xB 0 Q)):
  W50 a room s at_ l Q:=by
 have e_:(W50 a room s at_ l Q)=(type_of% h):=by kernel_rfl
 exact e_.mpr h
abbrev Zgt(a:Arena)(room:Bool)(s at_:Int)(l:List Int)(x8:Int)(rA:Arena)(N0:NT)(Q:QT):=AW (Z1 Z8Q) Try.f50 ZeR [1,0,0] (Z3G a room s at_ l x8 rA) (xT N0 (xB 0 Q))
theorem ZgN(a:Arena)(room:Bool)(s at_:Int)(l:List Int)(x8:Int)(rA:Arena)(N0:NT)(Q:QT)(h:((decide (x8 < (l.length:Int)))=true->(InR (at_+x8))/\((0:Int)<=x8/\x8 < (l.length:Int))/\(Ja ((rA,room,()),s,(at_+x8),(l.getD x8.toNat (0:Int)),()))/\((InR (x8+1))/\(N0 (Z3G a room s at_ l (x8+1) (bif room then ZD rA s (at_+x8) (l.getD x8.toNat (0:Int)) else rA)))))/\((decide (x8 < (l.length:Int)))=false->Q .normal (⟨[(0,.ptr (.x 0) 0),pI 1 s,pI 2 at_,(3,.c (sU .u64 l .unk)),pI 8 x8,pB 12 (decide (x8 < (l.length:Int)))],[(.x 0,[.mref (.A),.bool room])],[(.A,LC.mk (U:=U) .arena ([rA]) 0)]⟩:LSt U))):
  Zgt a room s at_ l x8 rA N0 Q:=by
 have e_:(Zgt a room s at_ l x8 rA N0 Q)=(type_of% h):=by kernel_rfl
 exact e_.mpr ⟨fun c_4=> ⟨(h.1 c_4).1,(h.1 c_4).2.1,(h.1 c_4).2.2.1,⟨(h.1 c_4).2.2.2.1,(h.1 c_4).2.2.2.2⟩⟩,fun c_4=> (h.2 c_4)⟩
abbrev Zlv(a:Arena)(room:Bool)(s at_:Int)(l:List Int):Prop:=AW (Z1 Z8Q) Try.f50 ZeR [] (ZI (Z9a.can ((a,room,()),s,at_,l,())) (Z9a.canX ((a,room,()),s,at_,l,())) (Z9a.canL ((a,room,()),s,at_,l,()))) (ZK cfg Try.f50.ntmps Try.f50.results.toList (Zix ((a,room,()),s,at_,l,())) (ZdW ((a,room,()),s,at_,l,())) (Ze5 ((a,room,()),s,at_,l,())))
theorem ZjT(c52:CT 52 Z0r)(hb:∀ (a:Arena) (room:Bool) (s:Int) (at_:Int) (l:List Int) (_:Unit),Z4U ((a,room,()),s,at_,l,())->Zlv a room s at_ l):CT 50 Z8i:=
 Ze (l:=[(52,Z0r)]) Zf rfl (⟨c52,trivial⟩) ZeR Try.func50 rfl rfl 4 (fun _=> rfl) (by decide) (fun ⟨⟨a,room,_⟩,s,at_,l,_⟩=> hb a room s at_ l ())
def Zfq:List (FuncId × Fs U):=[(52,Z0r),(83,Z5T),(84,Z5S),(27,Z0s)]
def ZkD:Zc U:=fun i=> match i with
 | 0=> ([(0,[]),(1,[]),(2,[]),(3,[]),(4,[]),(5,[]),(6,[]),(21,[])],[(.x 0,[.ar])])
 | 1=> ([(0,[]),(1,[]),(2,[]),(3,[]),(4,[]),(5,[]),(6,[]),(27,[])],[(.x 0,[.ar])])
 | 2=> ([],[(.x 0,[.ar])])
 | 3=> ([(0,[]),(1,[]),(2,[]),(3,[]),(4,[]),(5,[]),(6,[]),(34,[])],[(.x 0,[.ar])])
 | 4=> ([],[(.x 0,[.ar])])
 | 5=> ([(0,[]),(1,[]),(2,[]),(3,[]),(4,[]),(5,[]),(6,[]),(14,[])],[(.x 0,[.ar])])
 | 6=> ([(0,[]),(1,[]),(2,[]),(3,[]),(4,[]),(5,[]),(6,[]),(14,[]),(51,[])],[(.x 0,[.ar])])
 | 7=> ([(0,[]),(3,[]),(4,[]),(5,[]),(6,[]),(14,[])],[(.x 0,[.ar])])
 | 8=> ([],[(.x 0,[.ar])])
 | 9=> ([(0,[]),(1,[]),(2,[]),(3,[]),(4,[]),(5,[]),(6,[]),(15,[]),(16,[])],[(.x 0,[.ar])])
 | 10=> ([(0,[]),(1,[]),(2,[]),(3,[]),(4,[]),(5,[]),(6,[]),(15,[]),(16,[]),(82,[])],[(.x 0,[.ar])])
 | 11=> ([(0,[]),(3,[]),(4,[]),(5,[]),(6,[]),(15,[]),(16,[])],[(.x 0,[.ar])])
 | 12=> ([(0,[]),(5,[]),(6,[]),(15,[]),(16,[])],[(.x 0,[.ar])])
 | 13=> ([],[(.x 0,[.ar])])
 | _=> ([],[])
abbrev W49(a:Arena)(room:Bool)(s at_ seg to kind up:Int)(Q:QT):=AW (Z1 Zfq) Try.f49 ZkD [] (⟨[(0,.ptr (.x 0) 0),pI 1 s,pI 2 at_,pI 3 seg,pI 4 to,(5,.c (.int .u64 kind)),(6,.c (.int .u64 up))],[(.x 0,[.mref (.A),.bool room])],[(.A,LC.mk (U:=U) .arena ([a]) 0)]⟩:LSt U) Q
theorem Zng(a:Arena)(room:Bool)(s at_ seg to kind up:Int)(Q:QT)(h:∀ y_1,y_1=(IntKind.wrap .u64 ((4294967296:Int)*(IntKind.wrap .u64 seg)))->∀ y_2,y_2=(IntKind.wrap .u64 (kind+(IntKind.wrap .u64 (up*4294967296))))->∀ y_3,y_3=(IntKind.wrap .u64 (if Z0 (inA a seg 1) 2 then giveS (inA a seg 1) 2 else -1))->∀ y_4,y_4=(IntKind.wrap .u64 (if Z0 (inA a seg 1) 2 then giveT (inA a seg 1) 2 else -1))->∀ y_5,y_5=(Z0b (if Yj a seg 1 then ((Za a.segs seg).length:Int) else -1) to kind up)->∀ y_6,y_6=(IntKind.wrap .u64 (if Yj a seg 1 then ((Za a.segs seg).length:Int) else -1))->∀ y_7,y_7=(IntKind.wrap .u64 ((2:Int)+(IntKind.wrap .u64 ((8:Int)*(IntKind.wrap .u64 to)))))->∀ y_8,y_8=(IntKind.wrap .u64 ((2:Int)+(IntKind.wrap .u64 ((8:Int)*y_6))))->∀ y_9,y_9=(IntKind.wrap .u64 ((6:Int)+(IntKind.wrap .u64 ((8:Int)*y_4))))->∀ y_10,y_10=(IntKind.wrap .u64 (y_9+(IntKind.wrap .u64 ((4294967296:Int)*y_3))))->((!room)=true->Q .ret (⟨[(0,.ptr (.x 0) 0),pI 1 s,pI 2 at_,pI 3 seg,pI 4 to,(5,.c (.int .u64 kind)),(6,.c (.int .u64 up)),pB 21 (!room)],[(.x 0,[.mref (.A),.bool room])],[(.A,LC.mk (U:=U) .arena ([a]) 0)]⟩:LSt U))/\((!room)=false->((bif (kind==0) then (up==0) else false)=true->(Ja ((a,room,()),s,at_,4294967292,()))/\(Q .ret (⟨[],[(.x 0,[.mref (.A),.bool room])],[(.A,LC.mk (U:=U) .arena ([bif room then ZD a s at_ 4294967292 else a]) 0)]⟩:LSt U)))/\((bif (kind==0) then (up==0) else false)=false->((s==seg)=true->(Z7D (at_,to,kind,up,()))/\(Ja ((a,room,()),s,at_,(Z0b at_ to kind up),()))/\(Q .ret (⟨[],[(.x 0,[.mref (.A),.bool room])],[(.A,LC.mk (U:=U) .arena ([bif room then ZD a s at_ (Z0b at_ to kind up) else a]) 0)]⟩:LSt U)))/\((s==seg)=false->(Zc0 (a,seg,1,()))/\(((decide ((0:Int)<=(if Yj a seg 1 then ((Za a.segs seg).length:Int) else -1)))=true->(Ja (((inA a seg 1),room,()),s,at_,(IntKind.wrap .u64 (y_8+y_1)),()))/\((Z7D ((if Yj a seg 1 then ((Za a.segs seg).length:Int) else -1),to,kind,up,()))/\(Ja (((bif room then ZD (inA a seg 1) s at_ (IntKind.wrap .u64 (y_8+y_1)) else (inA a seg 1)),room,()),seg,(if Yj a seg 1 then ((Za a.segs seg).length:Int) else -1),y_5,()))/\(Q .ret (⟨[],[(.x 0,[.mref (.A),.bool room])],[(.A,LC.mk (U:=U) .arena ([bif room then ZD (bif room then ZD (inA a seg 1) s at_ (IntKind.wrap .u64 (y_8+y_1)) else (inA a seg 1)) seg (if Yj a seg 1 then ((Za a.segs seg).length:Int) else -1) y_5 else (bif room then ZD (inA a seg 1) s at_ (IntKind.wrap .u64 (y_8+y_1)) else (inA a seg 1))]) 0)]⟩:LSt U))))/\((decide ((0:Int)<=(if Yj a seg 1 then ((Za a.segs seg).length:Int) else -1)))=false->(Z0h (((inA a seg 1),room,()),2,()))/\(((!(room && Z0 (inA a seg 1) 2))=true->Q .ret (⟨[(0,.ptr (.x 0) 0),pI 1 s,pI 2 at_,pI 3 seg,pI 4 to,(5,.c (.int .u64 kind)),(6,.c (.int .u64 up)),pI 15 (if Z0 (inA a seg 1) 2 then giveS (inA a seg 1) 2 else -1),pI 16 (if Z0 (inA a seg 1) 2 then giveT (inA a seg 1) 2 else -1),pB 82 (!(room && Z0 (inA a seg 1) 2))],[(.x 0,[.mref (.A),.bool (room && Z0 (inA a seg 1) 2)])],[(.A,LC.mk (U:=U) .arena ([Z5 (inA a seg 1) 2]) 0)]⟩:LSt U))/\((!(room && Z0 (inA a seg 1) 2))=false->(Ja (((Z5 (inA a seg 1) 2),(room && Z0 (inA a seg 1) 2),()),s,at_,y_10,()))/\((Ja (((bif (room && Z0 (inA a seg 1) 2) then ZD (Z5 (inA a seg 1) 2) s at_ y_10 else (Z5 (inA a seg 1) 2)),(room && Z0 (inA a seg 1) 2),()),(if Z0 (inA a seg 1) 2 then giveS (inA a seg 1) 2 else -1),(if Z0 (inA a seg 1) 2 then giveT (inA a seg 1) 2 else -1),(IntKind.wrap .u64 (y_7+y_1)),()))/\((InR (((if Z0 (inA a seg 1) 2 then giveT (inA a seg 1) 2 else -1):Int)+1))/\(Ja (((bif (room && Z0 (inA a seg 1) 2) then ZD (bif (room && Z0 (inA a seg 1) 2) then ZD (Z5 (inA a seg 1) 2) s at_ y_10 else (Z5 (inA a seg 1) 2)) (if Z0 (inA a seg 1) 2 then giveS (inA a seg 1) 2 else -1) (if Z0 (inA a seg 1) 2 then giveT (inA a seg 1) 2 else -1) (IntKind.wrap .u64 (y_7+y_1)) else (bif (room && Z0 (inA a seg 1) 2) then ZD (Z5 (inA a seg 1) 2) s at_ y_10 else (Z5 (inA a seg 1) 2))),(room && Z0 (inA a seg 1) 2),()),(if Z0 (inA a seg 1) 2 then giveS (inA a seg 1) 2 else -1),(((if Z0 (inA a seg 1) 2 then giveT (inA a seg 1) 2 else -1):Int)+1),y_2,()))/\(Q .normal (⟨[],[(.x 0,[.mref (.A),.bool (room && Z0 (inA a seg 1) 2)])],[(.A,LC.mk (U:=U) .arena ([bif (room && Z0 (inA a seg 1) 2) then ZD (bif (room && Z0 (inA a seg 1) 2) then ZD (bif (room && Z0 (inA a seg 1) 2) then ZD (Z5 (inA a seg 1) 2) s at_ y_10 else (Z5 (inA a seg 1) 2)) (if Z0 (inA a seg 1) 2 then giveS (inA a seg 1) 2 else -1) (if Z0 (inA a seg 1) 2 then giveT (inA a seg 1) 2 else -1) (IntKind.wrap .u64 (y_7+y_1)) else (bif (room && Z0 (inA a seg 1) 2) then ZD (Z5 (inA a seg 1) 2) s at_ y_10 else (Z5 (inA a seg 1) 2))) (if Z0 (inA a seg 1) 2 then giveS (inA a seg 1) 2 else -1) (((if Z0 (inA a seg 1) 2 then giveT (inA a seg 1) 2 else -1):Int)+1) y_2 else (bif (room && Z0 (inA a seg 1) 2) then ZD (bif (room && Z0 (inA a seg 1) 2) then ZD (Z5 (inA a seg 1) 2) s at_ y_10 else (Z5 (inA a seg 1) 2)) (if Z0 (inA a seg 1) 2 then giveS (inA a seg 1) 2 else -1) (if Z0 (inA a seg 1) 2 then giveT (inA a seg 1) 2 else -1) (IntKind.wrap .u64 (y_7+y_1)) else (bif (room && Z0 (inA a seg 1) 2) then ZD (Z5 (inA a seg 1) 2) s at_ y_10 else (Z5 (inA a seg 1) 2)))]) 0)]⟩:LSt U)))))))))))):
  W49 a room s at_ seg to kind up Q:=by
 have e_:(W49 a room s at_ seg to kind up Q)=(let y_1:=(IntKind.wrap .u64 ((4294967296:Int)*(IntKind.wrap .u64 seg)));let y_2:=(IntKind.wrap .u64 ((kind:Int)+(IntKind.wrap .u64 ((up:Int)*4294967296))));let y_3:=(IntKind.wrap .u64 (if Z0 (inA a seg 1) 2 then giveS (inA a seg 1) 2 else -1));let y_4:=(IntKind.wrap .u64 (if Z0 (inA a seg 1) 2 then giveT (inA a seg 1) 2 else -1));let y_5:=(Z0b (if Yj a seg 1 then ((Za a.segs seg).length:Int) else -1) to kind up);let y_6:=(IntKind.wrap .u64 (if Yj a seg 1 then ((Za a.segs seg).length:Int) else -1));let y_7:=(IntKind.wrap .u64 ((2:Int)+(IntKind.wrap .u64 ((8:Int)*(IntKind.wrap .u64 to)))));let y_8:=(IntKind.wrap .u64 ((2:Int)+(IntKind.wrap .u64 ((8:Int)*y_6))));let y_9:=(IntKind.wrap .u64 ((6:Int)+(IntKind.wrap .u64 ((8:Int)*y_4))));let y_10:=(IntKind.wrap .u64 ((y_9:Int)+(IntKind.wrap .u64 ((4294967296:Int)*y_3))));let zz5:=(bif ((kind:Int)==0) then ((up:Int)==0) else false);let zz4:=(!(room && Z0 (inA a seg 1) 2));let zz3:=(decide ((0:Int)<=(if Yj a seg 1 then ((Za a.segs seg).length:Int) else -1)));let zz2:=(bif room then ZD (inA a seg 1) s at_ (IntKind.wrap .u64 ((y_8:Int)+y_1)) else (inA a seg 1));let zz1:=(bif (room && Z0 (inA a seg 1) 2) then ZD (Z5 (inA a seg 1) 2) s at_ y_10 else (Z5 (inA a seg 1) 2));let zz0:=(bif (room && Z0 (inA a seg 1) 2) then ZD zz1 (if Z0 (inA a seg 1) 2 then giveS (inA a seg 1) 2 else -1) (if Z0 (inA a seg 1) 2 then giveT (inA a seg 1) 2 else -1) (IntKind.wrap .u64 ((y_7:Int)+y_1)) else zz1);(((!room)=true->Q .ret (⟨[(0,.ptr (.x 0) 0),pI 1 s,pI 2 at_,pI 3 seg,pI 4 to,(5,.c (.int .u64 kind)),(6,.c (.int .u64 up)),pB 21 (!room)],[(.x 0,[.mref (.A),.bool room])],[(.A,LC.mk (U:=U) .arena ([a]) 0)]⟩:LSt U))/\((!room)=false->(Tr (((kind:Int)==0)=true))/\(Tr (((kind:Int)==0)=true))/\((zz5=true->(Ja ((a,room,()),s,at_,4294967292,()))/\(Q .ret (⟨[],[(.x 0,[.mref (.A),.bool room])],[(.A,LC.mk (U:=U) .arena ([bif room then ZD a s at_ 4294967292 else a]) 0)]⟩:LSt U)))/\(zz5=false->((((s:Int)==seg)=true->(Z7D (at_,to,kind,up,()))/\(Ja ((a,room,()),s,at_,(Z0b at_ to kind up),()))/\(Q .ret (⟨[],[(.x 0,[.mref (.A),.bool room])],[(.A,LC.mk (U:=U) .arena ([bif room then ZD a s at_ (Z0b at_ to kind up) else a]) 0)]⟩:LSt U)))/\(((s:Int)==seg)=false->(Zc0 (a,seg,1,()))/\((zz3=true->(Ja (((inA a seg 1),room,()),s,at_,(IntKind.wrap .u64 ((y_8:Int)+y_1)),()))/\((Z7D ((if Yj a seg 1 then ((Za a.segs seg).length:Int) else -1),to,kind,up,()))/\(Ja ((zz2,room,()),seg,(if Yj a seg 1 then ((Za a.segs seg).length:Int) else -1),y_5,()))/\(Q .ret (⟨[],[(.x 0,[.mref (.A),.bool room])],[(.A,LC.mk (U:=U) .arena ([bif room then ZD zz2 seg (if Yj a seg 1 then ((Za a.segs seg).length:Int) else -1) y_5 else zz2]) 0)]⟩:LSt U))))/\(zz3=false->(Z0h (((inA a seg 1),room,()),2,()))/\((zz4=true->Q .ret (⟨[(0,.ptr (.x 0) 0),pI 1 s,pI 2 at_,pI 3 seg,pI 4 to,(5,.c (.int .u64 kind)),(6,.c (.int .u64 up)),pI 15 (if Z0 (inA a seg 1) 2 then giveS (inA a seg 1) 2 else -1),pI 16 (if Z0 (inA a seg 1) 2 then giveT (inA a seg 1) 2 else -1),pB 82 zz4],[(.x 0,[.mref (.A),.bool (room && Z0 (inA a seg 1) 2)])],[(.A,LC.mk (U:=U) .arena ([Z5 (inA a seg 1) 2]) 0)]⟩:LSt U))/\(zz4=false->(Ja (((Z5 (inA a seg 1) 2),(room && Z0 (inA a seg 1) 2),()),s,at_,y_10,()))/\((Ja ((zz1,(room && Z0 (inA a seg 1) 2),()),(if Z0 (inA a seg 1) 2 then giveS (inA a seg 1) 2 else -1),(if Z0 (inA a seg 1) 2 then giveT (inA a seg 1) 2 else -1),(IntKind.wrap .u64 ((y_7:Int)+y_1)),()))/\((InR (((if Z0 (inA a seg 1) 2 then giveT (inA a seg 1) 2 else -1):Int)+1))/\(Ja ((zz0,(room && Z0 (inA a seg 1) 2),()),(if Z0 (inA a seg 1) 2 then giveS (inA a seg 1) 2 else -1),(((if Z0 (inA a seg 1) 2 then giveT (inA a seg 1) 2 else -1):Int)+1),y_2,()))/\(Q .normal (⟨[],[(.x 0,[.mref (.A),.bool (room && Z0 (inA a seg 1) 2)])],[(.A,LC.mk (U:=U) .arena ([bif (room && Z0 (inA a seg 1) 2) then ZD zz0 (if Z0 (inA a seg 1) 2 then giveS (inA a seg 1) 2 else -1) (((if Z0 (inA a seg 1) 2 then giveT (inA a seg 1) 2 else -1):Int)+1) y_2 else zz0]) 0)]⟩:LSt U))))))))))))))):=by kernel_rfl
 exact e_.mpr (by intro y_1 y_2 y_3 y_4 y_5 y_6 y_7 y_8 y_9 y_10;have hh:=h y_1 rfl y_2 rfl y_3 rfl y_4 rfl y_5 rfl y_6 rfl y_7 rfl y_8 rfl y_9 rfl y_10 rfl;exact ⟨fun c_5=> (hh.1 c_5),fun c_5=> ⟨id,(by generalize ((kind:Int)==0)=b0;revert b0;decide),⟨fun c_6=> ⟨((hh.2 c_5).1 c_6).1,((hh.2 c_5).1 c_6).2⟩,fun c_6=> ⟨fun c_7=> ⟨(((hh.2 c_5).2 c_6).1 c_7).1,(((hh.2 c_5).2 c_6).1 c_7).2.1,(((hh.2 c_5).2 c_6).1 c_7).2.2⟩,fun c_7=> ⟨(((hh.2 c_5).2 c_6).2 c_7).1,⟨fun c_8=> ⟨((((hh.2 c_5).2 c_6).2 c_7).2.1 c_8).1,⟨((((hh.2 c_5).2 c_6).2 c_7).2.1 c_8).2.1,((((hh.2 c_5).2 c_6).2 c_7).2.1 c_8).2.2.1,((((hh.2 c_5).2 c_6).2 c_7).2.1 c_8).2.2.2⟩⟩,fun c_8=> ⟨((((hh.2 c_5).2 c_6).2 c_7).2.2 c_8).1,⟨fun c_9=> (((((hh.2 c_5).2 c_6).2 c_7).2.2 c_8).2.1 c_9),fun c_9=> ⟨(((((hh.2 c_5).2 c_6).2 c_7).2.2 c_8).2.2 c_9).1,⟨(((((hh.2 c_5).2 c_6).2 c_7).2.2 c_8).2.2 c_9).2.1,⟨(((((hh.2 c_5).2 c_6).2 c_7).2.2 c_8).2.2 c_9).2.2.1,(((((hh.2 c_5).2 c_6).2 c_7).2.2 c_8).2.2 c_9).2.2.2.1,(((((hh.2 c_5).2 c_6).2 c_7).2.2 c_8).2.2 c_9).2.2.2.2⟩⟩⟩⟩⟩⟩⟩⟩⟩⟩⟩)
abbrev Zlw(a:Arena)(room:Bool)(s at_ seg to kind up:Int):Prop:=AW (Z1 Zfq) Try.f49 ZkD [] (ZI (Z9b.can ((a,room,()),s,at_,seg,to,kind,up,())) (Z9b.canX ((a,room,()),s,at_,seg,to,kind,up,())) (Z9b.canL ((a,room,()),s,at_,seg,to,kind,up,()))) (ZK cfg Try.f49.ntmps Try.f49.results.toList (Zec ((a,room,()),s,at_,seg,to,kind,up,())) (Z6n ((a,room,()),s,at_,seg,to,kind,up,())) (Z6p ((a,room,()),s,at_,seg,to,kind,up,())))
theorem ZjU(c52:CT 52 Z0r)(c83:CT 83 Z5T)(c84:CT 84 Z5S)(c27:CT 27 Z0s)(hb:∀ (a:Arena) (room:Bool) (s:Int) (at_:Int) (seg:Int) (to:Int) (kind:Int) (up:Int) (_:Unit),Z1O ((a,room,()),s,at_,seg,to,kind,up,())->Zlw a room s at_ seg to kind up):CT 49 Z8j:=
 Ze (l:=[(52,Z0r),(83,Z5T),(84,Z5S),(27,Z0s)]) Zf rfl (⟨c52,c83,c84,c27,trivial⟩) ZkD Try.func49 rfl rfl 7 (fun _=> rfl) (by decide) (fun ⟨⟨a,room,_⟩,s,at_,seg,to,kind,up,_⟩=> hb a room s at_ seg to kind up ())
end
noncomputable section
noncomputable section
def Z4B:ArgM ((Arena × Bool × Unit) × Int × Int × Tree × Unit):=(.obj 0 (.cons cAr (.cons Z83 .nil)) (.cons (Zv .i64) (.cons (Zv .i64) (.cons (aEl .tree) .nil))))
def Z4V(a:(Arena × Bool × Unit) × Int × Int × Tree × Unit):Prop:=(OkAr a.1.1/\a.1.2.1=true/\Y2 a.1.1.segs a.2.1 a.2.2.1 1=true)/\(ZE a.2.2.2.1<=1000000/\rng a.2.2.2.1)/\Tree.kind a.2.2.2.1≠10/\∃ d,Z6 a.2.2.2.1 d=true
def ZeM(a:(Arena × Bool × Unit) × Int × Int × Tree × Unit):Nat:=2*ZE a.2.2.2.1+1
def Z9K(a:(Arena × Bool × Unit) × Int × Int × Tree × Unit):V U:= .tup []
def Z1J(a:(Arena × Bool × Unit) × Int × Int × Tree × Unit):List (List (C U)):=[[.mref (.A),.bool ((Zx a.2.2.2.1 a.1.1 a.2.1 a.2.2.1).2)]]
def Z1L(a:(Arena × Bool × Unit) × Int × Int × Tree × Unit):List (Tok × LC U):=[(.A,LC.mk (U:=U) .arena [(Zx a.2.2.2.1 a.1.1 a.2.1 a.2.2.1).1] 0)]
def Z40:Fs U:=Ys Z4B (fun a=> [Z4V a]) Z9K Z1J Z1L
def Z2L(a:(Arena × Bool × Unit) × Int × Int × Tree × Unit):Prop:=(OkAr a.1.1/\(a.1.2.1=true->Y2 a.1.1.segs a.2.1 a.2.2.1 a.2.2.2.1.kids.length=true))/\(ZE a.2.2.2.1<=1000000/\rng a.2.2.2.1)/\∀ k∈Tree.kids a.2.2.2.1,Tree.kind k≠10/\∃ d,Z6 k d=true
def Z8I(a:(Arena × Bool × Unit) × Int × Int × Tree × Unit):Nat:=2*ZE a.2.2.2.1
def Z44(a:(Arena × Bool × Unit) × Int × Int × Tree × Unit):List (List (C U)):=[[.mref (.A),.bool (a.1.2.1 && (ZL a.2.2.2.1.kids a.1.1 a.2.1 a.2.2.1).2)]]
def Z46(a:(Arena × Bool × Unit) × Int × Int × Tree × Unit):List (Tok × LC U):=[(.A,LC.mk (U:=U) .arena [bif a.1.2.1 then (ZL a.2.2.2.1.kids a.1.1 a.2.1 a.2.2.1).1 else a.1.1] 0)]
def ZdJ:Fs U:=Ys Z4B (fun a=> [Z2L a]) Z9K Z44 Z46
def YR(N:Nat):List (FuncId × Fs U):=(28,Ys Z4B (fun a=> [Z4V a,ZeM a < N]) Z9K Z1J Z1L) ::(51,Ys Z4B (fun a=> [Z2L a,Z8I a < N]) Z9K Z44 Z46) ::[(27,Z0s),(49,Z8j),(50,Z8i),(52,Z0r),(38,Z8l),(53,Z8h)]
def Z6L:Zc U:=fun i=> match i with
 | 0=> ([(0,[]),(1,[]),(2,[]),(7,[])],[(.loc 7,[]),(.x 0,[.ar])])
 | 1=> ([(0,[]),(1,[]),(2,[]),(7,[]),(8,[])],[(.loc 7,[]),(.x 0,[.ar])])
 | 2=> ([(0,[]),(1,[]),(2,[]),(7,[]),(8,[]),(28,[])],[(.loc 7,[]),(.x 0,[.ar])])
 | 3=> ([(0,[]),(1,[]),(2,[]),(7,[]),(8,[]),(18,[])],[(.loc 7,[]),(.x 0,[.ar])])
 | 4=> ([(0,[]),(1,[]),(2,[]),(7,[]),(8,[]),(18,[.own .u64]),(19,[])],[(.loc 7,[]),(.x 0,[.ar])])
 | 5=> ([(0,[]),(1,[]),(2,[]),(7,[]),(8,[]),(18,[]),(19,[]),(31,[])],[(.loc 7,[]),(.x 0,[.ar])])
 | 6=> ([(0,[]),(1,[]),(2,[]),(7,[]),(8,[]),(18,[.own .u64]),(19,[])],[(.loc 7,[]),(.x 0,[.ar])])
 | 7=> ([(0,[]),(1,[]),(2,[]),(7,[]),(8,[]),(18,[]),(19,[])],[(.loc 7,[]),(.x 0,[.ar])])
 | 8=> ([(0,[]),(1,[]),(2,[]),(7,[]),(8,[]),(20,[])],[(.loc 7,[]),(.x 0,[.ar])])
 | 9=> ([(0,[]),(1,[]),(2,[]),(7,[]),(8,[]),(20,[]),(22,[]),(23,[])],[(.loc 7,[]),(.x 0,[.ar])])
 | 10=> ([(0,[]),(20,[]),(22,[]),(23,[])],[(.x 0,[.ar])])
 | 11=> ([],[(.x 0,[.ar])])
 | 12=> ([(0,[]),(1,[]),(2,[]),(7,[]),(8,[]),(28,[]),(79,[])],[(.loc 7,[]),(.x 0,[.ar])])
 | 13=> ([(0,[]),(1,[]),(2,[]),(7,[]),(8,[]),(28,[]),(81,[])],[(.loc 7,[]),(.x 0,[.ar])])
 | 14=> ([(0,[]),(1,[]),(2,[]),(7,[]),(8,[]),(9,[]),(10,[])],[(.loc 7,[]),(.x 0,[.ar])])
 | 15=> ([(0,[]),(7,[]),(9,[]),(10,[])],[(.loc 7,[]),(.x 0,[.ar])])
 | 16=> ([(0,[]),(7,[]),(9,[]),(10,[])],[(.loc 7,[]),(.x 0,[.ar])])
 | 17=> ([],[(.x 0,[.ar])])
 | 18=> ([(0,[]),(1,[]),(2,[]),(7,[]),(8,[]),(28,[]),(122,[])],[(.loc 7,[]),(.x 0,[.ar])])
 | 19=> ([(0,[]),(1,[]),(2,[]),(7,[]),(8,[]),(11,[]),(12,[])],[(.loc 7,[]),(.x 0,[.ar])])
 | 20=> ([(0,[]),(7,[]),(11,[]),(12,[])],[(.loc 7,[]),(.x 0,[.ar])])
 | 21=> ([],[(.x 0,[.ar])])
 | 22=> ([(0,[]),(1,[]),(2,[]),(7,[]),(8,[]),(145,[])],[(.loc 7,[]),(.x 0,[.ar])])
 | 23=> ([(0,[]),(1,[]),(2,[]),(7,[]),(8,[]),(13,[]),(14,[])],[(.loc 7,[]),(.x 0,[.ar])])
 | 24=> ([(0,[]),(1,[]),(2,[]),(7,[]),(8,[]),(13,[]),(14,[]),(15,[]),(16,[])],[(.loc 7,[]),(.x 0,[.ar])])
 | 25=> ([(0,[]),(7,[]),(8,[]),(13,[]),(14,[]),(15,[]),(16,[])],[(.loc 7,[]),(.x 0,[.ar])])
 | 26=> ([(0,[]),(7,[]),(8,[]),(13,[]),(14,[]),(15,[]),(16,[])],[(.loc 7,[]),(.x 0,[.ar])])
 | 27=> ([(0,[]),(7,[]),(8,[]),(13,[]),(14,[]),(15,[]),(16,[]),(17,[])],[(.loc 7,[]),(.x 0,[.ar])])
 | 28=> ([(0,[]),(7,[]),(8,[]),(13,[]),(14,[]),(15,[]),(16,[]),(17,[]),(200,[])],[(.loc 7,[]),(.x 0,[.ar])])
 | 29=> ([(0,[]),(7,[]),(8,[]),(13,[]),(14,[]),(15,[]),(16,[]),(17,[])],[(.loc 7,[]),(.x 0,[.ar])])
 | 30=> ([(0,[]),(7,[]),(8,[]),(13,[]),(14,[]),(15,[]),(16,[]),(17,[])],[(.loc 7,[]),(.x 0,[.ar])])
 | 31=> ([(0,[]),(7,[]),(8,[]),(13,[]),(14,[]),(15,[]),(16,[]),(17,[])],[(.loc 7,[]),(.x 0,[.ar])])
 | _=> ([],[])
def Z0P(a:Arena)(room:Bool)(s at_:Int)(t:Tree)(x17:Int)(mx0_1:Bool)(rA:Arena):LSt U:=(⟨[(0,.ptr (.x 0) 0),pL 7,pI 8 (t.kids.length:Int),pI 13 (frW (Tree.kids (Tree.mk t.kind t.words t.kids)):Int),pI 14 (frK (Tree.kids (Tree.mk t.kind t.words t.kids)):Int),(15,.c (ci (if Z0 a ((1:Int)+(((t.kids.length:Int):Int)*(((frW (Tree.kids (Tree.mk t.kind t.words t.kids)):Int):Int)+(frK (Tree.kids (Tree.mk t.kind t.words t.kids)):Int)))) then giveS a ((1:Int)+(((t.kids.length:Int):Int)*(((frW (Tree.kids (Tree.mk t.kind t.words t.kids)):Int):Int)+(frK (Tree.kids (Tree.mk t.kind t.words t.kids)):Int)))) else -1))),(16,.c (ci (if Z0 a ((1:Int)+(((t.kids.length:Int):Int)*(((frW (Tree.kids (Tree.mk t.kind t.words t.kids)):Int):Int)+(frK (Tree.kids (Tree.mk t.kind t.words t.kids)):Int)))) then giveT a ((1:Int)+(((t.kids.length:Int):Int)*(((frW (Tree.kids (Tree.mk t.kind t.words t.kids)):Int):Int)+(frK (Tree.kids (Tree.mk t.kind t.words t.kids)):Int)))) else -1))),pI 17 x17],[(.loc 7,(enc .tree t)),(.x 0,[.mref (.A),.bool mx0_1])],[(.A,LC.mk (U:=U) .arena ([rA]) 0)]⟩:LSt U)
def Z0O(a:Arena)(room:Bool)(s at_:Int)(t:Tree)(x19_a:Int)(x18_a:List Int):LSt U:=(⟨[(0,.ptr (.x 0) 0),pI 1 s,pI 2 at_,pL 7,pI 8 (t.kids.length:Int),(18,.c (sU .u64 x18_a (.own (.e 18 0)))),pI 19 x19_a],[(.loc 7,(enc .tree t)),(.x 0,[.mref (.A),.bool room])],[(.A,LC.mk (U:=U) .arena ([a]) 0)]⟩:LSt U)
abbrev W28(N:Nat)(a:Arena)(room:Bool)(s at_:Int)(t:Tree)(Q:QT):=AW (Z1 (YR N)) Try.f28 Z6L [] (⟨[(0,.ptr (.x 0) 0),pI 1 s,pI 2 at_,(3,.agg (enc .tree t))],[(.x 0,[.mref (.A),.bool room])],[(.A,LC.mk (U:=U) .arena ([a]) 0)]⟩:LSt U) Q
abbrev ZcF(N:Nat):=awp cfg (Z1 (YR N)) (ZA cfg (Z1 (YR N))) Try.f28.ntmps Z6L
abbrev Zhj(N:Nat):=Z6h cfg (Z1 (YR N)) (ZA cfg (Z1 (YR N))) Try.f28.ntmps Z6L
theorem Znv(N:Nat)(a:Arena)(room:Bool)(s at_:Int)(t:Tree)(Q:QT)(h:∀ y_1,y_1=t->∀ y_2,y_2=(IntKind.wrap .u64 ((4:Int)*(t.kids.length:Int)))->∀ y_3,y_3=(Z5 a (((t.words.length:Int):Int)+(t.kids.length:Int)))->∀ y_4,y_4=(IntKind.wrap .u64 ((8:Int)*(IntKind.wrap .u64 (t.kids.length:Int))))->∀ y_5,y_5=(IntKind.wrap .u64 ((65536:Int)*(IntKind.wrap .u64 (t.kids.length:Int))))->∀ y_6,y_6=(room && Z0 a (((t.words.length:Int):Int)+(t.kids.length:Int)))->∀ y_7,y_7=(InR (((frW y_1.kids:Int):Int)+(frK y_1.kids:Int)))->∀ y_8,y_8=(IntKind.wrap .u64 (((IntKind.wrap .u64 (t.words.length:Int)):Int)+y_5))->∀ y_9,y_9=(IntKind.wrap .u64 ((65536:Int)*(IntKind.wrap .u64 (frK y_1.kids:Int))))->∀ y_10,y_10=(InR (((t.kids.length:Int):Int)*(((frW y_1.kids:Int):Int)+(frK y_1.kids:Int))))->∀ y_11,y_11=(IntKind.wrap .u64 (((t.kids.length:Int):Int)*(((frW y_1.kids:Int):Int)+(frK y_1.kids:Int))))->∀ y_12,y_12=(Z5 a ((1:Int)+(((t.kids.length:Int):Int)*(((frW y_1.kids:Int):Int)+(frK y_1.kids:Int)))))->∀ y_13,y_13=(room && Z0 a ((1:Int)+(((t.kids.length:Int):Int)*(((frW y_1.kids:Int):Int)+(frK y_1.kids:Int)))))->∀ y_14,y_14=(Zu (Z5 a (t.kids.length:Int)) s at_ (if Z0 a (t.kids.length:Int) then giveS a (t.kids.length:Int) else -1) (if Z0 a (t.kids.length:Int) then giveT a (t.kids.length:Int) else -1) 1 (IntKind.wrap .u64 ((6:Int)+y_4)))->∀ y_15,y_15=(IntKind.wrap .u64 ((7:Int)+(IntKind.wrap .u64 ((8:Int)*y_11))))->∀ y_16,y_16=(IntKind.wrap .u64 (((IntKind.wrap .u64 (frW y_1.kids:Int)):Int)+y_9))->∀ y_17,y_17=(ZL y_1.kids (bif (room && Z0 a (t.kids.length:Int)) then y_14.1 else (Z5 a (t.kids.length:Int))) (if Z0 a (t.kids.length:Int) then giveS a (t.kids.length:Int) else -1) (if Z0 a (t.kids.length:Int) then giveT a (t.kids.length:Int) else -1))->∀ y_18,y_18=(Zu y_3 s at_ (if Z0 a (((t.words.length:Int):Int)+(t.kids.length:Int)) then giveS a (((t.words.length:Int):Int)+(t.kids.length:Int)) else -1) (if Z0 a (((t.words.length:Int):Int)+(t.kids.length:Int)) then giveT a (((t.words.length:Int):Int)+(t.kids.length:Int)) else -1) 0 y_8)->∀ y_19,y_19=(IntKind.wrap .u64 (y_2+(IntKind.wrap .u64 ((4294967296:Int)*y_16))))->∀ y_20,y_20=(Zu y_12 s at_ (if Z0 a ((1:Int)+(((t.kids.length:Int):Int)*(((frW y_1.kids:Int):Int)+(frK y_1.kids:Int)))) then giveS a ((1:Int)+(((t.kids.length:Int):Int)*(((frW y_1.kids:Int):Int)+(frK y_1.kids:Int)))) else -1) (if Z0 a ((1:Int)+(((t.kids.length:Int):Int)*(((frW y_1.kids:Int):Int)+(frK y_1.kids:Int)))) then giveT a ((1:Int)+(((t.kids.length:Int):Int)*(((frW y_1.kids:Int):Int)+(frK y_1.kids:Int)))) else -1) 1 y_15)->∀ y_21,y_21=(ZL y_1.kids (bif (y_6 && y_18.2) then Zk t.words (bif y_6 then y_18.1 else y_3) (if Z0 a (((t.words.length:Int):Int)+(t.kids.length:Int)) then giveS a (((t.words.length:Int):Int)+(t.kids.length:Int)) else -1) (if Z0 a (((t.words.length:Int):Int)+(t.kids.length:Int)) then giveT a (((t.words.length:Int):Int)+(t.kids.length:Int)) else -1) else (bif y_6 then y_18.1 else y_3)) (if Z0 a (((t.words.length:Int):Int)+(t.kids.length:Int)) then giveS a (((t.words.length:Int):Int)+(t.kids.length:Int)) else -1) (((if Z0 a (((t.words.length:Int):Int)+(t.kids.length:Int)) then giveT a (((t.words.length:Int):Int)+(t.kids.length:Int)) else -1):Int)+(t.words.length:Int)))->((t.kind==0)=true->Q .ret (⟨[(0,.ptr (.x 0) 0),pI 1 s,pI 2 at_,pL 7,pI 8 (t.kids.length:Int),pI 28 t.kind,pB 79 (t.kind==0)],[(.loc 7,(enc .tree t)),(.x 0,[.mref (.A),.bool room])],[(.A,LC.mk (U:=U) .arena ([a]) 0)]⟩:LSt U))/\((t.kind==0)=false->((t.kind==1)=true->(InR (((t.words.length:Int):Int)+(t.kids.length:Int)))/\(Z0h ((a,room,()),(((t.words.length:Int):Int)+(t.kids.length:Int)),()))/\((Z1O ((y_3,y_6,()),s,at_,(if Z0 a (((t.words.length:Int):Int)+(t.kids.length:Int)) then giveS a (((t.words.length:Int):Int)+(t.kids.length:Int)) else -1),(if Z0 a (((t.words.length:Int):Int)+(t.kids.length:Int)) then giveT a (((t.words.length:Int):Int)+(t.kids.length:Int)) else -1),0,y_8,()))/\((Z4U (((bif y_6 then y_18.1 else y_3),(y_6 && y_18.2),()),(if Z0 a (((t.words.length:Int):Int)+(t.kids.length:Int)) then giveS a (((t.words.length:Int):Int)+(t.kids.length:Int)) else -1),(if Z0 a (((t.words.length:Int):Int)+(t.kids.length:Int)) then giveT a (((t.words.length:Int):Int)+(t.kids.length:Int)) else -1),t.words,()))/\((InR (((if Z0 a (((t.words.length:Int):Int)+(t.kids.length:Int)) then giveT a (((t.words.length:Int):Int)+(t.kids.length:Int)) else -1):Int)+(t.words.length:Int)))/\(Z2L (((bif (y_6 && y_18.2) then Zk t.words (bif y_6 then y_18.1 else y_3) (if Z0 a (((t.words.length:Int):Int)+(t.kids.length:Int)) then giveS a (((t.words.length:Int):Int)+(t.kids.length:Int)) else -1) (if Z0 a (((t.words.length:Int):Int)+(t.kids.length:Int)) then giveT a (((t.words.length:Int):Int)+(t.kids.length:Int)) else -1) else (bif y_6 then y_18.1 else y_3)),(y_6 && y_18.2),()),(if Z0 a (((t.words.length:Int):Int)+(t.kids.length:Int)) then giveS a (((t.words.length:Int):Int)+(t.kids.length:Int)) else -1),(((if Z0 a (((t.words.length:Int):Int)+(t.kids.length:Int)) then giveT a (((t.words.length:Int):Int)+(t.kids.length:Int)) else -1):Int)+(t.words.length:Int)),y_1,()))/\(Z8I (((bif (y_6 && y_18.2) then Zk t.words (bif y_6 then y_18.1 else y_3) (if Z0 a (((t.words.length:Int):Int)+(t.kids.length:Int)) then giveS a (((t.words.length:Int):Int)+(t.kids.length:Int)) else -1) (if Z0 a (((t.words.length:Int):Int)+(t.kids.length:Int)) then giveT a (((t.words.length:Int):Int)+(t.kids.length:Int)) else -1) else (bif y_6 then y_18.1 else y_3)),(y_6 && y_18.2),()),(if Z0 a (((t.words.length:Int):Int)+(t.kids.length:Int)) then giveS a (((t.words.length:Int):Int)+(t.kids.length:Int)) else -1),(((if Z0 a (((t.words.length:Int):Int)+(t.kids.length:Int)) then giveT a (((t.words.length:Int):Int)+(t.kids.length:Int)) else -1):Int)+(t.words.length:Int)),y_1,()) < N)/\(Q .normal (⟨[],[(.x 0,[.mref (.A),.bool ((y_6 && y_18.2) && y_21.2)])],[(.A,LC.mk (U:=U) .arena ([bif (y_6 && y_18.2) then y_21.1 else (bif (y_6 && y_18.2) then Zk t.words (bif y_6 then y_18.1 else y_3) (if Z0 a (((t.words.length:Int):Int)+(t.kids.length:Int)) then giveS a (((t.words.length:Int):Int)+(t.kids.length:Int)) else -1) (if Z0 a (((t.words.length:Int):Int)+(t.kids.length:Int)) then giveT a (((t.words.length:Int):Int)+(t.kids.length:Int)) else -1) else (bif y_6 then y_18.1 else y_3))]) 0)]⟩:LSt U))))))/\((t.kind==1)=false->((t.kind==8)=true->(Z0h ((a,room,()),(t.kids.length:Int),()))/\((Z1O (((Z5 a (t.kids.length:Int)),(room && Z0 a (t.kids.length:Int)),()),s,at_,(if Z0 a (t.kids.length:Int) then giveS a (t.kids.length:Int) else -1),(if Z0 a (t.kids.length:Int) then giveT a (t.kids.length:Int) else -1),1,(IntKind.wrap .u64 ((6:Int)+y_4)),()))/\((Z2L (((bif (room && Z0 a (t.kids.length:Int)) then y_14.1 else (Z5 a (t.kids.length:Int))),((room && Z0 a (t.kids.length:Int)) && y_14.2),()),(if Z0 a (t.kids.length:Int) then giveS a (t.kids.length:Int) else -1),(if Z0 a (t.kids.length:Int) then giveT a (t.kids.length:Int) else -1),y_1,()))/\(Z8I (((bif (room && Z0 a (t.kids.length:Int)) then y_14.1 else (Z5 a (t.kids.length:Int))),((room && Z0 a (t.kids.length:Int)) && y_14.2),()),(if Z0 a (t.kids.length:Int) then giveS a (t.kids.length:Int) else -1),(if Z0 a (t.kids.length:Int) then giveT a (t.kids.length:Int) else -1),y_1,()) < N)/\(Q .normal (⟨[],[(.x 0,[.mref (.A),.bool (((room && Z0 a (t.kids.length:Int)) && y_14.2) && y_17.2)])],[(.A,LC.mk (U:=U) .arena ([bif ((room && Z0 a (t.kids.length:Int)) && y_14.2) then y_17.1 else (bif (room && Z0 a (t.kids.length:Int)) then y_14.1 else (Z5 a (t.kids.length:Int)))]) 0)]⟩:LSt U)))))/\((t.kind==8)=false->((t.kind==9)=true->(Z7K (y_1,()))/\(y_7/\y_10/\(InR ((1:Int)+(((t.kids.length:Int):Int)*(((frW y_1.kids:Int):Int)+(frK y_1.kids:Int)))))/\(Z0h ((a,room,()),((1:Int)+(((t.kids.length:Int):Int)*(((frW y_1.kids:Int):Int)+(frK y_1.kids:Int)))),()))/\(y_7/\y_10/\(Z1O ((y_12,y_13,()),s,at_,(if Z0 a ((1:Int)+(((t.kids.length:Int):Int)*(((frW y_1.kids:Int):Int)+(frK y_1.kids:Int)))) then giveS a ((1:Int)+(((t.kids.length:Int):Int)*(((frW y_1.kids:Int):Int)+(frK y_1.kids:Int)))) else -1),(if Z0 a ((1:Int)+(((t.kids.length:Int):Int)*(((frW y_1.kids:Int):Int)+(frK y_1.kids:Int)))) then giveT a ((1:Int)+(((t.kids.length:Int):Int)*(((frW y_1.kids:Int):Int)+(frK y_1.kids:Int)))) else -1),1,y_15,()))/\((InR ((4:Int)*(t.kids.length:Int)))/\(Ja (((bif y_13 then y_20.1 else y_12),(y_13 && y_20.2),()),(if Z0 a ((1:Int)+(((t.kids.length:Int):Int)*(((frW y_1.kids:Int):Int)+(frK y_1.kids:Int)))) then giveS a ((1:Int)+(((t.kids.length:Int):Int)*(((frW y_1.kids:Int):Int)+(frK y_1.kids:Int)))) else -1),(if Z0 a ((1:Int)+(((t.kids.length:Int):Int)*(((frW y_1.kids:Int):Int)+(frK y_1.kids:Int)))) then giveT a ((1:Int)+(((t.kids.length:Int):Int)*(((frW y_1.kids:Int):Int)+(frK y_1.kids:Int)))) else -1),y_19,()))/\(Zo (AW (Z1 (YR N)) Try.f28 Z6L [1,1,1,0,1,1,1,1,1,1,1,0,1,1,1,1,1,0,0]) (Z0P a room s at_ t 0 (y_13 && y_20.2) (bif (y_13 && y_20.2) then ZD (bif y_13 then y_20.1 else y_12) (if Z0 a ((1:Int)+(((t.kids.length:Int):Int)*(((frW y_1.kids:Int):Int)+(frK y_1.kids:Int)))) then giveS a ((1:Int)+(((t.kids.length:Int):Int)*(((frW y_1.kids:Int):Int)+(frK y_1.kids:Int)))) else -1) (if Z0 a ((1:Int)+(((t.kids.length:Int):Int)*(((frW y_1.kids:Int):Int)+(frK y_1.kids:Int)))) then giveT a ((1:Int)+(((t.kids.length:Int):Int)*(((frW y_1.kids:Int):Int)+(frK y_1.kids:Int)))) else -1) y_19 else (bif y_13 then y_20.1 else y_12))) (xB 3 (xB 0 Q)))))))/\((t.kind==9)=false->Zo (AW (Z1 (YR N)) Try.f28 Z6L [1,1,1,0,1,1,1,1,1,1,1,1,1,0,1,0,0]) (Z0O a room s at_ t 0 []) (xB 1 (SW (Z1 (YR N)) Try.f28 Z6L [1,1,1,0,1,1,1,1,1,1,1,1,1,1] (xB 0 Q)))))))):
  W28 N a room s at_ t Q:=by
 have e_:(W28 N a room s at_ t Q)=(let y_1:=(YY t);let y_2:=(IntKind.wrap .u64 ((4:Int)*(t.kids.length:Int)));let y_3:=(Z5 a ((t.words.length:Int)+(t.kids.length:Int)));let y_4:=(IntKind.wrap .u64 ((8:Int)*(IntKind.wrap .u64 (t.kids.length:Int))));let y_5:=(IntKind.wrap .u64 ((65536:Int)*(IntKind.wrap .u64 (t.kids.length:Int))));let y_6:=(room && Z0 a ((t.words.length:Int)+(t.kids.length:Int)));let y_7:=(InR (((frW y_1.kids:Int):Int)+(frK y_1.kids:Int)));let y_8:=(IntKind.wrap .u64 (((IntKind.wrap .u64 (t.words.length:Int)):Int)+y_5));let y_9:=(IntKind.wrap .u64 ((65536:Int)*(IntKind.wrap .u64 (frK y_1.kids:Int))));let y_10:=(InR ((t.kids.length:Int)*(((frW y_1.kids:Int):Int)+(frK y_1.kids:Int))));let y_11:=(IntKind.wrap .u64 ((t.kids.length:Int)*(((frW y_1.kids:Int):Int)+(frK y_1.kids:Int))));let y_12:=(Z5 a ((1:Int)+((t.kids.length:Int)*(((frW y_1.kids:Int):Int)+(frK y_1.kids:Int)))));let y_13:=(room && Z0 a ((1:Int)+((t.kids.length:Int)*(((frW y_1.kids:Int):Int)+(frK y_1.kids:Int)))));let y_14:=(Zu (Z5 a (t.kids.length:Int)) s at_ (if Z0 a (t.kids.length:Int) then giveS a (t.kids.length:Int) else -1) (if Z0 a (t.kids.length:Int) then giveT a (t.kids.length:Int) else -1) 1 (IntKind.wrap .u64 ((6:Int)+y_4)));let y_15:=(IntKind.wrap .u64 ((7:Int)+(IntKind.wrap .u64 ((8:Int)*y_11))));let y_16:=(IntKind.wrap .u64 (((IntKind.wrap .u64 (frW y_1.kids:Int)):Int)+y_9));let y_17:=(ZL y_1.kids (bif (room && Z0 a (t.kids.length:Int)) then y_14.1 else (Z5 a (t.kids.length:Int))) (if Z0 a (t.kids.length:Int) then giveS a (t.kids.length:Int) else -1) (if Z0 a (t.kids.length:Int) then giveT a (t.kids.length:Int) else -1));let y_18:=(Zu y_3 s at_ (if Z0 a ((t.words.length:Int)+(t.kids.length:Int)) then giveS a ((t.words.length:Int)+(t.kids.length:Int)) else -1) (if Z0 a ((t.words.length:Int)+(t.kids.length:Int)) then giveT a ((t.words.length:Int)+(t.kids.length:Int)) else -1) 0 y_8);let y_19:=(IntKind.wrap .u64 ((y_2:Int)+(IntKind.wrap .u64 ((4294967296:Int)*y_16))));let y_20:=(Zu y_12 s at_ (if Z0 a ((1:Int)+((t.kids.length:Int)*(((frW y_1.kids:Int):Int)+(frK y_1.kids:Int)))) then giveS a ((1:Int)+((t.kids.length:Int)*(((frW y_1.kids:Int):Int)+(frK y_1.kids:Int)))) else -1) (if Z0 a ((1:Int)+((t.kids.length:Int)*(((frW y_1.kids:Int):Int)+(frK y_1.kids:Int)))) then giveT a ((1:Int)+((t.kids.length:Int)*(((frW y_1.kids:Int):Int)+(frK y_1.kids:Int)))) else -1) 1 y_15);let y_21:=(ZL y_1.kids (bif (y_6 && y_18.2) then Zk t.words (bif y_6 then y_18.1 else y_3) (if Z0 a ((t.words.length:Int)+(t.kids.length:Int)) then giveS a ((t.words.length:Int)+(t.kids.length:Int)) else -1) (if Z0 a ((t.words.length:Int)+(t.kids.length:Int)) then giveT a ((t.words.length:Int)+(t.kids.length:Int)) else -1) else (bif y_6 then y_18.1 else y_3)) (if Z0 a ((t.words.length:Int)+(t.kids.length:Int)) then giveS a ((t.words.length:Int)+(t.kids.length:Int)) else -1) (((if Z0 a ((t.words.length:Int)+(t.kids.length:Int)) then giveT a ((t.words.length:Int)+(t.kids.length:Int)) else -1):Int)+(t.words.length:Int)));let zz3:=(bif y_6 then y_18.1 else y_3);let zz2:=(bif y_13 then y_20.1 else y_12);let zz1:=(bif (room && Z0 a (t.kids.length:Int)) then y_14.1 else (Z5 a (t.kids.length:Int)));let zz0:=(bif (y_6 && y_18.2) then Zk t.words zz3 (if Z0 a ((t.words.length:Int)+(t.kids.length:Int)) then giveS a ((t.words.length:Int)+(t.kids.length:Int)) else -1) (if Z0 a ((t.words.length:Int)+(t.kids.length:Int)) then giveT a ((t.words.length:Int)+(t.kids.length:Int)) else -1) else zz3);(((t.kind==0)=true->Q .ret (⟨[(0,.ptr (.x 0) 0),pI 1 s,pI 2 at_,pL 7,pI 8 (t.kids.length:Int),pI 28 t.kind,pB 79 (t.kind==0)],[(.loc 7,(enc .tree t)),(.x 0,[.mref (.A),.bool room])],[(.A,LC.mk (U:=U) .arena ([a]) 0)]⟩:LSt U))/\((t.kind==0)=false->(((t.kind==1)=true->(InR ((t.words.length:Int)+(t.kids.length:Int)))/\(Z0h ((a,room,()),((t.words.length:Int)+(t.kids.length:Int)),()))/\((Z1O ((y_3,y_6,()),s,at_,(if Z0 a ((t.words.length:Int)+(t.kids.length:Int)) then giveS a ((t.words.length:Int)+(t.kids.length:Int)) else -1),(if Z0 a ((t.words.length:Int)+(t.kids.length:Int)) then giveT a ((t.words.length:Int)+(t.kids.length:Int)) else -1),0,y_8,()))/\((Z4U ((zz3,(y_6 && y_18.2),()),(if Z0 a ((t.words.length:Int)+(t.kids.length:Int)) then giveS a ((t.words.length:Int)+(t.kids.length:Int)) else -1),(if Z0 a ((t.words.length:Int)+(t.kids.length:Int)) then giveT a ((t.words.length:Int)+(t.kids.length:Int)) else -1),t.words,()))/\((InR (((if Z0 a ((t.words.length:Int)+(t.kids.length:Int)) then giveT a ((t.words.length:Int)+(t.kids.length:Int)) else -1):Int)+(t.words.length:Int)))/\(Z2L ((zz0,(y_6 && y_18.2),()),(if Z0 a ((t.words.length:Int)+(t.kids.length:Int)) then giveS a ((t.words.length:Int)+(t.kids.length:Int)) else -1),(((if Z0 a ((t.words.length:Int)+(t.kids.length:Int)) then giveT a ((t.words.length:Int)+(t.kids.length:Int)) else -1):Int)+(t.words.length:Int)),y_1,()))/\(Z8I ((zz0,(y_6 && y_18.2),()),(if Z0 a ((t.words.length:Int)+(t.kids.length:Int)) then giveS a ((t.words.length:Int)+(t.kids.length:Int)) else -1),(((if Z0 a ((t.words.length:Int)+(t.kids.length:Int)) then giveT a ((t.words.length:Int)+(t.kids.length:Int)) else -1):Int)+(t.words.length:Int)),y_1,()) < N)/\(Q .normal (⟨[],[(.x 0,[.mref (.A),.bool ((y_6 && y_18.2) && y_21.2)])],[(.A,LC.mk (U:=U) .arena ([bif (y_6 && y_18.2) then y_21.1 else zz0]) 0)]⟩:LSt U))))))/\((t.kind==1)=false->(((t.kind==8)=true->(Z0h ((a,room,()),(t.kids.length:Int),()))/\((Z1O (((Z5 a (t.kids.length:Int)),(room && Z0 a (t.kids.length:Int)),()),s,at_,(if Z0 a (t.kids.length:Int) then giveS a (t.kids.length:Int) else -1),(if Z0 a (t.kids.length:Int) then giveT a (t.kids.length:Int) else -1),1,(IntKind.wrap .u64 ((6:Int)+y_4)),()))/\((Z2L ((zz1,((room && Z0 a (t.kids.length:Int)) && y_14.2),()),(if Z0 a (t.kids.length:Int) then giveS a (t.kids.length:Int) else -1),(if Z0 a (t.kids.length:Int) then giveT a (t.kids.length:Int) else -1),y_1,()))/\(Z8I ((zz1,((room && Z0 a (t.kids.length:Int)) && y_14.2),()),(if Z0 a (t.kids.length:Int) then giveS a (t.kids.length:Int) else -1),(if Z0 a (t.kids.length:Int) then giveT a (t.kids.length:Int) else -1),y_1,()) < N)/\(Q .normal (⟨[],[(.x 0,[.mref (.A),.bool (((room && Z0 a (t.kids.length:Int)) && y_14.2) && y_17.2)])],[(.A,LC.mk (U:=U) .arena ([bif ((room && Z0 a (t.kids.length:Int)) && y_14.2) then y_17.1 else zz1]) 0)]⟩:LSt U)))))/\((t.kind==8)=false->(((t.kind==9)=true->(Z7K (y_1,()))/\(y_7/\y_10/\(InR ((1:Int)+((t.kids.length:Int)*(((frW y_1.kids:Int):Int)+(frK y_1.kids:Int)))))/\(Z0h ((a,room,()),((1:Int)+((t.kids.length:Int)*(((frW y_1.kids:Int):Int)+(frK y_1.kids:Int)))),()))/\(y_7/\y_10/\(Z1O ((y_12,y_13,()),s,at_,(if Z0 a ((1:Int)+((t.kids.length:Int)*(((frW y_1.kids:Int):Int)+(frK y_1.kids:Int)))) then giveS a ((1:Int)+((t.kids.length:Int)*(((frW y_1.kids:Int):Int)+(frK y_1.kids:Int)))) else -1),(if Z0 a ((1:Int)+((t.kids.length:Int)*(((frW y_1.kids:Int):Int)+(frK y_1.kids:Int)))) then giveT a ((1:Int)+((t.kids.length:Int)*(((frW y_1.kids:Int):Int)+(frK y_1.kids:Int)))) else -1),1,y_15,()))/\((InR ((4:Int)*(t.kids.length:Int)))/\(Ja ((zz2,(y_13 && y_20.2),()),(if Z0 a ((1:Int)+((t.kids.length:Int)*(((frW y_1.kids:Int):Int)+(frK y_1.kids:Int)))) then giveS a ((1:Int)+((t.kids.length:Int)*(((frW y_1.kids:Int):Int)+(frK y_1.kids:Int)))) else -1),(if Z0 a ((1:Int)+((t.kids.length:Int)*(((frW y_1.kids:Int):Int)+(frK y_1.kids:Int)))) then giveT a ((1:Int)+((t.kids.length:Int)*(((frW y_1.kids:Int):Int)+(frK y_1.kids:Int)))) else -1),y_19,()))/\(Zo (ZcF N (cd Try.f28 [1,1,1,0,1,1,1,1,1,1,1,0,1,1,1,1,1,0,0])) (Z0P a room s at_ t 0 (y_13 && y_20.2) (bif (y_13 && y_20.2) then ZD zz2 (if Z0 a ((1:Int)+((t.kids.length:Int)*(((frW y_1.kids:Int):Int)+(frK y_1.kids:Int)))) then giveS a ((1:Int)+((t.kids.length:Int)*(((frW y_1.kids:Int):Int)+(frK y_1.kids:Int)))) else -1) (if Z0 a ((1:Int)+((t.kids.length:Int)*(((frW y_1.kids:Int):Int)+(frK y_1.kids:Int)))) then giveT a ((1:Int)+((t.kids.length:Int)*(((frW y_1.kids:Int):Int)+(frK y_1.kids:Int)))) else -1) y_19 else zz2)) (xB 3 (xB 0 Q)))))))/\((t.kind==9)=false->(Zo (ZcF N (cd Try.f28 [1,1,1,0,1,1,1,1,1,1,1,1,1,0,1,0,0])) (Z0O a room s at_ t 0 []) (xB 1 (Zhj N (cd Try.f28 [1,1,1,0,1,1,1,1,1,1,1,1,1,1]) (xB 0 Q))))))))))))):=by kernel_rfl
 exact e_.mpr (by intro y_1 y_2 y_3 y_4 y_5 y_6 y_7 y_8 y_9 y_10 y_11 y_12 y_13 y_14 y_15 y_16 y_17 y_18 y_19 y_20 y_21;have hh:=h y_1 (ZX _) y_2 rfl y_3 rfl y_4 rfl y_5 rfl y_6 rfl y_7 rfl y_8 rfl y_9 rfl y_10 rfl y_11 rfl y_12 rfl y_13 rfl y_14 rfl y_15 rfl y_16 rfl y_17 rfl y_18 rfl y_19 rfl y_20 rfl y_21 rfl;exact ⟨fun c_1=> (hh.1 c_1),fun c_1=> ⟨fun c_2=> ⟨((hh.2 c_1).1 c_2).1,((hh.2 c_1).1 c_2).2.1,⟨((hh.2 c_1).1 c_2).2.2.1,⟨((hh.2 c_1).1 c_2).2.2.2.1,⟨((hh.2 c_1).1 c_2).2.2.2.2.1,((hh.2 c_1).1 c_2).2.2.2.2.2.1,((hh.2 c_1).1 c_2).2.2.2.2.2.2.1,((hh.2 c_1).1 c_2).2.2.2.2.2.2.2⟩⟩⟩⟩,fun c_2=> ⟨fun c_3=> ⟨(((hh.2 c_1).2 c_2).1 c_3).1,⟨(((hh.2 c_1).2 c_2).1 c_3).2.1,⟨(((hh.2 c_1).2 c_2).1 c_3).2.2.1,(((hh.2 c_1).2 c_2).1 c_3).2.2.2.1,(((hh.2 c_1).2 c_2).1 c_3).2.2.2.2⟩⟩⟩,fun c_3=> ⟨fun c_4=> ⟨((((hh.2 c_1).2 c_2).2 c_3).1 c_4).1,⟨((((hh.2 c_1).2 c_2).2 c_3).1 c_4).2.1,((((hh.2 c_1).2 c_2).2 c_3).1 c_4).2.2.1,((((hh.2 c_1).2 c_2).2 c_3).1 c_4).2.2.2.1,((((hh.2 c_1).2 c_2).2 c_3).1 c_4).2.2.2.2.1,⟨((((hh.2 c_1).2 c_2).2 c_3).1 c_4).2.2.2.2.2.1,((((hh.2 c_1).2 c_2).2 c_3).1 c_4).2.2.2.2.2.2.1,((((hh.2 c_1).2 c_2).2 c_3).1 c_4).2.2.2.2.2.2.2.1,⟨((((hh.2 c_1).2 c_2).2 c_3).1 c_4).2.2.2.2.2.2.2.2.1,((((hh.2 c_1).2 c_2).2 c_3).1 c_4).2.2.2.2.2.2.2.2.2.1,((((hh.2 c_1).2 c_2).2 c_3).1 c_4).2.2.2.2.2.2.2.2.2.2⟩⟩⟩⟩,fun c_4=> ((((hh.2 c_1).2 c_2).2 c_3).2 c_4)⟩⟩⟩⟩)
abbrev Zgz(N:Nat)(a:Arena)(room:Bool)(s at_:Int)(t:Tree)(x17:Int)(mx0_1:Bool)(rA:Arena)(N0:NT)(Q:QT):=AW (Z1 (YR N)) Try.f28 Z6L [1,1,1,0,1,1,1,1,1,1,1,0,1,1,1,1,1,0,0] (Z0P a room s at_ t x17 mx0_1 rA) (xT N0 (xB 3 (xB 0 Q)))
theorem ZgY(N:Nat)(a:Arena)(room:Bool)(s at_:Int)(t:Tree)(x17:Int)(mx0_1:Bool)(rA:Arena)(N0:NT)(Q:QT)(h:∀ y_1,y_1=t->∀ y_2,y_2=(t.kids.getD x17.toNat Tree.nil)->∀ y_3,y_3=y_2->∀ y_4,y_4=(InR (((frW y_1.kids:Int):Int)+(frK y_1.kids:Int)))->∀ y_5,y_5=(InR (x17*(((frW y_1.kids:Int):Int)+(frK y_1.kids:Int))))->∀ y_6,y_6=(InR (((if Z0 a ((1:Int)+(((t.kids.length:Int):Int)*(((frW y_1.kids:Int):Int)+(frK y_1.kids:Int)))) then giveT a ((1:Int)+(((t.kids.length:Int):Int)*(((frW y_1.kids:Int):Int)+(frK y_1.kids:Int)))) else -1):Int)+1))->∀ y_7,y_7=(InR (((((if Z0 a ((1:Int)+(((t.kids.length:Int):Int)*(((frW y_1.kids:Int):Int)+(frK y_1.kids:Int)))) then giveT a ((1:Int)+(((t.kids.length:Int):Int)*(((frW y_1.kids:Int):Int)+(frK y_1.kids:Int)))) else -1):Int)+1):Int)+(x17*(((frW y_1.kids:Int):Int)+(frK y_1.kids:Int)))))->∀ y_8,y_8=(ZL y_3.kids (bif mx0_1 then Zk y_2.words rA (if Z0 a ((1:Int)+(((t.kids.length:Int):Int)*(((frW y_1.kids:Int):Int)+(frK y_1.kids:Int)))) then giveS a ((1:Int)+(((t.kids.length:Int):Int)*(((frW y_1.kids:Int):Int)+(frK y_1.kids:Int)))) else -1) (((((if Z0 a ((1:Int)+(((t.kids.length:Int):Int)*(((frW y_1.kids:Int):Int)+(frK y_1.kids:Int)))) then giveT a ((1:Int)+(((t.kids.length:Int):Int)*(((frW y_1.kids:Int):Int)+(frK y_1.kids:Int)))) else -1):Int)+1):Int)+(x17*(((frW y_1.kids:Int):Int)+(frK y_1.kids:Int)))) else rA) (if Z0 a ((1:Int)+(((t.kids.length:Int):Int)*(((frW y_1.kids:Int):Int)+(frK y_1.kids:Int)))) then giveS a ((1:Int)+(((t.kids.length:Int):Int)*(((frW y_1.kids:Int):Int)+(frK y_1.kids:Int)))) else -1) (((((((if Z0 a ((1:Int)+(((t.kids.length:Int):Int)*(((frW y_1.kids:Int):Int)+(frK y_1.kids:Int)))) then giveT a ((1:Int)+(((t.kids.length:Int):Int)*(((frW y_1.kids:Int):Int)+(frK y_1.kids:Int)))) else -1):Int)+1):Int)+(x17*(((frW y_1.kids:Int):Int)+(frK y_1.kids:Int)))):Int)+(frW y_1.kids:Int)))->((bif (decide (x17 < (t.kids.length:Int))) then mx0_1 else false)=true->y_6/\y_4/\y_5/\y_7/\((0:Int)<=x17/\x17 < (t.kids.length:Int))/\(Z4U ((rA,mx0_1,()),(if Z0 a ((1:Int)+(((t.kids.length:Int):Int)*(((frW y_1.kids:Int):Int)+(frK y_1.kids:Int)))) then giveS a ((1:Int)+(((t.kids.length:Int):Int)*(((frW y_1.kids:Int):Int)+(frK y_1.kids:Int)))) else -1),(((((if Z0 a ((1:Int)+(((t.kids.length:Int):Int)*(((frW y_1.kids:Int):Int)+(frK y_1.kids:Int)))) then giveT a ((1:Int)+(((t.kids.length:Int):Int)*(((frW y_1.kids:Int):Int)+(frK y_1.kids:Int)))) else -1):Int)+1):Int)+(x17*(((frW y_1.kids:Int):Int)+(frK y_1.kids:Int)))),y_2.words,()))/\(y_6/\y_4/\y_5/\y_7/\(InR (((((((if Z0 a ((1:Int)+(((t.kids.length:Int):Int)*(((frW y_1.kids:Int):Int)+(frK y_1.kids:Int)))) then giveT a ((1:Int)+(((t.kids.length:Int):Int)*(((frW y_1.kids:Int):Int)+(frK y_1.kids:Int)))) else -1):Int)+1):Int)+(x17*(((frW y_1.kids:Int):Int)+(frK y_1.kids:Int)))):Int)+(frW y_1.kids:Int)))/\((0:Int)<=x17/\x17 < (t.kids.length:Int))/\(Z2L (((bif mx0_1 then Zk y_2.words rA (if Z0 a ((1:Int)+(((t.kids.length:Int):Int)*(((frW y_1.kids:Int):Int)+(frK y_1.kids:Int)))) then giveS a ((1:Int)+(((t.kids.length:Int):Int)*(((frW y_1.kids:Int):Int)+(frK y_1.kids:Int)))) else -1) (((((if Z0 a ((1:Int)+(((t.kids.length:Int):Int)*(((frW y_1.kids:Int):Int)+(frK y_1.kids:Int)))) then giveT a ((1:Int)+(((t.kids.length:Int):Int)*(((frW y_1.kids:Int):Int)+(frK y_1.kids:Int)))) else -1):Int)+1):Int)+(x17*(((frW y_1.kids:Int):Int)+(frK y_1.kids:Int)))) else rA),mx0_1,()),(if Z0 a ((1:Int)+(((t.kids.length:Int):Int)*(((frW y_1.kids:Int):Int)+(frK y_1.kids:Int)))) then giveS a ((1:Int)+(((t.kids.length:Int):Int)*(((frW y_1.kids:Int):Int)+(frK y_1.kids:Int)))) else -1),(((((((if Z0 a ((1:Int)+(((t.kids.length:Int):Int)*(((frW y_1.kids:Int):Int)+(frK y_1.kids:Int)))) then giveT a ((1:Int)+(((t.kids.length:Int):Int)*(((frW y_1.kids:Int):Int)+(frK y_1.kids:Int)))) else -1):Int)+1):Int)+(x17*(((frW y_1.kids:Int):Int)+(frK y_1.kids:Int)))):Int)+(frW y_1.kids:Int)),y_3,()))/\(Z8I (((bif mx0_1 then Zk y_2.words rA (if Z0 a ((1:Int)+(((t.kids.length:Int):Int)*(((frW y_1.kids:Int):Int)+(frK y_1.kids:Int)))) then giveS a ((1:Int)+(((t.kids.length:Int):Int)*(((frW y_1.kids:Int):Int)+(frK y_1.kids:Int)))) else -1) (((((if Z0 a ((1:Int)+(((t.kids.length:Int):Int)*(((frW y_1.kids:Int):Int)+(frK y_1.kids:Int)))) then giveT a ((1:Int)+(((t.kids.length:Int):Int)*(((frW y_1.kids:Int):Int)+(frK y_1.kids:Int)))) else -1):Int)+1):Int)+(x17*(((frW y_1.kids:Int):Int)+(frK y_1.kids:Int)))) else rA),mx0_1,()),(if Z0 a ((1:Int)+(((t.kids.length:Int):Int)*(((frW y_1.kids:Int):Int)+(frK y_1.kids:Int)))) then giveS a ((1:Int)+(((t.kids.length:Int):Int)*(((frW y_1.kids:Int):Int)+(frK y_1.kids:Int)))) else -1),(((((((if Z0 a ((1:Int)+(((t.kids.length:Int):Int)*(((frW y_1.kids:Int):Int)+(frK y_1.kids:Int)))) then giveT a ((1:Int)+(((t.kids.length:Int):Int)*(((frW y_1.kids:Int):Int)+(frK y_1.kids:Int)))) else -1):Int)+1):Int)+(x17*(((frW y_1.kids:Int):Int)+(frK y_1.kids:Int)))):Int)+(frW y_1.kids:Int)),y_3,()) < N)/\((InR (x17+1))/\(N0 (Z0P a room s at_ t (x17+1) (mx0_1 && y_8.2) (bif mx0_1 then y_8.1 else (bif mx0_1 then Zk y_2.words rA (if Z0 a ((1:Int)+(((t.kids.length:Int):Int)*(((frW y_1.kids:Int):Int)+(frK y_1.kids:Int)))) then giveS a ((1:Int)+(((t.kids.length:Int):Int)*(((frW y_1.kids:Int):Int)+(frK y_1.kids:Int)))) else -1) (((((if Z0 a ((1:Int)+(((t.kids.length:Int):Int)*(((frW y_1.kids:Int):Int)+(frK y_1.kids:Int)))) then giveT a ((1:Int)+(((t.kids.length:Int):Int)*(((frW y_1.kids:Int):Int)+(frK y_1.kids:Int)))) else -1):Int)+1):Int)+(x17*(((frW y_1.kids:Int):Int)+(frK y_1.kids:Int)))) else rA)))))))/\((bif (decide (x17 < (t.kids.length:Int))) then mx0_1 else false)=false->Q .normal (⟨[(0,.ptr (.x 0) 0),pL 7,pI 8 (t.kids.length:Int),pI 13 (frW y_1.kids:Int),pI 14 (frK y_1.kids:Int),(15,.c (ci (if Z0 a ((1:Int)+(((t.kids.length:Int):Int)*(((frW y_1.kids:Int):Int)+(frK y_1.kids:Int)))) then giveS a ((1:Int)+(((t.kids.length:Int):Int)*(((frW y_1.kids:Int):Int)+(frK y_1.kids:Int)))) else -1))),(16,.c (ci (if Z0 a ((1:Int)+(((t.kids.length:Int):Int)*(((frW y_1.kids:Int):Int)+(frK y_1.kids:Int)))) then giveT a ((1:Int)+(((t.kids.length:Int):Int)*(((frW y_1.kids:Int):Int)+(frK y_1.kids:Int)))) else -1))),pI 17 x17,(200,.c (.bool (bif (decide (x17 < (t.kids.length:Int))) then mx0_1 else false)))],[(.loc 7,(enc .tree t)),(.x 0,[.mref (.A),.bool mx0_1])],[(.A,LC.mk (U:=U) .arena ([rA]) 0)]⟩:LSt U))):
  Zgz N a room s at_ t x17 mx0_1 rA N0 Q:=by
 have e_:(Zgz N a room s at_ t x17 mx0_1 rA N0 Q)=(let y_1:=(YY t);let y_2:=(t.kids.getD x17.toNat Tree.nil);let y_3:=(YY y_2);let y_4:=(InR (((frW y_1.kids:Int):Int)+(frK y_1.kids:Int)));let y_5:=(InR ((x17:Int)*(((frW y_1.kids:Int):Int)+(frK y_1.kids:Int))));let y_6:=(InR (((if Z0 a ((1:Int)+((t.kids.length:Int)*(((frW y_1.kids:Int):Int)+(frK y_1.kids:Int)))) then giveT a ((1:Int)+((t.kids.length:Int)*(((frW y_1.kids:Int):Int)+(frK y_1.kids:Int)))) else -1):Int)+1));let y_7:=(InR (((((if Z0 a ((1:Int)+((t.kids.length:Int)*(((frW y_1.kids:Int):Int)+(frK y_1.kids:Int)))) then giveT a ((1:Int)+((t.kids.length:Int)*(((frW y_1.kids:Int):Int)+(frK y_1.kids:Int)))) else -1):Int)+1):Int)+((x17:Int)*(((frW y_1.kids:Int):Int)+(frK y_1.kids:Int)))));let y_8:=(ZL y_3.kids (bif mx0_1 then Zk y_2.words rA (if Z0 a ((1:Int)+((t.kids.length:Int)*(((frW y_1.kids:Int):Int)+(frK y_1.kids:Int)))) then giveS a ((1:Int)+((t.kids.length:Int)*(((frW y_1.kids:Int):Int)+(frK y_1.kids:Int)))) else -1) (((((if Z0 a ((1:Int)+((t.kids.length:Int)*(((frW y_1.kids:Int):Int)+(frK y_1.kids:Int)))) then giveT a ((1:Int)+((t.kids.length:Int)*(((frW y_1.kids:Int):Int)+(frK y_1.kids:Int)))) else -1):Int)+1):Int)+((x17:Int)*(((frW y_1.kids:Int):Int)+(frK y_1.kids:Int)))) else rA) (if Z0 a ((1:Int)+((t.kids.length:Int)*(((frW y_1.kids:Int):Int)+(frK y_1.kids:Int)))) then giveS a ((1:Int)+((t.kids.length:Int)*(((frW y_1.kids:Int):Int)+(frK y_1.kids:Int)))) else -1) (((((((if Z0 a ((1:Int)+((t.kids.length:Int)*(((frW y_1.kids:Int):Int)+(frK y_1.kids:Int)))) then giveT a ((1:Int)+((t.kids.length:Int)*(((frW y_1.kids:Int):Int)+(frK y_1.kids:Int)))) else -1):Int)+1):Int)+((x17:Int)*(((frW y_1.kids:Int):Int)+(frK y_1.kids:Int)))):Int)+(frW y_1.kids:Int)));let zz1:=(decide ((x17:Int) < (t.kids.length:Int)));let zz0:=(bif mx0_1 then Zk y_2.words rA (if Z0 a ((1:Int)+((t.kids.length:Int)*(((frW y_1.kids:Int):Int)+(frK y_1.kids:Int)))) then giveS a ((1:Int)+((t.kids.length:Int)*(((frW y_1.kids:Int):Int)+(frK y_1.kids:Int)))) else -1) (((((if Z0 a ((1:Int)+((t.kids.length:Int)*(((frW y_1.kids:Int):Int)+(frK y_1.kids:Int)))) then giveT a ((1:Int)+((t.kids.length:Int)*(((frW y_1.kids:Int):Int)+(frK y_1.kids:Int)))) else -1):Int)+1):Int)+((x17:Int)*(((frW y_1.kids:Int):Int)+(frK y_1.kids:Int)))) else rA);(Tr (zz1=true))/\(Tr (zz1=true))/\(Tr (zz1=true))/\(Tr (zz1=true))/\(((bif zz1 then mx0_1 else false)=true->y_6/\y_4/\y_5/\y_7/\((0:Int)<=x17/\x17 < (t.kids.length:Int))/\(Z4U ((rA,mx0_1,()),(if Z0 a ((1:Int)+((t.kids.length:Int)*(((frW y_1.kids:Int):Int)+(frK y_1.kids:Int)))) then giveS a ((1:Int)+((t.kids.length:Int)*(((frW y_1.kids:Int):Int)+(frK y_1.kids:Int)))) else -1),(((((if Z0 a ((1:Int)+((t.kids.length:Int)*(((frW y_1.kids:Int):Int)+(frK y_1.kids:Int)))) then giveT a ((1:Int)+((t.kids.length:Int)*(((frW y_1.kids:Int):Int)+(frK y_1.kids:Int)))) else -1):Int)+1):Int)+((x17:Int)*(((frW y_1.kids:Int):Int)+(frK y_1.kids:Int)))),y_2.words,()))/\(y_6/\y_4/\y_5/\y_7/\(InR (((((((if Z0 a ((1:Int)+((t.kids.length:Int)*(((frW y_1.kids:Int):Int)+(frK y_1.kids:Int)))) then giveT a ((1:Int)+((t.kids.length:Int)*(((frW y_1.kids:Int):Int)+(frK y_1.kids:Int)))) else -1):Int)+1):Int)+((x17:Int)*(((frW y_1.kids:Int):Int)+(frK y_1.kids:Int)))):Int)+(frW y_1.kids:Int)))/\((0:Int)<=x17/\x17 < (t.kids.length:Int))/\(Z2L ((zz0,mx0_1,()),(if Z0 a ((1:Int)+((t.kids.length:Int)*(((frW y_1.kids:Int):Int)+(frK y_1.kids:Int)))) then giveS a ((1:Int)+((t.kids.length:Int)*(((frW y_1.kids:Int):Int)+(frK y_1.kids:Int)))) else -1),(((((((if Z0 a ((1:Int)+((t.kids.length:Int)*(((frW y_1.kids:Int):Int)+(frK y_1.kids:Int)))) then giveT a ((1:Int)+((t.kids.length:Int)*(((frW y_1.kids:Int):Int)+(frK y_1.kids:Int)))) else -1):Int)+1):Int)+((x17:Int)*(((frW y_1.kids:Int):Int)+(frK y_1.kids:Int)))):Int)+(frW y_1.kids:Int)),y_3,()))/\(Z8I ((zz0,mx0_1,()),(if Z0 a ((1:Int)+((t.kids.length:Int)*(((frW y_1.kids:Int):Int)+(frK y_1.kids:Int)))) then giveS a ((1:Int)+((t.kids.length:Int)*(((frW y_1.kids:Int):Int)+(frK y_1.kids:Int)))) else -1),(((((((if Z0 a ((1:Int)+((t.kids.length:Int)*(((frW y_1.kids:Int):Int)+(frK y_1.kids:Int)))) then giveT a ((1:Int)+((t.kids.length:Int)*(((frW y_1.kids:Int):Int)+(frK y_1.kids:Int)))) else -1):Int)+1):Int)+((x17:Int)*(((frW y_1.kids:Int):Int)+(frK y_1.kids:Int)))):Int)+(frW y_1.kids:Int)),y_3,()) < N)/\((InR ((x17:Int)+1))/\(N0 (Z0P a room s at_ t ((x17:Int)+1) (mx0_1 && y_8.2) (bif mx0_1 then y_8.1 else zz0))))))/\((bif zz1 then mx0_1 else false)=false->Q .normal (⟨[(0,.ptr (.x 0) 0),pL 7,pI 8 (t.kids.length:Int),pI 13 (frW y_1.kids:Int),pI 14 (frK y_1.kids:Int),(15,.c (ci (if Z0 a ((1:Int)+((t.kids.length:Int)*(((frW y_1.kids:Int):Int)+(frK y_1.kids:Int)))) then giveS a ((1:Int)+((t.kids.length:Int)*(((frW y_1.kids:Int):Int)+(frK y_1.kids:Int)))) else -1))),(16,.c (ci (if Z0 a ((1:Int)+((t.kids.length:Int)*(((frW y_1.kids:Int):Int)+(frK y_1.kids:Int)))) then giveT a ((1:Int)+((t.kids.length:Int)*(((frW y_1.kids:Int):Int)+(frK y_1.kids:Int)))) else -1))),pI 17 x17,pB 200 (bif zz1 then mx0_1 else false)],[(.loc 7,(enc .tree t)),(.x 0,[.mref (.A),.bool mx0_1])],[(.A,LC.mk (U:=U) .arena ([rA]) 0)]⟩:LSt U)))):=by kernel_rfl
 exact e_.mpr (by intro y_1 y_2 y_3 y_4 y_5 y_6 y_7 y_8;have hh:=h y_1 (ZX _) y_2 rfl y_3 (ZX _) y_4 rfl y_5 rfl y_6 rfl y_7 rfl y_8 rfl;exact ⟨id,id,id,(by generalize (decide ((x17:Int) < (t.kids.length:Int)))=b0;revert b0;decide),⟨fun c_5=> ⟨(hh.1 c_5).1,(hh.1 c_5).2.1,(hh.1 c_5).2.2.1,(hh.1 c_5).2.2.2.1,(hh.1 c_5).2.2.2.2.1,(hh.1 c_5).2.2.2.2.2.1,⟨(hh.1 c_5).2.2.2.2.2.2.1,(hh.1 c_5).2.2.2.2.2.2.2.1,(hh.1 c_5).2.2.2.2.2.2.2.2.1,(hh.1 c_5).2.2.2.2.2.2.2.2.2.1,(hh.1 c_5).2.2.2.2.2.2.2.2.2.2.1,(hh.1 c_5).2.2.2.2.2.2.2.2.2.2.2.1,(hh.1 c_5).2.2.2.2.2.2.2.2.2.2.2.2.1,(hh.1 c_5).2.2.2.2.2.2.2.2.2.2.2.2.2.1,⟨(hh.1 c_5).2.2.2.2.2.2.2.2.2.2.2.2.2.2.1,(hh.1 c_5).2.2.2.2.2.2.2.2.2.2.2.2.2.2.2⟩⟩⟩,fun c_5=> (hh.2 c_5)⟩⟩)
abbrev Zgy(N:Nat)(a:Arena)(room:Bool)(s at_:Int)(t:Tree)(x19_a:Int)(x18_a:List Int)(N1:NT)(Q:QT):=AW (Z1 (YR N)) Try.f28 Z6L [1,1,1,0,1,1,1,1,1,1,1,1,1,0,1,0,0] (Z0O a room s at_ t x19_a x18_a) (xT N1 (xB 1 (SW (Z1 (YR N)) Try.f28 Z6L [1,1,1,0,1,1,1,1,1,1,1,1,1,1] (xB 0 Q))))
theorem ZgX(N:Nat)(a:Arena)(room:Bool)(s at_:Int)(t:Tree)(x19_a:Int)(x18_a:List Int)(N1:NT)(Q:QT)(h:∀ y_1,y_1=(t.kids.getD x19_a.toNat Tree.nil)->∀ y_2,y_2=(Z5 a ((ZF (t.kind - 2) x18_a).length:Int))->∀ y_3,y_3=(room && Z0 a ((ZF (t.kind - 2) x18_a).length:Int))->∀ y_4,y_4=(IntKind.wrap .u64 ((8:Int)*(IntKind.wrap .u64 (t.kids.length:Int))))->∀ y_5,y_5=(IntKind.wrap .u64 (((IntKind.wrap .u64 (t.kind - 2)):Int)+y_4))->∀ y_6,y_6=(Zu y_2 s at_ (if Z0 a ((ZF (t.kind - 2) x18_a).length:Int) then giveS a ((ZF (t.kind - 2) x18_a).length:Int) else -1) (if Z0 a ((ZF (t.kind - 2) x18_a).length:Int) then giveT a ((ZF (t.kind - 2) x18_a).length:Int) else -1) 1 y_5)->((decide (x19_a < (t.kids.length:Int)))=true->((0:Int)<=x19_a/\x19_a < (t.kids.length:Int))/\((0:Int)<=0/\0 < (y_1.words.length:Int))/\((x18_a.length+([List.getD y_1.words (Int.toNat 0) (0:Int)]).length)*8<=140737488355328)/\((InR (x19_a+1))/\(N1 (Z0O a room s at_ t (x19_a+1) (x18_a++([List.getD y_1.words (Int.toNat 0) (0:Int)]))))))/\((decide (x19_a < (t.kids.length:Int)))=false->(InR (t.kind - 2))/\(Zc3 ((t.kind - 2),x18_a,()))/\((Z0h ((a,room,()),((ZF (t.kind - 2) x18_a).length:Int),()))/\((InR (t.kind - 2))/\(Z1O ((y_2,y_3,()),s,at_,(if Z0 a ((ZF (t.kind - 2) x18_a).length:Int) then giveS a ((ZF (t.kind - 2) x18_a).length:Int) else -1),(if Z0 a ((ZF (t.kind - 2) x18_a).length:Int) then giveT a ((ZF (t.kind - 2) x18_a).length:Int) else -1),1,y_5,()))/\((Z4U (((bif y_3 then y_6.1 else y_2),(y_3 && y_6.2),()),(if Z0 a ((ZF (t.kind - 2) x18_a).length:Int) then giveS a ((ZF (t.kind - 2) x18_a).length:Int) else -1),(if Z0 a ((ZF (t.kind - 2) x18_a).length:Int) then giveT a ((ZF (t.kind - 2) x18_a).length:Int) else -1),(ZF (t.kind - 2) x18_a),()))/\(Q .normal (⟨[],[(.x 0,[.mref (.A),.bool (y_3 && y_6.2)])],[(.A,LC.mk (U:=U) .arena ([bif (y_3 && y_6.2) then Zk (ZF (t.kind - 2) x18_a) (bif y_3 then y_6.1 else y_2) (if Z0 a ((ZF (t.kind - 2) x18_a).length:Int) then giveS a ((ZF (t.kind - 2) x18_a).length:Int) else -1) (if Z0 a ((ZF (t.kind - 2) x18_a).length:Int) then giveT a ((ZF (t.kind - 2) x18_a).length:Int) else -1) else (bif y_3 then y_6.1 else y_2)]) 0)]⟩:LSt U))))))):
  Zgy N a room s at_ t x19_a x18_a N1 Q:=by
 have e_:(Zgy N a room s at_ t x19_a x18_a N1 Q)=(let y_1:=(t.kids.getD x19_a.toNat Tree.nil);let y_2:=(Z5 a ((ZF (t.kind - 2) x18_a).length:Int));let y_3:=(room && Z0 a ((ZF (t.kind - 2) x18_a).length:Int));let y_4:=(IntKind.wrap .u64 ((8:Int)*(IntKind.wrap .u64 (t.kids.length:Int))));let y_5:=(IntKind.wrap .u64 (((IntKind.wrap .u64 (t.kind - 2)):Int)+y_4));let y_6:=(Zu y_2 s at_ (if Z0 a ((ZF (t.kind - 2) x18_a).length:Int) then giveS a ((ZF (t.kind - 2) x18_a).length:Int) else -1) (if Z0 a ((ZF (t.kind - 2) x18_a).length:Int) then giveT a ((ZF (t.kind - 2) x18_a).length:Int) else -1) 1 y_5);let zz1:=(bif y_3 then y_6.1 else y_2);let zz0:=(decide ((x19_a:Int) < (t.kids.length:Int)));((zz0=true->((0:Int)<=x19_a/\x19_a < (t.kids.length:Int))/\((0:Int)<=0/\0 < (y_1.words.length:Int))/\((x18_a.length+([List.getD y_1.words (Int.toNat 0) (0:Int)]).length)*8<=140737488355328)/\((InR ((x19_a:Int)+1))/\(N1 (Z0O a room s at_ t ((x19_a:Int)+1) (x18_a++([List.getD y_1.words (Int.toNat 0) (0:Int)]))))))/\(zz0=false->(InR (t.kind - 2))/\(Zc3 ((t.kind - 2),x18_a,()))/\((Z0h ((a,room,()),((ZF (t.kind - 2) x18_a).length:Int),()))/\((InR (t.kind - 2))/\(Z1O ((y_2,y_3,()),s,at_,(if Z0 a ((ZF (t.kind - 2) x18_a).length:Int) then giveS a ((ZF (t.kind - 2) x18_a).length:Int) else -1),(if Z0 a ((ZF (t.kind - 2) x18_a).length:Int) then giveT a ((ZF (t.kind - 2) x18_a).length:Int) else -1),1,y_5,()))/\((Z4U ((zz1,(y_3 && y_6.2),()),(if Z0 a ((ZF (t.kind - 2) x18_a).length:Int) then giveS a ((ZF (t.kind - 2) x18_a).length:Int) else -1),(if Z0 a ((ZF (t.kind - 2) x18_a).length:Int) then giveT a ((ZF (t.kind - 2) x18_a).length:Int) else -1),(ZF (t.kind - 2) x18_a),()))/\(Q .normal (⟨[],[(.x 0,[.mref (.A),.bool (y_3 && y_6.2)])],[(.A,LC.mk (U:=U) .arena ([bif (y_3 && y_6.2) then Zk (ZF (t.kind - 2) x18_a) zz1 (if Z0 a ((ZF (t.kind - 2) x18_a).length:Int) then giveS a ((ZF (t.kind - 2) x18_a).length:Int) else -1) (if Z0 a ((ZF (t.kind - 2) x18_a).length:Int) then giveT a ((ZF (t.kind - 2) x18_a).length:Int) else -1) else zz1]) 0)]⟩:LSt U)))))))):=by kernel_rfl
 exact e_.mpr (by intro y_1 y_2 y_3 y_4 y_5 y_6;have hh:=h y_1 rfl y_2 rfl y_3 rfl y_4 rfl y_5 rfl y_6 rfl;exact ⟨fun c_6=> ⟨(hh.1 c_6).1,(hh.1 c_6).2.1,(hh.1 c_6).2.2.1,⟨(hh.1 c_6).2.2.2.1,(hh.1 c_6).2.2.2.2⟩⟩,fun c_6=> ⟨(hh.2 c_6).1,(hh.2 c_6).2.1,⟨(hh.2 c_6).2.2.1,⟨(hh.2 c_6).2.2.2.1,(hh.2 c_6).2.2.2.2.1,⟨(hh.2 c_6).2.2.2.2.2.1,(hh.2 c_6).2.2.2.2.2.2⟩⟩⟩⟩⟩)
abbrev ZlL(N:Nat)(a:Arena)(room:Bool)(s at_:Int)(t:Tree):Prop:=AW (Z1 (YR N)) Try.f28 Z6L [] (ZI (Z4B.can ((a,room,()),s,at_,t,())) (Z4B.canX ((a,room,()),s,at_,t,())) (Z4B.canL ((a,room,()),s,at_,t,()))) (ZK cfg Try.f28.ntmps Try.f28.results.toList (Z9K ((a,room,()),s,at_,t,())) (Z1J ((a,room,()),s,at_,t,())) (Z1L ((a,room,()),s,at_,t,())))
abbrev ZmE:Prop:=∀ (N:Nat) (a:Arena) (room:Bool) (s:Int) (at_:Int) (t:Tree) (_:Unit),Z4V ((a,room,()),s,at_,t,())->ZeM ((a,room,()),s,at_,t,()) < N+1->ZlL N a room s at_ t
def Z4n(N:Nat):List (FuncId × Fs U):=YR N
def Zdd:Zc U:=fun i=> match i with
 | 0=> ([(0,[]),(1,[]),(2,[]),(7,[])],[(.loc 7,[]),(.x 0,[.ar])])
 | 1=> ([(0,[]),(1,[]),(2,[]),(7,[]),(8,[])],[(.loc 7,[]),(.x 0,[.ar])])
 | 2=> ([(0,[]),(1,[]),(2,[]),(7,[]),(8,[]),(19,[])],[(.loc 7,[]),(.x 0,[.ar])])
 | 3=> ([(0,[]),(1,[]),(2,[]),(7,[]),(8,[])],[(.loc 7,[]),(.x 0,[.ar])])
 | 4=> ([(0,[]),(1,[]),(2,[]),(7,[]),(8,[])],[(.loc 7,[]),(.x 0,[.ar])])
 | _=> ([],[])
def Z05(a:Arena)(room:Bool)(s at_:Int)(t:Tree)(x8:Int)(mx0_1:Bool)(rA:Arena):LSt U:=(⟨[(0,.ptr (.x 0) 0),pI 1 s,pI 2 at_,pL 7,pI 8 x8],[(.loc 7,(enc .tree t)),(.x 0,[.mref (.A),.bool mx0_1])],[(.A,LC.mk (U:=U) .arena ([rA]) 0)]⟩:LSt U)
abbrev W51(N:Nat)(a:Arena)(room:Bool)(s at_:Int)(t:Tree)(Q:QT):=AW (Z1 (Z4n N)) Try.f51 Zdd [] (⟨[(0,.ptr (.x 0) 0),pI 1 s,pI 2 at_,(3,.agg (enc .tree t))],[(.x 0,[.mref (.A),.bool room])],[(.A,LC.mk (U:=U) .arena ([a]) 0)]⟩:LSt U) Q
abbrev Zi2(N:Nat):=awp cfg (Z1 (Z4n N)) (ZA cfg (Z1 (Z4n N))) Try.f51.ntmps Zdd
theorem Zne(N:Nat)(a:Arena)(room:Bool)(s at_:Int)(t:Tree)(Q:QT)(h:Zo (AW (Z1 (Z4n N)) Try.f51 Zdd [1,1,0,0]) (Z05 a room s at_ t 0 room a) (xB 0 Q)):
  W51 N a room s at_ t Q:=by
 have e_:(W51 N a room s at_ t Q)=(Zo (Zi2 N (cd Try.f51 [1,1,0,0])) (Z05 a room s at_ t 0 room a) (xB 0 Q)):=by kernel_rfl
 exact e_.mpr h
abbrev Zgs(N:Nat)(a:Arena)(room:Bool)(s at_:Int)(t:Tree)(x8:Int)(mx0_1:Bool)(rA:Arena)(N0:NT)(Q:QT):=AW (Z1 (Z4n N)) Try.f51 Zdd [1,1,0,0] (Z05 a room s at_ t x8 mx0_1 rA) (xT N0 (xB 0 Q))
theorem ZbB(N:Nat)(a:Arena)(room:Bool)(s at_:Int)(t:Tree)(x8:Int)(mx0_1:Bool)(rA:Arena)(N0:NT)(Q:QT)(h:((bif (decide (x8 < (t.kids.length:Int))) then mx0_1 else false)=true->(InR (at_+x8))/\((0:Int)<=x8/\x8 < (t.kids.length:Int))/\(Z4V ((rA,mx0_1,()),s,(at_+x8),(Tree.mk (Tree.kind (t.kids.getD x8.toNat Tree.nil)) (Tree.words (t.kids.getD x8.toNat Tree.nil)) (Tree.kids (t.kids.getD x8.toNat Tree.nil))),()))/\(ZeM ((rA,mx0_1,()),s,(at_+x8),(Tree.mk (Tree.kind (t.kids.getD x8.toNat Tree.nil)) (Tree.words (t.kids.getD x8.toNat Tree.nil)) (Tree.kids (t.kids.getD x8.toNat Tree.nil))),()) < N)/\((InR (x8+1))/\(N0 (Z05 a room s at_ t (x8+1) ((Zx (Tree.mk (Tree.kind (t.kids.getD x8.toNat Tree.nil)) (Tree.words (t.kids.getD x8.toNat Tree.nil)) (Tree.kids (t.kids.getD x8.toNat Tree.nil))) rA s (at_+x8)).2) ((Zx (Tree.mk (Tree.kind (t.kids.getD x8.toNat Tree.nil)) (Tree.words (t.kids.getD x8.toNat Tree.nil)) (Tree.kids (t.kids.getD x8.toNat Tree.nil))) rA s (at_+x8)).1)))))/\((bif (decide (x8 < (t.kids.length:Int))) then mx0_1 else false)=false->Q .normal (⟨[(0,.ptr (.x 0) 0),pI 1 s,pI 2 at_,pL 7,pI 8 x8,(19,.c (.bool (bif (decide (x8 < (t.kids.length:Int))) then mx0_1 else false)))],[(.loc 7,(enc .tree t)),(.x 0,[.mref (.A),.bool mx0_1])],[(.A,LC.mk (U:=U) .arena ([rA]) 0)]⟩:LSt U))):
  Zgs N a room s at_ t x8 mx0_1 rA N0 Q:=by
 have e_:(Zgs N a room s at_ t x8 mx0_1 rA N0 Q)=(let zz0:=(decide ((x8:Int) < (t.kids.length:Int)));(Tr (zz0=true))/\(Tr (zz0=true))/\(Tr (zz0=true))/\(Tr (zz0=true))/\(((bif zz0 then mx0_1 else false)=true->(InR ((at_:Int)+x8))/\((0:Int)<=x8/\x8 < (t.kids.length:Int))/\(Z4V ((rA,mx0_1,()),s,((at_:Int)+x8),(Tree.mk (Tree.kind (t.kids.getD x8.toNat Tree.nil)) (Tree.words (t.kids.getD x8.toNat Tree.nil)) (Tree.kids (t.kids.getD x8.toNat Tree.nil))),()))/\(ZeM ((rA,mx0_1,()),s,((at_:Int)+x8),(Tree.mk (Tree.kind (t.kids.getD x8.toNat Tree.nil)) (Tree.words (t.kids.getD x8.toNat Tree.nil)) (Tree.kids (t.kids.getD x8.toNat Tree.nil))),()) < N)/\((InR ((x8:Int)+1))/\(N0 (Z05 a room s at_ t ((x8:Int)+1) ((Zx (Tree.mk (Tree.kind (t.kids.getD x8.toNat Tree.nil)) (Tree.words (t.kids.getD x8.toNat Tree.nil)) (Tree.kids (t.kids.getD x8.toNat Tree.nil))) rA s ((at_:Int)+x8)).2) ((Zx (Tree.mk (Tree.kind (t.kids.getD x8.toNat Tree.nil)) (Tree.words (t.kids.getD x8.toNat Tree.nil)) (Tree.kids (t.kids.getD x8.toNat Tree.nil))) rA s ((at_:Int)+x8)).1)))))/\((bif zz0 then mx0_1 else false)=false->Q .normal (⟨[(0,.ptr (.x 0) 0),pI 1 s,pI 2 at_,pL 7,pI 8 x8,pB 19 (bif zz0 then mx0_1 else false)],[(.loc 7,(enc .tree t)),(.x 0,[.mref (.A),.bool mx0_1])],[(.A,LC.mk (U:=U) .arena ([rA]) 0)]⟩:LSt U)))):=by kernel_rfl
 exact e_.mpr ⟨id,id,id,(by generalize (decide ((x8:Int) < (t.kids.length:Int)))=b0;revert b0;decide),⟨fun c_7=> ⟨(h.1 c_7).1,(h.1 c_7).2.1,(h.1 c_7).2.2.1,(h.1 c_7).2.2.2.1,⟨(h.1 c_7).2.2.2.2.1,(h.1 c_7).2.2.2.2.2⟩⟩,fun c_7=> (h.2 c_7)⟩⟩
abbrev Zlu(N:Nat)(a:Arena)(room:Bool)(s at_:Int)(t:Tree):Prop:=AW (Z1 (Z4n N)) Try.f51 Zdd [] (ZI (Z4B.can ((a,room,()),s,at_,t,())) (Z4B.canX ((a,room,()),s,at_,t,())) (Z4B.canL ((a,room,()),s,at_,t,()))) (ZK cfg Try.f51.ntmps Try.f51.results.toList (Z9K ((a,room,()),s,at_,t,())) (Z44 ((a,room,()),s,at_,t,())) (Z46 ((a,room,()),s,at_,t,())))
abbrev ZmB:Prop:=∀ (N:Nat) (a:Arena) (room:Bool) (s:Int) (at_:Int) (t:Tree) (_:Unit),Z2L ((a,room,()),s,at_,t,())->Z8I ((a,room,()),s,at_,t,()) < N+1->Zlu N a room s at_ t
theorem Zhq(c27:CT 27 Z0s)(c49:CT 49 Z8j)(c50:CT 50 Z8i)(c52:CT 52 Z0r)(c38:CT 38 Z8l)(c53:CT 53 Z8h)(b28:ZmE)(b51:ZmB):
  CT 28 Z40/\CT 51 ZdJ:=by
 have h28 : ∃ fn, Try.prog.funcs[(28 : FuncId)]? = some fn ∧ fn.body.isSome = true ∧ (fn.name == "runtime.NumGoroutine") = false := ⟨Try.f28, Try.func28, rfl, rfl⟩
 have h51 : ∃ fn, Try.prog.funcs[(51 : FuncId)]? = some fn ∧ fn.body.isSome = true ∧ (fn.name == "runtime.NumGoroutine") = false := ⟨Try.f51, Try.func51, rfl, rfl⟩
 have key:∀ N,CT 28 (Ys Z4B (fun a=> [Z4V a,ZeM a < N]) Z9K Z1J Z1L)/\CT 51 (Ys Z4B (fun a=> [Z2L a,Z8I a < N]) Z9K Z44 Z46):=by
  intro N
  induction N with
  | zero=> exact ⟨Z0S h28,Z0S h51⟩
  | succ N ih=>
   have kn:=JI (l:=YR N) ⟨ih.1,ih.2,c27,c49,c50,c52,c38,c53,trivial⟩
   exact ⟨YA (Γ:=Z1 (YR N)) Zf rfl kn Z6L Try.func28 rfl rfl (fun a=> by show 4<=_;decide) (fun ⟨⟨a,room,_⟩,s,at_,t,_⟩ h=> b28 N a room s at_ t () h.1 h.2.1),
    YA (Γ:=Z1 (YR N)) Zf rfl kn Zdd Try.func51 rfl rfl (fun a=> by show 4<=_;decide) (fun ⟨⟨a,room,_⟩,s,at_,t,_⟩ h=> b51 N a room s at_ t () h.1 h.2.1)⟩
 exact ⟨Z0T fun N=> (key N).1,Z0T fun N=> (key N).2⟩
end
end
noncomputable section
def Ze9(a:Tree × Int × Int × Unit):V U:= .tup [(false,[sU .words (if (Z4 a.1 a.2.1 a.2.2.1).2=true then (Z4 a.1 a.2.1 a.2.2.1).1.segs else []) .unk]),(false,[.bool ((Z4 a.1 a.2.1 a.2.2.1).2)])]
def Z9w:Fs U:=fs Zbr (fun a=> [ZaS a]) Ze9
def ZkK:Zc U:=lvl [([0,1],[]),([0,1,6],[]),([0,1],[]),([0,1,8],[]),([0,1],[]),([0,1,10],[]),([0,1],[]),([4],[14])]
abbrev W26(size most:Int)(Q:QT):=AW (Z1 Zff) Try.f26 ZkK [] (L2 [pI 0 size,pI 1 most] []) Q
theorem Znx(size most:Int)(Q:QT)(h:((decide (size < 1))=true->((decide (most < 0))=true->((decide ((131072:Int) < 0))=true->Q .ret (L2 [(4,.ptr (.loc 14) 0)] [(.loc 14,[.nils,ci 1,ci 131072,ci 0])]))/\((decide ((131072:Int) < 0))=false->Q .ret (L2 [(4,.ptr (.loc 14) 0)] [(.loc 14,[.nils,ci 1,ci 0,ci 0])])))/\((decide (most < 0))=false->((decide ((131072:Int) < most))=true->Q .ret (L2 [(4,.ptr (.loc 14) 0)] [(.loc 14,[.nils,ci 1,ci 131072,ci 0])]))/\((decide ((131072:Int) < most))=false->Q .ret (L2 [(4,.ptr (.loc 14) 0)] [(.loc 14,[.nils,ci 1,ci most,ci 0])]))))/\((decide (size < 1))=false->((decide (most < 0))=true->((decide ((131072:Int) < 0))=true->Q .ret (L2 [(4,.ptr (.loc 14) 0)] [(.loc 14,[.nils,ci size,ci 131072,ci 0])]))/\((decide ((131072:Int) < 0))=false->Q .ret (L2 [(4,.ptr (.loc 14) 0)] [(.loc 14,[.nils,ci size,ci 0,ci 0])])))/\((decide (most < 0))=false->((decide ((131072:Int) < most))=true->Q .ret (L2 [(4,.ptr (.loc 14) 0)] [(.loc 14,[.nils,ci size,ci 131072,ci 0])]))/\((decide ((131072:Int) < most))=false->Q .ret (L2 [(4,.ptr (.loc 14) 0)] [(.loc 14,[.nils,ci size,ci most,ci 0])]))))):
  W26 size most Q:=by
 have e_:(W26 size most Q)=(let zz2:=(decide ((most:Int) < 0));let zz1:=(decide ((131072:Int) < 0));let zz0:=(decide ((131072:Int) < most));(((decide ((size:Int) < 1))=true->((zz2=true->((zz1=true->(Q .ret (L2 [(4,.ptr (.loc 14) 0)] [(.loc 14,[.nils,ci 1,ci 131072,ci 0])])))/\(zz1=false->(Q .ret (L2 [(4,.ptr (.loc 14) 0)] [(.loc 14,[.nils,ci 1,ci 0,ci 0])])))))/\(zz2=false->((zz0=true->(Q .ret (L2 [(4,.ptr (.loc 14) 0)] [(.loc 14,[.nils,ci 1,ci 131072,ci 0])])))/\(zz0=false->(Q .ret (L2 [(4,.ptr (.loc 14) 0)] [(.loc 14,[.nils,ci 1,ci most,ci 0])])))))))/\((decide ((size:Int) < 1))=false->((zz2=true->((zz1=true->(Q .ret (L2 [(4,.ptr (.loc 14) 0)] [(.loc 14,[.nils,ci size,ci 131072,ci 0])])))/\(zz1=false->(Q .ret (L2 [(4,.ptr (.loc 14) 0)] [(.loc 14,[.nils,ci size,ci 0,ci 0])])))))/\(zz2=false->((zz0=true->(Q .ret (L2 [(4,.ptr (.loc 14) 0)] [(.loc 14,[.nils,ci size,ci 131072,ci 0])])))/\(zz0=false->(Q .ret (L2 [(4,.ptr (.loc 14) 0)] [(.loc 14,[.nils,ci size,ci most,ci 0])]))))))))):=by kernel_rfl
 exact e_.mpr ⟨fun c_1=> ⟨fun c_2=> ⟨fun c_3=> (((h.1 c_1).1 c_2).1 c_3),fun c_3=> (((h.1 c_1).1 c_2).2 c_3)⟩,fun c_2=> ⟨fun c_4=> (((h.1 c_1).2 c_2).1 c_4),fun c_4=> (((h.1 c_1).2 c_2).2 c_4)⟩⟩,fun c_1=> ⟨fun c_5=> ⟨fun c_6=> (((h.2 c_1).1 c_5).1 c_6),fun c_6=> (((h.2 c_1).1 c_5).2 c_6)⟩,fun c_5=> ⟨fun c_7=> (((h.2 c_1).2 c_5).1 c_7),fun c_7=> (((h.2 c_1).2 c_5).2 c_7)⟩⟩⟩
abbrev ZlN(size most:Int):Prop:=AW (Z1 Zff) Try.f26 ZkK [] (Zs (ZfQ.can (size,most,())) []) (Z4F cfg Try.f26.ntmps Try.f26.results.toList [] (ZiF (size,most,())))
theorem Zk8(hb:∀ (size:Int) (most:Int) (_:Unit),J2 (size,most,())->ZlN size most):CT 26 Z69:=
 Z2i (l:=[]) Zf rfl trivial ZkK Try.func26 rfl rfl 2 (fun _=> rfl) (by decide) (fun ⟨size,most,_⟩=> hb size most ())
def ZiR:List (FuncId × Fs U):=[(26,ZfP Z69),(25,Z63),(27,Z0s),(13,Z6d),(28,Z40)]
def lv9:Zc U:=fun i=> match i with
 | 0=> ([(1,[]),(2,[]),(3,[])],[(.loc 3,[])])
 | 1=> ([(1,[]),(2,[]),(3,[]),(18,[])],[(.loc 3,[])])
 | 2=> ([(6,[]),(7,[])],[])
 | 3=> ([(3,[]),(8,[])],[(.loc 3,[]),(.loc 23,[.ar])])
 | 4=> ([(3,[]),(8,[]),(9,[]),(10,[])],[(.loc 3,[]),(.loc 23,[.ar])])
 | 5=> ([(3,[]),(8,[]),(9,[]),(10,[]),(32,[])],[(.loc 3,[]),(.loc 23,[.ar])])
 | 6=> ([(8,[])],[(.loc 23,[.ar])])
 | 7=> ([(8,[]),(43,[])],[(.loc 23,[.ar])])
 | 8=> ([(6,[]),(7,[])],[])
 | 9=> ([(6,[]),(7,[]),(48,[.pt .arena])],[])
 | _=> ([],[])
abbrev W9(t:Tree)(size most:Int)(Q:QT):=AW (Z7X ZiR) Try.f9 lv9 [] (L2 [(0,.agg (enc .tree t)),pI 1 size,pI 2 most] []) Q
theorem vc9(t:Tree)(size most:Int)(Q:QT)(h:∀ y_1,y_1=t->∀ y_2,y_2=(Z5 (Arena.mk [] (max size 1) (min (max most 0) 131072) 0) 1)->∀ y_3,y_3=(true && Z0 (Arena.mk [] (max size 1) (min (max most 0) 131072) 0) 1)->∀ y_4,y_4=(Zi y_1)->∀ y_5,y_5=(Zx y_4 y_2 (if Z0 (Arena.mk [] (max size 1) (min (max most 0) 131072) 0) 1 then giveS (Arena.mk [] (max size 1) (min (max most 0) 131072) 0) 1 else -1) (if Z0 (Arena.mk [] (max size 1) (min (max most 0) 131072) 0) 1 then giveT (Arena.mk [] (max size 1) (min (max most 0) 131072) 0) 1 else -1))->(Z2M (y_1,64,()))/\(((bif (!(Z6 y_1 64)) then true else (t.kind==10))=true->Q .ret (L2 [(6,.c (.nils)),pB 7 false] []))/\((bif (!(Z6 y_1 64)) then true else (t.kind==10))=false->(J2 (size,most,()))/\((Z0h (((Arena.mk [] (max size 1) (min (max most 0) 131072) 0),true,()),1,()))/\((y_3=true->(Z4Y (y_1,()))/\(Z4V ((y_2,y_3,()),(if Z0 (Arena.mk [] (max size 1) (min (max most 0) 131072) 0) 1 then giveS (Arena.mk [] (max size 1) (min (max most 0) 131072) 0) 1 else -1),(if Z0 (Arena.mk [] (max size 1) (min (max most 0) 131072) 0) 1 then giveT (Arena.mk [] (max size 1) (min (max most 0) 131072) 0) 1 else -1),y_4,()))/\(((!(y_5.2))=true->Q .ret (L2 [(6,.c (.nils)),pB 7 false] []))/\((!(y_5.2))=false->Q .ret (L2 [(6,.c (sU .words (Arena.segs (y_5.1)) .unk)),pB 7 true,(48,.c (.po (U:=U) .arena (some (y_5.1))))] []))))/\(y_3=false->((!y_3)=true->Q .ret (L2 [(6,.c (.nils)),pB 7 false] []))/\((!y_3)=false->Q .ret (L2 [(6,.c (sU .words (Arena.segs y_2) .unk)),pB 7 true,(48,.c (.po (U:=U) .arena (some y_2)))] [])))))))):
  W9 t size most Q:=by
 have e_:(W9 t size most Q)=(let y_1:=(YY t);let y_2:=(Z5 (Arena.mk [] (max size 1) (min (max most 0) 131072) 0) 1);let y_3:=(true && Z0 (Arena.mk [] (max size 1) (min (max most 0) 131072) 0) 1);let y_4:=(YY (Zi y_1));let y_5:=(Zx y_4 y_2 (if Z0 (Arena.mk [] (max size 1) (min (max most 0) 131072) 0) 1 then giveS (Arena.mk [] (max size 1) (min (max most 0) 131072) 0) 1 else -1) (if Z0 (Arena.mk [] (max size 1) (min (max most 0) 131072) 0) 1 then giveT (Arena.mk [] (max size 1) (min (max most 0) 131072) 0) 1 else -1));let zz0:=(bif (!(Z6 y_1 64)) then true else (t.kind==10));((Z2M (y_1,64,()))/\(Tr ((!(!(Z6 y_1 64)))=true))/\(Tr ((!(!(Z6 y_1 64)))=true))/\((!(Z6 y_1 64))=false->(!(!(Z6 y_1 64)))=true)/\((zz0=true->(Q .ret (L2 [(6,.c (.nils)),pB 7 false] [])))/\(zz0=false->(J2 (size,most,()))/\((Z0h (((Arena.mk [] (max size 1) (min (max most 0) 131072) 0),true,()),1,()))/\((y_3=true->(Z4Y (y_1,()))/\(Z4V ((y_2,y_3,()),(if Z0 (Arena.mk [] (max size 1) (min (max most 0) 131072) 0) 1 then giveS (Arena.mk [] (max size 1) (min (max most 0) 131072) 0) 1 else -1),(if Z0 (Arena.mk [] (max size 1) (min (max most 0) 131072) 0) 1 then giveT (Arena.mk [] (max size 1) (min (max most 0) 131072) 0) 1 else -1),y_4,()))/\(((!(y_5.2))=true->(Q .ret (L2 [(6,.c (.nils)),pB 7 false] [])))/\((!(y_5.2))=false->(Q .ret (L2 [(6,.c (sU .words (Arena.segs (y_5.1)) .unk)),pB 7 true,(48,.c (.po (U:=U) .arena (some (y_5.1))))] [])))))/\(y_3=false->(((!y_3)=true->(Q .ret (L2 [(6,.c (.nils)),pB 7 false] [])))/\((!y_3)=false->(Q .ret (L2 [(6,.c (sU .words (Arena.segs y_2) .unk)),pB 7 true,(48,.c (.po (U:=U) .arena (some y_2)))] []))))))))))):=by kernel_rfl
 exact e_.mpr (by intro y_1 y_2 y_3 y_4 y_5;have hh:=h y_1 (ZX _) y_2 rfl y_3 rfl y_4 (ZX _) y_5 rfl;exact ⟨hh.1,id,id,(by generalize (Z6 y_1 64)=b0;revert b0;decide),⟨fun c_8=> (hh.2.1 c_8),fun c_8=> ⟨(hh.2.2 c_8).1,⟨(hh.2.2 c_8).2.1,⟨fun c_9=> ⟨((hh.2.2 c_8).2.2.1 c_9).1,((hh.2.2 c_8).2.2.1 c_9).2.1,⟨fun c_10=> (((hh.2.2 c_8).2.2.1 c_9).2.2.1 c_10),fun c_10=> (((hh.2.2 c_8).2.2.1 c_9).2.2.2 c_10)⟩⟩,fun c_9=> ⟨fun c_11=> (((hh.2.2 c_8).2.2.2 c_9).1 c_11),fun c_11=> (((hh.2.2 c_8).2.2.2 c_9).2 c_11)⟩⟩⟩⟩⟩⟩)
abbrev ZmG(t:Tree)(size most:Int):Prop:=AW (Z7X ZiR) Try.f9 lv9 [] (Zs (Zbr.can (t,size,most,())) []) (EQ Try.f9 (Ze9 (t,size,most,())) [])
theorem Zmh(c26:CT 26 Z69)(c25:CT 25 Z63)(c27:CT 27 Z0s)(c13:CT 13 Z6d)(c28:CT 28 Z40)(hb:∀ (t:Tree) (size:Int) (most:Int) (_:Unit),ZaS (t,size,most,())->ZmG t size most):CT 9 Z9w:=
 Z2k (l:=[(26,ZfP Z69),(25,Z63),(27,Z0s),(13,Z6d),(28,Z40)]) Zf rfl (⟨Z3P c26,c25,c27,c13,c28,trivial⟩) lv9 Try.func9 rfl rfl 3 (fun _=> rfl) (by decide) (fun ⟨t,size,most,_⟩=> hb t size most ())
end
theorem c83:Contract Try.prog cfg 83 Z5T:=by
 refine ZjA ?_
 intro a to k up _ hp
 obtain ⟨⟨⟨h1,h2⟩,h3,h4⟩,⟨h5,h6⟩,h7,h8⟩:=hp
 dsimp only at h1 h2 h3 h4 h5 h6 h7 h8
 have fin:∀ {x:Int},x=(to - a - 1) % 1073741824->IntKind.wrap .u64 (IntKind.wrap .u64 (IntKind.wrap .u64 (4*x)+k)+IntKind.wrap .u64 (up*4294967296))=Z0b a to k up:=by
  intro x hx
  have hx0:=XE (to - a - 1) (show (1073741824:Int)≠0 by decide)
  have hx1:=Xo (to - a - 1) (show (0:Int) < 1073741824 by decide)
  rw [Z8 (n:=4*x) (by omega) (by omega),Z8 (n:=4*x+k) (by omega) (by omega),Z8 (n:=up*4294967296) (by omega) (by omega),Z8 (by omega) (by omega)]
  unfold Z0b
  omega
 refine ZmV a to k up _ ⟨by ((unfold InR;omega)),by ((unfold InR;omega)),fun h=> ?_,fun h=> ?_⟩
 .have h:to - a - 1 < 0:=of_decide_eq_true h
  exact ⟨by ((unfold InR;omega)),by ((unfold InR;omega)),ZJ rfl (fin (by omega))⟩
 .have h:¬to - a - 1 < 0:=of_decide_eq_false h
  exact ⟨by ((unfold InR;omega)),ZJ rfl (fin (by omega))⟩
theorem c27:Contract Try.prog cfg 27 Z0s:=by
 refine Zk7 c48 ?_
 intro a room n _ h
 have h:OkAr a:=h
 refine Znw a room n _ ⟨h,fun hb=> ?_,fun hb=> ?_⟩
 .have hk:Z0 a n=false:=by
   cases hk:Z0 a n with
   | false=> rfl
   | true=>
    rw [hk] at hb
    have:=(h.giveS n).1
    have hb:giveS a n < 0:=of_decide_eq_true hb
    omega
  simp only [Z8r,ZbS,hk,XW]
  (repeat' (first | exact trivial | exact rfl | apply And.intro))
 .have hk:Z0 a n=true:=by
   cases hk:Z0 a n with
   | true=> rfl
   | false=> rw [hk] at hb;cases hb
  simp only [Z8r,ZbS,hk,Bool.and_true]
  (repeat' (first | exact trivial | exact rfl | apply And.intro))
theorem c52:Contract Try.prog cfg 52 Z0r:=by
 refine ZjS ?_
 intro a room s i w _ hp
 obtain ⟨⟨h,hw⟩,hh⟩:=hp
 dsimp only at h hw hh
 refine Znd a room s i w _ ⟨fun hb=> ?_,fun hb=> ?_⟩
 .subst hb
  have hb:=hh rfl
  have hq:=Zb.1 hb
  rw [ZP hq.1] at hq
  refine ⟨⟨hq.1,hq.2.1⟩,⟨hq.2.2.1,by omega⟩,?_⟩
  simp only [Z8v,cond_true,ZD,hb,if_true]
  rw [ZP hq.1]
  (repeat' (first | exact trivial | exact rfl | apply And.intro))
 .subst hb
  simp only [Z8v,cond_false]
  (repeat' (first | exact trivial | exact rfl | apply And.intro))
theorem c50:Contract Try.prog cfg 50 Z8i:=by
 refine ZjT c52 ?_
 intro a room s at_ l _ hp
 obtain ⟨⟨h,hw⟩,hh,⟨h1,h2⟩,h3⟩:=hp
 dsimp only at h hw hh h1 h2 h3
 refine Znf a room s at_ l _ ?_
 refine Zj (ι:=Int × Arena) (fun p=> Z3G a room s at_ l p.1 p.2) (fun p=> (0<=p.1/\p.1<=l.length)/\p.2=bif room then Zk (l.take p.1.toNat) a s at_ else a) (fun p=> ((l.length:Int) - p.1).toNat) (0,a) rfl ⟨⟨by dsimp only;omega,by dsimp only;omega⟩,by cases room <;> rfl⟩ ?_
 rintro ⟨i,r⟩ ⟨⟨g1,g2⟩,g3⟩
 dsimp only at g1 g2 g3
 have hr:OkAr r:=by
  rw [g3]
  cases room
  .exact h
  .exact Yz _ _ _ h fun x hx=> hw x (XR hx)
 have hg:Gr a r:=by
  rw [g3]
  cases room
  .exact .refl a
  .exact Jr _ _ _ _
 refine ZgN a room s at_ l i r _ _ ⟨fun hb1=> ?_,fun hb1=> ?_⟩
 .have hi:i < l.length:=of_decide_eq_true hb1
  have hw':=J3 hw i.toNat
  refine ⟨by ((unfold InR;omega)),⟨g1,hi⟩,⟨⟨hr,hw'⟩,fun q=> ?_⟩,by ((unfold InR;omega)),(i+1,bif room then ZD r s (at_+i) (l.getD i.toNat 0) else r),rfl,⟨⟨by dsimp only;omega,by dsimp only;omega⟩,?_⟩,by dsimp only;omega⟩
  .have hb:=Zb.1 (hh q)
   exact hg.has (Zb.2 ⟨hb.1,hb.2.1,by dsimp only;omega,by decide,by dsimp only;omega⟩)
  .dsimp only
   have e:l.take (i+1).toNat=l.take i.toNat++[l.getD i.toNat 0]:=by
    rw [show (i+1).toNat=i.toNat+1 by omega,Q6,Q0 (show i.toNat < l.length by omega),QE]
    exact (Xg (by omega)).symm
   cases room with
   | false=> exact g3
   | true=>
    have g3:r=Zk (l.take i.toNat) a s at_:=g3
    simp only [cond_true]
    rw [e,Z48,<-g3,Qc,QU (by omega),Zk,Zk,XV g1]
 .have hi:¬i < l.length:=of_decide_eq_false hb1
  have e:i=l.length:=by omega
  subst e
  rw [Qe,Xf] at g3
  subst g3
  (repeat' (first | exact trivial | exact rfl | apply And.intro))
theorem Z6T{d:Bool}{s o x y:Int}(hs:0<=s/\s < 4294967296)(ho:0<=o/\o < 536870912)(hx:x=8*o+2+if d=true then 4 else 0)(hy:y=4294967296*s):IntKind.wrap .u64 (x+y)=J8 d s o:=by
 unfold J8
 subst hx hy
 cases d
 .simp only [Qd,if_false]
  rw [Z8 (by omega) (by omega)]
  omega
 .simp only [if_true]
  rw [Z8 (by omega) (by omega)]
  omega
set_option maxHeartbeats 1000000 in
theorem c49:Contract Try.prog cfg 49 Z8j:=by
 refine ZjU c52 c83 c84 c27 ?_
 intro a room s at_ seg to k up _ hp
 obtain ⟨h,hh⟩:=hp
 dsimp only at h hh
 have fin:∀ {c:Arena × Bool} {e:AExit} {st:LSt U},Zu a s at_ seg to k up=c->room=true->(e= .ret\/e= .normal)->st.mem=[((.x 0),[.mref (.A),.bool c.2])]->st.ls=[(.A,LC.mk (U:=U) .arena ([c.1]) 0)]->
   ZK cfg Try.f49.ntmps Try.f49.results.toList (Zec ((a,room,()),s,at_,seg,to,k,up,())) (Z6n ((a,room,()),s,at_,seg,to,k,up,())) (Z6p ((a,room,()),s,at_,seg,to,k,up,())) e st:=by
  intro c e st h1 h2 h3 h4 h5
  subst h1 h2
  obtain ⟨env,mem,ls⟩:=st
  dsimp only at h4 h5
  subst h4 h5
  simp only [Z6n,Z6p,QY,cond_true]
  rcases h3 with rfl | rfl <;> (repeat' (first | exact trivial | exact rfl | apply And.intro))
 refine Zng a room s at_ seg to k up _ ?_
 rintro y1 hy1 y2 hy2 y3 hy3 y4 hy4 y5 hy5 y6 hy6 y7 hy7 y8 hy8 y9 hy9 y10 hy10
 refine ⟨fun hb=> ?_,fun hb=> ?_⟩
 .have hb:room=false:=by cases room;rfl;cases hb
  subst hb
  simp only [Z6n,Z6p,XH,cond_false]
  (repeat' (first | exact trivial | exact rfl | apply And.intro))
 have hb:room=true:=by cases room;cases hb;rfl
 subst hb
 obtain ⟨⟨hk,hu⟩,hf,hs,ht⟩:=hh rfl
 have hfb:=Zb.1 hf
 have hl:=h.len s
 have hus:=h.used
 have hfew:=h.few
 have hzz:(bif (k==0) then (up==0) else false)=false->¬(k=0/\up=0):=by
  rintro hz ⟨q1,q2⟩
  rw [q1,q2] at hz
  exact absurd hz (by decide)
 simp only [QY,cond_true]
 refine ⟨fun hz=> ?_,fun hz=> ⟨fun hss=> ?_,fun hss=> ?_⟩⟩
 .have hz:k=0/\up=0:=by
   cases q:(k==0) with
   | false=> rw [q] at hz;cases hz
   | true=> rw [q] at hz;exact ⟨eq_of_beq q,eq_of_beq hz⟩
  refine ⟨⟨⟨h,(show (0:Int)<=4294967292 by decide),(show (4294967292:Int) < 18446744073709551616 by decide)⟩,fun _=> hf⟩,fin (c:=(ZD a s at_ 4294967292,true)) ?_ rfl (.inl rfl) rfl rfl⟩
  unfold Zu pwA
  rw [if_pos (.inr hz),if_pos hz]
 .have hz:=hzz hz
  have hss:s=seg:=eq_of_beq hss
  have hw:=Z4c (a:=at_) (to:=to) hk hu
  refine ⟨⟨⟨⟨by dsimp only;omega,by dsimp only;omega⟩,by dsimp only;omega,by dsimp only;omega⟩,hk,hu⟩,⟨⟨h,hw⟩,fun _=> hf⟩,fin (c:=(ZD a s at_ (Z0b at_ to k up),true)) ?_ rfl (.inl rfl) rfl rfl⟩
  unfold Zu pwA
  rw [if_pos (.inl hss),if_neg hz]
 .have hz:=hzz hz
  have hss:s≠seg:=fun q=> by simp [q] at hss
  have hn:¬(s=seg\/(k=0/\up=0)):=fun q=> q.elim hss hz
  have he:=h.endA seg
  refine ⟨h,fun hi=> ?_,fun hi=> ?_⟩
  .have hi:Yj a seg 1=true:=by
    cases q:Yj a seg 1 with
    | true=> rfl
    | false=> rw [q] at hi;cases hi
   have e0:(if Yj a seg 1=true then ((Za a.segs seg).length:Int) else -1)=endA a seg:=by rw [if_pos hi];try rfl
   rw [e0] at hy5 hy6 ⊢
   have ew:IntKind.wrap .u64 (y8+y1)=J8 false seg (endA a seg):=by
    rw [Z8 (by omega) (by omega)] at hy6
    rw [hy6,Z8 (n:=8*endA a seg) (by omega) (by omega),Z8 (by omega) (by omega)] at hy8
    rw [Z8 (n:=seg) (by omega) (by omega),Z8 (by omega) (by omega)] at hy1
    exact Z6T ⟨by omega,by omega⟩ ⟨by omega,by omega⟩ (by simp only [Qd,if_false];omega) hy1
   have hin:=ZfC hi
   have w1:=Yq (d:=false) (s:=seg) (i:=endA a seg) ⟨by omega,by omega⟩ ⟨by omega,by omega⟩
   have w5:=Z4c (a:=endA a seg) (to:=to) hk hu
   rw [ew,hy5]
   refine ⟨⟨⟨h.inn _ _,w1⟩,fun _=> (Zco a seg 1).has hf⟩,⟨⟨⟨by dsimp only;omega,by dsimp only;omega⟩,by dsimp only;omega,by dsimp only;omega⟩,hk,hu⟩,⟨⟨(h.inn _ _).put _ _ w1,w5⟩,fun _=> (Yd _ _ _ _).has hin⟩,fin rfl rfl (.inl rfl) ?_ ?_⟩
   .unfold Zu
    rw [if_neg hn,if_pos hi]
   .unfold Zu pwA
    rw [if_neg hn,if_pos hi,if_neg hz]
  .have hi:Yj a seg 1=false:=by
    cases q:Yj a seg 1 with
    | false=> rfl
    | true=> rw [q,if_pos rfl] at hi;exact absurd (of_decide_eq_false hi) (by unfold endA at he;omega)
   have ea:inA a seg 1=a:=by unfold inA;rw [if_neg (by rw [hi];decide)]
   rw [ea] at hy3 hy4 ⊢
   refine ⟨h,fun hg=> ?_,fun hg=> ?_⟩
   .have hg:Z0 a 2=false:=by simpa using hg
    have e2:Z5 a 2=a:=by unfold Z5;rw [if_neg (by rw [hg];decide)]
    have ep:Zu a s at_ seg to k up=(a,false):=by
     unfold Zu
     rw [if_neg hn,if_neg (by rw [hi];decide),if_neg (by rw [hg];decide)]
    exact fin ep rfl (.inl rfl) (by rw [hg]) (by rw [e2])
   .have hg:Z0 a 2=true:=by simpa using hg
    have hg2:=h.giveS 2
    have ht2:=h.giveT 2
    have hgh':=Zb.1 (Z2c hg)
    simp only [hg,if_true,cond_true] at hy3 hy4 ⊢
    have ey1:y1=4294967296*seg:=by rw [Z8 (n:=seg) (by omega) (by omega),Z8 (by omega) (by omega)] at hy1;exact hy1
    have e10:y10=J8 true (giveS a 2) (giveT a 2):=by
     rw [Z8 (by omega) (by omega)] at hy3 hy4
     rw [hy4,Z8 (n:=8*giveT a 2) (by omega) (by omega),Z8 (by omega) (by omega)] at hy9
     rw [hy10,hy3,Z8 (n:=4294967296*giveS a 2) (by omega) (by omega)]
     exact Z6T ⟨by omega,by omega⟩ ⟨by omega,by omega⟩ (by rw [if_pos rfl];omega) rfl
    have e7:IntKind.wrap .u64 (y7+y1)=J8 false seg to:=by
     rw [Z8 (n:=to) (by omega) (by omega),Z8 (n:=8*to) (by omega) (by omega),Z8 (by omega) (by omega)] at hy7
     exact Z6T ⟨by omega,by omega⟩ ⟨by omega,by omega⟩ (by simp only [Qd,if_false];omega) ey1
    have ey2:y2=k+4294967296*up:=by
     rw [Z8 (n:=up*4294967296) (by omega) (by omega),Z8 (by omega) (by omega)] at hy2
     omega
    have w10:=Yq (d:=true) (s:=giveS a 2) (i:=giveT a 2) ⟨by omega,by omega⟩ ⟨by omega,by omega⟩
    have w7:=Yq (d:=false) (s:=seg) (i:=to) ⟨by omega,by omega⟩ ⟨by omega,by omega⟩
    rw [e7,e10,ey2]
    have o1:=(h.give 2).put s at_ w10
    have o2:=o1.put (giveS a 2) (giveT a 2) w7
    have k1:Y2 (ZD (Z5 a 2) s at_ (J8 true (giveS a 2) (giveT a 2))).segs (giveS a 2) (giveT a 2) 1=true:=(Yd _ _ _ _).has (Zb.2 ⟨hgh'.1,hgh'.2.1,hgh'.2.2.1,by decide,by omega⟩)
    have k2:Y2 (ZD (ZD (Z5 a 2) s at_ (J8 true (giveS a 2) (giveT a 2))) (giveS a 2) (giveT a 2) (J8 false seg to)).segs (giveS a 2) (giveT a 2+1) 1=true:=((Yd _ _ _ _).trans (Yd _ _ _ _)).has (Zb.2 ⟨hgh'.1,hgh'.2.1,by omega,by decide,by omega⟩)
    refine ⟨⟨⟨h.give 2,w10⟩,fun _=> (JK a 2).has hf⟩,⟨⟨o1,w7⟩,fun _=> k1⟩,by ((unfold InR;omega)),⟨⟨o2,by dsimp only;omega,by dsimp only;omega⟩,fun _=> k2⟩,fin rfl rfl (.inr rfl) ?_ ?_⟩
    .unfold Zu
     rw [if_neg hn,if_neg (by rw [hi];decide),if_pos hg]
    .unfold Zu
     rw [if_neg hn,if_neg (by rw [hi];decide),if_pos hg]
end Go.AM.Ytcljdbpmjdgooaa
