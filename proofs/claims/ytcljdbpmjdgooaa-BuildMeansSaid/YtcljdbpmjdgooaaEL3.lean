import Derived.Test.YtcljdbpmjdgooaaEG1
import Derived.Test.YtcljdbpmjdgooaaEQBa
import Derived.Test.YtcljdbpmjdgooaaEmY
set_option linter.unusedSimpArgs false
set_option linter.unusedVariables false
namespace Go.AM.Ytcljdbpmjdgooaa
open Go.AM Go.Proofs
theorem OkAr.seg{a:Arena}(h:OkAr a):YK a.segs:=by
 refine ⟨by have:=h.few;omega,fun l hl=> ⟨?_,(h.segs l hl).2⟩⟩
 have:=(h.segs l hl).1
 have:=h.used
 omega
theorem YS{l:List (List Int)}{s:Int}(h0:0<=s):Zh l s=l.getD s.toNat []:=by
 unfold Zh
 rw [if_neg (by omega)]
theorem Zg9{l:List (List Int)}{s:Int}(h0:0<=s)(h:s < l.length):Zh l s∈l:=by
 rw [YS h0,Q2,Q0 (show s.toNat < l.length by omega)]
 exact X8 _
theorem Z0y{l:List (List Int)}{s t:Int}{x:List Int}(h0:0<=s)(h:s < l.length):Zh (l.set s.toNat x) t=if t=s then x else Zh l t:=by
 by_cases ht:t < 0
 .rw [if_neg (by omega)]
  unfold Zh
  rw [if_pos ht,if_pos ht]
 .rw [YS (by omega),YS (by omega),Q2,Xd]
  by_cases e:t=s
  .subst e
   rw [if_pos rfl,if_pos rfl,if_pos (by omega)]
   try rfl
  .rw [if_neg (by omega),if_neg e,Q2]
theorem OkAr.len{a:Arena}(h:OkAr a)(s:Int):((Zh a.segs s).length:Int)<=a.used:=by
 by_cases hs:0<=s/\s < a.segs.length
 .exact (h.segs _ (Zg9 hs.1 hs.2)).1
 .have:Zh a.segs s=[]:=by
   by_cases h0:s < 0
   .unfold Zh;rw [if_pos h0]
   .rw [YS (by omega),Q2,Qz (by omega)];try rfl
  rw [this]
  exact h.used.1
theorem OkAr.grow{a:Arena}(h:OkAr a){s n:Int}(h0:0<=n)(hn:n<=a.most - a.used):OkAr (Z01 a s n):=by
 have hu:=h.used
 refine ⟨⟨?_,?_,hu.2.2⟩,h.size,?_,?_⟩
 .show 0<=a.used+n;omega
 .show a.used+n<=a.most;omega
 .show (a.segs.set _ _).length<=16
  rw [QR]
  exact h.few
 .intro l hl
  show (l.length:Int)<=a.used+n/\_
  rcases XL hl with hl | rfl
  .have:=h.segs l hl
   exact ⟨by omega,this.2⟩
  .have:=h.len s
   rw [Qb,Qv]
   refine ⟨by omega,fun x hx=> ?_⟩
   rcases QA.1 hx with hx | hx
   .exact (Yr h.seg s).2 x hx
   .have:=(K4.1 hx).2
    omega
theorem OkAr.inn{a:Arena}(h:OkAr a)(s n:Int):OkAr (inA a s n):=by
 unfold inA
 split
 .rename_i hh
  unfold Z0W at hh
  rw [Q3,decide_eq_true_eq] at hh
  exact h.grow hh.1.2.2.1 hh.1.2.2.2
 .exact h
theorem OkAr.opens{a:Arena}(h:OkAr a)(n:Int):OkAr (Yz a n):=by
 unfold Yz
 split
 .rename_i hh
  refine ⟨h.used,h.size,?_,?_⟩
  .show (a.segs++[[]]).length<=16
   rw [Qb,Xl]
   omega
  .intro l hl
   rcases QA.1 hl with hl | hl
   .exact h.segs l hl
   .rw [Qy.1 hl]
    exact ⟨h.used.1,fun x hx=> by cases hx⟩
 .exact h
theorem Z22(a:Arena)(n:Int):(Yz a n).used=a.used/\(Yz a n).most=a.most/\(Yz a n).size=a.size:=by
 unfold Yz
 split <;> exact ⟨rfl,rfl,rfl⟩
theorem Z5R(a:Arena)(n:Int):0 < (Yz a n).segs.length/\a.segs.length<=(Yz a n).segs.length:=by
 unfold Yz
 split
 .show 0 < (a.segs++[[]]).length/\_<=(a.segs++[[]]).length
  rw [Qb,Xl]
  omega
 .rename_i h
  omega
theorem OkAr.give{a:Arena}(h:OkAr a)(n:Int):OkAr (Zd a n):=by
 unfold Zd
 split
 .rename_i hh
  unfold Z4 at hh
  rw [decide_eq_true_eq] at hh
  have:=Z22 a n
  exact (h.opens n).grow hh.1 (by omega)
 .exact h
theorem OkAr.put{a:Arena}(h:OkAr a)(s i:Int){w:Int}(hw:0<=w/\w < 18446744073709551616):OkAr (ZW a s i w):=by
 unfold ZW
 split
 .rename_i hh
  rw [Z3] at hh
  refine ⟨h.used,h.size,?_,?_⟩
  .show (a.segs.set _ _).length<=16
   rw [QR]
   exact h.few
  .intro l hl
   rcases XL hl with hl | rfl
   .exact h.segs l hl
   .rw [QR]
    refine ⟨h.len s,fun x hx=> ?_⟩
    rcases XL hx with hx | rfl
    .exact (Yr h.seg s).2 x hx
    .exact hw
 .exact h
theorem OkAr.new(size most:Int)(h:size < 9223372036854775808):OkAr (Y6 size most):=by
 refine ⟨⟨QE _,?_,?_⟩,⟨?_,?_⟩,by simp [Y6],fun l hl=> by cases hl⟩
 all_goals (simp only [Y6];omega)
structure Gr (a b:Arena):Prop where
 size:b.size=a.size
 most:b.most=a.most
 len:a.segs.length<=b.segs.length
 seg:∀ s,(Zh a.segs s).length<=(Zh b.segs s).length
theorem Gr.refl(a:Arena):Gr a a:=⟨rfl,rfl,Qn _,fun _=> Qn _⟩
theorem Gr.trans{a b c:Arena}(h:Gr a b)(k:Gr b c):Gr a c:=⟨k.size.trans h.size,k.most.trans h.most,Xh h.len k.len,fun s=> Xh (h.seg s) (k.seg s)⟩
theorem Gr.has{a b:Arena}(h:Gr a b){s i n:Int}(hh:Zc a.segs s i n=true):Zc b.segs s i n=true:=by
 rw [Z3] at hh ⊢
 have:=h.len
 have:=h.seg s
 omega
theorem Zfu(a:Arena){s n:Int}(h0:0<=s)(h:s < a.segs.length):Gr a (Z01 a s n):=by
 refine ⟨rfl,rfl,?_,fun t=> ?_⟩
 .show _<=(a.segs.set _ _).length
  rw [QR];exact Qn _
 .show _<=(Zh (a.segs.set _ _) t).length
  rw [Z0y h0 h]
  split
  .rename_i e
   subst e
   rw [Qb]
   omega
  .exact Qn _
theorem Zft(a:Arena)(s n:Int):Gr a (inA a s n):=by
 unfold inA
 split
 .rename_i hh
  unfold Z0W at hh
  rw [Q3,decide_eq_true_eq] at hh
  exact Zfu a hh.1.1 hh.1.2.1
 .exact .refl a
theorem Zfs(a:Arena)(n:Int):Gr a (Yz a n):=by
 have e:=Z22 a n
 refine ⟨e.2.2,e.2.1,(Z5R a n).2,fun s=> ?_⟩
 unfold Yz
 split
 .show _<=(Zh (a.segs++[[]]) s).length
  by_cases h0:s < 0
  .unfold Zh
   rw [if_pos h0,if_pos h0]
   exact Qn _
  .rw [YS (by omega),YS (by omega),Q2,Q2]
   by_cases hs:s.toNat < a.segs.length
   .rw [Qf hs]
    exact Qn _
   .rw [Qz (XB hs)]
    exact XI _
 .exact Qn _
theorem Jy(a:Arena)(n:Int):Gr a (Zd a n):=by
 unfold Zd
 split
 .have:=Z5R a n
  exact (Zfs a n).trans (Zfu _ (by unfold giveS;omega) (by unfold giveS;omega))
 .exact .refl a
theorem Yw(a:Arena)(s i w:Int):Gr a (ZW a s i w):=by
 unfold ZW
 split
 .rename_i hh
  rw [Z3] at hh
  refine ⟨rfl,rfl,?_,fun t=> ?_⟩
  .show _<=(a.segs.set _ _).length
   rw [QR];exact Qn _
  .show _<=(Zh (a.segs.set _ _) t).length
   rw [Z0y hh.1 hh.2.1]
   split
   .rename_i e
    subst e
    rw [QR]
    exact Qn _
   .exact Qn _
 .exact .refl a
theorem Z1d(a:Arena)(n:Int):0<=giveS a n/\giveS a n < ((Yz a n).segs.length:Int):=by
 have:=Z5R a n
 unfold giveS
 omega
theorem Z0Y{a:Arena}{n:Int}(h:Z4 a n=true):Zc (Zd a n).segs (giveS a n) (giveT a n) n=true:=by
 have hs:=Z1d a n
 have hn:0<=n/\n<=a.most - a.used:=of_decide_eq_true h
 unfold Zd
 rw [if_pos h,Z3]
 have e:Zh (Z01 (Yz a n) (giveS a n) n).segs (giveS a n)=Zh (Yz a n).segs (giveS a n)++List.replicate n.toNat 0:=by
  show Zh ((Yz a n).segs.set _ _) _=_
  rw [Z0y hs.1 hs.2,if_pos rfl]
 refine ⟨hs.1,?_,by unfold giveT;omega,hn.1,?_⟩
 .show _ < (((Yz a n).segs.set _ _).length:Int)
  rw [QR]
  exact hs.2
 .rw [e,Qb,Qv]
  unfold giveT
  omega
theorem Zjv{a:Arena}{s n:Int}(h:Z0W a s n=true):Zc (inA a s n).segs s ((Zh a.segs s).length:Int) n=true:=by
 have hh:=h
 unfold Z0W at hh
 rw [Q3,decide_eq_true_eq] at hh
 unfold inA
 rw [if_pos h,Z3]
 have e:Zh (Z01 a s n).segs s=Zh a.segs s++List.replicate n.toNat 0:=by
  show Zh (a.segs.set _ _) _=_
  rw [Z0y hh.1.1 hh.1.2.1,if_pos rfl]
 refine ⟨hh.1.1,?_,by omega,hh.1.2.2.1,?_⟩
 .show _ < ((a.segs.set _ _).length:Int)
  rw [QR]
  exact hh.1.2.1
 .rw [e,Qb,Qv]
  omega
theorem c71:Contract Try.prog cfg 71 Z2I:=by
 refine Zo8 ?_
 intro a _ hp
 obtain ⟨y,hy0,hy⟩:=hp
 dsimp only at hy0
 subst hy0
 have h1:=hy.used
 refine Zs1 (some y) _ ⟨fun h=> (by cases h),fun _=> ⟨rfl,rfl,rfl,rfl,?_,?_⟩⟩
 .show InR (y.most - y.used)
  ((unfold InR;omega))
 ·(repeat' (first | exact trivial | exact rfl | apply And.intro))
theorem c72:Contract Try.prog cfg 72 Z2H:=by
 refine Zo7 c97 ?_
 intro a s n _ hp
 obtain ⟨y,hy0,hy⟩:=hp
 dsimp only at hy0
 subst hy0
 have h1:=hy.size
 have h2:=hy.len s
 have h3:=hy.used
 refine Zs0 (some y) s n _ ⟨rfl,rfl,hy.seg,?_,?_⟩
 .show InR (y.size - ((Zh y.segs s).length:Int))
  ((unfold InR;omega))
 ·(repeat' (first | exact trivial | exact rfl | apply And.intro))
theorem c73:Contract Try.prog cfg 73 Z2G:=by
 refine Zo6 ?_
 intro a s n _ hp
 obtain ⟨h,⟨h1,h2⟩,h3,h4⟩:=hp
 dsimp only at h h1 h2 h3 h4
 have hu:=h.used
 have hl:=h.len s
 rw [YS h1] at hl
 refine ZrZ a s n _ ⟨⟨h1,h2⟩,⟨h1,h2⟩,⟨h3,by omega⟩,⟨h1,h2⟩,rfl,by ((unfold InR;omega)),?_⟩
 have e:Z01 a s n=Arena.mk (List.set (Arena.segs a) (Int.toNat s) ((List.getD (Arena.segs a) (Int.toNat s) [])++(List.replicate (Int.toNat n) 0))) (Arena.size a) (Arena.most a) (((Arena.used a):Int)+n):=by
  unfold Z01
  rw [YS h1]
 rw [<-e,<-YS h1]
 (repeat' (first | exact trivial | exact rfl | apply And.intro))
theorem c77:Contract Try.prog cfg 77 Z7L:=by
 refine Zo2 Zbm c71 c72 c73 ?_
 intro a s n _ h
 have h:OkAr a:=h
 have hs:okB (some a):=h.seg
 have hy:∃ y,some a=some y/\OkAr y:=⟨a,rfl,h⟩
 refine ZrV a s n _ ⟨fun _=> hs,fun _=> hy,fun _=> hy,?_,?_⟩
 .intro hb
  have hk:Z0W a s n=false:=by
   cases hk:Z0W a s n with
   | false=> rfl
   | true=>
    unfold Z0W at hk
    rw [Q3,decide_eq_true_eq] at hk
    obtain ⟨⟨k1,k2,k3,k4⟩,k5⟩:=hk
    rw [show (decide ((s:Int) < 0))=false from decide_eq_false (by omega),show (decide ((((Z1 (some a)).length:Int):Int)<=s))=false from decide_eq_false (by show ¬(a.segs.length:Int)<=s;omega),
     show (decide ((n:Int) < 0))=false from decide_eq_false (by omega),show (decide ((((arO (some a)).most - (arO (some a)).used):Int) < n))=false from decide_eq_false (by show ¬a.most - a.used < n;omega),show Z2n (arO (some a)) s n=true from k5] at hb
    cases hb
  simp only [ZaS,ZeC,inA,hk,Qs,if_false]
  (repeat' (first | exact trivial | exact rfl | apply And.intro))
 .intro hb
  cases c1:decide ((s:Int) < 0) <;> cases c2:decide ((((Z1 (some a)).length:Int):Int)<=s) <;> cases c3:decide ((n:Int) < 0) <;> cases c4:decide ((((arO (some a)).most - (arO (some a)).used):Int) < n) <;> cases c5:Z2n (arO (some a)) s n <;> rw [c1] at hb <;> rw [c2] at hb <;> rw [c3] at hb <;> rw [c4] at hb <;> rw [c5] at hb <;> try (cases hb;done)
  rw [decide_eq_false_iff_not] at c1 c2 c3 c4
  have c2:¬(a.segs.length:Int)<=s:=c2
  have c4:¬a.most - a.used < n:=c4
  have hk:Z0W a s n=true:=by
   unfold Z0W
   rw [Q3,decide_eq_true_eq]
   exact ⟨⟨by omega,by omega,by omega,by omega⟩,c5⟩
  refine ⟨⟨h,⟨by dsimp only;omega,by dsimp only;omega⟩,by dsimp only;omega,by dsimp only;omega⟩,?_⟩
  simp only [ZaS,ZeC,inA,hk,if_true]
  (repeat' (first | exact trivial | exact rfl | apply And.intro))
theorem c40:Contract Try.prog cfg 40 Z7S:=by
 refine Zoo c71 c72 c73 ?_
 intro a n _ h
 have h:OkAr a:=h
 have hy:∃ y,some a=some y/\OkAr y:=⟨a,rfl,h⟩
 have hf:=h.few
 refine Zsk a n _ ?_
 intro y1 hy1 y2 hy2
 have hy1:y1=Z2n a ((a.segs.length:Int) - 1) n:=hy1
 refine ⟨fun _=> hy,?_,?_⟩
 .intro hb
  have hk:Z4 a n=false:=by
   cases hk:Z4 a n with
   | false=> rfl
   | true=>
    have hk:0<=n/\n<=a.most - a.used:=of_decide_eq_true hk
    rw [show (decide ((n:Int) < 0))=false from decide_eq_false (by omega),show (decide ((((arO (some a)).most - (arO (some a)).used):Int) < n))=false from decide_eq_false (by show ¬a.most - a.used < n;omega)] at hb
    cases hb
  simp only [Z8g,ZbY,Zd,hk,Qs,if_false]
  (repeat' (first | exact trivial | exact rfl | apply And.intro))
 .intro hb
  cases c1:decide ((n:Int) < 0) <;> cases c2:decide ((((arO (some a)).most - (arO (some a)).used):Int) < n) <;> rw [c1] at hb <;> rw [c2] at hb <;> try (cases hb;done)
  rw [decide_eq_false_iff_not] at c1 c2
  have c2:¬a.most - a.used < n:=c2
  have hk:Z4 a n=true:=decide_eq_true ⟨by omega,by omega⟩
  refine ⟨by ((unfold InR;omega)),fun _=> hy,?_,?_⟩
  .intro hd
   have ho:Yz a n=y2:=by
    unfold Yz
    rw [hy2,if_pos]
    .try rfl
    .cases c3:decide ((((((Arena.segs a).length:Int):Int) - 1):Int) < 0) with
     | true=> rw [decide_eq_true_eq] at c3;left;omega
     | false=>
      rw [c3] at hd
      cases c4:y1 with
      | true=> rw [c4] at hd;cases hd
      | false=>
       rw [c4] at hd
       have:(a.segs.length:Int) < 16:=of_decide_eq_true hd
       right
       exact ⟨by rw [<-hy1,c4],by omega⟩
   have hl:y2.segs.length=a.segs.length+1:=by rw [hy2];simp
   have hS:giveS a n=((((((Arena.segs a).length:Int):Int) - 1):Int)+1):=by
    unfold giveS
    rw [ho,hl]
    omega
   have hT:giveT a n=((Zh y2.segs ((((((Arena.segs a).length:Int):Int) - 1):Int)+1)).length:Int):=by
    unfold giveT
    rw [ho,hS]
   have hA:Zd a n=Z01 y2 ((((((Arena.segs a).length:Int):Int) - 1):Int)+1) n:=by
    unfold Zd
    rw [if_pos hk,ho,hS]
   have hu:=Z22 a n
   rw [ho] at hu
   refine ⟨by omega,by ((unfold InR;omega)),⟨by rw [<-ho];exact h.opens n,⟨by dsimp only;omega,by dsimp only;omega⟩,by dsimp only;omega,by dsimp only;omega⟩,?_⟩
   simp only [Z8g,ZbY,hk,if_true]
   rw [<-hA,<-hS]
   rw [show ((Zh y2.segs (giveS a n)).length:Int)=giveT a n by unfold giveT;rw [ho]]
   (repeat' (first | exact trivial | exact rfl | apply And.intro))
  .intro hd
   have hne:¬((((a.segs.length:Int)) - 1):Int) < 0:=by
    intro hc
    rw [show decide ((((((Arena.segs a).length:Int):Int) - 1):Int) < 0)=true from decide_eq_true hc] at hd
    cases hd
   have ho:Yz a n=a:=by
    unfold Yz
    rw [if_neg]
    rintro (hc | ⟨hc,hc2⟩)
    .omega
    .rw [show decide ((((((Arena.segs a).length:Int):Int) - 1):Int) < 0)=false from decide_eq_false hne,hy1,hc,show (decide ((((Arena.segs a).length:Int):Int) < 16))=true from decide_eq_true (by omega)] at hd
     cases hd
   have hS:giveS a n=((((Arena.segs a).length:Int):Int) - 1):=by
    unfold giveS
    rw [ho]
   have hA:Zd a n=Z01 a ((((Arena.segs a).length:Int):Int) - 1) n:=by
    unfold Zd
    rw [if_pos hk,ho,hS]
   refine ⟨⟨h,⟨by dsimp only;omega,by dsimp only;omega⟩,by dsimp only;omega,by dsimp only;omega⟩,?_⟩
   simp only [Z8g,ZbY,hk,if_true]
   rw [<-hA,<-hS]
   rw [show ((Zh a.segs (giveS a n)).length:Int)=giveT a n by unfold giveT;rw [ho]]
   (repeat' (first | exact trivial | exact rfl | apply And.intro))
theorem c79:Contract Try.prog cfg 79 Z7J:=by
 refine Zo0 Z7h ?_
 intro a s i w _ hp
 obtain ⟨h,hw⟩:=hp
 dsimp only at h hw
 refine ZrT a s i w _ ⟨h.seg,fun hb=> ?_,fun hb=> ?_⟩
 .have hb:(!Zc a.segs s i 1)=true:=hb
  have hb:Zc a.segs s i 1=false:=by simpa using hb
  simp only [ZaR,ZeB,ZW,hb,Qs,if_false]
  (repeat' (first | exact trivial | exact rfl | apply And.intro))
 .have hb:(!Zc a.segs s i 1)=false:=hb
  have hb:Zc a.segs s i 1=true:=by simpa using hb
  have hh:=Z3.1 hb
  rw [YS hh.1] at hh
  refine ⟨⟨hh.1,hh.2.1⟩,⟨hh.2.2.1,by omega⟩,?_⟩
  simp only [ZaR,ZeB,ZW,hb,if_true]
  rw [YS hh.1]
  (repeat' (first | exact trivial | exact rfl | apply And.intro))
theorem Z9H(x:Int)(r:List Int):trim (x ::r)=if trim r=[]/\x=0 then [] else x ::trim r:=by
 simp only [trim]
 split
 .rename_i h
  simp only [h]
  split <;> simp_all
 .rename_i h
  simp [h]
theorem Z4d(x:Tree)(r:List Tree):Yp (x ::r)=if Yp r=[]/\x.kind=0 then [] else x ::Yp r:=by
 simp only [Yp]
 split
 .rename_i h
  simp only [h]
  split <;> simp_all
 .rename_i h
  simp [h]
theorem Zgt:Z9 Tree.nil=Tree.nil:=by simp [Tree.nil,Z9]
theorem Z0T(t:Tree):(Z9 t).kind=t.kind:=by
 obtain ⟨k,w,ks⟩:=t
 simp only [Z9]
 split
 .rename_i h;simp [h,Tree.nil]
 .split
  .rename_i h;simp [h]
  .try rfl
theorem Z7x:∀ (l:List Int),∃ r,l=trim l++r
 | []=> ⟨[],rfl⟩
 | x ::r=> by
  obtain ⟨s,hs⟩:=Z7x r
  simp only [trim]
  split
  .rename_i e
   split
   .exact ⟨x ::r,rfl⟩
   .exact ⟨r,rfl⟩
  .rename_i y t e
   rw [e] at hs
   exact ⟨s,by rw [hs];rfl⟩
theorem Z5D:∀ (l:List Tree),∃ r,l=Yp l++r
 | []=> ⟨[],rfl⟩
 | x ::r=> by
  obtain ⟨s,hs⟩:=Z5D r
  simp only [Yp]
  split
  .rename_i e
   split
   .exact ⟨x ::r,rfl⟩
   .exact ⟨r,rfl⟩
  .rename_i y t e
   rw [e] at hs
   exact ⟨s,by rw [hs];rfl⟩
theorem Z8d{list d:Int}:∀ (a b:List Tree),Yh list (a++b) d=true->Yh list a d=true
 | [],_,_=> rfl
 | t ::r,b,h=> by
  simp only [QX,Yh,Q3] at h ⊢
  exact ⟨h.1,Z8d r b h.2⟩
theorem ZgK{list:Int}{t:Tree}(h:Jm list t=true):Jm list (Z9 t)=true:=by
 unfold Jm at h ⊢
 rw [Z0T]
 split at h
 .rename_i hl
  rw [if_pos hl]
  simp only [Q3,decide_eq_true_eq] at h ⊢
  obtain ⟨⟨h1,h2,h3⟩,h4⟩:=h
  obtain ⟨k,w,ks⟩:=t
  simp only [Tree.kind_mk,Tree.kids_mk,Tree.words_mk] at h1 h2 h3 h4
  have:ks=[]:=Qk.1 h2
  subst this
  subst h1
  exact ⟨⟨rfl,rfl,h3⟩,h4⟩
 .rename_i hl
  rw [if_neg hl]
  exact h
mutual
theorem J2:∀ (t:Tree) (d:Int),Z5 t d=true->Z5 (Z9 t) d=true
 | .mk k w ks,d,h=> by
  have ih:=fun (list:Int) (h:Yh list ks (d - 1)=true)=> Z6u ks list (d - 1) h
  simp only [Z5] at h
  simp only [Z9]
  by_cases h0:k=0
  .rw [if_pos h0];simp [Tree.nil,Z5]
  .rw [if_neg h0] at h ⊢
   by_cases h10:k=10
   .subst h10
    rw [if_pos rfl] at h
    rw [if_neg (by decide)]
    simp only [decide_eq_true_eq] at h
    simp only [Z5]
    rw [if_neg (by decide),if_pos trivial,Z0D]
    simpa using h
   .rw [if_neg h10] at h
    by_cases hd:d=0
    .rw [if_pos hd] at h;cases h
    .rw [if_neg hd] at h
     by_cases h1:k=1
     .subst h1
      rw [if_pos rfl] at h
      rw [if_pos rfl]
      simp only [Q3,decide_eq_true_eq] at h
      simp only [Z5]
      rw [if_neg (by decide),if_neg (by decide),if_neg hd,if_pos trivial]
      simp only [Q3,decide_eq_true_eq]
      obtain ⟨r1,e1⟩:=Z7x w
      obtain ⟨r2,e2⟩:=Z5D (ZS ks)
      have l1:=congrArg List.length e1
      have l2:=congrArg List.length e2
      rw [Z0D] at l2
      simp only [Qb] at l1 l2
      refine ⟨⟨by omega,by omega⟩,?_⟩
      have:=ih 1 h.2
      rw [e2] at this
      exact Z8d _ _ this
     .rw [if_neg h1] at h ⊢
      simp only [Q3,decide_eq_true_eq] at h
      simp only [Z5]
      rw [if_neg h0,if_neg h10,if_neg hd,if_neg h1,Z0D]
      simp only [Q3,decide_eq_true_eq]
      exact ⟨h.1,ih k h.2⟩
theorem Z6u:∀ (l:List Tree) (list d:Int),Yh list l d=true->Yh list (ZS l) d=true
 | [],_,_,_=> rfl
 | t ::r,list,d,h=> by
  simp only [Yh,Q3] at h
  have h1:=J2 t d h.1.2
  have h2:=Z6u r list d h.2
  simp only [ZS,Yh,Q3]
  exact ⟨⟨ZgK h.1.1,h1⟩,h2⟩
end
theorem Zg1(l:List Int):trim (trim l)=trim l:=by
 induction l with
 | nil=> rfl
 | cons x r ih=>
  rw [Z9H]
  split
  .try rfl
  .rename_i h
   rw [Z9H,ih,if_neg h]
theorem Zd5(l:List Tree):Yp (Yp l)=Yp l:=by
 induction l with
 | nil=> rfl
 | cons x r ih=>
  rw [Z4d]
  split
  .try rfl
  .rename_i h
   rw [Z4d,ih,if_neg h]
def Normed:List Tree->Prop
 | []=> True
 | t ::r=> Z9 t=t/\Normed r
theorem Normed.eq:∀ {l:List Tree},Normed l->ZS l=l
 | [],_=> rfl
 | t ::r,h=> by simp only [ZS,h.1,Normed.eq h.2]
theorem Normed.trim:∀ {l:List Tree},Normed l->Normed (Yp l)
 | [],_=> trivial
 | t ::r,h=> by
  rw [Z4d]
  split
  .trivial
  .exact ⟨h.1,Normed.trim h.2⟩
mutual
theorem Z8G:∀ (t:Tree),Z9 (Z9 t)=Z9 t
 | .mk k w ks=> by
  have h:=Z5a ks
  by_cases h0:k=0
  .simp [Z9,h0,Tree.nil]
  .by_cases h1:k=1
   .subst h1
    simp only [Z9,if_neg h0,if_true,Zg1,h.trim.eq,Zd5]
   .simp only [Z9,if_neg h0,if_neg h1,h.eq]
theorem Z5a:∀ (ks:List Tree),Normed (ZS ks)
 | []=> trivial
 | t ::r=> ⟨Z8G t,Z5a r⟩
end
theorem ZbV:∀ {a b:List Tree},Z1Y (a++b)↔Z1Y a/\Z1Y b
 | [],b=> by simp [Z1Y]
 | t ::r,b=> by simp only [QX,Z1Y];rw [ZbV (a:=r),and_assoc]
mutual
theorem Z2U:∀ (t:Tree),rng t->rng (Z9 t)
 | .mk k w ks,h=> by
  simp only [rng] at h
  obtain ⟨h1,h2,h3⟩:=h
  have h4:=Z9R ks h3
  simp only [Z9]
  split
  .simp only [Tree.nil,rng,Z1Y]
   exact ⟨by decide,by simp,trivial⟩
  .split
   .obtain ⟨r1,e1⟩:=Z7x w
    obtain ⟨r2,e2⟩:=Z5D (ZS ks)
    simp only [rng]
    refine ⟨by decide,fun x hx=> h2 x (by rw [e1];exact QA.2 (Or.inl hx)),?_⟩
    rw [e2] at h4
    exact (ZbV.1 h4).1
   .simp only [rng]
    exact ⟨h1,h2,h4⟩
theorem Z9R:∀ (l:List Tree),Z1Y l->Z1Y (ZS l)
 | [],_=> trivial
 | t ::r,h=> by
  simp only [Z1Y] at h
  have h1:=Z2U t h.1
  have h2:=Z9R r h.2
  simp only [ZS,Z1Y]
  exact ⟨h1,h2⟩
end
theorem Z5h(t:Tree):1<=Zm t:=by cases t;rw [Zm];omega
theorem Z7q:∀ (ks:List Tree),frW ks+frK ks+ks.length<=Zp ks
 | []=> by simp [frW,frK,Zp]
 | .mk k w l ::r=> by
  have:=Z7q r
  have h:l.length<=Zp l:=by
   clear this
   induction l with
   | nil=> simp
   | cons t l ih=> rw [Zp,Qc];have:=Z5h t;omega
  rw [frW,frK,Zp,Zm,Qc]
  show max w.length _+max l.length _+_<=_
  omega
noncomputable section
noncomputable section
def ZjU:ArgL (Int × Int × Unit):=(.cons (ZQ .i64) (.cons (ZQ .u64) .nil))
def Za4(a:Int × Int × Unit):Prop:=0<=a.2.1/\a.2.1 < 18446744073709551616
def ZmI(a:Int × Int × Unit):V U:= .c (.bool (Z1L a.1 a.2.1))
def Z2E:Fs U:=fs ZjU (fun a=> [Za4 a]) ZmI
def ZmR(a:Int × Unit):V U:= .c (.bool (decide (2<=a.1/\a.1<=9)))
def Z7O:Fs U:=fs ZjV (fun a=> [Z6A a]) ZmR
def Zk2:ArgL (Int × Tree × Unit):=(.cons (ZQ .i64) (.cons (aEl .tree) .nil))
def Zc6(a:Int × Tree × Unit):Prop:=rng a.2.1
def ZmQ(a:Int × Tree × Unit):V U:= .c (.bool (Jm a.1 a.2.1))
def Z7N:Fs U:=fs Zk2 (fun a=> [Zc6 a]) ZmQ
def Z45(a:Tree × Int × Unit):Prop:=Zm a.1<=1000000/\rng a.1/\0<=a.2.1/\a.2.1<=1000
def Z9p(a:Tree × Int × Unit):Nat:=Zm a.1
def ZeH(a:Tree × Int × Unit):V U:= .c (.bool (Z5 a.1 a.2.1))
def Z7T:Fs U:=fs Zkb (fun a=> [Z45 a]) ZeH
def Zf2(a:Tree × Unit):Prop:=Zm a.1<=1000000/\rng a.1
def Zn5(a:Tree × Unit):V U:= .c (.bool (Z5 a.1 64))
def Z7Z:Fs U:=fs Zno (fun a=> [Zf2 a]) Zn5
def ZlF:Z8 U:=lvl [([0,1],[]),([1,5,6],[]),([4],[])]
theorem ZrP(c n:Int)(Q:QT)(h:(Z6A (c,()))/\((((decide (0<=wd c)) && (!(((if wd c < 0 then 0 else wd c):Int)==64)))=true->(0:Int)<=(if wd c < 0 then 0 else wd c))/\(Q .ret (L2 [(4,.c (.bool (bif (decide (0<=wd c)) then (bif (((if wd c < 0 then 0 else wd c):Int)==64) then true else (((Int.fdiv n (2 ^ (min (Int.toNat (if wd c < 0 then 0 else wd c)) (IntKind.bits .u64)))):Int)==0)) else false)))] [])))):
  AW (Z0 Zfh) Try.f89 ZlF [] (L2 [pI 0 c,(1,.c (.int .u64 n))] []) Q:=by
 have e:(AW (Z0 Zfh) Try.f89 ZlF [] (L2 [pI 0 c,(1,.c (.int .u64 n))] []) Q)=(let zz0:=(((if wd c < 0 then 0 else wd c):Int)==64);((Z6A (c,()))/\((Tr ((decide (0<=wd c))=true))/\(Tr ((decide (0<=wd c))=true))/\(Tr (((decide (0<=wd c)) && (!zz0))=true))/\(Tr (((decide (0<=wd c)) && (!zz0))=true))/\(((decide (0<=wd c)) && (!zz0))=true->(0:Int)<=(if wd c < 0 then 0 else wd c))/\(Tr (((decide (0<=wd c)) && (!zz0))=true))/\((decide (0<=wd c))=true->(True->(decide (0<=wd c))=true))/\((decide (0<=wd c))=true->(zz0=false->((decide (0<=wd c)) && (!zz0))=true))/\(Tr ((decide (0<=wd c))=true))/\(Q .ret (L2 [(4,.c (.bool (bif (decide (0<=wd c)) then (bif zz0 then true else (((Int.fdiv n (2 ^ (min (Int.toNat (if wd c < 0 then 0 else wd c)) (IntKind.bits .u64)))):Int)==0)) else false)))] []))))):=by kernel_rfl
 exact e.mpr ⟨h.1,⟨id,id,id,id,h.2.1,id,(by generalize (decide (0<=wd c))=b0;revert b0;decide),(by generalize (((if wd c < 0 then 0 else wd c):Int)==64)=b0;generalize (decide (0<=wd c))=b1;revert b0 b1;decide),(by generalize (decide (0<=wd c))=b0;revert b0;decide),h.2.2⟩⟩
def ZpU(c n:Int):Prop:=AW (Z0 Zfh) Try.f89 ZlF [] (Zi (ZjU.can (c,n,())) []) (EQ Try.f89 (ZmI (c,n,())) [])
theorem ZnW(c88:CT 88 J1)(hb:∀ (c:Int) (n:Int) (_:Unit),Za4 (c,n,())->ZpU c n):CT 89 Z2E:=
 Z2 (l:=[(88,J1)]) Zf rfl (⟨c88,trivial⟩) ZlF Try.func89 rfl rfl 2 (fun _=> rfl) (by decide) (fun ⟨c,n,_⟩=> hb c n ())
theorem Zs3(k:Int)(Q:QT)(h:Q .ret (L2 [(2,.c (.bool (bif (decide ((2:Int)<=k)) then (decide (k<=9)) else false)))] [])):
  AW (Z0 Zj1) Try.f69 ZoV [] (L2 [pI 0 k] []) Q:=by
 have e:(AW (Z0 Zj1) Try.f69 ZoV [] (L2 [pI 0 k] []) Q)=((Tr ((decide ((2:Int)<=k))=true))/\(Tr ((decide ((2:Int)<=k))=true))/\(Q .ret (L2 [(2,.c (.bool (bif (decide ((2:Int)<=k)) then (decide ((k:Int)<=9)) else false)))] []))):=by kernel_rfl
 exact e.mpr ⟨id,(by generalize (decide ((2:Int)<=k))=b0;revert b0;decide),h⟩
def Zq8(k:Int):Prop:=AW (Z0 Zj1) Try.f69 ZoV [] (Zi (ZjV.can (k,())) []) (EQ Try.f69 (ZmR (k,())) [])
theorem Zoa(hb:∀ (k:Int) (_:Unit),Z6A (k,())->Zq8 k):CT 69 Z7O:=
 Z2 (l:=[]) Zf rfl trivial ZoV Try.func69 rfl rfl 1 (fun _=> rfl) (by decide) (fun ⟨k,_⟩=> hb k ())
def ZdK:List (FuncId × Fs U):=[(86,Z2F),(89,Z2E)]
def ZlH:Z8 U:=lvl [([0,3],[3]),([0,3,5],[3]),([4],[]),([3,32],[3]),([4],[]),([4],[])]
theorem Zs2(l:Int)(t:Tree)(Q:QT)(h:(Z6A (l,()))/\(((decide (2<=l/\l<=7))=true->((bif (bif (t.kind==10) then (((t.kids.length:Int):Int)==0) else false) then (((t.words.length:Int):Int)==1) else false)=true->InR (l - 2))/\((bif (bif (t.kind==10) then (((t.kids.length:Int):Int)==0) else false) then (((t.words.length:Int):Int)==1) else false)=true->(0:Int)<=0/\0 < (t.words.length:Int))/\((bif (bif (t.kind==10) then (((t.kids.length:Int):Int)==0) else false) then (((t.words.length:Int):Int)==1) else false)=true->Za4 ((l - 2),(List.getD t.words (Int.toNat 0) (0:Int)),()))/\(Q .ret (L2 [(4,.c (.bool (bif (bif (bif (t.kind==10) then (((t.kids.length:Int):Int)==0) else false) then (((t.words.length:Int):Int)==1) else false) then (Z1L (l - 2) (List.getD t.words (Int.toNat 0) (0:Int))) else false)))] [])))/\((decide (2<=l/\l<=7))=false->((l==9)=true->Q .ret (L2 [pB 4 (t.kind==1)] []))/\((l==9)=false->Q .ret (L2 [pB 4 (t.kind !=10)] []))))):
  AW (Z0 ZdK) Try.f70 ZlH [] (L2 [pI 0 l,(1,.agg (enc .tree t))] []) Q:=by
 have e:(AW (Z0 ZdK) Try.f70 ZlH [] (L2 [pI 0 l,(1,.agg (enc .tree t))] []) Q)=(let zz1:=(bif (t.kind==10) then ((t.kids.length:Int)==0) else false);let zz0:=(bif zz1 then ((t.words.length:Int)==1) else false);((Z6A (l,()))/\(((decide (2<=l/\l<=7))=true->(Tr ((t.kind==10)=true))/\(Tr ((t.kind==10)=true))/\(Tr ((t.kind==10)=true))/\(Tr ((t.kind==10)=true))/\(Tr (zz1=true))/\(Tr (zz1=true))/\(Tr (zz1=true))/\(Tr (zz1=true))/\(Tr (zz0=true))/\(zz0=true->InR ((l:Int) - 2))/\(Tr (zz0=true))/\(Tr (zz0=true))/\(zz0=true->(0:Int)<=0/\0 < (t.words.length:Int))/\(Tr (zz0=true))/\(Tr (zz0=true))/\(Tr (zz0=true))/\(zz0=true->Za4 (((l:Int) - 2),(List.getD t.words (Int.toNat 0) (0:Int)),()))/\(Tr (zz0=true))/\(Q .ret (L2 [(4,.c (.bool (bif zz0 then (Z1L ((l:Int) - 2) (List.getD t.words (Int.toNat 0) (0:Int))) else false)))] [])))/\((decide (2<=l/\l<=7))=false->((((l:Int)==9)=true->(Q .ret (L2 [pB 4 (t.kind==1)] [])))/\(((l:Int)==9)=false->(Q .ret (L2 [pB 4 (t.kind !=10)] [])))))))):=by kernel_rfl
 exact e.mpr ⟨h.1,⟨fun c_10=> ⟨id,id,id,(by generalize ((t.kind:Int)==10)=b0;revert b0;decide),id,id,id,(by generalize (((t.kids.length:Int):Int)==0)=b0;generalize ((t.kind:Int)==10)=b1;revert b0 b1;decide),id,(h.2.1 c_10).1,id,id,(h.2.1 c_10).2.1,id,id,id,(h.2.1 c_10).2.2.1,(by generalize (((t.words.length:Int):Int)==1)=b0;generalize (((t.kids.length:Int):Int)==0)=b1;generalize ((t.kind:Int)==10)=b2;revert b0 b1 b2;decide),(h.2.1 c_10).2.2.2⟩,fun c_10=> ⟨fun c_11=> ((h.2.2 c_10).1 c_11),fun c_11=> ((h.2.2 c_10).2 c_11)⟩⟩⟩
def Zq7(l:Int)(t:Tree):Prop:=AW (Z0 ZdK) Try.f70 ZlH [] (Zi (Zk2.can (l,t,())) []) (EQ Try.f70 (ZmQ (l,t,())) [])
theorem Zo9(c86:CT 86 Z2F)(c89:CT 89 Z2E)(hb:∀ (l:Int) (t:Tree) (_:Unit),Zc6 (l,t,())->Zq7 l t):CT 70 Z7N:=
 Z2 (l:=[(86,Z2F),(89,Z2E)]) Zf rfl (⟨c86,c89,trivial⟩) ZlH Try.func70 rfl rfl 2 (fun _=> rfl) (by decide) (fun ⟨l,t,_⟩=> hb l t ())
def YO(N:Nat):List (FuncId × Fs U):=(39,fs Zkb (fun a=> [Z45 a,Z9p a < N]) ZeH) ::[(69,Z7O),(70,Z7N)]
def Z3Y:Z8 U:=lvl [([1,2],[2]),([1,2,8],[2]),([4],[]),([1,2,22],[2]),([4],[]),([1,2,36],[2]),([4],[]),([1,2,39],[2]),([1,2,52],[2]),([4],[]),([1,2,53],[2]),([4],[]),([1,2,71,72,73],[2]),([1,2,71,72,73,74],[2]),([1,2,6,71,72,73],[2,6]),([1,2,6,7,71,72,73],[2,6]),([1,2,6,7,71,72,73,82],[2,6]),([1,2,6,7,71,72,73],[2,6]),([1,2,71,72,73,95],[2]),([4],[]),([1,2,71,72,73],[2]),([4],[])]
def YU(t:Tree)(d x73:Int):LSt U:=(L2 [pI 1 d,pL 2,(71,.c (sU .tree t.kids .unk)),pI 72 (t.kids.length:Int),pI 73 x73] [(.loc 2,(enc .tree t))])
abbrev Z9i(N:Nat):=awp cfg (Z0 (YO N)) (Y0 cfg (Z0 (YO N))) Try.f39.ntmps Z3Y
abbrev Z8c(N:Nat):=Zd8 cfg (Z0 (YO N)) (Y0 cfg (Z0 (YO N))) Try.f39.ntmps Z3Y
theorem Zsl(N:Nat)(t:Tree)(d:Int)(Q:QT)(h:((t.kind==0)=true->Q .ret (L2 [(4,.c (.bool (bif (((t.words.length:Int):Int)==0) then (((t.kids.length:Int):Int)==0) else false)))] []))/\((t.kind==0)=false->((t.kind==10)=true->Q .ret (L2 [(4,.c (.bool (bif (((t.words.length:Int):Int)==1) then (((t.kids.length:Int):Int)==0) else false)))] []))/\((t.kind==10)=false->((d==0)=true->Q .ret (L2 [pB 4 false] []))/\((d==0)=false->((t.kind==1)=true->((bif (decide ((65536:Int)<=(t.words.length:Int))) then true else (decide ((65536:Int)<=(t.kids.length:Int))))=true->Q .ret (L2 [pB 4 false] []))/\((bif (decide ((65536:Int)<=(t.words.length:Int))) then true else (decide ((65536:Int)<=(t.kids.length:Int))))=false->ZJ (AW (Z0 (YO N)) Try.f39 Z3Y [1,1,0,1,0,0]) (YU t d 0) (xB 1 (SW (Z0 (YO N)) Try.f39 Z3Y [1,1,1] Q))))/\((t.kind==1)=false->(Z6A (t.kind,()))/\(((bif (bif (!(decide (2<=t.kind/\t.kind<=9))) then true else (decide ((0:Int) < (t.words.length:Int)))) then true else (decide ((1048576:Int)<=(t.kids.length:Int))))=true->Q .ret (L2 [pB 4 false] []))/\((bif (bif (!(decide (2<=t.kind/\t.kind<=9))) then true else (decide ((0:Int) < (t.words.length:Int)))) then true else (decide ((1048576:Int)<=(t.kids.length:Int))))=false->ZJ (AW (Z0 (YO N)) Try.f39 Z3Y [1,1,0,1,0,0]) (YU t d 0) (xB 1 (SW (Z0 (YO N)) Try.f39 Z3Y [1,1,1] Q))))))))):
  AW (Z0 (YO N)) Try.f39 Z3Y [] (L2 [(0,.agg (enc .tree t)),pI 1 d] []) Q:=by
 have e:(AW (Z0 (YO N)) Try.f39 Z3Y [] (L2 [(0,.agg (enc .tree t)),pI 1 d] []) Q)=(let zz6:=(decide ((65536:Int)<=(t.kids.length:Int)));let zz5:=(decide ((1048576:Int)<=(t.kids.length:Int)));let zz4:=((t.words.length:Int)==1);let zz3:=((t.words.length:Int)==0);let zz2:=(!(decide (2<=t.kind/\t.kind<=9)));let zz1:=(decide ((65536:Int)<=(t.words.length:Int)));let zz0:=(bif zz2 then true else (decide ((0:Int) < (t.words.length:Int))));(((t.kind==0)=true->(Tr (zz3=true))/\(Tr (zz3=true))/\(Tr (zz3=true))/\(Tr (zz3=true))/\(Q .ret (L2 [pB 4 (bif zz3 then ((t.kids.length:Int)==0) else false)] [])))/\((t.kind==0)=false->(((t.kind==10)=true->(Tr (zz4=true))/\(Tr (zz4=true))/\(Tr (zz4=true))/\(Tr (zz4=true))/\(Q .ret (L2 [pB 4 (bif zz4 then ((t.kids.length:Int)==0) else false)] [])))/\((t.kind==10)=false->((((d:Int)==0)=true->(Q .ret (L2 [pB 4 false] [])))/\(((d:Int)==0)=false->(((t.kind==1)=true->(Tr ((!zz1)=true))/\(Tr ((!zz1)=true))/\(Tr ((!zz1)=true))/\(zz1=false->(!zz1)=true)/\(((bif zz1 then true else zz6)=true->(Q .ret (L2 [pB 4 false] [])))/\((bif zz1 then true else zz6)=false->(ZJ (Z9i N (cd Try.f39 [1,1,0,1,0,0])) (YU t d 0) (xB 1 (Z8c N (cd Try.f39 [1,1,1]) Q))))))/\((t.kind==1)=false->(Z6A (t.kind,()))/\(Tr ((!zz2)=true))/\(Tr ((!zz2)=true))/\(Tr ((!zz2)=true))/\(zz2=false->(!zz2)=true)/\(Tr ((!zz0)=true))/\(Tr ((!zz0)=true))/\(Tr ((!zz0)=true))/\(zz0=false->(!zz0)=true)/\(((bif zz0 then true else zz5)=true->(Q .ret (L2 [pB 4 false] [])))/\((bif zz0 then true else zz5)=false->(ZJ (Z9i N (cd Try.f39 [1,1,0,1,0,0])) (YU t d 0) (xB 1 (Z8c N (cd Try.f39 [1,1,1]) Q)))))))))))))):=by kernel_rfl
 exact e.mpr ⟨fun c_12=> ⟨id,id,id,(by generalize (((t.words.length:Int):Int)==0)=b0;revert b0;decide),(h.1 c_12)⟩,fun c_12=> ⟨fun c_13=> ⟨id,id,id,(by generalize (((t.words.length:Int):Int)==1)=b0;revert b0;decide),((h.2 c_12).1 c_13)⟩,fun c_13=> ⟨fun c_14=> (((h.2 c_12).2 c_13).1 c_14),fun c_14=> ⟨fun c_15=> ⟨id,id,id,(by generalize (decide ((65536:Int)<=(t.words.length:Int)))=b0;revert b0;decide),⟨fun c_16=> (((((h.2 c_12).2 c_13).2 c_14).1 c_15).1 c_16),fun c_16=> (((((h.2 c_12).2 c_13).2 c_14).1 c_15).2 c_16)⟩⟩,fun c_15=> ⟨((((h.2 c_12).2 c_13).2 c_14).2 c_15).1,id,id,id,(by generalize (decide (2<=t.kind/\t.kind<=9))=b0;revert b0;decide),id,id,id,(by generalize (decide ((0:Int) < (t.words.length:Int)))=b0;generalize (decide (2<=t.kind/\t.kind<=9))=b1;revert b0 b1;decide),⟨fun c_17=> (((((h.2 c_12).2 c_13).2 c_14).2 c_15).2.1 c_17),fun c_17=> (((((h.2 c_12).2 c_13).2 c_14).2 c_15).2.2 c_17)⟩⟩⟩⟩⟩⟩
theorem ZkQ(N:Nat)(t:Tree)(d x73:Int)(N0:NT)(Q:QT)(h:((decide (x73 < (t.kids.length:Int)))=true->((0:Int)<=x73/\x73 < (t.kids.length:Int))/\(((t.kind !=1)=true->(Zc6 (t.kind,(Tree.mk (Tree.kind (t.kids.getD x73.toNat Tree.nil)) (Tree.words (t.kids.getD x73.toNat Tree.nil)) (Tree.kids (t.kids.getD x73.toNat Tree.nil))),()))/\(((!(!(Jm t.kind (Tree.mk (Tree.kind (t.kids.getD x73.toNat Tree.nil)) (Tree.words (t.kids.getD x73.toNat Tree.nil)) (Tree.kids (t.kids.getD x73.toNat Tree.nil))))))=true->InR (d - 1))/\((!(!(Jm t.kind (Tree.mk (Tree.kind (t.kids.getD x73.toNat Tree.nil)) (Tree.words (t.kids.getD x73.toNat Tree.nil)) (Tree.kids (t.kids.getD x73.toNat Tree.nil))))))=true->Z45 ((Tree.mk (Tree.kind (t.kids.getD x73.toNat Tree.nil)) (Tree.words (t.kids.getD x73.toNat Tree.nil)) (Tree.kids (t.kids.getD x73.toNat Tree.nil))),(d - 1),()))/\((!(!(Jm t.kind (Tree.mk (Tree.kind (t.kids.getD x73.toNat Tree.nil)) (Tree.words (t.kids.getD x73.toNat Tree.nil)) (Tree.kids (t.kids.getD x73.toNat Tree.nil))))))=true->Z9p ((Tree.mk (Tree.kind (t.kids.getD x73.toNat Tree.nil)) (Tree.words (t.kids.getD x73.toNat Tree.nil)) (Tree.kids (t.kids.getD x73.toNat Tree.nil))),(d - 1),()) < N)/\(((bif (!(Jm t.kind (Tree.mk (Tree.kind (t.kids.getD x73.toNat Tree.nil)) (Tree.words (t.kids.getD x73.toNat Tree.nil)) (Tree.kids (t.kids.getD x73.toNat Tree.nil))))) then true else (!(Z5 (Tree.mk (Tree.kind (t.kids.getD x73.toNat Tree.nil)) (Tree.words (t.kids.getD x73.toNat Tree.nil)) (Tree.kids (t.kids.getD x73.toNat Tree.nil))) (d - 1))))=true->Q .ret (L2 [pB 4 false] []))/\((bif (!(Jm t.kind (Tree.mk (Tree.kind (t.kids.getD x73.toNat Tree.nil)) (Tree.words (t.kids.getD x73.toNat Tree.nil)) (Tree.kids (t.kids.getD x73.toNat Tree.nil))))) then true else (!(Z5 (Tree.mk (Tree.kind (t.kids.getD x73.toNat Tree.nil)) (Tree.words (t.kids.getD x73.toNat Tree.nil)) (Tree.kids (t.kids.getD x73.toNat Tree.nil))) (d - 1))))=false->(InR (x73+1))/\(N0 (YU t d (x73+1)))))))/\((t.kind !=1)=false->((!(!(((Tree.kind (t.kids.getD x73.toNat Tree.nil)):Int) !=10)))=true->InR (d - 1))/\((!(!(((Tree.kind (t.kids.getD x73.toNat Tree.nil)):Int) !=10)))=true->Z45 ((Tree.mk (Tree.kind (t.kids.getD x73.toNat Tree.nil)) (Tree.words (t.kids.getD x73.toNat Tree.nil)) (Tree.kids (t.kids.getD x73.toNat Tree.nil))),(d - 1),()))/\((!(!(((Tree.kind (t.kids.getD x73.toNat Tree.nil)):Int) !=10)))=true->Z9p ((Tree.mk (Tree.kind (t.kids.getD x73.toNat Tree.nil)) (Tree.words (t.kids.getD x73.toNat Tree.nil)) (Tree.kids (t.kids.getD x73.toNat Tree.nil))),(d - 1),()) < N)/\(((bif (!(((Tree.kind (t.kids.getD x73.toNat Tree.nil)):Int) !=10)) then true else (!(Z5 (Tree.mk (Tree.kind (t.kids.getD x73.toNat Tree.nil)) (Tree.words (t.kids.getD x73.toNat Tree.nil)) (Tree.kids (t.kids.getD x73.toNat Tree.nil))) (d - 1))))=true->Q .ret (L2 [pB 4 false] []))/\((bif (!(((Tree.kind (t.kids.getD x73.toNat Tree.nil)):Int) !=10)) then true else (!(Z5 (Tree.mk (Tree.kind (t.kids.getD x73.toNat Tree.nil)) (Tree.words (t.kids.getD x73.toNat Tree.nil)) (Tree.kids (t.kids.getD x73.toNat Tree.nil))) (d - 1))))=false->(InR (x73+1))/\(N0 (YU t d (x73+1))))))))/\((decide (x73 < (t.kids.length:Int)))=false->Q .ret (L2 [pB 4 true] []))):
  AW (Z0 (YO N)) Try.f39 Z3Y [1,1,0,1,0,0] (YU t d x73) (xT N0 (xB 1 (SW (Z0 (YO N)) Try.f39 Z3Y [1,1,1] Q))):=by
 have e:(AW (Z0 (YO N)) Try.f39 Z3Y [1,1,0,1,0,0] (YU t d x73) (xT N0 (xB 1 (SW (Z0 (YO N)) Try.f39 Z3Y [1,1,1] Q))))=(let zz2:=(!(Z5 (Tree.mk (Tree.kind (t.kids.getD x73.toNat Tree.nil)) (Tree.words (t.kids.getD x73.toNat Tree.nil)) (Tree.kids (t.kids.getD x73.toNat Tree.nil))) ((d:Int) - 1)));let zz1:=(!(((Tree.kind (t.kids.getD x73.toNat Tree.nil)):Int) !=10));let zz0:=(!(Jm t.kind (Tree.mk (Tree.kind (t.kids.getD x73.toNat Tree.nil)) (Tree.words (t.kids.getD x73.toNat Tree.nil)) (Tree.kids (t.kids.getD x73.toNat Tree.nil)))));(((decide ((x73:Int) < (t.kids.length:Int)))=true->((0:Int)<=x73/\x73 < (t.kids.length:Int))/\(((t.kind !=1)=true->(Zc6 (t.kind,(Tree.mk (Tree.kind (t.kids.getD x73.toNat Tree.nil)) (Tree.words (t.kids.getD x73.toNat Tree.nil)) (Tree.kids (t.kids.getD x73.toNat Tree.nil))),()))/\((Tr ((!zz0)=true))/\((!zz0)=true->InR ((d:Int) - 1))/\(Tr ((!zz0)=true))/\(Tr ((!zz0)=true))/\((!zz0)=true->Z45 ((Tree.mk (Tree.kind (t.kids.getD x73.toNat Tree.nil)) (Tree.words (t.kids.getD x73.toNat Tree.nil)) (Tree.kids (t.kids.getD x73.toNat Tree.nil))),((d:Int) - 1),()))/\((!zz0)=true->Z9p ((Tree.mk (Tree.kind (t.kids.getD x73.toNat Tree.nil)) (Tree.words (t.kids.getD x73.toNat Tree.nil)) (Tree.kids (t.kids.getD x73.toNat Tree.nil))),((d:Int) - 1),()) < N)/\(Tr ((!zz0)=true))/\(zz0=false->(!zz0)=true)/\(((bif zz0 then true else zz2)=true->(Q .ret (L2 [pB 4 false] [])))/\((bif zz0 then true else zz2)=false->(InR ((x73:Int)+1))/\(N0 (YU t d ((x73:Int)+1)))))))/\((t.kind !=1)=false->(Tr ((!zz1)=true))/\((!zz1)=true->InR ((d:Int) - 1))/\(Tr ((!zz1)=true))/\(Tr ((!zz1)=true))/\((!zz1)=true->Z45 ((Tree.mk (Tree.kind (t.kids.getD x73.toNat Tree.nil)) (Tree.words (t.kids.getD x73.toNat Tree.nil)) (Tree.kids (t.kids.getD x73.toNat Tree.nil))),((d:Int) - 1),()))/\((!zz1)=true->Z9p ((Tree.mk (Tree.kind (t.kids.getD x73.toNat Tree.nil)) (Tree.words (t.kids.getD x73.toNat Tree.nil)) (Tree.kids (t.kids.getD x73.toNat Tree.nil))),((d:Int) - 1),()) < N)/\(Tr ((!zz1)=true))/\(zz1=false->(!zz1)=true)/\(((bif zz1 then true else zz2)=true->(Q .ret (L2 [pB 4 false] [])))/\((bif zz1 then true else zz2)=false->(InR ((x73:Int)+1))/\(N0 (YU t d ((x73:Int)+1))))))))/\((decide ((x73:Int) < (t.kids.length:Int)))=false->(Q .ret (L2 [pB 4 true] []))))):=by kernel_rfl
 exact e.mpr ⟨fun c_18=> ⟨(h.1 c_18).1,⟨fun c_19=> ⟨((h.1 c_18).2.1 c_19).1,⟨id,((h.1 c_18).2.1 c_19).2.1,id,id,((h.1 c_18).2.1 c_19).2.2.1,((h.1 c_18).2.1 c_19).2.2.2.1,id,(by generalize (Jm t.kind (Tree.mk (Tree.kind (t.kids.getD x73.toNat Tree.nil)) (Tree.words (t.kids.getD x73.toNat Tree.nil)) (Tree.kids (t.kids.getD x73.toNat Tree.nil))))=b0;revert b0;decide),⟨fun c_20=> (((h.1 c_18).2.1 c_19).2.2.2.2.1 c_20),fun c_20=> ⟨(((h.1 c_18).2.1 c_19).2.2.2.2.2 c_20).1,(((h.1 c_18).2.1 c_19).2.2.2.2.2 c_20).2⟩⟩⟩⟩,fun c_19=> ⟨id,((h.1 c_18).2.2 c_19).1,id,id,((h.1 c_18).2.2 c_19).2.1,((h.1 c_18).2.2 c_19).2.2.1,id,(by generalize (((Tree.kind (t.kids.getD x73.toNat Tree.nil)):Int) !=10)=b0;revert b0;decide),⟨fun c_21=> (((h.1 c_18).2.2 c_19).2.2.2.1 c_21),fun c_21=> ⟨(((h.1 c_18).2.2 c_19).2.2.2.2 c_21).1,(((h.1 c_18).2.2 c_19).2.2.2.2 c_21).2⟩⟩⟩⟩⟩,fun c_18=> (h.2 c_18)⟩
def Zqq(N:Nat)(t:Tree)(d:Int):Prop:=AW (Z0 (YO N)) Try.f39 Z3Y [] (Zi (Zkb.can (t,d,())) []) (EQ Try.f39 (ZeH (t,d,())) [])
theorem Zop(c69:CT 69 Z7O)(c70:CT 70 Z7N)(hb:∀ (N:Nat) (t:Tree) (d:Int) (_:Unit),Z45 (t,d,())->Z9p (t,d,()) < N+1->Zqq N t d):CT 39 Z7T:=
 YB (μ:=Z9p) (l:=[(69,Z7O),(70,Z7N)]) Zf rfl (⟨c69,c70,trivial⟩) Z3Y Try.func39 rfl rfl 2 (fun _=> rfl) (by decide) (fun N ⟨t,d,_⟩=> hb N t d ())
def ZdR:List (FuncId × Fs U):=[(39,Z7T)]
theorem Zsx(t:Tree)(Q:QT)(h:(Z45 ((Tree.mk t.kind t.words t.kids),64,()))/\(Q .ret (L2 [pB 2 (Z5 (Tree.mk t.kind t.words t.kids) 64)] []))):
  AW (Z0 ZdR) Try.f20 Zp8 [] (L2 [(0,.agg (enc .tree t))] []) Q:=by
 have e:(AW (Z0 ZdR) Try.f20 Zp8 [] (L2 [(0,.agg (enc .tree t))] []) Q)=(type_of% h):=by kernel_rfl
 exact e.mpr ⟨h.1,h.2⟩
def ZqC(t:Tree):Prop:=AW (Z0 ZdR) Try.f20 Zp8 [] (Zi (Zno.can (t,())) []) (EQ Try.f20 (Zn5 (t,())) [])
theorem ZoA(c39:CT 39 Z7T)(hb:∀ (t:Tree) (_:Unit),Zf2 (t,())->ZqC t):CT 20 Z7Z:=
 Z2 (l:=[(39,Z7T)]) Zf rfl (⟨c39,trivial⟩) Zp8 Try.func20 rfl rfl 1 (fun _=> rfl) (by decide) (fun ⟨t,_⟩=> hb t ())
end
end
mutual
theorem Z1X:∀ (t:Tree) (d l:Int),0<=ZR t d l->(Zm t:Int)+ZR t d l<=l
 | .mk _ w ks,d,l,h=> by
  simp only [ZR] at h ⊢
  split at h
  .omega
  .rename_i hc
   rw [if_neg hc]
   have:=Z3Z ks (d - 1) (l - 1 - w.length) h
   simp only [Zm]
   omega
theorem Z3Z:∀ (ks:List Tree) (d l:Int),0<=Y1 ks d l->(Zp ks:Int)+Y1 ks d l<=l
 | [],d,l,h=> by simp [Y1,Zp]
 | t ::r,d,l,h=> by
  simp only [Y1] at h ⊢
  split at h
  .omega
  .rename_i hc
   rw [if_neg hc]
   have h1:=Z3Z r d (ZR t d l) h
   have h3:=(Z0N r d (ZR t d l) (Z1j t d l).1).2
   have h2:=Z1X t d l (by omega)
   simp only [Zp]
   omega
end
theorem ZjF(n:Int)(w:Nat)(h:0<=n):(Int.fdiv n (2 ^ w)=0)↔n < 2 ^ w:=by
 have hp:(0:Int) < 2 ^ w:=Kf (by omega)
 rw [XG _ (by omega)]
 constructor
 .intro h1
  have:=Int.lt_ediv_add_one_mul_self n hp
  rw [h1] at this
  simpa using this
 .intro h1
  exact Int.ediv_eq_zero_of_lt h h1
theorem c89:Contract Try.prog cfg 89 Z2E:=by
 refine ZnW c88 ?_
 intro c n _ hp
 simp only [Za4] at hp
 have hw:=ZqM c
 refine ZrP _ _ _ ?_
 refine ⟨trivial,fun h=> by split <;> omega,Zw rfl ?_⟩
 simp only [Z1L]
 by_cases h0:0<=wd c
 .rw [if_neg (by omega)]
  simp only [h0,decide_true,cond_true,true_and]
  by_cases h64:wd c=64
  .simp [h64]
   omega
  .have:((wd c)==64)=false:=by simpa using h64
   rw [this,cond_false,QO]
   have hm:min (wd c).toNat (IntKind.bits .u64)=(wd c).toNat:=by
    show min (wd c).toNat 64=_
    omega
   rw [hm]
   simp only [beq_iff_eq,decide_eq_true_eq]
   exact ZjF n _ hp.1
 .simp [h0]
theorem c69:Contract Try.prog cfg 69 Z7O:=by
 refine Zoa ?_
 intro c _ _
 refine Zs3 _ _ ?_
 refine Zw rfl ?_
 rw [QO]
 (simp only [vcS])
theorem Zhp{t:Tree}(h:rng t){i:Nat}(hi:i < t.words.length):0<=t.words.getD i 0/\t.words.getD i 0 < 18446744073709551616:=by
 obtain ⟨k,w,ks⟩:=t
 simp only [rng] at h
 simp only [Tree.words_mk] at*
 have hg:w.getD i 0∈w:=by
  simp only [List.getD,Q0 hi,Qu]
  exact X8 hi
 exact h.2.1 _ hg
theorem c70:Contract Try.prog cfg 70 Z7N:=by
 refine Zo9 c86 c89 ?_
 intro l t _ hp
 simp only [Zc6] at hp
 refine Zs2 _ _ _ ?_
 (simp only [vcS])
 refine ⟨trivial,fun hd=> ⟨fun _=> by unfold InR;omega,fun h=> by omega,fun h=> Zhp hp (by omega),Zw rfl ?_⟩,fun hd=> ⟨fun h=> Zw rfl ?_,fun h=> Zw rfl ?_⟩⟩
 .simp only [Jm,if_pos hd,Int.toNat_zero]
  rw [QO]
  (simp only [vcS])
  constructor <;> (rintro ⟨h1,h2⟩;exact ⟨by omega,h2⟩)
 .simp only [Jm,if_neg hd,if_pos h]
  rw [QO]
  (simp only [vcS])
 .simp only [Jm,if_neg hd,if_neg h]
  rw [QO]
  (simp only [vcS])
theorem ZbW{l:Int}{ks:List Tree}{i:Int}{d:Int}(h0:0<=i)(h:i < ks.length):
  Yh l (ks.drop i.toNat) d=((Jm l (ks.getD i.toNat Tree.nil) && Z5 (ks.getD i.toNat Tree.nil) d) && Yh l (ks.drop (i+1).toNat) d):=by
 have e:(i+1).toNat=i.toNat+1:=by omega
 rw [QP (by omega),e]
 simp only [Yh,List.getD,Q0 (show i.toNat < ks.length by omega),Qu]
theorem ZbU:∀ {ks:List Tree} {i:Nat},Z1Y ks->i < ks.length->rng (ks.getD i Tree.nil)
 | t ::_,0,h,_=> by simp only [Z1Y] at h;exact h.1
 | _ ::r,i+1,h,hi=> by simp only [Z1Y] at h;exact ZbU (ks:=r) (i:=i) h.2 (by simpa using hi)
theorem Zcr(t:Tree):Jm 1 t=decide (t.kind≠10):=by simp [Jm]
theorem c39:Contract Try.prog cfg 39 Z7T:=by
 refine Zop c69 c70 ?_
 rintro N ⟨k,ws,ks⟩ d _ hp hN
 simp only [Z45,Z9p,Zm,rng] at hp hN
 have key:∀ b,d≠0->Z5 (.mk k ws ks) d=(b && Yh k ks (d - 1))->b=true->
   ZJ (awp cfg (Z0 (YO N)) (Y0 cfg (Z0 (YO N))) Try.f39.ntmps Z3Y (cd Try.f39 [1,1,0,1,0,0])) (YU (.mk k ws ks) d 0) (AExit.inBlock 1 (Zd8 cfg (Z0 (YO N)) (Y0 cfg (Z0 (YO N))) Try.f39.ntmps Z3Y (cd Try.f39 [1,1,1]) (Yg cfg Try.f39.ntmps Try.f39.results.toList (ZeH (.mk k ws ks,d,())) []))):=by
  intro b hd0 hb hbt
  subst hbt
  rw [K5] at hb
  refine Zr (ι:=Int) (fun p=> YU (.mk k ws ks) d p) (fun p=> 0<=p/\p<=ks.length/\Z5 (.mk k ws ks) d=Yh k (ks.drop p.toNat) (d - 1)) (fun p=> ((ks.length:Int) - p).toNat) 0 rfl ⟨by omega,by omega,by simpa using hb⟩ ?_
  rintro i ⟨h1,h2,h3⟩
  refine ZkQ N _ _ _ _ _ ?_
  (simp only [vcS])
  (simp only [Tree.eta,Tree.kind_mk,Tree.words_mk,Tree.kids_mk])
  refine ⟨fun hi=> ⟨⟨by omega,hi⟩,?_⟩,fun hi=> ?_⟩
  .have hd:=ZbW (l:=k) (d:=d - 1) h1 hi
   have hm:=Jc (ks:=ks) (i:=i.toNat) (by omega)
   have hr:=ZbU (i:=i.toNat) hp.2.1.2.2 (by omega)
   rw [hd] at h3
   have hlen:=JG ks
   generalize ks.getD i.toNat Tree.nil=y at*
   have hpre:Z45 (y,d - 1,()):=⟨by dsimp only;omega,hr,by dsimp only;omega,by dsimp only;omega⟩
   have hmu:Z9p (y,d - 1,()) < N:=by simp only [Z9p];omega
   have hin:InR (d - 1):=by unfold InR;omega
   refine ⟨fun hk=> ⟨hr,fun _=> hin,fun _=> hpre,fun _=> hmu,fun hc=> Zw rfl ?_,fun hc=> ⟨by unfold InR;omega,i+1,rfl,⟨by omega,by omega,?_⟩,by omega⟩⟩,fun hk=> ⟨fun _=> hin,fun _=> hpre,fun _=> hmu,fun hc=> Zw rfl ?_,fun hc=> ⟨by unfold InR;omega,i+1,rfl,⟨by omega,by omega,?_⟩,by omega⟩⟩⟩
   .rw [h3]
    rcases hc with hc | hc <;> simp [hc]
   .rw [h3,hc.1,hc.2];try rfl
   .subst hk
    rw [h3,Zcr]
    rcases hc with hc | hc <;> simp [hc]
   .subst hk
    rw [h3,Zcr,hc.2]
    simp [hc.1]
  .rw [QK (by omega)] at h3
   simp only [Yh] at h3
   exact Zw rfl h3.symm
 refine Zsl N _ _ _ ?_
 (simp only [vcS])
 (simp only [Tree.eta,Tree.kind_mk,Tree.words_mk,Tree.kids_mk])
 have hk0:∀ h0:k=0,Z5 (.mk k ws ks) d=decide (ws.length=0/\ks.length=0):=fun h0=> by simp only [Z5,if_pos h0]
 have hk10:∀ (_:¬k=0) (h10:k=10),Z5 (.mk k ws ks) d=decide (ws.length=1/\ks.length=0):=fun h0 h10=> by simp only [Z5,if_neg h0,if_pos h10]
 refine ⟨fun h0=> Zw rfl ?_,fun h0=> ⟨fun h10=> Zw rfl ?_,fun h10=> ⟨fun hd=> Zw rfl ?_,fun hd=> ⟨fun h1=> ⟨fun hc=> Zw rfl ?_,fun hc=> key true hd ?_ rfl⟩,fun h1=> ⟨trivial,fun hc=> Zw rfl ?_,fun hc=> key true hd ?_ rfl⟩⟩⟩⟩⟩
 .rw [hk0 h0,QO];(simp only [vcS]);omega
 .rw [hk10 h0 h10,QO];(simp only [vcS]);omega
 .simp only [Z5,if_neg h0,if_neg h10,if_pos hd]
 .simp only [Z5,if_neg h0,if_neg h10,if_neg hd,if_pos h1]
  rw [decide_eq_false (by omega)];try rfl
 .simp only [Z5,if_neg h0,if_neg h10,if_neg hd,if_pos h1]
  rw [decide_eq_true (by omega),h1]
 .simp only [Z5,if_neg h0,if_neg h10,if_neg hd,if_neg h1]
  rw [decide_eq_false (by omega)];try rfl
 .simp only [Z5,if_neg h0,if_neg h10,if_neg hd,if_neg h1]
  rw [decide_eq_true (by omega)]
theorem c20:Contract Try.prog cfg 20 Z7Z:=by
 refine ZoA c39 ?_
 intro t _ hp
 refine Zsx _ _ ?_
 (simp only [Tree.eta,Tree.kind_mk,Tree.words_mk,Tree.kids_mk])
 exact ⟨⟨hp.1,hp.2,by dsimp only;omega,by dsimp only;omega⟩,Zw rfl rfl⟩
noncomputable section
def ZmJ(a:Int × Int × Unit):V U:= .c (ci (YI a.1 a.2.1))
def Z7I:Fs U:=fs ZjM (fun a=> [Jg a]) ZmJ
def Ze8:ArgL (Int × List Int × Unit):=(.cons (ZQ .i64) (.cons (aSl .u64) .nil))
def Znc(a:Int × List Int × Unit):Prop:=okW a.2.1/\a.2.1.length<=1099511627776
def Z9U(a:Int × List Int × Unit):V U:= .tup [(false,[sU .u64 (JX a.1 a.2.1) .unk]),(false,[.bool (Ju a.1 a.2.1)])]
def Zhk:Fs U:=fs Ze8 (fun a=> [Znc a]) Z9U
def ZoU:Z8 U:=lvl [([0,1],[]),([1,5,6],[]),([1,5,21],[]),([4],[]),([4],[])]
abbrev A87(p:List Nat):=AW (Z0 Zfh) Try.f87 ZoU p
theorem ZrR(c n:Int)(Q:QT)(h:let z1:= !(decide (0<=wd c));let z0:=bif z1 then true else (decide (n < 0));let z2:=bif z0 then true else (decide ((1099511627776:Int) < n));((Z6A (c,()))/\((Tr ((!z1)=true))/\(z1=false->(!z1)=true)/\(Tr ((!z0)=true))/\(z0=false->(!z0)=true)/\((z2=true->(Q .ret (L2 [pI 4 0] [])))/\(z2=false->(InR (n*(if wd c < 0 then 0 else wd c)))/\(InR (((n*(if wd c < 0 then 0 else wd c)):Int)+63))/\((64:Int)≠0)/\(Q .ret (L2 [(4,.c (ci (IntKind.wrap .i64 (Int.tdiv (((n*(if wd c < 0 then 0 else wd c)):Int)+63) 64))))] []))))))):
  A87 [] (L2 [pI 0 c,pI 1 n] []) Q:=
 Eq.mpr (by kernel_rfl) h
def ZpW(c n:Int):Prop:=AW (Z0 Zfh) Try.f87 ZoU [] (Zi (ZjM.can (c,n,())) []) (EQ Try.f87 (ZmJ (c,n,())) [])
theorem ZnY(c88:CT 88 J1)(hb:∀ (c:Int) (n:Int) (_:Unit),Jg (c,n,())->ZpW c n):CT 87 Z7I:=
 Z2 (l:=[(88,J1)]) Zf rfl (⟨c88,trivial⟩) ZoU Try.func87 rfl rfl 2 (fun _=> rfl) (by decide) (fun ⟨c,n,_⟩=> hb c n ())
def ZdM:List (FuncId × Fs U):=[(88,J1),(87,Z7I),(89,Z2E)]
def ZlK:Z8 U:=fun i=> match i with
 | 0=> ([(0,[]),(1,[])],[])
 | 1=> ([(0,[]),(1,[]),(6,[]),(7,[])],[])
 | 2=> ([(0,[]),(1,[]),(6,[]),(17,[])],[])
 | 3=> ([(4,[]),(5,[])],[])
 | 4=> ([(0,[]),(1,[]),(6,[]),(8,[.wr .u64])],[])
 | 5=> ([(0,[]),(6,[]),(8,[.wr .u64]),(23,[]),(24,[]),(25,[])],[])
 | 6=> ([(0,[]),(6,[]),(8,[.wr .u64]),(23,[]),(24,[]),(25,[]),(26,[])],[])
 | 7=> ([(0,[]),(6,[]),(8,[.wr .u64]),(9,[]),(10,[]),(23,[]),(24,[]),(25,[])],[])
 | 8=> ([(0,[]),(6,[]),(8,[.wr .u64]),(9,[]),(10,[]),(23,[]),(24,[]),(25,[]),(33,[])],[])
 | 9=> ([(4,[]),(5,[])],[])
 | 10=> ([(0,[]),(6,[]),(8,[.wr .u64]),(9,[]),(10,[]),(23,[]),(24,[]),(25,[]),(35,[])],[])
 | 11=> ([(0,[]),(6,[]),(8,[.wr .u64]),(23,[]),(24,[]),(25,[])],[])
 | 12=> ([(0,[]),(6,[]),(8,[.wr .u64]),(23,[]),(24,[]),(25,[])],[])
 | 13=> ([(4,[]),(5,[])],[])
 | _=> ([],[])
def Z3g(c:Int)(ns:List Int)(x25:Int)(re_8_0:List Int):LSt U:=(⟨[pI 0 c,pI 6 (if wd c < 0 then 0 else wd c),(8,.c (.mref (.e 8 0))),(23,.c (sU .u64 ns .unk)),pI 24 (ns.length:Int),pI 25 x25],[],[(.e 8 0,LC.mk (U:=U) .u64 re_8_0 0)]⟩:LSt U)
abbrev A60(p:List Nat):=AW (Zcq ZdM) Try.f60 ZlK p
abbrev S60(p:List Nat):=SW (Zcq ZdM) Try.f60 ZlK p
theorem Zsc(c:Int)(ns:List Int)(Q:QT)(h:let z0:=YI c (ns.length:Int);((Z6A (c,()))/\(((!(decide (0<=wd c)))=true->(Q .ret (L2 [(4,.c (.nils)),pB 5 false] [])))/\((!(decide (0<=wd c)))=false->(Jg (c,(ns.length:Int),()))/\((0:Int)<=YI c (ns.length:Int)/\(z0:Int)*((8:Nat):Int)<=140737488355328/\(YI c (ns.length:Int):Int)<=9223372036854775807)/\((YI c (ns.length:Int):Int)=z0)/\(ZJ (A60 [1,1,1,1,0,1,0,0]) (Z3g c ns 0 (List.replicate (Int.toNat z0) (0:Int))) (xB 0 (S60 [1,1,1,1,1] Q))))))):
  A60 [] (L2 [pI 0 c,(1,.c (sU .u64 ns .unk))] []) Q:=
 Eq.mpr (by kernel_rfl) h
theorem ZkL(c:Int)(ns:List Int)(x25:Int)(re_8_0:List Int)(N0:NT)(Q:QT)(h:∀ y_1,y_1=(ns.getD x25.toNat (0:Int))->∀ y_2,y_2=(Int.tdiv (x25*(if wd c < 0 then 0 else wd c)) 64)->let z5:=decide (x25 < (ns.length:Int));let z4:=IntKind.bits .u64;let z3:=InR (x25*(if wd c < 0 then 0 else wd c));let z2:=Int.tmod (x25*(if wd c < 0 then 0 else wd c)) 64;let z1:=decide ((0:Int) < (if wd c < 0 then 0 else wd c));let z0:=IntKind.wrap .i64 y_2;((z5=true->((0:Int)<=x25/\x25 < (ns.length:Int))/\((Za4 (c,y_1,()))/\(((!(Z1L c y_1))=true->(Q .ret (L2 [(4,.c (.nils)),pB 5 false] [])))/\((!(Z1L c y_1))=false->((z1=true->z3/\((64:Int)≠0)/\((0:Int)<=z0/\z0 < (re_8_0.length:Int))/\z3/\((64:Int)≠0)/\((0:Int)<=z2)/\((0:Int)<=z0/\z0 < (re_8_0.length:Int))/\((0:Nat)<=(Int.toNat z0))/\((InR (x25+1))/\(N0 (Z3g c ns (x25+1) (List.set re_8_0 (Int.toNat z0) (IntKind.wrap .u64 (BitVec.ofInt z4 (List.getD re_8_0 (Int.toNat z0) (0:Int)) ||| BitVec.ofInt z4 (IntKind.wrap .u64 (y_1*2 ^ (min (Int.toNat z2) z4)))).toNat))))))/\(z1=false->(InR (x25+1))/\(N0 (Z3g c ns (x25+1) re_8_0))))))))/\(z5=false->(Q .ret (L2 [(4,.c (sU .u64 re_8_0 (.own (.e 4 0)))),pB 5 true] []))))):
  A60 [1,1,1,1,0,1,0,0] (Z3g c ns x25 re_8_0) (xT N0 (xB 0 (S60 [1,1,1,1,1] Q))):=
 Eq.mpr (by kernel_rfl) (h _ rfl _ rfl)
def Zqh(c:Int)(ns:List Int):Prop:=AW (Zcq ZdM) Try.f60 ZlK [] (Zi (Ze8.can (c,ns,())) []) (EQ Try.f60 (Z9U (c,ns,())) [])
theorem Zoi(c88:CT 88 J1)(c87:CT 87 Z7I)(c89:CT 89 Z2E)(hb:∀ (c:Int) (ns:List Int) (_:Unit),Znc (c,ns,())->Zqh c ns):CT 60 Zhk:=
 Z94 (l:=[(88,J1),(87,Z7I),(89,Z2E)]) Zf rfl (⟨c88,c87,c89,trivial⟩) ZlK Try.func60 rfl rfl 2 (fun _=> rfl) (by decide) (fun ⟨c,ns,_⟩=> hb c ns ())
end
theorem Zdb{c n:Int}(h0:0<=n)(h1:n<=1099511627776):0<=YI c n/\YI c n<=1099511627776:=by
 unfold YI
 split
 .omega
 .rcases Z5B c with e | e | e | e | e | e
  .omega
  all_goals (rw [e];omega)
theorem c87:Contract Try.prog cfg 87 Z7I:=by
 refine ZnY c88 ?_
 intro c n _ _
 refine ZrR _ _ _ ?_
 (simp only [vcT,vcS])
 refine ⟨trivial,fun h=> ZC rfl ?_,fun h=> ?_⟩
 .show (0:Int)=YI c n
  unfold YI
  rw [if_pos (by omega)]
 .rw [if_neg (show ¬wd c < 0 by omega)]
  have hb:0<=n*wd c/\n*wd c<=70368744177664:=by
   rcases Z0H c with e | e | e | e | e | e | e
   .omega
   all_goals (rw [e];omega)
  have hq:Int.tdiv (n*wd c+63) 64=(n*wd c+63) / 64:=QY (by omega)
  rw [hq,Jp (n:=(n*wd c+63) / 64) (by omega) (by omega)]
  refine ⟨by ((unfold InR;omega)),by ((unfold InR;omega)),by decide,ZC rfl ?_⟩
  show _=YI c n
  unfold YI
  by_cases h0:wd c < 1
  .rw [if_pos (.inl h0),show wd c=0 by omega];simp
  .rw [if_neg (by omega)]
theorem Zlk{c:Int}{ns:List Int}(h:Ju c ns=false):JX c ns=[]:=by unfold JX;rw [h];try rfl
theorem ZhX{c:Int}{ns:List Int}(h:Ju c ns=true):JX c ns=J3 c ns:=by unfold JX;rw [h];try rfl
theorem ZgR{c:Int}{ns:List Int}(h:wd c < 0):Ju c ns=false:=by
 unfold Ju
 rw [decide_eq_false (by omega)];try rfl
theorem ZgS{c:Int}{ns:List Int}{i:Nat}(hi:i < ns.length)(h:Z1L c (ns.getD i 0)=false):Ju c ns=false:=by
 cases e:Ju c ns with
 | false=> rfl
 | true=> rw [Z1K e hi] at h;cases h
theorem ZgT{c:Int}{ns:List Int}(h0:0<=wd c)(h:∀ i,i < ns.length->Z1L c (ns.getD i 0)=true):Ju c ns=true:=by
 unfold Ju
 rw [Q3,Qg]
 refine ⟨decide_eq_true h0,fun x hx=> ?_⟩
 obtain ⟨i,hi,rfl⟩:=QZ hx
 have:=h i hi
 rwa [Q2,Q0 hi] at this
theorem ZhY{c:Int}{ns:List Int}(hn:okW ns)(hl:(ns.length:Int)<=1099511627776){i:Int}(h0:0<=i)(h1:i < ns.length)(hf:∀ j:Nat,(j:Int) < i->Z1L c (ns.getD j 0)=true)(hw:1<=wd c):Zh9 c (Z4l c ns i) i:=by
 have:=Z8o hw hn hl i.toNat (by omega) fun j hj=> hf j (by omega)
 rwa [show ((i.toNat:Nat):Int)=i by omega] at this
theorem Z8z{x y:Int}{a:Nat}(hx:0<=x)(hx':x < 2 ^ a)(hy:0<=y)(hs:x+y*2 ^ a < 18446744073709551616):
  IntKind.wrap .u64 (BitVec.ofInt (IntKind.bits .u64) x ||| BitVec.ofInt (IntKind.bits .u64) (y*2 ^ a)).toNat=x+y*2 ^ a:=by
 have hp:=J4 a
 have h1:0<=y*2 ^ a:=Qw hy (Xc hp)
 have e:∀ z:Int,0<=z->z < 18446744073709551616->(BitVec.ofInt (IntKind.bits .u64) z).toNat=z.toNat:=by
  intro z z0 z1
  simp [IntKind.bits]
  omega
 rw [Kd,e x hx (by omega),e _ h1 (by omega)]
 obtain ⟨m,rfl⟩:=Ql hx
 obtain ⟨n,rfl⟩:=Ql hy
 have hpn:(2:Int) ^ a=((2 ^ a:Nat):Int):=by simp
 rw [hpn] at hx' hs ⊢
 have hm:m < 2 ^ a:=by omega
 have hor:m ||| n*2 ^ a=m+n*2 ^ a:=by
  have h:=QU hm n
  rw [Nat.or_comm,X6 n,<-h,Nat.add_comm]
 rw [<-Xv,Qj,Qj,hor,Z0d (by omega) (by omega)]
 push_cast
 try rfl
theorem c60:Contract Try.prog cfg 60 Zhk:=by
 refine Zoi c88 c87 c89 ?_
 intro c ns _ hp
 obtain ⟨hn,hl⟩:=hp
 dsimp only at hn hl
 have no:Ju c ns=false->Yg cfg Try.f60.ntmps Try.f60.results.toList (Z9U (c,ns,())) [] .ret (⟨[(4,.c (.nils)),(5,.c (.bool false))],[],[]⟩:LSt U):=by
  intro h
  refine Y4 (r':= .tup [(false,[.slice (U:=U) .u64 [] .unk]),(false,[.bool false])]) ?_ (by (repeat' (first | exact trivial | exact rfl | apply And.intro)))
  simp only [Z9U]
  rw [h,Zlk h]
 refine Zsc _ _ _ ?_
 (simp only [vcT,vcS])
 have hrm:=Zdb (c:=c) (n:=ns.length) (by omega) (by omega)
 refine ⟨trivial,fun h=> no (ZgR (by omega)),fun hc=> ⟨trivial,⟨hrm.1,by omega,by omega⟩,?_⟩⟩
 refine Zr (ι:=Int) (fun p=> Z3g c ns p (Z4l c ns p)) (fun p=> 0<=p/\p<=ns.length/\∀ j:Nat,(j:Int) < p->Z1L c (ns.getD j 0)=true) (fun p=> ((ns.length:Int) - p).toNat) 0 (by simp only [Za2]) ⟨by omega,by omega,fun j hj=> by omega⟩ ?_
 rintro i ⟨h1,h2,h3⟩
 refine ZkL _ _ _ _ _ _ ?_
 rintro y1 hy1 y2 hy2
 rw [if_neg (show ¬wd c < 0 by omega)] at hy2 ⊢
 (simp only [vcT,vcS])
 refine ⟨fun hi=> ⟨⟨h1,hi⟩,by rw [hy1];exact Jd hn _,fun hb=> no (ZgS (i:=i.toNat) (by omega) (by rw [<-hy1];exact hb)),fun hb=> ?_⟩,fun hi=> ?_⟩
 .have hx:=Jd hn i.toNat
  rw [<-hy1] at hx
  have hf:=Z7r hb
  have hin:0<=i*wd c/\i*wd c<=70368744177664:=by
   rcases Z0H c with e | e | e | e | e | e | e
   .omega
   all_goals (rw [e];omega)
  have hm:Int.tmod (i*wd c) 64=i*wd c % 64:=XF hin.1
  rw [QY hin.1] at hy2
  have hstep:Z4l c ns (i+1)=Z8n c (Z4l c ns i) i y1:=by rw [hy1];exact Z5P c ns h1 hi
  have hfin:0<=i+1/\i+1<=ns.length/\∀ j:Nat,(j:Int) < i+1->Z1L c (ns.getD j 0)=true:=by
   refine ⟨by omega,by omega,fun j hj=> ?_⟩
   by_cases hji:(j:Int) < i
   .exact h3 j hji
   .rw [show j=i.toNat by omega,<-hy1];exact hb
  refine ⟨fun hw=> ?_,fun hw=> ?_⟩
  .obtain ⟨a0,a1,a2,a3⟩:=Zem (c:=c) (i:=i) (by omega) (by omega) (by omega)
   obtain ⟨r1,r2⟩:=Z7l (c:=c) (n:=ns.length) (i:=i) (by omega) h1 hi (by omega)
   have hI:=ZhY hn (by omega) h1 hi h3 (by omega)
   have hu:=ZaE (c:=c) (i:=i) (by omega) h1 (by omega)
   have hq:=hI (i*wd c / 64).toNat
   rw [hu.1] at hq
   have hs:=ZeO hq.1 hq.2 hx.1 hf.2
   have hp:=Z4o (show (i*wd c % 64).toNat+(wd c).toNat<=64 by omega)
   have h64:(2:Int) ^ 64=18446744073709551616:=rfl
   have hwy:IntKind.wrap .i64 y2=i*wd c / 64:=by rw [hy2,Jp (by omega) (by omega)]
   have hmin:min (i*wd c % 64).toNat (IntKind.bits .u64)=(i*wd c % 64).toNat:=by simp [IntKind.bits];omega
   rw [hm,hwy,hmin,Z0d (n:=y1*2 ^ (i*wd c % 64).toNat) hs.2.2 (by omega),Z8z hq.1 hq.2 hx.1 (by omega)]
   refine ⟨by ((unfold InR;omega)),by decide,⟨by omega,by rw [Z0O];omega⟩,by ((unfold InR;omega)),by decide,by omega,⟨by omega,by rw [Z0O];omega⟩,by omega,by ((unfold InR;omega)),i+1,?_,hfin,by omega⟩
   rw [hstep]
   unfold Z8n
   rw [if_neg (by omega)]
  .refine ⟨by ((unfold InR;omega)),i+1,?_,hfin,by omega⟩
   rw [hstep]
   unfold Z8n
   rw [if_pos (by omega)]
 .have hall:Ju c ns=true:=ZgT (by omega) fun j hj=> h3 j (by omega)
  have e:i=ns.length:=by omega
  subst e
  rw [Z50]
  refine Y4 (r':= .tup [(false,[.slice (U:=U) .u64 (J3 c ns) .unk]),(false,[.bool true])]) ?_ (by (repeat' (first | exact trivial | exact rfl | apply And.intro)))
  simp only [Z9U]
  rw [hall,ZhX hall]
noncomputable section
def ZeY(a:Tree × Unit):Prop:=Zm a.1<=1000000
def ZmZ(a:Tree × Unit):V U:= .tup [(false,[ci (frW a.1.kids:Int)]),(false,[ci (frK a.1.kids:Int)])]
def Z7U:Fs U:=fs Zno (fun a=> [ZeY a]) ZmZ
def ZmF(a:Int × Unit):V U:= .c (.bool (decide (-536870912<=a.1/\a.1 < 536870912)))
def Z2C:Fs U:=fs ZjV (fun a=> [Z6A a]) ZmF
def Z2Y(a:Int × Int × Unit):Prop:=0<=a.2.1/\a.2.1 < 4
def ZhP(a:Int × Int × Unit):V U:= .c (.int .u64 (4*(a.1 % 1073741824)+a.2.1))
def Z15:Fs U:=fs ZjM (fun a=> [Z2Y a]) ZhP
def Z1u(a:Ptr × Unit):Prop:=Ptr.kind a.1=1\/Ptr.kind a.1=2
def ZeD(a:Ptr × Unit):V U:= .tup [(false,[.int .u64 (ZA a.1)]),(false,[.bool (eqP (Z6 (ZA a.1)) a.1 && !decide (Ptr.kind a.1=4))])]
def Z1i:Fs U:=fs ZfC (fun a=> [Z1u a]) ZeD
def ZlM:Z8 U:=lvl [([1],[1]),([1,4,5],[1]),([1,4,5,6],[1]),([1,4,5,6,11],[1]),([1,4,5,6],[1]),([1,4,5,6,22],[1]),([1,4,5,6,22],[1]),([1,4,5,6,38],[1]),([1,4,5,6,38],[1]),([2,3],[])]
def Z1D(t:Tree)(x4 x5 x6:Int):LSt U:=(L2 [pL 1,pI 4 x4,pI 5 x5,pI 6 x6] [(.loc 1,(enc .tree t))])
def Z8V(t:Tree)(x4 x5 x6 x4_a:Int):LSt U:=(L2 [pL 1,pI 4 x4_a,pI 5 x5,pI 6 x6,(22,.c (.bool (decide ((x4:Int) < ((Tree.words (t.kids.getD x6.toNat Tree.nil)).length:Int)))))] [(.loc 1,(enc .tree t))])
def Z8U(t:Tree)(x5 x6 x4_a x5_b:Int):LSt U:=(L2 [pL 1,pI 4 x4_a,pI 5 x5_b,pI 6 x6,(38,.c (.bool (decide ((x5:Int) < ((Tree.kids (t.kids.getD x6.toNat Tree.nil)).length:Int)))))] [(.loc 1,(enc .tree t))])
abbrev A38(p:List Nat):=AW (Z0 Zj1) Try.f38 ZlM p
abbrev S38(p:List Nat):=SW (Z0 Zj1) Try.f38 ZlM p
theorem Zsm(t:Tree)(Q:QT)(h:(ZJ (A38 [1,1,0,1,0,0]) (Z1D t 0 0 0) (xB 0 (S38 [1,1,1] Q)))):
  A38 [] (L2 [(0,.agg (enc .tree t))] []) Q:=
 (Eq.mpr (by kernel_rfl) h:)
theorem ZkR(t:Tree)(x4 x5 x6:Int)(N0:NT)(Q:QT)(h:let z2:=decide (x6 < (t.kids.length:Int));let z1:=xB 1 (S38 [1,1,0,1,0,0,1,1] (xT N0 (xB 0 (S38 [1,1,1] Q))));let z0:=Tree.words (t.kids.getD x6.toNat Tree.nil);let z3:=decide (x4 < (z0.length:Int));((z2=true->((0:Int)<=x6/\x6 < (t.kids.length:Int))/\((z3=true->((0:Int)<=x6/\x6 < (t.kids.length:Int))/\(A38 [1,1,0,1,0,0,1,0,0,1] (Z8V t x4 x5 x6 (z0.length:Int)) z1))/\(z3=false->A38 [1,1,0,1,0,0,1,0,0,1] (Z8V t x4 x5 x6 x4) z1)))/\(z2=false->(Q .ret (L2 [pI 2 x4,pI 3 x5] []))))):
  A38 [1,1,0,1,0,0] (Z1D t x4 x5 x6) (xT N0 (xB 0 (S38 [1,1,1] Q))):=
 (Eq.mpr (by kernel_rfl) h:)
theorem Zep(t:Tree)(x4 x5 x6 x4_a:Int)(N0:NT)(Q:QT)(h:let z2:=xT N0 (xB 0 (S38 [1,1,1] Q));let z0:=Tree.kids (t.kids.getD x6.toNat Tree.nil);let z1:=decide (x5 < (z0.length:Int));((0:Int)<=x6/\x6 < (t.kids.length:Int))/\((z1=true->((0:Int)<=x6/\x6 < (t.kids.length:Int))/\(A38 [1,1,0,1,0,0,1,1] (Z8U t x5 x6 x4_a (z0.length:Int)) z2))/\(z1=false->A38 [1,1,0,1,0,0,1,1] (Z8U t x5 x6 x4_a x5) z2))):
  A38 [1,1,0,1,0,0,1,0,0,1] (Z8V t x4 x5 x6 x4_a) (xB 1 (S38 [1,1,0,1,0,0,1,1] (xT N0 (xB 0 (S38 [1,1,1] Q))))):=
 (Eq.mpr (by kernel_rfl) h:)
theorem Z7j(t:Tree)(x5 x6 x4_a x5_b:Int)(N0:NT)(Q:QT)(h:(InR (x6+1))/\(N0 (Z1D t x4_a x5_b (x6+1)))):
  A38 [1,1,0,1,0,0,1,1] (Z8U t x5 x6 x4_a x5_b) (xT N0 (xB 0 (S38 [1,1,1] Q))):=
 (Eq.mpr (by kernel_rfl) h:)
abbrev Zqr(t:Tree):Prop:=AW (Z0 Zj1) Try.f38 ZlM [] (Zi (Zno.can (t,())) []) (EQ Try.f38 (ZmZ (t,())) [])
theorem Zoq(hb:∀ (t:Tree) (_:Unit),ZeY (t,())->Zqr t):CT 38 Z7U:=
 Z2 (l:=[]) Zf rfl trivial ZlM Try.func38 rfl rfl 1 (fun _=> rfl) (by decide) (fun ⟨t,_⟩=> hb t ())
def ZlG:Z8 U:=lvl [([1],[1]),([1,4,5],[1]),([4,5,9,10,11],[]),([4,5,9,10,11,12],[]),([4,5,7,9,10,11],[7]),([4,5,9,10,11],[]),([4,5,9,10,11],[]),([2,3],[])]
def Z5k(t:Tree)(x4 x5 x11:Int):LSt U:=(L2 [pI 4 x4,pI 5 x5,(9,.c (sU .tree t.kids .unk)),pI 10 (t.kids.length:Int),pI 11 x11] [])
abbrev A74(p:List Nat):=AW (Z0 Zj1) Try.f74 ZlG p
abbrev S74(p:List Nat):=SW (Z0 Zj1) Try.f74 ZlG p
theorem ZrY(t:Tree)(Q:QT)(h:(ZJ (A74 [1,1,0,1,0,0]) (Z5k t 0 0 0) (xB 0 (S74 [1,1,1] Q)))):
  A74 [] (L2 [(0,.agg (enc .tree t))] []) Q:=
 (Eq.mpr (by kernel_rfl) h:)
theorem ZkI(t:Tree)(x4 x5 x11:Int)(N0:NT)(Q:QT)(h:let z1:=decide (x11 < (t.kids.length:Int));let z0:=t.kids.getD x11.toNat Tree.nil;((z1=true->((0:Int)<=x11/\x11 < (t.kids.length:Int))/\((InR (x11+1))/\(N0 (Z5k t (if x4 < ((Tree.words z0).length:Int) then ((Tree.words z0).length:Int) else x4) (if x5 < ((Tree.kids z0).length:Int) then ((Tree.kids z0).length:Int) else x5) (x11+1)))))/\(z1=false->(Q .ret (L2 [pI 2 x4,pI 3 x5] []))))):
  A74 [1,1,0,1,0,0] (Z5k t x4 x5 x11) (xT N0 (xB 0 (S74 [1,1,1] Q))):=
 (Eq.mpr (by kernel_rfl) h:)
abbrev Zq3(t:Tree):Prop:=AW (Z0 Zj1) Try.f74 ZlG [] (Zi (Zno.can (t,())) []) (EQ Try.f74 (ZmZ (t,())) [])
theorem Zo5(hb:∀ (t:Tree) (_:Unit),ZeY (t,())->Zq3 t):CT 74 Z7U:=
 Z2 (l:=[]) Zf rfl trivial ZlG Try.func74 rfl rfl 1 (fun _=> rfl) (by decide) (fun ⟨t,_⟩=> hb t ())
abbrev A98(p:List Nat):=AW (Z0 Zj1) Try.f98 ZoV p
theorem ZrG(n:Int)(Q:QT)(h:let z0:=decide (((-536870912):Int)<=n);((Tr (z0=true))/\(Tr (z0=true))/\(Q .ret (L2 [(2,.c (.bool (bif z0 then (decide (n < 536870912)) else false)))] [])))):
  A98 [] (L2 [pI 0 n] []) Q:=
 (Eq.mpr (by kernel_rfl) h:)
abbrev ZpL(n:Int):Prop:=AW (Z0 Zj1) Try.f98 ZoV [] (Zi (ZjV.can (n,())) []) (EQ Try.f98 (ZmF (n,())) [])
theorem ZnO(hb:∀ (n:Int) (_:Unit),Z6A (n,())->ZpL n):CT 98 Z2C:=
 Z2 (l:=[]) Zf rfl trivial ZoV Try.func98 rfl rfl 1 (fun _=> rfl) (by decide) (fun ⟨n,_⟩=> hb n ())
abbrev Zt1(p:List Nat):=AW (Z0 Zj1) Try.f100 ZoK p
theorem ZqY(off k:Int)(Q:QT)(h:let z0:=IntKind.bits .u32;(((0:Int)<=2)/\(Q .ret (L2 [(4,.c (.int .u64 (IntKind.wrap .u64 (IntKind.wrap .u32 (BitVec.ofInt z0 (IntKind.wrap .u32 (((IntKind.wrap .u32 off):Int)*2 ^ (min (Int.toNat 2) z0))) ||| BitVec.ofInt z0 (IntKind.wrap .u32 k)).toNat))))] [])))):
  Zt1 [] (L2 [pI 0 off,pI 1 k] []) Q:=
 (Eq.mpr (by kernel_rfl) h:)
abbrev ZmB(off k:Int):Prop:=AW (Z0 Zj1) Try.f100 ZoK [] (Zi (ZjM.can (off,k,())) []) (EQ Try.f100 (ZhP (off,k,())) [])
theorem ZlD(hb:∀ (off:Int) (k:Int) (_:Unit),Z2Y (off,k,())->ZmB off k):CT 100 Z15:=
 Z2 (l:=[]) Zf rfl trivial ZoK Try.func100 rfl rfl 2 (fun _=> rfl) (by decide) (fun ⟨off,k,_⟩=> hb off k ())
def Zj8:List (FuncId × Fs U):=[(98,Z2C),(99,Z0J),(100,Z15),(101,Yy)]
def Zp0:Z8 U:=lvl [([1],[1]),([1,4],[1]),([1,4,6],[1]),([1,4,6,7],[1]),([1,4,21,49,63,72,84],[1]),([1,4,21,49,63,72,84],[1]),([1,4,6,35],[1]),([1,4,21,49,63,72,84],[1]),([1,4,21,49,63,72,84],[1]),([1,4,21,49,63,72,84],[1]),([1,4,21,49,63,72,84],[1]),([1,4],[1]),([1,4,21,49,63,72,84],[1]),([1,4,21,49,63,72,84],[1]),([2,3],[])]
def Jt(p:Ptr)(x4:Int)(v21 v49 v84 v72 v63:V U):LSt U:=(L2 [pL 1,(4,.c (.int .u64 x4)),(21,v21),(49,v49),(63,v63),(72,v72),(84,v84)] [(.loc 1,(enc .ptr p))])
abbrev A75(p:List Nat):=AW (Z0 Zj8) Try.f75 Zp0 p
theorem ZrX(p:Ptr)(Q:QT)(h:let z9:=((Ptr.kind p):Int)==3;let z5:=IntKind.bits .u64;let z10:=min (Int.toNat 32) z5;let z4:=decide (0<=(Ptr.off p)/\(Ptr.off p)<=536870911);let z8:=bif z4 then (decide (0<=(Ptr.segment p)/\(Ptr.segment p)<=4294967295)) else false;let z3:=IntKind.wrap .u64 (BitVec.ofInt z5 (IntKind.wrap .u64 (BitVec.ofInt z5 (IntKind.wrap .u64 (((IntKind.wrap .u64 (Ptr.off p)):Int)*2 ^ (min (Int.toNat 3) z5))) ||| BitVec.ofInt z5 2).toNat) ||| BitVec.ofInt z5 (IntKind.wrap .u64 (((IntKind.wrap .u64 (Ptr.segment p)):Int)*2 ^ z10))).toNat;let z0:=decide (-536870912<=(Ptr.off p)/\(Ptr.off p) < 536870912);let z2:=bif z0 then (decide (0<=(Ptr.code p)/\(Ptr.code p)<=7)) else false;let z6:=bif z2 then (decide (0<=(Ptr.count p)/\(Ptr.count p)<=536870911)) else false;let z1:=bif z0 then (decide (0<=(Ptr.data p)/\(Ptr.data p)<=65535)) else false;let z7:=bif z1 then (decide (0<=(Ptr.ptrs p)/\(Ptr.ptrs p)<=65535)) else false;(((((Ptr.kind p):Int)==1)=true->(Z6A ((Ptr.off p),()))/\(Tr (z0=true))/\(Tr (z0=true))/\(z0=true->Jg ((Ptr.data p),65535,()))/\(Tr (z0=true))/\(Tr (z1=true))/\(Tr (z1=true))/\(z1=true->Jg ((Ptr.ptrs p),65535,()))/\(Tr (z1=true))/\((z7=true->(Z2Y ((Ptr.off p),0,()))/\((0:Int)<=32)/\((0:Int)<=48)/\(A75 [1,1,1] (Jt p (IntKind.wrap .u64 (BitVec.ofInt z5 (IntKind.wrap .u64 (BitVec.ofInt z5 (4*((Ptr.off p) % 1073741824)+0) ||| BitVec.ofInt z5 (IntKind.wrap .u64 (((IntKind.wrap .u64 (Ptr.data p)):Int)*2 ^ z10))).toNat) ||| BitVec.ofInt z5 (IntKind.wrap .u64 (((IntKind.wrap .u64 (Ptr.ptrs p)):Int)*2 ^ (min (Int.toNat 48) z5)))).toNat) (.c (.bool z7)) .junk .junk .junk .junk) Q))/\(z7=false->A75 [1,1,1] (Jt p 0 (.c (.bool z7)) .junk .junk .junk .junk) Q)))/\((((Ptr.kind p):Int)==1)=false->(((((Ptr.kind p):Int)==2)=true->(Z6A ((Ptr.off p),()))/\(Tr (z0=true))/\(Tr (z0=true))/\(z0=true->Jg ((Ptr.code p),7,()))/\(Tr (z0=true))/\(Tr (z2=true))/\(Tr (z2=true))/\(z2=true->Jg ((Ptr.count p),536870911,()))/\(Tr (z2=true))/\((z6=true->(Z2Y ((Ptr.off p),1,()))/\((0:Int)<=32)/\((0:Int)<=35)/\(A75 [1,1,1] (Jt p (IntKind.wrap .u64 (BitVec.ofInt z5 (IntKind.wrap .u64 (BitVec.ofInt z5 (4*((Ptr.off p) % 1073741824)+1) ||| BitVec.ofInt z5 (IntKind.wrap .u64 (((IntKind.wrap .u64 (Ptr.code p)):Int)*2 ^ z10))).toNat) ||| BitVec.ofInt z5 (IntKind.wrap .u64 (((IntKind.wrap .u64 (Ptr.count p)):Int)*2 ^ (min (Int.toNat 35) z5)))).toNat) .junk (.c (.bool z6)) .junk .junk .junk) Q))/\(z6=false->A75 [1,1,1] (Jt p 0 .junk (.c (.bool z6)) .junk .junk .junk) Q)))/\((((Ptr.kind p):Int)==2)=false->((z9=true->(Jg ((Ptr.off p),536870911,()))/\(Tr (z4=true))/\(Tr (z4=true))/\(z4=true->Jg ((Ptr.segment p),4294967295,()))/\(Tr (z4=true))/\((z8=true->((0:Int)<=3)/\((0:Int)<=32)/\(((Ptr.double p)=true->(A75 [1,1,1] (Jt p (IntKind.wrap .u64 (BitVec.ofInt z5 z3 ||| BitVec.ofInt z5 4).toNat) .junk .junk (.c (.bool (Ptr.double p))) .junk .junk) Q))/\((Ptr.double p)=false->A75 [1,1,1] (Jt p z3 .junk .junk (.c (.bool (Ptr.double p))) .junk .junk) Q)))/\(z8=false->A75 [1,1,1] (Jt p 0 .junk .junk .junk (.c (.bool z8)) (.c (.bool z9))) Q)))/\(z9=false->A75 [1,1,1] (Jt p 0 .junk .junk .junk .junk (.c (.bool z9))) Q))))))):
  A75 [] (L2 [(0,.agg (enc .ptr p))] []) Q:=
 (Eq.mpr (by kernel_rfl) h:)
theorem ZkH(p:Ptr)(x4:Int)(v21 v49 v84 v72 v63:V U)(Q:QT)(h:let z0:=(((Ptr.kind (Z6 x4)):Int)==(Ptr.kind p)) && ((((Ptr.off (Z6 x4)):Int)==(Ptr.off p)) && ((((Ptr.data (Z6 x4)):Int)==(Ptr.data p)) && ((((Ptr.ptrs (Z6 x4)):Int)==(Ptr.ptrs p)) && ((((Ptr.code (Z6 x4)):Int)==(Ptr.code p)) && ((((Ptr.count (Z6 x4)):Int)==(Ptr.count p)) && ((((Ptr.segment (Z6 x4)):Int)==(Ptr.segment p)) && (((Ptr.double (Z6 x4))==(Ptr.double p)) && true)))))));(Z0P (x4,()))/\(Tr (z0=true))/\(Tr (z0=true))/\(Tr (z0=true))/\(Q .ret (L2 [(2,.c (.int .u64 x4)),(3,.c (.bool (bif z0 then (((Ptr.kind p):Int) !=4) else false)))] []))):
  A75 [1,1,1] (Jt p x4 v21 v49 v84 v72 v63) Q:=
 (Eq.mpr (by kernel_rfl) h:)
abbrev Zq2(p:Ptr):Prop:=AW (Z0 Zj8) Try.f75 Zp0 [] (Zi (ZfC.can (p,())) []) (EQ Try.f75 (ZeD (p,())) [])
theorem Zo4(c98:CT 98 Z2C)(c99:CT 99 Z0J)(ZgW:CT 100 Z15)(Z4G:CT 101 Yy)(hb:∀ (p:Ptr) (_:Unit),Z1u (p,())->Zq2 p):CT 75 Z1i:=
 Z2 (l:=[(98,Z2C),(99,Z0J),(100,Z15),(101,Yy)]) Zf rfl (⟨c98,c99,ZgW,Z4G,trivial⟩) Zp0 Try.func75 rfl rfl 1 (fun _=> rfl) (by decide) (fun ⟨p,_⟩=> hb p ())
end
theorem Zfv:∀ (a:List Tree) (t:Tree),frW (a++[t])=max (frW a) t.words.length/\frK (a++[t])=max (frK a) t.kids.length
 | [],t=> by simp [frW,frK]
 | x ::r,t=> by
  obtain ⟨h1,h2⟩:=Zfv r t
  rw [QX,frW,frK,h1,h2,frW,frK]
  omega
theorem Zhf{ks:List Tree}{i:Int}(h0:0<=i)(h:i < ks.length):ks.take (i+1).toNat=ks.take i.toNat++[ks.getD i.toNat Tree.nil]:=by
 rw [show (i+1).toNat=i.toNat+1 by omega]
 exact Zg4 (by omega)
theorem Z0b{ks:List Tree}{i:Int}(h0:0<=i)(h:i < ks.length):frW (ks.take (i+1).toNat)=max (frW (ks.take i.toNat)) (ks.getD i.toNat Tree.nil).words.length/\frK (ks.take (i+1).toNat)=max (frK (ks.take i.toNat)) (ks.getD i.toNat Tree.nil).kids.length:=by
 rw [Zhf h0 h]
 exact Zfv _ _
theorem Z3L(t:Tree):t.words.length+t.kids.length+1<=Zm t:=by
 obtain ⟨k,w,ks⟩:=t
 rw [Zm]
 have:=Z7q ks
 show w.length+ks.length+1<=_
 omega
theorem c74:Contract Try.prog cfg 74 Z7U:=by
 refine Zo5 ?_
 intro t _ hp
 simp only [ZeY] at hp
 have hk:=Z3L t
 refine ZrY _ _ ?_
 refine Zr (ι:=Int × Int × Int) (fun p=> Z5k t p.1 p.2.1 p.2.2) (fun p=> 0<=p.2.2/\p.2.2<=t.kids.length/\p.1=frW (t.kids.take p.2.2.toNat)/\p.2.1=frK (t.kids.take p.2.2.toNat)) (fun p=> ((t.kids.length:Int) - p.2.2).toNat) (0,0,0) rfl ⟨by dsimp only;omega,by dsimp only;omega,rfl,rfl⟩ ?_
 rintro ⟨w,k,i⟩ ⟨h1,h2,h3,h4⟩
 dsimp only at h1 h2 h3 h4
 refine ZkI _ _ _ _ _ _ ?_
 (simp only [vcT,vcS])
 refine ⟨fun hi=> ⟨⟨h1,hi⟩,by ((unfold InR;omega)),(if w < ((t.kids.getD i.toNat Tree.nil).words.length:Int) then ((t.kids.getD i.toNat Tree.nil).words.length:Int) else w,if k < ((t.kids.getD i.toNat Tree.nil).kids.length:Int) then ((t.kids.getD i.toNat Tree.nil).kids.length:Int) else k,i+1),rfl,⟨by dsimp only;omega,by dsimp only;omega,?_,?_⟩,by dsimp only;omega⟩,fun hi=> ?_⟩
 .dsimp only
  rw [(Z0b h1 hi).1,h3]
  split <;> omega
 .dsimp only
  rw [(Z0b h1 hi).2,h4]
  split <;> omega
 .have e:i=t.kids.length:=by omega
  subst e
  rw [Qj,XC] at h3 h4
  subst h3 h4
  (repeat' (first | exact trivial | exact rfl | apply And.intro))
theorem c38:Contract Try.prog cfg 38 Z7U:=by
 refine Zoq ?_
 intro t _ hp
 simp only [ZeY] at hp
 have hk:=Z3L t
 refine Zsm _ _ ?_
 refine Zr (ι:=Int × Int × Int) (fun p=> Z1D t p.1 p.2.1 p.2.2) (fun p=> 0<=p.2.2/\p.2.2<=t.kids.length/\p.1=frW (t.kids.take p.2.2.toNat)/\p.2.1=frK (t.kids.take p.2.2.toNat)) (fun p=> ((t.kids.length:Int) - p.2.2).toNat) (0,0,0) rfl ⟨by dsimp only;omega,by dsimp only;omega,rfl,rfl⟩ ?_
 rintro ⟨w,k,i⟩ ⟨h1,h2,h3,h4⟩
 dsimp only at h1 h2 h3 h4
 have fin:∀ (hi:i < t.kids.length) {w' k':Int},w'=frW (t.kids.take (i+1).toNat)->k'=frK (t.kids.take (i+1).toNat)->
   InR (i+1)/\∃ p:Int × Int × Int,Z1D t w' k' (i+1)=Z1D t p.1 p.2.1 p.2.2/\(0<=p.2.2/\p.2.2<=t.kids.length/\p.1=frW (t.kids.take p.2.2.toNat)/\p.2.1=frK (t.kids.take p.2.2.toNat))/\((t.kids.length:Int) - p.2.2).toNat < ((t.kids.length:Int) - i).toNat:=
  fun hi w' k' e1 e2=> ⟨by ((unfold InR;omega)),(w',k',i+1),rfl,⟨by dsimp only;omega,by dsimp only;omega,e1,e2⟩,by dsimp only;omega⟩
 refine ZkR _ _ _ _ _ _ ?_
 (simp only [vcT,vcS])
 refine ⟨fun hi=> ⟨⟨h1,hi⟩,fun hc=> ⟨⟨h1,hi⟩,?_⟩,fun hc=> ?_⟩,fun hi=> ?_⟩
 .refine Zep _ _ _ _ _ _ _ ?_
  (simp only [vcT,vcS])
  exact ⟨⟨h1,hi⟩,fun hd=> ⟨⟨h1,hi⟩,Z7j _ _ _ _ _ _ _ (fin hi (by rw [(Z0b h1 hi).1];omega) (by rw [(Z0b h1 hi).2];omega))⟩,fun hd=> Z7j _ _ _ _ _ _ _ (fin hi (by rw [(Z0b h1 hi).1];omega) (by rw [(Z0b h1 hi).2];omega))⟩
 .refine Zep _ _ _ _ _ _ _ ?_
  (simp only [vcT,vcS])
  exact ⟨⟨h1,hi⟩,fun hd=> ⟨⟨h1,hi⟩,Z7j _ _ _ _ _ _ _ (fin hi (by rw [(Z0b h1 hi).1];omega) (by rw [(Z0b h1 hi).2];omega))⟩,fun hd=> Z7j _ _ _ _ _ _ _ (fin hi (by rw [(Z0b h1 hi).1];omega) (by rw [(Z0b h1 hi).2];omega))⟩
 .have e:i=t.kids.length:=by omega
  subst e
  rw [Qj,XC] at h3 h4
  subst h3 h4
  (repeat' (first | exact trivial | exact rfl | apply And.intro))
theorem c98:Contract Try.prog cfg 98 Z2C:=by
 refine ZnO ?_
 intro n _ _
 refine ZrG _ _ ?_
 (simp only [vcT,vcS])
 refine Zw rfl ?_
 by_cases h1: -536870912<=n <;> by_cases h2:n < 536870912 <;> simp [h1,h2]
theorem Z4I(n:Int):IntKind.wrap .u32 n=n % 4294967296:=by
 simp [IntKind.wrap,IntKind.signed,IntKind.bits]
theorem Zie{x y:Int}{a:Nat}(hx:0<=x)(hx':x < 2 ^ a)(hy:0<=y)(hs:x+y*2 ^ a < 4294967296):
  IntKind.wrap .u32 (BitVec.ofInt (IntKind.bits .u32) (y*2 ^ a) ||| BitVec.ofInt (IntKind.bits .u32) x).toNat=x+y*2 ^ a:=by
 have hp:=J4 a
 have h1:0<=y*2 ^ a:=Qw hy (Xc hp)
 have e:∀ z:Int,0<=z->z < 4294967296->(BitVec.ofInt (IntKind.bits .u32) z).toNat=z.toNat:=by
  intro z z0 z1
  simp [IntKind.bits]
  omega
 rw [Kd,e x hx (by omega),e _ h1 (by omega),Z4I]
 obtain ⟨m,rfl⟩:=Ql hx
 obtain ⟨n,rfl⟩:=Ql hy
 have hpn:(2:Int) ^ a=((2 ^ a:Nat):Int):=by simp
 rw [hpn] at hx' hs ⊢
 have hm:m < 2 ^ a:=by omega
 have hor:n*2 ^ a ||| m=m+n*2 ^ a:=by
  have h:=QU hm n
  rw [X6 n,<-h,Nat.add_comm]
 rw [<-Xv,Qj,Qj,hor]
 push_cast
 push_cast at hs
 omega
theorem ZgW:Contract Try.prog cfg 100 Z15:=by
 refine ZlD ?_
 intro o k _ hp
 obtain ⟨hk0,hk⟩:=hp
 dsimp only at hk0 hk
 refine ZqY _ _ _ ⟨by decide,ZC rfl ?_⟩
 show _=4*(o % 1073741824)+k
 have e1:IntKind.wrap .u32 (IntKind.wrap .u32 o*2 ^ (min (Int.toNat 2) (IntKind.bits .u32)))=o % 1073741824*2 ^ 2:=by
  rw [Z4I,Z4I,show (2:Int) ^ (min (Int.toNat 2) (IntKind.bits .u32))=4 from rfl,show (2:Int) ^ 2=4 from rfl]
  omega
 have e2:IntKind.wrap .u32 k=k:=by rw [Z4I];omega
 rw [e1,e2,Zie hk0 (by rw [show (2:Int) ^ 2=4 from rfl];omega) (by omega) (by rw [show (2:Int) ^ 2=4 from rfl];omega),show (2:Int) ^ 2=4 from rfl,Z0d (by omega) (by omega)]
 omega
theorem Z9M{d k:Int}(n:Nat)(hk:min (Int.toNat k) (IntKind.bits .u64)=n)(h0:0<=d)(h1:d < 18446744073709551616)(h2:d*2 ^ n < 18446744073709551616):IntKind.wrap .u64 (IntKind.wrap .u64 d*2 ^ (min (Int.toNat k) (IntKind.bits .u64)))=d*2 ^ n:=by
 rw [hk,Z0d h0 h1]
 exact Z0d (Qw h0 (Xc (J4 n))) h2
theorem ZjG(p:Ptr):0<=ZA p/\ZA p < 18446744073709551616:=by
 unfold ZA
 have h0:=XN p.off (show (1073741824:Int)≠0 by decide)
 have h1:=Xk p.off (show (0:Int) < 1073741824 by decide)
 repeat' split
 all_goals omega
theorem c75:Contract Try.prog cfg 75 Z1i:=by
 refine Zo4 c98 c99 ZgW Z4G ?_
 intro p _ hp
 simp only [Z1u] at hp
 have hr:=ZjG p
 have o0:=XN p.off (show (1073741824:Int)≠0 by decide)
 have o1:=Xk p.off (show (0:Int) < 1073741824 by decide)
 have fin:∀ {x:Int} {v1 v2 v3 v4 v5:V U},x=ZA p->A75 [1,1,1] (Jt p x v1 v2 v3 v4 v5) (Yg cfg Try.f75.ntmps Try.f75.results.toList (ZeD (p,())) []):=by
  intro x v1 v2 v3 v4 v5 hx
  refine ZkH _ _ _ _ _ _ _ _ ?_
  refine ⟨by subst hx;exact hr,fun h=> h,fun h=> h,fun h=> h,?_⟩
  refine Y4 (r':= .tup [(false,[.int .u64 x]),(false,[.bool (bif eqP (Z6 x) p then (p.kind !=4) else false)])]) ?_ (by (repeat' (first | exact trivial | exact rfl | apply And.intro)))
  simp only [ZeD]
  subst hx
  cases eqP (Z6 (ZA p)) p <;> rfl
 have e32:min (Int.toNat 32) (IntKind.bits .u64)=32:=rfl
 have e48:min (Int.toNat 48) (IntKind.bits .u64)=48:=rfl
 have e35:min (Int.toNat 35) (IntKind.bits .u64)=35:=rfl
 have q32:(2:Int) ^ 32=4294967296:=rfl
 have q48:(2:Int) ^ 48=281474976710656:=rfl
 have q35:(2:Int) ^ 35=34359738368:=rfl
 refine ZrX _ _ ?_
 (simp only [vcT,vcS])
 refine ⟨fun k1=> ⟨trivial,fun _=> trivial,fun _=> trivial,fun c=> ⟨⟨by dsimp only;omega,by dsimp only;omega⟩,by decide,by decide,fin ?_⟩,fun c=> fin ?_⟩,fun k1=> ⟨fun k2=> ⟨trivial,fun _=> trivial,fun _=> trivial,fun c=> ⟨⟨by dsimp only;omega,by dsimp only;omega⟩,by decide,by decide,fin ?_⟩,fun c=> fin ?_⟩,fun k2=> by rcases hp with h | h;exact absurd h k1;exact absurd h k2⟩⟩
 .obtain ⟨⟨c1,c2⟩,c3⟩:=c
  rw [Z9M 32 e32 (by omega) (by omega) (by omega),Z9M 48 e48 (by omega) (by omega) (by omega),Z8z (x:=4*(p.off % 1073741824)+0) (y:=p.data) (a:=32) (by omega) (by omega) (by omega) (by omega),Z8z (y:=p.ptrs) (a:=48) (by omega) (by omega) (by omega) (by omega)]
  unfold ZA
  rw [if_pos k1,if_pos ⟨c1,c2,c3⟩]
  omega
 .unfold ZA
  rw [if_pos k1,if_neg (by omega)]
 .obtain ⟨⟨c1,c2⟩,c3⟩:=c
  rw [Z9M 32 e32 (by omega) (by omega) (by omega),Z9M 35 e35 (by omega) (by omega) (by omega),Z8z (x:=4*(p.off % 1073741824)+1) (y:=p.code) (a:=32) (by omega) (by omega) (by omega) (by omega),Z8z (y:=p.count) (a:=35) (by omega) (by omega) (by omega) (by omega)]
  unfold ZA
  rw [if_neg k1,if_pos k2,if_pos ⟨c1,c2,c3⟩]
  omega
 .unfold ZA
  rw [if_neg k1,if_pos k2,if_neg (by omega)]
theorem Z8R{t:Tree}{i:Nat}(h:i < t.kids.length):Zm (t.kids.getD i Tree.nil)+1<=Zm t:=by
 obtain ⟨k,w,ks⟩:=t
 have:=Z1w (l:=ks) h Tree.nil
 have hm:∀ {l:List Tree} {x:Tree},x∈l->Zm x<=Zp l:=by
  intro l
  induction l with
  | nil=> intro x hx;cases hx
  | cons y l ih=>
   intro x hx
   rw [Zp]
   rcases QH.1 hx with rfl | hx
   .omega
   .have:=ih hx;omega
 have:=hm this
 rw [Zm]
 show Zm (ks.getD i Tree.nil)+1<=_
 omega
theorem Zm2{f:FuncId}{α:Type}{A:ArgL α}{pre pre':α->Prop}{res res':α->V U}(h:Contract Try.prog cfg f (fs A (fun a=> [pre a]) res))(hh:∀ a,pre' a->pre a/\res a=res' a):Contract Try.prog cfg f (fs A (fun a=> [pre' a]) res'):=by
 refine JI h.1 rfl ?_
 intro args X ps r X' hs hps
 unfold fs at hs
 simp only at hs
 split at hs
 .split at hs
  .rename_i a ha
   cases hs
   obtain ⟨h1,h2⟩:=hh a hps.1
   rw [<-h2]
   exact h.one rfl args [] [pre a] _ [] (by unfold fs;simp only [ha]) ⟨h1,trivial⟩
  .cases hs
 .cases hs
def Zb3(a:Int × List Int × Unit):Prop:=(okW a.2.1/\a.2.1.length<=1099511627776)/\Ju a.1 a.2.1=true
noncomputable def ZeL(a:Int × List Int × Unit):V U:= .tup [(false,[.slice (U:=U) .u64 (J3 a.1 a.2.1) .unk]),(false,[.bool true])]
noncomputable def Z4S:Fs U:=fs Ze8 (fun a=> [Zb3 a]) ZeL
theorem ZjK:Contract Try.prog cfg 60 Z4S:=Zm2 c60 fun a h=> ⟨h.1,by
 unfold Z9U ZeL
 rw [h.2]
 unfold JX
 rw [if_pos h.2]⟩
def Z12(ks:List Tree):Prop:=∀ k∈ks,k.kind≠10/\∃ d,Z5 k d=true
theorem Jx{t:Tree}(h:rng t){k:Tree}(hk:k∈t.kids):rng k:=by
 obtain ⟨k',w,ks⟩:=t
 rw [rng] at h
 have:∀ l:List Tree,Z1Y l->∀ t'∈l,rng t':=by
  intro l
  induction l with
  | nil=> intro _ t' h;cases h
  | cons x l ih=>
   intro h t' ht
   rw [Z1Y] at h
   rcases QH.1 ht with rfl | ht
   .exact h.1
   .exact ih h.2 t' ht
 exact this ks h.2.2 k hk
theorem RiT.kidsOk{k:Int}{w:List Int}{ks:List Tree}{d:Int}(h:RiT k w ks d)(hk:k=1\/k=8):Z12 ks:=fun t ht=> ⟨(h.kids t ht).2.2.1 hk,_,(h.kids t ht).1⟩
theorem Zfw{ks:List Tree}(h:∀ t∈ks,t.words.length < 65536/\t.kids.length < 65536):frW ks < 65536/\frK ks < 65536:=by
 induction ks with
 | nil=> exact ⟨by simp [frW],by simp [frK]⟩
 | cons t l ih=>
  have h1:=h t Q9
  have h2:=ih fun t ht=> h t (Q7 _ ht)
  rw [frW,frK]
  omega
theorem Zhq{t:Tree}{d:Int}(h:Z5 t d=true):RiT t.kind t.words t.kids d:=riT (by rw [Tree.eta];exact h)
theorem RiT.rows{w:List Int}{ks:List Tree}{d:Int}(h:RiT 9 w ks d):∀ t∈ks,t.kind=1/\Z12 t.kids/\t.words.length < 65536/\t.kids.length < 65536:=by
 intro t ht
 have h1:=h.kids t ht
 have hk:=h1.2.2.2 rfl
 have r:=Zhq h1.1
 rw [hk] at r
 exact ⟨hk,r.kidsOk (.inl rfl),r.stru rfl⟩
theorem Zet(t:Tree):JZ t=if t.kind=1 then t.words.length+t.kids.length+YZ t.kids else if t.kind=8 then t.kids.length+YZ t.kids else if t.kind=9 then 1+t.kids.length*(frW t.kids+frK t.kids)+Z2m t.kids
  else if 2<=t.kind/\t.kind<=7 then (YI (t.kind - 2) t.kids.length).toNat else YZ t.kids:=by
 obtain ⟨k,w,ks⟩:=t
 rw [JZ];try rfl
theorem ZlZ(a to:Int)(t:Tree):Zcu a to t=if t.kind=0 then 0
  else if t.kind=1 then Z7d a (if t.words.length+t.kids.length=0 then a else to) 0 (t.words.length+65536*t.kids.length)
  else if t.kind=8 then Z7d a to 1 (6+8*t.kids.length)
  else if t.kind=9 then Z7d a to 1 (7+8*(t.kids.length*(frW t.kids+frK t.kids):Nat))
  else Z7d a to 1 (t.kind - 2+8*t.kids.length):=by
 obtain ⟨k,w,ks⟩:=t
 try rfl
theorem ZnK{o d p:Int}(hd:0<=d/\d < 65536)(hp:0<=p/\p < 65536):Z6H (Ptr.mk 1 o d p 0 0 0 false):=⟨.inl ⟨rfl,hd,hp,rfl,rfl⟩,rfl,rfl⟩
theorem ZnJ{o c n:Int}(hc:0<=c/\c < 8)(hn:0<=n/\n < 536870912):Z6H (Ptr.mk 2 o 0 0 c n 0 false):=⟨.inr ⟨rfl,rfl,rfl,hc,hn⟩,rfl,rfl⟩
noncomputable section
noncomputable section
def Zbx:ArgM ((Arena × Unit) × Int × Unit):=(.agg (.cons cAr .nil) (.cons (ZQ .i64) .nil))
def Z2p(a:(Arena × Unit) × Int × Unit):Prop:=OkAr a.1.1
def Zn3(a:(Arena × Unit) × Int × Unit):V U:= .tup [(true,(enc .spot (Spot.mk (if Z4 a.1.1 a.2.1 then giveS a.1.1 a.2.1 else 0) (if Z4 a.1.1 a.2.1 then giveT a.1.1 a.2.1 else 0)))),(false,[.bool (Z4 a.1.1 a.2.1)])]
def Zhy(a:(Arena × Unit) × Int × Unit):List (List (C U)):=[]
def ZhC(a:(Arena × Unit) × Int × Unit):List (Tok × LC U):=[(.A,LC.mk (U:=U) .arena [Zd a.1.1 a.2.1] 0)]
def Z03:Fs U:=(Z07 Zbx (fun a=> [Z2p a]) Zn3 Zhy ZhC).passing [0]
def Zkc:ArgL (Spot × Int × Unit):=(.cons (aEl .spot) (.cons (ZQ .i64) .nil))
def Z2o(a:Spot × Int × Unit):Prop:=InR (Spot.at_ a.1+a.2.1)
def ZmX(a:Spot × Int × Unit):V U:= .agg (enc .spot (Spot.mk (Spot.segment a.1) (Spot.at_ a.1+a.2.1)))
def Z4h:Fs U:=fs Zkc (fun a=> [Z2o a]) ZmX
def Zbt:ArgM ((Arena × Unit) × Spot × List Int × Unit):=(.agg (.cons cAr .nil) (.cons (aEl .spot) (.cons (aSl .u64) .nil)))
def JR(a:(Arena × Unit) × Spot × List Int × Unit):Prop:=(OkAr a.1.1/\okW a.2.2.1)/\Zc a.1.1.segs (Spot.segment a.2.1) (Spot.at_ a.2.1) a.2.2.1.length=true
def ZmY(a:(Arena × Unit) × Spot × List Int × Unit):V U:= .c (.bool true)
def Zhv(a:(Arena × Unit) × Spot × List Int × Unit):List (List (C U)):=[]
def ZhB(a:(Arena × Unit) × Spot × List Int × Unit):List (Tok × LC U):=[(.A,LC.mk (U:=U) .arena [ZG a.2.2.1 a.1.1 (Spot.segment a.2.1) (Spot.at_ a.2.1)] 0)]
def Ji:Fs U:=(Z07 Zbt (fun a=> [JR a]) ZmY Zhv ZhB).passing [0]
def Z7m(a:Ptr × Unit):Prop:=∃ (o s:Int) (d:Bool),a.1=Ptr.mk 3 o 0 0 0 0 s d/\(0<=o/\o < 536870912)/\0<=s/\s < 4294967296
def ZaU(a:Ptr × Unit):V U:= .tup [(false,[.int .u64 (Yo (Ptr.double a.1) (Ptr.segment a.1) (Ptr.off a.1))]),(false,[.bool true])]
def Z2M:Fs U:=fs ZfC (fun a=> [Z7m a]) ZaU
def Zbp:ArgM ((Arena × Unit) × Spot × Spot × Bool × Unit):=(.agg (.cons cAr .nil) (.cons (aEl .spot) (.cons (aEl .spot) (.cons Zrv .nil))))
def Z6B(a:(Arena × Unit) × Spot × Spot × Bool × Unit):Prop:=(OkAr a.1.1/\Zc a.1.1.segs (Spot.segment a.2.1) (Spot.at_ a.2.1) 1=true)/\(0<=Spot.at_ a.2.2.1/\Spot.at_ a.2.2.1 < 536870912)/\0<=Spot.segment a.2.2.1/\Spot.segment a.2.2.1 < 4294967296
def ZmL(a:(Arena × Unit) × Spot × Spot × Bool × Unit):V U:= .c (.bool true)
def Zhs(a:(Arena × Unit) × Spot × Spot × Bool × Unit):List (List (C U)):=[]
def Zhz(a:(Arena × Unit) × Spot × Spot × Bool × Unit):List (Tok × LC U):=[(.A,LC.mk (U:=U) .arena [ZW a.1.1 (Spot.segment a.2.1) (Spot.at_ a.2.1) (Yo a.2.2.2.1 (Spot.segment a.2.2.1) (Spot.at_ a.2.2.1))] 0)]
def Z7K:Fs U:=(Z07 Zbp (fun a=> [Z6B a]) ZmL Zhs Zhz).passing [0]
def Zbr:ArgM ((Arena × Unit) × Spot × Spot × Ptr × Unit):=(.agg (.cons cAr .nil) (.cons (aEl .spot) (.cons (aEl .spot) (.cons (aEl .ptr) .nil))))
def Za5(a:(Arena × Unit) × Spot × Spot × Ptr × Unit):Prop:=(OkAr a.1.1/\Zc a.1.1.segs (Spot.segment a.2.1) (Spot.at_ a.2.1) 1=true)/\(0<=Spot.at_ a.2.2.1/\Spot.at_ a.2.2.1<=131072)/\Z6H a.2.2.2.1
def ZhH(a:(Arena × Unit) × Spot × Spot × Ptr × Unit):V U:= .c (.bool true)
def Zdc(a:(Arena × Unit) × Spot × Spot × Ptr × Unit):List (List (C U)):=[]
def Zde(a:(Arena × Unit) × Spot × Spot × Ptr × Unit):List (Tok × LC U):=[(.A,LC.mk (U:=U) .arena [ZW a.1.1 (Spot.segment a.2.1) (Spot.at_ a.2.1) (pwA (Spot.at_ a.2.1) (Spot.at_ a.2.2.1) (kdP a.2.2.2.1) (upP a.2.2.2.1))] 0)]
def Z7M:Fs U:=(Z07 Zbr (fun a=> [Za5 a]) ZhH Zdc Zde).passing [0]
def Z54(a:(Arena × Unit) × Spot × Spot × Ptr × Unit):Prop:=(OkAr a.1.1/\Zc a.1.1.segs (Spot.segment a.2.1) (Spot.at_ a.2.1) 1=true)/\(0<=Spot.at_ a.2.2.1/\Spot.at_ a.2.2.1<=131072)/\Z6H a.2.2.2.1/\0<=Spot.segment a.2.2.1/\Spot.segment a.2.2.1 < a.1.1.segs.length
def ZeG(a:(Arena × Unit) × Spot × Spot × Ptr × Unit):V U:= .c (.bool ((ZN a.1.1 (Spot.segment a.2.1) (Spot.at_ a.2.1) (Spot.segment a.2.2.1) (Spot.at_ a.2.2.1) (kdP a.2.2.2.1) (upP a.2.2.2.1)).2))
def ZaT(a:(Arena × Unit) × Spot × Spot × Ptr × Unit):List (Tok × LC U):=[(.A,LC.mk (U:=U) .arena [(ZN a.1.1 (Spot.segment a.2.1) (Spot.at_ a.2.1) (Spot.segment a.2.2.1) (Spot.at_ a.2.2.1) (kdP a.2.2.2.1) (upP a.2.2.2.1)).1] 0)]
def Z4i:Fs U:=(Z07 Zbr (fun a=> [Z54 a]) ZeG Zdc ZaT).passing [0]
def Zjq:List (FuncId × Fs U):=[(40,Z7S)]
def Zph:Z8 U:=fun i=> match i with
 | 0=> ([(0,[.ar]),(1,[]),(2,[]),(4,[])],[(.loc 2,[.ar]),(.loc 4,[])])
 | 1=> ([(0,[.ar]),(4,[]),(6,[]),(7,[]),(8,[])],[(.loc 4,[])])
 | 2=> ([(0,[.ar]),(4,[]),(5,[])],[(.loc 4,[])])
 | _=> ([],[])
abbrev W22(a:Arena)(n:Int)(Q:QT):=AW (Z0 Zjq) Try.f22 Zph [] (⟨[(0,.agg [.mref (.A)]),pI 1 n],[],[(.A,LC.mk (U:=U) .arena ([a]) 0)]⟩:LSt U) Q
theorem Zsv(a:Arena)(n:Int)(Q:QT)(h:(ZeX (a,n,()))/\(Q .ret (⟨[(0,.agg [.mref (.A)]),pL 4,pB 5 (Z4 a n)],[(.loc 4,[ci (if Z4 a n then giveS a n else 0),ci (if Z4 a n then giveT a n else 0)])],[(.A,LC.mk (U:=U) .arena ([Zd a n]) 0)]⟩:LSt U))):
  W22 a n Q:=by
 have e_:(W22 a n Q)=((ZeX (a,n,()))/\(Q .ret (⟨[(0,.agg [.mref (.A)]),pL 4,pB 5 (Z4 a n)],[(.loc 4,[ci (if Z4 a n then giveS a n else 0),ci (if Z4 a n then giveT a n else 0)])],[(.A,LC.mk (U:=U) .arena ([Zd a n]) 0)]⟩:LSt U))):=by kernel_rfl
 exact e_.mpr ⟨h.1,h.2⟩
abbrev ZqA(a:Arena)(n:Int):Prop:=AW (Z0 Zjq) Try.f22 Zph [] (Yu (Zbx.can ((a,()),n,())) (Zbx.canX ((a,()),n,())) (Zbx.canL ((a,()),n,()))) (YQ cfg Try.f22.ntmps Try.f22.results.toList (Zn3 ((a,()),n,())) (Zhy ((a,()),n,())) (ZhC ((a,()),n,())))
theorem Zoy(c40:CT 40 Z7S)(hb:∀ (a:Arena) (n:Int) (_:Unit),Z2p ((a,()),n,())->ZqA a n):CT 22 Z03:=
 Contract.passing <| ZM (l:=[(40,Z7S)]) Zf rfl (⟨c40,trivial⟩) Zph Try.func22 rfl rfl 2 (fun _=> rfl) (by decide) (fun ⟨⟨a,_⟩,n,_⟩=> hb a n ())
def Zpb:Z8 U:=lvl [([1,2,4],[2,4]),([4],[4])]
abbrev W46(s:Spot)(n:Int)(Q:QT):=AW (Z0 Zj1) Try.f46 Zpb [] (L2 [(0,.agg (enc .spot s)),pI 1 n] []) Q
theorem Zse(s:Spot)(n:Int)(Q:QT)(h:(InR (((Spot.at_ s):Int)+n))/\(Q .ret (L2 [pL 4] [(.loc 4,[ci (Spot.segment s),ci (((Spot.at_ s):Int)+n)])]))):
  W46 s n Q:=by
 have e_:(W46 s n Q)=(type_of% h):=by kernel_rfl
 exact e_.mpr ⟨h.1,h.2⟩
abbrev Zqj(s:Spot)(n:Int):Prop:=AW (Z0 Zj1) Try.f46 Zpb [] (Zi (Zkc.can (s,n,())) []) (EQ Try.f46 (ZmX (s,n,())) [])
theorem Zok(hb:∀ (s:Spot) (n:Int) (_:Unit),Z2o (s,n,())->Zqj s n):CT 46 Z4h:=
 Z2 (l:=[]) Zf rfl trivial Zpb Try.func46 rfl rfl 2 (fun _=> rfl) (by decide) (fun ⟨s,n,_⟩=> hb s n ())
def Z1n:List (FuncId × Fs U):=[(79,Z7J)]
def Zbd:Z8 U:=fun i=> match i with
 | 0=> ([(0,[.ar]),(2,[]),(3,[]),(4,[])],[(.loc 3,[.ar]),(.loc 4,[])])
 | 1=> ([(0,[.ar]),(3,[]),(4,[]),(9,[]),(10,[]),(11,[])],[(.loc 3,[.ar]),(.loc 4,[])])
 | 2=> ([(0,[.ar]),(3,[]),(4,[]),(9,[]),(10,[]),(11,[]),(12,[])],[(.loc 3,[.ar]),(.loc 4,[])])
 | 3=> ([(0,[.ar]),(3,[]),(4,[]),(7,[]),(8,[]),(9,[]),(10,[]),(11,[])],[(.loc 3,[.ar]),(.loc 4,[])])
 | 4=> ([(0,[.ar]),(3,[]),(4,[]),(9,[]),(10,[]),(11,[]),(26,[])],[(.loc 3,[.ar]),(.loc 4,[])])
 | 5=> ([(0,[.ar]),(6,[])],[])
 | 6=> ([(0,[.ar]),(3,[]),(4,[]),(9,[]),(10,[]),(11,[])],[(.loc 3,[.ar]),(.loc 4,[])])
 | 7=> ([(0,[.ar]),(6,[])],[])
 | _=> ([],[])
def Z1A(a:Arena)(s:Spot)(l:List Int)(x11:Int)(rA:Arena):LSt U:=(⟨[(0,.agg [.mref (.A)]),pL 3,pL 4,(9,.c (sU .u64 l .unk)),pI 10 (l.length:Int),pI 11 x11],[(.loc 3,[.mref (.A)]),(.loc 4,(enc .spot s))],[(.A,LC.mk (U:=U) .arena ([rA]) 0)]⟩:LSt U)
abbrev W44(a:Arena)(s:Spot)(l:List Int)(Q:QT):=AW (Z0 Z1n) Try.f44 Zbd [] (⟨[(0,.agg [.mref (.A)]),(1,.agg (enc .spot s)),(2,.c (sU .u64 l .unk))],[],[(.A,LC.mk (U:=U) .arena ([a]) 0)]⟩:LSt U) Q
abbrev Zmk:=awp cfg (Z0 Z1n) (Y0 cfg (Z0 Z1n)) Try.f44.ntmps Zbd
abbrev Zlf:=Zd8 cfg (Z0 Z1n) (Y0 cfg (Z0 Z1n)) Try.f44.ntmps Zbd
theorem Zsg(a:Arena)(s:Spot)(l:List Int)(Q:QT)(h:ZJ (AW (Z0 Z1n) Try.f44 Zbd [1,0,1,0,0]) (Z1A a s l 0 a) (xB 0 (SW (Z0 Z1n) Try.f44 Zbd [1,1] Q))):
  W44 a s l Q:=by
 have e_:(W44 a s l Q)=(ZJ (Zmk (cd Try.f44 [1,0,1,0,0])) (Z1A a s l 0 a) (xB 0 (Zlf (cd Try.f44 [1,1]) Q))):=by kernel_rfl
 exact e_.mpr h
abbrev Zkw(a:Arena)(s:Spot)(l:List Int)(x11:Int)(rA:Arena)(N0:NT)(Q:QT):=AW (Z0 Z1n) Try.f44 Zbd [1,0,1,0,0] (Z1A a s l x11 rA) (xT N0 (xB 0 (SW (Z0 Z1n) Try.f44 Zbd [1,1] Q)))
theorem ZkN(a:Arena)(s:Spot)(l:List Int)(x11:Int)(rA:Arena)(N0:NT)(Q:QT)(h:((decide (x11 < (l.length:Int)))=true->((0:Int)<=x11/\x11 < (l.length:Int))/\((InR (((Spot.at_ s):Int)+x11))/\(ZeR (rA,(Spot.segment s),(((Spot.at_ s):Int)+x11),(l.getD x11.toNat (0:Int)),()))/\(((!(Zc rA.segs (Spot.segment s) (((Spot.at_ s):Int)+x11) 1))=true->Q .ret (⟨[(0,.agg [.mref (.A)]),pB 6 false],[],[(.A,LC.mk (U:=U) .arena ([ZW rA (Spot.segment s) (((Spot.at_ s):Int)+x11) (l.getD x11.toNat (0:Int))]) 0)]⟩:LSt U))/\((!(Zc rA.segs (Spot.segment s) (((Spot.at_ s):Int)+x11) 1))=false->(InR (x11+1))/\(N0 (Z1A a s l (x11+1) (ZW rA (Spot.segment s) (((Spot.at_ s):Int)+x11) (l.getD x11.toNat (0:Int)))))))))/\((decide (x11 < (l.length:Int)))=false->Q .ret (⟨[(0,.agg [.mref (.A)]),pB 6 true],[],[(.A,LC.mk (U:=U) .arena ([rA]) 0)]⟩:LSt U))):
  Zkw a s l x11 rA N0 Q:=by
 have e_:(Zkw a s l x11 rA N0 Q)=(let zz0:=(!(Zc rA.segs (Spot.segment s) (((Spot.at_ s):Int)+x11) 1));(((decide ((x11:Int) < (l.length:Int)))=true->((0:Int)<=x11/\x11 < (l.length:Int))/\((InR (((Spot.at_ s):Int)+x11))/\(ZeR (rA,(Spot.segment s),(((Spot.at_ s):Int)+x11),(l.getD x11.toNat (0:Int)),()))/\((zz0=true->(Q .ret (⟨[(0,.agg [.mref (.A)]),pB 6 false],[],[(.A,LC.mk (U:=U) .arena ([ZW rA (Spot.segment s) (((Spot.at_ s):Int)+x11) (l.getD x11.toNat (0:Int))]) 0)]⟩:LSt U)))/\(zz0=false->(InR ((x11:Int)+1))/\(N0 (Z1A a s l ((x11:Int)+1) (ZW rA (Spot.segment s) (((Spot.at_ s):Int)+x11) (l.getD x11.toNat (0:Int)))))))))/\((decide ((x11:Int) < (l.length:Int)))=false->(Q .ret (⟨[(0,.agg [.mref (.A)]),pB 6 true],[],[(.A,LC.mk (U:=U) .arena ([rA]) 0)]⟩:LSt U))))):=by kernel_rfl
 exact e_.mpr ⟨fun c_1=> ⟨(h.1 c_1).1,⟨(h.1 c_1).2.1,(h.1 c_1).2.2.1,⟨fun c_2=> ((h.1 c_1).2.2.2.1 c_2),fun c_2=> ⟨((h.1 c_1).2.2.2.2 c_2).1,((h.1 c_1).2.2.2.2 c_2).2⟩⟩⟩⟩,fun c_1=> (h.2 c_1)⟩
abbrev Zql(a:Arena)(s:Spot)(l:List Int):Prop:=AW (Z0 Z1n) Try.f44 Zbd [] (Yu (Zbt.can ((a,()),s,l,())) (Zbt.canX ((a,()),s,l,())) (Zbt.canL ((a,()),s,l,()))) (YQ cfg Try.f44.ntmps Try.f44.results.toList (ZmY ((a,()),s,l,())) (Zhv ((a,()),s,l,())) (ZhB ((a,()),s,l,())))
theorem Zol(c79:CT 79 Z7J)(hb:∀ (a:Arena) (s:Spot) (l:List Int) (_:Unit),JR ((a,()),s,l,())->Zql a s l):CT 44 Ji:=
 Contract.passing <| ZM (l:=[(79,Z7J)]) Zf rfl (⟨c79,trivial⟩) Zbd Try.func44 rfl rfl 3 (fun _=> rfl) (by decide) (fun ⟨⟨a,_⟩,s,l,_⟩=> hb a s l ())
abbrev Znr(p:Ptr)(Q:QT):=AW (Z0 Zj8) Try.f75 Zp0 [] (L2 [(0,.agg (enc .ptr p))] []) Q
abbrev Z1g:=awp cfg (Z0 Zj8) (Y0 cfg (Z0 Zj8)) Try.f75.ntmps Zp0
theorem ZnA(p:Ptr)(Q:QT)(h:∀ y_1,y_1=(IntKind.wrap .u64 (((IntKind.wrap .u64 (Ptr.off p)):Int)*2 ^ (min (Int.toNat 3) (IntKind.bits .u64))))->∀ y_2,y_2=(IntKind.wrap .u64 (((IntKind.wrap .u64 (Ptr.segment p)):Int)*2 ^ (min (Int.toNat 32) (IntKind.bits .u64))))->∀ y_3,y_3=(.bool (bif (bif (decide (-536870912<=(Ptr.off p)/\(Ptr.off p) < 536870912)) then (decide (0<=(Ptr.data p)/\(Ptr.data p)<=65535)) else false) then (decide (0<=(Ptr.ptrs p)/\(Ptr.ptrs p)<=65535)) else false))->∀ y_4,y_4=(.bool (bif (bif (decide (-536870912<=(Ptr.off p)/\(Ptr.off p) < 536870912)) then (decide (0<=(Ptr.code p)/\(Ptr.code p)<=7)) else false) then (decide (0<=(Ptr.count p)/\(Ptr.count p)<=536870911)) else false))->∀ y_5,y_5=(IntKind.wrap .u64 (BitVec.ofInt (IntKind.bits .u64) y_1 ||| BitVec.ofInt (IntKind.bits .u64) 2).toNat)->∀ y_6,y_6=(IntKind.wrap .u64 (BitVec.ofInt (IntKind.bits .u64) y_5 ||| BitVec.ofInt (IntKind.bits .u64) y_2).toNat)->((((Ptr.kind p):Int)==1)=true->(Z6A ((Ptr.off p),()))/\((decide (-536870912<=(Ptr.off p)/\(Ptr.off p) < 536870912))=true->Jg ((Ptr.data p),65535,()))/\((bif (decide (-536870912<=(Ptr.off p)/\(Ptr.off p) < 536870912)) then (decide (0<=(Ptr.data p)/\(Ptr.data p)<=65535)) else false)=true->Jg ((Ptr.ptrs p),65535,()))/\(((bif (bif (decide (-536870912<=(Ptr.off p)/\(Ptr.off p) < 536870912)) then (decide (0<=(Ptr.data p)/\(Ptr.data p)<=65535)) else false) then (decide (0<=(Ptr.ptrs p)/\(Ptr.ptrs p)<=65535)) else false)=true->(Z2Y ((Ptr.off p),0,()))/\((0:Int)<=32)/\((0:Int)<=48)/\(AW (Z0 Zj8) Try.f75 Zp0 [1,1,1] (Jt p (IntKind.wrap .u64 (BitVec.ofInt (IntKind.bits .u64) (IntKind.wrap .u64 (BitVec.ofInt (IntKind.bits .u64) (4*((Ptr.off p) % 1073741824)+0) ||| BitVec.ofInt (IntKind.bits .u64) (IntKind.wrap .u64 (((IntKind.wrap .u64 (Ptr.data p)):Int)*2 ^ (min (Int.toNat 32) (IntKind.bits .u64))))).toNat) ||| BitVec.ofInt (IntKind.bits .u64) (IntKind.wrap .u64 (((IntKind.wrap .u64 (Ptr.ptrs p)):Int)*2 ^ (min (Int.toNat 48) (IntKind.bits .u64))))).toNat) (.c y_3) .junk .junk .junk .junk) Q))/\((bif (bif (decide (-536870912<=(Ptr.off p)/\(Ptr.off p) < 536870912)) then (decide (0<=(Ptr.data p)/\(Ptr.data p)<=65535)) else false) then (decide (0<=(Ptr.ptrs p)/\(Ptr.ptrs p)<=65535)) else false)=false->AW (Z0 Zj8) Try.f75 Zp0 [1,1,1] (Jt p 0 (.c y_3) .junk .junk .junk .junk) Q)))/\((((Ptr.kind p):Int)==1)=false->((((Ptr.kind p):Int)==2)=true->(Z6A ((Ptr.off p),()))/\((decide (-536870912<=(Ptr.off p)/\(Ptr.off p) < 536870912))=true->Jg ((Ptr.code p),7,()))/\((bif (decide (-536870912<=(Ptr.off p)/\(Ptr.off p) < 536870912)) then (decide (0<=(Ptr.code p)/\(Ptr.code p)<=7)) else false)=true->Jg ((Ptr.count p),536870911,()))/\(((bif (bif (decide (-536870912<=(Ptr.off p)/\(Ptr.off p) < 536870912)) then (decide (0<=(Ptr.code p)/\(Ptr.code p)<=7)) else false) then (decide (0<=(Ptr.count p)/\(Ptr.count p)<=536870911)) else false)=true->(Z2Y ((Ptr.off p),1,()))/\((0:Int)<=32)/\((0:Int)<=35)/\(AW (Z0 Zj8) Try.f75 Zp0 [1,1,1] (Jt p (IntKind.wrap .u64 (BitVec.ofInt (IntKind.bits .u64) (IntKind.wrap .u64 (BitVec.ofInt (IntKind.bits .u64) (4*((Ptr.off p) % 1073741824)+1) ||| BitVec.ofInt (IntKind.bits .u64) (IntKind.wrap .u64 (((IntKind.wrap .u64 (Ptr.code p)):Int)*2 ^ (min (Int.toNat 32) (IntKind.bits .u64))))).toNat) ||| BitVec.ofInt (IntKind.bits .u64) (IntKind.wrap .u64 (((IntKind.wrap .u64 (Ptr.count p)):Int)*2 ^ (min (Int.toNat 35) (IntKind.bits .u64))))).toNat) .junk (.c y_4) .junk .junk .junk) Q))/\((bif (bif (decide (-536870912<=(Ptr.off p)/\(Ptr.off p) < 536870912)) then (decide (0<=(Ptr.code p)/\(Ptr.code p)<=7)) else false) then (decide (0<=(Ptr.count p)/\(Ptr.count p)<=536870911)) else false)=false->AW (Z0 Zj8) Try.f75 Zp0 [1,1,1] (Jt p 0 .junk (.c y_4) .junk .junk .junk) Q)))/\((((Ptr.kind p):Int)==2)=false->((((Ptr.kind p):Int)==3)=true->(Jg ((Ptr.off p),536870911,()))/\((decide (0<=(Ptr.off p)/\(Ptr.off p)<=536870911))=true->Jg ((Ptr.segment p),4294967295,()))/\(((bif (decide (0<=(Ptr.off p)/\(Ptr.off p)<=536870911)) then (decide (0<=(Ptr.segment p)/\(Ptr.segment p)<=4294967295)) else false)=true->((0:Int)<=3)/\((0:Int)<=32)/\(((Ptr.double p)=true->AW (Z0 Zj8) Try.f75 Zp0 [1,1,1] (Jt p (IntKind.wrap .u64 (BitVec.ofInt (IntKind.bits .u64) y_6 ||| BitVec.ofInt (IntKind.bits .u64) 4).toNat) .junk .junk (.c (.bool (Ptr.double p))) .junk .junk) Q)/\((Ptr.double p)=false->AW (Z0 Zj8) Try.f75 Zp0 [1,1,1] (Jt p y_6 .junk .junk (.c (.bool (Ptr.double p))) .junk .junk) Q)))/\((bif (decide (0<=(Ptr.off p)/\(Ptr.off p)<=536870911)) then (decide (0<=(Ptr.segment p)/\(Ptr.segment p)<=4294967295)) else false)=false->AW (Z0 Zj8) Try.f75 Zp0 [1,1,1] (Jt p 0 .junk .junk .junk (.c (.bool (bif (decide (0<=(Ptr.off p)/\(Ptr.off p)<=536870911)) then (decide (0<=(Ptr.segment p)/\(Ptr.segment p)<=4294967295)) else false))) (.c (.bool (((Ptr.kind p):Int)==3)))) Q)))/\((((Ptr.kind p):Int)==3)=false->AW (Z0 Zj8) Try.f75 Zp0 [1,1,1] (Jt p 0 .junk .junk .junk .junk (.c (.bool (((Ptr.kind p):Int)==3)))) Q)))):
  Znr p Q:=by
 have e_:(Znr p Q)=(let y_1:=(IntKind.wrap .u64 (((IntKind.wrap .u64 (Ptr.off p)):Int)*2 ^ (min (Int.toNat 3) (IntKind.bits .u64))));let y_2:=(IntKind.wrap .u64 (((IntKind.wrap .u64 (Ptr.segment p)):Int)*2 ^ (min (Int.toNat 32) (IntKind.bits .u64))));let y_3:=(.bool (bif (bif (decide (-536870912<=(Ptr.off p)/\(Ptr.off p) < 536870912)) then (decide (0<=(Ptr.data p)/\(Ptr.data p)<=65535)) else false) then (decide (0<=(Ptr.ptrs p)/\(Ptr.ptrs p)<=65535)) else false));let y_4:=(.bool (bif (bif (decide (-536870912<=(Ptr.off p)/\(Ptr.off p) < 536870912)) then (decide (0<=(Ptr.code p)/\(Ptr.code p)<=7)) else false) then (decide (0<=(Ptr.count p)/\(Ptr.count p)<=536870911)) else false));let y_5:=(IntKind.wrap .u64 (BitVec.ofInt (IntKind.bits .u64) y_1 ||| BitVec.ofInt (IntKind.bits .u64) 2).toNat);let y_6:=(IntKind.wrap .u64 (BitVec.ofInt (IntKind.bits .u64) y_5 ||| BitVec.ofInt (IntKind.bits .u64) y_2).toNat);let zz6:=(decide (0<=(Ptr.count p)/\(Ptr.count p)<=536870911));let zz5:=(((Ptr.kind p):Int)==3);let zz4:=(decide (0<=(Ptr.segment p)/\(Ptr.segment p)<=4294967295));let zz3:=(decide (0<=(Ptr.code p)/\(Ptr.code p)<=7));let zz2:=(decide (0<=(Ptr.data p)/\(Ptr.data p)<=65535));let zz1:=(decide (0<=(Ptr.off p)/\(Ptr.off p)<=536870911));let zz0:=(decide (-536870912<=(Ptr.off p)/\(Ptr.off p) < 536870912));(((((Ptr.kind p):Int)==1)=true->(Z6A ((Ptr.off p),()))/\(Tr (zz0=true))/\(Tr (zz0=true))/\(zz0=true->Jg ((Ptr.data p),65535,()))/\(Tr (zz0=true))/\(Tr ((bif zz0 then zz2 else false)=true))/\(Tr ((bif zz0 then zz2 else false)=true))/\((bif zz0 then zz2 else false)=true->Jg ((Ptr.ptrs p),65535,()))/\(Tr ((bif zz0 then zz2 else false)=true))/\(((bif (bif zz0 then zz2 else false) then (decide (0<=(Ptr.ptrs p)/\(Ptr.ptrs p)<=65535)) else false)=true->(Z2Y ((Ptr.off p),0,()))/\((0:Int)<=32)/\((0:Int)<=48)/\(Z1g (cd Try.f75 [1,1,1]) (Jt p (IntKind.wrap .u64 (BitVec.ofInt (IntKind.bits .u64) (IntKind.wrap .u64 (BitVec.ofInt (IntKind.bits .u64) (4*((Ptr.off p) % 1073741824)+0) ||| BitVec.ofInt (IntKind.bits .u64) (IntKind.wrap .u64 (((IntKind.wrap .u64 (Ptr.data p)):Int)*2 ^ (min (Int.toNat 32) (IntKind.bits .u64))))).toNat) ||| BitVec.ofInt (IntKind.bits .u64) (IntKind.wrap .u64 (((IntKind.wrap .u64 (Ptr.ptrs p)):Int)*2 ^ (min (Int.toNat 48) (IntKind.bits .u64))))).toNat) (.c y_3) .junk .junk .junk .junk) Q))/\((bif (bif zz0 then zz2 else false) then (decide (0<=(Ptr.ptrs p)/\(Ptr.ptrs p)<=65535)) else false)=false->Z1g (cd Try.f75 [1,1,1]) (Jt p 0 (.c y_3) .junk .junk .junk .junk) Q)))/\((((Ptr.kind p):Int)==1)=false->(((((Ptr.kind p):Int)==2)=true->(Z6A ((Ptr.off p),()))/\(Tr (zz0=true))/\(Tr (zz0=true))/\(zz0=true->Jg ((Ptr.code p),7,()))/\(Tr (zz0=true))/\(Tr ((bif zz0 then zz3 else false)=true))/\(Tr ((bif zz0 then zz3 else false)=true))/\((bif zz0 then zz3 else false)=true->Jg ((Ptr.count p),536870911,()))/\(Tr ((bif zz0 then zz3 else false)=true))/\(((bif (bif zz0 then zz3 else false) then zz6 else false)=true->(Z2Y ((Ptr.off p),1,()))/\((0:Int)<=32)/\((0:Int)<=35)/\(Z1g (cd Try.f75 [1,1,1]) (Jt p (IntKind.wrap .u64 (BitVec.ofInt (IntKind.bits .u64) (IntKind.wrap .u64 (BitVec.ofInt (IntKind.bits .u64) (4*((Ptr.off p) % 1073741824)+1) ||| BitVec.ofInt (IntKind.bits .u64) (IntKind.wrap .u64 (((IntKind.wrap .u64 (Ptr.code p)):Int)*2 ^ (min (Int.toNat 32) (IntKind.bits .u64))))).toNat) ||| BitVec.ofInt (IntKind.bits .u64) (IntKind.wrap .u64 (((IntKind.wrap .u64 (Ptr.count p)):Int)*2 ^ (min (Int.toNat 35) (IntKind.bits .u64))))).toNat) .junk (.c y_4) .junk .junk .junk) Q))/\((bif (bif zz0 then zz3 else false) then zz6 else false)=false->Z1g (cd Try.f75 [1,1,1]) (Jt p 0 .junk (.c y_4) .junk .junk .junk) Q)))/\((((Ptr.kind p):Int)==2)=false->((zz5=true->(Jg ((Ptr.off p),536870911,()))/\(Tr (zz1=true))/\(Tr (zz1=true))/\(zz1=true->Jg ((Ptr.segment p),4294967295,()))/\(Tr (zz1=true))/\(((bif zz1 then zz4 else false)=true->((0:Int)<=3)/\((0:Int)<=32)/\(((Ptr.double p)=true->(Z1g (cd Try.f75 [1,1,1]) (Jt p (IntKind.wrap .u64 (BitVec.ofInt (IntKind.bits .u64) y_6 ||| BitVec.ofInt (IntKind.bits .u64) 4).toNat) .junk .junk (.c (.bool (Ptr.double p))) .junk .junk) Q))/\((Ptr.double p)=false->Z1g (cd Try.f75 [1,1,1]) (Jt p y_6 .junk .junk (.c (.bool (Ptr.double p))) .junk .junk) Q)))/\((bif zz1 then zz4 else false)=false->Z1g (cd Try.f75 [1,1,1]) (Jt p 0 .junk .junk .junk (.c (.bool (bif zz1 then zz4 else false))) (.c (.bool zz5))) Q)))/\(zz5=false->Z1g (cd Try.f75 [1,1,1]) (Jt p 0 .junk .junk .junk .junk (.c (.bool zz5))) Q))))))):=by kernel_rfl
 exact e_.mpr (by intro y_1 y_2 y_3 y_4 y_5 y_6;have hh:=h y_1 rfl y_2 rfl y_3 rfl y_4 rfl y_5 rfl y_6 rfl;exact ⟨fun c_3=> ⟨(hh.1 c_3).1,id,id,(hh.1 c_3).2.1,(by generalize (decide (-536870912<=(Ptr.off p)/\(Ptr.off p) < 536870912))=b0;revert b0;decide),id,id,(hh.1 c_3).2.2.1,(by generalize (decide (-536870912<=(Ptr.off p)/\(Ptr.off p) < 536870912))=b0;generalize (decide (0<=(Ptr.data p)/\(Ptr.data p)<=65535))=b1;revert b0 b1;decide),⟨fun c_4=> ⟨((hh.1 c_3).2.2.2.1 c_4).1,((hh.1 c_3).2.2.2.1 c_4).2.1,((hh.1 c_3).2.2.2.1 c_4).2.2.1,((hh.1 c_3).2.2.2.1 c_4).2.2.2⟩,fun c_4=> ((hh.1 c_3).2.2.2.2 c_4)⟩⟩,fun c_3=> ⟨fun c_5=> ⟨((hh.2 c_3).1 c_5).1,id,id,((hh.2 c_3).1 c_5).2.1,(by generalize (decide (-536870912<=(Ptr.off p)/\(Ptr.off p) < 536870912))=b0;revert b0;decide),id,id,((hh.2 c_3).1 c_5).2.2.1,(by generalize (decide (-536870912<=(Ptr.off p)/\(Ptr.off p) < 536870912))=b0;generalize (decide (0<=(Ptr.code p)/\(Ptr.code p)<=7))=b1;revert b0 b1;decide),⟨fun c_6=> ⟨(((hh.2 c_3).1 c_5).2.2.2.1 c_6).1,(((hh.2 c_3).1 c_5).2.2.2.1 c_6).2.1,(((hh.2 c_3).1 c_5).2.2.2.1 c_6).2.2.1,(((hh.2 c_3).1 c_5).2.2.2.1 c_6).2.2.2⟩,fun c_6=> (((hh.2 c_3).1 c_5).2.2.2.2 c_6)⟩⟩,fun c_5=> ⟨fun c_7=> ⟨(((hh.2 c_3).2 c_5).1 c_7).1,id,id,(((hh.2 c_3).2 c_5).1 c_7).2.1,(by generalize (decide (0<=(Ptr.off p)/\(Ptr.off p)<=536870911))=b0;revert b0;decide),⟨fun c_8=> ⟨((((hh.2 c_3).2 c_5).1 c_7).2.2.1 c_8).1,((((hh.2 c_3).2 c_5).1 c_7).2.2.1 c_8).2.1,⟨fun c_9=> (((((hh.2 c_3).2 c_5).1 c_7).2.2.1 c_8).2.2.1 c_9),fun c_9=> (((((hh.2 c_3).2 c_5).1 c_7).2.2.1 c_8).2.2.2 c_9)⟩⟩,fun c_8=> ((((hh.2 c_3).2 c_5).1 c_7).2.2.2 c_8)⟩⟩,fun c_7=> (((hh.2 c_3).2 c_5).2 c_7)⟩⟩⟩)
abbrev ZcV(p:Ptr)(x4:Int)(v21 v49 v84 v72 v63:V U)(Q:QT):=AW (Z0 Zj8) Try.f75 Zp0 [1,1,1] (Jt p x4 v21 v49 v84 v72 v63) Q
theorem ZfY(p:Ptr)(x4:Int)(v21 v49 v84 v72 v63:V U)(Q:QT)(h:(Z0P (x4,()))/\(Q .ret (L2 [(2,.c (.int .u64 x4)),(3,.c (.bool (bif ((((Ptr.kind (Z6 x4)):Int)==(Ptr.kind p)) && ((((Ptr.off (Z6 x4)):Int)==(Ptr.off p)) && ((((Ptr.data (Z6 x4)):Int)==(Ptr.data p)) && ((((Ptr.ptrs (Z6 x4)):Int)==(Ptr.ptrs p)) && ((((Ptr.code (Z6 x4)):Int)==(Ptr.code p)) && ((((Ptr.count (Z6 x4)):Int)==(Ptr.count p)) && ((((Ptr.segment (Z6 x4)):Int)==(Ptr.segment p)) && (((Ptr.double (Z6 x4))==(Ptr.double p)) && true)))))))) then (((Ptr.kind p):Int) !=4) else false)))] []))):
  ZcV p x4 v21 v49 v84 v72 v63 Q:=by
 have e_:(ZcV p x4 v21 v49 v84 v72 v63 Q)=(let zz7:=((Ptr.double (Z6 x4))==(Ptr.double p));let zz6:=(((Ptr.off (Z6 x4)):Int)==(Ptr.off p));let zz5:=(((Ptr.code (Z6 x4)):Int)==(Ptr.code p));let zz4:=(((Ptr.ptrs (Z6 x4)):Int)==(Ptr.ptrs p));let zz3:=(((Ptr.data (Z6 x4)):Int)==(Ptr.data p));let zz2:=(((Ptr.kind (Z6 x4)):Int)==(Ptr.kind p));let zz1:=(((Ptr.count (Z6 x4)):Int)==(Ptr.count p));let zz0:=(((Ptr.segment (Z6 x4)):Int)==(Ptr.segment p));(Z0P (x4,()))/\(Tr ((zz2 && (zz6 && (zz3 && (zz4 && (zz5 && (zz1 && (zz0 && (zz7 && true))))))))=true))/\(Tr ((zz2 && (zz6 && (zz3 && (zz4 && (zz5 && (zz1 && (zz0 && (zz7 && true))))))))=true))/\(Tr ((zz2 && (zz6 && (zz3 && (zz4 && (zz5 && (zz1 && (zz0 && (zz7 && true))))))))=true))/\(Q .ret (L2 [(2,.c (.int .u64 x4)),(3,.c (.bool (bif (zz2 && (zz6 && (zz3 && (zz4 && (zz5 && (zz1 && (zz0 && (zz7 && true)))))))) then (((Ptr.kind p):Int) !=4) else false)))] []))):=by kernel_rfl
 exact e_.mpr ⟨h.1,id,id,(by generalize (((Ptr.segment (Z6 x4)):Int)==(Ptr.segment p))=b0;generalize (((Ptr.count (Z6 x4)):Int)==(Ptr.count p))=b1;generalize (((Ptr.ptrs (Z6 x4)):Int)==(Ptr.ptrs p))=b2;generalize (((Ptr.kind (Z6 x4)):Int)==(Ptr.kind p))=b3;generalize (((Ptr.code (Z6 x4)):Int)==(Ptr.code p))=b4;generalize (((Ptr.data (Z6 x4)):Int)==(Ptr.data p))=b5;generalize (((Ptr.off (Z6 x4)):Int)==(Ptr.off p))=b6;generalize ((Ptr.double (Z6 x4))==(Ptr.double p))=b7;revert b0 b1 b2 b3 b4 b5 b6 b7;decide),h.2⟩
abbrev ZkD(p:Ptr):Prop:=AW (Z0 Zj8) Try.f75 Zp0 [] (Zi (ZfC.can (p,())) []) (EQ Try.f75 (ZaU (p,())) [])
theorem Ziw(c98:CT 98 Z2C)(c99:CT 99 Z0J)(ZgW:CT 100 Z15)(Z4G:CT 101 Yy)(hb:∀ (p:Ptr) (_:Unit),Z7m (p,())->ZkD p):CT 75 Z2M:=
 Z2 (l:=[(98,Z2C),(99,Z0J),(100,Z15),(101,Yy)]) Zf rfl (⟨c98,c99,ZgW,Z4G,trivial⟩) Zp0 Try.func75 rfl rfl 1 (fun _=> rfl) (by decide) (fun ⟨p,_⟩=> hb p ())
def Zj5:List (FuncId × Fs U):=[(75,Z2M),(44,Ji)]
def ZoX:Z8 U:=fun i=> match i with
 | 0=> ([(0,[.ar]),(3,[]),(4,[]),(5,[]),(6,[])],[(.loc 4,[.ar]),(.loc 5,[]),(.loc 6,[])])
 | 1=> ([(0,[.ar]),(4,[]),(5,[]),(9,[]),(10,[])],[(.loc 4,[.ar]),(.loc 5,[])])
 | 2=> ([(0,[.ar]),(8,[])],[])
 | _=> ([],[])
abbrev W78(a:Arena)(fr to:Spot)(double:Bool)(Q:QT):=AW (Z0 Zj5) Try.f78 ZoX [] (⟨[(0,.agg [.mref (.A)]),(1,.agg (enc .spot fr)),(2,.agg (enc .spot to)),pB 3 double],[],[(.A,LC.mk (U:=U) .arena ([a]) 0)]⟩:LSt U) Q
theorem ZrU(a:Arena)(fr to:Spot)(double:Bool)(Q:QT)(h:(Z7m ((Ptr.mk 3 (Spot.at_ to) 0 0 0 0 (Spot.segment to) double),()))/\((true=true->JR ((a,()),(Spot.mk (Spot.segment fr) (Spot.at_ fr)),([Yo (Ptr.double (Ptr.mk 3 (Spot.at_ to) 0 0 0 0 (Spot.segment to) double)) (Ptr.segment (Ptr.mk 3 (Spot.at_ to) 0 0 0 0 (Spot.segment to) double)) (Ptr.off (Ptr.mk 3 (Spot.at_ to) 0 0 0 0 (Spot.segment to) double))]),()))/\(Q .ret (⟨[(0,.agg [.mref (.A)]),pB 8 true],[],[(.A,LC.mk (U:=U) .arena ([bif true then (ZG ([Yo (Ptr.double (Ptr.mk 3 (Spot.at_ to) 0 0 0 0 (Spot.segment to) double)) (Ptr.segment (Ptr.mk 3 (Spot.at_ to) 0 0 0 0 (Spot.segment to) double)) (Ptr.off (Ptr.mk 3 (Spot.at_ to) 0 0 0 0 (Spot.segment to) double))]) a (Spot.segment (Spot.mk (Spot.segment fr) (Spot.at_ fr))) (Spot.at_ (Spot.mk (Spot.segment fr) (Spot.at_ fr)))) else a]) 0)]⟩:LSt U)))):
  W78 a fr to double Q:=by
 have e_:(W78 a fr to double Q)=((Z7m ((Ptr.mk 3 (Spot.at_ to) 0 0 0 0 (Spot.segment to) double),()))/\((true=true->true=true)/\(true=true->true=true)/\(true=true->true=true)/\(true=true->true=true)/\(true=true->JR ((a,()),(Spot.mk (Spot.segment fr) (Spot.at_ fr)),([Yo (Ptr.double (Ptr.mk 3 (Spot.at_ to) 0 0 0 0 (Spot.segment to) double)) (Ptr.segment (Ptr.mk 3 (Spot.at_ to) 0 0 0 0 (Spot.segment to) double)) (Ptr.off (Ptr.mk 3 (Spot.at_ to) 0 0 0 0 (Spot.segment to) double))]),()))/\(true=true->true=true)/\(Q .ret (⟨[(0,.agg [.mref (.A)]),pB 8 true],[],[(.A,LC.mk (U:=U) .arena ([bif true then (ZG ([Yo (Ptr.double (Ptr.mk 3 (Spot.at_ to) 0 0 0 0 (Spot.segment to) double)) (Ptr.segment (Ptr.mk 3 (Spot.at_ to) 0 0 0 0 (Spot.segment to) double)) (Ptr.off (Ptr.mk 3 (Spot.at_ to) 0 0 0 0 (Spot.segment to) double))]) a (Spot.segment (Spot.mk (Spot.segment fr) (Spot.at_ fr))) (Spot.at_ (Spot.mk (Spot.segment fr) (Spot.at_ fr)))) else a]) 0)]⟩:LSt U)))):=by kernel_rfl
 exact e_.mpr ⟨h.1,⟨id,id,id,id,h.2.1,(by decide),h.2.2⟩⟩
abbrev ZpZ(a:Arena)(fr to:Spot)(double:Bool):Prop:=AW (Z0 Zj5) Try.f78 ZoX [] (Yu (Zbp.can ((a,()),fr,to,double,())) (Zbp.canX ((a,()),fr,to,double,())) (Zbp.canL ((a,()),fr,to,double,()))) (YQ cfg Try.f78.ntmps Try.f78.results.toList (ZmL ((a,()),fr,to,double,())) (Zhs ((a,()),fr,to,double,())) (Zhz ((a,()),fr,to,double,())))
theorem Zo1(ZjJ:CT 75 Z2M)(c44:CT 44 Ji)(hb:∀ (a:Arena) (fr:Spot) (to:Spot) (double:Bool) (_:Unit),Z6B ((a,()),fr,to,double,())->ZpZ a fr to double):CT 78 Z7K:=
 Contract.passing <| ZM (l:=[(75,Z2M),(44,Ji)]) Zf rfl (⟨ZjJ,c44,trivial⟩) ZoX Try.func78 rfl rfl 4 (fun _=> rfl) (by decide) (fun ⟨⟨a,_⟩,fr,to,double,_⟩=> hb a fr to double ())
def Zj7:List (FuncId × Fs U):=[(75,Z1i),(44,Ji)]
def ZoZ:Z8 U:=fun i=> match i with
 | 0=> ([(0,[.ar]),(4,[]),(5,[]),(6,[]),(7,[])],[(.loc 4,[.ar]),(.loc 5,[]),(.loc 6,[]),(.loc 7,[])])
 | 1=> ([(0,[.ar]),(4,[]),(5,[]),(7,[])],[(.loc 4,[.ar]),(.loc 5,[]),(.loc 7,[])])
 | 2=> ([(0,[.ar]),(4,[]),(5,[]),(7,[]),(28,[])],[(.loc 4,[.ar]),(.loc 5,[]),(.loc 7,[])])
 | 3=> ([(0,[.ar]),(4,[]),(5,[]),(7,[])],[(.loc 4,[.ar]),(.loc 5,[]),(.loc 7,[])])
 | 4=> ([(0,[.ar]),(4,[]),(5,[]),(9,[]),(10,[])],[(.loc 4,[.ar]),(.loc 5,[])])
 | 5=> ([(0,[.ar]),(8,[])],[])
 | _=> ([],[])
abbrev W76(a:Arena)(fr to:Spot)(p:Ptr)(Q:QT):=AW (Z0 Zj7) Try.f76 ZoZ [] (⟨[(0,.agg [.mref (.A)]),(1,.agg (enc .spot fr)),(2,.agg (enc .spot to)),(3,.agg (enc .ptr p))],[],[(.A,LC.mk (U:=U) .arena ([a]) 0)]⟩:LSt U) Q
theorem ZrW(a:Arena)(fr to:Spot)(p:Ptr)(Q:QT)(h:∀ y_1,y_1=fr->∀ y_2,y_2=(Ptr.mk (Ptr.kind p) (-1) (Ptr.data p) (Ptr.ptrs p) (Ptr.code p) (Ptr.count p) (Ptr.segment p) (Ptr.double p))->∀ y_3,y_3=(Ptr.mk (Ptr.kind p) (((((Spot.at_ to):Int) - (Spot.at_ fr)):Int) - 1) (Ptr.data p) (Ptr.ptrs p) (Ptr.code p) (Ptr.count p) (Ptr.segment p) (Ptr.double p))->(InR (((Spot.at_ to):Int) - (Spot.at_ fr)))/\(InR (((((Spot.at_ to):Int) - (Spot.at_ fr)):Int) - 1))/\(((((Ptr.kind p):Int)==1)=true->InR (((Ptr.data p):Int)+(Ptr.ptrs p)))/\(((bif (((Ptr.kind p):Int)==1) then (((((Ptr.data p):Int)+(Ptr.ptrs p)):Int)==0) else false)=true->(Z1u (y_2,()))/\(((eqP (Z6 (ZA y_2)) y_2 && !decide (Ptr.kind y_2=4))=true->JR ((a,()),y_1,([ZA y_2]),()))/\(Q .ret (⟨[(0,.agg [.mref (.A)]),(8,.c (.bool (bif (eqP (Z6 (ZA y_2)) y_2 && !decide (Ptr.kind y_2=4)) then true else false)))],[],[(.A,LC.mk (U:=U) .arena ([bif (eqP (Z6 (ZA y_2)) y_2 && !decide (Ptr.kind y_2=4)) then (ZG ([ZA y_2]) a (Spot.segment y_1) (Spot.at_ y_1)) else a]) 0)]⟩:LSt U))))/\((bif (((Ptr.kind p):Int)==1) then (((((Ptr.data p):Int)+(Ptr.ptrs p)):Int)==0) else false)=false->(Z1u (y_3,()))/\(((eqP (Z6 (ZA y_3)) y_3 && !decide (Ptr.kind y_3=4))=true->JR ((a,()),y_1,([ZA y_3]),()))/\(Q .ret (⟨[(0,.agg [.mref (.A)]),(8,.c (.bool (bif (eqP (Z6 (ZA y_3)) y_3 && !decide (Ptr.kind y_3=4)) then true else false)))],[],[(.A,LC.mk (U:=U) .arena ([bif (eqP (Z6 (ZA y_3)) y_3 && !decide (Ptr.kind y_3=4)) then (ZG ([ZA y_3]) a (Spot.segment y_1) (Spot.at_ y_1)) else a]) 0)]⟩:LSt U))))))):
  W76 a fr to p Q:=by
 have e_:(W76 a fr to p Q)=(let y_1:=(YM fr);let y_2:=(Ptr.mk (Ptr.kind p) (-1) (Ptr.data p) (Ptr.ptrs p) (Ptr.code p) (Ptr.count p) (Ptr.segment p) (Ptr.double p));let y_3:=(Ptr.mk (Ptr.kind p) (((((Spot.at_ to):Int) - (Spot.at_ fr)):Int) - 1) (Ptr.data p) (Ptr.ptrs p) (Ptr.code p) (Ptr.count p) (Ptr.segment p) (Ptr.double p));let zz0:=(((Ptr.kind p):Int)==1);((InR (((Spot.at_ to):Int) - (Spot.at_ fr)))/\(InR (((((Spot.at_ to):Int) - (Spot.at_ fr)):Int) - 1))/\((Tr (zz0=true))/\(Tr (zz0=true))/\(Tr (zz0=true))/\(Tr (zz0=true))/\(zz0=true->InR (((Ptr.data p):Int)+(Ptr.ptrs p)))/\(Tr (zz0=true))/\(Tr (zz0=true))/\(((bif zz0 then (((((Ptr.data p):Int)+(Ptr.ptrs p)):Int)==0) else false)=true->((Z1u (y_2,()))/\((Tr ((eqP (Z6 (ZA y_2)) y_2 && !decide (Ptr.kind y_2=4))=true))/\(Tr ((eqP (Z6 (ZA y_2)) y_2 && !decide (Ptr.kind y_2=4))=true))/\(Tr ((eqP (Z6 (ZA y_2)) y_2 && !decide (Ptr.kind y_2=4))=true))/\(Tr ((eqP (Z6 (ZA y_2)) y_2 && !decide (Ptr.kind y_2=4))=true))/\((eqP (Z6 (ZA y_2)) y_2 && !decide (Ptr.kind y_2=4))=true->JR ((a,()),y_1,([ZA y_2]),()))/\(Tr ((eqP (Z6 (ZA y_2)) y_2 && !decide (Ptr.kind y_2=4))=true))/\(Q .ret (⟨[(0,.agg [.mref (.A)]),(8,.c (.bool (bif (eqP (Z6 (ZA y_2)) y_2 && !decide (Ptr.kind y_2=4)) then true else false)))],[],[(.A,LC.mk (U:=U) .arena ([bif (eqP (Z6 (ZA y_2)) y_2 && !decide (Ptr.kind y_2=4)) then (ZG ([ZA y_2]) a (Spot.segment y_1) (Spot.at_ y_1)) else a]) 0)]⟩:LSt U)))))/\((bif zz0 then (((((Ptr.data p):Int)+(Ptr.ptrs p)):Int)==0) else false)=false->(Z1u (y_3,()))/\((Tr ((eqP (Z6 (ZA y_3)) y_3 && !decide (Ptr.kind y_3=4))=true))/\(Tr ((eqP (Z6 (ZA y_3)) y_3 && !decide (Ptr.kind y_3=4))=true))/\(Tr ((eqP (Z6 (ZA y_3)) y_3 && !decide (Ptr.kind y_3=4))=true))/\(Tr ((eqP (Z6 (ZA y_3)) y_3 && !decide (Ptr.kind y_3=4))=true))/\((eqP (Z6 (ZA y_3)) y_3 && !decide (Ptr.kind y_3=4))=true->JR ((a,()),y_1,([ZA y_3]),()))/\(Tr ((eqP (Z6 (ZA y_3)) y_3 && !decide (Ptr.kind y_3=4))=true))/\(Q .ret (⟨[(0,.agg [.mref (.A)]),(8,.c (.bool (bif (eqP (Z6 (ZA y_3)) y_3 && !decide (Ptr.kind y_3=4)) then true else false)))],[],[(.A,LC.mk (U:=U) .arena ([bif (eqP (Z6 (ZA y_3)) y_3 && !decide (Ptr.kind y_3=4)) then (ZG ([ZA y_3]) a (Spot.segment y_1) (Spot.at_ y_1)) else a]) 0)]⟩:LSt U)))))))):=by kernel_rfl
 exact e_.mpr (by intro y_1 y_2 y_3;have hh:=h y_1 (ZU _) y_2 rfl y_3 rfl;exact ⟨hh.1,hh.2.1,⟨id,id,id,id,hh.2.2.1,id,(by generalize (((Ptr.kind p):Int)==1)=b0;revert b0;decide),⟨fun c_10=> ⟨(hh.2.2.2.1 c_10).1,⟨id,id,id,id,(hh.2.2.2.1 c_10).2.1,(by generalize (eqP (Z6 (ZA y_2)) y_2)=b0;generalize (decide (Ptr.kind y_2=4))=b1;revert b0 b1;decide),(hh.2.2.2.1 c_10).2.2⟩⟩,fun c_10=> ⟨(hh.2.2.2.2 c_10).1,⟨id,id,id,id,(hh.2.2.2.2 c_10).2.1,(by generalize (eqP (Z6 (ZA y_3)) y_3)=b0;generalize (decide (Ptr.kind y_3=4))=b1;revert b0 b1;decide),(hh.2.2.2.2 c_10).2.2⟩⟩⟩⟩⟩)
abbrev Zq1(a:Arena)(fr to:Spot)(p:Ptr):Prop:=AW (Z0 Zj7) Try.f76 ZoZ [] (Yu (Zbr.can ((a,()),fr,to,p,())) (Zbr.canX ((a,()),fr,to,p,())) (Zbr.canL ((a,()),fr,to,p,()))) (YQ cfg Try.f76.ntmps Try.f76.results.toList (ZhH ((a,()),fr,to,p,())) (Zdc ((a,()),fr,to,p,())) (Zde ((a,()),fr,to,p,())))
theorem Zo3(c75:CT 75 Z1i)(c44:CT 44 Ji)(hb:∀ (a:Arena) (fr:Spot) (to:Spot) (p:Ptr) (_:Unit),Za5 ((a,()),fr,to,p,())->Zq1 a fr to p):CT 76 Z7M:=
 Contract.passing <| ZM (l:=[(75,Z1i),(44,Ji)]) Zf rfl (⟨c75,c44,trivial⟩) ZoZ Try.func76 rfl rfl 4 (fun _=> rfl) (by decide) (fun ⟨⟨a,_⟩,fr,to,p,_⟩=> hb a fr to p ())
def Zjl:List (FuncId × Fs U):=[(76,Z7M),(77,Z7L),(78,Z7K),(22,Z03),(75,Z1i),(46,Z4h),(44,Ji)]
def Zpc:Z8 U:=fun i=> match i with
 | 0=> ([(0,[.ar]),(4,[]),(5,[]),(6,[]),(7,[])],[(.loc 4,[.ar]),(.loc 5,[]),(.loc 6,[]),(.loc 7,[])])
 | 1=> ([(0,[.ar]),(4,[]),(5,[]),(6,[]),(7,[]),(33,[])],[(.loc 4,[.ar]),(.loc 5,[]),(.loc 6,[]),(.loc 7,[])])
 | 2=> ([(0,[.ar]),(8,[])],[])
 | 3=> ([(0,[.ar]),(4,[]),(5,[]),(6,[]),(7,[]),(9,[]),(10,[])],[(.loc 4,[.ar]),(.loc 5,[]),(.loc 6,[]),(.loc 7,[])])
 | 4=> ([(0,[.ar]),(4,[]),(5,[]),(6,[]),(7,[]),(9,[]),(47,[])],[(.loc 4,[.ar]),(.loc 5,[]),(.loc 6,[]),(.loc 7,[])])
 | 5=> ([(0,[.ar]),(4,[]),(5,[]),(6,[]),(7,[]),(11,[])],[(.loc 4,[.ar]),(.loc 5,[]),(.loc 6,[]),(.loc 7,[]),(.loc 11,[])])
 | 6=> ([(0,[.ar]),(8,[])],[])
 | 7=> ([(0,[.ar]),(4,[]),(5,[]),(6,[]),(7,[]),(12,[]),(13,[])],[(.loc 4,[.ar]),(.loc 5,[]),(.loc 6,[]),(.loc 7,[]),(.loc 12,[])])
 | 8=> ([(0,[.ar]),(4,[]),(5,[]),(6,[]),(7,[]),(12,[]),(13,[])],[(.loc 4,[.ar]),(.loc 5,[]),(.loc 6,[]),(.loc 7,[]),(.loc 12,[])])
 | 9=> ([(0,[.ar]),(4,[]),(5,[]),(6,[]),(12,[]),(13,[]),(14,[]),(15,[])],[(.loc 4,[.ar]),(.loc 5,[]),(.loc 6,[]),(.loc 12,[])])
 | 10=> ([(0,[.ar]),(8,[])],[])
 | _=> ([],[])
abbrev W43(a:Arena)(fr to:Spot)(p:Ptr)(Q:QT):=AW (Z0 Zjl) Try.f43 Zpc [] (⟨[(0,.agg [.mref (.A)]),(1,.agg (enc .spot fr)),(2,.agg (enc .spot to)),(3,.agg (enc .ptr p))],[],[(.A,LC.mk (U:=U) .arena ([a]) 0)]⟩:LSt U) Q
theorem Zsh(a:Arena)(fr to:Spot)(p:Ptr)(Q:QT)(h:∀ y_1,y_1=p->∀ y_2,y_2=fr->∀ y_3,y_3=to->∀ y_4,y_4=(Ptr.mk (Ptr.kind p) 0 (Ptr.data p) (Ptr.ptrs p) (Ptr.code p) (Ptr.count p) (Ptr.segment p) (Ptr.double p))->∀ y_5,y_5=(Spot.mk (Spot.segment to) (if Z0W a (Spot.segment to) 1 then ((Zh a.segs (Spot.segment to)).length:Int) else 0))->∀ y_6,y_6=(Spot.mk (if Z4 (inA a (Spot.segment to) 1) 2 then giveS (inA a (Spot.segment to) 1) 2 else 0) (if Z4 (inA a (Spot.segment to) 1) 2 then giveT (inA a (Spot.segment to) 1) 2 else 0))->∀ y_7,y_7=y_6->∀ y_8,y_8=(ZW (inA a (Spot.segment to) 1) (Spot.segment y_2) (Spot.at_ y_2) (Yo false (Spot.segment y_5) (Spot.at_ y_5)))->∀ y_9,y_9=(Spot.mk (Spot.segment y_7) (Spot.at_ y_7+1))->∀ y_10,y_10=(ZW (Zd (inA a (Spot.segment to) 1) 2) (Spot.segment y_2) (Spot.at_ y_2) (Yo true (Spot.segment y_7) (Spot.at_ y_7)))->∀ y_11,y_11=(ZW (bif (bif (Z4 (inA a (Spot.segment to) 1) 2) then (eqP (Z6 (ZA y_4)) y_4 && !decide (Ptr.kind y_4=4)) else false) then y_10 else (Zd (inA a (Spot.segment to) 1) 2)) (Spot.segment y_7) (Spot.at_ y_7) (Yo false (Spot.segment y_3) (Spot.at_ y_3)))->(((!(((Spot.segment fr):Int)==(Spot.segment to))) && (((Ptr.kind p):Int)==1))=true->InR (((Ptr.data p):Int)+(Ptr.ptrs p)))/\(((bif (((Spot.segment fr):Int)==(Spot.segment to)) then true else (bif (((Ptr.kind p):Int)==1) then (((((Ptr.data p):Int)+(Ptr.ptrs p)):Int)==0) else false))=true->(Za5 ((a,()),y_2,y_3,y_1,()))/\(Q .ret (⟨[(0,.agg [.mref (.A)]),pB 8 true],[],[(.A,LC.mk (U:=U) .arena ([ZW a (Spot.segment y_2) (Spot.at_ y_2) (pwA (Spot.at_ y_2) (Spot.at_ y_3) (kdP y_1) (upP y_1))]) 0)]⟩:LSt U)))/\((bif (((Spot.segment fr):Int)==(Spot.segment to)) then true else (bif (((Ptr.kind p):Int)==1) then (((((Ptr.data p):Int)+(Ptr.ptrs p)):Int)==0) else false))=false->(ZeS (a,(Spot.segment to),1,()))/\(((Z0W a (Spot.segment to) 1)=true->(Z6B (((inA a (Spot.segment to) 1),()),y_2,y_5,false,()))/\(true=true->Za5 ((y_8,()),y_5,y_3,y_1,()))/\(Q .ret (⟨[(0,.agg [.mref (.A)]),pB 8 true],[],[(.A,LC.mk (U:=U) .arena ([bif true then (ZW y_8 (Spot.segment y_5) (Spot.at_ y_5) (pwA (Spot.at_ y_5) (Spot.at_ y_3) (kdP y_1) (upP y_1))) else y_8]) 0)]⟩:LSt U)))/\((Z0W a (Spot.segment to) 1)=false->(Z2p (((inA a (Spot.segment to) 1),()),2,()))/\((Z1u (y_4,()))/\(((bif (Z4 (inA a (Spot.segment to) 1) 2) then (eqP (Z6 (ZA y_4)) y_4 && !decide (Ptr.kind y_4=4)) else false)=true->Z6B (((Zd (inA a (Spot.segment to) 1) 2),()),y_2,y_7,true,()))/\((bif (bif (Z4 (inA a (Spot.segment to) 1) 2) then (eqP (Z6 (ZA y_4)) y_4 && !decide (Ptr.kind y_4=4)) else false) then true else false)=true->Z6B (((bif (bif (Z4 (inA a (Spot.segment to) 1) 2) then (eqP (Z6 (ZA y_4)) y_4 && !decide (Ptr.kind y_4=4)) else false) then y_10 else (Zd (inA a (Spot.segment to) 1) 2)),()),y_7,y_3,false,()))/\((bif (bif (bif (Z4 (inA a (Spot.segment to) 1) 2) then (eqP (Z6 (ZA y_4)) y_4 && !decide (Ptr.kind y_4=4)) else false) then true else false) then true else false)=true->Z2o (y_7,1,()))/\((bif (bif (bif (Z4 (inA a (Spot.segment to) 1) 2) then (eqP (Z6 (ZA y_4)) y_4 && !decide (Ptr.kind y_4=4)) else false) then true else false) then true else false)=true->JR (((bif (bif (bif (Z4 (inA a (Spot.segment to) 1) 2) then (eqP (Z6 (ZA y_4)) y_4 && !decide (Ptr.kind y_4=4)) else false) then true else false) then y_11 else (bif (bif (Z4 (inA a (Spot.segment to) 1) 2) then (eqP (Z6 (ZA y_4)) y_4 && !decide (Ptr.kind y_4=4)) else false) then y_10 else (Zd (inA a (Spot.segment to) 1) 2))),()),y_9,([ZA y_4]),()))/\(Q .ret (⟨[(0,.agg [.mref (.A)]),(8,.c (.bool (bif (bif (bif (bif (Z4 (inA a (Spot.segment to) 1) 2) then (eqP (Z6 (ZA y_4)) y_4 && !decide (Ptr.kind y_4=4)) else false) then true else false) then true else false) then true else false)))],[],[(.A,LC.mk (U:=U) .arena ([bif (bif (bif (bif (Z4 (inA a (Spot.segment to) 1) 2) then (eqP (Z6 (ZA y_4)) y_4 && !decide (Ptr.kind y_4=4)) else false) then true else false) then true else false) then (ZG ([ZA y_4]) (bif (bif (bif (Z4 (inA a (Spot.segment to) 1) 2) then (eqP (Z6 (ZA y_4)) y_4 && !decide (Ptr.kind y_4=4)) else false) then true else false) then y_11 else (bif (bif (Z4 (inA a (Spot.segment to) 1) 2) then (eqP (Z6 (ZA y_4)) y_4 && !decide (Ptr.kind y_4=4)) else false) then y_10 else (Zd (inA a (Spot.segment to) 1) 2))) (Spot.segment y_9) (Spot.at_ y_9)) else (bif (bif (bif (Z4 (inA a (Spot.segment to) 1) 2) then (eqP (Z6 (ZA y_4)) y_4 && !decide (Ptr.kind y_4=4)) else false) then true else false) then y_11 else (bif (bif (Z4 (inA a (Spot.segment to) 1) 2) then (eqP (Z6 (ZA y_4)) y_4 && !decide (Ptr.kind y_4=4)) else false) then y_10 else (Zd (inA a (Spot.segment to) 1) 2)))]) 0)]⟩:LSt U))))))))):
  W43 a fr to p Q:=by
 have e_:(W43 a fr to p Q)=(let y_1:=(ZhQ p);let y_2:=(YM fr);let y_3:=(YM to);let y_4:=(Ptr.mk (Ptr.kind p) 0 (Ptr.data p) (Ptr.ptrs p) (Ptr.code p) (Ptr.count p) (Ptr.segment p) (Ptr.double p));let y_5:=(Spot.mk (Spot.segment to) (if Z0W a (Spot.segment to) 1 then ((Zh a.segs (Spot.segment to)).length:Int) else 0));let y_6:=(Spot.mk (if Z4 (inA a (Spot.segment to) 1) 2 then giveS (inA a (Spot.segment to) 1) 2 else 0) (if Z4 (inA a (Spot.segment to) 1) 2 then giveT (inA a (Spot.segment to) 1) 2 else 0));let y_7:=(YM y_6);let y_8:=(ZW (inA a (Spot.segment to) 1) (Spot.segment y_2) (Spot.at_ y_2) (Yo false (Spot.segment y_5) (Spot.at_ y_5)));let y_9:=(YM (Spot.mk (Spot.segment y_7) (Spot.at_ y_7+1)));let y_10:=(ZW (Zd (inA a (Spot.segment to) 1) 2) (Spot.segment y_2) (Spot.at_ y_2) (Yo true (Spot.segment y_7) (Spot.at_ y_7)));let y_11:=(ZW (bif (bif (Z4 (inA a (Spot.segment to) 1) 2) then (eqP (Z6 (ZA y_4)) y_4 && !decide (Ptr.kind y_4=4)) else false) then y_10 else (Zd (inA a (Spot.segment to) 1) 2)) (Spot.segment y_7) (Spot.at_ y_7) (Yo false (Spot.segment y_3) (Spot.at_ y_3)));let zz2:=(((Ptr.kind p):Int)==1);let zz1:=(((Spot.segment fr):Int)==(Spot.segment to));let zz0:=(bif (Z4 (inA a (Spot.segment to) 1) 2) then (eqP (Z6 (ZA y_4)) y_4 && !decide (Ptr.kind y_4=4)) else false);((Tr ((!zz1)=true))/\(Tr ((!zz1)=true))/\(Tr ((!zz1)=true))/\(Tr (((!zz1) && zz2)=true))/\(Tr (((!zz1) && zz2)=true))/\(Tr (((!zz1) && zz2)=true))/\(Tr (((!zz1) && zz2)=true))/\(((!zz1) && zz2)=true->InR (((Ptr.data p):Int)+(Ptr.ptrs p)))/\(Tr (((!zz1) && zz2)=true))/\((!zz1)=true->(True->(!zz1)=true))/\((!zz1)=true->(zz2=true->((!zz1) && zz2)=true))/\(zz1=false->(!zz1)=true)/\(((bif zz1 then true else (bif zz2 then (((((Ptr.data p):Int)+(Ptr.ptrs p)):Int)==0) else false))=true->(Za5 ((a,()),y_2,y_3,y_1,()))/\(Q .ret (⟨[(0,.agg [.mref (.A)]),pB 8 true],[],[(.A,LC.mk (U:=U) .arena ([ZW a (Spot.segment y_2) (Spot.at_ y_2) (pwA (Spot.at_ y_2) (Spot.at_ y_3) (kdP y_1) (upP y_1))]) 0)]⟩:LSt U)))/\((bif zz1 then true else (bif zz2 then (((((Ptr.data p):Int)+(Ptr.ptrs p)):Int)==0) else false))=false->(ZeS (a,(Spot.segment to),1,()))/\(((Z0W a (Spot.segment to) 1)=true->((Z6B (((inA a (Spot.segment to) 1),()),y_2,y_5,false,()))/\(true=true->true=true)/\(true=true->true=true)/\(true=true->true=true)/\(true=true->true=true)/\(true=true->Za5 ((y_8,()),y_5,y_3,y_1,()))/\(true=true->true=true)/\(Q .ret (⟨[(0,.agg [.mref (.A)]),pB 8 true],[],[(.A,LC.mk (U:=U) .arena ([bif true then (ZW y_8 (Spot.segment y_5) (Spot.at_ y_5) (pwA (Spot.at_ y_5) (Spot.at_ y_3) (kdP y_1) (upP y_1))) else y_8]) 0)]⟩:LSt U))))/\((Z0W a (Spot.segment to) 1)=false->(Z2p (((inA a (Spot.segment to) 1),()),2,()))/\((Z1u (y_4,()))/\((Tr ((Z4 (inA a (Spot.segment to) 1) 2)=true))/\(Tr (zz0=true))/\(Tr (zz0=true))/\(Tr (zz0=true))/\(zz0=true->Z6B (((Zd (inA a (Spot.segment to) 1) 2),()),y_2,y_7,true,()))/\(Tr (zz0=true))/\(Tr ((bif zz0 then true else false)=true))/\(Tr ((bif zz0 then true else false)=true))/\(Tr ((bif zz0 then true else false)=true))/\((bif zz0 then true else false)=true->Z6B (((bif zz0 then y_10 else (Zd (inA a (Spot.segment to) 1) 2)),()),y_7,y_3,false,()))/\(Tr ((bif zz0 then true else false)=true))/\(Tr ((bif (bif zz0 then true else false) then true else false)=true))/\((bif (bif zz0 then true else false) then true else false)=true->Z2o (y_7,1,()))/\(Tr ((bif (bif zz0 then true else false) then true else false)=true))/\(Tr ((bif (bif zz0 then true else false) then true else false)=true))/\(Tr ((bif (bif zz0 then true else false) then true else false)=true))/\(Tr ((bif (bif zz0 then true else false) then true else false)=true))/\((bif (bif zz0 then true else false) then true else false)=true->JR (((bif (bif zz0 then true else false) then y_11 else (bif zz0 then y_10 else (Zd (inA a (Spot.segment to) 1) 2))),()),y_9,([ZA y_4]),()))/\(Tr ((bif (bif zz0 then true else false) then true else false)=true))/\(Q .ret (⟨[(0,.agg [.mref (.A)]),pB 8 (bif (bif (bif zz0 then true else false) then true else false) then true else false)],[],[(.A,LC.mk (U:=U) .arena ([bif (bif (bif zz0 then true else false) then true else false) then (ZG ([ZA y_4]) (bif (bif zz0 then true else false) then y_11 else (bif zz0 then y_10 else (Zd (inA a (Spot.segment to) 1) 2))) (Spot.segment y_9) (Spot.at_ y_9)) else (bif (bif zz0 then true else false) then y_11 else (bif zz0 then y_10 else (Zd (inA a (Spot.segment to) 1) 2)))]) 0)]⟩:LSt U)))))))))):=by kernel_rfl
 exact e_.mpr (by intro y_1 y_2 y_3 y_4 y_5 y_6 y_7 y_8 y_9 y_10 y_11;have hh:=h y_1 (Z1t _) y_2 (ZU _) y_3 (ZU _) y_4 rfl y_5 rfl y_6 rfl y_7 (ZU _) y_8 rfl y_9 (ZU _) y_10 rfl y_11 rfl;exact ⟨id,id,id,id,id,id,id,hh.1,id,(by generalize (((Spot.segment fr):Int)==(Spot.segment to))=b0;revert b0;decide),(by generalize (((Spot.segment fr):Int)==(Spot.segment to))=b0;generalize (((Ptr.kind p):Int)==1)=b1;revert b0 b1;decide),(by generalize (((Spot.segment fr):Int)==(Spot.segment to))=b0;revert b0;decide),⟨fun c_11=> ⟨(hh.2.1 c_11).1,(hh.2.1 c_11).2⟩,fun c_11=> ⟨(hh.2.2 c_11).1,⟨fun c_12=> ⟨((hh.2.2 c_11).2.1 c_12).1,id,id,id,id,((hh.2.2 c_11).2.1 c_12).2.1,(by decide),((hh.2.2 c_11).2.1 c_12).2.2⟩,fun c_12=> ⟨((hh.2.2 c_11).2.2 c_12).1,⟨((hh.2.2 c_11).2.2 c_12).2.1,⟨(by generalize (Z4 (inA a (Spot.segment to) 1) 2)=b0;revert b0;decide),id,id,id,((hh.2.2 c_11).2.2 c_12).2.2.1,(by generalize (eqP (Z6 (ZA y_4)) y_4)=b0;generalize (decide (Ptr.kind y_4=4))=b1;generalize (Z4 (inA a (Spot.segment to) 1) 2)=b2;revert b0 b1 b2;decide),id,id,id,((hh.2.2 c_11).2.2 c_12).2.2.2.1,(by generalize (eqP (Z6 (ZA y_4)) y_4)=b0;generalize (decide (Ptr.kind y_4=4))=b1;generalize (Z4 (inA a (Spot.segment to) 1) 2)=b2;revert b0 b1 b2;decide),id,((hh.2.2 c_11).2.2 c_12).2.2.2.2.1,id,id,id,id,((hh.2.2 c_11).2.2 c_12).2.2.2.2.2.1,(by generalize (eqP (Z6 (ZA y_4)) y_4)=b0;generalize (decide (Ptr.kind y_4=4))=b1;generalize (Z4 (inA a (Spot.segment to) 1) 2)=b2;revert b0 b1 b2;decide),((hh.2.2 c_11).2.2 c_12).2.2.2.2.2.2⟩⟩⟩⟩⟩⟩⟩)
abbrev Zqm(a:Arena)(fr to:Spot)(p:Ptr):Prop:=AW (Z0 Zjl) Try.f43 Zpc [] (Yu (Zbr.can ((a,()),fr,to,p,())) (Zbr.canX ((a,()),fr,to,p,())) (Zbr.canL ((a,()),fr,to,p,()))) (YQ cfg Try.f43.ntmps Try.f43.results.toList (ZeG ((a,()),fr,to,p,())) (Zdc ((a,()),fr,to,p,())) (ZaT ((a,()),fr,to,p,())))
theorem Zom(c76:CT 76 Z7M)(c77:CT 77 Z7L)(c78:CT 78 Z7K)(c22:CT 22 Z03)(c75:CT 75 Z1i)(c46:CT 46 Z4h)(c44:CT 44 Ji)(hb:∀ (a:Arena) (fr:Spot) (to:Spot) (p:Ptr) (_:Unit),Z54 ((a,()),fr,to,p,())->Zqm a fr to p):CT 43 Z4i:=
 Contract.passing <| ZM (l:=[(76,Z7M),(77,Z7L),(78,Z7K),(22,Z03),(75,Z1i),(46,Z4h),(44,Ji)]) Zf rfl (⟨c76,c77,c78,c22,c75,c46,c44,trivial⟩) Zpc Try.func43 rfl rfl 4 (fun _=> rfl) (by decide) (fun ⟨⟨a,_⟩,fr,to,p,_⟩=> hb a fr to p ())
end
end
theorem J9:∀ (l:List Int) {a:Arena} (s i:Int),OkAr a->okW l->OkAr (ZG l a s i)
 | [],_,_,_,h,_=> h
 | w ::r,a,s,i,h,hw=> J9 r s (i+1) (h.put s i (hw w (Q9 ..))) fun x hx=> hw x (Q7 _ hx)
theorem Z2f:∀ (l:List Int) (a:Arena) (s i:Int),Gr a (ZG l a s i)
 | [],a,_,_=> .refl a
 | w ::r,a,s,i=> (Yw a s i w).trans (Z2f r _ s (i+1))
theorem Zgk{a to k up:Int}(hk:0<=k/\k < 4)(hu:0<=up/\up < 4294967296):0<=Z7d a to k up/\Z7d a to k up < 18446744073709551616:=by
 have h0:=XN (to - a - 1) (show (1073741824:Int)≠0 by decide)
 have h1:=Xk (to - a - 1) (show (0:Int) < 1073741824 by decide)
 unfold Z7d
 omega
theorem Z8k{a to k up:Int}(hk:0<=k/\k < 4)(hu:0<=up/\up < 4294967296):0<=pwA a to k up/\pwA a to k up < 18446744073709551616:=by
 unfold pwA
 split
 .decide
 .exact Zgk hk hu
theorem JH{d:Bool}{s i:Int}(hs:0<=s/\s < 4294967296)(hi:0<=i/\i < 536870912):0<=Yo d s i/\Yo d s i < 18446744073709551616:=by
 unfold Yo
 split <;> omega
theorem OkAr.endA{a:Arena}(h:OkAr a)(s:Int):0<=endA a s/\endA a s<=131072:=by
 have:=h.len s
 have:=h.used
 unfold Ytcljdbpmjdgooaa.endA
 omega
theorem OkAr.giveT{a:Arena}(h:OkAr a)(n:Int):0<=giveT a n/\giveT a n<=131072:=(h.opens n).endA _
theorem OkAr.giveS{a:Arena}(h:OkAr a)(n:Int):0<=giveS a n/\giveS a n < 16:=by
 have:=Z1d a n
 have:=(h.opens n).few
 omega
theorem ZsJ{a:Arena}{s n:Int}(h:Z0W a s n=true):0<=s/\s < a.segs.length:=by
 unfold Z0W at h
 rw [Q3,decide_eq_true_eq] at h
 exact ⟨h.1.1,h.1.2.1⟩
theorem Zdy{a:Arena}(h:OkAr a)(s i:Int){s' i' k up:Int}(hs:0<=s'/\s' < a.segs.length)(hi:0<=i'/\i'<=131072)(hk:0<=k/\k < 4)(hu:0<=up/\up < 4294967296):OkAr (ZN a s i s' i' k up).1/\Gr a (ZN a s i s' i' k up).1:=by
 have hf:=h.few
 unfold ZN
 split
 .exact ⟨h.put _ _ (Z8k hk hu),Yw _ _ _ _⟩
 .split
  .have he:=h.endA s'
   exact ⟨((h.inn s' 1).put _ _ (JH ⟨by omega,by omega⟩ ⟨by omega,by omega⟩)).put _ _ (Z8k hk hu),((Zft a s' 1).trans (Yw _ _ _ _)).trans (Yw _ _ _ _)⟩
  .split
   .have e1:=h.giveS 2
    have e2:=h.giveT 2
    exact ⟨(((h.give 2).put _ _ (JH ⟨by omega,by omega⟩ ⟨by omega,by omega⟩)).put _ _ (JH ⟨by omega,by omega⟩ ⟨by omega,by omega⟩)).put _ _ ⟨by omega,by omega⟩,(((Jy a 2).trans (Yw _ _ _ _)).trans (Yw _ _ _ _)).trans (Yw _ _ _ _)⟩
   .exact ⟨h,.refl a⟩
theorem Z8W{a:Arena}{n:Int}(h:Z4 a n=true):0<=giveS a n/\giveS a n < ((Zd a n).segs.length:Int):=by
 have hs:=Z1d a n
 unfold Zd
 rw [if_pos h]
 show _/\_ < (((Yz a n).segs.set _ _).length:Int)
 rw [QR]
 exact hs
theorem Y3{a:Arena}(h:OkAr a)(s i n:Int){k up:Int}(hk:0<=k/\k < 4)(hu:Z4 a n=true->0<=up/\up < 4294967296):OkAr (Y5 a s i n k up).1/\Gr a (Y5 a s i n k up).1:=by
 unfold Y5
 split
 .rename_i hg
  have e1:=Z8W hg
  have e2:=h.giveT n
  obtain ⟨h1,h2⟩:=Zdy (h.give n) s i e1 e2 hk (hu hg)
  exact ⟨h1,(Jy a n).trans h2⟩
 .exact ⟨h,.refl a⟩
theorem Z6l{a:Arena}{b:Arena × Bool}{f:Arena->Arena × Bool}(hb:OkAr b.1/\Gr a b.1)(hf:b.2=true->OkAr (f b.1).1/\Gr b.1 (f b.1).1):OkAr (JW b f).1/\Gr a (JW b f).1:=by
 unfold JW
 cases h:b.2 with
 | false=> exact hb
 | true=> exact ⟨(hf h).1,hb.2.trans (hf h).2⟩
theorem Z3S{a:Arena}{s i n k up:Int}(h:(Y5 a s i n k up).2=true):Z4 a n=true/\Gr (Zd a n) (Y5 a s i n k up).1:=by
 unfold Y5 at h ⊢
 split
 .rename_i hg
  refine ⟨hg,?_⟩
  unfold ZN
  split
  .exact Yw _ _ _ _
  .split
   .exact ((Zft _ _ 1).trans (Yw _ _ _ _)).trans (Yw _ _ _ _)
   .split
    .exact (((Jy _ 2).trans (Yw _ _ _ _)).trans (Yw _ _ _ _)).trans (Yw _ _ _ _)
    .exact .refl _
 .rename_i hg
  rw [if_neg hg] at h
  cases h
theorem Z3O{a:Arena}(h:OkAr a){n:Int}(hg:Z4 a n=true):0<=n/\n<=131072:=by
 have hh:0<=n/\n<=a.most - a.used:=of_decide_eq_true hg
 have:=h.used
 omega
end Go.AM.Ytcljdbpmjdgooaa
