import Derived.Test.YtpjenobkibfpcaaCL41a
set_option linter.unusedSimpArgs false
set_option linter.unusedVariables false
namespace Go.AM.Ytpjenobkibfpcaa
open Go.AM Go.Proofs
theorem Zik(a:Int)(x:Edit):Z6 (Z6U a x)=Z6 x+3:=by simp only [Z6U,Z6,Tree.nil,Zk,Za,Zi,ZO,Zc,List.length_nil];omega
theorem ZgY(w:WEdit):Z6 (Z0P w)=4:=by simp only [Z0P,Z6,Tree.nil,Zk,Za,Zi,Zc,List.length_nil,List.length_cons]
theorem Zcf(l a:Int)(o:Op)(b:Int):Z6 (Z0O l a o b)≤Zn o+12:=by
 have h1:=Z5Q a
 have h2:=Z5Q b
 have h3:=Zcc a
 have h4:=Zcc b
 simp only [Z0O,Z6,Tree.nil,Zk,Za,Zi,JI,Zc,List.length_nil,List.length_append,List.length_cons]
 omega
theorem ZgX(e:Edit):Z6 e=1+Zk e.old+Zk e.new+e.words.length+e.ops.length+Zi e.kids+Zc e.ops:=by cases e;rfl
theorem ZlY(o:Op):Zn o=Za o.l+Z6 o.e:=by cases o;rfl
mutual
theorem Z2M:∀ (e:Edit),(∀ x∈Zp e,Z6 x≤5*Z6 e)∧(Zp e).length≤Z6 e
 | .mk k o n w ks l os=> by
  have h1:=Z7z ks
  have h2:=Z3Z l os
  have m:=ZgX (.mk k o n w ks l os)
  have mo:=Z7P o
  have mn:=Z7P n
  simp only [Edit.old_mk,Edit.new_mk,Edit.words_mk,Edit.kids_mk,Edit.ops_mk] at m
  rw [JT]
  split
  ·exact ⟨fun x hx=> (by cases hx),by simp⟩
  ·split
   ·exact ⟨fun x hx=> by rw [List.mem_singleton] at hx;subst hx;omega,by rw [List.length_singleton];omega⟩
   ·by_cases k2:k=2
    ·rw [show Yp (Edit.mk k o n w ks l os)=w.map Z0P++ZS ks from if_pos k2]
     refine ⟨fun x hx=> ?_,by rw [List.length_append,List.length_map];omega⟩
     rcases List.mem_append.1 hx with hx | hx
     ·obtain ⟨w,_,rfl⟩:=List.mem_map.1 hx
      rw [ZgY];omega
     ·have:=h1.1 x hx;omega
    ·by_cases k3:k=3
     ·rw [show Yp (Edit.mk k o n w ks l os)=ZE l os 0 (Yj os 0) from (if_neg k2).trans (if_pos k3)]
      have h3:=h2 0 (Yj os 0)
      exact ⟨fun x hx=> by have:=h3.1 x hx;omega,by omega⟩
     ·rw [show Yp (Edit.mk k o n w ks l os)=[] from (if_neg k2).trans (if_neg k3)]
      exact ⟨fun x hx=> (by cases hx),by simp⟩
theorem Z7z:∀ (ks:List (KidOf Edit)),(∀ x∈ZS ks,Z6 x≤5*Zi ks+3)∧(ZS ks).length≤Zi ks
 | []=> ⟨fun x hx=> (by rw [ZS] at hx;cases hx),by simp [ZS]⟩
 | k ::r=> by
  have h1:=ZcU k
  have h2:=Z7z r
  simp only [ZS,Zi,List.mem_append,List.length_append]
  refine ⟨fun x hx=> ?_,by omega⟩
  rcases hx with hx | hx
  ·have:=h1.1 x hx;omega
  ·have:=h2.1 x hx;omega
theorem ZcU:∀ (k:KidOf Edit),(∀ x∈Z4M k,Z6 x≤5*ZO k+3)∧(Z4M k).length≤ZO k
 | ⟨a,e⟩=> by
  have h1:=Z2M e
  simp only [Z4M,ZO,List.length_map]
  refine ⟨fun x hx=> ?_,h1.2⟩
  obtain ⟨y,hy,rfl⟩:=List.mem_map.1 hx
  have:=h1.1 y hy
  rw [Zik];omega
theorem Z3Z(l:Int):∀ (os:List (OpOf Edit)) (a b:Int),(∀ x∈ZE l os a b,Z6 x≤5*Zc os+12)∧(ZE l os a b).length≤Zc os
 | [],a,b=> ⟨fun x hx=> (by rw [ZE] at hx;cases hx),by simp [ZE]⟩
 | o ::r,a,b=> by
  have h1:=ZeY l o a b
  have h2:=Z3Z l r (if o.kind=1 then a else a+Z0 o) (if o.kind=2 then b else b - Z0 o)
  simp only [ZE,Zc,List.mem_append,List.length_append]
  refine ⟨fun x hx=> ?_,by omega⟩
  rcases hx with hx | hx
  ·have:=h1.1 x hx;omega
  ·have:=h2.1 x hx;omega
theorem ZeY(l:Int):∀ (o:OpOf Edit) (a b:Int),(∀ x∈Z7y l o a b,Z6 x≤5*Zn o+12)∧(Z7y l o a b).length≤Zn o
 | ⟨k,n,t,e⟩,a,b=> by
  have h1:=Z2M e
  have m:=Z0p e
  have hl:∀ b:Int,Z6 (Z0O l a ⟨k,n,t,e⟩ b)≤Zn ⟨k,n,t,e⟩+12:=fun b=> Zcf _ _ _ _
  simp only [Z7y]
  split
  ·exact ⟨fun x hx=> (by cases hx),by simp⟩
  ·split
   ·exact ⟨fun x hx=> by rw [List.mem_singleton] at hx;subst hx;have:=hl (b - t.length);omega,by simp only [List.length_singleton,Zn];omega⟩
   ·split
    ·exact ⟨fun x hx=> by rw [List.mem_singleton] at hx;subst hx;have:=hl (b - 0);omega,by simp only [List.length_singleton,Zn];omega⟩
    ·refine ⟨fun x hx=> ?_,by simp only [List.length_map,Zn];omega⟩
     obtain ⟨y,hy,rfl⟩:=List.mem_map.1 hx
     have h3:=h1.1 y hy
     have h4:=Zcf l a ⟨3,0,[],y⟩ (b - 1)
     simp only [Zn,Za] at h4 ⊢
     omega
end
theorem Z0v:rng Tree.nil:=by simp [Tree.nil,rng,Y7,isI]
theorem Zdu{l a b:Int}{o:Op}(hl:isI l)(ha:isI a)(hb:isI b)(ho:Yb o):Ym (Z0O l a o b):=by
 refine ⟨by unfold isI;omega,Z0v,Z0v,by simp,hl,trivial,Z8N ?_⟩
 intro x hx
 simp only [List.mem_append,List.mem_singleton] at hx
 rcases hx with (hx | rfl) | hx
 ·exact Zdp ha x hx
 ·exact ho
 ·exact Zdp hb x hx
theorem Zly{a:Int}{x:Edit}(ha:isI a)(hx:Ym x):Ym (Z6U a x):=⟨by unfold isI;omega,Z0v,Z0v,by simp,by unfold isI;omega,⟨⟨ha,hx⟩,trivial⟩,trivial⟩
theorem ZhV{w:WEdit}(h:Z2w w):Ym (Z0P w):=⟨by unfold isI;omega,Z0v,Z0v,by simpa using h,by unfold isI;omega,trivial,trivial⟩
theorem ZeH{w:WEdit}{d last:Int}(hd:d≠0){ws:List WEdit}(hl: -1≤last)(h:ZI last ws=true)(hw:w∈ws):Z4 (Z0P w) d=true:=by
 have h1:=Jw h w hw
 rw [Z0P,Z4,if_neg (by omega),if_neg (by simp [J7,Tree.nil]),if_neg (by decide)]
 simp [ZI,h1.2.2.2.1,h1.2.2.2.2,Zu,Zq,Yj,Jk,h1.2.2.1]
 omega
theorem Zgk{a:Int}{x:Edit}{d:Int}(hd:d≠0)(h0: -1 < a)(h1:a≤65534)(hk:x.kind≠0)(hx:Z4 x (d - 1)=true):Z4 (Z6U a x) d=true:=by
 rw [Z6U,Z4,if_neg (by omega),if_neg (by simp [J7,Tree.nil]),if_neg (by decide)]
 simp [ZI,Zu,Yx,Zq,Yj,Jk,hx,hk]
 omega
theorem Z9J{l a b:Int}{o:Op}{d:Int}(hd:d≠0)(hl:2≤l∧l≤9)(ha:0≤a)(hb:0≤b)(ho:Z7 l o (d - 1)=true)(hs:a+Z0 o+b < 1048576):Z4 (Z0O l a o b) d=true:=by
 have h0:=ZN (Yt ho)
 rw [Z0O,Z4,if_neg (by omega),if_neg (by simp [J7,Tree.nil]),if_neg (by decide)]
 simp only [ZI,Zu,Bool.true_and,Z9F,Z7q l (d - 1) ha (by omega),Z7q l (d - 1) hb (by omega),Zq,ho,Bool.and_true,Zh5,Zh4,Ze0 ha (show (0:Int)≤1048576 by omega),ZdZ ha (show (0:Int)≤1048576 by omega),Yj,Jk,Bool.and_eq_true,decide_eq_true_eq]
 refine ⟨by omega,?_,?_⟩
 ·rw [Ze0 hb (by omega)]
  split <;> omega
 ·rw [ZdZ hb (by omega)]
  split <;> omega
theorem Z50:∀ {ks:List Kid},Jg ks=true→∀ k∈ks,Yq k.e=true
 | [],_,k,hk=> by cases hk
 | a ::r,h,k,hk=> by
  rw [Jg,Bool.and_eq_true] at h
  rcases List.mem_cons.1 hk with rfl | hk
  ·obtain ⟨_,e⟩:=k;exact h.1
  ·exact Z50 h.2 k hk
theorem Z4Z:∀ {os:List Op},ZP os=true→∀ o∈os,Yq o.e=true
 | [],_,k,hk=> by cases hk
 | a ::r,h,k,hk=> by
  rw [ZP,Bool.and_eq_true] at h
  rcases List.mem_cons.1 hk with rfl | hk
  ·obtain ⟨_,_,_,e⟩:=k;exact h.1
  ·exact Z4Z h.2 k hk
structure PartOk (e x:Edit) (d:Int):Prop where
 kind:x.kind=e.kind
 one:e.kind=1→x=e
 right:Z4 x d=true
theorem Z6I:∀ {ks:List Kid} {x:Edit},x∈ZS ks→∃ k∈ks,∃ y∈Zp k.e,x=Z6U k.at_ y
 | [],x,h=> by rw [ZS] at h;cases h
 | k ::r,x,h=> by
  rw [ZS,Z2L,List.mem_append,List.mem_map] at h
  rcases h with ⟨y,hy,rfl⟩ | h
  ·exact ⟨k,List.mem_cons_self,y,hy,rfl⟩
  ·obtain ⟨k',h1,h2⟩:=Z6I h
   exact ⟨k',List.mem_cons_of_mem _ h1,h2⟩
theorem Z6H{l D:Int}:∀ {os:List Op} {a b:Int} {x:Edit},(∀ o∈os,Z7 l o D=true)→0≤a→Y3 os=b→x∈ZE l os a b→
  ∃ o∈os,∃ a' b':Int,0≤a'∧0≤b'∧a'+Z0 o+b'≤a+Y3 os+YO os∧((o.kind=1∨o.kind=2)∧x=Z0O l a' o b'∨o.kind=3∧∃ y∈Zp o.e,x=Z0O l a' ⟨3,0,[],y⟩ b')
 | [],a,b,x,_,_,_,h=> by rw [ZE] at h;cases h
 | o ::r,a,b,x,ho,ha,hb,h=> by
  have h1:=ho o List.mem_cons_self
  have hr:∀ o∈r,Z7 l o D=true:=fun x hx=> ho x (List.mem_cons_of_mem _ hx)
  have hsA:=(Yr r 0 (fun x hx=> ZN (Yt (hr x hx))) (by omega) (by omega)).2
  have hsB:=(YW r 0 (fun x hx=> ZN (Yt (hr x hx))) (by omega) (by omega)).2
  have hl:=ZN (Yt h1)
  rw [ZE,List.mem_append,Z2j] at h
  rw [Y3] at hb ⊢
  rw [YO]
  rcases h with h | h
  ·by_cases k0:o.kind=0
   ·rw [if_pos k0] at h;cases h
   ·rw [if_neg k0] at h
    by_cases k1:o.kind=1
    ·have ol:=Yz (Yh h1) (.inl k1)
     rw [if_pos k1,List.mem_singleton] at h
     rw [if_neg (by omega)] at hb ⊢
     rw [if_pos k1]
     exact ⟨o,List.mem_cons_self,a,b - o.l.length,ha,by omega,by omega,.inl ⟨.inl k1,h⟩⟩
    ·rw [if_neg k1] at h ⊢
     by_cases k2:o.kind=2
     ·rw [if_pos k2,List.mem_singleton] at h
      rw [if_pos k2] at hb ⊢
      exact ⟨o,List.mem_cons_self,a,b - 0,ha,by omega,by omega,.inl ⟨.inr k2,h⟩⟩
     ·rw [if_neg k2] at h hb ⊢
      have k3:o.kind=3:=by
       have:=Zx h1
       cases this <;> first | rfl | (exfalso;first | exact k0 rfl | exact k1 rfl | exact k2 rfl)
      have ol:Z0 o=1:=by unfold Z0;rw [if_pos k3]
      obtain ⟨y,hy,rfl⟩:=List.mem_map.1 h
      exact ⟨o,List.mem_cons_self,a,b - 1,ha,by omega,by omega,.inr ⟨k3,y,hy,rfl⟩⟩
  ·obtain ⟨o',m,a',b',i1,i2,i3,i4⟩:=Z6H hr (by split <;> omega) (by split <;> rename_i hx <;> simp only [hx,if_true,if_false] at hb <;> omega) h
   refine ⟨o',List.mem_cons_of_mem _ m,a',b',i1,i2,?_,i4⟩
   split at i3 <;> rename_i hx
   ·rw [if_neg (by omega),if_pos hx];omega
   ·rw [if_neg hx]
    have:0≤(if o.kind=2 then (0:Int) else Z0 o):=by split <;> omega
    omega
theorem Z2K:∀ (n:Nat) (e:Edit) (d:Int),Z6 e≤n→Z4 e d=true→Yq e=true→∀ x∈Zp e,PartOk e x d
 | 0,e,d,hn,_,_=> by
  have:3≤Z6 e:=Z0p e
  omega
 | n+1,e,d,hn,hr,hl=> by
  have ra:=Zw hr
  rw [Z5P] at hl
  simp only [Bool.and_eq_true,decide_eq_true_eq] at hl
  intro x hx
  rw [JT] at hx
  split at hx
  ·cases hx
  ·rename_i k0
   split at hx
   ·rw [List.mem_singleton] at hx
    subst hx
    exact ⟨rfl,fun _=> rfl,hr⟩
   ·unfold Yp at hx
    split at hx
    ·rename_i k2
     refine ⟨?_,fun h=> by omega,?_⟩
     ·rcases List.mem_append.1 hx with hx | hx
      ·obtain ⟨w,_,rfl⟩:=List.mem_map.1 hx
       exact k2.symm
      ·rw [Z40 x hx,k2]
     ·rcases List.mem_append.1 hx with hx | hx
      ·obtain ⟨w,hw,rfl⟩:=List.mem_map.1 hx
       exact ZeH ra.d0 (Int.le_refl _) ra.words hw
      ·obtain ⟨k,hk,y,hy,rfl⟩:=Z6I hx
       have hm:=J9 hk
       obtain ⟨q1,q2⟩:=ZK ra.kids k hk
       have ih:=Z2K n k.e (d - 1) (by omega) q2 (Z50 hl.1.2 k hk) y hy
       exact Zgk ra.d0 q1.1 q1.2.1 (by rw [ih.kind];exact q1.2.2) ih.right
    ·rename_i k2
     split at hx
     ·rename_i k3
      have hops:=YF.1 ra.ops
      have hsA:=Yr e.ops 0 (fun x hx=> ZN (Yt (hops x hx))) (by omega) (by omega)
      have hsB:=YW e.ops 0 (fun x hx=> ZN (Yt (hops x hx))) (by omega) (by omega)
      have hlen:=ra.len
      rw [show Yj e.ops 0=Y3 e.ops by omega] at hx
      obtain ⟨o,m,a',b',i1,i2,i3,i4⟩:=Z6H hops (by omega) rfl hx
      have hsum:a'+Z0 o+b' < 1048576:=by omega
      rcases i4 with ⟨_,rfl⟩ | ⟨j3,y,hy,rfl⟩
      ·exact ⟨k3.symm,fun h=> by omega,Z9J ra.d0 (ra.list k3) i1 i2 (hops o m) hsum⟩
      ·have hm:=JK m
       have ho:=hops o m
       have hro:=Zx ho
       refine ⟨k3.symm,fun h=> by omega,Z9J ra.d0 (ra.list k3) i1 i2 ?_ ?_⟩
       ·generalize hl9:e.list=ll at hro
        cases hro with
        | keep | gone | come=> exact absurd j3 (by simp)
        | into x q1 q2 q3 q4=>
         have ih:=Z2K n x (d - 1) (by have hm:Z6 x < Z6 e:=hm;omega) q1 (Z4Z hl.2 _ m) y hy
         rw [Je]
         simp only [ih.right,ih.kind,if_neg (show ¬(3:Int)=0 by decide),if_neg (show ¬(3:Int) < 3 by decide)]
         rw [if_neg (by omega),Bool.and_true,Bool.and_eq_true,decide_eq_true_eq,decide_eq_true_eq]
         refine ⟨⟨rfl,q2,q3⟩,?_⟩
         rcases q4 with q4 | q4 | q4
         ·exact .inl q4
         ·exact .inr (.inl q4)
         ·rw [ih.one q4.1];exact .inr (.inr q4)
       ·rw [show Z0 ⟨3,0,[],y⟩=1 from rfl]
        rw [show Z0 o=1 by unfold Z0;rw [if_pos j3]] at hsum
        omega
     ·cases hx
theorem Z90:∀ (n:Nat) (e:Edit) (d:Int),Z6 e≤n→Z4 e d=true→Ym e→∀ x∈Zp e,Ym x
 | 0,e,d,hn,_,_=> by
  have:3≤Z6 e:=Z0p e
  omega
 | n+1,e,d,hn,hr,hg=> by
  have ra:=Zw hr
  have ga:=Z5x hg
  intro x hx
  rw [JT] at hx
  split at hx
  ·cases hx
  ·split at hx
   ·rw [List.mem_singleton] at hx
    subst hx
    exact hg
   ·unfold Yp at hx
    split at hx
    ·rcases List.mem_append.1 hx with hx | hx
     ·obtain ⟨w,hw,rfl⟩:=List.mem_map.1 hx
      exact ZhV ((YK hg).2.2.1 w hw)
     ·obtain ⟨k,hk,y,hy,rfl⟩:=Z6I hx
      have hm:=J9 hk
      obtain ⟨q1,q2⟩:=ZK ra.kids k hk
      have gk:=Jm (YK hg).2.2.2.1 hk
      exact Zly (by unfold isI;omega) (Z90 n k.e (d - 1) (by omega) q2 gk.2 y hy)
    ·split at hx
     ·rename_i k3
      have hops:=YF.1 ra.ops
      have hsA:=Yr e.ops 0 (fun x hx=> ZN (Yt (hops x hx))) (by omega) (by omega)
      have hsB:=YW e.ops 0 (fun x hx=> ZN (Yt (hops x hx))) (by omega) (by omega)
      have hlen:=ra.len
      rw [show Yj e.ops 0=Y3 e.ops by omega] at hx
      obtain ⟨o,m,a',b',i1,i2,i3,i4⟩:=Z6H hops (by omega) rfl hx
      have go:=Z0Y (YK hg).2.2.2.2 m
      have hol:=ZN (Yt (hops o m))
      have gl:isI e.list:=by have:=ra.list k3;unfold isI;omega
      rcases i4 with ⟨_,rfl⟩ | ⟨j3,y,hy,rfl⟩
      ·exact Zdu gl (by unfold isI;omega) (by unfold isI;omega) go
      ·have hm:=JK m
       have h5:=Z90 n o.e (d - 1) (by omega) (J0 (hops o m) j3) (by obtain ⟨_,_,_,_⟩:=o;exact go.2.2.2) y hy
       exact Zdu gl (by unfold isI;omega) (by unfold isI;omega) ⟨by unfold isI;omega,by unfold isI;omega,trivial,h5⟩
     ·cases hx
theorem Zjo:∀ (l:List Edit) (t:Tree),(∀ x∈l,∃ d,Z4 x d=true)→ZhM l (Z3 t)=(YP l t).map Z3
 | [],t,_=> rfl
 | e ::r,t,h=> by
  obtain ⟨d,hd⟩:=h e List.mem_cons_self
  rw [ZhM,YP,(Zfr e d (Z3 t) t hd (Zpm t)).normed]
  cases doE false e t with
  | none=> rfl
  | some u=>
   simp only [Option.map_some,Option.bind_some]
   exact Zjo r u fun x hx=> h x (List.mem_cons_of_mem _ hx)
theorem Z43:∀ (n:Nat) (e:Edit) (d:Int),Z6 e≤n→Z4 e d=true→Yq e=true→Yq (ZA e)=true
 | 0,e,d,hn,_,_=> by
  have:3≤Z6 e:=Z0p e
  omega
 | n+1,e,d,hn,hr,hl=> by
  have ra:=Zw hr
  have hops:=YF.1 ra.ops
  rw [Z5P] at hl
  simp only [Bool.and_eq_true,decide_eq_true_eq] at hl
  have hz:∀ (k:Int) (o m:Tree) (w:List WEdit) (l:Int),Yq (.mk k o m w [] l [])=true:=by
   intro k o m w l
   rw [Yq]
   simp [Yj,Jk,Jg,ZP]
  rw [Z41]
  split
  ·exact hz _ _ _ _ _
  ·split
   ·rw [Yq]
    simp only [Yj,Jk,ZP,Bool.and_true,Bool.and_eq_true,decide_eq_true_eq]
    refine ⟨by simp,?_⟩
    have:∀ ks:List Kid,(∀ k∈ks,k∈e.kids)→Jg (Jj ks)=true:=by
     intro ks
     induction ks with
     | nil=> intro _;rfl
     | cons k r ih=>
      intro h
      rw [Jj,Jg,ih fun x hx=> h x (List.mem_cons_of_mem _ hx),Bool.and_true]
      have hk:=h k List.mem_cons_self
      have hm:=J9 hk
      obtain ⟨a,x⟩:=k
      exact Z43 n x (d - 1) (by have hm:Z6 x < Z6 e:=hm;omega) (ZK ra.kids _ hk).2 (Z50 hl.1.2 _ hk)
    exact this e.kids fun _ h=> h
   ·split
    ·rename_i k3
     have hsA:=Yr e.ops 0 (fun x hx=> ZN (Yt (hops x hx))) (by omega) (by omega)
     have hsB:=YW e.ops 0 (fun x hx=> ZN (Yt (hops x hx))) (by omega) (by omega)
     have hlen:=ra.len
     have hsn:=Zeq e.list e.ops (d - 1) ⟨[],[],[]⟩ ra.ops
     have hfl:=Z5j (ZY e.list e.ops ⟨[],[],[]⟩)
     have hrn:=J1 e d hr
     rw [Z41,if_neg (by omega),if_neg (by omega),if_pos k3] at hrn
     have rn:=Zw hrn
     have nops:=YF.1 rn.ops
     simp only [Edit.ops_mk,Edit.list_mk] at nops
     have nsA:=Yr (Z1 (ZY e.list e.ops ⟨[],[],[]⟩)).out 0 (fun x hx=> ZN (Yt (nops x hx))) (by omega) (by omega)
     have nsB:=YW (Z1 (ZY e.list e.ops ⟨[],[],[]⟩)).out 0 (fun x hx=> ZN (Yt (nops x hx))) (by omega) (by omega)
     have hs0:sA ⟨[],[],[]⟩=0∧sB ⟨[],[],[]⟩=0:=⟨rfl,rfl⟩
     rw [Yq]
     simp only [Jg,Bool.and_true,Bool.and_eq_true,decide_eq_true_eq]
     refine ⟨by omega,?_⟩
     have hw:∀ (os:List Op),(∀ o∈os,o∈e.ops)→∀ w:Wst,ZP w.out=true→ZP (ZY e.list os w).out=true:=by
      intro os
      induction os with
      | nil=> intro _ w hw;exact hw
      | cons o r ih=>
       intro h w hw
       rw [ZY]
       refine ih (fun x hx=> h x (List.mem_cons_of_mem _ hx)) _ ?_
       have hm:=h o List.mem_cons_self
       rw [Z1j]
       split
       ·exact light_keep _ _ hw
       ·split
        ·exact hw
        ·split
         ·exact hw
         ·split
          ·rename_i k3'
           split
           ·exact light_keep _ _ hw
           ·dsimp only
            rw [light_app,light_flush _ hw,Bool.true_and,ZP,ZP,Bool.and_true]
            have:=JK hm
            exact Z43 n o.e (d - 1) (by omega) (J0 (hops o hm) k3') (Z4Z hl.2 _ hm)
          ·exact hw
     exact light_flush _ (hw e.ops (fun _ h=> h) _ rfl)
    ·exact hz _ _ _ _ _
where
 light_app:∀ (a b:List Op),ZP (a++b)=(ZP a && ZP b)
  | [],b=> rfl
  | o ::r,b=> by rw [List.cons_append,ZP,ZP,light_app r b,Bool.and_assoc]
 light_nil:Yq Edit.nil=true:=by decide
 light_flush (w:Wst) (h:ZP w.out=true):ZP (Z1 w).out=true:=by
  unfold Z1 JN
  dsimp only
  rw [light_app,light_app,h,Bool.true_and]
  split <;> split <;> simp [ZP,Z7V,light_nil]
 light_keep (w:Wst) (n:Int) (h:ZP w.out=true):ZP (ZL w n).out=true:=by
  unfold ZL
  dsimp only
  have h:=light_flush w h
  rcases YX (Z1 w).out n with e | ⟨a,o,e1,e2,e3⟩
  ·rw [e,light_app,h];simp [ZP,Z7V,light_nil]
  ·rw [e3,light_app]
   rw [e1,light_app,Bool.and_eq_true] at h
   rw [h.1]
   obtain ⟨_,_,_,x⟩:=o
   simpa [ZP,Z7V] using h.2
theorem ZlI{e:Edit}{t:Tree}(h64:Z4 e 64=true)(hl:Yq e=true)(ht:RT_ t):ZhM (Zp (ZA e)) (Z3 t)=(doE false e t).map Z3:=by
 have hr:=J1 e 64 h64
 have hl':=Z43 _ e 64 (Nat.le_refl _) h64 hl
 rw [Zjo _ _ fun x hx=> ⟨64,(Z2K _ _ 64 (Nat.le_refl _) hr hl' x hx).right⟩]
 rw [(ZbQ _ _ 64 t (Nat.le_refl _) hr).normed,(Zid e 64 t h64 ht).normed]
end Go.AM.Ytpjenobkibfpcaa
namespace Go.AM.Ytpjenobkibfpcaa
open Go.AM Go.Proofs
noncomputable section
def ZkM:ArgL (Int × Unit):=(.cons (Z04 .i64) .nil)
def ZeU(a:Int × Unit):Prop:=True
def ZeM(a:Int × Unit):V U:= .c (sU .op (YY a.1) (.own (.r 0 0)))
def Z79:Fs U:=fs ZkM (fun a=> [ZeU a]) ZeM
def ZfJ:ArgM (Op × Int × (Int × Unit) × (List Edit × Unit) × (Int × Int × List Int × List Tree × Int × List Int × List Tree × List WEdit × List Kid × Int × List Op × Unit) × (Int × Unit) × Unit):=(.cons (aEl .op) (.cons (Z04 .i64) (.obj 0 (.cons (ZcH .i64) .nil) (.obj 1 (.cons (Zfw .edit 1 0) .nil) (.obj 2 (.cons (ZcH .i64) (.cons (ZcH .i64) (.cons (cSl .u64) (.cons (cSl .tree) (.cons (ZcH .i64) (.cons (cSl .u64) (.cons (cSl .tree) (.cons (cSl .wedit) (.cons (cSl .kid) (.cons (ZcH .i64) (.cons (cSl .op) .nil))))))))))) (.obj 3 (.cons (ZcH .i64) .nil) .nil))))))
def Z8T(a:Op × Int × (Int × Unit) × (List Edit × Unit) × (Int × Int × List Int × List Tree × Int × List Int × List Tree × List WEdit × List Kid × Int × List Op × Unit) × (Int × Unit) × Unit):Prop:=(-10000000≤a.2.2.2.2.2.1.1∧a.2.2.2.2.2.1.1≤10000000)∧(-10000000≤a.2.1∧a.2.1≤10000000)∧(a.2.2.2.1.1).length≤100000000
def ZhY(a:Op × Int × (Int × Unit) × (List Edit × Unit) × (Int × Int × List Int × List Tree × Int × List Int × List Tree × List WEdit × List Kid × Int × List Op × Unit) × (Int × Unit) × Unit):V U:= .tup []
def ZeI(a:Op × Int × (Int × Unit) × (List Edit × Unit) × (Int × Int × List Int × List Tree × Int × List Int × List Tree × List WEdit × List Kid × Int × List Op × Unit) × (Int × Unit) × Unit):List (List (C U)):=[[ci a.2.2.1.1],[sU .edit (a.2.2.2.1.1++[Z0O a.2.2.2.2.1.2.2.2.2.2.2.2.2.2.1 a.2.2.1.1 a.1 (a.2.2.2.2.2.1.1 - a.2.1)]) (.own (.x 1 0))],[ci a.2.2.2.2.1.1,ci a.2.2.2.2.1.2.1,sU .u64 a.2.2.2.2.1.2.2.1 .unk,sU .tree a.2.2.2.2.1.2.2.2.1 .unk,ci a.2.2.2.2.1.2.2.2.2.1,sU .u64 a.2.2.2.2.1.2.2.2.2.2.1 .unk,sU .tree a.2.2.2.2.1.2.2.2.2.2.2.1 .unk,sU .wedit a.2.2.2.2.1.2.2.2.2.2.2.2.1 .unk,sU .kid a.2.2.2.2.1.2.2.2.2.2.2.2.2.1 .unk,ci a.2.2.2.2.1.2.2.2.2.2.2.2.2.2.1,sU .op a.2.2.2.2.1.2.2.2.2.2.2.2.2.2.2.1 .unk],[ci a.2.2.2.2.2.1.1]]
def Z5l:Fs U:=fsX ZfJ (fun a=> [Z8T a]) ZhY ZeI
def ZfB:ArgL (Edit × Unit):=(.cons (aEl .edit) .nil)
def Z9M(a:Edit × Unit):Prop:=Z6 a.1≤1000000∧∃ d,Z4 a.1 d=true
def Zf5(a:Edit × Unit):Nat:=2*Z6 a.1+1
def Z6b(a:Edit × Unit):V U:= .c (sU .edit (Zp a.1) .unk)
def Zb2:Fs U:=fs ZfB (fun a=> [Z9M a]) Z6b
def ZaN:ArgL (Edit × Unit):=(.cons (aEl .edit) .nil)
def Z8Y(a:Edit × Unit):Prop:=Edit.kind a.1=3∧Z6 a.1≤1000000∧∃ d,Z4 a.1 d=true
def Zc5(a:Edit × Unit):Nat:=2*Z6 a.1
def ZbC(a:Edit × Unit):V U:= .c (sU .edit (ZE a.1.list a.1.ops 0 (Yj a.1.ops 0)) .unk)
def Zjg:Fs U:=fs ZaN (fun a=> [Z8Y a]) ZbC
def Zkp:List (FuncId × Fs U):=[]
def ZoF:Zg U:=lvl [([0],[]),([0,4],[]),([2],[]),([2],[])]
abbrev ZyC(p:List Nat):=AW (Z2 Zkp) Try.f166 ZoF p
theorem ZwA(n:Int)(Q:QT)(h:(((n==0)=true→(Q .ret (L2 [(2,.c (.nils))] [])))∧((n==0)=false→(Q .ret (L2 [(2,.c (sU .op ([(OpOf.mk 0 n [] (Edit.mk 0 (Tree.mk 0 [] []) (Tree.mk 0 [] []) [] [] 0 []))]) .full))] []))))):
  ZyC [] (L2 [(0,.c (ci n))] []) Q:=
 Eq.mpr (by kernel_rfl) h
def Zsr(n:Int):Prop:=AW (Z2 Zkp) Try.f166 ZoF [] (Zo (ZkM.can (n,())) []) (EQ Try.f166 (ZeM (n,())) [])
theorem Zrj(hb:∀ (n:Int) (_:Unit),ZeU (n,())→Zsr n):CT 166 Z79:=
 Z8 (l:=[]) Zr rfl trivial ZoF Try.func166 rfl rfl 1 (fun _=> rfl) (by decide) (fun ⟨n,_⟩=> hb n ())
def Zkq:List (FuncId × Fs U):=[(166,Z79)]
def ZoG:Zg U:=fun i=> match i with
 | 0=> ([(1,[]),(2,[]),(3,[]),(4,[]),(5,[]),(6,[])],[(.loc 6,[]),(.x 0,[]),(.x 1,[]),(.x 2,[]),(.x 3,[])])
 | 1=> ([(1,[]),(3,[]),(4,[]),(5,[]),(8,[])],[(.x 0,[]),(.x 1,[]),(.x 2,[]),(.x 3,[])])
 | 2=> ([],[(.x 0,[]),(.x 1,[]),(.x 2,[]),(.x 3,[])])
 | _=> ([],[])
abbrev ZyD(p:List Nat):=AW (Z2 Zkq) Try.f165 ZoG p
theorem ZwB(o:Op)(g ah:Int)(out:List Edit)(ek eo:Int)(eow:List Int)(eok:List Tree)(en:Int)(enw:List Int)(enk:List Tree)(ew:List WEdit)(ec:List Kid)(li:Int)(eos:List Op)(bh:Int)(Q:QT)(h:∀ y_1,y_1=o→let z0:=Edit.mk 3 (Tree.mk 0 [] []) (Tree.mk 0 [] []) [] [] li (((YY ah)++([y_1]))++(YY (bh - g)));((ZeU (ah,()))∧(((YY ah).length+([y_1]).length)*240≤140737488355328)∧((InR (bh - g))∧(ZeU ((bh - g),()))∧((((YY ah)++([y_1])).length+(YY (bh - g)).length)*240≤140737488355328)∧((out.length+([z0]).length)*200≤140737488355328)∧(Q .normal (L2 [] [(.x 0,[ci ah]),(.x 1,[sU .edit (out++([z0])) (.own (.x 1 0))]),(.x 2,[ci ek,ci eo,sU .u64 eow .unk,sU .tree eok .unk,ci en,sU .u64 enw .unk,sU .tree enk .unk,sU .wedit ew .unk,sU .kid ec .unk,ci li,sU .op eos .unk]),(.x 3,[ci bh])]))))):
  ZyD [] (L2 [(0,.agg (enc .op o)),(1,.c (ci g)),(2,.ptr (.x 0) 0),(3,.ptr (.x 1) 0),(4,.ptr (.x 2) 0),(5,.ptr (.x 3) 0)] [(.x 0,[ci ah]),(.x 1,[sU .edit out (.own (.x 1 0))]),(.x 2,[ci ek,ci eo,sU .u64 eow .unk,sU .tree eok .unk,ci en,sU .u64 enw .unk,sU .tree enk .unk,sU .wedit ew .unk,sU .kid ec .unk,ci li,sU .op eos .unk]),(.x 3,[ci bh])]) Q:=
 Eq.mpr (by kernel_rfl) (h _ (J4 _))
def Zss(o:Op)(g ah:Int)(out:List Edit)(ek eo:Int)(eow:List Int)(eok:List Tree)(en:Int)(enw:List Int)(enk:List Tree)(ew:List WEdit)(ec:List Kid)(li:Int)(eos:List Op)(bh:Int):Prop:=AW (Z2 Zkq) Try.f165 ZoG [] (Zo (ZfJ.can (o,g,(ah,()),(out,()),(ek,eo,eow,eok,en,enw,enk,ew,ec,li,eos,()),(bh,()),())) (ZfJ.canX (o,g,(ah,()),(out,()),(ek,eo,eow,eok,en,enw,enk,ew,ec,li,eos,()),(bh,()),()))) (EQ Try.f165 (ZhY (o,g,(ah,()),(out,()),(ek,eo,eow,eok,en,enw,enk,ew,ec,li,eos,()),(bh,()),())) (ZeI (o,g,(ah,()),(out,()),(ek,eo,eow,eok,en,enw,enk,ew,ec,li,eos,()),(bh,()),())))
theorem Zrk(Zv9:CT 166 Z79)(hb:∀ (o:Op) (g:Int) (ah:Int) (out:List Edit) (ek:Int) (eo:Int) (eow:List Int) (eok:List Tree) (en:Int) (enw:List Int) (enk:List Tree) (ew:List WEdit) (ec:List Kid) (li:Int) (eos:List Op) (bh:Int) (_:Unit),Z8T (o,g,(ah,()),(out,()),(ek,eo,eow,eok,en,enw,enk,ew,ec,li,eos,()),(bh,()),())→Zss o g ah out ek eo eow eok en enw enk ew ec li eos bh):CT 165 Z5l:=
 JP (l:=[(166,Z79)]) Zr rfl (⟨Zv9,trivial⟩) ZoG Try.func165 rfl rfl 6 (fun _=> rfl) (by decide) (fun ⟨o,g,⟨ah,_⟩,⟨out,_⟩,⟨ek,eo,eow,eok,en,enw,enk,ew,ec,li,eos,_⟩,⟨bh,_⟩,_⟩=> hb o g ah out ek eo eow eok en enw enk ew ec li eos bh ())
def Ziv(N:Nat):List (FuncId × Fs U):=(87,fs ZfB (fun a=> [Z9M a,Zf5 a < N]) Z6b) ::(119,fs ZaN (fun a=> [Z8Y a,Zc5 a < N]) ZbC) ::[(164,Z5m),(165,Z5l)]
def ZrF:Zg U:=fun i=> match i with
 | 0=> ([(1,[])],[(.loc 1,[])])
 | 1=> ([(1,[]),(3,[])],[(.loc 1,[])])
 | 2=> ([(1,[]),(3,[]),(11,[])],[(.loc 1,[])])
 | 3=> ([(1,[]),(3,[]),(11,[]),(12,[])],[(.loc 1,[])])
 | 4=> ([(2,[])],[])
 | 5=> ([(1,[]),(3,[]),(11,[]),(14,[])],[(.loc 1,[])])
 | 6=> ([(1,[]),(3,[.own .edit]),(17,[]),(18,[]),(19,[])],[(.loc 1,[])])
 | 7=> ([(1,[]),(3,[]),(17,[]),(18,[]),(19,[]),(20,[])],[(.loc 1,[])])
 | 8=> ([(1,[]),(3,[]),(5,[]),(17,[]),(18,[]),(19,[])],[(.loc 1,[]),(.loc 5,[])])
 | 9=> ([(1,[]),(3,[]),(17,[]),(18,[]),(19,[])],[(.loc 1,[])])
 | 10=> ([(1,[]),(3,[.own .edit]),(17,[]),(18,[]),(19,[])],[(.loc 1,[])])
 | 11=> ([(1,[]),(3,[]),(31,[]),(32,[]),(33,[])],[(.loc 1,[])])
 | 12=> ([(1,[]),(3,[]),(31,[]),(32,[]),(33,[]),(34,[])],[(.loc 1,[])])
 | 13=> ([(1,[]),(3,[]),(7,[]),(31,[]),(32,[]),(33,[])],[(.loc 1,[]),(.loc 7,[])])
 | 14=> ([(1,[]),(3,[.own .edit]),(7,[]),(31,[]),(32,[]),(33,[]),(39,[]),(40,[]),(41,[])],[(.loc 1,[]),(.loc 7,[])])
 | 15=> ([(1,[]),(3,[]),(7,[]),(31,[]),(32,[]),(33,[]),(39,[]),(40,[]),(41,[]),(42,[])],[(.loc 1,[]),(.loc 7,[])])
 | 16=> ([(1,[]),(3,[]),(7,[]),(9,[]),(31,[]),(32,[]),(33,[]),(39,[]),(40,[]),(41,[])],[(.loc 1,[]),(.loc 7,[]),(.loc 9,[])])
 | 17=> ([(1,[]),(3,[]),(7,[]),(31,[]),(32,[]),(33,[]),(39,[]),(40,[]),(41,[])],[(.loc 1,[]),(.loc 7,[])])
 | 18=> ([(1,[]),(3,[.own .edit]),(7,[]),(31,[]),(32,[]),(33,[]),(39,[]),(40,[]),(41,[])],[(.loc 1,[]),(.loc 7,[])])
 | 19=> ([(1,[]),(3,[]),(31,[]),(32,[]),(33,[])],[(.loc 1,[])])
 | 20=> ([(1,[]),(3,[]),(56,[])],[(.loc 1,[])])
 | 21=> ([(1,[]),(3,[])],[(.loc 1,[])])
 | 22=> ([(1,[]),(3,[]),(62,[])],[(.loc 1,[])])
 | 23=> ([(2,[])],[])
 | 24=> ([(2,[])],[])
 | _=> ([],[])
def Z85(e:Edit)(x19:Int)(x3:List Edit):LSt U:=(L2 [(1,.ptr (.loc 1) 0),(3,.c (sU .edit x3 (.own (.e 3 0)))),(17,.c (sU .wedit e.words .unk)),(18,.c (ci (e.words.length:Int))),(19,.c (ci x19))] [(.loc 1,(enc .edit e))])
def Z84(e:Edit)(x33_a:Int)(x3_a:List Edit):LSt U:=(L2 [(1,.ptr (.loc 1) 0),(3,.c (sU .edit x3_a (.own (.e 3 0)))),(31,.c (sU .kid e.kids .unk)),(32,.c (ci (e.kids.length:Int))),(33,.c (ci x33_a))] [(.loc 1,(enc .edit e))])
def Z83(e:Edit)(x33_a x41_b:Int)(x3_b:List Edit):LSt U:=(L2 [(1,.ptr (.loc 1) 0),(3,.c (sU .edit x3_b (.own (.e 3 0)))),(7,.ptr (.loc 7) 0),(31,.c (sU .kid e.kids .unk)),(32,.c (ci (e.kids.length:Int))),(33,.c (ci x33_a)),(39,.c (sU .edit (Zp (Edit.mk (Edit.kind (KidOf.e (e.kids.getD x33_a.toNat (KidOf.mk 0 Edit.nil)))) (Tree.mk (Tree.kind (Edit.old (KidOf.e (e.kids.getD x33_a.toNat (KidOf.mk 0 Edit.nil))))) (Tree.words (Edit.old (KidOf.e (e.kids.getD x33_a.toNat (KidOf.mk 0 Edit.nil))))) (Tree.kids (Edit.old (KidOf.e (e.kids.getD x33_a.toNat (KidOf.mk 0 Edit.nil)))))) (Tree.mk (Tree.kind (Edit.new (KidOf.e (e.kids.getD x33_a.toNat (KidOf.mk 0 Edit.nil))))) (Tree.words (Edit.new (KidOf.e (e.kids.getD x33_a.toNat (KidOf.mk 0 Edit.nil))))) (Tree.kids (Edit.new (KidOf.e (e.kids.getD x33_a.toNat (KidOf.mk 0 Edit.nil)))))) (Edit.words (KidOf.e (e.kids.getD x33_a.toNat (KidOf.mk 0 Edit.nil)))) (Edit.kids (KidOf.e (e.kids.getD x33_a.toNat (KidOf.mk 0 Edit.nil)))) (Edit.list (KidOf.e (e.kids.getD x33_a.toNat (KidOf.mk 0 Edit.nil)))) (Edit.ops (KidOf.e (e.kids.getD x33_a.toNat (KidOf.mk 0 Edit.nil)))))) .unk)),(40,.c (ci ((Zp (Edit.mk (Edit.kind (KidOf.e (e.kids.getD x33_a.toNat (KidOf.mk 0 Edit.nil)))) (Tree.mk (Tree.kind (Edit.old (KidOf.e (e.kids.getD x33_a.toNat (KidOf.mk 0 Edit.nil))))) (Tree.words (Edit.old (KidOf.e (e.kids.getD x33_a.toNat (KidOf.mk 0 Edit.nil))))) (Tree.kids (Edit.old (KidOf.e (e.kids.getD x33_a.toNat (KidOf.mk 0 Edit.nil)))))) (Tree.mk (Tree.kind (Edit.new (KidOf.e (e.kids.getD x33_a.toNat (KidOf.mk 0 Edit.nil))))) (Tree.words (Edit.new (KidOf.e (e.kids.getD x33_a.toNat (KidOf.mk 0 Edit.nil))))) (Tree.kids (Edit.new (KidOf.e (e.kids.getD x33_a.toNat (KidOf.mk 0 Edit.nil)))))) (Edit.words (KidOf.e (e.kids.getD x33_a.toNat (KidOf.mk 0 Edit.nil)))) (Edit.kids (KidOf.e (e.kids.getD x33_a.toNat (KidOf.mk 0 Edit.nil)))) (Edit.list (KidOf.e (e.kids.getD x33_a.toNat (KidOf.mk 0 Edit.nil)))) (Edit.ops (KidOf.e (e.kids.getD x33_a.toNat (KidOf.mk 0 Edit.nil)))))).length:Int))),(41,.c (ci x41_b))] [(.loc 1,(enc .edit e)),(.loc 7,(enc .kid (e.kids.getD x33_a.toNat (KidOf.mk 0 Edit.nil))))])
abbrev A87(N:Nat)(p:List Nat):=AW (Z2 (Ziv N)) Try.f87 ZrF p
abbrev S87(N:Nat)(p:List Nat):=SW (Z2 (Ziv N)) Try.f87 ZrF p
theorem ZxP(N:Nat)(e:Edit)(Q:QT)(h:∀ y_1,y_1=e→∀ y_2,y_2=(ZE y_1.list y_1.ops 0 (Yj y_1.ops 0))→let z2:=((y_2.length:Int):Int)==0;let z1:=Q .ret (L2 [(2,.c (.nils))] []);let z0:=Q .ret (L2 [(2,.c (sU .edit ([y_1]) .full))] []);(((e.kind==0)=true→z1)∧((e.kind==0)=false→(((e.kind==2)=true→(Zj (A87 N [1,1,0,1,0,1,1,1,0,0,1,0,0]) (Z85 e 0 []) (xB 1 (S87 N [1,1,0,1,0,1,1,1,0,1] (xB 0 (S87 N [1,1,1] Q))))))∧((e.kind==2)=false→(((e.kind==3)=true→(Z8Y (y_1,()))∧(Zc5 (y_1,()) < N)∧((z2=true→z0)∧(z2=false→(Q .ret (L2 [(2,.c (sU .edit y_2 .unk))] [])))))∧((e.kind==3)=false→((((0:Int)==0)=true→z0)∧(((0:Int)==0)=false→z1))))))))):
  A87 N [] (L2 [(0,.agg (enc .edit e))] []) Q:=
 Eq.mpr (by kernel_rfl) (h _ (Z9 _) _ rfl)
theorem Zqq(N:Nat)(e:Edit)(x19:Int)(x3:List Edit)(N0:NT)(Q:QT)(h:let z2:=decide (x19 < (e.words.length:Int));let z1:=e.words.getD x19.toNat (WEdit.mk 0 0 0 0);let z0:=Edit.mk 2 (Tree.mk 0 [] []) (Tree.mk 0 [] []) ([(WEdit.mk (WEdit.at_ z1) (WEdit.mask z1) (WEdit.old z1) (WEdit.new z1))]) [] 0 [];((z2=true→((0:Int)≤x19∧x19 < (e.words.length:Int))∧(((x3.length+([z0]).length)*200≤140737488355328)∧((InR (x19+1))∧(N0 (Z85 e (x19+1) (x3++([z0])))))))∧(z2=false→(Zj (A87 N [1,1,0,1,0,1,1,1,0,1,1,0,0]) (Z84 e 0 x3) (xB 3 (xB 0 (S87 N [1,1,1] Q))))))):
  A87 N [1,1,0,1,0,1,1,1,0,0,1,0,0] (Z85 e x19 x3) (xT N0 (xB 1 (S87 N [1,1,0,1,0,1,1,1,0,1] (xB 0 (S87 N [1,1,1] Q))))):=
 Eq.mpr (by kernel_rfl) h
theorem Zqp(N:Nat)(e:Edit)(x33_a:Int)(x3_a:List Edit)(N1:NT)(Q:QT)(h:∀ y_1,y_1=e→∀ y_2,y_2=(KidOf.e (e.kids.getD x33_a.toNat (KidOf.mk 0 Edit.nil)))→let z1:=((x3_a.length:Int):Int)==0;let z0:=decide (x33_a < (e.kids.length:Int));((z0=true→((0:Int)≤x33_a∧x33_a < (e.kids.length:Int))∧((Z9M (y_2,()))∧(Zf5 (y_2,()) < N)∧(Zj (A87 N [1,1,0,1,0,1,1,1,0,1,1,0,0,1,1,0,0,1,1,0,0]) (Z83 e x33_a 0 x3_a) (xB 5 (xB 4 (S87 N [1,1,0,1,0,1,1,1,0,1,1,0,0,1,1,1] (xT N1 (xB 3 (xB 0 (S87 N [1,1,1] Q))))))))))∧(z0=false→((z1=true→(Q .ret (L2 [(2,.c (sU .edit ([y_1]) .full))] [])))∧(z1=false→(Q .ret (L2 [(2,.c (sU .edit x3_a (.own (.e 2 0))))] []))))))):
  A87 N [1,1,0,1,0,1,1,1,0,1,1,0,0] (Z84 e x33_a x3_a) (xT N1 (xB 3 (xB 0 (S87 N [1,1,1] Q)))):=
 Eq.mpr (by kernel_rfl) (h _ (Z9 _) _ (Z9 _))
theorem Zqo(N:Nat)(e:Edit)(x33_a x41_b:Int)(x3_b:List Edit)(N2 N1:NT)(Q:QT)(h:∀ y_1,y_1=(e.kids.getD x33_a.toNat (KidOf.mk 0 Edit.nil))→∀ y_2,y_2=(y_1.e)→∀ y_3,y_3=(List.getD (Zp y_2) x41_b.toNat Edit.nil)→let z1:=decide (x41_b < ((Zp y_2).length:Int));let z0:=Edit.mk 2 (Tree.mk 0 [] []) (Tree.mk 0 [] []) [] ([(KidOf.mk y_1.at_ y_3)]) 0 [];((z1=true→((0:Int)≤x41_b∧x41_b < ((Zp y_2).length:Int))∧(((x3_b.length+([z0]).length)*200≤140737488355328)∧((InR (x41_b+1))∧(N2 (Z83 e x33_a (x41_b+1) (x3_b++([z0])))))))∧(z1=false→(InR (x33_a+1))∧(N1 (Z84 e (x33_a+1) x3_b))))):
  A87 N [1,1,0,1,0,1,1,1,0,1,1,0,0,1,1,0,0,1,1,0,0] (Z83 e x33_a x41_b x3_b) (xT N2 (xB 5 (xB 4 (S87 N [1,1,0,1,0,1,1,1,0,1,1,0,0,1,1,1] (xT N1 (xB 3 (xB 0 (S87 N [1,1,1] Q)))))))):=
 Eq.mpr (by kernel_rfl) (h _ rfl _ (Z9 _) _ (Z9 _))
def ZvL(N:Nat)(e:Edit):Prop:=AW (Z2 (Ziv N)) Try.f87 ZrF [] (Zo (ZfB.can (e,())) []) (EQ Try.f87 (Z6b (e,())) [])
abbrev ZxC:Prop:=∀ (N:Nat) (e:Edit) (_:Unit),Z9M (e,())→Zf5 (e,()) < N+1→ZvL N e
def Zfg(N:Nat):List (FuncId × Fs U):=(87,fs ZfB (fun a=> [Z9M a,Zf5 a < N]) Z6b) ::(119,fs ZaN (fun a=> [Z8Y a,Zc5 a < N]) ZbC) ::[(164,Z5m),(165,Z5l)]
def Zkb:Zg U:=fun i=> match i with
 | 0=> ([(1,[])],[(.loc 1,[])])
 | 1=> ([(1,[]),(3,[])],[(.loc 1,[]),(.loc 3,[])])
 | 2=> ([(1,[]),(3,[]),(4,[])],[(.loc 1,[]),(.loc 3,[]),(.loc 4,[])])
 | 3=> ([(1,[]),(3,[]),(4,[]),(5,[])],[(.loc 1,[]),(.loc 3,[]),(.loc 4,[]),(.loc 5,[])])
 | 4=> ([(1,[]),(3,[]),(4,[]),(5,[]),(7,[])],[(.loc 1,[]),(.loc 3,[]),(.loc 4,[]),(.loc 5,[])])
 | 5=> ([(3,[]),(4,[]),(5,[]),(7,[]),(19,[]),(20,[]),(21,[])],[(.loc 1,[]),(.loc 3,[.own .edit]),(.loc 4,[]),(.loc 5,[])])
 | 6=> ([(3,[]),(4,[]),(5,[]),(7,[]),(19,[]),(20,[]),(21,[]),(22,[])],[(.loc 1,[]),(.loc 3,[]),(.loc 4,[]),(.loc 5,[])])
 | 7=> ([(3,[]),(4,[]),(5,[]),(7,[]),(9,[]),(19,[]),(20,[]),(21,[])],[(.loc 1,[]),(.loc 3,[]),(.loc 4,[]),(.loc 5,[]),(.loc 9,[])])
 | 8=> ([(3,[]),(4,[]),(5,[]),(7,[]),(9,[]),(19,[]),(20,[]),(21,[]),(26,[])],[(.loc 1,[]),(.loc 3,[]),(.loc 4,[]),(.loc 5,[]),(.loc 9,[])])
 | 9=> ([(3,[]),(4,[]),(5,[]),(7,[]),(19,[]),(20,[]),(21,[]),(29,[]),(30,[]),(31,[])],[(.loc 1,[]),(.loc 3,[.own .edit]),(.loc 4,[]),(.loc 5,[])])
 | 10=> ([(3,[]),(4,[]),(5,[]),(7,[]),(19,[]),(20,[]),(21,[]),(29,[]),(30,[]),(31,[]),(32,[])],[(.loc 1,[]),(.loc 3,[]),(.loc 4,[]),(.loc 5,[])])
 | 11=> ([(3,[]),(4,[]),(5,[]),(7,[]),(11,[]),(19,[]),(20,[]),(21,[]),(29,[]),(30,[]),(31,[])],[(.loc 1,[]),(.loc 3,[]),(.loc 4,[]),(.loc 5,[]),(.loc 11,[])])
 | 12=> ([(3,[]),(4,[]),(5,[]),(7,[]),(19,[]),(20,[]),(21,[]),(29,[]),(30,[]),(31,[])],[(.loc 1,[]),(.loc 3,[]),(.loc 4,[]),(.loc 5,[])])
 | 13=> ([(3,[]),(4,[]),(5,[]),(7,[]),(19,[]),(20,[]),(21,[]),(29,[]),(30,[]),(31,[])],[(.loc 1,[]),(.loc 3,[.own .edit]),(.loc 4,[]),(.loc 5,[])])
 | 14=> ([(3,[]),(4,[]),(5,[]),(7,[]),(19,[]),(20,[]),(21,[])],[(.loc 1,[]),(.loc 3,[]),(.loc 4,[]),(.loc 5,[])])
 | 15=> ([(3,[]),(4,[]),(5,[]),(7,[]),(9,[]),(19,[]),(20,[]),(21,[]),(26,[]),(44,[])],[(.loc 1,[]),(.loc 3,[]),(.loc 4,[]),(.loc 5,[]),(.loc 9,[])])
 | 16=> ([(3,[]),(4,[]),(5,[]),(7,[]),(19,[]),(20,[]),(21,[])],[(.loc 1,[]),(.loc 3,[.own .edit]),(.loc 4,[]),(.loc 5,[])])
 | 17=> ([(3,[]),(4,[]),(5,[]),(7,[]),(9,[]),(19,[]),(20,[]),(21,[]),(26,[]),(54,[])],[(.loc 1,[]),(.loc 3,[]),(.loc 4,[]),(.loc 5,[]),(.loc 9,[])])
 | 18=> ([(3,[]),(4,[]),(5,[]),(7,[]),(9,[]),(19,[]),(20,[]),(21,[])],[(.loc 1,[]),(.loc 3,[]),(.loc 4,[]),(.loc 5,[]),(.loc 9,[])])
 | 19=> ([(3,[]),(4,[]),(5,[]),(7,[]),(19,[]),(20,[]),(21,[])],[(.loc 1,[]),(.loc 3,[.own .edit]),(.loc 4,[]),(.loc 5,[])])
 | 20=> ([(3,[]),(4,[]),(5,[]),(7,[]),(9,[]),(19,[]),(20,[]),(21,[]),(67,[])],[(.loc 1,[]),(.loc 3,[]),(.loc 4,[]),(.loc 5,[]),(.loc 9,[])])
 | 21=> ([(3,[]),(4,[]),(5,[]),(7,[]),(9,[]),(19,[]),(20,[]),(21,[])],[(.loc 1,[]),(.loc 3,[]),(.loc 4,[]),(.loc 5,[]),(.loc 9,[])])
 | 22=> ([(3,[]),(4,[]),(5,[]),(7,[]),(19,[]),(20,[]),(21,[])],[(.loc 1,[]),(.loc 3,[.own .edit]),(.loc 4,[]),(.loc 5,[])])
 | 23=> ([(3,[]),(4,[]),(5,[]),(7,[]),(19,[]),(20,[]),(21,[])],[(.loc 1,[]),(.loc 3,[.own .edit]),(.loc 4,[]),(.loc 5,[])])
 | 24=> ([(2,[])],[])
 | _=> ([],[])
def Z5V(e:Edit)(x21 ml4_0 ml5_0 ml1_0 ml1_1:Int)(ml1_2:List Int)(ml1_3:List Tree)(ml1_4:Int)(ml1_5:List Int)(ml1_6:List Tree)(ml1_7:List WEdit)(ml1_8:List Kid)(ml1_9:Int)(ml1_10:List Op)(ml3_0:List Edit):LSt U:=(L2 [(3,.ptr (.loc 3) 0),(4,.ptr (.loc 4) 0),(5,.ptr (.loc 5) 0),(7,.clo 165 [(.loc 4),(.loc 3),(.loc 1),(.loc 5)]),(19,.c (sU .op e.ops .unk)),(20,.c (ci (e.ops.length:Int))),(21,.c (ci x21))] [(.loc 1,[ci ml1_0,ci ml1_1,sU .u64 ml1_2 .unk,sU .tree ml1_3 .unk,ci ml1_4,sU .u64 ml1_5 .unk,sU .tree ml1_6 .unk,sU .wedit ml1_7 .unk,sU .kid ml1_8 .unk,ci ml1_9,sU .op ml1_10 .unk]),(.loc 3,[sU .edit ml3_0 (.own (.l 3 0))]),(.loc 4,[ci ml4_0]),(.loc 5,[ci ml5_0])])
def Z3v(e:Edit)(x21 ml1_0_a ml1_1_a:Int)(ml1_2_a:List Int)(ml1_3_a:List Tree)(ml1_4_a:Int)(ml1_5_a:List Int)(ml1_6_a:List Tree)(ml1_7_a:List WEdit)(ml1_8_a:List Kid)(ml1_9_a:Int)(ml1_10_a:List Op)(ml4_0_a ml5_0_a:Int)(ml3_0_a:List Edit):LSt U:=(L2 [(3,.ptr (.loc 3) 0),(4,.ptr (.loc 4) 0),(5,.ptr (.loc 5) 0),(7,.clo 165 [(.loc 4),(.loc 3),(.loc 1),(.loc 5)]),(19,.c (sU .op e.ops .unk)),(20,.c (ci (e.ops.length:Int))),(21,.c (ci x21))] [(.loc 1,[ci ml1_0_a,ci ml1_1_a,sU .u64 ml1_2_a .unk,sU .tree ml1_3_a .unk,ci ml1_4_a,sU .u64 ml1_5_a .unk,sU .tree ml1_6_a .unk,sU .wedit ml1_7_a .unk,sU .kid ml1_8_a .unk,ci ml1_9_a,sU .op ml1_10_a .unk]),(.loc 3,[sU .edit ml3_0_a (.own (.l 3 0))]),(.loc 4,[ci ml4_0_a]),(.loc 5,[ci ml5_0_a])])
def Z5U(e:Edit)(x21 ml4_0 x31_b ml1_0_b ml1_1_b:Int)(ml1_2_b:List Int)(ml1_3_b:List Tree)(ml1_4_b:Int)(ml1_5_b:List Int)(ml1_6_b:List Tree)(ml1_7_b:List WEdit)(ml1_8_b:List Kid)(ml1_9_b:Int)(ml1_10_b:List Op)(ml5_0_b:Int)(ml3_0_b:List Edit):LSt U:=(L2 [(3,.ptr (.loc 3) 0),(4,.ptr (.loc 4) 0),(5,.ptr (.loc 5) 0),(7,.clo 165 [(.loc 4),(.loc 3),(.loc 1),(.loc 5)]),(19,.c (sU .op e.ops .unk)),(20,.c (ci (e.ops.length:Int))),(21,.c (ci x21)),(29,.c (sU .edit (Zp (Edit.mk (Edit.kind (OpOf.e (e.ops.getD x21.toNat Op.nil))) (Tree.mk (Tree.kind (Edit.old (OpOf.e (e.ops.getD x21.toNat Op.nil)))) (Tree.words (Edit.old (OpOf.e (e.ops.getD x21.toNat Op.nil)))) (Tree.kids (Edit.old (OpOf.e (e.ops.getD x21.toNat Op.nil))))) (Tree.mk (Tree.kind (Edit.new (OpOf.e (e.ops.getD x21.toNat Op.nil)))) (Tree.words (Edit.new (OpOf.e (e.ops.getD x21.toNat Op.nil)))) (Tree.kids (Edit.new (OpOf.e (e.ops.getD x21.toNat Op.nil))))) (Edit.words (OpOf.e (e.ops.getD x21.toNat Op.nil))) (Edit.kids (OpOf.e (e.ops.getD x21.toNat Op.nil))) (Edit.list (OpOf.e (e.ops.getD x21.toNat Op.nil))) (Edit.ops (OpOf.e (e.ops.getD x21.toNat Op.nil))))) .unk)),(30,.c (ci ((Zp (Edit.mk (Edit.kind (OpOf.e (e.ops.getD x21.toNat Op.nil))) (Tree.mk (Tree.kind (Edit.old (OpOf.e (e.ops.getD x21.toNat Op.nil)))) (Tree.words (Edit.old (OpOf.e (e.ops.getD x21.toNat Op.nil)))) (Tree.kids (Edit.old (OpOf.e (e.ops.getD x21.toNat Op.nil))))) (Tree.mk (Tree.kind (Edit.new (OpOf.e (e.ops.getD x21.toNat Op.nil)))) (Tree.words (Edit.new (OpOf.e (e.ops.getD x21.toNat Op.nil)))) (Tree.kids (Edit.new (OpOf.e (e.ops.getD x21.toNat Op.nil))))) (Edit.words (OpOf.e (e.ops.getD x21.toNat Op.nil))) (Edit.kids (OpOf.e (e.ops.getD x21.toNat Op.nil))) (Edit.list (OpOf.e (e.ops.getD x21.toNat Op.nil))) (Edit.ops (OpOf.e (e.ops.getD x21.toNat Op.nil))))).length:Int))),(31,.c (ci x31_b))] [(.loc 1,[ci ml1_0_b,ci ml1_1_b,sU .u64 ml1_2_b .unk,sU .tree ml1_3_b .unk,ci ml1_4_b,sU .u64 ml1_5_b .unk,sU .tree ml1_6_b .unk,sU .wedit ml1_7_b .unk,sU .kid ml1_8_b .unk,ci ml1_9_b,sU .op ml1_10_b .unk]),(.loc 3,[sU .edit ml3_0_b (.own (.l 3 0))]),(.loc 4,[ci ml4_0]),(.loc 5,[ci ml5_0_b])])
abbrev Zd7(N:Nat)(p:List Nat):=AW (Z2 (Zfg N)) Try.f119 Zkb p
abbrev Zd6(N:Nat)(p:List Nat):=SW (Z2 (Zfg N)) Try.f119 Zkb p
theorem ZwS(N:Nat)(e:Edit)(Q:QT)(h:let z0:=Edit.mk e.kind (Tree.mk e.old.kind e.old.words e.old.kids) (Tree.mk e.new.kind e.new.words e.new.kids) e.words e.kids e.list e.ops;((ZeV (z0,()))∧(Zj (Zd7 N [1,1,1,1,1,0,1,0,0]) (Z5V e 0 0 (Z1w (Edit.ops z0) 0) e.kind e.old.kind e.old.words e.old.kids e.new.kind e.new.words e.new.kids e.words e.kids e.list e.ops []) (xB 0 (Zd6 N [1,1,1,1,1,1] Q))))):
  Zd7 N [] (L2 [(0,.agg (enc .edit e))] []) Q:=
 Eq.mpr (by kernel_rfl) h
theorem ZmY(N:Nat)(e:Edit)(x21 ml4_0 ml5_0 ml1_0 ml1_1:Int)(ml1_2:List Int)(ml1_3:List Tree)(ml1_4:Int)(ml1_5:List Int)(ml1_6:List Tree)(ml1_7:List WEdit)(ml1_8:List Kid)(ml1_9:Int)(ml1_10:List Op)(ml3_0:List Edit)(N0:NT)(Q:QT)(h:∀ y_1,y_1=(e.ops.getD x21.toNat Op.nil)→∀ y_2,y_2=y_1→∀ y_3,y_3=(y_1.e)→let z1:=decide (x21 < (e.ops.length:Int));let z0:=xT N0 (xB 0 (Zd6 N [1,1,1,1,1,1] Q));((z1=true→((0:Int)≤x21∧x21 < (e.ops.length:Int))∧(((y_1.kind==0)=true→(InR (ml4_0+y_1.n))∧(InR (ml5_0 - y_1.n))∧(Zd7 N [1,1,1,1,1,0,1,0,0,1,1,1] (Z3v e x21 ml1_0 ml1_1 ml1_2 ml1_3 ml1_4 ml1_5 ml1_6 ml1_7 ml1_8 ml1_9 ml1_10 (ml4_0+y_1.n) (ml5_0 - y_1.n) ml3_0) z0))∧((y_1.kind==0)=false→(((y_1.kind==1)=true→(Z8T (y_2,(y_1.l.length:Int),(ml4_0,()),(ml3_0,()),(ml1_0,ml1_1,ml1_2,ml1_3,ml1_4,ml1_5,ml1_6,ml1_7,ml1_8,ml1_9,ml1_10,()),(ml5_0,()),()))∧((InR (ml5_0 - (y_1.l.length:Int)))∧(Zd7 N [1,1,1,1,1,0,1,0,0,1,1,1] (Z3v e x21 ml1_0 ml1_1 ml1_2 ml1_3 ml1_4 ml1_5 ml1_6 ml1_7 ml1_8 ml1_9 ml1_10 ml4_0 (ml5_0 - (y_1.l.length:Int)) (ml3_0++[Z0O ml1_9 ml4_0 y_2 (ml5_0 - (y_1.l.length:Int))])) z0)))∧((y_1.kind==1)=false→(((y_1.kind==2)=true→(Z8T (y_2,0,(ml4_0,()),(ml3_0,()),(ml1_0,ml1_1,ml1_2,ml1_3,ml1_4,ml1_5,ml1_6,ml1_7,ml1_8,ml1_9,ml1_10,()),(ml5_0,()),()))∧((InR (ml4_0+(y_1.l.length:Int)))∧(Zd7 N [1,1,1,1,1,0,1,0,0,1,1,1] (Z3v e x21 ml1_0 ml1_1 ml1_2 ml1_3 ml1_4 ml1_5 ml1_6 ml1_7 ml1_8 ml1_9 ml1_10 (ml4_0+(y_1.l.length:Int)) ml5_0 (ml3_0++[Z0O ml1_9 ml4_0 y_2 (ml5_0 - 0)])) z0)))∧((y_1.kind==2)=false→(Z9M (y_3,()))∧(Zf5 (y_3,()) < N)∧(Zj (Zd7 N [1,1,1,1,1,0,1,0,0,1,1,0,0,1,1,0,1,1,1,1,1,1,0,1,0,0]) (Z5U e x21 ml4_0 0 ml1_0 ml1_1 ml1_2 ml1_3 ml1_4 ml1_5 ml1_6 ml1_7 ml1_8 ml1_9 ml1_10 ml5_0 ml3_0) (xB 3 (Zd6 N [1,1,1,1,1,0,1,0,0,1,1,0,0,1,1,0,1,1,1,1,1,1,1] (xB 2 (xB 1 (Zd6 N [1,1,1,1,1,0,1,0,0,1,1,1] z0)))))))))))))∧(z1=false→(Q .ret (L2 [(2,.c (sU .edit ml3_0 (.own (.e 2 0))))] []))))):
  Zd7 N [1,1,1,1,1,0,1,0,0] (Z5V e x21 ml4_0 ml5_0 ml1_0 ml1_1 ml1_2 ml1_3 ml1_4 ml1_5 ml1_6 ml1_7 ml1_8 ml1_9 ml1_10 ml3_0) (xT N0 (xB 0 (Zd6 N [1,1,1,1,1,1] Q))):=
 Eq.mpr (by kernel_rfl) (h _ rfl _ (J4 _) _ (Z9 _))
theorem Z71(N:Nat)(e:Edit)(x21 ml1_0_a ml1_1_a:Int)(ml1_2_a:List Int)(ml1_3_a:List Tree)(ml1_4_a:Int)(ml1_5_a:List Int)(ml1_6_a:List Tree)(ml1_7_a:List WEdit)(ml1_8_a:List Kid)(ml1_9_a:Int)(ml1_10_a:List Op)(ml4_0_a ml5_0_a:Int)(ml3_0_a:List Edit)(N0:NT)(Q:QT)(h:(InR (x21+1))∧(N0 (Z5V e (x21+1) ml4_0_a ml5_0_a ml1_0_a ml1_1_a ml1_2_a ml1_3_a ml1_4_a ml1_5_a ml1_6_a ml1_7_a ml1_8_a ml1_9_a ml1_10_a ml3_0_a))):
  Zd7 N [1,1,1,1,1,0,1,0,0,1,1,1] (Z3v e x21 ml1_0_a ml1_1_a ml1_2_a ml1_3_a ml1_4_a ml1_5_a ml1_6_a ml1_7_a ml1_8_a ml1_9_a ml1_10_a ml4_0_a ml5_0_a ml3_0_a) (xT N0 (xB 0 (Zd6 N [1,1,1,1,1,1] Q))):=
 Eq.mpr (by kernel_rfl) h
theorem ZmX(N:Nat)(e:Edit)(x21 ml4_0 x31_b ml1_0_b ml1_1_b:Int)(ml1_2_b:List Int)(ml1_3_b:List Tree)(ml1_4_b:Int)(ml1_5_b:List Int)(ml1_6_b:List Tree)(ml1_7_b:List WEdit)(ml1_8_b:List Kid)(ml1_9_b:Int)(ml1_10_b:List Op)(ml5_0_b:Int)(ml3_0_b:List Edit)(N2 N0:NT)(Q:QT)(h:∀ y_1,y_1=(e.ops.getD x21.toNat Op.nil)→∀ y_2,y_2=(y_1.e)→∀ y_3,y_3=(List.getD (Zp y_2) x31_b.toNat Edit.nil)→let z0:=decide (x31_b < ((Zp y_2).length:Int));((z0=true→((0:Int)≤x31_b∧x31_b < ((Zp y_2).length:Int))∧((Z8T ((OpOf.mk 3 0 [] y_3),1,(ml4_0,()),(ml3_0_b,()),(ml1_0_b,ml1_1_b,ml1_2_b,ml1_3_b,ml1_4_b,ml1_5_b,ml1_6_b,ml1_7_b,ml1_8_b,ml1_9_b,ml1_10_b,()),(ml5_0_b,()),()))∧((InR (x31_b+1))∧(N2 (Z5U e x21 ml4_0 (x31_b+1) ml1_0_b ml1_1_b ml1_2_b ml1_3_b ml1_4_b ml1_5_b ml1_6_b ml1_7_b ml1_8_b ml1_9_b ml1_10_b ml5_0_b (ml3_0_b++[Z0O ml1_9_b ml4_0 (OpOf.mk 3 0 [] y_3) (ml5_0_b - 1)]))))))∧(z0=false→(InR (ml4_0+1))∧(InR (ml5_0_b - 1))∧(Zd7 N [1,1,1,1,1,0,1,0,0,1,1,1] (Z3v e x21 ml1_0_b ml1_1_b ml1_2_b ml1_3_b ml1_4_b ml1_5_b ml1_6_b ml1_7_b ml1_8_b ml1_9_b ml1_10_b (ml4_0+1) (ml5_0_b - 1) ml3_0_b) (xT N0 (xB 0 (Zd6 N [1,1,1,1,1,1] Q))))))):
  Zd7 N [1,1,1,1,1,0,1,0,0,1,1,0,0,1,1,0,1,1,1,1,1,1,0,1,0,0] (Z5U e x21 ml4_0 x31_b ml1_0_b ml1_1_b ml1_2_b ml1_3_b ml1_4_b ml1_5_b ml1_6_b ml1_7_b ml1_8_b ml1_9_b ml1_10_b ml5_0_b ml3_0_b) (xT N2 (xB 3 (Zd6 N [1,1,1,1,1,0,1,0,0,1,1,0,0,1,1,0,1,1,1,1,1,1,1] (xB 2 (xB 1 (Zd6 N [1,1,1,1,1,0,1,0,0,1,1,1] (xT N0 (xB 0 (Zd6 N [1,1,1,1,1,1] Q))))))))):=
 Eq.mpr (by kernel_rfl) (h _ rfl _ (Z9 _) _ (Z9 _))
def ZsJ(N:Nat)(e:Edit):Prop:=AW (Z2 (Zfg N)) Try.f119 Zkb [] (Zo (ZaN.can (e,())) []) (EQ Try.f119 (ZbC (e,())) [])
abbrev ZtF:Prop:=∀ (N:Nat) (e:Edit) (_:Unit),Z8Y (e,())→Zc5 (e,()) < N+1→ZsJ N e
theorem Zil(Zvb:CT 164 Z5m)(Zva:CT 165 Z5l)(ha:ZxC)(hb:ZtF):CT 87 Zb2∧CT 119 Zjg:=
 Z1d (μA:=Zf5) (μB:=Zc5) (l:=[(164,Z5m),(165,Z5l)]) Zr rfl (⟨Zvb,Zva,trivial⟩) ZrF Zkb Try.func87 Try.func119 rfl rfl rfl rfl 1 1 (fun _=> rfl) (fun _=> rfl) (by decide) (by decide) (fun N ⟨e,_⟩=> ha N e ()) (fun N ⟨e,_⟩=> hb N e ())
end
end Go.AM.Ytpjenobkibfpcaa
namespace Go.AM.Ytpjenobkibfpcaa
open Go.AM Go.Proofs
noncomputable section
def ZpS:ArgL (Edit × Unit):=(.cons (aEl .edit) .nil)
def Zgy(a:Edit × Unit):Prop:=Z6 a.1≤1000000∧∃ d,Z4 a.1 d=true
def ZnE(a:Edit × Unit):V U:= .c (sU .edit (Zp (ZA a.1)) .unk)
def Z4t:Fs U:=fs ZpS (fun a=> [Zgy a]) ZnE
def ZpE:ArgL (List Edit × Unit):=(.cons (aSl .edit) .nil)
def ZjQ(a:List Edit × Unit):Prop:=(∀ x∈a.1,Z0N x)∧ctL a.1≤8000000000
def ZjD(a:List Edit × Unit):V U:= .tup [(true,(enc .edit ((Z3p a.1).1))),(false,[.bool ((Z3p a.1).2)])]
def Zb3:Fs U:=fs ZpE (fun a=> [ZjQ a]) ZjD
def ZpF:ArgL (Int × Unit):=(.cons (Z04 .u64) .nil)
def ZjR(a:Int × Unit):Prop:=True
def Zny(a:Int × Unit):V U:= .c (sU .tree ([Tree.mk 10 [a.1] []]) .unk)
def Zb4:Fs U:=fs ZpF (fun a=> [ZjR a]) Zny
def ZpT:ArgL Unit:= .nil
def Zgz(a:Unit):Prop:=True
def Zt6(a:Unit):V U:= .c (.bool true)
def Zbd:Fs U:=fs ZpT (fun a=> [Zgz a]) Zt6
def ZpU:ArgL (Tree × Unit):=(.cons (aEl .tree) .nil)
def ZgA(a:Tree × Unit):Prop:=Z28 a.1∧rng a.1
def Zt7(a:Tree × Unit):V U:= .c (.bool (Z8s a.1))
def Zbe:Fs U:=fs ZpU (fun a=> [ZgA a]) Zt7
def Zq0:ArgL (Edit × Tree × Unit):=(.cons (aEl .edit) (.cons (aEl .tree) .nil))
def ZjW(a:Edit × Tree × Unit):Prop:=(Z2W a.1∧Ym a.1)∧Z28 a.2.1∧rng a.2.1
def ZdE(a:Edit × Tree × Unit):V U:= .c (.bool true)
def Zev:Fs U:=fs Zq0 (fun a=> [ZjW a]) ZdE
def Zp9:List (FuncId × Fs U):=[(57,Z0s),(87,Zb2)]
def ZuN:Zg U:=lvl [([1],[1]),([2],[])]
abbrev A50(p:List Nat):=AW (Z2 Zp9) Try.f50 ZuN p
theorem Zyb(e:Edit)(Q:QT)(h:∀ y_1,y_1=e→∀ y_2,y_2=(ZA y_1)→((Z0R (y_1,()))∧(Z9M (y_2,()))∧(Q .ret (L2 [(2,.c (sU .edit (Zp y_2) .unk))] [])))):
  A50 [] (L2 [(0,.agg (enc .edit e))] []) Q:=
 Eq.mpr (by kernel_rfl) (h _ (Z9 _) _ (Z9 _))
def Zw7(e:Edit):Prop:=AW (Z2 Zp9) Try.f50 ZuN [] (Zo (ZpS.can (e,())) []) (EQ Try.f50 (ZnE (e,())) [])
theorem Zup(c57:CT 57 Z0s)(c87:CT 87 Zb2)(hb:∀ (e:Edit) (_:Unit),Zgy (e,())→Zw7 e):CT 50 Z4t:=
 Z8 (l:=[(57,Z0s),(87,Zb2)]) Zr rfl (⟨c57,c87,trivial⟩) ZuN Try.func50 rfl rfl 1 (fun _=> rfl) (by decide) (fun ⟨e,_⟩=> hb e ())
def Ziw:List (FuncId × Fs U):=[(21,Zbl),(57,Z0s)]
def ZrG:Zg U:=fun i=> match i with
 | 0=> ([(0,[]),(2,[])],[(.loc 2,[])])
 | 1=> ([(0,[]),(2,[]),(4,[])],[(.loc 2,[]),(.loc 4,[])])
 | 2=> ([(2,[]),(4,[]),(10,[]),(11,[]),(12,[])],[(.loc 2,[]),(.loc 4,[.any,.any,.unk .u64,.unk .tree,.any,.unk .u64,.unk .tree,.unk .wedit,.unk .kid,.any,.unk .op])])
 | 3=> ([(2,[]),(4,[]),(10,[]),(11,[]),(12,[]),(13,[])],[(.loc 2,[]),(.loc 4,[])])
 | 4=> ([(2,[]),(4,[]),(6,[]),(10,[]),(11,[]),(12,[])],[(.loc 2,[]),(.loc 4,[]),(.loc 6,[])])
 | 5=> ([(2,[]),(4,[]),(7,[]),(8,[]),(10,[]),(11,[]),(12,[])],[(.loc 2,[]),(.loc 4,[]),(.loc 7,[])])
 | 6=> ([(2,[]),(4,[]),(7,[]),(10,[]),(11,[]),(12,[]),(23,[])],[(.loc 2,[]),(.loc 4,[]),(.loc 7,[])])
 | 7=> ([(2,[]),(3,[])],[(.loc 2,[])])
 | 8=> ([(2,[]),(4,[]),(10,[]),(11,[]),(12,[])],[(.loc 2,[]),(.loc 4,[])])
 | 9=> ([(2,[]),(4,[]),(10,[]),(11,[]),(12,[])],[(.loc 2,[]),(.loc 4,[.any,.any,.unk .u64,.unk .tree,.any,.unk .u64,.unk .tree,.unk .wedit,.unk .kid,.any,.unk .op])])
 | 10=> ([(2,[]),(3,[])],[(.loc 2,[])])
 | _=> ([],[])
def Z86(l:List Edit)(x12 ml4_0 ml4_1 ml4_4 ml4_9:Int)(ml4_2:List Int)(ml4_3:List Tree)(ml4_5:List Int)(ml4_6:List Tree)(ml4_7:List WEdit)(ml4_8:List Kid)(ml4_10:List Op):LSt U:=(L2 [(2,.ptr (.loc 2) 0),(4,.ptr (.loc 4) 0),(10,.c (sU .edit l .unk)),(11,.c (ci (l.length:Int))),(12,.c (ci x12))] [(.loc 2,zc1),(.loc 4,[ci ml4_0,ci ml4_1,sU .u64 ml4_2 .unk,sU .tree ml4_3 .unk,ci ml4_4,sU .u64 ml4_5 .unk,sU .tree ml4_6 .unk,sU .wedit ml4_7 .unk,sU .kid ml4_8 .unk,ci ml4_9,sU .op ml4_10 .unk])])
abbrev A86(p:List Nat):=AW (Z2 Ziw) Try.f86 ZrG p
abbrev S86(p:List Nat):=SW (Z2 Ziw) Try.f86 ZrG p
theorem ZxQ(l:List Edit)(Q:QT)(h:(Zj (A86 [1,1,0,1,0,0]) (Z86 l 0 0 0 0 0 [] [] [] [] [] [] []) (xB 0 (S86 [1,1,1] Q)))):
  A86 [] (L2 [(0,.c (sU .edit l .unk))] []) Q:=
 Eq.mpr (by kernel_rfl) h
theorem Zqr(l:List Edit)(x12 ml4_0 ml4_1 ml4_4 ml4_9:Int)(ml4_2:List Int)(ml4_3:List Tree)(ml4_5:List Int)(ml4_6:List Tree)(ml4_7:List WEdit)(ml4_8:List Kid)(ml4_10:List Op)(N0:NT)(Q:QT)(h:∀ y_1,y_1=(l.getD x12.toNat Edit.nil)→∀ y_2,y_2=(Edit.mk ml4_0 (Tree.mk ml4_1 ml4_2 ml4_3) (Tree.mk ml4_4 ml4_5 ml4_6) ml4_7 ml4_8 ml4_9 ml4_10)→∀ y_3,y_3=y_1→let z2:=decide (x12 < (l.length:Int));let z1:=Edit.new ((Z1J y_2 y_3).1);let z0:=Edit.old ((Z1J y_2 y_3).1);((z2=true→((0:Int)≤x12∧x12 < (l.length:Int))∧((Zob (y_2,y_3,()))∧(((!((Z1J y_2 y_3).2))=true→(Q .ret (L2 [(2,.ptr (.loc 2) 0),(3,.c (.bool false))] [(.loc 2,zc1)])))∧((!((Z1J y_2 y_3).2))=false→((InR (x12+1))∧(N0 (Z86 l (x12+1) (Edit.kind ((Z1J y_2 y_3).1)) (Tree.kind z0) (Tree.kind z1) (Edit.list ((Z1J y_2 y_3).1)) (Tree.words z0) (Tree.kids z0) (Tree.words z1) (Tree.kids z1) (Edit.words ((Z1J y_2 y_3).1)) (Edit.kids ((Z1J y_2 y_3).1)) (Edit.ops ((Z1J y_2 y_3).1)))))))))∧(z2=false→(Z0R (y_2,()))∧(Q .ret (L2 [(2,.ptr (.loc 2) 0),(3,.c (.bool true))] [(.loc 2,(enc .edit (ZA y_2)))]))))):
  A86 [1,1,0,1,0,0] (Z86 l x12 ml4_0 ml4_1 ml4_4 ml4_9 ml4_2 ml4_3 ml4_5 ml4_6 ml4_7 ml4_8 ml4_10) (xT N0 (xB 0 (S86 [1,1,1] Q))):=
 Eq.mpr (by kernel_rfl) (h _ rfl _ rfl _ (Z9 _))
def ZvM(l:List Edit):Prop:=AW (Z2 Ziw) Try.f86 ZrG [] (Zo (ZpE.can (l,())) []) (EQ Try.f86 (ZjD (l,())) [])
theorem Zu8(c21:CT 21 Zbl)(c57:CT 57 Z0s)(hb:∀ (l:List Edit) (_:Unit),ZjQ (l,())→ZvM l):CT 86 Zb3:=
 Z8 (l:=[(21,Zbl),(57,Z0s)]) Zr rfl (⟨c21,c57,trivial⟩) ZrG Try.func86 rfl rfl 1 (fun _=> rfl) (by decide) (fun ⟨l,_⟩=> hb l ())
def Zp3:List (FuncId × Fs U):=[]
def ZuF:Zg U:=lvl [([0],[]),([2],[])]
abbrev A85(p:List Nat):=AW (Z2 Zp3) Try.f85 ZuF p
theorem ZxR(n:Int)(Q:QT)(h:(Q .ret (L2 [(2,.c (sU .tree ([(Tree.mk 10 ([n]) [])]) .full))] []))):
  A85 [] (L2 [(0,.c (.int .u64 n))] []) Q:=
 Eq.mpr (by kernel_rfl) h
def ZvN(n:Int):Prop:=AW (Z2 Zp3) Try.f85 ZuF [] (Zo (ZpF.can (n,())) []) (EQ Try.f85 (Zny (n,())) [])
theorem Zu9(hb:∀ (n:Int) (_:Unit),ZjR (n,())→ZvN n):CT 85 Zb4:=
 Z8 (l:=[]) Zr rfl trivial ZuF Try.func85 rfl rfl 1 (fun _=> rfl) (by decide) (fun ⟨n,_⟩=> hb n ())
def Zpa:List (FuncId × Fs U):=[(50,Z4t),(85,Zb4),(86,Zb3)]
def ZuO:Zg U:=lvl [([],[]),([1],[]),([2],[]),([2,3,4],[3]),([0],[])]
abbrev A49(p:List Nat):=AW (Z2 Zpa) Try.f49 ZuO p
theorem Zyc(Q:QT)(h:∀ y_1,y_1=(Edit.mk 0 (Tree.mk 0 [] []) (Tree.mk 0 [] []) [] [] 0 [])→∀ y_2,y_2=(Edit.mk 3 (Tree.mk 0 [] []) (Tree.mk 0 [] []) [] [] 4 ([(OpOf.mk 1 0 ([Tree.mk 10 [1] []]) y_1),(OpOf.mk 0 1 [] y_1),(OpOf.mk 2 0 ([Tree.mk 10 [2] []]) y_1)]))→∀ y_3,y_3=(List.getD (Zp (ZA y_2)) (Int.toNat 0) Edit.nil)→∀ y_4,y_4=(List.getD (Zp (ZA y_2)) (Int.toNat 1) Edit.nil)→∀ y_5,y_5=(List.getD y_4.ops (Int.toNat 0) Op.nil)→let z3:=Zp (ZA y_2);let z5:=Edit.ops ((Z3p z3).1);let z2:=bif ((Z3p z3).2) then (((z3.length:Int):Int)==2) else false;let z0:=bif z2 then (((y_3.ops.length:Int):Int)==2) else false;let z4:=bif z0 then (y_5.n==1) else false;let z1:=bif z4 then (((z5.length:Int):Int)==3) else false;((ZjR (1,()))∧(ZjR (2,()))∧(Zgy (y_2,()))∧((ZjQ (z3,()))∧((Tr (((Z3p z3).2)=true))∧(Tr (((Z3p z3).2)=true))∧(Tr (((Z3p z3).2)=true))∧(Tr (z2=true))∧(z2=true→(0:Int)≤0∧0 < (z3.length:Int))∧(Tr (z2=true))∧(Tr (z2=true))∧(Tr (z2=true))∧(Tr (z2=true))∧(Tr (z2=true))∧(Tr (z0=true))∧(z0=true→(0:Int)≤1∧1 < (z3.length:Int))∧(Tr (z0=true))∧(Tr (z0=true))∧(Tr (z0=true))∧(z0=true→(0:Int)≤0∧0 < (y_4.ops.length:Int))∧(Tr (z0=true))∧(Tr (z0=true))∧(Tr (z0=true))∧(Tr (z0=true))∧(Tr (z4=true))∧(Tr (z4=true))∧(Tr (z4=true))∧(Tr (z4=true))∧(Tr (z1=true))∧(Tr (z1=true))∧(z1=true→(0:Int)≤0∧0 < (z5.length:Int))∧(Tr (z1=true))∧(Tr (z1=true))∧(Tr (z1=true))∧(Tr (z1=true))∧(Q .ret (L2 [(0,.c (.bool (bif z1 then (((OpOf.kind (List.getD z5 (Int.toNat 0) Op.nil)):Int)==1) else false)))] [])))))):
  A49 [] (L2 [] []) Q:=
 Eq.mpr (by kernel_rfl) (h _ rfl _ rfl _ rfl _ rfl _ rfl)
def Zw8:Prop:=AW (Z2 Zpa) Try.f49 ZuO [] (Zo (ZpT.can ()) []) (EQ Try.f49 (Zt6 ()) [])
theorem Zuq(c50:CT 50 Z4t)(c85:CT 85 Zb4)(c86:CT 86 Zb3)(hb:∀ (_:Unit),Zgz ()→Zw8):CT 49 Zbd:=
 Z8 (l:=[(50,Z4t),(85,Zb4),(86,Zb3)]) Zr rfl (⟨c50,c85,c86,trivial⟩) ZuO Try.func49 rfl rfl 0 (fun _=> rfl) (by decide) (fun _=> hb ())
def Zpb:List (FuncId × Fs U):=[(36,Zbh),(37,Z3Q)]
def ZuP:Zg U:=lvl [([1],[1]),([2],[])]
abbrev A48(p:List Nat):=AW (Z2 Zpb) Try.f48 ZuP p
theorem Zyd(t:Tree)(Q:QT)(h:let z2:=Tree.mk t.kind t.words t.kids;let z1:=decide (0≤ZC z2 80 3000);let z0:=bif z1 then (Ze z2 64) else false;((ZjU (z2,()))∧(Tr (z1=true))∧(z1=true→Z4k (z2,64,()))∧(Tr (z1=true))∧(Tr (z0=true))∧(Tr (z0=true))∧(Tr (z0=true))∧(Q .ret (L2 [(2,.c (.bool (bif z0 then (t.kind !=10) else false)))] [])))):
  A48 [] (L2 [(0,.agg (enc .tree t))] []) Q:=
 Eq.mpr (by kernel_rfl) h
def Zw9(t:Tree):Prop:=AW (Z2 Zpb) Try.f48 ZuP [] (Zo (ZpU.can (t,())) []) (EQ Try.f48 (Zt7 (t,())) [])
theorem Zur(c36:CT 36 Zbh)(c37:CT 37 Z3Q)(hb:∀ (t:Tree) (_:Unit),ZgA (t,())→Zw9 t):CT 48 Zbe:=
 Z8 (l:=[(36,Zbh),(37,Z3Q)]) Zr rfl (⟨c36,c37,trivial⟩) ZuP Try.func48 rfl rfl 1 (fun _=> rfl) (by decide) (fun ⟨t,_⟩=> hb t ())
def ZiK:List (FuncId × Fs U):=[(15,Zbm),(26,Z1q),(29,Zbi),(45,Zbg),(47,Zbf),(48,Zbe),(49,Zbd),(50,Z4t)]
def ZrU:Zg U:=lvl [([2,3],[2,3]),([2,3,23],[2,3]),([4],[]),([2,3,5],[2,3]),([3,5,6,7],[3,6]),([5,6,7,8,9],[6,8]),([5,6,7,8,9,10],[6,8]),([5,6,7,8,9,10,41],[6,8]),([5,6,7,8,9,10],[6,8]),([5,6,7,8,10,46],[6,8]),([4],[]),([5,6,7,8,9,10],[6,8]),([4],[])]
def Z8q(e:Edit)(t:Tree)(x9:Bool)(x10 ml8_0:Int)(ml8_1:List Int)(ml8_2:List Tree):LSt U:=(L2 [(5,.c (sU .edit (Zp (ZA (Edit.mk e.kind (Tree.mk e.old.kind e.old.words e.old.kids) (Tree.mk e.new.kind e.new.words e.new.kids) e.words e.kids e.list e.ops))) .unk)),(6,.ptr (.loc 6) 0),(7,.c (.bool ((doE false (Edit.mk e.kind (Tree.mk e.old.kind e.old.words e.old.kids) (Tree.mk e.new.kind e.new.words e.new.kids) e.words e.kids e.list e.ops) (Tree.mk t.kind t.words t.kids)).isSome))),(8,.ptr (.loc 8) 0),(9,.c (.bool x9)),(10,.c (ci x10))] [(.loc 6,(enc .tree (Z0S ((doE false (Edit.mk e.kind (Tree.mk e.old.kind e.old.words e.old.kids) (Tree.mk e.new.kind e.new.words e.new.kids) e.words e.kids e.list e.ops) (Tree.mk t.kind t.words t.kids)).map Z3)))),(.loc 8,[ci ml8_0,sU .u64 ml8_1 .unk,sU .tree ml8_2 .unk])])
abbrev A12(p:List Nat):=AW (Z2 ZiK) Try.f12 ZrU p
abbrev S12(p:List Nat):=SW (Z2 ZiK) Try.f12 ZrU p
theorem Zyo(e:Edit)(t:Tree)(Q:QT)(h:∀ y_1,y_1=e→∀ y_2,y_2=t→let z0:=bif (!(Z06 y_1)) then true else (decide ((200:Int) < (YM y_1)));let z1:=bif z0 then true else (!(Z8s y_2));((ZjV (y_1,()))∧(Tr ((!(!(Z06 y_1)))=true))∧((!(!(Z06 y_1)))=true→Z4G (y_1,()))∧(Tr ((!(!(Z06 y_1)))=true))∧((!(Z06 y_1))=false→(!(!(Z06 y_1)))=true)∧(Tr ((!z0)=true))∧((!z0)=true→ZgA (y_2,()))∧(Tr ((!z0)=true))∧(z0=false→(!z0)=true)∧((z1=true→(Zgz ())∧(Q .ret (L2 [(4,.c (.bool true))] [])))∧(z1=false→(Zgy (y_1,()))∧((Z6f (y_1,y_2,()))∧((ZbJ (y_2,()))∧(Zj (A12 [1,1,1,1,1,0,1,0,0]) (Z8q e t true 0 (Tree.kind (Z3 y_2)) (Tree.words (Z3 y_2)) (Tree.kids (Z3 y_2))) (xB 0 (S12 [1,1,1,1,1,1] Q))))))))):
  A12 [] (L2 [(0,.agg (enc .edit e)),(1,.agg (enc .tree t))] []) Q:=
 Eq.mpr (by kernel_rfl) (h _ (Z9 _) _ (Zf _))
theorem ZqT(e:Edit)(t:Tree)(x9:Bool)(x10 ml8_0:Int)(ml8_1:List Int)(ml8_2:List Tree)(N0:NT)(Q:QT)(h:∀ y_1,y_1=e→∀ y_2,y_2=t→∀ y_3,y_3=(Z0S ((doE false y_1 y_2).map Z3))→∀ y_4,y_4=(List.getD (Zp (ZA y_1)) x10.toNat Edit.nil)→∀ y_5,y_5=y_4→∀ y_6,y_6=(Z0S ((doE false y_5 (Tree.mk ml8_0 ml8_1 ml8_2)).map Z3))→let z4:=decide (x10 < ((Zp (ZA y_1)).length:Int));let z3:= !((doE false y_1 y_2).isSome);let z2:=Tree.mk ml8_0 ml8_1 ml8_2;let z0:=((doE false y_1 y_2).isSome)==x9;let z1:=bif z0 then (bif z3 then true else (YT y_3 z2)) else false;(Tr (z4=true))∧(((bif z4 then x9 else false)=true→(ZgA (z2,()))∧(((!(Z8s z2))=true→(Zgz ())∧(Q .ret (L2 [(4,.c (.bool true))] [])))∧((!(Z8s z2))=false→((0:Int)≤x10∧x10 < ((Zp (ZA y_1)).length:Int))∧(Z6f (y_5,z2,()))∧((InR (x10+1))∧(N0 (Z8q e t ((doE false y_5 z2).isSome) (x10+1) y_6.kind y_6.words y_6.kids))))))∧((bif z4 then x9 else false)=false→(Tr (z0=true))∧(Tr (z0=true))∧(Tr ((z0 && (!z3))=true))∧(Tr ((z0 && (!z3))=true))∧((z0 && (!z3))=true→ZbK (y_3,z2,()))∧(z0=true→(True→z0=true))∧(z0=true→(z3=false→(z0 && (!z3))=true))∧(Tr (z0=true))∧(z1=true→Zgz ())∧(Tr (z1=true))∧(Q .ret (L2 [(4,.c (.bool (bif z1 then true else false)))] []))))):
  A12 [1,1,1,1,1,0,1,0,0] (Z8q e t x9 x10 ml8_0 ml8_1 ml8_2) (xT N0 (xB 0 (S12 [1,1,1,1,1,1] Q))):=
 Eq.mpr (by kernel_rfl) (h _ (Z9 _) _ (Zf _) _ (Zf _) _ rfl _ (Z9 _) _ rfl)
def Zwk(e:Edit)(t:Tree):Prop:=AW (Z2 ZiK) Try.f12 ZrU [] (Zo (Zq0.can (e,t,())) []) (EQ Try.f12 (ZdE (e,t,())) [])
theorem ZuB(c15:CT 15 Zbm)(c26:CT 26 Z1q)(c29:CT 29 Zbi)(c45:CT 45 Zbg)(c47:CT 47 Zbf)(c48:CT 48 Zbe)(c49:CT 49 Zbd)(c50:CT 50 Z4t)(hb:∀ (e:Edit) (t:Tree) (_:Unit),ZjW (e,t,())→Zwk e t):CT 12 Zev:=
 Z8 (l:=[(15,Zbm),(26,Z1q),(29,Zbi),(45,Zbg),(47,Zbf),(48,Zbe),(49,Zbd),(50,Z4t)]) Zr rfl (⟨c15,c26,c29,c45,c47,c48,c49,c50,trivial⟩) ZrU Try.func12 rfl rfl 2 (fun _=> rfl) (by decide) (fun ⟨e,t,_⟩=> hb e t ())
end
end Go.AM.Ytpjenobkibfpcaa
namespace Go.AM.Ytpjenobkibfpcaa
open Go.AM Go.Proofs
theorem Zv9:Contract Try.prog cfg 166 Z79:=by
 refine Zrj ?_
 intro n _ _
 refine ZwA _ _ ?_
 (simp only [vcT,vcS])
 refine ⟨fun h=> ?_,fun h=> ?_⟩
 ·simp only [ZeM,YY,if_pos h]
  (repeat' (first | exact trivial | exact rfl | apply And.intro))
 ·simp only [ZeM,YY,if_neg h]
  (repeat' (first | exact trivial | exact rfl | apply And.intro))
theorem Zva:Contract Try.prog cfg 165 Z5l:=by
 refine Zrk Zv9 ?_
 intro o g ah out ek eo eow eok en enw enk ew ec li eos bh _ hp
 simp only [Z8T] at hp
 refine ZwB _ _ _ _ _ _ _ _ _ _ _ _ _ _ _ _ _ ?_
 rintro y1 rfl
 (simp only [vcT,vcS])
 have h1:=Z5Q ah
 have h2:=Z5Q (bh - g)
 refine ⟨trivial,by simp only [List.length_cons,List.length_nil];omega,by unfold InR;omega,trivial,by simp only [List.length_append,List.length_cons,List.length_nil];omega,by simp only [List.length_cons,List.length_nil];omega,?_⟩
 simp only [ZhY,ZeI]
 (repeat' (first | exact trivial | exact rfl | apply And.intro))
theorem Zle{w:WEdit}:Edit.mk 2 (Tree.mk 0 [] []) (Tree.mk 0 [] []) [WEdit.mk w.at_ w.mask w.old w.new] [] 0 []=Z0P w:=by cases w;rfl
theorem b87:ZxC:=by
 intro N e _ hp hN
 simp only [Z9M,Zf5] at hp hN
 obtain ⟨hm,d,hr⟩:=hp
 have ra:=Zw hr
 refine ZxP _ _ _ ?_
 rintro y1 rfl y2 hy2
 (simp only [vcT,vcS])
 have hz:∀ k:Int,y1.kind=k→k≠0→Zp y1=if (Yp y1).length=0 then [y1] else Yp y1:=fun k h h0=> by rw [JT,if_neg (by omega)]
 refine ⟨fun h0=> ?_,fun h0=> ⟨fun h2=> ?_,fun h2=> ⟨fun h3=> ⟨⟨h3,hm,d,hr⟩,by simp only [Zc5];omega,fun hl=> ?_,fun hl=> ?_⟩,fun h3=> ⟨?_,fun h=> absurd trivial h⟩⟩⟩⟩
 ·have:Zp y1=[]:=by rw [JT,if_pos h0]
  simp only [Z6b,this]
  (repeat' (first | exact trivial | exact rfl | apply And.intro))
 ·have hR:Yp y1=y1.words.map Z0P++ZS y1.kids:=by unfold Yp;rw [if_pos h2]
  have hkl:y1.kids.length≤Z6 y1:=by have:=Yw y1.kids;have:Z6 y1=1+Zk y1.old+Zk y1.new+y1.words.length+y1.ops.length+Zi y1.kids+Zc y1.ops:=(by cases y1;rfl);omega
  have hlen:(Yp y1).length≤1000000:=by
   have h4:=(Z2M y1).2
   rw [hz 2 h2 (by decide)] at h4
   split at h4
   ·omega
   ·omega
  refine Zb (ι:=Int × List Edit) (fun j=> Z85 y1 j.1 j.2) (fun j=> (0≤j.1∧j.1≤y1.words.length)∧j.2++(y1.words.drop j.1.toNat).map Z0P=y1.words.map Z0P) (fun j=> ((y1.words.length:Int) - j.1).toNat) (0,[]) rfl ⟨⟨by dsimp only;omega,by dsimp only;omega⟩,by simp⟩ ?_
  rintro ⟨i,out⟩ ⟨⟨i1,i2⟩,i3⟩
  dsimp only at i1 i2 i3
  refine Zqq _ _ _ _ _ _ ?_
  (simp only [vcT,vcS])
  have hl1:=congrArg List.length i3
  have hl2:=congrArg List.length hR
  simp only [List.length_append,List.length_map] at hl1 hl2
  refine ⟨fun hi=> ⟨⟨i1,hi⟩,by simp only [List.length_cons,List.length_nil];omega,by unfold InR;omega,(i+1,out++[Z0P (y1.words.getD i.toNat ⟨0,0,0,0⟩)]),?_,⟨⟨by dsimp only;omega,by dsimp only;omega⟩,?_⟩,by dsimp only;omega⟩,fun hi=> ?_⟩
  ·dsimp only;rw [Zle]
  ·rw [Ys i1 hi ⟨0,0,0,0⟩,List.map_cons] at i3
   dsimp only
   rw [List.append_assoc];exact i3
  ·rw [List.drop_of_length_le (by omega),List.map_nil,List.append_nil] at i3
   refine Zb (ι:=Int × List Edit) (fun j=> Z84 y1 j.1 j.2) (fun j=> (0≤j.1∧j.1≤y1.kids.length)∧j.2++ZS (y1.kids.drop j.1.toNat)=Yp y1) (fun j=> ((y1.kids.length:Int) - j.1).toNat) (0,out) rfl ⟨⟨by dsimp only;omega,by dsimp only;omega⟩,by rw [hR,←i3];rfl⟩ ?_
   rintro ⟨k,out⟩ ⟨⟨k1,k2⟩,k3⟩
   dsimp only at k1 k2 k3
   refine Zqp _ _ _ _ _ _ ?_
   rintro z1 rfl z2 hz2
   (simp only [vcT,vcS])
   refine ⟨fun hk=> ?_,fun hk=> ?_⟩
   ·have hkm:z1.kids.getD k.toNat ⟨0,Edit.nil⟩∈z1.kids:=Zh (by omega) _
    have hke:=J9 hkm
    have hkr:=(ZK ra.kids _ hkm).2
    rw [←hz2] at hke hkr
    have hst:ZS (z1.kids.drop k.toNat)=(Zp z2).map (Z6U (z1.kids.getD k.toNat ⟨0,Edit.nil⟩).at_)++ZS (z1.kids.drop (k+1).toNat):=by
     rw [Ys k1 hk ⟨0,Edit.nil⟩,ZS,Z2L,←hz2]
    refine ⟨⟨k1,hk⟩,⟨by dsimp only;omega,_,hkr⟩,by simp only [Zf5];omega,?_⟩
    refine Zb (ι:=Int × List Edit) (fun j=> Z83 z1 k j.1 j.2) (fun j=> (0≤j.1∧j.1≤(Zp z2).length)∧j.2++((Zp z2).drop j.1.toNat).map (Z6U (z1.kids.getD k.toNat ⟨0,Edit.nil⟩).at_)=out++(Zp z2).map (Z6U (z1.kids.getD k.toNat ⟨0,Edit.nil⟩).at_)) (fun j=> (((Zp z2).length:Int) - j.1).toNat) (0,out) rfl ⟨⟨by dsimp only;omega,by dsimp only;omega⟩,by simp⟩ ?_
    rintro ⟨j,o2⟩ ⟨⟨j1,j2⟩,j3⟩
    dsimp only at j1 j2 j3
    refine Zqo _ _ _ _ _ _ _ _ ?_
    rintro x1 hx1 x2 hx2 x3 hx3
    have ex:x2=z2:=by rw [hx2,hz2,hx1]
    subst ex
    (simp only [vcT,vcS])
    have hl3:=congrArg List.length j3
    have hl4:=congrArg List.length k3
    rw [hst] at hl4
    simp only [List.length_append,List.length_map,List.length_drop] at hl3 hl4
    refine ⟨fun hj=> ⟨⟨j1,hj⟩,by simp only [List.length_cons,List.length_nil];omega,by unfold InR;omega,(j+1,o2++[Z6U x1.at_ x3]),rfl,⟨⟨by dsimp only;omega,by dsimp only;omega⟩,?_⟩,by dsimp only;omega⟩,fun hj=> ⟨by unfold InR;omega,(k+1,o2),rfl,⟨⟨by dsimp only;omega,by dsimp only;omega⟩,?_⟩,by dsimp only;omega⟩⟩
    ·rw [Ys j1 hj Edit.nil,List.map_cons,←hx3,←hx1] at j3
     dsimp only
     rw [List.append_assoc,←hx1];exact j3
    ·rw [List.drop_of_length_le (by omega),List.map_nil,List.append_nil] at j3
     dsimp only
     rw [j3,List.append_assoc,←hst];exact k3
   ·rw [List.drop_of_length_le (by omega),ZS,List.append_nil] at k3
    refine ⟨fun hl=> ?_,fun hl=> ?_⟩
    ·have:Zp z1=[z1]:=by rw [hz 2 h2 (by decide),←k3,if_pos (by omega)]
     simp only [Z6b,this]
     (repeat' (first | exact trivial | exact rfl | apply And.intro))
    ·have:Zp z1=out:=by rw [hz 2 h2 (by decide),←k3,if_neg (by omega)]
     simp only [Z6b,this]
     (repeat' (first | exact trivial | exact rfl | apply And.intro))
 ·have hR:Yp y1=y2:=by unfold Yp;rw [if_neg h2,if_pos h3,hy2]
  have:Zp y1=[y1]:=by rw [hz 3 h3 (by decide),hR,if_pos (by omega)]
  simp only [Z6b,this]
  (repeat' (first | exact trivial | exact rfl | apply And.intro))
 ·have hR:Yp y1=y2:=by unfold Yp;rw [if_neg h2,if_pos h3,hy2]
  have:Zp y1=y2:=by rw [hz 3 h3 (by decide),hR,if_neg (by omega)]
  simp only [Z6b,this]
  (repeat' (first | exact trivial | exact rfl | apply And.intro))
 ·have hR:Yp y1=[]:=by unfold Yp;rw [if_neg h2,if_neg h3]
  have:Zp y1=[y1]:=by rw [JT,if_neg h0,hR,if_pos (by rfl)]
  simp only [Z6b,this]
  (repeat' (first | exact trivial | exact rfl | apply And.intro))
end Go.AM.Ytpjenobkibfpcaa
namespace Go.AM.Ytpjenobkibfpcaa
open Go.AM Go.Proofs
theorem Zyv:ZtF:=by
 intro N e _ hp hN
 simp only [Z8Y,Zc5] at hp hN
 obtain ⟨h3,hm,d,hr⟩:=hp
 have ra:=Zw hr
 have hops:=YF.1 ra.ops
 have hlen:=ra.len
 have hsA:=Yr e.ops 0 (fun x hx=> ZN (Yt (hops x hx))) (by omega) (by omega)
 have hsB:=YW e.ops 0 (fun x hx=> ZN (Yt (hops x hx))) (by omega) (by omega)
 have hA:Yj e.ops 0=Y3 e.ops:=by omega
 have hB:Jk e.ops 0=YO e.ops:=by omega
 have hmw:Z6 e=1+Zk e.old+Zk e.new+e.words.length+e.ops.length+Zi e.kids+Zc e.ops:=by cases e;rfl
 have hpl:=(Z3Z e.list e.ops 0 (Yj e.ops 0)).2
 have ee:Edit.mk e.kind (Tree.mk e.old.kind e.old.words e.old.kids) (Tree.mk e.new.kind e.new.words e.new.kids) e.words e.kids e.list e.ops=e:=by obtain ⟨k,⟨_,_,_⟩,⟨_,_,_⟩,w,ks,l,os⟩:=e;rfl
 have hW:Z1w e.ops 0=Yj e.ops 0:=Zh6 e.ops 0 (fun o ho=> ⟨Z5y (hops o ho),by
  have:=Z4V ho
  have:=ZlY o
  have:=ZD o.l
  omega⟩) (by omega) (by omega)
 refine ZwS _ _ _ ?_
 (simp only [vcT,vcS])
 rw [ee,hW]
 refine ⟨by show Z6 e≤20000000000;omega,?_⟩
 refine Zb (ι:=Int × Int × Int × List Edit) (fun j=> Z5V e j.1 j.2.1 j.2.2.1 e.kind e.old.kind e.old.words e.old.kids e.new.kind e.new.words e.new.kids e.words e.kids e.list e.ops j.2.2.2)
  (fun j=> (0≤j.1∧j.1≤e.ops.length)∧(0≤j.2.1∧j.2.1+YO (e.ops.drop j.1.toNat)=YO e.ops)∧j.2.2.1=Y3 (e.ops.drop j.1.toNat)∧j.2.2.1≤Y3 e.ops∧j.2.2.2++ZE e.list (e.ops.drop j.1.toNat) j.2.1 j.2.2.1=ZE e.list e.ops 0 (Yj e.ops 0))
  (fun j=> ((e.ops.length:Int) - j.1).toNat) (0,0,Yj e.ops 0,[]) rfl ⟨⟨by dsimp only;omega,by dsimp only;omega⟩,⟨by dsimp only;omega,by simp⟩,by simp [hA],by dsimp only;omega,by simp⟩ ?_
 rintro ⟨i,a,b,out⟩ ⟨⟨i1,i2⟩,⟨a1,a2⟩,b1,b2,o1⟩
 dsimp only at i1 i2 a1 a2 b1 b2 o1
 refine ZmY _ _ _ _ _ _ _ _ _ _ _ _ _ _ _ _ _ _ _ ?_
 rintro y1 hy1 y2 rfl y3 hy3
 (simp only [vcT,vcS])
 have ho1:=congrArg List.length o1
 rw [List.length_append] at ho1
 refine ⟨fun hi=> ⟨⟨i1,hi⟩,?_⟩,fun hi=> ?_⟩
 ·have hd:=Ys i1 hi Op.nil
  rw [←hy1] at hd
  have hm1:y2∈e.ops:=by rw [hy1];exact Zh (by omega) _
  have hro:=hops y2 hm1
  have hrest:∀ o∈e.ops.drop (i+1).toNat,Z7 e.list o (d - 1)=true:=fun o ho=> hops o (List.mem_of_mem_drop ho)
  have sA:=(Yr _ 0 (fun x hx=> ZN (Yt (hrest x hx))) (by omega) (by omega)).2
  have sB:=(YW _ 0 (fun x hx=> ZN (Yt (hrest x hx))) (by omega) (by omega)).2
  have hol:=ZN (Yt hro)
  rw [hd,YO] at a2
  rw [hd,Y3] at b1
  rw [hd,ZE,Z2j] at o1
  refine ⟨fun k0=> ?_,fun k0=> ⟨fun k1=> ?_,fun k1=> ⟨fun k2=> ?_,fun k2=> ?_⟩⟩⟩
  ·have ol:=Z7C (Yh hro) k0
   rw [if_neg (by omega),ol] at a2 b1
   rw [if_pos k0,if_neg (by omega),if_neg (by omega),ol,List.nil_append] at o1
   refine ⟨by unfold InR;omega,by unfold InR;omega,Z71 _ _ _ _ _ _ _ _ _ _ _ _ _ _ _ _ _ _ _ ⟨by unfold InR;omega,(i+1,a+y2.n,b - y2.n,out),rfl,⟨⟨by dsimp only;omega,by dsimp only;omega⟩,⟨by dsimp only;omega,by dsimp only;omega⟩,by dsimp only;omega,by dsimp only;omega,o1⟩,by dsimp only;omega⟩⟩
  ·have ol:=Yz (Yh hro) (.inl k1)
   rw [if_pos k1] at a2
   rw [if_neg (by omega),ol] at b1
   rw [if_neg k0,if_pos k1,if_pos k1,if_neg (by omega),ol] at o1
   refine ⟨⟨by dsimp only;omega,by dsimp only;omega,by dsimp only;omega⟩,by unfold InR;omega,Z71 _ _ _ _ _ _ _ _ _ _ _ _ _ _ _ _ _ _ _ ⟨by unfold InR;omega,(i+1,a,b - y2.l.length,out++[Z0O e.list a y2 (b - y2.l.length)]),rfl,⟨⟨by dsimp only;omega,by dsimp only;omega⟩,⟨by dsimp only;omega,by dsimp only;omega⟩,by dsimp only;omega,by dsimp only;omega,?_⟩,by dsimp only;omega⟩⟩
   rw [List.append_assoc];exact o1
  ·have ol:=Yz (Yh hro) (.inr k2)
   rw [if_neg (by omega),ol] at a2
   rw [if_pos k2] at b1
   rw [if_neg k0,if_neg k1,if_pos k2,if_neg (by omega),if_pos k2,ol] at o1
   refine ⟨⟨by dsimp only;omega,by dsimp only;omega,by dsimp only;omega⟩,by unfold InR;omega,Z71 _ _ _ _ _ _ _ _ _ _ _ _ _ _ _ _ _ _ _ ⟨by unfold InR;omega,(i+1,a+y2.l.length,b,out++[Z0O e.list a y2 (b - 0)]),rfl,⟨⟨by dsimp only;omega,by dsimp only;omega⟩,⟨by dsimp only;omega,by dsimp only;omega⟩,by dsimp only;omega,by dsimp only;omega,?_⟩,by dsimp only;omega⟩⟩
   rw [List.append_assoc];exact o1
  ·have k3:y2.kind=3:=by
    have:=Zx hro
    cases this <;> first | rfl | (exfalso;first | exact k0 rfl | exact k1 rfl | exact k2 rfl)
   have ol:Z0 y2=1:=by unfold Z0;rw [if_pos k3]
   rw [if_neg k1,ol] at a2
   rw [if_neg k2,ol] at b1
   rw [if_neg k0,if_neg k1,if_neg k2,if_neg k1,if_neg k2,ol,←hy3] at o1
   have hro3:Z4 y3 (d - 1)=true:=by rw [hy3];exact J0 hro k3
   have hm3:Z6 y3 < Z6 e:=by rw [hy3];exact JK hm1
   have ho2:=congrArg List.length o1
   simp only [List.length_append,List.length_map] at ho2
   refine ⟨⟨by dsimp only;omega,_,hro3⟩,by simp only [Zf5];omega,?_⟩
   refine Zb (ι:=Int × List Edit) (fun j=> Z5U e i a j.1 e.kind e.old.kind e.old.words e.old.kids e.new.kind e.new.words e.new.kids e.words e.kids e.list e.ops b j.2) (fun j=> (0≤j.1∧j.1≤(Zp y3).length)∧j.2++((Zp y3).drop j.1.toNat).map (fun x=> Z0O e.list a ⟨3,0,[],x⟩ (b - 1))=out++(Zp y3).map (fun x=> Z0O e.list a ⟨3,0,[],x⟩ (b - 1))) (fun j=> (((Zp y3).length:Int) - j.1).toNat) (0,out) rfl ⟨⟨by dsimp only;omega,by dsimp only;omega⟩,by simp⟩ ?_
   rintro ⟨j,o2⟩ ⟨⟨j1,j2⟩,j3⟩
   dsimp only at j1 j2 j3
   refine ZmX _ _ _ _ _ _ _ _ _ _ _ _ _ _ _ _ _ _ _ _ _ ?_
   rintro x1 hx1 x2 hx2 x3 hx3
   have ex:x2=y3:=by rw [hx2,hy3,hx1,hy1]
   subst ex
   (simp only [vcT,vcS])
   have hl3:=congrArg List.length j3
   simp only [List.length_append,List.length_map,List.length_drop] at hl3
   refine ⟨fun hj=> ⟨⟨j1,hj⟩,⟨by dsimp only;omega,by dsimp only;omega,by dsimp only;omega⟩,by unfold InR;omega,(j+1,o2++[Z0O e.list a ⟨3,0,[],x3⟩ (b - 1)]),rfl,⟨⟨by dsimp only;omega,by dsimp only;omega⟩,?_⟩,by dsimp only;omega⟩,fun hj=> ⟨by unfold InR;omega,by unfold InR;omega,Z71 _ _ _ _ _ _ _ _ _ _ _ _ _ _ _ _ _ _ _ ⟨by unfold InR;omega,(i+1,a+1,b - 1,o2),rfl,⟨⟨by dsimp only;omega,by dsimp only;omega⟩,⟨by dsimp only;omega,by dsimp only;omega⟩,by dsimp only;omega,by dsimp only;omega,?_⟩,by dsimp only;omega⟩⟩⟩
   ·rw [Ys j1 hj Edit.nil,List.map_cons,←hx3] at j3
    dsimp only
    rw [List.append_assoc];exact j3
   ·rw [List.drop_of_length_le (by omega),List.map_nil,List.append_nil] at j3
    dsimp only
    rw [j3,List.append_assoc];exact o1
 ·rw [List.drop_of_length_le (by omega),ZE,List.append_nil] at o1
  simp only [ZbC,←o1]
  (repeat' (first | exact trivial | exact rfl | apply And.intro))
theorem Zsb:Contract Try.prog cfg 87 Zb2∧Contract Try.prog cfg 119 Zjg:=Zil Zvb Zva b87 Zyv
end Go.AM.Ytpjenobkibfpcaa
namespace Go.AM.Ytpjenobkibfpcaa
open Go.AM Go.Proofs
theorem c50:Contract Try.prog cfg 50 Z4t:=by
 refine Zup Zfx.1 Zsb.1 ?_
 intro e _ hp
 simp only [Zgy] at hp
 obtain ⟨hm,d,hr⟩:=hp
 refine Zyb _ _ ?_
 rintro y1 rfl y2 hy2
 have:=Z5O y1
 refine ⟨⟨by dsimp only;omega,d,hr⟩,⟨by rw [hy2];dsimp only;omega,d,by rw [hy2];exact J1 _ _ hr⟩,?_⟩
 simp only [ZnE,hy2]
 (repeat' (first | exact trivial | exact rfl | apply And.intro))
theorem ZkH:∀ l:List Edit,l.length≤ctL l
 | []=> Nat.le_refl _
 | e ::r=> by have:=ZkH r;have:=Z9o e;simp only [ctL,List.length_cons];omega
theorem Zsa{p q:Edit}(hp:Z0N p)(hq:Z0N q)(h:(Z1J p q).2=true)(hs:ctE p+ctE q≤9000000000):Z0N (Z1J p q).1∧ctE (Z1J p q).1+18≤ctE p+ctE q:=by
 have F:=Ze9 hp hq
 unfold Z1J at h ⊢
 split at h
 ·rename_i hc
  rw [if_pos hc]
  have w:=F.wk hc
  have c:=F.ct trivial hc
  have n:=Z9n (Y2 p q).1
  dsimp only
  exact ⟨⟨by omega,Z1S _ _ w.r w.g,_,J1 _ _ w.r⟩,by omega⟩
 ·cases h
theorem c86:Contract Try.prog cfg 86 Zb3:=by
 refine Zu8 c21 Zfx.1 ?_
 intro l _ hp
 simp only [ZjQ] at hp
 obtain ⟨hx,hc⟩:=hp
 have hll:=ZkH l
 refine ZxQ _ _ ?_
 (simp only [vcT,vcS])
 refine Zb (ι:=Int × Edit) (fun j=> Z86 l j.1 j.2.kind j.2.old.kind j.2.new.kind j.2.list j.2.old.words j.2.old.kids j.2.new.words j.2.new.kids j.2.words j.2.kids j.2.ops) (fun j=> (0≤j.1∧j.1≤l.length)∧(Z0N j.2∧ctE j.2+ctL (l.drop j.1.toNat)≤8000000018)∧Z6i (l.drop j.1.toNat) j.2=Z6i l Edit.nil) (fun j=> ((l.length:Int) - j.1).toNat) (0,Edit.nil) rfl ⟨⟨by dsimp only;omega,by dsimp only;omega⟩,⟨ZnW,by
   have:ctE Edit.nil=18:=by simp [ctE,Z03,YA,Edit.nil,Tree.nil,Zk,Za]
   simp only [List.drop_zero,Int.toNat_zero];omega⟩,by simp⟩ ?_
 rintro ⟨i,x⟩ ⟨⟨i1,i2⟩,⟨x1,x2⟩,x3⟩
 dsimp only at i1 i2 x1 x2 x3
 refine Zqr _ _ _ _ _ _ _ _ _ _ _ _ _ _ _ ?_
 rintro y1 hy1 y2 hy2 y3 rfl
 dsimp only at hy2
 have e2:y2=x:=by rw [hy2];obtain ⟨k,⟨_,_,_⟩,⟨_,_,_⟩,w,ks,l,os⟩:=x;rfl
 subst e2
 (simp only [vcT,vcS])
 refine ⟨fun hi=> ?_,fun hi=> ?_⟩
 ·have hd:=Ys i1 hi Edit.nil
  rw [←hy1] at hd
  have hm:y3∈l:=by rw [hy1];exact Zh (by omega) _
  rw [hd,ctL] at x2
  rw [hd,Z6i] at x3
  refine ⟨⟨i1,hi⟩,⟨x1,hx _ hm⟩,fun hc=> ?_,fun hc=> ⟨by unfold InR;omega,(i+1,(Z1J y2 y3).1),rfl,⟨⟨by dsimp only;omega,by dsimp only;omega⟩,?_,?_⟩,by dsimp only;omega⟩⟩
  ·rw [if_neg (by rw [hc];decide)] at x3
   have:Z3p l=(Edit.nil,false):=by rw [Z3p,if_neg];rw [←x3];decide
   simp only [ZjD,this]
   (repeat' (first | exact trivial | exact rfl | apply And.intro))
  ·have:=Zsa x1 (hx _ hm) hc (by omega)
   exact ⟨this.1,by dsimp only;omega⟩
  ·rw [if_pos hc] at x3
   exact x3
 ·rw [List.drop_of_length_le (by omega),Z6i] at x3
  have hm:=Z8R x1
  refine ⟨⟨by dsimp only;omega,x1.2.2⟩,?_⟩
  have:Z3p l=(ZA y2,true):=by rw [Z3p,←x3];try rfl
  simp only [ZjD,this]
  (repeat' (first | exact trivial | exact rfl | apply And.intro))
theorem c85:Contract Try.prog cfg 85 Zb4:=by
 refine Zu9 ?_
 intro n _ hp
 refine ZxR _ _ ?_
 (simp only [vcT,vcS])
 simp only [Zny]
 (repeat' (first | exact trivial | exact rfl | apply And.intro))
def at1(n:Int):Tree:= .mk 10 [n] []
def sp0:Edit:= .mk 3 Tree.nil Tree.nil [] [] 4 [⟨1,0,[at1 1],Edit.nil⟩,⟨0,1,[],Edit.nil⟩,⟨2,0,[at1 2],Edit.nil⟩]
def sp1:Edit:= .mk 3 Tree.nil Tree.nil [] [] 4 [⟨1,0,[at1 1],Edit.nil⟩,⟨0,1,[],Edit.nil⟩]
def sp2:Edit:= .mk 3 Tree.nil Tree.nil [] [] 4 [⟨0,1,[],Edit.nil⟩,⟨2,0,[at1 2],Edit.nil⟩]
theorem Znm:Zp (ZA sp0)=[sp1,sp2]:=by kernel_rfl
theorem Zlm:Z4 sp0 64=true:=by kernel_rfl
theorem Zdk:Z4 sp1 64=true:=by kernel_rfl
theorem Zdj:Z4 sp2 64=true:=by kernel_rfl
theorem Zr1:Z1J Edit.nil sp1=(sp1,true):=by
 have hc:Y2 Edit.nil sp1=(sp1,true):=by
  unfold Y2
  rw [show Z6 Edit.nil+Z6 sp1=(Z6 sp1+2)+1 by rw [ZdW];omega,Zd3,Ju,if_pos (by rfl)]
 unfold Z1J
 rw [hc,if_pos rfl]
 have:ZA sp1=sp1:=by kernel_rfl
 dsimp only
 rw [this]
theorem Zr0:Z1J sp1 sp2=(sp0,true):=by
 have hp:ZX 1 2 sp1.ops sp2.ops []=([⟨1,⟨1,0,[at1 1],Edit.nil⟩,Op.nil⟩,⟨0,⟨0,1,[],Edit.nil⟩,⟨0,1,[],Edit.nil⟩⟩,⟨2,Op.nil,⟨2,0,[at1 2],Edit.nil⟩⟩],true,[],[]):=by
  rw [show sp1.ops=[⟨1,0,[at1 1],Edit.nil⟩,⟨0,1,[],Edit.nil⟩] from rfl,show sp2.ops=[⟨0,1,[],Edit.nil⟩,⟨2,0,[at1 2],Edit.nil⟩] from rfl]
  rw [ZX,dif_pos (by simp [sgl])]
  simp only [List.drop_succ_cons,List.drop_zero,List.nil_append,List.getD_cons_zero]
  rw [ZX,dif_neg (by simp [sgl]),dif_neg (by simp [sgl]),dif_neg (by simp)]
  simp [ZH,ZV,Z0]
  rw [ZX,dif_neg (by simp [sgl]),dif_pos (by simp [sgl])]
  simp only [List.drop_succ_cons,List.drop_zero,List.getD_cons_zero]
  rw [ZX,dif_neg (by simp [sgl]),dif_neg (by simp [sgl]),dif_pos (by simp)]
  simp
 have hc:Y2 sp1 sp2=(sp0,true):=by
  rw [Zeb Zdk Zdj]
  have hco:Z1y Y2 sp1.ops sp2.ops=some sp0.ops:=by
   unfold Z1y
   rw [hp,if_pos rfl]
   rw [Z0J,show YZ Y2 ⟨1,⟨1,0,[at1 1],Edit.nil⟩,Op.nil⟩=⟨⟨1,0,[at1 1],Edit.nil⟩,true,true⟩ by unfold YZ;rw [if_pos (by simp)],if_pos rfl,Z0J,
    show YZ Y2 ⟨0,⟨0,1,[],Edit.nil⟩,⟨0,1,[],Edit.nil⟩⟩=⟨⟨0,1,[],Edit.nil⟩,true,true⟩ by unfold YZ;rw [if_pos (by simp)],if_pos rfl,Z0J,
    show YZ Y2 ⟨2,Op.nil,⟨2,0,[at1 2],Edit.nil⟩⟩=⟨⟨2,0,[at1 2],Edit.nil⟩,true,true⟩ by unfold YZ;rw [if_neg (by simp),if_pos (by simp)],if_pos rfl,Z0J]
   try rfl
  unfold Ju
  rw [if_neg (show ¬sp1.kind=0 by decide),if_neg (show ¬sp2.kind=0 by decide),if_neg (show ¬sp1.kind=1 by decide),if_neg (show ¬sp2.kind=1 by decide),if_neg (show ¬(sp1.kind≠sp2.kind∨sp1.list≠sp2.list) by decide),if_neg (show ¬sp1.kind=2 by decide),hco]
  try rfl
 unfold Z1J
 rw [hc,if_pos rfl]
 have:ZA sp0=sp0:=by kernel_rfl
 dsimp only
 rw [this]
theorem ZqZ:Z3p [sp1,sp2]=(sp0,true):=by
 rw [Z3p,Z6i,Zr1,if_pos rfl,Z6i,Zr0,if_pos rfl,Z6i,if_pos rfl]
 have:ZA sp0=sp0:=by kernel_rfl
 dsimp only
 rw [this]
theorem Znl(l:List Op)(h:∀ o∈l,Yb o):Ym (.mk 3 Tree.nil Tree.nil [] [] 4 l):=⟨by unfold isI;omega,Z0v,Z0v,by simp,by unfold isI;omega,trivial,Z8N h⟩
theorem ZtQ:Yb ⟨1,0,[at1 1],Edit.nil⟩∧Yb ⟨0,1,[],Edit.nil⟩∧Yb ⟨2,0,[at1 2],Edit.nil⟩:=by
 have ha:∀ n:Int,n=1∨n=2→rng (at1 n):=fun n h=> ⟨by decide,by intro x hx;rw [List.mem_singleton.1 hx];omega,trivial⟩
 exact ⟨⟨by unfold isI;omega,by unfold isI;omega,⟨ha 1 (.inl rfl),trivial⟩,Z7o⟩,⟨by unfold isI;omega,by unfold isI;omega,trivial,Z7o⟩,⟨by unfold isI;omega,by unfold isI;omega,⟨ha 2 (.inr rfl),trivial⟩,Z7o⟩⟩
theorem ZsV:Z0N sp1∧Z0N sp2:=by
 obtain ⟨h1,h2,h3⟩:=ZtQ
 refine ⟨⟨?_,Znl _ (by simp only [List.mem_cons,List.not_mem_nil,or_false];rintro o (rfl | rfl);exact h1;exact h2),64,Zdk⟩,?_,Znl _ (by simp only [List.mem_cons,List.not_mem_nil,or_false];rintro o (rfl | rfl);exact h2;exact h3),64,Zdj⟩
 ·show ctE sp1≤9000000000;simp [sp1,at1,ctE,Z03,YA,Z1u,Zk,Za,Tree.nil,Edit.nil]
 ·show ctE sp2≤9000000000;simp [sp2,at1,ctE,Z03,YA,Z1u,Zk,Za,Tree.nil,Edit.nil]
theorem c49:Contract Try.prog cfg 49 Zbd:=by
 refine Zuq c50 c85 c86 ?_
 intro _ _
 refine Zyc _ ?_
 rintro y1 h1 y2 h2 y3 h3 y4 h4 y5 h5
 have e1:y1=Edit.nil:=h1
 subst e1
 have e2:y2=sp0:=h2
 subst e2
 simp only [Znm] at h3 h4 ⊢
 have e3:y3=sp1:=h3
 have e4:y4=sp2:=h4
 subst e3 e4
 have e5:y5=⟨0,1,[],Edit.nil⟩:=h5
 subst e5
 simp only [ZqZ]
 (simp only [vcT,vcS])
 refine ⟨trivial,trivial,⟨?_,64,Zlm⟩,⟨?_,?_⟩,fun _=> ⟨by decide,by simp⟩,fun _=> ⟨by decide,by simp⟩,fun _=> ⟨by decide,by simp [sp2]⟩,fun _=> ⟨by decide,by simp [sp0]⟩,Zl rfl ?_⟩
 ·show Z6 sp0≤1000000
  rw [show Z6 sp0=19 by kernel_rfl];decide
 ·intro x hx
  simp only [List.mem_cons,List.not_mem_nil,or_false] at hx
  rcases hx with rfl | rfl
  ·exact ZsV.1
  ·exact ZsV.2
 ·show ctL [sp1,sp2]≤8000000000
  simp [ctL,sp1,sp2,at1,ctE,Z03,YA,Z1u,Zk,Za,Tree.nil,Edit.nil]
 ·kernel_rfl
theorem c48:Contract Try.prog cfg 48 Zbe:=by
 refine Zur c36 c37 ?_
 intro t _ hp
 simp only [ZgA] at hp
 refine Zyd _ _ ?_
 (simp only [Tree.eta,Edit.eta,Tree.kind_mk,Tree.words_mk,Tree.kids_mk])
 (simp only [vcT,vcS])
 refine ⟨by simp only [ZjU];exact hp.1,fun h=> by simp only [Z4k];exact ⟨Nat.le_trans (Ze4 h) (by decide),hp.2,by omega,by omega⟩,Zl rfl ?_⟩
 unfold Z8s
 rw [Bool.eq_iff_iff]
 simp only [ZiT,Bool.and_eq_true,decide_eq_true_eq,bne_iff_ne]
end Go.AM.Ytpjenobkibfpcaa
namespace Go.AM.Ytpjenobkibfpcaa
open Go.AM Go.Proofs
theorem Znn{o:Option Tree}(h:o.isSome=true):∃ v,o=some v:=by cases o with | none=> cases h | some v=> exact ⟨v,rfl⟩
theorem c12:Contract Try.prog cfg 12 Zev:=by
 refine ZuB c15 c26 c29 c45 c47 c48 c49 c50 ?_
 intro e t _ hp
 simp only [ZjW] at hp
 obtain ⟨⟨he,hre⟩,ht,hr⟩:=hp
 refine Zyo _ _ _ ?_
 rintro y1 rfl y2 rfl
 (simp only [vcT,vcS])
 refine ⟨⟨he,hre⟩,fun hg=> ?_,fun _=> ⟨ht,hr⟩,fun _=> ⟨trivial,by simp only [ZdE];(repeat' (first | exact trivial | exact rfl | apply And.intro))⟩,fun hg=> ?_⟩
 ·have:=(Zhe hg hre).2.1
  show Z6 y1≤_
  exact Nat.le_trans this (by decide)
 obtain ⟨⟨g1,g2⟩,g3⟩:=hg
 obtain ⟨_,rt,r64,_⟩:=Zpj g3 hr
 have hm:=Zti g3
 have P:=Zo9 (t:=y2) g1 hre (by omega) hr
 obtain ⟨_,gm,gr⟩:=Zhe g1 hre
 have gl:Yq y1=true:=by simp only [Z06,Bool.and_eq_true] at g1;exact g1.2
 have gr':=J1 y1 64 gr
 have gl':=Z43 _ y1 64 (Nat.le_refl _) gr gl
 have gn':=Z1S _ 64 gr hre
 have gm':=Z5O y1
 have hpm:=Z2M (ZA y1)
 have hpr:=Z2K _ (ZA y1) 64 (Nat.le_refl _) gr' gl'
 have hpg:=Z90 _ (ZA y1) 64 (Nat.le_refl _) gr' gn'
 have hseq:=ZlI gr gl rt
 have hnm:=Yi y2
 refine ⟨⟨by dsimp only;omega,64,gr⟩,P,by show Zk y2≤_;omega,?_⟩
 refine Zb (ι:=Bool × Int × Tree) (fun j=> Z8q y1 y2 j.1 j.2.1 j.2.2.kind j.2.2.words j.2.2.kids)
  (fun j=> (0≤j.2.1∧j.2.1≤(Zp (ZA y1)).length)∧(Zk j.2.2≤1000000000000∧rng j.2.2)∧(j.1=true→ZhM ((Zp (ZA y1)).drop j.2.1.toNat) j.2.2=(doE false y1 y2).map Z3)∧(j.1=false→(doE false y1 y2).map Z3=none))
  (fun j=> (((Zp (ZA y1)).length:Int) - j.2.1).toNat) (true,0,Z3 y2) rfl ⟨⟨by dsimp only;omega,by dsimp only;omega⟩,⟨by dsimp only;omega,JB _ hr⟩,fun _=> hseq,fun h=> by cases h⟩ ?_
 rintro ⟨b,i,v⟩ ⟨⟨i1,i2⟩,⟨v1,v2⟩,s1,s2⟩
 dsimp only at i1 i2 v1 v2 s1 s2
 refine ZqT _ _ _ _ _ _ _ _ _ ?_
 rintro z1 rfl z2 rfl z3 hz3 z4 hz4 z5 rfl z6 hz6
 have ev:Tree.mk v.kind v.words v.kids=v:=by cases v;rfl
 dsimp only at hz4 hz6
 dsimp only
 rw [ev] at hz6 ⊢
 (simp only [vcT,vcS])
 refine ⟨fun hc=> ⟨⟨Z6a _ (by dsimp only;omega),v2⟩,fun _=> ⟨trivial,by simp only [ZdE];(repeat' (first | exact trivial | exact rfl | apply And.intro))⟩,fun hgv=> ?_⟩,fun hc=> ?_⟩
 ·obtain ⟨hi,rfl⟩:=hc
  have hd:=Ys i1 hi Edit.nil
  rw [←hz4] at hd
  have hmem:z5∈Zp (ZA z1):=by rw [hz4];exact Zh (by omega) _
  have mv:=Zti hgv
  have mp:=hpm.1 z5 hmem
  have rp:=(hpr z5 hmem).right
  have hct:=ZaI z5
  have q1:=s1 rfl
  rw [hd,ZhM] at q1
  refine ⟨⟨i1,hi⟩,⟨⟨by dsimp only;omega,hpg z5 hmem,64,rp⟩,by dsimp only;omega,v2⟩,by unfold InR;omega,((doE false z5 v).isSome,i+1,z6),rfl,⟨⟨by dsimp only;omega,by dsimp only;omega⟩,⟨?_,?_⟩,fun hs=> ?_,fun hs=> ?_⟩,by dsimp only;omega⟩
  ·dsimp only
   rw [hz6]
   exact Zcb ⟨64,rp⟩ (by omega)
  ·dsimp only
   rw [hz6]
   cases hx:doE false z5 v with
   | none=> exact Z0v
   | some u=> exact JB _ (Z6t false _ _ _ (hpg z5 hmem) v2 hx)
  ·obtain ⟨u,hu⟩:=Znn hs
   rw [hu] at q1 hz6
   dsimp only
   rw [hz6]
   exact q1
  ·have hu:doE false z5 v=none:=by
    cases hx:doE false z5 v with
    | none=> rfl
    | some u=> rw [hx] at hs;cases hs
   rw [hu] at q1
   exact q1.symm
 ·have hfin:(b=true→(doE false z1 z2).map Z3=some v)∧(b=false→(doE false z1 z2).map Z3=none):=by
   refine ⟨fun hb=> ?_,s2⟩
   have h0:¬i < (Zp (ZA z1)).length:=by
    rcases hc with hc | hc
    ·exact hc
    ·rw [hb] at hc;cases hc
   have:=s1 hb
   rw [List.drop_of_length_le (by omega),ZhM] at this
   exact this.symm
  have hb:(doE false z1 z2).isSome=b:=by
   cases b with
   | true=> have:=hfin.1 rfl;cases hx:doE false z1 z2 with
    | none=> rw [hx] at this;cases this
    | some u=> rfl
   | false=> have:=hfin.2 rfl;cases hx:doE false z1 z2 with
    | none=> rfl
    | some u=> rw [hx] at this;cases this
  have h3:b=true→z3=v:=by
   intro hbt
   rw [hz3,hfin.1 hbt];try rfl
  rw [hb]
  refine ⟨fun _=> by show Zk z3≤_;rw [hz3];exact Zcb ⟨64,gr⟩ P.2.1,fun a b=> ⟨a,b⟩,fun _=> trivial,?_⟩
  cases b with
  | false=> simp only [ZdE];(repeat' (first | exact trivial | exact rfl | apply And.intro))
  | true=>
   rw [h3 rfl,ZhN]
   simp only [ZdE]
   (repeat' (first | exact trivial | exact rfl | apply And.intro))
end Go.AM.Ytpjenobkibfpcaa
