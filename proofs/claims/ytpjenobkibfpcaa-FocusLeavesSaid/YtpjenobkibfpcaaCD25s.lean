import Derived.Test.YtpjenobkibfpcaaKL22m
set_option linter.unusedSimpArgs false
set_option linter.unusedVariables false
namespace Go.AM.Ytpjenobkibfpcaa
open Go.AM Go.Proofs
theorem Z2t(e:Edit):(Zz e).kind=e.kind:=by
 rw [Z3d]
 split
 ·try rfl
 ·split
  ·try rfl
  ·split <;> rfl
theorem ZeE(e:Edit)(h:e.kind=1):(Zz e).old=Z6 e.old∧(Zz e).new=Z6 e.new:=by
 rw [Z3d,if_pos h]
 exact ⟨rfl,rfl⟩
theorem ZfT{D list:Int}{t:Tree}(hD:D≠0)(h:Z9 (.mk list [] [t]) D=true):Z9 (.mk list [] [Z6 t]) D=true:=by
 have key:=fun (k d:Int) (h:ZT k [t] d=true)=> Z3P [t] k d h
 simp only [ZV] at key
 simp only [Z9] at h ⊢
 split at h
 ·simp at h
 ·rename_i h0
  rw [if_neg h0]
  split at h
  ·simp at h
  ·rename_i h1
   rw [if_neg h1]
   try rw [if_neg hD] at h
   try rw [if_neg hD]
   split at h
   ·rename_i h2
    rw [if_pos h2]
    simp only [Bool.and_eq_true] at h ⊢
    exact ⟨h.1,key _ _ h.2⟩
   ·rename_i h2
    rw [if_neg h2]
    simp only [Bool.and_eq_true] at h ⊢
    exact ⟨h.1,key _ _ h.2⟩
theorem Z26{D list:Int}(hD:D≠0):∀ {l:List Tree},YB D list l=true→YB D list (Z5 l)=true
 | [],_=> rfl
 | t ::r,h=> by
  simp only [YB,Bool.and_eq_true] at h
  have h2:=Z26 hD h.2
  simp only [Z5] at h2
  simp only [Z5,List.map_cons,YB,Bool.and_eq_true]
  exact ⟨ZfT hD h.1,h2⟩
theorem Z3A{D list:Int}:∀ {a b:List Tree},YB D list a=true→YB D list b=true→YB D list (a++b)=true
 | [],_,_,h=> h
 | t ::r,b,h,h2=> by
  simp only [YB,Bool.and_eq_true] at h
  simp only [List.cons_append,YB,Bool.and_eq_true]
  exact ⟨h.1,Z3A h.2 h2⟩
def rOp(list:Int)(d:Int)(o:Op):Prop:=(o.kind=0→1≤o.n∧o.l.length=0∧Z00 o.e=true)∧(o.kind≠0→Zf list o d=true)
theorem Zma{list d:Int}{o:Op}(h:Zf list o d=true):rOp list d o:=by
 refine ⟨fun hk=> ?_,fun _=> h⟩
 obtain ⟨k,n,l,e⟩:=o
 simp only at hk
 subst hk
 simp only [Zf,if_true,Bool.and_eq_true,decide_eq_true_eq] at h
 exact ⟨h.1.1,h.1.2.2,h.2⟩
theorem Zs4{list d:Int}{o:Op}(h:rOp list d o)(hn:o.kind=0→o.n≤1048576):Zf list o d=true:=by
 by_cases hk:o.kind=0
 ·have h1:=h.1 hk
  have h2:=hn hk
  obtain ⟨k,n,l,e⟩:=o
  simp only at hk h1 h2
  subst hk
  simp only [Zf,if_true,Bool.and_eq_true,decide_eq_true_eq]
  exact ⟨⟨h1.1,h2,h1.2.1⟩,h1.2.2⟩
 ·exact h.2 hk
theorem Z3N{list:Int}:∀ {os:List Op} {d:Int},ZB list os d=true↔∀ o∈os,Zf list o d=true
 | [],d=> by simp [ZB]
 | o ::r,d=> by
  simp only [ZB,Bool.and_eq_true,List.mem_cons,forall_eq_or_imp]
  rw [Z3N (os:=r)]
theorem Z5q:Z00 Edit.nil=true:=rfl
structure OkW (list d:Int) (w:Wst):Prop where
 out:∀ o∈w.out,rOp list d o
 gone:YB (dT d) list w.gone=true
 brought:YB (dT d) list w.brought=true
theorem Z7K{list d:Int}{w:Wst}(h:OkW list d w):OkW list d (Z1 w):=by
 refine ⟨?_,rfl,rfl⟩
 simp only [Z1,YD]
 intro o ho
 rcases List.mem_append.1 ho with ho | ho
 ·exact h.out o ho
 rcases List.mem_append.1 ho with ho | ho
 ·split at ho
  ·cases ho
  ·rename_i hl
   simp only [List.mem_singleton] at ho
   subst ho
   refine ⟨fun hk=> (by cases hk),fun _=> ?_⟩
   simp only [Zf]
   rw [if_neg (by decide),if_neg (by decide),if_pos (by decide),h.gone,Z5q]
   simp only [Bool.and_true,Bool.true_and,decide_eq_true_eq]
   omega
 ·split at ho
  ·cases ho
  ·rename_i hl
   simp only [List.mem_singleton] at ho
   subst ho
   refine ⟨fun hk=> (by cases hk),fun _=> ?_⟩
   simp only [Zf]
   rw [if_neg (by decide),if_neg (by decide),if_pos (by decide),h.brought,Z5q]
   simp only [Bool.and_true,Bool.true_and,decide_eq_true_eq]
   omega
theorem ZeA{list d:Int}{w:Wst}{n:Int}(h:OkW list d w)(hn:1≤n):OkW list d (Zy w n):=by
 have hf:=Z7K h
 refine ⟨?_,rfl,rfl⟩
 simp only [Zy]
 intro o ho
 rcases YJ (Z1 w).out n with e | ⟨a,q,e1,e2,e3⟩
 ·rw [e] at ho
  rcases List.mem_append.1 ho with ho | ho
  ·exact hf.out o ho
  ·simp only [List.mem_singleton] at ho
   subst ho
   exact ⟨fun _=> ⟨hn,rfl,Z5q⟩,fun hk=> absurd rfl hk⟩
 ·rw [e3] at ho
  rcases List.mem_append.1 ho with ho | ho
  ·exact hf.out o (by rw [e1];exact List.mem_append.2 (Or.inl ho))
  ·simp only [List.mem_singleton] at ho
   subst ho
   have hq:=(hf.out q (by rw [e1];simp)).1 e2
   exact ⟨fun _=> ⟨by simp only;omega,hq.2⟩,fun hk=> absurd e2 hk⟩
theorem Zsb{list d:Int}{w:Wst}{o:Op}(h:OkW list d w)(hr:Zf list o d=true)(hi:Z4 o.e d=true→Z4 (Zz o.e) d=true):OkW list d (JD list o w):=by
 obtain ⟨k,n,l,e⟩:=o
 have hr0:=hr
 rw [Zf] at hr
 rw [Yq]
 simp only at hi ⊢
 split at hr
 ·rename_i hk
  rw [if_pos hk]
  simp only [Bool.and_eq_true,decide_eq_true_eq] at hr
  exact ZeA h hr.1.1
 ·rename_i hk
  rw [if_neg hk]
  split at hr
  ·cases hr
  ·rename_i hn
   split at hr
   ·rename_i h3
    simp only [Bool.and_eq_true,decide_eq_true_eq] at hr
    by_cases k1:k=1
    ·rw [if_pos k1]
     exact ⟨h.out,Z3A h.gone (Z26 (ZrB d) hr.1.1),h.brought⟩
    ·rw [if_neg k1,if_pos (by omega)]
     exact ⟨h.out,h.gone,Z3A h.brought (Z26 (ZrB d) hr.1.1)⟩
   ·rename_i h3
    rw [if_neg (by omega),if_neg (by omega),if_pos (by omega)]
    split
    ·exact ZeA h (by decide)
    ·have hf:=Z7K h
     refine ⟨?_,rfl,rfl⟩
     intro o ho
     rcases List.mem_append.1 ho with ho | ho
     ·exact hf.out o ho
     ·simp only [List.mem_singleton] at ho
      subst ho
      refine ⟨fun hk=> (by cases hk),fun _=> ?_⟩
      simp only [Bool.and_eq_true,decide_eq_true_eq] at hr
      simp only [Zf]
      rw [if_neg (by decide),if_neg (by decide),if_neg (by decide),Z2t,hi hr.1.2]
      simp only [Bool.and_true,Bool.and_eq_true,decide_eq_true_eq]
      refine ⟨⟨rfl,hr.1.1.2⟩,?_⟩
      rcases hr.2 with h | h | h
      ·exact Or.inl h
      ·exact Or.inr (Or.inl h)
      ·rw [(ZeE e h.1).1,(ZeE e h.1).2,Z2z,Z2z]
       exact Or.inr (Or.inr h)
def YQ:List Op→Int
 | []=> 0
 | o ::r=> (if o.kind=2 then 0 else Zr o)+YQ r
def YW:List Op→Int
 | []=> 0
 | o ::r=> (if o.kind=1 then 0 else Zr o)+YW r
theorem Z2i:∀ (a b:List Op),YQ (a++b)=YQ a+YQ b
 | [],b=> by simp [YQ]
 | o ::r,b=> by simp only [List.cons_append,YQ,Z2i r b];omega
theorem Z2h:∀ (a b:List Op),YW (a++b)=YW a+YW b
 | [],b=> by simp [YW]
 | o ::r,b=> by simp only [List.cons_append,YW,Z2h r b];omega
theorem Z49:∀ (l:List Op) (n:Int),(∀ o∈l,0≤Zr o)→0≤n→n≤1048576→JY l n=min (n+YQ l) 1048576∧0≤YQ l
 | [],n,_,h1,h2=> by simp only [JY,YQ];omega
 | o ::r,n,h,h1,h2=> by
  have ho:=h o (List.mem_cons_self ..)
  simp only [JY,YQ]
  have hx:0≤(if o.kind=2 then n else n+Zr o)∧(if o.kind=2 then n else n+Zr o)=n+(if o.kind=2 then 0 else Zr o):=by split <;> omega
  have hy:0≤(if o.kind=2 then 0 else Zr o):=by split <;> omega
  rw [hx.2]
  rw [hx.2] at hx
  generalize (if o.kind=2 then 0 else Zr o)=y at*
  obtain ⟨e1,e2⟩:=Z49 r (min (n+y) 1048576) (fun x hx=> h x (List.mem_cons_of_mem _ hx)) (by omega) (by omega)
  rw [e1]
  omega
theorem Z48:∀ (l:List Op) (n:Int),(∀ o∈l,0≤Zr o)→0≤n→n≤1048576→JX l n=min (n+YW l) 1048576∧0≤YW l
 | [],n,_,h1,h2=> by simp only [JX,YW];omega
 | o ::r,n,h,h1,h2=> by
  have ho:=h o (List.mem_cons_self ..)
  simp only [JX,YW]
  have hx:0≤(if o.kind=1 then n else n+Zr o)∧(if o.kind=1 then n else n+Zr o)=n+(if o.kind=1 then 0 else Zr o):=by split <;> omega
  have hy:0≤(if o.kind=1 then 0 else Zr o):=by split <;> omega
  rw [hx.2]
  rw [hx.2] at hx
  generalize (if o.kind=1 then 0 else Zr o)=y at*
  obtain ⟨e1,e2⟩:=Z48 r (min (n+y) 1048576) (fun x hx=> h x (List.mem_cons_of_mem _ hx)) (by omega) (by omega)
  rw [e1]
  omega
theorem Z6i{list d:Int}{o:Op}(h:rOp list d o):0≤Zr o:=by
 unfold Zr
 split
 ·decide
 ·by_cases hk:o.kind=0
  ·have:=(h.1 hk).1;omega
  ·have hr:=h.2 hk
   obtain ⟨k,n,l,e⟩:=o
   simp only at hk ⊢
   rw [Zf,if_neg hk] at hr
   split at hr
   ·cases hr
   ·omega
theorem ZdT:∀ {l:List Op} {o:Op},(∀ o∈l,0≤Zr o)→o∈l→o.kind≠2→Zr o≤YQ l
 | a ::r,o,h,ho,hk=> by
  have hr:=(Z49 r 0 (fun x hx=> h x (List.mem_cons_of_mem _ hx)) (by decide) (by decide)).2
  have ha:=h a (List.mem_cons_self ..)
  simp only [YQ]
  rcases List.mem_cons.1 ho with rfl | ho
  ·rw [if_neg hk];omega
  ·have:=ZdT (fun x hx=> h x (List.mem_cons_of_mem _ hx)) ho hk
   split <;> omega
def sA(w:Wst):Int:=YQ w.out+w.gone.length
def sB(w:Wst):Int:=YW w.out+w.brought.length
theorem Z7p(w:Wst):YQ (Z1 w).out=sA w∧YW (Z1 w).out=sB w:=by
 simp only [Z1,YD,sA,sB,Z2i,Z2h]
 constructor
 ·by_cases hg:w.gone.length=0
  ·rw [if_pos hg]
   by_cases hb:w.brought.length=0
   ·rw [if_pos hb];simp [YQ];omega
   ·rw [if_neg hb];simp [YQ];omega
  ·rw [if_neg hg]
   by_cases hb:w.brought.length=0
   ·rw [if_pos hb];simp [YQ,Zr]
   ·rw [if_neg hb];simp [YQ,Zr]
 ·by_cases hg:w.gone.length=0
  ·rw [if_pos hg]
   by_cases hb:w.brought.length=0
   ·rw [if_pos hb];simp [YW];omega
   ·rw [if_neg hb];simp [YW,Zr]
  ·rw [if_neg hg]
   by_cases hb:w.brought.length=0
   ·rw [if_pos hb];simp [YW];omega
   ·rw [if_neg hb];simp [YW,Zr]
theorem ZdS(w:Wst)(n:Int):sA (Zy w n)=sA w+n∧sB (Zy w n)=sB w+n:=by
 have hf:=Z7p w
 simp only [Zy]
 have e1:∀ x,sA ⟨x,[],[]⟩=YQ x:=fun x=> by simp [sA]
 have e2:∀ x,sB ⟨x,[],[]⟩=YW x:=fun x=> by simp [sB]
 rw [e1,e2,←hf.1,←hf.2]
 rcases YJ (Z1 w).out n with e | ⟨a,q,e1,e2,e3⟩
 ·rw [e,Z2i,Z2h]
  simp [YQ,YW,Zr]
 ·rw [e3,e1,Z2i,Z2h,Z2i,Z2h]
  simp only [YQ,YW,Zr,e2]
  simp
  omega
theorem ZrV{list d:Int}{w:Wst}{o:Op}(hr:Zf list o d=true):sA (JD list o w)=sA w+(if o.kind=2 then 0 else Zr o)∧sB (JD list o w)=sB w+(if o.kind=1 then 0 else Zr o):=by
 have hl:∀ l,((Z5 l).length:Int)=l.length:=fun l=> by simp [Z5]
 obtain ⟨k,n,l,e⟩:=o
 rw [Zf] at hr
 rw [Yq]
 simp only [Zr]
 split at hr
 ·rename_i hk
  subst hk
  rw [if_pos rfl]
  simp only [Bool.and_eq_true,decide_eq_true_eq] at hr
  have:=ZdS w n
  simp
  omega
 ·rename_i hk
  rw [if_neg hk]
  split at hr
  ·cases hr
  ·rename_i hn
   split at hr
   ·rename_i h3
    by_cases k1:k=1
    ·subst k1
     rw [if_pos rfl]
     simp only [sA,sB,List.length_append]
     simp [hl]
     omega
    ·have k2:k=2:=by omega
     subst k2
     rw [if_neg k1,if_pos rfl]
     simp only [sA,sB,List.length_append]
     simp [hl]
     omega
   ·rename_i h3
    have k3:k=3:=by omega
    subst k3
    rw [if_neg (by omega),if_neg (by omega),if_pos rfl]
    split
    ·have:=ZdS w 1
     simp
     omega
    ·have:=Z7p w
     simp only [sA,sB,Z2i,Z2h,YQ,YW,Zr] at this ⊢
     simp
     omega
mutual
theorem Z1r:∀ (e:Edit) (d:Int),Z4 e d=true→Z4 (Zz e) d=true
 | .mk k o n w ks l os,d,h=> by
  have h1:=Z8m ks
  have h2:=Zi6 l os
  have h4:=Zhp l os
  rw [Z4] at h
  split at h
  ·cases h
  ·rename_i a
   split at h
   ·cases h
   ·rename_i b
    have nn:ZM Tree.nil=true:=rfl
    by_cases k1:k=1
    ·subst k1
     rw [if_pos rfl] at h
     have hl:l=0:=by
      apply Classical.byContradiction
      intro hl
      exact b (.inr (.inr ⟨by decide,.inl hl⟩))
     simp only [Bool.and_eq_true,decide_eq_true_eq] at h
     rw [Zz,if_pos rfl,Z4,if_neg a,if_neg (by simp [hl]),if_pos rfl]
     simp only [Bool.and_eq_true,decide_eq_true_eq]
     rw [Z2z,Z2z]
     exact ⟨⟨Z1V _ _ h.1.1,Z1V _ _ h.1.2⟩,h.2⟩
    ·rw [if_neg k1] at h
     simp only [Bool.and_eq_true,decide_eq_true_eq] at h
     obtain ⟨⟨⟨⟨x1,x2⟩,x3⟩,x4⟩,x5⟩:=h
     rw [Zz,if_neg k1]
     by_cases k2:k=2
     ·have hl:l=0:=by
       apply Classical.byContradiction
       intro hl
       exact b (.inr (.inr ⟨by omega,.inl hl⟩))
      rw [if_pos k2,Z4,if_neg a,if_neg (by simp [nn,hl,k2]),if_neg k1]
      simp only [Bool.and_eq_true,decide_eq_true_eq]
      exact ⟨⟨⟨⟨x1,h1 _ _ x2⟩,x3⟩,rfl⟩,by decide⟩
     ·rw [if_neg k2]
      by_cases k3:k=3
      ·rw [if_pos k3,Z4,if_neg a,if_neg (by simp [nn,k3]),if_neg k1]
       simp only [Bool.and_eq_true,decide_eq_true_eq]
       have hall:=Z3N.1 x4
       obtain ⟨y1,y2⟩:=Z49 os 0 (fun o ho=> Z6i (Zma (hall o ho))) (by decide) (by decide)
       obtain ⟨z1,z2⟩:=Z48 os 0 (fun o ho=> Z6i (Zma (hall o ho))) (by decide) (by decide)
       have hw:=h2 (d - 1) W0 x4 ⟨fun o ho=> (by cases ho),rfl,rfl⟩
       have hs:=h4 (d - 1) W0 x4
       have hff:=Z7K hw
       have hsf:=Z7p (Zo l os W0)
       have e0:sA W0=0∧sB W0=0:=⟨rfl,rfl⟩
       have hA:=Z49 (Z1 (Zo l os W0)).out 0 (fun o ho=> Z6i (hff.out o ho)) (by decide) (by decide)
       have hB:=Z48 (Z1 (Zo l os W0)).out 0 (fun o ho=> Z6i (hff.out o ho)) (by decide) (by decide)
       refine ⟨⟨⟨⟨rfl,rfl⟩,x3⟩,Z3N.2 (fun o ho=> Zs4 (hff.out o ho) (fun hk=> ?_))⟩,?_,?_⟩
       ·have hm:=ZdT (fun o ho=> Z6i (hff.out o ho)) ho (by omega)
        unfold Zr at hm
        rw [if_neg (by omega)] at hm
        omega
       ·show JY (Z1 (Zo l os W0)).out 0 < 1048576
        omega
       ·show JX (Z1 (Zo l os W0)).out 0 < 1048576
        omega
      ·have hl:l=0:=by
        apply Classical.byContradiction
        intro hl
        exact b (.inr (.inr ⟨k3,.inl hl⟩))
       rw [if_neg k3,Z4,if_neg a,if_neg (by simp [nn,hl]),if_neg k1]
       simp only [Bool.and_eq_true,decide_eq_true_eq]
       exact ⟨⟨⟨⟨rfl,rfl⟩,x3⟩,rfl⟩,by decide⟩
theorem Z8m:∀ (ks:List (KidOf Edit)) (last d:Int),ZE last ks d=true→ZE last (Yj ks) d=true
 | [],_,_,_=> rfl
 | k ::r,last,d,h=> by
  simp only [ZE,Bool.and_eq_true] at h
  have h1:=ZcI k last d h.1
  have h2:=Z8m r k.at_ d h.2
  simp only [Yj,ZE,Bool.and_eq_true]
  exact ⟨h1,by rw [Z7M];exact h2⟩
theorem ZcI:∀ (k:KidOf Edit) (last d:Int),Z0t last k d=true→Z0t last (Jj k) d=true
 | ⟨a,e⟩,last,d,h=> by
  simp only [Z0t,Bool.and_eq_true] at h
  have h1:=Z1r e d h.2
  simp only [Jj,Z0t,Bool.and_eq_true]
  rw [Z2t]
  exact ⟨h.1,h1⟩
theorem Zi6(list:Int):∀ (os:List (OpOf Edit)) (d:Int) (w:Wst),ZB list os d=true→OkW list d w→OkW list d (Zo list os w)
 | [],_,_,_,hw=> hw
 | o ::r,d,w,h,hw=> by
  simp only [ZB,Bool.and_eq_true] at h
  have h1:=ZjX list o d w h.1 hw
  exact Zi6 list r d _ h.2 h1
theorem ZjX(list:Int):∀ (o:OpOf Edit) (d:Int) (w:Wst),Zf list o d=true→OkW list d w→OkW list d (JD list o w)
 | ⟨k,n,l,e⟩,d,w,h,hw=> Zsb (o:=⟨k,n,l,e⟩) hw h (fun he=> Z1r e d he)
theorem Zhp(list:Int):∀ (os:List (OpOf Edit)) (d:Int) (w:Wst),ZB list os d=true→sA (Zo list os w)=sA w+YQ os∧sB (Zo list os w)=sB w+YW os
 | [],_,_,_=> by simp [Zo,YQ,YW]
 | o ::r,d,w,h=> by
  simp only [ZB,Bool.and_eq_true] at h
  have h1:=ZrV (w:=w) h.1
  have h2:=Zhp list r d (JD list o w) h.2
  simp only [Zo,YQ,YW]
  omega
end
end Go.AM.Ytpjenobkibfpcaa
namespace Go.AM.Ytpjenobkibfpcaa
open Go.AM Go.Proofs
theorem Z3L:∀ {a b:List Tree},ZW (a++b)↔ZW a∧ZW b
 | [],b=> by simp [ZW]
 | t ::r,b=> by simp only [List.cons_append,ZW];rw [Z3L (a:=r),and_assoc]
mutual
theorem Z1p:∀ (t:Tree),rng t→rng (Z6 t)
 | .mk k w ks,h=> by
  simp only [rng] at h
  obtain ⟨h1,h2,h3⟩:=h
  have h4:=ZbJ ks h3
  simp only [Z6]
  split
  ·simp only [Tree.nil,rng,ZW]
   exact ⟨by decide,by simp,trivial⟩
  ·split
   ·obtain ⟨r1,e1⟩:=Z9u w
    obtain ⟨r2,e2⟩:=Z7m (ZV ks)
    simp only [rng]
    refine ⟨by decide,fun x hx=> h2 x (by rw [e1];exact List.mem_append.2 (Or.inl hx)),?_⟩
    rw [e2] at h4
    exact (Z3L.1 h4).1
   ·simp only [rng]
    exact ⟨h1,h2,h4⟩
theorem ZbJ:∀ (l:List Tree),ZW l→ZW (ZV l)
 | [],_=> trivial
 | t ::r,h=> by
  simp only [ZW] at h
  have h1:=Z1p t h.1
  have h2:=ZbJ r h.2
  simp only [ZV,ZW]
  exact ⟨h1,h2⟩
end
theorem Z5t:∀ {l:List Tree},ZW l→ZW (Z5 l)
 | [],_=> trivial
 | t ::r,h=> by
  simp only [ZW] at h
  have h2:=Z5t h.2
  simp only [Z5] at h2
  simp only [Z5,List.map_cons,ZW]
  exact ⟨Z1p t h.1,h2⟩
theorem Z0r:rng Tree.nil:=by
 simp only [Tree.nil,rng,ZW]
 exact ⟨by decide,by simp,trivial⟩
structure RngW (w:Wst):Prop where
 out:∀ o∈w.out,ZW o.l∧Y1 o.e
 gone:ZW w.gone
 brought:ZW w.brought
theorem Z4D:Y1 Edit.nil:=by
 simp only [Edit.nil,Y1,Z1U,Z1T]
 exact ⟨by unfold isI;omega,Z0r,Z0r,by simp,by unfold isI;omega,trivial,trivial⟩
theorem Z5r{w:Wst}(h:RngW w):RngW (Z1 w):=by
 refine ⟨?_,trivial,trivial⟩
 simp only [Z1,YD]
 intro o ho
 rcases List.mem_append.1 ho with ho | ho
 ·exact h.out o ho
 rcases List.mem_append.1 ho with ho | ho
 ·split at ho
  ·cases ho
  ·simp only [List.mem_singleton] at ho
   subst ho
   exact ⟨h.gone,Z4D⟩
 ·split at ho
  ·cases ho
  ·simp only [List.mem_singleton] at ho
   subst ho
   exact ⟨h.brought,Z4D⟩
theorem ZbF{w:Wst}{n:Int}(h:RngW w):RngW (Zy w n):=by
 have hf:=Z5r h
 refine ⟨?_,trivial,trivial⟩
 simp only [Zy]
 intro o ho
 rcases YJ (Z1 w).out n with e | ⟨a,q,e1,e2,e3⟩
 ·rw [e] at ho
  rcases List.mem_append.1 ho with ho | ho
  ·exact hf.out o ho
  ·simp only [List.mem_singleton] at ho
   subst ho
   exact ⟨trivial,Z4D⟩
 ·rw [e3] at ho
  rcases List.mem_append.1 ho with ho | ho
  ·exact hf.out o (by rw [e1];exact List.mem_append.2 (Or.inl ho))
  ·simp only [List.mem_singleton] at ho
   subst ho
   exact hf.out q (by rw [e1];simp)
theorem ZhB{list:Int}{w:Wst}{o:Op}(h:RngW w)(hl:ZW o.l)(he:Y1 (Zz o.e)):RngW (JD list o w):=by
 rw [Yq]
 split
 ·exact ZbF h
 ·split
  ·exact ⟨h.out,Z3L.2 ⟨h.gone,Z5t hl⟩,h.brought⟩
  ·split
   ·exact ⟨h.out,h.gone,Z3L.2 ⟨h.brought,Z5t hl⟩⟩
   ·split
    ·split
     ·exact ZbF h
     ·refine ⟨?_,trivial,trivial⟩
      intro o ho
      rcases List.mem_append.1 ho with ho | ho
      ·exact (Z5r h).out o ho
      ·simp only [List.mem_singleton] at ho
       subst ho
       exact ⟨trivial,he⟩
    ·exact h
theorem Z8l:∀ {os:List Op},(∀ o∈os,Z01 o)→Z1T os
 | [],_=> trivial
 | o ::r,h=> by
  simp only [Z1T]
  exact ⟨h o (List.mem_cons_self ..),Z8l (fun x hx=> h x (List.mem_cons_of_mem _ hx))⟩
theorem Ze5{list d:Int}{o:Op}(h:Zf list o d=true)(hl:ZW o.l)(he:Y1 o.e):Z01 o:=by
 have hn:=Z4E h
 obtain ⟨k,n,l,e⟩:=o
 simp only at hn hl he
 simp only [Z01]
 refine ⟨?_,by unfold isI;omega,hl,he⟩
 rw [Zf] at h
 unfold isI
 split at h
 ·omega
 ·split at h
  ·cases h
  ·omega
mutual
theorem Z4C:∀ (e:Edit) (d:Int),Z4 e d=true→Y1 e→Y1 (Zz e)
 | .mk k o n w ks l os,d,hr,h=> by
  have hin:=Z2n hr
  have hout:=Z2n (Z1r _ _ hr)
  simp only [Edit.kids_mk,Edit.ops_mk,Edit.list_mk] at hin
  simp only [Y1] at h
  obtain ⟨h1,h2,h3,h4,h5,h6,h7⟩:=h
  have i6:=ZbI ks (d - 1) (fun k hk=> (hin.1 k hk).1) h6
  have i7:=ZbG l os (d - 1) hin.2 h7 W0 ⟨fun o ho=> (by cases ho),trivial,trivial⟩
  rw [Zz] at hout ⊢
  by_cases k1:k=1
  ·rw [if_pos k1]
   simp only [Y1]
   exact ⟨h1,Z1p o h2,Z1p n h3,by simp,h5,trivial,trivial⟩
  ·rw [if_neg k1] at hout ⊢
   by_cases k2:k=2
   ·rw [if_pos k2]
    simp only [Y1]
    exact ⟨h1,Z0r,Z0r,h4,h5,i6,trivial⟩
   ·rw [if_neg k2] at hout ⊢
    by_cases k3:k=3
    ·rw [if_pos k3] at hout ⊢
     simp only [Y1]
     refine ⟨h1,Z0r,Z0r,by simp,h5,trivial,Z8l (fun q hq=> ?_)⟩
     have hx:=hout.2 q hq
     have hy:=(Z5r i7).out q hq
     exact Ze5 hx hy.1 hy.2
    ·rw [if_neg k3]
     simp only [Y1]
     exact ⟨h1,Z0r,Z0r,by simp,h5,trivial,trivial⟩
theorem ZbI:∀ (ks:List (KidOf Edit)) (d:Int),(∀ k∈ks,Z4 k.e d=true)→Z1U ks→Z1U (Yj ks)
 | [],_,_,_=> trivial
 | k ::r,d,hr,h=> by
  simp only [Z1U] at h
  have h1:=ZfP k d (hr k (List.mem_cons_self ..)) h.1
  have h2:=ZbI r d (fun x hx=> hr x (List.mem_cons_of_mem _ hx)) h.2
  simp only [Yj,Z1U]
  exact ⟨h1,h2⟩
theorem ZfP:∀ (k:KidOf Edit) (d:Int),Z4 k.e d=true→Z5s k→Z5s (Jj k)
 | ⟨a,e⟩,d,hr,h=> by
  simp only [Z5s] at h
  have h2:=Z4C e d hr h.2
  simp only [Jj,Z5s]
  exact ⟨h.1,h2⟩
theorem ZbG(list:Int):∀ (os:List (OpOf Edit)) (d:Int),(∀ o∈os,Zf list o d=true)→Z1T os→∀ (w:Wst),RngW w→RngW (Zo list os w)
 | [],_,_,_,w,hw=> hw
 | o ::r,d,hr,h,w,hw=> by
  simp only [Z1T] at h
  have h1:=ZjN list o d (hr o (List.mem_cons_self ..)) h.1 w hw
  exact ZbG list r d (fun x hx=> hr x (List.mem_cons_of_mem _ hx)) h.2 _ h1
theorem ZjN(list:Int):∀ (o:OpOf Edit) (d:Int),Zf list o d=true→Z01 o→∀ (w:Wst),RngW w→RngW (JD list o w)
 | ⟨k,n,l,e⟩,d,hr,h,w,hw=> by
  simp only [Z01] at h
  by_cases k3:k=3
  ·have he:Z4 e d=true:=by
    rw [Zf,if_neg (by omega),] at hr
    split at hr
    ·cases hr
    ·rw [if_neg (by omega)] at hr
     simp only [Bool.and_eq_true] at hr
     exact hr.1.2
   exact ZhB (o:=⟨k,n,l,e⟩) hw h.2.2.1 (Z4C e d he h.2.2.2)
  ·have hs:Y1 (Zz Edit.nil):=by
    show Y1 (.mk 0 Tree.nil Tree.nil [] [] 0 [])
    exact Z4D
   have e2:JD list ⟨k,n,l,e⟩ w=JD list ⟨k,n,l,Edit.nil⟩ w:=by
    simp only [JD]
    rw [if_neg k3,if_neg k3]
   rw [e2]
   exact ZhB (o:=⟨k,n,l,Edit.nil⟩) hw h.2.2.1 hs
end
end Go.AM.Ytpjenobkibfpcaa
namespace Go.AM.Ytpjenobkibfpcaa
open Go.AM Go.Proofs
theorem Zsg(t:Tree):t.words.length+Zb t.kids+1=Zj t:=by obtain ⟨k,w,ks⟩:=t;simp only [Zj,Tree.words_mk,Tree.kids_mk];omega
theorem Zc5:∀ (l:List Tree) (i:Nat) (x:Tree),i < l.length→Zb (l.set i x)+Zj (l.getD i Tree.nil)=Zb l+Zj x
 | [],i,x,h=> by simp at h
 | a ::r,0,x,_=> by simp only [List.set_cons_zero,Zb,List.getD_cons_zero];omega
 | a ::r,i+1,x,h=> by
  have:=Zc5 r i x (by simpa using h)
  simp only [List.set_cons_succ,Zb,List.getD_cons_succ];omega
theorem Zgh(n:Nat):Zb (List.replicate n Tree.nil)=n:=by
 induction n with
 | zero=> rfl
 | succ n ih=> rw [List.replicate_succ,Zb,ih];simp [Tree.nil,Zj,Zb];omega
theorem Z1a:∀ (a b:List Tree),Zb (a++b)=Zb a+Zb b
 | [],b=> by simp [Zb]
 | t ::r,b=> by simp only [List.cons_append,Zb,Z1a r b];omega
theorem Zk9(l:List Tree)(i:Nat)(x:Tree):Zb (Yl Tree.nil l i x)+Zj (l.getD i Tree.nil)≤Zb l+Zj x+(i+1):=by
 have h:=Zc5 (l++List.replicate (i+1 - l.length) Tree.nil) i x (by simp;omega)
 have e:(l++List.replicate (i+1 - l.length) Tree.nil).getD i Tree.nil=l.getD i Tree.nil:=by
  by_cases hi:i < l.length
  ·simp only [List.getD_eq_getElem?_getD];rw [List.getElem?_append_left hi]
  ·simp only [List.getD_eq_getElem?_getD]
   rw [List.getElem?_append_right (by omega),List.getElem?_eq_none (l:=l) (by omega),List.getElem?_replicate]
   split <;> rfl
 rw [e,Z1a,Zgh] at h
 simp only [Yl]
 omega
theorem Zct{tw:List Int}:∀ {ws:List WEdit} {last:Int} {out a:List Int},Zu last ws=true→wsD tw ws out=some a→a.length≤max out.length 65535
 | [],_,out,a,_,h=> by rw [wsD] at h;cases h;omega
 | w ::r,last,out,a,hw,h=> by
  have h1:=Z3z hw w List.mem_cons_self
  simp only [Zu,Bool.and_eq_true] at hw
  rw [wsD] at h
  split at h
  ·have:=Zct hw.2 h
   rw [Z5b] at this
   omega
  ·cases h
theorem ZcH{last d:Int}{k:Kid}{r:List Kid}(h:ZE last (k ::r) d=true):(last < k.at_∧k.at_≤65534)∧Z4 k.e d=true∧ZE k.at_ r d=true:=by
 have:=J2 h k List.mem_cons_self
 simp only [ZE,Bool.and_eq_true] at h
 exact ⟨⟨this.1.1,this.1.2.1⟩,this.2,h.2⟩
theorem ZkV{tw:List Int}{ws:List WEdit}{last:Int}{out a:List Int}(hw:Zu last ws=true)(h:wsD tw ws out=some a):a.length≤out.length+65600*ws.length:=by
 cases ws with
 | nil=> rw [wsD] at h;cases h;omega
 | cons w r=>
  have:=Zct hw h
  simp only [List.length_cons]
  omega
theorem Zaz(r:Bool)(v:Tree):Zj (nrD r v)≤Zj v:=by
 unfold nrD
 split
 ·exact Ju v
 ·exact Nat.le_refl _
mutual
theorem ZaK(r:Bool):∀ (e:Edit) (d:Int) (t v:Tree),Z4 e d=true→Zg5 r e t=some v→Zj v+18≤Zj t+ctE e
 | .mk k o n w ks l os,d,t,v,hr,hv=> by
  have ri:=J3 hr
  have h1:=Zc4 r ks t.kids
  have h2:=Zc3 r l os
  have ht:=Zsg t
  have po:=Z1C o
  have pn:=Z1C n
  have pt:=Z1C t
  unfold Zg5 at hv
  simp only [ctE]
  split at hv
  ·cases hv;omega
  ·split at hv
   ·split at hv
    ·cases hv
     show Zj n+18≤_
     omega
    ·cases hv
   ·split at hv
    ·split at hv
     ·obtain ⟨a,ha,hb⟩:=Option.bind_eq_some_iff.1 hv
      obtain ⟨b,hb,e⟩:=Option.map_eq_some_iff.1 hb
      have l1:=ZkV ri.words ha
      simp only [Edit.words_mk] at l1
      have l2:=h1 t.kids b _ (-1) (by omega) ri.kids (fun j _=> rfl) hb
      rw [←e]
      simp only [Zj]
      omega
     ·cases hv
    ·split at hv
     ·split at hv
      ·obtain ⟨b,hb,e⟩:=Option.map_eq_some_iff.1 hv
       unfold Z2J at hb
       obtain ⟨x,hx,hy⟩:=Option.bind_eq_some_iff.1 hb
       have l2:=h2 _ t.kids [] x (fun o ho=> Go.AM.rightOs_mem ri.ops o ho) hx
       split at hy
       ·cases hy
        rw [←e]
        simp only [Zj,List.length_nil]
        simp only [Zb] at l2
        omega
       ·cases hy
      ·cases hv
     ·cases hv
theorem Zc4(r:Bool):∀ (ks:List (KidOf Edit)) (tk out b:List Tree) (d last:Int),-1≤last→ZE last ks d=true→(∀ j:Nat,last < (j:Int)→out.getD j Tree.nil=tk.getD j Tree.nil)→JB r tk ks out=some b→Zb b≤Zb out+Zba ks
 | [],tk,out,b,d,last,_,_,_,h=> by rw [JB] at h;cases h;simp
 | k ::s,tk,out,b,d,last,hl,hr,hj,h=> by
  obtain ⟨h1,h2,h3⟩:=ZcH hr
  rw [JB] at h
  obtain ⟨u,hu,hb⟩:=Option.bind_eq_some_iff.1 h
  have m1:=Zgf r k tk u d h2 hu
  have m2:=Zk9 out k.at_.toNat u
  rw [hj k.at_.toNat (by omega)] at m2
  have m3:=Zc4 r s tk _ b d k.at_ (by omega) h3 (fun j hj'=> by
   rw [YZ,if_neg (by omega)]
   exact hj j (by omega)) hb
  have m4:k.at_.toNat+1≤65600:=by omega
  have e1:Zba (k ::s)=65600+ctE k.e+Zba s:=by obtain ⟨a,e⟩:=k;rfl
  rw [e1]
  omega
theorem Zgf(r:Bool):∀ (k:KidOf Edit) (tk:List Tree) (u:Tree) (d:Int),Z4 k.e d=true→Z23 r tk k=some u→Zj u+18≤Zj (tk.getD k.at_.toNat Tree.nil)+ctE k.e
 | ⟨a,e⟩,tk,u,d,hr,h=> by
  rw [Z23,Z7i] at h
  obtain ⟨v,hv,hu⟩:=Option.map_eq_some_iff.1 h
  have:=ZaK r e d (tk.getD a.toNat Tree.nil) v hr hv
  have hvu:=Zaz r v
  rw [hu] at hvu
  dsimp only
  omega
theorem Zc3(r:Bool)(l:Int):∀ (os:List (OpOf Edit)) (d:Int) (rest out:List Tree) (x:List Tree × List Tree),(∀ o∈os,Zf l o d=true)→ZK r os rest out=some x→Zb x.1+Zb x.2≤Zb out+Zb rest+Zbt os
 | [],d,rest,out,x,_,h=> by rw [ZK] at h;cases h;simp
 | o ::s,d,rest,out,x,hr,h=> by
  rw [ZK] at h
  obtain ⟨y,hy,hx⟩:=Option.bind_eq_some_iff.1 h
  have m1:=Zk7 r l o d rest out y (hr o List.mem_cons_self) hy
  have m2:=Zc3 r l s d _ _ x (fun q hq=> hr q (List.mem_cons_of_mem _ hq)) hx
  rw [Zbt]
  omega
theorem Zk7(r:Bool)(l:Int):∀ (o:OpOf Edit) (d:Int) (rest out:List Tree) (x:List Tree × List Tree),Zf l o d=true→Z3j r o rest out=some x→Zb x.1+Zb x.2≤Zb out+Zb rest+Zky o
 | ⟨k,n,L,e⟩,d,rest,out,x,hr,h=> by
  have he:=ZaK r e d (rest.getD 0 Tree.nil)
  rw [Z3j] at h
  simp only [Zky]
  split at h
  ·split at h
   ·cases h
    have:=Z1a (rest.take n.toNat) (rest.drop n.toNat)
    rw [List.take_append_drop] at this
    dsimp only
    rw [Z1a];omega
   ·cases h
  ·split at h
   ·split at h
    ·cases h
     have:=Z3f L.length rest
     dsimp only;omega
    ·cases h
   ·split at h
    ·cases h
     dsimp only
     rw [Z1a];omega
    ·split at h
     ·cases h
     ·obtain ⟨u,hu,e2⟩:=Option.map_eq_some_iff.1 h
      cases e2
      have hk:k=3:=by
       have ra:=Yf hr
       generalize ho:OpOf.mk k n L e=o at ra
       cases ra <;> (injection ho with h1;try omega)
      rw [Z7i] at hu
      obtain ⟨v,hv,hu⟩:=Option.map_eq_some_iff.1 hu
      have:=he v (Z33 hr hk) hv
      have hvu:=Zaz r v
      rw [hu] at hvu
      cases rest with
      | nil=> contradiction
      | cons a q=>
       rw [Z1a]
       simp only [Zb,List.drop_succ_cons,List.drop_zero,List.getD_cons_zero] at this ⊢
       omega
end
theorem Zpe(r:Bool)(e:Edit)(d:Int)(t u:Tree)(hr:Z4 e d=true)(h:doE r e t=some u):Zj u+18≤Zj t+ctE e:=by
 rw [Z7i] at h
 obtain ⟨v,hv,hu⟩:=Option.map_eq_some_iff.1 h
 have:=ZaK r e d t v hr hv
 have hvu:=Zaz r v
 rw [hu] at hvu
 omega
theorem Zsc{f:Nat→Int}(h:∀ i,0≤f i∧f i < 256):isW (of8 f):=by
 have h0:=h 0;have h1:=h 1;have h2:=h 2;have h3:=h 3;have h4:=h 4;have h5:=h 5;have h6:=h 6;have h7:=h 7
 unfold isW of8
 omega
theorem Zsf(a b m:Int):isW (mix a b m):=Zsc (Z8F a b m)
theorem ZcE{l:List Tree}(h:∀ t∈l,rng t):ZW l:=by
 induction l with
 | nil=> exact trivial
 | cons a r ih=> exact ⟨h a List.mem_cons_self,ih fun t ht=> h t (List.mem_cons_of_mem _ ht)⟩
theorem Z7v:rng Tree.nil:=⟨by decide,by simp,trivial⟩
theorem Z5p{α:Type}{z x y:α}{l:List α}{i:Nat}(h:y∈Yl z l i x):y∈l∨y=z∨y=x:=by
 rcases List.mem_or_eq_of_mem_set h with h | h
 ·rcases List.mem_append.1 h with h | h
  ·exact .inl h
  ·exact .inr (.inl (List.eq_of_mem_replicate h))
 ·exact .inr (.inr h)
theorem ZhA{ks:List Tree}(h:ZW ks)(i:Nat):rng (ks.getD i Tree.nil):=by
 by_cases hi:i < ks.length
 ·exact JJ h (Zl hi _)
 ·rw [List.getD_eq_getElem?_getD,List.getElem?_eq_none (by omega)]
  exact Z7v
theorem ZkW{tw:List Int}:∀ {ws:List WEdit} {out a:List Int},(∀ x∈out,isW x)→wsD tw ws out=some a→∀ x∈a,isW x
 | [],out,a,h,hw=> by rw [wsD] at hw;cases hw;exact h
 | w ::r,out,a,h,hw=> by
  rw [wsD] at hw
  split at hw
  ·refine ZkW (fun x hx=> ?_) hw
   rcases Z5p hx with hx | rfl | rfl
   ·exact h x hx
   ·exact ⟨by omega,by omega⟩
   ·exact Zsf _ _ _
  ·cases hw
mutual
theorem ZfO(r:Bool):∀ (e:Edit) (t u:Tree),Y1 e→rng t→doE r e t=some u→rng u
 | .mk k o n w ks l os,t,u,hr,ht,h=> by
  have h1:=Ze3 r ks
  have h2:=Ze2 r os
  simp only [Y1] at hr
  obtain ⟨r1,r2,r3,r4,r5,r6,r7⟩:=hr
  have hta:isI t.kind∧(∀ x∈t.words,isW x)∧ZW t.kids:=by obtain ⟨k,w,ks⟩:=t;exact ht
  rw [Z0e] at h
  obtain ⟨v,hv,hu⟩:=Option.map_eq_some_iff.1 h
  suffices rng v by
   rw [←hu];unfold nrD
   split
   ·exact Z1p v this
   ·exact this
  clear h hu
  split at hv
  ·cases hv;exact ht
  ·split at hv
   ·split at hv
    ·cases hv;exact r3
    ·cases hv
   ·split at hv
    ·split at hv
     ·obtain ⟨a,ha,hb⟩:=Option.bind_eq_some_iff.1 hv
      obtain ⟨b,hb,e⟩:=Option.map_eq_some_iff.1 hb
      rw [←e]
      exact ⟨by decide,ZkW hta.2.1 ha,h1 _ _ _ r6 hta.2.2 hta.2.2 hb⟩
     ·cases hv
    ·split at hv
     ·split at hv
      ·obtain ⟨b,hb,e⟩:=Option.map_eq_some_iff.1 hv
       unfold Z2J at hb
       obtain ⟨x,hx,hy⟩:=Option.bind_eq_some_iff.1 hb
       split at hy
       ·cases hy
        rw [←e]
        exact ⟨r5,by simp,(h2 _ [] _ r7 hta.2.2 trivial hx).1⟩
       ·cases hy
      ·cases hv
     ·cases hv
theorem Ze3(r:Bool):∀ (ks:List (KidOf Edit)) (tk out b:List Tree),Z1U ks→ZW tk→ZW out→JB r tk ks out=some b→ZW b
 | [],tk,out,b,_,_,ho,h=> by rw [JB] at h;cases h;exact ho
 | k ::s,tk,out,b,hk,ht,ho,h=> by
  rw [JB] at h
  obtain ⟨u,hu,hb⟩:=Option.bind_eq_some_iff.1 h
  have m1:=ZjM r k tk u hk.1 ht hu
  refine Ze3 r s tk _ b hk.2 ht (ZcE fun x hx=> ?_) hb
  rcases Z5p hx with hx | rfl | rfl
  ·exact JJ ho hx
  ·exact Z7v
  ·exact m1
theorem ZjM(r:Bool):∀ (k:KidOf Edit) (tk:List Tree) (u:Tree),Z5s k→ZW tk→Z23 r tk k=some u→rng u
 | ⟨a,e⟩,tk,u,hr,ht,h=> by
  rw [Z23] at h
  exact ZfO r e _ u hr.2 (ZhA ht _) h
theorem Ze2(r:Bool):∀ (os:List (OpOf Edit)) (rest out:List Tree) (x:List Tree × List Tree),Z1T os→ZW rest→ZW out→ZK r os rest out=some x→ZW x.1∧ZW x.2
 | [],rest,out,x,_,hr,ho,h=> by rw [ZK] at h;cases h;exact ⟨ho,hr⟩
 | o ::s,rest,out,x,hs,hr,ho,h=> by
  rw [ZK] at h
  obtain ⟨y,hy,hx⟩:=Option.bind_eq_some_iff.1 h
  have m1:=Zlz r o rest out y hs.1 hr ho hy
  exact Ze2 r s _ _ x hs.2 m1.2 m1.1 hx
theorem Zlz(r:Bool):∀ (o:OpOf Edit) (rest out:List Tree) (x:List Tree × List Tree),Z01 o→ZW rest→ZW out→Z3j r o rest out=some x→ZW x.1∧ZW x.2
 | ⟨k,n,L,e⟩,rest,out,x,hs,hr,ho,h=> by
  have he:=ZfO r e (rest.getD 0 Tree.nil)
  simp only [Z01] at hs
  have hd:∀ n,ZW (rest.drop n):=fun n=> ZcE fun t ht=> JJ hr (List.mem_of_mem_drop ht)
  have hap:∀ l,ZW l→ZW (out++l):=fun l hl=> Z3L.2 ⟨ho,hl⟩
  rw [Z3j] at h
  split at h
  ·split at h
   ·cases h
    exact ⟨hap _ (ZcE fun t ht=> JJ hr (List.mem_of_mem_take ht)),hd _⟩
   ·cases h
  ·split at h
   ·split at h
    ·cases h
     exact ⟨ho,hd _⟩
    ·cases h
   ·split at h
    ·cases h
     exact ⟨hap _ hs.2.2.1,hr⟩
    ·split at h
     ·cases h
     ·obtain ⟨u,hu,e2⟩:=Option.map_eq_some_iff.1 h
      cases e2
      exact ⟨hap _ ⟨he u hs.2.2.2 (ZhA hr 0) hu,trivial⟩,hd _⟩
end
end Go.AM.Ytpjenobkibfpcaa
namespace Go.AM
def Z2G(t:Tree):Bool:=decide (0≤ZA t 80 3000) && Z9 t 64 && decide (t.kind≠10)
end Go.AM
namespace Go.AM.Ytpjenobkibfpcaa
open Go.AM Go.Proofs
section
variable {α β:Type} {z:α} {f:β→Option α} {p:β→Int}
end
theorem Z5v{list d:Int}:∀ {l:List Tree},ZT list l d=true→∀ t∈l,Z9 t d=true
 | [],_,_,ht=> by cases ht
 | a ::r,h,t,ht=> by
  simp only [ZT,Bool.and_eq_true] at h
  rcases List.mem_cons.1 ht with rfl | ht
  ·exact h.1.2
  ·exact Z5v h.2 t ht
def RT_(t:Tree):Prop:=(∃ d,Z9 t d=true)∧rng t
theorem RT_.kids{t:Tree}(h:RT_ t):(∀ k∈t.kids,RT_ k)∧(t.kind≠0→t.kind≠1→t.kind≠10→t.words=[]):=by
 obtain ⟨⟨d,h⟩,hr⟩:=h
 obtain ⟨k,w,ks⟩:=t
 have hk:∀ x∈ks,rng x:=fun x hx=> JJ hr.2.2 hx
 show (∀ x∈ks,RT_ x)∧(k≠0→k≠1→k≠10→w=[])
 rw [Z9] at h
 split at h
 ·simp only [decide_eq_true_eq] at h
  rw [List.eq_nil_of_length_eq_zero h.2]
  exact ⟨fun x hx=> (by cases hx),fun h0=> absurd ‹_› h0⟩
 ·split at h
  ·simp only [decide_eq_true_eq] at h
   rw [List.eq_nil_of_length_eq_zero h.2]
   exact ⟨fun x hx=> (by cases hx),fun _ _ h0=> absurd ‹_› h0⟩
  ·split at h
   ·cases h
   ·split at h
    ·simp only [Bool.and_eq_true] at h
     exact ⟨fun x hx=> ⟨⟨_,Z5v h.2 x hx⟩,hk x hx⟩,fun _ h1=> absurd ‹_› h1⟩
    ·simp only [Bool.and_eq_true,decide_eq_true_eq] at h
     exact ⟨fun x hx=> ⟨⟨_,Z5v h.2 x hx⟩,hk x hx⟩,fun _ _ _=> List.eq_nil_of_length_eq_zero h.1.2.2.1⟩
theorem ZtY:RT_ Tree.nil:=⟨⟨1,rfl⟩,Z7v⟩
theorem ZdI{l:List Tree}(h:∀ t∈l,RT_ t)(i:Nat):RT_ (l.getD i Tree.nil):=by
 by_cases hi:i < l.length
 ·exact h _ (Zl hi _)
 ·rw [List.getD_eq_getElem?_getD,List.getElem?_eq_none (by omega)];exact ZtY
theorem Za8{list:Int}{o:Op}{d:Int}(h:Zf list o d=true):o.kind=0∨o.kind=1∨o.kind=2∨o.kind=3:=by
 have r:=Yf h
 cases r with
 | keep=> exact .inl rfl
 | gone=> exact .inr (.inl rfl)
 | come=> exact .inr (.inr (.inl rfl))
 | into=> exact .inr (.inr (.inr rfl))
end Go.AM.Ytpjenobkibfpcaa
namespace Go.AM.Ytpjenobkibfpcaa
open Go.AM Go.Proofs
def Rx(x y:List Tree × List Tree):Prop:=EqvL x.1 y.1∧EqvL x.2 y.2
theorem Rx.rfl'(a:Option (List Tree × List Tree)):OptR Rx a a:=by cases a;exact trivial;exact ⟨rfl,rfl⟩
theorem Rx.of{a b:Option (List Tree × List Tree)}(h:a=b):OptR Rx a b:=by rw [h];exact Rx.rfl' b
theorem OptR.trans'{α:Type}{R:α→α→Prop}(ht:∀ x y z,R x y→R y z→R x z){a b c:Option α}(h1:OptR R a b)(h2:OptR R b c):OptR R a c:=by
 cases a <;> cases b <;> cases c <;> first | exact trivial | exact h1.elim | exact h2.elim | exact ht _ _ _ h1 h2
theorem Rx.trans{a b c:Option (List Tree × List Tree)}(h1:OptR Rx a b)(h2:OptR Rx b c):OptR Rx a c:=
 OptR.trans' (fun _ _ _ p q=> ⟨Eq.trans p.1 q.1,Eq.trans p.2 q.2⟩) h1 h2
theorem Z2K(r:Bool):∀ (a b:List Op) (rest out:List Tree),ZK r (a++b) rest out=(ZK r a rest out).bind fun x=> ZK r b x.2 x.1
 | [],b,rest,out=> by rw [ZK];try rfl
 | o ::s,b,rest,out=> by
  rw [List.cons_append,ZK,ZK]
  cases h:Z3j r o rest out with
  | none=> rfl
  | some x=> rw [Option.bind_some,Option.bind_some];exact Z2K r s b _ _
theorem Zb5(r:Bool)(o:Op)(rest out:List Tree):ZK r [o] rest out=Z3j r o rest out:=by
 rw [ZK]
 cases Z3j r o rest out with
 | none=> rfl
 | some x=> rw [Option.bind_some,ZK]
theorem Z4o(r:Bool)(a:List Op)(o:Op)(rest out:List Tree):ZK r (a++[o]) rest out=(ZK r a rest out).bind fun x=> Z3j r o x.2 x.1:=by
 rw [Z2K]
 congr 1
 funext x
 exact Zb5 r o _ _
theorem Z4n{r:Bool}:∀ {os:List Op} {rest out:List Tree} {x:List Tree × List Tree},ZK r os rest out=some x→∃ n,x.2=rest.drop n
 | [],rest,out,x,h=> by rw [ZK] at h;cases h;exact ⟨0,by simp⟩
 | o ::s,rest,out,x,h=> by
  rw [ZK] at h
  obtain ⟨y,hy,hx⟩:=Option.bind_eq_some_iff.1 h
  obtain ⟨n,hn⟩:=Z4n hx
  have:∃ m,y.2=rest.drop m:=by
   rw [Yk] at hy
   split at hy
   ·split at hy
    ·cases hy;exact ⟨_,rfl⟩
    ·cases hy
   ·split at hy
    ·split at hy
     ·cases hy;exact ⟨_,rfl⟩
     ·cases hy
    ·split at hy
     ·cases hy;exact ⟨0,by simp⟩
     ·split at hy
      ·cases hy
      ·obtain ⟨u,_,e⟩:=Option.map_eq_some_iff.1 hy
       cases e
       exact ⟨1,rfl⟩
  obtain ⟨m,hm⟩:=this
  exact ⟨m+n,by rw [hn,hm,List.drop_drop]⟩
theorem Zkm(rest:List Tree):YV [] rest=true:=by unfold YV;rw [Z0p.2 (by simp)];simp
theorem Zfa(l rest:List Tree):YV (Z5 l) rest=YV l rest:=by
 unfold YV
 rw [Z1Y,show (Z5 l).length=l.length by simp [Z5]]
theorem Z2H(l rest:List Tree):YV l rest=true↔l.length≤rest.length∧Z5 l=Z5 (rest.take l.length):=by
 unfold YV
 rw [Bool.and_eq_true,decide_eq_true_eq,Z0p]
theorem Zko(a b rest:List Tree):YV (a++b) rest=(YV a rest && YV b (rest.drop a.length)):=by
 rw [Bool.eq_iff_iff,Bool.and_eq_true,Z2H,Z2H,Z2H]
 simp only [List.length_append,List.length_drop]
 constructor
 ·rintro ⟨h1,h2⟩
  rw [Yc,List.take_add,Yc] at h2
  obtain ⟨h3,h4⟩:=List.append_inj h2 (by simp [Z5];omega)
  exact ⟨⟨by omega,h3⟩,by omega,h4⟩
 ·rintro ⟨⟨h1,h2⟩,h3,h4⟩
  refine ⟨by omega,?_⟩
  rw [Yc,List.take_add,Yc,h2,h4]
theorem Z7g(s:Wst)(rest out:List Tree):ZK false (Z1 s).out rest out=(ZK false s.out rest out).bind fun x=> if YV s.gone x.2=true then some (x.1++s.brought,x.2.drop s.gone.length) else none:=by
 simp only [Z1,YD]
 rw [Z2K]
 congr 1
 funext x
 rw [Z2K]
 have h1:ZK false (if s.gone.length=0 then [] else [⟨1,0,s.gone,Edit.nil⟩]) x.2 x.1=if YV s.gone x.2=true then some (x.1,x.2.drop s.gone.length) else none:=by
  split
  ·rename_i h
   rw [List.eq_nil_of_length_eq_zero h,Zkm,if_pos rfl,ZK]
   try rfl
  ·rw [Zb5,Yk]
   rw [if_neg (by show ¬(1:Int)=0;omega),if_pos rfl]
 have h2:∀ y:List Tree × List Tree,ZK false (if s.brought.length=0 then [] else [⟨2,0,s.brought,Edit.nil⟩]) y.2 y.1=some (y.1++s.brought,y.2):=by
  intro y
  split
  ·rename_i h
   rw [List.eq_nil_of_length_eq_zero h,List.append_nil,ZK]
  ·rw [Zb5,Yk]
   rw [if_neg (by show ¬(2:Int)=0;omega),if_neg (by show ¬(2:Int)=1;omega),if_pos rfl]
 rw [h1]
 split
 ·rw [Option.bind_some,h2]
 ·try rfl
theorem Zqb{F:List Op}{n:Int}(hF:∀ o∈F,0≤o.n)(hn:0≤n)(rest out:List Tree):ZK false (Y8 F n) rest out=ZK false (F++[⟨0,n,[],Edit.nil⟩]) rest out:=by
 rcases YJ F n with h | ⟨a,o,h1,h2,h3⟩
 ·rw [h]
 ·rw [h3,h1,Z4o,Z4o,Z4o]
  cases hx:ZK false a rest out with
  | none=> rfl
  | some x=>
   have ho:=hF o (by rw [h1];simp)
   simp only [Option.bind_some]
   rw [Yk,Yk,if_pos h2,if_pos h2]
   simp only
   have e:(o.n+n).toNat=o.n.toNat+n.toNat:=by omega
   rw [e]
   by_cases c:o.n.toNat≤x.2.length
   ·rw [if_pos c,Option.bind_some,Yk,if_pos rfl]
    simp only [List.length_drop]
    by_cases c2:n.toNat≤x.2.length - o.n.toNat
    ·rw [if_pos c2,if_pos (by omega),List.drop_drop,List.append_assoc,←List.take_add]
    ·rw [if_neg c2,if_neg (by omega)]
   ·rw [if_neg c,if_neg (by omega)]
    try rfl
def N0s(s:Wst):Prop:=∀ o∈s.out,0≤o.n
theorem N0s.flush{s:Wst}(h:N0s s):∀ o∈(Z1 s).out,0≤o.n:=by
 intro o ho
 simp only [Z1,YD,List.mem_append] at ho
 rcases ho with ho | ho | ho
 ·exact h o ho
 ·split at ho
  ·cases ho
  ·simp only [List.mem_singleton] at ho;subst ho;exact Int.le_refl 0
 ·split at ho
  ·cases ho
  ·simp only [List.mem_singleton] at ho;subst ho;exact Int.le_refl 0
theorem N0s.keep{s:Wst}(h:N0s s){n:Int}(hn:0≤n):N0s (Zy s n):=by
 intro o ho
 simp only [Zy] at ho
 rcases YJ (Z1 s).out n with e | ⟨a,p,h1,h2,h3⟩
 ·rw [e] at ho
  rcases List.mem_append.1 ho with ho | ho
  ·exact h.flush o ho
  ·simp only [List.mem_singleton] at ho;subst ho;exact hn
 ·rw [h3] at ho
  rcases List.mem_append.1 ho with ho | ho
  ·exact h.flush o (by rw [h1];simp [ho])
  ·simp only [List.mem_singleton] at ho;subst ho
   have:=h.flush p (by rw [h1];simp)
   show 0≤p.n+n
   omega
theorem ZhC{list d:Int}{o:Op}(h:Zf list o d=true):0≤o.n:=by
 have r:=Yf h
 cases r with
 | keep n h1=> show 0≤n;omega
 | gone | come | into=> exact Int.le_refl 0
theorem N0s.op{list d:Int}{s:Wst}{o:Op}(h:N0s s)(hr:Zf list o d=true):N0s (JD list o s):=by
 rw [Yq]
 split
 ·exact h.keep (ZhC hr)
 ·split
  ·exact h
  ·split
   ·exact h
   ·split
    ·split
     ·exact h.keep (by omega)
     ·intro p hp
      rcases List.mem_append.1 hp with hp | hp
      ·exact h.flush p hp
      ·simp only [List.mem_singleton] at hp;subst hp;exact Int.le_refl 0
    ·exact h
def K9(list:Int)(l:List Tree):Prop:=(∀ t∈l,RT_ t)∧(list=9→∀ t∈l,t.kind=1)
theorem K9.drop{list:Int}{l:List Tree}(h:K9 list l)(n:Nat):K9 list (l.drop n):=⟨fun t ht=> h.1 t (List.mem_of_mem_drop ht),fun e t ht=> h.2 e t (List.mem_of_mem_drop ht)⟩
theorem ZhD{d:Int}:∀ {l:List Tree},ZT 9 l d=true→∀ t∈l,t.kind=1
 | [],_,t,ht=> by cases ht
 | a ::r,h,t,ht=> by
  simp only [ZT,Bool.and_eq_true] at h
  rcases List.mem_cons.1 ht with rfl | ht
  ·have:=h.1.1
   simpa [Jz] using this
  ·exact ZhD h.2 t ht
theorem RT_.k9{t:Tree}(h:RT_ t):K9 t.kind t.kids:=by
 refine ⟨h.kids.1,fun e=> ?_⟩
 obtain ⟨⟨d,h⟩,_⟩:=h
 obtain ⟨k,w,ks⟩:=t
 have e:k=9:=e
 subst e
 rw [Z9,if_neg (by omega),if_neg (by omega)] at h
 split at h
 ·cases h
 ·rw [if_neg (by omega)] at h
  simp only [Bool.and_eq_true] at h
  exact ZhD h.2
theorem Zp0 {list d:Int} {s:Wst} {o:Op} (hs:N0s s) (hr:Zf list o d=true) {rest:List Tree} (hk:K9 list rest) (out:List Tree)
  (ih:∀ y,RT_ y→Z4 o.e d=true→OptR Eqv (doE false (Zz o.e) y) (doE false o.e y)):
  OptR Rx (ZK false (Z1 (JD list o s)).out rest out) ((ZK false (Z1 s).out rest out).bind fun x=> Z3j false o x.2 x.1):=by
 have keep:∀ n:Int,0≤n→ZK false (Z1 (Zy s n)).out rest out=(ZK false (Z1 s).out rest out).bind fun x=> Z3j false ⟨0,n,[],Edit.nil⟩ x.2 x.1:=by
  intro n hn
  have e:(Z1 (Zy s n)).out=Y8 (Z1 s).out n:=by simp [Z1,YD,Zy]
  rw [e,Zqb hs.flush hn,Z4o]
 rw [Yq]
 have r1:=Za8 hr
 by_cases h0:o.kind=0
 ·rw [if_pos h0,keep _ (ZhC hr)]
  refine Rx.of ?_
  congr 1
  funext x
  rw [Yk,Yk,if_pos rfl,if_pos h0]
 ·rw [if_neg h0]
  by_cases h1:o.kind=1
  ·rw [if_pos h1,Z7g,Z7g]
   refine Rx.of ?_
   rw [Option.bind_assoc]
   congr 1
   funext x
   simp only
   rw [Zko,Zfa]
   by_cases c:YV s.gone x.2=true
   ·rw [if_pos c,c,Bool.true_and,Option.bind_some,Yk,if_neg h0,if_pos h1]
    simp only
    rw [List.drop_drop,show (s.gone++Z5 o.l).length=s.gone.length+o.l.length by simp [Z5]]
   ·rw [if_neg c,if_neg (by simp only [Bool.and_eq_true];exact fun h=> c h.1)]
    try rfl
  ·rw [if_neg h1]
   by_cases h2:o.kind=2
   ·rw [if_pos h2,Z7g,Z7g,Option.bind_assoc]
    refine OptR.bind (R:=Eq) (OptR.rfl' _) ?_
    rintro x _ rfl
    simp only
    split
    ·rw [Option.bind_some,Yk,if_neg h0,if_neg h1,if_pos h2]
     refine ⟨?_,rfl⟩
     show Z5 (x.1++(s.brought++Z5 o.l))=Z5 (x.1++s.brought++o.l)
     simp only [Yc,Z1Y,List.append_assoc]
    ·exact trivial
   ·have h3:o.kind=3:=by rcases r1 with h | h | h | h <;> first | exact absurd h h0 | exact absurd h h1 | exact absurd h h2 | exact h
    rw [if_neg h2,if_pos h3]
    have hre:=Z33 hr h3
    have ra:=Yf hr
    by_cases hi:Jf list (Zz o.e)=true
    ·rw [if_pos hi,keep 1 (by omega)]
     cases hx:ZK false (Z1 s).out rest out with
     | none=> exact trivial
     | some x=>
      obtain ⟨m,hm⟩:=Z4n hx
      have hk2:=hk.drop m
      rw [←hm] at hk2
      simp only [Option.bind_some]
      rw [Yk,Yk,if_pos rfl,if_neg h0,if_neg h1,if_neg h2]
      cases hx2:x.2 with
      | nil=> exact trivial
      | cons y q=>
       rw [hx2] at hk2
       have hek:o.e.kind≠0:=by
        cases ra with
        | into e _ h=> exact h
        | keep | gone | come=> exact absurd h3 (by simp)
       simp only [Jf,decide_eq_true_eq,Z2t] at hi
       rcases hi with hi | ⟨hl9,he2,hw,hks⟩
       ·exact absurd hi hek
       ·have hy:=hk2.2 hl9 y List.mem_cons_self
        have hn:=Z3d o.e
        rw [if_neg (by omega),if_pos he2] at hn
        have e1:o.e.words=[]:=by rw [hn] at hw;exact List.eq_nil_of_length_eq_zero hw
        have e2:o.e.kids=[]:=by
         rw [hn] at hks
         have:(Yj o.e.kids).length=0:=hks
         cases hh:o.e.kids with
         | nil=> rfl
         | cons a b=> rw [hh] at this;simp [Yj] at this
        have hd:doE false o.e y=some (.mk 1 y.words y.kids):=by
         rw [Z0e,if_neg hek,if_neg (by omega),if_pos he2,if_pos hy,e1,e2,wsD,Option.bind_some,JB]
         try rfl
        rw [if_neg (show ¬(y ::q).length=0 by simp),List.getD_cons_zero,hd,if_pos (show Int.toNat 1≤(y ::q).length by simp)]
        refine ⟨?_,rfl⟩
        show Z5 (x.1++[y])=Z5 (x.1++[Tree.mk 1 y.words y.kids])
        rw [show Tree.mk 1 y.words y.kids=y by rw [←hy];exact Tree.eta y]
    ·rw [if_neg hi]
     have e:(Z1 ⟨(Z1 s).out++[⟨3,0,[],Zz o.e⟩],[],[]⟩).out=(Z1 s).out++[⟨3,0,[],Zz o.e⟩]:=by simp [Z1,YD]
     rw [e,Z4o]
     cases hx:ZK false (Z1 s).out rest out with
     | none=> exact trivial
     | some x=>
      obtain ⟨m,hm⟩:=Z4n hx
      have hk2:=hk.drop m
      rw [←hm] at hk2
      simp only [Option.bind_some]
      rw [Yk,Yk,if_neg h0,if_neg h1,if_neg h2,if_neg (by show ¬(3:Int)=0;omega),if_neg (by show ¬(3:Int)=1;omega),if_neg (by show ¬(3:Int)=2;omega)]
      refine OptR.ite Iff.rfl (fun _=> trivial) fun _=> ?_
      exact (ih _ (ZdI hk2.1 0) hre).map fun u v h=> ⟨Z4L rfl (ZbX.2 h),rfl⟩
mutual
theorem Zga:∀ (e:Edit) (d:Int) (t:Tree),Z4 e d=true→RT_ t→OptR Eqv (doE false (Zz e) t) (doE false e t)
 | .mk k o n w ks l os,d,t,hr,ht=> by
  have ri:=J3 hr
  have h1:=ZeC ks
  have h2:=ZeB l os
  have hkid:=ht.kids.1
  have hn:Zz (.mk k o n w ks l os)=if k=1 then .mk k (Z6 o) (Z6 n) [] [] l [] else if k=2 then .mk k Tree.nil Tree.nil w (Yj ks) l [] else if k=3 then .mk k Tree.nil Tree.nil [] [] l (Z1 (Zo l os ⟨[],[],[]⟩)).out else .mk k Tree.nil Tree.nil [] [] l []:=by rw [Zz]
  rw [Z7i,Z7i,Yx,Yx]
  by_cases c1:k=1
  ·subst c1
   rw [if_pos rfl] at hn
   unfold Zg5
   rw [hn]
   refine OptR.ite Iff.rfl (fun _=> rfl) fun _=> OptR.ite Iff.rfl (fun _=> ?_) (fun h=> absurd rfl h)
   show OptR Eqv (if Yv (Z6 (Z6 o)) (Z6 t)=true then some (Z6 n) else none) (if Yv (Z6 o) (Z6 t)=true then some n else none)
   rw [Jv]
   exact OptR.ite Iff.rfl (fun _=> Jv n) (fun _=> trivial)
  ·by_cases c2:k=2
   ·subst c2
    rw [if_neg c1,if_pos rfl] at hn
    unfold Zg5
    rw [hn]
    refine OptR.ite Iff.rfl (fun _=> rfl) fun _=> OptR.ite Iff.rfl (fun h=> absurd h c1) fun _=> OptR.ite Iff.rfl (fun _=> ?_) (fun h=> absurd rfl h)
    refine OptR.ite Iff.rfl (fun ht1=> ?_) (fun _=> trivial)
    refine OptR.bind (R:=Eq) (OptR.rfl' _) ?_
    rintro a _ rfl
    exact (h1 (d - 1) t.kids t.kids t.kids (fun k hk=> (J2 ri.kids k hk).2) hkid rfl).map fun x y h=> ZaC _ _ h
   ·by_cases c3:k=3
    ·subst c3
     rw [if_neg c1,if_neg c2,if_pos rfl] at hn
     unfold Zg5
     rw [hn]
     refine OptR.ite Iff.rfl (fun _=> rfl) fun _=> OptR.ite Iff.rfl (fun h=> absurd h c1) fun _=> OptR.ite Iff.rfl (fun h=> absurd h c2) fun _=> OptR.ite Iff.rfl (fun _=> ?_) (fun h=> absurd rfl h)
     refine OptR.ite Iff.rfl (fun ht1=> ?_) (fun _=> trivial)
     have hk9:=ht.k9
     rw [ht1] at hk9
     have:=h2 (d - 1) ⟨[],[],[]⟩ t.kids [] (fun o ho=> Go.AM.rightOs_mem ri.ops o ho) (fun o ho=> by cases ho) hk9
     exact (Zfe this).map fun x y h=> ZaC _ _ h
    ·have e0:k=0:=by have:=ri.kind;have:0≤k∧k≤3:=this;omega
     subst e0
     rw [if_neg c1,if_neg c2,if_neg c3] at hn
     unfold Zg5
     rw [hn]
     exact OptR.ite Iff.rfl (fun _=> rfl) fun h=> absurd rfl h
theorem ZeC:∀ (ks:List (KidOf Edit)) (d:Int) (tk a b:List Tree),(∀ k∈ks,Z4 k.e d=true)→(∀ t∈tk,RT_ t)→EqvL a b→OptR EqvL (JB false tk (Yj ks) a) (JB false tk ks b)
 | [],d,tk,a,b,_,_,h=> by rw [Yj];exact h
 | k ::r,d,tk,a,b,hr,ht,h=> by
  rw [Yj,JB,JB]
  have e:(Jj k).at_=k.at_:=by cases k;rfl
  rw [e]
  refine (ZjY k d tk (hr k List.mem_cons_self) ht).bind fun x y hxy=> ZeC r d tk _ _ (fun q hq=> hr q (List.mem_cons_of_mem _ hq)) ht (Zk1 h hxy)
theorem ZjY:∀ (k:KidOf Edit) (d:Int) (tk:List Tree),Z4 k.e d=true→(∀ t∈tk,RT_ t)→OptR Eqv (Z23 false tk (Jj k)) (Z23 false tk k)
 | ⟨a,e⟩,d,tk,hr,ht=> by rw [Jj,Z23,Z23];exact Zga e d _ hr (ZdI ht _)
theorem ZeB(list:Int):∀ (os:List (OpOf Edit)) (d:Int) (s:Wst) (rest out:List Tree),(∀ o∈os,Zf list o d=true)→N0s s→K9 list rest→OptR Rx (ZK false (Z1 (Zo list os s)).out rest out) (ZK false ((Z1 s).out++os) rest out)
 | [],d,s,rest,out,_,_,_=> by rw [Zo,List.append_nil];exact Rx.rfl' _
 | o ::r,d,s,rest,out,hr,hs,hk=> by
  have ho:=hr o List.mem_cons_self
  have st:=Zp0 hs ho hk out (Zmo o d)
  rw [Zo]
  refine Rx.trans (ZeB list r d _ rest out (fun q hq=> hr q (List.mem_cons_of_mem _ hq)) (hs.op ho) hk) ?_
  rw [Z2K,Z2K]
  have e:∀ x:List Tree × List Tree,ZK false (o ::r) x.2 x.1=(Z3j false o x.2 x.1).bind fun y=> ZK false r y.2 y.1:=fun x=> by rw [ZK]
  rw [show (fun x:List Tree × List Tree=> ZK false (o ::r) x.2 x.1)=fun x=> (Z3j false o x.2 x.1).bind fun y=> ZK false r y.2 y.1 from funext e,←Option.bind_assoc]
  exact st.bind fun x y hxy=> Zb6 r _ _ _ _ hxy.2 hxy.1 (fun q hq=> ⟨_,_,hr q (List.mem_cons_of_mem _ hq)⟩)
theorem Zmo:∀ (o:OpOf Edit) (d:Int),∀ y,RT_ y→Z4 o.e d=true→OptR Eqv (doE false (Zz o.e) y) (doE false o.e y)
 | ⟨_,_,_,e⟩,d,y,hy,hr=> Zga e d y hr hy
end
end Go.AM.Ytpjenobkibfpcaa
namespace Go.AM.Ytpjenobkibfpcaa
open Go.AM Go.Proofs
theorem Z8I:∀ {ks:List Kid} {k:Kid},k∈ks→Zg k.e≤ZN ks
 | ⟨_,_⟩ ::r,k,h=> by
  rcases List.mem_cons.1 h with rfl | h
  ·simp only [ZN,JN];omega
  ·have:=Z8I h;simp only [ZN];omega
theorem Z8H:∀ {os:List Op} {o:Op},o∈os→ZX o≤Zd os
 | a ::r,o,h=> by
  rcases List.mem_cons.1 h with rfl | h
  ·simp only [Zd];omega
  ·have:=Z8H h;simp only [Zd];omega
theorem Zk8(o:Op):Zg o.e≤ZX o:=by obtain ⟨k,n,l,e⟩:=o;simp only [ZX];omega
theorem Z7X{e:Edit}{k:Kid}(h:k∈e.kids):Zg k.e < Zg e:=by
 obtain ⟨kk,o,n,w,ks,l,os⟩:=e
 have:=Z8I (ks:=ks) h
 simp only [Zg];omega
theorem ZaN{e:Edit}{o:Op}(h:o∈e.ops):Zg o.e < Zg e:=by
 obtain ⟨kk,ol,n,w,ks,l,os⟩:=e
 have:=Z8H (os:=os) h
 have:=Zk8 o
 simp only [Zg];omega
mutual
theorem JC:∀ (t:Tree) (d m:Int),m < 0→Z9 t d=true→Z9 t m=true
 | .mk k w ks,d,m,hm,h=> by
  rw [Z9] at h ⊢
  by_cases h0:k=0
  ·rw [if_pos h0] at h ⊢;exact h
  ·rw [if_neg h0] at h ⊢
   by_cases h1:k=10
   ·rw [if_pos h1] at h ⊢;exact h
   ·rw [if_neg h1] at h ⊢
    by_cases h2:d=0
    ·rw [if_pos h2] at h;cases h
    ·rw [if_neg h2] at h
     rw [if_neg (by omega)]
     by_cases h3:k=1
     ·rw [if_pos h3,Bool.and_eq_true] at h ⊢
      exact ⟨h.1,Z5u 1 ks (d - 1) (m - 1) (by omega) h.2⟩
     ·rw [if_neg h3,Bool.and_eq_true] at h ⊢
      exact ⟨h.1,Z5u k ks (d - 1) (m - 1) (by omega) h.2⟩
theorem Z5u(list:Int):∀ (ks:List Tree) (d m:Int),m < 0→ZT list ks d=true→ZT list ks m=true
 | [],_,_,_,_=> rfl
 | t ::r,d,m,hm,h=> by
  simp only [ZT,Bool.and_eq_true] at h ⊢
  exact ⟨⟨h.1.1,JC t d m hm h.1.2⟩,Z5u list r d m hm h.2⟩
end
theorem RT_.neg{t:Tree}(h:RT_ t):Z9 t (-1)=true:=by
 obtain ⟨⟨d,h⟩,_⟩:=h
 exact JC t d (-1) (by decide) h
theorem Z1q{list d:Int}:∀ {ks:List Tree},ZT list ks d=true↔∀ t∈ks,Jz list t=true∧Z9 t d=true
 | []=> by simp [ZT]
 | t ::r=> by
  simp only [ZT,Bool.and_eq_true,Z1q (ks:=r),List.mem_cons,forall_eq_or_imp]
theorem Z3M{t:Tree}(h:Z9 t (-1)=true):t.kind≠0→t.kind≠10→
  (t.kind=1→t.words.length < 65536∧t.kids.length < 65536)∧(t.kind≠1→(2≤t.kind∧t.kind≤9)∧t.words=[]∧t.kids.length < 1048576)∧∀ k∈t.kids,Jz t.kind k=true∧Z9 k (-1)=true:=by
 obtain ⟨k,w,ks⟩:=t
 intro h0 h1
 have h0:k≠0:=h0
 have h1:k≠10:=h1
 rw [Z9,if_neg h0,if_neg h1,if_neg (by decide)] at h
 by_cases h3:k=1
 ·rw [if_pos h3,Bool.and_eq_true,decide_eq_true_eq,Z1q] at h
  subst h3
  exact ⟨fun _=> h.1,fun e=> absurd rfl e,fun x hx=> ⟨(h.2 x hx).1,JC _ _ _ (by decide) (h.2 x hx).2⟩⟩
 ·rw [if_neg h3,Bool.and_eq_true,decide_eq_true_eq,Z1q] at h
  exact ⟨fun e=> absurd e h3,fun _=> ⟨⟨h.1.1,h.1.2.1⟩,List.eq_nil_of_length_eq_zero h.1.2.2.1,h.1.2.2.2⟩,fun x hx=> ⟨(h.2 x hx).1,JC _ _ _ (by decide) (h.2 x hx).2⟩⟩
theorem ZcF{w:List Int}{ks:List Tree}(h1:w.length < 65536)(h2:ks.length < 65536)(h:∀ k∈ks,Jz 1 k=true∧Z9 k (-1)=true):Z9 (.mk 1 w ks) (-1)=true:=by
 rw [Z9,if_neg (by decide),if_neg (by decide),if_neg (by decide),if_pos rfl,Bool.and_eq_true,decide_eq_true_eq,Z1q]
 exact ⟨⟨h1,h2⟩,fun x hx=> ⟨(h x hx).1,JC _ _ _ (by decide) (h x hx).2⟩⟩
theorem ZfQ{l:Int}{ks:List Tree}(hl:2≤l∧l≤9)(h2:ks.length < 1048576)(h:∀ k∈ks,Jz l k=true∧Z9 k (-1)=true):Z9 (.mk l [] ks) (-1)=true:=by
 rw [Z9,if_neg (by omega),if_neg (by omega),if_neg (by decide),if_neg (by omega),Bool.and_eq_true,decide_eq_true_eq,Z1q]
 exact ⟨⟨hl.1,hl.2,rfl,h2⟩,fun x hx=> ⟨(h x hx).1,JC _ _ _ (by decide) (h x hx).2⟩⟩
theorem Z8f{D list:Int}:∀ {l:List Tree},YB D list l=true→∀ t∈l,Z9 (.mk list [] [t]) D=true
 | a ::r,h,t,ht=> by
  simp only [YB,Bool.and_eq_true] at h
  rcases List.mem_cons.1 ht with rfl | ht
  ·exact h.1
  ·exact Z8f h.2 t ht
theorem Zbl{D list:Int}(hl:2≤list∧list≤9){l:List Tree}(h:YB D list l=true):∀ t∈l,Jz list t=true∧Z9 t (-1)=true:=by
 intro t ht
 have:=Z3M (JC _ _ (-1) (by decide) (Z8f h t ht)) (by show list≠0;omega) (by show list≠10;omega)
 exact this.2.2 t (by simp)
inductive Run:List Op→List Tree→List Tree→Prop
 | nil:Run [] [] []
 | keep {o r a s d}:o.kind=0→(a.length:Int)=o.n→Run r s d→Run (o ::r) (a++s) (a++d)
 | gone {o r a s d}:o.kind=1→Z5 o.l=Z5 a→Run r s d→Run (o ::r) (a++s) d
 | come {o r s d}:o.kind=2→Run r s d→Run (o ::r) s (o.l++d)
 | into {o r x y s d}:o.kind=3→doE false o.e x=some y→Run r s d→Run (o ::r) (x ::s) (y ::d)
def kOk(o:Op):Prop:=(o.kind=0∧0≤o.n)∨o.kind=1∨o.kind=2∨o.kind=3
theorem ZrX:∀ {os:List Op} {s d:List Tree},Run os s d→∀ out,ZK false os s out=some (out++d,[]):=by
 intro os s d h
 induction h with
 | nil=> intro out;simp [ZK]
 | keep h0 hn hr0 ih=>
  rename_i o r a s d
  intro out
  rw [ZK,Yk,if_pos h0,if_pos (by rw [List.length_append];omega),show o.n.toNat=a.length by omega]
  simp only [Option.bind_some,List.take_left,List.drop_left]
  rw [ih,List.append_assoc]
 | gone h1 hn hr0 ih=>
  rename_i o r a s d
  intro out
  have hl:=Z7O hn
  rw [ZK,Yk,if_neg (by omega),if_pos h1,if_pos]
  ·simp only [Option.bind_some]
   rw [hl,List.drop_left,ih]
  ·rw [Z2H,hl,List.take_left]
   exact ⟨by simp,hn⟩
 | come h2 hr0 ih=>
  intro out
  rw [ZK,Yk,if_neg (by omega),if_neg (by omega),if_pos h2]
  simp only [Option.bind_some]
  rw [ih,List.append_assoc]
 | into h3 he hr0 ih=>
  intro out
  rw [ZK,Yk,if_neg (by omega),if_neg (by omega),if_neg (by omega),if_neg (by simp)]
  simp only [List.getD_cons_zero,he,Option.map_some,Option.bind_some,List.drop_succ_cons,List.drop_zero]
  rw [ih,List.append_assoc]
  try rfl
theorem Zb4:∀ {os:List Op} {s out:List Tree} {x:List Tree × List Tree},(∀ o∈os,kOk o)→ZK false os s out=some x→x.2=[]→∃ d,x.1=out++d∧Run os s d
 | [],s,out,x,_,h,hx=> by
  rw [ZK] at h
  cases h
  have hx:s=[]:=hx
  subst hx
  exact ⟨[],by simp,.nil⟩
 | o ::r,s,out,x,hk,h,hx=> by
  rw [ZK,Yk] at h
  have hr:∀ o∈r,kOk o:=fun o ho=> hk o (List.mem_cons_of_mem _ ho)
  rcases hk o List.mem_cons_self with h0 | h1 | h2 | h3
  ·rw [if_pos h0.1] at h
   split at h
   ·rename_i hl
    simp only [Option.bind_some] at h
    obtain ⟨d,e,hd⟩:=Zb4 hr h hx
    refine ⟨s.take o.n.toNat++d,by rw [e,List.append_assoc],?_⟩
    have:=Run.keep (a:=s.take o.n.toNat) h0.1 (by rw [List.length_take];omega) hd
    rwa [List.take_append_drop] at this
   ·cases h
  ·rw [if_neg (by omega),if_pos h1] at h
   split at h
   ·rename_i hg
    obtain ⟨g1,g2⟩:=(Z2H _ _).1 hg
    simp only [Option.bind_some] at h
    obtain ⟨d,e,hd⟩:=Zb4 hr h hx
    refine ⟨d,e,?_⟩
    have:=Run.gone (a:=s.take o.l.length) h1 g2 hd
    rwa [List.take_append_drop] at this
   ·cases h
  ·rw [if_neg (by omega),if_neg (by omega),if_pos h2] at h
   simp only [Option.bind_some] at h
   obtain ⟨d,e,hd⟩:=Zb4 hr h hx
   exact ⟨o.l++d,by rw [e,List.append_assoc],.come h2 hd⟩
  ·rw [if_neg (by omega),if_neg (by omega),if_neg (by omega)] at h
   split at h
   ·cases h
   ·rename_i hl
    obtain ⟨y,hy,h⟩:=Option.bind_eq_some_iff.1 h
    obtain ⟨z,hz,rfl⟩:=Option.map_eq_some_iff.1 hy
    obtain ⟨d,e,hd⟩:=Zb4 hr h hx
    cases s with
    | nil=> simp at hl
    | cons x0 s=>
     refine ⟨z ::d,by rw [e];simp,.into h3 (by simpa using hz) (by simpa using hd)⟩
theorem Zin{os:List Op}{s d:List Tree}(hk:∀ o∈os,kOk o):Z2J (ZK false os s [])=some d↔Run os s d:=by
 constructor
 ·intro h
  unfold Z2J at h
  obtain ⟨x,hx,h⟩:=Option.bind_eq_some_iff.1 h
  split at h
  ·rename_i hl
   cases h
   obtain ⟨d,e,hd⟩:=Zb4 hk hx (List.eq_nil_of_length_eq_zero hl)
   rw [e];exact hd
  ·cases h
 ·intro h
  have:=ZrX h []
  unfold Z2J
  rw [this]
  simp
theorem Zkl{list d:Int}{o:Op}(h:Zf list o d=true):kOk o:=by
 have:=Yf h
 cases this with
 | keep n h1=> exact .inl ⟨rfl,by show 0≤n;omega⟩
 | gone=> exact .inr (.inl rfl)
 | come=> exact .inr (.inr (.inl rfl))
 | into=> exact .inr (.inr (.inr rfl))
theorem Zp3:∀ {os:List Op} {s d:List Tree},Run os s d→(∀ o∈os,Z7H o)→(s.length:Int)=YQ os∧(d.length:Int)=YW os:=by
 intro os s d h
 induction h with
 | nil=> intro _;simp [YQ,YW]
 | keep h0 hn hr0 ih=>
  rename_i o r a s d
  intro hk
  obtain ⟨i1,i2⟩:=ih fun o ho=> hk o (List.mem_cons_of_mem _ ho)
  have ho:=hk o List.mem_cons_self
  have hl:Zr o=o.n:=by
   rcases ho with h | h | h
   ·unfold Zr;rw [if_neg (by omega),h.2.1];simp
   ·omega
   ·omega
  simp only [YQ,YW,List.length_append]
  rw [if_neg (by omega),if_neg (by omega),hl]
  omega
 | gone h1 hn hr0 ih=>
  rename_i o r a s d
  intro hk
  obtain ⟨i1,i2⟩:=ih fun o ho=> hk o (List.mem_cons_of_mem _ ho)
  have ho:=hk o List.mem_cons_self
  have hl:Zr o=a.length:=by
   have:=Z7O hn
   rcases ho with h | h | h
   ·omega
   ·unfold Zr;rw [if_neg (by omega),h.2.1];omega
   ·omega
  simp only [YQ,YW,List.length_append]
  rw [if_neg (by omega),if_pos h1,hl]
  omega
 | come h2 hr0 ih=>
  rename_i o r s d
  intro hk
  obtain ⟨i1,i2⟩:=ih fun o ho=> hk o (List.mem_cons_of_mem _ ho)
  have ho:=hk o List.mem_cons_self
  have hl:Zr o=o.l.length:=by
   rcases ho with h | h | h
   ·omega
   ·unfold Zr;rw [if_neg (by omega),h.2.1];omega
   ·omega
  simp only [YQ,YW,List.length_append]
  rw [if_pos h2,if_neg (by omega),hl]
  omega
 | into h3 he hr0 ih=>
  rename_i o r x y s d
  intro hk
  obtain ⟨i1,i2⟩:=ih fun o ho=> hk o (List.mem_cons_of_mem _ ho)
  have hl:Zr o=1:=by unfold Zr;rw [if_pos h3]
  simp only [YQ,YW,List.length_cons]
  rw [if_neg (by omega),if_neg (by omega),hl]
  omega
end Go.AM.Ytpjenobkibfpcaa
namespace Go.AM.Ytpjenobkibfpcaa
open Go.AM Go.Proofs
theorem Zfh{r:Bool}{tk:List Tree}:∀ {ks:List Kid} {out b:List Tree},JB r tk ks out=some b→(∀ k∈ks,k.at_≤65534)→
  b.length≤max out.length 65535∧∀ y∈b,y∈out∨y=Tree.nil∨∃ k∈ks,doE r k.e (tk.getD k.at_.toNat Tree.nil)=some y
 | [],out,b,h,_=> by
  rw [JB] at h
  cases h
  exact ⟨by omega,fun y hy=> .inl hy⟩
 | k ::s,out,b,h,ha=> by
  rw [JB,Zb7] at h
  obtain ⟨v,hv,hb⟩:=Option.bind_eq_some_iff.1 h
  obtain ⟨i1,i2⟩:=Zfh hb fun x hx=> ha x (List.mem_cons_of_mem _ hx)
  have:=ha k List.mem_cons_self
  rw [Z5b] at i1
  refine ⟨by omega,fun y hy=> ?_⟩
  rcases i2 y hy with h1 | h1 | ⟨q,hq,h1⟩
  ·rcases Z5p h1 with h1 | h1 | h1
   ·exact .inl h1
   ·exact .inr (.inl h1)
   ·subst h1
    exact .inr (.inr ⟨k,List.mem_cons_self,hv⟩)
  ·exact .inr (.inl h1)
  ·exact .inr (.inr ⟨q,List.mem_cons_of_mem _ hq,h1⟩)
theorem Zp2:∀ {os:List Op} {s d:List Tree},Run os s d→∀ y∈d,y∈s∨(∃ o∈os,o.kind=2∧y∈o.l)∨∃ o∈os,o.kind=3∧∃ x∈s,doE false o.e x=some y:=by
 intro os s d h
 induction h with
 | nil=> intro y hy;cases hy
 | keep h0 hn hr0 ih=>
  intro y hy
  rcases List.mem_append.1 hy with hy | hy
  ·exact .inl (List.mem_append_left _ hy)
  ·rcases ih y hy with h | ⟨o,ho,h⟩ | ⟨o,ho,hk,x,hx,h⟩
   ·exact .inl (List.mem_append_right _ h)
   ·exact .inr (.inl ⟨o,List.mem_cons_of_mem _ ho,h⟩)
   ·exact .inr (.inr ⟨o,List.mem_cons_of_mem _ ho,hk,x,List.mem_append_right _ hx,h⟩)
 | gone h1 hn hr0 ih=>
  intro y hy
  rcases ih y hy with h | ⟨o,ho,h⟩ | ⟨o,ho,hk,x,hx,h⟩
  ·exact .inl (List.mem_append_right _ h)
  ·exact .inr (.inl ⟨o,List.mem_cons_of_mem _ ho,h⟩)
  ·exact .inr (.inr ⟨o,List.mem_cons_of_mem _ ho,hk,x,List.mem_append_right _ hx,h⟩)
 | come h2 hr0 ih=>
  intro y hy
  rcases List.mem_append.1 hy with hy | hy
  ·exact .inr (.inl ⟨_,List.mem_cons_self,h2,hy⟩)
  ·rcases ih y hy with h | ⟨o,ho,h⟩ | ⟨o,ho,hk,x,hx,h⟩
   ·exact .inl h
   ·exact .inr (.inl ⟨o,List.mem_cons_of_mem _ ho,h⟩)
   ·exact .inr (.inr ⟨o,List.mem_cons_of_mem _ ho,hk,x,hx,h⟩)
 | into h3 he hr0 ih=>
  intro y hy
  rcases List.mem_cons.1 hy with rfl | hy
  ·exact .inr (.inr ⟨_,List.mem_cons_self,h3,_,List.mem_cons_self,he⟩)
  ·rcases ih y hy with h | ⟨o,ho,h⟩ | ⟨o,ho,hk,x,hx,h⟩
   ·exact .inl (List.mem_cons_of_mem _ h)
   ·exact .inr (.inl ⟨o,List.mem_cons_of_mem _ ho,h⟩)
   ·exact .inr (.inr ⟨o,List.mem_cons_of_mem _ ho,hk,x,List.mem_cons_of_mem _ hx,h⟩)
theorem Ztd{y:Tree}(h:y.kind≠10):Jz 1 y=true:=by
 unfold Jz
 rw [if_neg (by decide),if_neg (by decide)]
 exact decide_eq_true h
theorem Z5I{list d:Int}{os:List Op}(h:ZB list os d=true):∀ o∈os,Z7H o:=fun o ho=> ZfU (rightOs_mem h ho)
theorem Z6o{o:Op}(h:Z7H o):0≤Zr o:=by have:=Z7I h;omega
theorem ZiM{e:Edit}{d:Int}{t u:Tree}(hr:Z4 e d=true)(h:doE false e t=some u):(e.kind=1→u=e.new)∧(e.kind=2→u.kind=1∧t.kind=1)∧(e.kind=3→u.kind=e.list∧t.kind=e.list)∧(e.kind=0→u=t):=by
 rw [Z0e,Yx] at h
 refine ⟨fun hk=> ?_,fun hk=> ?_,fun hk=> ?_,fun hk=> ?_⟩
 ·rw [if_neg (by omega),if_pos hk] at h
  split at h
  ·exact (Option.some.inj h).symm
  ·cases h
 ·rw [if_neg (by omega),if_neg (by omega),if_pos hk] at h
  split at h
  ·rename_i ht
   obtain ⟨a,ha,h⟩:=Option.bind_eq_some_iff.1 h
   obtain ⟨b,hb,rfl⟩:=Option.map_eq_some_iff.1 h
   exact ⟨rfl,ht⟩
  ·cases h
 ·rw [if_neg (by omega),if_neg (by omega),if_neg (by omega),if_pos hk] at h
  split at h
  ·rename_i ht
   obtain ⟨b,hb,rfl⟩:=Option.map_eq_some_iff.1 h
   exact ⟨rfl,ht⟩
  ·cases h
 ·rw [if_pos hk] at h
  exact (Option.some.inj h).symm
theorem Zku:∀ (n:Nat) (e:Edit) (d:Int) (t u:Tree),Zg e≤n→Z4 e d=true→Z9 t (-1)=true→doE false e t=some u→Z9 u (-1)=true∧(e.kind≠0→u.kind≠10):=by
 intro n
 induction n with
 | zero=> intro e d t u hm;obtain ⟨k,o,nw,w,ks,l,os⟩:=e;simp only [Zg] at hm;omega
 | succ n ih=>
  intro e d t u hm hr ht h
  have R:=J3 hr
  obtain ⟨k1,k2,k3,k0⟩:=ZiM hr h
  have hk:=R.kind
  by_cases h0:e.kind=0
  ·rw [k0 h0];exact ⟨ht,fun q=> absurd h0 q⟩
  by_cases h1:e.kind=1
  ·rw [k1 h1]
   obtain ⟨r1,r2,r3,r4⟩:=R.rep h1
   exact ⟨JC _ _ _ (by decide) r2,fun _=> r4⟩
  by_cases h2:e.kind=2
  ·obtain ⟨u1,t1⟩:=k2 h2
   refine ⟨?_,fun _=> by omega⟩
   rw [Z0e,Yx,if_neg h0,if_neg h1,if_pos h2,if_pos t1] at h
   obtain ⟨a,ha,h⟩:=Option.bind_eq_some_iff.1 h
   obtain ⟨b,hb,rfl⟩:=Option.map_eq_some_iff.1 h
   obtain ⟨p1,_,p3⟩:=Z3M ht (by omega) (by omega)
   have p1:=p1 t1
   rw [t1] at p3
   have hl:=Zct R.words ha
   have ha':=J2 R.kids
   obtain ⟨m1,m2⟩:=Zfh hb fun k hk=> (ha' k hk).1.2.1
   refine ZcF (by omega) (by omega) fun y hy=> ?_
   rcases m2 y hy with h | rfl | ⟨k,hk,h⟩
   ·exact p3 y h
   ·exact ⟨rfl,rfl⟩
   ·have hx:Z9 (t.kids.getD k.at_.toNat Tree.nil) (-1)=true:=by
     by_cases hi:k.at_.toNat < t.kids.length
     ·rw [List.getD_eq_getElem?_getD,List.getElem?_eq_getElem hi]
      exact (p3 _ (List.getElem_mem hi)).2
     ·rw [List.getD_eq_getElem?_getD,List.getElem?_eq_none (by omega)];try rfl
    obtain ⟨g1,g2⟩:=ih k.e _ _ y (by have:=Z7X hk;omega) (ha' k hk).2 hx h
    exact ⟨Ztd (g2 (ha' k hk).1.2.2),g1⟩
  ·have h3:e.kind=3:=by omega
   obtain ⟨u1,t1⟩:=k3 h3
   have hli:=R.list h3
   refine ⟨?_,fun _=> by omega⟩
   rw [Z0e,Yx,if_neg h0,if_neg h1,if_neg h2,if_pos h3,if_pos t1] at h
   obtain ⟨b,hb,rfl⟩:=Option.map_eq_some_iff.1 h
   have ho:∀ o∈e.ops,Zf e.list o (d - 1)=true:=fun o h=> rightOs_mem R.ops h
   have hrun:=(Zin (fun o h=> Zkl (ho o h))).1 hb
   obtain ⟨_,q2⟩:=Zp3 hrun (Z5I R.ops)
   obtain ⟨q3,q4⟩:=Z48 e.ops 0 (fun o h=> Z6o (Z5I R.ops o h)) (by decide) (by decide)
   have q5:=R.len.2
   obtain ⟨_,_,p3⟩:=Z3M ht (by omega) (by omega)
   rw [t1] at p3
   refine ZfQ hli (by omega) fun y hy=> ?_
   rcases Zp2 hrun y hy with h | ⟨o,hoo,hk2,hyl⟩ | ⟨o,hoo,hk3,x,hx,h⟩
   ·exact p3 y h
   ·have:=Yf (ho o hoo)
    cases this with
    | come l h1 h2=> exact Zbl hli h1 y hyl
    | keep | gone | into=> exact absurd hk2 (by simp)
   ·have:=Yf (ho o hoo)
    cases this with
    | into e' g1 g2 g3 g4=>
     obtain ⟨f1,f2⟩:=ih e' _ x y (by have:=ZaN hoo;dsimp only at this;omega) g1 (p3 x hx).2 h
     refine ⟨?_,f1⟩
     obtain ⟨j1,j2,_,_⟩:=ZiM g1 h
     unfold Jz
     rw [if_neg (by omega)]
     by_cases hl9:e.list=9
     ·rw [if_pos hl9]
      refine decide_eq_true ?_
      rcases g4 with q | q | q
      ·omega
      ·exact (j2 q).1
      ·rw [j1 q.1];exact q.2.2
     ·rw [if_neg hl9]
      exact decide_eq_true (f2 g2)
    | keep | gone | come=> exact absurd hk3 (by simp)
theorem Zfg{e:Edit}{d:Int}{t u:Tree}(hr:Z4 e d=true)(ht:RT_ t)(he:Y1 e)(h:doE false e t=some u):RT_ u:=
 ⟨⟨-1,(Zku _ e d t u (Nat.le_refl _) hr ht.neg h).1⟩,ZfO false e t u he ht.2 h⟩
end Go.AM.Ytpjenobkibfpcaa
namespace Go.AM.Ytpjenobkibfpcaa
open Go.AM Go.Proofs
theorem Zlx{o:Op}{r:List Op}{s d:List Tree}(h0:o.kind=0):Run (o ::r) s d↔∃ a s' d',s=a++s'∧d=a++d'∧(a.length:Int)=o.n∧Run r s' d':=by
 constructor
 ·intro h
  cases h with
  | keep _ h2 h3=> exact ⟨_,_,_,rfl,rfl,h2,h3⟩
  | gone h1=> omega
  | come h1=> omega
  | into h1=> omega
 ·rintro ⟨a,s',d',rfl,rfl,h2,h3⟩
  exact .keep h0 h2 h3
theorem Zly{o:Op}{r:List Op}{s d:List Tree}(h0:o.kind=3):Run (o ::r) s d↔∃ x s' y d',s=x ::s'∧d=y ::d'∧doE false o.e x=some y∧Run r s' d':=by
 constructor
 ·intro h
  cases h with
  | into _ h2 h3=> exact ⟨_,_,_,_,rfl,rfl,h2,h3⟩
  | keep h1=> omega
  | gone h1=> omega
  | come h1=> omega
 ·rintro ⟨x,s',y,d',rfl,rfl,h2,h3⟩
  exact .into h0 h2 h3
theorem Zp4{d:List Tree}{s:List Tree}(h:Run [] s d):s=[]∧d=[]:=by cases h;exact ⟨rfl,rfl⟩
end Go.AM.Ytpjenobkibfpcaa
namespace Go.AM.Ytpjenobkibfpcaa
open Go.AM Go.Proofs
theorem Zaa{e:Edit}{d:Int}(h:Z4 e d=true):∀ o∈e.ops,Z7H o:=Z5I (J3 h).ops
end Go.AM.Ytpjenobkibfpcaa
namespace Go.AM.Ytpjenobkibfpcaa
open Go.AM Go.Proofs
theorem Znk(t:Tree):Eqv (Z6 t) t:=Jv t
theorem Zx6{e:Edit}(h:e.kind=2)(t:Tree):doE false e t=if t.kind=1 then (wsD t.words e.words t.words).bind fun a=> (JB false t.kids e.kids t.kids).map fun b=> .mk 1 a b else none:=by
 rw [Z0e,Yx,if_neg (by omega),if_neg (by omega),if_pos h]
theorem Zx5{e:Edit}(h:e.kind=3)(t:Tree):doE false e t=if t.kind=e.list then (Z2J (ZK false e.ops t.kids [])).map fun b=> .mk e.list [] b else none:=by
 rw [Z0e,Yx,if_neg (by omega),if_neg (by omega),if_neg (by omega),if_pos h]
theorem ZvI(w:List WEdit)(ks:List Kid)(t:Tree):doE false (.mk 2 Tree.nil Tree.nil w ks 0 []) t=if t.kind=1 then (wsD t.words w t.words).bind fun a=> (JB false t.kids ks t.kids).map fun b=> .mk 1 a b else none:=Zx6 rfl t
theorem ZvH(l:Int)(os:List Op)(t:Tree):doE false (.mk 3 Tree.nil Tree.nil [] [] l os) t=if t.kind=l then (Z2J (ZK false os t.kids [])).map fun b=> .mk l [] b else none:=Zx5 rfl t
end Go.AM.Ytpjenobkibfpcaa
namespace Go.AM.Ytpjenobkibfpcaa
open Go.AM Go.Proofs
theorem Z7L(list:Int):∀ (a b:List Op) (w:Wst),Zo list (a++b) w=Zo list b (Zo list a w)
 | [],_,_=> rfl
 | o ::r,b,w=> by simp only [List.cons_append,Zo,Z7L list r b]
theorem ZaW(o:Op)(n:Int):∀ l:List Op,Y8 (l++[o]) n=if o.kind=0 then l++[⟨o.kind,o.n+n,o.l,o.e⟩] else l++[o,⟨0,n,[],Edit.nil⟩]
 | []=> by simp only [List.nil_append,Y8]
 | [a]=> by simp only [List.cons_append,List.nil_append,Y8];split <;> rfl
 | a ::b ::r=> by
  have:=ZaW o n (b ::r)
  simp only [List.cons_append] at this ⊢
  rw [Y8,this]
  split <;> rfl
theorem Zkq(x:List Op):(Z1 ⟨x,[],[]⟩).out=x:=by simp [Z1,YD]
theorem Z4c(w:Wst)(a b:Int):Zy (Zy w a) b=Zy w (a+b):=by
 unfold Zy
 rw [Zkq,Z4d]
structure Alike (c r:Edit × Bool):Prop where
 ok:c.2=r.2
 nrm:c.2=true→Zz c.1=Zz r.1
end Go.AM.Ytpjenobkibfpcaa
namespace Go.AM.Ytpjenobkibfpcaa
open Go.AM Go.Proofs
section
variable {g:Edit→Edit→Edit × Bool}
end
theorem Zsd(l:Int)(os:List Op):Zz (.mk 3 Tree.nil Tree.nil [] [] l os)= .mk 3 Tree.nil Tree.nil [] [] l (Z1 (Zo l os ⟨[],[],[]⟩)).out:=by rw [Zz,if_neg (by decide),if_neg (by decide),if_pos rfl]
end Go.AM.Ytpjenobkibfpcaa
namespace Go.AM.Ytpjenobkibfpcaa
open Go.AM Go.Proofs
def φA(o:Op):Int:=if o.kind=2 then 0 else Zr o
def φB(o:Op):Int:=if o.kind=1 then 0 else Zr o
def φC(o:Op):Int:=Zb o.l+ctE o.e - 18
end Go.AM.Ytpjenobkibfpcaa
namespace Go.AM.Ytpjenobkibfpcaa
open Go.AM Go.Proofs
structure Wk (e:Edit):Prop where
 r:Z4 e (-1)=true
 g:Y1 e
end Go.AM.Ytpjenobkibfpcaa
namespace Go.AM.Ytpjenobkibfpcaa
open Go.AM Go.Proofs
theorem Z5N:Zg Edit.nil=3:=rfl
theorem Zib(e:Edit):3≤Zg e:=by
 obtain ⟨k,o,n,w,ks,l,os⟩:=e
 have:=Z1C o
 have:=Z1C n
 simp only [Zg];omega
end Go.AM.Ytpjenobkibfpcaa
namespace Go.AM.Ytpjenobkibfpcaa
open Go.AM Go.Proofs
mutual
def utE:Edit→Nat
 | .mk _ o n w ks _ os=> 16+Zj o+Zj n+65600*w.length+Zln ks+Zjy os
def Zln:List (KidOf Edit)→Nat
 | []=> 0
 | k ::r=> Zr6 k+Zln r
def Zr6:KidOf Edit→Nat
 | ⟨_,e⟩=> 65600+utE e
def Zjy:List (OpOf Edit)→Nat
 | []=> 0
 | o ::r=> ZoZ o+Zjy r
def ZoZ:OpOf Edit→Nat
 | ⟨k,n,l,e⟩=> if k=3 then 16+utE e else 34*(n.toNat+l.length)+Zb l
end
theorem ZrT(e:Edit):utE e=16+Zj e.old+Zj e.new+65600*e.words.length+Zln e.kids+Zjy e.ops:=by cases e;rfl
theorem Zlo(k:Kid):Zr6 k=65600+utE k.e:=by cases k;rfl
theorem ZoY(o:Op):ZoZ o=if o.kind=3 then 16+utE o.e else 34*(o.n.toNat+o.l.length)+Zb o.l:=by cases o;rfl
theorem Zlm:∀ (n:Nat) (e:Edit),Zg e≤n→(∃ d,Z4 e d=true)→JQ e=true→utE e+131100≤65600*Zg e+150000*Zg e:=by
 intro n
 induction n with
 | zero=> intro e h;have:=Zib e;omega
 | succ n ih=>
  intro e hn ⟨d,hr⟩ hl
  have R:=J3 hr
  have hm:=Zib e
  have me:Zg e=1+Zj e.old+Zj e.new+e.words.length+e.ops.length+ZN e.kids+Zd e.ops:=by cases e;rfl
  have mo:=Z1C e.old
  have mn:=Z1C e.new
  rw [Zc8,Bool.and_eq_true,Bool.and_eq_true,decide_eq_true_eq] at hl
  obtain ⟨⟨l1,l2⟩,l3⟩:=hl
  have hk:∀ l:List Kid,(∀ k∈l,k∈e.kids)→Z0U l=true→Zln l≤215600*ZN l:=by
   intro l
   induction l with
   | nil=> intro _ _;exact Nat.le_refl _
   | cons a r ihl=>
    intro h hl
    simp only [Z0U,Bool.and_eq_true,Z8N] at hl
    have ha:=h a List.mem_cons_self
    have:=Z7X ha
    have:=ih a.e (by omega) ⟨_,(J2 R.kids a ha).2⟩ hl.1
    have:=ihl (fun k hk=> h k (List.mem_cons_of_mem _ hk)) hl.2
    simp only [Zln,ZN,Zlo,Z7U];omega
  have ook:=Zaa hr
  have ho:∀ l:List Op,(∀ o∈l,o∈e.ops)→Z21 l=true→(Zjy l:Int)≤215600*Zd l+34*Z2e l+16*l.length:=by
   intro l
   induction l with
   | nil=> intro _ _;simp [Zjy,Zd,Z2e]
   | cons a r ihl=>
    intro h hl
    simp only [Z21,Bool.and_eq_true,ZaT] at hl
    have ha:=h a List.mem_cons_self
    have:=ihl (fun k hk=> h k (List.mem_cons_of_mem _ hk)) hl.2
    have hr:=rightOs_mem R.ops ha
    have key:(ZoZ a:Int)≤215600*ZX a+34*Zr a+16:=by
     have me:=ZaN ha
     have ml:=Zs a.l
     rw [ZoY,Yg]
     have rt:=Yf hr
     have hp:=Z6p a
     cases rt with
     | keep n h1 h2=> rw [if_neg (show ¬(0:Int)=3 by decide)];rw [if_neg (show ¬(0:Int)=3 by decide)] at hp;simp only [Zb,List.length_nil,Z5N] at*;omega
     | gone l h1 h2=> rw [if_neg (show ¬(1:Int)=3 by decide)];rw [if_neg (show ¬(1:Int)=3 by decide)] at hp;dsimp only at*;simp only [Z5N] at*;omega
     | come l h1 h2=> rw [if_neg (show ¬(2:Int)=3 by decide)];rw [if_neg (show ¬(2:Int)=3 by decide)] at hp;dsimp only at*;simp only [Z5N] at*;omega
     | into e' h1 h2=>
      rw [if_pos rfl] at hp ⊢
      have:=ih e' (by dsimp only at me;omega) ⟨_,h1⟩ hl.1
      simp only [Zb];omega
    simp only [Zjy,Zd,Z2e,List.length_cons];omega
  have h1:=hk e.kids (fun k h=> h) l2
  have h2:=ho e.ops (fun k h=> h) l3
  have h3:=kids_sum ook
  have h4:YQ e.ops≤2000∧YW e.ops≤2000:=by
   have ok:∀ o∈e.ops,0≤Zr o:=fun o ho=> Z6o (ook o ho)
   have a:=Z49 e.ops 0 ok (by decide) (by decide)
   have b:=Z48 e.ops 0 ok (by decide) (by decide)
   omega
  rw [ZrT,me]
  omega
where
 kids_sum:∀ {l:List Op},(∀ o∈l,Z7H o)→Z2e l≤YQ l+YW l
  | [],_=> by simp [Z2e,YQ,YW]
  | o ::r,h=> by
   have h1:=Z7I (h o List.mem_cons_self)
   have h2:=kids_sum fun x hx=> h x (List.mem_cons_of_mem _ hx)
   simp only [Z2e,YQ,YW]
   split <;> split <;> omega
def φU(o:Op):Int:=ZoZ o
end Go.AM.Ytpjenobkibfpcaa
namespace Go.AM.Ytpjenobkibfpcaa
open Go.AM Go.Proofs
def Zvq(e:Edit):Prop:=utE e≤9000000000∧Y1 e∧∃ d,Z4 e d=true
end Go.AM.Ytpjenobkibfpcaa
