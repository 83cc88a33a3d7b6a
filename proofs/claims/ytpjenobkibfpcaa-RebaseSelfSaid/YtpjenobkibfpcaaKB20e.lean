import Derived.Test.YtpjenobkibfpcaaKL22m
import Derived.Test.YtpjenobkibfpcaaKD20
import Derived.Test.YtpjenobkibfpcaaKRB07
set_option linter.unusedSimpArgs false
set_option linter.unusedVariables false
namespace Go.AM.Ytpjenobkibfpcaa
open Go.AM Go.Proofs
theorem Z2H(e:Edit):(Zo e).kind=e.kind:=by
 rw [Z3m]
 split
 ·try rfl
 ·split
  ·try rfl
  ·split <;> rfl
theorem ZgH(e:Edit)(h:e.kind=1):(Zo e).old=Z4 e.old/\(Zo e).new=Z4 e.new:=by
 rw [Z3m,if_pos h]
 exact ⟨rfl,rfl⟩
theorem ZhM{D list:Int}{t:Tree}(hD:D≠0)(h:Zu (.mk list [] [t]) D=true):Zu (.mk list [] [Z4 t]) D=true:=by
 have key:=fun (k d:Int) (h:YM k [t] d=true)=> Z3X [t] k d h
 simp only [ZY] at key
 simp only [Zu] at h ⊢
 split at h
 ·simp at h
 ·rename_i h0
  rw [if_neg h0]
  split at h
  ·simp at h
  ·rename_i h1
   rw [if_neg h1]
   try rw [if_neg hD] at h
   try rw [if_neg hD]
   split at h
   ·rename_i h2
    rw [if_pos h2]
    simp only [Q1] at h ⊢
    exact ⟨h.1,key _ _ h.2⟩
   ·rename_i h2
    rw [if_neg h2]
    simp only [Q1] at h ⊢
    exact ⟨h.1,key _ _ h.2⟩
theorem Z2d{D list:Int}(hD:D≠0):∀ {l:List Tree},Y7 D list l=true->Y7 D list (Z5 l)=true
 | [],_=> rfl
 | t ::r,h=> by
  simp only [Y7,Q1] at h
  have h2:=Z2d hD h.2
  simp only [Z5] at h2
  simp only [Z5,QV,Y7,Q1]
  exact ⟨ZhM hD h.1,h2⟩
theorem Z3J{D list:Int}:∀ {a b:List Tree},Y7 D list a=true->Y7 D list b=true->Y7 D list (a++b)=true
 | [],_,_,h=> h
 | t ::r,b,h,h2=> by
  simp only [Y7,Q1] at h
  simp only [Qo,Y7,Q1]
  exact ⟨h.1,Z3J h.2 h2⟩
def rOp(list:Int)(d:Int)(o:Op):Prop:=(o.kind=0->1<=o.n/\o.l.length=0/\Z0V o.e=true)/\(o.kind≠0->Zg list o d=true)
theorem Z88{list d:Int}{o:Op}(h:Zg list o d=true):rOp list d o:=by
 refine ⟨fun hk=> ?_,fun _=> h⟩
 obtain ⟨k,n,l,e⟩:=o
 simp only at hk
 subst hk
 simp only [Zg,if_true,Q1,decide_eq_true_eq] at h
 exact ⟨h.1.1,h.1.2.2,h.2⟩
theorem ZuT{list d:Int}{o:Op}(h:rOp list d o)(hn:o.kind=0->o.n<=1048576):Zg list o d=true:=by
 by_cases hk:o.kind=0
 ·have h1:=h.1 hk
  have h2:=hn hk
  obtain ⟨k,n,l,e⟩:=o
  simp only at hk h1 h2
  subst hk
  simp only [Zg,if_true,Q1,decide_eq_true_eq]
  exact ⟨⟨h1.1,h2,h1.2.1⟩,h1.2.2⟩
 ·exact h.2 hk
theorem Z0J{list:Int}:∀ {os:List Op} {d:Int},ZF list os d=true↔∀ o∈os,Zg list o d=true
 | [],d=> by simp [ZF]
 | o ::r,d=> by
  simp only [ZF,Q1,Qc,forall_eq_or_imp]
  rw [Z0J (os:=r)]
theorem Z1w:Z0V Edit.nil=true:=rfl
structure OkW (list d:Int) (w:Wst):Prop where
 out:∀ o∈w.out,rOp list d o
 gone:Y7 (dT d) list w.gone=true
 brought:Y7 (dT d) list w.brought=true
theorem Z8j{list d:Int}{w:Wst}(h:OkW list d w):OkW list d (Z0 w):=by
 refine ⟨?_,rfl,rfl⟩
 simp only [Z0,Jv]
 intro o ho
 rcases Qh.1 ho with ho | ho
 ·exact h.out o ho
 rcases Qh.1 ho with ho | ho
 ·split at ho
  ·cases ho
  ·rename_i hl
   simp only [Qe] at ho
   subst ho
   refine ⟨fun hk=> (by cases hk),fun _=> ?_⟩
   simp only [Zg]
   rw [if_neg (by decide),if_neg (by decide),if_pos (by decide),h.gone,Z1w]
   simp only [X3,QB,decide_eq_true_eq]
   omega
 ·split at ho
  ·cases ho
  ·rename_i hl
   simp only [Qe] at ho
   subst ho
   refine ⟨fun hk=> (by cases hk),fun _=> ?_⟩
   simp only [Zg]
   rw [if_neg (by decide),if_neg (by decide),if_pos (by decide),h.brought,Z1w]
   simp only [X3,QB,decide_eq_true_eq]
   omega
theorem ZgF{list d:Int}{w:Wst}{n:Int}(h:OkW list d w)(hn:1<=n):OkW list d (ZL w n):=by
 have hf:=Z8j h
 refine ⟨?_,rfl,rfl⟩
 simp only [ZL]
 intro o ho
 rcases J1 (Z0 w).out n with e | ⟨a,q,e1,e2,e3⟩
 ·rw [e] at ho
  rcases Qh.1 ho with ho | ho
  ·exact hf.out o ho
  ·simp only [Qe] at ho
   subst ho
   exact ⟨fun _=> ⟨hn,rfl,Z1w⟩,fun hk=> absurd rfl hk⟩
 ·rw [e3] at ho
  rcases Qh.1 ho with ho | ho
  ·exact hf.out o (by rw [e1];exact Qh.2 (Or.inl ho))
  ·simp only [Qe] at ho
   subst ho
   have hq:=(hf.out q (by rw [e1];simp)).1 e2
   exact ⟨fun _=> ⟨by simp only;omega,hq.2⟩,fun hk=> absurd e2 hk⟩
theorem Zv3{list d:Int}{w:Wst}{o:Op}(h:OkW list d w)(hr:Zg list o d=true)(hi:Z8 o.e d=true->Z8 (Zo o.e) d=true):OkW list d (JY list o w):=by
 obtain ⟨k,n,l,e⟩:=o
 have hr0:=hr
 rw [Zg] at hr
 rw [YF]
 simp only at hi ⊢
 split at hr
 ·rename_i hk
  rw [if_pos hk]
  simp only [Q1,decide_eq_true_eq] at hr
  exact ZgF h hr.1.1
 ·rename_i hk
  rw [if_neg hk]
  split at hr
  ·cases hr
  ·rename_i hn
   split at hr
   ·rename_i h3
    simp only [Q1,decide_eq_true_eq] at hr
    by_cases k1:k=1
    ·rw [if_pos k1]
     exact ⟨h.out,Z3J h.gone (Z2d (Zuk d) hr.1.1),h.brought⟩
    ·rw [if_neg k1,if_pos (by omega)]
     exact ⟨h.out,h.gone,Z3J h.brought (Z2d (Zuk d) hr.1.1)⟩
   ·rename_i h3
    rw [if_neg (by omega),if_neg (by omega),if_pos (by omega)]
    split
    ·exact ZgF h (by decide)
    ·have hf:=Z8j h
     refine ⟨?_,rfl,rfl⟩
     intro o ho
     rcases Qh.1 ho with ho | ho
     ·exact hf.out o ho
     ·simp only [Qe] at ho
      subst ho
      refine ⟨fun hk=> (by cases hk),fun _=> ?_⟩
      simp only [Q1,decide_eq_true_eq] at hr
      simp only [Zg]
      rw [if_neg (by decide),if_neg (by decide),if_neg (by decide),Z2H,hi hr.1.2]
      simp only [X3,Q1,decide_eq_true_eq]
      refine ⟨⟨rfl,hr.1.1.2⟩,?_⟩
      rcases hr.2 with h | h | h
      ·exact Or.inl h
      ·exact Or.inr (Or.inl h)
      ·rw [(ZgH e h.1).1,(ZgH e h.1).2,Z2M,Z2M]
       exact Or.inr (Or.inr h)
def YK:List Op->Int
 | []=> 0
 | o ::r=> (if o.kind=2 then 0 else Z2 o)+YK r
def Yd:List Op->Int
 | []=> 0
 | o ::r=> (if o.kind=1 then 0 else Z2 o)+Yd r
theorem Z2s:∀ (a b:List Op),YK (a++b)=YK a+YK b
 | [],b=> by simp [YK]
 | o ::r,b=> by simp only [Qo,YK,Z2s r b];omega
theorem Z2r:∀ (a b:List Op),Yd (a++b)=Yd a+Yd b
 | [],b=> by simp [Yd]
 | o ::r,b=> by simp only [Qo,Yd,Z2r r b];omega
theorem Z0c:∀ (l:List Op) (n:Int),(∀ o∈l,0<=Z2 o)->0<=n->n<=1048576->Z1b l n=min (n+YK l) 1048576/\0<=YK l
 | [],n,_,h1,h2=> by simp only [Z1b,YK];omega
 | o ::r,n,h,h1,h2=> by
  have ho:=h o (Q5 ..)
  simp only [Z1b,YK]
  have hx:0<=(if o.kind=2 then n else n+Z2 o)/\(if o.kind=2 then n else n+Z2 o)=n+(if o.kind=2 then 0 else Z2 o):=by split <;> omega
  have hy:0<=(if o.kind=2 then 0 else Z2 o):=by split <;> omega
  rw [hx.2]
  rw [hx.2] at hx
  generalize (if o.kind=2 then 0 else Z2 o)=y at*
  obtain ⟨e1,e2⟩:=Z0c r (min (n+y) 1048576) (fun x hx=> h x (Q4 _ hx)) (by omega) (by omega)
  rw [e1]
  omega
theorem Z0M:∀ (l:List Op) (n:Int),(∀ o∈l,0<=Z2 o)->0<=n->n<=1048576->Z1a l n=min (n+Yd l) 1048576/\0<=Yd l
 | [],n,_,h1,h2=> by simp only [Z1a,Yd];omega
 | o ::r,n,h,h1,h2=> by
  have ho:=h o (Q5 ..)
  simp only [Z1a,Yd]
  have hx:0<=(if o.kind=1 then n else n+Z2 o)/\(if o.kind=1 then n else n+Z2 o)=n+(if o.kind=1 then 0 else Z2 o):=by split <;> omega
  have hy:0<=(if o.kind=1 then 0 else Z2 o):=by split <;> omega
  rw [hx.2]
  rw [hx.2] at hx
  generalize (if o.kind=1 then 0 else Z2 o)=y at*
  obtain ⟨e1,e2⟩:=Z0M r (min (n+y) 1048576) (fun x hx=> h x (Q4 _ hx)) (by omega) (by omega)
  rw [e1]
  omega
theorem Z15{list d:Int}{o:Op}(h:rOp list d o):0<=Z2 o:=by
 unfold Z2
 split
 ·decide
 ·by_cases hk:o.kind=0
  ·have:=(h.1 hk).1;omega
  ·have hr:=h.2 hk
   obtain ⟨k,n,l,e⟩:=o
   simp only at hk ⊢
   rw [Zg,if_neg hk] at hr
   split at hr
   ·cases hr
   ·omega
theorem ZfU:∀ {l:List Op} {o:Op},(∀ o∈l,0<=Z2 o)->o∈l->o.kind≠2->Z2 o<=YK l
 | a ::r,o,h,ho,hk=> by
  have hr:=(Z0c r 0 (fun x hx=> h x (Q4 _ hx)) (by decide) (by decide)).2
  have ha:=h a (Q5 ..)
  simp only [YK]
  rcases Qc.1 ho with rfl | ho
  ·rw [if_neg hk];omega
  ·have:=ZfU (fun x hx=> h x (Q4 _ hx)) ho hk
   split <;> omega
def sA(w:Wst):Int:=YK w.out+w.gone.length
def sB(w:Wst):Int:=Yd w.out+w.brought.length
theorem Z4w(w:Wst):YK (Z0 w).out=sA w/\Yd (Z0 w).out=sB w:=by
 simp only [Z0,Jv,sA,sB,Z2s,Z2r]
 constructor
 ·by_cases hg:w.gone.length=0
  ·rw [if_pos hg]
   by_cases hb:w.brought.length=0
   ·rw [if_pos hb];simp [YK];omega
   ·rw [if_neg hb];simp [YK];omega
  ·rw [if_neg hg]
   by_cases hb:w.brought.length=0
   ·rw [if_pos hb];simp [YK,Z2]
   ·rw [if_neg hb];simp [YK,Z2]
 ·by_cases hg:w.gone.length=0
  ·rw [if_pos hg]
   by_cases hb:w.brought.length=0
   ·rw [if_pos hb];simp [Yd];omega
   ·rw [if_neg hb];simp [Yd,Z2]
  ·rw [if_neg hg]
   by_cases hb:w.brought.length=0
   ·rw [if_pos hb];simp [Yd];omega
   ·rw [if_neg hb];simp [Yd,Z2]
theorem ZfT(w:Wst)(n:Int):sA (ZL w n)=sA w+n/\sB (ZL w n)=sB w+n:=by
 have hf:=Z4w w
 simp only [ZL]
 have e1:∀ x,sA ⟨x,[],[]⟩=YK x:=fun x=> by simp [sA]
 have e2:∀ x,sB ⟨x,[],[]⟩=Yd x:=fun x=> by simp [sB]
 rw [e1,e2,<-hf.1,<-hf.2]
 rcases J1 (Z0 w).out n with e | ⟨a,q,e1,e2,e3⟩
 ·rw [e,Z2s,Z2r]
  simp [YK,Yd,Z2]
 ·rw [e3,e1,Z2s,Z2r,Z2s,Z2r]
  simp only [YK,Yd,Z2,e2]
  simp
  omega
theorem ZuI{list d:Int}{w:Wst}{o:Op}(hr:Zg list o d=true):sA (JY list o w)=sA w+(if o.kind=2 then 0 else Z2 o)/\sB (JY list o w)=sB w+(if o.kind=1 then 0 else Z2 o):=by
 have hl:∀ l,((Z5 l).length:Int)=l.length:=fun l=> by simp [Z5]
 obtain ⟨k,n,l,e⟩:=o
 rw [Zg] at hr
 rw [YF]
 simp only [Z2]
 split at hr
 ·rename_i hk
  subst hk
  rw [if_pos rfl]
  simp only [Q1,decide_eq_true_eq] at hr
  have:=ZfT w n
  simp
  omega
 ·rename_i hk
  rw [if_neg hk]
  split at hr
  ·cases hr
  ·rename_i hn
   split at hr
   ·rename_i h3
    by_cases k1:k=1
    ·subst k1
     rw [if_pos rfl]
     simp only [sA,sB,Q6]
     simp [hl]
     omega
    ·have k2:k=2:=by omega
     subst k2
     rw [if_neg k1,if_pos rfl]
     simp only [sA,sB,Q6]
     simp [hl]
     omega
   ·rename_i h3
    have k3:k=3:=by omega
    subst k3
    rw [if_neg (by omega),if_neg (by omega),if_pos rfl]
    split
    ·have:=ZfT w 1
     simp
     omega
    ·have:=Z4w w
     simp only [sA,sB,Z2s,Z2r,YK,Yd,Z2] at this ⊢
     simp
     omega
mutual
theorem YN:∀ (e:Edit) (d:Int),Z8 e d=true->Z8 (Zo e) d=true
 | .mk k o n w ks l os,d,h=> by
  have h1:=Z8Y ks
  have h2:=ZjU l os
  have h4:=ZdY l os
  rw [Z8] at h
  split at h
  ·cases h
  ·rename_i a
   split at h
   ·cases h
   ·rename_i b
    have nn:Jf Tree.nil=true:=rfl
    by_cases k1:k=1
    ·subst k1
     rw [if_pos rfl] at h
     have hl:l=0:=by
      apply Xu
      intro hl
      exact b (.inr (.inr ⟨by decide,.inl hl⟩))
     simp only [Q1,decide_eq_true_eq] at h
     rw [Zo,if_pos rfl,Z8,if_neg a,if_neg (by simp [hl]),if_pos rfl]
     simp only [Q1,decide_eq_true_eq]
     rw [Z2M,Z2M]
     exact ⟨⟨Z3V _ _ h.1.1,Z3V _ _ h.1.2⟩,h.2⟩
    ·rw [if_neg k1] at h
     simp only [Q1,decide_eq_true_eq] at h
     obtain ⟨⟨⟨⟨x1,x2⟩,x3⟩,x4⟩,x5⟩:=h
     rw [Zo,if_neg k1]
     by_cases k2:k=2
     ·have hl:l=0:=by
       apply Xu
       intro hl
       exact b (.inr (.inr ⟨by omega,.inl hl⟩))
      rw [if_pos k2,Z8,if_neg a,if_neg (by simp [nn,hl,k2]),if_neg k1]
      simp only [Q1,decide_eq_true_eq]
      exact ⟨⟨⟨⟨x1,h1 _ _ x2⟩,x3⟩,rfl⟩,by decide⟩
     ·rw [if_neg k2]
      by_cases k3:k=3
      ·rw [if_pos k3,Z8,if_neg a,if_neg (by simp [nn,k3]),if_neg k1]
       simp only [Q1,decide_eq_true_eq]
       have hall:=Z0J.1 x4
       obtain ⟨y1,y2⟩:=Z0c os 0 (fun o ho=> Z15 (Z88 (hall o ho))) (by decide) (by decide)
       obtain ⟨z1,z2⟩:=Z0M os 0 (fun o ho=> Z15 (Z88 (hall o ho))) (by decide) (by decide)
       have hw:=h2 (d - 1) W0 x4 ⟨fun o ho=> (by cases ho),rfl,rfl⟩
       have hs:=h4 (d - 1) W0 x4
       have hff:=Z8j hw
       have hsf:=Z4w (Zn l os W0)
       have e0:sA W0=0/\sB W0=0:=⟨rfl,rfl⟩
       have hA:=Z0c (Z0 (Zn l os W0)).out 0 (fun o ho=> Z15 (hff.out o ho)) (by decide) (by decide)
       have hB:=Z0M (Z0 (Zn l os W0)).out 0 (fun o ho=> Z15 (hff.out o ho)) (by decide) (by decide)
       refine ⟨⟨⟨⟨rfl,rfl⟩,x3⟩,Z0J.2 (fun o ho=> ZuT (hff.out o ho) (fun hk=> ?_))⟩,?_,?_⟩
       ·have hm:=ZfU (fun o ho=> Z15 (hff.out o ho)) ho (by omega)
        unfold Z2 at hm
        rw [if_neg (by omega)] at hm
        omega
       ·show Z1b (Z0 (Zn l os W0)).out 0 < 1048576
        omega
       ·show Z1a (Z0 (Zn l os W0)).out 0 < 1048576
        omega
      ·have hl:l=0:=by
        apply Xu
        intro hl
        exact b (.inr (.inr ⟨k3,.inl hl⟩))
       rw [if_neg k3,Z8,if_neg a,if_neg (by simp [nn,hl]),if_neg k1]
       simp only [Q1,decide_eq_true_eq]
       exact ⟨⟨⟨⟨rfl,rfl⟩,x3⟩,rfl⟩,by decide⟩
theorem Z8Y:∀ (ks:List (KidOf Edit)) (last d:Int),ZB last ks d=true->ZB last (YW ks) d=true
 | [],_,_,_=> rfl
 | k ::r,last,d,h=> by
  simp only [ZB,Q1] at h
  have h1:=Zed k last d h.1
  have h2:=Z8Y r k.at_ d h.2
  simp only [YW,ZB,Q1]
  exact ⟨h1,by rw [Z8m];exact h2⟩
theorem Zed:∀ (k:KidOf Edit) (last d:Int),Jm last k d=true->Jm last (Z0a k) d=true
 | ⟨a,e⟩,last,d,h=> by
  simp only [Jm,Q1] at h
  have h1:=YN e d h.2
  simp only [Z0a,Jm,Q1]
  rw [Z2H]
  exact ⟨h.1,h1⟩
theorem ZjU(list:Int):∀ (os:List (OpOf Edit)) (d:Int) (w:Wst),ZF list os d=true->OkW list d w->OkW list d (Zn list os w)
 | [],_,_,_,hw=> hw
 | o ::r,d,w,h,hw=> by
  simp only [ZF,Q1] at h
  have h1:=Zm3 list o d w h.1 hw
  exact ZjU list r d _ h.2 h1
theorem Zm3(list:Int):∀ (o:OpOf Edit) (d:Int) (w:Wst),Zg list o d=true->OkW list d w->OkW list d (JY list o w)
 | ⟨k,n,l,e⟩,d,w,h,hw=> Zv3 (o:=⟨k,n,l,e⟩) hw h (fun he=> YN e d he)
theorem ZdY(list:Int):∀ (os:List (OpOf Edit)) (d:Int) (w:Wst),ZF list os d=true->sA (Zn list os w)=sA w+YK os/\sB (Zn list os w)=sB w+Yd os
 | [],_,_,_=> by simp [Zn,YK,Yd]
 | o ::r,d,w,h=> by
  simp only [ZF,Q1] at h
  have h1:=ZuI (w:=w) h.1
  have h2:=ZdY list r d (JY list o w) h.2
  simp only [Zn,YK,Yd]
  omega
end
theorem Z6u:∀ {a b:List Tree},YU (a++b)↔YU a/\YU b
 | [],b=> by simp [YU]
 | t ::r,b=> by simp only [Qo,YU];rw [Z6u (a:=r),and_assoc]
mutual
theorem Z6s:∀ (t:Tree),rng t->rng (Z4 t)
 | .mk k w ks,h=> by
  simp only [rng] at h
  obtain ⟨h1,h2,h3⟩:=h
  have h4:=Zd3 ks h3
  simp only [Z4]
  split
  ·simp only [Tree.nil,rng,YU]
   exact ⟨by decide,by simp,trivial⟩
  ·split
   ·obtain ⟨r1,e1⟩:=Zay w
    obtain ⟨r2,e2⟩:=Z7S (ZY ks)
    simp only [rng]
    refine ⟨by decide,fun x hx=> h2 x (by rw [e1];exact Qh.2 (Or.inl hx)),?_⟩
    rw [e2] at h4
    exact (Z6u.1 h4).1
   ·simp only [rng]
    exact ⟨h1,h2,h4⟩
theorem Zd3:∀ (l:List Tree),YU l->YU (ZY l)
 | [],_=> trivial
 | t ::r,h=> by
  simp only [YU] at h
  have h1:=Z6s t h.1
  have h2:=Zd3 r h.2
  simp only [ZY,YU]
  exact ⟨h1,h2⟩
end
theorem Z5G:∀ {l:List Tree},YU l->YU (Z5 l)
 | [],_=> trivial
 | t ::r,h=> by
  simp only [YU] at h
  have h2:=Z5G h.2
  simp only [Z5] at h2
  simp only [Z5,QV,YU]
  exact ⟨Z6s t h.1,h2⟩
theorem Z0H:rng Tree.nil:=by
 simp only [Tree.nil,rng,YU]
 exact ⟨by decide,by simp,trivial⟩
structure RngW (w:Wst):Prop where
 out:∀ o∈w.out,YU o.l/\YQ o.e
 gone:YU w.gone
 brought:YU w.brought
theorem Z4F:YQ Edit.nil:=by
 simp only [Edit.nil,YQ,Z2z,Z1z]
 exact ⟨by unfold InR;omega,Z0H,Z0H,by simp,by unfold InR;omega,trivial,trivial⟩
theorem Z5F{w:Wst}(h:RngW w):RngW (Z0 w):=by
 refine ⟨?_,trivial,trivial⟩
 simp only [Z0,Jv]
 intro o ho
 rcases Qh.1 ho with ho | ho
 ·exact h.out o ho
 rcases Qh.1 ho with ho | ho
 ·split at ho
  ·cases ho
  ·simp only [Qe] at ho
   subst ho
   exact ⟨h.gone,Z4F⟩
 ·split at ho
  ·cases ho
  ·simp only [Qe] at ho
   subst ho
   exact ⟨h.brought,Z4F⟩
theorem Zd0{w:Wst}{n:Int}(h:RngW w):RngW (ZL w n):=by
 have hf:=Z5F h
 refine ⟨?_,trivial,trivial⟩
 simp only [ZL]
 intro o ho
 rcases J1 (Z0 w).out n with e | ⟨a,q,e1,e2,e3⟩
 ·rw [e] at ho
  rcases Qh.1 ho with ho | ho
  ·exact hf.out o ho
  ·simp only [Qe] at ho
   subst ho
   exact ⟨trivial,Z4F⟩
 ·rw [e3] at ho
  rcases Qh.1 ho with ho | ho
  ·exact hf.out o (by rw [e1];exact Qh.2 (Or.inl ho))
  ·simp only [Qe] at ho
   subst ho
   exact hf.out q (by rw [e1];simp)
theorem Zjr{list:Int}{w:Wst}{o:Op}(h:RngW w)(hl:YU o.l)(he:YQ (Zo o.e)):RngW (JY list o w):=by
 rw [YF]
 split
 ·exact Zd0 h
 ·split
  ·exact ⟨h.out,Z6u.2 ⟨h.gone,Z5G hl⟩,h.brought⟩
  ·split
   ·exact ⟨h.out,h.gone,Z6u.2 ⟨h.brought,Z5G hl⟩⟩
   ·split
    ·split
     ·exact Zd0 h
     ·refine ⟨?_,trivial,trivial⟩
      intro o ho
      rcases Qh.1 ho with ho | ho
      ·exact (Z5F h).out o ho
      ·simp only [Qe] at ho
       subst ho
       exact ⟨trivial,he⟩
    ·exact h
theorem Z8W:∀ {os:List Op},(∀ o∈os,Z23 o)->Z1z os
 | [],_=> trivial
 | o ::r,h=> by
  simp only [Z1z]
  exact ⟨h o (Q5 ..),Z8W (fun x hx=> h x (Q4 _ hx))⟩
theorem Zg7{list d:Int}{o:Op}(h:Zg list o d=true)(hl:YU o.l)(he:YQ o.e):Z23 o:=by
 have hn:=Z83 h
 obtain ⟨k,n,l,e⟩:=o
 simp only at hn hl he
 simp only [Z23]
 refine ⟨?_,by unfold InR;omega,hl,he⟩
 rw [Zg] at h
 unfold InR
 split at h
 ·omega
 ·split at h
  ·cases h
  ·omega
mutual
theorem Z2A:∀ (e:Edit) (d:Int),Z8 e d=true->YQ e->YQ (Zo e)
 | .mk k o n w ks l os,d,hr,h=> by
  have hin:=Z84 hr
  have hout:=Z84 (YN _ _ hr)
  simp only [Edit.kids_mk,Edit.ops_mk,Edit.list_mk] at hin
  simp only [YQ] at h
  obtain ⟨h1,h2,h3,h4,h5,h6,h7⟩:=h
  have i6:=Zd2 ks (d - 1) (fun k hk=> (hin.1 k hk).1) h6
  have i7:=Zd1 l os (d - 1) hin.2 h7 W0 ⟨fun o ho=> (by cases ho),trivial,trivial⟩
  rw [Zo] at hout ⊢
  by_cases k1:k=1
  ·rw [if_pos k1]
   simp only [YQ]
   exact ⟨h1,Z6s o h2,Z6s n h3,by simp,h5,trivial,trivial⟩
  ·rw [if_neg k1] at hout ⊢
   by_cases k2:k=2
   ·rw [if_pos k2]
    simp only [YQ]
    exact ⟨h1,Z0H,Z0H,h4,h5,i6,trivial⟩
   ·rw [if_neg k2] at hout ⊢
    by_cases k3:k=3
    ·rw [if_pos k3] at hout ⊢
     simp only [YQ]
     refine ⟨h1,Z0H,Z0H,by simp,h5,trivial,Z8W (fun q hq=> ?_)⟩
     have hx:=hout.2 q hq
     have hy:=(Z5F i7).out q hq
     exact Zg7 hx hy.1 hy.2
    ·rw [if_neg k3]
     simp only [YQ]
     exact ⟨h1,Z0H,Z0H,by simp,h5,trivial,trivial⟩
theorem Zd2:∀ (ks:List (KidOf Edit)) (d:Int),(∀ k∈ks,Z8 k.e d=true)->Z2z ks->Z2z (YW ks)
 | [],_,_,_=> trivial
 | k ::r,d,hr,h=> by
  simp only [Z2z] at h
  have h1:=ZhK k d (hr k (Q5 ..)) h.1
  have h2:=Zd2 r d (fun x hx=> hr x (Q4 _ hx)) h.2
  simp only [YW,Z2z]
  exact ⟨h1,h2⟩
theorem ZhK:∀ (k:KidOf Edit) (d:Int),Z8 k.e d=true->Z82 k->Z82 (Z0a k)
 | ⟨a,e⟩,d,hr,h=> by
  simp only [Z82] at h
  have h2:=Z2A e d hr h.2
  simp only [Z0a,Z82]
  exact ⟨h.1,h2⟩
theorem Zd1(list:Int):∀ (os:List (OpOf Edit)) (d:Int),(∀ o∈os,Zg list o d=true)->Z1z os->∀ (w:Wst),RngW w->RngW (Zn list os w)
 | [],_,_,_,w,hw=> hw
 | o ::r,d,hr,h,w,hw=> by
  simp only [Z1z] at h
  have h1:=ZlP list o d (hr o (Q5 ..)) h.1 w hw
  exact Zd1 list r d (fun x hx=> hr x (Q4 _ hx)) h.2 _ h1
theorem ZlP(list:Int):∀ (o:OpOf Edit) (d:Int),Zg list o d=true->Z23 o->∀ (w:Wst),RngW w->RngW (JY list o w)
 | ⟨k,n,l,e⟩,d,hr,h,w,hw=> by
  simp only [Z23] at h
  by_cases k3:k=3
  ·have he:Z8 e d=true:=by
    rw [Zg,if_neg (by omega),] at hr
    split at hr
    ·cases hr
    ·rw [if_neg (by omega)] at hr
     simp only [Q1] at hr
     exact hr.1.2
   exact Zjr (o:=⟨k,n,l,e⟩) hw h.2.2.1 (Z2A e d he h.2.2.2)
  ·have hs:YQ (Zo Edit.nil):=by
    show YQ (.mk 0 Tree.nil Tree.nil [] [] 0 [])
    exact Z4F
   have e2:JY list ⟨k,n,l,e⟩ w=JY list ⟨k,n,l,Edit.nil⟩ w:=by
    simp only [JY]
    rw [if_neg k3,if_neg k3]
   rw [e2]
   exact Zjr (o:=⟨k,n,l,Edit.nil⟩) hw h.2.2.1 hs
end
theorem Zv7(t:Tree):t.words.length+Z6 t.kids+1=Zm t:=by obtain ⟨k,w,ks⟩:=t;simp only [Zm,Tree.words_mk,Tree.kids_mk];omega
theorem Zds:∀ (l:List Tree) (i:Nat) (x:Tree),i < l.length->Z6 (l.set i x)+Zm (l.getD i Tree.nil)=Z6 l+Zm x
 | [],i,x,h=> by simp at h
 | a ::r,0,x,_=> by simp only [List.set_cons_zero,Z6,Qi];omega
 | a ::r,i+1,x,h=> by
  have:=Zds r i x (by simpa using h)
  simp only [List.set_cons_succ,Z6,XI];omega
theorem Zij(n:Nat):Z6 (List.replicate n Tree.nil)=n:=by
 induction n with
 | zero=> rfl
 | succ n ih=> rw [List.replicate_succ,Z6,ih];simp [Tree.nil,Zm,Z6];omega
theorem Yo:∀ (a b:List Tree),Z6 (a++b)=Z6 a+Z6 b
 | [],b=> by simp [Z6]
 | t ::r,b=> by simp only [Qo,Z6,Yo r b];omega
theorem Zmi(l:List Tree)(i:Nat)(x:Tree):Z6 (Jj Tree.nil l i x)+Zm (l.getD i Tree.nil)<=Z6 l+Zm x+(i+1):=by
 have h:=Zds (l++List.replicate (i+1 - l.length) Tree.nil) i x (by simp;omega)
 have e:(l++List.replicate (i+1 - l.length) Tree.nil).getD i Tree.nil=l.getD i Tree.nil:=by
  by_cases hi:i < l.length
  ·simp only [Qm];rw [Ql hi]
  ·simp only [Qm]
   rw [Qn (by omega),Qz (l:=l) (by omega),List.getElem?_replicate]
   split <;> rfl
 rw [e,Yo,Zij] at h
 simp only [Jj]
 omega
theorem Zja{tw:List Int}:∀ {ws:List WEdit} {last:Int} {out a:List Int},Yc last ws=true->wsD tw ws out=some a->a.length<=max out.length 65535
 | [],_,out,a,_,h=> by rw [wsD] at h;cases h;omega
 | w ::r,last,out,a,hw,h=> by
  have h1:=JX hw w Q5
  simp only [Yc,Q1] at hw
  rw [wsD] at h
  split at h
  ·have:=Zja hw.2 h
   rw [ZcC] at this
   omega
  ·cases h
theorem Z6y{last d:Int}{k:Kid}{r:List Kid}(h:ZB last (k ::r) d=true):(last < k.at_/\k.at_<=65534)/\Z8 k.e d=true/\ZB k.at_ r d=true:=by
 have:=Zz h k Q5
 simp only [ZB,Q1] at h
 exact ⟨⟨this.1.1,this.1.2.1⟩,this.2,h.2⟩
theorem Zn1{tw:List Int}{ws:List WEdit}{last:Int}{out a:List Int}(hw:Yc last ws=true)(h:wsD tw ws out=some a):a.length<=out.length+65600*ws.length:=by
 cases ws with
 | nil=> rw [wsD] at h;cases h;omega
 | cons w r=>
  have:=Zja hw h
  simp only [Q9]
  omega
theorem ZbP(r:Bool)(v:Tree):Zm (nrD r v)<=Zm v:=by
 unfold nrD
 split
 ·exact Jo v
 ·exact Qf _
mutual
theorem ZbX(r:Bool):∀ (e:Edit) (d:Int) (t v:Tree),Z8 e d=true->ZuS r e t=some v->Zm v+18<=Zm t+ctE e
 | .mk k o n w ks l os,d,t,v,hr,hv=> by
  have ri:=Zt hr
  have h1:=Zdq r ks t.kids
  have h2:=Zdp r l os
  have ht:=Zv7 t
  have po:=Jr o
  have pn:=Jr n
  have pt:=Jr t
  unfold ZuS at hv
  simp only [ctE]
  split at hv
  ·cases hv;omega
  ·split at hv
   ·split at hv
    ·cases hv
     show Zm n+18<=_
     omega
    ·cases hv
   ·split at hv
    ·split at hv
     ·obtain ⟨a,ha,hb⟩:=Xj.1 hv
      obtain ⟨b,hb,e⟩:=Xf.1 hb
      have l1:=Zn1 ri.words ha
      simp only [Edit.words_mk] at l1
      have l2:=h1 t.kids b _ (-1) (by omega) ri.kids (fun j _=> rfl) hb
      rw [<-e]
      simp only [Zm]
      omega
     ·cases hv
    ·split at hv
     ·split at hv
      ·obtain ⟨b,hb,e⟩:=Xf.1 hv
       unfold Zcl at hb
       obtain ⟨x,hx,hy⟩:=Xj.1 hb
       have l2:=h2 _ t.kids [] x (fun o ho=> Go.AM.rightOs_mem ri.ops o ho) hx
       split at hy
       ·cases hy
        rw [<-e]
        simp only [Zm,Qb]
        simp only [Z6] at l2
        omega
       ·cases hy
      ·cases hv
     ·cases hv
theorem Zdq(r:Bool):∀ (ks:List (KidOf Edit)) (tk out b:List Tree) (d last:Int),-1<=last->ZB last ks d=true->(∀ j:Nat,last < (j:Int)->out.getD j Tree.nil=tk.getD j Tree.nil)->Z9M r tk ks out=some b->Z6 b<=Z6 out+Z2n ks
 | [],tk,out,b,d,last,_,_,_,h=> by rw [Z9M] at h;cases h;simp
 | k ::s,tk,out,b,d,last,hl,hr,hj,h=> by
  obtain ⟨h1,h2,h3⟩:=Z6y hr
  rw [Z9M] at h
  obtain ⟨u,hu,hb⟩:=Xj.1 h
  have m1:=Zih r k tk u d h2 hu
  have m2:=Zmi out k.at_.toNat u
  rw [hj k.at_.toNat (by omega)] at m2
  have m3:=Zdq r s tk _ b d k.at_ (by omega) h3 (fun j hj'=> by
   rw [ZfY,if_neg (by omega)]
   exact hj j (by omega)) hb
  have m4:k.at_.toNat+1<=65600:=by omega
  have e1:Z2n (k ::s)=65600+ctE k.e+Z2n s:=by obtain ⟨a,e⟩:=k;rfl
  rw [e1]
  omega
theorem Zih(r:Bool):∀ (k:KidOf Edit) (tk:List Tree) (u:Tree) (d:Int),Z8 k.e d=true->ZkS r tk k=some u->Zm u+18<=Zm (tk.getD k.at_.toNat Tree.nil)+ctE k.e
 | ⟨a,e⟩,tk,u,d,hr,h=> by
  rw [ZkS,Zfi] at h
  obtain ⟨v,hv,hu⟩:=Xf.1 h
  have:=ZbX r e d (tk.getD a.toNat Tree.nil) v hr hv
  have hvu:=ZbP r v
  rw [hu] at hvu
  dsimp only
  omega
theorem Zdp(r:Bool)(l:Int):∀ (os:List (OpOf Edit)) (d:Int) (rest out:List Tree) (x:List Tree × List Tree),(∀ o∈os,Zg l o d=true)->Z2U r os rest out=some x->Z6 x.1+Z6 x.2<=Z6 out+Z6 rest+YZ os
 | [],d,rest,out,x,_,h=> by rw [Z2U] at h;cases h;simp
 | o ::s,d,rest,out,x,hr,h=> by
  rw [Z2U] at h
  obtain ⟨y,hy,hx⟩:=Xj.1 h
  have m1:=Zmf r l o d rest out y (hr o Q5) hy
  have m2:=Zdp r l s d _ _ x (fun q hq=> hr q (Q4 _ hq)) hx
  rw [YZ]
  omega
theorem Zmf(r:Bool)(l:Int):∀ (o:OpOf Edit) (d:Int) (rest out:List Tree) (x:List Tree × List Tree),Zg l o d=true->ZpO r o rest out=some x->Z6 x.1+Z6 x.2<=Z6 out+Z6 rest+Z3y o
 | ⟨k,n,L,e⟩,d,rest,out,x,hr,h=> by
  have he:=ZbX r e d (rest.getD 0 Tree.nil)
  rw [ZpO] at h
  simp only [Z3y]
  split at h
  ·split at h
   ·cases h
    have:=Yo (rest.take n.toNat) (rest.drop n.toNat)
    rw [QJ] at this
    dsimp only
    rw [Yo];omega
   ·cases h
  ·split at h
   ·split at h
    ·cases h
     have:=Z1I L.length rest
     dsimp only;omega
    ·cases h
   ·split at h
    ·cases h
     dsimp only
     rw [Yo];omega
    ·split at h
     ·cases h
     ·obtain ⟨u,hu,e2⟩:=Xf.1 h
      cases e2
      have hk:k=3:=by
       have ra:=Jl hr
       generalize ho:OpOf.mk k n L e=o at ra
       cases ra <;> (injection ho with h1;try omega)
      rw [Zfi] at hu
      obtain ⟨v,hv,hu⟩:=Xf.1 hu
      have:=he v (J2 hr hk) hv
      have hvu:=ZbP r v
      rw [hu] at hvu
      cases rest with
      | nil=> contradiction
      | cons a q=>
       rw [Yo]
       simp only [Z6,Qq,QH,Qi] at this ⊢
       omega
end
theorem ZrC(r:Bool)(e:Edit)(d:Int)(t u:Tree)(hr:Z8 e d=true)(h:doE r e t=some u):Zm u+18<=Zm t+ctE e:=by
 rw [Zfi] at h
 obtain ⟨v,hv,hu⟩:=Xf.1 h
 have:=ZbX r e d t v hr hv
 have hvu:=ZbP r v
 rw [hu] at hvu
 omega
theorem Zv4{f:Nat->Int}(h:∀ i,0<=f i/\f i < 256):isW (of8 f):=by
 have h0:=h 0;have h1:=h 1;have h2:=h 2;have h3:=h 3;have h4:=h 4;have h5:=h 5;have h6:=h 6;have h7:=h 7
 unfold isW of8
 omega
theorem Zie(a b m:Int):isW (mix a b m):=Zv4 (Z49 a b m)
theorem Zeb{l:List Tree}(h:∀ t∈l,rng t):YU l:=by
 induction l with
 | nil=> exact trivial
 | cons a r ih=> exact ⟨h a Q5,ih fun t ht=> h t (Q4 _ ht)⟩
theorem Z81:rng Tree.nil:=⟨by decide,by simp,trivial⟩
section
variable {α β:Type} (z:α) (f:β->Option α) (p:β->Int)
def asc(last:Int):List β->Prop
 | []=> True
 | w ::r=> last < p w/\asc (p w) r
variable {z f p} {l0:List α} {ws:List β} {n a i:Int} {out:List α}
theorem Zq3{last:Int}:∀ {l:List β},asc p last l->∀ w∈l,last < p w
 | [],_,_,hw=> by cases hw
 | b ::r,h,w,hw=> by
  rcases Qc.1 hw with rfl | hw
  ·exact h.1
  ·have:=Zq3 h.2 w hw
   have:=h.1
   omega
theorem ZmL{m last:Int}(h:m<=last):∀ {l:List β},asc p last l->asc p m l
 | [],_=> trivial
 | _ ::_,g=> ⟨by have:=g.1;omega,g.2⟩
end
theorem Z7Q:∀ {ws:List WEdit} {last:Int},Yc last ws=true->asc WEdit.at_ last ws
 | [],_,_=> trivial
 | w ::r,last,h=> by
  have h1:=JX h w Q5
  simp only [Yc,Q1] at h
  exact ⟨h1.1,Z7Q h.2⟩
theorem Zcb:∀ {ks:List Kid} {last d:Int},ZB last ks d=true->asc KidOf.at_ last ks
 | [],_,_,_=> trivial
 | k ::r,last,d,h=> by
  obtain ⟨h1,_,h3⟩:=Z6y h
  exact ⟨h1.1,Zcb h3⟩
end Go.AM.Ytpjenobkibfpcaa
namespace Go.AM.Ytpjenobkibfpcaa
open Go.AM Go.Proofs
theorem Z37{x y x' y':Int}(h:x+256*y=x'+256*y')(hx:0<=x/\x < 256)(hx':0<=x'/\x' < 256):x=x'/\y=y':=by omega
theorem ZrA{f g:Nat->Int}(hf:∀ i,0<=f i/\f i < 256)(hg:∀ i,0<=g i/\g i < 256)(h:of8 f=of8 g):∀ i,i < 8->f i=g i:=by
 unfold of8 at h
 obtain ⟨h0,h⟩:=Z37 h (hf 0) (hg 0)
 obtain ⟨h1,h⟩:=Z37 h (hf 1) (hg 1)
 obtain ⟨h2,h⟩:=Z37 h (hf 2) (hg 2)
 obtain ⟨h3,h⟩:=Z37 h (hf 3) (hg 3)
 obtain ⟨h4,h⟩:=Z37 h (hf 4) (hg 4)
 obtain ⟨h5,h⟩:=Z37 h (hf 5) (hg 5)
 obtain ⟨h6,h7⟩:=Z37 h (hf 6) (hg 6)
 intro i hi
 match i,hi with
 | 0,_=> exact h0
 | 1,_=> exact h1
 | 2,_=> exact h2
 | 3,_=> exact h3
 | 4,_=> exact h4
 | 5,_=> exact h5
 | 6,_=> exact h6
 | 7,_=> exact h7
theorem Zm5{a:Int}(h:isW a):of8 (Ze a)=a:=by
 obtain ⟨h0,h1⟩:=h
 simp only [of8,Ze]
 omega
theorem Zoz{a b m:Int}{i:Nat}(h:i < 8):Ze (mix a b m) i=YP a b m i:=
 ZrA (fun i=> Z0i _ i) (Z49 a b m) (by rw [Zm5 (Zie a b m)];rfl) i h
section
variable {α β:Type} {z:α} {f:β->Option α} {p:β->Int}
end
end Go.AM.Ytpjenobkibfpcaa
namespace Go.AM.Ytpjenobkibfpcaa
open Go.AM Go.Proofs
theorem Z9h:∀ {ks:List Kid} {k:Kid},k∈ks->Z7 k.e<=ZR ks
 | ⟨_,_⟩ ::r,k,h=> by
  rcases Qc.1 h with rfl | h
  ·simp only [ZR,JB];omega
  ·have:=Z9h h;simp only [ZR];omega
theorem Z9g:∀ {os:List Op} {o:Op},o∈os->Zv o<=Zd os
 | a ::r,o,h=> by
  rcases Qc.1 h with rfl | h
  ·simp only [Zd];omega
  ·have:=Z9g h;simp only [Zd];omega
theorem Zmh(o:Op):Z7 o.e<=Zv o:=by obtain ⟨k,n,l,e⟩:=o;simp only [Zv];omega
theorem Yp{e:Edit}{k:Kid}(h:k∈e.kids):Z7 k.e < Z7 e:=by
 obtain ⟨kk,o,n,w,ks,l,os⟩:=e
 have:=Z9h (ks:=ks) h
 simp only [Z7];omega
theorem J8{e:Edit}{o:Op}(h:o∈e.ops):Z7 o.e < Z7 e:=by
 obtain ⟨kk,ol,n,w,ks,l,os⟩:=e
 have:=Z9g (os:=os) h
 have:=Zmh o
 simp only [Z7];omega
mutual
theorem Z4G:∀ (t:Tree) (d m:Int),m < 0->Zu t d=true->Zu t m=true
 | .mk k w ks,d,m,hm,h=> by
  rw [Zu] at h ⊢
  by_cases h0:k=0
  ·rw [if_pos h0] at h ⊢;exact h
  ·rw [if_neg h0] at h ⊢
   by_cases h1:k=10
   ·rw [if_pos h1] at h ⊢;exact h
   ·rw [if_neg h1] at h ⊢
    by_cases h2:d=0
    ·rw [if_pos h2] at h;cases h
    ·rw [if_neg h2] at h
     rw [if_neg (by omega)]
     by_cases h3:k=1
     ·rw [if_pos h3,Q1] at h ⊢
      exact ⟨h.1,Z5H 1 ks (d - 1) (m - 1) (by omega) h.2⟩
     ·rw [if_neg h3,Q1] at h ⊢
      exact ⟨h.1,Z5H k ks (d - 1) (m - 1) (by omega) h.2⟩
theorem Z5H(list:Int):∀ (ks:List Tree) (d m:Int),m < 0->YM list ks d=true->YM list ks m=true
 | [],_,_,_,_=> rfl
 | t ::r,d,m,hm,h=> by
  simp only [YM,Q1] at h ⊢
  exact ⟨⟨h.1.1,Z4G t d m hm h.1.2⟩,Z5H list r d m hm h.2⟩
end
theorem Z0E{D list:Int}:∀ {l:List Tree},Y7 D list l=true->∀ t∈l,Zu (.mk list [] [t]) D=true
 | a ::r,h,t,ht=> by
  simp only [Y7,Q1] at h
  rcases Qc.1 ht with rfl | ht
  ·exact h.1
  ·exact Z0E h.2 t ht
inductive Run:List Op->List Tree->List Tree->Prop
 | nil:Run [] [] []
 | keep {o r a s d}:o.kind=0->(a.length:Int)=o.n->Run r s d->Run (o ::r) (a++s) (a++d)
 | gone {o r a s d}:o.kind=1->Z5 o.l=Z5 a->Run r s d->Run (o ::r) (a++s) d
 | come {o r s d}:o.kind=2->Run r s d->Run (o ::r) s (o.l++d)
 | into {o r x y s d}:o.kind=3->doE false o.e x=some y->Run r s d->Run (o ::r) (x ::s) (y ::d)
def kOk(o:Op):Prop:=(o.kind=0/\0<=o.n)\/o.kind=1\/o.kind=2\/o.kind=3
theorem Zi9{list d:Int}{os:List Op}(h:ZF list os d=true):∀ o∈os,ZT o:=fun o ho=> Zbd (rightOs_mem h ho)
theorem ZeQ{o:Op}(h:ZT o):0<=Z2 o:=by have:=ZA h;omega
end Go.AM.Ytpjenobkibfpcaa
namespace Go.AM
def Z0k(m:Nat):Nat->Nat
 | 0=> 0
 | i+1=> Z0k m i+if m / 2 ^ i % 2=1 then 255*2 ^ (8*i) else 0
def ZcA:Nat->Nat->Nat
 | 0,_=> 0
 | k+1,m=> (if m % 2=1 then 255 else 0)+256*ZcA k (m / 2)
def Z98:Nat->Nat->Nat->Nat
 | 0,_,_=> 0
 | k+1,a,m=> (if m % 2=1 then a % 256 else 0)+256*Z98 k (a / 256) (m / 2)
def ZgP:Nat->Nat->Nat->Nat->Nat
 | 0,_,_,_=> 0
 | k+1,a,b,m=> (if m % 2=1 then b % 256 else a % 256)+256*ZgP k (a / 256) (b / 256) (m / 2)
theorem ZmO(x y u v:Nat)(hu:u < 256)(hv:v < 256):(u+256*x) &&& (v+256*y)=(u &&& v)+256*(x &&& y):=by
 have h:u &&& v < 256:=Nat.and_lt_two_pow (n:=8) u hv
 apply Nat.eq_of_testBit_eq
 intro j
 rw [Xn u,Xn v,Xn (u &&& v),Kr]
 rw [show (256:Nat)=2 ^ 8 from rfl,X6 _ hu,X6 _ hv,X6 _ h]
 split <;> rw [Kr]
theorem Zoo(x y u v:Nat)(hu:u < 256)(hv:v < 256):(u+256*x) ||| (v+256*y)=(u ||| v)+256*(x ||| y):=by
 have h:u ||| v < 256:=Nat.or_lt_two_pow (n:=8) hu hv
 apply Nat.eq_of_testBit_eq
 intro j
 rw [Xn u,Xn v,Xn (u ||| v),Nat.testBit_or]
 rw [show (256:Nat)=2 ^ 8 from rfl,X6 _ hu,X6 _ hv,X6 _ h]
 split <;> rw [Nat.testBit_or]
theorem Zcx:∀ (k a m:Nat),a &&& ZcA k m=Z98 k a m
 | 0,a,m=> by simp [ZcA,Z98]
 | k+1,a,m=> by
  have e:a=a % 256+256*(a / 256):=by omega
  simp only [ZcA,Z98]
  rw [<-Zcx k (a / 256) (m / 2)]
  have h:a &&& ((if m % 2=1 then 255 else 0)+256*ZcA k (m / 2))=(a % 256+256*(a / 256)) &&& ((if m % 2=1 then 255 else 0)+256*ZcA k (m / 2)):=by rw [<-e]
  rw [h,ZmO _ _ _ _ (by omega) (by split <;> omega)]
  congr 1
  split
  ·have:=Nat.and_two_pow_sub_one_eq_mod (a % 256) 8
   simp only [show (2:Nat) ^ 8 - 1=255 from rfl,show (2:Nat) ^ 8=256 from rfl,Nat.mod_mod] at this
   exact this
  ·simp
theorem ZjR:∀ (k a b m n:Nat),(∀ i < k,m / 2 ^ i % 2+n / 2 ^ i % 2=1)->Z98 k a n ||| Z98 k b m=ZgP k a b m
 | 0,a,b,m,n,_=> by simp [Z98,ZgP]
 | k+1,a,b,m,n,h=> by
  simp only [Z98,ZgP]
  have h0:=h 0 (by omega)
  simp only [Nat.pow_zero,Nat.div_one] at h0
  rw [Zoo _ _ _ _ (by split <;> omega) (by split <;> omega),ZjR k (a / 256) (b / 256) (m / 2) (n / 2) (fun i hi=> by
   have:=h (i+1) (by omega)
   rw [Xm,Xm]
   rw [Nat.pow_succ,QW] at this
   exact this)]
  congr 1
  by_cases hm:m % 2=1
  ·rw [if_pos hm,if_pos hm,if_neg (by omega)];simp
  ·rw [if_neg hm,if_neg hm,if_pos (by omega)];simp
theorem Zjb:∀ m:Fin 256,Z0k m.1 8=ZcA 8 m.1:=by decide+kernel
theorem Zn2:∀ m:Fin 256,2 ^ 64 - 1 - ZcA 8 m.1=ZcA 8 (255 - m.1):=by decide+kernel
theorem ZpZ:∀ m:Fin 256,∀ i:Fin 8,m.1 / 2 ^ i.1 % 2+(255 - m.1) / 2 ^ i.1 % 2=1:=by decide+kernel
theorem ZqF:∀ m:Fin 256,ZcA 8 m.1 < 2 ^ 64:=by decide+kernel
theorem ZoA(a b m:Nat)(hm:m < 256):(a &&& (2 ^ 64 - 1 - Z0k m 8)) ||| (b &&& Z0k m 8)=ZgP 8 a b m:=by
 have h1:=Zjb ⟨m,hm⟩
 have h2:=Zn2 ⟨m,hm⟩
 simp only at h1 h2
 rw [h1,h2,Zcx,Zcx]
 exact ZjR 8 a b m (255 - m) (fun i hi=> ZpZ ⟨m,hm⟩ ⟨i,hi⟩)
def ofK:Nat->(Nat->Nat)->Nat
 | 0,_=> 0
 | k+1,f=> f 0+256*ofK k (fun i=> f (i+1))
theorem Zdh:∀ (k:Nat) {f g:Nat->Nat},(∀ i,f i=g i)->ofK k f=ofK k g
 | 0,_,_,_=> rfl
 | k+1,f,g,h=> by simp only [ofK,h 0,Zdh k (fun i=> h (i+1))]
theorem Zk0:∀ (k a b m:Nat),ZgP k a b m=ofK k (fun i=> if m / 2 ^ i % 2=1 then b / 256 ^ i % 256 else a / 256 ^ i % 256)
 | 0,_,_,_=> rfl
 | k+1,a,b,m=> by
  simp only [ZgP,ofK,Nat.pow_zero,Nat.div_one]
  rw [Zk0 k,Zdh k (g:=fun i=> if m / 2 ^ (i+1) % 2=1 then b / 256 ^ (i+1) % 256 else a / 256 ^ (i+1) % 256) (fun i=> ?_)]
  rw [Xm,Xm,Xm,Nat.pow_succ',Nat.pow_succ']
theorem ZoB(a b m:Nat):((ZgP 8 a b m:Nat):Int)=mix a b m:=by
 have nm:∀ i:Nat,Z2I (m:Int) (i:Int)=decide (m / 2 ^ i % 2=1):=by
  intro i
  unfold Z2I
  rw [decide_eq_decide,X2]
  have:((m:Int) / 2 ^ i % 2:Int)=((m / 2 ^ i % 2:Nat):Int):=by rw [Kn,Ko,Ku];try rfl
  rw [this];omega
 have by_:∀ (x i:Nat),Ze (x:Int) i=((x / 256 ^ i % 256:Nat):Int):=by
  intro x i
  unfold Ze
  rw [Kn,Ko,Ku]
  try rfl
 have mx:∀ i:Nat,YP (a:Int) (b:Int) (m:Int) i=((if m / 2 ^ i % 2=1 then b / 256 ^ i % 256 else a / 256 ^ i % 256:Nat):Int):=by
  intro i
  unfold YP
  rw [nm,by_,by_]
  by_cases h:m / 2 ^ i % 2=1
  ·rw [decide_eq_true h,if_pos rfl,if_pos h]
  ·rw [decide_eq_false h,if_neg Kh,if_neg h]
 rw [Zk0]
 generalize hf:(fun i=> if m / 2 ^ i % 2=1 then b / 256 ^ i % 256 else a / 256 ^ i % 256)=f
 have hx:∀ i,YP (a:Int) (b:Int) (m:Int) i=(f i:Int):=by intro i;rw [mx,<-hf]
 have e:ofK 8 f=f 0+256*(f 1+256*(f 2+256*(f 3+256*(f 4+256*(f 5+256*(f 6+256*(f 7+256*0))))))):=rfl
 rw [e]
 simp only [mix,of8,hx]
 omega
end Go.AM
namespace Go.AM
def Z1T(a b:Int):Int:=IntKind.wrap .u8 (BitVec.ofInt (IntKind.bits .u8) a &&& BitVec.ofInt (IntKind.bits .u8) b).toNat
noncomputable def doB(e:Edit)(t:Tree):Tree × Bool:=(Z3E ((doE false e t).map Z4),(doE false e t).isSome)
noncomputable def Z62(a b:List Tree):Bool:=eqX (Z5 a) (Z5 b)
def Z0p(e:Edit):Prop:=ctE e<=9000000000/\YQ e/\∃ d,Z8 e d=true
def Zrm(l:List Op):Prop:=YZ l<=9000000000/\Z1z l/\∀ o∈l,∃ list d,Zg list o d=true
def Ze5(o:Op):Prop:=ZT o/\Z3y o<=9000000000/\Z23 o/\(o.kind=3->∃ d,Z8 o.e d=true)
end Go.AM
namespace Go.AM.Ytpjenobkibfpcaa
open Go.AM Go.Proofs
theorem Z1x{o:Op}{r:List Op}{s d:List Tree}(h0:o.kind=0):Run (o ::r) s d↔∃ a s' d',s=a++s'/\d=a++d'/\(a.length:Int)=o.n/\Run r s' d':=by
 constructor
 ·intro h
  cases h with
  | keep _ h2 h3=> exact ⟨_,_,_,rfl,rfl,h2,h3⟩
  | gone h1=> omega
  | come h1=> omega
  | into h1=> omega
 ·rintro ⟨a,s',d',rfl,rfl,h2,h3⟩
  exact .keep h0 h2 h3
theorem Z1y{o:Op}{r:List Op}{s d:List Tree}(h0:o.kind=1):Run (o ::r) s d↔∃ a s',s=a++s'/\Z5 o.l=Z5 a/\Run r s' d:=by
 constructor
 ·intro h
  cases h with
  | gone _ h2 h3=> exact ⟨_,_,rfl,h2,h3⟩
  | keep h1=> omega
  | come h1=> omega
  | into h1=> omega
 ·rintro ⟨a,s',rfl,h2,h3⟩
  exact .gone h0 h2 h3
theorem Z0G{o:Op}{r:List Op}{s d:List Tree}(h0:o.kind=2):Run (o ::r) s d↔∃ d',d=o.l++d'/\Run r s d':=by
 constructor
 ·intro h
  cases h with
  | come _ h3=> exact ⟨_,rfl,h3⟩
  | keep h1=> omega
  | gone h1=> omega
  | into h1=> omega
 ·rintro ⟨d',rfl,h3⟩
  exact .come h0 h3
theorem Zbb{o:Op}{r:List Op}{s d:List Tree}(h0:o.kind=3):Run (o ::r) s d↔∃ x s' y d',s=x ::s'/\d=y ::d'/\doE false o.e x=some y/\Run r s' d':=by
 constructor
 ·intro h
  cases h with
  | into _ h2 h3=> exact ⟨_,_,_,_,rfl,rfl,h2,h3⟩
  | keep h1=> omega
  | gone h1=> omega
  | come h1=> omega
 ·rintro ⟨x,s',y,d',rfl,rfl,h2,h3⟩
  exact .into h0 h2 h3
theorem Z4E{o:Op}{p r:List Op}(h:∀ s d,Run p s d↔Run r s d)(hk:kOk o)(s d:List Tree):Run (o ::p) s d↔Run (o ::r) s d:=by
 rcases hk with h0 | h1 | h2 | h3
 ·rw [Z1x h0.1,Z1x h0.1];simp only [h]
 ·rw [Z1y h1,Z1y h1];simp only [h]
 ·rw [Z0G h2,Z0G h2];simp only [h]
 ·rw [Zbb h3,Zbb h3];simp only [h]
theorem JQ{o:Op}(h:ZT o):kOk o:=by
 rcases h with h | h | h
 ·exact .inl ⟨h.1,by omega⟩
 ·rcases h.1 with h1 | h1
  ·exact .inr (.inl h1)
  ·exact .inr (.inr (.inl h1))
 ·exact .inr (.inr (.inr h.1))
theorem ZeR{o:Op}(h:ZT o)(h0:o.kind=0):Z2 o=o.n:=by
 rcases h with h | h | h
 ·unfold Z2;rw [if_neg (by omega),h.2.1];simp
 ·omega
 ·omega
theorem Z2G{o:Op}(h:ZT o)(h0:o.kind=1\/o.kind=2):Z2 o=o.l.length:=by
 rcases h with h | h | h
 ·omega
 ·unfold Z2;rw [if_neg (by omega),h.2.1];omega
 ·omega
theorem Z25{o:Op}(h0:o.kind=3):Z2 o=1:=by unfold Z2;rw [if_pos h0]
theorem Zea{o:Op}{r:List Op}{m d:List Tree}(ho:ZT o)(hk:o.kind≠2)(h:Run (o ::r) m d):∃ m1 m' d',m=m1++m'/\(m1.length:Int)=Z2 o/\Run r m' d':=by
 rcases JQ ho with h0 | h1 | h2 | h3
 ·obtain ⟨a,s',d',rfl,_,hl,hr⟩:=(Z1x h0.1).1 h
  exact ⟨a,s',d',rfl,by rw [ZeR ho h0.1];exact hl,hr⟩
 ·obtain ⟨a,s',rfl,hn,hr⟩:=(Z1y h1).1 h
  exact ⟨a,s',d,rfl,by rw [Z2G ho (.inl h1),Zdk hn],hr⟩
 ·exact absurd h2 hk
 ·obtain ⟨x,s',y,d',rfl,_,_,hr⟩:=(Zbb h3).1 h
  exact ⟨[x],s',d',rfl,by rw [Z25 h3];rfl,hr⟩
theorem ZlO{o:Op}{r:List Op}{n:Int}(ho:ZT o)(h1:1<=n)(hn:¬Z2 o<=n)(s d:List Tree):Run (o ::r) s d↔Run (Zq o n ::Yx o n ::r) s d:=by
 unfold Zq Yx
 rw [if_neg hn]
 rcases JQ ho with h0 | hg | hc | hi
 ·have hl:=ZeR ho h0.1
  rw [if_pos h0.1,if_pos h0.1,Z1x h0.1,Z1x (o:=⟨o.kind,n,o.l,o.e⟩) h0.1]
  constructor
  ·rintro ⟨a,s',d',rfl,rfl,ha,hr⟩
   refine ⟨a.take n.toNat,a.drop n.toNat++s',a.drop n.toNat++d',by rw [<-Qd,QJ],by rw [<-Qd,QJ],by rw [Qk];dsimp only;omega,?_⟩
   exact (Z1x (o:=⟨o.kind,o.n - n,o.l,o.e⟩) h0.1).2 ⟨a.drop n.toNat,s',d',rfl,rfl,by rw [QZ];dsimp only;omega,hr⟩
  ·rintro ⟨a,s',d',rfl,rfl,ha,hr⟩
   obtain ⟨b,s2,d2,rfl,rfl,hb,hr2⟩:=(Z1x (o:=⟨o.kind,o.n - n,o.l,o.e⟩) h0.1).1 hr
   dsimp only at ha hb
   exact ⟨a++b,s2,d2,by rw [Qd],by rw [Qd],by rw [Q6];omega,hr2⟩
 ·have hl:=Z2G ho (.inl hg)
  rw [if_neg (by omega),if_neg (by omega),Z1y hg,Z1y (o:=⟨o.kind,o.n,o.l.take n.toNat,o.e⟩) hg]
  constructor
  ·rintro ⟨a,s',rfl,ha,hr⟩
   have hla:=Zdk ha
   refine ⟨a.take n.toNat,a.drop n.toNat++s',by rw [<-Qd,QJ],EqvL.take ha _,?_⟩
   exact (Z1y (o:=⟨o.kind,o.n,o.l.drop n.toNat,o.e⟩) hg).2 ⟨a.drop n.toNat,s',rfl,EqvL.drop ha _,hr⟩
  ·rintro ⟨a,s',rfl,ha,hr⟩
   obtain ⟨b,s2,rfl,hb,hr2⟩:=(Z1y (o:=⟨o.kind,o.n,o.l.drop n.toNat,o.e⟩) hg).1 hr
   refine ⟨a++b,s2,by rw [Qd],?_,hr2⟩
   have:=Zm7 ha hb
   rwa [QJ] at this
 ·rw [if_neg (by omega),if_neg (by omega),Z0G hc,Z0G (o:=⟨o.kind,o.n,o.l.take n.toNat,o.e⟩) hc]
  constructor
  ·rintro ⟨d',rfl,hr⟩
   refine ⟨o.l.drop n.toNat++d',by rw [<-Qd,QJ],?_⟩
   exact (Z0G (o:=⟨o.kind,o.n,o.l.drop n.toNat,o.e⟩) hc).2 ⟨d',rfl,hr⟩
  ·rintro ⟨d',rfl,hr⟩
   obtain ⟨d2,rfl,hr2⟩:=(Z0G (o:=⟨o.kind,o.n,o.l.drop n.toNat,o.e⟩) hc).1 hr
   exact ⟨d2,by rw [<-Qd,QJ],hr2⟩
 ·rw [Z25 hi] at hn
  omega
def Z5q:List Piece->List Op
 | []=> []
 | x ::r=> (if x.of=2 then [] else [x.p])++Z5q r
def Z5p:List Piece->List Op
 | []=> []
 | x ::r=> (if x.of=1 then [] else [x.q])++Z5p r
def Part(l:List Op)(o:Op):Prop:=∃ o'∈l,o.kind=o'.kind/\o.e=o'.e/\Zv o<=Zv o'/\∀ t∈o.l,t∈o'.l
theorem Part.mono{l l':List Op}{o:Op}(h:Part l o)(hl:∀ x∈l,Part l' x):Part l' o:=by
 obtain ⟨o',h1,h2,h3,h5,h4⟩:=h
 obtain ⟨o2,g1,g2,g3,g5,g4⟩:=hl o' h1
 exact ⟨o2,g1,h2.trans g2,h3.trans g3,X4 h5 g5,fun t ht=> g4 t (h4 t ht)⟩
theorem Part.self{l:List Op}{o:Op}(h:o∈l):Part l o:=⟨o,h,rfl,rfl,Qf _,fun _ h=> h⟩
theorem Z68{o:Op}{r:List Op}{n:Int}(h:∀ x∈o ::r,ZT x)(h1:1<=n)(hn:n<=Z2 o):
  ZT (Zq o n)/\Z2 (Zq o n)=n/\(Zq o n).kind=o.kind/\Part (o ::r) (Zq o n)/\(∀ x∈Zw (o ::r) n,ZT x/\Part (o ::r) x)/\∀ s d,Run (o ::r) s d↔Run (Zq o n ::Zw (o ::r) n) s d:=by
 have ho:=h o Q5
 have hr:∀ x∈r,ZT x/\Part (o ::r) x:=fun x hx=> ⟨h x (Q4 _ hx),Part.self (Q4 _ hx)⟩
 unfold Zw
 simp only [Qi,Qq,QH]
 by_cases hl:Z2 o<=n
 ·rw [if_pos hl]
  have e:Zq o n=o:=by unfold Zq;rw [if_pos hl]
  rw [e]
  exact ⟨ho,by omega,rfl,Part.self Q5,hr,fun s d=> XH⟩
 ·rw [if_neg hl]
  obtain ⟨_,v2,v3,v4⟩:=Zaw (a:=1) ho h1 hl
  obtain ⟨b1,b2⟩:=Z7J ho h1 hl
  refine ⟨v2,v3,Ji o n,?_,?_,ZlO ho h1 hl⟩
  ·refine ⟨o,Q5,Ji o n,?_,v4,?_⟩
   ·unfold Zq;split;rfl;split <;> rfl
   ·intro t ht
    unfold Zq at ht
    split at ht
    ·exact ht
    ·split at ht
     ·exact ht
     ·exact List.mem_of_mem_take ht
  ·intro x hx
   rcases Qc.1 hx with rfl | hx
   ·refine ⟨b1,o,Q5,?_,?_,b2,?_⟩
    ·unfold Yx;split <;> rfl
    ·unfold Yx;split <;> rfl
    ·intro t ht
     unfold Yx at ht
     split at ht
     ·exact ht
     ·exact List.mem_of_mem_drop ht
   ·exact hr x hx
theorem Zjp{d:List Tree}{s:List Tree}(h:Run [] s d):s=[]/\d=[]:=by cases h;exact ⟨rfl,rfl⟩
theorem Zc0(m:Int)(h0:0<=m)(h1:m < 256)(i:Nat):Z2I m (i:Int)=(BitVec.ofInt 8 m).toNat.testBit i:=by
 obtain ⟨n,rfl⟩:=QU h0
 have e:(BitVec.ofInt 8 ((n:Nat):Int)).toNat=n:=by simp;omega
 rw [e,Nat.testBit_eq_decide_div_mod_eq]
 unfold Z2I
 rw [decide_eq_decide,X2]
 have:((n:Int) / 2 ^ i % 2:Int)=((n / 2 ^ i % 2:Nat):Int):=by rw [Kn,Ko,Ku];try rfl
 rw [this];omega
theorem ZfD{a b:Int}(ha:0<=a/\a < 256)(hb:0<=b/\b < 256):(0<=Z1T a b/\Z1T a b < 256)/\∀ i:Nat,Z2I (Z1T a b) (i:Int)=(Z2I a (i:Int) && Z2I b (i:Int)):=by
 have hlt:(BitVec.ofInt 8 a &&& BitVec.ofInt 8 b).toNat < 256:=(BitVec.ofInt 8 a &&& BitVec.ofInt 8 b).isLt
 have e:Z1T a b=((BitVec.ofInt 8 a &&& BitVec.ofInt 8 b).toNat:Int):=by
  show IntKind.wrap .u8 ((BitVec.ofInt 8 a &&& BitVec.ofInt 8 b).toNat:Int)=_
  exact Z4u (by omega) (by omega)
 refine ⟨by rw [e];omega,fun i=> ?_⟩
 rw [Zc0 _ (by rw [e];omega) (by rw [e];omega),e,Zc0 a ha.1 ha.2,Zc0 b hb.1 hb.2]
 have:(BitVec.ofInt 8 (((BitVec.ofInt 8 a &&& BitVec.ofInt 8 b).toNat:Nat):Int)).toNat=(BitVec.ofInt 8 a &&& BitVec.ofInt 8 b).toNat:=by
  generalize (BitVec.ofInt 8 a &&& BitVec.ofInt 8 b).toNat=k at hlt ⊢
  simp
  omega
 rw [this,Kq,Kr]
theorem Zul(i:Nat):Ze 0 i=0:=by unfold Ze;simp
theorem Zv6{a b m:Int}{i:Nat}(hi:i < 8):Ze (mix a b m) i=if Z2I m i=true then Ze b i else Ze a i:=by rw [Zoz hi];try rfl
theorem J3{e:Edit}{d:Int}(h:Z8 e d=true):∀ o∈e.ops,ZT o:=Zi9 (Zt h).ops
theorem ZvS{e:Edit}(h:e.kind=1)(t:Tree):doE false e t=if ZZ (Z4 e.old) (Z4 t)=true then some e.new else none:=by rw [Zfj,Z8o,if_neg (by omega),if_pos h]
theorem Yq{e:Edit}(h:YQ e):rng e.old/\rng e.new/\(∀ x∈e.words,Zg2 x)/\Z2z e.kids/\Z1z e.ops:=by
 obtain ⟨k,o,n,w,ks,l,os⟩:=e
 exact ⟨h.2.1,h.2.2.1,h.2.2.2.1,h.2.2.2.2.2.1,h.2.2.2.2.2.2⟩
structure Alike (c r:Edit × Bool):Prop where
 ok:c.2=r.2
 nrm:c.2=true->Zo c.1=Zo r.1
section
variable {g:Edit->Edit->Edit × Bool}
end
theorem ZeT(l:Int)(os:List Op):Zo (.mk 3 Tree.nil Tree.nil [] [] l os)= .mk 3 Tree.nil Tree.nil [] [] l (Z0 (Zn l os ⟨[],[],[]⟩)).out:=by rw [Zo,if_neg (by decide),if_neg (by decide),if_pos rfl]
end Go.AM.Ytpjenobkibfpcaa
namespace Go.AM.Ytpjenobkibfpcaa
open Go.AM Go.Proofs
theorem ZpS(e:Edit):18<=ctE e:=by
 have:=Z4s e
 have:=Jr e.old
 have:=Jr e.new
 omega
theorem Z2W:∀ (a b:List Op),YZ (a++b)=YZ a+YZ b
 | [],b=> by simp [YZ]
 | o ::r,b=> by simp only [Qo,YZ,Z2W r b];omega
def ctW(w:Wst):Nat:=YZ w.out+(Z6 w.gone+if w.gone.length=0 then 0 else 34)+(Z6 w.brought+if w.brought.length=0 then 0 else 34)
theorem Z8H:ctE Edit.nil=18:=rfl
theorem Zcp(w:Wst):YZ (Z0 w).out=ctW w:=by
 simp only [Z0,Jv,ctW,Z2W]
 by_cases h1:w.gone.length=0
 ·rw [if_pos h1,if_pos h1,Q3 h1]
  by_cases h2:w.brought.length=0
  ·rw [if_pos h2,if_pos h2,Q3 h2];simp [YZ,Z6]
  ·rw [if_neg h2,if_neg h2];simp only [YZ,Z3y,Z8H,Z6];omega
 ·rw [if_neg h1,if_neg h1]
  by_cases h2:w.brought.length=0
  ·rw [if_pos h2,if_pos h2,Q3 h2];simp only [YZ,Z3y,Z8H,Z6];omega
  ·rw [if_neg h2,if_neg h2];simp only [YZ,Z3y,Z8H];omega
theorem ZkT(w:Wst)(n:Int):ctW (ZL w n)<=ctW w+34:=by
 have h:=Zcp w
 have e:ctW (ZL w n)=YZ (Yk (Z0 w).out n):=by simp [ZL,ctW,Z6]
 rw [e,<-h]
 rcases J1 (Z0 w).out n with e | ⟨a,q,e1,_,e3⟩
 ·rw [e,Z2W];simp only [YZ,Z3y,Z8H,Z6];omega
 ·rw [e3,e1,Z2W,Z2W];simp only [YZ,Z3y,Z2b];omega
mutual
theorem ZiP:∀ (e:Edit),ctE (Zo e)<=ctE e
 | .mk k o n w ks l os=> by
  have h1:=Zhl ks
  have h2:=Zhk l os ⟨[],[],[]⟩
  have h3:=Jo o
  have h4:=Jo n
  have:=Jr o
  have:=Jr n
  have hf:=Zcp (Zn l os ⟨[],[],[]⟩)
  have hz:ctW ⟨[],[],[]⟩=0:=rfl
  rw [Zo]
  split
  ·simp only [ctE,Z2n,YZ,Qb];omega
  ·split
   ·simp only [ctE,YZ,Z1n];omega
   ·split
    ·simp only [ctE,Z2n,Z1n,Qb];omega
    ·simp only [ctE,Z2n,YZ,Z1n,Qb];omega
theorem Zhl:∀ (ks:List (KidOf Edit)),Z2n (YW ks)<=Z2n ks
 | []=> Qf _
 | k ::r=> by
  have h1:=ZmB k
  have h2:=Zhl r
  simp only [YW,Z2n]
  omega
theorem ZmB:∀ (k:KidOf Edit),Z7H (Z0a k)<=Z7H k
 | ⟨a,e⟩=> by
  have:=ZiP e
  simp only [Z0a,Z7H]
  omega
theorem Zhk(list:Int):∀ (os:List (OpOf Edit)) (w:Wst),ctW (Zn list os w)<=ctW w+YZ os
 | [],w=> Qf _
 | o ::r,w=> by
  have h1:=ZpR list o w
  have h2:=Zhk list r (JY list o w)
  simp only [Zn,YZ]
  omega
theorem ZpR(list:Int):∀ (o:OpOf Edit) (w:Wst),ctW (JY list o w)<=ctW w+Z3y o
 | ⟨k,n,l,e⟩,w=> by
  have he:=ZiP e
  have h18:=ZpS e
  have hl:=Z4c l
  have hc:=fun a b=> Yo a b
  rw [JY]
  simp only [Z3y]
  split
  ·have:=ZkT w n;omega
  ·split
   ·have:=Yo w.gone (Z5 l)
    simp only [ctW]
    split <;> split <;> omega
   ·split
    ·have:=Yo w.brought (Z5 l)
     simp only [ctW]
     split <;> split <;> split <;> omega
    ·split
     ·split
      ·have:=ZkT w 1;omega
      ·have hf:=Zcp w
       show YZ ((Z0 w).out++[⟨3,0,[],Zo e⟩])+_+_<=_
       rw [Z2W,hf]
       simp only [YZ,Z3y,Z6,Qb,if_pos]
       omega
     ·omega
end
def YC(φ:Op->Int):List Op->Int
 | []=> 0
 | o ::r=> φ o+YC φ r
theorem ZaJ(φ:Op->Int):∀ a b:List Op,YC φ (a++b)=YC φ a+YC φ b
 | [],b=> by simp [YC]
 | o ::r,b=> by simp only [Qo,YC,ZaJ φ r b];omega
def ZmX(φ:Op->Int):Prop:=∀ o n,ZT o->1<=n->¬Z2 o<=n->φ (Zq o n)+φ (Yx o n)=φ o
theorem Z3L{φ:Op->Int}(hφ:ZmX φ){p:List Op}{n:Int}(hp:∀ o∈p,ZT o)(hl:p.length≠0)(h1:1<=n):φ (Zq (p.getD 0 Op.nil) n)+YC φ (Zw p n)=YC φ p/\∀ o∈Zw p n,ZT o:=by
 cases p with
 | nil=> exact absurd rfl hl
 | cons o r=>
  have ho:=hp o Q5
  unfold Zw
  simp only [Qi,Qq,QH]
  by_cases h:Z2 o<=n
  ·rw [if_pos h]
   have e:Zq o n=o:=by unfold Zq;rw [if_pos h]
   rw [e]
   exact ⟨rfl,fun x hx=> hp x (Q4 _ hx)⟩
  ·rw [if_neg h]
   refine ⟨by simp only [YC];have:=hφ o n ho h1 h;omega,fun x hx=> ?_⟩
   rcases Qc.1 hx with rfl | hx
   ·exact (Z7J ho h1 h).1
   ·exact hp x (Q4 _ hx)
theorem Zoj{φ ψ:Op->Int}(hφ:ZmX φ)(hψ:ZmX ψ)(a:Int):∀ (k:Nat) (p q:List Op) (out:List Piece),p.length+q.length<=k->(∀ o∈p,ZT o)->(∀ o∈q,ZT o)->(ZK a 2 p q out).2.1=true->
  ∃ ps,(ZK a 2 p q out).1=out++ps/\YC φ (Z5q ps)=YC φ p/\YC ψ (Z5p ps)=YC ψ q/\ps.length<=p.length+q.length:=by
 intro k
 induction k with
 | zero=>
  intro p q out hk hp hq h
  have e1:p=[]:=Q3 (by omega)
  have e2:q=[]:=Q3 (by omega)
  subst e1 e2
  rw [ZK,dif_neg (by simp [sgl]),dif_neg (by simp [sgl]),dif_pos (by simp)]
  exact ⟨[],by simp,rfl,rfl,by simp⟩
 | succ k ih=>
  intro p q out hk hp hq h
  rw [ZK] at h ⊢
  by_cases h1:sgl a p=true
  ·rw [dif_pos h1] at h ⊢
   obtain ⟨g1,_⟩:=YD.1 h1
   cases p with
   | nil=> exact absurd rfl g1
   | cons o r=>
    simp only [Qi,Qq,QH] at h ⊢
    obtain ⟨ps,e,f1,f2,f3⟩:=ih r q _ (by simp only [Q9] at hk;omega) (fun x hx=> hp x (Q4 _ hx)) hq h
    refine ⟨⟨1,o,Op.nil⟩ ::ps,by rw [e,Qd];rfl,?_,?_,by simp only [Q9];omega⟩
    ·show YC φ (o ::Z5q ps)=_
     simp only [YC];omega
    ·exact f2
  ·rw [dif_neg h1] at h ⊢
   by_cases h2:sgl 2 q=true
   ·rw [dif_pos h2] at h ⊢
    obtain ⟨g1,_⟩:=YD.1 h2
    cases q with
    | nil=> exact absurd rfl g1
    | cons o r=>
     simp only [Qi,Qq,QH] at h ⊢
     obtain ⟨ps,e,f1,f2,f3⟩:=ih p r _ (by simp only [Q9] at hk;omega) hp (fun x hx=> hq x (Q4 _ hx)) h
     refine ⟨⟨2,Op.nil,o⟩ ::ps,by rw [e,Qd];rfl,f1,?_,by simp only [Q9];omega⟩
     show YC ψ (o ::Z5p ps)=_
     simp only [YC];omega
   ·rw [dif_neg h2] at h ⊢
    by_cases h3:p.length=0\/q.length=0
    ·rw [dif_pos h3] at h ⊢
     by_cases h4:decide (p.length=0)=decide (q.length=0)
     ·rw [if_pos h4]
      have h5:p.length=0/\q.length=0:=by
       have:=decide_eq_decide.1 h4
       omega
      rw [Q3 h5.1,Q3 h5.2]
      exact ⟨[],by simp,rfl,rfl,by simp⟩
     ·rw [if_neg h4] at h;cases h
    ·rw [dif_neg h3] at h ⊢
     have l1:p.length≠0:=by omega
     have l2:q.length≠0:=by omega
     have p1:=ZA (hp _ (Zh (l:=p) (i:=0) (by omega) Op.nil))
     have p2:=ZA (hq _ (Zh (l:=q) (i:=0) (by omega) Op.nil))
     generalize hn:min (Z2 (p.getD 0 Op.nil)) (Z2 (q.getD 0 Op.nil))=n at h ⊢
     obtain ⟨s1,s2⟩:=Z3L hφ hp l1 (n:=n) (by omega)
     obtain ⟨t1,t2⟩:=Z3L hψ hq l2 (n:=n) (by omega)
     have c1:=Y6 p n l1
     have c2:=Y6 q n l2
     have c3:Z2 (p.getD 0 Op.nil)<=n->(Zw p n).length < p.length:=fun h=> Y5 p _ l1 h
     have c4:Z2 (q.getD 0 Op.nil)<=n->(Zw q n).length < q.length:=fun h=> Y5 q _ l2 h
     obtain ⟨ps,e,f1,f2,f3⟩:=ih (Zw p n) (Zw q n) _ (by omega) s2 t2 h
     refine ⟨⟨0,Zq (p.getD 0 Op.nil) n,Zq (q.getD 0 Op.nil) n⟩ ::ps,by rw [e,Qd];rfl,?_,?_,by simp only [Q9];omega⟩
     ·show YC φ (Zq (p.getD 0 Op.nil) n ::Z5q ps)=_
      simp only [YC];omega
     ·show YC ψ (Zq (q.getD 0 Op.nil) n ::Z5p ps)=_
      simp only [YC];omega
def φA(o:Op):Int:=if o.kind=2 then 0 else Z2 o
def φB(o:Op):Int:=if o.kind=1 then 0 else Z2 o
def φC(o:Op):Int:=Z6 o.l+ctE o.e - 18
theorem ZaK:∀ l,YC φA l=YK l
 | []=> rfl
 | o ::r=> by simp only [YC,YK,φA,ZaK r]
theorem Z0P:∀ l,YC φB l=Yd l
 | []=> rfl
 | o ::r=> by simp only [YC,Yd,φB,Z0P r]
theorem ZhE:∀ l,YC φC l+34*l.length=YZ l
 | []=> rfl
 | o ::r=> by
  have:=ZhE r
  simp only [YC,YZ,φC,Z2b,Q9]
  omega
theorem Z0v(o:Op)(n:Int):(Yx o n).kind=o.kind:=by unfold Yx;split <;> rfl
theorem Zq2{o:Op}{n:Int}(ho:ZT o)(h1:1<=n)(hn:¬Z2 o<=n):Z2 (Yx o n)=Z2 o - n:=by
 obtain ⟨_,_,v3,_⟩:=Zaw (a:=1) ho h1 hn
 have hl:=Y9 o
 rcases ho with ⟨k0,k1,k2,k3⟩ | ⟨k0,k1,k2,k3⟩ | ⟨k0,k1,k2⟩
 ·unfold Yx
  rw [if_pos k0,Y9]
  dsimp only
  rw [if_neg (by omega)] at hl ⊢
  omega
 ·unfold Yx
  rw [if_neg (by omega),Y9]
  dsimp only
  rw [if_neg (by omega)] at hl ⊢
  rw [QZ]
  omega
 ·rw [if_pos k0] at hl
  omega
theorem Zuo:ZmX φB:=by
 intro o n ho h1 hn
 obtain ⟨_,_,v3,_⟩:=Zaw (a:=1) ho h1 hn
 have:=Zq2 ho h1 hn
 unfold φB
 rw [Ji,Z0v,v3,this]
 split <;> omega
theorem Zun:ZmX φC:=by
 intro o n ho h1 hn
 have hl:=Y9 o
 unfold φC Zq Yx
 rw [if_neg hn]
 rcases ho with ⟨k0,k1,k2,k3⟩ | ⟨k0,k1,k2,k3⟩ | ⟨k0,k1,k2⟩
 ·rw [if_pos k0,if_pos k0]
  dsimp only
  rw [k3,k1,Z8H]
  simp [Z6]
 ·rw [if_neg (by omega),if_neg (by omega)]
  dsimp only
  have:=Yo (o.l.take n.toNat) (o.l.drop n.toNat)
  rw [QJ] at this
  rw [k3,Z8H]
  omega
 ·rw [if_pos k0] at hl
  omega
theorem ZaB{D list:Int}:∀ {l:List Tree},Y7 D list l=true->Y7 (-1) list l=true
 | [],_=> rfl
 | t ::r,h=> by
  simp only [Y7,Q1] at h ⊢
  exact ⟨Z4G _ _ _ (by decide) h.1,ZaB h.2⟩
mutual
theorem Yr:∀ (e:Edit) (d m:Int),m < 0->Z8 e d=true->Z8 e m=true
 | .mk k o n w ks l os,d,m,hm,h=> by
  have h1:=Z8Z ks
  have h2:=Z8X l os
  rw [Z8] at h ⊢
  split at h
  ·cases h
  ·rename_i a
   rw [if_neg (by omega)]
   split at h
   ·cases h
   ·rename_i b
    rw [if_neg b]
    split at h
    ·rename_i c
     rw [if_pos c,Zco hm]
     simp only [Q1] at h ⊢
     exact ⟨⟨Z4G _ _ _ (by decide) h.1.1,Z4G _ _ _ (by decide) h.1.2⟩,h.2⟩
    ·rename_i c
     rw [if_neg c]
     simp only [Q1] at h ⊢
     exact ⟨⟨⟨⟨h.1.1.1.1,h1 _ _ (m - 1) (by omega) h.1.1.1.2⟩,h.1.1.2⟩,h2 _ (m - 1) (by omega) h.1.2⟩,h.2⟩
theorem Z8Z:∀ (ks:List (KidOf Edit)) (last d m:Int),m < 0->ZB last ks d=true->ZB last ks m=true
 | [],_,_,_,_,_=> rfl
 | k ::r,last,d,m,hm,h=> by
  simp only [ZB,Q1] at h ⊢
  exact ⟨Zee k last d m hm h.1,Z8Z r k.at_ d m hm h.2⟩
theorem Zee:∀ (k:KidOf Edit) (last d m:Int),m < 0->Jm last k d=true->Jm last k m=true
 | ⟨a,e⟩,last,d,m,hm,h=> by
  simp only [Jm,Q1] at h ⊢
  exact ⟨h.1,Yr e d m hm h.2⟩
theorem Z8X(list:Int):∀ (os:List (OpOf Edit)) (d m:Int),m < 0->ZF list os d=true->ZF list os m=true
 | [],_,_,_,_=> rfl
 | o ::r,d,m,hm,h=> by
  simp only [ZF,Q1] at h ⊢
  exact ⟨Zg8 list o d m hm h.1,Z8X list r d m hm h.2⟩
theorem Zg8(list:Int):∀ (o:OpOf Edit) (d m:Int),m < 0->Zg list o d=true->Zg list o m=true
 | ⟨k,n,l,e⟩,d,m,hm,h=> by
  have he:=Yr e d m hm
  rw [Zg] at h ⊢
  split at h
  ·rename_i h0;rw [if_pos h0];exact h
  ·rename_i h0
   rw [if_neg h0]
   split at h
   ·cases h
   ·rename_i h1
    rw [if_neg h1]
    split at h
    ·rename_i h2
     rw [if_pos h2,Zco hm]
     simp only [Q1] at h ⊢
     exact ⟨⟨ZaB h.1.1,h.1.2⟩,h.2⟩
    ·rename_i h2
     rw [if_neg h2]
     simp only [Q1] at h ⊢
     exact ⟨⟨h.1.1,he h.1.2⟩,h.2⟩
end
structure Wk (e:Edit):Prop where
 r:Z8 e (-1)=true
 g:YQ e
theorem Wk.of{e:Edit}{d:Int}(h:Z8 e d=true)(g:YQ e):Wk e:=⟨Yr e d _ (by decide) h,g⟩
theorem YH{n:Int}(h0:0<=n)(h9:n<=9):InR n:=by unfold InR;omega
theorem ZlR{w:List WEdit}{ks:List Kid}(h1:Yc (-1) w=true)(h2:ZB (-1) ks (-2)=true):Z8 (.mk 2 Tree.nil Tree.nil w ks 0 []) (-1)=true:=by
 rw [Z8,if_neg (by decide),if_neg (by simp [Jf,Tree.nil]),if_neg (by decide),h1,show (-1:Int) - 1= -2 from rfl,h2]
 simp [ZF,Z1b,Z1a]
theorem ZlQ{l:Int}{os:List Op}(hl:2<=l/\l<=9)(h:ZF l os (-2)=true)(h1:Z1b os 0 < 1048576)(h2:Z1a os 0 < 1048576):Z8 (.mk 3 Tree.nil Tree.nil [] [] l os) (-1)=true:=by
 rw [Z8,if_neg (by decide),if_neg (by simp [Jf,Tree.nil]),if_neg (by decide),show (-1:Int) - 1= -2 from rfl,h]
 simp only [Yc,ZB,QB,X3,Q1,decide_eq_true_eq]
 exact ⟨by omega,h1,h2⟩
theorem Zav:∀ {l:List WEdit} {last:Int},asc WEdit.at_ last l->(∀ w∈l,w.at_<=65534/\w.mask≠0/\Yu w.old w.mask=true/\Yu w.new w.mask=true)->Yc last l=true
 | [],_,_,_=> rfl
 | a ::r,last,h,hw=> by
  obtain ⟨h1,h2,h3,h4⟩:=hw a Q5
  simp only [Yc,Q1,decide_eq_true_eq]
  exact ⟨⟨⟨⟨h.1,h1,h2⟩,h3⟩,h4⟩,Zav h.2 fun w hw'=> hw w (Q4 _ hw')⟩
theorem Zbe{d:Int}:∀ {l:List Kid} {last:Int},asc KidOf.at_ last l->(∀ k∈l,k.at_<=65534/\k.e.kind≠0/\Z8 k.e d=true)->ZB last l d=true
 | [],_,_,_=> rfl
 | a ::r,last,h,hw=> by
  obtain ⟨h1,h2,h3⟩:=hw a Q5
  simp only [ZB,Z3W,Q1,decide_eq_true_eq]
  exact ⟨⟨⟨h.1,h1,h2⟩,h3⟩,Zbe h.2 fun w hw'=> hw w (Q4 _ hw')⟩
theorem Zbc{list d:Int}:∀ {l:List Op},(∀ o∈l,Zg list o d=true)->ZF list l d=true
 | [],_=> rfl
 | a ::r,h=> by
  simp only [ZF,Q1]
  exact ⟨h a Q5,Zbc fun o ho=> h o (Q4 _ ho)⟩
theorem Z4v{D list:Int}:∀ {l:List Tree},(∀ t∈l,Zu (.mk list [] [t]) D=true)->Y7 D list l=true
 | [],_=> rfl
 | t ::r,h=> by
  simp only [Y7,Q1]
  exact ⟨h t Q5,Z4v fun x hx=> h x (Q4 _ hx)⟩
theorem ZjS{list n:Int}(h1:1<=n)(h2:n<=1048576)(d:Int):Zg list ⟨0,n,[],Edit.nil⟩ d=true:=by
 rw [Zg,if_pos rfl,Z1w]
 simp only [Qb,X3,decide_eq_true_eq]
 exact ⟨h1,h2,trivial⟩
theorem ZbI{list k d:Int}{l:List Tree}(hk:k=1\/k=2)(h:Y7 (dT d) list l=true)(hl:l≠[]):Zg list ⟨k,0,l,Edit.nil⟩ d=true:=by
 rw [Zg,if_neg (by omega),if_neg (by omega),if_pos (by omega),Z1w,h]
 have:=Xy.2 hl
 simp only [QB,X3,decide_eq_true_eq]
 omega
theorem ZjT{list d:Int}{e:Edit}(h:Z8 e d=true)(h0:e.kind≠0)(hl:7 < list)(hw:list=8\/e.kind=2\/e.kind=1/\e.old.kind=1/\e.new.kind=1):Zg list ⟨3,0,[],e⟩ d=true:=by
 rw [Zg,if_neg (by decide),if_neg (by decide),if_neg (by decide),h]
 simp only [Qb,X3,Q1,decide_eq_true_eq]
 exact ⟨⟨trivial,h0,hl⟩,hw⟩
def Wl(list:Int)(e:Edit):Prop:=list=8\/e.kind=2\/e.kind=1/\e.old.kind=1/\e.new.kind=1
theorem Zly{w m:Int}(h:∀ i,i < 8->Z2I m (i:Nat)=false->Ze w i=0):Yu w m=true:=by
 unfold Yu mix of8
 rw [decide_eq_true_eq]
 have z:∀ i,i < 8->YP w 0 m i=0:=by
  intro i hi
  unfold YP
  split
  ·exact Zul i
  ·rename_i hn;exact h i hi (by simpa using hn)
 rw [z 0 (by omega),z 1 (by omega),z 2 (by omega),z 3 (by omega),z 4 (by omega),z 5 (by omega),z 6 (by omega),z 7 (by omega)]
 try rfl
theorem Zg4:∀ {l:List Kid},(∀ k∈l,InR k.at_/\YQ k.e)->Z2z l
 | [],_=> trivial
 | ⟨a,e⟩ ::r,h=> ⟨h _ Q5,Zg4 fun k hk=> h k (Q4 _ hk)⟩
theorem Zg3:∀ {l:List Op},(∀ o∈l,Z23 o)->Z1z l
 | [],_=> trivial
 | o ::r,h=> ⟨h _ Q5,Zg3 fun k hk=> h k (Q4 _ hk)⟩
end Go.AM.Ytpjenobkibfpcaa
namespace Go.AM
def wOk(w:WEdit):Prop:=Zg2 w/\Yu w.old w.mask=true/\Yu w.new w.mask=true
end Go.AM
namespace Go.AM.Ytpjenobkibfpcaa
open Go.AM Go.Proofs
theorem Z5X:Z7 Edit.nil=3:=rfl
theorem Zk2(e:Edit):3<=Z7 e:=by
 obtain ⟨k,o,n,w,ks,l,os⟩:=e
 have:=Jr o
 have:=Jr n
 simp only [Z7];omega
theorem Zm8:Z8 Edit.nil 1=true:=rfl
mutual
def utE:Edit->Nat
 | .mk _ o n w ks _ os=> 16+Zm o+Zm n+65600*w.length+Znt ks+ZlC os
def Znt:List (KidOf Edit)->Nat
 | []=> 0
 | k ::r=> ZtO k+Znt r
def ZtO:KidOf Edit->Nat
 | ⟨_,e⟩=> 65600+utE e
def ZlC:List (OpOf Edit)->Nat
 | []=> 0
 | o ::r=> Zrj o+ZlC r
def Zrj:OpOf Edit->Nat
 | ⟨k,n,l,e⟩=> if k=3 then 16+utE e else 34*(n.toNat+l.length)+Z6 l
end
theorem ZuG(e:Edit):utE e=16+Zm e.old+Zm e.new+65600*e.words.length+Znt e.kids+ZlC e.ops:=by cases e;rfl
theorem Znu(k:Kid):ZtO k=65600+utE k.e:=by cases k;rfl
theorem Zri(o:Op):Zrj o=if o.kind=3 then 16+utE o.e else 34*(o.n.toNat+o.l.length)+Z6 o.l:=by cases o;rfl
theorem Zns:∀ (n:Nat) (e:Edit),Z7 e<=n->(∃ d,Z8 e d=true)->Y3 e=true->utE e+131100<=65600*Z7 e+150000*Z7 e:=by
 intro n
 induction n with
 | zero=> intro e h;have:=Zk2 e;omega
 | succ n ih=>
  intro e hn ⟨d,hr⟩ hl
  have R:=Zt hr
  have hm:=Zk2 e
  have me:Z7 e=1+Zm e.old+Zm e.new+e.words.length+e.ops.length+ZR e.kids+Zd e.ops:=by cases e;rfl
  have mo:=Jr e.old
  have mn:=Jr e.new
  rw [Z4S,Q1,Q1,decide_eq_true_eq] at hl
  obtain ⟨⟨l1,l2⟩,l3⟩:=hl
  have hk:∀ l:List Kid,(∀ k∈l,k∈e.kids)->J7 l=true->Znt l<=215600*ZR l:=by
   intro l
   induction l with
   | nil=> intro _ _;exact Qf _
   | cons a r ihl=>
    intro h hl
    simp only [J7,Q1,Z9m] at hl
    have ha:=h a Q5
    have:=Yp ha
    have:=ih a.e (by omega) ⟨_,(Zz R.kids a ha).2⟩ hl.1
    have:=ihl (fun k hk=> h k (Q4 _ hk)) hl.2
    simp only [Znt,ZR,Znu,Z8t];omega
  have ook:=J3 hr
  have ho:∀ l:List Op,(∀ o∈l,o∈e.ops)->ZN l=true->(ZlC l:Int)<=215600*Zd l+34*Z2m l+16*l.length:=by
   intro l
   induction l with
   | nil=> intro _ _;simp [ZlC,Zd,Z2m]
   | cons a r ihl=>
    intro h hl
    simp only [ZN,Q1,Zc6] at hl
    have ha:=h a Q5
    have:=ihl (fun k hk=> h k (Q4 _ hk)) hl.2
    have hr:=rightOs_mem R.ops ha
    have key:(Zrj a:Int)<=215600*Zv a+34*Z2 a+16:=by
     have me:=J8 ha
     have ml:=Zs a.l
     rw [Zri,ZI]
     have rt:=Jl hr
     have hp:=Y9 a
     cases rt with
     | keep n h1 h2=> rw [if_neg (show ¬(0:Int)=3 by decide)];rw [if_neg (show ¬(0:Int)=3 by decide)] at hp;simp only [Z6,Qb,Z5X] at*;omega
     | gone l h1 h2=> rw [if_neg (show ¬(1:Int)=3 by decide)];rw [if_neg (show ¬(1:Int)=3 by decide)] at hp;dsimp only at*;simp only [Z5X] at*;omega
     | come l h1 h2=> rw [if_neg (show ¬(2:Int)=3 by decide)];rw [if_neg (show ¬(2:Int)=3 by decide)] at hp;dsimp only at*;simp only [Z5X] at*;omega
     | into e' h1 h2=>
      rw [if_pos rfl] at hp ⊢
      have:=ih e' (by dsimp only at me;omega) ⟨_,h1⟩ hl.1
      simp only [Z6];omega
    simp only [ZlC,Zd,Z2m,Q9];omega
  have h1:=hk e.kids (fun k h=> h) l2
  have h2:=ho e.ops (fun k h=> h) l3
  have h3:=kids_sum ook
  have h4:YK e.ops<=2000/\Yd e.ops<=2000:=by
   have ok:∀ o∈e.ops,0<=Z2 o:=fun o ho=> ZeQ (ook o ho)
   have a:=Z0c e.ops 0 ok (by decide) (by decide)
   have b:=Z0M e.ops 0 ok (by decide) (by decide)
   omega
  rw [ZuG,me]
  omega
where
 kids_sum:∀ {l:List Op},(∀ o∈l,ZT o)->Z2m l<=YK l+Yd l
  | [],_=> by simp [Z2m,YK,Yd]
  | o ::r,h=> by
   have h1:=ZA (h o Q5)
   have h2:=kids_sum fun x hx=> h x (Q4 _ hx)
   simp only [Z2m,YK,Yd]
   split <;> split <;> omega
def φU(o:Op):Int:=Zrj o
def Zyh(e:Edit):Prop:=utE e<=9000000000/\YQ e/\∃ d,Z8 e d=true
noncomputable section
noncomputable section
def Zlk:ArgL (Int × Unit):=(.cons (Jd .u8) .nil)
def ZbE(a:Int × Unit):Prop:=0<=a.1/\a.1 < 256
def ZnY(a:Int × Unit):V U:= .c (.int .u64 ((Z0k (a.1).toNat 8:Nat):Int))
def Z6o:Fs U:=fs Zlk (fun a=> [ZbE a]) ZnY
def Z6Z:Zf U:=lvl [([0],[]),([0,3],[]),([0,3,5],[]),([0,3,5,6],[]),([0,3,4,5],[]),([0,3,4,5,12],[]),([0,3,5],[]),([0,3,5],[]),([2],[])]
def Z02(m x3 x5:Int):LSt U:=(L2 [(0,.c (.int .u8 m)),(3,.c (.int .u64 x3)),pI 5 x5] [])
abbrev ZyN(m:Int)(Q:QT):=AW (Z1 Zix) Try.f105 Z6Z [] (L2 [(0,.c (.int .u8 m))] []) Q
abbrev Zj8:=awp cfg (Z1 Zix) (ZW cfg (Z1 Zix)) Try.f105.ntmps Z6Z
abbrev ZhJ:=Ze9 cfg (Z1 Zix) (ZW cfg (Z1 Zix)) Try.f105.ntmps Z6Z
theorem Zya(m:Int)(Q:QT)(h:Zi (AW (Z1 Zix) Try.f105 Z6Z [1,1,0,1,0,0]) (Z02 m 0 0) (xB 0 (SW (Z1 Zix) Try.f105 Z6Z [1,1,1] Q))):
  ZyN m Q:=by
 have e_:(ZyN m Q)=(Zi (Zj8 (cd Try.f105 [1,1,0,1,0,0])) (Z02 m 0 0) (xB 0 (ZhJ (cd Try.f105 [1,1,1]) Q))):=by kernel_rfl
 exact e_.mpr h
abbrev Zlv(m x3 x5:Int)(N0:NT)(Q:QT):=AW (Z1 Zix) Try.f105 Z6Z [1,1,0,1,0,0] (Z02 m x3 x5) (xT N0 (xB 0 (SW (Z1 Zix) Try.f105 Z6Z [1,1,1] Q)))
theorem Znq(m x3 x5:Int)(N0:NT)(Q:QT)(h:((decide (x5 < 8))=true->((0:Int)<=x5)/\(((((IntKind.wrap .u8 (BitVec.ofInt (IntKind.bits .u8) (Int.fdiv m (2 ^ (min x5.toNat (IntKind.bits .u8)))) &&& BitVec.ofInt (IntKind.bits .u8) 1).toNat):Int)==1)=true->(InR ((8:Int)*x5))/\((0:Int)<=((8:Int)*x5))/\((InR (x5+1))/\(N0 (Z02 m (IntKind.wrap .u64 (BitVec.ofInt (IntKind.bits .u64) x3 ||| BitVec.ofInt (IntKind.bits .u64) (IntKind.wrap .u64 ((255:Int)*2 ^ (min (Int.toNat ((8:Int)*x5)) (IntKind.bits .u64))))).toNat) (x5+1)))))/\((((IntKind.wrap .u8 (BitVec.ofInt (IntKind.bits .u8) (Int.fdiv m (2 ^ (min x5.toNat (IntKind.bits .u8)))) &&& BitVec.ofInt (IntKind.bits .u8) 1).toNat):Int)==1)=false->(InR (x5+1))/\(N0 (Z02 m x3 (x5+1))))))/\((decide (x5 < 8))=false->Q .ret (L2 [(2,.c (.int .u64 x3))] []))):
  Zlv m x3 x5 N0 Q:=by
 have e_:(Zlv m x3 x5 N0 Q)=(let zz0:=(((IntKind.wrap .u8 (BitVec.ofInt (IntKind.bits .u8) (Int.fdiv m (2 ^ (min x5.toNat (IntKind.bits .u8)))) &&& BitVec.ofInt (IntKind.bits .u8) 1).toNat):Int)==1);(((decide ((x5:Int) < 8))=true->(((0:Int)<=x5)/\((zz0=true->(InR ((8:Int)*x5))/\((0:Int)<=((8:Int)*x5))/\((InR ((x5:Int)+1))/\(N0 (Z02 m (IntKind.wrap .u64 (BitVec.ofInt (IntKind.bits .u64) x3 ||| BitVec.ofInt (IntKind.bits .u64) (IntKind.wrap .u64 ((255:Int)*2 ^ (min (Int.toNat ((8:Int)*x5)) (IntKind.bits .u64))))).toNat) ((x5:Int)+1)))))/\(zz0=false->(InR ((x5:Int)+1))/\(N0 (Z02 m x3 ((x5:Int)+1)))))))/\((decide ((x5:Int) < 8))=false->(Q .ret (L2 [(2,.c (.int .u64 x3))] []))))):=by kernel_rfl
 exact e_.mpr ⟨fun c_1=> ⟨(h.1 c_1).1,⟨fun c_2=> ⟨((h.1 c_1).2.1 c_2).1,((h.1 c_1).2.1 c_2).2.1,⟨((h.1 c_1).2.1 c_2).2.2.1,((h.1 c_1).2.1 c_2).2.2.2⟩⟩,fun c_2=> ⟨((h.1 c_1).2.2 c_2).1,((h.1 c_1).2.2 c_2).2⟩⟩⟩,fun c_1=> (h.2 c_1)⟩
def ZtK(m:Int):Prop:=AW (Z1 Zix) Try.f105 Z6Z [] (Zj (Zlk.can (m,())) []) (EQ Try.f105 (ZnY (m,())) [])
theorem Zsi(hb:∀ (m:Int) (_:Unit),ZbE (m,())->ZtK m):CT 105 Z6o:=
 Z3 (l:=[]) Zl rfl trivial Z6Z Try.func105 rfl rfl 1 (fun _=> rfl) (by decide) (fun ⟨m,_⟩=> hb m ())
def Zpu:List (FuncId × Fs U):=[(105,Z6o)]
def ZvB:Zf U:=lvl [([0,1,2],[]),([6],[])]
abbrev W66(a b m:Int)(Q:QT):=AW (Z1 Zpu) Try.f66 ZvB [] (L2 [(0,.c (.int .u64 a)),(1,.c (.int .u64 b)),(2,.c (.int .u8 m))] []) Q
theorem Zzi(a b m:Int)(Q:QT)(h:(ZbE (m,()))/\(ZbE (m,()))/\(Q .ret (L2 [(6,.c (.int .u64 (IntKind.wrap .u64 (BitVec.ofInt (IntKind.bits .u64) (IntKind.wrap .u64 (BitVec.ofInt (IntKind.bits .u64) a &&& ~~~(BitVec.ofInt (IntKind.bits .u64) ((Z0k m.toNat 8:Nat):Int))).toNat) ||| BitVec.ofInt (IntKind.bits .u64) (IntKind.wrap .u64 (BitVec.ofInt (IntKind.bits .u64) b &&& BitVec.ofInt (IntKind.bits .u64) ((Z0k m.toNat 8:Nat):Int)).toNat)).toNat)))] []))):
  W66 a b m Q:=by
 have e_:(W66 a b m Q)=(type_of% h):=by kernel_rfl
 exact e_.mpr ⟨h.1,h.2.1,h.2.2⟩
def ZwV(a b m:Int):Prop:=AW (Z1 Zpu) Try.f66 ZvB [] (Zj (Zlm.can (a,b,m,())) []) (EQ Try.f66 (Zo0 (a,b,m,())) [])
theorem Zvi(Zwp:CT 105 Z6o)(hb:∀ (a:Int) (b:Int) (m:Int) (_:Unit),ZeL (a,b,m,())->ZwV a b m):CT 66 Z6p:=
 Z3 (l:=[(105,Z6o)]) Zl rfl (⟨Zwp,trivial⟩) ZvB Try.func66 rfl rfl 3 (fun _=> rfl) (by decide) (fun ⟨a,b,m,_⟩=> hb a b m ())
end
end
theorem Zq0:∀ n:Fin 256,∀ i:Fin 8,IntKind.wrap .u8 (BitVec.ofInt (IntKind.bits .u8) (Int.fdiv (n.1:Int) (2 ^ (min (Int.toNat (i.1:Int)) (IntKind.bits .u8)))) &&& BitVec.ofInt (IntKind.bits .u8) 1).toNat=((n.1 / 2 ^ i.1 % 2:Nat):Int):=by decide+kernel
theorem Zry:∀ n:Fin 256,∀ i:Fin 8,IntKind.wrap .u64 (BitVec.ofInt (IntKind.bits .u64) ((Z0k n.1 i.1:Nat):Int) ||| BitVec.ofInt (IntKind.bits .u64) (IntKind.wrap .u64 (255*2 ^ (min (Int.toNat (8*(i.1:Int))) (IntKind.bits .u64))))).toNat=((Z0k n.1 i.1+255*2 ^ (8*i.1):Nat):Int):=by decide+kernel
theorem Zwp:Contract Try.prog cfg 105 Z6o:=by
 refine Zsi ?_
 intro m _ hp
 simp only [ZbE] at hp
 obtain ⟨n,rfl⟩:=QU hp.1
 have hn:n < 256:=by omega
 refine Zya _ _ ?_
 refine Z9 (ι:=Nat) (fun i=> Z02 n ((Z0k n i:Nat):Int) i) (fun i=> i<=8) (fun i=> 8 - i) 0 rfl (by omega) ?_
 intro i hi
 refine Znq _ _ _ _ _ ?_
 (simp only [vcS])
 refine ⟨fun hc=> ⟨by omega,fun hq=> ⟨by unfold InR;omega,by omega,by unfold InR;omega,i+1,?_,by omega,by omega⟩,fun hq=> ⟨by unfold InR;omega,i+1,?_,by omega,by omega⟩⟩,fun hc=> ?_⟩
 ·have h1:=Zq0 ⟨n,hn⟩ ⟨i,by omega⟩
  have h2:=Zry ⟨n,hn⟩ ⟨i,by omega⟩
  simp only at h1 h2
  rw [h1] at hq
  rw [h2]
  have e:Z0k n (i+1)=Z0k n i+255*2 ^ (8*i):=by simp only [Z0k];rw [if_pos (by omega)]
  rw [e]
  try rfl
 ·have h1:=Zq0 ⟨n,hn⟩ ⟨i,by omega⟩
  simp only at h1
  rw [h1] at hq
  have e:Z0k n (i+1)=Z0k n i:=by simp only [Z0k];rw [if_neg (by omega)];omega
  rw [e]
  try rfl
 ·have:i=8:=by omega
  subst this
  exact Yt rfl rfl
theorem Z1m(a:Nat)(h:a < 2 ^ 64):(BitVec.ofInt 64 (a:Int)).toNat=a:=by
 rw [BitVec.toNat_ofInt]
 omega
theorem c66:Contract Try.prog cfg 66 Z6p:=by
 refine Zvi Zwp ?_
 intro a b m _ hp
 simp only [ZeL] at hp
 obtain ⟨⟨a0,a1⟩,⟨b0,b1⟩,m0,m1⟩:=hp
 obtain ⟨x,rfl⟩:=QU a0
 obtain ⟨y,rfl⟩:=QU b0
 obtain ⟨n,rfl⟩:=QU m0
 have hn:n < 256:=by omega
 have hx:x < 2 ^ 64:=by omega
 have hy:y < 2 ^ 64:=by omega
 have hw:=ZqF ⟨n,hn⟩
 have hw2:=Zjb ⟨n,hn⟩
 simp only at hw hw2
 rw [<-hw2] at hw
 refine Zzi _ _ _ _ ?_
 refine ⟨⟨m0,m1⟩,⟨m0,m1⟩,Yt rfl ?_⟩
 have em:mix x y n=(((x &&& (2 ^ 64 - 1 - Z0k n 8)) ||| (y &&& Z0k n 8):Nat):Int):=by rw [<-ZoB,<-ZoA x y n hn]
 have e1:(BitVec.ofInt 64 (x:Int) &&& ~~~(BitVec.ofInt 64 ((Z0k n 8:Nat):Int))).toNat=x &&& (2 ^ 64 - 1 - Z0k n 8):=by
  rw [Kq,BitVec.toNat_not,Z1m x hx,Z1m _ hw]
 have e2:(BitVec.ofInt 64 (y:Int) &&& BitVec.ofInt 64 ((Z0k n 8:Nat):Int)).toNat=y &&& Z0k n 8:=by
  rw [Kq,Z1m y hy,Z1m _ hw]
 have l1:x &&& (2 ^ 64 - 1 - Z0k n 8) < 2 ^ 64:=Nat.lt_of_le_of_lt Nat.and_le_left hx
 have l2:y &&& Z0k n 8 < 2 ^ 64:=Nat.lt_of_le_of_lt Nat.and_le_left hy
 have l3:(x &&& (2 ^ 64 - 1 - Z0k n 8)) ||| (y &&& Z0k n 8) < 2 ^ 64:=Nat.or_lt_two_pow l1 l2
 have key:IntKind.wrap .u64 ((BitVec.ofInt 64 (IntKind.wrap .u64 ((BitVec.ofInt 64 (x:Int) &&& ~~~(BitVec.ofInt 64 ((Z0k n 8:Nat):Int))).toNat:Int)) ||| BitVec.ofInt 64 (IntKind.wrap .u64 ((BitVec.ofInt 64 (y:Int) &&& BitVec.ofInt 64 ((Z0k n 8:Nat):Int)).toNat:Int))).toNat:Int)=mix x y n:=by
  have w1:∀ k:Nat,k < 2 ^ 64->IntKind.wrap .u64 (k:Int)=k:=fun k hk=> Z3I (by omega) (by omega)
  rw [e1,e2,w1 _ l1,w1 _ l2,BitVec.toNat_or,Z1m _ l1,Z1m _ l2,w1 _ l3,em]
 exact key
noncomputable section
noncomputable section
def Zlc:ArgL (List Tree × List Tree × Unit × Unit):=(.cons (aSl .tree) (.cons (aSl .tree) (.cons (aFn 106) .nil)))
def Z5N(a:List Tree × List Tree × Unit × Unit):Prop:=Z6 a.1<=1000000000000/\Z6 a.2.1<=1000000000000
def ZnU(a:List Tree × List Tree × Unit × Unit):V U:= .c (.bool (eqX (Z5 a.1) (Z5 a.2.1)))
def Z07:Fs U:=fs Zlc (fun a=> [Z5N a]) ZnU
def Z0A:List (FuncId × Fs U):=[(106,Je)]
def Z6X:Zf U:=lvl [([0,1,2],[]),([0,1,2,14],[]),([6],[]),([1,2,15,16,17],[]),([1,2,15,16,17,18],[]),([1,2,7,8,15,16,17],[8]),([1,2,8,9,15,16,17],[8,9]),([1,2,15,16,17,30],[]),([6],[]),([1,2,15,16,17],[]),([6],[])]
def Z1s(a b:List Tree)(f:Unit)(x17:Int):LSt U:=(L2 [(1,.c (sU .tree b .unk)),(2,.fn 106),(15,.c (sU .tree a .unk)),pI 16 (a.length:Int),pI 17 x17] [])
abbrev ZyI(a b:List Tree)(f:Unit)(Q:QT):=AW (Z1 Z0A) Try.f151 Z6X [] (L2 [(0,.c (sU .tree a .unk)),(1,.c (sU .tree b .unk)),(2,.fn 106)] []) Q
abbrev Zj6:=awp cfg (Z1 Z0A) (ZW cfg (Z1 Z0A)) Try.f151.ntmps Z6X
abbrev ZhH:=Ze9 cfg (Z1 Z0A) (ZW cfg (Z1 Z0A)) Try.f151.ntmps Z6X
theorem ZxT(a b:List Tree)(f:Unit)(Q:QT)(h:((((a.length:Int):Int) !=(b.length:Int))=true->Q .ret (L2 [pB 6 false] []))/\((((a.length:Int):Int) !=(b.length:Int))=false->Zi (AW (Z1 Z0A) Try.f151 Z6X [1,1,0,1,0,0]) (Z1s a b f 0) (xB 0 (SW (Z1 Z0A) Try.f151 Z6X [1,1,1] Q)))):
  ZyI a b f Q:=by
 have e_:(ZyI a b f Q)=((((a.length:Int) !=(b.length:Int))=true->(Q .ret (L2 [pB 6 false] [])))/\(((a.length:Int) !=(b.length:Int))=false->(Zi (Zj6 (cd Try.f151 [1,1,0,1,0,0])) (Z1s a b f 0) (xB 0 (ZhH (cd Try.f151 [1,1,1]) Q))))):=by kernel_rfl
 exact e_.mpr ⟨fun c_4=> (h.1 c_4),fun c_4=> (h.2 c_4)⟩
abbrev Zls(a b:List Tree)(f:Unit)(x17:Int)(N0:NT)(Q:QT):=AW (Z1 Z0A) Try.f151 Z6X [1,1,0,1,0,0] (Z1s a b f x17) (xT N0 (xB 0 (SW (Z1 Z0A) Try.f151 Z6X [1,1,1] Q)))
theorem Zn9(a b:List Tree)(f:Unit)(x17:Int)(N0:NT)(Q:QT)(h:((decide (x17 < (a.length:Int)))=true->((0:Int)<=x17/\x17 < (a.length:Int))/\(((0:Int)<=x17/\x17 < (b.length:Int))/\((Z0S ((Tree.mk (Tree.kind (a.getD x17.toNat Tree.nil)) (Tree.words (a.getD x17.toNat Tree.nil)) (Tree.kids (a.getD x17.toNat Tree.nil))),(Tree.mk (Tree.kind (b.getD x17.toNat Tree.nil)) (Tree.words (b.getD x17.toNat Tree.nil)) (Tree.kids (b.getD x17.toNat Tree.nil))),()))/\(((!(ZZ (Z4 (Tree.mk (Tree.kind (a.getD x17.toNat Tree.nil)) (Tree.words (a.getD x17.toNat Tree.nil)) (Tree.kids (a.getD x17.toNat Tree.nil)))) (Z4 (Tree.mk (Tree.kind (b.getD x17.toNat Tree.nil)) (Tree.words (b.getD x17.toNat Tree.nil)) (Tree.kids (b.getD x17.toNat Tree.nil))))))=true->Q .ret (L2 [pB 6 false] []))/\((!(ZZ (Z4 (Tree.mk (Tree.kind (a.getD x17.toNat Tree.nil)) (Tree.words (a.getD x17.toNat Tree.nil)) (Tree.kids (a.getD x17.toNat Tree.nil)))) (Z4 (Tree.mk (Tree.kind (b.getD x17.toNat Tree.nil)) (Tree.words (b.getD x17.toNat Tree.nil)) (Tree.kids (b.getD x17.toNat Tree.nil))))))=false->(InR (x17+1))/\(N0 (Z1s a b f (x17+1))))))))/\((decide (x17 < (a.length:Int)))=false->Q .ret (L2 [pB 6 true] []))):
  Zls a b f x17 N0 Q:=by
 have e_:(Zls a b f x17 N0 Q)=(let zz0:=(!(ZZ (Z4 (Tree.mk (Tree.kind (a.getD x17.toNat Tree.nil)) (Tree.words (a.getD x17.toNat Tree.nil)) (Tree.kids (a.getD x17.toNat Tree.nil)))) (Z4 (Tree.mk (Tree.kind (b.getD x17.toNat Tree.nil)) (Tree.words (b.getD x17.toNat Tree.nil)) (Tree.kids (b.getD x17.toNat Tree.nil))))));(((decide ((x17:Int) < (a.length:Int)))=true->((0:Int)<=x17/\x17 < (a.length:Int))/\(((0:Int)<=x17/\x17 < (b.length:Int))/\((Z0S ((Tree.mk (Tree.kind (a.getD x17.toNat Tree.nil)) (Tree.words (a.getD x17.toNat Tree.nil)) (Tree.kids (a.getD x17.toNat Tree.nil))),(Tree.mk (Tree.kind (b.getD x17.toNat Tree.nil)) (Tree.words (b.getD x17.toNat Tree.nil)) (Tree.kids (b.getD x17.toNat Tree.nil))),()))/\((zz0=true->(Q .ret (L2 [pB 6 false] [])))/\(zz0=false->(InR ((x17:Int)+1))/\(N0 (Z1s a b f ((x17:Int)+1))))))))/\((decide ((x17:Int) < (a.length:Int)))=false->(Q .ret (L2 [pB 6 true] []))))):=by kernel_rfl
 exact e_.mpr ⟨fun c_5=> ⟨(h.1 c_5).1,⟨(h.1 c_5).2.1,⟨(h.1 c_5).2.2.1,⟨fun c_6=> ((h.1 c_5).2.2.2.1 c_6),fun c_6=> ⟨((h.1 c_5).2.2.2.2 c_6).1,((h.1 c_5).2.2.2.2 c_6).2⟩⟩⟩⟩⟩,fun c_5=> (h.2 c_5)⟩
def Ztt(a b:List Tree)(f:Unit):Prop:=AW (Z1 Z0A) Try.f151 Z6X [] (Zj (Zlc.can (a,b,f,())) []) (EQ Try.f151 (ZnU (a,b,f,())) [])
theorem Zs5(Z9N:CT 106 Je)(hb:∀ (a:List Tree) (b:List Tree) (f:Unit) (_:Unit),Z5N (a,b,f,())->Ztt a b f):CT 151 Z07:=
 Z3 (l:=[(106,Je)]) Zl rfl (⟨Z9N,trivial⟩) Z6X Try.func151 rfl rfl 3 (fun _=> rfl) (by decide) (fun ⟨a,b,f,_⟩=> hb a b f ())
end
end
theorem Zfm:Contract Try.prog cfg 151 Z07:=by
 refine Zs5 Z9N ?_
 intro a b f _ hp
 simp only [Z5N] at hp
 refine ZxT a b f _ ?_
 (simp only [vcS])
 refine ⟨fun hc=> Zb rfl (Z3w (a:=Z5 a) (b:=Z5 b) (fun h=> hc (by have:=congrArg List.length h;simp [Z5] at this;omega))).symm,fun hc=> ?_⟩
 have hl:a.length=b.length:=by omega
 have hla:=Zs a
 refine Z9 (ι:=Int) (fun i=> Z1s a b f i) (fun i=> 0<=i/\i<=a.length/\∀ j:Nat,(j:Int) < i->Z4 (a.getD j Tree.nil)=Z4 (b.getD j Tree.nil)) (fun i=> ((a.length:Int) - i).toNat) 0 rfl ⟨by omega,by omega,by intro j hj;omega⟩ ?_
 rintro i ⟨h1,h2,h3⟩
 refine Zn9 a b f _ _ _ ?_
 (simp only [vcS])
 (simp only [Tree.eta,Edit.eta,Tree.kind_mk,Tree.words_mk,Tree.kids_mk])
 refine ⟨fun hi=> ⟨⟨h1,hi⟩,⟨h1,by omega⟩,?_,fun hq=> ?_,fun hq=> ⟨by unfold InR;omega,i+1,rfl,⟨by omega,by omega,?_⟩,by omega⟩⟩,fun hi=> ?_⟩
 ·have:=YX (Zh (l:=a) (i:=i.toNat) (by omega) Tree.nil)
  have:=YX (Zh (l:=b) (i:=i.toNat) (by omega) Tree.nil)
  simp only [Z0S];omega
 ·refine Zb rfl (Z3w (a:=Z5 a) (b:=Z5 b) (fun h=> ?_)).symm
  have h5:=Zhb (d:=Tree.nil) h i.toNat
  rw [YE] at hq
  exact hq h5
 ·intro j hj
  by_cases hj2:(j:Int) < i
  ·exact h3 j hj2
  ·rw [Jk,show i.toNat=j by omega] at hq
   exact hq
 ·exact Zb rfl (JL (a:=Z5 a) (b:=Z5 b).2 (ZgU Tree.nil hl (fun j hj=> h3 j (by omega)))).symm
end Go.AM.Ytpjenobkibfpcaa
