import Derived.Test.YtfapacabjkhepaaGreatWKL22m
set_option linter.unusedSimpArgs false
set_option linter.unusedVariables false
namespace Go.AM.YtfapacabjkhepaaGreat
open Go.AM Go.Proofs
theorem Z7n(e:Edit):(Zz e).kind=e.kind:=by
 rw [Zab]
 split
 .try rfl
 .split
  .try rfl
  .split <;> rfl
theorem Zaa(e:Edit)(h:e.kind=1):(Zz e).old=Z5 e.old/\(Zz e).new=Z5 e.new:=by
 rw [Zab,if_pos h]
 simp_all
theorem Zmo{D list:Int}{t:Tree}(hD:D≠0)(h:Ze (.mk list [] [t]) D=true):Ze (.mk list [] [Z5 t]) D=true:=by
 have key:=fun (k d:Int) (h:Yv k [t] d=true)=> Z69 [t] k d h
 simp only [Yk] at key
 simp only [Ze] at h ⊢
 grind
theorem Z3R{D list:Int}(hD:D≠0):∀ {l:List Tree},Yt D list l=true->Yt D list (Zb l)=true
 | [],_=> rfl
 | t ::r,h=> by
  simp only [Yt,Q2] at h
  have h2:=Z3R hD h.2
  simp only [Zb] at h2
  simp only [Zb,Qo,Yt,Q2]
  exact ⟨Zmo hD h.1,h2⟩
theorem Z5Y{D list:Int}:∀ {a b:List Tree},Yt D list a=true->Yt D list b=true->Yt D list (a++b)=true
 | [],_,_,h=> h
 | t ::r,b,h,h2=> by
  simp only [Yt,Q2] at h
  simp only [Qk,Yt,Q2]
  exact ⟨h.1,Z5Y h.2 h2⟩
def rOp(list:Int)(d:Int)(o:Op):Prop:=(o.kind=0->1<=o.n/\o.l.length=0/\Z1k o.e=true)/\(o.kind≠0->Zc list o d=true)
theorem Zuu{list d:Int}{o:Op}(h:Zc list o d=true):rOp list d o:=by
 refine ⟨fun hk=> ?_,fun _=> h⟩
 obtain ⟨k,n,l,e⟩:=o
 simp only at hk
 subst hk
 simp only [Zc,if_true,Q2,decide_eq_true_eq] at h
 grind
theorem ZCL{list d:Int}{o:Op}(h:rOp list d o)(hn:o.kind=0->o.n<=1048576):Zc list o d=true:=by
 by_cases hk:o.kind=0
 .have h1:=h.1 hk
  have h2:=hn hk
  obtain ⟨k,n,l,e⟩:=o
  simp only at hk h1 h2
  subst hk
  simp only [Zc,if_true,Q2,decide_eq_true_eq]
  grind
 .exact h.2 hk
theorem Z68{list:Int}:∀ {os:List Op} {d:Int},Zw list os d=true↔∀ o∈os,Zc list o d=true
 | [],d=> by simp [Zw]
 | o ::r,d=> by
  simp only [Zw,Q2,Q9,forall_eq_or_imp]
  rw [Z68 (os:=r)]
theorem Z34:Z1k Edit.nil=true:=rfl
structure OkW (list d:Int) (w:Wst):Prop where
 out:∀ o∈w.out,rOp list d o
 gone:Yt (dT d) list w.gone=true
 brought:Yt (dT d) list w.brought=true
theorem ZbT{list d:Int}{w:Wst}(h:OkW list d w):OkW list d (Zl w):=by
 refine ⟨?_,rfl,rfl⟩
 simp only [Zl,Z0M]
 intro o ho
 rcases Qi.1 ho with ho | ho
 .exact h.out o ho
 rcases Qi.1 ho with ho | ho
 .split at ho
  .cases ho
  .rename_i hl
   simp only [Qg] at ho
   subst ho
   refine ⟨fun hk=> (by cases hk),fun _=> ?_⟩
   simp only [Zc]
   rw [if_neg V2,if_neg V2,if_pos V2,h.gone,Z34]
   grind
 .split at ho
  .cases ho
  .rename_i hl
   simp only [Qg] at ho
   subst ho
   refine ⟨fun hk=> (by cases hk),fun _=> ?_⟩
   simp only [Zc]
   rw [if_neg V2,if_neg V2,if_pos V2,h.brought,Z34]
   grind
theorem Zl0{list d:Int}{w:Wst}{n:Int}(h:OkW list d w)(hn:1<=n):OkW list d (Yd w n):=by
 have hf:=ZbT h
 refine ⟨?_,rfl,rfl⟩
 simp only [Yd]
 intro o ho
 rcases Z0Y (Zl w).out n with e | ⟨a,q,e1,e2,e3⟩
 .rw [e] at ho
  rcases Qi.1 ho with ho | ho
  .exact hf.out o ho
  .simp only [Qg] at ho
   subst ho
   exact ⟨fun _=> ⟨hn,rfl,Z34⟩,fun hk=> absurd rfl hk⟩
 .rw [e3] at ho
  rcases Qi.1 ho with ho | ho
  .exact hf.out o (by grind)
  .simp only [Qg] at ho
   subst ho
   have hq:=(hf.out q (by rw [e1];simp)).1 e2
   exact ⟨fun _=> ⟨by grind,hq.2⟩,fun hk=> absurd e2 hk⟩
theorem ZCT{list d:Int}{w:Wst}{o:Op}(h:OkW list d w)(hr:Zc list o d=true)(hi:Z9 o.e d=true->Z9 (Zz o.e) d=true):OkW list d (Z0r list o w):=by
 obtain ⟨k,n,l,e⟩:=o
 have hr0:=hr
 rw [Zc] at hr
 rw [Jc]
 simp only at hi ⊢
 split at hr
 .rename_i hk
  rw [if_pos hk]
  simp only [Q2,decide_eq_true_eq] at hr
  exact Zl0 h hr.1.1
 .rename_i hk
  rw [if_neg hk]
  split at hr
  .cases hr
  .rename_i hn
   split at hr
   .rename_i h3
    simp only [Q2,decide_eq_true_eq] at hr
    by_cases k1:k=1
    .rw [if_pos k1]
     exact ⟨h.out,Z5Y h.gone (Z3R (ZBY d) hr.1.1),h.brought⟩
    .rw [if_neg k1,V1]
     exact ⟨h.out,h.gone,Z5Y h.brought (Z3R (ZBY d) hr.1.1)⟩
   .rename_i h3
    rw [V0,V0,V1]
    split
    .exact Zl0 h V2
    .have hf:=ZbT h
     refine ⟨?_,rfl,rfl⟩
     intro o ho
     rcases Qi.1 ho with ho | ho
     .exact hf.out o ho
     .simp only [Qg] at ho
      subst ho
      refine ⟨fun hk=> (by cases hk),fun _=> ?_⟩
      simp only [Q2,decide_eq_true_eq] at hr
      simp only [Zc]
      rw [if_neg V2,if_neg V2,if_neg V2,Z7n,hi hr.1.2]
      simp only [XL,Q2,decide_eq_true_eq]
      refine ⟨⟨rfl,hr.1.1.2⟩,?_⟩
      rcases hr.2 with h | h | h
      .exact Or.inl h
      .omega
      .rw [(Zaa e h.1).1,(Zaa e h.1).2,Z2L,Z2L]
       omega
def Ju:List Op->Int
 | []=> 0
 | o ::r=> (if o.kind=2 then 0 else Z3 o)+Ju r
def JE:List Op->Int
 | []=> 0
 | o ::r=> (if o.kind=1 then 0 else Z3 o)+JE r
theorem Z4f:∀ (a b:List Op),Ju (a++b)=Ju a+Ju b
 | [],b=> by simp [Ju]
 | o ::r,b=> by simp only [Qk,Ju,Z4f r b];omega
theorem Z4e:∀ (a b:List Op),JE (a++b)=JE a+JE b
 | [],b=> by simp [JE]
 | o ::r,b=> by simp only [Qk,JE,Z4e r b];omega
theorem Z0w:∀ (l:List Op) (n:Int),(∀ o∈l,0<=Z3 o)->0<=n->n<=1048576->Z1i l n=min (n+Ju l) 1048576/\0<=Ju l
 | [],n,_,h1,h2=> by simp only [Z1i,Ju];omega
 | o ::r,n,h,h1,h2=> by
  have ho:=h o (Q3 ..)
  simp only [Z1i,Ju]
  have hx:0<=(if o.kind=2 then n else n+Z3 o)/\(if o.kind=2 then n else n+Z3 o)=n+(if o.kind=2 then 0 else Z3 o):=by split <;> omega
  have hy:0<=(if o.kind=2 then 0 else Z3 o):=by split <;> omega
  rw [hx.2]
  rw [hx.2] at hx
  generalize (if o.kind=2 then 0 else Z3 o)=y at*
  obtain ⟨e1,e2⟩:=Z0w r (min (n+y) 1048576) (fun x hx=> h x (Q0 _ hx)) YL YL
  omega
theorem Z0v:∀ (l:List Op) (n:Int),(∀ o∈l,0<=Z3 o)->0<=n->n<=1048576->Z1h l n=min (n+JE l) 1048576/\0<=JE l
 | [],n,_,h1,h2=> by simp only [Z1h,JE];omega
 | o ::r,n,h,h1,h2=> by
  have ho:=h o (Q3 ..)
  simp only [Z1h,JE]
  have hx:0<=(if o.kind=1 then n else n+Z3 o)/\(if o.kind=1 then n else n+Z3 o)=n+(if o.kind=1 then 0 else Z3 o):=by split <;> omega
  have hy:0<=(if o.kind=1 then 0 else Z3 o):=by split <;> omega
  rw [hx.2]
  rw [hx.2] at hx
  generalize (if o.kind=1 then 0 else Z3 o)=y at*
  obtain ⟨e1,e2⟩:=Z0v r (min (n+y) 1048576) (fun x hx=> h x (Q0 _ hx)) YL YL
  omega
theorem Z9V{list d:Int}{o:Op}(h:rOp list d o):0<=Z3 o:=by
 unfold Z3
 split
 .decide
 .by_cases hk:o.kind=0
  .have:=(h.1 hk).1;omega
  .have hr:=h.2 hk
   obtain ⟨k,n,l,e⟩:=o
   simp only at hk ⊢
   rw [Zc,if_neg hk] at hr
   grind
theorem Zka:∀ {l:List Op} {o:Op},(∀ o∈l,0<=Z3 o)->o∈l->o.kind≠2->Z3 o<=Ju l
 | a ::r,o,h,ho,hk=> by
  have hr:=(Z0w r 0 (fun x hx=> h x (Q0 _ hx)) V2 V2).2
  have ha:=h a (Q3 ..)
  simp only [Ju]
  rcases Q9.1 ho with rfl | ho
  .omega
  .have:=Zka (fun x hx=> h x (Q0 _ hx)) ho hk
   omega
def sA(w:Wst):Int:=Ju w.out+w.gone.length
def sB(w:Wst):Int:=JE w.out+w.brought.length
theorem Zby(w:Wst):Ju (Zl w).out=sA w/\JE (Zl w).out=sB w:=by
 simp only [Zl,Z0M,sA,sB,Z4f,Z4e]
 constructor
 .by_cases hg:w.gone.length=0
  .rw [if_pos hg]
   by_cases hb:w.brought.length=0
   .rw [if_pos hb];simp [Ju];omega
   .rw [if_neg hb];simp [Ju];omega
  .rw [if_neg hg]
   by_cases hb:w.brought.length=0
   .rw [if_pos hb];simp [Ju,Z3]
   .rw [if_neg hb];simp [Ju,Z3]
 .by_cases hg:w.gone.length=0
  .rw [if_pos hg]
   by_cases hb:w.brought.length=0
   .rw [if_pos hb];simp [JE];omega
   .rw [if_neg hb];simp [JE,Z3]
  .rw [if_neg hg]
   by_cases hb:w.brought.length=0
   .rw [if_pos hb];simp [JE];omega
   .rw [if_neg hb];simp [JE,Z3]
theorem Zk8(w:Wst)(n:Int):sA (Yd w n)=sA w+n/\sB (Yd w n)=sB w+n:=by
 have hf:=Zby w
 simp only [Yd]
 have e1:∀ x,sA ⟨x,[],[]⟩=Ju x:=fun x=> by simp [sA]
 have e2:∀ x,sB ⟨x,[],[]⟩=JE x:=fun x=> by simp [sB]
 rw [e1,e2,<-hf.1,<-hf.2]
 rcases Z0Y (Zl w).out n with e | ⟨a,q,e1,e2,e3⟩
 .rw [e,Z4f,Z4e]
  simp [Ju,JE,Z3]
 .rw [e3,e1,Z4f,Z4e,Z4f,Z4e]
  simp only [Ju,JE,Z3,e2]
  simp
  omega
theorem ZCB{list d:Int}{w:Wst}{o:Op}(hr:Zc list o d=true):sA (Z0r list o w)=sA w+(if o.kind=2 then 0 else Z3 o)/\sB (Z0r list o w)=sB w+(if o.kind=1 then 0 else Z3 o):=by
 have hl:∀ l,((Zb l).length:Int)=l.length:=fun l=> by simp [Zb]
 obtain ⟨k,n,l,e⟩:=o
 rw [Zc] at hr
 rw [Jc]
 simp only [Z3]
 split at hr
 .rename_i hk
  subst hk
  rw [if_pos rfl]
  simp only [Q2,decide_eq_true_eq] at hr
  have:=Zk8 w n
  simp
  omega
 .rename_i hk
  rw [if_neg hk]
  split at hr
  .cases hr
  .rename_i hn
   split at hr
   .rename_i h3
    by_cases k1:k=1
    .subst k1
     rw [if_pos rfl]
     simp only [sA,sB,Qd]
     grind
    .have k2:k=2:=YL
     subst k2
     rw [if_neg k1,if_pos rfl]
     simp only [sA,sB,Qd]
     grind
   .rename_i h3
    have k3:k=3:=YL
    subst k3
    rw [V0,V0,if_pos rfl]
    split
    .have:=Zk8 w 1
     omega
    .have:=Zby w
     simp only [sA,sB,Z4f,Z4e,Ju,JE,Z3] at this ⊢
     grind
mutual
theorem JG:∀ (e:Edit) (d:Int),Z9 e d=true->Z9 (Zz e) d=true
 | .mk k o n w ks l os,d,h=> by
  have h1:=ZcK ks
  have h2:=Zpi l os
  have h4:=Zon l os
  rw [Z9] at h
  split at h
  .cases h
  .rename_i a
   split at h
   .cases h
   .rename_i b
    have nn:Yz Tree.nil=true:=rfl
    by_cases k1:k=1
    .subst k1
     rw [if_pos rfl] at h
     have hl:l=0:=by
      apply Xd
      intro hl
      exact b (.inr (.inr ⟨V2,.inl hl⟩))
     simp only [Q2,decide_eq_true_eq] at h
     rw [Zz,if_pos rfl,Z9,if_neg a,if_neg (by simp [hl]),if_pos rfl]
     simp only [Q2,decide_eq_true_eq]
     rw [Z2L,Z2L]
     exact ⟨⟨Z1X _ _ h.1.1,Z1X _ _ h.1.2⟩,h.2⟩
    .rw [if_neg k1] at h
     simp only [Q2,decide_eq_true_eq] at h
     obtain ⟨⟨⟨⟨x1,x2⟩,x3⟩,x4⟩,x5⟩:=h
     rw [Zz,if_neg k1]
     by_cases k2:k=2
     .have hl:l=0:=by
       apply Xd
       intro hl
       exact b (.inr (.inr ⟨YL,.inl hl⟩))
      rw [if_pos k2,Z9,if_neg a,if_neg (by grind),if_neg k1]
      grind
     .rw [if_neg k2]
      by_cases k3:k=3
      .rw [if_pos k3,Z9,if_neg a,if_neg (by simp [nn,k3]),if_neg k1]
       simp only [Q2,decide_eq_true_eq]
       have hall:=Z68.1 x4
       obtain ⟨y1,y2⟩:=Z0w os 0 (fun o ho=> Z9V (Zuu (hall o ho))) V2 V2
       obtain ⟨z1,z2⟩:=Z0v os 0 (fun o ho=> Z9V (Zuu (hall o ho))) V2 V2
       have hw:=h2 (d - 1) W0 x4 ⟨fun o ho=> (by cases ho),rfl,rfl⟩
       have hs:=h4 (d - 1) W0 x4
       have hff:=ZbT hw
       have hsf:=Zby (Zu l os W0)
       have e0:sA W0=0/\sB W0=0:=⟨rfl,rfl⟩
       have hA:=Z0w (Zl (Zu l os W0)).out 0 (fun o ho=> Z9V (hff.out o ho)) V2 V2
       have hB:=Z0v (Zl (Zu l os W0)).out 0 (fun o ho=> Z9V (hff.out o ho)) V2 V2
       refine ⟨⟨⟨⟨rfl,rfl⟩,x3⟩,Z68.2 (fun o ho=> ZCL (hff.out o ho) (fun hk=> ?_))⟩,?_,?_⟩
       .have hm:=Zka (fun o ho=> Z9V (hff.out o ho)) ho YL
        unfold Z3 at hm
        omega
       .show Z1i (Zl (Zu l os W0)).out 0 < 1048576
        omega
       .show Z1h (Zl (Zu l os W0)).out 0 < 1048576
        omega
      .have hl:l=0:=by
        apply Xd
        intro hl
        exact b (.inr (.inr ⟨k3,.inl hl⟩))
       rw [if_neg k3,Z9,if_neg a,if_neg (by simp [nn,hl]),if_neg k1]
       grind
theorem ZcK:∀ (ks:List (KidOf Edit)) (last d:Int),Zx last ks d=true->Zx last (Jd ks) d=true
 | [],_,_,_=> rfl
 | k ::r,last,d,h=> by
  simp only [Zx,Q2] at h
  have h1:=Ziu k last d h.1
  have h2:=ZcK r k.at_ d h.2
  simp only [Jd,Zx,Q2]
  exact ⟨h1,by rw [ZbX];exact h2⟩
theorem Ziu:∀ (k:KidOf Edit) (last d:Int),J0 last k d=true->J0 last (Z2c k) d=true
 | ⟨a,e⟩,last,d,h=> by
  simp only [J0,Q2] at h
  have h1:=JG e d h.2
  simp only [Z2c,J0,Q2]
  rw [Z7n]
  grind
theorem Zpi(list:Int):∀ (os:List (OpOf Edit)) (d:Int) (w:Wst),Zw list os d=true->OkW list d w->OkW list d (Zu list os w)
 | [],_,_,_,hw=> hw
 | o ::r,d,w,h,hw=> by
  simp only [Zw,Q2] at h
  have h1:=ZrE list o d w h.1 hw
  exact Zpi list r d _ h.2 h1
theorem ZrE(list:Int):∀ (o:OpOf Edit) (d:Int) (w:Wst),Zc list o d=true->OkW list d w->OkW list d (Z0r list o w)
 | ⟨k,n,l,e⟩,d,w,h,hw=> ZCT (o:=⟨k,n,l,e⟩) hw h (fun he=> JG e d he)
theorem Zon(list:Int):∀ (os:List (OpOf Edit)) (d:Int) (w:Wst),Zw list os d=true->sA (Zu list os w)=sA w+Ju os/\sB (Zu list os w)=sB w+JE os
 | [],_,_,_=> by simp [Zu,Ju,JE]
 | o ::r,d,w,h=> by
  simp only [Zw,Q2] at h
  have h1:=ZCB (w:=w) h.1
  have h2:=Zon list r d (Z0r list o w) h.2
  simp only [Zu,Ju,JE]
  omega
end
theorem Z66:∀ {a b:List Tree},Yl (a++b)↔Yl a/\Yl b
 | [],b=> by simp [Yl]
 | t ::r,b=> by simp only [Qk,Yl];rw [Z66 (a:=r),and_assoc]
mutual
theorem J9:∀ (t:Tree),rng t->rng (Z5 t)
 | .mk k w ks,h=> by
  simp only [rng] at h
  obtain ⟨h1,h2,h3⟩:=h
  have h4:=Zhc ks h3
  simp only [Z5]
  split
  .trivial
  .split
   .obtain ⟨r1,e1⟩:=Zek w
    obtain ⟨r2,e2⟩:=Zbt (Yk ks)
    simp only [rng]
    refine ⟨V2,fun x hx=> h2 x (by grind),?_⟩
    rw [e2] at h4
    exact (Z66.1 h4).1
   trivial
theorem Zhc:∀ (l:List Tree),Yl l->Yl (Yk l)
 | [],_=> trivial
 | t ::r,h=> by
  simp only [Yl] at h
  have h1:=J9 t h.1
  have h2:=Zhc r h.2
  trivial
end
theorem Z8I:∀ {l:List Tree},Yl l->Yl (Zb l)
 | [],_=> trivial
 | t ::r,h=> by
  simp only [Yl] at h
  have h2:=Z8I h.2
  simp only [Zb] at h2
  simp only [Zb,Qo,Yl]
  exact ⟨J9 t h.1,h2⟩
theorem Z4l:rng Tree.nil:=by
 trivial
mutual
theorem Z7a:∀ (e:Edit),YI e->YI (Zs e)
 | .mk k o n w ks l os,h=> by
  simp only [YI] at h
  obtain ⟨h1,h2,h3,h4,h5,h6,h7⟩:=h
  have i6:=Zf0 ks h6
  have i7:=ZeY os h7
  simp only [Zs,YI]
  refine ⟨h1,h3,h2,fun x hx=> ?_,h5,i6,i7⟩
  obtain ⟨y,hy,rfl⟩:=X4.1 hx
  have:=h4 y hy
  simp only [Z28,Z2f] at this ⊢
  grind
theorem Zf0:∀ (ks:List (KidOf Edit)),Z1l ks->Z1l (JQ ks)
 | [],_=> trivial
 | k ::r,h=> by
  simp only [Z1l] at h
  have h1:=Zkq k h.1
  have h2:=Zf0 r h.2
  trivial
theorem Zkq:∀ (k:KidOf Edit),Z1v k->Z1v (Z12 k)
 | ⟨a,e⟩,h=> by
  simp only [Z1v] at h
  have h2:=Z7a e h.2
  simp only [Z12,Z1v]
  grind
theorem ZeY:∀ (os:List (OpOf Edit)),Z0Q os->Z0Q (Jm os)
 | [],_=> trivial
 | o ::r,h=> by
  simp only [Z0Q] at h
  have h1:=Zmk o h.1
  have h2:=ZeY r h.2
  trivial
theorem Zmk:∀ (o:OpOf Edit),YJ o->YJ (YO o)
 | ⟨k,n,l,e⟩,h=> by
  simp only [YJ] at h
  have h4:=Z7a e h.2.2.2
  simp only [YO]
  split
  .simp only [YJ];exact ⟨by trivial,h.2⟩
  .split
   .simp only [YJ];exact ⟨by trivial,h.2⟩
   .split
    .simp only [YJ];grind
    trivial
end
structure RngW (w:Wst):Prop where
 out:∀ o∈w.out,Yl o.l/\YI o.e
 gone:Yl w.gone
 brought:Yl w.brought
theorem Z7b:YI Edit.nil:=by
 simp only [Edit.nil,YI,Z1l,Z0Q]
 exact ⟨by trivial,Z4l,Z4l,by simp,by trivial,trivial,trivial⟩
theorem Z8H{w:Wst}(h:RngW w):RngW (Zl w):=by
 refine ⟨?_,trivial,trivial⟩
 simp only [Zl,Z0M]
 intro o ho
 rcases Qi.1 ho with ho | ho
 .exact h.out o ho
 rcases Qi.1 ho with ho | ho
 .split at ho
  .cases ho
  .simp only [Qg] at ho
   subst ho
   exact ⟨h.gone,Z7b⟩
 .split at ho
  .cases ho
  .simp only [Qg] at ho
   subst ho
   exact ⟨h.brought,Z7b⟩
theorem Zh9{w:Wst}{n:Int}(h:RngW w):RngW (Yd w n):=by
 have hf:=Z8H h
 refine ⟨?_,trivial,trivial⟩
 simp only [Yd]
 intro o ho
 rcases Z0Y (Zl w).out n with e | ⟨a,q,e1,e2,e3⟩
 .rw [e] at ho
  rcases Qi.1 ho with ho | ho
  .exact hf.out o ho
  .simp only [Qg] at ho
   subst ho
   exact ⟨trivial,Z7b⟩
 .rw [e3] at ho
  rcases Qi.1 ho with ho | ho
  .exact hf.out o (by grind)
  .simp only [Qg] at ho
   subst ho
   exact hf.out q (by rw [e1];simp)
theorem ZoI{list:Int}{w:Wst}{o:Op}(h:RngW w)(hl:Yl o.l)(he:YI (Zz o.e)):RngW (Z0r list o w):=by
 rw [Jc]
 split
 .exact Zh9 h
 .split
  .exact ⟨h.out,Z66.2 ⟨h.gone,Z8I hl⟩,h.brought⟩
  .split
   .exact ⟨h.out,h.gone,Z66.2 ⟨h.brought,Z8I hl⟩⟩
   .split
    .split
     .exact Zh9 h
     .refine ⟨?_,trivial,trivial⟩
      intro o ho
      rcases Qi.1 ho with ho | ho
      .exact (Z8H h).out o ho
      .simp only [Qg] at ho
       subst ho
       trivial
    .exact h
theorem ZcI:∀ {os:List Op},(∀ o∈os,YJ o)->Z0Q os
 | [],_=> trivial
 | o ::r,h=> by
  simp only [Z0Q]
  exact ⟨h o (Q3 ..),ZcI (fun x hx=> h x (Q0 _ hx))⟩
theorem Zkt{list d:Int}{o:Op}(h:Zc list o d=true)(hl:Yl o.l)(he:YI o.e):YJ o:=by
 have hn:=Z7c h
 obtain ⟨k,n,l,e⟩:=o
 simp only at hn hl he
 simp only [YJ]
 refine ⟨?_,V3,hl,he⟩
 rw [Zc] at h
 unfold InR
 grind
mutual
theorem Z0R:∀ (e:Edit) (d:Int),Z9 e d=true->YI e->YI (Zz e)
 | .mk k o n w ks l os,d,hr,h=> by
  have hin:=Z7d hr
  have hout:=Z7d (JG _ _ hr)
  simp only [Edit.kids_mk,Edit.ops_mk,Edit.list_mk] at hin
  simp only [YI] at h
  obtain ⟨h1,h2,h3,h4,h5,h6,h7⟩:=h
  have i6:=Zhb ks (d - 1) (fun k hk=> (hin.1 k hk).1) h6
  have i7:=Zha l os (d - 1) hin.2 h7 W0 ⟨fun o ho=> (by cases ho),trivial,trivial⟩
  rw [Zz] at hout ⊢
  by_cases k1:k=1
  .rw [if_pos k1]
   simp only [YI]
   exact ⟨h1,J9 o h2,J9 n h3,by simp,h5,trivial,trivial⟩
  .rw [if_neg k1] at hout ⊢
   by_cases k2:k=2
   .rw [if_pos k2]
    trivial
   .rw [if_neg k2] at hout ⊢
    by_cases k3:k=3
    .rw [if_pos k3] at hout ⊢
     simp only [YI]
     refine ⟨h1,Z4l,Z4l,by simp,h5,trivial,ZcI (fun q hq=> ?_)⟩
     have hx:=hout.2 q hq
     have hy:=(Z8H i7).out q hq
     exact Zkt hx hy.1 hy.2
    .rw [if_neg k3]
     simp only [YI]
     exact ⟨h1,Z4l,Z4l,by simp,h5,trivial,trivial⟩
theorem Zhb:∀ (ks:List (KidOf Edit)) (d:Int),(∀ k∈ks,Z9 k.e d=true)->Z1l ks->Z1l (Jd ks)
 | [],_,_,_=> trivial
 | k ::r,d,hr,h=> by
  simp only [Z1l] at h
  have h1:=Zml k d (hr k (Q3 ..)) h.1
  have h2:=Zhb r d (fun x hx=> hr x (Q0 _ hx)) h.2
  trivial
theorem Zml:∀ (k:KidOf Edit) (d:Int),Z9 k.e d=true->Z1v k->Z1v (Z2c k)
 | ⟨a,e⟩,d,hr,h=> by
  simp only [Z1v] at h
  have h2:=Z0R e d hr h.2
  simp only [Z2c,Z1v]
  grind
theorem Zha(list:Int):∀ (os:List (OpOf Edit)) (d:Int),(∀ o∈os,Zc list o d=true)->Z0Q os->∀ (w:Wst),RngW w->RngW (Zu list os w)
 | [],_,_,_,w,hw=> hw
 | o ::r,d,hr,h,w,hw=> by
  simp only [Z0Q] at h
  have h1:=Zrq list o d (hr o (Q3 ..)) h.1 w hw
  exact Zha list r d (fun x hx=> hr x (Q0 _ hx)) h.2 _ h1
theorem Zrq(list:Int):∀ (o:OpOf Edit) (d:Int),Zc list o d=true->YJ o->∀ (w:Wst),RngW w->RngW (Z0r list o w)
 | ⟨k,n,l,e⟩,d,hr,h,w,hw=> by
  simp only [YJ] at h
  by_cases k3:k=3
  .have he:Z9 e d=true:=by
    rw [Zc,V0,] at hr
    split at hr
    .cases hr
    .grind
   exact ZoI (o:=⟨k,n,l,e⟩) hw h.2.2.1 (Z0R e d he h.2.2.2)
  .have hs:YI (Zz Edit.nil):=by
    show YI (.mk 0 Tree.nil Tree.nil [] [] 0 [])
    exact Z7b
   have e2:Z0r list ⟨k,n,l,e⟩ w=Z0r list ⟨k,n,l,Edit.nil⟩ w:=by
    simp only [Z0r]
    grind
   rw [e2]
   exact ZoI (o:=⟨k,n,l,Edit.nil⟩) hw h.2.2.1 hs
end
theorem ZmZ(t:Tree):t.words.length+Zk t.kids+1=Zm t:=by obtain ⟨k,w,ks⟩:=t;simp only [Zm,Tree.words_mk,Tree.kids_mk];omega
theorem ZhD:∀ (l:List Tree) (i:Nat) (x:Tree),i < l.length->Zk (l.set i x)+Zm (l.getD i Tree.nil)=Zk l+Zm x
 | [],i,x,h=> by simp at h
 | a ::r,0,x,_=> by simp only [List.set_cons_zero,Zk,Qp];omega
 | a ::r,i+1,x,h=> by
  have:=ZhD r i x (by simpa using h)
  simp only [List.set_cons_succ,Zk,List.getD_cons_succ];omega
theorem Zn0(n:Nat):Zk (List.replicate n Tree.nil)=n:=by
 induction n with
 | zero=> rfl
 | succ n ih=> rw [Xw,Zk,ih];simp [Tree.nil,Zm,Zk];omega
theorem YY:∀ (a b:List Tree),Zk (a++b)=Zk a+Zk b
 | [],b=> by simp [Zk]
 | t ::r,b=> by simp only [Qk,Zk,YY r b];omega
theorem ZrS(l:List Tree)(i:Nat)(x:Tree):Zk (Y7 Tree.nil l i x)+Zm (l.getD i Tree.nil)<=Zk l+Zm x+(i+1):=by
 have h:=ZhD (l++List.replicate (i+1 - l.length) Tree.nil) i x (by simp;omega)
 have e:(l++List.replicate (i+1 - l.length) Tree.nil).getD i Tree.nil=l.getD i Tree.nil:=by
  by_cases hi:i < l.length
  .simp only [Qh];rw [X6 hi]
  .simp only [Qh]
   rw [Qx YL,QN (l:=l) YL,List.getElem?_replicate]
   split <;> rfl
 rw [e,YY,Zn0] at h
 simp only [Y7]
 omega
theorem Zib{tw:List Int}:∀ {ws:List WEdit} {last:Int} {out a:List Int},ZN last ws=true->wsD tw ws out=some a->a.length<=max out.length 65535
 | [],_,out,a,_,h=> by rw [wsD] at h;cases h;omega
 | w ::r,last,out,a,hw,h=> by
  have h1:=JB hw w Q3
  simp only [ZN,Q2] at hw
  rw [wsD] at h
  split at h
  .have:=Zib hw.2 h
   rw [Z89] at this
   omega
  .cases h
theorem Z9Q{last d:Int}{k:Kid}{r:List Kid}(h:Zx last (k ::r) d=true):(last < k.at_/\k.at_<=65534)/\Z9 k.e d=true/\Zx k.at_ r d=true:=by
 have:=Zq h k Q3
 simp only [Zx,Q2] at h
 grind
theorem ZsF{tw:List Int}{ws:List WEdit}{last:Int}{out a:List Int}(hw:ZN last ws=true)(h:wsD tw ws out=some a):a.length<=out.length+65600*ws.length:=by
 cases ws with
 | nil=> rw [wsD] at h;cases h;omega
 | cons w r=>
  have:=Zib hw h
  grind
theorem ZfL(r:Bool)(v:Tree):Zm (nrD r v)<=Zm v:=by
 unfold nrD
 split
 .exact ZK v
 omega
mutual
theorem Zaq(r:Bool):∀ (e:Edit) (d:Int) (t v:Tree),Z9 e d=true->ZmC r e t=some v->Zm v+18<=Zm t+ctE e
 | .mk k o n w ks l os,d,t,v,hr,hv=> by
  have ri:=Zo hr
  have h1:=ZhC r ks t.kids
  have h2:=ZhB r l os
  have ht:=ZmZ t
  have po:=ZR o
  have pn:=ZR n
  have pt:=ZR t
  unfold ZmC at hv
  simp only [ctE]
  split at hv
  .grind
  .split at hv
   .split at hv
    .cases hv
     show Zm n+18<=_
     omega
    .cases hv
   .split at hv
    .split at hv
     .obtain ⟨a,ha,hb⟩:=Qt.1 hv
      obtain ⟨b,hb,e⟩:=Qc.1 hb
      have l1:=ZsF ri.words ha
      simp only [Edit.words_mk] at l1
      have l2:=h1 t.kids b _ (-1) YL ri.kids (fun j _=> rfl) hb
      rw [<-e]
      simp only [Zm]
      omega
     .cases hv
    .split at hv
     .split at hv
      .obtain ⟨b,hb,e⟩:=Qc.1 hv
       unfold Z2z at hb
       obtain ⟨x,hx,hy⟩:=Qt.1 hb
       have l2:=h2 _ t.kids [] x (fun o ho=> Go.AM.rightOs_mem ri.ops o ho) hx
       split at hy
       .cases hy
        rw [<-e]
        simp only [Zm,Qj]
        grind
       .cases hy
      .cases hv
     .cases hv
theorem ZhC(r:Bool):∀ (ks:List (KidOf Edit)) (tk out b:List Tree) (d last:Int),-1<=last->Zx last ks d=true->(∀ j:Nat,last < (j:Int)->out.getD j Tree.nil=tk.getD j Tree.nil)->Z11 r tk ks out=some b->Zk b<=Zk out+Z0o ks
 | [],tk,out,b,d,last,_,_,_,h=> by rw [Z11] at h;cases h;simp
 | k ::s,tk,out,b,d,last,hl,hr,hj,h=> by
  obtain ⟨h1,h2,h3⟩:=Z9Q hr
  rw [Z11] at h
  obtain ⟨u,hu,hb⟩:=Qt.1 h
  have m1:=ZmX r k tk u d h2 hu
  have m2:=ZrS out k.at_.toNat u
  rw [hj k.at_.toNat YL] at m2
  have m3:=ZhC r s tk _ b d k.at_ YL h3 (fun j hj'=> by
   rw [Z1S,V0]
   grind) hb
  have m4:k.at_.toNat+1<=65600:=YL
  have e1:Z0o (k ::s)=65600+ctE k.e+Z0o s:=by obtain ⟨a,e⟩:=k;rfl
  omega
theorem ZmX(r:Bool):∀ (k:KidOf Edit) (tk:List Tree) (u:Tree) (d:Int),Z9 k.e d=true->Z1p r tk k=some u->Zm u+18<=Zm (tk.getD k.at_.toNat Tree.nil)+ctE k.e
 | ⟨a,e⟩,tk,u,d,hr,h=> by
  rw [Z1p,Ze3] at h
  obtain ⟨v,hv,hu⟩:=Qc.1 h
  have:=Zaq r e d (tk.getD a.toNat Tree.nil) v hr hv
  have hvu:=ZfL r v
  grind
theorem ZhB(r:Bool)(l:Int):∀ (os:List (OpOf Edit)) (d:Int) (rest out:List Tree) (x:List Tree × List Tree),(∀ o∈os,Zc l o d=true)->J5 r os rest out=some x->Zk x.1+Zk x.2<=Zk out+Zk rest+J2 os
 | [],d,rest,out,x,_,h=> by rw [J5] at h;cases h;simp
 | o ::s,d,rest,out,x,hr,h=> by
  rw [J5] at h
  obtain ⟨y,hy,hx⟩:=Qt.1 h
  have m1:=ZrP r l o d rest out y (hr o Q3) hy
  have m2:=ZhB r l s d _ _ x (fun q hq=> hr q (Q0 _ hq)) hx
  rw [J2]
  omega
theorem ZrP(r:Bool)(l:Int):∀ (o:OpOf Edit) (d:Int) (rest out:List Tree) (x:List Tree × List Tree),Zc l o d=true->Z9c r o rest out=some x->Zk x.1+Zk x.2<=Zk out+Zk rest+Z3l o
 | ⟨k,n,L,e⟩,d,rest,out,x,hr,h=> by
  have he:=Zaq r e d (rest.getD 0 Tree.nil)
  rw [Z9c] at h
  simp only [Z3l]
  split at h
  .split at h
   .cases h
    have:=YY (rest.take n.toNat) (rest.drop n.toNat)
    rw [QH] at this
    dsimp only
    rw [YY];omega
   .cases h
  .split at h
   .split at h
    .cases h
     have:=Z3c L.length rest
     grind
    .cases h
   .split at h
    .cases h
     dsimp only
     rw [YY];omega
    .split at h
     .cases h
     .obtain ⟨u,hu,e2⟩:=Qc.1 h
      cases e2
      have hk:k=3:=by
       have ra:=Y0 hr
       generalize ho:OpOf.mk k n L e=o at ra
       cases ra <;> (injection ho with h1;try omega)
      rw [Ze3] at hu
      obtain ⟨v,hv,hu⟩:=Qc.1 hu
      have:=he v (Jo hr hk) hv
      have hvu:=ZfL r v
      rw [hu] at hvu
      cases rest with
      | nil=> contradiction
      | cons a q=>
       rw [YY]
       simp only [Zk,QK,Xb,Qp] at this ⊢
       omega
end
theorem Z1O(r:Bool)(e:Edit)(d:Int)(t u:Tree)(hr:Z9 e d=true)(h:doE r e t=some u):Zm u+18<=Zm t+ctE e:=by
 rw [Ze3] at h
 obtain ⟨v,hv,hu⟩:=Qc.1 h
 have:=Zaq r e d t v hr hv
 have hvu:=ZfL r v
 grind
theorem ZCU{f:Nat->Int}(h:∀ i,0<=f i/\f i < 256):isW (of8 f):=by
 have h0:=h 0;have h1:=h 1;have h2:=h 2;have h3:=h 3;have h4:=h 4;have h5:=h 5;have h6:=h 6;have h7:=h 7
 unfold isW of8
 omega
theorem Zj1(a b m:Int):isW (mix a b m):=ZCU (Z6t a b m)
theorem Z9L{l:List Tree}(h:∀ t∈l,rng t):Yl l:=by
 induction l with
 | nil=> exact trivial
 | cons a r ih=> exact ⟨h a Q3,ih fun t ht=> h t (Q0 _ ht)⟩
theorem J8:rng Tree.nil:=⟨V2,by simp,trivial⟩
theorem Z8E{α:Type}{z x y:α}{l:List α}{i:Nat}(h:y∈Y7 z l i x):y∈l\/y=z\/y=x:=by
 rcases List.mem_or_eq_of_mem_set h with h | h
 .rcases Qi.1 h with h | h
  .exact .inl h
  .exact .inr (.inl (Xu h))
 .exact .inr (.inr h)
theorem ZoH{ks:List Tree}(h:Yl ks)(i:Nat):rng (ks.getD i Tree.nil):=by
 by_cases hi:i < ks.length
 .exact YZ h (Zf hi _)
 .rw [Qh,QN YL]
  exact J8
theorem ZsG{tw:List Int}:∀ {ws:List WEdit} {out a:List Int},(∀ x∈out,isW x)->wsD tw ws out=some a->∀ x∈a,isW x
 | [],out,a,h,hw=> by rw [wsD] at hw;grind
 | w ::r,out,a,h,hw=> by
  rw [wsD] at hw
  split at hw
  .refine ZsG (fun x hx=> ?_) hw
   rcases Z8E hx with hx | rfl | rfl
   .exact h x hx
   .trivial
   .exact Zj1 _ _ _
  .cases hw
mutual
theorem Z5j(r:Bool):∀ (e:Edit) (t u:Tree),YI e->rng t->doE r e t=some u->rng u
 | .mk k o n w ks l os,t,u,hr,ht,h=> by
  have h1:=Zko r ks
  have h2:=Zkn r os
  simp only [YI] at hr
  obtain ⟨r1,r2,r3,r4,r5,r6,r7⟩:=hr
  have hta:InR t.kind/\(∀ x∈t.words,isW x)/\Yl t.kids:=by obtain ⟨k,w,ks⟩:=t;exact ht
  rw [Z1K] at h
  obtain ⟨v,hv,hu⟩:=Qc.1 h
  suffices rng v by
   rw [<-hu];unfold nrD
   split
   .exact J9 v this
   .exact this
  clear h hu
  split at hv
  .grind
  .split at hv
   .simp_all
   .split at hv
    .split at hv
     .obtain ⟨a,ha,hb⟩:=Qt.1 hv
      obtain ⟨b,hb,e⟩:=Qc.1 hb
      rw [<-e]
      exact ⟨V2,ZsG hta.2.1 ha,h1 _ _ _ r6 hta.2.2 hta.2.2 hb⟩
     .cases hv
    .split at hv
     .split at hv
      .obtain ⟨b,hb,e⟩:=Qc.1 hv
       unfold Z2z at hb
       obtain ⟨x,hx,hy⟩:=Qt.1 hb
       split at hy
       .cases hy
        rw [<-e]
        exact ⟨r5,by simp,(h2 _ [] _ r7 hta.2.2 trivial hx).1⟩
       .cases hy
      .cases hv
     .cases hv
theorem Zko(r:Bool):∀ (ks:List (KidOf Edit)) (tk out b:List Tree),Z1l ks->Yl tk->Yl out->Z11 r tk ks out=some b->Yl b
 | [],tk,out,b,_,_,ho,h=> by rw [Z11] at h;cases h;exact ho
 | k ::s,tk,out,b,hk,ht,ho,h=> by
  rw [Z11] at h
  obtain ⟨u,hu,hb⟩:=Qt.1 h
  have m1:=Zrp r k tk u hk.1 ht hu
  refine Zko r s tk _ b hk.2 ht (Z9L fun x hx=> ?_) hb
  rcases Z8E hx with hx | rfl | rfl
  .exact YZ ho hx
  .exact J8
  .exact m1
theorem Zrp(r:Bool):∀ (k:KidOf Edit) (tk:List Tree) (u:Tree),Z1v k->Yl tk->Z1p r tk k=some u->rng u
 | ⟨a,e⟩,tk,u,hr,ht,h=> by
  rw [Z1p] at h
  exact Z5j r e _ u hr.2 (ZoH ht _) h
theorem Zkn(r:Bool):∀ (os:List (OpOf Edit)) (rest out:List Tree) (x:List Tree × List Tree),Z0Q os->Yl rest->Yl out->J5 r os rest out=some x->Yl x.1/\Yl x.2
 | [],rest,out,x,_,hr,ho,h=> by rw [J5] at h;grind
 | o ::s,rest,out,x,hs,hr,ho,h=> by
  rw [J5] at h
  obtain ⟨y,hy,hx⟩:=Qt.1 h
  have m1:=ZtP r o rest out y hs.1 hr ho hy
  exact Zkn r s _ _ x hs.2 m1.2 m1.1 hx
theorem ZtP(r:Bool):∀ (o:OpOf Edit) (rest out:List Tree) (x:List Tree × List Tree),YJ o->Yl rest->Yl out->Z9c r o rest out=some x->Yl x.1/\Yl x.2
 | ⟨k,n,L,e⟩,rest,out,x,hs,hr,ho,h=> by
  have he:=Z5j r e (rest.getD 0 Tree.nil)
  simp only [YJ] at hs
  have hd:∀ n,Yl (rest.drop n):=fun n=> Z9L fun t ht=> YZ hr (QS ht)
  have hap:∀ l,Yl l->Yl (out++l):=fun l hl=> Z66.2 ⟨ho,hl⟩
  rw [Z9c] at h
  split at h
  .split at h
   .cases h
    exact ⟨hap _ (Z9L fun t ht=> YZ hr (Xa ht)),hd _⟩
   .cases h
  .split at h
   .grind
   .split at h
    .grind
    .split at h
     .cases h
     .obtain ⟨u,hu,e2⟩:=Qc.1 h
      cases e2
      exact ⟨hap _ ⟨he u hs.2.2.2 (ZoH hr 0) hu,trivial⟩,hd _⟩
end
section
variable {α β:Type} (z:α) (f:β->Option α) (p:β->Int)
def mg:List β->List α->Option (List α)
 | [],out=> some out
 | w ::r,out=> (f w).bind fun v=> mg r (Y7 z out (p w).toNat v)
def asc(last:Int):List β->Prop
 | []=> True
 | w ::r=> last < p w/\asc (p w) r
structure Mg (l0:List α) (ws:List β) (n a i:Int) (out:List α):Prop where
 a0:0<=a/\a<=ws.length
 i0:0<=i/\i<=n
 len:(out.length:Int)=i
 ac:asc p (i - 1) (ws.drop a.toNat)
 lt:∀ w∈ws.drop a.toNat,p w < n
 ex:n=l0.length\/i=n\/∃ w∈ws.drop a.toNat,p w+1=n
 n0:l0.length<=n
 eq:mg z f p (ws.drop a.toNat) (out++l0.drop i.toNat)=mg z f p ws l0
variable {z f p} {l0:List α} {ws:List β} {n a i:Int} {out:List α}
theorem Zmi(v:α)(i:Nat)(h:out.length=i):Y7 z (out++l0.drop i) i v=(out++[v])++l0.drop (i+1):=by
 by_cases hi:i < l0.length
 .simp only [Y7]
  rw [show i+1 - (out++l0.drop i).length=0 by simp;omega]
  simp only [List.replicate_zero,Qs]
  rw [List.set_append_right _ _ YL,show i - out.length=0 by omega,QL hi,List.set_cons_zero,Qb]
  try rfl
 .rw [Q6 YL,Q6 YL]
  simp only [Y7,Qs]
  simp_all
theorem Z3n{last:Int}:∀ {l:List β},asc p last l->∀ w∈l,last < p w
 | [],_,_,hw=> by cases hw
 | b ::r,h,w,hw=> by
  rcases Q9.1 hw with rfl | hw
  .exact h.1
  .have:=Z3n h.2 w hw
   have:=h.1
   omega
theorem Mg.cons(m:Mg z f p l0 ws n a i out)(d:β)(ha:a < ws.length):ws.drop a.toNat=ws.getD a.toNat d ::ws.drop (a+1).toNat:=ZH m.a0.1 ha d
theorem Mg.none(m:Mg z f p l0 ws n a i out)(d:β)(ha:a < ws.length)(hf:f (ws.getD a.toNat d)=Option.none):mg z f p ws l0=Option.none:=by
 rw [<-m.eq,m.cons d ha,mg,hf];try rfl
theorem Mg.edit(m:Mg z f p l0 ws n a i out)(d:β)(hi:i < n)(ha:a < ws.length)(hp:p (ws.getD a.toNat d)=i){v:α}(hf:f (ws.getD a.toNat d)=some v):Mg z f p l0 ws n (a+1) (i+1) (out++[v]):=by
 have hc:=m.cons d ha
 have h1:=m.ac;have h2:=m.lt;have h3:=m.ex;have h4:=m.eq;have h5:=m.a0;have h6:=m.i0;have h7:=m.len
 rw [hc] at h1 h2 h3 h4
 refine ⟨YL,YL,by simp;omega,?_,fun w hw=> h2 w (Q0 _ hw),?_,m.n0,?_⟩
 .have:=h1.2
  grind
 .grind
 .rw [mg,hf,Qm,hp,Zmi v i.toNat YL,show i.toNat+1=(i+1).toNat by omega] at h4
  exact h4
theorem ZCW{l:List β}(h:∃ w,w∈l)(ha:asc p (out.length:Int) l):mg z f p l (out++[z])=mg z f p l out:=by
 cases l with
 | nil=> grind
 | cons w r=>
  have h1:=ha.1
  rw [mg,mg]
  congr 1
  funext v
  have:Y7 z (out++[z]) (p w).toNat v=Y7 z out (p w).toNat v:=by
   simp only [Y7,Qd,Qw,Qb]
   rw [show (p w).toNat+1 - out.length=((p w).toNat+1 - (out.length+1))+1 by omega,Xw]
   try rfl
  rw [this]
theorem Mg.plain(m:Mg z f p l0 ws n a i out)(d:β)(hi:i < n)(hn:¬(a < ws.length/\p (ws.getD a.toNat d)=i)):Mg z f p l0 ws n a (i+1) (out++[l0.getD i.toNat z]):=by
 have h1:=m.ac;have h2:=m.lt;have h3:=m.ex;have h4:=m.eq;have h5:=m.a0;have h6:=m.i0;have h7:=m.len;have h8:=m.n0
 have has:asc p i (ws.drop a.toNat):=by
  by_cases ha:a < ws.length
  .rw [m.cons d ha] at h1 ⊢
   exact ⟨by have:=h1.1;omega,h1.2⟩
  .rw [Q6 YL];exact trivial
 refine ⟨h5,YL,by simp;omega,by grind,h2,?_,h8,?_⟩
 .grind
 .rw [<-h4]
  by_cases hl:i.toNat < l0.length
  .rw [QL hl,show i.toNat+1=(i+1).toNat by omega,Qh,Q4 hl,Xg]
   simp
  .have e1:l0.drop i.toNat=[]:=Q6 YL
   have e2:l0.drop (i+1).toNat=[]:=Q6 YL
   rw [e1,e2,Qs,Qs,Qh,QN YL,Option.getD_none]
   rcases h3 with h3 | h3 | ⟨w,hw,h3⟩
   .omega
   .omega
   .exact ZCW ⟨w,hw⟩ (by grind)
theorem Mg.fin(m:Mg z f p l0 ws n a i out)(hi:¬i < n):mg z f p ws l0=some out:=by
 have h1:=m.ac;have h2:=m.lt;have h6:=m.i0;have h8:=m.n0
 rw [<-m.eq]
 have:ws.drop a.toNat=[]:=by
  cases h:ws.drop a.toNat with
  | nil=> rfl
  | cons w r=>
   rw [h] at h1 h2
   have:=h1.1
   grind
 rw [this,mg,Q6 YL,Qs]
end
theorem Mg.init{α β:Type}{z:α}{f:β->Option α}{p:β->Int}{l0:List α}{ws:List β}{n:Int}(d:β)(has:asc p (-1) ws)(hn:n=if 0 < ws.length/\(l0.length:Int)<=p (ws.getD (ws.length - 1) d) then p (ws.getD (ws.length - 1) d)+1 else (l0.length:Int)):Mg z f p l0 ws n 0 0 []:=by
 have last:∀ (l:List β) (m:Int),asc p m l->∀ w∈l,p w<=p (l.getD (l.length - 1) d):=by
  intro l
  induction l with
  | nil=> intro m h w hw;cases hw
  | cons b r ih=>
   intro m h w hw
   cases r with
   | nil=>
    rcases Q9.1 hw with rfl | hw
    .simp
    .cases hw
   | cons c s=>
    have e:(b ::c ::s).getD ((b ::c ::s).length - 1) d=(c ::s).getD ((c ::s).length - 1) d:=by simp
    rw [e]
    rcases Q9.1 hw with rfl | hw
    .have h1:=ih _ h.2 c Q3
     have h2:=h.2.1
     omega
    .exact ih _ h.2 w hw
 have hl:=last ws _ has
 have hm:0 < ws.length->ws.getD (ws.length - 1) d∈ws:=fun h=> Zf YL _
 refine ⟨YL,⟨YL,?_⟩,rfl,has,fun w hw=> ?_,?_,?_,by simp⟩
 .rw [hn];split <;> omega
 .have:=hl w hw
  have hp:0 < ws.length:=List.length_pos_of_mem hw
  rw [hn];split <;> omega
 .rw [hn];split
  .rename_i h;exact .inr (.inr ⟨_,hm h.1,rfl⟩)
  .exact .inl rfl
 .rw [hn];split <;> omega
theorem Zm9(tw:List Int):∀ (ws:List WEdit) (out:List Int),wsD tw ws out=mg 0 (fun w=> if mix 0 (tw.getD w.at_.toNat 0) w.mask=w.old then some (mix (tw.getD w.at_.toNat 0) w.new w.mask) else none) WEdit.at_ ws out
 | [],_=> rfl
 | w ::r,out=> by
  rw [wsD,mg]
  split
  .rw [Qm];exact Zm9 tw r _
  .try rfl
theorem Zjr(r:Bool)(tk:List Tree):∀ (ks:List Kid) (out:List Tree),Z11 r tk ks out=mg Tree.nil (Z1p r tk) KidOf.at_ ks out
 | [],_=> by rfl
 | k ::s,out=> by
  rw [Z11,mg]
  congr 1
  funext u
  exact Zjr r tk s _
theorem Z0O:∀ {ws:List WEdit} {last:Int},ZN last ws=true->asc WEdit.at_ last ws
 | [],_,_=> trivial
 | w ::r,last,h=> by
  have h1:=JB h w Q3
  simp only [ZN,Q2] at h
  exact ⟨h1.1,Z0O h.2⟩
theorem Z20:∀ {ks:List Kid} {last d:Int},Zx last ks d=true->asc KidOf.at_ last ks
 | [],_,_,_=> trivial
 | k ::r,last,d,h=> by
  obtain ⟨h1,_,h3⟩:=Z9Q h
  exact ⟨h1.1,Z20 h3⟩
end Go.AM.YtfapacabjkhepaaGreat
namespace Go.AM.YtfapacabjkhepaaGreat
open Go.AM Go.Proofs
theorem ZyM{f g:Nat->Int}(hf:∀ i,0<=f i/\f i < 256)(hg:∀ i,0<=g i/\g i < 256)(h:of8 f=of8 g):∀ i,i < 8->f i=g i:=by
 unfold of8 at h
 grind
theorem ZrF{a:Int}(h:isW a):of8 (Z0 a)=a:=by
 obtain ⟨h0,h1⟩:=h
 simp only [of8,Z0]
 omega
theorem Zlb{a b m:Int}{i:Nat}(h:i < 8):Z0 (mix a b m) i=Je a b m i:=
 ZyM (fun i=> Z0f _ i) (Z6t a b m) (by rw [ZrF (Zj1 a b m)];rfl) i h
section
variable {α β:Type} {z:α} {f:β->Option α} {p:β->Int}
end
end Go.AM.YtfapacabjkhepaaGreat
namespace Go.AM.YtfapacabjkhepaaGreat
open Go.AM Go.Proofs
theorem ZhP(l rest:List Tree):Z22 l rest=true↔l.length<=rest.length/\Zb l=Zb (rest.take l.length):=by
 unfold Z22
 rw [Q2,decide_eq_true_eq,JI]
theorem Zdb:∀ {ks:List Kid} {k:Kid},k∈ks->Z8 k.e<=Zy ks
 | ⟨_,_⟩ ::r,k,h=> by
  rcases Q9.1 h with rfl | h
  .simp only [Zy,J4];omega
  .have:=Zdb h;simp only [Zy];omega
theorem Z3J:∀ {os:List Op} {o:Op},o∈os->Zt o<=Zn os
 | a ::r,o,h=> by
  rcases Q9.1 h with rfl | h
  .simp only [Zn];omega
  .have:=Z3J h;simp only [Zn];omega
theorem ZrR(o:Op):Z8 o.e<=Zt o:=by obtain ⟨k,n,l,e⟩:=o;simp only [Zt];omega
theorem Y6{e:Edit}{k:Kid}(h:k∈e.kids):Z8 k.e < Z8 e:=by
 obtain ⟨kk,o,n,w,ks,l,os⟩:=e
 have:=Zdb (ks:=ks) h
 simp only [Z8];omega
theorem Z05{e:Edit}{o:Op}(h:o∈e.ops):Z8 o.e < Z8 e:=by
 obtain ⟨kk,ol,n,w,ks,l,os⟩:=e
 have:=Z3J (os:=os) h
 have:=ZrR o
 simp only [Z8];omega
mutual
theorem JO:∀ (t:Tree) (d m:Int),m < 0->Ze t d=true->Ze t m=true
 | .mk k w ks,d,m,hm,h=> by
  rw [Ze] at h ⊢
  by_cases h0:k=0
  .grind
  .rw [if_neg h0] at h ⊢
   by_cases h1:k=10
   .grind
   .rw [if_neg h1] at h ⊢
    by_cases h2:d=0
    .grind
    .rw [if_neg h2] at h
     rw [V0]
     by_cases h3:k=1
     .rw [if_pos h3,Q2] at h ⊢
      exact ⟨h.1,Z8K 1 ks (d - 1) (m - 1) YL h.2⟩
     .rw [if_neg h3,Q2] at h ⊢
      exact ⟨h.1,Z8K k ks (d - 1) (m - 1) YL h.2⟩
theorem Z8K(list:Int):∀ (ks:List Tree) (d m:Int),m < 0->Yv list ks d=true->Yv list ks m=true
 | [],_,_,_,_=> rfl
 | t ::r,d,m,hm,h=> by
  simp only [Yv,Q2] at h ⊢
  exact ⟨⟨h.1.1,JO t d m hm h.1.2⟩,Z8K list r d m hm h.2⟩
end
theorem Z35{list d:Int}:∀ {ks:List Tree},Yv list ks d=true↔∀ t∈ks,Z0L list t=true/\Ze t d=true
 | []=> by simp [Yv]
 | t ::r=> by
  simp only [Yv,Q2,Z35 (ks:=r),Q9,forall_eq_or_imp]
theorem Z67{t:Tree}(h:Ze t (-1)=true):t.kind≠0->t.kind≠10->
  (t.kind=1->t.words.length < 65536/\t.kids.length < 65536)/\(t.kind≠1->(2<=t.kind/\t.kind<=9)/\t.words=[]/\t.kids.length < 1048576)/\∀ k∈t.kids,Z0L t.kind k=true/\Ze k (-1)=true:=by
 obtain ⟨k,w,ks⟩:=t
 intro h0 h1
 have h0:k≠0:=h0
 have h1:k≠10:=h1
 rw [Ze,if_neg h0,if_neg h1,if_neg V2] at h
 by_cases h3:k=1
 .rw [if_pos h3,Q2,decide_eq_true_eq,Z35] at h
  subst h3
  exact ⟨fun _=> h.1,fun e=> absurd rfl e,fun x hx=> ⟨(h.2 x hx).1,JO _ _ _ V2 (h.2 x hx).2⟩⟩
 .rw [if_neg h3,Q2,decide_eq_true_eq,Z35] at h
  exact ⟨fun e=> absurd e h3,fun _=> ⟨⟨h.1.1,h.1.2.1⟩,Q1 h.1.2.2.1,h.1.2.2.2⟩,fun x hx=> ⟨(h.2 x hx).1,JO _ _ _ V2 (h.2 x hx).2⟩⟩
theorem Zir{w:List Int}{ks:List Tree}(h1:w.length < 65536)(h2:ks.length < 65536)(h:∀ k∈ks,Z0L 1 k=true/\Ze k (-1)=true):Ze (.mk 1 w ks) (-1)=true:=by
 rw [Ze,if_neg V2,if_neg V2,if_neg V2,if_pos rfl,Q2,decide_eq_true_eq,Z35]
 exact ⟨⟨h1,h2⟩,fun x hx=> ⟨(h x hx).1,JO _ _ _ V2 (h x hx).2⟩⟩
theorem Zf2{l:Int}{ks:List Tree}(hl:2<=l/\l<=9)(h2:ks.length < 1048576)(h:∀ k∈ks,Z0L l k=true/\Ze k (-1)=true):Ze (.mk l [] ks) (-1)=true:=by
 rw [Ze,V0,V0,if_neg V2,V0,Q2,decide_eq_true_eq,Z35]
 exact ⟨⟨hl.1,hl.2,rfl,h2⟩,fun x hx=> ⟨(h x hx).1,JO _ _ _ V2 (h x hx).2⟩⟩
theorem Z0P{D list:Int}:∀ {l:List Tree},Yt D list l=true->∀ t∈l,Ze (.mk list [] [t]) D=true
 | a ::r,h,t,ht=> by
  simp only [Yt,Q2] at h
  rcases Q9.1 ht with rfl | ht
  .exact h.1
  .exact Z0P h.2 t ht
theorem Z0q{D list:Int}(hl:2<=list/\list<=9){l:List Tree}(h:Yt D list l=true):∀ t∈l,Z0L list t=true/\Ze t (-1)=true:=by
 intro t ht
 have:=Z67 (JO _ _ (-1) V2 (Z0P h t ht)) (by show list≠0;omega) (by show list≠10;omega)
 simp_all
inductive Run:List Op->List Tree->List Tree->Prop
 | nil:Run [] [] []
 | keep {o r a s d}:o.kind=0->(a.length:Int)=o.n->Run r s d->Run (o ::r) (a++s) (a++d)
 | gone {o r a s d}:o.kind=1->Zb o.l=Zb a->Run r s d->Run (o ::r) (a++s) d
 | come {o r s d}:o.kind=2->Run r s d->Run (o ::r) s (o.l++d)
 | into {o r x y s d}:o.kind=3->doE false o.e x=some y->Run r s d->Run (o ::r) (x ::s) (y ::d)
def kOk(o:Op):Prop:=(o.kind=0/\0<=o.n)\/o.kind=1\/o.kind=2\/o.kind=3
theorem ZCG:∀ {os:List Op} {s d:List Tree},Run os s d->∀ out,J5 false os s out=some (out++d,[]):=by
 intro os s d h
 induction h with
 | nil=> intro out;simp [J5]
 | keep h0 hn hr0 ih=>
  rename_i o r a s d
  intro out
  rw [J5,Z5E,if_pos h0,if_pos (by grind),show o.n.toNat=a.length by omega]
  grind
 | gone h1 hn hr0 ih=>
  rename_i o r a s d
  intro out
  have hl:=Z4t hn
  rw [J5,Z5E,V0,if_pos h1,if_pos]
  .grind
  .rw [ZhP,hl,List.take_left]
   grind
 | come h2 hr0 ih=>
  intro out
  rw [J5,Z5E,V0,V0,if_pos h2]
  grind
 | into h3 he hr0 ih=>
  intro out
  rw [J5,Z5E,V0,V0,V0,if_neg (by simp)]
  grind
theorem Zgp:∀ {os:List Op} {s out:List Tree} {x:List Tree × List Tree},(∀ o∈os,kOk o)->J5 false os s out=some x->x.2=[]->∃ d,x.1=out++d/\Run os s d
 | [],s,out,x,_,h,hx=> by
  rw [J5] at h
  cases h
  have hx:s=[]:=hx
  subst hx
  exact ⟨[],by simp,.nil⟩
 | o ::r,s,out,x,hk,h,hx=> by
  rw [J5,Z5E] at h
  have hr:∀ o∈r,kOk o:=fun o ho=> hk o (Q0 _ ho)
  rcases hk o Q3 with h0 | h1 | h2 | h3
  .rw [if_pos h0.1] at h
   split at h
   .rename_i hl
    simp only [Qm] at h
    obtain ⟨d,e,hd⟩:=Zgp hr h hx
    refine ⟨s.take o.n.toNat++d,by grind,?_⟩
    have:=Run.keep (a:=s.take o.n.toNat) h0.1 (by grind) hd
    simp_all
   .cases h
  .rw [V0,if_pos h1] at h
   split at h
   .rename_i hg
    obtain ⟨g1,g2⟩:=(ZhP _ _).1 hg
    simp only [Qm] at h
    obtain ⟨d,e,hd⟩:=Zgp hr h hx
    refine ⟨d,e,?_⟩
    have:=Run.gone (a:=s.take o.l.length) h1 g2 hd
    simp_all
   .cases h
  .rw [V0,V0,if_pos h2] at h
   simp only [Qm] at h
   obtain ⟨d,e,hd⟩:=Zgp hr h hx
   exact ⟨o.l++d,by grind,.come h2 hd⟩
  .rw [V0,V0,V0] at h
   split at h
   .cases h
   .rename_i hl
    obtain ⟨y,hy,h⟩:=Qt.1 h
    obtain ⟨z,hz,rfl⟩:=Qc.1 hy
    obtain ⟨d,e,hd⟩:=Zgp hr h hx
    cases s with
    | nil=> simp at hl
    | cons x0 s=>
     refine ⟨z ::d,by rw [e];simp,.into h3 (by simpa using hz) (by simpa using hd)⟩
theorem ZzW{os:List Op}{s d:List Tree}(hk:∀ o∈os,kOk o):Z2z (J5 false os s [])=some d↔Run os s d:=by
 constructor
 .intro h
  unfold Z2z at h
  obtain ⟨x,hx,h⟩:=Qt.1 h
  split at h
  .rename_i hl
   cases h
   obtain ⟨d,e,hd⟩:=Zgp hk hx (Q1 hl)
   grind
  .cases h
 .intro h
  have:=ZCG h []
  unfold Z2z
  grind
theorem Zs3{list d:Int}{o:Op}(h:Zc list o d=true):kOk o:=by
 have:=Y0 h
 cases this with
 | keep n h1=> exact .inl ⟨rfl,by grind⟩
 | gone=> exact .inr (.inl rfl)
 | come=> exact .inr (.inr (.inl rfl))
 | into=> exact .inr (.inr (.inr rfl))
theorem ZyF:∀ {os:List Op} {s d:List Tree},Run os s d->(∀ o∈os,ZQ o)->(s.length:Int)=Ju os/\(d.length:Int)=JE os:=by
 intro os s d h
 induction h with
 | nil=> intro _;simp [Ju,JE]
 | keep h0 hn hr0 ih=>
  rename_i o r a s d
  intro hk
  obtain ⟨i1,i2⟩:=ih fun o ho=> hk o (Q0 _ ho)
  have ho:=hk o Q3
  have hl:Z3 o=o.n:=by
   rcases ho with h | h | h
   .unfold Z3;rw [V0,h.2.1];simp
   .omega
   .omega
  simp only [Ju,JE,Qd]
  rw [V0,V0,hl]
  omega
 | gone h1 hn hr0 ih=>
  rename_i o r a s d
  intro hk
  obtain ⟨i1,i2⟩:=ih fun o ho=> hk o (Q0 _ ho)
  have ho:=hk o Q3
  have hl:Z3 o=a.length:=by
   have:=Z4t hn
   rcases ho with h | h | h
   .omega
   .unfold Z3;rw [V0,h.2.1];omega
   .omega
  simp only [Ju,JE,Qd]
  rw [V0,if_pos h1,hl]
  omega
 | come h2 hr0 ih=>
  rename_i o r s d
  intro hk
  obtain ⟨i1,i2⟩:=ih fun o ho=> hk o (Q0 _ ho)
  have ho:=hk o Q3
  have hl:Z3 o=o.l.length:=by
   rcases ho with h | h | h
   .omega
   .unfold Z3;rw [V0,h.2.1];omega
   .omega
  simp only [Ju,JE,Qd]
  rw [if_pos h2,V0,hl]
  omega
 | into h3 he hr0 ih=>
  rename_i o r x y s d
  intro hk
  obtain ⟨i1,i2⟩:=ih fun o ho=> hk o (Q0 _ ho)
  have hl:Z3 o=1:=by unfold Z3;rw [if_pos h3]
  simp only [Ju,JE,Q7]
  rw [V0,V0,hl]
  omega
theorem ZlK{r:Bool}{tk:List Tree}:∀ {ks:List Kid} {out b:List Tree},Z11 r tk ks out=some b->(∀ k∈ks,k.at_<=65534)->
  b.length<=max out.length 65535/\∀ y∈b,y∈out\/y=Tree.nil\/∃ k∈ks,doE r k.e (tk.getD k.at_.toNat Tree.nil)=some y
 | [],out,b,h,_=> by
  rw [Z11] at h
  cases h
  exact ⟨YL,fun y hy=> .inl hy⟩
 | k ::s,out,b,h,ha=> by
  rw [Z11,Zgq] at h
  obtain ⟨v,hv,hb⟩:=Qt.1 h
  obtain ⟨i1,i2⟩:=ZlK hb fun x hx=> ha x (Q0 _ hx)
  have:=ha k Q3
  rw [Z89] at i1
  refine ⟨YL,fun y hy=> ?_⟩
  rcases i2 y hy with h1 | h1 | ⟨q,hq,h1⟩
  .rcases Z8E h1 with h1 | h1 | h1
   .exact .inl h1
   .exact .inr (.inl h1)
   .subst h1
    exact .inr (.inr ⟨k,Q3,hv⟩)
  .exact .inr (.inl h1)
  .exact .inr (.inr ⟨q,Q0 _ hq,h1⟩)
theorem ZyE:∀ {os:List Op} {s d:List Tree},Run os s d->∀ y∈d,y∈s\/(∃ o∈os,o.kind=2/\y∈o.l)\/∃ o∈os,o.kind=3/\∃ x∈s,doE false o.e x=some y:=by
 intro os s d h
 induction h with
 | nil=> grind
 | keep h0 hn hr0 ih=>
  grind
 | gone h1 hn hr0 ih=>
  grind
 | come h2 hr0 ih=>
  grind
 | into h3 he hr0 ih=>
  grind
theorem ZEa{y:Tree}(h:y.kind≠10):Z0L 1 y=true:=by
 unfold Z0L
 grind
theorem Z90{list d:Int}{os:List Op}(h:Zw list os d=true):∀ o∈os,ZQ o:=fun o ho=> Z0F (rightOs_mem h ho)
theorem YR{o:Op}(h:ZQ o):0<=Z3 o:=by have:=ZY h;omega
theorem Zbi{e:Edit}{d:Int}{t u:Tree}(hr:Z9 e d=true)(h:doE false e t=some u):(e.kind=1->u=e.new)/\(e.kind=2->u.kind=1/\t.kind=1)/\(e.kind=3->u.kind=e.list/\t.kind=e.list)/\(e.kind=0->u=t):=by
 rw [Z1K,Z0c] at h
 refine ⟨fun hk=> ?_,fun hk=> ?_,fun hk=> ?_,fun hk=> ?_⟩
 .grind
 .rw [V0,V0,if_pos hk] at h
  split at h
  .rename_i ht
   obtain ⟨a,ha,h⟩:=Qt.1 h
   obtain ⟨b,hb,rfl⟩:=Qc.1 h
   simp_all
  .cases h
 .rw [V0,V0,V0,if_pos hk] at h
  split at h
  .rename_i ht
   obtain ⟨b,hb,rfl⟩:=Qc.1 h
   simp_all
  .cases h
 grind
theorem Z4P:∀ (n:Nat) (e:Edit) (d:Int) (t u:Tree),Z8 e<=n->Z9 e d=true->Ze t (-1)=true->doE false e t=some u->Ze u (-1)=true/\(e.kind≠0->u.kind≠10):=by
 intro n
 induction n with
 | zero=> intro e d t u hm;obtain ⟨k,o,nw,w,ks,l,os⟩:=e;simp only [Z8] at hm;omega
 | succ n ih=>
  intro e d t u hm hr ht h
  have R:=Zo hr
  obtain ⟨k1,k2,k3,k0⟩:=Zbi hr h
  have hk:=R.kind
  by_cases h0:e.kind=0
  .grind
  by_cases h1:e.kind=1
  .rw [k1 h1]
   obtain ⟨r1,r2,r3,r4⟩:=R.rep h1
   exact ⟨JO _ _ _ V2 r2,fun _=> r4⟩
  by_cases h2:e.kind=2
  .obtain ⟨u1,t1⟩:=k2 h2
   refine ⟨?_,fun _=> by omega⟩
   rw [Z1K,Z0c,if_neg h0,if_neg h1,if_pos h2,if_pos t1] at h
   obtain ⟨a,ha,h⟩:=Qt.1 h
   obtain ⟨b,hb,rfl⟩:=Qc.1 h
   obtain ⟨p1,_,p3⟩:=Z67 ht YL YL
   have p1:=p1 t1
   rw [t1] at p3
   have hl:=Zib R.words ha
   have ha':=Zq R.kids
   obtain ⟨m1,m2⟩:=ZlK hb fun k hk=> (ha' k hk).1.2.1
   refine Zir YL YL fun y hy=> ?_
   rcases m2 y hy with h | rfl | ⟨k,hk,h⟩
   .exact p3 y h
   .trivial
   .have hx:Ze (t.kids.getD k.at_.toNat Tree.nil) (-1)=true:=by
     by_cases hi:k.at_.toNat < t.kids.length
     .grind
     .rw [Qh,QN YL];try rfl
    obtain ⟨g1,g2⟩:=ih k.e _ _ y (by have:=Y6 hk;omega) (ha' k hk).2 hx h
    exact ⟨ZEa (g2 (ha' k hk).1.2.2),g1⟩
  .have h3:e.kind=3:=YL
   obtain ⟨u1,t1⟩:=k3 h3
   have hli:=R.list h3
   refine ⟨?_,fun _=> by omega⟩
   rw [Z1K,Z0c,if_neg h0,if_neg h1,if_neg h2,if_pos h3,if_pos t1] at h
   obtain ⟨b,hb,rfl⟩:=Qc.1 h
   have ho:∀ o∈e.ops,Zc e.list o (d - 1)=true:=fun o h=> rightOs_mem R.ops h
   have hrun:=(ZzW (fun o h=> Zs3 (ho o h))).1 hb
   obtain ⟨_,q2⟩:=ZyF hrun (Z90 R.ops)
   obtain ⟨q3,q4⟩:=Z0v e.ops 0 (fun o h=> YR (Z90 R.ops o h)) V2 V2
   have q5:=R.len.2
   obtain ⟨_,_,p3⟩:=Z67 ht YL YL
   rw [t1] at p3
   refine Zf2 hli YL fun y hy=> ?_
   rcases ZyE hrun y hy with h | ⟨o,hoo,hk2,hyl⟩ | ⟨o,hoo,hk3,x,hx,h⟩
   .exact p3 y h
   .have:=Y0 (ho o hoo)
    cases this with
    | come l h1 h2=> exact Z0q hli h1 y hyl
    | keep | gone | into=> grind
   .have:=Y0 (ho o hoo)
    cases this with
    | into e' g1 g2 g3 g4=>
     obtain ⟨f1,f2⟩:=ih e' _ x y (by have:=Z05 hoo;grind) g1 (p3 x hx).2 h
     refine ⟨?_,f1⟩
     obtain ⟨j1,j2,_,_⟩:=Zbi g1 h
     unfold Z0L
     grind
    | keep | gone | come=> grind
theorem Z1U{o:Op}{r:List Op}{s d:List Tree}(h0:o.kind=0):Run (o ::r) s d↔∃ a s' d',s=a++s'/\d=a++d'/\(a.length:Int)=o.n/\Run r s' d':=by
 constructor
 .intro h
  cases h with
  | keep _ h2 h3=> grind
  | gone h1=> omega
  | come h1=> omega
  | into h1=> omega
 .rintro ⟨a,s',d',rfl,rfl,h2,h3⟩
  exact .keep h0 h2 h3
theorem Z1V{o:Op}{r:List Op}{s d:List Tree}(h0:o.kind=1):Run (o ::r) s d↔∃ a s',s=a++s'/\Zb o.l=Zb a/\Run r s' d:=by
 constructor
 .intro h
  cases h with
  | gone _ h2 h3=> grind
  | keep h1=> omega
  | come h1=> omega
  | into h1=> omega
 .rintro ⟨a,s',rfl,h2,h3⟩
  exact .gone h0 h2 h3
theorem Z1W{o:Op}{r:List Op}{s d:List Tree}(h0:o.kind=2):Run (o ::r) s d↔∃ d',d=o.l++d'/\Run r s d':=by
 constructor
 .intro h
  cases h with
  | come _ h3=> grind
  | keep h1=> omega
  | gone h1=> omega
  | into h1=> omega
 .rintro ⟨d',rfl,h3⟩
  exact .come h0 h3
theorem Z9J{o:Op}{r:List Op}{s d:List Tree}(h0:o.kind=3):Run (o ::r) s d↔∃ x s' y d',s=x ::s'/\d=y ::d'/\doE false o.e x=some y/\Run r s' d':=by
 constructor
 .intro h
  cases h with
  | into _ h2 h3=> grind
  | keep h1=> omega
  | gone h1=> omega
  | come h1=> omega
 .rintro ⟨x,s',y,d',rfl,rfl,h2,h3⟩
  exact .into h0 h2 h3
theorem Z79{o:Op}{p r:List Op}(h:∀ s d,Run p s d↔Run r s d)(hk:kOk o)(s d:List Tree):Run (o ::p) s d↔Run (o ::r) s d:=by
 rcases hk with h0 | h1 | h2 | h3
 .rw [Z1U h0.1,Z1U h0.1];simp only [h]
 .rw [Z1V h1,Z1V h1];simp only [h]
 .rw [Z1W h2,Z1W h2];simp only [h]
 .rw [Z9J h3,Z9J h3];simp only [h]
theorem YQ{o:Op}(h:ZQ o):kOk o:=by
 rcases h with h | h | h
 .exact .inl ⟨h.1,YL⟩
 .rcases h.1 with h1 | h1
  .exact .inr (.inl h1)
  .exact .inr (.inr (.inl h1))
 .exact .inr (.inr (.inr h.1))
theorem Za8{o:Op}(h:ZQ o)(h0:o.kind=0):Z3 o=o.n:=by
 rcases h with h | h | h
 .unfold Z3;rw [V0,h.2.1];simp
 .omega
 .omega
theorem Z03{o:Op}(h:ZQ o)(h0:o.kind=1\/o.kind=2):Z3 o=o.l.length:=by
 rcases h with h | h | h
 .omega
 .unfold Z3;omega
 .omega
theorem JT{o:Op}(h0:o.kind=3):Z3 o=1:=by unfold Z3;rw [if_pos h0]
theorem ZoF{o:Op}{r:List Op}{s m:List Tree}(ho:ZQ o)(hk:o.kind≠1)(h:Run (o ::r) s m):∃ m1 s' m',m=m1++m'/\(m1.length:Int)=Z3 o/\Run r s' m':=by
 rcases YQ ho with h0 | h1 | h2 | h3
 .obtain ⟨a,s',d',_,rfl,hl,hr⟩:=(Z1U h0.1).1 h
  exact ⟨a,s',d',rfl,by rw [Za8 ho h0.1];exact hl,hr⟩
 .omega
 .obtain ⟨d',rfl,hr⟩:=(Z1W h2).1 h
  exact ⟨o.l,s,d',rfl,by rw [Z03 ho (.inr h2)],hr⟩
 .obtain ⟨x,s',y,d',_,rfl,_,hr⟩:=(Z9J h3).1 h
  exact ⟨[y],s',d',rfl,by rw [JT h3];rfl,hr⟩
theorem ZtM{o:Op}{r:List Op}{m d:List Tree}(ho:ZQ o)(hk:o.kind≠2)(h:Run (o ::r) m d):∃ m1 m' d',m=m1++m'/\(m1.length:Int)=Z3 o/\Run r m' d':=by
 rcases YQ ho with h0 | h1 | h2 | h3
 .obtain ⟨a,s',d',rfl,_,hl,hr⟩:=(Z1U h0.1).1 h
  exact ⟨a,s',d',rfl,by rw [Za8 ho h0.1];exact hl,hr⟩
 .obtain ⟨a,s',rfl,hn,hr⟩:=(Z1V h1).1 h
  exact ⟨a,s',d,rfl,by rw [Z03 ho (.inl h1),Z4t hn],hr⟩
 .omega
 .obtain ⟨x,s',y,d',rfl,_,_,hr⟩:=(Z9J h3).1 h
  exact ⟨[x],s',d',rfl,by rw [JT h3];rfl,hr⟩
theorem Zrl{o:Op}{r:List Op}{n:Int}(ho:ZQ o)(h1:1<=n)(hn:¬Z3 o<=n)(s d:List Tree):Run (o ::r) s d↔Run (ZD o n ::JX o n ::r) s d:=by
 unfold ZD JX
 rw [if_neg hn]
 rcases YQ ho with h0 | hg | hc | hi
 .have hl:=Za8 ho h0.1
  rw [if_pos h0.1,if_pos h0.1,Z1U h0.1,Z1U (o:=⟨o.kind,n,o.l,o.e⟩) h0.1]
  constructor
  .rintro ⟨a,s',d',rfl,rfl,ha,hr⟩
   refine ⟨a.take n.toNat,a.drop n.toNat++s',a.drop n.toNat++d',by rw [<-Qb,QH],by rw [<-Qb,QH],by grind,?_⟩
   exact (Z1U (o:=⟨o.kind,o.n - n,o.l,o.e⟩) h0.1).2 ⟨a.drop n.toNat,s',d',rfl,rfl,by grind,hr⟩
  .rintro ⟨a,s',d',rfl,rfl,ha,hr⟩
   obtain ⟨b,s2,d2,rfl,rfl,hb,hr2⟩:=(Z1U (o:=⟨o.kind,o.n - n,o.l,o.e⟩) h0.1).1 hr
   grind
 .have hl:=Z03 ho (.inl hg)
  rw [V0,V0,Z1V hg,Z1V (o:=⟨o.kind,o.n,o.l.take n.toNat,o.e⟩) hg]
  constructor
  .rintro ⟨a,s',rfl,ha,hr⟩
   have hla:=Z4t ha
   refine ⟨a.take n.toNat,a.drop n.toNat++s',by rw [<-Qb,QH],EqvL.take ha _,?_⟩
   exact (Z1V (o:=⟨o.kind,o.n,o.l.drop n.toNat,o.e⟩) hg).2 ⟨a.drop n.toNat,s',rfl,EqvL.drop ha _,hr⟩
  .rintro ⟨a,s',rfl,ha,hr⟩
   obtain ⟨b,s2,rfl,hb,hr2⟩:=(Z1V (o:=⟨o.kind,o.n,o.l.drop n.toNat,o.e⟩) hg).1 hr
   refine ⟨a++b,s2,by grind,?_,hr2⟩
   have:=Z0V ha hb
   simp_all
 .rw [V0,V0,Z1W hc,Z1W (o:=⟨o.kind,o.n,o.l.take n.toNat,o.e⟩) hc]
  constructor
  .rintro ⟨d',rfl,hr⟩
   refine ⟨o.l.drop n.toNat++d',by rw [<-Qb,QH],?_⟩
   exact (Z1W (o:=⟨o.kind,o.n,o.l.drop n.toNat,o.e⟩) hc).2 ⟨d',rfl,hr⟩
  .rintro ⟨d',rfl,hr⟩
   obtain ⟨d2,rfl,hr2⟩:=(Z1W (o:=⟨o.kind,o.n,o.l.drop n.toNat,o.e⟩) hc).1 hr
   exact ⟨d2,by rw [<-Qb,QH],hr2⟩
 .rw [JT hi] at hn
  omega
def Z2h:List Piece->List Op
 | []=> []
 | x ::r=> (if x.of=2 then [] else [x.p])++Z2h r
def Z2g:List Piece->List Op
 | []=> []
 | x ::r=> (if x.of=1 then [] else [x.q])++Z2g r
def Part(l:List Op)(o:Op):Prop:=∃ o'∈l,o.kind=o'.kind/\o.e=o'.e/\Zt o<=Zt o'/\∀ t∈o.l,t∈o'.l
structure POk (p q:List Op) (x:Piece):Prop where
 of:x.of=0\/x.of=1\/x.of=2
 pp:x.of≠2->Part p x.p/\ZQ x.p
 qq:x.of≠1->Part q x.q/\ZQ x.q
 one:x.of=1->x.p.kind=1
 two:x.of=2->x.q.kind=2
 both:x.of=0->x.p.kind≠1/\x.q.kind≠2/\Z3 x.p=Z3 x.q
 pn:x.of=2->x.p=Op.nil
 qn:x.of=1->x.q=Op.nil
theorem Part.mono{l l':List Op}{o:Op}(h:Part l o)(hl:∀ x∈l,Part l' x):Part l' o:=by
 obtain ⟨o',h1,h2,h3,h5,h4⟩:=h
 obtain ⟨o2,g1,g2,g3,g5,g4⟩:=hl o' h1
 exact ⟨o2,g1,h2.trans g2,h3.trans g3,QJ h5 g5,fun t ht=> g4 t (h4 t ht)⟩
theorem Part.self{l:List Op}{o:Op}(h:o∈l):Part l o:=⟨o,h,rfl,rfl,Q8 _,fun _ h=> h⟩
theorem POk.mono{p q p' q':List Op}{x:Piece}(h:POk p q x)(hp:∀ x∈p,Part p' x)(hq:∀ x∈q,Part q' x):POk p' q' x:=
 ⟨h.of,fun e=> ⟨(h.pp e).1.mono hp,(h.pp e).2⟩,fun e=> ⟨(h.qq e).1.mono hq,(h.qq e).2⟩,h.one,h.two,h.both,h.pn,h.qn⟩
theorem Zk7{o:Op}{r:List Op}{n:Int}(h:∀ x∈o ::r,ZQ x)(h1:1<=n)(hn:n<=Z3 o):
  ZQ (ZD o n)/\Z3 (ZD o n)=n/\(ZD o n).kind=o.kind/\Part (o ::r) (ZD o n)/\(∀ x∈ZV (o ::r) n,ZQ x/\Part (o ::r) x)/\∀ s d,Run (o ::r) s d↔Run (ZD o n ::ZV (o ::r) n) s d:=by
 have ho:=h o Q3
 have hr:∀ x∈r,ZQ x/\Part (o ::r) x:=fun x hx=> ⟨h x (Q0 _ hx),Part.self (Q0 _ hx)⟩
 unfold ZV
 simp only [Qp,QK,Xb]
 by_cases hl:Z3 o<=n
 .rw [if_pos hl]
  have e:ZD o n=o:=by unfold ZD;rw [if_pos hl]
  rw [e]
  exact ⟨ho,YL,rfl,Part.self Q3,hr,fun s d=> QM⟩
 .rw [if_neg hl]
  obtain ⟨_,v2,v3,v4⟩:=Z5V (a:=1) ho h1 hl
  obtain ⟨b1,b2⟩:=Zbn ho h1 hl
  refine ⟨v2,v3,Z0E o n,?_,?_,Zrl ho h1 hl⟩
  .refine ⟨o,Q3,Z0E o n,?_,v4,?_⟩
   .unfold ZD;split;rfl;split <;> rfl
   .intro t ht
    unfold ZD at ht
    split at ht
    .exact ht
    .split at ht
     .exact ht
     .exact Xa ht
  .intro x hx
   rcases Q9.1 hx with rfl | hx
   .refine ⟨b1,o,Q3,?_,?_,b2,?_⟩
    .unfold JX;split <;> rfl
    .unfold JX;split <;> rfl
    .intro t ht
     unfold JX at ht
     split at ht
     .exact ht
     .exact QS ht
   .exact hr x hx
theorem ZoG{d:List Tree}{s:List Tree}(h:Run [] s d):s=[]/\d=[]:=by cases h;grind
theorem Z4q:∀ (k:Nat) (p q:List Op) (out:List Piece),p.length+q.length<=k->(∀ o∈p,ZQ o)->(∀ o∈q,ZQ o)->
  ((Y3 1 2 p q out).2.1=true->∃ ps,(Y3 1 2 p q out).1=out++ps/\(∀ x∈ps,POk p q x)/\(∀ s m,Run p s m↔Run (Z2h ps) s m)/\∀ m d,Run q m d↔Run (Z2g ps) m d)/\
  ((Y3 1 2 p q out).2.1=false->∀ s m d,Run p s m->Run q m d->False):=by
 intro k
 induction k with
 | zero=>
  intro p q out hk hp hq
  have e1:p=[]:=Q1 YL
  have e2:q=[]:=Q1 YL
  subst e1 e2
  have e:Y3 1 2 [] [] out=(out,true,[],[]):=by
   rw [Y3,dif_neg (by simp [sgl]),dif_neg (by simp [sgl]),dif_pos (by simp)]
   try rfl
  rw [e]
  exact ⟨fun _=> ⟨[],by simp,fun x hx=> (by cases hx),fun s m=> QM,fun m d=> QM⟩,fun h=> by cases h⟩
 | succ k ih=>
  intro p q out hk hp hq
  rw [Y3]
  by_cases h1:sgl 1 p=true
  .rw [dif_pos h1]
   obtain ⟨g1,g2⟩:=Z0B.1 h1
   cases p with
   | nil=> grind
   | cons a p'=>
    simp only [Qp] at g2
    simp only [Qp,QK,Xb]
    have ha:=hp a Q3
    obtain ⟨i1,i2⟩:=ih p' q (out++[⟨1,a,Op.nil⟩]) (by grind) (fun o ho=> hp o (Q0 _ ho)) hq
    refine ⟨fun h=> ?_,fun h s m d r1 r2=> ?_⟩
    .obtain ⟨ps,e,hps,hP,hQ⟩:=i1 h
     refine ⟨⟨1,a,Op.nil⟩ ::ps,by grind,fun x hx=> ?_,fun s m=> ?_,fun m d=> ?_⟩
     .rcases Q9.1 hx with rfl | hx
      .exact ⟨.inr (.inl rfl),fun _=> ⟨Part.self Q3,ha⟩,fun e=> absurd rfl e,fun _=> g2,fun e=> (by cases e),fun e=> (by cases e),fun e=> (by cases e),fun _=> rfl⟩
      .exact (hps x hx).mono (fun x hx=> Part.self (Q0 _ hx)) (fun x hx=> Part.self hx)
     .show _↔Run (a ::Z2h ps) s m
      exact Z79 hP (YQ ha) s m
     .exact hQ m d
    .obtain ⟨b,s',_,_,hr⟩:=(Z1V g2).1 r1
     grind
  .rw [dif_neg h1]
   by_cases h2:sgl 2 q=true
   .rw [dif_pos h2]
    obtain ⟨g1,g2⟩:=Z0B.1 h2
    cases q with
    | nil=> grind
    | cons a q'=>
     simp only [Qp] at g2
     simp only [Qp,QK,Xb]
     have ha:=hq a Q3
     obtain ⟨i1,i2⟩:=ih p q' (out++[⟨2,Op.nil,a⟩]) (by grind) hp (fun o ho=> hq o (Q0 _ ho))
     refine ⟨fun h=> ?_,fun h s m d r1 r2=> ?_⟩
     .obtain ⟨ps,e,hps,hP,hQ⟩:=i1 h
      refine ⟨⟨2,Op.nil,a⟩ ::ps,by grind,fun x hx=> ?_,fun s m=> ?_,fun m d=> ?_⟩
      .rcases Q9.1 hx with rfl | hx
       .exact ⟨.inr (.inr rfl),fun e=> absurd rfl e,fun _=> ⟨Part.self Q3,ha⟩,fun e=> (by cases e),fun _=> g2,fun e=> (by cases e),fun _=> rfl,fun e=> (by cases e)⟩
       .exact (hps x hx).mono (fun x hx=> Part.self hx) (fun x hx=> Part.self (Q0 _ hx))
      .exact hP s m
      .show _↔Run (a ::Z2g ps) m d
       exact Z79 hQ (YQ ha) m d
     .obtain ⟨d',_,hr⟩:=(Z1W g2).1 r2
      grind
   .rw [dif_neg h2]
    by_cases h3:p.length=0\/q.length=0
    .rw [dif_pos h3]
     by_cases h4:p.length=0
     .have e1:p=[]:=Q1 h4
      subst e1
      by_cases h5:q.length=0
      .have e2:q=[]:=Q1 h5
       subst e2
       rw [if_pos rfl]
       exact ⟨fun _=> ⟨[],by simp,fun x hx=> (by cases hx),fun s m=> QM,fun m d=> QM⟩,fun h=> by cases h⟩
      .rw [if_neg (by grind)]
       refine ⟨fun h=> (by cases h),fun _ s m d r1 r2=> ?_⟩
       cases q with
       | nil=> exact h5 rfl
       | cons a q'=>
        have ha:=hq a Q3
        obtain ⟨_,rfl⟩:=ZoG r1
        obtain ⟨m1,m',d',e,hl,_⟩:=ZtM ha (fun e=> h2 (Z0B.2 ⟨by simp,by simpa using e⟩)) r2
        have:=ZY ha
        have e:=congrArg List.length e
        grind
     .have h5:q.length=0:=YL
      have e2:q=[]:=Q1 h5
      subst e2
      rw [if_neg (by grind)]
      refine ⟨fun h=> (by cases h),fun _ s m d r1 r2=> ?_⟩
      cases p with
      | nil=> exact h4 rfl
      | cons a p'=>
       have ha:=hp a Q3
       obtain ⟨rfl,_⟩:=ZoG r2
       obtain ⟨m1,s',m',e,hl,_⟩:=ZoF ha (fun e=> h1 (Z0B.2 ⟨by simp,by simpa using e⟩)) r1
       have:=ZY ha
       have e:=congrArg List.length e
       grind
    .rw [dif_neg h3]
     cases p with
     | nil=> simp at h3
     | cons a p'=>
      cases q with
      | nil=> simp at h3
      | cons b q'=>
       have ha:=hp a Q3
       have hb:=hq b Q3
       have ka:a.kind≠1:=fun e=> h1 (Z0B.2 ⟨by simp,by simpa using e⟩)
       have kb:b.kind≠2:=fun e=> h2 (Z0B.2 ⟨by simp,by simpa using e⟩)
       have la:=ZY ha
       have lb:=ZY hb
       simp only [Qp]
       generalize hn:min (Z3 a) (Z3 b)=n
       have hn1:1<=n:=YL
       have hna:n<=Z3 a:=YL
       have hnb:n<=Z3 b:=YL
       obtain ⟨a1,a2,a3,a4,a5,a6⟩:=Zk7 hp hn1 hna
       obtain ⟨b1,b2,b3,b4,b5,b6⟩:=Zk7 hq hn1 hnb
       have hlt:(ZV (a ::p') n).length+(ZV (b ::q') n).length<=k:=by
        have x1:=YD (a ::p') n (by simp)
        have x2:=YD (b ::q') n (by simp)
        simp only [Q7] at hk x1 x2
        rcases Int.le_total (Z3 a) (Z3 b) with h | h
        .have:=YC (a ::p') n (by simp) (by grind)
         grind
        .have:=YC (b ::q') n (by simp) (by grind)
         grind
       obtain ⟨i1,i2⟩:=ih (ZV (a ::p') n) (ZV (b ::q') n) (out++[⟨0,ZD a n,ZD b n⟩]) hlt (fun o ho=> (a5 o ho).1) (fun o ho=> (b5 o ho).1)
       refine ⟨fun h=> ?_,fun h s m d r1 r2=> ?_⟩
       .obtain ⟨ps,e,hps,hP,hQ⟩:=i1 h
        refine ⟨⟨0,ZD a n,ZD b n⟩ ::ps,by grind,fun x hx=> ?_,fun s m=> ?_,fun m d=> ?_⟩
        .rcases Q9.1 hx with rfl | hx
         .exact ⟨.inl rfl,fun _=> ⟨a4,a1⟩,fun _=> ⟨b4,b1⟩,fun e=> (by cases e),fun e=> (by cases e),fun _=> ⟨by grind,by grind,by grind⟩,fun e=> (by cases e),fun e=> (by cases e)⟩
         .exact (hps x hx).mono (fun x hx=> (a5 x hx).2) (fun x hx=> (b5 x hx).2)
        .rw [a6 s m]
         exact Z79 hP (YQ a1) s m
        .rw [b6 m d]
         exact Z79 hQ (YQ b1) m d
       .rw [a6] at r1
        rw [b6] at r2
        obtain ⟨m1,s',m',e,hl,r3⟩:=ZoF a1 YL r1
        obtain ⟨m2,m3,d',e',hl',r4⟩:=ZtM b1 YL r2
        obtain ⟨_,e2⟩:=List.append_inj (e.symm.trans e') YL
        grind
section
variable {β:Type} {at_:β->Int} {one:β->β->β × Bool}
structure MSpec (at_:β->Int) (one:β->β->β × Bool) (last:Int) (p q L:List β):Prop where
 asc_:asc at_ last L
 of:∀ x∈L,(x∈p/\∀ b∈q,at_ b≠at_ x)\/(x∈q/\∀ a∈p,at_ a≠at_ x)\/∃ a∈p,∃ b∈q,at_ a=at_ b/\(one a b).2=true/\x=(one a b).1
 left:∀ a∈p,(∀ b∈q,at_ b≠at_ a)->a∈L
 right:∀ b∈q,(∀ a∈p,at_ a≠at_ b)->b∈L
 both:∀ a∈p,∀ b∈q,at_ a=at_ b->(one a b).2=true/\(one a b).1∈L
theorem ZfW(hone:∀ a b,at_ a=at_ b->(one a b).2=true->at_ (one a b).1=at_ a):∀ (k:Nat) (p q:List β) (last:Int),p.length+q.length<=k->asc at_ last p->asc at_ last q->
  (Zh at_ one p q=none->∃ a∈p,∃ b∈q,at_ a=at_ b/\(one a b).2=false)/\∀ L,Zh at_ one p q=some L->MSpec at_ one last p q L:=by
 intro k
 induction k with
 | zero=>
  intro p q last hk hp hq
  have e1:p=[]:=Q1 YL
  have e2:q=[]:=Q1 YL
  subst e1 e2
  rw [Zh]
  refine ⟨fun h=> (by cases h),fun L h=> ?_⟩
  cases h
  exact ⟨trivial,fun x hx=> (by cases hx),fun a ha=> (by cases ha),fun a ha=> (by cases ha),fun a ha=> (by cases ha)⟩
 | succ k ih=>
  intro p q last hk hp hq
  match p,q with
  | [],q=>
   rw [Zh]
   refine ⟨fun h=> (by cases h),fun L h=> ?_⟩
   cases h
   exact ⟨hq,fun x hx=> .inr (.inl ⟨hx,fun a ha=> (by cases ha)⟩),fun a ha=> (by cases ha),fun b hb _=> hb,fun a ha=> (by cases ha)⟩
  | a ::p,[]=>
   rw [Zh]
   refine ⟨fun h=> (by cases h),fun L h=> ?_⟩
   cases h
   exact ⟨hp,fun x hx=> .inl ⟨hx,fun a ha=> (by cases ha)⟩,fun b hb _=> hb,fun a ha=> (by cases ha),fun a _ b hb=> (by cases hb)⟩
  | a ::p,b ::q=>
   have gp:=fun x hx=> Z3n hp.2 x hx
   have gq:=fun x hx=> Z3n hq.2 x hx
   simp only [Q7] at hk
   rw [Zh]
   by_cases h1:at_ a < at_ b
   .rw [if_pos h1]
    obtain ⟨i1,i2⟩:=ih p (b ::q) (at_ a) (by grind) hp.2 ⟨h1,hq.2⟩
    refine ⟨fun h=> ?_,fun L h=> ?_⟩
    .simp_all
    .obtain ⟨L',hL,rfl⟩:=Qc.1 h
     have S:=i2 L' hL
     have na:∀ y∈b ::q,at_ y≠at_ a:=by
      intro y hy
      rcases Q9.1 hy with rfl | hy
      .omega
      .have:=gq y hy;omega
     refine ⟨⟨hp.1,S.asc_⟩,fun x hx=> ?_,fun x hx hn=> ?_,fun y hy hn=> ?_,fun x hx y hy e=> ?_⟩
     .rcases Q9.1 hx with rfl | hx
      .grind
      .rcases S.of x hx with ⟨h2,h3⟩ | ⟨h2,h3⟩ | ⟨c,hc,d,hd,h2⟩
       .grind
       .grind
       .exact .inr (.inr ⟨c,Q0 _ hc,d,hd,h2⟩)
     .rcases Q9.1 hx with rfl | hx
      .grind
      .exact Q0 _ (S.left x hx hn)
     .exact Q0 _ (S.right y hy fun c hc=> hn c (Q0 _ hc))
     .rcases Q9.1 hx with rfl | hx
      .grind
      .obtain ⟨h2,h3⟩:=S.both x hx y hy e
       grind
   .rw [if_neg h1]
    by_cases h2:at_ b < at_ a
    .rw [if_pos h2]
     obtain ⟨i1,i2⟩:=ih (a ::p) q (at_ b) (by grind) ⟨h2,hp.2⟩ hq.2
     refine ⟨fun h=> ?_,fun L h=> ?_⟩
     .rw [Option.map_eq_none_iff] at h
      obtain ⟨x,hx,y,hy,e⟩:=i1 h
      exact ⟨x,hx,y,Q0 _ hy,e⟩
     .obtain ⟨L',hL,rfl⟩:=Qc.1 h
      have S:=i2 L' hL
      have nb:∀ y∈a ::p,at_ y≠at_ b:=by
       intro y hy
       rcases Q9.1 hy with rfl | hy
       .omega
       .have:=gp y hy;omega
      refine ⟨⟨hq.1,S.asc_⟩,fun x hx=> ?_,fun x hx hn=> ?_,fun y hy hn=> ?_,fun x hx y hy e=> ?_⟩
      .rcases Q9.1 hx with rfl | hx
       .grind
       .rcases S.of x hx with ⟨h3,h4⟩ | ⟨h3,h4⟩ | ⟨c,hc,d,hd,h3⟩
        .grind
        .grind
        .exact .inr (.inr ⟨c,hc,d,Q0 _ hd,h3⟩)
      .exact Q0 _ (S.left x hx fun c hc=> hn c (Q0 _ hc))
      .rcases Q9.1 hy with rfl | hy
       .grind
       .exact Q0 _ (S.right y hy hn)
      .rcases Q9.1 hy with rfl | hy
       .grind
       .obtain ⟨h3,h4⟩:=S.both x hx y hy e
        grind
    .rw [if_neg h2]
     have e0:at_ a=at_ b:=YL
     by_cases h3:(one a b).2=true
     .rw [if_pos h3]
      obtain ⟨i1,i2⟩:=ih p q (at_ a) YL hp.2 (by rw [e0];exact hq.2)
      refine ⟨fun h=> ?_,fun L h=> ?_⟩
      .rw [Option.map_eq_none_iff] at h
       obtain ⟨x,hx,y,hy,e⟩:=i1 h
       exact ⟨x,Q0 _ hx,y,Q0 _ hy,e⟩
      .obtain ⟨L',hL,rfl⟩:=Qc.1 h
       have S:=i2 L' hL
       have hat:=hone a b e0 h3
       have na:∀ y∈q,at_ y≠at_ a:=fun y hy=> by grind
       have nb:∀ y∈p,at_ y≠at_ b:=fun y hy=> by grind
       refine ⟨⟨by rw [hat];exact hp.1,by rw [hat];exact S.asc_⟩,fun x hx=> ?_,fun x hx hn=> ?_,fun y hy hn=> ?_,fun x hx y hy e=> ?_⟩
       .rcases Q9.1 hx with rfl | hx
        .simp_all
        .rcases S.of x hx with ⟨h4,h5⟩ | ⟨h4,h5⟩ | ⟨c,hc,d,hd,h4⟩
         .refine .inl ⟨Q0 _ h4,fun c hc=> ?_⟩
          grind
         .refine .inr (.inl ⟨Q0 _ h4,fun c hc=> ?_⟩)
          grind
         .exact .inr (.inr ⟨c,Q0 _ hc,d,Q0 _ hd,h4⟩)
       .rcases Q9.1 hx with rfl | hx
        .simp_all
        .exact Q0 _ (S.left x hx fun c hc=> hn c (Q0 _ hc))
       .rcases Q9.1 hy with rfl | hy
        .simp_all
        .exact Q0 _ (S.right y hy fun c hc=> hn c (Q0 _ hc))
       .rcases Q9.1 hx with rfl | hx
        .grind
        .rcases Q9.1 hy with rfl | hy
         .grind
         .obtain ⟨h4,h5⟩:=S.both x hx y hy e
          grind
     simp_all
variable {α:Type} {z:α} {F:β->α->Option α} {R:α->α->Prop}
end
end Go.AM.YtfapacabjkhepaaGreat
namespace Go.AM.YtfapacabjkhepaaGreat
open Go.AM Go.Proofs
theorem Z4A(m:Int)(h0:0<=m)(h1:m < 256)(i:Nat):ZB m (i:Int)=(BitVec.ofInt 8 m).toNat.testBit i:=by
 obtain ⟨n,rfl⟩:=QZ h0
 have e:(BitVec.ofInt 8 ((n:Nat):Int)).toNat=n:=by simp;omega
 rw [e,Nat.testBit_eq_decide_div_mod_eq]
 unfold ZB
 grind
theorem Zr1{a b:Int}(ha:0<=a/\a < 256)(hb:0<=b/\b < 256):(0<=Zsv a b/\Zsv a b < 256)/\∀ i:Nat,ZB (Zsv a b) (i:Int)=(ZB a (i:Int) && ZB b (i:Int)):=by
 have hlt:(BitVec.ofInt 8 a &&& BitVec.ofInt 8 b).toNat < 256:=(BitVec.ofInt 8 a &&& BitVec.ofInt 8 b).isLt
 have e:Zsv a b=((BitVec.ofInt 8 a &&& BitVec.ofInt 8 b).toNat:Int):=by
  show IntKind.wrap .u8 ((BitVec.ofInt 8 a &&& BitVec.ofInt 8 b).toNat:Int)=_
  exact Z9j YL YL
 refine ⟨by rw [e];omega,fun i=> ?_⟩
 rw [Z4A _ (by rw [e];omega) (by rw [e];omega),e,Z4A a ha.1 ha.2,Z4A b hb.1 hb.2]
 grind
theorem ZuN{a b:Int}(ha:0<=a/\a < 256)(hb:0<=b/\b < 256):(0<=orM a b/\orM a b < 256)/\∀ i:Nat,ZB (orM a b) (i:Int)=(ZB a (i:Int) || ZB b (i:Int)):=by
 have hlt:(BitVec.ofInt 8 a ||| BitVec.ofInt 8 b).toNat < 256:=(BitVec.ofInt 8 a ||| BitVec.ofInt 8 b).isLt
 have e:orM a b=((BitVec.ofInt 8 a ||| BitVec.ofInt 8 b).toNat:Int):=by
  show IntKind.wrap .u8 ((BitVec.ofInt 8 a ||| BitVec.ofInt 8 b).toNat:Int)=_
  exact Z9j YL YL
 refine ⟨by rw [e];omega,fun i=> ?_⟩
 rw [Z4A _ (by rw [e];omega) (by rw [e];omega),e,Z4A a ha.1 ha.2,Z4A b hb.1 hb.2]
 grind
theorem ZBZ(i:Nat):Z0 0 i=0:=by unfold Z0;simp
theorem Z3r{w m:Int}(h:Y9 w m=true){i:Nat}(hi:i < 8)(hn:ZB m i=false):Z0 w i=0:=by
 have h:mix w 0 m=0:=of_decide_eq_true h
 have e:=congrArg (fun x=> Z0 x i) h
 simp only [Zlb hi,Je,hn,ZBZ] at e
 simpa using e
theorem ZmV{a b m:Int}{i:Nat}(hi:i < 8):Z0 (mix a b m) i=if ZB m i=true then Z0 b i else Z0 a i:=by rw [Zlb hi];try rfl
theorem ZA9(a b:WEdit)(h:(Jh a b).2=true):(Jh a b).1.at_=a.at_:=by
 unfold Jh at h ⊢
 grind
theorem ZO{e:Edit}{d:Int}(h:Z9 e d=true):∀ o∈e.ops,ZQ o:=Z90 (Zo h).ops
theorem Z8s {f g:Edit->Edit->Edit × Bool} {p q:Edit} {d d':Int} (hp:Z9 p d=true) (hq:Z9 q d'=true)
  (h:∀ a b,Z8 a+Z8 b < Z8 p+Z8 q->(∃ d,Z9 a d=true)->(∃ d,Z9 b d=true)->f a b=g a b):Ji f p q=Ji g p q:=by
 have rp:=Zo hp
 have rq:=Zo hq
 have hk:Zh KidOf.at_ (JM f) p.kids q.kids=Zh KidOf.at_ (JM g) p.kids q.kids:=by
  have key:∀ (k:Nat) (a b:List Kid),a.length+b.length<=k->(∀ x∈a,x∈p.kids)->(∀ x∈b,x∈q.kids)->Zh KidOf.at_ (JM f) a b=Zh KidOf.at_ (JM g) a b:=by
   intro k
   induction k with
   | zero=>
    intro a b hn _ _
    have e1:a=[]:=Q1 YL
    subst e1
    rw [Zh,Zh]
   | succ k ihk=>
    intro a b hn ha hb
    match a,b with
    | [],b=> rw [Zh,Zh]
    | x ::a,[]=> rw [Zh,Zh]
    | x ::a,y ::b=>
     simp only [Q7] at hn
     have hx:=Y6 (ha x Q3)
     have hy:=Y6 (hb y Q3)
     have e:JM f x y=JM g x y:=by
      unfold JM
      rw [h x.e y.e YL ⟨_,(Zq rp.kids x (ha x Q3)).2⟩ ⟨_,(Zq rq.kids y (hb y Q3)).2⟩]
     rw [Zh,Zh,e,ihk a (y ::b) (by simp only [Q7];omega) (fun z hz=> ha z (Q0 _ hz)) hb,ihk (x ::a) b (by simp only [Q7];omega) ha (fun z hz=> hb z (Q0 _ hz)),
      ihk a b YL (fun z hz=> ha z (Q0 _ hz)) (fun z hz=> hb z (Q0 _ hz))]
  exact key _ _ _ (Q8 _) (fun x hx=> hx) (fun x hx=> hx)
 have ho:Z0y f p.ops q.ops=Z0y g p.ops q.ops:=by
  unfold Z0y
  obtain ⟨i1,_⟩:=Z4q _ p.ops q.ops [] (Q8 _) (ZO hp) (ZO hq)
  by_cases hb:(Y3 1 2 p.ops q.ops []).2.1=true
  .rw [if_pos hb,if_pos hb]
   obtain ⟨ps,e,hps,hA,hB⟩:=i1 hb
   rw [e,Qq]
   clear e i1 hb hA hB
   induction ps with
   | nil=> rfl
   | cons x r ihr=>
    have hx:=hps x Q3
    have e:ZM f x=ZM g x:=by
     unfold ZM
     by_cases h1:x.of=1\/(x.of=0/\x.q.kind=0)
     .grind
     rw [if_neg h1,if_neg h1]
     by_cases h2:x.of=2\/x.p.kind=0
     .grind
     rw [if_neg h2,if_neg h2]
     by_cases h3:x.p.kind=2/\x.q.kind=1
     .grind
     rw [if_neg h3,if_neg h3]
     by_cases h4:x.p.kind=2
     .grind
     rw [if_neg h4,if_neg h4]
     by_cases h5:x.q.kind=1
     .grind
     rw [if_neg h5,if_neg h5]
     have h0:x.of=0:=by rcases hx.of with h | h | h <;> omega
     obtain ⟨hpk,hqk,hl⟩:=hx.both h0
     obtain ⟨⟨o1,m1,k1,e1,_⟩,op⟩:=hx.pp YL
     obtain ⟨⟨o2,m2,k2,e2,_⟩,oq⟩:=hx.qq YL
     have kp3:x.p.kind=3:=by rcases YQ op with h | h | h | h <;> omega
     have kq3:x.q.kind=3:=by rcases YQ oq with h | h | h | h <;> omega
     have:=Z05 m1
     have:=Z05 m2
     have r1:=Jo (rightOs_mem rp.ops m1) YL
     have r2:=Jo (rightOs_mem rq.ops m2) YL
     rw [e1,e2,h o1.e o2.e YL ⟨_,r1⟩ ⟨_,r2⟩]
    rw [JW,JW,e,ihr fun y hy=> hps y (Q0 _ hy)]
  .grind
 unfold Ji
 rw [hk,ho]
theorem Zi0:∀ (n m:Nat) (p q:Edit) (d d':Int),Z9 p d=true->Z9 q d'=true->Z8 p+Z8 q<=n->n<=m->Z86 m p q=Z86 n p q:=by
 intro n
 induction n with
 | zero=> intro m p q d d' _ _ h;obtain ⟨k,o,nw,w,ks,l,os⟩:=p;simp only [Z8] at h;omega
 | succ n ih=>
  intro m p q d d' hp hq h hm
  obtain ⟨m,rfl⟩:∃ k,m=k+1:=⟨m - 1,YL⟩
  show Ji (Z86 m) p q=Ji (Z86 n) p q
  exact Z8s hp hq fun a b hab ⟨d1,h1⟩ ⟨d2,h2⟩=> ih m a b d1 d2 h1 h2 YL YL
theorem Zsi{p q:Edit}{d d':Int}(hp:Z9 p d=true)(hq:Z9 q d'=true):Yy p q=Ji Yy p q:=by
 have e:Yy p q=Z86 (Z8 p+Z8 q+1) p q:=(Zi0 _ _ p q d d' hp hq (Q8 _) YL).symm
 rw [e]
 show Ji (Z86 (Z8 p+Z8 q)) p q=Ji Yy p q
 exact Z8s hp hq fun a b hab ⟨d1,h1⟩ ⟨d2,h2⟩=> Zi0 _ _ a b d1 d2 h1 h2 (Q8 _) YL
theorem Zwm(t:Tree):Eqv (Z5 t) t:=Z0G t
theorem ZJE{e:Edit}(h:e.kind=2)(t:Tree):doE false e t=if t.kind=1 then (wsD t.words e.words t.words).bind fun a=> (Z11 false t.kids e.kids t.kids).map fun b=> .mk 1 a b else none:=by
 rw [Z1K,Z0c,V0,V0,if_pos h]
theorem ZHZ(w:List WEdit)(ks:List Kid)(t:Tree):doE false (.mk 2 Tree.nil Tree.nil w ks 0 []) t=if t.kind=1 then (wsD t.words w t.words).bind fun a=> (Z11 false t.kids ks t.kids).map fun b=> .mk 1 a b else none:=ZJE rfl t
theorem ZU{e:Edit}(h:YI e):rng e.old/\rng e.new/\(∀ x∈e.words,Z28 x)/\Z1l e.kids/\Z0Q e.ops:=by
 obtain ⟨k,o,n,w,ks,l,os⟩:=e
 exact ⟨h.2.1,h.2.2.1,h.2.2.2.1,h.2.2.2.2.2.1,h.2.2.2.2.2.2⟩
end Go.AM.YtfapacabjkhepaaGreat
