import Derived.Test.YtpjenobkibfpcaaGreatZKL22m
set_option linter.unusedSimpArgs false
set_option linter.unusedVariables false
namespace Go.AM.YtpjenobkibfpcaaGreat
open Go.AM Go.Proofs
theorem Z5K(e:Edit):(Zp e).kind=e.kind:=by
 rw [Z4U]
 split
 .try rfl
 .split
  .try rfl
  .split <;> rfl
theorem Zcf(e:Edit)(h:e.kind=1):(Zp e).old=Z6 e.old/\(Zp e).new=Z6 e.new:=by
 rw [Z4U,if_pos h]
 simp_all
theorem Zph{D list:Int}{t:Tree}(hD:D≠0)(h:Zr (.mk list [] [t]) D=true):Zr (.mk list [] [Z6 t]) D=true:=by
 have s:=fun (k d:Int) (h:J4 k [t] d=true)=> Z7D [t] k d h
 simp only [J2] at s
 simp only [Zr] at h ⊢
 grind
theorem Z55{D list:Int}(hD:D≠0):∀ {l:List Tree},J7 D list l=true->J7 D list (Z8 l)=true
 | [],_=> rfl
 | t ::r,h=> by
  simp only [J7,Q2] at h
  have d:=Z55 hD h.2
  simp only [Z8] at d
  simp only [Z8,Qm,J7,Q2]
  exact ⟨Zph hD h.1,d⟩
theorem Z7q{D list:Int}:∀ {a b:List Tree},J7 D list a=true->J7 D list b=true->J7 D list (a++b)=true
 | [],_,_,h=> h
 | t ::r,b,h,h2=> by
  simp only [J7,Q2] at h
  simp only [Qj,J7,Q2]
  exact ⟨h.1,Z7q h.2 h2⟩
def rOp(list:Int)(d:Int)(o:Op):Prop:=(o.kind=0->1<=o.n/\o.l.length=0/\Z36 o.e=true)/\(o.kind≠0->Za list o d=true)
theorem J8{list d:Int}{o:Op}(h:Za list o d=true):rOp list d o:=by
 refine ⟨fun s=> ?_,fun _=> h⟩
 obtain ⟨k,n,l,e⟩:=o
 simp only at s
 subst s
 simp only [Za,if_true,Q2,decide_eq_true_eq] at h
 grind
theorem ZFZ{list d:Int}{o:Op}(h:rOp list d o)(hn:o.kind=0->o.n<=1048576):Za list o d=true:=by
 by_cases hk:o.kind=0
 .have h1:=h.1 hk
  have s:=hn hk
  obtain ⟨k,n,l,e⟩:=o
  simp only at hk h1 s
  subst hk
  simp only [Za,if_true,Q2,decide_eq_true_eq]
  grind
 .exact h.2 hk
theorem Yx{list:Int}:∀ {os:List Op} {d:Int},ZA list os d=true↔∀ o∈os,Za list o d=true
 | [],d=> by simp [ZA]
 | o ::r,d=> by
  simp only [ZA,Q2,Qa,forall_eq_or_imp]
  rw [Yx (os:=r)]
theorem Z48:Z36 Edit.nil=true:=rfl
structure OkW (list d:Int) (w:Wst):Prop where
 out:∀ o∈w.out,rOp list d o
 gone:J7 (dT d) list w.gone=true
 brought:J7 (dT d) list w.brought=true
theorem ZdZ{list d:Int}{w:Wst}(h:OkW list d w):OkW list d (Zb w):=by
 refine ⟨?_,rfl,rfl⟩
 simp only [Zb,JZ]
 intro o s
 rcases Qg.1 s with s | s
 .exact h.out o s
 rcases Qg.1 s with s | s
 .split at s
  .cases s
  .rename_i hl
   simp only [Qe] at s
   subst s
   refine ⟨fun hk=> (by cases hk),fun _=> ?_⟩
   simp only [Za]
   rw [if_neg V3,if_neg V3,if_pos V3,h.gone,Z48]
   grind
 .split at s
  .cases s
  .rename_i hl
   simp only [Qe] at s
   subst s
   refine ⟨fun hk=> (by cases hk),fun _=> ?_⟩
   simp only [Za]
   rw [if_neg V3,if_neg V3,if_pos V3,h.brought,Z48]
   grind
theorem ZnJ{list d:Int}{w:Wst}{n:Int}(h:OkW list d w)(hn:1<=n):OkW list d (Y2 w n):=by
 have hf:=ZdZ h
 refine ⟨?_,rfl,rfl⟩
 simp only [Y2]
 intro o s
 rcases Jq (Zb w).out n with e | ⟨a,q,e1,e2,e3⟩
 .rw [e] at s
  rcases Qg.1 s with s | s
  .exact hf.out o s
  .simp only [Qe] at s
   subst s
   exact ⟨fun _=> ⟨hn,rfl,Z48⟩,fun hk=> absurd rfl hk⟩
 .rw [e3] at s
  rcases Qg.1 s with s | s
  .exact hf.out o (by grind)
  .simp only [Qe] at s
   subst s
   have hq:=(hf.out q (by rw [e1];simp)).1 e2
   exact ⟨fun _=> ⟨by grind,hq.2⟩,fun hk=> absurd e2 hk⟩
theorem ZG6{list d:Int}{w:Wst}{o:Op}(h:OkW list d w)(hr:Za list o d=true)(hi:Z1 o.e d=true->Z1 (Zp o.e) d=true):OkW list d (Z04 list o w):=by
 obtain ⟨k,n,l,e⟩:=o
 have ae:=hr
 rw [Za] at hr
 rw [YV]
 simp only at hi ⊢
 split at hr
 .rename_i hk
  rw [if_pos hk]
  simp only [Q2,decide_eq_true_eq] at hr
  exact ZnJ h hr.1.1
 .rename_i hk
  rw [if_neg hk]
  split at hr
  .cases hr
  .rename_i hn
   split at hr
   .rename_i h3
    simp only [Q2,decide_eq_true_eq] at hr
    by_cases k1:k=1
    .rw [if_pos k1]
     exact ⟨h.out,Z7q h.gone (Z55 (ZFi d) hr.1.1),h.brought⟩
    .rw [if_neg k1,V0]
     exact ⟨h.out,h.gone,Z7q h.brought (Z55 (ZFi d) hr.1.1)⟩
   .rename_i h3
    rw [Jv,Jv,V0]
    split
    .exact ZnJ h V3
    .have hf:=ZdZ h
     refine ⟨?_,rfl,rfl⟩
     intro o s
     rcases Qg.1 s with s | s
     .exact hf.out o s
     .simp only [Qe] at s
      subst s
      refine ⟨fun hk=> (by cases hk),fun _=> ?_⟩
      simp only [Q2,decide_eq_true_eq] at hr
      simp only [Za]
      rw [if_neg V3,if_neg V3,if_neg V3,Z5K,hi hr.1.2]
      simp only [Xf,Q2,decide_eq_true_eq]
      refine ⟨⟨rfl,hr.1.1.2⟩,?_⟩
      rcases hr.2 with h | h | h
      .exact Or.inl h
      .omega
      .rw [(Zcf e h.1).1,(Zcf e h.1).2,Z3L,Z3L]
       omega
def YL:List Op->Int
 | []=> 0
 | o ::r=> (if o.kind=2 then 0 else Z2 o)+YL r
def JY:List Op->Int
 | []=> 0
 | o ::r=> (if o.kind=1 then 0 else Z2 o)+JY r
theorem Z5v:∀ (a b:List Op),YL (a++b)=YL a+YL b
 | [],b=> by simp [YL]
 | o ::r,b=> by simp only [Qj,YL,Z5v r b];omega
theorem Z5u:∀ (a b:List Op),JY (a++b)=JY a+JY b
 | [],b=> by simp [JY]
 | o ::r,b=> by simp only [Qj,JY,Z5u r b];omega
theorem Yt:∀ (l:List Op) (n:Int),(∀ o∈l,0<=Z2 o)->0<=n->n<=1048576->Jp l n=min (n+YL l) 1048576/\0<=YL l
 | [],n,_,h1,h2=> by simp only [Jp,YL];omega
 | o ::r,n,h,h1,h2=> by
  have ho:=h o (Q1 ..)
  simp only [Jp,YL]
  have d:0<=(if o.kind=2 then n else n+Z2 o)/\(if o.kind=2 then n else n+Z2 o)=n+(if o.kind=2 then 0 else Z2 o):=by split <;> omega
  have s:0<=(if o.kind=2 then 0 else Z2 o):=by split <;> omega
  rw [d.2]
  rw [d.2] at d
  generalize (if o.kind=2 then 0 else Z2 o)=y at*
  obtain ⟨e1,e2⟩:=Yt r (min (n+y) 1048576) (fun x d=> h x (Q0 _ d)) V1 V1
  omega
theorem Jo:∀ (l:List Op) (n:Int),(∀ o∈l,0<=Z2 o)->0<=n->n<=1048576->Z11 l n=min (n+JY l) 1048576/\0<=JY l
 | [],n,_,h1,h2=> by simp only [Z11,JY];omega
 | o ::r,n,h,h1,h2=> by
  have ho:=h o (Q1 ..)
  simp only [Z11,JY]
  have d:0<=(if o.kind=1 then n else n+Z2 o)/\(if o.kind=1 then n else n+Z2 o)=n+(if o.kind=1 then 0 else Z2 o):=by split <;> omega
  have s:0<=(if o.kind=1 then 0 else Z2 o):=by split <;> omega
  rw [d.2]
  rw [d.2] at d
  generalize (if o.kind=1 then 0 else Z2 o)=y at*
  obtain ⟨e1,e2⟩:=Jo r (min (n+y) 1048576) (fun x d=> h x (Q0 _ d)) V1 V1
  omega
theorem Yb{list d:Int}{o:Op}(h:rOp list d o):0<=Z2 o:=by
 unfold Z2
 split
 .decide
 .by_cases hk:o.kind=0
  .have:=(h.1 hk).1;omega
  .have s:=h.2 hk
   obtain ⟨k,n,l,e⟩:=o
   simp only at hk ⊢
   rw [Za,if_neg hk] at s
   grind
theorem ZmY:∀ {l:List Op} {o:Op},(∀ o∈l,0<=Z2 o)->o∈l->o.kind≠2->Z2 o<=YL l
 | a ::r,o,h,ho,hk=> by
  have s:=(Yt r 0 (fun x d=> h x (Q0 _ d)) V3 V3).2
  have ha:=h a (Q1 ..)
  simp only [YL]
  rcases Qa.1 ho with rfl | ho
  .omega
  .have:=ZmY (fun x d=> h x (Q0 _ d)) ho hk
   omega
def sA(w:Wst):Int:=YL w.out+w.gone.length
def sB(w:Wst):Int:=JY w.out+w.brought.length
theorem Z8y(w:Wst):YL (Zb w).out=sA w/\JY (Zb w).out=sB w:=by
 simp only [Zb,JZ,sA,sB,Z5v,Z5u]
 constructor
 .by_cases hg:w.gone.length=0
  .rw [if_pos hg]
   by_cases hb:w.brought.length=0
   .rw [if_pos hb];simp [YL];omega
   .rw [if_neg hb];simp [YL];omega
  .rw [if_neg hg]
   by_cases hb:w.brought.length=0
   .rw [if_pos hb];simp [YL,Z2]
   .rw [if_neg hb];simp [YL,Z2]
 .by_cases hg:w.gone.length=0
  .rw [if_pos hg]
   by_cases hb:w.brought.length=0
   .rw [if_pos hb];simp [JY];omega
   .rw [if_neg hb];simp [JY,Z2]
  .rw [if_neg hg]
   by_cases hb:w.brought.length=0
   .rw [if_pos hb];simp [JY];omega
   .rw [if_neg hb];simp [JY,Z2]
theorem ZmW(w:Wst)(n:Int):sA (Y2 w n)=sA w+n/\sB (Y2 w n)=sB w+n:=by
 have hf:=Z8y w
 simp only [Y2]
 have e1:∀ x,sA ⟨x,[],[]⟩=YL x:=fun x=> by simp [sA]
 have e2:∀ x,sB ⟨x,[],[]⟩=JY x:=fun x=> by simp [sB]
 rw [e1,e2,<-hf.1,<-hf.2]
 rcases Jq (Zb w).out n with e | ⟨a,q,e1,e2,e3⟩
 .rw [e,Z5v,Z5u]
  simp [YL,JY,Z2]
 .rw [e3,e1,Z5v,Z5u,Z5v,Z5u]
  simp only [YL,JY,Z2,e2]
  simp
  omega
theorem ZFU{list d:Int}{w:Wst}{o:Op}(hr:Za list o d=true):sA (Z04 list o w)=sA w+(if o.kind=2 then 0 else Z2 o)/\sB (Z04 list o w)=sB w+(if o.kind=1 then 0 else Z2 o):=by
 have hl:∀ l,((Z8 l).length:Int)=l.length:=fun l=> by simp [Z8]
 obtain ⟨k,n,l,e⟩:=o
 rw [Za] at hr
 rw [YV]
 simp only [Z2]
 split at hr
 .rename_i h
  subst h
  rw [if_pos rfl]
  simp only [Q2,decide_eq_true_eq] at hr
  have:=ZmW w n
  simp
  omega
 .rename_i h
  rw [if_neg h]
  split at hr
  .cases hr
  .rename_i hn
   split at hr
   .rename_i s
    by_cases k1:k=1
    .subst k1
     rw [if_pos rfl]
     simp only [sA,sB,Q7]
     grind
    .have k2:k=2:=V1
     subst k2
     rw [if_neg k1,if_pos rfl]
     simp only [sA,sB,Q7]
     grind
   .rename_i s
    have k3:k=3:=V1
    subst k3
    rw [Jv,Jv,if_pos rfl]
    split
    .have:=ZmW w 1
     omega
    .have:=Z8y w
     simp only [sA,sB,Z5v,Z5u,YL,JY,Z2] at this ⊢
     grind
mutual
theorem Jy:∀ (e:Edit) (d:Int),Z1 e d=true->Z1 (Zp e) d=true
 | .mk k o n w ks l os,d,h=> by
  have h1:=ZeO ks
  have h2:=Zse l os
  have h4:=ZkM l os
  rw [Z1] at h
  split at h
  .cases h
  .rename_i a
   split at h
   .cases h
   .rename_i b
    have nn:Z0r Tree.nil=true:=rfl
    by_cases k1:k=1
    .subst k1
     rw [if_pos rfl] at h
     have hl:l=0:=by
      apply Xi
      intro hl
      exact b (.inr (.inr ⟨V3,.inl hl⟩))
     simp only [Q2,decide_eq_true_eq] at h
     rw [Zp,if_pos rfl,Z1,if_neg a,if_neg (by simp [hl]),if_pos rfl]
     simp only [Q2,decide_eq_true_eq]
     rw [Z3L,Z3L]
     exact ⟨⟨Z4O _ _ h.1.1,Z4O _ _ h.1.2⟩,h.2⟩
    .rw [if_neg k1] at h
     simp only [Q2,decide_eq_true_eq] at h
     obtain ⟨⟨⟨⟨x1,x2⟩,x3⟩,x4⟩,x5⟩:=h
     rw [Zp,if_neg k1]
     by_cases k2:k=2
     .have hl:l=0:=by
       apply Xi
       intro hl
       exact b (.inr (.inr ⟨V1,.inl hl⟩))
      rw [if_pos k2,Z1,if_neg a,if_neg (by grind),if_neg k1]
      grind
     .rw [if_neg k2]
      by_cases k3:k=3
      .rw [if_pos k3,Z1,if_neg a,if_neg (by simp [nn,k3]),if_neg k1]
       simp only [Q2,decide_eq_true_eq]
       have ab:=Yx.1 x4
       obtain ⟨y1,y2⟩:=Yt os 0 (fun o s=> Yb (J8 (ab o s))) V3 V3
       obtain ⟨z1,z2⟩:=Jo os 0 (fun o s=> Yb (J8 (ab o s))) V3 V3
       have hw:=h2 (d - 1) W0 x4 ⟨fun o s=> (by cases s),rfl,rfl⟩
       have hs:=h4 (d - 1) W0 x4
       have aa:=ZdZ hw
       have al:=Z8y (Zv l os W0)
       have e0:sA W0=0/\sB W0=0:=⟨rfl,rfl⟩
       have hA:=Yt (Zb (Zv l os W0)).out 0 (fun o s=> Yb (aa.out o s)) V3 V3
       have hB:=Jo (Zb (Zv l os W0)).out 0 (fun o s=> Yb (aa.out o s)) V3 V3
       refine ⟨⟨⟨⟨rfl,rfl⟩,x3⟩,Yx.2 (fun o s=> ZFZ (aa.out o s) (fun hk=> ?_))⟩,?_,?_⟩
       .have hm:=ZmY (fun o s=> Yb (aa.out o s)) s V1
        unfold Z2 at hm
        omega
       .show Jp (Zb (Zv l os W0)).out 0 < 1048576
        omega
       .show Z11 (Zb (Zv l os W0)).out 0 < 1048576
        omega
      .have hl:l=0:=by
        apply Xi
        intro hl
        exact b (.inr (.inr ⟨k3,.inl hl⟩))
       rw [if_neg k3,Z1,if_neg a,if_neg (by simp [nn,hl]),if_neg k1]
       grind
theorem ZeO:∀ (ks:List (KidOf Edit)) (last d:Int),ZC last ks d=true->ZC last (YR ks) d=true
 | [],_,_,_=> rfl
 | k ::r,last,d,h=> by
  simp only [ZC,Q2] at h
  have s:=Zl1 k last d h.1
  have h2:=ZeO r k.at_ d h.2
  simp only [YR,ZC,Q2]
  exact ⟨s,by rw [Ze2];exact h2⟩
theorem Zl1:∀ (k:KidOf Edit) (last d:Int),JA last k d=true->JA last (Z0X k) d=true
 | ⟨a,e⟩,last,d,h=> by
  simp only [JA,Q2] at h
  have s:=Jy e d h.2
  simp only [Z0X,JA,Q2]
  rw [Z5K]
  grind
theorem Zse(list:Int):∀ (os:List (OpOf Edit)) (d:Int) (w:Wst),ZA list os d=true->OkW list d w->OkW list d (Zv list os w)
 | [],_,_,_,hw=> hw
 | o ::r,d,w,h,hw=> by
  simp only [ZA,Q2] at h
  have s:=ZuV list o d w h.1 hw
  exact Zse list r d _ h.2 s
theorem ZuV(list:Int):∀ (o:OpOf Edit) (d:Int) (w:Wst),Za list o d=true->OkW list d w->OkW list d (Z04 list o w)
 | ⟨k,n,l,e⟩,d,w,h,hw=> ZG6 (o:=⟨k,n,l,e⟩) hw h (fun s=> Jy e d s)
theorem ZkM(list:Int):∀ (os:List (OpOf Edit)) (d:Int) (w:Wst),ZA list os d=true->sA (Zv list os w)=sA w+YL os/\sB (Zv list os w)=sB w+JY os
 | [],_,_,_=> by simp [Zv,YL,JY]
 | o ::r,d,w,h=> by
  simp only [ZA,Q2] at h
  have s:=ZFU (w:=w) h.1
  have h2:=ZkM list r d (Z04 list o w) h.2
  simp only [Zv,YL,JY]
  omega
end
theorem Z7A:∀ {a b:List Tree},J6 (a++b)↔J6 a/\J6 b
 | [],b=> by simp [J6]
 | t ::r,b=> by simp only [Qj,J6];rw [Z7A (a:=r),and_assoc]
mutual
theorem Z29:∀ (t:Tree),rng t->rng (Z6 t)
 | .mk k w ks,h=> by
  simp only [rng] at h
  obtain ⟨h1,s,h3⟩:=h
  have d:=Zjx ks h3
  simp only [Z6]
  split
  .trivial
  .split
   .obtain ⟨r1,e1⟩:=Zgr w
    obtain ⟨r2,e2⟩:=Zdp (J2 ks)
    simp only [rng]
    refine ⟨V3,fun x hx=> s x (by grind),?_⟩
    rw [e2] at d
    exact (Z7A.1 d).1
   trivial
theorem Zjx:∀ (l:List Tree),J6 l->J6 (J2 l)
 | [],_=> trivial
 | t ::r,h=> by
  simp only [J6] at h
  have d:=Z29 t h.1
  have s:=Zjx r h.2
  trivial
end
theorem ZaE:∀ {l:List Tree},J6 l->J6 (Z8 l)
 | [],_=> trivial
 | t ::r,h=> by
  simp only [J6] at h
  have d:=ZaE h.2
  simp only [Z8] at d
  simp only [Z8,Qm,J6]
  exact ⟨Z29 t h.1,d⟩
theorem Z5B:rng Tree.nil:=by
 trivial
mutual
theorem Z5C:∀ (e:Edit),ZX e->ZX (Zt e)
 | .mk k o n w ks l os,h=> by
  simp only [ZX] at h
  obtain ⟨h1,d,h3,h4,h5,h6,h7⟩:=h
  have s:=Zh5 ks h6
  have i7:=Zh3 os h7
  simp only [Zt,ZX]
  refine ⟨h1,h3,d,fun x hx=> ?_,h5,s,i7⟩
  obtain ⟨y,hy,rfl⟩:=Qy.1 hx
  have:=h4 y hy
  simp only [Z2a,Jc] at this ⊢
  grind
theorem Zh5:∀ (ks:List (KidOf Edit)),Z1r ks->Z1r (Yv ks)
 | [],_=> trivial
 | k ::r,h=> by
  simp only [Z1r] at h
  have d:=Znd k h.1
  have s:=Zh5 r h.2
  trivial
theorem Znd:∀ (k:KidOf Edit),Z2b k->Z2b (Jr k)
 | ⟨a,e⟩,h=> by
  simp only [Z2b] at h
  have d:=Z5C e h.2
  simp only [Jr,Z2b]
  grind
theorem Zh3:∀ (os:List (OpOf Edit)),Z0D os->Z0D (YC os)
 | [],_=> trivial
 | o ::r,h=> by
  simp only [Z0D] at h
  have d:=Zpc o h.1
  have s:=Zh3 r h.2
  trivial
theorem Zpc:∀ (o:OpOf Edit),YH o->YH (Yu o)
 | ⟨k,n,l,e⟩,h=> by
  simp only [YH] at h
  have d:=Z5C e h.2.2.2
  simp only [Yu]
  split
  .simp only [YH];exact ⟨by trivial,h.2⟩
  .split
   .simp only [YH];exact ⟨by trivial,h.2⟩
   .split
    .simp only [YH];grind
    trivial
end
structure RngW (w:Wst):Prop where
 out:∀ o∈w.out,J6 o.l/\ZX o.e
 gone:J6 w.gone
 brought:J6 w.brought
theorem Z8O:ZX Edit.nil:=by
 simp only [Edit.nil,ZX,Z1r,Z0D]
 exact ⟨by trivial,Z5B,Z5B,by simp,by trivial,trivial,trivial⟩
theorem ZaD{w:Wst}(h:RngW w):RngW (Zb w):=by
 refine ⟨?_,trivial,trivial⟩
 simp only [Zb,JZ]
 intro o d
 rcases Qg.1 d with d | d
 .exact h.out o d
 rcases Qg.1 d with d | d
 .split at d
  .cases d
  .simp only [Qe] at d
   subst d
   exact ⟨h.gone,Z8O⟩
 .split at d
  .cases d
  .simp only [Qe] at d
   subst d
   exact ⟨h.brought,Z8O⟩
theorem Zju{w:Wst}{n:Int}(h:RngW w):RngW (Y2 w n):=by
 have hf:=ZaD h
 refine ⟨?_,trivial,trivial⟩
 simp only [Y2]
 intro o d
 rcases Jq (Zb w).out n with e | ⟨a,q,e1,e2,e3⟩
 .rw [e] at d
  rcases Qg.1 d with d | d
  .exact hf.out o d
  .simp only [Qe] at d
   subst d
   exact ⟨trivial,Z8O⟩
 .rw [e3] at d
  rcases Qg.1 d with d | d
  .exact hf.out o (by grind)
  .simp only [Qe] at d
   subst d
   exact hf.out q (by rw [e1];simp)
theorem ZrH{list:Int}{w:Wst}{o:Op}(h:RngW w)(hl:J6 o.l)(he:ZX (Zp o.e)):RngW (Z04 list o w):=by
 rw [YV]
 split
 .exact Zju h
 .split
  .exact ⟨h.out,Z7A.2 ⟨h.gone,ZaE hl⟩,h.brought⟩
  .split
   .exact ⟨h.out,h.gone,Z7A.2 ⟨h.brought,ZaE hl⟩⟩
   .split
    .split
     .exact Zju h
     .refine ⟨?_,trivial,trivial⟩
      intro o d
      rcases Qg.1 d with d | d
      .exact (ZaD h).out o d
      .simp only [Qe] at d
       subst d
       trivial
    .exact h
theorem ZeL:∀ {os:List Op},(∀ o∈os,YH o)->Z0D os
 | [],_=> trivial
 | o ::r,h=> by
  simp only [Z0D]
  exact ⟨h o (Q1 ..),ZeL (fun x d=> h x (Q0 _ d))⟩
theorem Znh{list d:Int}{o:Op}(h:Za list o d=true)(hl:J6 o.l)(he:ZX o.e):YH o:=by
 have s:=Z5D h
 obtain ⟨k,n,l,e⟩:=o
 simp only at s hl he
 simp only [YH]
 refine ⟨?_,V5,hl,he⟩
 rw [Za] at h
 unfold InR
 grind
mutual
theorem Z16:∀ (e:Edit) (d:Int),Z1 e d=true->ZX e->ZX (Zp e)
 | .mk k o n w ks l os,d,hr,h=> by
  have aa:=Z5E hr
  have s:=Z5E (Jy _ _ hr)
  simp only [Edit.kids_mk,Edit.ops_mk,Edit.list_mk] at aa
  simp only [ZX] at h
  obtain ⟨h1,h2,h3,h4,h5,h6,h7⟩:=h
  have i6:=Zjw ks (d - 1) (fun k hk=> (aa.1 k hk).1) h6
  have i7:=Zjv l os (d - 1) aa.2 h7 W0 ⟨fun o ho=> (by cases ho),trivial,trivial⟩
  rw [Zp] at s ⊢
  by_cases k1:k=1
  .rw [if_pos k1]
   simp only [ZX]
   exact ⟨h1,Z29 o h2,Z29 n h3,by simp,h5,trivial,trivial⟩
  .rw [if_neg k1] at s ⊢
   by_cases k2:k=2
   .rw [if_pos k2]
    trivial
   .rw [if_neg k2] at s ⊢
    by_cases k3:k=3
    .rw [if_pos k3] at s ⊢
     simp only [ZX]
     refine ⟨h1,Z5B,Z5B,by simp,h5,trivial,ZeL (fun q hq=> ?_)⟩
     have hx:=s.2 q hq
     have hy:=(ZaD i7).out q hq
     exact Znh hx hy.1 hy.2
    .rw [if_neg k3]
     simp only [ZX]
     exact ⟨h1,Z5B,Z5B,by simp,h5,trivial,trivial⟩
theorem Zjw:∀ (ks:List (KidOf Edit)) (d:Int),(∀ k∈ks,Z1 k.e d=true)->Z1r ks->Z1r (YR ks)
 | [],_,_,_=> trivial
 | k ::r,d,hr,h=> by
  simp only [Z1r] at h
  have h1:=Zpd k d (hr k (Q1 ..)) h.1
  have h2:=Zjw r d (fun x s=> hr x (Q0 _ s)) h.2
  trivial
theorem Zpd:∀ (k:KidOf Edit) (d:Int),Z1 k.e d=true->Z2b k->Z2b (Z0X k)
 | ⟨a,e⟩,d,hr,h=> by
  simp only [Z2b] at h
  have s:=Z16 e d hr h.2
  simp only [Z0X,Z2b]
  grind
theorem Zjv(list:Int):∀ (os:List (OpOf Edit)) (d:Int),(∀ o∈os,Za list o d=true)->Z0D os->∀ (w:Wst),RngW w->RngW (Zv list os w)
 | [],_,_,_,w,hw=> hw
 | o ::r,d,hr,h,w,hw=> by
  simp only [Z0D] at h
  have s:=ZuD list o d (hr o (Q1 ..)) h.1 w hw
  exact Zjv list r d (fun x hx=> hr x (Q0 _ hx)) h.2 _ s
theorem ZuD(list:Int):∀ (o:OpOf Edit) (d:Int),Za list o d=true->YH o->∀ (w:Wst),RngW w->RngW (Z04 list o w)
 | ⟨k,n,l,e⟩,d,hr,h,w,hw=> by
  simp only [YH] at h
  by_cases k3:k=3
  .have he:Z1 e d=true:=by
    rw [Za,Jv,] at hr
    split at hr
    .cases hr
    .grind
   exact ZrH (o:=⟨k,n,l,e⟩) hw h.2.2.1 (Z16 e d he h.2.2.2)
  .have s:ZX (Zp Edit.nil):=by
    show ZX (.mk 0 Tree.nil Tree.nil [] [] 0 [])
    exact Z8O
   have e2:Z04 list ⟨k,n,l,e⟩ w=Z04 list ⟨k,n,l,Edit.nil⟩ w:=by
    simp only [Z04]
    grind
   rw [e2]
   exact ZrH (o:=⟨k,n,l,Edit.nil⟩) hw h.2.2.1 s
end
theorem ZpX(t:Tree):t.words.length+Ze t.kids+1=Zq t:=by obtain ⟨k,w,ks⟩:=t;simp only [Zq,Tree.words_mk,Tree.kids_mk];omega
theorem Zk1:∀ (l:List Tree) (i:Nat) (x:Tree),i < l.length->Ze (l.set i x)+Zq (l.getD i Tree.nil)=Ze l+Zq x
 | [],i,x,h=> by simp at h
 | a ::r,0,x,_=> by simp only [List.set_cons_zero,Ze,Qr];omega
 | a ::r,i+1,x,h=> by
  have:=Zk1 r i x (by simpa using h)
  simp only [List.set_cons_succ,Ze,List.getD_cons_succ];omega
theorem ZpY(n:Nat):Ze (List.replicate n Tree.nil)=n:=by
 induction n with
 | zero=> rfl
 | succ n ih=> rw [Xz,Ze,ih];simp [Tree.nil,Zq,Ze];omega
theorem JP:∀ (a b:List Tree),Ze (a++b)=Ze a+Ze b
 | [],b=> by simp [Ze]
 | t ::r,b=> by simp only [Qj,Ze,JP r b];omega
theorem Zv8(l:List Tree)(i:Nat)(x:Tree):Ze (ZP Tree.nil l i x)+Zq (l.getD i Tree.nil)<=Ze l+Zq x+(i+1):=by
 have h:=Zk1 (l++List.replicate (i+1 - l.length) Tree.nil) i x (by simp;omega)
 have e:(l++List.replicate (i+1 - l.length) Tree.nil).getD i Tree.nil=l.getD i Tree.nil:=by
  by_cases hi:i < l.length
  .simp only [Qp];rw [X7 hi]
  .simp only [Qp]
   rw [QB V1,QK (l:=l) V1,List.getElem?_replicate]
   split <;> rfl
 rw [e,JP,ZpY] at h
 simp only [ZP]
 omega
theorem ZkD{tw:List Int}:∀ {ws:List WEdit} {last:Int} {out a:List Int},ZM last ws=true->wsD tw ws out=some a->a.length<=max out.length 65535
 | [],_,out,a,_,h=> by rw [wsD] at h;cases h;omega
 | w ::r,last,out,a,hw,h=> by
  have d:=Yj hw w Q1
  simp only [ZM,Q2] at hw
  rw [wsD] at h
  split at h
  .have:=ZkD hw.2 h
   rw [Z1q] at this
   omega
  .cases h
theorem Z17{last d:Int}{k:Kid}{r:List Kid}(h:ZC last (k ::r) d=true):(last < k.at_/\k.at_<=65534)/\Z1 k.e d=true/\ZC k.at_ r d=true:=by
 have:=Zk h k Q1
 simp only [ZC,Q2] at h
 grind
theorem Zw6{tw:List Int}{ws:List WEdit}{last:Int}{out a:List Int}(hw:ZM last ws=true)(h:wsD tw ws out=some a):a.length<=out.length+65600*ws.length:=by
 cases ws with
 | nil=> rw [wsD] at h;cases h;omega
 | cons w r=>
  have:=ZkD hw h
  grind
theorem ZhN(r:Bool)(v:Tree):Zq (nrD r v)<=Zq v:=by
 unfold nrD
 split
 .exact Y5 v
 omega
mutual
theorem Zcu(r:Bool):∀ (e:Edit) (d:Int) (t v:Tree),Z1 e d=true->ZdI r e t=some v->Zq v+18<=Zq t+ctE e
 | .mk k o n w ks l os,d,t,v,hr,hv=> by
  have s:=Zd hr
  have h1:=Zk0 r ks t.kids
  have h2:=ZjZ r l os
  have ht:=ZpX t
  have po:=Y9 o
  have pn:=Y9 n
  have pt:=Y9 t
  unfold ZdI at hv
  simp only [ctE]
  split at hv
  .grind
  .split at hv
   .split at hv
    .cases hv
     show Zq n+18<=_
     omega
    .cases hv
   .split at hv
    .split at hv
     .obtain ⟨a,ha,h⟩:=Qn.1 hv
      obtain ⟨b,h,e⟩:=Qd.1 h
      have l1:=Zw6 s.words ha
      simp only [Edit.words_mk] at l1
      have l2:=h1 t.kids b _ (-1) V1 s.kids (fun j _=> rfl) h
      rw [<-e]
      simp only [Zq]
      omega
     .cases hv
    .split at hv
     .split at hv
      .obtain ⟨b,h,e⟩:=Qd.1 hv
       unfold Z0H at h
       obtain ⟨x,hx,hy⟩:=Qn.1 h
       have l2:=h2 _ t.kids [] x (fun o ho=> Go.AM.rightOs_mem s.ops o ho) hx
       split at hy
       .cases hy
        rw [<-e]
        simp only [Zq,Qh]
        grind
       .cases hy
      .cases hv
     .cases hv
theorem Zk0(r:Bool):∀ (ks:List (KidOf Edit)) (tk out b:List Tree) (d last:Int),-1<=last->ZC last ks d=true->(∀ j:Nat,last < (j:Int)->out.getD j Tree.nil=tk.getD j Tree.nil)->JC r tk ks out=some b->Ze b<=Ze out+Z08 ks
 | [],tk,out,b,d,last,_,_,_,h=> by rw [JC] at h;cases h;simp
 | k ::s,tk,out,b,d,last,hl,hr,hj,h=> by
  obtain ⟨h1,h2,h3⟩:=Z17 hr
  rw [JC] at h
  obtain ⟨u,hu,hb⟩:=Qn.1 h
  have m1:=ZpV r k tk u d h2 hu
  have m2:=Zv8 out k.at_.toNat u
  rw [hj k.at_.toNat V1] at m2
  have m3:=Zk0 r s tk _ b d k.at_ V1 h3 (fun j aa=> by
   rw [Yw,Jv]
   grind) hb
  have m4:k.at_.toNat+1<=65600:=V1
  have e1:Z08 (k ::s)=65600+ctE k.e+Z08 s:=by obtain ⟨a,e⟩:=k;rfl
  omega
theorem ZpV(r:Bool):∀ (k:KidOf Edit) (tk:List Tree) (u:Tree) (d:Int),Z1 k.e d=true->Z0L r tk k=some u->Zq u+18<=Zq (tk.getD k.at_.toNat Tree.nil)+ctE k.e
 | ⟨a,e⟩,tk,u,d,hr,h=> by
  rw [Z0L,Z51] at h
  obtain ⟨v,s,hu⟩:=Qd.1 h
  have:=Zcu r e d (tk.getD a.toNat Tree.nil) v hr s
  have aa:=ZhN r v
  grind
theorem ZjZ(r:Bool)(l:Int):∀ (os:List (OpOf Edit)) (d:Int) (rest out:List Tree) (x:List Tree × List Tree),(∀ o∈os,Za l o d=true)->ZE r os rest out=some x->Ze x.1+Ze x.2<=Ze out+Ze rest+YF os
 | [],d,rest,out,x,_,h=> by rw [ZE] at h;cases h;simp
 | o ::s,d,rest,out,x,hr,h=> by
  rw [ZE] at h
  obtain ⟨y,hy,hx⟩:=Qn.1 h
  have m1:=Zv4 r l o d rest out y (hr o Q1) hy
  have m2:=ZjZ r l s d _ _ x (fun q hq=> hr q (Q0 _ hq)) hx
  rw [YF]
  omega
theorem Zv4(r:Bool)(l:Int):∀ (o:OpOf Edit) (d:Int) (rest out:List Tree) (x:List Tree × List Tree),Za l o d=true->Z2j r o rest out=some x->Ze x.1+Ze x.2<=Ze out+Ze rest+Z1x o
 | ⟨k,n,L,e⟩,d,rest,out,x,hr,h=> by
  have he:=Zcu r e d (rest.getD 0 Tree.nil)
  rw [Z2j] at h
  simp only [Z1x]
  split at h
  .split at h
   .cases h
    have:=JP (rest.take n.toNat) (rest.drop n.toNat)
    rw [QI] at this
    dsimp only
    rw [JP];omega
   .cases h
  .split at h
   .split at h
    .cases h
     have:=Z4t L.length rest
     grind
    .cases h
   .split at h
    .cases h
     dsimp only
     rw [JP];omega
    .split at h
     .cases h
     .obtain ⟨u,s,e2⟩:=Qd.1 h
      cases e2
      have hk:k=3:=by
       have ra:=Zu hr
       generalize ho:OpOf.mk k n L e=o at ra
       cases ra <;> (injection ho with h1;try omega)
      rw [Z51] at s
      obtain ⟨v,hv,s⟩:=Qd.1 s
      have:=he v (Ye hr hk) hv
      have aa:=ZhN r v
      rw [s] at aa
      cases rest with
      | nil=> contradiction
      | cons a q=>
       rw [JP]
       simp only [Ze,QC,QZ,Qr] at this ⊢
       omega
end
theorem Z3r(r:Bool)(e:Edit)(d:Int)(t u:Tree)(hr:Z1 e d=true)(h:doE r e t=some u):Zq u+18<=Zq t+ctE e:=by
 rw [Z51] at h
 obtain ⟨v,s,hu⟩:=Qd.1 h
 have:=Zcu r e d t v hr s
 have aa:=ZhN r v
 grind
theorem ZG7{f:Nat->Int}(h:∀ i,0<=f i/\f i < 256):isW (of8 f):=by
 have h0:=h 0;have h1:=h 1;have d:=h 2;have s:=h 3;have h4:=h 4;have h5:=h 5;have h6:=h 6;have h7:=h 7
 unfold isW of8
 omega
theorem Z1J(a b m:Int):isW (mix a b m):=ZG7 (Z80 a b m)
theorem Z6A{l:List Tree}(h:∀ t∈l,rng t):J6 l:=by
 induction l with
 | nil=> exact trivial
 | cons a r ih=> exact ⟨h a Q1,ih fun t d=> h t (Q0 _ d)⟩
theorem Js:rng Tree.nil:=⟨V3,by simp,trivial⟩
theorem Z47{α:Type}{z x y:α}{l:List α}{i:Nat}(h:y∈ZP z l i x):y∈l\/y=z\/y=x:=by
 rcases List.mem_or_eq_of_mem_set h with h | h
 .rcases Qg.1 h with h | h
  .exact .inl h
  .exact .inr (.inl (Xw h))
 .exact .inr (.inr h)
theorem ZrG{ks:List Tree}(h:J6 ks)(i:Nat):rng (ks.getD i Tree.nil):=by
 by_cases hi:i < ks.length
 .exact Jl h (Zh hi _)
 .rw [Qp,QK V1]
  exact Js
theorem Zw7{tw:List Int}:∀ {ws:List WEdit} {out a:List Int},(∀ x∈out,isW x)->wsD tw ws out=some a->∀ x∈a,isW x
 | [],out,a,h,hw=> by rw [wsD] at hw;grind
 | w ::r,out,a,h,hw=> by
  rw [wsD] at hw
  split at hw
  .refine Zw7 (fun x d=> ?_) hw
   rcases Z47 d with d | rfl | rfl
   .exact h x d
   .trivial
   .exact Z1J _ _ _
  .cases hw
mutual
theorem ZdA(r:Bool):∀ (e:Edit) (t u:Tree),ZX e->rng t->doE r e t=some u->rng u
 | .mk k o n w ks l os,t,u,hr,ht,h=> by
  have h1:=Znb r ks
  have h2:=Zna r os
  simp only [ZX] at hr
  obtain ⟨r1,r2,r3,r4,r5,r6,r7⟩:=hr
  have s:InR t.kind/\(∀ x∈t.words,isW x)/\J6 t.kids:=by obtain ⟨k,w,ks⟩:=t;exact ht
  rw [Z13] at h
  obtain ⟨v,d,hu⟩:=Qd.1 h
  suffices rng v by
   rw [<-hu];unfold nrD
   split
   .exact Z29 v this
   .exact this
  clear h hu
  split at d
  .grind
  .split at d
   .simp_all
   .split at d
    .split at d
     .obtain ⟨a,ha,hb⟩:=Qn.1 d
      obtain ⟨b,hb,e⟩:=Qd.1 hb
      rw [<-e]
      exact ⟨V3,Zw7 s.2.1 ha,h1 _ _ _ r6 s.2.2 s.2.2 hb⟩
     .cases d
    .split at d
     .split at d
      .obtain ⟨b,hb,e⟩:=Qd.1 d
       unfold Z0H at hb
       obtain ⟨x,hx,hy⟩:=Qn.1 hb
       split at hy
       .cases hy
        rw [<-e]
        exact ⟨r5,by simp,(h2 _ [] _ r7 s.2.2 trivial hx).1⟩
       .cases hy
      .cases d
     .cases d
theorem Znb(r:Bool):∀ (ks:List (KidOf Edit)) (tk out b:List Tree),Z1r ks->J6 tk->J6 out->JC r tk ks out=some b->J6 b
 | [],tk,out,b,_,_,ho,h=> by rw [JC] at h;cases h;exact ho
 | k ::s,tk,out,b,hk,ht,ho,h=> by
  rw [JC] at h
  obtain ⟨u,hu,hb⟩:=Qn.1 h
  have m1:=ZuC r k tk u hk.1 ht hu
  refine Znb r s tk _ b hk.2 ht (Z6A fun x d=> ?_) hb
  rcases Z47 d with d | rfl | rfl
  .exact Jl ho d
  .exact Js
  .exact m1
theorem ZuC(r:Bool):∀ (k:KidOf Edit) (tk:List Tree) (u:Tree),Z2b k->J6 tk->Z0L r tk k=some u->rng u
 | ⟨a,e⟩,tk,u,hr,ht,h=> by
  rw [Z0L] at h
  exact ZdA r e _ u hr.2 (ZrG ht _) h
theorem Zna(r:Bool):∀ (os:List (OpOf Edit)) (rest out:List Tree) (x:List Tree × List Tree),Z0D os->J6 rest->J6 out->ZE r os rest out=some x->J6 x.1/\J6 x.2
 | [],rest,out,x,_,hr,ho,h=> by rw [ZE] at h;grind
 | o ::s,rest,out,x,hs,hr,ho,h=> by
  rw [ZE] at h
  obtain ⟨y,hy,hx⟩:=Qn.1 h
  have d:=ZxD r o rest out y hs.1 hr ho hy
  exact Zna r s _ _ x hs.2 d.2 d.1 hx
theorem ZxD(r:Bool):∀ (o:OpOf Edit) (rest out:List Tree) (x:List Tree × List Tree),YH o->J6 rest->J6 out->Z2j r o rest out=some x->J6 x.1/\J6 x.2
 | ⟨k,n,L,e⟩,rest,out,x,hs,hr,ho,h=> by
  have he:=ZdA r e (rest.getD 0 Tree.nil)
  simp only [YH] at hs
  have hd:∀ n,J6 (rest.drop n):=fun n=> Z6A fun t s=> Jl hr (QQ s)
  have d:∀ l,J6 l->J6 (out++l):=fun l hl=> Z7A.2 ⟨ho,hl⟩
  rw [Z2j] at h
  split at h
  .split at h
   .cases h
    exact ⟨d _ (Z6A fun t s=> Jl hr (XE s)),hd _⟩
   .cases h
  .split at h
   .grind
   .split at h
    .grind
    .split at h
     .cases h
     .obtain ⟨u,hu,e2⟩:=Qd.1 h
      cases e2
      exact ⟨d _ ⟨he u hs.2.2.2 (ZrG hr 0) hu,trivial⟩,hd _⟩
end
section
variable {α β:Type} (z:α) (f:β->Option α) (p:β->Int)
def mg:List β->List α->Option (List α)
 | [],out=> some out
 | w ::r,out=> (f w).bind fun v=> mg r (ZP z out (p w).toNat v)
def asc(last:Int):List β->Prop
 | []=> True
 | w ::r=> last < p w/\asc (p w) r
structure Mg (l0:List α) (ws:List β) (n a i:Int) (out:List α):Prop where
 a0:0<=a/\a<=ws.length
 i0:0<=i/\i<=n
 len:(out.length:Int)=i
 ac:asc p (i - 1) (ws.drop a.toNat)
 lt:∀ w∈ws.drop a.toNat,p w < n
 ex:n=l0.length\/i=n\/∃ w∈ws.drop a.toNat,p w+1=n
 n0:l0.length<=n
 eq:mg z f p (ws.drop a.toNat) (out++l0.drop i.toNat)=mg z f p ws l0
variable {z f p} {l0:List α} {ws:List β} {n a i:Int} {out:List α}
theorem Zp6(v:α)(i:Nat)(h:out.length=i):ZP z (out++l0.drop i) i v=(out++[v])++l0.drop (i+1):=by
 by_cases hi:i < l0.length
 .simp only [ZP]
  rw [show i+1 - (out++l0.drop i).length=0 by simp;omega]
  simp only [List.replicate_zero,Qi]
  rw [List.set_append_right _ _ V1,show i - out.length=0 by omega,QP hi,List.set_cons_zero,Qc]
  try rfl
 .rw [Q6 V1,Q6 V1]
  simp only [ZP,Qi]
  simp_all
theorem Z2M{last:Int}:∀ {l:List β},asc p last l->∀ w∈l,last < p w
 | [],_,_,hw=> by cases hw
 | b ::r,h,w,hw=> by
  rcases Qa.1 hw with rfl | hw
  .exact h.1
  .have:=Z2M h.2 w hw
   have:=h.1
   omega
theorem Mg.cons(m:Mg z f p l0 ws n a i out)(d:β)(ha:a < ws.length):ws.drop a.toNat=ws.getD a.toNat d ::ws.drop (a+1).toNat:=ZS m.a0.1 ha d
theorem Mg.none(m:Mg z f p l0 ws n a i out)(d:β)(ha:a < ws.length)(hf:f (ws.getD a.toNat d)=Option.none):mg z f p ws l0=Option.none:=by
 rw [<-m.eq,m.cons d ha,mg,hf];try rfl
theorem Mg.edit(m:Mg z f p l0 ws n a i out)(d:β)(hi:i < n)(ha:a < ws.length)(hp:p (ws.getD a.toNat d)=i){v:α}(hf:f (ws.getD a.toNat d)=some v):Mg z f p l0 ws n (a+1) (i+1) (out++[v]):=by
 have hc:=m.cons d ha
 have h1:=m.ac;have s:=m.lt;have h3:=m.ex;have h:=m.eq;have h5:=m.a0;have h6:=m.i0;have h7:=m.len
 rw [hc] at h1 s h3 h
 refine ⟨V1,V1,by simp;omega,?_,fun w hw=> s w (Q0 _ hw),?_,m.n0,?_⟩
 .have:=h1.2
  grind
 .grind
 .rw [mg,hf,Qb,hp,Zp6 v i.toNat V1,show i.toNat+1=(i+1).toNat by omega] at h
  exact h
theorem ZG9{l:List β}(h:∃ w,w∈l)(ha:asc p (out.length:Int) l):mg z f p l (out++[z])=mg z f p l out:=by
 cases l with
 | nil=> grind
 | cons w r=>
  have d:=ha.1
  rw [mg,mg]
  congr 1
  funext v
  have:ZP z (out++[z]) (p w).toNat v=ZP z out (p w).toNat v:=by
   simp only [ZP,Q7,Qs,Qc]
   rw [show (p w).toNat+1 - out.length=((p w).toNat+1 - (out.length+1))+1 by omega,Xz]
   try rfl
  rw [this]
theorem Mg.plain(m:Mg z f p l0 ws n a i out)(d:β)(hi:i < n)(hn:¬(a < ws.length/\p (ws.getD a.toNat d)=i)):Mg z f p l0 ws n a (i+1) (out++[l0.getD i.toNat z]):=by
 have s:=m.ac;have h2:=m.lt;have h:=m.ex;have h4:=m.eq;have h5:=m.a0;have h6:=m.i0;have h7:=m.len;have h8:=m.n0
 have ab:asc p i (ws.drop a.toNat):=by
  by_cases ha:a < ws.length
  .rw [m.cons d ha] at s ⊢
   exact ⟨by have:=s.1;omega,s.2⟩
  .rw [Q6 V1];exact trivial
 refine ⟨h5,V1,by simp;omega,by grind,h2,?_,h8,?_⟩
 .grind
 .rw [<-h4]
  by_cases hl:i.toNat < l0.length
  .rw [QP hl,show i.toNat+1=(i+1).toNat by omega,Qp,Q4 hl,Xh]
   simp
  .have e1:l0.drop i.toNat=[]:=Q6 V1
   have e2:l0.drop (i+1).toNat=[]:=Q6 V1
   rw [e1,e2,Qi,Qi,Qp,QK V1,Option.getD_none]
   rcases h with h | h | ⟨w,hw,h⟩
   .omega
   .omega
   .exact ZG9 ⟨w,hw⟩ (by grind)
theorem Mg.fin(m:Mg z f p l0 ws n a i out)(hi:¬i < n):mg z f p ws l0=some out:=by
 have d:=m.ac;have s:=m.lt;have h6:=m.i0;have h8:=m.n0
 rw [<-m.eq]
 have:ws.drop a.toNat=[]:=by
  cases h:ws.drop a.toNat with
  | nil=> rfl
  | cons w r=>
   rw [h] at d s
   have:=d.1
   grind
 rw [this,mg,Q6 V1,Qi]
end
theorem Mg.init{α β:Type}{z:α}{f:β->Option α}{p:β->Int}{l0:List α}{ws:List β}{n:Int}(d:β)(has:asc p (-1) ws)(hn:n=if 0 < ws.length/\(l0.length:Int)<=p (ws.getD (ws.length - 1) d) then p (ws.getD (ws.length - 1) d)+1 else (l0.length:Int)):Mg z f p l0 ws n 0 0 []:=by
 have ab:∀ (l:List β) (m:Int),asc p m l->∀ w∈l,p w<=p (l.getD (l.length - 1) d):=by
  intro l
  induction l with
  | nil=> intro m h w hw;cases hw
  | cons b r ih=>
   intro m h w hw
   cases r with
   | nil=>
    rcases Qa.1 hw with rfl | hw
    .simp
    .cases hw
   | cons c s=>
    have e:(b ::c ::s).getD ((b ::c ::s).length - 1) d=(c ::s).getD ((c ::s).length - 1) d:=by simp
    rw [e]
    rcases Qa.1 hw with rfl | hw
    .have h1:=ih _ h.2 c Q1
     have h2:=h.2.1
     omega
    .exact ih _ h.2 w hw
 have hl:=ab ws _ has
 have hm:0 < ws.length->ws.getD (ws.length - 1) d∈ws:=fun h=> Zh V1 _
 refine ⟨V1,⟨V1,?_⟩,rfl,has,fun w hw=> ?_,?_,?_,by simp⟩
 .rw [hn];split <;> omega
 .have:=hl w hw
  have hp:0 < ws.length:=List.length_pos_of_mem hw
  rw [hn];split <;> omega
 .rw [hn];split
  .rename_i h;exact .inr (.inr ⟨_,hm h.1,rfl⟩)
  .exact .inl rfl
 .rw [hn];split <;> omega
theorem Zdm(tw:List Int):∀ (ws:List WEdit) (out:List Int),wsD tw ws out=mg 0 (fun w=> if mix 0 (tw.getD w.at_.toNat 0) w.mask=w.old then some (mix (tw.getD w.at_.toNat 0) w.new w.mask) else none) WEdit.at_ ws out
 | [],_=> rfl
 | w ::r,out=> by
  rw [wsD,mg]
  split
  .rw [Qb];exact Zdm tw r _
  .try rfl
theorem Z9U(r:Bool)(tk:List Tree):∀ (ks:List Kid) (out:List Tree),JC r tk ks out=mg Tree.nil (Z0L r tk) KidOf.at_ ks out
 | [],_=> by rfl
 | k ::s,out=> by
  rw [JC,mg]
  congr 1
  funext u
  exact Z9U r tk s _
theorem Z00:∀ {ws:List WEdit} {last:Int},ZM last ws=true->asc WEdit.at_ last ws
 | [],_,_=> trivial
 | w ::r,last,h=> by
  have d:=Yj h w Q1
  simp only [ZM,Q2] at h
  exact ⟨d.1,Z00 h.2⟩
theorem Z0F:∀ {ks:List Kid} {last d:Int},ZC last ks d=true->asc KidOf.at_ last ks
 | [],_,_,_=> trivial
 | k ::r,last,d,h=> by
  obtain ⟨s,_,h3⟩:=Z17 h
  exact ⟨s.1,Z0F h3⟩
end Go.AM.YtpjenobkibfpcaaGreat
namespace Go.AM
def Zir(t:Tree):Bool:=decide (0<=ZT t 80 3000) && Zr t 64 && decide (t.kind≠10)
end Go.AM
namespace Go.AM.YtpjenobkibfpcaaGreat
open Go.AM Go.Proofs
theorem ZBM{f g:Nat->Int}(hf:∀ i,0<=f i/\f i < 256)(hg:∀ i,0<=g i/\g i < 256)(h:of8 f=of8 g):∀ i,i < 8->f i=g i:=by
 unfold of8 at h
 grind
theorem Z5J{a:Int}(h:isW a):of8 (Z4 a)=a:=by
 obtain ⟨d,s⟩:=h
 simp only [of8,Z4]
 omega
theorem Z4z{a b:Int}(ha:isW a)(hb:isW b)(h:∀ i,i < 8->Z4 a i=Z4 b i):a=b:=by
 rw [<-Z5J ha,<-Z5J hb]
 unfold of8
 grind
theorem Z2Y{a b m:Int}{i:Nat}(h:i < 8):Z4 (mix a b m) i=Jn a b m i:=
 ZBM (fun i=> Z1b _ i) (Z80 a b m) (by rw [Z5J (Z1J a b m)];rfl) i h
section
variable {α β:Type} {z:α} {f:β->Option α} {p:β->Int}
theorem Z5j:∀ {ws:List β} {last:Int} {out r:List α},-1<=last->asc p last ws->mg z f p ws out=some r->
  (∀ w∈ws,∃ v,f w=some v/\r.getD (p w).toNat z=v)/\(∀ i:Nat,(∀ w∈ws,(p w).toNat≠i)->r.getD i z=out.getD i z)
 | [],_,out,r,_,_,h=> by
  rw [mg] at h;grind
 | w ::s,last,out,r,hl,ha,h=> by
  rw [mg] at h
  obtain ⟨v,hv,hr⟩:=Qn.1 h
  have h1:=ha.1
  obtain ⟨i1,i2⟩:=Z5j V1 ha.2 hr
  have hn:∀ x∈s,(p x).toNat≠(p w).toNat:=fun x d=> by have:=Z2M ha.2 x d;omega
  refine ⟨fun x d=> ?_,fun i hi=> ?_⟩
  .rcases Qa.1 d with rfl | d
   .refine ⟨v,hv,?_⟩
    rw [i2 _ hn,Yw,if_pos rfl]
   grind
  .rw [i2 i (fun x d=> hi x (Q0 _ d)),Yw,if_neg (fun e=> hi w Q1 e.symm)]
end
theorem ZaI{list d:Int}:∀ {l:List Tree},J4 list l d=true->∀ t∈l,Zr t d=true
 | [],_,_,ht=> by cases ht
 | a ::r,h,t,ht=> by
  simp only [J4,Q2] at h
  rcases Qa.1 ht with rfl | ht
  .exact h.1.2
  .exact ZaI h.2 t ht
def RT_(t:Tree):Prop:=(∃ d,Zr t d=true)/\rng t
theorem RT_.kids{t:Tree}(h:RT_ t):(∀ k∈t.kids,RT_ k)/\(t.kind≠0->t.kind≠1->t.kind≠10->t.words=[]):=by
 obtain ⟨⟨d,h⟩,hr⟩:=h
 obtain ⟨k,w,ks⟩:=t
 have hk:∀ x∈ks,rng x:=fun x s=> Jl hr.2.2 s
 show (∀ x∈ks,RT_ x)/\(k≠0->k≠1->k≠10->w=[])
 rw [Zr] at h
 split at h
 .grind
 .split at h
  .grind
  .split at h
   .cases h
   .split at h
    .simp only [Q2] at h
     exact ⟨fun x s=> ⟨⟨_,ZaI h.2 x s⟩,hk x s⟩,fun _ h1=> absurd ‹_› h1⟩
    .simp only [Q2,decide_eq_true_eq] at h
     exact ⟨fun x s=> ⟨⟨_,ZaI h.2 x s⟩,hk x s⟩,fun _ _ _=> Q3 h.1.2.2.1⟩
theorem ZHX:RT_ Tree.nil:=⟨⟨1,rfl⟩,Js⟩
theorem Zey{l:List Tree}(h:∀ t∈l,RT_ t)(i:Nat):RT_ (l.getD i Tree.nil):=by
 by_cases hi:i < l.length
 .grind
 .rw [Qp,QK V1];exact ZHX
theorem ZkX{t:Tree}(h:rng t):InR t.kind/\(∀ x∈t.words,isW x)/\J6 t.kids:=by obtain ⟨k,w,ks⟩:=t;exact h
theorem Z7C{list:Int}{o:Op}{d:Int}(h:Za list o d=true):o.kind=0\/o.kind=1\/o.kind=2\/o.kind=3:=by
 have r:=Zu h
 cases r with
 | keep=> simp
 | gone=> grind
 | come=> grind
 | into=> grind
end Go.AM.YtpjenobkibfpcaaGreat
namespace Go.AM.YtpjenobkibfpcaaGreat
open Go.AM Go.Proofs
def Rx(x y:List Tree × List Tree):Prop:=EqvL x.1 y.1/\EqvL x.2 y.2
theorem Rx.rfl'(a:Option (List Tree × List Tree)):OptR Rx a a:=by cases a;exact trivial;exact ⟨rfl,rfl⟩
theorem Rx.of{a b:Option (List Tree × List Tree)}(h:a=b):OptR Rx a b:=by rw [h];exact Rx.rfl' b
theorem OptR.trans'{α:Type}{R:α->α->Prop}(ht:∀ x y z,R x y->R y z->R x z){a b c:Option α}(h1:OptR R a b)(h2:OptR R b c):OptR R a c:=by
 cases a <;> cases b <;> cases c <;> first | exact trivial | exact h1.elim | exact h2.elim | exact ht _ _ _ h1 h2
theorem Rx.trans{a b c:Option (List Tree × List Tree)}(h1:OptR Rx a b)(h2:OptR Rx b c):OptR Rx a c:=
 OptR.trans' (fun _ _ _ p q=> ⟨Eq.trans p.1 q.1,Eq.trans p.2 q.2⟩) h1 h2
theorem Z66(r:Bool):∀ (a b:List Op) (rest out:List Tree),ZE r (a++b) rest out=(ZE r a rest out).bind fun x=> ZE r b x.2 x.1
 | [],b,rest,out=> by rfl
 | o ::s,b,rest,out=> by
  rw [Qj,ZE,ZE]
  cases h:Z2j r o rest out with
  | none=> rfl
  | some x=> rw [Qb,Qb];exact Z66 r s b _ _
theorem Zd9(r:Bool)(o:Op)(rest out:List Tree):ZE r [o] rest out=Z2j r o rest out:=by
 rw [ZE]
 cases Z2j r o rest out with
 | none=> rfl
 | some x=> rfl
theorem Z8m(r:Bool)(a:List Op)(o:Op)(rest out:List Tree):ZE r (a++[o]) rest out=(ZE r a rest out).bind fun x=> Z2j r o x.2 x.1:=by
 rw [Z66]
 congr 1
 funext x
 exact Zd9 r o _ _
theorem Z50{r:Bool}:∀ {os:List Op} {rest out:List Tree} {x:List Tree × List Tree},ZE r os rest out=some x->∃ n,x.2=rest.drop n
 | [],rest,out,x,h=> by rw [ZE] at h;cases h;exact ⟨0,by simp⟩
 | o ::s,rest,out,x,h=> by
  rw [ZE] at h
  obtain ⟨y,d,hx⟩:=Qn.1 h
  obtain ⟨n,hn⟩:=Z50 hx
  have:∃ m,y.2=rest.drop m:=by
   rw [Yr] at d
   split at d
   .grind
   .split at d
    .grind
    .split at d
     .cases d;exact ⟨0,by simp⟩
     .split at d
      .cases d
      .obtain ⟨u,_,e⟩:=Qd.1 d
       grind
  obtain ⟨m,hm⟩:=this
  exact ⟨m+n,by simp_all⟩
theorem Zvm(rest:List Tree):JR [] rest=true:=by unfold JR;simp_all
theorem Zom(l rest:List Tree):JR (Z8 l) rest=JR l rest:=by
 unfold JR
 rw [Zf5,show (Z8 l).length=l.length by simp [Z8]]
theorem Z1Z(l rest:List Tree):JR l rest=true↔l.length<=rest.length/\Z8 l=Z8 (rest.take l.length):=by
 unfold JR
 rw [Q2,decide_eq_true_eq,Z07]
theorem Zvo(a b rest:List Tree):JR (a++b) rest=(JR a rest && JR b (rest.drop a.length)):=by
 rw [QM,Q2,Z1Z,Z1Z,Z1Z]
 simp only [Q7,Qv]
 constructor
 .rintro ⟨s,d⟩
  rw [YS,List.take_add,YS] at d
  obtain ⟨h3,h⟩:=K6 d (by simp [Z8];omega)
  grind
 .rintro ⟨⟨s,d⟩,h3,h⟩
  refine ⟨V1,?_⟩
  rw [YS,List.take_add,YS,d,h]
theorem Zd7(s:Wst)(rest out:List Tree):ZE false (Zb s).out rest out=(ZE false s.out rest out).bind fun x=> if JR s.gone x.2=true then some (x.1++s.brought,x.2.drop s.gone.length) else none:=by
 simp only [Zb,JZ]
 rw [Z66]
 congr 1
 funext x
 rw [Z66]
 have h1:ZE false (if s.gone.length=0 then [] else [⟨1,0,s.gone,Edit.nil⟩]) x.2 x.1=if JR s.gone x.2=true then some (x.1,x.2.drop s.gone.length) else none:=by
  split
  .rename_i h
   rw [Q3 h,Zvm,if_pos rfl,ZE]
   try rfl
  .rw [Zd9,Yr]
   rw [if_neg (by show ¬(1:Int)=0;omega),if_pos rfl]
 have d:∀ y:List Tree × List Tree,ZE false (if s.brought.length=0 then [] else [⟨2,0,s.brought,Edit.nil⟩]) y.2 y.1=some (y.1++s.brought,y.2):=by
  intro y
  split
  .rename_i h
   rw [Q3 h,Qi,ZE]
  .rw [Zd9,Yr]
   rw [if_neg (by show ¬(2:Int)=0;omega),if_neg (by show ¬(2:Int)=1;omega),if_pos rfl]
 rw [h1]
 split
 .rw [Qb,d]
 .try rfl
theorem ZCV{F:List Op}{n:Int}(hF:∀ o∈F,0<=o.n)(hn:0<=n)(rest out:List Tree):ZE false (JK F n) rest out=ZE false (F++[⟨0,n,[],Edit.nil⟩]) rest out:=by
 rcases Jq F n with h | ⟨a,o,h1,h2,h3⟩
 .rw [h]
 .rw [h3,h1,Z8m,Z8m,Z8m]
  cases hx:ZE false a rest out with
  | none=> rfl
  | some x=>
   have d:=hF o (by rw [h1];simp)
   simp only [Qb]
   rw [Yr,Yr,if_pos h2,if_pos h2]
   simp only
   have e:(o.n+n).toNat=o.n.toNat+n.toNat:=V1
   rw [e]
   by_cases c:o.n.toNat<=x.2.length
   .rw [if_pos c,Qb,Yr,if_pos rfl]
    simp only [Qv]
    by_cases c2:n.toNat<=x.2.length - o.n.toNat
    .rw [if_pos c2,V0,Xu,Qc,<-List.take_add]
    grind
   .rw [if_neg c,Jv]
    try rfl
def N0s(s:Wst):Prop:=∀ o∈s.out,0<=o.n
theorem N0s.flush{s:Wst}(h:N0s s):∀ o∈(Zb s).out,0<=o.n:=by
 intro o d
 simp only [Zb,JZ,Qg] at d
 rcases d with d | d | d
 .exact h o d
 .split at d
  .cases d
  .simp only [Qe] at d;subst d;exact QS 0
 .split at d
  .cases d
  .simp only [Qe] at d;subst d;exact QS 0
theorem N0s.keep{s:Wst}(h:N0s s){n:Int}(hn:0<=n):N0s (Y2 s n):=by
 intro o d
 simp only [Y2] at d
 rcases Jq (Zb s).out n with e | ⟨a,p,h1,h2,h3⟩
 .rw [e] at d
  rcases Qg.1 d with d | d
  .exact h.flush o d
  grind
 .rw [h3] at d
  rcases Qg.1 d with d | d
  .exact h.flush o (by grind)
  .simp only [Qe] at d;subst d
   have:=h.flush p (by rw [h1];simp)
   grind
theorem ZrI{list d:Int}{o:Op}(h:Za list o d=true):0<=o.n:=by
 have r:=Zu h
 cases r with
 | keep n h1=> grind
 | gone | come | into=> grind
theorem N0s.op{list d:Int}{s:Wst}{o:Op}(h:N0s s)(hr:Za list o d=true):N0s (Z04 list o s):=by
 rw [YV]
 split
 .exact h.keep (ZrI hr)
 .split
  .exact h
  .split
   .exact h
   .split
    .split
     .exact h.keep V1
     .intro p hp
      rcases Qg.1 hp with hp | hp
      .exact h.flush p hp
      grind
    .exact h
def K9(list:Int)(l:List Tree):Prop:=(∀ t∈l,RT_ t)/\(list=9->∀ t∈l,t.kind=1)
theorem K9.drop{list:Int}{l:List Tree}(h:K9 list l)(n:Nat):K9 list (l.drop n):=⟨fun t d=> h.1 t (QQ d),fun e t d=> h.2 e t (QQ d)⟩
theorem ZrJ{d:Int}:∀ {l:List Tree},J4 9 l d=true->∀ t∈l,t.kind=1
 | [],_,t,ht=> by cases ht
 | a ::r,h,t,ht=> by
  simp only [J4,Q2] at h
  rcases Qa.1 ht with rfl | ht
  .have:=h.1.1
   simpa [Z2n] using this
  .exact ZrJ h.2 t ht
theorem RT_.k9{t:Tree}(h:RT_ t):K9 t.kind t.kids:=by
 refine ⟨h.kids.1,fun e=> ?_⟩
 obtain ⟨⟨d,h⟩,_⟩:=h
 obtain ⟨k,w,ks⟩:=t
 have e:k=9:=e
 subst e
 rw [Zr,Jv,Jv] at h
 split at h
 .cases h
 .rw [Jv] at h
  simp only [Q2] at h
  exact ZrJ h.2
theorem ZBB {list d:Int} {s:Wst} {o:Op} (hs:N0s s) (hr:Za list o d=true) {rest:List Tree} (hk:K9 list rest) (out:List Tree)
  (ih:∀ y,RT_ y->Z1 o.e d=true->OptR Eqv (doE false (Zp o.e) y) (doE false o.e y)):
  OptR Rx (ZE false (Zb (Z04 list o s)).out rest out) ((ZE false (Zb s).out rest out).bind fun x=> Z2j false o x.2 x.1):=by
 have keep:∀ n:Int,0<=n->ZE false (Zb (Y2 s n)).out rest out=(ZE false (Zb s).out rest out).bind fun x=> Z2j false ⟨0,n,[],Edit.nil⟩ x.2 x.1:=by
  intro n hn
  have e:(Zb (Y2 s n)).out=JK (Zb s).out n:=by simp [Zb,JZ,Y2]
  rw [e,ZCV hs.flush hn,Z8m]
 rw [YV]
 have r1:=Z7C hr
 by_cases h0:o.kind=0
 .rw [if_pos h0,keep _ (ZrI hr)]
  refine Rx.of ?_
  congr 1
  funext x
  rw [Yr,Yr,if_pos rfl,if_pos h0]
 .rw [if_neg h0]
  by_cases h1:o.kind=1
  .rw [if_pos h1,Zd7,Zd7]
   refine Rx.of ?_
   rw [XZ]
   congr 1
   funext x
   simp only
   rw [Zvo,Zom]
   by_cases c:JR s.gone x.2=true
   .rw [if_pos c,c,X2,Qb,Yr,if_neg h0,if_pos h1]
    simp only
    rw [Xu,show (s.gone++Z8 o.l).length=s.gone.length+o.l.length by simp [Z8]]
   grind
  .rw [if_neg h1]
   by_cases h2:o.kind=2
   .rw [if_pos h2,Zd7,Zd7,XZ]
    refine OptR.bind (R:=Eq) (OptR.rfl' _) ?_
    rintro x _ rfl
    simp only
    split
    .rw [Qb,Yr,if_neg h0,if_neg h1,if_pos h2]
     refine ⟨?_,rfl⟩
     show Z8 (x.1++(s.brought++Z8 o.l))=Z8 (x.1++s.brought++o.l)
     simp only [YS,Zf5,Qc]
    .exact trivial
   .have h3:o.kind=3:=by rcases r1 with h | h | h | h <;> first | exact absurd h h0 | exact absurd h h1 | exact absurd h h2 | exact h
    rw [if_neg h2,if_pos h3]
    have ah:=Ye hr h3
    have ra:=Zu hr
    by_cases hi:Z8c list (Zp o.e)=true
    .rw [if_pos hi,keep 1 V1]
     cases hx:ZE false (Zb s).out rest out with
     | none=> exact trivial
     | some x=>
      obtain ⟨m,hm⟩:=Z50 hx
      have aa:=hk.drop m
      rw [<-hm] at aa
      simp only [Qb]
      rw [Yr,Yr,if_pos rfl,if_neg h0,if_neg h1,if_neg h2]
      cases hx2:x.2 with
      | nil=> exact trivial
      | cons y q=>
       rw [hx2] at aa
       have ae:o.e.kind≠0:=by
        cases ra with
        | into e _ h=> exact h
        | keep | gone | come=> grind
       simp only [Z8c,decide_eq_true_eq,Z5K] at hi
       rcases hi with hi | ⟨hl9,he2,hw,hks⟩
       .omega
       .have hy:=aa.2 hl9 y Q1
        have hn:=Z4U o.e
        rw [Jv,if_pos he2] at hn
        have e1:o.e.words=[]:=by rw [hn] at hw;exact Q3 hw
        have e2:o.e.kids=[]:=by
         rw [hn] at hks
         have:(YR o.e.kids).length=0:=hks
         cases hh:o.e.kids with
         | nil=> rfl
         | cons a b=> rw [hh] at this;trivial
        have hd:doE false o.e y=some (.mk 1 y.words y.kids):=by
         rw [Z13,if_neg ae,Jv,if_pos he2,if_pos hy,e1,e2,wsD,Qb,JC]
         try rfl
        rw [if_neg (show ¬(y ::q).length=0 by simp),Qr,hd,if_pos (show Int.toNat 1<=(y ::q).length by simp)]
        refine ⟨?_,rfl⟩
        show Z8 (x.1++[y])=Z8 (x.1++[Tree.mk 1 y.words y.kids])
        rw [show Tree.mk 1 y.words y.kids=y by rw [<-hy];exact Tree.eta y]
    .rw [if_neg hi]
     have e:(Zb ⟨(Zb s).out++[⟨3,0,[],Zp o.e⟩],[],[]⟩).out=(Zb s).out++[⟨3,0,[],Zp o.e⟩]:=by simp [Zb,JZ]
     rw [e,Z8m]
     cases hx:ZE false (Zb s).out rest out with
     | none=> exact trivial
     | some x=>
      obtain ⟨m,hm⟩:=Z50 hx
      have aa:=hk.drop m
      rw [<-hm] at aa
      simp only [Qb]
      rw [Yr,Yr,if_neg h0,if_neg h1,if_neg h2,if_neg (by grind),if_neg (by grind),if_neg (by grind)]
      refine OptR.ite QA (fun _=> trivial) fun _=> ?_
      exact (ih _ (Zey aa.1 0) ah).map fun u v h=> ⟨JN rfl (Z01.2 h),rfl⟩
mutual
theorem Zb4:∀ (e:Edit) (d:Int) (t:Tree),Z1 e d=true->RT_ t->OptR Eqv (doE false (Zp e) t) (doE false e t)
 | .mk k o n w ks l os,d,t,hr,ht=> by
  have ri:=Zd hr
  have h1:=ZnM ks
  have h2:=ZnL l os
  have aa:=ht.kids.1
  have s:Zp (.mk k o n w ks l os)=if k=1 then .mk k (Z6 o) (Z6 n) [] [] l [] else if k=2 then .mk k Tree.nil Tree.nil w (YR ks) l [] else if k=3 then .mk k Tree.nil Tree.nil [] [] l (Zb (Zv l os ⟨[],[],[]⟩)).out else .mk k Tree.nil Tree.nil [] [] l []:=by rw [Zp]
  rw [Z51,Z51,J0,J0]
  by_cases c1:k=1
  .subst c1
   rw [if_pos rfl] at s
   unfold ZdI
   rw [s]
   refine OptR.ite QA (fun _=> rfl) fun _=> OptR.ite QA (fun _=> ?_) (fun h=> absurd rfl h)
   show OptR Eqv (if YM (Z6 (Z6 o)) (Z6 t)=true then some (Z6 n) else none) (if YM (Z6 o) (Z6 t)=true then some n else none)
   rw [J9]
   exact OptR.ite QA (fun _=> J9 n) (fun _=> trivial)
  .by_cases c2:k=2
   .subst c2
    rw [if_neg c1,if_pos rfl] at s
    unfold ZdI
    rw [s]
    refine OptR.ite QA (fun _=> rfl) fun _=> OptR.ite QA (fun h=> absurd h c1) fun _=> OptR.ite QA (fun _=> ?_) (fun h=> absurd rfl h)
    refine OptR.ite QA (fun ae=> ?_) (fun _=> trivial)
    refine OptR.bind (R:=Eq) (OptR.rfl' _) ?_
    rintro a _ rfl
    exact (h1 (d - 1) t.kids t.kids t.kids (fun k hk=> (Zk ri.kids k hk).2) aa rfl).map fun x y h=> Z2e _ _ h
   .by_cases c3:k=3
    .subst c3
     rw [if_neg c1,if_neg c2,if_pos rfl] at s
     unfold ZdI
     rw [s]
     refine OptR.ite QA (fun _=> rfl) fun _=> OptR.ite QA (fun h=> absurd h c1) fun _=> OptR.ite QA (fun h=> absurd h c2) fun _=> OptR.ite QA (fun _=> ?_) (fun h=> absurd rfl h)
     refine OptR.ite QA (fun ae=> ?_) (fun _=> trivial)
     have ab:=ht.k9
     rw [ae] at ab
     have:=h2 (d - 1) ⟨[],[],[]⟩ t.kids [] (fun o ho=> Go.AM.rightOs_mem ri.ops o ho) (fun o ho=> by cases ho) ab
     exact (Ziu this).map fun x y h=> Z2e _ _ h
    .have e0:k=0:=by have:=ri.kind;have:0<=k/\k<=3:=this;omega
     subst e0
     try rfl
theorem ZnM:∀ (ks:List (KidOf Edit)) (d:Int) (tk a b:List Tree),(∀ k∈ks,Z1 k.e d=true)->(∀ t∈tk,RT_ t)->EqvL a b->OptR EqvL (JC false tk (YR ks) a) (JC false tk ks b)
 | [],d,tk,a,b,_,_,h=> by trivial
 | k ::r,d,tk,a,b,hr,ht,h=> by
  rw [YR,JC,JC]
  have e:(Z0X k).at_=k.at_:=by cases k;rfl
  rw [e]
  refine (ZuW k d tk (hr k Q1) ht).bind fun x y s=> ZnM r d tk _ _ (fun q hq=> hr q (Q0 _ hq)) ht (Ze3 h s)
theorem ZuW:∀ (k:KidOf Edit) (d:Int) (tk:List Tree),Z1 k.e d=true->(∀ t∈tk,RT_ t)->OptR Eqv (Z0L false tk (Z0X k)) (Z0L false tk k)
 | ⟨a,e⟩,d,tk,hr,ht=> by rw [Z0X,Z0L,Z0L];exact Zb4 e d _ hr (Zey ht _)
theorem ZnL(list:Int):∀ (os:List (OpOf Edit)) (d:Int) (s:Wst) (rest out:List Tree),(∀ o∈os,Za list o d=true)->N0s s->K9 list rest->OptR Rx (ZE false (Zb (Zv list os s)).out rest out) (ZE false ((Zb s).out++os) rest out)
 | [],d,s,rest,out,_,_,_=> by rw [Zv,Qi];exact Rx.rfl' _
 | o ::r,d,s,rest,out,hr,hs,hk=> by
  have ho:=hr o Q1
  have st:=ZBB hs ho hk out (Zyy o d)
  rw [Zv]
  refine Rx.trans (ZnL list r d _ rest out (fun q hq=> hr q (Q0 _ hq)) (hs.op ho) hk) ?_
  rw [Z66,Z66]
  have e:∀ x:List Tree × List Tree,ZE false (o ::r) x.2 x.1=(Z2j false o x.2 x.1).bind fun y=> ZE false r y.2 y.1:=fun x=> by rw [ZE]
  rw [show (fun x:List Tree × List Tree=> ZE false (o ::r) x.2 x.1)=fun x=> (Z2j false o x.2 x.1).bind fun y=> ZE false r y.2 y.1 from funext e,<-XZ]
  exact st.bind fun x y h=> Ziy r _ _ _ _ h.2 h.1 (fun q hq=> ⟨_,_,hr q (Q0 _ hq)⟩)
theorem Zyy:∀ (o:OpOf Edit) (d:Int),∀ y,RT_ y->Z1 o.e d=true->OptR Eqv (doE false (Zp o.e) y) (doE false o.e y)
 | ⟨_,_,_,e⟩,d,y,hy,hr=> Zb4 e d y hr hy
end
mutual
theorem Zdn:∀ e:Edit,Zt (Zt e)=e
 | .mk k o n w ks l os=> by
  simp only [Zt]
  rw [Zv9,ZeC ks,ZeB os]
theorem ZeC:∀ ks:List (KidOf Edit),Yv (Yv ks)=ks
 | []=> rfl
 | k ::r=> by simp only [Yv];rw [ZkI k,ZeC r]
theorem ZkI:∀ k:KidOf Edit,Jr (Jr k)=k
 | ⟨a,e⟩=> by simp only [Jr];rw [Zdn e]
theorem ZeB:∀ os:List (OpOf Edit),YC (YC os)=os
 | []=> rfl
 | o ::r=> by simp only [YC];rw [ZmP o,ZeB r]
theorem ZmP:∀ o:OpOf Edit,Yu (Yu o)=o
 | ⟨k,n,l,e⟩=> by
  have h:=Zdn e
  simp only [Yu]
  split
  .rename_i c;subst c;rfl
  .split
   .rename_i c;subst c;rfl
   .split
    .rename_i c;subst c;simp only [Yu];rw [h];try rfl
    .rename_i c1 s d;simp only [Yu];grind
end
theorem Zv3{a n m:Int}(hn:isW n)(d:Ya n m=true):mix 0 (mix a n m) m=n:=by
 unfold Ya at d
 have d:mix n 0 m=0:=of_decide_eq_true d
 refine Z4z (Z1J _ _ _) hn fun i s=> ?_
 have e:=congrArg (fun x=> Z4 x i) d
 simp only [Z2Y s,Jn] at e
 rw [Z2Y s,Jn]
 by_cases h:Zz m i=true
 .rw [if_pos h,Z2Y s,Jn,if_pos h]
 grind
theorem Zv2{a n o m:Int}(ha:isW a)(ho:mix 0 a m=o):mix (mix a n m) o m=a:=by
 refine Z4z (Z1J _ _ _) ha fun i d=> ?_
 rw [Z2Y d,Jn]
 by_cases h:Zz m i=true
 .rw [if_pos h,<-ho,Z2Y d,Jn,if_pos h]
 .rw [if_neg h,Z2Y d,Jn,if_neg h]
theorem Z90{α β:Type}{z:α}{f:β->Option α}{p:β->Int}:∀ {ws:List β} {out:List α},(∀ w∈ws,∃ v,f w=some v)->∃ r,mg z f p ws out=some r
 | [],out,_=> ⟨out,rfl⟩
 | w ::s,out,h=> by
  obtain ⟨v,d⟩:=h w Q1
  rw [mg,d,Qb]
  exact Z90 fun x hx=> h x (Q0 _ hx)
theorem ZkF{l:List Int}(h:∀ x∈l,isW x)(i:Nat):isW (l.getD i 0):=by
 by_cases hi:i < l.length
 .grind
 .rw [Qp,QK V1];trivial
theorem ZoZ{tw:List Int}{ws:List WEdit}{r:List Int}(hw:ZM (-1) ws=true)(it:∀ x∈tw,isW x)(iw:∀ w∈ws,Z2a w)(h:wsD tw ws tw=some r):∃ v,wsD r (ws.map Jc) r=some v/\Zw0 v tw:=by
 rw [Zdm] at h
 obtain ⟨a1,a2⟩:=Z5j V1 (Z00 hw) h
 have ab:∀ w∈ws,(if mix 0 (r.getD (Jc w).at_.toNat 0) (Jc w).mask=(Jc w).old then some (mix (r.getD (Jc w).at_.toNat 0) (Jc w).new (Jc w).mask) else none)=some (tw.getD w.at_.toNat 0):=by
  intro w d
  obtain ⟨v,s,hr⟩:=a1 w d
  split at s
  .rename_i c
   cases s
   have ok:=Yj hw w d
   show (if mix 0 (r.getD w.at_.toNat 0) w.mask=w.new then some (mix (r.getD w.at_.toNat 0) w.old w.mask) else none)=_
   rw [hr,Zv3 (iw w d).2.2.2 ok.2.2.2.2,if_pos rfl,Zv2 (ZkF it _) c]
  .cases s
 have ae:ZM (-1) (ws.map Jc)=true:=by rw [Z6g];exact hw
 obtain ⟨v,s⟩:=Z90 (z:=0) (p:=WEdit.at_) (out:=r) (f:=fun w=> if mix 0 (r.getD w.at_.toNat 0) w.mask=w.old then some (mix (r.getD w.at_.toNat 0) w.new w.mask) else none) (ws:=ws.map Jc) (fun w d=> by
  grind)
 obtain ⟨b1,b2⟩:=Z5j V1 (Z00 ae) s
 refine ⟨v,by rw [Zdm];exact s,fun i=> ?_⟩
 by_cases hi:∃ w∈ws,w.at_.toNat=i
 .obtain ⟨w,d,rfl⟩:=hi
  obtain ⟨y,hy,hr⟩:=b1 (Jc w) (X8 d)
  have:=ab w d
  rw [this] at hy
  cases hy
  exact hr
 .have h1:∀ w∈ws,w.at_.toNat≠i:=fun w d e=> hi ⟨w,d,e⟩
  rw [b2 i (fun w d=> by obtain ⟨x,hx,rfl⟩:=Qy.1 d;exact h1 x hx),a2 i h1]
theorem Zar:∀ {ks:List Kid} {k:Kid},k∈Yv ks->∃ q∈ks,k=Jr q
 | [],k,h=> by cases h
 | a ::r,k,h=> by
  rw [Yv] at h
  rcases Qa.1 h with rfl | h
  .grind
  .obtain ⟨q,d,e⟩:=Zar h
   grind
theorem Zi0:∀ {ks:List Kid} {k:Kid},k∈ks->Jr k∈Yv ks
 | [],k,h=> by cases h
 | a ::r,k,h=> by
  rw [Yv]
  rcases Qa.1 h with rfl | h
  .grind
  .exact Q0 _ (Zi0 h)
theorem Z2Q(k:Kid):(Jr k).at_=k.at_/\(Jr k).e=Zt k.e:=by cases k;trivial
theorem Zvh {tk:List Tree} {ks:List Kid} {r:List Tree} {d:Int} (hk:ZC (-1) ks d=true) (h:JC false tk ks tk=some r)
  (ih:∀ k∈ks,∀ u,doE false k.e (tk.getD k.at_.toNat Tree.nil)=some u->∃ v,doE false (Zt k.e) u=some v/\Eqv v (tk.getD k.at_.toNat Tree.nil)):∃ v,JC false r (Yv ks) r=some v/\ZqY v tk:=by
 rw [Z9U] at h
 obtain ⟨a1,a2⟩:=Z5j V1 (Z0F hk) h
 have ae:∀ k∈ks,∃ v,Z0L false r (Jr k)=some v/\Eqv v (tk.getD k.at_.toNat Tree.nil):=by
  intro k s
  obtain ⟨u,hu,hr⟩:=a1 k s
  rw [Z2k] at hu
  obtain ⟨v,hv,he⟩:=ih k s u hu
  refine ⟨v,?_,he⟩
  rw [Z2k,(Z2Q k).1,(Z2Q k).2,hr]
  exact hv
 have af:=Z6B ks _ _ hk
 obtain ⟨v,hv⟩:=Z90 (z:=Tree.nil) (p:=KidOf.at_) (out:=r) (f:=Z0L false r) (ws:=Yv ks) (fun k s=> by
  obtain ⟨q,hq,rfl⟩:=Zar s
  grind)
 obtain ⟨b1,b2⟩:=Z5j V1 (Z0F af) hv
 refine ⟨v,by rw [Z9U];exact hv,fun i=> ?_⟩
 by_cases hi:∃ k∈ks,k.at_.toNat=i
 .obtain ⟨k,s,rfl⟩:=hi
  obtain ⟨y,hy,hr⟩:=b1 (Jr k) (Zi0 s)
  obtain ⟨x,hx,he⟩:=ae k s
  rw [hx] at hy
  cases hy
  rw [(Z2Q k).1] at hr
  grind
 .have h1:∀ k∈ks,k.at_.toNat≠i:=fun k s e=> hi ⟨k,s,e⟩
  rw [b2 i (fun k s=> by obtain ⟨q,hq,rfl⟩:=Zar s;rw [(Z2Q q).1];exact h1 q hq),a2 i h1]
  exact rfl
theorem Zxm(n:Int)(l:List Tree)(e:Edit):Yu ⟨0,n,l,e⟩=⟨0,n,l,e⟩:=rfl
theorem Zxl(n:Int)(l:List Tree)(e:Edit):Yu ⟨2,n,l,e⟩=⟨1,n,l,e⟩:=rfl
theorem Zxk(n:Int)(l:List Tree)(e:Edit):Yu ⟨3,n,l,e⟩=⟨3,n,l,Zt e⟩:=rfl
mutual
theorem ZfR:∀ (e:Edit) (d:Int) (t u:Tree),Z1 e d=true->ZX e->RT_ t->doE false e t=some u->∃ v,doE false (Zt e) u=some v/\Eqv v t
 | .mk k o n w ks l os,d,t,u,hr,he,ht,h=> by
  have ri:=Zd hr
  have h1:=Zjh ks
  have h2:=Zjg os
  have aa:=ht.kids
  have au:=ZkX ht.2
  have af:(∀ x∈w,Z2a x)/\Z1r ks/\Z0D os:=by simp only [ZX] at he;exact ⟨he.2.2.2.1,he.2.2.2.2.2.1,he.2.2.2.2.2.2⟩
  rw [Z51,J0] at h
  unfold ZdI at h
  simp only [Zt]
  have s:∀ u:Tree,ZdI false (.mk k n o (w.map Jc) (Yv ks) l (YC os)) u=if k=0 then some u else if k=1 then (if YM (Z6 n) (Z6 u)=true then some o else none) else if k=2 then (if u.kind=1 then (wsD u.words (w.map Jc) u.words).bind fun a=> (JC false u.kids (Yv ks) u.kids).map fun b=> .mk 1 a b else none) else if k=3 then (if u.kind=l then (Z0H (ZE false (YC os) u.kids [])).map fun b=> .mk l [] b else none) else none:=fun _=> rfl
  have fin:∀ x v,x=some v->Eqv v t->ZdI false (.mk k n o (w.map Jc) (Yv ks) l (YC os)) u=x->∃ v,doE false (.mk k n o (w.map Jc) (Yv ks) l (YC os)) u=some v/\Eqv v t:=by
   rintro x v rfl hv hx
   exact ⟨v,by rw [Z51,J0];exact hx,hv⟩
  split at h
  .rename_i c
   cases h
   refine fin _ t rfl rfl ?_
   replace c:k=0:=c
   grind
  .rename_i c0
   replace c0:¬k=0:=c0
   split at h
   .rename_i c1
    replace c1:k=1:=c1
    split at h
    .rename_i c
     cases h
     refine fin _ o rfl (Yk.1 c) ?_
     rw [s,if_neg c0,if_pos c1]
     show (if YM (Z6 n) (Z6 n)=true then some o else none)=some o
     rw [ZaA]
     try rfl
    .cases h
   .rename_i c1
    replace c1:¬k=1:=c1
    split at h
    .rename_i c2
     replace c2:k=2:=c2
     split at h
     .rename_i c
      obtain ⟨a,ha,hb⟩:=Qn.1 h
      obtain ⟨b,ao,e⟩:=Qd.1 hb
      obtain ⟨va,am,ea⟩:=ZoZ ri.words au.2.1 af.1 ha
      obtain ⟨vb,aq,eb⟩:=Zvh ri.kids ao (fun q hq x hx=> h1 (d - 1) q hq _ x (Zk ri.kids q hq).2 af.2.1 (Zey aa.1 _) hx)
      subst e
      refine fin _ (.mk 1 va vb) rfl ((Z4x rfl c).2 ⟨ea,eb⟩) ?_
      rw [s,if_neg c0,if_neg c1,if_pos c2,if_pos (show (Tree.mk 1 a b).kind=1 from rfl)]
      have q1:wsD a (w.map Jc) a=some va:=am
      have q2:JC false b (Yv ks) b=some vb:=aq
      show ((wsD a (w.map Jc) a).bind fun ar=> (JC false b (Yv ks) b).map fun aw=> Tree.mk 1 ar aw)=_
      grind
     .cases h
    .rename_i c2
     replace c2:¬k=2:=c2
     split at h
     .rename_i c3
      replace c3:k=3:=c3
      split at h
      .rename_i c
       obtain ⟨b,hb,e⟩:=Qd.1 h
       unfold Z0H at hb
       obtain ⟨x,hx,hy⟩:=Qn.1 hb
       split at hy
       .rename_i z0
        cases hy
        subst e
        obtain ⟨X,e1,hX⟩:=h2 (d - 1) t.kids [] x (fun q hq=> ⟨_,Go.AM.rightOs_mem ri.ops q hq⟩) af.2.2 aa.1 hx
        obtain ⟨Y,hY,e2⟩:=hX [] []
        have hl:2<=l/\l<=9:=ri.list c3
        have c:t.kind=l:=c
        rw [Qo] at e1
        rw [Qi,<-e1,Qo] at hY
        rw [Q3 z0] at e2
        refine fin _ (.mk l [] Y) rfl ((Zos (a:= .mk l [] Y) (by show l≠0;omega) (by show l≠1;omega)).2 ⟨c.symm,(aa.2 V1 V1 V1).symm,by show Z8 Y=Z8 t.kids;rw [<-e2];simp [Z8]⟩) ?_
        rw [s,if_neg c0,if_neg c1,if_neg c2,if_pos c3,if_pos (show (Tree.mk (Edit.mk k o n w ks l os).list [] x.1).kind=l from rfl)]
        show (Z0H (ZE false (YC os) x.1 [])).map (fun b=> Tree.mk l [] b)=_
        rw [hY]
        try rfl
       .cases hy
      .cases h
     .cases h
theorem Zjh:∀ (ks:List (KidOf Edit)) (d:Int),∀ k∈ks,∀ (t u:Tree),Z1 k.e d=true->Z1r ks->RT_ t->doE false k.e t=some u->∃ v,doE false (Zt k.e) u=some v/\Eqv v t
 | [],d,k,hk=> by cases hk
 | ⟨a,e⟩ ::r,d,k,hk=> by
  have h1:=ZfR e d
  have h2:=Zjh r d
  intro t u hr s ht h
  simp only [Z1r,Z2b] at s
  grind
theorem Zjg:∀ (os:List (OpOf Edit)) (d:Int) (rest out:List Tree) (x:List Tree × List Tree),(∀ o∈os,∃ l,Za l o d=true)->Z0D os->(∀ t∈rest,RT_ t)->ZE false os rest out=some x->
  ∃ X,x.1=out++X/\∀ z aa,∃ Y,ZE false (YC os) (X++z) aa=some (aa++Y,z)/\Z8 Y++Z8 x.2=Z8 rest
 | [],d,rest,out,x,_,_,_,h=> by
  rw [ZE] at h
  cases h
  exact ⟨[],by simp,fun z aa=> ⟨[],by rw [YC,ZE];simp,by rfl⟩⟩
 | o ::s,d,rest,out,x,hr,hg,ht,h=> by
  rw [ZE] at h
  obtain ⟨y,hy,hx⟩:=Qn.1 h
  simp only [Z0D] at hg
  obtain ⟨X0,e0,h0⟩:=Zun o d rest out y (hr o Q1) hg.1 ht hy
  have ab:∀ t∈y.2,RT_ t:=by
   obtain ⟨m,hm⟩:=Z50 (os:=[o]) (by rw [Zd9];exact hy)
   rw [hm]
   exact fun t h=> ht t (QQ h)
  obtain ⟨X1,e1,h1⟩:=Zjg s d y.2 y.1 x (fun q hq=> hr q (Q0 _ hq)) hg.2 ab hx
  refine ⟨X0++X1,by grind,fun z aa=> ?_⟩
  obtain ⟨Y0,p0,q0⟩:=h0 (X1++z) aa
  obtain ⟨Y1,p1,q1⟩:=h1 z (aa++Y0)
  refine ⟨Y0++Y1,?_,?_⟩
  .rw [YC,ZE,Qc,p0,Qb,p1,Qc]
  .rw [YS,Qc,q1,q0]
theorem Zun:∀ (o:OpOf Edit) (d:Int) (rest out:List Tree) (y:List Tree × List Tree),(∃ l,Za l o d=true)->YH o->(∀ t∈rest,RT_ t)->Z2j false o rest out=some y->
  ∃ X,y.1=out++X/\∀ z s,∃ Y,Z2j false (Yu o) (X++z) s=some (s++Y,z)/\Z8 Y++Z8 y.2=Z8 rest
 | ⟨k,n,l,e⟩,d,rest,out,y,⟨li,hr⟩,hg,ht,h=> by
  have ie:=ZfR e d (rest.getD 0 Tree.nil)
  have r1:=Z7C hr
  simp only [YH] at hg
  rw [Z2j] at h
  split at h
  .rename_i c
   subst c
   split at h
   .rename_i c
    cases h
    refine ⟨rest.take n.toNat,rfl,fun z s=> ⟨rest.take n.toNat,?_,?_⟩⟩
    .have hl:(rest.take n.toNat).length=n.toNat:=by rw [Qu];omega
     rw [Zxm,Z2j,if_pos rfl,if_pos (by rw [Q7];omega),List.take_left' hl,List.drop_left' hl]
    .rw [<-YS,QI]
   .cases h
  .rename_i c0
   split at h
   .rename_i c
    subst c
    split at h
    .rename_i c
     cases h
     refine ⟨[],by simp,fun z s=> ⟨l,?_,?_⟩⟩
     .try rfl
     .rw [((Z1Z l rest).1 c).2,<-YS,QI]
    .cases h
   .rename_i c1
    split at h
    .rename_i c
     subst c
     cases h
     refine ⟨l,rfl,fun z s=> ⟨[],?_,by rfl⟩⟩
     have aa:JR l (l++z)=true:=by rw [Z1Z];exact ⟨by simp,by grind⟩
     rw [Zxl,Z2j,Jv,if_pos rfl,if_pos aa,List.drop_left' rfl,Qi]
    .rename_i c2
     split at h
     .cases h
     .rename_i z0
      have hk:k=3:=by rcases r1 with h | h | h | h <;> first | exact absurd h c0 | exact absurd h c1 | exact absurd h c2 | exact h
      subst hk
      obtain ⟨u,hu,ey⟩:=Qd.1 h
      cases ey
      obtain ⟨v,hv,ab⟩:=ie u (Ye hr rfl) hg.2.2.2 (Zey ht 0) hu
      refine ⟨[u],rfl,fun z s=> ⟨[v],?_,?_⟩⟩
      .rw [Zxk,Z2j,Jv,Jv,Jv,if_neg (by simp)]
       grind
      .cases rest with
       | nil=> grind
       | cons a q=>
        show Z8 ([v]++q)=Z8 (a ::q)
        simp only [Z8,Qj,Qo,Qm]
        rw [show Z6 v=Z6 a from ab]
end
theorem Zfg:∀ {ks:List Kid} {k:Kid},k∈ks->Z0 k.e<=Zw ks
 | ⟨_,_⟩ ::r,k,h=> by
  rcases Qa.1 h with rfl | h
  .simp only [Zw,Yo];omega
  .have:=Zfg h;simp only [Zw];omega
theorem Z1V:∀ {os:List Op} {o:Op},o∈os->Zs o<=Zg os
 | a ::r,o,h=> by
  rcases Qa.1 h with rfl | h
  .simp only [Zg];omega
  .have:=Z1V h;simp only [Zg];omega
theorem Zv6(o:Op):Z0 o.e<=Zs o:=by obtain ⟨k,n,l,e⟩:=o;simp only [Zs];omega
theorem ZF{e:Edit}{k:Kid}(h:k∈e.kids):Z0 k.e < Z0 e:=by
 obtain ⟨d,o,n,w,ks,l,os⟩:=e
 have:=Zfg (ks:=ks) h
 simp only [Z0];omega
theorem YD{e:Edit}{o:Op}(h:o∈e.ops):Z0 o.e < Z0 e:=by
 obtain ⟨d,s,n,w,ks,l,os⟩:=e
 have:=Z1V (os:=os) h
 have:=Zv6 o
 simp only [Z0];omega
mutual
theorem Z0o:∀ (t:Tree) (d m:Int),m < 0->Zr t d=true->Zr t m=true
 | .mk k w ks,d,m,hm,h=> by
  rw [Zr] at h ⊢
  by_cases h0:k=0
  .grind
  .rw [if_neg h0] at h ⊢
   by_cases h1:k=10
   .grind
   .rw [if_neg h1] at h ⊢
    by_cases h2:d=0
    .grind
    .rw [if_neg h2] at h
     rw [Jv]
     by_cases h3:k=1
     .rw [if_pos h3,Q2] at h ⊢
      exact ⟨h.1,ZaH 1 ks (d - 1) (m - 1) V1 h.2⟩
     .rw [if_neg h3,Q2] at h ⊢
      exact ⟨h.1,ZaH k ks (d - 1) (m - 1) V1 h.2⟩
theorem ZaH(list:Int):∀ (ks:List Tree) (d m:Int),m < 0->J4 list ks d=true->J4 list ks m=true
 | [],_,_,_,_=> rfl
 | t ::r,d,m,hm,h=> by
  simp only [J4,Q2] at h ⊢
  exact ⟨⟨h.1.1,Z0o t d m hm h.1.2⟩,ZaH list r d m hm h.2⟩
end
theorem Z49{list d:Int}:∀ {ks:List Tree},J4 list ks d=true↔∀ t∈ks,Z2n list t=true/\Zr t d=true
 | []=> by simp [J4]
 | t ::r=> by
  simp only [J4,Q2,Z49 (ks:=r),Qa,forall_eq_or_imp]
theorem Z7B{t:Tree}(h:Zr t (-1)=true):t.kind≠0->t.kind≠10->
  (t.kind=1->t.words.length < 65536/\t.kids.length < 65536)/\(t.kind≠1->(2<=t.kind/\t.kind<=9)/\t.words=[]/\t.kids.length < 1048576)/\∀ k∈t.kids,Z2n t.kind k=true/\Zr k (-1)=true:=by
 obtain ⟨k,w,ks⟩:=t
 intro s h1
 have s:k≠0:=s
 have h1:k≠10:=h1
 rw [Zr,if_neg s,if_neg h1,if_neg V3] at h
 by_cases h3:k=1
 .rw [if_pos h3,Q2,decide_eq_true_eq,Z49] at h
  subst h3
  exact ⟨fun _=> h.1,fun e=> absurd rfl e,fun x d=> ⟨(h.2 x d).1,Z0o _ _ _ V3 (h.2 x d).2⟩⟩
 .rw [if_neg h3,Q2,decide_eq_true_eq,Z49] at h
  exact ⟨fun e=> absurd e h3,fun _=> ⟨⟨h.1.1,h.1.2.1⟩,Q3 h.1.2.2.1,h.1.2.2.2⟩,fun x d=> ⟨(h.2 x d).1,Z0o _ _ _ V3 (h.2 x d).2⟩⟩
theorem ZbR{w:List Int}{ks:List Tree}(h1:w.length < 65536)(h2:ks.length < 65536)(h:∀ k∈ks,Z2n 1 k=true/\Zr k (-1)=true):Zr (.mk 1 w ks) (-1)=true:=by
 rw [Zr,if_neg V3,if_neg V3,if_neg V3,if_pos rfl,Q2,decide_eq_true_eq,Z49]
 exact ⟨⟨h1,h2⟩,fun x d=> ⟨(h x d).1,Z0o _ _ _ V3 (h x d).2⟩⟩
theorem ZaF{l:Int}{ks:List Tree}(hl:2<=l/\l<=9)(h2:ks.length < 1048576)(h:∀ k∈ks,Z2n l k=true/\Zr k (-1)=true):Zr (.mk l [] ks) (-1)=true:=by
 rw [Zr,Jv,Jv,if_neg V3,Jv,Q2,decide_eq_true_eq,Z49]
 exact ⟨⟨hl.1,hl.2,rfl,h2⟩,fun x d=> ⟨(h x d).1,Z0o _ _ _ V3 (h x d).2⟩⟩
theorem Z1Q{D list:Int}:∀ {l:List Tree},J7 D list l=true->∀ t∈l,Zr (.mk list [] [t]) D=true
 | a ::r,h,t,ht=> by
  simp only [J7,Q2] at h
  rcases Qa.1 ht with rfl | ht
  .exact h.1
  .exact Z1Q h.2 t ht
theorem JH{D list:Int}(hl:2<=list/\list<=9){l:List Tree}(h:J7 D list l=true):∀ t∈l,Z2n list t=true/\Zr t (-1)=true:=by
 intro t d
 have:=Z7B (Z0o _ _ (-1) V3 (Z1Q h t d)) (by show list≠0;omega) (by show list≠10;omega)
 simp_all
inductive Run:List Op->List Tree->List Tree->Prop
 | nil:Run [] [] []
 | keep {o r a s d}:o.kind=0->(a.length:Int)=o.n->Run r s d->Run (o ::r) (a++s) (a++d)
 | gone {o r a s d}:o.kind=1->Z8 o.l=Z8 a->Run r s d->Run (o ::r) (a++s) d
 | come {o r s d}:o.kind=2->Run r s d->Run (o ::r) s (o.l++d)
 | into {o r x y s d}:o.kind=3->doE false o.e x=some y->Run r s d->Run (o ::r) (x ::s) (y ::d)
def kOk(o:Op):Prop:=(o.kind=0/\0<=o.n)\/o.kind=1\/o.kind=2\/o.kind=3
theorem Zxy:∀ {os:List Op} {s d:List Tree},Run os s d->∀ out,ZE false os s out=some (out++d,[]):=by
 intro os s d h
 induction h with
 | nil=> intro out;simp [ZE]
 | keep h0 hn hr0 ih=>
  rename_i o r a s d
  intro out
  rw [ZE,Yr,if_pos h0,if_pos (by grind),show o.n.toNat=a.length by omega]
  grind
 | gone h1 hn hr0 ih=>
  rename_i o r a s d
  intro out
  have hl:=Z3J hn
  rw [ZE,Yr,Jv,if_pos h1,if_pos]
  .grind
  .rw [Z1Z,hl,XW]
   grind
 | come h2 hr0 ih=>
  intro out
  rw [ZE,Yr,Jv,Jv,if_pos h2]
  grind
 | into h3 he hr0 ih=>
  intro out
  rw [ZE,Yr,Jv,Jv,Jv,if_neg (by simp)]
  grind
theorem Zix:∀ {os:List Op} {s out:List Tree} {x:List Tree × List Tree},(∀ o∈os,kOk o)->ZE false os s out=some x->x.2=[]->∃ d,x.1=out++d/\Run os s d
 | [],s,out,x,_,h,hx=> by
  rw [ZE] at h
  cases h
  have hx:s=[]:=hx
  subst hx
  exact ⟨[],by simp,.nil⟩
 | o ::r,s,out,x,hk,h,hx=> by
  rw [ZE,Yr] at h
  have hr:∀ o∈r,kOk o:=fun o ho=> hk o (Q0 _ ho)
  rcases hk o Q1 with h0 | h1 | h2 | h3
  .rw [if_pos h0.1] at h
   split at h
   .rename_i hl
    simp only [Qb] at h
    obtain ⟨d,e,hd⟩:=Zix hr h hx
    refine ⟨s.take o.n.toNat++d,by grind,?_⟩
    have:=Run.keep (a:=s.take o.n.toNat) h0.1 (by grind) hd
    simp_all
   .cases h
  .rw [Jv,if_pos h1] at h
   split at h
   .rename_i hg
    obtain ⟨g1,g2⟩:=(Z1Z _ _).1 hg
    simp only [Qb] at h
    obtain ⟨d,e,hd⟩:=Zix hr h hx
    refine ⟨d,e,?_⟩
    have:=Run.gone (a:=s.take o.l.length) h1 g2 hd
    simp_all
   .cases h
  .rw [Jv,Jv,if_pos h2] at h
   simp only [Qb] at h
   obtain ⟨d,e,hd⟩:=Zix hr h hx
   exact ⟨o.l++d,by grind,.come h2 hd⟩
  .rw [Jv,Jv,Jv] at h
   split at h
   .cases h
   .rename_i hl
    obtain ⟨y,hy,h⟩:=Qn.1 h
    obtain ⟨z,hz,rfl⟩:=Qd.1 hy
    obtain ⟨d,e,hd⟩:=Zix hr h hx
    cases s with
    | nil=> simp at hl
    | cons x0 s=>
     refine ⟨z ::d,by rw [e];simp,.into h3 (by simpa using hz) (by simpa using hd)⟩
theorem Z4Y{os:List Op}{s d:List Tree}(hk:∀ o∈os,kOk o):Z0H (ZE false os s [])=some d↔Run os s d:=by
 constructor
 .intro h
  unfold Z0H at h
  obtain ⟨x,hx,h⟩:=Qn.1 h
  split at h
  .rename_i hl
   cases h
   obtain ⟨d,e,hd⟩:=Zix hk hx (Q3 hl)
   grind
  .cases h
 .intro h
  have:=Zxy h []
  unfold Z0H
  grind
theorem Zee{list d:Int}{o:Op}(h:Za list o d=true):kOk o:=by
 have:=Zu h
 cases this with
 | keep n h1=> exact .inl ⟨rfl,by grind⟩
 | gone=> exact .inr (.inl rfl)
 | come=> exact .inr (.inr (.inl rfl))
 | into=> exact .inr (.inr (.inr rfl))
theorem ZrE:∀ {os:List Op} {s d:List Tree},Run os s d->(∀ o∈os,ZZ o)->(s.length:Int)=YL os/\(d.length:Int)=JY os:=by
 intro os s d h
 induction h with
 | nil=> intro _;simp [YL,JY]
 | keep h0 hn hr0 ih=>
  rename_i o r a s d
  intro hk
  obtain ⟨i1,i2⟩:=ih fun o ho=> hk o (Q0 _ ho)
  have ho:=hk o Q1
  have hl:Z2 o=o.n:=by
   rcases ho with h | h | h
   .unfold Z2;rw [Jv,h.2.1];simp
   .omega
   .omega
  simp only [YL,JY,Q7]
  rw [Jv,Jv,hl]
  omega
 | gone h1 hn hr0 ih=>
  rename_i o r a s d
  intro hk
  obtain ⟨i1,i2⟩:=ih fun o ho=> hk o (Q0 _ ho)
  have ho:=hk o Q1
  have hl:Z2 o=a.length:=by
   have:=Z3J hn
   rcases ho with h | h | h
   .omega
   .unfold Z2;rw [Jv,h.2.1];omega
   .omega
  simp only [YL,JY,Q7]
  rw [Jv,if_pos h1,hl]
  omega
 | come h2 hr0 ih=>
  rename_i o r s d
  intro hk
  obtain ⟨i1,i2⟩:=ih fun o ho=> hk o (Q0 _ ho)
  have ho:=hk o Q1
  have hl:Z2 o=o.l.length:=by
   rcases ho with h | h | h
   .omega
   .unfold Z2;rw [Jv,h.2.1];omega
   .omega
  simp only [YL,JY,Q7]
  rw [if_pos h2,Jv,hl]
  omega
 | into h3 he hr0 ih=>
  rename_i o r x y s d
  intro hk
  obtain ⟨i1,i2⟩:=ih fun o ho=> hk o (Q0 _ ho)
  have hl:Z2 o=1:=by unfold Z2;rw [if_pos h3]
  simp only [YL,JY,Q8]
  rw [Jv,Jv,hl]
  omega
theorem Zow{r:Bool}{tk:List Tree}:∀ {ks:List Kid} {out b:List Tree},JC r tk ks out=some b->(∀ k∈ks,k.at_<=65534)->
  b.length<=max out.length 65535/\∀ y∈b,y∈out\/y=Tree.nil\/∃ k∈ks,doE r k.e (tk.getD k.at_.toNat Tree.nil)=some y
 | [],out,b,h,_=> by
  rw [JC] at h
  cases h
  exact ⟨V1,fun y d=> .inl d⟩
 | k ::s,out,b,h,ha=> by
  rw [JC,Z2k] at h
  obtain ⟨v,hv,hb⟩:=Qn.1 h
  obtain ⟨i1,i2⟩:=Zow hb fun x hx=> ha x (Q0 _ hx)
  have:=ha k Q1
  rw [Z1q] at i1
  refine ⟨V1,fun y d=> ?_⟩
  rcases i2 y d with h1 | h1 | ⟨q,hq,h1⟩
  .rcases Z47 h1 with h1 | h1 | h1
   .exact .inl h1
   .exact .inr (.inl h1)
   .subst h1
    exact .inr (.inr ⟨k,Q1,hv⟩)
  .exact .inr (.inl h1)
  .exact .inr (.inr ⟨q,Q0 _ hq,h1⟩)
theorem ZBG:∀ {os:List Op} {s d:List Tree},Run os s d->∀ y∈d,y∈s\/(∃ o∈os,o.kind=2/\y∈o.l)\/∃ o∈os,o.kind=3/\∃ x∈s,doE false o.e x=some y:=by
 intro os s d h
 induction h with
 | nil=> grind
 | keep h0 hn hr0 ih=>
  grind
 | gone h1 hn hr0 ih=>
  grind
 | come h2 hr0 ih=>
  grind
 | into h3 he hr0 ih=>
  grind
theorem ZzQ{y:Tree}(h:y.kind≠10):Z2n 1 y=true:=by
 unfold Z2n
 grind
theorem Zb2{list d:Int}{os:List Op}(h:ZA list os d=true):∀ o∈os,ZZ o:=fun o s=> Yl (rightOs_mem h s)
theorem JD{o:Op}(h:ZZ o):0<=Z2 o:=by have:=Yh h;omega
theorem Z71{e:Edit}{d:Int}{t u:Tree}(hr:Z1 e d=true)(h:doE false e t=some u):(e.kind=1->u=e.new)/\(e.kind=2->u.kind=1/\t.kind=1)/\(e.kind=3->u.kind=e.list/\t.kind=e.list)/\(e.kind=0->u=t):=by
 rw [Z13,J0] at h
 refine ⟨fun s=> ?_,fun s=> ?_,fun s=> ?_,fun s=> ?_⟩
 .grind
 .rw [Jv,Jv,if_pos s] at h
  split at h
  .rename_i ht
   obtain ⟨a,ha,h⟩:=Qn.1 h
   obtain ⟨b,hb,rfl⟩:=Qd.1 h
   simp_all
  .cases h
 .rw [Jv,Jv,Jv,if_pos s] at h
  split at h
  .rename_i ht
   obtain ⟨b,hb,rfl⟩:=Qd.1 h
   simp_all
  .cases h
 grind
theorem Z65:∀ (n:Nat) (e:Edit) (d:Int) (t u:Tree),Z0 e<=n->Z1 e d=true->Zr t (-1)=true->doE false e t=some u->Zr u (-1)=true/\(e.kind≠0->u.kind≠10):=by
 intro n
 induction n with
 | zero=> intro e d t u hm;obtain ⟨k,o,nw,w,ks,l,os⟩:=e;simp only [Z0] at hm;omega
 | succ n ih=>
  intro e d t u hm hr ht h
  have R:=Zd hr
  obtain ⟨k1,k2,k3,k0⟩:=Z71 hr h
  have hk:=R.kind
  by_cases h0:e.kind=0
  .grind
  by_cases h1:e.kind=1
  .rw [k1 h1]
   obtain ⟨r1,r2,r3,r4⟩:=R.rep h1
   exact ⟨Z0o _ _ _ V3 r2,fun _=> r4⟩
  by_cases h2:e.kind=2
  .obtain ⟨u1,t1⟩:=k2 h2
   refine ⟨?_,fun _=> by omega⟩
   rw [Z13,J0,if_neg h0,if_neg h1,if_pos h2,if_pos t1] at h
   obtain ⟨a,ha,h⟩:=Qn.1 h
   obtain ⟨b,hb,rfl⟩:=Qd.1 h
   obtain ⟨p1,_,p3⟩:=Z7B ht V1 V1
   have p1:=p1 t1
   rw [t1] at p3
   have hl:=ZkD R.words ha
   have aa:=Zk R.kids
   obtain ⟨m1,m2⟩:=Zow hb fun k hk=> (aa k hk).1.2.1
   refine ZbR V1 V1 fun y hy=> ?_
   rcases m2 y hy with h | rfl | ⟨k,hk,h⟩
   .exact p3 y h
   .trivial
   .have hx:Zr (t.kids.getD k.at_.toNat Tree.nil) (-1)=true:=by
     by_cases hi:k.at_.toNat < t.kids.length
     .grind
     .rw [Qp,QK V1];try rfl
    obtain ⟨g1,g2⟩:=ih k.e _ _ y (by have:=ZF hk;omega) (aa k hk).2 hx h
    exact ⟨ZzQ (g2 (aa k hk).1.2.2),g1⟩
  .have h3:e.kind=3:=V1
   obtain ⟨u1,t1⟩:=k3 h3
   have ah:=R.list h3
   refine ⟨?_,fun _=> by omega⟩
   rw [Z13,J0,if_neg h0,if_neg h1,if_neg h2,if_pos h3,if_pos t1] at h
   obtain ⟨b,hb,rfl⟩:=Qd.1 h
   have ho:∀ o∈e.ops,Za e.list o (d - 1)=true:=fun o h=> rightOs_mem R.ops h
   have s:=(Z4Y (fun o h=> Zee (ho o h))).1 hb
   obtain ⟨_,q2⟩:=ZrE s (Zb2 R.ops)
   obtain ⟨q3,q4⟩:=Jo e.ops 0 (fun o h=> JD (Zb2 R.ops o h)) V3 V3
   have q5:=R.len.2
   obtain ⟨_,_,p3⟩:=Z7B ht V1 V1
   rw [t1] at p3
   refine ZaF ah V1 fun y hy=> ?_
   rcases ZBG s y hy with h | ⟨o,hoo,hk2,hyl⟩ | ⟨o,hoo,hk3,x,hx,h⟩
   .exact p3 y h
   .have:=Zu (ho o hoo)
    cases this with
    | come l h1 h2=> exact JH ah h1 y hyl
    | keep | gone | into=> grind
   .have:=Zu (ho o hoo)
    cases this with
    | into e' g1 g2 g3 g4=>
     obtain ⟨f1,f2⟩:=ih e' _ x y (by have:=YD hoo;grind) g1 (p3 x hx).2 h
     refine ⟨?_,f1⟩
     obtain ⟨j1,j2,_,_⟩:=Z71 g1 h
     unfold Z2n
     grind
    | keep | gone | come=> grind
theorem Z0n{o:Op}{r:List Op}{s d:List Tree}(h0:o.kind=0):Run (o ::r) s d↔∃ a s' d',s=a++s'/\d=a++d'/\(a.length:Int)=o.n/\Run r s' d':=by
 constructor
 .intro h
  cases h with
  | keep _ h2 h3=> grind
  | gone h1=> omega
  | come h1=> omega
  | into h1=> omega
 .rintro ⟨a,s',d',rfl,rfl,h2,h3⟩
  exact .keep h0 h2 h3
theorem YN{o:Op}{r:List Op}{s d:List Tree}(h0:o.kind=1):Run (o ::r) s d↔∃ a s',s=a++s'/\Z8 o.l=Z8 a/\Run r s' d:=by
 constructor
 .intro h
  cases h with
  | gone _ h2 h3=> grind
  | keep h1=> omega
  | come h1=> omega
  | into h1=> omega
 .rintro ⟨a,s',rfl,h2,h3⟩
  exact .gone h0 h2 h3
theorem YO{o:Op}{r:List Op}{s d:List Tree}(h0:o.kind=2):Run (o ::r) s d↔∃ d',d=o.l++d'/\Run r s d':=by
 constructor
 .intro h
  cases h with
  | come _ h3=> grind
  | keep h1=> omega
  | gone h1=> omega
  | into h1=> omega
 .rintro ⟨d',rfl,h3⟩
  exact .come h0 h3
theorem Z0S{o:Op}{r:List Op}{s d:List Tree}(h0:o.kind=3):Run (o ::r) s d↔∃ x s' y d',s=x ::s'/\d=y ::d'/\doE false o.e x=some y/\Run r s' d':=by
 constructor
 .intro h
  cases h with
  | into _ h2 h3=> grind
  | keep h1=> omega
  | gone h1=> omega
  | come h1=> omega
 .rintro ⟨x,s',y,d',rfl,rfl,h2,h3⟩
  exact .into h0 h2 h3
theorem Z8N{o:Op}{p r:List Op}(h:∀ s d,Run p s d↔Run r s d)(hk:kOk o)(s d:List Tree):Run (o ::p) s d↔Run (o ::r) s d:=by
 rcases hk with h0 | h1 | h2 | h3
 .rw [Z0n h0.1,Z0n h0.1];simp only [h]
 .rw [YN h1,YN h1];simp only [h]
 .rw [YO h2,YO h2];simp only [h]
 .rw [Z0S h3,Z0S h3];simp only [h]
theorem Y8{o:Op}(h:ZZ o):kOk o:=by
 rcases h with h | h | h
 .exact .inl ⟨h.1,V1⟩
 .rcases h.1 with h1 | h1
  .exact .inr (.inl h1)
  .exact .inr (.inr (.inl h1))
 .exact .inr (.inr (.inr h.1))
theorem Z3p{o:Op}(h:ZZ o)(h0:o.kind=0):Z2 o=o.n:=by
 rcases h with h | h | h
 .unfold Z2;rw [Jv,h.2.1];simp
 .omega
 .omega
theorem ZU{o:Op}(h:ZZ o)(h0:o.kind=1\/o.kind=2):Z2 o=o.l.length:=by
 rcases h with h | h | h
 .omega
 .unfold Z2;omega
 .omega
theorem JS{o:Op}(h0:o.kind=3):Z2 o=1:=by unfold Z2;rw [if_pos h0]
theorem ZkV{o:Op}{r:List Op}{s m:List Tree}(ho:ZZ o)(hk:o.kind≠1)(h:Run (o ::r) s m):∃ m1 s' m',m=m1++m'/\(m1.length:Int)=Z2 o/\Run r s' m':=by
 rcases Y8 ho with h0 | h1 | h2 | h3
 .obtain ⟨a,s',d,_,rfl,hl,hr⟩:=(Z0n h0.1).1 h
  exact ⟨a,s',d,rfl,by rw [Z3p ho h0.1];exact hl,hr⟩
 .omega
 .obtain ⟨d,rfl,hr⟩:=(YO h2).1 h
  exact ⟨o.l,s,d,rfl,by rw [ZU ho (.inr h2)],hr⟩
 .obtain ⟨x,s',y,d,_,rfl,_,hr⟩:=(Z0S h3).1 h
  exact ⟨[y],s',d,rfl,by rw [JS h3];rfl,hr⟩
theorem Zp8{o:Op}{r:List Op}{m d:List Tree}(ho:ZZ o)(hk:o.kind≠2)(h:Run (o ::r) m d):∃ m1 m' d',m=m1++m'/\(m1.length:Int)=Z2 o/\Run r m' d':=by
 rcases Y8 ho with h0 | h1 | h2 | h3
 .obtain ⟨a,s',d',rfl,_,hl,s⟩:=(Z0n h0.1).1 h
  exact ⟨a,s',d',rfl,by rw [Z3p ho h0.1];exact hl,s⟩
 .obtain ⟨a,s',rfl,hn,s⟩:=(YN h1).1 h
  exact ⟨a,s',d,rfl,by rw [ZU ho (.inl h1),Z3J hn],s⟩
 .omega
 .obtain ⟨x,s',y,d',rfl,_,_,s⟩:=(Z0S h3).1 h
  exact ⟨[x],s',d',rfl,by rw [JS h3];rfl,s⟩
theorem Zuy{o:Op}{r:List Op}{n:Int}(ho:ZZ o)(h1:1<=n)(hn:¬Z2 o<=n)(s d:List Tree):Run (o ::r) s d↔Run (ZK o n ::Z0M o n ::r) s d:=by
 unfold ZK Z0M
 rw [if_neg hn]
 rcases Y8 ho with h0 | hg | hc | hi
 .have hl:=Z3p ho h0.1
  rw [if_pos h0.1,if_pos h0.1,Z0n h0.1,Z0n (o:=⟨o.kind,n,o.l,o.e⟩) h0.1]
  constructor
  .rintro ⟨a,s',d',rfl,rfl,ha,h⟩
   refine ⟨a.take n.toNat,a.drop n.toNat++s',a.drop n.toNat++d',by rw [<-Qc,QI],by rw [<-Qc,QI],by grind,?_⟩
   exact (Z0n (o:=⟨o.kind,o.n - n,o.l,o.e⟩) h0.1).2 ⟨a.drop n.toNat,s',d',rfl,rfl,by grind,h⟩
  .rintro ⟨a,s',d',rfl,rfl,ha,h⟩
   obtain ⟨b,s2,d2,rfl,rfl,hb,aa⟩:=(Z0n (o:=⟨o.kind,o.n - n,o.l,o.e⟩) h0.1).1 h
   grind
 .have hl:=ZU ho (.inl hg)
  rw [Jv,Jv,YN hg,YN (o:=⟨o.kind,o.n,o.l.take n.toNat,o.e⟩) hg]
  constructor
  .rintro ⟨a,s',rfl,ha,h⟩
   have ak:=Z3J ha
   refine ⟨a.take n.toNat,a.drop n.toNat++s',by rw [<-Qc,QI],EqvL.take ha _,?_⟩
   exact (YN (o:=⟨o.kind,o.n,o.l.drop n.toNat,o.e⟩) hg).2 ⟨a.drop n.toNat,s',rfl,EqvL.drop ha _,h⟩
  .rintro ⟨a,s',rfl,ha,h⟩
   obtain ⟨b,s2,rfl,hb,aa⟩:=(YN (o:=⟨o.kind,o.n,o.l.drop n.toNat,o.e⟩) hg).1 h
   refine ⟨a++b,s2,by grind,?_,aa⟩
   have:=JN ha hb
   simp_all
 .rw [Jv,Jv,YO hc,YO (o:=⟨o.kind,o.n,o.l.take n.toNat,o.e⟩) hc]
  constructor
  .rintro ⟨d',rfl,h⟩
   refine ⟨o.l.drop n.toNat++d',by rw [<-Qc,QI],?_⟩
   exact (YO (o:=⟨o.kind,o.n,o.l.drop n.toNat,o.e⟩) hc).2 ⟨d',rfl,h⟩
  .rintro ⟨d',rfl,h⟩
   obtain ⟨d2,rfl,aa⟩:=(YO (o:=⟨o.kind,o.n,o.l.drop n.toNat,o.e⟩) hc).1 h
   exact ⟨d2,by rw [<-Qc,QI],aa⟩
 .rw [JS hi] at hn
  omega
def Z2q:List Piece->List Op
 | []=> []
 | x ::r=> (if x.of=2 then [] else [x.p])++Z2q r
def Z2p:List Piece->List Op
 | []=> []
 | x ::r=> (if x.of=1 then [] else [x.q])++Z2p r
def Part(l:List Op)(o:Op):Prop:=∃ o'∈l,o.kind=o'.kind/\o.e=o'.e/\Zs o<=Zs o'/\∀ t∈o.l,t∈o'.l
structure POk (p q:List Op) (x:Piece):Prop where
 of:x.of=0\/x.of=1\/x.of=2
 pp:x.of≠2->Part p x.p/\ZZ x.p
 qq:x.of≠1->Part q x.q/\ZZ x.q
 one:x.of=1->x.p.kind=1
 two:x.of=2->x.q.kind=2
 both:x.of=0->x.p.kind≠1/\x.q.kind≠2/\Z2 x.p=Z2 x.q
 pn:x.of=2->x.p=Op.nil
 qn:x.of=1->x.q=Op.nil
theorem Part.mono{l l':List Op}{o:Op}(h:Part l o)(hl:∀ x∈l,Part l' x):Part l' o:=by
 obtain ⟨o',h1,d,h3,h5,h4⟩:=h
 obtain ⟨o2,g1,g2,g3,s,g4⟩:=hl o' h1
 exact ⟨o2,g1,d.trans g2,h3.trans g3,QN h5 s,fun t ht=> g4 t (h4 t ht)⟩
theorem Part.self{l:List Op}{o:Op}(h:o∈l):Part l o:=⟨o,h,rfl,rfl,Q9 _,fun _ h=> h⟩
theorem POk.mono{p q p' q':List Op}{x:Piece}(h:POk p q x)(hp:∀ x∈p,Part p' x)(hq:∀ x∈q,Part q' x):POk p' q' x:=
 ⟨h.of,fun e=> ⟨(h.pp e).1.mono hp,(h.pp e).2⟩,fun e=> ⟨(h.qq e).1.mono hq,(h.qq e).2⟩,h.one,h.two,h.both,h.pn,h.qn⟩
theorem ZmV{o:Op}{r:List Op}{n:Int}(h:∀ x∈o ::r,ZZ x)(h1:1<=n)(hn:n<=Z2 o):
  ZZ (ZK o n)/\Z2 (ZK o n)=n/\(ZK o n).kind=o.kind/\Part (o ::r) (ZK o n)/\(∀ x∈Yd (o ::r) n,ZZ x/\Part (o ::r) x)/\∀ s d,Run (o ::r) s d↔Run (ZK o n ::Yd (o ::r) n) s d:=by
 have ho:=h o Q1
 have hr:∀ x∈r,ZZ x/\Part (o ::r) x:=fun x hx=> ⟨h x (Q0 _ hx),Part.self (Q0 _ hx)⟩
 unfold Yd
 simp only [Qr,QC,QZ]
 by_cases hl:Z2 o<=n
 .rw [if_pos hl]
  have e:ZK o n=o:=by unfold ZK;rw [if_pos hl]
  rw [e]
  exact ⟨ho,V1,rfl,Part.self Q1,hr,fun s d=> QA⟩
 .rw [if_neg hl]
  obtain ⟨_,v2,v3,v4⟩:=Z7n (a:=1) ho h1 hl
  obtain ⟨b1,b2⟩:=Zdg ho h1 hl
  refine ⟨v2,v3,Z1F o n,?_,?_,Zuy ho h1 hl⟩
  .refine ⟨o,Q1,Z1F o n,?_,v4,?_⟩
   .unfold ZK;split;rfl;split <;> rfl
   .intro t ht
    unfold ZK at ht
    split at ht
    .exact ht
    .split at ht
     .exact ht
     .exact XE ht
  .intro x hx
   rcases Qa.1 hx with rfl | hx
   .refine ⟨b1,o,Q1,?_,?_,b2,?_⟩
    .unfold Z0M;split <;> rfl
    .unfold Z0M;split <;> rfl
    .intro t ht
     unfold Z0M at ht
     split at ht
     .exact ht
     .exact QQ ht
   .exact hr x hx
theorem ZY{d:List Tree}{s:List Tree}(h:Run [] s d):s=[]/\d=[]:=by cases h;grind
theorem Z4m:∀ (k:Nat) (p q:List Op) (out:List Piece),p.length+q.length<=k->(∀ o∈p,ZZ o)->(∀ o∈q,ZZ o)->
  ((Y7 1 2 p q out).2.1=true->∃ ps,(Y7 1 2 p q out).1=out++ps/\(∀ x∈ps,POk p q x)/\(∀ s m,Run p s m↔Run (Z2q ps) s m)/\∀ m d,Run q m d↔Run (Z2p ps) m d)/\
  ((Y7 1 2 p q out).2.1=false->∀ s m d,Run p s m->Run q m d->False):=by
 intro k
 induction k with
 | zero=>
  intro p q out hk hp hq
  have e1:p=[]:=Q3 V1
  have e2:q=[]:=Q3 V1
  subst e1 e2
  have e:Y7 1 2 [] [] out=(out,true,[],[]):=by
   rw [Y7,dif_neg (by simp [sgl]),dif_neg (by simp [sgl]),dif_pos (by simp)]
   try rfl
  rw [e]
  exact ⟨fun _=> ⟨[],by simp,fun x hx=> (by cases hx),fun s m=> QA,fun m d=> QA⟩,fun h=> by cases h⟩
 | succ k ih=>
  intro p q out hk hp hq
  rw [Y7]
  by_cases h1:sgl 1 p=true
  .rw [dif_pos h1]
   obtain ⟨g1,g2⟩:=Z1C.1 h1
   cases p with
   | nil=> grind
   | cons a p'=>
    simp only [Qr] at g2
    simp only [Qr,QC,QZ]
    have ha:=hp a Q1
    obtain ⟨i1,i2⟩:=ih p' q (out++[⟨1,a,Op.nil⟩]) (by grind) (fun o ho=> hp o (Q0 _ ho)) hq
    refine ⟨fun h=> ?_,fun h s m d r1 r2=> ?_⟩
    .obtain ⟨ps,e,af,hP,hQ⟩:=i1 h
     refine ⟨⟨1,a,Op.nil⟩ ::ps,by grind,fun x hx=> ?_,fun s m=> ?_,fun m d=> ?_⟩
     .rcases Qa.1 hx with rfl | hx
      .exact ⟨.inr (.inl rfl),fun _=> ⟨Part.self Q1,ha⟩,fun e=> absurd rfl e,fun _=> g2,fun e=> (by cases e),fun e=> (by cases e),fun e=> (by cases e),fun _=> rfl⟩
      .exact (af x hx).mono (fun x hx=> Part.self (Q0 _ hx)) (fun x hx=> Part.self hx)
     .show _↔Run (a ::Z2q ps) s m
      exact Z8N hP (Y8 ha) s m
     .exact hQ m d
    .obtain ⟨b,s',_,_,hr⟩:=(YN g2).1 r1
     grind
  .rw [dif_neg h1]
   by_cases h2:sgl 2 q=true
   .rw [dif_pos h2]
    obtain ⟨g1,g2⟩:=Z1C.1 h2
    cases q with
    | nil=> grind
    | cons a q'=>
     simp only [Qr] at g2
     simp only [Qr,QC,QZ]
     have ha:=hq a Q1
     obtain ⟨i1,i2⟩:=ih p q' (out++[⟨2,Op.nil,a⟩]) (by grind) hp (fun o ho=> hq o (Q0 _ ho))
     refine ⟨fun h=> ?_,fun h s m d r1 r2=> ?_⟩
     .obtain ⟨ps,e,af,hP,hQ⟩:=i1 h
      refine ⟨⟨2,Op.nil,a⟩ ::ps,by grind,fun x hx=> ?_,fun s m=> ?_,fun m d=> ?_⟩
      .rcases Qa.1 hx with rfl | hx
       .exact ⟨.inr (.inr rfl),fun e=> absurd rfl e,fun _=> ⟨Part.self Q1,ha⟩,fun e=> (by cases e),fun _=> g2,fun e=> (by cases e),fun _=> rfl,fun e=> (by cases e)⟩
       .exact (af x hx).mono (fun x hx=> Part.self hx) (fun x hx=> Part.self (Q0 _ hx))
      .exact hP s m
      .show _↔Run (a ::Z2p ps) m d
       exact Z8N hQ (Y8 ha) m d
     .obtain ⟨d',_,hr⟩:=(YO g2).1 r2
      grind
   .rw [dif_neg h2]
    by_cases h3:p.length=0\/q.length=0
    .rw [dif_pos h3]
     by_cases h4:p.length=0
     .have e1:p=[]:=Q3 h4
      subst e1
      by_cases h5:q.length=0
      .have e2:q=[]:=Q3 h5
       subst e2
       rw [if_pos rfl]
       exact ⟨fun _=> ⟨[],by simp,fun x hx=> (by cases hx),fun s m=> QA,fun m d=> QA⟩,fun h=> by cases h⟩
      .rw [if_neg (by grind)]
       refine ⟨fun h=> (by cases h),fun _ s m d r1 r2=> ?_⟩
       cases q with
       | nil=> exact h5 rfl
       | cons a q'=>
        have ha:=hq a Q1
        obtain ⟨_,rfl⟩:=ZY r1
        obtain ⟨m1,m',d',e,hl,_⟩:=Zp8 ha (fun e=> h2 (Z1C.2 ⟨by simp,by simpa using e⟩)) r2
        have:=Yh ha
        have e:=congrArg List.length e
        grind
     .have h5:q.length=0:=V1
      have e2:q=[]:=Q3 h5
      subst e2
      rw [if_neg (by grind)]
      refine ⟨fun h=> (by cases h),fun _ s m d r1 r2=> ?_⟩
      cases p with
      | nil=> exact h4 rfl
      | cons a p'=>
       have ha:=hp a Q1
       obtain ⟨rfl,_⟩:=ZY r2
       obtain ⟨m1,s',m',e,hl,_⟩:=ZkV ha (fun e=> h1 (Z1C.2 ⟨by simp,by simpa using e⟩)) r1
       have:=Yh ha
       have e:=congrArg List.length e
       grind
    .rw [dif_neg h3]
     cases p with
     | nil=> simp at h3
     | cons a p'=>
      cases q with
      | nil=> simp at h3
      | cons b q'=>
       have ha:=hp a Q1
       have hb:=hq b Q1
       have ka:a.kind≠1:=fun e=> h1 (Z1C.2 ⟨by simp,by simpa using e⟩)
       have kb:b.kind≠2:=fun e=> h2 (Z1C.2 ⟨by simp,by simpa using e⟩)
       have la:=Yh ha
       have lb:=Yh hb
       simp only [Qr]
       generalize hn:min (Z2 a) (Z2 b)=n
       have ar:1<=n:=V1
       have az:n<=Z2 a:=V1
       have a7:n<=Z2 b:=V1
       obtain ⟨a1,a2,a3,a4,a5,a6⟩:=ZmV hp ar az
       obtain ⟨b1,b2,b3,b4,b5,b6⟩:=ZmV hq ar a7
       have aw:(Yd (a ::p') n).length+(Yd (b ::q') n).length<=k:=by
        have x1:=Jg (a ::p') n (by simp)
        have x2:=Jg (b ::q') n (by simp)
        simp only [Q8] at hk x1 x2
        rcases Int.le_total (Z2 a) (Z2 b) with h | h
        .have:=Jf (a ::p') n (by simp) (by grind)
         grind
        .have:=Jf (b ::q') n (by simp) (by grind)
         grind
       obtain ⟨i1,i2⟩:=ih (Yd (a ::p') n) (Yd (b ::q') n) (out++[⟨0,ZK a n,ZK b n⟩]) aw (fun o ho=> (a5 o ho).1) (fun o ho=> (b5 o ho).1)
       refine ⟨fun h=> ?_,fun h s m d r1 r2=> ?_⟩
       .obtain ⟨ps,e,af,hP,hQ⟩:=i1 h
        refine ⟨⟨0,ZK a n,ZK b n⟩ ::ps,by grind,fun x hx=> ?_,fun s m=> ?_,fun m d=> ?_⟩
        .rcases Qa.1 hx with rfl | hx
         .exact ⟨.inl rfl,fun _=> ⟨a4,a1⟩,fun _=> ⟨b4,b1⟩,fun e=> (by cases e),fun e=> (by cases e),fun _=> ⟨by grind,by grind,by grind⟩,fun e=> (by cases e),fun e=> (by cases e)⟩
         .exact (af x hx).mono (fun x hx=> (a5 x hx).2) (fun x hx=> (b5 x hx).2)
        .rw [a6 s m]
         exact Z8N hP (Y8 a1) s m
        .rw [b6 m d]
         exact Z8N hQ (Y8 b1) m d
       .rw [a6] at r1
        rw [b6] at r2
        obtain ⟨m1,s',m',e,hl,r3⟩:=ZkV a1 V1 r1
        obtain ⟨m2,m3,d',e',bp,r4⟩:=Zp8 b1 V1 r2
        obtain ⟨_,e2⟩:=K6 (e.symm.trans e') V1
        grind
theorem ZmN{e:Edit}{d:Int}{x y l:Tree}(hr:Z1 e d=true)(he:ZX e)(hx:RT_ x)(hl:RT_ l)(h:doE false e x=some y)(hy:Eqv y l):∃ z,doE false (Zp (Zt e)) l=some z/\Eqv z x:=by
 obtain ⟨v,hv,ab⟩:=ZfR e d x y hr he hx h
 have h1:=Zda (Zt e) d y l (J1 e d hr) hy
 have s:=Zb4 (Zt e) d l (J1 e d hr) hl
 rw [hv] at h1
 cases hw:doE false (Zt e) l with
 | none=> rw [hw] at h1;exact h1.elim
 | some w=>
  rw [hw] at h1 s
  cases hz:doE false (Zp (Zt e)) l with
  | none=> rw [hz] at s;exact s.elim
  | some z=>
   rw [hz] at s
   have h1:Eqv v w:=h1
   have s:Eqv z w:=s
   exact ⟨z,rfl,s.trans (h1.symm.trans ab)⟩
theorem ZmO{e:Edit}{d:Int}{x z l:Tree}(hr:Z1 e d=true)(he:ZX e)(hl:RT_ l)(h:doE false (Zp (Zt e)) l=some z)(hz:Eqv z x):∃ y,doE false e x=some y/\Eqv y l:=by
 have s:=Zb4 (Zt e) d l (J1 e d hr) hl
 rw [h] at s
 cases hw:doE false (Zt e) l with
 | none=> rw [hw] at s;exact s.elim
 | some w=>
  rw [hw] at s
  have s:Eqv z w:=s
  obtain ⟨v,hv,ab⟩:=ZfR (Zt e) d l w (J1 e d hr) (Z5C e he) hl hw
  rw [Zdn] at hv
  have h1:=Zda e d w x hr (s.symm.trans hz)
  rw [hv] at h1
  cases hy:doE false e x with
  | none=> rw [hy] at h1;exact h1.elim
  | some y=>
   rw [hy] at h1
   have h1:Eqv v y:=h1
   exact ⟨y,rfl,h1.symm.trans ab⟩
structure ComOk (c:Edit × Bool) (p q:Edit):Prop where
 fwd:∀ {t w},RT_ t->c.2=true->doE false c.1 t=some w->∃ u v,doE false p t=some u/\doE false q u=some v/\Eqv w v
 bwd:∀ {t u v},RT_ t->doE false p t=some u->doE false q u=some v->c.2=true/\∃ w,doE false c.1 t=some w/\Eqv w v
def ROp(o:Op):Prop:=(o.kind=3->(∃ d,Z1 o.e d=true)/\ZX o.e)/\∀ t∈o.l,RT_ t
theorem Zh0{o:Op}{r:List Op}{s d:List Tree}(hk:kOk o):Run (o ::r) s d↔∃ s1 s2 d1 d2,s=s1++s2/\d=d1++d2/\Run [o] s1 d1/\Run r s2 d2:=by
 constructor
 .intro h
  rcases hk with h0 | h1 | h2 | h3
  .obtain ⟨a,s',d',rfl,rfl,hl,hr⟩:=(Z0n h0.1).1 h
   exact ⟨a,s',a,d',rfl,rfl,(Z0n h0.1).2 ⟨a,[],[],by simp,by simp,hl,.nil⟩,hr⟩
  .obtain ⟨a,s',rfl,hl,hr⟩:=(YN h1).1 h
   exact ⟨a,s',[],d,rfl,rfl,(YN h1).2 ⟨a,[],by simp,hl,.nil⟩,hr⟩
  .obtain ⟨d',rfl,hr⟩:=(YO h2).1 h
   exact ⟨[],s,o.l,d',rfl,rfl,(YO h2).2 ⟨[],by simp,.nil⟩,hr⟩
  .obtain ⟨x,s',y,d',rfl,rfl,he,hr⟩:=(Z0S h3).1 h
   exact ⟨[x],s',[y],d',rfl,rfl,.into h3 he .nil,hr⟩
 .rintro ⟨s1,s2,d1,d2,rfl,rfl,h1,h2⟩
  rcases hk with h0 | hg | hc | h3
  .obtain ⟨a,s',d',rfl,rfl,hl,hr⟩:=(Z0n h0.1).1 h1
   obtain ⟨rfl,rfl⟩:=ZY hr
   rw [Qi]
   exact .keep h0.1 hl h2
  .obtain ⟨a,s',rfl,hl,hr⟩:=(YN hg).1 h1
   obtain ⟨rfl,rfl⟩:=ZY hr
   rw [Qi]
   exact .gone hg hl h2
  .obtain ⟨d',rfl,hr⟩:=(YO hc).1 h1
   obtain ⟨rfl,rfl⟩:=ZY hr
   rw [Qi]
   exact .come hc h2
  .obtain ⟨x,s',y,d',rfl,rfl,he,hr⟩:=(Z0S h3).1 h1
   obtain ⟨rfl,rfl⟩:=ZY hr
   exact .into h3 he h2
theorem ZeJ{o:Op}{s d:List Tree}(ho:ZZ o)(hk:o.kind≠1)(h:Run [o] s d):(d.length:Int)=Z2 o:=by
 obtain ⟨m1,s',m',rfl,hl,hr⟩:=ZkV ho hk h
 obtain ⟨_,rfl⟩:=ZY hr
 simpa using hl
theorem ZgZ{o:Op}{s d:List Tree}(ho:ZZ o)(hk:o.kind≠2)(h:Run [o] s d):(s.length:Int)=Z2 o:=by
 obtain ⟨m1,s',m',rfl,hl,hr⟩:=Zp8 ho hk h
 obtain ⟨rfl,_⟩:=ZY hr
 simpa using hl
theorem ZbO{o:Op}{s:List Tree}(h0:o.kind=0)(hl:(s.length:Int)=o.n):Run [o] s s:=
 (Z0n h0).2 ⟨s,[],[],by simp,by simp,hl,.nil⟩
theorem Zab{o:Op}{s d:List Tree}(h0:o.kind=0)(h:Run [o] s d):d=s:=by
 obtain ⟨a,s',d',rfl,rfl,hl,hr⟩:=(Z0n h0).1 h
 obtain ⟨rfl,rfl⟩:=ZY hr
 try rfl
theorem Z4p{l:List Tree}(h:(l.length:Int)=1):l=[l.getD 0 Tree.nil]:=by
 match l,h with
 | [a],_=> rfl
 | [],h=> simp at h
 | a ::b ::r,h=> grind
theorem Zot{a b c d:List Tree}(h:EqvL a b)(h':EqvL c d):EqvL (a++c) (b++d):=JN h h'
theorem ZuO {f:Edit->Edit->Edit × Bool} {p0 q0:List Op} {x:Piece} (hx:POk p0 q0 x) (hp:x.of≠2->ROp x.p) (hq:x.of≠1->ROp x.q) (hf:x.p.kind=3->x.q.kind=3->x.of=0->ComOk (f x.p.e x.q.e) x.p.e x.q.e)
  {s w:List Tree} (hs:∀ t∈s,RT_ t) (aa:(Zx f x).ok=true) (hr:Run (if (Zx f x).is then [(Zx f x).op] else []) s w):
  ∃ m d,Run (if x.of=2 then [] else [x.p]) s m/\Run (if x.of=1 then [] else [x.q]) m d/\EqvL w d:=by
 rcases hx.of with h0 | h1 | h2
 .obtain ⟨pk,qk,hl⟩:=hx.both h0
  obtain ⟨_,op⟩:=hx.pp V1
  obtain ⟨_,oq⟩:=hx.qq V1
  have rp:=hp V1
  have rq:=hq V1
  rw [Jv,Jv]
  by_cases kq0:x.q.kind=0
  .have e:Zx f x=⟨x.p,true,true⟩:=by unfold Zx;grind
   rw [e] at hr
   exact ⟨w,w,hr,ZbO kq0 (by rw [ZeJ op pk hr,hl,Z3p oq kq0]),rfl⟩
  by_cases kp0:x.p.kind=0
  .have e:Zx f x=⟨x.q,true,true⟩:=by unfold Zx;grind
   rw [e] at hr
   exact ⟨s,w,ZbO kp0 (by rw [ZgZ oq qk hr,<-hl,Z3p op kp0]),hr,rfl⟩
  by_cases k21:x.p.kind=2/\x.q.kind=1
  .have lp:=ZU op (.inr k21.1)
   have lq:=ZU oq (.inl k21.2)
   have e:Zx f x=⟨Op.nil,false,Zeq x.p.l (x.q.l.take x.p.l.length)⟩:=by unfold Zx;rw [Jv,Jv,if_pos k21]
   rw [e] at hr aa
   obtain ⟨rfl,rfl⟩:=ZY hr
   have aa:Zeq x.p.l (x.q.l.take x.p.l.length)=true:=aa
   unfold Zeq at aa
   rw [Z07,Qq V1] at aa
   exact ⟨x.p.l,[],(YO k21.1).2 ⟨[],by simp,.nil⟩,(YN k21.2).2 ⟨x.p.l,[],by simp,aa.symm,.nil⟩,rfl⟩
  by_cases kp2:x.p.kind=2
  .have af:x.q.kind=3:=by rcases Y8 oq with h | h | h | h <;> omega
   have lp:=ZU op (.inr kp2)
   rw [hl,JS af] at lp
   have e:Zx f x=⟨⟨2,0,[(doB x.q.e (x.p.l.getD 0 Tree.nil)).1],Edit.nil⟩,true,(doB x.q.e (x.p.l.getD 0 Tree.nil)).2⟩:=by unfold Zx;rw [Jv,Jv,if_neg k21,if_pos kp2]
   rw [e] at hr aa
   have az:=Z4p lp.symm
   cases hy:doE false x.q.e (x.p.l.getD 0 Tree.nil) with
   | none=> unfold doB at aa;grind
   | some y=>
    have e2:(doB x.q.e (x.p.l.getD 0 Tree.nil)).1=Z6 y:=by unfold doB;rw [hy];try rfl
    rw [e2] at hr
    obtain ⟨d',rfl,ab⟩:=(YO (o:=⟨2,0,[Z6 y],Edit.nil⟩) rfl).1 hr
    obtain ⟨rfl,rfl⟩:=ZY ab
    refine ⟨[x.p.l.getD 0 Tree.nil],[y],(YO kp2).2 ⟨[],by grind,.nil⟩,.into af hy .nil,?_⟩
    show Z8 ([Z6 y]++[])=Z8 [y]
    simp [Z8,J9]
  have ae:x.p.kind=3:=by rcases Y8 op with h | h | h | h <;> omega
  by_cases kq1:x.q.kind=1
  .have lq:=ZU oq (.inl kq1)
   rw [<-hl,JS ae] at lq
   have e:Zx f x=⟨⟨1,0,[(doB (Zp (Zt x.p.e)) (x.q.l.getD 0 Tree.nil)).1],Edit.nil⟩,true,(doB (Zp (Zt x.p.e)) (x.q.l.getD 0 Tree.nil)).2⟩:=by unfold Zx;rw [Jv,Jv,if_neg k21,if_neg kp2,if_pos kq1]
   rw [e] at hr aa
   have ai:=Z4p lq.symm
   have ao:RT_ (x.q.l.getD 0 Tree.nil):=rq.2 _ (by rw [ai];simp)
   cases hz:doE false (Zp (Zt x.p.e)) (x.q.l.getD 0 Tree.nil) with
   | none=> unfold doB at aa;grind
   | some z=>
    have e2:(doB (Zp (Zt x.p.e)) (x.q.l.getD 0 Tree.nil)).1=Z6 z:=by unfold doB;rw [hz];try rfl
    rw [e2] at hr
    obtain ⟨a,s',rfl,hn,ab⟩:=(YN (o:=⟨1,0,[Z6 z],Edit.nil⟩) rfl).1 hr
    obtain ⟨rfl,rfl⟩:=ZY ab
    have a1:=Z3J hn
    have aj:=Z4p (l:=a) (by grind)
    rw [aj] at hn
    have aq:Eqv z (a.getD 0 Tree.nil):=by
     have:=Z01.1 hn
     unfold Eqv
     rw [<-this,J9]
    obtain ⟨⟨dd,rd⟩,re⟩:=rp.1 ae
    obtain ⟨y,hy,au⟩:=ZmO rd re ao hz aq
    refine ⟨[y],[],?_,?_,rfl⟩
    .rw [Qi,aj]
     exact .into ae hy .nil
    .refine (YN kq1).2 ⟨[y],[],by simp,?_,.nil⟩
     rw [ai]
     exact (Z01.2 au).symm
  .have af:x.q.kind=3:=by rcases Y8 oq with h | h | h | h <;> omega
   have e:Zx f x=⟨⟨3,0,[],(f x.p.e x.q.e).1⟩,true,(f x.p.e x.q.e).2⟩:=by unfold Zx;grind
   rw [e] at hr aa
   obtain ⟨x0,s',y0,d',rfl,rfl,hd,ab⟩:=(Z0S (o:=⟨3,0,[],(f x.p.e x.q.e).1⟩) rfl).1 hr
   obtain ⟨rfl,rfl⟩:=ZY ab
   obtain ⟨u,v,hu,hv,hw⟩:=(hf ae af h0).fwd (hs x0 (by simp)) aa hd
   exact ⟨[u],[v],.into ae hu .nil,.into af hv .nil,Z01.2 hw⟩
 .have e:Zx f x=⟨x.p,true,true⟩:=by unfold Zx;grind
  rw [e] at hr
  rw [Jv,if_pos h1]
  obtain ⟨a,s',rfl,hn,ab⟩:=(YN (hx.one h1)).1 hr
  obtain ⟨rfl,rfl⟩:=ZY ab
  exact ⟨[],[],(YN (hx.one h1)).2 ⟨a,[],rfl,hn,.nil⟩,.nil,rfl⟩
 .have e:Zx f x=⟨x.q,true,true⟩:=by unfold Zx;grind
  rw [e] at hr
  rw [if_pos h2,Jv]
  obtain ⟨d',rfl,ab⟩:=(YO (hx.two h2)).1 hr
  obtain ⟨rfl,rfl⟩:=ZY ab
  exact ⟨[],_,.nil,(YO (hx.two h2)).2 ⟨[],rfl,.nil⟩,rfl⟩
theorem ZuP {f:Edit->Edit->Edit × Bool} {p0 q0:List Op} {x:Piece} (hx:POk p0 q0 x) (hp:x.of≠2->ROp x.p) (hq:x.of≠1->ROp x.q) (hf:x.p.kind=3->x.q.kind=3->x.of=0->ComOk (f x.p.e x.q.e) x.p.e x.q.e)
  {s m d:List Tree} (hs:∀ t∈s,RT_ t) (h1r:Run (if x.of=2 then [] else [x.p]) s m) (h2r:Run (if x.of=1 then [] else [x.q]) m d):
  (Zx f x).ok=true/\∃ w,Run (if (Zx f x).is then [(Zx f x).op] else []) s w/\EqvL w d:=by
 rcases hx.of with h0 | h1 | h2
 .obtain ⟨pk,qk,hl⟩:=hx.both h0
  obtain ⟨_,op⟩:=hx.pp V1
  obtain ⟨_,oq⟩:=hx.qq V1
  have rp:=hp V1
  have rq:=hq V1
  rw [Jv] at h1r h2r
  by_cases kq0:x.q.kind=0
  .have e:Zx f x=⟨x.p,true,true⟩:=by unfold Zx;grind
   rw [e]
   have:=Zab kq0 h2r
   subst this
   exact ⟨rfl,d,h1r,rfl⟩
  by_cases kp0:x.p.kind=0
  .have e:Zx f x=⟨x.q,true,true⟩:=by unfold Zx;grind
   rw [e]
   have:=Zab kp0 h1r
   subst this
   exact ⟨rfl,d,h2r,rfl⟩
  by_cases k21:x.p.kind=2/\x.q.kind=1
  .have lp:=ZU op (.inr k21.1)
   have lq:=ZU oq (.inl k21.2)
   have e:Zx f x=⟨Op.nil,false,Zeq x.p.l (x.q.l.take x.p.l.length)⟩:=by unfold Zx;rw [Jv,Jv,if_pos k21]
   rw [e]
   obtain ⟨d',rfl,aa⟩:=(YO k21.1).1 h1r
   obtain ⟨rfl,rfl⟩:=ZY aa
   rw [Qi] at h2r
   obtain ⟨a,s',ha,hn,ab⟩:=(YN k21.2).1 h2r
   obtain ⟨rfl,rfl⟩:=ZY ab
   rw [Qi] at ha
   subst ha
   refine ⟨?_,[],.nil,rfl⟩
   show Zeq x.p.l (x.q.l.take x.p.l.length)=true
   unfold Zeq
   rw [Z07,Qq V1]
   exact hn.symm
  by_cases kp2:x.p.kind=2
  .have ae:x.q.kind=3:=by rcases Y8 oq with h | h | h | h <;> omega
   have lp:=ZU op (.inr kp2)
   rw [hl,JS ae] at lp
   have e:Zx f x=⟨⟨2,0,[(doB x.q.e (x.p.l.getD 0 Tree.nil)).1],Edit.nil⟩,true,(doB x.q.e (x.p.l.getD 0 Tree.nil)).2⟩:=by unfold Zx;rw [Jv,Jv,if_neg k21,if_pos kp2]
   rw [e]
   have ar:=Z4p lp.symm
   obtain ⟨d',rfl,aa⟩:=(YO kp2).1 h1r
   obtain ⟨rfl,rfl⟩:=ZY aa
   rw [Qi,ar] at h2r
   obtain ⟨x0,s',y0,d',e1,rfl,hd,aa⟩:=(Z0S ae).1 h2r
   cases e1
   obtain ⟨_,rfl⟩:=ZY aa
   have e2:doB x.q.e (x.p.l.getD 0 Tree.nil)=(Z6 y0,true):=by unfold doB;rw [hd];try rfl
   rw [e2]
   refine ⟨rfl,[Z6 y0],(YO (o:=⟨2,0,[Z6 y0],Edit.nil⟩) rfl).2 ⟨[],by simp,.nil⟩,?_⟩
   exact Z01.2 (J9 y0)
  have af:x.p.kind=3:=by rcases Y8 op with h | h | h | h <;> omega
  obtain ⟨x0,s',y0,d',rfl,rfl,hd,aa⟩:=(Z0S af).1 h1r
  obtain ⟨rfl,rfl⟩:=ZY aa
  have ai:=hs x0 (by simp)
  obtain ⟨⟨dd,rd⟩,re⟩:=rp.1 af
  by_cases kq1:x.q.kind=1
  .have lq:=ZU oq (.inl kq1)
   rw [<-hl,JS af] at lq
   have e:Zx f x=⟨⟨1,0,[(doB (Zp (Zt x.p.e)) (x.q.l.getD 0 Tree.nil)).1],Edit.nil⟩,true,(doB (Zp (Zt x.p.e)) (x.q.l.getD 0 Tree.nil)).2⟩:=by unfold Zx;rw [Jv,Jv,if_neg k21,if_neg kp2,if_pos kq1]
   rw [e]
   have ah:=Z4p lq.symm
   have aw:RT_ (x.q.l.getD 0 Tree.nil):=rq.2 _ (by rw [ah];simp)
   obtain ⟨a,s2,ha,hn,ab⟩:=(YN kq1).1 h2r
   obtain ⟨rfl,rfl⟩:=ZY ab
   rw [Qi] at ha
   subst ha
   rw [ah] at hn
   obtain ⟨z,hz,ay⟩:=ZmN rd re ai aw hd (Z01.1 hn).symm
   have e2:doB (Zp (Zt x.p.e)) (x.q.l.getD 0 Tree.nil)=(Z6 z,true):=by unfold doB;rw [hz];try rfl
   rw [e2]
   refine ⟨rfl,[],(YN (o:=⟨1,0,[Z6 z],Edit.nil⟩) rfl).2 ⟨[x0],[],by simp,?_,.nil⟩,rfl⟩
   refine Z01.2 ?_
   rw [J9]
   exact ay
  .have ae:x.q.kind=3:=by rcases Y8 oq with h | h | h | h <;> omega
   have e:Zx f x=⟨⟨3,0,[],(f x.p.e x.q.e).1⟩,true,(f x.p.e x.q.e).2⟩:=by unfold Zx;grind
   rw [e]
   obtain ⟨x1,s2,y1,d2,e1,rfl,av,ab⟩:=(Z0S ae).1 h2r
   cases e1
   obtain ⟨_,rfl⟩:=ZY ab
   obtain ⟨c2,w,hw,au⟩:=(hf af ae h0).bwd ai hd av
   exact ⟨c2,[w],(Z0S (o:=⟨3,0,[],(f x.p.e x.q.e).1⟩) rfl).2 ⟨x0,[],w,[],rfl,rfl,hw,.nil⟩,Z01.2 au⟩
 .have e:Zx f x=⟨x.p,true,true⟩:=by unfold Zx;grind
  rw [Jv] at h1r
  rw [if_pos h1] at h2r
  rw [e]
  obtain ⟨rfl,rfl⟩:=ZY h2r
  exact ⟨rfl,[],h1r,rfl⟩
 .have e:Zx f x=⟨x.q,true,true⟩:=by unfold Zx;grind
  rw [if_pos h2] at h1r
  rw [Jv] at h2r
  rw [e]
  obtain ⟨rfl,rfl⟩:=ZY h1r
  exact ⟨rfl,d,h2r,rfl⟩
theorem Z6z:∀ {a b:List Op} {s d:List Tree},(∀ o∈a,kOk o)->(Run (a++b) s d↔∃ s1 s2 d1 d2,s=s1++s2/\d=d1++d2/\Run a s1 d1/\Run b s2 d2)
 | [],b,s,d,_=> by
  constructor
  .intro h;exact ⟨[],s,[],d,rfl,rfl,.nil,h⟩
  .rintro ⟨s1,s2,d1,d2,rfl,rfl,h1,h2⟩
   obtain ⟨rfl,rfl⟩:=ZY h1
   exact h2
 | o ::a,b,s,d,hk=> by
  have ho:=hk o Q1
  have ih:=fun s d=> Z6z (a:=a) (b:=b) (s:=s) (d:=d) fun x hx=> hk x (Q0 _ hx)
  rw [Qj,Zh0 ho]
  constructor
  .rintro ⟨s1,s2,d1,d2,rfl,rfl,h1,h2⟩
   obtain ⟨s3,s4,d3,d4,rfl,rfl,h3,h4⟩:=(ih _ _).1 h2
   exact ⟨s1++s3,s4,d1++d3,d4,by grind,by grind,(Zh0 ho).2 ⟨s1,s3,d1,d3,rfl,rfl,h1,h3⟩,h4⟩
  .rintro ⟨s1,s2,d1,d2,rfl,rfl,h1,h2⟩
   obtain ⟨s3,s4,d3,d4,rfl,rfl,h3,h4⟩:=(Zh0 ho).1 h1
   exact ⟨s3,s4++s2,d3,d4++d2,by grind,by grind,h3,(ih _ _).2 ⟨s4,s2,d4,d2,rfl,rfl,h4,h2⟩⟩
theorem ZqH{f:Edit->Edit->Edit × Bool}{p0 q0:List Op}{x:Piece}(hx:POk p0 q0 x):kOk (Zx f x).op:=by
 unfold Zx
 split
 .rename_i h
  exact Y8 (hx.pp V1).2
 .split
  .rename_i d s
   refine Y8 (hx.qq ?_).2
   omega
  .split
   .exact .inl ⟨rfl,QS 0⟩
   .split
    .exact .inr (.inr (.inl rfl))
    .split
     .exact .inr (.inl rfl)
     .exact .inr (.inr (.inr rfl))
theorem ZhC{f:Edit->Edit->Edit × Bool}{p0 q0:List Op}:∀ {ps:List Piece} {ops:List Op} {s w:List Tree},(∀ x∈ps,POk p0 q0 x)->(∀ x∈ps,(x.of≠2->ROp x.p)/\(x.of≠1->ROp x.q))->
  (∀ x∈ps,x.p.kind=3->x.q.kind=3->x.of=0->ComOk (f x.p.e x.q.e) x.p.e x.q.e)->(∀ t∈s,RT_ t)->Jx f ps=some ops->Run ops s w->∃ m d,Run (Z2q ps) s m/\Run (Z2p ps) m d/\EqvL w d
 | [],ops,s,w,_,_,_,_,h,hr=> by
  cases h
  obtain ⟨rfl,rfl⟩:=ZY hr
  exact ⟨[],[],.nil,.nil,rfl⟩
 | x ::r,ops,s,w,hx,hp,hf,hs,h,hr=> by
  rw [Jx] at h
  split at h
  .rename_i aj
   obtain ⟨l,hl,rfl⟩:=Qd.1 h
   have ab:=hx x Q1
   have hk:∀ o∈(if (Zx f x).is then [(Zx f x).op] else []),kOk o:=by
    intro o ho
    split at ho
    .rw [Qe.1 ho];exact ZqH ab
    .cases ho
   obtain ⟨s1,s2,w1,w2,rfl,rfl,r1,r2⟩:=(Z6z hk).1 hr
   obtain ⟨m1,d1,a1,a2,a3⟩:=ZuO ab (hp x Q1).1 (hp x Q1).2 (hf x Q1) (fun t ht=> hs t (QR _ ht)) aj r1
   obtain ⟨m2,d2,b1,b2,b3⟩:=ZhC (fun y hy=> hx y (Q0 _ hy)) (fun y hy=> hp y (Q0 _ hy)) (fun y hy=> hf y (Q0 _ hy)) (fun t ht=> hs t (Xd _ ht)) hl r2
   refine ⟨m1++m2,d1++d2,?_,?_,Zot a3 b3⟩
   .refine (Z6z ?_).2 ⟨s1,s2,m1,m2,rfl,rfl,a1,b1⟩
    intro o ho
    split at ho
    .cases ho
    .rw [Qe.1 ho];exact Y8 (ab.pp (by assumption)).2
   .refine (Z6z ?_).2 ⟨m1,m2,d1,d2,rfl,rfl,a2,b2⟩
    intro o ho
    split at ho
    .cases ho
    .rw [Qe.1 ho];exact Y8 (ab.qq (by assumption)).2
  .cases h
theorem ZhD{f:Edit->Edit->Edit × Bool}{p0 q0:List Op}:∀ {ps:List Piece} {s m d:List Tree},(∀ x∈ps,POk p0 q0 x)->(∀ x∈ps,(x.of≠2->ROp x.p)/\(x.of≠1->ROp x.q))->
  (∀ x∈ps,x.p.kind=3->x.q.kind=3->x.of=0->ComOk (f x.p.e x.q.e) x.p.e x.q.e)->(∀ t∈s,RT_ t)->Run (Z2q ps) s m->Run (Z2p ps) m d->∃ ops w,Jx f ps=some ops/\Run ops s w/\EqvL w d
 | [],s,m,d,_,_,_,_,h1,h2=> by
  obtain ⟨rfl,rfl⟩:=ZY h1
  obtain ⟨_,rfl⟩:=ZY h2
  exact ⟨[],[],rfl,.nil,rfl⟩
 | x ::r,s,m,d,hx,hp,hf,hs,h1,h2=> by
  have h:=hx x Q1
  have kp:∀ o∈(if x.of=2 then [] else [x.p]),kOk o:=by
   intro o ho
   split at ho
   .cases ho
   .rw [Qe.1 ho];exact Y8 (h.pp (by assumption)).2
  have kq:∀ o∈(if x.of=1 then [] else [x.q]),kOk o:=by
   intro o ho
   split at ho
   .cases ho
   .rw [Qe.1 ho];exact Y8 (h.qq (by assumption)).2
  obtain ⟨s1,s2,m1,m2,rfl,rfl,a1,a2⟩:=(Z6z kp).1 h1
  obtain ⟨m3,m4,d1,d2,hm,rfl,b1,b2⟩:=(Z6z kq).1 h2
  have ah:m1.length=m3.length:=by
   rcases h.of with h0 | g1 | g2
   .obtain ⟨pk,qk,hl⟩:=h.both h0
    rw [Jv] at a1 b1
    have:=ZeJ (h.pp V1).2 pk a1
    have:=ZgZ (h.qq V1).2 qk b1
    omega
   .rw [Jv] at a1
    rw [if_pos g1] at b1
    obtain ⟨a,s',rfl,hn,ab⟩:=(YN (h.one g1)).1 a1
    obtain ⟨rfl,rfl⟩:=ZY ab
    obtain ⟨rfl,_⟩:=ZY b1
    try rfl
   .rw [if_pos g2] at a1
    rw [Jv] at b1
    obtain ⟨_,rfl⟩:=ZY a1
    obtain ⟨d',rfl,ab⟩:=(YO (h.two g2)).1 b1
    obtain ⟨rfl,_⟩:=ZY ab
    try rfl
  obtain ⟨rfl,rfl⟩:=K6 hm ah
  obtain ⟨ak,w1,c1,c2⟩:=ZuP h (hp x Q1).1 (hp x Q1).2 (hf x Q1) (fun t ht=> hs t (QR _ ht)) a1 b1
  obtain ⟨ops,w2,e1,e2,e3⟩:=ZhD (fun y hy=> hx y (Q0 _ hy)) (fun y hy=> hp y (Q0 _ hy)) (fun y hy=> hf y (Q0 _ hy)) (fun t ht=> hs t (Xd _ ht)) a2 b2
  refine ⟨(if (Zx f x).is then [(Zx f x).op] else [])++ops,w1++w2,?_,?_,Zot c2 e3⟩
  .rw [Jx,if_pos ak,e1];try rfl
  .refine (Z6z ?_).2 ⟨s1,s2,w1,w2,rfl,rfl,c1,e2⟩
   intro o ho
   split at ho
   .rw [Qe.1 ho];exact ZqH h
   .cases ho
section
variable {β:Type} {at_:β->Int} {one:β->β->β × Bool}
structure MSpec (at_:β->Int) (one:β->β->β × Bool) (last:Int) (p q L:List β):Prop where
 asc_:asc at_ last L
 of:∀ x∈L,(x∈p/\∀ b∈q,at_ b≠at_ x)\/(x∈q/\∀ a∈p,at_ a≠at_ x)\/∃ a∈p,∃ b∈q,at_ a=at_ b/\(one a b).2=true/\x=(one a b).1
 left:∀ a∈p,(∀ b∈q,at_ b≠at_ a)->a∈L
 right:∀ b∈q,(∀ a∈p,at_ a≠at_ b)->b∈L
 both:∀ a∈p,∀ b∈q,at_ a=at_ b->(one a b).2=true/\(one a b).1∈L
theorem Z4s(hone:∀ a b,at_ a=at_ b->(one a b).2=true->at_ (one a b).1=at_ a):∀ (k:Nat) (p q:List β) (ab:Int),p.length+q.length<=k->asc at_ ab p->asc at_ ab q->
  (Zf at_ one p q=none->∃ a∈p,∃ b∈q,at_ a=at_ b/\(one a b).2=false)/\∀ L,Zf at_ one p q=some L->MSpec at_ one ab p q L:=by
 intro k
 induction k with
 | zero=>
  intro p q ab hk hp hq
  have e1:p=[]:=Q3 V1
  have e2:q=[]:=Q3 V1
  subst e1 e2
  rw [Zf]
  refine ⟨fun h=> (by cases h),fun L h=> ?_⟩
  cases h
  exact ⟨trivial,fun x s=> (by cases s),fun a ha=> (by cases ha),fun a ha=> (by cases ha),fun a ha=> (by cases ha)⟩
 | succ k ih=>
  intro p q ab hk hp hq
  match p,q with
  | [],q=>
   rw [Zf]
   refine ⟨fun h=> (by cases h),fun L h=> ?_⟩
   cases h
   exact ⟨hq,fun x s=> .inr (.inl ⟨s,fun a ha=> (by cases ha)⟩),fun a ha=> (by cases ha),fun b hb _=> hb,fun a ha=> (by cases ha)⟩
  | a ::p,[]=>
   rw [Zf]
   refine ⟨fun h=> (by cases h),fun L h=> ?_⟩
   cases h
   exact ⟨hp,fun x s=> .inl ⟨s,fun a ha=> (by cases ha)⟩,fun b hb _=> hb,fun a ha=> (by cases ha),fun a _ b hb=> (by cases hb)⟩
  | a ::p,b ::q=>
   have gp:=fun x s=> Z2M hp.2 x s
   have gq:=fun x s=> Z2M hq.2 x s
   simp only [Q8] at hk
   rw [Zf]
   by_cases h1:at_ a < at_ b
   .rw [if_pos h1]
    obtain ⟨i1,i2⟩:=ih p (b ::q) (at_ a) (by grind) hp.2 ⟨h1,hq.2⟩
    refine ⟨fun h=> ?_,fun L h=> ?_⟩
    .simp_all
    .obtain ⟨L',hL,rfl⟩:=Qd.1 h
     have S:=i2 L' hL
     have na:∀ y∈b ::q,at_ y≠at_ a:=by
      intro y hy
      rcases Qa.1 hy with rfl | hy
      .omega
      .have:=gq y hy;omega
     refine ⟨⟨hp.1,S.asc_⟩,fun x s=> ?_,fun x s hn=> ?_,fun y hy hn=> ?_,fun x s y hy e=> ?_⟩
     .rcases Qa.1 s with rfl | s
      .grind
      .rcases S.of x s with ⟨h2,h3⟩ | ⟨h2,h3⟩ | ⟨c,hc,d,hd,h2⟩
       .grind
       .grind
       .exact .inr (.inr ⟨c,Q0 _ hc,d,hd,h2⟩)
     .rcases Qa.1 s with rfl | s
      .grind
      .exact Q0 _ (S.left x s hn)
     .exact Q0 _ (S.right y hy fun c hc=> hn c (Q0 _ hc))
     .rcases Qa.1 s with rfl | s
      .grind
      .obtain ⟨h2,h3⟩:=S.both x s y hy e
       grind
   .rw [if_neg h1]
    by_cases h2:at_ b < at_ a
    .rw [if_pos h2]
     obtain ⟨i1,i2⟩:=ih (a ::p) q (at_ b) (by grind) ⟨h2,hp.2⟩ hq.2
     refine ⟨fun h=> ?_,fun L h=> ?_⟩
     .rw [Option.map_eq_none_iff] at h
      obtain ⟨x,s,y,hy,e⟩:=i1 h
      exact ⟨x,s,y,Q0 _ hy,e⟩
     .obtain ⟨L',hL,rfl⟩:=Qd.1 h
      have S:=i2 L' hL
      have nb:∀ y∈a ::p,at_ y≠at_ b:=by
       intro y hy
       rcases Qa.1 hy with rfl | hy
       .omega
       .have:=gp y hy;omega
      refine ⟨⟨hq.1,S.asc_⟩,fun x s=> ?_,fun x s hn=> ?_,fun y hy hn=> ?_,fun x s y hy e=> ?_⟩
      .rcases Qa.1 s with rfl | s
       .grind
       .rcases S.of x s with ⟨h3,h4⟩ | ⟨h3,h4⟩ | ⟨c,hc,d,hd,h3⟩
        .grind
        .grind
        .exact .inr (.inr ⟨c,hc,d,Q0 _ hd,h3⟩)
      .exact Q0 _ (S.left x s fun c hc=> hn c (Q0 _ hc))
      .rcases Qa.1 hy with rfl | hy
       .grind
       .exact Q0 _ (S.right y hy hn)
      .rcases Qa.1 hy with rfl | hy
       .grind
       .obtain ⟨h3,h4⟩:=S.both x s y hy e
        grind
    .rw [if_neg h2]
     have e0:at_ a=at_ b:=V1
     by_cases h3:(one a b).2=true
     .rw [if_pos h3]
      obtain ⟨i1,i2⟩:=ih p q (at_ a) V1 hp.2 (by rw [e0];exact hq.2)
      refine ⟨fun h=> ?_,fun L h=> ?_⟩
      .rw [Option.map_eq_none_iff] at h
       obtain ⟨x,s,y,hy,e⟩:=i1 h
       exact ⟨x,Q0 _ s,y,Q0 _ hy,e⟩
      .obtain ⟨L',hL,rfl⟩:=Qd.1 h
       have S:=i2 L' hL
       have ar:=hone a b e0 h3
       have na:∀ y∈q,at_ y≠at_ a:=fun y hy=> by grind
       have nb:∀ y∈p,at_ y≠at_ b:=fun y hy=> by grind
       refine ⟨⟨by rw [ar];exact hp.1,by rw [ar];exact S.asc_⟩,fun x s=> ?_,fun x s hn=> ?_,fun y hy hn=> ?_,fun x s y hy e=> ?_⟩
       .rcases Qa.1 s with rfl | s
        .simp_all
        .rcases S.of x s with ⟨h4,h5⟩ | ⟨h4,h5⟩ | ⟨c,hc,d,hd,h4⟩
         .refine .inl ⟨Q0 _ h4,fun c hc=> ?_⟩
          grind
         .refine .inr (.inl ⟨Q0 _ h4,fun c hc=> ?_⟩)
          grind
         .exact .inr (.inr ⟨c,Q0 _ hc,d,Q0 _ hd,h4⟩)
       .rcases Qa.1 s with rfl | s
        .simp_all
        .exact Q0 _ (S.left x s fun c hc=> hn c (Q0 _ hc))
       .rcases Qa.1 hy with rfl | hy
        .simp_all
        .exact Q0 _ (S.right y hy fun c hc=> hn c (Q0 _ hc))
       .rcases Qa.1 s with rfl | s
        .grind
        .rcases Qa.1 hy with rfl | hy
         .grind
         .obtain ⟨h4,h5⟩:=S.both x s y hy e
          grind
     simp_all
variable {α:Type} {z:α} {F:β->α->Option α} {R:α->α->Prop}
def Z2V(z:α)(F:β->α->Option α)(at_:β->Int)(l:List α)(w:β):Option α:=F w (l.getD (at_ w).toNat z)
theorem Z77{last:Int}(hl: -1<=last){l:List β}(h:asc at_ last l):∀ w∈l,0<=at_ w:=fun w d=> by have:=Z2M h w d;omega
theorem ZkW (hone:∀ a b,at_ a=at_ b->(one a b).2=true->at_ (one a b).1=at_ a) (Rr:∀ x,R x x) {p q L:List β} {l r:List α} (hp:asc at_ (-1) p) (hq:asc at_ (-1) q)
  (hf:∀ a∈p,∀ b∈q,at_ a=at_ b->∀ w,(one a b).2=true->F (one a b).1 (l.getD (at_ a).toNat z)=some w->∃ u v,F a (l.getD (at_ a).toNat z)=some u/\F b u=some v/\R w v)
  (h:Zf at_ one p q=some L) (hr:mg z (Z2V z F at_ l) at_ L l=some r):
  ∃ r1 r2,mg z (Z2V z F at_ l) at_ p l=some r1/\mg z (Z2V z F at_ r1) at_ q r1=some r2/\∀ i,R (r.getD i z) (r2.getD i z):=by
 have S:=(Z4s hone _ p q (-1) (Q9 _) hp hq).2 L h
 obtain ⟨g1,g2⟩:=Z5j V1 S.asc_ hr
 have np:=Z77 V3 hp
 have nq:=Z77 V3 hq
 have k1:∀ a∈p,∃ u,Z2V z F at_ l a=some u:=by
  intro a d
  by_cases hb:∃ b∈q,at_ b=at_ a
  .obtain ⟨b,hb,e⟩:=hb
   obtain ⟨c1,c2⟩:=S.both a d b hb e.symm
   obtain ⟨v,hv,_⟩:=g1 _ c2
   unfold Z2V at hv
   rw [hone a b e.symm c1] at hv
   obtain ⟨u,_,hu,_⟩:=hf a d b hb e.symm v c1 hv
   exact ⟨u,hu⟩
  .obtain ⟨v,hv,_⟩:=g1 a (S.left a d fun b ah e=> hb ⟨b,ah,e⟩)
   exact ⟨v,hv⟩
 obtain ⟨r1,h1⟩:=Z90 (z:=z) (p:=at_) (out:=l) (f:=Z2V z F at_ l) k1
 obtain ⟨a1,a2⟩:=Z5j V1 hp h1
 have k2:∀ b∈q,∃ v,Z2V z F at_ r1 b=some v:=by
  intro b hb
  by_cases d:∃ a∈p,at_ a=at_ b
  .obtain ⟨a,d,e⟩:=d
   obtain ⟨c1,c2⟩:=S.both a d b hb e
   obtain ⟨w,hw,_⟩:=g1 _ c2
   unfold Z2V at hw
   rw [hone a b e c1] at hw
   obtain ⟨u,v,hu,hv,_⟩:=hf a d b hb e w c1 hw
   obtain ⟨u',ae,e'⟩:=a1 a d
   unfold Z2V at ae
   rw [hu] at ae
   cases ae
   unfold Z2V
   rw [<-e,e']
   exact ⟨v,hv⟩
  .obtain ⟨v,hv,_⟩:=g1 b (S.right b hb fun a s e=> d ⟨a,s,e⟩)
   refine ⟨v,?_⟩
   unfold Z2V at hv ⊢
   rw [a2 _ fun a s e=> d ⟨a,s,by have:=np a s;have:=nq b hb;omega⟩]
   exact hv
 obtain ⟨r2,h2⟩:=Z90 (z:=z) (p:=at_) (out:=r1) (f:=Z2V z F at_ r1) k2
 obtain ⟨b1,b2⟩:=Z5j V1 hq h2
 refine ⟨r1,r2,h1,h2,fun i=> ?_⟩
 by_cases hb:∃ b∈q,(at_ b).toNat=i
 .obtain ⟨b,hb,rfl⟩:=hb
  obtain ⟨v,hv,e2⟩:=b1 b hb
  rw [e2]
  by_cases d:∃ a∈p,at_ a=at_ b
  .obtain ⟨a,d,e⟩:=d
   obtain ⟨c1,c2⟩:=S.both a d b hb e
   obtain ⟨w,hw,ew⟩:=g1 _ c2
   unfold Z2V at hw
   rw [hone a b e c1] at hw ew
   obtain ⟨u,v',hu,au,hR⟩:=hf a d b hb e w c1 hw
   obtain ⟨u',ae,e'⟩:=a1 a d
   unfold Z2V at ae hv
   rw [hu] at ae
   cases ae
   rw [<-e,e',au] at hv
   cases hv
   rw [<-e,ew]
   exact hR
  .obtain ⟨w,hw,ew⟩:=g1 b (S.right b hb fun a s e=> d ⟨a,s,e⟩)
   rw [ew]
   unfold Z2V at hw hv
   rw [a2 _ fun a s e=> d ⟨a,s,by have:=np a s;have:=nq b hb;omega⟩,hw] at hv
   cases hv
   exact Rr _
 .rw [b2 i fun b ah e=> hb ⟨b,ah,e⟩]
  by_cases d:∃ a∈p,(at_ a).toNat=i
  .obtain ⟨a,d,rfl⟩:=d
   obtain ⟨w,hw,ew⟩:=g1 a (S.left a d fun b ah e=> hb ⟨b,ah,V1⟩)
   obtain ⟨u,hu,eu⟩:=a1 a d
   rw [hw] at hu
   cases hu
   rw [ew,eu]
   exact Rr _
  .rw [a2 i fun a s e=> d ⟨a,s,e⟩,g2 i ?_]
   .exact Rr _
   .intro w hw e
    rcases S.of w hw with ⟨h3,_⟩ | ⟨h3,_⟩ | ⟨a,s,b,ah,e3,c1,rfl⟩
    .exact d ⟨w,h3,e⟩
    .exact hb ⟨w,h3,e⟩
    .rw [hone a b e3 c1] at e
     exact d ⟨a,s,e⟩
theorem ZrF (hone:∀ a b,at_ a=at_ b->(one a b).2=true->at_ (one a b).1=at_ a) (Rr:∀ x,R x x) {p q:List β} {l r1 r2:List α} (hp:asc at_ (-1) p) (hq:asc at_ (-1) q)
  (hf:∀ a∈p,∀ b∈q,at_ a=at_ b->∀ u v,F a (l.getD (at_ a).toNat z)=some u->F b u=some v->(one a b).2=true/\∃ w,F (one a b).1 (l.getD (at_ a).toNat z)=some w/\R w v)
  (h1:mg z (Z2V z F at_ l) at_ p l=some r1) (h2:mg z (Z2V z F at_ r1) at_ q r1=some r2):
  ∃ L r,Zf at_ one p q=some L/\mg z (Z2V z F at_ l) at_ L l=some r/\∀ i,R (r.getD i z) (r2.getD i z):=by
 have np:=Z77 V3 hp
 have nq:=Z77 V3 hq
 obtain ⟨a1,a2⟩:=Z5j V1 hp h1
 obtain ⟨b1,b2⟩:=Z5j V1 hq h2
 have both:∀ a∈p,∀ b∈q,at_ a=at_ b->(one a b).2=true/\∃ w,F (one a b).1 (l.getD (at_ a).toNat z)=some w/\R w (r2.getD (at_ a).toNat z):=by
  intro a s b hb e
  obtain ⟨u,hu,eu⟩:=a1 a s
  obtain ⟨v,d,ev⟩:=b1 b hb
  unfold Z2V at hu d
  rw [<-e,eu] at d
  have:=hf a s b hb e u v hu d
  rw [e,ev,<-e]
  exact this
 cases h:Zf at_ one p q with
 | none=>
  obtain ⟨a,s,b,hb,e,h3⟩:=(Z4s hone _ p q (-1) (Q9 _) hp hq).1 h
  grind
 | some L=>
  have S:=(Z4s hone _ p q (-1) (Q9 _) hp hq).2 L h
  have k1:∀ w∈L,∃ v,Z2V z F at_ l w=some v:=by
   intro w hw
   rcases S.of w hw with ⟨h3,h4⟩ | ⟨h3,h4⟩ | ⟨a,s,b,hb,e,c1,rfl⟩
   .obtain ⟨u,hu,_⟩:=a1 w h3
    grind
   .obtain ⟨v,d,_⟩:=b1 w h3
    refine ⟨v,?_⟩
    unfold Z2V at d ⊢
    rw [a2 _ fun a af e=> h4 a af (by have:=np a af;have:=nq w h3;omega)] at d
    exact d
   .obtain ⟨_,w,hw,_⟩:=both a s b hb e
    refine ⟨w,?_⟩
    unfold Z2V
    grind
  obtain ⟨r,hr⟩:=Z90 (z:=z) (p:=at_) (out:=l) (f:=Z2V z F at_ l) k1
  refine ⟨L,r,rfl,hr,?_⟩
  obtain ⟨ao,ay,e1,e2,hR⟩:=ZkW (R:=fun x y=> x=y\/R x y) hone (fun x=> .inl rfl) hp hq (by
   intro a s b hb e w c1 hw
   obtain ⟨u,hu,eu⟩:=a1 a s
   obtain ⟨v,d,ev⟩:=b1 b hb
   unfold Z2V at hu d
   rw [<-e,eu] at d
   obtain ⟨_,w',ax,hR⟩:=hf a s b hb e u v hu d
   grind) h hr
  grind
end
end Go.AM.YtpjenobkibfpcaaGreat
