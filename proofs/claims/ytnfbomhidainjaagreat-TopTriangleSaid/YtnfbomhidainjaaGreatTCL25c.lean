import Derived.Test.YtnfbomhidainjaaGreatTKL22r
import Derived.Test.YtnfbomhidainjaaGreatTKG24
set_option linter.unusedSimpArgs false
set_option linter.unusedVariables false
namespace Go.AM.YtnfbomhidainjaaGreat
open Go.AM Go.Proofs
theorem Z5M:∀ {a b:List Tree},Yd (a++b)↔Yd a/\Yd b
 | [],b=> by simp [Yd]
 | t ::r,b=> by simp only [Qp,Yd];rw [Z5M (a:=r),and_assoc]
mutual
theorem Z0H:∀ (t:Tree),rng t->rng (Z0 t)
 | .mk k w ks,h=> by
  simp only [rng] at h
  obtain ⟨h1,h2,h3⟩:=h
  have d:=Zgn ks h3
  simp only [Z0]
  split
  .trivial
  .split
   .obtain ⟨r1,e1⟩:=Zdo w
    obtain ⟨r2,e2⟩:=Zau (Yr ks)
    simp only [rng]
    refine ⟨V2,fun x hx=> h2 x (by grind),?_⟩
    rw [e2] at d
    exact (Z5M.1 d).1
   trivial
theorem Zgn:∀ (l:List Tree),Yd l->Yd (Yr l)
 | [],_=> trivial
 | t ::r,h=> by
  simp only [Yd] at h
  have h1:=Z0H t h.1
  have d:=Zgn r h.2
  trivial
end
theorem Z7O:∀ {l:List Tree},Yd l->Yd (Z4 l)
 | [],_=> trivial
 | t ::r,h=> by
  simp only [Yd] at h
  have d:=Z7O h.2
  simp only [Z4] at d
  simp only [Z4,X3,Yd]
  exact ⟨Z0H t h.1,d⟩
theorem Z3W:rng Tree.nil:=by
 trivial
mutual
theorem Z3Y:∀ (e:Edit),Yi e->Yi (Zp e)
 | .mk k o n w ks l os,h=> by
  simp only [Yi] at h
  obtain ⟨h1,h2,h3,h4,h5,h6,h7⟩:=h
  have d:=Zea ks h6
  have i7:=Ze9 os h7
  simp only [Zp,Yi]
  refine ⟨h1,h3,h2,fun x hx=> ?_,h5,d,i7⟩
  obtain ⟨y,hy,rfl⟩:=Xo.1 hx
  have:=h4 y hy
  simp only [J7,YZ] at this ⊢
  grind
theorem Zea:∀ (ks:List (KidOf Edit)),Z1h ks->Z1h (Yh ks)
 | [],_=> trivial
 | k ::r,h=> by
  simp only [Z1h] at h
  have h1:=ZjW k h.1
  have d:=Zea r h.2
  trivial
theorem ZjW:∀ (k:KidOf Edit),Z1D k->Z1D (J6 k)
 | ⟨a,e⟩,h=> by
  simp only [Z1D] at h
  have d:=Z3Y e h.2
  simp only [J6,Z1D]
  grind
theorem Ze9:∀ (os:List (OpOf Edit)),Z0k os->Z0k (Yn os)
 | [],_=> trivial
 | o ::r,h=> by
  simp only [Z0k] at h
  have h1:=Zmk o h.1
  have d:=Ze9 r h.2
  trivial
theorem Zmk:∀ (o:OpOf Edit),YV o->YV (Yg o)
 | ⟨k,n,l,e⟩,h=> by
  simp only [YV] at h
  have d:=Z3Y e h.2.2.2
  simp only [Yg]
  split
  .simp only [YV];exact ⟨by trivial,h.2⟩
  .split
   .simp only [YV];exact ⟨by trivial,h.2⟩
   .split
    .simp only [YV];grind
    trivial
end
structure RngW (w:Wst):Prop where
 out:∀ o∈w.out,Yd o.l/\Yi o.e
 gone:Yd w.gone
 brought:Yd w.brought
theorem Z6D:Yi Edit.nil:=by
 simp only [Edit.nil,Yi,Z1h,Z0k]
 exact ⟨by trivial,Z3W,Z3W,by simp,by trivial,trivial,trivial⟩
theorem Z7N{w:Wst}(h:RngW w):RngW (Z9 w):=by
 refine ⟨?_,trivial,trivial⟩
 simp only [Z9,Z0F]
 intro o d
 rcases Qj.1 d with d | d
 .exact h.out o d
 rcases Qj.1 d with d | d
 .split at d
  .cases d
  .simp only [Q7] at d
   subst d
   exact ⟨h.gone,Z6D⟩
 .split at d
  .cases d
  .simp only [Q7] at d
   subst d
   exact ⟨h.brought,Z6D⟩
theorem Zgi{w:Wst}{n:Int}(h:RngW w):RngW (Zx w n):=by
 have hf:=Z7N h
 refine ⟨?_,trivial,trivial⟩
 simp only [Zx]
 intro o d
 rcases JO (Z9 w).out n with e | ⟨a,q,e1,e2,e3⟩
 .rw [e] at d
  rcases Qj.1 d with d | d
  .exact hf.out o d
  .simp only [Q7] at d
   subst d
   exact ⟨trivial,Z6D⟩
 .rw [e3] at d
  rcases Qj.1 d with d | d
  .exact hf.out o (by grind)
  .simp only [Q7] at d
   subst d
   exact hf.out q (by rw [e1];simp)
theorem ZoH{list:Int}{w:Wst}{o:Op}(h:RngW w)(hl:Yd o.l)(he:Yi (Zv o.e)):RngW (JN list o w):=by
 rw [Z23]
 split
 .exact Zgi h
 .split
  .exact ⟨h.out,Z5M.2 ⟨h.gone,Z7O hl⟩,h.brought⟩
  .split
   .exact ⟨h.out,h.gone,Z5M.2 ⟨h.brought,Z7O hl⟩⟩
   .split
    .split
     .exact Zgi h
     .refine ⟨?_,trivial,trivial⟩
      intro o d
      rcases Qj.1 d with d | d
      .exact (Z7N h).out o d
      .simp only [Q7] at d
       subst d
       trivial
    .exact h
theorem ZbM:∀ {os:List Op},(∀ o∈os,YV o)->Z0k os
 | [],_=> trivial
 | o ::r,h=> by
  simp only [Z0k]
  exact ⟨h o (Q5 ..),ZbM (fun x d=> h x (Q3 _ d))⟩
theorem Zk0{list d:Int}{o:Op}(h:Za list o d=true)(hl:Yd o.l)(he:Yi o.e):YV o:=by
 have hn:=Zrf h
 obtain ⟨k,n,l,e⟩:=o
 simp only at hn hl he
 simp only [YV]
 refine ⟨?_,V4,hl,he⟩
 rw [Za] at h
 unfold InR
 grind
mutual
theorem Z2y:∀ (e:Edit) (d:Int),Z7 e d=true->Yi e->Yi (Zv e)
 | .mk k o n w ks l os,d,hr,h=> by
  have ab:=Zgs hr
  have aa:=Zgs (Z0Q _ _ hr)
  simp only [Edit.kids_mk,Edit.ops_mk,Edit.list_mk] at ab
  simp only [Yi] at h
  obtain ⟨h1,h2,h3,h4,h5,h6,h7⟩:=h
  have i6:=Zgl ks (d - 1) (fun k hk=> (ab.1 k hk).1) h6
  have i7:=Zgk l os (d - 1) ab.2 h7 W0 ⟨fun o ho=> (by cases ho),trivial,trivial⟩
  rw [Zv] at aa ⊢
  by_cases k1:k=1
  .rw [if_pos k1]
   simp only [Yi]
   exact ⟨h1,Z0H o h2,Z0H n h3,by simp,h5,trivial,trivial⟩
  .rw [if_neg k1] at aa ⊢
   by_cases k2:k=2
   .rw [if_pos k2]
    trivial
   .rw [if_neg k2] at aa ⊢
    by_cases k3:k=3
    .rw [if_pos k3] at aa ⊢
     simp only [Yi]
     refine ⟨h1,Z3W,Z3W,by simp,h5,trivial,ZbM (fun q hq=> ?_)⟩
     have hx:=aa.2 q hq
     have hy:=(Z7N i7).out q hq
     exact Zk0 hx hy.1 hy.2
    .rw [if_neg k3]
     simp only [Yi]
     exact ⟨h1,Z3W,Z3W,by simp,h5,trivial,trivial⟩
theorem Zgl:∀ (ks:List (KidOf Edit)) (d:Int),(∀ k∈ks,Z7 k.e d=true)->Z1h ks->Z1h (Jv ks)
 | [],_,_,_=> trivial
 | k ::r,d,hr,h=> by
  simp only [Z1h] at h
  have h1:=Zml k d (hr k (Q5 ..)) h.1
  have h2:=Zgl r d (fun x hx=> hr x (Q3 _ hx)) h.2
  trivial
theorem Zml:∀ (k:KidOf Edit) (d:Int),Z7 k.e d=true->Z1D k->Z1D (Z0D k)
 | ⟨a,e⟩,d,hr,h=> by
  simp only [Z1D] at h
  have h2:=Z2y e d hr h.2
  simp only [Z0D,Z1D]
  grind
theorem Zgk(list:Int):∀ (os:List (OpOf Edit)) (d:Int),(∀ o∈os,Za list o d=true)->Z0k os->∀ (w:Wst),RngW w->RngW (ZD list os w)
 | [],_,_,_,w,hw=> hw
 | o ::r,d,hr,h,w,hw=> by
  simp only [Z0k] at h
  have h1:=Zre list o d (hr o (Q5 ..)) h.1 w hw
  exact Zgk list r d (fun x hx=> hr x (Q3 _ hx)) h.2 _ h1
theorem Zre(list:Int):∀ (o:OpOf Edit) (d:Int),Za list o d=true->YV o->∀ (w:Wst),RngW w->RngW (JN list o w)
 | ⟨k,n,l,e⟩,d,hr,h,w,hw=> by
  simp only [YV] at h
  by_cases k3:k=3
  .have he:Z7 e d=true:=by
    rw [Za,Yo,] at hr
    split at hr
    .cases hr
    .grind
   exact ZoH (o:=⟨k,n,l,e⟩) hw h.2.2.1 (Z2y e d he h.2.2.2)
  .have hs:Yi (Zv Edit.nil):=by
    show Yi (.mk 0 Tree.nil Tree.nil [] [] 0 [])
    exact Z6D
   have e2:JN list ⟨k,n,l,e⟩ w=JN list ⟨k,n,l,Edit.nil⟩ w:=by
    simp only [JN]
    grind
   rw [e2]
   exact ZoH (o:=⟨k,n,l,Edit.nil⟩) hw h.2.2.1 hs
end
theorem ZCL(t:Tree):t.words.length+Z6 t.kids+1=mass t:=by obtain ⟨k,w,ks⟩:=t;simp only [mass,Tree.words_mk,Tree.kids_mk];omega
theorem ZgT:∀ (l:List Tree) (i:Nat) (x:Tree),i < l.length->Z6 (l.set i x)+mass (l.getD i Tree.nil)=Z6 l+mass x
 | [],i,x,h=> by simp at h
 | a ::r,0,x,_=> by simp only [List.set_cons_zero,Z6,Qz];omega
 | a ::r,i+1,x,h=> by
  have:=ZgT r i x (by simpa using h)
  simp only [List.set_cons_succ,Z6,XB];omega
theorem Zn7(n:Nat):Z6 (List.replicate n Tree.nil)=n:=by
 induction n with
 | zero=> rfl
 | succ n ih=> rw [XZ,Z6,ih];simp [Tree.nil,mass,Z6];omega
theorem Z02:∀ (a b:List Tree),Z6 (a++b)=Z6 a+Z6 b
 | [],b=> by simp [Z6]
 | t ::r,b=> by simp only [Qp,Z6,Z02 r b];omega
theorem ZrI(l:List Tree)(i:Nat)(x:Tree):Z6 (ZH Tree.nil l i x)+mass (l.getD i Tree.nil)<=Z6 l+mass x+(i+1):=by
 have h:=ZgT (l++List.replicate (i+1 - l.length) Tree.nil) i x (by simp;omega)
 have e:(l++List.replicate (i+1 - l.length) Tree.nil).getD i Tree.nil=l.getD i Tree.nil:=by
  by_cases hi:i < l.length
  .simp only [Q6];rw [QB hi]
  .simp only [Q6]
   rw [Qt V0,Qu (l:=l) V0,Xt]
   split <;> rfl
 rw [e,Z02,Zn7] at h
 simp only [ZH]
 omega
theorem Zhy{tw:List Int}:∀ {ws:List WEdit} {last:Int} {out a:List Int},YA last ws=true->wsD tw ws out=some a->a.length<=max out.length 65535
 | [],_,out,a,_,h=> by rw [wsD] at h;cases h;omega
 | w ::r,last,out,a,hw,h=> by
  have d:=Jc hw w Q5
  simp only [YA,Q2] at hw
  rw [wsD] at h
  split at h
  .have:=Zhy hw.2 h
   rw [Z3H] at this
   omega
  .cases h
theorem Z93{last d:Int}{k:Kid}{r:List Kid}(h:ZJ last (k ::r) d=true):(last < k.at_/\k.at_<=65534)/\Z7 k.e d=true/\ZJ k.at_ r d=true:=by
 have:=Ya h k Q5
 simp only [ZJ,Q2] at h
 grind
theorem Zsy{tw:List Int}{ws:List WEdit}{last:Int}{out a:List Int}(hw:YA last ws=true)(h:wsD tw ws out=some a):a.length<=out.length+65600*ws.length:=by
 cases ws with
 | nil=> rw [wsD] at h;cases h;omega
 | cons w r=>
  have:=Zhy hw h
  grind
theorem ZeH(r:Bool)(v:Tree):mass (nrD r v)<=mass v:=by
 unfold nrD
 split
 .exact ZY v
 omega
mutual
theorem ZeR(r:Bool):∀ (e:Edit) (d:Int) (t v:Tree),Z7 e d=true->Zid r e t=some v->mass v+18<=mass t+ctE e
 | .mk k o n w ks l os,d,t,v,hr,hv=> by
  have ri:=Zq hr
  have h1:=ZgS r ks t.kids
  have h2:=ZgR r l os
  have ht:=ZCL t
  have po:=ZM o
  have pn:=ZM n
  have pt:=ZM t
  unfold Zid at hv
  simp only [ctE]
  split at hv
  .grind
  .split at hv
   .split at hv
    .cases hv
     show mass n+18<=_
     omega
    .cases hv
   .split at hv
    .split at hv
     .obtain ⟨a,ha,hb⟩:=Qk.1 hv
      obtain ⟨b,hb,e⟩:=Qa.1 hb
      have l1:=Zsy ri.words ha
      simp only [Edit.words_mk] at l1
      have l2:=h1 t.kids b _ (-1) V0 ri.kids (fun j _=> rfl) hb
      rw [<-e]
      simp only [mass]
      omega
     .cases hv
    .split at hv
     .split at hv
      .obtain ⟨b,hb,e⟩:=Qa.1 hv
       unfold Z28 at hb
       obtain ⟨x,hx,hy⟩:=Qk.1 hb
       have l2:=h2 _ t.kids [] x (fun o ho=> Go.AM.rightOs_mem ri.ops o ho) hx
       split at hy
       .cases hy
        rw [<-e]
        simp only [mass,Qr]
        grind
       .cases hy
      .cases hv
     .cases hv
theorem ZgS(r:Bool):∀ (ks:List (KidOf Edit)) (tk out b:List Tree) (d last:Int),-1<=last->ZJ last ks d=true->(∀ j:Nat,last < (j:Int)->out.getD j Tree.nil=tk.getD j Tree.nil)->Jx r tk ks out=some b->Z6 b<=Z6 out+Z0W ks
 | [],tk,out,b,d,last,_,_,_,h=> by rw [Jx] at h;cases h;simp
 | k ::s,tk,out,b,d,last,hl,hr,hj,h=> by
  obtain ⟨h1,h2,h3⟩:=Z93 hr
  rw [Jx] at h
  obtain ⟨u,hu,hb⟩:=Qk.1 h
  have m1:=Zn5 r k tk u d h2 hu
  have m2:=ZrI out k.at_.toNat u
  rw [hj k.at_.toNat V0] at m2
  have m3:=ZgS r s tk _ b d k.at_ V0 h3 (fun j ai=> by
   rw [YC,Yo]
   grind) hb
  have m4:k.at_.toNat+1<=65600:=V0
  have e1:Z0W (k ::s)=65600+ctE k.e+Z0W s:=by obtain ⟨a,e⟩:=k;rfl
  omega
theorem Zn5(r:Bool):∀ (k:KidOf Edit) (tk:List Tree) (u:Tree) (d:Int),Z7 k.e d=true->Z2a r tk k=some u->mass u+18<=mass (tk.getD k.at_.toNat Tree.nil)+ctE k.e
 | ⟨a,e⟩,tk,u,d,hr,h=> by
  rw [Z2a,Z5a] at h
  obtain ⟨v,hv,hu⟩:=Qa.1 h
  have:=ZeR r e d (tk.getD a.toNat Tree.nil) v hr hv
  have ab:=ZeH r v
  grind
theorem ZgR(r:Bool)(l:Int):∀ (os:List (OpOf Edit)) (d:Int) (rest out:List Tree) (x:List Tree × List Tree),(∀ o∈os,Za l o d=true)->Zy r os rest out=some x->Z6 x.1+Z6 x.2<=Z6 out+Z6 rest+J5 os
 | [],d,rest,out,x,_,h=> by rw [Zy] at h;cases h;simp
 | o ::s,d,rest,out,x,hr,h=> by
  rw [Zy] at h
  obtain ⟨y,hy,hx⟩:=Qk.1 h
  have m1:=ZrF r l o d rest out y (hr o Q5) hy
  have m2:=ZgR r l s d _ _ x (fun q hq=> hr q (Q3 _ hq)) hx
  rw [J5]
  omega
theorem ZrF(r:Bool)(l:Int):∀ (o:OpOf Edit) (d:Int) (rest out:List Tree) (x:List Tree × List Tree),Za l o d=true->Z2g r o rest out=some x->Z6 x.1+Z6 x.2<=Z6 out+Z6 rest+Z2h o
 | ⟨k,n,L,e⟩,d,rest,out,x,hr,h=> by
  have he:=ZeR r e d (rest.getD 0 Tree.nil)
  rw [Z2g] at h
  simp only [Z2h]
  split at h
  .split at h
   .cases h
    have:=Z02 (rest.take n.toNat) (rest.drop n.toNat)
    rw [Ql] at this
    dsimp only
    rw [Z02];omega
   .cases h
  .split at h
   .split at h
    .cases h
     have:=J4 L.length rest
     grind
    .cases h
   .split at h
    .cases h
     dsimp only
     rw [Z02];omega
    .split at h
     .cases h
     .obtain ⟨u,hu,e2⟩:=Qa.1 h
      cases e2
      have hk:k=3:=by
       have ra:=Y9 hr
       generalize ho:OpOf.mk k n L e=o at ra
       cases ra <;> (injection ho with h1;try omega)
      rw [Z5a] at hu
      obtain ⟨v,hv,hu⟩:=Qa.1 hu
      have:=he v (JR hr hk) hv
      have ab:=ZeH r v
      rw [hu] at ab
      cases rest with
      | nil=> contradiction
      | cons a q=>
       rw [Z02]
       simp only [Z6,X2,Xg,Qz] at this ⊢
       omega
end
theorem Z9v(r:Bool)(e:Edit)(d:Int)(t u:Tree)(hr:Z7 e d=true)(h:doE r e t=some u):mass u+18<=mass t+ctE e:=by
 rw [Z5a] at h
 obtain ⟨v,hv,hu⟩:=Qa.1 h
 have:=ZeR r e d t v hr hv
 have ab:=ZeH r v
 grind
theorem ZCH{f:Nat->Int}(h:∀ i,0<=f i/\f i < 256):isW (of8 f):=by
 have d:=h 0;have h1:=h 1;have h2:=h 2;have h3:=h 3;have h4:=h 4;have h5:=h 5;have h6:=h 6;have h7:=h 7
 unfold isW of8
 omega
theorem JI(a b m:Int):isW (mix a b m):=ZCH (Zca a b m)
theorem Z6C{l:List Tree}(h:∀ t∈l,rng t):Yd l:=by
 induction l with
 | nil=> exact trivial
 | cons a r ih=> exact ⟨h a Q5,ih fun t d=> h t (Q3 _ d)⟩
theorem Z0Y:rng Tree.nil:=⟨V2,by simp,trivial⟩
theorem Z7L{α:Type}{z x y:α}{l:List α}{i:Nat}(h:y∈ZH z l i x):y∈l\/y=z\/y=x:=by
 rcases XE h with h | h
 .rcases Qj.1 h with h | h
  .exact .inl h
  .exact .inr (.inl (List.eq_of_mem_replicate h))
 .exact .inr (.inr h)
theorem ZoG{ks:List Tree}(h:Yd ks)(i:Nat):rng (ks.getD i Tree.nil):=by
 by_cases hi:i < ks.length
 .exact J2 h (Zi hi _)
 .rw [Q6,Qu V0]
  exact Z0Y
theorem Zsz{tw:List Int}:∀ {ws:List WEdit} {out a:List Int},(∀ x∈out,isW x)->wsD tw ws out=some a->∀ x∈a,isW x
 | [],out,a,h,hw=> by rw [wsD] at hw;grind
 | w ::r,out,a,h,hw=> by
  rw [wsD] at hw
  split at hw
  .refine Zsz (fun x d=> ?_) hw
   rcases Z7L d with d | rfl | rfl
   .exact h x d
   .trivial
   .exact JI _ _ _
  .cases hw
mutual
theorem ZaH(r:Bool):∀ (e:Edit) (t u:Tree),Yi e->rng t->doE r e t=some u->rng u
 | .mk k o n w ks l os,t,u,hr,ht,h=> by
  have h1:=ZjU r ks
  have h2:=ZjT r os
  simp only [Yi] at hr
  obtain ⟨r1,r2,r3,r4,r5,r6,r7⟩:=hr
  have aa:InR t.kind/\(∀ x∈t.words,isW x)/\Yd t.kids:=by obtain ⟨k,w,ks⟩:=t;exact ht
  rw [JK] at h
  obtain ⟨v,d,hu⟩:=Qa.1 h
  suffices rng v by
   rw [<-hu];unfold nrD
   split
   .exact Z0H v this
   .exact this
  clear h hu
  split at d
  .grind
  .split at d
   .simp_all
   .split at d
    .split at d
     .obtain ⟨a,ha,hb⟩:=Qk.1 d
      obtain ⟨b,hb,e⟩:=Qa.1 hb
      rw [<-e]
      exact ⟨V2,Zsz aa.2.1 ha,h1 _ _ _ r6 aa.2.2 aa.2.2 hb⟩
     .cases d
    .split at d
     .split at d
      .obtain ⟨b,hb,e⟩:=Qa.1 d
       unfold Z28 at hb
       obtain ⟨x,hx,hy⟩:=Qk.1 hb
       split at hy
       .cases hy
        rw [<-e]
        exact ⟨r5,by simp,(h2 _ [] _ r7 aa.2.2 trivial hx).1⟩
       .cases hy
      .cases d
     .cases d
theorem ZjU(r:Bool):∀ (ks:List (KidOf Edit)) (tk out b:List Tree),Z1h ks->Yd tk->Yd out->Jx r tk ks out=some b->Yd b
 | [],tk,out,b,_,_,ho,h=> by rw [Jx] at h;cases h;exact ho
 | k ::s,tk,out,b,hk,ht,ho,h=> by
  rw [Jx] at h
  obtain ⟨u,hu,hb⟩:=Qk.1 h
  have m1:=Zrd r k tk u hk.1 ht hu
  refine ZjU r s tk _ b hk.2 ht (Z6C fun x d=> ?_) hb
  rcases Z7L d with d | rfl | rfl
  .exact J2 ho d
  .exact Z0Y
  .exact m1
theorem Zrd(r:Bool):∀ (k:KidOf Edit) (tk:List Tree) (u:Tree),Z1D k->Yd tk->Z2a r tk k=some u->rng u
 | ⟨a,e⟩,tk,u,hr,ht,h=> by
  rw [Z2a] at h
  exact ZaH r e _ u hr.2 (ZoG ht _) h
theorem ZjT(r:Bool):∀ (os:List (OpOf Edit)) (rest out:List Tree) (x:List Tree × List Tree),Z0k os->Yd rest->Yd out->Zy r os rest out=some x->Yd x.1/\Yd x.2
 | [],rest,out,x,_,hr,ho,h=> by rw [Zy] at h;grind
 | o ::s,rest,out,x,hs,hr,ho,h=> by
  rw [Zy] at h
  obtain ⟨y,hy,hx⟩:=Qk.1 h
  have d:=Ztp r o rest out y hs.1 hr ho hy
  exact ZjT r s _ _ x hs.2 d.2 d.1 hx
theorem Ztp(r:Bool):∀ (o:OpOf Edit) (rest out:List Tree) (x:List Tree × List Tree),YV o->Yd rest->Yd out->Z2g r o rest out=some x->Yd x.1/\Yd x.2
 | ⟨k,n,L,e⟩,rest,out,x,hs,hr,ho,h=> by
  have he:=ZaH r e (rest.getD 0 Tree.nil)
  simp only [YV] at hs
  have hd:∀ n,Yd (rest.drop n):=fun n=> Z6C fun t ht=> J2 hr (Qm ht)
  have d:∀ l,Yd l->Yd (out++l):=fun l hl=> Z5M.2 ⟨ho,hl⟩
  rw [Z2g] at h
  split at h
  .split at h
   .cases h
    exact ⟨d _ (Z6C fun t ht=> J2 hr (QR ht)),hd _⟩
   .cases h
  .split at h
   .grind
   .split at h
    .grind
    .split at h
     .cases h
     .obtain ⟨u,hu,e2⟩:=Qa.1 h
      cases e2
      exact ⟨d _ ⟨he u hs.2.2.2 (ZoG hr 0) hu,trivial⟩,hd _⟩
end
theorem Zwv{r:Bool}{e:Edit}{t u:Tree}(hr:∃ d,Z7 e d=true)(ht:mass t+ctE e<=200000000000)(h:doE r e t=some u):mass u<=1000000000000:=by
 obtain ⟨d,hr⟩:=hr
 have:=Z9v r e d t u hr h
 omega
theorem c10:Contract Tryz.prog cfg 10 Z04:=by
 refine ZDE c22 c23 ?_
 intro e t _ hp
 simp only [Z40] at hp
 refine ZJv _ _ _ ?_
 rintro y1 af y2 ah y3 d
 subst af ah
 (simp only [iB,vcT,vcS])
 refine ⟨by simp only [Z40];exact hp,fun hn=> ?_,fun hs=> ?_⟩
 .have hn:doE false y1 y2=none:=by simpa using hn
  simp only [Zp8,hn]
  exact V1
 .obtain ⟨u,hu⟩:=QY.1 hs
  rw [ZaW hu] at d
  subst d
  have:=Zwv hp.1.2.2 hp.2.1 hu
  refine ⟨by simp only [Zc1];exact this,?_⟩
  simp only [Zp8,hu]
  exact V1
section
variable {α β:Type} (z:α) (f:β->Option α) (p:β->Int)
def mg:List β->List α->Option (List α)
 | [],out=> some out
 | w ::r,out=> (f w).bind fun v=> mg r (ZH z out (p w).toNat v)
def asc(last:Int):List β->Prop
 | []=> True
 | w ::r=> last < p w/\asc (p w) r
variable {z f p} {l0:List α} {ws:List β} {n a i:Int} {out:List α}
theorem Zft{last:Int}:∀ {l:List β},asc p last l->∀ w∈l,last < p w
 | [],_,_,hw=> by cases hw
 | b ::r,h,w,hw=> by
  rcases Q9.1 hw with rfl | hw
  .exact h.1
  .have:=Zft h.2 w hw
   have:=h.1
   omega
end
theorem Zhx(tw:List Int):∀ (ws:List WEdit) (out:List Int),wsD tw ws out=mg 0 (fun w=> if mix 0 (tw.getD w.at_.toNat 0) w.mask=w.old then some (mix (tw.getD w.at_.toNat 0) w.new w.mask) else none) WEdit.at_ ws out
 | [],_=> rfl
 | w ::r,out=> by
  rw [wsD,mg]
  split
  .rw [Qo];exact Zhx tw r _
  .try rfl
theorem Zd7(r:Bool)(tk:List Tree):∀ (ks:List Kid) (out:List Tree),Jx r tk ks out=mg Tree.nil (Z2a r tk) KidOf.at_ ks out
 | [],_=> by rfl
 | k ::s,out=> by
  rw [Jx,mg]
  congr 1
  funext u
  exact Zd7 r tk s _
theorem Z1x:∀ {ws:List WEdit} {last:Int},YA last ws=true->asc WEdit.at_ last ws
 | [],_,_=> trivial
 | w ::r,last,h=> by
  have d:=Jc h w Q5
  simp only [YA,Q2] at h
  exact ⟨d.1,Z1x h.2⟩
theorem Z2X:∀ {ks:List Kid} {last d:Int},ZJ last ks d=true->asc KidOf.at_ last ks
 | [],_,_,_=> trivial
 | k ::r,last,d,h=> by
  obtain ⟨h1,_,h3⟩:=Z93 h
  exact ⟨h1.1,Z2X h3⟩
end Go.AM.YtnfbomhidainjaaGreat
namespace Go.AM.YtnfbomhidainjaaGreat
open Go.AM Go.Proofs
noncomputable section
def Zj4:ArgM ((List Op × List Tree × List Tree × Unit) × Unit):=(.obj 0 (.cons (cWr .op 0 0) (.cons (Z4z .tree 0 1) (.cons (Z4z .tree 0 2) .nil))) .nil)
def Z3n(a:(List Op × List Tree × List Tree × Unit) × Unit):Prop:=(a.1.1).length<=200000000000/\(a.1.2.1).length<=200000000000/\(a.1.2.2.1).length<=200000000000
def Zgv(a:(List Op × List Tree × List Tree × Unit) × Unit):V U:= .tup []
def ZaM(a:(List Op × List Tree × List Tree × Unit) × Unit):List (List (C U)):=[[.mref (.x 0 0),sU .tree ((Z9 (Wst.mk a.1.1 a.1.2.1 a.1.2.2.1)).gone) (.own (.x 0 1)),sU .tree ((Z9 (Wst.mk a.1.1 a.1.2.1 a.1.2.2.1)).brought) (.own (.x 0 2))]]
def ZaO(a:(List Op × List Tree × List Tree × Unit) × Unit):List (Tok × LC U):=[(.x 0 0,LC.mk (U:=U) .op ((Z9 (Wst.mk a.1.1 a.1.2.1 a.1.2.2.1)).out) 0)]
def Z2d:Fs U:=Z8e Zj4 (fun a=> [Z3n a]) Zgv ZaM ZaO
def Zj6:ArgM ((List Op × List Tree × List Tree × Unit) × Int × Unit):=(.obj 0 (.cons (cWr .op 0 0) (.cons (Z4z .tree 0 1) (.cons (Z4z .tree 0 2) .nil))) (.cons (Y6 .i64) .nil))
def Z3Z(a:(List Op × List Tree × List Tree × Unit) × Int × Unit):Prop:=(a.1.1).length<=200000000000/\(a.1.2.1).length<=200000000000/\(a.1.2.2.1).length<=200000000000/\(∀ o∈a.1.1,0<=o.n/\o.n<=100000000000000000)/\0<=a.2.1/\a.2.1<=1048576
def ZtB(a:(List Op × List Tree × List Tree × Unit) × Int × Unit):V U:= .tup []
def Zms(a:(List Op × List Tree × List Tree × Unit) × Int × Unit):List (List (C U)):=[[.mref (.x 0 0),sU .tree ((Zx (Wst.mk a.1.1 a.1.2.1 a.1.2.2.1) a.2.1).gone) (.own (.x 0 1)),sU .tree ((Zx (Wst.mk a.1.1 a.1.2.1 a.1.2.2.1) a.2.1).brought) (.own (.x 0 2))]]
def Zmu(a:(List Op × List Tree × List Tree × Unit) × Int × Unit):List (Tok × LC U):=[(.x 0 0,LC.mk (U:=U) .op ((Zx (Wst.mk a.1.1 a.1.2.1 a.1.2.2.1) a.2.1).out) 0)]
def Z4J:Fs U:=Z8e Zj6 (fun a=> [Z3Z a]) ZtB Zms Zmu
def Zj5:ArgM ((List Op × List Tree × List Tree × Unit) × List Tree × Unit):=(.objAt 0 1 (.cons (cWr .op 0 0) (.cons (Z4z .tree 0 1) (.cons (Z4z .tree 0 2) .nil))) (.cons (aSl .tree) .nil))
def ZbX(a:(List Op × List Tree × List Tree × Unit) × List Tree × Unit):Prop:=(a.1.1).length<=200000000000/\(a.1.2.1).length<=200000000000/\(a.1.2.2.1).length<=200000000000/\Z6 a.2.1<=20000000000
def ZBw(a:(List Op × List Tree × List Tree × Unit) × List Tree × Unit):V U:= .tup []
def Zts(a:(List Op × List Tree × List Tree × Unit) × List Tree × Unit):List (List (C U)):=[[.mref (.x 0 0),sU .tree ((Wst.mk a.1.1 (a.1.2.1++Z4 a.2.1) a.1.2.2.1).gone) (.own (.x 0 1)),sU .tree ((Wst.mk a.1.1 (a.1.2.1++Z4 a.2.1) a.1.2.2.1).brought) (.own (.x 0 2))]]
def Ztw(a:(List Op × List Tree × List Tree × Unit) × List Tree × Unit):List (Tok × LC U):=[(.x 0 0,LC.mk (U:=U) .op ((Wst.mk a.1.1 (a.1.2.1++Z4 a.2.1) a.1.2.2.1).out) 0)]
def Zm8:Fs U:=Z8e Zj5 (fun a=> [ZbX a]) ZBw Zts Ztw
def Zan:ArgM ((List Op × List Tree × List Tree × Unit) × List Tree × Unit):=(.objAt 0 2 (.cons (cWr .op 0 0) (.cons (Z4z .tree 0 1) (.cons (Z4z .tree 0 2) .nil))) (.cons (aSl .tree) .nil))
def Zk3(a:(List Op × List Tree × List Tree × Unit) × List Tree × Unit):List (List (C U)):=[[.mref (.x 0 0),sU .tree ((Wst.mk a.1.1 a.1.2.1 (a.1.2.2.1++Z4 a.2.1)).gone) (.own (.x 0 1)),sU .tree ((Wst.mk a.1.1 a.1.2.1 (a.1.2.2.1++Z4 a.2.1)).brought) (.own (.x 0 2))]]
def Zk4(a:(List Op × List Tree × List Tree × Unit) × List Tree × Unit):List (Tok × LC U):=[(.x 0 0,LC.mk (U:=U) .op ((Wst.mk a.1.1 a.1.2.1 (a.1.2.2.1++Z4 a.2.1)).out) 0)]
def Ze0:Fs U:=Z8e Zan (fun a=> [ZbX a]) ZBw Zk3 Zk4
def ZlK:ArgL (Int × Edit × Unit):=(.cons (Y6 .i64) (.cons (aEl .edit) .nil))
def Z3o(a:Int × Edit × Unit):Prop:=a.2.1.words.length<=20000000000/\a.2.1.kids.length<=20000000000
def Zp6(a:Int × Edit × Unit):V U:= .c (.bool (Z4f a.1 a.2.1))
def Z1e:Fs U:=fs ZlK (fun a=> [Z3o a]) Zp6
def ZDX:Zb U:=lvk [([0,7],[((.x 0),[.wr .op])]),([0],[((.x 0),[.wr .op])]),([0,28],[((.x 0),[.wr .op])]),([0],[((.x 0),[.wr .op])]),([],[((.x 0),[.wr .op])])]
abbrev W61(wo:List Op)(wg wb:List Tree)(Q:QT):=AW (Z1 ZnF) Tryz.f61 ZDX [] (⟨[(0,.ptr (.x 0) 0)],[(.x 0,[.mref (.x 0 0),sU .tree wg (.own (.x 0 1)),sU .tree wb (.own (.x 0 2))])],[(.x 0 0,LC.mk (U:=U) .op wo 0)]⟩:LSt U) Q
theorem ZIO(wo:List Op)(wg wb:List Tree)(Q:QT)(h:∀ d,d=(Edit.mk 0 (Tree.mk 0 [] []) (Tree.mk 0 [] []) [] [] 0 [])->∀ aa,aa=(List.set (wo++([(OpOf.mk 0 0 [] d:Op)])) (Int.toNat (wo.length:Int)) (OpOf.mk 1 0 wg d:Op))->let z0:=decide ((0:Int) < (wb.length:Int));iB (decide ((0:Int) < (wg.length:Int))) (((wo.length+([(OpOf.mk 0 0 [] d:Op)]).length)*240<=140737488355328)/\((0:Int)<=(wo.length:Int)/\(wo.length:Int) < ((wo++([(OpOf.mk 0 0 [] d:Op)])).length:Int))/\((0:Nat)<=(Int.toNat (wo.length:Int)))/\(iB z0 (((aa.length+([(OpOf.mk 0 0 [] d:Op)]).length)*240<=140737488355328)/\((0:Int)<=(aa.length:Int)/\(aa.length:Int) < ((aa++([(OpOf.mk 0 0 [] d:Op)])).length:Int))/\((0:Nat)<=(Int.toNat (aa.length:Int)))/\(Q .normal (⟨[],[(.x 0,[.mref (.x 0 0),.nils,.nils])],[(.x 0 0,LC.mk (U:=U) .op (List.set (aa++([(OpOf.mk 0 0 [] d:Op)])) (Int.toNat (aa.length:Int)) (OpOf.mk 2 0 wb d:Op)) 0)]⟩:LSt U))) (Q .normal (⟨[],[(.x 0,[.mref (.x 0 0),.nils,.nils])],[(.x 0 0,LC.mk (U:=U) .op aa 0)]⟩:LSt U)))) (iB z0 (((wo.length+([(OpOf.mk 0 0 [] d:Op)]).length)*240<=140737488355328)/\((0:Int)<=(wo.length:Int)/\(wo.length:Int) < ((wo++([(OpOf.mk 0 0 [] d:Op)])).length:Int))/\((0:Nat)<=(Int.toNat (wo.length:Int)))/\(Q .normal (⟨[],[(.x 0,[.mref (.x 0 0),.nils,.nils])],[(.x 0 0,LC.mk (U:=U) .op (List.set (wo++([(OpOf.mk 0 0 [] d:Op)])) (Int.toNat (wo.length:Int)) (OpOf.mk 2 0 wb d:Op)) 0)]⟩:LSt U))) (Q .normal (⟨[],[(.x 0,[.mref (.x 0 0),.nils,.nils])],[(.x 0 0,LC.mk (U:=U) .op wo 0)]⟩:LSt U)))):
  W61 wo wg wb Q:=
 Eq.mpr V5 (h _ rfl _ rfl)
def ZFG(wo:List Op)(wg wb:List Tree):Prop:=AW (Z1 ZnF) Tryz.f61 ZDX [] (Ja (Zj4.can ((wo,wg,wb,()),())) (Zj4.canX ((wo,wg,wb,()),())) (Zj4.canL ((wo,wg,wb,()),()))) (JX cfg Tryz.f61.ntmps Tryz.f61.results.toList (Zgv ((wo,wg,wb,()),())) (ZaM ((wo,wg,wb,()),())) (ZaO ((wo,wg,wb,()),())))
theorem ZDd(hb:∀ (wo:List Op) (d:List Tree) (wb:List Tree) (_:Unit),Z3n ((wo,d,wb,()),())->ZFG wo d wb):CT 61 Z2d:=
 Zz (l:=[]) Zd rfl trivial ZDX Tryz.func61 rfl rfl 1 (fun _=> rfl) V2 (fun ⟨⟨wo,d,wb,_⟩,_⟩=> hb wo d wb ())
def ZvU:List (FuncId × Fs U):=[(61,Z2d)]
def ZDY:Zb U:=lvk [([0,1],[((.x 0),[.wr .op])]),([0,1,4],[((.x 0),[.wr .op])]),([0,1,4,25],[((.x 0),[.wr .op])]),([],[((.x 0),[.wr .op])]),([],[((.x 0),[.wr .op])])]
abbrev W58(wo:List Op)(wg wb:List Tree)(n:Int)(Q:QT):=AW (Z1 ZvU) Tryz.f58 ZDY [] (⟨[(0,.ptr (.x 0) 0),pI 1 n],[(.x 0,[.mref (.x 0 0),sU .tree wg (.own (.x 0 1)),sU .tree wb (.own (.x 0 2))])],[(.x 0 0,LC.mk (U:=U) .op wo 0)]⟩:LSt U) Q
theorem ZIQ(wo:List Op)(wg wb:List Tree)(n:Int)(Q:QT)(h:∀ aa,aa=(Edit.mk 0 (Tree.mk 0 [] []) (Tree.mk 0 [] []) [] [] 0 [])->∀ ab,ab=(Int.toNat (((((Z9 (Wst.mk wo wg wb)).out).length:Int):Int) - 1))->∀ d,d=(List.getD ((Z9 (Wst.mk wo wg wb)).out) ab Op.nil)->∀ ae,ae=(d.e)->let z1:=Z9 (Wst.mk wo wg wb);let z0:=decide ((0:Int)<=((((z1.out).length:Int):Int) - 1));((Z3n ((wo,wg,wb,()),()))/\((InR ((((z1.out).length:Int):Int) - 1))/\((Tt z0)/\(Tt z0)/\(Tt z0)/\(Tt z0)/\(Tt z0)/\(z0=true->(0:Int)<=((((z1.out).length:Int):Int) - 1)/\((((z1.out).length:Int):Int) - 1) < ((z1.out).length:Int))/\(Tt z0)/\(Tt z0)/\(Tt z0)/\(Tt z0)/\(iB (bif z0 then (d.kind==0) else false) (((0:Int)<=((((z1.out).length:Int):Int) - 1)/\((((z1.out).length:Int):Int) - 1) < ((z1.out).length:Int))/\(InR (d.n+n))/\((0:Int)<=((((z1.out).length:Int):Int) - 1)/\((((z1.out).length:Int):Int) - 1) < ((z1.out).length:Int))/\((0:Nat)<=ab)/\(Q .ret (⟨[],[(.x 0,[.mref (.x 0 0),sU .tree (z1.gone) (.own (.x 0 1)),sU .tree (z1.brought) (.own (.x 0 2))])],[(.x 0 0,LC.mk (U:=U) .op (List.set (z1.out) ab (OpOf.mk d.kind (d.n+n) d.l ae:Op)) 0)]⟩:LSt U))) ((((z1.out).length+([(OpOf.mk 0 0 [] aa:Op)]).length)*240<=140737488355328)/\((0:Int)<=((z1.out).length:Int)/\((z1.out).length:Int) < (((z1.out)++([(OpOf.mk 0 0 [] aa:Op)])).length:Int))/\((0:Nat)<=(Int.toNat ((z1.out).length:Int)))/\(Q .normal (⟨[],[(.x 0,[.mref (.x 0 0),sU .tree (z1.gone) (.own (.x 0 1)),sU .tree (z1.brought) (.own (.x 0 2))])],[(.x 0 0,LC.mk (U:=U) .op (List.set ((z1.out)++([(OpOf.mk 0 0 [] aa:Op)])) (Int.toNat ((z1.out).length:Int)) (OpOf.mk 0 n [] aa:Op)) 0)]⟩:LSt U)))))))):
  W58 wo wg wb n Q:=
 Eq.mpr V5 (h _ rfl _ rfl _ rfl _ (Zg _))
def ZFI(wo:List Op)(wg wb:List Tree)(n:Int):Prop:=AW (Z1 ZvU) Tryz.f58 ZDY [] (Ja (Zj6.can ((wo,wg,wb,()),n,())) (Zj6.canX ((wo,wg,wb,()),n,())) (Zj6.canL ((wo,wg,wb,()),n,()))) (JX cfg Tryz.f58.ntmps Tryz.f58.results.toList (ZtB ((wo,wg,wb,()),n,())) (Zms ((wo,wg,wb,()),n,())) (Zmu ((wo,wg,wb,()),n,())))
theorem ZDf(c61:CT 61 Z2d)(hb:∀ (wo:List Op) (d:List Tree) (wb:List Tree) (n:Int) (_:Unit),Z3Z ((wo,d,wb,()),n,())->ZFI wo d wb n):CT 58 Z4J:=
 Zz (l:=[(61,Z2d)]) Zd rfl (⟨c61,trivial⟩) ZDY Tryz.func58 rfl rfl 2 (fun _=> rfl) V2 (fun ⟨⟨wo,d,wb,_⟩,n,_⟩=> hb wo d wb n ())
def ZiB:List (FuncId × Fs U):=[(22,ZdZ)]
def Zv3:Zb U:=lvk [([0,6,7,8],[((.x 0),[.wr .op])]),([0,6,7,8,9],[((.x 0),[.wr .op])]),([0,5,6,7,8],[5,((.x 0),[.wr .op])]),([0,6,7,8],[((.x 0),[.wr .op])]),([0,6,7,8],[((.x 0),[.wr .op])])]
def Z9O(wo:List Op)(wg wb l:List Tree)(d:Int)(mx0_1:List Tree):LSt U:=(⟨[(0,.ptr (.x 0) 1),(6,.c (sU .tree l .unk)),pI 7 (l.length:Int),pI 8 d],[(.x 0,[.mref (.x 0 0),sU .tree mx0_1 (.own (.x 0 1)),sU .tree wb (.own (.x 0 2))])],[(.x 0 0,LC.mk (U:=U) .op wo 0)]⟩:LSt U)
abbrev W59(wo:List Op)(wg wb l:List Tree)(Q:QT):=AW (Z1 ZiB) Tryz.f59 Zv3 [] (⟨[(0,.ptr (.x 0) 1),(1,.c (sU .tree l .unk))],[(.x 0,[.mref (.x 0 0),sU .tree wg (.own (.x 0 1)),sU .tree wb (.own (.x 0 2))])],[(.x 0 0,LC.mk (U:=U) .op wo 0)]⟩:LSt U) Q
theorem ZIP(wo:List Op)(wg wb l:List Tree)(Q:QT)(h:Zk (AW (Z1 ZiB) Tryz.f59 Zv3 [1,0,0]) (Z9O wo wg wb l 0 wg) (xB 0 Q)):
  W59 wo wg wb l Q:=
 Eq.mpr V5 h
abbrev ZF4(wo:List Op)(wg wb l:List Tree)(d:Int)(mx0_1:List Tree)(N0:NT)(Q:QT):=AW (Z1 ZiB) Tryz.f59 Zv3 [1,0,0] (Z9O wo wg wb l d mx0_1) (xT N0 (xB 0 Q))
theorem Zy6(wo:List Op)(wg wb l:List Tree)(d:Int)(mx0_1:List Tree)(N0:NT)(Q:QT)(h:let z2:=decide (d < (l.length:Int));let z1:=l.getD d.toNat Tree.nil;let z0:=Tree.mk (Tree.kind z1) (Tree.words z1) (Tree.kids z1);iB z2 (((0:Int)<=d/\d < (l.length:Int))/\((Zc1 (z0,()))/\((mx0_1.length+([(Tree.mk 0 [] [])]).length)*56<=140737488355328)/\((0:Int)<=(mx0_1.length:Int)/\(mx0_1.length:Int) < ((mx0_1++([(Tree.mk 0 [] [])])).length:Int))/\(mx0_1.length<=(Int.toNat (mx0_1.length:Int)))/\((InR (d+1))/\(N0 (Z9O wo wg wb l (d+1) (List.set (mx0_1++([(Tree.mk 0 [] [])])) (Int.toNat (mx0_1.length:Int)) (Tree.mk (Tree.kind (Z0 z0)) (Tree.words (Z0 z0)) (Tree.kids (Z0 z0))))))))) (Q .normal (⟨[(0,.ptr (.x 0) 1),(6,.c (sU .tree l .unk)),pI 7 (l.length:Int),pI 8 d,pB 9 z2],[(.x 0,[.mref (.x 0 0),sU .tree mx0_1 (.own (.x 0 1)),sU .tree wb (.own (.x 0 2))])],[(.x 0 0,LC.mk (U:=U) .op wo 0)]⟩:LSt U))):
  ZF4 wo wg wb l d mx0_1 N0 Q:=
 Eq.mpr V5 h
def ZFH(wo:List Op)(wg wb l:List Tree):Prop:=AW (Z1 ZiB) Tryz.f59 Zv3 [] (Ja (Zj5.can ((wo,wg,wb,()),l,())) (Zj5.canX ((wo,wg,wb,()),l,())) (Zj5.canL ((wo,wg,wb,()),l,()))) (JX cfg Tryz.f59.ntmps Tryz.f59.results.toList (ZBw ((wo,wg,wb,()),l,())) (Zts ((wo,wg,wb,()),l,())) (Ztw ((wo,wg,wb,()),l,())))
theorem ZDe(c22:CT 22 ZdZ)(hb:∀ (wo:List Op) (d:List Tree) (wb:List Tree) (l:List Tree) (_:Unit),ZbX ((wo,d,wb,()),l,())->ZFH wo d wb l):CT 59 Zm8:=
 Zz (l:=[(22,ZdZ)]) Zd rfl (⟨c22,trivial⟩) Zv3 Tryz.func59 rfl rfl 2 (fun _=> rfl) V2 (fun ⟨⟨wo,d,wb,_⟩,l,_⟩=> hb wo d wb l ())
def Z56(wo:List Op)(wg wb l:List Tree)(d:Int)(mx0_2:List Tree):LSt U:=(⟨[(0,.ptr (.x 0) 2),(6,.c (sU .tree l .unk)),pI 7 (l.length:Int),pI 8 d],[(.x 0,[.mref (.x 0 0),sU .tree wg (.own (.x 0 1)),sU .tree mx0_2 (.own (.x 0 2))])],[(.x 0 0,LC.mk (U:=U) .op wo 0)]⟩:LSt U)
abbrev ZHL(wo:List Op)(wg wb l:List Tree)(Q:QT):=AW (Z1 ZiB) Tryz.f59 Zv3 [] (⟨[(0,.ptr (.x 0) 2),(1,.c (sU .tree l .unk))],[(.x 0,[.mref (.x 0 0),sU .tree wg (.own (.x 0 1)),sU .tree wb (.own (.x 0 2))])],[(.x 0 0,LC.mk (U:=U) .op wo 0)]⟩:LSt U) Q
theorem ZCm(wo:List Op)(wg wb l:List Tree)(Q:QT)(h:Zk (AW (Z1 ZiB) Tryz.f59 Zv3 [1,0,0]) (Z56 wo wg wb l 0 wb) (xB 0 Q)):
  ZHL wo wg wb l Q:=
 Eq.mpr V5 h
abbrev Zxu(wo:List Op)(wg wb l:List Tree)(d:Int)(mx0_2:List Tree)(N0:NT)(Q:QT):=AW (Z1 ZiB) Tryz.f59 Zv3 [1,0,0] (Z56 wo wg wb l d mx0_2) (xT N0 (xB 0 Q))
theorem Zr0(wo:List Op)(wg wb l:List Tree)(d:Int)(mx0_2:List Tree)(N0:NT)(Q:QT)(h:let z2:=decide (d < (l.length:Int));let z1:=l.getD d.toNat Tree.nil;let z0:=Tree.mk (Tree.kind z1) (Tree.words z1) (Tree.kids z1);iB z2 (((0:Int)<=d/\d < (l.length:Int))/\((Zc1 (z0,()))/\((mx0_2.length+([(Tree.mk 0 [] [])]).length)*56<=140737488355328)/\((0:Int)<=(mx0_2.length:Int)/\(mx0_2.length:Int) < ((mx0_2++([(Tree.mk 0 [] [])])).length:Int))/\(mx0_2.length<=(Int.toNat (mx0_2.length:Int)))/\((InR (d+1))/\(N0 (Z56 wo wg wb l (d+1) (List.set (mx0_2++([(Tree.mk 0 [] [])])) (Int.toNat (mx0_2.length:Int)) (Tree.mk (Tree.kind (Z0 z0)) (Tree.words (Z0 z0)) (Tree.kids (Z0 z0))))))))) (Q .normal (⟨[(0,.ptr (.x 0) 2),(6,.c (sU .tree l .unk)),pI 7 (l.length:Int),pI 8 d,pB 9 z2],[(.x 0,[.mref (.x 0 0),sU .tree wg (.own (.x 0 1)),sU .tree mx0_2 (.own (.x 0 2))])],[(.x 0 0,LC.mk (U:=U) .op wo 0)]⟩:LSt U))):
  Zxu wo wg wb l d mx0_2 N0 Q:=
 Eq.mpr V5 h
def ZxD(wo:List Op)(wg wb l:List Tree):Prop:=AW (Z1 ZiB) Tryz.f59 Zv3 [] (Ja (Zan.can ((wo,wg,wb,()),l,())) (Zan.canX ((wo,wg,wb,()),l,())) (Zan.canL ((wo,wg,wb,()),l,()))) (JX cfg Tryz.f59.ntmps Tryz.f59.results.toList (ZBw ((wo,wg,wb,()),l,())) (Zk3 ((wo,wg,wb,()),l,())) (Zk4 ((wo,wg,wb,()),l,())))
theorem Zv1(c22:CT 22 ZdZ)(hb:∀ (wo:List Op) (d:List Tree) (wb:List Tree) (l:List Tree) (_:Unit),ZbX ((wo,d,wb,()),l,())->ZxD wo d wb l):CT 59 Ze0:=
 Zz (l:=[(22,ZdZ)]) Zd rfl (⟨c22,trivial⟩) Zv3 Tryz.func59 rfl rfl 2 (fun _=> rfl) V2 (fun ⟨⟨wo,d,wb,_⟩,l,_⟩=> hb wo d wb l ())
def Zne:Zb U:=lvl [([0,3],[3]),([4],[])]
abbrev ZHK(list:Int)(e:Edit)(Q:QT):=AW (Z1 ZnF) Tryz.f60 Zne [] (L2 [pI 0 list,(1,.agg (enc .edit e))] []) Q
theorem ZCl(list:Int)(e:Edit)(Q:QT)(h:let z2:=(!(e.kind==0)) && (list==9);let z1:=bif (list==9) then (e.kind==2) else false;let z0:=(!(e.kind==0)) && z1;((Tt (!(e.kind==0)))/\(Tt (!(e.kind==0)))/\(Tt z2)/\(Tt z2)/\((!(e.kind==0))=true->(True->(!(e.kind==0))=true))/\((!(e.kind==0))=true->((list==9)=true->z2=true))/\(Tt (!(e.kind==0)))/\(Tt z0)/\(Tt z0)/\(Tt z0)/\(Tt z0)/\(Tt z0)/\(Tt z0)/\(z0=true->InR (((e.words.length:Int):Int)+(e.kids.length:Int)))/\(Tt z0)/\((!(e.kind==0))=true->(True->(!(e.kind==0))=true))/\((!(e.kind==0))=true->(z1=true->z0=true))/\((e.kind==0)=false->(!(e.kind==0))=true)/\(Q .ret (L2 [(4,.c (.bool (bif (e.kind==0) then true else (bif z1 then (((((e.words.length:Int):Int)+(e.kids.length:Int)):Int)==0) else false))))] [])))):
  ZHK list e Q:=
 Eq.mpr V5 h
def ZxC(list:Int)(e:Edit):Prop:=AW (Z1 ZnF) Tryz.f60 Zne [] (Zf (ZlK.can (list,e,())) []) (EQ Tryz.f60 (Zp6 (list,e,())) [])
theorem Zv0(hb:∀ (list:Int) (e:Edit) (_:Unit),Z3o (list,e,())->ZxC list e):CT 60 Z1e:=
 Z2 (l:=[]) Zd rfl trivial Zne Tryz.func60 rfl rfl 2 (fun _=> rfl) V2 (fun ⟨list,e,_⟩=> hb list e ())
end
theorem Z1X{α:Type}(l:List α)(z x:α):(l++[z]).set (Int.toNat (l.length:Int)) x=l++[x]:=by
 simp_all
theorem Z9B:∀ (F:List Op) (n:Int),Z1w F n=if F.length≠0/\(F.getD (F.length - 1) Op.nil).kind=0 then F.set (F.length - 1) ⟨(F.getD (F.length - 1) Op.nil).kind,(F.getD (F.length - 1) Op.nil).n+n,(F.getD (F.length - 1) Op.nil).l,(F.getD (F.length - 1) Op.nil).e⟩ else F++[⟨0,n,[],Edit.nil⟩]
 | [],n=> by simp [Z1w]
 | [o],n=> by simp [Z1w]
 | o ::p ::r,n=> by
  have d:=Z9B (p ::r) n
  have e:(o ::p ::r).length - 1=((p ::r).length - 1)+1:=by simp
  rw [Z1w,d,e]
  grind
theorem Z76(s:Wst):(Z9 s).out.length<=s.out.length+2:=by
 simp only [Z9,Z0F]
 grind
theorem Z75(s:Wst):∀ o∈(Z9 s).out,o∈s.out\/o.n=0:=by
 intro o d
 simp only [Z9,Z0F,Qj] at d
 grind
theorem c61:Contract Tryz.prog cfg 61 Z2d:=by
 refine ZDd ?_
 intro d wg wb _ hp
 simp only [Z3n] at hp
 refine ZIO d wg wb _ ?_
 rintro y1 ah y2 ae
 have hy:y1=Edit.nil:=ah
 subst hy
 rw [Z1X] at ae
 subst ae
 (simp only [iB,vcS])
 refine ⟨fun h1=> ⟨by simp;omega,by simp;omega,V0,fun h2=> ⟨by simp;omega,by simp;omega,V0,?_⟩,fun h2=> ?_⟩,fun h1=> ⟨fun h2=> ⟨by simp;omega,by simp;omega,V0,?_⟩,fun h2=> ?_⟩⟩
 .rw [Z1X]
  have e:Z9 ⟨d,wg,wb⟩=⟨d++[⟨1,0,wg,Edit.nil⟩]++[⟨2,0,wb,Edit.nil⟩],[],[]⟩:=by
   simp only [Z9,Z0F];rw [Yo,Yo];simp
  simp only [Zgv,ZaM,ZaO,e]
  exact V1
 .have e:Z9 ⟨d,wg,wb⟩=⟨d++[⟨1,0,wg,Edit.nil⟩],[],[]⟩:=by
   simp only [Z9,Z0F];rw [Yo,Yz];simp
  simp only [Zgv,ZaM,ZaO,e]
  exact V1
 .rw [Z1X]
  have e:Z9 ⟨d,wg,wb⟩=⟨d++[⟨2,0,wb,Edit.nil⟩],[],[]⟩:=by
   simp only [Z9,Z0F];rw [Yz,Yo];simp
  simp only [Zgv,ZaM,ZaO,e]
  exact V1
 .have e:Z9 ⟨d,wg,wb⟩=⟨d,[],[]⟩:=by
   simp only [Z9,Z0F];rw [Yz,Yz];simp
  simp only [Zgv,ZaM,ZaO,e]
  exact V1
theorem c58:Contract Tryz.prog cfg 58 Z4J:=by
 refine ZDf c61 ?_
 intro wo d wb n _ hp
 simp only [Z3Z] at hp
 obtain ⟨p1,p2,p3,p4,p5,p6⟩:=hp
 have ak:=Z76 ⟨wo,d,wb⟩
 have af:=Z75 ⟨wo,d,wb⟩
 have hg:(Z9 ⟨wo,d,wb⟩).gone=[]:=rfl
 have hb:(Z9 ⟨wo,d,wb⟩).brought=[]:=rfl
 have hk:=Z9B (Z9 ⟨wo,d,wb⟩).out n
 have aj:Zx ⟨wo,d,wb⟩ n=⟨Z1w (Z9 ⟨wo,d,wb⟩).out n,[],[]⟩:=rfl
 refine ZIQ wo d wb n _ ?_
 simp only [hg,hb,ZtB,Zms,Zmu,aj]
 generalize (Z9 ⟨wo,d,wb⟩).out=F at*
 simp only at ak af
 rintro y1 al y2 a7 y3 ai y4 am
 have hy:y1=Edit.nil:=al
 subst hy
 have e2:y2=F.length - 1:=V0
 subst e2
 rw [<-ai,<-am] at hk
 simp only [iB,vcT,vcS,aiT,true_and]
 refine ⟨by simp only [Z3n];exact ⟨p1,p2,p3⟩,V4,fun h=> ⟨h,V0⟩,fun h=> ?_,fun h=> ?_⟩
 .have aq:0<=y3.n/\y3.n<=100000000000000000:=by
   have hm:y3∈F:=by rw [ai];exact Zi V0 _
   rcases af y3 hm with h1 | h1
   .exact p4 y3 h1
   .omega
  rw [if_pos ⟨V0,h.2⟩] at hk
  rw [hk]
  refine ⟨V0,V4,V0,V0,?_⟩
  exact V1
 .rw [Yo] at hk
  rw [hk,Z1X]
  refine ⟨by simp;omega,by simp;omega,V0,?_⟩
  exact V1
theorem c59:Contract Tryz.prog cfg 59 Zm8:=by
 refine ZDe c22 ?_
 intro wo wg wb l _ hp
 simp only [ZbX] at hp
 obtain ⟨p1,p2,p3,p4⟩:=hp
 have hl:=Y4 l
 refine ZIP _ _ _ _ _ ?_
 refine Z8 (ι:=Int × List Tree) (fun s=> Z9O wo wg wb l s.1 s.2) (fun s=> 0<=s.1/\s.1<=l.length/\s.2.length=wg.length+s.1/\s.2++Z4 (l.drop s.1.toNat)=wg++Z4 l) (fun s=> ((l.length:Int) - s.1).toNat) (0,wg) rfl ⟨by simp,by simp,by simp,by simp⟩ ?_
 rintro ⟨i,out⟩ ⟨h1,h2,h3,d⟩
 dsimp only at h1 h2 h3 d
 refine Zy6 _ _ _ _ _ _ _ _ ?_
 (simp only [iB,vcS])
 (simp only [vE])
 refine ⟨fun hi=> ?_,fun hi=> ?_⟩
 .have hm:=Y3 (Zi (l:=l) (i:=i.toNat) V0 Tree.nil)
  rw [Jj h1 hi Tree.nil] at d
  simp only [Z4,X3] at d
  rw [Z1X]
  refine ⟨⟨h1,hi⟩,by simp only [Zc1];omega,by simp;omega,by simp;omega,V0,V4,(i+1,out++[Z0 (l.getD i.toNat Tree.nil)]),rfl,⟨V3,V3,by simp;omega,?_⟩,V3⟩
  simp only [Qb,Qp,Qn]
  exact d
 .rw [Qe V0] at d
  simp only [Z4,XW,Qh] at d
  rw [d]
  exact V1
theorem ZHD:Contract Tryz.prog cfg 59 Ze0:=by
 refine Zv1 c22 ?_
 intro wo wg wb l _ hp
 simp only [ZbX] at hp
 obtain ⟨p1,p2,p3,p4⟩:=hp
 have hl:=Y4 l
 refine ZCm _ _ _ _ _ ?_
 refine Z8 (ι:=Int × List Tree) (fun s=> Z56 wo wg wb l s.1 s.2) (fun s=> 0<=s.1/\s.1<=l.length/\s.2.length=wb.length+s.1/\s.2++Z4 (l.drop s.1.toNat)=wb++Z4 l) (fun s=> ((l.length:Int) - s.1).toNat) (0,wb) rfl ⟨by simp,by simp,by simp,by simp⟩ ?_
 rintro ⟨i,out⟩ ⟨h1,h2,h3,d⟩
 dsimp only at h1 h2 h3 d
 refine Zr0 _ _ _ _ _ _ _ _ ?_
 (simp only [iB,vcS])
 (simp only [vE])
 refine ⟨fun hi=> ?_,fun hi=> ?_⟩
 .have hm:=Y3 (Zi (l:=l) (i:=i.toNat) V0 Tree.nil)
  rw [Jj h1 hi Tree.nil] at d
  simp only [Z4,X3] at d
  rw [Z1X]
  refine ⟨⟨h1,hi⟩,by simp only [Zc1];omega,by simp;omega,by simp;omega,V0,V4,(i+1,out++[Z0 (l.getD i.toNat Tree.nil)]),rfl,⟨V3,V3,by simp;omega,?_⟩,V3⟩
  simp only [Qb,Qp,Qn]
  exact d
 .rw [Qe V0] at d
  simp only [Z4,XW,Qh] at d
  rw [d]
  exact V1
theorem Zho:Contract Tryz.prog cfg 60 Z1e:=by
 refine Zv0 ?_
 intro list e _ d
 simp only [Z3o] at d
 refine ZCl _ _ _ ?_
 simp only [iB,vcT,vcS,aiT,true_and]
 refine ⟨fun _=> by unfold InR;grind,ZG rfl ?_⟩
 rw [Xb]
 simp only [Z4f]
 grind
noncomputable def Z1W:Fs U:=ZEr Zm8 Ze0
theorem Zhn:Contract Tryz.prog cfg 59 Z1W:=ZlB c59 ZHD
noncomputable section
def Z41(a:Edit × Unit):Prop:=Zc a.1<=20000000000/\∃ d,Z7 a.1 d=true
def ZbU(a:Edit × Unit):V U:= .agg (enc .edit (Zv a.1))
def Z5I:Fs U:=fs Zjb (fun a=> [Z41 a]) ZbU
def Zja:ArgL (Int × List Op × Unit):=(.cons (Y6 .i64) (.cons (aSl .op) .nil))
def Zer(a:Int × List Op × Unit):Prop:=Ze a.2.1<=20000000000/\∀ o∈a.2.1,∃ d,Za a.1 o d=true
def Zn1(a:Int × List Op × Unit):Nat:=2*Ze a.2.1+1
def Zkb(a:Int × List Op × Unit):V U:= .c (sU .op ((Z9 (ZD a.1 a.2.1 (Wst.mk [] [] []))).out) .unk)
def Ztf:Fs U:=fs Zja (fun a=> [Zer a]) Zkb
def Zbg(N:Nat):List (FuncId × Fs U):=(20,fs Zjb (fun a=> [Z41 a,Zix a < N]) ZbU) ::(37,fs Zja (fun a=> [Zer a,Zn1 a < N]) Zkb) ::[(22,ZdZ),(60,Z1e),(58,Z4J),(61,Z2d),(59,Z1W)]
def Znc:Zb U:=lvk [([1,2],[1,2]),([1,2,3],[1,2,3]),([1,2,3,12],[1,2,3]),([1,2,3,12,13],[1,2,3]),([2,3],[2,3]),([1,2,3,12,23],[1,2,3]),([1,2,3],[1,2,3]),([2,3,32,33,34],[2,((.loc 3),(an 8 [.own .kid]))]),([2,3,32,33,34,35],[2,3]),([2,3,5,32,33,34],[2,3,5]),([2,3,32,33,34],[2,3]),([2,3,32,33,34],[2,((.loc 3),(an 8 [.own .kid]))]),([1,2,3,50],[1,2,3]),([2,3],[2,3]),([2],[2])]
def Za7(e:Edit)(aa:Int)(d:List Kid):LSt U:=(L2 [pL 2,pL 3,(32,.c (sU .kid e.kids .unk)),pI 33 (e.kids.length:Int),pI 34 aa] [(.loc 2,zc0),(.loc 3,[ci e.kind,ci 0,.nils,.nils,ci 0,.nils,.nils,sU .wedit (([]:List WEdit)++e.words) (.own (.l 3 7)),sU .kid d (.own (.l 3 8)),ci e.list,.nils])])
abbrev W20(N:Nat)(e:Edit)(Q:QT):=AW (Z1 (Zbg N)) Tryz.f20 Znc [] (L2 [(0,.agg (enc .edit e))] []) Q
theorem ZJm(N:Nat)(e:Edit)(Q:QT)(h:let z1:=Tree.mk e.new.kind e.new.words e.new.kids;let z0:=Tree.mk e.old.kind e.old.words e.old.kids;iB (e.kind==1) ((Zc1 (z0,()))/\(Zc1 (z1,()))/\(Q .ret (L2 [pL 2] [(.loc 2,([ci e.kind]++enc .tree (Z0 z0)++enc .tree (Z0 z1)++[.nils,.nils,ci e.list,.nils]))]))) (iB (e.kind==2) (((([]:List WEdit).length+e.words.length)*32<=140737488355328)/\(Zk (AW (Z1 (Zbg N)) Tryz.f20 Znc [1,1,0,1,0,1,1,1,0,1,1,0,0]) (Za7 e 0 []) (xB 1 (xB 0 (SW (Z1 (Zbg N)) Tryz.f20 Znc [1,1,1] Q))))) (iB (e.kind==3) ((Zer (e.list,e.ops,()))/\(Zn1 (e.list,e.ops,()) < N)/\(Q .ret (L2 [pL 2] [(.loc 2,[ci e.kind,ci 0,.nils,.nils,ci 0,.nils,.nils,.nils,.nils,ci e.list,sU .op ((Z9 (ZD e.list e.ops (Wst.mk [] [] []))).out) .unk])]))) (Q .ret (L2 [pL 2] [(.loc 2,[ci e.kind,ci 0,.nils,.nils,ci 0,.nils,.nils,.nils,.nils,ci e.list,.nils])]))))):
  W20 N e Q:=
 Eq.mpr V5 h
abbrev ZF9(N:Nat)(e:Edit)(aa:Int)(d:List Kid)(N0:NT)(Q:QT):=AW (Z1 (Zbg N)) Tryz.f20 Znc [1,1,0,1,0,1,1,1,0,1,1,0,0] (Za7 e aa d) (xT N0 (xB 1 (xB 0 (SW (Z1 (Zbg N)) Tryz.f20 Znc [1,1,1] Q))))
theorem Zyw(N:Nat)(e:Edit)(aa:Int)(d:List Kid)(N0:NT)(Q:QT)(h:∀ ae,ae=(e.kids.getD aa.toNat (KidOf.mk 0 Edit.nil))->∀ ab,ab=(ae.e)->∀ af,af=(Zv ab)->iB (decide (aa < (e.kids.length:Int))) (((0:Int)<=aa/\aa < (e.kids.length:Int))/\((Z41 (ab,()))/\(Zix (ab,()) < N)/\((d.length+([(KidOf.mk ae.at_ af:Kid)]).length)*208<=140737488355328)/\((InR (aa+1))/\(N0 (Za7 e (aa+1) (d++([(KidOf.mk ae.at_ af:Kid)]))))))) (Q .ret (L2 [pL 2] [(.loc 2,[ci e.kind,ci 0,.nils,.nils,ci 0,.nils,.nils,sU .wedit (([]:List WEdit)++e.words) (.own (.l 2 7)),sU .kid d (.own (.l 2 8)),ci e.list,.nils])]))):
  ZF9 N e aa d N0 Q:=
 Eq.mpr V5 (h _ rfl _ (Zg _) _ (Zg _))
def ZGe(N:Nat)(e:Edit):Prop:=AW (Z1 (Zbg N)) Tryz.f20 Znc [] (Zf (Zjb.can (e,())) []) (EQ Tryz.f20 (ZbU (e,())) [])
abbrev ZIa:Prop:=∀ (N:Nat) (e:Edit) (_:Unit),Z41 (e,())->Zix (e,()) < N+1->ZGe N e
def Znb:Zb U:=lvk [([0,1],[]),([0,1,5],[((.loc 10),[.wr .op])]),([0,5,11,12,13],[((.loc 10),[.wr .op,.own .tree,.own .tree])]),([0,5,11,12,13,14],[((.loc 10),[.wr .op])]),([0,5,7,11,12,13],[7,((.loc 10),[.wr .op])]),([0,5,7,11,12,13,18],[7,((.loc 10),[.wr .op])]),([0,5,7,11,12,13,18,19],[7,((.loc 10),[.wr .op])]),([0,5,11,12,13],[((.loc 10),[.wr .op])]),([0,5,7,11,12,13,18,25],[7,((.loc 10),[.wr .op])]),([0,5,11,12,13],[((.loc 10),[.wr .op])]),([0,5,7,11,12,13,18,33],[7,((.loc 10),[.wr .op])]),([0,5,11,12,13],[((.loc 10),[.wr .op])]),([0,5,7,11,12,13,41],[7,((.loc 10),[.wr .op])]),([0,5,8,11,12,13],[8,((.loc 10),[.wr .op])]),([0,5,8,11,12,13,48],[8,((.loc 10),[.wr .op])]),([0,5,11,12,13],[((.loc 10),[.wr .op])]),([0,5,8,11,12,13],[8,((.loc 10),[.wr .op])]),([0,5,11,12,13],[((.loc 10),[.wr .op])]),([0,5,11,12,13],[((.loc 10),[.wr .op,.own .tree,.own .tree])]),([5],[((.loc 10),[.wr .op])]),([4],[])]
def Z0p(list:Int)(l:List Op)(ae:Int)(d:List Op)(ab aa:List Tree):LSt U:=(⟨[pI 0 list,(5,.ptr (.loc 10) 0),(11,.c (sU .op l .unk)),pI 12 (l.length:Int),pI 13 ae],[(.loc 10,[.mref (.l 10 0),sU .tree ab (.own (.l 10 1)),sU .tree aa (.own (.l 10 2))])],[(.l 10 0,LC.mk (U:=U) .op d 0)]⟩:LSt U)
abbrev W37(N:Nat)(list:Int)(l:List Op)(Q:QT):=AW (Z1 (Zbg N)) Tryz.f37 Znb [] (L2 [pI 0 list,(1,.c (sU .op l .unk))] []) Q
theorem ZJ9(N:Nat)(list:Int)(l:List Op)(Q:QT)(h:Zk (AW (Z1 (Zbg N)) Tryz.f37 Znb [1,1,0,1,0,0]) (Z0p list l 0 [] [] []) (xB 0 (SW (Z1 (Zbg N)) Tryz.f37 Znb [1,1,1] Q))):
  W37 N list l Q:=
 Eq.mpr V5 h
abbrev ZF5(N:Nat)(list:Int)(l:List Op)(ae:Int)(d:List Op)(ab aa:List Tree)(N0:NT)(Q:QT):=AW (Z1 (Zbg N)) Tryz.f37 Znb [1,1,0,1,0,0] (Z0p list l ae d ab aa) (xT N0 (xB 0 (SW (Z1 (Zbg N)) Tryz.f37 Znb [1,1,1] Q)))
theorem Zyk(N:Nat)(list:Int)(l:List Op)(ae:Int)(d:List Op)(ab aa:List Tree)(N0:NT)(Q:QT)(h:∀ af,af=(l.getD ae.toNat Op.nil)->∀ ah,ah=(Edit.mk 0 (Tree.mk 0 [] []) (Tree.mk 0 [] []) [] [] 0 [])->∀ ak,ak=(Int.toNat (((Z9 (Wst.mk d ab aa)).out).length:Int))->∀ aj,aj=(af.e)->∀ ai,ai=(Zv aj)->let z3:=Z3n ((d,ab,aa,()),());let z2:=Wst.mk d ab (aa++Z4 af.l);let z1:=Wst.mk d (ab++Z4 af.l) aa;let z0:=Wst.mk d ab aa;iB (decide (ae < (l.length:Int))) (((0:Int)<=ae/\ae < (l.length:Int))/\(iB (af.kind==0) ((Z3Z ((d,ab,aa,()),af.n,()))/\((InR (ae+1))/\(N0 (Z0p list l (ae+1) ((Zx z0 af.n).out) ((Zx z0 af.n).gone) ((Zx z0 af.n).brought))))) (iB (af.kind==1) ((ZbX ((d,ab,aa,()),af.l,()))/\((InR (ae+1))/\(N0 (Z0p list l (ae+1) (z1.out) (z1.gone) (z1.brought))))) (iB (af.kind==2) ((ZbX ((d,ab,aa,()),af.l,()))/\((InR (ae+1))/\(N0 (Z0p list l (ae+1) (z2.out) (z2.gone) (z2.brought))))) (iB (af.kind==3) ((Z41 (aj,()))/\(Zix (aj,()) < N)/\((Z3o (list,ai,()))/\(iB (Z4f list ai) ((Z3Z ((d,ab,aa,()),1,()))/\((InR (ae+1))/\(N0 (Z0p list l (ae+1) ((Zx z0 1).out) ((Zx z0 1).gone) ((Zx z0 1).brought))))) (z3/\(((((Z9 z0).out).length+([(OpOf.mk 0 0 [] ah:Op)]).length)*240<=140737488355328)/\((0:Int)<=(((Z9 z0).out).length:Int)/\(((Z9 z0).out).length:Int) < ((((Z9 z0).out)++([(OpOf.mk 0 0 [] ah:Op)])).length:Int))/\((0:Nat)<=ak)/\((InR (ae+1))/\(N0 (Z0p list l (ae+1) (List.set (((Z9 z0).out)++([(OpOf.mk 0 0 [] ah:Op)])) ak (OpOf.mk 3 0 [] ai:Op)) ((Z9 z0).gone) ((Z9 z0).brought))))))))) ((InR (ae+1))/\(N0 (Z0p list l (ae+1) d ab aa)))))))) (z3/\(Q .ret (L2 [(4,.c (sU .op ((Z9 z0).out) (.own (.e 4 0))))] [])))):
  ZF5 N list l ae d ab aa N0 Q:=
 Eq.mpr V5 (h _ rfl _ rfl _ rfl _ (Zg _) _ (Zg _))
def ZG1(N:Nat)(list:Int)(l:List Op):Prop:=AW (Z1 (Zbg N)) Tryz.f37 Znb [] (Zf (Zja.can (list,l,())) []) (EQ Tryz.f37 (Zkb (list,l,())) [])
abbrev ZI4:Prop:=∀ (N:Nat) (list:Int) (l:List Op) (_:Unit),Zer (list,l,())->Zn1 (list,l,()) < N+1->ZG1 N list l
theorem ZrK(c22:CT 22 ZdZ)(Zho:CT 60 Z1e)(c58:CT 58 Z4J)(c61:CT 61 Z2d)(Zhn:CT 59 Z1W)(ha:ZIa)(hb:ZI4):CT 20 Z5I/\CT 37 Ztf:=
 Z3R (μA:=Zix) (μB:=Zn1) (l:=[(22,ZdZ),(60,Z1e),(58,Z4J),(61,Z2d),(59,Z1W)]) Zd rfl (⟨c22,Zho,c58,c61,Zhn,trivial⟩) Znc Znb Tryz.func20 Tryz.func37 rfl rfl rfl rfl 1 2 (fun _=> rfl) (fun _=> rfl) V2 V2 (fun N ⟨e,_⟩=> ha N e ()) (fun N ⟨list,l,_⟩=> hb N list l ())
end
theorem ZgZ(s:Wst)(n:Int):(Zx s n).out.length<=s.out.length+3:=by
 have h:=Z76 s
 simp only [Zx]
 rw [Z9B]
 grind
theorem Zqg{s:Wst}{n B K:Int}(hB:0<=B)(hn:0<=n/\n<=K)(h:∀ o∈s.out,0<=o.n/\o.n<=B):∀ o∈(Zx s n).out,0<=o.n/\o.n<=B+K:=by
 have hF:∀ o∈(Z9 s).out,0<=o.n/\o.n<=B:=by
  intro o d
  rcases Z75 s o d with h1 | h1
  .exact h o h1
  .omega
 intro o d
 simp only [Zx] at d
 rw [Z9B] at d
 grind
theorem ZeF:∀ (l:List Kid),(Jv l).length=l.length
 | []=> rfl
 | k ::r=> by simp [Jv,ZeF r]
theorem ZeG(e:Edit):(Zv e).words.length<=e.words.length/\(Zv e).kids.length<=e.kids.length:=by
 rw [Z4W]
 split
 .simp
 .split
  .simp [ZeF]
  .split <;> simp
theorem Z91{list:Int}{o:Op}{d:Int}(h:Za list o d=true)(hk:o.kind=0):1<=o.n/\o.n<=1048576:=by
 obtain ⟨k,n,l,e⟩:=o
 simp only at hk
 subst hk
 simp [Za] at h
 grind
theorem Z92{list:Int}{o:Op}{d:Int}(h:Za list o d=true)(hk:o.kind=3):Z7 o.e d=true:=by
 obtain ⟨k,n,l,e⟩:=o
 simp only at hk
 subst hk
 simp [Za] at h
 exact h.2.1.2
theorem ZgY{e:Edit}{d:Int}(h:Z7 e d=true)(hk:e.kind=2):∀ k∈e.kids,∃ d,Z7 k.e d=true:=by
 obtain ⟨k,o,n,w,ks,l,os⟩:=e
 change k=2 at hk
 subst hk
 have ab:∃ d aa,ZJ aa ks d=true:=by
  unfold Z7 at h
  split at h
  .cases h
  .grind
 obtain ⟨d',aa,ab⟩:=ab
 change ∀ k∈ks,_
 clear h
 induction ks generalizing aa with
 | nil=> grind
 | cons a r ih=>
  simp only [ZJ,Q2] at ab
  intro k hk
  rcases Q9.1 hk with rfl | hk
  .obtain ⟨a,e⟩:=k
   simp only [J3,Q2] at ab
   grind
  grind
theorem ZkF{e:Edit}{d:Int}(h:Z7 e d=true)(hk:e.kind=3):∀ o∈e.ops,∃ d,Za e.list o d=true:=by
 obtain ⟨k,o,n,w,ks,l,os⟩:=e
 change k=3 at hk
 subst hk
 have aa:∃ d,ZO l os d=true:=by
  unfold Z7 at h
  split at h
  .cases h
  .grind
 obtain ⟨d',aa⟩:=aa
 change ∀ o∈os,∃ d,Za l o d=true
 clear h
 induction os with
 | nil=> grind
 | cons a r ih=>
  simp only [ZO,Q2] at aa
  grind
theorem b37:ZI4:=by
 intro N list l _ hp hN
 simp only [Zer,Zn1] at hp hN
 obtain ⟨p1,p3⟩:=hp
 have hl:=YO l
 refine ZJ9 _ _ _ _ ?_
 refine Z8 (ι:=Int × Wst) (fun s=> Z0p list l s.1 s.2.out s.2.gone s.2.brought)
  (fun s=> 0<=s.1/\s.1<=l.length/\ZD list (l.drop s.1.toNat) s.2=ZD list l ⟨[],[],[]⟩/\s.2.out.length<=3*s.1/\s.2.gone.length+s.2.brought.length+Ze (l.drop s.1.toNat)<=Ze l/\∀ o∈s.2.out,0<=o.n/\o.n<=s.1*1048576)
  (fun s=> ((l.length:Int) - s.1).toNat) (0,⟨[],[],[]⟩) rfl ⟨by simp,by simp,by simp,by simp,by simp,by simp⟩ ?_
 rintro ⟨i,s⟩ ⟨g1,g2,g3,g4,g5,g6⟩
 dsimp only at g1 g2 g3 g4 g5 g6
 refine Zyk _ _ _ _ _ _ _ _ _ ?_
 rintro y1 az y2 a2 y3 ao y4 ak y5 al
 have hy:y2=Edit.nil:=a2
 subst hy
 have es:Wst.mk s.out s.gone s.brought=s:=rfl
 simp only [es] at ao ⊢
 (simp only [iB,vcS])
 refine ⟨fun hi=> ?_,fun hi=> ?_⟩
 .have ai:=Zi (l:=l) (i:=i.toNat) V0 Op.nil
  have hm:=Z0m ai
  have hr:=p3 _ ai
  rw [Jj g1 hi Op.nil] at g3 g5
  rw [<-az] at g3 g5 hm hr
  have av:=YQ y1
  simp only [ZD,Z23,Ze] at g3 g5
  rw [<-ak,<-al] at g3
  obtain ⟨d,am⟩:=hr
  have bk:=Z76 s
  have hP:∀ n:Int,0<=n/\n<=1048576->Z3Z ((s.out,s.gone,s.brought,()),n,()):=by
   intro n hn
   simp only [Z3Z]
   refine ⟨V0,V0,V0,fun o ho=> ?_,V0,V0⟩
   have:=g6 o ho
   constructor
   .omega
   .have:i*1048576<=20000000000*1048576:=V0
    omega
  have hK:∀ n:Int,0<=n/\n<=1048576->ZD list (l.drop (i+1).toNat) (Zx s n)=ZD list l ⟨[],[],[]⟩->
    (∃ j:Int × Wst,Z0p list l (i+1) (Zx s n).out (Zx s n).gone (Zx s n).brought=Z0p list l j.1 j.2.out j.2.gone j.2.brought/\(0<=j.1/\j.1<=l.length/\ZD list (l.drop j.1.toNat) j.2=ZD list l ⟨[],[],[]⟩/\j.2.out.length<=3*j.1/\j.2.gone.length+j.2.brought.length+Ze (l.drop j.1.toNat)<=Ze l/\∀ o∈j.2.out,0<=o.n/\o.n<=j.1*1048576)/\((l.length:Int) - j.1).toNat < ((l.length:Int) - i).toNat):=by
   intro n hn he
   have h1:=ZgZ s n
   have h2:=Zqg (s:=s) (n:=n) (B:=i*1048576) (K:=1048576) V0 hn g6
   refine ⟨(i+1,Zx s n),rfl,⟨V0,V0,he,by grind,by simp only [Zx,Qr];omega,fun o ho=> ?_⟩,V0⟩
   have:=h2 o ho
   dsimp only
   omega
  refine ⟨⟨g1,hi⟩,fun hk=> ?_,fun hk=> ⟨fun ae=> ?_,fun ae=> ⟨fun ah=> ?_,fun ah=> ⟨fun af=> ?_,fun af=> ?_⟩⟩⟩⟩
  .rw [if_pos hk] at g3
   have h1:=Z91 am hk
   exact ⟨hP _ V0,V4,hK _ V0 g3⟩
  .rw [if_neg hk,if_pos ae] at g3
   refine ⟨by simp only [ZbX];omega,V4,(i+1,⟨s.out,s.gone++Z4 y1.l,s.brought⟩),rfl,⟨V0,V0,g3,by grind,?_,fun o ho=> ?_⟩,V0⟩
   .have:=Y4 y1.l
    simp only [Q8,Z4,QX];omega
   grind
  .rw [if_neg hk,if_neg ae,if_pos ah] at g3
   refine ⟨by simp only [ZbX];omega,V4,(i+1,⟨s.out,s.gone,s.brought++Z4 y1.l⟩),rfl,⟨V0,V0,g3,by grind,?_,fun o ho=> ?_⟩,V0⟩
   .have:=Y4 y1.l
    simp only [Q8,Z4,QX];omega
   .have:=g6 o ho
    dsimp only;omega
  .rw [if_neg hk,if_neg ae,if_neg ah,if_pos af] at g3
   have ax:=Z92 am af
   rw [<-ak] at ax
   have hw:=ZeG y4
   rw [<-al] at hw
   have h1:=Z14 y4
   have h2:=JT y4.kids
   have bm:Zc y4<=Zs y1:=by rw [av,ak];omega
   refine ⟨by simp only [Z41];grind,by simp only [Zix];omega,by simp only [Z3o];omega,fun hq=> ?_,fun hq=> ?_⟩
   .rw [if_pos hq] at g3
    exact ⟨hP 1 V0,V4,hK 1 V0 g3⟩
   .rw [if_neg (by rw [hq];simp)] at g3
    rw [ao,Z1X]
    refine ⟨by simp only [Z3n];omega,by grind,by grind,V0,V4,(i+1,⟨(Z9 s).out++[⟨3,0,[],y5⟩],[],[]⟩),rfl,⟨V0,V0,g3,by simp;omega,by simp;omega,fun o ho=> ?_⟩,V0⟩
    dsimp only at ho ⊢
    rcases Qj.1 ho with ho | ho
    .rcases Z75 s o ho with h5 | h5
     .grind
     .omega
    grind
  .rw [if_neg hk,if_neg ae,if_neg ah,if_neg af] at g3
   refine ⟨V4,(i+1,s),rfl,⟨V0,V0,g3,by grind,by grind,fun o ho=> ?_⟩,V0⟩
   grind
 .rw [Qe V0] at g3
  simp only [ZD] at g3
  refine ⟨by simp only [Z3n];omega,?_⟩
  simp only [Zkb]
  rw [<-g3]
  exact V1
theorem b20:ZIa:=by
 intro N e _ hp hN
 simp only [Z41,Zix] at hp hN
 obtain ⟨p1,d,p3⟩:=hp
 have h1:=Z14 e
 have h2:=JT e.kids
 have h3:=YO e.ops
 have ha:=Z4W e
 refine ZJm _ _ _ ?_
 (simp only [iB,vcS])
 (simp only [vE])
 refine ⟨fun hk=> ⟨by simp only [Zc1];omega,by simp only [Zc1];omega,?_⟩,fun hk=> ⟨fun aa=> ⟨by simp;omega,?_⟩,fun aa=> ⟨fun ab=> ⟨?_,by simp only [Zn1];omega,?_⟩,fun ab=> ?_⟩⟩⟩
 .rw [if_pos hk] at ha
  simp only [ZbU,ha]
  exact V1
 .rw [if_neg hk,if_pos aa] at ha
  refine Z8 (ι:=Int × List Kid) (fun s=> Za7 e s.1 s.2) (fun s=> 0<=s.1/\s.1<=e.kids.length/\s.2.length=s.1/\s.2++Jv (e.kids.drop s.1.toNat)=Jv e.kids) (fun s=> ((e.kids.length:Int) - s.1).toNat) (0,[]) rfl ⟨by simp,by simp,by simp,by simp⟩ ?_
  rintro ⟨j,ks⟩ ⟨f1,f2,f3,f4⟩
  dsimp only at f1 f2 f3 f4
  refine Zyw _ _ _ _ _ _ ?_
  rintro y1 ak y2 am y3 al
  (simp only [iB,vcS])
  refine ⟨fun hj=> ?_,fun hj=> ?_⟩
  .have ah:=Zi (l:=e.kids) (i:=j.toNat) V0 (KidOf.mk 0 Edit.nil)
   have hm:=Z2U ah
   have hr:=ZgY p3 aa _ ah
   rw [Jj f1 hj (KidOf.mk 0 Edit.nil)] at f4
   rw [<-ak] at f4 hm hr
   simp only [Jv,Zb2] at f4
   rw [<-am] at f4 hm hr
   rw [<-al] at f4
   refine ⟨⟨f1,hj⟩,by simp only [Z41];grind,by simp only [Zix];omega,by simp;omega,V4,(j+1,ks++[⟨y1.at_,y3⟩]),rfl,⟨V0,V0,by simp;omega,?_⟩,V0⟩
   grind
  .rw [Qe V0] at f4
   simp only [Jv,Qh] at f4
   rw [f4]
   simp only [ZbU,ha]
   exact V1
 .simp only [Zer]
  exact ⟨V0,fun o ho=> ZkF p3 ab o ho⟩
 .rw [if_neg hk,if_neg aa,if_pos ab] at ha
  simp only [ZbU,ha]
  exact V1
 .rw [if_neg hk,if_neg aa,if_neg ab] at ha
  simp only [ZbU,ha]
  exact V1
theorem ZwG:Contract Tryz.prog cfg 20 Z5I/\Contract Tryz.prog cfg 37 Ztf:=ZrK c22 Zho c58 c61 Zhn b20 b37
noncomputable section
def ZtF(a:Edit × Unit):V U:= .agg (enc .edit (Zv (Zp a.1)))
def Z2e:Fs U:=fs Zjb (fun a=> [Z41 a]) ZtF
def Zwa:List (FuncId × Fs U):=[(20,Z5I),(33,ZdP)]
def ZEh:Zb U:=lvl [([1,2],[1,2]),([2],[2])]
abbrev W17(e:Edit)(Q:QT):=AW (Z1 Zwa) Tryz.f17 ZEh [] (L2 [(0,.agg (enc .edit e))] []) Q
theorem ZJp(e:Edit)(Q:QT)(h:∀ aa,aa=e->∀ d,d=(Zp aa)->(Z5X (aa,()))/\(Z41 (d,()))/\(Q .ret (L2 [pL 2] [(.loc 2,(enc .edit (Zv d)))]))):
  W17 e Q:=
 Eq.mpr V5 (h _ (Zg _) _ (Zg _))
def ZGh(e:Edit):Prop:=AW (Z1 Zwa) Tryz.f17 ZEh [] (Zf (Zjb.can (e,())) []) (EQ Tryz.f17 (ZtF (e,())) [])
theorem ZDy(c20:CT 20 Z5I)(c33:CT 33 ZdP)(hb:∀ (e:Edit) (_:Unit),Z41 (e,())->ZGh e):CT 17 Z2e:=
 Z2 (l:=[(20,Z5I),(33,ZdP)]) Zd rfl (⟨c20,c33,trivial⟩) ZEh Tryz.func17 rfl rfl 1 (fun _=> rfl) V2 (fun ⟨e,_⟩=> hb e ())
end
mutual
theorem Z89:∀ (e:Edit),Zc (Zp e)=Zc e
 | .mk k o n w ks l os=> by
  have h1:=Zcf ks
  have d:=Zcc os
  simp only [Zp,Zc,QX,Z7D,h1,d]
  omega
theorem Zcf:∀ (ks:List (KidOf Edit)),Zo (Yh ks)=Zo ks
 | []=> rfl
 | k ::r=> by
  have h1:=ZiA k
  have d:=Zcf r
  simp only [Yh,Zo,h1,d]
theorem ZiA:∀ (k:KidOf Edit),Ye (J6 k)=Ye k
 | ⟨a,e⟩=> by
  have h:=Z89 e
  trivial
theorem Zcc:∀ (os:List (OpOf Edit)),Ze (Yn os)=Ze os
 | []=> rfl
 | o ::r=> by
  have h1:=ZkU o
  have d:=Zcc r
  simp only [Yn,Ze,h1,d]
theorem ZkU:∀ (o:OpOf Edit),Zs (Yg o)=Zs o
 | ⟨k,n,l,e⟩=> by
  have h:=Z89 e
  simp only [Yg]
  split
  .try rfl
  .split
   .try rfl
   .split
    .simp only [Zs,h]
    .try rfl
end
theorem c17:Contract Tryz.prog cfg 17 Z2e:=by
 refine ZDy ZwG.1 ZAu.1 ?_
 intro e _ hp
 simp only [Z41] at hp
 obtain ⟨hm,d,hr⟩:=hp
 refine ZJp _ _ ?_
 rintro y1 ab y2 aa
 subst ab
 have h1:=Z89 y1
 have h2:=YF _ _ hr
 rw [<-aa] at h1 h2
 refine ⟨by simp only [Z5X];omega,by simp only [Z41];grind,?_⟩
 simp only [ZtF]
 rw [<-aa]
 exact V1
theorem Zz7{f g:Nat->Int}(hf:∀ i,0<=f i/\f i < 256)(hg:∀ i,0<=g i/\g i < 256)(h:of8 f=of8 g):∀ i,i < 8->f i=g i:=by
 unfold of8 at h
 grind
theorem Zb0{a:Int}(h:isW a):of8 (Zl a)=a:=by
 obtain ⟨d,h1⟩:=h
 simp only [of8,Zl]
 omega
theorem Z1q{a b:Int}(ha:isW a)(hb:isW b)(h:∀ i,i < 8->Zl a i=Zl b i):a=b:=by
 rw [<-Zb0 ha,<-Zb0 hb]
 unfold of8
 grind
theorem Z25{a b m:Int}{i:Nat}(h:i < 8):Zl (mix a b m) i=Z26 a b m i:=
 Zz7 (fun i=> Z5h _ i) (Zca a b m) (by rw [Zb0 (JI a b m)];rfl) i h
section
variable {α β:Type} {z:α} {f:β->Option α} {p:β->Int}
theorem Z3M:∀ {ws:List β} {last:Int} {out r:List α},-1<=last->asc p last ws->mg z f p ws out=some r->
  (∀ w∈ws,∃ v,f w=some v/\r.getD (p w).toNat z=v)/\(∀ i:Nat,(∀ w∈ws,(p w).toNat≠i)->r.getD i z=out.getD i z)
 | [],_,out,r,_,_,h=> by
  rw [mg] at h;grind
 | w ::s,last,out,r,hl,ha,h=> by
  rw [mg] at h
  obtain ⟨v,hv,hr⟩:=Qk.1 h
  have h1:=ha.1
  obtain ⟨i1,i2⟩:=Z3M V0 ha.2 hr
  have hn:∀ x∈s,(p x).toNat≠(p w).toNat:=fun x d=> by have:=Zft ha.2 x d;omega
  refine ⟨fun x d=> ?_,fun i hi=> ?_⟩
  .rcases Q9.1 d with rfl | d
   .refine ⟨v,hv,?_⟩
    rw [i2 _ hn,YC,if_pos rfl]
   grind
  .rw [i2 i (fun x d=> hi x (Q3 _ d)),YC,if_neg (fun e=> hi w Q5 e.symm)]
end
theorem Z7T{list d:Int}:∀ {l:List Tree},Ys list l d=true->∀ t∈l,Zh t d=true
 | [],_,_,ht=> by cases ht
 | a ::r,h,t,ht=> by
  simp only [Ys,Q2] at h
  rcases Q9.1 ht with rfl | ht
  .exact h.1.2
  .exact Z7T h.2 t ht
def RT_(t:Tree):Prop:=(∃ d,Zh t d=true)/\rng t
theorem RT_.kids{t:Tree}(h:RT_ t):(∀ k∈t.kids,RT_ k)/\(t.kind≠0->t.kind≠1->t.kind≠10->t.words=[]):=by
 obtain ⟨⟨d,h⟩,hr⟩:=h
 obtain ⟨k,w,ks⟩:=t
 have hk:∀ x∈ks,rng x:=fun x hx=> J2 hr.2.2 hx
 show (∀ x∈ks,RT_ x)/\(k≠0->k≠1->k≠10->w=[])
 rw [Zh] at h
 split at h
 .grind
 .split at h
  .grind
  .split at h
   .cases h
   .split at h
    .simp only [Q2] at h
     exact ⟨fun x hx=> ⟨⟨_,Z7T h.2 x hx⟩,hk x hx⟩,fun _ h1=> absurd ‹_› h1⟩
    .simp only [Q2,decide_eq_true_eq] at h
     exact ⟨fun x hx=> ⟨⟨_,Z7T h.2 x hx⟩,hk x hx⟩,fun _ _ _=> Q1 h.1.2.2.1⟩
theorem ZFa:RT_ Tree.nil:=⟨⟨1,rfl⟩,Z0Y⟩
theorem ZbA{l:List Tree}(h:∀ t∈l,RT_ t)(i:Nat):RT_ (l.getD i Tree.nil):=by
 by_cases hi:i < l.length
 .grind
 .rw [Q6,Qu V0];exact ZFa
theorem ZhY{t:Tree}(h:rng t):InR t.kind/\(∀ x∈t.words,isW x)/\Yd t.kids:=by obtain ⟨k,w,ks⟩:=t;exact h
theorem Z5O{list:Int}{o:Op}{d:Int}(h:Za list o d=true):o.kind=0\/o.kind=1\/o.kind=2\/o.kind=3:=by
 have r:=Y9 h
 cases r with
 | keep=> simp
 | gone=> grind
 | come=> grind
 | into=> grind
end Go.AM.YtnfbomhidainjaaGreat
namespace Go.AM.YtnfbomhidainjaaGreat
open Go.AM Go.Proofs
def Rx(x y:List Tree × List Tree):Prop:=EqvL x.1 y.1/\EqvL x.2 y.2
theorem Rx.rfl'(a:Option (List Tree × List Tree)):OptR Rx a a:=by cases a;exact trivial;exact ⟨rfl,rfl⟩
theorem Rx.of{a b:Option (List Tree × List Tree)}(h:a=b):OptR Rx a b:=by rw [h];exact Rx.rfl' b
theorem OptR.trans'{α:Type}{R:α->α->Prop}(ht:∀ x y z,R x y->R y z->R x z){a b c:Option α}(h1:OptR R a b)(h2:OptR R b c):OptR R a c:=by
 cases a <;> cases b <;> cases c <;> first | exact trivial | exact h1.elim | exact h2.elim | exact ht _ _ _ h1 h2
theorem Rx.trans{a b c:Option (List Tree × List Tree)}(h1:OptR Rx a b)(h2:OptR Rx b c):OptR Rx a c:=
 OptR.trans' (fun _ _ _ p q=> ⟨XI p.1 q.1,XI p.2 q.2⟩) h1 h2
theorem Z32(r:Bool):∀ (a b:List Op) (rest out:List Tree),Zy r (a++b) rest out=(Zy r a rest out).bind fun x=> Zy r b x.2 x.1
 | [],b,rest,out=> by rfl
 | o ::s,b,rest,out=> by
  rw [Qp,Zy,Zy]
  cases h:Z2g r o rest out with
  | none=> rfl
  | some x=> rw [Qo,Qo];exact Z32 r s b _ _
theorem Z29(r:Bool)(o:Op)(rest out:List Tree):Zy r [o] rest out=Z2g r o rest out:=by
 rw [Zy]
 cases Z2g r o rest out with
 | none=> rfl
 | some x=> rfl
theorem Z6r(r:Bool)(a:List Op)(o:Op)(rest out:List Tree):Zy r (a++[o]) rest out=(Zy r a rest out).bind fun x=> Z2g r o x.2 x.1:=by
 rw [Z32]
 congr 1
 funext x
 exact Z29 r o _ _
theorem Z3z{r:Bool}:∀ {os:List Op} {rest out:List Tree} {x:List Tree × List Tree},Zy r os rest out=some x->∃ n,x.2=rest.drop n
 | [],rest,out,x,h=> by rw [Zy] at h;cases h;exact ⟨0,by simp⟩
 | o ::s,rest,out,x,h=> by
  rw [Zy] at h
  obtain ⟨y,d,hx⟩:=Qk.1 h
  obtain ⟨n,hn⟩:=Z3z hx
  have:∃ m,y.2=rest.drop m:=by
   rw [Ym] at d
   split at d
   .grind
   .split at d
    .grind
    .split at d
     .cases d;exact ⟨0,by simp⟩
     .split at d
      .cases d
      .obtain ⟨u,_,e⟩:=Qa.1 d
       grind
  obtain ⟨m,hm⟩:=this
  exact ⟨m+n,by simp_all⟩
theorem ZrW(rest:List Tree):JP [] rest=true:=by unfold JP;simp_all
theorem Zle(l rest:List Tree):JP (Z4 l) rest=JP l rest:=by
 unfold JP
 rw [Zc6,show (Z4 l).length=l.length by simp [Z4]]
theorem Z15(l rest:List Tree):JP l rest=true↔l.length<=rest.length/\Z4 l=Z4 (rest.take l.length):=by
 unfold JP
 rw [Q2,decide_eq_true_eq,Z3y]
theorem ZrY(a b rest:List Tree):JP (a++b) rest=(JP a rest && JP b (rest.drop a.length)):=by
 rw [Xb,Q2,Z15,Z15,Z15]
 simp only [Q8,Qx]
 constructor
 .rintro ⟨h1,d⟩
  rw [Yq,List.take_add,Yq] at d
  obtain ⟨h3,h4⟩:=Kh d (by simp [Z4];omega)
  grind
 .rintro ⟨⟨h1,d⟩,h3,h4⟩
  refine ⟨V0,?_⟩
  rw [Yq,List.take_add,Yq,d,h4]
theorem Zad(s:Wst)(rest out:List Tree):Zy false (Z9 s).out rest out=(Zy false s.out rest out).bind fun x=> if JP s.gone x.2=true then some (x.1++s.brought,x.2.drop s.gone.length) else none:=by
 simp only [Z9,Z0F]
 rw [Z32]
 congr 1
 funext x
 rw [Z32]
 have h1:Zy false (if s.gone.length=0 then [] else [⟨1,0,s.gone,Edit.nil⟩]) x.2 x.1=if JP s.gone x.2=true then some (x.1,x.2.drop s.gone.length) else none:=by
  split
  .rename_i h
   rw [Q1 h,ZrW,if_pos rfl,Zy]
   try rfl
  .rw [Z29,Ym]
   rw [if_neg (by show ¬(1:Int)=0;omega),if_pos rfl]
 have d:∀ y:List Tree × List Tree,Zy false (if s.brought.length=0 then [] else [⟨2,0,s.brought,Edit.nil⟩]) y.2 y.1=some (y.1++s.brought,y.2):=by
  intro y
  split
  .rename_i h
   rw [Q1 h,Qh,Zy]
  .rw [Z29,Ym]
   rw [if_neg (by show ¬(2:Int)=0;omega),if_neg (by show ¬(2:Int)=1;omega),if_pos rfl]
 rw [h1]
 split
 .rw [Qo,d]
 .try rfl
theorem ZAd{F:List Op}{n:Int}(hF:∀ o∈F,0<=o.n)(hn:0<=n)(rest out:List Tree):Zy false (Z1w F n) rest out=Zy false (F++[⟨0,n,[],Edit.nil⟩]) rest out:=by
 rcases JO F n with h | ⟨a,o,h1,h2,h3⟩
 .rw [h]
 .rw [h3,h1,Z6r,Z6r,Z6r]
  cases hx:Zy false a rest out with
  | none=> rfl
  | some x=>
   have d:=hF o (by rw [h1];simp)
   simp only [Qo]
   rw [Ym,Ym,if_pos h2,if_pos h2]
   simp only
   have e:(o.n+n).toNat=o.n.toNat+n.toNat:=V0
   rw [e]
   by_cases c:o.n.toNat<=x.2.length
   .rw [if_pos c,Qo,Ym,if_pos rfl]
    simp only [Qx]
    by_cases c2:n.toNat<=x.2.length - o.n.toNat
    .rw [if_pos c2,Yz,List.drop_drop,Qb,<-List.take_add]
    grind
   .rw [if_neg c,Yo]
    try rfl
def N0s(s:Wst):Prop:=∀ o∈s.out,0<=o.n
theorem N0s.flush{s:Wst}(h:N0s s):∀ o∈(Z9 s).out,0<=o.n:=by
 intro o d
 simp only [Z9,Z0F,Qj] at d
 rcases d with d | d | d
 .exact h o d
 .split at d
  .cases d
  .simp only [Q7] at d;subst d;exact Xe 0
 .split at d
  .cases d
  .simp only [Q7] at d;subst d;exact Xe 0
theorem N0s.keep{s:Wst}(h:N0s s){n:Int}(hn:0<=n):N0s (Zx s n):=by
 intro o d
 simp only [Zx] at d
 rcases JO (Z9 s).out n with e | ⟨a,p,h1,h2,h3⟩
 .rw [e] at d
  rcases Qj.1 d with d | d
  .exact h.flush o d
  grind
 .rw [h3] at d
  rcases Qj.1 d with d | d
  .exact h.flush o (by grind)
  .simp only [Q7] at d;subst d
   have:=h.flush p (by rw [h1];simp)
   grind
theorem ZoJ{list d:Int}{o:Op}(h:Za list o d=true):0<=o.n:=by
 have r:=Y9 h
 cases r with
 | keep n h1=> grind
 | gone | come | into=> grind
theorem N0s.op{list d:Int}{s:Wst}{o:Op}(h:N0s s)(hr:Za list o d=true):N0s (JN list o s):=by
 rw [Z23]
 split
 .exact h.keep (ZoJ hr)
 .split
  .exact h
  .split
   .exact h
   .split
    .split
     .exact h.keep V0
     .intro p hp
      rcases Qj.1 hp with hp | hp
      .exact h.flush p hp
      grind
    .exact h
def K9(list:Int)(l:List Tree):Prop:=(∀ t∈l,RT_ t)/\(list=9->∀ t∈l,t.kind=1)
theorem K9.drop{list:Int}{l:List Tree}(h:K9 list l)(n:Nat):K9 list (l.drop n):=⟨fun t d=> h.1 t (Qm d),fun e t d=> h.2 e t (Qm d)⟩
theorem ZoK{d:Int}:∀ {l:List Tree},Ys 9 l d=true->∀ t∈l,t.kind=1
 | [],_,t,ht=> by cases ht
 | a ::r,h,t,ht=> by
  simp only [Ys,Q2] at h
  rcases Q9.1 ht with rfl | ht
  .have:=h.1.1
   simpa [Z1m] using this
  .exact ZoK h.2 t ht
theorem RT_.k9{t:Tree}(h:RT_ t):K9 t.kind t.kids:=by
 refine ⟨h.kids.1,fun e=> ?_⟩
 obtain ⟨⟨d,h⟩,_⟩:=h
 obtain ⟨k,w,ks⟩:=t
 have e:k=9:=e
 subst e
 rw [Zh,Yo,Yo] at h
 split at h
 .cases h
 .rw [Yo] at h
  simp only [Q2] at h
  exact ZoK h.2
theorem ZyC {list d:Int} {s:Wst} {o:Op} (hs:N0s s) (hr:Za list o d=true) {rest:List Tree} (hk:K9 list rest) (out:List Tree)
  (ih:∀ y,RT_ y->Z7 o.e d=true->OptR Eqv (doE false (Zv o.e) y) (doE false o.e y)):
  OptR Rx (Zy false (Z9 (JN list o s)).out rest out) ((Zy false (Z9 s).out rest out).bind fun x=> Z2g false o x.2 x.1):=by
 have keep:∀ n:Int,0<=n->Zy false (Z9 (Zx s n)).out rest out=(Zy false (Z9 s).out rest out).bind fun x=> Z2g false ⟨0,n,[],Edit.nil⟩ x.2 x.1:=by
  intro n hn
  have e:(Z9 (Zx s n)).out=Z1w (Z9 s).out n:=by simp [Z9,Z0F,Zx]
  rw [e,ZAd hs.flush hn,Z6r]
 rw [Z23]
 have r1:=Z5O hr
 by_cases h0:o.kind=0
 .rw [if_pos h0,keep _ (ZoJ hr)]
  refine Rx.of ?_
  congr 1
  funext x
  rw [Ym,Ym,if_pos rfl,if_pos h0]
 .rw [if_neg h0]
  by_cases h1:o.kind=1
  .rw [if_pos h1,Zad,Zad]
   refine Rx.of ?_
   rw [K8]
   congr 1
   funext x
   simp only
   rw [ZrY,Zle]
   by_cases c:JP s.gone x.2=true
   .rw [if_pos c,c,Bool.true_and,Qo,Ym,if_neg h0,if_pos h1]
    simp only
    rw [List.drop_drop,show (s.gone++Z4 o.l).length=s.gone.length+o.l.length by simp [Z4]]
   grind
  .rw [if_neg h1]
   by_cases h2:o.kind=2
   .rw [if_pos h2,Zad,Zad,K8]
    refine OptR.bind (R:=Eq) (OptR.rfl' _) ?_
    rintro x _ rfl
    simp only
    split
    .rw [Qo,Ym,if_neg h0,if_neg h1,if_pos h2]
     refine ⟨?_,rfl⟩
     show Z4 (x.1++(s.brought++Z4 o.l))=Z4 (x.1++s.brought++o.l)
     simp only [Yq,Zc6,Qb]
    .exact trivial
   .have h3:o.kind=3:=by rcases r1 with h | h | h | h <;> first | exact absurd h h0 | exact absurd h h1 | exact absurd h h2 | exact h
    rw [if_neg h2,if_pos h3]
    have ae:=JR hr h3
    have ra:=Y9 hr
    by_cases hi:Z4f list (Zv o.e)=true
    .rw [if_pos hi,keep 1 V0]
     cases hx:Zy false (Z9 s).out rest out with
     | none=> exact trivial
     | some x=>
      obtain ⟨m,hm⟩:=Z3z hx
      have aa:=hk.drop m
      rw [<-hm] at aa
      simp only [Qo]
      rw [Ym,Ym,if_pos rfl,if_neg h0,if_neg h1,if_neg h2]
      cases hx2:x.2 with
      | nil=> exact trivial
      | cons y q=>
       rw [hx2] at aa
       have ah:o.e.kind≠0:=by
        cases ra with
        | into e _ h=> exact h
        | keep | gone | come=> grind
       simp only [Z4f,decide_eq_true_eq,Z43] at hi
       rcases hi with hi | ⟨hl9,he2,hw,hks⟩
       .omega
       .have hy:=aa.2 hl9 y Q5
        have hn:=Z4W o.e
        rw [Yo,if_pos he2] at hn
        have e1:o.e.words=[]:=by rw [hn] at hw;exact Q1 hw
        have e2:o.e.kids=[]:=by
         rw [hn] at hks
         have:(Jv o.e.kids).length=0:=hks
         cases hh:o.e.kids with
         | nil=> rfl
         | cons a b=> rw [hh] at this;trivial
        have hd:doE false o.e y=some (.mk 1 y.words y.kids):=by
         rw [JK,if_neg ah,Yo,if_pos he2,if_pos hy,e1,e2,wsD,Qo,Jx]
         try rfl
        rw [if_neg (show ¬(y ::q).length=0 by simp),Qz,hd,if_pos (show Int.toNat 1<=(y ::q).length by simp)]
        refine ⟨?_,rfl⟩
        show Z4 (x.1++[y])=Z4 (x.1++[Tree.mk 1 y.words y.kids])
        rw [show Tree.mk 1 y.words y.kids=y by rw [<-hy];exact Tree.eta y]
    .rw [if_neg hi]
     have e:(Z9 ⟨(Z9 s).out++[⟨3,0,[],Zv o.e⟩],[],[]⟩).out=(Z9 s).out++[⟨3,0,[],Zv o.e⟩]:=by simp [Z9,Z0F]
     rw [e,Z6r]
     cases hx:Zy false (Z9 s).out rest out with
     | none=> exact trivial
     | some x=>
      obtain ⟨m,hm⟩:=Z3z hx
      have aa:=hk.drop m
      rw [<-hm] at aa
      simp only [Qo]
      rw [Ym,Ym,if_neg h0,if_neg h1,if_neg h2,if_neg (by grind),if_neg (by grind),if_neg (by grind)]
      refine OptR.ite QN (fun _=> trivial) fun _=> ?_
      exact (ih _ (ZbA aa.1 0) ae).map fun u v h=> ⟨Z10 rfl (YX.2 h),rfl⟩
mutual
theorem Zb1:∀ (e:Edit) (d:Int) (t:Tree),Z7 e d=true->RT_ t->OptR Eqv (doE false (Zv e) t) (doE false e t)
 | .mk k o n w ks l os,d,t,hr,ht=> by
  have ri:=Zq hr
  have h1:=ZkL ks
  have h2:=ZkK l os
  have af:=ht.kids.1
  have hn:Zv (.mk k o n w ks l os)=if k=1 then .mk k (Z0 o) (Z0 n) [] [] l [] else if k=2 then .mk k Tree.nil Tree.nil w (Jv ks) l [] else if k=3 then .mk k Tree.nil Tree.nil [] [] l (Z9 (ZD l os ⟨[],[],[]⟩)).out else .mk k Tree.nil Tree.nil [] [] l []:=by rw [Zv]
  rw [Z5a,Z5a,ZR,ZR]
  by_cases c1:k=1
  .subst c1
   rw [if_pos rfl] at hn
   unfold Zid
   rw [hn]
   refine OptR.ite QN (fun _=> rfl) fun _=> OptR.ite QN (fun _=> ?_) (fun h=> absurd rfl h)
   show OptR Eqv (if ZU (Z0 (Z0 o)) (Z0 t)=true then some (Z0 n) else none) (if ZU (Z0 o) (Z0 t)=true then some n else none)
   rw [YN]
   exact OptR.ite QN (fun _=> YN n) (fun _=> trivial)
  .by_cases c2:k=2
   .subst c2
    rw [if_neg c1,if_pos rfl] at hn
    unfold Zid
    rw [hn]
    refine OptR.ite QN (fun _=> rfl) fun _=> OptR.ite QN (fun h=> absurd h c1) fun _=> OptR.ite QN (fun _=> ?_) (fun h=> absurd rfl h)
    refine OptR.ite QN (fun ab=> ?_) (fun _=> trivial)
    refine OptR.bind (R:=Eq) (OptR.rfl' _) ?_
    rintro a _ rfl
    exact (h1 (d - 1) t.kids t.kids t.kids (fun k hk=> (Ya ri.kids k hk).2) af rfl).map fun x y h=> Z61 _ _ h
   .by_cases c3:k=3
    .subst c3
     rw [if_neg c1,if_neg c2,if_pos rfl] at hn
     unfold Zid
     rw [hn]
     refine OptR.ite QN (fun _=> rfl) fun _=> OptR.ite QN (fun h=> absurd h c1) fun _=> OptR.ite QN (fun h=> absurd h c2) fun _=> OptR.ite QN (fun _=> ?_) (fun h=> absurd rfl h)
     refine OptR.ite QN (fun ab=> ?_) (fun _=> trivial)
     have ae:=ht.k9
     rw [ab] at ae
     have:=h2 (d - 1) ⟨[],[],[]⟩ t.kids [] (fun o ho=> Go.AM.rightOs_mem ri.ops o ho) (fun o ho=> by cases ho) ae
     exact (Zlq this).map fun x y h=> Z61 _ _ h
    .have e0:k=0:=by have:=ri.kind;have:0<=k/\k<=3:=this;omega
     subst e0
     try rfl
theorem ZkL:∀ (ks:List (KidOf Edit)) (d:Int) (tk a b:List Tree),(∀ k∈ks,Z7 k.e d=true)->(∀ t∈tk,RT_ t)->EqvL a b->OptR EqvL (Jx false tk (Jv ks) a) (Jx false tk ks b)
 | [],d,tk,a,b,_,_,h=> by trivial
 | k ::r,d,tk,a,b,hr,ht,h=> by
  rw [Jv,Jx,Jx]
  have e:(Z0D k).at_=k.at_:=by cases k;rfl
  rw [e]
  refine (Zru k d tk (hr k Q5) ht).bind fun x y aa=> ZkL r d tk _ _ (fun q hq=> hr q (Q3 _ hq)) ht (Zrv h aa)
theorem Zru:∀ (k:KidOf Edit) (d:Int) (tk:List Tree),Z7 k.e d=true->(∀ t∈tk,RT_ t)->OptR Eqv (Z2a false tk (Z0D k)) (Z2a false tk k)
 | ⟨a,e⟩,d,tk,hr,ht=> by rw [Z0D,Z2a,Z2a];exact Zb1 e d _ hr (ZbA ht _)
theorem ZkK(list:Int):∀ (os:List (OpOf Edit)) (d:Int) (s:Wst) (rest out:List Tree),(∀ o∈os,Za list o d=true)->N0s s->K9 list rest->OptR Rx (Zy false (Z9 (ZD list os s)).out rest out) (Zy false ((Z9 s).out++os) rest out)
 | [],d,s,rest,out,_,_,_=> by rw [ZD,Qh];exact Rx.rfl' _
 | o ::r,d,s,rest,out,hr,hs,hk=> by
  have ho:=hr o Q5
  have st:=ZyC hs ho hk out (ZuI o d)
  rw [ZD]
  refine Rx.trans (ZkK list r d _ rest out (fun q hq=> hr q (Q3 _ hq)) (hs.op ho) hk) ?_
  rw [Z32,Z32]
  have e:∀ x:List Tree × List Tree,Zy false (o ::r) x.2 x.1=(Z2g false o x.2 x.1).bind fun y=> Zy false r y.2 y.1:=fun x=> by rw [Zy]
  rw [show (fun x:List Tree × List Tree=> Zy false (o ::r) x.2 x.1)=fun x=> (Z2g false o x.2 x.1).bind fun y=> Zy false r y.2 y.1 from funext e,<-K8]
  exact st.bind fun x y aa=> Zfi r _ _ _ _ aa.2 aa.1 (fun q hq=> ⟨_,_,hr q (Q3 _ hq)⟩)
theorem ZuI:∀ (o:OpOf Edit) (d:Int),∀ y,RT_ y->Z7 o.e d=true->OptR Eqv (doE false (Zv o.e) y) (doE false o.e y)
 | ⟨_,_,_,e⟩,d,y,hy,hr=> Zb1 e d y hr hy
end
mutual
theorem Zas:∀ e:Edit,Zp (Zp e)=e
 | .mk k o n w ks l os=> by
  simp only [Zp]
  rw [ZrJ,ZbE ks,ZbD os]
theorem ZbE:∀ ks:List (KidOf Edit),Yh (Yh ks)=ks
 | []=> rfl
 | k ::r=> by simp only [Yh];rw [ZhH k,ZbE r]
theorem ZhH:∀ k:KidOf Edit,J6 (J6 k)=k
 | ⟨a,e⟩=> by simp only [J6];rw [Zas e]
theorem ZbD:∀ os:List (OpOf Edit),Yn (Yn os)=os
 | []=> rfl
 | o ::r=> by simp only [Yn];rw [ZjB o,ZbD r]
theorem ZjB:∀ o:OpOf Edit,Yg (Yg o)=o
 | ⟨k,n,l,e⟩=> by
  have h:=Zas e
  simp only [Yg]
  split
  .rename_i c;subst c;rfl
  .split
   .rename_i c;subst c;rfl
   .split
    .rename_i c;subst c;simp only [Yg];rw [h];try rfl
    .rename_i c1 d c3;simp only [Yg];grind
end
theorem ZrE{a n m:Int}(hn:isW n)(d:Y7 n m=true):mix 0 (mix a n m) m=n:=by
 unfold Y7 at d
 have d:mix n 0 m=0:=of_decide_eq_true d
 refine Z1q (JI _ _ _) hn fun i hi=> ?_
 have e:=congrArg (fun x=> Zl x i) d
 simp only [Z25 hi,Z26] at e
 rw [Z25 hi,Z26]
 by_cases h:YK m i=true
 .rw [if_pos h,Z25 hi,Z26,if_pos h]
 grind
theorem ZrD{a n o m:Int}(ha:isW a)(ho:mix 0 a m=o):mix (mix a n m) o m=a:=by
 refine Z1q (JI _ _ _) ha fun i d=> ?_
 rw [Z25 d,Z26]
 by_cases h:YK m i=true
 .rw [if_pos h,<-ho,Z25 d,Z26,if_pos h]
 .rw [if_neg h,Z25 d,Z26,if_neg h]
theorem Z6M{α β:Type}{z:α}{f:β->Option α}{p:β->Int}:∀ {ws:List β} {out:List α},(∀ w∈ws,∃ v,f w=some v)->∃ r,mg z f p ws out=some r
 | [],out,_=> ⟨out,rfl⟩
 | w ::s,out,h=> by
  obtain ⟨v,hv⟩:=h w Q5
  rw [mg,hv,Qo]
  exact Z6M fun x d=> h x (Q3 _ d)
theorem ZhB{l:List Int}(h:∀ x∈l,isW x)(i:Nat):isW (l.getD i 0):=by
 by_cases hi:i < l.length
 .grind
 .rw [Q6,Qu V0];trivial
theorem ZlZ{tw:List Int}{ws:List WEdit}{r:List Int}(hw:YA (-1) ws=true)(it:∀ x∈tw,isW x)(iw:∀ w∈ws,J7 w)(h:wsD tw ws tw=some r):∃ v,wsD r (ws.map YZ) r=some v/\Zoo v tw:=by
 rw [Zhx] at h
 obtain ⟨a1,a2⟩:=Z3M V0 (Z1x hw) h
 have ab:∀ w∈ws,(if mix 0 (r.getD (YZ w).at_.toNat 0) (YZ w).mask=(YZ w).old then some (mix (r.getD (YZ w).at_.toNat 0) (YZ w).new (YZ w).mask) else none)=some (tw.getD w.at_.toNat 0):=by
  intro w d
  obtain ⟨v,hv,hr⟩:=a1 w d
  split at hv
  .rename_i c
   cases hv
   have ok:=Jc hw w d
   show (if mix 0 (r.getD w.at_.toNat 0) w.mask=w.new then some (mix (r.getD w.at_.toNat 0) w.old w.mask) else none)=_
   rw [hr,ZrE (iw w d).2.2.2 ok.2.2.2.2,if_pos rfl,ZrD (ZhB it _) c]
  .cases hv
 have ae:YA (-1) (ws.map YZ)=true:=by rw [Z4F];exact hw
 obtain ⟨v,hv⟩:=Z6M (z:=0) (p:=WEdit.at_) (out:=r) (f:=fun w=> if mix 0 (r.getD w.at_.toNat 0) w.mask=w.old then some (mix (r.getD w.at_.toNat 0) w.new w.mask) else none) (ws:=ws.map YZ) (fun w d=> by
  grind)
 obtain ⟨b1,b2⟩:=Z3M V0 (Z1x ae) hv
 refine ⟨v,by rw [Zhx];exact hv,fun i=> ?_⟩
 by_cases hi:∃ w∈ws,w.at_.toNat=i
 .obtain ⟨w,d,rfl⟩:=hi
  obtain ⟨y,hy,hr⟩:=b1 (YZ w) (K0 d)
  have:=ab w d
  rw [this] at hy
  cases hy
  exact hr
 .have h1:∀ w∈ws,w.at_.toNat≠i:=fun w d e=> hi ⟨w,d,e⟩
  rw [b2 i (fun w d=> by obtain ⟨x,hx,rfl⟩:=Xo.1 d;exact h1 x hx),a2 i h1]
theorem Z7E:∀ {ks:List Kid} {k:Kid},k∈Yh ks->∃ q∈ks,k=J6 q
 | [],k,h=> by cases h
 | a ::r,k,h=> by
  rw [Yh] at h
  rcases Q9.1 h with rfl | h
  .grind
  .obtain ⟨q,d,e⟩:=Z7E h
   grind
theorem ZeO:∀ {ks:List Kid} {k:Kid},k∈ks->J6 k∈Yh ks
 | [],k,h=> by cases h
 | a ::r,k,h=> by
  rw [Yh]
  rcases Q9.1 h with rfl | h
  .grind
  .exact Q3 _ (ZeO h)
theorem Z1R(k:Kid):(J6 k).at_=k.at_/\(J6 k).e=Zp k.e:=by cases k;trivial
theorem ZrQ {tk:List Tree} {ks:List Kid} {r:List Tree} {d:Int} (hk:ZJ (-1) ks d=true) (h:Jx false tk ks tk=some r)
  (ih:∀ k∈ks,∀ u,doE false k.e (tk.getD k.at_.toNat Tree.nil)=some u->∃ v,doE false (Zp k.e) u=some v/\Eqv v (tk.getD k.at_.toNat Tree.nil)):∃ v,Jx false r (Yh ks) r=some v/\ZlT v tk:=by
 rw [Zd7] at h
 obtain ⟨a1,a2⟩:=Z3M V0 (Z2X hk) h
 have ae:∀ k∈ks,∃ v,Z2a false r (J6 k)=some v/\Eqv v (tk.getD k.at_.toNat Tree.nil):=by
  intro k hm
  obtain ⟨u,hu,hr⟩:=a1 k hm
  rw [Z4u] at hu
  obtain ⟨v,hv,he⟩:=ih k hm u hu
  refine ⟨v,?_,he⟩
  rw [Z4u,(Z1R k).1,(Z1R k).2,hr]
  exact hv
 have af:=Z4P ks _ _ hk
 obtain ⟨v,hv⟩:=Z6M (z:=Tree.nil) (p:=KidOf.at_) (out:=r) (f:=Z2a false r) (ws:=Yh ks) (fun k hm=> by
  obtain ⟨q,hq,rfl⟩:=Z7E hm
  grind)
 obtain ⟨b1,b2⟩:=Z3M V0 (Z2X af) hv
 refine ⟨v,by rw [Zd7];exact hv,fun i=> ?_⟩
 by_cases hi:∃ k∈ks,k.at_.toNat=i
 .obtain ⟨k,hm,rfl⟩:=hi
  obtain ⟨y,hy,hr⟩:=b1 (J6 k) (ZeO hm)
  obtain ⟨x,hx,he⟩:=ae k hm
  rw [hx] at hy
  cases hy
  rw [(Z1R k).1] at hr
  grind
 .have h1:∀ k∈ks,k.at_.toNat≠i:=fun k hm e=> hi ⟨k,hm,e⟩
  rw [b2 i (fun k hm=> by obtain ⟨q,hq,rfl⟩:=Z7E hm;rw [(Z1R q).1];exact h1 q hq),a2 i h1]
  exact rfl
theorem Zt0(n:Int)(l:List Tree)(e:Edit):Yg ⟨0,n,l,e⟩=⟨0,n,l,e⟩:=rfl
theorem ZsZ(n:Int)(l:List Tree)(e:Edit):Yg ⟨2,n,l,e⟩=⟨1,n,l,e⟩:=rfl
theorem ZsY(n:Int)(l:List Tree)(e:Edit):Yg ⟨3,n,l,e⟩=⟨3,n,l,Zp e⟩:=rfl
mutual
theorem ZcQ:∀ (e:Edit) (d:Int) (t u:Tree),Z7 e d=true->Yi e->RT_ t->doE false e t=some u->∃ v,doE false (Zp e) u=some v/\Eqv v t
 | .mk k o n w ks l os,d,t,u,hr,he,ht,h=> by
  have ri:=Zq hr
  have h1:=ZfZ ks
  have h2:=ZfY os
  have aa:=ht.kids
  have ar:=ZhY ht.2
  have ai:(∀ x∈w,J7 x)/\Z1h ks/\Z0k os:=by simp only [Yi] at he;exact ⟨he.2.2.2.1,he.2.2.2.2.2.1,he.2.2.2.2.2.2⟩
  rw [Z5a,ZR] at h
  unfold Zid at h
  simp only [Zp]
  have ab:∀ u:Tree,Zid false (.mk k n o (w.map YZ) (Yh ks) l (Yn os)) u=if k=0 then some u else if k=1 then (if ZU (Z0 n) (Z0 u)=true then some o else none) else if k=2 then (if u.kind=1 then (wsD u.words (w.map YZ) u.words).bind fun a=> (Jx false u.kids (Yh ks) u.kids).map fun b=> .mk 1 a b else none) else if k=3 then (if u.kind=l then (Z28 (Zy false (Yn os) u.kids [])).map fun b=> .mk l [] b else none) else none:=fun _=> rfl
  have ae:∀ x v,x=some v->Eqv v t->Zid false (.mk k n o (w.map YZ) (Yh ks) l (Yn os)) u=x->∃ v,doE false (.mk k n o (w.map YZ) (Yh ks) l (Yn os)) u=some v/\Eqv v t:=by
   rintro x v rfl hv hx
   exact ⟨v,by rw [Z5a,ZR];exact hx,hv⟩
  split at h
  .rename_i c
   cases h
   refine ae _ t rfl rfl ?_
   replace c:k=0:=c
   grind
  .rename_i c0
   replace c0:¬k=0:=c0
   split at h
   .rename_i c1
    replace c1:k=1:=c1
    split at h
    .rename_i c
     cases h
     refine ae _ o rfl (ZX.1 c) ?_
     rw [ab,if_neg c0,if_pos c1]
     show (if ZU (Z0 n) (Z0 n)=true then some o else none)=some o
     rw [Zme]
     try rfl
    .cases h
   .rename_i c1
    replace c1:¬k=1:=c1
    split at h
    .rename_i c2
     replace c2:k=2:=c2
     split at h
     .rename_i c
      obtain ⟨a,ha,hb⟩:=Qk.1 h
      obtain ⟨b,ao,e⟩:=Qa.1 hb
      obtain ⟨va,ax,ea⟩:=ZlZ ri.words ar.2.1 ai.1 ha
      obtain ⟨vb,aw,eb⟩:=ZrQ ri.kids ao (fun q hq x hx=> h1 (d - 1) q hq _ x (Ya ri.kids q hq).2 ai.2.1 (ZbA aa.1 _) hx)
      subst e
      refine ae _ (.mk 1 va vb) rfl ((Z1P rfl c).2 ⟨ea,eb⟩) ?_
      rw [ab,if_neg c0,if_neg c1,if_pos c2,if_pos (show (Tree.mk 1 a b).kind=1 from rfl)]
      have q1:wsD a (w.map YZ) a=some va:=ax
      have q2:Jx false b (Yh ks) b=some vb:=aw
      show ((wsD a (w.map YZ) a).bind fun au=> (Jx false b (Yh ks) b).map fun aq=> Tree.mk 1 au aq)=_
      grind
     .cases h
    .rename_i c2
     replace c2:¬k=2:=c2
     split at h
     .rename_i c3
      replace c3:k=3:=c3
      split at h
      .rename_i c
       obtain ⟨b,hb,e⟩:=Qa.1 h
       unfold Z28 at hb
       obtain ⟨x,hx,hy⟩:=Qk.1 hb
       split at hy
       .rename_i z0
        cases hy
        subst e
        obtain ⟨X,e1,hX⟩:=h2 (d - 1) t.kids [] x (fun q hq=> ⟨_,Go.AM.rightOs_mem ri.ops q hq⟩) ai.2.2 aa.1 hx
        obtain ⟨Y,hY,e2⟩:=hX [] []
        have hl:2<=l/\l<=9:=ri.list c3
        have c:t.kind=l:=c
        rw [Qn] at e1
        rw [Qh,<-e1,Qn] at hY
        rw [Q1 z0] at e2
        refine ae _ (.mk l [] Y) rfl ((Zff (a:= .mk l [] Y) (by show l≠0;omega) (by show l≠1;omega)).2 ⟨c.symm,(aa.2 V0 V0 V0).symm,by show Z4 Y=Z4 t.kids;rw [<-e2];simp [Z4]⟩) ?_
        rw [ab,if_neg c0,if_neg c1,if_neg c2,if_pos c3,if_pos (show (Tree.mk (Edit.mk k o n w ks l os).list [] x.1).kind=l from rfl)]
        show (Z28 (Zy false (Yn os) x.1 [])).map (fun b=> Tree.mk l [] b)=_
        rw [hY]
        try rfl
       .cases hy
      .cases h
     .cases h
theorem ZfZ:∀ (ks:List (KidOf Edit)) (d:Int),∀ k∈ks,∀ (t u:Tree),Z7 k.e d=true->Z1h ks->RT_ t->doE false k.e t=some u->∃ v,doE false (Zp k.e) u=some v/\Eqv v t
 | [],d,k,hk=> by cases hk
 | ⟨a,e⟩ ::r,d,k,hk=> by
  have h1:=ZcQ e d
  have h2:=ZfZ r d
  intro t u hr hg ht h
  simp only [Z1h,Z1D] at hg
  grind
theorem ZfY:∀ (os:List (OpOf Edit)) (d:Int) (rest out:List Tree) (x:List Tree × List Tree),(∀ o∈os,∃ l,Za l o d=true)->Z0k os->(∀ t∈rest,RT_ t)->Zy false os rest out=some x->
  ∃ X,x.1=out++X/\∀ z aa,∃ Y,Zy false (Yn os) (X++z) aa=some (aa++Y,z)/\Z4 Y++Z4 x.2=Z4 rest
 | [],d,rest,out,x,_,_,_,h=> by
  rw [Zy] at h
  cases h
  exact ⟨[],by simp,fun z aa=> ⟨[],by rw [Yn,Zy];simp,by rfl⟩⟩
 | o ::s,d,rest,out,x,hr,hg,ht,h=> by
  rw [Zy] at h
  obtain ⟨y,hy,hx⟩:=Qk.1 h
  simp only [Z0k] at hg
  obtain ⟨X0,e0,h0⟩:=Zr2 o d rest out y (hr o Q5) hg.1 ht hy
  have ab:∀ t∈y.2,RT_ t:=by
   obtain ⟨m,hm⟩:=Z3z (os:=[o]) (by rw [Z29];exact hy)
   rw [hm]
   exact fun t h=> ht t (Qm h)
  obtain ⟨X1,e1,h1⟩:=ZfY s d y.2 y.1 x (fun q hq=> hr q (Q3 _ hq)) hg.2 ab hx
  refine ⟨X0++X1,by grind,fun z aa=> ?_⟩
  obtain ⟨Y0,p0,q0⟩:=h0 (X1++z) aa
  obtain ⟨Y1,p1,q1⟩:=h1 z (aa++Y0)
  refine ⟨Y0++Y1,?_,?_⟩
  .rw [Yn,Zy,Qb,p0,Qo,p1,Qb]
  .rw [Yq,Qb,q1,q0]
theorem Zr2:∀ (o:OpOf Edit) (d:Int) (rest out:List Tree) (y:List Tree × List Tree),(∃ l,Za l o d=true)->YV o->(∀ t∈rest,RT_ t)->Z2g false o rest out=some y->
  ∃ X,y.1=out++X/\∀ z aa,∃ Y,Z2g false (Yg o) (X++z) aa=some (aa++Y,z)/\Z4 Y++Z4 y.2=Z4 rest
 | ⟨k,n,l,e⟩,d,rest,out,y,⟨li,hr⟩,hg,ht,h=> by
  have ie:=ZcQ e d (rest.getD 0 Tree.nil)
  have r1:=Z5O hr
  simp only [YV] at hg
  rw [Z2g] at h
  split at h
  .rename_i c
   subst c
   split at h
   .rename_i c
    cases h
    refine ⟨rest.take n.toNat,rfl,fun z aa=> ⟨rest.take n.toNat,?_,?_⟩⟩
    .have hl:(rest.take n.toNat).length=n.toNat:=by rw [Qq];omega
     rw [Zt0,Z2g,if_pos rfl,if_pos (by rw [Q8];omega),List.take_left' hl,List.drop_left' hl]
    .rw [<-Yq,Ql]
   .cases h
  .rename_i c0
   split at h
   .rename_i c
    subst c
    split at h
    .rename_i c
     cases h
     refine ⟨[],by simp,fun z aa=> ⟨l,?_,?_⟩⟩
     .try rfl
     .rw [((Z15 l rest).1 c).2,<-Yq,Ql]
    .cases h
   .rename_i c1
    split at h
    .rename_i c
     subst c
     cases h
     refine ⟨l,rfl,fun z aa=> ⟨[],?_,by rfl⟩⟩
     have ab:JP l (l++z)=true:=by rw [Z15];exact ⟨by simp,by grind⟩
     rw [ZsZ,Z2g,Yo,if_pos rfl,if_pos ab,List.drop_left' rfl,Qh]
    .rename_i c2
     split at h
     .cases h
     .rename_i z0
      have hk:k=3:=by rcases r1 with h | h | h | h <;> first | exact absurd h c0 | exact absurd h c1 | exact absurd h c2 | exact h
      subst hk
      obtain ⟨u,hu,ey⟩:=Qa.1 h
      cases ey
      obtain ⟨v,hv,ae⟩:=ie u (JR hr rfl) hg.2.2.2 (ZbA ht 0) hu
      refine ⟨[u],rfl,fun z aa=> ⟨[v],?_,?_⟩⟩
      .rw [ZsY,Z2g,Yo,Yo,Yo,if_neg (by simp)]
       grind
      .cases rest with
       | nil=> grind
       | cons a q=>
        show Z4 ([v]++q)=Z4 (a ::q)
        simp only [Z4,Qp,Qn,X3]
        rw [show Z0 v=Z0 a from ae]
end
theorem Zcg:∀ {ks:List Kid} {k:Kid},k∈ks->Zc k.e<=Zo ks
 | ⟨_,_⟩ ::r,k,h=> by
  rcases Q9.1 h with rfl | h
  .simp only [Zo,Ye];omega
  .have:=Zcg h;simp only [Zo];omega
theorem Zcd:∀ {os:List Op} {o:Op},o∈os->Zs o<=Ze os
 | a ::r,o,h=> by
  rcases Q9.1 h with rfl | h
  .simp only [Ze];omega
  .have:=Zcd h;simp only [Ze];omega
theorem ZrH(o:Op):Zc o.e<=Zs o:=by obtain ⟨k,n,l,e⟩:=o;simp only [Zs];omega
theorem Z1I{e:Edit}{k:Kid}(h:k∈e.kids):Zc k.e < Zc e:=by
 obtain ⟨d,o,n,w,ks,l,os⟩:=e
 have:=Zcg (ks:=ks) h
 simp only [Zc];omega
theorem Z2V{e:Edit}{o:Op}(h:o∈e.ops):Zc o.e < Zc e:=by
 obtain ⟨kk,d,n,w,ks,l,os⟩:=e
 have:=Zcd (os:=os) h
 have:=ZrH o
 simp only [Zc];omega
mutual
theorem JD:∀ (t:Tree) (d m:Int),m < 0->Zh t d=true->Zh t m=true
 | .mk k w ks,d,m,hm,h=> by
  rw [Zh] at h ⊢
  by_cases h0:k=0
  .grind
  .rw [if_neg h0] at h ⊢
   by_cases h1:k=10
   .grind
   .rw [if_neg h1] at h ⊢
    by_cases h2:d=0
    .grind
    .rw [if_neg h2] at h
     rw [Yo]
     by_cases h3:k=1
     .rw [if_pos h3,Q2] at h ⊢
      exact ⟨h.1,Z7S 1 ks (d - 1) (m - 1) V0 h.2⟩
     .rw [if_neg h3,Q2] at h ⊢
      exact ⟨h.1,Z7S k ks (d - 1) (m - 1) V0 h.2⟩
theorem Z7S(list:Int):∀ (ks:List Tree) (d m:Int),m < 0->Ys list ks d=true->Ys list ks m=true
 | [],_,_,_,_=> rfl
 | t ::r,d,m,hm,h=> by
  simp only [Ys,Q2] at h ⊢
  exact ⟨⟨h.1.1,JD t d m hm h.1.2⟩,Z7S list r d m hm h.2⟩
end
theorem RT_.neg{t:Tree}(h:RT_ t):Zh t (-1)=true:=by
 obtain ⟨⟨d,h⟩,_⟩:=h
 exact JD t d (-1) V2 h
theorem Z2K{list d:Int}:∀ {ks:List Tree},Ys list ks d=true↔∀ t∈ks,Z1m list t=true/\Zh t d=true
 | []=> by simp [Ys]
 | t ::r=> by
  simp only [Ys,Q2,Z2K (ks:=r),Q9,forall_eq_or_imp]
theorem Jg{t:Tree}(h:Zh t (-1)=true):t.kind≠0->t.kind≠10->
  (t.kind=1->t.words.length < 65536/\t.kids.length < 65536)/\(t.kind≠1->(2<=t.kind/\t.kind<=9)/\t.words=[]/\t.kids.length < 1048576)/\∀ k∈t.kids,Z1m t.kind k=true/\Zh k (-1)=true:=by
 obtain ⟨k,w,ks⟩:=t
 intro h0 h1
 have h0:k≠0:=h0
 have h1:k≠10:=h1
 rw [Zh,if_neg h0,if_neg h1,if_neg V2] at h
 by_cases h3:k=1
 .rw [if_pos h3,Q2,decide_eq_true_eq,Z2K] at h
  subst h3
  exact ⟨fun _=> h.1,fun e=> absurd rfl e,fun x d=> ⟨(h.2 x d).1,JD _ _ _ V2 (h.2 x d).2⟩⟩
 .rw [if_neg h3,Q2,decide_eq_true_eq,Z2K] at h
  exact ⟨fun e=> absurd e h3,fun _=> ⟨⟨h.1.1,h.1.2.1⟩,Q1 h.1.2.2.1,h.1.2.2.2⟩,fun x d=> ⟨(h.2 x d).1,JD _ _ _ V2 (h.2 x d).2⟩⟩
theorem Zi1{w:List Int}{ks:List Tree}(h1:w.length < 65536)(h2:ks.length < 65536)(h:∀ k∈ks,Z1m 1 k=true/\Zh k (-1)=true):Zh (.mk 1 w ks) (-1)=true:=by
 rw [Zh,if_neg V2,if_neg V2,if_neg V2,if_pos rfl,Q2,decide_eq_true_eq,Z2K]
 exact ⟨⟨h1,h2⟩,fun x d=> ⟨(h x d).1,JD _ _ _ V2 (h x d).2⟩⟩
theorem Zee{l:Int}{ks:List Tree}(hl:2<=l/\l<=9)(h2:ks.length < 1048576)(h:∀ k∈ks,Z1m l k=true/\Zh k (-1)=true):Zh (.mk l [] ks) (-1)=true:=by
 rw [Zh,Yo,Yo,if_neg V2,Yo,Q2,decide_eq_true_eq,Z2K]
 exact ⟨⟨hl.1,hl.2,rfl,h2⟩,fun x d=> ⟨(h x d).1,JD _ _ _ V2 (h x d).2⟩⟩
theorem Z3b{D list:Int}:∀ {l:List Tree},YB D list l=true->∀ t∈l,Zh (.mk list [] [t]) D=true
 | a ::r,h,t,ht=> by
  simp only [YB,Q2] at h
  rcases Q9.1 ht with rfl | ht
  .exact h.1
  .exact Z3b h.2 t ht
theorem Jo{D list:Int}(hl:2<=list/\list<=9){l:List Tree}(h:YB D list l=true):∀ t∈l,Z1m list t=true/\Zh t (-1)=true:=by
 intro t d
 have:=Jg (JD _ _ (-1) V2 (Z3b h t d)) (by show list≠0;omega) (by show list≠10;omega)
 simp_all
inductive Run:List Op->List Tree->List Tree->Prop
 | nil:Run [] [] []
 | keep {o r a s d}:o.kind=0->(a.length:Int)=o.n->Run r s d->Run (o ::r) (a++s) (a++d)
 | gone {o r a s d}:o.kind=1->Z4 o.l=Z4 a->Run r s d->Run (o ::r) (a++s) d
 | come {o r s d}:o.kind=2->Run r s d->Run (o ::r) s (o.l++d)
 | into {o r x y s d}:o.kind=3->doE false o.e x=some y->Run r s d->Run (o ::r) (x ::s) (y ::d)
def kOk(o:Op):Prop:=(o.kind=0/\0<=o.n)\/o.kind=1\/o.kind=2\/o.kind=3
theorem Ztn:∀ {os:List Op} {s d:List Tree},Run os s d->∀ out,Zy false os s out=some (out++d,[]):=by
 intro os s d h
 induction h with
 | nil=> intro out;simp [Zy]
 | keep h0 hn hr0 ih=>
  rename_i o r a s d
  intro out
  rw [Zy,Ym,if_pos h0,if_pos (by grind),show o.n.toNat=a.length by omega]
  grind
 | gone h1 hn hr0 ih=>
  rename_i o r a s d
  intro out
  have hl:=Z2z hn
  rw [Zy,Ym,Yo,if_pos h1,if_pos]
  .grind
  .rw [Z15,hl,List.take_left]
   grind
 | come h2 hr0 ih=>
  intro out
  rw [Zy,Ym,Yo,Yo,if_pos h2]
  grind
 | into h3 he hr0 ih=>
  intro out
  rw [Zy,Ym,Yo,Yo,Yo,if_neg (by simp)]
  grind
theorem Zfh:∀ {os:List Op} {s out:List Tree} {x:List Tree × List Tree},(∀ o∈os,kOk o)->Zy false os s out=some x->x.2=[]->∃ d,x.1=out++d/\Run os s d
 | [],s,out,x,_,h,hx=> by
  rw [Zy] at h
  cases h
  have hx:s=[]:=hx
  subst hx
  exact ⟨[],by simp,.nil⟩
 | o ::r,s,out,x,hk,h,hx=> by
  rw [Zy,Ym] at h
  have hr:∀ o∈r,kOk o:=fun o ho=> hk o (Q3 _ ho)
  rcases hk o Q5 with h0 | h1 | h2 | h3
  .rw [if_pos h0.1] at h
   split at h
   .rename_i hl
    simp only [Qo] at h
    obtain ⟨d,e,hd⟩:=Zfh hr h hx
    refine ⟨s.take o.n.toNat++d,by grind,?_⟩
    have:=Run.keep (a:=s.take o.n.toNat) h0.1 (by grind) hd
    simp_all
   .cases h
  .rw [Yo,if_pos h1] at h
   split at h
   .rename_i hg
    obtain ⟨g1,g2⟩:=(Z15 _ _).1 hg
    simp only [Qo] at h
    obtain ⟨d,e,hd⟩:=Zfh hr h hx
    refine ⟨d,e,?_⟩
    have:=Run.gone (a:=s.take o.l.length) h1 g2 hd
    simp_all
   .cases h
  .rw [Yo,Yo,if_pos h2] at h
   simp only [Qo] at h
   obtain ⟨d,e,hd⟩:=Zfh hr h hx
   exact ⟨o.l++d,by grind,.come h2 hd⟩
  .rw [Yo,Yo,Yo] at h
   split at h
   .cases h
   .rename_i hl
    obtain ⟨y,hy,h⟩:=Qk.1 h
    obtain ⟨z,hz,rfl⟩:=Qa.1 hy
    obtain ⟨d,e,hd⟩:=Zfh hr h hx
    cases s with
    | nil=> simp at hl
    | cons x0 s=>
     refine ⟨z ::d,by rw [e];simp,.into h3 (by simpa using hz) (by simpa using hd)⟩
theorem Z6S{os:List Op}{s d:List Tree}(hk:∀ o∈os,kOk o):Z28 (Zy false os s [])=some d↔Run os s d:=by
 constructor
 .intro h
  unfold Z28 at h
  obtain ⟨x,hx,h⟩:=Qk.1 h
  split at h
  .rename_i hl
   cases h
   obtain ⟨d,e,hd⟩:=Zfh hk hx (Q1 hl)
   grind
  .cases h
 .intro h
  have:=Ztn h []
  unfold Z28
  grind
theorem ZrS{list d:Int}{o:Op}(h:Za list o d=true):kOk o:=by
 have:=Y9 h
 cases this with
 | keep n h1=> exact .inl ⟨rfl,by grind⟩
 | gone=> exact .inr (.inl rfl)
 | come=> exact .inr (.inr (.inl rfl))
 | into=> exact .inr (.inr (.inr rfl))
theorem ZyJ:∀ {os:List Op} {s d:List Tree},Run os s d->(∀ o∈os,YW o)->(s.length:Int)=Z0h os/\(d.length:Int)=Z0B os:=by
 intro os s d h
 induction h with
 | nil=> intro _;simp [Z0h,Z0B]
 | keep h0 hn hr0 ih=>
  rename_i o r a s d
  intro hk
  obtain ⟨i1,i2⟩:=ih fun o ho=> hk o (Q3 _ ho)
  have ho:=hk o Q5
  have hl:Z5 o=o.n:=by
   rcases ho with h | h | h
   .unfold Z5;rw [Yo,h.2.1];simp
   .omega
   .omega
  simp only [Z0h,Z0B,Q8]
  rw [Yo,Yo,hl]
  omega
 | gone h1 hn hr0 ih=>
  rename_i o r a s d
  intro hk
  obtain ⟨i1,i2⟩:=ih fun o ho=> hk o (Q3 _ ho)
  have ho:=hk o Q5
  have hl:Z5 o=a.length:=by
   have:=Z2z hn
   rcases ho with h | h | h
   .omega
   .unfold Z5;rw [Yo,h.2.1];omega
   .omega
  simp only [Z0h,Z0B,Q8]
  rw [Yo,if_pos h1,hl]
  omega
 | come h2 hr0 ih=>
  rename_i o r s d
  intro hk
  obtain ⟨i1,i2⟩:=ih fun o ho=> hk o (Q3 _ ho)
  have ho:=hk o Q5
  have hl:Z5 o=o.l.length:=by
   rcases ho with h | h | h
   .omega
   .unfold Z5;rw [Yo,h.2.1];omega
   .omega
  simp only [Z0h,Z0B,Q8]
  rw [if_pos h2,Yo,hl]
  omega
 | into h3 he hr0 ih=>
  rename_i o r x y s d
  intro hk
  obtain ⟨i1,i2⟩:=ih fun o ho=> hk o (Q3 _ ho)
  have hl:Z5 o=1:=by unfold Z5;rw [if_pos h3]
  simp only [Z0h,Z0B,Qd]
  rw [Yo,Yo,hl]
  omega
theorem Zlt{r:Bool}{tk:List Tree}:∀ {ks:List Kid} {out b:List Tree},Jx r tk ks out=some b->(∀ k∈ks,k.at_<=65534)->
  b.length<=max out.length 65535/\∀ y∈b,y∈out\/y=Tree.nil\/∃ k∈ks,doE r k.e (tk.getD k.at_.toNat Tree.nil)=some y
 | [],out,b,h,_=> by
  rw [Jx] at h
  cases h
  exact ⟨V0,fun y d=> .inl d⟩
 | k ::s,out,b,h,ha=> by
  rw [Jx,Z4u] at h
  obtain ⟨v,hv,hb⟩:=Qk.1 h
  obtain ⟨i1,i2⟩:=Zlt hb fun x hx=> ha x (Q3 _ hx)
  have:=ha k Q5
  rw [Z3H] at i1
  refine ⟨V0,fun y d=> ?_⟩
  rcases i2 y d with h1 | h1 | ⟨q,hq,h1⟩
  .rcases Z7L h1 with h1 | h1 | h1
   .exact .inl h1
   .exact .inr (.inl h1)
   .subst h1
    exact .inr (.inr ⟨k,Q5,hv⟩)
  .exact .inr (.inl h1)
  .exact .inr (.inr ⟨q,Q3 _ hq,h1⟩)
theorem ZyI:∀ {os:List Op} {s d:List Tree},Run os s d->∀ y∈d,y∈s\/(∃ o∈os,o.kind=2/\y∈o.l)\/∃ o∈os,o.kind=3/\∃ x∈s,doE false o.e x=some y:=by
 intro os s d h
 induction h with
 | nil=> grind
 | keep h0 hn hr0 ih=>
  grind
 | gone h1 hn hr0 ih=>
  grind
 | come h2 hr0 ih=>
  grind
 | into h3 he hr0 ih=>
  grind
theorem ZEn{y:Tree}(h:y.kind≠10):Z1m 1 y=true:=by
 unfold Z1m
 grind
theorem Z83{list d:Int}{os:List Op}(h:ZO list os d=true):∀ o∈os,YW o:=fun o ho=> Z7Q (rightOs_mem h ho)
theorem Z2p{o:Op}(h:YW o):0<=Z5 o:=by have:=JF h;omega
theorem Z59{e:Edit}{d:Int}{t u:Tree}(hr:Z7 e d=true)(h:doE false e t=some u):(e.kind=1->u=e.new)/\(e.kind=2->u.kind=1/\t.kind=1)/\(e.kind=3->u.kind=e.list/\t.kind=e.list)/\(e.kind=0->u=t):=by
 rw [JK,ZR] at h
 refine ⟨fun hk=> ?_,fun hk=> ?_,fun hk=> ?_,fun hk=> ?_⟩
 .grind
 .rw [Yo,Yo,if_pos hk] at h
  split at h
  .rename_i ht
   obtain ⟨a,ha,h⟩:=Qk.1 h
   obtain ⟨b,hb,rfl⟩:=Qa.1 h
   simp_all
  .cases h
 .rw [Yo,Yo,Yo,if_pos hk] at h
  split at h
  .rename_i ht
   obtain ⟨b,hb,rfl⟩:=Qa.1 h
   simp_all
  .cases h
 grind
theorem Z4t:∀ (n:Nat) (e:Edit) (d:Int) (t u:Tree),Zc e<=n->Z7 e d=true->Zh t (-1)=true->doE false e t=some u->Zh u (-1)=true/\(e.kind≠0->u.kind≠10):=by
 intro n
 induction n with
 | zero=> intro e d t u hm;obtain ⟨k,o,nw,w,ks,l,os⟩:=e;simp only [Zc] at hm;omega
 | succ n ih=>
  intro e d t u hm hr ht h
  have R:=Zq hr
  obtain ⟨k1,k2,k3,k0⟩:=Z59 hr h
  have hk:=R.kind
  by_cases h0:e.kind=0
  .grind
  by_cases h1:e.kind=1
  .rw [k1 h1]
   obtain ⟨r1,r2,r3,r4⟩:=R.rep h1
   exact ⟨JD _ _ _ V2 r2,fun _=> r4⟩
  by_cases h2:e.kind=2
  .obtain ⟨u1,t1⟩:=k2 h2
   refine ⟨?_,fun _=> by omega⟩
   rw [JK,ZR,if_neg h0,if_neg h1,if_pos h2,if_pos t1] at h
   obtain ⟨a,ha,h⟩:=Qk.1 h
   obtain ⟨b,hb,rfl⟩:=Qa.1 h
   obtain ⟨p1,_,p3⟩:=Jg ht V0 V0
   have p1:=p1 t1
   rw [t1] at p3
   have hl:=Zhy R.words ha
   have ab:=Ya R.kids
   obtain ⟨m1,m2⟩:=Zlt hb fun k hk=> (ab k hk).1.2.1
   refine Zi1 V0 V0 fun y hy=> ?_
   rcases m2 y hy with h | rfl | ⟨k,hk,h⟩
   .exact p3 y h
   .trivial
   .have hx:Zh (t.kids.getD k.at_.toNat Tree.nil) (-1)=true:=by
     by_cases hi:k.at_.toNat < t.kids.length
     .grind
     .rw [Q6,Qu V0];try rfl
    obtain ⟨g1,g2⟩:=ih k.e _ _ y (by have:=Z1I hk;omega) (ab k hk).2 hx h
    exact ⟨ZEn (g2 (ab k hk).1.2.2),g1⟩
  .have h3:e.kind=3:=V0
   obtain ⟨u1,t1⟩:=k3 h3
   have ai:=R.list h3
   refine ⟨?_,fun _=> by omega⟩
   rw [JK,ZR,if_neg h0,if_neg h1,if_neg h2,if_pos h3,if_pos t1] at h
   obtain ⟨b,hb,rfl⟩:=Qa.1 h
   have ho:∀ o∈e.ops,Za e.list o (d - 1)=true:=fun o h=> rightOs_mem R.ops h
   have aa:=(Z6S (fun o h=> ZrS (ho o h))).1 hb
   obtain ⟨_,q2⟩:=ZyJ aa (Z83 R.ops)
   obtain ⟨q3,q4⟩:=Z4c e.ops 0 (fun o h=> Z2p (Z83 R.ops o h)) V2 V2
   have q5:=R.len.2
   obtain ⟨_,_,p3⟩:=Jg ht V0 V0
   rw [t1] at p3
   refine Zee ai V0 fun y hy=> ?_
   rcases ZyI aa y hy with h | ⟨o,hoo,hk2,hyl⟩ | ⟨o,hoo,hk3,x,hx,h⟩
   .exact p3 y h
   .have:=Y9 (ho o hoo)
    cases this with
    | come l h1 h2=> exact Jo ai h1 y hyl
    | keep | gone | into=> grind
   .have:=Y9 (ho o hoo)
    cases this with
    | into e' g1 g2 g3 g4=>
     obtain ⟨f1,f2⟩:=ih e' _ x y (by have:=Z2V hoo;grind) g1 (p3 x hx).2 h
     refine ⟨?_,f1⟩
     obtain ⟨j1,j2,_,_⟩:=Z59 g1 h
     unfold Z1m
     grind
    | keep | gone | come=> grind
theorem JC{o:Op}{r:List Op}{s d:List Tree}(h0:o.kind=0):Run (o ::r) s d↔∃ a s' d',s=a++s'/\d=a++d'/\(a.length:Int)=o.n/\Run r s' d':=by
 constructor
 .intro h
  cases h with
  | keep _ h2 h3=> grind
  | gone h1=> omega
  | come h1=> omega
  | into h1=> omega
 .rintro ⟨a,s',d',rfl,rfl,h2,h3⟩
  exact .keep h0 h2 h3
theorem Yk{o:Op}{r:List Op}{s d:List Tree}(h0:o.kind=1):Run (o ::r) s d↔∃ a s',s=a++s'/\Z4 o.l=Z4 a/\Run r s' d:=by
 constructor
 .intro h
  cases h with
  | gone _ h2 h3=> grind
  | keep h1=> omega
  | come h1=> omega
  | into h1=> omega
 .rintro ⟨a,s',rfl,h2,h3⟩
  exact .gone h0 h2 h3
theorem Yl{o:Op}{r:List Op}{s d:List Tree}(h0:o.kind=2):Run (o ::r) s d↔∃ d',d=o.l++d'/\Run r s d':=by
 constructor
 .intro h
  cases h with
  | come _ h3=> grind
  | keep h1=> omega
  | gone h1=> omega
  | into h1=> omega
 .rintro ⟨d',rfl,h3⟩
  exact .come h0 h3
theorem Z0j{o:Op}{r:List Op}{s d:List Tree}(h0:o.kind=3):Run (o ::r) s d↔∃ x s' y d',s=x ::s'/\d=y ::d'/\doE false o.e x=some y/\Run r s' d':=by
 constructor
 .intro h
  cases h with
  | into _ h2 h3=> grind
  | keep h1=> omega
  | gone h1=> omega
  | come h1=> omega
 .rintro ⟨x,s',y,d',rfl,rfl,h2,h3⟩
  exact .into h0 h2 h3
theorem Z6B{o:Op}{p r:List Op}(h:∀ s d,Run p s d↔Run r s d)(hk:kOk o)(s d:List Tree):Run (o ::p) s d↔Run (o ::r) s d:=by
 rcases hk with h0 | h1 | h2 | h3
 .rw [JC h0.1,JC h0.1];simp only [h]
 .rw [Yk h1,Yk h1];simp only [h]
 .rw [Yl h2,Yl h2];simp only [h]
 .rw [Z0j h3,Z0j h3];simp only [h]
theorem Yx{o:Op}(h:YW o):kOk o:=by
 rcases h with h | h | h
 .exact .inl ⟨h.1,V0⟩
 .rcases h.1 with h1 | h1
  .exact .inr (.inl h1)
  .exact .inr (.inr (.inl h1))
 .exact .inr (.inr (.inr h.1))
theorem Z9i{o:Op}(h:YW o)(h0:o.kind=0):Z5 o=o.n:=by
 rcases h with h | h | h
 .unfold Z5;rw [Yo,h.2.1];simp
 .omega
 .omega
theorem YP{o:Op}(h:YW o)(h0:o.kind=1\/o.kind=2):Z5 o=o.l.length:=by
 rcases h with h | h | h
 .omega
 .unfold Z5;omega
 .omega
theorem Z0O{o:Op}(h0:o.kind=3):Z5 o=1:=by unfold Z5;rw [if_pos h0]
theorem ZhU{o:Op}{r:List Op}{s m:List Tree}(ho:YW o)(hk:o.kind≠1)(h:Run (o ::r) s m):∃ m1 s' m',m=m1++m'/\(m1.length:Int)=Z5 o/\Run r s' m':=by
 rcases Yx ho with h0 | h1 | h2 | h3
 .obtain ⟨a,s',d',_,rfl,hl,d⟩:=(JC h0.1).1 h
  exact ⟨a,s',d',rfl,by rw [Z9i ho h0.1];exact hl,d⟩
 .omega
 .obtain ⟨d',rfl,d⟩:=(Yl h2).1 h
  exact ⟨o.l,s,d',rfl,by rw [YP ho (.inr h2)],d⟩
 .obtain ⟨x,s',y,d',_,rfl,_,d⟩:=(Z0j h3).1 h
  exact ⟨[y],s',d',rfl,by rw [Z0O h3];rfl,d⟩
theorem Zmg{o:Op}{r:List Op}{m d:List Tree}(ho:YW o)(hk:o.kind≠2)(h:Run (o ::r) m d):∃ m1 m' d',m=m1++m'/\(m1.length:Int)=Z5 o/\Run r m' d':=by
 rcases Yx ho with h0 | h1 | h2 | h3
 .obtain ⟨a,s',d',rfl,_,hl,hr⟩:=(JC h0.1).1 h
  exact ⟨a,s',d',rfl,by rw [Z9i ho h0.1];exact hl,hr⟩
 .obtain ⟨a,s',rfl,hn,hr⟩:=(Yk h1).1 h
  exact ⟨a,s',d,rfl,by rw [YP ho (.inl h1),Z2z hn],hr⟩
 .omega
 .obtain ⟨x,s',y,d',rfl,_,_,hr⟩:=(Z0j h3).1 h
  exact ⟨[x],s',d',rfl,by rw [Z0O h3];rfl,hr⟩
theorem Zrb{o:Op}{r:List Op}{n:Int}(ho:YW o)(h1:1<=n)(hn:¬Z5 o<=n)(s d:List Tree):Run (o ::r) s d↔Run (ZK o n ::Z0t o n ::r) s d:=by
 unfold ZK Z0t
 rw [if_neg hn]
 rcases Yx ho with h0 | hg | hc | hi
 .have hl:=Z9i ho h0.1
  rw [if_pos h0.1,if_pos h0.1,JC h0.1,JC (o:=⟨o.kind,n,o.l,o.e⟩) h0.1]
  constructor
  .rintro ⟨a,s',d',rfl,rfl,ha,hr⟩
   refine ⟨a.take n.toNat,a.drop n.toNat++s',a.drop n.toNat++d',by rw [<-Qb,Ql],by rw [<-Qb,Ql],by grind,?_⟩
   exact (JC (o:=⟨o.kind,o.n - n,o.l,o.e⟩) h0.1).2 ⟨a.drop n.toNat,s',d',rfl,rfl,by grind,hr⟩
  .rintro ⟨a,s',d',rfl,rfl,ha,hr⟩
   obtain ⟨b,s2,d2,rfl,rfl,hb,ab⟩:=(JC (o:=⟨o.kind,o.n - n,o.l,o.e⟩) h0.1).1 hr
   grind
 .have hl:=YP ho (.inl hg)
  rw [Yo,Yo,Yk hg,Yk (o:=⟨o.kind,o.n,o.l.take n.toNat,o.e⟩) hg]
  constructor
  .rintro ⟨a,s',rfl,ha,hr⟩
   have ak:=Z2z ha
   refine ⟨a.take n.toNat,a.drop n.toNat++s',by rw [<-Qb,Ql],EqvL.take ha _,?_⟩
   exact (Yk (o:=⟨o.kind,o.n,o.l.drop n.toNat,o.e⟩) hg).2 ⟨a.drop n.toNat,s',rfl,EqvL.drop ha _,hr⟩
  .rintro ⟨a,s',rfl,ha,hr⟩
   obtain ⟨b,s2,rfl,hb,ab⟩:=(Yk (o:=⟨o.kind,o.n,o.l.drop n.toNat,o.e⟩) hg).1 hr
   refine ⟨a++b,s2,by grind,?_,ab⟩
   have:=Z10 ha hb
   simp_all
 .rw [Yo,Yo,Yl hc,Yl (o:=⟨o.kind,o.n,o.l.take n.toNat,o.e⟩) hc]
  constructor
  .rintro ⟨d',rfl,hr⟩
   refine ⟨o.l.drop n.toNat++d',by rw [<-Qb,Ql],?_⟩
   exact (Yl (o:=⟨o.kind,o.n,o.l.drop n.toNat,o.e⟩) hc).2 ⟨d',rfl,hr⟩
  .rintro ⟨d',rfl,hr⟩
   obtain ⟨d2,rfl,ab⟩:=(Yl (o:=⟨o.kind,o.n,o.l.drop n.toNat,o.e⟩) hc).1 hr
   exact ⟨d2,by rw [<-Qb,Ql],ab⟩
 .rw [Z0O hi] at hn
  omega
def Z3i:List Piece->List Op
 | []=> []
 | x ::r=> (if x.of=2 then [] else [x.p])++Z3i r
def Z3h:List Piece->List Op
 | []=> []
 | x ::r=> (if x.of=1 then [] else [x.q])++Z3h r
def Part(l:List Op)(o:Op):Prop:=∃ o'∈l,o.kind=o'.kind/\o.e=o'.e/\Zs o<=Zs o'/\∀ t∈o.l,t∈o'.l
structure POk (p q:List Op) (x:Piece):Prop where
 of:x.of=0\/x.of=1\/x.of=2
 pp:x.of≠2->Part p x.p/\YW x.p
 qq:x.of≠1->Part q x.q/\YW x.q
 one:x.of=1->x.p.kind=1
 two:x.of=2->x.q.kind=2
 both:x.of=0->x.p.kind≠1/\x.q.kind≠2/\Z5 x.p=Z5 x.q
 pn:x.of=2->x.p=Op.nil
 qn:x.of=1->x.q=Op.nil
theorem Part.mono{l l':List Op}{o:Op}(h:Part l o)(hl:∀ x∈l,Part l' x):Part l' o:=by
 obtain ⟨o',h1,h2,h3,h5,h4⟩:=h
 obtain ⟨o2,g1,d,g3,g5,g4⟩:=hl o' h1
 exact ⟨o2,g1,h2.trans d,h3.trans g3,QZ h5 g5,fun t ht=> g4 t (h4 t ht)⟩
theorem Part.self{l:List Op}{o:Op}(h:o∈l):Part l o:=⟨o,h,rfl,rfl,Qg _,fun _ h=> h⟩
theorem POk.mono{p q p' q':List Op}{x:Piece}(h:POk p q x)(hp:∀ x∈p,Part p' x)(hq:∀ x∈q,Part q' x):POk p' q' x:=
 ⟨h.of,fun e=> ⟨(h.pp e).1.mono hp,(h.pp e).2⟩,fun e=> ⟨(h.qq e).1.mono hq,(h.qq e).2⟩,h.one,h.two,h.both,h.pn,h.qn⟩
theorem ZjF{o:Op}{r:List Op}{n:Int}(h:∀ x∈o ::r,YW x)(h1:1<=n)(hn:n<=Z5 o):
  YW (ZK o n)/\Z5 (ZK o n)=n/\(ZK o n).kind=o.kind/\Part (o ::r) (ZK o n)/\(∀ x∈Y8 (o ::r) n,YW x/\Part (o ::r) x)/\∀ s d,Run (o ::r) s d↔Run (ZK o n ::Y8 (o ::r) n) s d:=by
 have ho:=h o Q5
 have hr:∀ x∈r,YW x/\Part (o ::r) x:=fun x hx=> ⟨h x (Q3 _ hx),Part.self (Q3 _ hx)⟩
 unfold Y8
 simp only [Qz,X2,Xg]
 by_cases hl:Z5 o<=n
 .rw [if_pos hl]
  have e:ZK o n=o:=by unfold ZK;rw [if_pos hl]
  rw [e]
  exact ⟨ho,V0,rfl,Part.self Q5,hr,fun s d=> QN⟩
 .rw [if_neg hl]
  obtain ⟨_,v2,v3,v4⟩:=Z8m (a:=1) ho h1 hl
  obtain ⟨b1,b2⟩:=Zfr ho h1 hl
  refine ⟨v2,v3,Z4I o n,?_,?_,Zrb ho h1 hl⟩
  .refine ⟨o,Q5,Z4I o n,?_,v4,?_⟩
   .unfold ZK;split;rfl;split <;> rfl
   .intro t ht
    unfold ZK at ht
    split at ht
    .exact ht
    .split at ht
     .exact ht
     .exact QR ht
  .intro x hx
   rcases Q9.1 hx with rfl | hx
   .refine ⟨b1,o,Q5,?_,?_,b2,?_⟩
    .unfold Z0t;split <;> rfl
    .unfold Z0t;split <;> rfl
    .intro t ht
     unfold Z0t at ht
     split at ht
     .exact ht
     .exact Qm ht
   .exact hr x hx
theorem ZB{d:List Tree}{s:List Tree}(h:Run [] s d):s=[]/\d=[]:=by cases h;grind
theorem Z9f:∀ (k:Nat) (p q:List Op) (out:List Piece),p.length+q.length<=k->(∀ o∈p,YW o)->(∀ o∈q,YW o)->
  ((Yf 1 2 p q out).2.1=true->∃ ps,(Yf 1 2 p q out).1=out++ps/\(∀ x∈ps,POk p q x)/\(∀ s m,Run p s m↔Run (Z3i ps) s m)/\∀ m d,Run q m d↔Run (Z3h ps) m d)/\
  ((Yf 1 2 p q out).2.1=false->∀ s m d,Run p s m->Run q m d->False):=by
 intro k
 induction k with
 | zero=>
  intro p q out hk hp hq
  have e1:p=[]:=Q1 V0
  have e2:q=[]:=Q1 V0
  subst e1 e2
  have e:Yf 1 2 [] [] out=(out,true,[],[]):=by
   rw [Yf,dif_neg (by simp [sgl]),dif_neg (by simp [sgl]),dif_pos (by simp)]
   try rfl
  rw [e]
  exact ⟨fun _=> ⟨[],by simp,fun x hx=> (by cases hx),fun s m=> QN,fun m d=> QN⟩,fun h=> by cases h⟩
 | succ k ih=>
  intro p q out hk hp hq
  rw [Yf]
  by_cases h1:sgl 1 p=true
  .rw [dif_pos h1]
   obtain ⟨g1,g2⟩:=Z3j.1 h1
   cases p with
   | nil=> grind
   | cons a p'=>
    simp only [Qz] at g2
    simp only [Qz,X2,Xg]
    have ha:=hp a Q5
    obtain ⟨i1,i2⟩:=ih p' q (out++[⟨1,a,Op.nil⟩]) (by grind) (fun o ho=> hp o (Q3 _ ho)) hq
    refine ⟨fun h=> ?_,fun h s m d r1 r2=> ?_⟩
    .obtain ⟨ps,e,af,hP,hQ⟩:=i1 h
     refine ⟨⟨1,a,Op.nil⟩ ::ps,by grind,fun x hx=> ?_,fun s m=> ?_,fun m d=> ?_⟩
     .rcases Q9.1 hx with rfl | hx
      .exact ⟨.inr (.inl rfl),fun _=> ⟨Part.self Q5,ha⟩,fun e=> absurd rfl e,fun _=> g2,fun e=> (by cases e),fun e=> (by cases e),fun e=> (by cases e),fun _=> rfl⟩
      .exact (af x hx).mono (fun x hx=> Part.self (Q3 _ hx)) (fun x hx=> Part.self hx)
     .show _↔Run (a ::Z3i ps) s m
      exact Z6B hP (Yx ha) s m
     .exact hQ m d
    .obtain ⟨b,s',_,_,hr⟩:=(Yk g2).1 r1
     grind
  .rw [dif_neg h1]
   by_cases h2:sgl 2 q=true
   .rw [dif_pos h2]
    obtain ⟨g1,g2⟩:=Z3j.1 h2
    cases q with
    | nil=> grind
    | cons a q'=>
     simp only [Qz] at g2
     simp only [Qz,X2,Xg]
     have ha:=hq a Q5
     obtain ⟨i1,i2⟩:=ih p q' (out++[⟨2,Op.nil,a⟩]) (by grind) hp (fun o ho=> hq o (Q3 _ ho))
     refine ⟨fun h=> ?_,fun h s m d r1 r2=> ?_⟩
     .obtain ⟨ps,e,af,hP,hQ⟩:=i1 h
      refine ⟨⟨2,Op.nil,a⟩ ::ps,by grind,fun x hx=> ?_,fun s m=> ?_,fun m d=> ?_⟩
      .rcases Q9.1 hx with rfl | hx
       .exact ⟨.inr (.inr rfl),fun e=> absurd rfl e,fun _=> ⟨Part.self Q5,ha⟩,fun e=> (by cases e),fun _=> g2,fun e=> (by cases e),fun _=> rfl,fun e=> (by cases e)⟩
       .exact (af x hx).mono (fun x hx=> Part.self hx) (fun x hx=> Part.self (Q3 _ hx))
      .exact hP s m
      .show _↔Run (a ::Z3h ps) m d
       exact Z6B hQ (Yx ha) m d
     .obtain ⟨d',_,hr⟩:=(Yl g2).1 r2
      grind
   .rw [dif_neg h2]
    by_cases h3:p.length=0\/q.length=0
    .rw [dif_pos h3]
     by_cases h4:p.length=0
     .have e1:p=[]:=Q1 h4
      subst e1
      by_cases h5:q.length=0
      .have e2:q=[]:=Q1 h5
       subst e2
       rw [if_pos rfl]
       exact ⟨fun _=> ⟨[],by simp,fun x hx=> (by cases hx),fun s m=> QN,fun m d=> QN⟩,fun h=> by cases h⟩
      .rw [if_neg (by grind)]
       refine ⟨fun h=> (by cases h),fun _ s m d r1 r2=> ?_⟩
       cases q with
       | nil=> exact h5 rfl
       | cons a q'=>
        have ha:=hq a Q5
        obtain ⟨_,rfl⟩:=ZB r1
        obtain ⟨m1,m',d',e,hl,_⟩:=Zmg ha (fun e=> h2 (Z3j.2 ⟨by simp,by simpa using e⟩)) r2
        have:=JF ha
        have e:=congrArg List.length e
        grind
     .have h5:q.length=0:=V0
      have e2:q=[]:=Q1 h5
      subst e2
      rw [if_neg (by grind)]
      refine ⟨fun h=> (by cases h),fun _ s m d r1 r2=> ?_⟩
      cases p with
      | nil=> exact h4 rfl
      | cons a p'=>
       have ha:=hp a Q5
       obtain ⟨rfl,_⟩:=ZB r2
       obtain ⟨m1,s',m',e,hl,_⟩:=ZhU ha (fun e=> h1 (Z3j.2 ⟨by simp,by simpa using e⟩)) r1
       have:=JF ha
       have e:=congrArg List.length e
       grind
    .rw [dif_neg h3]
     cases p with
     | nil=> simp at h3
     | cons a p'=>
      cases q with
      | nil=> simp at h3
      | cons b q'=>
       have ha:=hp a Q5
       have hb:=hq b Q5
       have ka:a.kind≠1:=fun e=> h1 (Z3j.2 ⟨by simp,by simpa using e⟩)
       have kb:b.kind≠2:=fun e=> h2 (Z3j.2 ⟨by simp,by simpa using e⟩)
       have la:=JF ha
       have lb:=JF hb
       simp only [Qz]
       generalize hn:min (Z5 a) (Z5 b)=n
       have av:1<=n:=V0
       have a7:n<=Z5 a:=V0
       have az:n<=Z5 b:=V0
       obtain ⟨a1,a2,a3,a4,a5,a6⟩:=ZjF hp av a7
       obtain ⟨b1,b2,b3,b4,b5,b6⟩:=ZjF hq av az
       have a8:(Y8 (a ::p') n).length+(Y8 (b ::q') n).length<=k:=by
        have x1:=Je (a ::p') n (by simp)
        have x2:=Je (b ::q') n (by simp)
        simp only [Qd] at hk x1 x2
        rcases Int.le_total (Z5 a) (Z5 b) with h | h
        .have:=Jd (a ::p') n (by simp) (by grind)
         grind
        .have:=Jd (b ::q') n (by simp) (by grind)
         grind
       obtain ⟨i1,i2⟩:=ih (Y8 (a ::p') n) (Y8 (b ::q') n) (out++[⟨0,ZK a n,ZK b n⟩]) a8 (fun o ho=> (a5 o ho).1) (fun o ho=> (b5 o ho).1)
       refine ⟨fun h=> ?_,fun h s m d r1 r2=> ?_⟩
       .obtain ⟨ps,e,af,hP,hQ⟩:=i1 h
        refine ⟨⟨0,ZK a n,ZK b n⟩ ::ps,by grind,fun x hx=> ?_,fun s m=> ?_,fun m d=> ?_⟩
        .rcases Q9.1 hx with rfl | hx
         .exact ⟨.inl rfl,fun _=> ⟨a4,a1⟩,fun _=> ⟨b4,b1⟩,fun e=> (by cases e),fun e=> (by cases e),fun _=> ⟨by grind,by grind,by grind⟩,fun e=> (by cases e),fun e=> (by cases e)⟩
         .exact (af x hx).mono (fun x hx=> (a5 x hx).2) (fun x hx=> (b5 x hx).2)
        .rw [a6 s m]
         exact Z6B hP (Yx a1) s m
        .rw [b6 m d]
         exact Z6B hQ (Yx b1) m d
       .rw [a6] at r1
        rw [b6] at r2
        obtain ⟨m1,s',m',e,hl,r3⟩:=ZhU a1 V0 r1
        obtain ⟨m2,m3,d',e',bk,r4⟩:=Zmg b1 V0 r2
        obtain ⟨_,e2⟩:=Kh (e.symm.trans e') V0
        grind
end Go.AM.YtnfbomhidainjaaGreat
