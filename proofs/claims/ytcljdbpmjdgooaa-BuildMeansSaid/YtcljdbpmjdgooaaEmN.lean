import Derived.Test.YtcljdbpmjdgooaaEmM
import Derived.Still
set_option linter.unusedSimpArgs false
set_option linter.unusedVariables false
namespace Go.AM
variable {U:Uni} {P:Program} {cfg:Cfg U} {B:Base} {g:Gh} {a:Act} {w:World} {Γ:Known U} {ops:Array Oper}
def Zfx(cfg:Cfg U)(Γ:Known U)(ops:Array Oper):List Oper->FSt U->Option (List Fp)
 | [],_=> some []
 | o ::r,st=> match JK cfg Γ ops o st with
  | none=> none
  | some (_,e)=> match Zfx cfg Γ ops r (st.app o.dst e) with
   | none=> none
   | some l=> some (ZgP Γ o st e ::l)
def Zgp(ops:List Oper):Nat->Nat->Nat->Bool
 | 0,_,_=> false
 | n+1,k,h=> match ops[h]? with
  | none=> false
  | some o=> o.after.toList.any fun e=> Region.binds .any e && (Nat.beq e.on k || (Nat.blt k e.on && Zgp ops n k e.on))
def Z7s:Nat->List Oper->Bool
 | _,[]=> true
 | i,o ::r=> (o.after.toList.all fun e=> !Region.binds .any e || Nat.blt e.on i) && Z7s (i+1) r
def Zid(ops:Array Oper)(fps:List Fp)(k h:Nat):Bool:=
 Zgp ops.toList 5 k h || match ops.toList[k]?,ops.toList[h]?,fps[k]?,fps[h]? with
  | some x,some y,some a,some b=> Zbh ops x y a b
  | _,_,_,_=> false
def Zf3(ops:Array Oper)(fps:List Fp):Bool:=
 (List.range ops.toList.length).all fun h=> (List.range h).all fun k=> Zid ops fps k h
def Y0(cfg:Cfg U)(Γ:Known U)(ops:Array Oper)(st:FSt U):Bool:=
 match Zfx cfg Γ ops ops.toList st with
 | some fps=> Z7s 0 ops.toList && Zf3 ops fps
 | none=> false
inductive Run (cfg:Cfg U) (Γ:Known U) (ops:Array Oper) (fp:Nat->Option Fp):List Nat->FSt U->FSt U->Prop
 | nil (st):Run cfg Γ ops fp [] st st
 | cons (i l st st' o ps e):ops[i]?=some o->JK cfg Γ ops o st=some (ps,e)->All ps->fp i=some (ZgP Γ o st e)->Run cfg Γ ops fp l (st.app o.dst e) st'->Run cfg Γ ops fp (i ::l) st st'
theorem Z6t{fps:List Fp}:∀ (l:List Oper) (k:Nat) (st st':FSt U) (ps:List Prop) (fl:List Fp),(∀ j,l[j]?=ops[k+j]?)->(∀ j,fl[j]?=fps[k+j]?)->Z9e cfg Γ ops false l st=some (ps,st')->All ps->Zfx cfg Γ ops l st=some fl->
  Run cfg Γ ops (fun i=> fps[i]?) (List.range' k l.length) st st'
 | [],k,st,st',ps,fl,_,_,h,_,_=> by
  simp only [Z9e,Option.some.injEq,Prod.mk.injEq] at h
  obtain ⟨_,rfl⟩:=h
  exact .nil st
 | o ::l,k,st,st',ps,fl,hl,hf,h,hps,hfl=> by
  rw [Z6f] at h
  simp only [ZnH] at h
  simp only [Zfx] at hfl
  split at h
  .cases h
  .rename_i ps1 e1 h1
   rw [h1] at hfl
   simp only at hfl
   split at h
   .cases h
   .rename_i qs st1 h2
    split at hfl
    .cases hfl
    .rename_i fl' hfl'
     simp only [Option.some.injEq,Prod.mk.injEq] at h hfl
     obtain ⟨rfl,rfl⟩:=h
     subst hfl
     obtain ⟨hp1,hp2⟩:=All.append hps
     rw [Qc,List.range'_succ]
     refine .cons k _ st _ o ps1 e1 ?_ h1 hp1 ?_ ?_
     .have:=hl 0;grind
     .have:=hf 0;grind
     .exact Z6t l (k+1) _ _ qs fl' (fun j=> by have:=hl (j+1);grind) (fun j=> by have:=hf (j+1);grind) h2 hp2 hfl'
def ZpI(ops:Array Oper)(fp:Nat->Option Fp)(k h:Nat):Prop:=∃ x y p q,ops[k]?=some x/\ops[h]?=some y/\fp k=some p/\fp h=some q/\Zbh ops x y p q=true
theorem Zr8(ok:CfgOk P cfg){fp:Nat->Option Fp}{h:Nat}{post:List Nat}:∀ (pre:List Nat) (st st':FSt U),Run cfg Γ ops fp (pre++h ::post) st st'->(∀ k∈pre,ZpI ops fp k h)->
  ∃ o ps e,ops[h]?=some o/\JK cfg Γ ops o st=some (ps,e)/\All ps/\fp h=some (ZgP Γ o st e)/\Run cfg Γ ops fp (pre++post) (st.app o.dst e) st'
 | [],st,st',hr,_=> by
  cases hr with
  | cons _ _ _ _ o ps e h1 h2 h3 h4 h5=> grind
 | k ::pre,st,st',hr,hf=> by
  cases hr with
  | cons _ _ _ _ x ps e h1 h2 h3 h4 h5=>
   obtain ⟨y,qs,f,h6,h7,h8,h9,h10⟩:=Zr8 ok pre _ st' h5 (fun j hj=> hf j (by simp [hj]))
   obtain ⟨x',y',p,q,g1,g2,g3,g4,g5⟩:=hf k (by simp)
   rw [h1] at g1
   rw [h6] at g2
   rw [h4] at g3
   rw [h9] at g4
   cases g1;cases g2;cases g3;cases g4
   simp only [Zbh,Q3,Qo] at g5
   obtain ⟨⟨⟨⟨⟨⟨⟨⟨⟨⟨⟨⟨⟨a1,a2⟩,a3⟩,a4⟩,a5⟩,a6⟩,a7⟩,b3⟩,b4⟩,b5⟩,b6⟩,b7⟩,b8⟩,b9⟩:=g5
   simp only [ZgP] at a3 a4 a5 a6 a7 b3 b4 b5 b6 b7 b8 b9
   have ty:touch y (st.app x.dst e)=touch y st:=by
    refine Z2A (ops:=ops) fun t ht=> ?_
    obtain ⟨b1,_,_⟩:=Oper.apart_spec a1
    cases hd:x.dst with
    | none=> rfl
    | some d=>
     have hne:t≠d:=fun e=> b1 d hd (e▸ht)
     have:Nat.beq t d=false:=by
      cases hb:Nat.beq t d with
      | false=> rfl
      | true=> exact absurd (Q4 hb) hne
     simp [FSt.app,FSt.put,this]
   rw [ty] at a3
   have tyT:touchT y (st.app x.dst e)=touchT y st:=by
    refine Z1W (ops:=ops) fun t ht=> ?_
    obtain ⟨b1,_,_⟩:=Oper.apart_spec a1
    cases hd:x.dst with
    | none=> rfl
    | some d=>
     have hne:t≠d:=fun e=> b1 d hd (e▸ht)
     have:Nat.beq t d=false:=by
      cases hb:Nat.beq t d with
      | false=> rfl
      | true=> exact absurd (Q4 hb) hne
     simp [FSt.app,FSt.put,this]
   rw [tyT] at b3
   have tyK:Z1N y (st.app x.dst e)=Z1N y st/\Z2Z y (st.app x.dst e)=Z2Z y st:=by
    have hl:∀ t,t∈y.looksAt ops->(st.app x.dst e).env t=st.env t:=fun t ht=> by
     obtain ⟨b1,_,_⟩:=Oper.apart_spec a1
     cases hd:x.dst with
     | none=> rfl
     | some d=>
      have hne:t≠d:=fun e=> b1 d hd (e▸ht)
      have:Nat.beq t d=false:=by
       cases hb:Nat.beq t d with
       | false=> rfl
       | true=> exact absurd (Q4 hb) hne
      simp [FSt.app,FSt.put,this]
    exact ⟨Z3t hl,Z6J hl⟩
   rw [tyK.1] at b3
   rw [tyK.2] at b4
   have tyC:YC Γ y (st.app x.dst e)=YC Γ y st:=by
    refine Z1q (ops:=ops) fun t ht=> ?_
    obtain ⟨b1,_,_⟩:=Oper.apart_spec a1
    cases hd:x.dst with
    | none=> rfl
    | some d=>
     have hne:t≠d:=fun e=> b1 d hd (e▸ht)
     have:Nat.beq t d=false:=by
      cases hb:Nat.beq t d with
      | false=> rfl
      | true=> exact absurd (Q4 hb) hne
     simp [FSt.app,FSt.put,this]
   rw [tyC] at b8
   have hy:JK cfg Γ ops y st=some (qs,f):=by
    rw [<-h7]
    rw [X4,Qo,Q3] at b3
    rcases b3 with b3 | ⟨b3,b3'⟩
    .exact (Z3w (Z6m (st:=st) (e:=e) a1 a3 a6 b3 b6 (by simpa using b8))).symm
    .exact (ZcK ok h2 b3 b3' a1).symm
   have tx:touch x (st.app y.dst f)=touch x st:=by
    refine Z2A (ops:=ops) fun t ht=> ?_
    obtain ⟨b1,_,_⟩:=Oper.apart_spec a2
    cases hd:y.dst with
    | none=> rfl
    | some d=>
     have hne:t≠d:=fun e=> b1 d hd (e▸ht)
     have:Nat.beq t d=false:=by
      cases hb:Nat.beq t d with
      | false=> rfl
      | true=> exact absurd (Q4 hb) hne
     simp [FSt.app,FSt.put,this]
   have txT:touchT x (st.app y.dst f)=touchT x st:=by
    refine Z1W (ops:=ops) fun t ht=> ?_
    obtain ⟨b1,_,_⟩:=Oper.apart_spec a2
    cases hd:y.dst with
    | none=> rfl
    | some d=>
     have hne:t≠d:=fun e=> b1 d hd (e▸ht)
     have:Nat.beq t d=false:=by
      cases hb:Nat.beq t d with
      | false=> rfl
      | true=> exact absurd (Q4 hb) hne
     simp [FSt.app,FSt.put,this]
   have txC:YC Γ x (st.app y.dst f)=YC Γ x st:=by
    refine Z1q (ops:=ops) fun t ht=> ?_
    obtain ⟨b1,_,_⟩:=Oper.apart_spec a2
    cases hd:y.dst with
    | none=> rfl
    | some d=>
     have hne:t≠d:=fun e=> b1 d hd (e▸ht)
     have:Nat.beq t d=false:=by
      cases hb:Nat.beq t d with
      | false=> rfl
      | true=> exact absurd (Q4 hb) hne
     simp [FSt.app,FSt.put,this]
   have hx:JK cfg Γ ops x (st.app y.dst f)=some (ps,e):=by
    rw [<-h2]
    rw [X4,Qo,Q3] at b4
    rcases b4 with b4 | ⟨b4,b4'⟩
    .exact Z3w (Z6m (st:=st) (e:=f) a2 a4 a7 b4 b7 (by simpa using b9))
    .exact ZcK ok hy b4 b4' a2
   have txK:Z1N x (st.app y.dst f)=Z1N x st/\Z2Z x (st.app y.dst f)=Z2Z x st:=by
    have hl:∀ t,t∈x.looksAt ops->(st.app y.dst f).env t=st.env t:=fun t ht=> by
     obtain ⟨b1,_,_⟩:=Oper.apart_spec a2
     cases hd:y.dst with
     | none=> rfl
     | some d=>
      have hne:t≠d:=fun e=> b1 d hd (e▸ht)
      have:Nat.beq t d=false:=by
       cases hb:Nat.beq t d with
       | false=> rfl
       | true=> exact absurd (Q4 hb) hne
      simp [FSt.app,FSt.put,this]
    exact ⟨Z3t hl,Z6J hl⟩
   refine ⟨y,qs,f,h6,hy,h8,by rw [h9];simp only [ZgP,ty,tyT,tyC,tyK.1,tyK.2],?_⟩
   refine .cons k _ _ _ x ps e h1 hx h3 ?_ ?_
   .rw [h4];simp only [ZgP,tx,txT,txC,txK.1,txK.2]
   .rw [<-Zks a1 a5 b5];exact h10
theorem Z6L{listed:Array Bool}(hdown:∀ j o,ops[j]?=some o->listed.getD j false=true->∀ e∈o.after,Region.binds .any e=true->listed.getD e.on false=true):∀ (n k h:Nat) (o:Oper),ops[h]?=some o->
  (∀ e∈o.after,Region.binds .any e=true->listed.getD e.on false=true)->Zgp ops.toList n k h=true->listed.getD k false=true
 | 0,k,h,o,_,_,hb=> by trivial
 | n+1,k,h,o,ho,hr,hb=> by
  have ho':ops.toList[h]?=some o:=by simpa using ho
  simp only [Zgp,ho',List.any_eq_true] at hb
  obtain ⟨e,he,hb⟩:=hb
  simp only [Q3,X4] at hb
  obtain ⟨h1,h2⟩:=hb
  have he':e∈o.after:=by simpa using he
  have hl:=hr e he' h1
  rcases h2 with h2 | ⟨_,h2⟩
  .rw [<-Q4 h2];exact hl
  .cases hoe:ops[e.on]? with
   | none=>
    have:ops.toList[e.on]?=none:=by simpa using hoe
    cases n with
    | zero=> trivial
    | succ n=> simp [Zgp,this] at h2
   | some o2=> exact Z6L hdown n k e.on o2 hoe (hdown e.on o2 hoe hl) h2
theorem Zbi(l:List Oper):∀ (i:Nat),Z7s i l=true->∀ (j:Nat) (o:Oper),l[j]?=some o->∀ e∈o.after,Region.binds .any e=true->e.on < i+j:=by
 induction l with
 | nil=> grind
 | cons o l ih=>
  intro i h j o' hj e he hb
  simp only [Z7s,Q3] at h
  cases j with
  | zero=>
   simp at hj
   subst hj
   have:=Qg.1 h.1 e (by simpa using he)
   simp_all
  | succ j=>
   grind
theorem ZaB (ok:CfgOk P cfg) (hΓ:∀ f s,Γ f=some s->Contract P cfg f s) (hna:Γ.na=true->B.ab=none) {fp:Nat->Option Fp} {Q:Exit->Act->World->Prop} {st':FSt U}
  (hedge:∀ (j:Nat) o,ops[j]?=some o->∀ e∈o.after,Region.binds .any e=true->e.on < j)
  (hpair:∀ k h,k < h->h < ops.size->Zgp ops.toList 5 k h=true\/ZpI ops fp k h)
  (hQ:∀ g' a' w',Rel cfg B st' g' a' w'->Q .normal a' w'):∀ (fuel:Nat) (l:List Nat) (listed:Array Bool) (st:FSt U) (g:Gh) (a:Act) (w:World),
   l.length<=fuel->l.Pairwise (· < ·)->listed.size=ops.size->(∀ i,i < ops.size->(listed.getD i false=false↔i∈l))->(∀ i∈l,i < ops.size)->
   (∀ j o,ops[j]?=some o->listed.getD j false=true->∀ e∈o.after,Region.binds .any e=true->listed.getD e.on false=true)->
   Run cfg Γ ops fp l st st'->Rel cfg B st g a w->wpAny P .any ops Q fuel listed a w:=by
 intro fuel
 have getD_eq:∀ (listed:Array Bool) i,listed.size=ops.size->i < ops.size->listed.getD i true=listed.getD i false:=by
  intro listed i hs hi
  simp [Array.getD,hs,hi]
 have done:∀ (l:List Nat) (listed:Array Bool),l.Pairwise (· < ·)->listed.size=ops.size->(∀ i,i < ops.size->(listed.getD i false=false↔i∈l))->(∀ i∈l,i < ops.size)->Region.ready .any ops listed=[]->l=[]:=by
  intro l listed hsort hsz hl hlt hr
  cases l with
  | nil=> rfl
  | cons i l=>
   exfalso
   have hi:=hlt i (by simp)
   have hmem:i∈Region.ready .any ops listed:=by
    rw [mem_ready]
    refine ⟨by grind,ops[i],QB hi,fun e he hb=> ?_⟩
    have h1:=hedge i _ (QB hi) e he hb
    cases hx:listed.getD e.on false with
    | true=> rfl
    | false=>
     have:=(hl e.on (by omega)).1 hx
     rcases QH.1 this with h2 | h2
     .omega
     .have:=(List.pairwise_cons.1 hsort).1 _ h2
      omega
   grind
 induction fuel with
 | zero=>
  intro l listed st g a w hlen hsort hsz hl hlt hdown hrun hrel
  have h0:l=[]:=Q6 (by omega)
  subst h0
  cases hrun
  refine ⟨?_,hQ g a w hrel⟩
  cases hr:Region.ready .any ops listed with
  | nil=> rfl
  | cons i r=>
   have hm:i∈Region.ready .any ops listed:=by rw [hr];simp
   obtain ⟨h1,o,ho,_⟩:=mem_ready.1 hm
   grind
 | succ fuel ih=>
  intro l listed st g a w hlen hsort hsz hl hlt hdown hrun hrel
  refine ⟨fun hr=> ?_,fun i hi=> ?_⟩
  .have h0:=done l listed hsort hsz hl hlt hr
   subst h0
   cases hrun
   grind
  .obtain ⟨h1,o,ho,hready⟩:=mem_ready.1 hi
   have hisz:=(QI.1 ho).1
   rw [getD_eq listed i hsz hisz] at h1
   have hil:=(hl i hisz).1 h1
   obtain ⟨pre,post,rfl⟩:=List.append_of_mem hil
   have hpre:∀ k∈pre,ZpI ops fp k i:=by
    intro k hk
    have hki:k < i:=by
     have:=List.pairwise_append.1 hsort
     exact this.2.2 k hk i (by simp)
    rcases hpair k i hki hisz with h2 | h2
    .have h3:=Z6L hdown 5 k i o ho hready h2
     grind
    .exact h2
   obtain ⟨o',ps,e,h2,h3,h4,_,h6⟩:=Zr8 ok pre st st' hrun hpre
   rw [ho] at h2
   cases h2
   unfold wpOp
   simp only [ho]
   have hstep:=Z76 (K:=wpAny P .any ops Q fuel (listed.setIfInBounds i true)) (Q:=Q) ok hΓ hna hrel h3 h4 (by
    intro g' a' w' hrel'
    refine ih (pre++post) (listed.setIfInBounds i true) _ g' a' w' ?_ ?_ ?_ ?_ ?_ ?_ h6 hrel'
    .grind
    .exact hsort.sublist (List.Sublist.append_left (List.sublist_cons_self i post) pre)
    .simp [hsz]
    .intro j hj
     by_cases hij:i=j
     .subst hij
      have hnd:i∉pre++post:=by
       have hp:=List.pairwise_append.1 hsort
       intro hm
       rcases QA.1 hm with hm | hm
       .grind
       .have:=(List.pairwise_cons.1 hp.2.1).1 i hm;omega
      simp [Array.getD,hsz,hj,hnd]
     .rw [getD_set_ne false hij,hl j hj]
      grind
    .intro j hj
     exact hlt j (by
      grind)
    .intro j oj hoj hlj e he hb
     by_cases hij:i=j
     .subst hij
      rw [ho] at hoj
      cases hoj
      exact getD_set_true (hready e he hb)
     .rw [getD_set_ne false hij] at hlj
      exact getD_set_true (hdown j oj hoj hlj e he hb))
   split at hstep
   .grind
   grind
theorem Z0v(ok:CfgOk P cfg)(hΓ:∀ f s,Γ f=some s->Contract P cfg f s):Z3X P cfg Γ (Y0 cfg Γ):=by
 intro B hna st st' g a w id ops ps Q hd hrel hrun hps hQ
 unfold Y0 at hd
 split at hd
 case h_2=> cases hd
 rename_i fps hf
 simp only [Q3] at hd
 obtain ⟨hd1,hd2⟩:=hd
 refine wp_region_any ok.mixed ?_
 have hR:=Z6t (ops:=ops) (fps:=fps) ops.toList 0 st st' ps fps (fun j=> by simp) (fun j=> by simp) hrun hps hf
 have hrel':Rel cfg B st g a { w with drawn:=w.drawn+1 }:=by
  have hc:∀ b,({ w with drawn:=w.drawn+1 }:World).cell? b=w.cell? b:=fun _=> rfl
  exact ⟨⟨fun c v hv=> hrel.inv.im c v hv,fun c t ht=> hrel.inv.it c t ht⟩,
   ⟨⟨hrel.fr.stay.os,hrel.fr.stay.tape,hrel.fr.stay.output,hrel.fr.stay.size⟩,hrel.fr.xad,hrel.fr.mono,hrel.fr.outer,hrel.fr.outer',hrel.fr.clean,hrel.fr.frz,hrel.fr.ab⟩,hrel.env,hrel.mem,hrel.sz,hrel.df,fun t x hx=> ⟨(hrel.ls t x hx).1,LRel.keep (w:=w) (.refl g st.dead (fun _=> true)) (hrel.ls t x hx).1 (fun c v hv=> (hrel.inv.im c v hv).1) (fun _ _ _ _=> rfl) (fun _ _ _ h=> h) (fun _ _ _ _ h=> h) (hrel.ls t x hx).2⟩,hrel.fresh⟩
 refine ZaB (fp:=fun i=> fps[i]?) ok hΓ hna ?_ ?_ hQ ops.size (List.range' 0 ops.toList.length) _ st g a _ (by simp) List.pairwise_lt_range' (by simp) ?_ ?_ ?_ hR hrel'
 .intro j o ho e he hb
  have:=Zbi ops.toList 0 hd1 j o (by simpa using ho) e he hb
  omega
 .intro k h hkh hh
  unfold Zf3 at hd2
  rw [Qg] at hd2
  have h1:=hd2 h (by simpa using hh)
  rw [Qg] at h1
  have h2:=h1 k (by grind)
  unfold Zid at h2
  rw [X4] at h2
  rcases h2 with h2 | h2
  .exact .inl h2
  .right
   split at h2
   .rename_i x y p q hx hy hp hq
    exact ⟨x,y,p,q,by simpa using hx,by simpa using hy,hp,hq,h2⟩
   .cases h2
 .simp_all
 .grind
 .intro j o ho hl
  have hj:=(QI.1 ho).1
  simp_all
end Go.AM
