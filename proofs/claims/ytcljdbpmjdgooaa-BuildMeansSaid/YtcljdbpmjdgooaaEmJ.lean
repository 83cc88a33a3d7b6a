import Derived.Test.YtcljdbpmjdgooaaEmO
set_option linter.unusedSimpArgs false
set_option linter.unusedVariables false
namespace Go.AM
variable {U:Uni} {P:Program} {cfg:Cfg U} {B:Base} {st:FSt U} {g:Gh} {a:Act} {w:World}
theorem FSt.app_gd(st:FSt U){v:Value}{x:V U}{w':World}{g':Gh}(o:Out cfg B st g { val:=some x } v w' g'):Out cfg B st g { val:=some (.gd true x) } v w' g':=
 ⟨o.inv,o.fr,o.keep,o.mem,⟨fun _=> o.val,fun h=> by cases h⟩,o.ls,o.fresh⟩
theorem FSt.app_gdm(st:FSt U){v:Value}{x:V U}{m:List (Name × List (C U))}{w':World}{g':Gh}(o:Out cfg B st g { val:=some x,mem:=m } v w' g'):Out cfg B st g { val:=some (.gd true x),mem:=m } v w' g':=
 ⟨o.inv,o.fr,o.keep,o.mem,⟨fun _=> o.val,fun h=> by cases h⟩,o.ls,o.fresh⟩
theorem ZcJ{v:V U}{b:Bool}(h:v.deX= .c (.bool b)):v= .c (.bool b):=by
 unfold V.deX at h
 grind
theorem ZdZ{tyEq:DecidableEq U.Ty}{c c' x:C U}(h:Zct tyEq true c c'=some x):x=c':=by
 unfold Zct at h
 split at h
 .split at h
  .rename_i e;subst e;cases h;rfl
  .cases h
 .cases h;rfl
 .cases h;rfl
 .cases h;rfl
 .split at h
  .rename_i e;subst e;cases h;rfl
  .cases h
 .cases h;rfl
 .split at h
  .rename_i e _;subst e;cases h;rfl
  .cases h
 .split at h
  .rename_i e _;subst e;cases h;rfl
  .cases h
 .cases h
theorem Zcs{tyEq:DecidableEq U.Ty}{c c' x:C U}(h:Zct tyEq false c c'=some x):x=c:=by
 unfold Zct at h
 split at h
 .split at h
  .cases h;rfl
  .cases h
 .cases h;rfl
 .cases h;rfl
 .cases h;rfl
 .split at h
  .cases h;rfl
  .cases h
 .cases h;rfl
 .split at h
  .cases h;rfl
  .cases h
 .split at h
  .cases h;rfl
  .cases h
 .cases h
theorem Z8S{tyEq:DecidableEq U.Ty}:∀ {a b x:List (C U)},Z6Z tyEq true a b=some x->x=b
 | [],[],x,h=> by simp only [Z6Z,Option.some.injEq] at h;exact h.symm
 | c ::r,c' ::r',x,h=> by
  simp only [Z6Z] at h
  split at h
  .rename_i y z h1 h2
   cases h
   rw [ZdZ h1,Z8S h2]
  .cases h
theorem Z6Y{tyEq:DecidableEq U.Ty}:∀ {a b x:List (C U)},Z6Z tyEq false a b=some x->x=a
 | [],[],x,h=> by simp only [Z6Z,Option.some.injEq] at h;exact h.symm
 | c ::r,c' ::r',x,h=> by
  simp only [Z6Z] at h
  split at h
  .rename_i y z h1 h2
   cases h
   rw [Zcs h1,Z6Y h2]
  .cases h
theorem Z4B{tyEq:DecidableEq U.Ty}{m0:Name->Option (List (C U))}:∀ {m m':List (Name × List (C U))},Z0p tyEq true m0 m=some m'->m'=m
 | [],m',h=> by simp only [Z0p,Option.some.injEq] at h;exact h.symm
 | (nm,cs) ::r,m',h=> by
  simp only [Z0p] at h
  split at h
  .cases h
  .split at h
   .rename_i y z h1 h2
    cases h
    rw [Z8S h1,Z4B h2]
   .cases h
theorem Z3b{tyEq:DecidableEq U.Ty}{m0:Name->Option (List (C U))}:∀ {m m':List (Name × List (C U))},Z0p tyEq false m0 m=some m'->∀ nm,Zz m0 m' nm=m0 nm
 | [],m',h,nm=> by simp only [Z0p,Option.some.injEq] at h;subst h;rfl
 | (n0,cs) ::r,m',h,nm=> by
  simp only [Z0p] at h
  split at h
  .cases h
  .rename_i cs0 hcs
   split at h
   .rename_i y z h1 h2
    cases h
    simp only [Zz]
    split
    .rename_i e
     subst e
     rw [hcs,Z6Y h1]
    .exact Z3b h2 nm
   .cases h
theorem Rel.pureM (h:Rel cfg B st g a w) {v:Value} {x:V U} {m:List (Name × List (C U))} (hm:∀ nm,Zz st.mem m nm=st.mem nm)
  (hv:RelV cfg g st.dead (fun nm=> (st.mem nm).isSome) v x):Out cfg B st g { val:=some x,mem:=m } v w g:=by
 have hd:Zb st ({ val:=some x,mem:=m }:Eff U)=st.dead:=by funext t;simp [Zb]
 have hl:ZK st ({ val:=some x,mem:=m }:Eff U)=fun nm=> (st.mem nm).isSome:=by funext nm;simp only [ZK,hm]
 refine ⟨h.inv,h.fr,?_,?_,?_,by rw [hd];exact fun t x hx=> h.ls t x hx,by rw [hd];exact fun t h0 h1 h2=> h.fresh t h0 h1 h2⟩
 .rw [hd,hl];exact .refl _ _ _
 .rw [hd]
  intro nm cs hcs
  rw [hm] at hcs
  exact h.mem nm cs hcs
 grind
theorem FSt.app_gdA(st:FSt U){v:Value}{x:V U}{m:List (Name × List (C U))}{y y':LC U}(hT:∀ w g,LRel cfg w g .A y->LRel cfg w g .A y'){w':World}{g':Gh}(o:Out cfg B st g { val:=some x,mem:=m,ls:=[(.A,y)] } v w' g'):
  Out cfg B st g { val:=some (.gd true x),mem:=m,ls:=[(.A,y')] } v w' g':=by
 refine ⟨o.inv,o.fr,o.keep,o.mem,⟨fun _=> o.val,fun h=> by cases h⟩,fun t z hz=> ?_,fun t h0 h1 h2=> o.fresh t h0 ?_ h2⟩
 .simp only [Ye,Qx,cond_false,Z7] at hz
  split at hz
  .rename_i e
   subst e
   cases hz
   obtain ⟨h1,h2⟩:=o.ls .A y (by simp [Ye,Z7])
   exact ⟨h1,hT _ _ h2⟩
  .rename_i hne
   exact o.ls t z (by simp only [Ye,Qx,cond_false,Z7];rw [if_neg hne];exact hz)
 .simp only [Ye,Qx,cond_false,Z7] at h1 ⊢
  split at h1
  .cases h1
  .rename_i hne;rw [if_neg hne];exact h1
theorem Out.memSame{e:Eff U}{m:List (Name × List (C U))}{v:Value}{w':World}{g':Gh}(hm:∀ nm,Zz st.mem m nm=st.mem nm)(he:e.mem=[])(o:Out cfg B st g e v w' g'):Out cfg B st g { e with mem:=m } v w' g':=by
 have h1:∀ nm,Zz st.mem e.mem nm=st.mem nm:=fun nm=> by rw [he];try rfl
 have hl:ZK st { e with mem:=m }=ZK st e:=by funext nm;simp only [ZK,hm,h1]
 refine ⟨o.inv,o.fr,by rw [hl];exact o.keep,fun nm cs hcs=> o.mem nm cs (by rw [h1];rw [hm] at hcs;exact hcs),by rw [hl];exact o.val,o.ls,o.fresh⟩
theorem Zmh(ok:CfgOk P cfg)(h:Rel cfg B st g a w){x x' x'':LC U}(hx:st.ls .A=some x)(hj:Z47 cfg false st x'=some x''){v:V U}:
  ∃ g',Out cfg B st g { val:=some (.gd false v),ls:=[(.A,x'')] } undef w g':=by
 unfold Z47 at hj
 rw [hx] at hj
 simp only at hj
 split at hj
 case h_2=> cases hj
 rename_i hT f _ hf
 split at hj
 case h_2=> cases hj
 rename_i y y' hy hy'
 rw [cond_eq_ite] at hj
 split at hj
 case isFalse=> cases hj
 rename_i hlt
 have hlt:x.f < x'.f:=Nat.blt_eq.mp hlt
 obtain ⟨z,hz⟩:∃ z,z=y:=⟨_,rfl⟩
 have hfz:f z=f y:=by rw [hz]
 simp only [cond_false,Option.some.injEq] at hj
 rw [<-hz] at hj
 subst hj
 obtain ⟨hd,hL⟩:=h.ls .A x hx
 rcases hL with ⟨_,e,_⟩ | ⟨f',hf',_,hL⟩
 .cases e
 rw [hf] at hf'
 cases hf'
 rw [hy] at hL
 obtain ⟨b,v0,hs,hN,hpend⟩:=hL
 obtain ⟨s,hbs⟩:=hN.bs
 refine ⟨{ g with bs:=Z2w g.bs (x'.f+1) v0 hs },Zby (x':=⟨x.T,[z],x'.f⟩) (g':={ g with bs:=Z2w g.bs (x'.f+1) v0 hs }) (S:=fun _=> False) h (.refl _ _) (fun _ h=> h.elim) rfl rfl (fun _ _ h=> h) (fun _ _ h=> .inl h) (fun t u hu=> ?_) (fun t ht=> ?_) hd (val:=some (.gd false v)) (v:=undef) (.inr ⟨f,hf,rfl,?_⟩) ⟨(fun e=> by cases e),fun _=> rfl⟩⟩
 .cases t with
  | S m k=>
   simp only [Z2w]
   split
   .rename_i e;rw [e,hpend _ _ (by omega)] at hu;cases hu
   .exact hu
  | _=> exact hu
 .cases t <;> first | rfl | cases ht
 .show ARel w _ [f z] x'.f
  rw [hfz]
  refine ⟨b,v0,hs,⟨⟨s,hbs⟩,hN.tag,hN.c0,hN.c1,hN.c2,hN.c3,hN.own.keep1 (g':={ g with bs:=_ }) (fun _ _ h=> ⟨h,rfl⟩),by simp [Z2w],fun i hi=> by simp [Z2w]⟩,fun m i hm=> ?_⟩
  simp only [Z2w]
  rw [if_neg (by omega)]
  exact hpend m i (by omega)
theorem Ze0(ok:CfgOk P cfg){x' x'':LC U}(hj:Z47 cfg true st x'=some x''):(∃ x,st.ls .A=some x)/\∀ w g,LRel cfg w g .A x'->LRel cfg w g .A x'':=by
 unfold Z47 at hj
 split at hj
 case h_2=> cases hj
 rename_i x hx
 refine ⟨⟨x,hx⟩,fun w g hL=> ?_⟩
 split at hj
 case h_2=> cases hj
 rename_i hT f _ hf
 obtain ⟨T',l',f'⟩:=x'
 simp only at hT
 subst hT
 split at hj
 case h_2=> cases hj
 rename_i y y' hy hy'
 simp only at hy'
 subst hy'
 rw [cond_eq_ite] at hj
 split at hj
 case isFalse=> cases hj
 simp only [cond_true,Option.some.injEq] at hj
 subst hj
 rcases hL with ⟨_,e,_⟩ | ⟨f',hf',_,hL⟩
 .cases e
 simp only at hf'
 rw [hf] at hf'
 cases hf'
 refine .inr ⟨f,hf,rfl,?_⟩
 exact hL
theorem Ze1{G:Bool}{x' x'':LC U}(hj:Z47 cfg G st x'=some x''):∃ x,st.ls .A=some x:=by
 unfold Z47 at hj
 split at hj
 case h_2=> cases hj
 rename_i x hx
 exact ⟨x,hx⟩
theorem All.map_imp{G:Bool}:∀ {ps:List Prop},All (ps.map fun p=> (G=true->p))->G=true->All ps
 | [],_,_=> trivial
 | _ ::_,h,hG=> ⟨h.1 hG,All.map_imp h.2 hG⟩
theorem Z06{G:Option Bool}{c:Prop}{v:V U}{b:Bool}{u:V U}(h:All (Z70 G c v))(hv:v= .gd b u)(hG:∀ b,G=some b->b=true)(hc:c):b=true:=by
 subst hv
 cases G with
 | none=> exact h.1 hc
 | some b'=> exact h.1 (hG b' rfl) hc
theorem Z9F(h:Rel cfg B st g a w){ops:Array Oper}{o:Oper}{G:Option Bool}(hG:Z0u ops st o=some G):
  match G with
  | none=> Region.wanted o (yielded ops a.tmps)=true
  | some b=> Region.wanted o (yielded ops a.tmps)=b:=by
 unfold Z0u at hG
 split at hG
 .rename_i hg
  cases hG
  simp [Region.wanted,hg]
 .rename_i j want hg
  split at hG
  .rename_i t ht
   have key:∀ b0:Bool,a.tmps.getD t undef= .bool b0->Region.wanted o (yielded ops a.tmps)=(if want then b0 else !b0):=by
    intro b0 e1
    have htl:t < a.tmps.size:=by
     rcases Xz t a.tmps.size with h1 | h1
     .exact h1
     .simp [Array.getD,Nat.not_lt.2 h1,undef] at e1
    have e2:a.tmps[t]?=some (.bool b0):=by
     rw [QB htl]
     simpa [Array.getD,htl] using e1
    have hy:yielded ops a.tmps j=some b0:=by simp [yielded,ht,e2]
    simp only [Region.wanted,hg,hy]
    grind
   split at hG
   .rename_i b0 hb0
    cases hG
    have hr:=h.env t
    rw [hb0] at hr
    exact key b0 (SimC.bool_eq (h:=hr.1))
   .rename_i g0 b0 hb0
    cases hG
    have hr:=h.env t
    rw [hb0] at hr
    cases g0 with
    | true=>
     show Region.wanted o (yielded ops a.tmps)=(true && _)
     rw [K5]
     exact key b0 (SimC.bool_eq (h:=(hr.1 rfl).1))
    | false=>
     have e1:=hr.2 rfl
     have hy:yielded ops a.tmps j=none:=by
      simp only [yielded,ht,K7]
      cases e2:a.tmps[t]? with
      | none=> rfl
      | some v=>
       have:a.tmps.getD t undef=v:=by
        obtain ⟨h1,h2⟩:=QI.1 e2
        simp [Array.getD,h1,h2]
       rw [this] at e1
       subst e1
       try rfl
     show Region.wanted o (yielded ops a.tmps)=(false && _)
     simp only [Region.wanted,hg,hy,Bool.false_and]
     try rfl
   .cases hG
  .cases hG
theorem Z76 {Γ:Known U} (ok:CfgOk P cfg) (hΓ:∀ f s,Γ f=some s->Contract P cfg f s) (hna:Γ.na=true->B.ab=none) (h:Rel cfg B st g a w) {ops:Array Oper} {o:Oper} {ps:List Prop} {e:Eff U}
  (he:JK cfg Γ ops o st=some (ps,e)) (hps:All ps) {K:Act->World->Prop} {Q:Exit->Act->World->Prop}
  (hK:∀ g' a' w',Rel cfg B (st.app o.dst e) g' a' w'->K a' w'):
  if Region.wanted o (yielded ops a.tmps) then o.wp P a w K Q else K (a.put o.dst undef) w:=by
 unfold JK at he
 split at he
 case isFalse=> cases he
 rename_i hd
 unfold Znl at hd
 have hdst:∀ k,o.dst=some k->k < st.n:=by
  intro k hk
  rw [hk] at hd
  exact Nat.blt_eq.mp hd
 have fin:∀ {e:Eff U},(∀ g' a' w',Rel cfg B (st.app o.dst e) g' a' w'->K a' w')->(Does P o a w fun v w'=> ∃ g',Out cfg B st g e v w' g')->o.wp P a w K Q:=by
  intro e hK hD
  refine Oper.wp_mono ?_ (Does.wp (Q:=Q) hD)
  rintro a' w' ⟨v,rfl,g',hO⟩
  exact hK g' _ _ (h.app hO hdst)
 have idleM:∀ {v:V U} {m:List (Name × List (C U))},(∀ nm,Zz st.mem m nm=st.mem nm)->(∀ g' a' w',Rel cfg B (st.app o.dst { val:=some (.gd false v),mem:=m }) g' a' w'->K a' w')->Region.wanted o (yielded ops a.tmps)=false->
   if Region.wanted o (yielded ops a.tmps) then o.wp P a w K Q else K (a.put o.dst undef) w:=by
  intro v m hm hK hw
  rw [if_neg (by rw [hw];simp)]
  have hO:Out cfg B st g { val:=some (.gd false v),mem:=m } undef w g:=h.pureM hm ⟨fun hb=> (by cases hb),fun _=> rfl⟩
  exact hK g _ _ (h.app hO hdst)
 have idle:∀ {v:V U},(∀ g' a' w',Rel cfg B (st.app o.dst { val:=some (.gd false v) }) g' a' w'->K a' w')->Region.wanted o (yielded ops a.tmps)=false->
   if Region.wanted o (yielded ops a.tmps) then o.wp P a w K Q else K (a.put o.dst undef) w:=by
  intro v hK hw
  rw [if_neg (by rw [hw];simp)]
  have hO:Out cfg B st g { val:=some (.gd false v) } undef w g:=h.pure ⟨fun hb=> (by cases hb),fun _=> rfl⟩
  exact hK g _ _ (h.app hO hdst)
 split at he
 .rename_i c x y hop
  split at he
  .rename_i G c0 x0 y0 hG hc hx hy
   have hwant:=Z9F h hG
   have get:∀ {z:Operand} {v:V U} {b:Bool},st.opnd z=some v->v.strip= .c (.bool b)->(∀ b' u,v= .gd b' u->b'=true)->a.eval z= .bool b:=by
    intro z v b hz hs hg
    have hr:RelV cfg g st.dead (fun nm=> (st.mem nm).isSome) (a.eval z) v:=by
     cases z with
     | tmp t=> simp only [FSt.opnd,Option.some.injEq] at hz;subst hz;exact h.env t
     | const c=> exact Z19 hz
     | func f=> simp only [FSt.opnd,Option.some.injEq] at hz;subst hz;rfl
     | global g=> trivial
    cases v with
    | gd b' u=>
     have hs:=ZcJ (v:=u) hs
     subst hs
     exact SimC.bool_eq (hr.1 (hg _ _ rfl)).1
    | c u=> have hs:=ZcJ (v:= .c u) hs;cases hs;exact SimC.bool_eq hr.1
    | _=> trivial
   have one:∀ {b:Bool},(∀ g' a' w',Rel cfg B (st.app o.dst { val:=some (gV G (.c (.bool b))) }) g' a' w'->K a' w')->((∀ q,G=some q->q=true)->Does P o a w fun v w'=> ∃ g',Out cfg B st g { val:=some (.c (.bool b)) } v w' g')->
     if Region.wanted o (yielded ops a.tmps) then o.wp P a w K Q else K (a.put o.dst undef) w:=by
    intro b hK does
    cases G with
    | none=>
     rw [if_pos hwant]
     exact fin hK (does (fun _ hh=> by cases hh))
    | some Gb=>
     cases Gb with
     | true=>
      rw [if_pos hwant]
      refine fin (e:={ val:=some (.gd true (.c (.bool b))) }) hK ?_
      have:=does (fun _ hh=> by cases hh;rfl)
      rcases this with ⟨u,w',h1,g',h2⟩ | ⟨w',h1,g',h2⟩ | ⟨f,args,w',h1,h2⟩
      .exact .inl ⟨u,w',h1,g',FSt.app_gd st h2⟩
      .exact .inr (.inl ⟨w',h1,g',FSt.app_gd st h2⟩)
      .exact .inr (.inr ⟨f,args,w',h1,Calls.mono h2 fun e w'' ⟨u,he,g',h3⟩=> ⟨u,he,g',FSt.app_gd st h3⟩⟩)
     | false=> exact idle hK hwant
   split at he
   .rename_i cv av bv hca hxa hxb
    simp only [Option.some.injEq,Prod.mk.injEq] at he
    obtain ⟨rfl,rfl⟩:=he
    obtain ⟨hp0,hp12⟩:=All.append hps
    obtain ⟨hp1,hp2⟩:=All.append hp12
    refine one hK fun hGt=> ?_
    have ec:=get hc hca (fun b' u hh=> Z06 hp0 hh hGt trivial)
    refine Ya (v:= .bool (bif cv then av else bv)) h ?_ ⟨.bool _,trivial⟩
    cases cv with
    | true=>
     have ex:=get hx hxa (fun b' u hh=> Z06 hp1 hh hGt rfl)
     simp [execOp,hop,ec,asBool,ex]
    | false=>
     have ey:=get hy hxb (fun b' u hh=> Z06 hp2 hh hGt rfl)
     simp [execOp,hop,ec,asBool,ey]
   .rename_i av hca hxa hno
    simp only [Option.some.injEq,Prod.mk.injEq] at he
    obtain ⟨rfl,rfl⟩:=he
    obtain ⟨hp0,hp1⟩:=All.append hps
    refine one hK fun hGt=> ?_
    have ec:=get hc hca (fun b' u hh=> Z06 hp0 hh hGt trivial)
    have ex:=get hx hxa (fun b' u hh=> Z06 hp1 hh hGt trivial)
    exact Ya (v:= .bool av) h (by simp [execOp,hop,ec,asBool,ex]) ⟨.bool _,trivial⟩
   .rename_i bv hca hxb hno
    simp only [Option.some.injEq,Prod.mk.injEq] at he
    obtain ⟨rfl,rfl⟩:=he
    obtain ⟨hp0,hp1⟩:=All.append hps
    refine one hK fun hGt=> ?_
    have ec:=get hc hca (fun b' u hh=> Z06 hp0 hh hGt trivial)
    have ey:=get hy hxb (fun b' u hh=> Z06 hp1 hh hGt trivial)
    exact Ya (v:= .bool bv) h (by simp [execOp,hop,ec,asBool,ey]) ⟨.bool _,trivial⟩
   .cases he
  .cases he
 .split at he
  .cases he
  rename_i G hG
  have hwant:=Z9F h hG
  split at he
  .split at he
   .simp only [Option.some.injEq,Prod.mk.injEq] at he
    obtain ⟨rfl,rfl⟩:=he
    exact idle hK hwant
   .cases he
  rename_i ps' e' haop
  split at he
  .simp only [Option.some.injEq,Prod.mk.injEq] at he
   obtain ⟨rfl,rfl⟩:=he
   obtain ⟨hp1,hp2⟩:=All.append hps
   rw [if_pos hwant]
   exact fin hK (Z0F ok hΓ hna h (fun x hx v hv=> Z21 h none hp1 (fun b hb=> by cases hb) x hx v hv) haop hp2)
  .rename_i Gb
   split at he
   .rename_i v
    simp only [Option.some.injEq,Prod.mk.injEq] at he
    obtain ⟨rfl,rfl⟩:=he
    obtain ⟨hp1,hp2⟩:=All.append hps
    cases Gb with
    | true=>
     rw [if_pos hwant]
     exact fin (e:={ val:=some (.gd true v) }) hK (by
      have:=Z0F ok hΓ hna h (fun x hx v hv=> Z21 h (some true) hp1 (fun b hb=> by cases hb;rfl) x hx v hv) haop (All.map_imp hp2 rfl)
      rcases this with ⟨u,w',h1,g',h2⟩ | ⟨w',h1,g',h2⟩ | ⟨f,args,w',h1,h2⟩
      .exact .inl ⟨u,w',h1,g',FSt.app_gd st h2⟩
      .exact .inr (.inl ⟨w',h1,g',FSt.app_gd st h2⟩)
      .exact .inr (.inr ⟨f,args,w',h1,Calls.mono h2 fun e w'' ⟨u,he,g',h3⟩=> ⟨u,he,g',FSt.app_gd st h3⟩⟩))
    | false=> exact idle hK hwant
   .rename_i v m hno
    split at he
    .rename_i m' hall hj
     simp only [Option.some.injEq,Prod.mk.injEq] at he
     obtain ⟨rfl,rfl⟩:=he
     obtain ⟨hp1,hp2⟩:=All.append hps
     cases Gb with
     | true=>
      rw [if_pos hwant]
      have em:=Z4B hj
      subst em
      exact fin (e:={ val:=some (.gd true v),mem:=m' }) hK (by
       have:=Z0F ok hΓ hna h (fun x hx v hv=> Z21 h (some true) hp1 (fun b hb=> by cases hb;rfl) x hx v hv) haop (All.map_imp hp2 rfl)
       rcases this with ⟨u,w',h1,g',h2⟩ | ⟨w',h1,g',h2⟩ | ⟨f,args,w',h1,h2⟩
       .exact .inl ⟨u,w',h1,g',FSt.app_gdm st h2⟩
       .exact .inr (.inl ⟨w',h1,g',FSt.app_gdm st h2⟩)
       .exact .inr (.inr ⟨f,args,w',h1,Calls.mono h2 fun e w'' ⟨u,he,g',h3⟩=> ⟨u,he,g',FSt.app_gdm st h3⟩⟩))
     | false=> exact idleM (Z3b hj) hK hwant
    .cases he
   .rename_i v m x'
    split at he
    .rename_i m' x'' hall hj hjA
     simp only [Option.some.injEq,Prod.mk.injEq] at he
     obtain ⟨rfl,rfl⟩:=he
     obtain ⟨hp1,hp2⟩:=All.append hps
     cases Gb with
     | true=>
      rw [if_pos hwant]
      have em:=Z4B hj
      subst em
      obtain ⟨_,hT⟩:=Ze0 ok hjA
      exact fin (e:={ val:=some (.gd true v),mem:=m',ls:=[(.A,x'')] }) hK (by
       have:=Z0F ok hΓ hna h (fun x hx v hv=> Z21 h (some true) hp1 (fun b hb=> by cases hb;rfl) x hx v hv) haop (All.map_imp hp2 rfl)
       rcases this with ⟨u,w',h1,g',h2⟩ | ⟨w',h1,g',h2⟩ | ⟨f,args,w',h1,h2⟩
       .exact .inl ⟨u,w',h1,g',FSt.app_gdA st hT h2⟩
       .exact .inr (.inl ⟨w',h1,g',FSt.app_gdA st hT h2⟩)
       .exact .inr (.inr ⟨f,args,w',h1,Calls.mono h2 fun e w'' ⟨u,he,g',h3⟩=> ⟨u,he,g',FSt.app_gdA st hT h3⟩⟩))
     | false=>
      rw [if_neg (by rw [hwant];simp)]
      obtain ⟨x,hx⟩:=Ze1 hjA
      obtain ⟨g',hO⟩:=Zmh (v:=v) ok h hx hjA
      exact hK g' _ _ (h.app (hO.memSame (Z3b hj) rfl) hdst)
    .split at he
     .simp only [Option.some.injEq,Prod.mk.injEq] at he
      obtain ⟨rfl,rfl⟩:=he
      obtain ⟨hp1,hp2⟩:=All.append hps
      rw [if_pos hwant]
      exact fin hK (Z0F ok hΓ hna h (fun x hx v hv=> Z21 h (some true) hp1 (fun b hb=> by cases hb;rfl) x hx v hv) haop hp2)
     .simp only [Option.some.injEq,Prod.mk.injEq] at he
      obtain ⟨rfl,rfl⟩:=he
      exact idle hK hwant
   .cases Gb with
    | true=>
     simp only [Option.some.injEq,Prod.mk.injEq] at he
     obtain ⟨rfl,rfl⟩:=he
     obtain ⟨hp1,hp2⟩:=All.append hps
     rw [if_pos hwant]
     exact fin hK (Z0F ok hΓ hna h (fun x hx v hv=> Z21 h (some true) hp1 (fun b hb=> by cases hb;rfl) x hx v hv) haop hp2)
    | false=>
     simp only [Option.some.injEq,Prod.mk.injEq] at he
     obtain ⟨rfl,rfl⟩:=he
     exact idle hK hwant
theorem Z9d{Γ:Known U}(ok:CfgOk P cfg)(hΓ:∀ f s,Γ f=some s->Contract P cfg f s)(hna:Γ.na=true->B.ab=none){ops:Array Oper}{fz:Bool}{Q:Exit->Act->World->Prop}:∀ (l:List Oper) (st st':FSt U) (g:Gh) (a:Act) (w:World) (ps:List Prop),
  Rel cfg B st g a w->Z9e cfg Γ ops fz l st=some (ps,st')->All ps->(∀ g' a' w',Rel cfg B st' g' a' w'->Q .normal a' w')->wpList P ops Q l a w
 | [],st,st',g,a,w,ps,h,he,hps,hQ=> by
  simp only [Z9e,Option.some.injEq,Prod.mk.injEq] at he
  obtain ⟨rfl,rfl⟩:=he
  exact hQ g a w h
 | o ::l,st,st',g,a,w,ps,h,he,hps,hQ=> by
  rw [Z6f] at he
  split at he
  .cases he
  .rename_i ps1 e1 h1
   split at he
   .cases he
   .rename_i qs st1 h2
    simp only [Option.some.injEq,Prod.mk.injEq] at he
    obtain ⟨rfl,rfl⟩:=he
    obtain ⟨hp1,hp2⟩:=All.append hps
    obtain ⟨g0,h0⟩:=ZnG ok h fz o
    refine wpList_step fun K hK=> Z76 ok hΓ hna h0 h1 hp1 fun g' a' w' h'=> hK a' w' ?_
    exact Z9d ok hΓ hna l _ _ g' a' w' qs h' h2 hp2 hQ
end Go.AM
