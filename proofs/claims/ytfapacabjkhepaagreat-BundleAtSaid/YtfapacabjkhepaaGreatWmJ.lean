import Derived.Test.YtfapacabjkhepaaGreatWmO
set_option linter.unusedSimpArgs false
set_option linter.unusedVariables false
namespace Go.AM
variable {U:Uni} {P:Program} {cfg:Cfg U} {B:Base} {st:FSt U} {g:Gh} {a:Act} {w:World}
theorem FSt.app_gd(st:FSt U){v:Value}{x:V U}{w':World}{g':Gh}(o:Out cfg B st g { val:=some x } v w' g'):Out cfg B st g { val:=some (.gd true x) } v w' g':=
 ⟨o.inv,o.fr,o.keep,o.mem,⟨fun _=> o.val,fun h=> by cases h⟩,o.ls,o.fresh⟩
theorem FSt.app_gdm(st:FSt U){v:Value}{x:V U}{m:List (Name × List (C U))}{w':World}{g':Gh}(o:Out cfg B st g { val:=some x,mem:=m } v w' g'):Out cfg B st g { val:=some (.gd true x),mem:=m } v w' g':=
 ⟨o.inv,o.fr,o.keep,o.mem,⟨fun _=> o.val,fun h=> by cases h⟩,o.ls,o.fresh⟩
theorem ZlM{v:V U}{b:Bool}(h:v.deX= .c (.bool b)):v= .c (.bool b):=by
 unfold V.deX at h
 grind
theorem ZnG{tyEq:DecidableEq U.Ty}{c c' x:C U}(h:ZlA tyEq true c c'=some x):x=c':=by
 unfold ZlA at h
 split at h
 .split at h
  .rename_i e;subst e;cases h;rfl
  .cases h
 .cases h;rfl
 .cases h;rfl
 .cases h;rfl
 .split at h
  .rename_i e;subst e;cases h;rfl
  .cases h
 .split at h
  .rename_i e _;subst e;cases h;rfl
  .cases h
 .split at h
  .rename_i e _;subst e;cases h;rfl
  .cases h
 .cases h
theorem Zlz{tyEq:DecidableEq U.Ty}{c c' x:C U}(h:ZlA tyEq false c c'=some x):x=c:=by
 unfold ZlA at h
 split at h
 .split at h
  .cases h;rfl
  .cases h
 .cases h;rfl
 .cases h;rfl
 .cases h;rfl
 .split at h
  .cases h;rfl
  .cases h
 .split at h
  .cases h;rfl
  .cases h
 .split at h
  .cases h;rfl
  .cases h
 .cases h
theorem Zgh{tyEq:DecidableEq U.Ty}:∀ {a b x:List (C U)},Zdr tyEq true a b=some x->x=b
 | [],[],x,h=> by simp only [Zdr,Option.some.injEq] at h;exact h.symm
 | c ::r,c' ::r',x,h=> by
  simp only [Zdr] at h
  split at h
  .rename_i y z h1 h2
   cases h
   rw [ZnG h1,Zgh h2]
  .cases h
theorem Zdq{tyEq:DecidableEq U.Ty}:∀ {a b x:List (C U)},Zdr tyEq false a b=some x->x=a
 | [],[],x,h=> by simp only [Zdr,Option.some.injEq] at h;exact h.symm
 | c ::r,c' ::r',x,h=> by
  simp only [Zdr] at h
  split at h
  .rename_i y z h1 h2
   cases h
   rw [Zlz h1,Zdq h2]
  .cases h
theorem Zgg{tyEq:DecidableEq U.Ty}{m0:Name->Option (List (C U))}:∀ {m m':List (Name × List (C U))},YW tyEq true m0 m=some m'->m'=m
 | [],m',h=> by simp only [YW,Option.some.injEq] at h;exact h.symm
 | (nm,cs) ::r,m',h=> by
  simp only [YW] at h
  split at h
  .cases h
  .split at h
   .rename_i y z h1 h2
    cases h
    rw [Zgh h1,Zgg h2]
   .cases h
theorem Zdo{tyEq:DecidableEq U.Ty}{m0:Name->Option (List (C U))}:∀ {m m':List (Name × List (C U))},YW tyEq false m0 m=some m'->∀ nm,ZL m0 m' nm=m0 nm
 | [],m',h,nm=> by simp only [YW,Option.some.injEq] at h;subst h;rfl
 | (n0,cs) ::r,m',h,nm=> by
  simp only [YW] at h
  split at h
  .cases h
  .rename_i cs0 hcs
   split at h
   .rename_i y z h1 h2
    cases h
    simp only [ZL]
    split
    .rename_i e
     subst e
     rw [hcs,Zdq h1]
    .exact Zdo h2 nm
   .cases h
theorem Rel.pureM (h:Rel cfg B st g a w) {v:Value} {x:V U} {m:List (Name × List (C U))} (hm:∀ nm,ZL st.mem m nm=st.mem nm)
  (hv:RelV cfg g st.dead (fun nm=> (st.mem nm).isSome) v x):Out cfg B st g { val:=some x,mem:=m } v w g:=by
 have hd:Zp st ({ val:=some x,mem:=m }:Eff U)=st.dead:=by funext t;simp [Zp]
 have hl:Y8 st ({ val:=some x,mem:=m }:Eff U)=fun nm=> (st.mem nm).isSome:=by funext nm;simp only [Y8,hm]
 refine ⟨h.inv,h.fr,?_,?_,?_,by rw [hd];exact fun t x hx=> h.ls t x hx,by rw [hd];exact fun t h0 h1 h2=> h.fresh t h0 h1 h2⟩
 .rw [hd,hl];exact .refl _ _ _
 .rw [hd]
  intro nm cs hcs
  rw [hm] at hcs
  exact h.mem nm cs hcs
 grind
theorem All.map_imp{G:Bool}:∀ {ps:List Prop},All (ps.map fun p=> (G=true->p))->G=true->All ps
 | [],_,_=> trivial
 | _ ::_,h,hG=> ⟨h.1 hG,All.map_imp h.2 hG⟩
theorem Z1J{G:Option Bool}{c:Prop}{v:V U}{b:Bool}{u:V U}(h:All (Zdt G c v))(hv:v= .gd b u)(hG:∀ b,G=some b->b=true)(hc:c):b=true:=by
 subst hv
 cases G with
 | none=> exact h.1 hc
 | some b'=> exact h.1 (hG b' rfl) hc
theorem Zh2(h:Rel cfg B st g a w){ops:Array Oper}{o:Oper}{G:Option Bool}(hG:Z5B ops st o=some G):
  match G with
  | none=> Region.wanted o (yielded ops a.tmps)=true
  | some b=> Region.wanted o (yielded ops a.tmps)=b:=by
 unfold Z5B at hG
 split at hG
 .rename_i hg
  cases hG
  simp [Region.wanted,hg]
 .rename_i j want hg
  split at hG
  .rename_i t ht
   have key:∀ b0:Bool,a.tmps.getD t undef= .bool b0->Region.wanted o (yielded ops a.tmps)=(if want then b0 else !b0):=by
    intro b0 e1
    have htl:t < a.tmps.size:=by
     rcases XQ t a.tmps.size with h1 | h1
     .exact h1
     .simp [Array.getD,Nat.not_lt.2 h1,undef] at e1
    have e2:a.tmps[t]?=some (.bool b0):=by
     rw [QU htl]
     simpa [Array.getD,htl] using e1
    have hy:yielded ops a.tmps j=some b0:=by simp [yielded,ht,e2]
    simp only [Region.wanted,hg,hy]
    grind
   split at hG
   .rename_i b0 hb0
    cases hG
    have hr:=h.env t
    rw [hb0] at hr
    exact key b0 (SimC.bool_eq (h:=hr.1))
   .rename_i g0 b0 hb0
    cases hG
    have hr:=h.env t
    rw [hb0] at hr
    cases g0 with
    | true=>
     show Region.wanted o (yielded ops a.tmps)=(true && _)
     rw [QX]
     exact key b0 (SimC.bool_eq (h:=(hr.1 rfl).1))
    | false=>
     have e1:=hr.2 rfl
     have hy:yielded ops a.tmps j=none:=by
      simp only [yielded,ht,Qm]
      cases e2:a.tmps[t]? with
      | none=> rfl
      | some v=>
       have:a.tmps.getD t undef=v:=by
        obtain ⟨h1,h2⟩:=QO.1 e2
        simp [Array.getD,h1,h2]
       rw [this] at e1
       subst e1
       try rfl
     show Region.wanted o (yielded ops a.tmps)=(false && _)
     simp only [Region.wanted,hg,hy,Bool.false_and]
     try rfl
   .cases hG
  .cases hG
theorem Zdw {Γ:Known U} (ok:CfgOk P cfg) (hΓ:∀ f s,Γ f=some s->Contract P cfg f s) (h:Rel cfg B st g a w) {ops:Array Oper} {o:Oper} {ps:List Prop} {e:Eff U}
  (he:Z5R cfg Γ ops o st=some (ps,e)) (hps:All ps) {K:Act->World->Prop} {Q:Exit->Act->World->Prop}
  (hK:∀ g' a' w',Rel cfg B (st.app o.dst e) g' a' w'->K a' w'):
  if Region.wanted o (yielded ops a.tmps) then o.wp P a w K Q else K (a.put o.dst undef) w:=by
 unfold Z5R at he
 split at he
 case isFalse=> cases he
 rename_i hd
 unfold ZBX at hd
 have hdst:∀ k,o.dst=some k->k < st.n:=by
  intro k hk
  rw [hk] at hd
  exact Nat.blt_eq.mp hd
 have fin:∀ {e:Eff U},(∀ g' a' w',Rel cfg B (st.app o.dst e) g' a' w'->K a' w')->(Does P o a w fun v w'=> ∃ g',Out cfg B st g e v w' g')->o.wp P a w K Q:=by
  intro e hK hD
  refine Oper.wp_mono ?_ (Does.wp (Q:=Q) hD)
  rintro a' w' ⟨v,rfl,g',hO⟩
  exact hK g' _ _ (h.app hO hdst)
 have idleM:∀ {v:V U} {m:List (Name × List (C U))},(∀ nm,ZL st.mem m nm=st.mem nm)->(∀ g' a' w',Rel cfg B (st.app o.dst { val:=some (.gd false v),mem:=m }) g' a' w'->K a' w')->Region.wanted o (yielded ops a.tmps)=false->
   if Region.wanted o (yielded ops a.tmps) then o.wp P a w K Q else K (a.put o.dst undef) w:=by
  intro v m hm hK hw
  rw [if_neg (by rw [hw];simp)]
  have hO:Out cfg B st g { val:=some (.gd false v),mem:=m } undef w g:=h.pureM hm ⟨fun hb=> (by cases hb),fun _=> rfl⟩
  exact hK g _ _ (h.app hO hdst)
 have idle:∀ {v:V U},(∀ g' a' w',Rel cfg B (st.app o.dst { val:=some (.gd false v) }) g' a' w'->K a' w')->Region.wanted o (yielded ops a.tmps)=false->
   if Region.wanted o (yielded ops a.tmps) then o.wp P a w K Q else K (a.put o.dst undef) w:=by
  intro v hK hw
  rw [if_neg (by rw [hw];simp)]
  have hO:Out cfg B st g { val:=some (.gd false v) } undef w g:=h.pure ⟨fun hb=> (by cases hb),fun _=> rfl⟩
  exact hK g _ _ (h.app hO hdst)
 split at he
 .rename_i c x y hop
  split at he
  .rename_i G c0 x0 y0 hG hc hx hy
   have hwant:=Zh2 h hG
   have get:∀ {z:Operand} {v:V U} {b:Bool},st.opnd z=some v->v.strip= .c (.bool b)->(∀ b' u,v= .gd b' u->b'=true)->a.eval z= .bool b:=by
    intro z v b hz hs hg
    have hr:RelV cfg g st.dead (fun nm=> (st.mem nm).isSome) (a.eval z) v:=by
     cases z with
     | tmp t=> simp only [FSt.opnd,Option.some.injEq] at hz;subst hz;exact h.env t
     | const c=> exact Z3I hz
     | func f=> simp only [FSt.opnd,Option.some.injEq] at hz;subst hz;rfl
     | global g=> trivial
    cases v with
    | gd b' u=>
     have hs:=ZlM (v:=u) hs
     subst hs
     exact SimC.bool_eq (hr.1 (hg _ _ rfl)).1
    | c u=> have hs:=ZlM (v:= .c u) hs;cases hs;exact SimC.bool_eq hr.1
    | _=> trivial
   have one:∀ {b:Bool},(∀ g' a' w',Rel cfg B (st.app o.dst { val:=some (gV G (.c (.bool b))) }) g' a' w'->K a' w')->((∀ q,G=some q->q=true)->Does P o a w fun v w'=> ∃ g',Out cfg B st g { val:=some (.c (.bool b)) } v w' g')->
     if Region.wanted o (yielded ops a.tmps) then o.wp P a w K Q else K (a.put o.dst undef) w:=by
    intro b hK does
    cases G with
    | none=>
     rw [if_pos hwant]
     exact fin hK (does (fun _ hh=> by cases hh))
    | some Gb=>
     cases Gb with
     | true=>
      rw [if_pos hwant]
      refine fin (e:={ val:=some (.gd true (.c (.bool b))) }) hK ?_
      have:=does (fun _ hh=> by cases hh;rfl)
      rcases this with ⟨u,w',h1,g',h2⟩ | ⟨w',h1,g',h2⟩ | ⟨f,args,w',h1,h2⟩
      .exact .inl ⟨u,w',h1,g',FSt.app_gd st h2⟩
      .exact .inr (.inl ⟨w',h1,g',FSt.app_gd st h2⟩)
      .exact .inr (.inr ⟨f,args,w',h1,Calls.mono h2 fun e w'' ⟨u,he,g',h3⟩=> ⟨u,he,g',FSt.app_gd st h3⟩⟩)
     | false=> exact idle hK hwant
   split at he
   .rename_i cv av bv hca hxa hxb
    simp only [Option.some.injEq,Prod.mk.injEq] at he
    obtain ⟨rfl,rfl⟩:=he
    obtain ⟨hp0,hp12⟩:=All.append hps
    obtain ⟨hp1,hp2⟩:=All.append hp12
    refine one hK fun hGt=> ?_
    have ec:=get hc hca (fun b' u hh=> Z1J hp0 hh hGt trivial)
    refine Jy (v:= .bool (bif cv then av else bv)) h ?_ ⟨.bool _,trivial⟩
    cases cv with
    | true=>
     have ex:=get hx hxa (fun b' u hh=> Z1J hp1 hh hGt rfl)
     simp [execOp,hop,ec,asBool,ex]
    | false=>
     have ey:=get hy hxb (fun b' u hh=> Z1J hp2 hh hGt rfl)
     simp [execOp,hop,ec,asBool,ey]
   .rename_i av hca hxa hno
    simp only [Option.some.injEq,Prod.mk.injEq] at he
    obtain ⟨rfl,rfl⟩:=he
    obtain ⟨hp0,hp1⟩:=All.append hps
    refine one hK fun hGt=> ?_
    have ec:=get hc hca (fun b' u hh=> Z1J hp0 hh hGt trivial)
    have ex:=get hx hxa (fun b' u hh=> Z1J hp1 hh hGt trivial)
    exact Jy (v:= .bool av) h (by simp [execOp,hop,ec,asBool,ex]) ⟨.bool _,trivial⟩
   .rename_i bv hca hxb hno
    simp only [Option.some.injEq,Prod.mk.injEq] at he
    obtain ⟨rfl,rfl⟩:=he
    obtain ⟨hp0,hp1⟩:=All.append hps
    refine one hK fun hGt=> ?_
    have ec:=get hc hca (fun b' u hh=> Z1J hp0 hh hGt trivial)
    have ey:=get hy hxb (fun b' u hh=> Z1J hp1 hh hGt trivial)
    exact Jy (v:= .bool bv) h (by simp [execOp,hop,ec,asBool,ey]) ⟨.bool _,trivial⟩
   .cases he
  .cases he
 .split at he
  .cases he
  rename_i G hG
  have hwant:=Zh2 h hG
  split at he
  .split at he
   .simp only [Option.some.injEq,Prod.mk.injEq] at he
    obtain ⟨rfl,rfl⟩:=he
    exact idle hK hwant
   .cases he
  rename_i ps' e' haop
  split at he
  .simp only [Option.some.injEq,Prod.mk.injEq] at he
   obtain ⟨rfl,rfl⟩:=he
   obtain ⟨hp1,hp2⟩:=All.append hps
   rw [if_pos hwant]
   exact fin hK (Z80 ok hΓ h (fun x hx v hv=> Za7 h none hp1 (fun b hb=> by cases hb) x hx v hv) haop hp2)
  .rename_i Gb
   split at he
   .rename_i v
    simp only [Option.some.injEq,Prod.mk.injEq] at he
    obtain ⟨rfl,rfl⟩:=he
    obtain ⟨hp1,hp2⟩:=All.append hps
    cases Gb with
    | true=>
     rw [if_pos hwant]
     exact fin (e:={ val:=some (.gd true v) }) hK (by
      have:=Z80 ok hΓ h (fun x hx v hv=> Za7 h (some true) hp1 (fun b hb=> by cases hb;rfl) x hx v hv) haop (All.map_imp hp2 rfl)
      rcases this with ⟨u,w',h1,g',h2⟩ | ⟨w',h1,g',h2⟩ | ⟨f,args,w',h1,h2⟩
      .exact .inl ⟨u,w',h1,g',FSt.app_gd st h2⟩
      .exact .inr (.inl ⟨w',h1,g',FSt.app_gd st h2⟩)
      .exact .inr (.inr ⟨f,args,w',h1,Calls.mono h2 fun e w'' ⟨u,he,g',h3⟩=> ⟨u,he,g',FSt.app_gd st h3⟩⟩))
    | false=> exact idle hK hwant
   .rename_i v m hno
    split at he
    .rename_i m' hall hj
     simp only [Option.some.injEq,Prod.mk.injEq] at he
     obtain ⟨rfl,rfl⟩:=he
     obtain ⟨hp1,hp2⟩:=All.append hps
     cases Gb with
     | true=>
      rw [if_pos hwant]
      have em:=Zgg hj
      subst em
      exact fin (e:={ val:=some (.gd true v),mem:=m' }) hK (by
       have:=Z80 ok hΓ h (fun x hx v hv=> Za7 h (some true) hp1 (fun b hb=> by cases hb;rfl) x hx v hv) haop (All.map_imp hp2 rfl)
       rcases this with ⟨u,w',h1,g',h2⟩ | ⟨w',h1,g',h2⟩ | ⟨f,args,w',h1,h2⟩
       .exact .inl ⟨u,w',h1,g',FSt.app_gdm st h2⟩
       .exact .inr (.inl ⟨w',h1,g',FSt.app_gdm st h2⟩)
       .exact .inr (.inr ⟨f,args,w',h1,Calls.mono h2 fun e w'' ⟨u,he,g',h3⟩=> ⟨u,he,g',FSt.app_gdm st h3⟩⟩))
     | false=> exact idleM (Zdo hj) hK hwant
    .cases he
   .cases Gb with
    | true=>
     simp only [Option.some.injEq,Prod.mk.injEq] at he
     obtain ⟨rfl,rfl⟩:=he
     obtain ⟨hp1,hp2⟩:=All.append hps
     rw [if_pos hwant]
     exact fin hK (Z80 ok hΓ h (fun x hx v hv=> Za7 h (some true) hp1 (fun b hb=> by cases hb;rfl) x hx v hv) haop hp2)
    | false=>
     simp only [Option.some.injEq,Prod.mk.injEq] at he
     obtain ⟨rfl,rfl⟩:=he
     exact idle hK hwant
theorem ZgA{Γ:Known U}(ok:CfgOk P cfg)(hΓ:∀ f s,Γ f=some s->Contract P cfg f s){ops:Array Oper}{fz:Bool}{Q:Exit->Act->World->Prop}:∀ (l:List Oper) (st st':FSt U) (g:Gh) (a:Act) (w:World) (ps:List Prop),
  Rel cfg B st g a w->ZgB cfg Γ ops fz l st=some (ps,st')->All ps->(∀ g' a' w',Rel cfg B st' g' a' w'->Q .normal a' w')->wpList P ops Q l a w
 | [],st,st',g,a,w,ps,h,he,hps,hQ=> by
  simp only [ZgB,Option.some.injEq,Prod.mk.injEq] at he
  obtain ⟨rfl,rfl⟩:=he
  exact hQ g a w h
 | o ::l,st,st',g,a,w,ps,h,he,hps,hQ=> by
  rw [Zct] at he
  split at he
  .cases he
  .rename_i ps1 e1 h1
   split at he
   .cases he
   .rename_i qs st1 h2
    simp only [Option.some.injEq,Prod.mk.injEq] at he
    obtain ⟨rfl,rfl⟩:=he
    obtain ⟨hp1,hp2⟩:=All.append hps
    obtain ⟨g0,h0⟩:=ZCM ok h fz o
    refine wpList_step fun K hK=> Zdw ok hΓ h0 h1 hp1 fun g' a' w' h'=> hK a' w' ?_
    exact ZgA ok hΓ l _ _ g' a' w' qs h' h2 hp2 hQ
end Go.AM
