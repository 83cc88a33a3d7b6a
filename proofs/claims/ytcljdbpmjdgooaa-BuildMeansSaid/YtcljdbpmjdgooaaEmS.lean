import Derived.Test.YtcljdbpmjdgooaaEmO
set_option linter.unusedSimpArgs false
set_option linter.unusedVariables false
namespace Go.AM
variable {U:Uni} {P:Program} {cfg:Cfg U} {B:Base} {st:FSt U} {g:Gh} {a:Act} {w:World}
def V.shut(nm:Name)(T:U.Ty)(x:U.El T):V U->V U
 | .ptr n off=> if n=nm then (if off=0 then .c (.po T (some x)) else .junk) else .ptr n off
 | .ap n off k len i=> if n=nm then .junk else .ap n off k len i
 | .clo f nms=> if nm∈nms then .junk else .clo f nms
 | .gd b v=> .gd b (v.shut nm T x)
 | v=> v
def FSt.shut1(cfg:Cfg U)(st:FSt U)(nm:Name)(T:U.Ty):FSt U:=
 match st.mem nm with
 | none=> st
 | some cs=> match cfg.dec T cs with
  | none=> st
  | some x=> { st with env:=fun k=> (st.env k).shut nm T x,mem:=fun n=> if n=nm then none else st.mem n }
def FSt.shutK(cfg:Cfg U)(st:FSt U)(k:Nat)(T:U.Ty):FSt U:=
 match st.env k with
 | .ptr (.loc s) 0=> st.shut1 cfg (.loc s) T
 | _=> st
def FSt.shuts(cfg:Cfg U)(st:FSt U):List (Nat × U.Ty)->FSt U
 | []=> st
 | x ::r=> (st.shutK cfg x.1 x.2).shuts cfg r
def Z0R{α:Type}(cfg:Cfg U)(st:FSt U)(k:FSt U->α):List (Nat × U.Ty)->α
 | []=> k st
 | x ::r=> k (st.shuts cfg (x ::r))
def Ob(g:Gh)(nm:Name)(n:Nat)(c:Addr):Prop:=∃ j,j < n/\c=(g.ad nm).add j
open Classical in
noncomputable def Gh.shutG(g:Gh)(w:World)(R:Addr->Prop):Gh:=
 {m:=fun c=> if R c then w.cell? c else g.m c
  tag:=fun c=> if R c then none else g.tag c
  ad:=g.ad
  bs:=g.bs }
section shut
variable {nm:Name} {cs:List (C U)}
theorem ZdA(h:Rel cfg B st g a w)(hcs:st.mem nm=some cs){c:Addr}(hc:Ob g nm cs.length c):g.tag c=some (.obj nm)/\∃ v,w.cell? c=some v:=by
 obtain ⟨j,hj,rfl⟩:=hc
 obtain ⟨v,h1,h2,_⟩:=h.mem nm cs hcs j _ (Q0 hj)
 grind
theorem ZaK(h:Rel cfg B st g a w)(hcs:st.mem nm=some cs):∀ c v,g.m c=some v->(g.shutG w (Ob g nm cs.length)).m c=some v:=by
 intro c v hv
 simp only [Gh.shutG]
 rw [if_neg]
 .exact hv
 .intro hc
  have:=(ZdA h hcs hc).1
  rw [(h.inv.im c v hv).2] at this
  cases this
theorem Z4W(h:Rel cfg B st g a w)(hcs:st.mem nm=some cs){c:Addr}{t:Tag}(hne:t≠.obj nm):g.tag c=some t↔(g.shutG w (Ob g nm cs.length)).tag c=some t:=by
 simp only [Gh.shutG]
 split
 .rename_i hc
  rw [(ZdA h hcs hc).1]
  grind
 grind
theorem JA(h:Rel cfg B st g a w)(hcs:st.mem nm=some cs):Keeps g (g.shutG w (Ob g nm cs.length)) st.dead st.dead (fun _=> false) (fun _=> false):=
 ⟨ZaK h hcs,fun _ _ _ _ ht=> (Z4W h hcs (by simp)).1 ht,fun _ hu=> hu,fun _ hn=> (by cases hn),fun _ _ _ hv=> hv,fun _=> rfl,fun _ _ _ hv=> hv⟩
theorem ZmD(ok:CfgOk P cfg)(h:Rel cfg B st g a w)(hcs:st.mem nm=some cs){T:U.Ty}{x:U.El T}(hx:cfg.dec T cs=some x){v:Value}:∀ {y:V U},RelV cfg g st.dead (fun n=> (st.mem n).isSome) v y->
  RelV cfg (g.shutG w (Ob g nm cs.length)) st.dead (fun n=> (if n=nm then none else st.mem n).isSome) v (y.shut nm T x)
 | .c y,hr=> RelC.keep (JA h hcs) (c:=y) hr
 | .agg cs,hr=> by obtain ⟨vs,h1,h2⟩:=hr;exact ⟨vs,h1,h2.keep (JA h hcs)⟩
 | .tup ws,hr=> by obtain ⟨vs,h1,h2,h3⟩:=hr;exact ⟨vs,h1,h2,fun j u w hu hw=> (h3 j u w hu hw).keep (JA h hcs)⟩
 | .ptr n off,hr=> by
  obtain ⟨h1,h2⟩:=hr
  simp only [V.shut]
  split
  .rename_i e
   subst e
   split
   .rename_i e
    subst e
    obtain ⟨d1,d2⟩:=ok.dec_ok T cs x hx
    have e0:(g.ad n).add 0=g.ad n:=by simp [Addr.add]
    rw [h2,e0]
    have key:∀ j c,(cfg.enc T x)[j]?=some c->∃ u,w.cell? ((g.ad n).add j)=some u/\SimC cfg (g.shutG w (Ob g n cs.length)).m u c/\(g.shutG w (Ob g n cs.length)).m ((g.ad n).add j)=some u:=by
     intro j c hc
     have hj:j < cs.length:=by rw [d1];exact (Q1.1 hc).1
     obtain ⟨u,k1,k2,k3⟩:=h.mem n cs hcs j _ (Q0 hj)
     refine ⟨u,k1,(k3.1.mono (ZaK h hcs)).wk (d2 j _ _ (Q0 hj) hc),?_⟩
     simp only [Gh.shutG]
     rw [if_pos ⟨j,hj,rfl⟩]
     exact k1
    refine ⟨.po T x _ (fun j=> (w.cell? ((g.ad n).add j)).getD undef) (fun j c hc=> ?_) (fun j c hc=> ?_),trivial⟩
    .obtain ⟨u,k1,_,k3⟩:=key j c hc
     rw [k1];exact k3
    .obtain ⟨u,k1,k2,_⟩:=key j c hc
     rw [k1];exact k2
   .exact trivial
  .rename_i hne
   exact ⟨by show ((if n=nm then none else st.mem n).isSome || n.isX)=true;rw [if_neg hne];exact h1,h2⟩
 | .ap n off k len i,hr=> by
  simp only [V.shut]
  split
  .exact trivial
  .rename_i hne
   exact ⟨by show ((if n=nm then none else st.mem n).isSome || n.isX)=true;rw [if_neg hne];exact hr.1,hr.2⟩
 | .ep cs,hr=> by
  obtain ⟨b,h1,h2⟩:=hr
  exact ⟨b,h1,fun j c hc=> let ⟨u,hu,hc⟩:=h2 j c hc;⟨u,ZaK h hcs _ _ hu,hc.keep (JA h hcs)⟩⟩
 | .mp t n off,hr=> hr
 | .vw t n,hr=> hr
 | .fn _,hr=> hr
 | .clo f nms,hr=> by
  simp only [V.shut]
  split
  .exact trivial
  .rename_i hne
   refine ⟨fun n hn=> ?_,hr.2⟩
   show ((if n=nm then none else st.mem n).isSome || n.isX)=true
   rw [if_neg (fun e=> hne (by rw [<-e];exact hn))]
   exact hr.1 n hn
 | .gd b y,hr=> ⟨fun hb=> ZmD ok h hcs hx (hr.1 hb),hr.2⟩
 | .nb _ _,hr=> hr
 | .ar _ _,hr=> ARV.keep (JA h hcs) hr
 | .junk,_=> trivial
theorem Zhn(ok:CfgOk P cfg)(h:Rel cfg B st g a w)(nm:Name)(T:U.Ty):∃ g',Rel cfg B (st.shut1 cfg nm T) g' a w:=by
 unfold FSt.shut1
 cases hcs:st.mem nm with
 | none=> grind
 | some cs=>
  simp only
  cases hx:cfg.dec T cs with
  | none=> grind
  | some x=>
   have hm:=ZaK h hcs
   refine ⟨g.shutG w (Ob g nm cs.length),⟨fun c v hv=> ?_,fun c t' ht=> ?_⟩,?_,fun k=> ZmD ok h hcs hx (h.env k),fun n ds hn j c hc=> ?_,h.sz,h.df,fun u y hy=> ?_,fun u hu h1 h2=> h.fresh u hu h1 h2⟩
   .by_cases hc:Ob g nm cs.length c
    .simp only [Gh.shutG] at hv ⊢
     grind
    .simp only [Gh.shutG] at hv ⊢
     rw [if_neg hc] at hv ⊢
     exact h.inv.im c v hv
   .simp only [Gh.shutG] at ht
    split at ht
    .cases ht
    .exact h.inv.it c t' ht
   .refine h.fr.step h.inv (Evo.refl w (fun _=> False)) (fun c hc=> hc.elim) hm (fun c t'=> Z4W h hcs (by simp)) ?_ (fun _=> rfl)
    intro b _ hall o sp
    simp only [Gh.shutG]
    split
    .rename_i hc
     obtain ⟨t',h3⟩:=hall _ _ _ (ZdA h hcs hc).1
     cases h3
    .try rfl
   .simp only at hn
    split at hn
    .cases hn
    .rename_i hne
     obtain ⟨v,h1,h2,h3⟩:=h.mem n ds hn j c hc
     exact ⟨v,h1,(Z4W h hcs (by grind)).1 h2,h3.keep (JA h hcs)⟩
   .obtain ⟨h1,h2⟩:=h.ls u y hy
    exact ⟨h1,h2.keep (JA h hcs) h1 (fun c v hv=> (h.inv.im c v hv).1) (fun _ _ _ _=> rfl) (fun _ _ _ hb=> hb) (fun _ c u _ ht=> (Z4W h hcs (by simp)).1 ht)⟩
end shut
theorem Zlc(nm:Name)(T:U.Ty):(st.shut1 cfg nm T).n=st.n:=by
 unfold FSt.shut1
 grind
theorem ZbQ(ok:CfgOk P cfg):∀ (l:List (Nat × U.Ty)) {st:FSt U} {g:Gh},Rel cfg B st g a w->∃ g',Rel cfg B (st.shuts cfg l) g' a w
 | [],st,g,h=> ⟨g,h⟩
 | x ::r,st,g,h=> by
  have:∃ g1,Rel cfg B (st.shutK cfg x.1 x.2) g1 a w:=by
   unfold FSt.shutK
   split
   .exact Zhn ok h _ _
   .grind
  obtain ⟨g1,h1⟩:=this
  exact ZbQ ok r h1
theorem Zeu:∀ (l:List (Nat × U.Ty)) (st:FSt U),(st.shuts cfg l).n=st.n
 | [],st=> rfl
 | x ::r,st=> by
  show ((st.shutK cfg x.1 x.2).shuts cfg r).n=st.n
  rw [Zeu r]
  unfold FSt.shutK
  split
  .exact Zlc _ _
  .try rfl
theorem Z3E{α:Type}(st:FSt U)(k:FSt U->α)(l:List (Nat × U.Ty)):Z0R cfg st k l=k (Z0R cfg st id l):=by cases l <;> rfl
theorem Zgq(ok:CfgOk P cfg)(h:Rel cfg B st g a w)(l:List (Nat × U.Ty)):∃ g',Rel cfg B (Z0R cfg st id l) g' a w:=by
 cases l with
 | nil=> exact ⟨g,h⟩
 | cons x r=> exact ZbQ ok (x ::r) h
theorem Zih(l:List (Nat × U.Ty)):(Z0R cfg st id l).n=st.n:=by
 cases l with
 | nil=> rfl
 | cons x r=> exact Zeu (x ::r) st
end Go.AM
