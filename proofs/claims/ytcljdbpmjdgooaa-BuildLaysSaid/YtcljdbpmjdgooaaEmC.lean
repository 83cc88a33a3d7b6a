import Derived.Test.YtcljdbpmjdgooaaEmB
set_option linter.unusedSimpArgs false
set_option linter.unusedVariables false
namespace Go.AM
variable {U:Uni}
def Does(P:Program)(o:Oper)(a:Act)(w:World)(K:Value->World->Prop):Prop:=
 (∃ v w',(execOp a.eval o).run P w= .ok (.value v) w'/\K v w')\/
 (∃ w',(execOp a.eval o).run P w= .ok .skip w'/\K undef w')\/
 (∃ f args w',(execOp a.eval o).run P w= .ok (.enter f args) w'/\Calls P f args w' fun e w''=> ∃ v,e= .returned v/\K v w'')
theorem Does.wp{P:Program}{o:Oper}{a:Act}{w:World}{K:Value->World->Prop}{Q:Exit->Act->World->Prop}(h:Does P o a w K):
  o.wp P a w (fun a' w'=> ∃ v,a'=a.put o.dst v/\K v w') Q:=by
 unfold Oper.wp
 rcases h with ⟨v,w',h,k⟩ | ⟨w',h,k⟩ | ⟨f,args,w',h,k⟩
 .rw [h];exact ⟨v,rfl,k⟩
 .rw [h];exact ⟨undef,rfl,k⟩
 .rw [h,Oper.upon_enter]
  refine Calls.mono k fun e w'' he=> ?_
  grind
def Z9(st:FSt U)(e:Eff U):Tok->Bool:=fun t=> st.dead t || e.kill.contains t
def ZB(st:FSt U)(e:Eff U):Name->Bool:=fun nm=> (Zr st.mem e.mem nm).isSome
structure Out (cfg:Cfg U) (B:Base) (st:FSt U) (g:Gh) (e:Eff U) (v:Value) (w':World) (g':Gh):Prop where
 inv:Inv g'.m g'.tag w'
 fr:Fr B g' w'
 keep:Keeps g g' st.dead (Z9 st e) (fun nm=> (st.mem nm).isSome) (ZB st e)
 mem:∀ nm cs,Zr st.mem e.mem nm=some cs->∀ j c,cs[j]?=some c->∃ v,w'.cell? ((g'.ad nm).add j)=some v/\g'.tag ((g'.ad nm).add j)=some (.obj nm)/\RelC cfg g' (Z9 st e) v c
 val:RelV cfg g' (Z9 st e) (ZB st e) v (e.val.getD .junk)
 ls:∀ t x,Y1 st.ls e t=some x->Z9 st e t=false/\LRel cfg w' g' t x
 fresh:∀ t,(t.isR || (t.isA && B.ab.isNone))=true->Y1 st.ls e t.root=none->Z9 st e t.root=false->g'.bs t=none
theorem ZeW{st:FSt U}{e:Eff U}(he:e.ls=[]){t:Tok}{x:LC U}(h:Y1 st.ls e t=some x):st.ls t=some x/\e.kill.contains t=false:=by
 unfold Y1 at h
 rw [he] at h
 cases hk:e.kill.contains t with
 | true=> grind
 | false=> rw [hk] at h;trivial
theorem Rel.ls_keep {cfg:Cfg U} {B:Base} {st:FSt U} {g g':Gh} {a:Act} {w w':World} {live ZB:Name->Bool} (h:Rel cfg B st g a w) {e:Eff U} (he:e.ls=[]) (k:Keeps g g' st.dead (Z9 st e) live ZB)
  (hm:∀ a v,g.m a=some v->w'.cell? a=some v) (ht:∀ a t,Z9 st e t.root=false->g.tag a=some (.tok t)->w'.cell? a=w.cell? a) (hn:∀ u,u.isA=true->g.bs u=none->g'.bs u=none) (hg:∀ a u,u.isA=true->g.tag a=some (.tok u)->g'.tag a=some (.tok u)):
  ∀ t x,Y1 st.ls e t=some x->Z9 st e t=false/\LRel cfg w' g' t x:=by
 intro t x hx
 obtain ⟨h1,h2⟩:=ZeW he hx
 obtain ⟨h3,h4⟩:=h.ls t x h1
 have hd:Z9 st e t=false:=by simp only [Z9,h3,h2,QW]
 exact ⟨hd,h4.keep k hd hm (fun a u hu ha=> ht a u (by rw [hu];exact hd) ha) (fun _=> hn) fun _=> hg⟩
theorem Rel.fresh_keep{cfg:Cfg U}{B:Base}{st:FSt U}{g g':Gh}{a:Act}{w:World}(h:Rel cfg B st g a w){e:Eff U}(he:e.ls=[])(hb:∀ t,g'.bs t=g.bs t):
  ∀ t,(t.isR || (t.isA && B.ab.isNone))=true->Y1 st.ls e t.root=none->Z9 st e t.root=false->g'.bs t=none:=by
 intro t h0 h1 h2
 rw [hb]
 simp only [Z9,Qb] at h2
 unfold Y1 at h1
 rw [he,h2.2] at h1
 exact h.fresh t h0 h1 h2.1
theorem Act.getD_put{a:Act}{d:Nat}{v:Value}(hd:d < a.tmps.size)(k:Nat):(a.put (some d) v).tmps.getD k undef=if k=d then v else a.tmps.getD k undef:=by
 simp only [Act.put,Array.getD_eq_getD_getElem?,Array.getElem?_setIfInBounds]
 grind
theorem Rel.app {cfg:Cfg U} {B:Base} {st:FSt U} {g g':Gh} {a:Act} {w w':World} {e:Eff U} {v:Value} {d:Option Nat}
  (h:Rel cfg B st g a w) (o:Out cfg B st g e v w' g') (hd:∀ k,d=some k->k < st.n):Rel cfg B (st.app d e) g' (a.put d v) w':=by
 refine ⟨o.inv,o.fr,?_,?_,?_,?_,?_,?_⟩
 .intro k
  have old:∀ k,RelV cfg g' (Z9 st e) (ZB st e) (a.tmps.getD k undef) (st.env k):=fun k=> (h.env k).keep o.keep
  cases d with
  | none=> exact old k
  | some d=>
   have hlt:=hd d rfl
   rw [Act.getD_put (by rw [h.sz];exact hlt)]
   show RelV cfg g' (Z9 st e) (ZB st e) _ (bif Nat.beq k d then e.val.getD .junk else st.env k)
   by_cases hk:k=d
   .subst hk
    have:Nat.beq k k=true:=Nat.beq_refl k
    rw [if_pos rfl,this];exact o.val
   .have:Nat.beq k d=false:=by
     cases hb:Nat.beq k d with
     | false=> rfl
     | true=> simp_all
    grind
 .intro nm cs hm
  have hm':Zr st.mem e.mem nm=some cs:=by cases d <;> exact hm
  exact o.mem nm cs hm'
 .cases d with
  | none=> exact h.sz
  | some d=> show (a.tmps.setIfInBounds d v).size=st.n;simp [h.sz]
 .cases d with
  | none=> exact h.df
  | some d=> exact h.df
 .intro t x hx
  have:Y1 st.ls e t=some x/\(st.app d e).dead t=Z9 st e t:=by cases d <;> exact ⟨hx,rfl⟩
  rw [this.2]
  exact o.ls t x this.1
 .intro t h0 h1 h2
  have:Y1 st.ls e t.root=none/\Z9 st e t.root=false:=by cases d <;> exact ⟨h1,h2⟩
  exact o.fresh t h0 this.1 this.2
theorem Rel.pure {cfg:Cfg U} {B:Base} {st:FSt U} {g:Gh} {a:Act} {w:World} (h:Rel cfg B st g a w) {v:Value} {x:V U}
  (hv:RelV cfg g st.dead (fun nm=> (st.mem nm).isSome) v x):Out cfg B st g { val:=some x } v w g:=by
 have hd:Z9 st ({ val:=some x }:Eff U)=st.dead:=by funext t;simp [Z9]
 have hl:ZB st ({ val:=some x }:Eff U)=fun nm=> (st.mem nm).isSome:=rfl
 refine ⟨h.inv,h.fr,?_,?_,?_,?_,?_⟩
 .rw [hd,hl];exact .refl _ _ _
 .rw [hd];exact h.mem
 .grind
 .rw [hd];exact fun t x hx=> h.ls t x hx
 .rw [hd];exact fun t h0 h1 h2=> h.fresh t h0 h1 h2
section cells
variable {cfg:Cfg U} {g:Gh} {dead:Tok->Bool} {live:Name->Bool}
theorem SimC.one{m:Addr->Option Value}{v:Value}{c:C U}(h:SimC cfg m v c):v.oneCell'=true/\v.cells=#[v]:=by
 cases h <;> first | trivial | assumption
theorem RelV.deX{v:Value}{x:V U}(h:RelV cfg g dead live v x):RelV cfg g dead live v x.deX:=by
 unfold V.deX
 split
 .rename_i k
  have h2:v= .pointer (some (g.ad (.x k))):=h.2
  have h0:(g.ad (.x k)).add 0=g.ad (.x k):=rfl
  exact ⟨by simp [Name.isX],by grind⟩
 .exact h
theorem RelV.cells{v:Value}{x:V U}{cs:List (C U)}(h:RelV cfg g dead live v x)(hx:x.cells=some cs):RelL cfg g dead v.cells.toList cs:=by
 cases x
 case ptr nm off=>
  unfold V.cells at hx
  split at hx
  .grind
  .grind
  .rename_i k heq
   cases heq
   cases hx
   obtain ⟨_,rfl⟩:=h
   have h0:(g.ad (.x k)).add 0=g.ad (.x k):=rfl
   rw [h0]
   refine ⟨rfl,fun j u c hu hc=> ?_⟩
   cases j with
   | zero=>
    simp [Value.cells] at hu hc
    subst hu hc
    exact ⟨.xp _ _ ⟨rfl,rfl⟩,rfl⟩
   | succ j=> simp at hc
  .cases hx
 all_goals simp only [V.cells,Option.some.injEq,reduceCtorEq] at hx
 case c x=>
  subst hx
  have h':RelC cfg g dead v x:=h
  rw [h'.1.one.2]
  refine ⟨rfl,fun j u c hu hc=> ?_⟩
  grind
 case agg cs'=>
  subst hx
  obtain ⟨vs,rfl,h'⟩:=h
  exact h'
theorem RelL.one{vs:List Value}{cs:List (C U)}(h:RelL cfg g dead vs cs):∀ v∈vs,v.oneCell'=true:=by
 intro v hv
 obtain ⟨j,hj,rfl⟩:=QO hv
 have hj':j < cs.length:=h.1▸hj
 exact (h.2 j _ _ (Q0 hj) (Q0 hj')).1.one.1
theorem RelL.sub{vs:List Value}{cs:List (C U)}(h:RelL cfg g dead vs cs)(a n:Nat):RelL cfg g dead ((vs.drop a).take n) ((cs.drop a).take n):=by
 refine ⟨by simp [h.1],fun j v c hv hc=> ?_⟩
 rw [QK,Qh] at hv hc
 split at hv
 .rename_i hlt
  rw [if_pos hlt] at hc
  exact h.2 _ v c hv hc
 .cases hv
theorem RelL.mkV{vs:List Value}{cs:List (C U)}(h:RelL cfg g dead vs cs){ag:Bool}{x:V U}(hx:mkV ag cs=some x):
  RelV cfg g dead live (if ag then .agg vs.toArray else vs.getD 0 undef) x:=by
 cases ag with
 | true=>
  simp only [AM.mkV,Option.some.injEq] at hx
  subst hx
  exact ⟨_,rfl,h⟩
 | false=>
  match cs,hx with
  | [c],hx=>
   simp only [AM.mkV,Option.some.injEq] at hx
   subst hx
   obtain ⟨hl,hh⟩:=h
   match vs,hl with
   | [v],_=> exact hh 0 v c rfl rfl
theorem Z6E{v:Value}{c:C U}{m:Addr->Option Value}(h:YP v=some c):SimC cfg m v c/\(∀ tag dead,TailOk cfg tag dead v c)/\v.oneCell'=true:=by
 unfold YP at h
 split at h <;> simp only [Option.some.injEq,reduceCtorEq] at h <;> subst h
 .exact ⟨.int _ _,fun _ _=> trivial,rfl⟩
 .exact ⟨.bool _,fun _ _=> trivial,rfl⟩
 .exact ⟨.nils,fun _ _=> trivial,rfl⟩
 .exact ⟨.nilp,fun _ _=> trivial,rfl⟩
theorem Z54{vs:List Value}{cs:List (C U)}(h:vs.map YP=cs.map some):RelL cfg g dead vs cs:=by
 have hl:vs.length=cs.length:=by have:=congrArg List.length h;simpa using this
 refine ⟨hl,fun j v c hv hc=> ?_⟩
 have h1:(vs.map (YP (U:=U)))[j]?=some (YP v):=by rw [Q8,hv];try rfl
 have h2:(cs.map some)[j]?=some (some c):=by rw [Q8,hc];try rfl
 rw [h,h2] at h1
 have h3:=Z6E (cfg:=cfg) (m:=g.m) (Option.some.inj h1).symm
 exact ⟨h3.1,h3.2.1 _ _⟩
theorem Z5a:∀ {vs:List Value} {cs:List (C U)},vs.mapM YP=some cs->vs.map YP=cs.map some
 | [],cs,h=> by grind
 | v ::r,cs,h=> by
  rw [QA] at h
  cases hv:YP (U:=U) v with
  | none=> simp [hv] at h
  | some c=>
   cases hr:r.mapM (YP (U:=U)) with
   | none=> grind
   | some cs'=>
    simp [hv,hr] at h
    subst h
    simp [hv,Z5a hr]
theorem Z0i{v:Value}{x:V U}(h:Z8G v=some x):RelV cfg g dead live v x:=by
 unfold Z8G at h
 split at h
 .rename_i cs
  cases hm:cs.toList.mapM (YP (U:=U)) with
  | none=> simp [hm] at h
  | some l=>
   simp [hm] at h
   subst h
   exact ⟨cs,rfl,Z54 (Z5a hm)⟩
 .cases hm:YP (U:=U) v with
  | none=> simp [hm] at h
  | some c=>
   simp [hm] at h
   subst h
   have h3:=Z6E (cfg:=cfg) (m:=g.m) hm
   exact ⟨h3.1,h3.2.1 _ _⟩
end cells
def Zja(cfg:Cfg U)(st:FSt U)(g:Gh)(a:Act)(o:Oper):Prop:=
 ∀ x∈o.op.operands.toList,∀ v,st.strip.opnd x=some v->RelV cfg g st.dead (fun nm=> (st.mem nm).isSome) (a.eval x) v
theorem Z15{cfg:Cfg U}{B:Base}{st:FSt U}{g:Gh}{a:Act}{w:World}(h:Rel cfg B st g a w)(G:Option Bool):
  ∀ {l:List Operand},All (Yk st G l)->(∀ b,G=some b->b=true)->∀ x∈l,∀ v,st.strip.opnd x=some v->
   RelV cfg g st.dead (fun nm=> (st.mem nm).isSome) (a.eval x) v
 | y ::r,hn,hG,x,hx,v,hv=> by
  have tail:All (Yk st G r):=by
   cases y with
   | tmp t=>
    simp only [Yk] at hn
    split at hn
    .exact hn.2
    .exact hn
   | const _=> exact hn
   | global _=> exact hn
   | func _=> exact hn
  rcases QF.1 hx with rfl | hx
  .cases x with
   | tmp t=>
    simp only [FSt.opnd,FSt.strip,Option.some.injEq] at hv
    subst hv
    have he:=h.env t
    simp only [Yk] at hn
    show RelV cfg g st.dead _ (a.tmps.getD t undef) _
    cases hx:st.env t with
    | gd b y=>
     rw [hx] at hn he
     have hb:b=true:=by
      cases G with
      | none=> exact hn.1
      | some b'=> exact hn.1 (hG b' rfl)
     exact RelV.deX (he.1 hb)
    | _=> rw [hx] at he;exact RelV.deX he
   | const c=> exact Z0i hv
   | func f=>
    simp only [FSt.opnd,Option.some.injEq] at hv
    subst hv
    try rfl
   | global g=> trivial
  .exact Z15 h G tail hG x hx v hv
end Go.AM
