import Derived.Test.YtcljdbpmjdgooaaEmB
set_option linter.unusedSimpArgs false
set_option linter.unusedVariables false
namespace Go.AM
variable {U:Uni}
def Does(P:Program)(o:Oper)(a:Act)(w:World)(K:Value->World->Prop):Prop:=
 (∃ v w',(execOp a.eval o).run P w= .ok (.value v) w'/\K v w')\/
 (∃ w',(execOp a.eval o).run P w= .ok .skip w'/\K undef w')\/
 (∃ f args w',(execOp a.eval o).run P w= .ok (.enter f args) w'/\Calls P f args w' fun e w''=> ∃ v,e= .returned v/\K v w'')
theorem Does.wp{P:Program}{o:Oper}{a:Act}{w:World}{K:Value->World->Prop}{Q:Exit->Act->World->Prop}(h:Does P o a w K):
  o.wp P a w (fun a' w'=> ∃ v,a'=a.put o.dst v/\K v w') Q:=by
 unfold Oper.wp
 rcases h with ⟨v,w',h,k⟩ | ⟨w',h,k⟩ | ⟨f,args,w',h,k⟩
 .rw [h];exact ⟨v,rfl,k⟩
 .rw [h];exact ⟨undef,rfl,k⟩
 .rw [h,Oper.upon_enter]
  refine Calls.mono k fun e w'' he=> ?_
  grind
def Zb(st:FSt U)(e:Eff U):Tok->Bool:=fun t=> st.dead t || e.kill.contains t
def ZK(st:FSt U)(e:Eff U):Name->Bool:=fun nm=> (Zz st.mem e.mem nm).isSome
structure Out (cfg:Cfg U) (B:Base) (st:FSt U) (g:Gh) (e:Eff U) (v:Value) (w':World) (g':Gh):Prop where
 inv:Inv g'.m g'.tag w'
 fr:Fr B g' w'
 keep:Keeps g g' st.dead (Zb st e) (fun nm=> (st.mem nm).isSome) (ZK st e)
 mem:∀ nm cs,Zz st.mem e.mem nm=some cs->∀ j c,cs[j]?=some c->∃ v,w'.cell? ((g'.ad nm).add j)=some v/\g'.tag ((g'.ad nm).add j)=some (.obj nm)/\RelC cfg g' (Zb st e) v c
 val:RelV cfg g' (Zb st e) (ZK st e) v (e.val.getD .junk)
 ls:∀ t x,Ye st.ls e t=some x->Zb st e t=false/\LRel cfg w' g' t x
 fresh:∀ t,(t.isR || (t.isA && B.ab.isNone))=true->Ye st.ls e t.root=none->Zb st e t.root=false->g'.bs t=none
theorem ZiJ{st:FSt U}{e:Eff U}(he:e.ls=[]){t:Tok}{x:LC U}(h:Ye st.ls e t=some x):st.ls t=some x/\e.kill.contains t=false:=by
 unfold Ye at h
 rw [he] at h
 cases hk:e.kill.contains t with
 | true=> grind
 | false=> rw [hk] at h;trivial
theorem Rel.ls_keep {cfg:Cfg U} {B:Base} {st:FSt U} {g g':Gh} {a:Act} {w w':World} {live ZK:Name->Bool} (h:Rel cfg B st g a w) {e:Eff U} (he:e.ls=[]) (k:Keeps g g' st.dead (Zb st e) live ZK)
  (hm:∀ a v,g.m a=some v->w'.cell? a=some v) (ht:∀ a t,Zb st e t.root=false->g.tag a=some (.tok t)->w'.cell? a=w.cell? a) (hn:∀ u,u.isA=true->g.bs u=none->g'.bs u=none) (hg:∀ a u,u.isA=true->g.tag a=some (.tok u)->g'.tag a=some (.tok u)):
  ∀ t x,Ye st.ls e t=some x->Zb st e t=false/\LRel cfg w' g' t x:=by
 intro t x hx
 obtain ⟨h1,h2⟩:=ZiJ he hx
 obtain ⟨h3,h4⟩:=h.ls t x h1
 have hd:Zb st e t=false:=by simp only [Zb,h3,h2,X7]
 exact ⟨hd,h4.keep k hd hm (fun a u hu ha=> ht a u (by rw [hu];exact hd) ha) (fun _=> hn) fun _=> hg⟩
theorem Rel.fresh_keep{cfg:Cfg U}{B:Base}{st:FSt U}{g g':Gh}{a:Act}{w:World}(h:Rel cfg B st g a w){e:Eff U}(he:e.ls=[])(hb:∀ t,g'.bs t=g.bs t):
  ∀ t,(t.isR || (t.isA && B.ab.isNone))=true->Ye st.ls e t.root=none->Zb st e t.root=false->g'.bs t=none:=by
 intro t h0 h1 h2
 rw [hb]
 simp only [Zb,Qi] at h2
 unfold Ye at h1
 rw [he,h2.2] at h1
 exact h.fresh t h0 h1 h2.1
theorem Act.getD_put{a:Act}{d:Nat}{v:Value}(hd:d < a.tmps.size)(k:Nat):(a.put (some d) v).tmps.getD k undef=if k=d then v else a.tmps.getD k undef:=by
 simp only [Act.put,Array.getD_eq_getD_getElem?,Array.getElem?_setIfInBounds]
 grind
theorem Rel.app {cfg:Cfg U} {B:Base} {st:FSt U} {g g':Gh} {a:Act} {w w':World} {e:Eff U} {v:Value} {d:Option Nat}
  (h:Rel cfg B st g a w) (o:Out cfg B st g e v w' g') (hd:∀ k,d=some k->k < st.n):Rel cfg B (st.app d e) g' (a.put d v) w':=by
 refine ⟨o.inv,o.fr,?_,?_,?_,?_,?_,?_⟩
 .intro k
  have old:∀ k,RelV cfg g' (Zb st e) (ZK st e) (a.tmps.getD k undef) (st.env k):=fun k=> (h.env k).keep o.keep
  cases d with
  | none=> exact old k
  | some d=>
   have hlt:=hd d rfl
   rw [Act.getD_put (by rw [h.sz];exact hlt)]
   show RelV cfg g' (Zb st e) (ZK st e) _ (bif Nat.beq k d then e.val.getD .junk else st.env k)
   by_cases hk:k=d
   .subst hk
    have:Nat.beq k k=true:=Nat.beq_refl k
    rw [if_pos rfl,this];exact o.val
   .have:Nat.beq k d=false:=by
     cases hb:Nat.beq k d with
     | false=> rfl
     | true=> simp_all
    grind
 .intro nm cs hm
  have hm':Zz st.mem e.mem nm=some cs:=by cases d <;> exact hm
  exact o.mem nm cs hm'
 .cases d with
  | none=> exact h.sz
  | some d=> show (a.tmps.setIfInBounds d v).size=st.n;simp [h.sz]
 .cases d with
  | none=> exact h.df
  | some d=> exact h.df
 .intro t x hx
  have:Ye st.ls e t=some x/\(st.app d e).dead t=Zb st e t:=by cases d <;> exact ⟨hx,rfl⟩
  rw [this.2]
  exact o.ls t x this.1
 .intro t h0 h1 h2
  have:Ye st.ls e t.root=none/\Zb st e t.root=false:=by cases d <;> exact ⟨h1,h2⟩
  exact o.fresh t h0 this.1 this.2
theorem Rel.pure {cfg:Cfg U} {B:Base} {st:FSt U} {g:Gh} {a:Act} {w:World} (h:Rel cfg B st g a w) {v:Value} {x:V U}
  (hv:RelV cfg g st.dead (fun nm=> (st.mem nm).isSome) v x):Out cfg B st g { val:=some x } v w g:=by
 have hd:Zb st ({ val:=some x }:Eff U)=st.dead:=by funext t;simp [Zb]
 have hl:ZK st ({ val:=some x }:Eff U)=fun nm=> (st.mem nm).isSome:=rfl
 refine ⟨h.inv,h.fr,?_,?_,?_,?_,?_⟩
 .rw [hd,hl];exact .refl _ _ _
 .rw [hd];exact h.mem
 .grind
 .rw [hd];exact fun t x hx=> h.ls t x hx
 .rw [hd];exact fun t h0 h1 h2=> h.fresh t h0 h1 h2
section cells
variable {cfg:Cfg U} {g:Gh} {dead:Tok->Bool} {live:Name->Bool}
theorem SimC.one{m:Addr->Option Value}{v:Value}{c:C U}(h:SimC cfg m v c):v.oneCell'=true/\v.cells=#[v]:=by
 cases h <;> first | trivial | assumption
theorem RelV.deX{v:Value}{x:V U}(h:RelV cfg g dead live v x):RelV cfg g dead live v x.deX:=by
 unfold V.deX
 split
 .rename_i k
  have h2:v= .pointer (some (g.ad (.x k))):=h.2
  have h0:(g.ad (.x k)).add 0=g.ad (.x k):=rfl
  exact ⟨by simp [Name.isX],by grind⟩
 .exact h
theorem RelV.cells{v:Value}{x:V U}{cs:List (C U)}(h:RelV cfg g dead live v x)(hx:x.cells=some cs):RelL cfg g dead v.cells.toList cs:=by
 cases x
 case ptr nm off=>
  unfold V.cells at hx
  split at hx
  .grind
  .grind
  .rename_i k heq
   cases heq
   cases hx
   obtain ⟨_,rfl⟩:=h
   have h0:(g.ad (.x k)).add 0=g.ad (.x k):=rfl
   rw [h0]
   refine ⟨rfl,fun j u c hu hc=> ?_⟩
   cases j with
   | zero=>
    simp [Value.cells] at hu hc
    subst hu hc
    exact ⟨.xp _ _ ⟨rfl,rfl⟩,rfl⟩
   | succ j=> simp at hc
  .cases hx
 all_goals simp only [V.cells,Option.some.injEq,reduceCtorEq] at hx
 case c x=>
  subst hx
  have h':RelC cfg g dead v x:=h
  rw [h'.1.one.2]
  refine ⟨rfl,fun j u c hu hc=> ?_⟩
  grind
 case agg cs'=>
  subst hx
  obtain ⟨vs,rfl,h'⟩:=h
  exact h'
theorem RelL.one{vs:List Value}{cs:List (C U)}(h:RelL cfg g dead vs cs):∀ v∈vs,v.oneCell'=true:=by
 intro v hv
 obtain ⟨j,hj,rfl⟩:=QZ hv
 have hj':j < cs.length:=h.1▸hj
 exact (h.2 j _ _ (Q0 hj) (Q0 hj')).1.one.1
theorem RelL.sub{vs:List Value}{cs:List (C U)}(h:RelL cfg g dead vs cs)(a n:Nat):RelL cfg g dead ((vs.drop a).take n) ((cs.drop a).take n):=by
 refine ⟨by simp [h.1],fun j v c hv hc=> ?_⟩
 rw [QV,Qh] at hv hc
 split at hv
 .rename_i hlt
  rw [if_pos hlt] at hc
  exact h.2 _ v c hv hc
 .cases hv
theorem RelL.mkV{vs:List Value}{cs:List (C U)}(h:RelL cfg g dead vs cs){ag:Bool}{x:V U}(hx:mkV ag cs=some x):
  RelV cfg g dead live (if ag then .agg vs.toArray else vs.getD 0 undef) x:=by
 cases ag with
 | true=>
  simp only [AM.mkV,Option.some.injEq] at hx
  subst hx
  exact ⟨_,rfl,h⟩
 | false=>
  match cs,hx with
  | [c],hx=>
   simp only [AM.mkV,Option.some.injEq] at hx
   subst hx
   obtain ⟨hl,hh⟩:=h
   match vs,hl with
   | [v],_=> exact hh 0 v c rfl rfl
theorem Z8F{v:Value}{c:C U}{m:Addr->Option Value}(h:Jk v=some c):SimC cfg m v c/\(∀ tag dead,TailOk cfg tag dead v c)/\v.oneCell'=true:=by
 unfold Jk at h
 split at h <;> simp only [Option.some.injEq,reduceCtorEq] at h <;> subst h
 .exact ⟨.int _ _,fun _ _=> trivial,rfl⟩
 .exact ⟨.bool _,fun _ _=> trivial,rfl⟩
 .exact ⟨.nils,fun _ _=> trivial,rfl⟩
 .exact ⟨.nilp,fun _ _=> trivial,rfl⟩
theorem Z6M{vs:List Value}{cs:List (C U)}(h:vs.map Jk=cs.map some):RelL cfg g dead vs cs:=by
 have hl:vs.length=cs.length:=by have:=congrArg List.length h;simpa using this
 refine ⟨hl,fun j v c hv hc=> ?_⟩
 have h1:(vs.map (Jk (U:=U)))[j]?=some (Jk v):=by rw [Qa,hv];try rfl
 have h2:(cs.map some)[j]?=some (some c):=by rw [Qa,hc];try rfl
 rw [h,h2] at h1
 have h3:=Z8F (cfg:=cfg) (m:=g.m) (Option.some.inj h1).symm
 exact ⟨h3.1,h3.2.1 _ _⟩
theorem Z6T:∀ {vs:List Value} {cs:List (C U)},vs.mapM Jk=some cs->vs.map Jk=cs.map some
 | [],cs,h=> by grind
 | v ::r,cs,h=> by
  rw [QF] at h
  cases hv:Jk (U:=U) v with
  | none=> simp [hv] at h
  | some c=>
   cases hr:r.mapM (Jk (U:=U)) with
   | none=> grind
   | some cs'=>
    simp [hv,hr] at h
    subst h
    simp [hv,Z6T hr]
theorem Z19{v:Value}{x:V U}(h:Zb9 v=some x):RelV cfg g dead live v x:=by
 unfold Zb9 at h
 split at h
 .rename_i cs
  cases hm:cs.toList.mapM (Jk (U:=U)) with
  | none=> simp [hm] at h
  | some l=>
   simp [hm] at h
   subst h
   exact ⟨cs,rfl,Z6M (Z6T hm)⟩
 .cases hm:Jk (U:=U) v with
  | none=> simp [hm] at h
  | some c=>
   simp [hm] at h
   subst h
   have h3:=Z8F (cfg:=cfg) (m:=g.m) hm
   exact ⟨h3.1,h3.2.1 _ _⟩
end cells
def Znu(cfg:Cfg U)(st:FSt U)(g:Gh)(a:Act)(o:Oper):Prop:=
 ∀ x∈o.op.operands.toList,∀ v,st.strip.opnd x=some v->RelV cfg g st.dead (fun nm=> (st.mem nm).isSome) (a.eval x) v
theorem Z21{cfg:Cfg U}{B:Base}{st:FSt U}{g:Gh}{a:Act}{w:World}(h:Rel cfg B st g a w)(G:Option Bool):
  ∀ {l:List Operand},All (YF st G l)->(∀ b,G=some b->b=true)->∀ x∈l,∀ v,st.strip.opnd x=some v->
   RelV cfg g st.dead (fun nm=> (st.mem nm).isSome) (a.eval x) v
 | y ::r,hn,hG,x,hx,v,hv=> by
  have tail:All (YF st G r):=by
   cases y with
   | tmp t=>
    simp only [YF] at hn
    split at hn
    .exact hn.2
    .exact hn
   | const _=> exact hn
   | global _=> exact hn
   | func _=> exact hn
  rcases QH.1 hx with rfl | hx
  .cases x with
   | tmp t=>
    simp only [FSt.opnd,FSt.strip,Option.some.injEq] at hv
    subst hv
    have he:=h.env t
    simp only [YF] at hn
    show RelV cfg g st.dead _ (a.tmps.getD t undef) _
    cases hx:st.env t with
    | gd b y=>
     rw [hx] at hn he
     have hb:b=true:=by
      cases G with
      | none=> exact hn.1
      | some b'=> exact hn.1 (hG b' rfl)
     exact RelV.deX (he.1 hb)
    | _=> rw [hx] at he;exact RelV.deX he
   | const c=> exact Z19 hv
   | func f=>
    simp only [FSt.opnd,Option.some.injEq] at hv
    subst hv
    try rfl
   | global g=> trivial
  .exact Z21 h G tail hG x hx v hv
end Go.AM
