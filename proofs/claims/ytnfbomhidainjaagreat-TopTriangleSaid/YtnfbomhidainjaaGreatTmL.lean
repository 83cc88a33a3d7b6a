import Derived.Test.YtnfbomhidainjaaGreatTmT
import Derived.WalkSpells
import Derived.Lib.SliceRun
import Derived.Deep.LoopGhost
import Derived.Scope
set_option linter.unusedSimpArgs false
set_option linter.unusedVariables false
namespace Go.AM
variable {U:Uni} {P:Program} {cfg:Cfg U} {B:Base} {st:FSt U} {g:Gh} {a:Act} {w:World}
theorem Z2P(ps:Nat->Bool):∀ (xs:List (V U)) (i:Nat) (os:List (Name × List (C U))) (seen:List (Tok × Tok)),Y5 st.strip ps i xs os seen=Y5 st ps i xs os seen
 | [],i,os,seen=> rfl
 | x ::xs,i,os,seen=> by
  simp only [Y5,Z2P ps xs]
  try rfl
theorem Z68:∀ (l h:List Name),Z3t st.strip l h=Z3t st l h
 | [],h=> rfl
 | nm ::l,h=> by
  simp only [Z3t,Z68 l]
  try rfl
theorem Zjo(Γ:Known U)(d:Nat)(f:FuncId)(nm:Name)(args:List (V U)):Z5q Γ st.strip d f nm args=Z5q Γ st d f nm args:=by
 have hl:∀ (L:List (Tok × LC U)),YT st.strip d L=YT st d L:=by
  intro L
  induction L with
  | nil=> rfl
  | cons x L ih=>
   obtain ⟨t,x⟩:=x
   simp only [YT,ih]
   try rfl
 have hx:JJ st.strip (.ptr nm 0 ::args)=JJ st (.ptr nm 0 ::args):=by simp only [JJ,Z8c,Z68]
 simp only [Z5q,Z2P,hl,hx]
 try rfl
theorem Z3B(Γ:Known U)(d:Nat)(f:FuncId)(args:List (V U)):Z3C Γ st.strip d f args=Z3C Γ st d f args:=by
 have hl:∀ (L:List (Tok × LC U)),YT st.strip d L=YT st d L:=by
  intro L
  induction L with
  | nil=> rfl
  | cons x L ih=>
   obtain ⟨t,x⟩:=x
   simp only [YT,ih]
   try rfl
 have hx:JJ st.strip args=JJ st args:=by simp only [JJ,Z8c,Z68]
 simp only [Z3C,Z2P,hl,hx]
 try rfl
theorem Z81{lo:Option Operand}{x:Option (V U)}(h:JS st.strip lo=some x)(hop:∀ y,lo=some y->∀ v,st.strip.opnd y=some v->RelV cfg g st.dead (fun nm=> (st.mem nm).isSome) (a.eval y) v):
  Zss cfg g st.dead (fun nm=> (st.mem nm).isSome) (lo.map a.eval) x:=by
 cases lo with
 | none=> simp only [JS,Option.some.injEq] at h;subst h;trivial
 | some y=>
  simp only [JS] at h
  cases hy:st.strip.opnd y with
  | none=> simp [hy] at h
  | some v=>
   simp [hy] at h
   subst h
   exact hop y rfl v hy
theorem ZeT{f:Operand->Option (V U)}:∀ {l:List (Nat × Operand)} {ps:List (Nat × V U)},l.mapM (fun x=> (f x.2).map (x.1,·))=some ps->
  l.length=ps.length/\∀ (j:Nat) x y,l[j]?=some x->ps[j]?=some y->x.1=y.1/\f x.2=some y.2
 | [],ps,h=> by grind
 | x ::l,ps,h=> by
  rw [QP] at h
  cases h1:f x.2 with
  | none=> simp [h1] at h
  | some v=>
   cases h2:l.mapM (fun x=> (f x.2).map (x.1,·)) with
   | none=> grind
   | some r=>
    simp [h1,h2] at h
    subst h
    obtain ⟨d,h4⟩:=ZeT h2
    grind
theorem ZkZ{f:Operand->Option (V U)}:∀ {l:List (Nat × Operand)} {ps:List (Nat × List (C U))},l.mapM (fun x=> ((f x.2).bind V.cells).map (x.1,·))=some ps->
  l.length=ps.length/\∀ (j:Nat) x y,l[j]?=some x->ps[j]?=some y->x.1=y.1/\∃ v,f x.2=some v/\v.cells=some y.2:=by
 intro l ps h
 have h':l.mapM (fun x=> ((fun o=> (f o).bind V.cells) x.2).map (x.1,·))=some ps:=h
 generalize hg:(fun o=> (f o).bind V.cells)=F at h'
 have d:∀ {l:List (Nat × Operand)} {ps:List (Nat × List (C U))},l.mapM (fun x=> (F x.2).map (x.1,·))=some ps->
   l.length=ps.length/\∀ (j:Nat) x y,l[j]?=some x->ps[j]?=some y->x.1=y.1/\F x.2=some y.2:=by
  intro l
  induction l with
  | nil=> grind
  | cons x l ih=>
   intro ps h
   rw [QP] at h
   cases h1:F x.2 with
   | none=> simp [h1] at h
   | some v=>
    cases h2:l.mapM (fun x=> (F x.2).map (x.1,·)) with
    | none=> grind
    | some r=>
     simp [h1,h2] at h
     subst h
     obtain ⟨h3,h4⟩:=ih h2
     refine ⟨by simp [h3],fun j y z hy hz=> ?_⟩
     cases j with
     | zero=> grind
     | succ j=> grind
 obtain ⟨k1,k2⟩:=d h'
 refine ⟨k1,fun j x y hx hy=> ?_⟩
 obtain ⟨k3,k4⟩:=k2 j x y hx hy
 refine ⟨k3,?_⟩
 rw [<-hg] at k4
 simp only at k4
 cases hf:f x.2 with
 | none=> grind
 | some v=> grind
theorem SimC.int_eq{m:Addr->Option Value}{v:Value}{k:IntKind}{n:Int}(h:SimC cfg m v (.int k n)):v= .int k n:=by
 cases h;rfl
theorem SimC.bool_eq{m:Addr->Option Value}{v:Value}{b:Bool}(h:SimC cfg m v (.bool b)):v= .bool b:=by
 cases h;rfl
theorem SimC.nilp_eq{m:Addr->Option Value}{v:Value}(h:SimC cfg m v .nilp):v= .pointer none:=by
 cases h;rfl
theorem ZcY(ok:CfgOk P cfg){t:TypeId}(hz:cfg.var t=some (false,[.nilp])):P.underlying t=some (.pointer (P.pointee t)):=by
 obtain ⟨e,d⟩:=ok.ptr t hz
 have:P.pointee t=e:=by simp [Program.pointee,d]
 grind
theorem bind_some{α β:Type}{x:Option α}{f:α->Option β}{b:β}(h:x.bind f=some b):∃ a,x=some a/\f a=some b:=by
 cases x with
 | none=> simp at h
 | some a=> grind
theorem Zuv(ok:CfgOk P cfg){T:U.Ty}{o:Option (U.El T)}{live:Name->Bool}{v:Value}(h:RelV cfg g st.dead live v (.c (.po T o)))(ho:o.isSome=true):RelV cfg g st.dead live v (.ep (cfg.enc T (o.getD (cfg.dflt T)))):=by
 obtain ⟨d,_⟩:=h
 cases o with
 | none=> cases ho
 | some x=>
  cases d with
  | po _ _ b vs hm hs=> exact ⟨b,rfl,fun j c hc=> ⟨_,hm j c hc,hs j c hc,Z7Y (ok.enc_plain _ _ c (QV hc))⟩⟩
theorem Z7b {Γ:Known U} (ok:CfgOk P cfg) (hΓ:∀ f s,Γ f=some s->Contract P cfg f s) (h:Rel cfg B st g a w) {o:Oper} (hop:ZCg cfg st g a o) {ps:List Prop} {e:Eff U}
  (he:aop cfg Γ o st.strip=some (ps,e)) (hps:All ps):Does P o a w fun v w'=> ∃ g',Out cfg B st g e v w' g':=by
 have val:∀ {s:Sem Value} {x:V U},(∃ r,s.run P w= .ok r w/\RelV cfg g st.dead (fun nm=> (st.mem nm).isSome) r x)->execOp a.eval o=(do pure (.value (<-s)):Sem Next)->
   Does P o a w fun v w'=> ∃ g',Out cfg B st g { val:=some x } v w' g':=by
  rintro s x ⟨r,h1,h2⟩ h3
  exact YH h (by simp_all) h2
 have aq:∀ {s:Sem Value} {x:C U},(∃ r,s.run P w= .ok r w/\SimC cfg g.m r x/\∀ tag dead r,TailOk cfg tag dead r x)->execOp a.eval o=(do pure (.value (<-s)):Sem Next)->
   Does P o a w fun v w'=> ∃ g',Out cfg B st g { val:=some (.c x) } v w' g':=by
  rintro s x ⟨r,h1,h2,h3⟩ h4
  exact val ⟨r,h1,h2,h3 _ _ _⟩ h4
 obtain ⟨dst,op,type,pos,after,guard⟩:=o
 unfold ZCg at hop
 cases op <;> simp only [aop,reduceCtorEq] at he
 case move x=>
  obtain ⟨v,h1,h2⟩:=bind_some he
  have hr:=hop x (by simp [Op.operands]) v h1
  split at h2 <;> simp only [oP,reduceCtorEq] at h2
  obtain ⟨rfl,rfl⟩:=h2
  exact YH h (by simp [execOp]) hr
 case assign x=>
  split at he
  .rename_i r hr
   cases he
   rw [cond_eq_ite] at hr
   split at hr
   case isFalse=> cases hr
   unfold ZuK at hr
   split at hr
   case h_2=> cases hr
   rename_i T d hx hT
   rw [cond_eq_ite] at hr
   split at hr
   case isFalse=> cases hr
   rename_i hc
   simp only [Q2,QA,QQ] at hc
   simp only [oP] at hr
   obtain ⟨rfl,rfl⟩:=hr
   have h1:=(hop x (by simp [Op.operands]) _ hx).1
   have h2:a.eval x= .slice none 0 0:=by generalize a.eval x=u at h1;cases h1;rfl
   exact .inl ⟨.slice none 0 0,w,by simp [execOp,h2],_,Zab (T:=T) (d:=d) (kl:=[]) h hc.1 hc.2 rfl⟩
  obtain ⟨v,h1,h2⟩:=bind_some he
  have hr:=hop x (by simp [Op.operands]) v h1
  split at h2 <;> simp only [oP,reduceCtorEq] at h2
  obtain ⟨rfl,rfl⟩:=h2
  exact YH h (by simp [execOp]) hr
 case alloc t=>
  split at he
  .rename_i d ag zs hd hv
   split at he
   .cases he
   .rename_i hn
    simp only [oP] at he
    obtain ⟨rfl,rfl⟩:=he
    exact ZlM ok h rfl hv (by simpa [FSt.strip] using hn)
  .cases he
 case box t x=>
  split at he
  .rename_i d ag zs cs hd hv ba
   split at he
   .cases he
   .rename_i hn
    simp only [oP] at he
    obtain ⟨rfl,rfl⟩:=he
    obtain ⟨v,h1,h2⟩:=bind_some ba
    simp only [XY,not_or] at hn
    exact Zsg h rfl (hop x (by simp [Op.operands]) v h1) h2 (by simpa [FSt.strip] using hn.1)
  .cases he
 case build t parts=>
  split at he
  .rename_i zs bx hv hm
   cases hf:Z0V cfg t zs bx with
   | none=> grind
   | some cs=>
    simp only [hf,Qi,oP] at he
    obtain ⟨rfl,rfl⟩:=he
    obtain ⟨h1,h2⟩:=ZkZ hm
    refine val (s:=Instr.build t (parts.map fun x=> (x.1,a.eval x.2))) (ZlF ok hv (by simpa using h1) ?_ hf) (by rfl)
    intro j x y hx hy
    rw [Array.getElem?_map] at hx
    cases hj:parts[j]? with
    | none=> grind
    | some p=>
     simp [hj] at hx
     subst hx
     obtain ⟨h3,v,h4,h5⟩:=h2 j p y (by simpa using hj) hy
     refine ⟨h3,(hop p.2 ?_ v h4).cells h5⟩
     simp only [Op.operands]
     grind
  .cases he
 case buildSlice t n parts=>
  split at he
  .rename_i T bx hT hm
   split at he
   .rename_i hn
    cases hf:Jn cfg T 0 bx with
    | none=> grind
    | some l=>
     simp only [hf,Qo] at he
     obtain ⟨h1,h2⟩:=ZeT hm
     have bm:∀ (j:Nat) x y,parts[j]?=some x->bx[j]?=some y->x.1=y.1/\RelV cfg g st.strip.dead (fun nm=> (st.strip.mem nm).isSome) (a.eval x.2) y.2:=by
      intro j x y hx hy
      obtain ⟨h3,h4⟩:=h2 j x y (by simpa using hx) hy
      refine ⟨h3,hop x.2 ?_ y.2 h4⟩
      simp only [Op.operands]
      have:=QV (l:=parts.toList) (i:=j) (by simpa using hx)
      simp
      exact ⟨x.1,by grind⟩
     cases hmu:st.strip.mu && Z5f parts.toList with
     | false=>
      simp only [hmu,cond_false,oP] at he
      obtain ⟨rfl,rfl⟩:=he
      exact Zbt ok h rfl hT (by simpa using h1) hn.1 hn.2 bm hf
     | true=>
      simp only [hmu,cond_true,Zdg] at he
      split at he
      .split at he
       .rename_i au
        simp only [Q2,QA,QQ] at au
        simp only [oP] at he
        obtain ⟨rfl,rfl⟩:=he
        exact Zal ok h au.1 au.2 rfl hT (by simpa using h1) hn.1 hn.2 bm hf
       .cases he
      .cases he
   .cases he
  .cases he
 case load t p=>
  split at he
  .rename_i ag zs u n am hv hp
   split at he
   .rename_i y hy
    split at he
    .rename_i br
     cases hr:mkV ag (((cfg.enc y.T (y.l.getD n (cfg.dflt y.T))).drop am).take zs.length) with
     | none=> grind
     | some v=>
      simp only [hr,Qi,oP] at he
      obtain ⟨rfl,rfl⟩:=he
      exact val (Zrj ok h hv hy (hop p (by simp [Op.operands]) _ hp) br hr) (by rfl)
    .cases he
   .cases he
  .rename_i ag zs T o hv hp
   cases hr:rd st.strip (.ep (cfg.enc T (o.getD (cfg.dflt T)))) ag zs.length with
   | none=> grind
   | some v=>
    simp only [hr,Qi,oP] at he
    obtain ⟨rfl,rfl⟩:=he
    exact val (Zem ok h hv (Zuv ok (hop p (by simp [Op.operands]) _ hp) hps.1) hr) (by rfl)
  .rename_i ag zs p' b6 b1 hv hp
   cases hr:rd st.strip p' ag zs.length with
   | none=> grind
   | some v=>
    simp only [hr,Qi,oP] at he
    obtain ⟨rfl,rfl⟩:=he
    exact val (Zem ok h hv (hop p (by simp [Op.operands]) p' hp) hr) (by rfl)
  .cases he
 case store t p x=>
  split at he
  .rename_i ag zs nm am new hv hp be
   split at he
   .rename_i cs ba
    split at he
    .rename_i hl
     cases hs:YD cs am new with
     | none=> grind
     | some cs'=>
      simp only [hs,Qi,oP] at he
      obtain ⟨rfl,rfl⟩:=he
      obtain ⟨v,h1,h2⟩:=bind_some be
      exact ZbH ok h rfl hv (hop p (by simp [Op.operands]) _ hp) (hop x (by simp [Op.operands]) v h1) h2 ba hl hs
    .cases he
   .cases he
  .rename_i ag zs u n am new hv hp be
   split at he
   .rename_i y hy
    split at he
    .rename_i hl
     split at he
     .rename_i e' cj
      simp only [oP] at he
      obtain ⟨rfl,rfl⟩:=he
      obtain ⟨v,h1,h2⟩:=bind_some be
      exact ZhK ok h rfl hv (hop p (by simp [Op.operands]) _ hp) (hop x (by simp [Op.operands]) v h1) h2 hy hl hps.1 cj
     .cases he
    .cases he
   .cases he
  .rename_i ag zs nm am k len n k' y hv hp be
   split at he
   .rename_i cs ba
    split at he
    .rename_i hc
     obtain ⟨br,hk,hz⟩:=hc
     subst hk
     split at he
     .rename_i l hl
      simp only [oP] at he
      obtain ⟨rfl,rfl⟩:=he
      obtain ⟨v,h1,h2⟩:=bind_some be
      exact Zdu ok h rfl hv (hop p (by simp [Op.operands]) _ hp) (hop x (by simp [Op.operands]) v h1) h2 ba hz br hl
     .cases he
    .cases he
   .cases he
  .cases he
 case nilCheck x=>
  split at he <;> try simp only [oP,reduceCtorEq] at he
  .rename_i nm am hx
   obtain ⟨rfl,rfl⟩:=he
   have hr:=hop x (by simp [Op.operands]) _ hx
   have h2:=hr.2
   exact YH h (by simp [execOp,h2]) hr
  .rename_i cs hx
   obtain ⟨rfl,rfl⟩:=he
   have hr:=hop x (by simp [Op.operands]) _ hx
   obtain ⟨b,h2,_⟩:=id hr
   exact YH h (by simp [execOp,h2]) hr
  .rename_i u n am hx
   split at he <;> simp only [oP,reduceCtorEq] at he
   rename_i hs
   obtain ⟨rfl,rfl⟩:=he
   have hr:=hop x (by simp [Op.operands]) _ hx
   obtain ⟨y,hy⟩:=QY.1 hs
   obtain ⟨b,len,dg,_,h2,_⟩:=ZuS h hy hr
   exact YH h (by simp [execOp,h2]) hr
  .rename_i T o hx
   obtain ⟨rfl,rfl⟩:=he
   have hr:=hop x (by simp [Op.operands]) _ hx
   obtain ⟨b,h2,_⟩:=Zuv (live:=fun nm=> (st.mem nm).isSome) ok hr hps.1
   exact YH h (by simp [execOp,h2]) hr
 case binOp bop t x y t'=>
  split at he
  .rename_i p q hx hy
   split at he
   .rename_i b0 hv
    cases hb:ZqR (U:=U) bop p q with
    | none=> grind
    | some c=>
     simp only [hb,Qi,oP] at he
     obtain ⟨rfl,rfl⟩:=he
     have h1:SimC cfg g.m (a.eval x) (.bool p):=(hop x (by simp [Op.operands]) _ hx).1
     have h2:SimC cfg g.m (a.eval y) (.bool q):=(hop y (by simp [Op.operands]) _ hy).1
     have e1:a.eval x= .bool p:=h1.bool_eq
     have e2:a.eval y= .bool q:=h2.bool_eq
     refine aq (s:=do eqGuard bop t x y (.bool p) (.bool q);binOp bop t (.bool p) (.bool q)) (ZlO ok hv hb) ?_
     simp [execOp,e1,e2]
   .cases he
  .rename_i T l tl hx hy
   have h1:SimC cfg g.m (a.eval x) (.slice T l tl):=(hop x (by simp [Op.operands]) _ hx).1
   have h2:SimC cfg g.m (a.eval y) (.nils:C U):=(hop y (by simp [Op.operands]) _ hy).1
   have e2:a.eval y= .slice none 0 0:=by
    generalize a.eval y=u at h2
    cases h2
    try rfl
   have bw:∃ (ao:Option Addr) (n c:Nat),a.eval x= .slice ao n c/\(ao.isNone=true->l=[]):=by
    generalize a.eval x=u at h1
    cases h1 with
    | snil=> grind
    | slice _ _ _ b len dg vs=> grind
   obtain ⟨ao,n,c,e1,hn⟩:=bw
   split at he <;> simp only [oP,reduceCtorEq] at he
   .rename_i S hS
    obtain ⟨rfl,rfl⟩:=he
    refine YH (v:= .bool ao.isNone) h ?_ ⟨_,rfl,hn,fun _=> trivial⟩
    simp [execOp,e1,e2,eqGuard,Lib.run_eql_slice_nil w t _ ao n c 0 0 (ok.sl t S hS)]
   .rename_i S hS
    obtain ⟨rfl,rfl⟩:=he
    refine YH (v:= .bool (!ao.isNone)) h ?_ ⟨_,rfl,fun _=> trivial,fun hf=> hn (by simpa using hf)⟩
    simp [execOp,e1,e2,eqGuard,run_neq_slice_nil_any w t _ ao n c 0 0 (ok.sl t S hS)]
  .rename_i T o hx hy
   have h1:SimC cfg g.m (a.eval x) (.po T o):=(hop x (by simp [Op.operands]) _ hx).1
   have h2:SimC cfg g.m (a.eval y) (.nilp:C U):=(hop y (by simp [Op.operands]) _ hy).1
   have e2:a.eval y= .pointer none:=by
    generalize a.eval y=u at h2
    cases h2
    try rfl
   have bw:∃ ao:Option Addr,a.eval x= .pointer ao/\ao.isNone=o.isNone:=by
    generalize a.eval x=u at h1
    cases h1 with
    | pnil=> grind
    | po _ y b vs=> grind
   obtain ⟨ao,e1,hn⟩:=bw
   have cl:∀ z,cfg.var t=some (false,z)->z=[.nilp]->P.underlying t=some (.pointer (P.pointee t)):=by
    rintro z hz rfl
    obtain ⟨e,he⟩:=ok.ptr t hz
    have:P.pointee t=e:=by simp [Program.pointee,he]
    rw [this];exact he
   split at he <;> simp only [oP,reduceCtorEq] at he
   .rename_i hv
    obtain ⟨rfl,rfl⟩:=he
    refine aq (s:=binOp .eql t (.pointer ao) (.pointer none)) ⟨_,run_eql_pointer_nil _ t ao (cl _ hv rfl),?_,fun _ _ _=> trivial⟩ (by simp [execOp,e1,e2,eqGuard])
    rw [hn];exact .bool _
   .rename_i hv
    obtain ⟨rfl,rfl⟩:=he
    refine aq (s:=binOp .neq t (.pointer ao) (.pointer none)) ⟨_,run_neq_pointer_nil _ t ao (cl _ hv rfl),?_,fun _ _ _=> trivial⟩ (by simp [execOp,e1,e2,eqGuard])
    rw [hn];cases o <;> exact .bool _
  .rename_i nm am hx hy
   have e1:a.eval x= .pointer (some ((g.ad nm).add am)):=(hop x (by simp [Op.operands]) _ hx).2
   have h2:SimC cfg g.m (a.eval y) (.nilp:C U):=(hop y (by simp [Op.operands]) _ hy).1
   have e2:=h2.nilp_eq
   split at he <;> simp only [oP,reduceCtorEq] at he
   .rename_i hv
    obtain ⟨rfl,rfl⟩:=he
    exact aq (s:=binOp .eql t (.pointer (some ((g.ad nm).add am))) (.pointer none)) ⟨_,run_eql_pointer_nil _ t _ (ZcY ok hv),.bool _,fun _ _ _=> trivial⟩ (by simp [execOp,e1,e2,eqGuard])
   .rename_i hv
    obtain ⟨rfl,rfl⟩:=he
    exact aq (s:=binOp .neq t (.pointer (some ((g.ad nm).add am))) (.pointer none)) ⟨_,run_neq_pointer_nil _ t _ (ZcY ok hv),.bool _,fun _ _ _=> trivial⟩ (by simp [execOp,e1,e2,eqGuard])
  .rename_i hx hy
   have h1:SimC cfg g.m (a.eval x) (.nilp:C U):=(hop x (by simp [Op.operands]) _ hx).1
   have h2:SimC cfg g.m (a.eval y) (.nilp:C U):=(hop y (by simp [Op.operands]) _ hy).1
   have e1:=h1.nilp_eq
   have e2:=h2.nilp_eq
   split at he <;> simp only [oP,reduceCtorEq] at he
   .rename_i hv
    obtain ⟨rfl,rfl⟩:=he
    exact aq (s:=binOp .eql t (.pointer none) (.pointer none)) ⟨_,run_eql_pointer_nil _ t none (ZcY ok hv),.bool _,fun _ _ _=> trivial⟩ (by simp [execOp,e1,e2,eqGuard])
   .rename_i hv
    obtain ⟨rfl,rfl⟩:=he
    exact aq (s:=binOp .neq t (.pointer none) (.pointer none)) ⟨_,run_neq_pointer_nil _ t none (ZcY ok hv),.bool _,fun _ _ _=> trivial⟩ (by simp [execOp,e1,e2,eqGuard])
  .rename_i p q dj b1 dn dl hx hy
   cases hb:ZAA Γ.wr bop p q with
   | none=> simp [hb,ZhE] at he
   | some r=>
    obtain ⟨qs,c⟩:=r
    simp only [hb,ZhE,Qi,oP] at he
    obtain ⟨rfl,rfl⟩:=he
    have h1:=(hop x (by simp [Op.operands]) _ hx).1
    have h2:=(hop y (by simp [Op.operands]) _ hy).1
    exact aq (Zon (p:=x) (q:=y) (t:=t) h1 h2 hb hps) (by rfl)
  .rename_i as bs hx hy
   have h1:=hop x (by simp [Op.operands]) _ hx
   have h2:=hop y (by simp [Op.operands]) _ hy
   split at he
   .rename_i r ag zs ht hr hz
    split at he
    .rename_i hl
     simp only [oP] at he
     obtain ⟨rfl,rfl⟩:=he
     exact aq ⟨_,(Zcw (w:=w) (p:=x) (q:=y) ok ht h1 h2 hr hz hl).1,.bool _,fun _ _ _=> trivial⟩ (by rfl)
    .cases he
   .rename_i r ag zs ht hr hz
    split at he
    .rename_i hl
     simp only [oP] at he
     obtain ⟨rfl,rfl⟩:=he
     exact aq ⟨_,(Zcw (w:=w) (p:=x) (q:=y) ok ht h1 h2 hr hz hl).2,.bool _,fun _ _ _=> trivial⟩ (by rfl)
    .cases he
   .cases he
  .cases he
 case unOp uop t x=>
  split at he
  .rename_i p hx
   cases hb:aUn Γ.wr uop p with
   | none=> simp [hb,ZhE] at he
   | some r=>
    obtain ⟨qs,c⟩:=r
    simp only [hb,ZhE,Qi,oP] at he
    obtain ⟨rfl,rfl⟩:=he
    exact aq (Zsm (hop x (by simp [Op.operands]) _ hx).1 hb hps) (by rfl)
  .cases he
 case convert src dst' x=>
  split at he
  .rename_i k1 n1 k n0 k2 n hs hd hx
   simp only [oP] at he
   obtain ⟨rfl,rfl⟩:=he
   have h1:SimC cfg g.m (a.eval x) (.int k2 n):=(hop x (by simp [Op.operands]) _ hx).1
   have e1:a.eval x= .int k2 n:=h1.int_eq
   obtain ⟨_,i,z,d,q1,q2,q3,q4,q5,q6,q7,_⟩:=ok.var _ _ _ hs
   obtain ⟨_,i',z',d',r1,r2,r3,r4,r5,r6,r7,_⟩:=ok.var _ _ _ hd
   have cz:=r7 rfl k n0 rfl
   subst cz
   refine aq (s:=convert src dst' (a.eval x)) ⟨.int k (k.wrap n),?_,.int _ _,fun _ _ _=> trivial⟩ (by rfl)
   rw [e1]
   simp [convert,run_underlying q2,run_underlying r2,Conv.intToInt]
  .cases he
 case makeSlice t n m=>
  split at he
  .rename_i T n' m' hT hn hm
   split at he
   .rename_i ag zs hz
    split at he
    .rename_i z hd
     have h1:SimC cfg g.m (a.eval n) (.int .i64 n'):=(hop n (by simp [Op.operands]) _ hn).1
     have h2:SimC cfg g.m (a.eval m) (.int .i64 m'):=(hop m (by simp [Op.operands]) _ hm).1
     cases hmu:st.strip.mu with
     | false=>
      simp only [hmu,cond_false] at he
      simp only [oP] at he
      obtain ⟨rfl,rfl⟩:=he
      exact ZcH ok h rfl hT h1.int_eq h2.int_eq hz hd hps.1 hps.2.1
     | true=>
      simp only [hmu,cond_true,Zjm] at he
      split at he
      .split at he
       .rename_i au
        simp only [Q2,QA,QQ] at au
        simp only [oP] at he
        obtain ⟨rfl,rfl⟩:=he
        exact Zb9 ok h au.1 au.2 rfl hT h1.int_eq h2.int_eq hz hd hps.1 hps.2.1
       .cases he
      .cases he
    .cases he
   .cases he
  .cases he
 case slice t x lo hi mx=>
  split at he
  .rename_i nm am hx bl bd bj
   split at he
   .rename_i len et T cs ha hT ba
    split at he
    .rename_i hc
     obtain ⟨rfl,bv,db,c2⟩:=hc
     split at he
     .rename_i l hl
      simp only [oP] at he
      obtain ⟨rfl,rfl⟩:=he
      have nn:∀ {y:Option Operand},JS st.strip y=some none->y=none:=by
       intro y hy
       cases y with
       | none=> rfl
       | some z=> simp [JS] at hy
      have e1:=nn bl
      have e2:=nn bd
      have e3:=nn bj
      subst e1 e2 e3
      exact Ze2 ok h rfl ha c2 (hop x (by simp [Op.operands]) _ hx) ba bv db hl
     .cases he
    .cases he
   .cases he
  .rename_i u k n hx bl bd bj
   split at he
   .rename_i S y hS hy
    split at he
    .rename_i bg _
     subst bg
     rw [cond_eq_ite] at he
     split at he
     .simp only [oP] at he
      obtain ⟨rfl,rfl⟩:=he
      have nn:∀ {y:Option Operand},JS st.strip y=some none->y=none:=by
       intro y hy
       cases y with
       | none=> rfl
       | some z=> simp [JS] at hy
      have e2:=nn bd
      have e3:=nn bj
      subst e2 e3
      cases lo with
      | none=> grind
      | some lo=>
       have hl:st.strip.opnd lo=some (.c (.int k n)):=by simpa [JS] using bl
       have h1:SimC cfg g.m (a.eval lo) (.int k n):=(hop lo (by simp [Op.operands]) _ hl).1
       obtain ⟨r,h2,h3⟩:=ZhR (k:=k) (live:=fun nm=> (st.mem nm).isSome) ok h hS hy (hop x (by simp [Op.operands]) _ hx) hps.1
       exact val ⟨r,h2,h3⟩ (by simp [execOp,h1.int_eq])
     .cases he
    .cases he
   .cases he
  .rename_i u k n hx bl bd bj
   split at he
   .rename_i S y d hS hy
    split at he
    .rename_i bg _
     subst bg
     rw [cond_eq_ite] at he
     split at he
     .rename_i hc
      simp only [Q2,QA,QQ] at hc
      simp only [oP] at he
      obtain ⟨rfl,rfl⟩:=he
      have nn:∀ {y:Option Operand},JS st.strip y=some none->y=none:=by
       intro y hy
       cases y with
       | none=> rfl
       | some z=> simp [JS] at hy
      have e2:=nn bl
      have e3:=nn bj
      subst e2 e3
      cases hi with
      | none=> simp [JS] at bd
      | some hi=>
       have hl:st.strip.opnd hi=some (.c (.int k n)):=by simpa [JS] using bd
       have h1:SimC cfg g.m (a.eval hi) (.int k n):=(hop hi (by simp [Op.operands]) _ hl).1
       obtain ⟨r,g',h2,h3⟩:=Zs6 (k:=k) ok h hS hy (hop x (by simp [Op.operands]) _ hx) hps.1 hps.2.1 hc.1.1.2 hc.1.2 hc.2
       exact .inl ⟨r,w,by simp [execOp,h1.int_eq,h2],g',h3⟩
     .cases he
    .cases he
   .cases he
  .rename_i x' dh cw dd _ _ hx bl bd bj
   cases hb:Zjl cfg t x' dh cw dd with
   | none=> simp [hb,ZhE] at he
   | some r=>
    obtain ⟨qs,c⟩:=r
    simp only [hb,ZhE,Qi,oP] at he
    obtain ⟨rfl,rfl⟩:=he
    have a2:=hop x (by simp [Op.operands]) _ hx
    obtain ⟨r,h1,h2⟩:=Zjk (w:=w) (live:=fun nm=> (st.mem nm).isSome) ok a2 (Z81 (a:=a) bl fun y hy=> hop y (by simp [Op.operands,hy])) (Z81 (a:=a) bd fun y hy=> hop y (by simp [Op.operands,hy]))
     (Z81 (a:=a) bj fun y hy=> hop y (by simp [Op.operands,hy])) hb hps
    exact val (x:= .c c) ⟨r,h1,h2⟩ (by rfl)
  .cases he
 case makeInterface t x=>
  split at he
  .rename_i nm hx
   rw [cond_eq_ite] at he
   split at he
   .rename_i hn
    simp only [oP] at he
    obtain ⟨rfl,rfl⟩:=he
    obtain ⟨h1,h2⟩:=hop x (by simp [Op.operands]) _ hx
    rw [Addr.add_zero'] at h2
    exact YH (v:= .iface t (a.eval x)) h (by simp [execOp,Zgd ok hn]) ⟨h1,by rw [h2]⟩
   .cases he
  .rename_i cs hx
   split at he
   .rename_i l hl
    rw [cond_eq_ite] at he
    split at he
    .rename_i hn
     simp only [oP] at he
     obtain ⟨rfl,rfl⟩:=he
     obtain ⟨vs,h1,h2⟩:=hop x (by simp [Op.operands]) _ hx
     have h3:=Z8j hl h2
     refine YH (v:= .iface t (a.eval x)) h (by simp [execOp,Zgd ok hn]) ?_
     show Value.iface t (a.eval x)=_
     rw [h1,<-h3]
    .cases he
   .cases he
  .cases he
 case typeAssert x xt t ck=>
  split at he
  .rename_i t' vs hx
   split at he
   .rename_i cs ba
    rw [cond_eq_ite] at he
    split at he
    .rename_i hc
     simp only [Q2] at hc
     have ht:=Qc hc.1
     subst ht
     simp only [oP] at he
     obtain ⟨rfl,rfl⟩:=he
     have h1:a.eval x= .iface t' (.agg vs):=hop x (by simp [Op.operands]) _ hx
     exact YH (v:= .agg vs) h (by simp [execOp,h1,Zmh ok hc.2]) ⟨vs,rfl,ZfW ba⟩
    .cases he
   .cases he
  .cases he
 case fieldAddr t x f=>
  split at he
  .rename_i u n o' am ft hx hf
   split at he
   .rename_i z hz
    split at he
    .rename_i hs
     simp only [oP] at he
     obtain ⟨rfl,rfl⟩:=he
     obtain ⟨y,hy⟩:=QY.1 hs
     exact val (Zbo ok hf hz h hy (hop x (by simp [Op.operands]) _ hx)) (by rfl)
    .cases he
   .cases he
  .rename_i T o am ft hx hf
   split at he
   .rename_i ag zs hv
    cases hp:Z7W (.ep (cfg.enc T (o.getD (cfg.dflt T)))) am zs.length with
    | none=> grind
    | some v=>
     simp only [hp,Qi,oP] at he
     obtain ⟨rfl,rfl⟩:=he
     exact val (Z5x ok hf hv (Zuv ok (hop x (by simp [Op.operands]) _ hx) hps.1) hp) (by rfl)
   .cases he
  .rename_i p am ft b6 b1 hx hf
   split at he
   .rename_i ag zs hv
    cases hp:Z7W p am zs.length with
    | none=> grind
    | some v=>
     simp only [hp,Qi,oP] at he
     obtain ⟨rfl,rfl⟩:=he
     exact val (Z5x ok hf hv (hop x (by simp [Op.operands]) _ hx) hp) (by rfl)
   .cases he
  .cases he
 case field t x f=>
  split at he
  .rename_i cs am ft hx hf
   split at he
   .rename_i ag zs hv
    split at he
    .rename_i br
     cases hp:mkV ag ((cs.drop am).take zs.length) with
     | none=> grind
     | some v=>
      simp only [hp,Qi,oP] at he
      obtain ⟨rfl,rfl⟩:=he
      exact val (Zlm ok hf hv (hop x (by simp [Op.operands]) _ hx) br hp) (by rfl)
    .cases he
   .cases he
  .cases he
 case indexAddr t x i=>
  split at he
  .rename_i T l tl k n hx hi
   split at he
   .rename_i S hS
    split at he
    .rename_i bg _
     simp only [oP] at he
     obtain ⟨rfl,rfl⟩:=he
     subst bg
     have h1:SimC cfg g.m (a.eval i) (.int k n):=(hop i (by simp [Op.operands]) _ hi).1
     have e1:a.eval i= .int k n:=h1.int_eq
     refine val (ZcK (k:=k) ok hS (hop x (by simp [Op.operands]) _ hx) hps.1) ?_
     simp [execOp,e1]
    .cases he
   .cases he
  .rename_i u k n hx hi
   split at he
   .rename_i S y hS hy
    split at he
    .rename_i bg _
     simp only [oP] at he
     obtain ⟨rfl,rfl⟩:=he
     subst bg
     have h1:SimC cfg g.m (a.eval i) (.int k n):=(hop i (by simp [Op.operands]) _ hi).1
     have e1:a.eval i= .int k n:=h1.int_eq
     refine val (Zbk (k:=k) ok h hS hy (hop x (by simp [Op.operands]) _ hx) hps.1) ?_
     simp [execOp,e1]
    .cases he
   .cases he
  .rename_i nm am k n hx hi
   split at he
   .rename_i len et ha
    split at he
    .rename_i k0 n0 hv
     simp only [oP] at he
     obtain ⟨rfl,rfl⟩:=he
     have h1:SimC cfg g.m (a.eval i) (.int k n):=(hop i (by simp [Op.operands]) _ hi).1
     have e1:a.eval i= .int k n:=h1.int_eq
     refine val (Zf4 (k:=k) ok ha hv (hop x (by simp [Op.operands]) _ hx) hps.1) ?_
     simp [execOp,e1]
    .rename_i ag zs b6 hv
     split at he
     .rename_i hn
      simp only [oP] at he
      obtain ⟨rfl,rfl⟩:=he
      have h1:SimC cfg g.m (a.eval i) (.int k n):=(hop i (by simp [Op.operands]) _ hi).1
      have e1:a.eval i= .int k n:=h1.int_eq
      refine val (Z2l (k:=k) ok ha hv (hop x (by simp [Op.operands]) _ hx) hn) ?_
      simp [execOp,e1]
     .cases he
    .cases he
   .cases he
  .cases he
 case index t x i=>
  split at he
  .rename_i cs k n hx hi
   split at he
   .rename_i len et ha
    split at he
    .rename_i k0 n0 hv
     split at he
     .rename_i bv
      split at he
      .rename_i l hl
       simp only [oP] at he
       obtain ⟨rfl,rfl⟩:=he
       have h1:SimC cfg g.m (a.eval i) (.int k n):=(hop i (by simp [Op.operands]) _ hi).1
       have e1:a.eval i= .int k n:=h1.int_eq
       refine val (x:= .c _) (Zbj (k:=k) ok ha hv (hop x (by simp [Op.operands]) _ hx) bv hl hps.1) ?_
       simp [execOp,e1]
      .cases he
     .cases he
    .rename_i ag zs b6 hv
     split at he
     .rename_i hn
      cases hp:mkV ag ((cs.drop (n.toNat*zs.length)).take zs.length) with
      | none=> grind
      | some v=>
       simp only [hp,Qi,oP] at he
       obtain ⟨rfl,rfl⟩:=he
       have h1:SimC cfg g.m (a.eval i) (.int k n):=(hop i (by simp [Op.operands]) _ hi).1
       have e1:a.eval i= .int k n:=h1.int_eq
       refine val (ZcJ (k:=k) ok ha hv (hop x (by simp [Op.operands]) _ hx) ⟨hn.1,hn.2.1⟩ hn.2.2 hp) ?_
       simp [execOp,e1]
     .cases he
    .cases he
   .cases he
  .cases he
 case extract x i=>
  split at he
  .rename_i vs hx
   split at he
   .rename_i ag cs hi
    cases hp:mkV ag cs with
    | none=> grind
    | some v=>
     simp only [hp,Qi,oP] at he
     obtain ⟨rfl,rfl⟩:=he
     exact val (ZfL (hop x (by simp [Op.operands]) _ hx) hi hp) (by rfl)
   .cases he
  .cases he
 case call c=>
  unfold Zjq at he
  split at he
  .rename_i b hb
   unfold Zfz at he
   have cb:execOp a.eval { dst,op:= .call c,type,pos,after,guard }=builtin b c.argTypes type (c.args.map fun | .const _=> true | _=> false) (c.args.map a.eval):=by
    simp only [execOp,resolve,hb]
    try rfl
   split at he
   .rename_i x t al bf
    have e1:c.args=#[x]:=by apply QM;simpa using al
    have e2:c.argTypes=#[t]:=by apply QM;simpa using bf
    split at he
    .rename_i v hx
     cases hl:lenOf cfg st.strip t v with
     | none=> grind
     | some cc=>
      simp only [hl,Qi,oP] at he
      obtain ⟨rfl,rfl⟩:=he
      have hr:=hop x (by simp [Op.operands,Call.operands,hb,e1]) v hx
      obtain ⟨r,h1,h2⟩:=ZrM (w:=w) (ty:=type) ok h hr (show lenOf cfg st t v=some cc from hl)
      refine val (x:= .c cc) ⟨r,h1,h2⟩ ?_
      rw [cb,e1,e2];simp [builtin]
    .cases he
   .rename_i x y t t' al bf
    have e1:c.args=#[x,y]:=by apply QM;simpa using al
    have e2:c.argTypes=#[t,t']:=by apply QM;simpa using bf
    split at he
    .rename_i d cx cy hd hx hy
     split at he
     .rename_i b5
      subst b5
      have a2:=hop x (by simp [Op.operands,Call.operands,hb,e1]) _ hx
      have bo:=hop y (by simp [Op.operands,Call.operands,hb,e1]) _ hy
      obtain ⟨callee,args,argTypes⟩:=c
      simp only at hb e1 e2
      subst hb e1 e2
      rw [cond_eq_ite] at he
      split at he
      .exact ZfU ok h rfl a2 bo he hps
      .exact Zji ok h rfl a2 bo he hps
     .have a2:=hop x (by simp [Op.operands,Call.operands,hb,e1]) _ hx
      have bo:=hop y (by simp [Op.operands,Call.operands,hb,e1]) _ hy
      obtain ⟨callee,args,argTypes⟩:=c
      simp only at hb e1 e2
      subst hb e1 e2
      exact ZfT ok h rfl a2 bo he hps
    .cases he
   .rename_i x t al bf
    have e1:c.args=#[x]:=by apply QM;simpa using al
    have e2:c.argTypes=#[t]:=by apply QM;simpa using bf
    split at he
    .rename_i u n hx
     have a2:=hop x (by simp [Op.operands,Call.operands,hb,e1]) _ hx
     obtain ⟨callee,args,argTypes⟩:=c
     simp only at hb e1 e2
     subst hb e1 e2
     exact ZlC ok h rfl a2 he hps
    .cases he
   .rename_i x y t t' al bf
    have e1:c.args=#[x,y]:=by apply QM;simpa using al
    have e2:c.argTypes=#[t,t']:=by apply QM;simpa using bf
    split at he
    .rename_i u n cy hx hy
     split at he
     .rename_i b5
      subst b5
      have a2:=hop x (by simp [Op.operands,Call.operands,hb,e1]) _ hx
      have bo:=hop y (by simp [Op.operands,Call.operands,hb,e1]) _ hy
      obtain ⟨callee,args,argTypes⟩:=c
      simp only at hb e1 e2
      subst hb e1 e2
      exact Zo1 ok h rfl a2 bo he hps
     .cases he
    .cases he
   .rename_i x y al
    have e1:c.args=#[x,y]:=by apply QM;simpa using al
    split at he
    .rename_i cx cy hx hy
     cases hl:Z7d false cx cy with
     | none=> grind
     | some cc=>
      simp only [hl,Qi,oP] at he
      obtain ⟨rfl,rfl⟩:=he
      obtain ⟨r,h1,h2⟩:=Z9q (P:=P) (w:=w) (ts:=c.argTypes) (ty:=type) (hop x (by simp [Op.operands,Call.operands,hb,e1]) _ hx) (hop y (by simp [Op.operands,Call.operands,hb,e1]) _ hy) hl
      refine val (x:= .c cc) ⟨r,h1,h2⟩ ?_
      rw [cb,e1];simp [builtin]
    .cases he
   .rename_i x y al
    have e1:c.args=#[x,y]:=by apply QM;simpa using al
    split at he
    .rename_i cx cy hx hy
     cases hl:Z7d true cx cy with
     | none=> grind
     | some cc=>
      simp only [hl,Qi,oP] at he
      obtain ⟨rfl,rfl⟩:=he
      obtain ⟨r,h1,h2⟩:=Z9q (P:=P) (w:=w) (ts:=c.argTypes) (ty:=type) (hop x (by simp [Op.operands,Call.operands,hb,e1]) _ hx) (hop y (by simp [Op.operands,Call.operands,hb,e1]) _ hy) hl
      refine val (x:= .c cc) ⟨r,h1,h2⟩ ?_
      rw [cb,e1];simp [builtin]
    .cases he
   .cases he
  .rename_i gx hg
   split at he
   .rename_i f vs hf bh
    have au:a.eval gx= .func (.func f) #[] #[]:=hop gx (by simp [Op.operands,Call.operands,hg]) _ hf
    obtain ⟨m1,m2⟩:=Z6R (st:=st.strip) (cfg:=cfg) (g:=g) (a:=a) bh (fun x hx v hv=> hop x (by simp [Op.operands,Call.operands,hg];right;simpa using hx) v hv)
    split at he
    .rename_i i hi
     have e:Zsp cfg st.strip i vs=Zsp cfg st i vs:=rfl
     rw [e] at he
     exact ZrU ok hΓ h (Z1V rfl hg (first:=[]) (caps:=[]) au) ⟨by simpa using m1,fun j u x hu hx=> m2 j u x (by simpa using hu) hx⟩ hi he hps
    rw [cond_eq_ite] at he
    split at he
    .have e:Z7z Γ st.strip f vs=Z7z Γ st f vs:=rfl
     rw [e] at he
     exact ZeW hΓ h (Z1V rfl hg (first:=[]) (caps:=[]) au) ⟨by simpa using m1,fun j u x hu hx=> m2 j u x (by simpa using hu) hx⟩ he hps
    split at he
    .rename_i r hr
     cases he
     rw [cond_eq_ite] at hr
     split at hr
     .have e:∀ d,Zso Γ st.strip d f vs=Zso Γ st d f vs:=fun d=> rfl
      rw [e] at hr
      exact Zrx hΓ h rfl hg au ⟨by simpa using m1,fun j u x hu hx=> m2 j u x (by simpa using hu) hx⟩ hr hps
     .cases hr
    rw [Z3B] at he
    exact Z5g hΓ h (Z1V rfl hg (first:=[]) (caps:=[]) au) ⟨by simpa using m1,fun j u x hu hx=> m2 j u x (by simpa using hu) hx⟩ he hps
   .rename_i f a8 vs hf bh
    rw [Z3B] at he
    have au:=hop gx (by simp [Op.operands,Call.operands,hg]) _ hf
    obtain ⟨m1,m2⟩:=Z6R (st:=st.strip) (cfg:=cfg) (g:=g) (a:=a) bh (fun x hx v hv=> hop x (by simp [Op.operands,Call.operands,hg];right;simpa using hx) v hv)
    refine Z5g hΓ h (Z1V rfl hg (first:=[]) (caps:=a8.map fun nm=> Value.pointer (some (g.ad nm))) au.2) ⟨by simp [<-m1],fun j u x hu hx=> ?_⟩ he hps
    rw [Qn] at hu
    rw [QF] at hu hx
    split at hu
    .rename_i dc
     rw [Yz] at hx
     exact m2 j u x hu hx
    .rename_i da
     rw [Yo] at hx
     rw [<-m1] at hx
     rw [Qv] at hu hx
     cases bu:a8[j - (List.map a.eval c.args.toList).length]? with
     | none=> grind
     | some nm=>
      rw [bu] at hu hx
      cases hu;cases hx
      exact ⟨au.1 nm (QV bu),by rfl⟩
   .rename_i f first caps vs hf bh
    split at he
    .rename_i us bi c1
     rw [Z3B] at he
     have au:a.eval gx= .func (.func f) first caps:=hop gx (by simp [Op.operands,Call.operands,hg]) _ hf
     have b9:caps=#[]:=by apply QM;simpa using bi
     obtain ⟨m1,m2⟩:=Z6R (st:=st.strip) (cfg:=cfg) (g:=g) (a:=a) bh (fun x hx v hv=> hop x (by simp [Op.operands,Call.operands,hg];right;simpa using hx) v hv)
     obtain ⟨k1,k2⟩:=Z9k (cfg:=cfg) (g:=g) (dead:=st.dead) (live:=fun nm=> (st.mem nm).isSome) c1
     refine Z5g hΓ h (Z1V rfl hg (first:=first.toList) (caps:=[]) (by rw [au,b9])) ⟨by simp [k1,<-m1],fun j u x hu hx=> ?_⟩ he hps
     rw [Qh] at hu
     rw [QF] at hu hx
     split at hu
     .rename_i dc
      rw [Yz] at hx
      exact k2 j u x hu hx
     .rename_i da
      rw [Yo,<-k1] at hx
      exact m2 _ u x hu hx
    .cases he
   .cases he
  .rename_i r dp hg
   split at he
   .rename_i t nm vs hr bh
    obtain ⟨m1,m2⟩:=Z6R (st:=st.strip) (cfg:=cfg) (g:=g) (a:=a) bh (fun x hx v hv=> hop x (by simp [Op.operands,Call.operands,hg];right;simpa using hx) v hv)
    obtain ⟨bu,b8⟩:=hop r (by simp [Op.operands,Call.operands,hg]) _ hr
    split at he
    .rename_i f hm
     rw [Z3B] at he
     refine Z5g hΓ h (fun fn h1 h2 h3=> Z7M (u:=undef) ok rfl hg b8 hm (by simp) h1 h2 h3) ⟨by simp [<-m1],fun j u x hu hx=> ?_⟩ he hps
     cases j with
     | zero=> simp at hu hx;subst hu hx;exact ⟨bu,by simp [Addr.add_zero']⟩
     | succ j=> exact m2 j u x (by simpa using hu) (by simpa using hx)
    .rename_i f hm
     split at he
     .rename_i c0 b9
      obtain ⟨u,hu,_,c4⟩:=h.mem nm [c0] b9 0 c0 rfl
      rw [Addr.add_zero'] at hu
      rw [cond_eq_ite] at he
      split at he
      .have e:Z7z Γ st.strip f (.c c0 ::vs)=Z7z Γ st f (.c c0 ::vs):=rfl
       rw [e] at he
       refine ZeW hΓ h (vals:=u ::c.args.toList.map a.eval) (fun fn h1 h2 h3=> Z7M ok rfl hg b8 hm (fun _=> hu) h1 h2 h3) ⟨by simp [<-m1],fun j v x hv hx=> ?_⟩ he hps
       cases j with
       | zero=> simp at hv hx;subst hv hx;exact c4
       | succ j=> exact m2 j v x (by simpa using hv) (by simpa using hx)
      .rw [Zjo] at he
       exact ZlD hΓ h (vals:=c.args.toList.map a.eval) (fun fn h1 h2 h3=> Z7M ok rfl hg b8 hm (fun _=> hu) h1 h2 h3) hu bu ⟨m1,m2⟩ he hps
     .cases he
    .cases he
   .cases he
 case makeFunc fn first caps=>
  split at he
  .rename_i f a8 b7 hm
   simp only [oP] at he
   obtain ⟨rfl,rfl⟩:=he
   have a1:first=#[]:=by apply QM;simpa using b7
   have bw:∀ (l:List Operand) (a8:List Name),(∀ x∈l,x∈caps.toList)->l.mapM (fun x=> (st.strip.opnd x).bind Zie)=some a8->
     l.map a.eval=a8.map (fun nm=> Value.pointer (some (g.ad nm)))/\∀ nm∈a8,((st.mem nm).isSome || nm.isX)=true:=by
    intro l
    induction l with
    | nil=> grind
    | cons x l ih=>
     intro a8 hl hm
     rw [QP] at hm
     cases h1:(st.strip.opnd x).bind Zie with
     | none=> grind
     | some nm=>
      cases h2:l.mapM (fun x=> (st.strip.opnd x).bind Zie) with
      | none=> grind
      | some r=>
       simp [h1,h2] at hm
       subst hm
       obtain ⟨h3,h4⟩:=ih r (fun y hy=> hl y (by simp [hy])) h2
       obtain ⟨v,h5,h6⟩:=bind_some h1
       have h7:=hop x (by
        have:=hl x (by simp)
        simp only [Op.operands]
        grind) v h5
       unfold Zie at h6
       split at h6
       .cases h6
        obtain ⟨h8,h9⟩:=h7
        rw [Addr.add_zero'] at h9
        grind
       .cases h6
   obtain ⟨k1,k2⟩:=bw caps.toList a8 (fun x hx=> hx) hm
   refine YH (v:= .func (.func f) #[] (caps.map a.eval)) h ?_ ⟨k2,?_⟩
   .simp [execOp,Instr.makeFunc,a1]
   .congr 1
    grind
  .rename_i f x b7 hm
   split at he
   .rename_i cs hx
    cases hl:Zbs cs with
    | none=> simp [hl] at he
    | some l=>
     simp only [hl,Qi,oP] at he
     obtain ⟨rfl,rfl⟩:=he
     have a1:first=#[x]:=by apply QM;simpa using b7
     have bi:caps=#[]:=by
      apply QM
      cases hcl:caps.toList with
      | nil=> rfl
      | cons y ys=>
       rw [hcl,QP] at hm
       cases h1:(st.strip.opnd y).bind Zie with
       | none=> simp [h1] at hm
       | some nm=> cases h2:ys.mapM (fun x=> (st.strip.opnd x).bind Zie) <;> simp [h1,h2] at hm
     obtain ⟨vs,h1,h2⟩:=hop x (by simp [Op.operands,a1]) _ hx
     have h3:=Z8j hl h2
     refine YH (v:= .func (.func f) #[a.eval x] #[]) h (by simp [execOp,Instr.makeFunc,a1,bi]) ?_
     show Value.func (.func f) #[a.eval x] #[]=_
     rw [h1,<-h3]
   .cases he
  .cases he
def Wr(cfg:Cfg U)(g:Gh)(t:Tok)(x:LC U)(c:Addr):Prop:=
 ∃ b len cap,g.bs t=some (.slice (some b) len cap,cfg.sz x.T)/\∃ j,x.f*cfg.sz x.T<=j/\j < len*cfg.sz x.T/\c=b.add j
open Classical in
noncomputable def Gh.settled(g:Gh)(w:World)(R:Addr->Prop)(t:Tok):Gh:=
 {m:=fun c=> if R c then w.cell? c else g.m c
  tag:=fun c=> if R c then none else g.tag c
  ad:=g.ad
  bs:=fun u=> if u=t then none else g.bs u }
theorem ZlY(ok:CfgOk P cfg){t:Tok}{x:LC U}(hL:LRel cfg w g t x){c:Addr}(hc:Wr cfg g t x c):g.tag c=some (.tok t)/\∃ v,w.cell? c=some v:=by
 obtain ⟨b,len,aj,h1,j,h2,h3,rfl⟩:=hc
 rcases hL with ⟨e1,_⟩ | ⟨b',len',cap',e1,e2,e3,e4,e5,e6⟩
 .grind
 .rw [h1] at e1
  cases e1
  have d:=ok.sz_pos x.T
  have hi:j / cfg.sz x.T < x.l.length:=by rw [e2];exact Xs (by grind)
  have aa:j % cfg.sz x.T < (cfg.enc x.T (x.l[j / cfg.sz x.T])).length:=by rw [ok.enc_len];exact XJ _ d
  obtain ⟨v,e7,_,_,e8⟩:=e5 _ _ (Q0 hi) _ _ (Q0 aa)
  have e:j / cfg.sz x.T*cfg.sz x.T+j % cfg.sz x.T=j:=by rw [Xn];exact XD _ _
  rw [e] at e7 e8
  exact ⟨e8 ((XP d).2 h2),v,e7⟩
section frz
variable {t:Tok} {x:LC U}
theorem Z3U(ok:CfgOk P cfg)(h:Rel cfg B st g a w)(hL:LRel cfg w g t x):∀ c v,g.m c=some v->(g.settled w (Wr cfg g t x) t).m c=some v:=by
 intro c v d
 simp only [Gh.settled]
 rw [if_neg]
 .exact d
 .intro hc
  have:=(ZlY ok hL hc).1
  rw [(h.inv.im c v d).2] at this
  cases this
theorem Z3k(ok:CfgOk P cfg)(hL:LRel cfg w g t x){c:Addr}{t':Tag}(hne:t'≠.tok t):g.tag c=some t'↔(g.settled w (Wr cfg g t x) t).tag c=some t':=by
 simp only [Gh.settled]
 split
 .rename_i hc
  rw [(ZlY ok hL hc).1]
  grind
 grind
theorem Z8V(ok:CfgOk P cfg)(h:Rel cfg B st g a w)(hL:LRel cfg w g t x){b:Addr}{len cap:Nat}(hbs:g.bs t=some (.slice (some b) len cap,cfg.sz x.T)):
  x.l.length=len/\len<=cap/\(∀ i y,x.l[i]?=some y->∀ j c,(cfg.enc x.T y)[j]?=some c->∃ v,(g.settled w (Wr cfg g t x) t).m (b.add (i*cfg.sz x.T+j))=some v/\SimC cfg (g.settled w (Wr cfg g t x) t).m v c)/\
   ∀ j,len*cfg.sz x.T<=j->j < cap*cfg.sz x.T->(g.settled w (Wr cfg g t x) t).tag (b.add j)=some (.tok t):=by
 rcases hL with ⟨e1,_⟩ | ⟨b',len',cap',e1,e2,e3,e4,e5,e6⟩
 .grind
 have d:LRel cfg w g t x:= .inr ⟨b',len',cap',e1,e2,e3,e4,e5,e6⟩
 have e0:=e1
 rw [hbs] at e0
 cases e0
 refine ⟨e2,e3,fun i y hy j c hc=> ?_,fun j a1 a2=> ?_⟩
 .obtain ⟨u,e7,e8,e9,ak⟩:=e5 i y hy j c hc
  refine ⟨u,?_,e8.mono (Z3U ok h d)⟩
  rcases Xw i x.f with hi | hi
  .exact Z3U ok h d _ _ (e9 hi)
  .have hj:j < cfg.sz x.T:=by have:=(Q4.1 hc).1;rw [ok.enc_len] at this;exact this
   have aa:i < len:=by have:=(Q4.1 hy).1;omega
   have h1:x.f*cfg.sz x.T<=i*cfg.sz x.T:=Qf _ hi
   have h2:(i+1)*cfg.sz x.T<=len*cfg.sz x.T:=Qf _ aa
   rw [QJ] at h2
   simp only [Gh.settled]
   rw [if_pos ⟨b,len,cap,e1,_,V0,V0,rfl⟩]
   exact e7
 .simp only [Gh.settled]
  rw [if_neg]
  .grind
  .rintro ⟨b2,ae,af,h1,j2,h2,h3,h4⟩
   rw [e1] at h1
   cases h1
   have:=Z1U h4
   omega
theorem Zwi(ok:CfgOk P cfg)(h:Rel cfg B st g a w)(hd:st.dead t=false)(hL:LRel cfg w g t x){v:Value}{c:C U}(hr:RelC cfg g st.dead v c):
  RelC cfg (g.settled w (Wr cfg g t x) t) st.dead v (c.frz t x):=by
 have d:=Z3U ok h hL
 cases c with
 | slice T l tl=>
  cases tl with
  | unk=> exact ⟨hr.1.mono d,trivial⟩
  | full=> exact ⟨hr.1.mono d,hr.2⟩
  | own u=>
   simp only [C.frz]
   split
   .exact ⟨(hr.1.tl _).mono d,trivial⟩
   .rename_i af
    exact ⟨hr.1.mono d,fun aa b len ab hv j h1 h2=> (Z3k ok hL (fun e=> by grind)).1 (hr.2 aa b len ab hv j h1 h2)⟩
 | mref u=>
  simp only [C.frz]
  split
  .rename_i e
   subst e
   obtain ⟨s,hs⟩:=hr.2 hd
   rcases hL with ⟨e1,e2,e3⟩ | ⟨b',len',cap',e1,e2⟩
   .rw [hs] at e1
    cases e1
    obtain ⟨T,l,f⟩:=x
    simp only at e2
    subst e2
    exact ⟨.snil T _,fun _ b len ab hv=> by cases hv⟩
   .have ai:LRel cfg w g u x:= .inr ⟨b',len',cap',e1,e2⟩
    obtain ⟨r1,r2,r3,r4⟩:=Z8V ok h ai e1
    rw [hs] at e1
    cases e1
    refine ⟨.of_rows _ r1 r2 r3,fun _ b len ab hv j h1 h2=> ?_⟩
    grind
  .rename_i af
   refine ⟨.mref _ _ hr.1.one,fun aa=> ?_⟩
   obtain ⟨s,hs⟩:=hr.2 aa
   refine ⟨s,?_⟩
   simp only [Gh.settled]
   grind
 | kc v=> exact ⟨hr.1.mono d,trivial⟩
 | jk=> exact ⟨.jk _ hr.1.one,trivial⟩
 | xp k=> exact ⟨.xp _ _ hr.1.one,hr.2⟩
 | int k n=> exact ⟨hr.1.mono d,trivial⟩
 | bool b=> exact ⟨hr.1.mono d,trivial⟩
 | nils=> exact ⟨hr.1.mono d,trivial⟩
 | nilp=> exact ⟨hr.1.mono d,trivial⟩
 | po T o=> exact ⟨hr.1.mono d,trivial⟩
theorem ZHw(ok:CfgOk P cfg)(h:Rel cfg B st g a w)(hd:st.dead t=false)(hL:LRel cfg w g t x){vs:List Value}{cs:List (C U)}(hr:RelL cfg g st.dead vs cs):
  RelL cfg (g.settled w (Wr cfg g t x) t) st.dead vs (cs.map (C.frz t x)):=by
 refine ⟨by simp [hr.1],fun j v c d hc=> ?_⟩
 rw [Qv] at hc
 cases hj:cs[j]? with
 | none=> grind
 | some c0=>
  simp [hj] at hc
  subst hc
  exact Zwi ok h hd hL (hr.2 j v c0 d hj)
theorem ZHv(ok:CfgOk P cfg)(h:Rel cfg B st g a w)(hd:st.dead t=false)(hL:LRel cfg w g t x){live:Name->Bool}{v:Value}:∀ {y:V U},RelV cfg g st.dead live v y->
  RelV cfg (g.settled w (Wr cfg g t x) t) st.dead live v (y.frz cfg t x)
 | .c y,hr=> Zwi ok h hd hL (c:=y) hr
 | .agg cs,hr=> by obtain ⟨vs,h1,d⟩:=hr;exact ⟨vs,h1,ZHw ok h hd hL d⟩
 | .tup ws,hr=> by
  obtain ⟨vs,h1,d,h3⟩:=hr
  refine ⟨vs,h1,by simp [d],fun j u y hu hy=> ?_⟩
  rw [Qv] at hy
  cases hj:ws[j]? with
  | none=> grind
  | some w0=>
   simp [hj] at hy
   subst hy
   have:=h3 j u w0 hu hj
   obtain ⟨ag,cs⟩:=w0
   cases ag with
   | true=> obtain ⟨vs,h4,h5⟩:=this;exact ⟨vs,h4,ZHw ok h hd hL h5⟩
   | false=> obtain ⟨c,h4,h5⟩:=this;simp only at h4;subst h4;exact ⟨_,rfl,Zwi ok h hd hL h5⟩
 | .ptr _ _,hr=> hr
 | .ap ..,hr=> hr
 | .ep cs,hr=> by
  obtain ⟨b,h1,d⟩:=hr
  refine ⟨b,h1,fun j c hc=> ?_⟩
  rw [Qv] at hc
  cases hj:cs[j]? with
  | none=> grind
  | some c0=>
   simp [hj] at hc
   subst hc
   obtain ⟨u,h3,h4⟩:=d j c0 hj
   exact ⟨u,Z3U ok h hL _ _ h3,Zwi ok h hd hL h4⟩
 | .mp u n off,hr=> by
  simp only [V.frz]
  split
  .rename_i e
   subst e
   obtain ⟨b,len,ab,s,h1,d,rfl⟩:=hr hd
   have hs:s=cfg.sz x.T:=by
    rcases hL with ⟨e1,_⟩ | ⟨b',len',cap',e1,_⟩ <;> rw [h1] at e1 <;> cases e1
    try rfl
   subst hs
   obtain ⟨r1,r2,r3,r4⟩:=Z8V ok h hL h1
   refine ⟨_,rfl,fun j c hc=> ?_⟩
   rw [Qw] at hc
   have aj:x.l[n]?=some (x.l.getD n (cfg.dflt x.T)):=by simp [List.getD,Q0 (show n < x.l.length by omega)]
   obtain ⟨u',h5,h6⟩:=r3 n _ aj _ c hc
   rw [Go.Deep.add_add,show n*cfg.sz x.T+off+j=n*cfg.sz x.T+(off+j) by omega]
   exact ⟨u',h5,h6,Z7Y (ok.enc_plain _ _ c (QV hc))⟩
  .rename_i ak
   intro af
   obtain ⟨b,len,ab,s,h1,d,h3⟩:=hr af
   refine ⟨b,len,ab,s,?_,d,h3⟩
   simp only [Gh.settled]
   grind
 | .vw u n,hr=> by
  simp only [V.frz]
  split
  .trivial
  .rename_i ak
   intro af
   obtain ⟨b,len,ab,s,h1,d,h3⟩:=hr af
   refine ⟨b,len,ab,s,?_,d,h3⟩
   simp only [Gh.settled]
   grind
 | .fn _,hr=> hr
 | .clo _ _,hr=> hr
 | .ifp _ _,hr=> hr
 | .kv _,hr=> hr
 | .gd b y,hr=> ⟨fun hb=> ZHv ok h hd hL (hr.1 hb),hr.2⟩
 | .nb _ _,hr=> hr
 | .junk,_=> trivial
theorem ZAi(ok:CfgOk P cfg)(h:Rel cfg B st g a w)(t:Tok):∃ g',Rel cfg B (st.frz1 cfg t) g' a w:=by
 unfold FSt.frz1
 cases hx:st.ls t with
 | none=> grind
 | some x=>
  obtain ⟨hd,hL⟩:=h.ls t x hx
  have hm:=Z3U ok h hL
  refine ⟨g.settled w (Wr cfg g t x) t,⟨fun c v hv=> ?_,fun c t' ht=> ?_⟩,?_,fun k=> ?_,fun nm cs hn j c hc=> ?_,h.sz,h.df,fun u y hy=> ?_,fun u hu d h2=> ?_⟩
  .by_cases hc:Wr cfg g t x c
   .simp only [Gh.settled] at hv ⊢
    grind
   .simp only [Gh.settled] at hv ⊢
    rw [if_neg hc] at hv ⊢
    exact h.inv.im c v hv
  .simp only [Gh.settled] at ht
   split at ht
   .cases ht
   .exact h.inv.it c t' ht
  .refine h.fr.step h.inv (Evo.refl w (fun _=> False)) (fun c hc=> hc.elim) hm (fun c t'=> Z3k ok hL (by simp)) ?_ (fun _=> rfl)
   intro b _ ak o sp
   simp only [Gh.settled]
   split
   .rename_i hc
    obtain ⟨t',h3⟩:=ak _ _ _ (ZlY ok hL hc).1
    cases h3
   .try rfl
  .have hl:(fun nm=> ((st.mem nm).map fun cs=> cs.map (C.frz t x)).isSome)=fun nm=> (st.mem nm).isSome:=by funext nm;cases st.mem nm <;> rfl
   simp only [hl]
   exact ZHv ok h hd hL (h.env k)
  .simp only at hn
   cases hcs:st.mem nm with
   | none=> grind
   | some cs0=>
    rw [hcs] at hn
    simp only [Qi,Option.some.injEq] at hn
    subst hn
    rw [Qv] at hc
    cases hj:cs0[j]? with
    | none=> grind
    | some c0=>
     simp [hj] at hc
     subst hc
     obtain ⟨v,d,h2,h3⟩:=h.mem nm cs0 hcs j c0 hj
     exact ⟨v,d,(Z3k ok hL (by simp)).1 h2,Zwi ok h hd hL h3⟩
  .simp only at hy
   split at hy
   .cases hy
   .rename_i ab
    obtain ⟨d,h2⟩:=h.ls u y hy
    have hk:Keeps g (g.settled w (Wr cfg g t x) t) st.dead (fun u=> st.dead u || decide (u=t)) (fun _=> false) (fun _=> false):=by
     refine ⟨hm,fun c u hu ht=> ?_,fun u hu=> by grind,fun nm hn=> (by cases hn),fun u v hu hv=> ?_,fun _=> rfl⟩
     .simp only [QI,decide_eq_false_iff_not] at hu
      exact (Z3k ok hL (fun e=> by grind)).1 ht
     .simp only [QI,decide_eq_false_iff_not] at hu
      simp only [Gh.settled]
      grind
    exact ⟨d,h2.keep hk (by simp [d,ab]) (fun c v hv=> (h.inv.im c v hv).1) (fun _ _=> rfl)⟩
  .simp only at d
   simp only [Gh.settled]
   split
   .try rfl
   .rename_i ab
    rw [if_neg ab] at d
    exact h.fresh u hu d h2
end frz
theorem ZnP(ok:CfgOk P cfg):∀ (ts:List Tok) {st:FSt U} {g:Gh},Rel cfg B st g a w->∃ g',Rel cfg B (st.frz cfg ts) g' a w
 | [],st,g,h=> ⟨g,h⟩
 | t ::ts,st,g,h=> by
  obtain ⟨g1,d⟩:=ZAi ok h t
  exact ZnP ok ts d
theorem Zwh:∀ (ts:List Tok) (st:FSt U),(st.frz cfg ts).n=st.n
 | [],st=> rfl
 | t ::ts,st=> by
  show ((st.frz1 cfg t).frz cfg ts).n=st.n
  rw [Zwh ts]
  unfold FSt.frz1
  grind
theorem ZkI{α:Type}(st:FSt U)(k:FSt U->α)(ts:List Tok):Z60 cfg st k ts=k (Z60 cfg st id ts):=by cases ts <;> rfl
theorem Zbw{Γ:Known U}{ops:Array Oper}{fz:Bool}{o:Oper}{r:List Oper}:Zfv cfg Γ ops fz (o ::r) st=match Z5z cfg Γ ops o (st.pre cfg Γ fz o) with
  | none=> none
  | some (ps,e)=> match Zfv cfg Γ ops fz r ((st.pre cfg Γ fz o).app o.dst e) with
   | none=> none
   | some (qs,st')=> some (ps++qs,st'):=by
 show Z60 cfg st _ _=_
 rw [ZkI]
 try rfl
theorem ZCy{Γ:Known U}(ok:CfgOk P cfg)(h:Rel cfg B st g a w)(fz:Bool)(o:Oper):∃ g',Rel cfg B (st.pre cfg Γ fz o) g' a w:=by
 unfold FSt.pre
 generalize (bif fz then Zd2 Γ o st else [])=ts
 cases ts with
 | nil=> exact ⟨g,h⟩
 | cons t r=> exact ZnP ok _ h
theorem ZHc{Γ:Known U}(fz:Bool)(o:Oper):(st.pre cfg Γ fz o).n=st.n:=by
 unfold FSt.pre
 generalize (bif fz then Zd2 Γ o st else [])=ts
 cases ts with
 | nil=> rfl
 | cons t r=> exact Zwh _ st
theorem ZCz{Γ:Known U}(o:Oper):st.pre cfg Γ false o=st:=rfl
end Go.AM
namespace Go.AM
variable {U:Uni} {P:Program} {cfg:Cfg U} {B:Base} {st:FSt U} {g:Gh} {a:Act} {w:World}
theorem FSt.app_gd(st:FSt U){v:Value}{x:V U}{w':World}{g':Gh}(o:Out cfg B st g { val:=some x } v w' g'):Out cfg B st g { val:=some (.gd true x) } v w' g':=
 ⟨o.inv,o.fr,o.keep,o.mem,⟨fun _=> o.val,fun h=> by cases h⟩,o.ls,o.fresh⟩
theorem FSt.app_gdm(st:FSt U){v:Value}{x:V U}{m:List (Name × List (C U))}{w':World}{g':Gh}(o:Out cfg B st g { val:=some x,mem:=m } v w' g'):Out cfg B st g { val:=some (.gd true x),mem:=m } v w' g':=
 ⟨o.inv,o.fr,o.keep,o.mem,⟨fun _=> o.val,fun h=> by cases h⟩,o.ls,o.fresh⟩
theorem Zlx{v:V U}{b:Bool}(h:v.deX= .c (.bool b)):v= .c (.bool b):=by
 unfold V.deX at h
 grind
theorem ZnL{tyEq:DecidableEq U.Ty}{c c' x:C U}(h:Zl9 tyEq true c c'=some x):x=c':=by
 unfold Zl9 at h
 split at h
 .split at h
  .rename_i e;subst e;cases h;rfl
  .cases h
 .cases h;rfl
 .cases h;rfl
 .cases h;rfl
 .split at h
  .rename_i e;subst e;cases h;rfl
  .cases h
 .split at h
  .rename_i e _;subst e;cases h;rfl
  .cases h
 .split at h
  .rename_i e _;subst e;cases h;rfl
  .cases h
 .cases h
theorem Zl8{tyEq:DecidableEq U.Ty}{c c' x:C U}(h:Zl9 tyEq false c c'=some x):x=c:=by
 unfold Zl9 at h
 split at h
 .split at h
  .cases h;rfl
  .cases h
 .cases h;rfl
 .cases h;rfl
 .cases h;rfl
 .split at h
  .cases h;rfl
  .cases h
 .split at h
  .cases h;rfl
  .cases h
 .split at h
  .cases h;rfl
  .cases h
 .cases h
theorem Zf2{tyEq:DecidableEq U.Ty}:∀ {a b x:List (C U)},Zcs tyEq true a b=some x->x=b
 | [],[],x,h=> by simp only [Zcs,Option.some.injEq] at h;exact h.symm
 | c ::r,c' ::r',x,h=> by
  simp only [Zcs] at h
  split at h
  .rename_i y z d h2
   cases h
   rw [ZnL d,Zf2 h2]
  .cases h
theorem Zcr{tyEq:DecidableEq U.Ty}:∀ {a b x:List (C U)},Zcs tyEq false a b=some x->x=a
 | [],[],x,h=> by simp only [Zcs,Option.some.injEq] at h;exact h.symm
 | c ::r,c' ::r',x,h=> by
  simp only [Zcs] at h
  split at h
  .rename_i y z d h2
   cases h
   rw [Zl8 d,Zcr h2]
  .cases h
theorem Zf1{tyEq:DecidableEq U.Ty}{m0:Name->Option (List (C U))}:∀ {m m':List (Name × List (C U))},Z4e tyEq true m0 m=some m'->m'=m
 | [],m',h=> by simp only [Z4e,Option.some.injEq] at h;exact h.symm
 | (nm,cs) ::r,m',h=> by
  simp only [Z4e] at h
  split at h
  .cases h
  .split at h
   .rename_i y z d h2
    cases h
    rw [Zf2 d,Zf1 h2]
   .cases h
theorem Zcp{tyEq:DecidableEq U.Ty}{m0:Name->Option (List (C U))}:∀ {m m':List (Name × List (C U))},Z4e tyEq false m0 m=some m'->∀ nm,ZL m0 m' nm=m0 nm
 | [],m',h,nm=> by simp only [Z4e,Option.some.injEq] at h;subst h;rfl
 | (n0,cs) ::r,m',h,nm=> by
  simp only [Z4e] at h
  split at h
  .cases h
  .rename_i ae d
   split at h
   .rename_i y z h1 h2
    cases h
    simp only [ZL]
    split
    .rename_i e
     subst e
     rw [d,Zcr h1]
    .exact Zcp h2 nm
   .cases h
theorem Rel.pureM (h:Rel cfg B st g a w) {v:Value} {x:V U} {m:List (Name × List (C U))} (hm:∀ nm,ZL st.mem m nm=st.mem nm)
  (hv:RelV cfg g st.dead (fun nm=> (st.mem nm).isSome) v x):Out cfg B st g { val:=some x,mem:=m } v w g:=by
 have hd:Zn st ({ val:=some x,mem:=m }:Eff U)=st.dead:=by funext t;simp [Zn]
 have hl:Yc st ({ val:=some x,mem:=m }:Eff U)=fun nm=> (st.mem nm).isSome:=by funext nm;simp only [Yc,hm]
 refine ⟨h.inv,h.fr,?_,?_,?_,by rw [hd];exact fun t x hx=> h.ls t x hx,by rw [hd];exact fun t h0 h1 h2=> h.fresh t h0 h1 h2⟩
 .rw [hd,hl];exact .refl _ _ _
 .rw [hd]
  intro nm cs d
  rw [hm] at d
  exact h.mem nm cs d
 grind
theorem All.map_imp{G:Bool}:∀ {ps:List Prop},All (ps.map fun p=> (G=true->p))->G=true->All ps
 | [],_,_=> trivial
 | _ ::_,h,hG=> ⟨h.1 hG,All.map_imp h.2 hG⟩
theorem Z1N{G:Option Bool}{c:Prop}{v:V U}{b:Bool}{u:V U}(h:All (Zcu G c v))(hv:v= .gd b u)(hG:∀ b,G=some b->b=true)(hc:c):b=true:=by
 subst hv
 cases G with
 | none=> exact h.1 hc
 | some b'=> exact h.1 (hG b' rfl) hc
theorem ZfV(h:Rel cfg B st g a w){ops:Array Oper}{o:Oper}{G:Option Bool}(hG:Z57 ops st o=some G):
  match G with
  | none=> Region.wanted o (yielded ops a.tmps)=true
  | some b=> Region.wanted o (yielded ops a.tmps)=b:=by
 unfold Z57 at hG
 split at hG
 .rename_i hg
  cases hG
  simp [Region.wanted,hg]
 .rename_i j ah hg
  split at hG
  .rename_i t ht
   have ai:∀ b0:Bool,a.tmps.getD t undef= .bool b0->Region.wanted o (yielded ops a.tmps)=(if ah then b0 else !b0):=by
    intro b0 e1
    have ab:t < a.tmps.size:=by
     rcases Xw t a.tmps.size with h1 | h1
     .exact h1
     .simp [Array.getD,Nat.not_lt.2 h1,undef] at e1
    have e2:a.tmps[t]?=some (.bool b0):=by
     rw [QC ab]
     simpa [Array.getD,ab] using e1
    have hy:yielded ops a.tmps j=some b0:=by simp [yielded,ht,e2]
    simp only [Region.wanted,hg,hy]
    grind
   split at hG
   .rename_i b0 d
    cases hG
    have hr:=h.env t
    rw [d] at hr
    exact ai b0 (SimC.bool_eq (h:=hr.1))
   .rename_i g0 b0 d
    cases hG
    have hr:=h.env t
    rw [d] at hr
    cases g0 with
    | true=>
     show Region.wanted o (yielded ops a.tmps)=(true && _)
     rw [Bool.true_and]
     exact ai b0 (SimC.bool_eq (h:=(hr.1 rfl).1))
    | false=>
     have e1:=hr.2 rfl
     have hy:yielded ops a.tmps j=none:=by
      simp only [yielded,ht,Qo]
      cases e2:a.tmps[t]? with
      | none=> rfl
      | some v=>
       have:a.tmps.getD t undef=v:=by
        obtain ⟨h1,h2⟩:=QE.1 e2
        simp [Array.getD,h1,h2]
       rw [this] at e1
       subst e1
       try rfl
     show Region.wanted o (yielded ops a.tmps)=(false && _)
     simp only [Region.wanted,hg,hy,Bool.false_and]
     try rfl
   .cases hG
  .cases hG
theorem ZcB {Γ:Known U} (ok:CfgOk P cfg) (hΓ:∀ f s,Γ f=some s->Contract P cfg f s) (h:Rel cfg B st g a w) {ops:Array Oper} {o:Oper} {ps:List Prop} {e:Eff U}
  (he:Z5z cfg Γ ops o st=some (ps,e)) (hps:All ps) {K:Act->World->Prop} {Q:Exit->Act->World->Prop}
  (hK:∀ g' a' w',Rel cfg B (st.app o.dst e) g' a' w'->K a' w'):
  if Region.wanted o (yielded ops a.tmps) then o.wp P a w K Q else K (a.put o.dst undef) w:=by
 unfold Z5z at he
 split at he
 case isFalse=> cases he
 rename_i hd
 unfold ZBZ at hd
 have ar:∀ k,o.dst=some k->k < st.n:=by
  intro k hk
  rw [hk] at hd
  exact Nat.blt_eq.mp hd
 have aq:∀ {e:Eff U},(∀ g' a' w',Rel cfg B (st.app o.dst e) g' a' w'->K a' w')->(Does P o a w fun v w'=> ∃ g',Out cfg B st g e v w' g')->o.wp P a w K Q:=by
  intro e hK hD
  refine Oper.wp_mono ?_ (Does.wp (Q:=Q) hD)
  rintro a' w' ⟨v,rfl,g',hO⟩
  exact hK g' _ _ (h.app hO ar)
 have a6:∀ {v:V U} {m:List (Name × List (C U))},(∀ nm,ZL st.mem m nm=st.mem nm)->(∀ g' a' w',Rel cfg B (st.app o.dst { val:=some (.gd false v),mem:=m }) g' a' w'->K a' w')->Region.wanted o (yielded ops a.tmps)=false->
   if Region.wanted o (yielded ops a.tmps) then o.wp P a w K Q else K (a.put o.dst undef) w:=by
  intro v m hm hK hw
  rw [if_neg (by rw [hw];simp)]
  have hO:Out cfg B st g { val:=some (.gd false v),mem:=m } undef w g:=h.pureM hm ⟨fun hb=> (by cases hb),fun _=> rfl⟩
  exact hK g _ _ (h.app hO ar)
 have am:∀ {v:V U},(∀ g' a' w',Rel cfg B (st.app o.dst { val:=some (.gd false v) }) g' a' w'->K a' w')->Region.wanted o (yielded ops a.tmps)=false->
   if Region.wanted o (yielded ops a.tmps) then o.wp P a w K Q else K (a.put o.dst undef) w:=by
  intro v hK hw
  rw [if_neg (by rw [hw];simp)]
  have hO:Out cfg B st g { val:=some (.gd false v) } undef w g:=h.pure ⟨fun hb=> (by cases hb),fun _=> rfl⟩
  exact hK g _ _ (h.app hO ar)
 split at he
 .rename_i c x y a1
  split at he
  .rename_i G c0 x0 y0 hG hc hx hy
   have d:=ZfV h hG
   have get:∀ {z:Operand} {v:V U} {b:Bool},st.opnd z=some v->v.strip= .c (.bool b)->(∀ b' u,v= .gd b' u->b'=true)->a.eval z= .bool b:=by
    intro z v b hz hs hg
    have hr:RelV cfg g st.dead (fun nm=> (st.mem nm).isSome) (a.eval z) v:=by
     cases z with
     | tmp t=> simp only [FSt.opnd,Option.some.injEq] at hz;subst hz;exact h.env t
     | const c=> exact Z22 hz
     | func f=> simp only [FSt.opnd,Option.some.injEq] at hz;subst hz;rfl
     | global g=> trivial
    cases v with
    | gd b' u=>
     have hs:=Zlx (v:=u) hs
     subst hs
     exact SimC.bool_eq (hr.1 (hg _ _ rfl)).1
    | c u=> have hs:=Zlx (v:= .c u) hs;cases hs;exact SimC.bool_eq hr.1
    | _=> trivial
   have one:∀ {b:Bool},(∀ g' a' w',Rel cfg B (st.app o.dst { val:=some (gV G (.c (.bool b))) }) g' a' w'->K a' w')->((∀ q,G=some q->q=true)->Does P o a w fun v w'=> ∃ g',Out cfg B st g { val:=some (.c (.bool b)) } v w' g')->
     if Region.wanted o (yielded ops a.tmps) then o.wp P a w K Q else K (a.put o.dst undef) w:=by
    intro b hK a2
    cases G with
    | none=>
     rw [if_pos d]
     exact aq hK (a2 (fun _ hh=> by cases hh))
    | some Gb=>
     cases Gb with
     | true=>
      rw [if_pos d]
      refine aq (e:={ val:=some (.gd true (.c (.bool b))) }) hK ?_
      have:=a2 (fun _ hh=> by cases hh;rfl)
      rcases this with ⟨u,w',h1,g',h2⟩ | ⟨w',h1,g',h2⟩ | ⟨f,args,w',h1,h2⟩
      .exact .inl ⟨u,w',h1,g',FSt.app_gd st h2⟩
      .exact .inr (.inl ⟨w',h1,g',FSt.app_gd st h2⟩)
      .exact .inr (.inr ⟨f,args,w',h1,Calls.mono h2 fun e be ⟨u,he,g',h3⟩=> ⟨u,he,g',FSt.app_gd st h3⟩⟩)
     | false=> exact am hK d
   split at he
   .rename_i cv av bv ax a8 ba
    simp only [oP] at he
    obtain ⟨rfl,rfl⟩:=he
    obtain ⟨au,bg⟩:=All.append hps
    obtain ⟨af,aj⟩:=All.append bg
    refine one hK fun ai=> ?_
    have ec:=get hc ax (fun b' u hh=> Z1N au hh ai trivial)
    refine YH (v:= .bool (bif cv then av else bv)) h ?_ ⟨.bool _,trivial⟩
    cases cv with
    | true=>
     have ex:=get hx a8 (fun b' u hh=> Z1N af hh ai rfl)
     simp [execOp,a1,ec,asBool,ex]
    | false=>
     have ey:=get hy ba (fun b' u hh=> Z1N aj hh ai rfl)
     simp [execOp,a1,ec,asBool,ey]
   .rename_i av ax a8 bi
    simp only [oP] at he
    obtain ⟨rfl,rfl⟩:=he
    obtain ⟨au,af⟩:=All.append hps
    refine one hK fun ai=> ?_
    have ec:=get hc ax (fun b' u hh=> Z1N au hh ai trivial)
    have ex:=get hx a8 (fun b' u hh=> Z1N af hh ai trivial)
    exact YH (v:= .bool av) h (by simp [execOp,a1,ec,asBool,ex]) ⟨.bool _,trivial⟩
   .rename_i bv ax ba bi
    simp only [oP] at he
    obtain ⟨rfl,rfl⟩:=he
    obtain ⟨au,af⟩:=All.append hps
    refine one hK fun ai=> ?_
    have ec:=get hc ax (fun b' u hh=> Z1N au hh ai trivial)
    have ey:=get hy ba (fun b' u hh=> Z1N af hh ai trivial)
    exact YH (v:= .bool bv) h (by simp [execOp,a1,ec,asBool,ey]) ⟨.bool _,trivial⟩
   .cases he
  .cases he
 .split at he
  .cases he
  rename_i G hG
  have d:=ZfV h hG
  split at he
  .split at he
   .simp only [oP] at he
    obtain ⟨rfl,rfl⟩:=he
    exact am hK d
   .cases he
  rename_i bz e' ao
  split at he
  .simp only [oP] at he
   obtain ⟨rfl,rfl⟩:=he
   obtain ⟨af,aj⟩:=All.append hps
   rw [if_pos d]
   exact aq hK (Z7b ok hΓ h (fun x hx v hv=> Z9g h none af (fun b hb=> by cases hb) x hx v hv) ao aj)
  .rename_i Gb
   split at he
   .rename_i v
    simp only [oP] at he
    obtain ⟨rfl,rfl⟩:=he
    obtain ⟨af,aj⟩:=All.append hps
    cases Gb with
    | true=>
     rw [if_pos d]
     exact aq (e:={ val:=some (.gd true v) }) hK (by
      have:=Z7b ok hΓ h (fun x hx v hv=> Z9g h (some true) af (fun b hb=> by cases hb;rfl) x hx v hv) ao (All.map_imp aj rfl)
      rcases this with ⟨u,w',h1,g',h2⟩ | ⟨w',h1,g',h2⟩ | ⟨f,args,w',h1,h2⟩
      .exact .inl ⟨u,w',h1,g',FSt.app_gd st h2⟩
      .exact .inr (.inl ⟨w',h1,g',FSt.app_gd st h2⟩)
      .exact .inr (.inr ⟨f,args,w',h1,Calls.mono h2 fun e be ⟨u,he,g',h3⟩=> ⟨u,he,g',FSt.app_gd st h3⟩⟩))
    | false=> exact am hK d
   .rename_i v m bi
    split at he
    .rename_i m' br hj
     simp only [oP] at he
     obtain ⟨rfl,rfl⟩:=he
     obtain ⟨af,aj⟩:=All.append hps
     cases Gb with
     | true=>
      rw [if_pos d]
      have em:=Zf1 hj
      subst em
      exact aq (e:={ val:=some (.gd true v),mem:=m' }) hK (by
       have:=Z7b ok hΓ h (fun x hx v hv=> Z9g h (some true) af (fun b hb=> by cases hb;rfl) x hx v hv) ao (All.map_imp aj rfl)
       rcases this with ⟨u,w',h1,g',h2⟩ | ⟨w',h1,g',h2⟩ | ⟨f,args,w',h1,h2⟩
       .exact .inl ⟨u,w',h1,g',FSt.app_gdm st h2⟩
       .exact .inr (.inl ⟨w',h1,g',FSt.app_gdm st h2⟩)
       .exact .inr (.inr ⟨f,args,w',h1,Calls.mono h2 fun e be ⟨u,he,g',h3⟩=> ⟨u,he,g',FSt.app_gdm st h3⟩⟩))
     | false=> exact a6 (Zcp hj) hK d
    .cases he
   .cases Gb with
    | true=>
     simp only [oP] at he
     obtain ⟨rfl,rfl⟩:=he
     obtain ⟨af,aj⟩:=All.append hps
     rw [if_pos d]
     exact aq hK (Z7b ok hΓ h (fun x hx v hv=> Z9g h (some true) af (fun b hb=> by cases hb;rfl) x hx v hv) ao aj)
    | false=>
     simp only [oP] at he
     obtain ⟨rfl,rfl⟩:=he
     exact am hK d
theorem Zfu{Γ:Known U}(ok:CfgOk P cfg)(hΓ:∀ f s,Γ f=some s->Contract P cfg f s){ops:Array Oper}{fz:Bool}{Q:Exit->Act->World->Prop}:∀ (l:List Oper) (st st':FSt U) (g:Gh) (a:Act) (w:World) (ps:List Prop),
  Rel cfg B st g a w->Zfv cfg Γ ops fz l st=some (ps,st')->All ps->(∀ g' d w',Rel cfg B st' g' d w'->Q .normal d w')->wpList P ops Q l a w
 | [],st,st',g,a,w,ps,h,he,hps,hQ=> by
  simp only [Zfv,oP] at he
  obtain ⟨rfl,rfl⟩:=he
  exact hQ g a w h
 | o ::l,st,st',g,a,w,ps,h,he,hps,hQ=> by
  rw [Zbw] at he
  split at he
  .cases he
  .rename_i ao e1 h1
   split at he
   .cases he
   .rename_i qs am h2
    simp only [oP] at he
    obtain ⟨rfl,rfl⟩:=he
    obtain ⟨ab,ae⟩:=All.append hps
    obtain ⟨g0,h0⟩:=ZCy ok h fz o
    refine wpList_step fun K hK=> ZcB ok hΓ h0 h1 ab fun g' d w' h'=> hK d w' ?_
    exact Zfu ok hΓ l _ _ g' d w' qs h' h2 ae hQ
def V.shut(nm:Name)(T:U.Ty)(x:U.El T):V U->V U
 | .ptr n off=> if n=nm then (if off=0 then .c (.po T (some x)) else .junk) else .ptr n off
 | .ap n off k len i=> if n=nm then .junk else .ap n off k len i
 | .clo f nms=> if nm∈nms then .junk else .clo f nms
 | .ifp t n=> if n=nm then .junk else .ifp t n
 | .gd b v=> .gd b (v.shut nm T x)
 | v=> v
def FSt.shut1(cfg:Cfg U)(st:FSt U)(nm:Name)(T:U.Ty):FSt U:=
 match st.mem nm with
 | none=> st
 | some cs=> match cfg.dec T cs with
  | none=> st
  | some x=> { st with env:=fun k=> (st.env k).shut nm T x,mem:=fun n=> if n=nm then none else st.mem n }
def FSt.shutK(cfg:Cfg U)(st:FSt U)(k:Nat)(T:U.Ty):FSt U:=
 match st.env k with
 | .ptr (.loc s) 0=> st.shut1 cfg (.loc s) T
 | _=> st
def FSt.shuts(cfg:Cfg U)(st:FSt U):List (Nat × U.Ty)->FSt U
 | []=> st
 | x ::r=> (st.shutK cfg x.1 x.2).shuts cfg r
def Z2S{α:Type}(cfg:Cfg U)(st:FSt U)(k:FSt U->α):List (Nat × U.Ty)->α
 | []=> k st
 | x ::r=> k (st.shuts cfg (x ::r))
def Ob(g:Gh)(nm:Name)(n:Nat)(c:Addr):Prop:=∃ j,j < n/\c=(g.ad nm).add j
open Classical in
noncomputable def Gh.shutG(g:Gh)(w:World)(R:Addr->Prop):Gh:=
 {m:=fun c=> if R c then w.cell? c else g.m c
  tag:=fun c=> if R c then none else g.tag c
  ad:=g.ad
  bs:=g.bs }
section shut
variable {nm:Name} {cs:List (C U)}
theorem ZmY(h:Rel cfg B st g a w)(hcs:st.mem nm=some cs){c:Addr}(hc:Ob g nm cs.length c):g.tag c=some (.obj nm)/\∃ v,w.cell? c=some v:=by
 obtain ⟨j,d,rfl⟩:=hc
 obtain ⟨v,h1,h2,_⟩:=h.mem nm cs hcs j _ (Q0 d)
 grind
theorem ZhS(h:Rel cfg B st g a w)(hcs:st.mem nm=some cs):∀ c v,g.m c=some v->(g.shutG w (Ob g nm cs.length)).m c=some v:=by
 intro c v d
 simp only [Gh.shutG]
 rw [if_neg]
 .exact d
 .intro hc
  have:=(ZmY h hcs hc).1
  rw [(h.inv.im c v d).2] at this
  cases this
theorem Ze3(h:Rel cfg B st g a w)(hcs:st.mem nm=some cs){c:Addr}{t:Tag}(hne:t≠.obj nm):g.tag c=some t↔(g.shutG w (Ob g nm cs.length)).tag c=some t:=by
 simp only [Gh.shutG]
 split
 .rename_i hc
  rw [(ZmY h hcs hc).1]
  grind
 grind
theorem Z1C(h:Rel cfg B st g a w)(hcs:st.mem nm=some cs):Keeps g (g.shutG w (Ob g nm cs.length)) st.dead st.dead (fun _=> false) (fun _=> false):=
 ⟨ZhS h hcs,fun _ _ _ ht=> (Ze3 h hcs (by simp)).1 ht,fun _ hu=> hu,fun _ hn=> (by cases hn),fun _ _ _ d=> d,fun _=> rfl⟩
theorem ZBf(ok:CfgOk P cfg)(h:Rel cfg B st g a w)(hcs:st.mem nm=some cs){T:U.Ty}{x:U.El T}(hx:cfg.dec T cs=some x){v:Value}:∀ {y:V U},RelV cfg g st.dead (fun n=> (st.mem n).isSome) v y->
  RelV cfg (g.shutG w (Ob g nm cs.length)) st.dead (fun n=> (if n=nm then none else st.mem n).isSome) v (y.shut nm T x)
 | .c y,hr=> RelC.keep (Z1C h hcs) (c:=y) hr
 | .agg cs,hr=> by obtain ⟨vs,h1,h2⟩:=hr;exact ⟨vs,h1,h2.keep (Z1C h hcs)⟩
 | .tup ws,hr=> by obtain ⟨vs,h1,h2,h3⟩:=hr;exact ⟨vs,h1,h2,fun j u w hu hw=> (h3 j u w hu hw).keep (Z1C h hcs)⟩
 | .ptr n off,hr=> by
  obtain ⟨h1,h2⟩:=hr
  simp only [V.shut]
  split
  .rename_i e
   subst e
   split
   .rename_i e
    subst e
    obtain ⟨d1,d2⟩:=ok.dec_ok T cs x hx
    have e0:(g.ad n).add 0=g.ad n:=by simp [Addr.add]
    rw [h2,e0]
    have af:∀ j c,(cfg.enc T x)[j]?=some c->∃ u,w.cell? ((g.ad n).add j)=some u/\SimC cfg (g.shutG w (Ob g n cs.length)).m u c/\(g.shutG w (Ob g n cs.length)).m ((g.ad n).add j)=some u:=by
     intro j c hc
     have hj:j < cs.length:=by rw [d1];exact (Q4.1 hc).1
     obtain ⟨u,k1,k2,k3⟩:=h.mem n cs hcs j _ (Q0 hj)
     refine ⟨u,k1,(k3.1.mono (ZhS h hcs)).wk (d2 j _ _ (Q0 hj) hc),?_⟩
     simp only [Gh.shutG]
     rw [if_pos ⟨j,hj,rfl⟩]
     exact k1
    refine ⟨.po T x _ (fun j=> (w.cell? ((g.ad n).add j)).getD undef) (fun j c hc=> ?_) (fun j c hc=> ?_),trivial⟩
    .obtain ⟨u,k1,_,k3⟩:=af j c hc
     rw [k1];exact k3
    .obtain ⟨u,k1,k2,_⟩:=af j c hc
     rw [k1];exact k2
   .exact trivial
  .rename_i d
   exact ⟨by show ((if n=nm then none else st.mem n).isSome || n.isX)=true;rw [if_neg d];exact h1,h2⟩
 | .ap n off k len i,hr=> by
  simp only [V.shut]
  split
  .exact trivial
  .rename_i d
   exact ⟨by show ((if n=nm then none else st.mem n).isSome || n.isX)=true;rw [if_neg d];exact hr.1,hr.2⟩
 | .ep cs,hr=> by
  obtain ⟨b,h1,h2⟩:=hr
  exact ⟨b,h1,fun j c hc=> let ⟨u,hu,hc⟩:=h2 j c hc;⟨u,ZhS h hcs _ _ hu,hc.keep (Z1C h hcs)⟩⟩
 | .mp t n off,hr=> hr
 | .vw t n,hr=> hr
 | .fn _,hr=> hr
 | .clo f nms,hr=> by
  simp only [V.shut]
  split
  .exact trivial
  .rename_i d
   refine ⟨fun n hn=> ?_,hr.2⟩
   show ((if n=nm then none else st.mem n).isSome || n.isX)=true
   rw [if_neg (fun e=> d (by rw [<-e];exact hn))]
   exact hr.1 n hn
 | .ifp t n,hr=> by
  simp only [V.shut]
  split
  .exact trivial
  .rename_i d
   exact ⟨by show ((if n=nm then none else st.mem n).isSome || n.isX)=true;rw [if_neg d];exact hr.1,hr.2⟩
 | .kv _,hr=> hr
 | .gd b y,hr=> ⟨fun hb=> ZBf ok h hcs hx (hr.1 hb),hr.2⟩
 | .nb _ _,hr=> hr
 | .junk,_=> trivial
theorem Ztj(ok:CfgOk P cfg)(h:Rel cfg B st g a w)(nm:Name)(T:U.Ty):∃ g',Rel cfg B (st.shut1 cfg nm T) g' a w:=by
 unfold FSt.shut1
 cases hcs:st.mem nm with
 | none=> grind
 | some cs=>
  simp only
  cases hx:cfg.dec T cs with
  | none=> grind
  | some x=>
   have hm:=ZhS h hcs
   refine ⟨g.shutG w (Ob g nm cs.length),⟨fun c v d=> ?_,fun c t' ht=> ?_⟩,?_,fun k=> ZBf ok h hcs hx (h.env k),fun n ds hn j c hc=> ?_,h.sz,h.df,fun u y hy=> ?_,fun u hu h1 h2=> h.fresh u hu h1 h2⟩
   .by_cases hc:Ob g nm cs.length c
    .simp only [Gh.shutG] at d ⊢
     grind
    .simp only [Gh.shutG] at d ⊢
     rw [if_neg hc] at d ⊢
     exact h.inv.im c v d
   .simp only [Gh.shutG] at ht
    split at ht
    .cases ht
    .exact h.inv.it c t' ht
   .refine h.fr.step h.inv (Evo.refl w (fun _=> False)) (fun c hc=> hc.elim) hm (fun c t'=> Ze3 h hcs (by simp)) ?_ (fun _=> rfl)
    intro b _ ae o sp
    simp only [Gh.shutG]
    split
    .rename_i hc
     obtain ⟨t',h3⟩:=ae _ _ _ (ZmY h hcs hc).1
     cases h3
    .try rfl
   .simp only at hn
    split at hn
    .cases hn
    .rename_i am
     obtain ⟨v,h1,h2,h3⟩:=h.mem n ds hn j c hc
     exact ⟨v,h1,(Ze3 h hcs (by grind)).1 h2,h3.keep (Z1C h hcs)⟩
   .obtain ⟨h1,h2⟩:=h.ls u y hy
    exact ⟨h1,h2.keep (Z1C h hcs) h1 (fun c v d=> (h.inv.im c v d).1) (fun _ _=> rfl)⟩
end shut
theorem ZyF(nm:Name)(T:U.Ty):(st.shut1 cfg nm T).n=st.n:=by
 unfold FSt.shut1
 grind
theorem ZjN(ok:CfgOk P cfg):∀ (l:List (Nat × U.Ty)) {st:FSt U} {g:Gh},Rel cfg B st g a w->∃ g',Rel cfg B (st.shuts cfg l) g' a w
 | [],st,g,h=> ⟨g,h⟩
 | x ::r,st,g,h=> by
  have:∃ d,Rel cfg B (st.shutK cfg x.1 x.2) d a w:=by
   unfold FSt.shutK
   split
   .exact Ztj ok h _ _
   .grind
  obtain ⟨d,h1⟩:=this
  exact ZjN ok r h1
theorem ZoC:∀ (l:List (Nat × U.Ty)) (st:FSt U),(st.shuts cfg l).n=st.n
 | [],st=> rfl
 | x ::r,st=> by
  show ((st.shutK cfg x.1 x.2).shuts cfg r).n=st.n
  rw [ZoC r]
  unfold FSt.shutK
  split
  .exact ZyF _ _
  .try rfl
theorem Z6H{α:Type}(st:FSt U)(k:FSt U->α)(l:List (Nat × U.Ty)):Z2S cfg st k l=k (Z2S cfg st id l):=by cases l <;> rfl
theorem Zrs(ok:CfgOk P cfg)(h:Rel cfg B st g a w)(l:List (Nat × U.Ty)):∃ g',Rel cfg B (Z2S cfg st id l) g' a w:=by
 cases l with
 | nil=> exact ⟨g,h⟩
 | cons x r=> exact ZjN ok (x ::r) h
theorem ZuG(l:List (Nat × U.Ty)):(Z2S cfg st id l).n=st.n:=by
 cases l with
 | nil=> rfl
 | cons x r=> exact ZoC (x ::r) st
end Go.AM
namespace Go.AM
variable {U:Uni} {P:Program} {cfg:Cfg U} {B:Base} {st:FSt U} {g:Gh} {a:Act} {w:World}
structure LSt (U:Uni) where
 env:List (Nat × V U)
 mem:List (Name × List (C U))
 ls:List (Tok × LC U)
def ZfK:List (Nat × V U)->Nat->V U
 | [],_=> .junk
 | (a,v) ::r,k=> bif Nat.beq a k then v else ZfK r k
def Z4b:List (Name × List (C U))->Name->Option (List (C U))
 | [],_=> none
 | (a,cs) ::r,nm=> if a=nm then some cs else Z4b r nm
def LSt.toF(s:LSt U)(n:Nat):FSt U:={ n:=n,env:=ZfK s.env,mem:=Z4b s.mem,dead:=ZF,ls:=Zt (fun _=> none) s.ls,mu:=false,vw:=false }
def ZHt(t:Nat)(o:Oper):Bool:=
 match o.op,o.dst with
 | .call c,some d=> match c.callee with
  | .builtin .append=> Nat.beq d t
  | _=> false
 | _,_=> false
def ZBU(ops:List Oper)(o:Oper):Bool:=
 match o.op with
 | .indexAddr _ (.tmp t) _=> ops.any (ZHt t)
 | _=> false
def ZHs(o:Oper):Bool:=
 match o.op with
 | .call c=> match c.callee with
  | .builtin .clear=> true
  | .builtin .copy=> true
  | _=> false
 | _=> false
def ZAf(t:Nat)(o:Oper):Bool:=
 match o.op,o.dst with
 | .slice _ _ none (some _) none,some d=> Nat.beq d t
 | _,_=> false
def ZHr(ops:List Oper)(o:Oper):Bool:=
 match o.op with
 | .store _ _ (.tmp t)=> ops.any (ZAf t)
 | _=> false
def LSt.toR(s:LSt U)(n:Nat)(mk:Bool)(ops:Array Oper):FSt U:={ n:=n,env:=ZfK s.env,mem:=Z4b s.mem,dead:=ZF,ls:=Zt (fun _=> none) s.ls,mu:=mk || ops.toList.any (ZBU ops.toList),vw:=ops.toList.any ZHs || ops.toList.any (ZHr ops.toList) }
theorem Zoz{s:LSt U}{n:Nat}{mk:Bool}{ops:Array Oper}(h:Rel cfg B (s.toF n) g a w):Rel cfg B (s.toR n mk ops) g a w:=
 ⟨h.inv,h.fr,h.env,h.mem,h.sz,h.df,h.ls,h.fresh⟩
inductive Sk (U:Uni) where
 | any | own (T:U.Ty) | unk (T:U.Ty) | wr (T:U.Ty) | pt (T:U.Ty)
def sk0:List (Sk U)->Sk U
 | []=> .any
 | k ::_=> k
def Z7v(mine:Tok->Bool)(nm:Tok)(k:Sk U)(c:C U)(seen:List (Tok × Tok)):C U × List (Tok × Tok):=
 match k,c with
 | .own T,.nils=> (.slice T [] (.own nm),seen)
 | .own _,.slice T l .full=> (.slice T l (.own nm),seen)
 | .unk T,.nils=> (.slice T [] .unk,seen)
 | .unk _,.slice T l _=> (.slice T l .unk,seen)
 | .pt T,.nilp=> (.po T none,seen)
 | _,.xp k=> (.xp k,seen)
 | _,c=> Z0C mine nm c seen
def Z1v(mine:Tok->Bool)(nm:Nat->Tok):Nat->List (Sk U)->List (C U)->List (Tok × Tok)->List (C U) × List (Tok × Tok)
 | _,_,[],seen=> ([],seen)
 | j,ks,c ::r,seen=> ((Z7v mine (nm j) (sk0 ks) c seen).1 ::(Z1v mine nm (j+1) ks.tail r (Z7v mine (nm j) (sk0 ks) c seen).2).1,(Z1v mine nm (j+1) ks.tail r (Z7v mine (nm j) (sk0 ks) c seen).2).2)
def Z7u(mine:Tok->Bool)(nm:Nat->Tok)(keep:Name->Bool)(ks:List (Sk U))(v:V U)(seen:List (Tok × Tok)):V U × List (Tok × Tok):=
 match v with
 | .c x=> (.c (Z7v mine (nm 0) (sk0 ks) x seen).1,(Z7v mine (nm 0) (sk0 ks) x seen).2)
 | .agg cs=> (.agg (Z1v mine nm 0 ks cs seen).1,(Z1v mine nm 0 ks cs seen).2)
 | .ptr nm off=> (bif keep nm then .ptr nm off else .junk,seen)
 | .ep cs=> (.ep (J8 (fun _=> false) nm 0 cs seen).1,(J8 (fun _=> false) nm 0 cs seen).2)
 | .fn f=> (.fn f,seen)
 | .clo f nms=> (bif nms.all keep then .clo f nms else .junk,seen)
 | .ifp t nm=> (bif keep nm then .ifp t nm else .junk,seen)
 | .kv v=> (.kv v,seen)
 | .nb p q=> (.nb p q,seen)
 | _=> (.junk,seen)
def Z1k(st:FSt U)(keep:Name->Bool):List (Nat × List (Sk U))->List (Tok × Tok)->List (Nat × V U) × List (Tok × Tok)
 | [],seen=> ([],seen)
 | (k,ks) ::r,seen=> ((k,(Z7u (fun t=> !st.dead t) (.e k) keep ks (st.env k) seen).1) ::(Z1k st keep r (Z7u (fun t=> !st.dead t) (.e k) keep ks (st.env k) seen).2).1,
   (Z1k st keep r (Z7u (fun t=> !st.dead t) (.e k) keep ks (st.env k) seen).2).2)
def Zg2:Name->Nat->Tok
 | .loc s,j=> .l s j
 | .x k,j=> .x k j
def Z09(st:FSt U):List (Name × List (Sk U))->List (Tok × Tok)->List (Name × List (C U)) × List (Tok × Tok)
 | [],seen=> ([],seen)
 | (nm,ks) ::r,seen=> match st.mem nm with
  | some cs=> ((nm,(Z1v (fun t=> !st.dead t) (Zg2 nm) 0 ks cs seen).1) ::(Z09 st r (Z1v (fun t=> !st.dead t) (Zg2 nm) 0 ks cs seen).2).1,(Z09 st r (Z1v (fun t=> !st.dead t) (Zg2 nm) 0 ks cs seen).2).2)
  | none=> Z09 st r seen
def Z0K(l:List (Name × List (Sk U)))(nm:Name):Bool:=
 match l with
 | []=> false
 | (a,_) ::r=> if a=nm then true else Z0K r nm
def Zqu(nm:Nat->Tok):Nat->List (Sk U)->List Tok
 | _,[]=> []
 | j,.wr _ ::r=> nm j ::Zqu nm (j+1) r
 | j,_ ::r=> Zqu nm (j+1) r
def Zqt(lv:List (Nat × List (Sk U)))(lm:List (Name × List (Sk U))):List Tok:=
 (lv.flatMap fun x=> Zqu (.e x.1) 0 x.2)++lm.flatMap fun x=> Zqu (Zg2 x.1) 0 x.2
def norm(lv:List (Nat × List (Sk U)))(lm:List (Name × List (Sk U)))(st:FSt U):LSt U:=
 {env:=(Z1k st (fun nm=> Z0K lm nm && (st.mem nm).isSome) lv []).1
  mem:=(Z09 st lm (Z1k st (fun nm=> Z0K lm nm && (st.mem nm).isSome) lv []).2).1
  ls:=match Zqt lv lm with
   | []=> []
   | c=> J9 st.ls (Z09 st lm (Z1k st (fun nm=> Z0K lm nm && (st.mem nm).isSome) lv []).2).2 c }
def ZuM(k:Sk U)(c:C U):List Tok:=
 match k,c with
 | .wr _,_=> []
 | _,.mref t=> [t]
 | _,_=> []
def ZuN:List (Sk U)->List (C U)->List Tok
 | _,[]=> []
 | ks,c ::r=> ZuM (sk0 ks) c++ZuN ks.tail r
def ZHg(ks:List (Sk U)):V U->List Tok
 | .c x=> ZuM (sk0 ks) x
 | .agg cs=> ZuN ks cs
 | _=> []
def Z24(lv:List (Nat × List (Sk U)))(lm:List (Name × List (Sk U)))(st:FSt U):List Tok:=
 (lv.flatMap fun x=> ZHg x.2 (st.env x.1))++lm.flatMap fun x=> match st.mem x.1 with
  | some cs=> ZuN x.2 cs
  | none=> []
def FSt.prom1(st:FSt U)(k:Nat)(T:U.Ty):FSt U:=
 match st.env k with
 | .c .nils=> if (st.ls (.z (3*k) 0)).isNone && !st.dead (.z (3*k) 0) then
   {st with env:=fun i=> bif Nat.beq i k then .c (.mref (.z (3*k) 0)) else st.env i,ls:=fun t=> if t= .z (3*k) 0 then some ⟨T,[],0⟩ else st.ls t }
  else st
 | _=> st
def Zc7:Name->Nat
 | .loc s=> 3*s+1
 | .x k=> 3*k+2
def FSt.promM(st:FSt U)(nm:Name)(j:Nat)(T:U.Ty):FSt U:=
 match st.mem nm with
 | some cs=> match cs[j]? with
  | some .nils=> if (st.ls (.z (Zc7 nm) j)).isNone && !st.dead (.z (Zc7 nm) j) then
    {st with mem:=fun n=> if n=nm then some (cs.set j (.mref (.z (Zc7 nm) j))) else st.mem n,ls:=fun t=> if t= .z (Zc7 nm) j then some ⟨T,[],0⟩ else st.ls t }
   else st
  | _=> st
 | none=> st
def FSt.prom(st:FSt U):List ((Nat ⊕ (Name × Nat)) × U.Ty)->FSt U
 | []=> st
 | (.inl k,T) ::r=> (st.prom1 k T).prom r
 | (.inr x,T) ::r=> (st.promM x.1 x.2 T).prom r
def ZCh(nm:Name):Nat->List (Sk U)->List ((Nat ⊕ (Name × Nat)) × U.Ty)
 | _,[]=> []
 | j,.wr T ::r=> (.inr (nm,j),T) ::ZCh nm (j+1) r
 | j,_ ::r=> ZCh nm (j+1) r
def wrs(lm:List (Name × List (Sk U))):List (Nat × List (Sk U))->List ((Nat ⊕ (Name × Nat)) × U.Ty)
 | []=> lm.flatMap fun x=> ZCh x.1 0 x.2
 | (k,[.wr T]) ::r=> (.inl k,T) ::wrs lm r
 | _ ::r=> wrs lm r
def pts:List (Nat × List (Sk U))->List (Nat × U.Ty)
 | []=> []
 | (k,[.pt T]) ::r=> (k,T) ::pts r
 | _ ::r=> pts r
def ZCF{α:Type}(st:FSt U)(k:FSt U->α):List ((Nat ⊕ (Name × Nat)) × U.Ty)->α
 | []=> k st
 | x ::r=> k (st.prom (x ::r))
def Z5K{α:Type}(cfg:Cfg U)(lv:List (Nat × List (Sk U)))(lm:List (Name × List (Sk U)))(st:FSt U)(k:FSt U->α):α:=
 ZCF st (fun st=> Z2S cfg st (fun st=> Z60 cfg st k (Z24 lv lm st)) (pts lv)) (wrs lm lv)
theorem Z63:∀ {l:List Name} {nm:Name},nm∈l->Jh l nm=true
 | a ::r,nm,h=> by
  simp only [Jh]
  split
  .try rfl
  .rename_i e
   rcases Q9.1 h with rfl | h
   .grind
   .exact Z63 h
structure RenA (ok:Tok->Bool) (g:Gh) (s:List (Tok × Tok)) (g2:Gh):Prop extends Ren ok g s g2 where
 adx:∀ k,g2.ad (.x k)=g.ad (.x k)
theorem ZgP{okT mine:Tok->Bool}{nm:Tok}{k:Sk U}{c:C U}{seen:List (Tok × Tok)}(hmine:∀ t,mine t=true->st.dead t=false)(hok:okT nm=true):
  Ext seen (Z7v mine nm k c seen).2/\∀ s',Ext (Z7v mine nm k c seen).2 s'->∀ g2,RenA okT g s' g2->∀ v,RelC cfg g st.dead v c->RelC cfg g2 ZF v (Z7v mine nm k c seen).1:=by
 unfold Z7v
 split
 .rename_i T
  refine ⟨.refl _,fun s' _ g2 hg v d=> ?_⟩
  have h1:=d.1
  cases h1
  exact ⟨.snil T _,fun _ a len aj hv=> by simp at hv⟩
 .rename_i T0 T l
  refine ⟨.refl _,fun s' _ g2 hg v d=> ⟨by rw [hg.m];exact d.1.tl _,fun _ b len aj hv j h1 h2=> ?_⟩⟩
  have:=d.2 _ _ _ hv
  grind
 .rename_i T
  refine ⟨.refl _,fun s' _ g2 hg v d=> ?_⟩
  have h1:=d.1
  cases h1
  exact ⟨.snil T _,trivial⟩
 .exact ⟨.refl _,fun s' _ g2 hg v d=> ⟨by rw [hg.m];exact d.1.tl _,trivial⟩⟩
 .rename_i T
  refine ⟨.refl _,fun s' _ g2 hg v d=> ?_⟩
  have h1:=d.1
  cases h1
  exact ⟨.pnil T,trivial⟩
 .refine ⟨.refl _,fun s' _ g2 hg v d=> ⟨.xp _ _ d.1.one,?_⟩⟩
  have h2:v= .pointer (some (g.ad (.x _))):=d.2
  show v= .pointer (some (g2.ad (.x _)))
  rw [hg.adx];exact h2
 .obtain ⟨h1,h2⟩:=Z7Z (cfg:=cfg) (st:=st) (g:=g) (nm:=nm) (c:=c) (seen:=seen) hmine hok
  exact ⟨h1,fun s' hs g2 hg v d=> h2 s' hs g2 hg.toRen v d⟩
theorem Z6L{okT mine:Tok->Bool}{nm:Nat->Tok}(hmine:∀ t,mine t=true->st.dead t=false)(hok:∀ j,okT (nm j)=true):∀ (cs:List (C U)) (j:Nat) (ks:List (Sk U)) (seen:List (Tok × Tok)),
  Ext seen (Z1v mine nm j ks cs seen).2/\(Z1v mine nm j ks cs seen).1.length=cs.length/\
   ∀ s',Ext (Z1v mine nm j ks cs seen).2 s'->∀ g2,RenA okT g s' g2->∀ (i:Nat) v c c',cs[i]?=some c->(Z1v mine nm j ks cs seen).1[i]?=some c'->RelC cfg g st.dead v c->RelC cfg g2 ZF v c'
 | [],j,ks,seen=> ⟨.refl _,rfl,fun s' _ g2 _ i v c c' hc=> by simp at hc⟩
 | c ::cs,j,ks,seen=> by
  obtain ⟨h1,h2⟩:=ZgP (cfg:=cfg) (g:=g) (okT:=okT) (nm:=nm j) (k:=sk0 ks) (c:=c) (seen:=seen) hmine (hok j)
  obtain ⟨h3,h4,h5⟩:=Z6L (okT:=okT) (mine:=mine) (nm:=nm) hmine hok cs (j+1) ks.tail (Z7v mine (nm j) (sk0 ks) c seen).2
  refine ⟨h1.trans h3,by simp [Z1v,h4],fun s' hs g2 hg i v c0 c' hc d hr=> ?_⟩
  cases i with
  | zero=>
   simp [Z1v] at hc d
   subst hc d
   exact h2 s' (h3.trans hs) g2 hg v hr
  | succ i=>
   simp [Z1v] at hc d
   exact h5 s' hs g2 hg i v c0 c' hc d hr
def Gh.anew(g:Gh)(s:List (Tok × Tok))(keep:Name->Bool)(okT:Tok->Bool):Gh:=
 {m:=g.m
  tag:=fun c=> match g.tag c with
   | some (.tok t)=> (YG s t).map .tok
   | some (.obj nm)=> bif keep nm then some (.obj nm) else none
   | some (.outer t)=> some (.outer t)
   | none=> none
  ad:=g.ad
  bs:=fun t=> bif okT t then Zhq g s t else none }
theorem Gh.anew_ren(s:List (Tok × Tok))(keep:Name->Bool)(okT:Tok->Bool):RenA okT g s (g.anew s keep okT):=
 ⟨⟨rfl,fun c t t' h1 d=> by simp only [Gh.anew,h1,d,Qi],fun t t' v h1 d h3=> by simp only [Gh.anew,h1,cond_true,Zhq,d];exact h3⟩,fun _=> rfl⟩
theorem ZuJ{mine:Tok->Bool}{nm:Nat->Tok}{keep live live2:Name->Bool}(hmine:∀ t,mine t=true->st.dead t=false)(hok:∀ j,Z36 (nm j)=true)(hkeep:∀ n,keep n=true->live2 n=true)(ks:List (Sk U))(x:V U)(seen:List (Tok × Tok)):
  Ext seen (Z7u mine nm keep ks x seen).2/\∀ d,Ext (Z7u mine nm keep ks x seen).2 d->∀ v,RelV cfg g st.dead live v x->RelV cfg (g.anew d keep Z36) ZF live2 v (Z7u mine nm keep ks x seen).1:=by
 cases x with
 | c x=>
  obtain ⟨h1,h2⟩:=ZgP (cfg:=cfg) (g:=g) (nm:=nm 0) (k:=sk0 ks) (c:=x) (seen:=seen) hmine (hok 0)
  exact ⟨h1,fun d hs v hr=> h2 d hs _ (Gh.anew_ren d keep Z36) v hr⟩
 | agg cs=>
  obtain ⟨h3,h4,h5⟩:=Z6L (cfg:=cfg) (g:=g) (mine:=mine) (nm:=nm) hmine hok cs 0 ks seen
  refine ⟨h3,fun d hs v hr=> ?_⟩
  obtain ⟨vs,rfl,hl,hh⟩:=hr
  refine ⟨vs,rfl,V0,fun j u c hu hc=> ?_⟩
  have hj:j < cs.length:=by have:=(Q4.1 hc).1;omega
  exact h5 d hs _ (Gh.anew_ren d keep Z36) j u _ c (Q0 hj) hc (hh j u _ hu (Q0 hj))
 | ptr n off=>
  refine ⟨.refl _,fun d hs v hr=> ?_⟩
  simp only [Z7u]
  cases hk:keep n with
  | true=> exact ⟨by grind,hr.2⟩
  | false=> exact trivial
 | ap n off k len i=> exact ⟨.refl _,fun d _ v hr=> trivial⟩
 | ep cs=>
  have ah:∀ t,(fun _:Tok=> false) t=true->st.dead t=false:=fun t h=> by cases h
  obtain ⟨h3,h4,h5⟩:=Z6E (cfg:=cfg) (g:=g) (mine:=fun _=> false) (nm:=nm) ah hok cs 0 seen
  refine ⟨h3,fun d hs v hr=> ?_⟩
  obtain ⟨b,rfl,hh⟩:=hr
  refine ⟨b,rfl,fun j c hc=> ?_⟩
  have hj:j < cs.length:=by have:=(Q4.1 hc).1;rw [h4] at this;exact this
  obtain ⟨u,h6,h7⟩:=hh j _ (Q0 hj)
  exact ⟨u,h6,h5 d hs _ (Gh.anew_ren d keep Z36).toRen j u _ c (Q0 hj) hc h7⟩
 | fn f=> exact ⟨.refl _,fun d _ v hr=> hr⟩
 | mp t n off=> exact ⟨.refl _,fun d _ v hr=> trivial⟩
 | vw t n=> exact ⟨.refl _,fun d _ v hr=> trivial⟩
 | clo f nms=>
  refine ⟨.refl _,fun d _ v hr=> ?_⟩
  simp only [Z7u]
  cases hk:nms.all keep with
  | true=> exact ⟨fun nm hn=> by grind,hr.2⟩
  | false=> exact trivial
 | ifp t n=>
  refine ⟨.refl _,fun d _ v hr=> ?_⟩
  simp only [Z7u]
  cases hk:keep n with
  | true=> exact ⟨by grind,hr.2⟩
  | false=> exact trivial
 | kv v=> exact ⟨.refl _,fun d _ v hr=> hr⟩
 | nb p q=> exact ⟨.refl _,fun d _ v hr=> hr⟩
 | tup vs=> exact ⟨.refl _,fun d _ v hr=> trivial⟩
 | gd b v=> exact ⟨.refl _,fun d _ v hr=> trivial⟩
 | junk=> exact ⟨.refl _,fun d _ v hr=> trivial⟩
theorem ZeL{keep live2:Name->Bool}(hkeep:∀ n,keep n=true->live2 n=true)(h:Rel cfg B st g a w):∀ (lv:List (Nat × List (Sk U))) (seen:List (Tok × Tok)),
  Ext seen (Z1k st keep lv seen).2/\∀ s',Ext (Z1k st keep lv seen).2 s'->∀ k,RelV cfg (g.anew s' keep Z36) ZF live2 (a.tmps.getD k undef) (ZfK (Z1k st keep lv seen).1 k)
 | [],seen=> ⟨.refl _,fun s' _ k=> trivial⟩
 | (k0,ks) ::lv,seen=> by
  have d:∀ t,(fun t=> !st.dead t) t=true->st.dead t=false:=fun t ht=> by simpa using ht
  obtain ⟨h1,h2⟩:=ZuJ (cfg:=cfg) (g:=g) (st:=st) (nm:= .e k0) (keep:=keep) (live:=fun nm=> (st.mem nm).isSome) (live2:=live2) d (fun _=> rfl) hkeep ks (st.env k0) seen
  obtain ⟨h3,h4⟩:=ZeL hkeep h lv (Z7u (fun t=> !st.dead t) (.e k0) keep ks (st.env k0) seen).2
  refine ⟨h1.trans h3,fun s' hs k=> ?_⟩
  simp only [Z1k,ZfK]
  cases hk:Nat.beq k0 k with
  | true=>
   have:=Qc hk
   subst this
   exact h2 s' (h3.trans hs) _ (h.env k0)
  | false=> exact h4 s' hs k
theorem Z85{keep:Name->Bool}(h:Rel cfg B st g a w):∀ (lm:List (Name × List (Sk U))) (seen:List (Tok × Tok)),(∀ n∈lm,(st.mem n.1).isSome=true->keep n.1=true)->
  Ext seen (Z09 st lm seen).2/\∀ s',Ext (Z09 st lm seen).2 s'->∀ nm cs,Z4b (Z09 st lm seen).1 nm=some cs->∀ j c,cs[j]?=some c->
   ∃ v,w.cell? ((g.ad nm).add j)=some v/\(g.anew s' keep Z36).tag ((g.ad nm).add j)=some (.obj nm)/\RelC cfg (g.anew s' keep Z36) ZF v c
 | [],seen,_=> ⟨.refl _,fun s' _ nm cs d=> by trivial⟩
 | (n0,ks) ::lm,seen,hk=> by
  have aa:∀ t,(fun t=> !st.dead t) t=true->st.dead t=false:=fun t ht=> by simpa using ht
  cases hm:st.mem n0 with
  | none=>
   simp only [Z09,hm]
   exact Z85 h lm seen (fun n d=> hk n (by simp [d]))
  | some cs0=>
   obtain ⟨h3,h4,h5⟩:=Z6L (cfg:=cfg) (g:=g) (mine:=fun t=> !st.dead t) (nm:=Zg2 n0) aa (okT:=Z36) (fun j=> by cases n0 <;> rfl) cs0 0 ks seen
   obtain ⟨h6,h7⟩:=Z85 h lm (Z1v (fun t=> !st.dead t) (Zg2 n0) 0 ks cs0 seen).2 (fun n d=> hk n (by simp [d]))
   simp only [Z09,hm]
   refine ⟨h3.trans h6,fun s' hs nm cs d j c hc=> ?_⟩
   simp only [Z4b] at d
   split at d
   .rename_i e
    subst e
    cases d
    have hj:j < cs0.length:=by have:=(Q4.1 hc).1;omega
    obtain ⟨v,h8,h9,ae⟩:=h.mem n0 cs0 hm j _ (Q0 hj)
    refine ⟨v,h8,?_,h5 s' (h6.trans hs) _ (Gh.anew_ren s' keep Z36) j v _ c (Q0 hj) hc ae⟩
    have af:=hk (n0,ks) (by simp) (by simp [hm])
    simp only [Gh.anew,h9,af,cond_true]
   grind
theorem Z8b:∀ (lm:List (Name × List (Sk U))) (seen:List (Tok × Tok)) (nm:Name),(Z0K lm nm && (st.mem nm).isSome)=true->(Z4b (Z09 st lm seen).1 nm).isSome=true
 | [],seen,nm,h=> by trivial
 | (n0,ks) ::lm,seen,nm,h=> by
  simp only [Q2] at h
  cases hm:st.mem n0 with
  | none=>
   simp only [Z09,hm]
   refine Z8b lm seen nm ?_
   simp only [Q2]
   refine ⟨?_,h.2⟩
   have d:=h.1
   simp only [Z0K] at d
   grind
  | some cs0=>
   simp only [Z09,hm,Z4b]
   split
   .try rfl
   .rename_i e
    refine Z8b lm _ nm ?_
    simp only [Q2]
    refine ⟨?_,h.2⟩
    have d:=h.1
    simp only [Z0K] at d
    grind
theorem Z9t:∀ {l:List (Name × List (Sk U))} {x:Name × List (Sk U)},x∈l->Z0K l x.1=true
 | (a,ks) ::r,x,h=> by
  simp only [Z0K]
  split
  .try rfl
  .rename_i e
   rcases Q9.1 h with rfl | h
   .grind
   .exact Z9t h
theorem Zz8(h:Rel cfg B st g a w)(lv:List (Nat × List (Sk U)))(lm:List (Name × List (Sk U))):∃ g',Rel cfg B ((norm lv lm st).toF st.n) g' a w:=by
 let keep:Name->Bool:=fun nm=> Z0K lm nm && (st.mem nm).isSome
 let live2:Name->Bool:=fun nm=> (Z4b (norm lv lm st).mem nm).isSome
 have al:∀ n,keep n=true->live2 n=true:=fun n hn=> Z8b lm _ n hn
 obtain ⟨h1,h2⟩:=ZeL (keep:=keep) al h lv []
 obtain ⟨h3,h4⟩:=Z85 (keep:=keep) h lm (Z1k st keep lv []).2 (fun n hn hs=> by simp only [keep,Z9t hn,hs,Bool.and_self])
 let s:=(Z09 st lm (Z1k st keep lv []).2).2
 have aj:∀ c,g.tag c=none->(g.anew s keep Z36).tag c=none:=fun c hc=> by simp only [Gh.anew,hc]
 have d:∀ c t,g.tag c=some (.outer t)↔(g.anew s keep Z36).tag c=some (.outer t):=by
  intro c t
  simp only [Gh.anew]
  cases hg:g.tag c with
  | none=> simp
  | some t0=>
   cases t0 with
   | obj nm=> grind
   | tok u=> simp_all
   | outer t0=> simp
 refine ⟨g.anew s keep Z36,⟨fun c v hv=> ?_,fun c t ht=> ?_⟩,?_,?_,?_,h.sz,h.df,fun t x hx=> ⟨rfl,?_⟩,fun t ht _ _=> by simp only [Gh.anew,Z36,ht,K7,cond_false]⟩
 .obtain ⟨h5,h6⟩:=h.inv.im c v hv
  grind
 .cases hg:g.tag c with
  | none=> grind
  | some t0=> exact h.inv.it c t0 hg
 .refine h.fr.step h.inv (Evo.refl w (fun _=> False)) (fun c hc=> hc.elim) (fun _ _ hv=> hv) (fun c t=> d c t) ?_ (fun _=> rfl)
  intro b _ ao o sp
  cases hg:g.tag ⟨b,o,sp⟩ with
  | none=> grind
  | some t=>
   grind
 .intro k
  exact h2 s h3 k
 .intro nm cs hn j c hc
  exact h4 s (.refl _) nm cs hn j c hc
 .have ah:Zt (fun _=> none) (J9 st.ls s (Zqt lv lm)) t=some x:=by
   have af:Zt (fun _=> none) (match Zqt lv lm with
    | []=> []
    | c=> J9 st.ls s c) t=some x:=hx
   cases hc:Zqt lv lm with
   | nil=> rw [hc] at af;cases af
   | cons a b=> grind
  obtain ⟨u,h5,h6,h7,h8⟩:=Z11 _ ah
  obtain ⟨_,hL⟩:=h.ls u x h7
  have ae:(g.anew s keep Z36).bs t=g.bs u:=by simp only [Gh.anew,Z36,h8,Bool.not_false,cond_true,Zhq,h5]
  have ab:∀ c,g.tag c=some (.tok u)->(g.anew s keep Z36).tag c=some (.tok t):=fun c hc=> by simp only [Gh.anew,hc,h6,Qi]
  rcases hL with ⟨e1,e2⟩ | ⟨b,len,cap,e1,e2,e3,e4,e5,e6⟩
  .exact .inl ⟨ae.trans e1,e2⟩
  .refine .inr ⟨b,len,cap,ae.trans e1,e2,e3,e4,fun i y hy j c hc=> ?_,fun j a1 a2=> ab _ (e6 j a1 a2)⟩
   obtain ⟨v,e7,e8,e9,ak⟩:=e5 i y hy j c hc
   exact ⟨v,e7,e8,e9,fun hi=> ab _ (ak hi)⟩
theorem Zuh(h:Rel cfg B st g a w)(k:Nat)(T:U.Ty):∃ g',Rel cfg B (st.prom1 k T) g' a w:=by
 unfold FSt.prom1
 split
 case h_2=> grind
 rename_i hk
 split
 case isFalse=> grind
 rename_i hc
 simp only [Q2,QA,QQ] at hc
 have ab:=h.fresh (.z (3*k) 0) rfl hc.1 hc.2
 have d:Keeps g (g.setBs (.z (3*k) 0) (.slice none 0 0,cfg.sz T)) st.dead st.dead (fun nm=> (st.mem nm).isSome) (fun nm=> (st.mem nm).isSome):=(Keeps.refl g st.dead _).setBs ab
 refine ⟨g.setBs (.z (3*k) 0) (.slice none 0 0,cfg.sz T),h.inv,h.fr.setBs,fun i=> ?_,fun nm cs hm j c hj=> ?_,h.sz,h.df,fun t x hx=> ?_,fun t ht h1 h2=> ?_⟩
 .simp only
  cases hi:Nat.beq i k with
  | true=>
   have e:=Qc hi
   subst e
   have hr:=h.env i
   rw [hk] at hr
   have h1:SimC cfg g.m (a.tmps.getD i undef) .nils:=hr.1
   have hv:a.tmps.getD i undef= .slice none 0 0:=by
    generalize a.tmps.getD i undef=v at h1
    cases h1
    try rfl
   rw [hv]
   exact ⟨.mref _ _ ⟨rfl,rfl⟩,fun _=> ⟨cfg.sz T,by simp [Gh.setBs]⟩⟩
  | false=> exact (h.env i).keep d
 .obtain ⟨v,h1,h2,h3⟩:=h.mem nm cs hm j c hj
  exact ⟨v,h1,h2,h3.keep d⟩
 .simp only at hx
  split at hx
  .rename_i e
   subst e
   cases hx
   exact ⟨hc.2,.inl ⟨by simp [Gh.setBs],rfl,rfl⟩⟩
  .obtain ⟨h1,h2⟩:=h.ls t x hx
   exact ⟨h1,h2.keep d h1 (fun c v hv=> (h.inv.im c v hv).1) (fun _ _=> rfl)⟩
 .simp only at h1
  split at h1
  .cases h1
  .rename_i ai
   simp only [Gh.setBs]
   rw [if_neg ai]
   exact h.fresh t ht h1 h2
theorem Zug(h:Rel cfg B st g a w)(nm:Name)(j0:Nat)(T:U.Ty):∃ g',Rel cfg B (st.promM nm j0 T) g' a w:=by
 unfold FSt.promM
 split
 case h_2=> grind
 rename_i cs af
 split
 case h_2=> grind
 rename_i aj
 split
 case isFalse=> grind
 rename_i hc
 simp only [Q2,QA,QQ] at hc
 have ae:=h.fresh (.z (Zc7 nm) j0) rfl hc.1 hc.2
 have d:Keeps g (g.setBs (.z (Zc7 nm) j0) (.slice none 0 0,cfg.sz T)) st.dead st.dead (fun nm=> (st.mem nm).isSome) (fun nm=> (st.mem nm).isSome):=(Keeps.refl g st.dead _).setBs ae
 have hl:(fun n=> (if n=nm then some (cs.set j0 (.mref (.z (Zc7 nm) j0))) else st.mem n:Option (List (C U))).isSome)=fun n=> (st.mem n).isSome:=by
  funext n
  by_cases e:n=nm
  .subst e;simp [af]
  .simp [e]
 refine ⟨g.setBs (.z (Zc7 nm) j0) (.slice none 0 0,cfg.sz T),h.inv,h.fr.setBs,fun i=> ?_,fun n am hm j c hj=> ?_,h.sz,h.df,fun t x hx=> ?_,fun t ht h1 h2=> ?_⟩
 .simp only [hl]
  exact (h.env i).keep d
 .simp only at hm
  split at hm
  .rename_i e
   subst e
   cases hm
   by_cases e:j=j0
   .subst e
    have ar:=(Q4.1 aj).1
    rw [Ka] at hj
    simp only [if_true,ar] at hj
    cases hj
    obtain ⟨v,h1,h2,h3⟩:=h.mem n cs af j _ aj
    have hv:v= .slice none 0 0:=by
     have h4:=h3.1
     cases h4
     try rfl
    subst hv
    exact ⟨_,h1,h2,.mref _ _ ⟨rfl,rfl⟩,fun _=> ⟨cfg.sz T,by simp [Gh.setBs]⟩⟩
   .rw [List.getElem?_set_ne (Ne.symm e)] at hj
    obtain ⟨v,h1,h2,h3⟩:=h.mem n cs af j c hj
    exact ⟨v,h1,h2,h3.keep d⟩
  .obtain ⟨v,h1,h2,h3⟩:=h.mem n am hm j c hj
   exact ⟨v,h1,h2,h3.keep d⟩
 .simp only at hx
  split at hx
  .rename_i e
   subst e
   cases hx
   exact ⟨hc.2,.inl ⟨by simp [Gh.setBs],rfl,rfl⟩⟩
  .obtain ⟨h1,h2⟩:=h.ls t x hx
   exact ⟨h1,h2.keep d h1 (fun c v hv=> (h.inv.im c v hv).1) (fun _ _=> rfl)⟩
 .simp only at h1
  split at h1
  .cases h1
  .rename_i aq
   simp only [Gh.setBs]
   rw [if_neg aq]
   exact h.fresh t ht h1 h2
theorem Zig:∀ (lv:List ((Nat ⊕ (Name × Nat)) × U.Ty)) {st:FSt U} {g:Gh},Rel cfg B st g a w->∃ g',Rel cfg B (st.prom lv) g' a w
 | [],st,g,h=> ⟨g,h⟩
 | (.inl k,T) ::r,st,g,h=> by
  obtain ⟨g1,d⟩:=Zuh h k T
  exact Zig r d
 | (.inr x,T) ::r,st,g,h=> by
  obtain ⟨g1,d⟩:=Zug h x.1 x.2 T
  exact Zig r d
theorem ZmE:∀ (lv:List ((Nat ⊕ (Name × Nat)) × U.Ty)) (st:FSt U),(st.prom lv).n=st.n
 | [],st=> rfl
 | (.inl k,T) ::r,st=> by
  show ((st.prom1 k T).prom r).n=st.n
  rw [ZmE r]
  unfold FSt.prom1
  grind
 | (.inr x,T) ::r,st=> by
  show ((st.promM x.1 x.2 T).prom r).n=st.n
  rw [ZmE r]
  unfold FSt.promM
  grind
theorem Zr9(ok:CfgOk P cfg)(h:Rel cfg B st g a w)(lv:List (Nat × List (Sk U)))(lm:List (Name × List (Sk U))):∃ g',Rel cfg B (Z5K cfg lv lm st id) g' a w:=by
 have aa:∀ {st:FSt U} {g:Gh},Rel cfg B st g a w->∃ g',Rel cfg B (Z2S cfg st (fun st=> Z60 cfg st id (Z24 lv lm st)) (pts lv)) g' a w:=by
  intro st g h
  rw [Z6H]
  obtain ⟨g1,d⟩:=Zrs ok h (pts lv)
  generalize Z2S cfg st id (pts lv)=st1 at d ⊢
  cases hn:Z24 lv lm st1 with
  | nil=> exact ⟨g1,d⟩
  | cons t r=> exact ZnP ok (t ::r) d
 unfold Z5K
 cases hw:wrs lm lv with
 | nil=> exact aa h
 | cons x r=>
  obtain ⟨g1,d⟩:=Zig (x ::r) h
  exact aa d
theorem Ztk(lv:List (Nat × List (Sk U)))(lm:List (Name × List (Sk U))):(Z5K cfg lv lm st id).n=st.n:=by
 have d:∀ (st:FSt U),(Z2S cfg st (fun st=> Z60 cfg st id (Z24 lv lm st)) (pts lv)).n=st.n:=by
  intro st
  rw [Z6H]
  have h1:=ZuG (cfg:=cfg) (st:=st) (pts lv)
  generalize Z2S cfg st id (pts lv)=st1 at h1 ⊢
  cases hn:Z24 lv lm st1 with
  | nil=> exact h1
  | cons t r=> exact (Zwh _ st1).trans h1
 unfold Z5K
 cases hw:wrs lm lv with
 | nil=> exact d st
 | cons x r=> exact (d _).trans (ZmE _ st)
theorem Zra{α:Type}(lv:List (Nat × List (Sk U)))(lm:List (Name × List (Sk U)))(k:FSt U->α):Z5K cfg lv lm st k=k (Z5K cfg lv lm st id):=by
 unfold Z5K
 generalize wrs lm lv=ws
 have d:∀ st:FSt U,Z2S cfg st (fun st=> Z60 cfg st k (Z24 lv lm st)) (pts lv)=k (Z2S cfg st (fun st=> Z60 cfg st id (Z24 lv lm st)) (pts lv)):=by
  intro st
  rw [Z6H,Z6H st (fun st=> Z60 cfg st id (Z24 lv lm st))]
  exact ZkI _ _ _
 cases ws <;> exact d _
inductive AExit where
 | normal | exit (id:Nat) | ret
def AExit.up:AExit->Exit
 | .normal=> .normal
 | .exit id=> .exit id
 | .ret=> .ret
abbrev Zb(U:Uni):=Nat->List (Nat × List (Sk U)) × List (Name × List (Sk U))
def AExit.then{U:Uni}(K:LSt U->Prop)(Q:AExit->LSt U->Prop):AExit->LSt U->Prop
 | .normal,s=> K s
 | e,s=> Q e s
def AExit.inBlock{U:Uni}(id:Nat)(Q:AExit->LSt U->Prop):AExit->LSt U->Prop
 | .exit id',s=> if id'=id then Q .normal s else Q (.exit id') s
 | e,s=> Q e s
def Zk{U:Uni}(body:LSt U->(AExit->LSt U->Prop)->Prop)(s:LSt U)(Q:AExit->LSt U->Prop):Prop:=
 ∃ (I:Nat->LSt U->Prop) (n:Nat),I n s/\∀ k s',I k s'->body s' (AExit.then (fun s2=> ∃ j,j < k/\I j s2) Q)
def ZuL:List Prop->Prop->Prop
 | [],q=> q
 | p ::r,q=> p/\ZuL r q
theorem Zb4:∀ {ps:List Prop} {q:Prop},ZuL ps q->All ps/\q
 | [],_,h=> ⟨trivial,h⟩
 | _ ::_,_,h=> ⟨⟨h.1,(Zb4 h.2).1⟩,(Zb4 h.2).2⟩
def mkL(Γ:Known U)(o:Oper):Bool:=
 match o.op with
 | .call c=> match c.callee with
  | .value (.func f)=> match Γ f with
   | some s=> s.mkl
   | none=> false
  | _=> false
 | _=> false
def isZ(o:Oper):Bool:=
 match o.op with
 | .call c=> match c.callee,c.argTypes.toList with
  | .builtin .append,[t,t']=> t !=t'
  | _,_=> false
 | _=> false
def ZEq(Γ:Known U)(s:LSt U)(ops:List Oper)(l:List (Nat × List (Sk U)) × List (Name × List (Sk U))):Bool:=
 Γ.ml || Γ.nl || !s.ls.isEmpty || (ops.any fun o=> ZBU ops o || mkL Γ o || isZ o) || !(wrs l.2 l.1).isEmpty || !(pts l.1).isEmpty
def Z5Z{α:Type}(cfg:Cfg U)(li:Bool)(l:List (Nat × List (Sk U)) × List (Name × List (Sk U)))(st:FSt U)(k:FSt U->α):α:=
 bif li then Z5K cfg l.1 l.2 st k else k st
def ZCf(cfg:Cfg U)(li:Bool)(r:Option (List Prop × FSt U))(l:List (Nat × List (Sk U)) × List (Name × List (Sk U)))(Q:AExit->LSt U->Prop):Prop:=
 match r with
 | some (ps,st)=> Z5Z cfg li l st (fun st=> ZuL ps (Q .normal (norm l.1 l.2 st)))
 | none=> False
theorem ZkH{α:Type}(li:Bool)(l:List (Nat × List (Sk U)) × List (Name × List (Sk U)))(k:FSt U->α):Z5Z cfg li l st k=k (Z5Z cfg li l st id):=by
 cases li
 .try rfl
 .exact Zra _ _ _
theorem ZkG(ok:CfgOk P cfg)(h:Rel cfg B st g a w)(li:Bool)(l:List (Nat × List (Sk U)) × List (Name × List (Sk U))):(∃ g',Rel cfg B (Z5Z cfg li l st id) g' a w)/\(Z5Z cfg li l st id).n=st.n:=by
 cases li
 .exact ⟨⟨g,h⟩,rfl⟩
 .exact ⟨Zr9 ok h _ _,Ztk _ _⟩
def Zxy{U:Uni}(v:Option (V U))(x y:Prop):Prop:=
 match v with
 | some (.c (.bool b))=> (b=true->x)/\(b=false->y)
 | some (.nb p q)=> (p->x)/\(q->y)
 | _=> False
def awp(cfg:Cfg U)(Γ:Known U)(draws:Array Oper->FSt U->Bool)(n:Nat)(lv:Zb U):Code->LSt U->(AExit->LSt U->Prop)->Prop
 | .skip,s,Q=> Q .normal s
 | .region id ops dr,s,Q=> if (!dr || draws ops (s.toR n Γ.ml ops))=true then ZCf cfg (ZEq Γ s ops.toList (lv id)) (Zfv cfg Γ ops (!dr && ZEq Γ s ops.toList (lv id)) ops.toList (s.toR n Γ.ml ops)) (lv id) Q else False
 | .seq x y,s,Q=> awp cfg Γ draws n lv x s (AExit.then (fun s'=> awp cfg Γ draws n lv y s' Q) Q)
 | .cond c x y,s,Q=> Zxy ((s.toF n).opnd c) (awp cfg Γ draws n lv x s Q) (awp cfg Γ draws n lv y s Q)
 | .block id c,s,Q=> awp cfg Γ draws n lv c s (AExit.inBlock id Q)
 | .loop c,s,Q=> Zk (awp cfg Γ draws n lv c) s Q
 | .exit id,s,Q=> Q (.exit id) s
 | .ret,s,Q=> Q .ret s
 | .label _,s,Q=> Q .normal s
 | .scope c,s,Q=> awp cfg Γ draws n lv c s Q
 | _,_,_=> False
def Zap(P:Program)(cfg:Cfg U)(Γ:Known U)(draws:Array Oper->FSt U->Bool):Prop:=
 ∀ (B:Base) (st st':FSt U) (g:Gh) (a:Act) (w:World) (id:Nat) (ops:Array Oper) (ps:List Prop) (Q:Exit->Act->World->Prop),draws ops st=true->Rel cfg B st g a w->
  Zfv cfg Γ ops false ops.toList st=some (ps,st')->All ps->(∀ g' a' w',Rel cfg B st' g' a' w'->Q .normal a' w')->(Code.region id ops true).wp P Q a w
theorem Zsh{Γ:Known U}{draws:Array Oper->FSt U->Bool}(ok:CfgOk P cfg)(hΓ:∀ f s,Γ f=some s->Contract P cfg f s)(hdr:Zap P cfg Γ draws){n:Nat}{lv:Zb U}:∀ (c:Code) (s:LSt U) (Q:AExit->LSt U->Prop) (g:Gh) (a:Act) (w:World),
  awp cfg Γ draws n lv c s Q->Rel cfg B (s.toF n) g a w->c.wp P (fun e a' w'=> ∃ e' s' g',e=AExit.up e'/\Q e' s'/\Rel cfg B (s'.toF n) g' a' w') a w:=by
 intro c
 induction c with
 | skip=> exact fun s Q g a w h hr=> wp_skip ⟨.normal,s,g,rfl,h,hr⟩
 | region id ops dr=>
  intro s Q g a w h hr
  simp only [awp] at h
  split at h
  case isFalse=> exact h.elim
  rename_i hd
  unfold ZCf at h
  split at h
  case h_2=> exact h.elim
  rename_i ps ab ak
  rw [ZkH] at h
  replace h:=Zb4 h
  generalize ZEq Γ s ops.toList (lv id)=li at*
  have av:∀ g' a' w',Rel cfg B ab g' a' w'->∃ e' s' g',Exit.normal=AExit.up e'/\Q e' s'/\Rel cfg B (s'.toF n) g' a' w':=by
   intro g' a' w' d
   obtain ⟨⟨g1,h1⟩,a1⟩:=ZkG ok d li (lv id)
   obtain ⟨g2,h2⟩:=Zz8 h1 (lv id).1 (lv id).2
   have hn:ab.n=n:=by
    have:∀ (l:List Oper) (st ab:FSt U) (ps:List Prop),Zfv cfg Γ ops (!dr && li) l st=some (ps,ab)->ab.n=st.n:=by
     intro l
     induction l with
     | nil=> intro st ab ps he;simp only [Zfv,oP] at he;rw [he.2]
     | cons o l ih=>
      intro st ab ps he
      rw [Zbw] at he
      split at he
      .cases he
      .split at he
       .cases he
       .rename_i h2
        simp only [oP] at he
        obtain ⟨_,rfl⟩:=he
        rw [ih _ _ _ h2]
        have hp:((st.pre cfg Γ (!dr && li) o).app o.dst ‹Eff U›).n=(st.pre cfg Γ (!dr && li) o).n:=by cases o.dst <;> rfl
        rw [hp,ZHc]
    exact this _ _ _ _ ak
   rw [a1,hn] at h2
   exact ⟨.normal,_,g2,rfl,h.2,h2⟩
  cases dr with
  | false=> exact wp_region_list (Zfu ok hΓ ops.toList _ ab g a w ps (Zoz hr) ak h.1 av)
  | true=>
   simp only [K7,XN] at hd
   exact hdr B _ ab g a w id ops ps _ hd (Zoz hr) ak h.1 av
 | seq x y ihx ihy=>
  intro s Q g a w h hr
  simp only [awp] at h
  refine wp_seq (wp_mono (ihx s _ g a w h hr) ?_)
  rintro e a' w' ⟨e',s',g',rfl,hq,d⟩
  cases e' with
  | normal=> exact ihy s' Q g' a' w' hq d
  | exit id=> exact ⟨.exit id,s',g',rfl,hq,d⟩
  | ret=> exact ⟨.ret,s',g',rfl,hq,d⟩
 | cond c x y ihx ihy=>
  intro s Q g a w h hr
  simp only [awp,Zxy] at h
  split at h
  case h_3=> exact h.elim
  case h_2 p q hb=>
   have hv:∃ b,a.eval c= .bool b/\(b=true->p)/\(b=false->q):=by
    have aj:RelV cfg g ZF (fun nm=> ((s.toF n).mem nm).isSome) (a.eval c) (.nb p q):=by
     cases c with
     | tmp t=> simp only [FSt.opnd,Option.some.injEq] at hb;rw [<-hb];exact hr.env t
     | const c=> exact Z22 hb
     | func f=> simp [FSt.opnd] at hb
     | global g=> trivial
    exact aj
   obtain ⟨b,hv,hp,hq⟩:=hv
   exact wp_cond_split hv (fun ht=> ihx s Q g a w (h.1 (hp ht)) hr) (fun ht=> ihy s Q g a w (h.2 (hq ht)) hr)
  rename_i b hb
  have hv:a.eval c= .bool b:=by
   have aj:RelV cfg g ZF (fun nm=> ((s.toF n).mem nm).isSome) (a.eval c) (.c (.bool b)):=by
    cases c with
    | tmp t=> simp only [FSt.opnd,Option.some.injEq] at hb;rw [<-hb];exact hr.env t
    | const c=> exact Z22 hb
    | func f=> simp [FSt.opnd] at hb
    | global g=> trivial
   exact SimC.bool_eq aj.1
  exact wp_cond_split hv (fun ht=> ihx s Q g a w (h.1 ht) hr) (fun ht=> ihy s Q g a w (h.2 ht) hr)
 | block id c ih=>
  intro s Q g a w h hr
  simp only [awp] at h
  refine wp_block (wp_mono (ih s _ g a w h hr) ?_)
  rintro e a' w' ⟨e',s',g',rfl,hq,d⟩
  cases e' with
  | normal=> exact ⟨.normal,s',g',rfl,hq,d⟩
  | exit id'=>
   simp only [AExit.inBlock,AExit.up,Exit.inBlock] at*
   grind
  | ret=> exact ⟨.ret,s',g',rfl,hq,d⟩
 | loop c ih=>
  intro s Q g a w h hr
  simp only [awp,Zk] at h
  obtain ⟨I,k,h0,h1⟩:=h
  refine wp_loop_ghost (fun k a w=> ∃ s g,I k s/\Rel cfg B (s.toF n) g a w) k ⟨s,g,h0,hr⟩ ?_
  rintro k a w ⟨s,g,hI,hr⟩
  refine wp_mono (ih s _ g a w (h1 k s hI) hr) ?_
  rintro e a' w' ⟨e',s',g',rfl,hq,d⟩
  cases e' with
  | normal=>
   obtain ⟨j,hj,ax⟩:=hq
   exact ⟨j,hj,s',g',ax,d⟩
  | exit id=> exact ⟨.exit id,s',g',rfl,hq,d⟩
  | ret=> exact ⟨.ret,s',g',rfl,hq,d⟩
 | exit id=> exact fun s Q g a w h hr=> wp_exit ⟨.exit id,s,g,rfl,h,hr⟩
 | ret=> exact fun s Q g a w h hr=> wp_ret ⟨.ret,s,g,rfl,h,hr⟩
 | label l=> exact fun s Q g a w h hr=> wp_label ⟨.normal,s,g,rfl,h,hr⟩
 | scope c ih=>
  intro s Q g a w h hr
  refine wp_scope_straight (wp_mono (ih s Q g a w h hr) ?_)
  rintro e a' w' ⟨e',s',g',rfl,hq,d⟩
  cases e' <;> exact ⟨_,s',g',rfl,hq,d⟩
 | _=> intro s Q g a w h;simp [awp] at h
def ZCp(cfg:Cfg U)(Γ:Known U)(draws:Array Oper->FSt U->Bool)(n:Nat)(lv:Zb U)(y:Code)(Q:AExit->LSt U->Prop):AExit->LSt U->Prop:=
 AExit.then (fun s'=> awp cfg Γ draws n lv y s' Q) Q
theorem Z8 {U:Uni} {ι:Type} (f:ι->LSt U) (I:ι->Prop) (μ:ι->Nat) {body:LSt U->(AExit->LSt U->Prop)->Prop} {s:LSt U} {Q:AExit->LSt U->Prop} (i0:ι) (hs:s=f i0) (h0:I i0)
  (hb:∀ i,I i->body (f i) (AExit.then (fun s2=> ∃ j,s2=f j/\I j/\μ j < μ i) Q)):Zk body s Q:=by
 refine ⟨fun k s=> ∃ i,s=f i/\I i/\μ i=k,μ i0,⟨i0,hs,h0,rfl⟩,?_⟩
 grind
def sub:List Nat->Code->Code
 | [],c=> c
 | 0 ::r,.seq a _=> sub r a
 | _ ::r,.seq _ b=> sub r b
 | 0 ::r,.cond _ a _=> sub r a
 | _ ::r,.cond _ _ b=> sub r b
 | _ ::r,.block _ c=> sub r c
 | _ ::r,.loop c=> sub r c
 | _ ::r,.scope c=> sub r c
 | _,_=> .skip
def cd(f:Func)(path:List Nat):Code:=sub path (f.body.getD .skip)
attribute [irreducible] awp
def Z6q:Nat->List (V U)->List (Nat × V U)
 | _,[]=> []
 | i,v ::r=> (i,v) ::Z6q (i+1) r
def Z6p:Nat->List (List (C U))->List (Name × List (C U))
 | _,[]=> []
 | k,cs ::r=> (.x k,cs) ::Z6p (k+1) r
def Ja(args:List (V U))(X:List (List (C U)))(L:List (Tok × LC U)):LSt U:={ env:=Z6q 0 args,mem:=Z6p 0 X,ls:=L }
def Zf(args:List (V U))(X:List (List (C U))):LSt U:=Ja args X []
def Z1Q:Tok->Bool:=fun _=> true
def ZaN(cfg:Cfg U)(st:FSt U):ResultVar->Option (Bool × List (C U))
 | .tmp t=> match st.env t with
  | .c x=> some (false,[x])
  | .agg cs=> some (true,cs)
  | .kv (.iface t v)=> some (false,[.kc (.iface t v)])
  | _=> none
 | .cell t ty=> match cfg.var ty with
  | some (ag,zs)=> match rd st (st.env t) ag zs.length with
   | some (.c x)=> some (false,[x])
   | some (.agg cs)=> some (true,cs)
   | _=> none
  | none=> none
def Z7U(cfg:Cfg U)(st:FSt U):List ResultVar->Option (List (Bool × List (C U)))
 | []=> some []
 | r ::rs=> match ZaN cfg st r,Z7U cfg st rs with
  | some x,some l=> some (x ::l)
  | _,_=> none
def Z4Q(i:Nat):List (Bool × List (C U))->List (Tok × Tok)->List (Bool × List (C U)) × List (Tok × Tok)
 | [],seen=> ([],seen)
 | (ag,cs) ::r,seen=> ((ag,(J8 Z1Q (fun j=> .r 0 (16*i+j)) 0 cs seen).1) ::(Z4Q (i+1) r (J8 Z1Q (fun j=> .r 0 (16*i+j)) 0 cs seen).2).1,
   (Z4Q (i+1) r (J8 Z1Q (fun j=> .r 0 (16*i+j)) 0 cs seen).2).2)
def Zt4:Tail->Tail->Prop
 | _,.unk=> True
 | .full,_=> True
 | .own t,.own t'=> t=t'
 | _,_=> False
def leC(cfg:Cfg U):C U->C U->Prop
 | .int k n,.int k' n'=> k=k'/\n=n'
 | .bool b,.bool b'=> b=b'
 | .nils,.nils=> True
 | .nils,.slice _ l _=> l=[]
 | .nilp,.nilp=> True
 | .nilp,.po _ o=> o=none
 | .po T o,.po T' o'=> match cfg.tyEq T T' with
  | isTrue h=> h▸o=o'
  | isFalse _=> False
 | .slice T l tl,.slice T' l' tl'=> match cfg.tyEq T T' with
  | isTrue h=> h▸l=l'/\Zt4 tl tl'
  | isFalse _=> False
 | .mref t,.mref t'=> t=t'
 | .xp k,.xp k'=> k=k'
 | .kc v,.kc v'=> v=v'
 | _,_=> False
def leL(cfg:Cfg U):List (C U)->List (C U)->Prop
 | [],[]=> True
 | c ::r,c' ::r'=> leC cfg c c'/\leL cfg r r'
 | _,_=> False
def leR(cfg:Cfg U):List (Bool × List (C U))->List (Bool × List (C U))->Prop
 | [],[]=> True
 | (b,cs) ::r,(b',cs') ::r'=> b=b'/\leL cfg cs cs'/\leR cfg r r'
 | _,_=> False
def Zex:V U->Option (List (Bool × List (C U)))
 | .kv v=> some [(false,[.kc v])]
 | .c x=> some [(false,[x])]
 | .agg cs=> some [(true,cs)]
 | .tup ws=> if ws.length=1 then none else some ws
 | _=> none
def ZHp(cfg:Cfg U)(x y:LC U):Prop:=
 match cfg.tyEq x.T y.T with
 | isTrue h=> h▸x.l=y.l/\x.f=y.f
 | isFalse _=> False
def Zhv(cfg:Cfg U)(ls:List (Tok × LC U))(seen:List (Tok × Tok)):List (Tok × LC U)->Prop
 | []=> True
 | (t,y) ::r=> (match Z1j seen t with
  | some u=> YG seen u=some t/\match Zt (fun _=> none) ls u with
   | some x=> ZHp cfg x y
   | none=> False
  | none=> False)/\Zhv cfg ls seen r
def Zsq(cfg:Cfg U)(mem:List (Name × List (C U)))(ls:List (Tok × LC U))(L:List (Tok × LC U)):(k:Nat)->List (List (C U))->List (Tok × Tok)->Prop
 | _,[],seen=> Zhv cfg ls seen L
 | k,cs' ::r,seen=> match Z4b mem (.x k) with
  | some cs=> leL cfg (Z1v Z1Q (.x k) 0 [] cs seen).1 cs'/\Zsq cfg mem ls L (k+1) r (Z1v Z1Q (.x k) 0 [] cs seen).2
  | none=> False
def Zhw(cfg:Cfg U)(n:Nat)(rs:List ResultVar)(r:V U)(X:List (List (C U)))(L:List (Tok × LC U))(s:LSt U):Prop:=
 match Z7U cfg (s.toF n) rs,Zex r with
 | some ws,some ws'=> leR cfg (Z4Q 0 ws []).1 ws'/\Zsq cfg s.mem s.ls L 0 X (Z4Q 0 ws []).2
 | _,_=> False
def ZFc(cfg:Cfg U)(n:Nat)(rs:List ResultVar)(r:V U)(X:List (List (C U)))(s:LSt U):Prop:=Zhw cfg n rs r X [] s
def JX(cfg:Cfg U)(n:Nat)(rs:List ResultVar)(r:V U)(X:List (List (C U)))(L:List (Tok × LC U))(e:AExit)(s:LSt U):Prop:=
 match e with
 | .exit _=> False
 | _=> Zhw cfg n rs r X L s
def JZ(cfg:Cfg U)(n:Nat)(rs:List ResultVar)(r:V U)(X:List (List (C U)))(e:AExit)(s:LSt U):Prop:=
 match e with
 | .exit _=> False
 | _=> ZFc cfg n rs r X s
theorem ZlR{ls:List (Tok × LC U)}{seen:List (Tok × Tok)}{g2:Gh}(h:Rel cfg B st g a w)(hls:∀ t,st.ls t=Zt (fun _=> none) ls t)(hr:Ren (fun _=> true) g seen g2):∀ {L:List (Tok × LC U)},Zhv cfg ls seen L->
  ∀ t x,Zt (fun _=> none) L t=some x->LRel cfg w g2 t x
 | [],_,t,x,hx=> by trivial
 | (t0,y) ::L,hE,t,x,hx=> by
  obtain ⟨h1,h2⟩:=hE
  simp only [Zt] at hx
  split at hx
  .rename_i e
   subst e
   cases hx
   split at h1
   case h_2=> exact h1.elim
   rename_i u hu
   obtain ⟨h3,d⟩:=h1
   split at d
   case h_2=> exact d.elim
   rename_i x ae
   unfold ZHp at d
   split at d
   case h_2=> exact d.elim
   rename_i hT _
   obtain ⟨T,l,f⟩:=x
   obtain ⟨T',l',f'⟩:=y
   simp only at hT
   subst hT
   obtain ⟨h5,h6⟩:=d
   simp only at h5 h6
   subst h5 h6
   obtain ⟨_,hL⟩:=h.ls u _ ((hls u).trans ae)
   have aa:∀ c,g.tag c=some (.tok u)->g2.tag c=some (.tok t):=fun c hc=> hr.tok c u t hc h3
   rcases hL with ⟨e1,e2⟩ | ⟨b,len,cap,e1,e2,e3,e4,e5,e6⟩
   .exact .inl ⟨hr.bs _ _ _ rfl hu e1,e2⟩
   .refine .inr ⟨b,len,cap,hr.bs _ _ _ rfl hu e1,e2,e3,e4,fun i y hy j c hc=> ?_,fun j a1 a2=> aa _ (e6 j a1 a2)⟩
    obtain ⟨v,e7,e8,e9,af⟩:=e5 i y hy j c hc
    exact ⟨v,e7,by rw [hr.m];exact e8,fun hi=> by rw [hr.m];exact e9 hi,fun hi=> aa _ (af hi)⟩
  .exact ZlR h hls hr h2 t x hx
theorem Zvz{g:Gh}{v:Value}{c c':C U}(h:leC cfg c c')(hr:RelC cfg g ZF v c):RelC cfg g ZF v c':=by
 cases c <;> cases c' <;> simp only [leC] at h
 case int.int k n k' n'=> obtain ⟨rfl,rfl⟩:=h;exact hr
 case bool.bool=> subst h;exact hr
 case nils.nils=> exact hr
 case nilp.nilp=> exact hr
 case nilp.po T o=>
  subst h
  have d:=hr.1
  cases d
  exact ⟨.pnil T,trivial⟩
 case po.po T o T' o'=>
  split at h
  .rename_i hT _
   subst hT
   simp only at h
   subst h
   exact hr
  .exact h.elim
 case mref.mref t t'=> subst h;exact hr
 case xp.xp k k'=> subst h;exact hr
 case kc.kc v v'=> subst h;exact hr
 case nils.slice T l tl=>
  subst h
  have d:=hr.1
  cases d
  refine ⟨.snil T tl,?_⟩
  cases tl with
  | unk=> trivial
  | full=> intro a len aa hv;simp at hv;omega
  | own t=> intro _ a len aa hv;simp at hv
 case slice.slice T l tl T' l' tl'=>
  split at h
  .rename_i hT _
   subst hT
   obtain ⟨d,h2⟩:=h
   simp only at d
   subst d
   refine ⟨hr.1.tl _,?_⟩
   cases tl' with
   | unk=> trivial
   | full=> cases tl <;> simp only [Zt4] at h2;exact hr.2
   | own t'=>
    cases tl with
    | unk=> exact h2.elim
    | full=>
     intro _ b len aa hv j h3 h4
     have:=hr.2 _ _ _ hv
     subst this
     omega
    | own t=> have:t=t':=h2;subst this;exact hr.2
  .exact h.elim
theorem Znk{g:Gh}:∀ {vs:List Value} {cs cs':List (C U)},leL cfg cs cs'->RelL cfg g ZF vs cs->RelL cfg g ZF vs cs'
 | vs,[],[],_,hr=> hr
 | vs,c ::cs,c' ::cs',h,hr=> by
  obtain ⟨h1,h2⟩:=h
  match vs,hr with
  | v ::vs,hr=>
   have h3:=Znk (vs:=vs) h2 ⟨by simpa using hr.1,fun j v' c hv hc=> hr.2 (j+1) v' c (by simpa using hv) (by simpa using hc)⟩
   refine ⟨by simp [h3.1],fun j v' d hv hd=> ?_⟩
   cases j with
   | zero=> simp at hv hd;subst hv hd;exact Zvz h1 (hr.2 0 _ _ rfl rfl)
   | succ j=> exact h3.2 j v' d (by simpa using hv) (by simpa using hd)
  | [],hr=> have:=hr.1;simp at this
theorem ZEm{g:Gh}{v:Value}{ag:Bool}{cs cs':List (C U)}(h:leL cfg cs cs')(hr:RelW cfg g ZF v ag cs):RelW cfg g ZF v ag cs':=by
 cases ag with
 | true=> obtain ⟨vs,h1,d⟩:=hr;exact ⟨vs,h1,Znk h d⟩
 | false=>
  obtain ⟨c,rfl,d⟩:=hr
  match cs',h with
  | [c'],h=> exact ⟨c',rfl,Zvz h.1 d⟩
def RelWs(cfg:Cfg U)(g:Gh)(dead:Tok->Bool)(vs:List Value)(ws:List (Bool × List (C U))):Prop:=
 vs.length=ws.length/\∀ (j:Nat) u w,vs[j]?=some u->ws[j]?=some w->RelW cfg g dead u w.1 w.2
theorem RelWs.cons{g:Gh}{dead:Tok->Bool}{v:Value}{w:Bool × List (C U)}{vs:List Value}{ws:List (Bool × List (C U))}(h:RelW cfg g dead v w.1 w.2)(hs:RelWs cfg g dead vs ws):RelWs cfg g dead (v ::vs) (w ::ws):=by
 refine ⟨by simp [hs.1],fun j u x d hx=> ?_⟩
 cases j with
 | zero=> grind
 | succ j=> exact hs.2 j u x (by simpa using d) (by simpa using hx)
theorem RelWs.uncons{g:Gh}{dead:Tok->Bool}{vs:List Value}{w:Bool × List (C U)}{ws:List (Bool × List (C U))}(h:RelWs cfg g dead vs (w ::ws)):∃ v r,vs=v ::r/\RelW cfg g dead v w.1 w.2/\RelWs cfg g dead r ws:=by
 match vs,h with
 | v ::r,h=> exact ⟨v,r,rfl,h.2 0 _ _ rfl rfl,by simpa using h.1,fun j u x d hx=> h.2 (j+1) u x (by simpa using d) (by simpa using hx)⟩
 | [],h=> have:=h.1;simp at this
theorem Zvy{g:Gh}:∀ {vs:List Value} {ws ws':List (Bool × List (C U))},leR cfg ws ws'->RelWs cfg g ZF vs ws->RelWs cfg g ZF vs ws'
 | vs,[],[],_,hr=> hr
 | vs,(b,cs) ::ws,(b',cs') ::ws',h,hr=> by
  obtain ⟨rfl,h1,d⟩:=h
  obtain ⟨v,r,rfl,h3,h4⟩:=hr.uncons
  exact .cons (ZEm h1 h3) (Zvy d h4)
theorem Zgt(hd:∀ t,Z1Q t=true->st.dead t=false):∀ (ws:List (Bool × List (C U))) (i:Nat) (seen:List (Tok × Tok)),
  Ext seen (Z4Q i ws seen).2/\∀ s',Ext (Z4Q i ws seen).2 s'->∀ g2,Ren (fun _=> true) g s' g2->∀ vs,RelWs cfg g st.dead vs ws->RelWs cfg g2 ZF vs (Z4Q i ws seen).1
 | [],i,seen=> ⟨.refl _,fun s' _ g2 _ vs h=> ⟨h.1,fun j u w _ hw=> by trivial⟩⟩
 | (ag,cs) ::ws,i,seen=> by
  obtain ⟨h3,h4,h5⟩:=Z6E (cfg:=cfg) (g:=g) (okT:=fun _=> true) (mine:=Z1Q) (nm:=fun j=> .r 0 (16*i+j)) hd (fun _=> rfl) cs 0 seen
  obtain ⟨h6,h7⟩:=Zgt hd ws (i+1) (J8 Z1Q (fun j=> .r 0 (16*i+j)) 0 cs seen).2
  refine ⟨h3.trans h6,fun s' hs g2 hg vs h=> ?_⟩
  obtain ⟨v,r,rfl,h8,h9⟩:=h.uncons
  refine .cons ?_ (h7 s' hs g2 hg r h9)
  have hL:∀ us,RelL cfg g st.dead us cs->RelL cfg g2 ZF us (J8 Z1Q (fun j=> .r 0 (16*i+j)) 0 cs seen).1:=fun us hu=>
   ⟨by rw [h4];exact hu.1,fun j u c ai hc=> by
    have hj:j < cs.length:=by have:=(Q4.1 hc).1;omega
    exact h5 s' (h6.trans hs) g2 hg j u _ c (Q0 hj) hc (hu.2 j u _ ai (Q0 hj))⟩
  cases ag with
  | true=> obtain ⟨us,d,af⟩:=h8;exact ⟨us,d,hL _ af⟩
  | false=>
   obtain ⟨c,d,af⟩:=h8
   simp only at d
   subst d
   have:=hL [v] ⟨rfl,fun j u c hu hc=> by
    grind⟩
   simp only [J8] at this ⊢
   exact ⟨_,rfl,this.2 0 _ _ rfl rfl⟩
theorem ZqS(h:Rel cfg B st g a w)(hdead:st.dead=ZF){mem:List (Name × List (C U))}(hm:∀ nm,st.mem nm=Z4b mem nm){ls L:List (Tok × LC U)}:∀ (X:List (List (C U))) (k:Nat) (seen:List (Tok × Tok)),Zsq cfg mem ls L k X seen->
  ∃ s',Ext seen s'/\Zhv cfg ls s' L/\∀ s2,Ext s' s2->∀ d,RenA (fun _=> true) g s2 d->∀ (i:Nat) cs,X[i]?=some cs->∀ (j:Nat) c,cs[j]?=some c->∃ v,w.cell? ((g.ad (.x (k+i))).add j)=some v/\g.tag ((g.ad (.x (k+i))).add j)=some (.obj (.x (k+i)))/\RelC cfg d ZF v c
 | [],k,seen,hx=> ⟨seen,.refl _,hx,fun s2 _ d _ i cs hi=> by simp at hi⟩
 | cs' ::X,k,seen,hx=> by
  simp only [Zsq] at hx
  split at hx
  .rename_i cs al
   obtain ⟨h1,h2⟩:=hx
   have hd:∀ t,Z1Q t=true->st.dead t=false:=fun t _=> by rw [hdead];try rfl
   obtain ⟨h3,h4,h5⟩:=Z6L (cfg:=cfg) (g:=g) (okT:=fun _=> true) (mine:=Z1Q) (nm:= .x k) hd (fun _=> rfl) cs 0 [] seen
   obtain ⟨s',h6,aj,h7⟩:=ZqS h hdead hm X (k+1) _ h2
   refine ⟨s',h3.trans h6,aj,fun s2 hs d hg i a8 hi j c hj=> ?_⟩
   cases i with
   | zero=>
    simp at hi
    subst hi
    have ae:st.mem (.x k)=some cs:=by rw [hm];exact al
    let f:Nat->Value:=fun j=> (w.cell? ((g.ad (.x k)).add j)).getD undef
    have hf:∀ j c,cs[j]?=some c->w.cell? ((g.ad (.x k)).add j)=some (f j)/\g.tag ((g.ad (.x k)).add j)=some (.obj (.x k))/\RelC cfg g st.dead (f j) c:=fun j c hc=> by
     obtain ⟨v,h8,h9,aw⟩:=h.mem _ _ ae j c hc
     grind
    have hR:RelL cfg d ZF ((List.range cs.length).map f) (Z1v Z1Q (.x k) 0 [] cs seen).1:=by
     have ak:=RelL.of_get (cfg:=cfg) (g:=g) (st:=st) (f:=f) (fun j c hc=> (hf j c hc).2.2)
     refine ⟨by grind,fun j u c hu hc=> ?_⟩
     have hj:j < cs.length:=by have:=(Q4.1 hc).1;omega
     exact h5 s2 (h6.trans hs) d hg j u _ c (Q0 hj) hc (ak.2 j u _ hu (Q0 hj))
    have ah:=Znk h1 hR
    have af:j < cs.length:=by have a7:=(Q4.1 hj).1;have:=ah.1;simp at this;omega
    obtain ⟨ax,au,_⟩:=hf j _ (Q0 af)
    refine ⟨f j,V0,V0,ah.2 j _ c (by simp [af]) hj⟩
   | succ i=>
    grind
  grind
theorem ZeV:∀ (args:List (V U)) (i k:Nat),ZfK (Z6q i args) k=if i<=k then (args[k - i]?).getD .junk else .junk
 | [],i,k=> by simp [Z6q,ZfK]
 | v ::args,i,k=> by
  simp only [Z6q,ZfK]
  cases hk:Nat.beq i k with
  | true=>
   simp_all
  | false=>
   have d:i≠k:=fun e=> by simp_all
   simp only [cond_false]
   rw [ZeV args (i+1) k]
   grind
theorem Z3s:∀ (X:List (List (C U))) (k:Nat) (nm:Name),Z4b (Z6p k X) nm=match nm with | .x i=> if k<=i then X[i - k]? else none | .loc _=> none
 | [],k,nm=> by cases nm <;> simp [Z6p,Z4b]
 | cs ::X,k,nm=> by
  simp only [Z6p,Z4b]
  cases nm with
  | loc s=> simp [Z3s X (k+1) (.loc s)]
  | x i=>
   by_cases h:k=i
   .subst h;simp
   .rw [if_neg (fun e=> by grind),Z3s X (k+1) (.x i)]
    grind
theorem Zrh(ok:CfgOk P cfg)(h:Rel cfg B st g a w){rv:ResultVar}{x:Bool × List (C U)}(he:ZaN cfg st rv=some x):
  ∃ v,(match rv with | .tmp t=> pure (a.tmps.getD t undef) | .cell t ty=> do loadVar ty (<-asAddr (a.tmps.getD t undef)):Sem Value).run P w= .ok v w/\RelW cfg g st.dead v x.1 x.2:=by
 cases rv with
 | tmp t=>
  have d:=h.env t
  simp only [ZaN] at he
  split at he <;> simp only [Option.some.injEq,reduceCtorEq] at he
  .rename_i c hc;rw [hc] at d;subst he;exact ⟨_,rfl,c,rfl,d⟩
  .rename_i cs hc;rw [hc] at d;subst he;exact ⟨_,rfl,d⟩
  .rename_i t' u hc;rw [hc] at d;subst he;exact ⟨_,rfl,_,rfl,by rw [show a.tmps.getD t undef= .iface t' u from d];exact .kc _ ⟨rfl,rfl⟩,trivial⟩
 | cell t ty=>
  have d:=h.env t
  simp only [ZaN] at he
  split at he
  .rename_i ag zs hv
   cases hrd:rd st (st.env t) ag zs.length with
   | none=> grind
   | some y=>
    obtain ⟨v,h1,h2⟩:=Zem (w:=w) ok h hv d hrd
    refine ⟨v,?_,?_⟩
    .have hp:∃ b,a.tmps.getD t undef= .pointer (some b):=by
      cases hx:st.env t with
      | ptr nm off=> rw [hx] at d;exact ⟨_,d.2⟩
      | ep cs=> rw [hx] at d;obtain ⟨b,hb,_⟩:=d;grind
      | ap nm off k len i=> rw [hx] at d;exact ⟨_,d.2.2⟩
      | _=> rw [hx] at hrd;simp [rd] at hrd
     obtain ⟨b,hb⟩:=hp
     rw [hb] at h1
     show (do let x <-asAddr (a.tmps.getD t undef);loadVar ty x:Sem Value).run P w=_
     rw [hb]
     trivial
    .rw [hrd] at he
     cases y <;> simp only [Option.some.injEq,reduceCtorEq] at he
     .subst he;exact ⟨_,rfl,h2⟩
     .subst he;exact h2
  .cases he
theorem Zgu(ok:CfgOk P cfg)(h:Rel cfg B st g a w):∀ {rs:List ResultVar} {ws:List (Bool × List (C U))},Z7U cfg st rs=some ws->
  ∃ vs,(rs.mapM fun rv=> (match rv with | .tmp t=> pure (a.tmps.getD t undef) | .cell t ty=> do loadVar ty (<-asAddr (a.tmps.getD t undef)):Sem Value)).run P w= .ok vs w/\RelWs cfg g st.dead vs ws
 | [],ws,he=> by
  simp only [Z7U,Option.some.injEq] at he
  subst he
  exact ⟨[],by simp,rfl,fun j u w d=> by simp at d⟩
 | r ::rs,ws,he=> by
  simp only [Z7U] at he
  split at he
  .rename_i x l hx hl
   simp only [Option.some.injEq] at he
   subst he
   obtain ⟨v,h1,h2⟩:=Zrh (w:=w) ok h hx
   obtain ⟨vs,h3,h4⟩:=Zgu ok h hl
   refine ⟨v ::vs,?_,.cons h2 h4⟩
   simp_all
  .cases he
theorem Zrq{g:Gh}{live:Name->Bool}{r:V U}{ws:List (Bool × List (C U))}{vs:List Value}(hp:Zex r=some ws)(h:RelWs cfg g ZF vs ws):
  RelV cfg g ZF live (if hs:vs.toArray.size=1 then vs.toArray[0] else .tuple vs.toArray) r:=by
 cases r <;> simp only [Zex,Option.some.injEq,reduceCtorEq] at hp
 case c x=>
  subst hp
  obtain ⟨v,r,rfl,h1,d⟩:=h.uncons
  have:r=[]:=Q1 (by simpa using d.1)
  subst this
  obtain ⟨c,hc,hr⟩:=h1
  cases hc
  exact hr
 case agg cs=>
  subst hp
  obtain ⟨v,r,rfl,h1,d⟩:=h.uncons
  have:r=[]:=Q1 (by simpa using d.1)
  subst this
  exact h1
 case kv u=>
  subst hp
  obtain ⟨v,r,rfl,h1,d⟩:=h.uncons
  have:r=[]:=Q1 (by simpa using d.1)
  subst this
  obtain ⟨c,hc,hr⟩:=h1
  cases hc
  have:=hr.1
  cases this
  try rfl
 case tup ws'=>
  split at hp
  .cases hp
  .rename_i hl
   simp only [Option.some.injEq] at hp
   subst hp
   have ae:vs.toArray.size≠1:=by have:=h.1;simpa [this] using hl
   rw [dif_neg ae]
   exact ⟨_,rfl,by simpa using h.1,fun j u w hu hw=> h.2 j u w (by simpa using hu) hw⟩
def Zdh(cfg:Cfg U)(a b:C U):Prop:=∀ g v,RelC cfg g ZF v a->RelC cfg g ZF v b
def ZfB(cfg:Cfg U)(a b:V U):Prop:=∀ g live v,RelV cfg g ZF live v a->RelV cfg g ZF live v b
structure BetterAll (cfg:Cfg U) (args args':List (V U)) (X X':List (List (C U))):Prop where
 len:args.length=args'.length
 args:∀ (j:Nat) x y,args[j]?=some x->args'[j]?=some y->ZfB cfg x y
 xlen:X.length=X'.length
 xl:∀ (k:Nat) x y,X[k]?=some x->X'[k]?=some y->x.length=y.length
 x:∀ (k:Nat) x y,X[k]?=some x->X'[k]?=some y->∀ (j:Nat) c c',x[j]?=some c->y[j]?=some c'->Zdh cfg c c'
theorem Entry.better{w:World}{g:Gh}{vs:List Value}{args args':List (V U)}{X X':List (List (C U))}{L L':List (Tok × LC U)}(h:Entry cfg w g vs args X L)(b:BetterAll cfg args args' X X')(hL:∀ t x,Zt (fun _=> none) L' t=some x->Zt (fun _=> none) L t=some x):Entry cfg w g vs args' X' L':=by
 refine ⟨h.inv,h.tags,h.len.trans b.len,fun j v y hv hy=> ?_,fun k cs hk j c hj=> ?_,h.bs,fun t x d=> h.ls t x (hL t x d)⟩
 .have hj:j < args.length:=by have:=(Q4.1 hy).1;have:=b.len;omega
  have d:=Q0 hj
  have:=b.args j _ y d hy g _ v (h.args j v _ hv d)
  have hl:Z67 X'=Z67 X:=by
   funext nm
   cases nm with
   | loc s=> rfl
   | x k=>
    have ah:=b.xlen
    show (X'[k]?).isSome=(X[k]?).isSome
    grind
  grind
 .have af:k < X.length:=by have:=(Q4.1 hk).1;have:=b.xlen;omega
  have d:=Q0 af
  have ab:j < (X[k]).length:=by have:=(Q4.1 hj).1;have:=b.xl k _ _ d hk;omega
  have hc:=Q0 ab
  obtain ⟨v,h1,h2,h3⟩:=h.x k _ d j _ hc
  exact ⟨v,h1,h2,b.x k _ _ d hk j _ c hc hj g v h3⟩
theorem BetterAll.refl(args:List (V U))(X:List (List (C U))):BetterAll cfg args args X X:=
 ⟨rfl,fun j x y hx d=> by rw [hx] at d;cases d;exact fun _ _ _ h=> h,rfl,fun k x y hx d=> by grind,
  fun k x y hx d j c c' hc aa=> by rw [hx] at d;cases d;rw [hc] at aa;cases aa;exact fun _ _ h=> h⟩
theorem Zo4 {Γ:Known U} {draws:Array Oper->FSt U->Bool} (ok:CfgOk P cfg) (hΓ:∀ f s,Γ f=some s->Contract P cfg f s) (hdr:Zap P cfg Γ draws) {f:FuncId} {fn:Func} {c:Code} (lv:Zb U)
  (hf:P.funcs[f]?=some fn) (hb:fn.body=some c) {args:List (V U)} {X:List (List (C U))} {L:List (Tok × LC U)} {w:World} {g:Gh} {vs:List Value} (E:Entry cfg w g vs args X L) (hn:args.length<=fn.ntmps) {Q:AExit->LSt U->Prop}
  (hawp:awp cfg Γ draws fn.ntmps lv c (Ja args X L) Q) {R:Ending->World->Prop}
  (hq:∀ e' s' g' a' d,Q e' s'->Rel cfg ⟨w,g.m,g.tag,fun k=> g.ad (.x k)⟩ (s'.toF fn.ntmps) g' a' d->(∀ id,e'≠.exit id)/\a'.defers=[]/\∃ v,(results fn a'.tmps).run P d= .ok v d/\R (.returned v) d):Calls P f vs.toArray w R:=by
 let B:Base:=⟨w,g.m,g.tag,fun k=> g.ad (.x k)⟩
 have ao:vs.length<=fn.ntmps:=by rw [E.len];exact hn
 have ab:Rel cfg B ((Ja args X L).toF fn.ntmps) g { tmps:=vs.toArray++Array.replicate (fn.ntmps - vs.toArray.size) undef,defers:=[] } w:=by
  refine ⟨E.inv,⟨⟨rfl,rfl,rfl,Qg _⟩,fun _=> rfl,fun _ _ h=> h,fun c t h=> ⟨h,rfl⟩,fun c t h=> h,fun b _ _=> ⟨rfl,fun _ _=> rfl⟩,fun _ _=> rfl⟩,?_,?_,?_,rfl,fun t x hx=> ⟨rfl,E.ls t x hx⟩,fun t ht _ _=> E.bs t ht⟩
  .intro k
   have hl:(fun nm:Name=> (((Ja args X L).toF fn.ntmps).mem nm).isSome)=Z67 X:=by
    funext nm
    simp only [LSt.toF,Ja,Z3s]
    cases nm <;> simp [Z67]
   rw [hl]
   simp only [LSt.toF,Ja,ZeV,X6,if_true,XR]
   cases hx:args[k]? with
   | none=> exact trivial
   | some x=>
    have hk:k < vs.length:=by rw [E.len];exact (Q4.1 hx).1
    have hv:vs[k]?=some vs[k]:=Q0 hk
    have:=E.args k _ x hv hx
    have hg:(vs.toArray++Array.replicate (fn.ntmps - vs.toArray.size) undef).getD k undef=vs[k]:=by
     simp [Array.getD,hk]
     intro h;omega
    grind
  .intro nm cs hm j c hc
   simp only [LSt.toF,Ja,Z3s] at hm
   cases nm with
   | loc s=> simp at hm
   | x k=>
    simp at hm
    exact E.x k cs hm j c hc
  .simp only [LSt.toF]
   grind
 have ak:=Zsh (B:=B) ok hΓ hdr (n:=fn.ntmps) (lv:=lv) c _ _ g _ w hawp ab
 refine calls_of_wp (R:=R) (args:=vs.toArray) hf hb (wp_mono ak ?_)
 rintro e a' d ⟨e',s',g',rfl,hQ,hr⟩
 obtain ⟨h0,h1,h2⟩:=hq e' s' g' a' d hQ hr
 cases e' with
 | normal=> trivial
 | ret=> trivial
 | exit id=> grind
theorem Z5e {Γ:Known U} {draws:Array Oper->FSt U->Bool} (ok:CfgOk P cfg) (hΓ:∀ f s,Γ f=some s->Contract P cfg f s) (hdr:Zap P cfg Γ draws) {f:FuncId} {fn:Func} {c:Code} {s:Fs U} (lv:Zb U)
  (hf : P.funcs[f]? = some fn) (hb : fn.body = some c) (hname : (fn.name == "runtime.NumGoroutine") = false)
  (hbody:∀ args X L ps r X' L',s.fn2 args X L=some (ps,r,X',L')->All ps->∃ args' X0 L0,BetterAll cfg args args' X X0/\(∀ t x,Zt (fun _=> none) L0 t=some x->Zt (fun _=> none) L t=some x)/\args'.length<=fn.ntmps/\awp cfg Γ draws fn.ntmps lv c (Ja args' X0 L0) (JX cfg fn.ntmps fn.results.toList r X' L')) (hi:s.inp=none:=by rfl):Contract P cfg f s:=by
 refine ⟨⟨fn,hf,by simp [hb],hname⟩,?_,fun i h=> by rw [hi] at h;cases h⟩
 intro al X1 L1 ps r X' L' hs a6 hX w g vs E1
 obtain ⟨args,X,L,af,hL,hn,ao⟩:=hbody al X1 L1 ps r X' L' hs a6
 have E:=E1.better af hL
 refine Zo4 ok hΓ hdr lv hf hb E hn ao ?_
 .intro e' s' g' a' w' hQ hr
  have hE:Zhw cfg fn.ntmps fn.results.toList r X' L' s':=by cases e' <;> first | exact hQ | exact hQ.elim
  refine ⟨fun id e=> by subst e;exact hQ,?_⟩
  refine ⟨hr.df,?_⟩
  unfold Zhw at hE
  split at hE
  case h_2=> exact hE.elim
  rename_i ws bi am aj
  obtain ⟨a2,hx⟩:=hE
  obtain ⟨us,h1,h2⟩:=Zgu (w:=w') ok hr am
  have hd:∀ t,Z1Q t=true->(s'.toF fn.ntmps).dead t=false:=fun t _=> rfl
  obtain ⟨h3,h4⟩:=Zgt (cfg:=cfg) (g:=g') (st:=s'.toF fn.ntmps) hd ws 0 []
  obtain ⟨sx,h5,a1,h6⟩:=ZqS hr rfl (mem:=s'.mem) (fun _=> rfl) X' 0 _ hx
  let keep:Name->Bool:=fun nm=> match nm with | .x k=> decide (k < X'.length) | .loc _=> false
  have d:∀ c,g'.tag c=none->(g'.anew sx keep (fun _=> true)).tag c=none:=fun c hc=> by simp only [Gh.anew,hc]
  have ah:∀ c t,g'.tag c=some (.outer t)↔(g'.anew sx keep (fun _=> true)).tag c=some (.outer t):=by
   intro c t
   simp only [Gh.anew]
   cases hg:g'.tag c with
   | none=> simp
   | some t0=>
    cases t0 with
    | obj nm=> cases hk:keep nm <;> simp [hk]
    | tok u=> cases hk:YG sx u <;> simp [hk]
    | outer t0=> simp
  have hW:=h4 sx h5 _ (Gh.anew_ren sx keep (fun _=> true)).toRen us h2
  have aq:=Zrq (live:=fun _=> false) aj (Zvy a2 hW)
  refine ⟨_,?_,_,g'.anew sx keep (fun _=> true),rfl,⟨fun c v hv=> ?_,fun c t ht=> ?_⟩,?_,?_,?_,aq,?_,ZlR hr (fun _=> rfl) (Gh.anew_ren sx keep (fun _=> true)).toRen a1⟩
  .simp only [results,Sem.run_bind]
   have e1:fn.results=fn.results.toList.toArray:=by simp
   rw [e1,List.mapM_toArray]
   simp only [Sem.run_map,Sem.run_pure]
   exact congrArg (fun r:Result (List Value)=> (r.andThen fun a w'=> Result.ok a.toArray w').andThen fun a w'=> Result.ok (if h:a.size=1 then a[0] else Value.tuple a) w') h1
  .obtain ⟨h7,h8⟩:=hr.inv.im c v hv
   exact ⟨h7,d c h8⟩
  .cases hg:g'.tag c with
   | none=> rw [d c hg] at ht;cases ht
   | some t0=> exact hr.inv.it c t0 hg
  .have F:Fr ⟨w,g.m,g.tag,fun k=> g.ad (.x k)⟩ (g'.anew sx keep (fun _=> true)) w':=by
    refine hr.fr.step hr.inv (Evo.refl w' (fun _=> False)) (fun c hc=> hc.elim) (fun _ _ hv=> hv) (fun c t=> ah c t) ?_ (fun _=> rfl)
    intro b _ ar o sp
    cases hg:g'.tag ⟨b,o,sp⟩ with
    | none=> exact d _ hg
    | some t=>
     obtain ⟨t',rfl⟩:=ar o sp t hg
     exact (ah _ _).1 hg
   exact ⟨F.stay,fun _=> rfl,F.mono,F.outer,F.outer',F.clean,F.frz⟩
  .intro c t ht
   simp only [Gh.anew] at ht
   split at ht
   .rename_i u hu
    cases hn:YG sx u with
    | none=> simp [hn] at ht
    | some u'=> simp [hn] at ht;exact .inr (.inr ⟨u',ht.symm⟩)
   .rename_i nm bq
    cases hk:keep nm with
    | false=> simp [hk] at ht
    | true=>
     simp [hk] at ht
     subst ht
     cases nm with
     | loc s=> simp [keep] at hk
     | x k=> exact .inr (.inl ⟨k,by simpa [keep] using hk,rfl⟩)
   .cases ht;exact .inl ⟨_,rfl⟩
   .cases ht
  .exact fun k _=> hr.fr.xad k
  .intro k cs hk j c hc
   obtain ⟨v,h7,h8,h9⟩:=h6 sx (.refl _) _ (Gh.anew_ren sx keep (fun _=> true)) k cs hk j c hc
   rw [QK] at h7 h8
   refine ⟨v,h7,?_,h9⟩
   have a8:k < X'.length:=(Q4.1 hk).1
   show (g'.anew sx keep (fun _=> true)).tag ((g'.ad (.x k)).add j)=_
   simp only [Gh.anew,h8,keep,a8,decide_true,cond_true]
theorem Zcy {Γ:Known U} {draws:Array Oper->FSt U->Bool} (ok:CfgOk P cfg) (hΓ:∀ f s,Γ f=some s->Contract P cfg f s) (hdr:Zap P cfg Γ draws) {f:FuncId} {fn:Func} {c:Code} {s:Fs U} (lv:Zb U)
  (hf : P.funcs[f]? = some fn) (hb : fn.body = some c) (hname : (fn.name == "runtime.NumGoroutine") = false)
  (hbody:∀ args X ps r X',s.fn args X=some (ps,r,X')->All ps->∃ d X0,BetterAll cfg args d X X0/\d.length<=fn.ntmps/\awp cfg Γ draws fn.ntmps lv c (Zf d X0) (JZ cfg fn.ntmps fn.results.toList r X')) (hd:s.fn2=Zcx s.fn:=by rfl) (hi:s.inp=none:=by rfl):Contract P cfg f s:=by
 refine Z5e ok hΓ hdr lv hf hb hname ?_ (hi:=hi)
 intro args X L ps r X' L' hs ae
 rw [hd] at hs
 unfold Zcx at hs
 split at hs
 .split at hs
  .rename_i h1
   cases hs
   obtain ⟨d,X0,h2,h3,h4⟩:=hbody args X _ _ _ h1 ae
   exact ⟨d,X0,[],h2,fun t x hx=> hx,h3,h4⟩
  .cases hs
 .cases hs
end Go.AM
