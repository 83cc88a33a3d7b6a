import Derived.Test.YtcljdbpmjdgooaaEmH
import Derived.Test.YtcljdbpmjdgooaaEmT
import Derived.WalkSpells
import Derived.Lib.SliceRun
set_option linter.unusedSimpArgs false
set_option linter.unusedVariables false
namespace Go.AM
variable {U:Uni} {P:Program} {cfg:Cfg U} {B:Base} {st:FSt U} {g:Gh} {a:Act} {w:World}
theorem Z30(ps:Nat->Bool):∀ (xs:List (V U)) (i:Nat) (os:List (Name × List (C U))) (seen:List (Tok × Tok)),Yf st.strip ps i xs os seen=Yf st ps i xs os seen
 | [],i,os,seen=> rfl
 | x ::xs,i,os,seen=> by
  simp only [Yf,Z30 ps xs]
  try rfl
theorem Z6W:∀ (l h:List Name),Z46 st.strip l h=Z46 st l h
 | [],h=> rfl
 | nm ::l,h=> by
  simp only [Z46,Z6W l]
  try rfl
theorem Z79(Γ:Known U)(d:Nat)(f:FuncId)(args:List (V U)):Z2v Γ st.strip d f args=Z2v Γ st d f args:=by
 have hl:∀ (L:List (Tok × LC U)),Jl st.strip d L=Jl st d L:=by
  intro L
  induction L with
  | nil=> rfl
  | cons x L ih=>
   obtain ⟨t,x⟩:=x
   simp only [Jl,ih]
   try rfl
 have hx:Z0n st.strip args=Z0n st args:=by simp only [Z0n,Z6W]
 simp only [Z2v,Z30,hl,hx]
 try rfl
theorem Z4t{lo:Option Operand}{x:Option (V U)}(h:JL st.strip lo=some x)(hop:∀ y,lo=some y->∀ v,st.strip.opnd y=some v->RelV cfg g st.dead (fun nm=> (st.mem nm).isSome) (a.eval y) v):
  Zh8 cfg g st.dead (fun nm=> (st.mem nm).isSome) (lo.map a.eval) x:=by
 cases lo with
 | none=> simp only [JL,Option.some.injEq] at h;subst h;trivial
 | some y=>
  simp only [JL] at h
  cases hy:st.strip.opnd y with
  | none=> simp [hy] at h
  | some v=>
   simp [hy] at h
   subst h
   exact hop y rfl v hy
theorem Z8M{f:Operand->Option (V U)}:∀ {l:List (Nat × Operand)} {ps:List (Nat × V U)},l.mapM (fun x=> (f x.2).map (x.1,·))=some ps->
  l.length=ps.length/\∀ (j:Nat) x y,l[j]?=some x->ps[j]?=some y->x.1=y.1/\f x.2=some y.2
 | [],ps,h=> by grind
 | x ::l,ps,h=> by
  rw [QF] at h
  cases h1:f x.2 with
  | none=> simp [h1] at h
  | some v=>
   cases h2:l.mapM (fun x=> (f x.2).map (x.1,·)) with
   | none=> grind
   | some r=>
    simp [h1,h2] at h
    subst h
    obtain ⟨h3,h4⟩:=Z8M h2
    grind
theorem Zcl{f:Operand->Option (V U)}:∀ {l:List (Nat × Operand)} {ps:List (Nat × List (C U))},l.mapM (fun x=> ((f x.2).bind V.cells).map (x.1,·))=some ps->
  l.length=ps.length/\∀ (j:Nat) x y,l[j]?=some x->ps[j]?=some y->x.1=y.1/\∃ v,f x.2=some v/\v.cells=some y.2:=by
 intro l ps h
 have h':l.mapM (fun x=> ((fun o=> (f o).bind V.cells) x.2).map (x.1,·))=some ps:=h
 generalize hg:(fun o=> (f o).bind V.cells)=F at h'
 have key:∀ {l:List (Nat × Operand)} {ps:List (Nat × List (C U))},l.mapM (fun x=> (F x.2).map (x.1,·))=some ps->
   l.length=ps.length/\∀ (j:Nat) x y,l[j]?=some x->ps[j]?=some y->x.1=y.1/\F x.2=some y.2:=by
  intro l
  induction l with
  | nil=> grind
  | cons x l ih=>
   intro ps h
   rw [QF] at h
   cases h1:F x.2 with
   | none=> simp [h1] at h
   | some v=>
    cases h2:l.mapM (fun x=> (F x.2).map (x.1,·)) with
    | none=> grind
    | some r=>
     simp [h1,h2] at h
     subst h
     obtain ⟨h3,h4⟩:=ih h2
     refine ⟨by simp [h3],fun j y z hy hz=> ?_⟩
     cases j with
     | zero=> grind
     | succ j=> grind
 obtain ⟨k1,k2⟩:=key h'
 refine ⟨k1,fun j x y hx hy=> ?_⟩
 obtain ⟨k3,k4⟩:=k2 j x y hx hy
 refine ⟨k3,?_⟩
 rw [<-hg] at k4
 simp only at k4
 cases hf:f x.2 with
 | none=> grind
 | some v=> grind
theorem SimC.int_eq{m:Addr->Option Value}{v:Value}{k:IntKind}{n:Int}(h:SimC cfg m v (.int k n)):v= .int k n:=by
 cases h;rfl
theorem SimC.bool_eq{m:Addr->Option Value}{v:Value}{b:Bool}(h:SimC cfg m v (.bool b)):v= .bool b:=by
 cases h;rfl
theorem SimC.nilp_eq{m:Addr->Option Value}{v:Value}(h:SimC cfg m v .nilp):v= .pointer none:=by
 cases h;rfl
theorem Z3C(ok:CfgOk P cfg){t:TypeId}(hz:cfg.var t=some (false,[.nilp])):P.underlying t=some (.pointer (P.pointee t)):=by
 obtain ⟨e,he⟩:=ok.ptr t hz
 have:P.pointee t=e:=by simp [Program.pointee,he]
 grind
theorem bind_some{α β:Type}{x:Option α}{f:α->Option β}{b:β}(h:x.bind f=some b):∃ a,x=some a/\f a=some b:=by
 cases x with
 | none=> simp at h
 | some a=> grind
theorem Zi9(ok:CfgOk P cfg){T:U.Ty}{o:Option (U.El T)}{live:Name->Bool}{v:Value}(h:RelV cfg g st.dead live v (.c (.po T o)))(ho:o.isSome=true):RelV cfg g st.dead live v (.ep (cfg.enc T (o.getD (cfg.dflt T)))):=by
 obtain ⟨h1,_⟩:=h
 cases o with
 | none=> cases ho
 | some x=>
  cases h1 with
  | po _ _ b vs hm hs=> exact ⟨b,rfl,fun j c hc=> ⟨_,hm j c hc,hs j c hc,Z4p (ok.enc_plain _ _ c (QC hc))⟩⟩
theorem Zh5{Γ:Known U}{d:Nat}{f:FuncId}{r:List Prop × Eff U}{ps:List Prop}{e:Eff U}(he:Z4b cfg Γ st d f r=some (ps,e)):r.1=ps:=by
 unfold Z4b at he
 split at he
 .split at he
  .cases he;rfl
  .split at he
   .rw [cond_eq_ite] at he
    split at he
    .cases h1:YG cfg _ _ 0 (some (V.c (C.mref Tok.A))) with
     | none=> rw [h1] at he;cases he
     | some e'=> rw [h1] at he;cases he;rfl
    .cases he
   .cases he
 .cases he;rfl
theorem Z0F {Γ:Known U} (ok:CfgOk P cfg) (hΓ:∀ f s,Γ f=some s->Contract P cfg f s) (hna:Γ.na=true->B.ab=none) (h:Rel cfg B st g a w) {o:Oper} (hop:Znu cfg st g a o) {ps:List Prop} {e:Eff U}
  (he:aop cfg Γ o st.strip=some (ps,e)) (hps:All ps):Does P o a w fun v w'=> ∃ g',Out cfg B st g e v w' g':=by
 have val:∀ {s:Sem Value} {x:V U},(∃ r,s.run P w= .ok r w/\RelV cfg g st.dead (fun nm=> (st.mem nm).isSome) r x)->execOp a.eval o=(do pure (.value (<-s)):Sem Next)->
   Does P o a w fun v w'=> ∃ g',Out cfg B st g { val:=some x } v w' g':=by
  rintro s x ⟨r,h1,h2⟩ h3
  exact Ya h (by simp_all) h2
 have valC:∀ {s:Sem Value} {x:C U},(∃ r,s.run P w= .ok r w/\SimC cfg g.m r x/\∀ tag dead r,TailOk cfg tag dead r x)->execOp a.eval o=(do pure (.value (<-s)):Sem Next)->
   Does P o a w fun v w'=> ∃ g',Out cfg B st g { val:=some (.c x) } v w' g':=by
  rintro s x ⟨r,h1,h2,h3⟩ h4
  exact val ⟨r,h1,h2,h3 _ _ _⟩ h4
 obtain ⟨dst,op,type,pos,after,guard⟩:=o
 unfold Znu at hop
 cases op <;> simp only [aop,reduceCtorEq] at he
 case move x=>
  obtain ⟨v,h1,h2⟩:=bind_some he
  have hr:=hop x (by simp [Op.operands]) v h1
  split at h2 <;> simp only [Option.some.injEq,Prod.mk.injEq,reduceCtorEq] at h2
  obtain ⟨rfl,rfl⟩:=h2
  exact Ya h (by simp [execOp]) hr
 case assign x=>
  obtain ⟨v,h1,h2⟩:=bind_some he
  have hr:=hop x (by simp [Op.operands]) v h1
  split at h2 <;> simp only [Option.some.injEq,Prod.mk.injEq,reduceCtorEq] at h2
  obtain ⟨rfl,rfl⟩:=h2
  exact Ya h (by simp [execOp]) hr
 case alloc t=>
  split at he
  .rename_i d ag zs hd hv
   split at he
   .cases he
   .rename_i hn
    simp only [Option.some.injEq,Prod.mk.injEq] at he
    obtain ⟨rfl,rfl⟩:=he
    exact ZcT ok h rfl hv (by simpa [FSt.strip] using hn)
  .cases he
 case box t x=>
  split at he
  .rename_i d ag zs cs hd hv hcs
   split at he
   .cases he
   .rename_i hn
    simp only [Option.some.injEq,Prod.mk.injEq] at he
    obtain ⟨rfl,rfl⟩:=he
    obtain ⟨v,h1,h2⟩:=bind_some hcs
    simp only [X4,not_or] at hn
    exact ZgY h rfl (hop x (by simp [Op.operands]) v h1) h2 (by simpa [FSt.strip] using hn.1)
  .cases he
 case build t parts=>
  split at he
  .rename_i zs ps' hv hm
   cases hf:JC cfg t zs ps' with
   | none=> grind
   | some cs=>
    simp only [hf,Q5,Option.some.injEq,Prod.mk.injEq] at he
    obtain ⟨rfl,rfl⟩:=he
    obtain ⟨h1,h2⟩:=Zcl hm
    refine val (s:=Instr.build t (parts.map fun x=> (x.1,a.eval x.2))) (ZcN ok hv (by simpa using h1) ?_ hf) (by rfl)
    intro j x y hx hy
    rw [Array.getElem?_map] at hx
    cases hj:parts[j]? with
    | none=> grind
    | some p=>
     simp [hj] at hx
     subst hx
     obtain ⟨h3,v,h4,h5⟩:=h2 j p y (by simpa using hj) hy
     refine ⟨h3,(hop p.2 ?_ v h4).cells h5⟩
     simp only [Op.operands]
     grind
  .cases he
 case buildSlice t n parts=>
  rw [cond_eq_ite] at he
  split at he
  .rename_i hnil
   simp only [Q3] at hnil
   split at he
   .rename_i T hT
    split at he
    .rename_i hTw _
     subst hTw
     split at he
     .simp only [Option.some.injEq,Prod.mk.injEq] at he
      obtain ⟨rfl,rfl⟩:=he
      exact ZcR ok h rfl hnil.2 hT
     .cases he
    .cases he
   .cases he
  split at he
  .rename_i T ps' hT hm
   split at he
   .rename_i hn
    cases hf:YE cfg T 0 ps' with
    | none=> grind
    | some l=>
     simp only [hf,K7] at he
     obtain ⟨h1,h2⟩:=Z8M hm
     have hparts:∀ (j:Nat) x y,parts[j]?=some x->ps'[j]?=some y->x.1=y.1/\RelV cfg g st.strip.dead (fun nm=> (st.strip.mem nm).isSome) (a.eval x.2) y.2:=by
      intro j x y hx hy
      obtain ⟨h3,h4⟩:=h2 j x y (by simpa using hx) hy
      refine ⟨h3,hop x.2 ?_ y.2 h4⟩
      simp only [Op.operands]
      have:=QC (l:=parts.toList) (i:=j) (by simpa using hx)
      simp
      exact ⟨x.1,by grind⟩
     cases hmu:st.strip.mu && Z0Z parts.toList with
     | false=>
      simp only [hmu,cond_false,Option.some.injEq,Prod.mk.injEq] at he
      obtain ⟨rfl,rfl⟩:=he
      exact Z6d ok h rfl hT (by simpa using h1) hn.1 hn.2 hparts hf
     | true=>
      simp only [hmu,cond_true,Z7w] at he
      split at he
      .split at he
       .rename_i hfr
        simp only [Q3,Qp,Qo] at hfr
        simp only [Option.some.injEq,Prod.mk.injEq] at he
        obtain ⟨rfl,rfl⟩:=he
        exact Z5w ok h hfr.1 hfr.2 rfl hT (by simpa using h1) hn.1 hn.2 hparts hf
       .cases he
      .cases he
   .cases he
  .cases he
 case load t p=>
  split at he
  .rename_i ag zs u n off hv hp
   split at he
   .rename_i y hy
    split at he
    .rename_i hle
     cases hr:mkV ag (((cfg.enc y.T (y.l.getD n (cfg.dflt y.T))).drop off).take zs.length) with
     | none=> grind
     | some v=>
      simp only [hr,Q5,Option.some.injEq,Prod.mk.injEq] at he
      obtain ⟨rfl,rfl⟩:=he
      exact val (Zgg ok h hv hy (hop p (by simp [Op.operands]) _ hp) hle hr) (by rfl)
    .cases he
   .cases he
  .rename_i zs n k hv hp
   split at he
   .rename_i A hA
    cases hr:Z4H A n zs k with
    | none=> simp only [hr,QN,reduceCtorEq] at he
    | some v=>
     simp only [hr,Q5,Option.some.injEq,Prod.mk.injEq] at he
     obtain ⟨rfl,rfl⟩:=he
     exact val (ZbA ok h (show st.ar cfg=some A from hA) hv (hop p (by simp [Op.operands]) _ hp) hr) (by rfl)
   .cases he
  .rename_i ag zs T o hv hp
   cases hr:rd st.strip (.ep (cfg.enc T (o.getD (cfg.dflt T)))) ag zs.length with
   | none=> grind
   | some v=>
    simp only [hr,Q5,Option.some.injEq,Prod.mk.injEq] at he
    obtain ⟨rfl,rfl⟩:=he
    exact val (Z8i ok h hv (Zi9 ok (hop p (by simp [Op.operands]) _ hp) hps.1) hr) (by rfl)
  .rename_i ag zs p' hno hno2 hno3 hv hp
   cases hr:rd st.strip p' ag zs.length with
   | none=> grind
   | some v=>
    simp only [hr,Q5,Option.some.injEq,Prod.mk.injEq] at he
    obtain ⟨rfl,rfl⟩:=he
    exact val (Z8i ok h hv (hop p (by simp [Op.operands]) p' hp) hr) (by rfl)
  .cases he
 case store t p x=>
  split at he
  .rename_i n k y hp hy
   split at he
   .rename_i A ag z hA hv
    exact Z9y ok h (show st.ar cfg=some A from hA) rfl hv (hop p (by simp [Op.operands]) _ hp) (hop x (by simp [Op.operands]) _ hy) he hps
   .cases he
  split at he
  .rename_i ag zs nm off new hv hp hnew
   split at he
   .rename_i cs hcs
    split at he
    .rename_i hl
     cases hs:Y9 cs off new with
     | none=> grind
     | some cs'=>
      simp only [hs,Q5,Option.some.injEq,Prod.mk.injEq] at he
      obtain ⟨rfl,rfl⟩:=he
      obtain ⟨v,h1,h2⟩:=bind_some hnew
      exact Z6q ok h rfl hv (hop p (by simp [Op.operands]) _ hp) (hop x (by simp [Op.operands]) v h1) h2 hcs hl hs
    .cases he
   .cases he
  .rename_i ag zs u n off new hv hp hnew
   split at he
   .rename_i y hy
    split at he
    .rename_i hl
     split at he
     .rename_i e' hset
      simp only [Option.some.injEq,Prod.mk.injEq] at he
      obtain ⟨rfl,rfl⟩:=he
      obtain ⟨v,h1,h2⟩:=bind_some hnew
      exact ZaG ok h rfl hv (hop p (by simp [Op.operands]) _ hp) (hop x (by simp [Op.operands]) v h1) h2 hy hl hps.1 hset
     .cases he
    .cases he
   .cases he
  .rename_i ag zs nm off k len n k' y hv hp hnew
   split at he
   .rename_i cs hcs
    split at he
    .rename_i hc
     obtain ⟨hle,hk,hz⟩:=hc
     subst hk
     split at he
     .rename_i l hl
      simp only [Option.some.injEq,Prod.mk.injEq] at he
      obtain ⟨rfl,rfl⟩:=he
      obtain ⟨v,h1,h2⟩:=bind_some hnew
      exact Z7A ok h rfl hv (hop p (by simp [Op.operands]) _ hp) (hop x (by simp [Op.operands]) v h1) h2 hcs hz hle hl
     .cases he
    .cases he
   .cases he
  .cases he
 case nilCheck x=>
  split at he <;> try simp only [Option.some.injEq,Prod.mk.injEq,reduceCtorEq] at he
  .rename_i nm off hx
   obtain ⟨rfl,rfl⟩:=he
   have hr:=hop x (by simp [Op.operands]) _ hx
   have h2:=hr.2
   exact Ya h (by simp [execOp,h2]) hr
  .rename_i cs hx
   obtain ⟨rfl,rfl⟩:=he
   have hr:=hop x (by simp [Op.operands]) _ hx
   obtain ⟨b,h2,_⟩:=id hr
   exact Ya h (by simp [execOp,h2]) hr
  .rename_i u n off hx
   split at he <;> simp only [Option.some.injEq,Prod.mk.injEq,reduceCtorEq] at he
   rename_i hs
   obtain ⟨rfl,rfl⟩:=he
   have hr:=hop x (by simp [Op.operands]) _ hx
   obtain ⟨y,hy⟩:=Xa.1 hs
   obtain ⟨b,len,cap,_,h2,_⟩:=Ziu h hy hr
   exact Ya h (by simp [execOp,h2]) hr
  .rename_i T o hx
   obtain ⟨rfl,rfl⟩:=he
   have hr:=hop x (by simp [Op.operands]) _ hx
   obtain ⟨b,h2,_⟩:=Zi9 (live:=fun nm=> (st.mem nm).isSome) ok hr hps.1
   exact Ya h (by simp [execOp,h2]) hr
  .rename_i hx
   cases hA:st.strip.ar cfg with
   | none=> simp only [hA,QN,reduceCtorEq] at he
   | some A=>
    simp only [hA,Q5,Option.some.injEq,Prod.mk.injEq] at he
    obtain ⟨rfl,rfl⟩:=he
    have hr:=hop x (by simp [Op.operands]) _ hx
    obtain ⟨b,h2⟩:=Zeh h hA hr
    exact Ya h (by simp [execOp,h2]) hr
  .rename_i n k hx
   have hr:=hop x (by simp [Op.operands]) _ hx
   split at he <;> simp only [Option.some.injEq,Prod.mk.injEq,reduceCtorEq] at he
   .obtain ⟨rfl,rfl⟩:=he
    obtain ⟨_,b,s,_,h2⟩:=id hr
    exact Ya h (by simp [execOp,h2]) hr
   .obtain ⟨rfl,rfl⟩:=he
    obtain ⟨b,len,cap,_,_,h2⟩:=id hr
    exact Ya h (by simp [execOp,h2]) hr
   .obtain ⟨rfl,rfl⟩:=he
    obtain ⟨_,b,len,cap,_,_,h2⟩:=id hr
    exact Ya h (by simp [execOp,h2]) hr
 case binOp bop t x y t'=>
  split at he
  .rename_i p q hx hy
   split at he
   .rename_i b0 hv
    cases hb:ZfS (U:=U) bop p q with
    | none=> grind
    | some c=>
     simp only [hb,Q5,Option.some.injEq,Prod.mk.injEq] at he
     obtain ⟨rfl,rfl⟩:=he
     have h1:SimC cfg g.m (a.eval x) (.bool p):=(hop x (by simp [Op.operands]) _ hx).1
     have h2:SimC cfg g.m (a.eval y) (.bool q):=(hop y (by simp [Op.operands]) _ hy).1
     have e1:a.eval x= .bool p:=h1.bool_eq
     have e2:a.eval y= .bool q:=h2.bool_eq
     refine valC (s:=do eqGuard bop t x y (.bool p) (.bool q);binOp bop t (.bool p) (.bool q)) (ZcU ok hv hb) ?_
     simp [execOp,e1,e2]
   .cases he
  .rename_i T l tl hx hy
   have h1:SimC cfg g.m (a.eval x) (.slice T l tl):=(hop x (by simp [Op.operands]) _ hx).1
   have h2:SimC cfg g.m (a.eval y) (.nils:C U):=(hop y (by simp [Op.operands]) _ hy).1
   have e2:a.eval y= .slice none 0 0:=by
    generalize a.eval y=u at h2
    cases h2
    try rfl
   have key:∃ (ao:Option Addr) (n c:Nat),a.eval x= .slice ao n c/\(ao.isNone=true->l=[]):=by
    generalize a.eval x=u at h1
    cases h1 with
    | snil=> grind
    | slice _ _ _ b len cap vs=> grind
   obtain ⟨ao,n,c,e1,hn⟩:=key
   split at he <;> simp only [Option.some.injEq,Prod.mk.injEq,reduceCtorEq] at he
   .rename_i S hS
    obtain ⟨rfl,rfl⟩:=he
    refine Ya (v:= .bool ao.isNone) h ?_ ⟨_,rfl,hn,fun _=> trivial⟩
    simp [execOp,e1,e2,eqGuard,Lib.run_eql_slice_nil w t _ ao n c 0 0 (ok.sl t S hS)]
   .rename_i S hS
    obtain ⟨rfl,rfl⟩:=he
    refine Ya (v:= .bool (!ao.isNone)) h ?_ ⟨_,rfl,fun _=> trivial,fun hf=> hn (by simpa using hf)⟩
    simp [execOp,e1,e2,eqGuard,run_neq_slice_nil_any w t _ ao n c 0 0 (ok.sl t S hS)]
  .rename_i T o hx hy
   have h1:SimC cfg g.m (a.eval x) (.po T o):=(hop x (by simp [Op.operands]) _ hx).1
   have h2:SimC cfg g.m (a.eval y) (.nilp:C U):=(hop y (by simp [Op.operands]) _ hy).1
   have e2:a.eval y= .pointer none:=by
    generalize a.eval y=u at h2
    cases h2
    try rfl
   have key:∃ ao:Option Addr,a.eval x= .pointer ao/\ao.isNone=o.isNone:=by
    generalize a.eval x=u at h1
    cases h1 with
    | pnil=> grind
    | po _ y b vs=> grind
   obtain ⟨ao,e1,hn⟩:=key
   have hpt:∀ z,cfg.var t=some (false,z)->z=[.nilp]->P.underlying t=some (.pointer (P.pointee t)):=by
    rintro z hz rfl
    obtain ⟨e,he⟩:=ok.ptr t hz
    have:P.pointee t=e:=by simp [Program.pointee,he]
    rw [this];exact he
   split at he <;> simp only [Option.some.injEq,Prod.mk.injEq,reduceCtorEq] at he
   .rename_i hv
    obtain ⟨rfl,rfl⟩:=he
    refine valC (s:=binOp .eql t (.pointer ao) (.pointer none)) ⟨_,run_eql_pointer_nil _ t ao (hpt _ hv rfl),?_,fun _ _ _=> trivial⟩ (by simp [execOp,e1,e2,eqGuard])
    rw [hn];exact .bool _
   .rename_i hv
    obtain ⟨rfl,rfl⟩:=he
    refine valC (s:=binOp .neq t (.pointer ao) (.pointer none)) ⟨_,run_neq_pointer_nil _ t ao (hpt _ hv rfl),?_,fun _ _ _=> trivial⟩ (by simp [execOp,e1,e2,eqGuard])
    rw [hn];cases o <;> exact .bool _
  .rename_i nm off hx hy
   have e1:a.eval x= .pointer (some ((g.ad nm).add off)):=(hop x (by simp [Op.operands]) _ hx).2
   have h2:SimC cfg g.m (a.eval y) (.nilp:C U):=(hop y (by simp [Op.operands]) _ hy).1
   have e2:=h2.nilp_eq
   split at he <;> simp only [Option.some.injEq,Prod.mk.injEq,reduceCtorEq] at he
   .rename_i hv
    obtain ⟨rfl,rfl⟩:=he
    exact valC (s:=binOp .eql t (.pointer (some ((g.ad nm).add off))) (.pointer none)) ⟨_,run_eql_pointer_nil _ t _ (Z3C ok hv),.bool _,fun _ _ _=> trivial⟩ (by simp [execOp,e1,e2,eqGuard])
   .rename_i hv
    obtain ⟨rfl,rfl⟩:=he
    exact valC (s:=binOp .neq t (.pointer (some ((g.ad nm).add off))) (.pointer none)) ⟨_,run_neq_pointer_nil _ t _ (Z3C ok hv),.bool _,fun _ _ _=> trivial⟩ (by simp [execOp,e1,e2,eqGuard])
  .rename_i hx hy
   have h2:SimC cfg g.m (a.eval y) (.nilp:C U):=(hop y (by simp [Op.operands]) _ hy).1
   have e2:=h2.nilp_eq
   split at he <;> simp only [Option.some.injEq,Prod.mk.injEq,reduceCtorEq] at he
   .rename_i A hA hv
    obtain ⟨rfl,rfl⟩:=he
    obtain ⟨b,e1⟩:=Zeh h hA (hop x (by simp [Op.operands]) _ hx)
    exact valC (s:=binOp .eql t (.pointer (some b)) (.pointer none)) ⟨_,run_eql_pointer_nil _ t _ (Z3C ok hv),.bool _,fun _ _ _=> trivial⟩ (by simp [execOp,e1,e2,eqGuard])
   .rename_i A hA hv
    obtain ⟨rfl,rfl⟩:=he
    obtain ⟨b,e1⟩:=Zeh h hA (hop x (by simp [Op.operands]) _ hx)
    exact valC (s:=binOp .neq t (.pointer (some b)) (.pointer none)) ⟨_,run_neq_pointer_nil _ t _ (Z3C ok hv),.bool _,fun _ _ _=> trivial⟩ (by simp [execOp,e1,e2,eqGuard])
  .rename_i hx hy
   have h1:SimC cfg g.m (a.eval x) (.nilp:C U):=(hop x (by simp [Op.operands]) _ hx).1
   have h2:SimC cfg g.m (a.eval y) (.nilp:C U):=(hop y (by simp [Op.operands]) _ hy).1
   have e1:=h1.nilp_eq
   have e2:=h2.nilp_eq
   split at he <;> simp only [Option.some.injEq,Prod.mk.injEq,reduceCtorEq] at he
   .rename_i hv
    obtain ⟨rfl,rfl⟩:=he
    exact valC (s:=binOp .eql t (.pointer none) (.pointer none)) ⟨_,run_eql_pointer_nil _ t none (Z3C ok hv),.bool _,fun _ _ _=> trivial⟩ (by simp [execOp,e1,e2,eqGuard])
   .rename_i hv
    obtain ⟨rfl,rfl⟩:=he
    exact valC (s:=binOp .neq t (.pointer none) (.pointer none)) ⟨_,run_neq_pointer_nil _ t none (Z3C ok hv),.bool _,fun _ _ _=> trivial⟩ (by simp [execOp,e1,e2,eqGuard])
  .rename_i p q hno1 hno2 hno3 hno4 hno5 hx hy
   cases hb:Zmi Γ.wr bop p q with
   | none=> simp [hb,ZaD] at he
   | some r=>
    obtain ⟨qs,c⟩:=r
    simp only [hb,ZaD,Q5,Option.some.injEq,Prod.mk.injEq] at he
    obtain ⟨rfl,rfl⟩:=he
    have h1:=(hop x (by simp [Op.operands]) _ hx).1
    have h2:=(hop y (by simp [Op.operands]) _ hy).1
    exact valC (Zei (p:=x) (q:=y) (t:=t) h1 h2 hb hps) (by rfl)
  .rename_i as bs hx hy
   have h1:=hop x (by simp [Op.operands]) _ hx
   have h2:=hop y (by simp [Op.operands]) _ hy
   split at he
   .rename_i r ag zs ht hr hz
    split at he
    .rename_i hl
     simp only [Option.some.injEq,Prod.mk.injEq] at he
     obtain ⟨rfl,rfl⟩:=he
     exact valC ⟨_,(Z72 (w:=w) (p:=x) (q:=y) ok ht h1 h2 hr hz hl).1,.bool _,fun _ _ _=> trivial⟩ (by rfl)
    .cases he
   .rename_i r ag zs ht hr hz
    split at he
    .rename_i hl
     simp only [Option.some.injEq,Prod.mk.injEq] at he
     obtain ⟨rfl,rfl⟩:=he
     exact valC ⟨_,(Z72 (w:=w) (p:=x) (q:=y) ok ht h1 h2 hr hz hl).2,.bool _,fun _ _ _=> trivial⟩ (by rfl)
    .cases he
   .cases he
  .cases he
 case unOp uop t x=>
  split at he
  .rename_i p hx
   cases hb:aUn Γ.wr uop p with
   | none=> simp [hb,ZaD] at he
   | some r=>
    obtain ⟨qs,c⟩:=r
    simp only [hb,ZaD,Q5,Option.some.injEq,Prod.mk.injEq] at he
    obtain ⟨rfl,rfl⟩:=he
    exact valC (Zh2 (hop x (by simp [Op.operands]) _ hx).1 hb hps) (by rfl)
  .cases he
 case convert src dst' x=>
  split at he
  .rename_i k1 n1 k n0 k2 n hs hd hx
   simp only [Option.some.injEq,Prod.mk.injEq] at he
   obtain ⟨rfl,rfl⟩:=he
   have h1:SimC cfg g.m (a.eval x) (.int k2 n):=(hop x (by simp [Op.operands]) _ hx).1
   have e1:a.eval x= .int k2 n:=h1.int_eq
   obtain ⟨_,i,z,d,q1,q2,q3,q4,q5,q6,q7,_⟩:=ok.var _ _ _ hs
   obtain ⟨_,i',z',d',r1,r2,r3,r4,r5,r6,r7,_⟩:=ok.var _ _ _ hd
   have hd':=r7 rfl k n0 rfl
   subst hd'
   refine valC (s:=convert src dst' (a.eval x)) ⟨.int k (k.wrap n),?_,.int _ _,fun _ _ _=> trivial⟩ (by rfl)
   rw [e1]
   simp [convert,run_underlying q2,run_underlying r2,Conv.intToInt]
  .cases he
 case makeSlice t n m=>
  split at he
  .rename_i T n' m' hT hn hm
   split at he
   .rename_i ag zs hz
    split at he
    .rename_i z hd
     have h1:SimC cfg g.m (a.eval n) (.int .i64 n'):=(hop n (by simp [Op.operands]) _ hn).1
     have h2:SimC cfg g.m (a.eval m) (.int .i64 m'):=(hop m (by simp [Op.operands]) _ hm).1
     cases hmu:st.strip.mu with
     | false=>
      simp only [hmu,cond_false] at he
      simp only [Option.some.injEq,Prod.mk.injEq] at he
      obtain ⟨rfl,rfl⟩:=he
      exact Z7e ok h rfl hT h1.int_eq h2.int_eq hz hd hps.1 hps.2.1
     | true=>
      simp only [hmu,cond_true,ZbG] at he
      split at he
      .split at he
       .rename_i hfr
        simp only [Q3,Qp,Qo] at hfr
        simp only [Option.some.injEq,Prod.mk.injEq] at he
        obtain ⟨rfl,rfl⟩:=he
        exact Z5X ok h hfr.1 hfr.2 rfl hT h1.int_eq h2.int_eq hz hd hps.1 hps.2.1
       .cases he
      .cases he
    .cases he
   .cases he
  .cases he
 case slice t x lo hi mx=>
  split at he
  .rename_i nm off hx hlo hhi hmx
   split at he
   .rename_i len et T cs ha hT hcs
    split at he
    .rename_i hc
     obtain ⟨rfl,hlen,hsz,hel⟩:=hc
     split at he
     .rename_i l hl
      simp only [Option.some.injEq,Prod.mk.injEq] at he
      obtain ⟨rfl,rfl⟩:=he
      have nn:∀ {y:Option Operand},JL st.strip y=some none->y=none:=by
       intro y hy
       cases y with
       | none=> rfl
       | some z=> simp [JL] at hy
      have e1:=nn hlo
      have e2:=nn hhi
      have e3:=nn hmx
      subst e1 e2 e3
      exact Z88 ok h rfl ha hel (hop x (by simp [Op.operands]) _ hx) hcs hlen hsz hl
     .cases he
    .cases he
   .cases he
  .rename_i u k n hx hlo hhi hmx
   split at he
   .rename_i S y hS hy
    split at he
    .rename_i hST _
     subst hST
     rw [cond_eq_ite] at he
     split at he
     .simp only [Option.some.injEq,Prod.mk.injEq] at he
      obtain ⟨rfl,rfl⟩:=he
      have nn:∀ {y:Option Operand},JL st.strip y=some none->y=none:=by
       intro y hy
       cases y with
       | none=> rfl
       | some z=> simp [JL] at hy
      have e2:=nn hhi
      have e3:=nn hmx
      subst e2 e3
      cases lo with
      | none=> grind
      | some lo=>
       have hl:st.strip.opnd lo=some (.c (.int k n)):=by simpa [JL] using hlo
       have h1:SimC cfg g.m (a.eval lo) (.int k n):=(hop lo (by simp [Op.operands]) _ hl).1
       obtain ⟨r,h2,h3⟩:=ZaJ (k:=k) (live:=fun nm=> (st.mem nm).isSome) ok h hS hy (hop x (by simp [Op.operands]) _ hx) hps.1
       exact val ⟨r,h2,h3⟩ (by simp [execOp,h1.int_eq])
     .cases he
    .cases he
   .cases he
  .rename_i x' lo' hi' mx' _ hx hlo hhi hmx
   cases hb:ZbF cfg t x' lo' hi' mx' with
   | none=> simp [hb,ZaD] at he
   | some r=>
    obtain ⟨qs,c⟩:=r
    simp only [hb,ZaD,Q5,Option.some.injEq,Prod.mk.injEq] at he
    obtain ⟨rfl,rfl⟩:=he
    have hx':=hop x (by simp [Op.operands]) _ hx
    obtain ⟨r,h1,h2⟩:=ZbE (w:=w) (live:=fun nm=> (st.mem nm).isSome) ok hx' (Z4t (a:=a) hlo fun y hy=> hop y (by simp [Op.operands,hy])) (Z4t (a:=a) hhi fun y hy=> hop y (by simp [Op.operands,hy]))
     (Z4t (a:=a) hmx fun y hy=> hop y (by simp [Op.operands,hy])) hb hps
    exact val (x:= .c c) ⟨r,h1,h2⟩ (by rfl)
  .cases he
 case fieldAddr t x f=>
  split at he
  .rename_i u n o' off ft hx hf
   split at he
   .rename_i z hz
    split at he
    .rename_i hs
     simp only [Option.some.injEq,Prod.mk.injEq] at he
     obtain ⟨rfl,rfl⟩:=he
     obtain ⟨y,hy⟩:=Xa.1 hs
     exact val (Z6c ok hf hz h hy (hop x (by simp [Op.operands]) _ hx)) (by rfl)
    .cases he
   .cases he
  .rename_i off ft hx hf
   split at he
   .rename_i A ag z hA hv
    split at he
    .rename_i hlt
     simp only [Option.some.injEq,Prod.mk.injEq] at he
     obtain ⟨rfl,rfl⟩:=he
     exact val (Z9A ok h (show st.ar cfg=some A from hA) hf hv hlt (hop x (by simp [Op.operands]) _ hx)) (by rfl)
    .cases he
   .cases he
  .rename_i T o off ft hx hf
   split at he
   .rename_i ag zs hv
    cases hp:Z4m (.ep (cfg.enc T (o.getD (cfg.dflt T)))) off zs.length with
    | none=> grind
    | some v=>
     simp only [hp,Q5,Option.some.injEq,Prod.mk.injEq] at he
     obtain ⟨rfl,rfl⟩:=he
     exact val (Z2t ok hf hv (Zi9 ok (hop x (by simp [Op.operands]) _ hx) hps.1) hp) (by rfl)
   .cases he
  .rename_i p off ft hno hno2 hno3 hx hf
   split at he
   .rename_i ag zs hv
    cases hp:Z4m p off zs.length with
    | none=> grind
    | some v=>
     simp only [hp,Q5,Option.some.injEq,Prod.mk.injEq] at he
     obtain ⟨rfl,rfl⟩:=he
     exact val (Z2t ok hf hv (hop x (by simp [Op.operands]) _ hx) hp) (by rfl)
   .cases he
  .cases he
 case field t x f=>
  split at he
  .rename_i cs off ft hx hf
   split at he
   .rename_i ag zs hv
    split at he
    .rename_i hle
     cases hp:mkV ag ((cs.drop off).take zs.length) with
     | none=> grind
     | some v=>
      simp only [hp,Q5,Option.some.injEq,Prod.mk.injEq] at he
      obtain ⟨rfl,rfl⟩:=he
      exact val (ZcD ok hf hv (hop x (by simp [Op.operands]) _ hx) hle hp) (by rfl)
    .cases he
   .cases he
  .cases he
 case indexAddr t x i=>
  split at he
  .rename_i T l tl k n hx hi
   split at he
   .rename_i S hS
    split at he
    .rename_i hST _
     simp only [Option.some.injEq,Prod.mk.injEq] at he
     obtain ⟨rfl,rfl⟩:=he
     subst hST
     have h1:SimC cfg g.m (a.eval i) (.int k n):=(hop i (by simp [Op.operands]) _ hi).1
     have e1:a.eval i= .int k n:=h1.int_eq
     refine val (Z7g (k:=k) ok hS (hop x (by simp [Op.operands]) _ hx) hps.1) ?_
     simp [execOp,e1]
    .cases he
   .cases he
  .rename_i n k ik m hx hi
   split at he
   .rename_i A T hA hT
    split at he
    .rename_i hTT _
     cases hr:Z7u A n k m with
     | none=> simp only [hr,QN,reduceCtorEq] at he
     | some r=>
      obtain ⟨qs,v⟩:=r
      simp only [hr,Q5,Option.some.injEq,Prod.mk.injEq] at he
      obtain ⟨rfl,rfl⟩:=he
      have h1:SimC cfg g.m (a.eval i) (.int ik m):=(hop i (by simp [Op.operands]) _ hi).1
      have e1:a.eval i= .int ik m:=h1.int_eq
      have hs1:cfg.sz T=1:=by
       rw [hTT]
       unfold ZfQ
       split
       .exact (Z6p ok).1
       .exact (Z6p ok).2
      refine val (Z9z (ik:=ik) ok h (show st.ar cfg=some A from hA) hT hs1 (hop x (by simp [Op.operands]) _ hx) hr hps) ?_
      simp [execOp,e1]
    .cases he
   .cases he
  .rename_i u k n hx hi
   split at he
   .rename_i S y hS hy
    split at he
    .rename_i hST _
     simp only [Option.some.injEq,Prod.mk.injEq] at he
     obtain ⟨rfl,rfl⟩:=he
     subst hST
     have h1:SimC cfg g.m (a.eval i) (.int k n):=(hop i (by simp [Op.operands]) _ hi).1
     have e1:a.eval i= .int k n:=h1.int_eq
     refine val (Z66 (k:=k) ok h hS hy (hop x (by simp [Op.operands]) _ hx) hps.1) ?_
     simp [execOp,e1]
    .cases he
   .cases he
  .rename_i nm off k n hx hi
   split at he
   .rename_i len et ha
    split at he
    .rename_i k0 n0 hv
     simp only [Option.some.injEq,Prod.mk.injEq] at he
     obtain ⟨rfl,rfl⟩:=he
     have h1:SimC cfg g.m (a.eval i) (.int k n):=(hop i (by simp [Op.operands]) _ hi).1
     have e1:a.eval i= .int k n:=h1.int_eq
     refine val (Z8T (k:=k) ok ha hv (hop x (by simp [Op.operands]) _ hx) hps.1) ?_
     simp [execOp,e1]
    .rename_i ag zs hno hv
     split at he
     .rename_i hn
      simp only [Option.some.injEq,Prod.mk.injEq] at he
      obtain ⟨rfl,rfl⟩:=he
      have h1:SimC cfg g.m (a.eval i) (.int k n):=(hop i (by simp [Op.operands]) _ hi).1
      have e1:a.eval i= .int k n:=h1.int_eq
      refine val (Z0q (k:=k) ok ha hv (hop x (by simp [Op.operands]) _ hx) hn) ?_
      simp [execOp,e1]
     .cases he
    .cases he
   .cases he
  .cases he
 case index t x i=>
  split at he
  .rename_i cs k n hx hi
   split at he
   .rename_i len et ha
    split at he
    .rename_i k0 n0 hv
     split at he
     .rename_i hlen
      split at he
      .rename_i l hl
       simp only [Option.some.injEq,Prod.mk.injEq] at he
       obtain ⟨rfl,rfl⟩:=he
       have h1:SimC cfg g.m (a.eval i) (.int k n):=(hop i (by simp [Op.operands]) _ hi).1
       have e1:a.eval i= .int k n:=h1.int_eq
       refine val (x:= .c _) (Z65 (k:=k) ok ha hv (hop x (by simp [Op.operands]) _ hx) hlen hl hps.1) ?_
       simp [execOp,e1]
      .cases he
     .cases he
    .rename_i ag zs hno hv
     split at he
     .rename_i hn
      cases hp:mkV ag ((cs.drop (n.toNat*zs.length)).take zs.length) with
      | none=> grind
      | some v=>
       simp only [hp,Q5,Option.some.injEq,Prod.mk.injEq] at he
       obtain ⟨rfl,rfl⟩:=he
       have h1:SimC cfg g.m (a.eval i) (.int k n):=(hop i (by simp [Op.operands]) _ hi).1
       have e1:a.eval i= .int k n:=h1.int_eq
       refine val (Z7f (k:=k) ok ha hv (hop x (by simp [Op.operands]) _ hx) ⟨hn.1,hn.2.1⟩ hn.2.2 hp) ?_
       simp [execOp,e1]
     .cases he
    .cases he
   .cases he
  .cases he
 case extract x i=>
  split at he
  .rename_i vs hx
   split at he
   .rename_i ag cs hi
    cases hp:mkV ag cs with
    | none=> grind
    | some v=>
     simp only [hp,Q5,Option.some.injEq,Prod.mk.injEq] at he
     obtain ⟨rfl,rfl⟩:=he
     exact val (Z9v (hop x (by simp [Op.operands]) _ hx) hi hp) (by rfl)
   .cases he
  .cases he
 case call c=>
  unfold Z7v at he
  split at he
  .rename_i b hb
   unfold Z5A at he
   have hex:execOp a.eval { dst,op:= .call c,type,pos,after,guard }=builtin b c.argTypes type (c.args.map fun | .const _=> true | _=> false) (c.args.map a.eval):=by
    simp only [execOp,resolve,hb]
    try rfl
   split at he
   .rename_i x t hargs hts
    have e1:c.args=#[x]:=by apply QQ;simpa using hargs
    have e2:c.argTypes=#[t]:=by apply QQ;simpa using hts
    split at he
    .rename_i n k hx
     split at he
     .rename_i A T hA hT
      cases hl:ZfP A n k with
      | none=> simp only [hl,QN,reduceCtorEq] at he
      | some cc=>
       simp only [hl,Q5,Option.some.injEq,Prod.mk.injEq] at he
       obtain ⟨rfl,rfl⟩:=he
       obtain ⟨r,h1,h2⟩:=ZcS (ty:=type) ok h (show st.ar cfg=some A from hA) hT (hop x (by simp [Op.operands,Call.operands,hb,e1]) _ hx) hl
       refine val (x:= .c cc) ⟨r,h1,h2⟩ ?_
       rw [hex,e1,e2];simp [builtin]
     .cases he
    .rename_i v hno hx
     cases hl:lenOf cfg st.strip t v with
     | none=> grind
     | some cc=>
      simp only [hl,Q5,Option.some.injEq,Prod.mk.injEq] at he
      obtain ⟨rfl,rfl⟩:=he
      have hr:=hop x (by simp [Op.operands,Call.operands,hb,e1]) v hx
      obtain ⟨r,h1,h2⟩:=ZgF (w:=w) (ty:=type) ok h hr (show lenOf cfg st t v=some cc from hl)
      refine val (x:= .c cc) ⟨r,h1,h2⟩ ?_
      rw [hex,e1,e2];simp [builtin]
    .cases he
   .rename_i x y t t' hargs hts
    have e1:c.args=#[x,y]:=by apply QQ;simpa using hargs
    have e2:c.argTypes=#[t,t']:=by apply QQ;simpa using hts
    split at he
    .rename_i d n k y hd hx hy
     split at he
     .rename_i A T hA hT
      have hx':=hop x (by simp [Op.operands,Call.operands,hb,e1]) _ hx
      have hy':=hop _ (by simp [Op.operands,Call.operands,hb,e1]) _ hy
      obtain ⟨callee,args,argTypes⟩:=c
      simp only at hb e1 e2
      subst hb e1 e2
      split at he
      .rename_i hTT _ htt
       exact Z3x ok h (show st.ar cfg=some A from hA) rfl (by rw [<-hTT];exact hT) hx' hy' (fun _=> by simpa using htt) (fun e=> by cases e) he hps
      .rename_i hTT _ z htt hz
       exact Z3x ok h (show st.ar cfg=some A from hA) rfl (by rw [<-hTT];exact hT) hx' hy' (fun e=> by cases e) (fun _=> ⟨_,hz⟩) he hps
      .cases he
     .cases he
    .rename_i d cx cy hd hx hy
     split at he
     .rename_i htt
      subst htt
      have hx':=hop x (by simp [Op.operands,Call.operands,hb,e1]) _ hx
      have hy':=hop y (by simp [Op.operands,Call.operands,hb,e1]) _ hy
      obtain ⟨callee,args,argTypes⟩:=c
      simp only at hb e1 e2
      subst hb e1 e2
      rw [cond_eq_ite] at he
      split at he
      .exact Z9C ok h rfl hx' hy' he hps
      .exact ZbD ok h rfl hx' hy' he hps
     .have hx':=hop x (by simp [Op.operands,Call.operands,hb,e1]) _ hx
      have hy':=hop y (by simp [Op.operands,Call.operands,hb,e1]) _ hy
      obtain ⟨callee,args,argTypes⟩:=c
      simp only at hb e1 e2
      subst hb e1 e2
      exact Z9B ok h rfl hx' hy' he hps
    .cases he
   .rename_i x t hargs hts
    have e1:c.args=#[x]:=by apply QQ;simpa using hargs
    have e2:c.argTypes=#[t]:=by apply QQ;simpa using hts
    split at he
    .rename_i u n hx
     have hx':=hop x (by simp [Op.operands,Call.operands,hb,e1]) _ hx
     obtain ⟨callee,args,argTypes⟩:=c
     simp only at hb e1 e2
     subst hb e1 e2
     exact ZcL ok h rfl hx' he hps
    .cases he
   .rename_i x y t t' hargs hts
    have e1:c.args=#[x,y]:=by apply QQ;simpa using hargs
    have e2:c.argTypes=#[t,t']:=by apply QQ;simpa using hts
    split at he
    .rename_i u n cy hx hy
     split at he
     .rename_i htt
      subst htt
      have hx':=hop x (by simp [Op.operands,Call.operands,hb,e1]) _ hx
      have hy':=hop y (by simp [Op.operands,Call.operands,hb,e1]) _ hy
      obtain ⟨callee,args,argTypes⟩:=c
      simp only at hb e1 e2
      subst hb e1 e2
      exact Ze3 ok h rfl hx' hy' he hps
     .cases he
    .cases he
   .rename_i x y hargs
    have e1:c.args=#[x,y]:=by apply QQ;simpa using hargs
    split at he
    .rename_i cx cy hx hy
     cases hl:Z3V false cx cy with
     | none=> grind
     | some cc=>
      simp only [hl,Q5,Option.some.injEq,Prod.mk.injEq] at he
      obtain ⟨rfl,rfl⟩:=he
      obtain ⟨r,h1,h2⟩:=Z5d (P:=P) (w:=w) (ts:=c.argTypes) (ty:=type) (hop x (by simp [Op.operands,Call.operands,hb,e1]) _ hx) (hop y (by simp [Op.operands,Call.operands,hb,e1]) _ hy) hl
      refine val (x:= .c cc) ⟨r,h1,h2⟩ ?_
      rw [hex,e1];simp [builtin]
    .cases he
   .rename_i x y hargs
    have e1:c.args=#[x,y]:=by apply QQ;simpa using hargs
    split at he
    .rename_i cx cy hx hy
     cases hl:Z3V true cx cy with
     | none=> grind
     | some cc=>
      simp only [hl,Q5,Option.some.injEq,Prod.mk.injEq] at he
      obtain ⟨rfl,rfl⟩:=he
      obtain ⟨r,h1,h2⟩:=Z5d (P:=P) (w:=w) (ts:=c.argTypes) (ty:=type) (hop x (by simp [Op.operands,Call.operands,hb,e1]) _ hx) (hop y (by simp [Op.operands,Call.operands,hb,e1]) _ hy) hl
      refine val (x:= .c cc) ⟨r,h1,h2⟩ ?_
      rw [hex,e1];simp [builtin]
    .cases he
   .cases he
  .rename_i gx hg
   split at he
   .rename_i f vs hf hvs
    have hfr:a.eval gx= .func (.func f) #[] #[]:=hop gx (by simp [Op.operands,Call.operands,hg]) _ hf
    obtain ⟨m1,m2⟩:=Zai (st:=st.strip) (cfg:=cfg) (g:=g) (a:=a) hvs (fun x hx v hv=> hop x (by simp [Op.operands,Call.operands,hg];right;simpa using hx) v hv)
    rw [cond_eq_ite] at he
    split at he
    .have e:Zay Γ st.strip f vs=Zay Γ st f vs:=rfl
     rw [e] at he
     exact ZdF ok hΓ h rfl hg hfr ⟨by simpa using m1,fun j u x hu hx=> m2 j u x (by simpa using hu) hx⟩ he hps
    split at he
    .rename_i r hr
     rw [cond_eq_ite] at hr
     split at hr
     .have e:∀ d,Zh6 Γ st.strip d f vs=Zh6 Γ st d f vs:=fun d=> rfl
      rw [e] at hr
      have e2:∀ d,Z4b cfg Γ st.strip d f r=Z4b cfg Γ st d f r:=fun d=> rfl
      rw [e2] at he
      have hp1:r.1=ps:=Zh5 he
      exact (Zif ok hna h (Zgu hΓ h rfl hg hfr ⟨by simpa using m1,fun j u x hu hx=> m2 j u x (by simpa using hu) hx⟩ hr (by rw [hp1];exact hps)) he).2
     .cases hr
    rw [Z79] at he
    exact Z99 hΓ h rfl hg (caps:=[]) hfr ⟨by simpa using m1,fun j u x hu hx=> m2 j u x (by simpa using hu) hx⟩ he hps
   .rename_i f nms vs hf hvs
    rw [Z79] at he
    have hfr:=hop gx (by simp [Op.operands,Call.operands,hg]) _ hf
    obtain ⟨m1,m2⟩:=Zai (st:=st.strip) (cfg:=cfg) (g:=g) (a:=a) hvs (fun x hx v hv=> hop x (by simp [Op.operands,Call.operands,hg];right;simpa using hx) v hv)
    refine Z99 hΓ h rfl hg (caps:=nms.map fun nm=> Value.pointer (some (g.ad nm))) hfr.2 ⟨by simp [<-m1],fun j u x hu hx=> ?_⟩ he hps
    rw [Qm] at hu hx
    split at hu
    .rename_i hlt
     rw [if_pos (by omega)] at hx
     exact m2 j u x hu hx
    .rename_i hge
     rw [if_neg (by omega)] at hx
     rw [<-m1] at hx
     rw [Qa] at hu hx
     cases hnm:nms[j - (List.map a.eval c.args.toList).length]? with
     | none=> grind
     | some nm=>
      rw [hnm] at hu hx
      cases hu;cases hx
      exact ⟨hfr.1 nm (QC hnm),by rfl⟩
   .cases he
  .cases he
 case makeFunc fn first caps=>
  split at he
  .rename_i f nms hfi hm
   simp only [Option.some.injEq,Prod.mk.injEq] at he
   obtain ⟨rfl,rfl⟩:=he
   have hfirst:first=#[]:=by apply QQ;simpa using hfi
   have key:∀ (l:List Operand) (nms:List Name),(∀ x∈l,x∈caps.toList)->l.mapM (fun x=> (st.strip.opnd x).bind Zgj)=some nms->
     l.map a.eval=nms.map (fun nm=> Value.pointer (some (g.ad nm)))/\∀ nm∈nms,((st.mem nm).isSome || nm.isX)=true:=by
    intro l
    induction l with
    | nil=> grind
    | cons x l ih=>
     intro nms hl hm
     rw [QF] at hm
     cases h1:(st.strip.opnd x).bind Zgj with
     | none=> grind
     | some nm=>
      cases h2:l.mapM (fun x=> (st.strip.opnd x).bind Zgj) with
      | none=> grind
      | some r=>
       simp [h1,h2] at hm
       subst hm
       obtain ⟨h3,h4⟩:=ih r (fun y hy=> hl y (by simp [hy])) h2
       obtain ⟨v,h5,h6⟩:=bind_some h1
       have h7:=hop x (by
        have:=hl x (by simp)
        simp only [Op.operands]
        grind) v h5
       unfold Zgj at h6
       split at h6
       .cases h6
        obtain ⟨h8,h9⟩:=h7
        rw [Addr.add_zero'] at h9
        grind
       .cases h6
   obtain ⟨k1,k2⟩:=key caps.toList nms (fun x hx=> hx) hm
   refine Ya (v:= .func (.func f) #[] (caps.map a.eval)) h ?_ ⟨k2,?_⟩
   .simp [execOp,Instr.makeFunc,hfirst]
   .congr 1
    grind
  .cases he
end Go.AM
