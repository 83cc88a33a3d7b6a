import Derived.Test.YtcljdbpmjdgooaaEmW
set_option linter.unusedSimpArgs false
set_option linter.unusedVariables false
namespace Go.AM
variable {P:Program} {cfg:Cfg U}
structure CellR (α:Type) where
 get:List (Tok × LC U)->C U->Option α
 can:α->C U
 canL:α->List (Tok × LC U)
 ok:∀ (cfg:Cfg U) L c a,get L c=some a->ZbJ cfg c (can a)/\∀ y∈canL a,Z7 (fun _=> none) L y.1=some y.2
def ZgU(k:IntKind):CellR Int:=
 {get:=fun _ c=> match c with
   | .int k' n=> if k=k' then some n else none
   | _=> none
  can:=fun n=> .int k n
  canL:=fun _=> []
  ok:=by
   intro cfg L c a h
   refine ⟨?_,fun y hy=> by cases hy⟩
   split at h
   .split at h
    .rename_i hk;subst hk;cases h;exact fun _ _ h=> h
    .cases h
   .cases h }
def cAr:CellR Arena:=
 {get:=fun L c=> match c with
   | .mref .A=> match Z7 (fun _=> none) L .A with
    | some x=> if h:x.T= .arena/\x.f=0 then (match (h.1▸x.l:List (El .arena)) with
     | [y]=> some y
     | _=> none) else none
    | none=> none
   | _=> none
  can:=fun _=> .mref .A
  canL:=fun y=> [(.A,LC.mk (U:=U) .arena [y] 0)]
  ok:=by
   intro cfg L c a h
   split at h
   .split at h
    .rename_i x hx
     split at h
     .rename_i hT
      obtain ⟨T',l,f⟩:=x
      obtain ⟨hT1,hT2⟩:=hT
      simp only at hT1 hT2
      subst hT1 hT2
      simp only at h
      split at h
      .rename_i y
       cases h
       refine ⟨fun _ _ hr=> hr,fun z hz=> ?_⟩
       simp only [Qy] at hz
       subst hz
       exact hx
      .cases h
     .cases h
    .cases h
   .cases h }
structure ObjL (α:Type) where
 get:List (Tok × LC U)->List (C U)->Option α
 can:α->List (C U)
 canL:α->List (Tok × LC U)
 ok:∀ (cfg:Cfg U) L cs a,get L cs=some a->(∀ y∈canL a,Z7 (fun _=> none) L y.1=some y.2)/\cs.length=(can a).length/\∀ (j:Nat) c c',cs[j]?=some c->(can a)[j]?=some c'->ZbJ cfg c c'
def ObjL.nil:ObjL Unit:=
 {get:=fun _ cs=> match cs with
   | []=> some ()
   | _ ::_=> none
  can:=fun _=> []
  canL:=fun _=> []
  ok:=by
   grind }
def ObjL.cons{α β:Type}(A:CellR α)(B:ObjL β):ObjL (α × β):=
 {get:=fun L cs=> match cs with
   | c ::r=> match A.get L c with
    | some a=> match B.get L r with
     | some b=> some (a,b)
     | none=> none
    | none=> none
   | []=> none
  can:=fun p=> A.can p.1 ::B.can p.2
  canL:=fun p=> A.canL p.1++B.canL p.2
  ok:=by
   intro cfg L cs p h
   cases cs with
   | nil=> cases h
   | cons c r=>
    simp only at h
    split at h
    .rename_i a ha
     split at h
     .rename_i b hb
      cases h
      obtain ⟨h0,h1,h2⟩:=B.ok cfg L r b hb
      obtain ⟨h3,h4⟩:=A.ok cfg L c a ha
      grind
     .cases h
    .cases h }
structure ArgM (α:Type) where
 get:List (Tok × LC U)->List (V U)->List (List (C U))->Option α
 can:α->List (V U)
 canX:α->List (List (C U))
 canL:α->List (Tok × LC U)
 ok:∀ cfg:Cfg U,cfg.enc=enc->∀ L xs X a,get L xs X=some a->BetterAll cfg xs (can a) X (canX a)/\∀ y∈canL a,Z7 (fun _=> none) L y.1=some y.2
def ArgM.nil:ArgM Unit:=
 {get:=fun _ xs X=> match xs,X with
   | [],[]=> some ()
   | _,_=> none
  can:=fun _=> []
  canX:=fun _=> []
  canL:=fun _=> []
  ok:=by
   intro cfg _ L xs X a h
   split at h
   .exact ⟨BetterAll.refl [] [],fun y hy=> by cases hy⟩
   .cases h }
def ArgM.cons{α β:Type}(A:Arg α)(B:ArgM β):ArgM (α × β):=
 {get:=fun L xs X=> match xs with
   | x ::r=> match A.get x with
    | some a=> match B.get L r X with
     | some b=> some (a,b)
     | none=> none
    | none=> none
   | []=> none
  can:=fun p=> A.can p.1 ::B.can p.2
  canX:=fun p=> B.canX p.2
  canL:=fun p=> B.canL p.2
  ok:=by
   intro cfg hc L xs X p h
   cases xs with
   | nil=> cases h
   | cons x r=>
    simp only at h
    split at h
    .rename_i a ha
     split at h
     .rename_i b hb
      cases h
      obtain ⟨hB,hBL⟩:=B.ok cfg hc L r X b hb
      refine ⟨?_,hBL⟩
      refine ⟨by simp [hB.len],fun j x' y hx hy=> ?_,hB.xlen,hB.xl,hB.x⟩
      cases j with
      | zero=> simp at hx hy;subst hx hy;exact A.ok cfg hc x a ha
      | succ j=> exact hB.args j x' y (by simpa using hx) (by simpa using hy)
     .cases h
    .cases h }
def isX(k o:Nat):V U->Bool
 | .ptr (.x k') off=> Nat.beq k k' && Nat.beq off o
 | _=> false
theorem Zpn{k o:Nat}{v:V U}(h:isX k o v=true):v= .ptr (.x k) o:=by
 unfold isX at h
 split at h
 .rw [Q3] at h
  rw [Q4 h.1,Q4 h.2]
 .cases h
def ArgM.lst{α β:Type}(A:CellR α)(B:ArgM β):ArgM (α × β):=
 {get:=fun L xs X=> match xs with
   | .c x ::r=> match A.get L x with
    | some a=> match B.get L r X with
     | some b=> some (a,b)
     | none=> none
    | none=> none
   | _=> none
  can:=fun p=> .c (A.can p.1) ::B.can p.2
  canX:=fun p=> B.canX p.2
  canL:=fun p=> A.canL p.1++B.canL p.2
  ok:=by
   intro cfg hc L xs X p h
   split at h
   .rename_i x r
    split at h
    .rename_i a ha
     split at h
     .rename_i b hb
      cases h
      obtain ⟨hB,hBL⟩:=B.ok cfg hc L r X b hb
      obtain ⟨hA,hAL⟩:=A.ok cfg L x a ha
      refine ⟨⟨by simp [hB.len],fun j x' y hx hy=> ?_,hB.xlen,hB.xl,hB.x⟩,fun y hy=> (QA.1 hy).elim (hAL y) (hBL y)⟩
      cases j with
      | zero=> simp at hx hy;subst hx hy;exact fun g live v hr=> hA g v hr
      | succ j=> exact hB.args j x' y (by simpa using hx) (by simpa using hy)
     .cases h
    .cases h
   .cases h }
def ArgM.agg{α β:Type}(A:ObjL α)(B:ArgM β):ArgM (α × β):=
 {get:=fun L xs X=> match xs with
   | .agg x ::r=> match A.get L x with
    | some a=> match B.get L r X with
     | some b=> some (a,b)
     | none=> none
    | none=> none
   | _=> none
  can:=fun p=> .agg (A.can p.1) ::B.can p.2
  canX:=fun p=> B.canX p.2
  canL:=fun p=> A.canL p.1++B.canL p.2
  ok:=by
   intro cfg hc L xs X p h
   split at h
   .rename_i x r
    split at h
    .rename_i a ha
     split at h
     .rename_i b hb
      cases h
      obtain ⟨hB,hBL⟩:=B.ok cfg hc L r X b hb
      obtain ⟨hAL,hl,hA⟩:=A.ok cfg L x a ha
      refine ⟨⟨by simp [hB.len],fun j x' y hx hy=> ?_,hB.xlen,hB.xl,hB.x⟩,fun y hy=> (QA.1 hy).elim (hAL y) (hBL y)⟩
      cases j with
      | zero=>
       simp at hx hy
       subst hx hy
       rintro g live v ⟨vs,h1,h2,h3⟩
       refine ⟨vs,h1,by rw [h2,hl],fun j u c' hu hc'=> ?_⟩
       have hj:j < x.length:=by have:=(Q1.1 hc').1;omega
       exact hA j _ c' (Q0 hj) hc' g u (h3 j u _ hu (Q0 hj))
      | succ j=> exact hB.args j x' y (by simpa using hx) (by simpa using hy)
     .cases h
    .cases h
   .cases h }
def ArgM.objAt{α β:Type}(k o:Nat)(A:ObjL α)(B:ArgM β):ArgM (α × β):=
 {get:=fun L xs X=> match xs,X with
   | x ::r,cs ::X'=> bif isX k o x then match A.get L cs with
    | some a=> match B.get L r X' with
     | some b=> some (a,b)
     | none=> none
    | none=> none
    else none
   | _,_=> none
  can:=fun p=> .ptr (.x k) o ::B.can p.2
  canX:=fun p=> A.can p.1 ::B.canX p.2
  canL:=fun p=> A.canL p.1++B.canL p.2
  ok:=by
   intro cfg hc L xs X p h
   split at h
   .rename_i x r cs X'
    cases hx:isX k o x with
    | false=> grind
    | true=>
     rw [hx] at h
     simp only [cond_true] at h
     have ex:=Zpn hx
     subst ex
     split at h
     .rename_i a ha
      split at h
      .rename_i b hb
       cases h
       obtain ⟨hB,hBL⟩:=B.ok cfg hc L r X' b hb
       obtain ⟨hAL,hA⟩:=A.ok cfg L cs a ha
       refine ⟨?_,fun y hy=> (QA.1 hy).elim (hAL y) (hBL y)⟩
       refine ⟨by simp [hB.len],fun j x' y hx hy=> ?_,by simp [hB.xlen],fun j x' y hx hy=> ?_,fun j x' y hx hy i c c' hcc hc'=> ?_⟩
       .cases j with
        | zero=> simp at hx hy;subst hx hy;exact fun _ _ _ h=> h
        | succ j=> exact hB.args j x' y (by simpa using hx) (by simpa using hy)
       .cases j with
        | zero=> simp at hx hy;subst hx hy;exact hA.1
        | succ j=> exact hB.xl j x' y (by simpa using hx) (by simpa using hy)
       .cases j with
        | zero=>
         simp at hx hy
         subst hx hy
         exact hA.2 i c c' hcc hc'
        | succ j=> exact hB.x j x' y (by simpa using hx) (by simpa using hy) i c c' hcc hc'
      .cases h
     .cases h
   .cases h }
def ArgM.obj{α β:Type}(k:Nat)(A:ObjL α)(B:ArgM β):ArgM (α × β):=ArgM.objAt k 0 A B
def fsX{α:Type}(A:ArgM α)(pre:α->List Prop)(res:α->V U)(resX:α->List (List (C U))):Fs U:=
 {fn:=fun xs X=> match A.get [] xs X with
   | some a=> some (pre a,res a,resX a)
   | none=> none }
theorem Z2i {Γ:Known U} {α:Type} {A:ArgM α} {pre:α->List Prop} {res:α->V U} {resX:α->List (List (C U))} (ok:CfgOk P cfg) (henc:cfg.enc=enc) (hΓ:∀ f s,Γ f=some s->Contract P cfg f s) {f:FuncId} {fn:Func} (lv:Z8 U)
  (hf : P.funcs[f]? = some fn) (hb : fn.body = some (cd fn [])) (hname : (fn.name == "runtime.NumGoroutine") = false) (hn : ∀ a, (A.can a).length ≤ fn.ntmps)
  (hbody:∀ a,All (pre a)->awp cfg Γ (Y0 cfg Γ) fn.ntmps lv (cd fn []) (Zi (A.can a) (A.canX a)) (Yg cfg fn.ntmps fn.results.toList (res a) (resX a))):Contract P cfg f (fsX A pre res resX):=by
 refine Z74 ok hΓ (Z0v ok hΓ) lv hf hb hname ?_
 intro args X ps r X' hs hps
 unfold fsX at hs
 simp only at hs
 split at hs
 .rename_i a ha
  cases hs
  exact ⟨A.can a,A.canX a,(A.ok cfg henc [] args X a ha).1,hn a,hbody a hps⟩
 .cases hs
theorem Z96 {l:List (FuncId × Fs U)} {α:Type} {A:ArgM α} {pre:α->Prop} {res:α->V U} {resX:α->List (List (C U))} (ok:CfgOk P cfg) (henc:cfg.enc=enc) (hl:Z2l P cfg l) {f:FuncId} {fn:Func} (lv:Z8 U)
  (hf : P.funcs[f]? = some fn) (hb : fn.body = some (cd fn [])) (hname : (fn.name == "runtime.NumGoroutine") = false) (n : Nat) (hn : ∀ a, (A.can a).length = n) (hn' : n ≤ fn.ntmps)
  (hbody:∀ a,pre a->awp cfg (Z0 l) (Y0 cfg (Z0 l)) fn.ntmps lv (cd fn []) (Zi (A.can a) (A.canX a)) (Yg cfg fn.ntmps fn.results.toList (res a) (resX a))):Contract P cfg f (fsX A (fun a=> [pre a]) res resX):=
 Z2i ok henc (Z0a hl) lv hf hb hname (fun a=> by grind) (fun a h=> hbody a h.1)
theorem Zcy {α : Type} {A : ArgM α} {pre : α → Prop} {μ : α → Nat} {res : α → V U} {resX : α → List (List (C U))} {f : FuncId} (h0 : ∃ fn, P.funcs[f]? = some fn ∧ fn.body.isSome = true ∧ (fn.name == "runtime.NumGoroutine") = false) :
  Contract P cfg f (fsX A (fun a=> [pre a,μ a < 0]) res resX):=by
 refine JI h0 rfl ?_
 intro args X ps r X' hs hps
 unfold fsX at hs
 simp only at hs
 split at hs
 .cases hs;exact absurd hps.2.1 (Nat.not_lt_zero _)
 .cases hs
theorem Zcz {α : Type} {A : ArgM α} {pre : α → Prop} {μ : α → Nat} {res : α → V U} {resX : α → List (List (C U))} {f : FuncId} (h0 : ∃ fn, P.funcs[f]? = some fn ∧ fn.body.isSome = true ∧ (fn.name == "runtime.NumGoroutine") = false)
  (key:∀ N,Contract P cfg f (fsX A (fun a=> [pre a,μ a < N]) res resX)):Contract P cfg f (fsX A (fun a=> [pre a]) res resX):=by
 refine JI h0 rfl ?_
 intro args X ps r X' hs hps hX w g vs E
 unfold fsX at hs
 simp only at hs
 split at hs
 .rename_i a ha
  cases hs
  exact (key (μ a+1)).one rfl args X [pre a,μ a < μ a+1] _ _ (by simp only [fsX,ha]) ⟨hps.1,K8 _,trivial⟩ hX w g vs E
 .cases hs
def okA(L L0:List (Tok × LC U)):Bool:=(Z7 (fun _=> none) L0 .A).isSome || (Z7 (fun _=> none) L .A).isNone
def Z07{α:Type}(A:ArgM α)(pre:α->List Prop)(res:α->V U)(resX:α->List (List (C U)))(resL:α->List (Tok × LC U)):Fs U:=
 {wr:=true
  mkl:=true
  fn:=fun _ _=> none
  fn2:=fun xs X L=> match A.get L xs X with
   | some a=> bif okA L (A.canL a) then some (pre a,res a,resX a,resL a) else none
   | none=> none }
theorem Z69 {α:Type} {A:ArgM α} {pre:α->List Prop} {res:α->V U} {resX:α->List (List (C U))} {resL:α->List (Tok × LC U)} {xs:List (V U)} {X:List (List (C U))} {L:List (Tok × LC U)} {y:List Prop × V U × List (List (C U)) × List (Tok × LC U)}
  (h:(Z07 A pre res resX resL).fn2 xs X L=some y):∃ a,A.get L xs X=some a/\okA L (A.canL a)=true/\y=(pre a,res a,resX a,resL a):=by
 unfold Z07 at h
 simp only at h
 split at h
 .rename_i a ha
  rw [cond_eq_ite] at h
  split at h
  .rename_i hc
   cases h
   exact ⟨a,ha,hc,rfl⟩
  .cases h
 .cases h
theorem Z5e:∀ {L:List (Tok × LC U)} {t:Tok} {x:LC U},Z7 (fun _=> none) L t=some x->(t,x)∈L
 | [],t,x,h=> by trivial
 | (a,y) ::L,t,x,h=> by
  simp only [Z7] at h
  split at h
  .grind
  .exact Q7 _ (Z5e h)
theorem Z0c {Γ:Known U} {α:Type} {A:ArgM α} {pre:α->List Prop} {res:α->V U} {resX:α->List (List (C U))} {resL:α->List (Tok × LC U)} (ok:CfgOk P cfg) (henc:cfg.enc=enc) (hΓ:∀ f s,Γ f=some s->Contract P cfg f s) {f:FuncId} {fn:Func} (lv:Z8 U)
  (hf : P.funcs[f]? = some fn) (hb : fn.body = some (cd fn [])) (hname : (fn.name == "runtime.NumGoroutine") = false) (hn : ∀ a, (A.can a).length ≤ fn.ntmps)
  (hbody:∀ a,All (pre a)->awp cfg Γ (Y0 cfg Γ) fn.ntmps lv (cd fn []) (Yu (A.can a) (A.canX a) (A.canL a)) (YQ cfg fn.ntmps fn.results.toList (res a) (resX a) (resL a))) (hna:Γ.na=false:=by rfl):Contract P cfg f (Z07 A pre res resX resL):=by
 refine Z5v ok hΓ (Z0v ok hΓ) lv hf hb hname ?_
 intro args X L ps r X' L' hs hps
 obtain ⟨a,ha,hc,e⟩:=Z69 hs
 cases e
 obtain ⟨h1,h2⟩:=A.ok cfg henc L args X a ha
 refine ⟨fun h=> (by rw [hna] at h;cases h),A.can a,A.canX a,A.canL a,h1,⟨fun t x hx=> h2 _ (Z5e hx),fun h=> ?_⟩,hn a,hbody a hps⟩
 unfold okA at hc
 rw [h] at hc
 simpa using hc
theorem ZM {l:List (FuncId × Fs U)} {α:Type} {A:ArgM α} {pre:α->Prop} {res:α->V U} {resX:α->List (List (C U))} {resL:α->List (Tok × LC U)} (ok:CfgOk P cfg) (henc:cfg.enc=enc) (hl:Z2l P cfg l) {f:FuncId} {fn:Func} (lv:Z8 U)
  (hf : P.funcs[f]? = some fn) (hb : fn.body = some (cd fn [])) (hname : (fn.name == "runtime.NumGoroutine") = false) (n : Nat) (hn : ∀ a, (A.can a).length = n) (hn' : n ≤ fn.ntmps)
  (hbody:∀ a,pre a->awp cfg (Z0 l) (Y0 cfg (Z0 l)) fn.ntmps lv (cd fn []) (Yu (A.can a) (A.canX a) (A.canL a)) (YQ cfg fn.ntmps fn.results.toList (res a) (resX a) (resL a))):Contract P cfg f (Z07 A (fun a=> [pre a]) res resX resL):=
 Z0c (Γ:=Z0 l) ok henc (Z0a hl) lv hf hb hname (fun a=> by grind) (fun a h=> hbody a h.1)
def Fs.passing(s:Fs U)(p:List Nat):Fs U:={ s with pass:=fun i=> p.contains i }
theorem Contract.passing{f:FuncId}{s:Fs U}{p:List Nat}(h:Contract P cfg f s):Contract P cfg f (s.passing p):=h
theorem Z68 {α : Type} {A : ArgM α} {pre : α → Prop} {μ : α → Nat} {res : α → V U} {resX : α → List (List (C U))} {resL : α → List (Tok × LC U)} {f : FuncId} (h0 : ∃ fn, P.funcs[f]? = some fn ∧ fn.body.isSome = true ∧ (fn.name == "runtime.NumGoroutine") = false) :
  Contract P cfg f (Z07 A (fun a=> [pre a,μ a < 0]) res resX resL):=by
 refine ⟨h0,fun args X L ps r X' L' he hps hX w g vs E=> ?_⟩
 obtain ⟨a,_,_,e⟩:=Z69 he
 cases e
 exact absurd hps.2.1 (Nat.not_lt_zero _)
theorem Z6a {α:Type} {A:ArgM α} {pre:α->Prop} {μ:α->Nat} {res:α->V U} {resX:α->List (List (C U))} {resL:α->List (Tok × LC U)} {f:FuncId}
  (key:∀ N,Contract P cfg f (Z07 A (fun a=> [pre a,μ a < N]) res resX resL)):Contract P cfg f (Z07 A (fun a=> [pre a]) res resX resL):=by
 refine ⟨(key 0).1,fun args X L ps r X' L' he hps hX w g vs E=> ?_⟩
 obtain ⟨a,ha,hc,e⟩:=Z69 he
 cases e
 exact (key (μ a+1)).2 args X L [pre a,μ a < μ a+1] _ _ _ (by simp only [Z07,ha,hc,cond_true]) ⟨hps.1,K8 _,trivial⟩ hX w g vs E
def Fs.lend(s:Fs U):Fs U:={ s with bor:=true }
theorem Contract.lend{f:FuncId}{s:Fs U}(h:Contract P cfg f s):Contract P cfg f s.lend:=h
end Go.AM
