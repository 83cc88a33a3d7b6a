import Derived.Test.YtfapacabjkhepaaGreatWmW
set_option linter.unusedSimpArgs false
set_option linter.unusedVariables false
namespace Go.AM
variable {P:Program} {cfg:Cfg U}
structure CellR (α:Type) where
 get:List (Tok × LC U)->C U->Option α
 can:α->C U
 canL:α->List (Tok × LC U)
 ok:∀ (cfg:Cfg U) L c a,get L c=some a->Zea cfg c (can a)/\∀ y∈canL a,ZC (fun _=> none) L y.1=some y.2
theorem ZnT{a b:C U}(h:Wk a b):Zea cfg a b:=fun g v hr=> Zcs (cfg:=cfg) h g (fun _=> false) v hr
def ZlS(k:IntKind):CellR Int:=
 {get:=fun _ c=> match c with
   | .int k' n=> if k=k' then some n else none
   | _=> none
  can:=fun n=> .int k n
  canL:=fun _=> []
  ok:=by
   intro cfg L c a h
   refine ⟨?_,fun y hy=> by cases hy⟩
   split at h
   .split at h
    .rename_i hk;subst hk;cases h;exact fun _ _ h=> h
    .cases h
   .cases h }
def cSl(T:Ty):CellR (List (El T)):=
 {get:=fun _ c=> match rSl T [c] with
   | some (l,_)=> some l
   | none=> none
  can:=fun l=> sl T l
  canL:=fun _=> []
  ok:=by
   intro cfg L c a h
   refine ⟨?_,fun y hy=> by cases hy⟩
   split at h
   .rename_i l r hr
    cases h
    exact ZnT (Zus hr)
   .cases h }
def Zol(t:Tok)(k j:Nat):Bool:=
 match t with
 | .x k' j'=> Nat.beq k' k && Nat.beq j' j
 | _=> false
theorem Ztz{t:Tok}{k j:Nat}(h:Zol t k j=true):t= .x k j:=by
 unfold Zol at h
 split at h
 .rw [Q2] at h
  rw [Qa h.1,Qa h.2]
 .cases h
def ZlR(T:Ty)(k j:Nat):CellR (List (El T)):=
 {get:=fun _ c=> match c with
   | .nils=> some []
   | .slice S l .full=> if h:S=T then some (h▸l) else none
   | .slice S l (.own t)=> if h:S=T then (bif Zol t k j then some (h▸l) else none) else none
   | _=> none
  can:=fun l=> .slice (U:=U) T l (.own (.x k j))
  canL:=fun _=> []
  ok:=by
   intro cfg L c a h
   refine ⟨?_,fun y hy=> by cases hy⟩
   split at h
   .cases h
    intro g v hr
    have h1:=hr.1
    cases h1
    exact ⟨SimC.snil (cfg:=cfg) (U:=U) T _,fun _ b len cap hv=> by cases hv⟩
   .split at h
    .rename_i hT
     subst hT
     cases h
     intro g v hr
     refine ⟨hr.1.tl _,fun _ b len cap hv i h3 h4=> ?_⟩
     have:=hr.2 _ _ _ hv
     grind
    .cases h
   .split at h
    .rename_i hT
     subst hT
     rename_i t
     cases ht:Zol t k j with
     | false=> grind
     | true=>
      rw [ht] at h
      have:=Ztz ht
      subst this
      cases h
      exact fun _ _ hr=> hr
    .cases h
   .cases h }
def cWt(T:Ty)(n:Tok):CellR (List (El T)):=
 {get:=fun L c=> match c with
   | .mref t=> if t=n then match ZC (fun _=> none) L t with
    | some x=> if h:x.T=T/\x.f=0 then some (h.1▸x.l) else none
    | none=> none
    else none
   | _=> none
  can:=fun _=> .mref n
  canL:=fun l=> [(n,LC.mk (U:=U) T l 0)]
  ok:=by
   intro cfg L c a h
   split at h
   .rename_i t
    split at h
    .rename_i ht
     subst ht
     split at h
     .rename_i x hx
      split at h
      .rename_i hT
       obtain ⟨T',l,f⟩:=x
       obtain ⟨hT1,hT2⟩:=hT
       simp only at hT1 hT2
       subst hT1 hT2
       cases h
       refine ⟨fun _ _ hr=> hr,fun y hy=> ?_⟩
       grind
      .cases h
     .cases h
    .cases h
   .cases h }
def cWr(T:Ty)(k j:Nat):CellR (List (El T)):=cWt T (.x k j)
structure ObjL (α:Type) where
 get:List (Tok × LC U)->List (C U)->Option α
 can:α->List (C U)
 canL:α->List (Tok × LC U)
 ok:∀ (cfg:Cfg U) L cs a,get L cs=some a->(∀ y∈canL a,ZC (fun _=> none) L y.1=some y.2)/\cs.length=(can a).length/\∀ (j:Nat) c c',cs[j]?=some c->(can a)[j]?=some c'->Zea cfg c c'
def ObjL.nil:ObjL Unit:=
 {get:=fun _ cs=> match cs with
   | []=> some ()
   | _ ::_=> none
  can:=fun _=> []
  canL:=fun _=> []
  ok:=by
   grind }
def ObjL.cons{α β:Type}(A:CellR α)(B:ObjL β):ObjL (α × β):=
 {get:=fun L cs=> match cs with
   | c ::r=> match A.get L c with
    | some a=> match B.get L r with
     | some b=> some (a,b)
     | none=> none
    | none=> none
   | []=> none
  can:=fun p=> A.can p.1 ::B.can p.2
  canL:=fun p=> A.canL p.1++B.canL p.2
  ok:=by
   intro cfg L cs p h
   cases cs with
   | nil=> cases h
   | cons c r=>
    simp only at h
    split at h
    .rename_i a ha
     split at h
     .rename_i b hb
      cases h
      obtain ⟨h0,h1,h2⟩:=B.ok cfg L r b hb
      obtain ⟨h3,h4⟩:=A.ok cfg L c a ha
      grind
     .cases h
    .cases h }
structure ArgM (α:Type) where
 get:List (Tok × LC U)->List (V U)->List (List (C U))->Option α
 can:α->List (V U)
 canX:α->List (List (C U))
 canL:α->List (Tok × LC U)
 ok:∀ cfg:Cfg U,cfg.enc=enc->∀ L xs X a,get L xs X=some a->BetterAll cfg xs (can a) X (canX a)/\∀ y∈canL a,ZC (fun _=> none) L y.1=some y.2
def ArgM.nil:ArgM Unit:=
 {get:=fun _ xs X=> match xs,X with
   | [],[]=> some ()
   | _,_=> none
  can:=fun _=> []
  canX:=fun _=> []
  canL:=fun _=> []
  ok:=by
   intro cfg _ L xs X a h
   split at h
   .exact ⟨BetterAll.refl [] [],fun y hy=> by cases hy⟩
   .cases h }
def ArgM.cons{α β:Type}(A:Arg α)(B:ArgM β):ArgM (α × β):=
 {get:=fun L xs X=> match xs with
   | x ::r=> match A.get x with
    | some a=> match B.get L r X with
     | some b=> some (a,b)
     | none=> none
    | none=> none
   | []=> none
  can:=fun p=> A.can p.1 ::B.can p.2
  canX:=fun p=> B.canX p.2
  canL:=fun p=> B.canL p.2
  ok:=by
   intro cfg hc L xs X p h
   cases xs with
   | nil=> cases h
   | cons x r=>
    simp only at h
    split at h
    .rename_i a ha
     split at h
     .rename_i b hb
      cases h
      obtain ⟨hB,hBL⟩:=B.ok cfg hc L r X b hb
      refine ⟨?_,hBL⟩
      refine ⟨by simp [hB.len],fun j x' y hx hy=> ?_,hB.xlen,hB.xl,hB.x⟩
      cases j with
      | zero=> simp at hx hy;subst hx hy;exact A.ok cfg hc x a ha
      | succ j=> exact hB.args j x' y (by simpa using hx) (by simpa using hy)
     .cases h
    .cases h }
def isX(k o:Nat):V U->Bool
 | .ptr (.x k') off=> Nat.beq k k' && Nat.beq off o
 | _=> false
theorem ZEb{k o:Nat}{v:V U}(h:isX k o v=true):v= .ptr (.x k) o:=by
 unfold isX at h
 split at h
 .rw [Q2] at h
  rw [Qa h.1,Qa h.2]
 .cases h
def ArgM.objAt{α β:Type}(k o:Nat)(A:ObjL α)(B:ArgM β):ArgM (α × β):=
 {get:=fun L xs X=> match xs,X with
   | x ::r,cs ::X'=> bif isX k o x then match A.get L cs with
    | some a=> match B.get L r X' with
     | some b=> some (a,b)
     | none=> none
    | none=> none
    else none
   | _,_=> none
  can:=fun p=> .ptr (.x k) o ::B.can p.2
  canX:=fun p=> A.can p.1 ::B.canX p.2
  canL:=fun p=> A.canL p.1++B.canL p.2
  ok:=by
   intro cfg hc L xs X p h
   split at h
   .rename_i x r cs X'
    cases hx:isX k o x with
    | false=> grind
    | true=>
     rw [hx] at h
     simp only [cond_true] at h
     have ex:=ZEb hx
     subst ex
     split at h
     .rename_i a ha
      split at h
      .rename_i b hb
       cases h
       obtain ⟨hB,hBL⟩:=B.ok cfg hc L r X' b hb
       obtain ⟨hAL,hA⟩:=A.ok cfg L cs a ha
       refine ⟨?_,fun y hy=> (Qi.1 hy).elim (hAL y) (hBL y)⟩
       refine ⟨by simp [hB.len],fun j x' y hx hy=> ?_,by simp [hB.xlen],fun j x' y hx hy=> ?_,fun j x' y hx hy i c c' hcc hc'=> ?_⟩
       .cases j with
        | zero=> simp at hx hy;subst hx hy;exact fun _ _ _ h=> h
        | succ j=> exact hB.args j x' y (by simpa using hx) (by simpa using hy)
       .cases j with
        | zero=> simp at hx hy;subst hx hy;exact hA.1
        | succ j=> exact hB.xl j x' y (by simpa using hx) (by simpa using hy)
       .cases j with
        | zero=>
         simp at hx hy
         subst hx hy
         exact hA.2 i c c' hcc hc'
        | succ j=> exact hB.x j x' y (by simpa using hx) (by simpa using hy) i c c' hcc hc'
      .cases h
     .cases h
   .cases h }
def ArgM.obj{α β:Type}(k:Nat)(A:ObjL α)(B:ArgM β):ArgM (α × β):=ArgM.objAt k 0 A B
def ArgM.clo{α β:Type}(f:FuncId)(k:Nat)(A:ObjL α)(B:ArgM β):ArgM (α × β):=
 {get:=fun L xs X=> match xs,X with
   | .clo g [.x k'] ::r,cs ::X'=> bif Nat.beq g f && Nat.beq k' k then match A.get L cs with
    | some a=> match B.get L r X' with
     | some b=> some (a,b)
     | none=> none
    | none=> none
    else none
   | _,_=> none
  can:=fun p=> .clo f [.x k] ::B.can p.2
  canX:=fun p=> A.can p.1 ::B.canX p.2
  canL:=fun p=> A.canL p.1++B.canL p.2
  ok:=by
   intro cfg hc L xs X p h
   split at h
   .rename_i g k' r cs X'
    cases hx:(Nat.beq g f && Nat.beq k' k) with
    | false=> grind
    | true=>
     rw [hx] at h
     simp only [cond_true] at h
     rw [Q2] at hx
     have e1:=Qa hx.1
     have e2:=Qa hx.2
     subst e1 e2
     split at h
     .rename_i a ha
      split at h
      .rename_i b hb
       cases h
       obtain ⟨hB,hBL⟩:=B.ok cfg hc L r X' b hb
       obtain ⟨hAL,hA⟩:=A.ok cfg L cs a ha
       refine ⟨?_,fun y hy=> (Qi.1 hy).elim (hAL y) (hBL y)⟩
       refine ⟨by simp [hB.len],fun j x' y hx hy=> ?_,by simp [hB.xlen],fun j x' y hx hy=> ?_,fun j x' y hx hy i c c' hcc hc'=> ?_⟩
       .cases j with
        | zero=> simp at hx hy;subst hx hy;exact fun _ _ _ h=> h
        | succ j=> exact hB.args j x' y (by simpa using hx) (by simpa using hy)
       .cases j with
        | zero=> simp at hx hy;subst hx hy;exact hA.1
        | succ j=> exact hB.xl j x' y (by simpa using hx) (by simpa using hy)
       .cases j with
        | zero=>
         simp at hx hy
         subst hx hy
         exact hA.2 i c c' hcc hc'
        | succ j=> exact hB.x j x' y (by simpa using hx) (by simpa using hy) i c c' hcc hc'
      .cases h
     .cases h
   .cases h }
def fsX{α:Type}(A:ArgM α)(pre:α->List Prop)(res:α->V U)(resX:α->List (List (C U))):Fs U:=
 {fn:=fun xs X=> match A.get [] xs X with
   | some a=> some (pre a,res a,resX a)
   | none=> none }
theorem Zjw {Γ:Known U} {α:Type} {A:ArgM α} {pre:α->List Prop} {res:α->V U} {resX:α->List (List (C U))} (ok:CfgOk P cfg) (henc:cfg.enc=enc) (hΓ:∀ f s,Γ f=some s->Contract P cfg f s) {f:FuncId} {fn:Func} (lv:Zd U)
  (hf : P.funcs[f]? = some fn) (hb : fn.body = some (cd fn [])) (hname : (fn.name == "runtime.NumGoroutine") = false) (hn : ∀ a, (A.can a).length ≤ fn.ntmps)
  (hbody:∀ a,All (pre a)->awp cfg Γ (Z09 cfg Γ) fn.ntmps lv (cd fn []) (Zg (A.can a) (A.canX a)) (Y2 cfg fn.ntmps fn.results.toList (res a) (resX a))):Contract P cfg f (fsX A pre res resX):=by
 refine Zdv ok hΓ (Z2A ok hΓ) lv hf hb hname ?_
 intro args X ps r X' hs hps
 unfold fsX at hs
 simp only at hs
 split at hs
 .rename_i a ha
  cases hs
  exact ⟨A.can a,A.canX a,(A.ok cfg henc [] args X a ha).1,hn a,hbody a hps⟩
 .cases hs
theorem J3 {l:List (FuncId × Fs U)} {α:Type} {A:ArgM α} {pre:α->Prop} {res:α->V U} {resX:α->List (List (C U))} (ok:CfgOk P cfg) (henc:cfg.enc=enc) (hl:Z5N P cfg l) {f:FuncId} {fn:Func} (lv:Zd U)
  (hf : P.funcs[f]? = some fn) (hb : fn.body = some (cd fn [])) (hname : (fn.name == "runtime.NumGoroutine") = false) (n : Nat) (hn : ∀ a, (A.can a).length = n) (hn' : n ≤ fn.ntmps)
  (hbody:∀ a,pre a->awp cfg (Z1 l) (Z09 cfg (Z1 l)) fn.ntmps lv (cd fn []) (Zg (A.can a) (A.canX a)) (Y2 cfg fn.ntmps fn.results.toList (res a) (resX a))):Contract P cfg f (fsX A (fun a=> [pre a]) res resX):=
 Zjw ok henc (JV hl) lv hf hb hname (fun a=> by grind) (fun a h=> hbody a h.1)
def ZnI{α:Type}(A:ArgM α)(pre:α->List Prop)(res:α->V U)(resX:α->List (List (C U)))(resL:α->List (Tok × LC U)):Fs U:=
 {wr:=true
  mkl:=true
  fn:=fun _ _=> none
  fn2:=fun xs X L=> match A.get L xs X with
   | some a=> some (pre a,res a,resX a,resL a)
   | none=> none }
theorem Zan:∀ {L:List (Tok × LC U)} {t:Tok} {x:LC U},ZC (fun _=> none) L t=some x->(t,x)∈L
 | [],t,x,h=> by trivial
 | (a,y) ::L,t,x,h=> by
  simp only [ZC] at h
  split at h
  .grind
  .exact Q0 _ (Zan h)
theorem ZgU {Γ:Known U} {α:Type} {A:ArgM α} {pre:α->List Prop} {res:α->V U} {resX:α->List (List (C U))} {resL:α->List (Tok × LC U)} (ok:CfgOk P cfg) (henc:cfg.enc=enc) (hΓ:∀ f s,Γ f=some s->Contract P cfg f s) {f:FuncId} {fn:Func} (lv:Zd U)
  (hf : P.funcs[f]? = some fn) (hb : fn.body = some (cd fn [])) (hname : (fn.name == "runtime.NumGoroutine") = false) (hn : ∀ a, (A.can a).length ≤ fn.ntmps)
  (hbody:∀ a,All (pre a)->awp cfg Γ (Z09 cfg Γ) fn.ntmps lv (cd fn []) (Z1d (A.can a) (A.canX a) (A.canL a)) (Z4a cfg fn.ntmps fn.results.toList (res a) (resX a) (resL a))):Contract P cfg f (ZnI A pre res resX resL):=by
 refine Z5G ok hΓ (Z2A ok hΓ) lv hf hb hname ?_
 intro args X L ps r X' L' hs hps
 unfold ZnI at hs
 simp only at hs
 split at hs
 .rename_i a ha
  cases hs
  obtain ⟨h1,h2⟩:=A.ok cfg henc L args X a ha
  exact ⟨A.can a,A.canX a,A.canL a,h1,fun t x hx=> h2 _ (Zan hx),hn a,hbody a hps⟩
 .cases hs
theorem Z0C {l:List (FuncId × Fs U)} {α:Type} {A:ArgM α} {pre:α->Prop} {res:α->V U} {resX:α->List (List (C U))} {resL:α->List (Tok × LC U)} (ok:CfgOk P cfg) (henc:cfg.enc=enc) (hl:Z5N P cfg l) {f:FuncId} {fn:Func} (lv:Zd U)
  (hf : P.funcs[f]? = some fn) (hb : fn.body = some (cd fn [])) (hname : (fn.name == "runtime.NumGoroutine") = false) (n : Nat) (hn : ∀ a, (A.can a).length = n) (hn' : n ≤ fn.ntmps)
  (hbody:∀ a,pre a->awp cfg (Z1 l) (Z09 cfg (Z1 l)) fn.ntmps lv (cd fn []) (Z1d (A.can a) (A.canX a) (A.canL a)) (Z4a cfg fn.ntmps fn.results.toList (res a) (resX a) (resL a))):Contract P cfg f (ZnI A (fun a=> [pre a]) res resX resL):=
 ZgU (Γ:=Z1 l) ok henc (JV hl) lv hf hb hname (fun a=> by grind) (fun a h=> hbody a h.1)
def fsL{α:Type}(A:ArgL α)(pre:α->List Prop)(T:Ty)(res:α->List (El T)):Fs U:=
 {mkl:=true
  fn:=fun _ _=> none
  fn2:=fun xs X L=> match X,L with
   | [],[]=> match A.get xs with
    | some a=> some (pre a,.c (.mref (.r 0 0)),[],[(.r 0 0,LC.mk (U:=U) T (res a) 0)])
    | none=> none
   | _,_=> none }
theorem Z6S {l:List (FuncId × Fs U)} {α:Type} {A:ArgL α} {pre:α->Prop} {T:Ty} {res:α->List (El T)} (ok:CfgOk P cfg) (henc:cfg.enc=enc) (hl:Z5N P cfg l) {f:FuncId} {fn:Func} (lv:Zd U)
  (hf : P.funcs[f]? = some fn) (hb : fn.body = some (cd fn [])) (hname : (fn.name == "runtime.NumGoroutine") = false) (n : Nat) (hn : ∀ a, (A.can a).length = n) (hn' : n ≤ fn.ntmps)
  (hbody:∀ a,pre a->awp cfg (Zgb l) (Z09 cfg (Zgb l)) fn.ntmps lv (cd fn []) (Zg (A.can a) []) (Z4a cfg fn.ntmps fn.results.toList (.c (.mref (.r 0 0))) [] [(.r 0 0,LC.mk (U:=U) T (res a) 0)])):Contract P cfg f (fsL A (fun a=> [pre a]) T res):=by
 have kn:∀ f s,(Zgb l) f=some s->Contract P cfg f s:=JV hl
 refine Z5G ok kn (Z2A ok kn) lv hf hb hname ?_
 intro args X L ps r X' L' hs hps
 unfold fsL at hs
 simp only at hs
 split at hs
 .split at hs
  .rename_i a ha
   cases hs
   obtain ⟨h1,h2⟩:=A.ok cfg henc args a ha
   exact ⟨A.can a,[],[],⟨h1,h2,rfl,fun k x y hx=> by simp at hx,fun k x y hx=> by simp at hx⟩,fun t x hx=> hx,by grind,hbody a hps.1⟩
  .cases hs
 .cases hs
def ZEd(s s':Fs U):Fs U:=
 {wr:=s.wr
  mkl:=s.mkl
  fn:=fun _ _=> none
  fn2:=fun xs X L=> match s.fn2 xs X L with
   | some r=> some r
   | none=> s'.fn2 xs X L }
theorem ZlP{f:FuncId}{s s':Fs U}(h:Contract P cfg f s)(h':Contract P cfg f s'):Contract P cfg f (ZEd s s'):=by
 refine ⟨h.1,fun args X L ps r X' L' he hps hX w g vs E=> ?_⟩
 simp only [ZEd] at he
 split at he
 .rename_i r0 h0
  cases he
  exact h.2 args X L ps r X' L' h0 hps hX w g vs E
 .exact h'.2 args X L ps r X' L' he hps hX w g vs E
end Go.AM
