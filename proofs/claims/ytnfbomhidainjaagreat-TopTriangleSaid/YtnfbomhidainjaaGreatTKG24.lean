import Derived.Test.YtnfbomhidainjaaGreatTmX
import Derived.Test.YtnfbomhidainjaaGreatChecked
import Derived.Test.YtnfbomhidainjaaGreatRows
import Derived.ProofKit
set_option linter.unusedSimpArgs false
set_option linter.unusedVariables false
namespace Go.AM
variable {P:Program} {cfg:Cfg U}
structure CellR (α:Type) where
 get:List (Tok × LC U)->C U->Option α
 can:α->C U
 canL:α->List (Tok × LC U)
 ok:∀ (cfg:Cfg U) L c a,get L c=some a->Zdh cfg c (can a)/\∀ y∈canL a,Zt (fun _=> none) L y.1=some y.2
theorem Zo6{a b:C U}(h:Wk a b):Zdh cfg a b:=fun g v d=> Zbu (cfg:=cfg) h g (fun _=> false) v d
def ZlE(k:IntKind):CellR Int:=
 {get:=fun _ c=> match c with
   | .int k' n=> if k=k' then some n else none
   | _=> none
  can:=fun n=> .int k n
  canL:=fun _=> []
  ok:=by
   intro cfg L c a h
   refine ⟨?_,fun y hy=> by cases hy⟩
   split at h
   .split at h
    .rename_i hk;subst hk;cases h;exact fun _ _ h=> h
    .cases h
   .cases h }
def cSl(T:Ty):CellR (List (El T)):=
 {get:=fun _ c=> match rSl T [c] with
   | some (l,_)=> some l
   | none=> none
  can:=fun l=> sl T l
  canL:=fun _=> []
  ok:=by
   intro cfg L c a h
   refine ⟨?_,fun y hy=> by cases hy⟩
   split at h
   .rename_i l r hr
    cases h
    exact Zo6 (Zud hr)
   .cases h }
def Zoy(t:Tok)(k j:Nat):Bool:=
 match t with
 | .x k' j'=> Nat.beq k' k && Nat.beq j' j
 | _=> false
theorem Zt3{t:Tok}{k j:Nat}(h:Zoy t k j=true):t= .x k j:=by
 unfold Zoy at h
 split at h
 .rw [Q2] at h
  rw [Qc h.1,Qc h.2]
 .cases h
def Z4z(T:Ty)(k j:Nat):CellR (List (El T)):=
 {get:=fun _ c=> match c with
   | .nils=> some []
   | .slice S l .full=> if h:S=T then some (h▸l) else none
   | .slice S l (.own t)=> if h:S=T then (bif Zoy t k j then some (h▸l) else none) else none
   | _=> none
  can:=fun l=> .slice (U:=U) T l (.own (.x k j))
  canL:=fun _=> []
  ok:=by
   intro cfg L c a h
   refine ⟨?_,fun y hy=> by cases hy⟩
   split at h
   .cases h
    intro g v hr
    have h1:=hr.1
    cases h1
    exact ⟨SimC.snil (cfg:=cfg) (U:=U) T _,fun _ b len cap hv=> by cases hv⟩
   .split at h
    .rename_i hT
     subst hT
     cases h
     intro g v hr
     refine ⟨hr.1.tl _,fun _ b len cap hv i h3 h4=> ?_⟩
     have:=hr.2 _ _ _ hv
     grind
    .cases h
   .split at h
    .rename_i hT
     subst hT
     rename_i t
     cases ht:Zoy t k j with
     | false=> grind
     | true=>
      rw [ht] at h
      have:=Zt3 ht
      subst this
      cases h
      exact fun _ _ hr=> hr
    .cases h
   .cases h }
def cWt(T:Ty)(n:Tok):CellR (List (El T)):=
 {get:=fun L c=> match c with
   | .mref t=> if t=n then match Zt (fun _=> none) L t with
    | some x=> if h:x.T=T/\x.f=0 then some (h.1▸x.l) else none
    | none=> none
    else none
   | _=> none
  can:=fun _=> .mref n
  canL:=fun l=> [(n,LC.mk (U:=U) T l 0)]
  ok:=by
   intro cfg L c a h
   split at h
   .rename_i t
    split at h
    .rename_i ht
     subst ht
     split at h
     .rename_i x hx
      split at h
      .rename_i hT
       obtain ⟨T',l,f⟩:=x
       obtain ⟨hT1,hT2⟩:=hT
       simp only at hT1 hT2
       subst hT1 hT2
       cases h
       refine ⟨fun _ _ hr=> hr,fun y hy=> ?_⟩
       grind
      .cases h
     .cases h
    .cases h
   .cases h }
def cWr(T:Ty)(k j:Nat):CellR (List (El T)):=cWt T (.x k j)
structure ObjL (α:Type) where
 get:List (Tok × LC U)->List (C U)->Option α
 can:α->List (C U)
 canL:α->List (Tok × LC U)
 ok:∀ (cfg:Cfg U) L cs a,get L cs=some a->(∀ y∈canL a,Zt (fun _=> none) L y.1=some y.2)/\cs.length=(can a).length/\∀ (j:Nat) c c',cs[j]?=some c->(can a)[j]?=some c'->Zdh cfg c c'
def ObjL.nil:ObjL Unit:=
 {get:=fun _ cs=> match cs with
   | []=> some ()
   | _ ::_=> none
  can:=fun _=> []
  canL:=fun _=> []
  ok:=by
   grind }
def ObjL.cons{α β:Type}(A:CellR α)(B:ObjL β):ObjL (α × β):=
 {get:=fun L cs=> match cs with
   | c ::r=> match A.get L c with
    | some a=> match B.get L r with
     | some b=> some (a,b)
     | none=> none
    | none=> none
   | []=> none
  can:=fun p=> A.can p.1 ::B.can p.2
  canL:=fun p=> A.canL p.1++B.canL p.2
  ok:=by
   intro cfg L cs p h
   cases cs with
   | nil=> cases h
   | cons c r=>
    simp only at h
    split at h
    .rename_i a ha
     split at h
     .rename_i b hb
      cases h
      obtain ⟨h0,h1,h2⟩:=B.ok cfg L r b hb
      obtain ⟨h3,h4⟩:=A.ok cfg L c a ha
      grind
     .cases h
    .cases h }
structure ArgM (α:Type) where
 get:List (Tok × LC U)->List (V U)->List (List (C U))->Option α
 can:α->List (V U)
 canX:α->List (List (C U))
 canL:α->List (Tok × LC U)
 ok:∀ cfg:Cfg U,cfg.enc=enc->∀ L xs X a,get L xs X=some a->BetterAll cfg xs (can a) X (canX a)/\∀ y∈canL a,Zt (fun _=> none) L y.1=some y.2
def ArgM.nil:ArgM Unit:=
 {get:=fun _ xs X=> match xs,X with
   | [],[]=> some ()
   | _,_=> none
  can:=fun _=> []
  canX:=fun _=> []
  canL:=fun _=> []
  ok:=by
   intro cfg _ L xs X a h
   split at h
   .exact ⟨BetterAll.refl [] [],fun y hy=> by cases hy⟩
   .cases h }
def ArgM.cons{α β:Type}(A:Arg α)(B:ArgM β):ArgM (α × β):=
 {get:=fun L xs X=> match xs with
   | x ::r=> match A.get x with
    | some a=> match B.get L r X with
     | some b=> some (a,b)
     | none=> none
    | none=> none
   | []=> none
  can:=fun p=> A.can p.1 ::B.can p.2
  canX:=fun p=> B.canX p.2
  canL:=fun p=> B.canL p.2
  ok:=by
   intro cfg hc L xs X p h
   cases xs with
   | nil=> cases h
   | cons x r=>
    simp only at h
    split at h
    .rename_i a ha
     split at h
     .rename_i b hb
      cases h
      obtain ⟨hB,hBL⟩:=B.ok cfg hc L r X b hb
      refine ⟨?_,hBL⟩
      refine ⟨by simp [hB.len],fun j x' y hx hy=> ?_,hB.xlen,hB.xl,hB.x⟩
      cases j with
      | zero=> simp at hx hy;subst hx hy;exact A.ok cfg hc x a ha
      | succ j=> exact hB.args j x' y (by simpa using hx) (by simpa using hy)
     .cases h
    .cases h }
def isX(k o:Nat):V U->Bool
 | .ptr (.x k') off=> Nat.beq k k' && Nat.beq off o
 | _=> false
theorem ZEo{k o:Nat}{v:V U}(h:isX k o v=true):v= .ptr (.x k) o:=by
 unfold isX at h
 split at h
 .rw [Q2] at h
  rw [Qc h.1,Qc h.2]
 .cases h
def ArgM.objAt{α β:Type}(k o:Nat)(A:ObjL α)(B:ArgM β):ArgM (α × β):=
 {get:=fun L xs X=> match xs,X with
   | x ::r,cs ::X'=> bif isX k o x then match A.get L cs with
    | some a=> match B.get L r X' with
     | some b=> some (a,b)
     | none=> none
    | none=> none
    else none
   | _,_=> none
  can:=fun p=> .ptr (.x k) o ::B.can p.2
  canX:=fun p=> A.can p.1 ::B.canX p.2
  canL:=fun p=> A.canL p.1++B.canL p.2
  ok:=by
   intro cfg hc L xs X p h
   split at h
   .rename_i x r cs X'
    cases hx:isX k o x with
    | false=> grind
    | true=>
     rw [hx] at h
     simp only [cond_true] at h
     have ex:=ZEo hx
     subst ex
     split at h
     .rename_i a ha
      split at h
      .rename_i b hb
       cases h
       obtain ⟨hB,hBL⟩:=B.ok cfg hc L r X' b hb
       obtain ⟨hAL,hA⟩:=A.ok cfg L cs a ha
       refine ⟨?_,fun y hy=> (Qj.1 hy).elim (hAL y) (hBL y)⟩
       refine ⟨by simp [hB.len],fun j x' y hx hy=> ?_,by simp [hB.xlen],fun j x' y hx hy=> ?_,fun j x' y hx hy i c c' hcc hc'=> ?_⟩
       .cases j with
        | zero=> simp at hx hy;subst hx hy;exact fun _ _ _ h=> h
        | succ j=> exact hB.args j x' y (by simpa using hx) (by simpa using hy)
       .cases j with
        | zero=> simp at hx hy;subst hx hy;exact hA.1
        | succ j=> exact hB.xl j x' y (by simpa using hx) (by simpa using hy)
       .cases j with
        | zero=>
         simp at hx hy
         subst hx hy
         exact hA.2 i c c' hcc hc'
        | succ j=> exact hB.x j x' y (by simpa using hx) (by simpa using hy) i c c' hcc hc'
      .cases h
     .cases h
   .cases h }
def ArgM.obj{α β:Type}(k:Nat)(A:ObjL α)(B:ArgM β):ArgM (α × β):=ArgM.objAt k 0 A B
def ArgM.ifp{α β:Type}(f:TypeId)(k:Nat)(A:ObjL α)(B:ArgM β):ArgM (α × β):=
 {get:=fun L xs X=> match xs,X with
   | .ifp g (.x k') ::r,cs ::X'=> bif Nat.beq g f && Nat.beq k' k then match A.get L cs with
    | some a=> match B.get L r X' with
     | some b=> some (a,b)
     | none=> none
    | none=> none
    else none
   | _,_=> none
  can:=fun p=> .ifp f (.x k) ::B.can p.2
  canX:=fun p=> A.can p.1 ::B.canX p.2
  canL:=fun p=> A.canL p.1++B.canL p.2
  ok:=by
   intro cfg hc L xs X p h
   split at h
   .rename_i g k' r cs X'
    cases hx:(Nat.beq g f && Nat.beq k' k) with
    | false=> grind
    | true=>
     rw [hx] at h
     simp only [cond_true] at h
     rw [Q2] at hx
     have e1:=Qc hx.1
     have e2:=Qc hx.2
     subst e1 e2
     split at h
     .rename_i a ha
      split at h
      .rename_i b hb
       cases h
       obtain ⟨hB,hBL⟩:=B.ok cfg hc L r X' b hb
       obtain ⟨hAL,hA⟩:=A.ok cfg L cs a ha
       refine ⟨?_,fun y hy=> (Qj.1 hy).elim (hAL y) (hBL y)⟩
       refine ⟨by simp [hB.len],fun j x' y hx hy=> ?_,by simp [hB.xlen],fun j x' y hx hy=> ?_,fun j x' y hx hy i c c' hcc hc'=> ?_⟩
       .cases j with
        | zero=> simp at hx hy;subst hx hy;exact fun _ _ _ h=> h
        | succ j=> exact hB.args j x' y (by simpa using hx) (by simpa using hy)
       .cases j with
        | zero=> simp at hx hy;subst hx hy;exact hA.1
        | succ j=> exact hB.xl j x' y (by simpa using hx) (by simpa using hy)
       .cases j with
        | zero=>
         simp at hx hy
         subst hx hy
         exact hA.2 i c c' hcc hc'
        | succ j=> exact hB.x j x' y (by simpa using hx) (by simpa using hy) i c c' hcc hc'
      .cases h
     .cases h
   .cases h }
def ArgM.rcv{α β:Type}(A:CellR α)(B:ArgM β):ArgM (α × β):=
 {get:=fun L xs X=> match xs,X with
   | .c (.mref t) ::r,[.mref t'] ::X'=> if t=t' then match A.get L (.mref t') with
    | some a=> match B.get L r X' with
     | some b=> some (a,b)
     | none=> none
    | none=> none
    else none
   | _,_=> none
  can:=fun p=> .c (A.can p.1) ::B.can p.2
  canX:=fun p=> [A.can p.1] ::B.canX p.2
  canL:=fun p=> A.canL p.1++B.canL p.2
  ok:=by
   intro cfg hc L xs X p h
   split at h
   .rename_i t r t' X'
    split at h
    .rename_i e
     subst e
     split at h
     .rename_i a ha
      split at h
      .rename_i b hb
       cases h
       obtain ⟨hB,hBL⟩:=B.ok cfg hc L r X' b hb
       obtain ⟨hA,hAL⟩:=A.ok cfg L _ a ha
       refine ⟨?_,fun y hy=> (Qj.1 hy).elim (hAL y) (hBL y)⟩
       refine ⟨by simp [hB.len],fun j x' y hx hy=> ?_,by simp [hB.xlen],fun j x' y hx hy=> ?_,fun j x' y hx hy i c c' hcc hc'=> ?_⟩
       .cases j with
        | zero=> simp at hx hy;subst hx hy;exact fun g live v hr=> hA g v hr
        | succ j=> exact hB.args j x' y (by simpa using hx) (by simpa using hy)
       .cases j with
        | zero=> simp at hx hy;subst hx hy;rfl
        | succ j=> exact hB.xl j x' y (by simpa using hx) (by simpa using hy)
       .cases j with
        | zero=>
         simp at hx hy
         subst hx hy
         cases i with
         | zero=> simp at hcc hc';subst hcc hc';exact hA
         | succ i=> simp at hcc
        | succ j=> exact hB.x j x' y (by simpa using hx) (by simpa using hy) i c c' hcc hc'
      .cases h
     .cases h
    .cases h
   .cases h }
def ZHI(t:TypeId):Arg Three:=
 {get:=fun v=> match v with
   | .kv (.iface t' (.agg vs))=> match vs.toList with
    | [.int .i64 a,.int .i64 b,.int .i64 c]=> bif Nat.beq t' t then some ⟨⟨a,b⟩,c⟩ else none
    | _=> none
   | _=> none
  can:=fun x=> .kv (.iface t (.agg [.int .i64 x.p.i,.int .i64 x.p.j,.int .i64 x.score].toArray))
  ok:=by
   intro cfg _ v x h
   split at h
   .rename_i t' vs
    split at h
    .rename_i a b c hvs
     cases hb:Nat.beq t' t with
     | false=> rw [hb] at h;cases h
     | true=>
      rw [hb] at h
      cases h
      have:=Qc hb
      subst this
      have e:vs=[.int .i64 a,.int .i64 b,.int .i64 c].toArray:=by apply QM;rw [hvs]
      subst e
      exact fun _ _ _ h=> h
    .cases h
   .cases h }
def ZHJ(f:FuncId):Arg Two:=
 {get:=fun v=> match v with
   | .kv (.func (.func g) first caps)=> match first.toList,caps.toList with
    | [.agg vs],[]=> match vs.toList with
     | [.int .i64 a,.int .i64 b]=> bif Nat.beq g f then some ⟨a,b⟩ else none
     | _=> none
    | _,_=> none
   | _=> none
  can:=fun x=> .kv (.func (.func f) #[.agg [.int .i64 x.i,.int .i64 x.j].toArray] #[])
  ok:=by
   intro cfg _ v x h
   split at h
   .rename_i g first caps
    split at h
    .rename_i vs h1 h2
     split at h
     .rename_i a b hvs
      cases hb:Nat.beq g f with
      | false=> rw [hb] at h;cases h
      | true=>
       rw [hb] at h
       cases h
       have:=Qc hb
       subst this
       have e:vs=[.int .i64 a,.int .i64 b].toArray:=by apply QM;rw [hvs]
       have e1:first=#[.agg vs]:=by apply QM;rw [h1]
       have e2:caps=#[]:=by apply QM;rw [h2]
       subst e e1 e2
       exact fun _ _ _ h=> h
     .cases h
    .cases h
   .cases h }
def fsX{α:Type}(A:ArgM α)(pre:α->List Prop)(res:α->V U)(resX:α->List (List (C U))):Fs U:=
 {fn:=fun xs X=> match A.get [] xs X with
   | some a=> some (pre a,res a,resX a)
   | none=> none }
theorem Zak {Γ:Known U} {α:Type} {A:ArgM α} {pre:α->List Prop} {res:α->V U} {resX:α->List (List (C U))} (ok:CfgOk P cfg) (henc:cfg.enc=enc) (hΓ:∀ f s,Γ f=some s->Contract P cfg f s) {f:FuncId} {fn:Func} (lv:Zb U)
  (hf : P.funcs[f]? = some fn) (hb : fn.body = some (cd fn [])) (hname : (fn.name == "runtime.NumGoroutine") = false) (hn : ∀ a, (A.can a).length ≤ fn.ntmps)
  (hbody:∀ a,All (pre a)->awp cfg Γ (Ju cfg Γ) fn.ntmps lv (cd fn []) (Zf (A.can a) (A.canX a)) (JZ cfg fn.ntmps fn.results.toList (res a) (resX a))):Contract P cfg f (fsX A pre res resX):=by
 refine Zcy ok hΓ (Z2t ok hΓ) lv hf hb hname ?_
 intro args X ps r X' d aa
 unfold fsX at d
 simp only at d
 split at d
 .rename_i a ha
  cases d
  exact ⟨A.can a,A.canX a,(A.ok cfg henc [] args X a ha).1,hn a,hbody a aa⟩
 .cases d
theorem ZN {l:List (FuncId × Fs U)} {α:Type} {A:ArgM α} {pre:α->Prop} {res:α->V U} {resX:α->List (List (C U))} (ok:CfgOk P cfg) (henc:cfg.enc=enc) (hl:Z35 P cfg l) {f:FuncId} {fn:Func} (lv:Zb U)
  (hf : P.funcs[f]? = some fn) (hb : fn.body = some (cd fn [])) (hname : (fn.name == "runtime.NumGoroutine") = false) (n : Nat) (hn : ∀ a, (A.can a).length = n) (hn' : n ≤ fn.ntmps)
  (hbody:∀ a,pre a->awp cfg (Z1 l) (Ju cfg (Z1 l)) fn.ntmps lv (cd fn []) (Zf (A.can a) (A.canX a)) (JZ cfg fn.ntmps fn.results.toList (res a) (resX a))):Contract P cfg f (fsX A (fun a=> [pre a]) res resX):=
 Zak ok henc (Z0w hl) lv hf hb hname (fun a=> by grind) (fun a h=> hbody a h.1)
theorem Zbq {l:List (FuncId × Fs U)} {α:Type} {A:ArgM α} {pre:α->Prop} {μ:α->Nat} {res:α->V U} {resX:α->List (List (C U))} (ok:CfgOk P cfg) (henc:cfg.enc=enc) (hl:Z35 P cfg l) {f:FuncId} {fn:Func} (lv:Zb U)
  (hf : P.funcs[f]? = some fn) (hb : fn.body = some (cd fn [])) (hname : (fn.name == "runtime.NumGoroutine") = false) (hn : ∀ a, (A.can a).length ≤ fn.ntmps)
  (hbody:∀ N a,pre a->μ a < N+1->awp cfg (Z1 ((f,fsX A (fun a=> [pre a,μ a < N]) res resX) ::l)) (Ju cfg (Z1 ((f,fsX A (fun a=> [pre a,μ a < N]) res resX) ::l))) fn.ntmps lv (cd fn []) (Zf (A.can a) (A.canX a)) (JZ cfg fn.ntmps fn.results.toList (res a) (resX a))):
  ∀ N,Contract P cfg f (fsX A (fun a=> [pre a,μ a < N]) res resX):=by
 intro N
 induction N with
 | zero=>
  refine Jk ⟨fn,hf,by simp [hb],hname⟩ rfl ?_
  intro args X ps r X' d aa
  unfold fsX at d
  simp only at d
  split at d
  .cases d;exact absurd aa.2.1 (XT _)
  .cases d
 | succ N ih=>
  have kn:=Z0w (l:=(f,fsX A (fun a=> [pre a,μ a < N]) res resX) ::l) ⟨ih,hl⟩
  exact Zak ok henc kn lv hf hb hname hn (fun a h=> hbody N a h.1 h.2.1)
theorem ZfP {l:List (FuncId × Fs U)} {α:Type} {A:ArgM α} {pre:α->Prop} {μ:α->Nat} {res:α->V U} {resX:α->List (List (C U))} (ok:CfgOk P cfg) (henc:cfg.enc=enc) (hl:Z35 P cfg l) {f:FuncId} {fn:Func} (lv:Zb U)
  (hf : P.funcs[f]? = some fn) (hb : fn.body = some (cd fn [])) (hname : (fn.name == "runtime.NumGoroutine") = false) (n : Nat) (hn : ∀ a, (A.can a).length = n) (hn' : n ≤ fn.ntmps)
  (hbody:∀ N a,pre a->μ a < N+1->awp cfg (Z1 ((f,fsX A (fun a=> [pre a,μ a < N]) res resX) ::l)) (Ju cfg (Z1 ((f,fsX A (fun a=> [pre a,μ a < N]) res resX) ::l))) fn.ntmps lv (cd fn []) (Zf (A.can a) (A.canX a)) (JZ cfg fn.ntmps fn.results.toList (res a) (resX a))):
  Contract P cfg f (fsX A (fun a=> [pre a]) res resX):=by
 have aa:=Zbq (μ:=μ) ok henc hl lv hf hb hname (fun a=> by grind) hbody
 refine Jk (aa 0).1 rfl ?_
 intro args X ps r X' d ab hX w g vs E
 unfold fsX at d
 simp only at d
 split at d
 .rename_i a ha
  cases d
  exact (aa (μ a+1)).one rfl args X [pre a,μ a < μ a+1] _ _ (by simp only [fsX,ha]) ⟨ab.1,Kb _,trivial⟩ hX w g vs E
 .cases d
def Z8e{α:Type}(A:ArgM α)(pre:α->List Prop)(res:α->V U)(resX:α->List (List (C U)))(resL:α->List (Tok × LC U)):Fs U:=
 {wr:=true
  mkl:=true
  fn:=fun _ _=> none
  fn2:=fun xs X L=> match A.get L xs X with
   | some a=> some (pre a,res a,resX a,resL a)
   | none=> none }
theorem Z9s:∀ {L:List (Tok × LC U)} {t:Tok} {x:LC U},Zt (fun _=> none) L t=some x->(t,x)∈L
 | [],t,x,h=> by trivial
 | (a,y) ::L,t,x,h=> by
  simp only [Zt] at h
  split at h
  .grind
  .exact Q3 _ (Z9s h)
theorem ZfO {Γ:Known U} {α:Type} {A:ArgM α} {pre:α->List Prop} {res:α->V U} {resX:α->List (List (C U))} {resL:α->List (Tok × LC U)} (ok:CfgOk P cfg) (henc:cfg.enc=enc) (hΓ:∀ f s,Γ f=some s->Contract P cfg f s) {f:FuncId} {fn:Func} (lv:Zb U)
  (hf : P.funcs[f]? = some fn) (hb : fn.body = some (cd fn [])) (hname : (fn.name == "runtime.NumGoroutine") = false) (hn : ∀ a, (A.can a).length ≤ fn.ntmps)
  (hbody:∀ a,All (pre a)->awp cfg Γ (Ju cfg Γ) fn.ntmps lv (cd fn []) (Ja (A.can a) (A.canX a) (A.canL a)) (JX cfg fn.ntmps fn.results.toList (res a) (resX a) (resL a))):Contract P cfg f (Z8e A pre res resX resL):=by
 refine Z5e ok hΓ (Z2t ok hΓ) lv hf hb hname ?_
 intro args X L ps r X' L' d aa
 unfold Z8e at d
 simp only at d
 split at d
 .rename_i a ha
  cases d
  obtain ⟨h1,h2⟩:=A.ok cfg henc L args X a ha
  exact ⟨A.can a,A.canX a,A.canL a,h1,fun t x hx=> h2 _ (Z9s hx),hn a,hbody a aa⟩
 .cases d
theorem Zz {l:List (FuncId × Fs U)} {α:Type} {A:ArgM α} {pre:α->Prop} {res:α->V U} {resX:α->List (List (C U))} {resL:α->List (Tok × LC U)} (ok:CfgOk P cfg) (henc:cfg.enc=enc) (hl:Z35 P cfg l) {f:FuncId} {fn:Func} (lv:Zb U)
  (hf : P.funcs[f]? = some fn) (hb : fn.body = some (cd fn [])) (hname : (fn.name == "runtime.NumGoroutine") = false) (n : Nat) (hn : ∀ a, (A.can a).length = n) (hn' : n ≤ fn.ntmps)
  (hbody:∀ a,pre a->awp cfg (Z1 l) (Ju cfg (Z1 l)) fn.ntmps lv (cd fn []) (Ja (A.can a) (A.canX a) (A.canL a)) (JX cfg fn.ntmps fn.results.toList (res a) (resX a) (resL a))):Contract P cfg f (Z8e A (fun a=> [pre a]) res resX resL):=
 ZfO (Γ:=Z1 l) ok henc (Z0w hl) lv hf hb hname (fun a=> by grind) (fun a h=> hbody a h.1)
def fsL{α:Type}(A:ArgL α)(pre:α->List Prop)(T:Ty)(res:α->List (El T)):Fs U:=
 {mkl:=true
  fn:=fun _ _=> none
  fn2:=fun xs X L=> match X,L with
   | [],[]=> match A.get xs with
    | some a=> some (pre a,.c (.mref (.r 0 0)),[],[(.r 0 0,LC.mk (U:=U) T (res a) 0)])
    | none=> none
   | _,_=> none }
theorem Z6v {l:List (FuncId × Fs U)} {α:Type} {A:ArgL α} {pre:α->Prop} {T:Ty} {res:α->List (El T)} (ok:CfgOk P cfg) (henc:cfg.enc=enc) (hl:Z35 P cfg l) {f:FuncId} {fn:Func} (lv:Zb U)
  (hf : P.funcs[f]? = some fn) (hb : fn.body = some (cd fn [])) (hname : (fn.name == "runtime.NumGoroutine") = false) (n : Nat) (hn : ∀ a, (A.can a).length = n) (hn' : n ≤ fn.ntmps)
  (hbody:∀ a,pre a->awp cfg (Z0L l) (Ju cfg (Z0L l)) fn.ntmps lv (cd fn []) (Zf (A.can a) []) (JX cfg fn.ntmps fn.results.toList (.c (.mref (.r 0 0))) [] [(.r 0 0,LC.mk (U:=U) T (res a) 0)])):Contract P cfg f (fsL A (fun a=> [pre a]) T res):=by
 have kn:∀ f s,(Z0L l) f=some s->Contract P cfg f s:=Z0w hl
 refine Z5e ok kn (Z2t ok kn) lv hf hb hname ?_
 intro args X L ps r X' L' d ab
 unfold fsL at d
 simp only at d
 split at d
 .split at d
  .rename_i a ha
   cases d
   obtain ⟨h1,h2⟩:=A.ok cfg henc args a ha
   exact ⟨A.can a,[],[],⟨h1,h2,rfl,fun k x y hx=> by simp at hx,fun k x y hx=> by simp at hx⟩,fun t x hx=> hx,by grind,hbody a ab.1⟩
  .cases d
 .cases d
def ZEr(s s':Fs U):Fs U:=
 {wr:=s.wr
  mkl:=s.mkl
  obj:=s.obj || s'.obj
  fn:=fun _ _=> none
  fn2:=fun xs X L=> match s.fn2 xs X L with
   | some r=> some r
   | none=> s'.fn2 xs X L }
theorem ZlB{f:FuncId}{s s':Fs U}(h:Contract P cfg f s)(h':Contract P cfg f s'):Contract P cfg f (ZEr s s'):=by
 refine ⟨h.1,fun args X L ps r X' L' he d hX w g vs E=> ?_,fun i h=> by cases h⟩
 simp only [ZEr] at he
 split at he
 .rename_i r0 h0
  cases he
  exact h.2.1 args X L ps r X' L' h0 d hX w g vs E
 .exact h'.2.1 args X L ps r X' L' he d hX w g vs E
def Fs.lend(s:Fs U):Fs U:={ s with bor:=true }
theorem Contract.lend{f:FuncId}{s:Fs U}(h:Contract P cfg f s):Contract P cfg f s.lend:=h
end Go.AM
namespace Go.AM
def aFn(f:FuncId):Arg Unit:=
 {get:=fun v=> match v with
   | .fn g=> if Nat.beq g f then some () else none
   | _=> none
  can:=fun _=> .fn f
  ok:=by
   intro cfg _ v a h
   split at h
   .split at h
    .rename_i hb
     rw [Qc hb]
     exact fun _ _ _ h=> h
    .cases h
   .cases h }
end Go.AM
namespace Go.AM.YtnfbomhidainjaaGreat
open Go.AM Go.Proofs
def el:Ty->TypeId
 | .u64=> 47
 | .u8=> 5
 | .int=> 3
 | .tree=> 25
 | .wedit=> 57
 | .edit=> 32
 | .kid=> 60
 | .op=> 49
 | .piece=> 92
 | .step=> 155
 | .irow=> 109
 | .krow=> 29
 | .sstep=> 116
 | .two=> 170
 | .three=> 181
 | .conflict=> 157
def tb:Tables U:=
 {el:=el
  sl:=[(22,.u64),(23,.tree),(28,.wedit),(29,.kid),(30,.op),(41,.conflict),(88,.piece),(109,.int),(111,.sstep),(120,.step),(127,.u8),(146,.krow),(165,.irow),(167,.two),(177,.three),(178,.three)]
  var:=[(2,false,[.int .i64 0]),
   (3,false,[.int .i64 0]),
   (4,false,[.bool false]),
   (5,false,[.int .u8 0]),
   (6,false,[.int .u8 0]),
   (7,true,[.int .i64 0,.int .i64 0,.bool false,.int .u8 0]),
   (8,true,[.int .i64 0,.int .i64 0,.bool false,.int .u8 0]),
   (12,false,[.int .u64 0]),
   (15,false,[.nilp]),
   (16,false,[.nilp]),
   (17,false,[.nilp]),
   (18,true,[.nilp]),
   (19,true,[.nilp]),
   (21,false,[.int .i32 0]),
   (22,false,[.nils]),
   (23,false,[.nils]),
   (24,true,[.int .i64 0,.nils,.nils]),
   (25,true,[.int .i64 0,.nils,.nils]),
   (28,false,[.nils]),
   (29,false,[.nils]),
   (30,false,[.nils]),
   (31,true,[.int .i64 0,.int .i64 0,.nils,.nils,.int .i64 0,.nils,.nils,.nils,.nils,.int .i64 0,.nils]),
   (32,true,[.int .i64 0,.int .i64 0,.nils,.nils,.int .i64 0,.nils,.nils,.nils,.nils,.int .i64 0,.nils]),
   (41,false,[.nils]),
   (47,false,[.int .u64 0]),
   (48,true,[.int .i64 0,.int .i64 0,.nils,.int .i64 0,.int .i64 0,.nils,.nils,.int .i64 0,.nils,.nils,.nils,.nils,.int .i64 0,.nils]),
   (49,true,[.int .i64 0,.int .i64 0,.nils,.int .i64 0,.int .i64 0,.nils,.nils,.int .i64 0,.nils,.nils,.nils,.nils,.int .i64 0,.nils]),
   (56,true,[.int .i64 0,.int .u8 0,.int .u64 0,.int .u64 0]),
   (57,true,[.int .i64 0,.int .u8 0,.int .u64 0,.int .u64 0]),
   (59,true,[.int .i64 0,.int .i64 0,.int .i64 0,.nils,.nils,.int .i64 0,.nils,.nils,.nils,.nils,.int .i64 0,.nils]),
   (60,true,[.int .i64 0,.int .i64 0,.int .i64 0,.nils,.nils,.int .i64 0,.nils,.nils,.nils,.nils,.int .i64 0,.nils]),
   (74,false,[.nilp]),
   (75,true,[.nils]),
   (76,true,[.nils]),
   (88,false,[.nils]),
   (91,true,[.int .i64 0,.int .i64 0,.int .i64 0,.nils,.int .i64 0,.int .i64 0,.nils,.nils,.int .i64 0,.nils,.nils,.nils,.nils,.int .i64 0,.nils,.int .i64 0,.int .i64 0,.nils,.int .i64 0,.int .i64 0,.nils,.nils,.int .i64 0,.nils,.nils,.nils,.nils,.int .i64 0,.nils]),
   (92,true,[.int .i64 0,.int .i64 0,.int .i64 0,.nils,.int .i64 0,.int .i64 0,.nils,.nils,.int .i64 0,.nils,.nils,.nils,.nils,.int .i64 0,.nils,.int .i64 0,.int .i64 0,.nils,.int .i64 0,.int .i64 0,.nils,.nils,.int .i64 0,.nils,.nils,.nils,.nils,.int .i64 0,.nils]),
   (95,false,[.nilp]),
   (96,true,[.nils,.nils,.nils]),
   (97,true,[.nils,.nils,.nils]),
   (100,false,[.nilp]),
   (106,false,[.nilp]),
   (107,true,[.nils]),
   (108,true,[.nils]),
   (109,false,[.nils]),
   (111,false,[.nils]),
   (115,true,[.int .i64 0,.int .i64 0]),
   (116,true,[.int .i64 0,.int .i64 0]),
   (120,false,[.nils]),
   (123,true,[.int .u8 0,.int .u8 0,.int .u8 0,.int .u8 0,.int .u8 0,.int .u8 0,.int .u8 0,.int .u8 0]),
   (127,false,[.nils]),
   (130,false,[.nilp]),
   (131,true,[.nils,.int .i64 0]),
   (132,true,[.nils,.int .i64 0]),
   (136,false,[.nilp]),
   (137,true,[.nils]),
   (138,true,[.nils]),
   (140,true,[.int .i64 0,.int .i64 0,.int .i64 0]),
   (146,false,[.nils]),
   (149,false,[.nilp]),
   (150,true,[.nilp,.nils,.int .i64 0,.nils,.nils,.int .i64 0,.nils,.nils,.nils]),
   (151,true,[.nilp,.nils,.int .i64 0,.nils,.nils,.int .i64 0,.nils,.nils,.nils]),
   (154,true,[.int .i64 0,.int .i64 0]),
   (155,true,[.int .i64 0,.int .i64 0]),
   (156,true,[.nils,.int .i64 0,.nils,.nils,.int .i64 0,.nils,.nils,.int .i64 0,.nils,.nils]),
   (157,true,[.nils,.int .i64 0,.nils,.nils,.int .i64 0,.nils,.nils,.int .i64 0,.nils,.nils]),
   (165,false,[.nils]),
   (167,false,[.nils]),
   (169,true,[.int .i64 0,.int .i64 0]),
   (170,true,[.int .i64 0,.int .i64 0]),
   (176,false,[.nilp]),
   (177,false,[.nils]),
   (178,false,[.nils]),
   (180,true,[.int .i64 0,.int .i64 0,.int .i64 0]),
   (181,true,[.int .i64 0,.int .i64 0,.int .i64 0]),
   (198,false,[.int .u64 0]),
   (201,false,[.int .i64 0]),
   (208,false,[.int .u32 0]),
   (210,false,[.int .u64 0]),
   (214,false,[.nilp]),
   (216,false,[.nilp]),
   (224,false,[.int .u8 0]),
   (225,false,[.int .u8 0]),
   (227,false,[.nilp]),
   (228,false,[.int .i32 0]),
   (229,false,[.int .i32 0])]
  fld:=[(7,0,0,2),(7,1,1,3),(7,2,2,4),(7,3,3,6),(8,0,0,2),(8,1,1,3),(8,2,2,4),(8,3,3,6),(18,0,0,17),(19,0,0,17),(24,0,0,3),(24,1,1,22),(24,2,2,23),(25,0,0,3),(25,1,1,22),(25,2,2,23),(31,0,0,3),(31,1,1,25),(31,2,4,25),(31,3,7,28),(31,4,8,29),(31,5,9,3),(31,6,10,30),(32,0,0,3),(32,1,1,25),(32,2,4,25),(32,3,7,28),(32,4,8,29),(32,5,9,3),(32,6,10,30),(48,0,0,3),(48,1,1,3),(48,2,2,23),(48,3,3,32),(49,0,0,3),(49,1,1,3),(49,2,2,23),(49,3,3,32),(56,0,0,3),(56,1,1,5),(56,2,2,47),(56,3,3,47),(57,0,0,3),(57,1,1,5),(57,2,2,47),(57,3,3,47),(59,0,0,3),(59,1,1,32),(60,0,0,3),(60,1,1,32),(75,0,0,41),(76,0,0,41),(91,0,0,3),(91,1,1,49),(91,2,15,49),(92,0,0,3),(92,1,1,49),(92,2,15,49),(96,0,0,30),(96,1,1,23),(96,2,2,23),(97,0,0,30),(97,1,1,23),(97,2,2,23),(107,0,0,23),(108,0,0,23),(115,0,0,3),(115,1,1,3),(116,0,0,3),(116,1,1,3),(131,0,0,30),(131,1,1,3),(132,0,0,30),(132,1,1,3),(137,0,0,111),(138,0,0,111),(150,0,0,74),(150,1,1,120),(150,2,2,25),(150,3,5,3),(150,4,6,23),(150,5,7,23),(150,6,8,23),(151,0,0,74),(151,1,1,120),(151,2,2,25),(151,3,5,3),(151,4,6,23),(151,5,7,23),(151,6,8,23),(154,0,0,3),(154,1,1,3),(155,0,0,3),(155,1,1,3),(156,0,0,120),(156,1,1,25),(156,2,4,25),(156,3,7,25),(157,0,0,120),(157,1,1,25),(157,2,4,25),(157,3,7,25),(169,0,0,3),(169,1,1,3),(170,0,0,3),(170,1,1,3),(180,0,0,170),(180,1,2,3),(181,0,0,170),(181,1,2,3)]
  arr:=[(123,8,5),(140,3,3)]
  eqs:=[7,8,56,57,115,116,154,155,169,170]
  nif:=[176,181]
  mth := [(176, "Len", 115, true), (176, "Less", 160, true), (176, "Swap", 163, true), (176, "Push", 162, false), (176, "Pop", 161, false)] }
def cfg:Cfg U:=tb.cfg K
theorem ZH4:tb.var.all (ZyA Tryz.prog)=true:=V5
theorem ZJx:tb.sl.all (slB Tryz.prog tb.el)=true:=V5
theorem ZHx:tb.fld.all (ZEs Tryz.prog)=true:=V5
theorem ZHH:tb.arr.all (ZEZ Tryz.prog)=true:=V5
theorem ZJz:∀ t,elB Tryz.prog K tb t=true:=by
 intro t
 cases t
 .kernel_rfl
 .kernel_rfl
 .kernel_rfl
 .kernel_rfl
 .kernel_rfl
 .kernel_rfl
 .kernel_rfl
 .kernel_rfl
 .kernel_rfl
 .kernel_rfl
 .kernel_rfl
 .kernel_rfl
 .kernel_rfl
 .kernel_rfl
 .kernel_rfl
 .kernel_rfl
theorem Zd:CfgOk Tryz.prog cfg:=Zr8 ZJC ZH4 ZJx ZHx ZHH ZJz V5 V5 V5 V5
abbrev sU(T:Ty)(l:List (El T))(t:Tail):C U:= .slice (U:=U) T l t
noncomputable abbrev AW(K:Known U)(f:Func)(lv:Zb U)(p:List Nat):=awp cfg K (Ju cfg K) f.ntmps lv (cd f p)
noncomputable abbrev SW(K:Known U)(f:Func)(lv:Zb U)(p:List Nat):=ZCp cfg K (Ju cfg K) f.ntmps lv (cd f p)
abbrev EQ(f:Func):=JZ cfg f.ntmps f.results.toList
abbrev QT:=AExit->LSt U->Prop
abbrev NT:=LSt U->Prop
abbrev CT(k:FuncId)(s:Fs U):Prop:=Contract Tryz.prog cfg k s
abbrev xB:=@AExit.inBlock U
abbrev xT:=@AExit.then U
abbrev ci(x:Int):C U:= .int .i64 x
abbrev L2(e:List (Nat × V U))(m:List (Name × List (C U))):LSt U:=⟨e,m,[]⟩
abbrev zb8(f:Int->Nat->Int)(x:Int):List (C U):=[.int .u8 (f x 0),.int .u8 (f x 1),.int .u8 (f x 2),.int .u8 (f x 3),.int .u8 (f x 4),.int .u8 (f x 5),.int .u8 (f x 6),.int .u8 (f x 7)]
abbrev zi8(l:List Int):List (C U):=l.map fun x=> .int .u8 x
abbrev FK (k : FuncId) : Prop := ∃ fn, Tryz.prog.funcs[k]? = some fn ∧ fn.body.isSome = true ∧ (fn.name == "runtime.NumGoroutine") = false
abbrev pL(n:Nat):Nat × V U:=(n,.ptr (.loc n) 0)
abbrev pB(n:Nat)(b:Bool):Nat × V U:=(n,.c (.bool b))
abbrev pI(n:Nat)(x:Int):Nat × V U:=(n,.c (.int .i64 x))
def lvl(l:List (List Nat × List Nat)):Zb U:=fun i=> ((l.getD i ([],[])).1.map fun k=> (k,[]),(l.getD i ([],[])).2.map fun k=> (.loc k,[]))
instance (n:Nat):OfNat (Nat × List (Sk U)) n:=⟨(n,[])⟩
instance (n:Nat):OfNat (Name × List (Sk U)) n:=⟨(.loc n,[])⟩
abbrev an(n:Nat)(l:List (Sk U)):List (Sk U):=List.replicate n .any++l
def lvk(l:List (List (Nat × List (Sk U)) × List (Name × List (Sk U)))):Zb U:=fun i=> l.getD i ([],[])
abbrev zc0:List (C U):=[.int .i64 0,.int .i64 0,.nils,.nils,.int .i64 0,.nils,.nils,.nils,.nils,.int .i64 0,.nils]
abbrev zc1:List (C U):=[.int .i64 0,.int .i64 0,.nils,.int .i64 0,.int .i64 0,.nils,.nils,.int .i64 0,.nils,.nils,.nils,.nils,.int .i64 0,.nils]
abbrev zc2:List (C U):=[.int .u8 0,.int .u8 0,.int .u8 0,.int .u8 0,.int .u8 0,.int .u8 0,.int .u8 0,.int .u8 0]
end Go.AM.YtnfbomhidainjaaGreat
namespace Go.AM.YtnfbomhidainjaaGreat
open Go.AM Go.Proofs Go.Proofs.YtnfbomhidainjaaGreat Go.ChangeShapes Go.WideShapes Go.RowKit
theorem own:ownKnob Tryz.prog.godebug=none:=V5
theorem ZAc:laidOutB Tryz.prog=true:=V5
theorem Zr6:TreeTypes cfg:=⟨rfl,rfl,⟨_,rfl⟩,⟨_,rfl⟩,⟨_,rfl,rfl⟩,⟨_,_,rfl,rfl⟩,⟨_,_,rfl,rfl,rfl⟩,⟨_,_,rfl,rfl,rfl⟩⟩
theorem Zjh{H:Type}{henc:TypeId × Value->H}:ZxF henc Tryz.prog cfg (aEl .tree) 25 inT:=ZAx Zd rfl ⟨_,_,rfl⟩ (fun _ n cs h=> ZyU Zd Zr6 n cs h)
theorem ZF0{H:Type}{henc:TypeId × Value->H}:ZxF henc Tryz.prog cfg (Y6 .i64) 3 (fun z=> IntKind.min .i64<=z/\z<=IntKind.max .i64):=Zxr Zd (n0:=0) rfl
end Go.AM.YtnfbomhidainjaaGreat
namespace Go.AM
def Zl(w:Int)(i:Nat):Int:=w / 256 ^ i % 256
def YK(m:Int)(i:Int):Bool:=decide (m / 2 ^ i.toNat % 2=1)
def of8(f:Nat->Int):Int:=f 0+256*(f 1+256*(f 2+256*(f 3+256*(f 4+256*(f 5+256*(f 6+256*f 7))))))
def Z26(a b m:Int)(i:Nat):Int:=if YK m i then Zl b i else Zl a i
def mix(a b m:Int):Int:=of8 (Z26 a b m)
theorem aiT{p q:Prop}:(p->q->p/\q)=True:=eq_true fun a b=> ⟨a,b⟩
mutual
def Zc:Edit->Nat
 | .mk _ o n w ks _ os=> 1+mass o+mass n+w.length+os.length+Zo ks+Ze os
def Zo:List (KidOf Edit)->Nat
 | []=> 0
 | k ::r=> Ye k+Zo r
def Ye:KidOf Edit->Nat
 | ⟨_,e⟩=> Zc e
def Ze:List (OpOf Edit)->Nat
 | []=> 0
 | o ::r=> Zs o+Ze r
def Zs:OpOf Edit->Nat
 | ⟨_,_,l,e⟩=> Z6 l+Zc e
end
def isW(n:Int):Prop:=0<=n/\n < 18446744073709551616
def J7(w:WEdit):Prop:=InR w.at_/\(0<=w.mask/\w.mask < 256)/\isW w.old/\isW w.new
mutual
def Yi:Edit->Prop
 | .mk k o n w ks l os=> InR k/\rng o/\rng n/\(∀ x∈w,J7 x)/\InR l/\Z1h ks/\Z0k os
def Z1h:List (KidOf Edit)->Prop
 | []=> True
 | k ::r=> Z1D k/\Z1h r
def Z1D:KidOf Edit->Prop
 | ⟨a,e⟩=> InR a/\Yi e
def Z0k:List (OpOf Edit)->Prop
 | []=> True
 | o ::r=> YV o/\Z0k r
def YV:OpOf Edit->Prop
 | ⟨k,n,l,e⟩=> InR k/\InR n/\Yd l/\Yi e
end
def sh1(t:Tree)(n:Int):Int:=if n < 0 then n else Yu t 80 n
mutual
def Zvx:Edit->Int->Int->Int
 | .mk _ o nw w ks _ os,d,n=> if d=0\/n - 1 - w.length - os.length < 0 then -1 else Zvv os (d - 1) (Zvw ks (d - 1) (sh1 nw (Yu o 80 (n - 1 - w.length - os.length))))
def Zvw:List (KidOf Edit)->Int->Int->Int
 | [],_,n=> n
 | k ::r,d,n=> if n < 0 then n else Zvw r d (ZAb k d n)
def ZAb:KidOf Edit->Int->Int->Int
 | ⟨_,e⟩,d,n=> Zvx e d n
def Zvv:List (OpOf Edit)->Int->Int->Int
 | [],_,n=> n
 | o ::r,d,n=> if n < 0 then n else Zvv r d (ZEl o d n)
def ZEl:OpOf Edit->Int->Int->Int
 | ⟨_,_,l,e⟩,d,n=> if Yb l 80 n < 0 then Yb l 80 n else Zvx e d (Yb l 80 n)
end
def Z2j(t:Tree):Bool:=decide (t.kind=0/\t.words.length=0/\t.kids.length=0)
def Z5L(e:Edit):Bool:=decide (e.kind=0) && Z2j e.old && Z2j e.new && decide (e.words.length=0/\e.kids.length=0/\e.ops.length=0/\e.list=0)
def Y7(w m:Int):Bool:=decide (mix w 0 m=0)
def YA(last:Int):List WEdit->Bool
 | []=> true
 | w ::r=> decide (last < w.at_/\w.at_<=65534/\w.mask≠0) && Y7 w.old w.mask && Y7 w.new w.mask && YA w.at_ r
def Z5(o:Op):Int:=if o.kind=3 then 1 else o.n+o.l.length
def Z2s:List Op->Int->Int
 | [],n=> n
 | o ::r,n=> Z2s r (min (if o.kind=2 then n else n+Z5 o) 1048576)
def Z2r:List Op->Int->Int
 | [],n=> n
 | o ::r,n=> Z2r r (min (if o.kind=1 then n else n+Z5 o) 1048576)
def dT(d:Int):Int:=if d < 0 then -1 else 64
theorem Z8h{d:Int}(h:d < 0):dT d= -1:=by unfold dT;rw [if_pos h]
theorem ZC2(d:Int):dT d≠0:=by unfold dT;omega
def YB(D list:Int):List Tree->Bool
 | []=> true
 | t ::r=> Zh (.mk list [] [t]) D && YB D list r
mutual
def Z7:Edit->Int->Bool
 | .mk k o n w ks l os,d=>
  if d=0\/k < 0\/3 < k then false
  else if (k≠1/\¬(Z2j o=true/\Z2j n=true))\/(k≠2/\¬(w.length=0/\ks.length=0))\/(k≠3/\(l≠0\/os.length≠0)) then false
  else if k=1 then Zh o (dT d) && Zh n (dT d) && decide (o.kind≠10/\n.kind≠10)
  else YA (-1) w && ZJ (-1) ks (d - 1) && decide (¬(k=3/\(l < 2\/9 < l))) && ZO l os (d - 1) && decide (Z2s os 0 < 1048576/\Z2r os 0 < 1048576)
def ZJ(last:Int):List (KidOf Edit)->Int->Bool
 | [],_=> true
 | k ::r,d=> J3 last k d && ZJ k.at_ r d
def J3(last:Int):KidOf Edit->Int->Bool
 | ⟨a,e⟩,d=> decide (last < a/\a<=65534/\e.kind≠0) && Z7 e d
def ZO(list:Int):List (OpOf Edit)->Int->Bool
 | [],_=> true
 | o ::r,d=> Za list o d && ZO list r d
def Za(list:Int):OpOf Edit->Int->Bool
 | ⟨k,n,l,e⟩,d=>
  if k=0 then decide (1<=n/\n<=1048576/\l.length=0) && Z5L e
  else if n≠0\/k < 0\/3 < k then false
  else if k < 3 then YB (dT d) list l && decide (0 < l.length) && Z5L e
  else decide (l.length=0/\e.kind≠0/\7 < list) && Z7 e d && decide (list=8\/e.kind=2\/e.kind=1/\e.old.kind=1/\e.new.kind=1)
end
mutual
def ctE:Edit->Nat
 | .mk _ o n w ks _ os=> 16+mass o+mass n+65600*w.length+Z0W ks+J5 os
def Z0W:List (KidOf Edit)->Nat
 | []=> 0
 | k ::r=> Z2b k+Z0W r
def Z2b:KidOf Edit->Nat
 | ⟨_,e⟩=> 65600+ctE e
def J5:List (OpOf Edit)->Nat
 | []=> 0
 | o ::r=> Z2h o+J5 r
def Z2h:OpOf Edit->Nat
 | ⟨_,_,l,e⟩=> 16+Z6 l+ctE e
end
theorem Z5d(e:Edit):ctE e=16+mass e.old+mass e.new+65600*e.words.length+Z0W e.kids+J5 e.ops:=by cases e;rfl
theorem Z4x(k:Kid):Z2b k=65600+ctE k.e:=by cases k;rfl
theorem Z5c(o:Op):Z2h o=16+Z6 o.l+ctE o.e:=by cases o;rfl
theorem ZlA:∀ {ks:List Kid} {k:Kid},k∈ks->ctE k.e+65600<=Z0W ks
 | a ::r,k,h=> by
  rcases Q9.1 h with rfl | h
  .simp only [Z0W,Z4x];omega
  .have:=ZlA h;simp only [Z0W];omega
theorem Zfm:∀ {os:List Op} {o:Op},o∈os->ctE o.e+Z6 o.l+16<=J5 os
 | a ::r,o,h=> by
  rcases Q9.1 h with rfl | h
  .simp only [J5,Z5c];omega
  .have:=Zfm h;simp only [J5];omega
theorem ZkS(t:Tree):1<=mass t:=by obtain ⟨k,w,ks⟩:=t;simp only [mass];omega
mutual
theorem Z9w:∀ (e:Edit),Zc e<=ctE e
 | .mk k o n w ks l os=> by
  have h1:=Z6P ks
  have d:os.length+Ze os<=J5 os:=Z45 os
  simp only [Zc,ctE]
  omega
theorem Z6P:∀ (ks:List (KidOf Edit)),Zo ks<=Z0W ks
 | []=> Qg _
 | k ::r=> by
  have h1:=Zn6 k
  have d:=Z6P r
  simp only [Zo,Z0W]
  omega
theorem Zn6:∀ (k:KidOf Edit),Ye k<=Z2b k
 | ⟨a,e⟩=> by
  have:=Z9w e
  simp only [Ye,Z2b]
  omega
theorem Z45:∀ (os:List (OpOf Edit)),os.length+Ze os<=J5 os
 | []=> Qg _
 | o ::r=> by
  have h1:=ZrG o
  have d:=Z45 r
  simp only [Ze,J5,Qd]
  omega
theorem ZrG:∀ (o:OpOf Edit),Zs o+1<=Z2h o
 | ⟨k,n,l,e⟩=> by
  have:=Z9w e
  simp only [Zs,Z2h]
  omega
end
mutual
theorem Z5b:∀ (e:Edit),ctE e+131100<=65600*Zc e
 | .mk k o n w ks l os=> by
  have h1:=Zhg ks
  have d:=Zhf os
  have:=ZkS o
  have:=ZkS n
  simp only [Zc,ctE]
  omega
theorem Zhg:∀ (ks:List (KidOf Edit)),Z0W ks<=65600*Zo ks
 | []=> Qg _
 | k ::r=> by
  have h1:=ZnZ k
  have d:=Zhg r
  simp only [Zo,Z0W]
  omega
theorem ZnZ:∀ (k:KidOf Edit),Z2b k<=65600*Ye k
 | ⟨a,e⟩=> by
  have:=Z5b e
  simp only [Ye,Z2b]
  omega
theorem Zhf:∀ (os:List (OpOf Edit)),J5 os<=65600*(os.length+Ze os)
 | []=> Qg _
 | o ::r=> by
  have h1:=Zs9 o
  have d:=Zhf r
  simp only [Ze,J5,Qd]
  omega
theorem Zs9:∀ (o:OpOf Edit),Z2h o<=65600*(Zs o+1)
 | ⟨k,n,l,e⟩=> by
  have:=Z5b e
  simp only [Zs,Z2h]
  omega
end
mutual
def Zng:Edit->Bool
 | .mk _ _ _ _ ks _ os=> decide (Z2s os 0<=2000/\Z2r os 0<=2000) && ZpQ ks && ZpP os
def ZpQ:List (KidOf Edit)->Bool
 | []=> true
 | k ::r=> Zvr k && ZpQ r
def Zvr:KidOf Edit->Bool
 | ⟨_,e⟩=> Zng e
def ZpP:List (OpOf Edit)->Bool
 | []=> true
 | o ::r=> ZAa o && ZpP r
def ZAa:OpOf Edit->Bool
 | ⟨_,_,_,e⟩=> Zng e
end
def Z6l(e:Edit):Bool:=decide (0<=Zvx e 80 3000) && Z7 e 64 && Zng e
end Go.AM
namespace Go.AM.YtnfbomhidainjaaGreat
open Go.AM Go.Proofs
noncomputable section
def Zoh:ArgL (Tree × Int × Int × Unit):=(.cons (aEl .tree) (.cons (Y6 .i64) (.cons (Y6 .i64) .nil)))
def ZgK(a:Tree × Int × Int × Unit):Prop:=Z5r a.1/\0<=a.2.1/\a.2.1<=4611686018427387904/\-1<=a.2.2.1/\a.2.2.1<=4611686018427387904
def Zrz(a:Tree × Int × Int × Unit):Nat:=mass a.1
def Zkd(a:Tree × Int × Int × Unit):V U:= .c (ci (Yu a.1 a.2.1 a.2.2.1))
def ZdQ:Fs U:=fs Zoh (fun a=> [ZgK a]) Zkd
def Zxl:ArgL (List Int × List Int × Unit):=(.cons (aSl .u64) (.cons (aSl .u64) .nil))
def ZgL(a:List Int × List Int × Unit):Prop:=a.1.length<=1000000000000
def Zke(a:List Int × List Int × Unit):V U:= .c (.bool (decide (a.1=a.2.1)))
def ZdU:Fs U:=fs Zxl (fun a=> [ZgL a]) Zke
def Zxk:ArgL (List Int × Unit):=(.cons (aSl .u64) .nil)
def Zkz(a:List Int × Unit):Prop:=a.1.length<=1000000000000
def ZtE(a:List Int × Unit):V U:= .c (sU .u64 (trim a.1) .unk)
def ZdT:Fs U:=fs Zxk (fun a=> [Zkz a]) ZtE
def ZBB(a:List Int × Unit):V U:= .c (sU .u64 a.1 .unk)
def ZdO:Fs U:=fs Zxk (fun a=> [Zkz a]) ZBB
def Zx2:ArgL (Tree × Int × Unit):=(.cons (aEl .tree) (.cons (Y6 .i64) .nil))
def Z5W(a:Tree × Int × Unit):Prop:=True
def Zp2(a:Tree × Int × Unit):V U:= .c (.int .u64 (Zm a.1 a.2.1))
def Z1b:Fs U:=fs Zx2 (fun a=> [Z5W a]) Zp2
def Zp1(a:Tree × Int × Unit):V U:= .agg (enc .tree (Zr a.1 a.2.1))
def Z1a:Fs U:=fs Zx2 (fun a=> [Z5W a]) Zp1
def Zok:ArgL (Tree × Unit):=(.cons (aEl .tree) .nil)
def Zc1(a:Tree × Unit):Prop:=mass a.1<=1000000000000
def ZrB(a:Tree × Unit):Nat:=mass a.1
def Zgy(a:Tree × Unit):V U:= .agg (enc .tree (Z0 a.1))
def ZdZ:Fs U:=fs Zok (fun a=> [Zc1 a]) Zgy
def Zol:ArgL (Tree × Tree × Unit):=(.cons (aEl .tree) (.cons (aEl .tree) .nil))
def Z9d(a:Tree × Tree × Unit):Prop:=mass a.1<=1000000000000
def ZrC(a:Tree × Tree × Unit):Nat:=mass a.1
def Zgz(a:Tree × Tree × Unit):V U:= .c (.bool (ZU a.1 a.2.1))
def Z5J:Fs U:=fs Zol (fun a=> [Z9d a]) Zgz
def Z2M(a:Tree × Tree × Unit):Prop:=mass a.1<=1000000000000/\mass a.2.1<=1000000000000
def Zry(a:Tree × Tree × Unit):Nat:=mass a.1+mass a.2.1
def Zeh(a:Tree × Tree × Unit):V U:= .c (.bool (ZU (Z0 a.1) (Z0 a.2.1)))
def Yw:Fs U:=fs Zol (fun a=> [Z2M a]) Zeh
def ZnC(N:Nat):List (FuncId × Fs U):=(32,fs Zoh (fun a=> [ZgK a,Zrz a < N]) Zkd) ::[]
def ZA1:Zb U:=lvl [([1,2,3],[3]),([1,2,3],[3]),([1,2,3,19],[3]),([6],[]),([1,2,3,7],[3]),([1,2,3,7,28],[3]),([1,2,3,7],[3]),([1,2,3,7],[3]),([6],[])]
def Za0(t:Tree)(d l x2 x7:Int):LSt U:=(L2 [pI 1 d,pI 2 x2,pL 3,pI 7 x7] [(.loc 3,(enc .tree t))])
abbrev A32(N:Nat)(p:List Nat):=AW (Z1 (ZnC N)) Tryz.f32 ZA1 p
abbrev S32(N:Nat)(p:List Nat):=SW (Z1 (ZnC N)) Tryz.f32 ZA1 p
theorem ZJe(N:Nat)(t:Tree)(d l:Int)(Q:QT)(h:((InR (l - 1))/\(InR (((l - 1):Int) - (t.words.length:Int)))/\((Tt (!(d==0)))/\((d==0)=false->(!(d==0))=true)/\(iB (bif (d==0) then true else (decide (((((l - 1):Int) - (t.words.length:Int)):Int) < 0))) ((Q .ret (L2 [pI 6 (-1)] []))) ((Zk (A32 N [1,1,1,0,1,0,0]) (Za0 t d l (((l - 1):Int) - (t.words.length:Int)) 0) (xB 0 (S32 N [1,1,1,1] Q)))))))):
  A32 N [] (L2 [(0,.agg (enc .tree t)),pI 1 d,pI 2 l] []) Q:=
 Eq.mpr V5 h
theorem Zyp(N:Nat)(t:Tree)(d l x2 x7:Int)(N0:NT)(Q:QT)(h:let z2:=t.kids.getD x7.toNat Tree.nil;let z1:=decide (x7 < (t.kids.length:Int));let z0:=Tree.mk (Tree.kind z2) (Tree.words z2) (Tree.kids z2);(Tt z1)/\(Tt z1)/\(iB (bif z1 then (decide ((0:Int)<=x2)) else false) (((0:Int)<=x7/\x7 < (t.kids.length:Int))/\(InR (d - 1))/\(ZgK (z0,(d - 1),x2,()))/\(Zrz (z0,(d - 1),x2,()) < N)/\((InR (x7+1))/\(N0 (Za0 t d l (Yu z0 (d - 1) x2) (x7+1))))) ((Q .ret (L2 [pI 6 x2] []))))):
  A32 N [1,1,1,0,1,0,0] (Za0 t d l x2 x7) (xT N0 (xB 0 (S32 N [1,1,1,1] Q))):=
 Eq.mpr V5 h
def ZG6(N:Nat)(t:Tree)(d l:Int):Prop:=AW (Z1 (ZnC N)) Tryz.f32 ZA1 [] (Zf (Zoh.can (t,d,l,())) []) (EQ Tryz.f32 (Zkd (t,d,l,())) [])
theorem ZDr(hb:∀ (N:Nat) (t:Tree) (d:Int) (l:Int) (_:Unit),ZgK (t,d,l,())->Zrz (t,d,l,()) < N+1->ZG6 N t d l):CT 32 ZdQ:=
 Z0y (μ:=Zrz) (l:=[]) Zd rfl trivial ZA1 Tryz.func32 rfl rfl 3 (fun _=> rfl) V2 (fun N ⟨t,d,l,_⟩=> hb N t d l ())
def ZnF:List (FuncId × Fs U):=[]
def ZA4:Zb U:=lvl [([0,1],[]),([0,1,10],[]),([4],[]),([0,1,5],[]),([0,1,5,14],[]),([0,1,5],[]),([0,1,5,25],[]),([4],[]),([4],[])]
def Za3(a b:List Int)(d:Int):LSt U:=(L2 [(0,.c (sU .u64 a .unk)),(1,.c (sU .u64 b .unk)),pI 5 d] [])
abbrev A24(p:List Nat):=AW (Z1 ZnF) Tryz.f24 ZA4 p
abbrev S24(p:List Nat):=SW (Z1 ZnF) Tryz.f24 ZA4 p
theorem ZJi(a b:List Int)(Q:QT)(h:(iB (((a.length:Int):Int) !=(b.length:Int)) ((Q .ret (L2 [pB 4 false] []))) ((Zk (A24 [1,1,0,1,0,0]) (Za3 a b 0) (xB 0 (S24 [1,1,1] Q)))))):
  A24 [] (L2 [(0,.c (sU .u64 a .unk)),(1,.c (sU .u64 b .unk))] []) Q:=
 Eq.mpr V5 h
theorem Zys(a b:List Int)(d:Int)(N0:NT)(Q:QT)(h:(iB (decide (d < (a.length:Int))) (((0:Int)<=d/\d < (a.length:Int))/\((0:Int)<=d/\d < (b.length:Int))/\(iB (((a.getD d.toNat (0:Int)):Int) !=(b.getD d.toNat (0:Int))) ((Q .ret (L2 [pB 4 false] []))) ((InR (d+1))/\(N0 (Za3 a b (d+1)))))) ((Q .ret (L2 [pB 4 true] []))))):
  A24 [1,1,0,1,0,0] (Za3 a b d) (xT N0 (xB 0 (S24 [1,1,1] Q))):=
 Eq.mpr V5 h
def ZGa(a b:List Int):Prop:=AW (Z1 ZnF) Tryz.f24 ZA4 [] (Zf (Zxl.can (a,b,())) []) (EQ Tryz.f24 (Zke (a,b,())) [])
theorem ZDv(hb:∀ (a:List Int) (b:List Int) (_:Unit),ZgL (a,b,())->ZGa a b):CT 24 ZdU:=
 Z2 (l:=[]) Zd rfl trivial ZA4 Tryz.func24 rfl rfl 2 (fun _=> rfl) V2 (fun ⟨a,b,_⟩=> hb a b ())
def ZA3:Zb U:=lvl [([0],[]),([0,3],[]),([0,3,16],[]),([0,3],[]),([0,3,4],[]),([2],[])]
def Za2(l:List Int)(d:Int):LSt U:=(L2 [(0,.c (sU .u64 l .unk)),pI 3 d] [])
abbrev A25(p:List Nat):=AW (Z1 ZnF) Tryz.f25 ZA3 p
abbrev S25(p:List Nat):=SW (Z1 ZnF) Tryz.f25 ZA3 p
theorem ZJh(l:List Int)(Q:QT)(h:(Zk (A25 [1,1,0,0,0]) (Za2 l (l.length:Int)) (xB 0 (S25 [1,1,1] Q)))):
  A25 [] (L2 [(0,.c (sU .u64 l .unk))] []) Q:=
 Eq.mpr V5 h
theorem Zyr(l:List Int)(d:Int)(N0:NT)(Q:QT)(h:let z0:=decide ((0:Int) < d);(Tt z0)/\(z0=true->InR (d - 1))/\(Tt z0)/\(Tt z0)/\(z0=true->(0:Int)<=(d - 1)/\(d - 1) < (l.length:Int))/\(Tt z0)/\(Tt z0)/\(Tt z0)/\(iB (bif z0 then (((List.getD l (Int.toNat (d - 1)) (0:Int)):Int)==0) else false) ((InR (d - 1))/\(N0 (Za2 l (d - 1)))) ((((0:Int)<=d/\d<=(l.length:Int))/\((([]:List Int).length+(List.take d.toNat l).length)*8<=140737488355328)/\(Q .ret (L2 [(2,.c (sU .u64 (([]:List Int)++(List.take d.toNat l)) (.own (.e 2 0))))] [])))))):
  A25 [1,1,0,0,0] (Za2 l d) (xT N0 (xB 0 (S25 [1,1,1] Q))):=
 Eq.mpr V5 h
def ZG9(l:List Int):Prop:=AW (Z1 ZnF) Tryz.f25 ZA3 [] (Zf (Zxk.can (l,())) []) (EQ Tryz.f25 (ZtE (l,())) [])
theorem ZDu(hb:∀ (l:List Int) (_:Unit),Zkz (l,())->ZG9 l):CT 25 ZdT:=
 Z2 (l:=[]) Zd rfl trivial ZA3 Tryz.func25 rfl rfl 1 (fun _=> rfl) V2 (fun ⟨l,_⟩=> hb l ())
def ZE7:Zb U:=lvl [([0],[]),([0,4],[]),([2],[]),([2],[])]
abbrev A42(p:List Nat):=AW (Z1 ZnF) Tryz.f42 ZE7 p
theorem ZJ4(l:List Int)(Q:QT)(h:(((l=[])->(Q .ret (L2 [(2,.c (.nils))] [])))/\(True->((([]:List Int).length+l.length)*8<=140737488355328)/\(Q .ret (L2 [(2,.c (sU .u64 (([]:List Int)++l) (.own (.e 2 0))))] []))))):
  A42 [] (L2 [(0,.c (sU .u64 l .unk))] []) Q:=
 Eq.mpr V5 h
def ZFW(l:List Int):Prop:=AW (Z1 ZnF) Tryz.f42 ZE7 [] (Zf (Zxk.can (l,())) []) (EQ Tryz.f42 (ZBB (l,())) [])
theorem ZDn(hb:∀ (l:List Int) (_:Unit),Zkz (l,())->ZFW l):CT 42 ZdO:=
 Z2 (l:=[]) Zd rfl trivial ZE7 Tryz.func42 rfl rfl 1 (fun _=> rfl) V2 (fun ⟨l,_⟩=> hb l ())
def ZzS:Zb U:=lvl [([0,1],[]),([0,1,10],[]),([4],[]),([0,1,12,13],[]),([0,1,12,13,14],[]),([0,1,5,12,13],[]),([0,1,12,13,24],[]),([4],[]),([0,1,12,13],[]),([4],[])]
def Z9N(a b:List Int)(d:Int):LSt U:=(L2 [(0,.c (sU .u64 a .unk)),(1,.c (sU .u64 b .unk)),pI 12 (a.length:Int),pI 13 d] [])
abbrev A62(p:List Nat):=AW (Z1 ZnF) Tryz.f62 ZzS p
abbrev S62(p:List Nat):=SW (Z1 ZnF) Tryz.f62 ZzS p
theorem ZIN(a b:List Int)(Q:QT)(h:(iB (((a.length:Int):Int) !=(b.length:Int)) ((Q .ret (L2 [pB 4 false] []))) ((Zk (A62 [1,1,0,1,0,0]) (Z9N a b 0) (xB 0 (S62 [1,1,1] Q)))))):
  A62 [] (L2 [(0,.c (sU .u64 a .unk)),(1,.c (sU .u64 b .unk))] []) Q:=
 Eq.mpr V5 h
theorem Zy5(a b:List Int)(d:Int)(N0:NT)(Q:QT)(h:(iB (decide (d < (a.length:Int))) ((((0:Int)<=d/\d < (a.length:Int))/\((0:Int)<=d/\d < (b.length:Int))/\(iB (((a.getD d.toNat (0:Int)):Int) !=(b.getD d.toNat (0:Int))) ((Q .ret (L2 [pB 4 false] []))) ((InR (d+1))/\(N0 (Z9N a b (d+1))))))) ((Q .ret (L2 [pB 4 true] []))))):
  A62 [1,1,0,1,0,0] (Z9N a b d) (xT N0 (xB 0 (S62 [1,1,1] Q))):=
 Eq.mpr V5 h
def ZFF(a b:List Int):Prop:=AW (Z1 ZnF) Tryz.f62 ZzS [] (Zf (Zxl.can (a,b,())) []) (EQ Tryz.f62 (Zke (a,b,())) [])
theorem ZDc(hb:∀ (a:List Int) (b:List Int) (_:Unit),ZgL (a,b,())->ZFF a b):CT 62 ZdU:=
 Z2 (l:=[]) Zd rfl trivial ZzS Tryz.func62 rfl rfl 2 (fun _=> rfl) V2 (fun ⟨a,b,_⟩=> hb a b ())
def ZDW:Zb U:=lvl [([1,2],[2]),([1,2,13],[2]),([4],[]),([4],[])]
abbrev A63(p:List Nat):=AW (Z1 ZnF) Tryz.f63 ZDW p
theorem ZIM(t:Tree)(i:Int)(Q:QT)(h:let z0:= !(decide (i < 0));((Tt z0)/\(Tt z0)/\(Tt z0)/\(Tt z0)/\((decide (i < 0))=false->z0=true)/\(iB (bif (decide (i < 0)) then true else (decide (((t.words.length:Int):Int)<=i))) ((Q .ret (L2 [(4,.c (.int .u64 0))] []))) (((0:Int)<=i/\i < (t.words.length:Int))/\(Q .ret (L2 [(4,.c (.int .u64 (t.words.getD i.toNat (0:Int))))] [])))))):
  A63 [] (L2 [(0,.agg (enc .tree t)),pI 1 i] []) Q:=
 Eq.mpr V5 h
def ZFE(t:Tree)(i:Int):Prop:=AW (Z1 ZnF) Tryz.f63 ZDW [] (Zf (Zx2.can (t,i,())) []) (EQ Tryz.f63 (Zp2 (t,i,())) [])
theorem ZDb(hb:∀ (t:Tree) (i:Int) (_:Unit),Z5W (t,i,())->ZFE t i):CT 63 Z1b:=
 Z2 (l:=[]) Zd rfl trivial ZDW Tryz.func63 rfl rfl 2 (fun _=> rfl) V2 (fun ⟨t,i,_⟩=> hb t i ())
def ZDV:Zb U:=lvl [([1,2,4],[2,4]),([1,2,4,13],[2,4]),([4],[4]),([4],[4])]
abbrev A64(p:List Nat):=AW (Z1 ZnF) Tryz.f64 ZDV p
theorem ZIL(t:Tree)(i:Int)(Q:QT)(h:let z0:= !(decide (i < 0));((Tt z0)/\(Tt z0)/\(Tt z0)/\(Tt z0)/\((decide (i < 0))=false->z0=true)/\(iB (bif (decide (i < 0)) then true else (decide (((t.kids.length:Int):Int)<=i))) ((Q .ret (L2 [pL 4] [(.loc 4,[ci 0,.nils,.nils])]))) (((0:Int)<=i/\i < (t.kids.length:Int))/\(Q .ret (L2 [pL 4] [(.loc 4,(enc .tree (t.kids.getD i.toNat Tree.nil)))])))))):
  A64 [] (L2 [(0,.agg (enc .tree t)),pI 1 i] []) Q:=
 Eq.mpr V5 h
def ZFD(t:Tree)(i:Int):Prop:=AW (Z1 ZnF) Tryz.f64 ZDV [] (Zf (Zx2.can (t,i,())) []) (EQ Tryz.f64 (Zp1 (t,i,())) [])
theorem ZDa(hb:∀ (t:Tree) (i:Int) (_:Unit),Z5W (t,i,())->ZFD t i):CT 64 Z1a:=
 Z2 (l:=[]) Zd rfl trivial ZDV Tryz.func64 rfl rfl 2 (fun _=> rfl) V2 (fun ⟨t,i,_⟩=> hb t i ())
def ZnI(N:Nat):List (FuncId × Fs U):=(12,fs Zok (fun a=> [Zc1 a,ZrB a < N]) Zgy) ::[(25,ZdT)]
def ZA7:Zb U:=lvk [([1,2],[1,2]),([1,2,10],[1,2]),([2],[2]),([1,2,3],[1,2]),([1,2,3,4],[1,2]),([1,2,(3,[.own .tree]),4,5],[1,2]),([1,2,3,4,5,16],[1,2]),([1,2,(3,[.own .tree]),4,5],[1,2]),([1,2,3,4,5,6],[1,2,6]),([1,2,3,4,5,6],[1,2,6]),([1,2,3,4,5,31],[1,2]),([1,2,3,4,5],[1,2]),([1,2,3,4,36],[1,2]),([2],[2]),([1,2,3,7],[1,2]),([1,2,3,7],[1,2]),([2],[2])]
def Z6j(t:Tree)(x4 d:Int)(x3:List Tree):LSt U:=(L2 [pL 1,pL 2,(3,.c (sU .tree x3 (.own (.e 3 0)))),pI 4 x4,pI 5 d] [(.loc 1,(enc .tree t)),(.loc 2,[ci 0,.nils,.nils])])
abbrev A12(N:Nat)(p:List Nat):=AW (Z1 (ZnI N)) Tryz.f12 ZA7 p
abbrev S12(N:Nat)(p:List Nat):=SW (Z1 (ZnI N)) Tryz.f12 ZA7 p
theorem ZJt(N:Nat)(t:Tree)(Q:QT)(h:(iB (t.kind==0) ((Q .ret (L2 [pL 2] [(.loc 2,[ci 0,.nils,.nils])]))) ((Zk (A12 N [1,1,1,1,0,1,0,0]) (Z6j t 0 0 []) (xB 0 (S12 N [1,1,1,1,1] Q)))))):
  A12 N [] (L2 [(0,.agg (enc .tree t))] []) Q:=
 Eq.mpr V5 h
theorem Zyy(N:Nat)(t:Tree)(x4 x5:Int)(x3:List Tree)(N0:NT)(Q:QT)(h:∀ ah,ah=(t.kids.getD x5.toNat Tree.nil)->∀ d,d=ah->∀ ab,ab=(Z0 d)->(iB (decide (x5 < (t.kids.length:Int))) (((0:Int)<=x5/\x5 < (t.kids.length:Int))/\(Zc1 (d,()))/\(ZrB (d,()) < N)/\(((x3.length+([ab]).length)*56<=140737488355328)/\(iB (((Tree.kind (Z0 d)):Int) !=0) ((InR (x5+1))/\((InR (x5+1))/\(N0 (Z6j t (x5+1) (x5+1) (x3++([ab])))))) ((InR (x5+1))/\(N0 (Z6j t x4 (x5+1) (x3++([ab])))))))) ((iB (t.kind==1) ((Zkz (t.words,()))/\((0:Int)<=x4/\x4<=(x3.length:Int))/\(Q .ret (L2 [pL 2] [(.loc 2,[ci 1,sU .u64 (trim t.words) .unk,sU .tree (List.take x4.toNat x3) .unk])]))) ((((([]:List Int).length+t.words.length)*8<=140737488355328)/\(Q .ret (L2 [pL 2] [(.loc 2,[ci t.kind,sU .u64 (([]:List Int)++t.words) (.own (.l 2 1)),sU .tree x3 (.own (.l 2 2))])])))))))):
  A12 N [1,1,1,1,0,1,0,0] (Z6j t x4 x5 x3) (xT N0 (xB 0 (S12 N [1,1,1,1,1] Q))):=
 Eq.mpr V5 (h _ rfl _ (Z3 _) _ (Z3 _))
def ZGl(N:Nat)(t:Tree):Prop:=AW (Z1 (ZnI N)) Tryz.f12 ZA7 [] (Zf (Zok.can (t,())) []) (EQ Tryz.f12 (Zgy (t,())) [])
theorem ZDC(c25:CT 25 ZdT)(hb:∀ (N:Nat) (t:Tree) (_:Unit),Zc1 (t,())->ZrB (t,()) < N+1->ZGl N t):CT 12 ZdZ:=
 Z0y (μ:=ZrB) (l:=[(25,ZdT)]) Zd rfl (⟨c25,trivial⟩) ZA7 Tryz.func12 rfl rfl 1 (fun _=> rfl) V2 (fun N ⟨t,_⟩=> hb N t ())
def ZnG(N:Nat):List (FuncId × Fs U):=(22,fs Zok (fun a=> [Zc1 a,ZrB a < N]) Zgy) ::[(42,ZdO)]
def ZA5:Zb U:=lvk [([1,2],[1,2]),([1,2,8],[1,2]),([2],[2]),([1,2,3],[1,2,3]),([1,2,3,17,18,19],[1,2,((.loc 3),[.any,.any,.own .tree])]),([1,2,3,17,18,19,20],[1,2,3]),([1,2,3,5,17,18,19],[1,2,3,5]),([1,2,3,17,18,19],[1,2,3]),([1,2,3,17,18,19],[1,2,((.loc 3),[.any,.any,.own .tree])]),([2,3,33],[2,((.loc 3),[.any,.any,.unk .tree])]),([2,3,33,48],[2,((.loc 3),[.any,.any,.unk .tree])]),([2,3,33],[2,((.loc 3),[.any,.any,.unk .tree])]),([2,3,33,48,72],[2,3]),([2,3,33,48],[2,((.loc 3),[.any,.any,.unk .tree])]),([2],[2])]
def Za6(t:Tree)(aa:Int)(d:List Tree):LSt U:=(L2 [pL 1,pL 2,pL 3,(17,.c (sU .tree t.kids .unk)),pI 18 (t.kids.length:Int),pI 19 aa] [(.loc 1,(enc .tree t)),(.loc 2,[ci 0,.nils,.nils]),(.loc 3,[ci t.kind,sU .u64 t.words .unk,sU .tree d (.own (.l 3 2))])])
def Za5(t:Tree)(aa:List Tree)(d:List Int):LSt U:=(L2 [pL 2,pL 3,pB 33 ((t.kind:Int)==1)] [(.loc 2,[ci 0,.nils,.nils]),(.loc 3,[ci t.kind,sU .u64 d .unk,sU .tree aa .unk])])
def Za4(t:Tree)(d:List Int)(aa:List Tree):LSt U:=(L2 [pL 2,pL 3,pB 33 ((t.kind:Int)==1),(48,.c (.bool (bif (decide ((0:Int) < (d.length:Int))) then (((List.getD d (Int.toNat (((d.length:Int):Int) - 1)) (0:Int)):Int)==0) else false)))] [(.loc 2,[ci 0,.nils,.nils]),(.loc 3,[ci t.kind,sU .u64 d .unk,sU .tree aa .unk])])
abbrev A22(N:Nat)(p:List Nat):=AW (Z1 (ZnG N)) Tryz.f22 ZA5 p
abbrev S22(N:Nat)(p:List Nat):=SW (Z1 (ZnG N)) Tryz.f22 ZA5 p
theorem ZJk(N:Nat)(t:Tree)(Q:QT)(h:(iB (t.kind==0) ((Q .ret (L2 [pL 2] [(.loc 2,[ci 0,.nils,.nils])]))) ((Zkz (t.words,()))/\(Zk (A22 N [1,1,1,0,1,0,0]) (Za6 t 0 []) (xB 0 (S22 N [1,1,1,1] Q)))))):
  A22 N [] (L2 [(0,.agg (enc .tree t))] []) Q:=
 Eq.mpr V5 h
theorem Zyv(N:Nat)(t:Tree)(aa:Int)(d:List Tree)(N0:NT)(Q:QT)(h:∀ af,af=(t.kids.getD aa.toNat Tree.nil)->∀ ab,ab=af->∀ ae,ae=(Z0 ab)->(iB (decide (aa < (t.kids.length:Int))) (((0:Int)<=aa/\aa < (t.kids.length:Int))/\((Zc1 (ab,()))/\(ZrB (ab,()) < N)/\((d.length+([ae]).length)*56<=140737488355328)/\((InR (aa+1))/\(N0 (Za6 t (aa+1) (d++([ae]))))))) ((iB (t.kind==1) (Zk (A22 N [1,1,1,1,0,1,0,0,0,0]) (Za5 t d t.words) (xB 2 (S22 N [1,1,1,1,0,1,0,1] (S22 N [1,1,1,1,1] Q)))) ((Q .ret (L2 [pL 2] [(.loc 2,[ci t.kind,sU .u64 t.words .unk,sU .tree d .unk])]))))))):
  A22 N [1,1,1,0,1,0,0] (Za6 t aa d) (xT N0 (xB 0 (S22 N [1,1,1,1] Q))):=
 Eq.mpr V5 (h _ rfl _ (Z3 _) _ (Z3 _))
theorem Zyu(N:Nat)(t:Tree)(aa:List Tree)(d:List Int)(N1:NT)(Q:QT)(h:let z0:=decide ((0:Int) < (d.length:Int));(Tt z0)/\(Tt z0)/\(Tt z0)/\(Tt z0)/\(z0=true->InR (((d.length:Int):Int) - 1))/\(Tt z0)/\(Tt z0)/\(z0=true->(0:Int)<=(((d.length:Int):Int) - 1)/\(((d.length:Int):Int) - 1) < (d.length:Int))/\(Tt z0)/\(Tt z0)/\(Tt z0)/\(iB (bif z0 then (((List.getD d (Int.toNat (((d.length:Int):Int) - 1)) (0:Int)):Int)==0) else false) ((InR (((d.length:Int):Int) - 1))/\((0:Int)<=(((d.length:Int):Int) - 1)/\(((d.length:Int):Int) - 1)<=(d.length:Int))/\(N1 (Za5 t aa (List.take (Int.toNat (((d.length:Int):Int) - 1)) d)))) (Zk (A22 N [1,1,1,1,0,1,0,1,0,0]) (Za4 t d aa) (xB 4 (S22 N [1,1,1,1,1] Q))))):
  A22 N [1,1,1,1,0,1,0,0,0,0] (Za5 t aa d) (xT N1 (xB 2 (S22 N [1,1,1,1,0,1,0,1] (S22 N [1,1,1,1,1] Q)))):=
 Eq.mpr V5 h
theorem Zyt(N:Nat)(t:Tree)(aa:List Int)(d:List Tree)(N2:NT)(Q:QT)(h:let z0:=decide ((0:Int) < (d.length:Int));(Tt z0)/\(Tt z0)/\(Tt z0)/\(Tt z0)/\(z0=true->InR (((d.length:Int):Int) - 1))/\(Tt z0)/\(Tt z0)/\(z0=true->(0:Int)<=(((d.length:Int):Int) - 1)/\(((d.length:Int):Int) - 1) < (d.length:Int))/\(Tt z0)/\(Tt z0)/\(Tt z0)/\(Tt z0)/\(iB (bif z0 then (((Tree.kind (List.getD d (Int.toNat (((d.length:Int):Int) - 1)) Tree.nil)):Int)==0) else false) ((InR (((d.length:Int):Int) - 1))/\((0:Int)<=(((d.length:Int):Int) - 1)/\(((d.length:Int):Int) - 1)<=(d.length:Int))/\(N2 (Za4 t aa (List.take (Int.toNat (((d.length:Int):Int) - 1)) d)))) ((Q .ret (L2 [pL 2] [(.loc 2,[ci t.kind,sU .u64 aa .unk,sU .tree d .unk])]))))):
  A22 N [1,1,1,1,0,1,0,1,0,0] (Za4 t aa d) (xT N2 (xB 4 (S22 N [1,1,1,1,1] Q))):=
 Eq.mpr V5 h
def ZGc(N:Nat)(t:Tree):Prop:=AW (Z1 (ZnG N)) Tryz.f22 ZA5 [] (Zf (Zok.can (t,())) []) (EQ Tryz.f22 (Zgy (t,())) [])
theorem ZDw(c42:CT 42 ZdO)(hb:∀ (N:Nat) (t:Tree) (_:Unit),Zc1 (t,())->ZrB (t,()) < N+1->ZGc N t):CT 22 ZdZ:=
 Z0y (μ:=ZrB) (l:=[(42,ZdO)]) Zd rfl (⟨c42,trivial⟩) ZA5 Tryz.func22 rfl rfl 1 (fun _=> rfl) V2 (fun N ⟨t,_⟩=> hb N t ())
def ZnJ(N:Nat):List (FuncId × Fs U):=(11,fs Zol (fun a=> [Z9d a,ZrC a < N]) Zgz) ::[(24,ZdU)]
def ZA8:Zb U:=lvl [([2,3],[2,3]),([2,3,27],[2,3]),([4],[]),([2,3,5],[2,3]),([2,3,5,32],[2,3]),([2,3,5],[2,3]),([2,3,5,46],[2,3]),([4],[]),([4],[])]
def Za9(a b:Tree)(d:Int):LSt U:=(L2 [pL 2,pL 3,pI 5 d] [(.loc 2,(enc .tree a)),(.loc 3,(enc .tree b))])
abbrev A11(N:Nat)(p:List Nat):=AW (Z1 (ZnJ N)) Tryz.f11 ZA8 p
abbrev S11(N:Nat)(p:List Nat):=SW (Z1 (ZnJ N)) Tryz.f11 ZA8 p
theorem ZJu(N:Nat)(a b:Tree)(Q:QT)(h:let z1:=a.kind !=b.kind;let z0:=bif z1 then true else (!(decide (a.words=b.words)));((Tt (!z1))/\(Tt (!z1))/\(Tt (!z1))/\(Tt (!z1))/\((!z1)=true->ZgL (a.words,b.words,()))/\(Tt (!z1))/\(z1=false->(!z1)=true)/\(Tt (!z0))/\(Tt (!z0))/\(Tt (!z0))/\(Tt (!z0))/\(Tt (!z0))/\(Tt (!z0))/\(z0=false->(!z0)=true)/\(iB (bif z0 then true else (((a.kids.length:Int):Int) !=(b.kids.length:Int))) ((Q .ret (L2 [pB 4 false] []))) ((Zk (A11 N [1,1,0,1,0,0]) (Za9 a b 0) (xB 0 (S11 N [1,1,1] Q))))))):
  A11 N [] (L2 [(0,.agg (enc .tree a)),(1,.agg (enc .tree b))] []) Q:=
 Eq.mpr V5 h
theorem Zyz(N:Nat)(a b:Tree)(d:Int)(N0:NT)(Q:QT)(h:∀ af,af=(a.kids.getD d.toNat Tree.nil)->∀ ae,ae=(b.kids.getD d.toNat Tree.nil)->∀ ab,ab=af->∀ aa,aa=ae->(iB (decide (d < (a.kids.length:Int))) (((0:Int)<=d/\d < (a.kids.length:Int))/\((0:Int)<=d/\d < (b.kids.length:Int))/\(Z9d (ab,aa,()))/\(ZrC (ab,aa,()) < N)/\(iB (!(ZU ab aa)) ((Q .ret (L2 [pB 4 false] []))) ((InR (d+1))/\(N0 (Za9 a b (d+1)))))) ((Q .ret (L2 [pB 4 true] []))))):
  A11 N [1,1,0,1,0,0] (Za9 a b d) (xT N0 (xB 0 (S11 N [1,1,1] Q))):=
 Eq.mpr V5 (h _ rfl _ rfl _ (Z3 _) _ (Z3 _))
def ZGm(N:Nat)(a b:Tree):Prop:=AW (Z1 (ZnJ N)) Tryz.f11 ZA8 [] (Zf (Zol.can (a,b,())) []) (EQ Tryz.f11 (Zgz (a,b,())) [])
theorem ZDD(c24:CT 24 ZdU)(hb:∀ (N:Nat) (a:Tree) (b:Tree) (_:Unit),Z9d (a,b,())->ZrC (a,b,()) < N+1->ZGm N a b):CT 11 Z5J:=
 Z0y (μ:=ZrC) (l:=[(24,ZdU)]) Zd rfl (⟨c24,trivial⟩) ZA8 Tryz.func11 rfl rfl 2 (fun _=> rfl) V2 (fun N ⟨a,b,_⟩=> hb N a b ())
def ZnA(N:Nat):List (FuncId × Fs U):=(38,fs Zol (fun a=> [Z2M a,Zry a < N]) Zeh) ::[(62,ZdU),(63,Z1b),(64,Z1a)]
def ZzZ:Zb U:=lvl [([2,3],[2,3]),([2,3,16],[2,3]),([4],[]),([2,3,41],[2,3]),([4],[]),([2,3,48,49],[2,3]),([2,3,48,49,50],[2,3]),([2,3,5,48,49],[2,3]),([2,3,48,49,58],[2,3]),([4],[]),([2,3,48,49],[2,3]),([2,3,66,67],[2,3]),([2,3,66,67,68],[2,3]),([2,3,6,66,67],[2,3]),([2,3,66,67,77],[2,3]),([4],[]),([2,3,66,67],[2,3]),([4],[])]
def Z9W(a b:Tree)(d:Int):LSt U:=(L2 [pL 2,pL 3,pI 48 (if ((a.words.length:Int):Int) < (b.words.length:Int) then (b.words.length:Int) else (a.words.length:Int)),pI 49 d] [(.loc 2,(enc .tree a)),(.loc 3,(enc .tree b))])
def Z9V(a b:Tree)(d:Int):LSt U:=(L2 [pL 2,pL 3,pI 66 (if ((a.kids.length:Int):Int) < (b.kids.length:Int) then (b.kids.length:Int) else (a.kids.length:Int)),pI 67 d] [(.loc 2,(enc .tree a)),(.loc 3,(enc .tree b))])
abbrev A38(N:Nat)(p:List Nat):=AW (Z1 (ZnA N)) Tryz.f38 ZzZ p
abbrev S38(N:Nat)(p:List Nat):=SW (Z1 (ZnA N)) Tryz.f38 ZzZ p
theorem ZJ8(N:Nat)(a b:Tree)(Q:QT)(h:let z2:=a.kind !=b.kind;let z1:=((a.kids.length:Int):Int) !=(b.kids.length:Int);let z0:=(a.kind !=1) && (!z1);((Tt (!z2))/\(Tt (!z2))/\(z2=false->(!z2)=true)/\(iB (bif z2 then true else (a.kind==0)) ((Q .ret (L2 [pB 4 (a.kind==b.kind)] []))) ((Tt (a.kind !=1))/\(Tt (a.kind !=1))/\(Tt (a.kind !=1))/\(Tt (a.kind !=1))/\(Tt (a.kind !=1))/\(Tt (a.kind !=1))/\(Tt (a.kind !=1))/\(Tt z0)/\(Tt z0)/\(Tt z0)/\(Tt z0)/\(z0=true->ZgL (a.words,b.words,()))/\(Tt z0)/\((a.kind !=1)=true->(True->(a.kind !=1)=true))/\((a.kind !=1)=true->(z1=false->z0=true))/\(Tt (a.kind !=1))/\(iB (bif (a.kind !=1) then (bif z1 then true else (!(decide (a.words=b.words)))) else false) ((Q .ret (L2 [pB 4 false] []))) ((Zk (A38 N [1,1,1,0,1,0,0]) (Z9W a b 0) (xB 0 (S38 N [1,1,1,1] Q))))))))):
  A38 N [] (L2 [(0,.agg (enc .tree a)),(1,.agg (enc .tree b))] []) Q:=
 Eq.mpr V5 h
theorem Zyj(N:Nat)(a b:Tree)(d:Int)(N0:NT)(Q:QT)(h:let z1:=Tree.mk b.kind b.words b.kids;let z0:=Tree.mk a.kind a.words a.kids;(iB (decide (d < (if ((a.words.length:Int):Int) < (b.words.length:Int) then (b.words.length:Int) else (a.words.length:Int)))) (((Z5W (z0,d,()))/\(Z5W (z1,d,()))/\(iB (((Zm z0 d):Int) !=(Zm z1 d)) ((Q .ret (L2 [pB 4 false] []))) ((InR (d+1))/\(N0 (Z9W a b (d+1))))))) ((Zk (A38 N [1,1,1,1,0,1,0,0]) (Z9V a b 0) (xB 2 (S38 N [1,1,1,1,1] Q)))))):
  A38 N [1,1,1,0,1,0,0] (Z9W a b d) (xT N0 (xB 0 (S38 N [1,1,1,1] Q))):=
 Eq.mpr V5 h
theorem Zyi(N:Nat)(a b:Tree)(d:Int)(N1:NT)(Q:QT)(h:∀ af,af=a->∀ ae,ae=b->∀ ab,ab=(Zr af d)->∀ aa,aa=(Zr ae d)->(iB (decide (d < (if ((a.kids.length:Int):Int) < (b.kids.length:Int) then (b.kids.length:Int) else (a.kids.length:Int)))) (((Z5W (af,d,()))/\(Z5W (ae,d,()))/\(Z2M (ab,aa,()))/\(Zry (ab,aa,()) < N)/\(iB (!(ZU (Z0 ab) (Z0 aa))) ((Q .ret (L2 [pB 4 false] []))) ((InR (d+1))/\(N1 (Z9V a b (d+1))))))) ((Q .ret (L2 [pB 4 true] []))))):
  A38 N [1,1,1,1,0,1,0,0] (Z9V a b d) (xT N1 (xB 2 (S38 N [1,1,1,1,1] Q))):=
 Eq.mpr V5 (h _ (Z3 _) _ (Z3 _) _ (Z3 _) _ (Z3 _))
def ZG0(N:Nat)(a b:Tree):Prop:=AW (Z1 (ZnA N)) Tryz.f38 ZzZ [] (Zf (Zol.can (a,b,())) []) (EQ Tryz.f38 (Zeh (a,b,())) [])
theorem ZDp(c62:CT 62 ZdU)(c63:CT 63 Z1b)(c64:CT 64 Z1a)(hb:∀ (N:Nat) (a:Tree) (b:Tree) (_:Unit),Z2M (a,b,())->Zry (a,b,()) < N+1->ZG0 N a b):CT 38 Yw:=
 Z0y (μ:=Zry) (l:=[(62,ZdU),(63,Z1b),(64,Z1a)]) Zd rfl (⟨c62,c63,c64,trivial⟩) ZzZ Tryz.func38 rfl rfl 2 (fun _=> rfl) V2 (fun N ⟨a,b,_⟩=> hb N a b ())
end
theorem Ze1:∀ {ks:List Tree} {i:Nat},ZaF ks->i < ks.length->Z5r (ks.getD i Tree.nil)
 | t ::_,0,h,_=> by simp only [ZaF] at h;exact h.1
 | _ ::r,i+1,h,hi=> by simp only [ZaF] at h;exact Ze1 (ks:=r) (i:=i) h.2 (by simpa using hi)
theorem Z13:∀ {ks:List Tree} {i:Nat},i < ks.length->mass (ks.getD i Tree.nil)<=Z6 ks
 | t ::_,0,_=> by simp only [Z6,Qz];omega
 | t ::r,i+1,h=> by
  have:=Z13 (ks:=r) (i:=i) (by simpa using h)
  simp only [Z6,XB]
  omega
mutual
theorem Z3G:∀ (t:Tree) (d l:Int),-1<=Yu t d l/\Yu t d l<=max l (-1)
 | .mk _ w ks,d,l=> by
  simp only [Yu]
  split
  .omega
  .have:=Z2H ks (d - 1) (l - 1 - w.length) V0
   omega
theorem Z2H:∀ (ks:List Tree) (d l:Int),-1<=l->-1<=Yb ks d l/\Yb ks d l<=l
 | [],d,l,h=> by simp only [Yb];omega
 | t ::r,d,l,h=> by
  simp only [Yb]
  split
  .omega
  .have h1:=Z3G t d l
   have h2:=Z2H r d (Yu t d l) h1.1
   omega
end
theorem ZfD{ks:List Tree}{i:Nat}{d l:Int}(h:i < ks.length)(hl:0<=l):Yb (ks.drop i) d l=Yb (ks.drop (i+1)) d (Yu (ks.getD i Tree.nil) d l):=by
 rw [QO h]
 simp only [Yb]
 grind
theorem c32:Contract Tryz.prog cfg 32 ZdQ:=by
 refine ZDr ?_
 rintro N ⟨k,ws,ks⟩ d l _ ⟨hs,h1,h2,h3,h4⟩ hN
 simp only [Z5r,Zrz,mass] at*
 refine ZJe N _ _ _ _ ?_;(try simp only [iB,vcT,forall_eq])
 (simp only [iB,vcS]);(try simp only [iB,vcT])
 try (simp only [vE])
 refine ⟨V4,V4,fun hc=> ?_,fun hc=> ?_⟩
 .have e:Yu (.mk k ws ks) d l= -1:=by
   simp only [Yu]
   omega
  simp only [Zkd,e]
  exact ⟨⟨rfl,⟨⟨rfl,rfl⟩,trivial⟩,trivial⟩,trivial⟩
 .have e:Yu (.mk k ws ks) d l=Yb ks (d - 1) (l - 1 - ws.length):=by
   simp only [Yu]
   omega
  simp only [Zkd,e]
  refine Z8 (ι:=Int × Int) (fun p=> Za0 (.mk k ws ks) d l p.1 p.2) (fun p=> 0<=p.2/\p.2<=ks.length/\-1<=p.1/\p.1<=l/\Yb (ks.drop p.2.toNat) (d - 1) p.1=Yb ks (d - 1) (l - 1 - ws.length)) (fun p=> ((ks.length:Int) - p.2).toNat) (l - 1 - ws.length,0) rfl ⟨V0,V0,V0,V0,by simp⟩ ?_
  rintro ⟨l',i⟩ ⟨h5,h6,h7,h8,h9⟩
  dsimp only at*
  refine Zyp N _ _ _ _ _ _ _ ?_;(try simp only [iB,vcT,forall_eq])
  (simp only [iB,vcS]);(try simp only [iB,vcT])
  try (simp only [vE])
  refine ⟨fun hc=> ?_,fun hc=> ?_⟩
  .have hi:i.toNat < ks.length:=V0
   have hr:=Z3G (ks.getD i.toNat Tree.nil) (d - 1) l'
   have hn:=Z13 hi
   have hd:=ZfD (d:=d - 1) hi hc.2
   refine ⟨V0,V4,⟨Ze1 hs.2.2 hi,by grind,by grind,V0,by grind⟩,by simp only [Zrz];omega,V4,⟨(Yu (ks.getD i.toNat Tree.nil) (d - 1) l',i+1),rfl,⟨V0,V0,V0,V0,?_⟩,V0⟩⟩
   grind
  .have e:Yb ks (d - 1) (l - 1 - ws.length)=l':=by
    rw [<-h9]
    by_cases hi:i < ks.length
    .rw [QO V0]
     simp only [Yb]
     omega
    .rw [QH V0]
     try rfl
   rw [e]
   trivial
theorem c42:Contract Tryz.prog cfg 42 ZdO:=by
 refine ZDn ?_
 intro l _ d
 refine ZJ4 _ _ ?_;(try simp only [iB,vcT,forall_eq])
 simp only [Zkz] at d
 refine ⟨fun h=> ?_,⟨by simp only [Qr];omega,?_⟩⟩
 .subst h
  exact ⟨⟨rfl,⟨rfl,trivial⟩,trivial⟩,trivial⟩
 .exact ⟨⟨rfl,⟨⟨rfl,trivial⟩,trivial⟩,trivial⟩,trivial⟩
theorem Zd6{a b:List Int}{i:Int}(hi:0<=i)(ha:i < a.length)(hb:i < b.length):(a.drop i.toNat=b.drop i.toNat)↔(a.getD i.toNat 0=b.getD i.toNat 0/\a.drop (i+1).toNat=b.drop (i+1).toNat):=by
 have e:(i+1).toNat=i.toNat+1:=V0
 rw [QO V0,QO (l:=b) V0,e]
 simp only [List.cons.injEq,List.getD,Q0 (show i.toNat < a.length by omega),Q0 (show i.toNat < b.length by omega),Xc]
theorem c24:Contract Tryz.prog cfg 24 ZdU:=by
 refine ZDv ?_
 intro a b _ hp
 simp only [ZgL] at hp
 refine ZJi _ _ _ ?_;(try simp only [iB,vcT,forall_eq])
 (simp only [iB,vcS]);(try simp only [iB,vcT])
 refine ⟨fun hc=> ?_,fun hc=> ?_⟩
 .have e:decide (a=b)=false:=by
   simp only [decide_eq_false_iff_not]
   rintro rfl
   omega
  simp only [Zke,e]
  exact ⟨⟨rfl,⟨rfl,trivial⟩,trivial⟩,trivial⟩
 .have hl:a.length=b.length:=V0
  refine Z8 (ι:=Int) (fun p=> Za3 a b p) (fun p=> 0<=p/\p<=a.length/\(a=b↔a.drop p.toNat=b.drop p.toNat)) (fun p=> ((a.length:Int) - p).toNat) 0 rfl ⟨V0,V0,by simp⟩ ?_
  rintro i ⟨h1,h2,d⟩
  refine Zys _ _ _ _ _ ?_;(try simp only [iB,vcT,forall_eq])
  (simp only [iB,vcS]);(try simp only [iB,vcT])
  refine ⟨fun hc=> ⟨V0,V0,fun hn=> ?_,fun he=> ⟨V4,i+1,rfl,⟨V0,V0,?_⟩,V0⟩⟩,fun hc=> ?_⟩
  .have e:decide (a=b)=false:=by
    simp only [decide_eq_false_iff_not,d]
    rw [Zd6 h1 hc V0]
    exact fun h=> hn h.1
   simp only [Zke,e]
   exact ⟨⟨rfl,⟨rfl,trivial⟩,trivial⟩,trivial⟩
  .rw [d,Zd6 h1 hc V0]
   exact ⟨fun h=> h.2,fun h=> ⟨by simpa using he,h⟩⟩
  .have e:decide (a=b)=true:=by
    simp only [decide_eq_true_eq,d]
    rw [QH V0,QH V0]
   simp only [Zke,e]
   exact ⟨⟨rfl,⟨rfl,trivial⟩,trivial⟩,trivial⟩
theorem c63:Contract Tryz.prog cfg 63 Z1b:=by
 refine ZDb ?_
 intro t i _ d
 refine ZIM _ _ _ ?_;(try simp only [iB,vcT,forall_eq])
 (simp only [iB,vcS]);(try simp only [iB,vcT])
 (repeat (refine And.intro (by first | omega | (unfold InR;omega) | (dsimp only;omega)) ?_))
 refine ⟨fun hc=> ?_,fun hc=> ⟨V0,?_⟩⟩
 .have e:Zm t i=0:=by
   unfold Zm
   split
   .try rfl
   .grind
  simp only [Zp2,e]
  exact ⟨⟨rfl,⟨⟨rfl,rfl⟩,trivial⟩,trivial⟩,trivial⟩
 .have e:Zm t i=t.words.getD i.toNat 0:=by
   unfold Zm
   omega
  simp only [Zp2,e]
  exact ⟨⟨rfl,⟨⟨rfl,rfl⟩,trivial⟩,trivial⟩,trivial⟩
theorem c64:Contract Tryz.prog cfg 64 Z1a:=by
 refine ZDa ?_
 intro t i _ d
 refine ZIL _ _ _ ?_;(try simp only [iB,vcT,forall_eq])
 (simp only [iB,vcS]);(try simp only [iB,vcT])
 (repeat (refine And.intro (by first | omega | (unfold InR;omega) | (dsimp only;omega)) ?_))
 refine ⟨fun hc=> ?_,fun hc=> ⟨V0,?_⟩⟩
 .have e:Zr t i=Tree.nil:=by
   unfold Zr
   split
   .try rfl
   .grind
  simp only [Zp1,e]
  exact ⟨⟨rfl,⟨⟨rfl,rfl⟩,⟨rfl,⟨rfl,trivial⟩⟩⟩,trivial⟩,trivial⟩
 .have e:Zr t i=t.kids.getD i.toNat Tree.nil:=by
   unfold Zr
   grind
  simp only [Zp1,e]
  exact ⟨⟨rfl,⟨⟨rfl,rfl⟩,⟨rfl,trivial⟩,⟨rfl,trivial⟩,trivial⟩,trivial⟩,trivial⟩
theorem c62:Contract Tryz.prog cfg 62 ZdU:=by
 refine ZDc ?_
 intro a b _ hp
 simp only [ZgL] at hp
 refine ZIN _ _ _ ?_;(try simp only [iB,vcT,forall_eq])
 (simp only [iB,vcS]);(try simp only [iB,vcT])
 refine ⟨fun hc=> ?_,fun hc=> ?_⟩
 .have e:decide (a=b)=false:=by
   simp only [decide_eq_false_iff_not]
   rintro rfl
   omega
  simp only [Zke,e]
  exact ⟨⟨rfl,⟨rfl,trivial⟩,trivial⟩,trivial⟩
 .have hl:a.length=b.length:=V0
  refine Z8 (ι:=Int) (fun p=> Z9N a b p) (fun p=> 0<=p/\p<=a.length/\(a=b↔a.drop p.toNat=b.drop p.toNat)) (fun p=> ((a.length:Int) - p).toNat) 0 rfl ⟨V0,V0,by simp⟩ ?_
  rintro i ⟨h1,h2,d⟩
  refine Zy5 _ _ _ _ _ ?_;(try simp only [iB,vcT,forall_eq])
  (simp only [iB,vcS]);(try simp only [iB,vcT])
  refine ⟨fun hc=> ⟨V0,V0,fun hn=> ?_,fun he=> ⟨V4,i+1,rfl,⟨V0,V0,?_⟩,V0⟩⟩,fun hc=> ?_⟩
  .have e:decide (a=b)=false:=by
    simp only [decide_eq_false_iff_not,d]
    rw [Zd6 h1 hc V0]
    exact fun h=> hn h.1
   simp only [Zke,e]
   exact ⟨⟨rfl,⟨rfl,trivial⟩,trivial⟩,trivial⟩
  .rw [d,Zd6 h1 hc V0]
   exact ⟨fun h=> h.2,fun h=> ⟨by simpa using he,h⟩⟩
  .have e:decide (a=b)=true:=by
    simp only [decide_eq_true_eq,d]
    rw [QH V0,QH V0]
   simp only [Zke,e]
   exact ⟨⟨rfl,⟨rfl,trivial⟩,trivial⟩,trivial⟩
theorem Zls{a b:List Tree}{i:Int}(hi:0<=i)(ha:i < a.length)(hb:i < b.length):(a.drop i.toNat=b.drop i.toNat)↔(a.getD i.toNat Tree.nil=b.getD i.toNat Tree.nil/\a.drop (i+1).toNat=b.drop (i+1).toNat):=by
 have e:(i+1).toNat=i.toNat+1:=V0
 rw [QO V0,QO (l:=b) V0,e]
 simp only [List.cons.injEq,List.getD,Q0 (show i.toNat < a.length by omega),Q0 (show i.toNat < b.length by omega),Xc]
theorem ZX{a b:Tree}:ZU a b=true↔a=b:=by simp [ZU]
theorem JM{a b:Tree}:ZU a b=false↔¬a=b:=by simp [ZU]
theorem Y4:∀ (ks:List Tree),ks.length<=Z6 ks
 | []=> by simp [Z6]
 | t ::r=> by
  have:=Y4 r
  have:1<=mass t:=by cases t;simp only [mass];omega
  simp only [Z6,Qd]
  omega
theorem c11:Contract Tryz.prog cfg 11 Z5J:=by
 refine ZDD c24 ?_
 rintro N ⟨k,ws,ks⟩ ⟨k',ab,d⟩ _ hp hN
 have aj:=Y4 ks
 simp only [Z9d,ZrC,mass] at hp hN
 refine ZJu N _ _ _ ?_;(try simp only [iB,vcT,forall_eq])
 (simp only [iB,vcS]);(try simp only [iB,vcT])
 try (simp only [vE])
 have af:ZgL (ws,ab,()):=by simp only [ZgL];omega
 refine ⟨fun _=> af,fun hc=> ?_,fun hc=> ?_⟩
 .have e:ZU (.mk k ws ks) (.mk k' ab d)=false:=by
   rw [JM]
   intro h
   cases h
   simp at hc
  simp only [Zgz,e]
  exact ⟨⟨rfl,⟨rfl,trivial⟩,trivial⟩,trivial⟩
 .have ah:(k=k'/\ws=ab)/\ks.length=d.length:=⟨hc.1,V0⟩
  obtain ⟨⟨rfl,rfl⟩,hl⟩:=ah
  refine Z8 (ι:=Int) (fun p=> Za9 (.mk k ws ks) (.mk k ws d) p) (fun p=> 0<=p/\p<=ks.length/\(Tree.mk k ws ks= .mk k ws d↔ks.drop p.toNat=d.drop p.toNat)) (fun p=> ((ks.length:Int) - p).toNat) 0 rfl ⟨V0,V0,by simp⟩ ?_
  rintro i ⟨h1,h2,h3⟩
  refine Zyz N _ _ _ _ _ ?_;(try simp only [iB,vcT,forall_eq])
  (simp only [iB,vcS]);(try simp only [iB,vcT])
  try (simp only [vE])
  refine ⟨fun hc=> ⟨V0,V0,?_,?_,fun hn=> ?_,fun he=> ⟨V4,i+1,rfl,⟨V0,V0,?_⟩,V0⟩⟩,fun hc=> ?_⟩
  .have:=Z13 (ks:=ks) (i:=i.toNat) V0
   simp only [Z9d]
   omega
  .have:=Z13 (ks:=ks) (i:=i.toNat) V0
   simp only [ZrC]
   omega
  .have e:ZU (.mk k ws ks) (.mk k ws d)=false:=by
    rw [JM,h3,Zls h1 hc V0]
    rw [JM] at hn
    exact fun h=> hn h.1
   simp only [Zgz,e]
   exact ⟨⟨rfl,⟨rfl,trivial⟩,trivial⟩,trivial⟩
  .rw [h3,Zls h1 hc V0]
   exact ⟨fun h=> h.2,fun h=> ⟨ZX.1 he,h⟩⟩
  .have e:ZU (.mk k ws ks) (.mk k ws d)=true:=by
    rw [ZX,h3]
    rw [QH V0,QH V0]
   simp only [Zgz,e]
   exact ⟨⟨rfl,⟨rfl,trivial⟩,trivial⟩,trivial⟩
theorem Zat:∀ (l:List Int),trim (l++[0])=trim l
 | []=> rfl
 | x ::r=> by
  show (match trim (r++[0]) with | []=> if x=0 then [] else [x] | y ::s=> x ::y ::s)=_
  rw [Zat r]
  try rfl
theorem ZhI{x:Int}(hx:x≠0):∀ (l:List Int),trim (l++[x])=l++[x]
 | []=> by simp [trim,hx]
 | y ::r=> by
  show (match trim (r++[x]) with | []=> if y=0 then [] else [y] | z ::s=> y ::z ::s)=_
  rw [ZhI hx r]
  cases r <;> rfl
theorem Zav{l:List Int}{i:Int}(h0:0 < i)(hi:i<=l.length):l.take i.toNat=l.take (i - 1).toNat++[l.getD (i - 1).toNat 0]:=by
 have e:i.toNat=(i - 1).toNat+1:=V0
 rw [e,List.take_add_one]
 simp only [List.getD,Q0 (show (i - 1).toNat < l.length by omega),Option.toList,Xc]
theorem c25:Contract Tryz.prog cfg 25 ZdT:=by
 refine ZDu ?_
 intro l _ hp
 simp only [Zkz] at hp
 refine ZJh _ _ ?_;(try simp only [iB,vcT,forall_eq])
 refine Z8 (ι:=Int) (fun p=> Za2 l p) (fun p=> 0<=p/\p<=l.length/\trim (l.take p.toNat)=trim l) (fun p=> p.toNat) (l.length:Int) rfl ⟨V0,V0,by simp⟩ ?_
 rintro i ⟨h1,h2,d⟩
 refine Zyr _ _ _ _ ?_;(try simp only [iB,vcT,forall_eq])
 (simp only [iB,vcS]);(try simp only [iB,vcT])
 refine ⟨fun h=> by unfold InR;omega,fun h=> by omega,fun hc=> ⟨V4,i - 1,rfl,⟨V0,V0,?_⟩,V0⟩,fun hc=> ⟨V0,?_,?_⟩⟩
 .rw [Zav hc.1 h2,hc.2,Zat] at d
  exact d
 .simp only [Qr,Qq]
  omega
 .have e:trim l=[]++l.take i.toNat:=by
   rw [<-d]
   by_cases h0:0 < i
   .rw [Zav h0 h2,ZhI V0]
    try rfl
   .have:i.toNat=0:=V0
    rw [this]
    try rfl
  simp only [ZtE,e]
  exact ⟨⟨rfl,⟨⟨rfl,trivial⟩,trivial⟩,trivial⟩,trivial⟩
theorem ZjC:∀ (l:List Int),(trim l).length<=l.length
 | []=> by simp [trim]
 | x ::r=> by
  have:=ZjC r
  simp only [trim]
  grind
theorem Zdq:∀ (l:List Tree),Z6 (Yp l)<=Z6 l
 | []=> by simp [Yp]
 | x ::r=> by
  have:=Zdq r
  simp only [Yp]
  split
  .split
   .simp [Z6]
   .simp [Z6]
  .rename_i h
   rw [h] at this
   simp only [Z6] at*
   omega
mutual
theorem ZY:∀ (t:Tree),mass (Z0 t)<=mass t
 | .mk k w ks=> by
  have h1:=ZeK ks
  have h2:=ZjC w
  have d:=Zdq (Yr ks)
  simp only [Z0]
  split
  .simp only [Tree.nil,mass,Z6,Qr];omega
  .split
   .simp only [mass];omega
   .simp only [mass];omega
theorem ZeK:∀ (ks:List Tree),Z6 (Yr ks)<=Z6 ks
 | []=> by simp [Yr]
 | t ::r=> by
  have h1:=ZY t
  have d:=ZeK r
  simp only [Yr,Z6]
  omega
end
theorem Zb3:∀ (l:List Tree) (x:Tree),Yr (l++[x])=Yr l++[Z0 x]
 | [],x=> rfl
 | y ::r,x=> by simp only [Qp,Yr,Zb3 r x]
theorem Z1H:∀ (l:List Tree),(Yr l).length=l.length
 | []=> rfl
 | y ::r=> by simp only [Yr,Qd,Z1H r]
theorem Z7F{x:Tree}(hx:x.kind=0):∀ (l:List Tree),Yp (l++[x])=Yp l
 | []=> by simp [Yp,hx]
 | y ::r=> by
  show (match Yp (r++[x]) with | []=> if y.kind=0 then [] else [y] | z ::s=> y ::z ::s)=_
  rw [Z7F hx r]
  try rfl
theorem Zdp{x:Tree}(hx:x.kind≠0):∀ (l:List Tree),Yp (l++[x])=l++[x]
 | []=> by simp [Yp,hx]
 | y ::r=> by
  show (match Yp (r++[x]) with | []=> if y.kind=0 then [] else [y] | z ::s=> y ::z ::s)=_
  rw [Zdp hx r]
  cases r <;> rfl
theorem Z7H{l:List Tree}{i:Int}(h0:0<=i)(hi:i < l.length):l.take (i+1).toNat=l.take i.toNat++[l.getD i.toNat Tree.nil]:=by
 have e:(i+1).toNat=i.toNat+1:=V0
 simp_all
theorem c12:Contract Tryz.prog cfg 12 ZdZ:=by
 refine ZDC c25 ?_
 rintro N ⟨k,ws,ks⟩ _ hp hN
 have al:=Y4 ks
 simp only [Zc1,ZrB,mass] at hp hN
 refine ZJt N _ _ ?_;(try simp only [iB,vcT,forall_eq])
 (simp only [iB,vcS]);(try simp only [iB,vcT])
 try (simp only [vE])
 refine ⟨fun hc=> ?_,fun aj=> ?_⟩
 .have e:Z0 (.mk k ws ks)=Tree.nil:=by simp [Z0,hc]
  simp only [Zgy,e]
  exact ⟨⟨rfl,⟨⟨rfl,rfl⟩,⟨rfl,⟨rfl,trivial⟩⟩⟩,trivial⟩,trivial⟩
 .refine Z8 (ι:=Int × Int × List Tree) (fun p=> Z6j (.mk k ws ks) p.1 p.2.1 p.2.2) (fun p=> 0<=p.2.1/\p.2.1<=ks.length/\0<=p.1/\p.1<=p.2.1/\p.2.2=Yr (ks.take p.2.1.toNat)/\Yp (Yr (ks.take p.2.1.toNat))=p.2.2.take p.1.toNat) (fun p=> ((ks.length:Int) - p.2.1).toNat) (0,0,[]) rfl ⟨by grind,by grind,V0,by grind,rfl,rfl⟩ ?_
  rintro ⟨aa,i,l⟩ ⟨h1,h2,h3,h4,h5,h6⟩
  dsimp only at*
  have hl:l.length=i.toNat:=by rw [h5,Z1H,Qq];omega
  refine Zyy N _ _ _ _ _ _ ?_;(try simp only [iB,vcT,forall_eq])
  (simp only [iB,vcS]);(try simp only [iB,vcT])
  try (simp only [vE])
  refine ⟨fun hc=> ?_,fun hc=> ⟨fun h1=> ⟨?_,V0,?_⟩,fun hk=> ⟨?_,?_⟩⟩⟩
  .have hm:=Z13 (ks:=ks) (i:=i.toNat) V0
   have d:Yr (ks.take (i+1).toNat)=l++[Z0 (ks.getD i.toNat Tree.nil)]:=by rw [Z7H h1 hc,Zb3,h5]
   refine ⟨V0,by simp only [Zc1];omega,by simp only [ZrB];omega,by simp only [Qd,Qr];omega,fun hk=> ⟨V4,V4,(i+1,i+1,_),rfl,⟨by grind,by grind,V0,by grind,d.symm,?_⟩,by grind⟩,fun hk=> ⟨V4,(aa,i+1,_),rfl,⟨by grind,by grind,V0,by grind,d.symm,?_⟩,by grind⟩⟩
   .dsimp only
    rw [d,Zdp hk,Qs (by simp;omega)]
   .dsimp only
    rw [d,Z7F hk,Xv V0,<-h6,h5]
  .simp only [Zkz];omega
  .have hi:ks.take i.toNat=ks:=Qs V0
   rw [hi] at h5 h6
   have e:Z0 (.mk k ws ks)= .mk 1 (trim ws) (l.take aa.toNat):=by
    subst h1
    simp only [Z0,<-h6]
    try rfl
   simp only [Zgy,e]
   exact ⟨⟨rfl,⟨⟨rfl,rfl⟩,⟨rfl,trivial⟩,⟨rfl,trivial⟩,trivial⟩,trivial⟩,trivial⟩
  .grind
  .have hi:ks.take i.toNat=ks:=Qs V0
   rw [hi] at h5
   have e:Z0 (.mk k ws ks)= .mk k ([]++ws) l:=by
    simp only [Z0,if_neg aj,if_neg hk,h5]
    try rfl
   simp only [Zgy,e]
   exact ⟨⟨rfl,⟨⟨rfl,rfl⟩,⟨rfl,trivial⟩,⟨rfl,trivial⟩,trivial⟩,trivial⟩,trivial⟩
theorem ZpS{l:List Int}(h0:0 < (l.length:Int)):l=l.take ((l.length:Int) - 1).toNat++[l.getD ((l.length:Int) - 1).toNat 0]:=by
 have:=Zav h0 (Xe _)
 rw [Qs V0] at this
 exact this
theorem Zl3{l:List Tree}(h0:0 < (l.length:Int)):l=l.take ((l.length:Int) - 1).toNat++[l.getD ((l.length:Int) - 1).toNat Tree.nil]:=by
 have:=Z7H (l:=l) (i:=(l.length:Int) - 1) V0 V0
 rw [Qs V0] at this
 exact this
theorem Zr3{l:List Int}(h0:0 < (l.length:Int))(hz:l.getD ((l.length:Int) - 1).toNat 0=0):trim (l.take ((l.length:Int) - 1).toNat)=trim l:=by
 have e:=Zat (l.take ((l.length:Int) - 1).toNat)
 have h:=ZpS h0
 grind
theorem Zr5{l:List Int}(h:¬0 < (l.length:Int)\/¬l.getD ((l.length:Int) - 1).toNat 0=0):trim l=l:=by
 by_cases h0:0 < (l.length:Int)
 .have e:=ZhI (x:=l.getD ((l.length:Int) - 1).toNat 0) V0 (l.take ((l.length:Int) - 1).toNat)
  rw [<-ZpS h0] at e
  exact e
 .have:l=[]:=Q1 V0
  subst this
  try rfl
theorem Zm1{l:List Tree}(h0:0 < (l.length:Int))(hz:(l.getD ((l.length:Int) - 1).toNat Tree.nil).kind=0):Yp (l.take ((l.length:Int) - 1).toNat)=Yp l:=by
 have e:=Z7F hz (l.take ((l.length:Int) - 1).toNat)
 rw [<-Zl3 h0] at e
 exact e.symm
theorem Zm3{l:List Tree}(h:¬0 < (l.length:Int)\/¬(l.getD ((l.length:Int) - 1).toNat Tree.nil).kind=0):Yp l=l:=by
 by_cases h0:0 < (l.length:Int)
 .have e:=Zdp (x:=l.getD ((l.length:Int) - 1).toNat Tree.nil) V0 (l.take ((l.length:Int) - 1).toNat)
  rw [<-Zl3 h0] at e
  exact e
 .have:l=[]:=Q1 V0
  subst this
  try rfl
theorem c22:Contract Tryz.prog cfg 22 ZdZ:=by
 refine ZDw c42 ?_
 rintro N ⟨k,ws,ks⟩ _ hp hN
 have ah:=Y4 ks
 simp only [Zc1,ZrB,mass] at hp hN
 refine ZJk N _ _ ?_;(try simp only [iB,vcT,forall_eq])
 (simp only [iB,vcS]);(try simp only [iB,vcT])
 try (simp only [vE])
 refine ⟨fun hc=> ?_,fun ae=> ⟨by simp only [Zkz];omega,?_⟩⟩
 .have e:Z0 (.mk k ws ks)=Tree.nil:=by simp [Z0,hc]
  simp only [Zgy,e]
  exact ⟨⟨rfl,⟨⟨rfl,rfl⟩,⟨rfl,⟨rfl,trivial⟩⟩⟩,trivial⟩,trivial⟩
 .refine Z8 (ι:=Int × List Tree) (fun p=> Za6 (.mk k ws ks) p.1 p.2) (fun p=> 0<=p.1/\p.1<=ks.length/\p.2=Yr (ks.take p.1.toNat)) (fun p=> ((ks.length:Int) - p.1).toNat) (0,[]) rfl ⟨V0,V0,rfl⟩ ?_
  rintro ⟨i,l⟩ ⟨h1,h2,d⟩
  dsimp only at*
  have hl:l.length=i.toNat:=by rw [d,Z1H,Qq];omega
  refine Zyv N _ _ _ _ _ ?_;(try simp only [iB,vcT,forall_eq])
  (simp only [iB,vcS]);(try simp only [iB,vcT])
  try (simp only [vE])
  refine ⟨fun hc=> ?_,fun hc=> ⟨fun hk=> ?_,fun hk=> ?_⟩⟩
  .have hm:=Z13 (ks:=ks) (i:=i.toNat) V0
   have af:Yr (ks.take (i+1).toNat)=l++[Z0 (ks.getD i.toNat Tree.nil)]:=by rw [Z7H h1 hc,Zb3,d]
   exact ⟨V0,by simp only [Zc1];omega,by simp only [ZrB];omega,by simp only [Qd,Qr];omega,V4,(i+1,_),rfl,⟨V0,V0,af.symm⟩,V0⟩
  .have hi:ks.take i.toNat=ks:=Qs V0
   rw [hi] at d
   refine Z8 (ι:=List Int) (fun p=> Za5 (.mk k ws ks) l p) (fun p=> p.length<=ws.length/\trim p=trim ws) (fun p=> p.length) ws rfl ⟨V0,rfl⟩ ?_
   rintro w ⟨h6,h7⟩
   refine Zyu N _ _ _ _ _ ?_;(try simp only [iB,vcT,forall_eq])
   (simp only [iB,vcS]);(try simp only [iB,vcT])
   refine ⟨fun h=> by unfold InR;omega,fun h=> by omega,fun hc=> ⟨V4,V0,_,rfl,⟨by rw [List.length_take];omega,?_⟩,by rw [List.length_take];omega⟩,fun hc=> ?_⟩
   .rw [Zr3 hc.1 hc.2,h7]
   .have hw:w=trim ws:=by rw [<-h7,Zr5 hc]
    refine Z8 (ι:=List Tree) (fun p=> Za4 (.mk k ws ks) w p) (fun p=> p.length<=l.length/\Yp p=Yp l) (fun p=> p.length) l rfl ⟨V0,rfl⟩ ?_
    rintro q ⟨h8,h9⟩
    refine Zyt N _ _ _ _ _ ?_;(try simp only [iB,vcT,forall_eq])
    (simp only [iB,vcS]);(try simp only [iB,vcT])
    refine ⟨fun h=> by unfold InR;omega,fun h=> by omega,fun hc=> ⟨V4,V0,_,rfl,⟨by rw [List.length_take];omega,?_⟩,by rw [List.length_take];omega⟩,fun hc=> ?_⟩
    .rw [Zm1 hc.1 hc.2,h9]
    .have hq:q=Yp (Yr ks):=by rw [<-d,<-h9,Zm3 hc]
     have e:Z0 (.mk k ws ks)= .mk k w q:=by
      subst hk
      simp only [Z0,hw,hq]
      try rfl
     simp only [Zgy,e]
     trivial
  .have hi:ks.take i.toNat=ks:=Qs V0
   rw [hi] at d
   have e:Z0 (.mk k ws ks)= .mk k ws l:=by simp only [Z0,if_neg ae,if_neg hk,d]
   simp only [Zgy,e]
   trivial
noncomputable section
def Zxe:ArgL (Int × Unit):=(.cons (Y6 .i64) .nil)
def Zuq(a:Int × Unit):Prop:=True
def ZBA(a:Int × Unit):V U:= .c (ci (wd a.1))
def ZdM:Fs U:=fs Zxe (fun a=> [Zuq a]) ZBA
def Zxi:ArgL (Int × Int × Unit):=(.cons (Y6 .i64) (.cons (Y6 .u64) .nil))
def Zpm(a:Int × Int × Unit):Prop:=0<=a.2.1/\a.2.1 < 18446744073709551616
def ZBE(a:Int × Int × Unit):V U:= .c (.bool (Zs3 a.1 a.2.1))
def ZdR:Fs U:=fs Zxi (fun a=> [Zpm a]) ZBE
def ZBC(a:Int × Unit):V U:= .c (.bool (decide (2<=a.1/\a.1<=9)))
def ZhQ:Fs U:=fs Zxe (fun a=> [Zuq a]) ZBC
def Zc0(a:Tree × Int × Unit):Prop:=mass a.1<=20000000000/\rng a.1/\0<=a.2.1/\a.2.1<=1000
def Zn2(a:Tree × Int × Unit):Nat:=mass a.1
def ZtM(a:Tree × Int × Unit):V U:= .c (.bool (Zh a.1 a.2.1))
def ZdX:Fs U:=fs Zx2 (fun a=> [Zc0 a]) ZtM
def ZE5:Zb U:=lvl [([0],[]),([3],[]),([3,4],[]),([2],[]),([3,6],[]),([2],[]),([3,8],[]),([2],[]),([3,10],[]),([2],[]),([3,12],[]),([2],[]),([14],[]),([2],[]),([2],[])]
abbrev A48(p:List Nat):=AW (Z1 ZnF) Tryz.f48 ZE5 p
theorem ZJ0(c:Int)(Q:QT)(h:(iB (c==0) ((Q .ret (L2 [pI 2 0] []))) ((iB (c==1) ((Q .ret (L2 [pI 2 1] []))) ((iB (c==2) ((Q .ret (L2 [pI 2 8] []))) ((iB (c==3) ((Q .ret (L2 [pI 2 16] []))) ((iB (c==4) ((Q .ret (L2 [pI 2 32] []))) ((iB (c==5) ((Q .ret (L2 [pI 2 64] []))) ((Q .ret (L2 [pI 2 (-1)] []))))))))))))))):
  A48 [] (L2 [pI 0 c] []) Q:=
 Eq.mpr V5 h
def ZFS(c:Int):Prop:=AW (Z1 ZnF) Tryz.f48 ZE5 [] (Zf (Zxe.can (c,())) []) (EQ Tryz.f48 (ZBA (c,())) [])
theorem ZDl(hb:∀ (c:Int) (_:Unit),Zuq (c,())->ZFS c):CT 48 ZdM:=
 Z2 (l:=[]) Zd rfl trivial ZE5 Tryz.func48 rfl rfl 1 (fun _=> rfl) V2 (fun ⟨c,_⟩=> hb c ())
def ZnD:List (FuncId × Fs U):=[(48,ZdM)]
def ZA2:Zb U:=lvl [([0,1],[]),([1,5],[]),([1,5,10],[]),([4],[]),([1,5,6],[]),([1,5,6,13],[]),([1,5,6],[]),([1,5,6],[]),([4],[])]
def Za1(c n d x6:Int):LSt U:=(L2 [(1,.c (.int .u64 d)),pI 5 (wd c),pI 6 x6] [])
abbrev A31(p:List Nat):=AW (Z1 ZnD) Tryz.f31 ZA2 p
abbrev S31(p:List Nat):=SW (Z1 ZnD) Tryz.f31 ZA2 p
theorem ZJf(c n:Int)(Q:QT)(h:((Zuq (c,()))/\(iB (decide (((wd c):Int) < 0)) ((Q .ret (L2 [pB 4 false] []))) ((Zk (A31 [1,1,1,0,1,0,0]) (Za1 c n n 0) (xB 0 (S31 [1,1,1,1] Q))))))):
  A31 [] (L2 [pI 0 c,(1,.c (.int .u64 n))] []) Q:=
 Eq.mpr V5 h
theorem Zyq(c n x1 d:Int)(N0:NT)(Q:QT)(h:(iB (decide (d < (wd c))) (((2:Int)≠0)/\((InR (d+1))/\(N0 (Za1 c n (IntKind.wrap .u64 (Int.tdiv x1 2)) (d+1))))) ((Q .ret (L2 [pB 4 (x1==0)] []))))):
  A31 [1,1,1,0,1,0,0] (Za1 c n x1 d) (xT N0 (xB 0 (S31 [1,1,1,1] Q))):=
 Eq.mpr V5 h
def ZG7(c n:Int):Prop:=AW (Z1 ZnD) Tryz.f31 ZA2 [] (Zf (Zxi.can (c,n,())) []) (EQ Tryz.f31 (ZBE (c,n,())) [])
theorem ZDs(c48:CT 48 ZdM)(hb:∀ (c:Int) (n:Int) (_:Unit),Zpm (c,n,())->ZG7 c n):CT 31 ZdR:=
 Z2 (l:=[(48,ZdM)]) Zd rfl (⟨c48,trivial⟩) ZA2 Tryz.func31 rfl rfl 2 (fun _=> rfl) V2 (fun ⟨c,n,_⟩=> hb c n ())
def ZE9:Zb U:=lvl [([0],[]),([2],[])]
abbrev A40(p:List Nat):=AW (Z1 ZnF) Tryz.f40 ZE9 p
theorem ZJ6(k:Int)(Q:QT)(h:let z0:=decide ((2:Int)<=k);((Tt z0)/\(Tt z0)/\(Q .ret (L2 [(2,.c (.bool (bif z0 then (decide (k<=9)) else false)))] [])))):
  A40 [] (L2 [pI 0 k] []) Q:=
 Eq.mpr V5 h
def ZFY(k:Int):Prop:=AW (Z1 ZnF) Tryz.f40 ZE9 [] (Zf (Zxe.can (k,())) []) (EQ Tryz.f40 (ZBC (k,())) [])
theorem ZDo(hb:∀ (k:Int) (_:Unit),Zuq (k,())->ZFY k):CT 40 ZhQ:=
 Z2 (l:=[]) Zd rfl trivial ZE9 Tryz.func40 rfl rfl 1 (fun _=> rfl) V2 (fun ⟨k,_⟩=> hb k ())
def ZnH(N:Nat):List (FuncId × Fs U):=(15,fs Zx2 (fun a=> [Zc0 a,Zn2 a < N]) ZtM) ::[(31,ZdR)]
def ZA6:Zb U:=lvl [([1,2],[2]),([1,2,10],[2]),([4],[]),([1,2,23],[2]),([4],[]),([1,2,68],[2]),([4],[]),([1,2,77],[2]),([4],[]),([1,2,5],[2]),([1,2,5,82],[2]),([1,2,5],[2]),([1,2,5,6],[2,6]),([1,2,5,6,94],[2,6]),([4],[]),([1,2,5,6,7],[2,6]),([1,2,5,131],[2]),([4],[]),([4],[])]
def Za8(t:Tree)(d x5:Int):LSt U:=(L2 [pI 1 d,pL 2,pI 5 x5] [(.loc 2,(enc .tree t))])
abbrev A15(N:Nat)(p:List Nat):=AW (Z1 (ZnH N)) Tryz.f15 ZA6 p
abbrev S15(N:Nat)(p:List Nat):=SW (Z1 (ZnH N)) Tryz.f15 ZA6 p
theorem ZJr(N:Nat)(t:Tree)(d:Int)(Q:QT)(h:let z10:=(Q .ret (L2 [pB 4 false] []));let z9:=((t.kids.length:Int):Int)==0;let z7:=decide (t.kind < 0);let z6:=decide ((1:Int) < t.kind);let z5:=((t.words.length:Int):Int)==1;let z4:=((t.words.length:Int):Int)==0;let z1:=bif z7 then true else (decide ((10:Int) < t.kind));let z3:=bif z1 then true else (d==0);let z0:=bif z3 then true else (decide ((65536:Int)<=(t.words.length:Int)));let z8:=(!z0) && (t.kind==1);let z2:=bif z0 then true else (bif (t.kind==1) then (decide ((65536:Int)<=(t.kids.length:Int))) else false);(iB (t.kind==0) ((Tt z4)/\(Tt z4)/\(Tt z4)/\(Tt z4)/\(Q .ret (L2 [(4,.c (.bool (bif z4 then z9 else false)))] []))) ((iB (t.kind==10) ((Tt z5)/\(Tt z5)/\(Tt z5)/\(Tt z5)/\(Q .ret (L2 [(4,.c (.bool (bif z5 then z9 else false)))] []))) ((Tt (!z7))/\(Tt (!z7))/\(z7=false->(!z7)=true)/\(Tt (!z1))/\(z1=false->(!z1)=true)/\(Tt (!z3))/\(Tt (!z3))/\(Tt (!z3))/\(z3=false->(!z3)=true)/\(Tt (!z0))/\(Tt (!z0))/\(Tt (!z0))/\(Tt z8)/\(Tt z8)/\(Tt z8)/\((!z0)=true->(True->(!z0)=true))/\((!z0)=true->((t.kind==1)=true->z8=true))/\(z0=false->(!z0)=true)/\(Tt (!z2))/\(Tt (!z2))/\(Tt (!z2))/\(z2=false->(!z2)=true)/\(iB (bif z2 then true else (decide ((1048576:Int)<=(t.kids.length:Int)))) z10 ((Tt z6)/\(Tt z6)/\(Tt z6)/\(Tt z6)/\(iB (bif z6 then (decide ((0:Int) < (t.words.length:Int))) else false) z10 ((Zk (A15 N [1,1,1,1,1,0,1,0,0]) (Za8 t d 0) (xB 0 (S15 N [1,1,1,1,1,1] Q)))))))))))):
  A15 N [] (L2 [(0,.agg (enc .tree t)),pI 1 d] []) Q:=
 Eq.mpr V5 h
theorem Zyx(N:Nat)(t:Tree)(d x5:Int)(N0:NT)(Q:QT)(h:∀ aa,aa=(t.kids.getD x5.toNat Tree.nil)->∀ ab,ab=aa->∀ af,af=(List.getD aa.words (Int.toNat 0) (0:Int))->let z5:=(Q .ret (L2 [pB 4 false] []));let z3:=decide ((2:Int)<=t.kind);let z0:=bif z3 then (decide (t.kind<=7)) else false;let z2:=z0 !=(aa.kind==10);let z4:=(!z2) && (t.kind==9);let z1:=bif z2 then true else (bif (t.kind==9) then (aa.kind !=1) else false);(iB (decide (x5 < (t.kids.length:Int))) (((0:Int)<=x5/\x5 < (t.kids.length:Int))/\((InR (d - 1))/\(Zc0 (ab,(d - 1),()))/\(Zn2 (ab,(d - 1),()) < N)/\(iB (!(Zh ab (d - 1))) z5 ((Tt z3)/\(Tt z3)/\(Tt z3)/\((Tt (!z2))/\(Tt (!z2))/\(Tt (!z2))/\(Tt z4)/\(Tt z4)/\((!z2)=true->(True->(!z2)=true))/\((!z2)=true->((t.kind==9)=true->z4=true))/\(z2=false->(!z2)=true)/\(Tt (!z1))/\(Tt ((!z1) && z0))/\(Tt ((!z1) && z0))/\(((!z1) && z0)=true->InR (t.kind - 2))/\(Tt ((!z1) && z0))/\(Tt ((!z1) && z0))/\(((!z1) && z0)=true->(0:Int)<=0/\0 < (aa.words.length:Int))/\(Tt ((!z1) && z0))/\(Tt ((!z1) && z0))/\(Tt ((!z1) && z0))/\(((!z1) && z0)=true->Zpm ((t.kind - 2),af,()))/\(Tt ((!z1) && z0))/\((!z1)=true->(True->(!z1)=true))/\((!z1)=true->(z0=true->((!z1) && z0)=true))/\(z1=false->(!z1)=true)/\(iB (bif z1 then true else (bif z0 then (!(Zs3 (t.kind - 2) af)) else false)) z5 ((InR (x5+1))/\(N0 (Za8 t d (x5+1)))))))))) ((Q .ret (L2 [pB 4 true] []))))):
  A15 N [1,1,1,1,1,0,1,0,0] (Za8 t d x5) (xT N0 (xB 0 (S15 N [1,1,1,1,1,1] Q))):=
 Eq.mpr V5 (h _ rfl _ (Z3 _) _ rfl)
def ZGj(N:Nat)(t:Tree)(d:Int):Prop:=AW (Z1 (ZnH N)) Tryz.f15 ZA6 [] (Zf (Zx2.can (t,d,())) []) (EQ Tryz.f15 (ZtM (t,d,())) [])
theorem ZDA(c31:CT 31 ZdR)(hb:∀ (N:Nat) (t:Tree) (d:Int) (_:Unit),Zc0 (t,d,())->Zn2 (t,d,()) < N+1->ZGj N t d):CT 15 ZdX:=
 Z0y (μ:=Zn2) (l:=[(31,ZdR)]) Zd rfl (⟨c31,trivial⟩) ZA6 Tryz.func15 rfl rfl 2 (fun _=> rfl) V2 (fun N ⟨t,d,_⟩=> hb N t d ())
end
theorem Z4H:∀ (l:List Int),trim l=[]↔∀ i:Nat,l.getD i 0=0
 | []=> by simp [trim]
 | x ::r=> by
  have ih:=Z4H r
  constructor
  .intro h i
   simp only [trim] at h
   split at h
   .rename_i d
    split at h
    .cases i with
     | zero=> simpa
     | succ i=> simp_all
    .cases h
   .cases h
  .intro h
   have h0:=h 0
   have d:trim r=[]:=ih.2 fun i=> by simpa using h (i+1)
   simp only [trim,d]
   grind
theorem Z2w(x:Int)(r:List Int):trim (x ::r)=if trim r=[]/\x=0 then [] else x ::trim r:=by
 simp only [trim]
 grind
theorem ZbF:∀ (a b:List Int),trim a=trim b↔∀ i:Nat,a.getD i 0=b.getD i 0
 | [],b=> by
  rw [show trim []=[] from rfl,eq_comm,Z4H]
  simp [eq_comm]
 | x ::r,[]=> by
  rw [show trim []=[] from rfl,Z4H]
  simp
 | x ::r,y ::s=> by
  have ih:=ZbF r s
  constructor
  .intro h i
   have ae:x=y/\trim r=trim s:=by
    rw [Z2w,Z2w] at h
    grind
   cases i with
   | zero=> grind
   | succ i=> simp_all
  .intro h
   have d:x=y:=by simpa using h 0
   have hr:trim r=trim s:=ih.2 fun i=> by simpa using h (i+1)
   rw [Z2w,Z2w,d,hr]
def ZAF(l:List Tree):Prop:=∀ x∈l,x.kind=0->x=Tree.nil
theorem Z0g(x:Tree)(r:List Tree):Yp (x ::r)=if Yp r=[]/\x.kind=0 then [] else x ::Yp r:=by
 simp only [Yp]
 grind
theorem Z3E:∀ (l:List Tree),ZAF l->(Yp l=[]↔∀ i:Nat,l.getD i Tree.nil=Tree.nil)
 | [],_=> by simp [Yp]
 | x ::r,hn=> by
  have ih:=Z3E r (fun y hy=> hn y (Q3 _ hy))
  have hx:=hn x (Q5 ..)
  rw [Z0g]
  constructor
  .intro h i
   split at h
   .rename_i hc
    cases i with
    | zero=> grind
    | succ i=> simp_all
   .cases h
  .intro h
   have d:x=Tree.nil:=by simpa using h 0
   have hr:Yp r=[]:=ih.2 fun i=> by simpa using h (i+1)
   rw [if_pos ⟨hr,by rw [d];rfl⟩]
theorem Z8o:∀ (a b:List Tree),ZAF a->ZAF b->(Yp a=Yp b↔∀ i:Nat,a.getD i Tree.nil=b.getD i Tree.nil)
 | [],b,_,hb=> by
  rw [show Yp []=[] from rfl,eq_comm,Z3E b hb]
  simp [eq_comm]
 | x ::r,[],ha,_=> by
  rw [show Yp []=[] from rfl,Z3E _ ha]
  simp
 | x ::r,y ::s,ha,hb=> by
  have ih:=Z8o r s (fun y d=> ha y (Q3 _ d)) (fun y d=> hb y (Q3 _ d))
  have hx:=ha x (Q5 ..)
  have d:=hb y (Q5 ..)
  constructor
  .intro h i
   have af:x=y/\Yp r=Yp s:=by
    rw [Z0g,Z0g] at h
    split at h <;> split at h
    .grind
    .cases h
    .cases h
    .simpa using h
   cases i with
   | zero=> grind
   | succ i=> simp_all
  .intro h
   have h0:x=y:=by simpa using h 0
   have hr:Yp r=Yp s:=ih.2 fun i=> by simpa using h (i+1)
   rw [Z0g,Z0g,h0,hr]
theorem Zrw:Z0 Tree.nil=Tree.nil:=by rfl
theorem Z84(t:Tree):(Z0 t).kind=t.kind:=by
 obtain ⟨k,w,ks⟩:=t
 simp only [Z0]
 split
 .rename_i h;simp [h,Tree.nil]
 .split
  .rename_i h;simp [h]
  .try rfl
theorem Z86:∀ (l:List Tree),ZAF (Yr l)
 | []=> by intro x d;trivial
 | t ::r=> by
  intro x d hk
  simp only [Yr,Q9] at d
  rcases d with rfl | d
  .rw [Z84] at hk
   obtain ⟨k,w,ks⟩:=t
   simp only [Tree.kind_mk] at hk
   simp [Z0,hk]
  .exact Z86 r x d hk
theorem Z0R:∀ (l:List Tree) (i:Nat),(Yr l).getD i Tree.nil=Z0 (l.getD i Tree.nil)
 | [],i=> by rfl
 | t ::r,0=> by simp [Yr]
 | t ::r,i+1=> by simpa [Yr] using Z0R r i
theorem Z9o(a b:List Tree):Yr a=Yr b↔a.length=b.length/\∀ i:Nat,Z0 (a.getD i Tree.nil)=Z0 (b.getD i Tree.nil):=by
 constructor
 .intro h
  refine ⟨by rw [<-Z1H a,h,Z1H],fun i=> ?_⟩
  rw [<-Z0R,h,Z0R]
 .rintro ⟨hl,h⟩
  apply List.ext_getElem (by rw [Z1H,Z1H,hl])
  intro i h1 d
  have:=h i
  rw [<-Z0R,<-Z0R] at this
  grind
theorem YR(a b:Tree):Z0 a=Z0 b↔a.kind=b.kind/\(a.kind=0\/(if a.kind=1 then (∀ i:Nat,a.words.getD i 0=b.words.getD i 0) else a.words=b.words/\a.kids.length=b.kids.length)/\∀ i:Nat,Z0 (a.kids.getD i Tree.nil)=Z0 (b.kids.getD i Tree.nil)):=by
 obtain ⟨k,w,ks⟩:=a
 obtain ⟨k',w',d⟩:=b
 show _↔k=k'/\(k=0\/(if k=1 then (∀ i:Nat,w.getD i 0=w'.getD i 0) else w=w'/\ks.length=d.length)/\∀ i:Nat,Z0 (ks.getD i Tree.nil)=Z0 (d.getD i Tree.nil))
 by_cases hk:k=k'
 .subst hk
  simp only [true_and]
  by_cases h0:k=0
  .simp [Z0,h0]
  .by_cases h1:k=1
   .subst h1
    simp only [Z0,if_neg h0,if_true,Tree.mk.injEq,true_and,ZbF,Z8o _ _ (Z86 _) (Z86 _),Z0R]
    simp
   .simp only [Z0,if_neg h0,if_neg h1,Tree.mk.injEq,true_and,Z9o]
    grind
 .simp only [hk,false_and,iff_false]
  intro h
  have:=congrArg Tree.kind h
  rw [Z84,Z84] at this
  exact hk this
theorem Zjv{a b:Tree}(h:Z0 a=Z0 b)(h0:a.kind≠0)(i:Nat):a.words.getD i 0=b.words.getD i 0:=by
 obtain ⟨_,d⟩:=(YR a b).1 h
 grind
theorem ZnK{a b:Tree}(h:Z0 a=Z0 b)(h0:a.kind≠0)(i:Nat):Z0 (a.kids.getD i Tree.nil)=Z0 (b.kids.getD i Tree.nil):=by
 obtain ⟨_,d⟩:=(YR a b).1 h
 grind
theorem Zf0(t:Tree)(i:Int):mass (Zr t i)<=mass t/\(i < t.kids.length->0<=i->mass (Zr t i) < mass t):=by
 obtain ⟨k,w,ks⟩:=t
 unfold Zr
 have d:mass Tree.nil=1:=rfl
 split
 .simp only [d,mass];omega
 .simp only [Tree.kids_mk]
  by_cases hi:i.toNat < ks.length
  .have:=Z13 hi
   simp only [mass];omega
  .rw [List.getD,Qu V0]
   simp only [Option.getD_none,d,mass];omega
theorem c38:Contract Tryz.prog cfg 38 Yw:=by
 refine ZDp c62 c63 c64 ?_
 rintro N a b _ hp hN
 have la:a.words.length+a.kids.length < mass a:=by obtain ⟨k,w,ks⟩:=a;have:=Y4 ks;simp only [mass,Tree.words_mk,Tree.kids_mk];omega
 have lb:b.words.length+b.kids.length < mass b:=by obtain ⟨k,w,ks⟩:=b;have:=Y4 ks;simp only [mass,Tree.words_mk,Tree.kids_mk];omega
 simp only [Z2M,Zry] at hp hN
 have no:¬Z0 a=Z0 b->JZ cfg Tryz.f38.ntmps Tryz.f38.results.toList (Zeh (a,b,())) [] .ret (⟨[(4,.c (.bool false))],[],[]⟩:LSt U):=by
  intro h
  have e:ZU (Z0 a) (Z0 b)=false:=JM.2 h
  simp only [Zeh,e]
  exact ⟨⟨rfl,⟨rfl,trivial⟩,trivial⟩,trivial⟩
 refine ZJ8 N _ _ _ ?_;(try simp only [iB,vcT,forall_eq])
 (simp only [iB,vcS]);(try simp only [iB,vcT])
 refine ⟨fun hc=> ?_,fun hc=> ?_⟩
 .have e:ZU (Z0 a) (Z0 b)=(a.kind==b.kind):=by
   by_cases d:a.kind=b.kind
   .have h0:a.kind=0:=by rcases hc with h | h;exact absurd d h;exact h
    rw [ZX.2 ((YR a b).2 ⟨d,.inl h0⟩)]
    simp [d]
   .rw [JM.2 (fun h=> d ((YR a b).1 h).1)]
    simp [d]
  simp only [Zeh,e]
  exact ⟨⟨rfl,⟨rfl,trivial⟩,trivial⟩,trivial⟩
 .refine ⟨fun _=> by simp only [ZgL];omega,fun h h'=> ⟨h,h'⟩,fun hd=> no ?_,fun hd=> ?_⟩
  .intro h
   obtain ⟨_,h2⟩:=(YR a b).1 h
   grind
  .refine Z8 (ι:=Int) (fun p=> Z9W a b p) (fun p=> 0<=p/\p<=2000000000000/\∀ j:Nat,j < p.toNat->a.words.getD j 0=b.words.getD j 0) (fun p=> (2000000000000 - p).toNat) 0 rfl ⟨V0,V0,fun j hj=> by simp at hj⟩ ?_
   rintro i ⟨h1,h2,h3⟩
   refine Zyj N _ _ _ _ _ ?_;(try simp only [iB,vcT,forall_eq])
   (simp only [iB,vcS]);(try simp only [iB,vcT])
   have wa:∀ t:Tree,Zm t i=t.words.getD i.toNat 0:=fun t=> by unfold Zm;omega
   refine ⟨fun hi=> ⟨trivial,trivial,fun hn=> no fun h=> hn ?_,fun he=> ⟨?_,?_⟩⟩,fun hi=> ?_⟩
   .rw [wa,wa]
    exact Zjv h hc.2 _
   .unfold InR;omega
   .refine ⟨i+1,rfl,⟨V0,V0,fun j hj=> ?_⟩,V0⟩
    by_cases hj':j < i.toNat
    .exact h3 j hj'
    .have:j=i.toNat:=V0
     simp_all
   .have hw:∀ j:Nat,a.words.getD j 0=b.words.getD j 0:=fun j=> by
     grind
    refine Z8 (ι:=Int) (fun p=> Z9V a b p) (fun p=> 0<=p/\p<=2000000000000/\∀ j:Nat,j < p.toNat->Z0 (a.kids.getD j Tree.nil)=Z0 (b.kids.getD j Tree.nil)) (fun p=> (2000000000000 - p).toNat) 0 rfl ⟨V0,V0,fun j hj=> by simp at hj⟩ ?_
    rintro q ⟨h5,h6,h7⟩
    refine Zyi N _ _ _ _ _ ?_;(try simp only [iB,vcT,forall_eq])
    (simp only [iB,vcS]);(try simp only [iB,vcT])
    have ka:∀ t:Tree,Zr t q=t.kids.getD q.toNat Tree.nil:=fun t=> by unfold Zr;grind
    have ma:=Zf0 a q
    have mb:=Zf0 b q
    try (simp only [vE])
    refine ⟨fun hq=> ⟨trivial,trivial,?_,?_,fun hn=> no fun h=> ?_,fun he=> ⟨?_,?_⟩⟩,fun hq=> ?_⟩
    .simp only [Z2M];omega
    .simp only [Zry];omega
    .rw [JM] at hn
     apply hn
     rw [ka,ka]
     exact ZnK h hc.2 _
    .unfold InR;omega
    .refine ⟨q+1,rfl,⟨V0,V0,fun j hj=> ?_⟩,V0⟩
     by_cases hj':j < q.toNat
     .exact h7 j hj'
     .have:j=q.toNat:=V0
      rw [this,<-ka,<-ka]
      exact ZX.1 he
    .have d:∀ j:Nat,Z0 (a.kids.getD j Tree.nil)=Z0 (b.kids.getD j Tree.nil):=fun j=> by
      grind
     have e:ZU (Z0 a) (Z0 b)=true:=by
      rw [ZX,YR]
      refine ⟨hc.1,.inr ⟨?_,d⟩⟩
      split
      .exact hw
      .grind
     simp only [Zeh,e]
     trivial
mutual
theorem Z4N:∀ (t:Tree) (d l:Int),0<=Yu t d l->(mass t:Int)+Yu t d l<=l
 | .mk _ w ks,d,l,h=> by
  simp only [Yu] at h ⊢
  split at h
  .omega
  .rename_i hc
   rw [if_neg hc]
   have:=Z7k ks (d - 1) (l - 1 - w.length) h
   simp only [mass]
   omega
theorem Z7k:∀ (ks:List Tree) (d l:Int),0<=Yb ks d l->(Z6 ks:Int)+Yb ks d l<=l
 | [],d,l,h=> by simp [Yb,Z6]
 | t ::r,d,l,h=> by
  simp only [Yb] at h ⊢
  split at h
  .omega
  .rename_i hc
   rw [if_neg hc]
   have h1:=Z7k r d (Yu t d l) h
   have h3:=(Z2H r d (Yu t d l) (Z3G t d l).1).2
   have h2:=Z4N t d l V0
   simp only [Z6]
   omega
end
theorem ZG{n k:Nat}{rs:List ResultVar}{b b':Bool}(hr:rs=[ResultVar.tmp k])(h:b=b'):JZ cfg n rs (.c (.bool b')) [] .ret (⟨[(k,.c (.bool b))],[],[]⟩:LSt U):=by
 subst hr h
 have d:Nat.beq k k=true:=Nat.beq_refl k
 simp [JZ,ZFc,Zhw,Zhv,Z7U,ZaN,LSt.toF,ZfK,d,Zex,Z4Q,J8,Z0C,leR,leL,leC,Zsq]
theorem ZE{n k:Nat}{rs:List ResultVar}{K:IntKind}{b b':Int}(hr:rs=[ResultVar.tmp k])(h:b=b'):JZ cfg n rs (.c (.int K b')) [] .ret (⟨[(k,.c (.int K b))],[],[]⟩:LSt U):=by
 subst hr h
 have d:Nat.beq k k=true:=Nat.beq_refl k
 simp [JZ,ZFc,Zhw,Zhv,Z7U,ZaN,LSt.toF,ZfK,d,Zex,Z4Q,J8,Z0C,leR,leL,leC,Zsq]
theorem c48:Contract Tryz.prog cfg 48 ZdM:=by
 refine ZDl ?_
 intro c _ _
 refine ZJ0 _ _ ?_;(try simp only [iB,vcT,forall_eq])
 (simp only [iB,vcS]);(try simp only [iB,vcT])
 refine ⟨fun h=> ZE rfl ?_,fun h=> ⟨fun h=> ZE rfl ?_,fun h=> ⟨fun h=> ZE rfl ?_,fun h=> ⟨fun h=> ZE rfl ?_,fun h=> ⟨fun h=> ZE rfl ?_,fun h=> ⟨fun h=> ZE rfl ?_,fun h=> ZE rfl ?_⟩⟩⟩⟩⟩⟩ <;> simp only [wd] <;> simp [*]
theorem ZGy(c:Int): -1<=wd c/\wd c<=64:=by
 unfold wd
 omega
theorem ZlX(n:Int)(h0:0<=n)(h1:n < 18446744073709551616):IntKind.wrap .u64 (Int.tdiv n 2)=n / 2:=by
 rw [Xf h0]
 simp [IntKind.wrap,IntKind.signed,IntKind.bits]
 omega
theorem c31:Contract Tryz.prog cfg 31 ZdR:=by
 refine ZDs c48 ?_
 intro c n _ hp
 simp only [Zpm] at hp
 have hw:=ZGy c
 refine ZJf _ _ _ ?_;(try simp only [iB,vcT,forall_eq])
 (simp only [iB,vcS]);(try simp only [iB,vcT])
 refine ⟨trivial,fun h=> ZG rfl ?_,fun h=> ?_⟩
 .simp only [Zs3]
  simp
  omega
 .refine Z8 (ι:=Int × Int) (fun p=> Za1 c n p.1 p.2) (fun p=> 0<=p.2/\p.2<=wd c/\0<=p.1/\p.1 < 18446744073709551616/\(n < 2 ^ (wd c).toNat↔p.1 < 2 ^ (wd c - p.2).toNat)) (fun p=> (wd c - p.2).toNat) (n,0) rfl ⟨V0,V0,V0,V0,by simp⟩ ?_
  rintro ⟨m,i⟩ ⟨h1,h2,h3,h4,d⟩
  dsimp only at*
  refine Zyq _ _ _ _ _ _ ?_;(try simp only [iB,vcT,forall_eq])
  (simp only [iB,vcS]);(try simp only [iB,vcT])
  refine ⟨fun hc=> ⟨V0,V4,(IntKind.wrap .u64 (Int.tdiv m 2),i+1),rfl,?_,V0⟩,fun hc=> ZG rfl ?_⟩
  .rw [ZlX m h3 h4]
   refine ⟨V0,V0,V0,V0,?_⟩
   dsimp only
   rw [d,show (wd c - i).toNat=(wd c - (i+1)).toNat+1 by omega]
   omega
  .have e:(wd c - i).toNat=0:=V0
   rw [e] at d
   simp only [Zs3]
   grind
theorem c40:Contract Tryz.prog cfg 40 ZhQ:=by
 refine ZDo ?_
 intro c _ _
 refine ZJ6 _ _ ?_;(try simp only [iB,vcT,forall_eq])
 refine ZG rfl ?_
 rw [Xb]
 (simp only [iB,vcS])
theorem Zto{t:Tree}(h:rng t){i:Nat}(hi:i < t.words.length):0<=t.words.getD i 0/\t.words.getD i 0 < 18446744073709551616:=by
 obtain ⟨k,w,ks⟩:=t
 simp only [rng] at h
 simp_all
theorem Zk2{l:Int}{ks:List Tree}{i:Int}{d:Int}(h0:0<=i)(h:i < ks.length):
  Ys l (ks.drop i.toNat) d=((Z1m l (ks.getD i.toNat Tree.nil) && Zh (ks.getD i.toNat Tree.nil) d) && Ys l (ks.drop (i+1).toNat) d):=by
 have e:(i+1).toNat=i.toNat+1:=V0
 rw [QO V0,e]
 simp only [Ys,List.getD,Q0 (show i.toNat < ks.length by omega),Xc]
theorem ZjY:∀ {ks:List Tree} {i:Nat},Yd ks->i < ks.length->rng (ks.getD i Tree.nil)
 | t ::_,0,h,_=> by simp only [Yd] at h;exact h.1
 | _ ::r,i+1,h,hi=> by simp only [Yd] at h;exact ZjY (ks:=r) (i:=i) h.2 (by simpa using hi)
theorem ZjZ{y:Tree}{d:Int}(h:Zh y d=true)(hk:y.kind=10):y.words.length=1/\y.kids.length=0:=by
 obtain ⟨k,w,ks⟩:=y
 simp only [Tree.kind_mk] at hk
 subst hk
 simpa [Zh] using h
theorem c15:Contract Tryz.prog cfg 15 ZdX:=by
 refine ZDA c31 ?_
 rintro N ⟨k,ws,ks⟩ d _ hp hN
 simp only [Zc0,Zn2,mass,rng] at hp hN
 refine ZJr N _ _ _ ?_;(try simp only [iB,vcT,forall_eq])
 (simp only [iB,vcS]);(try simp only [iB,vcT])
 try (simp only [vE])
 refine ⟨fun h0=> ZG rfl ?_,fun h0=> ⟨fun ae=> ZG rfl ?_,fun ae=> ⟨fun a b=> ⟨a,b⟩,fun hc=> ZG rfl ?_,fun hc=> ⟨fun hw=> ZG rfl ?_,fun hw=> ?_⟩⟩⟩⟩
 .simp only [Zh,if_pos h0]
  rw [Xb];(simp only [iB,vcS]);omega
 .simp only [Zh,if_neg h0,if_pos ae]
  rw [Xb];(simp only [iB,vcS]);omega
 .simp only [Zh,if_neg h0,if_neg ae]
  split
  .try rfl
  .split
   .rw [decide_eq_false V0];try rfl
   .have:¬(2<=k/\k<=9/\ws.length=0/\ks.length < 1048576):=V0
    rw [decide_eq_false this];try rfl
 .simp only [Zh,if_neg h0,if_neg ae]
  rw [Yo,Yo]
  have:¬(2<=k/\k<=9/\ws.length=0/\ks.length < 1048576):=V0
  rw [decide_eq_false this];try rfl
 .have hb:Zh (.mk k ws ks) d=Ys k ks (d - 1):=by
   simp only [Zh,if_neg h0,if_neg ae]
   rw [Yo]
   split
   .rename_i h1
    rw [decide_eq_true V0,h1];try rfl
   .have:2<=k/\k<=9/\ws.length=0/\ks.length < 1048576:=V0
    rw [decide_eq_true this];try rfl
  refine Z8 (ι:=Int) (fun p=> Za8 (.mk k ws ks) d p) (fun p=> 0<=p/\p<=ks.length/\Zh (.mk k ws ks) d=Ys k (ks.drop p.toNat) (d - 1)) (fun p=> ((ks.length:Int) - p).toNat) 0 rfl ⟨V0,V0,by simpa using hb⟩ ?_
  rintro i ⟨h1,h2,h3⟩
  refine Zyx N _ _ _ _ _ ?_;(try simp only [iB,vcT,forall_eq])
  (simp only [iB,vcS]);(try simp only [iB,vcT])
  try (simp only [vE])
  refine ⟨fun hi=> ?_,fun hi=> ?_⟩
  .have hd:=Zk2 (l:=k) (d:=d - 1) h1 hi
   have hm:=Z13 (ks:=ks) (i:=i.toNat) V0
   have hr:=ZjY (i:=i.toNat) hp.2.1.2.2 V0
   rw [hd] at h3
   have ay:=Y4 ks
   generalize ks.getD i.toNat Tree.nil=y at*
   have am:Zc0 (y,d - 1,()):=⟨V3,hr,V3,V3⟩
   have av:Zn2 (y,d - 1,()) < N:=by simp only [Zn2];omega
   have aw:InR (d - 1):=V4
   refine ⟨⟨h1,hi⟩,aw,am,av,fun hf=> ZG rfl ?_,fun hf=> ?_⟩
   .rw [h3,hf];simp
   .have ab:((bif decide (2<=k) then decide (k<=7) else false)=(y.kind==10))↔((2<=k/\k<=7)↔y.kind=10):=by
     rw [Xb];(simp only [iB,vcS])
    have al:=ZjZ hf
    have ao:Z1m k y=true↔(((2<=k/\k<=7)↔y.kind=10)/\(¬k=9\/y.kind=1))/\((¬2<=k\/¬k<=7)\/Zs3 (k - 2) (y.words.getD 0 0)=true):=by
     unfold Z1m
     by_cases hk:2<=k/\k<=7
     .rw [if_pos hk]
      (simp only [iB,vcS])
      constructor
      .rintro ⟨h4,h5⟩;exact ⟨⟨V0,V0⟩,.inr h5⟩
      .rintro ⟨⟨h4,_⟩,h5⟩
       have:=al V0
       exact ⟨V0,by rcases h5 with h5 | h5;omega;exact h5⟩
     .rw [if_neg hk]
      by_cases h9:k=9
      .rw [if_pos h9]
       (simp only [iB,vcS])
       constructor
       .intro h4;exact ⟨⟨V0,V0⟩,.inl V0⟩
       .rintro ⟨⟨_,h4⟩,_⟩;omega
      .rw [if_neg h9]
       (simp only [iB,vcS])
       constructor
       .intro h4;exact ⟨⟨V0,V0⟩,.inl V0⟩
       .rintro ⟨⟨h4,_⟩,_⟩;omega
    have ah:∀ (h4:(((bif decide (2<=k) then decide (k<=7) else false)=(y.kind==10)/\(¬k=9\/y.kind=1))/\2<=k/\k<=7)),y.words.length=1:=fun h4=> (al ((ab.1 h4.1.1).1 h4.2)).1
    simp only [Int.toNat_zero]
    refine ⟨fun a b=> ⟨a,b⟩,fun h4=> by unfold InR;omega,fun h4=> by have:=ah h4;omega,fun h4=> Zto hr (by have:=ah h4;omega),fun a b=> ⟨a,b⟩,fun h4=> ZG rfl ?_,fun h4=> ⟨V4,i+1,rfl,⟨V0,V0,?_⟩,V0⟩⟩
    .have ax:Z1m k y=false:=by
      cases hkk:Z1m k y with
      | false=> rfl
      | true=>
       exfalso
       obtain ⟨h5,h6⟩:=ao.1 hkk
       rcases h4 with h4 | ⟨h4,h7⟩
       .rcases h4 with h4 | h4
        .exact h4 (ab.2 h5.1)
        .omega
       .rcases h6 with h6 | h6
        .omega
        .rw [h7] at h6;cases h6
     rw [h3,ax];try rfl
    .rw [h3,ao.2 ⟨⟨ab.1 h4.1.1,h4.1.2⟩,h4.2⟩,hf];try rfl
  .rw [QH V0] at h3
   simp only [Ys] at h3
   exact ZG rfl h3.symm
theorem ZsA{n:Int}(h0:0<=n)(h1:n < 18446744073709551616):IntKind.wrap .u64 n=n:=by
 simp [IntKind.wrap,IntKind.signed,IntKind.bits];omega
theorem Zor{n:Int}(h0:0<=n)(h1:n < 256):IntKind.wrap .u8 n=n:=by
 simp [IntKind.wrap,IntKind.signed,IntKind.bits];omega
theorem ZAz{i:Int}{j:Nat}{v:Int}{F G:Nat->Int}(hi:0<=i)(hv:v=F i.toNat):JL i j v (if (j:Int) < i then F j else G j)=if (j:Int) < i+1 then F j else G j:=by
 unfold JL
 grind
theorem Z5h(w:Int)(i:Nat):0<=Zl w i/\Zl w i < 256:=by
 unfold Zl
 omega
theorem Zca(a b m:Int)(i:Nat):0<=Z26 a b m i/\Z26 a b m i < 256:=by
 unfold Z26
 split
 .exact Z5h _ _
 .exact Z5h _ _
theorem Z4s{α:Type}{l:List α}{i:Nat}(h:i < l.length)(d:α):l.drop i=l.getD i d ::l.drop (i+1):=by
 simp_all
theorem Jj{α:Type}{l:List α}{i:Int}(h0:0<=i)(h:i < l.length)(d:α):l.drop i.toNat=l.getD i.toNat d ::l.drop (i+1).toNat:=by
 rw [Z4s V0 d,show i.toNat+1=(i+1).toNat by omega]
theorem Zi{α:Type}{l:List α}{i:Nat}(h:i < l.length)(d:α):l.getD i d∈l:=by
 grind
theorem ZM(t:Tree):1<=mass t:=by cases t;simp only [mass];omega
theorem Zb7(e:Edit):1<=Zc e:=by cases e;simp only [Zc];omega
theorem Z6Q(k:Kid):Ye k=Zc k.e:=by cases k;rfl
theorem YQ(o:Op):Zs o=Z6 o.l+Zc o.e:=by cases o;rfl
theorem Y3:∀ {ks:List Tree} {t:Tree},t∈ks->mass t<=Z6 ks
 | x ::r,t,h=> by
  simp only [Z6]
  rcases Q9.1 h with rfl | h
  .omega
  .have:=Y3 h;omega
theorem Z2U:∀ {ks:List Kid} {k:Kid},k∈ks->Zc k.e<=Zo ks
 | x ::r,k,h=> by
  simp only [Zo,Z6Q]
  rcases Q9.1 h with rfl | h
  .omega
  .have:=Z2U h;omega
theorem Z0m:∀ {os:List Op} {o:Op},o∈os->Zs o<=Ze os
 | x ::r,o,h=> by
  simp only [Ze]
  rcases Q9.1 h with rfl | h
  .omega
  .have:=Z0m h;omega
theorem JT:∀ (ks:List Kid),ks.length<=Zo ks
 | []=> by simp [Zo]
 | k ::r=> by
  have:=JT r
  have:=Zb7 k.e
  simp only [Zo,Z6Q,Qd]
  omega
theorem YO:∀ (os:List Op),os.length<=Ze os
 | []=> by simp [Ze]
 | o ::r=> by
  have:=YO r
  have:=Zb7 o.e
  simp only [Ze,YQ,Qd]
  omega
theorem J2:∀ {ks:List Tree} {t:Tree},Yd ks->t∈ks->rng t
 | x ::r,t,hs,h=> by
  simp only [Yd] at hs
  rcases Q9.1 h with rfl | h
  .exact hs.1
  .exact J2 hs.2 h
theorem Z0u:∀ {ks:List Kid} {k:Kid},Z1h ks->k∈ks->InR k.at_/\Yi k.e
 | x ::r,k,hs,h=> by
  simp only [Z1h] at hs
  rcases Q9.1 h with rfl | h
  .have:=hs.1;obtain ⟨a,e⟩:=k;exact this
  .exact Z0u hs.2 h
theorem Z3X:∀ {os:List Op} {o:Op},Z0k os->o∈os->YV o
 | x ::r,o,hs,h=> by
  simp only [Z0k] at hs
  rcases Q9.1 h with rfl | h
  .exact hs.1
  .exact Z3X hs.2 h
theorem Z1T{o:Op}(h:YV o):InR o.kind/\InR o.n/\Yd o.l/\Yi o.e:=by obtain ⟨a,b,c,e⟩:=o;exact h
theorem Z14(e:Edit):mass e.old+mass e.new+e.words.length+e.ops.length+Zo e.kids+Ze e.ops < Zc e:=by
 obtain ⟨k,o,n,w,ks,l,os⟩:=e
 simp only [Zc,Edit.old_mk,Edit.new_mk,Edit.words_mk,Edit.ops_mk,Edit.kids_mk]
 omega
theorem Zrg(e:Edit)(d:Int):Z7 e d=
  if d=0\/e.kind < 0\/3 < e.kind then false
  else if (e.kind≠1/\¬(Z2j e.old=true/\Z2j e.new=true))\/(e.kind≠2/\¬(e.words.length=0/\e.kids.length=0))\/(e.kind≠3/\(e.list≠0\/e.ops.length≠0)) then false
  else if e.kind=1 then Zh e.old (dT d) && Zh e.new (dT d) && decide (e.old.kind≠10/\e.new.kind≠10)
  else YA (-1) e.words && ZJ (-1) e.kids (d - 1) && decide (¬(e.kind=3/\(e.list < 2\/9 < e.list))) && ZO e.list e.ops (d - 1) && decide (Z2s e.ops 0 < 1048576/\Z2r e.ops 0 < 1048576):=by
 obtain ⟨k,o,nw,w,ks,l,os⟩:=e;rfl
theorem ZbR(last:Int)(k:Kid)(d:Int):J3 last k d=(decide (last < k.at_/\k.at_<=65534/\k.e.kind≠0) && Z7 k.e d):=by cases k;rfl
theorem Z1E(list:Int)(o:Op)(d:Int):Za list o d=
  if o.kind=0 then decide (1<=o.n/\o.n<=1048576/\o.l.length=0) && Z5L o.e
  else if o.n≠0\/o.kind < 0\/3 < o.kind then false
  else if o.kind < 3 then YB (dT d) list o.l && decide (0 < o.l.length) && Z5L o.e
  else decide (o.l.length=0/\o.e.kind≠0/\7 < list) && Z7 o.e d && decide (list=8\/o.e.kind=2\/o.e.kind=1/\o.e.old.kind=1/\o.e.new.kind=1):=by
 cases o;rfl
theorem Zrf{list:Int}{o:Op}{d:Int}(h:Za list o d=true):0<=o.n/\o.n<=1048576:=by
 rw [Z1E] at h
 grind
theorem rightOs_mem{list d:Int}:∀ {os:List Op} {o:Op},ZO list os d=true->o∈os->Za list o d=true
 | x ::r,o,h,hm=> by
  simp only [ZO,Q2] at h
  rcases Q9.1 hm with rfl | hm
  .exact h.1
  .exact rightOs_mem h.2 hm
theorem ZbQ{d:Int}:∀ {ks:List Kid} {last:Int} {k:Kid},ZJ last ks d=true->k∈ks->Z7 k.e d=true/\k.e.kind≠0
 | x ::r,last,k,h,hm=> by
  simp only [ZJ,Q2] at h
  rcases Q9.1 hm with rfl | hm
  .have:=h.1;rw [ZbR] at this;grind
  .exact ZbQ h.2 hm
theorem Zi0{e:Edit}(h:Yi e):InR e.kind/\rng e.old/\rng e.new/\(∀ x∈e.words,J7 x)/\InR e.list/\Z1h e.kids/\Z0k e.ops:=by
 obtain ⟨k,o,n,w,ks,l,os⟩:=e;exact h
theorem Zgs{e:Edit}{d:Int}(h:Z7 e d=true):(∀ k∈e.kids,Z7 k.e (d - 1)=true/\k.e.kind≠0)/\∀ o∈e.ops,Za e.list o (d - 1)=true:=by
 rw [Zrg] at h
 split at h
 .cases h
 .split at h
  .cases h
  .rename_i h1 h2
   split at h
   .grind
   .simp only [Q2] at h
    exact ⟨fun k hk=> ZbQ h.1.1.1.2 hk,fun o ho=> rightOs_mem h.1.2 ho⟩
theorem Ztl{e:Edit}(h:Z5L e=true):e.kind=0/\Z2j e.old=true/\Z2j e.new=true/\e.words=[]/\e.kids=[]/\e.ops=[]/\e.list=0:=by
 simp only [Z5L,Q2,decide_eq_true_eq] at h
 grind
end Go.AM.YtnfbomhidainjaaGreat
namespace Go.AM
noncomputable def eqX{α:Type}(a b:α):Bool:=@decide (a=b) (Classical.propDecidable _)
theorem Z3y{α:Type}{a b:α}:eqX a b=true↔a=b:=by unfold eqX;grind
@[simp] theorem ZHy {α:Type} (a:α):eqX a a=true:=Z3y.2 rfl
def ZK(o:Op)(n:Int):Op:=if Z5 o<=n then o else if o.kind=0 then ⟨o.kind,n,o.l,o.e⟩ else ⟨o.kind,o.n,o.l.take n.toNat,o.e⟩
def Z0t(o:Op)(n:Int):Op:=if o.kind=0 then ⟨o.kind,o.n - n,o.l,o.e⟩ else ⟨o.kind,o.n,o.l.drop n.toNat,o.e⟩
def Y8(l:List Op)(n:Int):List Op:=if Z5 (l.getD 0 Op.nil)<=n then l.drop 1 else Z0t (l.getD 0 Op.nil) n ::l.drop 1
def sgl(a:Int)(l:List Op):Bool:=decide (l.length≠0/\(l.getD 0 Op.nil).kind=a)
def YW(o:Op):Prop:=
 (o.kind=0/\o.l=[]/\(1<=o.n/\o.n<=1048576)/\o.e=Edit.nil)\/((o.kind=1\/o.kind=2)/\o.n=0/\o.l≠[]/\o.e=Edit.nil)\/(o.kind=3/\o.n=0/\o.l=[])
def ZaZ(l:List Op):Prop:=(∀ o∈l,YW o)/\Ze l<=20000000000
theorem Je(l:List Op)(n:Int)(h:l.length≠0):(Y8 l n).length<=l.length:=by
 unfold Y8
 grind
theorem Jd(l:List Op)(n:Int)(h:l.length≠0)(hn:Z5 (l.getD 0 Op.nil)<=n):(Y8 l n).length < l.length:=by
 unfold Y8
 grind
def Yf(ap aq:Int)(p q:List Op)(out:List Piece):List Piece × Bool × List Op × List Op:=
 if h:sgl ap p=true then Yf ap aq (p.drop 1) q (out++[⟨1,p.getD 0 Op.nil,Op.nil⟩])
 else if h2:sgl aq q=true then Yf ap aq p (q.drop 1) (out++[⟨2,Op.nil,q.getD 0 Op.nil⟩])
 else if h3:p.length=0\/q.length=0 then
  if decide (p.length=0)=decide (q.length=0) then (out,true,p,q) else ([],false,p,q)
 else
  Yf ap aq (Y8 p (min (Z5 (p.getD 0 Op.nil)) (Z5 (q.getD 0 Op.nil)))) (Y8 q (min (Z5 (p.getD 0 Op.nil)) (Z5 (q.getD 0 Op.nil))))
   (out++[⟨0,ZK (p.getD 0 Op.nil) (min (Z5 (p.getD 0 Op.nil)) (Z5 (q.getD 0 Op.nil))),ZK (q.getD 0 Op.nil) (min (Z5 (p.getD 0 Op.nil)) (Z5 (q.getD 0 Op.nil)))⟩])
termination_by p.length+q.length
decreasing_by
 .have:=(of_decide_eq_true h).1;grind
 .have:=(of_decide_eq_true h2).1;grind
 .rcases Int.le_total (Z5 (p.getD 0 Op.nil)) (Z5 (q.getD 0 Op.nil)) with hm | hm
  .have a:=Jd p _ V0 (Xe (Z5 (p.getD 0 Op.nil)))
   have b:=Je q (Z5 (p.getD 0 Op.nil)) V0
   grind
  .have a:=Jd q _ V0 (Xe (Z5 (q.getD 0 Op.nil)))
   have b:=Je p (Z5 (q.getD 0 Op.nil)) V0
   grind
def ZhG(i alone:Int)(o:Op):List AUnit:=
 (if o.kind=0 then List.replicate o.n.toNat ⟨i,0,Tree.nil,Edit.nil,false⟩ else [])
  ++(o.l.map (fun t=> ⟨i,o.kind,t,Edit.nil,decide (o.kind=alone)⟩)
  ++(if o.kind=3 then [⟨i,3,Tree.nil,o.e,false⟩] else []))
def opU(u:AUnit):Op:=if u.kind=0 then ⟨0,1,[],Edit.nil⟩ else if u.kind=3 then ⟨3,0,[],u.e⟩ else ⟨u.kind,0,[u.t],Edit.nil⟩
end Go.AM
namespace Go.AM.YtnfbomhidainjaaGreat
open Go.AM Go.Proofs
noncomputable section
def ZwM:ArgL (Op × Unit):=(.cons (aEl .op) .nil)
def ZbW(a:Op × Unit):Prop:=Zs a.1<=20000000000/\0<=OpOf.n a.1/\OpOf.n a.1<=1048576
def ZBi(a:Op × Unit):V U:= .c (ci (Z5 a.1))
def Z5E:Fs U:=fs ZwM (fun a=> [ZbW a]) ZBi
def Zjg:ArgM ((List Op × Int × Unit) × Unit):=(.obj 0 (.cons (cSl .op) (.cons (ZlE .i64) .nil)) .nil)
def Z3K(a:(List Op × Int × Unit) × Unit):Prop:=(a.1.1).length<=120000000000
def Zu8(a:(List Op × Int × Unit) × Unit):V U:= .c (.bool (decide ((a.1.1).length=0)))
def ZoS(a:(List Op × Int × Unit) × Unit):List (List (C U)):=[[sU .op a.1.1 .unk,ci a.1.2.1]]
def Z3g:Fs U:=fsX Zjg (fun a=> [Z3K a]) Zu8 ZoS
def ZBj(a:(List Op × Int × Unit) × Unit):V U:= .c (.bool (sgl a.1.2.1 a.1.1))
def Zdx:Fs U:=fsX Zjg (fun a=> [Z3K a]) ZBj ZoS
def Zo7:ArgM ((List Op × Int × Unit) × Int × Unit):=(.obj 0 (.cons (cSl .op) (.cons (ZlE .i64) .nil)) (.cons (Y6 .i64) .nil))
def Zeo(a:(List Op × Int × Unit) × Int × Unit):Prop:=ZaZ a.1.1/\(a.1.1).length≠0/\1<=a.2.1/\a.2.1<=120000000000
def Zk5(a:(List Op × Int × Unit) × Int × Unit):V U:= .agg (enc .op (ZK ((a.1.1).getD 0 Op.nil) a.2.1))
def Zeg(a:(List Op × Int × Unit) × Int × Unit):List (List (C U)):=[[sU .op (Y8 a.1.1 a.2.1) .unk,ci a.1.2.1]]
def Zdw:Fs U:=fsX Zo7 (fun a=> [Zeo a]) Zk5 Zeg
def Zob:ArgM ((List Op × Int × Unit) × (List Op × Int × Unit) × Unit):=(.obj 0 (.cons (cSl .op) (.cons (ZlE .i64) .nil)) (.obj 1 (.cons (cSl .op) (.cons (ZlE .i64) .nil)) .nil))
def Zpe(a:(List Op × Int × Unit) × (List Op × Int × Unit) × Unit):Prop:=ZaZ a.1.1/\ZaZ a.2.1.1
def ZoY(a:(List Op × Int × Unit) × (List Op × Int × Unit) × Unit):V U:= .tup [(false,[sU .piece ((Yf a.1.2.1 a.2.1.2.1 a.1.1 a.2.1.1 []).1) .unk]),(false,[.bool ((Yf a.1.2.1 a.2.1.2.1 a.1.1 a.2.1.1 []).2.1)])]
def Zi5(a:(List Op × Int × Unit) × (List Op × Int × Unit) × Unit):List (List (C U)):=[[sU .op ((Yf a.1.2.1 a.2.1.2.1 a.1.1 a.2.1.1 []).2.2.1) .unk,ci a.1.2.1],[sU .op ((Yf a.1.2.1 a.2.1.2.1 a.1.1 a.2.1.1 []).2.2.2) .unk,ci a.2.1.2.1]]
def Zay:Fs U:=fsX Zob (fun a=> [Zpe a]) ZoY Zi5
def Zx4:ArgL (List Op × List Op × Unit):=(.cons (aSl .op) (.cons (aSl .op) .nil))
def Zun(a:List Op × List Op × Unit):Prop:=ZaZ a.1/\ZaZ a.2.1
def ZBx(a:List Op × List Op × Unit):V U:= .tup [(false,[sU .piece ((Yf 1 2 a.1 a.2.1 []).1) .unk]),(false,[.bool ((Yf 1 2 a.1 a.2.1 []).2.1)])]
def Z4K:Fs U:=fs Zx4 (fun a=> [Zun a]) ZBx
def ZDF:Zb U:=lvl [([1],[1]),([1,5],[1]),([2],[]),([2],[])]
abbrev A99(p:List Nat):=AW (Z1 ZnF) Tryz.f99 ZDF p
theorem ZIl(o:Op)(Q:QT)(h:(iB (o.kind==3) ((Q .ret (L2 [pI 2 1] []))) ((InR (o.n+(o.l.length:Int)))/\(Q .ret (L2 [pI 2 (o.n+(o.l.length:Int))] []))))):
  A99 [] (L2 [(0,.agg (enc .op o))] []) Q:=
 Eq.mpr V5 h
def ZFd(o:Op):Prop:=AW (Z1 ZnF) Tryz.f99 ZDF [] (Zf (ZwM.can (o,())) []) (EQ Tryz.f99 (ZBi (o,())) [])
theorem ZCM(hb:∀ (o:Op) (_:Unit),ZbW (o,())->ZFd o):CT 99 Z5E:=
 Z2 (l:=[]) Zd rfl trivial ZDF Tryz.func99 rfl rfl 1 (fun _=> rfl) V2 (fun ⟨o,_⟩=> hb o ())
def Zvn:Zb U:=lvk [([0],[((.x 0),[])]),([2],[((.x 0),[])])]
abbrev ZJT(p:List Nat):=AW (Z1 ZnF) Tryz.f100 Zvn p
theorem ZH3(l:List Op)(alone:Int)(Q:QT)(h:(Q .ret (L2 [pB 2 (((l.length:Int):Int)==0)] [(.x 0,[sU .op l .unk,ci alone])]))):
  ZJT [] (L2 [(0,.ptr (.x 0) 0)] [(.x 0,[sU .op l .unk,ci alone])]) Q:=
 Eq.mpr V5 h
def ZBa(l:List Op)(alone:Int):Prop:=AW (Z1 ZnF) Tryz.f100 Zvn [] (Zf (Zjg.can ((l,alone,()),())) (Zjg.canX ((l,alone,()),()))) (EQ Tryz.f100 (Zu8 ((l,alone,()),())) (ZoS ((l,alone,()),())))
theorem ZzJ(hb:∀ (l:List Op) (alone:Int) (_:Unit),Z3K ((l,alone,()),())->ZBa l alone):CT 100 Z3g:=
 ZN (l:=[]) Zd rfl trivial Zvn Tryz.func100 rfl rfl 1 (fun _=> rfl) V2 (fun ⟨⟨l,alone,_⟩,_⟩=> hb l alone ())
def ZvD:List (FuncId × Fs U):=[(100,Z3g)]
abbrev A97(p:List Nat):=AW (Z1 ZvD) Tryz.f97 Zvn p
theorem ZIn(l:List Op)(alone:Int)(Q:QT)(h:let z0:= !(decide (l.length=0));((Z3K ((l,alone,()),()))/\(Tt z0)/\(Tt z0)/\(Tt z0)/\(Tt z0)/\(z0=true->(0:Int)<=0/\0 < (l.length:Int))/\(Tt z0)/\(Tt z0)/\(Tt z0)/\(Tt z0)/\(Tt z0)/\(Tt z0)/\(Tt z0)/\(Tt z0)/\(Q .ret (L2 [(2,.c (.bool (bif z0 then (((OpOf.kind (List.getD l (Int.toNat 0) Op.nil)):Int)==alone) else false)))] [(.x 0,[sU .op l .unk,ci alone])])))):
  A97 [] (L2 [(0,.ptr (.x 0) 0)] [(.x 0,[sU .op l .unk,ci alone])]) Q:=
 Eq.mpr V5 h
def ZFf(l:List Op)(alone:Int):Prop:=AW (Z1 ZvD) Tryz.f97 Zvn [] (Zf (Zjg.can ((l,alone,()),())) (Zjg.canX ((l,alone,()),()))) (EQ Tryz.f97 (ZBj ((l,alone,()),())) (ZoS ((l,alone,()),())))
theorem ZCO(Zsf:CT 100 Z3g)(hb:∀ (l:List Op) (alone:Int) (_:Unit),Z3K ((l,alone,()),())->ZFf l alone):CT 97 Zdx:=
 ZN (l:=[(100,Z3g)]) Zd rfl (⟨Zsf,trivial⟩) Zvn Tryz.func97 rfl rfl 1 (fun _=> rfl) V2 (fun ⟨⟨l,alone,_⟩,_⟩=> hb l alone ())
def ZvC:List (FuncId × Fs U):=[(99,Z5E)]
def ZDG:Zb U:=lvk [([0,1,4],[4,((.x 0),[])]),([0,1,4,5],[4,5,((.x 0),[])]),([0,1,4,5,17],[4,5,((.x 0),[])]),([4,5],[4,5,((.x 0),[])]),([4],[4,((.x 0),[])]),([0,1,4,5,6,7],[4,5,6,7,((.x 0),[])]),([0,1,4,5,6,7,31],[4,5,6,7,((.x 0),[])]),([0,4,6,7],[4,6,7,((.x 0),[])]),([0,4,6,7],[4,6,7,((.x 0),[])]),([4,6],[4,6,((.x 0),[])]),([4],[4,((.x 0),[])])]
abbrev A98(p:List Nat):=AW (Z1 ZvC) Tryz.f98 ZDG p
theorem ZIm(l:List Op)(alone n:Int)(Q:QT)(h:∀ d,d=(List.getD l (Int.toNat 0) Op.nil)->∀ ab,ab=d->∀ aa,aa=(d.e)->let z0:=List.drop (Int.toNat 1) l;(((0:Int)<=0/\0 < (l.length:Int))/\((ZbW (ab,()))/\(iB (decide (((Z5 ab):Int)<=n)) (((0:Int)<=1/\1<=(l.length:Int))/\(Q .ret (L2 [pL 4] [(.loc 4,(enc .op d)),(.x 0,[sU .op z0 .unk,ci alone])]))) ((iB (d.kind==0) ((InR (d.n - n))/\(((0:Int)<=1/\1<=(l.length:Int))/\((([(OpOf.mk d.kind (d.n - n) d.l aa)]).length+z0.length)*240<=140737488355328)/\(Q .ret (L2 [pL 4] [(.loc 4,([ci d.kind,ci n,sU .tree d.l .unk]++enc .edit d.e)),(.x 0,[sU .op (([(OpOf.mk d.kind (d.n - n) d.l aa)])++z0) (.own (.x 0 0)),ci alone])])))) (((0:Int)<=n/\n<=(d.l.length:Int))/\(n=n)/\((0:Int)<=n/\n<=(d.l.length:Int))/\(((0:Int)<=1/\1<=(l.length:Int))/\((([(OpOf.mk d.kind d.n (List.drop n.toNat d.l) aa)]).length+z0.length)*240<=140737488355328)/\(Q .ret (L2 [pL 4] [(.loc 4,([ci d.kind,ci d.n,sU .tree (List.take n.toNat d.l) .full]++enc .edit d.e)),(.x 0,[sU .op (([(OpOf.mk d.kind d.n (List.drop n.toNat d.l) aa)])++z0) (.own (.x 0 0)),ci alone])])))))))))):
  A98 [] (L2 [(0,.ptr (.x 0) 0),pI 1 n] [(.x 0,[sU .op l .unk,ci alone])]) Q:=
 Eq.mpr V5 (h _ rfl _ (Z0v _) _ (Zg _))
def ZFe(l:List Op)(alone n:Int):Prop:=AW (Z1 ZvC) Tryz.f98 ZDG [] (Zf (Zo7.can ((l,alone,()),n,())) (Zo7.canX ((l,alone,()),n,()))) (EQ Tryz.f98 (Zk5 ((l,alone,()),n,())) (Zeg ((l,alone,()),n,())))
theorem ZCN(c99:CT 99 Z5E)(hb:∀ (l:List Op) (alone:Int) (n:Int) (_:Unit),Zeo ((l,alone,()),n,())->ZFe l alone n):CT 98 Zdw:=
 ZN (l:=[(99,Z5E)]) Zd rfl (⟨c99,trivial⟩) ZDG Tryz.func98 rfl rfl 2 (fun _=> rfl) V2 (fun ⟨⟨l,alone,_⟩,n,_⟩=> hb l alone n ())
def ZvL:List (FuncId × Fs U):=[(97,Zdx),(98,Zdw),(99,Z5E),(100,Z3g)]
def ZDP:Zb U:=lvk [([0,1],[((.x 0),[]),((.x 1),[])]),([0,1,(6,[.own .piece])],[((.x 0),[]),((.x 1),[])]),([0,1,6,7],[((.x 0),[]),((.x 1),[])]),([0,1,(6,[.own .piece])],[((.x 0),[]),((.x 1),[])]),([0,1,6,33],[((.x 0),[]),((.x 1),[])]),([0,1,(6,[.own .piece])],[((.x 0),[]),((.x 1),[])]),([0,1,6,49],[((.x 0),[]),((.x 1),[])]),([0,1,(6,[.own .piece])],[((.x 0),[]),((.x 1),[])]),([0,1,6,65],[((.x 0),[]),((.x 1),[])]),([6,76],[((.x 0),[]),((.x 1),[])]),([4,5],[((.x 0),[]),((.x 1),[])]),([4,5],[((.x 0),[]),((.x 1),[])])]
def Z4g(pl:List Op)(pa:Int)(ql:List Op)(qa:Int)(mx0_0 mx1_0:List Op)(mx1_1:Int)(d:List Piece):LSt U:=(L2 [(0,.ptr (.x 0) 0),(1,.ptr (.x 1) 0),(6,.c (sU .piece d (.own (.e 6 0))))] [(.x 0,[sU .op mx0_0 .unk,ci pa]),(.x 1,[sU .op mx1_0 .unk,ci mx1_1])])
abbrev A80(p:List Nat):=AW (Z1 ZvL) Tryz.f80 ZDP p
theorem ZIA(pl:List Op)(pa:Int)(ql:List Op)(qa:Int)(Q:QT)(h:(Zk (A80 [1,1,0,0]) (Z4g pl pa ql qa pl ql qa []) (xB 0 Q))):
  A80 [] (L2 [(0,.ptr (.x 0) 0),(1,.ptr (.x 1) 0)] [(.x 0,[sU .op pl .unk,ci pa]),(.x 1,[sU .op ql .unk,ci qa])]) Q:=
 Eq.mpr V5 h
theorem ZxX(pl:List Op)(pa:Int)(ql:List Op)(qa:Int)(mx0_0 mx1_0:List Op)(mx1_1:Int)(x6:List Piece)(N0:NT)(Q:QT)(h:∀ al,al=(List.getD mx0_0 (Int.toNat 0) Op.nil)->∀ aj,aj=(List.getD mx1_0 (Int.toNat 0) Op.nil)->∀ ai,ai=(Edit.mk 0 (Tree.mk 0 [] []) (Tree.mk 0 [] []) [] [] 0 [])->∀ ak,ak=(List.getD (bif (!(decide (mx0_0.length=0))) then mx1_0 else mx1_0) (Int.toNat 0) Op.nil)->∀ d,d=al->∀ af,af=aj->∀ aa,aa=ak->∀ am,am=(ZK (mx0_0.getD 0 Op.nil) (Z5 d))->∀ ao,ao=(ZK (mx1_0.getD 0 Op.nil) (Z5 af))->∀ ab,ab=(ZK (mx0_0.getD 0 Op.nil) (if ((Z5 aa):Int) < (Z5 d) then (Z5 aa) else (Z5 d)))->∀ ae,ae=(ZK ((bif (!(decide (mx0_0.length=0))) then mx1_0 else mx1_0).getD 0 Op.nil) (if ((Z5 aa):Int) < (Z5 d) then (Z5 aa) else (Z5 d)))->let z5:=Z3K ((mx0_0,pa,()),());let z4:=Piece.mk 2 (OpOf.mk 0 0 [] ai) ao;let z3:=Piece.mk 1 am (OpOf.mk 0 0 [] ai);let z0:=decide (mx0_0.length=0);let z2:=bif (!z0) then mx1_1 else mx1_1;let z1:=bif (!z0) then mx1_0 else mx1_0;(Z3K ((mx0_0,pa,()),()))/\(iB (sgl pa mx0_0) (((0:Int)<=0/\0 < (mx0_0.length:Int))/\(ZbW (d,()))/\(Zeo ((mx0_0,pa,()),(Z5 d),()))/\((x6.length+([z3]).length)*488<=140737488355328)/\(N0 (Z4g pl pa ql qa (Y8 mx0_0 (Z5 d)) mx1_0 mx1_1 (x6++([z3]))))) ((Z3K ((mx1_0,mx1_1,()),()))/\(iB (sgl mx1_1 mx1_0) (((0:Int)<=0/\0 < (mx1_0.length:Int))/\(ZbW (af,()))/\(Zeo ((mx1_0,mx1_1,()),(Z5 af),()))/\((x6.length+([z4]).length)*488<=140737488355328)/\(N0 (Z4g pl pa ql qa mx0_0 (Y8 mx1_0 (Z5 af)) mx1_1 (x6++([z4]))))) (z5/\(Tt (!z0))/\((!z0)=true->Z3K ((mx1_0,mx1_1,()),()))/\(z0=false->(!z0)=true)/\(iB (bif z0 then true else (decide (mx1_0.length=0))) (z5/\(Z3K ((z1,z2,()),()))/\(iB (z0 !=(decide (z1.length=0))) ((Q .ret (L2 [(4,.c (.nils)),pB 5 false] [(.x 0,[sU .op mx0_0 .unk,ci pa]),(.x 1,[sU .op z1 .unk,ci z2])]))) ((Q .ret (L2 [(4,.c (sU .piece x6 (.own (.e 4 0)))),pB 5 true] [(.x 0,[sU .op mx0_0 .unk,ci pa]),(.x 1,[sU .op z1 .unk,ci z2])]))))) (((0:Int)<=0/\0 < (mx0_0.length:Int))/\(ZbW (d,()))/\((0:Int)<=0/\0 < (z1.length:Int))/\(ZbW (aa,()))/\((Zeo ((mx0_0,pa,()),(if ((Z5 aa):Int) < (Z5 d) then (Z5 aa) else (Z5 d)),()))/\(Zeo ((z1,z2,()),(if ((Z5 aa):Int) < (Z5 d) then (Z5 aa) else (Z5 d)),()))/\((x6.length+([(Piece.mk 0 ab ae)]).length)*488<=140737488355328)/\(N0 (Z4g pl pa ql qa (Y8 mx0_0 (if ((Z5 aa):Int) < (Z5 d) then (Z5 aa) else (Z5 d))) (Y8 z1 (if ((Z5 aa):Int) < (Z5 d) then (Z5 aa) else (Z5 d))) z2 (x6++([(Piece.mk 0 ab ae)])))))))))))):
  A80 [1,1,0,0] (Z4g pl pa ql qa mx0_0 mx1_0 mx1_1 x6) (xT N0 (xB 0 Q)):=
 Eq.mpr V5 (h _ rfl _ rfl _ rfl _ rfl _ (Z0v _) _ (Z0v _) _ (Z0v _) _ (Z0v _) _ (Z0v _) _ (Z0v _) _ (Z0v _))
def ZFs(pl:List Op)(pa:Int)(ql:List Op)(qa:Int):Prop:=AW (Z1 ZvL) Tryz.f80 ZDP [] (Zf (Zob.can ((pl,pa,()),(ql,qa,()),())) (Zob.canX ((pl,pa,()),(ql,qa,()),()))) (EQ Tryz.f80 (ZoY ((pl,pa,()),(ql,qa,()),())) (Zi5 ((pl,pa,()),(ql,qa,()),())))
theorem ZD0(c97:CT 97 Zdx)(c98:CT 98 Zdw)(c99:CT 99 Z5E)(Zsf:CT 100 Z3g)(hb:∀ (pl:List Op) (pa:Int) (ql:List Op) (d:Int) (_:Unit),Zpe ((pl,pa,()),(ql,d,()),())->ZFs pl pa ql d):CT 80 Zay:=
 ZN (l:=[(97,Zdx),(98,Zdw),(99,Z5E),(100,Z3g)]) Zd rfl (⟨c97,c98,c99,Zsf,trivial⟩) ZDP Tryz.func80 rfl rfl 2 (fun _=> rfl) V2 (fun ⟨⟨pl,pa,_⟩,⟨ql,d,_⟩,_⟩=> hb pl pa ql d ())
def ZvV:List (FuncId × Fs U):=[(80,Zay)]
def ZDZ:Zb U:=lvl [([0,1],[]),([4,5],[])]
abbrev A56(p:List Nat):=AW (Z1 ZvV) Tryz.f56 ZDZ p
theorem ZIS(p q:List Op)(Q:QT)(h:((Zpe ((p,1,()),(q,2,()),()))/\(Q .ret (L2 [(4,.c (sU .piece ((Yf 1 2 p q []).1) .unk)),pB 5 ((Yf 1 2 p q []).2.1)] [])))):
  A56 [] (L2 [(0,.c (sU .op p .unk)),(1,.c (sU .op q .unk))] []) Q:=
 Eq.mpr V5 h
def ZFK(p q:List Op):Prop:=AW (Z1 ZvV) Tryz.f56 ZDZ [] (Zf (Zx4.can (p,q,())) []) (EQ Tryz.f56 (ZBx (p,q,())) [])
theorem ZDg(c80:CT 80 Zay)(hb:∀ (p:List Op) (q:List Op) (_:Unit),Zun (p,q,())->ZFK p q):CT 56 Z4K:=
 Z2 (l:=[(80,Zay)]) Zd rfl (⟨c80,trivial⟩) ZDZ Tryz.func56 rfl rfl 2 (fun _=> rfl) V2 (fun ⟨p,q,_⟩=> hb p q ())
end
end Go.AM.YtnfbomhidainjaaGreat
