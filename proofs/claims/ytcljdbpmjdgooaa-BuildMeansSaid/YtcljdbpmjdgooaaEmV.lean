import Derived.Test.YtcljdbpmjdgooaaEmU
set_option linter.unusedSimpArgs false
set_option linter.unusedVariables false
namespace Go.AM
variable {P:Program} {cfg:Cfg U}
structure ArgL (α:Type) where
 get:List (V U)->Option α
 can:α->List (V U)
 ok:∀ cfg:Cfg U,cfg.enc=enc->∀ xs a,get xs=some a->xs.length=(can a).length/\∀ (j:Nat) x y,xs[j]?=some x->(can a)[j]?=some y->Z9l cfg x y
structure Arg (α:Type) where
 get:V U->Option α
 can:α->V U
 ok:∀ cfg:Cfg U,cfg.enc=enc->∀ x a,get x=some a->Z9l cfg x (can a)
def ArgL.nil:ArgL Unit:=
 {get:=fun xs=> match xs with
   | []=> some ()
   | _ ::_=> none
  can:=fun _=> []
  ok:=by
   grind }
def ArgL.cons{α β:Type}(A:Arg α)(B:ArgL β):ArgL (α × β):=
 {get:=fun xs=> match xs with
   | x ::r=> match A.get x with
    | some a=> match B.get r with
     | some b=> some (a,b)
     | none=> none
    | none=> none
   | []=> none
  can:=fun p=> A.can p.1 ::B.can p.2
  ok:=by
   intro cfg hc xs p h
   cases xs with
   | nil=> cases h
   | cons x r=>
    simp only at h
    split at h
    .rename_i a ha
     split at h
     .rename_i b hb
      cases h
      obtain ⟨h1,h2⟩:=B.ok cfg hc r b hb
      refine ⟨by simp [h1],fun j x' y hx hy=> ?_⟩
      cases j with
      | zero=> simp at hx hy;subst hx hy;exact A.ok cfg hc x a ha
      | succ j=> grind
     .cases h
    .cases h }
theorem Z6e{a b:C U}(h:Wk a b):Z9l cfg (.c a) (.c b):=by
 intro g live v hr
 refine ⟨hr.1.wk h,?_⟩
 cases h with
 | snil=> trivial
 | slice=> trivial
 | _=> exact hr.2
theorem Ze5{a b:List (C U)}(h:WkL a b):Z9l cfg (.agg a) (.agg b):=by
 intro g live v hr
 obtain ⟨vs,rfl,h1,h2⟩:=hr
 obtain ⟨h3,h4⟩:=h.get
 refine ⟨vs,rfl,by rw [h1,h3],fun j u c hu hc=> ?_⟩
 have hj:j < a.length:=by have:=(Q1.1 hc).1;omega
 have ha:=Q0 hj
 exact Z6e (cfg:=cfg) (h4 j _ c ha hc) g live u (h2 j u _ hu ha)
def aEl(T:Ty):Arg (El T):=
 {get:=fun v=> match v with
   | .agg cs=> dec T cs
   | _=> none
  can:=fun x=> .agg (enc T x)
  ok:=by
   intro cfg _ v a h
   cases v <;> simp only [reduceCtorEq] at h
   rename_i cs
   unfold dec at h
   split at h
   .rename_i y he
    cases h
    obtain ⟨p,hp,hw⟩:=Zc3 T _ _ _ he
    rw [XZ] at hp
    subst hp
    exact Ze5 hw
   .cases h }
def ZQ(k:IntKind):Arg Int:=
 {get:=fun v=> match v with
   | .c (.int k' n)=> if k=k' then some n else none
   | _=> none
  can:=fun n=> .c (.int k n)
  ok:=by
   intro cfg _ v a h
   split at h
   .split at h
    .rename_i hk;subst hk;cases h;exact fun _ _ _ h=> h
    .cases h
   .cases h }
def Zrv:Arg Bool:=
 {get:=fun v=> match v with
   | .c (.bool b)=> some b
   | _=> none
  can:=fun b=> .c (.bool b)
  ok:=by
   intro cfg _ v a h
   split at h
   .cases h;exact fun _ _ _ h=> h
   .cases h }
theorem Zel{p:List (C U)}{c:C U}(h:WkL p [c]):∃ y,p=[y]/\Wk y c:=by
 cases p with
 | nil=> exact h.elim
 | cons y r=> cases r with
  | nil=> exact ⟨y,rfl,h.1⟩
  | cons z r=> exact h.2.elim
theorem ZnD{T:Ty}{x:C U}{l:List (El T)}{r:List (C U)}(h:rSl T [x]=some (l,r)):Wk x (sl T l):=by
 obtain ⟨p,hp,hw⟩:=Z2X T _ _ _ h
 obtain ⟨y,rfl,hw'⟩:=Zel hw
 grind
theorem ZnF{T:Ty}{x:C U}{o:Option (El T)}{r:List (C U)}(h:rPo T [x]=some (o,r)):Wk x (.po (U:=U) T o):=by
 obtain ⟨p,hp,hw⟩:=Zc2 T _ _ _ h
 obtain ⟨y,rfl,hw'⟩:=Zel hw
 grind
def aSl(T:Ty):Arg (List (El T)):=
 {get:=fun v=> match v with
   | .c x=> match rSl T [x] with
    | some (l,_)=> some l
    | none=> none
   | _=> none
  can:=fun l=> .c (sl T l)
  ok:=by
   intro cfg _ v a h
   split at h
   .split at h
    .rename_i l r hr
     cases h
     exact Z6e (ZnD hr)
    .cases h
   .cases h }
def fs{α:Type}(A:ArgL α)(pre:α->List Prop)(res:α->V U):Fs U:=
 {fn:=fun xs X=> match X with
   | []=> match A.get xs with
    | some a=> some (pre a,res a,[])
    | none=> none
   | _ ::_=> none }
theorem Z1f {Γ:Known U} {α:Type} {A:ArgL α} {pre:α->List Prop} {res:α->V U} (ok:CfgOk P cfg) (henc:cfg.enc=enc) (hΓ:∀ f s,Γ f=some s->Contract P cfg f s) {f:FuncId} {fn:Func} (lv:Z8 U)
  (hf : P.funcs[f]? = some fn) (hb : fn.body = some (cd fn [])) (hname : (fn.name == "runtime.NumGoroutine") = false) (hn : ∀ a, (A.can a).length ≤ fn.ntmps)
  (hbody:∀ a,All (pre a)->awp cfg Γ (Y0 cfg Γ) fn.ntmps lv (cd fn []) (Zi (A.can a) []) (Yg cfg fn.ntmps fn.results.toList (res a) [])):Contract P cfg f (fs A pre res):=by
 refine Z74 ok hΓ (Z0v ok hΓ) lv hf hb hname ?_
 intro args X ps r X' hs hps
 unfold fs at hs
 simp only at hs
 split at hs
 .split at hs
  .rename_i a ha
   cases hs
   obtain ⟨h1,h2⟩:=A.ok cfg henc args a ha
   exact ⟨A.can a,[],⟨h1,h2,rfl,fun k x y hx=> by simp at hx,fun k x y hx=> by simp at hx⟩,hn a,hbody a hps⟩
  .cases hs
 .cases hs
def fsN{α:Type}(A:ArgL α)(pre:α->List Prop)(cs:α->List (C U)):Fs U:=
 {obj:=true
  fn:=fun xs X=> match X with
   | []=> match A.get xs with
    | some a=> some (pre a,.ptr (.x 0) 0,[cs a])
    | none=> none
   | _ ::_=> none }
theorem Zbk {Γ:Known U} {α:Type} {A:ArgL α} {pre:α->List Prop} {cs:α->List (C U)} (ok:CfgOk P cfg) (henc:cfg.enc=enc) (hΓ:∀ f s,Γ f=some s->Contract P cfg f s) {f:FuncId} {fn:Func} (lv:Z8 U)
  (hf : P.funcs[f]? = some fn) (hb : fn.body = some (cd fn [])) (hname : (fn.name == "runtime.NumGoroutine") = false) (hn : ∀ a, (A.can a).length ≤ fn.ntmps)
  (hbody:∀ a,All (pre a)->awp cfg Γ (Y0 cfg Γ) fn.ntmps lv (cd fn []) (Zi (A.can a) []) (ZbI cfg fn.ntmps fn.results.toList [] (cs a))):Contract P cfg f (fsN A pre cs):=by
 refine Zbj ok hΓ (Z0v ok hΓ) lv hf hb hname ?_
 intro args X ps r X' hs hps
 unfold fsN at hs
 simp only at hs
 split at hs
 .split at hs
  .rename_i a ha
   cases hs
   obtain ⟨h1,h2⟩:=A.ok cfg henc args a ha
   exact ⟨A.can a,[],[],cs a,rfl,rfl,⟨h1,h2,rfl,fun k x y hx=> by simp at hx,fun k x y hx=> by simp at hx⟩,hn a,hbody a hps⟩
  .cases hs
 .cases hs
end Go.AM
