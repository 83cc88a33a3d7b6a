import Derived.Test.YtfapacabjkhepaaGreatWmV
set_option linter.unusedSimpArgs false
set_option linter.unusedVariables false
namespace Go.AM
theorem ZER{a b:Bool}:((bif a then true else b)=true)=(a=true\/b=true):=by grind
theorem ZES{a b:Bool}:((bif a then b else false)=true)=(a=true/\b=true):=by grind
theorem ZAd{a b:Bool}:((bif a then true else b)=false)=(a=false/\b=false):=by grind
theorem ZAe{a b:Bool}:((bif a then b else false)=false)=(a=false\/b=false):=by grind
theorem vcS:(∀ {a b:Bool},((bif a then true else b)=true)=(a=true\/b=true))/\(∀ {a b:Bool},((bif a then b else false)=true)=(a=true/\b=true))/\
  (∀ {a b:Bool},((bif a then true else b)=false)=(a=false/\b=false))/\(∀ {a b:Bool},((bif a then b else false)=false)=(a=false\/b=false))/\
  (∀ (b:Bool),((!b)=true)=(b=false))/\(∀ (b:Bool),((!b)=false)=(b=true))/\(∀ {p:Prop} [Decidable p],(decide p=true)=p)/\(∀ {p:Prop} {_:Decidable p},decide p=false↔¬p)/\
  (∀ {α:Type} [BEq α] [LawfulBEq α] {a b:α},(a==b)=true↔a=b)/\(∀ {α:Type} [BEq α] [LawfulBEq α] {a b:α},(a==b)=false↔a≠b)/\
  (∀ {α:Type} [BEq α] [LawfulBEq α] {a b:α},(a !=b)=true↔a≠b)/\(∀ {α:Type} (a b:α),(a≠b)=¬a=b)/\(∀ {α:Type} [BEq α] [LawfulBEq α] {a b:α},(a !=b)=false↔a=b)/\
  (∀ (a b:Bool),((a || b)=true)=(a=true\/b=true))/\(∀ (a b:Bool),((a && b)=true)=(a=true/\b=true))/\(∀ {x y:Bool},(x || y)=false↔x=false/\y=false)/\(∀ {x y:Bool},(x && y)=false↔x=true->y=false):=
 ⟨ZER,ZES,ZAd,ZAe,QY,Bool.not_eq_false',decide_eq_true_eq,decide_eq_false_iff_not,beq_iff_eq,beq_eq_false_iff_ne,bne_iff_ne,ne_eq,bne_eq_false_iff_eq,XU,Q2,QE,Bool.and_eq_false_imp⟩
abbrev Tr(p:Prop):Prop:=p->p
abbrev Tt(b:Bool):Prop:=Tr (b=true)
abbrev iB(b:Bool)(A B:Prop):Prop:=(b=true->A)/\(b=false->B)
theorem vcT:(∀ {p:Prop},Tr p=True)/\(∀ {p:Prop},(True/\p)=p)/\(∀ {p:Prop},(p/\True)=p)/\(∀ {p:Prop},(p->p)=True)/\(∀ {p:Prop},(True->p)=p)/\(∀ {p:Prop},(p->True)=True):=
 ⟨by simp,by simp,by simp,by simp,by simp,by simp⟩
theorem vcF:(∀ {α:Type} {a:α},(a=a)=True)/\((true=false)=False)/\((false=true)=False)/\(∀ {p:Prop},(False->p)=True)/\(∀ {p:Prop},(True->p)=p)/\(∀ {p:Prop},(True/\p)=p)/\(∀ {p:Prop},(p/\True)=p)/\((!true)=false)/\((!false)=true):=
 ⟨by simp,by simp,by simp,by simp,by simp,by simp,by simp,rfl,rfl⟩
end Go.AM
namespace Go.AM
variable {P:Program} {cfg:Cfg U}
def ZhJ:List (FuncId × Fs U)->FuncId->Option (Fs U)
 | [],_=> none
 | (f,s) ::r,k=> bif Nat.beq k f then some s else ZhJ r k
def Z1(l:List (FuncId × Fs U)):Known U:=⟨ZhJ l,false,false⟩
def Z0h(l:List (FuncId × Fs U)):Known U:=⟨ZhJ l,true,false⟩
def Zgb(l:List (FuncId × Fs U)):Known U:=⟨ZhJ l,false,true⟩
def Z5N(P:Program)(cfg:Cfg U):List (FuncId × Fs U)->Prop
 | []=> True
 | (f,s) ::r=> Contract P cfg f s/\Z5N P cfg r
theorem JV:∀ {l:List (FuncId × Fs U)},Z5N P cfg l->∀ f s,ZhJ l f=some s->Contract P cfg f s
 | [],_,f,s,h=> by cases h
 | (f',s') ::r,hk,f,s,h=> by
  unfold ZhJ at h
  cases e:Nat.beq f f' with
  | true=>
   rw [e] at h
   cases h
   rw [Qa e]
   exact hk.1
  | false=>
   rw [e] at h
   exact JV hk.2 f s h
theorem Z2 {l:List (FuncId × Fs U)} {α:Type} {A:ArgL α} {pre:α->Prop} {res:α->V U} (ok:CfgOk P cfg) (henc:cfg.enc=enc) (hl:Z5N P cfg l) {f:FuncId} {fn:Func} (lv:Zd U)
  (hf : P.funcs[f]? = some fn) (hb : fn.body = some (cd fn [])) (hname : (fn.name == "runtime.NumGoroutine") = false) (n : Nat) (hn : ∀ a, (A.can a).length = n) (hn' : n ≤ fn.ntmps)
  (hbody:∀ a,pre a->awp cfg (Z1 l) (Z09 cfg (Z1 l)) fn.ntmps lv (cd fn []) (Zg (A.can a) []) (Y2 cfg fn.ntmps fn.results.toList (res a) [])):Contract P cfg f (fs A (fun a=> [pre a]) res):=
 Zr ok henc (JV hl) lv hf hb hname (fun a=> by rw [hn];exact hn') (fun a h=> hbody a h.1)
theorem Zgw {l:List (FuncId × Fs U)} {α:Type} {A:ArgL α} {pre:α->Prop} {res:α->V U} (ok:CfgOk P cfg) (henc:cfg.enc=enc) (hl:Z5N P cfg l) {f:FuncId} {fn:Func} (lv:Zd U)
  (hf : P.funcs[f]? = some fn) (hb : fn.body = some (cd fn [])) (hname : (fn.name == "runtime.NumGoroutine") = false) (n : Nat) (hn : ∀ a, (A.can a).length = n) (hn' : n ≤ fn.ntmps)
  (hbody:∀ a,pre a->awp cfg (Z0h l) (Z09 cfg (Z0h l)) fn.ntmps lv (cd fn []) (Zg (A.can a) []) (Y2 cfg fn.ntmps fn.results.toList (res a) [])):Contract P cfg f (fs A (fun a=> [pre a]) res):=
 Zr ok henc (JV hl) lv hf hb hname (fun a=> by rw [hn];exact hn') (fun a h=> hbody a h.1)
theorem Yi {l:List (FuncId × Fs U)} {α:Type} {A:ArgL α} {pre:α->Prop} {μ:α->Nat} {res:α->V U} (ok:CfgOk P cfg) (henc:cfg.enc=enc) (hl:Z5N P cfg l) {f:FuncId} {fn:Func} (lv:Zd U)
  (hf : P.funcs[f]? = some fn) (hb : fn.body = some (cd fn [])) (hname : (fn.name == "runtime.NumGoroutine") = false) (n : Nat) (hn : ∀ a, (A.can a).length = n) (hn' : n ≤ fn.ntmps)
  (hbody:∀ N a,pre a->μ a < N+1->awp cfg (Z1 ((f,fs A (fun a=> [pre a,μ a < N]) res) ::l)) (Z09 cfg (Z1 ((f,fs A (fun a=> [pre a,μ a < N]) res) ::l))) fn.ntmps lv (cd fn []) (Zg (A.can a) []) (Y2 cfg fn.ntmps fn.results.toList (res a) [])):
  Contract P cfg f (fs A (fun a=> [pre a]) res):=by
 have key:∀ N,Contract P cfg f (fs A (fun a=> [pre a,μ a < N]) res):=by
  intro N
  induction N with
  | zero=>
   refine Z3P ⟨fn,hf,by rw [hb];rfl,hname⟩ rfl ?_
   intro args X ps r X' hs hps
   exfalso
   unfold fs at hs
   simp only at hs
   split at hs
   .split at hs
    .cases hs
     exact absurd hps.2.1 YL
    .cases hs
   .cases hs
  | succ N ih=> exact Zr (Γ:=Z1 ((f,fs A (fun a=> [pre a,μ a < N]) res) ::l)) ok henc (JV ⟨ih,hl⟩) lv hf hb hname (fun a=> by grind) (fun a h=> hbody N a h.1 h.2.1)
 refine Z3P (key 0).1 rfl ?_
 intro args X ps r X' hs hps
 unfold fs at hs
 simp only at hs
 split at hs
 .split at hs
  .rename_i a ha
   cases hs
   have e:(fs A (fun x=> [pre x,μ x < μ a+1]) res).fn args []=some ([pre a,μ a < μ a+1],res a,[]):=by
    unfold fs
    simp only [ha]
   exact (key (μ a+1)).one rfl args [] _ _ [] e ⟨hps.1,Nat.lt_succ_self _,trivial⟩
  .cases hs
 .cases hs
theorem Yp {α : Type} {A : ArgL α} {pre : α → Prop} {μ : α → Nat} {res : α → V U} {f : FuncId} (h0 : ∃ fn, P.funcs[f]? = some fn ∧ fn.body.isSome = true ∧ (fn.name == "runtime.NumGoroutine") = false)
  (key:∀ N,Contract P cfg f (fs A (fun a=> [pre a,μ a < N]) res)):Contract P cfg f (fs A (fun a=> [pre a]) res):=by
 refine Z3P h0 rfl ?_
 intro args X ps r X' hs hps
 unfold fs at hs
 simp only at hs
 split at hs
 .split at hs
  .rename_i a ha
   cases hs
   have e:(fs A (fun x=> [pre x,μ x < μ a+1]) res).fn args []=some ([pre a,μ a < μ a+1],res a,[]):=by
    unfold fs
    simp only [ha]
   exact (key (μ a+1)).one rfl args [] _ _ [] e ⟨hps.1,Nat.lt_succ_self _,trivial⟩
  .cases hs
 .cases hs
theorem Yo {α : Type} {A : ArgL α} {pre : α → Prop} {μ : α → Nat} {res : α → V U} {f : FuncId} (h0 : ∃ fn, P.funcs[f]? = some fn ∧ fn.body.isSome = true ∧ (fn.name == "runtime.NumGoroutine") = false) :
  Contract P cfg f (fs A (fun a=> [pre a,μ a < 0]) res):=by
 refine Z3P h0 rfl ?_
 intro args X ps r X' hs hps
 exfalso
 unfold fs at hs
 simp only at hs
 split at hs
 .split at hs
  .cases hs
   exact absurd hps.2.1 YL
  .cases hs
 .cases hs
theorem Z1Q {l:List (FuncId × Fs U)} {α β:Type} {A:ArgL α} {B:ArgL β} {preA:α->Prop} {preB:β->Prop} {μA:α->Nat} {μB:β->Nat} {resA:α->V U} {resB:β->V U} (ok:CfgOk P cfg) (henc:cfg.enc=enc) (hl:Z5N P cfg l) {f f':FuncId} {fn fn':Func}
  (lv lv' : Zd U) (hf : P.funcs[f]? = some fn) (hf' : P.funcs[f']? = some fn') (hb : fn.body = some (cd fn [])) (hb' : fn'.body = some (cd fn' [])) (hname : (fn.name == "runtime.NumGoroutine") = false) (hname' : (fn'.name == "runtime.NumGoroutine") = false)
  (n n':Nat) (hn:∀ a,(A.can a).length=n) (hn':∀ a,(B.can a).length=n') (hle:n<=fn.ntmps) (hle':n'<=fn'.ntmps)
  (hbody:∀ N a,preA a->μA a < N+1->awp cfg (Z1 ((f,fs A (fun a=> [preA a,μA a < N]) resA) ::(f',fs B (fun a=> [preB a,μB a < N]) resB) ::l)) (Z09 cfg (Z1 ((f,fs A (fun a=> [preA a,μA a < N]) resA) ::(f',fs B (fun a=> [preB a,μB a < N]) resB) ::l))) fn.ntmps lv (cd fn []) (Zg (A.can a) []) (Y2 cfg fn.ntmps fn.results.toList (resA a) []))
  (hbody':∀ N a,preB a->μB a < N+1->awp cfg (Z1 ((f,fs A (fun a=> [preA a,μA a < N]) resA) ::(f',fs B (fun a=> [preB a,μB a < N]) resB) ::l)) (Z09 cfg (Z1 ((f,fs A (fun a=> [preA a,μA a < N]) resA) ::(f',fs B (fun a=> [preB a,μB a < N]) resB) ::l))) fn'.ntmps lv' (cd fn' []) (Zg (B.can a) []) (Y2 cfg fn'.ntmps fn'.results.toList (resB a) [])):
  Contract P cfg f (fs A (fun a=> [preA a]) resA)/\Contract P cfg f' (fs B (fun a=> [preB a]) resB):=by
 have h0 : ∃ fn, P.funcs[f]? = some fn ∧ fn.body.isSome = true ∧ (fn.name == "runtime.NumGoroutine") = false := ⟨fn, hf, by rw [hb]; rfl, hname⟩
 have h0' : ∃ fn, P.funcs[f']? = some fn ∧ fn.body.isSome = true ∧ (fn.name == "runtime.NumGoroutine") = false := ⟨fn', hf', by rw [hb']; rfl, hname'⟩
 have key:∀ N,Contract P cfg f (fs A (fun a=> [preA a,μA a < N]) resA)/\Contract P cfg f' (fs B (fun a=> [preB a,μB a < N]) resB):=by
  intro N
  induction N with
  | zero=> exact ⟨Yo h0,Yo h0'⟩
  | succ N ih=>
   exact ⟨Zr (Γ:=Z1 ((f,fs A (fun a=> [preA a,μA a < N]) resA) ::(f',fs B (fun a=> [preB a,μB a < N]) resB) ::l)) ok henc (JV ⟨ih.1,ih.2,hl⟩) lv hf hb hname (fun a=> by grind) (fun a h=> hbody N a h.1 h.2.1),
    Zr (Γ:=Z1 ((f,fs A (fun a=> [preA a,μA a < N]) resA) ::(f',fs B (fun a=> [preB a,μB a < N]) resB) ::l)) ok henc (JV ⟨ih.1,ih.2,hl⟩) lv' hf' hb' hname' (fun a=> by grind) (fun a h=> hbody' N a h.1 h.2.1)⟩
 exact ⟨Yp h0 fun N=> (key N).1,Yp h0' fun N=> (key N).2⟩
end Go.AM
