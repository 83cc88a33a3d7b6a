import Derived.Test.YtfapacabjkhepaaVmV
set_option linter.unusedSimpArgs false
set_option linter.unusedVariables false
namespace Go.AM
theorem Zxu{a b:Bool}:((bif a then true else b)=true)=(a=true\/b=true):=by cases a <;> simp
theorem Zqi{a b:Bool}:((bif a then b else false)=true)=(a=true/\b=true):=by cases a <;> simp
theorem ZtF{a b:Bool}:((bif a then true else b)=false)=(a=false/\b=false):=by cases a <;> simp
theorem ZtG{a b:Bool}:((bif a then b else false)=false)=(a=false\/b=false):=by cases a <;> simp
theorem vcS:(∀ {a b:Bool},((bif a then true else b)=true)=(a=true\/b=true))/\(∀ {a b:Bool},((bif a then b else false)=true)=(a=true/\b=true))/\
  (∀ {a b:Bool},((bif a then true else b)=false)=(a=false/\b=false))/\(∀ {a b:Bool},((bif a then b else false)=false)=(a=false\/b=false))/\
  (∀ (b:Bool),((!b)=true)=(b=false))/\(∀ (b:Bool),((!b)=false)=(b=true))/\(∀ {p:Prop} [Decidable p],(decide p=true)=p)/\(∀ {p:Prop} {_:Decidable p},decide p=false↔¬p)/\
  (∀ {α:Type} [BEq α] [LawfulBEq α] {a b:α},(a==b)=true↔a=b)/\(∀ {α:Type} [BEq α] [LawfulBEq α] {a b:α},(a==b)=false↔a≠b)/\
  (∀ {α:Type} [BEq α] [LawfulBEq α] {a b:α},(a !=b)=true↔a≠b)/\(∀ {α:Type} (a b:α),(a≠b)=¬a=b)/\(∀ {α:Type} [BEq α] [LawfulBEq α] {a b:α},(a !=b)=false↔a=b)/\
  (∀ (a b:Bool),((a || b)=true)=(a=true\/b=true))/\(∀ (a b:Bool),((a && b)=true)=(a=true/\b=true))/\(∀ {x y:Bool},(x || y)=false↔x=false/\y=false)/\(∀ {x y:Bool},(x && y)=false↔x=true->y=false):=
 ⟨Zxu,Zqi,ZtF,ZtG,X6,Bool.not_eq_false',decide_eq_true_eq,decide_eq_false_iff_not,beq_iff_eq,beq_eq_false_iff_ne,bne_iff_ne,ne_eq,bne_eq_false_iff_eq,XU,Q1,QC,Bool.and_eq_false_imp⟩
abbrev Tr(p:Prop):Prop:=p->p
abbrev Tt(b:Bool):Prop:=Tr (b=true)
abbrev iB(b:Bool)(A B:Prop):Prop:=(b=true->A)/\(b=false->B)
theorem vcT:(∀ {p:Prop},Tr p=True)/\(∀ {p:Prop},(True/\p)=p)/\(∀ {p:Prop},(p/\True)=p)/\(∀ {p:Prop},(p->p)=True)/\(∀ {p:Prop},(True->p)=p)/\(∀ {p:Prop},(p->True)=True):=
 ⟨by simp,by simp,by simp,by simp,by simp,by simp⟩
theorem vcF:(∀ {α:Type} {a:α},(a=a)=True)/\((true=false)=False)/\((false=true)=False)/\(∀ {p:Prop},(False->p)=True)/\(∀ {p:Prop},(True->p)=p)/\(∀ {p:Prop},(True/\p)=p)/\(∀ {p:Prop},(p/\True)=p)/\((!true)=false)/\((!false)=true):=
 ⟨by simp,by simp,by simp,by simp,by simp,by simp,by simp,rfl,rfl⟩
end Go.AM
namespace Go.AM
variable {P:Program} {cfg:Cfg U}
def ZeI:List (FuncId × Fs U)->FuncId->Option (Fs U)
 | [],_=> none
 | (f,s) ::r,k=> bif Nat.beq k f then some s else ZeI r k
def Z2(l:List (FuncId × Fs U)):Known U:=⟨ZeI l,false,false⟩
def Yi(l:List (FuncId × Fs U)):Known U:=⟨ZeI l,true,false⟩
def ZcX(l:List (FuncId × Fs U)):Known U:=⟨ZeI l,false,true⟩
def Z4C(P:Program)(cfg:Cfg U):List (FuncId × Fs U)->Prop
 | []=> True
 | (f,s) ::r=> Contract P cfg f s/\Z4C P cfg r
theorem Z0b:∀ {l:List (FuncId × Fs U)},Z4C P cfg l->∀ f s,ZeI l f=some s->Contract P cfg f s
 | [],_,f,s,h=> by cases h
 | (f',s') ::r,hk,f,s,h=> by
  unfold ZeI at h
  cases e:Nat.beq f f' with
  | true=>
   rw [e] at h
   cases h
   rw [Qc e]
   exact hk.1
  | false=>
   rw [e] at h
   exact Z0b hk.2 f s h
theorem Z3 {l:List (FuncId × Fs U)} {α:Type} {A:ArgL α} {pre:α->Prop} {res:α->V U} (ok:CfgOk P cfg) (henc:cfg.enc=enc) (hl:Z4C P cfg l) {f:FuncId} {fn:Func} (lv:Ze U)
  (hf : P.funcs[f]? = some fn) (hb : fn.body = some (cd fn [])) (hname : (fn.name == "runtime.NumGoroutine") = false) (n : Nat) (hn : ∀ a, (A.can a).length = n) (hn' : n ≤ fn.ntmps)
  (hbody:∀ a,pre a->awp cfg (Z2 l) (ZV cfg (Z2 l)) fn.ntmps lv (cd fn []) (Zj (A.can a) []) (Yv cfg fn.ntmps fn.results.toList (res a) [])):Contract P cfg f (fs A (fun a=> [pre a]) res):=
 ZB ok henc (Z0b hl) lv hf hb hname (fun a=> by rw [hn];exact hn') (fun a h=> hbody a h.1)
theorem Zdf {l:List (FuncId × Fs U)} {α:Type} {A:ArgL α} {pre:α->Prop} {res:α->V U} (ok:CfgOk P cfg) (henc:cfg.enc=enc) (hl:Z4C P cfg l) {f:FuncId} {fn:Func} (lv:Ze U)
  (hf : P.funcs[f]? = some fn) (hb : fn.body = some (cd fn [])) (hname : (fn.name == "runtime.NumGoroutine") = false) (n : Nat) (hn : ∀ a, (A.can a).length = n) (hn' : n ≤ fn.ntmps)
  (hbody:∀ a,pre a->awp cfg (Yi l) (ZV cfg (Yi l)) fn.ntmps lv (cd fn []) (Zj (A.can a) []) (Yv cfg fn.ntmps fn.results.toList (res a) [])):Contract P cfg f (fs A (fun a=> [pre a]) res):=
 ZB ok henc (Z0b hl) lv hf hb hname (fun a=> by rw [hn];exact hn') (fun a h=> hbody a h.1)
theorem YO {l:List (FuncId × Fs U)} {α:Type} {A:ArgL α} {pre:α->Prop} {μ:α->Nat} {res:α->V U} (ok:CfgOk P cfg) (henc:cfg.enc=enc) (hl:Z4C P cfg l) {f:FuncId} {fn:Func} (lv:Ze U)
  (hf : P.funcs[f]? = some fn) (hb : fn.body = some (cd fn [])) (hname : (fn.name == "runtime.NumGoroutine") = false) (n : Nat) (hn : ∀ a, (A.can a).length = n) (hn' : n ≤ fn.ntmps)
  (hbody:∀ N a,pre a->μ a < N+1->awp cfg (Z2 ((f,fs A (fun a=> [pre a,μ a < N]) res) ::l)) (ZV cfg (Z2 ((f,fs A (fun a=> [pre a,μ a < N]) res) ::l))) fn.ntmps lv (cd fn []) (Zj (A.can a) []) (Yv cfg fn.ntmps fn.results.toList (res a) [])):
  Contract P cfg f (fs A (fun a=> [pre a]) res):=by
 have key:∀ N,Contract P cfg f (fs A (fun a=> [pre a,μ a < N]) res):=by
  intro N
  induction N with
  | zero=>
   refine Z2Q ⟨fn,hf,by rw [hb];rfl,hname⟩ rfl ?_
   intro args X ps r X' hs hps
   exfalso
   unfold fs at hs
   simp only at hs
   split at hs
   .split at hs
    .cases hs
     exact absurd hps.2.1 V0
    .cases hs
   .cases hs
  | succ N ih=> exact ZB (Γ:=Z2 ((f,fs A (fun a=> [pre a,μ a < N]) res) ::l)) ok henc (Z0b ⟨ih,hl⟩) lv hf hb hname (fun a=> by rw [hn];exact hn') (fun a h=> hbody N a h.1 h.2.1)
 refine Z2Q (key 0).1 rfl ?_
 intro args X ps r X' hs hps
 unfold fs at hs
 simp only at hs
 split at hs
 .split at hs
  .rename_i a ha
   cases hs
   have e:(fs A (fun x=> [pre x,μ x < μ a+1]) res).fn args []=some ([pre a,μ a < μ a+1],res a,[]):=by
    unfold fs
    simp only [ha]
   exact (key (μ a+1)).one rfl args [] _ _ [] e ⟨hps.1,Nat.lt_succ_self _,trivial⟩
  .cases hs
 .cases hs
theorem J2 {α : Type} {A : ArgL α} {pre : α → Prop} {μ : α → Nat} {res : α → V U} {f : FuncId} (h0 : ∃ fn, P.funcs[f]? = some fn ∧ fn.body.isSome = true ∧ (fn.name == "runtime.NumGoroutine") = false)
  (key:∀ N,Contract P cfg f (fs A (fun a=> [pre a,μ a < N]) res)):Contract P cfg f (fs A (fun a=> [pre a]) res):=by
 refine Z2Q h0 rfl ?_
 intro args X ps r X' hs hps
 unfold fs at hs
 simp only at hs
 split at hs
 .split at hs
  .rename_i a ha
   cases hs
   have e:(fs A (fun x=> [pre x,μ x < μ a+1]) res).fn args []=some ([pre a,μ a < μ a+1],res a,[]):=by
    unfold fs
    simp only [ha]
   exact (key (μ a+1)).one rfl args [] _ _ [] e ⟨hps.1,Nat.lt_succ_self _,trivial⟩
  .cases hs
 .cases hs
theorem J1 {α : Type} {A : ArgL α} {pre : α → Prop} {μ : α → Nat} {res : α → V U} {f : FuncId} (h0 : ∃ fn, P.funcs[f]? = some fn ∧ fn.body.isSome = true ∧ (fn.name == "runtime.NumGoroutine") = false) :
  Contract P cfg f (fs A (fun a=> [pre a,μ a < 0]) res):=by
 refine Z2Q h0 rfl ?_
 intro args X ps r X' hs hps
 exfalso
 unfold fs at hs
 simp only at hs
 split at hs
 .split at hs
  .cases hs
   exact absurd hps.2.1 V0
  .cases hs
 .cases hs
theorem Z37 {l:List (FuncId × Fs U)} {α β:Type} {A:ArgL α} {B:ArgL β} {preA:α->Prop} {preB:β->Prop} {μA:α->Nat} {μB:β->Nat} {resA:α->V U} {resB:β->V U} (ok:CfgOk P cfg) (henc:cfg.enc=enc) (hl:Z4C P cfg l) {f f':FuncId} {fn fn':Func}
  (lv lv' : Ze U) (hf : P.funcs[f]? = some fn) (hf' : P.funcs[f']? = some fn') (hb : fn.body = some (cd fn [])) (hb' : fn'.body = some (cd fn' [])) (hname : (fn.name == "runtime.NumGoroutine") = false) (hname' : (fn'.name == "runtime.NumGoroutine") = false)
  (n n':Nat) (hn:∀ a,(A.can a).length=n) (hn':∀ a,(B.can a).length=n') (hle:n<=fn.ntmps) (hle':n'<=fn'.ntmps)
  (hbody:∀ N a,preA a->μA a < N+1->awp cfg (Z2 ((f,fs A (fun a=> [preA a,μA a < N]) resA) ::(f',fs B (fun a=> [preB a,μB a < N]) resB) ::l)) (ZV cfg (Z2 ((f,fs A (fun a=> [preA a,μA a < N]) resA) ::(f',fs B (fun a=> [preB a,μB a < N]) resB) ::l))) fn.ntmps lv (cd fn []) (Zj (A.can a) []) (Yv cfg fn.ntmps fn.results.toList (resA a) []))
  (hbody':∀ N a,preB a->μB a < N+1->awp cfg (Z2 ((f,fs A (fun a=> [preA a,μA a < N]) resA) ::(f',fs B (fun a=> [preB a,μB a < N]) resB) ::l)) (ZV cfg (Z2 ((f,fs A (fun a=> [preA a,μA a < N]) resA) ::(f',fs B (fun a=> [preB a,μB a < N]) resB) ::l))) fn'.ntmps lv' (cd fn' []) (Zj (B.can a) []) (Yv cfg fn'.ntmps fn'.results.toList (resB a) [])):
  Contract P cfg f (fs A (fun a=> [preA a]) resA)/\Contract P cfg f' (fs B (fun a=> [preB a]) resB):=by
 have h0 : ∃ fn, P.funcs[f]? = some fn ∧ fn.body.isSome = true ∧ (fn.name == "runtime.NumGoroutine") = false := ⟨fn, hf, by rw [hb]; rfl, hname⟩
 have h0' : ∃ fn, P.funcs[f']? = some fn ∧ fn.body.isSome = true ∧ (fn.name == "runtime.NumGoroutine") = false := ⟨fn', hf', by rw [hb']; rfl, hname'⟩
 have key:∀ N,Contract P cfg f (fs A (fun a=> [preA a,μA a < N]) resA)/\Contract P cfg f' (fs B (fun a=> [preB a,μB a < N]) resB):=by
  intro N
  induction N with
  | zero=> exact ⟨J1 h0,J1 h0'⟩
  | succ N ih=>
   exact ⟨ZB (Γ:=Z2 ((f,fs A (fun a=> [preA a,μA a < N]) resA) ::(f',fs B (fun a=> [preB a,μB a < N]) resB) ::l)) ok henc (Z0b ⟨ih.1,ih.2,hl⟩) lv hf hb hname (fun a=> by rw [hn];exact hle) (fun a h=> hbody N a h.1 h.2.1),
    ZB (Γ:=Z2 ((f,fs A (fun a=> [preA a,μA a < N]) resA) ::(f',fs B (fun a=> [preB a,μB a < N]) resB) ::l)) ok henc (Z0b ⟨ih.1,ih.2,hl⟩) lv' hf' hb' hname' (fun a=> by rw [hn'];exact hle') (fun a h=> hbody' N a h.1 h.2.1)⟩
 exact ⟨J2 h0 fun N=> (key N).1,J2 h0' fun N=> (key N).2⟩
end Go.AM
