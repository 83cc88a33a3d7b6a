import Derived.Test.YtcljdbpmjdgooaaEmV
set_option linter.unusedSimpArgs false
set_option linter.unusedVariables false
namespace Go.AM
theorem ZpB{a b:Bool}:((bif a then true else b)=true)=(a=true\/b=true):=by grind
theorem ZpC{a b:Bool}:((bif a then b else false)=true)=(a=true/\b=true):=by grind
theorem Zmc{a b:Bool}:((bif a then true else b)=false)=(a=false/\b=false):=by grind
theorem Zmd{a b:Bool}:((bif a then b else false)=false)=(a=false\/b=false):=by grind
theorem vcS:(∀ {a b:Bool},((bif a then true else b)=true)=(a=true\/b=true))/\(∀ {a b:Bool},((bif a then b else false)=true)=(a=true/\b=true))/\
  (∀ {a b:Bool},((bif a then true else b)=false)=(a=false/\b=false))/\(∀ {a b:Bool},((bif a then b else false)=false)=(a=false\/b=false))/\
  (∀ (b:Bool),((!b)=true)=(b=false))/\(∀ (b:Bool),((!b)=false)=(b=true))/\(∀ {p:Prop} [Decidable p],(decide p=true)=p)/\(∀ {p:Prop} {_:Decidable p},decide p=false↔¬p)/\
  (∀ {α:Type} [BEq α] [LawfulBEq α] {a b:α},(a==b)=true↔a=b)/\(∀ {α:Type} [BEq α] [LawfulBEq α] {a b:α},(a==b)=false↔a≠b)/\
  (∀ {α:Type} [BEq α] [LawfulBEq α] {a b:α},(a !=b)=true↔a≠b)/\(∀ {α:Type} (a b:α),(a≠b)=¬a=b)/\(∀ {α:Type} [BEq α] [LawfulBEq α] {a b:α},(a !=b)=false↔a=b)/\
  (∀ (a b:Bool),((a || b)=true)=(a=true\/b=true))/\(∀ (a b:Bool),((a && b)=true)=(a=true/\b=true))/\(∀ {x y:Bool},(x || y)=false↔x=false/\y=false)/\(∀ {x y:Bool},(x && y)=false↔x=true->y=false):=
 ⟨ZpB,ZpC,Zmc,Zmd,Qo,Bool.not_eq_false',decide_eq_true_eq,decide_eq_false_iff_not,beq_iff_eq,beq_eq_false_iff_ne,bne_iff_ne,ne_eq,bne_eq_false_iff_eq,X4,Q3,Qi,Bool.and_eq_false_imp⟩
abbrev Tr(p:Prop):Prop:=p->p
theorem vcT:(∀ {p:Prop},Tr p=True)/\(∀ {p:Prop},(True/\p)=p)/\(∀ {p:Prop},(p/\True)=p)/\(∀ {p:Prop},(p->p)=True)/\(∀ {p:Prop},(True->p)=p)/\(∀ {p:Prop},(p->True)=True):=
 ⟨by simp,by simp,by simp,by simp,by simp,by simp⟩
end Go.AM
namespace Go.AM
variable {P:Program} {cfg:Cfg U}
def Zao:List (FuncId × Fs U)->FuncId->Option (Fs U)
 | [],_=> none
 | (f,s) ::r,k=> bif Nat.beq k f then some s else Zao r k
def Z0(l:List (FuncId × Fs U)):Known U:=⟨Zao l,false,false,false⟩
def Zcq(l:List (FuncId × Fs U)):Known U:=⟨Zao l,false,true,false⟩
def Zfc(l:List (FuncId × Fs U)):Known U:=⟨Zao l,false,false,true⟩
def ZpF(s:Fs U):Fs U:={ s with arn:=some .arena }
theorem Zbl{f:FuncId}{s:Fs U}(h:Contract P cfg f s):Contract P cfg f (ZpF s):=⟨h.1,h.2⟩
def Z2l(P:Program)(cfg:Cfg U):List (FuncId × Fs U)->Prop
 | []=> True
 | (f,s) ::r=> Contract P cfg f s/\Z2l P cfg r
theorem Z0a:∀ {l:List (FuncId × Fs U)},Z2l P cfg l->∀ f s,Zao l f=some s->Contract P cfg f s
 | [],_,f,s,h=> by cases h
 | (f',s') ::r,hk,f,s,h=> by
  unfold Zao at h
  cases e:Nat.beq f f' with
  | true=>
   rw [e] at h
   cases h
   rw [Q4 e]
   exact hk.1
  | false=>
   rw [e] at h
   exact Z0a hk.2 f s h
theorem Z2 {l:List (FuncId × Fs U)} {α:Type} {A:ArgL α} {pre:α->Prop} {res:α->V U} (ok:CfgOk P cfg) (henc:cfg.enc=enc) (hl:Z2l P cfg l) {f:FuncId} {fn:Func} (lv:Z8 U)
  (hf : P.funcs[f]? = some fn) (hb : fn.body = some (cd fn [])) (hname : (fn.name == "runtime.NumGoroutine") = false) (n : Nat) (hn : ∀ a, (A.can a).length = n) (hn' : n ≤ fn.ntmps)
  (hbody:∀ a,pre a->awp cfg (Z0 l) (Y0 cfg (Z0 l)) fn.ntmps lv (cd fn []) (Zi (A.can a) []) (Yg cfg fn.ntmps fn.results.toList (res a) [])):Contract P cfg f (fs A (fun a=> [pre a]) res):=
 Z1f ok henc (Z0a hl) lv hf hb hname (fun a=> by rw [hn];exact hn') (fun a h=> hbody a h.1)
theorem Z94 {l:List (FuncId × Fs U)} {α:Type} {A:ArgL α} {pre:α->Prop} {res:α->V U} (ok:CfgOk P cfg) (henc:cfg.enc=enc) (hl:Z2l P cfg l) {f:FuncId} {fn:Func} (lv:Z8 U)
  (hf : P.funcs[f]? = some fn) (hb : fn.body = some (cd fn [])) (hname : (fn.name == "runtime.NumGoroutine") = false) (n : Nat) (hn : ∀ a, (A.can a).length = n) (hn' : n ≤ fn.ntmps)
  (hbody:∀ a,pre a->awp cfg (Zcq l) (Y0 cfg (Zcq l)) fn.ntmps lv (cd fn []) (Zi (A.can a) []) (Yg cfg fn.ntmps fn.results.toList (res a) [])):Contract P cfg f (fs A (fun a=> [pre a]) res):=
 Z1f ok henc (Z0a hl) lv hf hb hname (fun a=> by rw [hn];exact hn') (fun a h=> hbody a h.1)
theorem Z95 {l:List (FuncId × Fs U)} {α:Type} {A:ArgL α} {pre:α->Prop} {res:α->V U} (ok:CfgOk P cfg) (henc:cfg.enc=enc) (hl:Z2l P cfg l) {f:FuncId} {fn:Func} (lv:Z8 U)
  (hf : P.funcs[f]? = some fn) (hb : fn.body = some (cd fn [])) (hname : (fn.name == "runtime.NumGoroutine") = false) (n : Nat) (hn : ∀ a, (A.can a).length = n) (hn' : n ≤ fn.ntmps)
  (hbody:∀ a,pre a->awp cfg (Zfc l) (Y0 cfg (Zfc l)) fn.ntmps lv (cd fn []) (Zi (A.can a) []) (Yg cfg fn.ntmps fn.results.toList (res a) [])):Contract P cfg f (fs A (fun a=> [pre a]) res):=
 Z1f ok henc (Z0a hl) lv hf hb hname (fun a=> by rw [hn];exact hn') (fun a h=> hbody a h.1)
theorem Z93 {l:List (FuncId × Fs U)} {α:Type} {A:ArgL α} {pre:α->Prop} {cs:α->List (C U)} (ok:CfgOk P cfg) (henc:cfg.enc=enc) (hl:Z2l P cfg l) {f:FuncId} {fn:Func} (lv:Z8 U)
  (hf : P.funcs[f]? = some fn) (hb : fn.body = some (cd fn [])) (hname : (fn.name == "runtime.NumGoroutine") = false) (n : Nat) (hn : ∀ a, (A.can a).length = n) (hn' : n ≤ fn.ntmps)
  (hbody:∀ a,pre a->awp cfg (Z0 l) (Y0 cfg (Z0 l)) fn.ntmps lv (cd fn []) (Zi (A.can a) []) (ZbI cfg fn.ntmps fn.results.toList [] (cs a))):Contract P cfg f (fsN A (fun a=> [pre a]) cs):=
 Zbk ok henc (Z0a hl) lv hf hb hname (fun a=> by grind) (fun a h=> hbody a h.1)
theorem YB {l:List (FuncId × Fs U)} {α:Type} {A:ArgL α} {pre:α->Prop} {μ:α->Nat} {res:α->V U} (ok:CfgOk P cfg) (henc:cfg.enc=enc) (hl:Z2l P cfg l) {f:FuncId} {fn:Func} (lv:Z8 U)
  (hf : P.funcs[f]? = some fn) (hb : fn.body = some (cd fn [])) (hname : (fn.name == "runtime.NumGoroutine") = false) (n : Nat) (hn : ∀ a, (A.can a).length = n) (hn' : n ≤ fn.ntmps)
  (hbody:∀ N a,pre a->μ a < N+1->awp cfg (Z0 ((f,fs A (fun a=> [pre a,μ a < N]) res) ::l)) (Y0 cfg (Z0 ((f,fs A (fun a=> [pre a,μ a < N]) res) ::l))) fn.ntmps lv (cd fn []) (Zi (A.can a) []) (Yg cfg fn.ntmps fn.results.toList (res a) [])):
  Contract P cfg f (fs A (fun a=> [pre a]) res):=by
 have key:∀ N,Contract P cfg f (fs A (fun a=> [pre a,μ a < N]) res):=by
  intro N
  induction N with
  | zero=>
   refine JI ⟨fn,hf,by rw [hb];rfl,hname⟩ rfl ?_
   intro args X ps r X' hs hps
   exfalso
   unfold fs at hs
   simp only at hs
   split at hs
   .split at hs
    .cases hs
     exact absurd hps.2.1 (by omega)
    .cases hs
   .cases hs
  | succ N ih=> exact Z1f (Γ:=Z0 ((f,fs A (fun a=> [pre a,μ a < N]) res) ::l)) ok henc (Z0a ⟨ih,hl⟩) lv hf hb hname (fun a=> by grind) (fun a h=> hbody N a h.1 h.2.1)
 refine JI (key 0).1 rfl ?_
 intro args X ps r X' hs hps
 unfold fs at hs
 simp only at hs
 split at hs
 .split at hs
  .rename_i a ha
   cases hs
   have e:(fs A (fun x=> [pre x,μ x < μ a+1]) res).fn args []=some ([pre a,μ a < μ a+1],res a,[]):=by
    unfold fs
    simp only [ha]
   exact (key (μ a+1)).one rfl args [] _ _ [] e ⟨hps.1,K8 _,trivial⟩
  .cases hs
 .cases hs
end Go.AM
