import Derived.Test.YtnfbomhidainjaaGreatTmX
import Derived.Test.YtnfbomhidainjaaGreatChecked
import Derived.Test.YtnfbomhidainjaaGreatRows
import Derived.ProofKit
set_option linter.unusedSimpArgs false
set_option linter.unusedVariables false
namespace Go.AM
variable{P:Program}{cfg:Cfg U}
structure CellR(α:Type)where
 get:List (Tok×LC U)->C U->Option α
 can:α->C U
 canL:α->List (Tok×LC U)ok:∀(cfg:Cfg U)L c a,get L c=some a->ZeJ cfg c (can a)/\∀y∈canL a,Zy (λ_=>none) L y.1=some y.2
theorem ZqK{a b:C U}(h:Wk a b):ZeJ cfg a b:=λg v d=>ZcX (cfg:=cfg) h g (λ_=>false) v d
def Zed(k:IntKind):CellR Int:=
 {get:=λ_ c=>match c with
   |.int k' n=>if k=k' then some n else none|_=>none
  can:=λn=>.int k n
  canL:=λ_=>[]
  ok:=by
   intro cfg L c a h;refine⟨?_,λy hy=>by cases hy⟩;split at h
   .split at h;.rename_i hk;subst hk;cases h;exact λ_ _ h=>h
    .cases h
   .cases h}
def cSl(T:Ty):CellR (List (El T)):=
 {get:=λ_ c=>match rSl T [c]with
   |some (l,_)=>some l|none=>none
  can:=λl=>sl T l
  canL:=λ_=>[]
  ok:=by
   intro cfg L c a h;refine⟨?_,λy hy=>by cases hy⟩;split at h;.rename_i l r hr;cases h;exact ZqK (Zx1 hr)
   .cases h}
def Zrc(t:Tok)(k j:Nat):Bool:=match t with|.x k' j'=>Nat.beq k' k&&Nat.beq j' j|_=>false
theorem ZvP{t:Tok}{k j:Nat}(h:Zrc t k j=true):t=.x k j:=by
 unfold Zrc at h;split at h
 .rw[Q2]at h;rw[Qe h.1,Qe h.2]
 .cases h
def Z2B(T:Ty)(k j:Nat):CellR (List (El T)):=
 {get:=λ_ c=>match c with
   |.nils=>some []|.slice S l .full=>if h:S=T then some (h▸l)else none|.slice S l (.own t)=>if h:S=T then(bif Zrc t k j then some (h▸l)else none)else none|_=>none
  can:=λl=>.slice (U:=U) T l (.own (.x k j))
  canL:=λ_=>[]
  ok:=by
   intro cfg L c a h;refine⟨?_,λy hy=>by cases hy⟩;split at h
   .cases h;intro g v hr;have h1:=hr.1;cases h1;exact⟨SimC.snil (cfg:=cfg) (U:=U) T _,λ_ b len cap hv=>by cases hv⟩
   .split at h;.rename_i hT;subst hT;cases h;intro g v hr;refine⟨hr.1.tl _,λ_ b len cap hv i h3 h4=>?_⟩;have:=hr.2 _ _ _ hv;grind
    .cases h
   .split at h;.rename_i hT;subst hT;rename_i t;cases ht:Zrc t k j with|false=>grind|true=>rw[ht]at h;have:=ZvP ht;subst this;cases h;exact λ_ _ hr=>hr
    .cases h
   .cases h}
def cXp(k:Nat):CellR Unit:=
 {get:=λ_ c=>match c with
   |.xp k'=>bif Nat.beq k' k then some ()else none|_=>none
  can:=λ_=>.xp k
  canL:=λ_=>[]
  ok:=by
   intro cfg L c a h;refine⟨?_,λy hy=>by cases hy⟩;split at h
   .rename_i k';cases hk:Nat.beq k' k with
    |false=>grind|true=>rw[Qe hk];exact λ_ _ h=>h
   .cases h}
def cWt(T:Ty)(n:Tok):CellR (List (El T)):=
 {get:=λL c=>match c with
   |.mref t=>if t=n then match Zy (λ_=>none) L t with
    |some x=>if h:x.T=T/\x.f=0 then some (h.1▸x.l)else none|none=>none else none|_=>none
  can:=λ_=>.mref n
  canL:=λl=>[(n,LC.mk (U:=U) T l 0)]
  ok:=by
   intro cfg L c a h;split at h
   .rename_i t;split at h
    .rename_i ht;subst ht;split at h
     .rename_i x hx;split at h
      .rename_i hT;obtain⟨T',l,f⟩:=x;obtain⟨hT1,hT2⟩:=hT;simp only at hT1 hT2;subst hT1 hT2;cases h;refine⟨λ_ _ hr=>hr,λy hy=>?_⟩;grind
      .cases h
     .cases h
    .cases h
   .cases h}
def cWr(T:Ty)(k j:Nat):CellR (List (El T)):=cWt T (.x k j)
structure ObjL(α:Type)where
 get:List (Tok×LC U)->List (C U)->Option α
 can:α->List (C U)canL:α->List (Tok×LC U)ok:∀(cfg:Cfg U)L cs a,get L cs=some a->(∀y∈canL a,Zy (λ_=>none) L y.1=some y.2)/\cs.length=(can a).length/\∀(j:Nat)c c',cs[j]?=some c->(can a)[j]?=some c'->ZeJ cfg c c'
def ObjL.nil:ObjL Unit:=
 {get:=λ_ cs=>match cs with
   |[]=>some ()|_::_=>none
  can:=λ_=>[]
  canL:=λ_=>[]
  ok:=by grind}
def ObjL.cons{α β:Type}(A:CellR α)(B:ObjL β):ObjL (α×β):=
 {get:=λL cs=>match cs with
   |c::r=>match A.get L c with
    |some a=>match B.get L r with|some b=>some (a,b)|none=>none
    |none=>none
   |[]=>none
  can:=λp=>A.can p.1::B.can p.2
  canL:=λp=>A.canL p.1++B.canL p.2
  ok:=by intro cfg L cs p h;cases cs with|nil=>cases h|cons c r=>
    simp only at h;split at h
    .rename_i a ha;split at h
     .rename_i b hb;cases h;obtain⟨h0,h1,h2⟩:=B.ok cfg L r b hb;obtain⟨h3,h4⟩:=A.ok cfg L c a ha;grind
     .cases h
    .cases h}
structure ArgM(α:Type)where
 get:List (Tok×LC U)->List (V U)->List (List (C U))->Option α
 can:α->List (V U)canX:α->List (List (C U))canL:α->List (Tok×LC U)ok:∀cfg:Cfg U,cfg.enc=enc->∀L xs X a,get L xs X=some a->BetterAll cfg xs (can a) X (canX a)/\∀y∈canL a,Zy (λ_=>none) L y.1=some y.2
def ArgM.nil:ArgM Unit:=
 {get:=λ_ xs X=>match xs,X with
   |[],[]=>some ()|_,_=>none
  can:=λ_=>[]
  canX:=λ_=>[]
  canL:=λ_=>[]
  ok:=by
   intro cfg _ L xs X a h;split at h;.exact⟨BetterAll.refl [] [],λy hy=>by cases hy⟩
   .cases h}
def ArgM.cons{α β:Type}(A:Arg α)(B:ArgM β):ArgM (α×β):=
 {get:=λL xs X=>match xs with
   |x::r=>match A.get x with
    |some a=>match B.get L r X with|some b=>some (a,b)|none=>none
    |none=>none
   |[]=>none
  can:=λp=>A.can p.1::B.can p.2
  canX:=λp=>B.canX p.2
  canL:=λp=>B.canL p.2
  ok:=by
   intro cfg hc L xs X p h;cases xs with
   |nil=>cases h|cons x r=>
    simp only at h;split at h
    .rename_i a ha;split at h
     .rename_i b hb;cases h;obtain⟨hB,hBL⟩:=B.ok cfg hc L r X b hb;refine⟨?_,hBL⟩;refine⟨by simp[hB.len],λj x' y hx hy=>?_,hB.xlen,hB.xl,hB.x⟩;cases j with|zero=>simp at hx hy;subst hx hy;exact A.ok cfg hc x a ha|succ j=>exact hB.args j x' y (by simpa using hx) (by simpa using hy)
     .cases h
    .cases h}
def isX(k o:Nat):V U->Bool|.ptr (.x k') off=>Nat.beq k k'&&Nat.beq off o|_=>false
theorem ZIp{k o:Nat}{v:V U}(h:isX k o v=true):v=.ptr (.x k) o:=by
 unfold isX at h;split at h
 .rw[Q2]at h;rw[Qe h.1,Qe h.2]
 .cases h
def ArgM.hid{α β:Type}(A:ObjL α)(B:ArgM β):ArgM (α×β):=
 {get:=λL xs X=>match X with
   |cs::X'=>match A.get L cs with
    |some a=>match B.get L xs X' with
     |some b=>some (a,b)|none=>none
    |none=>none
   |[]=>none
  can:=λp=>B.can p.2
  canX:=λp=>A.can p.1::B.canX p.2
  canL:=λp=>A.canL p.1++B.canL p.2
  ok:=by
   intro cfg hc L xs X p h;cases X with
   |nil=>cases h|cons cs X'=>
    simp only at h;split at h
    .rename_i a ha;split at h
     .rename_i b hb;cases h;obtain⟨hB,hBL⟩:=B.ok cfg hc L xs X' b hb;obtain⟨hAL,hA⟩:=A.ok cfg L cs a ha;refine⟨?_,λy hy=>(Qf.1 hy).elim (hAL y) (hBL y)⟩;refine⟨hB.len,hB.args,by simp[hB.xlen],λj x' y hx hy=>?_,λj x' y hx hy i c c' hcc hc'=>?_⟩;.cases j with|zero=>grind|succ j=>exact hB.xl j x' y (by simpa using hx) (by simpa using hy)
      .cases j with|zero=>grind|succ j=>exact hB.x j x' y (by simpa using hx) (by simpa using hy) i c c' hcc hc'
     .cases h
    .cases h}
def ArgM.objAt{α β:Type}(k o:Nat)(A:ObjL α)(B:ArgM β):ArgM (α×β):=
 {get:=λL xs X=>match xs,X with
   |x::r,cs::X'=>bif isX k o x then match A.get L cs with
    |some a=>match B.get L r X' with|some b=>some (a,b)|none=>none
    |none=>none else none|_,_=>none
  can:=λp=>.ptr (.x k) o::B.can p.2
  canX:=λp=>A.can p.1::B.canX p.2
  canL:=λp=>A.canL p.1++B.canL p.2
  ok:=by
   intro cfg hc L xs X p h;split at h
   .rename_i x r cs X';cases hx:isX k o x with
    |false=>grind|true=>
     rw[hx]at h;simp only[cond_true]at h;have ex:=ZIp hx;subst ex;split at h
     .rename_i a ha;split at h
      .rename_i b hb;cases h;obtain⟨hB,hBL⟩:=B.ok cfg hc L r X' b hb;obtain⟨hAL,hA⟩:=A.ok cfg L cs a ha;refine⟨?_,λy hy=>(Qf.1 hy).elim (hAL y) (hBL y)⟩;refine⟨by simp[hB.len],λj x' y hx hy=>?_,by simp[hB.xlen],λj x' y hx hy=>?_,λj x' y hx hy i c c' hcc hc'=>?_⟩;.cases j with|zero=>simp at hx hy;subst hx hy;exact λ_ _ _ h=>h|succ j=>exact hB.args j x' y (by simpa using hx) (by simpa using hy)
       .cases j with|zero=>simp at hx hy;subst hx hy;exact hA.1|succ j=>exact hB.xl j x' y (by simpa using hx) (by simpa using hy)
       .cases j with|zero=>simp at hx hy;subst hx hy;exact hA.2 i c c' hcc hc'|succ j=>exact hB.x j x' y (by simpa using hx) (by simpa using hy) i c c' hcc hc'
      .cases h
     .cases h
   .cases h}
def ArgM.obj{α β:Type}(k:Nat)(A:ObjL α)(B:ArgM β):ArgM (α×β):=ArgM.objAt k 0 A B
def ArgM.ifp{α β:Type}(f:TypeId)(k:Nat)(A:ObjL α)(B:ArgM β):ArgM (α×β):=
 {get:=λL xs X=>match xs,X with
   |.ifp g (.x k')::r,cs::X'=>bif Nat.beq g f&&Nat.beq k' k then match A.get L cs with
    |some a=>match B.get L r X' with|some b=>some (a,b)|none=>none
    |none=>none else none|_,_=>none
  can:=λp=>.ifp f (.x k)::B.can p.2
  canX:=λp=>A.can p.1::B.canX p.2
  canL:=λp=>A.canL p.1++B.canL p.2
  ok:=by
   intro cfg hc L xs X p h;split at h;.rename_i g k' r cs X';cases hx:(Nat.beq g f&&Nat.beq k' k)with
    |false=>grind|true=>
     rw[hx]at h;simp only[cond_true]at h;rw[Q2]at hx;have e1:=Qe hx.1;have e2:=Qe hx.2;subst e1 e2;split at h
     .rename_i a ha;split at h
      .rename_i b hb;cases h;obtain⟨hB,hBL⟩:=B.ok cfg hc L r X' b hb;obtain⟨hAL,hA⟩:=A.ok cfg L cs a ha;refine⟨?_,λy hy=>(Qf.1 hy).elim (hAL y) (hBL y)⟩;refine⟨by simp[hB.len],λj x' y hx hy=>?_,by simp[hB.xlen],λj x' y hx hy=>?_,λj x' y hx hy i c c' hcc hc'=>?_⟩;.cases j with|zero=>simp at hx hy;subst hx hy;exact λ_ _ _ h=>h|succ j=>exact hB.args j x' y (by simpa using hx) (by simpa using hy)
       .cases j with|zero=>simp at hx hy;subst hx hy;exact hA.1|succ j=>exact hB.xl j x' y (by simpa using hx) (by simpa using hy)
       .cases j with|zero=>simp at hx hy;subst hx hy;exact hA.2 i c c' hcc hc'|succ j=>exact hB.x j x' y (by simpa using hx) (by simpa using hy) i c c' hcc hc'
      .cases h
     .cases h
   .cases h}
def ArgM.rcv{α β:Type}(A:CellR α)(B:ArgM β):ArgM (α×β):=
 {get:=λL xs X=>match xs,X with
   |.c (.mref t)::r,[.mref t']::X'=>if t=t' then match A.get L (.mref t')with
    |some a=>match B.get L r X' with|some b=>some (a,b)|none=>none
    |none=>none else none|_,_=>none
  can:=λp=>.c (A.can p.1)::B.can p.2
  canX:=λp=>[A.can p.1]::B.canX p.2
  canL:=λp=>A.canL p.1++B.canL p.2
  ok:=by
   intro cfg hc L xs X p h;split at h
   .rename_i t r t' X';split at h
    .rename_i e;subst e;split at h
     .rename_i a ha;split at h
      .rename_i b hb;cases h;obtain⟨hB,hBL⟩:=B.ok cfg hc L r X' b hb;obtain⟨hA,hAL⟩:=A.ok cfg L _ a ha;refine⟨?_,λy hy=>(Qf.1 hy).elim (hAL y) (hBL y)⟩;refine⟨by simp[hB.len],λj x' y hx hy=>?_,by simp[hB.xlen],λj x' y hx hy=>?_,λj x' y hx hy i c c' hcc hc'=>?_⟩;.cases j with
        |zero=>simp at hx hy;subst hx hy;exact λg live v hr=>hA g v hr|succ j=>exact hB.args j x' y (by simpa using hx) (by simpa using hy)
       .cases j with
        |zero=>simp at hx hy;subst hx hy;rfl|succ j=>exact hB.xl j x' y (by simpa using hx) (by simpa using hy)
       .cases j with
        |zero=>simp at hx hy;subst hx hy;cases i with
         |zero=>simp at hcc hc';subst hcc hc';exact hA|succ i=>simp at hcc
        |succ j=>exact hB.x j x' y (by simpa using hx) (by simpa using hy) i c c' hcc hc'
      .cases h
     .cases h
    .cases h
   .cases h}
def ZM1(t:TypeId):Arg Three:=
 {get:=λv=>match v with
   |.kv (.iface t' (.agg vs))=>match vs.toList with|[.int .i64 a,.int .i64 b,.int .i64 c]=>bif Nat.beq t' t then some ⟨⟨a,b⟩,c⟩else none|_=>none
   |_=>none
  can:=λx=>.kv (.iface t (.agg [.int .i64 x.p.i,.int .i64 x.p.j,.int .i64 x.score].toArray))
  ok:=by
   intro cfg _ v x h;split at h
   .rename_i t' vs;split at h
    .rename_i a b c hvs;cases hb:Nat.beq t' t with
     |false=>rw[hb]at h;cases h|true=>
      rw[hb]at h;cases h;have:=Qe hb;subst this;have e:vs=[.int .i64 a,.int .i64 b,.int .i64 c].toArray:=by apply QU;rw[hvs]
      subst e;exact λ_ _ _ h=>h
    .cases h
   .cases h}
def ZM2(f:FuncId):Arg Two:=
 {get:=λv=>match v with
   |.kv (.func (.func g) first caps)=>match first.toList,caps.toList with
    |[.agg vs],[]=>match vs.toList with
     |[.int .i64 a,.int .i64 b]=>bif Nat.beq g f then some ⟨a,b⟩else none|_=>none
    |_,_=>none
   |_=>none
  can:=λx=>.kv (.func (.func f) #[.agg [.int .i64 x.i,.int .i64 x.j].toArray] #[])
  ok:=by
   intro cfg _ v x h;split at h
   .rename_i g first caps;split at h
    .rename_i vs h1 h2;split at h;.rename_i a b hvs;cases hb:Nat.beq g f with|false=>rw[hb]at h;cases h|true=>
       rw[hb]at h;cases h;have:=Qe hb;subst this;have e:vs=[.int .i64 a,.int .i64 b].toArray:=by apply QU;rw[hvs]
       have e1:first=#[.agg vs]:=by apply QU;rw[h1]
       have e2:caps=#[]:=by apply QU;rw[h2]
       subst e e1 e2;exact λ_ _ _ h=>h
     .cases h
    .cases h
   .cases h}
def fsX{α:Type}(A:ArgM α)(pre:α->List Prop)(res:α->V U)(resX:α->List (List (C U))):Fs U:={fn:=λxs X=>match A.get [] xs X with|some a=>some (pre a,res a,resX a)|none=>none}
theorem Z0I{Γ:Known U}{α:Type}{A:ArgM α}{pre:α->List Prop}{res:α->V U}{resX:α->List (List (C U))}(ok:CfgOk P cfg)(henc:cfg.enc=enc)(hΓ:∀f s,Γ f=some s->Contract P cfg f s){f:FuncId}{fn:Func}(lv:Za U)(hf:P.funcs[f]?=some fn)(hb:fn.body=some (cd fn []))(hname:(fn.name== "runtime.NumGoroutine")=false)(hn:∀a,(A.can a).length≤fn.ntmps)(hbody:∀a,All (pre a)->awp cfg Γ (Jw cfg Γ) fn.ntmps lv (cd fn []) (Zg (A.can a) (A.canX a)) (Z06 cfg fn.ntmps fn.results.toList (res a) (resX a))):Contract P cfg f (fsX A pre res resX):=by
 refine ZdZ ok hΓ (Z2R ok hΓ) lv hf hb hname ?_;intro args X ps r X' d aa;unfold fsX at d;simp only at d;split at d;.rename_i a ha;cases d;exact⟨A.can a,A.canX a,(A.ok cfg henc [] args X a ha).1,hn a,hbody a aa⟩
 .cases d
theorem Y9{l:List (FuncId×Fs U)}{α:Type}{A:ArgM α}{pre:α->Prop}{res:α->V U}{resX:α->List (List (C U))}(ok:CfgOk P cfg)(henc:cfg.enc=enc)(hl:Z3t P cfg l){f:FuncId}{fn:Func}(lv:Za U)(hf:P.funcs[f]?=some fn)(hb:fn.body=some (cd fn []))(hname:(fn.name== "runtime.NumGoroutine")=false)(n:Nat)(hn:∀a,(A.can a).length=n)(hn':n≤fn.ntmps)(hbody:∀a,pre a->awp cfg (Z2 l) (Jw cfg (Z2 l)) fn.ntmps lv (cd fn []) (Zg (A.can a) (A.canX a)) (Z06 cfg fn.ntmps fn.results.toList (res a) (resX a))):Contract P cfg f (fsX A (λa=>[pre a]) res resX):=Z0I ok henc (Z0j hl) lv hf hb hname (λa=>by grind) (λa h=>hbody a h.1)
theorem ZcT{l:List (FuncId×Fs U)}{α:Type}{A:ArgM α}{pre:α->Prop}{μ:α->Nat}{res:α->V U}{resX:α->List (List (C U))}(ok:CfgOk P cfg)(henc:cfg.enc=enc)(hl:Z3t P cfg l){f:FuncId}{fn:Func}(lv:Za U)(hf:P.funcs[f]?=some fn)(hb:fn.body=some (cd fn []))(hname:(fn.name== "runtime.NumGoroutine")=false)(hn:∀a,(A.can a).length≤fn.ntmps)(hbody:∀N a,pre a->μ a<N+1->awp cfg (Z2 ((f,fsX A (λa=>[pre a,μ a<N]) res resX)::l)) (Jw cfg (Z2 ((f,fsX A (λa=>[pre a,μ a<N]) res resX)::l))) fn.ntmps lv (cd fn []) (Zg (A.can a) (A.canX a)) (Z06 cfg fn.ntmps fn.results.toList (res a) (resX a))):∀N,Contract P cfg f (fsX A (λa=>[pre a,μ a<N]) res resX):=by intro N;induction N with
 |zero=>
  refine Jp ⟨fn,hf,by simp[hb],hname⟩ rfl ?_;intro args X ps r X' d aa;unfold fsX at d;simp only at d;split at d;.cases d;exact absurd aa.2.1 (XK _)
  .cases d|succ N ih=>have kn:=Z0j (l:=(f,fsX A (λa=>[pre a,μ a<N]) res resX)::l) ⟨ih,hl⟩;exact Z0I ok henc kn lv hf hb hname hn (λa h=>hbody N a h.1 h.2.1)
theorem Zbw{α:Type}{A:ArgM α}{pre:α→Prop}{μ:α→Nat}{res:α→V U}{resX:α→List (List (C U))}{f:FuncId}(h0:∃fn,P.funcs[f]?=some fn∧fn.body.isSome=true∧(fn.name== "runtime.NumGoroutine")=false):Contract P cfg f (fsX A (λa=>[pre a,μ a<0]) res resX):=by
 refine Jp h0 rfl ?_;intro args X ps r X' d aa;unfold fsX at d;simp only at d;split at d;.cases d;exact absurd aa.2.1 (XK _)
 .cases d
theorem Zbx{α:Type}{A:ArgM α}{pre:α→Prop}{μ:α→Nat}{res:α→V U}{resX:α→List (List (C U))}{f:FuncId}(h0:∃fn,P.funcs[f]?=some fn∧fn.body.isSome=true∧(fn.name== "runtime.NumGoroutine")=false)(key:∀N,Contract P cfg f (fsX A (λa=>[pre a,μ a<N]) res resX)):Contract P cfg f (fsX A (λa=>[pre a]) res resX):=by
 refine Jp h0 rfl ?_;intro args X ps r X' d aa hX w g vs E;unfold fsX at d;simp only at d;split at d;.rename_i a ha;cases d;exact(key (μ a+1)).one rfl args X [pre a,μ a<μ a+1] _ _ (by simp only[fsX,ha]) ⟨aa.1,XZ _,trivial⟩ hX w g vs E
 .cases d
theorem Zhv{l:List (FuncId×Fs U)}{α:Type}{A:ArgM α}{pre:α->Prop}{μ:α->Nat}{res:α->V U}{resX:α->List (List (C U))}(ok:CfgOk P cfg)(henc:cfg.enc=enc)(hl:Z3t P cfg l){f:FuncId}{fn:Func}(lv:Za U)(hf:P.funcs[f]?=some fn)(hb:fn.body=some (cd fn []))(hname:(fn.name== "runtime.NumGoroutine")=false)(n:Nat)(hn:∀a,(A.can a).length=n)(hn':n≤fn.ntmps)(hbody:∀N a,pre a->μ a<N+1->awp cfg (Z2 ((f,fsX A (λa=>[pre a,μ a<N]) res resX)::l)) (Jw cfg (Z2 ((f,fsX A (λa=>[pre a,μ a<N]) res resX)::l))) fn.ntmps lv (cd fn []) (Zg (A.can a) (A.canX a)) (Z06 cfg fn.ntmps fn.results.toList (res a) (resX a))):Contract P cfg f (fsX A (λa=>[pre a]) res resX):=by
 have d:=ZcT (μ:=μ) ok henc hl lv hf hb hname (λa=>by grind) hbody;refine Jp (d 0).1 rfl ?_;intro args X ps r X' hs ab hX w g vs E;unfold fsX at hs;simp only at hs;split at hs;.rename_i a ha;cases hs;exact(d (μ a+1)).one rfl args X [pre a,μ a<μ a+1] _ _ (by simp only[fsX,ha]) ⟨ab.1,XZ _,trivial⟩ hX w g vs E
 .cases hs
def Z9c{α:Type}(A:ArgM α)(pre:α->List Prop)(res:α->V U)(resX:α->List (List (C U)))(resL:α->List (Tok×LC U)):Fs U:=
 {wr:=true
  mkl:=true
  fn:=λ_ _=>none
  fn2:=λxs X L=>match A.get L xs X with|some a=>some (pre a,res a,resX a,resL a)|none=>none}
theorem ZaB:∀{L:List (Tok×LC U)}{t:Tok}{x:LC U},Zy (λ_=>none) L t=some x->(t,x)∈L
 |[],t,x,h=>by trivial|(a,y)::L,t,x,h=>by
  simp only[Zy]at h;split at h;.grind
  .exact Q3 _ (ZaB h)
theorem Zhu{Γ:Known U}{α:Type}{A:ArgM α}{pre:α->List Prop}{res:α->V U}{resX:α->List (List (C U))}{resL:α->List (Tok×LC U)}(ok:CfgOk P cfg)(henc:cfg.enc=enc)(hΓ:∀f s,Γ f=some s->Contract P cfg f s){f:FuncId}{fn:Func}(lv:Za U)(hf:P.funcs[f]?=some fn)(hb:fn.body=some (cd fn []))(hname:(fn.name== "runtime.NumGoroutine")=false)(hn:∀a,(A.can a).length≤fn.ntmps)(hbody:∀a,All (pre a)->awp cfg Γ (Jw cfg Γ) fn.ntmps lv (cd fn []) (Ji (A.can a) (A.canX a) (A.canL a)) (Z00 cfg fn.ntmps fn.results.toList (res a) (resX a) (resL a))):Contract P cfg f (Z9c A pre res resX resL):=by
 refine Z5M ok hΓ (Z2R ok hΓ) lv hf hb hname ?_;intro args X L ps r X' L' d aa;unfold Z9c at d;simp only at d;split at d
 .rename_i a ha;cases d;obtain⟨h1,h2⟩:=A.ok cfg henc L args X a ha;exact⟨A.can a,A.canX a,A.canL a,h1,λt x hx=>h2 _ (ZaB hx),hn a,hbody a aa⟩
 .cases d
theorem ZL{l:List (FuncId×Fs U)}{α:Type}{A:ArgM α}{pre:α->Prop}{res:α->V U}{resX:α->List (List (C U))}{resL:α->List (Tok×LC U)}(ok:CfgOk P cfg)(henc:cfg.enc=enc)(hl:Z3t P cfg l){f:FuncId}{fn:Func}(lv:Za U)(hf:P.funcs[f]?=some fn)(hb:fn.body=some (cd fn []))(hname:(fn.name== "runtime.NumGoroutine")=false)(n:Nat)(hn:∀a,(A.can a).length=n)(hn':n≤fn.ntmps)(hbody:∀a,pre a->awp cfg (Z2 l) (Jw cfg (Z2 l)) fn.ntmps lv (cd fn []) (Ji (A.can a) (A.canX a) (A.canL a)) (Z00 cfg fn.ntmps fn.results.toList (res a) (resX a) (resL a))):Contract P cfg f (Z9c A (λa=>[pre a]) res resX resL):=Zhu (Γ:=Z2 l) ok henc (Z0j hl) lv hf hb hname (λa=>by grind) (λa h=>hbody a h.1)
def fsL{α:Type}(A:ArgL α)(pre:α->List Prop)(T:Ty)(res:α->List (El T)):Fs U:=
 {mkl:=true
  fn:=λ_ _=>none
  fn2:=λxs X L=>match X,L with
   |[],[]=>match A.get xs with|some a=>some (pre a,.c (.mref (.r 0 0)),[],[(.r 0 0,LC.mk (U:=U) T (res a) 0)])|none=>none
   |_,_=>none}
theorem Z7i{l:List (FuncId×Fs U)}{α:Type}{A:ArgL α}{pre:α->Prop}{T:Ty}{res:α->List (El T)}(ok:CfgOk P cfg)(henc:cfg.enc=enc)(hl:Z3t P cfg l){f:FuncId}{fn:Func}(lv:Za U)(hf:P.funcs[f]?=some fn)(hb:fn.body=some (cd fn []))(hname:(fn.name== "runtime.NumGoroutine")=false)(n:Nat)(hn:∀a,(A.can a).length=n)(hn':n≤fn.ntmps)(hbody:∀a,pre a->awp cfg (Z0Z l) (Jw cfg (Z0Z l)) fn.ntmps lv (cd fn []) (Zg (A.can a) []) (Z00 cfg fn.ntmps fn.results.toList (.c (.mref (.r 0 0))) [] [(.r 0 0,LC.mk (U:=U) T (res a) 0)])):Contract P cfg f (fsL A (λa=>[pre a]) T res):=by
 have kn:∀f s,(Z0Z l) f=some s->Contract P cfg f s:=Z0j hl;refine Z5M ok kn (Z2R ok kn) lv hf hb hname ?_;intro args X L ps r X' L' d ab;unfold fsL at d;simp only at d;split at d
 .split at d
  .rename_i a ha;cases d;obtain⟨h1,h2⟩:=A.ok cfg henc args a ha;exact⟨A.can a,[],[],⟨h1,h2,rfl,λk x y hx=>by simp at hx,λk x y hx=>by simp at hx⟩,λt x hx=>hx,by grind,hbody a ab.1⟩
  .cases d
 .cases d
def ZIt(s s':Fs U):Fs U:=
 {wr:=s.wr
  mkl:=s.mkl
  obj:=s.obj||s'.obj
  fn:=λ_ _=>none
  fn2:=λxs X L=>match s.fn2 xs X L with|some r=>some r|none=>s'.fn2 xs X L}
theorem ZnU{f:FuncId}{s s':Fs U}(h:Contract P cfg f s)(h':Contract P cfg f s'):Contract P cfg f (ZIt s s'):=by
 refine⟨h.1,λargs X L ps r X' L' he d hX w g vs E=>?_,λi h=>by cases h⟩;simp only[ZIt]at he;split at he;.rename_i r0 h0;cases he;exact h.2.1 args X L ps r X' L' h0 d hX w g vs E
 .exact h'.2.1 args X L ps r X' L' he d hX w g vs E
def Fs.lend(s:Fs U):Fs U:={s with bor:=true}
theorem Contract.lend{f:FuncId}{s:Fs U}(h:Contract P cfg f s):Contract P cfg f s.lend:=h
end Go.AM
namespace Go.AM
def aFn(f:FuncId):Arg Unit:=
 {get:=λv=>match v with
   |.fn g=>if Nat.beq g f then some ()else none|_=>none
  can:=λ_=>.fn f
  ok:=by
   intro cfg _ v a h;split at h
   .split at h
    .rename_i hb;rw[Qe hb];exact λ_ _ _ h=>h
    .cases h
   .cases h}
end Go.AM
namespace Go.AM.YtnfbomhidainjaaGreat
open Go.AM Go.Proofs
def el:Ty->TypeId|.u64=>47|.u8=>5|.int=>3|.tree=>25|.wedit=>57|.edit=>32|.kid=>60|.op=>49|.piece=>92|.step=>155|.irow=>109|.krow=>29|.sstep=>116|.two=>170|.three=>181|.conflict=>157
def tb:Tables U:=
 {el:=el
  sl:=[(22,.u64),(23,.tree),(28,.wedit),(29,.kid),(30,.op),(41,.conflict),(88,.piece),(109,.int),(111,.sstep),(120,.step),(127,.u8),(146,.krow),(165,.irow),(167,.two),(177,.three),(178,.three)]
  var:=[(2,false,[.int .i64 0]),(3,false,[.int .i64 0]),(4,false,[.bool false]),(5,false,[.int .u8 0]),(6,false,[.int .u8 0]),(7,true,[.int .i64 0,.int .i64 0,.bool false,.int .u8 0]),(8,true,[.int .i64 0,.int .i64 0,.bool false,.int .u8 0]),(12,false,[.int .u64 0]),(15,false,[.nilp]),(16,false,[.nilp]),(17,false,[.nilp]),(18,true,[.nilp]),(19,true,[.nilp]),(21,false,[.int .i32 0]),(22,false,[.nils]),(23,false,[.nils]),(24,true,[.int .i64 0,.nils,.nils]),(25,true,[.int .i64 0,.nils,.nils]),(28,false,[.nils]),(29,false,[.nils]),(30,false,[.nils]),(31,true,[.int .i64 0,.int .i64 0,.nils,.nils,.int .i64 0,.nils,.nils,.nils,.nils,.int .i64 0,.nils]),(32,true,[.int .i64 0,.int .i64 0,.nils,.nils,.int .i64 0,.nils,.nils,.nils,.nils,.int .i64 0,.nils]),(41,false,[.nils]),(47,false,[.int .u64 0]),(48,true,[.int .i64 0,.int .i64 0,.nils,.int .i64 0,.int .i64 0,.nils,.nils,.int .i64 0,.nils,.nils,.nils,.nils,.int .i64 0,.nils]),(49,true,[.int .i64 0,.int .i64 0,.nils,.int .i64 0,.int .i64 0,.nils,.nils,.int .i64 0,.nils,.nils,.nils,.nils,.int .i64 0,.nils]),(56,true,[.int .i64 0,.int .u8 0,.int .u64 0,.int .u64 0]),(57,true,[.int .i64 0,.int .u8 0,.int .u64 0,.int .u64 0]),(59,true,[.int .i64 0,.int .i64 0,.int .i64 0,.nils,.nils,.int .i64 0,.nils,.nils,.nils,.nils,.int .i64 0,.nils]),(60,true,[.int .i64 0,.int .i64 0,.int .i64 0,.nils,.nils,.int .i64 0,.nils,.nils,.nils,.nils,.int .i64 0,.nils]),(74,false,[.nilp]),(75,true,[.nils]),(76,true,[.nils]),(88,false,[.nils]),(91,true,[.int .i64 0,.int .i64 0,.int .i64 0,.nils,.int .i64 0,.int .i64 0,.nils,.nils,.int .i64 0,.nils,.nils,.nils,.nils,.int .i64 0,.nils,.int .i64 0,.int .i64 0,.nils,.int .i64 0,.int .i64 0,.nils,.nils,.int .i64 0,.nils,.nils,.nils,.nils,.int .i64 0,.nils]),(92,true,[.int .i64 0,.int .i64 0,.int .i64 0,.nils,.int .i64 0,.int .i64 0,.nils,.nils,.int .i64 0,.nils,.nils,.nils,.nils,.int .i64 0,.nils,.int .i64 0,.int .i64 0,.nils,.int .i64 0,.int .i64 0,.nils,.nils,.int .i64 0,.nils,.nils,.nils,.nils,.int .i64 0,.nils]),(95,false,[.nilp]),(96,true,[.nils,.nils,.nils]),(97,true,[.nils,.nils,.nils]),(100,false,[.nilp]),(106,false,[.nilp]),(107,true,[.nils]),(108,true,[.nils]),(109,false,[.nils]),(111,false,[.nils]),(115,true,[.int .i64 0,.int .i64 0]),(116,true,[.int .i64 0,.int .i64 0]),(120,false,[.nils]),(123,true,[.int .u8 0,.int .u8 0,.int .u8 0,.int .u8 0,.int .u8 0,.int .u8 0,.int .u8 0,.int .u8 0]),(127,false,[.nils]),(130,false,[.nilp]),(131,true,[.nils,.int .i64 0]),(132,true,[.nils,.int .i64 0]),(136,false,[.nilp]),(137,true,[.nils]),(138,true,[.nils]),(140,true,[.int .i64 0,.int .i64 0,.int .i64 0]),(146,false,[.nils]),(149,false,[.nilp]),(150,true,[.nilp,.nils,.int .i64 0,.nils,.nils,.int .i64 0,.nils,.nils,.nils]),(151,true,[.nilp,.nils,.int .i64 0,.nils,.nils,.int .i64 0,.nils,.nils,.nils]),(154,true,[.int .i64 0,.int .i64 0]),(155,true,[.int .i64 0,.int .i64 0]),(156,true,[.nils,.int .i64 0,.nils,.nils,.int .i64 0,.nils,.nils,.int .i64 0,.nils,.nils]),(157,true,[.nils,.int .i64 0,.nils,.nils,.int .i64 0,.nils,.nils,.int .i64 0,.nils,.nils]),(165,false,[.nils]),(167,false,[.nils]),(169,true,[.int .i64 0,.int .i64 0]),(170,true,[.int .i64 0,.int .i64 0]),(176,false,[.nilp]),(177,false,[.nils]),(178,false,[.nils]),(180,true,[.int .i64 0,.int .i64 0,.int .i64 0]),(181,true,[.int .i64 0,.int .i64 0,.int .i64 0]),(198,false,[.int .u64 0]),(201,false,[.int .i64 0]),(208,false,[.int .u32 0]),(210,false,[.int .u64 0]),(214,false,[.nilp]),(216,false,[.nilp]),(224,false,[.int .u8 0]),(225,false,[.int .u8 0]),(227,false,[.nilp]),(228,false,[.int .i32 0]),(229,false,[.int .i32 0])]
  fld:=[(7,0,0,2),(7,1,1,3),(7,2,2,4),(7,3,3,6),(8,0,0,2),(8,1,1,3),(8,2,2,4),(8,3,3,6),(18,0,0,17),(19,0,0,17),(24,0,0,3),(24,1,1,22),(24,2,2,23),(25,0,0,3),(25,1,1,22),(25,2,2,23),(31,0,0,3),(31,1,1,25),(31,2,4,25),(31,3,7,28),(31,4,8,29),(31,5,9,3),(31,6,10,30),(32,0,0,3),(32,1,1,25),(32,2,4,25),(32,3,7,28),(32,4,8,29),(32,5,9,3),(32,6,10,30),(48,0,0,3),(48,1,1,3),(48,2,2,23),(48,3,3,32),(49,0,0,3),(49,1,1,3),(49,2,2,23),(49,3,3,32),(56,0,0,3),(56,1,1,5),(56,2,2,47),(56,3,3,47),(57,0,0,3),(57,1,1,5),(57,2,2,47),(57,3,3,47),(59,0,0,3),(59,1,1,32),(60,0,0,3),(60,1,1,32),(75,0,0,41),(76,0,0,41),(91,0,0,3),(91,1,1,49),(91,2,15,49),(92,0,0,3),(92,1,1,49),(92,2,15,49),(96,0,0,30),(96,1,1,23),(96,2,2,23),(97,0,0,30),(97,1,1,23),(97,2,2,23),(107,0,0,23),(108,0,0,23),(115,0,0,3),(115,1,1,3),(116,0,0,3),(116,1,1,3),(131,0,0,30),(131,1,1,3),(132,0,0,30),(132,1,1,3),(137,0,0,111),(138,0,0,111),(150,0,0,74),(150,1,1,120),(150,2,2,25),(150,3,5,3),(150,4,6,23),(150,5,7,23),(150,6,8,23),(151,0,0,74),(151,1,1,120),(151,2,2,25),(151,3,5,3),(151,4,6,23),(151,5,7,23),(151,6,8,23),(154,0,0,3),(154,1,1,3),(155,0,0,3),(155,1,1,3),(156,0,0,120),(156,1,1,25),(156,2,4,25),(156,3,7,25),(157,0,0,120),(157,1,1,25),(157,2,4,25),(157,3,7,25),(169,0,0,3),(169,1,1,3),(170,0,0,3),(170,1,1,3),(180,0,0,170),(180,1,2,3),(181,0,0,170),(181,1,2,3)]
  arr:=[(123,8,5),(140,3,3)]
  eqs:=[7,8,56,57,115,116,154,155,169,170]
  nif:=[176,181]
  mth:=[(176, "Len",115,true),(176, "Less",160,true),(176, "Swap",163,true),(176, "Push",162,false),(176, "Pop",161,false)]}
def cfg:Cfg U:=tb.cfg K
theorem ZLr:tb.var.all (ZC4 Tryz.prog)=true:=V3
theorem ZO6:tb.sl.all (slB Tryz.prog tb.el)=true:=V3
theorem ZLR:tb.fld.all (ZIu Tryz.prog)=true:=V3
theorem ZM0:tb.arr.all (ZJ6 Tryz.prog)=true:=V3
theorem ZO8:∀t,elB Tryz.prog K tb t=true:=by
 intro t;cases t;.kernel_rfl
 .kernel_rfl
 .kernel_rfl
 .kernel_rfl
 .kernel_rfl
 .kernel_rfl
 .kernel_rfl
 .kernel_rfl
 .kernel_rfl
 .kernel_rfl
 .kernel_rfl
 .kernel_rfl
 .kernel_rfl
 .kernel_rfl
 .kernel_rfl
 .kernel_rfl
theorem Zf:CfgOk Tryz.prog cfg:=ZtU ZOb ZLr ZO6 ZLR ZM0 ZO8 V3 V3 V3 V3
abbrev sU(T:Ty)(l:List (El T))(t:Tail):C U:=.slice (U:=U) T l t
noncomputable abbrev AW(K:Known U)(f:Func)(lv:Za U)(p:List Nat):=awp cfg K (Jw cfg K) f.ntmps lv (cd f p)
noncomputable abbrev SW(K:Known U)(f:Func)(lv:Za U)(p:List Nat):=ZGa cfg K (Jw cfg K) f.ntmps lv (cd f p)
abbrev EQ(f:Func):=Z06 cfg f.ntmps f.results.toList
abbrev QT:=AExit->LSt U->Prop
abbrev NT:=LSt U->Prop
abbrev CT(k:FuncId)(s:Fs U):Prop:=Contract Tryz.prog cfg k s
abbrev xB:=@AExit.inBlock U
abbrev xT:=@AExit.then U
abbrev ci(x:Int):C U:=.int .i64 x
abbrev L2(e:List (Nat×V U))(m:List (Name×List (C U))):LSt U:=⟨e,m,[]⟩
abbrev zb8(f:Int->Nat->Int)(x:Int):List (C U):=[.int .u8 (f x 0),.int .u8 (f x 1),.int .u8 (f x 2),.int .u8 (f x 3),.int .u8 (f x 4),.int .u8 (f x 5),.int .u8 (f x 6),.int .u8 (f x 7)]
abbrev zi8(l:List Int):List (C U):=l.map λx=>.int .u8 x
abbrev FK(k:FuncId):Prop:=∃fn,Tryz.prog.funcs[k]?=some fn∧fn.body.isSome=true∧(fn.name== "runtime.NumGoroutine")=false
abbrev pL(n:Nat):Nat×V U:=(n,.ptr (.loc n) 0)
abbrev pB(n:Nat)(b:Bool):Nat×V U:=(n,.c (.bool b))
abbrev pI(n:Nat)(x:Int):Nat×V U:=(n,.c (.int .i64 x))
def lvl(l:List (List Nat×List Nat)):Za U:=λi=>((l.getD i ([],[])).1.map λk=>(k,[]),(l.getD i ([],[])).2.map λk=>(.loc k,[]))
instance(n:Nat):OfNat (Nat×List (Sk U)) n:=⟨(n,[])⟩
instance(n:Nat):OfNat (Name×List (Sk U)) n:=⟨(.loc n,[])⟩
abbrev an(n:Nat)(l:List (Sk U)):List (Sk U):=List.replicate n .any++l
def lvk(l:List (List (Nat×List (Sk U))×List (Name×List (Sk U)))):Za U:=λi=>l.getD i ([],[])
abbrev zc0:List (C U):=[.int .u8 0,.int .u8 0,.int .u8 0,.int .u8 0,.int .u8 0,.int .u8 0,.int .u8 0,.int .u8 0]
abbrev zc1:List (C U):=[.int .i64 0,.int .i64 0,.nils,.nils,.int .i64 0,.nils,.nils,.nils,.nils,.int .i64 0,.nils]
abbrev zc2:List (C U):=[.int .i64 0,.int .i64 0,.nils,.int .i64 0,.int .i64 0,.nils,.nils,.int .i64 0,.nils,.nils,.nils,.nils,.int .i64 0,.nils]
end Go.AM.YtnfbomhidainjaaGreat
namespace Go.AM.YtnfbomhidainjaaGreat
open Go.AM Go.Proofs Go.Proofs.YtnfbomhidainjaaGreat Go.ChangeShapes Go.WideShapes Go.RowKit
theorem own:ownKnob Tryz.prog.godebug=none:=V3
theorem ZDN:laidOutB Tryz.prog=true:=V3
theorem ZtS:TreeTypes cfg:=⟨rfl,rfl,⟨_,rfl⟩,⟨_,rfl⟩,⟨_,rfl,rfl⟩,⟨_,_,rfl,rfl⟩,⟨_,_,rfl,rfl,rfl⟩,⟨_,_,rfl,rfl,rfl⟩⟩
theorem Zlq{H:Type}{henc:TypeId×Value->H}:ZAX henc Tryz.prog cfg (aEl .tree) 25 inT:=ZE6 Zf rfl ⟨_,_,rfl⟩ (λ_ n cs h=>ZCp Zf ZtS n cs h)
theorem ZJ7{H:Type}{henc:TypeId×Value->H}:ZAX henc Tryz.prog cfg (ZR .i64) 3 (λz=>IntKind.min .i64<=z/\z<=IntKind.max .i64):=ZAv Zf (n0:=0) rfl
end Go.AM.YtnfbomhidainjaaGreat
namespace Go.AM
def Zd(w:Int)(i:Nat):Int:=w/256^i%256
def Z04(m:Int)(i:Int):Bool:=decide (m/2^i.toNat%2=1)
def of8(f:Nat->Int):Int:=f 0+256*(f 1+256*(f 2+256*(f 3+256*(f 4+256*(f 5+256*(f 6+256*f 7))))))
def JP(a b m:Int)(i:Nat):Int:=if Z04 m i then Zd b i else Zd a i
def mix(a b m:Int):Int:=of8 (JP a b m)
theorem aiT{p q:Prop}:(p->q->p/\q)=True:=eq_true λa b=>⟨a,b⟩
mutual def Zi:Edit->Nat|.mk _ o n w ks _ os=>1+mass o+mass n+w.length+os.length+Zr ks+Zh os def Zr:List (KidOf Edit)->Nat|[]=>0|k::r=>Yg k+Zr r def Yg:KidOf Edit->Nat|⟨_,e⟩=>Zi e def Zh:List (OpOf Edit)->Nat|[]=>0|o::r=>Zu o+Zh r def Zu:OpOf Edit->Nat|⟨_,_,l,e⟩=>Z5 l+Zi e end
def isW(n:Int):Prop:=0<=n/\n<18446744073709551616
def JT(w:WEdit):Prop:=InR w.at_/\(0<=w.mask/\w.mask<256)/\isW w.old/\isW w.new
mutual def YF:Edit->Prop|.mk k o n w ks l os=>InR k/\rng o/\rng n/\(∀x∈w,JT x)/\InR l/\Z2p ks/\Z0W os def Z2p:List (KidOf Edit)->Prop|[]=>True|k::r=>Z2G k/\Z2p r def Z2G:KidOf Edit->Prop|⟨a,e⟩=>InR a/\YF e def Z0W:List (OpOf Edit)->Prop|[]=>True|o::r=>Yt o/\Z0W r def Yt:OpOf Edit->Prop|⟨k,n,l,e⟩=>InR k/\InR n/\ZV l/\YF e end
def sh1(t:Tree)(n:Int):Int:=if n<0 then n else YA t 80 n
mutual def Zys:Edit->Int->Int->Int|.mk _ o nw w ks _ os,d,n=>if d=0\/n-1-w.length-os.length<0 then-1 else Zyq os (d-1) (Zyr ks (d-1) (sh1 nw (YA o 80 (n-1-w.length-os.length))))def Zyr:List (KidOf Edit)->Int->Int->Int|[],_,n=>n|k::r,d,n=>if n<0 then n else Zyr r d (ZDM k d n)def ZDM:KidOf Edit->Int->Int->Int|⟨_,e⟩,d,n=>Zys e d n def Zyq:List (OpOf Edit)->Int->Int->Int|[],_,n=>n|o::r,d,n=>if n<0 then n else Zyq r d (ZIm o d n)def ZIm:OpOf Edit->Int->Int->Int|⟨_,_,l,e⟩,d,n=>if Yh l 80 n<0 then Yh l 80 n else Zys e d (Yh l 80 n)end
def Z0i(t:Tree):Bool:=decide (t.kind=0/\t.words.length=0/\t.kids.length=0)
def Z36(e:Edit):Bool:=decide (e.kind=0)&&Z0i e.old&&Z0i e.new&&decide (e.words.length=0/\e.kids.length=0/\e.ops.length=0/\e.list=0)
def Yr(w m:Int):Bool:=decide (mix w 0 m=0)
def Ye(last:Int):List WEdit->Bool|[]=>true|w::r=>decide (last<w.at_/\w.at_<=65534/\w.mask≠0)&&Yr w.old w.mask&&Yr w.new w.mask&&Ye w.at_ r
def Z4(o:Op):Int:=if o.kind=3 then 1 else o.n+o.l.length
def Z1H:List Op->Int->Int|[],n=>n|o::r,n=>Z1H r (min (if o.kind=2 then n else n+Z4 o) 1048576)
def Z1G:List Op->Int->Int|[],n=>n|o::r,n=>Z1G r (min (if o.kind=1 then n else n+Z4 o) 1048576)
def Z5b(list:Int):List Tree->Bool|[]=>true|t::r=>Zb (.mk list [] [t]) 64&&Z5b list r
def dT(d:Int):Int:=if d<0 then-1 else 64
theorem Zt7{d:Int}(h:0<=d):dT d=64:=by unfold dT;omega
theorem Z9f{d:Int}(h:d<0):dT d=-1:=by unfold dT;rw[if_pos h]
theorem ZFF(d:Int):dT d≠0:=by unfold dT;omega
def Yy(D list:Int):List Tree->Bool|[]=>true|t::r=>Zb (.mk list [] [t]) D&&Yy D list r
theorem ZhH(list:Int):∀l:List Tree,Yy 64 list l=Z5b list l|[]=>rfl|t::r=>by simp only[Yy,Z5b,ZhH list r]
mutual def Z8:Edit->Int->Bool|.mk k o n w ks l os,d=>if d=0\/k<0\/3<k then false else if(k≠1/\¬(Z0i o=true/\Z0i n=true))\/(k≠2/\¬(w.length=0/\ks.length=0))\/(k≠3/\(l≠0\/os.length≠0))then false else if k=1 then Zb o (dT d)&&Zb n (dT d)&&decide (o.kind≠10/\n.kind≠10)else Ye (-1) w&&ZA (-1) ks (d-1)&&decide (¬(k=3/\(l<2\/9<l)))&&Zz l os (d-1)&&decide (Z1H os 0<1048576/\Z1G os 0<1048576)def ZA(last:Int):List (KidOf Edit)->Int->Bool|[],_=>true|k::r,d=>YB last k d&&ZA k.at_ r d def YB(last:Int):KidOf Edit->Int->Bool|⟨a,e⟩,d=>decide (last<a/\a<=65534/\e.kind≠0)&&Z8 e d def Zz(list:Int):List (OpOf Edit)->Int->Bool|[],_=>true|o::r,d=>Z9 list o d&&Zz list r d def Z9(list:Int):OpOf Edit->Int->Bool|⟨k,n,l,e⟩,d=>if k=0 then decide (1<=n/\n<=1048576/\l.length=0)&&Z36 e else if n≠0\/k<0\/3<k then false else if k<3 then Yy (dT d) list l&&decide (0<l.length)&&Z36 e else decide (l.length=0/\e.kind≠0/\7<list)&&Z8 e d&&decide (list=8\/e.kind=2\/e.kind=1/\e.old.kind=1/\e.new.kind=1)end
mutual def ctE:Edit->Nat|.mk _ o n w ks _ os=>16+mass o+mass n+65600*w.length+Z0S ks+YI os def Z0S:List (KidOf Edit)->Nat|[]=>0|k::r=>Z2z k+Z0S r def Z2z:KidOf Edit->Nat|⟨_,e⟩=>65600+ctE e def YI:List (OpOf Edit)->Nat|[]=>0|o::r=>Z2y o+YI r def Z2y:OpOf Edit->Nat|⟨_,_,l,e⟩=>16+Z5 l+ctE e end
theorem Z0d(e:Edit):ctE e=16+mass e.old+mass e.new+65600*e.words.length+Z0S e.kids+YI e.ops:=by cases e;rfl
theorem Z3q(k:Kid):Z2z k=65600+ctE k.e:=by cases k;rfl
theorem Z3Y(o:Op):Z2y o=16+Z5 o.l+ctE o.e:=by cases o;rfl
theorem ZgZ:∀{ks:List Kid}{k:Kid},k∈ks->ctE k.e+65600<=Z0S ks
 |a::r,k,h=>by
  rcases Q9.1 h with rfl|h;.simp only[Z0S,Z3q];omega
  .have:=ZgZ h;simp only[Z0S];omega
theorem ZbI:∀{os:List Op}{o:Op},o∈os->ctE o.e+Z5 o.l+16<=YI os
 |a::r,o,h=>by
  rcases Q9.1 h with rfl|h;.simp only[YI,Z3Y];omega
  .have:=ZbI h;simp only[YI];omega
theorem Zn6(t:Tree):1<=mass t:=by obtain⟨k,w,ks⟩:=t;simp only[mass];omega
mutual theorem Z5t:∀(e:Edit),Zi e<=ctE e|.mk k o n w ks l os=>by have d:=Z7H ks;have h2:os.length+Zh os<=YI os:=Z4y os;simp only[Zi,ctE];omega theorem Z7H:∀(ks:List (KidOf Edit)),Zr ks<=Z0S ks|[]=>Qc _|k::r=>by have d:=Zpx k;have h2:=Z7H r;simp only[Zr,Z0S];omega theorem Zpx:∀(k:KidOf Edit),Yg k<=Z2z k|⟨a,e⟩=>by have:=Z5t e;simp only[Yg,Z2z];omega theorem Z4y:∀(os:List (OpOf Edit)),os.length+Zh os<=YI os|[]=>Qc _|o::r=>by have d:=Zut o;have h2:=Z4y r;simp only[Zh,YI,Qa];omega theorem Zut:∀(o:OpOf Edit),Zu o+1<=Z2y o|⟨k,n,l,e⟩=>by have:=Z5t e;simp only[Zu,Z2y];omega end
mutual theorem Z85:∀(e:Edit),ctE e+131100<=65600*Zi e|.mk k o n w ks l os=>by have d:=Zj6 ks;have h2:=Zj5 os;have:=Zn6 o;have:=Zn6 n;simp only[Zi,ctE];omega theorem Zj6:∀(ks:List (KidOf Edit)),Z0S ks<=65600*Zr ks|[]=>Qc _|k::r=>by have d:=ZqE k;have h2:=Zj6 r;simp only[Zr,Z0S];omega theorem ZqE:∀(k:KidOf Edit),Z2z k<=65600*Yg k|⟨a,e⟩=>by have:=Z85 e;simp only[Yg,Z2z];omega theorem Zj5:∀(os:List (OpOf Edit)),YI os<=65600*(os.length+Zh os)|[]=>Qc _|o::r=>by have d:=Zv0 o;have h2:=Zj5 r;simp only[Zh,YI,Qa];omega theorem Zv0:∀(o:OpOf Edit),Z2y o<=65600*(Zu o+1)|⟨k,n,l,e⟩=>by have:=Z85 e;simp only[Zu,Z2y];omega end
mutual def ZpO:Edit->Bool|.mk _ _ _ _ ks _ os=>decide (Z1H os 0<=2000/\Z1G os 0<=2000)&&Zsv ks&&Zsu os def Zsv:List (KidOf Edit)->Bool|[]=>true|k::r=>Zyl k&&Zsv r def Zyl:KidOf Edit->Bool|⟨_,e⟩=>ZpO e def Zsu:List (OpOf Edit)->Bool|[]=>true|o::r=>ZDL o&&Zsu r def ZDL:OpOf Edit->Bool|⟨_,_,_,e⟩=>ZpO e end
def Z76(e:Edit):Bool:=decide (0<=Zys e 80 3000)&&Z8 e 64&&ZpO e
end Go.AM
namespace Go.AM.YtnfbomhidainjaaGreat
open Go.AM Go.Proofs
noncomputable section
def ZqU:ArgL (Tree×Int×Int×Unit):=(.cons (aEl .tree) (.cons (ZR .i64) (.cons (ZR .i64) .nil)))
def Zit(a:Tree×Int×Int×Unit):Prop:=Z3E a.1/\0<=a.2.1/\a.2.1<=4611686018427387904/\-1<=a.2.2.1/\a.2.2.1<=4611686018427387904
def Zul(a:Tree×Int×Int×Unit):Nat:=mass a.1
def Zml(a:Tree×Int×Int×Unit):V U:=.c (ci (YA a.1 a.2.1 a.2.2.1))
def Zfl:Fs U:=fs ZqU (λa=>[Zit a]) Zml
def ZAq:ArgL (List Int×List Int×Unit):=(.cons (aSl .u64) (.cons (aSl .u64) .nil))
def Ziv(a:List Int×List Int×Unit):Prop:=a.1.length<=1000000000000
def Zmm(a:List Int×List Int×Unit):V U:=.c (.bool (decide (a.1=a.2.1)))
def Zfo:Fs U:=fs ZAq (λa=>[Ziv a]) Zmm
def ZAp:ArgL (List Int×Unit):=(.cons (aSl .u64) .nil)
def ZmK(a:List Int×Unit):Prop:=a.1.length<=1000000000000
def Zwt(a:List Int×Unit):V U:=.c (sU .u64 (trim a.1) .unk)
def Zfn:Fs U:=fs ZAp (λa=>[ZmK a]) Zwt
def ZFg(a:List Int×Unit):V U:=.c (sU .u64 a.1 .unk)
def Zfj:Fs U:=fs ZAp (λa=>[ZmK a]) ZFg
def ZA8:ArgL (Tree×Int×Unit):=(.cons (aEl .tree) (.cons (ZR .i64) .nil))
def Z6A(a:Tree×Int×Unit):Prop:=True
def ZrJ(a:Tree×Int×Unit):V U:=.c (.int .u64 (Zs a.1 a.2.1))
def Z1v:Fs U:=fs ZA8 (λa=>[Z6A a]) ZrJ
def ZrI(a:Tree×Int×Unit):V U:=.agg (enc .tree (Zo a.1 a.2.1))
def Z1X:Fs U:=fs ZA8 (λa=>[Z6A a]) ZrI
def ZqX:ArgL (Tree×Unit):=(.cons (aEl .tree) .nil)
def ZfY(a:Tree×Unit):Prop:=mass a.1<=1000000000000
def Zuo(a:Tree×Unit):Nat:=mass a.1
def Zif(a:Tree×Unit):V U:=.agg (enc .tree (Z0 a.1))
def Zfs:Fs U:=fs ZqX (λa=>[ZfY a]) Zif
def ZqY:ArgL (Tree×Tree×Unit):=(.cons (aEl .tree) (.cons (aEl .tree) .nil))
def Z8o(a:Tree×Tree×Unit):Prop:=mass a.1<=1000000000000
def Zup(a:Tree×Tree×Unit):Nat:=mass a.1
def Zig(a:Tree×Tree×Unit):V U:=.c (.bool (ZN a.1 a.2.1))
def Z6k:Fs U:=fs ZqY (λa=>[Z8o a]) Zig
def Z2J(a:Tree×Tree×Unit):Prop:=mass a.1<=1000000000000/\mass a.2.1<=1000000000000
def Zuk(a:Tree×Tree×Unit):Nat:=mass a.1+mass a.2.1
def ZfJ(a:Tree×Tree×Unit):V U:=.c (.bool (ZN (Z0 a.1) (Z0 a.2.1)))
def Ys:Fs U:=fs ZqY (λa=>[Z2J a]) ZfJ
def Zqe(N:Nat):List (FuncId×Fs U):=(32,fs ZqU (λa=>[Zit a,Zul a<N]) Zml)::[]
def ZDz:Za U:=lvl [([1,2,3],[3]),([1,2,3],[3]),([1,2,3,19],[3]),([6],[]),([1,2,3,7],[3]),([1,2,3,7,28],[3]),([1,2,3,7],[3]),([1,2,3,7],[3]),([6],[])]
def Zba(t:Tree)(d l x2 x7:Int):LSt U:=(L2 [pI 1 d,pI 2 x2,pL 3,pI 7 x7] [(.loc 3,(enc .tree t))])
abbrev A32(N:Nat)(p:List Nat):=AW (Z2 (Zqe N)) Tryz.f32 ZDz p
abbrev S32(N:Nat)(p:List Nat):=SW (Z2 (Zqe N)) Tryz.f32 ZDz p
theorem ZNK(N:Nat)(t:Tree)(d l:Int)(Q:QT)(h:((InR (l-1))/\(InR (((l-1):Int)-(t.words.length:Int)))/\((Tt (!(d==0)))/\((d==0)=false->(!(d==0))=true)/\(iB (bif(d==0)then true else(decide (((((l-1):Int)-(t.words.length:Int)):Int)<0))) ((Q .ret (L2 [pI 6 (-1)] []))) ((Zk (A32 N [1,1,1,0,1,0,0]) (Zba t d l (((l-1):Int)-(t.words.length:Int)) 0) (xB 0 (S32 N [1,1,1,1] Q)))))))):A32 N [] (L2 [(0,.agg (enc .tree t)),pI 1 d,pI 2 l] []) Q:=Eq.mpr V3 h
theorem ZBK(N:Nat)(t:Tree)(d l x2 x7:Int)(N0:NT)(Q:QT)(h:let z2:=t.kids.getD x7.toNat Tree.nil;let z1:=decide (x7<(t.kids.length:Int));let z0:=Tree.mk (Tree.kind z2) (Tree.words z2) (Tree.kids z2);(Tt z1)/\(Tt z1)/\(iB (bif z1 then(decide ((0:Int)<=x2))else false) (((0:Int)<=x7/\x7<(t.kids.length:Int))/\(InR (d-1))/\(Zit (z0,(d-1),x2,()))/\(Zul (z0,(d-1),x2,())<N)/\((InR (x7+1))/\(N0 (Zba t d l (YA z0 (d-1) x2) (x7+1))))) ((Q .ret (L2 [pI 6 x2] []))))):A32 N [1,1,1,0,1,0,0] (Zba t d l x2 x7) (xT N0 (xB 0 (S32 N [1,1,1,1] Q))):=Eq.mpr V3 h
def ZKq(N:Nat)(t:Tree)(d l:Int):Prop:=AW (Z2 (Zqe N)) Tryz.f32 ZDz [] (Zg (ZqU.can (t,d,l,())) []) (EQ Tryz.f32 (Zml (t,d,l,())) [])
theorem ZHn(hb:∀(N:Nat)(t:Tree)(d:Int)(l:Int)(_:Unit),Zit (t,d,l,())->Zul (t,d,l,())<N+1->ZKq N t d l):CT 32 Zfl:=Z0H (μ:=Zul) (l:=[]) Zf rfl trivial ZDz Tryz.func32 rfl rfl 3 (λ_=>rfl) V0 (λN⟨t,d,l,_⟩=>hb N t d l ())
def Zqj:List (FuncId×Fs U):=[]
def ZDE:Za U:=lvl [([0,1],[]),([0,1,10],[]),([4],[]),([0,1,5],[]),([0,1,5,14],[]),([0,1,5],[]),([0,1,5,25],[]),([4],[]),([4],[])]
def Zbi(a b:List Int)(d:Int):LSt U:=(L2 [(0,.c (sU .u64 a .unk)),(1,.c (sU .u64 b .unk)),pI 5 d] [])
abbrev A24(p:List Nat):=AW (Z2 Zqj) Tryz.f24 ZDE p
abbrev S24(p:List Nat):=SW (Z2 Zqj) Tryz.f24 ZDE p
theorem ZNR(a b:List Int)(Q:QT)(h:(iB (((a.length:Int):Int)!=(b.length:Int)) ((Q .ret (L2 [pB 4 false] []))) ((Zk (A24 [1,1,0,1,0,0]) (Zbi a b 0) (xB 0 (S24 [1,1,1] Q)))))):A24 [] (L2 [(0,.c (sU .u64 a .unk)),(1,.c (sU .u64 b .unk))] []) Q:=Eq.mpr V3 h
theorem ZBT(a b:List Int)(d:Int)(N0:NT)(Q:QT)(h:(iB (decide (d<(a.length:Int))) (((0:Int)<=d/\d<(a.length:Int))/\((0:Int)<=d/\d<(b.length:Int))/\(iB (((a.getD d.toNat (0:Int)):Int)!=(b.getD d.toNat (0:Int))) ((Q .ret (L2 [pB 4 false] []))) ((InR (d+1))/\(N0 (Zbi a b (d+1)))))) ((Q .ret (L2 [pB 4 true] []))))):A24 [1,1,0,1,0,0] (Zbi a b d) (xT N0 (xB 0 (S24 [1,1,1] Q))):=Eq.mpr V3 h
def ZKx(a b:List Int):Prop:=AW (Z2 Zqj) Tryz.f24 ZDE [] (Zg (ZAq.can (a,b,())) []) (EQ Tryz.f24 (Zmm (a,b,())) [])
theorem ZHt(hb:∀(a:List Int)(b:List Int)(_:Unit),Ziv (a,b,())->ZKx a b):CT 24 Zfo:=Z1 (l:=[]) Zf rfl trivial ZDE Tryz.func24 rfl rfl 2 (λ_=>rfl) V0 (λ⟨a,b,_⟩=>hb a b ())
def ZDD:Za U:=lvl [([0],[]),([0,3],[]),([0,3,16],[]),([0,3],[]),([0,3,4],[]),([2],[])]
def Zbh(l:List Int)(d:Int):LSt U:=(L2 [(0,.c (sU .u64 l .unk)),pI 3 d] [])
abbrev A25(p:List Nat):=AW (Z2 Zqj) Tryz.f25 ZDD p
abbrev S25(p:List Nat):=SW (Z2 Zqj) Tryz.f25 ZDD p
theorem ZNQ(l:List Int)(Q:QT)(h:(Zk (A25 [1,1,0,0,0]) (Zbh l (l.length:Int)) (xB 0 (S25 [1,1,1] Q)))):A25 [] (L2 [(0,.c (sU .u64 l .unk))] []) Q:=Eq.mpr V3 h
theorem ZBS(l:List Int)(d:Int)(N0:NT)(Q:QT)(h:let z0:=decide ((0:Int)<d);(Tt z0)/\(z0=true->InR (d-1))/\(Tt z0)/\(Tt z0)/\(z0=true->(0:Int)<=(d-1)/\(d-1)<(l.length:Int))/\(Tt z0)/\(Tt z0)/\(Tt z0)/\(iB (bif z0 then(((List.getD l (Int.toNat (d-1)) (0:Int)):Int)==0)else false) ((InR (d-1))/\(N0 (Zbh l (d-1)))) ((((0:Int)<=d/\d<=(l.length:Int))/\((([]:List Int).length+(List.take d.toNat l).length)*8<=140737488355328)/\(Q .ret (L2 [(2,.c (sU .u64 (([]:List Int)++(List.take d.toNat l)) (.own (.e 2 0))))] [])))))):A25 [1,1,0,0,0] (Zbh l d) (xT N0 (xB 0 (S25 [1,1,1] Q))):=Eq.mpr V3 h
def ZKw(l:List Int):Prop:=AW (Z2 Zqj) Tryz.f25 ZDD [] (Zg (ZAp.can (l,())) []) (EQ Tryz.f25 (Zwt (l,())) [])
theorem ZHs(hb:∀(l:List Int)(_:Unit),ZmK (l,())->ZKw l):CT 25 Zfn:=Z1 (l:=[]) Zf rfl trivial ZDD Tryz.func25 rfl rfl 1 (λ_=>rfl) V0 (λ⟨l,_⟩=>hb l ())
def ZI7:Za U:=lvl [([0],[]),([0,4],[]),([2],[]),([2],[])]
abbrev A42(p:List Nat):=AW (Z2 Zqj) Tryz.f42 ZI7 p
theorem ZNA(l:List Int)(Q:QT)(h:(((l=[])->(Q .ret (L2 [(2,.c (.nils))] [])))/\(True->((([]:List Int).length+l.length)*8<=140737488355328)/\(Q .ret (L2 [(2,.c (sU .u64 (([]:List Int)++l) (.own (.e 2 0))))] []))))):A42 [] (L2 [(0,.c (sU .u64 l .unk))] []) Q:=Eq.mpr V3 h
def ZKg(l:List Int):Prop:=AW (Z2 Zqj) Tryz.f42 ZI7 [] (Zg (ZAp.can (l,())) []) (EQ Tryz.f42 (ZFg (l,())) [])
theorem ZHj(hb:∀(l:List Int)(_:Unit),ZmK (l,())->ZKg l):CT 42 Zfj:=Z1 (l:=[]) Zf rfl trivial ZI7 Tryz.func42 rfl rfl 1 (λ_=>rfl) V0 (λ⟨l,_⟩=>hb l ())
def ZDp:Za U:=lvl [([0,1],[]),([0,1,10],[]),([4],[]),([0,1,12,13],[]),([0,1,12,13,14],[]),([0,1,5,12,13],[]),([0,1,12,13,24],[]),([4],[]),([0,1,12,13],[]),([4],[])]
def ZaX(a b:List Int)(d:Int):LSt U:=(L2 [(0,.c (sU .u64 a .unk)),(1,.c (sU .u64 b .unk)),pI 12 (a.length:Int),pI 13 d] [])
abbrev A62(p:List Nat):=AW (Z2 Zqj) Tryz.f62 ZDp p
abbrev S62(p:List Nat):=SW (Z2 Zqj) Tryz.f62 ZDp p
theorem ZNi(a b:List Int)(Q:QT)(h:(iB (((a.length:Int):Int)!=(b.length:Int)) ((Q .ret (L2 [pB 4 false] []))) ((Zk (A62 [1,1,0,1,0,0]) (ZaX a b 0) (xB 0 (S62 [1,1,1] Q)))))):A62 [] (L2 [(0,.c (sU .u64 a .unk)),(1,.c (sU .u64 b .unk))] []) Q:=Eq.mpr V3 h
theorem ZBp(a b:List Int)(d:Int)(N0:NT)(Q:QT)(h:(iB (decide (d<(a.length:Int))) ((((0:Int)<=d/\d<(a.length:Int))/\((0:Int)<=d/\d<(b.length:Int))/\(iB (((a.getD d.toNat (0:Int)):Int)!=(b.getD d.toNat (0:Int))) ((Q .ret (L2 [pB 4 false] []))) ((InR (d+1))/\(N0 (ZaX a b (d+1))))))) ((Q .ret (L2 [pB 4 true] []))))):A62 [1,1,0,1,0,0] (ZaX a b d) (xT N0 (xB 0 (S62 [1,1,1] Q))):=Eq.mpr V3 h
def ZJY(a b:List Int):Prop:=AW (Z2 Zqj) Tryz.f62 ZDp [] (Zg (ZAq.can (a,b,())) []) (EQ Tryz.f62 (Zmm (a,b,())) [])
theorem ZH7(hb:∀(a:List Int)(b:List Int)(_:Unit),Ziv (a,b,())->ZJY a b):CT 62 Zfo:=Z1 (l:=[]) Zf rfl trivial ZDp Tryz.func62 rfl rfl 2 (λ_=>rfl) V0 (λ⟨a,b,_⟩=>hb a b ())
def ZHW:Za U:=lvl [([1,2],[2]),([1,2,13],[2]),([4],[]),([4],[])]
abbrev A63(p:List Nat):=AW (Z2 Zqj) Tryz.f63 ZHW p
theorem ZNh(t:Tree)(i:Int)(Q:QT)(h:let z0:=!(decide (i<0));((Tt z0)/\(Tt z0)/\(Tt z0)/\(Tt z0)/\((decide (i<0))=false->z0=true)/\(iB (bif(decide (i<0))then true else(decide (((t.words.length:Int):Int)<=i))) ((Q .ret (L2 [(4,.c (.int .u64 0))] []))) (((0:Int)<=i/\i<(t.words.length:Int))/\(Q .ret (L2 [(4,.c (.int .u64 (t.words.getD i.toNat (0:Int))))] [])))))):A63 [] (L2 [(0,.agg (enc .tree t)),pI 1 i] []) Q:=Eq.mpr V3 h
def ZJX(t:Tree)(i:Int):Prop:=AW (Z2 Zqj) Tryz.f63 ZHW [] (Zg (ZA8.can (t,i,())) []) (EQ Tryz.f63 (ZrJ (t,i,())) [])
theorem ZH6(hb:∀(t:Tree)(i:Int)(_:Unit),Z6A (t,i,())->ZJX t i):CT 63 Z1v:=Z1 (l:=[]) Zf rfl trivial ZHW Tryz.func63 rfl rfl 2 (λ_=>rfl) V0 (λ⟨t,i,_⟩=>hb t i ())
def ZHV:Za U:=lvl [([1,2,4],[2,4]),([1,2,4,13],[2,4]),([4],[4]),([4],[4])]
abbrev A64(p:List Nat):=AW (Z2 Zqj) Tryz.f64 ZHV p
theorem ZNg(t:Tree)(i:Int)(Q:QT)(h:let z0:=!(decide (i<0));((Tt z0)/\(Tt z0)/\(Tt z0)/\(Tt z0)/\((decide (i<0))=false->z0=true)/\(iB (bif(decide (i<0))then true else(decide (((t.kids.length:Int):Int)<=i))) ((Q .ret (L2 [pL 4] [(.loc 4,[ci 0,.nils,.nils])]))) (((0:Int)<=i/\i<(t.kids.length:Int))/\(Q .ret (L2 [pL 4] [(.loc 4,(enc .tree (t.kids.getD i.toNat Tree.nil)))])))))):A64 [] (L2 [(0,.agg (enc .tree t)),pI 1 i] []) Q:=Eq.mpr V3 h
def ZJW(t:Tree)(i:Int):Prop:=AW (Z2 Zqj) Tryz.f64 ZHV [] (Zg (ZA8.can (t,i,())) []) (EQ Tryz.f64 (ZrI (t,i,())) [])
theorem ZH5(hb:∀(t:Tree)(i:Int)(_:Unit),Z6A (t,i,())->ZJW t i):CT 64 Z1X:=Z1 (l:=[]) Zf rfl trivial ZHV Tryz.func64 rfl rfl 2 (λ_=>rfl) V0 (λ⟨t,i,_⟩=>hb t i ())
def Zqn(N:Nat):List (FuncId×Fs U):=(12,fs ZqX (λa=>[ZfY a,Zuo a<N]) Zif)::[(25,Zfn)]
def ZDI:Za U:=lvk [([1,2],[1,2]),([1,2,10],[1,2]),([2],[2]),([1,2,3],[1,2]),([1,2,3,4],[1,2]),([1,2,(3,[.own .tree]),4,5],[1,2]),([1,2,3,4,5,16],[1,2]),([1,2,(3,[.own .tree]),4,5],[1,2]),([1,2,3,4,5,6],[1,2,6]),([1,2,3,4,5,6],[1,2,6]),([1,2,3,4,5,31],[1,2]),([1,2,3,4,5],[1,2]),([1,2,3,4,36],[1,2]),([2],[2]),([1,2,3,7],[1,2]),([1,2,3,7],[1,2]),([2],[2])]
def Z74(t:Tree)(d x5:Int)(x3:List Tree):LSt U:=(L2 [pL 1,pL 2,(3,.c (sU .tree x3 (.own (.e 3 0)))),pI 4 d,pI 5 x5] [(.loc 1,(enc .tree t)),(.loc 2,[ci 0,.nils,.nils])])
abbrev A12(N:Nat)(p:List Nat):=AW (Z2 (Zqn N)) Tryz.f12 ZDI p
abbrev S12(N:Nat)(p:List Nat):=SW (Z2 (Zqn N)) Tryz.f12 ZDI p
theorem ZO2(N:Nat)(t:Tree)(Q:QT)(h:(iB (t.kind==0) ((Q .ret (L2 [pL 2] [(.loc 2,[ci 0,.nils,.nils])]))) ((Zk (A12 N [1,1,1,1,0,1,0,0]) (Z74 t 0 0 []) (xB 0 (S12 N [1,1,1,1,1] Q)))))):A12 N [] (L2 [(0,.agg (enc .tree t))] []) Q:=Eq.mpr V3 h
theorem ZC2(N:Nat)(t:Tree)(x4 d:Int)(x3:List Tree)(N0:NT)(Q:QT)(h:∀af,af=(t.kids.getD d.toNat Tree.nil)->∀aa,aa=af->∀ab,ab=(Z0 aa)->(iB (decide (d<(t.kids.length:Int))) (((0:Int)<=d/\d<(t.kids.length:Int))/\(ZfY (aa,()))/\(Zuo (aa,())<N)/\(((x3.length+([ab]).length)*56<=140737488355328)/\(iB (((Tree.kind (Z0 aa)):Int)!=0) ((InR (d+1))/\((InR (d+1))/\(N0 (Z74 t (d+1) (d+1) (x3++([ab])))))) ((InR (d+1))/\(N0 (Z74 t x4 (d+1) (x3++([ab])))))))) ((iB (t.kind==1) ((ZmK (t.words,()))/\((0:Int)<=x4/\x4<=(x3.length:Int))/\(Q .ret (L2 [pL 2] [(.loc 2,[ci 1,sU .u64 (trim t.words) .unk,sU .tree (List.take x4.toNat x3) .unk])]))) ((((([]:List Int).length+t.words.length)*8<=140737488355328)/\(Q .ret (L2 [pL 2] [(.loc 2,[ci t.kind,sU .u64 (([]:List Int)++t.words) (.own (.l 2 1)),sU .tree x3 (.own (.l 2 2))])])))))))):A12 N [1,1,1,1,0,1,0,0] (Z74 t x4 d x3) (xT N0 (xB 0 (S12 N [1,1,1,1,1] Q))):=Eq.mpr V3 (h _ rfl _ (Z3 _) _ (Z3 _))
def ZKI(N:Nat)(t:Tree):Prop:=AW (Z2 (Zqn N)) Tryz.f12 ZDI [] (Zg (ZqX.can (t,())) []) (EQ Tryz.f12 (Zif (t,())) [])
theorem ZHz(c25:CT 25 Zfn)(hb:∀(N:Nat)(t:Tree)(_:Unit),ZfY (t,())->Zuo (t,())<N+1->ZKI N t):CT 12 Zfs:=Z0H (μ:=Zuo) (l:=[(25,Zfn)]) Zf rfl (⟨c25,trivial⟩) ZDI Tryz.func12 rfl rfl 1 (λ_=>rfl) V0 (λN⟨t,_⟩=>hb N t ())
def Zqk(N:Nat):List (FuncId×Fs U):=(22,fs ZqX (λa=>[ZfY a,Zuo a<N]) Zif)::[(42,Zfj)]
def ZDF:Za U:=lvk [([1,2],[1,2]),([1,2,8],[1,2]),([2],[2]),([1,2,3],[1,2,3]),([1,2,3,17,18,19],[1,2,((.loc 3),[.any,.any,.own .tree])]),([1,2,3,17,18,19,20],[1,2,3]),([1,2,3,5,17,18,19],[1,2,3,5]),([1,2,3,17,18,19],[1,2,3]),([1,2,3,17,18,19],[1,2,((.loc 3),[.any,.any,.own .tree])]),([2,3,33],[2,((.loc 3),[.any,.any,.unk .tree])]),([2,3,33,48],[2,((.loc 3),[.any,.any,.unk .tree])]),([2,3,33],[2,((.loc 3),[.any,.any,.unk .tree])]),([2,3,33,48,72],[2,3]),([2,3,33,48],[2,((.loc 3),[.any,.any,.unk .tree])]),([2],[2])]
def Zbl(t:Tree)(aa:Int)(d:List Tree):LSt U:=(L2 [pL 1,pL 2,pL 3,(17,.c (sU .tree t.kids .unk)),pI 18 (t.kids.length:Int),pI 19 aa] [(.loc 1,(enc .tree t)),(.loc 2,[ci 0,.nils,.nils]),(.loc 3,[ci t.kind,sU .u64 t.words .unk,sU .tree d (.own (.l 3 2))])])
def Zbk(t:Tree)(aa:List Tree)(d:List Int):LSt U:=(L2 [pL 2,pL 3,pB 33 ((t.kind:Int)==1)] [(.loc 2,[ci 0,.nils,.nils]),(.loc 3,[ci t.kind,sU .u64 d .unk,sU .tree aa .unk])])
def Zbj(t:Tree)(d:List Int)(aa:List Tree):LSt U:=(L2 [pL 2,pL 3,pB 33 ((t.kind:Int)==1),(48,.c (.bool (bif(decide ((0:Int)<(d.length:Int)))then(((List.getD d (Int.toNat (((d.length:Int):Int)-1)) (0:Int)):Int)==0)else false)))] [(.loc 2,[ci 0,.nils,.nils]),(.loc 3,[ci t.kind,sU .u64 d .unk,sU .tree aa .unk])])
abbrev A22(N:Nat)(p:List Nat):=AW (Z2 (Zqk N)) Tryz.f22 ZDF p
abbrev S22(N:Nat)(p:List Nat):=SW (Z2 (Zqk N)) Tryz.f22 ZDF p
theorem ZNT(N:Nat)(t:Tree)(Q:QT)(h:(iB (t.kind==0) ((Q .ret (L2 [pL 2] [(.loc 2,[ci 0,.nils,.nils])]))) ((ZmK (t.words,()))/\(Zk (A22 N [1,1,1,0,1,0,0]) (Zbl t 0 []) (xB 0 (S22 N [1,1,1,1] Q)))))):A22 N [] (L2 [(0,.agg (enc .tree t))] []) Q:=Eq.mpr V3 h
theorem ZBW(N:Nat)(t:Tree)(aa:Int)(d:List Tree)(N0:NT)(Q:QT)(h:∀af,af=(t.kids.getD aa.toNat Tree.nil)->∀ab,ab=af->∀ae,ae=(Z0 ab)->(iB (decide (aa<(t.kids.length:Int))) (((0:Int)<=aa/\aa<(t.kids.length:Int))/\((ZfY (ab,()))/\(Zuo (ab,())<N)/\((d.length+([ae]).length)*56<=140737488355328)/\((InR (aa+1))/\(N0 (Zbl t (aa+1) (d++([ae]))))))) ((iB (t.kind==1) (Zk (A22 N [1,1,1,1,0,1,0,0,0,0]) (Zbk t d t.words) (xB 2 (S22 N [1,1,1,1,0,1,0,1] (S22 N [1,1,1,1,1] Q)))) ((Q .ret (L2 [pL 2] [(.loc 2,[ci t.kind,sU .u64 t.words .unk,sU .tree d .unk])]))))))):A22 N [1,1,1,0,1,0,0] (Zbl t aa d) (xT N0 (xB 0 (S22 N [1,1,1,1] Q))):=Eq.mpr V3 (h _ rfl _ (Z3 _) _ (Z3 _))
theorem ZBV(N:Nat)(t:Tree)(aa:List Tree)(d:List Int)(N1:NT)(Q:QT)(h:let z0:=decide ((0:Int)<(d.length:Int));(Tt z0)/\(Tt z0)/\(Tt z0)/\(Tt z0)/\(z0=true->InR (((d.length:Int):Int)-1))/\(Tt z0)/\(Tt z0)/\(z0=true->(0:Int)<=(((d.length:Int):Int)-1)/\(((d.length:Int):Int)-1)<(d.length:Int))/\(Tt z0)/\(Tt z0)/\(Tt z0)/\(iB (bif z0 then(((List.getD d (Int.toNat (((d.length:Int):Int)-1)) (0:Int)):Int)==0)else false) ((InR (((d.length:Int):Int)-1))/\((0:Int)<=(((d.length:Int):Int)-1)/\(((d.length:Int):Int)-1)<=(d.length:Int))/\(N1 (Zbk t aa (List.take (Int.toNat (((d.length:Int):Int)-1)) d)))) (Zk (A22 N [1,1,1,1,0,1,0,1,0,0]) (Zbj t d aa) (xB 4 (S22 N [1,1,1,1,1] Q))))):A22 N [1,1,1,1,0,1,0,0,0,0] (Zbk t aa d) (xT N1 (xB 2 (S22 N [1,1,1,1,0,1,0,1] (S22 N [1,1,1,1,1] Q)))):=Eq.mpr V3 h
theorem ZBU(N:Nat)(t:Tree)(aa:List Int)(d:List Tree)(N2:NT)(Q:QT)(h:let z0:=decide ((0:Int)<(d.length:Int));(Tt z0)/\(Tt z0)/\(Tt z0)/\(Tt z0)/\(z0=true->InR (((d.length:Int):Int)-1))/\(Tt z0)/\(Tt z0)/\(z0=true->(0:Int)<=(((d.length:Int):Int)-1)/\(((d.length:Int):Int)-1)<(d.length:Int))/\(Tt z0)/\(Tt z0)/\(Tt z0)/\(Tt z0)/\(iB (bif z0 then(((Tree.kind (List.getD d (Int.toNat (((d.length:Int):Int)-1)) Tree.nil)):Int)==0)else false) ((InR (((d.length:Int):Int)-1))/\((0:Int)<=(((d.length:Int):Int)-1)/\(((d.length:Int):Int)-1)<=(d.length:Int))/\(N2 (Zbj t aa (List.take (Int.toNat (((d.length:Int):Int)-1)) d)))) ((Q .ret (L2 [pL 2] [(.loc 2,[ci t.kind,sU .u64 aa .unk,sU .tree d .unk])]))))):A22 N [1,1,1,1,0,1,0,1,0,0] (Zbj t aa d) (xT N2 (xB 4 (S22 N [1,1,1,1,1] Q))):=Eq.mpr V3 h
def ZKz(N:Nat)(t:Tree):Prop:=AW (Z2 (Zqk N)) Tryz.f22 ZDF [] (Zg (ZqX.can (t,())) []) (EQ Tryz.f22 (Zif (t,())) [])
theorem ZHu(c42:CT 42 Zfj)(hb:∀(N:Nat)(t:Tree)(_:Unit),ZfY (t,())->Zuo (t,())<N+1->ZKz N t):CT 22 Zfs:=Z0H (μ:=Zuo) (l:=[(42,Zfj)]) Zf rfl (⟨c42,trivial⟩) ZDF Tryz.func22 rfl rfl 1 (λ_=>rfl) V0 (λN⟨t,_⟩=>hb N t ())
def Zqo(N:Nat):List (FuncId×Fs U):=(11,fs ZqY (λa=>[Z8o a,Zup a<N]) Zig)::[(24,Zfo)]
def ZDJ:Za U:=lvl [([2,3],[2,3]),([2,3,27],[2,3]),([4],[]),([2,3,5],[2,3]),([2,3,5,32],[2,3]),([2,3,5],[2,3]),([2,3,5,46],[2,3]),([4],[]),([4],[])]
def Zbr(a b:Tree)(d:Int):LSt U:=(L2 [pL 2,pL 3,pI 5 d] [(.loc 2,(enc .tree a)),(.loc 3,(enc .tree b))])
abbrev A11(N:Nat)(p:List Nat):=AW (Z2 (Zqo N)) Tryz.f11 ZDJ p
abbrev S11(N:Nat)(p:List Nat):=SW (Z2 (Zqo N)) Tryz.f11 ZDJ p
theorem ZO3(N:Nat)(a b:Tree)(Q:QT)(h:let z1:=a.kind !=b.kind;let z0:=bif z1 then true else(!(decide (a.words=b.words)));((Tt (!z1))/\(Tt (!z1))/\(Tt (!z1))/\(Tt (!z1))/\((!z1)=true->Ziv (a.words,b.words,()))/\(Tt (!z1))/\(z1=false->(!z1)=true)/\(Tt (!z0))/\(Tt (!z0))/\(Tt (!z0))/\(Tt (!z0))/\(Tt (!z0))/\(Tt (!z0))/\(z0=false->(!z0)=true)/\(iB (bif z0 then true else(((a.kids.length:Int):Int)!=(b.kids.length:Int))) ((Q .ret (L2 [pB 4 false] []))) ((Zk (A11 N [1,1,0,1,0,0]) (Zbr a b 0) (xB 0 (S11 N [1,1,1] Q))))))):A11 N [] (L2 [(0,.agg (enc .tree a)),(1,.agg (enc .tree b))] []) Q:=Eq.mpr V3 h
theorem ZC3(N:Nat)(a b:Tree)(d:Int)(N0:NT)(Q:QT)(h:∀ae,ae=(a.kids.getD d.toNat Tree.nil)->∀af,af=(b.kids.getD d.toNat Tree.nil)->∀ab,ab=ae->∀aa,aa=af->(iB (decide (d<(a.kids.length:Int))) (((0:Int)<=d/\d<(a.kids.length:Int))/\((0:Int)<=d/\d<(b.kids.length:Int))/\(Z8o (ab,aa,()))/\(Zup (ab,aa,())<N)/\(iB (!(ZN ab aa)) ((Q .ret (L2 [pB 4 false] []))) ((InR (d+1))/\(N0 (Zbr a b (d+1)))))) ((Q .ret (L2 [pB 4 true] []))))):A11 N [1,1,0,1,0,0] (Zbr a b d) (xT N0 (xB 0 (S11 N [1,1,1] Q))):=Eq.mpr V3 (h _ rfl _ rfl _ (Z3 _) _ (Z3 _))
def ZKJ(N:Nat)(a b:Tree):Prop:=AW (Z2 (Zqo N)) Tryz.f11 ZDJ [] (Zg (ZqY.can (a,b,())) []) (EQ Tryz.f11 (Zig (a,b,())) [])
theorem ZHA(c24:CT 24 Zfo)(hb:∀(N:Nat)(a:Tree)(b:Tree)(_:Unit),Z8o (a,b,())->Zup (a,b,())<N+1->ZKJ N a b):CT 11 Z6k:=Z0H (μ:=Zup) (l:=[(24,Zfo)]) Zf rfl (⟨c24,trivial⟩) ZDJ Tryz.func11 rfl rfl 2 (λ_=>rfl) V0 (λN⟨a,b,_⟩=>hb N a b ())
def Zqc(N:Nat):List (FuncId×Fs U):=(38,fs ZqY (λa=>[Z2J a,Zuk a<N]) ZfJ)::[(62,Zfo),(63,Z1v),(64,Z1X)]
def ZDx:Za U:=lvl [([2,3],[2,3]),([2,3,16],[2,3]),([4],[]),([2,3,41],[2,3]),([4],[]),([2,3,48,49],[2,3]),([2,3,48,49,50],[2,3]),([2,3,5,48,49],[2,3]),([2,3,48,49,58],[2,3]),([4],[]),([2,3,48,49],[2,3]),([2,3,66,67],[2,3]),([2,3,66,67,68],[2,3]),([2,3,6,66,67],[2,3]),([2,3,66,67,77],[2,3]),([4],[]),([2,3,66,67],[2,3]),([4],[])]
def Zb6(a b:Tree)(d:Int):LSt U:=(L2 [pL 2,pL 3,pI 48 (if((a.words.length:Int):Int)<(b.words.length:Int)then(b.words.length:Int)else(a.words.length:Int)),pI 49 d] [(.loc 2,(enc .tree a)),(.loc 3,(enc .tree b))])
def Zb5(a b:Tree)(d:Int):LSt U:=(L2 [pL 2,pL 3,pI 66 (if((a.kids.length:Int):Int)<(b.kids.length:Int)then(b.kids.length:Int)else(a.kids.length:Int)),pI 67 d] [(.loc 2,(enc .tree a)),(.loc 3,(enc .tree b))])
abbrev A38(N:Nat)(p:List Nat):=AW (Z2 (Zqc N)) Tryz.f38 ZDx p
abbrev S38(N:Nat)(p:List Nat):=SW (Z2 (Zqc N)) Tryz.f38 ZDx p
theorem ZNE(N:Nat)(a b:Tree)(Q:QT)(h:let z2:=a.kind !=b.kind;let z1:=((a.kids.length:Int):Int)!=(b.kids.length:Int);let z0:=(a.kind !=1)&&(!z1);((Tt (!z2))/\(Tt (!z2))/\(z2=false->(!z2)=true)/\(iB (bif z2 then true else(a.kind==0)) ((Q .ret (L2 [pB 4 (a.kind==b.kind)] []))) ((Tt (a.kind !=1))/\(Tt (a.kind !=1))/\(Tt (a.kind !=1))/\(Tt (a.kind !=1))/\(Tt (a.kind !=1))/\(Tt (a.kind !=1))/\(Tt (a.kind !=1))/\(Tt z0)/\(Tt z0)/\(Tt z0)/\(Tt z0)/\(z0=true->Ziv (a.words,b.words,()))/\(Tt z0)/\((a.kind !=1)=true->(True->(a.kind !=1)=true))/\((a.kind !=1)=true->(z1=false->z0=true))/\(Tt (a.kind !=1))/\(iB (bif(a.kind !=1)then(bif z1 then true else(!(decide (a.words=b.words))))else false) ((Q .ret (L2 [pB 4 false] []))) ((Zk (A38 N [1,1,1,0,1,0,0]) (Zb6 a b 0) (xB 0 (S38 N [1,1,1,1] Q))))))))):A38 N [] (L2 [(0,.agg (enc .tree a)),(1,.agg (enc .tree b))] []) Q:=Eq.mpr V3 h
theorem ZBE(N:Nat)(a b:Tree)(d:Int)(N0:NT)(Q:QT)(h:let z1:=Tree.mk b.kind b.words b.kids;let z0:=Tree.mk a.kind a.words a.kids;(iB (decide (d<(if((a.words.length:Int):Int)<(b.words.length:Int)then(b.words.length:Int)else(a.words.length:Int)))) (((Z6A (z0,d,()))/\(Z6A (z1,d,()))/\(iB (((Zs z0 d):Int)!=(Zs z1 d)) ((Q .ret (L2 [pB 4 false] []))) ((InR (d+1))/\(N0 (Zb6 a b (d+1))))))) ((Zk (A38 N [1,1,1,1,0,1,0,0]) (Zb5 a b 0) (xB 2 (S38 N [1,1,1,1,1] Q)))))):A38 N [1,1,1,0,1,0,0] (Zb6 a b d) (xT N0 (xB 0 (S38 N [1,1,1,1] Q))):=Eq.mpr V3 h
theorem ZBD(N:Nat)(a b:Tree)(d:Int)(N1:NT)(Q:QT)(h:∀ae,ae=a->∀af,af=b->∀ab,ab=(Zo ae d)->∀aa,aa=(Zo af d)->(iB (decide (d<(if((a.kids.length:Int):Int)<(b.kids.length:Int)then(b.kids.length:Int)else(a.kids.length:Int)))) (((Z6A (ae,d,()))/\(Z6A (af,d,()))/\(Z2J (ab,aa,()))/\(Zuk (ab,aa,())<N)/\(iB (!(ZN (Z0 ab) (Z0 aa))) ((Q .ret (L2 [pB 4 false] []))) ((InR (d+1))/\(N1 (Zb5 a b (d+1))))))) ((Q .ret (L2 [pB 4 true] []))))):A38 N [1,1,1,1,0,1,0,0] (Zb5 a b d) (xT N1 (xB 2 (S38 N [1,1,1,1,1] Q))):=Eq.mpr V3 (h _ (Z3 _) _ (Z3 _) _ (Z3 _) _ (Z3 _))
def ZKk(N:Nat)(a b:Tree):Prop:=AW (Z2 (Zqc N)) Tryz.f38 ZDx [] (Zg (ZqY.can (a,b,())) []) (EQ Tryz.f38 (ZfJ (a,b,())) [])
theorem ZHl(c62:CT 62 Zfo)(c63:CT 63 Z1v)(c64:CT 64 Z1X)(hb:∀(N:Nat)(a:Tree)(b:Tree)(_:Unit),Z2J (a,b,())->Zuk (a,b,())<N+1->ZKk N a b):CT 38 Ys:=Z0H (μ:=Zuk) (l:=[(62,Zfo),(63,Z1v),(64,Z1X)]) Zf rfl (⟨c62,c63,c64,trivial⟩) ZDx Tryz.func38 rfl rfl 2 (λ_=>rfl) V0 (λN⟨a,b,_⟩=>hb N a b ())
end
theorem vcU:(∀{p q:Prop},(p->q->p/\q)=True)/\(∀{p:Prop},(True/\p)=p)/\(∀{p:Prop},(p/\True)=p)/\(∀{p:Prop},(p->True)=True):=⟨by grind,by simp,by simp,by simp⟩
theorem Zfu:∀{ks:List Tree}{i:Nat},Z8E ks->i<ks.length->Z3E (ks.getD i Tree.nil)|t::_,0,h,_=>by simp only[Z8E]at h;exact h.1|_::r,i+1,h,hi=>by simp only[Z8E]at h;exact Zfu (ks:=r) (i:=i) h.2 (by simpa using hi)
theorem Z1p:∀{ks:List Tree}{i:Nat},i<ks.length->mass (ks.getD i Tree.nil)<=Z5 ks|t::_,0,_=>by simp only[Z5,Qj];omega|t::r,i+1,h=>by have:=Z1p (ks:=r) (i:=i) (by simpa using h);simp only[Z5,XI];omega
mutual theorem Z49:∀(t:Tree)(d l:Int),-1<=YA t d l/\YA t d l<=max l (-1)
 |.mk _ w ks,d,l=>by
  simp only[YA];split;.omega
  .have:=Z34 ks (d-1) (l-1-w.length) Yp;omega theorem Z34:∀(ks:List Tree)(d l:Int),-1<=l->-1<=Yh ks d l/\Yh ks d l<=l
 |[],d,l,h=>by simp only[Yh];omega|t::r,d,l,h=>by
  simp only[Yh];split;.omega
  .have h1:=Z49 t d l;have h2:=Z34 r d (YA t d l) h1.1;omega end
theorem Zhh{ks:List Tree}{i:Nat}{d l:Int}(h:i<ks.length)(hl:0<=l):Yh (ks.drop i) d l=Yh (ks.drop (i+1)) d (YA (ks.getD i Tree.nil) d l):=by rw[QD h];simp only[Yh];grind
theorem c32:Contract Tryz.prog cfg 32 Zfl:=by
 refine ZHn ?_;rintro N⟨k,ws,ks⟩d l _⟨hs,h1,h2,h3,h4⟩hN;simp only[Z3E,Zul,mass]at*;refine ZNK N _ _ _ _ ?_;(try simp only[iB,vcT,forall_eq]);(simp only[iB,vcS]);(try simp only[iB,vcT]);try(simp only[vE])
 refine⟨V2,V2,λhc=>?_,λhc=>?_⟩
 .have e:YA (.mk k ws ks) d l=-1:=by
   simp only[YA];omega
  simp only[Zml,e];exact⟨⟨rfl,⟨⟨rfl,rfl⟩,trivial⟩,trivial⟩,trivial⟩
 .have e:YA (.mk k ws ks) d l=Yh ks (d-1) (l-1-ws.length):=by simp only[YA];omega
  simp only[Zml,e];refine Z6 (ι:=Int×Int) (λp=>Zba (.mk k ws ks) d l p.1 p.2) (λp=>0<=p.2/\p.2<=ks.length/\-1<=p.1/\p.1<=l/\Yh (ks.drop p.2.toNat) (d-1) p.1=Yh ks (d-1) (l-1-ws.length)) (λp=>((ks.length:Int)-p.2).toNat) (l-1-ws.length,0) rfl ⟨Yp,Yp,Yp,Yp,by simp⟩ ?_;rintro⟨l',i⟩⟨h5,h6,h7,h8,h9⟩;dsimp only at*;refine ZBK N _ _ _ _ _ _ _ ?_;(try simp only[iB,vcT,forall_eq]);(simp only[iB,vcS]);(try simp only[iB,vcT]);try(simp only[vE])
  refine⟨λhc=>?_,λhc=>?_⟩
  .have hi:i.toNat<ks.length:=Yp;have hr:=Z49 (ks.getD i.toNat Tree.nil) (d-1) l';have hn:=Z1p hi;have hd:=Zhh (d:=d-1) hi hc.2;refine⟨Yp,V2,⟨Zfu hs.2.2 hi,by grind,by grind,Yp,by grind⟩,by simp only[Zul];omega,V2,⟨(YA (ks.getD i.toNat Tree.nil) (d-1) l',i+1),rfl,⟨Yp,Yp,Yp,Yp,?_⟩,Yp⟩⟩;grind
  .have e:Yh ks (d-1) (l-1-ws.length)=l':=by
    rw[<-h9];by_cases hi:i<ks.length
    .rw[QD Yp];simp only[Yh];omega
    .rw[QN Yp];try rfl
   rw[e];trivial
theorem c42:Contract Tryz.prog cfg 42 Zfj:=by
 refine ZHj ?_;intro l _ d;refine ZNA _ _ ?_;(try simp only[iB,vcT,forall_eq]);simp only[ZmK]at d;refine⟨λh=>?_,⟨by simp only[Qm];omega,?_⟩⟩;.subst h;exact⟨⟨rfl,⟨rfl,trivial⟩,trivial⟩,trivial⟩
 .exact⟨⟨rfl,⟨⟨rfl,trivial⟩,trivial⟩,trivial⟩,trivial⟩
theorem Zex{a b:List Int}{i:Int}(hi:0<=i)(ha:i<a.length)(hb:i<b.length):(a.drop i.toNat=b.drop i.toNat)↔(a.getD i.toNat 0=b.getD i.toNat 0/\a.drop (i+1).toNat=b.drop (i+1).toNat):=by have e:(i+1).toNat=i.toNat+1:=Yp;rw[QD Yp,QD (l:=b) Yp,e];simp only[List.cons.injEq,List.getD,Q1 (show i.toNat<a.length by omega),Q1 (show i.toNat<b.length by omega),Xf]
theorem c24:Contract Tryz.prog cfg 24 Zfo:=by
 refine ZHt ?_;intro a b _ hp;simp only[Ziv]at hp;refine ZNR _ _ _ ?_;(try simp only[iB,vcT,forall_eq]);(simp only[iB,vcS]);(try simp only[iB,vcT]);refine⟨λhc=>?_,λhc=>?_⟩
 .have e:decide (a=b)=false:=by
   simp only[decide_eq_false_iff_not];rintro rfl;omega
  simp only[Zmm,e];exact⟨⟨rfl,⟨rfl,trivial⟩,trivial⟩,trivial⟩
 .have hl:a.length=b.length:=Yp;refine Z6 (ι:=Int) (λp=>Zbi a b p) (λp=>0<=p/\p<=a.length/\(a=b↔a.drop p.toNat=b.drop p.toNat)) (λp=>((a.length:Int)-p).toNat) 0 rfl ⟨Yp,Yp,by simp⟩ ?_;rintro i⟨h1,h2,d⟩;refine ZBT _ _ _ _ _ ?_;(try simp only[iB,vcT,forall_eq]);(simp only[iB,vcS]);(try simp only[iB,vcT]);refine⟨λhc=>⟨Yp,Yp,λhn=>?_,λhe=>⟨V2,i+1,rfl,⟨Yp,Yp,?_⟩,Yp⟩⟩,λhc=>?_⟩
  .have e:decide (a=b)=false:=by simp only[decide_eq_false_iff_not,d];rw[Zex h1 hc Yp];exact λh=>hn h.1
   simp only[Zmm,e];exact⟨⟨rfl,⟨rfl,trivial⟩,trivial⟩,trivial⟩
  .rw[d,Zex h1 hc Yp];exact⟨λh=>h.2,λh=>⟨by simpa using he,h⟩⟩
  .have e:decide (a=b)=true:=by simp only[decide_eq_true_eq,d];rw[QN Yp,QN Yp]
   simp only[Zmm,e];exact⟨⟨rfl,⟨rfl,trivial⟩,trivial⟩,trivial⟩
theorem c63:Contract Tryz.prog cfg 63 Z1v:=by
 refine ZH6 ?_;intro t i _ d;refine ZNh _ _ _ ?_;(try simp only[iB,vcT,forall_eq]);(simp only[iB,vcS]);(try simp only[iB,vcT]);(repeat(refine And.intro (by first|omega|(unfold InR;omega)|(dsimp only;omega)) ?_));refine⟨λhc=>?_,λhc=>⟨Yp,?_⟩⟩
 .have e:Zs t i=0:=by
   unfold Zs;split;.try rfl
   .grind
  simp only[ZrJ,e];exact⟨⟨rfl,⟨⟨rfl,rfl⟩,trivial⟩,trivial⟩,trivial⟩
 .have e:Zs t i=t.words.getD i.toNat 0:=by unfold Zs;omega
  simp only[ZrJ,e];exact⟨⟨rfl,⟨⟨rfl,rfl⟩,trivial⟩,trivial⟩,trivial⟩
theorem c64:Contract Tryz.prog cfg 64 Z1X:=by
 refine ZH5 ?_;intro t i _ d;refine ZNg _ _ _ ?_;(try simp only[iB,vcT,forall_eq]);(simp only[iB,vcS]);(try simp only[iB,vcT]);(repeat(refine And.intro (by first|omega|(unfold InR;omega)|(dsimp only;omega)) ?_));refine⟨λhc=>?_,λhc=>⟨Yp,?_⟩⟩
 .have e:Zo t i=Tree.nil:=by
   unfold Zo;split;.try rfl
   .grind
  simp only[ZrI,e];exact⟨⟨rfl,⟨⟨rfl,rfl⟩,⟨rfl,⟨rfl,trivial⟩⟩⟩,trivial⟩,trivial⟩
 .have e:Zo t i=t.kids.getD i.toNat Tree.nil:=by unfold Zo;grind
  simp only[ZrI,e];exact⟨⟨rfl,⟨⟨rfl,rfl⟩,⟨rfl,trivial⟩,⟨rfl,trivial⟩,trivial⟩,trivial⟩,trivial⟩
theorem c62:Contract Tryz.prog cfg 62 Zfo:=by
 refine ZH7 ?_;intro a b _ hp;simp only[Ziv]at hp;refine ZNi _ _ _ ?_;(try simp only[iB,vcT,forall_eq]);(simp only[iB,vcS]);(try simp only[iB,vcT]);refine⟨λhc=>?_,λhc=>?_⟩
 .have e:decide (a=b)=false:=by
   simp only[decide_eq_false_iff_not];rintro rfl;omega
  simp only[Zmm,e];exact⟨⟨rfl,⟨rfl,trivial⟩,trivial⟩,trivial⟩
 .have hl:a.length=b.length:=Yp;refine Z6 (ι:=Int) (λp=>ZaX a b p) (λp=>0<=p/\p<=a.length/\(a=b↔a.drop p.toNat=b.drop p.toNat)) (λp=>((a.length:Int)-p).toNat) 0 rfl ⟨Yp,Yp,by simp⟩ ?_;rintro i⟨h1,h2,d⟩;refine ZBp _ _ _ _ _ ?_;(try simp only[iB,vcT,forall_eq]);(simp only[iB,vcS]);(try simp only[iB,vcT]);refine⟨λhc=>⟨Yp,Yp,λhn=>?_,λhe=>⟨V2,i+1,rfl,⟨Yp,Yp,?_⟩,Yp⟩⟩,λhc=>?_⟩
  .have e:decide (a=b)=false:=by simp only[decide_eq_false_iff_not,d];rw[Zex h1 hc Yp];exact λh=>hn h.1
   simp only[Zmm,e];exact⟨⟨rfl,⟨rfl,trivial⟩,trivial⟩,trivial⟩
  .rw[d,Zex h1 hc Yp];exact⟨λh=>h.2,λh=>⟨by simpa using he,h⟩⟩
  .have e:decide (a=b)=true:=by simp only[decide_eq_true_eq,d];rw[QN Yp,QN Yp]
   simp only[Zmm,e];exact⟨⟨rfl,⟨rfl,trivial⟩,trivial⟩,trivial⟩
theorem ZnL{a b:List Tree}{i:Int}(hi:0<=i)(ha:i<a.length)(hb:i<b.length):(a.drop i.toNat=b.drop i.toNat)↔(a.getD i.toNat Tree.nil=b.getD i.toNat Tree.nil/\a.drop (i+1).toNat=b.drop (i+1).toNat):=by have e:(i+1).toNat=i.toNat+1:=Yp;rw[QD Yp,QD (l:=b) Yp,e];simp only[List.cons.injEq,List.getD,Q1 (show i.toNat<a.length by omega),Q1 (show i.toNat<b.length by omega),Xf]
theorem YS{a b:Tree}:ZN a b=true↔a=b:=by simp[ZN]
theorem JN{a b:Tree}:ZN a b=false↔¬a=b:=by simp[ZN]
theorem ZT:∀(ks:List Tree),ks.length<=Z5 ks
 |[]=>by simp[Z5]|t::r=>by
  have:=ZT r;have:1<=mass t:=by cases t;simp only[mass];omega
  simp only[Z5,Qa];omega
theorem c11:Contract Tryz.prog cfg 11 Z6k:=by
 refine ZHA c24 ?_;rintro N⟨k,ws,ks⟩⟨k',ab,d⟩_ hp hN;have ak:=ZT ks;simp only[Z8o,Zup,mass]at hp hN;refine ZO3 N _ _ _ ?_;(try simp only[iB,vcT,forall_eq]);(simp only[iB,vcS]);(try simp only[iB,vcT]);try(simp only[vE])
 have ah:Ziv (ws,ab,()):=by simp only[Ziv];omega
 refine⟨λ_=>ah,λhc=>?_,λhc=>?_⟩
 .have e:ZN (.mk k ws ks) (.mk k' ab d)=false:=by
   rw[JN];intro h;cases h;simp at hc
  simp only[Zig,e];exact⟨⟨rfl,⟨rfl,trivial⟩,trivial⟩,trivial⟩
 .have af:(k=k'/\ws=ab)/\ks.length=d.length:=⟨hc.1,Yp⟩;obtain⟨⟨rfl,rfl⟩,hl⟩:=af;refine Z6 (ι:=Int) (λp=>Zbr (.mk k ws ks) (.mk k ws d) p) (λp=>0<=p/\p<=ks.length/\(Tree.mk k ws ks=.mk k ws d↔ks.drop p.toNat=d.drop p.toNat)) (λp=>((ks.length:Int)-p).toNat) 0 rfl ⟨Yp,Yp,by simp⟩ ?_;rintro i⟨h1,h2,h3⟩;refine ZC3 N _ _ _ _ _ ?_;(try simp only[iB,vcT,forall_eq]);(simp only[iB,vcS]);(try simp only[iB,vcT]);try(simp only[vE])
  refine⟨λhc=>⟨Yp,Yp,?_,?_,λhn=>?_,λhe=>⟨V2,i+1,rfl,⟨Yp,Yp,?_⟩,Yp⟩⟩,λhc=>?_⟩;.have:=Z1p (ks:=ks) (i:=i.toNat) Yp;simp only[Z8o];omega
  .have:=Z1p (ks:=ks) (i:=i.toNat) Yp;simp only[Zup];omega
  .have e:ZN (.mk k ws ks) (.mk k ws d)=false:=by rw[JN,h3,ZnL h1 hc Yp];rw[JN]at hn;exact λh=>hn h.1
   simp only[Zig,e];exact⟨⟨rfl,⟨rfl,trivial⟩,trivial⟩,trivial⟩
  .rw[h3,ZnL h1 hc Yp];exact⟨λh=>h.2,λh=>⟨YS.1 he,h⟩⟩
  .have e:ZN (.mk k ws ks) (.mk k ws d)=true:=by rw[YS,h3];rw[QN Yp,QN Yp]
   simp only[Zig,e];exact⟨⟨rfl,⟨rfl,trivial⟩,trivial⟩,trivial⟩
theorem ZbU:∀(l:List Int),trim (l++[0])=trim l|[]=>rfl|x::r=>by show(match trim (r++[0])with|[]=>if x=0 then[]else[x]|y::s=>x::y::s)=_;rw[ZbU r];try rfl
theorem Zjy{x:Int}(hx:x≠0):∀(l:List Int),trim (l++[x])=l++[x]|[]=>by simp[trim,hx]|y::r=>by show(match trim (r++[x])with|[]=>if y=0 then[]else[y]|z::s=>y::z::s)=_;rw[Zjy hx r];cases r<;>rfl
theorem ZbX{l:List Int}{i:Int}(h0:0<i)(hi:i<=l.length):l.take i.toNat=l.take (i-1).toNat++[l.getD (i-1).toNat 0]:=by have e:i.toNat=(i-1).toNat+1:=Yp;rw[e,List.take_add_one];simp only[List.getD,Q1 (show(i-1).toNat<l.length by omega),Option.toList,Xf]
theorem c25:Contract Tryz.prog cfg 25 Zfn:=by
 refine ZHs ?_;intro l _ hp;simp only[ZmK]at hp;refine ZNQ _ _ ?_;(try simp only[iB,vcT,forall_eq]);refine Z6 (ι:=Int) (λp=>Zbh l p) (λp=>0<=p/\p<=l.length/\trim (l.take p.toNat)=trim l) (λp=>p.toNat) (l.length:Int) rfl ⟨Yp,Yp,by simp⟩ ?_;rintro i⟨h1,h2,d⟩;refine ZBS _ _ _ _ ?_;(try simp only[iB,vcT,forall_eq]);(simp only[iB,vcS]);(try simp only[iB,vcT]);refine⟨λh=>by unfold InR;omega,λh=>by omega,λhc=>⟨V2,i-1,rfl,⟨Yp,Yp,?_⟩,Yp⟩,λhc=>⟨Yp,?_,?_⟩⟩;.rw[ZbX hc.1 h2,hc.2,ZbU]at d;exact d
 .simp only[Qm,Qu];omega
 .have e:trim l=[]++l.take i.toNat:=by
   rw[<-d];by_cases h0:0<i
   .rw[ZbX h0 h2,Zjy Yp];try rfl
   .have:i.toNat=0:=Yp;rw[this];try rfl
  simp only[Zwt,e];exact⟨⟨rfl,⟨⟨rfl,trivial⟩,trivial⟩,trivial⟩,trivial⟩
theorem ZlI:∀(l:List Int),(trim l).length<=l.length|[]=>by simp[trim]|x::r=>by have:=ZlI r;simp only[trim];grind
theorem ZeU:∀(l:List Tree),Z5 (Yq l)<=Z5 l
 |[]=>by simp[Yq]|x::r=>by
  have:=ZeU r;simp only[Yq];split
  .split;.simp[Z5]
   .simp[Z5]
  .rename_i h;rw[h]at this;simp only[Z5]at*;omega
mutual theorem ZI:∀(t:Tree),mass (Z0 t)<=mass t
 |.mk k w ks=>by
  have d:=Zgf ks;have h2:=ZlI w;have h3:=ZeU (Yx ks);simp only[Z0];split;.simp only[Tree.nil,mass,Z5,Qm];omega
  .split;.simp only[mass];omega
   .simp only[mass];omega theorem Zgf:∀(ks:List Tree),Z5 (Yx ks)<=Z5 ks|[]=>by simp[Yx]|t::r=>by have d:=ZI t;have h2:=Zgf r;simp only[Yx,Z5];omega end
theorem Zct:∀(l:List Tree)(x:Tree),Yx (l++[x])=Yx l++[Z0 x]|[],x=>rfl|y::r,x=>by simp only[Qo,Yx,Zct r x]
theorem Z24:∀(l:List Tree),(Yx l).length=l.length|[]=>rfl|y::r=>by simp only[Yx,Qa,Z24 r]
theorem Z8z{x:Tree}(hx:x.kind=0):∀(l:List Tree),Yq (l++[x])=Yq l|[]=>by simp[Yq,hx]|y::r=>by show(match Yq (r++[x])with|[]=>if y.kind=0 then[]else[y]|z::s=>y::z::s)=_;rw[Z8z hx r];try rfl
theorem ZeT{x:Tree}(hx:x.kind≠0):∀(l:List Tree),Yq (l++[x])=l++[x]|[]=>by simp[Yq,hx]|y::r=>by show(match Yq (r++[x])with|[]=>if y.kind=0 then[]else[y]|z::s=>y::z::s)=_;rw[ZeT hx r];cases r<;>rfl
theorem Z8A{l:List Tree}{i:Int}(h0:0<=i)(hi:i<l.length):l.take (i+1).toNat=l.take i.toNat++[l.getD i.toNat Tree.nil]:=by have e:(i+1).toNat=i.toNat+1:=Yp;simp_all
theorem c12:Contract Tryz.prog cfg 12 Zfs:=by
 refine ZHz c25 ?_;rintro N⟨k,ws,ks⟩_ hp hN;have al:=ZT ks;simp only[ZfY,Zuo,mass]at hp hN;refine ZO2 N _ _ ?_;(try simp only[iB,vcT,forall_eq]);(simp only[iB,vcS]);(try simp only[iB,vcT]);try(simp only[vE])
 refine⟨λhc=>?_,λaj=>?_⟩
 .have e:Z0 (.mk k ws ks)=Tree.nil:=by simp[Z0,hc]
  simp only[Zif,e];exact⟨⟨rfl,⟨⟨rfl,rfl⟩,⟨rfl,⟨rfl,trivial⟩⟩⟩,trivial⟩,trivial⟩
 .refine Z6 (ι:=Int×Int×List Tree) (λp=>Z74 (.mk k ws ks) p.1 p.2.1 p.2.2) (λp=>0<=p.2.1/\p.2.1<=ks.length/\0<=p.1/\p.1<=p.2.1/\p.2.2=Yx (ks.take p.2.1.toNat)/\Yq (Yx (ks.take p.2.1.toNat))=p.2.2.take p.1.toNat) (λp=>((ks.length:Int)-p.2.1).toNat) (0,0,[]) rfl ⟨by grind,by grind,Yp,by grind,rfl,rfl⟩ ?_;rintro⟨aa,i,l⟩⟨h1,h2,h3,h4,h5,h6⟩;dsimp only at*;have hl:l.length=i.toNat:=by rw[h5,Z24,Qu];omega
  refine ZC2 N _ _ _ _ _ _ ?_;(try simp only[iB,vcT,forall_eq]);(simp only[iB,vcS]);(try simp only[iB,vcT]);try(simp only[vE])
  refine⟨λhc=>?_,λhc=>⟨λh1=>⟨?_,Yp,?_⟩,λhk=>⟨?_,?_⟩⟩⟩
  .have hm:=Z1p (ks:=ks) (i:=i.toNat) Yp;have d:Yx (ks.take (i+1).toNat)=l++[Z0 (ks.getD i.toNat Tree.nil)]:=by rw[Z8A h1 hc,Zct,h5]
   refine⟨Yp,by simp only[ZfY];omega,by simp only[Zuo];omega,by simp only[Qa,Qm];omega,λhk=>⟨V2,V2,(i+1,i+1,_),rfl,⟨by grind,by grind,Yp,by grind,d.symm,?_⟩,by grind⟩,λhk=>⟨V2,(aa,i+1,_),rfl,⟨by grind,by grind,Yp,by grind,d.symm,?_⟩,by grind⟩⟩;.dsimp only;rw[d,ZeT hk,QA (by simp;omega)]
   .dsimp only;rw[d,Z8z hk,XB Yp,<-h6,h5]
  .simp only[ZmK];omega
  .have hi:ks.take i.toNat=ks:=QA Yp;rw[hi]at h5 h6;have e:Z0 (.mk k ws ks)=.mk 1 (trim ws) (l.take aa.toNat):=by subst h1;simp only[Z0,<-h6];try rfl
   simp only[Zif,e];exact⟨⟨rfl,⟨⟨rfl,rfl⟩,⟨rfl,trivial⟩,⟨rfl,trivial⟩,trivial⟩,trivial⟩,trivial⟩
  .grind
  .have hi:ks.take i.toNat=ks:=QA Yp;rw[hi]at h5;have e:Z0 (.mk k ws ks)=.mk k ([]++ws) l:=by simp only[Z0,if_neg aj,if_neg hk,h5];try rfl
   simp only[Zif,e];exact⟨⟨rfl,⟨⟨rfl,rfl⟩,⟨rfl,trivial⟩,⟨rfl,trivial⟩,trivial⟩,trivial⟩,trivial⟩
theorem Zsx{l:List Int}(h0:0<(l.length:Int)):l=l.take ((l.length:Int)-1).toNat++[l.getD ((l.length:Int)-1).toNat 0]:=by have:=ZbX h0 (QY _);rw[QA Yp]at this;exact this
theorem Znh{l:List Tree}(h0:0<(l.length:Int)):l=l.take ((l.length:Int)-1).toNat++[l.getD ((l.length:Int)-1).toNat Tree.nil]:=by have:=Z8A (l:=l) (i:=(l.length:Int)-1) Yp Yp;rw[QA Yp]at this;exact this
theorem ZtP{l:List Int}(h0:0<(l.length:Int))(hz:l.getD ((l.length:Int)-1).toNat 0=0):trim (l.take ((l.length:Int)-1).toNat)=trim l:=by have e:=ZbU (l.take ((l.length:Int)-1).toNat);have h:=Zsx h0;grind
theorem ZtR{l:List Int}(h:¬0<(l.length:Int)\/¬l.getD ((l.length:Int)-1).toNat 0=0):trim l=l:=by
 by_cases h0:0<(l.length:Int)
 .have e:=Zjy (x:=l.getD ((l.length:Int)-1).toNat 0) Yp (l.take ((l.length:Int)-1).toNat);rw[<-Zsx h0]at e;exact e
 .have:l=[]:=Q0 Yp;subst this;try rfl
theorem Zon{l:List Tree}(h0:0<(l.length:Int))(hz:(l.getD ((l.length:Int)-1).toNat Tree.nil).kind=0):Yq (l.take ((l.length:Int)-1).toNat)=Yq l:=by have e:=Z8z hz (l.take ((l.length:Int)-1).toNat);rw[<-Znh h0]at e;exact e.symm
theorem Zop{l:List Tree}(h:¬0<(l.length:Int)\/¬(l.getD ((l.length:Int)-1).toNat Tree.nil).kind=0):Yq l=l:=by
 by_cases h0:0<(l.length:Int)
 .have e:=ZeT (x:=l.getD ((l.length:Int)-1).toNat Tree.nil) Yp (l.take ((l.length:Int)-1).toNat);rw[<-Znh h0]at e;exact e
 .have:l=[]:=Q0 Yp;subst this;try rfl
theorem c22:Contract Tryz.prog cfg 22 Zfs:=by
 refine ZHu c42 ?_;rintro N⟨k,ws,ks⟩_ hp hN;have ah:=ZT ks;simp only[ZfY,Zuo,mass]at hp hN;refine ZNT N _ _ ?_;(try simp only[iB,vcT,forall_eq]);(simp only[iB,vcS]);(try simp only[iB,vcT]);try(simp only[vE])
 refine⟨λhc=>?_,λaa=>⟨by simp only[ZmK];omega,?_⟩⟩
 .have e:Z0 (.mk k ws ks)=Tree.nil:=by simp[Z0,hc]
  simp only[Zif,e];exact⟨⟨rfl,⟨⟨rfl,rfl⟩,⟨rfl,⟨rfl,trivial⟩⟩⟩,trivial⟩,trivial⟩
 .refine Z6 (ι:=Int×List Tree) (λp=>Zbl (.mk k ws ks) p.1 p.2) (λp=>0<=p.1/\p.1<=ks.length/\p.2=Yx (ks.take p.1.toNat)) (λp=>((ks.length:Int)-p.1).toNat) (0,[]) rfl ⟨Yp,Yp,rfl⟩ ?_;rintro⟨i,l⟩⟨h1,h2,d⟩;dsimp only at*;have hl:l.length=i.toNat:=by rw[d,Z24,Qu];omega
  refine ZBW N _ _ _ _ _ ?_;(try simp only[iB,vcT,forall_eq]);(simp only[iB,vcS]);(try simp only[iB,vcT]);try(simp only[vE])
  refine⟨λhc=>?_,λhc=>⟨λhk=>?_,λhk=>?_⟩⟩
  .have hm:=Z1p (ks:=ks) (i:=i.toNat) Yp;have ab:Yx (ks.take (i+1).toNat)=l++[Z0 (ks.getD i.toNat Tree.nil)]:=by rw[Z8A h1 hc,Zct,d]
   exact⟨Yp,by simp only[ZfY];omega,by simp only[Zuo];omega,by simp only[Qa,Qm];omega,V2,(i+1,_),rfl,⟨Yp,Yp,ab.symm⟩,Yp⟩
  .have hi:ks.take i.toNat=ks:=QA Yp;rw[hi]at d;refine Z6 (ι:=List Int) (λp=>Zbk (.mk k ws ks) l p) (λp=>p.length<=ws.length/\trim p=trim ws) (λp=>p.length) ws rfl ⟨Yp,rfl⟩ ?_;rintro w⟨h6,h7⟩;refine ZBV N _ _ _ _ _ ?_;(try simp only[iB,vcT,forall_eq]);(simp only[iB,vcS]);(try simp only[iB,vcT]);refine⟨λh=>by unfold InR;omega,λh=>by omega,λhc=>⟨V2,Yp,_,rfl,⟨by rw[List.length_take];omega,?_⟩,by rw[List.length_take];omega⟩,λhc=>?_⟩;.rw[ZtP hc.1 hc.2,h7]
   .have hw:w=trim ws:=by rw[<-h7,ZtR hc]
    refine Z6 (ι:=List Tree) (λp=>Zbj (.mk k ws ks) w p) (λp=>p.length<=l.length/\Yq p=Yq l) (λp=>p.length) l rfl ⟨Yp,rfl⟩ ?_;rintro q⟨h8,h9⟩;refine ZBU N _ _ _ _ _ ?_;(try simp only[iB,vcT,forall_eq]);(simp only[iB,vcS]);(try simp only[iB,vcT]);refine⟨λh=>by unfold InR;omega,λh=>by omega,λhc=>⟨V2,Yp,_,rfl,⟨by rw[List.length_take];omega,?_⟩,by rw[List.length_take];omega⟩,λhc=>?_⟩;.rw[Zon hc.1 hc.2,h9]
    .have hq:q=Yq (Yx ks):=by rw[<-d,<-h9,Zop hc]
     have e:Z0 (.mk k ws ks)=.mk k w q:=by subst hk;simp only[Z0,hw,hq];try rfl
     simp only[Zif,e];trivial
  .have hi:ks.take i.toNat=ks:=QA Yp;rw[hi]at d;have e:Z0 (.mk k ws ks)=.mk k ws l:=by simp only[Z0,if_neg aa,if_neg hk,d]
   simp only[Zif,e];trivial
noncomputable section
def ZAf:ArgL (Int×Unit):=(.cons (ZR .i64) .nil)
def Zxh(a:Int×Unit):Prop:=True
def ZFd(a:Int×Unit):V U:=.c (ci (wd a.1))
def Zfh:Fs U:=fs ZAf (λa=>[Zxh a]) ZFd
def ZAl:ArgL (Int×Int×Unit):=(.cons (ZR .i64) (.cons (ZR .u64) .nil))
def Zs2(a:Int×Int×Unit):Prop:=0<=a.2.1/\a.2.1<18446744073709551616
def ZFj(a:Int×Int×Unit):V U:=.c (.bool (ZuU a.1 a.2.1))
def Zfm:Fs U:=fs ZAl (λa=>[Zs2 a]) ZFj
def ZFh(a:Int×Unit):V U:=.c (.bool (decide (2<=a.1/\a.1<=9)))
def ZjM:Fs U:=fs ZAf (λa=>[Zxh a]) ZFh
def Z60(a:Tree×Int×Unit):Prop:=mass a.1<=20000000000/\rng a.1/\0<=a.2.1/\a.2.1<=1000
def Zpp(a:Tree×Int×Unit):Nat:=mass a.1
def ZwB(a:Tree×Int×Unit):V U:=.c (.bool (Zb a.1 a.2.1))
def Z2F:Fs U:=fs ZA8 (λa=>[Z60 a]) ZwB
def ZI5:Za U:=lvl [([0],[]),([3],[]),([3,4],[]),([2],[]),([3,6],[]),([2],[]),([3,8],[]),([2],[]),([3,10],[]),([2],[]),([3,12],[]),([2],[]),([14],[]),([2],[]),([2],[])]
abbrev A48(p:List Nat):=AW (Z2 Zqj) Tryz.f48 ZI5 p
theorem ZNv(c:Int)(Q:QT)(h:(iB (c==0) ((Q .ret (L2 [pI 2 0] []))) ((iB (c==1) ((Q .ret (L2 [pI 2 1] []))) ((iB (c==2) ((Q .ret (L2 [pI 2 8] []))) ((iB (c==3) ((Q .ret (L2 [pI 2 16] []))) ((iB (c==4) ((Q .ret (L2 [pI 2 32] []))) ((iB (c==5) ((Q .ret (L2 [pI 2 64] []))) ((Q .ret (L2 [pI 2 (-1)] []))))))))))))))):A48 [] (L2 [pI 0 c] []) Q:=Eq.mpr V3 h
def ZKb(c:Int):Prop:=AW (Z2 Zqj) Tryz.f48 ZI5 [] (Zg (ZAf.can (c,())) []) (EQ Tryz.f48 (ZFd (c,())) [])
theorem ZHg(hb:∀(c:Int)(_:Unit),Zxh (c,())->ZKb c):CT 48 Zfh:=Z1 (l:=[]) Zf rfl trivial ZI5 Tryz.func48 rfl rfl 1 (λ_=>rfl) V0 (λ⟨c,_⟩=>hb c ())
def Zqf:List (FuncId×Fs U):=[(48,Zfh)]
def ZDA:Za U:=lvl [([0,1],[]),([1,5],[]),([1,5,10],[]),([4],[]),([1,5,6],[]),([1,5,6,13],[]),([1,5,6],[]),([1,5,6],[]),([4],[])]
def Zbb(c n x1 d:Int):LSt U:=(L2 [(1,.c (.int .u64 x1)),pI 5 (wd c),pI 6 d] [])
abbrev A31(p:List Nat):=AW (Z2 Zqf) Tryz.f31 ZDA p
abbrev S31(p:List Nat):=SW (Z2 Zqf) Tryz.f31 ZDA p
theorem ZNL(c n:Int)(Q:QT)(h:((Zxh (c,()))/\(iB (decide (((wd c):Int)<0)) ((Q .ret (L2 [pB 4 false] []))) ((Zk (A31 [1,1,1,0,1,0,0]) (Zbb c n n 0) (xB 0 (S31 [1,1,1,1] Q))))))):A31 [] (L2 [pI 0 c,(1,.c (.int .u64 n))] []) Q:=Eq.mpr V3 h
theorem ZBL(c n x1 d:Int)(N0:NT)(Q:QT)(h:(iB (decide (d<(wd c))) (((2:Int)≠0)/\((InR (d+1))/\(N0 (Zbb c n (IntKind.wrap .u64 (Int.tdiv x1 2)) (d+1))))) ((Q .ret (L2 [pB 4 (x1==0)] []))))):A31 [1,1,1,0,1,0,0] (Zbb c n x1 d) (xT N0 (xB 0 (S31 [1,1,1,1] Q))):=Eq.mpr V3 h
def ZKr(c n:Int):Prop:=AW (Z2 Zqf) Tryz.f31 ZDA [] (Zg (ZAl.can (c,n,())) []) (EQ Tryz.f31 (ZFj (c,n,())) [])
theorem ZHo(c48:CT 48 Zfh)(hb:∀(c:Int)(n:Int)(_:Unit),Zs2 (c,n,())->ZKr c n):CT 31 Zfm:=Z1 (l:=[(48,Zfh)]) Zf rfl (⟨c48,trivial⟩) ZDA Tryz.func31 rfl rfl 2 (λ_=>rfl) V0 (λ⟨c,n,_⟩=>hb c n ())
def ZI9:Za U:=lvl [([0],[]),([2],[])]
abbrev A40(p:List Nat):=AW (Z2 Zqj) Tryz.f40 ZI9 p
theorem ZNC(k:Int)(Q:QT)(h:let z0:=decide ((2:Int)<=k);((Tt z0)/\(Tt z0)/\(Q .ret (L2 [(2,.c (.bool (bif z0 then(decide (k<=9))else false)))] [])))):A40 [] (L2 [pI 0 k] []) Q:=Eq.mpr V3 h
def ZKi(k:Int):Prop:=AW (Z2 Zqj) Tryz.f40 ZI9 [] (Zg (ZAf.can (k,())) []) (EQ Tryz.f40 (ZFh (k,())) [])
theorem ZHk(hb:∀(k:Int)(_:Unit),Zxh (k,())->ZKi k):CT 40 ZjM:=Z1 (l:=[]) Zf rfl trivial ZI9 Tryz.func40 rfl rfl 1 (λ_=>rfl) V0 (λ⟨k,_⟩=>hb k ())
def Zql(N:Nat):List (FuncId×Fs U):=(15,fs ZA8 (λa=>[Z60 a,Zpp a<N]) ZwB)::[(31,Zfm)]
def ZDG:Za U:=lvl [([1,2],[2]),([1,2,10],[2]),([4],[]),([1,2,23],[2]),([4],[]),([1,2,68],[2]),([4],[]),([1,2,77],[2]),([4],[]),([1,2,5],[2]),([1,2,5,82],[2]),([1,2,5],[2]),([1,2,5,6],[2,6]),([1,2,5,6,94],[2,6]),([4],[]),([1,2,5,6,7],[2,6]),([1,2,5,131],[2]),([4],[]),([4],[])]
def Zbn(t:Tree)(d x5:Int):LSt U:=(L2 [pI 1 d,pL 2,pI 5 x5] [(.loc 2,(enc .tree t))])
abbrev A15(N:Nat)(p:List Nat):=AW (Z2 (Zql N)) Tryz.f15 ZDG p
abbrev S15(N:Nat)(p:List Nat):=SW (Z2 (Zql N)) Tryz.f15 ZDG p
theorem ZO0(N:Nat)(t:Tree)(d:Int)(Q:QT)(h:let z10:=(Q .ret (L2 [pB 4 false] []));let z9:=((t.kids.length:Int):Int)==0;let z7:=decide (t.kind<0);let z6:=decide ((1:Int)<t.kind);let z5:=((t.words.length:Int):Int)==1;let z4:=((t.words.length:Int):Int)==0;let z1:=bif z7 then true else(decide ((10:Int)<t.kind));let z3:=bif z1 then true else(d==0);let z0:=bif z3 then true else(decide ((65536:Int)<=(t.words.length:Int)));let z8:=(!z0)&&(t.kind==1);let z2:=bif z0 then true else(bif(t.kind==1)then(decide ((65536:Int)<=(t.kids.length:Int)))else false);(iB (t.kind==0) ((Tt z4)/\(Tt z4)/\(Tt z4)/\(Tt z4)/\(Q .ret (L2 [(4,.c (.bool (bif z4 then z9 else false)))] []))) ((iB (t.kind==10) ((Tt z5)/\(Tt z5)/\(Tt z5)/\(Tt z5)/\(Q .ret (L2 [(4,.c (.bool (bif z5 then z9 else false)))] []))) ((Tt (!z7))/\(Tt (!z7))/\(z7=false->(!z7)=true)/\(Tt (!z1))/\(z1=false->(!z1)=true)/\(Tt (!z3))/\(Tt (!z3))/\(Tt (!z3))/\(z3=false->(!z3)=true)/\(Tt (!z0))/\(Tt (!z0))/\(Tt (!z0))/\(Tt z8)/\(Tt z8)/\(Tt z8)/\((!z0)=true->(True->(!z0)=true))/\((!z0)=true->((t.kind==1)=true->z8=true))/\(z0=false->(!z0)=true)/\(Tt (!z2))/\(Tt (!z2))/\(Tt (!z2))/\(z2=false->(!z2)=true)/\(iB (bif z2 then true else(decide ((1048576:Int)<=(t.kids.length:Int)))) z10 ((Tt z6)/\(Tt z6)/\(Tt z6)/\(Tt z6)/\(iB (bif z6 then(decide ((0:Int)<(t.words.length:Int)))else false) z10 ((Zk (A15 N [1,1,1,1,1,0,1,0,0]) (Zbn t d 0) (xB 0 (S15 N [1,1,1,1,1,1] Q)))))))))))):A15 N [] (L2 [(0,.agg (enc .tree t)),pI 1 d] []) Q:=Eq.mpr V3 h
theorem ZBY(N:Nat)(t:Tree)(d x5:Int)(N0:NT)(Q:QT)(h:∀aa,aa=(t.kids.getD x5.toNat Tree.nil)->∀ab,ab=aa->∀af,af=(List.getD aa.words (Int.toNat 0) (0:Int))->let z5:=(Q .ret (L2 [pB 4 false] []));let z3:=decide ((2:Int)<=t.kind);let z0:=bif z3 then(decide (t.kind<=7))else false;let z2:=z0 !=(aa.kind==10);let z4:=(!z2)&&(t.kind==9);let z1:=bif z2 then true else(bif(t.kind==9)then(aa.kind !=1)else false);(iB (decide (x5<(t.kids.length:Int))) (((0:Int)<=x5/\x5<(t.kids.length:Int))/\((InR (d-1))/\(Z60 (ab,(d-1),()))/\(Zpp (ab,(d-1),())<N)/\(iB (!(Zb ab (d-1))) z5 ((Tt z3)/\(Tt z3)/\(Tt z3)/\((Tt (!z2))/\(Tt (!z2))/\(Tt (!z2))/\(Tt z4)/\(Tt z4)/\((!z2)=true->(True->(!z2)=true))/\((!z2)=true->((t.kind==9)=true->z4=true))/\(z2=false->(!z2)=true)/\(Tt (!z1))/\(Tt ((!z1)&&z0))/\(Tt ((!z1)&&z0))/\(((!z1)&&z0)=true->InR (t.kind-2))/\(Tt ((!z1)&&z0))/\(Tt ((!z1)&&z0))/\(((!z1)&&z0)=true->(0:Int)<=0/\0<(aa.words.length:Int))/\(Tt ((!z1)&&z0))/\(Tt ((!z1)&&z0))/\(Tt ((!z1)&&z0))/\(((!z1)&&z0)=true->Zs2 ((t.kind-2),af,()))/\(Tt ((!z1)&&z0))/\((!z1)=true->(True->(!z1)=true))/\((!z1)=true->(z0=true->((!z1)&&z0)=true))/\(z1=false->(!z1)=true)/\(iB (bif z1 then true else(bif z0 then(!(ZuU (t.kind-2) af))else false)) z5 ((InR (x5+1))/\(N0 (Zbn t d (x5+1)))))))))) ((Q .ret (L2 [pB 4 true] []))))):A15 N [1,1,1,1,1,0,1,0,0] (Zbn t d x5) (xT N0 (xB 0 (S15 N [1,1,1,1,1,1] Q))):=Eq.mpr V3 (h _ rfl _ (Z3 _) _ rfl)
def ZKG(N:Nat)(t:Tree)(d:Int):Prop:=AW (Z2 (Zql N)) Tryz.f15 ZDG [] (Zg (ZA8.can (t,d,())) []) (EQ Tryz.f15 (ZwB (t,d,())) [])
theorem ZHy(c31:CT 31 Zfm)(hb:∀(N:Nat)(t:Tree)(d:Int)(_:Unit),Z60 (t,d,())->Zpp (t,d,())<N+1->ZKG N t d):CT 15 Z2F:=Z0H (μ:=Zpp) (l:=[(31,Zfm)]) Zf rfl (⟨c31,trivial⟩) ZDG Tryz.func15 rfl rfl 2 (λ_=>rfl) V0 (λN⟨t,d,_⟩=>hb N t d ())
end
theorem Z5a:∀(l:List Int),trim l=[]↔∀i:Nat,l.getD i 0=0
 |[]=>by simp[trim]|x::r=>by
  have ih:=Z5a r;constructor
  .intro h i;simp only[trim]at h;split at h
   .rename_i d;split at h;.cases i with|zero=>simpa|succ i=>simp_all
    .cases h
   .cases h
  .intro h;have h0:=h 0;have d:trim r=[]:=ih.2 λi=>by simpa using h (i+1)
   simp only[trim,d];grind
theorem Z2U(x:Int)(r:List Int):trim (x::r)=if trim r=[]/\x=0 then[]else x::trim r:=by simp only[trim];grind
theorem Zd7:∀(a b:List Int),trim a=trim b↔∀i:Nat,a.getD i 0=b.getD i 0
 |[],b=>by rw[show trim []=[]from rfl,eq_comm,Z5a];simp[eq_comm]|x::r,[]=>by rw[show trim []=[]from rfl,Z5a];simp|x::r,y::s=>by
  have ih:=Zd7 r s;constructor
  .intro h i;have aa:x=y/\trim r=trim s:=by
    rw[Z2U,Z2U]at h;grind
   cases i with|zero=>grind|succ i=>simp_all
  .intro h;have d:x=y:=by simpa using h 0
   have hr:trim r=trim s:=ih.2 λi=>by simpa using h (i+1)
   rw[Z2U,Z2U,d,hr]
def ZEd(l:List Tree):Prop:=∀x∈l,x.kind=0->x=Tree.nil
theorem Z0p(x:Tree)(r:List Tree):Yq (x::r)=if Yq r=[]/\x.kind=0 then[]else x::Yq r:=by simp only[Yq];grind
theorem Z44:∀(l:List Tree),ZEd l->(Yq l=[]↔∀i:Nat,l.getD i Tree.nil=Tree.nil)
 |[],_=>by simp[Yq]|x::r,hn=>by
  have ih:=Z44 r (λy hy=>hn y (Q3 _ hy));have hx:=hn x (Q5 ..);rw[Z0p];constructor
  .intro h i;split at h
   .rename_i hc;cases i with
    |zero=>grind|succ i=>simp_all
   .cases h
  .intro h;have d:x=Tree.nil:=by simpa using h 0
   have hr:Yq r=[]:=ih.2 λi=>by simpa using h (i+1)
   rw[if_pos ⟨hr,by rw[d];rfl⟩]
theorem Z9p:∀(a b:List Tree),ZEd a->ZEd b->(Yq a=Yq b↔∀i:Nat,a.getD i Tree.nil=b.getD i Tree.nil)
 |[],b,_,hb=>by
  rw[show Yq []=[]from rfl,eq_comm,Z44 b hb];simp[eq_comm]|x::r,[],ha,_=>by rw[show Yq []=[]from rfl,Z44 _ ha];simp|x::r,y::s,ha,hb=>by
  have ih:=Z9p r s (λy d=>ha y (Q3 _ d)) (λy d=>hb y (Q3 _ d));have hx:=ha x (Q5 ..);have d:=hb y (Q5 ..);constructor
  .intro h i;have ab:x=y/\Yq r=Yq s:=by
    rw[Z0p,Z0p]at h;split at h<;>split at h;.grind
    .cases h
    .cases h
    .simpa using h
   cases i with|zero=>grind|succ i=>simp_all
  .intro h;have h0:x=y:=by simpa using h 0
   have hr:Yq r=Yq s:=ih.2 λi=>by simpa using h (i+1)
   rw[Z0p,Z0p,h0,hr]
theorem Ziz:Z0 Tree.nil=Tree.nil:=by rfl
theorem Z93(t:Tree):(Z0 t).kind=t.kind:=by
 obtain⟨k,w,ks⟩:=t;simp only[Z0];split;.rename_i h;simp[h,Tree.nil]
 .split;.rename_i h;simp[h]
  .try rfl
theorem Z95:∀(l:List Tree),ZEd (Yx l)
 |[]=>by intro x d;trivial|t::r=>by
  intro x d hk;simp only[Yx,Q9]at d;rcases d with rfl|d;.rw[Z93]at hk;obtain⟨k,w,ks⟩:=t;simp only[Tree.kind_mk]at hk;simp[Z0,hk]
  .exact Z95 r x d hk
theorem Z1a:∀(l:List Tree)(i:Nat),(Yx l).getD i Tree.nil=Z0 (l.getD i Tree.nil)|[],i=>by rfl|t::r,0=>by simp[Yx]|t::r,i+1=>by simpa[Yx]using Z1a r i
theorem Zax(a b:List Tree):Yx a=Yx b↔a.length=b.length/\∀i:Nat,Z0 (a.getD i Tree.nil)=Z0 (b.getD i Tree.nil):=by
 constructor
 .intro h;refine⟨by rw[<-Z24 a,h,Z24],λi=>?_⟩;rw[<-Z1a,h,Z1a]
 .rintro⟨hl,h⟩;apply List.ext_getElem (by rw[Z24,Z24,hl]);intro i d h2;have:=h i;rw[<-Z1a,<-Z1a]at this;grind
theorem YZ(a b:Tree):Z0 a=Z0 b↔a.kind=b.kind/\(a.kind=0\/(if a.kind=1 then(∀i:Nat,a.words.getD i 0=b.words.getD i 0)else a.words=b.words/\a.kids.length=b.kids.length)/\∀i:Nat,Z0 (a.kids.getD i Tree.nil)=Z0 (b.kids.getD i Tree.nil)):=by
 obtain⟨k,w,ks⟩:=a;obtain⟨k',w',d⟩:=b;show _↔k=k'/\(k=0\/(if k=1 then(∀i:Nat,w.getD i 0=w'.getD i 0)else w=w'/\ks.length=d.length)/\∀i:Nat,Z0 (ks.getD i Tree.nil)=Z0 (d.getD i Tree.nil));by_cases hk:k=k'
 .subst hk;simp only[true_and];by_cases h0:k=0;.simp[Z0,h0]
  .by_cases h1:k=1;.subst h1;simp only[Z0,if_neg h0,if_true,Tree.mk.injEq,true_and,Zd7,Z9p _ _ (Z95 _) (Z95 _),Z1a];simp
   .simp only[Z0,if_neg h0,if_neg h1,Tree.mk.injEq,true_and,Zax];grind
 .simp only[hk,false_and,iff_false];intro h;have:=congrArg Tree.kind h;rw[Z93,Z93]at this;exact hk this
theorem ZlD{a b:Tree}(h:Z0 a=Z0 b)(h0:a.kind≠0)(i:Nat):a.words.getD i 0=b.words.getD i 0:=by obtain⟨_,d⟩:=(YZ a b).1 h;grind
theorem Zqp{a b:Tree}(h:Z0 a=Z0 b)(h0:a.kind≠0)(i:Nat):Z0 (a.kids.getD i Tree.nil)=Z0 (b.kids.getD i Tree.nil):=by obtain⟨_,d⟩:=(YZ a b).1 h;grind
theorem Zgy(t:Tree)(i:Int):mass (Zo t i)<=mass t/\(i<t.kids.length->0<=i->mass (Zo t i)<mass t):=by
 obtain⟨k,w,ks⟩:=t;unfold Zo;have d:mass Tree.nil=1:=rfl;split;.simp only[d,mass];omega
 .simp only[Tree.kids_mk];by_cases hi:i.toNat<ks.length;.have:=Z1p hi;simp only[mass];omega
  .rw[List.getD,Qq Yp];simp only[Option.getD_none,d,mass];omega
theorem c38:Contract Tryz.prog cfg 38 Ys:=by
 refine ZHl c62 c63 c64 ?_;rintro N a b _ hp hN;have la:a.words.length+a.kids.length<mass a:=by obtain⟨k,w,ks⟩:=a;have:=ZT ks;simp only[mass,Tree.words_mk,Tree.kids_mk];omega
 have lb:b.words.length+b.kids.length<mass b:=by obtain⟨k,w,ks⟩:=b;have:=ZT ks;simp only[mass,Tree.words_mk,Tree.kids_mk];omega
 simp only[Z2J,Zuk]at hp hN;have no:¬Z0 a=Z0 b->Z06 cfg Tryz.f38.ntmps Tryz.f38.results.toList (ZfJ (a,b,())) [] .ret (⟨[(4,.c (.bool false))],[],[]⟩:LSt U):=by intro h;have e:ZN (Z0 a) (Z0 b)=false:=JN.2 h;simp only[ZfJ,e];exact⟨⟨rfl,⟨rfl,trivial⟩,trivial⟩,trivial⟩
 refine ZNE N _ _ _ ?_;(try simp only[iB,vcT,forall_eq]);(simp only[iB,vcS]);(try simp only[iB,vcT]);refine⟨λhc=>?_,λhc=>?_⟩
 .have e:ZN (Z0 a) (Z0 b)=(a.kind==b.kind):=by
   by_cases d:a.kind=b.kind
   .have h0:a.kind=0:=by rcases hc with h|h;exact absurd d h;exact h
    rw[YS.2 ((YZ a b).2 ⟨d,.inl h0⟩)];simp[d]
   .rw[JN.2 (λh=>d ((YZ a b).1 h).1)];simp[d]
  simp only[ZfJ,e];exact⟨⟨rfl,⟨rfl,trivial⟩,trivial⟩,trivial⟩
 .refine⟨λ_=>by simp only[Ziv];omega,λh h'=>⟨h,h'⟩,λhd=>no ?_,λhd=>?_⟩;.intro h;obtain⟨_,h2⟩:=(YZ a b).1 h;grind
  .refine Z6 (ι:=Int) (λp=>Zb6 a b p) (λp=>0<=p/\p<=2000000000000/\∀j:Nat,j<p.toNat->a.words.getD j 0=b.words.getD j 0) (λp=>(2000000000000-p).toNat) 0 rfl ⟨Yp,Yp,λj hj=>by simp at hj⟩ ?_;rintro i⟨h1,h2,h3⟩;refine ZBE N _ _ _ _ _ ?_;(try simp only[iB,vcT,forall_eq]);(simp only[iB,vcS]);(try simp only[iB,vcT]);have wa:∀t:Tree,Zs t i=t.words.getD i.toNat 0:=λt=>by unfold Zs;omega
   refine⟨λhi=>⟨trivial,trivial,λhn=>no λh=>hn ?_,λhe=>⟨?_,?_⟩⟩,λhi=>?_⟩;.rw[wa,wa];exact ZlD h hc.2 _
   .unfold InR;omega
   .refine⟨i+1,rfl,⟨Yp,Yp,λj hj=>?_⟩,Yp⟩;by_cases hj':j<i.toNat;.exact h3 j hj'
    .have:j=i.toNat:=Yp;simp_all
   .have hw:∀j:Nat,a.words.getD j 0=b.words.getD j 0:=λj=>by grind
    refine Z6 (ι:=Int) (λp=>Zb5 a b p) (λp=>0<=p/\p<=2000000000000/\∀j:Nat,j<p.toNat->Z0 (a.kids.getD j Tree.nil)=Z0 (b.kids.getD j Tree.nil)) (λp=>(2000000000000-p).toNat) 0 rfl ⟨Yp,Yp,λj hj=>by simp at hj⟩ ?_;rintro q⟨h5,h6,h7⟩;refine ZBD N _ _ _ _ _ ?_;(try simp only[iB,vcT,forall_eq]);(simp only[iB,vcS]);(try simp only[iB,vcT]);have ka:∀t:Tree,Zo t q=t.kids.getD q.toNat Tree.nil:=λt=>by unfold Zo;grind
    have ma:=Zgy a q;have mb:=Zgy b q;try(simp only[vE])
    refine⟨λhq=>⟨trivial,trivial,?_,?_,λhn=>no λh=>?_,λhe=>⟨?_,?_⟩⟩,λhq=>?_⟩;.simp only[Z2J];omega
    .simp only[Zuk];omega
    .rw[JN]at hn;apply hn;rw[ka,ka];exact Zqp h hc.2 _
    .unfold InR;omega
    .refine⟨q+1,rfl,⟨Yp,Yp,λj hj=>?_⟩,Yp⟩;by_cases hj':j<q.toNat;.exact h7 j hj'
     .have:j=q.toNat:=Yp;rw[this,<-ka,<-ka];exact YS.1 he
    .have d:∀j:Nat,Z0 (a.kids.getD j Tree.nil)=Z0 (b.kids.getD j Tree.nil):=λj=>by grind
     have e:ZN (Z0 a) (Z0 b)=true:=by
      rw[YS,YZ];refine⟨hc.1,.inr ⟨?_,d⟩⟩;split;.exact hw
      .grind
     simp only[ZfJ,e];trivial
mutual theorem Z5i:∀(t:Tree)(d l:Int),0<=YA t d l->(mass t:Int)+YA t d l<=l
 |.mk _ w ks,d,l,h=>by
  simp only[YA]at h⊢;split at h;.omega
  .rename_i hc;rw[if_neg hc];have:=Z8f ks (d-1) (l-1-w.length) h;simp only[mass];omega theorem Z8f:∀(ks:List Tree)(d l:Int),0<=Yh ks d l->(Z5 ks:Int)+Yh ks d l<=l
 |[],d,l,h=>by simp[Yh,Z5]|t::r,d,l,h=>by
  simp only[Yh]at h⊢;split at h;.omega
  .rename_i hc;rw[if_neg hc];have h1:=Z8f r d (YA t d l) h;have h3:=(Z34 r d (YA t d l) (Z49 t d l).1).2;have h2:=Z5i t d l Yp;simp only[Z5];omega end
theorem Zn{n k:Nat}{rs:List ResultVar}{b b':Bool}(hr:rs=[ResultVar.tmp k])(h:b=b'):Z06 cfg n rs (.c (.bool b')) [] .ret (⟨[(k,.c (.bool b))],[],[]⟩:LSt U):=by subst hr h;have d:Nat.beq k k=true:=Nat.beq_refl k;simp[Z06,ZJp,Zjp,Zjn,Z8T,Zcg,LSt.toF,look,d,Zg0,Z5j,Jc,Z0N,leR,leL,leC,Zvh]
theorem ZJ{n k:Nat}{rs:List ResultVar}{K:IntKind}{b b':Int}(hr:rs=[ResultVar.tmp k])(h:b=b'):Z06 cfg n rs (.c (.int K b')) [] .ret (⟨[(k,.c (.int K b))],[],[]⟩:LSt U):=by subst hr h;have d:Nat.beq k k=true:=Nat.beq_refl k;simp[Z06,ZJp,Zjp,Zjn,Z8T,Zcg,LSt.toF,look,d,Zg0,Z5j,Jc,Z0N,leR,leL,leC,Zvh]
theorem c48:Contract Tryz.prog cfg 48 Zfh:=by refine ZHg ?_;intro c _ _;refine ZNv _ _ ?_;(try simp only[iB,vcT,forall_eq]);(simp only[iB,vcS]);(try simp only[iB,vcT]);refine⟨λh=>ZJ rfl ?_,λh=>⟨λh=>ZJ rfl ?_,λh=>⟨λh=>ZJ rfl ?_,λh=>⟨λh=>ZJ rfl ?_,λh=>⟨λh=>ZJ rfl ?_,λh=>⟨λh=>ZJ rfl ?_,λh=>ZJ rfl ?_⟩⟩⟩⟩⟩⟩<;>simp only[wd]<;>simp[*]
theorem ZKV(c:Int):-1<=wd c/\wd c<=64:=by unfold wd;omega
theorem Zok(n:Int)(h0:0<=n)(h1:n<18446744073709551616):IntKind.wrap .u64 (Int.tdiv n 2)=n/2:=by rw[X8 h0];simp[IntKind.wrap,IntKind.signed,IntKind.bits];omega
theorem c31:Contract Tryz.prog cfg 31 Zfm:=by
 refine ZHo c48 ?_;intro c n _ hp;simp only[Zs2]at hp;have hw:=ZKV c;refine ZNL _ _ _ ?_;(try simp only[iB,vcT,forall_eq]);(simp only[iB,vcS]);(try simp only[iB,vcT]);refine⟨trivial,λh=>Zn rfl ?_,λh=>?_⟩
 .simp only[ZuU];simp;omega
 .refine Z6 (ι:=Int×Int) (λp=>Zbb c n p.1 p.2) (λp=>0<=p.2/\p.2<=wd c/\0<=p.1/\p.1<18446744073709551616/\(n<2^(wd c).toNat↔p.1<2^(wd c-p.2).toNat)) (λp=>(wd c-p.2).toNat) (n,0) rfl ⟨Yp,Yp,Yp,Yp,by simp⟩ ?_;rintro⟨m,i⟩⟨h1,h2,h3,h4,d⟩;dsimp only at*;refine ZBL _ _ _ _ _ _ ?_;(try simp only[iB,vcT,forall_eq]);(simp only[iB,vcS]);(try simp only[iB,vcT]);refine⟨λhc=>⟨Yp,V2,(IntKind.wrap .u64 (Int.tdiv m 2),i+1),rfl,?_,Yp⟩,λhc=>Zn rfl ?_⟩;.rw[Zok m h3 h4];refine⟨Yp,Yp,Yp,Yp,?_⟩;dsimp only;rw[d,show(wd c-i).toNat=(wd c-(i+1)).toNat+1 by omega];omega
  .have e:(wd c-i).toNat=0:=Yp;rw[e]at d;simp only[ZuU];grind
theorem c40:Contract Tryz.prog cfg 40 ZjM:=by refine ZHk ?_;intro c _ _;refine ZNC _ _ ?_;(try simp only[iB,vcT,forall_eq]);refine Zn rfl ?_;rw[QP];(simp only[iB,vcS])
theorem Zwg{t:Tree}(h:rng t){i:Nat}(hi:i<t.words.length):0<=t.words.getD i 0/\t.words.getD i 0<18446744073709551616:=by obtain⟨k,w,ks⟩:=t;simp only[rng]at h;simp_all
theorem Zm9{l:Int}{ks:List Tree}{i:Int}{d:Int}(h0:0<=i)(h:i<ks.length):Yj l (ks.drop i.toNat) d=((Z0P l (ks.getD i.toNat Tree.nil)&&Zb (ks.getD i.toNat Tree.nil) d)&&Yj l (ks.drop (i+1).toNat) d):=by have e:(i+1).toNat=i.toNat+1:=Yp;rw[QD Yp,e];simp only[Yj,List.getD,Q1 (show i.toNat<ks.length by omega),Xf]
theorem Zm5:∀{ks:List Tree}{i:Nat},ZV ks->i<ks.length->rng (ks.getD i Tree.nil)|t::_,0,h,_=>by simp only[ZV]at h;exact h.1|_::r,i+1,h,hi=>by simp only[ZV]at h;exact Zm5 (ks:=r) (i:=i) h.2 (by simpa using hi)
theorem Zm6{y:Tree}{d:Int}(h:Zb y d=true)(hk:y.kind=10):y.words.length=1/\y.kids.length=0:=by obtain⟨k,w,ks⟩:=y;simp only[Tree.kind_mk]at hk;subst hk;simpa[Zb]using h
theorem c15:Contract Tryz.prog cfg 15 Z2F:=by
 refine ZHy c31 ?_;rintro N⟨k,ws,ks⟩d _ hp hN;simp only[Z60,Zpp,mass,rng]at hp hN;refine ZO0 N _ _ _ ?_;(try simp only[iB,vcT,forall_eq]);(simp only[iB,vcS]);(try simp only[iB,vcT]);try(simp only[vE])
 refine⟨λh0=>Zn rfl ?_,λh0=>⟨λae=>Zn rfl ?_,λae=>⟨λa b=>⟨a,b⟩,λhc=>Zn rfl ?_,λhc=>⟨λhw=>Zn rfl ?_,λhw=>?_⟩⟩⟩⟩;.simp only[Zb,if_pos h0];rw[QP];(simp only[iB,vcS]);omega
 .simp only[Zb,if_neg h0,if_pos ae];rw[QP];(simp only[iB,vcS]);omega
 .simp only[Zb,if_neg h0,if_neg ae];split;.try rfl
  .split;.rw[decide_eq_false Yp];try rfl
   .have:¬(2<=k/\k<=9/\ws.length=0/\ks.length<1048576):=Yp;rw[decide_eq_false this];try rfl
 .simp only[Zb,if_neg h0,if_neg ae];rw[JH,JH];have:¬(2<=k/\k<=9/\ws.length=0/\ks.length<1048576):=Yp;rw[decide_eq_false this];try rfl
 .have hb:Zb (.mk k ws ks) d=Yj k ks (d-1):=by
   simp only[Zb,if_neg h0,if_neg ae];rw[JH];split;.rename_i h1;rw[decide_eq_true Yp,h1];try rfl
   .have:2<=k/\k<=9/\ws.length=0/\ks.length<1048576:=Yp;rw[decide_eq_true this];try rfl
  refine Z6 (ι:=Int) (λp=>Zbn (.mk k ws ks) d p) (λp=>0<=p/\p<=ks.length/\Zb (.mk k ws ks) d=Yj k (ks.drop p.toNat) (d-1)) (λp=>((ks.length:Int)-p).toNat) 0 rfl ⟨Yp,Yp,by simpa using hb⟩ ?_;rintro i⟨h1,h2,h3⟩;refine ZBY N _ _ _ _ _ ?_;(try simp only[iB,vcT,forall_eq]);(simp only[iB,vcS]);(try simp only[iB,vcT]);try(simp only[vE])
  refine⟨λhi=>?_,λhi=>?_⟩
  .have hd:=Zm9 (l:=k) (d:=d-1) h1 hi;have hm:=Z1p (ks:=ks) (i:=i.toNat) Yp;have hr:=Zm5 (i:=i.toNat) hp.2.1.2.2 Yp;rw[hd]at h3;have az:=ZT ks;generalize ks.getD i.toNat Tree.nil=y at*;have al:Z60 (y,d-1,()):=⟨V1,hr,V1,V1⟩;have ax:Zpp (y,d-1,())<N:=by simp only[Zpp];omega
   have av:InR (d-1):=V2;refine⟨⟨h1,hi⟩,av,al,ax,λhf=>Zn rfl ?_,λhf=>?_⟩;.rw[h3,hf];simp
   .have ab:((bif decide (2<=k)then decide (k<=7)else false)=(y.kind==10))↔((2<=k/\k<=7)↔y.kind=10):=by rw[QP];(simp only[iB,vcS])
    have am:=Zm6 hf;have aq:Z0P k y=true↔(((2<=k/\k<=7)↔y.kind=10)/\(¬k=9\/y.kind=1))/\((¬2<=k\/¬k<=7)\/ZuU (k-2) (y.words.getD 0 0)=true):=by
     unfold Z0P;by_cases hk:2<=k/\k<=7
     .rw[if_pos hk];(simp only[iB,vcS]);constructor;.rintro⟨h4,h5⟩;exact⟨⟨Yp,Yp⟩,.inr h5⟩
      .rintro⟨⟨h4,_⟩,h5⟩;have:=am Yp;exact⟨Yp,by rcases h5 with h5|h5;omega;exact h5⟩
     .rw[if_neg hk];by_cases h9:k=9
      .rw[if_pos h9];(simp only[iB,vcS]);constructor;.intro h4;exact⟨⟨Yp,Yp⟩,.inl Yp⟩
       .rintro⟨⟨_,h4⟩,_⟩;omega
      .rw[if_neg h9];(simp only[iB,vcS]);constructor;.intro h4;exact⟨⟨Yp,Yp⟩,.inl Yp⟩
       .rintro⟨⟨h4,_⟩,_⟩;omega
    have af:∀(h4:(((bif decide (2<=k)then decide (k<=7)else false)=(y.kind==10)/\(¬k=9\/y.kind=1))/\2<=k/\k<=7)),y.words.length=1:=λh4=>(am ((ab.1 h4.1.1).1 h4.2)).1;simp only[XE];refine⟨λa b=>⟨a,b⟩,λh4=>by unfold InR;omega,λh4=>by have:=af h4;omega,λh4=>Zwg hr (by have:=af h4;omega),λa b=>⟨a,b⟩,λh4=>Zn rfl ?_,λh4=>⟨V2,i+1,rfl,⟨Yp,Yp,?_⟩,Yp⟩⟩
    .have au:Z0P k y=false:=by cases hkk:Z0P k y with
      |false=>rfl|true=>
       exfalso;obtain⟨h5,h6⟩:=aq.1 hkk;rcases h4 with h4|⟨h4,h7⟩
       .rcases h4 with h4|h4;.exact h4 (ab.2 h5.1)
        .omega
       .rcases h6 with h6|h6;.omega
        .rw[h7]at h6;cases h6
     rw[h3,au];try rfl
    .rw[h3,aq.2 ⟨⟨ab.1 h4.1.1,h4.1.2⟩,h4.2⟩,hf];try rfl
  .rw[QN Yp]at h3;simp only[Yj]at h3;exact Zn rfl h3.symm
noncomputable section
def ZzZ:ArgL (Int×Unit):=(.cons (ZR .u64) .nil)
def ZmE(a:Int×Unit):Prop:=0<=a.1/\a.1<18446744073709551616
def Zwo(a:Int×Unit):V U:=.agg (zb8 Zd a.1)
def Zfc:Fs U:=fs ZzZ (λa=>[ZmE a]) Zwo
def ZzY:ArgL (Int×Int×Unit):=(.cons (ZR .u8) (.cons (ZR .i64) .nil))
def ZrY(a:Int×Int×Unit):Prop:=(0<=a.1/\a.1<256)/\0<=a.2.1/\a.2.1<=8
def ZF4(a:Int×Int×Unit):V U:=.c (.bool (Z04 a.1 a.2.1))
def Zfb:Fs U:=fs ZzY (λa=>[ZrY a]) ZF4
def ZzX:ArgL (List Int×Int×Unit):=(.cons (aSl .u8) (.cons (ZR .i64) .nil))
def Zxa(a:List Int×Int×Unit):Prop:=a.2.1=0/\a.1.length=8/\∀x∈a.1,0<=x/\x<256
def ZF3(a:List Int×Int×Unit):V U:=.c (.int .u64 (of8 (λi=>a.1.getD i 0)))
def Zfa:Fs U:=fs ZzX (λa=>[Zxa a]) ZF3
def ZAh:ArgL (Int×Int×Int×Unit):=(.cons (ZR .u64) (.cons (ZR .u64) (.cons (ZR .u8) .nil)))
def Zs1(a:Int×Int×Int×Unit):Prop:=(0<=a.1/\a.1<18446744073709551616)/\(0<=a.2.1/\a.2.1<18446744073709551616)/\(0<=a.2.2.1/\a.2.2.1<256)
def ZFf(a:Int×Int×Int×Unit):V U:=.c (.int .u64 (mix a.1 a.2.1 a.2.2.1))
def Zfi:Fs U:=fs ZAh (λa=>[Zs1 a]) ZFf
def Z6C(a:Tree×Unit):Prop:=mass a.1<=20000000000
def ZFl(a:Tree×Unit):V U:=.c (.bool (Z0i a.1))
def Z5h:Fs U:=fs ZqX (λa=>[Z6C a]) ZFl
def ZAn:ArgL (Int×Int×Unit):=(.cons (ZR .u64) (.cons (ZR .u8) .nil))
def Zs4(a:Int×Int×Unit):Prop:=(0<=a.1/\a.1<18446744073709551616)/\(0<=a.2.1/\a.2.1<256)
def ZFk(a:Int×Int×Unit):V U:=.c (.bool (Yr a.1 a.2.1))
def Zc5:Fs U:=fs ZAn (λa=>[Zs4 a]) ZFk
def ZAg:ArgL (Edit×Unit):=(.cons (aEl .edit) .nil)
def ZfU(a:Edit×Unit):Prop:=Zi a.1<=20000000000
def ZFe(a:Edit×Unit):V U:=.c (.bool (Z36 a.1))
def Zc3:Fs U:=fs ZAg (λa=>[ZfU a]) ZFe
def Zs3(a:Edit×Unit):Prop:=Zi a.1<=20000000000/\∀o∈Edit.ops a.1,0<=o.n/\o.n<=1048576
def Zws(a:Edit×Unit):V U:=.tup [(false,[ci (Z1H a.1.ops 0)]),(false,[ci (Z1G a.1.ops 0)])]
def Zc4:Fs U:=fs ZAg (λa=>[Zs3 a]) Zws
def ZDl:Za U:=lvl [([0,2],[2]),([0,2,3],[2,3]),([0,2,3,4],[2,3]),([0,2,3,4,7],[2,3]),([0,2,3,4],[2,3]),([0,2,3,4],[2,3]),([0,2,3,4],[2,3]),([2],[2])]
def Z6Z(w x0 x4 aa ab ai ae aj ah d af:Int):LSt U:=(L2 [(0,.c (.int .u64 x0)),pL 2,pL 3,pI 4 x4] [(.loc 2,zc0),(.loc 3,(zi8 [aa,ab,ai,ae,aj,ah,d,af]))])
abbrev A77(p:List Nat):=AW (Z2 Zqj) Tryz.f77 ZDl p
abbrev S77(p:List Nat):=SW (Z2 Zqj) Tryz.f77 ZDl p
theorem ZN5(w:Int)(Q:QT)(h:(Zk (A77 [1,1,0,1,0,0]) (Z6Z w w 0 0 0 0 0 0 0 0 0) (xB 0 (S77 [1,1,1] Q)))):A77 [] (L2 [(0,.c (.int .u64 w))] []) Q:=Eq.mpr V3 h
theorem ZBj(w x0 x4 aa ab ai ae aj ah d af:Int)(N0:NT)(Q:QT)(h:let z0:=IntKind.wrap .u8 (Int.tmod x0 256);(iB (decide (x4<8)) (((256:Int)≠0)/\((0:Int)<=x4/\x4<((8:Nat):Int))/\(((256:Int)≠0)/\((InR (x4+1))/\(N0 (Z6Z w (IntKind.wrap .u64 (Int.tdiv x0 256)) (x4+1) (Yv x4 0 z0 aa) (Yv x4 1 z0 ab) (Yv x4 2 z0 ai) (Yv x4 3 z0 ae) (Yv x4 4 z0 aj) (Yv x4 5 z0 ah) (Yv x4 6 z0 d) (Yv x4 7 z0 af)))))) ((Q .ret (L2 [pL 2] [(.loc 2,(zi8 [aa,ab,ai,ae,aj,ah,d,af]))]))))):A77 [1,1,0,1,0,0] (Z6Z w x0 x4 aa ab ai ae aj ah d af) (xT N0 (xB 0 (S77 [1,1,1] Q))):=Eq.mpr V3 h
def ZJL(w:Int):Prop:=AW (Z2 Zqj) Tryz.f77 ZDl [] (Zg (ZzZ.can (w,())) []) (EQ Tryz.f77 (Zwo (w,())) [])
theorem ZGV(hb:∀(w:Int)(_:Unit),ZmE (w,())->ZJL w):CT 77 Zfc:=Z1 (l:=[]) Zf rfl trivial ZDl Tryz.func77 rfl rfl 1 (λ_=>rfl) V0 (λ⟨w,_⟩=>hb w ())
def ZDk:Za U:=lvl [([0,1],[]),([0,1,5],[]),([0,1,5,8],[]),([0,1,5],[]),([0,1,5],[]),([4],[])]
def ZaT(m i x0 d:Int):LSt U:=(L2 [(0,.c (.int .u8 x0)),pI 1 i,pI 5 d] [])
abbrev A78(p:List Nat):=AW (Z2 Zqj) Tryz.f78 ZDk p
abbrev S78(p:List Nat):=SW (Z2 Zqj) Tryz.f78 ZDk p
theorem ZN4(m i:Int)(Q:QT)(h:(Zk (A78 [1,0,1,0,0]) (ZaT m i m 0) (xB 0 (S78 [1,1] Q)))):A78 [] (L2 [(0,.c (.int .u8 m)),pI 1 i] []) Q:=Eq.mpr V3 h
theorem ZBi(m i x0 d:Int)(N0:NT)(Q:QT)(h:(iB (decide (d<i)) (((2:Int)≠0)/\((InR (d+1))/\(N0 (ZaT m i (IntKind.wrap .u8 (Int.tdiv x0 2)) (d+1))))) (((2:Int)≠0)/\(Q .ret (L2 [pB 4 (((Int.tmod x0 2):Int)==1)] []))))):A78 [1,0,1,0,0] (ZaT m i x0 d) (xT N0 (xB 0 (S78 [1,1] Q))):=Eq.mpr V3 h
def ZJK(m i:Int):Prop:=AW (Z2 Zqj) Tryz.f78 ZDk [] (Zg (ZzY.can (m,i,())) []) (EQ Tryz.f78 (ZF4 (m,i,())) [])
theorem ZGU(hb:∀(m:Int)(i:Int)(_:Unit),ZrY (m,i,())->ZJK m i):CT 78 Zfb:=Z1 (l:=[]) Zf rfl trivial ZDk Tryz.func78 rfl rfl 2 (λ_=>rfl) V0 (λ⟨m,i,_⟩=>hb m i ())
def ZDj:Za U:=lvl [([0,1],[]),([0,1,5],[]),([0,1,5,6],[]),([0,1,5,6,8],[]),([0,1,5,6],[]),([0,1,5,6],[]),([4],[])]
def ZaS(b:List Int)(from_ d x6:Int):LSt U:=(L2 [(0,.c (sU .u8 b .unk)),pI 1 from_,(5,.c (.int .u64 d)),pI 6 x6] [])
abbrev A79(p:List Nat):=AW (Z2 Zqj) Tryz.f79 ZDj p
abbrev S79(p:List Nat):=SW (Z2 Zqj) Tryz.f79 ZDj p
theorem ZN3(b:List Int)(from_:Int)(Q:QT)(h:(Zk (A79 [1,1,0,1,0,0]) (ZaS b from_ 0 7) (xB 0 (S79 [1,1,1] Q)))):A79 [] (L2 [(0,.c (sU .u8 b .unk)),pI 1 from_] []) Q:=Eq.mpr V3 h
theorem ZBh(b:List Int)(from_ x5 d:Int)(N0:NT)(Q:QT)(h:(iB (decide ((0:Int)<=d)) ((InR (from_+d))/\((0:Int)<=(from_+d)/\(from_+d)<(b.length:Int))/\((InR (d-1))/\(N0 (ZaS b from_ (IntKind.wrap .u64 (((IntKind.wrap .u64 (x5*256)):Int)+(IntKind.wrap .u64 (List.getD b (Int.toNat (from_+d)) (0:Int))))) (d-1))))) ((Q .ret (L2 [(4,.c (.int .u64 x5))] []))))):A79 [1,1,0,1,0,0] (ZaS b from_ x5 d) (xT N0 (xB 0 (S79 [1,1,1] Q))):=Eq.mpr V3 h
def ZJJ(b:List Int)(from_:Int):Prop:=AW (Z2 Zqj) Tryz.f79 ZDj [] (Zg (ZzX.can (b,from_,())) []) (EQ Tryz.f79 (ZF3 (b,from_,())) [])
theorem ZGT(hb:∀(b:List Int)(d:Int)(_:Unit),Zxa (b,d,())->ZJJ b d):CT 79 Zfa:=Z1 (l:=[]) Zf rfl trivial ZDj Tryz.func79 rfl rfl 2 (λ_=>rfl) V0 (λ⟨b,d,_⟩=>hb b d ())
def Zq8:List (FuncId×Fs U):=[(77,Zfc),(78,Zfb),(79,Zfa)]
def ZDt:Za U:=lvl [([0,1,2],[]),([2,7,8],[7,8]),([2,7,8,9],[7,8]),([2,7,8,9,15],[7,8]),([2,7,8,9],[7,8]),([2,7,8,9,20],[7,8]),([2,7,8,9],[7,8]),([6],[])]
def Z4Q(a b m x9 d ae ai aj ah aa ab af:Int):LSt U:=(L2 [(2,.c (.int .u8 m)),pL 7,pL 8,pI 9 x9] [(.loc 7,(zi8 [d,ae,ai,aj,ah,aa,ab,af])),(.loc 8,(zb8 Zd b))])
abbrev A46(p:List Nat):=AW (Z2 Zq8) Tryz.f46 ZDt p
abbrev S46(p:List Nat):=SW (Z2 Zq8) Tryz.f46 ZDt p
theorem ZNx(a b m:Int)(Q:QT)(h:((ZmE (a,()))/\(ZmE (b,()))/\(Zk (A46 [1,1,0,1,0,0]) (Z4Q a b m 0 (Zd a 0) (Zd a 1) (Zd a 2) (Zd a 3) (Zd a 4) (Zd a 5) (Zd a 6) (Zd a 7)) (xB 0 (S46 [1,1,1] Q))))):A46 [] (L2 [(0,.c (.int .u64 a)),(1,.c (.int .u64 b)),(2,.c (.int .u8 m))] []) Q:=Eq.mpr V3 h
theorem ZBu(a b m x9 d ae ai aj ah aa ab af:Int)(N0:NT)(Q:QT)(h:let z0:=List.getD [Zd b 0,Zd b 1,Zd b 2,Zd b 3,Zd b 4,Zd b 5,Zd b 6,Zd b 7] x9.toNat 0;(iB (decide (x9<8)) ((ZrY (m,x9,()))/\(iB (Z04 m x9) (((0:Int)<=x9/\x9<((8:Nat):Int))/\((0:Int)<=x9/\x9<((8:Nat):Int))/\((InR (x9+1))/\(N0 (Z4Q a b m (x9+1) (Yv x9 0 z0 d) (Yv x9 1 z0 ae) (Yv x9 2 z0 ai) (Yv x9 3 z0 aj) (Yv x9 4 z0 ah) (Yv x9 5 z0 aa) (Yv x9 6 z0 ab) (Yv x9 7 z0 af))))) ((InR (x9+1))/\(N0 (Z4Q a b m (x9+1) d ae ai aj ah aa ab af))))) ((Zxa (([d,ae,ai,aj,ah,aa,ab,af]),0,()))/\(Q .ret (L2 [(6,.c (.int .u64 (of8 (λi=>([d,ae,ai,aj,ah,aa,ab,af]).getD i 0))))] []))))):A46 [1,1,0,1,0,0] (Z4Q a b m x9 d ae ai aj ah aa ab af) (xT N0 (xB 0 (S46 [1,1,1] Q))):=Eq.mpr V3 h
def ZKd(a b m:Int):Prop:=AW (Z2 Zq8) Tryz.f46 ZDt [] (Zg (ZAh.can (a,b,m,())) []) (EQ Tryz.f46 (ZFf (a,b,m,())) [])
theorem ZHi(c77:CT 77 Zfc)(c78:CT 78 Zfb)(c79:CT 79 Zfa)(hb:∀(a:Int)(b:Int)(m:Int)(_:Unit),Zs1 (a,b,m,())->ZKd a b m):CT 46 Zfi:=Z1 (l:=[(77,Zfc),(78,Zfb),(79,Zfa)]) Zf rfl (⟨c77,c78,c79,trivial⟩) ZDt Tryz.func46 rfl rfl 3 (λ_=>rfl) V0 (λ⟨a,b,m,_⟩=>hb a b m ())
def ZId:Za U:=lvl [([1],[1]),([2],[])]
abbrev A27(p:List Nat):=AW (Z2 Zqj) Tryz.f27 ZId p
theorem ZNP(t:Tree)(Q:QT)(h:((Tt (t.kind==0))/\(Tt (t.kind==0))/\(Tt (t.kind==0))/\(Tt (t.kind==0))/\(Tt (t.kind==0))/\(Tt (t.kind==0))/\((t.kind==0)=true->InR (((t.words.length:Int):Int)+(t.kids.length:Int)))/\(Tt (t.kind==0))/\(Tt (t.kind==0))/\(Q .ret (L2 [(2,.c (.bool (bif(t.kind==0)then(((((t.words.length:Int):Int)+(t.kids.length:Int)):Int)==0)else false)))] [])))):A27 [] (L2 [(0,.agg (enc .tree t))] []) Q:=Eq.mpr V3 h
def ZKv(t:Tree):Prop:=AW (Z2 Zqj) Tryz.f27 ZId [] (Zg (ZqX.can (t,())) []) (EQ Tryz.f27 (ZFl (t,())) [])
theorem ZHr(hb:∀(t:Tree)(_:Unit),Z6C (t,())->ZKv t):CT 27 Z5h:=Z1 (l:=[]) Zf rfl trivial ZId Tryz.func27 rfl rfl 1 (λ_=>rfl) V0 (λ⟨t,_⟩=>hb t ())
def Zz6:List (FuncId×Fs U):=[(46,Zfi)]
def ZIc:Za U:=lvl [([0,1],[]),([4],[])]
abbrev A28(p:List Nat):=AW (Z2 Zz6) Tryz.f28 ZIc p
theorem ZNO(w m:Int)(Q:QT)(h:((Zs1 (w,0,m,()))/\(Q .ret (L2 [pB 4 (((mix w 0 m):Int)==0)] [])))):A28 [] (L2 [(0,.c (.int .u64 w)),(1,.c (.int .u8 m))] []) Q:=Eq.mpr V3 h
def ZKu(w m:Int):Prop:=AW (Z2 Zz6) Tryz.f28 ZIc [] (Zg (ZAn.can (w,m,())) []) (EQ Tryz.f28 (ZFk (w,m,())) [])
theorem ZHq(c46:CT 46 Zfi)(hb:∀(w:Int)(m:Int)(_:Unit),Zs4 (w,m,())->ZKu w m):CT 28 Zc5:=Z1 (l:=[(46,Zfi)]) Zf rfl (⟨c46,trivial⟩) ZIc Tryz.func28 rfl rfl 2 (λ_=>rfl) V0 (λ⟨w,m,_⟩=>hb w m ())
def Zz0:List (FuncId×Fs U):=[(27,Z5h)]
abbrev A47(p:List Nat):=AW (Z2 Zz0) Tryz.f47 ZId p
theorem ZNw(e:Edit)(Q:QT)(h:∀aa,aa=(e.new)->∀d,d=(e.old)->let z2:=bif(e.kind==0)then(Z0i d)else false;let z0:=bif z2 then(Z0i aa)else false;let z1:=bif z0 then(((((((e.words.length:Int):Int)+(e.kids.length:Int)):Int)+(e.ops.length:Int)):Int)==0)else false;((Tt (e.kind==0))/\(Tt (e.kind==0))/\((e.kind==0)=true->Z6C (d,()))/\(Tt (e.kind==0))/\(Tt z2)/\(Tt z2)/\(z2=true->Z6C (aa,()))/\(Tt z2)/\(Tt z0)/\(Tt z0)/\(Tt z0)/\(Tt z0)/\(Tt z0)/\(Tt z0)/\(z0=true->InR (((e.words.length:Int):Int)+(e.kids.length:Int)))/\(Tt z0)/\(Tt z0)/\(Tt z0)/\(Tt z0)/\(z0=true->InR (((((e.words.length:Int):Int)+(e.kids.length:Int)):Int)+(e.ops.length:Int)))/\(Tt z0)/\(Tt z0)/\(Tt z1)/\(Tt z1)/\(Tt z1)/\(Q .ret (L2 [(2,.c (.bool (bif z1 then(e.list==0)else false)))] [])))):A47 [] (L2 [(0,.agg (enc .edit e))] []) Q:=Eq.mpr V3 (h _ (Z3 _) _ (Z3 _))
def ZKc(e:Edit):Prop:=AW (Z2 Zz0) Tryz.f47 ZId [] (Zg (ZAg.can (e,())) []) (EQ Tryz.f47 (ZFe (e,())) [])
theorem ZHh(c27:CT 27 Z5h)(hb:∀(e:Edit)(_:Unit),ZfU (e,())->ZKc e):CT 47 Zc3:=Z1 (l:=[(27,Z5h)]) Zf rfl (⟨c27,trivial⟩) ZId Tryz.func47 rfl rfl 1 (λ_=>rfl) V0 (λ⟨e,_⟩=>hb e ())
def ZDB:Za U:=lvl [([1],[1]),([1,4,5],[1]),([1,4,5,6],[1]),([1,4,5,6,13],[1]),([1,4,5,6],[1]),([1,4,5,6,7],[1,7]),([1,4,5,6,7,8],[1,7]),([1,4,5,6,7,8,29],[1,7]),([1,4,5,6,7,8,29],[1,7]),([1,4,5,6,7,8,32],[1,7]),([1,4,5,6,7,8,32],[1,7]),([1,4,5,6,8,38],[1]),([1,4,5,6,8,38],[1]),([1,4,5,6,43],[1]),([1,4,5,6,43],[1]),([1,4,5,6,45],[1]),([1,4,5,6],[1]),([2,3],[])]
def Z3i(e:Edit)(d x5 x6:Int):LSt U:=(L2 [pL 1,pI 4 d,pI 5 x5,pI 6 x6] [(.loc 1,(enc .edit e))])
def Zbf(e:Edit)(x4 x5 x6 d:Int):LSt U:=(L2 [pL 1,pI 4 x4,pI 5 x5,pI 6 x6,pL 7,pI 8 d,(29,.c (.bool (((OpOf.kind (e.ops.getD x6.toNat Op.nil)):Int)==3)))] [(.loc 1,(enc .edit e)),(.loc 7,(enc .op (e.ops.getD x6.toNat Op.nil)))])
def Zbe(e:Edit)(x5 x6 aa d:Int):LSt U:=(L2 [pL 1,pI 4 d,pI 5 x5,pI 6 x6,pL 7,pI 8 aa,(32,.c (.bool (((OpOf.kind (e.ops.getD x6.toNat Op.nil)):Int)!=2)))] [(.loc 1,(enc .edit e)),(.loc 7,(enc .op (e.ops.getD x6.toNat Op.nil)))])
def Zbd(e:Edit)(x6 ab d aa:Int):LSt U:=(L2 [pL 1,pI 4 d,pI 5 aa,pI 6 x6,pI 8 ab,(38,.c (.bool (((OpOf.kind (e.ops.getD x6.toNat Op.nil)):Int)!=1)))] [(.loc 1,(enc .edit e))])
def Zbc(e:Edit)(x6 d aa ab:Int):LSt U:=(L2 [pL 1,pI 4 ab,pI 5 aa,pI 6 x6,pB 43 (decide ((1048576:Int)<d))] [(.loc 1,(enc .edit e))])
abbrev A30(p:List Nat):=AW (Z2 Zqj) Tryz.f30 ZDB p
abbrev S30(p:List Nat):=SW (Z2 Zqj) Tryz.f30 ZDB p
theorem ZNM(e:Edit)(Q:QT)(h:(Zk (A30 [1,1,0,1,0,0]) (Z3i e 0 0 0) (xB 0 (S30 [1,1,1] Q)))):A30 [] (L2 [(0,.agg (enc .edit e))] []) Q:=Eq.mpr V3 h
abbrev ZJg(e:Edit)(d x5 x6:Int)(N0:NT)(Q:QT):Prop:=A30 [1,1,0,1,0,0] (Z3i e d x5 x6) (xT N0 (xB 0 (S30 [1,1,1] Q)))
theorem ZBM(e:Edit)(x4 x5 d:Int)(N0:NT)(Q:QT)(h:let z1:=xB 1 (S30 [1,1,0,1,0,0,1,1] (xT N0 (xB 0 (S30 [1,1,1] Q))));let z0:=e.ops.getD d.toNat Op.nil;(iB (decide (d<(e.ops.length:Int))) (((0:Int)<=d/\d<(e.ops.length:Int))/\((InR (((OpOf.n z0):Int)+((OpOf.l z0).length:Int)))/\(iB (((OpOf.kind z0):Int)==3) ((A30 [1,1,0,1,0,0,1,0,0,1,1,1] (Zbf e x4 x5 d 1) z1)) (A30 [1,1,0,1,0,0,1,0,0,1,1,1] (Zbf e x4 x5 d (((OpOf.n z0):Int)+((OpOf.l z0).length:Int))) z1)))) ((Q .ret (L2 [pI 2 x4,pI 3 x5] []))))):A30 [1,1,0,1,0,0] (Z3i e x4 x5 d) (xT N0 (xB 0 (S30 [1,1,1] Q))):=Eq.mpr V3 h
abbrev ZJk(e:Edit)(x4 x5 x6 d:Int)(N0:NT)(Q:QT):Prop:=A30 [1,1,0,1,0,0,1,0,0,1,1,1] (Zbf e x4 x5 x6 d) (xB 1 (S30 [1,1,0,1,0,0,1,1] (xT N0 (xB 0 (S30 [1,1,1] Q)))))
theorem ZBQ(e:Edit)(x4 x5 x6 d:Int)(N0:NT)(Q:QT)(h:let z0:=xB 1 (S30 [1,1,0,1,0,0,1,1] (xT N0 (xB 0 (S30 [1,1,1] Q))));(iB (((OpOf.kind (e.ops.getD x6.toNat Op.nil)):Int)!=2) ((InR (x4+d))/\(A30 [1,1,0,1,0,0,1,0,0,1,1,1,1] (Zbe e x5 x6 d (x4+d)) z0)) (A30 [1,1,0,1,0,0,1,0,0,1,1,1,1] (Zbe e x5 x6 d x4) z0))):A30 [1,1,0,1,0,0,1,0,0,1,1,1] (Zbf e x4 x5 x6 d) (xB 1 (S30 [1,1,0,1,0,0,1,1] (xT N0 (xB 0 (S30 [1,1,1] Q))))):=Eq.mpr V3 h
abbrev ZJj(e:Edit)(x5 x6 aa d:Int)(N0:NT)(Q:QT):Prop:=A30 [1,1,0,1,0,0,1,0,0,1,1,1,1] (Zbe e x5 x6 aa d) (xB 1 (S30 [1,1,0,1,0,0,1,1] (xT N0 (xB 0 (S30 [1,1,1] Q)))))
theorem ZBP(e:Edit)(x5 x6 d aa:Int)(N0:NT)(Q:QT)(h:let z0:=xB 1 (S30 [1,1,0,1,0,0,1,1] (xT N0 (xB 0 (S30 [1,1,1] Q))));(iB (((OpOf.kind (e.ops.getD x6.toNat Op.nil)):Int)!=1) ((InR (x5+d))/\(A30 [1,1,0,1,0,0,1,0,0,1,1,1,1,1] (Zbd e x6 d aa (x5+d)) z0)) (A30 [1,1,0,1,0,0,1,0,0,1,1,1,1,1] (Zbd e x6 d aa x5) z0))):A30 [1,1,0,1,0,0,1,0,0,1,1,1,1] (Zbe e x5 x6 d aa) (xB 1 (S30 [1,1,0,1,0,0,1,1] (xT N0 (xB 0 (S30 [1,1,1] Q))))):=Eq.mpr V3 h
abbrev ZJi(e:Edit)(x6 ab d aa:Int)(N0:NT)(Q:QT):Prop:=A30 [1,1,0,1,0,0,1,0,0,1,1,1,1,1] (Zbd e x6 ab d aa) (xB 1 (S30 [1,1,0,1,0,0,1,1] (xT N0 (xB 0 (S30 [1,1,1] Q)))))
theorem ZBO(e:Edit)(x6 ab d aa:Int)(N0:NT)(Q:QT)(h:let z0:=xB 1 (S30 [1,1,0,1,0,0,1,1] (xT N0 (xB 0 (S30 [1,1,1] Q))));(iB (decide ((1048576:Int)<d)) ((A30 [1,1,0,1,0,0,1,0,0,1,1,1,1,1,1] (Zbc e x6 d aa 1048576) z0)) (A30 [1,1,0,1,0,0,1,0,0,1,1,1,1,1,1] (Zbc e x6 d aa d) z0))):A30 [1,1,0,1,0,0,1,0,0,1,1,1,1,1] (Zbd e x6 ab d aa) (xB 1 (S30 [1,1,0,1,0,0,1,1] (xT N0 (xB 0 (S30 [1,1,1] Q))))):=Eq.mpr V3 h
abbrev ZJh(e:Edit)(x6 d aa ab:Int)(N0:NT)(Q:QT):Prop:=A30 [1,1,0,1,0,0,1,0,0,1,1,1,1,1,1] (Zbc e x6 d aa ab) (xB 1 (S30 [1,1,0,1,0,0,1,1] (xT N0 (xB 0 (S30 [1,1,1] Q)))))
theorem ZBN(e:Edit)(x6 ab d aa:Int)(N0:NT)(Q:QT)(h:(iB (decide ((1048576:Int)<d)) (((InR (x6+1))/\(N0 (Z3i e aa 1048576 (x6+1))))) ((InR (x6+1))/\(N0 (Z3i e aa d (x6+1)))))):A30 [1,1,0,1,0,0,1,0,0,1,1,1,1,1,1] (Zbc e x6 ab d aa) (xB 1 (S30 [1,1,0,1,0,0,1,1] (xT N0 (xB 0 (S30 [1,1,1] Q))))):=Eq.mpr V3 h
def ZKs(e:Edit):Prop:=AW (Z2 Zqj) Tryz.f30 ZDB [] (Zg (ZAg.can (e,())) []) (EQ Tryz.f30 (Zws (e,())) [])
theorem ZHp(hb:∀(e:Edit)(_:Unit),Zs3 (e,())->ZKs e):CT 30 Zc4:=Z1 (l:=[]) Zf rfl trivial ZDB Tryz.func30 rfl rfl 1 (λ_=>rfl) V0 (λ⟨e,_⟩=>hb e ())
end
end Go.AM.YtnfbomhidainjaaGreat
