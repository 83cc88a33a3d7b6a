import Derived.Test.YtpjenobkibfpcaaGreatZmXE
import Derived.Test.YtpjenobkibfpcaaGreatChecked
import Derived.Test.YtpjenobkibfpcaaGreatRows
import Derived.ProofKit
set_option linter.all false
open Option renaming some->A,none->aT
open Bool renaming true->Y,false->I
open List renaming length->J,getD->aR
open Int renaming toNat->G
namespace Go.AM
variable{P:Program}{M:cW U}
structure iM(α:Type)where
 get:List (bL×LC U)->C U->Option α
 cK:α->C U
 dR:α->List (bL×LC U)ok:∀(M:cW U)aB c a,get aB c=some a->Gy M c (cK a)/\∀y∈dR a,ZU (λ_=>none) aB y.1=some y.2
theorem Zwg{a b}(h:Wk a b):Gy M a b:=λg v s=>Ut (M:=M) h g (λ_=>I) v s
def jv(k:IntKind):iM Int:=
 {get:=λ_ c=>match c with
   |.int k' n=>if k=k' then A n else aT|_=>aT
  cK:=λn=>.int k n
  dR:=λ_=>[]
  ok:=by
   intro M aB c a h;refine⟨?_,λy hy=>by cases hy⟩;split at h
   .split at h;.rename_i hk;subst hk;cases h;exact λ_ _ h=>h
    .cases h
   .cases h}
def qm:iM Bool:=
 {get:=λ_ c=>match c with
   |.bool b=>A b|_=>aT
  cK:=λb=>.bool b
  dR:=λ_=>[]
  ok:=by
   intro M aB c a h;refine⟨?_,λy hy=>by cases hy⟩;split at h;.cases h;exact λ_ _ h=>h
   .cases h}
def ff(T:Ty):iM (List (El T)):=
 {get:=λ_ c=>match qV T [c]with
   |some (l,_)=>A l|none=>aT
  cK:=λl=>sl T l
  dR:=λ_=>[]
  ok:=by
   intro M aB c a h;refine⟨?_,λy hy=>by cases hy⟩;split at h;.rename_i l r hr;cases h;exact Zwg (ZEY hr)
   .cases h}
def LQ(t:bL)(k j:Nat):Bool:=match t with|.x k' j'=>Nat.beq k' k&&Nat.beq j' j|_=>I
theorem ZDr{t k j}(h:LQ t k j=Y):t=.x k j:=by
 unfold LQ at h;split at h
 .rw[Q9]at h;rw[Qt h.1,Qt h.2]
 .cases h
def iJ(T:Ty)(k j:Nat):iM (List (El T)):=
 {get:=λ_ c=>match c with
   |.nils=>A []|.slice aE l .cU=>if h:aE=T then A (h▸l)else aT|.slice aE l (.bF t)=>if h:aE=T then bif LQ t k j then A (h▸l)else aT else aT|_=>aT
  cK:=λl=>.slice (U:=U) T l (.bF (.x k j))
  dR:=λ_=>[]
  ok:=by
   intro M aB c a h;refine⟨?_,λy hy=>by cases hy⟩;split at h
   .cases h;intro g v hr;have h1:=hr.1;cases h1;exact⟨b_.fa (M:=M) (U:=U) T _,λ_ b len cap hv=>by cases hv⟩
   .split at h;.rename_i hT;subst hT;cases h;intro g v hr;refine⟨hr.1.tl _,λ_ b len cap hv i h3 h4=>?_⟩;have:=hr.2 _ _ _ hv;grind
    .cases h
   .split at h;.rename_i hT;subst hT;rename_i t;cases ht:LQ t k j with|false=>grind|true=>rw[ht]at h;have:=ZDr ht;subst this;cases h;exact λ_ _ hr=>hr
    .cases h
   .cases h}
def S8(k:Nat):iM Unit:=
 {get:=λ_ c=>match c with
   |.xp k'=>bif Nat.beq k' k then A ()else aT|_=>aT
  cK:=λ_=>.xp k
  dR:=λ_=>[]
  ok:=by
   intro M aB c a h;refine⟨?_,λy hy=>by cases hy⟩;split at h
   .rename_i k';cases hk:Nat.beq k' k with
    |false=>grind|true=>rw[Qt hk];exact λ_ _ h=>h
   .cases h}
def wS(T:Ty)(n:bL):iM (List (El T)):=
 {get:=λaB c=>match c with
   |.mref t=>if t=n then match ZU (λ_=>aT) aB t with
    |some x=>if h:x.T=T/\x.f=0 then A (h.1▸x.l)else aT|none=>aT else aT|_=>aT
  cK:=λ_=>.mref n
  dR:=λl=>[(n,LC.mk (U:=U) T l 0)]
  ok:=by
   intro M aB c a h;split at h
   .rename_i t;split at h
    .rename_i ht;subst ht;split at h
     .rename_i x hx;split at h
      .rename_i hT;obtain⟨T',l,f⟩:=x;obtain⟨hT1,hT2⟩:=hT;simp only at hT1 hT2;subst hT1 hT2;cases h;refine⟨λ_ _ hr=>hr,λy hy=>?_⟩;grind
      .cases h
     .cases h
    .cases h
   .cases h}
def Ir(T)(k j:Nat):iM (List (El T)):=wS T (.x k j)
structure kK(α:Type)where
 get:List (bL×LC U)->List (C U)->Option α
 cK:α->List (C U)dR:α->List (bL×LC U)ok:∀(M:cW U)aB cs a,get aB cs=some a->(∀y∈dR a,ZU (λ_=>none) aB y.1=some y.2)/\cs.length=(cK a).length/\∀(j:Nat)c c',cs[j]?=some c->(cK a)[j]?=some c'->Gy M c c'
def kK.nil:kK Unit:=
 {get:=λ_ cs=>match cs with
   |[]=>A ()|_::_=>aT
  cK:=λ_=>[]
  dR:=λ_=>[]
  ok:=by grind}
def kK.cons{α β:Type}(aD:iM α)(B:kK β):kK (α×β):=
 {get:=λaB cs=>match cs with
   |c::r=>match aD.get aB c with
    |some a=>match B.get aB r with|some b=>A (a,b)|none=>aT
    |none=>aT
   |[]=>aT
  cK:=λp=>aD.cK p.1::B.cK p.2
  dR:=λp=>aD.dR p.1++B.dR p.2
  ok:=by intro M aB cs p h;cases cs with|nil=>cases h|cons c r=>
    simp only at h;split at h
    .rename_i a ha;split at h
     .rename_i b hb;cases h;obtain⟨h0,h1,h2⟩:=B.ok M aB r b hb;obtain⟨h3,h4⟩:=aD.ok M aB c a ha;grind
     .cases h
    .cases h}
structure cO(α:Type)where
 get:List (bL×LC U)->List (aA U)->List (List (C U))->Option α
 cK:α->List (aA U)eV:α->List (List (C U))dR:α->List (bL×LC U)ok:∀M:cW U,M.enc=enc->∀aB xs aC a,get aB xs aC=some a->eh M xs (cK a) aC (eV a)/\∀y∈dR a,ZU (λ_=>none) aB y.1=some y.2
def cO.nil:cO Unit:=
 {get:=λ_ xs aC=>match xs,aC with
   |[],[]=>A ()|_,_=>aT
  cK:=λ_=>[]
  eV:=λ_=>[]
  dR:=λ_=>[]
  ok:=by
   intro M _ aB xs aC a h;split at h;.exact⟨eh.refl [] [],λy hy=>by cases hy⟩
   .cases h}
def cO.cons{α β:Type}(aD:vW α)(B:cO β):cO (α×β):=
 {get:=λaB xs aC=>match xs with
   |x::r=>match aD.get x with
    |some a=>match B.get aB r aC with|some b=>A (a,b)|none=>aT
    |none=>aT
   |[]=>aT
  cK:=λp=>aD.cK p.1::B.cK p.2
  eV:=λp=>B.eV p.2
  dR:=λp=>B.dR p.2
  ok:=by
   intro M L aB xs aC p h;cases xs with
   |nil=>cases h|cons x r=>
    simp only at h;split at h
    .rename_i a ha;split at h
     .rename_i b hb;cases h;obtain⟨hB,hBL⟩:=B.ok M L aB r aC b hb;refine⟨?_,hBL⟩;refine⟨by simp[hB.len],λj x' y hx hy=>?_,hB.mj,hB.xl,hB.x⟩;cases j with|zero=>simp at hx hy;subst hx hy;exact aD.ok M L x a ha|succ j=>exact hB.args j x' y (by simpa using hx) (by simpa using hy)
     .cases h
    .cases h}
def nI(k o:Nat):aA U->Bool|.ptr (.x k') off=>Nat.beq k k'&&Nat.beq off o|_=>I
theorem ZRc{k o v}(h:nI k o v=Y):v=.ptr (.x k) o:=by
 unfold nI at h;split at h
 .rw[Q9]at h;rw[Qt h.1,Qt h.2]
 .cases h
def cO.Ft{α β:Type}(aD:iM α)(B:cO β):cO (α×β):=
 {get:=λaB xs aC=>match xs with
   |.c x::r=>match aD.get aB x with
    |some a=>match B.get aB r aC with|some b=>A (a,b)|none=>aT
    |none=>aT
   |_=>aT
  cK:=λp=>.c (aD.cK p.1)::B.cK p.2
  eV:=λp=>B.eV p.2
  dR:=λp=>aD.dR p.1++B.dR p.2
  ok:=by
   intro M L aB xs aC p h;split at h
   .rename_i x r;split at h
    .rename_i a ha;split at h
     .rename_i b hb;cases h;obtain⟨hB,hBL⟩:=B.ok M L aB r aC b hb;obtain⟨hA,hAL⟩:=aD.ok M aB x a ha;refine⟨⟨by simp[hB.len],λj x' y hx hy=>?_,hB.mj,hB.xl,hB.x⟩,λy hy=>(Qo.1 hy).elim (hAL y) (hBL y)⟩;cases j with|zero=>simp at hx hy;subst hx hy;exact λg live v hr=>hA g v hr|succ j=>exact hB.args j x' y (by simpa using hx) (by simpa using hy)
     .cases h
    .cases h
   .cases h}
def cO.agg{α β:Type}(aD:kK α)(B:cO β):cO (α×β):=
 {get:=λaB xs aC=>match xs with
   |.agg x::r=>match aD.get aB x with
    |some a=>match B.get aB r aC with
     |some b=>A (a,b)|none=>aT
    |none=>aT
   |_=>aT
  cK:=λp=>.agg (aD.cK p.1)::B.cK p.2
  eV:=λp=>B.eV p.2
  dR:=λp=>aD.dR p.1++B.dR p.2
  ok:=by
   intro M L aB xs aC p h;split at h
   .rename_i x r;split at h
    .rename_i a ha;split at h
     .rename_i b hb;cases h;obtain⟨hB,hBL⟩:=B.ok M L aB r aC b hb;obtain⟨hAL,hl,hA⟩:=aD.ok M aB x a ha;refine⟨⟨by simp[hB.len],λj x' y hx hy=>?_,hB.mj,hB.xl,hB.x⟩,λy hy=>(Qo.1 hy).elim (hAL y) (hBL y)⟩;cases j with
      |zero=>
       simp at hx hy;subst hx hy;rintro g live v⟨vs,h1,h2,h3⟩;refine⟨vs,h1,by rw[h2,hl],λj u c' hu hc'=>?_⟩;have hj:j<J x:=by have:=(Qc.1 hc').1;omega
       exact hA j _ c' (Q8 hj) hc' g u (h3 j u _ hu (Q8 hj))|succ j=>exact hB.args j x' y (by simpa using hx) (by simpa using hy)
     .cases h
    .cases h
   .cases h}
def cO.Tm{α β:Type}(aD:kK α)(B:cO β):cO (α×β):=
 {get:=λaB xs aC=>match aC with
   |cs::X'=>match aD.get aB cs with
    |some a=>match B.get aB xs X' with
     |some b=>A (a,b)|none=>aT
    |none=>aT
   |[]=>aT
  cK:=λp=>B.cK p.2
  eV:=λp=>aD.cK p.1::B.eV p.2
  dR:=λp=>aD.dR p.1++B.dR p.2
  ok:=by
   intro M L aB xs aC p h;cases aC with
   |nil=>cases h|cons cs X'=>
    simp only at h;split at h
    .rename_i a ha;split at h
     .rename_i b hb;cases h;obtain⟨hB,hBL⟩:=B.ok M L aB xs X' b hb;obtain⟨hAL,hA⟩:=aD.ok M aB cs a ha;refine⟨?_,λy hy=>(Qo.1 hy).elim (hAL y) (hBL y)⟩;refine⟨hB.len,hB.args,by simp[hB.mj],λj x' y hx hy=>?_,λj x' y hx hy i c c' hcc hc'=>?_⟩;.cases j with|zero=>grind|succ j=>exact hB.xl j x' y (by simpa using hx) (by simpa using hy)
      .cases j with|zero=>grind|succ j=>exact hB.x j x' y (by simpa using hx) (by simpa using hy) i c c' hcc hc'
     .cases h
    .cases h}
def cO.rB{α β:Type}(k o:Nat)(aD:kK α)(B:cO β):cO (α×β):=
 {get:=λaB xs aC=>match xs,aC with
   |x::r,cs::X'=>bif nI k o x then match aD.get aB cs with
    |some a=>match B.get aB r X' with|some b=>A (a,b)|none=>aT
    |none=>aT else aT|_,_=>aT
  cK:=λp=>.ptr (.x k) o::B.cK p.2
  eV:=λp=>aD.cK p.1::B.eV p.2
  dR:=λp=>aD.dR p.1++B.dR p.2
  ok:=by
   intro M L aB xs aC p h;split at h
   .rename_i x r cs X';cases hx:nI k o x with
    |false=>grind|true=>
     rw[hx]at h;simp only[XE]at h;have ex:=ZRc hx;subst ex;split at h
     .rename_i a ha;split at h
      .rename_i b hb;cases h;obtain⟨hB,hBL⟩:=B.ok M L aB r X' b hb;obtain⟨hAL,hA⟩:=aD.ok M aB cs a ha;refine⟨?_,λy hy=>(Qo.1 hy).elim (hAL y) (hBL y)⟩;refine⟨by simp[hB.len],λj x' y hx hy=>?_,by simp[hB.mj],λj x' y hx hy=>?_,λj x' y hx hy i c c' hcc hc'=>?_⟩;.cases j with|zero=>simp at hx hy;subst hx hy;exact λ_ _ _ h=>h|succ j=>exact hB.args j x' y (by simpa using hx) (by simpa using hy)
       .cases j with|zero=>simp at hx hy;subst hx hy;exact hA.1|succ j=>exact hB.xl j x' y (by simpa using hx) (by simpa using hy)
       .cases j with|zero=>simp at hx hy;subst hx hy;exact hA.2 i c c' hcc hc'|succ j=>exact hB.x j x' y (by simpa using hx) (by simpa using hy) i c c' hcc hc'
      .cases h
     .cases h
   .cases h}
def cO.dU{α β}(k:Nat)(aD:kK α)(B:cO β):cO (α×β):=cO.rB k 0 aD B
def cO.clo{α β:Type}(f:FuncId)(k:Nat)(aD:kK α)(B:cO β):cO (α×β):=
 {get:=λaB xs aC=>match xs,aC with
   |.clo g [.x k']::r,cs::X'=>bif Nat.beq g f&&Nat.beq k' k then match aD.get aB cs with
    |some a=>match B.get aB r X' with|some b=>A (a,b)|none=>aT
    |none=>aT else aT|_,_=>aT
  cK:=λp=>.clo f [.x k]::B.cK p.2
  eV:=λp=>aD.cK p.1::B.eV p.2
  dR:=λp=>aD.dR p.1++B.dR p.2
  ok:=by
   intro M L aB xs aC p h;split at h;.rename_i g k' r cs X';cases hx:Nat.beq g f&&Nat.beq k' k with
    |false=>grind|true=>
     rw[hx]at h;simp only[XE]at h;rw[Q9]at hx;have e1:=Qt hx.1;have e2:=Qt hx.2;subst e1 e2;split at h
     .rename_i a ha;split at h
      .rename_i b hb;cases h;obtain⟨hB,hBL⟩:=B.ok M L aB r X' b hb;obtain⟨hAL,hA⟩:=aD.ok M aB cs a ha;refine⟨?_,λy hy=>(Qo.1 hy).elim (hAL y) (hBL y)⟩;refine⟨by simp[hB.len],λj x' y hx hy=>?_,by simp[hB.mj],λj x' y hx hy=>?_,λj x' y hx hy i c c' hcc hc'=>?_⟩;.cases j with|zero=>simp at hx hy;subst hx hy;exact λ_ _ _ h=>h|succ j=>exact hB.args j x' y (by simpa using hx) (by simpa using hy)
       .cases j with|zero=>simp at hx hy;subst hx hy;exact hA.1|succ j=>exact hB.xl j x' y (by simpa using hx) (by simpa using hy)
       .cases j with|zero=>simp at hx hy;subst hx hy;exact hA.2 i c c' hcc hc'|succ j=>exact hB.x j x' y (by simpa using hx) (by simpa using hy) i c c' hcc hc'
      .cases h
     .cases h
   .cases h}
def fo{α:Type}(aD:cO α)(c_:α->List Prop)(s:α->aA U)(h:α->List (List (C U))):Fs U:={fn:=λxs aC=>match aD.get [] xs aC with|some a=>A (c_ a,s a,h a)|none=>aT}
theorem EP{Γ}{α}{aD}{c_}{af}{aa:α->List (List (C U))}(ok:bS P M)(henc:M.enc=enc)(hΓ:∀f s,Γ f=A s->aU P M f s){f}{fn}(lv)(hf:P.funcs[f]?=A fn)(hb:fn.body=A (cd fn []))(ae:(fn.name== "runtime.NumGoroutine")=I)(hn:∀a,J (aD.cK a)≤fn.ntmps)(ab:∀a,eU (c_ a)->gD M Γ (lr M Γ) fn.ntmps lv (cd fn []) (Y5 (aD.cK a) (aD.eV a)) (ZB M fn.ntmps fn.results.toList (af a) (aa a))):aU P M f (fo aD c_ af aa):=by
 refine ZhS ok hΓ (Ce ok hΓ) lv hf hb ae ?_;intro args aC ps r X' hs ai;unfold fo at hs;simp only at hs;split at hs;.rename_i a ha;cases hs;exact⟨aD.cK a,aD.eV a,(aD.ok M henc [] args aC a ha).1,hn a,ab a ai⟩
 .cases hs
theorem Zln{l}{α}{aD}{c_:α->Prop}{ae}{s}(ok:bS P M)(henc:M.enc=enc)(hl:pR P M l){f}{fn}(lv)(hf:P.funcs[f]?=A fn)(hb:fn.body=A (cd fn []))(ab:(fn.name== "runtime.NumGoroutine")=I)(n)(hn:∀a,J (aD.cK a)=n)(af:n≤fn.ntmps)(aa:∀a,c_ a->gD M (Za l) (lr M (Za l)) fn.ntmps lv (cd fn []) (Y5 (aD.cK a) (aD.eV a)) (ZB M fn.ntmps fn.results.toList (ae a) (s a))):aU P M f (fo aD (λa=>[c_ a]) ae s):=EP ok henc (mD hl) lv hf hb ab λa=>by grind λa h=>aa a h.1
theorem NL{α}{aD}{c_:α→Prop}{μ:α→Nat}{aa}{h}{f}(h0:∃fn,P.funcs[f]?=A fn∧fn.body.isSome=Y∧(fn.name== "runtime.NumGoroutine")=I):aU P M f (fo aD (λa=>[c_ a,μ a<0]) aa h):=by
 refine tn h0 rfl ?_;intro args aC ps r X' s ab;unfold fo at s;simp only at s;split at s;.cases s;exact absurd ab.2.1 (Nat.not_lt_zero _)
 .cases s
theorem HT{α}{aD}{c_:α→Prop}{μ:α→Nat}{s}{h}{f}(h0:∃fn,P.funcs[f]?=A fn∧fn.body.isSome=Y∧(fn.name== "runtime.NumGoroutine")=I)(key:∀N,aU P M f (fo aD (λa=>[c_ a,μ a<N]) s h)):aU P M f (fo aD (λa=>[c_ a]) s h):=by
 refine tn h0 rfl ?_;intro args aC ps r X' hs ab hX w g vs aI;unfold fo at hs;simp only at hs;split at hs;.rename_i a ha;cases hs;exact(key (μ a+1)).cE rfl args aC [c_ a,μ a<μ a+1] _ _ (by simp only[fo,ha]) ⟨ab.1,KN _,trivial⟩ hX w g vs aI
 .cases hs
def pb{α:Type}(aD:cO α)(c_:α->List Prop)(aa:α->aA U)(s:α->List (List (C U)))(h:α->List (bL×LC U)):Fs U:=
 {wr:=Y
  EG:=Y
  fn:=λ_ _=>aT
  m_:=λxs aC aB=>match aD.get aB xs aC with|some a=>A (c_ a,aa a,s a,h a)|none=>aT}
theorem Zen:∀{aB:List (bL×LC U)}{t}{x:LC U},ZU (λ_=>aT) aB t=A x->(t,x)∈aB
 |[],t,x,h=>by trivial|(a,y)::aB,t,x,h=>by
  simp only[ZU]at h;split at h;.grind
  .exact Q4 _ (Zen h)
theorem ZlU{Γ}{α}{aD}{c_}{ai}{aa}{ab:α->List (bL×LC U)}(ok:bS P M)(henc:M.enc=enc)(hΓ:∀f s,Γ f=A s->aU P M f s){f}{fn}(lv)(hf:P.funcs[f]?=A fn)(hb:fn.body=A (cd fn []))(af:(fn.name== "runtime.NumGoroutine")=I)(hn:∀a,J (aD.cK a)≤fn.ntmps)(ae:∀a,eU (c_ a)->gD M Γ (lr M Γ) fn.ntmps lv (cd fn []) (rJ (aD.cK a) (aD.eV a) (aD.dR a)) (Lk M fn.ntmps fn.results.toList (ai a) (aa a) (ab a))):aU P M f (pb aD c_ ai aa ab):=by
 refine OB ok hΓ (Ce ok hΓ) lv hf hb af ?_;intro args aC aB ps r X' L' hs aj;unfold pb at hs;simp only at hs;split at hs
 .rename_i a ha;cases hs;obtain⟨h1,h2⟩:=aD.ok M henc aB args aC a ha;exact⟨aD.cK a,aD.eV a,aD.dR a,h1,λt x hx=>h2 _ (Zen hx),hn a,ae a aj⟩
 .cases hs
theorem J0{l}{α}{aD}{c_:α->Prop}{af}{s}{aa}(ok:bS P M)(henc:M.enc=enc)(hl:pR P M l){f}{fn}(lv)(hf:P.funcs[f]?=A fn)(hb:fn.body=A (cd fn []))(ae:(fn.name== "runtime.NumGoroutine")=I)(n)(hn:∀a,J (aD.cK a)=n)(ah:n≤fn.ntmps)(ab:∀a,c_ a->gD M (Za l) (lr M (Za l)) fn.ntmps lv (cd fn []) (rJ (aD.cK a) (aD.eV a) (aD.dR a)) (Lk M fn.ntmps fn.results.toList (af a) (s a) (aa a))):aU P M f (pb aD (λa=>[c_ a]) af s aa):=ZlU (Γ:=Za l) ok henc (mD hl) lv hf hb ae λa=>by grind λa h=>ab a h.1
def Fs.ef(s:Fs U)(p:List Nat):Fs U:={s with qO:=λi=>p.contains i}
theorem aU.ef{f s p}(h:aU P M f s):aU P M f (s.ef p):=h
def C4{α:Type}(aD:cF α)(c_:α->List Prop)(T:Ty)(h:α->List (El T)):Fs U:=
 {EG:=Y
  fn:=λ_ _=>aT
  m_:=λxs aC aB=>match aC,aB with
   |[],[]=>match aD.get xs with|some a=>A (c_ a,.c (.mref (.r 0 0)),[],[(.r 0 0,LC.mk (U:=U) T (h a) 0)])|none=>aT
   |_,_=>aT}
theorem Hw{l}{α}{aD}{c_:α->Prop}{T}{ae:α->List (El T)}(ok:bS P M)(henc:M.enc=enc)(hl:pR P M l){f}{fn}(lv)(hf:P.funcs[f]?=A fn)(hb:fn.body=A (cd fn []))(ab:(fn.name== "runtime.NumGoroutine")=I)(n)(hn:∀a,J (aD.cK a)=n)(aj:n≤fn.ntmps)(h:∀a,c_ a->gD M (qW l) (lr M (qW l)) fn.ntmps lv (cd fn []) (Y5 (aD.cK a) []) (Lk M fn.ntmps fn.results.toList (.c (.mref (.r 0 0))) [] [(.r 0 0,LC.mk (U:=U) T (ae a) 0)])):aU P M f (C4 aD (λa=>[c_ a]) T ae):=by
 have kn:∀f s,(qW l) f=A s->aU P M f s:=mD hl;refine OB ok kn (Ce ok kn) lv hf hb ab ?_;intro args aC aB ps r X' L' hs ah;unfold C4 at hs;simp only at hs;split at hs
 .split at hs
  .rename_i a ha;cases hs;obtain⟨h1,h2⟩:=aD.ok M henc args a ha;exact⟨aD.cK a,[],[],⟨h1,h2,rfl,λk x y hx=>by simp at hx,λk x y hx=>by simp at hx⟩,λt x hx=>hx,by grind,h a ah.1⟩
  .cases hs
 .cases hs
def UN(s h:Fs U):Fs U:=
 {wr:=s.wr
  EG:=s.EG
  dU:=s.dU||h.dU
  fn:=λ_ _=>aT
  m_:=λxs aC aB=>match s.m_ xs aC aB with|some r=>A r|none=>h.m_ xs aC aB}
theorem Ztn{f s s'}(h:aU P M f s)(h':aU P M f s'):aU P M f (UN s s'):=by
 refine⟨h.1,λargs aC aB ps r X' L' he aa hX w g vs aI=>?_⟩;simp only[UN]at he;split at he;.rename_i r0 h0;cases he;exact h.2 args aC aB ps r X' L' h0 aa hX w g vs aI
 .exact h'.2 args aC aB ps r X' L' he aa hX w g vs aI
def Fs.eO(s:Fs U):Fs U:={s with Uw:=Y}
theorem aU.eO{f s}(h:aU P M f s):aU P M f s.eO:=h
end Go.AM
namespace Go.AM
def sw(f:FuncId):vW Unit:=
 {get:=λv=>match v with
   |.fn g=>if Nat.beq g f then A ()else aT|_=>aT
  cK:=λ_=>.fn f
  ok:=by
   intro M _ v a h;split at h
   .split at h
    .rename_i hb;rw[Qt hb];exact λ_ _ _ h=>h
    .cases h
   .cases h}
end Go.AM
namespace Go.AM.YtpjenobkibfpcaaGreat
open Go.AM Go.Proofs
def el:Ty->TypeId|.u64=>101|.u8=>5|.int=>3|.aX=>25|.bD=>113|.aY=>30|.cJ=>115|.op=>103|.dO=>173|.unit=>200|.eW=>202|.left=>110|.eF=>56|.ig=>82
def tb:Tables U:=
 {el:=el
  sl:=[(22,.u64),(23,.aX),(26,.bD),(27,.cJ),(28,.op),(39,.aY),(50,.eF),(78,.ig),(166,.dO),(182,.int),(188,.eW),(191,.unit),(221,.u8)]
  var:=[(2,I,[.int .i64 0]),(3,I,[.int .i64 0]),(4,I,[.bool I]),(5,I,[.int .u8 0]),(6,I,[.int .u8 0]),(7,Y,[.int .i64 0,.int .i64 0,.bool I,.int .u8 0]),(8,Y,[.int .i64 0,.int .i64 0,.bool I,.int .u8 0]),(12,I,[.int .u64 0]),(15,I,[.nilp]),(16,I,[.nilp]),(17,I,[.nilp]),(18,Y,[.nilp]),(19,Y,[.nilp]),(21,I,[.int .i32 0]),(22,I,[.nils]),(23,I,[.nils]),(24,Y,[.int .i64 0,.nils,.nils]),(25,Y,[.int .i64 0,.nils,.nils]),(26,I,[.nils]),(27,I,[.nils]),(28,I,[.nils]),(29,Y,[.int .i64 0,.int .i64 0,.nils,.nils,.int .i64 0,.nils,.nils,.nils,.nils,.int .i64 0,.nils]),(30,Y,[.int .i64 0,.int .i64 0,.nils,.nils,.int .i64 0,.nils,.nils,.nils,.nils,.int .i64 0,.nils]),(33,I,[.int .i64 0]),(39,I,[.nils]),(50,I,[.nils]),(52,I,[.nilp]),(55,Y,[.int .i64 0,.int .i64 0,.int .i64 0,.int .i64 0,.nils,.nils,.int .i64 0,.nils,.nils,.nils,.nils,.int .i64 0,.nils]),(56,Y,[.int .i64 0,.int .i64 0,.int .i64 0,.int .i64 0,.nils,.nils,.int .i64 0,.nils,.nils,.nils,.nils,.int .i64 0,.nils]),(62,I,[.nilp]),(64,Y,[.int .i64 0,.nils,.nils,.int .i64 0,.nils,.nils,.nils,.nils]),(65,Y,[.int .i64 0,.nils,.nils,.int .i64 0,.nils,.nils,.nils,.nils]),(71,I,[.nilp]),(78,I,[.nils]),(79,I,[.nilp]),(81,Y,[.int .i64 0,.int .i64 0,.int .i64 0,.int .i64 0,.int .i64 0,.nils,.nils,.int .i64 0,.nils,.nils,.nils,.nils,.int .i64 0,.nils]),(82,Y,[.int .i64 0,.int .i64 0,.int .i64 0,.int .i64 0,.int .i64 0,.nils,.nils,.int .i64 0,.nils,.nils,.nils,.nils,.int .i64 0,.nils]),(85,I,[.nilp]),(86,Y,[.nilp,.nilp,.nilp,.nilp]),(87,I,[.nilp]),(88,I,[.nilp]),(89,Y,[.nilp,.nilp,.nilp,.nilp]),(90,Y,[.nilp,.nilp,.nilp,.nilp,.nilp,.nilp,.nilp,.nilp,.nilp,.nilp]),(91,Y,[.nilp,.nilp,.nilp,.nilp,.nilp,.nilp,.nilp,.nilp,.nilp,.nilp]),(101,I,[.int .u64 0]),(102,Y,[.int .i64 0,.int .i64 0,.nils,.int .i64 0,.int .i64 0,.nils,.nils,.int .i64 0,.nils,.nils,.nils,.nils,.int .i64 0,.nils]),(103,Y,[.int .i64 0,.int .i64 0,.nils,.int .i64 0,.int .i64 0,.nils,.nils,.int .i64 0,.nils,.nils,.nils,.nils,.int .i64 0,.nils]),(104,I,[.nilp]),(105,Y,[.bool I,.bool I]),(106,Y,[.bool I,.bool I]),(109,Y,[.int .i64 0,.int .i64 0,.nils,.nils,.int .i64 0,.nils,.nils,.nils,.nils,.int .i64 0,.nils,.int .i64 0,.int .i64 0,.nils,.nils,.int .i64 0,.nils,.nils,.nils,.nils,.int .i64 0,.nils,.bool I,.bool I]),(110,Y,[.int .i64 0,.int .i64 0,.nils,.nils,.int .i64 0,.nils,.nils,.nils,.nils,.int .i64 0,.nils,.int .i64 0,.int .i64 0,.nils,.nils,.int .i64 0,.nils,.nils,.nils,.nils,.int .i64 0,.nils,.bool I,.bool I]),(112,Y,[.int .i64 0,.int .u8 0,.int .u64 0,.int .u64 0]),(113,Y,[.int .i64 0,.int .u8 0,.int .u64 0,.int .u64 0]),(114,Y,[.int .i64 0,.int .i64 0,.int .i64 0,.nils,.nils,.int .i64 0,.nils,.nils,.nils,.nils,.int .i64 0,.nils]),(115,Y,[.int .i64 0,.int .i64 0,.int .i64 0,.nils,.nils,.int .i64 0,.nils,.nils,.nils,.nils,.int .i64 0,.nils]),(123,Y,[.int .i64 0,.nils,.nils,.nils,.nils]),(124,Y,[.int .i64 0,.nils,.nils,.nils,.nils]),(130,Y,[.int .i64 0,.nils,.nils,.nils]),(131,Y,[.int .i64 0,.nils,.nils,.nils]),(136,Y,[.int .i64 0,.nils,.nils,.int .i64 0,.nils,.nils,.nils]),(137,Y,[.int .i64 0,.nils,.nils,.int .i64 0,.nils,.nils,.nils]),(138,Y,[.int .i64 0,.nils,.nils,.int .i64 0,.int .i64 0,.int .i64 0,.nils,.nils,.int .i64 0,.nils,.nils,.nils,.nils,.int .i64 0,.nils]),(139,Y,[.int .i64 0,.nils,.nils,.int .i64 0,.int .i64 0,.int .i64 0,.nils,.nils,.int .i64 0,.nils,.nils,.nils,.nils,.int .i64 0,.nils]),(141,Y,[.int .i64 0,.nils,.nils,.int .i64 0,.int .i64 0,.int .i64 0,.nils,.nils,.int .i64 0,.nils,.nils,.nils,.nils,.int .i64 0,.nils]),(142,Y,[.int .i64 0,.nils,.nils,.int .i64 0,.int .i64 0,.int .i64 0,.nils,.nils,.int .i64 0,.nils,.nils,.nils,.nils,.int .i64 0,.nils]),(166,I,[.nils]),(169,I,[.nilp]),(170,Y,[.nilp,.nils,.nils,.nils,.nils]),(171,Y,[.nilp,.nils,.nils,.nils,.nils]),(172,Y,[.int .i64 0,.int .i64 0,.int .i64 0,.nils,.int .i64 0,.int .i64 0,.nils,.nils,.int .i64 0,.nils,.nils,.nils,.nils,.int .i64 0,.nils,.int .i64 0,.int .i64 0,.nils,.int .i64 0,.int .i64 0,.nils,.nils,.int .i64 0,.nils,.nils,.nils,.nils,.int .i64 0,.nils]),(173,Y,[.int .i64 0,.int .i64 0,.int .i64 0,.nils,.int .i64 0,.int .i64 0,.nils,.nils,.int .i64 0,.nils,.nils,.nils,.nils,.int .i64 0,.nils,.int .i64 0,.int .i64 0,.nils,.int .i64 0,.int .i64 0,.nils,.nils,.int .i64 0,.nils,.nils,.nils,.nils,.int .i64 0,.nils]),(176,I,[.nilp]),(177,Y,[.nils,.nils,.nils]),(178,Y,[.nils,.nils,.nils]),(181,I,[.nilp]),(182,I,[.nils]),(188,I,[.nils]),(191,I,[.nils]),(199,Y,[.int .i64 0,.int .i64 0,.int .i64 0,.nils,.nils,.int .i64 0,.int .i64 0,.nils,.nils,.int .i64 0,.nils,.nils,.nils,.nils,.int .i64 0,.nils,.bool I]),(200,Y,[.int .i64 0,.int .i64 0,.int .i64 0,.nils,.nils,.int .i64 0,.int .i64 0,.nils,.nils,.int .i64 0,.nils,.nils,.nils,.nils,.int .i64 0,.nils,.bool I]),(201,Y,[.int .i64 0,.int .i64 0,.int .i64 0,.int .i64 0,.nils,.nils,.int .i64 0,.int .i64 0,.nils,.nils,.int .i64 0,.nils,.nils,.nils,.nils,.int .i64 0,.nils,.bool I,.int .i64 0,.int .i64 0,.int .i64 0,.nils,.nils,.int .i64 0,.int .i64 0,.nils,.nils,.int .i64 0,.nils,.nils,.nils,.nils,.int .i64 0,.nils,.bool I]),(202,Y,[.int .i64 0,.int .i64 0,.int .i64 0,.int .i64 0,.nils,.nils,.int .i64 0,.int .i64 0,.nils,.nils,.int .i64 0,.nils,.nils,.nils,.nils,.int .i64 0,.nils,.bool I,.int .i64 0,.int .i64 0,.int .i64 0,.nils,.nils,.int .i64 0,.int .i64 0,.nils,.nils,.int .i64 0,.nils,.nils,.nils,.nils,.int .i64 0,.nils,.bool I]),(217,Y,[.int .u8 0,.int .u8 0,.int .u8 0,.int .u8 0,.int .u8 0,.int .u8 0,.int .u8 0,.int .u8 0]),(221,I,[.nils]),(227,I,[.nilp]),(228,Y,[.nils,.int .i64 0]),(229,Y,[.nils,.int .i64 0]),(259,Y,[.int .i64 0,.int .i64 0,.int .i64 0,.int .i64 0,.int .i64 0,.int .i64 0]),(267,I,[.int .u32 0]),(268,I,[.int .u8 0]),(269,I,[.int .u8 0]),(271,I,[.nilp]),(272,I,[.int .i32 0]),(273,I,[.int .i32 0])]
  f_:=[(7,0,0,2),(7,1,1,3),(7,2,2,4),(7,3,3,6),(8,0,0,2),(8,1,1,3),(8,2,2,4),(8,3,3,6),(18,0,0,17),(19,0,0,17),(24,0,0,3),(24,1,1,22),(24,2,2,23),(25,0,0,3),(25,1,1,22),(25,2,2,23),(29,0,0,3),(29,1,1,25),(29,2,4,25),(29,3,7,26),(29,4,8,27),(29,5,9,3),(29,6,10,28),(30,0,0,3),(30,1,1,25),(30,2,4,25),(30,3,7,26),(30,4,8,27),(30,5,9,3),(30,6,10,28),(55,0,0,3),(55,1,1,3),(55,2,2,30),(56,0,0,3),(56,1,1,3),(56,2,2,30),(64,0,0,25),(64,1,3,25),(64,2,6,39),(64,3,7,39),(65,0,0,25),(65,1,3,25),(65,2,6,39),(65,3,7,39),(81,0,0,3),(81,1,1,3),(81,2,2,3),(81,3,3,30),(82,0,0,3),(82,1,1,3),(82,2,2,3),(82,3,3,30),(90,0,0,71),(90,1,1,86),(90,2,5,87),(90,3,6,89),(91,0,0,71),(91,1,1,86),(91,2,5,87),(91,3,6,89),(102,0,0,3),(102,1,1,3),(102,2,2,23),(102,3,3,30),(103,0,0,3),(103,1,1,3),(103,2,2,23),(103,3,3,30),(105,0,0,4),(105,1,1,4),(106,0,0,4),(106,1,1,4),(109,0,0,30),(109,1,11,30),(109,2,22,4),(109,3,23,4),(110,0,0,30),(110,1,11,30),(110,2,22,4),(110,3,23,4),(112,0,0,3),(112,1,1,5),(112,2,2,101),(112,3,3,101),(113,0,0,3),(113,1,1,5),(113,2,2,101),(113,3,3,101),(114,0,0,3),(114,1,1,30),(115,0,0,3),(115,1,1,30),(123,0,0,25),(123,1,3,39),(123,2,4,39),(124,0,0,25),(124,1,3,39),(124,2,4,39),(130,0,0,25),(130,1,3,39),(131,0,0,25),(131,1,3,39),(136,0,0,25),(136,1,3,25),(136,2,6,39),(137,0,0,25),(137,1,3,25),(137,2,6,39),(138,0,0,25),(138,1,3,3),(138,2,4,30),(139,0,0,25),(139,1,3,3),(139,2,4,30),(141,0,0,25),(141,1,3,3),(141,2,4,30),(142,0,0,25),(142,1,3,3),(142,2,4,30),(170,0,0,104),(170,1,1,28),(170,2,2,28),(170,3,3,23),(170,4,4,23),(171,0,0,104),(171,1,1,28),(171,2,2,28),(171,3,3,23),(171,4,4,23),(172,0,0,3),(172,1,1,103),(172,2,15,103),(173,0,0,3),(173,1,1,103),(173,2,15,103),(177,0,0,28),(177,1,1,23),(177,2,2,23),(178,0,0,28),(178,1,1,23),(178,2,2,23),(199,0,0,3),(199,1,1,3),(199,2,2,25),(199,3,5,30),(199,4,16,4),(200,0,0,3),(200,1,1,3),(200,2,2,25),(200,3,5,30),(200,4,16,4),(201,0,0,3),(201,1,1,200),(201,2,18,200),(202,0,0,3),(202,1,1,200),(202,2,18,200),(228,0,0,28),(228,1,1,3),(229,0,0,28),(229,1,1,3)]
  arr:=[(86,4,85),(89,4,88),(217,8,5),(259,6,3)]
  rS:=[7,8,105,106,112,113]}
def M:cW U:=tb.M K
theorem ZTL:tb.var.all (Mv Tryz.prog)=Y:=V4
theorem ZWO:tb.sl.all (TA Tryz.prog tb.el)=Y:=V4
theorem ZVl:tb.f_.all (TY Tryz.prog)=Y:=V4
theorem ZVG:tb.arr.all (P9 Tryz.prog)=Y:=V4
theorem ZXc:∀t,VA Tryz.prog K tb t=Y:=by
 intro t;cases t;.kernel_rfl
 .kernel_rfl
 .kernel_rfl
 .kernel_rfl
 .kernel_rfl
 .kernel_rfl
 .kernel_rfl
 .kernel_rfl
 .kernel_rfl
 .kernel_rfl
 .kernel_rfl
 .kernel_rfl
 .kernel_rfl
 .kernel_rfl
theorem ZN:bS Tryz.prog M:=ZzT ZXN ZTL ZWO ZVl ZVG ZXc V4 V4
abbrev sU(T)(l:List (El T))(t:g_):C U:=.slice (U:=U) T l t
noncomputable abbrev AW(K)(f)(lv)(p):=gD M K (lr M K) f.ntmps lv (cd f p)
noncomputable abbrev SW(K)(f)(lv)(p):=ZTS M K (lr M K) f.ntmps lv (cd f p)
abbrev EQ(f:Func):=ZB M f.ntmps f.results.toList
abbrev QT:=c9->bT U->Prop
abbrev NT:=bT U->Prop
abbrev CT(k:FuncId)(s:Fs U):Prop:=aU Tryz.prog M k s
abbrev xB:=@c9.inBlock U
abbrev xT:=@c9.then U
abbrev ci(x:Int):C U:=.int .i64 x
abbrev L2(e:List (Nat×aA U))(m:List (Name×List (C U))):bT U:=⟨e,m,[]⟩
abbrev kc(f:Int->Nat->Int)(x:Int):List (C U):=[.int .u8 (f x 0),.int .u8 (f x 1),.int .u8 (f x 2),.int .u8 (f x 3),.int .u8 (f x 4),.int .u8 (f x 5),.int .u8 (f x 6),.int .u8 (f x 7)]
abbrev oI(l:List Int):List (C U):=l.map λx=>.int .u8 x
abbrev FK(k:FuncId):Prop:=∃fn,Tryz.prog.funcs[k]?=A fn∧fn.body.isSome=Y∧(fn.name== "runtime.NumGoroutine")=I
abbrev pL(n:Nat):Nat×aA U:=(n,.ptr (.bE n) 0)
abbrev pB(n:Nat)(b:Bool):Nat×aA U:=(n,.c (.bool b))
abbrev pI(n:Nat)(x:Int):Nat×aA U:=(n,.c (.int .i64 x))
def lvl(l:List (List Nat×List Nat)):Zb U:=λi=>((aR l i ([],[])).1.map λk=>(k,[]),(aR l i ([],[])).2.map λk=>(.bE k,[]))
instance(n:Nat):OfNat (Nat×List (Sk U)) n:=⟨(n,[])⟩
instance(n:Nat):OfNat (Name×List (Sk U)) n:=⟨(.bE n,[])⟩
abbrev an(n:Nat)(l:List (Sk U)):List (Sk U):=List.replicate n .any++l
def tgL:List (Nat×List (Sk U))->Nat×List (Sk U)->List (Nat×List (Sk U))|[],y=>[y]|x::r,y=>bif Nat.blt x.1 y.1 then x::tgL r y else bif Nat.beq x.1 y.1 then bif y.2.isEmpty then r else y::r else y::x::r
def lvu(s:List (Nat×List (Sk U))):List (Nat×List (Sk U))×List (Name×List (Sk U)):=(s.takeWhile λx=>Nat.blt x.1 500,(s.dropWhile λx=>Nat.blt x.1 500).map λx=>(bif Nat.blt x.1 900 then .bE (x.1-500)else .x (x.1-900),x.2))
def cI(l:List (List (Nat×List (Sk U)))):Zb U:=λi=>bif Nat.blt i (J l)then lvu ((l.take (i+1)).foldl (λs d=>d.foldl tgL s) [])else([],[])
def lvk(l:List (List (Nat×List (Sk U))×List (Name×List (Sk U)))):Zb U:=λi=>aR l i ([],[])
abbrev zc0:List (C U):=[.int .u8 0,.int .u8 0,.int .u8 0,.int .u8 0,.int .u8 0,.int .u8 0,.int .u8 0,.int .u8 0]
abbrev eI:List (C U):=[.int .i64 0,.int .i64 0,.nils,.nils,.int .i64 0,.nils,.nils,.nils,.nils,.int .i64 0,.nils]
abbrev Sa:List (C U):=[.int .i64 0,.int .i64 0,.nils,.int .i64 0,.int .i64 0,.nils,.nils,.int .i64 0,.nils,.nils,.nils,.nils,.int .i64 0,.nils]
abbrev Dn:List (C U):=[.int .i64 0,.int .i64 0,.nils,.nils,.int .i64 0,.nils,.nils,.nils,.nils,.int .i64 0,.nils,.int .i64 0,.int .i64 0,.nils,.nils,.int .i64 0,.nils,.nils,.nils,.nils,.int .i64 0,.nils,.bool I,.bool I]
abbrev N9:=H×Int×Int×Unit
abbrev lV:=H×Unit
abbrev BP:=List Int×List Int×Unit
abbrev DN:=List Int×Unit
abbrev tQ:=H×Int×Unit
abbrev yN:=H×H×Unit
abbrev oZ:=Int×Unit
abbrev um:=Int×Int×Unit
abbrev Fc:=Int×H×Unit
abbrev PN:=List Int×Int×Unit
abbrev SP:=Int×Int×Int×Unit
abbrev Ys:=W×Unit
abbrev IA:=W×Int×Int×Unit
abbrev tU:=W×Int×Unit
abbrev AT:=Int×Op×Int×Unit
abbrev wj:=Op×Unit
abbrev CK:=(List Op×Int×Unit)×Unit
abbrev G4:=(List Op×Int×Unit)×Int×Unit
abbrev Iq:=(List Op×Int×Unit)×(List Op×Int×Unit)×Unit
abbrev xU:=List Op×List Op×Unit
abbrev vp:=List Op×Int×Unit
abbrev RV:=List bJ×List bJ×Unit
abbrev DL:=List H×List H×Unit
abbrev YC:=W×W×Unit
abbrev xO:=List H×Unit
abbrev U5:=List Op×Int×Int×Unit
abbrev DG:=Int×W×Unit
abbrev EF:=List aV×Unit
abbrev Pt:=List H×List H×Unit×Unit
abbrev oD:=W×H×Unit
abbrev D9:=(List Op×List H×List H×Unit)×Unit
abbrev EX:=(List Op×List H×List H×Unit)×Int×Unit
abbrev wE:=(List Op×List H×List H×Unit)×List H×Unit
abbrev BC:=Int×List Op×Unit
abbrev Gk:=aV×aV×Unit
abbrev FH:=aV×Unit
abbrev L4:=bP×Unit
abbrev Rj:=List aV×List aV×Unit×Unit×Unit
abbrev ZDi:=List aV×List aV×Unit
abbrev HG:=List bP×List bP×Unit
abbrev L6:=List bP×List bP×Unit×Unit×Unit
abbrev LK:=bP×bP×Unit
abbrev Mm:=cm×Unit
abbrev ID:=H×(Int×Unit)×Unit
abbrev Cl:=List H×(Int×Unit)×Unit
abbrev xk:=List bP×Int×Unit
abbrev Hz:=List aV×Int×Unit
abbrev ze:=bJ×bJ×Unit
abbrev CE:=aV×Int×Unit
abbrev IE:=(Bool×Bool×Unit)×aV×aV×Unit
abbrev Ld:=(Unit×List Op×List Op×List H×List H×Unit)×W×H×(Bool×Bool×Unit)×Unit
abbrev ym:=List aV×Unit×Unit
abbrev yX:=List bP×Unit×Unit
abbrev Gm:=List Op×Unit×Unit
abbrev Pv:=List bP×Unit
abbrev DH:=(Int×Int×List Int×List H×Int×List Int×List H×List aV×List bP×Int×List Op×Unit)×Unit
abbrev HD:=(Bool×Bool×Unit)×W×H×H×Unit
abbrev NU:=(Unit×List Op×List Op×List H×List H×Unit)×(Bool×Bool×Unit)×Unit
abbrev ph:=(Bool×Bool×Unit)×W×W×Unit
abbrev E6:=(Unit×List Op×List Op×List H×List H×Unit)×Op×Op×(Bool×Bool×Unit)×Unit
abbrev tA:=List W×Unit
abbrev oV:=(Int×List Int×List H×List W×List W×Unit)×Unit
abbrev xj:=(Int×List Int×List H×List W×List W×Unit)×W×Unit
abbrev HU:=(Int×List Int×List H×List W×List W×Unit)×Int×Unit
abbrev U9:=cM×H×Unit
abbrev RE:=List bK×Int×Unit
abbrev DQ:=List Op×List H×Unit
abbrev WK:=W×H×H×Unit
abbrev xm:=(Int×List Int×List H×Int×List Int×List H×List W×List W×Unit)×W×Unit
abbrev s9:=(Int×List Int×List H×Int×List Int×List H×List W×List W×Unit)×Unit
abbrev Le:=(Int×List Int×List H×Int×List Int×List H×List W×List W×Unit)×Int×Unit
abbrev Ml:=(Int×List Int×List H×List W×List W×Unit)×(Int×List Int×List H×Int×List Int×List H×List W×List W×Unit)×cM×Unit
abbrev GJ:=(Int×List Int×List H×List W×List W×Unit)×(Int×List Int×List H×Int×List Int×List H×List W×List W×Unit)×Unit
abbrev F0:=H×List cM×Unit
theorem kF{l}{α}{aD}{c_:α→Prop}{h}(hl:pR Tryz.prog M l){f}{g}(lv)(hf:Tryz.prog.funcs[f]?=A g)(n)(s:∀a,c_ a→AW (Za l) g lv [] (Y5 (aD.cK a) []) (EQ g (h a) []))(h1:g.body=A (cd g []):=by exact rfl)(h2:(g.name== "runtime.NumGoroutine")=I:=by exact rfl)(h3:∀a,J (aD.cK a)=n:=by exact λ_=>rfl)(h4:n≤g.ntmps:=by decide):CT f (fs aD (λa=>[c_ a]) h):=Zcj ZN rfl hl lv hf h1 h2 n h3 h4 s
theorem kX{l}{α}{aD}{c_:α→Prop}{s}{h}(hl:pR Tryz.prog M l){f}{g}(lv)(hf:Tryz.prog.funcs[f]?=A g)(n)(hb:∀a,c_ a→AW (Za l) g lv [] (Y5 (aD.cK a) (aD.eV a)) (EQ g (s a) (h a)))(h1:g.body=A (cd g []):=by exact rfl)(h2:(g.name== "runtime.NumGoroutine")=I:=by exact rfl)(h3:∀a,J (aD.cK a)=n:=by exact λ_=>rfl)(h4:n≤g.ntmps:=by decide):CT f (fo aD (λa=>[c_ a]) s h):=Zln ZN rfl hl lv hf h1 h2 n h3 h4 hb
theorem wV{K f lv s Q}(C:QT->Prop)(h:C Q)(e:∀Q,C Q->AW K f lv [] s Q):AW K f lv [] s Q:=e Q h
end Go.AM.YtpjenobkibfpcaaGreat
namespace Go.AM.YtpjenobkibfpcaaGreat
open Go.AM Go.Proofs Go.Proofs.YtpjenobkibfpcaaGreat Go.ChangeShapes Go.WideShapes Go.RowKit
theorem bF:ownKnob Tryz.prog.godebug=aT:=V4
theorem ZJs:laidOutB Tryz.prog=Y:=V4
theorem Zmf:eR M:=⟨rfl,rfl,⟨_,rfl⟩,⟨_,rfl⟩,⟨_,rfl,rfl⟩,⟨_,_,rfl,rfl⟩,⟨_,_,rfl,rfl,rfl⟩,⟨_,_,rfl,rfl,rfl⟩⟩
theorem Znk:g8 M:=⟨⟨_,rfl,rfl⟩,⟨_,_,rfl,rfl⟩,⟨_,_,rfl,rfl⟩,⟨_,_,rfl,rfl⟩,⟨_,_,rfl,rfl⟩,⟨_,rfl,rfl⟩,⟨_,_,rfl,rfl⟩,rfl,⟨_,rfl,rfl⟩,⟨_,_,rfl,rfl⟩,⟨_,_,rfl,rfl⟩,⟨_,_,rfl,rfl,rfl⟩,rfl,⟨_,rfl,rfl⟩,⟨_,_,rfl,rfl⟩,rfl,rfl,⟨_,_,rfl,rfl,rfl⟩,⟨_,_,rfl,rfl,rfl⟩,⟨_,_,rfl,rfl⟩,⟨_,_,rfl,rfl,rfl⟩⟩
theorem ZMj{aF}{henc:TypeId×Value->aF}:Et henc Tryz.prog M (fe .aX) 25 RR:=ZMl ZN rfl ⟨_,_,rfl⟩ λ_ n cs h=>IJ ZN Zmf n cs h
end Go.AM.YtpjenobkibfpcaaGreat
namespace Go.AM.YtpjenobkibfpcaaGreat
open Go.AM Go.Proofs Go.Proofs.YtpjenobkibfpcaaGreat Go.ChangeShapes Go.WideShapes Go.RowKit
theorem ZIQ{aF}{henc:TypeId×Value->aF}{w n cs}(h:lM henc Tryz.prog w n (M.dQ .eF) cs):∃e:cM,eC M w.cell? cs (M.enc .eF e)/\Ec e.e:=by
 obtain⟨ez,ae,s⟩:=Znk.ua;obtain⟨m,rfl,hl,r0⟩:=jV ZN (t:=M.dQ .eF) (i:=0) (off:=0) (ft:=3) (ag:=I) (zs:=[.int .i64 0]) rfl rfl h;obtain⟨m',e',_,r1⟩:=jV ZN (t:=M.dQ .eF) (i:=1) (off:=1) (ft:=3) (ag:=I) (zs:=[.int .i64 0]) rfl rfl h;cases e';obtain⟨m',e',_,r2⟩:=jV ZN (t:=M.dQ .eF) (i:=2) (off:=2) (ft:=M.dQ .aY) rfl ae h;cases e';have aa:J cs=13:=by rw[hl,xN ZN (t:=M.dQ .eF) (ag:=Y) rfl];try rfl
 obtain⟨a,a1,_⟩:=oJ ZN (k:=.i64) (n0:=0) rfl r0;obtain⟨b,b1,_⟩:=oJ ZN (k:=.i64) (n0:=0) rfl r1;obtain⟨c,c1,c2⟩:=ZIP ZN Zmf Znk _ _ r2;rw[s]at c1;exact⟨⟨a,b,c⟩,a1.fG rfl (by simp;omega) (b1.fG rfl (by simp;omega) (c1.fG rfl O (eC.done (n:=13) aa))),c2⟩
theorem ZHE{aF}{henc:TypeId×Value->aF}:Et henc Tryz.prog M (fY .eF) 50 λl=>J l*M.bytes .eF<=reachBytes/\∀d∈l,Ec d.e:=ZMk ZN rfl λ_ n cs h=>ZIQ h
end Go.AM.YtpjenobkibfpcaaGreat
namespace Go.AM.YtpjenobkibfpcaaGreat
open Go.AM Go.Proofs
noncomputable section
def Rb:cF N9:=.cons (fe .aX) (.cons (J1 .i64) (.cons (J1 .i64) .nil))
def ub(a:N9):Prop:=kg a.1/\0<=a.2.1/\a.2.1<=4611686018427387904/\-1<=a.2.2.1/\a.2.2.1<=4611686018427387904
def As(a:N9):Nat:=Zo a.1
def DO(a:N9):aA U:=.c (ci (Y3 a.1 a.2.1 a.2.2.1))
def BW:Fs U:=fs Rb (λa=>[ub a]) DO
def ov:cF lV:=.cons (fe .aX) .nil
def HC(a:lV):Prop:=kg a.1
def ZTZ(a:lV):aA U:=.c (.bool (decide (0<=Y3 a.1 80 3000)))
def Hm:Fs U:=fs ov (λa=>[HC a]) ZTZ
def ZSF:cF BP:=.cons (fY .u64) (.cons (fY .u64) .nil)
def vX(a:BP):Prop:=J a.1<=1000000000000
def xD(a:BP):aA U:=.c (.bool (decide (a.1=a.2.1)))
def uJ:Fs U:=fs ZSF (λa=>[vX a]) xD
def OK:cF DN:=.cons (fY .u64) .nil
def qc(a:DN):Prop:=J a.1<=1000000000000
def ZNr(a:DN):aA U:=.c (sU .u64 (dc a.1) .bA)
def Ib:Fs U:=fs OK (λa=>[qc a]) ZNr
def ZQ8(a:DN):aA U:=.c (sU .u64 a.1 .bA)
def I7:Fs U:=fs OK (λa=>[qc a]) ZQ8
def sS:cF tQ:=.cons (fe .aX) (.cons (J1 .i64) .nil)
def rM(a:tQ):Prop:=True
def IX(a:tQ):aA U:=.c (.int .u64 (JJ a.1 a.2.1))
def zQ:Fs U:=fs sS (λa=>[rM a]) IX
def Es(a:tQ):aA U:=.agg (enc .aX (jq a.1 a.2.1))
def zG:Fs U:=fs sS (λa=>[rM a]) Es
def gQ(a:lV):Prop:=Zo a.1<=1000000000000
def qb(a:lV):Nat:=Zo a.1
def pF(a:lV):aA U:=.agg (enc .aX (Z2 a.1))
def mJ:Fs U:=fs ov (λa=>[gQ a]) pF
mutual def yr:H->Prop|.mk _ w ks=>J w<=1000000000000/\J ks<=1000000000000/\C2 ks def C2:List H->Prop|[]=>True|t::r=>yr t/\C2 r end
def xF(a:lV):Prop:=yr a.1
def Pz:Fs U:=fs ov (λa=>[xF a]) pF
def zj:cF yN:=.cons (fe .aX) (.cons (fe .aX) .nil)
def mT(a:yN):Prop:=Zo a.1<=1000000000000
def zU(a:yN):Nat:=Zo a.1
def Bd(a:yN):aA U:=.c (.bool (ZW a.1 a.2.1))
def yJ:Fs U:=fs zj (λa=>[mT a]) Bd
def kM(a:yN):Prop:=Zo a.1<=1000000000000/\Zo a.2.1<=1000000000000
def BN(a:yN):Nat:=Zo a.1+Zo a.2.1
def yo(a:yN):aA U:=.c (.bool (ZW (Z2 a.1) (Z2 a.2.1)))
def l4:Fs U:=fs zj (λa=>[kM a]) yo
def ZvN(N:Nat):List (FuncId×Fs U):=(80,fs Rb (λa=>[ub a,As a<N]) DO)::[]
def Gg:Zb U:=cI [[1,2,3,503],[],[19],[1,2,3,6,19,503],[1,2,3,6,7,503],[28],[28],[],[1,2,3,6,7,503]]
def HJ(t:H)(d l s h:Int):bT U:=L2 [pI 1 d,pI 2 s,pL 3,pI 7 h] [(.bE 3,enc .aX t)]
abbrev UR(N)(p):=AW (Za (ZvN N)) Tryz.f80 Gg p
abbrev S80(N)(p):=SW (Za (ZvN N)) Tryz.f80 Gg p
theorem ZWA(N)(t)(d l)(Q:QT)(h:bQ (l-1)/\bQ ((l-1)-(J t.aS))/\Tt ! d==0/\((d==0)=I->! d==0=Y)/\iB (bif d==0 then Y else decide ((( l-1:Int)-( J t.aS:Int))<0)) (Q .ret (L2 [pI 6 (-1)] [])) (Zi (UR N [1,1,1,0,1,0,0]) (HJ t d l ((l-1)-(J t.aS)) 0) (xB 0 (S80 N [1,1,1,1] Q)))):UR N [] (L2 [(0,.agg (enc .aX t)),pI 1 d,pI 2 l] []) Q:=Eq.mpr V4 h
theorem ZI6(N)(t)(d l x2 s)(N0:NT)(Q:QT)(h:let z2:=decide (s<( J t.X:Int));let z1:=aR t.X (G s) H.nil;let z0:=H.mk (H.D z1) (H.aS z1) (H.X z1);Tk 2 z2 (iB (bif z2 then decide (0<=x2)else I) ((0<=s/\s<(J t.X))/\bQ (d-1)/\ub (z0,d-1,x2,())/\As (z0,d-1,x2,())<N/\bQ (s+1)/\N0 (HJ t d l (Y3 z0 (d-1) x2) (s+1))) (Q .ret (L2 [pI 6 x2] [])))):UR N [1,1,1,0,1,0,0] (HJ t d l x2 s) (xT N0 (xB 0 (S80 N [1,1,1,1] Q))):=Eq.mpr V4 h
def ZTb(N:Nat)(t:H)(d l:Int):Prop:=AW (Za (ZvN N)) Tryz.f80 Gg [] (Y5 (Rb.cK (t,d,l,())) []) (EQ Tryz.f80 (DO (t,d,l,())) [])
theorem ZQs(h:∀N(t:H)d(l:Int)(_:Unit),ub (t,d,l,())->As (t,d,l,())<N+1->ZTb N t d l):CT 80 BW:=Jj (μ:=As) (l:=[]) ZN rfl trivial Gg Tryz.func80 rfl rfl 3 (λ_=>rfl) V1 λN⟨t,d,l,_⟩=>h N t d l ()
def ZR7:List (FuncId×Fs U):=[(80,BW)]
def n8:Zb U:=cI [[1,501],[1,2,501]]
def cQ:List (FuncId×Fs U):=[]
def WD:Zb U:=cI [[0,1],[10],[0,1,4,10],[0,1,4,5],[14],[14],[25],[0,1,4,5,25],[]]
def GI(a b:List Int)(h:Int):bT U:=L2 [(0,.c (sU .u64 a .bA)),(1,.c (sU .u64 b .bA)),pI 5 h] []
abbrev A76(p):=AW (Za cQ) Tryz.f76 WD p
abbrev S76(p):=SW (Za cQ) Tryz.f76 WD p
theorem ZI9(a b)(s)(N0:NT)(Q:QT)(h:iB (decide (s<( J a:Int))) ((0<=s/\s<(J a))/\(0<=s/\s<(J b))/\iB ((aR a (G s) (0:Int))!=aR b (G s) 0) (Q .ret (L2 [pB 4 I] [])) ( bQ (s+1)/\N0 (GI a b (s+1)))) (Q .ret (L2 [pB 4 Y] []))):A76 [1,1,0,1,0,0] (GI a b s) (xT N0 (xB 0 (S76 [1,1,1] Q))):=Eq.mpr V4 h
def Og:Zb U:=cI [[0],[3],[16],[16],[4],[0,2,3,4]]
def MT(l:List Int)(h:Int):bT U:=L2 [(0,.c (sU .u64 l .bA)),pI 3 h] []
abbrev A86(p):=AW (Za cQ) Tryz.f86 Og p
abbrev S86(p):=SW (Za cQ) Tryz.f86 Og p
theorem ZI4(l)(s)(N0:NT)(Q:QT)(h:let z0:=decide (0<s);Tt z0/\(z0=Y->bQ (s-1))/\Tk 2 z0 ((z0=Y->0<=s-1/\s-1<(J l))/\Tk 3 z0 (iB (bif z0 then(List.getD l (Int.toNat (s-1)) (0:Int))==0 else I) ( bQ (s-1)/\N0 (MT l (s-1))) ((0<=s/\s<=(J l))/\( J ([]:List Int)+J (List.take (G s) l))*8<=140737488355328/\Q .ret (L2 [(2,.c (sU .u64 (([]:List Int)++List.take (G s) l) (.bF (.e 2 0))))] []))))):A86 [1,1,0,0,0] (MT l s) (xT N0 (xB 0 (S86 [1,1,1] Q))):=Eq.mpr V4 h
def FI:Zb U:=cI [[0],[4],[0,2,4],[]]
def W1:Zb U:=cI [[0,1],[10],[0,1,4,10],[0,1,4,12,13],[14],[5,14],[5,24],[0,1,4,12,13,24],[0,1,4,12,13],[0,1,4,12,13]]
def Lf(a b:List Int)(h:Int):bT U:=L2 [(0,.c (sU .u64 a .bA)),(1,.c (sU .u64 b .bA)),pI 12 (J a),pI 13 h] []
abbrev ZWn(p):=AW (Za cQ) Tryz.f172 W1 p
abbrev ZVT(p):=SW (Za cQ) Tryz.f172 W1 p
theorem ZCe(a b)(s)(N0:NT)(Q:QT)(h:iB (decide (s<( J a:Int))) ((0<=s/\s<(J a))/\(0<=s/\s<(J b))/\iB ((aR a (G s) (0:Int))!=aR b (G s) 0) (Q .ret (L2 [pB 4 I] [])) ( bQ (s+1)/\N0 (Lf a b (s+1)))) (Q .ret (L2 [pB 4 Y] []))):ZWn [1,1,0,1,0,0] (Lf a b s) (xT N0 (xB 0 (ZVT [1,1,1] Q))):=Eq.mpr V4 h
def ZUI:Zb U:=cI [[1,2,502],[13],[1,2,4,13,502],[]]
def ZUH:Zb U:=cI [[1,2,4,502,504],[13],[1,2,13,502],[]]
def Uz(N:Nat):List (FuncId×Fs U):=(41,fs ov (λa=>[gQ a,qb a<N]) pF)::[(86,Ib)]
def Ni:Zb U:=cI [[1,2,501,502],[10],[1,10,501],[1,3,501],[4],[(3,[.bF .aX]),5],[3,3,16],[(3,[.bF .aX]),16],[3,3,6,506],[],[6,31,506],[31],[5,36],[1,3,4,36,501],[1,3,7,501],[],[1,3,7,501]]
def C8(t:H)(x4 s:Int)(h:List H):bT U:=L2 [pL 1,pL 2,(3,.c (sU .aX h (.bF (.e 3 0)))),pI 4 x4,pI 5 s] [(.bE 1,enc .aX t),(.bE 2,[ci 0,.nils,.nils])]
abbrev OZ(N)(p):=AW (Za (Uz N)) Tryz.f41 Ni p
abbrev S41(N)(p):=SW (Za (Uz N)) Tryz.f41 Ni p
theorem ZWG(N)(t)(Q:QT)(h:iB (t.D==0) (Q .ret (L2 [pL 2] [(.bE 2,[ci 0,.nils,.nils])])) (Zi (OZ N [1,1,1,1,0,1,0,0]) (C8 t 0 0 []) (xB 0 (S41 N [1,1,1,1,1] Q)))):OZ N [] (L2 [(0,.agg (enc .aX t))] []) Q:=Eq.mpr V4 h
theorem ZIn(N)(t)(x4 x5)(x3:List H)(N0:NT)(Q:QT)(h:∀af,af=aR t.X (G x5) H.nil->∀s,s=af->∀ab,ab=Z2 s->iB (decide (x5<(J t.X))) ((0<=x5/\x5<(J t.X))/\gQ (s,())/\qb (s,())<N/\( J x3+J [ab])*56<=140737488355328/\iB ((H.D (Z2 s))!=0) ( bQ (x5+1)/\bQ (x5+1)/\N0 (C8 t (x5+1) (x5+1) (x3++[ab]))) ( bQ (x5+1)/\N0 (C8 t x4 (x5+1) (x3++[ab])))) (iB (t.D==1) ( qc (t.aS,())/\(0<=x4/\x4<=(J x3))/\Q .ret (L2 [pL 2] [(.bE 2,[ci 1,sU .u64 (dc t.aS) .bA,sU .aX (List.take (G x4) x3) .bA])])) ( ( J ([]:List Int)+J t.aS)*8<=140737488355328/\Q .ret (L2 [pL 2] [(.bE 2,[ci t.D,sU .u64 (([]:List Int)++t.aS) (.bF (.l 2 1)),sU .aX x3 (.bF (.l 2 2))])])))):OZ N [1,1,1,1,0,1,0,0] (C8 t x4 x5 x3) (xT N0 (xB 0 (S41 N [1,1,1,1,1] Q))):=Eq.mpr V4 (h _ rfl _ (Z7 _) _ (Z7 _))
def ZTk(N:Nat)(t:H):Prop:=AW (Za (Uz N)) Tryz.f41 Ni [] (Y5 (ov.cK (t,())) []) (EQ Tryz.f41 (pF (t,())) [])
theorem ZQu(T2:CT 86 Ib)(h:∀N(t:H)(_:Unit),gQ (t,())->qb (t,())<N+1->ZTk N t):CT 41 mJ:=Jj (μ:=qb) (l:=[(86,Ib)]) ZN rfl ⟨T2,trivial⟩ Ni Tryz.func41 rfl rfl 1 (λ_=>rfl) V1 λN⟨t,_⟩=>h N t ()
def ZvP(N:Nat):List (FuncId×Fs U):=(75,fs ov (λa=>[xF a,qb a<N]) pF)::[(117,I7)]
def NN:Zb U:=cI [[1,2,501,502],[8],[1,8,501],[1,3,501,503],[17,18,19,(503,[.any,.any,.bF .aX])],[20,503,503],[5,20,505],[5,505],[(503,[.any,.any,.bF .aX])],[1,17,18,19,33,501,(503,[.any,.any,.bA .aX])],[48],[48],[48,72,503,503],[72,(503,[.any,.any,.bA .aX])],[3,33,48,503]]
def Md(t:H)(s:Int)(h:List H):bT U:=L2 [pL 1,pL 2,pL 3,(17,.c (sU .aX t.X .bA)),pI 18 (J t.X),pI 19 s] [(.bE 1,enc .aX t),(.bE 2,[ci 0,.nils,.nils]),(.bE 3,[ci t.D,sU .u64 t.aS .bA,sU .aX h (.bF (.l 3 2))])]
def N5(t:H)(s:List H)(h:List Int):bT U:=L2 [pL 2,pL 3,pB 33 (t.D==1)] [(.bE 2,[ci 0,.nils,.nils]),(.bE 3,[ci t.D,sU .u64 h .bA,sU .aX s .bA])]
def HR(t:H)(h:List Int)(s:List H):bT U:=L2 [pL 2,pL 3,pB 33 (t.D==1),(48,.c (.bool (bif decide (0<( J h:Int))then(List.getD h (Int.toNat ((( J h:Int):Int)-1)) (0:Int))==0 else I)))] [(.bE 2,[ci 0,.nils,.nils]),(.bE 3,[ci t.D,sU .u64 h .bA,sU .aX s .bA])]
abbrev yz(N)(p):=AW (Za (ZvP N)) Tryz.f75 NN p
abbrev vZ(N)(p):=SW (Za (ZvP N)) Tryz.f75 NN p
theorem ZWB(N)(t)(Q:QT)(h:iB (t.D==0) (Q .ret (L2 [pL 2] [(.bE 2,[ci 0,.nils,.nils])])) ( qc (t.aS,())/\Zi (yz N [1,1,1,0,1,0,0]) (Md t 0 []) (xB 0 (vZ N [1,1,1,1] Q)))):yz N [] (L2 [(0,.agg (enc .aX t))] []) Q:=Eq.mpr V4 h
theorem ZIc(N)(t)(aa)(s)(N0:NT)(Q:QT)(h:∀af,af=aR t.X (G aa) H.nil->∀ab,ab=af->∀ae,ae=Z2 ab->iB (decide (aa<(J t.X))) ((0<=aa/\aa<(J t.X))/\xF (ab,())/\qb (ab,())<N/\( J s+J [ae])*56<=140737488355328/\bQ (aa+1)/\N0 (Md t (aa+1) (s++[ae]))) (iB (t.D==1) (Zi (yz N [1,1,1,1,0,1,0,0,0,0]) (N5 t s t.aS) (xB 2 (vZ N [1,1,1,1,0,1,0,1] (vZ N [1,1,1,1,1] Q)))) (Q .ret (L2 [pL 2] [(.bE 2,[ci t.D,sU .u64 t.aS .bA,sU .aX s .bA])])))):yz N [1,1,1,0,1,0,0] (Md t aa s) (xT N0 (xB 0 (vZ N [1,1,1,1] Q))):=Eq.mpr V4 (h _ rfl _ (Z7 _) _ (Z7 _))
theorem ZIb(N)(t)(aa)(s)(N1:NT)(Q:QT)(h:let z0:=decide (0<( J s:Int));Tk 4 z0 ((z0=Y->bQ ((( J s:Int))-1))/\Tk 2 z0 ((z0=Y->0<=(( J s:Int))-1/\(( J s:Int))-1<(J s))/\Tk 3 z0 (iB (bif z0 then(List.getD s (Int.toNat ((( J s:Int):Int)-1)) (0:Int))==0 else I) ( bQ ((( J s:Int))-1)/\(0<=(( J s:Int))-1/\(( J s:Int))-1<=(J s))/\N1 (N5 t aa (List.take (Int.toNat ((( J s:Int))-1)) s))) (Zi (yz N [1,1,1,1,0,1,0,1,0,0]) (HR t s aa) (xB 4 (vZ N [1,1,1,1,1] Q))))))):yz N [1,1,1,1,0,1,0,0,0,0] (N5 t aa s) (xT N1 (xB 2 (vZ N [1,1,1,1,0,1,0,1] (vZ N [1,1,1,1,1] Q)))):=Eq.mpr V4 h
theorem ZIa(N)(t)(aa)(s)(N2:NT)(Q:QT)(h:let z0:=decide (0<( J s:Int));Tk 4 z0 ((z0=Y->bQ ((( J s:Int))-1))/\Tk 2 z0 ((z0=Y->0<=(( J s:Int))-1/\(( J s:Int))-1<(J s))/\Tk 4 z0 (iB (bif z0 then(H.D (List.getD s (Int.toNat ((( J s:Int):Int)-1)) H.nil))==0 else I) ( bQ ((( J s:Int))-1)/\(0<=(( J s:Int))-1/\(( J s:Int))-1<=(J s))/\N2 (HR t aa (List.take (Int.toNat ((( J s:Int))-1)) s))) (Q .ret (L2 [pL 2] [(.bE 2,[ci t.D,sU .u64 aa .bA,sU .aX s .bA])])))))):yz N [1,1,1,1,0,1,0,1,0,0] (HR t aa s) (xT N2 (xB 4 (vZ N [1,1,1,1,1] Q))):=Eq.mpr V4 h
def ZTe(N:Nat)(t:H):Prop:=AW (Za (ZvP N)) Tryz.f75 NN [] (Y5 (ov.cK (t,())) []) (EQ Tryz.f75 (pF (t,())) [])
theorem ZQt(U8:CT 117 I7)(h:∀N(t:H)(_:Unit),xF (t,())->qb (t,())<N+1->ZTe N t):CT 75 Pz:=Jj (μ:=qb) (l:=[(117,I7)]) ZN rfl ⟨U8,trivial⟩ NN Tryz.func75 rfl rfl 1 (λ_=>rfl) V1 λN⟨t,_⟩=>h N t ()
def ZvW(N:Nat):List (FuncId×Fs U):=(26,fs zj (λa=>[mT a,zU a<N]) Bd)::[(76,uJ)]
def Hb:Zb U:=cI [[2,3,502,503],[27],[2,3,4,27,502,503],[2,3,4,5,502,503],[32],[32],[46],[2,3,4,5,46,502,503],[]]
def Hi(a b:H)(h:Int):bT U:=L2 [pL 2,pL 3,pI 5 h] [(.bE 2,enc .aX a),(.bE 3,enc .aX b)]
abbrev Vd(N)(p):=AW (Za (ZvW N)) Tryz.f26 Hb p
abbrev S26(N)(p):=SW (Za (ZvW N)) Tryz.f26 Hb p
theorem ZWJ(N)(a b)(Q:QT)(h:let z1:=a.D !=b.D;let z0:=bif z1 then Y else ! decide (a.aS=b.aS);Tk 4 (!z1) (((!z1)=Y->vX (a.aS,b.aS,()))/\Tt !z1/\(z1=I->(!z1)=Y)/\Tk 6 (!z0) ((z0=I->(!z0)=Y)/\iB (bif z0 then Y else(( J a.X:Int))!=(J b.X)) (Q .ret (L2 [pB 4 I] [])) (Zi (Vd N [1,1,0,1,0,0]) (Hi a b 0) (xB 0 (S26 N [1,1,1] Q)))))):Vd N [] (L2 [(0,.agg (enc .aX a)),(1,.agg (enc .aX b))] []) Q:=Eq.mpr V4 h
theorem ZIr(N)(a b)(s)(N0:NT)(Q:QT)(h:∀af,af=aR a.X (G s) H.nil->∀ae,ae=aR b.X (G s) H.nil->∀aa,aa=af->∀ab,ab=ae->iB (decide (s<(J a.X))) ((0<=s/\s<(J a.X))/\(0<=s/\s<(J b.X))/\mT (aa,ab,())/\zU (aa,ab,())<N/\iB (! ZW aa ab) (Q .ret (L2 [pB 4 I] [])) ( bQ (s+1)/\N0 (Hi a b (s+1)))) (Q .ret (L2 [pB 4 Y] []))):Vd N [1,1,0,1,0,0] (Hi a b s) (xT N0 (xB 0 (S26 N [1,1,1] Q))):=Eq.mpr V4 (h _ rfl _ rfl _ (Z7 _) _ (Z7 _))
def ZTn(N:Nat)(a b:H):Prop:=AW (Za (ZvW N)) Tryz.f26 Hb [] (Y5 (zj.cK (a,b,())) []) (EQ Tryz.f26 (Bd (a,b,())) [])
theorem ZQw(Wd:CT 76 uJ)(h:∀N(a:H)b(_:Unit),mT (a,b,())->zU (a,b,())<N+1->ZTn N a b):CT 26 yJ:=Jj (μ:=zU) (l:=[(76,uJ)]) ZN rfl ⟨Wd,trivial⟩ Hb Tryz.func26 rfl rfl 2 (λ_=>rfl) V1 λN⟨a,b,_⟩=>h N a b ()
def OJ(N:Nat):List (FuncId×Fs U):=(114,fs zj (λa=>[kM a,BN a<N]) yo)::[(172,uJ),(173,zQ),(174,zG)]
def MH:Zb U:=cI [[2,3,502,503],[16],[2,3,4,16,502,503],[2,3,4,41,502,503],[2,3,4,41,502,503],[2,3,4,48,49,502,503],[50],[5,50],[5,58],[2,3,4,48,49,58,502,503],[2,3,4,48,49,502,503],[48,49,66,67],[68],[6,68],[6,77],[2,3,4,66,67,77,502,503],[2,3,4,66,67,502,503],[2,3,4,66,67,502,503]]
def Lp(a b:H)(h:Int):bT U:=L2 [pL 2,pL 3,pI 48 (if(( J a.aS:Int))<(J b.aS)then(J b.aS)else(J a.aS)),pI 49 h] [(.bE 2,enc .aX a),(.bE 3,enc .aX b)]
def Iy(a b:H)(h:Int):bT U:=L2 [pL 2,pL 3,pI 66 (if(( J a.X:Int))<(J b.X)then(J b.X)else(J a.X)),pI 67 h] [(.bE 2,enc .aX a),(.bE 3,enc .aX b)]
abbrev Ed(N)(p):=AW (Za (OJ N)) Tryz.f114 MH p
abbrev HS(N)(p):=SW (Za (OJ N)) Tryz.f114 MH p
theorem ZTK(N)(a b)(Q:QT)(h:let z2:=a.D !=b.D;let z0:=(( J a.X:Int))!=(J b.X);let z1:=a.D !=1&&!z0;Tk 2 (!z2) ((z2=I->(!z2)=Y)/\iB (bif z2 then Y else a.D==0) (Q .ret (L2 [pB 4 (a.D==b.D)] [])) (Tk 7 (a.D !=1) (Tk 4 z1 ((z1=Y->vX (a.aS,b.aS,()))/\Tt z1/\((a.D !=1)=Y->True->(a.D !=1)=Y)/\((a.D !=1)=Y->z0=I->z1=Y)/\Tt (a.D !=1)/\iB (bif a.D !=1 then bif z0 then Y else ! decide (a.aS=b.aS)else I) (Q .ret (L2 [pB 4 I] [])) (Zi (Ed N [1,1,1,0,1,0,0]) (Lp a b 0) (xB 0 (HS N [1,1,1,1] Q)))))))):Ed N [] (L2 [(0,.agg (enc .aX a)),(1,.agg (enc .aX b))] []) Q:=Eq.mpr V4 h
theorem ZCT(N)(a b)(s)(N0:NT)(Q:QT)(h:let z1:=H.mk b.D b.aS b.X;let z0:=H.mk a.D a.aS a.X;iB (decide (s<if(( J a.aS:Int))<(J b.aS)then( J b.aS:Int)else(J a.aS))) ( rM (z0,s,())/\rM (z1,s,())/\iB ((JJ z0 s)!=JJ z1 s) (Q .ret (L2 [pB 4 I] [])) ( bQ (s+1)/\N0 (Lp a b (s+1)))) (Zi (Ed N [1,1,1,1,0,1,0,0]) (Iy a b 0) (xB 2 (HS N [1,1,1,1,1] Q)))):Ed N [1,1,1,0,1,0,0] (Lp a b s) (xT N0 (xB 0 (HS N [1,1,1,1] Q))):=Eq.mpr V4 h
theorem ZCS(N)(a b)(s)(N1:NT)(Q:QT)(h:∀af,af=a->∀ae,ae=b->∀aa,aa=jq af s->∀ab,ab=jq ae s->iB (decide (s<if(( J a.X:Int))<(J b.X)then( J b.X:Int)else(J a.X))) ( rM (af,s,())/\rM (ae,s,())/\kM (aa,ab,())/\BN (aa,ab,())<N/\iB (! ZW (Z2 aa) (Z2 ab)) (Q .ret (L2 [pB 4 I] [])) ( bQ (s+1)/\N1 (Iy a b (s+1)))) (Q .ret (L2 [pB 4 Y] []))):Ed N [1,1,1,1,0,1,0,0] (Iy a b s) (xT N1 (xB 2 (HS N [1,1,1,1,1] Q))):=Eq.mpr V4 (h _ (Z7 _) _ (Z7 _) _ (Z7 _) _ (Z7 _))
def ZNc(N:Nat)(a b:H):Prop:=AW (Za (OJ N)) Tryz.f114 MH [] (Y5 (zj.cK (a,b,())) []) (EQ Tryz.f114 (yo (a,b,())) [])
theorem ZJg(OT:CT 172 uJ)(A5:CT 173 zQ)(By:CT 174 zG)(h:∀N(a:H)b(_:Unit),kM (a,b,())->BN (a,b,())<N+1->ZNc N a b):CT 114 l4:=Jj (μ:=BN) (l:=[(172,uJ),(173,zQ),(174,zG)]) ZN rfl ⟨OT,A5,By,trivial⟩ MH Tryz.func114 rfl rfl 2 (λ_=>rfl) V1 λN⟨a,b,_⟩=>h N a b ()
def ZK4:List (FuncId×Fs U):=[(41,mJ),(26,yJ)]
def ZUN:Zb U:=cI [[2,3,502,503],[2,3,4,502,503]]
end
theorem uy:(∀{p q},(p->q->p/\q)=True)/\(∀{p},(True/\p)=p)/\(∀{p},(p/\True)=p)/\∀{p:Prop},(p->True)=True:=⟨by grind,by simp,by simp,by simp⟩
theorem TG:∀{ks i},rD ks->i<J ks->kg (aR ks i H.nil)|t::_,0,h,_=>by simp only[rD]at h;exact h.1|_::r,i+1,h,hi=>by simp only[rD]at h;exact TG (ks:=r) (i:=i) h.2 (by simpa using hi)
theorem t_:∀{ks i},i<J ks->Zo (aR ks i H.nil)<=Ze ks|t::_,0,_=>by simp only[Ze,Qm];omega|t::r,i+1,h=>by have:=t_ (ks:=r) (i:=i) (by simpa using h);simp only[Ze,KF];omega
mutual theorem vK:∀(t:H)(d l:Int),-1<=Y3 t d l/\Y3 t d l<=max l (-1)
 |.mk _ w ks,d,l=>by
  simp only[Y3];split;.omega
  .have:=Lh ks (d-1) (l-1-J w) O;omega theorem Lh:∀(ks:List H)(d l:Int),-1<=l->-1<=ZT ks d l/\ZT ks d l<=l
 |[],d,l,h=>by simp only[ZT];omega|t::r,d,l,h=>by
  simp only[ZT];split;.omega
  .have s:=vK t d l;have h2:=Lh r d (Y3 t d l) s.1;omega end
theorem ZlI{ks i d l}(h:i<J ks)(hl:0<=l):ZT (ks.drop i) d l=ZT (ks.drop (i+1)) d (Y3 (aR ks i H.nil) d l):=by rw[QO h];simp only[ZT];grind
theorem Fu:aU Tryz.prog M 80 BW:=by
 refine ZQs ?_;rintro N⟨k,h,ks⟩d l _⟨hs,h1,h2,h3,h4⟩hN;simp only[kg,As,Zo]at*;refine ZWA N _ _ _ _ ?_;(try simp only[iB,bR,Qk]);(simp only[iB,bW]);(try simp only[iB,bR]);try(simp only[vE])
 refine⟨V3,V3,λL=>?_,λL=>?_⟩
 .have e:Y3 (.mk k h ks) d l=-1:=by simp only[Y3];omega
  simp only[DO,e];exact⟨⟨rfl,⟨⟨rfl,rfl⟩,trivial⟩,trivial⟩,trivial⟩
 .have e:Y3 (.mk k h ks) d l=ZT ks (d-1) (l-1-J h):=by simp only[Y3];omega
  simp only[DO,e];refine Z5 (ι:=Int×Int) (λp=>HJ (.mk k h ks) d l p.1 p.2) (λp=>0<=p.2/\p.2<=J ks/\-1<=p.1/\p.1<=l/\ZT (ks.drop (G p.2)) (d-1) p.1=ZT ks (d-1) (l-1-J h)) (λp=>G (( J ks:Int)-p.2)) (l-1-J h,0) rfl ⟨O,O,O,O,by simp⟩ ?_;rintro⟨l',i⟩⟨h5,h6,h7,h8,h9⟩;dsimp only at*;refine ZI6 N _ _ _ _ _ _ _ ?_;(try simp only[iB,bR,Qk]);(simp only[iB,bW]);(try simp only[iB,bR]);try(simp only[vE])
  refine⟨λL=>?_,λL=>?_⟩
  .have s:G i<J ks:=O;have hr:=vK (aR ks (G i) H.nil) (d-1) l';have hn:=t_ s;have hd:=ZlI (d:=d-1) s L.2;refine⟨O,V3,⟨TG hs.2.2 s,by grind,by grind,O,by grind⟩,by simp only[As];omega,V3,⟨(Y3 (aR ks (G i) H.nil) (d-1) l',i+1),rfl,⟨O,O,O,O,?_⟩,O⟩⟩;grind
  .have e:ZT ks (d-1) (l-1-J h)=l':=by
    rw[<-h9];by_cases s:i<J ks
    .rw[QO O];simp only[ZT];omega
    .rw[Xg O];try rfl
   rw[e];trivial
theorem Pb:aU Tryz.prog M 30 Hm:=by
 refine kF (l:=ZR7) ⟨Fu,trivial⟩ n8 Tryz.func30 1 λ⟨t,_⟩s=>?_;refine wV (λQ=>let z0:=H.mk t.D t.aS t.X;ub (z0,80,3000,())/\Q .ret (L2 [(2,.c (.bool (decide ((0:Int)<=Y3 z0 80 3000))))] [])) ?_ λ_ h=>Eq.mpr V4 h;(try simp only[iB,bR,Qk]);try(simp only[vE])
 refine⟨⟨s,by grind,by grind,by grind,by grind⟩,?_⟩;trivial
theorem U8:aU Tryz.prog M 117 I7:=by
 refine kF (l:=cQ) trivial FI Tryz.func117 1 λ⟨l,_⟩s=>?_;refine wV (λQ=>( l=[]->Q .ret (L2 [(2,.c .nils)] []))/\(True->( J ([]:List Int)+J l)*8<=140737488355328/\Q .ret (L2 [(2,.c (sU .u64 (([]:List Int)++l) (.bF (.e 2 0))))] []))) ?_ λ_ h=>Eq.mpr V4 h;(try simp only[iB,bR,Qk]);simp only[qc]at s;refine⟨λh=>?_,⟨by simp only[Ql];omega,?_⟩⟩;.subst h;exact⟨⟨rfl,⟨rfl,trivial⟩,trivial⟩,trivial⟩
 .exact⟨⟨rfl,⟨⟨rfl,trivial⟩,trivial⟩,trivial⟩,trivial⟩
theorem Me{a b:List Int}{i:Int}(h:0<=i)(s:i<J a)(hb:i<J b):a.drop (G i)=b.drop (G i)↔aR a (G i) 0=aR b (G i) 0/\a.drop (G (i+1))=b.drop (G (i+1)):=by have e:G (i+1)=G i+1:=O;rw[QO O,QO (l:=b) O,e];simp only[List.cons.injEq,List.getD,Q8 (show G i<J a by omega),Q8 (show G i<J b by omega),XL]
theorem Wd:aU Tryz.prog M 76 uJ:=by
 refine kF (l:=cQ) trivial WD Tryz.func76 2 λ⟨a,b,_⟩hp=>?_;simp only[vX]at hp;refine wV (λQ=>iB ((( J a:Int):Int)!=( J b:Int)) (Q .ret (L2 [pB 4 I] [])) (Zi (A76 [1,1,0,1,0,0]) (GI a b 0) (xB 0 (S76 [1,1,1] Q)))) ?_ λ_ h=>Eq.mpr V4 h;(try simp only[iB,bR,Qk]);(simp only[iB,bW]);(try simp only[iB,bR]);refine⟨λL=>?_,λL=>?_⟩
 .have e:decide (a=b)=I:=by
   simp only[Xp];rintro rfl;omega
  simp only[xD,e];exact⟨⟨rfl,⟨rfl,trivial⟩,trivial⟩,trivial⟩
 .have hl:J a=J b:=O;refine Z5 (ι:=Int) (λp=>GI a b p) (λp=>0<=p/\p<=J a/\(a=b↔a.drop (G p)=b.drop (G p))) (λp=>G (( J a:Int)-p)) 0 rfl ⟨O,O,by simp⟩ ?_;rintro i⟨h1,h2,s⟩;refine ZI9 _ _ _ _ _ ?_;(try simp only[iB,bR,Qk]);(simp only[iB,bW]);(try simp only[iB,bR]);refine⟨λL=>⟨O,O,λhn=>?_,λhe=>⟨V3,i+1,rfl,⟨O,O,?_⟩,O⟩⟩,λL=>?_⟩
  .have e:decide (a=b)=I:=by
    simp only[Xp,s];rw[Me h1 L O];exact λh=>hn h.1
   simp only[xD,e];exact⟨⟨rfl,⟨rfl,trivial⟩,trivial⟩,trivial⟩
  .rw[s,Me h1 L O];exact⟨λh=>h.2,λh=>⟨by simpa using he,h⟩⟩
  .have e:decide (a=b)=Y:=by simp only[Qh,s];rw[Xg O,Xg O]
   simp only[xD,e];exact⟨⟨rfl,⟨rfl,trivial⟩,trivial⟩,trivial⟩
theorem A5:aU Tryz.prog M 173 zQ:=by
 refine kF (l:=cQ) trivial ZUI Tryz.func173 2 λ⟨t,i,_⟩s=>?_;refine wV (λQ=>Tk 4 (! decide (i<0)) (( decide (i<0)=I->(! decide (i<0))=Y)/\iB (bif decide (i<0)then Y else decide ((( J t.aS:Int):Int)<=i)) (Q .ret (L2 [(4,.c (.int .u64 0))] [])) (((0:Int)<=i/\i<( J t.aS:Int))/\Q .ret (L2 [(4,.c (.int .u64 (aR t.aS (G i) (0:Int))))] [])))) ?_ λ_ h=>Eq.mpr V4 h;(try simp only[iB,bR,Qk]);(simp only[iB,bW]);(try simp only[iB,bR]);(repeat(refine And.intro (by first|omega|(unfold bQ;omega)|(dsimp only;omega)) ?_));refine⟨λL=>?_,λL=>⟨O,?_⟩⟩
 .have e:JJ t i=0:=by
   unfold JJ;split;.try rfl
   .grind
  simp only[IX,e];exact⟨⟨rfl,⟨⟨rfl,rfl⟩,trivial⟩,trivial⟩,trivial⟩
 .have e:JJ t i=aR t.aS (G i) 0:=by unfold JJ;omega
  simp only[IX,e];exact⟨⟨rfl,⟨⟨rfl,rfl⟩,trivial⟩,trivial⟩,trivial⟩
theorem By:aU Tryz.prog M 174 zG:=by
 refine kF (l:=cQ) trivial ZUH Tryz.func174 2 λ⟨t,i,_⟩s=>?_;refine wV (λQ=>Tk 4 (! decide (i<0)) (( decide (i<0)=I->(! decide (i<0))=Y)/\iB (bif decide (i<0)then Y else decide ((( J t.X:Int):Int)<=i)) (Q .ret (L2 [pL 4] [(.bE 4,[ci 0,.nils,.nils])])) (((0:Int)<=i/\i<( J t.X:Int))/\Q .ret (L2 [pL 4] [(.bE 4,enc .aX (aR t.X (G i) H.nil))])))) ?_ λ_ h=>Eq.mpr V4 h;(try simp only[iB,bR,Qk]);(simp only[iB,bW]);(try simp only[iB,bR]);(repeat(refine And.intro (by first|omega|(unfold bQ;omega)|(dsimp only;omega)) ?_));refine⟨λL=>?_,λL=>⟨O,?_⟩⟩
 .have e:jq t i=H.nil:=by
   unfold jq;split;.try rfl
   .grind
  simp only[Es,e];exact⟨⟨rfl,⟨⟨rfl,rfl⟩,⟨rfl,⟨rfl,trivial⟩⟩⟩,trivial⟩,trivial⟩
 .have e:jq t i=aR t.X (G i) H.nil:=by unfold jq;grind
  simp only[Es,e];exact⟨⟨rfl,⟨⟨rfl,rfl⟩,⟨rfl,trivial⟩,⟨rfl,trivial⟩,trivial⟩,trivial⟩,trivial⟩
theorem OT:aU Tryz.prog M 172 uJ:=by
 refine kF (l:=cQ) trivial W1 Tryz.func172 2 λ⟨a,b,_⟩hp=>?_;simp only[vX]at hp;refine wV (λQ=>iB ((( J a:Int):Int)!=( J b:Int)) (Q .ret (L2 [pB 4 I] [])) (Zi (ZWn [1,1,0,1,0,0]) (Lf a b 0) (xB 0 (ZVT [1,1,1] Q)))) ?_ λ_ h=>Eq.mpr V4 h;(try simp only[iB,bR,Qk]);(simp only[iB,bW]);(try simp only[iB,bR]);refine⟨λL=>?_,λL=>?_⟩
 .have e:decide (a=b)=I:=by
   simp only[Xp];rintro rfl;omega
  simp only[xD,e];exact⟨⟨rfl,⟨rfl,trivial⟩,trivial⟩,trivial⟩
 .have hl:J a=J b:=O;refine Z5 (ι:=Int) (λp=>Lf a b p) (λp=>0<=p/\p<=J a/\(a=b↔a.drop (G p)=b.drop (G p))) (λp=>G (( J a:Int)-p)) 0 rfl ⟨O,O,by simp⟩ ?_;rintro i⟨h1,h2,s⟩;refine ZCe _ _ _ _ _ ?_;(try simp only[iB,bR,Qk]);(simp only[iB,bW]);(try simp only[iB,bR]);refine⟨λL=>⟨O,O,λhn=>?_,λhe=>⟨V3,i+1,rfl,⟨O,O,?_⟩,O⟩⟩,λL=>?_⟩
  .have e:decide (a=b)=I:=by
    simp only[Xp,s];rw[Me h1 L O];exact λh=>hn h.1
   simp only[xD,e];exact⟨⟨rfl,⟨rfl,trivial⟩,trivial⟩,trivial⟩
  .rw[s,Me h1 L O];exact⟨λh=>h.2,λh=>⟨by simpa using he,h⟩⟩
  .have e:decide (a=b)=Y:=by simp only[Qh,s];rw[Xg O,Xg O]
   simp only[xD,e];exact⟨⟨rfl,⟨rfl,trivial⟩,trivial⟩,trivial⟩
theorem Ztd{a b}{i:Int}(h:0<=i)(s:i<J a)(hb:i<J b):a.drop (G i)=b.drop (G i)↔aR a (G i) H.nil=aR b (G i) H.nil/\a.drop (G (i+1))=b.drop (G (i+1)):=by have e:G (i+1)=G i+1:=O;rw[QO O,QO (l:=b) O,e];simp only[List.cons.injEq,List.getD,Q8 (show G i<J a by omega),Q8 (show G i<J b by omega),XL]
theorem Yh{a b}:ZW a b=Y↔a=b:=by simp[ZW]
theorem JL{a b}:ZW a b=I↔¬a=b:=by simp[ZW]
theorem Zs:∀ks,J ks<=Ze ks
 |[]=>by simp[Ze]|t::r=>by
  have:=Zs r;have:1<=Zo t:=by cases t;simp only[Zo];omega
  simp only[Ze,Qd];omega
theorem Ij:aU Tryz.prog M 26 yJ:=by
 refine ZQw Wd ?_;rintro N⟨k,ws,ks⟩⟨k',ab,s⟩_ hp hN;have al:=Zs ks;simp only[mT,zU,Zo]at hp hN;refine ZWJ N _ _ _ ?_;(try simp only[iB,bR,Qk]);(simp only[iB,bW]);(try simp only[iB,bR]);try(simp only[vE])
 have ae:vX (ws,ab,()):=by simp only[vX];omega
 refine⟨λ_=>ae,λL=>?_,λL=>?_⟩
 .have e:ZW (.mk k ws ks) (.mk k' ab s)=I:=by
   rw[JL];intro h;cases h;simp at L
  simp only[Bd,e];exact⟨⟨rfl,⟨rfl,trivial⟩,trivial⟩,trivial⟩
 .have af:(k=k'/\ws=ab)/\J ks=J s:=⟨L.1,O⟩;obtain⟨⟨rfl,rfl⟩,hl⟩:=af;refine Z5 (ι:=Int) (λp=>Hi (.mk k ws ks) (.mk k ws s) p) (λp=>0<=p/\p<=J ks/\(H.mk k ws ks=.mk k ws s↔ks.drop (G p)=s.drop (G p))) (λp=>G (( J ks:Int)-p)) 0 rfl ⟨O,O,by simp⟩ ?_;rintro i⟨h1,h2,h3⟩;refine ZIr N _ _ _ _ _ ?_;(try simp only[iB,bR,Qk]);(simp only[iB,bW]);(try simp only[iB,bR]);try(simp only[vE])
  refine⟨λL=>⟨O,O,?_,?_,λhn=>?_,λhe=>⟨V3,i+1,rfl,⟨O,O,?_⟩,O⟩⟩,λL=>?_⟩;.have:=t_ (ks:=ks) (i:=G i) O;simp only[mT];omega
  .have:=t_ (ks:=ks) (i:=G i) O;simp only[zU];omega
  .have e:ZW (.mk k ws ks) (.mk k ws s)=I:=by rw[JL,h3,Ztd h1 L O];rw[JL]at hn;exact λh=>hn h.1
   simp only[Bd,e];exact⟨⟨rfl,⟨rfl,trivial⟩,trivial⟩,trivial⟩
  .rw[h3,Ztd h1 L O];exact⟨λh=>h.2,λh=>⟨Yh.1 he,h⟩⟩
  .have e:ZW (.mk k ws ks) (.mk k ws s)=Y:=by rw[Yh,h3];rw[Xg O,Xg O]
   simp only[Bd,e];exact⟨⟨rfl,⟨rfl,trivial⟩,trivial⟩,trivial⟩
theorem Td:∀l,dc (l++[0])=dc l|[]=>rfl|x::r=>by show(match dc (r++[0])with|[]=>if x=0 then[]else[x]|y::s=>x::y::s)=_;rw[Td r];try rfl
theorem P7{x}(h:x≠0):∀l,dc (l++[x])=l++[x]|[]=>by simp[dc,h]|y::r=>by show(match dc (r++[x])with|[]=>if y=0 then[]else[y]|z::s=>y::z::s)=_;rw[P7 h r];cases r<;>rfl
theorem SX{l:List Int}{i:Int}(s:0<i)(h:i<=J l):l.take (G i)=l.take (G (i-1))++[aR l (G (i-1)) 0]:=by have e:G i=G (i-1)+1:=O;rw[e,Kn];simp only[List.getD,Q8 (show G (i-1)<J l by omega),Option.toList,XL]
theorem T2:aU Tryz.prog M 86 Ib:=by
 refine kF (l:=cQ) trivial Og Tryz.func86 1 λ⟨l,_⟩hp=>?_;simp only[qc]at hp;refine wV (λQ=>Zi (A86 [1,1,0,0,0]) (MT l ( J l:Int)) (xB 0 (S86 [1,1,1] Q))) ?_ λ_ h=>Eq.mpr V4 h;(try simp only[iB,bR,Qk]);refine Z5 (ι:=Int) (λp=>MT l p) (λp=>0<=p/\p<=J l/\dc (l.take (G p))=dc l) (λp=>G p) ( J l:Int) rfl ⟨O,O,by simp⟩ ?_;rintro i⟨h1,h2,s⟩;refine ZI4 _ _ _ _ ?_;(try simp only[iB,bR,Qk]);(simp only[iB,bW]);(try simp only[iB,bR]);refine⟨λh=>by unfold bQ;omega,λh=>by omega,λL=>⟨V3,i-1,rfl,⟨O,O,?_⟩,O⟩,λL=>⟨O,?_,?_⟩⟩;.rw[SX L.1 h2,L.2,Td]at s;exact s
 .simp only[Ql,QB];omega
 .have e:dc l=[]++l.take (G i):=by
   rw[<-s];by_cases h0:0<i
   .rw[SX h0 h2,P7 O];try rfl
   .have:G i=0:=O;rw[this];try rfl
  simp only[ZNr,e];exact⟨⟨rfl,⟨⟨rfl,trivial⟩,trivial⟩,trivial⟩,trivial⟩
theorem Zrr:∀l,J (dc l)<=J l|[]=>by simp[dc]|x::r=>by have:=Zrr r;simp only[dc];grind
theorem Zj5:∀l,Ze (J2 l)<=Ze l
 |[]=>by simp[J2]|x::r=>by
  have:=Zj5 r;simp only[J2];split
  .split;.simp[Ze]
   .simp[Ze]
  .rename_i h;rw[h]at this;simp only[Ze]at*;omega
mutual theorem ZX:∀(t:H),Zo (Z2 t)<=Zo t
 |.mk k w ks=>by
  have h1:=ZkD ks;have s:=Zrr w;have h:=Zj5 (J5 ks);simp only[Z2];split;.simp only[H.nil,Zo,Ze,Ql];omega
  .split;.simp only[Zo];omega
   .simp only[Zo];omega theorem ZkD:∀(ks:List H),Ze (J5 ks)<=Ze ks|[]=>by simp[J5]|t::r=>by have s:=ZX t;have h:=ZkD r;simp only[J5,Ze];omega end
theorem SL:∀l(x:H),J5 (l++[x])=J5 l++[Z2 x]|[],x=>rfl|y::r,x=>by simp only[Qw,J5,SL r x]
theorem wU:∀l,J (J5 l)=J l|[]=>rfl|y::r=>by simp only[J5,Qd,wU r]
theorem Rm{x}(h:x.D=0):∀l,J2 (l++[x])=J2 l|[]=>by simp[J2,h]|y::r=>by show(match J2 (r++[x])with|[]=>if y.D=0 then[]else[y]|z::s=>y::z::s)=_;rw[Rm h r];try rfl
theorem Vg{x}(h:x.D≠0):∀l,J2 (l++[x])=l++[x]|[]=>by simp[J2,h]|y::r=>by show(match J2 (r++[x])with|[]=>if y.D=0 then[]else[y]|z::s=>y::z::s)=_;rw[Vg h r];cases r<;>rfl
theorem OQ{l}{i:Int}(s:0<=i)(h:i<J l):l.take (G (i+1))=l.take (G i)++[aR l (G i) H.nil]:=by have e:G (i+1)=G i+1:=O;simp_all
theorem tC:aU Tryz.prog M 41 mJ:=by
 refine ZQu T2 ?_;rintro N⟨k,ws,ks⟩_ hp hN;have ak:=Zs ks;simp only[gQ,qb,Zo]at hp hN;refine ZWG N _ _ ?_;(try simp only[iB,bR,Qk]);(simp only[iB,bW]);(try simp only[iB,bR]);try(simp only[vE])
 refine⟨λL=>?_,λai=>?_⟩
 .have e:Z2 (.mk k ws ks)=H.nil:=by simp[Z2,L]
  simp only[pF,e];exact⟨⟨rfl,⟨⟨rfl,rfl⟩,⟨rfl,⟨rfl,trivial⟩⟩⟩,trivial⟩,trivial⟩
 .refine Z5 (ι:=Int×Int×List H) (λp=>C8 (.mk k ws ks) p.1 p.2.1 p.2.2) (λp=>0<=p.2.1/\p.2.1<=J ks/\0<=p.1/\p.1<=p.2.1/\p.2.2=J5 (ks.take (G p.2.1))/\J2 (J5 (ks.take (G p.2.1)))=p.2.2.take (G p.1)) (λp=>G (( J ks:Int)-p.2.1)) (0,0,[]) rfl ⟨by grind,by grind,O,by grind,rfl,rfl⟩ ?_;rintro⟨s,i,l⟩⟨h1,h2,h3,h4,h5,h6⟩;dsimp only at*;have hl:J l=G i:=by rw[h5,wU,QB];omega
  refine ZIn N _ _ _ _ _ _ ?_;(try simp only[iB,bR,Qk]);(simp only[iB,bW]);(try simp only[iB,bR]);try(simp only[vE])
  refine⟨λL=>?_,λL=>⟨λh1=>⟨?_,O,?_⟩,λhk=>⟨?_,?_⟩⟩⟩
  .have hm:=t_ (ks:=ks) (i:=G i) O;have h:J5 (ks.take (G (i+1)))=l++[Z2 (aR ks (G i) H.nil)]:=by rw[OQ h1 L,SL,h5]
   refine⟨O,by simp only[gQ];omega,by simp only[qb];omega,by simp only[Qd,Ql];omega,λhk=>⟨V3,V3,(i+1,i+1,_),rfl,⟨by grind,by grind,O,by grind,h.symm,?_⟩,by grind⟩,λhk=>⟨V3,(s,i+1,_),rfl,⟨by grind,by grind,O,by grind,h.symm,?_⟩,by grind⟩⟩
   .dsimp only;rw[h,Vg hk,Qy (by simp;omega)]
   .dsimp only;rw[h,Rm hk,KD O,<-h6,h5]
  .simp only[qc];omega
  .have hi:ks.take (G i)=ks:=Qy O;rw[hi]at h5 h6;have e:Z2 (.mk k ws ks)=.mk 1 (dc ws) (l.take (G s)):=by subst h1;simp only[Z2,<-h6];try rfl
   simp only[pF,e];exact⟨⟨rfl,⟨⟨rfl,rfl⟩,⟨rfl,trivial⟩,⟨rfl,trivial⟩,trivial⟩,trivial⟩,trivial⟩
  .grind
  .have hi:ks.take (G i)=ks:=Qy O;rw[hi]at h5;have e:Z2 (.mk k ws ks)=.mk k ([]++ws) l:=by simp only[Z2,Q0 ai,Q0 hk,h5];try rfl
   simp only[pF,e];exact⟨⟨rfl,⟨⟨rfl,rfl⟩,⟨rfl,trivial⟩,⟨rfl,trivial⟩,trivial⟩,trivial⟩,trivial⟩
theorem qz:aU Tryz.prog M 151 l4:=by
 refine kF (l:=ZK4) ⟨tC,Ij,trivial⟩ ZUN Tryz.func151 2 λ⟨a,b,_⟩s=>?_;have h1:=ZX a;simp only[kM]at s;refine wV (λQ=>let z5:=H.mk a.D a.aS a.X;let z4:=H.mk b.D b.aS b.X;let z1:=Z2 z4;let z3:=H.mk (H.D z1) (H.aS z1) (H.X z1);let z0:=Z2 z5;let z2:=H.mk (H.D z0) (H.aS z0) (H.X z0);gQ (z5,())/\gQ (z4,())/\mT (z2,z3,())/\Q .ret (L2 [(4,.c (.bool (ZW z2 z3)))] [])) ?_ λ_ h=>Eq.mpr V4 h;(try simp only[iB,bR,Qk]);try(simp only[vE])
 refine⟨s.1,s.2,?_,?_⟩;.simp only[mT];omega
 trivial
theorem ZyX{l:List Int}(h:0<( J l:Int)):l=l.take (G ((J l)-1))++[aR l (G ((J l)-1)) 0]:=by have:=SX h (Qz _);rw[Qy O]at this;exact this
theorem ZsW{l}(h:0<( J l:Int)):l=l.take (G ((J l)-1))++[aR l (G ((J l)-1)) H.nil]:=by have:=OQ (l:=l) (i:=( J l:Int)-1) O O;rw[Qy O]at this;exact this
theorem ZzP{l}(s:0<( J l:Int))(hz:aR l (G ((J l)-1)) 0=0):dc (l.take (G ((J l)-1)))=dc l:=by have e:=Td (l.take (G (( J l:Int)-1)));have h:=ZyX s;grind
theorem ZzR{l}(h:¬0<( J l:Int)\/¬aR l (G ((J l)-1)) 0=0):dc l=l:=by
 by_cases h0:0<( J l:Int)
 .have e:=P7 (x:=aR l (G (( J l:Int)-1)) 0) O (l.take (G (( J l:Int)-1)));rw[<-ZyX h0]at e;exact e
 .have:l=[]:=Q7 O;subst this;try rfl
theorem ZtJ{l}(h:0<( J l:Int))(s:(aR l (G ((J l)-1)) H.nil).D=0):J2 (l.take (G ((J l)-1)))=J2 l:=by have e:=Rm s (l.take (G (( J l:Int)-1)));rw[<-ZsW h]at e;exact e.symm
theorem ZtL{l}(h:¬0<( J l:Int)\/¬(aR l (G ((J l)-1)) H.nil).D=0):J2 l=l:=by
 by_cases h0:0<( J l:Int)
 .have e:=Vg (x:=aR l (G (( J l:Int)-1)) H.nil) O (l.take (G (( J l:Int)-1)));rw[<-ZsW h0]at e;exact e
 .have:l=[]:=Q7 O;subst this;try rfl
mutual theorem Zdf:∀t:H,Zo t<=1000000000000->yr t|.mk k w ks,h=>by simp only[Zo]at h;have:=Zs ks;exact⟨O,O,ZbZ ks O⟩theorem ZbZ:∀l:List H,Ze l<=1000000000000->C2 l|[],_=>trivial|t::r,h=>by simp only[Ze]at h;exact⟨Zdf t O,ZbZ r O⟩end
theorem ZlZ:∀{ks i},C2 ks->i<J ks->yr (aR ks i H.nil)|t::_,0,h,_=>h.1|_::r,i+1,h,hi=>ZlZ (ks:=r) (i:=i) h.2 (by simpa using hi)
theorem Vr:aU Tryz.prog M 75 Pz:=by
 refine ZQt U8 ?_;rintro N⟨k,ws,ks⟩_ hp hN;have ak:=Zs ks;simp only[xF,qb,Zo,yr]at hp hN;refine ZWB N _ _ ?_;(try simp only[iB,bR,Qk]);(simp only[iB,bW]);(try simp only[iB,bR]);try(simp only[vE])
 refine⟨λL=>?_,λaf=>⟨by simp only[qc];omega,?_⟩⟩
 .have e:Z2 (.mk k ws ks)=H.nil:=by simp[Z2,L]
  simp only[pF,e];exact⟨⟨rfl,⟨⟨rfl,rfl⟩,⟨rfl,⟨rfl,trivial⟩⟩⟩,trivial⟩,trivial⟩
 .refine Z5 (ι:=Int×List H) (λp=>Md (.mk k ws ks) p.1 p.2) (λp=>0<=p.1/\p.1<=J ks/\p.2=J5 (ks.take (G p.1))) (λp=>G (( J ks:Int)-p.1)) (0,[]) rfl ⟨O,O,rfl⟩ ?_;rintro⟨i,l⟩⟨h1,h2,s⟩;dsimp only at*;have hl:J l=G i:=by rw[s,wU,QB];omega
  refine ZIc N _ _ _ _ _ ?_;(try simp only[iB,bR,Qk]);(simp only[iB,bW]);(try simp only[iB,bR]);try(simp only[vE])
  refine⟨λL=>?_,λL=>⟨λhk=>?_,λhk=>?_⟩⟩
  .have hm:=t_ (ks:=ks) (i:=G i) O;have ae:J5 (ks.take (G (i+1)))=l++[Z2 (aR ks (G i) H.nil)]:=by rw[OQ h1 L,SL,s]
   exact⟨O,ZlZ hp.2.2 O,by simp only[qb];omega,by simp only[Qd,Ql];omega,V3,(i+1,_),rfl,⟨O,O,ae.symm⟩,O⟩
  .have hi:ks.take (G i)=ks:=Qy O;rw[hi]at s;refine Z5 (ι:=List Int) (λp=>N5 (.mk k ws ks) l p) (λp=>J p<=J ws/\dc p=dc ws) (λp=>J p) ws rfl ⟨O,rfl⟩ ?_;rintro w⟨h6,h7⟩;refine ZIb N _ _ _ _ _ ?_;(try simp only[iB,bR,Qk]);(simp only[iB,bW]);(try simp only[iB,bR]);refine⟨λh=>by unfold bQ;omega,λh=>by omega,λL=>⟨V3,O,_,rfl,⟨by rw[List.length_take];omega,?_⟩,by rw[List.length_take];omega⟩,λL=>?_⟩;.rw[ZzP L.1 L.2,h7]
   .have hw:w=dc ws:=by rw[<-h7,ZzR L]
    refine Z5 (ι:=List H) (λp=>HR (.mk k ws ks) w p) (λp=>J p<=J l/\J2 p=J2 l) (λp=>J p) l rfl ⟨O,rfl⟩ ?_;rintro q⟨h8,h9⟩;refine ZIa N _ _ _ _ _ ?_;(try simp only[iB,bR,Qk]);(simp only[iB,bW]);(try simp only[iB,bR]);refine⟨λh=>by unfold bQ;omega,λh=>by omega,λL=>⟨V3,O,_,rfl,⟨by rw[List.length_take];omega,?_⟩,by rw[List.length_take];omega⟩,λL=>?_⟩;.rw[ZtJ L.1 L.2,h9]
    .have hq:q=J2 (J5 ks):=by rw[<-s,<-h9,ZtL L]
     have e:Z2 (.mk k ws ks)=.mk k w q:=by subst hk;simp only[Z2,hw,hq];try rfl
     simp only[pF,e];trivial
  .have hi:ks.take (G i)=ks:=Qy O;rw[hi]at s;have e:Z2 (.mk k ws ks)=.mk k ws l:=by simp only[Z2,Q0 af,Q0 hk,s]
   simp only[pF,e];trivial
theorem Ap:aU Tryz.prog M 75 mJ:=Zzf Vr λ_ h=>Zdf _ h
noncomputable section
def DS:cF oZ:=.cons (J1 .i64) .nil
def p8(a:oZ):Prop:=True
def ZQ3(a:oZ):aA U:=.c (ci (wd a.1))
def Zxz:Fs U:=fs DS (λa=>[p8 a]) ZQ3
def ZSE:cF um:=.cons (J1 .i64) (.cons (J1 .u64) .nil)
def E0(a:um):Prop:=0<=a.2.1/\a.2.1<18446744073709551616
def ZTU(a:um):aA U:=.c (.bool (uz a.1 a.2.1))
def Al:Fs U:=fs ZSE (λa=>[E0 a]) ZTU
def ZEs(a:oZ):aA U:=.tup [(I,[ci (if wd a.1<0 then 0 else wd a.1)]),(I,[.bool (decide (0<=wd a.1))])]
def Zx0:Fs U:=fs DS (λa=>[p8 a]) ZEs
def ZQ4(a:oZ):aA U:=.c (.bool (decide (2<=a.1/\a.1<=9)))
def Bi:Fs U:=fs DS (λa=>[p8 a]) ZQ4
def ZPA(a:oZ):aA U:=.c (.bool (decide (2<=a.1/\a.1<=7)))
def T1:Fs U:=fs DS (λa=>[p8 a]) ZPA
def ZLu:cF Fc:=.cons (J1 .i64) (.cons (fe .aX) .nil)
def On(a:Fc):Prop:=ei a.2.1
def ZPK(a:Fc):aA U:=.c (.bool (ic a.1 a.2.1))
def MK:Fs U:=fs ZLu (λa=>[On a]) ZPK
def uC(a:tQ):Prop:=kg a.1/\ei a.1/\0<=a.2.1/\a.2.1<=1000
def ni(a:tQ):Nat:=Zo a.1
def wO(a:tQ):aA U:=.c (.bool (Zf a.1 a.2.1))
def Ta:Fs U:=fs sS (λa=>[uC a]) wO
def tJ(a:lV):Prop:=Zo a.1<=20000000000/\ei a.1
def ZNu(a:lV):aA U:=.c (.bool (Zf a.1 64))
def Un:Fs U:=fs ov (λa=>[tJ a]) ZNu
def Uk(a:lV):Prop:=kg a.1/\ei a.1
def Zji:Fs U:=fs ov (λa=>[Uk a]) ZNu
def pd(a:tQ):Prop:=Zo a.1<=20000000000/\ei a.1/\0<=a.2.1/\a.2.1<=1000
def v7:Fs U:=fs sS (λa=>[pd a]) wO
def ZUY:Zb U:=cI [[0],[0,3],[4],[2,3,4],[2,3,6],[2,3,6],[2,3,8],[2,3,8],[2,3,10],[2,3,10],[2,3,12],[2,3,12],[2,14],[2,14],[]]
def UG:List (FuncId×Fs U):=[(129,Zxz)]
def PC:Zb U:=cI [[0,1],[0,5],[10],[1,4,5,10],[1,4,5,6],[13],[13],[],[1,4,5,6]]
def NH(c n h s:Int):bT U:=L2 [(1,.c (.int .u64 h)),pI 5 (wd c),pI 6 s] []
abbrev A81(p):=AW (Za UG) Tryz.f81 PC p
abbrev S81(p):=SW (Za UG) Tryz.f81 PC p
theorem ZI5(c n x1 s:Int)(N0:NT)(Q:QT)(h:iB (decide (s<wd c)) ( (2:Int)≠0/\bQ (s+1)/\N0 (NH c n (IntKind.wrap .u64 (Int.tdiv x1 2)) (s+1))) (Q .ret (L2 [pB 4 (x1==0)] []))):A81 [1,1,1,0,1,0,0] (NH c n x1 s) (xT N0 (xB 0 (S81 [1,1,1,1] Q))):=Eq.mpr V4 h
def ZUh:Zb U:=cI [[0],[4,504],[11],[0,2,3,4,11,504],[]]
def ZJA:List (FuncId×Fs U):=[(232,Zx0)]
def ZUo:Zb U:=cI [[0,1],[0,5,6],[1,4,5,6]]
def ZUZ:Zb U:=cI [[0],[0,2]]
def ZJU:List (FuncId×Fs U):=[(220,T1),(221,Al)]
def ZUF:Zb U:=cI [[0,3,503],[5],[0,3,4,5,503],[3,4,32,503],[3,4,32,503],[]]
def xa(N:Nat):List (FuncId×Fs U):=(130,fs sS (λa=>[uC a,ni a<N]) wO)::[(125,Bi),(181,MK)]
def zS:Zb U:=cI [[1,2,502],[8],[1,2,4,8,502],[1,2,4,22,502],[1,2,4,22,502],[1,2,4,36,502],[1,2,4,36,502],[1,2,4,39,502],[39,52],[1,2,4,52,502],[1,2,4,53,502],[1,2,4,53,502],[1,2,4,71,72,73,502],[74],[6,74,506],[7],[82],[82],[6,7,95,506],[1,2,4,71,72,73,95,502],[1,2,4,71,72,73,502],[1,2,4,71,72,73,502]]
def EL(t:H)(d h:Int):bT U:=L2 [pI 1 d,pL 2,(71,.c (sU .aX t.X .bA)),pI 72 (J t.X),pI 73 h] [(.bE 2,enc .aX t)]
abbrev PQ(N)(p):=AW (Za (xa N)) Tryz.f130 zS p
abbrev ZW1(N)(p):=SW (Za (xa N)) Tryz.f130 zS p
theorem ZTJ(N)(t)(d)(Q:QT)(h:let z7:=(( J t.X:Int))==0;let z6:=(( J t.aS:Int))==1;let z5:=(( J t.aS:Int))==0;let z4:=Q .ret (L2 [pB 4 I] []);let z3:=Zi (PQ N [1,1,0,1,0,0]) (EL t d 0) (xB 1 (ZW1 N [1,1,1] Q));let z2:=! decide (2<=t.D/\t.D<=9);let z1:=decide (65536<=( J t.aS:Int));let z0:=bif z2 then Y else decide (0<( J t.aS:Int));iB (t.D==0) (Tk 4 z5 (Q .ret (L2 [(4,.c (.bool (bif z5 then z7 else I)))] []))) (iB (t.D==10) (Tk 4 z6 (Q .ret (L2 [(4,.c (.bool (bif z6 then z7 else I)))] []))) (iB (d==0) z4 (iB (t.D==1) (Tk 3 (!z1) ((z1=I->(!z1)=Y)/\iB (bif z1 then Y else decide (65536<=( J t.X:Int))) z4 z3)) ( p8 (t.D,())/\Tk 3 (!z2) ((z2=I->(!z2)=Y)/\Tk 3 (!z0) ((z0=I->(!z0)=Y)/\iB (bif z0 then Y else decide (1048576<=( J t.X:Int))) z4 z3))))))):PQ N [] (L2 [(0,.agg (enc .aX t)),pI 1 d] []) Q:=Eq.mpr V4 h
theorem ZCH(N)(t)(d aa)(N0:NT)(Q:QT)(h:∀ab,ab=aR t.X (G aa) H.nil->∀s,s=ab->let z3:=N0 (EL t d (aa+1));let z2:=Q .ret (L2 [pB 4 I] []);let z1:=! ab.D !=10;let z0:=! ic t.D s;iB (decide (aa<(J t.X))) ((0<=aa/\aa<(J t.X))/\iB (t.D !=1) ( On (t.D,s,())/\Tt !z0/\((!z0)=Y->bQ (d-1))/\Tk 2 (!z0) (((!z0)=Y->uC (s,d-1,()))/\((!z0)=Y->ni (s,d-1,())<N)/\Tt !z0/\(z0=I->(!z0)=Y)/\iB (bif z0 then Y else ! Zf s (d-1)) z2 ( bQ (aa+1)/\z3))) ( Tt !z1/\((!z1)=Y->bQ (d-1))/\Tk 2 (!z1) (((!z1)=Y->uC (s,d-1,()))/\((!z1)=Y->ni (s,d-1,())<N)/\Tt !z1/\(z1=I->(!z1)=Y)/\iB (bif z1 then Y else ! Zf s (d-1)) z2 ( bQ (aa+1)/\z3)))) (Q .ret (L2 [pB 4 Y] []))):PQ N [1,1,0,1,0,0] (EL t d aa) (xT N0 (xB 1 (ZW1 N [1,1,1] Q))):=Eq.mpr V4 (h _ rfl _ (Z7 _))
def ZN7(N:Nat)(t:H)(d:Int):Prop:=AW (Za (xa N)) Tryz.f130 zS [] (Y5 (sS.cK (t,d,())) []) (EQ Tryz.f130 (wO (t,d,())) [])
theorem ZJf(C6:CT 125 Bi)(Tg:CT 181 MK)(h:∀N(t:H)d(_:Unit),uC (t,d,())->ni (t,d,())<N+1->ZN7 N t d):CT 130 Ta:=Jj (μ:=ni) (l:=[(125,Bi),(181,MK)]) ZN rfl ⟨C6,Tg,trivial⟩ zS Tryz.func130 rfl rfl 2 (λ_=>rfl) V1 λN⟨t,d,_⟩=>h N t d ()
def ZQX:List (FuncId×Fs U):=[(130,Ta)]
def TW(N:Nat):List (FuncId×Fs U):=(31,fs sS (λa=>[pd a,ni a<N]) wO)::[(81,Al)]
def MJ:Zb U:=cI [[1,2,502],[10],[1,2,4,10,502],[1,2,4,23,502],[1,2,4,23,502],[1,2,4,68,502],[1,2,4,68,502],[1,2,4,77,502],[1,2,4,77,502],[1,2,4,5,502],[82],[82],[6,506],[94],[1,2,4,5,6,94,502,506],[1,2,4,5,6,7,502,506],[6,7,131,506],[1,2,4,5,131,502],[]]
def Nh(t:H)(d h:Int):bT U:=L2 [pI 1 d,pL 2,pI 5 h] [(.bE 2,enc .aX t)]
abbrev WJ(N)(p):=AW (Za (TW N)) Tryz.f31 MJ p
abbrev S31(N)(p):=SW (Za (TW N)) Tryz.f31 MJ p
theorem ZWI(N)(t)(d)(Q:QT)(h:let z8:=Q .ret (L2 [pB 4 I] []);let z7:=(( J t.X:Int))==0;let z6:=(( J t.aS:Int))==1;let z5:=(( J t.aS:Int))==0;let z4:=decide (t.D<0);let z1:=bif z4 then Y else decide (10<t.D);let z3:=bif z1 then Y else d==0;let z0:=bif z3 then Y else decide (65536<=( J t.aS:Int));let z2:=bif z0 then Y else bif t.D==1 then decide (65536<=( J t.X:Int))else I;iB (t.D==0) (Tk 4 z5 (Q .ret (L2 [(4,.c (.bool (bif z5 then z7 else I)))] []))) (iB (t.D==10) (Tk 4 z6 (Q .ret (L2 [(4,.c (.bool (bif z6 then z7 else I)))] []))) (Tk 2 (!z4) ((z4=I->(!z4)=Y)/\Tt !z1/\(z1=I->(!z1)=Y)/\Tk 3 (!z3) ((z3=I->(!z3)=Y)/\Tk 3 (!z0) (Tk 3 ( !z0&&t.D==1) (((!z0)=Y->True->(!z0)=Y)/\((!z0)=Y->(t.D==1)=Y->( !z0&&t.D==1)=Y)/\(z0=I->(!z0)=Y)/\Tk 3 (!z2) ((z2=I->(!z2)=Y)/\iB (bif z2 then Y else decide (1048576<=( J t.X:Int))) z8 (Tk 4 (decide (1<t.D)) (iB (bif decide (1<t.D)then decide (0<( J t.aS:Int))else I) z8 (Zi (WJ N [1,1,1,1,1,0,1,0,0]) (Nh t d 0) (xB 0 (S31 N [1,1,1,1,1,1] Q))))))))))))):WJ N [] (L2 [(0,.agg (enc .aX t)),pI 1 d] []) Q:=Eq.mpr V4 h
theorem ZIp(N)(t)(d x5)(N0:NT)(Q:QT)(h:∀s,s=aR t.X (G x5) H.nil->∀aa,aa=s->∀ae,ae=List.getD s.aS (Int.toNat 0) 0->let z4:=Q .ret (L2 [pB 4 I] []);let z3:=decide (2<=t.D);let z0:=bif z3 then decide (t.D<=7)else I;let z2:=z0 !=(s.D==10);let z1:=bif z2 then Y else bif t.D==9 then s.D !=1 else I;iB (decide (x5<(J t.X))) ((0<=x5/\x5<(J t.X))/\bQ (d-1)/\pd (aa,d-1,())/\ni (aa,d-1,())<N/\iB (! Zf aa (d-1)) z4 (Tk 3 z3 (Tk 3 (!z2) (Tk 2 ( !z2&&t.D==9) (((!z2)=Y->True->(!z2)=Y)/\((!z2)=Y->(t.D==9)=Y->( !z2&&t.D==9)=Y)/\(z2=I->(!z2)=Y)/\Tt !z1/\Tk 2 ( !z1&&z0) ((( !z1&&z0)=Y->bQ (t.D-2))/\Tk 2 ( !z1&&z0) ((( !z1&&z0)=Y->(0:Int)<=0/\0<( J s.aS:Int))/\Tk 3 ( !z1&&z0) ((( !z1&&z0)=Y->E0 ( t.D-2,ae,()))/\Tt ( !z1&&z0)/\((!z1)=Y->True->(!z1)=Y)/\((!z1)=Y->z0=Y->( !z1&&z0)=Y)/\(z1=I->(!z1)=Y)/\iB (bif z1 then Y else bif z0 then ! uz (t.D-2) ae else I) z4 ( bQ (x5+1)/\N0 (Nh t d (x5+1))))))))))) (Q .ret (L2 [pB 4 Y] []))):WJ N [1,1,1,1,1,0,1,0,0] (Nh t d x5) (xT N0 (xB 0 (S31 N [1,1,1,1,1,1] Q))):=Eq.mpr V4 (h _ rfl _ (Z7 _) _ rfl)
def ZTl(N:Nat)(t:H)(d:Int):Prop:=AW (Za (TW N)) Tryz.f31 MJ [] (Y5 (sS.cK (t,d,())) []) (EQ Tryz.f31 (wO (t,d,())) [])
theorem ZQv(UI:CT 81 Al)(h:∀N(t:H)d(_:Unit),pd (t,d,())->ni (t,d,())<N+1->ZTl N t d):CT 31 v7:=Jj (μ:=ni) (l:=[(81,Al)]) ZN rfl ⟨UI,trivial⟩ MJ Tryz.func31 rfl rfl 2 (λ_=>rfl) V1 λN⟨t,d,_⟩=>h N t d ()
end
theorem WM:∀l,dc l=[]↔∀i,aR l i 0=0
 |[]=>by simp[dc]|x::r=>by
  have ih:=WM r;constructor
  .intro h i;simp only[dc]at h;split at h
   .rename_i s;split at h;.cases i with|zero=>simpa|succ i=>simp_all
    .cases h
   .cases h
  .intro h;have h0:=h 0;have s:dc r=[]:=ih.2 λi=>by simpa using h (i+1)
   simp only[dc,s];grind
theorem AF(x)(r):dc (x::r)=if dc r=[]/\x=0 then[]else x::dc r:=by simp only[dc];grind
theorem ZgT:∀a b,dc a=dc b↔∀i,aR a i 0=aR b i 0
 |[],b=>by rw[show dc []=[]from rfl,eq_comm,WM];simp[eq_comm]|x::r,[]=>by rw[show dc []=[]from rfl,WM];simp|x::r,y::s=>by
  have ih:=ZgT r s;constructor
  .intro h i;have ab:x=y/\dc r=dc s:=by
    rw[AF,AF]at h;grind
   cases i with|zero=>grind|succ i=>simp_all
  .intro h;have h0:x=y:=by simpa using h 0
   have hr:dc r=dc s:=ih.2 λi=>by simpa using h (i+1)
   rw[AF,AF,h0,hr]
def FE(l:List H):Prop:=∀x∈l,x.D=0->x=H.nil
theorem uO(x)(r):J2 (x::r)=if J2 r=[]/\x.D=0 then[]else x::J2 r:=by simp only[J2];grind
theorem Ti:∀l,FE l->(J2 l=[]↔∀i,aR l i H.nil=H.nil)
 |[],_=>by simp[J2]|x::r,hn=>by
  have ih:=Ti r λy s=>hn y (Q4 _ s);have hx:=hn x (Q6 ..);rw[uO];constructor
  .intro h i;split at h;.rename_i L;cases i with
    |zero=>grind|succ i=>simp_all
   .cases h
  .intro h;have h0:x=H.nil:=by simpa using h 0
   have hr:J2 r=[]:=ih.2 λi=>by simpa using h (i+1)
   rw[Q5 ⟨hr,by rw[h0];rfl⟩]
theorem Zdn:∀a b,FE a->FE b->(J2 a=J2 b↔∀i,aR a i H.nil=aR b i H.nil)
 |[],b,_,hb=>by
  rw[show J2 []=[]from rfl,eq_comm,Ti b hb];simp[eq_comm]|x::r,[],ha,_=>by rw[show J2 []=[]from rfl,Ti _ ha];simp|x::r,y::s,ha,hb=>by
  have ih:=Zdn r s (λy hy=>ha y (Q4 _ hy)) λy hy=>hb y (Q4 _ hy);have hx:=ha x (Q6 ..);have hy:=hb y (Q6 ..);constructor
  .intro h i;have af:x=y/\J2 r=J2 s:=by
    rw[uO,uO]at h;split at h<;>split at h;.grind
    .cases h
    .cases h
    .simpa using h
   cases i with|zero=>grind|succ i=>simp_all
  .intro h;have h0:x=y:=by simpa using h 0
   have hr:J2 r=J2 s:=ih.2 λi=>by simpa using h (i+1)
   rw[uO,uO,h0,hr]
theorem ZmK:Z2 H.nil=H.nil:=by rfl
theorem Sg(t):(Z2 t).D=t.D:=by
 obtain⟨k,w,ks⟩:=t;simp only[Z2];split;.rename_i h;simp[h,H.nil]
 .split;.rename_i h;simp[h]
  .try rfl
theorem UL:∀l,FE (J5 l)
 |[]=>by intro x h;trivial|t::r=>by
  intro x h s;simp only[J5,Qe]at h;rcases h with rfl|h;.rw[Sg]at s;obtain⟨k,w,ks⟩:=t;simp only[H.gT]at s;simp[Z2,s]
  .exact UL r x h s
theorem yy:∀l(i:Nat),(J5 l).getD i H.nil=Z2 (aR l i H.nil)|[],i=>by rfl|t::r,0=>by simp[J5]|t::r,i+1=>by simpa[J5]using yy r i
theorem Zeb(a b):J5 a=J5 b↔J a=J b/\∀i,Z2 (aR a i H.nil)=Z2 (aR b i H.nil):=by
 constructor
 .intro h;refine⟨by rw[<-wU a,h,wU],λi=>?_⟩;rw[<-yy,h,yy]
 .rintro⟨hl,h⟩;apply KQ (by rw[wU,wU,hl]);intro i s h2;have:=h i;rw[<-yy,<-yy]at this;grind
theorem JW(a b):Z2 a=Z2 b↔a.D=b.D/\(a.D=0\/(if a.D=1 then∀i,aR a.aS i 0=aR b.aS i 0 else a.aS=b.aS/\J a.X=J b.X)/\∀i,Z2 (aR a.X i H.nil)=Z2 (aR b.X i H.nil)):=by
 obtain⟨k,w,ks⟩:=a;obtain⟨k',w',s⟩:=b;show _↔k=k'/\(k=0\/(if k=1 then∀i:Nat,aR w i 0=aR w' i 0 else w=w'/\J ks=J s)/\∀i:Nat,Z2 (aR ks i H.nil)=Z2 (aR s i H.nil));by_cases hk:k=k'
 .subst hk;simp only[Xw];by_cases h0:k=0;.simp[Z2,h0]
  .by_cases h1:k=1
   .subst h1;simp only[Z2,Q0 h0,Xa,H.mk.injEq,Xw,ZgT,Zdn _ _ (UL _) (UL _),yy];simp
   .simp only[Z2,Q0 h0,Q0 h1,H.mk.injEq,Xw,Zeb];grind
 .simp only[hk,false_and,iff_false];intro h;have:=congrArg H.D h;rw[Sg,Sg]at this;exact hk this
theorem Zr8{a b}(h:Z2 a=Z2 b)(s:a.D≠0)(i):aR a.aS i 0=aR b.aS i 0:=by obtain⟨_,h2⟩:=(JW a b).1 h;grind
theorem ZvZ{a b}(h:Z2 a=Z2 b)(s:a.D≠0)(i):Z2 (aR a.X i H.nil)=Z2 (aR b.X i H.nil):=by obtain⟨_,h2⟩:=(JW a b).1 h;grind
theorem Zl3(t)(i):Zo (jq t i)<=Zo t/\(i<J t.X->0<=i->Zo (jq t i)<Zo t):=by
 obtain⟨k,w,ks⟩:=t;unfold jq;have h:Zo H.nil=1:=rfl;split;.simp only[h,Zo];omega
 .simp only[H.dt];by_cases hi:G i<J ks;.have:=t_ hi;simp only[Zo];omega
  .rw[List.getD,QX O];simp only[Option.getD_none,h,Zo];omega
theorem qE:aU Tryz.prog M 114 l4:=by
 refine ZJg OT A5 By ?_;rintro N a b _ hp hN;have la:J a.aS+J a.X<Zo a:=by obtain⟨k,w,ks⟩:=a;have:=Zs ks;simp only[Zo,H.dz,H.dt];omega
 have lb:J b.aS+J b.X<Zo b:=by obtain⟨k,w,ks⟩:=b;have:=Zs ks;simp only[Zo,H.dz,H.dt];omega
 simp only[kM,BN]at hp hN;have no:¬Z2 a=Z2 b->ZB M Tryz.f114.ntmps Tryz.f114.results.toList (yo (a,b,())) [] .ret (⟨[(4,.c (.bool I))],[],[]⟩:bT U):=by
  intro h;have e:ZW (Z2 a) (Z2 b)=I:=JL.2 h;simp only[yo,e];exact⟨⟨rfl,⟨rfl,trivial⟩,trivial⟩,trivial⟩
 refine ZTK N _ _ _ ?_;(try simp only[iB,bR,Qk]);(simp only[iB,bW]);(try simp only[iB,bR]);refine⟨λL=>?_,λL=>?_⟩
 .have e:ZW (Z2 a) (Z2 b)=(a.D==b.D):=by
   by_cases s:a.D=b.D
   .have h0:a.D=0:=by rcases L with h|h;exact absurd s h;exact h
    rw[Yh.2 ((JW a b).2 ⟨s,.inl h0⟩)];simp[s]
   .rw[JL.2 λh=>s ((JW a b).1 h).1];simp[s]
  simp only[yo,e];exact⟨⟨rfl,⟨rfl,trivial⟩,trivial⟩,trivial⟩
 .refine⟨λ_=>by simp only[vX];omega,λh h'=>⟨h,h'⟩,λhd=>no ?_,λhd=>?_⟩;.intro h;obtain⟨_,h2⟩:=(JW a b).1 h;grind
  .refine Z5 (ι:=Int) (λp=>Lp a b p) (λp=>0<=p/\p<=2000000000000/\∀j:Nat,j<G p->aR a.aS j 0=aR b.aS j 0) (λp=>G (2000000000000-p)) 0 rfl ⟨O,O,λj hj=>by simp at hj⟩ ?_;rintro i⟨h1,h2,h3⟩;refine ZCT N _ _ _ _ _ ?_;(try simp only[iB,bR,Qk]);(simp only[iB,bW]);(try simp only[iB,bR]);have wa:∀t:H,JJ t i=aR t.aS (G i) 0:=λt=>by unfold JJ;omega
   refine⟨λhi=>⟨trivial,trivial,λhn=>no λh=>hn ?_,λhe=>⟨?_,?_⟩⟩,λhi=>?_⟩;.rw[wa,wa];exact Zr8 h L.2 _
   .unfold bQ;omega
   .refine⟨i+1,rfl,⟨O,O,λj hj=>?_⟩,O⟩;by_cases hj':j<G i;.exact h3 j hj'
    .have:j=G i:=O;simp_all
   .have hw:∀j:Nat,aR a.aS j 0=aR b.aS j 0:=λj=>by grind
    refine Z5 (ι:=Int) (λp=>Iy a b p) (λp=>0<=p/\p<=2000000000000/\∀j:Nat,j<G p->Z2 (aR a.X j H.nil)=Z2 (aR b.X j H.nil)) (λp=>G (2000000000000-p)) 0 rfl ⟨O,O,λj hj=>by simp at hj⟩ ?_;rintro q⟨h5,h6,h7⟩;refine ZCS N _ _ _ _ _ ?_;(try simp only[iB,bR,Qk]);(simp only[iB,bW]);(try simp only[iB,bR]);have ka:∀t:H,jq t q=aR t.X (G q) H.nil:=λt=>by unfold jq;grind
    have ma:=Zl3 a q;have mb:=Zl3 b q;try(simp only[vE])
    refine⟨λhq=>⟨trivial,trivial,?_,?_,λhn=>no λh=>?_,λhe=>⟨?_,?_⟩⟩,λhq=>?_⟩;.simp only[kM];omega
    .simp only[BN];omega
    .rw[JL]at hn;apply hn;rw[ka,ka];exact ZvZ h L.2 _
    .unfold bQ;omega
    .refine⟨q+1,rfl,⟨O,O,λj hj=>?_⟩,O⟩;by_cases hj':j<G q;.exact h7 j hj'
     .have:j=G q:=O;rw[this,<-ka,<-ka];exact Yh.1 he
    .have s:∀j:Nat,Z2 (aR a.X j H.nil)=Z2 (aR b.X j H.nil):=λj=>by grind
     have e:ZW (Z2 a) (Z2 b)=Y:=by
      rw[Yh,JW];refine⟨L.1,.inr ⟨?_,s⟩⟩;split;.exact hw
      .grind
     simp only[yo,e];trivial
mutual theorem Bn:∀(t:H)(d l:Int),0<=Y3 t d l->(Zo t:Int)+Y3 t d l<=l
 |.mk _ w ks,d,l,h=>by
  simp only[Y3]at h⊢;split at h;.omega
  .rename_i L;rw[Q0 L];have:=Rz ks (d-1) (l-1-J w) h;simp only[Zo];omega theorem Rz:∀(ks:List H)(d l:Int),0<=ZT ks d l->(Ze ks:Int)+ZT ks d l<=l
 |[],d,l,h=>by simp[ZT,Ze]|t::r,d,l,h=>by
  simp only[ZT]at h⊢;split at h;.omega
  .rename_i L;rw[Q0 L];have h1:=Rz r d (Y3 t d l) h;have s:=(Lh r d (Y3 t d l) (vK t d l).1).2;have h2:=Bn t d l O;simp only[Ze];omega end
theorem Z9{n k:Nat}{rs b s}(hr:rs=[ResultVar.tmp k])(h:b=s):ZB M n rs (.c (.bool s)) [] .ret (⟨[(k,.c (.bool b))],[],[]⟩):=by subst hr h;have hk:Nat.beq k k=Y:=Nat.beq_refl k;simp[ZB,Wa,zP,zD,yA,AP,bT.jR,rV,hk,Fj,u5,iF,mN,EY,qA,Ds,AK]
theorem YO{n k:Nat}{rs K b s}(hr:rs=[ResultVar.tmp k])(h:b=s):ZB M n rs (.c (.int K s)) [] .ret (⟨[(k,.c (.int K b))],[],[]⟩):=by subst hr h;have hk:Nat.beq k k=Y:=Nat.beq_refl k;simp[ZB,Wa,zP,zD,yA,AP,bT.jR,rV,hk,Fj,u5,iF,mN,EY,qA,Ds,AK]
theorem ZXE:aU Tryz.prog M 129 Zxz:=by refine kF (l:=cQ) trivial ZUY Tryz.func129 1 λ⟨c,_⟩_=>?_;refine wV (λQ=>iB (c==0) (Q .ret (L2 [pI 2 0] [])) (iB (c==1) (Q .ret (L2 [pI 2 1] [])) (iB (c==2) (Q .ret (L2 [pI 2 8] [])) (iB (c==3) (Q .ret (L2 [pI 2 16] [])) (iB (c==4) (Q .ret (L2 [pI 2 32] [])) (iB (c==5) (Q .ret (L2 [pI 2 64] [])) (Q .ret (L2 [pI 2 (-1)] [])))))))) ?_ λ_ h=>Eq.mpr V4 h;(try simp only[iB,bR,Qk]);(simp only[iB,bW]);(try simp only[iB,bR]);refine⟨λh=>YO rfl ?_,λh=>⟨λh=>YO rfl ?_,λh=>⟨λh=>YO rfl ?_,λh=>⟨λh=>YO rfl ?_,λh=>⟨λh=>YO rfl ?_,λh=>⟨λh=>YO rfl ?_,λh=>YO rfl ?_⟩⟩⟩⟩⟩⟩<;>simp only[wd]<;>simp[*]
theorem O9(c):-1<=wd c/\wd c<=64:=by unfold wd;omega
theorem ZtD(n:Int)(h:0<=n)(s:n<18446744073709551616):IntKind.wrap .u64 (Int.tdiv n 2)=n/2:=by rw[Ka h];simp[IntKind.wrap,IntKind.signed,IntKind.bits];omega
theorem UI:aU Tryz.prog M 81 Al:=by
 refine kF (l:=UG) ⟨ZXE,trivial⟩ PC Tryz.func81 2 λ⟨c,n,_⟩hp=>?_;simp only[E0]at hp;have hw:=O9 c;refine wV (λQ=>p8 (c,())/\iB (decide (( wd c:Int)<0)) (Q .ret (L2 [pB 4 I] [])) (Zi (A81 [1,1,1,0,1,0,0]) (NH c n n 0) (xB 0 (S81 [1,1,1,1] Q)))) ?_ λ_ h=>Eq.mpr V4 h;(try simp only[iB,bR,Qk]);(simp only[iB,bW]);(try simp only[iB,bR]);refine⟨trivial,λh=>Z9 rfl ?_,λh=>?_⟩;.simp only[uz];simp;omega
 .refine Z5 (ι:=Int×Int) (λp=>NH c n p.1 p.2) (λp=>0<=p.2/\p.2<=wd c/\0<=p.1/\p.1<18446744073709551616/\(n<2^G (wd c)↔p.1<2^G (wd c-p.2))) (λp=>G (wd c-p.2)) (n,0) rfl ⟨O,O,O,O,by simp⟩ ?_;rintro⟨m,i⟩⟨h1,h2,h3,h4,s⟩;dsimp only at*;refine ZI5 _ _ _ _ _ _ ?_;(try simp only[iB,bR,Qk]);(simp only[iB,bW]);(try simp only[iB,bR]);refine⟨λL=>⟨O,V3,(IntKind.wrap .u64 (Int.tdiv m 2),i+1),rfl,?_,O⟩,λL=>Z9 rfl ?_⟩;.rw[ZtD m h3 h4];refine⟨O,O,O,O,?_⟩;dsimp only;rw[s,show G (wd c-i)=G (wd c-(i+1))+1 by omega];omega
  .have e:G (wd c-i)=0:=O;rw[e]at s;simp only[uz];grind
theorem ZXh:aU Tryz.prog M 232 Zx0:=by
 refine kF (l:=cQ) trivial ZUh Tryz.func232 1 λ⟨c,_⟩_=>?_;refine wV (λQ=>Tt ! decide (c<0)/\( decide (c<0)=I->(! decide (c<0))=Y)/\iB (bif decide (c<0)then Y else decide ((6:Int)<=c)) (Q .ret (L2 [pI 2 0,pB 3 I] [])) (((0:Int)<=c/\c<((6:Nat):Int))/\Q .ret (L2 [pI 2 (List.getD [0,1,8,16,32,64] (G c) 0),pB 3 Y] []))) ?_ λ_ h=>Eq.mpr V4 h;(try simp only[iB,bR,Qk]);(simp only[iB,bW]);(try simp only[iB,bR]);have s:=O9 c;refine⟨λh=>?_,λh=>⟨O,?_⟩⟩
 .have e:wd c=-1:=by unfold wd;omega
  simp only[ZEs,e];exact⟨⟨rfl,⟨⟨rfl,rfl⟩,trivial⟩,rfl,⟨rfl,trivial⟩,trivial⟩,trivial⟩
 .have L:c=0\/c=1\/c=2\/c=3\/c=4\/c=5:=O;rcases L with rfl|rfl|rfl|rfl|rfl|rfl<;>exact⟨⟨rfl,⟨⟨rfl,rfl⟩,trivial⟩,rfl,⟨rfl,trivial⟩,trivial⟩,trivial⟩
theorem ZGX(n)(w)(h:0<=n):Int.fdiv n (2^w)=0↔n<2^w:=by
 have hp:(0:Int)<2^w:=Kq O;rw[Int.fdiv_eq_ediv_of_nonneg _ O];constructor;.intro s;have:=Int.lt_ediv_add_one_mul_self n hp;grind
 .intro s;exact Int.ediv_eq_zero_of_lt h s
theorem ZXn:aU Tryz.prog M 221 Al:=by
 refine kF (l:=ZJA) ⟨ZXh,trivial⟩ ZUo Tryz.func221 2 λ⟨c,n,_⟩s=>?_;simp only[E0]at s;have hw:=O9 c;refine wV (λQ=>let z2:=( if wd c<0 then 0 else wd c:Int)==64;let z1:=decide (0<=wd c);let z0:=z1&&!z2;p8 (c,())/\Tk 2 z1 (Tk 2 z0 ((z0=Y->(0:Int)<=if wd c<0 then 0 else wd c)/\Tt z0/\(z1=Y->True->z1=Y)/\(z1=Y->z2=I->z0=Y)/\Tt z1/\Q .ret (L2 [(4,.c (.bool (bif z1 then bif z2 then Y else( Int.fdiv n (2^min (Int.toNat (if wd c<0 then 0 else wd c)) (IntKind.bits .u64)):Int)==0 else I)))] [])))) ?_ λ_ h=>Eq.mpr V4 h;(try simp only[iB,bR,Qk]);refine⟨trivial,λh=>by omega,λa b=>by grind,Z9 rfl ?_⟩;simp only[uz];by_cases h0:0<=wd c
 .rw[Q0 O];simp only[h0,decide_true,XE,Xw];by_cases h64:wd c=64;.grind
  .have:( wd c==64)=I:=by simpa using h64
   rw[this,Xi,QA];have hm:min (G (wd c)) (IntKind.bits .u64)=G (wd c):=by show min (G (wd c)) 64=_;omega
   rw[hm];simp only[beq_iff_eq,Qh];exact ZGX n _ s.1
 .simp[h0]
theorem C6:aU Tryz.prog M 125 Bi:=by refine kF (l:=cQ) trivial ZUZ Tryz.func125 1 λ⟨c,_⟩_=>?_;refine wV (λQ=>Tk 2 (decide ((2:Int)<=c)) (Q .ret (L2 [(2,.c (.bool (bif decide ((2:Int)<=c)then decide (c<=9)else I)))] []))) ?_ λ_ h=>Eq.mpr V4 h;(try simp only[iB,bR,Qk]);refine Z9 rfl ?_;rw[QA];(simp only[iB,bW])
theorem ZVq:aU Tryz.prog M 220 T1:=by refine kF (l:=cQ) trivial ZUZ Tryz.func220 1 λ⟨c,_⟩_=>?_;refine wV (λQ=>Tk 2 (decide ((2:Int)<=c)) (Q .ret (L2 [(2,.c (.bool (bif decide ((2:Int)<=c)then decide (c<=7)else I)))] []))) ?_ λ_ h=>Eq.mpr V4 h;(try simp only[iB,bR,Qk]);refine Z9 rfl ?_;rw[QA];(simp only[iB,bW])
theorem ZrP{t}(h:ei t){i}(s:i<J t.aS):0<=aR t.aS i 0/\aR t.aS i 0<18446744073709551616:=by obtain⟨k,w,ks⟩:=t;simp only[ei]at h;simp_all
theorem Tg:aU Tryz.prog M 181 MK:=by
 refine kF (l:=ZJU) ⟨ZVq,ZXn,trivial⟩ ZUF Tryz.func181 2 λ⟨l,t,_⟩hp=>?_;simp only[On]at hp;refine wV (λQ=>let z2:=List.getD t.aS (Int.toNat 0) (0:Int);let z1:=bif t.D==10 then(( J t.X:Int):Int)==0 else I;let z0:=bif z1 then(( J t.aS:Int):Int)==1 else I;p8 (l,())/\iB (decide (2<=l/\l<=7)) (Tk 4 (t.D==10) (Tk 4 z1 ( Tt z0/\(z0=Y->bQ (l-2))/\Tk 2 z0 ((z0=Y->(0:Int)<=0/\0<( J t.aS:Int))/\Tk 3 z0 ((z0=Y->E0 ( l-2,z2,()))/\Tt z0/\Q .ret (L2 [(4,.c (.bool (bif z0 then uz (l-2) z2 else I)))] [])))))) (iB (l==9) (Q .ret (L2 [pB 4 (t.D==1)] [])) (Q .ret (L2 [pB 4 (t.D !=10)] [])))) ?_ λ_ h=>Eq.mpr V4 h;(try simp only[iB,bR,Qk]);(simp only[iB,bW]);(try simp only[iB,bR]);refine⟨trivial,λs=>⟨λ_=>by unfold bQ;omega,λh=>by omega,λh=>ZrP hp O,Z9 rfl ?_⟩,λs=>⟨λh=>Z9 rfl ?_,λh=>Z9 rfl ?_⟩⟩;.simp only[ic,Q5 s,Int.toNat_zero];grind
 .simp only[ic,Q0 s,Q5 h];grind
 .simp only[ic,Q0 s,Q0 h];grind
theorem Zh5{l ks}{i:Int}{d}(s:0<=i)(h:i<J ks):YR l (ks.drop (G i)) d=( ic l (aR ks (G i) H.nil)&&Zf (aR ks (G i) H.nil) d&&YR l (ks.drop (G (i+1))) d):=by have e:G (i+1)=G i+1:=O;rw[QO O,e];simp only[YR,List.getD,Q8 (show G i<J ks by omega),XL]
theorem Up:∀{ks i},Jf ks->i<J ks->ei (aR ks i H.nil)|t::_,0,h,_=>by simp only[Jf]at h;exact h.1|_::r,i+1,h,hi=>by simp only[Jf]at h;exact Up (ks:=r) (i:=i) h.2 (by simpa using hi)
theorem Zt0(t):ic 1 t=decide (t.D≠10):=by simp[ic]
mutual theorem IF:∀t:H,Zo t<=17592186044416->kg t|.mk k w ks,h=>by simp only[Zo]at h;have:=Zs ks;exact⟨O,O,Z96 ks O⟩theorem Z96:∀l:List H,Ze l<=17592186044416->rD l|[],_=>trivial|t::r,h=>by simp only[Ze]at h;exact⟨IF t O,Z96 r O⟩end
theorem ZXD:aU Tryz.prog M 130 Ta:=by
 refine ZJf C6 Tg ?_;rintro N⟨k,ws,ks⟩d _ hp hN;simp only[uC,ni,Zo,kg,ei]at hp hN;have ak:∀b,d≠0->Zf (.mk k ws ks) d=(b&&YR k ks (d-1))->b=Y->Zi (gD M (Za (xa N)) (lr M (Za (xa N))) Tryz.f130.ntmps zS (cd Tryz.f130 [1,1,0,1,0,0])) (EL (.mk k ws ks) d 0) (c9.inBlock 1 (ZTS M (Za (xa N)) (lr M (Za (xa N))) Tryz.f130.ntmps zS (cd Tryz.f130 [1,1,1]) (ZB M Tryz.f130.ntmps Tryz.f130.results.toList (wO (.mk k ws ks,d,())) []))):=by
  intro b ay hb ao;subst ao;rw[X6]at hb;refine Z5 (ι:=Int) (λp=>EL (.mk k ws ks) d p) (λp=>0<=p/\p<=J ks/\Zf (.mk k ws ks) d=YR k (ks.drop (G p)) (d-1)) (λp=>G (( J ks:Int)-p)) 0 rfl ⟨O,O,by simpa using hb⟩ ?_;rintro i⟨h1,h2,h3⟩;refine ZCH N _ _ _ _ _ ?_;(try simp only[iB,bR,Qk]);(simp only[iB,bW]);(try simp only[iB,bR]);try(simp only[vE])
  refine⟨λhi=>⟨⟨O,hi⟩,?_⟩,λhi=>?_⟩
  .have hd:=Zh5 (l:=k) (d:=d-1) h1 hi;have hm:=t_ (ks:=ks) (i:=G i) O;have hr:=Up (i:=G i) hp.2.1.2.2 O;have hs:=TG (i:=G i) hp.1.2.2 O;rw[hd]at h3;have av:=Zs ks;generalize aR ks (G i) H.nil=y at*;have ae:uC (y,d-1,()):=⟨hs,hr,V2,V2⟩;have ai:ni (y,d-1,())<N:=by simp only[ni];omega
   have aj:bQ (d-1):=V3;refine⟨λhk=>⟨hr,λ_=>aj,λ_=>ae,λ_=>ai,λL=>Z9 rfl ?_,λL=>⟨V3,i+1,rfl,⟨O,O,?_⟩,O⟩⟩,λhk=>⟨λ_=>aj,λ_=>ae,λ_=>ai,λL=>Z9 rfl ?_,λL=>⟨V3,i+1,rfl,⟨O,O,?_⟩,O⟩⟩⟩;.grind
   .grind
   .subst hk;rw[h3,Zt0];grind
   .subst hk;rw[h3,Zt0,L.2];simp[L.1]
  .rw[Xg O]at h3;simp only[YR]at h3;exact Z9 rfl h3.symm
 refine ZTJ N _ _ _ ?_;(try simp only[iB,bR,Qk]);(simp only[iB,bW]);(try simp only[iB,bR]);try(simp only[vE])
 have a1:∀s:k=0,Zf (.mk k ws ks) d=decide ( J ws=0/\J ks=0):=λs=>by simp only[Zf,Q5 s]
 have aw:∀(_:¬k=0)(h:k=10),Zf (.mk k ws ks) d=decide ( J ws=1/\J ks=0):=λs h=>by simp only[Zf,Q0 s,Q5 h]
 refine⟨λs=>Z9 rfl ?_,λs=>⟨λh=>Z9 rfl ?_,λh=>⟨λhd=>Z9 rfl ?_,λhd=>⟨λh1=>⟨λL=>Z9 rfl ?_,λL=>ak Y hd ?_ rfl⟩,λh1=>⟨trivial,λL=>Z9 rfl ?_,λL=>ak Y hd ?_ rfl⟩⟩⟩⟩⟩;.grind
 .grind
 .simp only[Zf,Q0 s,Q0 h,Q5 hd]
 .simp only[Zf,Q0 s,Q0 h,Q0 hd,Q5 h1];grind
 .simp only[Zf,Q0 s,Q0 h,Q0 hd,Q5 h1];grind
 .simp only[Zf,Q0 s,Q0 h,Q0 hd,Q0 h1];grind
 .simp only[Zf,Q0 s,Q0 h,Q0 hd,Q0 h1];grind
theorem Sv:aU Tryz.prog M 82 Zji:=by
 refine kF (l:=ZQX) ⟨ZXD,trivial⟩ n8 Tryz.func82 1 λ⟨t,_⟩s=>?_;refine wV (λQ=>let z0:=H.mk t.D t.aS t.X;uC (z0,64,())/\Q .ret (L2 [pB 2 (Zf z0 64)] [])) ?_ λ_ h=>Eq.mpr V4 h;(try simp only[iB,bR,Qk]);try(simp only[vE])
 exact⟨⟨s.1,s.2,by grind,by grind⟩,Z9 rfl rfl⟩
theorem Pm:aU Tryz.prog M 82 Un:=Zzf Sv λ_ h=>⟨IF _ (QS h.1 V1),h.2⟩
theorem ZrU{y d}(h:Zf y d=Y)(s:y.D=10):J y.aS=1/\J y.X=0:=by obtain⟨k,w,ks⟩:=y;simp only[H.gT]at s;subst s;simpa[Zf]using h
theorem Aj:aU Tryz.prog M 31 v7:=by
 refine ZQv UI ?_;rintro N⟨k,ws,ks⟩d _ hp hN;simp only[pd,ni,Zo,ei]at hp hN;refine ZWI N _ _ _ ?_;(try simp only[iB,bR,Qk]);(simp only[iB,bW]);(try simp only[iB,bR]);try(simp only[vE])
 refine⟨λh0=>Z9 rfl ?_,λh0=>⟨λaa=>Z9 rfl ?_,λaa=>⟨λa b=>⟨a,b⟩,λL=>Z9 rfl ?_,λL=>⟨λhw=>Z9 rfl ?_,λhw=>?_⟩⟩⟩⟩;.simp only[Zf,Q5 h0];rw[QA];(simp only[iB,bW]);omega
 .simp only[Zf,Q0 h0,Q5 aa];rw[QA];(simp only[iB,bW]);omega
 .simp only[Zf,Q0 h0,Q0 aa];split;.try rfl
  .split;.rw[Xe O];try rfl
   .have:¬(2<=k/\k<=9/\J ws=0/\J ks<1048576):=O;rw[Xe this];try rfl
 .simp only[Zf,Q0 h0,Q0 aa];rw[Q0 O,Q0 O];have:¬(2<=k/\k<=9/\J ws=0/\J ks<1048576):=O;rw[Xe this];try rfl
 .have hb:Zf (.mk k ws ks) d=YR k ks (d-1):=by
   simp only[Zf,Q0 h0,Q0 aa];rw[Q0 O];split;.rename_i h1;rw[QD O,h1];try rfl
   .have:2<=k/\k<=9/\J ws=0/\J ks<1048576:=O;rw[QD this];try rfl
  refine Z5 (ι:=Int) (λp=>Nh (.mk k ws ks) d p) (λp=>0<=p/\p<=J ks/\Zf (.mk k ws ks) d=YR k (ks.drop (G p)) (d-1)) (λp=>G (( J ks:Int)-p)) 0 rfl ⟨O,O,by simpa using hb⟩ ?_;rintro i⟨h1,h2,h3⟩;refine ZIp N _ _ _ _ _ ?_;(try simp only[iB,bR,Qk]);(simp only[iB,bW]);(try simp only[iB,bR]);try(simp only[vE])
  refine⟨λhi=>?_,λhi=>?_⟩
  .have hd:=Zh5 (l:=k) (d:=d-1) h1 hi;have hm:=t_ (ks:=ks) (i:=G i) O;have hr:=Up (i:=G i) hp.2.1.2.2 O;rw[hd]at h3;have ay:=Zs ks;generalize aR ks (G i) H.nil=y at*;have al:pd (y,d-1,()):=⟨V2,hr,V2,V2⟩;have ar:ni (y,d-1,())<N:=by simp only[ni];omega
   have av:bQ (d-1):=V3;refine⟨⟨h1,hi⟩,av,al,ar,λhf=>Z9 rfl ?_,λhf=>?_⟩;.rw[h3,hf];simp
   .have s:(bif decide (2<=k)then decide (k<=7)else I)=(y.D==10)↔( 2<=k/\k<=7↔y.D=10):=by rw[QA];(simp only[iB,bW])
    have aj:=ZrU hf;have am:ic k y=Y↔(( 2<=k/\k<=7↔y.D=10)/\(¬k=9\/y.D=1))/\((¬2<=k\/¬k<=7)\/uz (k-2) (aR y.aS 0 0)=Y):=by
     unfold ic;by_cases hk:2<=k/\k<=7
     .rw[Q5 hk];(simp only[iB,bW]);constructor;.rintro⟨h,h5⟩;exact⟨⟨O,O⟩,.inr h5⟩
      .rintro⟨⟨h,_⟩,h5⟩;have:=aj O;exact⟨O,by rcases h5 with h5|h5;omega;exact h5⟩
     .rw[Q0 hk];by_cases h9:k=9
      .rw[Q5 h9];(simp only[iB,bW]);constructor;.intro h;exact⟨⟨O,O⟩,.inl O⟩
       .rintro⟨⟨_,h⟩,_⟩;omega
      .rw[Q0 h9];(simp only[iB,bW]);constructor;.intro h;exact⟨⟨O,O⟩,.inl O⟩
       .rintro⟨⟨h,_⟩,_⟩;omega
    have ae:∀(h:((bif decide (2<=k)then decide (k<=7)else I)=(y.D==10)/\(¬k=9\/y.D=1))/\2<=k/\k<=7),J y.aS=1:=λh=>(aj ((s.1 h.1.1).1 h.2)).1;simp only[Int.toNat_zero];refine⟨λa b=>⟨a,b⟩,λh=>by unfold bQ;omega,λh=>by have:=ae h;omega,λh=>ZrP hr (by have:=ae h;omega),λa b=>⟨a,b⟩,λh=>Z9 rfl ?_,λh=>⟨V3,i+1,rfl,⟨O,O,?_⟩,O⟩⟩
    .have au:ic k y=I:=by cases hkk:ic k y with|false=>rfl|true=>
       exfalso;obtain⟨h5,h6⟩:=am.1 hkk;rcases h with h|⟨h,h7⟩
       .rcases h with h|h;.exact h (s.2 h5.1)
        .omega
       .rcases h6 with h6|h6;.omega
        .rw[h7]at h6;cases h6
     rw[h3,au];try rfl
    .rw[h3,am.2 ⟨⟨s.1 h.1.1,h.1.2⟩,h.2⟩,hf];try rfl
  .rw[Xg O]at h3;simp only[YR]at h3;exact Z9 rfl h3.symm
theorem Znj{t}(h:0<=Y3 t 80 3000):Zo t<=20000000000:=by have:=Bn t 80 3000 h;omega
