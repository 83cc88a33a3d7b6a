/- Arguments that are read, and are no longer than a bound. -/
import Derived.Test.YthokdjgpdonhgaaBmX
set_option linter.unusedSimpArgs false
set_option linter.unusedVariables false
namespace Go.AM
open Go.ChangeShapes Go.WideShapes Go.RowKit
variable {P : Program} {cfg : Cfg U} {H : Type} {henc : TypeId × Value → H}

/-- How many elements a slice has, as it is read. -/
def lenD (d : DataW H) : Nat :=
  match d with
  | .slice es _ => es.length
  | _ => 0

/-- An argument is read; it has at most so many elements. -/
def ArgRU {α : Type} (henc : TypeId × Value → H) (P : Program) (cfg : Cfg U) (B : Nat) (A : Arg α) (t : TypeId) (good : α → Prop) : Prop :=
  (∀ a, A.get (A.can a) = some a) ∧ ∀ (w : World) (base : Nat) v n x, Value.okWide P w .any base t v → DataW.trod henc P w 0 (fun _ => true) true n t v.cells.toList = some x → (x.1.weights P t).all (· ≤ reachBytes) = true → lenD x.1 ≤ B →
    ∃ a, good a ∧ ∀ (g : Gh) (live : Name → Bool), g.m = w.cell? → RelV cfg g alive live v (A.can a)

theorem ArgR.upto {α : Type} {B : Nat} {A : Arg α} {t : TypeId} {good : α → Prop} (h : ArgR henc P cfg A t good) : ArgRU henc P cfg B A t good :=
  ⟨h.1, fun w base v n x h1 h2 h3 _ => h.2 w base v n h1 ⟨x, h2, h3⟩⟩

def ArgLRU {α : Type} (henc : TypeId × Value → H) (P : Program) (cfg : Cfg U) (B : Nat) (A : ArgL α) (ts : List TypeId) (good : α → Prop) : Prop :=
  (∀ a, A.get (A.can a) = some a) ∧ ∀ (w : World) (base : Nat) (vs : List Value) ds ps, (∀ (j : Nat) t v, ts[j]? = some t → vs[j]? = some v → Value.okWide P w .any base t v) →
    DataW.TrodAll henc P w 0 (fun _ => true) true ts vs ds ps → (DataW.weightsEach P ts ds).all (· ≤ reachBytes) = true → (∀ d ∈ ds, lenD d ≤ B) →
    ∃ a, good a ∧ vs.length = (A.can a).length ∧ ∀ (g : Gh) (live : Name → Bool), g.m = w.cell? → ∀ (j : Nat) v x, vs[j]? = some v → (A.can a)[j]? = some x → RelV cfg g alive live v x

theorem argLRU_nil {B : Nat} : ArgLRU henc P cfg B ArgL.nil [] (fun _ => True) :=
  ⟨argLR_nil (henc := henc) (P := P) (cfg := cfg).1, fun w base vs ds ps h1 h2 h3 _ => argLR_nil.2 w base vs ds ps h1 h2 h3⟩

theorem argLRU_cons {α β : Type} {N : Nat} {A : Arg α} {B : ArgL β} {t : TypeId} {ts : List TypeId} {good : α → Prop} {goods : β → Prop} (hA : ArgRU henc P cfg N A t good) (hB : ArgLRU henc P cfg N B ts goods) :
    ArgLRU henc P cfg N (ArgL.cons A B) (t :: ts) (fun p => good p.1 ∧ goods p.2) := by
  refine ⟨fun a => ?_, fun w base vs ds ps hok h hw hb => ?_⟩
  · simp only [ArgL.cons, hA.1, hB.1]
  · obtain ⟨v, vs', d, ds', p, q, rfl, rfl, rfl, h1, h2⟩ := trodAll_cons h
    obtain ⟨n, h1⟩ := h1
    simp only [DataW.weightsEach, List.all_append, Bool.and_eq_true] at hw
    obtain ⟨a, ga, ra⟩ := hA.2 w base v n (d, p) (hok 0 t v rfl rfl) h1 hw.1 (hb d (List.mem_cons_self ..))
    obtain ⟨b, gb, lb, rb⟩ := hB.2 w base vs' ds' q (fun j t v ht hv => hok (j + 1) t v (by simpa using ht) (by simpa using hv)) h2 hw.2 (fun x hx => hb x (List.mem_cons_of_mem _ hx))
    refine ⟨(a, b), ⟨ga, gb⟩, by simp [ArgL.cons, lb], fun g live hg j u x hu hx => ?_⟩
    cases j with
    | zero => simp [ArgL.cons] at hu hx; subst hu hx; exact ra g live hg
    | succ j => simp [ArgL.cons] at hu hx; exact rb g live hg j u x hu hx

theorem argRU_sl (ok : CfgOk P cfg) {N : Nat} {t : TypeId} {T : Ty} {good : List (El T) → Prop} (hs : cfg.slT t = some T) (hA : ArgR henc P cfg (aSl T) t good) :
    ArgRU henc P cfg N (aSl T) t (fun l => l.length ≤ N ∧ good l) := by
  refine ⟨hA.1, fun w base v n x hok hx hw hb => ?_⟩
  obtain ⟨a, ga, ra⟩ := hA.2 w base v n hok ⟨x, hx, hw⟩
  refine ⟨a, ⟨?_, ga⟩, ra⟩
  have hu := ok.sl _ _ hs
  have hr := ra ⟨w.cell?, fun _ => none, fun _ => ⟨0, 0, none⟩, fun _ => none⟩ (fun _ => false) rfl
  have hr1 : SimC cfg w.cell? v (sl T a) := hr.1
  obtain ⟨a0, len, cap, rfl⟩ := okWide_slice hu hok
  rcases DataW.trod_slice hu hx with ⟨h0, _⟩ | ⟨a', len', cap', elems, rest, m, h0, h1, rfl, _, hlc, _, hel, hels, _⟩
  · have h0' : Value.slice a0 len cap = Value.slice none 0 0 := by simpa [Value.cells] using h0
    cases h0'
    cases hr1
    simp
  · have h0' : Value.slice a0 len cap = Value.slice (some a') len' cap' := by simpa [Value.cells] using h1
    cases h0'
    cases hr1 with
    | slice _ _ _ _ _ _ _ hl _ _ _ =>
      simp only [lenD, List.length_map] at hb
      omega

theorem law_callsU {α : Type} {N : Nat} {A : ArgL α} {ts : List TypeId} {good : α → Prop} {pre : α → Prop} {f : FuncId} (hA : ArgLRU henc P cfg N A ts good) (hgood : ∀ a, good a → pre a)
    (hc : Contract P cfg f (fs A (fun a => [pre a]) (fun _ => .c (.bool true)))) (w : World) (base : Nat) (args : Array Value) (ds : List (DataW H)) (ps : List MemPlace)
    (hok : ∀ (j : Nat) t v, ts[j]? = some t → args.toList[j]? = some v → Value.okWide P w .any base t v)
    (ht : DataW.TrodAll henc P w 0 (fun _ => true) true ts args.toList ds ps) (hw : (DataW.weightsEach P ts ds).all (· ≤ reachBytes) = true) (hb : ∀ d ∈ ds, lenD d ≤ N) :
    Calls P f args w fun e w' => e = .returned (.bool true) ∧ Below w.heap.size w w' := by
  obtain ⟨a, ga, hl, hr⟩ := hA.2 w base args.toList ds ps hok ht hw hb
  let g : Gh := ⟨w.cell?, fun _ => none, fun _ => ⟨0, 0, none⟩, fun _ => none⟩
  have hs : (fs A (fun a => [pre a]) (fun _ => .c (.bool true))).fn (A.can a) [] = some ([pre a], .c (.bool true), []) := by
    simp only [fs, hA.1]
  have hent : Entry cfg w g args.toList (A.can a) [] [] := by
    refine ⟨⟨fun b v hv => ⟨hv, rfl⟩, fun b t ht => by cases ht⟩, fun b t ht => (by cases ht), hl, fun j v x hv hx => hr g _ rfl j v x hv hx, fun k cs hk => (by simp at hk), fun _ _ => rfl, fun t x hx => by cases hx⟩
  have := hc.one rfl (A.can a) [] _ _ [] hs ⟨hgood a ga, trivial⟩ (Nat.le_refl _) w g args.toList hent
  refine Calls.mono (by simpa using this) ?_
  rintro e w' ⟨v, rfl, g', L⟩
  have hv : SimC cfg g'.m v (.bool true) := L.val.1
  cases hv
  refine ⟨rfl, L.fr.stay.os, L.fr.stay.tape, L.fr.stay.output, L.fr.stay.size, fun k hk => ?_⟩
  exact (L.fr.clean k hk fun o s t ht => by cases ht).1
end Go.AM
