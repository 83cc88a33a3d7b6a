import Derived.Test.YtpjenobkibfpcaaKB22c
import Derived.Test.YtpjenobkibfpcaaKB07
import Derived.Test.YtpjenobkibfpcaaKB20y
import Derived.Test.YtpjenobkibfpcaaKD24
import Derived.Test.YtpjenobkibfpcaaCD25s
set_option linter.unusedSimpArgs false
set_option linter.unusedVariables false
namespace Go.AM.Ytpjenobkibfpcaa
open Go.AM Go.Proofs
abbrev TrKG20f (p : Prop) : Prop := p → p
def args167 : ArgL (Tree × Unit) := (.cons (aEl .tree) .nil)
def pre167 (a : Tree × Unit) : Prop := mass a.1 ≤ 20000000000
noncomputable def res167 (a : Tree × Unit) : V U := .c (.bool (noneT a.1))
noncomputable def spec167 : Fs U := fs args167 (fun a => [pre167 a]) res167
def args121 : ArgL (Edit × Unit) := (.cons (aEl .edit) .nil)
def pre121 (a : Edit × Unit) : Prop := massE a.1 ≤ 20000000000
noncomputable def res121 (a : Edit × Unit) : V U := .c (.bool (bareE a.1))
noncomputable def spec121 : Fs U := fs args121 (fun a => [pre121 a]) res121
noncomputable def know167 : List (FuncId × Fs U) := []
def lv167 : Lives U := fun i => match i with
  | 0 => ([(1, [])], [((.loc 1), [])])
  | 1 => ([(2, [])], [])
  | _ => ([], [])
abbrev W167 (t : Tree) (Q : AExit → LSt U → Prop) := awp cfg (know know167) (drawOk cfg (know know167)) Try.f167.ntmps lv167 (cd Try.f167 []) (⟨[(0, .agg [.int .i64 (Tree.kind t), .slice (U := U) .u64 (Tree.words t) .unk, .slice (U := U) .tree (Tree.kids t) .unk])], [], []⟩ : LSt U) Q
theorem vc167 (t : Tree) (Q : AExit → LSt U → Prop) (h : ((((Tree.kind t) : Int) == 0) = true → InR ((((Tree.words t).length : Int) : Int) + ((Tree.kids t).length : Int))) ∧ (Q .ret (⟨[(2, .c (.bool (bif (((Tree.kind t) : Int) == 0) then ((((((Tree.words t).length : Int) : Int) + ((Tree.kids t).length : Int)) : Int) == 0) else false)))], [], []⟩ : LSt U))) :
    W167 t Q := by
  have e_ : (W167 t Q) = (((TrKG20f (((Tree.kind t) == 0) = true)) ∧ (TrKG20f (((Tree.kind t) == 0) = true)) ∧ (TrKG20f (((Tree.kind t) == 0) = true)) ∧ (TrKG20f (((Tree.kind t) == 0) = true)) ∧ (TrKG20f (((Tree.kind t) == 0) = true)) ∧ (TrKG20f (((Tree.kind t) == 0) = true)) ∧ (((Tree.kind t) == 0) = true → InR (((Tree.words t).length : Int) + ((Tree.kids t).length : Int))) ∧ (TrKG20f (((Tree.kind t) == 0) = true)) ∧ ((TrKG20f (((Tree.kind t) == 0) = true))) ∧ (Q .ret (⟨[(2, .c (.bool (bif ((Tree.kind t) == 0) then (((((Tree.words t).length : Int) + ((Tree.kids t).length : Int)) : Int) == 0) else false)))], [], []⟩ : LSt U)))) := by kernel_rfl
  exact e_.mpr ⟨id, id, id, id, id, id, h.1, id, (by generalize (((Tree.kind t) : Int) == 0) = b0; revert b0; decide), h.2⟩
def Body167 (t : Tree)  : Prop := awp cfg (know (know167)) (drawOk cfg (know (know167))) Try.f167.ntmps lv167 (cd Try.f167 []) (entry (args167.can (t, ())) []) (EndsQ cfg Try.f167.ntmps Try.f167.results.toList (res167 (t, ())) [])
theorem make167 (hb : ∀ (t : Tree) (_ : Unit), pre167 (t, ()) → Body167 t) : Contract Try.prog cfg 167 spec167 :=
  contract_flat (l := []) cfgOk rfl (trivial) lv167 Try.func167 rfl rfl 1 (fun _ => rfl) (by decide) (fun ⟨t, _⟩ => hb t ())
noncomputable def know121 : List (FuncId × Fs U) := [(167, spec167)]
def lv121 : Lives U := fun i => match i with
  | 0 => ([(1, [])], [((.loc 1), [])])
  | 1 => ([(1, []), (3, [])], [((.loc 1), [])])
  | 2 => ([(1, []), (4, [])], [((.loc 1), [])])
  | 3 => ([(2, [])], [])
  | 4 => ([(1, []), (21, [])], [((.loc 1), [])])
  | 5 => ([(2, [])], [])
  | 6 => ([(2, [])], [])
  | _ => ([], [])
abbrev W121 (e : Edit) (Q : AExit → LSt U → Prop) := awp cfg (know know121) (drawOk cfg (know know121)) Try.f121.ntmps lv121 (cd Try.f121 []) (⟨[(0, .agg [.int .i64 (Edit.kind e), .int .i64 (Tree.kind (Edit.old e)), .slice (U := U) .u64 (Tree.words (Edit.old e)) .unk, .slice (U := U) .tree (Tree.kids (Edit.old e)) .unk, .int .i64 (Tree.kind (Edit.new e)), .slice (U := U) .u64 (Tree.words (Edit.new e)) .unk, .slice (U := U) .tree (Tree.kids (Edit.new e)) .unk, .slice (U := U) .wedit (Edit.words e) .unk, .slice (U := U) .kid (Edit.kids e) .unk, .int .i64 (Edit.list e), .slice (U := U) .op (Edit.ops e) .unk])], [], []⟩ : LSt U) Q
theorem vc121 (e : Edit) (Q : AExit → LSt U → Prop) (h : ∀ y_1, y_1 = ((Edit.new e)) → ∀ y_2, y_2 = ((Edit.old e)) → ((((Edit.kind e) : Int) != 1) = true → pre167 (y_2, ())) ∧ (((((Edit.kind e) : Int) != 1) && (noneT y_2)) = true → pre167 (y_1, ())) ∧ (((bif (((Edit.kind e) : Int) != 1) then (!(bif (noneT y_2) then (noneT y_1) else false)) else false) = true → Q .ret (⟨[(2, .c (.bool false))], [], []⟩ : LSt U)) ∧ ((bif (((Edit.kind e) : Int) != 1) then (!(bif (noneT y_2) then (noneT y_1) else false)) else false) = false → ((((Edit.kind e) : Int) != 2) = true → InR ((((Edit.words e).length : Int) : Int) + ((Edit.kids e).length : Int))) ∧ (((bif (((Edit.kind e) : Int) != 2) then (decide ((0 : Int) < ((((Edit.words e).length : Int) : Int) + ((Edit.kids e).length : Int)))) else false) = true → Q .ret (⟨[(2, .c (.bool false))], [], []⟩ : LSt U)) ∧ ((bif (((Edit.kind e) : Int) != 2) then (decide ((0 : Int) < ((((Edit.words e).length : Int) : Int) + ((Edit.kids e).length : Int)))) else false) = false → Q .ret (⟨[(2, .c (.bool (bif (((Edit.kind e) : Int) == 3) then true else (bif (((Edit.list e) : Int) == 0) then ((((Edit.ops e).length : Int) : Int) == 0) else false))))], [], []⟩ : LSt U)))))) :
    W121 e Q := by
  have e_ : (W121 e Q) = (let y_1 := (reTree (Edit.new e)); let y_2 := (reTree (Edit.old e)); let zz2 := (bif ((Edit.kind e) != 1) then (!(bif (noneT y_2) then (noneT y_1) else false)) else false); let zz1 := (bif ((Edit.kind e) != 2) then (decide ((0 : Int) < (((Edit.words e).length : Int) + ((Edit.kids e).length : Int)))) else false); let zz0 := (!((Edit.kind e) == 3)); (((TrKG20f (((Edit.kind e) != 1) = true)) ∧ (TrKG20f (((Edit.kind e) != 1) = true)) ∧ (TrKG20f (((Edit.kind e) != 1) = true)) ∧ (((Edit.kind e) != 1) = true → pre167 (y_2, ())) ∧ (TrKG20f (((Edit.kind e) != 1) = true)) ∧ (TrKG20f ((((Edit.kind e) != 1) && (noneT y_2)) = true)) ∧ (TrKG20f ((((Edit.kind e) != 1) && (noneT y_2)) = true)) ∧ (TrKG20f ((((Edit.kind e) != 1) && (noneT y_2)) = true)) ∧ ((((Edit.kind e) != 1) && (noneT y_2)) = true → pre167 (y_1, ())) ∧ (((Edit.kind e) != 1) = true → (True → ((Edit.kind e) != 1) = true)) ∧ (((Edit.kind e) != 1) = true → ((noneT y_2) = true → (((Edit.kind e) != 1) && (noneT y_2)) = true)) ∧ (TrKG20f (((Edit.kind e) != 1) = true)) ∧ ((TrKG20f (((Edit.kind e) != 1) = true))) ∧ ((zz2 = true → (Q .ret (⟨[(2, .c (.bool false))], [], []⟩ : LSt U))) ∧ (zz2 = false → (TrKG20f (((Edit.kind e) != 2) = true)) ∧ (TrKG20f (((Edit.kind e) != 2) = true)) ∧ (TrKG20f (((Edit.kind e) != 2) = true)) ∧ (TrKG20f (((Edit.kind e) != 2) = true)) ∧ (TrKG20f (((Edit.kind e) != 2) = true)) ∧ (TrKG20f (((Edit.kind e) != 2) = true)) ∧ (((Edit.kind e) != 2) = true → InR (((Edit.words e).length : Int) + ((Edit.kids e).length : Int))) ∧ (TrKG20f (((Edit.kind e) != 2) = true)) ∧ ((TrKG20f (((Edit.kind e) != 2) = true))) ∧ ((zz1 = true → (Q .ret (⟨[(2, .c (.bool false))], [], []⟩ : LSt U))) ∧ (zz1 = false → (TrKG20f (zz0 = true)) ∧ (TrKG20f (zz0 = true)) ∧ (TrKG20f (zz0 = true)) ∧ (TrKG20f ((zz0 && ((Edit.list e) == 0)) = true)) ∧ (TrKG20f ((zz0 && ((Edit.list e) == 0)) = true)) ∧ (TrKG20f ((zz0 && ((Edit.list e) == 0)) = true)) ∧ (zz0 = true → (True → zz0 = true)) ∧ (zz0 = true → (((Edit.list e) == 0) = true → (zz0 && ((Edit.list e) == 0)) = true)) ∧ ((((Edit.kind e) == 3) = false → zz0 = true)) ∧ (Q .ret (⟨[(2, .c (.bool (bif ((Edit.kind e) == 3) then true else (bif ((Edit.list e) == 0) then (((Edit.ops e).length : Int) == 0) else false))))], [], []⟩ : LSt U))))))))) := by kernel_rfl
  exact e_.mpr (by intro y_1 y_2; have hh := h y_1 (reTree_eq _) y_2 (reTree_eq _); exact ⟨id, id, id, hh.1, id, id, id, id, hh.2.1, (by generalize (((Edit.kind e) : Int) != 1) = b0; revert b0; decide), (by generalize (noneT y_2) = b0; generalize (((Edit.kind e) : Int) != 1) = b1; revert b0 b1; decide), id, (by generalize (((Edit.kind e) : Int) != 1) = b0; revert b0; decide), ⟨fun c_1 => (hh.2.2.1 c_1), fun c_1 => ⟨id, id, id, id, id, id, (hh.2.2.2 c_1).1, id, (by generalize (((Edit.kind e) : Int) != 2) = b0; revert b0; decide), ⟨fun c_2 => ((hh.2.2.2 c_1).2.1 c_2), fun c_2 => ⟨id, id, id, id, id, id, (by generalize (((Edit.kind e) : Int) == 3) = b0; revert b0; decide), (by generalize (((Edit.kind e) : Int) == 3) = b0; generalize (((Edit.list e) : Int) == 0) = b1; revert b0 b1; decide), (by generalize (((Edit.kind e) : Int) == 3) = b0; revert b0; decide), ((hh.2.2.2 c_1).2.2 c_2)⟩⟩⟩⟩⟩)
def Body121 (e : Edit)  : Prop := awp cfg (know (know121)) (drawOk cfg (know (know121))) Try.f121.ntmps lv121 (cd Try.f121 []) (entry (args121.can (e, ())) []) (EndsQ cfg Try.f121.ntmps Try.f121.results.toList (res121 (e, ())) [])
theorem make121 (c167 : Contract Try.prog cfg 167 spec167) (hb : ∀ (e : Edit) (_ : Unit), pre121 (e, ()) → Body121 e) : Contract Try.prog cfg 121 spec121 :=
  contract_flat (l := [(167, spec167)]) cfgOk rfl (⟨c167, trivial⟩) lv121 Try.func121 rfl rfl 1 (fun _ => rfl) (by decide) (fun ⟨e, _⟩ => hb e ())
end Go.AM.Ytpjenobkibfpcaa

namespace Go.AM.Ytpjenobkibfpcaa
open Go.AM Go.Proofs
theorem c167 : Contract Try.prog cfg 167 spec167 := by
  refine make167 ?_
  intro t _ hp
  simp only [pre167] at hp
  have := len_mass t
  refine vc167 t _ ?_
  refine ⟨fun _ => by unfold InR; omega, ends_bool rfl ?_⟩
  rw [Bool.eq_iff_iff]
  simp only [noneT]
  (simp only [vcS])
  omega
theorem c121 : Contract Try.prog cfg 121 spec121 := by
  refine make121 c167 ?_
  intro e _ hp
  simp only [pre121] at hp
  have h1 := len_massE e
  have h2 := massKs_len e.kids
  refine vc121 e _ ?_
  rintro y1 rfl y2 rfl
  (simp only [vcS])
  refine ⟨fun _ => by simp only [pre167]; omega, fun _ => by simp only [pre167]; omega, fun h => ?_, fun h => ⟨fun _ => by unfold InR; omega, fun h3 => ?_, fun h3 => ?_⟩⟩
  · refine ends_bool rfl ?_
    show false = bareE e
    unfold bareE
    rw [if_pos (Or.inl ⟨h.1, fun hn => by have := h.2; rw [hn.1, hn.2] at this; revert this; decide⟩)]
  · refine ends_bool rfl ?_
    show false = bareE e
    unfold bareE
    rw [if_pos (Or.inr (Or.inl ⟨h3.1, by omega⟩))]
  · refine ends_bool rfl ?_
    show _ = bareE e
    unfold bareE
    have g1 : ¬(e.kind ≠ 1 ∧ ¬(noneT e.old = true ∧ noneT e.new = true)) := by
      intro hc
      rcases h with h | h
      · exact hc.1 (by simpa using h)
      · exact hc.2 (by simpa using h)
    have g2 : ¬(e.kind ≠ 2 ∧ ¬(e.words.length = 0 ∧ e.kids.length = 0)) := by omega
    by_cases g3 : e.kind ≠ 3 ∧ (e.list ≠ 0 ∨ e.ops.length ≠ 0)
    · rw [if_pos (Or.inr (Or.inr g3)), Bool.eq_iff_iff]
      (simp only [vcS])
      constructor
      · intro h; omega
      · intro h; cases h
    · rw [if_neg (by rintro (x | x | x) <;> contradiction), Bool.eq_iff_iff]
      (simp only [vcS])
      constructor
      · intro _; first | trivial | rfl
      · intro _; omega
end Go.AM.Ytpjenobkibfpcaa

namespace Go.AM.Ytpjenobkibfpcaa
open Go.AM Go.Proofs
abbrev TrKG20z (p : Prop) : Prop := p → p
noncomputable section
def args89 : ArgL (Edit × Int × Unit) := (.cons (aEl .edit) (.cons (aInt .i64) .nil))
def pre89 (a : Edit × Int × Unit) : Prop := (massE a.1 ≤ 18000000000 ∧ rngE a.1) ∧ 0 ≤ a.2.1 ∧ a.2.1 ≤ 1000
def mu89 (a : Edit × Int × Unit) : Nat := 4 * massE a.1
noncomputable def res89 (a : Edit × Int × Unit) : V U := .c (.bool (rightE a.1 a.2.1))
noncomputable def spec89 : Fs U := fs args89 (fun a => [pre89 a]) res89
def args124 : ArgL (List Kid × Int × Unit) := (.cons (aSl .kid) (.cons (aInt .i64) .nil))
def pre124 (a : List Kid × Int × Unit) : Prop := (massKs a.1 ≤ 18000000000 ∧ rngKs a.1) ∧ 0 ≤ a.2.1 ∧ a.2.1 ≤ 1000
def mu124 (a : List Kid × Int × Unit) : Nat := 4 * massKs a.1 + 2
noncomputable def res124 (a : List Kid × Int × Unit) : V U := .c (.bool (rightKs (-1) a.1 a.2.1))
noncomputable def spec124 : Fs U := fs args124 (fun a => [pre124 a]) res124
def args125 : ArgL (Edit × Int × Unit) := (.cons (aEl .edit) (.cons (aInt .i64) .nil))
def pre125 (a : Edit × Int × Unit) : Prop := (massE a.1 ≤ 18000000000 ∧ rngE a.1 ∧ 2 ≤ Edit.list a.1 ∧ Edit.list a.1 ≤ 9) ∧ 0 ≤ a.2.1 ∧ a.2.1 ≤ 1000
def mu125 (a : Edit × Int × Unit) : Nat := 4 * massOs (Edit.ops a.1) + 2
noncomputable def res125 (a : Edit × Int × Unit) : V U := .c (.bool (rightOs (Edit.list a.1) (Edit.ops a.1) a.2.1 && decide (lenA (Edit.ops a.1) 0 < 1048576 ∧ lenB (Edit.ops a.1) 0 < 1048576)))
noncomputable def spec125 : Fs U := fs args125 (fun a => [pre125 a]) res125
def args168 : ArgL (Int × Op × Int × Unit) := (.cons (aInt .i64) (.cons (aEl .op) (.cons (aInt .i64) .nil)))
def pre168 (a : Int × Op × Int × Unit) : Prop := (massOp a.2.1 ≤ 18000000000 ∧ rngOp a.2.1 ∧ 2 ≤ a.1 ∧ a.1 ≤ 9) ∧ 0 ≤ a.2.2.1 ∧ a.2.2.1 ≤ 1000
def mu168 (a : Int × Op × Int × Unit) : Nat := 4 * massOp a.2.1 + 1
noncomputable def res168 (a : Int × Op × Int × Unit) : V U := .c (.bool (rightOp a.1 a.2.1 a.2.2.1))
noncomputable def spec168 : Fs U := fs args168 (fun a => [pre168 a]) res168
def args52 : ArgL (Edit × Unit) := (.cons (aEl .edit) .nil)
def pre52 (a : Edit × Unit) : Prop := massE a.1 ≤ 18000000000 ∧ rngE a.1
noncomputable def res52 (a : Edit × Unit) : V U := .c (.bool (rightE a.1 64))
noncomputable def spec52 : Fs U := fs args52 (fun a => [pre52 a]) res52
noncomputable def know89 (N : Nat) : List (FuncId × Fs U) := (89, fs args89 (fun a => [pre89 a, mu89 a < N]) res89) :: (124, fs args124 (fun a => [pre124 a, mu124 a < N]) res124) :: (125, fs args125 (fun a => [pre125 a, mu125 a < N]) res125) :: (168, fs args168 (fun a => [pre168 a, mu168 a < N]) res168) :: [(121, spec121), (122, spec122), (123, spec123), (92, spec92), (184, spec184), (187, spec187), (164, spec164)]
def lv89 : Lives U := fun i => match i with
  | 0 => ([(1, []), (2, [])], [((.loc 2), [])])
  | 1 => ([(1, []), (2, []), (11, [])], [((.loc 2), [])])
  | 2 => ([(4, [])], [])
  | 3 => ([(1, []), (2, []), (13, [])], [((.loc 2), [])])
  | 4 => ([(1, []), (2, []), (13, []), (14, [])], [((.loc 2), [])])
  | 5 => ([(4, [])], [])
  | 6 => ([(1, []), (2, []), (13, []), (16, [])], [((.loc 2), [])])
  | 7 => ([(4, [])], [])
  | 8 => ([(1, []), (2, []), (13, []), (26, [])], [((.loc 2), [])])
  | 9 => ([(4, [])], [])
  | 10 => ([(1, []), (2, []), (38, [])], [((.loc 2), [])])
  | 11 => ([(4, [])], [])
  | 12 => ([(4, [])], [])
  | _ => ([], [])
abbrev W89 (N : Nat) (e : Edit) (d : Int) (Q : AExit → LSt U → Prop) := awp cfg (know (know89 N)) (drawOk cfg (know (know89 N))) Try.f89.ntmps lv89 (cd Try.f89 []) (⟨[(0, .agg [.int .i64 (Edit.kind e), .int .i64 (Tree.kind (Edit.old e)), .slice (U := U) .u64 (Tree.words (Edit.old e)) .unk, .slice (U := U) .tree (Tree.kids (Edit.old e)) .unk, .int .i64 (Tree.kind (Edit.new e)), .slice (U := U) .u64 (Tree.words (Edit.new e)) .unk, .slice (U := U) .tree (Tree.kids (Edit.new e)) .unk, .slice (U := U) .wedit (Edit.words e) .unk, .slice (U := U) .kid (Edit.kids e) .unk, .int .i64 (Edit.list e), .slice (U := U) .op (Edit.ops e) .unk]), (1, .c (.int .i64 d))], [], []⟩ : LSt U) Q
theorem vc89 (N : Nat) (e : Edit) (d : Int) (Q : AExit → LSt U → Prop) (h : ∀ y_1, y_1 = (e) → ∀ y_2, y_2 = ((Edit.new e)) → ∀ y_3, y_3 = ((Edit.old e)) → (pre121 (y_1, ())) ∧ (((bif (!(bareE y_1)) then true else ((d : Int) == 0)) = true → Q .ret (⟨[(4, .c (.bool false))], [], []⟩ : LSt U)) ∧ ((bif (!(bareE y_1)) then true else ((d : Int) == 0)) = false → ((((Edit.kind e) : Int) == 0) = true → Q .ret (⟨[(4, .c (.bool true))], [], []⟩ : LSt U)) ∧ ((((Edit.kind e) : Int) == 0) = false → ((((Edit.kind e) : Int) == 1) = true → (pre122 (y_3, ())) ∧ (((decide (Tree.kind y_3 ≠ 10) && rightT y_3 64)) = true → pre122 (y_2, ())) ∧ (Q .ret (⟨[(4, .c (.bool (bif (decide (Tree.kind y_3 ≠ 10) && rightT y_3 64) then (decide (Tree.kind y_2 ≠ 10) && rightT y_2 64) else false)))], [], []⟩ : LSt U))) ∧ ((((Edit.kind e) : Int) == 1) = false → ((((Edit.kind e) : Int) == 2) = true → (pre123 ((Edit.words e), ())) ∧ ((wordsOk (-1) (Edit.words e)) = true → InR ((d : Int) - 1)) ∧ ((wordsOk (-1) (Edit.words e)) = true → pre124 ((Edit.kids e), ((d : Int) - 1), ())) ∧ ((wordsOk (-1) (Edit.words e)) = true → mu124 ((Edit.kids e), ((d : Int) - 1), ()) < N) ∧ (Q .ret (⟨[(4, .c (.bool (bif (wordsOk (-1) (Edit.words e)) then (rightKs (-1) (Edit.kids e) ((d : Int) - 1)) else false)))], [], []⟩ : LSt U))) ∧ ((((Edit.kind e) : Int) == 2) = false → ((((Edit.kind e) : Int) == 3) = true → (pre92 ((Edit.list e), ())) ∧ ((decide (2 ≤ (Edit.list e) ∧ (Edit.list e) ≤ 9)) = true → InR ((d : Int) - 1)) ∧ ((decide (2 ≤ (Edit.list e) ∧ (Edit.list e) ≤ 9)) = true → pre125 (y_1, ((d : Int) - 1), ())) ∧ ((decide (2 ≤ (Edit.list e) ∧ (Edit.list e) ≤ 9)) = true → mu125 (y_1, ((d : Int) - 1), ()) < N) ∧ (Q .ret (⟨[(4, .c (.bool (bif (decide (2 ≤ (Edit.list e) ∧ (Edit.list e) ≤ 9)) then (rightOs (Edit.list y_1) (Edit.ops y_1) ((d : Int) - 1) && decide (lenA (Edit.ops y_1) 0 < 1048576 ∧ lenB (Edit.ops y_1) 0 < 1048576)) else false)))], [], []⟩ : LSt U))) ∧ ((((Edit.kind e) : Int) == 3) = false → Q .ret (⟨[(4, .c (.bool false))], [], []⟩ : LSt U)))))))) :
    W89 N e d Q := by
  have e_ : (W89 N e d Q) = (let y_1 := (reEdit e); let y_2 := (reTree (Edit.new e)); let y_3 := (reTree (Edit.old e)); let zz1 := (decide (Tree.kind y_3 ≠ 10) && rightT y_3 64); let zz0 := (decide (2 ≤ (Edit.list e) ∧ (Edit.list e) ≤ 9)); ((pre121 (y_1, ())) ∧ (TrKG20z ((!(!(bareE y_1))) = true)) ∧ (((!(bareE y_1)) = false → (!(!(bareE y_1))) = true)) ∧ (((bif (!(bareE y_1)) then true else ((d : Int) == 0)) = true → (Q .ret (⟨[(4, .c (.bool false))], [], []⟩ : LSt U))) ∧ ((bif (!(bareE y_1)) then true else ((d : Int) == 0)) = false → (((((Edit.kind e) == 0) = true → (Q .ret (⟨[(4, .c (.bool true))], [], []⟩ : LSt U))) ∧ (((Edit.kind e) == 0) = false → ((((Edit.kind e) == 1) = true → (pre122 (y_3, ())) ∧ (TrKG20z ((zz1) = true)) ∧ (TrKG20z ((zz1) = true)) ∧ ((zz1) = true → pre122 (y_2, ())) ∧ ((TrKG20z ((zz1) = true))) ∧ (Q .ret (⟨[(4, .c (.bool (bif zz1 then (decide (Tree.kind y_2 ≠ 10) && rightT y_2 64) else false)))], [], []⟩ : LSt U))) ∧ (((Edit.kind e) == 1) = false → ((((Edit.kind e) == 2) = true → (pre123 ((Edit.words e), ())) ∧ (TrKG20z ((wordsOk (-1) (Edit.words e)) = true)) ∧ (TrKG20z ((wordsOk (-1) (Edit.words e)) = true)) ∧ ((wordsOk (-1) (Edit.words e)) = true → InR ((d : Int) - 1)) ∧ (TrKG20z ((wordsOk (-1) (Edit.words e)) = true)) ∧ (TrKG20z ((wordsOk (-1) (Edit.words e)) = true)) ∧ ((wordsOk (-1) (Edit.words e)) = true → pre124 ((Edit.kids e), ((d : Int) - 1), ())) ∧ ((wordsOk (-1) (Edit.words e)) = true → mu124 ((Edit.kids e), ((d : Int) - 1), ()) < N) ∧ ((TrKG20z ((wordsOk (-1) (Edit.words e)) = true))) ∧ (Q .ret (⟨[(4, .c (.bool (bif (wordsOk (-1) (Edit.words e)) then (rightKs (-1) (Edit.kids e) ((d : Int) - 1)) else false)))], [], []⟩ : LSt U))) ∧ (((Edit.kind e) == 2) = false → ((((Edit.kind e) == 3) = true → (pre92 ((Edit.list e), ())) ∧ (TrKG20z (zz0 = true)) ∧ (zz0 = true → InR ((d : Int) - 1)) ∧ (TrKG20z (zz0 = true)) ∧ (TrKG20z (zz0 = true)) ∧ (zz0 = true → pre125 (y_1, ((d : Int) - 1), ())) ∧ (zz0 = true → mu125 (y_1, ((d : Int) - 1), ()) < N) ∧ ((TrKG20z (zz0 = true))) ∧ (Q .ret (⟨[(4, .c (.bool (bif zz0 then (rightOs (Edit.list y_1) (Edit.ops y_1) ((d : Int) - 1) && decide (lenA (Edit.ops y_1) 0 < 1048576 ∧ lenB (Edit.ops y_1) 0 < 1048576)) else false)))], [], []⟩ : LSt U))) ∧ (((Edit.kind e) == 3) = false → (Q .ret (⟨[(4, .c (.bool false))], [], []⟩ : LSt U))))))))))))))) := by kernel_rfl
  exact e_.mpr (by intro y_1 y_2 y_3; have hh := h y_1 (reEdit_eq _) y_2 (reTree_eq _) y_3 (reTree_eq _); exact ⟨hh.1, id, (by generalize (bareE y_1) = b0; revert b0; decide), ⟨fun c_1 => (hh.2.1 c_1), fun c_1 => ⟨fun c_2 => ((hh.2.2 c_1).1 c_2), fun c_2 => ⟨fun c_3 => ⟨(((hh.2.2 c_1).2 c_2).1 c_3).1, id, id, (((hh.2.2 c_1).2 c_2).1 c_3).2.1, (by generalize (decide (Tree.kind y_3 ≠ 10)) = b0; generalize (rightT y_3 64) = b1; revert b0 b1; decide), (((hh.2.2 c_1).2 c_2).1 c_3).2.2⟩, fun c_3 => ⟨fun c_4 => ⟨((((hh.2.2 c_1).2 c_2).2 c_3).1 c_4).1, id, id, ((((hh.2.2 c_1).2 c_2).2 c_3).1 c_4).2.1, id, id, ((((hh.2.2 c_1).2 c_2).2 c_3).1 c_4).2.2.1, ((((hh.2.2 c_1).2 c_2).2 c_3).1 c_4).2.2.2.1, (by generalize (wordsOk (-1) (Edit.words e)) = b0; revert b0; decide), ((((hh.2.2 c_1).2 c_2).2 c_3).1 c_4).2.2.2.2⟩, fun c_4 => ⟨fun c_5 => ⟨(((((hh.2.2 c_1).2 c_2).2 c_3).2 c_4).1 c_5).1, id, (((((hh.2.2 c_1).2 c_2).2 c_3).2 c_4).1 c_5).2.1, id, id, (((((hh.2.2 c_1).2 c_2).2 c_3).2 c_4).1 c_5).2.2.1, (((((hh.2.2 c_1).2 c_2).2 c_3).2 c_4).1 c_5).2.2.2.1, (by generalize (decide (2 ≤ (Edit.list e) ∧ (Edit.list e) ≤ 9)) = b0; revert b0; decide), (((((hh.2.2 c_1).2 c_2).2 c_3).2 c_4).1 c_5).2.2.2.2⟩, fun c_5 => (((((hh.2.2 c_1).2 c_2).2 c_3).2 c_4).2 c_5)⟩⟩⟩⟩⟩⟩)
def Body89 (N : Nat) (e : Edit) (d : Int)  : Prop := awp cfg (know (know89 N)) (drawOk cfg (know (know89 N))) Try.f89.ntmps lv89 (cd Try.f89 []) (entry (args89.can (e, d, ())) []) (EndsQ cfg Try.f89.ntmps Try.f89.results.toList (res89 (e, d, ())) [])
abbrev HB89 : Prop := ∀ (N : Nat) (e : Edit) (d : Int) (_ : Unit), pre89 (e, d, ()) → mu89 (e, d, ()) < N + 1 → Body89 N e d
noncomputable def know124 (N : Nat) : List (FuncId × Fs U) := (89, fs args89 (fun a => [pre89 a, mu89 a < N]) res89) :: (124, fs args124 (fun a => [pre124 a, mu124 a < N]) res124) :: (125, fs args125 (fun a => [pre125 a, mu125 a < N]) res125) :: (168, fs args168 (fun a => [pre168 a, mu168 a < N]) res168) :: [(121, spec121), (122, spec122), (123, spec123), (92, spec92), (184, spec184), (187, spec187), (164, spec164)]
def lv124 : Lives U := fun i => match i with
  | 0 => ([(0, []), (1, [])], [])
  | 1 => ([(0, []), (1, []), (7, []), (8, []), (9, [])], [])
  | 2 => ([(0, []), (1, []), (7, []), (8, []), (9, []), (10, [])], [])
  | 3 => ([(0, []), (1, []), (5, []), (6, []), (7, []), (8, []), (9, [])], [((.loc 6), [])])
  | 4 => ([(0, []), (1, []), (7, []), (8, []), (9, []), (49, [])], [])
  | 5 => ([(4, [])], [])
  | 6 => ([(0, []), (1, []), (7, []), (8, []), (9, [])], [])
  | 7 => ([(4, [])], [])
  | _ => ([], [])
def head124_0 (l : List Kid) (d : Int) (x9 : Int) : LSt U := (⟨[(0, .c (.slice (U := U) .kid l .unk)), (1, .c (.int .i64 d)), (7, .c (.slice (U := U) .kid l .unk)), (8, .c (.int .i64 (l.length : Int))), (9, .c (.int .i64 x9))], [], []⟩ : LSt U)
abbrev W124 (N : Nat) (l : List Kid) (d : Int) (Q : AExit → LSt U → Prop) := awp cfg (know (know124 N)) (drawOk cfg (know (know124 N))) Try.f124.ntmps lv124 (cd Try.f124 []) (⟨[(0, .c (.slice (U := U) .kid l .unk)), (1, .c (.int .i64 d))], [], []⟩ : LSt U) Q
abbrev a124_KG20z (N : Nat) := awp cfg (know (know124 N)) (drawOk cfg (know (know124 N))) Try.f124.ntmps lv124
abbrev s124_KG20z (N : Nat) := seqK cfg (know (know124 N)) (drawOk cfg (know (know124 N))) Try.f124.ntmps lv124
theorem vc124 (N : Nat) (l : List Kid) (d : Int) (Q : AExit → LSt U → Prop) (h : LoopWp (awp cfg (know (know124 N)) (drawOk cfg (know (know124 N))) Try.f124.ntmps lv124 (cd Try.f124 [1, 0, 1, 0, 0])) (head124_0 l d 0) (AExit.inBlock 0 (seqK cfg (know (know124 N)) (drawOk cfg (know (know124 N))) Try.f124.ntmps lv124 (cd Try.f124 [1, 1]) Q))) :
    W124 N l d Q := by
  have e_ : (W124 N l d Q) = (((LoopWp (a124_KG20z N (cd Try.f124 [1, 0, 1, 0, 0])) (head124_0 l d 0) (AExit.inBlock 0 (s124_KG20z N (cd Try.f124 [1, 1]) Q))))) := by kernel_rfl
  exact e_.mpr h
abbrev W124_l0 (N : Nat) (l : List Kid) (d : Int) (x9 : Int) (N0 : LSt U → Prop) (Q : AExit → LSt U → Prop) := awp cfg (know (know124 N)) (drawOk cfg (know (know124 N))) Try.f124.ntmps lv124 (cd Try.f124 [1, 0, 1, 0, 0]) (head124_0 l d x9) (AExit.then N0 (AExit.inBlock 0 (seqK cfg (know (know124 N)) (drawOk cfg (know (know124 N))) Try.f124.ntmps lv124 (cd Try.f124 [1, 1]) Q)))
theorem vc124_l0 (N : Nat) (l : List Kid) (d : Int) (x9 : Int) (N0 : LSt U → Prop) (Q : AExit → LSt U → Prop) (h : ∀ y_1, y_1 = (List.getD l (Int.toNat x9) (KidOf.mk 0 Edit.nil)) → ∀ y_2, y_2 = (List.getD l (Int.toNat ((x9 : Int) - 1)) (KidOf.mk 0 Edit.nil)) → ∀ y_3, y_3 = ((KidOf.e y_1)) → ((decide ((x9 : Int) < (l.length : Int))) = true → ((0 : Int) ≤ x9 ∧ x9 < (l.length : Int)) ∧ ((((!(bif (decide (((KidOf.at_ y_1) : Int) < 0)) then true else (decide ((65535 : Int) ≤ (KidOf.at_ y_1))))) && (decide ((0 : Int) < x9))) = true → InR ((x9 : Int) - 1)) ∧ (((!(bif (decide (((KidOf.at_ y_1) : Int) < 0)) then true else (decide ((65535 : Int) ≤ (KidOf.at_ y_1))))) && (decide ((0 : Int) < x9))) = true → (0 : Int) ≤ ((x9 : Int) - 1) ∧ ((x9 : Int) - 1) < (l.length : Int)) ∧ ((!(bif (bif (bif (decide (((KidOf.at_ y_1) : Int) < 0)) then true else (decide ((65535 : Int) ≤ (KidOf.at_ y_1)))) then true else (bif (decide ((0 : Int) < x9)) then (decide (((KidOf.at_ y_1) : Int) ≤ (KidOf.at_ y_2))) else false)) then true else (((Edit.kind (KidOf.e y_1)) : Int) == 0))) = true → pre89 (y_3, d, ())) ∧ ((!(bif (bif (bif (decide (((KidOf.at_ y_1) : Int) < 0)) then true else (decide ((65535 : Int) ≤ (KidOf.at_ y_1)))) then true else (bif (decide ((0 : Int) < x9)) then (decide (((KidOf.at_ y_1) : Int) ≤ (KidOf.at_ y_2))) else false)) then true else (((Edit.kind (KidOf.e y_1)) : Int) == 0))) = true → mu89 (y_3, d, ()) < N) ∧ (((bif (bif (bif (bif (decide (((KidOf.at_ y_1) : Int) < 0)) then true else (decide ((65535 : Int) ≤ (KidOf.at_ y_1)))) then true else (bif (decide ((0 : Int) < x9)) then (decide (((KidOf.at_ y_1) : Int) ≤ (KidOf.at_ y_2))) else false)) then true else (((Edit.kind (KidOf.e y_1)) : Int) == 0)) then true else (!(rightE y_3 d))) = true → Q .ret (⟨[(4, .c (.bool false))], [], []⟩ : LSt U)) ∧ ((bif (bif (bif (bif (decide (((KidOf.at_ y_1) : Int) < 0)) then true else (decide ((65535 : Int) ≤ (KidOf.at_ y_1)))) then true else (bif (decide ((0 : Int) < x9)) then (decide (((KidOf.at_ y_1) : Int) ≤ (KidOf.at_ y_2))) else false)) then true else (((Edit.kind (KidOf.e y_1)) : Int) == 0)) then true else (!(rightE y_3 d))) = false → (InR ((x9 : Int) + 1)) ∧ (N0 (head124_0 l d ((x9 : Int) + 1))))))) ∧ ((decide ((x9 : Int) < (l.length : Int))) = false → Q .ret (⟨[(4, .c (.bool true))], [], []⟩ : LSt U))) :
    W124_l0 N l d x9 N0 Q := by
  have e_ : (W124_l0 N l d x9 N0 Q) = (let y_1 := (List.getD l (Int.toNat x9) (KidOf.mk 0 Edit.nil)); let y_2 := (List.getD l (Int.toNat ((x9 : Int) - 1)) (KidOf.mk 0 Edit.nil)); let y_3 := (reEdit (KidOf.e y_1)); let zz4 := (decide ((KidOf.at_ y_1) < 0)); let zz3 := (decide ((0 : Int) < x9)); let zz2 := (((Edit.kind (KidOf.e y_1)) : Int) == 0); let zz1 := (bif zz3 then (decide ((KidOf.at_ y_1) ≤ (KidOf.at_ y_2))) else false); let zz0 := (bif zz4 then true else (decide ((65535 : Int) ≤ (KidOf.at_ y_1)))); (((decide ((x9 : Int) < (l.length : Int))) = true → ((0 : Int) ≤ x9 ∧ x9 < (l.length : Int)) ∧ ((TrKG20z ((!zz4) = true)) ∧ (TrKG20z ((!zz4) = true)) ∧ ((zz4 = false → (!zz4) = true)) ∧ (TrKG20z ((!zz0) = true)) ∧ (TrKG20z ((!zz0) = true)) ∧ (TrKG20z (((!zz0) && zz3) = true)) ∧ (((!zz0) && zz3) = true → InR ((x9 : Int) - 1)) ∧ (TrKG20z (((!zz0) && zz3) = true)) ∧ (TrKG20z (((!zz0) && zz3) = true)) ∧ (((!zz0) && zz3) = true → (0 : Int) ≤ ((x9 : Int) - 1) ∧ ((x9 : Int) - 1) < (l.length : Int)) ∧ (TrKG20z (((!zz0) && zz3) = true)) ∧ (TrKG20z (((!zz0) && zz3) = true)) ∧ (TrKG20z (((!zz0) && zz3) = true)) ∧ (TrKG20z (((!zz0) && zz3) = true)) ∧ (TrKG20z (((!zz0) && zz3) = true)) ∧ ((!zz0) = true → (True → (!zz0) = true)) ∧ ((!zz0) = true → (zz3 = true → ((!zz0) && zz3) = true)) ∧ ((zz0 = false → (!zz0) = true)) ∧ (TrKG20z ((!(bif zz0 then true else zz1)) = true)) ∧ (TrKG20z ((!(bif zz0 then true else zz1)) = true)) ∧ (TrKG20z ((!(bif zz0 then true else zz1)) = true)) ∧ (((bif zz0 then true else zz1) = false → (!(bif zz0 then true else zz1)) = true)) ∧ (TrKG20z ((!(bif (bif zz0 then true else zz1) then true else zz2)) = true)) ∧ (TrKG20z ((!(bif (bif zz0 then true else zz1) then true else zz2)) = true)) ∧ (TrKG20z ((!(bif (bif zz0 then true else zz1) then true else zz2)) = true)) ∧ ((!(bif (bif zz0 then true else zz1) then true else zz2)) = true → pre89 (y_3, d, ())) ∧ ((!(bif (bif zz0 then true else zz1) then true else zz2)) = true → mu89 (y_3, d, ()) < N) ∧ (TrKG20z ((!(bif (bif zz0 then true else zz1) then true else zz2)) = true)) ∧ (((bif (bif zz0 then true else zz1) then true else zz2) = false → (!(bif (bif zz0 then true else zz1) then true else zz2)) = true)) ∧ (((bif (bif (bif zz0 then true else zz1) then true else zz2) then true else (!(rightE y_3 d))) = true → (Q .ret (⟨[(4, .c (.bool false))], [], []⟩ : LSt U))) ∧ ((bif (bif (bif zz0 then true else zz1) then true else zz2) then true else (!(rightE y_3 d))) = false → (InR ((x9 : Int) + 1)) ∧ (N0 (head124_0 l d ((x9 : Int) + 1))))))) ∧ ((decide ((x9 : Int) < (l.length : Int))) = false → (Q .ret (⟨[(4, .c (.bool true))], [], []⟩ : LSt U))))) := by kernel_rfl
  exact e_.mpr (by intro y_1 y_2 y_3; have hh := h y_1 rfl y_2 rfl y_3 (reEdit_eq _); exact ⟨fun c_6 => ⟨(hh.1 c_6).1, ⟨id, id, (by generalize (decide (((KidOf.at_ y_1) : Int) < 0)) = b0; revert b0; decide), id, id, id, (hh.1 c_6).2.1, id, id, (hh.1 c_6).2.2.1, id, id, id, id, id, (by generalize (decide ((65535 : Int) ≤ (KidOf.at_ y_1))) = b0; generalize (decide (((KidOf.at_ y_1) : Int) < 0)) = b1; revert b0 b1; decide), (by generalize (decide ((65535 : Int) ≤ (KidOf.at_ y_1))) = b0; generalize (decide (((KidOf.at_ y_1) : Int) < 0)) = b1; generalize (decide ((0 : Int) < x9)) = b2; revert b0 b1 b2; decide), (by generalize (decide ((65535 : Int) ≤ (KidOf.at_ y_1))) = b0; generalize (decide (((KidOf.at_ y_1) : Int) < 0)) = b1; revert b0 b1; decide), id, id, id, (by generalize (decide (((KidOf.at_ y_1) : Int) ≤ (KidOf.at_ y_2))) = b0; generalize (decide ((65535 : Int) ≤ (KidOf.at_ y_1))) = b1; generalize (decide (((KidOf.at_ y_1) : Int) < 0)) = b2; generalize (decide ((0 : Int) < x9)) = b3; revert b0 b1 b2 b3; decide), id, id, id, (hh.1 c_6).2.2.2.1, (hh.1 c_6).2.2.2.2.1, id, (by generalize (decide (((KidOf.at_ y_1) : Int) ≤ (KidOf.at_ y_2))) = b0; generalize (decide ((65535 : Int) ≤ (KidOf.at_ y_1))) = b1; generalize (((Edit.kind (KidOf.e y_1)) : Int) == 0) = b2; generalize (decide (((KidOf.at_ y_1) : Int) < 0)) = b3; generalize (decide ((0 : Int) < x9)) = b4; revert b0 b1 b2 b3 b4; decide), ⟨fun c_7 => ((hh.1 c_6).2.2.2.2.2.1 c_7), fun c_7 => ⟨((hh.1 c_6).2.2.2.2.2.2 c_7).1, ((hh.1 c_6).2.2.2.2.2.2 c_7).2⟩⟩⟩⟩, fun c_6 => (hh.2 c_6)⟩)
def Body124 (N : Nat) (l : List Kid) (d : Int)  : Prop := awp cfg (know (know124 N)) (drawOk cfg (know (know124 N))) Try.f124.ntmps lv124 (cd Try.f124 []) (entry (args124.can (l, d, ())) []) (EndsQ cfg Try.f124.ntmps Try.f124.results.toList (res124 (l, d, ())) [])
abbrev HB124 : Prop := ∀ (N : Nat) (l : List Kid) (d : Int) (_ : Unit), pre124 (l, d, ()) → mu124 (l, d, ()) < N + 1 → Body124 N l d
noncomputable def know125 (N : Nat) : List (FuncId × Fs U) := (89, fs args89 (fun a => [pre89 a, mu89 a < N]) res89) :: (124, fs args124 (fun a => [pre124 a, mu124 a < N]) res124) :: (125, fs args125 (fun a => [pre125 a, mu125 a < N]) res125) :: (168, fs args168 (fun a => [pre168 a, mu168 a < N]) res168) :: [(121, spec121), (122, spec122), (123, spec123), (92, spec92), (184, spec184), (187, spec187), (164, spec164)]
def lv125 : Lives U := fun i => match i with
  | 0 => ([(1, []), (2, [])], [((.loc 2), [])])
  | 1 => ([(1, []), (2, []), (10, []), (11, []), (12, [])], [((.loc 2), [])])
  | 2 => ([(1, []), (2, []), (10, []), (11, []), (12, []), (13, [])], [((.loc 2), [])])
  | 3 => ([(1, []), (2, []), (6, []), (10, []), (11, []), (12, [])], [((.loc 2), []), ((.loc 6), [])])
  | 4 => ([(1, []), (2, []), (10, []), (11, []), (12, []), (21, [])], [((.loc 2), [])])
  | 5 => ([(4, [])], [])
  | 6 => ([(1, []), (2, []), (10, []), (11, []), (12, [])], [((.loc 2), [])])
  | 7 => ([(7, []), (8, [])], [])
  | 8 => ([(4, [])], [])
  | _ => ([], [])
def head125_0 (e : Edit) (d : Int) (x12 : Int) : LSt U := (⟨[(1, .c (.int .i64 d)), (2, .ptr (.loc 2) 0), (10, .c (.slice (U := U) .op (Edit.ops e) .unk)), (11, .c (.int .i64 ((Edit.ops e).length : Int))), (12, .c (.int .i64 x12))], [((.loc 2), [.int .i64 (Edit.kind e), .int .i64 (Tree.kind (Edit.old e)), .slice (U := U) .u64 (Tree.words (Edit.old e)) .unk, .slice (U := U) .tree (Tree.kids (Edit.old e)) .unk, .int .i64 (Tree.kind (Edit.new e)), .slice (U := U) .u64 (Tree.words (Edit.new e)) .unk, .slice (U := U) .tree (Tree.kids (Edit.new e)) .unk, .slice (U := U) .wedit (Edit.words e) .unk, .slice (U := U) .kid (Edit.kids e) .unk, .int .i64 (Edit.list e), .slice (U := U) .op (Edit.ops e) .unk])], []⟩ : LSt U)
abbrev W125 (N : Nat) (e : Edit) (d : Int) (Q : AExit → LSt U → Prop) := awp cfg (know (know125 N)) (drawOk cfg (know (know125 N))) Try.f125.ntmps lv125 (cd Try.f125 []) (⟨[(0, .agg [.int .i64 (Edit.kind e), .int .i64 (Tree.kind (Edit.old e)), .slice (U := U) .u64 (Tree.words (Edit.old e)) .unk, .slice (U := U) .tree (Tree.kids (Edit.old e)) .unk, .int .i64 (Tree.kind (Edit.new e)), .slice (U := U) .u64 (Tree.words (Edit.new e)) .unk, .slice (U := U) .tree (Tree.kids (Edit.new e)) .unk, .slice (U := U) .wedit (Edit.words e) .unk, .slice (U := U) .kid (Edit.kids e) .unk, .int .i64 (Edit.list e), .slice (U := U) .op (Edit.ops e) .unk]), (1, .c (.int .i64 d))], [], []⟩ : LSt U) Q
abbrev a125_KG20z (N : Nat) := awp cfg (know (know125 N)) (drawOk cfg (know (know125 N))) Try.f125.ntmps lv125
abbrev s125_KG20z (N : Nat) := seqK cfg (know (know125 N)) (drawOk cfg (know (know125 N))) Try.f125.ntmps lv125
theorem vc125 (N : Nat) (e : Edit) (d : Int) (Q : AExit → LSt U → Prop) (h : LoopWp (awp cfg (know (know125 N)) (drawOk cfg (know (know125 N))) Try.f125.ntmps lv125 (cd Try.f125 [1, 0, 1, 0, 0])) (head125_0 e d 0) (AExit.inBlock 0 (seqK cfg (know (know125 N)) (drawOk cfg (know (know125 N))) Try.f125.ntmps lv125 (cd Try.f125 [1, 1]) Q))) :
    W125 N e d Q := by
  have e_ : (W125 N e d Q) = (((LoopWp (a125_KG20z N (cd Try.f125 [1, 0, 1, 0, 0])) (head125_0 e d 0) (AExit.inBlock 0 (s125_KG20z N (cd Try.f125 [1, 1]) Q))))) := by kernel_rfl
  exact e_.mpr h
abbrev W125_l0 (N : Nat) (e : Edit) (d : Int) (x12 : Int) (N0 : LSt U → Prop) (Q : AExit → LSt U → Prop) := awp cfg (know (know125 N)) (drawOk cfg (know (know125 N))) Try.f125.ntmps lv125 (cd Try.f125 [1, 0, 1, 0, 0]) (head125_0 e d x12) (AExit.then N0 (AExit.inBlock 0 (seqK cfg (know (know125 N)) (drawOk cfg (know (know125 N))) Try.f125.ntmps lv125 (cd Try.f125 [1, 1]) Q)))
theorem vc125_l0 (N : Nat) (e : Edit) (d : Int) (x12 : Int) (N0 : LSt U → Prop) (Q : AExit → LSt U → Prop) (h : ∀ y_1, y_1 = (e) → ∀ y_2, y_2 = (List.getD (Edit.ops e) (Int.toNat x12) Op.nil) → ∀ y_3, y_3 = (y_2) → ((decide ((x12 : Int) < ((Edit.ops e).length : Int))) = true → ((0 : Int) ≤ x12 ∧ x12 < ((Edit.ops e).length : Int)) ∧ ((pre168 ((Edit.list e), y_3, d, ())) ∧ (mu168 ((Edit.list e), y_3, d, ()) < N) ∧ (((!(rightOp (Edit.list e) y_3 d)) = true → Q .ret (⟨[(4, .c (.bool false))], [], []⟩ : LSt U)) ∧ ((!(rightOp (Edit.list e) y_3 d)) = false → (InR ((x12 : Int) + 1)) ∧ (N0 (head125_0 e d ((x12 : Int) + 1))))))) ∧ ((decide ((x12 : Int) < ((Edit.ops e).length : Int))) = false → (pre164 (y_1, ())) ∧ (Q .ret (⟨[(4, .c (.bool (bif (decide (((lenAW (Edit.ops y_1) 0) : Int) < 1048576)) then (decide (((lenBW (Edit.ops y_1) 0) : Int) < 1048576)) else false)))], [], []⟩ : LSt U)))) :
    W125_l0 N e d x12 N0 Q := by
  have e_ : (W125_l0 N e d x12 N0 Q) = (let y_1 := (reEdit e); let y_2 := (List.getD (Edit.ops e) (Int.toNat x12) Op.nil); let y_3 := (reOp y_2); let zz0 := (decide (((lenAW (Edit.ops y_1) 0) : Int) < 1048576)); (((decide ((x12 : Int) < ((Edit.ops e).length : Int))) = true → ((0 : Int) ≤ x12 ∧ x12 < ((Edit.ops e).length : Int)) ∧ ((pre168 ((Edit.list e), y_3, d, ())) ∧ (mu168 ((Edit.list e), y_3, d, ()) < N) ∧ (((!(rightOp (Edit.list e) y_3 d)) = true → (Q .ret (⟨[(4, .c (.bool false))], [], []⟩ : LSt U))) ∧ ((!(rightOp (Edit.list e) y_3 d)) = false → (InR ((x12 : Int) + 1)) ∧ (N0 (head125_0 e d ((x12 : Int) + 1))))))) ∧ ((decide ((x12 : Int) < ((Edit.ops e).length : Int))) = false → (pre164 (y_1, ())) ∧ ((TrKG20z (zz0 = true)) ∧ ((TrKG20z (zz0 = true))) ∧ (Q .ret (⟨[(4, .c (.bool (bif zz0 then (decide (((lenBW (Edit.ops y_1) 0) : Int) < 1048576)) else false)))], [], []⟩ : LSt U)))))) := by kernel_rfl
  exact e_.mpr (by intro y_1 y_2 y_3; have hh := h y_1 (reEdit_eq _) y_2 rfl y_3 (reOp_eq _); exact ⟨fun c_8 => ⟨(hh.1 c_8).1, ⟨(hh.1 c_8).2.1, (hh.1 c_8).2.2.1, ⟨fun c_9 => ((hh.1 c_8).2.2.2.1 c_9), fun c_9 => ⟨((hh.1 c_8).2.2.2.2 c_9).1, ((hh.1 c_8).2.2.2.2 c_9).2⟩⟩⟩⟩, fun c_8 => ⟨(hh.2 c_8).1, ⟨id, (by generalize (decide (((lenAW (Edit.ops y_1) 0) : Int) < 1048576)) = b0; revert b0; decide), (hh.2 c_8).2⟩⟩⟩)
def Body125 (N : Nat) (e : Edit) (d : Int)  : Prop := awp cfg (know (know125 N)) (drawOk cfg (know (know125 N))) Try.f125.ntmps lv125 (cd Try.f125 []) (entry (args125.can (e, d, ())) []) (EndsQ cfg Try.f125.ntmps Try.f125.results.toList (res125 (e, d, ())) [])
abbrev HB125 : Prop := ∀ (N : Nat) (e : Edit) (d : Int) (_ : Unit), pre125 (e, d, ()) → mu125 (e, d, ()) < N + 1 → Body125 N e d
noncomputable def know168 (N : Nat) : List (FuncId × Fs U) := (89, fs args89 (fun a => [pre89 a, mu89 a < N]) res89) :: (124, fs args124 (fun a => [pre124 a, mu124 a < N]) res124) :: (125, fs args125 (fun a => [pre125 a, mu125 a < N]) res125) :: (168, fs args168 (fun a => [pre168 a, mu168 a < N]) res168) :: [(121, spec121), (122, spec122), (123, spec123), (92, spec92), (184, spec184), (187, spec187), (164, spec164)]
def lv168 : Lives U := fun i => match i with
  | 0 => ([(2, []), (3, []), (4, [])], [((.loc 3), []), ((.loc 4), [])])
  | 1 => ([(2, []), (3, []), (4, []), (8, [])], [((.loc 3), []), ((.loc 4), [])])
  | 2 => ([(2, []), (3, []), (4, []), (8, []), (9, [])], [((.loc 3), []), ((.loc 4), [])])
  | 3 => ([(2, []), (3, []), (4, []), (8, []), (11, [])], [((.loc 3), []), ((.loc 4), [])])
  | 4 => ([(2, []), (3, []), (4, []), (8, []), (13, [])], [((.loc 3), []), ((.loc 4), [])])
  | 5 => ([(2, []), (3, []), (4, []), (15, [])], [((.loc 3), []), ((.loc 4), [])])
  | 6 => ([(6, [])], [])
  | 7 => ([(6, [])], [])
  | 8 => ([(6, [])], [])
  | 9 => ([(6, [])], [])
  | _ => ([], [])
abbrev W168 (N : Nat) (list : Int) (o : Op) (d : Int) (Q : AExit → LSt U → Prop) := awp cfg (know (know168 N)) (drawOk cfg (know (know168 N))) Try.f168.ntmps lv168 (cd Try.f168 []) (⟨[(0, .c (.int .i64 list)), (1, .agg [.int .i64 (OpOf.kind o), .int .i64 (OpOf.n o), .slice (U := U) .tree (OpOf.l o) .unk, .int .i64 (Edit.kind (OpOf.e o)), .int .i64 (Tree.kind (Edit.old (OpOf.e o))), .slice (U := U) .u64 (Tree.words (Edit.old (OpOf.e o))) .unk, .slice (U := U) .tree (Tree.kids (Edit.old (OpOf.e o))) .unk, .int .i64 (Tree.kind (Edit.new (OpOf.e o))), .slice (U := U) .u64 (Tree.words (Edit.new (OpOf.e o))) .unk, .slice (U := U) .tree (Tree.kids (Edit.new (OpOf.e o))) .unk, .slice (U := U) .wedit (Edit.words (OpOf.e o)) .unk, .slice (U := U) .kid (Edit.kids (OpOf.e o)) .unk, .int .i64 (Edit.list (OpOf.e o)), .slice (U := U) .op (Edit.ops (OpOf.e o)) .unk]), (2, .c (.int .i64 d))], [], []⟩ : LSt U) Q
theorem vc168 (N : Nat) (list : Int) (o : Op) (d : Int) (Q : AExit → LSt U → Prop) (h : ∀ y_1, y_1 = ((OpOf.e o)) → ∀ y_2, y_2 = (.bool (bif (bif (bif (bif (((OpOf.n o) : Int) == 0) then (decide ((0 : Int) < ((OpOf.l o).length : Int))) else false) then (rightE y_1 1) else false) then (((Edit.kind (OpOf.e o)) : Int) == 0) else false) then (!(!(treesOk list (OpOf.l o)))) else false)) → ((((OpOf.kind o) : Int) == 0) = true → ((bif (bif (decide ((1 : Int) ≤ (OpOf.n o))) then (decide (((OpOf.n o) : Int) ≤ 1048576)) else false) then ((((OpOf.l o).length : Int) : Int) == 0) else false) = true → pre89 (y_1, 1, ())) ∧ ((bif (bif (decide ((1 : Int) ≤ (OpOf.n o))) then (decide (((OpOf.n o) : Int) ≤ 1048576)) else false) then ((((OpOf.l o).length : Int) : Int) == 0) else false) = true → mu89 (y_1, 1, ()) < N) ∧ (Q .ret (⟨[(6, .c (.bool (bif (bif (bif (bif (decide ((1 : Int) ≤ (OpOf.n o))) then (decide (((OpOf.n o) : Int) ≤ 1048576)) else false) then ((((OpOf.l o).length : Int) : Int) == 0) else false) then (rightE y_1 1) else false) then (((Edit.kind (OpOf.e o)) : Int) == 0) else false)))], [], []⟩ : LSt U))) ∧ ((((OpOf.kind o) : Int) == 0) = false → ((((OpOf.kind o) : Int) == 1) = true → ((bif (((OpOf.n o) : Int) == 0) then (decide ((0 : Int) < ((OpOf.l o).length : Int))) else false) = true → pre89 (y_1, 1, ())) ∧ ((bif (((OpOf.n o) : Int) == 0) then (decide ((0 : Int) < ((OpOf.l o).length : Int))) else false) = true → mu89 (y_1, 1, ()) < N) ∧ ((bif (bif (bif (((OpOf.n o) : Int) == 0) then (decide ((0 : Int) < ((OpOf.l o).length : Int))) else false) then (rightE y_1 1) else false) then (((Edit.kind (OpOf.e o)) : Int) == 0) else false) = true → pre184 ((OpOf.l o), (list, ()), ())) ∧ (Q .ret (⟨[(6, .c y_2)], [], []⟩ : LSt U))) ∧ ((((OpOf.kind o) : Int) == 1) = false → ((((OpOf.kind o) : Int) == 2) = true → ((bif (((OpOf.n o) : Int) == 0) then (decide ((0 : Int) < ((OpOf.l o).length : Int))) else false) = true → pre89 (y_1, 1, ())) ∧ ((bif (((OpOf.n o) : Int) == 0) then (decide ((0 : Int) < ((OpOf.l o).length : Int))) else false) = true → mu89 (y_1, 1, ()) < N) ∧ ((bif (bif (bif (((OpOf.n o) : Int) == 0) then (decide ((0 : Int) < ((OpOf.l o).length : Int))) else false) then (rightE y_1 1) else false) then (((Edit.kind (OpOf.e o)) : Int) == 0) else false) = true → pre184 ((OpOf.l o), (list, ()), ())) ∧ (Q .ret (⟨[(6, .c y_2)], [], []⟩ : LSt U))) ∧ ((((OpOf.kind o) : Int) == 2) = false → ((((OpOf.kind o) : Int) == 3) = true → ((bif (((OpOf.n o) : Int) == 0) then ((((OpOf.l o).length : Int) : Int) == 0) else false) = true → pre187 (list, y_1, ())) ∧ ((bif (bif (((OpOf.n o) : Int) == 0) then ((((OpOf.l o).length : Int) : Int) == 0) else false) then (withinB list y_1) else false) = true → pre89 (y_1, d, ())) ∧ ((bif (bif (((OpOf.n o) : Int) == 0) then ((((OpOf.l o).length : Int) : Int) == 0) else false) then (withinB list y_1) else false) = true → mu89 (y_1, d, ()) < N) ∧ (Q .ret (⟨[(6, .c (.bool (bif (bif (bif (((OpOf.n o) : Int) == 0) then ((((OpOf.l o).length : Int) : Int) == 0) else false) then (withinB list y_1) else false) then (rightE y_1 d) else false)))], [], []⟩ : LSt U))) ∧ ((((OpOf.kind o) : Int) == 3) = false → Q .ret (⟨[(6, .c (.bool false))], [], []⟩ : LSt U)))))) :
    W168 N list o d Q := by
  have e_ : (W168 N list o d Q) = (let y_1 := (reEdit (OpOf.e o)); let y_2 := (.bool (bif (bif (bif (bif ((OpOf.n o) == 0) then (decide ((0 : Int) < ((OpOf.l o).length : Int))) else false) then (rightE y_1 1) else false) then (((Edit.kind (OpOf.e o)) : Int) == 0) else false) then (!(!(treesOk list (OpOf.l o)))) else false)); let zz5 := (decide ((1 : Int) ≤ (OpOf.n o))); let zz4 := (bif zz5 then (decide ((OpOf.n o) ≤ 1048576)) else false); let zz3 := (((Edit.kind (OpOf.e o)) : Int) == 0); let zz2 := (bif ((OpOf.n o) == 0) then (((OpOf.l o).length : Int) == 0) else false); let zz1 := (bif zz4 then (((OpOf.l o).length : Int) == 0) else false); let zz0 := (bif ((OpOf.n o) == 0) then (decide ((0 : Int) < ((OpOf.l o).length : Int))) else false); ((((((OpOf.kind o) == 0) = true → (TrKG20z (zz5 = true)) ∧ (TrKG20z (zz5 = true)) ∧ ((TrKG20z (zz5 = true))) ∧ (TrKG20z (zz4 = true)) ∧ (TrKG20z (zz4 = true)) ∧ (TrKG20z (zz4 = true)) ∧ ((TrKG20z (zz4 = true))) ∧ (TrKG20z (zz1 = true)) ∧ (TrKG20z (zz1 = true)) ∧ (zz1 = true → pre89 (y_1, 1, ())) ∧ (zz1 = true → mu89 (y_1, 1, ()) < N) ∧ ((TrKG20z (zz1 = true))) ∧ (TrKG20z ((bif zz1 then (rightE y_1 1) else false) = true)) ∧ (TrKG20z ((bif zz1 then (rightE y_1 1) else false) = true)) ∧ (TrKG20z ((bif zz1 then (rightE y_1 1) else false) = true)) ∧ ((TrKG20z ((bif zz1 then (rightE y_1 1) else false) = true))) ∧ (Q .ret (⟨[(6, .c (.bool (bif (bif zz1 then (rightE y_1 1) else false) then zz3 else false)))], [], []⟩ : LSt U))) ∧ (((OpOf.kind o) == 0) = false → ((((OpOf.kind o) == 1) = true → (TrKG20z (((OpOf.n o) == 0) = true)) ∧ (TrKG20z (((OpOf.n o) == 0) = true)) ∧ (TrKG20z (((OpOf.n o) == 0) = true)) ∧ ((TrKG20z (((OpOf.n o) == 0) = true))) ∧ (TrKG20z (zz0 = true)) ∧ (TrKG20z (zz0 = true)) ∧ (zz0 = true → pre89 (y_1, 1, ())) ∧ (zz0 = true → mu89 (y_1, 1, ()) < N) ∧ ((TrKG20z (zz0 = true))) ∧ (TrKG20z ((bif zz0 then (rightE y_1 1) else false) = true)) ∧ (TrKG20z ((bif zz0 then (rightE y_1 1) else false) = true)) ∧ (TrKG20z ((bif zz0 then (rightE y_1 1) else false) = true)) ∧ ((TrKG20z ((bif zz0 then (rightE y_1 1) else false) = true))) ∧ (TrKG20z ((bif (bif zz0 then (rightE y_1 1) else false) then zz3 else false) = true)) ∧ (TrKG20z ((bif (bif zz0 then (rightE y_1 1) else false) then zz3 else false) = true)) ∧ (TrKG20z ((bif (bif zz0 then (rightE y_1 1) else false) then zz3 else false) = true)) ∧ ((bif (bif zz0 then (rightE y_1 1) else false) then zz3 else false) = true → pre184 ((OpOf.l o), (list, ()), ())) ∧ (TrKG20z ((bif (bif zz0 then (rightE y_1 1) else false) then zz3 else false) = true)) ∧ ((TrKG20z ((bif (bif zz0 then (rightE y_1 1) else false) then zz3 else false) = true))) ∧ (Q .ret (⟨[(6, .c y_2)], [], []⟩ : LSt U))) ∧ (((OpOf.kind o) == 1) = false → ((((OpOf.kind o) == 2) = true → (TrKG20z (((OpOf.n o) == 0) = true)) ∧ (TrKG20z (((OpOf.n o) == 0) = true)) ∧ (TrKG20z (((OpOf.n o) == 0) = true)) ∧ ((TrKG20z (((OpOf.n o) == 0) = true))) ∧ (TrKG20z (zz0 = true)) ∧ (TrKG20z (zz0 = true)) ∧ (zz0 = true → pre89 (y_1, 1, ())) ∧ (zz0 = true → mu89 (y_1, 1, ()) < N) ∧ ((TrKG20z (zz0 = true))) ∧ (TrKG20z ((bif zz0 then (rightE y_1 1) else false) = true)) ∧ (TrKG20z ((bif zz0 then (rightE y_1 1) else false) = true)) ∧ (TrKG20z ((bif zz0 then (rightE y_1 1) else false) = true)) ∧ ((TrKG20z ((bif zz0 then (rightE y_1 1) else false) = true))) ∧ (TrKG20z ((bif (bif zz0 then (rightE y_1 1) else false) then zz3 else false) = true)) ∧ (TrKG20z ((bif (bif zz0 then (rightE y_1 1) else false) then zz3 else false) = true)) ∧ (TrKG20z ((bif (bif zz0 then (rightE y_1 1) else false) then zz3 else false) = true)) ∧ ((bif (bif zz0 then (rightE y_1 1) else false) then zz3 else false) = true → pre184 ((OpOf.l o), (list, ()), ())) ∧ (TrKG20z ((bif (bif zz0 then (rightE y_1 1) else false) then zz3 else false) = true)) ∧ ((TrKG20z ((bif (bif zz0 then (rightE y_1 1) else false) then zz3 else false) = true))) ∧ (Q .ret (⟨[(6, .c y_2)], [], []⟩ : LSt U))) ∧ (((OpOf.kind o) == 2) = false → ((((OpOf.kind o) == 3) = true → (TrKG20z (((OpOf.n o) == 0) = true)) ∧ (TrKG20z (((OpOf.n o) == 0) = true)) ∧ (TrKG20z (((OpOf.n o) == 0) = true)) ∧ ((TrKG20z (((OpOf.n o) == 0) = true))) ∧ (TrKG20z (zz2 = true)) ∧ (TrKG20z (zz2 = true)) ∧ (TrKG20z (zz2 = true)) ∧ (zz2 = true → pre187 (list, y_1, ())) ∧ ((TrKG20z (zz2 = true))) ∧ (TrKG20z ((bif zz2 then (withinB list y_1) else false) = true)) ∧ (TrKG20z ((bif zz2 then (withinB list y_1) else false) = true)) ∧ (TrKG20z ((bif zz2 then (withinB list y_1) else false) = true)) ∧ ((bif zz2 then (withinB list y_1) else false) = true → pre89 (y_1, d, ())) ∧ ((bif zz2 then (withinB list y_1) else false) = true → mu89 (y_1, d, ()) < N) ∧ ((TrKG20z ((bif zz2 then (withinB list y_1) else false) = true))) ∧ (Q .ret (⟨[(6, .c (.bool (bif (bif zz2 then (withinB list y_1) else false) then (rightE y_1 d) else false)))], [], []⟩ : LSt U))) ∧ (((OpOf.kind o) == 3) = false → (Q .ret (⟨[(6, .c (.bool false))], [], []⟩ : LSt U))))))))))))) := by kernel_rfl
  exact e_.mpr (by intro y_1 y_2; have hh := h y_1 (reEdit_eq _) y_2 rfl; exact ⟨fun c_10 => ⟨id, id, (by generalize (decide ((1 : Int) ≤ (OpOf.n o))) = b0; revert b0; decide), id, id, id, (by generalize (decide (((OpOf.n o) : Int) ≤ 1048576)) = b0; generalize (decide ((1 : Int) ≤ (OpOf.n o))) = b1; revert b0 b1; decide), id, id, (hh.1 c_10).1, (hh.1 c_10).2.1, (by generalize ((((OpOf.l o).length : Int) : Int) == 0) = b0; generalize (decide (((OpOf.n o) : Int) ≤ 1048576)) = b1; generalize (decide ((1 : Int) ≤ (OpOf.n o))) = b2; revert b0 b1 b2; decide), id, id, id, (by generalize (rightE y_1 1) = b0; generalize ((((OpOf.l o).length : Int) : Int) == 0) = b1; generalize (decide (((OpOf.n o) : Int) ≤ 1048576)) = b2; generalize (decide ((1 : Int) ≤ (OpOf.n o))) = b3; revert b0 b1 b2 b3; decide), (hh.1 c_10).2.2⟩, fun c_10 => ⟨fun c_11 => ⟨id, id, id, (by generalize (((OpOf.n o) : Int) == 0) = b0; revert b0; decide), id, id, ((hh.2 c_10).1 c_11).1, ((hh.2 c_10).1 c_11).2.1, (by generalize (decide ((0 : Int) < ((OpOf.l o).length : Int))) = b0; generalize (((OpOf.n o) : Int) == 0) = b1; revert b0 b1; decide), id, id, id, (by generalize (rightE y_1 1) = b0; generalize (decide ((0 : Int) < ((OpOf.l o).length : Int))) = b1; generalize (((OpOf.n o) : Int) == 0) = b2; revert b0 b1 b2; decide), id, id, id, ((hh.2 c_10).1 c_11).2.2.1, id, (by generalize (rightE y_1 1) = b0; generalize (decide ((0 : Int) < ((OpOf.l o).length : Int))) = b1; generalize (((Edit.kind (OpOf.e o)) : Int) == 0) = b2; generalize (((OpOf.n o) : Int) == 0) = b3; revert b0 b1 b2 b3; decide), ((hh.2 c_10).1 c_11).2.2.2⟩, fun c_11 => ⟨fun c_12 => ⟨id, id, id, (by generalize (((OpOf.n o) : Int) == 0) = b0; revert b0; decide), id, id, (((hh.2 c_10).2 c_11).1 c_12).1, (((hh.2 c_10).2 c_11).1 c_12).2.1, (by generalize (decide ((0 : Int) < ((OpOf.l o).length : Int))) = b0; generalize (((OpOf.n o) : Int) == 0) = b1; revert b0 b1; decide), id, id, id, (by generalize (rightE y_1 1) = b0; generalize (decide ((0 : Int) < ((OpOf.l o).length : Int))) = b1; generalize (((OpOf.n o) : Int) == 0) = b2; revert b0 b1 b2; decide), id, id, id, (((hh.2 c_10).2 c_11).1 c_12).2.2.1, id, (by generalize (rightE y_1 1) = b0; generalize (decide ((0 : Int) < ((OpOf.l o).length : Int))) = b1; generalize (((Edit.kind (OpOf.e o)) : Int) == 0) = b2; generalize (((OpOf.n o) : Int) == 0) = b3; revert b0 b1 b2 b3; decide), (((hh.2 c_10).2 c_11).1 c_12).2.2.2⟩, fun c_12 => ⟨fun c_13 => ⟨id, id, id, (by generalize (((OpOf.n o) : Int) == 0) = b0; revert b0; decide), id, id, id, ((((hh.2 c_10).2 c_11).2 c_12).1 c_13).1, (by generalize ((((OpOf.l o).length : Int) : Int) == 0) = b0; generalize (((OpOf.n o) : Int) == 0) = b1; revert b0 b1; decide), id, id, id, ((((hh.2 c_10).2 c_11).2 c_12).1 c_13).2.1, ((((hh.2 c_10).2 c_11).2 c_12).1 c_13).2.2.1, (by generalize (withinB list y_1) = b0; generalize ((((OpOf.l o).length : Int) : Int) == 0) = b1; generalize (((OpOf.n o) : Int) == 0) = b2; revert b0 b1 b2; decide), ((((hh.2 c_10).2 c_11).2 c_12).1 c_13).2.2.2⟩, fun c_13 => ((((hh.2 c_10).2 c_11).2 c_12).2 c_13)⟩⟩⟩⟩)
def Body168 (N : Nat) (list : Int) (o : Op) (d : Int)  : Prop := awp cfg (know (know168 N)) (drawOk cfg (know (know168 N))) Try.f168.ntmps lv168 (cd Try.f168 []) (entry (args168.can (list, o, d, ())) []) (EndsQ cfg Try.f168.ntmps Try.f168.results.toList (res168 (list, o, d, ())) [])
abbrev HB168 : Prop := ∀ (N : Nat) (list : Int) (o : Op) (d : Int) (_ : Unit), pre168 (list, o, d, ()) → mu168 (list, o, d, ()) < N + 1 → Body168 N list o d
noncomputable def know52 : List (FuncId × Fs U) := [(89, spec89)]
def lv52 : Lives U := fun i => match i with
  | 0 => ([(1, [])], [((.loc 1), [])])
  | 1 => ([(2, [])], [])
  | _ => ([], [])
abbrev W52 (e : Edit) (Q : AExit → LSt U → Prop) := awp cfg (know know52) (drawOk cfg (know know52)) Try.f52.ntmps lv52 (cd Try.f52 []) (⟨[(0, .agg [.int .i64 (Edit.kind e), .int .i64 (Tree.kind (Edit.old e)), .slice (U := U) .u64 (Tree.words (Edit.old e)) .unk, .slice (U := U) .tree (Tree.kids (Edit.old e)) .unk, .int .i64 (Tree.kind (Edit.new e)), .slice (U := U) .u64 (Tree.words (Edit.new e)) .unk, .slice (U := U) .tree (Tree.kids (Edit.new e)) .unk, .slice (U := U) .wedit (Edit.words e) .unk, .slice (U := U) .kid (Edit.kids e) .unk, .int .i64 (Edit.list e), .slice (U := U) .op (Edit.ops e) .unk])], [], []⟩ : LSt U) Q
theorem vc52 (e : Edit) (Q : AExit → LSt U → Prop) (h : (pre89 ((Edit.mk (Edit.kind e) (Tree.mk (Tree.kind (Edit.old e)) (Tree.words (Edit.old e)) (Tree.kids (Edit.old e))) (Tree.mk (Tree.kind (Edit.new e)) (Tree.words (Edit.new e)) (Tree.kids (Edit.new e))) (Edit.words e) (Edit.kids e) (Edit.list e) (Edit.ops e)), 64, ())) ∧ (Q .ret (⟨[(2, .c (.bool (rightE (Edit.mk (Edit.kind e) (Tree.mk (Tree.kind (Edit.old e)) (Tree.words (Edit.old e)) (Tree.kids (Edit.old e))) (Tree.mk (Tree.kind (Edit.new e)) (Tree.words (Edit.new e)) (Tree.kids (Edit.new e))) (Edit.words e) (Edit.kids e) (Edit.list e) (Edit.ops e)) 64)))], [], []⟩ : LSt U))) :
    W52 e Q := by
  have e_ : (W52 e Q) = (type_of% h) := by kernel_rfl
  exact e_.mpr ⟨h.1, h.2⟩
def Body52 (e : Edit)  : Prop := awp cfg (know (know52)) (drawOk cfg (know (know52))) Try.f52.ntmps lv52 (cd Try.f52 []) (entry (args52.can (e, ())) []) (EndsQ cfg Try.f52.ntmps Try.f52.results.toList (res52 (e, ())) [])
theorem make52 (c89 : Contract Try.prog cfg 89 spec89) (hb : ∀ (e : Edit) (_ : Unit), pre52 (e, ()) → Body52 e) : Contract Try.prog cfg 52 spec52 :=
  contract_flat (l := [(89, spec89)]) cfgOk rfl (⟨c89, trivial⟩) lv52 Try.func52 rfl rfl 1 (fun _ => rfl) (by decide) (fun ⟨e, _⟩ => hb e ())
theorem make89_ (c121 : Contract Try.prog cfg 121 spec121) (c122 : Contract Try.prog cfg 122 spec122) (c123 : Contract Try.prog cfg 123 spec123) (c92 : Contract Try.prog cfg 92 spec92) (c184 : Contract Try.prog cfg 184 spec184) (c187 : Contract Try.prog cfg 187 spec187) (c164 : Contract Try.prog cfg 164 spec164) (b89 : HB89) (b124 : HB124) (b125 : HB125) (b168 : HB168) :
    Contract Try.prog cfg 89 spec89 ∧ Contract Try.prog cfg 124 spec124 ∧ Contract Try.prog cfg 125 spec125 ∧ Contract Try.prog cfg 168 spec168 := by
  have h87 : ∃ fn, Try.prog.funcs[(89 : FuncId)]? = some fn ∧ fn.body.isSome = true ∧ (fn.name == "runtime.NumGoroutine") = false := ⟨Try.f89, Try.func89, rfl, rfl⟩
  have h121 : ∃ fn, Try.prog.funcs[(124 : FuncId)]? = some fn ∧ fn.body.isSome = true ∧ (fn.name == "runtime.NumGoroutine") = false := ⟨Try.f124, Try.func124, rfl, rfl⟩
  have h122 : ∃ fn, Try.prog.funcs[(125 : FuncId)]? = some fn ∧ fn.body.isSome = true ∧ (fn.name == "runtime.NumGoroutine") = false := ⟨Try.f125, Try.func125, rfl, rfl⟩
  have h132 : ∃ fn, Try.prog.funcs[(168 : FuncId)]? = some fn ∧ fn.body.isSome = true ∧ (fn.name == "runtime.NumGoroutine") = false := ⟨Try.f168, Try.func168, rfl, rfl⟩
  have key : ∀ N, Contract Try.prog cfg 89 (fs args89 (fun a => [pre89 a, mu89 a < N]) res89) ∧ Contract Try.prog cfg 124 (fs args124 (fun a => [pre124 a, mu124 a < N]) res124) ∧ Contract Try.prog cfg 125 (fs args125 (fun a => [pre125 a, mu125 a < N]) res125) ∧ Contract Try.prog cfg 168 (fs args168 (fun a => [pre168 a, mu168 a < N]) res168) := by
    intro N
    induction N with
    | zero => exact ⟨fs_zero h87, fs_zero h121, fs_zero h122, fs_zero h132⟩
    | succ N ih =>
      have kn := know_ok (l := know89 N) ⟨ih.1, ih.2.1, ih.2.2.1, ih.2.2.2, c121, c122, c123, c92, c184, c187, c164, trivial⟩
      exact ⟨contract_fs (Γ := know (know89 N)) cfgOk rfl kn lv89 Try.func89 rfl rfl (fun a => by show 2 ≤ _; decide) (fun ⟨e, d, _⟩ h => b89 N e d () h.1 h.2.1),
        contract_fs (Γ := know (know89 N)) cfgOk rfl kn lv124 Try.func124 rfl rfl (fun a => by show 2 ≤ _; decide) (fun ⟨l, d, _⟩ h => b124 N l d () h.1 h.2.1),
        contract_fs (Γ := know (know89 N)) cfgOk rfl kn lv125 Try.func125 rfl rfl (fun a => by show 2 ≤ _; decide) (fun ⟨e, d, _⟩ h => b125 N e d () h.1 h.2.1),
        contract_fs (Γ := know (know89 N)) cfgOk rfl kn lv168 Try.func168 rfl rfl (fun a => by show 3 ≤ _; decide) (fun ⟨list, o, d, _⟩ h => b168 N list o d () h.1 h.2.1)⟩
  exact ⟨fs_less h87 fun N => (key N).1, fs_less h121 fun N => (key N).2.1, fs_less h122 fun N => (key N).2.2.1, fs_less h132 fun N => (key N).2.2.2⟩
end
end Go.AM.Ytpjenobkibfpcaa

namespace Go.AM.Ytpjenobkibfpcaa
open Go.AM Go.Proofs
theorem sameE_iff {e : Edit} : (rightE e 1 = true ∧ e.kind = 0) ↔ sameE e = true := by
  rw [rightE_at]
  simp only [sameE, Bool.and_eq_true, decide_eq_true_eq]
  by_cases hk : e.kind = 0
  · rw [if_neg (by omega)]
    by_cases hb : noneT e.old = true ∧ noneT e.new = true
    · by_cases hw : e.words.length = 0 ∧ e.kids.length = 0
      · by_cases hl : e.list = 0 ∧ e.ops.length = 0
        · have h1 : e.words = [] := List.length_eq_zero_iff.1 hw.1
          have h2 : e.kids = [] := List.length_eq_zero_iff.1 hw.2
          have h3 : e.ops = [] := List.length_eq_zero_iff.1 hl.2
          rw [if_neg (fun h => by rcases h with h | h | h; exact h.2 hb; exact h.2 hw; omega), if_neg (by omega), h1, h2, h3]
          simp only [wordsOk, rightKs, rightOs, lenA, lenB, Bool.true_and, Bool.and_true, Bool.and_eq_true, decide_eq_true_eq]
          refine ⟨fun _ => ⟨⟨⟨hk, hb.1⟩, hb.2⟩, rfl, rfl, rfl, hl.1⟩, fun _ => by simp [hk]⟩
        · rw [if_pos (Or.inr (Or.inr ⟨by omega, by omega⟩))]
          refine ⟨fun h => (nomatch h.1), fun h => absurd ⟨h.2.2.2.2, h.2.2.2.1⟩ hl⟩
      · rw [if_pos (Or.inr (Or.inl ⟨by omega, hw⟩))]
        refine ⟨fun h => (nomatch h.1), fun h => absurd ⟨h.2.1, h.2.2.1⟩ hw⟩
    · rw [if_pos (Or.inl ⟨by omega, hb⟩)]
      refine ⟨fun h => (nomatch h.1), fun h => absurd ⟨h.1.1.2, h.1.2⟩ hb⟩
  · exact ⟨fun h => absurd h.2 hk, fun h => absurd h.1.1.1 hk⟩
theorem b89 : HB89 := by
  intro N e d _ hp hN
  simp only [pre89, mu89] at hp hN
  obtain ⟨⟨hm, hr⟩, hd0, hd1⟩ := hp
  obtain ⟨ik, ro, rn, rw', il, rk, ros⟩ := rngE_at hr
  have hme := len_massE e
  have hkl := massKs_len e.kids
  have hol := massOs_len e.ops
  have hat := rightE_at e d
  rw [dT_nn hd0] at hat
  refine vc89 N e d _ ?_
  rintro y1 hy1 y2 hy2 y3 hy3
  subst hy1 hy2 hy3
  (simp only [vcS])
  have hbare : bareE y1 = true ↔ ¬((y1.kind ≠ 1 ∧ ¬(noneT y1.old = true ∧ noneT y1.new = true)) ∨ (y1.kind ≠ 2 ∧ ¬(y1.words.length = 0 ∧ y1.kids.length = 0)) ∨ (y1.kind ≠ 3 ∧ (y1.list ≠ 0 ∨ y1.ops.length ≠ 0))) := by
    unfold bareE
    split
    · rename_i h; exact ⟨fun h => (nomatch h), fun h2 => absurd h h2⟩
    · rename_i h; exact ⟨fun _ => h, fun _ => rfl⟩
  refine ⟨by simp only [pre121]; omega, fun hc => ends_bool rfl ?_, fun hc => ?_⟩
  · rcases hc with hc | hc
    · rw [hat]
      split
      · rfl
      · rw [if_pos (Classical.byContradiction fun h => by rw [hbare.2 h] at hc; cases hc)]
    · rw [hat, if_pos (Or.inl hc)]
  have hb := hbare.1 hc.1
  have hr2 : ¬(y1.kind = 0 ∨ y1.kind = 1 ∨ y1.kind = 2 ∨ y1.kind = 3) → rightE y1 d = false := fun h => by rw [hat, if_pos (by omega)]
  by_cases hk : y1.kind = 0 ∨ y1.kind = 1 ∨ y1.kind = 2 ∨ y1.kind = 3
  · rw [if_neg (by omega), if_neg hb] at hat
    have hw : y1.kind ≠ 2 → y1.words = [] ∧ y1.kids = [] := by
      intro h
      have : y1.words.length = 0 ∧ y1.kids.length = 0 := Classical.byContradiction fun h2 => hb (Or.inr (Or.inl ⟨h, h2⟩))
      exact ⟨List.length_eq_zero_iff.1 this.1, List.length_eq_zero_iff.1 this.2⟩
    have ho : y1.kind ≠ 3 → y1.list = 0 ∧ y1.ops = [] := by
      intro h
      have : y1.list = 0 ∧ y1.ops.length = 0 := by
        constructor
        · exact Classical.byContradiction fun h2 => hb (Or.inr (Or.inr ⟨h, Or.inl h2⟩))
        · exact Classical.byContradiction fun h2 => hb (Or.inr (Or.inr ⟨h, Or.inr h2⟩))
      exact ⟨this.1, List.length_eq_zero_iff.1 this.2⟩
    refine ⟨fun h0 => ends_bool rfl ?_, fun h0 => ⟨fun h1 => ⟨by simp only [pre122]; exact ⟨by omega, ro⟩, fun _ => by simp only [pre122]; exact ⟨by omega, rn⟩, ends_bool rfl ?_⟩, fun h1 => ⟨fun h2 => ⟨by simp only [pre123]; exact ⟨by omega, rw'⟩, fun _ => by unfold InR; omega, fun _ => by simp only [pre124]; exact ⟨⟨by omega, rk⟩, by omega, by omega⟩, fun _ => by simp only [mu124]; omega, ends_bool rfl ?_⟩, fun h2 => ⟨fun h3 => ⟨trivial, fun _ => by unfold InR; omega, fun hl => by simp only [pre125]; exact ⟨⟨by omega, hr, hl⟩, by omega, by omega⟩, fun _ => by simp only [mu125]; omega, ends_bool rfl ?_⟩, fun h3 => ?_⟩⟩⟩⟩
    · rw [hat, if_neg (by omega), (hw (by omega)).1, (hw (by omega)).2, (ho (by omega)).1, (ho (by omega)).2]
      simp [wordsOk, rightKs, rightOs, lenA, lenB]
      omega
    · rw [hat, if_pos h1, Bool.eq_iff_iff]
      (simp only [vcS])
      exact ⟨fun h => ⟨⟨h.1.2, h.2.2⟩, h.1.1, h.2.1⟩, fun h => ⟨⟨h.2.1, h.1.1⟩, h.2.2, h.1.2⟩⟩
    · rw [hat, if_neg h1, (ho (by omega)).1, (ho (by omega)).2, Bool.eq_iff_iff]
      simp only [rightOs, lenA, lenB]
      (simp only [vcS])
      constructor
      · rintro ⟨a, b⟩
        exact ⟨⟨⟨⟨a, b⟩, by omega⟩, trivial⟩, by decide⟩
      · rintro ⟨⟨⟨⟨a, b⟩, _⟩, _⟩, _⟩
        exact ⟨a, b⟩
    · rw [hat, if_neg h1, (hw (by omega)).1, (hw (by omega)).2, Bool.eq_iff_iff]
      simp only [wordsOk, rightKs]
      (simp only [vcS])
      constructor
      · rintro ⟨a, b, c⟩
        exact ⟨⟨⟨⟨trivial, trivial⟩, by omega⟩, b⟩, c⟩
      · rintro ⟨⟨⟨_, a⟩, b⟩, c⟩
        exact ⟨by omega, b, c⟩
    · omega
  · have he := hr2 hk
    refine ⟨fun h0 => by omega, fun h0 => ⟨fun h1 => by omega, fun h1 => ⟨fun h2 => by omega, fun h2 => ⟨fun h3 => by omega, fun h3 => ends_bool rfl ?_⟩⟩⟩⟩
    rw [he]
theorem b124 : HB124 := by
  intro N l d _ hp hN
  simp only [pre124, mu124] at hp hN
  obtain ⟨⟨hm, hr⟩, hd0, hd1⟩ := hp
  have hl := massKs_len l
  refine vc124 N l d _ ?_
  refine loop_rule (ι := Int) (fun i => head124_0 l d i) (fun i => 0 ≤ i ∧ i ≤ l.length ∧ ∃ last, -1 ≤ last ∧ (i = 0 → last = -1) ∧ (0 < i → last = (l.getD (i - 1).toNat (KidOf.mk 0 Edit.nil)).at_) ∧ rightKs last (l.drop i.toNat) d = rightKs (-1) l d) (fun i => ((l.length : Int) - i).toNat) 0 rfl ⟨by omega, by omega, -1, by omega, fun _ => rfl, fun h => by omega, by simp⟩ ?_
  rintro i ⟨g1, g2, last, g3, g4, g5, g6⟩
  refine vc124_l0 N l d i _ _ ?_
  rintro y1 hy1 y2 hy2 y3 hy3
  (simp only [vcS])
  refine ⟨fun hi => ?_, fun hi => ?_⟩
  · have hmem := mem_getD (l := l) (i := i.toNat) (by omega) (KidOf.mk 0 Edit.nil)
    have hmk := massKs_mem hmem
    have hrk := rngKs_mem hr hmem
    rw [dropI g1 hi (KidOf.mk 0 Edit.nil)] at g6
    rw [← hy1] at g6 hmk hrk
    rw [← hy2] at g5
    rw [← hy3] at hmk hrk
    simp only [rightKs, rightKid_at] at g6
    rw [← hy3] at g6
    have hk : y1.e.kind = y3.kind := by rw [hy3]
    rw [hk]
    have gl : (¬0 < i ∨ ¬y1.at_ ≤ y2.at_) ∧ ¬y1.at_ < 0 ↔ last < y1.at_ ∧ ¬ y1.at_ < 0 := by
      by_cases h0 : 0 < i
      · have := g5 h0; omega
      · have := g4 (by omega); omega
    refine ⟨⟨g1, hi⟩, fun _ => by unfold InR; omega, fun _ => by omega, fun _ => ?_, fun _ => by simp only [mu89]; omega, fun hc => ends_bool rfl ?_, fun hc => ⟨by unfold InR; omega, i + 1, rfl, ⟨by omega, by omega, y1.at_, by omega, fun h => by omega, fun _ => by rw [show (i + 1 - 1).toNat = i.toNat by omega, ← hy1], ?_⟩, by omega⟩⟩
    · simp only [pre89]
      exact ⟨⟨by omega, hrk.2⟩, hd0, hd1⟩
    · rw [← g6]
      by_cases hr : rightE y3 d = true
      · rw [decide_eq_false (fun h => ?_)]
        · rfl
        · rcases hc with hc | hc
          · rcases hc with (hc | hc) | hc
            · omega
            · by_cases h0 : 0 < i
              · have := g5 h0; omega
              · omega
            · exact h.2.2 hc
          · rw [hr] at hc; cases hc
      · simp only [Bool.not_eq_true] at hr
        rw [hr]; simp
    · rw [← g6, hc.2, decide_eq_true (show last < y1.at_ ∧ y1.at_ ≤ 65534 ∧ y3.kind ≠ 0 by
        refine ⟨?_, by omega, hc.1.2⟩
        by_cases h0 : 0 < i
        · have := g5 h0; omega
        · have := g4 (by omega); omega)]
      rfl
  · rw [List.drop_of_length_le (by omega)] at g6
    simp only [res124]
    rw [← g6]
    exact ends_bool rfl rfl
theorem rightOs_every {list d : Int} : ∀ {os : List Op}, (∀ o ∈ os, rightOp list o d = true) → rightOs list os d = true
  | [], _ => rfl
  | o :: r, h => by
    simp only [rightOs, Bool.and_eq_true]
    exact ⟨h o (List.mem_cons_self ..), rightOs_every (fun x hx => h x (List.mem_cons_of_mem _ hx))⟩
theorem b125 : HB125 := by
  intro N e d _ hp hN
  simp only [pre125, mu125] at hp hN
  obtain ⟨⟨hm, hr, hl⟩, hd0, hd1⟩ := hp
  obtain ⟨ik, ro, rn, rw', il, rk, ros⟩ := rngE_at hr
  have hme := len_massE e
  have hol := massOs_len e.ops
  refine vc125 N e d _ ?_
  refine loop_rule (ι := Int) (fun i => head125_0 e d i) (fun i => 0 ≤ i ∧ i ≤ e.ops.length ∧ ∀ o ∈ e.ops.take i.toNat, rightOp e.list o d = true) (fun i => ((e.ops.length : Int) - i).toNat) 0 rfl ⟨by omega, by omega, by simp⟩ ?_
  rintro i ⟨g1, g2, g3⟩
  refine vc125_l0 N e d i _ _ ?_
  rintro y1 hy1 y2 hy2 y3 hy3
  subst hy1 hy3
  (simp only [vcS])
  refine ⟨fun hi => ?_, fun hi => ?_⟩
  · have hmem := mem_getD (l := y1.ops) (i := i.toNat) (by omega) Op.nil
    have hmo := massOs_mem hmem
    have hro := rngOs_mem ros hmem
    rw [← hy2] at hmem hmo hro
    refine ⟨⟨g1, hi⟩, ?_, by simp only [mu168]; omega, fun hc => ends_bool rfl ?_, fun hc => ⟨by unfold InR; omega, i + 1, rfl, ⟨by omega, by omega, fun o ho => ?_⟩, by omega⟩⟩
    · simp only [pre168]
      exact ⟨⟨by omega, hro, hl⟩, hd0, hd1⟩
    · have : rightOs y1.list y1.ops d = false := by
        rw [← Bool.not_eq_true]
        intro h
        have := rightOs_mem h hmem
        rw [hc] at this; cases this
      rw [this, Bool.false_and]
    · rw [show (i + 1).toNat = i.toNat + 1 by omega, List.take_add_one] at ho
      rcases List.mem_append.1 ho with ho | ho
      · exact g3 o ho
      · have e : y1.ops[i.toNat]? = some y3 := by
          rw [hy2]
          simp [List.getD, List.getElem?_eq_getElem (show i.toNat < y1.ops.length by omega)]
        rw [e] at ho
        simp only [Option.toList_some, List.mem_singleton] at ho
        subst ho
        exact hc
  · rw [List.take_of_length_le (by omega)] at g3
    have hall : rightOs y1.list y1.ops d = true := rightOs_every g3
    have hb : ∀ o ∈ y1.ops, (0 ≤ o.n ∧ o.n ≤ 1048576) ∧ o.l.length ≤ 20000000000 := by
      intro o ho
      refine ⟨rightOp_n (g3 o ho), ?_⟩
      have h1 := massOs_mem ho
      rw [massOp_e] at h1
      have h2 := massK_len o.l
      omega
    refine ⟨by simp only [pre164]; omega, ends_bool rfl ?_⟩
    rw [lenAW_eq _ _ hb (by decide) (by decide), lenBW_eq _ _ hb (by decide) (by decide), hall, Bool.true_and]
    by_cases h1 : lenA y1.ops 0 < 1048576 <;> by_cases h2 : lenB y1.ops 0 < 1048576 <;> simp [h1, h2]
theorem b168 : HB168 := by
  intro N list o d _ hp hN
  simp only [pre168, mu168] at hp hN
  obtain ⟨⟨hm, hr, hil⟩, hd0, hd1⟩ := hp
  obtain ⟨ik, inn, rl, re⟩ := rngOp_e hr
  rw [massOp_e] at hm hN
  have hll := massK_len o.l
  have hep := massE_pos o.e
  have hat := rightOp_at list o d
  rw [dT_nn hd0, treesG_64] at hat
  have hs := sameE_iff (e := o.e)
  refine vc168 N list o d _ ?_
  rintro y1 hy1 y2 hy2
  subst hy1
  (simp only [vcS])
  have hp87 : pre89 (o.e, 1, ()) := by simp only [pre89]; exact ⟨⟨by omega, re⟩, by omega, by omega⟩
  have hm87 : mu89 (o.e, 1, ()) < N := by simp only [mu89]; omega
  have hp135 : pre184 (o.l, (list, ()), ()) := by simp only [pre184]; exact ⟨by omega, rl, by unfold isI; omega⟩
  have h12 : o.kind = 1 ∨ o.kind = 2 → y2 = .bool (rightOp list o d) := by
    intro hk
    rw [hy2, hat, if_neg (by omega)]
    congr 1
    rw [Bool.eq_iff_iff]
    (simp only [vcS])
    by_cases hn : o.n = 0
    · rw [if_neg (by omega), if_pos (by omega)]
      (simp only [vcS])
      constructor
      · rintro ⟨⟨⟨⟨h1, h2⟩, h3⟩, h4⟩, h5⟩
        exact ⟨⟨h5, by omega⟩, hs.1 ⟨h3, h4⟩⟩
      · rintro ⟨⟨h5, h2⟩, h3⟩
        have := hs.2 h3
        exact ⟨⟨⟨⟨hn, by omega⟩, this.1⟩, this.2⟩, h5⟩
    · rw [if_pos (by omega)]
      exact ⟨fun h => absurd h.1.1.1.1 hn, fun h => (nomatch h)⟩
  refine ⟨fun hk => ⟨fun _ => hp87, fun _ => hm87, ends_bool rfl ?_⟩, fun hk => ⟨fun hk1 => ⟨fun _ => hp87, fun _ => hm87, fun _ => hp135, ?_⟩, fun hk1 => ⟨fun hk2 => ⟨fun _ => hp87, fun _ => hm87, fun _ => hp135, ?_⟩, fun hk2 => ⟨fun hk3 => ⟨fun _ => trivial, fun _ => ?_, fun _ => by simp only [mu89]; omega, ends_bool rfl ?_⟩, fun hk3 => ends_bool rfl ?_⟩⟩⟩⟩
  · rw [hat, if_pos hk, Bool.eq_iff_iff]
    (simp only [vcS])
    constructor
    · rintro ⟨⟨⟨h1, h2⟩, h3⟩, h4⟩
      exact ⟨⟨h1.1, h1.2, by omega⟩, hs.1 ⟨h3, h4⟩⟩
    · rintro ⟨⟨h1, h2, h3⟩, h4⟩
      have := hs.2 h4
      exact ⟨⟨⟨⟨h1, h2⟩, by omega⟩, this.1⟩, this.2⟩
  · rw [h12 (Or.inl hk1)]
    exact ends_bool rfl rfl
  · rw [h12 (Or.inr hk2)]
    exact ends_bool rfl rfl
  · simp only [pre89]; exact ⟨⟨by omega, re⟩, hd0, hd1⟩
  · rw [hat, if_neg hk, Bool.eq_iff_iff]
    by_cases hn : o.n = 0
    · rw [if_neg (by omega), if_neg (by omega)]
      have hw : withinB list o.e = true ↔ (o.e.kind ≠ 0 ∧ 7 < list) ∧ (list = 8 ∨ o.e.kind = 2 ∨ o.e.kind = 1 ∧ o.e.old.kind = 1 ∧ o.e.new.kind = 1) := by
        unfold withinB
        split
        · exact ⟨fun h => (nomatch h), fun h => by omega⟩
        · split
          · exact ⟨fun _ => ⟨by omega, by omega⟩, fun _ => rfl⟩
          · rw [decide_eq_true_eq]
            exact ⟨fun h => ⟨by omega, Or.inr (Or.inr h)⟩, fun h => by omega⟩
      (simp only [vcS])
      rw [hw]
      constructor
      · rintro ⟨⟨h1, h2⟩, h3⟩
        exact ⟨⟨⟨by omega, h2.1⟩, h3⟩, h2.2⟩
      · rintro ⟨⟨⟨h1, h2⟩, h3⟩, h4⟩
        exact ⟨⟨⟨hn, by omega⟩, h2, h4⟩, h3⟩
    · rw [if_pos (by omega)]
      (simp only [vcS])
      exact ⟨fun h => absurd h.1.1.1 hn, fun h => (nomatch h)⟩
  · rw [hat, if_neg hk]
    by_cases hn : o.n ≠ 0 ∨ o.kind < 0 ∨ 3 < o.kind
    · rw [if_pos hn]
    · exfalso; omega
theorem c89_ : Contract Try.prog cfg 89 spec89 ∧ Contract Try.prog cfg 124 spec124 ∧ Contract Try.prog cfg 125 spec125 ∧ Contract Try.prog cfg 168 spec168 :=
  make89_ c121 c122 c123 c92 c184 c187 c164 b89 b124 b125 b168
theorem c52 : Contract Try.prog cfg 52 spec52 := by
  refine make52 c89_.1 ?_
  intro e _ hp
  simp only [pre52] at hp
  refine vc52 _ _ ?_
  (simp only [Tree.eta, Edit.eta, Tree.kind_mk, Tree.words_mk, Tree.kids_mk])
  refine ⟨by simp only [pre89]; exact ⟨hp, by omega, by omega⟩, ?_⟩
  exact ends_bool rfl rfl
end Go.AM.Ytpjenobkibfpcaa

namespace Go.AM.Ytpjenobkibfpcaa
open Go.AM Go.Proofs
theorem kids_sum : ∀ {l : List Op}, (∀ o ∈ l, opOk o) → kidsOs l ≤ sumA l + sumB l
  | [], _ => by simp [kidsOs, sumA, sumB]
  | o :: r, h => by
    have h1 := opLen_pos (h o List.mem_cons_self)
    have h2 := kids_sum fun x hx => h x (List.mem_cons_of_mem _ hx)
    simp only [kidsOs, sumA, sumB]
    split <;> split <;> omega
end Go.AM.Ytpjenobkibfpcaa

namespace Go.AM.Ytpjenobkibfpcaa
open Go.AM Go.Proofs
theorem good_in' {e : Edit} (h : good e = true) : massE e ≤ 3000 ∧ rightE e 64 = true := by
  simp only [good, Bool.and_eq_true, decide_eq_true_eq] at h
  exact ⟨few_massE h.1.1, h.1.2⟩
end Go.AM.Ytpjenobkibfpcaa

namespace Go.AM.Ytpjenobkibfpcaa
open Go.AM Go.Proofs
theorem good_ref {e : Edit} (h : good e = true) (g : rngE e) : refOk e ∧ massE e ≤ 3000 ∧ rightE e 64 = true := by
  obtain ⟨m, r⟩ := good_in' h
  have hl : lightE e = true := by
    simp only [good, Bool.and_eq_true] at h
    exact h.2
  have := ut_light _ e (Nat.le_refl _) ⟨64, r⟩ hl
  exact ⟨⟨by omega, g, 64, r⟩, m, r⟩
end Go.AM.Ytpjenobkibfpcaa
