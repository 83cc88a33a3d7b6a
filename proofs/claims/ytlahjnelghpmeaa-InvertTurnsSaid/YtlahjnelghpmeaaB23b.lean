import Derived.Test.YtlahjnelghpmeaaB20x
import Derived.Test.YtlahjnelghpmeaaB07
import Derived.Test.YtlahjnelghpmeaaB20c
import Derived.Test.YtlahjnelghpmeaaL22
set_option linter.unusedSimpArgs false
set_option linter.unusedVariables false
namespace Go.AM.Ytlahjnelghpmeaa
open Go.AM Go.Proofs
abbrev TrG20f (p : Prop) : Prop := p → p
def args131 : ArgL (Tree × Unit) := (.cons (aEl .tree) .nil)
def pre131 (a : Tree × Unit) : Prop := mass a.1 ≤ 1000000
noncomputable def res131 (a : Tree × Unit) : V U := .c (.bool (noneT a.1))
noncomputable def spec131 : Fs U := fs args131 (fun a => [pre131 a]) res131
def args118 : ArgL (Edit × Unit) := (.cons (aEl .edit) .nil)
def pre118 (a : Edit × Unit) : Prop := massE a.1 ≤ 1000000
noncomputable def res118 (a : Edit × Unit) : V U := .c (.bool (bareE a.1))
noncomputable def spec118 : Fs U := fs args118 (fun a => [pre118 a]) res118
noncomputable def know131 : List (FuncId × Fs U) := []
def lv131 : Lives U := fun i => match i with
  | 0 => ([(1, [])], [((.loc 1), [])])
  | 1 => ([(2, [])], [])
  | _ => ([], [])
abbrev W131 (t : Tree) (Q : AExit → LSt U → Prop) := awp cfg (know know131) (drawOk cfg (know know131)) Try.f131.ntmps lv131 (cd Try.f131 []) (⟨[(0, .agg [.int .i64 (Tree.kind t), .slice (U := U) .u64 (Tree.words t) .unk, .slice (U := U) .tree (Tree.kids t) .unk])], [], []⟩ : LSt U) Q
theorem vc131 (t : Tree) (Q : AExit → LSt U → Prop) (h : ((((Tree.kind t) : Int) == 0) = true → InR ((((Tree.words t).length : Int) : Int) + ((Tree.kids t).length : Int))) ∧ (Q .ret (⟨[(2, .c (.bool (bif (((Tree.kind t) : Int) == 0) then ((((((Tree.words t).length : Int) : Int) + ((Tree.kids t).length : Int)) : Int) == 0) else false)))], [], []⟩ : LSt U))) :
    W131 t Q := by
  have e_ : (W131 t Q) = (((TrG20f (((Tree.kind t) == 0) = true)) ∧ (TrG20f (((Tree.kind t) == 0) = true)) ∧ (TrG20f (((Tree.kind t) == 0) = true)) ∧ (TrG20f (((Tree.kind t) == 0) = true)) ∧ (TrG20f (((Tree.kind t) == 0) = true)) ∧ (TrG20f (((Tree.kind t) == 0) = true)) ∧ (((Tree.kind t) == 0) = true → InR (((Tree.words t).length : Int) + ((Tree.kids t).length : Int))) ∧ (TrG20f (((Tree.kind t) == 0) = true)) ∧ ((TrG20f (((Tree.kind t) == 0) = true))) ∧ (Q .ret (⟨[(2, .c (.bool (bif ((Tree.kind t) == 0) then (((((Tree.words t).length : Int) + ((Tree.kids t).length : Int)) : Int) == 0) else false)))], [], []⟩ : LSt U)))) := by kernel_rfl
  exact e_.mpr ⟨id, id, id, id, id, id, h.1, id, (by generalize (((Tree.kind t) : Int) == 0) = b0; revert b0; decide), h.2⟩
def Body131 (t : Tree)  : Prop := awp cfg (know (know131)) (drawOk cfg (know (know131))) Try.f131.ntmps lv131 (cd Try.f131 []) (entry (args131.can (t, ())) []) (EndsQ cfg Try.f131.ntmps Try.f131.results.toList (res131 (t, ())) [])
theorem make131 (hb : ∀ (t : Tree) (_ : Unit), pre131 (t, ()) → Body131 t) : Contract Try.prog cfg 131 spec131 :=
  contract_flat (l := []) cfgOk rfl (trivial) lv131 Try.func131 rfl rfl 1 (fun _ => rfl) (by decide) (fun ⟨t, _⟩ => hb t ())
noncomputable def know118 : List (FuncId × Fs U) := [(131, spec131)]
def lv118 : Lives U := fun i => match i with
  | 0 => ([(1, [])], [((.loc 1), [])])
  | 1 => ([(1, []), (3, [])], [((.loc 1), [])])
  | 2 => ([(1, []), (4, [])], [((.loc 1), [])])
  | 3 => ([(2, [])], [])
  | 4 => ([(1, []), (21, [])], [((.loc 1), [])])
  | 5 => ([(2, [])], [])
  | 6 => ([(2, [])], [])
  | _ => ([], [])
abbrev W118 (e : Edit) (Q : AExit → LSt U → Prop) := awp cfg (know know118) (drawOk cfg (know know118)) Try.f118.ntmps lv118 (cd Try.f118 []) (⟨[(0, .agg [.int .i64 (Edit.kind e), .int .i64 (Tree.kind (Edit.old e)), .slice (U := U) .u64 (Tree.words (Edit.old e)) .unk, .slice (U := U) .tree (Tree.kids (Edit.old e)) .unk, .int .i64 (Tree.kind (Edit.new e)), .slice (U := U) .u64 (Tree.words (Edit.new e)) .unk, .slice (U := U) .tree (Tree.kids (Edit.new e)) .unk, .slice (U := U) .wedit (Edit.words e) .unk, .slice (U := U) .kid (Edit.kids e) .unk, .int .i64 (Edit.list e), .slice (U := U) .op (Edit.ops e) .unk])], [], []⟩ : LSt U) Q
theorem vc118 (e : Edit) (Q : AExit → LSt U → Prop) (h : ∀ y_1, y_1 = ((Edit.new e)) → ∀ y_2, y_2 = ((Edit.old e)) → ((((Edit.kind e) : Int) != 1) = true → pre131 (y_2, ())) ∧ (((((Edit.kind e) : Int) != 1) && (noneT y_2)) = true → pre131 (y_1, ())) ∧ (((bif (((Edit.kind e) : Int) != 1) then (!(bif (noneT y_2) then (noneT y_1) else false)) else false) = true → Q .ret (⟨[(2, .c (.bool false))], [], []⟩ : LSt U)) ∧ ((bif (((Edit.kind e) : Int) != 1) then (!(bif (noneT y_2) then (noneT y_1) else false)) else false) = false → ((((Edit.kind e) : Int) != 2) = true → InR ((((Edit.words e).length : Int) : Int) + ((Edit.kids e).length : Int))) ∧ (((bif (((Edit.kind e) : Int) != 2) then (decide ((0 : Int) < ((((Edit.words e).length : Int) : Int) + ((Edit.kids e).length : Int)))) else false) = true → Q .ret (⟨[(2, .c (.bool false))], [], []⟩ : LSt U)) ∧ ((bif (((Edit.kind e) : Int) != 2) then (decide ((0 : Int) < ((((Edit.words e).length : Int) : Int) + ((Edit.kids e).length : Int)))) else false) = false → Q .ret (⟨[(2, .c (.bool (bif (((Edit.kind e) : Int) == 3) then true else (bif (((Edit.list e) : Int) == 0) then ((((Edit.ops e).length : Int) : Int) == 0) else false))))], [], []⟩ : LSt U)))))) :
    W118 e Q := by
  have e_ : (W118 e Q) = (let y_1 := (reTree (Edit.new e)); let y_2 := (reTree (Edit.old e)); let zz2 := (bif ((Edit.kind e) != 1) then (!(bif (noneT y_2) then (noneT y_1) else false)) else false); let zz1 := (bif ((Edit.kind e) != 2) then (decide ((0 : Int) < (((Edit.words e).length : Int) + ((Edit.kids e).length : Int)))) else false); let zz0 := (!((Edit.kind e) == 3)); (((TrG20f (((Edit.kind e) != 1) = true)) ∧ (TrG20f (((Edit.kind e) != 1) = true)) ∧ (TrG20f (((Edit.kind e) != 1) = true)) ∧ (((Edit.kind e) != 1) = true → pre131 (y_2, ())) ∧ (TrG20f (((Edit.kind e) != 1) = true)) ∧ (TrG20f ((((Edit.kind e) != 1) && (noneT y_2)) = true)) ∧ (TrG20f ((((Edit.kind e) != 1) && (noneT y_2)) = true)) ∧ (TrG20f ((((Edit.kind e) != 1) && (noneT y_2)) = true)) ∧ ((((Edit.kind e) != 1) && (noneT y_2)) = true → pre131 (y_1, ())) ∧ (((Edit.kind e) != 1) = true → (True → ((Edit.kind e) != 1) = true)) ∧ (((Edit.kind e) != 1) = true → ((noneT y_2) = true → (((Edit.kind e) != 1) && (noneT y_2)) = true)) ∧ (TrG20f (((Edit.kind e) != 1) = true)) ∧ ((TrG20f (((Edit.kind e) != 1) = true))) ∧ ((zz2 = true → (Q .ret (⟨[(2, .c (.bool false))], [], []⟩ : LSt U))) ∧ (zz2 = false → (TrG20f (((Edit.kind e) != 2) = true)) ∧ (TrG20f (((Edit.kind e) != 2) = true)) ∧ (TrG20f (((Edit.kind e) != 2) = true)) ∧ (TrG20f (((Edit.kind e) != 2) = true)) ∧ (TrG20f (((Edit.kind e) != 2) = true)) ∧ (TrG20f (((Edit.kind e) != 2) = true)) ∧ (((Edit.kind e) != 2) = true → InR (((Edit.words e).length : Int) + ((Edit.kids e).length : Int))) ∧ (TrG20f (((Edit.kind e) != 2) = true)) ∧ ((TrG20f (((Edit.kind e) != 2) = true))) ∧ ((zz1 = true → (Q .ret (⟨[(2, .c (.bool false))], [], []⟩ : LSt U))) ∧ (zz1 = false → (TrG20f (zz0 = true)) ∧ (TrG20f (zz0 = true)) ∧ (TrG20f (zz0 = true)) ∧ (TrG20f ((zz0 && ((Edit.list e) == 0)) = true)) ∧ (TrG20f ((zz0 && ((Edit.list e) == 0)) = true)) ∧ (TrG20f ((zz0 && ((Edit.list e) == 0)) = true)) ∧ (zz0 = true → (True → zz0 = true)) ∧ (zz0 = true → (((Edit.list e) == 0) = true → (zz0 && ((Edit.list e) == 0)) = true)) ∧ ((((Edit.kind e) == 3) = false → zz0 = true)) ∧ (Q .ret (⟨[(2, .c (.bool (bif ((Edit.kind e) == 3) then true else (bif ((Edit.list e) == 0) then (((Edit.ops e).length : Int) == 0) else false))))], [], []⟩ : LSt U))))))))) := by kernel_rfl
  exact e_.mpr (by intro y_1 y_2; have hh := h y_1 (reTree_eq _) y_2 (reTree_eq _); exact ⟨id, id, id, hh.1, id, id, id, id, hh.2.1, (by generalize (((Edit.kind e) : Int) != 1) = b0; revert b0; decide), (by generalize (noneT y_2) = b0; generalize (((Edit.kind e) : Int) != 1) = b1; revert b0 b1; decide), id, (by generalize (((Edit.kind e) : Int) != 1) = b0; revert b0; decide), ⟨fun c_1 => (hh.2.2.1 c_1), fun c_1 => ⟨id, id, id, id, id, id, (hh.2.2.2 c_1).1, id, (by generalize (((Edit.kind e) : Int) != 2) = b0; revert b0; decide), ⟨fun c_2 => ((hh.2.2.2 c_1).2.1 c_2), fun c_2 => ⟨id, id, id, id, id, id, (by generalize (((Edit.kind e) : Int) == 3) = b0; revert b0; decide), (by generalize (((Edit.kind e) : Int) == 3) = b0; generalize (((Edit.list e) : Int) == 0) = b1; revert b0 b1; decide), (by generalize (((Edit.kind e) : Int) == 3) = b0; revert b0; decide), ((hh.2.2.2 c_1).2.2 c_2)⟩⟩⟩⟩⟩)
def Body118 (e : Edit)  : Prop := awp cfg (know (know118)) (drawOk cfg (know (know118))) Try.f118.ntmps lv118 (cd Try.f118 []) (entry (args118.can (e, ())) []) (EndsQ cfg Try.f118.ntmps Try.f118.results.toList (res118 (e, ())) [])
theorem make118 (c131 : Contract Try.prog cfg 131 spec131) (hb : ∀ (e : Edit) (_ : Unit), pre118 (e, ()) → Body118 e) : Contract Try.prog cfg 118 spec118 :=
  contract_flat (l := [(131, spec131)]) cfgOk rfl (⟨c131, trivial⟩) lv118 Try.func118 rfl rfl 1 (fun _ => rfl) (by decide) (fun ⟨e, _⟩ => hb e ())
end Go.AM.Ytlahjnelghpmeaa

namespace Go.AM.Ytlahjnelghpmeaa
open Go.AM Go.Proofs
theorem c131 : Contract Try.prog cfg 131 spec131 := by
  refine make131 ?_
  intro t _ hp
  simp only [pre131] at hp
  have := len_mass t
  refine vc131 t _ ?_
  refine ⟨fun _ => by unfold InR; omega, ends_bool rfl ?_⟩
  rw [Bool.eq_iff_iff]
  simp only [noneT]
  (simp only [vcS])
  omega
theorem c118 : Contract Try.prog cfg 118 spec118 := by
  refine make118 c131 ?_
  intro e _ hp
  simp only [pre118] at hp
  have h1 := len_massE e
  have h2 := massKs_len e.kids
  refine vc118 e _ ?_
  rintro y1 rfl y2 rfl
  (simp only [vcS])
  refine ⟨fun _ => by simp only [pre131]; omega, fun _ => by simp only [pre131]; omega, fun h => ?_, fun h => ⟨fun _ => by unfold InR; omega, fun h3 => ?_, fun h3 => ?_⟩⟩
  · refine ends_bool rfl ?_
    show false = bareE e
    unfold bareE
    rw [if_pos (Or.inl ⟨h.1, fun hn => by have := h.2; rw [hn.1, hn.2] at this; revert this; decide⟩)]
  · refine ends_bool rfl ?_
    show false = bareE e
    unfold bareE
    rw [if_pos (Or.inr (Or.inl ⟨h3.1, by omega⟩))]
  · refine ends_bool rfl ?_
    show _ = bareE e
    unfold bareE
    have g1 : ¬(e.kind ≠ 1 ∧ ¬(noneT e.old = true ∧ noneT e.new = true)) := by
      intro hc
      rcases h with h | h
      · exact hc.1 (by simpa using h)
      · exact hc.2 (by simpa using h)
    have g2 : ¬(e.kind ≠ 2 ∧ ¬(e.words.length = 0 ∧ e.kids.length = 0)) := by omega
    by_cases g3 : e.kind ≠ 3 ∧ (e.list ≠ 0 ∨ e.ops.length ≠ 0)
    · rw [if_pos (Or.inr (Or.inr g3)), Bool.eq_iff_iff]
      (simp only [vcS])
      constructor
      · intro h; omega
      · intro h; cases h
    · rw [if_neg (by rintro (x | x | x) <;> contradiction), Bool.eq_iff_iff]
      (simp only [vcS])
      constructor
      · intro _; first | trivial | rfl
      · intro _; omega
end Go.AM.Ytlahjnelghpmeaa

namespace Go.AM.Ytlahjnelghpmeaa
open Go.AM Go.Proofs
abbrev TrG20z (p : Prop) : Prop := p → p
noncomputable section
def args87 : ArgL (Edit × Int × Unit) := (.cons (aEl .edit) (.cons (aInt .i64) .nil))
def pre87 (a : Edit × Int × Unit) : Prop := (massE a.1 ≤ 900000 ∧ rngE a.1) ∧ 0 ≤ a.2.1 ∧ a.2.1 ≤ 1000
def mu87 (a : Edit × Int × Unit) : Nat := 4 * massE a.1
noncomputable def res87 (a : Edit × Int × Unit) : V U := .c (.bool (rightE a.1 a.2.1))
noncomputable def spec87 : Fs U := fs args87 (fun a => [pre87 a]) res87
def args121 : ArgL (List Kid × Int × Unit) := (.cons (aSl .kid) (.cons (aInt .i64) .nil))
def pre121 (a : List Kid × Int × Unit) : Prop := (massKs a.1 ≤ 900000 ∧ rngKs a.1) ∧ 0 ≤ a.2.1 ∧ a.2.1 ≤ 1000
def mu121 (a : List Kid × Int × Unit) : Nat := 4 * massKs a.1 + 2
noncomputable def res121 (a : List Kid × Int × Unit) : V U := .c (.bool (rightKs (-1) a.1 a.2.1))
noncomputable def spec121 : Fs U := fs args121 (fun a => [pre121 a]) res121
def args122 : ArgL (Edit × Int × Unit) := (.cons (aEl .edit) (.cons (aInt .i64) .nil))
def pre122 (a : Edit × Int × Unit) : Prop := (massE a.1 ≤ 900000 ∧ rngE a.1 ∧ 2 ≤ Edit.list a.1 ∧ Edit.list a.1 ≤ 9) ∧ 0 ≤ a.2.1 ∧ a.2.1 ≤ 1000
def mu122 (a : Edit × Int × Unit) : Nat := 4 * massOs (Edit.ops a.1) + 2
noncomputable def res122 (a : Edit × Int × Unit) : V U := .c (.bool (rightOs (Edit.list a.1) (Edit.ops a.1) a.2.1 && decide (lenA (Edit.ops a.1) 0 < 1048576 ∧ lenB (Edit.ops a.1) 0 < 1048576)))
noncomputable def spec122 : Fs U := fs args122 (fun a => [pre122 a]) res122
def args132 : ArgL (Int × Op × Int × Unit) := (.cons (aInt .i64) (.cons (aEl .op) (.cons (aInt .i64) .nil)))
def pre132 (a : Int × Op × Int × Unit) : Prop := (massOp a.2.1 ≤ 900000 ∧ rngOp a.2.1 ∧ 2 ≤ a.1 ∧ a.1 ≤ 9) ∧ 0 ≤ a.2.2.1 ∧ a.2.2.1 ≤ 1000
def mu132 (a : Int × Op × Int × Unit) : Nat := 4 * massOp a.2.1 + 1
noncomputable def res132 (a : Int × Op × Int × Unit) : V U := .c (.bool (rightOp a.1 a.2.1 a.2.2.1))
noncomputable def spec132 : Fs U := fs args132 (fun a => [pre132 a]) res132
def args58 : ArgL (Edit × Unit) := (.cons (aEl .edit) .nil)
def pre58 (a : Edit × Unit) : Prop := massE a.1 ≤ 900000 ∧ rngE a.1
noncomputable def res58 (a : Edit × Unit) : V U := .c (.bool (rightE a.1 64))
noncomputable def spec58 : Fs U := fs args58 (fun a => [pre58 a]) res58
noncomputable def know87 (N : Nat) : List (FuncId × Fs U) := (87, fs args87 (fun a => [pre87 a, mu87 a < N]) res87) :: (121, fs args121 (fun a => [pre121 a, mu121 a < N]) res121) :: (122, fs args122 (fun a => [pre122 a, mu122 a < N]) res122) :: (132, fs args132 (fun a => [pre132 a, mu132 a < N]) res132) :: [(118, spec118), (119, spec119), (120, spec120), (48, spec48), (135, spec135), (138, spec138), (56, spec56)]
def lv87 : Lives U := fun i => match i with
  | 0 => ([(1, []), (2, [])], [((.loc 2), [])])
  | 1 => ([(1, []), (2, []), (11, [])], [((.loc 2), [])])
  | 2 => ([(4, [])], [])
  | 3 => ([(1, []), (2, []), (13, [])], [((.loc 2), [])])
  | 4 => ([(1, []), (2, []), (13, []), (14, [])], [((.loc 2), [])])
  | 5 => ([(4, [])], [])
  | 6 => ([(1, []), (2, []), (13, []), (16, [])], [((.loc 2), [])])
  | 7 => ([(4, [])], [])
  | 8 => ([(1, []), (2, []), (13, []), (26, [])], [((.loc 2), [])])
  | 9 => ([(4, [])], [])
  | 10 => ([(1, []), (2, []), (38, [])], [((.loc 2), [])])
  | 11 => ([(4, [])], [])
  | 12 => ([(4, [])], [])
  | _ => ([], [])
abbrev W87 (N : Nat) (e : Edit) (d : Int) (Q : AExit → LSt U → Prop) := awp cfg (know (know87 N)) (drawOk cfg (know (know87 N))) Try.f87.ntmps lv87 (cd Try.f87 []) (⟨[(0, .agg [.int .i64 (Edit.kind e), .int .i64 (Tree.kind (Edit.old e)), .slice (U := U) .u64 (Tree.words (Edit.old e)) .unk, .slice (U := U) .tree (Tree.kids (Edit.old e)) .unk, .int .i64 (Tree.kind (Edit.new e)), .slice (U := U) .u64 (Tree.words (Edit.new e)) .unk, .slice (U := U) .tree (Tree.kids (Edit.new e)) .unk, .slice (U := U) .wedit (Edit.words e) .unk, .slice (U := U) .kid (Edit.kids e) .unk, .int .i64 (Edit.list e), .slice (U := U) .op (Edit.ops e) .unk]), (1, .c (.int .i64 d))], [], []⟩ : LSt U) Q
theorem vc87 (N : Nat) (e : Edit) (d : Int) (Q : AExit → LSt U → Prop) (h : ∀ y_1, y_1 = (e) → ∀ y_2, y_2 = ((Edit.new e)) → ∀ y_3, y_3 = ((Edit.old e)) → (pre118 (y_1, ())) ∧ (((bif (!(bareE y_1)) then true else ((d : Int) == 0)) = true → Q .ret (⟨[(4, .c (.bool false))], [], []⟩ : LSt U)) ∧ ((bif (!(bareE y_1)) then true else ((d : Int) == 0)) = false → ((((Edit.kind e) : Int) == 0) = true → Q .ret (⟨[(4, .c (.bool true))], [], []⟩ : LSt U)) ∧ ((((Edit.kind e) : Int) == 0) = false → ((((Edit.kind e) : Int) == 1) = true → (pre119 (y_3, ())) ∧ (((decide (Tree.kind y_3 ≠ 10) && rightT y_3 64)) = true → pre119 (y_2, ())) ∧ (Q .ret (⟨[(4, .c (.bool (bif (decide (Tree.kind y_3 ≠ 10) && rightT y_3 64) then (decide (Tree.kind y_2 ≠ 10) && rightT y_2 64) else false)))], [], []⟩ : LSt U))) ∧ ((((Edit.kind e) : Int) == 1) = false → ((((Edit.kind e) : Int) == 2) = true → (pre120 ((Edit.words e), ())) ∧ ((wordsOk (-1) (Edit.words e)) = true → InR ((d : Int) - 1)) ∧ ((wordsOk (-1) (Edit.words e)) = true → pre121 ((Edit.kids e), ((d : Int) - 1), ())) ∧ ((wordsOk (-1) (Edit.words e)) = true → mu121 ((Edit.kids e), ((d : Int) - 1), ()) < N) ∧ (Q .ret (⟨[(4, .c (.bool (bif (wordsOk (-1) (Edit.words e)) then (rightKs (-1) (Edit.kids e) ((d : Int) - 1)) else false)))], [], []⟩ : LSt U))) ∧ ((((Edit.kind e) : Int) == 2) = false → ((((Edit.kind e) : Int) == 3) = true → (pre48 ((Edit.list e), ())) ∧ ((decide (2 ≤ (Edit.list e) ∧ (Edit.list e) ≤ 9)) = true → InR ((d : Int) - 1)) ∧ ((decide (2 ≤ (Edit.list e) ∧ (Edit.list e) ≤ 9)) = true → pre122 (y_1, ((d : Int) - 1), ())) ∧ ((decide (2 ≤ (Edit.list e) ∧ (Edit.list e) ≤ 9)) = true → mu122 (y_1, ((d : Int) - 1), ()) < N) ∧ (Q .ret (⟨[(4, .c (.bool (bif (decide (2 ≤ (Edit.list e) ∧ (Edit.list e) ≤ 9)) then (rightOs (Edit.list y_1) (Edit.ops y_1) ((d : Int) - 1) && decide (lenA (Edit.ops y_1) 0 < 1048576 ∧ lenB (Edit.ops y_1) 0 < 1048576)) else false)))], [], []⟩ : LSt U))) ∧ ((((Edit.kind e) : Int) == 3) = false → Q .ret (⟨[(4, .c (.bool false))], [], []⟩ : LSt U)))))))) :
    W87 N e d Q := by
  have e_ : (W87 N e d Q) = (let y_1 := (reEdit e); let y_2 := (reTree (Edit.new e)); let y_3 := (reTree (Edit.old e)); let zz1 := (decide (Tree.kind y_3 ≠ 10) && rightT y_3 64); let zz0 := (decide (2 ≤ (Edit.list e) ∧ (Edit.list e) ≤ 9)); ((pre118 (y_1, ())) ∧ (TrG20z ((!(!(bareE y_1))) = true)) ∧ (((!(bareE y_1)) = false → (!(!(bareE y_1))) = true)) ∧ (((bif (!(bareE y_1)) then true else ((d : Int) == 0)) = true → (Q .ret (⟨[(4, .c (.bool false))], [], []⟩ : LSt U))) ∧ ((bif (!(bareE y_1)) then true else ((d : Int) == 0)) = false → (((((Edit.kind e) == 0) = true → (Q .ret (⟨[(4, .c (.bool true))], [], []⟩ : LSt U))) ∧ (((Edit.kind e) == 0) = false → ((((Edit.kind e) == 1) = true → (pre119 (y_3, ())) ∧ (TrG20z ((zz1) = true)) ∧ (TrG20z ((zz1) = true)) ∧ ((zz1) = true → pre119 (y_2, ())) ∧ ((TrG20z ((zz1) = true))) ∧ (Q .ret (⟨[(4, .c (.bool (bif zz1 then (decide (Tree.kind y_2 ≠ 10) && rightT y_2 64) else false)))], [], []⟩ : LSt U))) ∧ (((Edit.kind e) == 1) = false → ((((Edit.kind e) == 2) = true → (pre120 ((Edit.words e), ())) ∧ (TrG20z ((wordsOk (-1) (Edit.words e)) = true)) ∧ (TrG20z ((wordsOk (-1) (Edit.words e)) = true)) ∧ ((wordsOk (-1) (Edit.words e)) = true → InR ((d : Int) - 1)) ∧ (TrG20z ((wordsOk (-1) (Edit.words e)) = true)) ∧ (TrG20z ((wordsOk (-1) (Edit.words e)) = true)) ∧ ((wordsOk (-1) (Edit.words e)) = true → pre121 ((Edit.kids e), ((d : Int) - 1), ())) ∧ ((wordsOk (-1) (Edit.words e)) = true → mu121 ((Edit.kids e), ((d : Int) - 1), ()) < N) ∧ ((TrG20z ((wordsOk (-1) (Edit.words e)) = true))) ∧ (Q .ret (⟨[(4, .c (.bool (bif (wordsOk (-1) (Edit.words e)) then (rightKs (-1) (Edit.kids e) ((d : Int) - 1)) else false)))], [], []⟩ : LSt U))) ∧ (((Edit.kind e) == 2) = false → ((((Edit.kind e) == 3) = true → (pre48 ((Edit.list e), ())) ∧ (TrG20z (zz0 = true)) ∧ (zz0 = true → InR ((d : Int) - 1)) ∧ (TrG20z (zz0 = true)) ∧ (TrG20z (zz0 = true)) ∧ (zz0 = true → pre122 (y_1, ((d : Int) - 1), ())) ∧ (zz0 = true → mu122 (y_1, ((d : Int) - 1), ()) < N) ∧ ((TrG20z (zz0 = true))) ∧ (Q .ret (⟨[(4, .c (.bool (bif zz0 then (rightOs (Edit.list y_1) (Edit.ops y_1) ((d : Int) - 1) && decide (lenA (Edit.ops y_1) 0 < 1048576 ∧ lenB (Edit.ops y_1) 0 < 1048576)) else false)))], [], []⟩ : LSt U))) ∧ (((Edit.kind e) == 3) = false → (Q .ret (⟨[(4, .c (.bool false))], [], []⟩ : LSt U))))))))))))))) := by kernel_rfl
  exact e_.mpr (by intro y_1 y_2 y_3; have hh := h y_1 (reEdit_eq _) y_2 (reTree_eq _) y_3 (reTree_eq _); exact ⟨hh.1, id, (by generalize (bareE y_1) = b0; revert b0; decide), ⟨fun c_1 => (hh.2.1 c_1), fun c_1 => ⟨fun c_2 => ((hh.2.2 c_1).1 c_2), fun c_2 => ⟨fun c_3 => ⟨(((hh.2.2 c_1).2 c_2).1 c_3).1, id, id, (((hh.2.2 c_1).2 c_2).1 c_3).2.1, (by generalize (decide (Tree.kind y_3 ≠ 10)) = b0; generalize (rightT y_3 64) = b1; revert b0 b1; decide), (((hh.2.2 c_1).2 c_2).1 c_3).2.2⟩, fun c_3 => ⟨fun c_4 => ⟨((((hh.2.2 c_1).2 c_2).2 c_3).1 c_4).1, id, id, ((((hh.2.2 c_1).2 c_2).2 c_3).1 c_4).2.1, id, id, ((((hh.2.2 c_1).2 c_2).2 c_3).1 c_4).2.2.1, ((((hh.2.2 c_1).2 c_2).2 c_3).1 c_4).2.2.2.1, (by generalize (wordsOk (-1) (Edit.words e)) = b0; revert b0; decide), ((((hh.2.2 c_1).2 c_2).2 c_3).1 c_4).2.2.2.2⟩, fun c_4 => ⟨fun c_5 => ⟨(((((hh.2.2 c_1).2 c_2).2 c_3).2 c_4).1 c_5).1, id, (((((hh.2.2 c_1).2 c_2).2 c_3).2 c_4).1 c_5).2.1, id, id, (((((hh.2.2 c_1).2 c_2).2 c_3).2 c_4).1 c_5).2.2.1, (((((hh.2.2 c_1).2 c_2).2 c_3).2 c_4).1 c_5).2.2.2.1, (by generalize (decide (2 ≤ (Edit.list e) ∧ (Edit.list e) ≤ 9)) = b0; revert b0; decide), (((((hh.2.2 c_1).2 c_2).2 c_3).2 c_4).1 c_5).2.2.2.2⟩, fun c_5 => (((((hh.2.2 c_1).2 c_2).2 c_3).2 c_4).2 c_5)⟩⟩⟩⟩⟩⟩)
def Body87 (N : Nat) (e : Edit) (d : Int)  : Prop := awp cfg (know (know87 N)) (drawOk cfg (know (know87 N))) Try.f87.ntmps lv87 (cd Try.f87 []) (entry (args87.can (e, d, ())) []) (EndsQ cfg Try.f87.ntmps Try.f87.results.toList (res87 (e, d, ())) [])
abbrev HB87 : Prop := ∀ (N : Nat) (e : Edit) (d : Int) (_ : Unit), pre87 (e, d, ()) → mu87 (e, d, ()) < N + 1 → Body87 N e d
noncomputable def know121 (N : Nat) : List (FuncId × Fs U) := (87, fs args87 (fun a => [pre87 a, mu87 a < N]) res87) :: (121, fs args121 (fun a => [pre121 a, mu121 a < N]) res121) :: (122, fs args122 (fun a => [pre122 a, mu122 a < N]) res122) :: (132, fs args132 (fun a => [pre132 a, mu132 a < N]) res132) :: [(118, spec118), (119, spec119), (120, spec120), (48, spec48), (135, spec135), (138, spec138), (56, spec56)]
def lv121 : Lives U := fun i => match i with
  | 0 => ([(0, []), (1, [])], [])
  | 1 => ([(0, []), (1, []), (7, []), (8, []), (9, [])], [])
  | 2 => ([(0, []), (1, []), (7, []), (8, []), (9, []), (10, [])], [])
  | 3 => ([(0, []), (1, []), (5, []), (6, []), (7, []), (8, []), (9, [])], [((.loc 6), [])])
  | 4 => ([(0, []), (1, []), (7, []), (8, []), (9, []), (49, [])], [])
  | 5 => ([(4, [])], [])
  | 6 => ([(0, []), (1, []), (7, []), (8, []), (9, [])], [])
  | 7 => ([(4, [])], [])
  | _ => ([], [])
def head121_0 (l : List Kid) (d : Int) (x9 : Int) : LSt U := (⟨[(0, .c (.slice (U := U) .kid l .unk)), (1, .c (.int .i64 d)), (7, .c (.slice (U := U) .kid l .unk)), (8, .c (.int .i64 (l.length : Int))), (9, .c (.int .i64 x9))], [], []⟩ : LSt U)
abbrev W121 (N : Nat) (l : List Kid) (d : Int) (Q : AExit → LSt U → Prop) := awp cfg (know (know121 N)) (drawOk cfg (know (know121 N))) Try.f121.ntmps lv121 (cd Try.f121 []) (⟨[(0, .c (.slice (U := U) .kid l .unk)), (1, .c (.int .i64 d))], [], []⟩ : LSt U) Q
abbrev a121_G20z (N : Nat) := awp cfg (know (know121 N)) (drawOk cfg (know (know121 N))) Try.f121.ntmps lv121
abbrev s121_G20z (N : Nat) := seqK cfg (know (know121 N)) (drawOk cfg (know (know121 N))) Try.f121.ntmps lv121
theorem vc121 (N : Nat) (l : List Kid) (d : Int) (Q : AExit → LSt U → Prop) (h : LoopWp (awp cfg (know (know121 N)) (drawOk cfg (know (know121 N))) Try.f121.ntmps lv121 (cd Try.f121 [1, 0, 1, 0, 0])) (head121_0 l d 0) (AExit.inBlock 0 (seqK cfg (know (know121 N)) (drawOk cfg (know (know121 N))) Try.f121.ntmps lv121 (cd Try.f121 [1, 1]) Q))) :
    W121 N l d Q := by
  have e_ : (W121 N l d Q) = (((LoopWp (a121_G20z N (cd Try.f121 [1, 0, 1, 0, 0])) (head121_0 l d 0) (AExit.inBlock 0 (s121_G20z N (cd Try.f121 [1, 1]) Q))))) := by kernel_rfl
  exact e_.mpr h
abbrev W121_l0 (N : Nat) (l : List Kid) (d : Int) (x9 : Int) (N0 : LSt U → Prop) (Q : AExit → LSt U → Prop) := awp cfg (know (know121 N)) (drawOk cfg (know (know121 N))) Try.f121.ntmps lv121 (cd Try.f121 [1, 0, 1, 0, 0]) (head121_0 l d x9) (AExit.then N0 (AExit.inBlock 0 (seqK cfg (know (know121 N)) (drawOk cfg (know (know121 N))) Try.f121.ntmps lv121 (cd Try.f121 [1, 1]) Q)))
theorem vc121_l0 (N : Nat) (l : List Kid) (d : Int) (x9 : Int) (N0 : LSt U → Prop) (Q : AExit → LSt U → Prop) (h : ∀ y_1, y_1 = (List.getD l (Int.toNat x9) (KidOf.mk 0 Edit.nil)) → ∀ y_2, y_2 = (List.getD l (Int.toNat ((x9 : Int) - 1)) (KidOf.mk 0 Edit.nil)) → ∀ y_3, y_3 = ((KidOf.e y_1)) → ((decide ((x9 : Int) < (l.length : Int))) = true → ((0 : Int) ≤ x9 ∧ x9 < (l.length : Int)) ∧ ((((!(bif (decide (((KidOf.at_ y_1) : Int) < 0)) then true else (decide ((65535 : Int) ≤ (KidOf.at_ y_1))))) && (decide ((0 : Int) < x9))) = true → InR ((x9 : Int) - 1)) ∧ (((!(bif (decide (((KidOf.at_ y_1) : Int) < 0)) then true else (decide ((65535 : Int) ≤ (KidOf.at_ y_1))))) && (decide ((0 : Int) < x9))) = true → (0 : Int) ≤ ((x9 : Int) - 1) ∧ ((x9 : Int) - 1) < (l.length : Int)) ∧ ((!(bif (bif (bif (decide (((KidOf.at_ y_1) : Int) < 0)) then true else (decide ((65535 : Int) ≤ (KidOf.at_ y_1)))) then true else (bif (decide ((0 : Int) < x9)) then (decide (((KidOf.at_ y_1) : Int) ≤ (KidOf.at_ y_2))) else false)) then true else (((Edit.kind (KidOf.e y_1)) : Int) == 0))) = true → pre87 (y_3, d, ())) ∧ ((!(bif (bif (bif (decide (((KidOf.at_ y_1) : Int) < 0)) then true else (decide ((65535 : Int) ≤ (KidOf.at_ y_1)))) then true else (bif (decide ((0 : Int) < x9)) then (decide (((KidOf.at_ y_1) : Int) ≤ (KidOf.at_ y_2))) else false)) then true else (((Edit.kind (KidOf.e y_1)) : Int) == 0))) = true → mu87 (y_3, d, ()) < N) ∧ (((bif (bif (bif (bif (decide (((KidOf.at_ y_1) : Int) < 0)) then true else (decide ((65535 : Int) ≤ (KidOf.at_ y_1)))) then true else (bif (decide ((0 : Int) < x9)) then (decide (((KidOf.at_ y_1) : Int) ≤ (KidOf.at_ y_2))) else false)) then true else (((Edit.kind (KidOf.e y_1)) : Int) == 0)) then true else (!(rightE y_3 d))) = true → Q .ret (⟨[(4, .c (.bool false))], [], []⟩ : LSt U)) ∧ ((bif (bif (bif (bif (decide (((KidOf.at_ y_1) : Int) < 0)) then true else (decide ((65535 : Int) ≤ (KidOf.at_ y_1)))) then true else (bif (decide ((0 : Int) < x9)) then (decide (((KidOf.at_ y_1) : Int) ≤ (KidOf.at_ y_2))) else false)) then true else (((Edit.kind (KidOf.e y_1)) : Int) == 0)) then true else (!(rightE y_3 d))) = false → (InR ((x9 : Int) + 1)) ∧ (N0 (head121_0 l d ((x9 : Int) + 1))))))) ∧ ((decide ((x9 : Int) < (l.length : Int))) = false → Q .ret (⟨[(4, .c (.bool true))], [], []⟩ : LSt U))) :
    W121_l0 N l d x9 N0 Q := by
  have e_ : (W121_l0 N l d x9 N0 Q) = (let y_1 := (List.getD l (Int.toNat x9) (KidOf.mk 0 Edit.nil)); let y_2 := (List.getD l (Int.toNat ((x9 : Int) - 1)) (KidOf.mk 0 Edit.nil)); let y_3 := (reEdit (KidOf.e y_1)); let zz4 := (decide ((KidOf.at_ y_1) < 0)); let zz3 := (decide ((0 : Int) < x9)); let zz2 := (((Edit.kind (KidOf.e y_1)) : Int) == 0); let zz1 := (bif zz3 then (decide ((KidOf.at_ y_1) ≤ (KidOf.at_ y_2))) else false); let zz0 := (bif zz4 then true else (decide ((65535 : Int) ≤ (KidOf.at_ y_1)))); (((decide ((x9 : Int) < (l.length : Int))) = true → ((0 : Int) ≤ x9 ∧ x9 < (l.length : Int)) ∧ ((TrG20z ((!zz4) = true)) ∧ (TrG20z ((!zz4) = true)) ∧ ((zz4 = false → (!zz4) = true)) ∧ (TrG20z ((!zz0) = true)) ∧ (TrG20z ((!zz0) = true)) ∧ (TrG20z (((!zz0) && zz3) = true)) ∧ (((!zz0) && zz3) = true → InR ((x9 : Int) - 1)) ∧ (TrG20z (((!zz0) && zz3) = true)) ∧ (TrG20z (((!zz0) && zz3) = true)) ∧ (((!zz0) && zz3) = true → (0 : Int) ≤ ((x9 : Int) - 1) ∧ ((x9 : Int) - 1) < (l.length : Int)) ∧ (TrG20z (((!zz0) && zz3) = true)) ∧ (TrG20z (((!zz0) && zz3) = true)) ∧ (TrG20z (((!zz0) && zz3) = true)) ∧ (TrG20z (((!zz0) && zz3) = true)) ∧ (TrG20z (((!zz0) && zz3) = true)) ∧ ((!zz0) = true → (True → (!zz0) = true)) ∧ ((!zz0) = true → (zz3 = true → ((!zz0) && zz3) = true)) ∧ ((zz0 = false → (!zz0) = true)) ∧ (TrG20z ((!(bif zz0 then true else zz1)) = true)) ∧ (TrG20z ((!(bif zz0 then true else zz1)) = true)) ∧ (TrG20z ((!(bif zz0 then true else zz1)) = true)) ∧ (((bif zz0 then true else zz1) = false → (!(bif zz0 then true else zz1)) = true)) ∧ (TrG20z ((!(bif (bif zz0 then true else zz1) then true else zz2)) = true)) ∧ (TrG20z ((!(bif (bif zz0 then true else zz1) then true else zz2)) = true)) ∧ (TrG20z ((!(bif (bif zz0 then true else zz1) then true else zz2)) = true)) ∧ ((!(bif (bif zz0 then true else zz1) then true else zz2)) = true → pre87 (y_3, d, ())) ∧ ((!(bif (bif zz0 then true else zz1) then true else zz2)) = true → mu87 (y_3, d, ()) < N) ∧ (TrG20z ((!(bif (bif zz0 then true else zz1) then true else zz2)) = true)) ∧ (((bif (bif zz0 then true else zz1) then true else zz2) = false → (!(bif (bif zz0 then true else zz1) then true else zz2)) = true)) ∧ (((bif (bif (bif zz0 then true else zz1) then true else zz2) then true else (!(rightE y_3 d))) = true → (Q .ret (⟨[(4, .c (.bool false))], [], []⟩ : LSt U))) ∧ ((bif (bif (bif zz0 then true else zz1) then true else zz2) then true else (!(rightE y_3 d))) = false → (InR ((x9 : Int) + 1)) ∧ (N0 (head121_0 l d ((x9 : Int) + 1))))))) ∧ ((decide ((x9 : Int) < (l.length : Int))) = false → (Q .ret (⟨[(4, .c (.bool true))], [], []⟩ : LSt U))))) := by kernel_rfl
  exact e_.mpr (by intro y_1 y_2 y_3; have hh := h y_1 rfl y_2 rfl y_3 (reEdit_eq _); exact ⟨fun c_6 => ⟨(hh.1 c_6).1, ⟨id, id, (by generalize (decide (((KidOf.at_ y_1) : Int) < 0)) = b0; revert b0; decide), id, id, id, (hh.1 c_6).2.1, id, id, (hh.1 c_6).2.2.1, id, id, id, id, id, (by generalize (decide ((65535 : Int) ≤ (KidOf.at_ y_1))) = b0; generalize (decide (((KidOf.at_ y_1) : Int) < 0)) = b1; revert b0 b1; decide), (by generalize (decide ((65535 : Int) ≤ (KidOf.at_ y_1))) = b0; generalize (decide (((KidOf.at_ y_1) : Int) < 0)) = b1; generalize (decide ((0 : Int) < x9)) = b2; revert b0 b1 b2; decide), (by generalize (decide ((65535 : Int) ≤ (KidOf.at_ y_1))) = b0; generalize (decide (((KidOf.at_ y_1) : Int) < 0)) = b1; revert b0 b1; decide), id, id, id, (by generalize (decide (((KidOf.at_ y_1) : Int) ≤ (KidOf.at_ y_2))) = b0; generalize (decide ((65535 : Int) ≤ (KidOf.at_ y_1))) = b1; generalize (decide (((KidOf.at_ y_1) : Int) < 0)) = b2; generalize (decide ((0 : Int) < x9)) = b3; revert b0 b1 b2 b3; decide), id, id, id, (hh.1 c_6).2.2.2.1, (hh.1 c_6).2.2.2.2.1, id, (by generalize (decide (((KidOf.at_ y_1) : Int) ≤ (KidOf.at_ y_2))) = b0; generalize (decide ((65535 : Int) ≤ (KidOf.at_ y_1))) = b1; generalize (((Edit.kind (KidOf.e y_1)) : Int) == 0) = b2; generalize (decide (((KidOf.at_ y_1) : Int) < 0)) = b3; generalize (decide ((0 : Int) < x9)) = b4; revert b0 b1 b2 b3 b4; decide), ⟨fun c_7 => ((hh.1 c_6).2.2.2.2.2.1 c_7), fun c_7 => ⟨((hh.1 c_6).2.2.2.2.2.2 c_7).1, ((hh.1 c_6).2.2.2.2.2.2 c_7).2⟩⟩⟩⟩, fun c_6 => (hh.2 c_6)⟩)
def Body121 (N : Nat) (l : List Kid) (d : Int)  : Prop := awp cfg (know (know121 N)) (drawOk cfg (know (know121 N))) Try.f121.ntmps lv121 (cd Try.f121 []) (entry (args121.can (l, d, ())) []) (EndsQ cfg Try.f121.ntmps Try.f121.results.toList (res121 (l, d, ())) [])
abbrev HB121 : Prop := ∀ (N : Nat) (l : List Kid) (d : Int) (_ : Unit), pre121 (l, d, ()) → mu121 (l, d, ()) < N + 1 → Body121 N l d
noncomputable def know122 (N : Nat) : List (FuncId × Fs U) := (87, fs args87 (fun a => [pre87 a, mu87 a < N]) res87) :: (121, fs args121 (fun a => [pre121 a, mu121 a < N]) res121) :: (122, fs args122 (fun a => [pre122 a, mu122 a < N]) res122) :: (132, fs args132 (fun a => [pre132 a, mu132 a < N]) res132) :: [(118, spec118), (119, spec119), (120, spec120), (48, spec48), (135, spec135), (138, spec138), (56, spec56)]
def lv122 : Lives U := fun i => match i with
  | 0 => ([(1, []), (2, [])], [((.loc 2), [])])
  | 1 => ([(1, []), (2, []), (10, []), (11, []), (12, [])], [((.loc 2), [])])
  | 2 => ([(1, []), (2, []), (10, []), (11, []), (12, []), (13, [])], [((.loc 2), [])])
  | 3 => ([(1, []), (2, []), (6, []), (10, []), (11, []), (12, [])], [((.loc 2), []), ((.loc 6), [])])
  | 4 => ([(1, []), (2, []), (10, []), (11, []), (12, []), (21, [])], [((.loc 2), [])])
  | 5 => ([(4, [])], [])
  | 6 => ([(1, []), (2, []), (10, []), (11, []), (12, [])], [((.loc 2), [])])
  | 7 => ([(7, []), (8, [])], [])
  | 8 => ([(4, [])], [])
  | _ => ([], [])
def head122_0 (e : Edit) (d : Int) (x12 : Int) : LSt U := (⟨[(1, .c (.int .i64 d)), (2, .ptr (.loc 2) 0), (10, .c (.slice (U := U) .op (Edit.ops e) .unk)), (11, .c (.int .i64 ((Edit.ops e).length : Int))), (12, .c (.int .i64 x12))], [((.loc 2), [.int .i64 (Edit.kind e), .int .i64 (Tree.kind (Edit.old e)), .slice (U := U) .u64 (Tree.words (Edit.old e)) .unk, .slice (U := U) .tree (Tree.kids (Edit.old e)) .unk, .int .i64 (Tree.kind (Edit.new e)), .slice (U := U) .u64 (Tree.words (Edit.new e)) .unk, .slice (U := U) .tree (Tree.kids (Edit.new e)) .unk, .slice (U := U) .wedit (Edit.words e) .unk, .slice (U := U) .kid (Edit.kids e) .unk, .int .i64 (Edit.list e), .slice (U := U) .op (Edit.ops e) .unk])], []⟩ : LSt U)
abbrev W122 (N : Nat) (e : Edit) (d : Int) (Q : AExit → LSt U → Prop) := awp cfg (know (know122 N)) (drawOk cfg (know (know122 N))) Try.f122.ntmps lv122 (cd Try.f122 []) (⟨[(0, .agg [.int .i64 (Edit.kind e), .int .i64 (Tree.kind (Edit.old e)), .slice (U := U) .u64 (Tree.words (Edit.old e)) .unk, .slice (U := U) .tree (Tree.kids (Edit.old e)) .unk, .int .i64 (Tree.kind (Edit.new e)), .slice (U := U) .u64 (Tree.words (Edit.new e)) .unk, .slice (U := U) .tree (Tree.kids (Edit.new e)) .unk, .slice (U := U) .wedit (Edit.words e) .unk, .slice (U := U) .kid (Edit.kids e) .unk, .int .i64 (Edit.list e), .slice (U := U) .op (Edit.ops e) .unk]), (1, .c (.int .i64 d))], [], []⟩ : LSt U) Q
abbrev a122_G20z (N : Nat) := awp cfg (know (know122 N)) (drawOk cfg (know (know122 N))) Try.f122.ntmps lv122
abbrev s122_G20z (N : Nat) := seqK cfg (know (know122 N)) (drawOk cfg (know (know122 N))) Try.f122.ntmps lv122
theorem vc122 (N : Nat) (e : Edit) (d : Int) (Q : AExit → LSt U → Prop) (h : LoopWp (awp cfg (know (know122 N)) (drawOk cfg (know (know122 N))) Try.f122.ntmps lv122 (cd Try.f122 [1, 0, 1, 0, 0])) (head122_0 e d 0) (AExit.inBlock 0 (seqK cfg (know (know122 N)) (drawOk cfg (know (know122 N))) Try.f122.ntmps lv122 (cd Try.f122 [1, 1]) Q))) :
    W122 N e d Q := by
  have e_ : (W122 N e d Q) = (((LoopWp (a122_G20z N (cd Try.f122 [1, 0, 1, 0, 0])) (head122_0 e d 0) (AExit.inBlock 0 (s122_G20z N (cd Try.f122 [1, 1]) Q))))) := by kernel_rfl
  exact e_.mpr h
abbrev W122_l0 (N : Nat) (e : Edit) (d : Int) (x12 : Int) (N0 : LSt U → Prop) (Q : AExit → LSt U → Prop) := awp cfg (know (know122 N)) (drawOk cfg (know (know122 N))) Try.f122.ntmps lv122 (cd Try.f122 [1, 0, 1, 0, 0]) (head122_0 e d x12) (AExit.then N0 (AExit.inBlock 0 (seqK cfg (know (know122 N)) (drawOk cfg (know (know122 N))) Try.f122.ntmps lv122 (cd Try.f122 [1, 1]) Q)))
theorem vc122_l0 (N : Nat) (e : Edit) (d : Int) (x12 : Int) (N0 : LSt U → Prop) (Q : AExit → LSt U → Prop) (h : ∀ y_1, y_1 = (e) → ∀ y_2, y_2 = (List.getD (Edit.ops e) (Int.toNat x12) Op.nil) → ∀ y_3, y_3 = (y_2) → ((decide ((x12 : Int) < ((Edit.ops e).length : Int))) = true → ((0 : Int) ≤ x12 ∧ x12 < ((Edit.ops e).length : Int)) ∧ ((pre132 ((Edit.list e), y_3, d, ())) ∧ (mu132 ((Edit.list e), y_3, d, ()) < N) ∧ (((!(rightOp (Edit.list e) y_3 d)) = true → Q .ret (⟨[(4, .c (.bool false))], [], []⟩ : LSt U)) ∧ ((!(rightOp (Edit.list e) y_3 d)) = false → (InR ((x12 : Int) + 1)) ∧ (N0 (head122_0 e d ((x12 : Int) + 1))))))) ∧ ((decide ((x12 : Int) < ((Edit.ops e).length : Int))) = false → (pre56 (y_1, ())) ∧ (Q .ret (⟨[(4, .c (.bool (bif (decide (((lenAW (Edit.ops y_1) 0) : Int) < 1048576)) then (decide (((lenBW (Edit.ops y_1) 0) : Int) < 1048576)) else false)))], [], []⟩ : LSt U)))) :
    W122_l0 N e d x12 N0 Q := by
  have e_ : (W122_l0 N e d x12 N0 Q) = (let y_1 := (reEdit e); let y_2 := (List.getD (Edit.ops e) (Int.toNat x12) Op.nil); let y_3 := (reOp y_2); let zz0 := (decide (((lenAW (Edit.ops y_1) 0) : Int) < 1048576)); (((decide ((x12 : Int) < ((Edit.ops e).length : Int))) = true → ((0 : Int) ≤ x12 ∧ x12 < ((Edit.ops e).length : Int)) ∧ ((pre132 ((Edit.list e), y_3, d, ())) ∧ (mu132 ((Edit.list e), y_3, d, ()) < N) ∧ (((!(rightOp (Edit.list e) y_3 d)) = true → (Q .ret (⟨[(4, .c (.bool false))], [], []⟩ : LSt U))) ∧ ((!(rightOp (Edit.list e) y_3 d)) = false → (InR ((x12 : Int) + 1)) ∧ (N0 (head122_0 e d ((x12 : Int) + 1))))))) ∧ ((decide ((x12 : Int) < ((Edit.ops e).length : Int))) = false → (pre56 (y_1, ())) ∧ ((TrG20z (zz0 = true)) ∧ ((TrG20z (zz0 = true))) ∧ (Q .ret (⟨[(4, .c (.bool (bif zz0 then (decide (((lenBW (Edit.ops y_1) 0) : Int) < 1048576)) else false)))], [], []⟩ : LSt U)))))) := by kernel_rfl
  exact e_.mpr (by intro y_1 y_2 y_3; have hh := h y_1 (reEdit_eq _) y_2 rfl y_3 (reOp_eq _); exact ⟨fun c_8 => ⟨(hh.1 c_8).1, ⟨(hh.1 c_8).2.1, (hh.1 c_8).2.2.1, ⟨fun c_9 => ((hh.1 c_8).2.2.2.1 c_9), fun c_9 => ⟨((hh.1 c_8).2.2.2.2 c_9).1, ((hh.1 c_8).2.2.2.2 c_9).2⟩⟩⟩⟩, fun c_8 => ⟨(hh.2 c_8).1, ⟨id, (by generalize (decide (((lenAW (Edit.ops y_1) 0) : Int) < 1048576)) = b0; revert b0; decide), (hh.2 c_8).2⟩⟩⟩)
def Body122 (N : Nat) (e : Edit) (d : Int)  : Prop := awp cfg (know (know122 N)) (drawOk cfg (know (know122 N))) Try.f122.ntmps lv122 (cd Try.f122 []) (entry (args122.can (e, d, ())) []) (EndsQ cfg Try.f122.ntmps Try.f122.results.toList (res122 (e, d, ())) [])
abbrev HB122 : Prop := ∀ (N : Nat) (e : Edit) (d : Int) (_ : Unit), pre122 (e, d, ()) → mu122 (e, d, ()) < N + 1 → Body122 N e d
noncomputable def know132 (N : Nat) : List (FuncId × Fs U) := (87, fs args87 (fun a => [pre87 a, mu87 a < N]) res87) :: (121, fs args121 (fun a => [pre121 a, mu121 a < N]) res121) :: (122, fs args122 (fun a => [pre122 a, mu122 a < N]) res122) :: (132, fs args132 (fun a => [pre132 a, mu132 a < N]) res132) :: [(118, spec118), (119, spec119), (120, spec120), (48, spec48), (135, spec135), (138, spec138), (56, spec56)]
def lv132 : Lives U := fun i => match i with
  | 0 => ([(2, []), (3, []), (4, [])], [((.loc 3), []), ((.loc 4), [])])
  | 1 => ([(2, []), (3, []), (4, []), (8, [])], [((.loc 3), []), ((.loc 4), [])])
  | 2 => ([(2, []), (3, []), (4, []), (8, []), (9, [])], [((.loc 3), []), ((.loc 4), [])])
  | 3 => ([(2, []), (3, []), (4, []), (8, []), (11, [])], [((.loc 3), []), ((.loc 4), [])])
  | 4 => ([(2, []), (3, []), (4, []), (8, []), (13, [])], [((.loc 3), []), ((.loc 4), [])])
  | 5 => ([(2, []), (3, []), (4, []), (15, [])], [((.loc 3), []), ((.loc 4), [])])
  | 6 => ([(6, [])], [])
  | 7 => ([(6, [])], [])
  | 8 => ([(6, [])], [])
  | 9 => ([(6, [])], [])
  | _ => ([], [])
abbrev W132 (N : Nat) (list : Int) (o : Op) (d : Int) (Q : AExit → LSt U → Prop) := awp cfg (know (know132 N)) (drawOk cfg (know (know132 N))) Try.f132.ntmps lv132 (cd Try.f132 []) (⟨[(0, .c (.int .i64 list)), (1, .agg [.int .i64 (OpOf.kind o), .int .i64 (OpOf.n o), .slice (U := U) .tree (OpOf.l o) .unk, .int .i64 (Edit.kind (OpOf.e o)), .int .i64 (Tree.kind (Edit.old (OpOf.e o))), .slice (U := U) .u64 (Tree.words (Edit.old (OpOf.e o))) .unk, .slice (U := U) .tree (Tree.kids (Edit.old (OpOf.e o))) .unk, .int .i64 (Tree.kind (Edit.new (OpOf.e o))), .slice (U := U) .u64 (Tree.words (Edit.new (OpOf.e o))) .unk, .slice (U := U) .tree (Tree.kids (Edit.new (OpOf.e o))) .unk, .slice (U := U) .wedit (Edit.words (OpOf.e o)) .unk, .slice (U := U) .kid (Edit.kids (OpOf.e o)) .unk, .int .i64 (Edit.list (OpOf.e o)), .slice (U := U) .op (Edit.ops (OpOf.e o)) .unk]), (2, .c (.int .i64 d))], [], []⟩ : LSt U) Q
theorem vc132 (N : Nat) (list : Int) (o : Op) (d : Int) (Q : AExit → LSt U → Prop) (h : ∀ y_1, y_1 = ((OpOf.e o)) → ∀ y_2, y_2 = (.bool (bif (bif (bif (bif (((OpOf.n o) : Int) == 0) then (decide ((0 : Int) < ((OpOf.l o).length : Int))) else false) then (rightE y_1 1) else false) then (((Edit.kind (OpOf.e o)) : Int) == 0) else false) then (!(!(treesOk list (OpOf.l o)))) else false)) → ((((OpOf.kind o) : Int) == 0) = true → ((bif (bif (decide ((1 : Int) ≤ (OpOf.n o))) then (decide (((OpOf.n o) : Int) ≤ 1048576)) else false) then ((((OpOf.l o).length : Int) : Int) == 0) else false) = true → pre87 (y_1, 1, ())) ∧ ((bif (bif (decide ((1 : Int) ≤ (OpOf.n o))) then (decide (((OpOf.n o) : Int) ≤ 1048576)) else false) then ((((OpOf.l o).length : Int) : Int) == 0) else false) = true → mu87 (y_1, 1, ()) < N) ∧ (Q .ret (⟨[(6, .c (.bool (bif (bif (bif (bif (decide ((1 : Int) ≤ (OpOf.n o))) then (decide (((OpOf.n o) : Int) ≤ 1048576)) else false) then ((((OpOf.l o).length : Int) : Int) == 0) else false) then (rightE y_1 1) else false) then (((Edit.kind (OpOf.e o)) : Int) == 0) else false)))], [], []⟩ : LSt U))) ∧ ((((OpOf.kind o) : Int) == 0) = false → ((((OpOf.kind o) : Int) == 1) = true → ((bif (((OpOf.n o) : Int) == 0) then (decide ((0 : Int) < ((OpOf.l o).length : Int))) else false) = true → pre87 (y_1, 1, ())) ∧ ((bif (((OpOf.n o) : Int) == 0) then (decide ((0 : Int) < ((OpOf.l o).length : Int))) else false) = true → mu87 (y_1, 1, ()) < N) ∧ ((bif (bif (bif (((OpOf.n o) : Int) == 0) then (decide ((0 : Int) < ((OpOf.l o).length : Int))) else false) then (rightE y_1 1) else false) then (((Edit.kind (OpOf.e o)) : Int) == 0) else false) = true → pre135 ((OpOf.l o), (list, ()), ())) ∧ (Q .ret (⟨[(6, .c y_2)], [], []⟩ : LSt U))) ∧ ((((OpOf.kind o) : Int) == 1) = false → ((((OpOf.kind o) : Int) == 2) = true → ((bif (((OpOf.n o) : Int) == 0) then (decide ((0 : Int) < ((OpOf.l o).length : Int))) else false) = true → pre87 (y_1, 1, ())) ∧ ((bif (((OpOf.n o) : Int) == 0) then (decide ((0 : Int) < ((OpOf.l o).length : Int))) else false) = true → mu87 (y_1, 1, ()) < N) ∧ ((bif (bif (bif (((OpOf.n o) : Int) == 0) then (decide ((0 : Int) < ((OpOf.l o).length : Int))) else false) then (rightE y_1 1) else false) then (((Edit.kind (OpOf.e o)) : Int) == 0) else false) = true → pre135 ((OpOf.l o), (list, ()), ())) ∧ (Q .ret (⟨[(6, .c y_2)], [], []⟩ : LSt U))) ∧ ((((OpOf.kind o) : Int) == 2) = false → ((((OpOf.kind o) : Int) == 3) = true → ((bif (((OpOf.n o) : Int) == 0) then ((((OpOf.l o).length : Int) : Int) == 0) else false) = true → pre138 (list, y_1, ())) ∧ ((bif (bif (((OpOf.n o) : Int) == 0) then ((((OpOf.l o).length : Int) : Int) == 0) else false) then (withinB list y_1) else false) = true → pre87 (y_1, d, ())) ∧ ((bif (bif (((OpOf.n o) : Int) == 0) then ((((OpOf.l o).length : Int) : Int) == 0) else false) then (withinB list y_1) else false) = true → mu87 (y_1, d, ()) < N) ∧ (Q .ret (⟨[(6, .c (.bool (bif (bif (bif (((OpOf.n o) : Int) == 0) then ((((OpOf.l o).length : Int) : Int) == 0) else false) then (withinB list y_1) else false) then (rightE y_1 d) else false)))], [], []⟩ : LSt U))) ∧ ((((OpOf.kind o) : Int) == 3) = false → Q .ret (⟨[(6, .c (.bool false))], [], []⟩ : LSt U)))))) :
    W132 N list o d Q := by
  have e_ : (W132 N list o d Q) = (let y_1 := (reEdit (OpOf.e o)); let y_2 := (.bool (bif (bif (bif (bif ((OpOf.n o) == 0) then (decide ((0 : Int) < ((OpOf.l o).length : Int))) else false) then (rightE y_1 1) else false) then (((Edit.kind (OpOf.e o)) : Int) == 0) else false) then (!(!(treesOk list (OpOf.l o)))) else false)); let zz5 := (decide ((1 : Int) ≤ (OpOf.n o))); let zz4 := (bif zz5 then (decide ((OpOf.n o) ≤ 1048576)) else false); let zz3 := (((Edit.kind (OpOf.e o)) : Int) == 0); let zz2 := (bif ((OpOf.n o) == 0) then (((OpOf.l o).length : Int) == 0) else false); let zz1 := (bif zz4 then (((OpOf.l o).length : Int) == 0) else false); let zz0 := (bif ((OpOf.n o) == 0) then (decide ((0 : Int) < ((OpOf.l o).length : Int))) else false); ((((((OpOf.kind o) == 0) = true → (TrG20z (zz5 = true)) ∧ (TrG20z (zz5 = true)) ∧ ((TrG20z (zz5 = true))) ∧ (TrG20z (zz4 = true)) ∧ (TrG20z (zz4 = true)) ∧ (TrG20z (zz4 = true)) ∧ ((TrG20z (zz4 = true))) ∧ (TrG20z (zz1 = true)) ∧ (TrG20z (zz1 = true)) ∧ (zz1 = true → pre87 (y_1, 1, ())) ∧ (zz1 = true → mu87 (y_1, 1, ()) < N) ∧ ((TrG20z (zz1 = true))) ∧ (TrG20z ((bif zz1 then (rightE y_1 1) else false) = true)) ∧ (TrG20z ((bif zz1 then (rightE y_1 1) else false) = true)) ∧ (TrG20z ((bif zz1 then (rightE y_1 1) else false) = true)) ∧ ((TrG20z ((bif zz1 then (rightE y_1 1) else false) = true))) ∧ (Q .ret (⟨[(6, .c (.bool (bif (bif zz1 then (rightE y_1 1) else false) then zz3 else false)))], [], []⟩ : LSt U))) ∧ (((OpOf.kind o) == 0) = false → ((((OpOf.kind o) == 1) = true → (TrG20z (((OpOf.n o) == 0) = true)) ∧ (TrG20z (((OpOf.n o) == 0) = true)) ∧ (TrG20z (((OpOf.n o) == 0) = true)) ∧ ((TrG20z (((OpOf.n o) == 0) = true))) ∧ (TrG20z (zz0 = true)) ∧ (TrG20z (zz0 = true)) ∧ (zz0 = true → pre87 (y_1, 1, ())) ∧ (zz0 = true → mu87 (y_1, 1, ()) < N) ∧ ((TrG20z (zz0 = true))) ∧ (TrG20z ((bif zz0 then (rightE y_1 1) else false) = true)) ∧ (TrG20z ((bif zz0 then (rightE y_1 1) else false) = true)) ∧ (TrG20z ((bif zz0 then (rightE y_1 1) else false) = true)) ∧ ((TrG20z ((bif zz0 then (rightE y_1 1) else false) = true))) ∧ (TrG20z ((bif (bif zz0 then (rightE y_1 1) else false) then zz3 else false) = true)) ∧ (TrG20z ((bif (bif zz0 then (rightE y_1 1) else false) then zz3 else false) = true)) ∧ (TrG20z ((bif (bif zz0 then (rightE y_1 1) else false) then zz3 else false) = true)) ∧ ((bif (bif zz0 then (rightE y_1 1) else false) then zz3 else false) = true → pre135 ((OpOf.l o), (list, ()), ())) ∧ (TrG20z ((bif (bif zz0 then (rightE y_1 1) else false) then zz3 else false) = true)) ∧ ((TrG20z ((bif (bif zz0 then (rightE y_1 1) else false) then zz3 else false) = true))) ∧ (Q .ret (⟨[(6, .c y_2)], [], []⟩ : LSt U))) ∧ (((OpOf.kind o) == 1) = false → ((((OpOf.kind o) == 2) = true → (TrG20z (((OpOf.n o) == 0) = true)) ∧ (TrG20z (((OpOf.n o) == 0) = true)) ∧ (TrG20z (((OpOf.n o) == 0) = true)) ∧ ((TrG20z (((OpOf.n o) == 0) = true))) ∧ (TrG20z (zz0 = true)) ∧ (TrG20z (zz0 = true)) ∧ (zz0 = true → pre87 (y_1, 1, ())) ∧ (zz0 = true → mu87 (y_1, 1, ()) < N) ∧ ((TrG20z (zz0 = true))) ∧ (TrG20z ((bif zz0 then (rightE y_1 1) else false) = true)) ∧ (TrG20z ((bif zz0 then (rightE y_1 1) else false) = true)) ∧ (TrG20z ((bif zz0 then (rightE y_1 1) else false) = true)) ∧ ((TrG20z ((bif zz0 then (rightE y_1 1) else false) = true))) ∧ (TrG20z ((bif (bif zz0 then (rightE y_1 1) else false) then zz3 else false) = true)) ∧ (TrG20z ((bif (bif zz0 then (rightE y_1 1) else false) then zz3 else false) = true)) ∧ (TrG20z ((bif (bif zz0 then (rightE y_1 1) else false) then zz3 else false) = true)) ∧ ((bif (bif zz0 then (rightE y_1 1) else false) then zz3 else false) = true → pre135 ((OpOf.l o), (list, ()), ())) ∧ (TrG20z ((bif (bif zz0 then (rightE y_1 1) else false) then zz3 else false) = true)) ∧ ((TrG20z ((bif (bif zz0 then (rightE y_1 1) else false) then zz3 else false) = true))) ∧ (Q .ret (⟨[(6, .c y_2)], [], []⟩ : LSt U))) ∧ (((OpOf.kind o) == 2) = false → ((((OpOf.kind o) == 3) = true → (TrG20z (((OpOf.n o) == 0) = true)) ∧ (TrG20z (((OpOf.n o) == 0) = true)) ∧ (TrG20z (((OpOf.n o) == 0) = true)) ∧ ((TrG20z (((OpOf.n o) == 0) = true))) ∧ (TrG20z (zz2 = true)) ∧ (TrG20z (zz2 = true)) ∧ (TrG20z (zz2 = true)) ∧ (zz2 = true → pre138 (list, y_1, ())) ∧ ((TrG20z (zz2 = true))) ∧ (TrG20z ((bif zz2 then (withinB list y_1) else false) = true)) ∧ (TrG20z ((bif zz2 then (withinB list y_1) else false) = true)) ∧ (TrG20z ((bif zz2 then (withinB list y_1) else false) = true)) ∧ ((bif zz2 then (withinB list y_1) else false) = true → pre87 (y_1, d, ())) ∧ ((bif zz2 then (withinB list y_1) else false) = true → mu87 (y_1, d, ()) < N) ∧ ((TrG20z ((bif zz2 then (withinB list y_1) else false) = true))) ∧ (Q .ret (⟨[(6, .c (.bool (bif (bif zz2 then (withinB list y_1) else false) then (rightE y_1 d) else false)))], [], []⟩ : LSt U))) ∧ (((OpOf.kind o) == 3) = false → (Q .ret (⟨[(6, .c (.bool false))], [], []⟩ : LSt U))))))))))))) := by kernel_rfl
  exact e_.mpr (by intro y_1 y_2; have hh := h y_1 (reEdit_eq _) y_2 rfl; exact ⟨fun c_10 => ⟨id, id, (by generalize (decide ((1 : Int) ≤ (OpOf.n o))) = b0; revert b0; decide), id, id, id, (by generalize (decide (((OpOf.n o) : Int) ≤ 1048576)) = b0; generalize (decide ((1 : Int) ≤ (OpOf.n o))) = b1; revert b0 b1; decide), id, id, (hh.1 c_10).1, (hh.1 c_10).2.1, (by generalize ((((OpOf.l o).length : Int) : Int) == 0) = b0; generalize (decide (((OpOf.n o) : Int) ≤ 1048576)) = b1; generalize (decide ((1 : Int) ≤ (OpOf.n o))) = b2; revert b0 b1 b2; decide), id, id, id, (by generalize (rightE y_1 1) = b0; generalize ((((OpOf.l o).length : Int) : Int) == 0) = b1; generalize (decide (((OpOf.n o) : Int) ≤ 1048576)) = b2; generalize (decide ((1 : Int) ≤ (OpOf.n o))) = b3; revert b0 b1 b2 b3; decide), (hh.1 c_10).2.2⟩, fun c_10 => ⟨fun c_11 => ⟨id, id, id, (by generalize (((OpOf.n o) : Int) == 0) = b0; revert b0; decide), id, id, ((hh.2 c_10).1 c_11).1, ((hh.2 c_10).1 c_11).2.1, (by generalize (decide ((0 : Int) < ((OpOf.l o).length : Int))) = b0; generalize (((OpOf.n o) : Int) == 0) = b1; revert b0 b1; decide), id, id, id, (by generalize (rightE y_1 1) = b0; generalize (decide ((0 : Int) < ((OpOf.l o).length : Int))) = b1; generalize (((OpOf.n o) : Int) == 0) = b2; revert b0 b1 b2; decide), id, id, id, ((hh.2 c_10).1 c_11).2.2.1, id, (by generalize (rightE y_1 1) = b0; generalize (decide ((0 : Int) < ((OpOf.l o).length : Int))) = b1; generalize (((Edit.kind (OpOf.e o)) : Int) == 0) = b2; generalize (((OpOf.n o) : Int) == 0) = b3; revert b0 b1 b2 b3; decide), ((hh.2 c_10).1 c_11).2.2.2⟩, fun c_11 => ⟨fun c_12 => ⟨id, id, id, (by generalize (((OpOf.n o) : Int) == 0) = b0; revert b0; decide), id, id, (((hh.2 c_10).2 c_11).1 c_12).1, (((hh.2 c_10).2 c_11).1 c_12).2.1, (by generalize (decide ((0 : Int) < ((OpOf.l o).length : Int))) = b0; generalize (((OpOf.n o) : Int) == 0) = b1; revert b0 b1; decide), id, id, id, (by generalize (rightE y_1 1) = b0; generalize (decide ((0 : Int) < ((OpOf.l o).length : Int))) = b1; generalize (((OpOf.n o) : Int) == 0) = b2; revert b0 b1 b2; decide), id, id, id, (((hh.2 c_10).2 c_11).1 c_12).2.2.1, id, (by generalize (rightE y_1 1) = b0; generalize (decide ((0 : Int) < ((OpOf.l o).length : Int))) = b1; generalize (((Edit.kind (OpOf.e o)) : Int) == 0) = b2; generalize (((OpOf.n o) : Int) == 0) = b3; revert b0 b1 b2 b3; decide), (((hh.2 c_10).2 c_11).1 c_12).2.2.2⟩, fun c_12 => ⟨fun c_13 => ⟨id, id, id, (by generalize (((OpOf.n o) : Int) == 0) = b0; revert b0; decide), id, id, id, ((((hh.2 c_10).2 c_11).2 c_12).1 c_13).1, (by generalize ((((OpOf.l o).length : Int) : Int) == 0) = b0; generalize (((OpOf.n o) : Int) == 0) = b1; revert b0 b1; decide), id, id, id, ((((hh.2 c_10).2 c_11).2 c_12).1 c_13).2.1, ((((hh.2 c_10).2 c_11).2 c_12).1 c_13).2.2.1, (by generalize (withinB list y_1) = b0; generalize ((((OpOf.l o).length : Int) : Int) == 0) = b1; generalize (((OpOf.n o) : Int) == 0) = b2; revert b0 b1 b2; decide), ((((hh.2 c_10).2 c_11).2 c_12).1 c_13).2.2.2⟩, fun c_13 => ((((hh.2 c_10).2 c_11).2 c_12).2 c_13)⟩⟩⟩⟩)
def Body132 (N : Nat) (list : Int) (o : Op) (d : Int)  : Prop := awp cfg (know (know132 N)) (drawOk cfg (know (know132 N))) Try.f132.ntmps lv132 (cd Try.f132 []) (entry (args132.can (list, o, d, ())) []) (EndsQ cfg Try.f132.ntmps Try.f132.results.toList (res132 (list, o, d, ())) [])
abbrev HB132 : Prop := ∀ (N : Nat) (list : Int) (o : Op) (d : Int) (_ : Unit), pre132 (list, o, d, ()) → mu132 (list, o, d, ()) < N + 1 → Body132 N list o d
noncomputable def know58 : List (FuncId × Fs U) := [(87, spec87)]
def lv58 : Lives U := fun i => match i with
  | 0 => ([(1, [])], [((.loc 1), [])])
  | 1 => ([(2, [])], [])
  | _ => ([], [])
abbrev W58 (e : Edit) (Q : AExit → LSt U → Prop) := awp cfg (know know58) (drawOk cfg (know know58)) Try.f58.ntmps lv58 (cd Try.f58 []) (⟨[(0, .agg [.int .i64 (Edit.kind e), .int .i64 (Tree.kind (Edit.old e)), .slice (U := U) .u64 (Tree.words (Edit.old e)) .unk, .slice (U := U) .tree (Tree.kids (Edit.old e)) .unk, .int .i64 (Tree.kind (Edit.new e)), .slice (U := U) .u64 (Tree.words (Edit.new e)) .unk, .slice (U := U) .tree (Tree.kids (Edit.new e)) .unk, .slice (U := U) .wedit (Edit.words e) .unk, .slice (U := U) .kid (Edit.kids e) .unk, .int .i64 (Edit.list e), .slice (U := U) .op (Edit.ops e) .unk])], [], []⟩ : LSt U) Q
theorem vc58 (e : Edit) (Q : AExit → LSt U → Prop) (h : (pre87 ((Edit.mk (Edit.kind e) (Tree.mk (Tree.kind (Edit.old e)) (Tree.words (Edit.old e)) (Tree.kids (Edit.old e))) (Tree.mk (Tree.kind (Edit.new e)) (Tree.words (Edit.new e)) (Tree.kids (Edit.new e))) (Edit.words e) (Edit.kids e) (Edit.list e) (Edit.ops e)), 64, ())) ∧ (Q .ret (⟨[(2, .c (.bool (rightE (Edit.mk (Edit.kind e) (Tree.mk (Tree.kind (Edit.old e)) (Tree.words (Edit.old e)) (Tree.kids (Edit.old e))) (Tree.mk (Tree.kind (Edit.new e)) (Tree.words (Edit.new e)) (Tree.kids (Edit.new e))) (Edit.words e) (Edit.kids e) (Edit.list e) (Edit.ops e)) 64)))], [], []⟩ : LSt U))) :
    W58 e Q := by
  have e_ : (W58 e Q) = (type_of% h) := by kernel_rfl
  exact e_.mpr ⟨h.1, h.2⟩
def Body58 (e : Edit)  : Prop := awp cfg (know (know58)) (drawOk cfg (know (know58))) Try.f58.ntmps lv58 (cd Try.f58 []) (entry (args58.can (e, ())) []) (EndsQ cfg Try.f58.ntmps Try.f58.results.toList (res58 (e, ())) [])
theorem make58 (c87 : Contract Try.prog cfg 87 spec87) (hb : ∀ (e : Edit) (_ : Unit), pre58 (e, ()) → Body58 e) : Contract Try.prog cfg 58 spec58 :=
  contract_flat (l := [(87, spec87)]) cfgOk rfl (⟨c87, trivial⟩) lv58 Try.func58 rfl rfl 1 (fun _ => rfl) (by decide) (fun ⟨e, _⟩ => hb e ())
theorem make87_ (c118 : Contract Try.prog cfg 118 spec118) (c119 : Contract Try.prog cfg 119 spec119) (c120 : Contract Try.prog cfg 120 spec120) (c48 : Contract Try.prog cfg 48 spec48) (c135 : Contract Try.prog cfg 135 spec135) (c138 : Contract Try.prog cfg 138 spec138) (c56 : Contract Try.prog cfg 56 spec56) (b87 : HB87) (b121 : HB121) (b122 : HB122) (b132 : HB132) :
    Contract Try.prog cfg 87 spec87 ∧ Contract Try.prog cfg 121 spec121 ∧ Contract Try.prog cfg 122 spec122 ∧ Contract Try.prog cfg 132 spec132 := by
  have h87 : ∃ fn, Try.prog.funcs[(87 : FuncId)]? = some fn ∧ fn.body.isSome = true ∧ (fn.name == "runtime.NumGoroutine") = false := ⟨Try.f87, Try.func87, rfl, rfl⟩
  have h121 : ∃ fn, Try.prog.funcs[(121 : FuncId)]? = some fn ∧ fn.body.isSome = true ∧ (fn.name == "runtime.NumGoroutine") = false := ⟨Try.f121, Try.func121, rfl, rfl⟩
  have h122 : ∃ fn, Try.prog.funcs[(122 : FuncId)]? = some fn ∧ fn.body.isSome = true ∧ (fn.name == "runtime.NumGoroutine") = false := ⟨Try.f122, Try.func122, rfl, rfl⟩
  have h132 : ∃ fn, Try.prog.funcs[(132 : FuncId)]? = some fn ∧ fn.body.isSome = true ∧ (fn.name == "runtime.NumGoroutine") = false := ⟨Try.f132, Try.func132, rfl, rfl⟩
  have key : ∀ N, Contract Try.prog cfg 87 (fs args87 (fun a => [pre87 a, mu87 a < N]) res87) ∧ Contract Try.prog cfg 121 (fs args121 (fun a => [pre121 a, mu121 a < N]) res121) ∧ Contract Try.prog cfg 122 (fs args122 (fun a => [pre122 a, mu122 a < N]) res122) ∧ Contract Try.prog cfg 132 (fs args132 (fun a => [pre132 a, mu132 a < N]) res132) := by
    intro N
    induction N with
    | zero => exact ⟨fs_zero h87, fs_zero h121, fs_zero h122, fs_zero h132⟩
    | succ N ih =>
      have kn := know_ok (l := know87 N) ⟨ih.1, ih.2.1, ih.2.2.1, ih.2.2.2, c118, c119, c120, c48, c135, c138, c56, trivial⟩
      exact ⟨contract_fs (Γ := know (know87 N)) cfgOk rfl kn lv87 Try.func87 rfl rfl (fun a => by show 2 ≤ _; decide) (fun ⟨e, d, _⟩ h => b87 N e d () h.1 h.2.1),
        contract_fs (Γ := know (know87 N)) cfgOk rfl kn lv121 Try.func121 rfl rfl (fun a => by show 2 ≤ _; decide) (fun ⟨l, d, _⟩ h => b121 N l d () h.1 h.2.1),
        contract_fs (Γ := know (know87 N)) cfgOk rfl kn lv122 Try.func122 rfl rfl (fun a => by show 2 ≤ _; decide) (fun ⟨e, d, _⟩ h => b122 N e d () h.1 h.2.1),
        contract_fs (Γ := know (know87 N)) cfgOk rfl kn lv132 Try.func132 rfl rfl (fun a => by show 3 ≤ _; decide) (fun ⟨list, o, d, _⟩ h => b132 N list o d () h.1 h.2.1)⟩
  exact ⟨fs_less h87 fun N => (key N).1, fs_less h121 fun N => (key N).2.1, fs_less h122 fun N => (key N).2.2.1, fs_less h132 fun N => (key N).2.2.2⟩
end
end Go.AM.Ytlahjnelghpmeaa

namespace Go.AM.Ytlahjnelghpmeaa
open Go.AM Go.Proofs
theorem sameE_iff {e : Edit} : (rightE e 1 = true ∧ e.kind = 0) ↔ sameE e = true := by
  rw [rightE_at]
  simp only [sameE, Bool.and_eq_true, decide_eq_true_eq]
  by_cases hk : e.kind = 0
  · rw [if_neg (by omega)]
    by_cases hb : noneT e.old = true ∧ noneT e.new = true
    · by_cases hw : e.words.length = 0 ∧ e.kids.length = 0
      · by_cases hl : e.list = 0 ∧ e.ops.length = 0
        · have h1 : e.words = [] := List.length_eq_zero_iff.1 hw.1
          have h2 : e.kids = [] := List.length_eq_zero_iff.1 hw.2
          have h3 : e.ops = [] := List.length_eq_zero_iff.1 hl.2
          rw [if_neg (fun h => by rcases h with h | h | h; exact h.2 hb; exact h.2 hw; omega), if_neg (by omega), h1, h2, h3]
          simp only [wordsOk, rightKs, rightOs, lenA, lenB, Bool.true_and, Bool.and_true, Bool.and_eq_true, decide_eq_true_eq]
          refine ⟨fun _ => ⟨⟨⟨hk, hb.1⟩, hb.2⟩, rfl, rfl, rfl, hl.1⟩, fun _ => by simp [hk]⟩
        · rw [if_pos (Or.inr (Or.inr ⟨by omega, by omega⟩))]
          refine ⟨fun h => (nomatch h.1), fun h => absurd ⟨h.2.2.2.2, h.2.2.2.1⟩ hl⟩
      · rw [if_pos (Or.inr (Or.inl ⟨by omega, hw⟩))]
        refine ⟨fun h => (nomatch h.1), fun h => absurd ⟨h.2.1, h.2.2.1⟩ hw⟩
    · rw [if_pos (Or.inl ⟨by omega, hb⟩)]
      refine ⟨fun h => (nomatch h.1), fun h => absurd ⟨h.1.1.2, h.1.2⟩ hb⟩
  · exact ⟨fun h => absurd h.2 hk, fun h => absurd h.1.1.1 hk⟩
theorem b87 : HB87 := by
  intro N e d _ hp hN
  simp only [pre87, mu87] at hp hN
  obtain ⟨⟨hm, hr⟩, hd0, hd1⟩ := hp
  obtain ⟨ik, ro, rn, rw', il, rk, ros⟩ := rngE_at hr
  have hme := len_massE e
  have hkl := massKs_len e.kids
  have hol := massOs_len e.ops
  have hat := rightE_at e d
  refine vc87 N e d _ ?_
  rintro y1 hy1 y2 hy2 y3 hy3
  subst hy1 hy2 hy3
  (simp only [vcS])
  have hbare : bareE y1 = true ↔ ¬((y1.kind ≠ 1 ∧ ¬(noneT y1.old = true ∧ noneT y1.new = true)) ∨ (y1.kind ≠ 2 ∧ ¬(y1.words.length = 0 ∧ y1.kids.length = 0)) ∨ (y1.kind ≠ 3 ∧ (y1.list ≠ 0 ∨ y1.ops.length ≠ 0))) := by
    unfold bareE
    split
    · rename_i h; exact ⟨fun h => (nomatch h), fun h2 => absurd h h2⟩
    · rename_i h; exact ⟨fun _ => h, fun _ => rfl⟩
  refine ⟨by simp only [pre118]; omega, fun hc => ends_bool rfl ?_, fun hc => ?_⟩
  · rcases hc with hc | hc
    · rw [hat]
      split
      · rfl
      · rw [if_pos (Classical.byContradiction fun h => by rw [hbare.2 h] at hc; cases hc)]
    · rw [hat, if_pos (Or.inl hc)]
  have hb := hbare.1 hc.1
  have hr2 : ¬(y1.kind = 0 ∨ y1.kind = 1 ∨ y1.kind = 2 ∨ y1.kind = 3) → rightE y1 d = false := fun h => by rw [hat, if_pos (by omega)]
  by_cases hk : y1.kind = 0 ∨ y1.kind = 1 ∨ y1.kind = 2 ∨ y1.kind = 3
  · rw [if_neg (by omega), if_neg hb] at hat
    have hw : y1.kind ≠ 2 → y1.words = [] ∧ y1.kids = [] := by
      intro h
      have : y1.words.length = 0 ∧ y1.kids.length = 0 := Classical.byContradiction fun h2 => hb (Or.inr (Or.inl ⟨h, h2⟩))
      exact ⟨List.length_eq_zero_iff.1 this.1, List.length_eq_zero_iff.1 this.2⟩
    have ho : y1.kind ≠ 3 → y1.list = 0 ∧ y1.ops = [] := by
      intro h
      have : y1.list = 0 ∧ y1.ops.length = 0 := by
        constructor
        · exact Classical.byContradiction fun h2 => hb (Or.inr (Or.inr ⟨h, Or.inl h2⟩))
        · exact Classical.byContradiction fun h2 => hb (Or.inr (Or.inr ⟨h, Or.inr h2⟩))
      exact ⟨this.1, List.length_eq_zero_iff.1 this.2⟩
    refine ⟨fun h0 => ends_bool rfl ?_, fun h0 => ⟨fun h1 => ⟨by simp only [pre119]; exact ⟨by omega, ro⟩, fun _ => by simp only [pre119]; exact ⟨by omega, rn⟩, ends_bool rfl ?_⟩, fun h1 => ⟨fun h2 => ⟨by simp only [pre120]; exact ⟨by omega, rw'⟩, fun _ => by unfold InR; omega, fun _ => by simp only [pre121]; exact ⟨⟨by omega, rk⟩, by omega, by omega⟩, fun _ => by simp only [mu121]; omega, ends_bool rfl ?_⟩, fun h2 => ⟨fun h3 => ⟨trivial, fun _ => by unfold InR; omega, fun hl => by simp only [pre122]; exact ⟨⟨by omega, hr, hl⟩, by omega, by omega⟩, fun _ => by simp only [mu122]; omega, ends_bool rfl ?_⟩, fun h3 => ?_⟩⟩⟩⟩
    · rw [hat, if_neg (by omega), (hw (by omega)).1, (hw (by omega)).2, (ho (by omega)).1, (ho (by omega)).2]
      simp [wordsOk, rightKs, rightOs, lenA, lenB]
      omega
    · rw [hat, if_pos h1, Bool.eq_iff_iff]
      (simp only [vcS])
      exact ⟨fun h => ⟨⟨h.1.2, h.2.2⟩, h.1.1, h.2.1⟩, fun h => ⟨⟨h.2.1, h.1.1⟩, h.2.2, h.1.2⟩⟩
    · rw [hat, if_neg h1, (ho (by omega)).1, (ho (by omega)).2, Bool.eq_iff_iff]
      simp only [rightOs, lenA, lenB]
      (simp only [vcS])
      constructor
      · rintro ⟨a, b⟩
        exact ⟨⟨⟨⟨a, b⟩, by omega⟩, trivial⟩, by decide⟩
      · rintro ⟨⟨⟨⟨a, b⟩, _⟩, _⟩, _⟩
        exact ⟨a, b⟩
    · rw [hat, if_neg h1, (hw (by omega)).1, (hw (by omega)).2, Bool.eq_iff_iff]
      simp only [wordsOk, rightKs]
      (simp only [vcS])
      constructor
      · rintro ⟨a, b, c⟩
        exact ⟨⟨⟨⟨trivial, trivial⟩, by omega⟩, b⟩, c⟩
      · rintro ⟨⟨⟨_, a⟩, b⟩, c⟩
        exact ⟨by omega, b, c⟩
    · omega
  · have he := hr2 hk
    refine ⟨fun h0 => by omega, fun h0 => ⟨fun h1 => by omega, fun h1 => ⟨fun h2 => by omega, fun h2 => ⟨fun h3 => by omega, fun h3 => ends_bool rfl ?_⟩⟩⟩⟩
    rw [he]
theorem b121 : HB121 := by
  intro N l d _ hp hN
  simp only [pre121, mu121] at hp hN
  obtain ⟨⟨hm, hr⟩, hd0, hd1⟩ := hp
  have hl := massKs_len l
  refine vc121 N l d _ ?_
  refine loop_rule (ι := Int) (fun i => head121_0 l d i) (fun i => 0 ≤ i ∧ i ≤ l.length ∧ ∃ last, -1 ≤ last ∧ (i = 0 → last = -1) ∧ (0 < i → last = (l.getD (i - 1).toNat (KidOf.mk 0 Edit.nil)).at_) ∧ rightKs last (l.drop i.toNat) d = rightKs (-1) l d) (fun i => ((l.length : Int) - i).toNat) 0 rfl ⟨by omega, by omega, -1, by omega, fun _ => rfl, fun h => by omega, by simp⟩ ?_
  rintro i ⟨g1, g2, last, g3, g4, g5, g6⟩
  refine vc121_l0 N l d i _ _ ?_
  rintro y1 hy1 y2 hy2 y3 hy3
  (simp only [vcS])
  refine ⟨fun hi => ?_, fun hi => ?_⟩
  · have hmem := mem_getD (l := l) (i := i.toNat) (by omega) (KidOf.mk 0 Edit.nil)
    have hmk := massKs_mem hmem
    have hrk := rngKs_mem hr hmem
    rw [dropI g1 hi (KidOf.mk 0 Edit.nil)] at g6
    rw [← hy1] at g6 hmk hrk
    rw [← hy2] at g5
    rw [← hy3] at hmk hrk
    simp only [rightKs, rightKid_at] at g6
    rw [← hy3] at g6
    have hk : y1.e.kind = y3.kind := by rw [hy3]
    rw [hk]
    have gl : (¬0 < i ∨ ¬y1.at_ ≤ y2.at_) ∧ ¬y1.at_ < 0 ↔ last < y1.at_ ∧ ¬ y1.at_ < 0 := by
      by_cases h0 : 0 < i
      · have := g5 h0; omega
      · have := g4 (by omega); omega
    refine ⟨⟨g1, hi⟩, fun _ => by unfold InR; omega, fun _ => by omega, fun _ => ?_, fun _ => by simp only [mu87]; omega, fun hc => ends_bool rfl ?_, fun hc => ⟨by unfold InR; omega, i + 1, rfl, ⟨by omega, by omega, y1.at_, by omega, fun h => by omega, fun _ => by rw [show (i + 1 - 1).toNat = i.toNat by omega, ← hy1], ?_⟩, by omega⟩⟩
    · simp only [pre87]
      exact ⟨⟨by omega, hrk.2⟩, hd0, hd1⟩
    · rw [← g6]
      by_cases hr : rightE y3 d = true
      · rw [decide_eq_false (fun h => ?_)]
        · rfl
        · rcases hc with hc | hc
          · rcases hc with (hc | hc) | hc
            · omega
            · by_cases h0 : 0 < i
              · have := g5 h0; omega
              · omega
            · exact h.2.2 hc
          · rw [hr] at hc; cases hc
      · simp only [Bool.not_eq_true] at hr
        rw [hr]; simp
    · rw [← g6, hc.2, decide_eq_true (show last < y1.at_ ∧ y1.at_ ≤ 65534 ∧ y3.kind ≠ 0 by
        refine ⟨?_, by omega, hc.1.2⟩
        by_cases h0 : 0 < i
        · have := g5 h0; omega
        · have := g4 (by omega); omega)]
      rfl
  · rw [List.drop_of_length_le (by omega)] at g6
    simp only [res121]
    rw [← g6]
    exact ends_bool rfl rfl
theorem rightOs_every {list d : Int} : ∀ {os : List Op}, (∀ o ∈ os, rightOp list o d = true) → rightOs list os d = true
  | [], _ => rfl
  | o :: r, h => by
    simp only [rightOs, Bool.and_eq_true]
    exact ⟨h o (List.mem_cons_self ..), rightOs_every (fun x hx => h x (List.mem_cons_of_mem _ hx))⟩
theorem b122 : HB122 := by
  intro N e d _ hp hN
  simp only [pre122, mu122] at hp hN
  obtain ⟨⟨hm, hr, hl⟩, hd0, hd1⟩ := hp
  obtain ⟨ik, ro, rn, rw', il, rk, ros⟩ := rngE_at hr
  have hme := len_massE e
  have hol := massOs_len e.ops
  refine vc122 N e d _ ?_
  refine loop_rule (ι := Int) (fun i => head122_0 e d i) (fun i => 0 ≤ i ∧ i ≤ e.ops.length ∧ ∀ o ∈ e.ops.take i.toNat, rightOp e.list o d = true) (fun i => ((e.ops.length : Int) - i).toNat) 0 rfl ⟨by omega, by omega, by simp⟩ ?_
  rintro i ⟨g1, g2, g3⟩
  refine vc122_l0 N e d i _ _ ?_
  rintro y1 hy1 y2 hy2 y3 hy3
  subst hy1 hy3
  (simp only [vcS])
  refine ⟨fun hi => ?_, fun hi => ?_⟩
  · have hmem := mem_getD (l := y1.ops) (i := i.toNat) (by omega) Op.nil
    have hmo := massOs_mem hmem
    have hro := rngOs_mem ros hmem
    rw [← hy2] at hmem hmo hro
    refine ⟨⟨g1, hi⟩, ?_, by simp only [mu132]; omega, fun hc => ends_bool rfl ?_, fun hc => ⟨by unfold InR; omega, i + 1, rfl, ⟨by omega, by omega, fun o ho => ?_⟩, by omega⟩⟩
    · simp only [pre132]
      exact ⟨⟨by omega, hro, hl⟩, hd0, hd1⟩
    · have : rightOs y1.list y1.ops d = false := by
        rw [← Bool.not_eq_true]
        intro h
        have := rightOs_mem h hmem
        rw [hc] at this; cases this
      rw [this, Bool.false_and]
    · rw [show (i + 1).toNat = i.toNat + 1 by omega, List.take_add_one] at ho
      rcases List.mem_append.1 ho with ho | ho
      · exact g3 o ho
      · have e : y1.ops[i.toNat]? = some y3 := by
          rw [hy2]
          simp [List.getD, List.getElem?_eq_getElem (show i.toNat < y1.ops.length by omega)]
        rw [e] at ho
        simp only [Option.toList_some, List.mem_singleton] at ho
        subst ho
        exact hc
  · rw [List.take_of_length_le (by omega)] at g3
    have hall : rightOs y1.list y1.ops d = true := rightOs_every g3
    have hb : ∀ o ∈ y1.ops, (0 ≤ o.n ∧ o.n ≤ 1048576) ∧ o.l.length ≤ 1000000 := by
      intro o ho
      refine ⟨rightOp_n (g3 o ho), ?_⟩
      have h1 := massOs_mem ho
      rw [massOp_e] at h1
      have h2 := massK_len o.l
      omega
    refine ⟨by simp only [pre56]; omega, ends_bool rfl ?_⟩
    rw [lenAW_eq _ _ hb (by decide) (by decide), lenBW_eq _ _ hb (by decide) (by decide), hall, Bool.true_and]
    by_cases h1 : lenA y1.ops 0 < 1048576 <;> by_cases h2 : lenB y1.ops 0 < 1048576 <;> simp [h1, h2]
theorem b132 : HB132 := by
  intro N list o d _ hp hN
  simp only [pre132, mu132] at hp hN
  obtain ⟨⟨hm, hr, hil⟩, hd0, hd1⟩ := hp
  obtain ⟨ik, inn, rl, re⟩ := rngOp_e hr
  rw [massOp_e] at hm hN
  have hll := massK_len o.l
  have hep := massE_pos o.e
  have hat := rightOp_at list o d
  have hs := sameE_iff (e := o.e)
  refine vc132 N list o d _ ?_
  rintro y1 hy1 y2 hy2
  subst hy1
  (simp only [vcS])
  have hp87 : pre87 (o.e, 1, ()) := by simp only [pre87]; exact ⟨⟨by omega, re⟩, by omega, by omega⟩
  have hm87 : mu87 (o.e, 1, ()) < N := by simp only [mu87]; omega
  have hp135 : pre135 (o.l, (list, ()), ()) := by simp only [pre135]; exact ⟨by omega, rl, by unfold isI; omega⟩
  have h12 : o.kind = 1 ∨ o.kind = 2 → y2 = .bool (rightOp list o d) := by
    intro hk
    rw [hy2, hat, if_neg (by omega)]
    congr 1
    rw [Bool.eq_iff_iff]
    (simp only [vcS])
    by_cases hn : o.n = 0
    · rw [if_neg (by omega), if_pos (by omega)]
      (simp only [vcS])
      constructor
      · rintro ⟨⟨⟨⟨h1, h2⟩, h3⟩, h4⟩, h5⟩
        exact ⟨⟨h5, by omega⟩, hs.1 ⟨h3, h4⟩⟩
      · rintro ⟨⟨h5, h2⟩, h3⟩
        have := hs.2 h3
        exact ⟨⟨⟨⟨hn, by omega⟩, this.1⟩, this.2⟩, h5⟩
    · rw [if_pos (by omega)]
      exact ⟨fun h => absurd h.1.1.1.1 hn, fun h => (nomatch h)⟩
  refine ⟨fun hk => ⟨fun _ => hp87, fun _ => hm87, ends_bool rfl ?_⟩, fun hk => ⟨fun hk1 => ⟨fun _ => hp87, fun _ => hm87, fun _ => hp135, ?_⟩, fun hk1 => ⟨fun hk2 => ⟨fun _ => hp87, fun _ => hm87, fun _ => hp135, ?_⟩, fun hk2 => ⟨fun hk3 => ⟨fun _ => trivial, fun _ => ?_, fun _ => by simp only [mu87]; omega, ends_bool rfl ?_⟩, fun hk3 => ends_bool rfl ?_⟩⟩⟩⟩
  · rw [hat, if_pos hk, Bool.eq_iff_iff]
    (simp only [vcS])
    constructor
    · rintro ⟨⟨⟨h1, h2⟩, h3⟩, h4⟩
      exact ⟨⟨h1.1, h1.2, by omega⟩, hs.1 ⟨h3, h4⟩⟩
    · rintro ⟨⟨h1, h2, h3⟩, h4⟩
      have := hs.2 h4
      exact ⟨⟨⟨⟨h1, h2⟩, by omega⟩, this.1⟩, this.2⟩
  · rw [h12 (Or.inl hk1)]
    exact ends_bool rfl rfl
  · rw [h12 (Or.inr hk2)]
    exact ends_bool rfl rfl
  · simp only [pre87]; exact ⟨⟨by omega, re⟩, hd0, hd1⟩
  · rw [hat, if_neg hk, Bool.eq_iff_iff]
    by_cases hn : o.n = 0
    · rw [if_neg (by omega), if_neg (by omega)]
      have hw : withinB list o.e = true ↔ (o.e.kind ≠ 0 ∧ 7 < list) ∧ (list = 8 ∨ o.e.kind = 2 ∨ o.e.kind = 1 ∧ o.e.old.kind = 1 ∧ o.e.new.kind = 1) := by
        unfold withinB
        split
        · exact ⟨fun h => (nomatch h), fun h => by omega⟩
        · split
          · exact ⟨fun _ => ⟨by omega, by omega⟩, fun _ => rfl⟩
          · rw [decide_eq_true_eq]
            exact ⟨fun h => ⟨by omega, Or.inr (Or.inr h)⟩, fun h => by omega⟩
      (simp only [vcS])
      rw [hw]
      constructor
      · rintro ⟨⟨h1, h2⟩, h3⟩
        exact ⟨⟨⟨by omega, h2.1⟩, h3⟩, h2.2⟩
      · rintro ⟨⟨⟨h1, h2⟩, h3⟩, h4⟩
        exact ⟨⟨⟨hn, by omega⟩, h2, h4⟩, h3⟩
    · rw [if_pos (by omega)]
      (simp only [vcS])
      exact ⟨fun h => absurd h.1.1.1 hn, fun h => (nomatch h)⟩
  · rw [hat, if_neg hk]
    by_cases hn : o.n ≠ 0 ∨ o.kind < 0 ∨ 3 < o.kind
    · rw [if_pos hn]
    · exfalso; omega
theorem c87_ : Contract Try.prog cfg 87 spec87 ∧ Contract Try.prog cfg 121 spec121 ∧ Contract Try.prog cfg 122 spec122 ∧ Contract Try.prog cfg 132 spec132 :=
  make87_ c118 c119 c120 c48 c135 c138 c56 b87 b121 b122 b132
theorem c58 : Contract Try.prog cfg 58 spec58 := by
  refine make58 c87_.1 ?_
  intro e _ hp
  simp only [pre58] at hp
  refine vc58 _ _ ?_
  (simp only [Tree.eta, Edit.eta, Tree.kind_mk, Tree.words_mk, Tree.kids_mk])
  refine ⟨by simp only [pre87]; exact ⟨hp, by omega, by omega⟩, ?_⟩
  exact ends_bool rfl rfl
end Go.AM.Ytlahjnelghpmeaa

namespace Go.AM.Ytlahjnelghpmeaa
open Go.AM Go.Proofs
abbrev TrG23b (p : Prop) : Prop := p → p
def args64 : ArgL (Edit × Unit) := (.cons (aEl .edit) .nil)
def pre64 (a : Edit × Unit) : Prop := massE a.1 ≤ 1000000 ∧ ∃ d, rightE a.1 d = true
noncomputable def res64 (a : Edit × Unit) : V U := .agg [.int .i64 (Edit.kind (nrmE (turnE a.1))), .int .i64 (Tree.kind (Edit.old (nrmE (turnE a.1)))), .slice (U := U) .u64 (Tree.words (Edit.old (nrmE (turnE a.1)))) .unk, .slice (U := U) .tree (Tree.kids (Edit.old (nrmE (turnE a.1)))) .unk, .int .i64 (Tree.kind (Edit.new (nrmE (turnE a.1)))), .slice (U := U) .u64 (Tree.words (Edit.new (nrmE (turnE a.1)))) .unk, .slice (U := U) .tree (Tree.kids (Edit.new (nrmE (turnE a.1)))) .unk, .slice (U := U) .wedit (Edit.words (nrmE (turnE a.1))) .unk, .slice (U := U) .kid (Edit.kids (nrmE (turnE a.1))) .unk, .int .i64 (Edit.list (nrmE (turnE a.1))), .slice (U := U) .op (Edit.ops (nrmE (turnE a.1))) .unk]
noncomputable def spec64 : Fs U := fs args64 (fun a => [pre64 a]) res64
def args20 : ArgL (Edit × Unit) := (.cons (aEl .edit) .nil)
def pre20 (a : Edit × Unit) : Prop := smallE a.1 ∧ rngE a.1
noncomputable def res20 (a : Edit × Unit) : V U := .c (.bool true)
noncomputable def spec20 : Fs U := fs args20 (fun a => [pre20 a]) res20
noncomputable def know64 : List (FuncId × Fs U) := [(41, spec41), (98, spec98)]
def lv64 : Lives U := fun i => match i with
  | 0 => ([(1, []), (2, [])], [((.loc 1), []), ((.loc 2), [])])
  | 1 => ([(2, [])], [((.loc 2), [])])
  | _ => ([], [])
abbrev W64 (e : Edit) (Q : AExit → LSt U → Prop) := awp cfg (know know64) (drawOk cfg (know know64)) Try.f64.ntmps lv64 (cd Try.f64 []) (⟨[(0, .agg [.int .i64 (Edit.kind e), .int .i64 (Tree.kind (Edit.old e)), .slice (U := U) .u64 (Tree.words (Edit.old e)) .unk, .slice (U := U) .tree (Tree.kids (Edit.old e)) .unk, .int .i64 (Tree.kind (Edit.new e)), .slice (U := U) .u64 (Tree.words (Edit.new e)) .unk, .slice (U := U) .tree (Tree.kids (Edit.new e)) .unk, .slice (U := U) .wedit (Edit.words e) .unk, .slice (U := U) .kid (Edit.kids e) .unk, .int .i64 (Edit.list e), .slice (U := U) .op (Edit.ops e) .unk])], [], []⟩ : LSt U) Q
theorem vc64 (e : Edit) (Q : AExit → LSt U → Prop) (h : ∀ y_1, y_1 = (e) → ∀ y_2, y_2 = ((roundE y_1)) → (pre98 (y_1, ())) ∧ (pre41 (y_2, ())) ∧ (Q .ret (⟨[(2, .ptr (.loc 2) 0)], [((.loc 2), [.int .i64 (Edit.kind (nrmE y_2)), .int .i64 (Tree.kind (Edit.old (nrmE y_2))), .slice (U := U) .u64 (Tree.words (Edit.old (nrmE y_2))) .unk, .slice (U := U) .tree (Tree.kids (Edit.old (nrmE y_2))) .unk, .int .i64 (Tree.kind (Edit.new (nrmE y_2))), .slice (U := U) .u64 (Tree.words (Edit.new (nrmE y_2))) .unk, .slice (U := U) .tree (Tree.kids (Edit.new (nrmE y_2))) .unk, .slice (U := U) .wedit (Edit.words (nrmE y_2)) .unk, .slice (U := U) .kid (Edit.kids (nrmE y_2)) .unk, .int .i64 (Edit.list (nrmE y_2)), .slice (U := U) .op (Edit.ops (nrmE y_2)) .unk])], []⟩ : LSt U))) :
    W64 e Q := by
  have e_ : (W64 e Q) = (let y_1 := (reEdit e); let y_2 := (reEdit (roundE y_1)); ((pre98 (y_1, ())) ∧ (pre41 (y_2, ())) ∧ (Q .ret (⟨[(2, .ptr (.loc 2) 0)], [((.loc 2), [.int .i64 (Edit.kind (nrmE y_2)), .int .i64 (Tree.kind (Edit.old (nrmE y_2))), .slice (U := U) .u64 (Tree.words (Edit.old (nrmE y_2))) .unk, .slice (U := U) .tree (Tree.kids (Edit.old (nrmE y_2))) .unk, .int .i64 (Tree.kind (Edit.new (nrmE y_2))), .slice (U := U) .u64 (Tree.words (Edit.new (nrmE y_2))) .unk, .slice (U := U) .tree (Tree.kids (Edit.new (nrmE y_2))) .unk, .slice (U := U) .wedit (Edit.words (nrmE y_2)) .unk, .slice (U := U) .kid (Edit.kids (nrmE y_2)) .unk, .int .i64 (Edit.list (nrmE y_2)), .slice (U := U) .op (Edit.ops (nrmE y_2)) .unk])], []⟩ : LSt U)))) := by kernel_rfl
  exact e_.mpr (by intro y_1 y_2; have hh := h y_1 (reEdit_eq _) y_2 (reEdit_eq _); exact ⟨hh.1, hh.2.1, hh.2.2⟩)
def Body64 (e : Edit)  : Prop := awp cfg (know (know64)) (drawOk cfg (know (know64))) Try.f64.ntmps lv64 (cd Try.f64 []) (entry (args64.can (e, ())) []) (EndsQ cfg Try.f64.ntmps Try.f64.results.toList (res64 (e, ())) [])
theorem make64 (c41 : Contract Try.prog cfg 41 spec41) (c98 : Contract Try.prog cfg 98 spec98) (hb : ∀ (e : Edit) (_ : Unit), pre64 (e, ()) → Body64 e) : Contract Try.prog cfg 64 spec64 :=
  contract_flat (l := [(41, spec41), (98, spec98)]) cfgOk rfl (⟨c41, c98, trivial⟩) lv64 Try.func64 rfl rfl 1 (fun _ => rfl) (by decide) (fun ⟨e, _⟩ => hb e ())
noncomputable def know20 : List (FuncId × Fs U) := [(37, spec37), (39, spec39), (44, spec44), (45, spec45), (58, spec58), (64, spec64)]
def lv20 : Lives U := fun i => match i with
  | 0 => ([(1, [])], [((.loc 1), [])])
  | 1 => ([(1, []), (6, [])], [((.loc 1), [])])
  | 2 => ([(2, [])], [])
  | 3 => ([(1, []), (3, [])], [((.loc 1), []), ((.loc 3), [])])
  | 4 => ([(2, [])], [])
  | _ => ([], [])
abbrev W20 (e : Edit) (Q : AExit → LSt U → Prop) := awp cfg (know know20) (drawOk cfg (know know20)) Try.f20.ntmps lv20 (cd Try.f20 []) (⟨[(0, .agg [.int .i64 (Edit.kind e), .int .i64 (Tree.kind (Edit.old e)), .slice (U := U) .u64 (Tree.words (Edit.old e)) .unk, .slice (U := U) .tree (Tree.kids (Edit.old e)) .unk, .int .i64 (Tree.kind (Edit.new e)), .slice (U := U) .u64 (Tree.words (Edit.new e)) .unk, .slice (U := U) .tree (Tree.kids (Edit.new e)) .unk, .slice (U := U) .wedit (Edit.words e) .unk, .slice (U := U) .kid (Edit.kids e) .unk, .int .i64 (Edit.list e), .slice (U := U) .op (Edit.ops e) .unk])], [], []⟩ : LSt U) Q
theorem vc20 (e : Edit) (Q : AExit → LSt U → Prop) (h : ∀ y_1, y_1 = (e) → ∀ y_2, y_2 = ((nrmE (turnE y_1))) → (pre37 (y_1, ())) ∧ (((!(good y_1)) = true → (pre44 (())) ∧ (Q .ret (⟨[(2, .c (.bool true))], [], []⟩ : LSt U))) ∧ ((!(good y_1)) = false → (pre45 (y_1, ())) ∧ ((pre64 (y_1, ())) ∧ (pre39 (y_2, y_2, ())) ∧ ((eqX y_2 y_2) = true → pre58 (y_2, ())) ∧ ((bif (eqX y_2 y_2) then (rightE y_2 64) else false) = true → pre44 (())) ∧ (Q .ret (⟨[(2, .c (.bool (bif (bif (eqX y_2 y_2) then (rightE y_2 64) else false) then true else false)))], [], []⟩ : LSt U)))))) :
    W20 e Q := by
  have e_ : (W20 e Q) = (let y_1 := (reEdit e); let y_2 := (reEdit (nrmE (turnE y_1))); let zz0 := (bif (eqX y_2 y_2) then (rightE y_2 64) else false); ((pre37 (y_1, ())) ∧ (((!(good y_1)) = true → (pre44 (())) ∧ (Q .ret (⟨[(2, .c (.bool true))], [], []⟩ : LSt U))) ∧ ((!(good y_1)) = false → (pre45 (y_1, ())) ∧ ((pre64 (y_1, ())) ∧ (pre39 (y_2, y_2, ())) ∧ (TrG23b ((eqX y_2 y_2) = true)) ∧ ((eqX y_2 y_2) = true → pre58 (y_2, ())) ∧ ((TrG23b ((eqX y_2 y_2) = true))) ∧ (zz0 = true → pre44 (())) ∧ ((TrG23b (zz0 = true))) ∧ (Q .ret (⟨[(2, .c (.bool (bif zz0 then true else false)))], [], []⟩ : LSt U))))))) := by kernel_rfl
  exact e_.mpr (by intro y_1 y_2; have hh := h y_1 (reEdit_eq _) y_2 (reEdit_eq _); exact ⟨hh.1, ⟨fun c_1 => ⟨(hh.2.1 c_1).1, (hh.2.1 c_1).2⟩, fun c_1 => ⟨(hh.2.2 c_1).1, ⟨(hh.2.2 c_1).2.1, (hh.2.2 c_1).2.2.1, id, (hh.2.2 c_1).2.2.2.1, (by generalize (eqX y_2 y_2) = b0; revert b0; decide), (hh.2.2 c_1).2.2.2.2.1, (by generalize (eqX y_2 y_2) = b0; generalize (rightE y_2 64) = b1; revert b0 b1; decide), (hh.2.2 c_1).2.2.2.2.2⟩⟩⟩⟩)
def Body20 (e : Edit)  : Prop := awp cfg (know (know20)) (drawOk cfg (know (know20))) Try.f20.ntmps lv20 (cd Try.f20 []) (entry (args20.can (e, ())) []) (EndsQ cfg Try.f20.ntmps Try.f20.results.toList (res20 (e, ())) [])
theorem make20 (c37 : Contract Try.prog cfg 37 spec37) (c39 : Contract Try.prog cfg 39 spec39) (c44 : Contract Try.prog cfg 44 spec44) (c45 : Contract Try.prog cfg 45 spec45) (c58 : Contract Try.prog cfg 58 spec58) (c64 : Contract Try.prog cfg 64 spec64) (hb : ∀ (e : Edit) (_ : Unit), pre20 (e, ()) → Body20 e) : Contract Try.prog cfg 20 spec20 :=
  contract_flat (l := [(37, spec37), (39, spec39), (44, spec44), (45, spec45), (58, spec58), (64, spec64)]) cfgOk rfl (⟨c37, c39, c44, c45, c58, c64, trivial⟩) lv20 Try.func20 rfl rfl 1 (fun _ => rfl) (by decide) (fun ⟨e, _⟩ => hb e ())
end Go.AM.Ytlahjnelghpmeaa

namespace Go.AM.Ytlahjnelghpmeaa
open Go.AM Go.Proofs
theorem rngK_app : ∀ {a b : List Tree}, rngK (a ++ b) ↔ rngK a ∧ rngK b
  | [], b => by simp [rngK]
  | t :: r, b => by simp only [List.cons_append, rngK]; rw [rngK_app (a := r), and_assoc]
mutual
theorem rng_norm : ∀ (t : Tree), rng t → rng (normT t)
  | .mk k w ks, h => by
    simp only [rng] at h
    obtain ⟨h1, h2, h3⟩ := h
    have h4 := rngK_norm ks h3
    simp only [normT]
    split
    · simp only [Tree.nil, rng, rngK]
      exact ⟨by decide, by simp, trivial⟩
    · split
      · obtain ⟨r1, e1⟩ := trim_pre w
        obtain ⟨r2, e2⟩ := trimK_pre (normK ks)
        simp only [rng]
        refine ⟨by decide, fun x hx => h2 x (by rw [e1]; exact List.mem_append.2 (Or.inl hx)), ?_⟩
        rw [e2] at h4
        exact (rngK_app.1 h4).1
      · simp only [rng]
        exact ⟨h1, h2, h4⟩
theorem rngK_norm : ∀ (l : List Tree), rngK l → rngK (normK l)
  | [], _ => trivial
  | t :: r, h => by
    simp only [rngK] at h
    have h1 := rng_norm t h.1
    have h2 := rngK_norm r h.2
    simp only [normK, rngK]
    exact ⟨h1, h2⟩
end
theorem rngK_norms : ∀ {l : List Tree}, rngK l → rngK (normsT l)
  | [], _ => trivial
  | t :: r, h => by
    simp only [rngK] at h
    have h2 := rngK_norms h.2
    simp only [normsT] at h2
    simp only [normsT, List.map_cons, rngK]
    exact ⟨rng_norm t h.1, h2⟩
theorem rng_nilT : rng Tree.nil := by
  simp only [Tree.nil, rng, rngK]
  exact ⟨by decide, by simp, trivial⟩
mutual
theorem rngE_turn : ∀ (e : Edit), rngE e → rngE (turnE e)
  | .mk k o n w ks l os, h => by
    simp only [rngE] at h
    obtain ⟨h1, h2, h3, h4, h5, h6, h7⟩ := h
    have i6 := rngKs_turn ks h6
    have i7 := rngOs_turn os h7
    simp only [turnE, rngE]
    refine ⟨h1, h3, h2, fun x hx => ?_, h5, i6, i7⟩
    obtain ⟨y, hy, rfl⟩ := List.mem_map.1 hx
    have := h4 y hy
    simp only [rngW, turnW] at this ⊢
    exact ⟨this.1, this.2.1, this.2.2.2, this.2.2.1⟩
theorem rngKs_turn : ∀ (ks : List (KidOf Edit)), rngKs ks → rngKs (turnKs ks)
  | [], _ => trivial
  | k :: r, h => by
    simp only [rngKs] at h
    have h1 := rngKid_turn k h.1
    have h2 := rngKs_turn r h.2
    simp only [turnKs, rngKs]
    exact ⟨h1, h2⟩
theorem rngKid_turn : ∀ (k : KidOf Edit), rngKid k → rngKid (turnKid k)
  | ⟨a, e⟩, h => by
    simp only [rngKid] at h
    have h2 := rngE_turn e h.2
    simp only [turnKid, rngKid]
    exact ⟨h.1, h2⟩
theorem rngOs_turn : ∀ (os : List (OpOf Edit)), rngOs os → rngOs (turnOs os)
  | [], _ => trivial
  | o :: r, h => by
    simp only [rngOs] at h
    have h1 := rngOp_turn o h.1
    have h2 := rngOs_turn r h.2
    simp only [turnOs, rngOs]
    exact ⟨h1, h2⟩
theorem rngOp_turn : ∀ (o : OpOf Edit), rngOp o → rngOp (turnOp o)
  | ⟨k, n, l, e⟩, h => by
    simp only [rngOp] at h
    have h4 := rngE_turn e h.2.2.2
    simp only [turnOp]
    split
    · simp only [rngOp]; exact ⟨by unfold isI; omega, h.2⟩
    · split
      · simp only [rngOp]; exact ⟨by unfold isI; omega, h.2⟩
      · split
        · simp only [rngOp]; exact ⟨h.1, h.2.1, h.2.2.1, h4⟩
        · simp only [rngOp]; exact h
end
structure RngW (w : Wst) : Prop where
  out : ∀ o ∈ w.out, rngK o.l ∧ rngE o.e
  gone : rngK w.gone
  brought : rngK w.brought
theorem rngE_none : rngE Edit.nil := by
  simp only [Edit.nil, rngE, rngKs, rngOs]
  exact ⟨by unfold isI; omega, rng_nilT, rng_nilT, by simp, by unfold isI; omega, trivial, trivial⟩
theorem rngW_flush {w : Wst} (h : RngW w) : RngW (flushW w) := by
  refine ⟨?_, trivial, trivial⟩
  simp only [flushW, flushO]
  intro o ho
  rcases List.mem_append.1 ho with ho | ho
  · exact h.out o ho
  rcases List.mem_append.1 ho with ho | ho
  · split at ho
    · cases ho
    · simp only [List.mem_singleton] at ho
      subst ho
      exact ⟨h.gone, rngE_none⟩
  · split at ho
    · cases ho
    · simp only [List.mem_singleton] at ho
      subst ho
      exact ⟨h.brought, rngE_none⟩
theorem rngW_keep {w : Wst} {n : Int} (h : RngW w) : RngW (keepW w n) := by
  have hf := rngW_flush h
  refine ⟨?_, trivial, trivial⟩
  simp only [keepW]
  intro o ho
  rcases keepO_cases (flushW w).out n with e | ⟨a, q, e1, e2, e3⟩
  · rw [e] at ho
    rcases List.mem_append.1 ho with ho | ho
    · exact hf.out o ho
    · simp only [List.mem_singleton] at ho
      subst ho
      exact ⟨trivial, rngE_none⟩
  · rw [e3] at ho
    rcases List.mem_append.1 ho with ho | ho
    · exact hf.out o (by rw [e1]; exact List.mem_append.2 (Or.inl ho))
    · simp only [List.mem_singleton] at ho
      subst ho
      exact hf.out q (by rw [e1]; simp)
theorem rngW_op {list : Int} {w : Wst} {o : Op} (h : RngW w) (hl : rngK o.l) (he : rngE (nrmE o.e)) : RngW (nrmOp list o w) := by
  rw [nrmOp_at]
  split
  · exact rngW_keep h
  · split
    · exact ⟨h.out, rngK_app.2 ⟨h.gone, rngK_norms hl⟩, h.brought⟩
    · split
      · exact ⟨h.out, h.gone, rngK_app.2 ⟨h.brought, rngK_norms hl⟩⟩
      · split
        · split
          · exact rngW_keep h
          · refine ⟨?_, trivial, trivial⟩
            intro o ho
            rcases List.mem_append.1 ho with ho | ho
            · exact (rngW_flush h).out o ho
            · simp only [List.mem_singleton] at ho
              subst ho
              exact ⟨trivial, he⟩
        · exact h
theorem rngOs_every : ∀ {os : List Op}, (∀ o ∈ os, rngOp o) → rngOs os
  | [], _ => trivial
  | o :: r, h => by
    simp only [rngOs]
    exact ⟨h o (List.mem_cons_self ..), rngOs_every (fun x hx => h x (List.mem_cons_of_mem _ hx))⟩
theorem rightOp_rng {list d : Int} {o : Op} (h : rightOp list o d = true) (hl : rngK o.l) (he : rngE o.e) : rngOp o := by
  have hn := rightOp_n h
  obtain ⟨k, n, l, e⟩ := o
  simp only at hn hl he
  simp only [rngOp]
  refine ⟨?_, by unfold isI; omega, hl, he⟩
  rw [rightOp] at h
  unfold isI
  split at h
  · omega
  · split at h
    · cases h
    · omega
mutual
theorem rngE_nrm' : ∀ (e : Edit) (d : Int), rightE e d = true → rngE e → rngE (nrmE e)
  | .mk k o n w ks l os, d, hr, h => by
    have hin := rightE_in hr
    have hout := rightE_in (rightE_nrm _ _ hr)
    simp only [Edit.kids_mk, Edit.ops_mk, Edit.list_mk] at hin
    simp only [rngE] at h
    obtain ⟨h1, h2, h3, h4, h5, h6, h7⟩ := h
    have i6 := rngKs_nrm ks (d - 1) (fun k hk => (hin.1 k hk).1) h6
    have i7 := rngOs_nrm l os (d - 1) hin.2 h7 W0 ⟨fun o ho => (by cases ho), trivial, trivial⟩
    rw [nrmE] at hout ⊢
    by_cases k1 : k = 1
    · rw [if_pos k1]
      simp only [rngE]
      exact ⟨h1, rng_norm o h2, rng_norm n h3, by simp, h5, trivial, trivial⟩
    · rw [if_neg k1] at hout ⊢
      by_cases k2 : k = 2
      · rw [if_pos k2]
        simp only [rngE]
        exact ⟨h1, rng_nilT, rng_nilT, h4, h5, i6, trivial⟩
      · rw [if_neg k2] at hout ⊢
        by_cases k3 : k = 3
        · rw [if_pos k3] at hout ⊢
          simp only [rngE]
          refine ⟨h1, rng_nilT, rng_nilT, by simp, h5, trivial, rngOs_every (fun q hq => ?_)⟩
          have hx := hout.2 q hq
          have hy := (rngW_flush i7).out q hq
          exact rightOp_rng hx hy.1 hy.2
        · rw [if_neg k3]
          simp only [rngE]
          exact ⟨h1, rng_nilT, rng_nilT, by simp, h5, trivial, trivial⟩
theorem rngKs_nrm : ∀ (ks : List (KidOf Edit)) (d : Int), (∀ k ∈ ks, rightE k.e d = true) → rngKs ks → rngKs (nrmKs ks)
  | [], _, _, _ => trivial
  | k :: r, d, hr, h => by
    simp only [rngKs] at h
    have h1 := rngKid_nrm k d (hr k (List.mem_cons_self ..)) h.1
    have h2 := rngKs_nrm r d (fun x hx => hr x (List.mem_cons_of_mem _ hx)) h.2
    simp only [nrmKs, rngKs]
    exact ⟨h1, h2⟩
theorem rngKid_nrm : ∀ (k : KidOf Edit) (d : Int), rightE k.e d = true → rngKid k → rngKid (nrmKid k)
  | ⟨a, e⟩, d, hr, h => by
    simp only [rngKid] at h
    have h2 := rngE_nrm' e d hr h.2
    simp only [nrmKid, rngKid]
    exact ⟨h.1, h2⟩
theorem rngOs_nrm (list : Int) : ∀ (os : List (OpOf Edit)) (d : Int), (∀ o ∈ os, rightOp list o d = true) → rngOs os → ∀ (w : Wst), RngW w → RngW (nrmOs list os w)
  | [], _, _, _, w, hw => hw
  | o :: r, d, hr, h, w, hw => by
    simp only [rngOs] at h
    have h1 := rngOp_nrm list o d (hr o (List.mem_cons_self ..)) h.1 w hw
    exact rngOs_nrm list r d (fun x hx => hr x (List.mem_cons_of_mem _ hx)) h.2 _ h1
theorem rngOp_nrm (list : Int) : ∀ (o : OpOf Edit) (d : Int), rightOp list o d = true → rngOp o → ∀ (w : Wst), RngW w → RngW (nrmOp list o w)
  | ⟨k, n, l, e⟩, d, hr, h, w, hw => by
    simp only [rngOp] at h
    by_cases k3 : k = 3
    · have he : rightE e d = true := by
        rw [rightOp, if_neg (by omega), ] at hr
        split at hr
        · cases hr
        · rw [if_neg (by omega)] at hr
          simp only [Bool.and_eq_true] at hr
          exact hr.1.2
      exact rngW_op (o := ⟨k, n, l, e⟩) hw h.2.2.1 (rngE_nrm' e d he h.2.2.2)
    · have hs : rngE (nrmE Edit.nil) := by
        show rngE (.mk 0 Tree.nil Tree.nil [] [] 0 [])
        exact rngE_none
      have e2 : nrmOp list ⟨k, n, l, e⟩ w = nrmOp list ⟨k, n, l, Edit.nil⟩ w := by
        simp only [nrmOp]
        rw [if_neg k3, if_neg k3]
      rw [e2]
      exact rngW_op (o := ⟨k, n, l, Edit.nil⟩) hw h.2.2.1 hs
end
end Go.AM.Ytlahjnelghpmeaa

namespace Go.AM.Ytlahjnelghpmeaa
open Go.AM Go.Proofs
theorem c64 : Contract Try.prog cfg 64 spec64 := by
  refine make64 c41_78.1 c98 ?_
  intro e _ hp
  simp only [pre64] at hp
  obtain ⟨hm, d, hr⟩ := hp
  refine vc64 _ _ ?_
  rintro y1 hy1 y2 hy2
  subst hy1
  have h1 := massE_turn y1
  have h2 := rightE_turn _ _ hr
  have e2 : y2 = turnE y1 := by rw [hy2, round_turn _ _ hr]
  rw [← e2] at h1 h2
  refine ⟨by simp only [pre98]; omega, by simp only [pre41]; exact ⟨by omega, d, h2⟩, ?_⟩
  simp only [res64]
  rw [← e2]
  (repeat' (first | exact trivial | exact rfl | apply And.intro))
theorem c20 : Contract Try.prog cfg 20 spec20 := by
  refine make20 c37 c39 c44 c45 c58 c64 ?_
  intro e _ hp
  simp only [pre20] at hp
  refine vc20 _ _ ?_
  rintro y1 hy1 y2 hy2
  subst hy1
  refine ⟨by simp only [pre37]; exact hp, fun hg => ⟨trivial, ends_bool rfl rfl⟩, fun hg => ?_⟩
  have hg : good y1 = true := by simpa using hg
  obtain ⟨hm, hr⟩ := good_in hg
  have m1 := massE_turn y1
  have m2 := massE_nrm (turnE y1)
  have r0 := rightE_turn _ _ hr
  have r1 := rightE_nrm _ _ r0
  have g1 := rngE_nrm' _ _ r0 (rngE_turn y1 hp.2)
  rw [← hy2] at m2 r1 g1
  refine ⟨by simp only [pre45]; exact ⟨by omega, 64, hr⟩, by simp only [pre64]; exact ⟨by omega, 64, hr⟩, by simp only [pre39]; omega, fun _ => by simp only [pre58]; exact ⟨by omega, g1⟩, fun _ => trivial, ends_bool rfl ?_⟩
  rw [eqX_self, r1]
  rfl
end Go.AM.Ytlahjnelghpmeaa
