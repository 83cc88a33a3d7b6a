/- The seat's arguments are read: edits, and their steps. -/
import Derived.Test.YtlahjnelghpmeaaD20
import Derived.Test.YtlahjnelghpmeaaAmXE
import Derived.Test.YtlahjnelghpmeaaD07
set_option linter.unusedSimpArgs false
set_option linter.unusedVariables false
namespace Go.AM.Ytlahjnelghpmeaa
open Go.AM Go.Proofs Go.Proofs.Ytlahjnelghpmeaa Go.ChangeShapes Go.WideShapes Go.RowKit

theorem editTypes : EditTypes cfg := ⟨⟨_, rfl, rfl⟩, ⟨_, _, rfl, rfl⟩, ⟨_, _, rfl, rfl⟩, ⟨_, _, rfl, rfl⟩, ⟨_, _, rfl, rfl⟩, ⟨_, rfl, rfl⟩, ⟨_, _, rfl, rfl⟩, rfl, ⟨_, rfl, rfl⟩, ⟨_, _, rfl, rfl⟩, ⟨_, _, rfl, rfl⟩, ⟨_, _, rfl, rfl, rfl⟩, rfl, ⟨_, rfl, rfl⟩, ⟨_, _, rfl, rfl⟩, rfl, rfl, ⟨_, _, rfl, rfl, rfl⟩, ⟨_, _, rfl, rfl, rfl⟩, ⟨_, _, rfl, rfl⟩, ⟨_, _, rfl, rfl, rfl⟩⟩
theorem argEdit {H : Type} {henc : TypeId × Value → H} : ArgR henc Try.prog cfg (aEl .edit) 46 inE := argR_el cfgOk rfl ⟨_, _, rfl⟩ (fun _ n cs h => rd_edit cfgOk treeTypes editTypes n cs h)
end Go.AM.Ytlahjnelghpmeaa

namespace Go.AM.Ytlahjnelghpmeaa
open Go.AM Go.Proofs

def args68 : ArgL (Tree × Int × Int × Unit) := (.cons (aEl .tree) (.cons (aInt .i64) (.cons (aInt .i64) .nil)))
def pre68 (a : Tree × Int × Int × Unit) : Prop := small a.1 ∧ 0 ≤ a.2.1 ∧ a.2.1 ≤ 4611686018427387904 ∧ -1 ≤ a.2.2.1 ∧ a.2.2.1 ≤ 4611686018427387904
def mu68 (a : Tree × Int × Int × Unit) : Nat := mass a.1
noncomputable def res68 (a : Tree × Int × Int × Unit) : V U := .c (.int .i64 (shallow a.1 a.2.1 a.2.2.1))
noncomputable def spec68 : Fs U := fs args68 (fun a => [pre68 a]) res68

/-! cento/centoref07.Shallow -/
noncomputable def know68 (N : Nat) : List (FuncId × Fs U) := (68, fs args68 (fun a => [pre68 a, mu68 a < N]) res68) :: []
def lv68 : Lives U := fun i => match i with
  | 0 => ([(1, []), (2, []), (3, [])], [((.loc 3), [])])
  | 1 => ([(1, []), (2, []), (3, [])], [((.loc 3), [])])
  | 2 => ([(1, []), (2, []), (3, []), (19, [])], [((.loc 3), [])])
  | 3 => ([(6, [])], [])
  | 4 => ([(1, []), (2, []), (3, []), (7, [])], [((.loc 3), [])])
  | 5 => ([(1, []), (2, []), (3, []), (7, []), (28, [])], [((.loc 3), [])])
  | 6 => ([(1, []), (2, []), (3, []), (7, [])], [((.loc 3), [])])
  | 7 => ([(1, []), (2, []), (3, []), (7, [])], [((.loc 3), [])])
  | 8 => ([(6, [])], [])
  | _ => ([], [])
def head68_0 (t : Tree) (d : Int) (l : Int) (x2 : Int) (x7 : Int) : LSt U := (⟨[(1, .c (.int .i64 d)), (2, .c (.int .i64 x2)), (3, .ptr (.loc 3) 0), (7, .c (.int .i64 x7))], [((.loc 3), [.int .i64 (Tree.kind t), .slice (U := U) .u64 (Tree.words t) .unk, .slice (U := U) .tree (Tree.kids t) .unk])], []⟩ : LSt U)
/-- the body -/
theorem vc68 (N : Nat) (t : Tree) (d : Int) (l : Int) (Q : AExit → LSt U → Prop) (h : ((InR ((l : Int) - 1)) ∧ (InR ((((l : Int) - 1) : Int) - ((Tree.words t).length : Int))) ∧ (((!((d : Int) == 0)) = true → (!((d : Int) == 0)) = true) ∧ ((((d : Int) == 0) = false → (!((d : Int) == 0)) = true)) ∧ (((bif ((d : Int) == 0) then true else (decide ((((((l : Int) - 1) : Int) - ((Tree.words t).length : Int)) : Int) < 0))) = true → (Q .ret (⟨[(6, .c (.int .i64 (-1)))], [], []⟩ : LSt U))) ∧ ((bif ((d : Int) == 0) then true else (decide ((((((l : Int) - 1) : Int) - ((Tree.words t).length : Int)) : Int) < 0))) = false → (LoopWp (awp cfg (know (know68 N)) (drawOk cfg (know (know68 N))) Try.f68.ntmps lv68 (cd Try.f68 [1, 1, 1, 0, 1, 0, 0])) (head68_0 t d l ((((l : Int) - 1) : Int) - ((Tree.words t).length : Int)) 0) (AExit.inBlock 0 (seqK cfg (know (know68 N)) (drawOk cfg (know (know68 N))) Try.f68.ntmps lv68 (cd Try.f68 [1, 1, 1, 1]) Q)))))))) :
    awp cfg (know (know68 N)) (drawOk cfg (know (know68 N))) Try.f68.ntmps lv68 (cd Try.f68 []) (⟨[(0, .agg [.int .i64 (Tree.kind t), .slice (U := U) .u64 (Tree.words t) .unk, .slice (U := U) .tree (Tree.kids t) .unk]), (1, .c (.int .i64 d)), (2, .c (.int .i64 l))], [], []⟩ : LSt U) Q := by
  have e : (awp cfg (know (know68 N)) (drawOk cfg (know (know68 N))) Try.f68.ntmps lv68 (cd Try.f68 []) (⟨[(0, .agg [.int .i64 (Tree.kind t), .slice (U := U) .u64 (Tree.words t) .unk, .slice (U := U) .tree (Tree.kids t) .unk]), (1, .c (.int .i64 d)), (2, .c (.int .i64 l))], [], []⟩ : LSt U) Q) = (((InR ((l : Int) - 1)) ∧ (InR ((((l : Int) - 1) : Int) - ((Tree.words t).length : Int))) ∧ (((!((d : Int) == 0)) = true → (!((d : Int) == 0)) = true) ∧ ((((d : Int) == 0) = false → (!((d : Int) == 0)) = true)) ∧ (((bif ((d : Int) == 0) then true else (decide ((((((l : Int) - 1) : Int) - ((Tree.words t).length : Int)) : Int) < 0))) = true → (Q .ret (⟨[(6, .c (.int .i64 (-1)))], [], []⟩ : LSt U))) ∧ ((bif ((d : Int) == 0) then true else (decide ((((((l : Int) - 1) : Int) - ((Tree.words t).length : Int)) : Int) < 0))) = false → (LoopWp (awp cfg (know (know68 N)) (drawOk cfg (know (know68 N))) Try.f68.ntmps lv68 (cd Try.f68 [1, 1, 1, 0, 1, 0, 0])) (head68_0 t d l ((((l : Int) - 1) : Int) - ((Tree.words t).length : Int)) 0) (AExit.inBlock 0 (seqK cfg (know (know68 N)) (drawOk cfg (know (know68 N))) Try.f68.ntmps lv68 (cd Try.f68 [1, 1, 1, 1]) Q)))))))) := by kernel_rfl
  exact e.mpr h
/-- the loop at [1, 1, 1, 0, 1, 0] -/
theorem vc68_l0 (N : Nat) (t : Tree) (d : Int) (l : Int) (x2 : Int) (x7 : Int) (N0 : LSt U → Prop) (Q : AExit → LSt U → Prop) (h : ((decide ((x7 : Int) < ((Tree.kids t).length : Int))) = true → (decide ((x7 : Int) < ((Tree.kids t).length : Int))) = true) ∧ (((decide ((x7 : Int) < ((Tree.kids t).length : Int))) = true → (decide ((x7 : Int) < ((Tree.kids t).length : Int))) = true)) ∧ (((bif (decide ((x7 : Int) < ((Tree.kids t).length : Int))) then (decide ((0 : Int) ≤ x2)) else false) = true → (0 ≤ x7 ∧ x7 < ((Tree.kids t).length : Int)) ∧ (InR ((d : Int) - 1)) ∧ (pre68 ((Tree.mk (Tree.kind (List.getD (Tree.kids t) (Int.toNat x7) Tree.nil)) (Tree.words (List.getD (Tree.kids t) (Int.toNat x7) Tree.nil)) (Tree.kids (List.getD (Tree.kids t) (Int.toNat x7) Tree.nil))), ((d : Int) - 1), x2, ())) ∧ (mu68 ((Tree.mk (Tree.kind (List.getD (Tree.kids t) (Int.toNat x7) Tree.nil)) (Tree.words (List.getD (Tree.kids t) (Int.toNat x7) Tree.nil)) (Tree.kids (List.getD (Tree.kids t) (Int.toNat x7) Tree.nil))), ((d : Int) - 1), x2, ()) < N) ∧ ((InR ((x7 : Int) + 1)) ∧ (N0 (head68_0 t d l (shallow (Tree.mk (Tree.kind (List.getD (Tree.kids t) (Int.toNat x7) Tree.nil)) (Tree.words (List.getD (Tree.kids t) (Int.toNat x7) Tree.nil)) (Tree.kids (List.getD (Tree.kids t) (Int.toNat x7) Tree.nil))) ((d : Int) - 1) x2) ((x7 : Int) + 1))))) ∧ ((bif (decide ((x7 : Int) < ((Tree.kids t).length : Int))) then (decide ((0 : Int) ≤ x2)) else false) = false → (Q .ret (⟨[(6, .c (.int .i64 x2))], [], []⟩ : LSt U))))) :
    awp cfg (know (know68 N)) (drawOk cfg (know (know68 N))) Try.f68.ntmps lv68 (cd Try.f68 [1, 1, 1, 0, 1, 0, 0]) (head68_0 t d l x2 x7) (AExit.then N0 (AExit.inBlock 0 (seqK cfg (know (know68 N)) (drawOk cfg (know (know68 N))) Try.f68.ntmps lv68 (cd Try.f68 [1, 1, 1, 1]) Q))) := by
  have e : (awp cfg (know (know68 N)) (drawOk cfg (know (know68 N))) Try.f68.ntmps lv68 (cd Try.f68 [1, 1, 1, 0, 1, 0, 0]) (head68_0 t d l x2 x7) (AExit.then N0 (AExit.inBlock 0 (seqK cfg (know (know68 N)) (drawOk cfg (know (know68 N))) Try.f68.ntmps lv68 (cd Try.f68 [1, 1, 1, 1]) Q)))) = (((decide ((x7 : Int) < ((Tree.kids t).length : Int))) = true → (decide ((x7 : Int) < ((Tree.kids t).length : Int))) = true) ∧ (((decide ((x7 : Int) < ((Tree.kids t).length : Int))) = true → (decide ((x7 : Int) < ((Tree.kids t).length : Int))) = true)) ∧ (((bif (decide ((x7 : Int) < ((Tree.kids t).length : Int))) then (decide ((0 : Int) ≤ x2)) else false) = true → (0 ≤ x7 ∧ x7 < ((Tree.kids t).length : Int)) ∧ (InR ((d : Int) - 1)) ∧ (pre68 ((Tree.mk (Tree.kind (List.getD (Tree.kids t) (Int.toNat x7) Tree.nil)) (Tree.words (List.getD (Tree.kids t) (Int.toNat x7) Tree.nil)) (Tree.kids (List.getD (Tree.kids t) (Int.toNat x7) Tree.nil))), ((d : Int) - 1), x2, ())) ∧ (mu68 ((Tree.mk (Tree.kind (List.getD (Tree.kids t) (Int.toNat x7) Tree.nil)) (Tree.words (List.getD (Tree.kids t) (Int.toNat x7) Tree.nil)) (Tree.kids (List.getD (Tree.kids t) (Int.toNat x7) Tree.nil))), ((d : Int) - 1), x2, ()) < N) ∧ ((InR ((x7 : Int) + 1)) ∧ (N0 (head68_0 t d l (shallow (Tree.mk (Tree.kind (List.getD (Tree.kids t) (Int.toNat x7) Tree.nil)) (Tree.words (List.getD (Tree.kids t) (Int.toNat x7) Tree.nil)) (Tree.kids (List.getD (Tree.kids t) (Int.toNat x7) Tree.nil))) ((d : Int) - 1) x2) ((x7 : Int) + 1))))) ∧ ((bif (decide ((x7 : Int) < ((Tree.kids t).length : Int))) then (decide ((0 : Int) ≤ x2)) else false) = false → (Q .ret (⟨[(6, .c (.int .i64 x2))], [], []⟩ : LSt U))))) := by kernel_rfl
  exact e.mpr h
def Body68 (N : Nat) (t : Tree) (d : Int) (l : Int)  : Prop := awp cfg (know (know68 N)) (drawOk cfg (know (know68 N))) Try.f68.ntmps lv68 (cd Try.f68 []) (entry (args68.can (t, d, l, ())) []) (EndsQ cfg Try.f68.ntmps Try.f68.results.toList (res68 (t, d, l, ())) [])
theorem make68 (hb : ∀ (N : Nat) (t : Tree) (d : Int) (l : Int) (_ : Unit), pre68 (t, d, l, ()) → mu68 (t, d, l, ()) < N + 1 → Body68 N t d l) : Contract Try.prog cfg 68 spec68 :=
  contract_rec (μ := mu68) (l := []) cfgOk rfl (trivial) lv68 Try.func68 rfl rfl 3 (fun _ => rfl) (by decide) (fun N ⟨t, d, l, _⟩ => hb N t d l ())

/-! cento/centoref07.Few -/
/-! cento/centoref01.Same -/
/-! cento/centoref07.Trim -/
/-! slices.Clone[[]uint64,uint64] -/
/-! slices.Equal[[]uint64,uint64] -/
/-! cento/tree.Word -/
/-! cento/tree.Kid -/
/-! cento/centoref07.Norm -/
/-! cento/tree.Norm -/
/-! cento/centoref07.Same -/
/-! cento/tree.Equal -/
/-! cento/tree.Weight -/
/-! cento/centoref07.Equal -/
/-! cento/centolaw07.awake -/
end Go.AM.Ytlahjnelghpmeaa

namespace Go.AM.Ytlahjnelghpmeaa
open Go.AM Go.Proofs


theorem smallK_get : ∀ {ks : List Tree} {i : Nat}, smallK ks → i < ks.length → small (ks.getD i Tree.nil)
  | t :: _, 0, h, _ => by simp only [smallK] at h; exact h.1
  | _ :: r, i + 1, h, hi => by simp only [smallK] at h; exact smallK_get (ks := r) (i := i) h.2 (by simpa using hi)

theorem massK_get : ∀ {ks : List Tree} {i : Nat}, i < ks.length → mass (ks.getD i Tree.nil) ≤ massK ks
  | t :: _, 0, _ => by simp only [massK, List.getD_cons_zero]; omega
  | t :: r, i + 1, h => by
    have := massK_get (ks := r) (i := i) (by simpa using h)
    simp only [massK, List.getD_cons_succ]
    omega

mutual
theorem shallow_range : ∀ (t : Tree) (d l : Int), -1 ≤ shallow t d l ∧ shallow t d l ≤ max l (-1)
  | .mk _ w ks, d, l => by
    simp only [shallow]
    split
    · omega
    · have := shallowK_range ks (d - 1) (l - 1 - w.length) (by omega)
      omega
theorem shallowK_range : ∀ (ks : List Tree) (d l : Int), -1 ≤ l → -1 ≤ shallowK ks d l ∧ shallowK ks d l ≤ l
  | [], d, l, h => by simp only [shallowK]; omega
  | t :: r, d, l, h => by
    simp only [shallowK]
    split
    · omega
    · have h1 := shallow_range t d l
      have h2 := shallowK_range r d (shallow t d l) h1.1
      omega
end

theorem shallowK_drop {ks : List Tree} {i : Nat} {d l : Int} (h : i < ks.length) (hl : 0 ≤ l) : shallowK (ks.drop i) d l = shallowK (ks.drop (i + 1)) d (shallow (ks.getD i Tree.nil) d l) := by
  rw [List.drop_eq_getElem_cons h]
  simp only [shallowK]
  rw [if_neg (by omega)]
  simp [List.getD, h]

theorem c68 : Contract Try.prog cfg 68 spec68 := by
  refine make68 ?_
  rintro N ⟨k, ws, ks⟩ d l _ ⟨hs, h1, h2, h3, h4⟩ hN
  simp only [small, mu68, mass] at *
  refine vc68 N _ _ _ _ ?_
  (simp only [bif_tl, bif_fr, bif_tlf, bif_frf, Bool.not_eq_true', Bool.not_eq_false', decide_eq_true_eq, decide_eq_false_iff_not, beq_iff_eq, beq_eq_false_iff_ne, bne_iff_ne, ne_eq, bne_eq_false_iff_eq, Bool.or_eq_true, Bool.and_eq_true, Bool.or_eq_false_iff, Bool.and_eq_false_imp])
  (simp only [Tree.eta, Edit.eta, Tree.kind_mk, Tree.words_mk, Tree.kids_mk])
  refine ⟨by unfold InR; omega, by unfold InR; omega, by omega, by omega, fun hc => ?_, fun hc => ?_⟩
  · have e : shallow (.mk k ws ks) d l = -1 := by
      simp only [shallow]
      rw [if_pos (by omega)]
    simp only [res68, e]
    exact ⟨⟨rfl, ⟨⟨rfl, rfl⟩, trivial⟩, trivial⟩, trivial⟩
  · have e : shallow (.mk k ws ks) d l = shallowK ks (d - 1) (l - 1 - ws.length) := by
      simp only [shallow]
      rw [if_neg (by omega)]
    simp only [res68, e]
    refine loop_rule (ι := Int × Int) (fun p => head68_0 (.mk k ws ks) d l p.1 p.2) (fun p => 0 ≤ p.2 ∧ p.2 ≤ ks.length ∧ -1 ≤ p.1 ∧ p.1 ≤ l ∧ shallowK (ks.drop p.2.toNat) (d - 1) p.1 = shallowK ks (d - 1) (l - 1 - ws.length)) (fun p => ((ks.length : Int) - p.2).toNat) (l - 1 - ws.length, 0) rfl ⟨by omega, by omega, by omega, by omega, by simp⟩ ?_
    rintro ⟨l', i⟩ ⟨h5, h6, h7, h8, h9⟩
    dsimp only at *
    refine vc68_l0 N _ _ _ _ _ _ _ ?_
    (simp only [bif_tl, bif_fr, bif_tlf, bif_frf, Bool.not_eq_true', Bool.not_eq_false', decide_eq_true_eq, decide_eq_false_iff_not, beq_iff_eq, beq_eq_false_iff_ne, bne_iff_ne, ne_eq, bne_eq_false_iff_eq, Bool.or_eq_true, Bool.and_eq_true, Bool.or_eq_false_iff, Bool.and_eq_false_imp])
    (simp only [Tree.eta, Edit.eta, Tree.kind_mk, Tree.words_mk, Tree.kids_mk])
    refine ⟨by omega, by omega, fun hc => ?_, fun hc => ?_⟩
    · have hi : i.toNat < ks.length := by omega
      have hr := shallow_range (ks.getD i.toNat Tree.nil) (d - 1) l'
      have hn := massK_get hi
      have hd := shallowK_drop (d := d - 1) hi hc.2
      refine ⟨by omega, by unfold InR; omega, ⟨smallK_get hs.2.2 hi, by dsimp only; omega, by dsimp only; omega, by dsimp only; omega, by dsimp only; omega⟩, by simp only [mu68]; omega, by unfold InR; omega, ⟨(shallow (ks.getD i.toNat Tree.nil) (d - 1) l', i + 1), rfl, ⟨by dsimp only; omega, by dsimp only; omega, by dsimp only; omega, by dsimp only; omega, ?_⟩, by dsimp only; omega⟩⟩
      dsimp only
      rw [← h9, hd]
      congr 2
      omega
    · have e : shallowK ks (d - 1) (l - 1 - ws.length) = l' := by
        rw [← h9]
        by_cases hi : i < ks.length
        · rw [List.drop_eq_getElem_cons (by omega)]
          simp only [shallowK]
          rw [if_pos (by omega)]
        · rw [List.drop_eq_nil_of_le (by omega)]
          simp only [shallowK]
      rw [e]
      exact ⟨⟨rfl, ⟨⟨rfl, rfl⟩, trivial⟩, trivial⟩, trivial⟩

theorem massK_len : ∀ (ks : List Tree), ks.length ≤ massK ks
  | [] => by simp [massK]
  | t :: r => by
    have := massK_len r
    have : 1 ≤ mass t := by cases t; simp only [mass]; omega
    simp only [massK, List.length_cons]
    omega



end Go.AM.Ytlahjnelghpmeaa

namespace Go.AM.Ytlahjnelghpmeaa
open Go.AM Go.Proofs

def args133 : ArgL (Int × Unit) := (.cons (aInt .i64) .nil)
def pre133 (a : Int × Unit) : Prop := True
noncomputable def res133 (a : Int × Unit) : V U := .tup [(false, [.int .i64 (if wd a.1 < 0 then 0 else wd a.1)]), (false, [.bool (decide (0 ≤ wd a.1))])]
noncomputable def spec133 : Fs U := fs args133 (fun a => [pre133 a]) res133

def args125 : ArgL (Int × Int × Unit) := (.cons (aInt .i64) (.cons (aInt .u64) .nil))
def pre125 (a : Int × Int × Unit) : Prop := 0 ≤ a.2.1 ∧ a.2.1 < 18446744073709551616
noncomputable def res125 (a : Int × Int × Unit) : V U := .c (.bool (fits a.1 a.2.1))
noncomputable def spec125 : Fs U := fs args125 (fun a => [pre125 a]) res125

def args48 : ArgL (Int × Unit) := (.cons (aInt .i64) .nil)
def pre48 (a : Int × Unit) : Prop := True
noncomputable def res48 (a : Int × Unit) : V U := .c (.bool (decide (2 ≤ a.1 ∧ a.1 ≤ 9)))
noncomputable def spec48 : Fs U := fs args48 (fun a => [pre48 a]) res48

def args49 : ArgL (Int × Unit) := (.cons (aInt .i64) .nil)
def pre49 (a : Int × Unit) : Prop := True
noncomputable def res49 (a : Int × Unit) : V U := .c (.bool (decide (2 ≤ a.1 ∧ a.1 ≤ 7)))
noncomputable def spec49 : Fs U := fs args49 (fun a => [pre49 a]) res49

def args111 : ArgL (Int × Tree × Unit) := (.cons (aInt .i64) (.cons (aEl .tree) .nil))
def pre111 (a : Int × Tree × Unit) : Prop := rng a.2.1
noncomputable def res111 (a : Int × Tree × Unit) : V U := .c (.bool (kidB a.1 a.2.1))
noncomputable def spec111 : Fs U := fs args111 (fun a => [pre111 a]) res111

def args80 : ArgL (Tree × Int × Unit) := (.cons (aEl .tree) (.cons (aInt .i64) .nil))
def pre80 (a : Tree × Int × Unit) : Prop := mass a.1 ≤ 1000000 ∧ rng a.1 ∧ 0 ≤ a.2.1 ∧ a.2.1 ≤ 1000
def mu80 (a : Tree × Int × Unit) : Nat := mass a.1
noncomputable def res80 (a : Tree × Int × Unit) : V U := .c (.bool (rightT a.1 a.2.1))
noncomputable def spec80 : Fs U := fs args80 (fun a => [pre80 a]) res80

def args46 : ArgL (Tree × Unit) := (.cons (aEl .tree) .nil)
def pre46 (a : Tree × Unit) : Prop := mass a.1 ≤ 1000000 ∧ rng a.1
noncomputable def res46 (a : Tree × Unit) : V U := .c (.bool (rightT a.1 64))
noncomputable def spec46 : Fs U := fs args46 (fun a => [pre46 a]) res46

/-! cento/centoref01.Width -/
/-! cento/centoref01.Fits -/
/-! cento/word.width -/
noncomputable def know133 : List (FuncId × Fs U) := []
def lv133 : Lives U := fun i => match i with
  | 0 => ([(0, [])], [])
  | 1 => ([(0, []), (4, [])], [((.loc 4), [])])
  | 2 => ([(0, []), (4, []), (11, [])], [((.loc 4), [])])
  | 3 => ([(2, []), (3, [])], [])
  | 4 => ([(2, []), (3, [])], [])
  | _ => ([], [])
/-- the body -/
theorem vc133 (c : Int) (Q : AExit → LSt U → Prop) (h : ((bif (decide ((c : Int) < 0)) then true else (decide ((6 : Int) ≤ c))) = true → Q .ret (⟨[(2, .c (.int .i64 0)), (3, .c (.bool false))], [], []⟩ : LSt U)) ∧ ((bif (decide ((c : Int) < 0)) then true else (decide ((6 : Int) ≤ c))) = false → ((0 : Int) ≤ c ∧ c < ((6 : Nat) : Int)) ∧ (Q .ret (⟨[(2, .c (.int .i64 (List.getD [0, 1, 8, 16, 32, 64] (Int.toNat c) 0))), (3, .c (.bool true))], [], []⟩ : LSt U)))) :
    awp cfg (know know133) (drawOk cfg (know know133)) Try.f133.ntmps lv133 (cd Try.f133 []) (⟨[(0, .c (.int .i64 c))], [], []⟩ : LSt U) Q := by
  have e : (awp cfg (know know133) (drawOk cfg (know know133)) Try.f133.ntmps lv133 (cd Try.f133 []) (⟨[(0, .c (.int .i64 c))], [], []⟩ : LSt U) Q) = (((((!(decide ((c : Int) < 0))) = true → (!(decide ((c : Int) < 0))) = true) ∧ (((decide ((c : Int) < 0)) = false → (!(decide ((c : Int) < 0))) = true)) ∧ (((bif (decide ((c : Int) < 0)) then true else (decide ((6 : Int) ≤ c))) = true → (Q .ret (⟨[(2, .c (.int .i64 0)), (3, .c (.bool false))], [], []⟩ : LSt U))) ∧ ((bif (decide ((c : Int) < 0)) then true else (decide ((6 : Int) ≤ c))) = false → ((0 : Int) ≤ c ∧ c < ((6 : Nat) : Int)) ∧ (Q .ret (⟨[(2, .c (.int .i64 (List.getD [0, 1, 8, 16, 32, 64] (Int.toNat c) 0))), (3, .c (.bool true))], [], []⟩ : LSt U))))))) := by kernel_rfl
  exact e.mpr ⟨fun x => x, (by generalize (decide ((c : Int) < 0)) = b0; revert b0; decide), ⟨fun c_9 => (h.1 c_9), fun c_9 => ⟨(h.2 c_9).1, (h.2 c_9).2⟩⟩⟩
def Body133 (c : Int)  : Prop := awp cfg (know (know133)) (drawOk cfg (know (know133))) Try.f133.ntmps lv133 (cd Try.f133 []) (entry (args133.can (c, ())) []) (EndsQ cfg Try.f133.ntmps Try.f133.results.toList (res133 (c, ())) [])
theorem make133 (hb : ∀ (c : Int) (_ : Unit), pre133 (c, ()) → Body133 c) : Contract Try.prog cfg 133 spec133 :=
  contract_flat (l := []) cfgOk rfl (trivial) lv133 Try.func133 rfl rfl 1 (fun _ => rfl) (by decide) (fun ⟨c, _⟩ => hb c ())

/-! cento/word.Fits -/
noncomputable def know125 : List (FuncId × Fs U) := [(133, spec133)]
def lv125 : Lives U := fun i => match i with
  | 0 => ([(0, []), (1, [])], [])
  | 1 => ([(1, []), (5, []), (6, [])], [])
  | 2 => ([(4, [])], [])
  | _ => ([], [])
/-- the body -/
theorem vc125 (c : Int) (n : Int) (Q : AExit → LSt U → Prop) (h : (pre133 (c, ())) ∧ ((((decide (0 ≤ wd c)) && (!(((if wd c < 0 then 0 else wd c) : Int) == 64))) = true → (0 : Int) ≤ (if wd c < 0 then 0 else wd c)) ∧ (Q .ret (⟨[(4, .c (.bool (bif (decide (0 ≤ wd c)) then (bif (((if wd c < 0 then 0 else wd c) : Int) == 64) then true else (((Int.fdiv n (2 ^ (min (Int.toNat (if wd c < 0 then 0 else wd c)) (IntKind.bits .u64)))) : Int) == 0)) else false)))], [], []⟩ : LSt U)))) :
    awp cfg (know know125) (drawOk cfg (know know125)) Try.f125.ntmps lv125 (cd Try.f125 []) (⟨[(0, .c (.int .i64 c)), (1, .c (.int .u64 n))], [], []⟩ : LSt U) Q := by
  have e : (awp cfg (know know125) (drawOk cfg (know know125)) Try.f125.ntmps lv125 (cd Try.f125 []) (⟨[(0, .c (.int .i64 c)), (1, .c (.int .u64 n))], [], []⟩ : LSt U) Q) = (((pre133 (c, ())) ∧ (((decide (0 ≤ wd c)) = true → (decide (0 ≤ wd c)) = true) ∧ ((decide (0 ≤ wd c)) = true → (decide (0 ≤ wd c)) = true) ∧ (((decide (0 ≤ wd c)) && (!(((if wd c < 0 then 0 else wd c) : Int) == 64))) = true → ((decide (0 ≤ wd c)) && (!(((if wd c < 0 then 0 else wd c) : Int) == 64))) = true) ∧ (((decide (0 ≤ wd c)) && (!(((if wd c < 0 then 0 else wd c) : Int) == 64))) = true → ((decide (0 ≤ wd c)) && (!(((if wd c < 0 then 0 else wd c) : Int) == 64))) = true) ∧ (((decide (0 ≤ wd c)) && (!(((if wd c < 0 then 0 else wd c) : Int) == 64))) = true → (0 : Int) ≤ (if wd c < 0 then 0 else wd c)) ∧ (((decide (0 ≤ wd c)) && (!(((if wd c < 0 then 0 else wd c) : Int) == 64))) = true → ((decide (0 ≤ wd c)) && (!(((if wd c < 0 then 0 else wd c) : Int) == 64))) = true) ∧ ((decide (0 ≤ wd c)) = true → (True → (decide (0 ≤ wd c)) = true)) ∧ ((decide (0 ≤ wd c)) = true → ((((if wd c < 0 then 0 else wd c) : Int) == 64) = false → ((decide (0 ≤ wd c)) && (!(((if wd c < 0 then 0 else wd c) : Int) == 64))) = true)) ∧ (((decide (0 ≤ wd c)) = true → (decide (0 ≤ wd c)) = true)) ∧ (Q .ret (⟨[(4, .c (.bool (bif (decide (0 ≤ wd c)) then (bif (((if wd c < 0 then 0 else wd c) : Int) == 64) then true else (((Int.fdiv n (2 ^ (min (Int.toNat (if wd c < 0 then 0 else wd c)) (IntKind.bits .u64)))) : Int) == 0)) else false)))], [], []⟩ : LSt U))))) := by kernel_rfl
  exact e.mpr ⟨h.1, ⟨fun x => x, fun x => x, fun x => x, fun x => x, h.2.1, fun x => x, (by generalize (decide (0 ≤ wd c)) = b0; revert b0; decide), (by generalize (((if wd c < 0 then 0 else wd c) : Int) == 64) = b0; generalize (decide (0 ≤ wd c)) = b1; revert b0 b1; decide), (by generalize (decide (0 ≤ wd c)) = b0; revert b0; decide), h.2.2⟩⟩
def Body125 (c : Int) (n : Int)  : Prop := awp cfg (know (know125)) (drawOk cfg (know (know125))) Try.f125.ntmps lv125 (cd Try.f125 []) (entry (args125.can (c, n, ())) []) (EndsQ cfg Try.f125.ntmps Try.f125.results.toList (res125 (c, n, ())) [])
theorem make125 (c133 : Contract Try.prog cfg 133 spec133) (hb : ∀ (c : Int) (n : Int) (_ : Unit), pre125 (c, n, ()) → Body125 c n) : Contract Try.prog cfg 125 spec125 :=
  contract_flat (l := [(133, spec133)]) cfgOk rfl (⟨c133, trivial⟩) lv125 Try.func125 rfl rfl 2 (fun _ => rfl) (by decide) (fun ⟨c, n, _⟩ => hb c n ())

/-! cento/tree.List -/
noncomputable def know48 : List (FuncId × Fs U) := []
def lv48 : Lives U := fun i => match i with
  | 0 => ([(0, [])], [])
  | 1 => ([(2, [])], [])
  | _ => ([], [])
/-- the body -/
theorem vc48 (k : Int) (Q : AExit → LSt U → Prop) (h : Q .ret (⟨[(2, .c (.bool (bif (decide ((2 : Int) ≤ k)) then (decide ((k : Int) ≤ 9)) else false)))], [], []⟩ : LSt U)) :
    awp cfg (know know48) (drawOk cfg (know know48)) Try.f48.ntmps lv48 (cd Try.f48 []) (⟨[(0, .c (.int .i64 k))], [], []⟩ : LSt U) Q := by
  have e : (awp cfg (know know48) (drawOk cfg (know know48)) Try.f48.ntmps lv48 (cd Try.f48 []) (⟨[(0, .c (.int .i64 k))], [], []⟩ : LSt U) Q) = ((((decide ((2 : Int) ≤ k)) = true → (decide ((2 : Int) ≤ k)) = true) ∧ (((decide ((2 : Int) ≤ k)) = true → (decide ((2 : Int) ≤ k)) = true)) ∧ (Q .ret (⟨[(2, .c (.bool (bif (decide ((2 : Int) ≤ k)) then (decide ((k : Int) ≤ 9)) else false)))], [], []⟩ : LSt U)))) := by kernel_rfl
  exact e.mpr ⟨fun x => x, (by generalize (decide ((2 : Int) ≤ k)) = b0; revert b0; decide), h⟩
def Body48 (k : Int)  : Prop := awp cfg (know (know48)) (drawOk cfg (know (know48))) Try.f48.ntmps lv48 (cd Try.f48 []) (entry (args48.can (k, ())) []) (EndsQ cfg Try.f48.ntmps Try.f48.results.toList (res48 (k, ())) [])
theorem make48 (hb : ∀ (k : Int) (_ : Unit), pre48 (k, ()) → Body48 k) : Contract Try.prog cfg 48 spec48 :=
  contract_flat (l := []) cfgOk rfl (trivial) lv48 Try.func48 rfl rfl 1 (fun _ => rfl) (by decide) (fun ⟨k, _⟩ => hb k ())

/-! cento/tree.Data -/
noncomputable def know49 : List (FuncId × Fs U) := []
def lv49 : Lives U := fun i => match i with
  | 0 => ([(0, [])], [])
  | 1 => ([(2, [])], [])
  | _ => ([], [])
/-- the body -/
theorem vc49 (k : Int) (Q : AExit → LSt U → Prop) (h : Q .ret (⟨[(2, .c (.bool (bif (decide ((2 : Int) ≤ k)) then (decide ((k : Int) ≤ 7)) else false)))], [], []⟩ : LSt U)) :
    awp cfg (know know49) (drawOk cfg (know know49)) Try.f49.ntmps lv49 (cd Try.f49 []) (⟨[(0, .c (.int .i64 k))], [], []⟩ : LSt U) Q := by
  have e : (awp cfg (know know49) (drawOk cfg (know know49)) Try.f49.ntmps lv49 (cd Try.f49 []) (⟨[(0, .c (.int .i64 k))], [], []⟩ : LSt U) Q) = ((((decide ((2 : Int) ≤ k)) = true → (decide ((2 : Int) ≤ k)) = true) ∧ (((decide ((2 : Int) ≤ k)) = true → (decide ((2 : Int) ≤ k)) = true)) ∧ (Q .ret (⟨[(2, .c (.bool (bif (decide ((2 : Int) ≤ k)) then (decide ((k : Int) ≤ 7)) else false)))], [], []⟩ : LSt U)))) := by kernel_rfl
  exact e.mpr ⟨fun x => x, (by generalize (decide ((2 : Int) ≤ k)) = b0; revert b0; decide), h⟩
def Body49 (k : Int)  : Prop := awp cfg (know (know49)) (drawOk cfg (know (know49))) Try.f49.ntmps lv49 (cd Try.f49 []) (entry (args49.can (k, ())) []) (EndsQ cfg Try.f49.ntmps Try.f49.results.toList (res49 (k, ())) [])
theorem make49 (hb : ∀ (k : Int) (_ : Unit), pre49 (k, ()) → Body49 k) : Contract Try.prog cfg 49 spec49 :=
  contract_flat (l := []) cfgOk rfl (trivial) lv49 Try.func49 rfl rfl 1 (fun _ => rfl) (by decide) (fun ⟨k, _⟩ => hb k ())

/-! cento/tree.kid -/
noncomputable def know111 : List (FuncId × Fs U) := [(49, spec49), (125, spec125)]
def lv111 : Lives U := fun i => match i with
  | 0 => ([(0, []), (3, [])], [((.loc 3), [])])
  | 1 => ([(0, []), (3, []), (5, [])], [((.loc 3), [])])
  | 2 => ([(4, [])], [])
  | 3 => ([(3, []), (32, [])], [((.loc 3), [])])
  | 4 => ([(4, [])], [])
  | 5 => ([(4, [])], [])
  | _ => ([], [])
/-- the body -/
theorem vc111 (l : Int) (t : Tree) (Q : AExit → LSt U → Prop) (h : (pre49 (l, ())) ∧ (((decide (2 ≤ l ∧ l ≤ 7)) = true → ((bif (bif (((Tree.kind t) : Int) == 10) then ((((Tree.kids t).length : Int) : Int) == 0) else false) then ((((Tree.words t).length : Int) : Int) == 1) else false) = true → InR ((l : Int) - 2)) ∧ ((bif (bif (((Tree.kind t) : Int) == 10) then ((((Tree.kids t).length : Int) : Int) == 0) else false) then ((((Tree.words t).length : Int) : Int) == 1) else false) = true → (0 : Int) ≤ 0 ∧ 0 < ((Tree.words t).length : Int)) ∧ ((bif (bif (((Tree.kind t) : Int) == 10) then ((((Tree.kids t).length : Int) : Int) == 0) else false) then ((((Tree.words t).length : Int) : Int) == 1) else false) = true → pre125 (((l : Int) - 2), (List.getD (Tree.words t) (Int.toNat 0) (0 : Int)), ())) ∧ (Q .ret (⟨[(4, .c (.bool (bif (bif (bif (((Tree.kind t) : Int) == 10) then ((((Tree.kids t).length : Int) : Int) == 0) else false) then ((((Tree.words t).length : Int) : Int) == 1) else false) then (fits ((l : Int) - 2) (List.getD (Tree.words t) (Int.toNat 0) (0 : Int))) else false)))], [], []⟩ : LSt U))) ∧ ((decide (2 ≤ l ∧ l ≤ 7)) = false → (((l : Int) == 9) = true → Q .ret (⟨[(4, .c (.bool (((Tree.kind t) : Int) == 1)))], [], []⟩ : LSt U)) ∧ (((l : Int) == 9) = false → Q .ret (⟨[(4, .c (.bool (((Tree.kind t) : Int) != 10)))], [], []⟩ : LSt U))))) :
    awp cfg (know know111) (drawOk cfg (know know111)) Try.f111.ntmps lv111 (cd Try.f111 []) (⟨[(0, .c (.int .i64 l)), (1, .agg [.int .i64 (Tree.kind t), .slice (U := U) .u64 (Tree.words t) .unk, .slice (U := U) .tree (Tree.kids t) .unk])], [], []⟩ : LSt U) Q := by
  have e : (awp cfg (know know111) (drawOk cfg (know know111)) Try.f111.ntmps lv111 (cd Try.f111 []) (⟨[(0, .c (.int .i64 l)), (1, .agg [.int .i64 (Tree.kind t), .slice (U := U) .u64 (Tree.words t) .unk, .slice (U := U) .tree (Tree.kids t) .unk])], [], []⟩ : LSt U) Q) = (((pre49 (l, ())) ∧ (((decide (2 ≤ l ∧ l ≤ 7)) = true → ((((Tree.kind t) : Int) == 10) = true → (((Tree.kind t) : Int) == 10) = true) ∧ ((((Tree.kind t) : Int) == 10) = true → (((Tree.kind t) : Int) == 10) = true) ∧ ((((Tree.kind t) : Int) == 10) = true → (((Tree.kind t) : Int) == 10) = true) ∧ (((((Tree.kind t) : Int) == 10) = true → (((Tree.kind t) : Int) == 10) = true)) ∧ ((bif (((Tree.kind t) : Int) == 10) then ((((Tree.kids t).length : Int) : Int) == 0) else false) = true → (bif (((Tree.kind t) : Int) == 10) then ((((Tree.kids t).length : Int) : Int) == 0) else false) = true) ∧ ((bif (((Tree.kind t) : Int) == 10) then ((((Tree.kids t).length : Int) : Int) == 0) else false) = true → (bif (((Tree.kind t) : Int) == 10) then ((((Tree.kids t).length : Int) : Int) == 0) else false) = true) ∧ ((bif (((Tree.kind t) : Int) == 10) then ((((Tree.kids t).length : Int) : Int) == 0) else false) = true → (bif (((Tree.kind t) : Int) == 10) then ((((Tree.kids t).length : Int) : Int) == 0) else false) = true) ∧ (((bif (((Tree.kind t) : Int) == 10) then ((((Tree.kids t).length : Int) : Int) == 0) else false) = true → (bif (((Tree.kind t) : Int) == 10) then ((((Tree.kids t).length : Int) : Int) == 0) else false) = true)) ∧ ((bif (bif (((Tree.kind t) : Int) == 10) then ((((Tree.kids t).length : Int) : Int) == 0) else false) then ((((Tree.words t).length : Int) : Int) == 1) else false) = true → (bif (bif (((Tree.kind t) : Int) == 10) then ((((Tree.kids t).length : Int) : Int) == 0) else false) then ((((Tree.words t).length : Int) : Int) == 1) else false) = true) ∧ ((bif (bif (((Tree.kind t) : Int) == 10) then ((((Tree.kids t).length : Int) : Int) == 0) else false) then ((((Tree.words t).length : Int) : Int) == 1) else false) = true → InR ((l : Int) - 2)) ∧ ((bif (bif (((Tree.kind t) : Int) == 10) then ((((Tree.kids t).length : Int) : Int) == 0) else false) then ((((Tree.words t).length : Int) : Int) == 1) else false) = true → (bif (bif (((Tree.kind t) : Int) == 10) then ((((Tree.kids t).length : Int) : Int) == 0) else false) then ((((Tree.words t).length : Int) : Int) == 1) else false) = true) ∧ ((bif (bif (((Tree.kind t) : Int) == 10) then ((((Tree.kids t).length : Int) : Int) == 0) else false) then ((((Tree.words t).length : Int) : Int) == 1) else false) = true → (bif (bif (((Tree.kind t) : Int) == 10) then ((((Tree.kids t).length : Int) : Int) == 0) else false) then ((((Tree.words t).length : Int) : Int) == 1) else false) = true) ∧ ((bif (bif (((Tree.kind t) : Int) == 10) then ((((Tree.kids t).length : Int) : Int) == 0) else false) then ((((Tree.words t).length : Int) : Int) == 1) else false) = true → (0 : Int) ≤ 0 ∧ 0 < ((Tree.words t).length : Int)) ∧ ((bif (bif (((Tree.kind t) : Int) == 10) then ((((Tree.kids t).length : Int) : Int) == 0) else false) then ((((Tree.words t).length : Int) : Int) == 1) else false) = true → (bif (bif (((Tree.kind t) : Int) == 10) then ((((Tree.kids t).length : Int) : Int) == 0) else false) then ((((Tree.words t).length : Int) : Int) == 1) else false) = true) ∧ ((bif (bif (((Tree.kind t) : Int) == 10) then ((((Tree.kids t).length : Int) : Int) == 0) else false) then ((((Tree.words t).length : Int) : Int) == 1) else false) = true → (bif (bif (((Tree.kind t) : Int) == 10) then ((((Tree.kids t).length : Int) : Int) == 0) else false) then ((((Tree.words t).length : Int) : Int) == 1) else false) = true) ∧ ((bif (bif (((Tree.kind t) : Int) == 10) then ((((Tree.kids t).length : Int) : Int) == 0) else false) then ((((Tree.words t).length : Int) : Int) == 1) else false) = true → (bif (bif (((Tree.kind t) : Int) == 10) then ((((Tree.kids t).length : Int) : Int) == 0) else false) then ((((Tree.words t).length : Int) : Int) == 1) else false) = true) ∧ ((bif (bif (((Tree.kind t) : Int) == 10) then ((((Tree.kids t).length : Int) : Int) == 0) else false) then ((((Tree.words t).length : Int) : Int) == 1) else false) = true → pre125 (((l : Int) - 2), (List.getD (Tree.words t) (Int.toNat 0) (0 : Int)), ())) ∧ (((bif (bif (((Tree.kind t) : Int) == 10) then ((((Tree.kids t).length : Int) : Int) == 0) else false) then ((((Tree.words t).length : Int) : Int) == 1) else false) = true → (bif (bif (((Tree.kind t) : Int) == 10) then ((((Tree.kids t).length : Int) : Int) == 0) else false) then ((((Tree.words t).length : Int) : Int) == 1) else false) = true)) ∧ (Q .ret (⟨[(4, .c (.bool (bif (bif (bif (((Tree.kind t) : Int) == 10) then ((((Tree.kids t).length : Int) : Int) == 0) else false) then ((((Tree.words t).length : Int) : Int) == 1) else false) then (fits ((l : Int) - 2) (List.getD (Tree.words t) (Int.toNat 0) (0 : Int))) else false)))], [], []⟩ : LSt U))) ∧ ((decide (2 ≤ l ∧ l ≤ 7)) = false → ((((l : Int) == 9) = true → (Q .ret (⟨[(4, .c (.bool (((Tree.kind t) : Int) == 1)))], [], []⟩ : LSt U))) ∧ (((l : Int) == 9) = false → (Q .ret (⟨[(4, .c (.bool (((Tree.kind t) : Int) != 10)))], [], []⟩ : LSt U)))))))) := by kernel_rfl
  exact e.mpr ⟨h.1, ⟨fun c_10 => ⟨fun x => x, fun x => x, fun x => x, (by generalize (((Tree.kind t) : Int) == 10) = b0; revert b0; decide), fun x => x, fun x => x, fun x => x, (by generalize ((((Tree.kids t).length : Int) : Int) == 0) = b0; generalize (((Tree.kind t) : Int) == 10) = b1; revert b0 b1; decide), fun x => x, (h.2.1 c_10).1, fun x => x, fun x => x, (h.2.1 c_10).2.1, fun x => x, fun x => x, fun x => x, (h.2.1 c_10).2.2.1, (by generalize ((((Tree.words t).length : Int) : Int) == 1) = b0; generalize ((((Tree.kids t).length : Int) : Int) == 0) = b1; generalize (((Tree.kind t) : Int) == 10) = b2; revert b0 b1 b2; decide), (h.2.1 c_10).2.2.2⟩, fun c_10 => ⟨fun c_11 => ((h.2.2 c_10).1 c_11), fun c_11 => ((h.2.2 c_10).2 c_11)⟩⟩⟩
def Body111 (l : Int) (t : Tree)  : Prop := awp cfg (know (know111)) (drawOk cfg (know (know111))) Try.f111.ntmps lv111 (cd Try.f111 []) (entry (args111.can (l, t, ())) []) (EndsQ cfg Try.f111.ntmps Try.f111.results.toList (res111 (l, t, ())) [])
theorem make111 (c49 : Contract Try.prog cfg 49 spec49) (c125 : Contract Try.prog cfg 125 spec125) (hb : ∀ (l : Int) (t : Tree) (_ : Unit), pre111 (l, t, ()) → Body111 l t) : Contract Try.prog cfg 111 spec111 :=
  contract_flat (l := [(49, spec49), (125, spec125)]) cfgOk rfl (⟨c49, c125, trivial⟩) lv111 Try.func111 rfl rfl 2 (fun _ => rfl) (by decide) (fun ⟨l, t, _⟩ => hb l t ())

/-! cento/tree.right -/
noncomputable def know80 (N : Nat) : List (FuncId × Fs U) := (80, fs args80 (fun a => [pre80 a, mu80 a < N]) res80) :: [(48, spec48), (111, spec111)]
def lv80 : Lives U := fun i => match i with
  | 0 => ([(1, []), (2, [])], [((.loc 2), [])])
  | 1 => ([(1, []), (2, []), (8, [])], [((.loc 2), [])])
  | 2 => ([(4, [])], [])
  | 3 => ([(1, []), (2, []), (22, [])], [((.loc 2), [])])
  | 4 => ([(4, [])], [])
  | 5 => ([(1, []), (2, []), (36, [])], [((.loc 2), [])])
  | 6 => ([(4, [])], [])
  | 7 => ([(1, []), (2, []), (39, [])], [((.loc 2), [])])
  | 8 => ([(1, []), (2, []), (52, [])], [((.loc 2), [])])
  | 9 => ([(4, [])], [])
  | 10 => ([(1, []), (2, []), (53, [])], [((.loc 2), [])])
  | 11 => ([(4, [])], [])
  | 12 => ([(1, []), (2, []), (71, []), (72, []), (73, [])], [((.loc 2), [])])
  | 13 => ([(1, []), (2, []), (71, []), (72, []), (73, []), (74, [])], [((.loc 2), [])])
  | 14 => ([(1, []), (2, []), (6, []), (71, []), (72, []), (73, [])], [((.loc 2), []), ((.loc 6), [])])
  | 15 => ([(1, []), (2, []), (6, []), (7, []), (71, []), (72, []), (73, [])], [((.loc 2), []), ((.loc 6), [])])
  | 16 => ([(1, []), (2, []), (6, []), (7, []), (71, []), (72, []), (73, []), (82, [])], [((.loc 2), []), ((.loc 6), [])])
  | 17 => ([(1, []), (2, []), (6, []), (7, []), (71, []), (72, []), (73, [])], [((.loc 2), []), ((.loc 6), [])])
  | 18 => ([(1, []), (2, []), (71, []), (72, []), (73, []), (95, [])], [((.loc 2), [])])
  | 19 => ([(4, [])], [])
  | 20 => ([(1, []), (2, []), (71, []), (72, []), (73, [])], [((.loc 2), [])])
  | 21 => ([(4, [])], [])
  | _ => ([], [])
def head80_0 (t : Tree) (d : Int) (x73 : Int) : LSt U := (⟨[(1, .c (.int .i64 d)), (2, .ptr (.loc 2) 0), (71, .c (.slice (U := U) .tree (Tree.kids t) .unk)), (72, .c (.int .i64 ((Tree.kids t).length : Int))), (73, .c (.int .i64 x73))], [((.loc 2), [.int .i64 (Tree.kind t), .slice (U := U) .u64 (Tree.words t) .unk, .slice (U := U) .tree (Tree.kids t) .unk])], []⟩ : LSt U)
/-- the body -/
theorem vc80 (N : Nat) (t : Tree) (d : Int) (Q : AExit → LSt U → Prop) (h : ((((Tree.kind t) : Int) == 0) = true → Q .ret (⟨[(4, .c (.bool (bif ((((Tree.words t).length : Int) : Int) == 0) then ((((Tree.kids t).length : Int) : Int) == 0) else false)))], [], []⟩ : LSt U)) ∧ ((((Tree.kind t) : Int) == 0) = false → ((((Tree.kind t) : Int) == 10) = true → Q .ret (⟨[(4, .c (.bool (bif ((((Tree.words t).length : Int) : Int) == 1) then ((((Tree.kids t).length : Int) : Int) == 0) else false)))], [], []⟩ : LSt U)) ∧ ((((Tree.kind t) : Int) == 10) = false → (((d : Int) == 0) = true → Q .ret (⟨[(4, .c (.bool false))], [], []⟩ : LSt U)) ∧ (((d : Int) == 0) = false → ((((Tree.kind t) : Int) == 1) = true → ((bif (decide ((65536 : Int) ≤ ((Tree.words t).length : Int))) then true else (decide ((65536 : Int) ≤ ((Tree.kids t).length : Int)))) = true → Q .ret (⟨[(4, .c (.bool false))], [], []⟩ : LSt U)) ∧ ((bif (decide ((65536 : Int) ≤ ((Tree.words t).length : Int))) then true else (decide ((65536 : Int) ≤ ((Tree.kids t).length : Int)))) = false → LoopWp (awp cfg (know (know80 N)) (drawOk cfg (know (know80 N))) Try.f80.ntmps lv80 (cd Try.f80 [1, 1, 0, 1, 0, 0])) (head80_0 t d 0) (AExit.inBlock 1 (seqK cfg (know (know80 N)) (drawOk cfg (know (know80 N))) Try.f80.ntmps lv80 (cd Try.f80 [1, 1, 1]) Q)))) ∧ ((((Tree.kind t) : Int) == 1) = false → (pre48 ((Tree.kind t), ())) ∧ (((bif (bif (!(decide (2 ≤ (Tree.kind t) ∧ (Tree.kind t) ≤ 9))) then true else (decide ((0 : Int) < ((Tree.words t).length : Int)))) then true else (decide ((1048576 : Int) ≤ ((Tree.kids t).length : Int)))) = true → Q .ret (⟨[(4, .c (.bool false))], [], []⟩ : LSt U)) ∧ ((bif (bif (!(decide (2 ≤ (Tree.kind t) ∧ (Tree.kind t) ≤ 9))) then true else (decide ((0 : Int) < ((Tree.words t).length : Int)))) then true else (decide ((1048576 : Int) ≤ ((Tree.kids t).length : Int)))) = false → LoopWp (awp cfg (know (know80 N)) (drawOk cfg (know (know80 N))) Try.f80.ntmps lv80 (cd Try.f80 [1, 1, 0, 1, 0, 0])) (head80_0 t d 0) (AExit.inBlock 1 (seqK cfg (know (know80 N)) (drawOk cfg (know (know80 N))) Try.f80.ntmps lv80 (cd Try.f80 [1, 1, 1]) Q))))))))) :
    awp cfg (know (know80 N)) (drawOk cfg (know (know80 N))) Try.f80.ntmps lv80 (cd Try.f80 []) (⟨[(0, .agg [.int .i64 (Tree.kind t), .slice (U := U) .u64 (Tree.words t) .unk, .slice (U := U) .tree (Tree.kids t) .unk]), (1, .c (.int .i64 d))], [], []⟩ : LSt U) Q := by
  have e : (awp cfg (know (know80 N)) (drawOk cfg (know (know80 N))) Try.f80.ntmps lv80 (cd Try.f80 []) (⟨[(0, .agg [.int .i64 (Tree.kind t), .slice (U := U) .u64 (Tree.words t) .unk, .slice (U := U) .tree (Tree.kids t) .unk]), (1, .c (.int .i64 d))], [], []⟩ : LSt U) Q) = (((((((Tree.kind t) : Int) == 0) = true → (((((Tree.words t).length : Int) : Int) == 0) = true → ((((Tree.words t).length : Int) : Int) == 0) = true) ∧ (((((Tree.words t).length : Int) : Int) == 0) = true → ((((Tree.words t).length : Int) : Int) == 0) = true) ∧ (((((Tree.words t).length : Int) : Int) == 0) = true → ((((Tree.words t).length : Int) : Int) == 0) = true) ∧ ((((((Tree.words t).length : Int) : Int) == 0) = true → ((((Tree.words t).length : Int) : Int) == 0) = true)) ∧ (Q .ret (⟨[(4, .c (.bool (bif ((((Tree.words t).length : Int) : Int) == 0) then ((((Tree.kids t).length : Int) : Int) == 0) else false)))], [], []⟩ : LSt U))) ∧ ((((Tree.kind t) : Int) == 0) = false → (((((Tree.kind t) : Int) == 10) = true → (((((Tree.words t).length : Int) : Int) == 1) = true → ((((Tree.words t).length : Int) : Int) == 1) = true) ∧ (((((Tree.words t).length : Int) : Int) == 1) = true → ((((Tree.words t).length : Int) : Int) == 1) = true) ∧ (((((Tree.words t).length : Int) : Int) == 1) = true → ((((Tree.words t).length : Int) : Int) == 1) = true) ∧ ((((((Tree.words t).length : Int) : Int) == 1) = true → ((((Tree.words t).length : Int) : Int) == 1) = true)) ∧ (Q .ret (⟨[(4, .c (.bool (bif ((((Tree.words t).length : Int) : Int) == 1) then ((((Tree.kids t).length : Int) : Int) == 0) else false)))], [], []⟩ : LSt U))) ∧ ((((Tree.kind t) : Int) == 10) = false → ((((d : Int) == 0) = true → (Q .ret (⟨[(4, .c (.bool false))], [], []⟩ : LSt U))) ∧ (((d : Int) == 0) = false → (((((Tree.kind t) : Int) == 1) = true → ((!(decide ((65536 : Int) ≤ ((Tree.words t).length : Int)))) = true → (!(decide ((65536 : Int) ≤ ((Tree.words t).length : Int)))) = true) ∧ ((!(decide ((65536 : Int) ≤ ((Tree.words t).length : Int)))) = true → (!(decide ((65536 : Int) ≤ ((Tree.words t).length : Int)))) = true) ∧ ((!(decide ((65536 : Int) ≤ ((Tree.words t).length : Int)))) = true → (!(decide ((65536 : Int) ≤ ((Tree.words t).length : Int)))) = true) ∧ (((decide ((65536 : Int) ≤ ((Tree.words t).length : Int))) = false → (!(decide ((65536 : Int) ≤ ((Tree.words t).length : Int)))) = true)) ∧ (((bif (decide ((65536 : Int) ≤ ((Tree.words t).length : Int))) then true else (decide ((65536 : Int) ≤ ((Tree.kids t).length : Int)))) = true → (Q .ret (⟨[(4, .c (.bool false))], [], []⟩ : LSt U))) ∧ ((bif (decide ((65536 : Int) ≤ ((Tree.words t).length : Int))) then true else (decide ((65536 : Int) ≤ ((Tree.kids t).length : Int)))) = false → (LoopWp (awp cfg (know (know80 N)) (drawOk cfg (know (know80 N))) Try.f80.ntmps lv80 (cd Try.f80 [1, 1, 0, 1, 0, 0])) (head80_0 t d 0) (AExit.inBlock 1 (seqK cfg (know (know80 N)) (drawOk cfg (know (know80 N))) Try.f80.ntmps lv80 (cd Try.f80 [1, 1, 1]) Q)))))) ∧ ((((Tree.kind t) : Int) == 1) = false → (pre48 ((Tree.kind t), ())) ∧ ((!(!(decide (2 ≤ (Tree.kind t) ∧ (Tree.kind t) ≤ 9)))) = true → (!(!(decide (2 ≤ (Tree.kind t) ∧ (Tree.kind t) ≤ 9)))) = true) ∧ ((!(!(decide (2 ≤ (Tree.kind t) ∧ (Tree.kind t) ≤ 9)))) = true → (!(!(decide (2 ≤ (Tree.kind t) ∧ (Tree.kind t) ≤ 9)))) = true) ∧ ((!(!(decide (2 ≤ (Tree.kind t) ∧ (Tree.kind t) ≤ 9)))) = true → (!(!(decide (2 ≤ (Tree.kind t) ∧ (Tree.kind t) ≤ 9)))) = true) ∧ (((!(decide (2 ≤ (Tree.kind t) ∧ (Tree.kind t) ≤ 9))) = false → (!(!(decide (2 ≤ (Tree.kind t) ∧ (Tree.kind t) ≤ 9)))) = true)) ∧ ((!(bif (!(decide (2 ≤ (Tree.kind t) ∧ (Tree.kind t) ≤ 9))) then true else (decide ((0 : Int) < ((Tree.words t).length : Int))))) = true → (!(bif (!(decide (2 ≤ (Tree.kind t) ∧ (Tree.kind t) ≤ 9))) then true else (decide ((0 : Int) < ((Tree.words t).length : Int))))) = true) ∧ ((!(bif (!(decide (2 ≤ (Tree.kind t) ∧ (Tree.kind t) ≤ 9))) then true else (decide ((0 : Int) < ((Tree.words t).length : Int))))) = true → (!(bif (!(decide (2 ≤ (Tree.kind t) ∧ (Tree.kind t) ≤ 9))) then true else (decide ((0 : Int) < ((Tree.words t).length : Int))))) = true) ∧ ((!(bif (!(decide (2 ≤ (Tree.kind t) ∧ (Tree.kind t) ≤ 9))) then true else (decide ((0 : Int) < ((Tree.words t).length : Int))))) = true → (!(bif (!(decide (2 ≤ (Tree.kind t) ∧ (Tree.kind t) ≤ 9))) then true else (decide ((0 : Int) < ((Tree.words t).length : Int))))) = true) ∧ (((bif (!(decide (2 ≤ (Tree.kind t) ∧ (Tree.kind t) ≤ 9))) then true else (decide ((0 : Int) < ((Tree.words t).length : Int)))) = false → (!(bif (!(decide (2 ≤ (Tree.kind t) ∧ (Tree.kind t) ≤ 9))) then true else (decide ((0 : Int) < ((Tree.words t).length : Int))))) = true)) ∧ (((bif (bif (!(decide (2 ≤ (Tree.kind t) ∧ (Tree.kind t) ≤ 9))) then true else (decide ((0 : Int) < ((Tree.words t).length : Int)))) then true else (decide ((1048576 : Int) ≤ ((Tree.kids t).length : Int)))) = true → (Q .ret (⟨[(4, .c (.bool false))], [], []⟩ : LSt U))) ∧ ((bif (bif (!(decide (2 ≤ (Tree.kind t) ∧ (Tree.kind t) ≤ 9))) then true else (decide ((0 : Int) < ((Tree.words t).length : Int)))) then true else (decide ((1048576 : Int) ≤ ((Tree.kids t).length : Int)))) = false → (LoopWp (awp cfg (know (know80 N)) (drawOk cfg (know (know80 N))) Try.f80.ntmps lv80 (cd Try.f80 [1, 1, 0, 1, 0, 0])) (head80_0 t d 0) (AExit.inBlock 1 (seqK cfg (know (know80 N)) (drawOk cfg (know (know80 N))) Try.f80.ntmps lv80 (cd Try.f80 [1, 1, 1]) Q))))))))))))))) := by kernel_rfl
  exact e.mpr ⟨fun c_12 => ⟨fun x => x, fun x => x, fun x => x, (by generalize ((((Tree.words t).length : Int) : Int) == 0) = b0; revert b0; decide), (h.1 c_12)⟩, fun c_12 => ⟨fun c_13 => ⟨fun x => x, fun x => x, fun x => x, (by generalize ((((Tree.words t).length : Int) : Int) == 1) = b0; revert b0; decide), ((h.2 c_12).1 c_13)⟩, fun c_13 => ⟨fun c_14 => (((h.2 c_12).2 c_13).1 c_14), fun c_14 => ⟨fun c_15 => ⟨fun x => x, fun x => x, fun x => x, (by generalize (decide ((65536 : Int) ≤ ((Tree.words t).length : Int))) = b0; revert b0; decide), ⟨fun c_16 => (((((h.2 c_12).2 c_13).2 c_14).1 c_15).1 c_16), fun c_16 => (((((h.2 c_12).2 c_13).2 c_14).1 c_15).2 c_16)⟩⟩, fun c_15 => ⟨((((h.2 c_12).2 c_13).2 c_14).2 c_15).1, fun x => x, fun x => x, fun x => x, (by generalize (decide (2 ≤ (Tree.kind t) ∧ (Tree.kind t) ≤ 9)) = b0; revert b0; decide), fun x => x, fun x => x, fun x => x, (by generalize (decide ((0 : Int) < ((Tree.words t).length : Int))) = b0; generalize (decide (2 ≤ (Tree.kind t) ∧ (Tree.kind t) ≤ 9)) = b1; revert b0 b1; decide), ⟨fun c_17 => (((((h.2 c_12).2 c_13).2 c_14).2 c_15).2.1 c_17), fun c_17 => (((((h.2 c_12).2 c_13).2 c_14).2 c_15).2.2 c_17)⟩⟩⟩⟩⟩⟩
/-- the loop at [1, 1, 0, 1, 0] -/
theorem vc80_l0 (N : Nat) (t : Tree) (d : Int) (x73 : Int) (N0 : LSt U → Prop) (Q : AExit → LSt U → Prop) (h : ((decide ((x73 : Int) < ((Tree.kids t).length : Int))) = true → ((0 : Int) ≤ x73 ∧ x73 < ((Tree.kids t).length : Int)) ∧ (((((Tree.kind t) : Int) != 1) = true → (pre111 ((Tree.kind t), (Tree.mk (Tree.kind (List.getD (Tree.kids t) (Int.toNat x73) Tree.nil)) (Tree.words (List.getD (Tree.kids t) (Int.toNat x73) Tree.nil)) (Tree.kids (List.getD (Tree.kids t) (Int.toNat x73) Tree.nil))), ())) ∧ (((!(!(kidB (Tree.kind t) (Tree.mk (Tree.kind (List.getD (Tree.kids t) (Int.toNat x73) Tree.nil)) (Tree.words (List.getD (Tree.kids t) (Int.toNat x73) Tree.nil)) (Tree.kids (List.getD (Tree.kids t) (Int.toNat x73) Tree.nil)))))) = true → InR ((d : Int) - 1)) ∧ ((!(!(kidB (Tree.kind t) (Tree.mk (Tree.kind (List.getD (Tree.kids t) (Int.toNat x73) Tree.nil)) (Tree.words (List.getD (Tree.kids t) (Int.toNat x73) Tree.nil)) (Tree.kids (List.getD (Tree.kids t) (Int.toNat x73) Tree.nil)))))) = true → pre80 ((Tree.mk (Tree.kind (List.getD (Tree.kids t) (Int.toNat x73) Tree.nil)) (Tree.words (List.getD (Tree.kids t) (Int.toNat x73) Tree.nil)) (Tree.kids (List.getD (Tree.kids t) (Int.toNat x73) Tree.nil))), ((d : Int) - 1), ())) ∧ ((!(!(kidB (Tree.kind t) (Tree.mk (Tree.kind (List.getD (Tree.kids t) (Int.toNat x73) Tree.nil)) (Tree.words (List.getD (Tree.kids t) (Int.toNat x73) Tree.nil)) (Tree.kids (List.getD (Tree.kids t) (Int.toNat x73) Tree.nil)))))) = true → mu80 ((Tree.mk (Tree.kind (List.getD (Tree.kids t) (Int.toNat x73) Tree.nil)) (Tree.words (List.getD (Tree.kids t) (Int.toNat x73) Tree.nil)) (Tree.kids (List.getD (Tree.kids t) (Int.toNat x73) Tree.nil))), ((d : Int) - 1), ()) < N) ∧ (((bif (!(kidB (Tree.kind t) (Tree.mk (Tree.kind (List.getD (Tree.kids t) (Int.toNat x73) Tree.nil)) (Tree.words (List.getD (Tree.kids t) (Int.toNat x73) Tree.nil)) (Tree.kids (List.getD (Tree.kids t) (Int.toNat x73) Tree.nil))))) then true else (!(rightT (Tree.mk (Tree.kind (List.getD (Tree.kids t) (Int.toNat x73) Tree.nil)) (Tree.words (List.getD (Tree.kids t) (Int.toNat x73) Tree.nil)) (Tree.kids (List.getD (Tree.kids t) (Int.toNat x73) Tree.nil))) ((d : Int) - 1)))) = true → Q .ret (⟨[(4, .c (.bool false))], [], []⟩ : LSt U)) ∧ ((bif (!(kidB (Tree.kind t) (Tree.mk (Tree.kind (List.getD (Tree.kids t) (Int.toNat x73) Tree.nil)) (Tree.words (List.getD (Tree.kids t) (Int.toNat x73) Tree.nil)) (Tree.kids (List.getD (Tree.kids t) (Int.toNat x73) Tree.nil))))) then true else (!(rightT (Tree.mk (Tree.kind (List.getD (Tree.kids t) (Int.toNat x73) Tree.nil)) (Tree.words (List.getD (Tree.kids t) (Int.toNat x73) Tree.nil)) (Tree.kids (List.getD (Tree.kids t) (Int.toNat x73) Tree.nil))) ((d : Int) - 1)))) = false → (InR ((x73 : Int) + 1)) ∧ (N0 (head80_0 t d ((x73 : Int) + 1))))))) ∧ ((((Tree.kind t) : Int) != 1) = false → ((!(!(((Tree.kind (List.getD (Tree.kids t) (Int.toNat x73) Tree.nil)) : Int) != 10))) = true → InR ((d : Int) - 1)) ∧ ((!(!(((Tree.kind (List.getD (Tree.kids t) (Int.toNat x73) Tree.nil)) : Int) != 10))) = true → pre80 ((Tree.mk (Tree.kind (List.getD (Tree.kids t) (Int.toNat x73) Tree.nil)) (Tree.words (List.getD (Tree.kids t) (Int.toNat x73) Tree.nil)) (Tree.kids (List.getD (Tree.kids t) (Int.toNat x73) Tree.nil))), ((d : Int) - 1), ())) ∧ ((!(!(((Tree.kind (List.getD (Tree.kids t) (Int.toNat x73) Tree.nil)) : Int) != 10))) = true → mu80 ((Tree.mk (Tree.kind (List.getD (Tree.kids t) (Int.toNat x73) Tree.nil)) (Tree.words (List.getD (Tree.kids t) (Int.toNat x73) Tree.nil)) (Tree.kids (List.getD (Tree.kids t) (Int.toNat x73) Tree.nil))), ((d : Int) - 1), ()) < N) ∧ (((bif (!(((Tree.kind (List.getD (Tree.kids t) (Int.toNat x73) Tree.nil)) : Int) != 10)) then true else (!(rightT (Tree.mk (Tree.kind (List.getD (Tree.kids t) (Int.toNat x73) Tree.nil)) (Tree.words (List.getD (Tree.kids t) (Int.toNat x73) Tree.nil)) (Tree.kids (List.getD (Tree.kids t) (Int.toNat x73) Tree.nil))) ((d : Int) - 1)))) = true → Q .ret (⟨[(4, .c (.bool false))], [], []⟩ : LSt U)) ∧ ((bif (!(((Tree.kind (List.getD (Tree.kids t) (Int.toNat x73) Tree.nil)) : Int) != 10)) then true else (!(rightT (Tree.mk (Tree.kind (List.getD (Tree.kids t) (Int.toNat x73) Tree.nil)) (Tree.words (List.getD (Tree.kids t) (Int.toNat x73) Tree.nil)) (Tree.kids (List.getD (Tree.kids t) (Int.toNat x73) Tree.nil))) ((d : Int) - 1)))) = false → (InR ((x73 : Int) + 1)) ∧ (N0 (head80_0 t d ((x73 : Int) + 1)))))))) ∧ ((decide ((x73 : Int) < ((Tree.kids t).length : Int))) = false → Q .ret (⟨[(4, .c (.bool true))], [], []⟩ : LSt U))) :
    awp cfg (know (know80 N)) (drawOk cfg (know (know80 N))) Try.f80.ntmps lv80 (cd Try.f80 [1, 1, 0, 1, 0, 0]) (head80_0 t d x73) (AExit.then N0 (AExit.inBlock 1 (seqK cfg (know (know80 N)) (drawOk cfg (know (know80 N))) Try.f80.ntmps lv80 (cd Try.f80 [1, 1, 1]) Q))) := by
  have e : (awp cfg (know (know80 N)) (drawOk cfg (know (know80 N))) Try.f80.ntmps lv80 (cd Try.f80 [1, 1, 0, 1, 0, 0]) (head80_0 t d x73) (AExit.then N0 (AExit.inBlock 1 (seqK cfg (know (know80 N)) (drawOk cfg (know (know80 N))) Try.f80.ntmps lv80 (cd Try.f80 [1, 1, 1]) Q)))) = ((((decide ((x73 : Int) < ((Tree.kids t).length : Int))) = true → ((0 : Int) ≤ x73 ∧ x73 < ((Tree.kids t).length : Int)) ∧ (((((((Tree.kind t) : Int) != 1) = true → (pre111 ((Tree.kind t), (Tree.mk (Tree.kind (List.getD (Tree.kids t) (Int.toNat x73) Tree.nil)) (Tree.words (List.getD (Tree.kids t) (Int.toNat x73) Tree.nil)) (Tree.kids (List.getD (Tree.kids t) (Int.toNat x73) Tree.nil))), ())) ∧ (((!(!(kidB (Tree.kind t) (Tree.mk (Tree.kind (List.getD (Tree.kids t) (Int.toNat x73) Tree.nil)) (Tree.words (List.getD (Tree.kids t) (Int.toNat x73) Tree.nil)) (Tree.kids (List.getD (Tree.kids t) (Int.toNat x73) Tree.nil)))))) = true → (!(!(kidB (Tree.kind t) (Tree.mk (Tree.kind (List.getD (Tree.kids t) (Int.toNat x73) Tree.nil)) (Tree.words (List.getD (Tree.kids t) (Int.toNat x73) Tree.nil)) (Tree.kids (List.getD (Tree.kids t) (Int.toNat x73) Tree.nil)))))) = true) ∧ ((!(!(kidB (Tree.kind t) (Tree.mk (Tree.kind (List.getD (Tree.kids t) (Int.toNat x73) Tree.nil)) (Tree.words (List.getD (Tree.kids t) (Int.toNat x73) Tree.nil)) (Tree.kids (List.getD (Tree.kids t) (Int.toNat x73) Tree.nil)))))) = true → InR ((d : Int) - 1)) ∧ ((!(!(kidB (Tree.kind t) (Tree.mk (Tree.kind (List.getD (Tree.kids t) (Int.toNat x73) Tree.nil)) (Tree.words (List.getD (Tree.kids t) (Int.toNat x73) Tree.nil)) (Tree.kids (List.getD (Tree.kids t) (Int.toNat x73) Tree.nil)))))) = true → (!(!(kidB (Tree.kind t) (Tree.mk (Tree.kind (List.getD (Tree.kids t) (Int.toNat x73) Tree.nil)) (Tree.words (List.getD (Tree.kids t) (Int.toNat x73) Tree.nil)) (Tree.kids (List.getD (Tree.kids t) (Int.toNat x73) Tree.nil)))))) = true) ∧ ((!(!(kidB (Tree.kind t) (Tree.mk (Tree.kind (List.getD (Tree.kids t) (Int.toNat x73) Tree.nil)) (Tree.words (List.getD (Tree.kids t) (Int.toNat x73) Tree.nil)) (Tree.kids (List.getD (Tree.kids t) (Int.toNat x73) Tree.nil)))))) = true → (!(!(kidB (Tree.kind t) (Tree.mk (Tree.kind (List.getD (Tree.kids t) (Int.toNat x73) Tree.nil)) (Tree.words (List.getD (Tree.kids t) (Int.toNat x73) Tree.nil)) (Tree.kids (List.getD (Tree.kids t) (Int.toNat x73) Tree.nil)))))) = true) ∧ ((!(!(kidB (Tree.kind t) (Tree.mk (Tree.kind (List.getD (Tree.kids t) (Int.toNat x73) Tree.nil)) (Tree.words (List.getD (Tree.kids t) (Int.toNat x73) Tree.nil)) (Tree.kids (List.getD (Tree.kids t) (Int.toNat x73) Tree.nil)))))) = true → pre80 ((Tree.mk (Tree.kind (List.getD (Tree.kids t) (Int.toNat x73) Tree.nil)) (Tree.words (List.getD (Tree.kids t) (Int.toNat x73) Tree.nil)) (Tree.kids (List.getD (Tree.kids t) (Int.toNat x73) Tree.nil))), ((d : Int) - 1), ())) ∧ ((!(!(kidB (Tree.kind t) (Tree.mk (Tree.kind (List.getD (Tree.kids t) (Int.toNat x73) Tree.nil)) (Tree.words (List.getD (Tree.kids t) (Int.toNat x73) Tree.nil)) (Tree.kids (List.getD (Tree.kids t) (Int.toNat x73) Tree.nil)))))) = true → mu80 ((Tree.mk (Tree.kind (List.getD (Tree.kids t) (Int.toNat x73) Tree.nil)) (Tree.words (List.getD (Tree.kids t) (Int.toNat x73) Tree.nil)) (Tree.kids (List.getD (Tree.kids t) (Int.toNat x73) Tree.nil))), ((d : Int) - 1), ()) < N) ∧ ((!(!(kidB (Tree.kind t) (Tree.mk (Tree.kind (List.getD (Tree.kids t) (Int.toNat x73) Tree.nil)) (Tree.words (List.getD (Tree.kids t) (Int.toNat x73) Tree.nil)) (Tree.kids (List.getD (Tree.kids t) (Int.toNat x73) Tree.nil)))))) = true → (!(!(kidB (Tree.kind t) (Tree.mk (Tree.kind (List.getD (Tree.kids t) (Int.toNat x73) Tree.nil)) (Tree.words (List.getD (Tree.kids t) (Int.toNat x73) Tree.nil)) (Tree.kids (List.getD (Tree.kids t) (Int.toNat x73) Tree.nil)))))) = true) ∧ (((!(kidB (Tree.kind t) (Tree.mk (Tree.kind (List.getD (Tree.kids t) (Int.toNat x73) Tree.nil)) (Tree.words (List.getD (Tree.kids t) (Int.toNat x73) Tree.nil)) (Tree.kids (List.getD (Tree.kids t) (Int.toNat x73) Tree.nil))))) = false → (!(!(kidB (Tree.kind t) (Tree.mk (Tree.kind (List.getD (Tree.kids t) (Int.toNat x73) Tree.nil)) (Tree.words (List.getD (Tree.kids t) (Int.toNat x73) Tree.nil)) (Tree.kids (List.getD (Tree.kids t) (Int.toNat x73) Tree.nil)))))) = true)) ∧ (((bif (!(kidB (Tree.kind t) (Tree.mk (Tree.kind (List.getD (Tree.kids t) (Int.toNat x73) Tree.nil)) (Tree.words (List.getD (Tree.kids t) (Int.toNat x73) Tree.nil)) (Tree.kids (List.getD (Tree.kids t) (Int.toNat x73) Tree.nil))))) then true else (!(rightT (Tree.mk (Tree.kind (List.getD (Tree.kids t) (Int.toNat x73) Tree.nil)) (Tree.words (List.getD (Tree.kids t) (Int.toNat x73) Tree.nil)) (Tree.kids (List.getD (Tree.kids t) (Int.toNat x73) Tree.nil))) ((d : Int) - 1)))) = true → (Q .ret (⟨[(4, .c (.bool false))], [], []⟩ : LSt U))) ∧ ((bif (!(kidB (Tree.kind t) (Tree.mk (Tree.kind (List.getD (Tree.kids t) (Int.toNat x73) Tree.nil)) (Tree.words (List.getD (Tree.kids t) (Int.toNat x73) Tree.nil)) (Tree.kids (List.getD (Tree.kids t) (Int.toNat x73) Tree.nil))))) then true else (!(rightT (Tree.mk (Tree.kind (List.getD (Tree.kids t) (Int.toNat x73) Tree.nil)) (Tree.words (List.getD (Tree.kids t) (Int.toNat x73) Tree.nil)) (Tree.kids (List.getD (Tree.kids t) (Int.toNat x73) Tree.nil))) ((d : Int) - 1)))) = false → (InR ((x73 : Int) + 1)) ∧ (N0 (head80_0 t d ((x73 : Int) + 1))))))) ∧ ((((Tree.kind t) : Int) != 1) = false → ((!(!(((Tree.kind (List.getD (Tree.kids t) (Int.toNat x73) Tree.nil)) : Int) != 10))) = true → (!(!(((Tree.kind (List.getD (Tree.kids t) (Int.toNat x73) Tree.nil)) : Int) != 10))) = true) ∧ ((!(!(((Tree.kind (List.getD (Tree.kids t) (Int.toNat x73) Tree.nil)) : Int) != 10))) = true → InR ((d : Int) - 1)) ∧ ((!(!(((Tree.kind (List.getD (Tree.kids t) (Int.toNat x73) Tree.nil)) : Int) != 10))) = true → (!(!(((Tree.kind (List.getD (Tree.kids t) (Int.toNat x73) Tree.nil)) : Int) != 10))) = true) ∧ ((!(!(((Tree.kind (List.getD (Tree.kids t) (Int.toNat x73) Tree.nil)) : Int) != 10))) = true → (!(!(((Tree.kind (List.getD (Tree.kids t) (Int.toNat x73) Tree.nil)) : Int) != 10))) = true) ∧ ((!(!(((Tree.kind (List.getD (Tree.kids t) (Int.toNat x73) Tree.nil)) : Int) != 10))) = true → pre80 ((Tree.mk (Tree.kind (List.getD (Tree.kids t) (Int.toNat x73) Tree.nil)) (Tree.words (List.getD (Tree.kids t) (Int.toNat x73) Tree.nil)) (Tree.kids (List.getD (Tree.kids t) (Int.toNat x73) Tree.nil))), ((d : Int) - 1), ())) ∧ ((!(!(((Tree.kind (List.getD (Tree.kids t) (Int.toNat x73) Tree.nil)) : Int) != 10))) = true → mu80 ((Tree.mk (Tree.kind (List.getD (Tree.kids t) (Int.toNat x73) Tree.nil)) (Tree.words (List.getD (Tree.kids t) (Int.toNat x73) Tree.nil)) (Tree.kids (List.getD (Tree.kids t) (Int.toNat x73) Tree.nil))), ((d : Int) - 1), ()) < N) ∧ ((!(!(((Tree.kind (List.getD (Tree.kids t) (Int.toNat x73) Tree.nil)) : Int) != 10))) = true → (!(!(((Tree.kind (List.getD (Tree.kids t) (Int.toNat x73) Tree.nil)) : Int) != 10))) = true) ∧ (((!(((Tree.kind (List.getD (Tree.kids t) (Int.toNat x73) Tree.nil)) : Int) != 10)) = false → (!(!(((Tree.kind (List.getD (Tree.kids t) (Int.toNat x73) Tree.nil)) : Int) != 10))) = true)) ∧ (((bif (!(((Tree.kind (List.getD (Tree.kids t) (Int.toNat x73) Tree.nil)) : Int) != 10)) then true else (!(rightT (Tree.mk (Tree.kind (List.getD (Tree.kids t) (Int.toNat x73) Tree.nil)) (Tree.words (List.getD (Tree.kids t) (Int.toNat x73) Tree.nil)) (Tree.kids (List.getD (Tree.kids t) (Int.toNat x73) Tree.nil))) ((d : Int) - 1)))) = true → (Q .ret (⟨[(4, .c (.bool false))], [], []⟩ : LSt U))) ∧ ((bif (!(((Tree.kind (List.getD (Tree.kids t) (Int.toNat x73) Tree.nil)) : Int) != 10)) then true else (!(rightT (Tree.mk (Tree.kind (List.getD (Tree.kids t) (Int.toNat x73) Tree.nil)) (Tree.words (List.getD (Tree.kids t) (Int.toNat x73) Tree.nil)) (Tree.kids (List.getD (Tree.kids t) (Int.toNat x73) Tree.nil))) ((d : Int) - 1)))) = false → (InR ((x73 : Int) + 1)) ∧ (N0 (head80_0 t d ((x73 : Int) + 1)))))))))) ∧ ((decide ((x73 : Int) < ((Tree.kids t).length : Int))) = false → (Q .ret (⟨[(4, .c (.bool true))], [], []⟩ : LSt U))))) := by kernel_rfl
  exact e.mpr ⟨fun c_18 => ⟨(h.1 c_18).1, ⟨fun c_19 => ⟨((h.1 c_18).2.1 c_19).1, ⟨fun x => x, ((h.1 c_18).2.1 c_19).2.1, fun x => x, fun x => x, ((h.1 c_18).2.1 c_19).2.2.1, ((h.1 c_18).2.1 c_19).2.2.2.1, fun x => x, (by generalize (kidB (Tree.kind t) (Tree.mk (Tree.kind (List.getD (Tree.kids t) (Int.toNat x73) Tree.nil)) (Tree.words (List.getD (Tree.kids t) (Int.toNat x73) Tree.nil)) (Tree.kids (List.getD (Tree.kids t) (Int.toNat x73) Tree.nil)))) = b0; revert b0; decide), ⟨fun c_20 => (((h.1 c_18).2.1 c_19).2.2.2.2.1 c_20), fun c_20 => ⟨(((h.1 c_18).2.1 c_19).2.2.2.2.2 c_20).1, (((h.1 c_18).2.1 c_19).2.2.2.2.2 c_20).2⟩⟩⟩⟩, fun c_19 => ⟨fun x => x, ((h.1 c_18).2.2 c_19).1, fun x => x, fun x => x, ((h.1 c_18).2.2 c_19).2.1, ((h.1 c_18).2.2 c_19).2.2.1, fun x => x, (by generalize (((Tree.kind (List.getD (Tree.kids t) (Int.toNat x73) Tree.nil)) : Int) != 10) = b0; revert b0; decide), ⟨fun c_21 => (((h.1 c_18).2.2 c_19).2.2.2.1 c_21), fun c_21 => ⟨(((h.1 c_18).2.2 c_19).2.2.2.2 c_21).1, (((h.1 c_18).2.2 c_19).2.2.2.2 c_21).2⟩⟩⟩⟩⟩, fun c_18 => (h.2 c_18)⟩
def Body80 (N : Nat) (t : Tree) (d : Int)  : Prop := awp cfg (know (know80 N)) (drawOk cfg (know (know80 N))) Try.f80.ntmps lv80 (cd Try.f80 []) (entry (args80.can (t, d, ())) []) (EndsQ cfg Try.f80.ntmps Try.f80.results.toList (res80 (t, d, ())) [])
theorem make80 (c48 : Contract Try.prog cfg 48 spec48) (c111 : Contract Try.prog cfg 111 spec111) (hb : ∀ (N : Nat) (t : Tree) (d : Int) (_ : Unit), pre80 (t, d, ()) → mu80 (t, d, ()) < N + 1 → Body80 N t d) : Contract Try.prog cfg 80 spec80 :=
  contract_rec (μ := mu80) (l := [(48, spec48), (111, spec111)]) cfgOk rfl (⟨c48, c111, trivial⟩) lv80 Try.func80 rfl rfl 2 (fun _ => rfl) (by decide) (fun N ⟨t, d, _⟩ => hb N t d ())

/-! cento/tree.Right -/
noncomputable def know46 : List (FuncId × Fs U) := [(80, spec80)]
def lv46 : Lives U := fun i => match i with
  | 0 => ([(1, [])], [((.loc 1), [])])
  | 1 => ([(2, [])], [])
  | _ => ([], [])
/-- the body -/
theorem vc46 (t : Tree) (Q : AExit → LSt U → Prop) (h : (pre80 ((Tree.mk (Tree.kind t) (Tree.words t) (Tree.kids t)), 64, ())) ∧ (Q .ret (⟨[(2, .c (.bool (rightT (Tree.mk (Tree.kind t) (Tree.words t) (Tree.kids t)) 64)))], [], []⟩ : LSt U))) :
    awp cfg (know know46) (drawOk cfg (know know46)) Try.f46.ntmps lv46 (cd Try.f46 []) (⟨[(0, .agg [.int .i64 (Tree.kind t), .slice (U := U) .u64 (Tree.words t) .unk, .slice (U := U) .tree (Tree.kids t) .unk])], [], []⟩ : LSt U) Q := by
  have e : (awp cfg (know know46) (drawOk cfg (know know46)) Try.f46.ntmps lv46 (cd Try.f46 []) (⟨[(0, .agg [.int .i64 (Tree.kind t), .slice (U := U) .u64 (Tree.words t) .unk, .slice (U := U) .tree (Tree.kids t) .unk])], [], []⟩ : LSt U) Q) = (((pre80 ((Tree.mk (Tree.kind t) (Tree.words t) (Tree.kids t)), 64, ())) ∧ (Q .ret (⟨[(2, .c (.bool (rightT (Tree.mk (Tree.kind t) (Tree.words t) (Tree.kids t)) 64)))], [], []⟩ : LSt U)))) := by kernel_rfl
  exact e.mpr ⟨h.1, h.2⟩
def Body46 (t : Tree)  : Prop := awp cfg (know (know46)) (drawOk cfg (know (know46))) Try.f46.ntmps lv46 (cd Try.f46 []) (entry (args46.can (t, ())) []) (EndsQ cfg Try.f46.ntmps Try.f46.results.toList (res46 (t, ())) [])
theorem make46 (c80 : Contract Try.prog cfg 80 spec80) (hb : ∀ (t : Tree) (_ : Unit), pre46 (t, ()) → Body46 t) : Contract Try.prog cfg 46 spec46 :=
  contract_flat (l := [(80, spec80)]) cfgOk rfl (⟨c80, trivial⟩) lv46 Try.func46 rfl rfl 1 (fun _ => rfl) (by decide) (fun ⟨t, _⟩ => hb t ())

/-! cento/centoref07.Right -/
/-! cento/centolaw07.TreeRight -/
end Go.AM.Ytlahjnelghpmeaa

namespace Go.AM.Ytlahjnelghpmeaa
open Go.AM Go.Proofs

end Go.AM.Ytlahjnelghpmeaa

namespace Go.AM.Ytlahjnelghpmeaa
open Go.AM Go.Proofs

theorem trim_cons (x : Int) (r : List Int) : trim (x :: r) = if trim r = [] ∧ x = 0 then [] else x :: trim r := by
  simp only [trim]
  split
  · rename_i h
    simp only [h]
    split <;> simp_all
  · rename_i h
    simp [h]

theorem trimK_cons (x : Tree) (r : List Tree) : trimK (x :: r) = if trimK r = [] ∧ x.kind = 0 then [] else x :: trimK r := by
  simp only [trimK]
  split
  · rename_i h
    simp only [h]
    split <;> simp_all
  · rename_i h
    simp [h]

end Go.AM.Ytlahjnelghpmeaa

namespace Go.AM.Ytlahjnelghpmeaa
open Go.AM Go.Proofs

end Go.AM.Ytlahjnelghpmeaa

namespace Go.AM.Ytlahjnelghpmeaa
open Go.AM Go.Proofs

mutual
theorem shallow_mass : ∀ (t : Tree) (d l : Int), 0 ≤ shallow t d l → (mass t : Int) + shallow t d l ≤ l
  | .mk _ w ks, d, l, h => by
    simp only [shallow] at h ⊢
    split at h
    · omega
    · rename_i hc
      rw [if_neg hc]
      have := shallowK_mass ks (d - 1) (l - 1 - w.length) h
      simp only [mass]
      omega
theorem shallowK_mass : ∀ (ks : List Tree) (d l : Int), 0 ≤ shallowK ks d l → (massK ks : Int) + shallowK ks d l ≤ l
  | [], d, l, h => by simp [shallowK, massK]
  | t :: r, d, l, h => by
    simp only [shallowK] at h ⊢
    split at h
    · omega
    · rename_i hc
      rw [if_neg hc]
      have h1 := shallowK_mass r d (shallow t d l) h
      have h3 := (shallowK_range r d (shallow t d l) (shallow_range t d l).1).2
      have h2 := shallow_mass t d l (by omega)
      simp only [massK]
      omega
end

end Go.AM.Ytlahjnelghpmeaa

namespace Go.AM.Ytlahjnelghpmeaa
open Go.AM Go.Proofs

theorem ends_bool {n k : Nat} {rs : List ResultVar} {b b' : Bool} (hr : rs = [ResultVar.tmp k]) (h : b = b') : EndsQ cfg n rs (.c (.bool b')) [] .ret (⟨[(k, .c (.bool b))], [], []⟩ : LSt U) := by
  subst hr h
  have hk : Nat.beq k k = true := Nat.beq_refl k
  simp [EndsQ, Ends, EndsL, LsEnd, resAll, resOne, LSt.toF, look, hk, partsV, resTok, passC, passC1, leR, leL, leC, XEnd]

theorem ends_int {n k : Nat} {rs : List ResultVar} {K : IntKind} {b b' : Int} (hr : rs = [ResultVar.tmp k]) (h : b = b') : EndsQ cfg n rs (.c (.int K b')) [] .ret (⟨[(k, .c (.int K b))], [], []⟩ : LSt U) := by
  subst hr h
  have hk : Nat.beq k k = true := Nat.beq_refl k
  simp [EndsQ, Ends, EndsL, LsEnd, resAll, resOne, LSt.toF, look, hk, partsV, resTok, passC, passC1, leR, leL, leC, XEnd]

theorem wd_le (c : Int) : -1 ≤ wd c ∧ wd c ≤ 64 := by
  unfold wd
  repeat' split
  all_goals omega

theorem c133 : Contract Try.prog cfg 133 spec133 := by
  refine make133 ?_
  intro c _ _
  refine vc133 _ _ ?_
  (simp only [bif_tl, bif_fr, bif_tlf, bif_frf, Bool.not_eq_true', Bool.not_eq_false', decide_eq_true_eq, decide_eq_false_iff_not, beq_iff_eq, beq_eq_false_iff_ne, bne_iff_ne, ne_eq, bne_eq_false_iff_eq, Bool.or_eq_true, Bool.and_eq_true, Bool.or_eq_false_iff, Bool.and_eq_false_imp])
  have hw := wd_le c
  refine ⟨fun h => ?_, fun h => ⟨by omega, ?_⟩⟩
  · have e : wd c = -1 := by unfold wd; repeat' split
                             all_goals omega
    simp only [res133, e]
    exact ⟨⟨rfl, ⟨⟨rfl, rfl⟩, trivial⟩, rfl, ⟨rfl, trivial⟩, trivial⟩, trivial⟩
  · have hc : c = 0 ∨ c = 1 ∨ c = 2 ∨ c = 3 ∨ c = 4 ∨ c = 5 := by omega
    rcases hc with rfl | rfl | rfl | rfl | rfl | rfl <;> exact ⟨⟨rfl, ⟨⟨rfl, rfl⟩, trivial⟩, rfl, ⟨rfl, trivial⟩, trivial⟩, trivial⟩

theorem fdiv_pow (n : Int) (w : Nat) (h : 0 ≤ n) : (Int.fdiv n (2 ^ w) = 0) ↔ n < 2 ^ w := by
  have hp : (0 : Int) < 2 ^ w := Int.pow_pos (by omega)
  rw [Int.fdiv_eq_ediv_of_nonneg _ (by omega)]
  constructor
  · intro h1
    have := Int.lt_ediv_add_one_mul_self n hp
    rw [h1] at this
    simpa using this
  · intro h1
    exact Int.ediv_eq_zero_of_lt h h1

theorem c125 : Contract Try.prog cfg 125 spec125 := by
  refine make125 c133 ?_
  intro c n _ hp
  simp only [pre125] at hp
  have hw := wd_le c
  refine vc125 _ _ _ ?_
  refine ⟨trivial, fun h => by split <;> omega, ends_bool rfl ?_⟩
  simp only [fits]
  by_cases h0 : 0 ≤ wd c
  · rw [if_neg (by omega)]
    simp only [h0, decide_true, cond_true, true_and]
    by_cases h64 : wd c = 64
    · simp [h64]
      omega
    · have : ((wd c) == 64) = false := by simpa using h64
      rw [this, cond_false, Bool.eq_iff_iff]
      have hm : min (wd c).toNat (IntKind.bits .u64) = (wd c).toNat := by
        show min (wd c).toNat 64 = _
        omega
      rw [hm]
      simp only [beq_iff_eq, decide_eq_true_eq]
      exact fdiv_pow n _ hp.1
  · simp [h0]

theorem c48 : Contract Try.prog cfg 48 spec48 := by
  refine make48 ?_
  intro c _ _
  refine vc48 _ _ ?_
  refine ends_bool rfl ?_
  rw [Bool.eq_iff_iff]
  (simp only [bif_tl, bif_fr, bif_tlf, bif_frf, Bool.not_eq_true', Bool.not_eq_false', decide_eq_true_eq, decide_eq_false_iff_not, beq_iff_eq, beq_eq_false_iff_ne, bne_iff_ne, ne_eq, bne_eq_false_iff_eq, Bool.or_eq_true, Bool.and_eq_true, Bool.or_eq_false_iff, Bool.and_eq_false_imp])

theorem c49 : Contract Try.prog cfg 49 spec49 := by
  refine make49 ?_
  intro c _ _
  refine vc49 _ _ ?_
  refine ends_bool rfl ?_
  rw [Bool.eq_iff_iff]
  (simp only [bif_tl, bif_fr, bif_tlf, bif_frf, Bool.not_eq_true', Bool.not_eq_false', decide_eq_true_eq, decide_eq_false_iff_not, beq_iff_eq, beq_eq_false_iff_ne, bne_iff_ne, ne_eq, bne_eq_false_iff_eq, Bool.or_eq_true, Bool.and_eq_true, Bool.or_eq_false_iff, Bool.and_eq_false_imp])

theorem rng_word {t : Tree} (h : rng t) {i : Nat} (hi : i < t.words.length) : 0 ≤ t.words.getD i 0 ∧ t.words.getD i 0 < 18446744073709551616 := by
  obtain ⟨k, w, ks⟩ := t
  simp only [rng] at h
  simp only [Tree.words_mk] at *
  have hg : w.getD i 0 ∈ w := by
    simp only [List.getD, List.getElem?_eq_getElem hi, Option.getD_some]
    exact List.getElem_mem hi
  exact h.2.1 _ hg

theorem c111 : Contract Try.prog cfg 111 spec111 := by
  refine make111 c49 c125 ?_
  intro l t _ hp
  simp only [pre111] at hp
  refine vc111 _ _ _ ?_
  (simp only [bif_tl, bif_fr, bif_tlf, bif_frf, Bool.not_eq_true', Bool.not_eq_false', decide_eq_true_eq, decide_eq_false_iff_not, beq_iff_eq, beq_eq_false_iff_ne, bne_iff_ne, ne_eq, bne_eq_false_iff_eq, Bool.or_eq_true, Bool.and_eq_true, Bool.or_eq_false_iff, Bool.and_eq_false_imp])
  refine ⟨trivial, fun hd => ⟨fun _ => by unfold InR; omega, fun h => by omega, fun h => rng_word hp (by omega), ends_bool rfl ?_⟩, fun hd => ⟨fun h => ends_bool rfl ?_, fun h => ends_bool rfl ?_⟩⟩
  · simp only [kidB, if_pos hd, Int.toNat_zero]
    rw [Bool.eq_iff_iff]
    (simp only [bif_tl, bif_fr, bif_tlf, bif_frf, Bool.not_eq_true', Bool.not_eq_false', decide_eq_true_eq, decide_eq_false_iff_not, beq_iff_eq, beq_eq_false_iff_ne, bne_iff_ne, ne_eq, bne_eq_false_iff_eq, Bool.or_eq_true, Bool.and_eq_true, Bool.or_eq_false_iff, Bool.and_eq_false_imp])
    constructor <;> (rintro ⟨h1, h2⟩; exact ⟨by omega, h2⟩)
  · simp only [kidB, if_neg hd, if_pos h]
    rw [Bool.eq_iff_iff]
    (simp only [bif_tl, bif_fr, bif_tlf, bif_frf, Bool.not_eq_true', Bool.not_eq_false', decide_eq_true_eq, decide_eq_false_iff_not, beq_iff_eq, beq_eq_false_iff_ne, bne_iff_ne, ne_eq, bne_eq_false_iff_eq, Bool.or_eq_true, Bool.and_eq_true, Bool.or_eq_false_iff, Bool.and_eq_false_imp])
  · simp only [kidB, if_neg hd, if_neg h]
    rw [Bool.eq_iff_iff]
    (simp only [bif_tl, bif_fr, bif_tlf, bif_frf, Bool.not_eq_true', Bool.not_eq_false', decide_eq_true_eq, decide_eq_false_iff_not, beq_iff_eq, beq_eq_false_iff_ne, bne_iff_ne, ne_eq, bne_eq_false_iff_eq, Bool.or_eq_true, Bool.and_eq_true, Bool.or_eq_false_iff, Bool.and_eq_false_imp])

theorem rightK_drop {l : Int} {ks : List Tree} {i : Int} {d : Int} (h0 : 0 ≤ i) (h : i < ks.length) :
    rightK l (ks.drop i.toNat) d = ((kidB l (ks.getD i.toNat Tree.nil) && rightT (ks.getD i.toNat Tree.nil) d) && rightK l (ks.drop (i + 1).toNat) d) := by
  have e : (i + 1).toNat = i.toNat + 1 := by omega
  rw [List.drop_eq_getElem_cons (by omega), e]
  simp only [rightK, List.getD, List.getElem?_eq_getElem (show i.toNat < ks.length by omega), Option.getD_some]

theorem rngK_get : ∀ {ks : List Tree} {i : Nat}, rngK ks → i < ks.length → rng (ks.getD i Tree.nil)
  | t :: _, 0, h, _ => by simp only [rngK] at h; exact h.1
  | _ :: r, i + 1, h, hi => by simp only [rngK] at h; exact rngK_get (ks := r) (i := i) h.2 (by simpa using hi)

theorem kidB_one (t : Tree) : kidB 1 t = decide (t.kind ≠ 10) := by simp [kidB]

theorem c80 : Contract Try.prog cfg 80 spec80 := by
  refine make80 c48 c111 ?_
  rintro N ⟨k, ws, ks⟩ d _ hp hN
  simp only [pre80, mu80, mass, rng] at hp hN
  have key : ∀ b, d ≠ 0 → rightT (.mk k ws ks) d = (b && rightK k ks (d - 1)) → b = true →
      LoopWp (awp cfg (know (know80 N)) (drawOk cfg (know (know80 N))) Try.f80.ntmps lv80 (cd Try.f80 [1, 1, 0, 1, 0, 0])) (head80_0 (.mk k ws ks) d 0) (AExit.inBlock 1 (seqK cfg (know (know80 N)) (drawOk cfg (know (know80 N))) Try.f80.ntmps lv80 (cd Try.f80 [1, 1, 1]) (EndsQ cfg Try.f80.ntmps Try.f80.results.toList (res80 (.mk k ws ks, d, ())) []))) := by
    intro b hd0 hb hbt
    subst hbt
    rw [Bool.true_and] at hb
    refine loop_rule (ι := Int) (fun p => head80_0 (.mk k ws ks) d p) (fun p => 0 ≤ p ∧ p ≤ ks.length ∧ rightT (.mk k ws ks) d = rightK k (ks.drop p.toNat) (d - 1)) (fun p => ((ks.length : Int) - p).toNat) 0 rfl ⟨by omega, by omega, by simpa using hb⟩ ?_
    rintro i ⟨h1, h2, h3⟩
    refine vc80_l0 N _ _ _ _ _ ?_
    (simp only [bif_tl, bif_fr, bif_tlf, bif_frf, Bool.not_eq_true', Bool.not_eq_false', decide_eq_true_eq, decide_eq_false_iff_not, beq_iff_eq, beq_eq_false_iff_ne, bne_iff_ne, ne_eq, bne_eq_false_iff_eq, Bool.or_eq_true, Bool.and_eq_true, Bool.or_eq_false_iff, Bool.and_eq_false_imp])
    (simp only [Tree.eta, Edit.eta, Tree.kind_mk, Tree.words_mk, Tree.kids_mk])
    refine ⟨fun hi => ⟨⟨by omega, hi⟩, ?_⟩, fun hi => ?_⟩
    · have hd := rightK_drop (l := k) (d := d - 1) h1 hi
      have hm := massK_get (ks := ks) (i := i.toNat) (by omega)
      have hr := rngK_get (i := i.toNat) hp.2.1.2.2 (by omega)
      rw [hd] at h3
      have hlen := massK_len ks
      generalize ks.getD i.toNat Tree.nil = y at *
      have hpre : pre80 (y, d - 1, ()) := ⟨by dsimp only; omega, hr, by dsimp only; omega, by dsimp only; omega⟩
      have hmu : mu80 (y, d - 1, ()) < N := by simp only [mu80]; omega
      have hin : InR (d - 1) := by unfold InR; omega
      refine ⟨fun hk => ⟨hr, fun _ => hin, fun _ => hpre, fun _ => hmu, fun hc => ends_bool rfl ?_, fun hc => ⟨by unfold InR; omega, i + 1, rfl, ⟨by omega, by omega, ?_⟩, by omega⟩⟩, fun hk => ⟨fun _ => hin, fun _ => hpre, fun _ => hmu, fun hc => ends_bool rfl ?_, fun hc => ⟨by unfold InR; omega, i + 1, rfl, ⟨by omega, by omega, ?_⟩, by omega⟩⟩⟩
      · rw [h3]
        rcases hc with hc | hc <;> simp [hc]
      · rw [h3, hc.1, hc.2]; rfl
      · subst hk
        rw [h3, kidB_one]
        rcases hc with hc | hc <;> simp [hc]
      · subst hk
        rw [h3, kidB_one, hc.2]
        simp [hc.1]
    · rw [List.drop_eq_nil_of_le (by omega)] at h3
      simp only [rightK] at h3
      exact ends_bool rfl h3.symm
  refine vc80 N _ _ _ ?_
  (simp only [bif_tl, bif_fr, bif_tlf, bif_frf, Bool.not_eq_true', Bool.not_eq_false', decide_eq_true_eq, decide_eq_false_iff_not, beq_iff_eq, beq_eq_false_iff_ne, bne_iff_ne, ne_eq, bne_eq_false_iff_eq, Bool.or_eq_true, Bool.and_eq_true, Bool.or_eq_false_iff, Bool.and_eq_false_imp])
  (simp only [Tree.eta, Edit.eta, Tree.kind_mk, Tree.words_mk, Tree.kids_mk])
  have hk0 : ∀ h0 : k = 0, rightT (.mk k ws ks) d = decide (ws.length = 0 ∧ ks.length = 0) := fun h0 => by simp only [rightT, if_pos h0]
  have hk10 : ∀ (_ : ¬k = 0) (h10 : k = 10), rightT (.mk k ws ks) d = decide (ws.length = 1 ∧ ks.length = 0) := fun h0 h10 => by simp only [rightT, if_neg h0, if_pos h10]
  refine ⟨fun h0 => ends_bool rfl ?_, fun h0 => ⟨fun h10 => ends_bool rfl ?_, fun h10 => ⟨fun hd => ends_bool rfl ?_, fun hd => ⟨fun h1 => ⟨fun hc => ends_bool rfl ?_, fun hc => key true hd ?_ rfl⟩, fun h1 => ⟨trivial, fun hc => ends_bool rfl ?_, fun hc => key true hd ?_ rfl⟩⟩⟩⟩⟩
  · rw [hk0 h0, Bool.eq_iff_iff]; (simp only [bif_tl, bif_fr, bif_tlf, bif_frf, Bool.not_eq_true', Bool.not_eq_false', decide_eq_true_eq, decide_eq_false_iff_not, beq_iff_eq, beq_eq_false_iff_ne, bne_iff_ne, ne_eq, bne_eq_false_iff_eq, Bool.or_eq_true, Bool.and_eq_true, Bool.or_eq_false_iff, Bool.and_eq_false_imp]); omega
  · rw [hk10 h0 h10, Bool.eq_iff_iff]; (simp only [bif_tl, bif_fr, bif_tlf, bif_frf, Bool.not_eq_true', Bool.not_eq_false', decide_eq_true_eq, decide_eq_false_iff_not, beq_iff_eq, beq_eq_false_iff_ne, bne_iff_ne, ne_eq, bne_eq_false_iff_eq, Bool.or_eq_true, Bool.and_eq_true, Bool.or_eq_false_iff, Bool.and_eq_false_imp]); omega
  · simp only [rightT, if_neg h0, if_neg h10, if_pos hd]
  · simp only [rightT, if_neg h0, if_neg h10, if_neg hd, if_pos h1]
    rw [decide_eq_false (by omega)]; rfl
  · simp only [rightT, if_neg h0, if_neg h10, if_neg hd, if_pos h1]
    rw [decide_eq_true (by omega), h1]
  · simp only [rightT, if_neg h0, if_neg h10, if_neg hd, if_neg h1]
    rw [decide_eq_false (by omega)]; rfl
  · simp only [rightT, if_neg h0, if_neg h10, if_neg hd, if_neg h1]
    rw [decide_eq_true (by omega)]

theorem c46 : Contract Try.prog cfg 46 spec46 := by
  refine make46 c80 ?_
  intro t _ hp
  refine vc46 _ _ ?_
  (simp only [Tree.eta, Edit.eta, Tree.kind_mk, Tree.words_mk, Tree.kids_mk])
  exact ⟨⟨hp.1, hp.2, by dsimp only; omega, by dsimp only; omega⟩, ends_bool rfl rfl⟩

end Go.AM.Ytlahjnelghpmeaa
