/- The seat's arguments are read: edits, and their steps. -/
import Derived.Test.YtlahjnelghpmeaaD20
import Derived.Test.YtlahjnelghpmeaaAmXE
import Derived.Test.YtlahjnelghpmeaaD07
set_option linter.unusedSimpArgs false
set_option linter.unusedVariables false
namespace Go.AM.Ytlahjnelghpmeaa
open Go.AM Go.Proofs Go.Proofs.Ytlahjnelghpmeaa Go.ChangeShapes Go.WideShapes Go.RowKit

theorem editTypes : EditTypes cfg := ⟨⟨_, rfl, rfl⟩, ⟨_, _, rfl, rfl⟩, ⟨_, _, rfl, rfl⟩, ⟨_, _, rfl, rfl⟩, ⟨_, _, rfl, rfl⟩, ⟨_, rfl, rfl⟩, ⟨_, _, rfl, rfl⟩, rfl, ⟨_, rfl, rfl⟩, ⟨_, _, rfl, rfl⟩, ⟨_, _, rfl, rfl⟩, ⟨_, _, rfl, rfl, rfl⟩, rfl, ⟨_, rfl, rfl⟩, ⟨_, _, rfl, rfl⟩, rfl, rfl, ⟨_, _, rfl, rfl, rfl⟩, ⟨_, _, rfl, rfl, rfl⟩, ⟨_, _, rfl, rfl⟩, ⟨_, _, rfl, rfl, rfl⟩⟩
theorem argEdit {H : Type} {henc : TypeId × Value → H} : ArgR henc Try.prog cfg (aEl .edit) 46 inE := argR_el cfgOk rfl ⟨_, _, rfl⟩ (fun _ n cs h => rd_edit cfgOk treeTypes editTypes n cs h)
end Go.AM.Ytlahjnelghpmeaa

namespace Go.AM.Ytlahjnelghpmeaa
open Go.AM Go.Proofs

def args68 : ArgL (Tree × Int × Int × Unit) := (.cons (aEl .tree) (.cons (aInt .i64) (.cons (aInt .i64) .nil)))
def pre68 (a : Tree × Int × Int × Unit) : Prop := small a.1 ∧ 0 ≤ a.2.1 ∧ a.2.1 ≤ 4611686018427387904 ∧ -1 ≤ a.2.2.1 ∧ a.2.2.1 ≤ 4611686018427387904
def mu68 (a : Tree × Int × Int × Unit) : Nat := mass a.1
noncomputable def res68 (a : Tree × Int × Int × Unit) : V U := .c (.int .i64 (shallow a.1 a.2.1 a.2.2.1))
noncomputable def spec68 : Fs U := fs args68 (fun a => [pre68 a]) res68

/-! cento/centoref07.Shallow -/
noncomputable def know68 (N : Nat) : List (FuncId × Fs U) := (68, fs args68 (fun a => [pre68 a, mu68 a < N]) res68) :: []
def lv68 : Lives U := fun i => match i with
  | 0 => ([(1, []), (2, []), (3, [])], [((.loc 3), [])])
  | 1 => ([(1, []), (2, []), (3, [])], [((.loc 3), [])])
  | 2 => ([(1, []), (2, []), (3, []), (19, [])], [((.loc 3), [])])
  | 3 => ([(6, [])], [])
  | 4 => ([(1, []), (2, []), (3, []), (7, [])], [((.loc 3), [])])
  | 5 => ([(1, []), (2, []), (3, []), (7, []), (28, [])], [((.loc 3), [])])
  | 6 => ([(1, []), (2, []), (3, []), (7, [])], [((.loc 3), [])])
  | 7 => ([(1, []), (2, []), (3, []), (7, [])], [((.loc 3), [])])
  | 8 => ([(6, [])], [])
  | _ => ([], [])
def head68_0 (t : Tree) (d : Int) (l : Int) (x2 : Int) (x7 : Int) : LSt U := (⟨[(1, .c (.int .i64 d)), (2, .c (.int .i64 x2)), (3, .ptr (.loc 3) 0), (7, .c (.int .i64 x7))], [((.loc 3), [.int .i64 (Tree.kind t), .slice (U := U) .u64 (Tree.words t) .unk, .slice (U := U) .tree (Tree.kids t) .unk])], []⟩ : LSt U)
/-- the body -/
theorem vc68 (N : Nat) (t : Tree) (d : Int) (l : Int) (Q : AExit → LSt U → Prop) (h : ((InR ((l : Int) - 1)) ∧ (InR ((((l : Int) - 1) : Int) - ((Tree.words t).length : Int))) ∧ (((!((d : Int) == 0)) = true → (!((d : Int) == 0)) = true) ∧ ((((d : Int) == 0) = false → (!((d : Int) == 0)) = true)) ∧ (((bif ((d : Int) == 0) then true else (decide ((((((l : Int) - 1) : Int) - ((Tree.words t).length : Int)) : Int) < 0))) = true → (Q .ret (⟨[(6, .c (.int .i64 (-1)))], [], []⟩ : LSt U))) ∧ ((bif ((d : Int) == 0) then true else (decide ((((((l : Int) - 1) : Int) - ((Tree.words t).length : Int)) : Int) < 0))) = false → (LoopWp (awp cfg (know (know68 N)) (drawOk cfg (know (know68 N))) Try.f68.ntmps lv68 (cd Try.f68 [1, 1, 1, 0, 1, 0, 0])) (head68_0 t d l ((((l : Int) - 1) : Int) - ((Tree.words t).length : Int)) 0) (AExit.inBlock 0 (seqK cfg (know (know68 N)) (drawOk cfg (know (know68 N))) Try.f68.ntmps lv68 (cd Try.f68 [1, 1, 1, 1]) Q)))))))) :
    awp cfg (know (know68 N)) (drawOk cfg (know (know68 N))) Try.f68.ntmps lv68 (cd Try.f68 []) (⟨[(0, .agg [.int .i64 (Tree.kind t), .slice (U := U) .u64 (Tree.words t) .unk, .slice (U := U) .tree (Tree.kids t) .unk]), (1, .c (.int .i64 d)), (2, .c (.int .i64 l))], [], []⟩ : LSt U) Q := by
  have e : (awp cfg (know (know68 N)) (drawOk cfg (know (know68 N))) Try.f68.ntmps lv68 (cd Try.f68 []) (⟨[(0, .agg [.int .i64 (Tree.kind t), .slice (U := U) .u64 (Tree.words t) .unk, .slice (U := U) .tree (Tree.kids t) .unk]), (1, .c (.int .i64 d)), (2, .c (.int .i64 l))], [], []⟩ : LSt U) Q) = (((InR ((l : Int) - 1)) ∧ (InR ((((l : Int) - 1) : Int) - ((Tree.words t).length : Int))) ∧ (((!((d : Int) == 0)) = true → (!((d : Int) == 0)) = true) ∧ ((((d : Int) == 0) = false → (!((d : Int) == 0)) = true)) ∧ (((bif ((d : Int) == 0) then true else (decide ((((((l : Int) - 1) : Int) - ((Tree.words t).length : Int)) : Int) < 0))) = true → (Q .ret (⟨[(6, .c (.int .i64 (-1)))], [], []⟩ : LSt U))) ∧ ((bif ((d : Int) == 0) then true else (decide ((((((l : Int) - 1) : Int) - ((Tree.words t).length : Int)) : Int) < 0))) = false → (LoopWp (awp cfg (know (know68 N)) (drawOk cfg (know (know68 N))) Try.f68.ntmps lv68 (cd Try.f68 [1, 1, 1, 0, 1, 0, 0])) (head68_0 t d l ((((l : Int) - 1) : Int) - ((Tree.words t).length : Int)) 0) (AExit.inBlock 0 (seqK cfg (know (know68 N)) (drawOk cfg (know (know68 N))) Try.f68.ntmps lv68 (cd Try.f68 [1, 1, 1, 1]) Q)))))))) := by kernel_rfl
  exact e.mpr h
/-- the loop at [1, 1, 1, 0, 1, 0] -/
theorem vc68_l0 (N : Nat) (t : Tree) (d : Int) (l : Int) (x2 : Int) (x7 : Int) (N0 : LSt U → Prop) (Q : AExit → LSt U → Prop) (h : ((decide ((x7 : Int) < ((Tree.kids t).length : Int))) = true → (decide ((x7 : Int) < ((Tree.kids t).length : Int))) = true) ∧ (((decide ((x7 : Int) < ((Tree.kids t).length : Int))) = true → (decide ((x7 : Int) < ((Tree.kids t).length : Int))) = true)) ∧ (((bif (decide ((x7 : Int) < ((Tree.kids t).length : Int))) then (decide ((0 : Int) ≤ x2)) else false) = true → (0 ≤ x7 ∧ x7 < ((Tree.kids t).length : Int)) ∧ (InR ((d : Int) - 1)) ∧ (pre68 ((Tree.mk (Tree.kind (List.getD (Tree.kids t) (Int.toNat x7) Tree.nil)) (Tree.words (List.getD (Tree.kids t) (Int.toNat x7) Tree.nil)) (Tree.kids (List.getD (Tree.kids t) (Int.toNat x7) Tree.nil))), ((d : Int) - 1), x2, ())) ∧ (mu68 ((Tree.mk (Tree.kind (List.getD (Tree.kids t) (Int.toNat x7) Tree.nil)) (Tree.words (List.getD (Tree.kids t) (Int.toNat x7) Tree.nil)) (Tree.kids (List.getD (Tree.kids t) (Int.toNat x7) Tree.nil))), ((d : Int) - 1), x2, ()) < N) ∧ ((InR ((x7 : Int) + 1)) ∧ (N0 (head68_0 t d l (shallow (Tree.mk (Tree.kind (List.getD (Tree.kids t) (Int.toNat x7) Tree.nil)) (Tree.words (List.getD (Tree.kids t) (Int.toNat x7) Tree.nil)) (Tree.kids (List.getD (Tree.kids t) (Int.toNat x7) Tree.nil))) ((d : Int) - 1) x2) ((x7 : Int) + 1))))) ∧ ((bif (decide ((x7 : Int) < ((Tree.kids t).length : Int))) then (decide ((0 : Int) ≤ x2)) else false) = false → (Q .ret (⟨[(6, .c (.int .i64 x2))], [], []⟩ : LSt U))))) :
    awp cfg (know (know68 N)) (drawOk cfg (know (know68 N))) Try.f68.ntmps lv68 (cd Try.f68 [1, 1, 1, 0, 1, 0, 0]) (head68_0 t d l x2 x7) (AExit.then N0 (AExit.inBlock 0 (seqK cfg (know (know68 N)) (drawOk cfg (know (know68 N))) Try.f68.ntmps lv68 (cd Try.f68 [1, 1, 1, 1]) Q))) := by
  have e : (awp cfg (know (know68 N)) (drawOk cfg (know (know68 N))) Try.f68.ntmps lv68 (cd Try.f68 [1, 1, 1, 0, 1, 0, 0]) (head68_0 t d l x2 x7) (AExit.then N0 (AExit.inBlock 0 (seqK cfg (know (know68 N)) (drawOk cfg (know (know68 N))) Try.f68.ntmps lv68 (cd Try.f68 [1, 1, 1, 1]) Q)))) = (((decide ((x7 : Int) < ((Tree.kids t).length : Int))) = true → (decide ((x7 : Int) < ((Tree.kids t).length : Int))) = true) ∧ (((decide ((x7 : Int) < ((Tree.kids t).length : Int))) = true → (decide ((x7 : Int) < ((Tree.kids t).length : Int))) = true)) ∧ (((bif (decide ((x7 : Int) < ((Tree.kids t).length : Int))) then (decide ((0 : Int) ≤ x2)) else false) = true → (0 ≤ x7 ∧ x7 < ((Tree.kids t).length : Int)) ∧ (InR ((d : Int) - 1)) ∧ (pre68 ((Tree.mk (Tree.kind (List.getD (Tree.kids t) (Int.toNat x7) Tree.nil)) (Tree.words (List.getD (Tree.kids t) (Int.toNat x7) Tree.nil)) (Tree.kids (List.getD (Tree.kids t) (Int.toNat x7) Tree.nil))), ((d : Int) - 1), x2, ())) ∧ (mu68 ((Tree.mk (Tree.kind (List.getD (Tree.kids t) (Int.toNat x7) Tree.nil)) (Tree.words (List.getD (Tree.kids t) (Int.toNat x7) Tree.nil)) (Tree.kids (List.getD (Tree.kids t) (Int.toNat x7) Tree.nil))), ((d : Int) - 1), x2, ()) < N) ∧ ((InR ((x7 : Int) + 1)) ∧ (N0 (head68_0 t d l (shallow (Tree.mk (Tree.kind (List.getD (Tree.kids t) (Int.toNat x7) Tree.nil)) (Tree.words (List.getD (Tree.kids t) (Int.toNat x7) Tree.nil)) (Tree.kids (List.getD (Tree.kids t) (Int.toNat x7) Tree.nil))) ((d : Int) - 1) x2) ((x7 : Int) + 1))))) ∧ ((bif (decide ((x7 : Int) < ((Tree.kids t).length : Int))) then (decide ((0 : Int) ≤ x2)) else false) = false → (Q .ret (⟨[(6, .c (.int .i64 x2))], [], []⟩ : LSt U))))) := by kernel_rfl
  exact e.mpr h
def Body68 (N : Nat) (t : Tree) (d : Int) (l : Int)  : Prop := awp cfg (know (know68 N)) (drawOk cfg (know (know68 N))) Try.f68.ntmps lv68 (cd Try.f68 []) (entry (args68.can (t, d, l, ())) []) (EndsQ cfg Try.f68.ntmps Try.f68.results.toList (res68 (t, d, l, ())) [])
theorem make68 (hb : ∀ (N : Nat) (t : Tree) (d : Int) (l : Int) (_ : Unit), pre68 (t, d, l, ()) → mu68 (t, d, l, ()) < N + 1 → Body68 N t d l) : Contract Try.prog cfg 68 spec68 :=
  contract_rec (μ := mu68) (l := []) cfgOk rfl (trivial) lv68 Try.func68 rfl rfl 3 (fun _ => rfl) (by decide) (fun N ⟨t, d, l, _⟩ => hb N t d l ())

/-! cento/centoref07.Few -/
/-! cento/centoref01.Same -/
/-! cento/centoref07.Trim -/
/-! slices.Clone[[]uint64,uint64] -/
/-! slices.Equal[[]uint64,uint64] -/
/-! cento/tree.Word -/
/-! cento/tree.Kid -/
/-! cento/centoref07.Norm -/
/-! cento/tree.Norm -/
/-! cento/centoref07.Same -/
/-! cento/tree.Equal -/
/-! cento/tree.Weight -/
/-! cento/centoref07.Equal -/
/-! cento/centolaw07.awake -/
end Go.AM.Ytlahjnelghpmeaa

namespace Go.AM.Ytlahjnelghpmeaa
open Go.AM Go.Proofs


theorem smallK_get : ∀ {ks : List Tree} {i : Nat}, smallK ks → i < ks.length → small (ks.getD i Tree.nil)
  | t :: _, 0, h, _ => by simp only [smallK] at h; exact h.1
  | _ :: r, i + 1, h, hi => by simp only [smallK] at h; exact smallK_get (ks := r) (i := i) h.2 (by simpa using hi)

theorem massK_get : ∀ {ks : List Tree} {i : Nat}, i < ks.length → mass (ks.getD i Tree.nil) ≤ massK ks
  | t :: _, 0, _ => by simp only [massK, List.getD_cons_zero]; omega
  | t :: r, i + 1, h => by
    have := massK_get (ks := r) (i := i) (by simpa using h)
    simp only [massK, List.getD_cons_succ]
    omega

mutual
theorem shallow_range : ∀ (t : Tree) (d l : Int), -1 ≤ shallow t d l ∧ shallow t d l ≤ max l (-1)
  | .mk _ w ks, d, l => by
    simp only [shallow]
    split
    · omega
    · have := shallowK_range ks (d - 1) (l - 1 - w.length) (by omega)
      omega
theorem shallowK_range : ∀ (ks : List Tree) (d l : Int), -1 ≤ l → -1 ≤ shallowK ks d l ∧ shallowK ks d l ≤ l
  | [], d, l, h => by simp only [shallowK]; omega
  | t :: r, d, l, h => by
    simp only [shallowK]
    split
    · omega
    · have h1 := shallow_range t d l
      have h2 := shallowK_range r d (shallow t d l) h1.1
      omega
end

theorem shallowK_drop {ks : List Tree} {i : Nat} {d l : Int} (h : i < ks.length) (hl : 0 ≤ l) : shallowK (ks.drop i) d l = shallowK (ks.drop (i + 1)) d (shallow (ks.getD i Tree.nil) d l) := by
  rw [List.drop_eq_getElem_cons h]
  simp only [shallowK]
  rw [if_neg (by omega)]
  simp [List.getD, h]

theorem c68 : Contract Try.prog cfg 68 spec68 := by
  refine make68 ?_
  rintro N ⟨k, ws, ks⟩ d l _ ⟨hs, h1, h2, h3, h4⟩ hN
  simp only [small, mu68, mass] at *
  refine vc68 N _ _ _ _ ?_
  (simp only [bif_tl, bif_fr, bif_tlf, bif_frf, Bool.not_eq_true', Bool.not_eq_false', decide_eq_true_eq, decide_eq_false_iff_not, beq_iff_eq, beq_eq_false_iff_ne, bne_iff_ne, ne_eq, bne_eq_false_iff_eq, Bool.or_eq_true, Bool.and_eq_true, Bool.or_eq_false_iff, Bool.and_eq_false_imp])
  (simp only [Tree.eta, Edit.eta, Tree.kind_mk, Tree.words_mk, Tree.kids_mk])
  refine ⟨by unfold InR; omega, by unfold InR; omega, by omega, by omega, fun hc => ?_, fun hc => ?_⟩
  · have e : shallow (.mk k ws ks) d l = -1 := by
      simp only [shallow]
      rw [if_pos (by omega)]
    simp only [res68, e]
    exact ⟨⟨rfl, ⟨⟨rfl, rfl⟩, trivial⟩, trivial⟩, trivial⟩
  · have e : shallow (.mk k ws ks) d l = shallowK ks (d - 1) (l - 1 - ws.length) := by
      simp only [shallow]
      rw [if_neg (by omega)]
    simp only [res68, e]
    refine loop_rule (ι := Int × Int) (fun p => head68_0 (.mk k ws ks) d l p.1 p.2) (fun p => 0 ≤ p.2 ∧ p.2 ≤ ks.length ∧ -1 ≤ p.1 ∧ p.1 ≤ l ∧ shallowK (ks.drop p.2.toNat) (d - 1) p.1 = shallowK ks (d - 1) (l - 1 - ws.length)) (fun p => ((ks.length : Int) - p.2).toNat) (l - 1 - ws.length, 0) rfl ⟨by omega, by omega, by omega, by omega, by simp⟩ ?_
    rintro ⟨l', i⟩ ⟨h5, h6, h7, h8, h9⟩
    dsimp only at *
    refine vc68_l0 N _ _ _ _ _ _ _ ?_
    (simp only [bif_tl, bif_fr, bif_tlf, bif_frf, Bool.not_eq_true', Bool.not_eq_false', decide_eq_true_eq, decide_eq_false_iff_not, beq_iff_eq, beq_eq_false_iff_ne, bne_iff_ne, ne_eq, bne_eq_false_iff_eq, Bool.or_eq_true, Bool.and_eq_true, Bool.or_eq_false_iff, Bool.and_eq_false_imp])
    (simp only [Tree.eta, Edit.eta, Tree.kind_mk, Tree.words_mk, Tree.kids_mk])
    refine ⟨by omega, by omega, fun hc => ?_, fun hc => ?_⟩
    · have hi : i.toNat < ks.length := by omega
      have hr := shallow_range (ks.getD i.toNat Tree.nil) (d - 1) l'
      have hn := massK_get hi
      have hd := shallowK_drop (d := d - 1) hi hc.2
      refine ⟨by omega, by unfold InR; omega, ⟨smallK_get hs.2.2 hi, by dsimp only; omega, by dsimp only; omega, by dsimp only; omega, by dsimp only; omega⟩, by simp only [mu68]; omega, by unfold InR; omega, ⟨(shallow (ks.getD i.toNat Tree.nil) (d - 1) l', i + 1), rfl, ⟨by dsimp only; omega, by dsimp only; omega, by dsimp only; omega, by dsimp only; omega, ?_⟩, by dsimp only; omega⟩⟩
      dsimp only
      rw [← h9, hd]
      congr 2
      omega
    · have e : shallowK ks (d - 1) (l - 1 - ws.length) = l' := by
        rw [← h9]
        by_cases hi : i < ks.length
        · rw [List.drop_eq_getElem_cons (by omega)]
          simp only [shallowK]
          rw [if_pos (by omega)]
        · rw [List.drop_eq_nil_of_le (by omega)]
          simp only [shallowK]
      rw [e]
      exact ⟨⟨rfl, ⟨⟨rfl, rfl⟩, trivial⟩, trivial⟩, trivial⟩

theorem massK_len : ∀ (ks : List Tree), ks.length ≤ massK ks
  | [] => by simp [massK]
  | t :: r => by
    have := massK_len r
    have : 1 ≤ mass t := by cases t; simp only [mass]; omega
    simp only [massK, List.length_cons]
    omega



end Go.AM.Ytlahjnelghpmeaa
