/- What is written is no heavier, and right if it was. -/
import Derived.Test.YtlahjnelghpmeaaL23c
import Derived.Test.YtlahjnelghpmeaaL22
import Derived.Test.YtlahjnelghpmeaaB20c
set_option linter.unusedSimpArgs false
set_option linter.unusedVariables false
namespace Go.AM.Ytlahjnelghpmeaa
open Go.AM Go.Proofs

/-! ## mass -/

theorem massK_app : ∀ (a b : List Tree), massK (a ++ b) = massK a + massK b
  | [], b => by simp [massK]
  | t :: r, b => by simp only [List.cons_append, massK, massK_app r b]; omega
theorem massOs_app : ∀ (a b : List Op), massOs (a ++ b) = massOs a + massOs b
  | [], b => by simp [massOs]
  | t :: r, b => by simp only [List.cons_append, massOs, massOs_app r b]; omega
theorem massK_norms : ∀ (l : List Tree), massK (normsT l) ≤ massK l
  | [] => by simp [normsT, massK]
  | t :: r => by
    have h := massK_norms r
    have h2 := normT_mass t
    simp only [normsT] at h
    simp only [normsT, List.map_cons, massK]
    omega
theorem mass_nilE : massE Edit.nil = 3 := by simp [Edit.nil, Tree.nil, massE, mass, massK, massKs, massOs]
theorem mass_nilT : mass Tree.nil = 1 := by simp [Tree.nil, mass, massK]
theorem mass_pos' (t : Tree) : 1 ≤ mass t := by cases t; simp only [mass]; omega
theorem massE_three : ∀ (e : Edit), 3 ≤ massE e
  | .mk k o n w ks l os => by
    have h1 := mass_pos' o
    have h2 := mass_pos' n
    simp only [massE]; omega

def potW (w : Wst) : Nat := massOs w.out + w.out.length + massK w.gone + massK w.brought + (if w.gone.length = 0 then 0 else 4) + (if w.brought.length = 0 then 0 else 4)

theorem massOs_one (o : Op) : massOs [o] = massOp o := by simp [massOs]
theorem massOp_mk (k n : Int) (l : List Tree) (e : Edit) : massOp (OpOf.mk k n l e) = massK l + massE e := rfl

theorem pot_flush (w : Wst) : massOs (flushW w).out + (flushW w).out.length = potW w := by
  simp only [flushW, flushO, potW]
  rw [massOs_app, massOs_app, List.length_append, List.length_append]
  by_cases hg : w.gone.length = 0
  · have e : w.gone = [] := List.length_eq_zero_iff.1 hg
    rw [if_pos hg, if_pos hg, e]
    by_cases hb : w.brought.length = 0
    · have e2 : w.brought = [] := List.length_eq_zero_iff.1 hb
      rw [if_pos hb, if_pos hb, e2]; simp [massOs, massK]
    · rw [if_neg hb, if_neg hb, massOs_one, massOp_mk, mass_nilE]; simp [massOs, massK]; omega
  · rw [if_neg hg, if_neg hg, massOs_one, massOp_mk, mass_nilE]
    by_cases hb : w.brought.length = 0
    · have e2 : w.brought = [] := List.length_eq_zero_iff.1 hb
      rw [if_pos hb, if_pos hb, e2]; simp [massOs, massK]; omega
    · rw [if_neg hb, if_neg hb, massOs_one, massOp_mk, mass_nilE]; simp; omega

theorem pot_keep (w : Wst) (n : Int) : potW (keepW w n) ≤ potW w + 4 := by
  have h := pot_flush w
  have e : potW (keepW w n) = massOs (keepO (flushW w).out n) + (keepO (flushW w).out n).length := by simp [potW, keepW, massK]
  rw [e]
  rcases keepO_cases (flushW w).out n with e | ⟨a, o, e1, _, e3⟩
  · rw [e, massOs_app, List.length_append, massOs_one, massOp_mk, mass_nilE]; simp [massK]; omega
  · rw [e3, massOs_app, List.length_append, massOs_one]
    rw [e1, massOs_app, List.length_append, massOs_one] at h
    obtain ⟨k, m, l, e⟩ := o
    simp only [massOp_mk] at h ⊢
    simp at h ⊢
    omega

theorem pot_op {list : Int} {w : Wst} {o : Op} (hi : massE (nrmE o.e) ≤ massE o.e) : potW (nrmOp list o w) ≤ potW w + massOp o + 1 := by
  have h3 := massE_three o.e
  have hm : massOp o = massK o.l + massE o.e := by cases o; rfl
  have hn := massK_norms o.l
  have hl : (normsT o.l).length = o.l.length := by simp [normsT]
  rw [nrmOp_at]
  split
  · have := pot_keep w o.n; omega
  · split
    · simp only [potW, massK_app, List.length_append, hl]
      split <;> split <;> split <;> omega
    · split
      · simp only [potW, massK_app, List.length_append, hl]
        split <;> split <;> split <;> omega
      · split
        · split
          · have := pot_keep w 1; omega
          · have := pot_flush w
            have e : potW ⟨(flushW w).out ++ [⟨3, 0, [], nrmE o.e⟩], [], []⟩ = massOs ((flushW w).out ++ [(⟨3, 0, [], nrmE o.e⟩ : Op)]) + ((flushW w).out ++ [(⟨3, 0, [], nrmE o.e⟩ : Op)]).length := by simp [potW, massK]
            rw [e, massOs_app, List.length_append, massOs_one, massOp_mk]
            simp [massK]; omega
        · omega

mutual
theorem massE_nrm : ∀ (e : Edit), massE (nrmE e) ≤ massE e
  | .mk k o n w ks l os => by
    have h1 := massKs_nrm ks
    have h2 := pot_nrm l os W0
    have h3 := pot_flush (nrmOs l os W0)
    have e0 : potW W0 = 0 := rfl
    have po := mass_pos' o
    have pn := mass_pos' n
    have mo := normT_mass o
    have mn := normT_mass n
    rw [nrmE]
    split
    · simp only [massE, massKs, massOs, List.length_nil]; omega
    · split
      · simp only [massE, massKs, massOs, List.length_nil, mass_nilT]; omega
      · split
        · simp only [massE, massKs, List.length_nil, mass_nilT]
          show 1 + 1 + 1 + 0 + (flushW (nrmOs l os W0)).out.length + 0 + massOs (flushW (nrmOs l os W0)).out ≤ _
          omega
        · simp only [massE, massKs, massOs, List.length_nil, mass_nilT]; omega
theorem massKs_nrm : ∀ (ks : List (KidOf Edit)), massKs (nrmKs ks) ≤ massKs ks
  | [] => Nat.le_refl _
  | k :: r => by
    have h1 := massKid_nrm k
    have h2 := massKs_nrm r
    simp only [nrmKs, massKs]; omega
theorem massKid_nrm : ∀ (k : KidOf Edit), massKid (nrmKid k) ≤ massKid k
  | ⟨a, e⟩ => by
    have h := massE_nrm e
    simp only [nrmKid, massKid]; exact h
theorem pot_nrm (list : Int) : ∀ (os : List (OpOf Edit)) (w : Wst), potW (nrmOs list os w) ≤ potW w + massOs os + os.length
  | [], w => by simp [nrmOs, massOs]
  | o :: r, w => by
    have h1 := pot_nrmOp list o w
    have h2 := pot_nrm list r (nrmOp list o w)
    simp only [nrmOs, massOs, List.length_cons]; omega
theorem pot_nrmOp (list : Int) : ∀ (o : OpOf Edit) (w : Wst), potW (nrmOp list o w) ≤ potW w + massOp o + 1
  | ⟨k, n, l, e⟩, _ => pot_op (o := ⟨k, n, l, e⟩) (massE_nrm e)
end

end Go.AM.Ytlahjnelghpmeaa

namespace Go.AM.Ytlahjnelghpmeaa
open Go.AM Go.Proofs

def args38 : ArgL (Unit) := .nil
def pre38 (a : Unit) : Prop := True
noncomputable def res38 (a : Unit) : V U := .c (.bool true)
noncomputable def spec38 : Fs U := fs args38 (fun a => [pre38 a]) res38

def args9 : ArgL (Edit × Unit) := (.cons (aEl .edit) .nil)
def pre9 (a : Edit × Unit) : Prop := smallE a.1 ∧ rngE a.1
noncomputable def res9 (a : Edit × Unit) : V U := .c (.bool true)
noncomputable def spec9 : Fs U := fs args9 (fun a => [pre9 a]) res9

/-! cento/centolaw22.awake -/
noncomputable def know38 : List (FuncId × Fs U) := [(76, spec76)]
def lv38 : Lives U := fun i => match i with
  | 0 => ([], [])
  | 1 => ([(1, [])], [])
  | 2 => ([(1, []), (2, [])], [])
  | 3 => ([(3, [])], [])
  | 4 => ([(0, [])], [])
  | _ => ([], [])
abbrev W38 (Q : AExit → LSt U → Prop) : Prop := awp cfg (know know38) (drawOk cfg (know know38)) Try.f38.ntmps lv38 (cd Try.f38 []) (⟨[], [], []⟩ : LSt U) Q
/-- the body -/
theorem vc38 (Q : AExit → LSt U → Prop) (h : ∀ y_1, y_1 = (Edit.mk 0 (Tree.mk 0 ([]) ([])) (Tree.mk 0 ([]) ([])) ([]) ([]) 0 ([])) → ∀ y_2, y_2 = (nrmOs 4 ([(OpOf.mk 2 0 ([(Tree.mk 10 ([1]) ([]))]) y_1 : Op), (OpOf.mk 1 0 ([(Tree.mk 10 ([2]) ([]))]) y_1 : Op), (OpOf.mk 0 1 ([]) y_1 : Op), (OpOf.mk 0 2 ([]) y_1 : Op)]) (Wst.mk [] [] [])) → ∀ y_3, y_3 = (List.getD ((flushW y_2).out) (Int.toNat 0) Op.nil) → ∀ y_4, y_4 = (List.getD ((flushW y_2).out) (Int.toNat 1) Op.nil) → ∀ y_5, y_5 = (List.getD ((flushW y_2).out) (Int.toNat 2) Op.nil) → (pre76 (4, ([(OpOf.mk 2 0 ([(Tree.mk 10 ([1]) ([]))]) y_1 : Op), (OpOf.mk 1 0 ([(Tree.mk 10 ([2]) ([]))]) y_1 : Op), (OpOf.mk 0 1 ([]) y_1 : Op), (OpOf.mk 0 2 ([]) y_1 : Op)]), ())) ∧ (((((((flushW y_2).out).length : Int) : Int) == 3) = true → (0 : Int) ≤ 0 ∧ 0 < (((flushW y_2).out).length : Int)) ∧ ((bif (((((flushW y_2).out).length : Int) : Int) == 3) then (((OpOf.kind y_3) : Int) == 1) else false) = true → (0 : Int) ≤ 1 ∧ 1 < (((flushW y_2).out).length : Int)) ∧ ((bif (bif (((((flushW y_2).out).length : Int) : Int) == 3) then (((OpOf.kind y_3) : Int) == 1) else false) then (((OpOf.kind y_4) : Int) == 2) else false) = true → (0 : Int) ≤ 2 ∧ 2 < (((flushW y_2).out).length : Int)) ∧ ((bif (bif (bif (((((flushW y_2).out).length : Int) : Int) == 3) then (((OpOf.kind y_3) : Int) == 1) else false) then (((OpOf.kind y_4) : Int) == 2) else false) then (((OpOf.kind y_5) : Int) == 0) else false) = true → (0 : Int) ≤ 2 ∧ 2 < (((flushW y_2).out).length : Int)) ∧ (Q .ret (⟨[(0, .c (.bool (bif (bif (bif (bif (((((flushW y_2).out).length : Int) : Int) == 3) then (((OpOf.kind y_3) : Int) == 1) else false) then (((OpOf.kind y_4) : Int) == 2) else false) then (((OpOf.kind y_5) : Int) == 0) else false) then (((OpOf.n y_5) : Int) == 3) else false)))], [], []⟩ : LSt U)))) :
    W38 Q := by
  have e_ : (awp cfg (know know38) (drawOk cfg (know know38)) Try.f38.ntmps lv38 (cd Try.f38 []) (⟨[], [], []⟩ : LSt U) Q) = (let y_1 := (Edit.mk 0 (Tree.mk 0 ([]) ([])) (Tree.mk 0 ([]) ([])) ([]) ([]) 0 ([])); let y_2 := (nrmOs 4 ([(OpOf.mk 2 0 ([(Tree.mk 10 ([1]) ([]))]) y_1 : Op), (OpOf.mk 1 0 ([(Tree.mk 10 ([2]) ([]))]) y_1 : Op), (OpOf.mk 0 1 ([]) y_1 : Op), (OpOf.mk 0 2 ([]) y_1 : Op)]) (Wst.mk [] [] [])); let y_3 := (List.getD ((flushW y_2).out) (Int.toNat 0) Op.nil); let y_4 := (List.getD ((flushW y_2).out) (Int.toNat 1) Op.nil); let y_5 := (List.getD ((flushW y_2).out) (Int.toNat 2) Op.nil); ((((pre76 (4, ([(OpOf.mk 2 0 ([(Tree.mk 10 ([1]) ([]))]) y_1 : Op), (OpOf.mk 1 0 ([(Tree.mk 10 ([2]) ([]))]) y_1 : Op), (OpOf.mk 0 1 ([]) y_1 : Op), (OpOf.mk 0 2 ([]) y_1 : Op)]), ())) ∧ (((((((flushW y_2).out).length : Int) : Int) == 3) = true → (((((flushW y_2).out).length : Int) : Int) == 3) = true) ∧ ((((((flushW y_2).out).length : Int) : Int) == 3) = true → (0 : Int) ≤ 0 ∧ 0 < (((flushW y_2).out).length : Int)) ∧ ((((((flushW y_2).out).length : Int) : Int) == 3) = true → (((((flushW y_2).out).length : Int) : Int) == 3) = true) ∧ ((((((flushW y_2).out).length : Int) : Int) == 3) = true → (((((flushW y_2).out).length : Int) : Int) == 3) = true) ∧ ((((((flushW y_2).out).length : Int) : Int) == 3) = true → (((((flushW y_2).out).length : Int) : Int) == 3) = true) ∧ (((((((flushW y_2).out).length : Int) : Int) == 3) = true → (((((flushW y_2).out).length : Int) : Int) == 3) = true)) ∧ ((bif (((((flushW y_2).out).length : Int) : Int) == 3) then (((OpOf.kind y_3) : Int) == 1) else false) = true → (bif (((((flushW y_2).out).length : Int) : Int) == 3) then (((OpOf.kind y_3) : Int) == 1) else false) = true) ∧ ((bif (((((flushW y_2).out).length : Int) : Int) == 3) then (((OpOf.kind y_3) : Int) == 1) else false) = true → (0 : Int) ≤ 1 ∧ 1 < (((flushW y_2).out).length : Int)) ∧ ((bif (((((flushW y_2).out).length : Int) : Int) == 3) then (((OpOf.kind y_3) : Int) == 1) else false) = true → (bif (((((flushW y_2).out).length : Int) : Int) == 3) then (((OpOf.kind y_3) : Int) == 1) else false) = true) ∧ ((bif (((((flushW y_2).out).length : Int) : Int) == 3) then (((OpOf.kind y_3) : Int) == 1) else false) = true → (bif (((((flushW y_2).out).length : Int) : Int) == 3) then (((OpOf.kind y_3) : Int) == 1) else false) = true) ∧ ((bif (((((flushW y_2).out).length : Int) : Int) == 3) then (((OpOf.kind y_3) : Int) == 1) else false) = true → (bif (((((flushW y_2).out).length : Int) : Int) == 3) then (((OpOf.kind y_3) : Int) == 1) else false) = true) ∧ (((bif (((((flushW y_2).out).length : Int) : Int) == 3) then (((OpOf.kind y_3) : Int) == 1) else false) = true → (bif (((((flushW y_2).out).length : Int) : Int) == 3) then (((OpOf.kind y_3) : Int) == 1) else false) = true)) ∧ ((bif (bif (((((flushW y_2).out).length : Int) : Int) == 3) then (((OpOf.kind y_3) : Int) == 1) else false) then (((OpOf.kind y_4) : Int) == 2) else false) = true → (bif (bif (((((flushW y_2).out).length : Int) : Int) == 3) then (((OpOf.kind y_3) : Int) == 1) else false) then (((OpOf.kind y_4) : Int) == 2) else false) = true) ∧ ((bif (bif (((((flushW y_2).out).length : Int) : Int) == 3) then (((OpOf.kind y_3) : Int) == 1) else false) then (((OpOf.kind y_4) : Int) == 2) else false) = true → (0 : Int) ≤ 2 ∧ 2 < (((flushW y_2).out).length : Int)) ∧ ((bif (bif (((((flushW y_2).out).length : Int) : Int) == 3) then (((OpOf.kind y_3) : Int) == 1) else false) then (((OpOf.kind y_4) : Int) == 2) else false) = true → (bif (bif (((((flushW y_2).out).length : Int) : Int) == 3) then (((OpOf.kind y_3) : Int) == 1) else false) then (((OpOf.kind y_4) : Int) == 2) else false) = true) ∧ ((bif (bif (((((flushW y_2).out).length : Int) : Int) == 3) then (((OpOf.kind y_3) : Int) == 1) else false) then (((OpOf.kind y_4) : Int) == 2) else false) = true → (bif (bif (((((flushW y_2).out).length : Int) : Int) == 3) then (((OpOf.kind y_3) : Int) == 1) else false) then (((OpOf.kind y_4) : Int) == 2) else false) = true) ∧ ((bif (bif (((((flushW y_2).out).length : Int) : Int) == 3) then (((OpOf.kind y_3) : Int) == 1) else false) then (((OpOf.kind y_4) : Int) == 2) else false) = true → (bif (bif (((((flushW y_2).out).length : Int) : Int) == 3) then (((OpOf.kind y_3) : Int) == 1) else false) then (((OpOf.kind y_4) : Int) == 2) else false) = true) ∧ (((bif (bif (((((flushW y_2).out).length : Int) : Int) == 3) then (((OpOf.kind y_3) : Int) == 1) else false) then (((OpOf.kind y_4) : Int) == 2) else false) = true → (bif (bif (((((flushW y_2).out).length : Int) : Int) == 3) then (((OpOf.kind y_3) : Int) == 1) else false) then (((OpOf.kind y_4) : Int) == 2) else false) = true)) ∧ ((bif (bif (bif (((((flushW y_2).out).length : Int) : Int) == 3) then (((OpOf.kind y_3) : Int) == 1) else false) then (((OpOf.kind y_4) : Int) == 2) else false) then (((OpOf.kind y_5) : Int) == 0) else false) = true → (bif (bif (bif (((((flushW y_2).out).length : Int) : Int) == 3) then (((OpOf.kind y_3) : Int) == 1) else false) then (((OpOf.kind y_4) : Int) == 2) else false) then (((OpOf.kind y_5) : Int) == 0) else false) = true) ∧ ((bif (bif (bif (((((flushW y_2).out).length : Int) : Int) == 3) then (((OpOf.kind y_3) : Int) == 1) else false) then (((OpOf.kind y_4) : Int) == 2) else false) then (((OpOf.kind y_5) : Int) == 0) else false) = true → (0 : Int) ≤ 2 ∧ 2 < (((flushW y_2).out).length : Int)) ∧ ((bif (bif (bif (((((flushW y_2).out).length : Int) : Int) == 3) then (((OpOf.kind y_3) : Int) == 1) else false) then (((OpOf.kind y_4) : Int) == 2) else false) then (((OpOf.kind y_5) : Int) == 0) else false) = true → (bif (bif (bif (((((flushW y_2).out).length : Int) : Int) == 3) then (((OpOf.kind y_3) : Int) == 1) else false) then (((OpOf.kind y_4) : Int) == 2) else false) then (((OpOf.kind y_5) : Int) == 0) else false) = true) ∧ ((bif (bif (bif (((((flushW y_2).out).length : Int) : Int) == 3) then (((OpOf.kind y_3) : Int) == 1) else false) then (((OpOf.kind y_4) : Int) == 2) else false) then (((OpOf.kind y_5) : Int) == 0) else false) = true → (bif (bif (bif (((((flushW y_2).out).length : Int) : Int) == 3) then (((OpOf.kind y_3) : Int) == 1) else false) then (((OpOf.kind y_4) : Int) == 2) else false) then (((OpOf.kind y_5) : Int) == 0) else false) = true) ∧ ((bif (bif (bif (((((flushW y_2).out).length : Int) : Int) == 3) then (((OpOf.kind y_3) : Int) == 1) else false) then (((OpOf.kind y_4) : Int) == 2) else false) then (((OpOf.kind y_5) : Int) == 0) else false) = true → (bif (bif (bif (((((flushW y_2).out).length : Int) : Int) == 3) then (((OpOf.kind y_3) : Int) == 1) else false) then (((OpOf.kind y_4) : Int) == 2) else false) then (((OpOf.kind y_5) : Int) == 0) else false) = true) ∧ (((bif (bif (bif (((((flushW y_2).out).length : Int) : Int) == 3) then (((OpOf.kind y_3) : Int) == 1) else false) then (((OpOf.kind y_4) : Int) == 2) else false) then (((OpOf.kind y_5) : Int) == 0) else false) = true → (bif (bif (bif (((((flushW y_2).out).length : Int) : Int) == 3) then (((OpOf.kind y_3) : Int) == 1) else false) then (((OpOf.kind y_4) : Int) == 2) else false) then (((OpOf.kind y_5) : Int) == 0) else false) = true)) ∧ (Q .ret (⟨[(0, .c (.bool (bif (bif (bif (bif (((((flushW y_2).out).length : Int) : Int) == 3) then (((OpOf.kind y_3) : Int) == 1) else false) then (((OpOf.kind y_4) : Int) == 2) else false) then (((OpOf.kind y_5) : Int) == 0) else false) then (((OpOf.n y_5) : Int) == 3) else false)))], [], []⟩ : LSt U))))))) := by kernel_rfl
  exact e_.mpr (by intro y_1 y_2 y_3 y_4 y_5; exact ⟨(h y_1 rfl y_2 rfl y_3 rfl y_4 rfl y_5 rfl).1, ⟨fun x => x, (h y_1 rfl y_2 rfl y_3 rfl y_4 rfl y_5 rfl).2.1, fun x => x, fun x => x, fun x => x, (by generalize (((((flushW y_2).out).length : Int) : Int) == 3) = b0; revert b0; decide), fun x => x, (h y_1 rfl y_2 rfl y_3 rfl y_4 rfl y_5 rfl).2.2.1, fun x => x, fun x => x, fun x => x, (by generalize (((OpOf.kind y_3) : Int) == 1) = b0; generalize (((((flushW y_2).out).length : Int) : Int) == 3) = b1; revert b0 b1; decide), fun x => x, (h y_1 rfl y_2 rfl y_3 rfl y_4 rfl y_5 rfl).2.2.2.1, fun x => x, fun x => x, fun x => x, (by generalize (((OpOf.kind y_4) : Int) == 2) = b0; generalize (((OpOf.kind y_3) : Int) == 1) = b1; generalize (((((flushW y_2).out).length : Int) : Int) == 3) = b2; revert b0 b1 b2; decide), fun x => x, (h y_1 rfl y_2 rfl y_3 rfl y_4 rfl y_5 rfl).2.2.2.2.1, fun x => x, fun x => x, fun x => x, (by generalize (((OpOf.kind y_5) : Int) == 0) = b0; generalize (((OpOf.kind y_4) : Int) == 2) = b1; generalize (((OpOf.kind y_3) : Int) == 1) = b2; generalize (((((flushW y_2).out).length : Int) : Int) == 3) = b3; revert b0 b1 b2 b3; decide), (h y_1 rfl y_2 rfl y_3 rfl y_4 rfl y_5 rfl).2.2.2.2.2⟩⟩)
def Body38  : Prop := awp cfg (know (know38)) (drawOk cfg (know (know38))) Try.f38.ntmps lv38 (cd Try.f38 []) (entry (args38.can (())) []) (EndsQ cfg Try.f38.ntmps Try.f38.results.toList (res38 (())) [])
theorem make38 (c76 : Contract Try.prog cfg 76 spec76) (hb : ∀ (_ : Unit), pre38 (()) → Body38 ) : Contract Try.prog cfg 38 spec38 :=
  contract_flat (l := [(76, spec76)]) cfgOk rfl (⟨c76, trivial⟩) lv38 Try.func38 rfl rfl 0 (fun _ => rfl) (by decide) (fun _ => hb  ())

/-! cento/centolaw22.NormalWrites -/
/-! cento/centolaw22.NormalOnce -/
noncomputable def know9 : List (FuncId × Fs U) := [(37, spec37), (38, spec38), (39, spec39), (40, spec40), (43, spec43)]
def lv9 : Lives U := fun i => match i with
  | 0 => ([(1, [])], [((.loc 1), [])])
  | 1 => ([(1, []), (6, [])], [((.loc 1), [])])
  | 2 => ([(2, [])], [])
  | 3 => ([(1, []), (3, [])], [((.loc 1), []), ((.loc 3), [])])
  | 4 => ([(2, [])], [])
  | _ => ([], [])
abbrev W9 (e : Edit) (Q : AExit → LSt U → Prop) : Prop := awp cfg (know know9) (drawOk cfg (know know9)) Try.f9.ntmps lv9 (cd Try.f9 []) (⟨[(0, .agg [.int .i64 (Edit.kind e), .int .i64 (Tree.kind (Edit.old e)), .slice (U := U) .u64 (Tree.words (Edit.old e)) .unk, .slice (U := U) .tree (Tree.kids (Edit.old e)) .unk, .int .i64 (Tree.kind (Edit.new e)), .slice (U := U) .u64 (Tree.words (Edit.new e)) .unk, .slice (U := U) .tree (Tree.kids (Edit.new e)) .unk, .slice (U := U) .wedit (Edit.words e) .unk, .slice (U := U) .kid (Edit.kids e) .unk, .int .i64 (Edit.list e), .slice (U := U) .op (Edit.ops e) .unk])], [], []⟩ : LSt U) Q
/-- the body -/
theorem vc9 (e : Edit) (Q : AExit → LSt U → Prop) (h : ∀ y_1, y_1 = (e) → ∀ y_2, y_2 = ((nrmE y_1)) → ∀ y_3, y_3 = ((nrmE y_2)) → (pre37 (y_1, ())) ∧ (((!(good y_1)) = true → (pre38 (())) ∧ (Q .ret (⟨[(2, .c (.bool true))], [], []⟩ : LSt U))) ∧ ((!(good y_1)) = false → (pre40 (y_1, ())) ∧ ((pre40 (y_2, ())) ∧ (pre39 (y_3, y_2, ())) ∧ ((eqX y_3 y_2) = true → pre43 (y_2, ())) ∧ ((eqX y_3 y_2) = true → pre43 (y_1, ())) ∧ ((bif (eqX y_3 y_2) then (decide (((countE y_2) : Int) ≤ (countE y_1))) else false) = true → pre38 (())) ∧ (Q .ret (⟨[(2, .c (.bool (bif (bif (eqX y_3 y_2) then (decide (((countE y_2) : Int) ≤ (countE y_1))) else false) then true else false)))], [], []⟩ : LSt U)))))) :
    W9 e Q := by
  have e_ : (awp cfg (know know9) (drawOk cfg (know know9)) Try.f9.ntmps lv9 (cd Try.f9 []) (⟨[(0, .agg [.int .i64 (Edit.kind e), .int .i64 (Tree.kind (Edit.old e)), .slice (U := U) .u64 (Tree.words (Edit.old e)) .unk, .slice (U := U) .tree (Tree.kids (Edit.old e)) .unk, .int .i64 (Tree.kind (Edit.new e)), .slice (U := U) .u64 (Tree.words (Edit.new e)) .unk, .slice (U := U) .tree (Tree.kids (Edit.new e)) .unk, .slice (U := U) .wedit (Edit.words e) .unk, .slice (U := U) .kid (Edit.kids e) .unk, .int .i64 (Edit.list e), .slice (U := U) .op (Edit.ops e) .unk])], [], []⟩ : LSt U) Q) = (let y_1 := (reEdit e); let y_2 := (reEdit (nrmE y_1)); let y_3 := (reEdit (nrmE y_2)); ((pre37 (y_1, ())) ∧ (((!(good y_1)) = true → (pre38 (())) ∧ (Q .ret (⟨[(2, .c (.bool true))], [], []⟩ : LSt U))) ∧ ((!(good y_1)) = false → (pre40 (y_1, ())) ∧ ((pre40 (y_2, ())) ∧ (pre39 (y_3, y_2, ())) ∧ ((eqX y_3 y_2) = true → (eqX y_3 y_2) = true) ∧ ((eqX y_3 y_2) = true → pre43 (y_2, ())) ∧ ((eqX y_3 y_2) = true → (eqX y_3 y_2) = true) ∧ ((eqX y_3 y_2) = true → pre43 (y_1, ())) ∧ ((eqX y_3 y_2) = true → (eqX y_3 y_2) = true) ∧ ((eqX y_3 y_2) = true → (eqX y_3 y_2) = true) ∧ (((eqX y_3 y_2) = true → (eqX y_3 y_2) = true)) ∧ ((bif (eqX y_3 y_2) then (decide (((countE y_2) : Int) ≤ (countE y_1))) else false) = true → pre38 (())) ∧ (((bif (eqX y_3 y_2) then (decide (((countE y_2) : Int) ≤ (countE y_1))) else false) = true → (bif (eqX y_3 y_2) then (decide (((countE y_2) : Int) ≤ (countE y_1))) else false) = true)) ∧ (Q .ret (⟨[(2, .c (.bool (bif (bif (eqX y_3 y_2) then (decide (((countE y_2) : Int) ≤ (countE y_1))) else false) then true else false)))], [], []⟩ : LSt U))))))) := by kernel_rfl
  exact e_.mpr (by intro y_1 y_2 y_3; exact ⟨(h y_1 (reEdit_eq _) y_2 (reEdit_eq _) y_3 (reEdit_eq _)).1, ⟨fun c_2 => ⟨((h y_1 (reEdit_eq _) y_2 (reEdit_eq _) y_3 (reEdit_eq _)).2.1 c_2).1, ((h y_1 (reEdit_eq _) y_2 (reEdit_eq _) y_3 (reEdit_eq _)).2.1 c_2).2⟩, fun c_2 => ⟨((h y_1 (reEdit_eq _) y_2 (reEdit_eq _) y_3 (reEdit_eq _)).2.2 c_2).1, ⟨((h y_1 (reEdit_eq _) y_2 (reEdit_eq _) y_3 (reEdit_eq _)).2.2 c_2).2.1, ((h y_1 (reEdit_eq _) y_2 (reEdit_eq _) y_3 (reEdit_eq _)).2.2 c_2).2.2.1, fun x => x, ((h y_1 (reEdit_eq _) y_2 (reEdit_eq _) y_3 (reEdit_eq _)).2.2 c_2).2.2.2.1, fun x => x, ((h y_1 (reEdit_eq _) y_2 (reEdit_eq _) y_3 (reEdit_eq _)).2.2 c_2).2.2.2.2.1, fun x => x, fun x => x, (by generalize (eqX y_3 y_2) = b0; revert b0; decide), ((h y_1 (reEdit_eq _) y_2 (reEdit_eq _) y_3 (reEdit_eq _)).2.2 c_2).2.2.2.2.2.1, (by generalize (eqX y_3 y_2) = b0; generalize (decide (((countE y_2) : Int) ≤ (countE y_1))) = b1; revert b0 b1; decide), ((h y_1 (reEdit_eq _) y_2 (reEdit_eq _) y_3 (reEdit_eq _)).2.2 c_2).2.2.2.2.2.2⟩⟩⟩⟩)
def Body9 (e : Edit)  : Prop := awp cfg (know (know9)) (drawOk cfg (know (know9))) Try.f9.ntmps lv9 (cd Try.f9 []) (entry (args9.can (e, ())) []) (EndsQ cfg Try.f9.ntmps Try.f9.results.toList (res9 (e, ())) [])
theorem make9 (c37 : Contract Try.prog cfg 37 spec37) (c38 : Contract Try.prog cfg 38 spec38) (c39 : Contract Try.prog cfg 39 spec39) (c40 : Contract Try.prog cfg 40 spec40) (c43 : Contract Try.prog cfg 43 spec43) (hb : ∀ (e : Edit) (_ : Unit), pre9 (e, ()) → Body9 e) : Contract Try.prog cfg 9 spec9 :=
  contract_flat (l := [(37, spec37), (38, spec38), (39, spec39), (40, spec40), (43, spec43)]) cfgOk rfl (⟨c37, c38, c39, c40, c43, trivial⟩) lv9 Try.func9 rfl rfl 1 (fun _ => rfl) (by decide) (fun ⟨e, _⟩ => hb e ())

end Go.AM.Ytlahjnelghpmeaa

namespace Go.AM.Ytlahjnelghpmeaa
open Go.AM Go.Proofs

theorem nrmE_kind (e : Edit) : (nrmE e).kind = e.kind := by
  rw [nrmE_at]
  split
  · rfl
  · split
    · rfl
    · split <;> rfl

theorem nrmE_old (e : Edit) (h : e.kind = 1) : (nrmE e).old = normT e.old ∧ (nrmE e).new = normT e.new := by
  rw [nrmE_at, if_pos h]
  exact ⟨rfl, rfl⟩

theorem rightT_one {list : Int} {t : Tree} (h : rightT (.mk list [] [t]) 64 = true) : rightT (.mk list [] [normT t]) 64 = true := by
  have key := fun (k d : Int) (h : rightK k [t] d = true) => rightK_norm [t] k d h
  simp only [normK] at key
  simp only [rightT] at h ⊢
  split at h
  · simp at h
  · rename_i h0
    rw [if_neg h0]
    split at h
    · simp at h
    · rename_i h1
      rw [if_neg h1]
      rw [if_neg (by decide)] at h ⊢
      split at h
      · rename_i h2
        rw [if_pos h2]
        simp only [Bool.and_eq_true] at h ⊢
        exact ⟨h.1, key _ _ h.2⟩
      · rename_i h2
        rw [if_neg h2]
        simp only [Bool.and_eq_true] at h ⊢
        exact ⟨h.1, key _ _ h.2⟩

theorem treesOk_norms {list : Int} : ∀ {l : List Tree}, treesOk list l = true → treesOk list (normsT l) = true
  | [], _ => rfl
  | t :: r, h => by
    simp only [treesOk, Bool.and_eq_true] at h
    have h2 := treesOk_norms h.2
    simp only [normsT] at h2
    simp only [normsT, List.map_cons, treesOk, Bool.and_eq_true]
    exact ⟨rightT_one h.1, h2⟩
theorem treesOk_app {list : Int} : ∀ {a b : List Tree}, treesOk list a = true → treesOk list b = true → treesOk list (a ++ b) = true
  | [], _, _, h => h
  | t :: r, b, h, h2 => by
    simp only [treesOk, Bool.and_eq_true] at h
    simp only [List.cons_append, treesOk, Bool.and_eq_true]
    exact ⟨h.1, treesOk_app h.2 h2⟩

/-- Right, but for how much is kept. -/
def rOp (list : Int) (d : Int) (o : Op) : Prop := (o.kind = 0 → 1 ≤ o.n ∧ o.l.length = 0 ∧ sameE o.e = true) ∧ (o.kind ≠ 0 → rightOp list o d = true)

theorem rOp_of {list d : Int} {o : Op} (h : rightOp list o d = true) : rOp list d o := by
  refine ⟨fun hk => ?_, fun _ => h⟩
  obtain ⟨k, n, l, e⟩ := o
  simp only at hk
  subst hk
  simp only [rightOp, if_true, Bool.and_eq_true, decide_eq_true_eq] at h
  exact ⟨h.1.1, h.1.2.2, h.2⟩
theorem rOp_to {list d : Int} {o : Op} (h : rOp list d o) (hn : o.kind = 0 → o.n ≤ 1048576) : rightOp list o d = true := by
  by_cases hk : o.kind = 0
  · have h1 := h.1 hk
    have h2 := hn hk
    obtain ⟨k, n, l, e⟩ := o
    simp only at hk h1 h2
    subst hk
    simp only [rightOp, if_true, Bool.and_eq_true, decide_eq_true_eq]
    exact ⟨⟨h1.1, h2, h1.2.1⟩, h1.2.2⟩
  · exact h.2 hk

theorem rightOs_all {list : Int} : ∀ {os : List Op} {d : Int}, rightOs list os d = true ↔ ∀ o ∈ os, rightOp list o d = true
  | [], d => by simp [rightOs]
  | o :: r, d => by
    simp only [rightOs, Bool.and_eq_true, List.mem_cons, forall_eq_or_imp]
    rw [rightOs_all (os := r)]

theorem sameE_none : sameE Edit.nil = true := rfl

structure OkW (list d : Int) (w : Wst) : Prop where
  out : ∀ o ∈ w.out, rOp list d o
  gone : treesOk list w.gone = true
  brought : treesOk list w.brought = true

theorem okW_flush {list d : Int} {w : Wst} (h : OkW list d w) : OkW list d (flushW w) := by
  refine ⟨?_, rfl, rfl⟩
  simp only [flushW, flushO]
  intro o ho
  rcases List.mem_append.1 ho with ho | ho
  · exact h.out o ho
  rcases List.mem_append.1 ho with ho | ho
  · split at ho
    · cases ho
    · rename_i hl
      simp only [List.mem_singleton] at ho
      subst ho
      refine ⟨fun hk => (by cases hk), fun _ => ?_⟩
      simp only [rightOp]
      rw [if_neg (by decide), if_neg (by decide), if_pos (by decide), h.gone, sameE_none]
      simp only [Bool.and_true, Bool.true_and, decide_eq_true_eq]
      omega
  · split at ho
    · cases ho
    · rename_i hl
      simp only [List.mem_singleton] at ho
      subst ho
      refine ⟨fun hk => (by cases hk), fun _ => ?_⟩
      simp only [rightOp]
      rw [if_neg (by decide), if_neg (by decide), if_pos (by decide), h.brought, sameE_none]
      simp only [Bool.and_true, Bool.true_and, decide_eq_true_eq]
      omega

theorem okW_keep {list d : Int} {w : Wst} {n : Int} (h : OkW list d w) (hn : 1 ≤ n) : OkW list d (keepW w n) := by
  have hf := okW_flush h
  refine ⟨?_, rfl, rfl⟩
  simp only [keepW]
  intro o ho
  rcases keepO_cases (flushW w).out n with e | ⟨a, q, e1, e2, e3⟩
  · rw [e] at ho
    rcases List.mem_append.1 ho with ho | ho
    · exact hf.out o ho
    · simp only [List.mem_singleton] at ho
      subst ho
      exact ⟨fun _ => ⟨hn, rfl, sameE_none⟩, fun hk => absurd rfl hk⟩
  · rw [e3] at ho
    rcases List.mem_append.1 ho with ho | ho
    · exact hf.out o (by rw [e1]; exact List.mem_append.2 (Or.inl ho))
    · simp only [List.mem_singleton] at ho
      subst ho
      have hq := (hf.out q (by rw [e1]; simp)).1 e2
      exact ⟨fun _ => ⟨by simp only; omega, hq.2⟩, fun hk => absurd e2 hk⟩

theorem okW_op {list d : Int} {w : Wst} {o : Op} (h : OkW list d w) (hr : rightOp list o d = true) (hi : rightE o.e d = true → rightE (nrmE o.e) d = true) : OkW list d (nrmOp list o w) := by
  obtain ⟨k, n, l, e⟩ := o
  have hr0 := hr
  rw [rightOp] at hr
  rw [nrmOp_at]
  simp only at hi ⊢
  split at hr
  · rename_i hk
    rw [if_pos hk]
    simp only [Bool.and_eq_true, decide_eq_true_eq] at hr
    exact okW_keep h hr.1.1
  · rename_i hk
    rw [if_neg hk]
    split at hr
    · cases hr
    · rename_i hn
      split at hr
      · rename_i h3
        simp only [Bool.and_eq_true, decide_eq_true_eq] at hr
        by_cases k1 : k = 1
        · rw [if_pos k1]
          exact ⟨h.out, treesOk_app h.gone (treesOk_norms hr.1.1), h.brought⟩
        · rw [if_neg k1, if_pos (by omega)]
          exact ⟨h.out, h.gone, treesOk_app h.brought (treesOk_norms hr.1.1)⟩
      · rename_i h3
        rw [if_neg (by omega), if_neg (by omega), if_pos (by omega)]
        split
        · exact okW_keep h (by decide)
        · have hf := okW_flush h
          refine ⟨?_, rfl, rfl⟩
          intro o ho
          rcases List.mem_append.1 ho with ho | ho
          · exact hf.out o ho
          · simp only [List.mem_singleton] at ho
            subst ho
            refine ⟨fun hk => (by cases hk), fun _ => ?_⟩
            simp only [Bool.and_eq_true, decide_eq_true_eq] at hr
            simp only [rightOp]
            rw [if_neg (by decide), if_neg (by decide), if_neg (by decide), nrmE_kind, hi hr.1.2]
            simp only [Bool.and_true, Bool.and_eq_true, decide_eq_true_eq]
            refine ⟨⟨rfl, hr.1.1.2⟩, ?_⟩
            rcases hr.2 with h | h | h
            · exact Or.inl h
            · exact Or.inr (Or.inl h)
            · rw [(nrmE_old e h.1).1, (nrmE_old e h.1).2, kind_norm, kind_norm]
              exact Or.inr (Or.inr h)

/-! ## lengths -/

def sumA : List Op → Int
  | [] => 0
  | o :: r => (if o.kind = 2 then 0 else opLen o) + sumA r
def sumB : List Op → Int
  | [] => 0
  | o :: r => (if o.kind = 1 then 0 else opLen o) + sumB r

theorem sumA_app : ∀ (a b : List Op), sumA (a ++ b) = sumA a + sumA b
  | [], b => by simp [sumA]
  | o :: r, b => by simp only [List.cons_append, sumA, sumA_app r b]; omega
theorem sumB_app : ∀ (a b : List Op), sumB (a ++ b) = sumB a + sumB b
  | [], b => by simp [sumB]
  | o :: r, b => by simp only [List.cons_append, sumB, sumB_app r b]; omega

theorem lenA_sum : ∀ (l : List Op) (n : Int), (∀ o ∈ l, 0 ≤ opLen o) → 0 ≤ n → n ≤ 1048576 → lenA l n = min (n + sumA l) 1048576 ∧ 0 ≤ sumA l
  | [], n, _, h1, h2 => by simp only [lenA, sumA]; omega
  | o :: r, n, h, h1, h2 => by
    have ho := h o (List.mem_cons_self ..)
    simp only [lenA, sumA]
    have hx : 0 ≤ (if o.kind = 2 then n else n + opLen o) ∧ (if o.kind = 2 then n else n + opLen o) = n + (if o.kind = 2 then 0 else opLen o) := by split <;> omega
    have hy : 0 ≤ (if o.kind = 2 then 0 else opLen o) := by split <;> omega
    rw [hx.2]
    rw [hx.2] at hx
    generalize (if o.kind = 2 then 0 else opLen o) = y at *
    obtain ⟨e1, e2⟩ := lenA_sum r (min (n + y) 1048576) (fun x hx => h x (List.mem_cons_of_mem _ hx)) (by omega) (by omega)
    rw [e1]
    omega
theorem lenB_sum : ∀ (l : List Op) (n : Int), (∀ o ∈ l, 0 ≤ opLen o) → 0 ≤ n → n ≤ 1048576 → lenB l n = min (n + sumB l) 1048576 ∧ 0 ≤ sumB l
  | [], n, _, h1, h2 => by simp only [lenB, sumB]; omega
  | o :: r, n, h, h1, h2 => by
    have ho := h o (List.mem_cons_self ..)
    simp only [lenB, sumB]
    have hx : 0 ≤ (if o.kind = 1 then n else n + opLen o) ∧ (if o.kind = 1 then n else n + opLen o) = n + (if o.kind = 1 then 0 else opLen o) := by split <;> omega
    have hy : 0 ≤ (if o.kind = 1 then 0 else opLen o) := by split <;> omega
    rw [hx.2]
    rw [hx.2] at hx
    generalize (if o.kind = 1 then 0 else opLen o) = y at *
    obtain ⟨e1, e2⟩ := lenB_sum r (min (n + y) 1048576) (fun x hx => h x (List.mem_cons_of_mem _ hx)) (by omega) (by omega)
    rw [e1]
    omega

theorem rOp_len {list d : Int} {o : Op} (h : rOp list d o) : 0 ≤ opLen o := by
  unfold opLen
  split
  · decide
  · by_cases hk : o.kind = 0
    · have := (h.1 hk).1; omega
    · have hr := h.2 hk
      obtain ⟨k, n, l, e⟩ := o
      simp only at hk ⊢
      rw [rightOp, if_neg hk] at hr
      split at hr
      · cases hr
      · omega

/-- A kept number is no more than the sum. -/
theorem sumA_mem : ∀ {l : List Op} {o : Op}, (∀ o ∈ l, 0 ≤ opLen o) → o ∈ l → o.kind ≠ 2 → opLen o ≤ sumA l
  | a :: r, o, h, ho, hk => by
    have hr := (lenA_sum r 0 (fun x hx => h x (List.mem_cons_of_mem _ hx)) (by decide) (by decide)).2
    have ha := h a (List.mem_cons_self ..)
    simp only [sumA]
    rcases List.mem_cons.1 ho with rfl | ho
    · rw [if_neg hk]; omega
    · have := sumA_mem (fun x hx => h x (List.mem_cons_of_mem _ hx)) ho hk
      split <;> omega

def sA (w : Wst) : Int := sumA w.out + w.gone.length
def sB (w : Wst) : Int := sumB w.out + w.brought.length

theorem sum_flush (w : Wst) : sumA (flushW w).out = sA w ∧ sumB (flushW w).out = sB w := by
  simp only [flushW, flushO, sA, sB, sumA_app, sumB_app]
  constructor
  · by_cases hg : w.gone.length = 0
    · rw [if_pos hg]
      by_cases hb : w.brought.length = 0
      · rw [if_pos hb]; simp [sumA]; omega
      · rw [if_neg hb]; simp [sumA]; omega
    · rw [if_neg hg]
      by_cases hb : w.brought.length = 0
      · rw [if_pos hb]; simp [sumA, opLen]
      · rw [if_neg hb]; simp [sumA, opLen]
  · by_cases hg : w.gone.length = 0
    · rw [if_pos hg]
      by_cases hb : w.brought.length = 0
      · rw [if_pos hb]; simp [sumB]; omega
      · rw [if_neg hb]; simp [sumB, opLen]
    · rw [if_neg hg]
      by_cases hb : w.brought.length = 0
      · rw [if_pos hb]; simp [sumB]; omega
      · rw [if_neg hb]; simp [sumB, opLen]

theorem sum_keep (w : Wst) (n : Int) : sA (keepW w n) = sA w + n ∧ sB (keepW w n) = sB w + n := by
  have hf := sum_flush w
  simp only [keepW]
  have e1 : ∀ x, sA ⟨x, [], []⟩ = sumA x := fun x => by simp [sA]
  have e2 : ∀ x, sB ⟨x, [], []⟩ = sumB x := fun x => by simp [sB]
  rw [e1, e2, ← hf.1, ← hf.2]
  rcases keepO_cases (flushW w).out n with e | ⟨a, q, e1, e2, e3⟩
  · rw [e, sumA_app, sumB_app]
    simp [sumA, sumB, opLen]
  · rw [e3, e1, sumA_app, sumB_app, sumA_app, sumB_app]
    simp only [sumA, sumB, opLen, e2]
    simp
    omega

theorem sum_op {list d : Int} {w : Wst} {o : Op} (hr : rightOp list o d = true) : sA (nrmOp list o w) = sA w + (if o.kind = 2 then 0 else opLen o) ∧ sB (nrmOp list o w) = sB w + (if o.kind = 1 then 0 else opLen o) := by
  have hl : ∀ l, ((normsT l).length : Int) = l.length := fun l => by simp [normsT]
  obtain ⟨k, n, l, e⟩ := o
  rw [rightOp] at hr
  rw [nrmOp_at]
  simp only [opLen]
  split at hr
  · rename_i hk
    subst hk
    rw [if_pos rfl]
    simp only [Bool.and_eq_true, decide_eq_true_eq] at hr
    have := sum_keep w n
    simp
    omega
  · rename_i hk
    rw [if_neg hk]
    split at hr
    · cases hr
    · rename_i hn
      split at hr
      · rename_i h3
        by_cases k1 : k = 1
        · subst k1
          rw [if_pos rfl]
          simp only [sA, sB, List.length_append]
          simp [hl]
          omega
        · have k2 : k = 2 := by omega
          subst k2
          rw [if_neg k1, if_pos rfl]
          simp only [sA, sB, List.length_append]
          simp [hl]
          omega
      · rename_i h3
        have k3 : k = 3 := by omega
        subst k3
        rw [if_neg (by omega), if_neg (by omega), if_pos rfl]
        split
        · have := sum_keep w 1
          simp
          omega
        · have := sum_flush w
          simp only [sA, sB, sumA_app, sumB_app, sumA, sumB, opLen] at this ⊢
          simp
          omega

mutual
theorem rightE_nrm : ∀ (e : Edit) (d : Int), rightE e d = true → rightE (nrmE e) d = true
  | .mk k o n w ks l os, d, h => by
    have h1 := rightKs_nrm ks
    have h2 := okW_nrm l os
    have h4 := sum_nrm l os
    rw [rightE] at h
    split at h
    · cases h
    · rename_i a
      split at h
      · cases h
      · rename_i b
        have nn : noneT Tree.nil = true := rfl
        by_cases k1 : k = 1
        · subst k1
          rw [if_pos rfl] at h
          have hl : l = 0 := by
            apply Classical.byContradiction
            intro hl
            exact b (.inr (.inr ⟨by decide, .inl hl⟩))
          simp only [Bool.and_eq_true, decide_eq_true_eq] at h
          rw [nrmE, if_pos rfl, rightE, if_neg a, if_neg (by simp [hl]), if_pos rfl]
          simp only [Bool.and_eq_true, decide_eq_true_eq]
          rw [kind_norm, kind_norm]
          exact ⟨⟨rightT_norm _ _ h.1.1, rightT_norm _ _ h.1.2⟩, h.2⟩
        · rw [if_neg k1] at h
          simp only [Bool.and_eq_true, decide_eq_true_eq] at h
          obtain ⟨⟨⟨⟨x1, x2⟩, x3⟩, x4⟩, x5⟩ := h
          rw [nrmE, if_neg k1]
          by_cases k2 : k = 2
          · have hl : l = 0 := by
              apply Classical.byContradiction
              intro hl
              exact b (.inr (.inr ⟨by omega, .inl hl⟩))
            rw [if_pos k2, rightE, if_neg a, if_neg (by simp [nn, hl, k2]), if_neg k1]
            simp only [Bool.and_eq_true, decide_eq_true_eq]
            exact ⟨⟨⟨⟨x1, h1 _ _ x2⟩, x3⟩, rfl⟩, by decide⟩
          · rw [if_neg k2]
            by_cases k3 : k = 3
            · rw [if_pos k3, rightE, if_neg a, if_neg (by simp [nn, k3]), if_neg k1]
              simp only [Bool.and_eq_true, decide_eq_true_eq]
              have hall := rightOs_all.1 x4
              obtain ⟨y1, y2⟩ := lenA_sum os 0 (fun o ho => rOp_len (rOp_of (hall o ho))) (by decide) (by decide)
              obtain ⟨z1, z2⟩ := lenB_sum os 0 (fun o ho => rOp_len (rOp_of (hall o ho))) (by decide) (by decide)
              have hw := h2 (d - 1) W0 x4 ⟨fun o ho => (by cases ho), rfl, rfl⟩
              have hs := h4 (d - 1) W0 x4
              have hff := okW_flush hw
              have hsf := sum_flush (nrmOs l os W0)
              have e0 : sA W0 = 0 ∧ sB W0 = 0 := ⟨rfl, rfl⟩
              have hA := lenA_sum (flushW (nrmOs l os W0)).out 0 (fun o ho => rOp_len (hff.out o ho)) (by decide) (by decide)
              have hB := lenB_sum (flushW (nrmOs l os W0)).out 0 (fun o ho => rOp_len (hff.out o ho)) (by decide) (by decide)
              refine ⟨⟨⟨⟨rfl, rfl⟩, x3⟩, rightOs_all.2 (fun o ho => rOp_to (hff.out o ho) (fun hk => ?_))⟩, ?_, ?_⟩
              · have hm := sumA_mem (fun o ho => rOp_len (hff.out o ho)) ho (by omega)
                unfold opLen at hm
                rw [if_neg (by omega)] at hm
                omega
              · show lenA (flushW (nrmOs l os W0)).out 0 < 1048576
                omega
              · show lenB (flushW (nrmOs l os W0)).out 0 < 1048576
                omega
            · have hl : l = 0 := by
                apply Classical.byContradiction
                intro hl
                exact b (.inr (.inr ⟨k3, .inl hl⟩))
              rw [if_neg k3, rightE, if_neg a, if_neg (by simp [nn, hl]), if_neg k1]
              simp only [Bool.and_eq_true, decide_eq_true_eq]
              exact ⟨⟨⟨⟨rfl, rfl⟩, x3⟩, rfl⟩, by decide⟩
theorem rightKs_nrm : ∀ (ks : List (KidOf Edit)) (last d : Int), rightKs last ks d = true → rightKs last (nrmKs ks) d = true
  | [], _, _, _ => rfl
  | k :: r, last, d, h => by
    simp only [rightKs, Bool.and_eq_true] at h
    have h1 := rightKid_nrm k last d h.1
    have h2 := rightKs_nrm r k.at_ d h.2
    simp only [nrmKs, rightKs, Bool.and_eq_true]
    exact ⟨h1, by rw [nrmKid_at]; exact h2⟩
theorem rightKid_nrm : ∀ (k : KidOf Edit) (last d : Int), rightKid last k d = true → rightKid last (nrmKid k) d = true
  | ⟨a, e⟩, last, d, h => by
    simp only [rightKid, Bool.and_eq_true] at h
    have h1 := rightE_nrm e d h.2
    simp only [nrmKid, rightKid, Bool.and_eq_true]
    rw [nrmE_kind]
    exact ⟨h.1, h1⟩
theorem okW_nrm (list : Int) : ∀ (os : List (OpOf Edit)) (d : Int) (w : Wst), rightOs list os d = true → OkW list d w → OkW list d (nrmOs list os w)
  | [], _, _, _, hw => hw
  | o :: r, d, w, h, hw => by
    simp only [rightOs, Bool.and_eq_true] at h
    have h1 := okW_nrmOp list o d w h.1 hw
    exact okW_nrm list r d _ h.2 h1
theorem okW_nrmOp (list : Int) : ∀ (o : OpOf Edit) (d : Int) (w : Wst), rightOp list o d = true → OkW list d w → OkW list d (nrmOp list o w)
  | ⟨k, n, l, e⟩, d, w, h, hw => okW_op (o := ⟨k, n, l, e⟩) hw h (fun he => rightE_nrm e d he)
theorem sum_nrm (list : Int) : ∀ (os : List (OpOf Edit)) (d : Int) (w : Wst), rightOs list os d = true → sA (nrmOs list os w) = sA w + sumA os ∧ sB (nrmOs list os w) = sB w + sumB os
  | [], _, _, _ => by simp [nrmOs, sumA, sumB]
  | o :: r, d, w, h => by
    simp only [rightOs, Bool.and_eq_true] at h
    have h1 := sum_op (w := w) h.1
    have h2 := sum_nrm list r d (nrmOp list o w) h.2
    simp only [nrmOs, sumA, sumB]
    omega
end

end Go.AM.Ytlahjnelghpmeaa

namespace Go.AM.Ytlahjnelghpmeaa
open Go.AM Go.Proofs

theorem good_in {e : Edit} (h : good e = true) : massE e ≤ 3000 ∧ rightE e 64 = true := by
  simp only [good, Bool.and_eq_true, decide_eq_true_eq] at h
  exact ⟨few_massE h.1.1, h.1.2⟩

theorem c38 : Contract Try.prog cfg 38 spec38 := by
  refine make38 c40_76.2 ?_
  intro _ _
  refine vc38 _ ?_
  rintro y1 hy1 y2 hy2 y3 hy3 y4 hy4 y5 hy5
  have e2 : (flushW y2).out = [⟨1, 0, [Tree.mk 10 [2] []], Edit.nil⟩, ⟨2, 0, [Tree.mk 10 [1] []], Edit.nil⟩, ⟨0, 3, [], Edit.nil⟩] := by
    rw [hy2]
    rfl
  rw [e2] at hy3 hy4 hy5 ⊢
  have k3 : y3.kind = 1 := by rw [hy3]; rfl
  have k4 : y4.kind = 2 := by rw [hy4]; rfl
  have k5 : y5.kind = 0 ∧ y5.n = 3 := by rw [hy5]; exact ⟨rfl, rfl⟩
  rw [k3, k4, k5.1, k5.2]
  refine ⟨?_, ?_, ?_, ?_, ?_, ends_bool rfl rfl⟩
  · rw [hy1]
    simp only [pre76]
    refine ⟨by decide, fun o ho => ⟨64, ?_⟩⟩
    rcases List.mem_cons.1 ho with rfl | ho
    · rfl
    rcases List.mem_cons.1 ho with rfl | ho
    · rfl
    rcases List.mem_cons.1 ho with rfl | ho
    · rfl
    rcases List.mem_cons.1 ho with rfl | ho
    · rfl
    · cases ho
  all_goals simp

theorem c9 : Contract Try.prog cfg 9 spec9 := by
  refine make9 c37 c38 c39 c40_76.1 c43 ?_
  intro e _ hp
  simp only [pre9] at hp
  refine vc9 _ _ ?_
  rintro y1 hy1 y2 hy2 y3 hy3
  subst hy1
  refine ⟨by simp only [pre37]; exact hp, fun hg => ⟨trivial, ends_bool rfl rfl⟩, fun hg => ?_⟩
  have hg : good y1 = true := by simpa using hg
  obtain ⟨hm, hr⟩ := good_in hg
  have hm2 := massE_nrm y1
  have hr2 := rightE_nrm _ _ hr
  have hi := nrmE_idem y1
  have hc := countE_nrm y1
  rw [← hy2] at hm2 hr2 hi hc
  rw [← hy3] at hi
  refine ⟨by simp only [pre40]; exact ⟨by omega, 64, hr⟩, by simp only [pre40]; exact ⟨by omega, 64, hr2⟩, by simp only [pre39]; rw [hi]; omega, fun _ => by simp only [pre43]; omega, fun _ => by simp only [pre43]; omega, fun _ => trivial, ends_bool rfl ?_⟩
  rw [hi]
  simp
  exact hc

end Go.AM.Ytlahjnelghpmeaa
