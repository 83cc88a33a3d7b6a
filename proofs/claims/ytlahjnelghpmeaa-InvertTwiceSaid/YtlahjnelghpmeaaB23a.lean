/- The Norm of a right tree is right. -/
import Derived.Test.YtlahjnelghpmeaaL23b
import Derived.Test.YtlahjnelghpmeaaB22c
import Derived.Test.YtlahjnelghpmeaaB20c
import Derived.Test.YtlahjnelghpmeaaM07
set_option linter.unusedSimpArgs false
set_option linter.unusedVariables false
namespace Go.AM.Ytlahjnelghpmeaa
open Go.AM Go.Proofs

theorem kind_norm (t : Tree) : (normT t).kind = t.kind := by
  obtain ⟨k, w, ks⟩ := t
  simp only [normT]
  by_cases h0 : k = 0
  · rw [if_pos h0, h0]; rfl
  · rw [if_neg h0]
    by_cases h1 : k = 1
    · rw [if_pos h1, h1]; rfl
    · rw [if_neg h1]; rfl

theorem trim_pre : ∀ (l : List Int), ∃ r, l = trim l ++ r
  | [] => ⟨[], rfl⟩
  | x :: r => by
    obtain ⟨s, hs⟩ := trim_pre r
    simp only [trim]
    split
    · rename_i e
      split
      · exact ⟨x :: r, rfl⟩
      · exact ⟨r, rfl⟩
    · rename_i y t e
      rw [e] at hs
      exact ⟨s, by rw [hs]; rfl⟩

theorem trimK_pre : ∀ (l : List Tree), ∃ r, l = trimK l ++ r
  | [] => ⟨[], rfl⟩
  | x :: r => by
    obtain ⟨s, hs⟩ := trimK_pre r
    simp only [trimK]
    split
    · rename_i e
      split
      · exact ⟨x :: r, rfl⟩
      · exact ⟨r, rfl⟩
    · rename_i y t e
      rw [e] at hs
      exact ⟨s, by rw [hs]; rfl⟩

theorem rightK_pre {list d : Int} : ∀ (a b : List Tree), rightK list (a ++ b) d = true → rightK list a d = true
  | [], _, _ => rfl
  | t :: r, b, h => by
    simp only [List.cons_append, rightK, Bool.and_eq_true] at h ⊢
    exact ⟨h.1, rightK_pre r b h.2⟩

theorem normK_length : ∀ (l : List Tree), (normK l).length = l.length
  | [] => rfl
  | t :: r => by simp only [normK, List.length_cons, normK_length r]

theorem kidB_norm {list : Int} {t : Tree} (h : kidB list t = true) : kidB list (normT t) = true := by
  unfold kidB at h ⊢
  rw [kind_norm]
  split at h
  · rename_i hl
    rw [if_pos hl]
    simp only [Bool.and_eq_true, decide_eq_true_eq] at h ⊢
    obtain ⟨⟨h1, h2, h3⟩, h4⟩ := h
    obtain ⟨k, w, ks⟩ := t
    simp only [Tree.kind_mk, Tree.kids_mk, Tree.words_mk] at h1 h2 h3 h4
    have : ks = [] := List.length_eq_zero_iff.1 h2
    subst this
    subst h1
    exact ⟨⟨rfl, rfl, h3⟩, h4⟩
  · rename_i hl
    rw [if_neg hl]
    exact h

mutual
theorem rightT_norm : ∀ (t : Tree) (d : Int), rightT t d = true → rightT (normT t) d = true
  | .mk k w ks, d, h => by
    have ih := fun (list : Int) (h : rightK list ks (d - 1) = true) => rightK_norm ks list (d - 1) h
    simp only [rightT] at h
    simp only [normT]
    by_cases h0 : k = 0
    · rw [if_pos h0]; simp [Tree.nil, rightT]
    · rw [if_neg h0] at h ⊢
      by_cases h10 : k = 10
      · subst h10
        rw [if_pos rfl] at h
        rw [if_neg (by decide)]
        simp only [decide_eq_true_eq] at h
        simp only [rightT]
        rw [if_neg (by decide), if_pos trivial, normK_length]
        simpa using h
      · rw [if_neg h10] at h
        by_cases hd : d = 0
        · rw [if_pos hd] at h; cases h
        · rw [if_neg hd] at h
          by_cases h1 : k = 1
          · subst h1
            rw [if_pos rfl] at h
            rw [if_pos rfl]
            simp only [Bool.and_eq_true, decide_eq_true_eq] at h
            simp only [rightT]
            rw [if_neg (by decide), if_neg (by decide), if_neg hd, if_pos trivial]
            simp only [Bool.and_eq_true, decide_eq_true_eq]
            obtain ⟨r1, e1⟩ := trim_pre w
            obtain ⟨r2, e2⟩ := trimK_pre (normK ks)
            have l1 := congrArg List.length e1
            have l2 := congrArg List.length e2
            rw [normK_length] at l2
            simp only [List.length_append] at l1 l2
            refine ⟨⟨by omega, by omega⟩, ?_⟩
            have := ih 1 h.2
            rw [e2] at this
            exact rightK_pre _ _ this
          · rw [if_neg h1] at h ⊢
            simp only [Bool.and_eq_true, decide_eq_true_eq] at h
            simp only [rightT]
            rw [if_neg h0, if_neg h10, if_neg hd, if_neg h1, normK_length]
            simp only [Bool.and_eq_true, decide_eq_true_eq]
            exact ⟨h.1, ih k h.2⟩
theorem rightK_norm : ∀ (l : List Tree) (list d : Int), rightK list l d = true → rightK list (normK l) d = true
  | [], _, _, _ => rfl
  | t :: r, list, d, h => by
    simp only [rightK, Bool.and_eq_true] at h
    have h1 := rightT_norm t d h.1.2
    have h2 := rightK_norm r list d h.2
    simp only [normK, rightK, Bool.and_eq_true]
    exact ⟨⟨kidB_norm h.1.1, h1⟩, h2⟩
end

end Go.AM.Ytlahjnelghpmeaa

namespace Go.AM.Ytlahjnelghpmeaa
open Go.AM Go.Proofs

theorem turnE_kind (e : Edit) : (turnE e).kind = e.kind := by cases e; rfl
theorem turnE_old (e : Edit) : (turnE e).old = e.new := by cases e; rfl
theorem turnE_new (e : Edit) : (turnE e).new = e.old := by cases e; rfl

theorem wordsOk_turn : ∀ (l : List WEdit) (last : Int), wordsOk last (l.map turnW) = wordsOk last l
  | [], _ => rfl
  | w :: r, last => by
    simp only [List.map_cons, wordsOk, wordsOk_turn r]
    have h1 : (turnW w).at_ = w.at_ := rfl
    have h2 : (turnW w).mask = w.mask := rfl
    have h3 : (turnW w).old = w.new := rfl
    have h4 : (turnW w).new = w.old := rfl
    rw [h1, h2, h3, h4, Bool.and_assoc, Bool.and_assoc, Bool.and_assoc, Bool.and_assoc]
    congr 1
    rw [← Bool.and_assoc, ← Bool.and_assoc, Bool.and_comm (withinW w.new w.mask)]

theorem turnOp_len (o : Op) : opLen (turnOp o) = opLen o ∧ ((turnOp o).kind = 2 ↔ o.kind = 1) ∧ ((turnOp o).kind = 1 ↔ o.kind = 2) := by
  rw [turnOp_at]
  by_cases h1 : o.kind = 1
  · rw [if_pos h1]; simp [opLen, h1]
  · rw [if_neg h1]
    by_cases h2 : o.kind = 2
    · rw [if_pos h2]; simp [opLen, h2]
    · rw [if_neg h2]
      by_cases h3 : o.kind = 3
      · rw [if_pos h3]; simp [opLen, h3]
      · rw [if_neg h3]; simp [opLen, h1, h2]

theorem len_turn : ∀ (l : List Op) (n : Int), lenA (turnOs l) n = lenB l n ∧ lenB (turnOs l) n = lenA l n
  | [], _ => ⟨rfl, rfl⟩
  | o :: r, n => by
    obtain ⟨h1, h2, h3⟩ := turnOp_len o
    simp only [turnOs, lenA, lenB]
    rw [h1]
    constructor
    · rw [(len_turn r _).1]
      congr 2
      by_cases h : o.kind = 1
      · rw [if_pos (h2.2 h), if_pos h]
      · rw [if_neg (fun x => h (h2.1 x)), if_neg h]
    · rw [(len_turn r _).2]
      congr 2
      by_cases h : o.kind = 2
      · rw [if_pos (h3.2 h), if_pos h]
      · rw [if_neg (fun x => h (h3.1 x)), if_neg h]

theorem turnOs_len : ∀ (l : List Op), (turnOs l).length = l.length
  | [] => rfl
  | o :: r => by simp only [turnOs, List.length_cons, turnOs_len r]

theorem op_turn {list d : Int} {o : Op} (h : rightOp list o d = true) (hi : rightE o.e d = true → rightE (turnE o.e) d = true) : rightOp list (turnOp o) d = true := by
  have h' := h
  rw [rightOp_at] at h
  by_cases k0 : o.kind = 0
  · have e : turnOp o = o := by rw [turnOp_at, if_neg (by omega), if_neg (by omega), if_neg (by omega)]
    rw [e]; exact h'
  · rw [if_neg k0] at h
    split at h
    · cases h
    · rename_i hk
      by_cases k3 : o.kind = 3
      · rw [if_neg (by omega)] at h
        have e : turnOp o = ⟨o.kind, o.n, o.l, turnE o.e⟩ := by rw [turnOp_at, if_neg (by omega), if_neg (by omega), if_pos k3]
        rw [e, rightOp_at]
        simp only
        rw [if_neg k0, if_neg hk, if_neg (by omega), turnE_kind, turnE_old, turnE_new]
        simp only [Bool.and_eq_true, decide_eq_true_eq] at h ⊢
        refine ⟨⟨h.1.1, hi h.1.2⟩, ?_⟩
        omega
      · rw [if_pos (by omega)] at h
        have hk' : o.kind = 1 ∨ o.kind = 2 := by omega
        rcases hk' with k | k
        · have e : turnOp o = ⟨2, o.n, o.l, o.e⟩ := by rw [turnOp_at, if_pos k]
          rw [e, rightOp_at]
          simp only
          rw [if_neg (by decide), if_neg (by omega), if_pos (by decide)]
          exact h
        · have e : turnOp o = ⟨1, o.n, o.l, o.e⟩ := by rw [turnOp_at, if_neg (by omega), if_pos k]
          rw [e, rightOp_at]
          simp only
          rw [if_neg (by decide), if_neg (by omega), if_pos (by decide)]
          exact h

mutual
theorem rightE_turn : ∀ (e : Edit) (d : Int), rightE e d = true → rightE (turnE e) d = true
  | .mk k o n w ks l os, d, h => by
    have h1 := rightKs_turn ks
    have h2 := rightOs_turn l os
    simp only [rightE] at h
    simp only [turnE, rightE]
    split at h
    · cases h
    · rename_i a
      rw [if_neg a]
      split at h
      · cases h
      · rename_i b
        rw [if_neg (by rw [List.length_map, turnKs_len, turnOs_len]; intro hc; apply b; rcases hc with x | x | x; exact Or.inl ⟨x.1, fun y => x.2 ⟨y.2, y.1⟩⟩; exact Or.inr (Or.inl x); exact Or.inr (Or.inr x))]
        split at h
        · rename_i c
          rw [if_pos c]
          simp only [Bool.and_eq_true, decide_eq_true_eq] at h ⊢
          exact ⟨⟨h.1.2, h.1.1⟩, h.2.2, h.2.1⟩
        · rename_i c
          rw [if_neg c]
          simp only [Bool.and_eq_true, decide_eq_true_eq] at h ⊢
          obtain ⟨⟨⟨⟨x1, x2⟩, x3⟩, x4⟩, x5⟩ := h
          refine ⟨⟨⟨⟨by rw [wordsOk_turn]; exact x1, h1 _ _ x2⟩, x3⟩, h2 _ x4⟩, ?_⟩
          rw [(len_turn os 0).1, (len_turn os 0).2]
          exact ⟨x5.2, x5.1⟩
theorem rightKs_turn : ∀ (ks : List (KidOf Edit)) (last d : Int), rightKs last ks d = true → rightKs last (turnKs ks) d = true
  | [], _, _, _ => rfl
  | k :: r, last, d, h => by
    simp only [rightKs, Bool.and_eq_true] at h
    have h1 := rightKid_turn k last d h.1
    have h2 := rightKs_turn r k.at_ d h.2
    simp only [turnKs, rightKs, Bool.and_eq_true]
    exact ⟨h1, by rw [turnKid_at]; exact h2⟩
theorem rightKid_turn : ∀ (k : KidOf Edit) (last d : Int), rightKid last k d = true → rightKid last (turnKid k) d = true
  | ⟨a, e⟩, last, d, h => by
    simp only [rightKid, Bool.and_eq_true] at h
    have h1 := rightE_turn e d h.2
    simp only [turnKid, rightKid, Bool.and_eq_true]
    rw [turnE_kind]
    exact ⟨h.1, h1⟩
theorem rightOs_turn (list : Int) : ∀ (os : List (OpOf Edit)) (d : Int), rightOs list os d = true → rightOs list (turnOs os) d = true
  | [], _, _ => rfl
  | o :: r, d, h => by
    simp only [rightOs, Bool.and_eq_true] at h
    have h1 := rightOp_turn list o d h.1
    have h2 := rightOs_turn list r d h.2
    simp only [turnOs, rightOs, Bool.and_eq_true]
    exact ⟨h1, h2⟩
theorem rightOp_turn (list : Int) : ∀ (o : OpOf Edit) (d : Int), rightOp list o d = true → rightOp list (turnOp o) d = true
  | ⟨k, n, l, e⟩, d, h => op_turn (o := ⟨k, n, l, e⟩) h (fun he => rightE_turn e d he)
end

end Go.AM.Ytlahjnelghpmeaa

namespace Go.AM.Ytlahjnelghpmeaa
open Go.AM Go.Proofs


theorem massK_app : ∀ (a b : List Tree), massK (a ++ b) = massK a + massK b
  | [], b => by simp [massK]
  | t :: r, b => by simp only [List.cons_append, massK, massK_app r b]; omega
theorem massOs_app : ∀ (a b : List Op), massOs (a ++ b) = massOs a + massOs b
  | [], b => by simp [massOs]
  | t :: r, b => by simp only [List.cons_append, massOs, massOs_app r b]; omega
theorem massK_norms : ∀ (l : List Tree), massK (normsT l) ≤ massK l
  | [] => by simp [normsT, massK]
  | t :: r => by
    have h := massK_norms r
    have h2 := normT_mass t
    simp only [normsT] at h
    simp only [normsT, List.map_cons, massK]
    omega
theorem mass_nilE : massE Edit.nil = 3 := by simp [Edit.nil, Tree.nil, massE, mass, massK, massKs, massOs]
theorem mass_nilT : mass Tree.nil = 1 := by simp [Tree.nil, mass, massK]
theorem mass_pos' (t : Tree) : 1 ≤ mass t := by cases t; simp only [mass]; omega
theorem massE_three : ∀ (e : Edit), 3 ≤ massE e
  | .mk k o n w ks l os => by
    have h1 := mass_pos' o
    have h2 := mass_pos' n
    simp only [massE]; omega

def potW (w : Wst) : Nat := massOs w.out + w.out.length + massK w.gone + massK w.brought + (if w.gone.length = 0 then 0 else 4) + (if w.brought.length = 0 then 0 else 4)

theorem massOs_one (o : Op) : massOs [o] = massOp o := by simp [massOs]
theorem massOp_mk (k n : Int) (l : List Tree) (e : Edit) : massOp (OpOf.mk k n l e) = massK l + massE e := rfl

theorem pot_flush (w : Wst) : massOs (flushW w).out + (flushW w).out.length = potW w := by
  simp only [flushW, flushO, potW]
  rw [massOs_app, massOs_app, List.length_append, List.length_append]
  by_cases hg : w.gone.length = 0
  · have e : w.gone = [] := List.length_eq_zero_iff.1 hg
    rw [if_pos hg, if_pos hg, e]
    by_cases hb : w.brought.length = 0
    · have e2 : w.brought = [] := List.length_eq_zero_iff.1 hb
      rw [if_pos hb, if_pos hb, e2]; simp [massOs, massK]
    · rw [if_neg hb, if_neg hb, massOs_one, massOp_mk, mass_nilE]; simp [massOs, massK]; omega
  · rw [if_neg hg, if_neg hg, massOs_one, massOp_mk, mass_nilE]
    by_cases hb : w.brought.length = 0
    · have e2 : w.brought = [] := List.length_eq_zero_iff.1 hb
      rw [if_pos hb, if_pos hb, e2]; simp [massOs, massK]; omega
    · rw [if_neg hb, if_neg hb, massOs_one, massOp_mk, mass_nilE]; simp; omega

theorem pot_keep (w : Wst) (n : Int) : potW (keepW w n) ≤ potW w + 4 := by
  have h := pot_flush w
  have e : potW (keepW w n) = massOs (keepO (flushW w).out n) + (keepO (flushW w).out n).length := by simp [potW, keepW, massK]
  rw [e]
  rcases keepO_cases (flushW w).out n with e | ⟨a, o, e1, _, e3⟩
  · rw [e, massOs_app, List.length_append, massOs_one, massOp_mk, mass_nilE]; simp [massK]; omega
  · rw [e3, massOs_app, List.length_append, massOs_one]
    rw [e1, massOs_app, List.length_append, massOs_one] at h
    obtain ⟨k, m, l, e⟩ := o
    simp only [massOp_mk] at h ⊢
    simp at h ⊢
    omega

theorem pot_op {list : Int} {w : Wst} {o : Op} (hi : massE (nrmE o.e) ≤ massE o.e) : potW (nrmOp list o w) ≤ potW w + massOp o + 1 := by
  have h3 := massE_three o.e
  have hm : massOp o = massK o.l + massE o.e := by cases o; rfl
  have hn := massK_norms o.l
  have hl : (normsT o.l).length = o.l.length := by simp [normsT]
  rw [nrmOp_at]
  split
  · have := pot_keep w o.n; omega
  · split
    · simp only [potW, massK_app, List.length_append, hl]
      split <;> split <;> split <;> omega
    · split
      · simp only [potW, massK_app, List.length_append, hl]
        split <;> split <;> split <;> omega
      · split
        · split
          · have := pot_keep w 1; omega
          · have := pot_flush w
            have e : potW ⟨(flushW w).out ++ [⟨3, 0, [], nrmE o.e⟩], [], []⟩ = massOs ((flushW w).out ++ [(⟨3, 0, [], nrmE o.e⟩ : Op)]) + ((flushW w).out ++ [(⟨3, 0, [], nrmE o.e⟩ : Op)]).length := by simp [potW, massK]
            rw [e, massOs_app, List.length_append, massOs_one, massOp_mk]
            simp [massK]; omega
        · omega

mutual
theorem massE_nrm : ∀ (e : Edit), massE (nrmE e) ≤ massE e
  | .mk k o n w ks l os => by
    have h1 := massKs_nrm ks
    have h2 := pot_nrm l os W0
    have h3 := pot_flush (nrmOs l os W0)
    have e0 : potW W0 = 0 := rfl
    have po := mass_pos' o
    have pn := mass_pos' n
    have mo := normT_mass o
    have mn := normT_mass n
    rw [nrmE]
    split
    · simp only [massE, massKs, massOs, List.length_nil]; omega
    · split
      · simp only [massE, massKs, massOs, List.length_nil, mass_nilT]; omega
      · split
        · simp only [massE, massKs, List.length_nil, mass_nilT]
          show 1 + 1 + 1 + 0 + (flushW (nrmOs l os W0)).out.length + 0 + massOs (flushW (nrmOs l os W0)).out ≤ _
          omega
        · simp only [massE, massKs, massOs, List.length_nil, mass_nilT]; omega
theorem massKs_nrm : ∀ (ks : List (KidOf Edit)), massKs (nrmKs ks) ≤ massKs ks
  | [] => Nat.le_refl _
  | k :: r => by
    have h1 := massKid_nrm k
    have h2 := massKs_nrm r
    simp only [nrmKs, massKs]; omega
theorem massKid_nrm : ∀ (k : KidOf Edit), massKid (nrmKid k) ≤ massKid k
  | ⟨a, e⟩ => by
    have h := massE_nrm e
    simp only [nrmKid, massKid]; exact h
theorem pot_nrm (list : Int) : ∀ (os : List (OpOf Edit)) (w : Wst), potW (nrmOs list os w) ≤ potW w + massOs os + os.length
  | [], w => by simp [nrmOs, massOs]
  | o :: r, w => by
    have h1 := pot_nrmOp list o w
    have h2 := pot_nrm list r (nrmOp list o w)
    simp only [nrmOs, massOs, List.length_cons]; omega
theorem pot_nrmOp (list : Int) : ∀ (o : OpOf Edit) (w : Wst), potW (nrmOp list o w) ≤ potW w + massOp o + 1
  | ⟨k, n, l, e⟩, _ => pot_op (o := ⟨k, n, l, e⟩) (massE_nrm e)
end

end Go.AM.Ytlahjnelghpmeaa

namespace Go.AM.Ytlahjnelghpmeaa
open Go.AM Go.Proofs

end Go.AM.Ytlahjnelghpmeaa

namespace Go.AM.Ytlahjnelghpmeaa
open Go.AM Go.Proofs

theorem nrmE_kind (e : Edit) : (nrmE e).kind = e.kind := by
  rw [nrmE_at]
  split
  · rfl
  · split
    · rfl
    · split <;> rfl

theorem nrmE_old (e : Edit) (h : e.kind = 1) : (nrmE e).old = normT e.old ∧ (nrmE e).new = normT e.new := by
  rw [nrmE_at, if_pos h]
  exact ⟨rfl, rfl⟩

theorem rightT_one {list : Int} {t : Tree} (h : rightT (.mk list [] [t]) 64 = true) : rightT (.mk list [] [normT t]) 64 = true := by
  have key := fun (k d : Int) (h : rightK k [t] d = true) => rightK_norm [t] k d h
  simp only [normK] at key
  simp only [rightT] at h ⊢
  split at h
  · simp at h
  · rename_i h0
    rw [if_neg h0]
    split at h
    · simp at h
    · rename_i h1
      rw [if_neg h1]
      rw [if_neg (by decide)] at h ⊢
      split at h
      · rename_i h2
        rw [if_pos h2]
        simp only [Bool.and_eq_true] at h ⊢
        exact ⟨h.1, key _ _ h.2⟩
      · rename_i h2
        rw [if_neg h2]
        simp only [Bool.and_eq_true] at h ⊢
        exact ⟨h.1, key _ _ h.2⟩

theorem treesOk_norms {list : Int} : ∀ {l : List Tree}, treesOk list l = true → treesOk list (normsT l) = true
  | [], _ => rfl
  | t :: r, h => by
    simp only [treesOk, Bool.and_eq_true] at h
    have h2 := treesOk_norms h.2
    simp only [normsT] at h2
    simp only [normsT, List.map_cons, treesOk, Bool.and_eq_true]
    exact ⟨rightT_one h.1, h2⟩
theorem treesOk_app {list : Int} : ∀ {a b : List Tree}, treesOk list a = true → treesOk list b = true → treesOk list (a ++ b) = true
  | [], _, _, h => h
  | t :: r, b, h, h2 => by
    simp only [treesOk, Bool.and_eq_true] at h
    simp only [List.cons_append, treesOk, Bool.and_eq_true]
    exact ⟨h.1, treesOk_app h.2 h2⟩

def rOp (list : Int) (d : Int) (o : Op) : Prop := (o.kind = 0 → 1 ≤ o.n ∧ o.l.length = 0 ∧ sameE o.e = true) ∧ (o.kind ≠ 0 → rightOp list o d = true)

theorem rOp_of {list d : Int} {o : Op} (h : rightOp list o d = true) : rOp list d o := by
  refine ⟨fun hk => ?_, fun _ => h⟩
  obtain ⟨k, n, l, e⟩ := o
  simp only at hk
  subst hk
  simp only [rightOp, if_true, Bool.and_eq_true, decide_eq_true_eq] at h
  exact ⟨h.1.1, h.1.2.2, h.2⟩
theorem rOp_to {list d : Int} {o : Op} (h : rOp list d o) (hn : o.kind = 0 → o.n ≤ 1048576) : rightOp list o d = true := by
  by_cases hk : o.kind = 0
  · have h1 := h.1 hk
    have h2 := hn hk
    obtain ⟨k, n, l, e⟩ := o
    simp only at hk h1 h2
    subst hk
    simp only [rightOp, if_true, Bool.and_eq_true, decide_eq_true_eq]
    exact ⟨⟨h1.1, h2, h1.2.1⟩, h1.2.2⟩
  · exact h.2 hk

theorem rightOs_all {list : Int} : ∀ {os : List Op} {d : Int}, rightOs list os d = true ↔ ∀ o ∈ os, rightOp list o d = true
  | [], d => by simp [rightOs]
  | o :: r, d => by
    simp only [rightOs, Bool.and_eq_true, List.mem_cons, forall_eq_or_imp]
    rw [rightOs_all (os := r)]

theorem sameE_none : sameE Edit.nil = true := rfl

structure OkW (list d : Int) (w : Wst) : Prop where
  out : ∀ o ∈ w.out, rOp list d o
  gone : treesOk list w.gone = true
  brought : treesOk list w.brought = true

theorem okW_flush {list d : Int} {w : Wst} (h : OkW list d w) : OkW list d (flushW w) := by
  refine ⟨?_, rfl, rfl⟩
  simp only [flushW, flushO]
  intro o ho
  rcases List.mem_append.1 ho with ho | ho
  · exact h.out o ho
  rcases List.mem_append.1 ho with ho | ho
  · split at ho
    · cases ho
    · rename_i hl
      simp only [List.mem_singleton] at ho
      subst ho
      refine ⟨fun hk => (by cases hk), fun _ => ?_⟩
      simp only [rightOp]
      rw [if_neg (by decide), if_neg (by decide), if_pos (by decide), h.gone, sameE_none]
      simp only [Bool.and_true, Bool.true_and, decide_eq_true_eq]
      omega
  · split at ho
    · cases ho
    · rename_i hl
      simp only [List.mem_singleton] at ho
      subst ho
      refine ⟨fun hk => (by cases hk), fun _ => ?_⟩
      simp only [rightOp]
      rw [if_neg (by decide), if_neg (by decide), if_pos (by decide), h.brought, sameE_none]
      simp only [Bool.and_true, Bool.true_and, decide_eq_true_eq]
      omega

theorem okW_keep {list d : Int} {w : Wst} {n : Int} (h : OkW list d w) (hn : 1 ≤ n) : OkW list d (keepW w n) := by
  have hf := okW_flush h
  refine ⟨?_, rfl, rfl⟩
  simp only [keepW]
  intro o ho
  rcases keepO_cases (flushW w).out n with e | ⟨a, q, e1, e2, e3⟩
  · rw [e] at ho
    rcases List.mem_append.1 ho with ho | ho
    · exact hf.out o ho
    · simp only [List.mem_singleton] at ho
      subst ho
      exact ⟨fun _ => ⟨hn, rfl, sameE_none⟩, fun hk => absurd rfl hk⟩
  · rw [e3] at ho
    rcases List.mem_append.1 ho with ho | ho
    · exact hf.out o (by rw [e1]; exact List.mem_append.2 (Or.inl ho))
    · simp only [List.mem_singleton] at ho
      subst ho
      have hq := (hf.out q (by rw [e1]; simp)).1 e2
      exact ⟨fun _ => ⟨by simp only; omega, hq.2⟩, fun hk => absurd e2 hk⟩

theorem okW_op {list d : Int} {w : Wst} {o : Op} (h : OkW list d w) (hr : rightOp list o d = true) (hi : rightE o.e d = true → rightE (nrmE o.e) d = true) : OkW list d (nrmOp list o w) := by
  obtain ⟨k, n, l, e⟩ := o
  have hr0 := hr
  rw [rightOp] at hr
  rw [nrmOp_at]
  simp only at hi ⊢
  split at hr
  · rename_i hk
    rw [if_pos hk]
    simp only [Bool.and_eq_true, decide_eq_true_eq] at hr
    exact okW_keep h hr.1.1
  · rename_i hk
    rw [if_neg hk]
    split at hr
    · cases hr
    · rename_i hn
      split at hr
      · rename_i h3
        simp only [Bool.and_eq_true, decide_eq_true_eq] at hr
        by_cases k1 : k = 1
        · rw [if_pos k1]
          exact ⟨h.out, treesOk_app h.gone (treesOk_norms hr.1.1), h.brought⟩
        · rw [if_neg k1, if_pos (by omega)]
          exact ⟨h.out, h.gone, treesOk_app h.brought (treesOk_norms hr.1.1)⟩
      · rename_i h3
        rw [if_neg (by omega), if_neg (by omega), if_pos (by omega)]
        split
        · exact okW_keep h (by decide)
        · have hf := okW_flush h
          refine ⟨?_, rfl, rfl⟩
          intro o ho
          rcases List.mem_append.1 ho with ho | ho
          · exact hf.out o ho
          · simp only [List.mem_singleton] at ho
            subst ho
            refine ⟨fun hk => (by cases hk), fun _ => ?_⟩
            simp only [Bool.and_eq_true, decide_eq_true_eq] at hr
            simp only [rightOp]
            rw [if_neg (by decide), if_neg (by decide), if_neg (by decide), nrmE_kind, hi hr.1.2]
            simp only [Bool.and_true, Bool.and_eq_true, decide_eq_true_eq]
            refine ⟨⟨rfl, hr.1.1.2⟩, ?_⟩
            rcases hr.2 with h | h | h
            · exact Or.inl h
            · exact Or.inr (Or.inl h)
            · rw [(nrmE_old e h.1).1, (nrmE_old e h.1).2, kind_norm, kind_norm]
              exact Or.inr (Or.inr h)


def sumA : List Op → Int
  | [] => 0
  | o :: r => (if o.kind = 2 then 0 else opLen o) + sumA r
def sumB : List Op → Int
  | [] => 0
  | o :: r => (if o.kind = 1 then 0 else opLen o) + sumB r

theorem sumA_app : ∀ (a b : List Op), sumA (a ++ b) = sumA a + sumA b
  | [], b => by simp [sumA]
  | o :: r, b => by simp only [List.cons_append, sumA, sumA_app r b]; omega
theorem sumB_app : ∀ (a b : List Op), sumB (a ++ b) = sumB a + sumB b
  | [], b => by simp [sumB]
  | o :: r, b => by simp only [List.cons_append, sumB, sumB_app r b]; omega

theorem lenA_sum : ∀ (l : List Op) (n : Int), (∀ o ∈ l, 0 ≤ opLen o) → 0 ≤ n → n ≤ 1048576 → lenA l n = min (n + sumA l) 1048576 ∧ 0 ≤ sumA l
  | [], n, _, h1, h2 => by simp only [lenA, sumA]; omega
  | o :: r, n, h, h1, h2 => by
    have ho := h o (List.mem_cons_self ..)
    simp only [lenA, sumA]
    have hx : 0 ≤ (if o.kind = 2 then n else n + opLen o) ∧ (if o.kind = 2 then n else n + opLen o) = n + (if o.kind = 2 then 0 else opLen o) := by split <;> omega
    have hy : 0 ≤ (if o.kind = 2 then 0 else opLen o) := by split <;> omega
    rw [hx.2]
    rw [hx.2] at hx
    generalize (if o.kind = 2 then 0 else opLen o) = y at *
    obtain ⟨e1, e2⟩ := lenA_sum r (min (n + y) 1048576) (fun x hx => h x (List.mem_cons_of_mem _ hx)) (by omega) (by omega)
    rw [e1]
    omega
theorem lenB_sum : ∀ (l : List Op) (n : Int), (∀ o ∈ l, 0 ≤ opLen o) → 0 ≤ n → n ≤ 1048576 → lenB l n = min (n + sumB l) 1048576 ∧ 0 ≤ sumB l
  | [], n, _, h1, h2 => by simp only [lenB, sumB]; omega
  | o :: r, n, h, h1, h2 => by
    have ho := h o (List.mem_cons_self ..)
    simp only [lenB, sumB]
    have hx : 0 ≤ (if o.kind = 1 then n else n + opLen o) ∧ (if o.kind = 1 then n else n + opLen o) = n + (if o.kind = 1 then 0 else opLen o) := by split <;> omega
    have hy : 0 ≤ (if o.kind = 1 then 0 else opLen o) := by split <;> omega
    rw [hx.2]
    rw [hx.2] at hx
    generalize (if o.kind = 1 then 0 else opLen o) = y at *
    obtain ⟨e1, e2⟩ := lenB_sum r (min (n + y) 1048576) (fun x hx => h x (List.mem_cons_of_mem _ hx)) (by omega) (by omega)
    rw [e1]
    omega

theorem rOp_len {list d : Int} {o : Op} (h : rOp list d o) : 0 ≤ opLen o := by
  unfold opLen
  split
  · decide
  · by_cases hk : o.kind = 0
    · have := (h.1 hk).1; omega
    · have hr := h.2 hk
      obtain ⟨k, n, l, e⟩ := o
      simp only at hk ⊢
      rw [rightOp, if_neg hk] at hr
      split at hr
      · cases hr
      · omega

theorem sumA_mem : ∀ {l : List Op} {o : Op}, (∀ o ∈ l, 0 ≤ opLen o) → o ∈ l → o.kind ≠ 2 → opLen o ≤ sumA l
  | a :: r, o, h, ho, hk => by
    have hr := (lenA_sum r 0 (fun x hx => h x (List.mem_cons_of_mem _ hx)) (by decide) (by decide)).2
    have ha := h a (List.mem_cons_self ..)
    simp only [sumA]
    rcases List.mem_cons.1 ho with rfl | ho
    · rw [if_neg hk]; omega
    · have := sumA_mem (fun x hx => h x (List.mem_cons_of_mem _ hx)) ho hk
      split <;> omega

def sA (w : Wst) : Int := sumA w.out + w.gone.length
def sB (w : Wst) : Int := sumB w.out + w.brought.length

theorem sum_flush (w : Wst) : sumA (flushW w).out = sA w ∧ sumB (flushW w).out = sB w := by
  simp only [flushW, flushO, sA, sB, sumA_app, sumB_app]
  constructor
  · by_cases hg : w.gone.length = 0
    · rw [if_pos hg]
      by_cases hb : w.brought.length = 0
      · rw [if_pos hb]; simp [sumA]; omega
      · rw [if_neg hb]; simp [sumA]; omega
    · rw [if_neg hg]
      by_cases hb : w.brought.length = 0
      · rw [if_pos hb]; simp [sumA, opLen]
      · rw [if_neg hb]; simp [sumA, opLen]
  · by_cases hg : w.gone.length = 0
    · rw [if_pos hg]
      by_cases hb : w.brought.length = 0
      · rw [if_pos hb]; simp [sumB]; omega
      · rw [if_neg hb]; simp [sumB, opLen]
    · rw [if_neg hg]
      by_cases hb : w.brought.length = 0
      · rw [if_pos hb]; simp [sumB]; omega
      · rw [if_neg hb]; simp [sumB, opLen]

theorem sum_keep (w : Wst) (n : Int) : sA (keepW w n) = sA w + n ∧ sB (keepW w n) = sB w + n := by
  have hf := sum_flush w
  simp only [keepW]
  have e1 : ∀ x, sA ⟨x, [], []⟩ = sumA x := fun x => by simp [sA]
  have e2 : ∀ x, sB ⟨x, [], []⟩ = sumB x := fun x => by simp [sB]
  rw [e1, e2, ← hf.1, ← hf.2]
  rcases keepO_cases (flushW w).out n with e | ⟨a, q, e1, e2, e3⟩
  · rw [e, sumA_app, sumB_app]
    simp [sumA, sumB, opLen]
  · rw [e3, e1, sumA_app, sumB_app, sumA_app, sumB_app]
    simp only [sumA, sumB, opLen, e2]
    simp
    omega

theorem sum_op {list d : Int} {w : Wst} {o : Op} (hr : rightOp list o d = true) : sA (nrmOp list o w) = sA w + (if o.kind = 2 then 0 else opLen o) ∧ sB (nrmOp list o w) = sB w + (if o.kind = 1 then 0 else opLen o) := by
  have hl : ∀ l, ((normsT l).length : Int) = l.length := fun l => by simp [normsT]
  obtain ⟨k, n, l, e⟩ := o
  rw [rightOp] at hr
  rw [nrmOp_at]
  simp only [opLen]
  split at hr
  · rename_i hk
    subst hk
    rw [if_pos rfl]
    simp only [Bool.and_eq_true, decide_eq_true_eq] at hr
    have := sum_keep w n
    simp
    omega
  · rename_i hk
    rw [if_neg hk]
    split at hr
    · cases hr
    · rename_i hn
      split at hr
      · rename_i h3
        by_cases k1 : k = 1
        · subst k1
          rw [if_pos rfl]
          simp only [sA, sB, List.length_append]
          simp [hl]
          omega
        · have k2 : k = 2 := by omega
          subst k2
          rw [if_neg k1, if_pos rfl]
          simp only [sA, sB, List.length_append]
          simp [hl]
          omega
      · rename_i h3
        have k3 : k = 3 := by omega
        subst k3
        rw [if_neg (by omega), if_neg (by omega), if_pos rfl]
        split
        · have := sum_keep w 1
          simp
          omega
        · have := sum_flush w
          simp only [sA, sB, sumA_app, sumB_app, sumA, sumB, opLen] at this ⊢
          simp
          omega

mutual
theorem rightE_nrm : ∀ (e : Edit) (d : Int), rightE e d = true → rightE (nrmE e) d = true
  | .mk k o n w ks l os, d, h => by
    have h1 := rightKs_nrm ks
    have h2 := okW_nrm l os
    have h4 := sum_nrm l os
    rw [rightE] at h
    split at h
    · cases h
    · rename_i a
      split at h
      · cases h
      · rename_i b
        have nn : noneT Tree.nil = true := rfl
        by_cases k1 : k = 1
        · subst k1
          rw [if_pos rfl] at h
          have hl : l = 0 := by
            apply Classical.byContradiction
            intro hl
            exact b (.inr (.inr ⟨by decide, .inl hl⟩))
          simp only [Bool.and_eq_true, decide_eq_true_eq] at h
          rw [nrmE, if_pos rfl, rightE, if_neg a, if_neg (by simp [hl]), if_pos rfl]
          simp only [Bool.and_eq_true, decide_eq_true_eq]
          rw [kind_norm, kind_norm]
          exact ⟨⟨rightT_norm _ _ h.1.1, rightT_norm _ _ h.1.2⟩, h.2⟩
        · rw [if_neg k1] at h
          simp only [Bool.and_eq_true, decide_eq_true_eq] at h
          obtain ⟨⟨⟨⟨x1, x2⟩, x3⟩, x4⟩, x5⟩ := h
          rw [nrmE, if_neg k1]
          by_cases k2 : k = 2
          · have hl : l = 0 := by
              apply Classical.byContradiction
              intro hl
              exact b (.inr (.inr ⟨by omega, .inl hl⟩))
            rw [if_pos k2, rightE, if_neg a, if_neg (by simp [nn, hl, k2]), if_neg k1]
            simp only [Bool.and_eq_true, decide_eq_true_eq]
            exact ⟨⟨⟨⟨x1, h1 _ _ x2⟩, x3⟩, rfl⟩, by decide⟩
          · rw [if_neg k2]
            by_cases k3 : k = 3
            · rw [if_pos k3, rightE, if_neg a, if_neg (by simp [nn, k3]), if_neg k1]
              simp only [Bool.and_eq_true, decide_eq_true_eq]
              have hall := rightOs_all.1 x4
              obtain ⟨y1, y2⟩ := lenA_sum os 0 (fun o ho => rOp_len (rOp_of (hall o ho))) (by decide) (by decide)
              obtain ⟨z1, z2⟩ := lenB_sum os 0 (fun o ho => rOp_len (rOp_of (hall o ho))) (by decide) (by decide)
              have hw := h2 (d - 1) W0 x4 ⟨fun o ho => (by cases ho), rfl, rfl⟩
              have hs := h4 (d - 1) W0 x4
              have hff := okW_flush hw
              have hsf := sum_flush (nrmOs l os W0)
              have e0 : sA W0 = 0 ∧ sB W0 = 0 := ⟨rfl, rfl⟩
              have hA := lenA_sum (flushW (nrmOs l os W0)).out 0 (fun o ho => rOp_len (hff.out o ho)) (by decide) (by decide)
              have hB := lenB_sum (flushW (nrmOs l os W0)).out 0 (fun o ho => rOp_len (hff.out o ho)) (by decide) (by decide)
              refine ⟨⟨⟨⟨rfl, rfl⟩, x3⟩, rightOs_all.2 (fun o ho => rOp_to (hff.out o ho) (fun hk => ?_))⟩, ?_, ?_⟩
              · have hm := sumA_mem (fun o ho => rOp_len (hff.out o ho)) ho (by omega)
                unfold opLen at hm
                rw [if_neg (by omega)] at hm
                omega
              · show lenA (flushW (nrmOs l os W0)).out 0 < 1048576
                omega
              · show lenB (flushW (nrmOs l os W0)).out 0 < 1048576
                omega
            · have hl : l = 0 := by
                apply Classical.byContradiction
                intro hl
                exact b (.inr (.inr ⟨k3, .inl hl⟩))
              rw [if_neg k3, rightE, if_neg a, if_neg (by simp [nn, hl]), if_neg k1]
              simp only [Bool.and_eq_true, decide_eq_true_eq]
              exact ⟨⟨⟨⟨rfl, rfl⟩, x3⟩, rfl⟩, by decide⟩
theorem rightKs_nrm : ∀ (ks : List (KidOf Edit)) (last d : Int), rightKs last ks d = true → rightKs last (nrmKs ks) d = true
  | [], _, _, _ => rfl
  | k :: r, last, d, h => by
    simp only [rightKs, Bool.and_eq_true] at h
    have h1 := rightKid_nrm k last d h.1
    have h2 := rightKs_nrm r k.at_ d h.2
    simp only [nrmKs, rightKs, Bool.and_eq_true]
    exact ⟨h1, by rw [nrmKid_at]; exact h2⟩
theorem rightKid_nrm : ∀ (k : KidOf Edit) (last d : Int), rightKid last k d = true → rightKid last (nrmKid k) d = true
  | ⟨a, e⟩, last, d, h => by
    simp only [rightKid, Bool.and_eq_true] at h
    have h1 := rightE_nrm e d h.2
    simp only [nrmKid, rightKid, Bool.and_eq_true]
    rw [nrmE_kind]
    exact ⟨h.1, h1⟩
theorem okW_nrm (list : Int) : ∀ (os : List (OpOf Edit)) (d : Int) (w : Wst), rightOs list os d = true → OkW list d w → OkW list d (nrmOs list os w)
  | [], _, _, _, hw => hw
  | o :: r, d, w, h, hw => by
    simp only [rightOs, Bool.and_eq_true] at h
    have h1 := okW_nrmOp list o d w h.1 hw
    exact okW_nrm list r d _ h.2 h1
theorem okW_nrmOp (list : Int) : ∀ (o : OpOf Edit) (d : Int) (w : Wst), rightOp list o d = true → OkW list d w → OkW list d (nrmOp list o w)
  | ⟨k, n, l, e⟩, d, w, h, hw => okW_op (o := ⟨k, n, l, e⟩) hw h (fun he => rightE_nrm e d he)
theorem sum_nrm (list : Int) : ∀ (os : List (OpOf Edit)) (d : Int) (w : Wst), rightOs list os d = true → sA (nrmOs list os w) = sA w + sumA os ∧ sB (nrmOs list os w) = sB w + sumB os
  | [], _, _, _ => by simp [nrmOs, sumA, sumB]
  | o :: r, d, w, h => by
    simp only [rightOs, Bool.and_eq_true] at h
    have h1 := sum_op (w := w) h.1
    have h2 := sum_nrm list r d (nrmOp list o w) h.2
    simp only [nrmOs, sumA, sumB]
    omega
end

end Go.AM.Ytlahjnelghpmeaa

namespace Go.AM.Ytlahjnelghpmeaa
open Go.AM Go.Proofs

theorem good_in {e : Edit} (h : good e = true) : massE e ≤ 3000 ∧ rightE e 64 = true := by
  simp only [good, Bool.and_eq_true, decide_eq_true_eq] at h
  exact ⟨few_massE h.1.1, h.1.2⟩

end Go.AM.Ytlahjnelghpmeaa

namespace Go.AM.Ytlahjnelghpmeaa
open Go.AM Go.Proofs

def args45 : ArgL (Edit × Unit) := (.cons (aEl .edit) .nil)
def pre45 (a : Edit × Unit) : Prop := massE a.1 ≤ 1000000 ∧ ∃ d, rightE a.1 d = true
noncomputable def res45 (a : Edit × Unit) : V U := .agg [.int .i64 (Edit.kind (nrmE (turnE a.1))), .int .i64 (Tree.kind (Edit.old (nrmE (turnE a.1)))), .slice (U := U) .u64 (Tree.words (Edit.old (nrmE (turnE a.1)))) .unk, .slice (U := U) .tree (Tree.kids (Edit.old (nrmE (turnE a.1)))) .unk, .int .i64 (Tree.kind (Edit.new (nrmE (turnE a.1)))), .slice (U := U) .u64 (Tree.words (Edit.new (nrmE (turnE a.1)))) .unk, .slice (U := U) .tree (Tree.kids (Edit.new (nrmE (turnE a.1)))) .unk, .slice (U := U) .wedit (Edit.words (nrmE (turnE a.1))) .unk, .slice (U := U) .kid (Edit.kids (nrmE (turnE a.1))) .unk, .int .i64 (Edit.list (nrmE (turnE a.1))), .slice (U := U) .op (Edit.ops (nrmE (turnE a.1))) .unk]
noncomputable def spec45 : Fs U := fs args45 (fun a => [pre45 a]) res45

def args44 : ArgL (Unit) := .nil
def pre44 (a : Unit) : Prop := True
noncomputable def res44 (a : Unit) : V U := .c (.bool true)
noncomputable def spec44 : Fs U := fs args44 (fun a => [pre44 a]) res44

def args10 : ArgL (Edit × Unit) := (.cons (aEl .edit) .nil)
def pre10 (a : Edit × Unit) : Prop := smallE a.1 ∧ rngE a.1
noncomputable def res10 (a : Edit × Unit) : V U := .c (.bool true)
noncomputable def spec10 : Fs U := fs args10 (fun a => [pre10 a]) res10

noncomputable def know45 : List (FuncId × Fs U) := [(40, spec40), (79, spec79)]
def lv45 : Lives U := fun i => match i with
  | 0 => ([(1, []), (2, [])], [((.loc 1), []), ((.loc 2), [])])
  | 1 => ([(2, [])], [((.loc 2), [])])
  | _ => ([], [])
abbrev W45 (e : Edit) (Q : AExit → LSt U → Prop) : Prop := awp cfg (know know45) (drawOk cfg (know know45)) Try.f45.ntmps lv45 (cd Try.f45 []) (⟨[(0, .agg [.int .i64 (Edit.kind e), .int .i64 (Tree.kind (Edit.old e)), .slice (U := U) .u64 (Tree.words (Edit.old e)) .unk, .slice (U := U) .tree (Tree.kids (Edit.old e)) .unk, .int .i64 (Tree.kind (Edit.new e)), .slice (U := U) .u64 (Tree.words (Edit.new e)) .unk, .slice (U := U) .tree (Tree.kids (Edit.new e)) .unk, .slice (U := U) .wedit (Edit.words e) .unk, .slice (U := U) .kid (Edit.kids e) .unk, .int .i64 (Edit.list e), .slice (U := U) .op (Edit.ops e) .unk])], [], []⟩ : LSt U) Q
theorem vc45 (e : Edit) (Q : AExit → LSt U → Prop) (h : ∀ y_1, y_1 = (e) → ∀ y_2, y_2 = ((turnE y_1)) → (pre79 (y_1, ())) ∧ (pre40 (y_2, ())) ∧ (Q .ret (⟨[(2, .ptr (.loc 2) 0)], [((.loc 2), [.int .i64 (Edit.kind (nrmE y_2)), .int .i64 (Tree.kind (Edit.old (nrmE y_2))), .slice (U := U) .u64 (Tree.words (Edit.old (nrmE y_2))) .unk, .slice (U := U) .tree (Tree.kids (Edit.old (nrmE y_2))) .unk, .int .i64 (Tree.kind (Edit.new (nrmE y_2))), .slice (U := U) .u64 (Tree.words (Edit.new (nrmE y_2))) .unk, .slice (U := U) .tree (Tree.kids (Edit.new (nrmE y_2))) .unk, .slice (U := U) .wedit (Edit.words (nrmE y_2)) .unk, .slice (U := U) .kid (Edit.kids (nrmE y_2)) .unk, .int .i64 (Edit.list (nrmE y_2)), .slice (U := U) .op (Edit.ops (nrmE y_2)) .unk])], []⟩ : LSt U))) :
    W45 e Q := by
  have e_ : (W45 e Q) = (let y_1 := (reEdit e); let y_2 := (reEdit (turnE y_1)); ((pre79 (y_1, ())) ∧ (pre40 (y_2, ())) ∧ (Q .ret (⟨[(2, .ptr (.loc 2) 0)], [((.loc 2), [.int .i64 (Edit.kind (nrmE y_2)), .int .i64 (Tree.kind (Edit.old (nrmE y_2))), .slice (U := U) .u64 (Tree.words (Edit.old (nrmE y_2))) .unk, .slice (U := U) .tree (Tree.kids (Edit.old (nrmE y_2))) .unk, .int .i64 (Tree.kind (Edit.new (nrmE y_2))), .slice (U := U) .u64 (Tree.words (Edit.new (nrmE y_2))) .unk, .slice (U := U) .tree (Tree.kids (Edit.new (nrmE y_2))) .unk, .slice (U := U) .wedit (Edit.words (nrmE y_2)) .unk, .slice (U := U) .kid (Edit.kids (nrmE y_2)) .unk, .int .i64 (Edit.list (nrmE y_2)), .slice (U := U) .op (Edit.ops (nrmE y_2)) .unk])], []⟩ : LSt U)))) := by kernel_rfl
  exact e_.mpr (by intro y_1 y_2; have hh := h y_1 (reEdit_eq _) y_2 (reEdit_eq _); exact ⟨hh.1, hh.2.1, hh.2.2⟩)
def Body45 (e : Edit)  : Prop := awp cfg (know (know45)) (drawOk cfg (know (know45))) Try.f45.ntmps lv45 (cd Try.f45 []) (entry (args45.can (e, ())) []) (EndsQ cfg Try.f45.ntmps Try.f45.results.toList (res45 (e, ())) [])
theorem make45 (c40 : Contract Try.prog cfg 40 spec40) (c79 : Contract Try.prog cfg 79 spec79) (hb : ∀ (e : Edit) (_ : Unit), pre45 (e, ()) → Body45 e) : Contract Try.prog cfg 45 spec45 :=
  contract_flat (l := [(40, spec40), (79, spec79)]) cfgOk rfl (⟨c40, c79, trivial⟩) lv45 Try.func45 rfl rfl 1 (fun _ => rfl) (by decide) (fun ⟨e, _⟩ => hb e ())

noncomputable def know44 : List (FuncId × Fs U) := [(45, spec45)]
def lv44 : Lives U := fun i => match i with
  | 0 => ([], [])
  | 1 => ([(1, [])], [])
  | 2 => ([(2, [])], [((.loc 2), [])])
  | 3 => ([(0, [])], [])
  | _ => ([], [])
abbrev W44 (Q : AExit → LSt U → Prop) : Prop := awp cfg (know know44) (drawOk cfg (know know44)) Try.f44.ntmps lv44 (cd Try.f44 []) (⟨[], [], []⟩ : LSt U) Q
theorem vc44 (Q : AExit → LSt U → Prop) (h : ∀ y_1, y_1 = (Edit.mk 0 (Tree.mk 0 ([]) ([])) (Tree.mk 0 ([]) ([])) ([]) ([]) 0 ([])) → ∀ y_2, y_2 = (Edit.mk 3 (Tree.mk 0 ([]) ([])) (Tree.mk 0 ([]) ([])) ([]) ([]) 4 ([(OpOf.mk 2 0 ([(Tree.mk 10 ([1]) ([]))]) y_1 : Op), (OpOf.mk 0 1 ([]) y_1 : Op)])) → ∀ y_3, y_3 = (List.getD (Edit.ops (nrmE (turnE y_2))) (Int.toNat 0) Op.nil) → (pre45 (y_2, ())) ∧ ((((((Edit.ops (nrmE (turnE y_2))).length : Int) : Int) == 2) = true → (0 : Int) ≤ 0 ∧ 0 < ((Edit.ops (nrmE (turnE y_2))).length : Int)) ∧ ((bif ((((Edit.ops (nrmE (turnE y_2))).length : Int) : Int) == 2) then (((OpOf.kind y_3) : Int) == 1) else false) = true → (0 : Int) ≤ 1 ∧ 1 < ((Edit.ops (nrmE (turnE y_2))).length : Int)) ∧ (Q .ret (⟨[(0, .c (.bool (bif (bif ((((Edit.ops (nrmE (turnE y_2))).length : Int) : Int) == 2) then (((OpOf.kind y_3) : Int) == 1) else false) then (((OpOf.kind (List.getD (Edit.ops (nrmE (turnE y_2))) (Int.toNat 1) Op.nil)) : Int) == 0) else false)))], [], []⟩ : LSt U)))) :
    W44 Q := by
  have e_ : (W44 Q) = (let y_1 := (Edit.mk 0 (Tree.mk 0 ([]) ([])) (Tree.mk 0 ([]) ([])) ([]) ([]) 0 ([])); let y_2 := (Edit.mk 3 (Tree.mk 0 ([]) ([])) (Tree.mk 0 ([]) ([])) ([]) ([]) 4 ([(OpOf.mk 2 0 ([(Tree.mk 10 ([1]) ([]))]) y_1 : Op), (OpOf.mk 0 1 ([]) y_1 : Op)])); let y_3 := (List.getD (Edit.ops (nrmE (turnE y_2))) (Int.toNat 0) Op.nil); (((pre45 (y_2, ())) ∧ ((((((Edit.ops (nrmE (turnE y_2))).length : Int) : Int) == 2) = true → ((((Edit.ops (nrmE (turnE y_2))).length : Int) : Int) == 2) = true) ∧ (((((Edit.ops (nrmE (turnE y_2))).length : Int) : Int) == 2) = true → ((((Edit.ops (nrmE (turnE y_2))).length : Int) : Int) == 2) = true) ∧ (((((Edit.ops (nrmE (turnE y_2))).length : Int) : Int) == 2) = true → (0 : Int) ≤ 0 ∧ 0 < ((Edit.ops (nrmE (turnE y_2))).length : Int)) ∧ (((((Edit.ops (nrmE (turnE y_2))).length : Int) : Int) == 2) = true → ((((Edit.ops (nrmE (turnE y_2))).length : Int) : Int) == 2) = true) ∧ (((((Edit.ops (nrmE (turnE y_2))).length : Int) : Int) == 2) = true → ((((Edit.ops (nrmE (turnE y_2))).length : Int) : Int) == 2) = true) ∧ (((((Edit.ops (nrmE (turnE y_2))).length : Int) : Int) == 2) = true → ((((Edit.ops (nrmE (turnE y_2))).length : Int) : Int) == 2) = true) ∧ ((((((Edit.ops (nrmE (turnE y_2))).length : Int) : Int) == 2) = true → ((((Edit.ops (nrmE (turnE y_2))).length : Int) : Int) == 2) = true)) ∧ ((bif ((((Edit.ops (nrmE (turnE y_2))).length : Int) : Int) == 2) then (((OpOf.kind y_3) : Int) == 1) else false) = true → (bif ((((Edit.ops (nrmE (turnE y_2))).length : Int) : Int) == 2) then (((OpOf.kind y_3) : Int) == 1) else false) = true) ∧ ((bif ((((Edit.ops (nrmE (turnE y_2))).length : Int) : Int) == 2) then (((OpOf.kind y_3) : Int) == 1) else false) = true → (bif ((((Edit.ops (nrmE (turnE y_2))).length : Int) : Int) == 2) then (((OpOf.kind y_3) : Int) == 1) else false) = true) ∧ ((bif ((((Edit.ops (nrmE (turnE y_2))).length : Int) : Int) == 2) then (((OpOf.kind y_3) : Int) == 1) else false) = true → (0 : Int) ≤ 1 ∧ 1 < ((Edit.ops (nrmE (turnE y_2))).length : Int)) ∧ ((bif ((((Edit.ops (nrmE (turnE y_2))).length : Int) : Int) == 2) then (((OpOf.kind y_3) : Int) == 1) else false) = true → (bif ((((Edit.ops (nrmE (turnE y_2))).length : Int) : Int) == 2) then (((OpOf.kind y_3) : Int) == 1) else false) = true) ∧ ((bif ((((Edit.ops (nrmE (turnE y_2))).length : Int) : Int) == 2) then (((OpOf.kind y_3) : Int) == 1) else false) = true → (bif ((((Edit.ops (nrmE (turnE y_2))).length : Int) : Int) == 2) then (((OpOf.kind y_3) : Int) == 1) else false) = true) ∧ ((bif ((((Edit.ops (nrmE (turnE y_2))).length : Int) : Int) == 2) then (((OpOf.kind y_3) : Int) == 1) else false) = true → (bif ((((Edit.ops (nrmE (turnE y_2))).length : Int) : Int) == 2) then (((OpOf.kind y_3) : Int) == 1) else false) = true) ∧ (((bif ((((Edit.ops (nrmE (turnE y_2))).length : Int) : Int) == 2) then (((OpOf.kind y_3) : Int) == 1) else false) = true → (bif ((((Edit.ops (nrmE (turnE y_2))).length : Int) : Int) == 2) then (((OpOf.kind y_3) : Int) == 1) else false) = true)) ∧ (Q .ret (⟨[(0, .c (.bool (bif (bif ((((Edit.ops (nrmE (turnE y_2))).length : Int) : Int) == 2) then (((OpOf.kind y_3) : Int) == 1) else false) then (((OpOf.kind (List.getD (Edit.ops (nrmE (turnE y_2))) (Int.toNat 1) Op.nil)) : Int) == 0) else false)))], [], []⟩ : LSt U)))))) := by kernel_rfl
  exact e_.mpr (by intro y_1 y_2 y_3; have hh := h y_1 rfl y_2 rfl y_3 rfl; exact ⟨hh.1, ⟨fun x => x, fun x => x, hh.2.1, fun x => x, fun x => x, fun x => x, (by generalize ((((Edit.ops (nrmE (turnE y_2))).length : Int) : Int) == 2) = b0; revert b0; decide), fun x => x, fun x => x, hh.2.2.1, fun x => x, fun x => x, fun x => x, (by generalize (((OpOf.kind y_3) : Int) == 1) = b0; generalize ((((Edit.ops (nrmE (turnE y_2))).length : Int) : Int) == 2) = b1; revert b0 b1; decide), hh.2.2.2⟩⟩)
def Body44  : Prop := awp cfg (know (know44)) (drawOk cfg (know (know44))) Try.f44.ntmps lv44 (cd Try.f44 []) (entry (args44.can (())) []) (EndsQ cfg Try.f44.ntmps Try.f44.results.toList (res44 (())) [])
theorem make44 (c45 : Contract Try.prog cfg 45 spec45) (hb : ∀ (_ : Unit), pre44 (()) → Body44 ) : Contract Try.prog cfg 44 spec44 :=
  contract_flat (l := [(45, spec45)]) cfgOk rfl (⟨c45, trivial⟩) lv44 Try.func44 rfl rfl 0 (fun _ => rfl) (by decide) (fun _ => hb  ())

noncomputable def know10 : List (FuncId × Fs U) := [(37, spec37), (39, spec39), (41, spec41), (44, spec44), (45, spec45)]
def lv10 : Lives U := fun i => match i with
  | 0 => ([(1, [])], [((.loc 1), [])])
  | 1 => ([(1, []), (5, [])], [((.loc 1), [])])
  | 2 => ([(2, [])], [])
  | 3 => ([(2, [])], [])
  | _ => ([], [])
abbrev W10 (e : Edit) (Q : AExit → LSt U → Prop) : Prop := awp cfg (know know10) (drawOk cfg (know know10)) Try.f10.ntmps lv10 (cd Try.f10 []) (⟨[(0, .agg [.int .i64 (Edit.kind e), .int .i64 (Tree.kind (Edit.old e)), .slice (U := U) .u64 (Tree.words (Edit.old e)) .unk, .slice (U := U) .tree (Tree.kids (Edit.old e)) .unk, .int .i64 (Tree.kind (Edit.new e)), .slice (U := U) .u64 (Tree.words (Edit.new e)) .unk, .slice (U := U) .tree (Tree.kids (Edit.new e)) .unk, .slice (U := U) .wedit (Edit.words e) .unk, .slice (U := U) .kid (Edit.kids e) .unk, .int .i64 (Edit.list e), .slice (U := U) .op (Edit.ops e) .unk])], [], []⟩ : LSt U) Q
theorem vc10 (e : Edit) (Q : AExit → LSt U → Prop) (h : ∀ y_1, y_1 = (e) → ∀ y_2, y_2 = ((nrmE y_1)) → ∀ y_3, y_3 = ((nrmE (turnE y_1))) → ∀ y_4, y_4 = ((nrmE (turnE y_3))) → (pre37 (y_1, ())) ∧ (((!(good y_1)) = true → (pre44 (())) ∧ (Q .ret (⟨[(2, .c (.bool true))], [], []⟩ : LSt U))) ∧ ((!(good y_1)) = false → (pre45 (y_1, ())) ∧ (pre45 (y_3, ())) ∧ (pre41 (y_1, ())) ∧ (pre39 (y_4, y_2, ())) ∧ ((eqX y_4 y_2) = true → pre44 (())) ∧ (Q .ret (⟨[(2, .c (.bool (bif (eqX y_4 y_2) then true else false)))], [], []⟩ : LSt U))))) :
    W10 e Q := by
  have e_ : (W10 e Q) = (let y_1 := (reEdit e); let y_2 := (reEdit (nrmE y_1)); let y_3 := (reEdit (nrmE (turnE y_1))); let y_4 := (reEdit (nrmE (turnE y_3))); ((pre37 (y_1, ())) ∧ (((!(good y_1)) = true → (pre44 (())) ∧ (Q .ret (⟨[(2, .c (.bool true))], [], []⟩ : LSt U))) ∧ ((!(good y_1)) = false → (pre45 (y_1, ())) ∧ (pre45 (y_3, ())) ∧ (pre41 (y_1, ())) ∧ (pre39 (y_4, y_2, ())) ∧ ((eqX y_4 y_2) = true → pre44 (())) ∧ (((eqX y_4 y_2) = true → (eqX y_4 y_2) = true)) ∧ (Q .ret (⟨[(2, .c (.bool (bif (eqX y_4 y_2) then true else false)))], [], []⟩ : LSt U)))))) := by kernel_rfl
  exact e_.mpr (by intro y_1 y_2 y_3 y_4; have hh := h y_1 (reEdit_eq _) y_2 (reEdit_eq _) y_3 (reEdit_eq _) y_4 (reEdit_eq _); exact ⟨hh.1, ⟨fun c_1 => ⟨(hh.2.1 c_1).1, (hh.2.1 c_1).2⟩, fun c_1 => ⟨(hh.2.2 c_1).1, (hh.2.2 c_1).2.1, (hh.2.2 c_1).2.2.1, (hh.2.2 c_1).2.2.2.1, (hh.2.2 c_1).2.2.2.2.1, (by generalize (eqX y_4 y_2) = b0; revert b0; decide), (hh.2.2 c_1).2.2.2.2.2⟩⟩⟩)
def Body10 (e : Edit)  : Prop := awp cfg (know (know10)) (drawOk cfg (know (know10))) Try.f10.ntmps lv10 (cd Try.f10 []) (entry (args10.can (e, ())) []) (EndsQ cfg Try.f10.ntmps Try.f10.results.toList (res10 (e, ())) [])
theorem make10 (c37 : Contract Try.prog cfg 37 spec37) (c39 : Contract Try.prog cfg 39 spec39) (c41 : Contract Try.prog cfg 41 spec41) (c44 : Contract Try.prog cfg 44 spec44) (c45 : Contract Try.prog cfg 45 spec45) (hb : ∀ (e : Edit) (_ : Unit), pre10 (e, ()) → Body10 e) : Contract Try.prog cfg 10 spec10 :=
  contract_flat (l := [(37, spec37), (39, spec39), (41, spec41), (44, spec44), (45, spec45)]) cfgOk rfl (⟨c37, c39, c41, c44, c45, trivial⟩) lv10 Try.func10 rfl rfl 1 (fun _ => rfl) (by decide) (fun ⟨e, _⟩ => hb e ())

end Go.AM.Ytlahjnelghpmeaa

namespace Go.AM.Ytlahjnelghpmeaa
open Go.AM Go.Proofs

mutual
theorem massE_turn : ∀ (e : Edit), massE (turnE e) = massE e
  | .mk k o n w ks l os => by
    have h1 := massKs_turn ks
    have h2 := massOs_turn os
    simp only [turnE, massE, List.length_map, turnOs_len, h1, h2]
    omega
theorem massKs_turn : ∀ (ks : List (KidOf Edit)), massKs (turnKs ks) = massKs ks
  | [] => rfl
  | k :: r => by
    have h1 := massKid_turn k
    have h2 := massKs_turn r
    simp only [turnKs, massKs, h1, h2]
theorem massKid_turn : ∀ (k : KidOf Edit), massKid (turnKid k) = massKid k
  | ⟨a, e⟩ => by
    have h := massE_turn e
    simp only [turnKid, massKid, h]
theorem massOs_turn : ∀ (os : List (OpOf Edit)), massOs (turnOs os) = massOs os
  | [] => rfl
  | o :: r => by
    have h1 := massOp_turn o
    have h2 := massOs_turn r
    simp only [turnOs, massOs, h1, h2]
theorem massOp_turn : ∀ (o : OpOf Edit), massOp (turnOp o) = massOp o
  | ⟨k, n, l, e⟩ => by
    have h := massE_turn e
    simp only [turnOp]
    split
    · rfl
    · split
      · rfl
      · split
        · simp only [massOp, h]
        · rfl
end

theorem c45 : Contract Try.prog cfg 45 spec45 := by
  refine make45 c40_76.1 c79_110.1 ?_
  intro e _ hp
  simp only [pre45] at hp
  obtain ⟨hm, d, hr⟩ := hp
  refine vc45 _ _ ?_
  rintro y1 hy1 y2 hy2
  subst hy1
  have h1 := massE_turn y1
  have h2 := rightE_turn _ _ hr
  rw [← hy2] at h1 h2
  refine ⟨by simp only [pre79]; omega, by simp only [pre40]; exact ⟨by omega, d, h2⟩, ?_⟩
  simp only [res45]
  rw [← hy2]
  (repeat' (first | exact trivial | exact rfl | refine And.intro ?_ ?_))

theorem c44 : Contract Try.prog cfg 44 spec44 := by
  refine make44 c45 ?_
  intro _ _
  refine vc44 _ ?_
  rintro y1 hy1 y2 hy2 y3 hy3
  have e2 : Edit.ops (nrmE (turnE y2)) = [⟨1, 0, [Tree.mk 10 [1] []], Edit.nil⟩, ⟨0, 1, [], Edit.nil⟩] := by
    rw [hy2, hy1]
    rfl
  rw [e2] at hy3 ⊢
  have k3 : y3.kind = 1 := by rw [hy3]; rfl
  rw [k3]
  refine ⟨?_, ?_, ?_, ends_bool rfl rfl⟩
  · rw [hy2, hy1]
    simp only [pre45]
    exact ⟨by decide, 64, by rfl⟩
  all_goals simp

theorem c10 : Contract Try.prog cfg 10 spec10 := by
  refine make10 c37 c39 c41_78.1 c44 c45 ?_
  intro e _ hp
  simp only [pre10] at hp
  refine vc10 _ _ ?_
  rintro y1 hy1 y2 hy2 y3 hy3 y4 hy4
  subst hy1
  refine ⟨by simp only [pre37]; exact hp, fun hg => ⟨trivial, ends_bool rfl rfl⟩, fun hg => ?_⟩
  have hg : good y1 = true := by simpa using hg
  obtain ⟨hm, hr⟩ := good_in hg
  have m1 := massE_turn y1
  have m2 := massE_nrm (turnE y1)
  have r1 := rightE_nrm _ _ (rightE_turn _ _ hr)
  have m3 := massE_nrm y1
  have ht := twice y1
  rw [← hy3] at m2 r1 ht
  rw [← hy4, ← hy2] at ht
  rw [← hy2] at m3
  refine ⟨by simp only [pre45]; exact ⟨by omega, 64, hr⟩, by simp only [pre45]; exact ⟨by omega, 64, r1⟩, by simp only [pre41]; exact ⟨by omega, 64, hr⟩, by simp only [pre39]; rw [ht]; omega, fun _ => trivial, ends_bool rfl ?_⟩
  rw [ht, eqX_self]
  rfl

end Go.AM.Ytlahjnelghpmeaa
