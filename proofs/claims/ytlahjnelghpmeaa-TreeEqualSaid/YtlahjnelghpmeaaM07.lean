/- Chapter 7: the laws' bodies. -/
import Derived.Test.YtlahjnelghpmeaaL07
import Derived.Test.YtlahjnelghpmeaaG07L
set_option linter.unusedSimpArgs false
set_option linter.unusedVariables false
namespace Go.AM.Ytlahjnelghpmeaa
open Go.AM Go.Proofs

theorem sameT_comm (a b : Tree) : sameT a b = sameT b a := by simp [sameT, eq_comm]
theorem sameT_self (a : Tree) : sameT a a = true := by simp [sameT]

theorem few_mass {t : Tree} (h : 0 ≤ shallow t 80 3000) : mass t ≤ 1000000 := by
  have := shallow_mass t 80 3000 h
  omega

theorem c7 : Contract Try.prog cfg 7 spec7 := by
  refine make7 c29 (c30 c34) c34 c36 ?_
  intro a b _ hp
  refine vc7 _ _ _ ?_
  (simp only [Tree.eta, Edit.eta, Tree.kind_mk, Tree.words_mk, Tree.kids_mk])
  simp only [sameT_comm (normT b) (normT a), sameT_self, beq_self_eq_true]
  (simp only [bif_tl, bif_fr, bif_tlf, bif_frf, Bool.not_eq_true', Bool.not_eq_false', decide_eq_true_eq, decide_eq_false_iff_not, beq_iff_eq, beq_eq_false_iff_ne, bne_iff_ne, ne_eq, bne_eq_false_iff_eq, Bool.or_eq_true, Bool.and_eq_true, Bool.or_eq_false_iff, Bool.and_eq_false_imp])
  refine ⟨hp.1, fun _ => hp.2, ?_, fun hc => ⟨trivial, ?_⟩, fun hc => ?_⟩
  · exact id
  · exact ⟨⟨rfl, ⟨rfl, trivial⟩, trivial⟩, trivial⟩
  · have ma := few_mass hc.1
    have mb := few_mass hc.2
    exact ⟨⟨ma, mb⟩, ⟨ma, mb⟩, fun _ => ⟨mb, ma⟩, fun _ => ⟨ma, mb⟩, id, fun _ => ⟨ma, ma⟩, fun h => h, fun _ => trivial, fun h => h, ⟨⟨rfl, ⟨rfl, trivial⟩, trivial⟩, trivial⟩⟩

theorem trim_idem (l : List Int) : trim (trim l) = trim l := by
  induction l with
  | nil => rfl
  | cons x r ih =>
    rw [trim_cons]
    split
    · rfl
    · rename_i h
      rw [trim_cons, ih, if_neg h]

theorem trimK_idem (l : List Tree) : trimK (trimK l) = trimK l := by
  induction l with
  | nil => rfl
  | cons x r ih =>
    rw [trimK_cons]
    split
    · rfl
    · rename_i h
      rw [trimK_cons, ih, if_neg h]

/-- Every one is its own Norm. -/
def Normed : List Tree → Prop
  | [] => True
  | t :: r => normT t = t ∧ Normed r

theorem Normed.eq : ∀ {l : List Tree}, Normed l → normK l = l
  | [], _ => rfl
  | t :: r, h => by simp only [normK, h.1, Normed.eq h.2]

theorem Normed.trim : ∀ {l : List Tree}, Normed l → Normed (trimK l)
  | [], _ => trivial
  | t :: r, h => by
    rw [trimK_cons]
    split
    · trivial
    · exact ⟨h.1, Normed.trim h.2⟩

mutual
theorem normT_idem : ∀ (t : Tree), normT (normT t) = normT t
  | .mk k w ks => by
    have h := normK_normed ks
    by_cases h0 : k = 0
    · simp [normT, h0, Tree.nil]
    · by_cases h1 : k = 1
      · subst h1
        simp only [normT, if_neg h0, if_true, trim_idem, h.trim.eq, trimK_idem]
      · simp only [normT, if_neg h0, if_neg h1, h.eq]
theorem normK_normed : ∀ (ks : List Tree), Normed (normK ks)
  | [] => trivial
  | t :: r => ⟨normT_idem t, normK_normed r⟩
end

theorem trimK_weight : ∀ (l : List Tree), weightK (trimK l) + (trimK l).length ≤ weightK l + l.length
  | [] => by simp [trimK]
  | x :: r => by
    have := trimK_weight r
    have hx := weight_range x
    have hr := weightK_range r
    rw [trimK_cons]
    split
    · simp only [weightK, List.length_cons, List.length_nil]; omega
    · simp only [weightK, List.length_cons]; omega

mutual
theorem normT_weight : ∀ (t : Tree), weight (normT t) ≤ weight t
  | .mk k w ks => by
    have h1 := normK_weight ks
    have h2 := trimK_weight (normK ks)
    have h3 := trim_len w
    have h4 := normK_len ks
    by_cases h0 : k = 0
    · simp [normT, h0, Tree.nil, weight]
    · by_cases h1 : k = 1
      · subst h1
        simp only [normT, if_neg h0, if_true, weight]
        omega
      · simp only [normT, if_neg h0, if_neg h1, weight, h4]
        omega
theorem normK_weight : ∀ (ks : List Tree), weightK (normK ks) ≤ weightK ks
  | [] => by simp [normK]
  | t :: r => by
    have h1 := normT_weight t
    have h2 := normK_weight r
    simp only [normK, weightK]
    omega
end

theorem c6 : Contract Try.prog cfg 6 spec6 := by
  refine make6 c29 (c30 c34) c31 c32 c33 c34 c35 ?_
  intro t _ hp
  refine vc6 _ _ ?_
  (simp only [Tree.eta, Edit.eta, Tree.kind_mk, Tree.words_mk, Tree.kids_mk])
  simp only [normT_idem, sameT_self, normT_weight]
  (simp only [bif_tl, bif_fr, bif_tlf, bif_frf, Bool.not_eq_true', Bool.not_eq_false', decide_eq_true_eq, decide_eq_false_iff_not, beq_iff_eq, beq_eq_false_iff_ne, bne_iff_ne, ne_eq, bne_eq_false_iff_eq, Bool.or_eq_true, Bool.and_eq_true, Bool.or_eq_false_iff, Bool.and_eq_false_imp])
  refine ⟨hp, fun hc => ⟨trivial, ?_⟩, fun hc => ?_⟩
  · exact ⟨⟨rfl, ⟨rfl, trivial⟩, trivial⟩, trivial⟩
  · have ma := few_mass hc
    have mb : mass (normT t) ≤ 1000000 := Nat.le_trans (normT_mass t) ma
    refine ⟨ma, ma, mb, fun _ => mb, fun _ => mb, id, fun _ => ⟨mb, ma⟩, fun h => h, fun _ => mb, fun _ => ma, fun h => h, fun _ => trivial, fun h => h, ?_⟩
    have e : decide (weight (normT t) ≤ weight t) = true := decide_eq_true (normT_weight t)
    exact ⟨⟨rfl, ⟨by simp [normT_weight]; rfl, trivial⟩, trivial⟩, trivial⟩

end Go.AM.Ytlahjnelghpmeaa
