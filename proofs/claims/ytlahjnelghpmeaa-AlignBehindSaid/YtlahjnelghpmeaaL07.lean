/- Chapter 7: the laws. -/
import Derived.Test.YtlahjnelghpmeaaC07
import Derived.Test.YtlahjnelghpmeaaC34
set_option linter.unusedSimpArgs false
set_option linter.unusedVariables false
namespace Go.AM.Ytlahjnelghpmeaa
open Go.AM Go.Proofs

mutual
theorem shallow_mass : ∀ (t : Tree) (d l : Int), 0 ≤ shallow t d l → (mass t : Int) + shallow t d l ≤ l
  | .mk _ w ks, d, l, h => by
    simp only [shallow] at h ⊢
    split at h
    · omega
    · rename_i hc
      rw [if_neg hc]
      have := shallowK_mass ks (d - 1) (l - 1 - w.length) h
      simp only [mass]
      omega
theorem shallowK_mass : ∀ (ks : List Tree) (d l : Int), 0 ≤ shallowK ks d l → (massK ks : Int) + shallowK ks d l ≤ l
  | [], d, l, h => by simp [shallowK, massK]
  | t :: r, d, l, h => by
    simp only [shallowK] at h ⊢
    split at h
    · omega
    · rename_i hc
      rw [if_neg hc]
      have h1 := shallowK_mass r d (shallow t d l) h
      have h3 := (shallowK_range r d (shallow t d l) (shallow_range t d l).1).2
      have h2 := shallow_mass t d l (by omega)
      simp only [massK]
      omega
end

end Go.AM.Ytlahjnelghpmeaa
