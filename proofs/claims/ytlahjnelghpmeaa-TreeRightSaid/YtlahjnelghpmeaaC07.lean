/- Chapter 7: awake. -/
import Derived.Test.YtlahjnelghpmeaaB07
set_option linter.unusedSimpArgs false
set_option linter.unusedVariables false
namespace Go.AM.Ytlahjnelghpmeaa
open Go.AM Go.Proofs

theorem c30 (c34 : Contract Try.prog cfg 34 spec34) : Contract Try.prog cfg 30 spec30 := by
  refine make30 c32 c69 c35 c34 ?_
  intro _ _
  have h1 : normT (.mk 1 [5, 0] [.mk 0 [] []]) = .mk 1 [5] [] := by simp [normT, normK, trim, trimK, Tree.nil, Tree.kind]
  have h2 : normT (.mk 1 [5] []) = .mk 1 [5] [] := by simp [normT, normK, trim, trimK]
  have h3 : weight (.mk 1 [5, 0] [.mk 0 [] []]) = 4 := by simp [weight, weightK]
  have h4 : weight (.mk 1 [5] []) = 2 := by simp [weight, weightK]
  have h5 : sameT (.mk 1 [5] []) (.mk 1 [5] []) = true := by simp [sameT]
  have m1 : mass (.mk 1 [5, 0] [.mk 0 [] []]) = 4 := by simp [mass, massK]
  have m2 : mass (.mk 1 [5] []) = 2 := by simp [mass, massK]
  refine vc30 _ ?_
  simp only [h1, h2, h3, h4, h5, m1, m2, Tree.kind_mk, Tree.words_mk, Tree.kids_mk, pre32, pre69, pre35, pre34]
  simp
  exact ⟨⟨rfl, ⟨rfl, trivial⟩, trivial⟩, trivial⟩

end Go.AM.Ytlahjnelghpmeaa
