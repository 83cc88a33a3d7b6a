/- The seat's arguments are read: edits, and their steps. -/
import Derived.Test.YtlahjnelghpmeaaHB
import Derived.Test.YtlahjnelghpmeaaAmXE
set_option linter.unusedSimpArgs false
set_option linter.unusedVariables false
namespace Go.AM.Ytlahjnelghpmeaa
open Go.AM Go.Proofs Go.Proofs.Ytlahjnelghpmeaa Go.ChangeShapes Go.WideShapes Go.RowKit

theorem editTypes : EditTypes cfg := ⟨⟨_, rfl, rfl⟩, ⟨_, _, rfl, rfl⟩, ⟨_, _, rfl, rfl⟩, ⟨_, _, rfl, rfl⟩, ⟨_, _, rfl, rfl⟩, ⟨_, rfl, rfl⟩, ⟨_, _, rfl, rfl⟩, rfl, ⟨_, rfl, rfl⟩, ⟨_, _, rfl, rfl⟩, ⟨_, _, rfl, rfl⟩, ⟨_, _, rfl, rfl, rfl⟩, rfl, ⟨_, rfl, rfl⟩, ⟨_, _, rfl, rfl⟩, rfl, rfl, ⟨_, _, rfl, rfl, rfl⟩, ⟨_, _, rfl, rfl, rfl⟩, ⟨_, _, rfl, rfl⟩, ⟨_, _, rfl, rfl, rfl⟩⟩
theorem argSOp {H : Type} {henc : TypeId × Value → H} : ArgR henc Try.prog cfg (aSl .op) 22 (fun l => l.length * cfg.bytes .op ≤ reachBytes ∧ ∀ e ∈ l, inO e) :=
  argR_sl cfgOk rfl (fun _ n cs h => rd_op cfgOk treeTypes editTypes n (fun m _ cs h => rd_edit cfgOk treeTypes editTypes m cs h) cs h)

theorem inSteps {l : List Op} (h : l.length * cfg.bytes .op ≤ reachBytes ∧ ∀ e ∈ l, inO e) (k : Int) (hk : isI k) : smallE (Edit.mk 3 Tree.nil Tree.nil [] [] k l) ∧ rngE (Edit.mk 3 Tree.nil Tree.nil [] [] k l) := by
  have ho := inO_all h.2
  have hb : l.length * 240 ≤ reachBytes := h.1
  have hr := reach_div hb (by decide)
  refine ⟨?_, ?_⟩
  · simp only [smallE, Tree.nil, small, smallK, smallKs, List.length_nil]
    exact ⟨⟨by omega, by omega, trivial⟩, ⟨by omega, by omega, trivial⟩, by omega, by omega, hr, trivial, ho.1⟩
  · simp only [rngE, Tree.nil, rng, rngK, rngKs]
    exact ⟨by unfold isI; omega, ⟨by decide, by simp, trivial⟩, ⟨by decide, by simp, trivial⟩, by simp, hk, trivial, ho.2⟩

end Go.AM.Ytlahjnelghpmeaa
