import Derived.Test.YthokdjgpdonhgaaRG07
import Derived.Test.YthokdjgpdonhgaaQBk
set_option linter.unusedSimpArgs false
set_option linter.unusedVariables false
namespace Go.AM.Ythokdjgpdonhgaa
open Go.AM Go.Proofs Go.Proofs.Ythokdjgpdonhgaa Go.ChangeShapes Go.WideShapes Go.RowKit

set_option maxRecDepth 100000 in
theorem unfoldMoves_lifted (c : Contract Try.prog cfg 15 spec15) (os : Os) (started : os.Started) (H : Type) (enc : TypeId × Value → H) (F : Stop.Interp) :
    ReturnsInHanded {} Try.checked os 15 .any ((Rows.OpenSpec.upto Rows.unfoldMovesSpec).pre6 enc Try.prog Try.f15 Rows.unfoldMovesUptoRow.domain false) (((Rows.OpenSpec.upto Rows.unfoldMovesSpec).at F).post enc Try.prog Try.f15 Rows.unfoldMovesUptoRow.apart Rows.unfoldMovesUptoRow.fresh Rows.unfoldMovesUptoRow.handsOn Rows.unfoldMovesUptoRow.again) := by
  refine returnsInHanded_of_cond_sized (C := Try.checked) (s := Rows.OpenSpec.upto Rows.unfoldMovesSpec) (k := Rows.uptoSmall) rfl own started (by kernel_rfl) Try.func15
    (OpenSpec.witness (enc := enc) (C := Try.checked) (s := Rows.OpenSpec.upto Rows.unfoldMovesSpec) (k := Rows.uptoSmall) rfl false ⟨#[], #[.slice none 0 0, .slice none 0 0, .agg #[.int .i64 0, .int .i64 0, .int .i64 0, .int .i64 0]], []⟩ 8 (by kernel_rfl) (by kernel_rfl) (by kernel_rfl)
      (x := ([.nil, .nil, .agg [.lit (.int .i64 0), .lit (.int .i64 0), .lit (.int .i64 0), .lit (.int .i64 0)]], [], [])) (by kernel_rfl) rfl (by kernel_rfl)) ?_
  intro W base args ds gs before hval hW _ hk hsz0 _
  have hW0 := hW
  have hsz : (DataW.weightsEach Try.prog (Try.f15.params.toList ++ Rows.unfoldMovesSpec.plain.varTypes Try.prog) (ds ++ gs)).all (· ≤ reachBytes) = true := hsz0
  have hvt : Rows.unfoldMovesSpec.plain.varTypes Try.prog = [] := rfl
  rw [hvt, Try.params15] at hsz
  obtain ⟨p, q, hA, hV, e, _⟩ := hW0
  obtain ⟨rfl, _⟩ := trodVars_none hV
  have hA' : DataW.TrodAll enc Try.prog W 0 (fun _ => true) true Try.f15.params.toList args.toList ds p := hA
  rw [Try.params15] at hA'
  obtain ⟨v0, v1, v2, d0, d1, d2, p0, p1, p2, hv, rfl, _⟩ := trodAll_three hA'
  have hb : Rows.uptoBulkAll ([d0, d1, d2] ++ []) ≤ 1048576 := of_decide_eq_true hk
  rw [List.append_nil] at hb
  refine Calls.mono (law_callsU (henc := enc) (cfg := cfg) (N := 1048576) (argLRU_cons (argRU_sl cfgOk rfl argSWords) (argLRU_cons (argRU_sl cfgOk rfl argSWords) (argLRU_cons (argLimits).upto (argLRU_nil)))) (pre := pre15) (fun a h => ⟨inSegs h.1.2, inSegs h.2.1.2, h.1.1, h.2.1.1⟩) c W base args _ p ?_ hA (by simpa using hsz) (fun d hd => Nat.le_trans (lenD_bulk hd) hb)) ?_
  · intro j t v ht hv
    exact hval j t v (by simpa using ht) (by simpa using hv)
  · rintro e W' ⟨rfl, hbb⟩
    exact ⟨_, rfl, law_post laidOut (by kernel_rfl) (tb := 4) rfl Try.underlying4 rfl rfl hW hbb⟩

theorem unfoldMoves_of (c : Contract Try.prog cfg 15 spec15) : Rows.UnfoldMovesUptoSaid :=
  OpenClaim.holds_of_cond 15 Try.f15 rfl rfl rfl rfl rfl rfl rfl ⟨rfl, rfl, rfl, rfl, rfl⟩ rfl rfl rfl rfl rfl (by kernel_rfl) Try.func15 (by kernel_rfl)
    (of_decide_eq_true (by kernel_rfl)) (by unfold Func.isWrapper; first | (rw [if_pos (by decide +kernel)]; kernel_rfl) | (rw [if_neg (by decide +kernel)]; exact ⟨rfl, rfl⟩))
    (fun os started H enc _ F => unfoldMoves_lifted c os started H enc F)


theorem unfoldMovesUpto_proved : Rows.UnfoldMovesUptoSaid := unfoldMoves_of c15

end Go.AM.Ythokdjgpdonhgaa
