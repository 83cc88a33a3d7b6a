import Derived.Test.YtpjenobkibfpcaaGreatZKC34
import Derived.Test.YtpjenobkibfpcaaGreatYB42a
set_option linter.unusedSimpArgs false
set_option linter.unusedVariables false
namespace Go.AM.YtpjenobkibfpcaaGreat
open Go.AM Go.Proofs Go.Proofs.YtpjenobkibfpcaaGreat Go.ChangeShapes Go.WideShapes Go.RowKit
set_option maxRecDepth 100000 in
theorem historyNone_lifted (c : Contract Tryz.prog cfg 8 spec8) (os : Os) (started : os.Started) (H : Type) (enc : TypeId × Value → H) :
    ReturnsInHanded {} Tryz.checked os 8 .any (Rows.historyNoneSpec.pre6 enc Tryz.prog Tryz.f8 [] false) (Rows.historyNoneSpec.post enc Tryz.prog Tryz.f8 Rows.historyNoneRow.apart Rows.historyNoneRow.fresh Rows.historyNoneRow.handsOn Rows.historyNoneRow.again) := by
  refine returnsInHanded_of_change_sized (C := Tryz.checked) own started (by kernel_rfl) Tryz.func8 (ChangeSpec.witness6 (enc := enc) (C := Tryz.checked) false ⟨#[], #[.agg #[.int .i64 0, .int .i64 0, .int .i64 0, .int .i64 0, .slice none 0 0, .slice none 0 0, .int .i64 0, .slice none 0 0, .slice none 0 0, .slice none 0 0, .slice none 0 0, .int .i64 0, .slice none 0 0]], []⟩ 8 (by kernel_rfl) (by kernel_rfl) (by kernel_rfl) (by kernel_rfl)) ?_
  intro W base args ds gs before hval hW _ hsz0 _
  have hW0 := hW
  have hsz : (DataW.weightsEach Tryz.prog (Tryz.f8.params.toList ++ Rows.historyNoneSpec.plain.varTypes Tryz.prog) (ds ++ gs)).all (· ≤ reachBytes) = true := hsz0
  have hvt : Rows.historyNoneSpec.plain.varTypes Tryz.prog = [] := rfl
  rw [hvt, Tryz.params8] at hsz
  obtain ⟨p, q, hA, hV, e, _⟩ := hW0
  obtain ⟨rfl, _⟩ := trodVars_none hV
  have hA' : DataW.TrodAll enc Tryz.prog W 0 (fun _ => true) true Tryz.f8.params.toList args.toList ds p := hA
  rw [Tryz.params8] at hA'
  obtain ⟨v0, d0, hv, rfl, _⟩ := trodAll_one hA'
  refine Calls.mono (law_calls (henc := enc) (cfg := cfg) (argLR_cons argDeed (argLR_nil)) (pre := pre8) (fun a h => h.1) c W base args _ p ?_ hA (by simpa using hsz)) ?_
  · intro j t v ht hv
    exact hval j t v (by simpa using ht) (by simpa using hv)
  · rintro e W' ⟨rfl, hb⟩
    exact ⟨_, rfl, law_post laidOut (by kernel_rfl) (tb := 4) rfl Tryz.underlying4 rfl rfl hW hb⟩
theorem historyNone_of (c : Contract Tryz.prog cfg 8 spec8) : Rows.HistoryNoneSaid :=
  OpenClaim.holds_of_wide 8 Tryz.f8 rfl rfl rfl rfl rfl rfl rfl ⟨rfl, rfl, rfl, rfl, rfl⟩ rfl rfl rfl rfl rfl (by kernel_rfl) Tryz.func8 (by kernel_rfl)
    (of_decide_eq_true (by kernel_rfl)) (by unfold Func.isWrapper; first | (rw [if_pos (by decide +kernel)]; kernel_rfl) | (rw [if_neg (by decide +kernel)]; exact ⟨rfl, rfl⟩))
    (fun os started H enc _ => historyNone_lifted c os started H enc)
theorem historyNone_proved : Rows.HistoryNoneSaid := historyNone_of c8
end Go.AM.YtpjenobkibfpcaaGreat
