import Derived.Test.YthokdjgpdonhgaaQBj
set_option linter.unusedSimpArgs false
set_option linter.unusedVariables false
namespace Go.AM.Ythokdjgpdonhgaa
open Go.AM Go.Proofs Go.Proofs.Ythokdjgpdonhgaa Go.ChangeShapes Go.WideShapes Go.RowKit

set_option maxRecDepth 100000 in
theorem readerLists_lifted (c : Contract Try.prog cfg 3 spec3) (os : Os) (started : os.Started) (H : Type) (enc : TypeId × Value → H) (F : Stop.Interp) :
    ReturnsInHanded {} Try.checked os 3 .any ((Rows.OpenSpec.upto Rows.readerListsSpec).pre6 enc Try.prog Try.f3 Rows.readerListsUptoRow.domain false) (((Rows.OpenSpec.upto Rows.readerListsSpec).at F).post enc Try.prog Try.f3 Rows.readerListsUptoRow.apart Rows.readerListsUptoRow.fresh Rows.readerListsUptoRow.handsOn Rows.readerListsUptoRow.again) := by
  refine returnsInHanded_of_cond_sized (C := Try.checked) (s := Rows.OpenSpec.upto Rows.readerListsSpec) (k := Rows.uptoSmall) rfl own started (by kernel_rfl) Try.func3
    (OpenSpec.witness (enc := enc) (C := Try.checked) (s := Rows.OpenSpec.upto Rows.readerListsSpec) (k := Rows.uptoSmall) rfl false ⟨#[], #[.int .i64 0, .slice none 0 0, .int .i64 0], []⟩ 8 (by kernel_rfl) (by kernel_rfl) (by kernel_rfl)
      (x := ([.lit (.int .i64 0), .nil, .lit (.int .i64 0)], [], [])) (by kernel_rfl) rfl (by kernel_rfl)) ?_
  intro W base args ds gs before hval hW _ hk hsz0 _
  have hW0 := hW
  have hsz : (DataW.weightsEach Try.prog (Try.f3.params.toList ++ Rows.readerListsSpec.plain.varTypes Try.prog) (ds ++ gs)).all (· ≤ reachBytes) = true := hsz0
  have hvt : Rows.readerListsSpec.plain.varTypes Try.prog = [] := rfl
  rw [hvt, Try.params3] at hsz
  obtain ⟨p, q, hA, hV, e, _⟩ := hW0
  obtain ⟨rfl, _⟩ := trodVars_none hV
  have hA' : DataW.TrodAll enc Try.prog W 0 (fun _ => true) true Try.f3.params.toList args.toList ds p := hA
  rw [Try.params3] at hA'
  obtain ⟨v0, v1, v2, d0, d1, d2, p0, p1, p2, hv, rfl, _⟩ := trodAll_three hA'
  have hb : Rows.uptoBulkAll ([d0, d1, d2] ++ []) ≤ 1048576 := of_decide_eq_true hk
  rw [List.append_nil] at hb
  refine Calls.mono (law_callsU (henc := enc) (cfg := cfg) (N := 1048576) (argLRU_cons (argInt).upto (argLRU_cons (argRU_sl cfgOk rfl argSU64) (argLRU_cons (argInt).upto (argLRU_nil)))) (pre := pre3) (fun a h => ⟨h.2.1.2.2, h.2.1.1⟩) c W base args _ p ?_ hA (by simpa using hsz) (fun d hd => Nat.le_trans (lenD_bulk hd) hb)) ?_
  · intro j t v ht hv
    exact hval j t v (by simpa using ht) (by simpa using hv)
  · rintro e W' ⟨rfl, hbb⟩
    exact ⟨_, rfl, law_post laidOut (by kernel_rfl) (tb := 4) rfl Try.underlying4 rfl rfl hW hbb⟩

theorem readerLists_of (c : Contract Try.prog cfg 3 spec3) : Rows.ReaderListsUptoSaid :=
  OpenClaim.holds_of_cond 3 Try.f3 rfl rfl rfl rfl rfl rfl rfl ⟨rfl, rfl, rfl, rfl, rfl⟩ rfl rfl rfl rfl rfl (by kernel_rfl) Try.func3 (by kernel_rfl)
    (of_decide_eq_true (by kernel_rfl)) (by unfold Func.isWrapper; first | (rw [if_pos (by decide +kernel)]; kernel_rfl) | (rw [if_neg (by decide +kernel)]; exact ⟨rfl, rfl⟩))
    (fun os started H enc _ F => readerLists_lifted c os started H enc F)


theorem readerListsUpto_proved : Rows.ReaderListsUptoSaid := readerLists_of c3

end Go.AM.Ythokdjgpdonhgaa
