import Derived.Test.YtpjenobkibfpcaaKB07
import Derived.Test.YtpjenobkibfpcaaCB40h
set_option linter.unusedSimpArgs false
set_option linter.unusedVariables false
namespace Go.AM.Ytpjenobkibfpcaa
open Go.AM Go.Proofs Go.Proofs.Ytpjenobkibfpcaa Go.ChangeShapes Go.WideShapes Go.RowKit
set_option maxRecDepth 100000 in
theorem Z5T(c:Contract Try.prog cfg 7 Zhq)(os:Os)(started:os.Started)(H:Type)(enc:TypeId × Value→H):
  ReturnsInHanded {} Try.checked os 7 .any (Rows.focusLeavesSpec.pre6 enc Try.prog Try.f7 [] false) (Rows.focusLeavesSpec.post enc Try.prog Try.f7 Rows.focusLeavesRow.apart Rows.focusLeavesRow.fresh Rows.focusLeavesRow.handsOn Rows.focusLeavesRow.again):=by
 refine returnsInHanded_of_change_sized (C:=Try.checked) own started (by kernel_rfl) Try.func7 (ChangeSpec.witness6 (enc:=enc) (C:=Try.checked) false ⟨#[],#[.agg #[.int .i64 0,.slice none 0 0,.slice none 0 0],.slice none 0 0,.agg #[.int .i64 0,.int .i64 0,.slice none 0 0,.slice none 0 0,.int .i64 0,.slice none 0 0,.slice none 0 0,.slice none 0 0,.slice none 0 0,.int .i64 0,.slice none 0 0],.slice none 0 0],[]⟩ 8 (by kernel_rfl) (by kernel_rfl) (by kernel_rfl) (by kernel_rfl)) ?_
 intro W base args ds gs before hval hW _ hsz0 _
 have hW0:=hW
 have hsz:(DataW.weightsEach Try.prog (Try.f7.params.toList++Rows.focusLeavesSpec.plain.varTypes Try.prog) (ds++gs)).all (·≤reachBytes)=true:=hsz0
 have hvt:Rows.focusLeavesSpec.plain.varTypes Try.prog=[]:=rfl
 rw [hvt,Try.params7] at hsz
 obtain ⟨p,q,hA,hV,e,_⟩:=hW0
 obtain ⟨rfl,_⟩:=trodVars_none hV
 have hA':DataW.TrodAll enc Try.prog W 0 (fun _=> true) true Try.f7.params.toList args.toList ds p:=hA
 rw [Try.params7] at hA'
 obtain ⟨v0,v1,v2,v3,d0,d1,d2,d3,p0,p1,p2,p3,hv,rfl,_⟩:=trodAll_four hA'
 refine Calls.mono (Zkg (henc:=enc) (cfg:=cfg) (Z3o Zqq (Z3o Zfs (Z3o Zqs (Z3o Zfs (ZkF))))) (pre:=Zp9) (fun a h=> ⟨⟨h.1,ZiF h.2.1⟩,h.2.2.1,ZiF h.2.2.2.1⟩) c W base args _ p ?_ hA (by simpa using hsz)) ?_
 ·intro j t v ht hv
  exact hval j t v (by simpa using ht) (by simpa using hv)
 ·rintro e W' ⟨rfl,hb⟩
  exact ⟨_,rfl,ZmV Zq9 (by kernel_rfl) (tb:=4) rfl Try.underlying4 rfl rfl hW hb⟩
theorem Zb2(c:Contract Try.prog cfg 7 Zhq):Rows.FocusLeavesSaid:=
 OpenClaim.holds_of_wide 7 Try.f7 rfl rfl rfl rfl rfl rfl rfl ⟨rfl,rfl,rfl,rfl,rfl⟩ rfl rfl rfl rfl rfl (by kernel_rfl) Try.func7 (by kernel_rfl)
  (of_decide_eq_true (by kernel_rfl)) (by unfold Func.isWrapper;first | (rw [if_pos (by decide+kernel)];kernel_rfl) | (rw [if_neg (by decide+kernel)];exact ⟨rfl,rfl⟩))
  (fun os started H enc _=> Z5T c os started H enc)
theorem focusLeaves_proved:Rows.FocusLeavesSaid:=Zb2 c7
end Go.AM.Ytpjenobkibfpcaa
