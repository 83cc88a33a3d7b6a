import Derived.Test.YtpjenobkibfpcaaGreatZKB07
import Derived.Test.YtpjenobkibfpcaaGreatYB41b
set_option linter.unusedSimpArgs false
set_option linter.unusedVariables false
namespace Go.AM.YtpjenobkibfpcaaGreat
open Go.AM Go.Proofs Go.Proofs.YtpjenobkibfpcaaGreat Go.ChangeShapes Go.WideShapes Go.RowKit
set_option maxRecDepth 100000 in
theorem Z8H(c:Contract Tryz.prog cfg 5 ZmI)(os:Os)(started:os.Started)(H:Type)(enc:TypeId × Value→H):
  ReturnsInHanded {} Tryz.checked os 5 .any (Rows.splitPartsSpec.pre6 enc Tryz.prog Tryz.f5 [] false) (Rows.splitPartsSpec.post enc Tryz.prog Tryz.f5 Rows.splitPartsRow.apart Rows.splitPartsRow.fresh Rows.splitPartsRow.handsOn Rows.splitPartsRow.again):=by
 refine returnsInHanded_of_change_sized (C:=Tryz.checked) own started (by kernel_rfl) Tryz.func5 (ChangeSpec.witness6 (enc:=enc) (C:=Tryz.checked) false ⟨#[],#[.agg #[.int .i64 0,.int .i64 0,.slice none 0 0,.slice none 0 0,.int .i64 0,.slice none 0 0,.slice none 0 0,.slice none 0 0,.slice none 0 0,.int .i64 0,.slice none 0 0]],[]⟩ 8 (by kernel_rfl) (by kernel_rfl) (by kernel_rfl) (by kernel_rfl)) ?_
 intro W base args ds gs before hval hW _ hsz0 _
 have hW0:=hW
 have hsz:(DataW.weightsEach Tryz.prog (Tryz.f5.params.toList++Rows.splitPartsSpec.plain.varTypes Tryz.prog) (ds++gs)).all (·≤reachBytes)=true:=hsz0
 have hvt:Rows.splitPartsSpec.plain.varTypes Tryz.prog=[]:=rfl
 rw [hvt,Tryz.params5] at hsz
 obtain ⟨p,q,hA,hV,e,_⟩:=hW0
 obtain ⟨rfl,_⟩:=trodVars_none hV
 have hA':DataW.TrodAll enc Tryz.prog W 0 (fun _=> true) true Tryz.f5.params.toList args.toList ds p:=hA
 rw [Tryz.params5] at hA'
 obtain ⟨v0,d0,hv,rfl,_⟩:=trodAll_one hA'
 refine Calls.mono (ZqF (henc:=enc) (cfg:=cfg) (Zmy ZxW (Zr3)) (pre:=Zwj) (fun a h=> h.1) c W base args _ p ?_ hA (by simpa using hsz)) ?_
 ·intro j t v ht hv
  exact hval j t v (by simpa using ht) (by simpa using hv)
 ·rintro e W' ⟨rfl,hb⟩
  exact ⟨_,rfl,Zuj ZxB (by kernel_rfl) (tb:=4) rfl Tryz.underlying4 rfl rfl hW hb⟩
theorem Zfn(c:Contract Tryz.prog cfg 5 ZmI):Rows.SplitPartsSaid:=
 OpenClaim.holds_of_wide 5 Tryz.f5 rfl rfl rfl rfl rfl rfl rfl ⟨rfl,rfl,rfl,rfl,rfl⟩ rfl rfl rfl rfl rfl (by kernel_rfl) Tryz.func5 (by kernel_rfl)
  (of_decide_eq_true (by kernel_rfl)) (by unfold Func.isWrapper;first | (rw [if_pos (by decide+kernel)];kernel_rfl) | (rw [if_neg (by decide+kernel)];exact ⟨rfl,rfl⟩))
  (fun os started H enc _=> Z8H c os started H enc)
theorem splitParts_proved:Rows.SplitPartsSaid:=Zfn c5
end Go.AM.YtpjenobkibfpcaaGreat
