import Derived.Test.YtcljdbpmjdgooaaEQBa
import Derived.Test.YtcljdbpmjdgooaaEB10
set_option linter.unusedSimpArgs false
set_option linter.unusedVariables false
namespace Go.AM.Ytcljdbpmjdgooaa
open Go.AM Go.Proofs Go.Proofs.Ytcljdbpmjdgooaa Go.ChangeShapes Go.WideShapes Go.RowKit
set_option maxRecDepth 100000 in
theorem Z5x(c:Contract Try.prog cfg 5 Zes)(os:Os)(started:os.Started)(H:Type)(enc:TypeId × Value->H):
  ReturnsInHanded {} Try.checked os 5 .any (Rows.buildMeansSpec.pre6 enc Try.prog Try.f5 [] false) (Rows.buildMeansSpec.post enc Try.prog Try.f5 Rows.buildMeansRow.apart Rows.buildMeansRow.fresh Rows.buildMeansRow.handsOn Rows.buildMeansRow.again):=by
 refine returnsInHanded_of_change_sized (C:=Try.checked) own started (by kernel_rfl) Try.func5 (ChangeSpec.witness6 (enc:=enc) (C:=Try.checked) false ⟨#[],#[.agg #[.int .i64 0,.slice none 0 0,.slice none 0 0],.int .i64 0],[]⟩ 8 (by kernel_rfl) (by kernel_rfl) (by kernel_rfl) (by kernel_rfl)) ?_
 intro W base args ds gs before hval hW _ hsz0 _
 have hW0:=hW
 have hsz:(DataW.weightsEach Try.prog (Try.f5.params.toList++Rows.buildMeansSpec.plain.varTypes Try.prog) (ds++gs)).all (·<=reachBytes)=true:=hsz0
 have hvt:Rows.buildMeansSpec.plain.varTypes Try.prog=[]:=rfl
 rw [hvt,Try.params5] at hsz
 obtain ⟨p,q,hA,hV,e,_⟩:=hW0
 obtain ⟨rfl,_⟩:=trodVars_none hV
 have hA':DataW.TrodAll enc Try.prog W 0 (fun _=> true) true Try.f5.params.toList args.toList ds p:=hA
 rw [Try.params5] at hA'
 obtain ⟨v0,v1,d0,d1,p0,p1,hv,rfl,_⟩:=trodAll_two hA'
 refine Calls.mono (ZgH (henc:=enc) (cfg:=cfg) (Z9f Zme (Z9f ZpG (Zh0))) (pre:=ZnI) (fun a h=> ⟨h.1,inI h.2.1⟩) c W base args _ p ?_ hA (by simpa using hsz)) ?_
 .intro j t v ht hv
  exact hval j t v (by simpa using ht) (by simpa using hv)
 .rintro e W' ⟨rfl,hb⟩
  exact ⟨_,rfl,ZiR ZlV (by kernel_rfl) (tb:=4) rfl Try.underlying4 rfl rfl hW hb⟩
theorem Z9x(c:Contract Try.prog cfg 5 Zes):Rows.BuildMeansSaid:=
 OpenClaim.holds_of_wide 5 Try.f5 rfl rfl rfl rfl rfl rfl rfl ⟨rfl,rfl,rfl,rfl,rfl⟩ rfl rfl rfl rfl rfl (by kernel_rfl) Try.func5 (by kernel_rfl)
  (of_decide_eq_true (by kernel_rfl)) (by unfold Func.isWrapper;first | (rw [if_pos (by decide+kernel)];kernel_rfl) | (rw [if_neg (by decide+kernel)];exact ⟨rfl,rfl⟩))
  (fun os started H enc _=> Z5x c os started H enc)
theorem buildMeans_proved:Rows.BuildMeansSaid:=Z9x c5
end Go.AM.Ytcljdbpmjdgooaa
