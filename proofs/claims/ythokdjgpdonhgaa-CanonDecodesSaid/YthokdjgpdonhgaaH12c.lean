import Derived.Test.YthokdjgpdonhgaaQD7
import Derived.Test.YthokdjgpdonhgaaQBq
set_option linter.unusedSimpArgs false
set_option linter.unusedVariables false
namespace Go.AM.Ythokdjgpdonhgaa
open Go.AM Go.Proofs Go.Proofs.Ythokdjgpdonhgaa Go.ChangeShapes Go.WideShapes Go.RowKit
set_option maxRecDepth 100000 in
theorem Z2V(c:Contract Try.prog cfg 16 Z9M)(os:Os)(started:os.Started)(H:Type)(enc:TypeId × Value->H):
  ReturnsInHanded {} Try.checked os 16 .any (Rows.canonDecodesSpec.pre6 enc Try.prog Try.f16 [] false) (Rows.canonDecodesSpec.post enc Try.prog Try.f16 Rows.canonDecodesRow.apart Rows.canonDecodesRow.fresh Rows.canonDecodesRow.handsOn Rows.canonDecodesRow.again):=by
 refine returnsInHanded_of_change_sized (C:=Try.checked) own started (by kernel_rfl) Try.func16 (ChangeSpec.witness6 (enc:=enc) (C:=Try.checked) false ⟨#[],#[.slice none 0 0,.agg #[.int .i64 0,.int .i64 0,.int .i64 0,.int .i64 0]],[]⟩ 8 (by kernel_rfl) (by kernel_rfl) (by kernel_rfl) (by kernel_rfl)) ?_
 intro W base args ds gs before hval hW _ hsz0 _
 have hW0:=hW
 have hsz:(DataW.weightsEach Try.prog (Try.f16.params.toList++Rows.canonDecodesSpec.plain.varTypes Try.prog) (ds++gs)).all (·<=reachBytes)=true:=hsz0
 have hvt:Rows.canonDecodesSpec.plain.varTypes Try.prog=[]:=rfl
 rw [hvt,Try.params16] at hsz
 obtain ⟨p,q,hA,hV,e,_⟩:=hW0
 obtain ⟨rfl,_⟩:=trodVars_none hV
 have hA':DataW.TrodAll enc Try.prog W 0 (fun _=> true) true Try.f16.params.toList args.toList ds p:=hA
 rw [Try.params16] at hA'
 obtain ⟨v0,v1,d0,d1,p0,p1,hv,rfl,_⟩:=trodAll_two hA'
 refine Calls.mono (ZfO (henc:=enc) (cfg:=cfg) (Z8m Zm4 (Z8m Zg9 (Zga))) (pre:=ZdO) (fun a h=> ⟨by show 1<=_;decide,fun w hw=> by rw [Qp.1 hw];exact ⟨Zfr (show _*8<=_ from h.1.1) (by decide),h.1.2⟩⟩) c W base args _ p ?_ hA (by simpa using hsz)) ?_
 ·intro j t v ht hv
  exact hval j t v (by simpa using ht) (by simpa using hv)
 ·rintro e W' ⟨rfl,hb⟩
  exact ⟨_,rfl,Zil ZlS (by kernel_rfl) (tb:=4) rfl Try.underlying4 rfl rfl hW hb⟩
theorem Z6i(c:Contract Try.prog cfg 16 Z9M):Rows.CanonDecodesSaid:=
 OpenClaim.holds_of_wide 16 Try.f16 rfl rfl rfl rfl rfl rfl rfl ⟨rfl,rfl,rfl,rfl,rfl⟩ rfl rfl rfl rfl rfl (by kernel_rfl) Try.func16 (by kernel_rfl)
  (of_decide_eq_true (by kernel_rfl)) (by unfold Func.isWrapper;first | (rw [if_pos (by decide+kernel)];kernel_rfl) | (rw [if_neg (by decide+kernel)];exact ⟨rfl,rfl⟩))
  (fun os started H enc _=> Z2V c os started H enc)
theorem canonDecodes_proved:Rows.CanonDecodesSaid:=Z6i c16
end Go.AM.Ythokdjgpdonhgaa
