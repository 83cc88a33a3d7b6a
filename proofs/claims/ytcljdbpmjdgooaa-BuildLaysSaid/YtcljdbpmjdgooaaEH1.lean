import Derived.Test.YtcljdbpmjdgooaaEB1
import Derived.Test.YtcljdbpmjdgooaaEB8
set_option linter.unusedSimpArgs false
set_option linter.unusedVariables false
namespace Go.AM.Ytcljdbpmjdgooaa
open Go.AM Go.Proofs Go.Proofs.Ytcljdbpmjdgooaa Go.ChangeShapes Go.WideShapes Go.RowKit
set_option maxRecDepth 100000 in
theorem Z4v(c:Contract Try.prog cfg 3 ZbF)(os:Os)(started:os.Started)(H:Type)(enc:TypeId × Value->H):
  ReturnsInHanded {} Try.checked os 3 .any (Rows.buildLaysSpec.pre6 enc Try.prog Try.f3 [] false) (Rows.buildLaysSpec.post enc Try.prog Try.f3 Rows.buildLaysRow.apart Rows.buildLaysRow.fresh Rows.buildLaysRow.handsOn Rows.buildLaysRow.again):=by
 refine returnsInHanded_of_change_sized (C:=Try.checked) own started (by kernel_rfl) Try.func3 (ChangeSpec.witness6 (enc:=enc) (C:=Try.checked) false ⟨#[],#[.agg #[.int .i64 0,.slice none 0 0,.slice none 0 0],.int .i64 0,.int .i64 0],[]⟩ 8 (by kernel_rfl) (by kernel_rfl) (by kernel_rfl) (by kernel_rfl)) ?_
 intro W base args ds gs before hval hW _ hsz0 _
 have hW0:=hW
 have hsz:(DataW.weightsEach Try.prog (Try.f3.params.toList++Rows.buildLaysSpec.plain.varTypes Try.prog) (ds++gs)).all (·<=reachBytes)=true:=hsz0
 have hvt:Rows.buildLaysSpec.plain.varTypes Try.prog=[]:=rfl
 rw [hvt,Try.params3] at hsz
 obtain ⟨p,q,hA,hV,e,_⟩:=hW0
 obtain ⟨rfl,_⟩:=trodVars_none hV
 have hA':DataW.TrodAll enc Try.prog W 0 (fun _=> true) true Try.f3.params.toList args.toList ds p:=hA
 rw [Try.params3] at hA'
 obtain ⟨v0,v1,v2,d0,d1,d2,p0,p1,p2,hv,rfl,_⟩:=trodAll_three hA'
 refine Calls.mono (Zdh (henc:=enc) (cfg:=cfg) (Z3b ZhW (Z3b Zgm (Z3b Zgm (Zdq)))) (pre:=Zjm) (fun a h=> ⟨h.1,inI h.2.1⟩) c W base args _ p ?_ hA (by simpa using hsz)) ?_
 .intro j t v ht hv
  exact hval j t v (by simpa using ht) (by simpa using hv)
 .rintro e W' ⟨rfl,hb⟩
  exact ⟨_,rfl,Zf4 ZhI (by kernel_rfl) (tb:=4) rfl Try.underlying4 rfl rfl hW hb⟩
theorem Z8Z(c:Contract Try.prog cfg 3 ZbF):Rows.BuildLaysSaid:=
 OpenClaim.holds_of_wide 3 Try.f3 rfl rfl rfl rfl rfl rfl rfl ⟨rfl,rfl,rfl,rfl,rfl⟩ rfl rfl rfl rfl rfl (by kernel_rfl) Try.func3 (by kernel_rfl)
  (of_decide_eq_true (by kernel_rfl)) (by unfold Func.isWrapper;first | (rw [if_pos (by decide+kernel)];kernel_rfl) | (rw [if_neg (by decide+kernel)];exact ⟨rfl,rfl⟩))
  (fun os started H enc _=> Z4v c os started H enc)
theorem buildLays_proved:Rows.BuildLaysSaid:=Z8Z c3
end Go.AM.Ytcljdbpmjdgooaa
