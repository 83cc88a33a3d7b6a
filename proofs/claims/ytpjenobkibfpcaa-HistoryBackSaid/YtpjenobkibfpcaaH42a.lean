import Derived.Test.YtpjenobkibfpcaaKL07
import Derived.Test.YtpjenobkibfpcaaCB42c
set_option linter.unusedSimpArgs false
set_option linter.unusedVariables false
namespace Go.AM.Ytpjenobkibfpcaa
open Go.AM Go.Proofs Go.Proofs.Ytpjenobkibfpcaa Go.ChangeShapes Go.WideShapes Go.RowKit
set_option maxRecDepth 100000 in
theorem Z5f(c:Contract Try.prog cfg 11 ZbJ)(os:Os)(started:os.Started)(H:Type)(enc:TypeId × Value->H):
  ReturnsInHanded {} Try.checked os 11 .any (Rows.historyBackSpec.pre6 enc Try.prog Try.f11 [] false) (Rows.historyBackSpec.post enc Try.prog Try.f11 Rows.historyBackRow.apart Rows.historyBackRow.fresh Rows.historyBackRow.handsOn Rows.historyBackRow.again):=by
 refine returnsInHanded_of_change_sized (C:=Try.checked) own started (by kernel_rfl) Try.func11 (ChangeSpec.witness6 (enc:=enc) (C:=Try.checked) false ⟨#[],#[.agg #[.int .i64 0,.slice none 0 0,.slice none 0 0],.slice none 0 0],[]⟩ 8 (by kernel_rfl) (by kernel_rfl) (by kernel_rfl) (by kernel_rfl)) ?_
 intro W base args ds gs before hval hW _ hsz0 _
 have hW0:=hW
 have hsz:(DataW.weightsEach Try.prog (Try.f11.params.toList++Rows.historyBackSpec.plain.varTypes Try.prog) (ds++gs)).all (·<=reachBytes)=true:=hsz0
 have hvt:Rows.historyBackSpec.plain.varTypes Try.prog=[]:=rfl
 rw [hvt,Try.params11] at hsz
 obtain ⟨p,q,hA,hV,e,_⟩:=hW0
 obtain ⟨rfl,_⟩:=trodVars_none hV
 have hA':DataW.TrodAll enc Try.prog W 0 (fun _=> true) true Try.f11.params.toList args.toList ds p:=hA
 rw [Try.params11] at hA'
 obtain ⟨v0,v1,d0,d1,p0,p1,hv,rfl,_⟩:=trodAll_two hA'
 refine Calls.mono (Zj0 (henc:=enc) (cfg:=cfg) (Zal ZoV (Zal Zn0 (Zjo))) (pre:=Zl8) (fun a h=> ⟨⟨h.1.1,h.1.2⟩,h.2.1.2⟩) c W base args _ p ?_ hA (by simpa using hsz)) ?_
 ·intro j t v ht hv
  exact hval j t v (by simpa using ht) (by simpa using hv)
 ·rintro e W' ⟨rfl,hb⟩
  exact ⟨_,rfl,ZlZ ZoJ (by kernel_rfl) (tb:=4) rfl Try.underlying4 rfl rfl hW hb⟩
theorem Za8(c:Contract Try.prog cfg 11 ZbJ):Rows.HistoryBackSaid:=
 OpenClaim.holds_of_wide 11 Try.f11 rfl rfl rfl rfl rfl rfl rfl ⟨rfl,rfl,rfl,rfl,rfl⟩ rfl rfl rfl rfl rfl (by kernel_rfl) Try.func11 (by kernel_rfl)
  (of_decide_eq_true (by kernel_rfl)) (by unfold Func.isWrapper;first | (rw [if_pos (by decide+kernel)];kernel_rfl) | (rw [if_neg (by decide+kernel)];exact ⟨rfl,rfl⟩))
  (fun os started H enc _=> Z5f c os started H enc)
theorem historyBack_proved:Rows.HistoryBackSaid:=Za8 c11
end Go.AM.Ytpjenobkibfpcaa
