import Derived.Test.YtpjenobkibfpcaaGreatZKL07
import Derived.Test.YtpjenobkibfpcaaGreatYB42b
set_option linter.unusedSimpArgs false
set_option linter.unusedVariables false
namespace Go.AM.YtpjenobkibfpcaaGreat
open Go.AM Go.Proofs Go.Proofs.YtpjenobkibfpcaaGreat Go.ChangeShapes Go.WideShapes Go.RowKit
set_option maxRecDepth 100000 in
theorem Z7d(c:Contract Tryz.prog cfg 6 Zpp)(os:Os)(started:os.Started)(H:Type)(enc:TypeId × Value->H):
  ReturnsInHanded {} Tryz.checked os 6 .any (Rows.historySquashSpec.pre6 enc Tryz.prog Tryz.f6 [] false) (Rows.historySquashSpec.post enc Tryz.prog Tryz.f6 Rows.historySquashRow.apart Rows.historySquashRow.fresh Rows.historySquashRow.handsOn Rows.historySquashRow.again):=by
 refine returnsInHanded_of_change_sized (C:=Tryz.checked) own started V3 Tryz.func6 (ChangeSpec.witness6 (enc:=enc) (C:=Tryz.checked) false ⟨#[],#[.agg #[.int .i64 0,.slice none 0 0,.slice none 0 0],.slice none 0 0],[]⟩ 8 V3 V3 V3 V3) ?_
 intro W s args ds gs af ae hW _ ab _
 have ah:=hW
 have u:(DataW.weightsEach Tryz.prog (Tryz.f6.params.toList++Rows.historySquashSpec.plain.varTypes Tryz.prog) (ds++gs)).all (·<=reachBytes)=true:=ab
 have ai:Rows.historySquashSpec.plain.varTypes Tryz.prog=[]:=rfl
 rw [ai,Tryz.params6] at u
 obtain ⟨p,q,hA,hV,e,_⟩:=ah
 obtain ⟨rfl,_⟩:=trodVars_none hV
 have aa:DataW.TrodAll enc Tryz.prog W 0 (fun _=> true) true Tryz.f6.params.toList args.toList ds p:=hA
 rw [Tryz.params6] at aa
 obtain ⟨v0,v1,d0,d1,p0,p1,hv,rfl,_⟩:=trodAll_two aa
 refine Calls.mono (ZtZ (henc:=enc) (cfg:=cfg) (Zhr ZCo (Zhr ZzE (Zuz))) (pre:=pre6) (fun a h=> ⟨h.1,h.2.1.2⟩) c W s args _ p ?_ hA (by simpa using u)) ?_
 .intro j t v ht hv
  exact ae j t v (by simpa using ht) (by simpa using hv)
 .rintro e W' ⟨rfl,hb⟩
  exact ⟨_,rfl,Zyx ZC5 V3 (tb:=4) rfl Tryz.underlying4 rfl rfl hW hb⟩
theorem ZcB(c:Contract Tryz.prog cfg 6 Zpp):Rows.HistorySquashSaid:=
 OpenClaim.holds_of_wide 6 Tryz.f6 rfl rfl rfl rfl rfl rfl rfl ⟨rfl,rfl,rfl,rfl,rfl⟩ rfl rfl rfl rfl rfl V3 Tryz.func6 V3
  (of_decide_eq_true V3) (by unfold Func.isWrapper;first | (rw [if_pos (by decide+kernel)];kernel_rfl) | (rw [if_neg (by decide+kernel)];exact ⟨rfl,rfl⟩))
  (fun os h H enc _=> Z7d c os h H enc)
theorem historySquash_proved:Rows.HistorySquashSaid:=ZcB c6
end Go.AM.YtpjenobkibfpcaaGreat
