import Derived.Test.YtfapacabjkhepaaGreatWKRB07
import Derived.Test.YtfapacabjkhepaaGreatWB44e
set_option linter.unusedSimpArgs false
set_option linter.unusedVariables false
namespace Go.AM.YtfapacabjkhepaaGreat
open Go.AM Go.Proofs Go.Proofs.YtfapacabjkhepaaGreat Go.ChangeShapes Go.WideShapes Go.RowKit
set_option maxRecDepth 100000 in
theorem Z82(c:Contract Tryz.prog cfg 4 Zn5)(os:Os)(started:os.Started)(H:Type)(enc:TypeId × Value->H):
  ReturnsInHanded {} Tryz.checked os 4 .any (Rows.bundleTreesSpec.pre6 enc Tryz.prog Tryz.f4 [] false) (Rows.bundleTreesSpec.post enc Tryz.prog Tryz.f4 Rows.bundleTreesRow.apart Rows.bundleTreesRow.fresh Rows.bundleTreesRow.handsOn Rows.bundleTreesRow.again):=by
 refine returnsInHanded_of_change_sized (C:=Tryz.checked) own started V5 Tryz.func4 (ChangeSpec.witness6 (enc:=enc) (C:=Tryz.checked) false ⟨#[],#[.agg #[.int .i64 0,.slice none 0 0,.slice none 0 0,.slice none 0 0],.agg #[.int .i64 0,.slice none 0 0,.slice none 0 0]],[]⟩ 8 V5 V5 V5 V5) ?_
 intro W s args ds gs ae aa hW _ d _
 have ah:=hW
 have ab:(DataW.weightsEach Tryz.prog (Tryz.f4.params.toList++Rows.bundleTreesSpec.plain.varTypes Tryz.prog) (ds++gs)).all (·<=reachBytes)=true:=d
 have af:Rows.bundleTreesSpec.plain.varTypes Tryz.prog=[]:=rfl
 rw [af,Tryz.params4] at ab
 obtain ⟨p,q,hA,hV,e,_⟩:=ah
 obtain ⟨rfl,_⟩:=trodVars_none hV
 have u:DataW.TrodAll enc Tryz.prog W 0 (fun _=> true) true Tryz.f4.params.toList args.toList ds p:=hA
 rw [Tryz.params4] at u
 obtain ⟨v0,v1,d0,d1,p0,p1,hv,rfl,_⟩:=trodAll_two u
 refine Calls.mono (ZqF (henc:=enc) (cfg:=cfg) (Zfm ZmW (Zfm ZyX (Zr2))) (pre:=ZBu) (fun a h=> ⟨⟨h.1.1.1,h.1.1.2,h.1.2.2,Z1f h.1.2.1 V2⟩,h.2.1⟩) c W s args _ p ?_ hA (by simpa using ab)) ?_
 .intro j t v ht hv
  exact aa j t v (by simpa using ht) (by simpa using hv)
 .rintro e W' ⟨rfl,hb⟩
  exact ⟨_,rfl,Zu6 ZyE V5 (tb:=4) rfl Tryz.underlying4 rfl rfl hW hb⟩
theorem Zfg(c:Contract Tryz.prog cfg 4 Zn5):Rows.BundleTreesSaid:=
 OpenClaim.holds_of_wide 4 Tryz.f4 rfl rfl rfl rfl rfl rfl rfl ⟨rfl,rfl,rfl,rfl,rfl⟩ rfl rfl rfl rfl rfl V5 Tryz.func4 V5
  (of_decide_eq_true V5) (by unfold Func.isWrapper;first | (rw [if_pos (by decide+kernel)];kernel_rfl) | (rw [if_neg (by decide+kernel)];exact ⟨rfl,rfl⟩))
  (fun os d H enc _=> Z82 c os d H enc)
theorem bundleTrees_proved:Rows.BundleTreesSaid:=Zfg c4
end Go.AM.YtfapacabjkhepaaGreat
