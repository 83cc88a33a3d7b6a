import Derived.Test.YtnfbomhidainjaaGreatTKG24
import Derived.Test.YtnfbomhidainjaaGreatOB12
set_option linter.unusedSimpArgs false
set_option linter.unusedVariables false
namespace Go.AM.YtnfbomhidainjaaGreat
open Go.AM Go.Proofs Go.Proofs.YtnfbomhidainjaaGreat Go.ChangeShapes Go.WideShapes Go.RowKit
set_option maxRecDepth 100000 in
theorem Z7G(c:Contract Tryz.prog cfg 3 ZoB)(os:Os)(started:os.Started)(H:Type)(enc:TypeId × Value->H):
  ReturnsInHanded {} Tryz.checked os 3 .any (Rows.topTriangleSpec.pre6 enc Tryz.prog Tryz.f3 [] false) (Rows.topTriangleSpec.post enc Tryz.prog Tryz.f3 Rows.topTriangleRow.apart Rows.topTriangleRow.fresh Rows.topTriangleRow.handsOn Rows.topTriangleRow.again):=by
 refine returnsInHanded_of_change_sized (C:=Tryz.checked) own started V5 Tryz.func3 (ChangeSpec.witness6 (enc:=enc) (C:=Tryz.checked) false ⟨#[],#[.agg #[.int .i64 0,.slice none 0 0,.slice none 0 0],.agg #[.int .i64 0,.slice none 0 0,.slice none 0 0],.agg #[.int .i64 0,.slice none 0 0,.slice none 0 0],.int .i64 0],[]⟩ 8 V5 V5 V5 V5) ?_
 intro W base args ds gs af aa hW _ d _
 have ai:=hW
 have ab:(DataW.weightsEach Tryz.prog (Tryz.f3.params.toList++Rows.topTriangleSpec.plain.varTypes Tryz.prog) (ds++gs)).all (·<=reachBytes)=true:=d
 have ah:Rows.topTriangleSpec.plain.varTypes Tryz.prog=[]:=rfl
 rw [ah,Tryz.params3] at ab
 obtain ⟨p,q,hA,hV,e,_⟩:=ai
 obtain ⟨rfl,_⟩:=trodVars_none hV
 have ae:DataW.TrodAll enc Tryz.prog W 0 (fun _=> true) true Tryz.f3.params.toList args.toList ds p:=hA
 rw [Tryz.params3] at ae
 obtain ⟨v0,v1,v2,v3,d0,d1,d2,d3,p0,p1,p2,p3,hv,rfl,_⟩:=trodAll_four ae
 refine Calls.mono (ZrP (henc:=enc) (cfg:=cfg) (Z5p Zjh (Z5p Zjh (Z5p Zjh (Z5p ZF0 (Zsi))))) (pre:=ZyY) (fun a h=> ⟨h.1,h.2.1,h.2.2.1⟩) c W base args _ p ?_ hA (by simpa using ab)) ?_
 .intro j t v ht hv
  exact aa j t v (by simpa using ht) (by simpa using hv)
 .rintro e W' ⟨rfl,hb⟩
  exact ⟨_,rfl,ZvA ZAc V5 (tb:=4) rfl Tryz.underlying4 rfl rfl hW hb⟩
theorem Zds(c:Contract Tryz.prog cfg 3 ZoB):Rows.TopTriangleSaid:=
 OpenClaim.holds_of_wide 3 Tryz.f3 rfl rfl rfl rfl rfl rfl rfl ⟨rfl,rfl,rfl,rfl,rfl⟩ rfl rfl rfl rfl rfl V5 Tryz.func3 V5
  (of_decide_eq_true V5) (by unfold Func.isWrapper;first | (rw [if_pos (by decide+kernel)];kernel_rfl) | (rw [if_neg (by decide+kernel)];exact ⟨rfl,rfl⟩))
  (fun os d H enc _=> Z7G c os d H enc)
theorem topTriangle_proved:Rows.TopTriangleSaid:=Zds c3
end Go.AM.YtnfbomhidainjaaGreat
