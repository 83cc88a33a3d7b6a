import Derived.Test.YtnfbomhidainjaaGreatTKG20a
import Derived.Test.YtnfbomhidainjaaGreatOB20
set_option linter.unusedSimpArgs false
set_option linter.unusedVariables false
namespace Go.AM.YtnfbomhidainjaaGreat
open Go.AM Go.Proofs Go.Proofs.YtnfbomhidainjaaGreat Go.ChangeShapes Go.WideShapes Go.RowKit
set_option maxRecDepth 100000 in theorem ZbW(c:Contract Tryz.prog cfg 4 Zrh)(os:Os)(started:os.Started)(H:Type)(enc:TypeId×Value->H):ReturnsInHanded {} Tryz.checked os 4 .any (Rows.topMergesSpec.pre6 enc Tryz.prog Tryz.f4 [] false) (Rows.topMergesSpec.post enc Tryz.prog Tryz.f4 Rows.topMergesRow.apart Rows.topMergesRow.fresh Rows.topMergesRow.handsOn Rows.topMergesRow.again):=by
 refine returnsInHanded_of_change_sized (C:=Tryz.checked) own started V3 Tryz.func4 (ChangeSpec.witness6 (enc:=enc) (C:=Tryz.checked) false ⟨#[],#[.agg #[.int .i64 0,.slice none 0 0,.slice none 0 0],.agg #[.int .i64 0,.slice none 0 0,.slice none 0 0],.agg #[.int .i64 0,.slice none 0 0,.slice none 0 0],.int .i64 0],[]⟩ 8 V3 V3 V3 V3) ?_;intro W base args ds gs af ab hW _ ae _;have ai:=hW;have d:(DataW.weightsEach Tryz.prog (Tryz.f4.params.toList++Rows.topMergesSpec.plain.varTypes Tryz.prog) (ds++gs)).all (·<=reachBytes)=true:=ae;have ah:Rows.topMergesSpec.plain.varTypes Tryz.prog=[]:=rfl;rw[ah,Tryz.params4]at d;obtain⟨p,q,hA,hV,e,_⟩:=ai;obtain⟨rfl,_⟩:=trodVars_none hV;have aa:DataW.TrodAll enc Tryz.prog W 0 (λ_=>true) true Tryz.f4.params.toList args.toList ds p:=hA;rw[Tryz.params4]at aa;obtain⟨v0,v1,v2,v3,d0,d1,d2,d3,p0,p1,p2,p3,hv,rfl,_⟩:=trodAll_four aa;refine Calls.mono (ZuG (henc:=enc) (cfg:=cfg) (Z5V Zlq (Z5V Zlq (Z5V Zlq (Z5V ZJ7 (Zv9))))) (pre:=ZCq) (λa h=>⟨h.1,h.2.1,h.2.2.1⟩) c W base args _ p ?_ hA (by simpa using d)) ?_;.intro j t v ht hv;exact ab j t v (by simpa using ht) (by simpa using hv)
 .rintro e W'⟨rfl,hb⟩;exact⟨_,rfl,Zyv ZDN V3 (tb:=4) rfl Tryz.underlying4 rfl rfl hW hb⟩
theorem Zjz(c:Contract Tryz.prog cfg 4 Zrh):Rows.TopMergesSaid:=OpenClaim.holds_of_wide 4 Tryz.f4 rfl rfl rfl rfl rfl rfl rfl ⟨rfl,rfl,rfl,rfl,rfl⟩ rfl rfl rfl rfl rfl V3 Tryz.func4 V3 (of_decide_eq_true V3) (by unfold Func.isWrapper;first|(rw[if_pos (by decide+kernel)];kernel_rfl)|(rw[if_neg (by decide+kernel)];exact⟨rfl,rfl⟩)) (λos d H enc _=>ZbW c os d H enc)
theorem topMerges_proved:Rows.TopMergesSaid:=Zjz c4
end Go.AM.YtnfbomhidainjaaGreat
