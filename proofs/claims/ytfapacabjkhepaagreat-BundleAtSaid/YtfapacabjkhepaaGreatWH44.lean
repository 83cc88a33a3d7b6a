import Derived.Test.YtfapacabjkhepaaGreatWKL07
import Derived.Test.YtfapacabjkhepaaGreatWB44b
set_option linter.unusedSimpArgs false
set_option linter.unusedVariables false
namespace Go.AM.YtfapacabjkhepaaGreat
open Go.AM Go.Proofs Go.Proofs.YtfapacabjkhepaaGreat Go.ChangeShapes Go.WideShapes Go.RowKit
set_option maxRecDepth 100000 in
theorem ZdJ(c:Contract Tryz.prog cfg 3 Zop)(os:Os)(started:os.Started)(H:Type)(enc:TypeId × Value->H):
  ReturnsInHanded {} Tryz.checked os 3 .any (Rows.bundleAtSpec.pre6 enc Tryz.prog Tryz.f3 [] false) (Rows.bundleAtSpec.post enc Tryz.prog Tryz.f3 Rows.bundleAtRow.apart Rows.bundleAtRow.fresh Rows.bundleAtRow.handsOn Rows.bundleAtRow.again):=by
 refine returnsInHanded_of_change_sized (C:=Tryz.checked) own started V4 Tryz.func3 (ChangeSpec.witness6 (enc:=enc) (C:=Tryz.checked) false ⟨#[],#[.agg #[.int .i64 0,.slice none 0 0,.slice none 0 0,.slice none 0 0],.int .i64 0,.int .i64 0],[]⟩ 8 V4 V4 V4 V4) ?_
 intro W base args ds gs before hval hW _ hsz0 _
 have hW0:=hW
 have hsz:(DataW.weightsEach Tryz.prog (Tryz.f3.params.toList++Rows.bundleAtSpec.plain.varTypes Tryz.prog) (ds++gs)).all (·<=reachBytes)=true:=hsz0
 have hvt:Rows.bundleAtSpec.plain.varTypes Tryz.prog=[]:=rfl
 rw [hvt,Tryz.params3] at hsz
 obtain ⟨p,q,hA,hV,e,_⟩:=hW0
 obtain ⟨rfl,_⟩:=trodVars_none hV
 have hA':DataW.TrodAll enc Tryz.prog W 0 (fun _=> true) true Tryz.f3.params.toList args.toList ds p:=hA
 rw [Tryz.params3] at hA'
 obtain ⟨v0,v1,v2,d0,d1,d2,p0,p1,p2,hv,rfl,_⟩:=trodAll_three hA'
 refine Calls.mono (Zs0 (henc:=enc) (cfg:=cfg) (Z9h Zo5 (Z9h Zxn (Z9h Zxn (Zss)))) (pre:=ZCP) (fun a h=> ⟨h.1.1.1,h.1.1.2,h.1.2.2,Z1x h.1.2.1 V2⟩) c W base args _ p ?_ hA (by simpa using hsz)) ?_
 .intro j t v ht hv
  exact hval j t v (by simpa using ht) (by simpa using hv)
 .rintro e W' ⟨rfl,hb⟩
  exact ⟨_,rfl,ZvO ZzX V4 (tb:=4) rfl Tryz.underlying4 rfl rfl hW hb⟩
theorem ZlT(c:Contract Tryz.prog cfg 3 Zop):Rows.BundleAtSaid:=
 OpenClaim.holds_of_wide 3 Tryz.f3 rfl rfl rfl rfl rfl rfl rfl ⟨rfl,rfl,rfl,rfl,rfl⟩ rfl rfl rfl rfl rfl V4 Tryz.func3 V4
  (of_decide_eq_true V4) (by unfold Func.isWrapper;first | (rw [if_pos (by decide+kernel)];kernel_rfl) | (rw [if_neg (by decide+kernel)];exact ⟨rfl,rfl⟩))
  (fun os started H enc _=> ZdJ c os started H enc)
theorem bundleAt_proved:Rows.BundleAtSaid:=ZlT c3
end Go.AM.YtfapacabjkhepaaGreat
