import Derived.Test.YtfapacabjkhepaaVKL07
import Derived.Test.YtfapacabjkhepaaVB44b
set_option linter.unusedSimpArgs false
set_option linter.unusedVariables false
namespace Go.AM.Ytfapacabjkhepaa
open Go.AM Go.Proofs Go.Proofs.Ytfapacabjkhepaa Go.ChangeShapes Go.WideShapes Go.RowKit
set_option maxRecDepth 100000 in
theorem Z7a(c:Contract Try.prog cfg 3 ZkD)(os:Os)(started:os.Started)(H:Type)(enc:TypeId × Value->H):
  ReturnsInHanded {} Try.checked os 3 .any (Rows.bundleLeadsSpec.pre6 enc Try.prog Try.f3 [] false) (Rows.bundleLeadsSpec.post enc Try.prog Try.f3 Rows.bundleLeadsRow.apart Rows.bundleLeadsRow.fresh Rows.bundleLeadsRow.handsOn Rows.bundleLeadsRow.again):=by
 refine returnsInHanded_of_change_sized (C:=Try.checked) own started V5 Try.func3 (ChangeSpec.witness6 (enc:=enc) (C:=Try.checked) false ⟨#[],#[.agg #[.int .i64 0,.slice none 0 0,.slice none 0 0,.slice none 0 0],.int .u8 0,.int .u8 0],[]⟩ 8 V5 V5 V5 V5) ?_
 intro W base args ds gs before hval hW _ hsz0 _
 have hW0:=hW
 have hsz:(DataW.weightsEach Try.prog (Try.f3.params.toList++Rows.bundleLeadsSpec.plain.varTypes Try.prog) (ds++gs)).all (·<=reachBytes)=true:=hsz0
 have hvt:Rows.bundleLeadsSpec.plain.varTypes Try.prog=[]:=rfl
 rw [hvt,Try.params3] at hsz
 obtain ⟨p,q,hA,hV,e,_⟩:=hW0
 obtain ⟨rfl,_⟩:=trodVars_none hV
 have hA':DataW.TrodAll enc Try.prog W 0 (fun _=> true) true Try.f3.params.toList args.toList ds p:=hA
 rw [Try.params3] at hA'
 obtain ⟨v0,v1,v2,d0,d1,d2,p0,p1,p2,hv,rfl,_⟩:=trodAll_three hA'
 refine Calls.mono (ZmN (henc:=enc) (cfg:=cfg) (Z7f Zki (Z7f ZuR (Z7f ZuR (Znb)))) (pre:=Zvm) (fun a h=> ⟨⟨h.1.1.1,h.1.1.2,h.1.2.2,Z16 h.1.2.1 V2⟩,⟨h.2.1.1,XC h.2.1.2 V2⟩,h.2.2.1.1,XC h.2.2.1.2 V2⟩) c W base args _ p ?_ hA (by simpa using hsz)) ?_
 .intro j t v ht hv
  exact hval j t v (by simpa using ht) (by simpa using hv)
 .rintro e W' ⟨rfl,hb⟩
  exact ⟨_,rfl,Zp4 Ztn V5 (tb:=4) rfl Try.underlying4 rfl rfl hW hb⟩
theorem Zdi(c:Contract Try.prog cfg 3 ZkD):Rows.BundleLeadsSaid:=
 OpenClaim.holds_of_wide 3 Try.f3 rfl rfl rfl rfl rfl rfl rfl ⟨rfl,rfl,rfl,rfl,rfl⟩ rfl rfl rfl rfl rfl V5 Try.func3 V5
  (of_decide_eq_true V5) (by unfold Func.isWrapper;first | (rw [if_pos (by decide+kernel)];kernel_rfl) | (rw [if_neg (by decide+kernel)];exact ⟨rfl,rfl⟩))
  (fun os started H enc _=> Z7a c os started H enc)
theorem bundleLeads_proved:Rows.BundleLeadsSaid:=Zdi c3
end Go.AM.Ytfapacabjkhepaa
