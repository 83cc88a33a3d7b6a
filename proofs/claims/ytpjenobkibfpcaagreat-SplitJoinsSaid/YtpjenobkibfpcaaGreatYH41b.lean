import Derived.Test.YtpjenobkibfpcaaGreatZKRB07
import Derived.Test.YtpjenobkibfpcaaGreatYB41c
set_option linter.unusedSimpArgs false
set_option linter.unusedVariables false
namespace Go.AM.YtpjenobkibfpcaaGreat
open Go.AM Go.Proofs Go.Proofs.YtpjenobkibfpcaaGreat Go.ChangeShapes Go.WideShapes Go.RowKit
set_option maxRecDepth 100000 in
theorem Zbu(c:Contract Tryz.prog cfg 4 Zri)(os:Os)(started:os.Started)(H:Type)(enc:TypeId × Value->H):
  ReturnsInHanded {} Tryz.checked os 4 .any (Rows.splitJoinsSpec.pre6 enc Tryz.prog Tryz.f4 [] false) (Rows.splitJoinsSpec.post enc Tryz.prog Tryz.f4 Rows.splitJoinsRow.apart Rows.splitJoinsRow.fresh Rows.splitJoinsRow.handsOn Rows.splitJoinsRow.again):=by
 refine returnsInHanded_of_change_sized (C:=Tryz.checked) own started V6 Tryz.func4 (ChangeSpec.witness6 (enc:=enc) (C:=Tryz.checked) false ⟨#[],#[.slice none 0 0,.agg #[.int .i64 0,.int .i64 0,.slice none 0 0,.slice none 0 0,.int .i64 0,.slice none 0 0,.slice none 0 0,.slice none 0 0,.slice none 0 0,.int .i64 0,.slice none 0 0],.agg #[.int .i64 0,.slice none 0 0,.slice none 0 0]],[]⟩ 8 V6 V6 V6 V6) ?_
 intro W ae args ds gs af d hW _ aa _
 have ai:=hW
 have s:(DataW.weightsEach Tryz.prog (Tryz.f4.params.toList++Rows.splitJoinsSpec.plain.varTypes Tryz.prog) (ds++gs)).all (·<=reachBytes)=true:=aa
 have ah:Rows.splitJoinsSpec.plain.varTypes Tryz.prog=[]:=rfl
 rw [ah,Tryz.params4] at s
 obtain ⟨p,q,hA,hV,e,_⟩:=ai
 obtain ⟨rfl,_⟩:=trodVars_none hV
 have ab:DataW.TrodAll enc Tryz.prog W 0 (fun _=> true) true Tryz.f4.params.toList args.toList ds p:=hA
 rw [Tryz.params4] at ab
 obtain ⟨v0,v1,v2,d0,d1,d2,p0,p1,p2,hv,rfl,_⟩:=trodAll_three ab
 refine Calls.mono (Zvg (henc:=enc) (cfg:=cfg) (Zbg ZAH (Zbg ZDh (Zbg ZDf (ZvS)))) (pre:=ZBJ) (fun a h=> ⟨h.1.2,h.2.1,h.2.2.1⟩) c W ae args _ p ?_ hA (by simpa using s)) ?_
 .intro j t v ht hv
  exact d j t v (by simpa using ht) (by simpa using hv)
 .rintro e W' ⟨rfl,hb⟩
  exact ⟨_,rfl,ZzA ZCT V6 (tb:=4) rfl Tryz.underlying4 rfl rfl hW hb⟩
theorem ZiS(c:Contract Tryz.prog cfg 4 Zri):Rows.SplitJoinsSaid:=
 OpenClaim.holds_of_wide 4 Tryz.f4 rfl rfl rfl rfl rfl rfl rfl ⟨rfl,rfl,rfl,rfl,rfl⟩ rfl rfl rfl rfl rfl V6 Tryz.func4 V6
  (of_decide_eq_true V6) (by unfold Func.isWrapper;first | (rw [if_pos (by decide+kernel)];kernel_rfl) | (rw [if_neg (by decide+kernel)];exact ⟨rfl,rfl⟩))
  (fun os d H enc _=> Zbu c os d H enc)
theorem splitJoins_proved:Rows.SplitJoinsSaid:=ZiS c4
end Go.AM.YtpjenobkibfpcaaGreat
