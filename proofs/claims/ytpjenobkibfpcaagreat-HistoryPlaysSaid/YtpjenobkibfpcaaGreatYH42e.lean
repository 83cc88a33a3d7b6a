import Derived.Test.YtpjenobkibfpcaaGreatZKRB07
import Derived.Test.YtpjenobkibfpcaaGreatYB42d
set_option linter.all false
open Option renaming none->aT
open Bool renaming true->Y,false->I
namespace Go.AM.YtpjenobkibfpcaaGreat
open Go.AM Go.Proofs Go.Proofs.YtpjenobkibfpcaaGreat Go.ChangeShapes Go.WideShapes Go.RowKit
set_option maxRecDepth 100000 in theorem ZbX(c:aU Tryz.prog M 7 Ow)(os)(s:os.Started)(aF)(enc:TypeId×Value->aF):ReturnsInHanded {} Tryz.checked os 7 .any (Rows.historyPlaysSpec.pre6 enc Tryz.prog Tryz.f7 [] I) (Rows.historyPlaysSpec.post enc Tryz.prog Tryz.f7 Rows.historyPlaysRow.apart Rows.historyPlaysRow.fresh Rows.historyPlaysRow.handsOn Rows.historyPlaysRow.again):=by
 refine returnsInHanded_of_change_sized (C:=Tryz.checked) bF s V4 Tryz.func7 (ChangeSpec.witness6 (enc:=enc) (C:=Tryz.checked) I ⟨#[],#[.agg #[.int .i64 0,.slice aT 0 0,.slice aT 0 0],.slice aT 0 0],[]⟩ 8 V4 V4 V4 V4) ?_;intro aJ ab args ds gs ai ah hW _ ae _;have aj:=hW;have af:(DataW.weightsEach Tryz.prog (Tryz.f7.params.toList++Rows.historyPlaysSpec.plain.varTypes Tryz.prog) (ds++gs)).all (·<=reachBytes)=Y:=ae;have ak:Rows.historyPlaysSpec.plain.varTypes Tryz.prog=[]:=rfl;rw[ak,Tryz.params7]at af;obtain⟨p,q,hA,hV,e,_⟩:=aj;obtain⟨rfl,_⟩:=trodVars_none hV;have aa:DataW.TrodAll enc Tryz.prog aJ 0 (λ_=>Y) Y Tryz.f7.params.toList args.toList ds p:=hA;rw[Tryz.params7]at aa;obtain⟨v0,v1,d0,d1,p0,p1,hv,rfl,_⟩:=trodAll_two aa;refine Calls.mono (ZAO (henc:=enc) (M:=M) (ZlB ZMj (ZlB ZHE ZBp)) (c_:=ZNO) (λa h=>⟨h.1,h.2.1.2⟩) c aJ ab args _ p ?_ hA (by simpa using af)) ?_;.intro j t v ht hv;exact ah j t v (by simpa using ht) (by simpa using hv)
 .rintro e W'⟨rfl,hb⟩;exact⟨_,rfl,ZGA ZJs V4 (tb:=4) rfl Tryz.underlying4 rfl rfl hW hb⟩
theorem Zi4(c:aU Tryz.prog M 7 Ow):Rows.HistoryPlaysSaid:=OpenClaim.holds_of_wide 7 Tryz.f7 rfl rfl rfl rfl rfl rfl rfl ⟨rfl,rfl,rfl,rfl,rfl⟩ rfl rfl rfl rfl rfl V4 Tryz.func7 V4 (X7 V4) (by unfold Func.isWrapper;first|(rw[if_pos (by decide+kernel)];kernel_rfl)|(rw[if_neg (by decide+kernel)];exact⟨rfl,rfl⟩)) λos h aF enc _=>ZbX c os h aF enc
theorem historyPlays_proved:Rows.HistoryPlaysSaid:=Zi4 cL7
