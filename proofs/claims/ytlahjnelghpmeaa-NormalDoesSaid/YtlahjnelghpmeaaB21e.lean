import Derived.Test.YtlahjnelghpmeaaG22d
import Derived.Test.YtlahjnelghpmeaaL23r
import Derived.Test.YtlahjnelghpmeaaB20z
set_option linter.unusedSimpArgs false
set_option linter.unusedVariables false
namespace Go.AM.Ytlahjnelghpmeaa
open Go.AM Go.Proofs
def args21 : ArgL (Edit × Tree × Unit) := (.cons (aEl .edit) (.cons (aEl .tree) .nil))
def pre21 (a : Edit × Tree × Unit) : Prop := (smallE a.1 ∧ rngE a.1) ∧ small a.2.1 ∧ rng a.2.1
noncomputable def res21 (a : Edit × Tree × Unit) : V U := .c (.bool true)
noncomputable def spec21 : Fs U := fs args21 (fun a => [pre21 a]) res21
noncomputable def know21 : List (FuncId × Fs U) := [(29, spec29), (33, spec33), (37, spec37), (38, spec38), (40, spec40), (47, spec47), (52, spec52), (58, spec58)]
def lv21 : Lives U := fun i => match i with
  | 0 => ([(2, []), (3, [])], [((.loc 2), []), ((.loc 3), [])])
  | 1 => ([(2, []), (3, []), (27, [])], [((.loc 2), []), ((.loc 3), [])])
  | 2 => ([(4, [])], [])
  | 3 => ([(2, []), (3, []), (5, [])], [((.loc 2), []), ((.loc 3), []), ((.loc 5), [])])
  | 4 => ([(3, []), (5, []), (6, []), (7, [])], [((.loc 3), []), ((.loc 5), []), ((.loc 6), [])])
  | 5 => ([(5, []), (6, []), (7, []), (8, []), (9, [])], [((.loc 5), []), ((.loc 6), []), ((.loc 8), [])])
  | 6 => ([(4, [])], [])
  | _ => ([], [])
noncomputable abbrev A21 (p : List Nat) := awp cfg (know know21) (drawOk cfg (know know21)) Try.f21.ntmps lv21 (cd Try.f21 p)
theorem vc21 (e : Edit) (t : Tree) (Q : AExit → LSt U → Prop) (h : ∀ y_1, y_1 = (e) → ∀ y_2, y_2 = (t) → ∀ y_3, y_3 = ((nrmE y_1)) → ∀ y_4, y_4 = ((orNil ((doE false y_1 y_2).map normT))) → ∀ y_5, y_5 = ((orNil ((doE false y_3 y_2).map normT))) → ((pre37 (y_1, ())) ∧ (Tr ((!(!(good y_1))) = true)) ∧ ((!(!(good y_1))) = true → pre29 (y_2, ())) ∧ (Tr ((!(!(good y_1))) = true)) ∧ (((!(good y_1)) = false → (!(!(good y_1))) = true)) ∧ (Tr ((!(bif (!(good y_1)) then true else (!(decide (0 ≤ shallow y_2 80 3000))))) = true)) ∧ ((!(bif (!(good y_1)) then true else (!(decide (0 ≤ shallow y_2 80 3000))))) = true → pre47 (y_2, 64, ())) ∧ (Tr ((!(bif (!(good y_1)) then true else (!(decide (0 ≤ shallow y_2 80 3000))))) = true)) ∧ (((bif (!(good y_1)) then true else (!(decide (0 ≤ shallow y_2 80 3000)))) = false → (!(bif (!(good y_1)) then true else (!(decide (0 ≤ shallow y_2 80 3000))))) = true)) ∧ (Tr ((!(bif (bif (!(good y_1)) then true else (!(decide (0 ≤ shallow y_2 80 3000)))) then true else (!(rightT y_2 64)))) = true)) ∧ (Tr ((!(bif (bif (!(good y_1)) then true else (!(decide (0 ≤ shallow y_2 80 3000)))) then true else (!(rightT y_2 64)))) = true)) ∧ (((bif (bif (!(good y_1)) then true else (!(decide (0 ≤ shallow y_2 80 3000)))) then true else (!(rightT y_2 64))) = false → (!(bif (bif (!(good y_1)) then true else (!(decide (0 ≤ shallow y_2 80 3000)))) then true else (!(rightT y_2 64)))) = true)) ∧ (((bif (bif (bif (!(good y_1)) then true else (!(decide (0 ≤ shallow y_2 80 3000)))) then true else (!(rightT y_2 64))) then true else (((Tree.kind t) : Int) == 10)) = true → (pre38 (())) ∧ (Q .ret (⟨[(4, .c (.bool true))], [], []⟩ : LSt U))) ∧ ((bif (bif (bif (!(good y_1)) then true else (!(decide (0 ≤ shallow y_2 80 3000)))) then true else (!(rightT y_2 64))) then true else (((Tree.kind t) : Int) == 10)) = false → (pre40 (y_1, ())) ∧ ((pre52 (y_1, y_2, ())) ∧ ((pre52 (y_3, y_2, ())) ∧ ((pre58 (y_3, ())) ∧ (Tr ((rightE y_3 64) = true)) ∧ (Tr ((rightE y_3 64) = true)) ∧ ((Tr ((rightE y_3 64) = true))) ∧ (Tr ((bif (rightE y_3 64) then (((doE false y_1 y_2).isSome) == ((doE false y_3 y_2).isSome)) else false) = true)) ∧ (Tr ((bif (rightE y_3 64) then (((doE false y_1 y_2).isSome) == ((doE false y_3 y_2).isSome)) else false) = true)) ∧ ((bif (rightE y_3 64) then (((doE false y_1 y_2).isSome) == ((doE false y_3 y_2).isSome)) else false) = true → pre33 (y_4, y_5, ())) ∧ ((Tr ((bif (rightE y_3 64) then (((doE false y_1 y_2).isSome) == ((doE false y_3 y_2).isSome)) else false) = true))) ∧ ((bif (bif (rightE y_3 64) then (((doE false y_1 y_2).isSome) == ((doE false y_3 y_2).isSome)) else false) then (sameT y_4 y_5) else false) = true → pre38 (())) ∧ ((Tr ((bif (bif (rightE y_3 64) then (((doE false y_1 y_2).isSome) == ((doE false y_3 y_2).isSome)) else false) then (sameT y_4 y_5) else false) = true))) ∧ (Q .ret (⟨[(4, .c (.bool (bif (bif (bif (rightE y_3 64) then (((doE false y_1 y_2).isSome) == ((doE false y_3 y_2).isSome)) else false) then (sameT y_4 y_5) else false) then true else false)))], [], []⟩ : LSt U))))))))) :
    A21 [] (⟨[(0, .agg [.int .i64 (Edit.kind e), .int .i64 (Tree.kind (Edit.old e)), .slice (U := U) .u64 (Tree.words (Edit.old e)) .unk, .slice (U := U) .tree (Tree.kids (Edit.old e)) .unk, .int .i64 (Tree.kind (Edit.new e)), .slice (U := U) .u64 (Tree.words (Edit.new e)) .unk, .slice (U := U) .tree (Tree.kids (Edit.new e)) .unk, .slice (U := U) .wedit (Edit.words e) .unk, .slice (U := U) .kid (Edit.kids e) .unk, .int .i64 (Edit.list e), .slice (U := U) .op (Edit.ops e) .unk]), (1, .agg [.int .i64 (Tree.kind t), .slice (U := U) .u64 (Tree.words t) .unk, .slice (U := U) .tree (Tree.kids t) .unk])], [], []⟩ : LSt U) Q :=
  Eq.mpr (by kernel_rfl) (h _ (reEdit_eq _) _ (reTree_eq _) _ (reEdit_eq _) _ (reTree_eq _) _ (reTree_eq _))
def Body21 (e : Edit) (t : Tree)  : Prop := awp cfg (know (know21)) (drawOk cfg (know (know21))) Try.f21.ntmps lv21 (cd Try.f21 []) (entry (args21.can (e, t, ())) []) (EndsQ cfg Try.f21.ntmps Try.f21.results.toList (res21 (e, t, ())) [])
theorem make21 (c29 : Contract Try.prog cfg 29 spec29) (c33 : Contract Try.prog cfg 33 spec33) (c37 : Contract Try.prog cfg 37 spec37) (c38 : Contract Try.prog cfg 38 spec38) (c40 : Contract Try.prog cfg 40 spec40) (c47 : Contract Try.prog cfg 47 spec47) (c52 : Contract Try.prog cfg 52 spec52) (c58 : Contract Try.prog cfg 58 spec58) (hb : ∀ (e : Edit) (t : Tree) (_ : Unit), pre21 (e, t, ()) → Body21 e t) : Contract Try.prog cfg 21 spec21 :=
  contract_flat (l := [(29, spec29), (33, spec33), (37, spec37), (38, spec38), (40, spec40), (47, spec47), (52, spec52), (58, spec58)]) cfgOk rfl (⟨c29, c33, c37, c38, c40, c47, c52, c58, trivial⟩) lv21 Try.func21 rfl rfl 2 (fun _ => rfl) (by decide) (fun ⟨e, t, _⟩ => hb e t ())
end Go.AM.Ytlahjnelghpmeaa

namespace Go.AM.Ytlahjnelghpmeaa
open Go.AM Go.Proofs
theorem mass_orNil {e : Edit} {t : Tree} (he : massE e ≤ 1000000) (hr : ∃ d, rightE e d = true) (ht : mass t ≤ 100000000000) : mass (orNil ((doE false e t).map normT)) ≤ 1000000000000 := by
  rw [orNil_norm]
  exact Nat.le_trans (normT_mass _) (orNil_mass he hr ht)
theorem c21 : Contract Try.prog cfg 21 spec21 := by
  refine make21 c29 c33 c37 c38 c40_76.1 c47 c52 c58 ?_
  intro e t _ hp
  simp only [pre21] at hp
  refine vc21 _ _ _ ?_
  rintro y1 hy1 y2 hy2 y3 hy3 y4 hy4 y5 hy5
  subst hy1 hy2
  (simp only [vcT, bif_tl, bif_fr, bif_tlf, bif_frf, Bool.not_eq_true', Bool.not_eq_false', decide_eq_true_eq, decide_eq_false_iff_not, beq_iff_eq, beq_eq_false_iff_ne, bne_iff_ne, ne_eq, bne_eq_false_iff_eq, Bool.or_eq_true, Bool.and_eq_true, Bool.or_eq_false_iff, Bool.and_eq_false_imp])
  refine ⟨by simp only [pre37]; exact hp.1, fun _ => by simp only [pre29]; exact hp.2.1, fun h => by simp only [pre47]; exact ⟨few_mass' h.2, hp.2.2, by omega, by omega⟩, fun _ => ⟨trivial, ends_bool rfl rfl⟩, fun hg => ?_⟩
  obtain ⟨⟨⟨g1, g2⟩, g3⟩, g4⟩ := hg
  have m := few_mass' g2
  obtain ⟨hm, hr⟩ := good_in' g1
  have P := pre52_of g1 hp.1.2 m hp.2.2
  have r3 : rightE y3 64 = true := by rw [hy3]; exact rightE_nrm _ _ hr
  have n3 : rngE y3 := by rw [hy3]; exact rngE_nrm' _ _ hr hp.1.2
  have m3 : massE y3 ≤ 3000 := by rw [hy3]; have := massE_nrm y1; omega
  have hq := nrm_do y1 64 y2 hr ⟨⟨64, g3⟩, hp.2.2⟩
  rw [← hy3] at hq
  have e1 : (doE false y1 y2).isSome = (doE false y3 y2).isSome := hq.isSome.symm
  have e2 : y4 = y5 := by rw [hy4, hy5, hq.normed]
  have hm4 : mass y5 ≤ 1000000000000 := by rw [hy5]; exact mass_orNil (by omega) ⟨64, r3⟩ P.2.1
  refine ⟨by simp only [pre40]; exact ⟨by omega, 64, hr⟩, by simp only [pre52]; exact P, by simp only [pre52]; exact ⟨⟨by omega, n3, 64, r3⟩, P.2⟩, by simp only [pre58]; exact ⟨by omega, n3⟩, fun _ => by simp only [pre33]; rw [e2]; exact hm4, fun _ => trivial, ends_bool rfl ?_⟩
  rw [r3, e1, e2, sameT_self]
  simp
end Go.AM.Ytlahjnelghpmeaa
