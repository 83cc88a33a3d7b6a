import Derived.Test.YtcljdbpmjdgooaaEmY
import Derived.Test.YtcljdbpmjdgooaaEG1
import Derived.Test.YtcljdbpmjdgooaaEB3
import Derived.Test.YtcljdbpmjdgooaaEQD9
set_option linter.unusedSimpArgs false
set_option linter.unusedVariables false
namespace Go.AM.Ytcljdbpmjdgooaa
open Go.AM Go.Proofs
abbrev TrEG4 (p : Prop) : Prop := p → p
noncomputable section
def args42 : ArgM ((Arena × Unit) × Spot × Tree × Unit) := (.agg (.cons (cAr) .nil) (.cons (aEl .spot) (.cons (aEl .tree) .nil)))
def pre42 (a : (Arena × Unit) × Spot × Tree × Unit) : Prop := ((OkAr a.1.1 ∧ hasN a.1.1.segs (Spot.segment a.2.1) (Spot.at_ a.2.1) 1 = true) ∧ (mass a.2.2.1 ≤ 1000000 ∧ rng a.2.2.1) ∧ Tree.kind a.2.2.1 ≠ 10 ∧ ∃ d, rightT a.2.2.1 d = true) ∧ 2 ≤ Tree.kind a.2.2.1 ∧ Tree.kind a.2.2.1 ≤ 7
noncomputable def res42 (a : (Arena × Unit) × Spot × Tree × Unit) : V U := .c (.bool ((layA a.2.2.1 a.1.1 (Spot.segment a.2.1) (Spot.at_ a.2.1)).2))
noncomputable def resX42 (a : (Arena × Unit) × Spot × Tree × Unit) : List (List (C U)) := []
noncomputable def resL42 (a : (Arena × Unit) × Spot × Tree × Unit) : List (Tok × LC U) := [(.A, LC.mk (U := U) .arena [(layA a.2.2.1 a.1.1 (Spot.segment a.2.1) (Spot.at_ a.2.1)).1] 0)]
noncomputable def spec42 : Fs U := (fsXL args42 (fun a => [pre42 a]) res42 resX42 resL42).passing [0]
def args23 : ArgM ((Arena × Unit) × Spot × Tree × Unit) := (.agg (.cons (cAr) .nil) (.cons (aEl .spot) (.cons (aEl .tree) .nil)))
def pre23 (a : (Arena × Unit) × Spot × Tree × Unit) : Prop := (OkAr a.1.1 ∧ hasN a.1.1.segs (Spot.segment a.2.1) (Spot.at_ a.2.1) 1 = true) ∧ (mass a.2.2.1 ≤ 1000000 ∧ rng a.2.2.1) ∧ Tree.kind a.2.2.1 ≠ 10 ∧ ∃ d, rightT a.2.2.1 d = true
def mu23 (a : (Arena × Unit) × Spot × Tree × Unit) : Nat := 4 * mass a.2.2.1 + 3
noncomputable def res23 (a : (Arena × Unit) × Spot × Tree × Unit) : V U := .c (.bool ((layA a.2.2.1 a.1.1 (Spot.segment a.2.1) (Spot.at_ a.2.1)).2))
noncomputable def resX23 (a : (Arena × Unit) × Spot × Tree × Unit) : List (List (C U)) := []
noncomputable def resL23 (a : (Arena × Unit) × Spot × Tree × Unit) : List (Tok × LC U) := [(.A, LC.mk (U := U) .arena [(layA a.2.2.1 a.1.1 (Spot.segment a.2.1) (Spot.at_ a.2.1)).1] 0)]
noncomputable def spec23 : Fs U := (fsXL args23 (fun a => [pre23 a]) res23 resX23 resL23).passing [0]
def args45 : ArgM ((Arena × Unit) × Spot × Tree × Unit) := (.agg (.cons (cAr) .nil) (.cons (aEl .spot) (.cons (aEl .tree) .nil)))
def pre45 (a : (Arena × Unit) × Spot × Tree × Unit) : Prop := (OkAr a.1.1 ∧ hasN a.1.1.segs (Spot.segment a.2.1) (Spot.at_ a.2.1) (Tree.kids a.2.2.1).length = true) ∧ (mass a.2.2.1 ≤ 1000000 ∧ rng a.2.2.1) ∧ ∀ k ∈ Tree.kids a.2.2.1, Tree.kind k ≠ 10 ∧ ∃ d, rightT k d = true
def mu45 (a : (Arena × Unit) × Spot × Tree × Unit) : Nat := 4 * mass a.2.2.1 + 1
noncomputable def res45 (a : (Arena × Unit) × Spot × Tree × Unit) : V U := .c (.bool ((kidsA (Tree.kids a.2.2.1) a.1.1 (Spot.segment a.2.1) (Spot.at_ a.2.1)).2))
noncomputable def resX45 (a : (Arena × Unit) × Spot × Tree × Unit) : List (List (C U)) := []
noncomputable def resL45 (a : (Arena × Unit) × Spot × Tree × Unit) : List (Tok × LC U) := [(.A, LC.mk (U := U) .arena [(kidsA (Tree.kids a.2.2.1) a.1.1 (Spot.segment a.2.1) (Spot.at_ a.2.1)).1] 0)]
noncomputable def spec45 : Fs U := (fsXL args45 (fun a => [pre45 a]) res45 resX45 resL45).passing [0]
def args41 : ArgM ((Arena × Unit) × Spot × Tree × Unit) := (.agg (.cons (cAr) .nil) (.cons (aEl .spot) (.cons (aEl .tree) .nil)))
def pre41 (a : (Arena × Unit) × Spot × Tree × Unit) : Prop := (OkAr a.1.1 ∧ hasN a.1.1.segs (Spot.segment a.2.1) (Spot.at_ a.2.1) 1 = true) ∧ (mass a.2.2.1 ≤ 1000000 ∧ rng a.2.2.1) ∧ Tree.kind a.2.2.1 ≠ 10 ∧ ∃ d, rightT a.2.2.1 d = true ∧ Tree.kind a.2.2.1 = 9
def mu41 (a : (Arena × Unit) × Spot × Tree × Unit) : Nat := 4 * mass a.2.2.1 + 2
noncomputable def res41 (a : (Arena × Unit) × Spot × Tree × Unit) : V U := .c (.bool ((layA a.2.2.1 a.1.1 (Spot.segment a.2.1) (Spot.at_ a.2.1)).2))
noncomputable def resX41 (a : (Arena × Unit) × Spot × Tree × Unit) : List (List (C U)) := []
noncomputable def resL41 (a : (Arena × Unit) × Spot × Tree × Unit) : List (Tok × LC U) := [(.A, LC.mk (U := U) .arena [(layA a.2.2.1 a.1.1 (Spot.segment a.2.1) (Spot.at_ a.2.1)).1] 0)]
noncomputable def spec41 : Fs U := (fsXL args41 (fun a => [pre41 a]) res41 resX41 resL41).passing [0]
noncomputable def know42 : List (FuncId × Fs U) := [(59, spec59), (60, spec1060), (22, spec22), (43, spec43), (44, spec44)]
def lv42 : Lives U := fun i => match i with
  | 0 => ([(0, [.ar]), (3, []), (4, []), (5, [])], [((.loc 3), [.ar]), ((.loc 4), []), ((.loc 5), [])])
  | 1 => ([(0, [.ar]), (3, []), (4, []), (5, []), (7, [])], [((.loc 3), [.ar]), ((.loc 4), []), ((.loc 5), [])])
  | 2 => ([(0, [.ar]), (3, []), (4, []), (5, []), (7, [.own .u64]), (15, []), (16, []), (17, [])], [((.loc 3), [.ar]), ((.loc 4), []), ((.loc 5), [])])
  | 3 => ([(0, [.ar]), (3, []), (4, []), (5, []), (7, []), (15, []), (16, []), (17, []), (18, [])], [((.loc 3), [.ar]), ((.loc 4), []), ((.loc 5), [])])
  | 4 => ([(0, [.ar]), (3, []), (4, []), (5, []), (7, []), (9, []), (15, []), (16, []), (17, [])], [((.loc 3), [.ar]), ((.loc 4), []), ((.loc 5), []), ((.loc 9), [])])
  | 5 => ([(0, [.ar]), (3, []), (4, []), (5, []), (7, []), (15, []), (16, []), (17, [])], [((.loc 3), [.ar]), ((.loc 4), []), ((.loc 5), [])])
  | 6 => ([(0, [.ar]), (3, []), (4, []), (5, []), (7, [.own .u64]), (15, []), (16, []), (17, [])], [((.loc 3), [.ar]), ((.loc 4), []), ((.loc 5), [])])
  | 7 => ([(0, [.ar]), (3, []), (4, []), (5, []), (7, []), (10, []), (11, [])], [((.loc 3), [.ar]), ((.loc 4), []), ((.loc 5), [])])
  | 8 => ([(0, [.ar]), (3, []), (4, []), (5, []), (7, []), (10, []), (11, []), (12, []), (13, [])], [((.loc 3), [.ar]), ((.loc 4), []), ((.loc 5), []), ((.loc 12), [])])
  | 9 => ([(0, [.ar]), (6, [])], [])
  | _ => ([], [])
noncomputable def head42_0 (a : Arena) (fr : Spot) (t : Tree) (x17 : Int) (x7 : List Int) : LSt U := (⟨[(0, .agg [.mref (.A)]), (3, .ptr (.loc 3) 0), (4, .ptr (.loc 4) 0), (5, .ptr (.loc 5) 0), (7, .c (.slice (U := U) .u64 x7 (.own (.e 7 0)))), (15, .c (.slice (U := U) .tree (Tree.kids t) .unk)), (16, .c (.int .i64 ((Tree.kids t).length : Int))), (17, .c (.int .i64 x17))], [((.loc 3), [.mref (.A)]), ((.loc 4), [.int .i64 (Spot.segment fr), .int .i64 (Spot.at_ fr)]), ((.loc 5), [.int .i64 (Tree.kind t), .slice (U := U) .u64 (Tree.words t) .unk, .slice (U := U) .tree (Tree.kids t) .unk])], [(.A, LC.mk (U := U) .arena ([a]) 0)]⟩ : LSt U)
abbrev W42 (a : Arena) (fr : Spot) (t : Tree) (Q : AExit → LSt U → Prop) := awp cfg (know know42) (drawOk cfg (know know42)) Try.f42.ntmps lv42 (cd Try.f42 []) (⟨[(0, .agg [.mref (.A)]), (1, .agg [.int .i64 (Spot.segment fr), .int .i64 (Spot.at_ fr)]), (2, .agg [.int .i64 (Tree.kind t), .slice (U := U) .u64 (Tree.words t) .unk, .slice (U := U) .tree (Tree.kids t) .unk])], [], [(.A, LC.mk (U := U) .arena ([a]) 0)]⟩ : LSt U) Q
abbrev a42_EG4 := awp cfg (know know42) (drawOk cfg (know know42)) Try.f42.ntmps lv42
abbrev s42_EG4 := seqK cfg (know know42) (drawOk cfg (know know42)) Try.f42.ntmps lv42
theorem vc42 (a : Arena) (fr : Spot) (t : Tree) (Q : AExit → LSt U → Prop) (h : LoopWp (awp cfg (know know42) (drawOk cfg (know know42)) Try.f42.ntmps lv42 (cd Try.f42 [1, 1, 0, 1, 0, 0])) (head42_0 a fr t 0 ([])) (AExit.inBlock 0 (seqK cfg (know know42) (drawOk cfg (know know42)) Try.f42.ntmps lv42 (cd Try.f42 [1, 1, 1]) Q))) :
    W42 a fr t Q := by
  have e_ : (W42 a fr t Q) = ((((LoopWp (a42_EG4 (cd Try.f42 [1, 1, 0, 1, 0, 0])) (head42_0 a fr t 0 ([])) (AExit.inBlock 0 (s42_EG4 (cd Try.f42 [1, 1, 1]) Q)))))) := by kernel_rfl
  exact e_.mpr h
abbrev W42_l0 (a : Arena) (fr : Spot) (t : Tree) (x17 : Int) (x7 : List Int) (N0 : LSt U → Prop) (Q : AExit → LSt U → Prop) := awp cfg (know know42) (drawOk cfg (know know42)) Try.f42.ntmps lv42 (cd Try.f42 [1, 1, 0, 1, 0, 0]) (head42_0 a fr t x17 x7) (AExit.then N0 (AExit.inBlock 0 (seqK cfg (know know42) (drawOk cfg (know know42)) Try.f42.ntmps lv42 (cd Try.f42 [1, 1, 1]) Q)))
theorem vc42_l0 (a : Arena) (fr : Spot) (t : Tree) (x17 : Int) (x7 : List Int) (N0 : LSt U → Prop) (Q : AExit → LSt U → Prop) (h : ∀ y_1, y_1 = (fr) → ∀ y_2, y_2 = (List.getD (Tree.kids t) (Int.toNat x17) Tree.nil) → ∀ y_3, y_3 = (giveA a ((putW (((Tree.kind t) : Int) - 2) x7).length : Int)) → ∀ y_4, y_4 = (giveOk a ((putW (((Tree.kind t) : Int) - 2) x7).length : Int)) → ∀ y_5, y_5 = (Ptr.mk 2 0 0 0 (((Tree.kind t) : Int) - 2) (x7.length : Int) 0 false) → ∀ y_6, y_6 = (Spot.mk (if giveOk a ((putW (((Tree.kind t) : Int) - 2) x7).length : Int) then giveS a ((putW (((Tree.kind t) : Int) - 2) x7).length : Int) else 0) (if giveOk a ((putW (((Tree.kind t) : Int) - 2) x7).length : Int) then giveT a ((putW (((Tree.kind t) : Int) - 2) x7).length : Int) else 0)) → ∀ y_7, y_7 = (y_6) → ∀ y_8, y_8 = (y_2) → ∀ y_9, y_9 = (pointA y_3 (Spot.segment y_1) (Spot.at_ y_1) (Spot.segment y_7) (Spot.at_ y_7) (kdP y_5) (upP y_5)) → ((decide ((x17 : Int) < ((Tree.kids t).length : Int))) = true → ((0 : Int) ≤ x17 ∧ x17 < ((Tree.kids t).length : Int)) ∧ ((pre59 (y_8, 0, ())) ∧ ((x7.length + ([wordAt y_8 0]).length) * 8 ≤ 140737488355328) ∧ ((InR ((x17 : Int) + 1)) ∧ (N0 (head42_0 a fr t ((x17 : Int) + 1) (x7 ++ ([wordAt y_8 0]))))))) ∧ ((decide ((x17 : Int) < ((Tree.kids t).length : Int))) = false → (InR (((Tree.kind t) : Int) - 2)) ∧ (pre1060 ((((Tree.kind t) : Int) - 2), x7, ())) ∧ ((pre22 ((a, ()), ((putW (((Tree.kind t) : Int) - 2) x7).length : Int), ())) ∧ ((y_4 = true → InR (((Tree.kind t) : Int) - 2)) ∧ (y_4 = true → pre43 ((y_3, ()), y_1, y_7, y_5, ())) ∧ ((bif y_4 then (y_9.2) else false) = true → pre44 (((bif y_4 then (y_9.1) else y_3), ()), y_7, (putW (((Tree.kind t) : Int) - 2) x7), ())) ∧ (Q .ret (⟨[(0, .agg [.mref (.A)]), (6, .c (.bool (bif (bif y_4 then (y_9.2) else false) then true else false)))], [], [(.A, LC.mk (U := U) .arena ([bif (bif y_4 then (y_9.2) else false) then (putsA (putW (((Tree.kind t) : Int) - 2) x7) (bif y_4 then (y_9.1) else y_3) (Spot.segment y_7) (Spot.at_ y_7)) else (bif y_4 then (y_9.1) else y_3)]) 0)]⟩ : LSt U)))))) :
    W42_l0 a fr t x17 x7 N0 Q := by
  have e_ : (W42_l0 a fr t x17 x7 N0 Q) = (let y_1 := (reSpot fr); let y_2 := (List.getD (Tree.kids t) (Int.toNat x17) Tree.nil); let y_3 := (giveA a ((putW ((Tree.kind t) - 2) x7).length : Int)); let y_4 := (giveOk a ((putW ((Tree.kind t) - 2) x7).length : Int)); let y_5 := (Ptr.mk 2 0 0 0 ((Tree.kind t) - 2) (x7.length : Int) 0 false); let y_6 := (Spot.mk (if giveOk a ((putW ((Tree.kind t) - 2) x7).length : Int) then giveS a ((putW ((Tree.kind t) - 2) x7).length : Int) else 0) (if giveOk a ((putW ((Tree.kind t) - 2) x7).length : Int) then giveT a ((putW ((Tree.kind t) - 2) x7).length : Int) else 0)); let y_7 := (reSpot y_6); let y_8 := (reTree y_2); let y_9 := (pointA y_3 (Spot.segment y_1) (Spot.at_ y_1) (Spot.segment y_7) (Spot.at_ y_7) (kdP y_5) (upP y_5)); let zz1 := (bif y_4 then (y_9.1) else y_3); let zz0 := (bif y_4 then (y_9.2) else false); (((decide ((x17 : Int) < ((Tree.kids t).length : Int))) = true → ((0 : Int) ≤ x17 ∧ x17 < ((Tree.kids t).length : Int)) ∧ ((pre59 (y_8, 0, ())) ∧ ((x7.length + ([wordAt y_8 0]).length) * 8 ≤ 140737488355328) ∧ ((InR ((x17 : Int) + 1)) ∧ (N0 (head42_0 a fr t ((x17 : Int) + 1) (x7 ++ ([wordAt y_8 0]))))))) ∧ ((decide ((x17 : Int) < ((Tree.kids t).length : Int))) = false → (InR ((Tree.kind t) - 2)) ∧ (pre1060 (((Tree.kind t) - 2), x7, ())) ∧ ((pre22 ((a, ()), ((putW ((Tree.kind t) - 2) x7).length : Int), ())) ∧ ((((true) = true → (true) = true)) ∧ (y_4 = true → y_4 = true) ∧ (y_4 = true → y_4 = true) ∧ (y_4 = true → InR ((Tree.kind t) - 2)) ∧ (y_4 = true → y_4 = true) ∧ (y_4 = true → y_4 = true) ∧ (y_4 = true → y_4 = true) ∧ (y_4 = true → y_4 = true) ∧ (y_4 = true → y_4 = true) ∧ (y_4 = true → y_4 = true) ∧ (y_4 = true → y_4 = true) ∧ (y_4 = true → pre43 ((y_3, ()), y_1, y_7, y_5, ())) ∧ ((y_4 = true → y_4 = true)) ∧ (TrEG4 (zz0 = true)) ∧ (TrEG4 (zz0 = true)) ∧ (TrEG4 (zz0 = true)) ∧ (zz0 = true → pre44 ((zz1, ()), y_7, (putW ((Tree.kind t) - 2) x7), ())) ∧ ((TrEG4 (zz0 = true))) ∧ (Q .ret (⟨[(0, .agg [.mref (.A)]), (6, .c (.bool (bif zz0 then true else false)))], [], [(.A, LC.mk (U := U) .arena ([bif zz0 then (putsA (putW ((Tree.kind t) - 2) x7) zz1 (Spot.segment y_7) (Spot.at_ y_7)) else zz1]) 0)]⟩ : LSt U))))))) := by kernel_rfl
  exact e_.mpr (by intro y_1 y_2 y_3 y_4 y_5 y_6 y_7 y_8 y_9; have hh := h y_1 (reSpot_eq _) y_2 rfl y_3 rfl y_4 rfl y_5 rfl y_6 rfl y_7 (reSpot_eq _) y_8 (reTree_eq _) y_9 rfl; exact ⟨fun c_1 => ⟨(hh.1 c_1).1, ⟨(hh.1 c_1).2.1, (hh.1 c_1).2.2.1, ⟨(hh.1 c_1).2.2.2.1, (hh.1 c_1).2.2.2.2⟩⟩⟩, fun c_1 => ⟨(hh.2 c_1).1, (hh.2 c_1).2.1, ⟨(hh.2 c_1).2.2.1, ⟨(by decide), id, id, (hh.2 c_1).2.2.2.1, id, id, id, id, id, id, id, (hh.2 c_1).2.2.2.2.1, (by generalize y_4 = b0; revert b0; decide), id, id, id, (hh.2 c_1).2.2.2.2.2.1, (by generalize (y_9.2) = b0; generalize y_4 = b1; revert b0 b1; decide), (hh.2 c_1).2.2.2.2.2.2⟩⟩⟩⟩)
abbrev Body42 (a : Arena) (fr : Spot) (t : Tree)  : Prop := awp cfg (know (know42)) (drawOk cfg (know (know42))) Try.f42.ntmps lv42 (cd Try.f42 []) (entryL (args42.can ((a, ()), fr, t, ())) (args42.canX ((a, ()), fr, t, ())) (args42.canL ((a, ()), fr, t, ()))) (EndsQL cfg Try.f42.ntmps Try.f42.results.toList (res42 ((a, ()), fr, t, ())) (resX42 ((a, ()), fr, t, ())) (resL42 ((a, ()), fr, t, ())))
theorem make42 (c59 : Contract Try.prog cfg 59 spec59) (c1060 : Contract Try.prog cfg 60 spec1060) (c22 : Contract Try.prog cfg 22 spec22) (c43 : Contract Try.prog cfg 43 spec43) (c44 : Contract Try.prog cfg 44 spec44) (hb : ∀ (a : Arena) (fr : Spot) (t : Tree) (_ : Unit), pre42 ((a, ()), fr, t, ()) → Body42 a fr t) : Contract Try.prog cfg 42 spec42 :=
  Contract.passing <| contractXL_flat (l := [(59, spec59), (60, spec1060), (22, spec22), (43, spec43), (44, spec44)]) cfgOk rfl (⟨c59, c1060, c22, c43, c44, trivial⟩) lv42 Try.func42 rfl rfl 3 (fun _ => rfl) (by decide) (fun ⟨⟨a, _⟩, fr, t, _⟩ => hb a fr t ())
noncomputable def know23 (N : Nat) : List (FuncId × Fs U) := (23, (fsXL args23 (fun a => [pre23 a, mu23 a < N]) res23 resX23 resL23).passing [0]) :: (45, (fsXL args45 (fun a => [pre45 a, mu45 a < N]) res45 resX45 resL45).passing [0]) :: (41, (fsXL args41 (fun a => [pre41 a, mu41 a < N]) res41 resX41 resL41).passing [0]) :: [(22, spec22), (43, spec43), (44, spec44), (46, spec46), (42, spec42), (74, spec74), (75, spec75)]
def lv23 : Lives U := fun i => match i with
  | 0 => ([(0, [.ar]), (3, []), (4, []), (5, [])], [((.loc 3), [.ar]), ((.loc 4), []), ((.loc 5), [])])
  | 1 => ([(0, [.ar]), (3, []), (4, []), (5, []), (7, [])], [((.loc 3), [.ar]), ((.loc 4), []), ((.loc 5), []), ((.loc 7), [])])
  | 2 => ([(0, [.ar]), (3, []), (4, []), (5, []), (7, []), (8, [])], [((.loc 3), [.ar]), ((.loc 4), []), ((.loc 5), []), ((.loc 7), [])])
  | 3 => ([(0, [.ar]), (6, [])], [])
  | 4 => ([(0, [.ar]), (3, []), (4, []), (5, []), (7, []), (8, []), (22, [])], [((.loc 3), [.ar]), ((.loc 4), []), ((.loc 5), []), ((.loc 7), [])])
  | 5 => ([(0, [.ar]), (6, [])], [])
  | 6 => ([(0, [.ar]), (3, []), (4, []), (5, []), (7, []), (8, []), (26, [])], [((.loc 3), [.ar]), ((.loc 4), []), ((.loc 5), []), ((.loc 7), [])])
  | 7 => ([(0, [.ar]), (3, []), (4, []), (5, []), (7, []), (8, [])], [((.loc 3), [.ar]), ((.loc 4), []), ((.loc 5), []), ((.loc 7), [])])
  | 8 => ([(0, [.ar]), (3, []), (4, []), (5, []), (7, []), (8, [])], [((.loc 3), [.ar]), ((.loc 4), []), ((.loc 5), []), ((.loc 7), [])])
  | 9 => ([(0, [.ar]), (3, []), (4, []), (5, []), (7, []), (8, []), (42, [])], [((.loc 3), [.ar]), ((.loc 4), []), ((.loc 5), []), ((.loc 7), [])])
  | 10 => ([(0, [.ar]), (3, []), (4, []), (5, []), (7, []), (8, [])], [((.loc 3), [.ar]), ((.loc 4), []), ((.loc 5), []), ((.loc 7), [])])
  | 11 => ([(0, [.ar]), (3, []), (4, []), (5, []), (47, [])], [((.loc 3), [.ar]), ((.loc 4), []), ((.loc 5), [])])
  | 12 => ([(0, [.ar]), (6, [])], [])
  | 13 => ([(0, [.ar]), (3, []), (4, []), (5, []), (7, []), (9, []), (10, [])], [((.loc 3), [.ar]), ((.loc 4), []), ((.loc 5), []), ((.loc 7), []), ((.loc 9), [])])
  | 14 => ([(0, [.ar]), (6, [])], [])
  | _ => ([], [])
noncomputable def head23_0 (a : Arena) (fr : Spot) (t : Tree) (x8 : Int) (ml7_0 : Int) (ml7_2 : Int) (ml7_3 : Int) (ml7_4 : Int) (ml7_5 : Int) : LSt U := (⟨[(0, .agg [.mref (.A)]), (3, .ptr (.loc 3) 0), (4, .ptr (.loc 4) 0), (5, .ptr (.loc 5) 0), (7, .ptr (.loc 7) 0), (8, .c (.int .i64 x8))], [((.loc 3), [.mref (.A)]), ((.loc 4), [.int .i64 (Spot.segment fr), .int .i64 (Spot.at_ fr)]), ((.loc 5), [.int .i64 (Tree.kind t), .slice (U := U) .u64 (Tree.words t) .unk, .slice (U := U) .tree (Tree.kids t) .unk]), ((.loc 7), [.int .i64 ml7_0, .int .i64 0, .int .i64 ml7_2, .int .i64 ml7_3, .int .i64 ml7_4, .int .i64 ml7_5, .int .i64 0, .bool false])], [(.A, LC.mk (U := U) .arena ([a]) 0)]⟩ : LSt U)
abbrev W23 (N : Nat) (a : Arena) (fr : Spot) (t : Tree) (Q : AExit → LSt U → Prop) := awp cfg (know (know23 N)) (drawOk cfg (know (know23 N))) Try.f23.ntmps lv23 (cd Try.f23 []) (⟨[(0, .agg [.mref (.A)]), (1, .agg [.int .i64 (Spot.segment fr), .int .i64 (Spot.at_ fr)]), (2, .agg [.int .i64 (Tree.kind t), .slice (U := U) .u64 (Tree.words t) .unk, .slice (U := U) .tree (Tree.kids t) .unk])], [], [(.A, LC.mk (U := U) .arena ([a]) 0)]⟩ : LSt U) Q
abbrev a23_EG4 (N : Nat) := awp cfg (know (know23 N)) (drawOk cfg (know (know23 N))) Try.f23.ntmps lv23
theorem vc23 (N : Nat) (a : Arena) (fr : Spot) (t : Tree) (Q : AExit → LSt U → Prop) (h : ((((Tree.kind t) : Int) == 0) = true → Q .ret (⟨[(0, .agg [.mref (.A)]), (6, .c (.bool true))], [], [(.A, LC.mk (U := U) .arena ([a]) 0)]⟩ : LSt U)) ∧ ((((Tree.kind t) : Int) == 0) = false → ((((Tree.kind t) : Int) == 1) = true → (InR ((((Tree.kids t).length : Int) : Int) + ((Tree.words t).length : Int))) ∧ (awp cfg (know (know23 N)) (drawOk cfg (know (know23 N))) Try.f23.ntmps lv23 (cd Try.f23 [1, 1, 1, 1]) (head23_0 a fr t ((((Tree.kids t).length : Int) : Int) + ((Tree.words t).length : Int)) 1 ((Tree.words t).length : Int) ((Tree.kids t).length : Int) 0 0) Q)) ∧ ((((Tree.kind t) : Int) == 1) = false → ((((Tree.kind t) : Int) == 8) = true → awp cfg (know (know23 N)) (drawOk cfg (know (know23 N))) Try.f23.ntmps lv23 (cd Try.f23 [1, 1, 1, 1]) (head23_0 a fr t ((Tree.kids t).length : Int) 2 0 0 6 ((Tree.kids t).length : Int)) Q) ∧ ((((Tree.kind t) : Int) == 8) = false → ((((Tree.kind t) : Int) == 9) = true → (pre41 ((a, ()), (Spot.mk (Spot.segment fr) (Spot.at_ fr)), (Tree.mk (Tree.kind t) (Tree.words t) (Tree.kids t)), ())) ∧ (mu41 ((a, ()), (Spot.mk (Spot.segment fr) (Spot.at_ fr)), (Tree.mk (Tree.kind t) (Tree.words t) (Tree.kids t)), ()) < N) ∧ (Q .ret (⟨[(0, .agg [.mref (.A)]), (6, .c (.bool ((layA (Tree.mk (Tree.kind t) (Tree.words t) (Tree.kids t)) a (Spot.segment (Spot.mk (Spot.segment fr) (Spot.at_ fr))) (Spot.at_ (Spot.mk (Spot.segment fr) (Spot.at_ fr)))).2)))], [], [(.A, LC.mk (U := U) .arena ([(layA (Tree.mk (Tree.kind t) (Tree.words t) (Tree.kids t)) a (Spot.segment (Spot.mk (Spot.segment fr) (Spot.at_ fr))) (Spot.at_ (Spot.mk (Spot.segment fr) (Spot.at_ fr)))).1]) 0)]⟩ : LSt U))) ∧ ((((Tree.kind t) : Int) == 9) = false → (pre42 ((a, ()), (Spot.mk (Spot.segment fr) (Spot.at_ fr)), (Tree.mk (Tree.kind t) (Tree.words t) (Tree.kids t)), ())) ∧ (Q .ret (⟨[(0, .agg [.mref (.A)]), (6, .c (.bool ((layA (Tree.mk (Tree.kind t) (Tree.words t) (Tree.kids t)) a (Spot.segment (Spot.mk (Spot.segment fr) (Spot.at_ fr))) (Spot.at_ (Spot.mk (Spot.segment fr) (Spot.at_ fr)))).2)))], [], [(.A, LC.mk (U := U) .arena ([(layA (Tree.mk (Tree.kind t) (Tree.words t) (Tree.kids t)) a (Spot.segment (Spot.mk (Spot.segment fr) (Spot.at_ fr))) (Spot.at_ (Spot.mk (Spot.segment fr) (Spot.at_ fr)))).1]) 0)]⟩ : LSt U))))))) :
    W23 N a fr t Q := by
  have e_ : (W23 N a fr t Q) = ((((((((Tree.kind t) == 0) = true → (Q .ret (⟨[(0, .agg [.mref (.A)]), (6, .c (.bool true))], [], [(.A, LC.mk (U := U) .arena ([a]) 0)]⟩ : LSt U))) ∧ (((Tree.kind t) == 0) = false → ((((Tree.kind t) == 1) = true → ((InR (((Tree.kids t).length : Int) + ((Tree.words t).length : Int))) ∧ (a23_EG4 N (cd Try.f23 [1, 1, 1, 1]) (head23_0 a fr t (((Tree.kids t).length : Int) + ((Tree.words t).length : Int)) 1 ((Tree.words t).length : Int) ((Tree.kids t).length : Int) 0 0) Q))) ∧ (((Tree.kind t) == 1) = false → ((((Tree.kind t) == 8) = true → (a23_EG4 N (cd Try.f23 [1, 1, 1, 1]) (head23_0 a fr t ((Tree.kids t).length : Int) 2 0 0 6 ((Tree.kids t).length : Int)) Q)) ∧ (((Tree.kind t) == 8) = false → ((((Tree.kind t) == 9) = true → (pre41 ((a, ()), (Spot.mk (Spot.segment fr) (Spot.at_ fr)), (Tree.mk (Tree.kind t) (Tree.words t) (Tree.kids t)), ())) ∧ (mu41 ((a, ()), (Spot.mk (Spot.segment fr) (Spot.at_ fr)), (Tree.mk (Tree.kind t) (Tree.words t) (Tree.kids t)), ()) < N) ∧ (Q .ret (⟨[(0, .agg [.mref (.A)]), (6, .c (.bool ((layA (Tree.mk (Tree.kind t) (Tree.words t) (Tree.kids t)) a (Spot.segment (Spot.mk (Spot.segment fr) (Spot.at_ fr))) (Spot.at_ (Spot.mk (Spot.segment fr) (Spot.at_ fr)))).2)))], [], [(.A, LC.mk (U := U) .arena ([(layA (Tree.mk (Tree.kind t) (Tree.words t) (Tree.kids t)) a (Spot.segment (Spot.mk (Spot.segment fr) (Spot.at_ fr))) (Spot.at_ (Spot.mk (Spot.segment fr) (Spot.at_ fr)))).1]) 0)]⟩ : LSt U))) ∧ (((Tree.kind t) == 9) = false → (pre42 ((a, ()), (Spot.mk (Spot.segment fr) (Spot.at_ fr)), (Tree.mk (Tree.kind t) (Tree.words t) (Tree.kids t)), ())) ∧ (Q .ret (⟨[(0, .agg [.mref (.A)]), (6, .c (.bool ((layA (Tree.mk (Tree.kind t) (Tree.words t) (Tree.kids t)) a (Spot.segment (Spot.mk (Spot.segment fr) (Spot.at_ fr))) (Spot.at_ (Spot.mk (Spot.segment fr) (Spot.at_ fr)))).2)))], [], [(.A, LC.mk (U := U) .arena ([(layA (Tree.mk (Tree.kind t) (Tree.words t) (Tree.kids t)) a (Spot.segment (Spot.mk (Spot.segment fr) (Spot.at_ fr))) (Spot.at_ (Spot.mk (Spot.segment fr) (Spot.at_ fr)))).1]) 0)]⟩ : LSt U)))))))))))))) := by kernel_rfl
  exact e_.mpr ⟨fun c_2 => (h.1 c_2), fun c_2 => ⟨fun c_3 => ⟨((h.2 c_2).1 c_3).1, ((h.2 c_2).1 c_3).2⟩, fun c_3 => ⟨fun c_4 => (((h.2 c_2).2 c_3).1 c_4), fun c_4 => ⟨fun c_5 => ⟨((((h.2 c_2).2 c_3).2 c_4).1 c_5).1, ((((h.2 c_2).2 c_3).2 c_4).1 c_5).2.1, ((((h.2 c_2).2 c_3).2 c_4).1 c_5).2.2⟩, fun c_5 => ⟨((((h.2 c_2).2 c_3).2 c_4).2 c_5).1, ((((h.2 c_2).2 c_3).2 c_4).2 c_5).2⟩⟩⟩⟩⟩
abbrev W23_c0 (N : Nat) (a : Arena) (fr : Spot) (t : Tree) (x8 : Int) (ml7_0 : Int) (ml7_2 : Int) (ml7_3 : Int) (ml7_4 : Int) (ml7_5 : Int) (Q : AExit → LSt U → Prop) := awp cfg (know (know23 N)) (drawOk cfg (know (know23 N))) Try.f23.ntmps lv23 (cd Try.f23 [1, 1, 1, 1]) (head23_0 a fr t x8 ml7_0 ml7_2 ml7_3 ml7_4 ml7_5) Q
theorem vc23_c0 (N : Nat) (a : Arena) (fr : Spot) (t : Tree) (x8 : Int) (ml7_0 : Int) (ml7_2 : Int) (ml7_3 : Int) (ml7_4 : Int) (ml7_5 : Int) (Q : AExit → LSt U → Prop) (h : ∀ y_1, y_1 = (t) → ∀ y_2, y_2 = (fr) → ∀ y_3, y_3 = (Spot.mk (if giveOk a x8 then giveS a x8 else 0) (if giveOk a x8 then giveT a x8 else 0)) → ∀ y_4, y_4 = (y_3) → ∀ y_5, y_5 = (Spot.mk (Spot.segment y_4) (Spot.at_ y_4 + ((Tree.words t).length : Int))) → ∀ y_6, y_6 = (pointA (giveA a x8) (Spot.segment y_2) (Spot.at_ y_2) (Spot.segment y_4) (Spot.at_ y_4) (kdP (Ptr.mk ml7_0 0 ml7_2 ml7_3 ml7_4 ml7_5 0 false)) (upP (Ptr.mk ml7_0 0 ml7_2 ml7_3 ml7_4 ml7_5 0 false))) → ∀ y_7, y_7 = (y_5) → ∀ y_8, y_8 = (putsA (Tree.words t) (bif (giveOk a x8) then (y_6.1) else (giveA a x8)) (Spot.segment y_4) (Spot.at_ y_4)) → ∀ y_9, y_9 = (kidsA (Tree.kids y_1) (bif (bif (giveOk a x8) then (y_6.2) else false) then y_8 else (bif (giveOk a x8) then (y_6.1) else (giveA a x8))) (Spot.segment y_7) (Spot.at_ y_7)) → (pre22 ((a, ()), x8, ())) ∧ (((giveOk a x8) = true → pre43 (((giveA a x8), ()), y_2, y_4, (Ptr.mk ml7_0 0 ml7_2 ml7_3 ml7_4 ml7_5 0 false), ())) ∧ ((bif (giveOk a x8) then (y_6.2) else false) = true → pre44 (((bif (giveOk a x8) then (y_6.1) else (giveA a x8)), ()), y_4, (Tree.words t), ())) ∧ ((bif (bif (giveOk a x8) then (y_6.2) else false) then true else false) = true → pre46 (y_4, ((Tree.words t).length : Int), ())) ∧ ((bif (bif (giveOk a x8) then (y_6.2) else false) then true else false) = true → pre45 (((bif (bif (giveOk a x8) then (y_6.2) else false) then y_8 else (bif (giveOk a x8) then (y_6.1) else (giveA a x8))), ()), y_7, y_1, ())) ∧ ((bif (bif (giveOk a x8) then (y_6.2) else false) then true else false) = true → mu45 (((bif (bif (giveOk a x8) then (y_6.2) else false) then y_8 else (bif (giveOk a x8) then (y_6.1) else (giveA a x8))), ()), y_7, y_1, ()) < N) ∧ (Q .ret (⟨[(0, .agg [.mref (.A)]), (6, .c (.bool (bif (bif (bif (giveOk a x8) then (y_6.2) else false) then true else false) then (y_9.2) else false)))], [], [(.A, LC.mk (U := U) .arena ([bif (bif (bif (giveOk a x8) then (y_6.2) else false) then true else false) then (y_9.1) else (bif (bif (giveOk a x8) then (y_6.2) else false) then y_8 else (bif (giveOk a x8) then (y_6.1) else (giveA a x8)))]) 0)]⟩ : LSt U)))) :
    W23_c0 N a fr t x8 ml7_0 ml7_2 ml7_3 ml7_4 ml7_5 Q := by
  have e_ : (W23_c0 N a fr t x8 ml7_0 ml7_2 ml7_3 ml7_4 ml7_5 Q) = (let y_1 := (reTree t); let y_2 := (reSpot fr); let y_3 := (Spot.mk (if giveOk a x8 then giveS a x8 else 0) (if giveOk a x8 then giveT a x8 else 0)); let y_4 := (reSpot y_3); let y_5 := (Spot.mk (Spot.segment y_4) (Spot.at_ y_4 + ((Tree.words t).length : Int))); let y_6 := (pointA (giveA a x8) (Spot.segment y_2) (Spot.at_ y_2) (Spot.segment y_4) (Spot.at_ y_4) (kdP (Ptr.mk ml7_0 0 ml7_2 ml7_3 ml7_4 ml7_5 0 false)) (upP (Ptr.mk ml7_0 0 ml7_2 ml7_3 ml7_4 ml7_5 0 false))); let y_7 := (reSpot y_5); let y_8 := (putsA (Tree.words t) (bif (giveOk a x8) then (y_6.1) else (giveA a x8)) (Spot.segment y_4) (Spot.at_ y_4)); let y_9 := (kidsA (Tree.kids y_1) (bif (bif (giveOk a x8) then (y_6.2) else false) then y_8 else (bif (giveOk a x8) then (y_6.1) else (giveA a x8))) (Spot.segment y_7) (Spot.at_ y_7)); let zz1 := (bif (giveOk a x8) then (y_6.1) else (giveA a x8)); let zz0 := (bif (giveOk a x8) then (y_6.2) else false); (pre22 ((a, ()), x8, ())) ∧ ((TrEG4 ((giveOk a x8) = true)) ∧ (TrEG4 ((giveOk a x8) = true)) ∧ (TrEG4 ((giveOk a x8) = true)) ∧ (TrEG4 ((giveOk a x8) = true)) ∧ ((giveOk a x8) = true → pre43 (((giveA a x8), ()), y_2, y_4, (Ptr.mk ml7_0 0 ml7_2 ml7_3 ml7_4 ml7_5 0 false), ())) ∧ ((TrEG4 ((giveOk a x8) = true))) ∧ (TrEG4 (zz0 = true)) ∧ (TrEG4 (zz0 = true)) ∧ (TrEG4 (zz0 = true)) ∧ (TrEG4 (zz0 = true)) ∧ (zz0 = true → pre44 ((zz1, ()), y_4, (Tree.words t), ())) ∧ ((TrEG4 (zz0 = true))) ∧ (TrEG4 ((bif zz0 then true else false) = true)) ∧ (TrEG4 ((bif zz0 then true else false) = true)) ∧ (TrEG4 ((bif zz0 then true else false) = true)) ∧ (TrEG4 ((bif zz0 then true else false) = true)) ∧ ((bif zz0 then true else false) = true → pre46 (y_4, ((Tree.words t).length : Int), ())) ∧ (TrEG4 ((bif zz0 then true else false) = true)) ∧ (TrEG4 ((bif zz0 then true else false) = true)) ∧ (TrEG4 ((bif zz0 then true else false) = true)) ∧ ((bif zz0 then true else false) = true → pre45 (((bif zz0 then y_8 else zz1), ()), y_7, y_1, ())) ∧ ((bif zz0 then true else false) = true → mu45 (((bif zz0 then y_8 else zz1), ()), y_7, y_1, ()) < N) ∧ ((TrEG4 ((bif zz0 then true else false) = true))) ∧ (Q .ret (⟨[(0, .agg [.mref (.A)]), (6, .c (.bool (bif (bif zz0 then true else false) then (y_9.2) else false)))], [], [(.A, LC.mk (U := U) .arena ([bif (bif zz0 then true else false) then (y_9.1) else (bif zz0 then y_8 else zz1)]) 0)]⟩ : LSt U)))) := by kernel_rfl
  exact e_.mpr (by intro y_1 y_2 y_3 y_4 y_5 y_6 y_7 y_8 y_9; have hh := h y_1 (reTree_eq _) y_2 (reSpot_eq _) y_3 rfl y_4 (reSpot_eq _) y_5 rfl y_6 rfl y_7 (reSpot_eq _) y_8 rfl y_9 rfl; exact ⟨hh.1, ⟨id, id, id, id, hh.2.1, (by generalize (giveOk a x8) = b0; revert b0; decide), id, id, id, id, hh.2.2.1, (by generalize (y_6.2) = b0; generalize (giveOk a x8) = b1; revert b0 b1; decide), id, id, id, id, hh.2.2.2.1, id, id, id, hh.2.2.2.2.1, hh.2.2.2.2.2.1, (by generalize (y_6.2) = b0; generalize (giveOk a x8) = b1; revert b0 b1; decide), hh.2.2.2.2.2.2⟩⟩)
abbrev Body23 (N : Nat) (a : Arena) (fr : Spot) (t : Tree)  : Prop := awp cfg (know (know23 N)) (drawOk cfg (know (know23 N))) Try.f23.ntmps lv23 (cd Try.f23 []) (entryL (args23.can ((a, ()), fr, t, ())) (args23.canX ((a, ()), fr, t, ())) (args23.canL ((a, ()), fr, t, ()))) (EndsQL cfg Try.f23.ntmps Try.f23.results.toList (res23 ((a, ()), fr, t, ())) (resX23 ((a, ()), fr, t, ())) (resL23 ((a, ()), fr, t, ())))
abbrev HB23 : Prop := ∀ (N : Nat) (a : Arena) (fr : Spot) (t : Tree) (_ : Unit), pre23 ((a, ()), fr, t, ()) → mu23 ((a, ()), fr, t, ()) < N + 1 → Body23 N a fr t
noncomputable def know45 (N : Nat) : List (FuncId × Fs U) := know23 N
def lv45 : Lives U := fun i => match i with
  | 0 => ([(0, [.ar]), (3, []), (4, []), (5, [])], [((.loc 3), [.ar]), ((.loc 4), []), ((.loc 5), [])])
  | 1 => ([(0, [.ar]), (3, []), (4, []), (10, []), (11, []), (12, [])], [((.loc 3), [.ar]), ((.loc 4), [])])
  | 2 => ([(0, [.ar]), (3, []), (4, []), (10, []), (11, []), (12, []), (13, [])], [((.loc 3), [.ar]), ((.loc 4), [])])
  | 3 => ([(0, [.ar]), (3, []), (4, []), (7, []), (8, []), (10, []), (11, []), (12, [])], [((.loc 3), [.ar]), ((.loc 4), []), ((.loc 8), [])])
  | 4 => ([(0, [.ar]), (3, []), (4, []), (10, []), (11, []), (12, []), (23, [])], [((.loc 3), [.ar]), ((.loc 4), [])])
  | 5 => ([(0, [.ar]), (6, [])], [])
  | 6 => ([(0, [.ar]), (3, []), (4, []), (10, []), (11, []), (12, [])], [((.loc 3), [.ar]), ((.loc 4), [])])
  | 7 => ([(0, [.ar]), (6, [])], [])
  | _ => ([], [])
noncomputable def head45_0 (a : Arena) (fr : Spot) (t : Tree) (x12 : Int) (rA : Arena) : LSt U := (⟨[(0, .agg [.mref (.A)]), (3, .ptr (.loc 3) 0), (4, .ptr (.loc 4) 0), (10, .c (.slice (U := U) .tree (Tree.kids t) .unk)), (11, .c (.int .i64 ((Tree.kids t).length : Int))), (12, .c (.int .i64 x12))], [((.loc 3), [.mref (.A)]), ((.loc 4), [.int .i64 (Spot.segment fr), .int .i64 (Spot.at_ fr)])], [(.A, LC.mk (U := U) .arena ([rA]) 0)]⟩ : LSt U)
abbrev W45 (N : Nat) (a : Arena) (fr : Spot) (t : Tree) (Q : AExit → LSt U → Prop) := awp cfg (know (know45 N)) (drawOk cfg (know (know45 N))) Try.f45.ntmps lv45 (cd Try.f45 []) (⟨[(0, .agg [.mref (.A)]), (1, .agg [.int .i64 (Spot.segment fr), .int .i64 (Spot.at_ fr)]), (2, .agg [.int .i64 (Tree.kind t), .slice (U := U) .u64 (Tree.words t) .unk, .slice (U := U) .tree (Tree.kids t) .unk])], [], [(.A, LC.mk (U := U) .arena ([a]) 0)]⟩ : LSt U) Q
abbrev a45_EG4 (N : Nat) := awp cfg (know (know45 N)) (drawOk cfg (know (know45 N))) Try.f45.ntmps lv45
abbrev s45_EG4 (N : Nat) := seqK cfg (know (know45 N)) (drawOk cfg (know (know45 N))) Try.f45.ntmps lv45
theorem vc45 (N : Nat) (a : Arena) (fr : Spot) (t : Tree) (Q : AExit → LSt U → Prop) (h : LoopWp (awp cfg (know (know45 N)) (drawOk cfg (know (know45 N))) Try.f45.ntmps lv45 (cd Try.f45 [1, 0, 1, 0, 0])) (head45_0 a fr t 0 a) (AExit.inBlock 0 (seqK cfg (know (know45 N)) (drawOk cfg (know (know45 N))) Try.f45.ntmps lv45 (cd Try.f45 [1, 1]) Q))) :
    W45 N a fr t Q := by
  have e_ : (W45 N a fr t Q) = (((LoopWp (a45_EG4 N (cd Try.f45 [1, 0, 1, 0, 0])) (head45_0 a fr t 0 a) (AExit.inBlock 0 (s45_EG4 N (cd Try.f45 [1, 1]) Q))))) := by kernel_rfl
  exact e_.mpr h
abbrev W45_l0 (N : Nat) (a : Arena) (fr : Spot) (t : Tree) (x12 : Int) (rA : Arena) (N0 : LSt U → Prop) (Q : AExit → LSt U → Prop) := awp cfg (know (know45 N)) (drawOk cfg (know (know45 N))) Try.f45.ntmps lv45 (cd Try.f45 [1, 0, 1, 0, 0]) (head45_0 a fr t x12 rA) (AExit.then N0 (AExit.inBlock 0 (seqK cfg (know (know45 N)) (drawOk cfg (know (know45 N))) Try.f45.ntmps lv45 (cd Try.f45 [1, 1]) Q)))
theorem vc45_l0 (N : Nat) (a : Arena) (fr : Spot) (t : Tree) (x12 : Int) (rA : Arena) (N0 : LSt U → Prop) (Q : AExit → LSt U → Prop) (h : ∀ y_1, y_1 = (fr) → ∀ y_2, y_2 = (List.getD (Tree.kids t) (Int.toNat x12) Tree.nil) → ∀ y_3, y_3 = (y_2) → ∀ y_4, y_4 = ((Spot.mk (Spot.segment y_1) (Spot.at_ y_1 + x12))) → ((decide ((x12 : Int) < ((Tree.kids t).length : Int))) = true → ((0 : Int) ≤ x12 ∧ x12 < ((Tree.kids t).length : Int)) ∧ ((pre46 (y_1, x12, ())) ∧ (pre23 ((rA, ()), y_4, y_3, ())) ∧ (mu23 ((rA, ()), y_4, y_3, ()) < N) ∧ (((!((layA y_3 rA (Spot.segment y_4) (Spot.at_ y_4)).2)) = true → Q .ret (⟨[(0, .agg [.mref (.A)]), (6, .c (.bool false))], [], [(.A, LC.mk (U := U) .arena ([(layA y_3 rA (Spot.segment y_4) (Spot.at_ y_4)).1]) 0)]⟩ : LSt U)) ∧ ((!((layA y_3 rA (Spot.segment y_4) (Spot.at_ y_4)).2)) = false → (InR ((x12 : Int) + 1)) ∧ (N0 (head45_0 a fr t ((x12 : Int) + 1) ((layA y_3 rA (Spot.segment y_4) (Spot.at_ y_4)).1))))))) ∧ ((decide ((x12 : Int) < ((Tree.kids t).length : Int))) = false → Q .ret (⟨[(0, .agg [.mref (.A)]), (6, .c (.bool true))], [], [(.A, LC.mk (U := U) .arena ([rA]) 0)]⟩ : LSt U))) :
    W45_l0 N a fr t x12 rA N0 Q := by
  have e_ : (W45_l0 N a fr t x12 rA N0 Q) = (let y_1 := (reSpot fr); let y_2 := (List.getD (Tree.kids t) (Int.toNat x12) Tree.nil); let y_3 := (reTree y_2); let y_4 := (reSpot (Spot.mk (Spot.segment y_1) (Spot.at_ y_1 + x12))); let zz0 := (!((layA y_3 rA (Spot.segment y_4) (Spot.at_ y_4)).2)); (((decide ((x12 : Int) < ((Tree.kids t).length : Int))) = true → ((0 : Int) ≤ x12 ∧ x12 < ((Tree.kids t).length : Int)) ∧ ((pre46 (y_1, x12, ())) ∧ (pre23 ((rA, ()), y_4, y_3, ())) ∧ (mu23 ((rA, ()), y_4, y_3, ()) < N) ∧ ((zz0 = true → (Q .ret (⟨[(0, .agg [.mref (.A)]), (6, .c (.bool false))], [], [(.A, LC.mk (U := U) .arena ([(layA y_3 rA (Spot.segment y_4) (Spot.at_ y_4)).1]) 0)]⟩ : LSt U))) ∧ (zz0 = false → (InR ((x12 : Int) + 1)) ∧ (N0 (head45_0 a fr t ((x12 : Int) + 1) ((layA y_3 rA (Spot.segment y_4) (Spot.at_ y_4)).1))))))) ∧ ((decide ((x12 : Int) < ((Tree.kids t).length : Int))) = false → (Q .ret (⟨[(0, .agg [.mref (.A)]), (6, .c (.bool true))], [], [(.A, LC.mk (U := U) .arena ([rA]) 0)]⟩ : LSt U))))) := by kernel_rfl
  exact e_.mpr (by intro y_1 y_2 y_3 y_4; have hh := h y_1 (reSpot_eq _) y_2 rfl y_3 (reTree_eq _) y_4 (reSpot_eq _); exact ⟨fun c_6 => ⟨(hh.1 c_6).1, ⟨(hh.1 c_6).2.1, (hh.1 c_6).2.2.1, (hh.1 c_6).2.2.2.1, ⟨fun c_7 => ((hh.1 c_6).2.2.2.2.1 c_7), fun c_7 => ⟨((hh.1 c_6).2.2.2.2.2 c_7).1, ((hh.1 c_6).2.2.2.2.2 c_7).2⟩⟩⟩⟩, fun c_6 => (hh.2 c_6)⟩)
abbrev Body45 (N : Nat) (a : Arena) (fr : Spot) (t : Tree)  : Prop := awp cfg (know (know45 N)) (drawOk cfg (know (know45 N))) Try.f45.ntmps lv45 (cd Try.f45 []) (entryL (args45.can ((a, ()), fr, t, ())) (args45.canX ((a, ()), fr, t, ())) (args45.canL ((a, ()), fr, t, ()))) (EndsQL cfg Try.f45.ntmps Try.f45.results.toList (res45 ((a, ()), fr, t, ())) (resX45 ((a, ()), fr, t, ())) (resL45 ((a, ()), fr, t, ())))
abbrev HB45 : Prop := ∀ (N : Nat) (a : Arena) (fr : Spot) (t : Tree) (_ : Unit), pre45 ((a, ()), fr, t, ()) → mu45 ((a, ()), fr, t, ()) < N + 1 → Body45 N a fr t
noncomputable def know41 (N : Nat) : List (FuncId × Fs U) := know23 N
def lv41 : Lives U := fun i => match i with
  | 0 => ([(0, [.ar]), (3, []), (4, []), (5, [])], [((.loc 3), [.ar]), ((.loc 4), []), ((.loc 5), [])])
  | 1 => ([(0, [.ar]), (3, []), (4, []), (5, []), (7, []), (8, [])], [((.loc 3), [.ar]), ((.loc 4), []), ((.loc 5), [])])
  | 2 => ([(0, [.ar]), (3, []), (4, []), (5, []), (7, []), (8, []), (9, [])], [((.loc 3), [.ar]), ((.loc 4), []), ((.loc 5), [])])
  | 3 => ([(0, [.ar]), (3, []), (4, []), (5, []), (7, []), (9, []), (10, [])], [((.loc 3), [.ar]), ((.loc 4), []), ((.loc 5), [])])
  | 4 => ([(0, [.ar]), (3, []), (4, []), (5, []), (7, []), (9, []), (10, []), (12, []), (13, [])], [((.loc 3), [.ar]), ((.loc 4), []), ((.loc 5), []), ((.loc 12), [])])
  | 5 => ([(0, [.ar]), (3, []), (5, []), (7, []), (9, []), (12, []), (68, [])], [((.loc 3), [.ar]), ((.loc 5), []), ((.loc 12), [])])
  | 6 => ([(0, [.ar]), (6, [])], [])
  | 7 => ([(0, [.ar]), (3, []), (7, []), (9, []), (12, []), (70, []), (71, []), (72, [])], [((.loc 3), [.ar]), ((.loc 12), [])])
  | 8 => ([(0, [.ar]), (3, []), (7, []), (9, []), (12, []), (70, []), (71, []), (72, []), (73, [])], [((.loc 3), [.ar]), ((.loc 12), [])])
  | 9 => ([(0, [.ar]), (3, []), (7, []), (9, []), (12, []), (14, []), (15, []), (70, []), (71, []), (72, [])], [((.loc 3), [.ar]), ((.loc 12), []), ((.loc 15), [])])
  | 10 => ([(0, [.ar]), (3, []), (7, []), (9, []), (12, []), (15, []), (16, []), (70, []), (71, []), (72, [])], [((.loc 3), [.ar]), ((.loc 12), []), ((.loc 15), []), ((.loc 16), [])])
  | 11 => ([(0, [.ar]), (3, []), (7, []), (9, []), (12, []), (70, []), (71, []), (72, []), (97, [])], [((.loc 3), [.ar]), ((.loc 12), [])])
  | 12 => ([(0, [.ar]), (6, [])], [])
  | 13 => ([(0, [.ar]), (3, []), (7, []), (9, []), (12, []), (70, []), (71, []), (72, [])], [((.loc 3), [.ar]), ((.loc 12), [])])
  | 14 => ([(0, [.ar]), (6, [])], [])
  | _ => ([], [])
noncomputable def head41_0 (a : Arena) (fr : Spot) (t : Tree) (x72 : Int) (rA : Arena) : LSt U := (⟨[(0, .agg [.mref (.A)]), (3, .ptr (.loc 3) 0), (7, .c (.int .i64 (frW (Tree.kids (Tree.mk (Tree.kind t) (Tree.words t) (Tree.kids t))) : Int))), (9, .c (.int .i64 (((frW (Tree.kids (Tree.mk (Tree.kind t) (Tree.words t) (Tree.kids t))) : Int) : Int) + (frK (Tree.kids (Tree.mk (Tree.kind t) (Tree.words t) (Tree.kids t))) : Int)))), (12, .ptr (.loc 12) 0), (70, .c (.slice (U := U) .tree (Tree.kids t) .unk)), (71, .c (.int .i64 ((Tree.kids t).length : Int))), (72, .c (.int .i64 x72))], [((.loc 3), [.mref (.A)]), ((.loc 12), [.int .i64 (Spot.segment (Spot.mk (if giveOk a ((1 : Int) + ((((Tree.kids t).length : Int) : Int) * (((frW (Tree.kids (Tree.mk (Tree.kind t) (Tree.words t) (Tree.kids t))) : Int) : Int) + (frK (Tree.kids (Tree.mk (Tree.kind t) (Tree.words t) (Tree.kids t))) : Int)))) then giveS a ((1 : Int) + ((((Tree.kids t).length : Int) : Int) * (((frW (Tree.kids (Tree.mk (Tree.kind t) (Tree.words t) (Tree.kids t))) : Int) : Int) + (frK (Tree.kids (Tree.mk (Tree.kind t) (Tree.words t) (Tree.kids t))) : Int)))) else 0) (if giveOk a ((1 : Int) + ((((Tree.kids t).length : Int) : Int) * (((frW (Tree.kids (Tree.mk (Tree.kind t) (Tree.words t) (Tree.kids t))) : Int) : Int) + (frK (Tree.kids (Tree.mk (Tree.kind t) (Tree.words t) (Tree.kids t))) : Int)))) then giveT a ((1 : Int) + ((((Tree.kids t).length : Int) : Int) * (((frW (Tree.kids (Tree.mk (Tree.kind t) (Tree.words t) (Tree.kids t))) : Int) : Int) + (frK (Tree.kids (Tree.mk (Tree.kind t) (Tree.words t) (Tree.kids t))) : Int)))) else 0))), .int .i64 (Spot.at_ (Spot.mk (if giveOk a ((1 : Int) + ((((Tree.kids t).length : Int) : Int) * (((frW (Tree.kids (Tree.mk (Tree.kind t) (Tree.words t) (Tree.kids t))) : Int) : Int) + (frK (Tree.kids (Tree.mk (Tree.kind t) (Tree.words t) (Tree.kids t))) : Int)))) then giveS a ((1 : Int) + ((((Tree.kids t).length : Int) : Int) * (((frW (Tree.kids (Tree.mk (Tree.kind t) (Tree.words t) (Tree.kids t))) : Int) : Int) + (frK (Tree.kids (Tree.mk (Tree.kind t) (Tree.words t) (Tree.kids t))) : Int)))) else 0) (if giveOk a ((1 : Int) + ((((Tree.kids t).length : Int) : Int) * (((frW (Tree.kids (Tree.mk (Tree.kind t) (Tree.words t) (Tree.kids t))) : Int) : Int) + (frK (Tree.kids (Tree.mk (Tree.kind t) (Tree.words t) (Tree.kids t))) : Int)))) then giveT a ((1 : Int) + ((((Tree.kids t).length : Int) : Int) * (((frW (Tree.kids (Tree.mk (Tree.kind t) (Tree.words t) (Tree.kids t))) : Int) : Int) + (frK (Tree.kids (Tree.mk (Tree.kind t) (Tree.words t) (Tree.kids t))) : Int)))) else 0)))])], [(.A, LC.mk (U := U) .arena ([rA]) 0)]⟩ : LSt U)
abbrev W41 (N : Nat) (a : Arena) (fr : Spot) (t : Tree) (Q : AExit → LSt U → Prop) := awp cfg (know (know41 N)) (drawOk cfg (know (know41 N))) Try.f41.ntmps lv41 (cd Try.f41 []) (⟨[(0, .agg [.mref (.A)]), (1, .agg [.int .i64 (Spot.segment fr), .int .i64 (Spot.at_ fr)]), (2, .agg [.int .i64 (Tree.kind t), .slice (U := U) .u64 (Tree.words t) .unk, .slice (U := U) .tree (Tree.kids t) .unk])], [], [(.A, LC.mk (U := U) .arena ([a]) 0)]⟩ : LSt U) Q
abbrev a41_EG4 (N : Nat) := awp cfg (know (know41 N)) (drawOk cfg (know (know41 N))) Try.f41.ntmps lv41
abbrev s41_EG4 (N : Nat) := seqK cfg (know (know41 N)) (drawOk cfg (know (know41 N))) Try.f41.ntmps lv41
theorem vc41 (N : Nat) (a : Arena) (fr : Spot) (t : Tree) (Q : AExit → LSt U → Prop) (h : ∀ y_1, y_1 = (t) → ∀ y_2, y_2 = (fr) → ∀ y_3, y_3 = (Ptr.mk 1 ((Tree.kids t).length : Int) (frW (Tree.kids y_1) : Int) (frK (Tree.kids y_1) : Int) 0 0 0 false) → ∀ y_4, y_4 = (giveA a ((1 : Int) + ((((Tree.kids t).length : Int) : Int) * (((frW (Tree.kids y_1) : Int) : Int) + (frK (Tree.kids y_1) : Int))))) → ∀ y_5, y_5 = (giveOk a ((1 : Int) + ((((Tree.kids t).length : Int) : Int) * (((frW (Tree.kids y_1) : Int) : Int) + (frK (Tree.kids y_1) : Int))))) → ∀ y_6, y_6 = (Ptr.mk 2 0 0 0 7 ((((Tree.kids t).length : Int) : Int) * (((frW (Tree.kids y_1) : Int) : Int) + (frK (Tree.kids y_1) : Int))) 0 false) → ∀ y_7, y_7 = (Spot.mk (if giveOk a ((1 : Int) + ((((Tree.kids t).length : Int) : Int) * (((frW (Tree.kids y_1) : Int) : Int) + (frK (Tree.kids y_1) : Int)))) then giveS a ((1 : Int) + ((((Tree.kids t).length : Int) : Int) * (((frW (Tree.kids y_1) : Int) : Int) + (frK (Tree.kids y_1) : Int)))) else 0) (if giveOk a ((1 : Int) + ((((Tree.kids t).length : Int) : Int) * (((frW (Tree.kids y_1) : Int) : Int) + (frK (Tree.kids y_1) : Int)))) then giveT a ((1 : Int) + ((((Tree.kids t).length : Int) : Int) * (((frW (Tree.kids y_1) : Int) : Int) + (frK (Tree.kids y_1) : Int)))) else 0)) → ∀ y_8, y_8 = (y_7) → ∀ y_9, y_9 = (pointA y_4 (Spot.segment y_2) (Spot.at_ y_2) (Spot.segment y_8) (Spot.at_ y_8) (kdP y_6) (upP y_6)) → ∀ y_10, y_10 = (putsA ([encW y_3]) (bif (!(!y_5)) then (y_9.1) else y_4) (Spot.segment y_8) (Spot.at_ y_8)) → (pre74 (y_1, ())) ∧ ((InR (((frW (Tree.kids y_1) : Int) : Int) + (frK (Tree.kids y_1) : Int))) ∧ ((pre75 (y_3, ())) ∧ ((InR ((((Tree.kids t).length : Int) : Int) * (((frW (Tree.kids y_1) : Int) : Int) + (frK (Tree.kids y_1) : Int)))) ∧ (InR ((1 : Int) + ((((Tree.kids t).length : Int) : Int) * (((frW (Tree.kids y_1) : Int) : Int) + (frK (Tree.kids y_1) : Int))))) ∧ (pre22 ((a, ()), ((1 : Int) + ((((Tree.kids t).length : Int) : Int) * (((frW (Tree.kids y_1) : Int) : Int) + (frK (Tree.kids y_1) : Int)))), ())) ∧ (((!(!y_5)) = true → InR ((((Tree.kids t).length : Int) : Int) * (((frW (Tree.kids y_1) : Int) : Int) + (frK (Tree.kids y_1) : Int)))) ∧ ((!(!y_5)) = true → pre43 ((y_4, ()), y_2, y_8, y_6, ())) ∧ ((!(bif (!y_5) then true else (!(y_9.2)))) = true → pre44 (((bif (!(!y_5)) then (y_9.1) else y_4), ()), y_8, ([encW y_3]), ())) ∧ (((bif (bif (!y_5) then true else (!(y_9.2))) then true else (!true)) = true → Q .ret (⟨[(0, .agg [.mref (.A)]), (6, .c (.bool false))], [], [(.A, LC.mk (U := U) .arena ([bif (!(bif (!y_5) then true else (!(y_9.2)))) then y_10 else (bif (!(!y_5)) then (y_9.1) else y_4)]) 0)]⟩ : LSt U)) ∧ ((bif (bif (!y_5) then true else (!(y_9.2))) then true else (!true)) = false → LoopWp (awp cfg (know (know41 N)) (drawOk cfg (know (know41 N))) Try.f41.ntmps lv41 (cd Try.f41 [1, 1, 1, 1, 1, 1, 0, 1, 0, 0])) (head41_0 a fr t 0 (bif (!(bif (!y_5) then true else (!(y_9.2)))) then y_10 else (bif (!(!y_5)) then (y_9.1) else y_4))) (AExit.inBlock 0 (seqK cfg (know (know41 N)) (drawOk cfg (know (know41 N))) Try.f41.ntmps lv41 (cd Try.f41 [1, 1, 1, 1, 1, 1, 1]) Q))))))))) :
    W41 N a fr t Q := by
  have e_ : (W41 N a fr t Q) = (let y_1 := (reTree t); let y_2 := (reSpot fr); let y_3 := (Ptr.mk 1 ((Tree.kids t).length : Int) (frW (Tree.kids y_1) : Int) (frK (Tree.kids y_1) : Int) 0 0 0 false); let y_4 := (giveA a ((1 : Int) + (((Tree.kids t).length : Int) * (((frW (Tree.kids y_1) : Int) : Int) + (frK (Tree.kids y_1) : Int))))); let y_5 := (giveOk a ((1 : Int) + (((Tree.kids t).length : Int) * (((frW (Tree.kids y_1) : Int) : Int) + (frK (Tree.kids y_1) : Int))))); let y_6 := (Ptr.mk 2 0 0 0 7 (((Tree.kids t).length : Int) * (((frW (Tree.kids y_1) : Int) : Int) + (frK (Tree.kids y_1) : Int))) 0 false); let y_7 := (Spot.mk (if giveOk a ((1 : Int) + (((Tree.kids t).length : Int) * (((frW (Tree.kids y_1) : Int) : Int) + (frK (Tree.kids y_1) : Int)))) then giveS a ((1 : Int) + (((Tree.kids t).length : Int) * (((frW (Tree.kids y_1) : Int) : Int) + (frK (Tree.kids y_1) : Int)))) else 0) (if giveOk a ((1 : Int) + (((Tree.kids t).length : Int) * (((frW (Tree.kids y_1) : Int) : Int) + (frK (Tree.kids y_1) : Int)))) then giveT a ((1 : Int) + (((Tree.kids t).length : Int) * (((frW (Tree.kids y_1) : Int) : Int) + (frK (Tree.kids y_1) : Int)))) else 0)); let y_8 := (reSpot y_7); let y_9 := (pointA y_4 (Spot.segment y_2) (Spot.at_ y_2) (Spot.segment y_8) (Spot.at_ y_8) (kdP y_6) (upP y_6)); let y_10 := (putsA ([encW y_3]) (bif (!(!y_5)) then (y_9.1) else y_4) (Spot.segment y_8) (Spot.at_ y_8)); let zz1 := (bif (!(!y_5)) then (y_9.1) else y_4); let zz0 := (bif (!y_5) then true else (!(y_9.2))); ((pre74 (y_1, ())) ∧ ((InR (((frW (Tree.kids y_1) : Int) : Int) + (frK (Tree.kids y_1) : Int))) ∧ ((pre75 (y_3, ())) ∧ ((InR (((Tree.kids t).length : Int) * (((frW (Tree.kids y_1) : Int) : Int) + (frK (Tree.kids y_1) : Int)))) ∧ (InR ((1 : Int) + (((Tree.kids t).length : Int) * (((frW (Tree.kids y_1) : Int) : Int) + (frK (Tree.kids y_1) : Int))))) ∧ (pre22 ((a, ()), ((1 : Int) + (((Tree.kids t).length : Int) * (((frW (Tree.kids y_1) : Int) : Int) + (frK (Tree.kids y_1) : Int)))), ())) ∧ (((!(!y_5)) = true → (!(!y_5)) = true) ∧ ((!(!y_5)) = true → (!(!y_5)) = true) ∧ ((!(!y_5)) = true → (!(!y_5)) = true) ∧ ((!(!y_5)) = true → (!(!y_5)) = true) ∧ ((!(!y_5)) = true → InR (((Tree.kids t).length : Int) * (((frW (Tree.kids y_1) : Int) : Int) + (frK (Tree.kids y_1) : Int)))) ∧ ((!(!y_5)) = true → (!(!y_5)) = true) ∧ ((!(!y_5)) = true → (!(!y_5)) = true) ∧ ((!(!y_5)) = true → (!(!y_5)) = true) ∧ ((!(!y_5)) = true → (!(!y_5)) = true) ∧ ((!(!y_5)) = true → (!(!y_5)) = true) ∧ ((!(!y_5)) = true → pre43 ((y_4, ()), y_2, y_8, y_6, ())) ∧ ((!(!y_5)) = true → (!(!y_5)) = true) ∧ (((!y_5) = false → (!(!y_5)) = true)) ∧ (TrEG4 ((!zz0) = true)) ∧ (TrEG4 ((!zz0) = true)) ∧ (TrEG4 ((!zz0) = true)) ∧ (TrEG4 ((!zz0) = true)) ∧ ((!zz0) = true → pre44 ((zz1, ()), y_8, ([encW y_3]), ())) ∧ (TrEG4 ((!zz0) = true)) ∧ ((zz0 = false → (!zz0) = true)) ∧ (((bif zz0 then true else (!true)) = true → (Q .ret (⟨[(0, .agg [.mref (.A)]), (6, .c (.bool false))], [], [(.A, LC.mk (U := U) .arena ([bif (!zz0) then y_10 else zz1]) 0)]⟩ : LSt U))) ∧ ((bif zz0 then true else (!true)) = false → (LoopWp (a41_EG4 N (cd Try.f41 [1, 1, 1, 1, 1, 1, 0, 1, 0, 0])) (head41_0 a fr t 0 (bif (!zz0) then y_10 else zz1)) (AExit.inBlock 0 (s41_EG4 N (cd Try.f41 [1, 1, 1, 1, 1, 1, 1]) Q))))))))))) := by kernel_rfl
  exact e_.mpr (by intro y_1 y_2 y_3 y_4 y_5 y_6 y_7 y_8 y_9 y_10; have hh := h y_1 (reTree_eq _) y_2 (reSpot_eq _) y_3 rfl y_4 rfl y_5 rfl y_6 rfl y_7 rfl y_8 (reSpot_eq _) y_9 rfl y_10 rfl; exact ⟨hh.1, ⟨hh.2.1, ⟨hh.2.2.1, ⟨hh.2.2.2.1, hh.2.2.2.2.1, hh.2.2.2.2.2.1, ⟨id, id, id, id, hh.2.2.2.2.2.2.1, id, id, id, id, id, hh.2.2.2.2.2.2.2.1, id, (by generalize y_5 = b0; revert b0; decide), id, id, id, id, hh.2.2.2.2.2.2.2.2.1, id, (by generalize (y_9.2) = b0; generalize y_5 = b1; revert b0 b1; decide), ⟨fun c_8 => (hh.2.2.2.2.2.2.2.2.2.1 c_8), fun c_8 => (hh.2.2.2.2.2.2.2.2.2.2 c_8)⟩⟩⟩⟩⟩⟩)
abbrev W41_l0 (N : Nat) (a : Arena) (fr : Spot) (t : Tree) (x72 : Int) (rA : Arena) (N0 : LSt U → Prop) (Q : AExit → LSt U → Prop) := awp cfg (know (know41 N)) (drawOk cfg (know (know41 N))) Try.f41.ntmps lv41 (cd Try.f41 [1, 1, 1, 1, 1, 1, 0, 1, 0, 0]) (head41_0 a fr t x72 rA) (AExit.then N0 (AExit.inBlock 0 (seqK cfg (know (know41 N)) (drawOk cfg (know (know41 N))) Try.f41.ntmps lv41 (cd Try.f41 [1, 1, 1, 1, 1, 1, 1]) Q)))
theorem vc41_l0 (N : Nat) (a : Arena) (fr : Spot) (t : Tree) (x72 : Int) (rA : Arena) (N0 : LSt U → Prop) (Q : AExit → LSt U → Prop) (h : ∀ y_1, y_1 = (t) → ∀ y_2, y_2 = (List.getD (Tree.kids t) (Int.toNat x72) Tree.nil) → ∀ y_3, y_3 = (y_2) → ∀ y_4, y_4 = (Spot.mk (if giveOk a ((1 : Int) + ((((Tree.kids t).length : Int) : Int) * (((frW (Tree.kids y_1) : Int) : Int) + (frK (Tree.kids y_1) : Int)))) then giveS a ((1 : Int) + ((((Tree.kids t).length : Int) : Int) * (((frW (Tree.kids y_1) : Int) : Int) + (frK (Tree.kids y_1) : Int)))) else 0) (if giveOk a ((1 : Int) + ((((Tree.kids t).length : Int) : Int) * (((frW (Tree.kids y_1) : Int) : Int) + (frK (Tree.kids y_1) : Int)))) then giveT a ((1 : Int) + ((((Tree.kids t).length : Int) : Int) * (((frW (Tree.kids y_1) : Int) : Int) + (frK (Tree.kids y_1) : Int)))) else 0)) → ∀ y_5, y_5 = (y_4) → ∀ y_6, y_6 = (Spot.mk (Spot.segment y_5) (Spot.at_ y_5 + ((1 : Int) + ((x72 : Int) * (((frW (Tree.kids y_1) : Int) : Int) + (frK (Tree.kids y_1) : Int)))))) → ∀ y_7, y_7 = (y_6) → ∀ y_8, y_8 = (putsA (Tree.words y_2) rA (Spot.segment y_7) (Spot.at_ y_7)) → ∀ y_9, y_9 = (Spot.mk (Spot.segment y_7) (Spot.at_ y_7 + (frW (Tree.kids y_1) : Int))) → ∀ y_10, y_10 = (y_9) → ∀ y_11, y_11 = (kidsA (Tree.kids y_3) y_8 (Spot.segment y_10) (Spot.at_ y_10)) → ((decide ((x72 : Int) < ((Tree.kids t).length : Int))) = true → ((0 : Int) ≤ x72 ∧ x72 < ((Tree.kids t).length : Int)) ∧ ((InR ((x72 : Int) * (((frW (Tree.kids y_1) : Int) : Int) + (frK (Tree.kids y_1) : Int)))) ∧ (InR ((1 : Int) + ((x72 : Int) * (((frW (Tree.kids y_1) : Int) : Int) + (frK (Tree.kids y_1) : Int))))) ∧ (pre46 (y_5, ((1 : Int) + ((x72 : Int) * (((frW (Tree.kids y_1) : Int) : Int) + (frK (Tree.kids y_1) : Int)))), ())) ∧ ((pre44 ((rA, ()), y_7, (Tree.words y_2), ())) ∧ ((!(!true)) = true → pre46 (y_7, (frW (Tree.kids y_1) : Int), ())) ∧ ((!(!true)) = true → pre45 ((y_8, ()), y_10, y_3, ())) ∧ ((!(!true)) = true → mu45 ((y_8, ()), y_10, y_3, ()) < N) ∧ (((bif (!true) then true else (!(y_11.2))) = true → Q .ret (⟨[(0, .agg [.mref (.A)]), (6, .c (.bool false))], [], [(.A, LC.mk (U := U) .arena ([bif (!(!true)) then (y_11.1) else y_8]) 0)]⟩ : LSt U)) ∧ ((bif (!true) then true else (!(y_11.2))) = false → (InR ((x72 : Int) + 1)) ∧ (N0 (head41_0 a fr t ((x72 : Int) + 1) (bif (!(!true)) then (y_11.1) else y_8)))))))) ∧ ((decide ((x72 : Int) < ((Tree.kids t).length : Int))) = false → Q .ret (⟨[(0, .agg [.mref (.A)]), (6, .c (.bool true))], [], [(.A, LC.mk (U := U) .arena ([rA]) 0)]⟩ : LSt U))) :
    W41_l0 N a fr t x72 rA N0 Q := by
  have e_ : (W41_l0 N a fr t x72 rA N0 Q) = (let y_1 := (reTree t); let y_2 := (List.getD (Tree.kids t) (Int.toNat x72) Tree.nil); let y_3 := (reTree y_2); let y_4 := (Spot.mk (if giveOk a ((1 : Int) + (((Tree.kids t).length : Int) * (((frW (Tree.kids y_1) : Int) : Int) + (frK (Tree.kids y_1) : Int)))) then giveS a ((1 : Int) + (((Tree.kids t).length : Int) * (((frW (Tree.kids y_1) : Int) : Int) + (frK (Tree.kids y_1) : Int)))) else 0) (if giveOk a ((1 : Int) + (((Tree.kids t).length : Int) * (((frW (Tree.kids y_1) : Int) : Int) + (frK (Tree.kids y_1) : Int)))) then giveT a ((1 : Int) + (((Tree.kids t).length : Int) * (((frW (Tree.kids y_1) : Int) : Int) + (frK (Tree.kids y_1) : Int)))) else 0)); let y_5 := (reSpot y_4); let y_6 := (Spot.mk (Spot.segment y_5) (Spot.at_ y_5 + ((1 : Int) + ((x72 : Int) * (((frW (Tree.kids y_1) : Int) : Int) + (frK (Tree.kids y_1) : Int)))))); let y_7 := (reSpot y_6); let y_8 := (putsA (Tree.words y_2) rA (Spot.segment y_7) (Spot.at_ y_7)); let y_9 := (Spot.mk (Spot.segment y_7) (Spot.at_ y_7 + (frW (Tree.kids y_1) : Int))); let y_10 := (reSpot y_9); let y_11 := (kidsA (Tree.kids y_3) y_8 (Spot.segment y_10) (Spot.at_ y_10)); (((decide ((x72 : Int) < ((Tree.kids t).length : Int))) = true → ((0 : Int) ≤ x72 ∧ x72 < ((Tree.kids t).length : Int)) ∧ ((InR ((x72 : Int) * (((frW (Tree.kids y_1) : Int) : Int) + (frK (Tree.kids y_1) : Int)))) ∧ (InR ((1 : Int) + ((x72 : Int) * (((frW (Tree.kids y_1) : Int) : Int) + (frK (Tree.kids y_1) : Int))))) ∧ (pre46 (y_5, ((1 : Int) + ((x72 : Int) * (((frW (Tree.kids y_1) : Int) : Int) + (frK (Tree.kids y_1) : Int)))), ())) ∧ ((pre44 ((rA, ()), y_7, (Tree.words y_2), ())) ∧ ((!(!true)) = true → (!(!true)) = true) ∧ ((!(!true)) = true → (!(!true)) = true) ∧ ((!(!true)) = true → pre46 (y_7, (frW (Tree.kids y_1) : Int), ())) ∧ ((!(!true)) = true → (!(!true)) = true) ∧ ((!(!true)) = true → (!(!true)) = true) ∧ ((!(!true)) = true → (!(!true)) = true) ∧ ((!(!true)) = true → pre45 ((y_8, ()), y_10, y_3, ())) ∧ ((!(!true)) = true → mu45 ((y_8, ()), y_10, y_3, ()) < N) ∧ ((!(!true)) = true → (!(!true)) = true) ∧ (((!true) = false → (!(!true)) = true)) ∧ (((bif (!true) then true else (!(y_11.2))) = true → (Q .ret (⟨[(0, .agg [.mref (.A)]), (6, .c (.bool false))], [], [(.A, LC.mk (U := U) .arena ([bif (!(!true)) then (y_11.1) else y_8]) 0)]⟩ : LSt U))) ∧ ((bif (!true) then true else (!(y_11.2))) = false → (InR ((x72 : Int) + 1)) ∧ (N0 (head41_0 a fr t ((x72 : Int) + 1) (bif (!(!true)) then (y_11.1) else y_8)))))))) ∧ ((decide ((x72 : Int) < ((Tree.kids t).length : Int))) = false → (Q .ret (⟨[(0, .agg [.mref (.A)]), (6, .c (.bool true))], [], [(.A, LC.mk (U := U) .arena ([rA]) 0)]⟩ : LSt U))))) := by kernel_rfl
  exact e_.mpr (by intro y_1 y_2 y_3 y_4 y_5 y_6 y_7 y_8 y_9 y_10 y_11; have hh := h y_1 (reTree_eq _) y_2 rfl y_3 (reTree_eq _) y_4 rfl y_5 (reSpot_eq _) y_6 rfl y_7 (reSpot_eq _) y_8 rfl y_9 rfl y_10 (reSpot_eq _) y_11 rfl; exact ⟨fun c_9 => ⟨(hh.1 c_9).1, ⟨(hh.1 c_9).2.1, (hh.1 c_9).2.2.1, (hh.1 c_9).2.2.2.1, ⟨(hh.1 c_9).2.2.2.2.1, id, id, (hh.1 c_9).2.2.2.2.2.1, id, id, id, (hh.1 c_9).2.2.2.2.2.2.1, (hh.1 c_9).2.2.2.2.2.2.2.1, id, (by decide), ⟨fun c_10 => ((hh.1 c_9).2.2.2.2.2.2.2.2.1 c_10), fun c_10 => ⟨((hh.1 c_9).2.2.2.2.2.2.2.2.2 c_10).1, ((hh.1 c_9).2.2.2.2.2.2.2.2.2 c_10).2⟩⟩⟩⟩⟩, fun c_9 => (hh.2 c_9)⟩)
abbrev Body41 (N : Nat) (a : Arena) (fr : Spot) (t : Tree)  : Prop := awp cfg (know (know41 N)) (drawOk cfg (know (know41 N))) Try.f41.ntmps lv41 (cd Try.f41 []) (entryL (args41.can ((a, ()), fr, t, ())) (args41.canX ((a, ()), fr, t, ())) (args41.canL ((a, ()), fr, t, ()))) (EndsQL cfg Try.f41.ntmps Try.f41.results.toList (res41 ((a, ()), fr, t, ())) (resX41 ((a, ()), fr, t, ())) (resL41 ((a, ()), fr, t, ())))
abbrev HB41 : Prop := ∀ (N : Nat) (a : Arena) (fr : Spot) (t : Tree) (_ : Unit), pre41 ((a, ()), fr, t, ()) → mu41 ((a, ()), fr, t, ()) < N + 1 → Body41 N a fr t
theorem make23_ (c22 : Contract Try.prog cfg 22 spec22) (c43 : Contract Try.prog cfg 43 spec43) (c44 : Contract Try.prog cfg 44 spec44) (c46 : Contract Try.prog cfg 46 spec46) (c42 : Contract Try.prog cfg 42 spec42) (c74 : Contract Try.prog cfg 74 spec74) (c75 : Contract Try.prog cfg 75 spec75) (b23 : HB23) (b45 : HB45) (b41 : HB41) :
    Contract Try.prog cfg 23 spec23 ∧ Contract Try.prog cfg 45 spec45 ∧ Contract Try.prog cfg 41 spec41 := by
  have h23 : ∃ fn, Try.prog.funcs[(23 : FuncId)]? = some fn ∧ fn.body.isSome = true ∧ (fn.name == "runtime.NumGoroutine") = false := ⟨Try.f23, Try.func23, rfl, rfl⟩
  have h45 : ∃ fn, Try.prog.funcs[(45 : FuncId)]? = some fn ∧ fn.body.isSome = true ∧ (fn.name == "runtime.NumGoroutine") = false := ⟨Try.f45, Try.func45, rfl, rfl⟩
  have h41 : ∃ fn, Try.prog.funcs[(41 : FuncId)]? = some fn ∧ fn.body.isSome = true ∧ (fn.name == "runtime.NumGoroutine") = false := ⟨Try.f41, Try.func41, rfl, rfl⟩
  have key : ∀ N, Contract Try.prog cfg 23 (fsXL args23 (fun a => [pre23 a, mu23 a < N]) res23 resX23 resL23) ∧ Contract Try.prog cfg 45 (fsXL args45 (fun a => [pre45 a, mu45 a < N]) res45 resX45 resL45) ∧ Contract Try.prog cfg 41 (fsXL args41 (fun a => [pre41 a, mu41 a < N]) res41 resX41 resL41) := by
    intro N
    induction N with
    | zero => exact ⟨fsXL_zero h23, fsXL_zero h45, fsXL_zero h41⟩
    | succ N ih =>
      have kn := know_ok (l := know23 N) ⟨ih.1, ih.2.1, ih.2.2, c22, c43, c44, c46, c42, c74, c75, trivial⟩
      exact ⟨contract_fsXL (Γ := know (know23 N)) cfgOk rfl kn lv23 Try.func23 rfl rfl (fun a => by show 3 ≤ _; decide) (fun ⟨⟨a, _⟩, fr, t, _⟩ h => b23 N a fr t () h.1 h.2.1),
        contract_fsXL (Γ := know (know23 N)) cfgOk rfl kn lv45 Try.func45 rfl rfl (fun a => by show 3 ≤ _; decide) (fun ⟨⟨a, _⟩, fr, t, _⟩ h => b45 N a fr t () h.1 h.2.1),
        contract_fsXL (Γ := know (know23 N)) cfgOk rfl kn lv41 Try.func41 rfl rfl (fun a => by show 3 ≤ _; decide) (fun ⟨⟨a, _⟩, fr, t, _⟩ h => b41 N a fr t () h.1 h.2.1)⟩
  exact ⟨fsXL_less fun N => (key N).1, fsXL_less fun N => (key N).2.1, fsXL_less fun N => (key N).2.2⟩
end
end Go.AM.Ytcljdbpmjdgooaa

namespace Go.AM.Ytcljdbpmjdgooaa
open Go.AM Go.Proofs
theorem rng_words {t : Tree} (h : rng t) : okW t.words := by
  obtain ⟨k, w, ks⟩ := t
  rw [rng] at h
  exact h.2.1
theorem okW_nums {t : Tree} (h : rng t) : okW (numsP t.kids) := by
  intro x hx
  obtain ⟨t', ht', rfl⟩ := List.mem_map.1 hx
  exact getD_word (rng_words (kid_rng h ht')) 0
theorem okW_putR {c : Int} {ns : List Int} (hn : okW ns) (hl : (ns.length : Int) ≤ 1099511627776) : okW (putR c ns) := by
  unfold putR
  split
  · rename_i hf
    exact putW_okW hn hl hf
  · intro x hx
    cases hx
theorem tagP_word {n fw fk : Nat} (hn : n < 1048576) (hw : fw < 65536) (hk : fk < 65536) : 0 ≤ tagP n fw fk ∧ tagP n fw fk < 18446744073709551616 := by
  unfold tagP
  omega
mutual
theorem okar_lay : ∀ (t : Tree) {a : Arena} (s i : Int), OkAr a → rng t → (∃ d, rightT t d = true) → OkAr (layA t a s i).1 ∧ Gr a (layA t a s i).1
  | .mk k w ks, a, s, i, h, hg, ⟨d, hr⟩ => by
    have rt := riT hr
    have hlen := rt.len
    have hkr := rt.kind
    have hkg : ∀ t ∈ ks, rng t := fun t ht => kid_rng hg (show t ∈ (Tree.mk k w ks).kids from ht)
    have hw : okW w := rng_words hg
    have hnW : okW (numsP ks) := okW_nums hg
    have hnl : (numsP ks).length = ks.length := by rw [numsP, List.length_map]
    rw [layA]
    split
    · exact ⟨h, .refl a⟩
    · split
      · rename_i k0 k1
        have hs := rt.stru k1
        refine and_ok (okar_block h _ _ _ (by decide) (fun _ => by omega)) fun _ => ?_
        have hb := okar_block h s i ((w.length : Int) + ks.length) (k := 0) (up := (w.length : Int) + 65536 * ks.length) (by decide) (fun _ => by omega)
        have h2 := okar_kids ks (giveS a ((w.length : Int) + ks.length)) (giveT a ((w.length : Int) + ks.length) + w.length) (okar_puts w (giveS a ((w.length : Int) + ks.length)) (giveT a ((w.length : Int) + ks.length)) hb.1 hw) hkg (rt.kidsOk (.inl k1))
        exact ⟨h2.1, (gr_puts _ _ _ _).trans h2.2⟩
      · split
        · rename_i k0 k1 k8
          have hu : giveOk a (ks.length : Int) = true → 0 ≤ 6 + 8 * (ks.length : Int) ∧ 6 + 8 * (ks.length : Int) < 4294967296 := fun q => by have := give_le h q; omega
          refine and_ok (okar_block h _ _ _ (by decide) hu) fun _ => ?_
          exact okar_kids ks _ _ (okar_block h s i _ (by decide) hu).1 hkg (rt.kidsOk (.inr k8))
        · split
          · rename_i k0 k1 k8 k9
            rw [k9] at rt
            have rows := rt.rows
            have hfr := fr_lt fun t ht => (rows t ht).2.2
            have hu : giveOk a (1 + ks.length * ((frW ks : Int) + frK ks)) = true → 0 ≤ 7 + 8 * (ks.length * ((frW ks : Int) + frK ks)) ∧ 7 + 8 * (ks.length * ((frW ks : Int) + frK ks)) < 4294967296 := fun q => by
              have := give_le h q
              have h0 : 0 ≤ (ks.length : Int) * ((frW ks : Int) + frK ks) := Int.mul_nonneg (by omega) (by omega)
              omega
            refine and_ok (okar_block h _ _ _ (by decide) hu) fun _ => ?_
            have hb := okar_block h s i (1 + ks.length * ((frW ks : Int) + frK ks)) (k := 1) (by decide) hu
            have h2 := okar_rows (frW ks) (frK ks) ks (giveS a (1 + ks.length * ((frW ks : Int) + frK ks))) (giveT a (1 + ks.length * ((frW ks : Int) + frK ks)) + 1)
              (hb.1.put (giveS a (1 + ks.length * ((frW ks : Int) + frK ks))) (giveT a (1 + ks.length * ((frW ks : Int) + frK ks))) (tagP_word hlen hfr.1 hfr.2)) hkg (fun t ht => (rows t ht).2.1)
            exact ⟨h2.1, (gr_put _ _ _ _).trans h2.2⟩
          · have hu : giveOk a ((putR (k - 2) (numsP ks)).length : Int) = true → 0 ≤ k - 2 + 8 * (ks.length : Int) ∧ k - 2 + 8 * (ks.length : Int) < 4294967296 := fun _ => by omega
            refine and_ok (okar_block h _ _ _ (by decide) hu) fun _ => ?_
            have hb := okar_block h s i ((putR (k - 2) (numsP ks)).length : Int) (k := 1) (by decide) hu
            exact ⟨okar_puts _ _ _ hb.1 (okW_putR hnW (by omega)), gr_puts _ _ _ _⟩
theorem okar_kids : ∀ (ks : List Tree) {a : Arena} (s i : Int), OkAr a → (∀ t ∈ ks, rng t) → KidsOk ks → OkAr (kidsA ks a s i).1 ∧ Gr a (kidsA ks a s i).1
  | [], a, s, i, h, _, _ => by rw [kidsA]; exact ⟨h, .refl a⟩
  | t :: r, a, s, i, h, hg, hk => by
    rw [kidsA]
    have h1 := okar_lay t s i h (hg t (List.mem_cons_self ..)) (hk t (List.mem_cons_self ..)).2
    exact and_ok h1 fun _ => okar_kids r s (i + 1) h1.1 (fun x hx => hg x (List.mem_cons_of_mem _ hx)) fun x hx => hk x (List.mem_cons_of_mem _ hx)
theorem okar_rows : ∀ (fw fk : Nat) (ks : List Tree) {a : Arena} (s i : Int), OkAr a → (∀ t ∈ ks, rng t) → (∀ t ∈ ks, KidsOk t.kids) → OkAr (rowsA fw fk ks a s i).1 ∧ Gr a (rowsA fw fk ks a s i).1
  | _, _, [], a, s, i, h, _, _ => by rw [rowsA]; exact ⟨h, .refl a⟩
  | fw, fk, .mk k w l :: r, a, s, i, h, hg, hk => by
    rw [rowsA]
    have hg0 := hg _ (List.mem_cons_self ..)
    have h1 := okar_kids l s (i + fw) (okar_puts w s i h (rng_words hg0)) (fun x hx => kid_rng hg0 hx) (hk _ (List.mem_cons_self ..))
    have h2 : OkAr (kidsA l (putsA w a s i) s (i + fw)).1 ∧ Gr a (kidsA l (putsA w a s i) s (i + fw)).1 := ⟨h1.1, (gr_puts _ _ _ _).trans h1.2⟩
    exact and_ok h2 fun _ => okar_rows fw fk r s _ h1.1 (fun x hx => hg x (List.mem_cons_of_mem _ hx)) fun x hx => hk x (List.mem_cons_of_mem _ hx)
end
end Go.AM.Ytcljdbpmjdgooaa

namespace Go.AM.Ytcljdbpmjdgooaa
open Go.AM Go.Proofs
theorem lay_eq (t : Tree) (a : Arena) (s i : Int) : layA t a s i =
    if t.kind = 0 then (a, true)
    else if t.kind = 1 then andA (blockA a s i (t.words.length + t.kids.length) 0 (t.words.length + 65536 * t.kids.length)) fun b =>
      kidsA t.kids (putsA t.words b (giveS a (t.words.length + t.kids.length)) (giveT a (t.words.length + t.kids.length))) (giveS a (t.words.length + t.kids.length)) (giveT a (t.words.length + t.kids.length) + t.words.length)
    else if t.kind = 8 then andA (blockA a s i t.kids.length 1 (6 + 8 * t.kids.length)) fun b => kidsA t.kids b (giveS a t.kids.length) (giveT a t.kids.length)
    else if t.kind = 9 then andA (blockA a s i (1 + t.kids.length * ((frW t.kids : Int) + frK t.kids)) 1 (7 + 8 * (t.kids.length * ((frW t.kids : Int) + frK t.kids)))) fun b =>
      rowsA (frW t.kids) (frK t.kids) t.kids (putA b (giveS a (1 + t.kids.length * ((frW t.kids : Int) + frK t.kids))) (giveT a (1 + t.kids.length * ((frW t.kids : Int) + frK t.kids))) (tagP t.kids.length (frW t.kids) (frK t.kids)))
        (giveS a (1 + t.kids.length * ((frW t.kids : Int) + frK t.kids))) (giveT a (1 + t.kids.length * ((frW t.kids : Int) + frK t.kids)) + 1)
    else andA (blockA a s i (putR (t.kind - 2) (numsP t.kids)).length 1 (t.kind - 2 + 8 * t.kids.length)) fun b =>
      (putsA (putR (t.kind - 2) (numsP t.kids)) b (giveS a (putR (t.kind - 2) (numsP t.kids)).length) (giveT a (putR (t.kind - 2) (numsP t.kids)).length), true) := by
  obtain ⟨k, w, ks⟩ := t
  rw [layA]
  rfl
theorem kidsA_step (ks : List Tree) (a : Arena) (s i : Int) {j : Int} (h0 : 0 ≤ j) (h : j < ks.length) :
    kidsA (ks.drop j.toNat) a s i = andA (layA (ks.getD j.toNat Tree.nil) a s i) fun b => kidsA (ks.drop (j + 1).toNat) b s (i + 1) := by
  rw [dropI h0 h Tree.nil, kidsA]
theorem b45 : HB45 := by
  intro N a fr t _ hp hN
  obtain ⟨⟨h, hf⟩, ⟨hm, hg⟩, hK⟩ := hp
  dsimp only at h hf hm hg hK
  have hN : 4 * mass t + 1 < N + 1 := hN
  have hk := kids_le t
  have hh := hasN_iff.1 hf
  have hu := h.used
  have hl := h.len fr.segment
  refine vc45 N a fr t _ ?_
  refine loop_rule (ι := Int × Arena) (fun p => head45_0 a fr t p.1 p.2) (fun p => (0 ≤ p.1 ∧ p.1 ≤ t.kids.length) ∧ (OkAr p.2 ∧ Gr a p.2) ∧ kidsA t.kids a fr.segment fr.at_ = kidsA (t.kids.drop p.1.toNat) p.2 fr.segment (fr.at_ + p.1)) (fun p => ((t.kids.length : Int) - p.1).toNat) (0, a) rfl ⟨⟨by dsimp only; omega, by dsimp only; omega⟩, ⟨h, .refl a⟩, by simp⟩ ?_
  rintro ⟨i, r⟩ ⟨⟨g1, g2⟩, ⟨g3, g4⟩, g5⟩
  dsimp only at g1 g2 g3 g4 g5
  refine vc45_l0 N a fr t i r _ _ ?_
  rintro y1 rfl y2 hy2 y3 rfl y4 hy4
  refine ⟨fun hb => ?_, fun hb => ?_⟩
  · have hi : i < t.kids.length := of_decide_eq_true hb
    have m1 := kid_mass (t := t) (i := i.toNat) (by omega)
    have m4 := mem_getD (l := t.kids) (i := i.toNat) (by omega) Tree.nil
    rw [← hy2] at m1 m4
    have hat : hasN r.segs y1.segment (y1.at_ + i) 1 = true := g4.has (hasN_iff.2 ⟨hh.1, hh.2.1, by omega, by decide, by omega⟩)
    have ok := okar_lay y3 y1.segment (y1.at_ + i) g3 (kid_rng hg m4) (hK _ m4).2
    have st := kidsA_step t.kids r y1.segment (y1.at_ + i) g1 hi
    rw [← hy2] at st
    refine ⟨⟨g1, hi⟩, ?_, ⟨⟨g3, ?_⟩, ⟨?_, kid_rng hg m4⟩, hK _ m4⟩, ?_, fun hc => ?_, fun hc => ⟨by ((unfold InR; omega)), (i + 1, (layA y3 r y1.segment (y1.at_ + i)).1), ?_, ⟨⟨by dsimp only; omega, by dsimp only; omega⟩, ⟨ok.1, g4.trans ok.2⟩, ?_⟩, by dsimp only; omega⟩⟩
    · show InR (y1.at_ + i)
      ((unfold InR; omega))
    · rw [hy4]; exact hat
    · show mass y3 ≤ 1000000; omega
    · show 4 * mass y3 + 3 < N; omega
    · have hc : (layA y3 r y1.segment (y1.at_ + i)).2 = false := by rw [hy4] at hc; simpa using hc
      have e : kidsA t.kids a y1.segment y1.at_ = layA y3 r y1.segment (y1.at_ + i) := by
        rw [g5, st]
        unfold andA
        rw [hc]
        rfl
      simp only [res45, resL45, e, hc]
      rw [hy4]
      (repeat' (first | exact trivial | exact rfl | apply And.intro))
    · rw [hy4]
    · dsimp only
      have hc : (layA y3 r y1.segment (y1.at_ + i)).2 = true := by rw [hy4] at hc; simpa using hc
      rw [g5, st]
      unfold andA
      rw [hc, cond_true, Int.add_assoc]
  · have e : i = t.kids.length := by have : ¬ i < t.kids.length := of_decide_eq_false hb; omega
    subst e
    have e : kidsA t.kids a y1.segment y1.at_ = (r, true) := by
      rw [g5, Int.toNat_natCast, List.drop_length, kidsA]
    simp only [res45, resL45, e]
    (repeat' (first | exact trivial | exact rfl | apply And.intro))
theorem pntOkL {c n : Int} (hc : 0 ≤ c ∧ c < 8) (hn : 0 ≤ n ∧ n < 536870912) : pntOk (Ptr.mk 2 0 0 0 c n 0 false) ∧ kdP (Ptr.mk 2 0 0 0 c n 0 false) = 1 ∧ upP (Ptr.mk 2 0 0 0 c n 0 false) = c + 8 * n := ⟨pntOk2 hc hn, rfl, rfl⟩
theorem blk_has {a : Arena} {s i n k up : Int} (hg : giveOk a n = true) (hb : (blockA a s i n k up).2 = true) : hasN (blockA a s i n k up).1.segs (giveS a n) (giveT a n) n = true := (block_has hb).2.has (give_has hg)
theorem blk_yes {a : Arena} {s i n k up : Int} (hg : giveOk a n = true) : blockA a s i n k up = pointA (giveA a n) s i (giveS a n) (giveT a n) k up := by
  unfold blockA
  rw [if_pos hg]
theorem blk_no {a : Arena} {s i n k up : Int} (hg : giveOk a n = false) : blockA a s i n k up = (a, false) ∧ giveA a n = a := by
  unfold blockA giveA
  rw [hg]
  exact ⟨rfl, rfl⟩
set_option maxHeartbeats 1000000 in
theorem c42 : Contract Try.prog cfg 42 spec42 := by
  refine make42 c59 c1060 c22 c43 c44 ?_
  intro a fr t _ hp
  obtain ⟨⟨⟨h, hf⟩, ⟨hm, hg⟩, h10, d, hr⟩, k2, k7⟩ := hp
  dsimp only at h hf hm hg h10 hr k2 k7
  have rt := riT' hr
  have hlen := rt.len
  obtain ⟨hfit, hat⟩ := rt.data k2 k7
  have hnl : (numsP t.kids).length = t.kids.length := by rw [numsP, List.length_map]
  have hnW := okW_nums hg
  have hlay := lay_eq t a fr.segment fr.at_
  rw [if_neg (by omega), if_neg (by omega), if_neg (by omega), if_neg (by omega)] at hlay
  have hpW := okW_putR (c := t.kind - 2) hnW (by omega)
  have hpR : putR (t.kind - 2) (numsP t.kids) = putW (t.kind - 2) (numsP t.kids) := by unfold putR; rw [if_pos hfit]
  rw [hpR] at hlay hpW
  refine vc42 a fr t _ ?_
  refine loop_rule (ι := Int × List Int) (fun p => head42_0 a fr t p.1 p.2) (fun p => 0 ≤ p.1 ∧ p.1 ≤ t.kids.length ∧ p.2 = numsP (t.kids.take p.1.toNat)) (fun p => ((t.kids.length : Int) - p.1).toNat) (0, []) rfl ⟨by dsimp only; omega, by dsimp only; omega, rfl⟩ ?_
  rintro ⟨i, m⟩ ⟨g1, g2, g3⟩
  dsimp only at g1 g2 g3
  refine vc42_l0 a fr t i m _ _ ?_
  rintro y1 rfl y2 hy2 y3 hy3 y4 hy4 y5 hy5 y6 hy6 y7 rfl y8 rfl y9 hy9
  refine ⟨fun hb => ?_, fun hb => ?_⟩
  · have hi : i < t.kids.length := of_decide_eq_true hb
    have hl : m.length ≤ t.kids.length := by rw [g3, numsP, List.length_map, List.length_take]; omega
    refine ⟨⟨g1, hi⟩, trivial, ?_, by ((unfold InR; omega)), (i + 1, _), rfl, ⟨by dsimp only; omega, by dsimp only; omega, ?_⟩, by dsimp only; omega⟩
    · simp only [List.length_singleton]
      omega
    · dsimp only
      rw [takeI g1 hi, numsP, List.map_append, g3, hy2]
      rfl
  · have e : i = t.kids.length := by have : ¬ i < t.kids.length := of_decide_eq_false hb; omega
    subst e
    rw [Int.toNat_natCast, List.take_length] at g3
    subst g3
    generalize hP : putW (t.kind - 2) (numsP t.kids) = P at *
    have hnl' : ((numsP t.kids).length : Int) = t.kids.length := by rw [hnl]
    rw [hnl'] at hy5
    obtain ⟨q1, q2, q3⟩ := pntOkL (c := t.kind - 2) (n := t.kids.length) ⟨by omega, by omega⟩ ⟨by omega, by omega⟩
    rw [← hy5] at q1 q2 q3
    rw [q2, q3] at hy9
    cases hk : giveOk a (P.length : Int) with
    | false =>
      obtain ⟨e1, e2⟩ := blk_no (s := y1.segment) (i := y1.at_) (k := 1) (up := t.kind - 2 + 8 * (t.kids.length : Int)) hk
      rw [e1] at hlay
      have hlay : layA t a y1.segment y1.at_ = (a, false) := hlay
      have hy4 : y4 = false := hy4.trans hk
      subst hy4
      have hy3 : y3 = a := hy3.trans e2
      refine ⟨by ((unfold InR; omega)), ⟨⟨hnW, by dsimp only; omega⟩, hfit⟩, h, fun q => (by cases q), fun q => (by cases q), fun q => (by cases q), ?_⟩
      simp only [res42, resL42, hlay, cond_false, hy3]
      (repeat' (first | exact trivial | exact rfl | apply And.intro))
    | true =>
      have hy4 : y4 = true := hy4.trans hk
      subst hy4
      have hgs := give_s hk
      have hgt := h.giveT (P.length : Int)
      have hy7 : y7 = Spot.mk (giveS a P.length) (giveT a P.length) := by rw [hy6, if_pos hk, if_pos hk]
      rw [hy7] at hy9
      have e9 : y9 = blockA a y1.segment y1.at_ P.length 1 (t.kind - 2 + 8 * (t.kids.length : Int)) := by rw [hy9, hy3, blk_yes hk]
      have hb9 : OkAr y9.1 := by rw [e9]; exact (okar_block h _ _ _ (by decide) (fun _ => by omega)).1
      rw [← e9] at hlay
      rw [hy7]
      refine ⟨by ((unfold InR; omega)), ⟨⟨hnW, by dsimp only; omega⟩, hfit⟩, h, fun _ => by ((unfold InR; omega)), fun _ => ⟨⟨by rw [hy3]; exact h.give _, by rw [hy3]; exact (gr_give a _).has hf⟩, hgt, q1, by rw [hy3]; exact hgs⟩, fun hq => ⟨⟨hb9, hpW⟩, ?_⟩, ?_⟩
      · have hq : y9.2 = true := hq
        have := blk_has (s := y1.segment) (i := y1.at_) (k := 1) (up := t.kind - 2 + 8 * (t.kids.length : Int)) hk (by rw [← e9]; exact hq)
        rw [← e9] at this
        exact this
      · cases hq : y9.2 with
        | false =>
          have hlay : layA t a y1.segment y1.at_ = y9 := by rw [hlay]; unfold andA; rw [hq]; rfl
          simp only [res42, resL42, hlay, hq, cond_false, cond_true]
          (repeat' (first | exact trivial | exact rfl | apply And.intro))
        | true =>
          have hlay : layA t a y1.segment y1.at_ = (putsA P y9.1 (giveS a P.length) (giveT a P.length), true) := by rw [hlay]; unfold andA; rw [hq]; rfl
          simp only [res42, resL42, hlay, hq, cond_true]
          (repeat' (first | exact trivial | exact rfl | apply And.intro))
set_option maxHeartbeats 1000000 in
theorem b23 : HB23 := by
  intro N a fr t _ hp hN
  have hpre := hp
  obtain ⟨⟨h, hf⟩, ⟨hm, hg⟩, h10, d, hr⟩ := hp
  dsimp only at h hf hm hg h10 hr
  have hN : 4 * mass t + 3 < N + 1 := hN
  have rt := riT' hr
  have hlen := rt.len
  have hkr := rt.kind
  have hk := kids_le t
  have hw := rng_words hg
  have hlay := lay_eq t a fr.segment fr.at_
  have core : ∀ (n K UP k0 k2 k3 k4 k5 : Int), n = (t.words.length : Int) + t.kids.length → pntOk (Ptr.mk k0 0 k2 k3 k4 k5 0 false) → kdP (Ptr.mk k0 0 k2 k3 k4 k5 0 false) = K → upP (Ptr.mk k0 0 k2 k3 k4 k5 0 false) = UP →
      KidsOk t.kids → layA t a fr.segment fr.at_ = andA (blockA a fr.segment fr.at_ n K UP) (fun b => kidsA t.kids (putsA t.words b (giveS a n) (giveT a n)) (giveS a n) (giveT a n + t.words.length)) →
      W23_c0 N a fr t n k0 k2 k3 k4 k5 (EndsQL cfg Try.f23.ntmps Try.f23.results.toList (res23 ((a, ()), fr, t, ())) (resX23 ((a, ()), fr, t, ())) (resL23 ((a, ()), fr, t, ()))) := by
    intro n K UP k0 k2 k3 k4 k5 hn hp1 hp2 hp3 kOk hl
    obtain ⟨hkk, r1, r2, r3⟩ := pnt_rng hp1
    rw [hp2] at r1
    rw [hp3] at r2
    refine vc23_c0 N a fr t n k0 k2 k3 k4 k5 _ ?_
    rintro y1 rfl y2 rfl y3 hy3 y4 rfl y5 hy5 y6 hy6 y7 rfl y8 hy8 y9 hy9
    rw [hp2, hp3] at hy6
    cases hk : giveOk a n with
    | false =>
      obtain ⟨e1, e2⟩ := blk_no (s := y2.segment) (i := y2.at_) (k := K) (up := UP) hk
      rw [e1] at hl
      have hl : layA y1 a y2.segment y2.at_ = (a, false) := hl
      refine ⟨h, fun q => (by cases q), fun q => (by cases q), fun q => (by cases q), fun q => (by cases q), fun q => (by cases q), ?_⟩
      simp only [res23, resL23, hl, cond_false, e2]
      (repeat' (first | exact trivial | exact rfl | apply And.intro))
    | true =>
      rw [hk] at hy8 hy9
      have hgs := give_s hk
      have hgt := h.giveT n
      have hnl := give_le h hk
      have hy4 : y4 = Spot.mk (giveS a n) (giveT a n) := by rw [hy3, if_pos hk, if_pos hk]
      rw [hy4] at hy5 hy6 hy8
      have e6 : y6 = blockA a y2.segment y2.at_ n K UP := by rw [hy6, blk_yes hk]
      have hb6 : OkAr y6.1 := by rw [e6]; exact (okar_block h _ _ _ r1 (fun _ => r2)).1
      rw [← e6] at hl
      rw [hy4]
      simp only [cond_true] at hy8 hy9 ⊢
      have hb : y6.2 = true → hasN y6.1.segs (giveS a n) (giveT a n) n = true := fun q => by
        have := blk_has (s := y2.segment) (i := y2.at_) (k := K) (up := UP) hk (by rw [← e6]; exact q)
        rw [← e6] at this
        exact this
      have ok8 : OkAr y8 := by rw [hy8]; exact okar_puts _ _ _ hb6 hw
      have g8 : Gr y6.1 y8 := by rw [hy8]; exact gr_puts _ _ _ _
      have pre4 : y6.2 = true → pre45 ((y8, ()), y7, y1, ()) := fun q => by
        have hb' := hasN_iff.1 (hb q)
        rw [hy5]
        exact ⟨⟨ok8, g8.has (hasN_iff.2 ⟨hb'.1, hb'.2.1, by dsimp only; omega, by dsimp only; omega, by dsimp only; omega⟩)⟩, ⟨hm, hg⟩, kOk⟩
      refine ⟨h, fun _ => ⟨⟨h.give _, (gr_give a _).has hf⟩, hgt, hp1, hgs⟩, fun q => ⟨⟨hb6, hw⟩, ?_⟩, fun q => ?_, fun q => ?_, fun q => ?_, ?_⟩
      · have hb' := hasN_iff.1 (hb q)
        exact hasN_iff.2 ⟨hb'.1, hb'.2.1, hb'.2.2.1, by dsimp only; omega, by dsimp only; omega⟩
      · show InR (giveT a n + (y1.words.length : Int))
        ((unfold InR; omega))
      · have q : y6.2 = true := by
          cases q6 : y6.2 with
          | true => rfl
          | false => rw [q6] at q; cases q
        rw [q, cond_true]
        exact pre4 q
      · show 4 * mass y1 + 1 < N
        omega
      · cases q : y6.2 with
        | false =>
          have hl : layA y1 a y2.segment y2.at_ = y6 := by rw [hl]; unfold andA; rw [q]; rfl
          simp only [res23, resL23, hl, q, cond_false]
          (repeat' (first | exact trivial | exact rfl | apply And.intro))
        | true =>
          have hl : layA y1 a y2.segment y2.at_ = y9 := by
            rw [hl, hy9, hy8, hy5]
            unfold andA
            rw [q]
            rfl
          simp only [res23, resL23, hl, cond_true]
          (repeat' (first | exact trivial | exact rfl | apply And.intro))
  refine vc23 N a fr t _ ?_
  simp only [Tree.eta]
  refine ⟨fun k0 => ?_, fun k0 => ⟨fun k1 => ?_, fun k1 => ⟨fun k8 => ?_, fun k8 => ⟨fun k9 => ?_, fun k9 => ?_⟩⟩⟩⟩
  · have k0 : t.kind = 0 := eq_of_beq k0
    rw [if_pos k0] at hlay
    simp only [res23, resL23, hlay]
    (repeat' (first | exact trivial | exact rfl | apply And.intro))
  · have k1 : t.kind = 1 := eq_of_beq k1
    have hs := rt.stru k1
    rw [if_neg (by omega), if_pos k1] at hlay
    refine ⟨by ((unfold InR; omega)), core _ 0 ((t.words.length : Int) + 65536 * t.kids.length) 1 _ _ 0 0 (by omega) (pntOk1 ⟨by omega, by omega⟩ ⟨by omega, by omega⟩) rfl rfl (rt.kidsOk (.inl k1)) ?_⟩
    rw [hlay, Int.add_comm (t.kids.length : Int)]
  · have k8 : t.kind = 8 := eq_of_beq k8
    have hw0 := rt.list (by omega) (by omega)
    rw [if_neg (by omega), if_neg (by omega), if_pos k8] at hlay
    obtain ⟨q1, q2, q3⟩ := pntOkL (c := 6) (n := t.kids.length) ⟨by omega, by omega⟩ ⟨by omega, by omega⟩
    refine core _ _ _ 2 0 0 6 _ (by rw [hw0]; simp) q1 q2 q3 (rt.kidsOk (.inr k8)) ?_
    rw [hlay, hw0]
    simp only [putsA, List.length_nil, Int.natCast_zero, Int.add_zero]
  · have k9 : t.kind = 9 := eq_of_beq k9
    refine ⟨⟨⟨h, hf⟩, ⟨hm, hg⟩, h10, d, hr, k9⟩, ?_, ?_⟩
    · show 4 * mass t + 2 < N
      omega
    · (repeat' (first | exact trivial | exact rfl | apply And.intro))
  · have n0 : t.kind ≠ 0 := fun q => by rw [q] at k0; cases k0
    have n1 : t.kind ≠ 1 := fun q => by rw [q] at k1; cases k1
    have n8 : t.kind ≠ 8 := fun q => by rw [q] at k8; cases k8
    have n9 : t.kind ≠ 9 := fun q => by rw [q] at k9; cases k9
    refine ⟨⟨hpre, ?_, ?_⟩, ?_⟩
    · show 2 ≤ t.kind; omega
    · show t.kind ≤ 7; omega
    · (repeat' (first | exact trivial | exact rfl | apply And.intro))
theorem rows_step (fw fk : Nat) (ks : List Tree) (a : Arena) (s i : Int) {j : Int} (h0 : 0 ≤ j) (h : j < ks.length) :
    rowsA fw fk (ks.drop j.toNat) a s i = andA (kidsA (ks.getD j.toNat Tree.nil).kids (putsA (ks.getD j.toNat Tree.nil).words a s i) s (i + fw)) fun b => rowsA fw fk (ks.drop (j + 1).toNat) b s (i + ((fw : Int) + fk)) := by
  rw [dropI h0 h Tree.nil]
  obtain ⟨k, w, l⟩ := ks.getD j.toNat Tree.nil
  rw [rowsA]
  rfl
set_option maxHeartbeats 2000000 in
theorem b41 : HB41 := by
  intro N a fr t _ hp hN
  obtain ⟨⟨h, hf⟩, ⟨hm, hg⟩, h10, d, hr, k9⟩ := hp
  dsimp only at h hf hm hg h10 hr k9
  have hN : 4 * mass t + 2 < N + 1 := hN
  have rt := riT' hr
  have hkl := kids_le t
  have hlen := rt.len
  have hlay := lay_eq t a fr.segment fr.at_
  rw [if_neg (by omega), if_neg (by omega), if_neg (by omega), if_pos k9] at hlay
  rw [k9] at rt
  have rows := rt.rows
  have hfr := fr_lt fun t ht => (rows t ht).2.2
  have hfit : Fit (frW t.kids) (frK t.kids) t.kids := fun t ht => frW_le ht
  have hfm := fr_mass t.kids
  have htag := tagP_word hlen hfr.1 hfr.2
  have fz : t.kids.length = 0 → frW t.kids = 0 ∧ frK t.kids = 0 := fun h => by
    rw [List.length_eq_zero_iff.1 h]; exact ⟨rfl, rfl⟩
  refine vc41 N a fr t _ ?_
  rintro y1 rfl y2 rfl y3 hy3 y4 hy4 y5 hy5 y6 hy6 y7 hy7 y8 rfl y9 hy9 y10 hy10
  simp only [Tree.eta]
  generalize hfw : frW y1.kids = fw at *
  generalize hfk : frK y1.kids = fk at *
  obtain ⟨P, hP⟩ : ∃ P : Int, P = (y1.kids.length : Int) * ((fw : Int) + fk) := ⟨_, rfl⟩
  have hP0 : 0 ≤ P := by rw [hP]; exact Int.mul_nonneg (by omega) (by omega)
  have hPm : P ≤ 4000000000000 := by
    rw [hP]
    have := Int.mul_le_mul (show (y1.kids.length : Int) ≤ 1048576 by omega) (show (fw : Int) + fk ≤ 131072 by omega) (by omega) (by decide)
    omega
  rw [← hP] at hy4 hy5 hy6 hy7 hlay ⊢
  have hen : encW y3 = tagP y1.kids.length fw fk := by
    rw [hy3]
    unfold encW tagP
    dsimp only
    rw [if_pos rfl, if_pos ⟨⟨by omega, by omega⟩, ⟨by omega, by omega⟩, by omega, by omega⟩]
    omega
  rw [hen] at hy10 ⊢
  have pre74' : pre74 (y1, ()) := hm
  have pre75' : pre75 (y3, ()) := by rw [hy3]; exact .inl rfl
  cases hk : giveOk a (1 + P) with
  | false =>
    obtain ⟨e1, e2⟩ := blk_no (s := y2.segment) (i := y2.at_) (k := 1) (up := 7 + 8 * P) hk
    rw [e1] at hlay
    have hlay : layA y1 a y2.segment y2.at_ = (a, false) := hlay
    have hy5 : y5 = false := hy5.trans hk
    subst hy5
    have hy4 : y4 = a := hy4.trans e2
    refine ⟨pre74', by ((unfold InR; omega)), pre75', by ((unfold InR; omega)), by ((unfold InR; omega)), h, fun q => (by cases q), fun q => (by cases q), fun q => (by cases q), fun _ => ?_, fun q => (by cases q)⟩
    simp only [res41, resL41, hlay, Bool.not_false, Bool.not_true, cond_true, cond_false, hy4]
    (repeat' (first | exact trivial | exact rfl | apply And.intro))
  | true =>
    have hy5 : y5 = true := hy5.trans hk
    subst hy5
    have hgs := give_s hk
    have hgt := h.giveT (1 + P)
    have hnl := give_le h hk
    have hy8 : y8 = Spot.mk (giveS a (1 + P)) (giveT a (1 + P)) := by rw [hy7, if_pos hk, if_pos hk]
    obtain ⟨q1, q2, q3⟩ := pntOkL (c := 7) (n := P) ⟨by omega, by omega⟩ ⟨by omega, by omega⟩
    rw [← hy6] at q1 q2 q3
    rw [q2, q3, hy8] at hy9
    have hu : 0 ≤ 7 + 8 * P ∧ 7 + 8 * P < 4294967296 := by omega
    have e9 : y9 = blockA a y2.segment y2.at_ (1 + P) 1 (7 + 8 * P) := by rw [hy9, hy4, blk_yes hk]
    have hb9 : OkAr y9.1 := by rw [e9]; exact (okar_block h _ _ _ (by decide) (fun _ => hu)).1
    rw [← e9] at hlay
    have hb : y9.2 = true → hasN y9.1.segs (giveS a (1 + P)) (giveT a (1 + P)) (1 + P) = true := fun q => by
      have := blk_has (s := y2.segment) (i := y2.at_) (k := 1) (up := 7 + 8 * P) hk (by rw [← e9]; exact q)
      rw [← e9] at this
      exact this
    rw [hy8] at hy10 ⊢
    have pre43' : pre43 ((y4, ()), y2, Spot.mk (giveS a (1 + P)) (giveT a (1 + P)), y6, ()) := ⟨⟨by rw [hy4]; exact h.give _, by rw [hy4]; exact (gr_give a _).has hf⟩, hgt, q1, by rw [hy4]; exact hgs⟩
    cases hq : y9.2 with
    | false =>
      have hlay : layA y1 a y2.segment y2.at_ = y9 := by rw [hlay]; unfold andA; rw [hq]; rfl
      refine ⟨pre74', by ((unfold InR; omega)), pre75', by ((unfold InR; omega)), by ((unfold InR; omega)), h, fun _ => by ((unfold InR; omega)), fun _ => pre43', fun q => (by cases q), fun _ => ?_, fun q => (by cases q)⟩
      simp only [res41, resL41, hlay, hq, Bool.not_false, Bool.not_true, cond_true, cond_false]
      (repeat' (first | exact trivial | exact rfl | apply And.intro))
    | true =>
      have hbb := hasN_iff.1 (hb hq)
      have ey10 : y10 = putA y9.1 (giveS a (1 + P)) (giveT a (1 + P)) (tagP y1.kids.length fw fk) := hy10
      have ok10 : OkAr y10 := by rw [ey10]; exact hb9.put _ _ htag
      have g10 : Gr y9.1 y10 := by rw [ey10]; exact gr_put _ _ _ _
      have hlay : layA y1 a y2.segment y2.at_ = rowsA fw fk y1.kids y10 (giveS a (1 + P)) (giveT a (1 + P) + 1) := by
        rw [hlay, ey10]; unfold andA; rw [hq]; rfl
      have has10 := g10.has (hb hq)
      simp only [Bool.not_false, Bool.not_true, cond_true, cond_false]
      refine ⟨pre74', by ((unfold InR; omega)), pre75', by ((unfold InR; omega)), by ((unfold InR; omega)), h, fun _ => by ((unfold InR; omega)), fun _ => pre43', fun _ => ⟨⟨hb9, fun x hx => ?_⟩, ?_⟩, fun q => (by cases q), fun _ => ?_⟩
      · rw [List.mem_singleton.1 hx]
        exact htag
      · exact hasN_iff.2 ⟨hbb.1, hbb.2.1, hbb.2.2.1, by dsimp only [List.length_singleton]; omega, by dsimp only [List.length_singleton]; omega⟩
      · refine loop_rule (ι := Int × Arena) (fun p => head41_0 a y2 y1 p.1 p.2) (fun p => (0 ≤ p.1 ∧ p.1 ≤ y1.kids.length) ∧ (OkAr p.2 ∧ Gr y10 p.2) ∧ layA y1 a y2.segment y2.at_ = rowsA fw fk (y1.kids.drop p.1.toNat) p.2 (giveS a (1 + P)) (giveT a (1 + P) + 1 + p.1 * ((fw : Int) + fk))) (fun p => ((y1.kids.length : Int) - p.1).toNat) (0, y10) rfl ⟨⟨by dsimp only; omega, by dsimp only; omega⟩, ⟨ok10, .refl _⟩, by simp [hlay]⟩ ?_
        rintro ⟨i, r⟩ ⟨⟨g1, g2⟩, ⟨g3, g4⟩, g5⟩
        dsimp only at g1 g2 g3 g4 g5
        refine vc41_l0 N a y2 y1 i r _ _ ?_
        rintro z1 rfl z2 hz2 z3 rfl z4 hz4 z5 rfl z6 hz6 z7 rfl z8 hz8 z9 hz9 z10 rfl z11 hz11
        rw [hfw, hfk, ← hP] at hz4
        rw [if_pos hk, if_pos hk] at hz4
        rw [hfw, hfk] at hz6
        rw [hfw] at hz9
        simp only [Tree.eta]
        rw [hfw, hfk]
        refine ⟨fun hb1 => ?_, fun hb1 => ?_⟩
        · have hi : i < z1.kids.length := of_decide_eq_true hb1
          have hmem := mem_getD (l := z1.kids) (i := i.toNat) (by omega) Tree.nil
          have m1 := kid_mass (t := z1) (i := i.toNat) (by omega)
          rw [← hz2] at hmem m1
          obtain ⟨w1, w2, w3, w4⟩ := rows _ hmem
          have hff := hfit _ hmem
          have hrg := kid_rng hg hmem
          obtain ⟨R, hR⟩ : ∃ R : Int, R = i * ((fw : Int) + fk) := ⟨_, rfl⟩
          have hR0 : 0 ≤ R := by rw [hR]; exact Int.mul_nonneg g1 (by omega)
          have hRP : R + ((fw : Int) + fk) ≤ P := by
            have h1 : (i + 1) * ((fw : Int) + fk) ≤ (z1.kids.length : Int) * ((fw : Int) + fk) := Int.mul_le_mul_of_nonneg_right (by omega) (by omega)
            rw [Int.add_mul, Int.one_mul, ← hR, ← hP] at h1
            exact h1
          rw [← hR] at hz6 g5 ⊢
          have ez7 : z7 = Spot.mk (giveS a (1 + P)) (giveT a (1 + P) + 1 + R) := by rw [hz6, hz4]; dsimp only; rw [Int.add_assoc]
          rw [ez7] at hz8 hz9 ⊢
          rw [hz9] at hz11 ⊢
          rw [hz4]
          have hbr := hasN_iff.1 ((g10.trans g4).has (hb hq))
          have hasr : hasN r.segs (giveS a (1 + P)) (giveT a (1 + P) + 1 + R) z3.words.length = true := hasN_iff.2 ⟨hbr.1, hbr.2.1, by omega, by omega, by omega⟩
          have ok8 : OkAr z8 := by rw [hz8]; exact okar_puts _ _ _ g3 (rng_words hrg)
          have g8 : Gr r z8 := by rw [hz8]; exact gr_puts _ _ _ _
          have hbk := hasN_iff.1 ((g10.trans (g4.trans g8)).has (hb hq))
          have hask : hasN z8.segs (giveS a (1 + P)) (giveT a (1 + P) + 1 + R + fw) z3.kids.length = true := hasN_iff.2 ⟨hbk.1, hbk.2.1, by omega, by omega, by omega⟩
          have ok11 := okar_kids z3.kids (giveS a (1 + P)) (giveT a (1 + P) + 1 + R + fw) ok8 (fun x hx => kid_rng hrg hx) w2
          dsimp only at hz11
          rw [← hz11] at ok11
          have st := rows_step fw fk z1.kids r (giveS a (1 + P)) (giveT a (1 + P) + 1 + R) g1 hi
          rw [← hz2] at st
          rw [st, ← hz8, ← hz11] at g5
          refine ⟨⟨g1, hi⟩, by ((unfold InR; omega)), by ((unfold InR; omega)), ?_, ⟨⟨g3, rng_words hrg⟩, hasr⟩, fun _ => ?_, fun _ => ⟨⟨ok8, hask⟩, ⟨?_, hrg⟩, w2⟩, fun _ => ?_, fun hc => ?_, fun hc => ⟨by ((unfold InR; omega)), (i + 1, z11.1), rfl, ⟨⟨by dsimp only; omega, by dsimp only; omega⟩, ⟨ok11.1, g4.trans (g8.trans ok11.2)⟩, ?_⟩, by dsimp only; omega⟩⟩
          · show InR (giveT a (1 + P) + (1 + R))
            ((unfold InR; omega))
          · show InR (giveT a (1 + P) + 1 + R + (fw : Int))
            ((unfold InR; omega))
          · show mass z3 ≤ 1000000
            omega
          · show 4 * mass z3 + 1 < N
            omega
          · have hc : z11.2 = false := by
              cases q : z11.2 with
              | false => rfl
              | true => rw [q] at hc; cases hc
            have e : layA z1 a y2.segment y2.at_ = z11 := by rw [g5]; unfold andA; rw [hc]; rfl
            simp only [res41, resL41, e, hc, Bool.not_false, Bool.not_true, cond_true, cond_false]
            (repeat' (first | exact trivial | exact rfl | apply And.intro))
          · have hc : z11.2 = true := by
              cases q : z11.2 with
              | true => rfl
              | false => rw [q] at hc; cases hc
            dsimp only
            rw [g5]
            unfold andA
            rw [hc, cond_true, Int.add_mul, Int.one_mul, ← hR, Int.add_assoc (giveT a (1 + P) + 1)]
        · have e : i = z1.kids.length := by have : ¬ i < z1.kids.length := of_decide_eq_false hb1; omega
          subst e
          have e : layA z1 a y2.segment y2.at_ = (r, true) := by rw [g5, Int.toNat_natCast, List.drop_length, rowsA]
          simp only [res41, resL41, e]
          (repeat' (first | exact trivial | exact rfl | apply And.intro))
theorem c23_ : Contract Try.prog cfg 23 spec23 ∧ Contract Try.prog cfg 45 spec45 ∧ Contract Try.prog cfg 41 spec41 := make23_ c22 c43 c44 c46 c42 c74 c75 b23 b45 b41
theorem c23 : Contract Try.prog cfg 23 spec23 := c23_.1
end Go.AM.Ytcljdbpmjdgooaa

namespace Go.AM.Ytcljdbpmjdgooaa
open Go.AM Go.Proofs
abbrev TrEG5 (p : Prop) : Prop := p → p
def args21 : ArgL (Int × Int × Unit) := (.cons (aInt .i64) (.cons (aInt .i64) .nil))
def pre21 (a : Int × Int × Unit) : Prop := True
noncomputable def res21 (a : Int × Int × Unit) : List (C U) := [.nils, .int .i64 (max a.1 1), .int .i64 (min (max a.2.1 0) 131072), .int .i64 0]
noncomputable def spec21 : Fs U := fsN args21 (fun a => [pre21 a]) res21
def args8 : ArgL (Tree × Int × Int × Unit) := (.cons (aEl .tree) (.cons (aInt .i64) (.cons (aInt .i64) .nil)))
def pre8 (a : Tree × Int × Int × Unit) : Prop := (mass a.1 ≤ 1000000 ∧ rng a.1) ∧ InR a.2.1
noncomputable def res8 (a : Tree × Int × Int × Unit) : V U := .tup [(false, [.po (U := U) .arena (if (buildA a.1 a.2.1 a.2.2.1).2 = true then some (buildA a.1 a.2.1 a.2.2.1).1 else none)]), (false, [.bool ((buildA a.1 a.2.1 a.2.2.1).2)])]
noncomputable def spec8 : Fs U := fs args8 (fun a => [pre8 a]) res8
noncomputable def know21 : List (FuncId × Fs U) := []
def lv21 : Lives U := fun i => match i with
  | 0 => ([(0, []), (1, [])], [])
  | 1 => ([(4, [])], [((.loc 11), [])])
  | _ => ([], [])
abbrev W21 (size : Int) (most : Int) (Q : AExit → LSt U → Prop) := awp cfg (know know21) (drawOk cfg (know know21)) Try.f21.ntmps lv21 (cd Try.f21 []) (⟨[(0, .c (.int .i64 size)), (1, .c (.int .i64 most))], [], []⟩ : LSt U) Q
theorem vc21 (size : Int) (most : Int) (Q : AExit → LSt U → Prop) (h : Q .ret (⟨[(4, .ptr (.loc 11) 0)], [((.loc 11), [.nils, .int .i64 (if (size : Int) < 1 then 1 else size), .int .i64 (if (131072 : Int) < (if (most : Int) < 0 then 0 else most) then 131072 else (if (most : Int) < 0 then 0 else most)), .int .i64 0])], []⟩ : LSt U)) :
    W21 size most Q := by
  have e_ : (W21 size most Q) = (((Q .ret (⟨[(4, .ptr (.loc 11) 0)], [((.loc 11), [.nils, .int .i64 (if (size : Int) < 1 then 1 else size), .int .i64 (if (131072 : Int) < (if (most : Int) < 0 then 0 else most) then 131072 else (if (most : Int) < 0 then 0 else most)), .int .i64 0])], []⟩ : LSt U)))) := by kernel_rfl
  exact e_.mpr h
abbrev Body21 (size : Int) (most : Int)  : Prop := awp cfg (know (know21)) (drawOk cfg (know (know21))) Try.f21.ntmps lv21 (cd Try.f21 []) (entry (args21.can (size, most, ())) []) (EndsQN cfg Try.f21.ntmps Try.f21.results.toList [] (res21 (size, most, ())))
theorem make21 (hb : ∀ (size : Int) (most : Int) (_ : Unit), pre21 (size, most, ()) → Body21 size most) : Contract Try.prog cfg 21 spec21 :=
  contract_flatN (l := []) cfgOk rfl (trivial) lv21 Try.func21 rfl rfl 2 (fun _ => rfl) (by decide) (fun ⟨size, most, _⟩ => hb size most ())
noncomputable def know8 : List (FuncId × Fs U) := [(21, arnd spec21), (20, spec20), (22, spec22), (24, spec24), (23, spec23)]
def lv8 : Lives U := fun i => match i with
  | 0 => ([(1, []), (2, []), (3, [])], [((.loc 3), [])])
  | 1 => ([(1, []), (2, []), (3, []), (18, [])], [((.loc 3), [])])
  | 2 => ([(6, []), (7, [])], [])
  | 3 => ([(3, []), (8, [])], [((.loc 3), []), ((.loc 8), [.ar])])
  | 4 => ([(3, []), (8, []), (9, []), (10, [])], [((.loc 3), []), ((.loc 8), [.ar]), ((.loc 9), [])])
  | 5 => ([(8, []), (37, [])], [((.loc 8), [.ar])])
  | 6 => ([(6, []), (7, [])], [])
  | 7 => ([(6, [.pt .arena]), (7, [])], [])
  | _ => ([], [])
abbrev W8 (t : Tree) (size : Int) (most : Int) (Q : AExit → LSt U → Prop) := awp cfg (knowA know8) (drawOk cfg (knowA know8)) Try.f8.ntmps lv8 (cd Try.f8 []) (⟨[(0, .agg [.int .i64 (Tree.kind t), .slice (U := U) .u64 (Tree.words t) .unk, .slice (U := U) .tree (Tree.kids t) .unk]), (1, .c (.int .i64 size)), (2, .c (.int .i64 most))], [], []⟩ : LSt U) Q
theorem vc8 (t : Tree) (size : Int) (most : Int) (Q : AExit → LSt U → Prop) (h : ∀ y_1, y_1 = (t) → ∀ y_2, y_2 = (giveA (Arena.mk ([]) (max size 1) (min (max most 0) 131072) 0) 1) → ∀ y_3, y_3 = (giveOk (Arena.mk ([]) (max size 1) (min (max most 0) 131072) 0) 1) → ∀ y_4, y_4 = (Spot.mk (if giveOk (Arena.mk ([]) (max size 1) (min (max most 0) 131072) 0) 1 then giveS (Arena.mk ([]) (max size 1) (min (max most 0) 131072) 0) 1 else 0) (if giveOk (Arena.mk ([]) (max size 1) (min (max most 0) 131072) 0) 1 then giveT (Arena.mk ([]) (max size 1) (min (max most 0) 131072) 0) 1 else 0)) → ∀ y_5, y_5 = (y_4) → ∀ y_6, y_6 = ((normT y_1)) → (pre20 (y_1, ())) ∧ (((bif (!(rightT y_1 64)) then true else (((Tree.kind t) : Int) == 10)) = true → Q .ret (⟨[(6, .c (.nilp)), (7, .c (.bool false))], [], []⟩ : LSt U)) ∧ ((bif (!(rightT y_1 64)) then true else (((Tree.kind t) : Int) == 10)) = false → (pre21 (size, most, ())) ∧ ((pre22 (((Arena.mk ([]) (max size 1) (min (max most 0) 131072) 0), ()), 1, ())) ∧ (((!(!y_3)) = true → pre24 (y_1, ())) ∧ ((!(!y_3)) = true → pre23 ((y_2, ()), y_5, y_6, ())) ∧ (((bif (!y_3) then true else (!((layA y_6 y_2 (Spot.segment y_5) (Spot.at_ y_5)).2))) = true → Q .ret (⟨[(6, .c (.nilp)), (7, .c (.bool false))], [], []⟩ : LSt U)) ∧ ((bif (!y_3) then true else (!((layA y_6 y_2 (Spot.segment y_5) (Spot.at_ y_5)).2))) = false → Q .ret (⟨[(6, .c (.po (U := U) .arena (some (bif (!(!y_3)) then ((layA y_6 y_2 (Spot.segment y_5) (Spot.at_ y_5)).1) else y_2)))), (7, .c (.bool true))], [], []⟩ : LSt U)))))))) :
    W8 t size most Q := by
  have e_ : (W8 t size most Q) = (let y_1 := (reTree t); let y_2 := (giveA (Arena.mk ([]) (max size 1) (min (max most 0) 131072) 0) 1); let y_3 := (giveOk (Arena.mk ([]) (max size 1) (min (max most 0) 131072) 0) 1); let y_4 := (Spot.mk (if giveOk (Arena.mk ([]) (max size 1) (min (max most 0) 131072) 0) 1 then giveS (Arena.mk ([]) (max size 1) (min (max most 0) 131072) 0) 1 else 0) (if giveOk (Arena.mk ([]) (max size 1) (min (max most 0) 131072) 0) 1 then giveT (Arena.mk ([]) (max size 1) (min (max most 0) 131072) 0) 1 else 0)); let y_5 := (reSpot y_4); let y_6 := (reTree (normT y_1)); let zz1 := (bif (!(rightT y_1 64)) then true else ((Tree.kind t) == 10)); let zz0 := (bif (!y_3) then true else (!((layA y_6 y_2 (Spot.segment y_5) (Spot.at_ y_5)).2))); ((pre20 (y_1, ())) ∧ (TrEG5 ((!(!(rightT y_1 64))) = true)) ∧ (TrEG5 ((!(!(rightT y_1 64))) = true)) ∧ (((!(rightT y_1 64)) = false → (!(!(rightT y_1 64))) = true)) ∧ ((zz1 = true → (Q .ret (⟨[(6, .c (.nilp)), (7, .c (.bool false))], [], []⟩ : LSt U))) ∧ (zz1 = false → (pre21 (size, most, ())) ∧ ((pre22 (((Arena.mk ([]) (max size 1) (min (max most 0) 131072) 0), ()), 1, ())) ∧ (((!(!y_3)) = true → (!(!y_3)) = true) ∧ ((!(!y_3)) = true → pre24 (y_1, ())) ∧ ((!(!y_3)) = true → (!(!y_3)) = true) ∧ ((!(!y_3)) = true → (!(!y_3)) = true) ∧ ((!(!y_3)) = true → (!(!y_3)) = true) ∧ ((!(!y_3)) = true → pre23 ((y_2, ()), y_5, y_6, ())) ∧ ((!(!y_3)) = true → (!(!y_3)) = true) ∧ (((!y_3) = false → (!(!y_3)) = true)) ∧ ((zz0 = true → (Q .ret (⟨[(6, .c (.nilp)), (7, .c (.bool false))], [], []⟩ : LSt U))) ∧ (zz0 = false → (Q .ret (⟨[(6, .c (.po (U := U) .arena (some (bif (!(!y_3)) then ((layA y_6 y_2 (Spot.segment y_5) (Spot.at_ y_5)).1) else y_2)))), (7, .c (.bool true))], [], []⟩ : LSt U)))))))))) := by kernel_rfl
  exact e_.mpr (by intro y_1 y_2 y_3 y_4 y_5 y_6; have hh := h y_1 (reTree_eq _) y_2 rfl y_3 rfl y_4 rfl y_5 (reSpot_eq _) y_6 (reTree_eq _); exact ⟨hh.1, id, id, (by generalize (rightT y_1 64) = b0; revert b0; decide), ⟨fun c_1 => (hh.2.1 c_1), fun c_1 => ⟨(hh.2.2 c_1).1, ⟨(hh.2.2 c_1).2.1, ⟨id, (hh.2.2 c_1).2.2.1, id, id, id, (hh.2.2 c_1).2.2.2.1, id, (by generalize y_3 = b0; revert b0; decide), ⟨fun c_2 => ((hh.2.2 c_1).2.2.2.2.1 c_2), fun c_2 => ((hh.2.2 c_1).2.2.2.2.2 c_2)⟩⟩⟩⟩⟩⟩)
abbrev Body8 (t : Tree) (size : Int) (most : Int)  : Prop := awp cfg (knowA (know8)) (drawOk cfg (knowA (know8))) Try.f8.ntmps lv8 (cd Try.f8 []) (entry (args8.can (t, size, most, ())) []) (EndsQ cfg Try.f8.ntmps Try.f8.results.toList (res8 (t, size, most, ())) [])
theorem make8 (c21 : Contract Try.prog cfg 21 spec21) (c20 : Contract Try.prog cfg 20 spec20) (c22 : Contract Try.prog cfg 22 spec22) (c24 : Contract Try.prog cfg 24 spec24) (c23 : Contract Try.prog cfg 23 spec23) (hb : ∀ (t : Tree) (size : Int) (most : Int) (_ : Unit), pre8 (t, size, most, ()) → Body8 t size most) : Contract Try.prog cfg 8 spec8 :=
  contract_flatA (l := [(21, arnd spec21), (20, spec20), (22, spec22), (24, spec24), (23, spec23)]) cfgOk rfl (⟨contract_arn c21, c20, c22, c24, c23, trivial⟩) lv8 Try.func8 rfl rfl 3 (fun _ => rfl) (by decide) (fun ⟨t, size, most, _⟩ => hb t size most ())
end Go.AM.Ytcljdbpmjdgooaa

namespace Go.AM.Ytcljdbpmjdgooaa
open Go.AM Go.Proofs
theorem max1 (x y : Int) : (if x < y then y else x) = max x y := by omega
theorem min1 (x y : Int) : (if y < x then y else x) = min x y := by omega
theorem c21 : Contract Try.prog cfg 21 spec21 := by
  refine make21 ?_
  intro size most _ _
  refine vc21 size most _ ?_
  rw [max1, max1, min1]
  (repeat' (first | exact trivial | exact rfl | apply And.intro))
theorem c8 : Contract Try.prog cfg 8 spec8 := by
  refine make8 c21 c20 c22 c24 c23 ?_
  intro t size most _ hp
  obtain ⟨⟨hm, hg⟩, hs⟩ := hp
  dsimp only at hm hg hs
  have fin : ∀ {r : Arena} , buildA t size most = (r, false) → EndsQ cfg Try.f8.ntmps Try.f8.results.toList (res8 (t, size, most, ())) [] .ret (⟨[(6, .c (.nilp)), (7, .c (.bool false))], [], []⟩ : LSt U) := by
    intro r e
    refine ends_eq (r' := .tup [(false, [.po (U := U) .arena none]), (false, [.bool false])]) ?_ (by (repeat' (first | exact trivial | exact rfl | apply And.intro)))
    simp only [res8, e]
    rfl
  have hn := normT_mass t
  refine vc8 t size most _ ?_
  rintro y1 rfl y2 hy2 y3 hy3 y4 hy4 y5 rfl y6 hy6
  have eA : (Arena.mk ([]) (max size 1) (min (max most 0) 131072) 0) = newA size most := rfl
  rw [eA] at hy2 hy3 hy4 ⊢
  have ok0 : OkAr (newA size most) := OkAr.new size most (by unfold InR at hs; omega)
  refine ⟨⟨by dsimp only; omega, hg⟩, fun hb => ?_, fun hb => ?_⟩
  · have : ¬(rightT y1 64 = true ∧ y1.kind ≠ 10) := by
      rintro ⟨q1, q2⟩
      rw [q1] at hb
      exact q2 (eq_of_beq hb)
    refine fin (r := newA size most) ?_
    unfold buildA
    rw [if_neg this]
  · have hr : rightT y1 64 = true := by
      cases q : rightT y1 64 with
      | true => rfl
      | false => rw [q] at hb; cases hb
    have hk : y1.kind ≠ 10 := by
      intro q
      rw [hr, q] at hb
      cases hb
    have hn10 : (normT y1).kind ≠ 10 := by rw [normT_kind]; exact hk
    have hB : buildA y1 size most = if giveOk (newA size most) 1 then layA (normT y1) (giveA (newA size most) 1) (giveS (newA size most) 1) (giveT (newA size most) 1) else (newA size most, false) := by
      unfold buildA
      rw [if_pos ⟨hr, hk⟩]
    subst hy6
    refine ⟨trivial, ok0, fun _ => (show mass y1 ≤ 1000000000000 by omega), fun q => ?_, fun q => ?_, fun q => ?_⟩
    · have q3 : giveOk (newA size most) 1 = true := by
        rw [← hy3]
        cases y3 with
        | true => rfl
        | false => cases q
      have hy5 : y5 = Spot.mk (giveS (newA size most) 1) (giveT (newA size most) 1) := by rw [hy4, if_pos q3, if_pos q3]
      rw [hy5]
      exact ⟨⟨by rw [hy2]; exact ok0.give _, by rw [hy2]; exact give_has q3⟩, ⟨by dsimp only; omega, rng_norm _ hg⟩, hn10, 64, rightT_norm _ _ hr⟩
    · cases q3 : giveOk (newA size most) 1 with
      | false =>
        refine fin (r := newA size most) ?_
        rw [hB, q3]
        rfl
      | true =>
        have hy5 : y5 = Spot.mk (giveS (newA size most) 1) (giveT (newA size most) 1) := by rw [hy4, if_pos q3, if_pos q3]
        rw [hy3, q3, hy5, hy2] at q
        have q : (layA (normT y1) (giveA (newA size most) 1) (giveS (newA size most) 1) (giveT (newA size most) 1)).2 = false := by
          cases q4 : (layA (normT y1) (giveA (newA size most) 1) (giveS (newA size most) 1) (giveT (newA size most) 1)).2 with
          | false => rfl
          | true => dsimp only at q; rw [q4] at q; cases q
        refine fin (r := (layA (normT y1) (giveA (newA size most) 1) (giveS (newA size most) 1) (giveT (newA size most) 1)).1) ?_
        rw [hB, if_pos q3, ← q]
    · cases q3 : giveOk (newA size most) 1 with
      | false => rw [hy3, q3] at q; cases q
      | true =>
        have hy5 : y5 = Spot.mk (giveS (newA size most) 1) (giveT (newA size most) 1) := by rw [hy4, if_pos q3, if_pos q3]
        rw [hy3, q3, hy5, hy2] at q
        have q : (layA (normT y1) (giveA (newA size most) 1) (giveS (newA size most) 1) (giveT (newA size most) 1)).2 = true := by
          cases q4 : (layA (normT y1) (giveA (newA size most) 1) (giveS (newA size most) 1) (giveT (newA size most) 1)).2 with
          | true => rfl
          | false => dsimp only at q; rw [q4] at q; cases q
        rw [hy3, q3, hy5, hy2]
        refine ends_eq (r' := .tup [(false, [.po (U := U) .arena (some (layA (normT y1) (giveA (newA size most) 1) (giveS (newA size most) 1) (giveT (newA size most) 1)).1)]), (false, [.bool true])]) ?_ (by (repeat' (first | exact trivial | exact rfl | apply And.intro)))
        simp only [res8, hB, if_pos q3, q, if_true]
end Go.AM.Ytcljdbpmjdgooaa

namespace Go.AM.Ytcljdbpmjdgooaa
open Go.AM Go.Proofs
def args12 : ArgL (Tree × Int × Unit) := (.cons (aEl .tree) (.cons (aInt .i64) .nil))
def pre12 (a : Tree × Int × Unit) : Prop := mass a.1 ≤ 1000000 ∧ rng a.1
noncomputable def res12 (a : Tree × Int × Unit) : V U := .tup [(false, [.slice (U := U) .u64 ((encP a.1 a.2.1).1) .unk]), (false, [.bool ((encP a.1 a.2.1).2)])]
noncomputable def spec12 : Fs U := fs args12 (fun a => [pre12 a]) res12
noncomputable def know12 : List (FuncId × Fs U) := [(20, spec20), (24, spec24), (30, spec30), (31, spec31), (32, spec1032)]
def lv12 : Lives U := fun i => match i with
  | 0 => ([(1, []), (2, [])], [((.loc 2), [])])
  | 1 => ([(1, []), (2, []), (16, [])], [((.loc 2), [])])
  | 2 => ([(4, []), (5, [])], [])
  | 3 => ([(1, []), (2, [])], [((.loc 2), [])])
  | 4 => ([(1, []), (2, []), (6, [])], [((.loc 2), [])])
  | 5 => ([(2, []), (27, [])], [((.loc 2), [])])
  | 6 => ([(4, []), (5, [])], [])
  | 7 => ([(2, []), (7, [])], [((.loc 2), []), ((.loc 29), [])])
  | 8 => ([(7, []), (8, [])], [((.loc 29), [])])
  | 9 => ([(4, []), (5, [])], [])
  | _ => ([], [])
noncomputable abbrev A12 (p : List Nat) := awp cfg (know know12) (drawOk cfg (know know12)) Try.f12.ntmps lv12 (cd Try.f12 p)
theorem vc12 (t : Tree) (most : Int) (Q : AExit → LSt U → Prop) (h : ∀ y_1, y_1 = (t) → ∀ y_2, y_2 = ((normT y_1)) → ((pre20 (y_1, ())) ∧ (Tr ((!(!(rightT y_1 64))) = true)) ∧ (Tr ((!(!(rightT y_1 64))) = true)) ∧ (((!(rightT y_1 64)) = false → (!(!(rightT y_1 64))) = true)) ∧ (((bif (!(rightT y_1 64)) then true else (((Tree.kind t) : Int) == 10)) = true → (Q .ret (⟨[(4, .c (.nils)), (5, .c (.bool false))], [], []⟩ : LSt U))) ∧ ((bif (!(rightT y_1 64)) then true else (((Tree.kind t) : Int) == 10)) = false → (pre24 (y_1, ())) ∧ ((pre30 (y_2, ())) ∧ ((Tr ((!(decide ((most : Int) ≤ (sizeN (normT y_2) : Int)))) = true)) ∧ (((decide ((most : Int) ≤ (sizeN (normT y_2) : Int))) = false → (!(decide ((most : Int) ≤ (sizeN (normT y_2) : Int)))) = true)) ∧ (((bif (decide ((most : Int) ≤ (sizeN (normT y_2) : Int))) then true else (decide ((131072 : Int) ≤ (sizeN (normT y_2) : Int)))) = true → (Q .ret (⟨[(4, .c (.nils)), (5, .c (.bool false))], [], []⟩ : LSt U))) ∧ ((bif (decide ((most : Int) ≤ (sizeN (normT y_2) : Int))) then true else (decide ((131072 : Int) ≤ (sizeN (normT y_2) : Int)))) = false → ((pre1032 ((([] : List Int), ()), 1, ())) ∧ (pre31 (((([] : List Int) ++ zs (Int.toNat 1)), ()), (([] : List Int).length : Int), y_2, ())) ∧ ((Q .ret (⟨[(4, .c (.slice (U := U) .u64 (layP (([] : List Int) ++ zs (Int.toNat 1)) (([] : List Int).length : Int) y_2) (.own (.e 4 0)))), (5, .c (.bool true))], [], []⟩ : LSt U)))))))))))) :
    A12 [] (⟨[(0, .agg [.int .i64 (Tree.kind t), .slice (U := U) .u64 (Tree.words t) .unk, .slice (U := U) .tree (Tree.kids t) .unk]), (1, .c (.int .i64 most))], [], []⟩ : LSt U) Q :=
  (Eq.mpr (by kernel_rfl) (h _ (reTree_eq _) _ (reTree_eq _)) :)
abbrev Body12 (t : Tree) (most : Int)  : Prop := awp cfg (know (know12)) (drawOk cfg (know (know12))) Try.f12.ntmps lv12 (cd Try.f12 []) (entry (args12.can (t, most, ())) []) (EndsQ cfg Try.f12.ntmps Try.f12.results.toList (res12 (t, most, ())) [])
theorem make12 (c20 : Contract Try.prog cfg 20 spec20) (c24 : Contract Try.prog cfg 24 spec24) (c30 : Contract Try.prog cfg 30 spec30) (c31 : Contract Try.prog cfg 31 spec31) (c1032 : Contract Try.prog cfg 32 spec1032) (hb : ∀ (t : Tree) (most : Int) (_ : Unit), pre12 (t, most, ()) → Body12 t most) : Contract Try.prog cfg 12 spec12 :=
  contract_flat (l := [(20, spec20), (24, spec24), (30, spec30), (31, spec31), (32, spec1032)]) cfgOk rfl (⟨c20, c24, c30, c31, c1032, trivial⟩) lv12 Try.func12 rfl rfl 2 (fun _ => rfl) (by decide) (fun ⟨t, most, _⟩ => hb t most ())
end Go.AM.Ytcljdbpmjdgooaa

namespace Go.AM.Ytcljdbpmjdgooaa
open Go.AM Go.Proofs
def Has (A : List Int) (to : Int) (b : List Int) : Prop := ∃ p s, A = p ++ (b ++ s) ∧ (p.length : Int) = to
theorem hasN_one {A : List Int} {a n : Int} : hasN [A] 0 a n = true ↔ 0 ≤ a ∧ 0 ≤ n ∧ a + n ≤ A.length := by
  rw [hasN_iff]
  simp [segAt]
theorem segAt_one (A : List Int) : segAt [A] 0 = A := by simp [segAt]
end Go.AM.Ytcljdbpmjdgooaa

namespace Go.AM.Ytcljdbpmjdgooaa
open Go.AM Go.Proofs
theorem lay_self {n : Tree} {d : Int} (hr : rightT n d = true) (h10 : n.kind ≠ 10) :
    (layP [0] 0 n).length = sizeN n + 1 ∧ (layP [0] 0 n).getD 0 0 = headP 0 1 n ∧ Has (layP [0] 0 n) 1 (blkP n 1) := by
  have hb := blkP_len n d 1 hr h10
  unfold layP
  by_cases h0 : n.kind = 0
  · have rt := riT' hr
    have e := rt.nil h0
    have hs : sizeN n = 0 := by rw [size_eq, if_neg (by omega), if_neg (by omega), if_neg (by omega), if_neg (by omega), e.2]; rfl
    have hbl : blkP n 1 = [] := List.length_eq_zero_iff.1 (by omega)
    rw [if_pos h0, hs, hbl]
    refine ⟨rfl, ?_, ⟨[0], [], rfl, rfl⟩⟩
    rw [head_eq, if_pos h0]
    rfl
  · rw [if_neg h0]
    refine ⟨?_, rfl, ⟨[headP 0 1 n], [], by simp, rfl⟩⟩
    rw [List.length_append, List.length_set]
    show 1 + (blkP n 1).length = _
    omega
theorem enc_yes {t : Tree} {m : Int} (h : (encP t m).2 = true) : rightT t 64 = true ∧ t.kind ≠ 10 ∧ (sizeN (normT t) : Int) < m ∧ sizeN (normT t) < 131072 ∧ encP t m = (layP [0] 0 (normT t), true) := by
  unfold encP at h ⊢
  split at h
  · rename_i h1
    rw [if_pos h1]
    split at h
    · rename_i h2
      rw [if_pos h2]
      exact ⟨h1.1, h1.2, h2.1, h2.2, rfl⟩
    · cases h
  · cases h
theorem enc_no {t : Tree} {m : Int} (h : (encP t m).2 = false) : encP t m = ([], false) := by
  unfold encP at h ⊢
  split
  · rename_i h1
    rw [if_pos h1] at h
    split
    · rename_i h2
      rw [if_pos h2] at h
      cases h
    · rfl
  · rfl
theorem enc_len (t : Tree) (m : Int) : (encP t m).1.length ≤ 131072 := by
  cases h : (encP t m).2 with
  | false => rw [enc_no h]; simp
  | true =>
    obtain ⟨h1, h2, _, h4, h5⟩ := enc_yes h
    rw [h5]
    have := (lay_self (rightT_norm _ _ h1) (by rw [normT_kind]; exact h2)).1
    dsimp only
    omega
end Go.AM.Ytcljdbpmjdgooaa

namespace Go.AM.Ytcljdbpmjdgooaa
open Go.AM Go.Proofs
theorem c12 : Contract Try.prog cfg 12 spec12 := by
  refine make12 c20 c24 c30 c31 c1032 ?_
  intro t most _ hp
  obtain ⟨hm, hg⟩ := hp
  dsimp only at hm hg
  have no : ¬(rightT t 64 = true ∧ t.kind ≠ 10 ∧ (sizeN (normT t) : Int) < most ∧ sizeN (normT t) < 131072) → EndsQ cfg Try.f12.ntmps Try.f12.results.toList (res12 (t, most, ())) [] .ret (⟨[(4, .c (.nils)), (5, .c (.bool false))], [], []⟩ : LSt U) := by
    intro h
    refine ends_eq (r' := .tup [(false, [.slice (U := U) .u64 [] .unk]), (false, [.bool false])]) ?_ (by (repeat' (first | exact trivial | exact rfl | apply And.intro)))
    simp only [res12]
    unfold encP
    split
    · rw [if_neg (by rename_i h2; exact fun h3 => h ⟨h2.1, h2.2, h3⟩)]
    · rfl
  have hn := normT_mass t
  refine vc12 _ _ _ ?_
  rintro y1 rfl y2 rfl
  rw [normT_idem]
  (simp only [vcT, vcS])
  have q1 : mass y1 ≤ 1000000000000 := by omega
  have q2 : mass (normT y1) ≤ 1000000 := by omega
  refine ⟨⟨hm, hg⟩, fun h => no (fun h2 => ?_), fun h => ⟨q1, ⟨q2, 64, rightT_norm _ _ h.1⟩, fun h2 => no (fun h3 => ?_), fun h2 => ⟨⟨rfl, by decide, by decide⟩, ⟨⟨Int.le_refl _, by dsimp only; simp [zs], by dsimp only; simp [zs]; omega⟩, ⟨q2, rng_norm _ hg⟩, ?_, 64, rightT_norm _ _ h.1⟩, ?_⟩⟩⟩
  · rcases h with h | h
    · rw [h2.1] at h; cases h
    · exact h2.2.1 h
  · omega
  · dsimp only
    rw [normT_kind]
    exact h.2
  · refine ends_eq (r' := .tup [(false, [.slice (U := U) .u64 (layP [0] 0 (normT y1)) .unk]), (false, [.bool true])]) ?_ (by (repeat' (first | exact trivial | exact rfl | apply And.intro)))
    simp only [res12]
    unfold encP
    rw [if_pos ⟨h.1, h.2⟩, if_pos (by omega)]
theorem few_mass {t : Tree} (h : 0 ≤ shallow t 80 3000) : mass t ≤ 1000000 := by
  have := shallow_mass t 80 3000 h
  omega
end Go.AM.Ytcljdbpmjdgooaa

namespace Go.AM.Ytcljdbpmjdgooaa
open Go.AM Go.Proofs
abbrev TrEG9 (p : Prop) : Prop := p → p
def args7 : ArgL (Unit) := .nil
def pre7 (a : Unit) : Prop := True
noncomputable def res7 (a : Unit) : V U := .c (.bool true)
noncomputable def spec7 : Fs U := fs args7 (fun a => [pre7 a]) res7
noncomputable def know7 : List (FuncId × Fs U) := [(8, spec8), (11, spec11), (10, spec10)]
def lv7 : Lives U := fun i => match i with
  | 0 => ([], [])
  | 1 => ([(1, []), (2, [])], [])
  | 2 => ([(0, [])], [])
  | _ => ([], [])
abbrev W7 (Q : AExit → LSt U → Prop) := awp cfg (know know7) (drawOk cfg (know know7)) Try.f7.ntmps lv7 (cd Try.f7 []) (⟨[], [], []⟩ : LSt U) Q
theorem vc7 (Q : AExit → LSt U → Prop) (h : (pre8 ((Tree.mk 1 ([5]) ([])), 1, 9, ())) ∧ ((((buildA (Tree.mk 1 ([5]) ([])) 1 9).2) = true → pre11 ((if (buildA (Tree.mk 1 ([5]) ([])) 1 9).2 = true then some (buildA (Tree.mk 1 ([5]) ([])) 1 9).1 else none), ())) ∧ (((buildA (Tree.mk 1 ([5]) ([])) 1 9).2) = true → pre10 ((segO (if (buildA (Tree.mk 1 ([5]) ([])) 1 9).2 = true then some (buildA (Tree.mk 1 ([5]) ([])) 1 9).1 else none)), ([[8589934598], [5], [4294967298, 4294967296]]), ())) ∧ (Q .ret (⟨[(0, .c (.bool (bif ((buildA (Tree.mk 1 ([5]) ([])) 1 9).2) then (decide ((segO (if (buildA (Tree.mk 1 ([5]) ([])) 1 9).2 = true then some (buildA (Tree.mk 1 ([5]) ([])) 1 9).1 else none)) = ([[8589934598], [5], [4294967298, 4294967296]]))) else false)))], [], []⟩ : LSt U)))) :
    W7 Q := by
  have e_ : (W7 Q) = (((pre8 ((Tree.mk 1 ([5]) ([])), 1, 9, ())) ∧ ((TrEG9 (((buildA (Tree.mk 1 ([5]) ([])) 1 9).2) = true)) ∧ (((buildA (Tree.mk 1 ([5]) ([])) 1 9).2) = true → pre11 ((if (buildA (Tree.mk 1 ([5]) ([])) 1 9).2 = true then some (buildA (Tree.mk 1 ([5]) ([])) 1 9).1 else none), ())) ∧ (TrEG9 (((buildA (Tree.mk 1 ([5]) ([])) 1 9).2) = true)) ∧ (TrEG9 (((buildA (Tree.mk 1 ([5]) ([])) 1 9).2) = true)) ∧ (TrEG9 (((buildA (Tree.mk 1 ([5]) ([])) 1 9).2) = true)) ∧ (TrEG9 (((buildA (Tree.mk 1 ([5]) ([])) 1 9).2) = true)) ∧ (TrEG9 (((buildA (Tree.mk 1 ([5]) ([])) 1 9).2) = true)) ∧ (((buildA (Tree.mk 1 ([5]) ([])) 1 9).2) = true → pre10 ((segO (if (buildA (Tree.mk 1 ([5]) ([])) 1 9).2 = true then some (buildA (Tree.mk 1 ([5]) ([])) 1 9).1 else none)), ([[8589934598], [5], [4294967298, 4294967296]]), ())) ∧ ((TrEG9 (((buildA (Tree.mk 1 ([5]) ([])) 1 9).2) = true))) ∧ (Q .ret (⟨[(0, .c (.bool (bif ((buildA (Tree.mk 1 ([5]) ([])) 1 9).2) then (decide ((segO (if (buildA (Tree.mk 1 ([5]) ([])) 1 9).2 = true then some (buildA (Tree.mk 1 ([5]) ([])) 1 9).1 else none)) = ([[8589934598], [5], [4294967298, 4294967296]]))) else false)))], [], []⟩ : LSt U))))) := by kernel_rfl
  exact e_.mpr ⟨h.1, ⟨id, h.2.1, id, id, id, id, id, h.2.2.1, (by generalize ((buildA (Tree.mk 1 ([5]) ([])) 1 9).2) = b0; revert b0; decide), h.2.2.2⟩⟩
abbrev Body7  : Prop := awp cfg (know (know7)) (drawOk cfg (know (know7))) Try.f7.ntmps lv7 (cd Try.f7 []) (entry (args7.can (())) []) (EndsQ cfg Try.f7.ntmps Try.f7.results.toList (res7 (())) [])
theorem make7 (c8 : Contract Try.prog cfg 8 spec8) (c11 : Contract Try.prog cfg 11 spec11) (c10 : Contract Try.prog cfg 10 spec10) (hb : ∀ (_ : Unit), pre7 (()) → Body7 ) : Contract Try.prog cfg 7 spec7 :=
  contract_flat (l := [(8, spec8), (11, spec11), (10, spec10)]) cfgOk rfl (⟨c8, c11, c10, trivial⟩) lv7 Try.func7 rfl rfl 0 (fun _ => rfl) (by decide) (fun _ => hb  ())
end Go.AM.Ytcljdbpmjdgooaa

namespace Go.AM.Ytcljdbpmjdgooaa
open Go.AM Go.Proofs
theorem okar_build {t : Tree} {size most : Int} (hg : rng t) (hs : InR size) : OkAr (buildA t size most).1 := by
  have ok0 : OkAr (newA size most) := OkAr.new size most (by unfold InR at hs; omega)
  unfold buildA
  split
  · rename_i h
    split
    · exact (okar_lay (normT t) _ _ (ok0.give 1) (rng_norm _ hg) ⟨64, rightT_norm _ _ h.1⟩).1
    · exact ok0
  · exact ok0
theorem c7 : Contract Try.prog cfg 7 spec7 := by
  refine make7 c8 c11 c10 ?_
  rintro _ hp
  have e : buildA (Tree.mk 1 [5] []) 1 9 = (Arena.mk [[8589934598], [5], [4294967298, 4294967296]] 1 9 4, true) := by rfl
  refine vc7 _ ?_
  simp only [e, if_true, cond_true]
  have ok : okSeg [[8589934598], [5], [4294967298, 4294967296]] := by
    refine ⟨by decide, fun w hw => ?_⟩
    simp only [List.mem_cons, List.not_mem_nil, or_false] at hw
    rcases hw with rfl | rfl | rfl <;> exact ⟨by decide, by decide⟩
  refine ⟨⟨⟨by decide, by decide, ?_, trivial⟩, by unfold InR; decide⟩, fun _ => ok, fun _ => ok, ?_⟩
  · intro x hx
    simp at hx
    omega
  · (repeat' (first | exact trivial | exact rfl | apply And.intro))
end Go.AM.Ytcljdbpmjdgooaa

namespace Go.AM.Ytcljdbpmjdgooaa
open Go.AM Go.Proofs
def oneA (l : List Int) : Arena := ⟨[l], 131072, 131072, (l.length : Int)⟩
theorem one_yes {l : List Int} {n : Nat} (h : l.length + n ≤ 131072) : giveOk (oneA l) n = true ∧ giveA (oneA l) n = oneA (l ++ zs n) ∧ giveS (oneA l) n = 0 ∧ giveT (oneA l) n = l.length := by
  have ho : openA (oneA l) n = oneA l := by
    unfold openA
    rw [if_neg]
    rintro (q | ⟨q, _⟩)
    · cases q
    · have : roomA (oneA l) (((oneA l).segs.length : Int) - 1) n = true := decide_eq_true (by
        show (n : Int) ≤ 131072 - ((segAt [l] 0).length : Int)
        rw [segAt_one]
        omega)
      rw [this] at q
      cases q
  have hS : giveS (oneA l) n = 0 := by unfold giveS; rw [ho]; rfl
  have hg : giveOk (oneA l) n = true := decide_eq_true ⟨by omega, by show (n : Int) ≤ 131072 - (l.length : Int); omega⟩
  refine ⟨hg, ?_, hS, ?_⟩
  · unfold giveA
    rw [if_pos hg, ho, hS]
    unfold growA oneA
    simp only [segAt_one, Int.toNat_natCast, List.length_append]
    congr 1
    simp [zs]
  · unfold giveT
    rw [ho, hS]
    show ((segAt [l] 0).length : Int) = _
    rw [segAt_one]
theorem one_no {l : List Int} {n : Nat} (h : 131072 < l.length + n) : giveOk (oneA l) n = false := decide_eq_false (by
  rintro ⟨_, q⟩
  have q : (n : Int) ≤ 131072 - (l.length : Int) := q
  omega)
theorem one_put {l : List Int} {i : Nat} (h : i < l.length) (w : Int) : putA (oneA l) 0 i w = oneA (l.set i w) := by
  have hh : hasN [l] 0 i 1 = true := hasN_one.2 ⟨by omega, by decide, by omega⟩
  unfold putA oneA
  simp only [hh, if_true, segAt_one]
  simp
theorem one_puts : ∀ (w X Y : List Int) (n : Nat), w.length ≤ n → putsA w (oneA (X ++ (zs n ++ Y))) 0 X.length = oneA (X ++ (w ++ (zs (n - w.length) ++ Y)))
  | [], X, Y, n, _ => by simp [putsA]
  | x :: r, X, Y, 0, h => by simp at h
  | x :: r, X, Y, n + 1, h => by
    have hl : r.length ≤ n := by simpa using h
    rw [putsA, one_put (by simp [zs]; omega)]
    have e : (X ++ (zs (n + 1) ++ Y)).set X.length x = (X ++ [x]) ++ (zs n ++ Y) := by
      rw [List.set_append_right _ _ (Nat.le_refl _), Nat.sub_self]
      simp [zs, List.replicate_succ]
    have := one_puts r (X ++ [x]) Y n hl
    rw [e, show ((X.length : Int) + 1) = ((X ++ [x]).length : Int) by simp, this, List.length_cons]
    rw [show n + 1 - (r.length + 1) = n - r.length by omega]
    simp
theorem one_block {l : List Int} {i n : Nat} (hi : i < l.length) (k up : Int) : blockA (oneA l) 0 i n k up = if l.length + n ≤ 131072 then (oneA (l.set i (pwA i l.length k up) ++ zs n), true) else (oneA l, false) := by
  split
  · rename_i h
    obtain ⟨h1, h2, h3, h4⟩ := one_yes h
    rw [blk_yes h1, h2, h3, h4]
    unfold pointA
    rw [if_pos (.inl rfl), one_put (by rw [List.length_append]; omega), set_left hi]
  · rename_i h
    exact (blk_no (one_no (by omega))).1
theorem pwA_head {i to : Int} {n k : Nat} : pwA i to 0 ((n : Int) + 65536 * k) = ptrP i (if n + k = 0 then i else to) 0 ((n : Int) + 65536 * k) := by
  unfold pwA
  by_cases h : n + k = 0
  · rw [if_pos ⟨rfl, by omega⟩, if_pos h]
    unfold ptrP
    omega
  · rw [if_neg (by omega), if_neg h]
theorem pwA_one {i to up : Int} : pwA i to 1 up = ptrP i to 1 up := by
  unfold pwA
  rw [if_neg (fun q => absurd q.1 (by decide))]
theorem one_kids {ks : List Tree} {A S : List Int} (ih : ∀ t ∈ ks, ∀ (l : List Int) (i : Nat), i < l.length → l.length ≤ 131072 → (l.length + sizeN t ≤ 131072 → layA t (oneA l) 0 i = (oneA (layP l i t), true)) ∧ (131072 < l.length + sizeN t → (layA t (oneA l) 0 i).2 = false)) (hK : KidsOk ks) :
    ∀ (m j : Nat), j + m = ks.length → (kidsSt A S ks (A.length + ks.length + S.length : Nat) j).length ≤ 131072 →
      (A.length + ks.length + S.length + sizeK ks ≤ 131072 → kidsA (ks.drop j) (oneA (kidsSt A S ks (A.length + ks.length + S.length : Nat) j)) 0 (A.length + j : Nat) = (oneA (kidsSt A S ks (A.length + ks.length + S.length : Nat) ks.length), true)) ∧
      (131072 < A.length + ks.length + S.length + sizeK ks → (kidsA (ks.drop j) (oneA (kidsSt A S ks (A.length + ks.length + S.length : Nat) j)) 0 (A.length + j : Nat)).2 = false) := by
  intro m
  induction m with
  | zero =>
    intro j hj hl
    have e : j = ks.length := by omega
    subst e
    have h1 := kidsSt_len A S ks (A.length + ks.length + S.length : Nat) (Nat.le_refl _)
    rw [kidsP_blk' _ _ _ (hK.take _), List.take_length] at h1
    refine ⟨fun _ => by rw [List.drop_length, kidsA], fun h => ?_⟩
    omega
  | succ m ihm =>
    intro j hj hl
    have hjl : j < ks.length := by omega
    have h1 := kidsSt_len A S ks (A.length + ks.length + S.length : Nat) (Nat.le_of_lt hjl)
    rw [kidsP_blk' _ _ _ (hK.take _)] at h1
    have h2 := sizeK_take (ks := ks) (i := (j : Int)) (by omega) (by omega)
    have h3 := sizeK_take_le ks (j + 1)
    rw [show ((j : Int) + 1).toNat = j + 1 by omega, Int.toNat_natCast] at h2
    have hmem := mem_getD (l := ks) hjl Tree.nil
    obtain ⟨i1, i2⟩ := ih _ hmem (kidsSt A S ks (A.length + ks.length + S.length : Nat) j) (A.length + j) (by omega) hl
    have st := kidsA_step ks (oneA (kidsSt A S ks (A.length + ks.length + S.length : Nat) j)) 0 (A.length + j : Nat) (j := (j : Int)) (by omega) (by omega)
    rw [show ((j : Int) + 1).toNat = j + 1 by omega, Int.toNat_natCast] at st
    have hks := kids_step (A := A) (S := S) hjl
    rw [show ((A.length : Int) + (j : Int)) = ((A.length + j : Nat) : Int) by omega] at hks
    have hnx := kidsSt_len A S ks (A.length + ks.length + S.length : Nat) (show j + 1 ≤ ks.length by omega)
    rw [kidsP_blk' _ _ _ (hK.take _)] at hnx
    rw [st]
    by_cases hfit : (kidsSt A S ks (A.length + ks.length + S.length : Nat) j).length + sizeN (ks.getD j Tree.nil) ≤ 131072
    · rw [i1 hfit, hks]
      obtain ⟨r1, r2⟩ := ihm (j + 1) (by omega) (by omega)
      unfold andA
      rw [cond_true, show (((A.length + j : Nat) : Int) + 1) = ((A.length + (j + 1) : Nat) : Int) by omega]
      exact ⟨r1, r2⟩
    · refine ⟨fun h => by omega, fun _ => ?_⟩
      unfold andA
      have := i2 (by omega)
      rw [this, cond_false, this]
theorem one_rows {fw fk : Nat} {ks : List Tree} {A : List Int} (hfit : Fit fw fk ks) (hK : ∀ t ∈ ks, KidsOk t.kids)
    (ih : ∀ s ∈ ks, ∀ t ∈ s.kids, ∀ (l : List Int) (i : Nat), i < l.length → l.length ≤ 131072 → (l.length + sizeN t ≤ 131072 → layA t (oneA l) 0 i = (oneA (layP l i t), true)) ∧ (131072 < l.length + sizeN t → (layA t (oneA l) 0 i).2 = false)) :
    ∀ (m j : Nat), j + m = ks.length → (rowSt A (zs ((ks.length - j) * (fw + fk))) fw fk ks j).length ≤ 131072 →
      (A.length + ks.length * (fw + fk) + sizeR ks ≤ 131072 → rowsA fw fk (ks.drop j) (oneA (rowSt A (zs ((ks.length - j) * (fw + fk))) fw fk ks j)) 0 (A.length + j * (fw + fk) : Nat) = (oneA (rowSt A [] fw fk ks ks.length), true)) ∧
      (131072 < A.length + ks.length * (fw + fk) + sizeR ks → (rowsA fw fk (ks.drop j) (oneA (rowSt A (zs ((ks.length - j) * (fw + fk))) fw fk ks j)) 0 (A.length + j * (fw + fk) : Nat)).2 = false) := by
  have hlen : ∀ j, j ≤ ks.length → (rowSt A (zs ((ks.length - j) * (fw + fk))) fw fk ks j).length = A.length + ks.length * (fw + fk) + sizeR (ks.take j) := by
    intro j hj
    have hrb := rowsP_blk' fw fk (ks.take j) A.length (A.length + ks.length * (fw + fk) : Nat) (fun t ht => hK t (List.mem_of_mem_take ht))
    unfold rowSt
    rw [List.length_append, List.length_append, List.length_append, zs_len, rowsP_len _ _ _ (hfit.take _), hrb, List.length_take, Nat.min_eq_left hj]
    have : ks.length * (fw + fk) = j * (fw + fk) + (ks.length - j) * (fw + fk) := by rw [← Nat.add_mul]; congr 1; omega
    omega
  intro m
  induction m with
  | zero =>
    intro j hj hl
    have e : j = ks.length := by omega
    subst e
    have h1 := hlen _ (Nat.le_refl _)
    rw [List.take_length] at h1
    refine ⟨fun _ => by rw [List.drop_length, rowsA, Nat.sub_self, Nat.zero_mul]; rfl, fun h => ?_⟩
    omega
  | succ m ihm =>
    intro j hj hl
    have hjl : j < ks.length := by omega
    have h1 := hlen j (Nat.le_of_lt hjl)
    have hnx := hlen (j + 1) (by omega)
    have h2 := sizeR_take (ks := ks) (i := (j : Int)) (by omega) (by omega)
    have h3 := sizeR_take_le ks (j + 1)
    rw [show ((j : Int) + 1).toNat = j + 1 by omega, Int.toNat_natCast] at h2
    have hmem := mem_getD (l := ks) hjl Tree.nil
    have hff := hfit _ hmem
    obtain ⟨s1, s2⟩ := row_str (A := A) hfit hjl
    have st := rows_step fw fk ks (oneA (rowSt A (zs ((ks.length - j) * (fw + fk))) fw fk ks j)) 0 (A.length + j * (fw + fk) : Nat) (j := (j : Int)) (by omega) (by omega)
    rw [show ((j : Int) + 1).toNat = j + 1 by omega, Int.toNat_natCast] at st
    have hKt := hK _ hmem
    have iht := ih _ hmem
    rw [st]
    generalize ks.getD j Tree.nil = t at *
    obtain ⟨X, Y, e, hX⟩ := s1
    rw [e] at s2 h1 hl ⊢
    have hlX : (X ++ (zs (fw + t.kids.length) ++ Y)).length = X.length + (fw + t.kids.length) + Y.length := by simp only [List.length_append, zs_len]; omega
    have ep : putsA t.words (oneA (X ++ (zs (fw + t.kids.length) ++ Y))) 0 (A.length + j * (fw + fk) : Nat) = oneA ((X ++ (t.words ++ zs (fw - t.words.length))) ++ (zs t.kids.length ++ Y)) := by
      rw [← hX, one_puts t.words X Y _ (by omega), show fw + t.kids.length - t.words.length = (fw - t.words.length) + t.kids.length by omega, zs_add]
      simp only [List.append_assoc]
    have eX : (X ++ (t.words ++ zs (fw - t.words.length))).length = X.length + fw := by simp only [List.length_append, zs_len]; omega
    obtain ⟨B, hB⟩ : ∃ B, B = X ++ (t.words ++ zs (fw - t.words.length)) := ⟨_, rfl⟩
    rw [← hB] at ep eX
    have e0 : B ++ (zs t.kids.length ++ Y) = kidsSt B Y t.kids (B.length + t.kids.length + Y.length : Nat) 0 := by
      unfold kidsSt
      simp [kidsP, zs]
    have e1 : kidsSt B Y t.kids (B.length + t.kids.length + Y.length : Nat) t.kids.length = strR (X ++ (zs (fw + t.kids.length) ++ Y)) (A.length + j * (fw + fk) : Nat) fw t := by
      have := strR_mk (X := X) (Y := Y) (fw := fw) (t := t) hX hff.1 0
      rw [Nat.add_zero] at this
      rw [this, kidsSt_all, eX, hlX, hX, hB]
      have e5 : ((A.length + j * (fw + fk) + fw + t.kids.length + Y.length : Nat) : Int) = ((A.length + j * (fw + fk) + (fw + t.kids.length) + Y.length : Nat) : Int) := by omega
      rw [e5, Int.natCast_add (A.length + j * (fw + fk)) fw]
      simp [zs]
    rw [ep, show (((A.length + j * (fw + fk) : Nat) : Int) + fw) = ((B.length + 0 : Nat) : Int) by omega, e0]
    obtain ⟨k1, k2⟩ := one_kids (ks := t.kids) (A := B) (S := Y) iht hKt t.kids.length 0 (by omega) (by rw [← e0]; simp only [List.length_append, zs_len]; omega)
    rw [List.drop_zero] at k1 k2
    by_cases hq : B.length + t.kids.length + Y.length + sizeK t.kids ≤ 131072
    · rw [k1 hq, e1, s2]
      obtain ⟨r1, r2⟩ := ihm (j + 1) (by omega) (by omega)
      unfold andA
      rw [cond_true, show (((A.length + j * (fw + fk) : Nat) : Int) + ((fw : Int) + fk)) = ((A.length + (j + 1) * (fw + fk) : Nat) : Int) by rw [Nat.succ_mul]; omega]
      exact ⟨r1, r2⟩
    · refine ⟨fun h => by omega, fun _ => ?_⟩
      unfold andA
      have := k2 (by omega)
      rw [this, cond_false, this]
theorem and_yes {b : Arena} {f : Arena → Arena × Bool} : andA (b, true) f = f b := rfl
theorem and_no {b : Arena} {f : Arena → Arena × Bool} : andA (b, false) f = (b, false) := rfl
set_option maxHeartbeats 1000000 in
theorem lay_one : ∀ (N : Nat) (t : Tree), mass t ≤ N → (∃ d, rightT t d = true) → t.kind ≠ 10 → ∀ (l : List Int) (i : Nat), i < l.length → l.length ≤ 131072 →
    (l.length + sizeN t ≤ 131072 → layA t (oneA l) 0 i = (oneA (layP l i t), true)) ∧ (131072 < l.length + sizeN t → (layA t (oneA l) 0 i).2 = false) := by
  intro N
  induction N with
  | zero => intro t h; have := mass_pos t; omega
  | succ N ih =>
  intro t hN ⟨d, hr⟩ h10 l i hi hl
  have rt := riT' hr
  have hkr := rt.kind
  have hlen := rt.len
  have sz := size_eq t
  have hh := head_eq i l.length t
  have hb := blk_eq t l.length
  have hlay := lay_eq t (oneA l) 0 i
  have km : ∀ x ∈ t.kids, mass x ≤ N := by
    intro x hx
    obtain ⟨j, hj, rfl⟩ := List.getElem_of_mem hx
    have := kid_mass (t := t) (i := j) hj
    rw [List.getD_eq_getElem?_getD, List.getElem?_eq_getElem hj, Option.getD_some] at this
    omega
  have hls : ∀ h, (l.set i h).length = l.length := fun h => List.length_set
  by_cases k0 : t.kind = 0
  · obtain ⟨_, e2⟩ := rt.nil k0
    rw [if_neg (by omega), if_neg (by omega), if_neg (by omega), if_neg (by omega), e2] at sz
    rw [if_pos k0] at hlay
    rw [hlay]
    refine ⟨fun _ => ?_, fun h => ?_⟩
    · unfold layP
      rw [if_pos k0]
    · rw [sz, sizeK] at h
      omega
  rw [if_neg k0] at hh hb hlay
  have eP : layP l i t = l.set i (headP i l.length t) ++ blkP t l.length := by
    unfold layP
    rw [if_neg k0]
    rfl
  -- a block and kids behind words
  have str : ∀ (w : List Int) (K UP : Int), KidsOk t.kids → sizeN t = w.length + t.kids.length + sizeK t.kids → pwA i l.length K UP = headP i l.length t →
      blkP t l.length = w ++ ((kidsP t.kids (l.length + w.length) (l.length + w.length + t.kids.length)).1 ++ (kidsP t.kids (l.length + w.length) (l.length + w.length + t.kids.length)).2) →
      layA t (oneA l) 0 i = andA (blockA (oneA l) 0 i (w.length + t.kids.length : Nat) K UP) (fun b => kidsA t.kids (putsA w b (giveS (oneA l) (w.length + t.kids.length : Nat)) (giveT (oneA l) (w.length + t.kids.length : Nat))) (giveS (oneA l) (w.length + t.kids.length : Nat)) (giveT (oneA l) (w.length + t.kids.length : Nat) + w.length)) →
      (l.length + sizeN t ≤ 131072 → layA t (oneA l) 0 i = (oneA (layP l i t), true)) ∧ (131072 < l.length + sizeN t → (layA t (oneA l) 0 i).2 = false) := by
    intro w K UP kOk hsz hpw hbl hla
    rw [one_block hi, hpw] at hla
    by_cases hq : l.length + (w.length + t.kids.length) ≤ 131072
    · obtain ⟨_, _, g3, g4⟩ := one_yes (l := l) (n := w.length + t.kids.length) hq
      rw [if_pos hq, and_yes, g3, g4] at hla
      have e0 : l.set i (headP i l.length t) ++ zs (w.length + t.kids.length) = l.set i (headP i l.length t) ++ (zs (w.length + t.kids.length) ++ []) := by simp
      have hp := one_puts w (l.set i (headP i l.length t)) [] (w.length + t.kids.length) (by omega)
      rw [hls] at hp
      rw [e0, hp, show w.length + t.kids.length - w.length = t.kids.length by omega] at hla
      obtain ⟨B, hB⟩ : ∃ B, B = l.set i (headP i l.length t) ++ w := ⟨_, rfl⟩
      have eB : B.length = l.length + w.length := by rw [hB, List.length_append, hls]
      have e1 : l.set i (headP i l.length t) ++ (w ++ (zs t.kids.length ++ [])) = kidsSt B [] t.kids (B.length + t.kids.length + ([] : List Int).length : Nat) 0 := by
        unfold kidsSt
        rw [hB]
        simp [kidsP, zs]
      have e2 : kidsSt B [] t.kids (B.length + t.kids.length + ([] : List Int).length : Nat) t.kids.length = layP l i t := by
        rw [kidsSt_all, eP, hbl, eB, hB]
        simp
      rw [e1, show ((l.length : Int) + w.length) = ((B.length + 0 : Nat) : Int) by omega] at hla
      obtain ⟨k1, k2⟩ := one_kids (ks := t.kids) (A := B) (S := []) (fun x hx => ih x (km x hx) (kOk x hx).2 (kOk x hx).1) kOk t.kids.length 0 (by omega) (by rw [← e1]; simp only [List.length_append, zs_len, hls, List.length_nil]; omega)
      rw [List.drop_zero] at k1 k2
      rw [hla]
      simp only [List.length_nil] at k1 k2 e2 ⊢
      refine ⟨fun q => ?_, fun q => k2 (by omega)⟩
      rw [k1 (by omega), e2]
    · rw [if_neg hq, and_no] at hla
      rw [hla]
      exact ⟨fun q => by omega, fun _ => rfl⟩
  by_cases k1 : t.kind = 1
  · have hs := rt.stru k1
    rw [if_pos k1] at sz hh hb hlay
    refine str t.words 0 ((t.words.length : Int) + 65536 * t.kids.length) (rt.kidsOk (.inl k1)) sz (by rw [pwA_head, hh]) hb ?_
    rw [hlay, Int.natCast_add]
  rw [if_neg k1] at sz hh hb hlay
  by_cases k8 : t.kind = 8
  · rw [if_pos k8] at sz hh hb hlay
    refine str [] 1 (6 + 8 * (t.kids.length : Int)) (rt.kidsOk (.inr k8)) (by rw [sz]; simp) (by rw [pwA_one, hh]) (by rw [hb]; simp) ?_
    rw [hlay]
    simp [putsA]
  rw [if_neg k8] at sz hh hb hlay
  by_cases k9 : t.kind = 9
  · rw [if_pos k9] at sz hh hb hlay
    rw [k9] at rt
    have rows := rt.rows
    have hfit : Fit (frW t.kids) (frK t.kids) t.kids := fun t ht => frW_le ht
    generalize hfw : frW t.kids = fw at *
    generalize hfk : frK t.kids = fk at *
    obtain ⟨P, hP⟩ : ∃ P, P = t.kids.length * (fw + fk) := ⟨_, rfl⟩
    have hPI : (t.kids.length : Int) * ((fw : Int) + fk) = P := by rw [hP, Int.natCast_mul, Int.natCast_add]
    rw [hPI, show (1 + (P : Int)) = ((1 + P : Nat) : Int) by omega, one_block hi, pwA_one] at hlay
    rw [← hP] at sz hh hb
    by_cases hq : l.length + (1 + P) ≤ 131072
    · obtain ⟨_, _, g3, g4⟩ := one_yes (l := l) (n := 1 + P) hq
      rw [if_pos hq, and_yes, g3, g4, ← hh] at hlay
      have hX := hls (headP i l.length t)
      obtain ⟨X, hXe⟩ : ∃ X, X = l.set i (headP i l.length t) := ⟨_, rfl⟩
      rw [← hXe] at hlay eP hX
      have ep : putA (oneA (X ++ zs (1 + P))) 0 (l.length : Int) (tagP t.kids.length fw fk) = oneA ((X ++ [tagP t.kids.length fw fk]) ++ zs P) := by
        rw [one_put (by rw [List.length_append, zs_len]; omega), List.set_append_right _ _ (by omega), hX, Nat.sub_self, zs_add]
        simp [zs]
      rw [ep] at hlay
      obtain ⟨A, hA⟩ : ∃ A, A = X ++ [tagP t.kids.length fw fk] := ⟨_, rfl⟩
      have eA : A.length = l.length + 1 := by rw [hA, List.length_append, hX]; rfl
      rw [← hA] at hlay
      have e0 : A ++ zs P = rowSt A (zs ((t.kids.length - 0) * (fw + fk))) fw fk t.kids 0 := by
        unfold rowSt
        rw [Nat.sub_zero, ← hP]
        simp [rowsP]
      have e1 : rowSt A [] fw fk t.kids t.kids.length = layP l i t := by
        rw [eP, hb]
        unfold rowSt
        rw [List.take_length, ← hP, eA, hA]
        simp
      rw [e0, show ((l.length : Int) + 1) = ((A.length + 0 * (fw + fk) : Nat) : Int) by omega] at hlay
      have hKs : ∀ x ∈ t.kids, KidsOk x.kids := fun x hx => (rows x hx).2.1
      obtain ⟨r1, r2⟩ := one_rows (A := A) hfit hKs (fun x hx y hy => ih y (by
        have h1 := km x hx
        obtain ⟨j, hj, rfl⟩ := List.getElem_of_mem hy
        have := kid_mass (t := x) (i := j) hj
        rw [List.getD_eq_getElem?_getD, List.getElem?_eq_getElem hj, Option.getD_some] at this
        omega) (hKs x hx y hy).2 (hKs x hx y hy).1) t.kids.length 0 (by omega) (by rw [← e0, List.length_append, zs_len]; omega)
      rw [List.drop_zero] at r1 r2
      rw [hlay]
      refine ⟨fun q => ?_, fun q => r2 (by omega)⟩
      rw [r1 (by omega), e1]
    · rw [if_neg hq, and_no] at hlay
      rw [hlay]
      exact ⟨fun q => by omega, fun _ => rfl⟩
  · rw [if_neg k9] at sz hh hb hlay
    rw [if_pos ⟨by omega, by omega⟩] at sz
    obtain ⟨hfit, _⟩ := rt.data (by omega) (by omega)
    have hpl : (putR (t.kind - 2) (numsP t.kids)).length = sizeN t := by
      unfold putR
      rw [if_pos hfit, putW_len, numsP, List.length_map, sz]
    generalize putR (t.kind - 2) (numsP t.kids) = p at *
    rw [one_block hi, pwA_one] at hlay
    by_cases hq : l.length + p.length ≤ 131072
    · obtain ⟨_, _, g3, g4⟩ := one_yes (l := l) (n := p.length) hq
      rw [if_pos hq, and_yes, g3, g4, ← hh] at hlay
      have hp := one_puts p (l.set i (headP i l.length t)) [] p.length (Nat.le_refl _)
      rw [hls] at hp
      have e0 : l.set i (headP i l.length t) ++ zs p.length = l.set i (headP i l.length t) ++ (zs p.length ++ []) := by simp
      rw [e0, hp, Nat.sub_self] at hlay
      rw [hlay, eP, hb]
      refine ⟨fun _ => by simp [zs], fun q => by omega⟩
    · rw [if_neg hq, and_no] at hlay
      rw [hlay]
      exact ⟨fun q => by omega, fun _ => rfl⟩
theorem build_one (t : Tree) : (buildA t 131072 131072).2 = (encP t 131072).2 ∧ ((encP t 131072).2 = true → (buildA t 131072 131072).1.segs = [(encP t 131072).1]) := by
  unfold buildA encP
  by_cases h : rightT t 64 = true ∧ t.kind ≠ 10
  · rw [if_pos h, if_pos h]
    have e : giveOk (newA 131072 131072) 1 = true ∧ giveA (newA 131072 131072) 1 = oneA [0] ∧ giveS (newA 131072 131072) 1 = 0 ∧ giveT (newA 131072 131072) 1 = ((0 : Nat) : Int) := ⟨rfl, rfl, rfl, rfl⟩
    rw [if_pos e.1, e.2.1, e.2.2.1, e.2.2.2]
    obtain ⟨h1, h2⟩ := lay_one (mass (normT t)) (normT t) (Nat.le_refl _) ⟨64, rightT_norm _ _ h.1⟩ (by rw [normT_kind]; exact h.2) [0] 0 (by decide) (by decide)
    by_cases hs : sizeN (normT t) < 131072
    · have hl : ([0] : List Int).length + sizeN (normT t) ≤ 131072 := by simp only [List.length_singleton]; omega
      rw [if_pos ⟨by omega, hs⟩, h1 hl]
      exact ⟨rfl, fun _ => rfl⟩
    · have hl : 131072 < ([0] : List Int).length + sizeN (normT t) := by simp only [List.length_singleton]; omega
      rw [if_neg (fun q => hs q.2), h2 hl]
      exact ⟨rfl, fun q => by cases q⟩
  · rw [if_neg h, if_neg h]
    exact ⟨rfl, fun q => by cases q⟩
end Go.AM.Ytcljdbpmjdgooaa

namespace Go.AM.Ytcljdbpmjdgooaa
open Go.AM Go.Proofs
abbrev TrEG10 (p : Prop) : Prop := p → p
def args4 : ArgL (Tree × Unit) := (.cons (aEl .tree) .nil)
def pre4 (a : Tree × Unit) : Prop := small a.1 ∧ rng a.1
noncomputable def res4 (a : Tree × Unit) : V U := .c (.bool true)
noncomputable def spec4 : Fs U := fs args4 (fun a => [pre4 a]) res4
noncomputable def know4 : List (FuncId × Fs U) := [(6, spec6), (7, spec7), (8, spec8), (12, spec12), (11, spec11), (10, spec10)]
def lv4 : Lives U := fun i => match i with
  | 0 => ([(1, [])], [((.loc 1), [])])
  | 1 => ([(1, []), (9, [])], [((.loc 1), [])])
  | 2 => ([(2, [])], [])
  | 3 => ([(1, []), (3, []), (4, [])], [((.loc 1), [])])
  | 4 => ([(3, []), (4, []), (5, []), (6, [])], [])
  | 5 => ([(3, []), (4, []), (5, []), (6, []), (26, [])], [])
  | 6 => ([(2, [])], [])
  | 7 => ([(2, [])], [])
  | _ => ([], [])
abbrev W4 (t : Tree) (Q : AExit → LSt U → Prop) := awp cfg (know know4) (drawOk cfg (know know4)) Try.f4.ntmps lv4 (cd Try.f4 []) (⟨[(0, .agg [.int .i64 (Tree.kind t), .slice (U := U) .u64 (Tree.words t) .unk, .slice (U := U) .tree (Tree.kids t) .unk])], [], []⟩ : LSt U) Q
theorem vc4 (t : Tree) (Q : AExit → LSt U → Prop) (h : ∀ y_1, y_1 = (t) → ∀ y_2, y_2 = (segO (if (buildA y_1 131072 131072).2 = true then some (buildA y_1 131072 131072).1 else none)) → (pre6 (y_1, ())) ∧ (((!(decide (0 ≤ shallow y_1 80 3000))) = true → (pre7 (())) ∧ (Q .ret (⟨[(2, .c (.bool true))], [], []⟩ : LSt U))) ∧ ((!(decide (0 ≤ shallow y_1 80 3000))) = false → (pre8 (y_1, 131072, 131072, ())) ∧ ((pre12 (y_1, 131072, ())) ∧ (((bif (!((buildA y_1 131072 131072).2)) then true else (!((encP y_1 131072).2))) = true → ((((buildA y_1 131072 131072).2) == ((encP y_1 131072).2)) = true → pre7 (())) ∧ (Q .ret (⟨[(2, .c (.bool (bif (((buildA y_1 131072 131072).2) == ((encP y_1 131072).2)) then true else false)))], [], []⟩ : LSt U))) ∧ ((bif (!((buildA y_1 131072 131072).2)) then true else (!((encP y_1 131072).2))) = false → (pre11 ((if (buildA y_1 131072 131072).2 = true then some (buildA y_1 131072 131072).1 else none), ())) ∧ (pre10 (y_2, ([(encP y_1 131072).1]), ())) ∧ ((decide (y_2 = ([(encP y_1 131072).1]))) = true → pre7 (())) ∧ (Q .ret (⟨[(2, .c (.bool (bif (decide (y_2 = ([(encP y_1 131072).1]))) then true else false)))], [], []⟩ : LSt U)))))))) :
    W4 t Q := by
  have e_ : (W4 t Q) = (let y_1 := (reTree t); let y_2 := (segO (if (buildA y_1 131072 131072).2 = true then some (buildA y_1 131072 131072).1 else none)); let zz2 := (decide (y_2 = ([(encP y_1 131072).1]))); let zz1 := (((buildA y_1 131072 131072).2) == ((encP y_1 131072).2)); let zz0 := (!((buildA y_1 131072 131072).2)); ((pre6 (y_1, ())) ∧ (((!(decide (0 ≤ shallow y_1 80 3000))) = true → (pre7 (())) ∧ (Q .ret (⟨[(2, .c (.bool true))], [], []⟩ : LSt U))) ∧ ((!(decide (0 ≤ shallow y_1 80 3000))) = false → (pre8 (y_1, 131072, 131072, ())) ∧ ((pre12 (y_1, 131072, ())) ∧ ((TrEG10 ((!zz0) = true)) ∧ ((zz0 = false → (!zz0) = true)) ∧ (((bif zz0 then true else (!((encP y_1 131072).2))) = true → (zz1 = true → pre7 (())) ∧ ((TrEG10 (zz1 = true))) ∧ (Q .ret (⟨[(2, .c (.bool (bif zz1 then true else false)))], [], []⟩ : LSt U))) ∧ ((bif zz0 then true else (!((encP y_1 131072).2))) = false → (pre11 ((if (buildA y_1 131072 131072).2 = true then some (buildA y_1 131072 131072).1 else none), ())) ∧ (pre10 (y_2, ([(encP y_1 131072).1]), ())) ∧ (zz2 = true → pre7 (())) ∧ ((TrEG10 (zz2 = true))) ∧ (Q .ret (⟨[(2, .c (.bool (bif zz2 then true else false)))], [], []⟩ : LSt U)))))))))) := by kernel_rfl
  exact e_.mpr (by intro y_1 y_2; have hh := h y_1 (reTree_eq _) y_2 rfl; exact ⟨hh.1, ⟨fun c_1 => ⟨(hh.2.1 c_1).1, (hh.2.1 c_1).2⟩, fun c_1 => ⟨(hh.2.2 c_1).1, ⟨(hh.2.2 c_1).2.1, ⟨id, (by generalize ((buildA y_1 131072 131072).2) = b0; revert b0; decide), ⟨fun c_2 => ⟨((hh.2.2 c_1).2.2.1 c_2).1, (by generalize (((buildA y_1 131072 131072).2) == ((encP y_1 131072).2)) = b0; revert b0; decide), ((hh.2.2 c_1).2.2.1 c_2).2⟩, fun c_2 => ⟨((hh.2.2 c_1).2.2.2 c_2).1, ((hh.2.2 c_1).2.2.2 c_2).2.1, ((hh.2.2 c_1).2.2.2 c_2).2.2.1, (by generalize (decide (y_2 = ([(encP y_1 131072).1]))) = b0; revert b0; decide), ((hh.2.2 c_1).2.2.2 c_2).2.2.2⟩⟩⟩⟩⟩⟩⟩)
abbrev Body4 (t : Tree)  : Prop := awp cfg (know (know4)) (drawOk cfg (know (know4))) Try.f4.ntmps lv4 (cd Try.f4 []) (entry (args4.can (t, ())) []) (EndsQ cfg Try.f4.ntmps Try.f4.results.toList (res4 (t, ())) [])
theorem make4 (c6 : Contract Try.prog cfg 6 spec6) (c7 : Contract Try.prog cfg 7 spec7) (c8 : Contract Try.prog cfg 8 spec8) (c12 : Contract Try.prog cfg 12 spec12) (c11 : Contract Try.prog cfg 11 spec11) (c10 : Contract Try.prog cfg 10 spec10) (hb : ∀ (t : Tree) (_ : Unit), pre4 (t, ()) → Body4 t) : Contract Try.prog cfg 4 spec4 :=
  contract_flat (l := [(6, spec6), (7, spec7), (8, spec8), (12, spec12), (11, spec11), (10, spec10)]) cfgOk rfl (⟨c6, c7, c8, c12, c11, c10, trivial⟩) lv4 Try.func4 rfl rfl 1 (fun _ => rfl) (by decide) (fun ⟨t, _⟩ => hb t ())
end Go.AM.Ytcljdbpmjdgooaa

namespace Go.AM.Ytcljdbpmjdgooaa
open Go.AM Go.Proofs
theorem c4 : Contract Try.prog cfg 4 spec4 := by
  refine make4 c6 c7 c8 c12 c11 c10 ?_
  intro t _ hp
  obtain ⟨hs, hg⟩ := hp
  dsimp only at hs hg
  obtain ⟨o1, o2⟩ := build_one t
  have hsz : InR 131072 := by unfold InR; decide
  refine vc4 t _ ?_
  rintro y1 rfl y2 hy2
  refine ⟨hs, fun _ => ⟨trivial, by (repeat' (first | exact trivial | exact rfl | apply And.intro))⟩, fun hf => ?_⟩
  have hf : 0 ≤ shallow y1 80 3000 := by simpa using hf
  have hm := few_mass hf
  have pre : pre8 (y1, 131072, 131072, ()) := ⟨⟨hm, hg⟩, hsz⟩
  have ok := okar_build (most := 131072) hg hsz
  rw [o1] at hy2 ⊢
  cases hb : (encP y1 131072).2 with
  | false =>
    refine ⟨pre, ⟨hm, hg⟩, fun _ => ⟨fun _ => trivial, ?_⟩, fun q => (by cases q)⟩
    (repeat' (first | exact trivial | exact rfl | apply And.intro))
  | true =>
    rw [hb] at hy2
    have hy2 : y2 = (buildA y1 131072 131072).1.segs := hy2
    have e := o2 hb
    refine ⟨pre, ⟨hm, hg⟩, fun q => (by cases q), fun _ => ⟨ok.seg, by rw [hy2]; exact ok.seg, fun _ => trivial, ?_⟩⟩
    have e1 : decide (y2 = [(encP y1 131072).1]) = true := decide_eq_true (by rw [hy2, e])
    rw [e1]
    (repeat' (first | exact trivial | exact rfl | apply And.intro))
end Go.AM.Ytcljdbpmjdgooaa
