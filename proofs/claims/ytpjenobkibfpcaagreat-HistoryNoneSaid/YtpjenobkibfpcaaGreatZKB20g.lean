import Derived.Test.YtpjenobkibfpcaaGreatZKG22c
import Derived.Test.YtpjenobkibfpcaaGreatZKB22b
import Derived.Test.YtpjenobkibfpcaaGreatZCL25m
import Derived.Test.YtpjenobkibfpcaaGreatZKB20e
set_option linter.unusedSimpArgs false
set_option linter.unusedVariables false
namespace Go.AM.YtpjenobkibfpcaaGreat
open Go.AM Go.Proofs
theorem set_last {α : Type} (l : List α) (z x : α) : (l ++ [z]).set (Int.toNat (l.length : Int)) x = l ++ [x] := by
  rw [Int.toNat_natCast, List.set_append_right _ _ (Nat.le_refl _)]
  simp
theorem keepO_at : ∀ (F : List Op) (n : Int), keepO F n = if F.length ≠ 0 ∧ (F.getD (F.length - 1) Op.nil).kind = 0 then F.set (F.length - 1) ⟨(F.getD (F.length - 1) Op.nil).kind, (F.getD (F.length - 1) Op.nil).n + n, (F.getD (F.length - 1) Op.nil).l, (F.getD (F.length - 1) Op.nil).e⟩ else F ++ [⟨0, n, [], Edit.nil⟩]
  | [], n => by simp [keepO]
  | [o], n => by simp [keepO]
  | o :: p :: r, n => by
    have ih := keepO_at (p :: r) n
    have e : (o :: p :: r).length - 1 = ((p :: r).length - 1) + 1 := by simp
    rw [keepO, ih, e]
    simp only [List.getD_cons_succ, List.set_cons_succ]
    by_cases h : (p :: r).length ≠ 0 ∧ ((p :: r).getD ((p :: r).length - 1) Op.nil).kind = 0
    · rw [if_pos h, if_pos ⟨by simp, h.2⟩]
    · have h' : ¬ ((p :: r).getD ((p :: r).length - 1) Op.nil).kind = 0 := fun e => h ⟨by simp, e⟩
      rw [if_neg h, if_neg (fun e => h' e.2)]
      rfl
theorem flush_len (s : Wst) : (flushW s).out.length ≤ s.out.length + 2 := by
  simp only [flushW, flushO]
  split <;> split <;> simp
theorem flush_mem (s : Wst) : ∀ o ∈ (flushW s).out, o ∈ s.out ∨ o.n = 0 := by
  intro o ho
  simp only [flushW, flushO, List.mem_append] at ho
  rcases ho with h | h | h
  · exact .inl h
  · split at h
    · cases h
    · simp only [List.mem_singleton] at h; subst h; exact .inr rfl
  · split at h
    · cases h
    · simp only [List.mem_singleton] at h; subst h; exact .inr rfl
theorem c150 : Contract Tryz.prog cfg 150 spec150 := by
  refine make150 ?_
  intro wo wg wb _ hp
  simp only [pre150] at hp
  refine vc150 wo wg wb _ ?_
  rintro y1 hy1 y2 hy2
  have hy : y1 = Edit.nil := hy1
  subst hy
  rw [set_last] at hy2
  subst hy2
  (simp only [vcS])
  refine ⟨fun h1 => ⟨by simp; omega, by simp; omega, by omega, fun h2 => ⟨by simp; omega, by simp; omega, by omega, ?_⟩, fun h2 => ?_⟩, fun h1 => ⟨fun h2 => ⟨by simp; omega, by simp; omega, by omega, ?_⟩, fun h2 => ?_⟩⟩
  · rw [set_last]
    have e : flushW ⟨wo, wg, wb⟩ = ⟨wo ++ [⟨1, 0, wg, Edit.nil⟩] ++ [⟨2, 0, wb, Edit.nil⟩], [], []⟩ := by
      simp only [flushW, flushO]; rw [if_neg (by omega), if_neg (by omega)]; simp
    simp only [res150, resX150, resL150, e]
    (repeat' (first | exact trivial | exact rfl | apply And.intro))
  · have e : flushW ⟨wo, wg, wb⟩ = ⟨wo ++ [⟨1, 0, wg, Edit.nil⟩], [], []⟩ := by
      simp only [flushW, flushO]; rw [if_neg (by omega), if_pos (by omega)]; simp
    simp only [res150, resX150, resL150, e]
    (repeat' (first | exact trivial | exact rfl | apply And.intro))
  · rw [set_last]
    have e : flushW ⟨wo, wg, wb⟩ = ⟨wo ++ [⟨2, 0, wb, Edit.nil⟩], [], []⟩ := by
      simp only [flushW, flushO]; rw [if_pos (by omega), if_neg (by omega)]; simp
    simp only [res150, resX150, resL150, e]
    (repeat' (first | exact trivial | exact rfl | apply And.intro))
  · have e : flushW ⟨wo, wg, wb⟩ = ⟨wo, [], []⟩ := by
      simp only [flushW, flushO]; rw [if_pos (by omega), if_pos (by omega)]; simp
    simp only [res150, resX150, resL150, e]
    (repeat' (first | exact trivial | exact rfl | apply And.intro))
theorem c147 : Contract Tryz.prog cfg 147 spec147 := by
  refine make147 c150 ?_
  intro wo wg wb n _ hp
  simp only [pre147] at hp
  obtain ⟨p1, p2, p3, p4, p5, p6⟩ := hp
  have hfl := flush_len ⟨wo, wg, wb⟩
  have hfm := flush_mem ⟨wo, wg, wb⟩
  have hg : (flushW ⟨wo, wg, wb⟩).gone = [] := rfl
  have hb : (flushW ⟨wo, wg, wb⟩).brought = [] := rfl
  have hk := keepO_at (flushW ⟨wo, wg, wb⟩).out n
  have hkw : keepW ⟨wo, wg, wb⟩ n = ⟨keepO (flushW ⟨wo, wg, wb⟩).out n, [], []⟩ := rfl
  refine vc147 wo wg wb n _ ?_
  simp only [hg, hb, res147, resX147, resL147, hkw]
  generalize (flushW ⟨wo, wg, wb⟩).out = F at *
  simp only at hfl hfm
  rintro y1 hy1 y2 hy2 y3 hy3 y4 hy4
  have hy : y1 = Edit.nil := hy1
  subst hy
  have e2 : y2 = F.length - 1 := by omega
  subst e2
  rw [← hy3, ← hy4] at hk
  (simp only [vcS])
  refine ⟨by simp only [pre150]; exact ⟨p1, p2, p3⟩, by unfold InR; omega, fun h => ⟨h, by omega⟩, fun h => ?_, fun h => ?_⟩
  · have hy3n : 0 ≤ y3.n ∧ y3.n ≤ 100000000000000000 := by
      have hm : y3 ∈ F := by rw [hy3]; exact mem_getD (by omega) _
      rcases hfm y3 hm with h1 | h1
      · exact p4 y3 h1
      · omega
    rw [if_pos ⟨by omega, h.2⟩] at hk
    rw [hk]
    refine ⟨by omega, by unfold InR; omega, by omega, by omega, ?_⟩
    (repeat' (first | exact trivial | exact rfl | apply And.intro))
  · rw [if_neg (by omega)] at hk
    rw [hk, set_last]
    refine ⟨by simp; omega, by simp; omega, by omega, ?_⟩
    (repeat' (first | exact trivial | exact rfl | apply And.intro))
theorem c148 : Contract Tryz.prog cfg 148 spec148 := by
  refine make148 c75 ?_
  intro wo wg wb l _ hp
  simp only [pre148] at hp
  obtain ⟨p1, p2, p3, p4⟩ := hp
  have hl := massK_len l
  refine vc148 _ _ _ _ _ ?_
  refine loop_rule (ι := Int × List Tree) (fun s => head148_0 wo wg wb l s.1 s.2) (fun s => 0 ≤ s.1 ∧ s.1 ≤ l.length ∧ s.2.length = wg.length + s.1 ∧ s.2 ++ normsT (l.drop s.1.toNat) = wg ++ normsT l) (fun s => ((l.length : Int) - s.1).toNat) (0, wg) rfl ⟨by simp, by simp, by simp, by simp⟩ ?_
  rintro ⟨i, out⟩ ⟨h1, h2, h3, h4⟩
  dsimp only at h1 h2 h3 h4
  refine vc148_l0 _ _ _ _ _ _ _ _ ?_
  (simp only [vcS])
  (simp only [Tree.eta, Edit.eta, Tree.kind_mk, Tree.words_mk, Tree.kids_mk])
  refine ⟨fun hi => ?_, fun hi => ?_⟩
  · have hm := massK_mem (mem_getD (l := l) (i := i.toNat) (by omega) Tree.nil)
    rw [dropI h1 hi Tree.nil] at h4
    simp only [normsT, List.map_cons] at h4
    rw [set_last]
    refine ⟨⟨h1, hi⟩, by simp only [pre75]; omega, by simp; omega, by simp; omega, by omega, by unfold InR; omega, (i + 1, out ++ [normT (l.getD i.toNat Tree.nil)]), rfl, ⟨by dsimp only; omega, by dsimp only; omega, by simp; omega, ?_⟩, by dsimp only; omega⟩
    simp only [List.append_assoc, List.cons_append, List.nil_append]
    exact h4
  · rw [List.drop_of_length_le (by omega)] at h4
    simp only [normsT, List.map_nil, List.append_nil] at h4
    rw [h4]
    (repeat' (first | exact trivial | exact rfl | apply And.intro))
theorem c1148 : Contract Tryz.prog cfg 148 spec1148 := by
  refine make1148 c75 ?_
  intro wo wg wb l _ hp
  simp only [pre1148] at hp
  obtain ⟨p1, p2, p3, p4⟩ := hp
  have hl := massK_len l
  refine vc1148 _ _ _ _ _ ?_
  refine loop_rule (ι := Int × List Tree) (fun s => head1148_0 wo wg wb l s.1 s.2) (fun s => 0 ≤ s.1 ∧ s.1 ≤ l.length ∧ s.2.length = wb.length + s.1 ∧ s.2 ++ normsT (l.drop s.1.toNat) = wb ++ normsT l) (fun s => ((l.length : Int) - s.1).toNat) (0, wb) rfl ⟨by simp, by simp, by simp, by simp⟩ ?_
  rintro ⟨i, out⟩ ⟨h1, h2, h3, h4⟩
  dsimp only at h1 h2 h3 h4
  refine vc1148_l0 _ _ _ _ _ _ _ _ ?_
  (simp only [vcS])
  (simp only [Tree.eta, Edit.eta, Tree.kind_mk, Tree.words_mk, Tree.kids_mk])
  refine ⟨fun hi => ?_, fun hi => ?_⟩
  · have hm := massK_mem (mem_getD (l := l) (i := i.toNat) (by omega) Tree.nil)
    rw [dropI h1 hi Tree.nil] at h4
    simp only [normsT, List.map_cons] at h4
    rw [set_last]
    refine ⟨⟨h1, hi⟩, by simp only [pre75]; omega, by simp; omega, by simp; omega, by omega, by unfold InR; omega, (i + 1, out ++ [normT (l.getD i.toNat Tree.nil)]), rfl, ⟨by dsimp only; omega, by dsimp only; omega, by simp; omega, ?_⟩, by dsimp only; omega⟩
    simp only [List.append_assoc, List.cons_append, List.nil_append]
    exact h4
  · rw [List.drop_of_length_le (by omega)] at h4
    simp only [normsT, List.map_nil, List.append_nil] at h4
    rw [h4]
    (repeat' (first | exact trivial | exact rfl | apply And.intro))
theorem c1149 : Contract Tryz.prog cfg 149 spec1149 := by
  refine make1149 ?_
  intro list e _ hp
  simp only [pre1149] at hp
  refine vc1149 _ _ _ ?_
  refine ⟨fun _ => by unfold InR; dsimp only; omega, ends_bool rfl ?_⟩
  rw [Bool.eq_iff_iff]
  simp only [idleE]
  (simp only [vcS])
  omega
noncomputable def spec2148 : Fs U := fsOr spec148 spec1148
theorem c2148 : Contract Tryz.prog cfg 148 spec2148 := contract_or c148 c1148
end Go.AM.YtpjenobkibfpcaaGreat

namespace Go.AM.YtpjenobkibfpcaaGreat
open Go.AM Go.Proofs
noncomputable section
def args67 : ArgL (Edit × Unit) := (.cons (aEl .edit) .nil)
def pre67 (a : Edit × Unit) : Prop := massE a.1 ≤ 20000000000 ∧ ∃ d, rightE a.1 d = true
def mu67 (a : Edit × Unit) : Nat := 2 * massE a.1
noncomputable def res67 (a : Edit × Unit) : V U := .agg [.int .i64 (Edit.kind (nrmE a.1)), .int .i64 (Tree.kind (Edit.old (nrmE a.1))), .slice (U := U) .u64 (Tree.words (Edit.old (nrmE a.1))) .unk, .slice (U := U) .tree (Tree.kids (Edit.old (nrmE a.1))) .unk, .int .i64 (Tree.kind (Edit.new (nrmE a.1))), .slice (U := U) .u64 (Tree.words (Edit.new (nrmE a.1))) .unk, .slice (U := U) .tree (Tree.kids (Edit.new (nrmE a.1))) .unk, .slice (U := U) .wedit (Edit.words (nrmE a.1)) .unk, .slice (U := U) .kid (Edit.kids (nrmE a.1)) .unk, .int .i64 (Edit.list (nrmE a.1)), .slice (U := U) .op (Edit.ops (nrmE a.1)) .unk]
noncomputable def spec67 : Fs U := fs args67 (fun a => [pre67 a]) res67
def args107 : ArgL (Int × List Op × Unit) := (.cons (aInt .i64) (.cons (aSl .op) .nil))
def pre107 (a : Int × List Op × Unit) : Prop := massOs a.2.1 ≤ 20000000000 ∧ ∀ o ∈ a.2.1, ∃ d, rightOp a.1 o d = true
def mu107 (a : Int × List Op × Unit) : Nat := 2 * massOs a.2.1 + 1
noncomputable def res107 (a : Int × List Op × Unit) : V U := .c (.slice (U := U) .op ((flushW (nrmOs a.1 a.2.1 (Wst.mk [] [] []))).out) .unk)
noncomputable def spec107 : Fs U := fs args107 (fun a => [pre107 a]) res107
noncomputable def know67 (N : Nat) : List (FuncId × Fs U) := (67, fs args67 (fun a => [pre67 a, mu67 a < N]) res67) :: (107, fs args107 (fun a => [pre107 a, mu107 a < N]) res107) :: [(75, spec75), (149, spec1149), (147, spec147), (150, spec150), (148, spec2148)]
def lv67 : Lives U := fun i => match i with
  | 0 => ([(1, []), (2, [])], [((.loc 1), []), ((.loc 2), [])])
  | 1 => ([(1, []), (2, []), (3, [])], [((.loc 1), []), ((.loc 2), []), ((.loc 3), [])])
  | 2 => ([(1, []), (2, []), (3, []), (12, [])], [((.loc 1), []), ((.loc 2), []), ((.loc 3), [])])
  | 3 => ([(1, []), (2, []), (3, []), (12, []), (13, [])], [((.loc 1), []), ((.loc 2), []), ((.loc 3), [])])
  | 4 => ([(2, []), (3, [])], [((.loc 2), []), ((.loc 3), [])])
  | 5 => ([(1, []), (2, []), (3, []), (12, []), (23, [])], [((.loc 1), []), ((.loc 2), []), ((.loc 3), [])])
  | 6 => ([(1, []), (2, []), (3, [])], [((.loc 1), []), ((.loc 2), []), ((.loc 3), [])])
  | 7 => ([(2, []), (3, []), (32, []), (33, []), (34, [])], [((.loc 2), []), ((.loc 3), [.any, .any, .any, .any, .any, .any, .any, .any, .own .kid])])
  | 8 => ([(2, []), (3, []), (32, []), (33, []), (34, []), (35, [])], [((.loc 2), []), ((.loc 3), [])])
  | 9 => ([(2, []), (3, []), (5, []), (32, []), (33, []), (34, [])], [((.loc 2), []), ((.loc 3), []), ((.loc 5), [])])
  | 10 => ([(2, []), (3, []), (32, []), (33, []), (34, [])], [((.loc 2), []), ((.loc 3), [])])
  | 11 => ([(2, []), (3, []), (32, []), (33, []), (34, [])], [((.loc 2), []), ((.loc 3), [.any, .any, .any, .any, .any, .any, .any, .any, .own .kid])])
  | 12 => ([(1, []), (2, []), (3, []), (50, [])], [((.loc 1), []), ((.loc 2), []), ((.loc 3), [])])
  | 13 => ([(2, []), (3, [])], [((.loc 2), []), ((.loc 3), [])])
  | 14 => ([(2, [])], [((.loc 2), [])])
  | _ => ([], [])
def head67_0 (e : Edit) (x34 : Int) (ml3_8 : List Kid) : LSt U := (⟨[(2, .ptr (.loc 2) 0), (3, .ptr (.loc 3) 0), (32, .c (.slice (U := U) .kid (Edit.kids e) .unk)), (33, .c (.int .i64 ((Edit.kids e).length : Int))), (34, .c (.int .i64 x34))], [((.loc 2), [.int .i64 0, .int .i64 0, .nils, .nils, .int .i64 0, .nils, .nils, .nils, .nils, .int .i64 0, .nils]), ((.loc 3), [.int .i64 (Edit.kind e), .int .i64 0, .nils, .nils, .int .i64 0, .nils, .nils, .slice (U := U) .wedit (([] : List WEdit) ++ (Edit.words e)) (.own (.l 3 7)), .slice (U := U) .kid ml3_8 (.own (.l 3 8)), .int .i64 (Edit.list e), .nils])], []⟩ : LSt U)
abbrev W67 (N : Nat) (e : Edit) (Q : AExit → LSt U → Prop) := awp cfg (know (know67 N)) (drawOk cfg (know (know67 N))) Tryz.f67.ntmps lv67 (cd Tryz.f67 []) (⟨[(0, .agg [.int .i64 (Edit.kind e), .int .i64 (Tree.kind (Edit.old e)), .slice (U := U) .u64 (Tree.words (Edit.old e)) .unk, .slice (U := U) .tree (Tree.kids (Edit.old e)) .unk, .int .i64 (Tree.kind (Edit.new e)), .slice (U := U) .u64 (Tree.words (Edit.new e)) .unk, .slice (U := U) .tree (Tree.kids (Edit.new e)) .unk, .slice (U := U) .wedit (Edit.words e) .unk, .slice (U := U) .kid (Edit.kids e) .unk, .int .i64 (Edit.list e), .slice (U := U) .op (Edit.ops e) .unk])], [], []⟩ : LSt U) Q
abbrev a67_ZKG22d (N : Nat) := awp cfg (know (know67 N)) (drawOk cfg (know (know67 N))) Tryz.f67.ntmps lv67
abbrev s67_ZKG22d (N : Nat) := seqK cfg (know (know67 N)) (drawOk cfg (know (know67 N))) Tryz.f67.ntmps lv67
theorem vc67 (N : Nat) (e : Edit) (Q : AExit → LSt U → Prop) (h : ((((Edit.kind e) : Int) == 1) = true → (pre75 ((Tree.mk (Tree.kind (Edit.old e)) (Tree.words (Edit.old e)) (Tree.kids (Edit.old e))), ())) ∧ (pre75 ((Tree.mk (Tree.kind (Edit.new e)) (Tree.words (Edit.new e)) (Tree.kids (Edit.new e))), ())) ∧ (Q .ret (⟨[(2, .ptr (.loc 2) 0)], [((.loc 2), [.int .i64 (Edit.kind e), .int .i64 (Tree.kind (normT (Tree.mk (Tree.kind (Edit.old e)) (Tree.words (Edit.old e)) (Tree.kids (Edit.old e))))), .slice (U := U) .u64 (Tree.words (normT (Tree.mk (Tree.kind (Edit.old e)) (Tree.words (Edit.old e)) (Tree.kids (Edit.old e))))) .unk, .slice (U := U) .tree (Tree.kids (normT (Tree.mk (Tree.kind (Edit.old e)) (Tree.words (Edit.old e)) (Tree.kids (Edit.old e))))) .unk, .int .i64 (Tree.kind (normT (Tree.mk (Tree.kind (Edit.new e)) (Tree.words (Edit.new e)) (Tree.kids (Edit.new e))))), .slice (U := U) .u64 (Tree.words (normT (Tree.mk (Tree.kind (Edit.new e)) (Tree.words (Edit.new e)) (Tree.kids (Edit.new e))))) .unk, .slice (U := U) .tree (Tree.kids (normT (Tree.mk (Tree.kind (Edit.new e)) (Tree.words (Edit.new e)) (Tree.kids (Edit.new e))))) .unk, .nils, .nils, .int .i64 (Edit.list e), .nils])], []⟩ : LSt U))) ∧ ((((Edit.kind e) : Int) == 1) = false → ((((Edit.kind e) : Int) == 2) = true → ((([] : List WEdit).length + (Edit.words e).length) * 32 ≤ 140737488355328) ∧ (LoopWp (awp cfg (know (know67 N)) (drawOk cfg (know (know67 N))) Tryz.f67.ntmps lv67 (cd Tryz.f67 [1, 1, 0, 1, 0, 1, 1, 1, 0, 1, 1, 0, 0])) (head67_0 e 0 ([])) (AExit.inBlock 1 (AExit.inBlock 0 (seqK cfg (know (know67 N)) (drawOk cfg (know (know67 N))) Tryz.f67.ntmps lv67 (cd Tryz.f67 [1, 1, 1]) Q))))) ∧ ((((Edit.kind e) : Int) == 2) = false → ((((Edit.kind e) : Int) == 3) = true → (pre107 ((Edit.list e), (Edit.ops e), ())) ∧ (mu107 ((Edit.list e), (Edit.ops e), ()) < N) ∧ (Q .ret (⟨[(2, .ptr (.loc 2) 0)], [((.loc 2), [.int .i64 (Edit.kind e), .int .i64 0, .nils, .nils, .int .i64 0, .nils, .nils, .nils, .nils, .int .i64 (Edit.list e), .slice (U := U) .op ((flushW (nrmOs (Edit.list e) (Edit.ops e) (Wst.mk [] [] []))).out) .unk])], []⟩ : LSt U))) ∧ ((((Edit.kind e) : Int) == 3) = false → Q .ret (⟨[(2, .ptr (.loc 2) 0)], [((.loc 2), [.int .i64 (Edit.kind e), .int .i64 0, .nils, .nils, .int .i64 0, .nils, .nils, .nils, .nils, .int .i64 (Edit.list e), .nils])], []⟩ : LSt U))))) :
    W67 N e Q := by
  have e_ : (W67 N e Q) = ((((((((Edit.kind e) == 1) = true → (pre75 ((Tree.mk (Tree.kind (Edit.old e)) (Tree.words (Edit.old e)) (Tree.kids (Edit.old e))), ())) ∧ (pre75 ((Tree.mk (Tree.kind (Edit.new e)) (Tree.words (Edit.new e)) (Tree.kids (Edit.new e))), ())) ∧ ((Q .ret (⟨[(2, .ptr (.loc 2) 0)], [((.loc 2), [.int .i64 (Edit.kind e), .int .i64 (Tree.kind (normT (Tree.mk (Tree.kind (Edit.old e)) (Tree.words (Edit.old e)) (Tree.kids (Edit.old e))))), .slice (U := U) .u64 (Tree.words (normT (Tree.mk (Tree.kind (Edit.old e)) (Tree.words (Edit.old e)) (Tree.kids (Edit.old e))))) .unk, .slice (U := U) .tree (Tree.kids (normT (Tree.mk (Tree.kind (Edit.old e)) (Tree.words (Edit.old e)) (Tree.kids (Edit.old e))))) .unk, .int .i64 (Tree.kind (normT (Tree.mk (Tree.kind (Edit.new e)) (Tree.words (Edit.new e)) (Tree.kids (Edit.new e))))), .slice (U := U) .u64 (Tree.words (normT (Tree.mk (Tree.kind (Edit.new e)) (Tree.words (Edit.new e)) (Tree.kids (Edit.new e))))) .unk, .slice (U := U) .tree (Tree.kids (normT (Tree.mk (Tree.kind (Edit.new e)) (Tree.words (Edit.new e)) (Tree.kids (Edit.new e))))) .unk, .nils, .nils, .int .i64 (Edit.list e), .nils])], []⟩ : LSt U)))) ∧ (((Edit.kind e) == 1) = false → ((((Edit.kind e) == 2) = true → ((([] : List WEdit).length + (Edit.words e).length) * 32 ≤ 140737488355328) ∧ ((LoopWp (a67_ZKG22d N (cd Tryz.f67 [1, 1, 0, 1, 0, 1, 1, 1, 0, 1, 1, 0, 0])) (head67_0 e 0 ([])) (AExit.inBlock 1 (AExit.inBlock 0 (s67_ZKG22d N (cd Tryz.f67 [1, 1, 1]) Q)))))) ∧ (((Edit.kind e) == 2) = false → ((((Edit.kind e) == 3) = true → (pre107 ((Edit.list e), (Edit.ops e), ())) ∧ (mu107 ((Edit.list e), (Edit.ops e), ()) < N) ∧ ((Q .ret (⟨[(2, .ptr (.loc 2) 0)], [((.loc 2), [.int .i64 (Edit.kind e), .int .i64 0, .nils, .nils, .int .i64 0, .nils, .nils, .nils, .nils, .int .i64 (Edit.list e), .slice (U := U) .op ((flushW (nrmOs (Edit.list e) (Edit.ops e) (Wst.mk [] [] []))).out) .unk])], []⟩ : LSt U)))) ∧ (((Edit.kind e) == 3) = false → (Q .ret (⟨[(2, .ptr (.loc 2) 0)], [((.loc 2), [.int .i64 (Edit.kind e), .int .i64 0, .nils, .nils, .int .i64 0, .nils, .nils, .nils, .nils, .int .i64 (Edit.list e), .nils])], []⟩ : LSt U)))))))))))) := by kernel_rfl
  exact e_.mpr ⟨fun c_1 => ⟨(h.1 c_1).1, (h.1 c_1).2.1, (h.1 c_1).2.2⟩, fun c_1 => ⟨fun c_2 => ⟨((h.2 c_1).1 c_2).1, ((h.2 c_1).1 c_2).2⟩, fun c_2 => ⟨fun c_3 => ⟨(((h.2 c_1).2 c_2).1 c_3).1, (((h.2 c_1).2 c_2).1 c_3).2.1, (((h.2 c_1).2 c_2).1 c_3).2.2⟩, fun c_3 => (((h.2 c_1).2 c_2).2 c_3)⟩⟩⟩
abbrev W67_l0 (N : Nat) (e : Edit) (x34 : Int) (ml3_8 : List Kid) (N0 : LSt U → Prop) (Q : AExit → LSt U → Prop) := awp cfg (know (know67 N)) (drawOk cfg (know (know67 N))) Tryz.f67.ntmps lv67 (cd Tryz.f67 [1, 1, 0, 1, 0, 1, 1, 1, 0, 1, 1, 0, 0]) (head67_0 e x34 ml3_8) (AExit.then N0 (AExit.inBlock 1 (AExit.inBlock 0 (seqK cfg (know (know67 N)) (drawOk cfg (know (know67 N))) Tryz.f67.ntmps lv67 (cd Tryz.f67 [1, 1, 1]) Q))))
theorem vc67_l0 (N : Nat) (e : Edit) (x34 : Int) (ml3_8 : List Kid) (N0 : LSt U → Prop) (Q : AExit → LSt U → Prop) (h : ∀ y_1, y_1 = (List.getD (Edit.kids e) (Int.toNat x34) (KidOf.mk 0 Edit.nil)) → ∀ y_2, y_2 = ((KidOf.e y_1)) → ∀ y_3, y_3 = ((nrmE y_2)) → ((decide ((x34 : Int) < ((Edit.kids e).length : Int))) = true → ((0 : Int) ≤ x34 ∧ x34 < ((Edit.kids e).length : Int)) ∧ ((pre67 (y_2, ())) ∧ (mu67 (y_2, ()) < N) ∧ ((ml3_8.length + ([(KidOf.mk (KidOf.at_ y_1) y_3 : Kid)]).length) * 208 ≤ 140737488355328) ∧ ((InR ((x34 : Int) + 1)) ∧ (N0 (head67_0 e ((x34 : Int) + 1) (ml3_8 ++ ([(KidOf.mk (KidOf.at_ y_1) y_3 : Kid)]))))))) ∧ ((decide ((x34 : Int) < ((Edit.kids e).length : Int))) = false → Q .ret (⟨[(2, .ptr (.loc 2) 0)], [((.loc 2), [.int .i64 (Edit.kind e), .int .i64 0, .nils, .nils, .int .i64 0, .nils, .nils, .slice (U := U) .wedit (([] : List WEdit) ++ (Edit.words e)) (.own (.l 2 7)), .slice (U := U) .kid ml3_8 (.own (.l 2 8)), .int .i64 (Edit.list e), .nils])], []⟩ : LSt U))) :
    W67_l0 N e x34 ml3_8 N0 Q := by
  have e_ : (W67_l0 N e x34 ml3_8 N0 Q) = (let y_1 := (List.getD (Edit.kids e) (Int.toNat x34) (KidOf.mk 0 Edit.nil)); let y_2 := (reEdit (KidOf.e y_1)); let y_3 := (reEdit (nrmE y_2)); (((decide ((x34 : Int) < ((Edit.kids e).length : Int))) = true → ((0 : Int) ≤ x34 ∧ x34 < ((Edit.kids e).length : Int)) ∧ ((pre67 (y_2, ())) ∧ (mu67 (y_2, ()) < N) ∧ ((ml3_8.length + ([(KidOf.mk (KidOf.at_ y_1) y_3 : Kid)]).length) * 208 ≤ 140737488355328) ∧ ((InR ((x34 : Int) + 1)) ∧ (N0 (head67_0 e ((x34 : Int) + 1) (ml3_8 ++ ([(KidOf.mk (KidOf.at_ y_1) y_3 : Kid)]))))))) ∧ ((decide ((x34 : Int) < ((Edit.kids e).length : Int))) = false → (Q .ret (⟨[(2, .ptr (.loc 2) 0)], [((.loc 2), [.int .i64 (Edit.kind e), .int .i64 0, .nils, .nils, .int .i64 0, .nils, .nils, .slice (U := U) .wedit (([] : List WEdit) ++ (Edit.words e)) (.own (.l 2 7)), .slice (U := U) .kid ml3_8 (.own (.l 2 8)), .int .i64 (Edit.list e), .nils])], []⟩ : LSt U))))) := by kernel_rfl
  exact e_.mpr (by intro y_1 y_2 y_3; have hh := h y_1 rfl y_2 (reEdit_eq _) y_3 (reEdit_eq _); exact ⟨fun c_4 => ⟨(hh.1 c_4).1, ⟨(hh.1 c_4).2.1, (hh.1 c_4).2.2.1, (hh.1 c_4).2.2.2.1, ⟨(hh.1 c_4).2.2.2.2.1, (hh.1 c_4).2.2.2.2.2⟩⟩⟩, fun c_4 => (hh.2 c_4)⟩)
def Body67 (N : Nat) (e : Edit)  : Prop := awp cfg (know (know67 N)) (drawOk cfg (know (know67 N))) Tryz.f67.ntmps lv67 (cd Tryz.f67 []) (entry (args67.can (e, ())) []) (EndsQ cfg Tryz.f67.ntmps Tryz.f67.results.toList (res67 (e, ())) [])
abbrev HB67 : Prop := ∀ (N : Nat) (e : Edit) (_ : Unit), pre67 (e, ()) → mu67 (e, ()) < N + 1 → Body67 N e
noncomputable def know107 (N : Nat) : List (FuncId × Fs U) := (67, fs args67 (fun a => [pre67 a, mu67 a < N]) res67) :: (107, fs args107 (fun a => [pre107 a, mu107 a < N]) res107) :: [(75, spec75), (149, spec1149), (147, spec147), (150, spec150), (148, spec2148)]
def lv107 : Lives U := fun i => match i with
  | 0 => ([(0, []), (1, [])], [])
  | 1 => ([(0, []), (1, []), (5, [])], [((.loc 10), [.wr .op])])
  | 2 => ([(0, []), (5, []), (11, []), (12, []), (13, [])], [((.loc 10), [.wr .op, .own .tree, .own .tree])])
  | 3 => ([(0, []), (5, []), (11, []), (12, []), (13, []), (14, [])], [((.loc 10), [.wr .op])])
  | 4 => ([(0, []), (5, []), (7, []), (11, []), (12, []), (13, [])], [((.loc 7), []), ((.loc 10), [.wr .op])])
  | 5 => ([(0, []), (5, []), (7, []), (11, []), (12, []), (13, []), (18, [])], [((.loc 7), []), ((.loc 10), [.wr .op])])
  | 6 => ([(0, []), (5, []), (7, []), (11, []), (12, []), (13, []), (18, []), (19, [])], [((.loc 7), []), ((.loc 10), [.wr .op])])
  | 7 => ([(0, []), (5, []), (11, []), (12, []), (13, [])], [((.loc 10), [.wr .op])])
  | 8 => ([(0, []), (5, []), (7, []), (11, []), (12, []), (13, []), (18, []), (25, [])], [((.loc 7), []), ((.loc 10), [.wr .op])])
  | 9 => ([(0, []), (5, []), (11, []), (12, []), (13, [])], [((.loc 10), [.wr .op])])
  | 10 => ([(0, []), (5, []), (7, []), (11, []), (12, []), (13, []), (18, []), (33, [])], [((.loc 7), []), ((.loc 10), [.wr .op])])
  | 11 => ([(0, []), (5, []), (11, []), (12, []), (13, [])], [((.loc 10), [.wr .op])])
  | 12 => ([(0, []), (5, []), (7, []), (11, []), (12, []), (13, []), (41, [])], [((.loc 7), []), ((.loc 10), [.wr .op])])
  | 13 => ([(0, []), (5, []), (8, []), (11, []), (12, []), (13, [])], [((.loc 8), []), ((.loc 10), [.wr .op])])
  | 14 => ([(0, []), (5, []), (8, []), (11, []), (12, []), (13, []), (48, [])], [((.loc 8), []), ((.loc 10), [.wr .op])])
  | 15 => ([(0, []), (5, []), (11, []), (12, []), (13, [])], [((.loc 10), [.wr .op])])
  | 16 => ([(0, []), (5, []), (8, []), (11, []), (12, []), (13, [])], [((.loc 8), []), ((.loc 10), [.wr .op])])
  | 17 => ([(0, []), (5, []), (11, []), (12, []), (13, [])], [((.loc 10), [.wr .op])])
  | 18 => ([(0, []), (5, []), (11, []), (12, []), (13, [])], [((.loc 10), [.wr .op, .own .tree, .own .tree])])
  | 19 => ([(5, [])], [((.loc 10), [.wr .op])])
  | 20 => ([(4, [])], [])
  | _ => ([], [])
def head107_0 (list : Int) (l : List Op) (x13 : Int) (rl_10_0 : List Op) (ml10_1 : List Tree) (ml10_2 : List Tree) : LSt U := (⟨[(0, .c (.int .i64 list)), (5, .ptr (.loc 10) 0), (11, .c (.slice (U := U) .op l .unk)), (12, .c (.int .i64 (l.length : Int))), (13, .c (.int .i64 x13))], [((.loc 10), [.mref (.l 10 0), .slice (U := U) .tree ml10_1 (.own (.l 10 1)), .slice (U := U) .tree ml10_2 (.own (.l 10 2))])], [(.l 10 0, LC.mk (U := U) .op rl_10_0 0)]⟩ : LSt U)
abbrev W107 (N : Nat) (list : Int) (l : List Op) (Q : AExit → LSt U → Prop) := awp cfg (know (know107 N)) (drawOk cfg (know (know107 N))) Tryz.f107.ntmps lv107 (cd Tryz.f107 []) (⟨[(0, .c (.int .i64 list)), (1, .c (.slice (U := U) .op l .unk))], [], []⟩ : LSt U) Q
abbrev a107_ZKG22d (N : Nat) := awp cfg (know (know107 N)) (drawOk cfg (know (know107 N))) Tryz.f107.ntmps lv107
abbrev s107_ZKG22d (N : Nat) := seqK cfg (know (know107 N)) (drawOk cfg (know (know107 N))) Tryz.f107.ntmps lv107
theorem vc107 (N : Nat) (list : Int) (l : List Op) (Q : AExit → LSt U → Prop) (h : LoopWp (awp cfg (know (know107 N)) (drawOk cfg (know (know107 N))) Tryz.f107.ntmps lv107 (cd Tryz.f107 [1, 1, 0, 1, 0, 0])) (head107_0 list l 0 ([]) ([]) ([])) (AExit.inBlock 0 (seqK cfg (know (know107 N)) (drawOk cfg (know (know107 N))) Tryz.f107.ntmps lv107 (cd Tryz.f107 [1, 1, 1]) Q))) :
    W107 N list l Q := by
  have e_ : (W107 N list l Q) = ((((LoopWp (a107_ZKG22d N (cd Tryz.f107 [1, 1, 0, 1, 0, 0])) (head107_0 list l 0 ([]) ([]) ([])) (AExit.inBlock 0 (s107_ZKG22d N (cd Tryz.f107 [1, 1, 1]) Q)))))) := by kernel_rfl
  exact e_.mpr h
abbrev W107_l0 (N : Nat) (list : Int) (l : List Op) (x13 : Int) (rl_10_0 : List Op) (ml10_1 : List Tree) (ml10_2 : List Tree) (N0 : LSt U → Prop) (Q : AExit → LSt U → Prop) := awp cfg (know (know107 N)) (drawOk cfg (know (know107 N))) Tryz.f107.ntmps lv107 (cd Tryz.f107 [1, 1, 0, 1, 0, 0]) (head107_0 list l x13 rl_10_0 ml10_1 ml10_2) (AExit.then N0 (AExit.inBlock 0 (seqK cfg (know (know107 N)) (drawOk cfg (know (know107 N))) Tryz.f107.ntmps lv107 (cd Tryz.f107 [1, 1, 1]) Q)))
theorem vc107_l0 (N : Nat) (list : Int) (l : List Op) (x13 : Int) (rl_10_0 : List Op) (ml10_1 : List Tree) (ml10_2 : List Tree) (N0 : LSt U → Prop) (Q : AExit → LSt U → Prop) (h : ∀ y_1, y_1 = (List.getD l (Int.toNat x13) Op.nil) → ∀ y_2, y_2 = (Edit.mk 0 (Tree.mk 0 ([]) ([])) (Tree.mk 0 ([]) ([])) ([]) ([]) 0 ([])) → ∀ y_3, y_3 = (Int.toNat (((flushW (Wst.mk rl_10_0 ml10_1 ml10_2)).out).length : Int)) → ∀ y_4, y_4 = ((OpOf.e y_1)) → ∀ y_5, y_5 = ((nrmE y_4)) → ((decide ((x13 : Int) < (l.length : Int))) = true → ((0 : Int) ≤ x13 ∧ x13 < (l.length : Int)) ∧ (((((OpOf.kind y_1) : Int) == 0) = true → (pre147 ((rl_10_0, ml10_1, ml10_2, ()), (OpOf.n y_1), ())) ∧ ((InR ((x13 : Int) + 1)) ∧ (N0 (head107_0 list l ((x13 : Int) + 1) ((keepW (Wst.mk rl_10_0 ml10_1 ml10_2) (OpOf.n y_1)).out) ((keepW (Wst.mk rl_10_0 ml10_1 ml10_2) (OpOf.n y_1)).gone) ((keepW (Wst.mk rl_10_0 ml10_1 ml10_2) (OpOf.n y_1)).brought))))) ∧ ((((OpOf.kind y_1) : Int) == 0) = false → ((((OpOf.kind y_1) : Int) == 1) = true → (pre148 ((rl_10_0, ml10_1, ml10_2, ()), (OpOf.l y_1), ())) ∧ ((InR ((x13 : Int) + 1)) ∧ (N0 (head107_0 list l ((x13 : Int) + 1) ((Wst.mk rl_10_0 (ml10_1 ++ normsT (OpOf.l y_1)) ml10_2).out) ((Wst.mk rl_10_0 (ml10_1 ++ normsT (OpOf.l y_1)) ml10_2).gone) ((Wst.mk rl_10_0 (ml10_1 ++ normsT (OpOf.l y_1)) ml10_2).brought))))) ∧ ((((OpOf.kind y_1) : Int) == 1) = false → ((((OpOf.kind y_1) : Int) == 2) = true → (pre1148 ((rl_10_0, ml10_1, ml10_2, ()), (OpOf.l y_1), ())) ∧ ((InR ((x13 : Int) + 1)) ∧ (N0 (head107_0 list l ((x13 : Int) + 1) ((Wst.mk rl_10_0 ml10_1 (ml10_2 ++ normsT (OpOf.l y_1))).out) ((Wst.mk rl_10_0 ml10_1 (ml10_2 ++ normsT (OpOf.l y_1))).gone) ((Wst.mk rl_10_0 ml10_1 (ml10_2 ++ normsT (OpOf.l y_1))).brought))))) ∧ ((((OpOf.kind y_1) : Int) == 2) = false → ((((OpOf.kind y_1) : Int) == 3) = true → (pre67 (y_4, ())) ∧ (mu67 (y_4, ()) < N) ∧ ((pre1149 (list, y_5, ())) ∧ (((idleE list y_5) = true → (pre147 ((rl_10_0, ml10_1, ml10_2, ()), 1, ())) ∧ ((InR ((x13 : Int) + 1)) ∧ (N0 (head107_0 list l ((x13 : Int) + 1) ((keepW (Wst.mk rl_10_0 ml10_1 ml10_2) 1).out) ((keepW (Wst.mk rl_10_0 ml10_1 ml10_2) 1).gone) ((keepW (Wst.mk rl_10_0 ml10_1 ml10_2) 1).brought))))) ∧ ((idleE list y_5) = false → (pre150 ((rl_10_0, ml10_1, ml10_2, ()), ())) ∧ (((((flushW (Wst.mk rl_10_0 ml10_1 ml10_2)).out).length + ([(OpOf.mk 0 0 ([]) y_2 : Op)]).length) * 240 ≤ 140737488355328) ∧ ((0 : Int) ≤ (((flushW (Wst.mk rl_10_0 ml10_1 ml10_2)).out).length : Int) ∧ (((flushW (Wst.mk rl_10_0 ml10_1 ml10_2)).out).length : Int) < ((((flushW (Wst.mk rl_10_0 ml10_1 ml10_2)).out) ++ ([(OpOf.mk 0 0 ([]) y_2 : Op)])).length : Int)) ∧ ((0 : Nat) ≤ y_3) ∧ ((InR ((x13 : Int) + 1)) ∧ (N0 (head107_0 list l ((x13 : Int) + 1) (List.set (((flushW (Wst.mk rl_10_0 ml10_1 ml10_2)).out) ++ ([(OpOf.mk 0 0 ([]) y_2 : Op)])) y_3 (OpOf.mk 3 0 ([]) y_5 : Op)) ((flushW (Wst.mk rl_10_0 ml10_1 ml10_2)).gone) ((flushW (Wst.mk rl_10_0 ml10_1 ml10_2)).brought))))))))) ∧ ((((OpOf.kind y_1) : Int) == 3) = false → (InR ((x13 : Int) + 1)) ∧ (N0 (head107_0 list l ((x13 : Int) + 1) rl_10_0 ml10_1 ml10_2)))))))) ∧ ((decide ((x13 : Int) < (l.length : Int))) = false → (pre150 ((rl_10_0, ml10_1, ml10_2, ()), ())) ∧ (Q .ret (⟨[(4, .c (.slice (U := U) .op ((flushW (Wst.mk rl_10_0 ml10_1 ml10_2)).out) (.own (.e 4 0))))], [], []⟩ : LSt U)))) :
    W107_l0 N list l x13 rl_10_0 ml10_1 ml10_2 N0 Q := by
  have e_ : (W107_l0 N list l x13 rl_10_0 ml10_1 ml10_2 N0 Q) = (let y_1 := (List.getD l (Int.toNat x13) Op.nil); let y_2 := (Edit.mk 0 (Tree.mk 0 ([]) ([])) (Tree.mk 0 ([]) ([])) ([]) ([]) 0 ([])); let y_3 := (Int.toNat (((flushW (Wst.mk rl_10_0 ml10_1 ml10_2)).out).length : Int)); let y_4 := (reEdit (OpOf.e y_1)); let y_5 := (reEdit (nrmE y_4)); (((decide ((x13 : Int) < (l.length : Int))) = true → ((0 : Int) ≤ x13 ∧ x13 < (l.length : Int)) ∧ ((((((OpOf.kind y_1) == 0) = true → (pre147 ((rl_10_0, ml10_1, ml10_2, ()), (OpOf.n y_1), ())) ∧ ((InR ((x13 : Int) + 1)) ∧ (N0 (head107_0 list l ((x13 : Int) + 1) ((keepW (Wst.mk rl_10_0 ml10_1 ml10_2) (OpOf.n y_1)).out) ((keepW (Wst.mk rl_10_0 ml10_1 ml10_2) (OpOf.n y_1)).gone) ((keepW (Wst.mk rl_10_0 ml10_1 ml10_2) (OpOf.n y_1)).brought))))) ∧ (((OpOf.kind y_1) == 0) = false → ((((OpOf.kind y_1) == 1) = true → (pre148 ((rl_10_0, ml10_1, ml10_2, ()), (OpOf.l y_1), ())) ∧ ((InR ((x13 : Int) + 1)) ∧ (N0 (head107_0 list l ((x13 : Int) + 1) ((Wst.mk rl_10_0 (ml10_1 ++ normsT (OpOf.l y_1)) ml10_2).out) ((Wst.mk rl_10_0 (ml10_1 ++ normsT (OpOf.l y_1)) ml10_2).gone) ((Wst.mk rl_10_0 (ml10_1 ++ normsT (OpOf.l y_1)) ml10_2).brought))))) ∧ (((OpOf.kind y_1) == 1) = false → ((((OpOf.kind y_1) == 2) = true → (pre1148 ((rl_10_0, ml10_1, ml10_2, ()), (OpOf.l y_1), ())) ∧ ((InR ((x13 : Int) + 1)) ∧ (N0 (head107_0 list l ((x13 : Int) + 1) ((Wst.mk rl_10_0 ml10_1 (ml10_2 ++ normsT (OpOf.l y_1))).out) ((Wst.mk rl_10_0 ml10_1 (ml10_2 ++ normsT (OpOf.l y_1))).gone) ((Wst.mk rl_10_0 ml10_1 (ml10_2 ++ normsT (OpOf.l y_1))).brought))))) ∧ (((OpOf.kind y_1) == 2) = false → ((((OpOf.kind y_1) == 3) = true → (pre67 (y_4, ())) ∧ (mu67 (y_4, ()) < N) ∧ ((pre1149 (list, y_5, ())) ∧ (((idleE list y_5) = true → (pre147 ((rl_10_0, ml10_1, ml10_2, ()), 1, ())) ∧ ((InR ((x13 : Int) + 1)) ∧ (N0 (head107_0 list l ((x13 : Int) + 1) ((keepW (Wst.mk rl_10_0 ml10_1 ml10_2) 1).out) ((keepW (Wst.mk rl_10_0 ml10_1 ml10_2) 1).gone) ((keepW (Wst.mk rl_10_0 ml10_1 ml10_2) 1).brought))))) ∧ ((idleE list y_5) = false → (pre150 ((rl_10_0, ml10_1, ml10_2, ()), ())) ∧ (((((flushW (Wst.mk rl_10_0 ml10_1 ml10_2)).out).length + ([(OpOf.mk 0 0 ([]) y_2 : Op)]).length) * 240 ≤ 140737488355328) ∧ ((0 : Int) ≤ (((flushW (Wst.mk rl_10_0 ml10_1 ml10_2)).out).length : Int) ∧ (((flushW (Wst.mk rl_10_0 ml10_1 ml10_2)).out).length : Int) < ((((flushW (Wst.mk rl_10_0 ml10_1 ml10_2)).out) ++ ([(OpOf.mk 0 0 ([]) y_2 : Op)])).length : Int)) ∧ ((0 : Nat) ≤ y_3) ∧ ((InR ((x13 : Int) + 1)) ∧ (N0 (head107_0 list l ((x13 : Int) + 1) (List.set (((flushW (Wst.mk rl_10_0 ml10_1 ml10_2)).out) ++ ([(OpOf.mk 0 0 ([]) y_2 : Op)])) y_3 (OpOf.mk 3 0 ([]) y_5 : Op)) ((flushW (Wst.mk rl_10_0 ml10_1 ml10_2)).gone) ((flushW (Wst.mk rl_10_0 ml10_1 ml10_2)).brought))))))))) ∧ (((OpOf.kind y_1) == 3) = false → (InR ((x13 : Int) + 1)) ∧ (N0 (head107_0 list l ((x13 : Int) + 1) rl_10_0 ml10_1 ml10_2))))))))))))) ∧ ((decide ((x13 : Int) < (l.length : Int))) = false → (pre150 ((rl_10_0, ml10_1, ml10_2, ()), ())) ∧ ((Q .ret (⟨[(4, .c (.slice (U := U) .op ((flushW (Wst.mk rl_10_0 ml10_1 ml10_2)).out) (.own (.e 4 0))))], [], []⟩ : LSt U)))))) := by kernel_rfl
  exact e_.mpr (by intro y_1 y_2 y_3 y_4 y_5; have hh := h y_1 rfl y_2 rfl y_3 rfl y_4 (reEdit_eq _) y_5 (reEdit_eq _); exact ⟨fun c_5 => ⟨(hh.1 c_5).1, ⟨fun c_6 => ⟨((hh.1 c_5).2.1 c_6).1, ⟨((hh.1 c_5).2.1 c_6).2.1, ((hh.1 c_5).2.1 c_6).2.2⟩⟩, fun c_6 => ⟨fun c_7 => ⟨(((hh.1 c_5).2.2 c_6).1 c_7).1, ⟨(((hh.1 c_5).2.2 c_6).1 c_7).2.1, (((hh.1 c_5).2.2 c_6).1 c_7).2.2⟩⟩, fun c_7 => ⟨fun c_8 => ⟨((((hh.1 c_5).2.2 c_6).2 c_7).1 c_8).1, ⟨((((hh.1 c_5).2.2 c_6).2 c_7).1 c_8).2.1, ((((hh.1 c_5).2.2 c_6).2 c_7).1 c_8).2.2⟩⟩, fun c_8 => ⟨fun c_9 => ⟨(((((hh.1 c_5).2.2 c_6).2 c_7).2 c_8).1 c_9).1, (((((hh.1 c_5).2.2 c_6).2 c_7).2 c_8).1 c_9).2.1, ⟨(((((hh.1 c_5).2.2 c_6).2 c_7).2 c_8).1 c_9).2.2.1, ⟨fun c_10 => ⟨((((((hh.1 c_5).2.2 c_6).2 c_7).2 c_8).1 c_9).2.2.2.1 c_10).1, ⟨((((((hh.1 c_5).2.2 c_6).2 c_7).2 c_8).1 c_9).2.2.2.1 c_10).2.1, ((((((hh.1 c_5).2.2 c_6).2 c_7).2 c_8).1 c_9).2.2.2.1 c_10).2.2⟩⟩, fun c_10 => ⟨((((((hh.1 c_5).2.2 c_6).2 c_7).2 c_8).1 c_9).2.2.2.2 c_10).1, ⟨((((((hh.1 c_5).2.2 c_6).2 c_7).2 c_8).1 c_9).2.2.2.2 c_10).2.1, ((((((hh.1 c_5).2.2 c_6).2 c_7).2 c_8).1 c_9).2.2.2.2 c_10).2.2.1, ((((((hh.1 c_5).2.2 c_6).2 c_7).2 c_8).1 c_9).2.2.2.2 c_10).2.2.2.1, ⟨((((((hh.1 c_5).2.2 c_6).2 c_7).2 c_8).1 c_9).2.2.2.2 c_10).2.2.2.2.1, ((((((hh.1 c_5).2.2 c_6).2 c_7).2 c_8).1 c_9).2.2.2.2 c_10).2.2.2.2.2⟩⟩⟩⟩⟩⟩, fun c_9 => ⟨(((((hh.1 c_5).2.2 c_6).2 c_7).2 c_8).2 c_9).1, (((((hh.1 c_5).2.2 c_6).2 c_7).2 c_8).2 c_9).2⟩⟩⟩⟩⟩⟩, fun c_5 => ⟨(hh.2 c_5).1, (hh.2 c_5).2⟩⟩)
def Body107 (N : Nat) (list : Int) (l : List Op)  : Prop := awp cfg (know (know107 N)) (drawOk cfg (know (know107 N))) Tryz.f107.ntmps lv107 (cd Tryz.f107 []) (entry (args107.can (list, l, ())) []) (EndsQ cfg Tryz.f107.ntmps Tryz.f107.results.toList (res107 (list, l, ())) [])
abbrev HB107 : Prop := ∀ (N : Nat) (list : Int) (l : List Op) (_ : Unit), pre107 (list, l, ()) → mu107 (list, l, ()) < N + 1 → Body107 N list l
theorem make67_76 (c75 : Contract Tryz.prog cfg 75 spec75) (c1149 : Contract Tryz.prog cfg 149 spec1149) (c147 : Contract Tryz.prog cfg 147 spec147) (c150 : Contract Tryz.prog cfg 150 spec150) (c2148 : Contract Tryz.prog cfg 148 spec2148) (ha : HB67) (hb : HB107) : Contract Tryz.prog cfg 67 spec67 ∧ Contract Tryz.prog cfg 107 spec107 :=
  contract_mut2 (μA := mu67) (μB := mu107) (l := [(75, spec75), (149, spec1149), (147, spec147), (150, spec150), (148, spec2148)]) cfgOk rfl (⟨c75, c1149, c147, c150, c2148, trivial⟩) lv67 lv107 Tryz.func67 Tryz.func107 rfl rfl rfl rfl 1 2 (fun _ => rfl) (fun _ => rfl) (by decide) (by decide) (fun N ⟨e, _⟩ => ha N e ()) (fun N ⟨list, l, _⟩ => hb N list l ())
end
end Go.AM.YtpjenobkibfpcaaGreat

namespace Go.AM.YtpjenobkibfpcaaGreat
open Go.AM Go.Proofs
theorem keepW_len (s : Wst) (n : Int) : (keepW s n).out.length ≤ s.out.length + 3 := by
  have h := flush_len s
  simp only [keepW]
  rw [keepO_at]
  split
  · rw [List.length_set]; omega
  · rw [List.length_append]; simp; omega
theorem keepW_n {s : Wst} {n B K : Int} (hB : 0 ≤ B) (hn : 0 ≤ n ∧ n ≤ K) (h : ∀ o ∈ s.out, 0 ≤ o.n ∧ o.n ≤ B) : ∀ o ∈ (keepW s n).out, 0 ≤ o.n ∧ o.n ≤ B + K := by
  have hF : ∀ o ∈ (flushW s).out, 0 ≤ o.n ∧ o.n ≤ B := by
    intro o ho
    rcases flush_mem s o ho with h1 | h1
    · exact h o h1
    · omega
  intro o ho
  simp only [keepW] at ho
  rw [keepO_at] at ho
  split at ho
  · rename_i hc
    rcases List.mem_or_eq_of_mem_set ho with ho | rfl
    · have := hF o ho; omega
    · have := hF _ (mem_getD (l := (flushW s).out) (i := (flushW s).out.length - 1) (by omega) Op.nil)
      simp only; omega
  · rcases List.mem_append.1 ho with ho | ho
    · have := hF o ho; omega
    · simp only [List.mem_singleton] at ho; subst ho; simp only; omega
theorem nrmKs_lenW : ∀ (l : List Kid), (nrmKs l).length = l.length
  | [] => rfl
  | k :: r => by simp [nrmKs, nrmKs_lenW r]
theorem nrmE_words (e : Edit) : (nrmE e).words.length ≤ e.words.length ∧ (nrmE e).kids.length ≤ e.kids.length := by
  rw [nrmE_at]
  split
  · simp
  · split
    · simp [nrmKs_lenW]
    · split <;> simp
theorem rightOp_keep {list : Int} {o : Op} {d : Int} (h : rightOp list o d = true) (hk : o.kind = 0) : 1 ≤ o.n ∧ o.n ≤ 1048576 := by
  obtain ⟨k, n, l, e⟩ := o
  simp only at hk
  subst hk
  simp [rightOp] at h
  show 1 ≤ n ∧ n ≤ 1048576
  omega
theorem rightOp_desc {list : Int} {o : Op} {d : Int} (h : rightOp list o d = true) (hk : o.kind = 3) : rightE o.e d = true := by
  obtain ⟨k, n, l, e⟩ := o
  simp only at hk
  subst hk
  simp [rightOp] at h
  exact h.2.1.2
theorem kid_right {e : Edit} {d : Int} (h : rightE e d = true) (hk : e.kind = 2) : ∀ k ∈ e.kids, ∃ d, rightE k.e d = true := by
  obtain ⟨k, o, n, w, ks, l, os⟩ := e
  change k = 2 at hk
  subst hk
  have hks : ∃ d last, rightKs last ks d = true := by
    unfold rightE at h
    split at h
    · cases h
    · split at h
      · cases h
      · rw [if_neg (by omega)] at h
        simp only [Bool.and_eq_true] at h
        exact ⟨_, _, h.1.1.1.2⟩
  obtain ⟨d', last, hks⟩ := hks
  change ∀ k ∈ ks, _
  clear h
  induction ks generalizing last with
  | nil => intro k hk; cases hk
  | cons a r ih =>
    simp only [rightKs, Bool.and_eq_true] at hks
    intro k hk
    rcases List.mem_cons.1 hk with rfl | hk
    · obtain ⟨a, e⟩ := k
      simp only [rightKid, Bool.and_eq_true] at hks
      exact ⟨_, hks.1.2⟩
    · exact ih _ hks.2 k hk
theorem op_right {e : Edit} {d : Int} (h : rightE e d = true) (hk : e.kind = 3) : ∀ o ∈ e.ops, ∃ d, rightOp e.list o d = true := by
  obtain ⟨k, o, n, w, ks, l, os⟩ := e
  change k = 3 at hk
  subst hk
  have hos : ∃ d, rightOs l os d = true := by
    unfold rightE at h
    split at h
    · cases h
    · split at h
      · cases h
      · rw [if_neg (by omega)] at h
        simp only [Bool.and_eq_true] at h
        exact ⟨_, h.1.2⟩
  obtain ⟨d', hos⟩ := hos
  change ∀ o ∈ os, ∃ d, rightOp l o d = true
  clear h
  induction os with
  | nil => intro k hk; cases hk
  | cons a r ih =>
    simp only [rightOs, Bool.and_eq_true] at hos
    intro k hk
    rcases List.mem_cons.1 hk with rfl | hk
    · exact ⟨_, hos.1⟩
    · exact ih hos.2 k hk
theorem b107 : HB107 := by
  intro N list l _ hp hN
  simp only [pre107, mu107] at hp hN
  obtain ⟨p1, p3⟩ := hp
  have hl := massOs_len l
  refine vc107 _ _ _ _ ?_
  refine loop_rule (ι := Int × Wst) (fun s => head107_0 list l s.1 s.2.out s.2.gone s.2.brought)
    (fun s => 0 ≤ s.1 ∧ s.1 ≤ l.length ∧ nrmOs list (l.drop s.1.toNat) s.2 = nrmOs list l ⟨[], [], []⟩ ∧ s.2.out.length ≤ 3 * s.1 ∧ s.2.gone.length + s.2.brought.length + massOs (l.drop s.1.toNat) ≤ massOs l ∧ ∀ o ∈ s.2.out, 0 ≤ o.n ∧ o.n ≤ s.1 * 1048576)
    (fun s => ((l.length : Int) - s.1).toNat) (0, ⟨[], [], []⟩) rfl ⟨by simp, by simp, by simp, by simp, by simp, by simp⟩ ?_
  rintro ⟨i, s⟩ ⟨g1, g2, g3, g4, g5, g6⟩
  dsimp only at g1 g2 g3 g4 g5 g6
  refine vc107_l0 _ _ _ _ _ _ _ _ _ ?_
  rintro y1 hy1 y2 hy2 y3 hy3 y4 hy4 y5 hy5
  have hy : y2 = Edit.nil := hy2
  subst hy
  have es : Wst.mk s.out s.gone s.brought = s := rfl
  simp only [es] at hy3 ⊢
  (simp only [vcS])
  refine ⟨fun hi => ?_, fun hi => ?_⟩
  · have hmem := mem_getD (l := l) (i := i.toNat) (by omega) Op.nil
    have hm := massOs_mem hmem
    have hr := p3 _ hmem
    rw [dropI g1 hi Op.nil] at g3 g5
    rw [← hy1] at g3 g5 hm hr
    have hmo := massOp_e y1
    simp only [nrmOs, nrmOp_at, massOs] at g3 g5
    rw [← hy4, ← hy5] at g3
    obtain ⟨d, hr2⟩ := hr
    have hfl := flush_len s
    have hP : ∀ n : Int, 0 ≤ n ∧ n ≤ 1048576 → pre147 ((s.out, s.gone, s.brought, ()), n, ()) := by
      intro n hn
      simp only [pre147]
      refine ⟨by omega, by omega, by omega, fun o ho => ?_, by omega, by omega⟩
      have := g6 o ho
      constructor
      · omega
      · have : i * 1048576 ≤ 20000000000 * 1048576 := by omega
        omega
    have hK : ∀ n : Int, 0 ≤ n ∧ n ≤ 1048576 → nrmOs list (l.drop (i + 1).toNat) (keepW s n) = nrmOs list l ⟨[], [], []⟩ →
        (∃ j : Int × Wst, head107_0 list l (i + 1) (keepW s n).out (keepW s n).gone (keepW s n).brought = head107_0 list l j.1 j.2.out j.2.gone j.2.brought ∧ (0 ≤ j.1 ∧ j.1 ≤ l.length ∧ nrmOs list (l.drop j.1.toNat) j.2 = nrmOs list l ⟨[], [], []⟩ ∧ j.2.out.length ≤ 3 * j.1 ∧ j.2.gone.length + j.2.brought.length + massOs (l.drop j.1.toNat) ≤ massOs l ∧ ∀ o ∈ j.2.out, 0 ≤ o.n ∧ o.n ≤ j.1 * 1048576) ∧ ((l.length : Int) - j.1).toNat < ((l.length : Int) - i).toNat) := by
      intro n hn he
      have h1 := keepW_len s n
      have h2 := keepW_n (s := s) (n := n) (B := i * 1048576) (K := 1048576) (by omega) hn g6
      refine ⟨(i + 1, keepW s n), rfl, ⟨by dsimp only; omega, by dsimp only; omega, he, by dsimp only; omega, by simp only [keepW, List.length_nil]; omega, fun o ho => ?_⟩, by dsimp only; omega⟩
      have := h2 o ho
      dsimp only
      omega
    refine ⟨⟨g1, hi⟩, fun hk => ?_, fun hk => ⟨fun hk1 => ?_, fun hk1 => ⟨fun hk2 => ?_, fun hk2 => ⟨fun hk3 => ?_, fun hk3 => ?_⟩⟩⟩⟩
    · rw [if_pos hk] at g3
      have h1 := rightOp_keep hr2 hk
      exact ⟨hP _ (by omega), by unfold InR; omega, hK _ (by omega) g3⟩
    · rw [if_neg hk, if_pos hk1] at g3
      refine ⟨by simp only [pre148]; omega, by unfold InR; omega, (i + 1, ⟨s.out, s.gone ++ normsT y1.l, s.brought⟩), rfl, ⟨by dsimp only; omega, by dsimp only; omega, g3, by dsimp only; omega, ?_, fun o ho => ?_⟩, by dsimp only; omega⟩
      · have := massK_len y1.l
        simp only [List.length_append, normsT, List.length_map]; omega
      · have := g6 o ho
        dsimp only; omega
    · rw [if_neg hk, if_neg hk1, if_pos hk2] at g3
      refine ⟨by simp only [pre1148]; omega, by unfold InR; omega, (i + 1, ⟨s.out, s.gone, s.brought ++ normsT y1.l⟩), rfl, ⟨by dsimp only; omega, by dsimp only; omega, g3, by dsimp only; omega, ?_, fun o ho => ?_⟩, by dsimp only; omega⟩
      · have := massK_len y1.l
        simp only [List.length_append, normsT, List.length_map]; omega
      · have := g6 o ho
        dsimp only; omega
    · rw [if_neg hk, if_neg hk1, if_neg hk2, if_pos hk3] at g3
      have hre := rightOp_desc hr2 hk3
      rw [← hy4] at hre
      have hw := nrmE_words y4
      rw [← hy5] at hw
      have h1 := len_massE y4
      have h2 := massKs_len y4.kids
      have hmE : massE y4 ≤ massOp y1 := by rw [hmo, hy4]; omega
      refine ⟨by simp only [pre67]; exact ⟨by omega, d, hre⟩, by simp only [mu67]; omega, by simp only [pre1149]; omega, fun hq => ?_, fun hq => ?_⟩
      · rw [if_pos hq] at g3
        exact ⟨hP 1 (by omega), by unfold InR; omega, hK 1 (by omega) g3⟩
      · rw [if_neg (by rw [hq]; simp)] at g3
        rw [hy3, set_last]
        refine ⟨by simp only [pre150]; omega, by simp only [List.length_cons, List.length_nil]; omega, by simp only [List.length_append, List.length_cons, List.length_nil]; omega, by omega, by unfold InR; omega, (i + 1, ⟨(flushW s).out ++ [⟨3, 0, [], y5⟩], [], []⟩), rfl, ⟨by dsimp only; omega, by dsimp only; omega, g3, by simp; omega, by simp; omega, fun o ho => ?_⟩, by dsimp only; omega⟩
        dsimp only at ho ⊢
        rcases List.mem_append.1 ho with ho | ho
        · rcases flush_mem s o ho with h5 | h5
          · have := g6 o h5; omega
          · omega
        · simp only [List.mem_singleton] at ho
          subst ho
          simp only; omega
    · rw [if_neg hk, if_neg hk1, if_neg hk2, if_neg hk3] at g3
      refine ⟨by unfold InR; omega, (i + 1, s), rfl, ⟨by dsimp only; omega, by dsimp only; omega, g3, by dsimp only; omega, by dsimp only; omega, fun o ho => ?_⟩, by dsimp only; omega⟩
      have := g6 o ho
      dsimp only; omega
  · rw [List.drop_of_length_le (by omega)] at g3
    simp only [nrmOs] at g3
    refine ⟨by simp only [pre150]; omega, ?_⟩
    simp only [res107]
    rw [← g3]
    (repeat' (first | exact trivial | exact rfl | apply And.intro))
theorem b67 : HB67 := by
  intro N e _ hp hN
  simp only [pre67, mu67] at hp hN
  obtain ⟨p1, d, p3⟩ := hp
  have h1 := len_massE e
  have h2 := massKs_len e.kids
  have h3 := massOs_len e.ops
  have ha := nrmE_at e
  refine vc67 _ _ _ ?_
  (simp only [vcS])
  (simp only [Tree.eta, Edit.eta, Tree.kind_mk, Tree.words_mk, Tree.kids_mk])
  refine ⟨fun hk => ⟨by simp only [pre75]; omega, by simp only [pre75]; omega, ?_⟩, fun hk => ⟨fun hk2 => ⟨by simp; omega, ?_⟩, fun hk2 => ⟨fun hk3 => ⟨?_, by simp only [mu107]; omega, ?_⟩, fun hk3 => ?_⟩⟩⟩
  · rw [if_pos hk] at ha
    simp only [res67, ha]
    (repeat' (first | exact trivial | exact rfl | apply And.intro))
  · rw [if_neg hk, if_pos hk2] at ha
    refine loop_rule (ι := Int × List Kid) (fun s => head67_0 e s.1 s.2) (fun s => 0 ≤ s.1 ∧ s.1 ≤ e.kids.length ∧ s.2.length = s.1 ∧ s.2 ++ nrmKs (e.kids.drop s.1.toNat) = nrmKs e.kids) (fun s => ((e.kids.length : Int) - s.1).toNat) (0, []) rfl ⟨by simp, by simp, by simp, by simp⟩ ?_
    rintro ⟨j, ks⟩ ⟨f1, f2, f3, f4⟩
    dsimp only at f1 f2 f3 f4
    refine vc67_l0 _ _ _ _ _ _ ?_
    rintro y1 hy1 y2 hy2 y3 hy3
    (simp only [vcS])
    refine ⟨fun hj => ?_, fun hj => ?_⟩
    · have hmem := mem_getD (l := e.kids) (i := j.toNat) (by omega) (KidOf.mk 0 Edit.nil)
      have hm := massKs_mem hmem
      have hr := kid_right p3 hk2 _ hmem
      rw [dropI f1 hj (KidOf.mk 0 Edit.nil)] at f4
      rw [← hy1] at f4 hm hr
      simp only [nrmKs, nrmKid_at] at f4
      rw [← hy2] at f4 hm hr
      rw [← hy3] at f4
      refine ⟨⟨f1, hj⟩, by simp only [pre67]; exact ⟨by omega, hr⟩, by simp only [mu67]; omega, by simp; omega, by unfold InR; omega, (j + 1, ks ++ [⟨y1.at_, y3⟩]), rfl, ⟨by dsimp only; omega, by dsimp only; omega, by simp; omega, ?_⟩, by dsimp only; omega⟩
      simp only [List.append_assoc, List.cons_append, List.nil_append]
      exact f4
    · rw [List.drop_of_length_le (by omega)] at f4
      simp only [nrmKs, List.append_nil] at f4
      rw [f4]
      simp only [res67, ha]
      (repeat' (first | exact trivial | exact rfl | apply And.intro))
  · simp only [pre107]
    exact ⟨by omega, fun o ho => op_right p3 hk3 o ho⟩
  · rw [if_neg hk, if_neg hk2, if_pos hk3] at ha
    simp only [res67, ha]
    (repeat' (first | exact trivial | exact rfl | apply And.intro))
  · rw [if_neg hk, if_neg hk2, if_neg hk3] at ha
    simp only [res67, ha]
    (repeat' (first | exact trivial | exact rfl | apply And.intro))
theorem c67_76 : Contract Tryz.prog cfg 67 spec67 ∧ Contract Tryz.prog cfg 107 spec107 := make67_76 c75 c1149 c147 c150 c2148 b67 b107
end Go.AM.YtpjenobkibfpcaaGreat

namespace Go.AM.YtpjenobkibfpcaaGreat
open Go.AM Go.Proofs
def args85 : ArgL (Edit × Unit) := (.cons (aEl .edit) .nil)
def pre85 (a : Edit × Unit) : Prop := massE a.1 ≤ 20000000000 ∧ ∃ d, rightE a.1 d = true
noncomputable def res85 (a : Edit × Unit) : V U := .agg [.int .i64 (Edit.kind (nrmE (turnE a.1))), .int .i64 (Tree.kind (Edit.old (nrmE (turnE a.1)))), .slice (U := U) .u64 (Tree.words (Edit.old (nrmE (turnE a.1)))) .unk, .slice (U := U) .tree (Tree.kids (Edit.old (nrmE (turnE a.1)))) .unk, .int .i64 (Tree.kind (Edit.new (nrmE (turnE a.1)))), .slice (U := U) .u64 (Tree.words (Edit.new (nrmE (turnE a.1)))) .unk, .slice (U := U) .tree (Tree.kids (Edit.new (nrmE (turnE a.1)))) .unk, .slice (U := U) .wedit (Edit.words (nrmE (turnE a.1))) .unk, .slice (U := U) .kid (Edit.kids (nrmE (turnE a.1))) .unk, .int .i64 (Edit.list (nrmE (turnE a.1))), .slice (U := U) .op (Edit.ops (nrmE (turnE a.1))) .unk]
noncomputable def spec85 : Fs U := fs args85 (fun a => [pre85 a]) res85
noncomputable def know85 : List (FuncId × Fs U) := [(67, spec67), (131, spec131)]
def lv85 : Lives U := fun i => match i with
  | 0 => ([(1, []), (2, [])], [((.loc 1), []), ((.loc 2), [])])
  | 1 => ([(2, [])], [((.loc 2), [])])
  | _ => ([], [])
abbrev W85 (e : Edit) (Q : AExit → LSt U → Prop) := awp cfg (know know85) (drawOk cfg (know know85)) Tryz.f85.ntmps lv85 (cd Tryz.f85 []) (⟨[(0, .agg [.int .i64 (Edit.kind e), .int .i64 (Tree.kind (Edit.old e)), .slice (U := U) .u64 (Tree.words (Edit.old e)) .unk, .slice (U := U) .tree (Tree.kids (Edit.old e)) .unk, .int .i64 (Tree.kind (Edit.new e)), .slice (U := U) .u64 (Tree.words (Edit.new e)) .unk, .slice (U := U) .tree (Tree.kids (Edit.new e)) .unk, .slice (U := U) .wedit (Edit.words e) .unk, .slice (U := U) .kid (Edit.kids e) .unk, .int .i64 (Edit.list e), .slice (U := U) .op (Edit.ops e) .unk])], [], []⟩ : LSt U) Q
theorem vc85 (e : Edit) (Q : AExit → LSt U → Prop) (h : ∀ y_1, y_1 = (e) → ∀ y_2, y_2 = ((turnE y_1)) → (pre131 (y_1, ())) ∧ (pre67 (y_2, ())) ∧ (Q .ret (⟨[(2, .ptr (.loc 2) 0)], [((.loc 2), [.int .i64 (Edit.kind (nrmE y_2)), .int .i64 (Tree.kind (Edit.old (nrmE y_2))), .slice (U := U) .u64 (Tree.words (Edit.old (nrmE y_2))) .unk, .slice (U := U) .tree (Tree.kids (Edit.old (nrmE y_2))) .unk, .int .i64 (Tree.kind (Edit.new (nrmE y_2))), .slice (U := U) .u64 (Tree.words (Edit.new (nrmE y_2))) .unk, .slice (U := U) .tree (Tree.kids (Edit.new (nrmE y_2))) .unk, .slice (U := U) .wedit (Edit.words (nrmE y_2)) .unk, .slice (U := U) .kid (Edit.kids (nrmE y_2)) .unk, .int .i64 (Edit.list (nrmE y_2)), .slice (U := U) .op (Edit.ops (nrmE y_2)) .unk])], []⟩ : LSt U))) :
    W85 e Q := by
  have e_ : (W85 e Q) = (let y_1 := (reEdit e); let y_2 := (reEdit (turnE y_1)); ((pre131 (y_1, ())) ∧ (pre67 (y_2, ())) ∧ (Q .ret (⟨[(2, .ptr (.loc 2) 0)], [((.loc 2), [.int .i64 (Edit.kind (nrmE y_2)), .int .i64 (Tree.kind (Edit.old (nrmE y_2))), .slice (U := U) .u64 (Tree.words (Edit.old (nrmE y_2))) .unk, .slice (U := U) .tree (Tree.kids (Edit.old (nrmE y_2))) .unk, .int .i64 (Tree.kind (Edit.new (nrmE y_2))), .slice (U := U) .u64 (Tree.words (Edit.new (nrmE y_2))) .unk, .slice (U := U) .tree (Tree.kids (Edit.new (nrmE y_2))) .unk, .slice (U := U) .wedit (Edit.words (nrmE y_2)) .unk, .slice (U := U) .kid (Edit.kids (nrmE y_2)) .unk, .int .i64 (Edit.list (nrmE y_2)), .slice (U := U) .op (Edit.ops (nrmE y_2)) .unk])], []⟩ : LSt U)))) := by kernel_rfl
  exact e_.mpr (by intro y_1 y_2; have hh := h y_1 (reEdit_eq _) y_2 (reEdit_eq _); exact ⟨hh.1, hh.2.1, hh.2.2⟩)
def Body85 (e : Edit)  : Prop := awp cfg (know (know85)) (drawOk cfg (know (know85))) Tryz.f85.ntmps lv85 (cd Tryz.f85 []) (entry (args85.can (e, ())) []) (EndsQ cfg Tryz.f85.ntmps Tryz.f85.results.toList (res85 (e, ())) [])
theorem make85 (c67 : Contract Tryz.prog cfg 67 spec67) (c131 : Contract Tryz.prog cfg 131 spec131) (hb : ∀ (e : Edit) (_ : Unit), pre85 (e, ()) → Body85 e) : Contract Tryz.prog cfg 85 spec85 :=
  contract_flat (l := [(67, spec67), (131, spec131)]) cfgOk rfl (⟨c67, c131, trivial⟩) lv85 Tryz.func85 rfl rfl 1 (fun _ => rfl) (by decide) (fun ⟨e, _⟩ => hb e ())
end Go.AM.YtpjenobkibfpcaaGreat

namespace Go.AM.YtpjenobkibfpcaaGreat
open Go.AM Go.Proofs
mutual
theorem massE_turn : ∀ (e : Edit), massE (turnE e) = massE e
  | .mk k o n w ks l os => by
    have h1 := massKs_turn ks
    have h2 := massOs_turn os
    simp only [turnE, massE, List.length_map, turnOs_len, h1, h2]
    omega
theorem massKs_turn : ∀ (ks : List (KidOf Edit)), massKs (turnKs ks) = massKs ks
  | [] => rfl
  | k :: r => by
    have h1 := massKid_turn k
    have h2 := massKs_turn r
    simp only [turnKs, massKs, h1, h2]
theorem massKid_turn : ∀ (k : KidOf Edit), massKid (turnKid k) = massKid k
  | ⟨a, e⟩ => by
    have h := massE_turn e
    simp only [turnKid, massKid, h]
theorem massOs_turn : ∀ (os : List (OpOf Edit)), massOs (turnOs os) = massOs os
  | [] => rfl
  | o :: r => by
    have h1 := massOp_turn o
    have h2 := massOs_turn r
    simp only [turnOs, massOs, h1, h2]
theorem massOp_turn : ∀ (o : OpOf Edit), massOp (turnOp o) = massOp o
  | ⟨k, n, l, e⟩ => by
    have h := massE_turn e
    simp only [turnOp]
    split
    · rfl
    · split
      · rfl
      · split
        · simp only [massOp, h]
        · rfl
end
theorem c85 : Contract Tryz.prog cfg 85 spec85 := by
  refine make85 c67_76.1 c131_110.1 ?_
  intro e _ hp
  simp only [pre85] at hp
  obtain ⟨hm, d, hr⟩ := hp
  refine vc85 _ _ ?_
  rintro y1 hy1 y2 hy2
  subst hy1
  have h1 := massE_turn y1
  have h2 := rightE_turn _ _ hr
  rw [← hy2] at h1 h2
  refine ⟨by simp only [pre131]; omega, by simp only [pre67]; exact ⟨by omega, d, h2⟩, ?_⟩
  simp only [res85]
  rw [← hy2]
  (repeat' (first | exact trivial | exact rfl | apply And.intro))
end Go.AM.YtpjenobkibfpcaaGreat

namespace Go.AM.YtpjenobkibfpcaaGreat
open Go.AM Go.Proofs
theorem reOk_mass {e : Edit} (h : reOk e) : massE e ≤ 9000000000 := Nat.le_trans (mass_ct e) h.1
theorem turn_ok {e : Edit} (h : reOk e) : pre85 (e, ()) ∧ reOk (nrmE (turnE e)) := by
  have hm := reOk_mass h
  obtain ⟨m, r, d, hr⟩ := h
  refine ⟨⟨by dsimp only; omega, d, hr⟩, ?_, ?_, d, rightE_nrm _ _ (rightE_turn _ _ hr)⟩
  · have := ct_nrm (turnE e)
    rw [ct_turn] at this
    omega
  · exact rngE_nrm' _ d (rightE_turn _ _ hr) (rngE_turn e r)
end Go.AM.YtpjenobkibfpcaaGreat

namespace Go.AM
def badAt (list : Int) : List Tree → Int → Int
  | [], _ => -1
  | t :: r, i => if rightT (Tree.mk list [] [t]) 64 = true then badAt list r (i + 1) else i
theorem badAt_iff (list : Int) : ∀ (l : List Tree) (i : Int), 0 ≤ i → (0 ≤ badAt list l i ↔ treesOk list l = false)
  | [], i, _ => by simp [badAt, treesOk]
  | t :: r, i, hi => by
    have ih := badAt_iff list r (i + 1) (by omega)
    rw [badAt, treesOk]
    by_cases h : rightT (Tree.mk list [] [t]) 64 = true
    · rw [if_pos h, h, Bool.true_and]; exact ih
    · rw [if_neg h]
      simp only [Bool.not_eq_true] at h
      rw [h, Bool.false_and]
      exact ⟨fun _ => rfl, fun _ => hi⟩
end Go.AM

namespace Go.AM.YtpjenobkibfpcaaGreat
open Go.AM Go.Proofs
noncomputable section
def args217 : ArgM (Tree × (Int × Unit) × Unit) := (.cons (aEl .tree) (.obj 0 (.cons (cInt .i64) .nil) .nil))
def pre217 (a : Tree × (Int × Unit) × Unit) : Prop := mass a.1 ≤ 18000000000 ∧ rng a.1 ∧ isI a.2.1.1
noncomputable def res217 (a : Tree × (Int × Unit) × Unit) : V U := .c (.bool (!(rightT (Tree.mk a.2.1.1 [] [a.1]) 64)))
noncomputable def resX217 (a : Tree × (Int × Unit) × Unit) : List (List (C U)) := [[.int .i64 a.2.1.1]]
noncomputable def spec217 : Fs U := fsX args217 (fun a => [pre217 a]) res217 resX217
def args231 : ArgM (List Tree × (Int × Unit) × Unit) := (.cons (aSl .tree) (.clo 217 0 (.cons (cInt .i64) .nil) .nil))
def pre231 (a : List Tree × (Int × Unit) × Unit) : Prop := massK a.1 ≤ 18000000000 ∧ rngK a.1 ∧ isI a.2.1.1
noncomputable def res231 (a : List Tree × (Int × Unit) × Unit) : V U := .c (.int .i64 (badAt a.2.1.1 a.1 0))
noncomputable def resX231 (a : List Tree × (Int × Unit) × Unit) : List (List (C U)) := [[.int .i64 a.2.1.1]]
noncomputable def spec231 : Fs U := fsX args231 (fun a => [pre231 a]) res231 resX231
def args216 : ArgM (List Tree × (Int × Unit) × Unit) := (.cons (aSl .tree) (.clo 217 0 (.cons (cInt .i64) .nil) .nil))
def pre216 (a : List Tree × (Int × Unit) × Unit) : Prop := massK a.1 ≤ 18000000000 ∧ rngK a.1 ∧ isI a.2.1.1
noncomputable def res216 (a : List Tree × (Int × Unit) × Unit) : V U := .c (.bool (!(treesOk a.2.1.1 a.1)))
noncomputable def resX216 (a : List Tree × (Int × Unit) × Unit) : List (List (C U)) := [[.int .i64 a.2.1.1]]
noncomputable def spec216 : Fs U := fsX args216 (fun a => [pre216 a]) res216 resX216
noncomputable def know217 : List (FuncId × Fs U) := [(218, spec218)]
def lv217 : Lives U := fun i => match i with
  | 0 => ([(1, []), (2, [])], [((.loc 2), []), ((.x 0), [])])
  | 1 => ([(3, [])], [((.x 0), [])])
  | _ => ([], [])
abbrev W217 (t : Tree) (list : Int) (Q : AExit → LSt U → Prop) := awp cfg (know know217) (drawOk cfg (know know217)) Tryz.f217.ntmps lv217 (cd Tryz.f217 []) (⟨[(0, .agg [.int .i64 (Tree.kind t), .slice (U := U) .u64 (Tree.words t) .unk, .slice (U := U) .tree (Tree.kids t) .unk]), (1, .ptr (.x 0) 0)], [((.x 0), [.int .i64 list])], []⟩ : LSt U) Q
theorem vc217 (t : Tree) (list : Int) (Q : AExit → LSt U → Prop) (h : (pre218 (list, (Tree.mk (Tree.kind t) (Tree.words t) (Tree.kids t)), ())) ∧ (Q .ret (⟨[(3, .c (.bool (!(rightT (Tree.mk list [] [(Tree.mk (Tree.kind t) (Tree.words t) (Tree.kids t))]) 64))))], [((.x 0), [.int .i64 list])], []⟩ : LSt U))) :
    W217 t list Q := by
  have e_ : (W217 t list Q) = (type_of% h) := by kernel_rfl
  exact e_.mpr ⟨h.1, h.2⟩
def Body217 (t : Tree) (list : Int)  : Prop := awp cfg (know (know217)) (drawOk cfg (know (know217))) Tryz.f217.ntmps lv217 (cd Tryz.f217 []) (entry (args217.can (t, (list, ()), ())) (args217.canX (t, (list, ()), ()))) (EndsQ cfg Tryz.f217.ntmps Tryz.f217.results.toList (res217 (t, (list, ()), ())) (resX217 (t, (list, ()), ())))
theorem make217 (c218 : Contract Tryz.prog cfg 218 spec218) (hb : ∀ (t : Tree) (list : Int) (_ : Unit), pre217 (t, (list, ()), ()) → Body217 t list) : Contract Tryz.prog cfg 217 spec217 :=
  contractX_flat (l := [(218, spec218)]) cfgOk rfl (⟨c218, trivial⟩) lv217 Tryz.func217 rfl rfl 2 (fun _ => rfl) (by decide) (fun ⟨t, ⟨list, _⟩, _⟩ => hb t list ())
noncomputable def know231 : List (FuncId × Fs U) := [(217, spec217)]
def lv231 : Lives U := fun i => match i with
  | 0 => ([(0, []), (1, [])], [((.x 0), [])])
  | 1 => ([(0, []), (1, []), (7, []), (8, [])], [((.x 0), [])])
  | 2 => ([(0, []), (1, []), (7, []), (8, []), (9, [])], [((.x 0), [])])
  | 3 => ([(0, []), (1, []), (5, []), (7, []), (8, [])], [((.x 0), [])])
  | 4 => ([(0, []), (1, []), (5, []), (7, []), (8, []), (16, [])], [((.x 0), [])])
  | 5 => ([(4, [])], [((.x 0), [])])
  | 6 => ([(0, []), (1, []), (7, []), (8, [])], [((.x 0), [])])
  | 7 => ([(4, [])], [((.x 0), [])])
  | _ => ([], [])
def head231_0 (l : List Tree) (list : Int) (x8 : Int) : LSt U := (⟨[(0, .c (.slice (U := U) .tree l .unk)), (1, .clo 217 [(.x 0)]), (7, .c (.int .i64 (l.length : Int))), (8, .c (.int .i64 x8))], [((.x 0), [.int .i64 list])], []⟩ : LSt U)
abbrev W231 (l : List Tree) (list : Int) (Q : AExit → LSt U → Prop) := awp cfg (know know231) (drawOk cfg (know know231)) Tryz.f231.ntmps lv231 (cd Tryz.f231 []) (⟨[(0, .c (.slice (U := U) .tree l .unk)), (1, .clo 217 [(.x 0)])], [((.x 0), [.int .i64 list])], []⟩ : LSt U) Q
abbrev a231_ZKG20y := awp cfg (know know231) (drawOk cfg (know know231)) Tryz.f231.ntmps lv231
abbrev s231_ZKG20y := seqK cfg (know know231) (drawOk cfg (know know231)) Tryz.f231.ntmps lv231
theorem vc231 (l : List Tree) (list : Int) (Q : AExit → LSt U → Prop) (h : LoopWp (awp cfg (know know231) (drawOk cfg (know know231)) Tryz.f231.ntmps lv231 (cd Tryz.f231 [1, 0, 1, 0, 0])) (head231_0 l list 0) (AExit.inBlock 0 (seqK cfg (know know231) (drawOk cfg (know know231)) Tryz.f231.ntmps lv231 (cd Tryz.f231 [1, 1]) Q))) :
    W231 l list Q := by
  have e_ : (W231 l list Q) = (((LoopWp (a231_ZKG20y (cd Tryz.f231 [1, 0, 1, 0, 0])) (head231_0 l list 0) (AExit.inBlock 0 (s231_ZKG20y (cd Tryz.f231 [1, 1]) Q))))) := by kernel_rfl
  exact e_.mpr h
abbrev W231_l0 (l : List Tree) (list : Int) (x8 : Int) (N0 : LSt U → Prop) (Q : AExit → LSt U → Prop) := awp cfg (know know231) (drawOk cfg (know know231)) Tryz.f231.ntmps lv231 (cd Tryz.f231 [1, 0, 1, 0, 0]) (head231_0 l list x8) (AExit.then N0 (AExit.inBlock 0 (seqK cfg (know know231) (drawOk cfg (know know231)) Tryz.f231.ntmps lv231 (cd Tryz.f231 [1, 1]) Q)))
theorem vc231_l0 (l : List Tree) (list : Int) (x8 : Int) (N0 : LSt U → Prop) (Q : AExit → LSt U → Prop) (h : ((decide ((x8 : Int) < (l.length : Int))) = true → ((0 : Int) ≤ x8 ∧ x8 < (l.length : Int)) ∧ (pre217 ((Tree.mk (Tree.kind (List.getD l (Int.toNat x8) Tree.nil)) (Tree.words (List.getD l (Int.toNat x8) Tree.nil)) (Tree.kids (List.getD l (Int.toNat x8) Tree.nil))), (list, ()), ())) ∧ (((!(rightT (Tree.mk list [] [(Tree.mk (Tree.kind (List.getD l (Int.toNat x8) Tree.nil)) (Tree.words (List.getD l (Int.toNat x8) Tree.nil)) (Tree.kids (List.getD l (Int.toNat x8) Tree.nil)))]) 64)) = true → Q .ret (⟨[(4, .c (.int .i64 x8))], [((.x 0), [.int .i64 list])], []⟩ : LSt U)) ∧ ((!(rightT (Tree.mk list [] [(Tree.mk (Tree.kind (List.getD l (Int.toNat x8) Tree.nil)) (Tree.words (List.getD l (Int.toNat x8) Tree.nil)) (Tree.kids (List.getD l (Int.toNat x8) Tree.nil)))]) 64)) = false → (InR ((x8 : Int) + 1)) ∧ (N0 (head231_0 l list ((x8 : Int) + 1)))))) ∧ ((decide ((x8 : Int) < (l.length : Int))) = false → Q .ret (⟨[(4, .c (.int .i64 (-1)))], [((.x 0), [.int .i64 list])], []⟩ : LSt U))) :
    W231_l0 l list x8 N0 Q := by
  have e_ : (W231_l0 l list x8 N0 Q) = (let zz0 := (!(rightT (Tree.mk list [] [(Tree.mk (Tree.kind (List.getD l (Int.toNat x8) Tree.nil)) (Tree.words (List.getD l (Int.toNat x8) Tree.nil)) (Tree.kids (List.getD l (Int.toNat x8) Tree.nil)))]) 64)); (((decide ((x8 : Int) < (l.length : Int))) = true → (((0 : Int) ≤ x8 ∧ x8 < (l.length : Int)) ∧ (pre217 ((Tree.mk (Tree.kind (List.getD l (Int.toNat x8) Tree.nil)) (Tree.words (List.getD l (Int.toNat x8) Tree.nil)) (Tree.kids (List.getD l (Int.toNat x8) Tree.nil))), (list, ()), ())) ∧ ((zz0 = true → (Q .ret (⟨[(4, .c (.int .i64 x8))], [((.x 0), [.int .i64 list])], []⟩ : LSt U))) ∧ (zz0 = false → (InR ((x8 : Int) + 1)) ∧ (N0 (head231_0 l list ((x8 : Int) + 1))))))) ∧ ((decide ((x8 : Int) < (l.length : Int))) = false → (Q .ret (⟨[(4, .c (.int .i64 (-1)))], [((.x 0), [.int .i64 list])], []⟩ : LSt U))))) := by kernel_rfl
  exact e_.mpr ⟨fun c_1 => ⟨(h.1 c_1).1, (h.1 c_1).2.1, ⟨fun c_2 => ((h.1 c_1).2.2.1 c_2), fun c_2 => ⟨((h.1 c_1).2.2.2 c_2).1, ((h.1 c_1).2.2.2 c_2).2⟩⟩⟩, fun c_1 => (h.2 c_1)⟩
def Body231 (l : List Tree) (list : Int)  : Prop := awp cfg (know (know231)) (drawOk cfg (know (know231))) Tryz.f231.ntmps lv231 (cd Tryz.f231 []) (entry (args231.can (l, (list, ()), ())) (args231.canX (l, (list, ()), ()))) (EndsQ cfg Tryz.f231.ntmps Tryz.f231.results.toList (res231 (l, (list, ()), ())) (resX231 (l, (list, ()), ())))
theorem make231 (c217 : Contract Tryz.prog cfg 217 spec217) (hb : ∀ (l : List Tree) (list : Int) (_ : Unit), pre231 (l, (list, ()), ()) → Body231 l list) : Contract Tryz.prog cfg 231 spec231 :=
  contractX_flat (l := [(217, spec217)]) cfgOk rfl (⟨c217, trivial⟩) lv231 Tryz.func231 rfl rfl 2 (fun _ => rfl) (by decide) (fun ⟨l, ⟨list, _⟩, _⟩ => hb l list ())
noncomputable def know216 : List (FuncId × Fs U) := [(231, spec231)]
def lv216 : Lives U := fun i => match i with
  | 0 => ([(0, []), (1, [])], [((.x 0), [])])
  | 1 => ([(4, [])], [((.x 0), [])])
  | _ => ([], [])
abbrev W216 (l : List Tree) (list : Int) (Q : AExit → LSt U → Prop) := awp cfg (know know216) (drawOk cfg (know know216)) Tryz.f216.ntmps lv216 (cd Tryz.f216 []) (⟨[(0, .c (.slice (U := U) .tree l .unk)), (1, .clo 217 [(.x 0)])], [((.x 0), [.int .i64 list])], []⟩ : LSt U) Q
theorem vc216 (l : List Tree) (list : Int) (Q : AExit → LSt U → Prop) (h : (pre231 (l, (list, ()), ())) ∧ (Q .ret (⟨[(4, .c (.bool (decide ((0 : Int) ≤ (badAt list l 0)))))], [((.x 0), [.int .i64 list])], []⟩ : LSt U))) :
    W216 l list Q := by
  have e_ : (W216 l list Q) = (type_of% h) := by kernel_rfl
  exact e_.mpr ⟨h.1, h.2⟩
def Body216 (l : List Tree) (list : Int)  : Prop := awp cfg (know (know216)) (drawOk cfg (know (know216))) Tryz.f216.ntmps lv216 (cd Tryz.f216 []) (entry (args216.can (l, (list, ()), ())) (args216.canX (l, (list, ()), ()))) (EndsQ cfg Tryz.f216.ntmps Tryz.f216.results.toList (res216 (l, (list, ()), ())) (resX216 (l, (list, ()), ())))
theorem make216 (c231 : Contract Tryz.prog cfg 231 spec231) (hb : ∀ (l : List Tree) (list : Int) (_ : Unit), pre216 (l, (list, ()), ()) → Body216 l list) : Contract Tryz.prog cfg 216 spec216 :=
  contractX_flat (l := [(231, spec231)]) cfgOk rfl (⟨c231, trivial⟩) lv216 Tryz.func216 rfl rfl 2 (fun _ => rfl) (by decide) (fun ⟨l, ⟨list, _⟩, _⟩ => hb l list ())
end
end Go.AM.YtpjenobkibfpcaaGreat

namespace Go.AM.YtpjenobkibfpcaaGreat
open Go.AM Go.Proofs
theorem c217 : Contract Tryz.prog cfg 217 spec217 := by
  refine make217 c218 ?_
  intro t list _ hp
  simp only [pre217] at hp
  refine vc217 _ _ _ ?_
  (simp only [Tree.eta, Edit.eta, Tree.kind_mk, Tree.words_mk, Tree.kids_mk])
  refine ⟨by simp only [pre218]; exact hp, ?_⟩
  simp only [res217, resX217]
  (repeat' (first | exact trivial | exact rfl | apply And.intro))
theorem badAt_drop {list : Int} {l : List Tree} : ∀ (i : Nat), (∀ t ∈ l.take i, rightT (Tree.mk list [] [t]) 64 = true) → i ≤ l.length → badAt list l 0 = badAt list (l.drop i) i
  | 0, _, _ => by simp
  | i + 1, h, hi => by
    have ih := badAt_drop i (fun t ht => h t (by rw [List.take_add_one]; exact List.mem_append.2 (Or.inl ht))) (by omega)
    rw [ih]
    have e : l.drop i = l.getD i Tree.nil :: l.drop (i + 1) := by
      have := dropI (l := l) (i := (i : Int)) (by omega) (by omega) Tree.nil
      simpa using this
    have hm : l.getD i Tree.nil ∈ l.take (i + 1) := by
      rw [List.mem_take_iff_getElem]
      exact ⟨i, by omega, by simp [List.getD, List.getElem?_eq_getElem (show i < l.length by omega)]⟩
    rw [e, badAt, if_pos (h _ hm)]
    simp
theorem c231 : Contract Tryz.prog cfg 231 spec231 := by
  refine make231 c217 ?_
  intro l list _ hp
  simp only [pre231] at hp
  refine vc231 _ _ _ ?_
  refine loop_rule (ι := Int) (fun s => head231_0 l list s) (fun s => 0 ≤ s ∧ s ≤ l.length ∧ ∀ t ∈ l.take s.toNat, rightT (Tree.mk list [] [t]) 64 = true) (fun s => ((l.length : Int) - s).toNat) 0 rfl ⟨by simp, by simp, by simp⟩ ?_
  rintro i ⟨g1, g2, g3⟩
  have hb := badAt_drop (list := list) (l := l) i.toNat g3 (by omega)
  have hl := massK_len l
  refine vc231_l0 _ _ _ _ _ ?_
  (simp only [vcS])
  (simp only [Tree.eta, Edit.eta, Tree.kind_mk, Tree.words_mk, Tree.kids_mk])
  refine ⟨fun hi => ⟨⟨g1, hi⟩, ?_, fun hc => ?_, fun hc => ?_⟩, fun hi => ?_⟩
  · have hm := mem_getD (l := l) (i := i.toNat) (by omega) Tree.nil
    simp only [pre217]
    have h1 := massK_mem hm
    exact ⟨by omega, rngK_mem hp.2.1 hm, hp.2.2⟩
  · rw [dropI g1 hi Tree.nil, badAt, if_neg (by rw [hc]; decide)] at hb
    simp only [res231, resX231]
    rw [hb, show ((i.toNat : Nat) : Int) = i by omega]
    (repeat' (first | exact trivial | exact rfl | apply And.intro))
  · refine ⟨by unfold InR; omega, i + 1, rfl, ⟨by omega, by omega, fun t ht => ?_⟩, by omega⟩
    rw [show (i + 1).toNat = i.toNat + 1 by omega, List.take_add_one] at ht
    rcases List.mem_append.1 ht with ht | ht
    · exact g3 t ht
    · have e : l[i.toNat]? = some (l.getD i.toNat Tree.nil) := by
        simp [List.getD, List.getElem?_eq_getElem (show i.toNat < l.length by omega)]
      rw [e] at ht
      simp only [Option.toList_some, List.mem_singleton] at ht
      subst ht
      exact hc
  · rw [List.drop_of_length_le (by omega)] at hb
    simp only [res231, resX231]
    rw [hb, badAt]
    (repeat' (first | exact trivial | exact rfl | apply And.intro))
theorem c216 : Contract Tryz.prog cfg 216 spec216 := by
  refine make216 c231 ?_
  intro l list _ hp
  simp only [pre216] at hp
  refine vc216 _ _ _ ?_
  have hb := badAt_iff list l 0 (by decide)
  refine ⟨by simp only [pre231]; exact hp, ?_⟩
  have e : decide (0 ≤ badAt list l 0) = !(treesOk list l) := by
    rw [Bool.eq_iff_iff, decide_eq_true_eq, hb]
    cases treesOk list l <;> simp
  simp only [res216, resX216]
  rw [e]
  (repeat' (first | exact trivial | exact rfl | apply And.intro))
end Go.AM.YtpjenobkibfpcaaGreat

namespace Go.AM.YtpjenobkibfpcaaGreat
open Go.AM Go.Proofs
abbrev TrZKG20f (p : Prop) : Prop := p → p
def args178 : ArgL (Tree × Unit) := (.cons (aEl .tree) .nil)
def pre178 (a : Tree × Unit) : Prop := mass a.1 ≤ 20000000000
noncomputable def res178 (a : Tree × Unit) : V U := .c (.bool (noneT a.1))
noncomputable def spec178 : Fs U := fs args178 (fun a => [pre178 a]) res178
def args121 : ArgL (Edit × Unit) := (.cons (aEl .edit) .nil)
def pre121 (a : Edit × Unit) : Prop := massE a.1 ≤ 20000000000
noncomputable def res121 (a : Edit × Unit) : V U := .c (.bool (bareE a.1))
noncomputable def spec121 : Fs U := fs args121 (fun a => [pre121 a]) res121
noncomputable def know178 : List (FuncId × Fs U) := []
def lv178 : Lives U := fun i => match i with
  | 0 => ([(1, [])], [((.loc 1), [])])
  | 1 => ([(2, [])], [])
  | _ => ([], [])
abbrev W178 (t : Tree) (Q : AExit → LSt U → Prop) := awp cfg (know know178) (drawOk cfg (know know178)) Tryz.f178.ntmps lv178 (cd Tryz.f178 []) (⟨[(0, .agg [.int .i64 (Tree.kind t), .slice (U := U) .u64 (Tree.words t) .unk, .slice (U := U) .tree (Tree.kids t) .unk])], [], []⟩ : LSt U) Q
theorem vc178 (t : Tree) (Q : AExit → LSt U → Prop) (h : ((((Tree.kind t) : Int) == 0) = true → InR ((((Tree.words t).length : Int) : Int) + ((Tree.kids t).length : Int))) ∧ (Q .ret (⟨[(2, .c (.bool (bif (((Tree.kind t) : Int) == 0) then ((((((Tree.words t).length : Int) : Int) + ((Tree.kids t).length : Int)) : Int) == 0) else false)))], [], []⟩ : LSt U))) :
    W178 t Q := by
  have e_ : (W178 t Q) = (((TrZKG20f (((Tree.kind t) == 0) = true)) ∧ (TrZKG20f (((Tree.kind t) == 0) = true)) ∧ (TrZKG20f (((Tree.kind t) == 0) = true)) ∧ (TrZKG20f (((Tree.kind t) == 0) = true)) ∧ (TrZKG20f (((Tree.kind t) == 0) = true)) ∧ (TrZKG20f (((Tree.kind t) == 0) = true)) ∧ (((Tree.kind t) == 0) = true → InR (((Tree.words t).length : Int) + ((Tree.kids t).length : Int))) ∧ (TrZKG20f (((Tree.kind t) == 0) = true)) ∧ ((TrZKG20f (((Tree.kind t) == 0) = true))) ∧ (Q .ret (⟨[(2, .c (.bool (bif ((Tree.kind t) == 0) then (((((Tree.words t).length : Int) + ((Tree.kids t).length : Int)) : Int) == 0) else false)))], [], []⟩ : LSt U)))) := by kernel_rfl
  exact e_.mpr ⟨id, id, id, id, id, id, h.1, id, (by generalize (((Tree.kind t) : Int) == 0) = b0; revert b0; decide), h.2⟩
def Body178 (t : Tree)  : Prop := awp cfg (know (know178)) (drawOk cfg (know (know178))) Tryz.f178.ntmps lv178 (cd Tryz.f178 []) (entry (args178.can (t, ())) []) (EndsQ cfg Tryz.f178.ntmps Tryz.f178.results.toList (res178 (t, ())) [])
theorem make178 (hb : ∀ (t : Tree) (_ : Unit), pre178 (t, ()) → Body178 t) : Contract Tryz.prog cfg 178 spec178 :=
  contract_flat (l := []) cfgOk rfl (trivial) lv178 Tryz.func178 rfl rfl 1 (fun _ => rfl) (by decide) (fun ⟨t, _⟩ => hb t ())
noncomputable def know121 : List (FuncId × Fs U) := [(178, spec178)]
def lv121 : Lives U := fun i => match i with
  | 0 => ([(1, [])], [((.loc 1), [])])
  | 1 => ([(1, []), (3, [])], [((.loc 1), [])])
  | 2 => ([(1, []), (4, [])], [((.loc 1), [])])
  | 3 => ([(2, [])], [])
  | 4 => ([(1, []), (21, [])], [((.loc 1), [])])
  | 5 => ([(2, [])], [])
  | 6 => ([(2, [])], [])
  | _ => ([], [])
abbrev W121 (e : Edit) (Q : AExit → LSt U → Prop) := awp cfg (know know121) (drawOk cfg (know know121)) Tryz.f121.ntmps lv121 (cd Tryz.f121 []) (⟨[(0, .agg [.int .i64 (Edit.kind e), .int .i64 (Tree.kind (Edit.old e)), .slice (U := U) .u64 (Tree.words (Edit.old e)) .unk, .slice (U := U) .tree (Tree.kids (Edit.old e)) .unk, .int .i64 (Tree.kind (Edit.new e)), .slice (U := U) .u64 (Tree.words (Edit.new e)) .unk, .slice (U := U) .tree (Tree.kids (Edit.new e)) .unk, .slice (U := U) .wedit (Edit.words e) .unk, .slice (U := U) .kid (Edit.kids e) .unk, .int .i64 (Edit.list e), .slice (U := U) .op (Edit.ops e) .unk])], [], []⟩ : LSt U) Q
theorem vc121 (e : Edit) (Q : AExit → LSt U → Prop) (h : ∀ y_1, y_1 = ((Edit.new e)) → ∀ y_2, y_2 = ((Edit.old e)) → ((((Edit.kind e) : Int) != 1) = true → pre178 (y_2, ())) ∧ (((((Edit.kind e) : Int) != 1) && (noneT y_2)) = true → pre178 (y_1, ())) ∧ (((bif (((Edit.kind e) : Int) != 1) then (!(bif (noneT y_2) then (noneT y_1) else false)) else false) = true → Q .ret (⟨[(2, .c (.bool false))], [], []⟩ : LSt U)) ∧ ((bif (((Edit.kind e) : Int) != 1) then (!(bif (noneT y_2) then (noneT y_1) else false)) else false) = false → ((((Edit.kind e) : Int) != 2) = true → InR ((((Edit.words e).length : Int) : Int) + ((Edit.kids e).length : Int))) ∧ (((bif (((Edit.kind e) : Int) != 2) then (decide ((0 : Int) < ((((Edit.words e).length : Int) : Int) + ((Edit.kids e).length : Int)))) else false) = true → Q .ret (⟨[(2, .c (.bool false))], [], []⟩ : LSt U)) ∧ ((bif (((Edit.kind e) : Int) != 2) then (decide ((0 : Int) < ((((Edit.words e).length : Int) : Int) + ((Edit.kids e).length : Int)))) else false) = false → Q .ret (⟨[(2, .c (.bool (bif (((Edit.kind e) : Int) == 3) then true else (bif (((Edit.list e) : Int) == 0) then ((((Edit.ops e).length : Int) : Int) == 0) else false))))], [], []⟩ : LSt U)))))) :
    W121 e Q := by
  have e_ : (W121 e Q) = (let y_1 := (reTree (Edit.new e)); let y_2 := (reTree (Edit.old e)); let zz2 := (bif ((Edit.kind e) != 1) then (!(bif (noneT y_2) then (noneT y_1) else false)) else false); let zz1 := (bif ((Edit.kind e) != 2) then (decide ((0 : Int) < (((Edit.words e).length : Int) + ((Edit.kids e).length : Int)))) else false); let zz0 := (!((Edit.kind e) == 3)); (((TrZKG20f (((Edit.kind e) != 1) = true)) ∧ (TrZKG20f (((Edit.kind e) != 1) = true)) ∧ (TrZKG20f (((Edit.kind e) != 1) = true)) ∧ (((Edit.kind e) != 1) = true → pre178 (y_2, ())) ∧ (TrZKG20f (((Edit.kind e) != 1) = true)) ∧ (TrZKG20f ((((Edit.kind e) != 1) && (noneT y_2)) = true)) ∧ (TrZKG20f ((((Edit.kind e) != 1) && (noneT y_2)) = true)) ∧ (TrZKG20f ((((Edit.kind e) != 1) && (noneT y_2)) = true)) ∧ ((((Edit.kind e) != 1) && (noneT y_2)) = true → pre178 (y_1, ())) ∧ (((Edit.kind e) != 1) = true → (True → ((Edit.kind e) != 1) = true)) ∧ (((Edit.kind e) != 1) = true → ((noneT y_2) = true → (((Edit.kind e) != 1) && (noneT y_2)) = true)) ∧ (TrZKG20f (((Edit.kind e) != 1) = true)) ∧ ((TrZKG20f (((Edit.kind e) != 1) = true))) ∧ ((zz2 = true → (Q .ret (⟨[(2, .c (.bool false))], [], []⟩ : LSt U))) ∧ (zz2 = false → (TrZKG20f (((Edit.kind e) != 2) = true)) ∧ (TrZKG20f (((Edit.kind e) != 2) = true)) ∧ (TrZKG20f (((Edit.kind e) != 2) = true)) ∧ (TrZKG20f (((Edit.kind e) != 2) = true)) ∧ (TrZKG20f (((Edit.kind e) != 2) = true)) ∧ (TrZKG20f (((Edit.kind e) != 2) = true)) ∧ (((Edit.kind e) != 2) = true → InR (((Edit.words e).length : Int) + ((Edit.kids e).length : Int))) ∧ (TrZKG20f (((Edit.kind e) != 2) = true)) ∧ ((TrZKG20f (((Edit.kind e) != 2) = true))) ∧ ((zz1 = true → (Q .ret (⟨[(2, .c (.bool false))], [], []⟩ : LSt U))) ∧ (zz1 = false → (TrZKG20f (zz0 = true)) ∧ (TrZKG20f (zz0 = true)) ∧ (TrZKG20f (zz0 = true)) ∧ (TrZKG20f ((zz0 && ((Edit.list e) == 0)) = true)) ∧ (TrZKG20f ((zz0 && ((Edit.list e) == 0)) = true)) ∧ (TrZKG20f ((zz0 && ((Edit.list e) == 0)) = true)) ∧ (zz0 = true → (True → zz0 = true)) ∧ (zz0 = true → (((Edit.list e) == 0) = true → (zz0 && ((Edit.list e) == 0)) = true)) ∧ ((((Edit.kind e) == 3) = false → zz0 = true)) ∧ (Q .ret (⟨[(2, .c (.bool (bif ((Edit.kind e) == 3) then true else (bif ((Edit.list e) == 0) then (((Edit.ops e).length : Int) == 0) else false))))], [], []⟩ : LSt U))))))))) := by kernel_rfl
  exact e_.mpr (by intro y_1 y_2; have hh := h y_1 (reTree_eq _) y_2 (reTree_eq _); exact ⟨id, id, id, hh.1, id, id, id, id, hh.2.1, (by generalize (((Edit.kind e) : Int) != 1) = b0; revert b0; decide), (by generalize (noneT y_2) = b0; generalize (((Edit.kind e) : Int) != 1) = b1; revert b0 b1; decide), id, (by generalize (((Edit.kind e) : Int) != 1) = b0; revert b0; decide), ⟨fun c_1 => (hh.2.2.1 c_1), fun c_1 => ⟨id, id, id, id, id, id, (hh.2.2.2 c_1).1, id, (by generalize (((Edit.kind e) : Int) != 2) = b0; revert b0; decide), ⟨fun c_2 => ((hh.2.2.2 c_1).2.1 c_2), fun c_2 => ⟨id, id, id, id, id, id, (by generalize (((Edit.kind e) : Int) == 3) = b0; revert b0; decide), (by generalize (((Edit.kind e) : Int) == 3) = b0; generalize (((Edit.list e) : Int) == 0) = b1; revert b0 b1; decide), (by generalize (((Edit.kind e) : Int) == 3) = b0; revert b0; decide), ((hh.2.2.2 c_1).2.2 c_2)⟩⟩⟩⟩⟩)
def Body121 (e : Edit)  : Prop := awp cfg (know (know121)) (drawOk cfg (know (know121))) Tryz.f121.ntmps lv121 (cd Tryz.f121 []) (entry (args121.can (e, ())) []) (EndsQ cfg Tryz.f121.ntmps Tryz.f121.results.toList (res121 (e, ())) [])
theorem make121 (c178 : Contract Tryz.prog cfg 178 spec178) (hb : ∀ (e : Edit) (_ : Unit), pre121 (e, ()) → Body121 e) : Contract Tryz.prog cfg 121 spec121 :=
  contract_flat (l := [(178, spec178)]) cfgOk rfl (⟨c178, trivial⟩) lv121 Tryz.func121 rfl rfl 1 (fun _ => rfl) (by decide) (fun ⟨e, _⟩ => hb e ())
end Go.AM.YtpjenobkibfpcaaGreat

namespace Go.AM.YtpjenobkibfpcaaGreat
open Go.AM Go.Proofs
theorem c178 : Contract Tryz.prog cfg 178 spec178 := by
  refine make178 ?_
  intro t _ hp
  simp only [pre178] at hp
  have := len_mass t
  refine vc178 t _ ?_
  refine ⟨fun _ => by unfold InR; omega, ends_bool rfl ?_⟩
  rw [Bool.eq_iff_iff]
  simp only [noneT]
  (simp only [vcS])
  omega
theorem c121 : Contract Tryz.prog cfg 121 spec121 := by
  refine make121 c178 ?_
  intro e _ hp
  simp only [pre121] at hp
  have h1 := len_massE e
  have h2 := massKs_len e.kids
  refine vc121 e _ ?_
  rintro y1 rfl y2 rfl
  (simp only [vcS])
  refine ⟨fun _ => by simp only [pre178]; omega, fun _ => by simp only [pre178]; omega, fun h => ?_, fun h => ⟨fun _ => by unfold InR; omega, fun h3 => ?_, fun h3 => ?_⟩⟩
  · refine ends_bool rfl ?_
    show false = bareE e
    unfold bareE
    rw [if_pos (Or.inl ⟨h.1, fun hn => by have := h.2; rw [hn.1, hn.2] at this; revert this; decide⟩)]
  · refine ends_bool rfl ?_
    show false = bareE e
    unfold bareE
    rw [if_pos (Or.inr (Or.inl ⟨h3.1, by omega⟩))]
  · refine ends_bool rfl ?_
    show _ = bareE e
    unfold bareE
    have g1 : ¬(e.kind ≠ 1 ∧ ¬(noneT e.old = true ∧ noneT e.new = true)) := by
      intro hc
      rcases h with h | h
      · exact hc.1 (by simpa using h)
      · exact hc.2 (by simpa using h)
    have g2 : ¬(e.kind ≠ 2 ∧ ¬(e.words.length = 0 ∧ e.kids.length = 0)) := by omega
    by_cases g3 : e.kind ≠ 3 ∧ (e.list ≠ 0 ∨ e.ops.length ≠ 0)
    · rw [if_pos (Or.inr (Or.inr g3)), Bool.eq_iff_iff]
      (simp only [vcS])
      constructor
      · intro h; omega
      · intro h; cases h
    · rw [if_neg (by rintro (x | x | x) <;> contradiction), Bool.eq_iff_iff]
      (simp only [vcS])
      constructor
      · intro _; first | trivial | rfl
      · intro _; omega
end Go.AM.YtpjenobkibfpcaaGreat
