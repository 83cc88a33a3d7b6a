import Derived.Test.YtpjenobkibfpcaaKG22c
import Derived.Test.YtpjenobkibfpcaaKP20
import Derived.Test.YtpjenobkibfpcaaCL25c
import Derived.Test.YtpjenobkibfpcaaKB20e
set_option linter.unusedSimpArgs false
set_option linter.unusedVariables false
namespace Go.AM.Ytpjenobkibfpcaa
open Go.AM Go.Proofs
theorem set_last {α : Type} (l : List α) (z x : α) : (l ++ [z]).set (Int.toNat (l.length : Int)) x = l ++ [x] := by
  rw [Int.toNat_natCast, List.set_append_right _ _ (Nat.le_refl _)]
  simp
theorem keepO_at : ∀ (F : List Op) (n : Int), keepO F n = if F.length ≠ 0 ∧ (F.getD (F.length - 1) Op.nil).kind = 0 then F.set (F.length - 1) ⟨(F.getD (F.length - 1) Op.nil).kind, (F.getD (F.length - 1) Op.nil).n + n, (F.getD (F.length - 1) Op.nil).l, (F.getD (F.length - 1) Op.nil).e⟩ else F ++ [⟨0, n, [], Edit.nil⟩]
  | [], n => by simp [keepO]
  | [o], n => by simp [keepO]
  | o :: p :: r, n => by
    have ih := keepO_at (p :: r) n
    have e : (o :: p :: r).length - 1 = ((p :: r).length - 1) + 1 := by simp
    rw [keepO, ih, e]
    simp only [List.getD_cons_succ, List.set_cons_succ]
    by_cases h : (p :: r).length ≠ 0 ∧ ((p :: r).getD ((p :: r).length - 1) Op.nil).kind = 0
    · rw [if_pos h, if_pos ⟨by simp, h.2⟩]
    · have h' : ¬ ((p :: r).getD ((p :: r).length - 1) Op.nil).kind = 0 := fun e => h ⟨by simp, e⟩
      rw [if_neg h, if_neg (fun e => h' e.2)]
      rfl
theorem flush_len (s : Wst) : (flushW s).out.length ≤ s.out.length + 2 := by
  simp only [flushW, flushO]
  split <;> split <;> simp
theorem flush_mem (s : Wst) : ∀ o ∈ (flushW s).out, o ∈ s.out ∨ o.n = 0 := by
  intro o ho
  simp only [flushW, flushO, List.mem_append] at ho
  rcases ho with h | h | h
  · exact .inl h
  · split at h
    · cases h
    · simp only [List.mem_singleton] at h; subst h; exact .inr rfl
  · split at h
    · cases h
    · simp only [List.mem_singleton] at h; subst h; exact .inr rfl
theorem c129 : Contract Try.prog cfg 129 spec129 := by
  refine make129 ?_
  intro wo wg wb _ hp
  simp only [pre129] at hp
  refine vc129 wo wg wb _ ?_
  rintro y1 hy1 y2 hy2
  have hy : y1 = Edit.nil := hy1
  subst hy
  rw [set_last] at hy2
  subst hy2
  (simp only [vcS])
  refine ⟨fun h1 => ⟨by simp; omega, by simp; omega, by omega, fun h2 => ⟨by simp; omega, by simp; omega, by omega, ?_⟩, fun h2 => ?_⟩, fun h1 => ⟨fun h2 => ⟨by simp; omega, by simp; omega, by omega, ?_⟩, fun h2 => ?_⟩⟩
  · rw [set_last]
    have e : flushW ⟨wo, wg, wb⟩ = ⟨wo ++ [⟨1, 0, wg, Edit.nil⟩] ++ [⟨2, 0, wb, Edit.nil⟩], [], []⟩ := by
      simp only [flushW, flushO]; rw [if_neg (by omega), if_neg (by omega)]; simp
    simp only [res129, resX129, resL129, e]
    (repeat' (first | exact trivial | exact rfl | apply And.intro))
  · have e : flushW ⟨wo, wg, wb⟩ = ⟨wo ++ [⟨1, 0, wg, Edit.nil⟩], [], []⟩ := by
      simp only [flushW, flushO]; rw [if_neg (by omega), if_pos (by omega)]; simp
    simp only [res129, resX129, resL129, e]
    (repeat' (first | exact trivial | exact rfl | apply And.intro))
  · rw [set_last]
    have e : flushW ⟨wo, wg, wb⟩ = ⟨wo ++ [⟨2, 0, wb, Edit.nil⟩], [], []⟩ := by
      simp only [flushW, flushO]; rw [if_pos (by omega), if_neg (by omega)]; simp
    simp only [res129, resX129, resL129, e]
    (repeat' (first | exact trivial | exact rfl | apply And.intro))
  · have e : flushW ⟨wo, wg, wb⟩ = ⟨wo, [], []⟩ := by
      simp only [flushW, flushO]; rw [if_pos (by omega), if_pos (by omega)]; simp
    simp only [res129, resX129, resL129, e]
    (repeat' (first | exact trivial | exact rfl | apply And.intro))
theorem c126 : Contract Try.prog cfg 126 spec126 := by
  refine make126 c129 ?_
  intro wo wg wb n _ hp
  simp only [pre126] at hp
  obtain ⟨p1, p2, p3, p4, p5, p6⟩ := hp
  have hfl := flush_len ⟨wo, wg, wb⟩
  have hfm := flush_mem ⟨wo, wg, wb⟩
  have hg : (flushW ⟨wo, wg, wb⟩).gone = [] := rfl
  have hb : (flushW ⟨wo, wg, wb⟩).brought = [] := rfl
  have hk := keepO_at (flushW ⟨wo, wg, wb⟩).out n
  have hkw : keepW ⟨wo, wg, wb⟩ n = ⟨keepO (flushW ⟨wo, wg, wb⟩).out n, [], []⟩ := rfl
  refine vc126 wo wg wb n _ ?_
  simp only [hg, hb, res126, resX126, resL126, hkw]
  generalize (flushW ⟨wo, wg, wb⟩).out = F at *
  simp only at hfl hfm
  rintro y1 hy1 y2 hy2 y3 hy3 y4 hy4
  have hy : y1 = Edit.nil := hy1
  subst hy
  have e2 : y2 = F.length - 1 := by omega
  subst e2
  rw [← hy3, ← hy4] at hk
  (simp only [vcS])
  refine ⟨by simp only [pre129]; exact ⟨p1, p2, p3⟩, by unfold InR; omega, fun h => ⟨h, by omega⟩, fun h => ?_, fun h => ?_⟩
  · have hy3n : 0 ≤ y3.n ∧ y3.n ≤ 100000000000000000 := by
      have hm : y3 ∈ F := by rw [hy3]; exact mem_getD (by omega) _
      rcases hfm y3 hm with h1 | h1
      · exact p4 y3 h1
      · omega
    rw [if_pos ⟨by omega, h.2⟩] at hk
    rw [hk]
    refine ⟨by omega, by unfold InR; omega, by omega, by omega, ?_⟩
    (repeat' (first | exact trivial | exact rfl | apply And.intro))
  · rw [if_neg (by omega)] at hk
    rw [hk, set_last]
    refine ⟨by simp; omega, by simp; omega, by omega, ?_⟩
    (repeat' (first | exact trivial | exact rfl | apply And.intro))
theorem c127 : Contract Try.prog cfg 127 spec127 := by
  refine make127 c71 ?_
  intro wo wg wb l _ hp
  simp only [pre127] at hp
  obtain ⟨p1, p2, p3, p4⟩ := hp
  have hl := massK_len l
  refine vc127 _ _ _ _ _ ?_
  refine loop_rule (ι := Int × List Tree) (fun s => head127_0 wo wg wb l s.1 s.2) (fun s => 0 ≤ s.1 ∧ s.1 ≤ l.length ∧ s.2.length = wg.length + s.1 ∧ s.2 ++ normsT (l.drop s.1.toNat) = wg ++ normsT l) (fun s => ((l.length : Int) - s.1).toNat) (0, wg) rfl ⟨by simp, by simp, by simp, by simp⟩ ?_
  rintro ⟨i, out⟩ ⟨h1, h2, h3, h4⟩
  dsimp only at h1 h2 h3 h4
  refine vc127_l0 _ _ _ _ _ _ _ _ ?_
  (simp only [vcS])
  (simp only [Tree.eta, Edit.eta, Tree.kind_mk, Tree.words_mk, Tree.kids_mk])
  refine ⟨fun hi => ?_, fun hi => ?_⟩
  · have hm := massK_mem (mem_getD (l := l) (i := i.toNat) (by omega) Tree.nil)
    rw [dropI h1 hi Tree.nil] at h4
    simp only [normsT, List.map_cons] at h4
    rw [set_last]
    refine ⟨⟨h1, hi⟩, by simp only [pre71]; omega, by simp; omega, by simp; omega, by omega, by unfold InR; omega, (i + 1, out ++ [normT (l.getD i.toNat Tree.nil)]), rfl, ⟨by dsimp only; omega, by dsimp only; omega, by simp; omega, ?_⟩, by dsimp only; omega⟩
    simp only [List.append_assoc, List.cons_append, List.nil_append]
    exact h4
  · rw [List.drop_of_length_le (by omega)] at h4
    simp only [normsT, List.map_nil, List.append_nil] at h4
    rw [h4]
    (repeat' (first | exact trivial | exact rfl | apply And.intro))
theorem c1127 : Contract Try.prog cfg 127 spec1127 := by
  refine make1127 c71 ?_
  intro wo wg wb l _ hp
  simp only [pre1127] at hp
  obtain ⟨p1, p2, p3, p4⟩ := hp
  have hl := massK_len l
  refine vc1127 _ _ _ _ _ ?_
  refine loop_rule (ι := Int × List Tree) (fun s => head1127_0 wo wg wb l s.1 s.2) (fun s => 0 ≤ s.1 ∧ s.1 ≤ l.length ∧ s.2.length = wb.length + s.1 ∧ s.2 ++ normsT (l.drop s.1.toNat) = wb ++ normsT l) (fun s => ((l.length : Int) - s.1).toNat) (0, wb) rfl ⟨by simp, by simp, by simp, by simp⟩ ?_
  rintro ⟨i, out⟩ ⟨h1, h2, h3, h4⟩
  dsimp only at h1 h2 h3 h4
  refine vc1127_l0 _ _ _ _ _ _ _ _ ?_
  (simp only [vcS])
  (simp only [Tree.eta, Edit.eta, Tree.kind_mk, Tree.words_mk, Tree.kids_mk])
  refine ⟨fun hi => ?_, fun hi => ?_⟩
  · have hm := massK_mem (mem_getD (l := l) (i := i.toNat) (by omega) Tree.nil)
    rw [dropI h1 hi Tree.nil] at h4
    simp only [normsT, List.map_cons] at h4
    rw [set_last]
    refine ⟨⟨h1, hi⟩, by simp only [pre71]; omega, by simp; omega, by simp; omega, by omega, by unfold InR; omega, (i + 1, out ++ [normT (l.getD i.toNat Tree.nil)]), rfl, ⟨by dsimp only; omega, by dsimp only; omega, by simp; omega, ?_⟩, by dsimp only; omega⟩
    simp only [List.append_assoc, List.cons_append, List.nil_append]
    exact h4
  · rw [List.drop_of_length_le (by omega)] at h4
    simp only [normsT, List.map_nil, List.append_nil] at h4
    rw [h4]
    (repeat' (first | exact trivial | exact rfl | apply And.intro))
theorem c1128 : Contract Try.prog cfg 128 spec1128 := by
  refine make1128 ?_
  intro list e _ hp
  simp only [pre1128] at hp
  refine vc1128 _ _ _ ?_
  refine ⟨fun _ => by unfold InR; dsimp only; omega, ends_bool rfl ?_⟩
  rw [Bool.eq_iff_iff]
  simp only [idleE]
  (simp only [vcS])
  omega
noncomputable def spec2127 : Fs U := fsOr spec127 spec1127
theorem c2127 : Contract Try.prog cfg 127 spec2127 := contract_or c127 c1127
end Go.AM.Ytpjenobkibfpcaa

namespace Go.AM.Ytpjenobkibfpcaa
open Go.AM Go.Proofs
noncomputable section
def args57 : ArgL (Edit × Unit) := (.cons (aEl .edit) .nil)
def pre57 (a : Edit × Unit) : Prop := massE a.1 ≤ 20000000000 ∧ ∃ d, rightE a.1 d = true
def mu57 (a : Edit × Unit) : Nat := 2 * massE a.1
noncomputable def res57 (a : Edit × Unit) : V U := .agg [.int .i64 (Edit.kind (nrmE a.1)), .int .i64 (Tree.kind (Edit.old (nrmE a.1))), .slice (U := U) .u64 (Tree.words (Edit.old (nrmE a.1))) .unk, .slice (U := U) .tree (Tree.kids (Edit.old (nrmE a.1))) .unk, .int .i64 (Tree.kind (Edit.new (nrmE a.1))), .slice (U := U) .u64 (Tree.words (Edit.new (nrmE a.1))) .unk, .slice (U := U) .tree (Tree.kids (Edit.new (nrmE a.1))) .unk, .slice (U := U) .wedit (Edit.words (nrmE a.1)) .unk, .slice (U := U) .kid (Edit.kids (nrmE a.1)) .unk, .int .i64 (Edit.list (nrmE a.1)), .slice (U := U) .op (Edit.ops (nrmE a.1)) .unk]
noncomputable def spec57 : Fs U := fs args57 (fun a => [pre57 a]) res57
def args94 : ArgL (Int × List Op × Unit) := (.cons (aInt .i64) (.cons (aSl .op) .nil))
def pre94 (a : Int × List Op × Unit) : Prop := massOs a.2.1 ≤ 20000000000 ∧ ∀ o ∈ a.2.1, ∃ d, rightOp a.1 o d = true
def mu94 (a : Int × List Op × Unit) : Nat := 2 * massOs a.2.1 + 1
noncomputable def res94 (a : Int × List Op × Unit) : V U := .c (.slice (U := U) .op ((flushW (nrmOs a.1 a.2.1 (Wst.mk [] [] []))).out) .unk)
noncomputable def spec94 : Fs U := fs args94 (fun a => [pre94 a]) res94
noncomputable def know57 (N : Nat) : List (FuncId × Fs U) := (57, fs args57 (fun a => [pre57 a, mu57 a < N]) res57) :: (94, fs args94 (fun a => [pre94 a, mu94 a < N]) res94) :: [(71, spec71), (128, spec1128), (126, spec126), (129, spec129), (127, spec2127)]
def lv57 : Lives U := fun i => match i with
  | 0 => ([(1, []), (2, [])], [((.loc 1), []), ((.loc 2), [])])
  | 1 => ([(1, []), (2, []), (3, [])], [((.loc 1), []), ((.loc 2), []), ((.loc 3), [])])
  | 2 => ([(1, []), (2, []), (3, []), (12, [])], [((.loc 1), []), ((.loc 2), []), ((.loc 3), [])])
  | 3 => ([(1, []), (2, []), (3, []), (12, []), (13, [])], [((.loc 1), []), ((.loc 2), []), ((.loc 3), [])])
  | 4 => ([(2, []), (3, [])], [((.loc 2), []), ((.loc 3), [])])
  | 5 => ([(1, []), (2, []), (3, []), (12, []), (23, [])], [((.loc 1), []), ((.loc 2), []), ((.loc 3), [])])
  | 6 => ([(1, []), (2, []), (3, [])], [((.loc 1), []), ((.loc 2), []), ((.loc 3), [])])
  | 7 => ([(2, []), (3, []), (32, []), (33, []), (34, [])], [((.loc 2), []), ((.loc 3), [.any, .any, .any, .any, .any, .any, .any, .any, .own .kid])])
  | 8 => ([(2, []), (3, []), (32, []), (33, []), (34, []), (35, [])], [((.loc 2), []), ((.loc 3), [])])
  | 9 => ([(2, []), (3, []), (5, []), (32, []), (33, []), (34, [])], [((.loc 2), []), ((.loc 3), []), ((.loc 5), [])])
  | 10 => ([(2, []), (3, []), (32, []), (33, []), (34, [])], [((.loc 2), []), ((.loc 3), [])])
  | 11 => ([(2, []), (3, []), (32, []), (33, []), (34, [])], [((.loc 2), []), ((.loc 3), [.any, .any, .any, .any, .any, .any, .any, .any, .own .kid])])
  | 12 => ([(1, []), (2, []), (3, []), (50, [])], [((.loc 1), []), ((.loc 2), []), ((.loc 3), [])])
  | 13 => ([(2, []), (3, [])], [((.loc 2), []), ((.loc 3), [])])
  | 14 => ([(2, [])], [((.loc 2), [])])
  | _ => ([], [])
def head57_0 (e : Edit) (x34 : Int) (ml3_8 : List Kid) : LSt U := (⟨[(2, .ptr (.loc 2) 0), (3, .ptr (.loc 3) 0), (32, .c (.slice (U := U) .kid (Edit.kids e) .unk)), (33, .c (.int .i64 ((Edit.kids e).length : Int))), (34, .c (.int .i64 x34))], [((.loc 2), [.int .i64 0, .int .i64 0, .nils, .nils, .int .i64 0, .nils, .nils, .nils, .nils, .int .i64 0, .nils]), ((.loc 3), [.int .i64 (Edit.kind e), .int .i64 0, .nils, .nils, .int .i64 0, .nils, .nils, .slice (U := U) .wedit (([] : List WEdit) ++ (Edit.words e)) (.own (.l 3 7)), .slice (U := U) .kid ml3_8 (.own (.l 3 8)), .int .i64 (Edit.list e), .nils])], []⟩ : LSt U)
abbrev W57 (N : Nat) (e : Edit) (Q : AExit → LSt U → Prop) := awp cfg (know (know57 N)) (drawOk cfg (know (know57 N))) Try.f57.ntmps lv57 (cd Try.f57 []) (⟨[(0, .agg [.int .i64 (Edit.kind e), .int .i64 (Tree.kind (Edit.old e)), .slice (U := U) .u64 (Tree.words (Edit.old e)) .unk, .slice (U := U) .tree (Tree.kids (Edit.old e)) .unk, .int .i64 (Tree.kind (Edit.new e)), .slice (U := U) .u64 (Tree.words (Edit.new e)) .unk, .slice (U := U) .tree (Tree.kids (Edit.new e)) .unk, .slice (U := U) .wedit (Edit.words e) .unk, .slice (U := U) .kid (Edit.kids e) .unk, .int .i64 (Edit.list e), .slice (U := U) .op (Edit.ops e) .unk])], [], []⟩ : LSt U) Q
abbrev a57_KG22d (N : Nat) := awp cfg (know (know57 N)) (drawOk cfg (know (know57 N))) Try.f57.ntmps lv57
abbrev s57_KG22d (N : Nat) := seqK cfg (know (know57 N)) (drawOk cfg (know (know57 N))) Try.f57.ntmps lv57
theorem vc57 (N : Nat) (e : Edit) (Q : AExit → LSt U → Prop) (h : ((((Edit.kind e) : Int) == 1) = true → (pre71 ((Tree.mk (Tree.kind (Edit.old e)) (Tree.words (Edit.old e)) (Tree.kids (Edit.old e))), ())) ∧ (pre71 ((Tree.mk (Tree.kind (Edit.new e)) (Tree.words (Edit.new e)) (Tree.kids (Edit.new e))), ())) ∧ (Q .ret (⟨[(2, .ptr (.loc 2) 0)], [((.loc 2), [.int .i64 (Edit.kind e), .int .i64 (Tree.kind (normT (Tree.mk (Tree.kind (Edit.old e)) (Tree.words (Edit.old e)) (Tree.kids (Edit.old e))))), .slice (U := U) .u64 (Tree.words (normT (Tree.mk (Tree.kind (Edit.old e)) (Tree.words (Edit.old e)) (Tree.kids (Edit.old e))))) .unk, .slice (U := U) .tree (Tree.kids (normT (Tree.mk (Tree.kind (Edit.old e)) (Tree.words (Edit.old e)) (Tree.kids (Edit.old e))))) .unk, .int .i64 (Tree.kind (normT (Tree.mk (Tree.kind (Edit.new e)) (Tree.words (Edit.new e)) (Tree.kids (Edit.new e))))), .slice (U := U) .u64 (Tree.words (normT (Tree.mk (Tree.kind (Edit.new e)) (Tree.words (Edit.new e)) (Tree.kids (Edit.new e))))) .unk, .slice (U := U) .tree (Tree.kids (normT (Tree.mk (Tree.kind (Edit.new e)) (Tree.words (Edit.new e)) (Tree.kids (Edit.new e))))) .unk, .nils, .nils, .int .i64 (Edit.list e), .nils])], []⟩ : LSt U))) ∧ ((((Edit.kind e) : Int) == 1) = false → ((((Edit.kind e) : Int) == 2) = true → ((([] : List WEdit).length + (Edit.words e).length) * 32 ≤ 140737488355328) ∧ (LoopWp (awp cfg (know (know57 N)) (drawOk cfg (know (know57 N))) Try.f57.ntmps lv57 (cd Try.f57 [1, 1, 0, 1, 0, 1, 1, 1, 0, 1, 1, 0, 0])) (head57_0 e 0 ([])) (AExit.inBlock 1 (AExit.inBlock 0 (seqK cfg (know (know57 N)) (drawOk cfg (know (know57 N))) Try.f57.ntmps lv57 (cd Try.f57 [1, 1, 1]) Q))))) ∧ ((((Edit.kind e) : Int) == 2) = false → ((((Edit.kind e) : Int) == 3) = true → (pre94 ((Edit.list e), (Edit.ops e), ())) ∧ (mu94 ((Edit.list e), (Edit.ops e), ()) < N) ∧ (Q .ret (⟨[(2, .ptr (.loc 2) 0)], [((.loc 2), [.int .i64 (Edit.kind e), .int .i64 0, .nils, .nils, .int .i64 0, .nils, .nils, .nils, .nils, .int .i64 (Edit.list e), .slice (U := U) .op ((flushW (nrmOs (Edit.list e) (Edit.ops e) (Wst.mk [] [] []))).out) .unk])], []⟩ : LSt U))) ∧ ((((Edit.kind e) : Int) == 3) = false → Q .ret (⟨[(2, .ptr (.loc 2) 0)], [((.loc 2), [.int .i64 (Edit.kind e), .int .i64 0, .nils, .nils, .int .i64 0, .nils, .nils, .nils, .nils, .int .i64 (Edit.list e), .nils])], []⟩ : LSt U))))) :
    W57 N e Q := by
  have e_ : (W57 N e Q) = ((((((((Edit.kind e) == 1) = true → (pre71 ((Tree.mk (Tree.kind (Edit.old e)) (Tree.words (Edit.old e)) (Tree.kids (Edit.old e))), ())) ∧ (pre71 ((Tree.mk (Tree.kind (Edit.new e)) (Tree.words (Edit.new e)) (Tree.kids (Edit.new e))), ())) ∧ ((Q .ret (⟨[(2, .ptr (.loc 2) 0)], [((.loc 2), [.int .i64 (Edit.kind e), .int .i64 (Tree.kind (normT (Tree.mk (Tree.kind (Edit.old e)) (Tree.words (Edit.old e)) (Tree.kids (Edit.old e))))), .slice (U := U) .u64 (Tree.words (normT (Tree.mk (Tree.kind (Edit.old e)) (Tree.words (Edit.old e)) (Tree.kids (Edit.old e))))) .unk, .slice (U := U) .tree (Tree.kids (normT (Tree.mk (Tree.kind (Edit.old e)) (Tree.words (Edit.old e)) (Tree.kids (Edit.old e))))) .unk, .int .i64 (Tree.kind (normT (Tree.mk (Tree.kind (Edit.new e)) (Tree.words (Edit.new e)) (Tree.kids (Edit.new e))))), .slice (U := U) .u64 (Tree.words (normT (Tree.mk (Tree.kind (Edit.new e)) (Tree.words (Edit.new e)) (Tree.kids (Edit.new e))))) .unk, .slice (U := U) .tree (Tree.kids (normT (Tree.mk (Tree.kind (Edit.new e)) (Tree.words (Edit.new e)) (Tree.kids (Edit.new e))))) .unk, .nils, .nils, .int .i64 (Edit.list e), .nils])], []⟩ : LSt U)))) ∧ (((Edit.kind e) == 1) = false → ((((Edit.kind e) == 2) = true → ((([] : List WEdit).length + (Edit.words e).length) * 32 ≤ 140737488355328) ∧ ((LoopWp (a57_KG22d N (cd Try.f57 [1, 1, 0, 1, 0, 1, 1, 1, 0, 1, 1, 0, 0])) (head57_0 e 0 ([])) (AExit.inBlock 1 (AExit.inBlock 0 (s57_KG22d N (cd Try.f57 [1, 1, 1]) Q)))))) ∧ (((Edit.kind e) == 2) = false → ((((Edit.kind e) == 3) = true → (pre94 ((Edit.list e), (Edit.ops e), ())) ∧ (mu94 ((Edit.list e), (Edit.ops e), ()) < N) ∧ ((Q .ret (⟨[(2, .ptr (.loc 2) 0)], [((.loc 2), [.int .i64 (Edit.kind e), .int .i64 0, .nils, .nils, .int .i64 0, .nils, .nils, .nils, .nils, .int .i64 (Edit.list e), .slice (U := U) .op ((flushW (nrmOs (Edit.list e) (Edit.ops e) (Wst.mk [] [] []))).out) .unk])], []⟩ : LSt U)))) ∧ (((Edit.kind e) == 3) = false → (Q .ret (⟨[(2, .ptr (.loc 2) 0)], [((.loc 2), [.int .i64 (Edit.kind e), .int .i64 0, .nils, .nils, .int .i64 0, .nils, .nils, .nils, .nils, .int .i64 (Edit.list e), .nils])], []⟩ : LSt U)))))))))))) := by kernel_rfl
  exact e_.mpr ⟨fun c_1 => ⟨(h.1 c_1).1, (h.1 c_1).2.1, (h.1 c_1).2.2⟩, fun c_1 => ⟨fun c_2 => ⟨((h.2 c_1).1 c_2).1, ((h.2 c_1).1 c_2).2⟩, fun c_2 => ⟨fun c_3 => ⟨(((h.2 c_1).2 c_2).1 c_3).1, (((h.2 c_1).2 c_2).1 c_3).2.1, (((h.2 c_1).2 c_2).1 c_3).2.2⟩, fun c_3 => (((h.2 c_1).2 c_2).2 c_3)⟩⟩⟩
abbrev W57_l0 (N : Nat) (e : Edit) (x34 : Int) (ml3_8 : List Kid) (N0 : LSt U → Prop) (Q : AExit → LSt U → Prop) := awp cfg (know (know57 N)) (drawOk cfg (know (know57 N))) Try.f57.ntmps lv57 (cd Try.f57 [1, 1, 0, 1, 0, 1, 1, 1, 0, 1, 1, 0, 0]) (head57_0 e x34 ml3_8) (AExit.then N0 (AExit.inBlock 1 (AExit.inBlock 0 (seqK cfg (know (know57 N)) (drawOk cfg (know (know57 N))) Try.f57.ntmps lv57 (cd Try.f57 [1, 1, 1]) Q))))
theorem vc57_l0 (N : Nat) (e : Edit) (x34 : Int) (ml3_8 : List Kid) (N0 : LSt U → Prop) (Q : AExit → LSt U → Prop) (h : ∀ y_1, y_1 = (List.getD (Edit.kids e) (Int.toNat x34) (KidOf.mk 0 Edit.nil)) → ∀ y_2, y_2 = ((KidOf.e y_1)) → ∀ y_3, y_3 = ((nrmE y_2)) → ((decide ((x34 : Int) < ((Edit.kids e).length : Int))) = true → ((0 : Int) ≤ x34 ∧ x34 < ((Edit.kids e).length : Int)) ∧ ((pre57 (y_2, ())) ∧ (mu57 (y_2, ()) < N) ∧ ((ml3_8.length + ([(KidOf.mk (KidOf.at_ y_1) y_3 : Kid)]).length) * 208 ≤ 140737488355328) ∧ ((InR ((x34 : Int) + 1)) ∧ (N0 (head57_0 e ((x34 : Int) + 1) (ml3_8 ++ ([(KidOf.mk (KidOf.at_ y_1) y_3 : Kid)]))))))) ∧ ((decide ((x34 : Int) < ((Edit.kids e).length : Int))) = false → Q .ret (⟨[(2, .ptr (.loc 2) 0)], [((.loc 2), [.int .i64 (Edit.kind e), .int .i64 0, .nils, .nils, .int .i64 0, .nils, .nils, .slice (U := U) .wedit (([] : List WEdit) ++ (Edit.words e)) (.own (.l 2 7)), .slice (U := U) .kid ml3_8 (.own (.l 2 8)), .int .i64 (Edit.list e), .nils])], []⟩ : LSt U))) :
    W57_l0 N e x34 ml3_8 N0 Q := by
  have e_ : (W57_l0 N e x34 ml3_8 N0 Q) = (let y_1 := (List.getD (Edit.kids e) (Int.toNat x34) (KidOf.mk 0 Edit.nil)); let y_2 := (reEdit (KidOf.e y_1)); let y_3 := (reEdit (nrmE y_2)); (((decide ((x34 : Int) < ((Edit.kids e).length : Int))) = true → ((0 : Int) ≤ x34 ∧ x34 < ((Edit.kids e).length : Int)) ∧ ((pre57 (y_2, ())) ∧ (mu57 (y_2, ()) < N) ∧ ((ml3_8.length + ([(KidOf.mk (KidOf.at_ y_1) y_3 : Kid)]).length) * 208 ≤ 140737488355328) ∧ ((InR ((x34 : Int) + 1)) ∧ (N0 (head57_0 e ((x34 : Int) + 1) (ml3_8 ++ ([(KidOf.mk (KidOf.at_ y_1) y_3 : Kid)]))))))) ∧ ((decide ((x34 : Int) < ((Edit.kids e).length : Int))) = false → (Q .ret (⟨[(2, .ptr (.loc 2) 0)], [((.loc 2), [.int .i64 (Edit.kind e), .int .i64 0, .nils, .nils, .int .i64 0, .nils, .nils, .slice (U := U) .wedit (([] : List WEdit) ++ (Edit.words e)) (.own (.l 2 7)), .slice (U := U) .kid ml3_8 (.own (.l 2 8)), .int .i64 (Edit.list e), .nils])], []⟩ : LSt U))))) := by kernel_rfl
  exact e_.mpr (by intro y_1 y_2 y_3; have hh := h y_1 rfl y_2 (reEdit_eq _) y_3 (reEdit_eq _); exact ⟨fun c_4 => ⟨(hh.1 c_4).1, ⟨(hh.1 c_4).2.1, (hh.1 c_4).2.2.1, (hh.1 c_4).2.2.2.1, ⟨(hh.1 c_4).2.2.2.2.1, (hh.1 c_4).2.2.2.2.2⟩⟩⟩, fun c_4 => (hh.2 c_4)⟩)
def Body57 (N : Nat) (e : Edit)  : Prop := awp cfg (know (know57 N)) (drawOk cfg (know (know57 N))) Try.f57.ntmps lv57 (cd Try.f57 []) (entry (args57.can (e, ())) []) (EndsQ cfg Try.f57.ntmps Try.f57.results.toList (res57 (e, ())) [])
abbrev HB57 : Prop := ∀ (N : Nat) (e : Edit) (_ : Unit), pre57 (e, ()) → mu57 (e, ()) < N + 1 → Body57 N e
noncomputable def know94 (N : Nat) : List (FuncId × Fs U) := (57, fs args57 (fun a => [pre57 a, mu57 a < N]) res57) :: (94, fs args94 (fun a => [pre94 a, mu94 a < N]) res94) :: [(71, spec71), (128, spec1128), (126, spec126), (129, spec129), (127, spec2127)]
def lv94 : Lives U := fun i => match i with
  | 0 => ([(0, []), (1, [])], [])
  | 1 => ([(0, []), (1, []), (5, [])], [((.loc 10), [.wr .op])])
  | 2 => ([(0, []), (5, []), (11, []), (12, []), (13, [])], [((.loc 10), [.wr .op, .own .tree, .own .tree])])
  | 3 => ([(0, []), (5, []), (11, []), (12, []), (13, []), (14, [])], [((.loc 10), [.wr .op])])
  | 4 => ([(0, []), (5, []), (7, []), (11, []), (12, []), (13, [])], [((.loc 7), []), ((.loc 10), [.wr .op])])
  | 5 => ([(0, []), (5, []), (7, []), (11, []), (12, []), (13, []), (18, [])], [((.loc 7), []), ((.loc 10), [.wr .op])])
  | 6 => ([(0, []), (5, []), (7, []), (11, []), (12, []), (13, []), (18, []), (19, [])], [((.loc 7), []), ((.loc 10), [.wr .op])])
  | 7 => ([(0, []), (5, []), (11, []), (12, []), (13, [])], [((.loc 10), [.wr .op])])
  | 8 => ([(0, []), (5, []), (7, []), (11, []), (12, []), (13, []), (18, []), (25, [])], [((.loc 7), []), ((.loc 10), [.wr .op])])
  | 9 => ([(0, []), (5, []), (11, []), (12, []), (13, [])], [((.loc 10), [.wr .op])])
  | 10 => ([(0, []), (5, []), (7, []), (11, []), (12, []), (13, []), (18, []), (33, [])], [((.loc 7), []), ((.loc 10), [.wr .op])])
  | 11 => ([(0, []), (5, []), (11, []), (12, []), (13, [])], [((.loc 10), [.wr .op])])
  | 12 => ([(0, []), (5, []), (7, []), (11, []), (12, []), (13, []), (41, [])], [((.loc 7), []), ((.loc 10), [.wr .op])])
  | 13 => ([(0, []), (5, []), (8, []), (11, []), (12, []), (13, [])], [((.loc 8), []), ((.loc 10), [.wr .op])])
  | 14 => ([(0, []), (5, []), (8, []), (11, []), (12, []), (13, []), (48, [])], [((.loc 8), []), ((.loc 10), [.wr .op])])
  | 15 => ([(0, []), (5, []), (11, []), (12, []), (13, [])], [((.loc 10), [.wr .op])])
  | 16 => ([(0, []), (5, []), (8, []), (11, []), (12, []), (13, [])], [((.loc 8), []), ((.loc 10), [.wr .op])])
  | 17 => ([(0, []), (5, []), (11, []), (12, []), (13, [])], [((.loc 10), [.wr .op])])
  | 18 => ([(0, []), (5, []), (11, []), (12, []), (13, [])], [((.loc 10), [.wr .op, .own .tree, .own .tree])])
  | 19 => ([(5, [])], [((.loc 10), [.wr .op])])
  | 20 => ([(4, [])], [])
  | _ => ([], [])
def head94_0 (list : Int) (l : List Op) (x13 : Int) (rl_10_0 : List Op) (ml10_1 : List Tree) (ml10_2 : List Tree) : LSt U := (⟨[(0, .c (.int .i64 list)), (5, .ptr (.loc 10) 0), (11, .c (.slice (U := U) .op l .unk)), (12, .c (.int .i64 (l.length : Int))), (13, .c (.int .i64 x13))], [((.loc 10), [.mref (.l 10 0), .slice (U := U) .tree ml10_1 (.own (.l 10 1)), .slice (U := U) .tree ml10_2 (.own (.l 10 2))])], [(.l 10 0, LC.mk (U := U) .op rl_10_0 0)]⟩ : LSt U)
abbrev W94 (N : Nat) (list : Int) (l : List Op) (Q : AExit → LSt U → Prop) := awp cfg (know (know94 N)) (drawOk cfg (know (know94 N))) Try.f94.ntmps lv94 (cd Try.f94 []) (⟨[(0, .c (.int .i64 list)), (1, .c (.slice (U := U) .op l .unk))], [], []⟩ : LSt U) Q
abbrev a94_KG22d (N : Nat) := awp cfg (know (know94 N)) (drawOk cfg (know (know94 N))) Try.f94.ntmps lv94
abbrev s94_KG22d (N : Nat) := seqK cfg (know (know94 N)) (drawOk cfg (know (know94 N))) Try.f94.ntmps lv94
theorem vc94 (N : Nat) (list : Int) (l : List Op) (Q : AExit → LSt U → Prop) (h : LoopWp (awp cfg (know (know94 N)) (drawOk cfg (know (know94 N))) Try.f94.ntmps lv94 (cd Try.f94 [1, 1, 0, 1, 0, 0])) (head94_0 list l 0 ([]) ([]) ([])) (AExit.inBlock 0 (seqK cfg (know (know94 N)) (drawOk cfg (know (know94 N))) Try.f94.ntmps lv94 (cd Try.f94 [1, 1, 1]) Q))) :
    W94 N list l Q := by
  have e_ : (W94 N list l Q) = ((((LoopWp (a94_KG22d N (cd Try.f94 [1, 1, 0, 1, 0, 0])) (head94_0 list l 0 ([]) ([]) ([])) (AExit.inBlock 0 (s94_KG22d N (cd Try.f94 [1, 1, 1]) Q)))))) := by kernel_rfl
  exact e_.mpr h
abbrev W94_l0 (N : Nat) (list : Int) (l : List Op) (x13 : Int) (rl_10_0 : List Op) (ml10_1 : List Tree) (ml10_2 : List Tree) (N0 : LSt U → Prop) (Q : AExit → LSt U → Prop) := awp cfg (know (know94 N)) (drawOk cfg (know (know94 N))) Try.f94.ntmps lv94 (cd Try.f94 [1, 1, 0, 1, 0, 0]) (head94_0 list l x13 rl_10_0 ml10_1 ml10_2) (AExit.then N0 (AExit.inBlock 0 (seqK cfg (know (know94 N)) (drawOk cfg (know (know94 N))) Try.f94.ntmps lv94 (cd Try.f94 [1, 1, 1]) Q)))
theorem vc94_l0 (N : Nat) (list : Int) (l : List Op) (x13 : Int) (rl_10_0 : List Op) (ml10_1 : List Tree) (ml10_2 : List Tree) (N0 : LSt U → Prop) (Q : AExit → LSt U → Prop) (h : ∀ y_1, y_1 = (List.getD l (Int.toNat x13) Op.nil) → ∀ y_2, y_2 = (Edit.mk 0 (Tree.mk 0 ([]) ([])) (Tree.mk 0 ([]) ([])) ([]) ([]) 0 ([])) → ∀ y_3, y_3 = (Int.toNat (((flushW (Wst.mk rl_10_0 ml10_1 ml10_2)).out).length : Int)) → ∀ y_4, y_4 = ((OpOf.e y_1)) → ∀ y_5, y_5 = ((nrmE y_4)) → ((decide ((x13 : Int) < (l.length : Int))) = true → ((0 : Int) ≤ x13 ∧ x13 < (l.length : Int)) ∧ (((((OpOf.kind y_1) : Int) == 0) = true → (pre126 ((rl_10_0, ml10_1, ml10_2, ()), (OpOf.n y_1), ())) ∧ ((InR ((x13 : Int) + 1)) ∧ (N0 (head94_0 list l ((x13 : Int) + 1) ((keepW (Wst.mk rl_10_0 ml10_1 ml10_2) (OpOf.n y_1)).out) ((keepW (Wst.mk rl_10_0 ml10_1 ml10_2) (OpOf.n y_1)).gone) ((keepW (Wst.mk rl_10_0 ml10_1 ml10_2) (OpOf.n y_1)).brought))))) ∧ ((((OpOf.kind y_1) : Int) == 0) = false → ((((OpOf.kind y_1) : Int) == 1) = true → (pre127 ((rl_10_0, ml10_1, ml10_2, ()), (OpOf.l y_1), ())) ∧ ((InR ((x13 : Int) + 1)) ∧ (N0 (head94_0 list l ((x13 : Int) + 1) ((Wst.mk rl_10_0 (ml10_1 ++ normsT (OpOf.l y_1)) ml10_2).out) ((Wst.mk rl_10_0 (ml10_1 ++ normsT (OpOf.l y_1)) ml10_2).gone) ((Wst.mk rl_10_0 (ml10_1 ++ normsT (OpOf.l y_1)) ml10_2).brought))))) ∧ ((((OpOf.kind y_1) : Int) == 1) = false → ((((OpOf.kind y_1) : Int) == 2) = true → (pre1127 ((rl_10_0, ml10_1, ml10_2, ()), (OpOf.l y_1), ())) ∧ ((InR ((x13 : Int) + 1)) ∧ (N0 (head94_0 list l ((x13 : Int) + 1) ((Wst.mk rl_10_0 ml10_1 (ml10_2 ++ normsT (OpOf.l y_1))).out) ((Wst.mk rl_10_0 ml10_1 (ml10_2 ++ normsT (OpOf.l y_1))).gone) ((Wst.mk rl_10_0 ml10_1 (ml10_2 ++ normsT (OpOf.l y_1))).brought))))) ∧ ((((OpOf.kind y_1) : Int) == 2) = false → ((((OpOf.kind y_1) : Int) == 3) = true → (pre57 (y_4, ())) ∧ (mu57 (y_4, ()) < N) ∧ ((pre1128 (list, y_5, ())) ∧ (((idleE list y_5) = true → (pre126 ((rl_10_0, ml10_1, ml10_2, ()), 1, ())) ∧ ((InR ((x13 : Int) + 1)) ∧ (N0 (head94_0 list l ((x13 : Int) + 1) ((keepW (Wst.mk rl_10_0 ml10_1 ml10_2) 1).out) ((keepW (Wst.mk rl_10_0 ml10_1 ml10_2) 1).gone) ((keepW (Wst.mk rl_10_0 ml10_1 ml10_2) 1).brought))))) ∧ ((idleE list y_5) = false → (pre129 ((rl_10_0, ml10_1, ml10_2, ()), ())) ∧ (((((flushW (Wst.mk rl_10_0 ml10_1 ml10_2)).out).length + ([(OpOf.mk 0 0 ([]) y_2 : Op)]).length) * 240 ≤ 140737488355328) ∧ ((0 : Int) ≤ (((flushW (Wst.mk rl_10_0 ml10_1 ml10_2)).out).length : Int) ∧ (((flushW (Wst.mk rl_10_0 ml10_1 ml10_2)).out).length : Int) < ((((flushW (Wst.mk rl_10_0 ml10_1 ml10_2)).out) ++ ([(OpOf.mk 0 0 ([]) y_2 : Op)])).length : Int)) ∧ ((0 : Nat) ≤ y_3) ∧ ((InR ((x13 : Int) + 1)) ∧ (N0 (head94_0 list l ((x13 : Int) + 1) (List.set (((flushW (Wst.mk rl_10_0 ml10_1 ml10_2)).out) ++ ([(OpOf.mk 0 0 ([]) y_2 : Op)])) y_3 (OpOf.mk 3 0 ([]) y_5 : Op)) ((flushW (Wst.mk rl_10_0 ml10_1 ml10_2)).gone) ((flushW (Wst.mk rl_10_0 ml10_1 ml10_2)).brought))))))))) ∧ ((((OpOf.kind y_1) : Int) == 3) = false → (InR ((x13 : Int) + 1)) ∧ (N0 (head94_0 list l ((x13 : Int) + 1) rl_10_0 ml10_1 ml10_2)))))))) ∧ ((decide ((x13 : Int) < (l.length : Int))) = false → (pre129 ((rl_10_0, ml10_1, ml10_2, ()), ())) ∧ (Q .ret (⟨[(4, .c (.slice (U := U) .op ((flushW (Wst.mk rl_10_0 ml10_1 ml10_2)).out) (.own (.e 4 0))))], [], []⟩ : LSt U)))) :
    W94_l0 N list l x13 rl_10_0 ml10_1 ml10_2 N0 Q := by
  have e_ : (W94_l0 N list l x13 rl_10_0 ml10_1 ml10_2 N0 Q) = (let y_1 := (List.getD l (Int.toNat x13) Op.nil); let y_2 := (Edit.mk 0 (Tree.mk 0 ([]) ([])) (Tree.mk 0 ([]) ([])) ([]) ([]) 0 ([])); let y_3 := (Int.toNat (((flushW (Wst.mk rl_10_0 ml10_1 ml10_2)).out).length : Int)); let y_4 := (reEdit (OpOf.e y_1)); let y_5 := (reEdit (nrmE y_4)); (((decide ((x13 : Int) < (l.length : Int))) = true → ((0 : Int) ≤ x13 ∧ x13 < (l.length : Int)) ∧ ((((((OpOf.kind y_1) == 0) = true → (pre126 ((rl_10_0, ml10_1, ml10_2, ()), (OpOf.n y_1), ())) ∧ ((InR ((x13 : Int) + 1)) ∧ (N0 (head94_0 list l ((x13 : Int) + 1) ((keepW (Wst.mk rl_10_0 ml10_1 ml10_2) (OpOf.n y_1)).out) ((keepW (Wst.mk rl_10_0 ml10_1 ml10_2) (OpOf.n y_1)).gone) ((keepW (Wst.mk rl_10_0 ml10_1 ml10_2) (OpOf.n y_1)).brought))))) ∧ (((OpOf.kind y_1) == 0) = false → ((((OpOf.kind y_1) == 1) = true → (pre127 ((rl_10_0, ml10_1, ml10_2, ()), (OpOf.l y_1), ())) ∧ ((InR ((x13 : Int) + 1)) ∧ (N0 (head94_0 list l ((x13 : Int) + 1) ((Wst.mk rl_10_0 (ml10_1 ++ normsT (OpOf.l y_1)) ml10_2).out) ((Wst.mk rl_10_0 (ml10_1 ++ normsT (OpOf.l y_1)) ml10_2).gone) ((Wst.mk rl_10_0 (ml10_1 ++ normsT (OpOf.l y_1)) ml10_2).brought))))) ∧ (((OpOf.kind y_1) == 1) = false → ((((OpOf.kind y_1) == 2) = true → (pre1127 ((rl_10_0, ml10_1, ml10_2, ()), (OpOf.l y_1), ())) ∧ ((InR ((x13 : Int) + 1)) ∧ (N0 (head94_0 list l ((x13 : Int) + 1) ((Wst.mk rl_10_0 ml10_1 (ml10_2 ++ normsT (OpOf.l y_1))).out) ((Wst.mk rl_10_0 ml10_1 (ml10_2 ++ normsT (OpOf.l y_1))).gone) ((Wst.mk rl_10_0 ml10_1 (ml10_2 ++ normsT (OpOf.l y_1))).brought))))) ∧ (((OpOf.kind y_1) == 2) = false → ((((OpOf.kind y_1) == 3) = true → (pre57 (y_4, ())) ∧ (mu57 (y_4, ()) < N) ∧ ((pre1128 (list, y_5, ())) ∧ (((idleE list y_5) = true → (pre126 ((rl_10_0, ml10_1, ml10_2, ()), 1, ())) ∧ ((InR ((x13 : Int) + 1)) ∧ (N0 (head94_0 list l ((x13 : Int) + 1) ((keepW (Wst.mk rl_10_0 ml10_1 ml10_2) 1).out) ((keepW (Wst.mk rl_10_0 ml10_1 ml10_2) 1).gone) ((keepW (Wst.mk rl_10_0 ml10_1 ml10_2) 1).brought))))) ∧ ((idleE list y_5) = false → (pre129 ((rl_10_0, ml10_1, ml10_2, ()), ())) ∧ (((((flushW (Wst.mk rl_10_0 ml10_1 ml10_2)).out).length + ([(OpOf.mk 0 0 ([]) y_2 : Op)]).length) * 240 ≤ 140737488355328) ∧ ((0 : Int) ≤ (((flushW (Wst.mk rl_10_0 ml10_1 ml10_2)).out).length : Int) ∧ (((flushW (Wst.mk rl_10_0 ml10_1 ml10_2)).out).length : Int) < ((((flushW (Wst.mk rl_10_0 ml10_1 ml10_2)).out) ++ ([(OpOf.mk 0 0 ([]) y_2 : Op)])).length : Int)) ∧ ((0 : Nat) ≤ y_3) ∧ ((InR ((x13 : Int) + 1)) ∧ (N0 (head94_0 list l ((x13 : Int) + 1) (List.set (((flushW (Wst.mk rl_10_0 ml10_1 ml10_2)).out) ++ ([(OpOf.mk 0 0 ([]) y_2 : Op)])) y_3 (OpOf.mk 3 0 ([]) y_5 : Op)) ((flushW (Wst.mk rl_10_0 ml10_1 ml10_2)).gone) ((flushW (Wst.mk rl_10_0 ml10_1 ml10_2)).brought))))))))) ∧ (((OpOf.kind y_1) == 3) = false → (InR ((x13 : Int) + 1)) ∧ (N0 (head94_0 list l ((x13 : Int) + 1) rl_10_0 ml10_1 ml10_2))))))))))))) ∧ ((decide ((x13 : Int) < (l.length : Int))) = false → (pre129 ((rl_10_0, ml10_1, ml10_2, ()), ())) ∧ ((Q .ret (⟨[(4, .c (.slice (U := U) .op ((flushW (Wst.mk rl_10_0 ml10_1 ml10_2)).out) (.own (.e 4 0))))], [], []⟩ : LSt U)))))) := by kernel_rfl
  exact e_.mpr (by intro y_1 y_2 y_3 y_4 y_5; have hh := h y_1 rfl y_2 rfl y_3 rfl y_4 (reEdit_eq _) y_5 (reEdit_eq _); exact ⟨fun c_5 => ⟨(hh.1 c_5).1, ⟨fun c_6 => ⟨((hh.1 c_5).2.1 c_6).1, ⟨((hh.1 c_5).2.1 c_6).2.1, ((hh.1 c_5).2.1 c_6).2.2⟩⟩, fun c_6 => ⟨fun c_7 => ⟨(((hh.1 c_5).2.2 c_6).1 c_7).1, ⟨(((hh.1 c_5).2.2 c_6).1 c_7).2.1, (((hh.1 c_5).2.2 c_6).1 c_7).2.2⟩⟩, fun c_7 => ⟨fun c_8 => ⟨((((hh.1 c_5).2.2 c_6).2 c_7).1 c_8).1, ⟨((((hh.1 c_5).2.2 c_6).2 c_7).1 c_8).2.1, ((((hh.1 c_5).2.2 c_6).2 c_7).1 c_8).2.2⟩⟩, fun c_8 => ⟨fun c_9 => ⟨(((((hh.1 c_5).2.2 c_6).2 c_7).2 c_8).1 c_9).1, (((((hh.1 c_5).2.2 c_6).2 c_7).2 c_8).1 c_9).2.1, ⟨(((((hh.1 c_5).2.2 c_6).2 c_7).2 c_8).1 c_9).2.2.1, ⟨fun c_10 => ⟨((((((hh.1 c_5).2.2 c_6).2 c_7).2 c_8).1 c_9).2.2.2.1 c_10).1, ⟨((((((hh.1 c_5).2.2 c_6).2 c_7).2 c_8).1 c_9).2.2.2.1 c_10).2.1, ((((((hh.1 c_5).2.2 c_6).2 c_7).2 c_8).1 c_9).2.2.2.1 c_10).2.2⟩⟩, fun c_10 => ⟨((((((hh.1 c_5).2.2 c_6).2 c_7).2 c_8).1 c_9).2.2.2.2 c_10).1, ⟨((((((hh.1 c_5).2.2 c_6).2 c_7).2 c_8).1 c_9).2.2.2.2 c_10).2.1, ((((((hh.1 c_5).2.2 c_6).2 c_7).2 c_8).1 c_9).2.2.2.2 c_10).2.2.1, ((((((hh.1 c_5).2.2 c_6).2 c_7).2 c_8).1 c_9).2.2.2.2 c_10).2.2.2.1, ⟨((((((hh.1 c_5).2.2 c_6).2 c_7).2 c_8).1 c_9).2.2.2.2 c_10).2.2.2.2.1, ((((((hh.1 c_5).2.2 c_6).2 c_7).2 c_8).1 c_9).2.2.2.2 c_10).2.2.2.2.2⟩⟩⟩⟩⟩⟩, fun c_9 => ⟨(((((hh.1 c_5).2.2 c_6).2 c_7).2 c_8).2 c_9).1, (((((hh.1 c_5).2.2 c_6).2 c_7).2 c_8).2 c_9).2⟩⟩⟩⟩⟩⟩, fun c_5 => ⟨(hh.2 c_5).1, (hh.2 c_5).2⟩⟩)
def Body94 (N : Nat) (list : Int) (l : List Op)  : Prop := awp cfg (know (know94 N)) (drawOk cfg (know (know94 N))) Try.f94.ntmps lv94 (cd Try.f94 []) (entry (args94.can (list, l, ())) []) (EndsQ cfg Try.f94.ntmps Try.f94.results.toList (res94 (list, l, ())) [])
abbrev HB94 : Prop := ∀ (N : Nat) (list : Int) (l : List Op) (_ : Unit), pre94 (list, l, ()) → mu94 (list, l, ()) < N + 1 → Body94 N list l
theorem make57_76 (c71 : Contract Try.prog cfg 71 spec71) (c1128 : Contract Try.prog cfg 128 spec1128) (c126 : Contract Try.prog cfg 126 spec126) (c129 : Contract Try.prog cfg 129 spec129) (c2127 : Contract Try.prog cfg 127 spec2127) (ha : HB57) (hb : HB94) : Contract Try.prog cfg 57 spec57 ∧ Contract Try.prog cfg 94 spec94 :=
  contract_mut2 (μA := mu57) (μB := mu94) (l := [(71, spec71), (128, spec1128), (126, spec126), (129, spec129), (127, spec2127)]) cfgOk rfl (⟨c71, c1128, c126, c129, c2127, trivial⟩) lv57 lv94 Try.func57 Try.func94 rfl rfl rfl rfl 1 2 (fun _ => rfl) (fun _ => rfl) (by decide) (by decide) (fun N ⟨e, _⟩ => ha N e ()) (fun N ⟨list, l, _⟩ => hb N list l ())
end
end Go.AM.Ytpjenobkibfpcaa

namespace Go.AM.Ytpjenobkibfpcaa
open Go.AM Go.Proofs
theorem keepW_len (s : Wst) (n : Int) : (keepW s n).out.length ≤ s.out.length + 3 := by
  have h := flush_len s
  simp only [keepW]
  rw [keepO_at]
  split
  · rw [List.length_set]; omega
  · rw [List.length_append]; simp; omega
theorem keepW_n {s : Wst} {n B K : Int} (hB : 0 ≤ B) (hn : 0 ≤ n ∧ n ≤ K) (h : ∀ o ∈ s.out, 0 ≤ o.n ∧ o.n ≤ B) : ∀ o ∈ (keepW s n).out, 0 ≤ o.n ∧ o.n ≤ B + K := by
  have hF : ∀ o ∈ (flushW s).out, 0 ≤ o.n ∧ o.n ≤ B := by
    intro o ho
    rcases flush_mem s o ho with h1 | h1
    · exact h o h1
    · omega
  intro o ho
  simp only [keepW] at ho
  rw [keepO_at] at ho
  split at ho
  · rename_i hc
    rcases List.mem_or_eq_of_mem_set ho with ho | rfl
    · have := hF o ho; omega
    · have := hF _ (mem_getD (l := (flushW s).out) (i := (flushW s).out.length - 1) (by omega) Op.nil)
      simp only; omega
  · rcases List.mem_append.1 ho with ho | ho
    · have := hF o ho; omega
    · simp only [List.mem_singleton] at ho; subst ho; simp only; omega
theorem nrmKs_lenW : ∀ (l : List Kid), (nrmKs l).length = l.length
  | [] => rfl
  | k :: r => by simp [nrmKs, nrmKs_lenW r]
theorem nrmE_words (e : Edit) : (nrmE e).words.length ≤ e.words.length ∧ (nrmE e).kids.length ≤ e.kids.length := by
  rw [nrmE_at]
  split
  · simp
  · split
    · simp [nrmKs_lenW]
    · split <;> simp
theorem rightOp_keep {list : Int} {o : Op} {d : Int} (h : rightOp list o d = true) (hk : o.kind = 0) : 1 ≤ o.n ∧ o.n ≤ 1048576 := by
  obtain ⟨k, n, l, e⟩ := o
  simp only at hk
  subst hk
  simp [rightOp] at h
  show 1 ≤ n ∧ n ≤ 1048576
  omega
theorem rightOp_desc {list : Int} {o : Op} {d : Int} (h : rightOp list o d = true) (hk : o.kind = 3) : rightE o.e d = true := by
  obtain ⟨k, n, l, e⟩ := o
  simp only at hk
  subst hk
  simp [rightOp] at h
  exact h.2.1.2
theorem kid_right {e : Edit} {d : Int} (h : rightE e d = true) (hk : e.kind = 2) : ∀ k ∈ e.kids, ∃ d, rightE k.e d = true := by
  obtain ⟨k, o, n, w, ks, l, os⟩ := e
  change k = 2 at hk
  subst hk
  have hks : ∃ d last, rightKs last ks d = true := by
    unfold rightE at h
    split at h
    · cases h
    · split at h
      · cases h
      · rw [if_neg (by omega)] at h
        simp only [Bool.and_eq_true] at h
        exact ⟨_, _, h.1.1.1.2⟩
  obtain ⟨d', last, hks⟩ := hks
  change ∀ k ∈ ks, _
  clear h
  induction ks generalizing last with
  | nil => intro k hk; cases hk
  | cons a r ih =>
    simp only [rightKs, Bool.and_eq_true] at hks
    intro k hk
    rcases List.mem_cons.1 hk with rfl | hk
    · obtain ⟨a, e⟩ := k
      simp only [rightKid, Bool.and_eq_true] at hks
      exact ⟨_, hks.1.2⟩
    · exact ih _ hks.2 k hk
theorem op_right {e : Edit} {d : Int} (h : rightE e d = true) (hk : e.kind = 3) : ∀ o ∈ e.ops, ∃ d, rightOp e.list o d = true := by
  obtain ⟨k, o, n, w, ks, l, os⟩ := e
  change k = 3 at hk
  subst hk
  have hos : ∃ d, rightOs l os d = true := by
    unfold rightE at h
    split at h
    · cases h
    · split at h
      · cases h
      · rw [if_neg (by omega)] at h
        simp only [Bool.and_eq_true] at h
        exact ⟨_, h.1.2⟩
  obtain ⟨d', hos⟩ := hos
  change ∀ o ∈ os, ∃ d, rightOp l o d = true
  clear h
  induction os with
  | nil => intro k hk; cases hk
  | cons a r ih =>
    simp only [rightOs, Bool.and_eq_true] at hos
    intro k hk
    rcases List.mem_cons.1 hk with rfl | hk
    · exact ⟨_, hos.1⟩
    · exact ih hos.2 k hk
theorem b94 : HB94 := by
  intro N list l _ hp hN
  simp only [pre94, mu94] at hp hN
  obtain ⟨p1, p3⟩ := hp
  have hl := massOs_len l
  refine vc94 _ _ _ _ ?_
  refine loop_rule (ι := Int × Wst) (fun s => head94_0 list l s.1 s.2.out s.2.gone s.2.brought)
    (fun s => 0 ≤ s.1 ∧ s.1 ≤ l.length ∧ nrmOs list (l.drop s.1.toNat) s.2 = nrmOs list l ⟨[], [], []⟩ ∧ s.2.out.length ≤ 3 * s.1 ∧ s.2.gone.length + s.2.brought.length + massOs (l.drop s.1.toNat) ≤ massOs l ∧ ∀ o ∈ s.2.out, 0 ≤ o.n ∧ o.n ≤ s.1 * 1048576)
    (fun s => ((l.length : Int) - s.1).toNat) (0, ⟨[], [], []⟩) rfl ⟨by simp, by simp, by simp, by simp, by simp, by simp⟩ ?_
  rintro ⟨i, s⟩ ⟨g1, g2, g3, g4, g5, g6⟩
  dsimp only at g1 g2 g3 g4 g5 g6
  refine vc94_l0 _ _ _ _ _ _ _ _ _ ?_
  rintro y1 hy1 y2 hy2 y3 hy3 y4 hy4 y5 hy5
  have hy : y2 = Edit.nil := hy2
  subst hy
  have es : Wst.mk s.out s.gone s.brought = s := rfl
  simp only [es] at hy3 ⊢
  (simp only [vcS])
  refine ⟨fun hi => ?_, fun hi => ?_⟩
  · have hmem := mem_getD (l := l) (i := i.toNat) (by omega) Op.nil
    have hm := massOs_mem hmem
    have hr := p3 _ hmem
    rw [dropI g1 hi Op.nil] at g3 g5
    rw [← hy1] at g3 g5 hm hr
    have hmo := massOp_e y1
    simp only [nrmOs, nrmOp_at, massOs] at g3 g5
    rw [← hy4, ← hy5] at g3
    obtain ⟨d, hr2⟩ := hr
    have hfl := flush_len s
    have hP : ∀ n : Int, 0 ≤ n ∧ n ≤ 1048576 → pre126 ((s.out, s.gone, s.brought, ()), n, ()) := by
      intro n hn
      simp only [pre126]
      refine ⟨by omega, by omega, by omega, fun o ho => ?_, by omega, by omega⟩
      have := g6 o ho
      constructor
      · omega
      · have : i * 1048576 ≤ 20000000000 * 1048576 := by omega
        omega
    have hK : ∀ n : Int, 0 ≤ n ∧ n ≤ 1048576 → nrmOs list (l.drop (i + 1).toNat) (keepW s n) = nrmOs list l ⟨[], [], []⟩ →
        (∃ j : Int × Wst, head94_0 list l (i + 1) (keepW s n).out (keepW s n).gone (keepW s n).brought = head94_0 list l j.1 j.2.out j.2.gone j.2.brought ∧ (0 ≤ j.1 ∧ j.1 ≤ l.length ∧ nrmOs list (l.drop j.1.toNat) j.2 = nrmOs list l ⟨[], [], []⟩ ∧ j.2.out.length ≤ 3 * j.1 ∧ j.2.gone.length + j.2.brought.length + massOs (l.drop j.1.toNat) ≤ massOs l ∧ ∀ o ∈ j.2.out, 0 ≤ o.n ∧ o.n ≤ j.1 * 1048576) ∧ ((l.length : Int) - j.1).toNat < ((l.length : Int) - i).toNat) := by
      intro n hn he
      have h1 := keepW_len s n
      have h2 := keepW_n (s := s) (n := n) (B := i * 1048576) (K := 1048576) (by omega) hn g6
      refine ⟨(i + 1, keepW s n), rfl, ⟨by dsimp only; omega, by dsimp only; omega, he, by dsimp only; omega, by simp only [keepW, List.length_nil]; omega, fun o ho => ?_⟩, by dsimp only; omega⟩
      have := h2 o ho
      dsimp only
      omega
    refine ⟨⟨g1, hi⟩, fun hk => ?_, fun hk => ⟨fun hk1 => ?_, fun hk1 => ⟨fun hk2 => ?_, fun hk2 => ⟨fun hk3 => ?_, fun hk3 => ?_⟩⟩⟩⟩
    · rw [if_pos hk] at g3
      have h1 := rightOp_keep hr2 hk
      exact ⟨hP _ (by omega), by unfold InR; omega, hK _ (by omega) g3⟩
    · rw [if_neg hk, if_pos hk1] at g3
      refine ⟨by simp only [pre127]; omega, by unfold InR; omega, (i + 1, ⟨s.out, s.gone ++ normsT y1.l, s.brought⟩), rfl, ⟨by dsimp only; omega, by dsimp only; omega, g3, by dsimp only; omega, ?_, fun o ho => ?_⟩, by dsimp only; omega⟩
      · have := massK_len y1.l
        simp only [List.length_append, normsT, List.length_map]; omega
      · have := g6 o ho
        dsimp only; omega
    · rw [if_neg hk, if_neg hk1, if_pos hk2] at g3
      refine ⟨by simp only [pre1127]; omega, by unfold InR; omega, (i + 1, ⟨s.out, s.gone, s.brought ++ normsT y1.l⟩), rfl, ⟨by dsimp only; omega, by dsimp only; omega, g3, by dsimp only; omega, ?_, fun o ho => ?_⟩, by dsimp only; omega⟩
      · have := massK_len y1.l
        simp only [List.length_append, normsT, List.length_map]; omega
      · have := g6 o ho
        dsimp only; omega
    · rw [if_neg hk, if_neg hk1, if_neg hk2, if_pos hk3] at g3
      have hre := rightOp_desc hr2 hk3
      rw [← hy4] at hre
      have hw := nrmE_words y4
      rw [← hy5] at hw
      have h1 := len_massE y4
      have h2 := massKs_len y4.kids
      have hmE : massE y4 ≤ massOp y1 := by rw [hmo, hy4]; omega
      refine ⟨by simp only [pre57]; exact ⟨by omega, d, hre⟩, by simp only [mu57]; omega, by simp only [pre1128]; omega, fun hq => ?_, fun hq => ?_⟩
      · rw [if_pos hq] at g3
        exact ⟨hP 1 (by omega), by unfold InR; omega, hK 1 (by omega) g3⟩
      · rw [if_neg (by rw [hq]; simp)] at g3
        rw [hy3, set_last]
        refine ⟨by simp only [pre129]; omega, by simp only [List.length_cons, List.length_nil]; omega, by simp only [List.length_append, List.length_cons, List.length_nil]; omega, by omega, by unfold InR; omega, (i + 1, ⟨(flushW s).out ++ [⟨3, 0, [], y5⟩], [], []⟩), rfl, ⟨by dsimp only; omega, by dsimp only; omega, g3, by simp; omega, by simp; omega, fun o ho => ?_⟩, by dsimp only; omega⟩
        dsimp only at ho ⊢
        rcases List.mem_append.1 ho with ho | ho
        · rcases flush_mem s o ho with h5 | h5
          · have := g6 o h5; omega
          · omega
        · simp only [List.mem_singleton] at ho
          subst ho
          simp only; omega
    · rw [if_neg hk, if_neg hk1, if_neg hk2, if_neg hk3] at g3
      refine ⟨by unfold InR; omega, (i + 1, s), rfl, ⟨by dsimp only; omega, by dsimp only; omega, g3, by dsimp only; omega, by dsimp only; omega, fun o ho => ?_⟩, by dsimp only; omega⟩
      have := g6 o ho
      dsimp only; omega
  · rw [List.drop_of_length_le (by omega)] at g3
    simp only [nrmOs] at g3
    refine ⟨by simp only [pre129]; omega, ?_⟩
    simp only [res94]
    rw [← g3]
    (repeat' (first | exact trivial | exact rfl | apply And.intro))
theorem b57 : HB57 := by
  intro N e _ hp hN
  simp only [pre57, mu57] at hp hN
  obtain ⟨p1, d, p3⟩ := hp
  have h1 := len_massE e
  have h2 := massKs_len e.kids
  have h3 := massOs_len e.ops
  have ha := nrmE_at e
  refine vc57 _ _ _ ?_
  (simp only [vcS])
  (simp only [Tree.eta, Edit.eta, Tree.kind_mk, Tree.words_mk, Tree.kids_mk])
  refine ⟨fun hk => ⟨by simp only [pre71]; omega, by simp only [pre71]; omega, ?_⟩, fun hk => ⟨fun hk2 => ⟨by simp; omega, ?_⟩, fun hk2 => ⟨fun hk3 => ⟨?_, by simp only [mu94]; omega, ?_⟩, fun hk3 => ?_⟩⟩⟩
  · rw [if_pos hk] at ha
    simp only [res57, ha]
    (repeat' (first | exact trivial | exact rfl | apply And.intro))
  · rw [if_neg hk, if_pos hk2] at ha
    refine loop_rule (ι := Int × List Kid) (fun s => head57_0 e s.1 s.2) (fun s => 0 ≤ s.1 ∧ s.1 ≤ e.kids.length ∧ s.2.length = s.1 ∧ s.2 ++ nrmKs (e.kids.drop s.1.toNat) = nrmKs e.kids) (fun s => ((e.kids.length : Int) - s.1).toNat) (0, []) rfl ⟨by simp, by simp, by simp, by simp⟩ ?_
    rintro ⟨j, ks⟩ ⟨f1, f2, f3, f4⟩
    dsimp only at f1 f2 f3 f4
    refine vc57_l0 _ _ _ _ _ _ ?_
    rintro y1 hy1 y2 hy2 y3 hy3
    (simp only [vcS])
    refine ⟨fun hj => ?_, fun hj => ?_⟩
    · have hmem := mem_getD (l := e.kids) (i := j.toNat) (by omega) (KidOf.mk 0 Edit.nil)
      have hm := massKs_mem hmem
      have hr := kid_right p3 hk2 _ hmem
      rw [dropI f1 hj (KidOf.mk 0 Edit.nil)] at f4
      rw [← hy1] at f4 hm hr
      simp only [nrmKs, nrmKid_at] at f4
      rw [← hy2] at f4 hm hr
      rw [← hy3] at f4
      refine ⟨⟨f1, hj⟩, by simp only [pre57]; exact ⟨by omega, hr⟩, by simp only [mu57]; omega, by simp; omega, by unfold InR; omega, (j + 1, ks ++ [⟨y1.at_, y3⟩]), rfl, ⟨by dsimp only; omega, by dsimp only; omega, by simp; omega, ?_⟩, by dsimp only; omega⟩
      simp only [List.append_assoc, List.cons_append, List.nil_append]
      exact f4
    · rw [List.drop_of_length_le (by omega)] at f4
      simp only [nrmKs, List.append_nil] at f4
      rw [f4]
      simp only [res57, ha]
      (repeat' (first | exact trivial | exact rfl | apply And.intro))
  · simp only [pre94]
    exact ⟨by omega, fun o ho => op_right p3 hk3 o ho⟩
  · rw [if_neg hk, if_neg hk2, if_pos hk3] at ha
    simp only [res57, ha]
    (repeat' (first | exact trivial | exact rfl | apply And.intro))
  · rw [if_neg hk, if_neg hk2, if_neg hk3] at ha
    simp only [res57, ha]
    (repeat' (first | exact trivial | exact rfl | apply And.intro))
theorem c57_76 : Contract Try.prog cfg 57 spec57 ∧ Contract Try.prog cfg 94 spec94 := make57_76 c71 c1128 c126 c129 c2127 b57 b94
end Go.AM.Ytpjenobkibfpcaa

namespace Go.AM.Ytpjenobkibfpcaa
open Go.AM Go.Proofs
def args83 : ArgL (Edit × Unit) := (.cons (aEl .edit) .nil)
def pre83 (a : Edit × Unit) : Prop := massE a.1 ≤ 20000000000 ∧ ∃ d, rightE a.1 d = true
noncomputable def res83 (a : Edit × Unit) : V U := .agg [.int .i64 (Edit.kind (nrmE (turnE a.1))), .int .i64 (Tree.kind (Edit.old (nrmE (turnE a.1)))), .slice (U := U) .u64 (Tree.words (Edit.old (nrmE (turnE a.1)))) .unk, .slice (U := U) .tree (Tree.kids (Edit.old (nrmE (turnE a.1)))) .unk, .int .i64 (Tree.kind (Edit.new (nrmE (turnE a.1)))), .slice (U := U) .u64 (Tree.words (Edit.new (nrmE (turnE a.1)))) .unk, .slice (U := U) .tree (Tree.kids (Edit.new (nrmE (turnE a.1)))) .unk, .slice (U := U) .wedit (Edit.words (nrmE (turnE a.1))) .unk, .slice (U := U) .kid (Edit.kids (nrmE (turnE a.1))) .unk, .int .i64 (Edit.list (nrmE (turnE a.1))), .slice (U := U) .op (Edit.ops (nrmE (turnE a.1))) .unk]
noncomputable def spec83 : Fs U := fs args83 (fun a => [pre83 a]) res83
noncomputable def know83 : List (FuncId × Fs U) := [(57, spec57), (118, spec118)]
def lv83 : Lives U := fun i => match i with
  | 0 => ([(1, []), (2, [])], [((.loc 1), []), ((.loc 2), [])])
  | 1 => ([(2, [])], [((.loc 2), [])])
  | _ => ([], [])
abbrev W83 (e : Edit) (Q : AExit → LSt U → Prop) := awp cfg (know know83) (drawOk cfg (know know83)) Try.f83.ntmps lv83 (cd Try.f83 []) (⟨[(0, .agg [.int .i64 (Edit.kind e), .int .i64 (Tree.kind (Edit.old e)), .slice (U := U) .u64 (Tree.words (Edit.old e)) .unk, .slice (U := U) .tree (Tree.kids (Edit.old e)) .unk, .int .i64 (Tree.kind (Edit.new e)), .slice (U := U) .u64 (Tree.words (Edit.new e)) .unk, .slice (U := U) .tree (Tree.kids (Edit.new e)) .unk, .slice (U := U) .wedit (Edit.words e) .unk, .slice (U := U) .kid (Edit.kids e) .unk, .int .i64 (Edit.list e), .slice (U := U) .op (Edit.ops e) .unk])], [], []⟩ : LSt U) Q
theorem vc83 (e : Edit) (Q : AExit → LSt U → Prop) (h : ∀ y_1, y_1 = (e) → ∀ y_2, y_2 = ((turnE y_1)) → (pre118 (y_1, ())) ∧ (pre57 (y_2, ())) ∧ (Q .ret (⟨[(2, .ptr (.loc 2) 0)], [((.loc 2), [.int .i64 (Edit.kind (nrmE y_2)), .int .i64 (Tree.kind (Edit.old (nrmE y_2))), .slice (U := U) .u64 (Tree.words (Edit.old (nrmE y_2))) .unk, .slice (U := U) .tree (Tree.kids (Edit.old (nrmE y_2))) .unk, .int .i64 (Tree.kind (Edit.new (nrmE y_2))), .slice (U := U) .u64 (Tree.words (Edit.new (nrmE y_2))) .unk, .slice (U := U) .tree (Tree.kids (Edit.new (nrmE y_2))) .unk, .slice (U := U) .wedit (Edit.words (nrmE y_2)) .unk, .slice (U := U) .kid (Edit.kids (nrmE y_2)) .unk, .int .i64 (Edit.list (nrmE y_2)), .slice (U := U) .op (Edit.ops (nrmE y_2)) .unk])], []⟩ : LSt U))) :
    W83 e Q := by
  have e_ : (W83 e Q) = (let y_1 := (reEdit e); let y_2 := (reEdit (turnE y_1)); ((pre118 (y_1, ())) ∧ (pre57 (y_2, ())) ∧ (Q .ret (⟨[(2, .ptr (.loc 2) 0)], [((.loc 2), [.int .i64 (Edit.kind (nrmE y_2)), .int .i64 (Tree.kind (Edit.old (nrmE y_2))), .slice (U := U) .u64 (Tree.words (Edit.old (nrmE y_2))) .unk, .slice (U := U) .tree (Tree.kids (Edit.old (nrmE y_2))) .unk, .int .i64 (Tree.kind (Edit.new (nrmE y_2))), .slice (U := U) .u64 (Tree.words (Edit.new (nrmE y_2))) .unk, .slice (U := U) .tree (Tree.kids (Edit.new (nrmE y_2))) .unk, .slice (U := U) .wedit (Edit.words (nrmE y_2)) .unk, .slice (U := U) .kid (Edit.kids (nrmE y_2)) .unk, .int .i64 (Edit.list (nrmE y_2)), .slice (U := U) .op (Edit.ops (nrmE y_2)) .unk])], []⟩ : LSt U)))) := by kernel_rfl
  exact e_.mpr (by intro y_1 y_2; have hh := h y_1 (reEdit_eq _) y_2 (reEdit_eq _); exact ⟨hh.1, hh.2.1, hh.2.2⟩)
def Body83 (e : Edit)  : Prop := awp cfg (know (know83)) (drawOk cfg (know (know83))) Try.f83.ntmps lv83 (cd Try.f83 []) (entry (args83.can (e, ())) []) (EndsQ cfg Try.f83.ntmps Try.f83.results.toList (res83 (e, ())) [])
theorem make83 (c57 : Contract Try.prog cfg 57 spec57) (c118 : Contract Try.prog cfg 118 spec118) (hb : ∀ (e : Edit) (_ : Unit), pre83 (e, ()) → Body83 e) : Contract Try.prog cfg 83 spec83 :=
  contract_flat (l := [(57, spec57), (118, spec118)]) cfgOk rfl (⟨c57, c118, trivial⟩) lv83 Try.func83 rfl rfl 1 (fun _ => rfl) (by decide) (fun ⟨e, _⟩ => hb e ())
end Go.AM.Ytpjenobkibfpcaa

namespace Go.AM.Ytpjenobkibfpcaa
open Go.AM Go.Proofs
mutual
theorem massE_turn : ∀ (e : Edit), massE (turnE e) = massE e
  | .mk k o n w ks l os => by
    have h1 := massKs_turn ks
    have h2 := massOs_turn os
    simp only [turnE, massE, List.length_map, turnOs_len, h1, h2]
    omega
theorem massKs_turn : ∀ (ks : List (KidOf Edit)), massKs (turnKs ks) = massKs ks
  | [] => rfl
  | k :: r => by
    have h1 := massKid_turn k
    have h2 := massKs_turn r
    simp only [turnKs, massKs, h1, h2]
theorem massKid_turn : ∀ (k : KidOf Edit), massKid (turnKid k) = massKid k
  | ⟨a, e⟩ => by
    have h := massE_turn e
    simp only [turnKid, massKid, h]
theorem massOs_turn : ∀ (os : List (OpOf Edit)), massOs (turnOs os) = massOs os
  | [] => rfl
  | o :: r => by
    have h1 := massOp_turn o
    have h2 := massOs_turn r
    simp only [turnOs, massOs, h1, h2]
theorem massOp_turn : ∀ (o : OpOf Edit), massOp (turnOp o) = massOp o
  | ⟨k, n, l, e⟩ => by
    have h := massE_turn e
    simp only [turnOp]
    split
    · rfl
    · split
      · rfl
      · split
        · simp only [massOp, h]
        · rfl
end
theorem c83 : Contract Try.prog cfg 83 spec83 := by
  refine make83 c57_76.1 c118_110.1 ?_
  intro e _ hp
  simp only [pre83] at hp
  obtain ⟨hm, d, hr⟩ := hp
  refine vc83 _ _ ?_
  rintro y1 hy1 y2 hy2
  subst hy1
  have h1 := massE_turn y1
  have h2 := rightE_turn _ _ hr
  rw [← hy2] at h1 h2
  refine ⟨by simp only [pre118]; omega, by simp only [pre57]; exact ⟨by omega, d, h2⟩, ?_⟩
  simp only [res83]
  rw [← hy2]
  (repeat' (first | exact trivial | exact rfl | apply And.intro))
end Go.AM.Ytpjenobkibfpcaa

namespace Go.AM.Ytpjenobkibfpcaa
open Go.AM Go.Proofs
def args24 : ArgL (WEdit × WEdit × Unit) := (.cons (aEl .wedit) (.cons (aEl .wedit) .nil))
def pre24 (a : WEdit × WEdit × Unit) : Prop := rngW a.1 ∧ rngW a.2.1
noncomputable def res24 (a : WEdit × WEdit × Unit) : V U := .tup [(true, [.int .i64 (WEdit.at_ ((comW a.1 a.2.1).1)), .int .u8 (WEdit.mask ((comW a.1 a.2.1).1)), .int .u64 (WEdit.old ((comW a.1 a.2.1).1)), .int .u64 (WEdit.new ((comW a.1 a.2.1).1))]), (false, [.bool ((comW a.1 a.2.1).2)])]
noncomputable def spec24 : Fs U := fs args24 (fun a => [pre24 a]) res24
def args131 : ArgL (WEdit × Unit) := (.cons (aEl .wedit) .nil)
def pre131 (a : WEdit × Unit) : Prop := True
noncomputable def res131 (a : WEdit × Unit) : V U := .c (.int .i64 (WEdit.at_ a.1))
noncomputable def spec131 : Fs U := fs args131 (fun a => [pre131 a]) res131
def args133 : ArgL (Kid × Unit) := (.cons (aEl .kid) .nil)
def pre133 (a : Kid × Unit) : Prop := True
noncomputable def res133 (a : Kid × Unit) : V U := .c (.int .i64 (KidOf.at_ a.1))
noncomputable def spec133 : Fs U := fs args133 (fun a => [pre133 a]) res133
def args130 : ArgL (List WEdit × List WEdit × Unit × Unit × Unit) := (.cons (aSl .wedit) (.cons (aSl .wedit) (.cons (aFn 131) (.cons (aFn 24) .nil))))
def pre130 (a : List WEdit × List WEdit × Unit × Unit × Unit) : Prop := ((∀ x ∈ a.1, rngW x) ∧ (a.1).length ≤ 1000000) ∧ (∀ x ∈ a.2.1, rngW x) ∧ (a.2.1).length ≤ 1000000
noncomputable def res130 (a : List WEdit × List WEdit × Unit × Unit × Unit) : V U := .tup [(false, [.slice (U := U) .wedit (ofO (mergeF WEdit.at_ comW a.1 a.2.1)) .unk]), (false, [.bool ((mergeF WEdit.at_ comW a.1 a.2.1).isSome)])]
noncomputable def spec130 : Fs U := fs args130 (fun a => [pre130 a]) res130
def args96 : ArgL (List WEdit × List WEdit × Unit) := (.cons (aSl .wedit) (.cons (aSl .wedit) .nil))
def pre96 (a : List WEdit × List WEdit × Unit) : Prop := ((∀ x ∈ a.1, rngW x) ∧ (a.1).length ≤ 1000000) ∧ (∀ x ∈ a.2.1, rngW x) ∧ (a.2.1).length ≤ 1000000
noncomputable def res96 (a : List WEdit × List WEdit × Unit) : V U := .tup [(false, [.slice (U := U) .wedit (ofO (mergeF WEdit.at_ comW a.1 a.2.1)) .unk]), (false, [.bool ((mergeF WEdit.at_ comW a.1 a.2.1).isSome)])]
noncomputable def spec96 : Fs U := fs args96 (fun a => [pre96 a]) res96
noncomputable def know24 : List (FuncId × Fs U) := [(66, spec66)]
def lv24 : Lives U := fun i => match i with
  | 0 => ([(2, []), (3, []), (4, [])], [((.loc 2), []), ((.loc 3), []), ((.loc 4), [])])
  | 1 => ([(2, []), (3, []), (4, []), (6, [])], [((.loc 2), []), ((.loc 3), []), ((.loc 4), [])])
  | 2 => ([(2, []), (3, []), (4, []), (20, [])], [((.loc 2), []), ((.loc 3), []), ((.loc 4), [])])
  | 3 => ([(4, []), (5, [])], [((.loc 4), [])])
  | 4 => ([(4, []), (5, [])], [((.loc 4), [])])
  | _ => ([], [])
noncomputable abbrev A24 (p : List Nat) := awp cfg (know know24) (drawOk cfg (know know24)) Try.f24.ntmps lv24 (cd Try.f24 p)
theorem vc24 (p : WEdit) (q : WEdit) (Q : AExit → LSt U → Prop) (h : (((pre66 (0, (WEdit.new p), (IntKind.wrap .u8 (BitVec.ofInt (IntKind.bits .u8) (WEdit.mask p) &&& BitVec.ofInt (IntKind.bits .u8) (WEdit.mask q)).toNat), ())) ∧ (pre66 (0, (WEdit.old q), (IntKind.wrap .u8 (BitVec.ofInt (IntKind.bits .u8) (WEdit.mask p) &&& BitVec.ofInt (IntKind.bits .u8) (WEdit.mask q)).toNat), ())) ∧ (((((mix 0 (WEdit.new p) (IntKind.wrap .u8 (BitVec.ofInt (IntKind.bits .u8) (WEdit.mask p) &&& BitVec.ofInt (IntKind.bits .u8) (WEdit.mask q)).toNat)) : Int) != (mix 0 (WEdit.old q) (IntKind.wrap .u8 (BitVec.ofInt (IntKind.bits .u8) (WEdit.mask p) &&& BitVec.ofInt (IntKind.bits .u8) (WEdit.mask q)).toNat))) = true → (Q .ret (⟨[(4, .ptr (.loc 4) 0), (5, .c (.bool false))], [((.loc 4), [.int .i64 0, .int .u8 0, .int .u64 0, .int .u64 0])], []⟩ : LSt U))) ∧ ((((mix 0 (WEdit.new p) (IntKind.wrap .u8 (BitVec.ofInt (IntKind.bits .u8) (WEdit.mask p) &&& BitVec.ofInt (IntKind.bits .u8) (WEdit.mask q)).toNat)) : Int) != (mix 0 (WEdit.old q) (IntKind.wrap .u8 (BitVec.ofInt (IntKind.bits .u8) (WEdit.mask p) &&& BitVec.ofInt (IntKind.bits .u8) (WEdit.mask q)).toNat))) = false → (pre66 ((WEdit.old q), (WEdit.old p), (WEdit.mask p), ())) ∧ (pre66 ((WEdit.new p), (WEdit.new q), (WEdit.mask q), ())) ∧ (Q .ret (⟨[(4, .ptr (.loc 4) 0), (5, .c (.bool true))], [((.loc 4), [.int .i64 (WEdit.at_ p), .int .u8 (IntKind.wrap .u8 (BitVec.ofInt (IntKind.bits .u8) (WEdit.mask p) ||| BitVec.ofInt (IntKind.bits .u8) (WEdit.mask q)).toNat), .int .u64 (mix (WEdit.old q) (WEdit.old p) (WEdit.mask p)), .int .u64 (mix (WEdit.new p) (WEdit.new q) (WEdit.mask q))])], []⟩ : LSt U))))))) :
    A24 [] (⟨[(0, .agg [.int .i64 (WEdit.at_ p), .int .u8 (WEdit.mask p), .int .u64 (WEdit.old p), .int .u64 (WEdit.new p)]), (1, .agg [.int .i64 (WEdit.at_ q), .int .u8 (WEdit.mask q), .int .u64 (WEdit.old q), .int .u64 (WEdit.new q)])], [], []⟩ : LSt U) Q :=
  Eq.mpr (by kernel_rfl) h
def Body24 (p : WEdit) (q : WEdit)  : Prop := awp cfg (know (know24)) (drawOk cfg (know (know24))) Try.f24.ntmps lv24 (cd Try.f24 []) (entry (args24.can (p, q, ())) []) (EndsQ cfg Try.f24.ntmps Try.f24.results.toList (res24 (p, q, ())) [])
theorem make24 (c66 : Contract Try.prog cfg 66 spec66) (hb : ∀ (p : WEdit) (q : WEdit) (_ : Unit), pre24 (p, q, ()) → Body24 p q) : Contract Try.prog cfg 24 spec24 :=
  contract_flat (l := [(66, spec66)]) cfgOk rfl (⟨c66, trivial⟩) lv24 Try.func24 rfl rfl 2 (fun _ => rfl) (by decide) (fun ⟨p, q, _⟩ => hb p q ())
noncomputable def know131 : List (FuncId × Fs U) := []
def lv131 : Lives U := fun i => match i with
  | 0 => ([(1, [])], [((.loc 1), [])])
  | 1 => ([(2, [])], [])
  | _ => ([], [])
noncomputable abbrev A131 (p : List Nat) := awp cfg (know know131) (drawOk cfg (know know131)) Try.f131.ntmps lv131 (cd Try.f131 p)
theorem vc131 (w : WEdit) (Q : AExit → LSt U → Prop) (h : ((Q .ret (⟨[(2, .c (.int .i64 (WEdit.at_ w)))], [], []⟩ : LSt U)))) :
    A131 [] (⟨[(0, .agg [.int .i64 (WEdit.at_ w), .int .u8 (WEdit.mask w), .int .u64 (WEdit.old w), .int .u64 (WEdit.new w)])], [], []⟩ : LSt U) Q :=
  Eq.mpr (by kernel_rfl) h
def Body131 (w : WEdit)  : Prop := awp cfg (know (know131)) (drawOk cfg (know (know131))) Try.f131.ntmps lv131 (cd Try.f131 []) (entry (args131.can (w, ())) []) (EndsQ cfg Try.f131.ntmps Try.f131.results.toList (res131 (w, ())) [])
theorem make131 (hb : ∀ (w : WEdit) (_ : Unit), pre131 (w, ()) → Body131 w) : Contract Try.prog cfg 131 spec131 :=
  contract_flat (l := []) cfgOk rfl (trivial) lv131 Try.func131 rfl rfl 1 (fun _ => rfl) (by decide) (fun ⟨w, _⟩ => hb w ())
noncomputable def know133 : List (FuncId × Fs U) := []
def lv133 : Lives U := fun i => match i with
  | 0 => ([(1, [])], [((.loc 1), [])])
  | 1 => ([(2, [])], [])
  | _ => ([], [])
noncomputable abbrev A133 (p : List Nat) := awp cfg (know know133) (drawOk cfg (know know133)) Try.f133.ntmps lv133 (cd Try.f133 p)
theorem vc133 (k : Kid) (Q : AExit → LSt U → Prop) (h : ((Q .ret (⟨[(2, .c (.int .i64 (KidOf.at_ k)))], [], []⟩ : LSt U)))) :
    A133 [] (⟨[(0, .agg [.int .i64 (KidOf.at_ k), .int .i64 (Edit.kind (KidOf.e k)), .int .i64 (Tree.kind (Edit.old (KidOf.e k))), .slice (U := U) .u64 (Tree.words (Edit.old (KidOf.e k))) .unk, .slice (U := U) .tree (Tree.kids (Edit.old (KidOf.e k))) .unk, .int .i64 (Tree.kind (Edit.new (KidOf.e k))), .slice (U := U) .u64 (Tree.words (Edit.new (KidOf.e k))) .unk, .slice (U := U) .tree (Tree.kids (Edit.new (KidOf.e k))) .unk, .slice (U := U) .wedit (Edit.words (KidOf.e k)) .unk, .slice (U := U) .kid (Edit.kids (KidOf.e k)) .unk, .int .i64 (Edit.list (KidOf.e k)), .slice (U := U) .op (Edit.ops (KidOf.e k)) .unk])], [], []⟩ : LSt U) Q :=
  Eq.mpr (by kernel_rfl) h
def Body133 (k : Kid)  : Prop := awp cfg (know (know133)) (drawOk cfg (know (know133))) Try.f133.ntmps lv133 (cd Try.f133 []) (entry (args133.can (k, ())) []) (EndsQ cfg Try.f133.ntmps Try.f133.results.toList (res133 (k, ())) [])
theorem make133 (hb : ∀ (k : Kid) (_ : Unit), pre133 (k, ()) → Body133 k) : Contract Try.prog cfg 133 spec133 :=
  contract_flat (l := []) cfgOk rfl (trivial) lv133 Try.func133 rfl rfl 1 (fun _ => rfl) (by decide) (fun ⟨k, _⟩ => hb k ())
noncomputable def know130 : List (FuncId × Fs U) := [(131, spec131), (24, spec24)]
def lv130 : Lives U := fun i => match i with
  | 0 => ([(0, []), (1, []), (2, []), (3, [])], [])
  | 1 => ([(0, []), (1, []), (2, []), (3, []), (10, [.own .wedit])], [])
  | 2 => ([(0, []), (1, []), (2, []), (3, []), (10, []), (20, [])], [])
  | 3 => ([(0, []), (1, []), (2, []), (3, []), (10, []), (11, []), (12, [])], [((.loc 11), [])])
  | 4 => ([(0, []), (1, []), (2, []), (3, []), (10, []), (11, []), (33, [])], [((.loc 11), [])])
  | 5 => ([(8, []), (9, [])], [])
  | 6 => ([(0, []), (1, []), (2, []), (3, []), (10, [.own .wedit])], [])
  | 7 => ([(0, []), (1, []), (2, []), (3, []), (10, []), (42, [])], [])
  | 8 => ([(0, []), (1, []), (2, []), (3, []), (10, [.own .wedit])], [])
  | 9 => ([(0, []), (1, []), (2, []), (3, []), (10, []), (72, [])], [])
  | 10 => ([(0, []), (1, []), (2, []), (3, []), (10, [.own .wedit])], [])
  | 11 => ([(8, []), (9, [])], [])
  | _ => ([], [])
noncomputable def head130_0 (p : List WEdit) (q : List WEdit) (at_ : Unit) (one : Unit) (x0 : List WEdit) (x1 : List WEdit) (x10 : List WEdit) : LSt U := (⟨[(0, .c (.slice (U := U) .wedit x0 .unk)), (1, .c (.slice (U := U) .wedit x1 .unk)), (2, .fn 131), (3, .fn 24), (10, .c (.slice (U := U) .wedit x10 (.own (.e 10 0))))], [], []⟩ : LSt U)
noncomputable abbrev A130 (p : List Nat) := awp cfg (know know130) (drawOk cfg (know know130)) Try.f130.ntmps lv130 (cd Try.f130 p)
noncomputable abbrev S130 (p : List Nat) := seqK cfg (know know130) (drawOk cfg (know know130)) Try.f130.ntmps lv130 (cd Try.f130 p)
theorem vc130 (p : List WEdit) (q : List WEdit) (at_ : Unit) (one : Unit) (Q : AExit → LSt U → Prop) (h : ((LoopWp (A130 [1, 1, 0, 0, 0]) (head130_0 p q at_ one p q ([])) (AExit.inBlock 0 (S130 [1, 1, 1] Q))))) :
    A130 [] (⟨[(0, .c (.slice (U := U) .wedit p .unk)), (1, .c (.slice (U := U) .wedit q .unk)), (2, .fn 131), (3, .fn 24)], [], []⟩ : LSt U) Q :=
  Eq.mpr (by kernel_rfl) h
theorem vc130_l0 (p : List WEdit) (q : List WEdit) (at_ : Unit) (one : Unit) (x0 : List WEdit) (x1 : List WEdit) (x10 : List WEdit) (N0 : LSt U → Prop) (Q : AExit → LSt U → Prop) (h : ∀ y_1, y_1 = (List.getD x0 (Int.toNat 0) (WEdit.mk 0 0 0 0)) → ∀ y_2, y_2 = (List.getD x1 (Int.toNat 0) (WEdit.mk 0 0 0 0)) → ∀ y_3, y_3 = (y_1) → ∀ y_4, y_4 = (y_2) → ∀ y_5, y_5 = (((comW y_3 y_4).1)) → (Tr ((!(decide ((0 : Int) < (x0.length : Int)))) = true)) ∧ (Tr ((!(decide ((0 : Int) < (x0.length : Int)))) = true)) ∧ (((decide ((0 : Int) < (x0.length : Int))) = false → (!(decide ((0 : Int) < (x0.length : Int)))) = true)) ∧ (((bif (decide ((0 : Int) < (x0.length : Int))) then true else (decide ((0 : Int) < (x1.length : Int)))) = true → (Tr ((!(((x1.length : Int) : Int) == 0)) = true)) ∧ (Tr ((!(((x1.length : Int) : Int) == 0)) = true)) ∧ (Tr ((!(((x1.length : Int) : Int) == 0)) = true)) ∧ (Tr (((!(((x1.length : Int) : Int) == 0)) && (decide ((0 : Int) < (x0.length : Int)))) = true)) ∧ (((!(((x1.length : Int) : Int) == 0)) && (decide ((0 : Int) < (x0.length : Int)))) = true → (0 : Int) ≤ 0 ∧ 0 < (x0.length : Int)) ∧ (Tr (((!(((x1.length : Int) : Int) == 0)) && (decide ((0 : Int) < (x0.length : Int)))) = true)) ∧ (Tr (((!(((x1.length : Int) : Int) == 0)) && (decide ((0 : Int) < (x0.length : Int)))) = true)) ∧ (Tr (((!(((x1.length : Int) : Int) == 0)) && (decide ((0 : Int) < (x0.length : Int)))) = true)) ∧ (((!(((x1.length : Int) : Int) == 0)) && (decide ((0 : Int) < (x0.length : Int)))) = true → pre131 (y_3, ())) ∧ (Tr (((!(((x1.length : Int) : Int) == 0)) && (decide ((0 : Int) < (x0.length : Int)))) = true)) ∧ (((!(((x1.length : Int) : Int) == 0)) && (decide ((0 : Int) < (x0.length : Int)))) = true → (0 : Int) ≤ 0 ∧ 0 < (x1.length : Int)) ∧ (Tr (((!(((x1.length : Int) : Int) == 0)) && (decide ((0 : Int) < (x0.length : Int)))) = true)) ∧ (Tr (((!(((x1.length : Int) : Int) == 0)) && (decide ((0 : Int) < (x0.length : Int)))) = true)) ∧ (Tr (((!(((x1.length : Int) : Int) == 0)) && (decide ((0 : Int) < (x0.length : Int)))) = true)) ∧ (((!(((x1.length : Int) : Int) == 0)) && (decide ((0 : Int) < (x0.length : Int)))) = true → pre131 (y_4, ())) ∧ (Tr (((!(((x1.length : Int) : Int) == 0)) && (decide ((0 : Int) < (x0.length : Int)))) = true)) ∧ (Tr (((!(((x1.length : Int) : Int) == 0)) && (decide ((0 : Int) < (x0.length : Int)))) = true)) ∧ ((!(((x1.length : Int) : Int) == 0)) = true → (True → (!(((x1.length : Int) : Int) == 0)) = true)) ∧ ((!(((x1.length : Int) : Int) == 0)) = true → ((decide ((0 : Int) < (x0.length : Int))) = true → ((!(((x1.length : Int) : Int) == 0)) && (decide ((0 : Int) < (x0.length : Int)))) = true)) ∧ (((((x1.length : Int) : Int) == 0) = false → (!(((x1.length : Int) : Int) == 0)) = true)) ∧ (((bif (((x1.length : Int) : Int) == 0) then true else (bif (decide ((0 : Int) < (x0.length : Int))) then (decide (((WEdit.at_ y_3) : Int) < (WEdit.at_ y_4))) else false)) = true → ((0 : Int) ≤ 0 ∧ 0 < (x0.length : Int)) ∧ ((x10.length + ([y_3]).length) * 32 ≤ 140737488355328) ∧ ((0 : Int) ≤ 1 ∧ 1 ≤ (x0.length : Int)) ∧ (N0 (head130_0 p q at_ one (List.drop (Int.toNat 1) x0) x1 (x10 ++ ([y_3]))))) ∧ ((bif (((x1.length : Int) : Int) == 0) then true else (bif (decide ((0 : Int) < (x0.length : Int))) then (decide (((WEdit.at_ y_3) : Int) < (WEdit.at_ y_4))) else false)) = false → (Tr ((!(((x0.length : Int) : Int) == 0)) = true)) ∧ ((!(((x0.length : Int) : Int) == 0)) = true → (0 : Int) ≤ 0 ∧ 0 < (x1.length : Int)) ∧ (Tr ((!(((x0.length : Int) : Int) == 0)) = true)) ∧ (Tr ((!(((x0.length : Int) : Int) == 0)) = true)) ∧ (Tr ((!(((x0.length : Int) : Int) == 0)) = true)) ∧ ((!(((x0.length : Int) : Int) == 0)) = true → pre131 (y_4, ())) ∧ (Tr ((!(((x0.length : Int) : Int) == 0)) = true)) ∧ ((!(((x0.length : Int) : Int) == 0)) = true → (0 : Int) ≤ 0 ∧ 0 < (x0.length : Int)) ∧ (Tr ((!(((x0.length : Int) : Int) == 0)) = true)) ∧ (Tr ((!(((x0.length : Int) : Int) == 0)) = true)) ∧ (Tr ((!(((x0.length : Int) : Int) == 0)) = true)) ∧ ((!(((x0.length : Int) : Int) == 0)) = true → pre131 (y_3, ())) ∧ (Tr ((!(((x0.length : Int) : Int) == 0)) = true)) ∧ (Tr ((!(((x0.length : Int) : Int) == 0)) = true)) ∧ (((((x0.length : Int) : Int) == 0) = false → (!(((x0.length : Int) : Int) == 0)) = true)) ∧ (((bif (((x0.length : Int) : Int) == 0) then true else (decide (((WEdit.at_ y_4) : Int) < (WEdit.at_ y_3)))) = true → ((0 : Int) ≤ 0 ∧ 0 < (x1.length : Int)) ∧ ((x10.length + ([y_4]).length) * 32 ≤ 140737488355328) ∧ ((0 : Int) ≤ 1 ∧ 1 ≤ (x1.length : Int)) ∧ (N0 (head130_0 p q at_ one x0 (List.drop (Int.toNat 1) x1) (x10 ++ ([y_4]))))) ∧ ((bif (((x0.length : Int) : Int) == 0) then true else (decide (((WEdit.at_ y_4) : Int) < (WEdit.at_ y_3)))) = false → ((0 : Int) ≤ 0 ∧ 0 < (x0.length : Int)) ∧ ((0 : Int) ≤ 0 ∧ 0 < (x1.length : Int)) ∧ (pre24 (y_3, y_4, ())) ∧ ((((!((comW y_3 y_4).2)) = true → (Q .ret (⟨[(8, .c (.nils)), (9, .c (.bool false))], [], []⟩ : LSt U))) ∧ ((!((comW y_3 y_4).2)) = false → ((x10.length + ([y_5]).length) * 32 ≤ 140737488355328) ∧ ((0 : Int) ≤ 1 ∧ 1 ≤ (x0.length : Int)) ∧ ((0 : Int) ≤ 1 ∧ 1 ≤ (x1.length : Int)) ∧ (N0 (head130_0 p q at_ one (List.drop (Int.toNat 1) x0) (List.drop (Int.toNat 1) x1) (x10 ++ ([y_5])))))))))))) ∧ ((bif (decide ((0 : Int) < (x0.length : Int))) then true else (decide ((0 : Int) < (x1.length : Int)))) = false → (Q .ret (⟨[(8, .c (.slice (U := U) .wedit x10 (.own (.e 8 0)))), (9, .c (.bool true))], [], []⟩ : LSt U))))) :
    A130 [1, 1, 0, 0, 0] (head130_0 p q at_ one x0 x1 x10) (AExit.then N0 (AExit.inBlock 0 (S130 [1, 1, 1] Q))) :=
  Eq.mpr (by kernel_rfl) (h _ rfl _ rfl _ (reWedit_eq _) _ (reWedit_eq _) _ (reWedit_eq _))
def Body130 (p : List WEdit) (q : List WEdit) (at_ : Unit) (one : Unit)  : Prop := awp cfg (know (know130)) (drawOk cfg (know (know130))) Try.f130.ntmps lv130 (cd Try.f130 []) (entry (args130.can (p, q, at_, one, ())) []) (EndsQ cfg Try.f130.ntmps Try.f130.results.toList (res130 (p, q, at_, one, ())) [])
theorem make130 (c131 : Contract Try.prog cfg 131 spec131) (c24 : Contract Try.prog cfg 24 spec24) (hb : ∀ (p : List WEdit) (q : List WEdit) (at_ : Unit) (one : Unit) (_ : Unit), pre130 (p, q, at_, one, ()) → Body130 p q at_ one) : Contract Try.prog cfg 130 spec130 :=
  contract_flat (l := [(131, spec131), (24, spec24)]) cfgOk rfl (⟨c131, c24, trivial⟩) lv130 Try.func130 rfl rfl 4 (fun _ => rfl) (by decide) (fun ⟨p, q, at_, one, _⟩ => hb p q at_ one ())
noncomputable def know96 : List (FuncId × Fs U) := [(130, spec130)]
def lv96 : Lives U := fun i => match i with
  | 0 => ([(0, []), (1, [])], [])
  | 1 => ([(4, []), (5, [])], [])
  | _ => ([], [])
noncomputable abbrev A96 (p : List Nat) := awp cfg (know know96) (drawOk cfg (know know96)) Try.f96.ntmps lv96 (cd Try.f96 p)
theorem vc96 (p : List WEdit) (q : List WEdit) (Q : AExit → LSt U → Prop) (h : ((pre130 (p, q, (), (), ())) ∧ (Q .ret (⟨[(4, .c (.slice (U := U) .wedit (ofO (mergeF WEdit.at_ comW p q)) .unk)), (5, .c (.bool ((mergeF WEdit.at_ comW p q).isSome)))], [], []⟩ : LSt U)))) :
    A96 [] (⟨[(0, .c (.slice (U := U) .wedit p .unk)), (1, .c (.slice (U := U) .wedit q .unk))], [], []⟩ : LSt U) Q :=
  Eq.mpr (by kernel_rfl) h
def Body96 (p : List WEdit) (q : List WEdit)  : Prop := awp cfg (know (know96)) (drawOk cfg (know (know96))) Try.f96.ntmps lv96 (cd Try.f96 []) (entry (args96.can (p, q, ())) []) (EndsQ cfg Try.f96.ntmps Try.f96.results.toList (res96 (p, q, ())) [])
theorem make96 (c130 : Contract Try.prog cfg 130 spec130) (hb : ∀ (p : List WEdit) (q : List WEdit) (_ : Unit), pre96 (p, q, ()) → Body96 p q) : Contract Try.prog cfg 96 spec96 :=
  contract_flat (l := [(130, spec130)]) cfgOk rfl (⟨c130, trivial⟩) lv96 Try.func96 rfl rfl 2 (fun _ => rfl) (by decide) (fun ⟨p, q, _⟩ => hb p q ())
end Go.AM.Ytpjenobkibfpcaa
