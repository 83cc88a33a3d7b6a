import Derived.Test.YtpjenobkibfpcaaGreatZKC34
import Derived.Test.YtpjenobkibfpcaaGreatZKD20
import Derived.Test.YtpjenobkibfpcaaGreatZmZ
set_option linter.unusedSimpArgs false
set_option linter.unusedVariables false
namespace Go.AM.YtpjenobkibfpcaaGreat
open Go.AM Go.Proofs
theorem ends_bool {n k : Nat} {rs : List ResultVar} {b b' : Bool} (hr : rs = [ResultVar.tmp k]) (h : b = b') : EndsQ cfg n rs (.c (.bool b')) [] .ret (⟨[(k, .c (.bool b))], [], []⟩ : LSt U) := by
  subst hr h
  have hk : Nat.beq k k = true := Nat.beq_refl k
  simp [EndsQ, Ends, EndsL, LsEnd, resAll, resOne, LSt.toF, look, hk, partsV, resTok, passC, passC1, leR, leL, leC, XEnd]
theorem ends_int {n k : Nat} {rs : List ResultVar} {K : IntKind} {b b' : Int} (hr : rs = [ResultVar.tmp k]) (h : b = b') : EndsQ cfg n rs (.c (.int K b')) [] .ret (⟨[(k, .c (.int K b))], [], []⟩ : LSt U) := by
  subst hr h
  have hk : Nat.beq k k = true := Nat.beq_refl k
  simp [EndsQ, Ends, EndsL, LsEnd, resAll, resOne, LSt.toF, look, hk, partsV, resTok, passC, passC1, leR, leL, leC, XEnd]
theorem wd_le (c : Int) : -1 ≤ wd c ∧ wd c ≤ 64 := by
  unfold wd
  repeat' split
  all_goals omega
theorem c232 : Contract Tryz.prog cfg 232 spec232 := by
  refine make232 ?_
  intro c _ _
  refine vc232 _ _ ?_; (try simp only [vcT, forall_eq])
  (simp only [vcS]); (try simp only [vcT])
  have hw := wd_le c
  refine ⟨fun h => ?_, fun h => ⟨by omega, ?_⟩⟩
  · have e : wd c = -1 := by unfold wd; (repeat' split) <;> omega
    simp only [res232, e]
    exact ⟨⟨rfl, ⟨⟨rfl, rfl⟩, trivial⟩, rfl, ⟨rfl, trivial⟩, trivial⟩, trivial⟩
  · have hc : c = 0 ∨ c = 1 ∨ c = 2 ∨ c = 3 ∨ c = 4 ∨ c = 5 := by omega
    rcases hc with rfl | rfl | rfl | rfl | rfl | rfl <;> exact ⟨⟨rfl, ⟨⟨rfl, rfl⟩, trivial⟩, rfl, ⟨rfl, trivial⟩, trivial⟩, trivial⟩
theorem fdiv_pow (n : Int) (w : Nat) (h : 0 ≤ n) : (Int.fdiv n (2 ^ w) = 0) ↔ n < 2 ^ w := by
  have hp : (0 : Int) < 2 ^ w := Int.pow_pos (by omega)
  rw [Int.fdiv_eq_ediv_of_nonneg _ (by omega)]
  constructor
  · intro h1
    have := Int.lt_ediv_add_one_mul_self n hp
    rw [h1] at this
    simpa using this
  · intro h1
    exact Int.ediv_eq_zero_of_lt h h1
theorem c221 : Contract Tryz.prog cfg 221 spec221 := by
  refine make221 c232 ?_
  intro c n _ hp
  simp only [pre221] at hp
  have hw := wd_le c
  refine vc221 _ _ _ ?_; (try simp only [vcT, forall_eq])
  refine ⟨trivial, fun h => by split <;> omega, fun a b => by simp only [a, b]; rfl, ends_bool rfl ?_⟩
  simp only [fits]
  by_cases h0 : 0 ≤ wd c
  · rw [if_neg (by omega)]
    simp only [h0, decide_true, cond_true, true_and]
    by_cases h64 : wd c = 64
    · simp [h64]
      omega
    · have : ((wd c) == 64) = false := by simpa using h64
      rw [this, cond_false, Bool.eq_iff_iff]
      have hm : min (wd c).toNat (IntKind.bits .u64) = (wd c).toNat := by
        show min (wd c).toNat 64 = _
        omega
      rw [hm]
      simp only [beq_iff_eq, decide_eq_true_eq]
      exact fdiv_pow n _ hp.1
  · simp [h0]
theorem c125 : Contract Tryz.prog cfg 125 spec125 := by
  refine make125 ?_
  intro c _ _
  refine vc125 _ _ ?_; (try simp only [vcT, forall_eq])
  refine ends_bool rfl ?_
  rw [Bool.eq_iff_iff]
  (simp only [vcS])
theorem c220 : Contract Tryz.prog cfg 220 spec220 := by
  refine make220 ?_
  intro c _ _
  refine vc220 _ _ ?_; (try simp only [vcT, forall_eq])
  refine ends_bool rfl ?_
  rw [Bool.eq_iff_iff]
  (simp only [vcS])
theorem rng_word {t : Tree} (h : rng t) {i : Nat} (hi : i < t.words.length) : 0 ≤ t.words.getD i 0 ∧ t.words.getD i 0 < 18446744073709551616 := by
  obtain ⟨k, w, ks⟩ := t
  simp only [rng] at h
  simp only [Tree.words_mk] at *
  have hg : w.getD i 0 ∈ w := by
    simp only [List.getD, List.getElem?_eq_getElem hi, Option.getD_some]
    exact List.getElem_mem hi
  exact h.2.1 _ hg
theorem c181 : Contract Tryz.prog cfg 181 spec181 := by
  refine make181 c220 c221 ?_
  intro l t _ hp
  simp only [pre181] at hp
  refine vc181 _ _ _ ?_; (try simp only [vcT, forall_eq])
  (simp only [vcS]); (try simp only [vcT])
  refine ⟨trivial, fun hd => ⟨fun _ => by unfold InR; omega, fun h => by omega, fun h => rng_word hp (by omega), ends_bool rfl ?_⟩, fun hd => ⟨fun h => ends_bool rfl ?_, fun h => ends_bool rfl ?_⟩⟩
  · simp only [kidB, if_pos hd, Int.toNat_zero]
    rw [Bool.eq_iff_iff]
    (simp only [vcS])
    constructor <;> (rintro ⟨h1, h2⟩; exact ⟨by omega, h2⟩)
  · simp only [kidB, if_neg hd, if_pos h]
    rw [Bool.eq_iff_iff]
    (simp only [vcS])
  · simp only [kidB, if_neg hd, if_neg h]
    rw [Bool.eq_iff_iff]
    (simp only [vcS])
theorem rightK_drop {l : Int} {ks : List Tree} {i : Int} {d : Int} (h0 : 0 ≤ i) (h : i < ks.length) :
    rightK l (ks.drop i.toNat) d = ((kidB l (ks.getD i.toNat Tree.nil) && rightT (ks.getD i.toNat Tree.nil) d) && rightK l (ks.drop (i + 1).toNat) d) := by
  have e : (i + 1).toNat = i.toNat + 1 := by omega
  rw [List.drop_eq_getElem_cons (by omega), e]
  simp only [rightK, List.getD, List.getElem?_eq_getElem (show i.toNat < ks.length by omega), Option.getD_some]
theorem rngK_get : ∀ {ks : List Tree} {i : Nat}, rngK ks → i < ks.length → rng (ks.getD i Tree.nil)
  | t :: _, 0, h, _ => by simp only [rngK] at h; exact h.1
  | _ :: r, i + 1, h, hi => by simp only [rngK] at h; exact rngK_get (ks := r) (i := i) h.2 (by simpa using hi)
theorem kidB_one (t : Tree) : kidB 1 t = decide (t.kind ≠ 10) := by simp [kidB]
theorem c130 : Contract Tryz.prog cfg 130 spec130 := by
  refine make130 c125 c181 ?_
  rintro N ⟨k, ws, ks⟩ d _ hp hN
  simp only [pre130, mu130, mass, rng] at hp hN
  have key : ∀ b, d ≠ 0 → rightT (.mk k ws ks) d = (b && rightK k ks (d - 1)) → b = true →
      LoopWp (awp cfg (know (know130 N)) (drawOk cfg (know (know130 N))) Tryz.f130.ntmps lv130 (cd Tryz.f130 [1, 1, 0, 1, 0, 0])) (head130_0 (.mk k ws ks) d 0) (AExit.inBlock 1 (seqK cfg (know (know130 N)) (drawOk cfg (know (know130 N))) Tryz.f130.ntmps lv130 (cd Tryz.f130 [1, 1, 1]) (EndsQ cfg Tryz.f130.ntmps Tryz.f130.results.toList (res130 (.mk k ws ks, d, ())) []))) := by
    intro b hd0 hb hbt
    subst hbt
    rw [Bool.true_and] at hb
    refine loop_rule (ι := Int) (fun p => head130_0 (.mk k ws ks) d p) (fun p => 0 ≤ p ∧ p ≤ ks.length ∧ rightT (.mk k ws ks) d = rightK k (ks.drop p.toNat) (d - 1)) (fun p => ((ks.length : Int) - p).toNat) 0 rfl ⟨by omega, by omega, by simpa using hb⟩ ?_
    rintro i ⟨h1, h2, h3⟩
    refine vc130_l0 N _ _ _ _ _ ?_; (try simp only [vcT, forall_eq])
    (simp only [vcS]); (try simp only [vcT])
    try (simp only [Tree.eta, Edit.eta, Tree.kind_mk, Tree.words_mk, Tree.kids_mk])
    refine ⟨fun hi => ⟨⟨by omega, hi⟩, ?_⟩, fun hi => ?_⟩
    · have hd := rightK_drop (l := k) (d := d - 1) h1 hi
      have hm := massK_get (ks := ks) (i := i.toNat) (by omega)
      have hr := rngK_get (i := i.toNat) hp.2.1.2.2 (by omega)
      rw [hd] at h3
      have hlen := massK_len ks
      generalize ks.getD i.toNat Tree.nil = y at *
      have hpre : pre130 (y, d - 1, ()) := ⟨by dsimp only; omega, hr, by dsimp only; omega, by dsimp only; omega⟩
      have hmu : mu130 (y, d - 1, ()) < N := by simp only [mu130]; omega
      have hin : InR (d - 1) := by unfold InR; omega
      refine ⟨fun hk => ⟨hr, fun _ => hin, fun _ => hpre, fun _ => hmu, fun hc => ends_bool rfl ?_, fun hc => ⟨by unfold InR; omega, i + 1, rfl, ⟨by omega, by omega, ?_⟩, by omega⟩⟩, fun hk => ⟨fun _ => hin, fun _ => hpre, fun _ => hmu, fun hc => ends_bool rfl ?_, fun hc => ⟨by unfold InR; omega, i + 1, rfl, ⟨by omega, by omega, ?_⟩, by omega⟩⟩⟩
      · rw [h3]
        rcases hc with hc | hc <;> simp [hc]
      · rw [h3, hc.1, hc.2]; rfl
      · subst hk
        rw [h3, kidB_one]
        rcases hc with hc | hc <;> simp [hc]
      · subst hk
        rw [h3, kidB_one, hc.2]
        simp [hc.1]
    · rw [List.drop_eq_nil_of_le (by omega)] at h3
      simp only [rightK] at h3
      exact ends_bool rfl h3.symm
  refine vc130 N _ _ _ ?_; (try simp only [vcT, forall_eq])
  (simp only [vcS]); (try simp only [vcT])
  try (simp only [Tree.eta, Edit.eta, Tree.kind_mk, Tree.words_mk, Tree.kids_mk])
  have hk0 : ∀ h0 : k = 0, rightT (.mk k ws ks) d = decide (ws.length = 0 ∧ ks.length = 0) := fun h0 => by simp only [rightT, if_pos h0]
  have hk10 : ∀ (_ : ¬k = 0) (h10 : k = 10), rightT (.mk k ws ks) d = decide (ws.length = 1 ∧ ks.length = 0) := fun h0 h10 => by simp only [rightT, if_neg h0, if_pos h10]
  refine ⟨fun h0 => ends_bool rfl ?_, fun h0 => ⟨fun h10 => ends_bool rfl ?_, fun h10 => ⟨fun hd => ends_bool rfl ?_, fun hd => ⟨fun h1 => ⟨fun hc => ends_bool rfl ?_, fun hc => key true hd ?_ rfl⟩, fun h1 => ⟨trivial, fun hc => ends_bool rfl ?_, fun hc => key true hd ?_ rfl⟩⟩⟩⟩⟩
  · rw [hk0 h0, Bool.eq_iff_iff]; (simp only [vcS]); omega
  · rw [hk10 h0 h10, Bool.eq_iff_iff]; (simp only [vcS]); omega
  · simp only [rightT, if_neg h0, if_neg h10, if_pos hd]
  · simp only [rightT, if_neg h0, if_neg h10, if_neg hd, if_pos h1]
    rw [decide_eq_false (by omega)]; rfl
  · simp only [rightT, if_neg h0, if_neg h10, if_neg hd, if_pos h1]
    rw [decide_eq_true (by omega), h1]
  · simp only [rightT, if_neg h0, if_neg h10, if_neg hd, if_neg h1]
    rw [decide_eq_false (by omega)]; rfl
  · simp only [rightT, if_neg h0, if_neg h10, if_neg hd, if_neg h1]
    rw [decide_eq_true (by omega)]
theorem c82 : Contract Tryz.prog cfg 82 spec82 := by
  refine make82 c130 ?_
  intro t _ hp
  refine vc82 _ _ ?_; (try simp only [vcT, forall_eq])
  try (simp only [Tree.eta, Edit.eta, Tree.kind_mk, Tree.words_mk, Tree.kids_mk])
  exact ⟨⟨hp.1, hp.2, by dsimp only; omega, by dsimp only; omega⟩, ends_bool rfl rfl⟩
end Go.AM.YtpjenobkibfpcaaGreat

namespace Go.AM.YtpjenobkibfpcaaGreat
open Go.AM Go.Proofs
def args91 : ArgL (Edit × Int × Int × Unit) := (.cons (aEl .edit) (.cons (aInt .i64) (.cons (aInt .i64) .nil)))
def pre91 (a : Edit × Int × Int × Unit) : Prop := smallE a.1 ∧ 0 ≤ a.2.1 ∧ a.2.1 ≤ 4611686018427387904 ∧ -1 ≤ a.2.2.1 ∧ a.2.2.1 ≤ 4611686018427387904
def mu91 (a : Edit × Int × Int × Unit) : Nat := massE a.1
noncomputable def res91 (a : Edit × Int × Int × Unit) : V U := .c (.int .i64 (leftE a.1 a.2.1 a.2.2.1))
noncomputable def spec91 : Fs U := fs args91 (fun a => [pre91 a]) res91
def args45 : ArgL (Edit × Unit) := (.cons (aEl .edit) .nil)
def pre45 (a : Edit × Unit) : Prop := smallE a.1
noncomputable def res45 (a : Edit × Unit) : V U := .c (.bool (decide (0 ≤ leftE a.1 80 3000)))
noncomputable def spec45 : Fs U := fs args45 (fun a => [pre45 a]) res45
noncomputable def know91 (N : Nat) : List (FuncId × Fs U) := (91, fs args91 (fun a => [pre91 a, mu91 a < N]) res91) :: [(80, spec80)]
def lv91 : Lives U := fun i => match i with
  | 0 => ([(1, []), (2, []), (3, [])], [((.loc 3), [])])
  | 1 => ([(1, []), (2, []), (3, [])], [((.loc 3), [])])
  | 2 => ([(1, []), (2, []), (3, []), (25, [])], [((.loc 3), [])])
  | 3 => ([(6, [])], [])
  | 4 => ([(1, []), (2, []), (3, [])], [((.loc 3), [])])
  | 5 => ([(1, []), (2, []), (3, []), (31, [])], [((.loc 3), [])])
  | 6 => ([(1, []), (2, []), (3, []), (31, [])], [((.loc 3), [])])
  | 7 => ([(1, []), (2, []), (3, []), (7, [])], [((.loc 3), [])])
  | 8 => ([(1, []), (2, []), (3, []), (7, []), (44, [])], [((.loc 3), [])])
  | 9 => ([(1, []), (2, []), (3, []), (7, [])], [((.loc 3), [])])
  | 10 => ([(1, []), (2, []), (3, []), (7, [])], [((.loc 3), [])])
  | 11 => ([(1, []), (2, []), (3, []), (8, [])], [((.loc 3), [])])
  | 12 => ([(1, []), (2, []), (3, []), (8, []), (65, [])], [((.loc 3), [])])
  | 13 => ([(1, []), (2, []), (3, []), (8, [])], [((.loc 3), [])])
  | 14 => ([(1, []), (2, []), (3, []), (8, []), (9, [])], [((.loc 3), [])])
  | 15 => ([(1, []), (2, []), (3, []), (8, []), (9, []), (80, [])], [((.loc 3), [])])
  | 16 => ([(1, []), (2, []), (3, []), (8, []), (9, [])], [((.loc 3), [])])
  | 17 => ([(1, []), (2, []), (3, []), (8, []), (9, [])], [((.loc 3), [])])
  | 18 => ([(1, []), (2, []), (3, []), (8, []), (95, [])], [((.loc 3), [])])
  | 19 => ([(1, []), (2, []), (3, []), (8, [])], [((.loc 3), [])])
  | 20 => ([(6, [])], [])
  | _ => ([], [])
noncomputable def head91_0 (e : Edit) (d : Int) (n : Int) (x2 : Int) : LSt U := (⟨[(1, .c (.int .i64 d)), (2, .c (.int .i64 x2)), (3, .ptr (.loc 3) 0), (31, .c (.bool (decide ((0 : Int) ≤ (shallow (Tree.mk (Tree.kind (Edit.old e)) (Tree.words (Edit.old e)) (Tree.kids (Edit.old e))) 80 ((((((n : Int) - 1) : Int) - ((Edit.words e).length : Int)) : Int) - ((Edit.ops e).length : Int)))))))], [((.loc 3), [.int .i64 (Edit.kind e), .int .i64 (Tree.kind (Edit.old e)), .slice (U := U) .u64 (Tree.words (Edit.old e)) .unk, .slice (U := U) .tree (Tree.kids (Edit.old e)) .unk, .int .i64 (Tree.kind (Edit.new e)), .slice (U := U) .u64 (Tree.words (Edit.new e)) .unk, .slice (U := U) .tree (Tree.kids (Edit.new e)) .unk, .slice (U := U) .wedit (Edit.words e) .unk, .slice (U := U) .kid (Edit.kids e) .unk, .int .i64 (Edit.list e), .slice (U := U) .op (Edit.ops e) .unk])], []⟩ : LSt U)
noncomputable def head91_1 (e : Edit) (d : Int) (n : Int) (x2_a : Int) (x7_a : Int) : LSt U := (⟨[(1, .c (.int .i64 d)), (2, .c (.int .i64 x2_a)), (3, .ptr (.loc 3) 0), (7, .c (.int .i64 x7_a))], [((.loc 3), [.int .i64 (Edit.kind e), .int .i64 (Tree.kind (Edit.old e)), .slice (U := U) .u64 (Tree.words (Edit.old e)) .unk, .slice (U := U) .tree (Tree.kids (Edit.old e)) .unk, .int .i64 (Tree.kind (Edit.new e)), .slice (U := U) .u64 (Tree.words (Edit.new e)) .unk, .slice (U := U) .tree (Tree.kids (Edit.new e)) .unk, .slice (U := U) .wedit (Edit.words e) .unk, .slice (U := U) .kid (Edit.kids e) .unk, .int .i64 (Edit.list e), .slice (U := U) .op (Edit.ops e) .unk])], []⟩ : LSt U)
noncomputable def head91_2 (e : Edit) (d : Int) (n : Int) (x2_b : Int) (x8_b : Int) : LSt U := (⟨[(1, .c (.int .i64 d)), (2, .c (.int .i64 x2_b)), (3, .ptr (.loc 3) 0), (8, .c (.int .i64 x8_b))], [((.loc 3), [.int .i64 (Edit.kind e), .int .i64 (Tree.kind (Edit.old e)), .slice (U := U) .u64 (Tree.words (Edit.old e)) .unk, .slice (U := U) .tree (Tree.kids (Edit.old e)) .unk, .int .i64 (Tree.kind (Edit.new e)), .slice (U := U) .u64 (Tree.words (Edit.new e)) .unk, .slice (U := U) .tree (Tree.kids (Edit.new e)) .unk, .slice (U := U) .wedit (Edit.words e) .unk, .slice (U := U) .kid (Edit.kids e) .unk, .int .i64 (Edit.list e), .slice (U := U) .op (Edit.ops e) .unk])], []⟩ : LSt U)
noncomputable def head91_3 (e : Edit) (d : Int) (n : Int) (x8_b : Int) (x2_c : Int) (x9_c : Int) : LSt U := (⟨[(1, .c (.int .i64 d)), (2, .c (.int .i64 x2_c)), (3, .ptr (.loc 3) 0), (8, .c (.int .i64 x8_b)), (9, .c (.int .i64 x9_c))], [((.loc 3), [.int .i64 (Edit.kind e), .int .i64 (Tree.kind (Edit.old e)), .slice (U := U) .u64 (Tree.words (Edit.old e)) .unk, .slice (U := U) .tree (Tree.kids (Edit.old e)) .unk, .int .i64 (Tree.kind (Edit.new e)), .slice (U := U) .u64 (Tree.words (Edit.new e)) .unk, .slice (U := U) .tree (Tree.kids (Edit.new e)) .unk, .slice (U := U) .wedit (Edit.words e) .unk, .slice (U := U) .kid (Edit.kids e) .unk, .int .i64 (Edit.list e), .slice (U := U) .op (Edit.ops e) .unk])], []⟩ : LSt U)
noncomputable abbrev A91 (N : Nat) (p : List Nat) := awp cfg (know (know91 N)) (drawOk cfg (know (know91 N))) Tryz.f91.ntmps lv91 (cd Tryz.f91 p)
noncomputable abbrev S91 (N : Nat) (p : List Nat) := seqK cfg (know (know91 N)) (drawOk cfg (know (know91 N))) Tryz.f91.ntmps lv91 (cd Tryz.f91 p)
theorem vc91 (N : Nat) (e : Edit) (d : Int) (n : Int) (Q : AExit → LSt U → Prop) (h : ∀ y_1, y_1 = ((Edit.new e)) → ∀ y_2, y_2 = ((Edit.old e)) → ∀ y_3, y_3 = (shallow y_2 80 ((((((n : Int) - 1) : Int) - ((Edit.words e).length : Int)) : Int) - ((Edit.ops e).length : Int))) → ((InR ((n : Int) - 1)) ∧ (InR ((((n : Int) - 1) : Int) - ((Edit.words e).length : Int))) ∧ (InR ((((((n : Int) - 1) : Int) - ((Edit.words e).length : Int)) : Int) - ((Edit.ops e).length : Int))) ∧ ((Tr ((!((d : Int) == 0)) = true)) ∧ ((((d : Int) == 0) = false → (!((d : Int) == 0)) = true)) ∧ (((bif ((d : Int) == 0) then true else (decide ((((((((n : Int) - 1) : Int) - ((Edit.words e).length : Int)) : Int) - ((Edit.ops e).length : Int)) : Int) < 0))) = true → (Q .ret (⟨[(6, .c (.int .i64 (-1)))], [], []⟩ : LSt U))) ∧ ((bif ((d : Int) == 0) then true else (decide ((((((((n : Int) - 1) : Int) - ((Edit.words e).length : Int)) : Int) - ((Edit.ops e).length : Int)) : Int) < 0))) = false → (pre80 (y_2, 80, ((((((n : Int) - 1) : Int) - ((Edit.words e).length : Int)) : Int) - ((Edit.ops e).length : Int)), ())) ∧ ((((decide ((0 : Int) ≤ y_3)) = true → (pre80 (y_1, 80, y_3, ())) ∧ (A91 N [1, 1, 1, 1, 1] (head91_0 e d n (shallow y_1 80 y_3)) Q)) ∧ ((decide ((0 : Int) ≤ y_3)) = false → A91 N [1, 1, 1, 1, 1] (head91_0 e d n y_3) Q)))))))) :
    A91 N [] (⟨[(0, .agg [.int .i64 (Edit.kind e), .int .i64 (Tree.kind (Edit.old e)), .slice (U := U) .u64 (Tree.words (Edit.old e)) .unk, .slice (U := U) .tree (Tree.kids (Edit.old e)) .unk, .int .i64 (Tree.kind (Edit.new e)), .slice (U := U) .u64 (Tree.words (Edit.new e)) .unk, .slice (U := U) .tree (Tree.kids (Edit.new e)) .unk, .slice (U := U) .wedit (Edit.words e) .unk, .slice (U := U) .kid (Edit.kids e) .unk, .int .i64 (Edit.list e), .slice (U := U) .op (Edit.ops e) .unk]), (1, .c (.int .i64 d)), (2, .c (.int .i64 n))], [], []⟩ : LSt U) Q :=
  Eq.mpr (by kernel_rfl) (h _ (reTree_eq _) _ (reTree_eq _) _ rfl)
abbrev W91_c0 (N : Nat) (e : Edit) (d : Int) (n : Int) (x2 : Int) (Q : AExit → LSt U → Prop) : Prop := A91 N [1, 1, 1, 1, 1] (head91_0 e d n x2) Q
theorem vc91_c0 (N : Nat) (e : Edit) (d : Int) (n : Int) (x2 : Int) (Q : AExit → LSt U → Prop) (h : (LoopWp (A91 N [1, 1, 1, 1, 1, 0, 1, 0, 0]) (head91_1 e d n x2 0) (AExit.inBlock 0 (S91 N [1, 1, 1, 1, 1, 1] Q)))) :
    A91 N [1, 1, 1, 1, 1] (head91_0 e d n x2) Q :=
  Eq.mpr (by kernel_rfl) h
theorem vc91_l1 (N : Nat) (e : Edit) (d : Int) (n : Int) (x2_a : Int) (x7_a : Int) (N1 : LSt U → Prop) (Q : AExit → LSt U → Prop) (h : ∀ y_1, y_1 = (List.getD (Edit.kids e) (Int.toNat x7_a) (KidOf.mk 0 Edit.nil)) → ∀ y_2, y_2 = ((KidOf.e y_1)) → (Tr ((decide ((x7_a : Int) < ((Edit.kids e).length : Int))) = true)) ∧ ((Tr ((decide ((x7_a : Int) < ((Edit.kids e).length : Int))) = true))) ∧ (((bif (decide ((x7_a : Int) < ((Edit.kids e).length : Int))) then (decide ((0 : Int) ≤ x2_a)) else false) = true → ((0 : Int) ≤ x7_a ∧ x7_a < ((Edit.kids e).length : Int)) ∧ (InR ((d : Int) - 1)) ∧ (pre91 (y_2, ((d : Int) - 1), x2_a, ())) ∧ (mu91 (y_2, ((d : Int) - 1), x2_a, ()) < N) ∧ ((InR ((x7_a : Int) + 1)) ∧ (N1 (head91_1 e d n (leftE y_2 ((d : Int) - 1) x2_a) ((x7_a : Int) + 1))))) ∧ ((bif (decide ((x7_a : Int) < ((Edit.kids e).length : Int))) then (decide ((0 : Int) ≤ x2_a)) else false) = false → (LoopWp (A91 N [1, 1, 1, 1, 1, 1, 0, 1, 0, 0]) (head91_2 e d n x2_a 0) (AExit.inBlock 2 (S91 N [1, 1, 1, 1, 1, 1, 1] Q)))))) :
    A91 N [1, 1, 1, 1, 1, 0, 1, 0, 0] (head91_1 e d n x2_a x7_a) (AExit.then N1 (AExit.inBlock 0 (S91 N [1, 1, 1, 1, 1, 1] Q))) :=
  Eq.mpr (by kernel_rfl) (h _ rfl _ (reEdit_eq _))
theorem vc91_l2 (N : Nat) (e : Edit) (d : Int) (n : Int) (x2_b : Int) (x8_b : Int) (N2 : LSt U → Prop) (Q : AExit → LSt U → Prop) (h : (Tr ((decide ((x8_b : Int) < ((Edit.ops e).length : Int))) = true)) ∧ ((Tr ((decide ((x8_b : Int) < ((Edit.ops e).length : Int))) = true))) ∧ (((bif (decide ((x8_b : Int) < ((Edit.ops e).length : Int))) then (decide ((0 : Int) ≤ x2_b)) else false) = true → (LoopWp (A91 N [1, 1, 1, 1, 1, 1, 0, 1, 0, 0, 1, 0, 0, 0, 1, 0, 0]) (head91_3 e d n x8_b x2_b 0) (AExit.inBlock 4 (S91 N [1, 1, 1, 1, 1, 1, 0, 1, 0, 0, 1, 0, 0, 1] (AExit.inBlock 3 (S91 N [1, 1, 1, 1, 1, 1, 0, 1, 0, 0, 1, 1] (AExit.then N2 (AExit.inBlock 2 (S91 N [1, 1, 1, 1, 1, 1, 1] Q))))))))) ∧ ((bif (decide ((x8_b : Int) < ((Edit.ops e).length : Int))) then (decide ((0 : Int) ≤ x2_b)) else false) = false → (Q .ret (⟨[(6, .c (.int .i64 x2_b))], [], []⟩ : LSt U))))) :
    A91 N [1, 1, 1, 1, 1, 1, 0, 1, 0, 0] (head91_2 e d n x2_b x8_b) (AExit.then N2 (AExit.inBlock 2 (S91 N [1, 1, 1, 1, 1, 1, 1] Q))) :=
  Eq.mpr (by kernel_rfl) h
theorem vc91_l3 (N : Nat) (e : Edit) (d : Int) (n : Int) (x8_b : Int) (x2_c : Int) (x9_c : Int) (N3 : LSt U → Prop) (N2 : LSt U → Prop) (Q : AExit → LSt U → Prop) (h : ∀ y_1, y_1 = (List.getD (Edit.ops e) (Int.toNat x8_b) Op.nil) → ∀ y_2, y_2 = ((OpOf.e y_1)) → ∀ y_3, y_3 = ((List.getD (OpOf.l y_1) (Int.toNat x9_c) Tree.nil)) → ((0 : Int) ≤ x8_b ∧ x8_b < ((Edit.ops e).length : Int)) ∧ (Tr ((decide ((x9_c : Int) < ((OpOf.l y_1).length : Int))) = true)) ∧ ((Tr ((decide ((x9_c : Int) < ((OpOf.l y_1).length : Int))) = true))) ∧ (((bif (decide ((x9_c : Int) < ((OpOf.l y_1).length : Int))) then (decide ((0 : Int) ≤ x2_c)) else false) = true → ((0 : Int) ≤ x8_b ∧ x8_b < ((Edit.ops e).length : Int)) ∧ ((0 : Int) ≤ x9_c ∧ x9_c < ((OpOf.l y_1).length : Int)) ∧ (pre80 (y_3, 80, x2_c, ())) ∧ ((InR ((x9_c : Int) + 1)) ∧ (N3 (head91_3 e d n x8_b (shallow y_3 80 x2_c) ((x9_c : Int) + 1))))) ∧ ((bif (decide ((x9_c : Int) < ((OpOf.l y_1).length : Int))) then (decide ((0 : Int) ≤ x2_c)) else false) = false → (((decide ((0 : Int) ≤ x2_c)) = true → ((0 : Int) ≤ x8_b ∧ x8_b < ((Edit.ops e).length : Int)) ∧ (InR ((d : Int) - 1)) ∧ (pre91 (y_2, ((d : Int) - 1), x2_c, ())) ∧ (mu91 (y_2, ((d : Int) - 1), x2_c, ()) < N) ∧ ((InR ((x8_b : Int) + 1)) ∧ (N2 (head91_2 e d n (leftE y_2 ((d : Int) - 1) x2_c) ((x8_b : Int) + 1))))) ∧ ((decide ((0 : Int) ≤ x2_c)) = false → (InR ((x8_b : Int) + 1)) ∧ (N2 (head91_2 e d n x2_c ((x8_b : Int) + 1)))))))) :
    A91 N [1, 1, 1, 1, 1, 1, 0, 1, 0, 0, 1, 0, 0, 0, 1, 0, 0] (head91_3 e d n x8_b x2_c x9_c) (AExit.then N3 (AExit.inBlock 4 (S91 N [1, 1, 1, 1, 1, 1, 0, 1, 0, 0, 1, 0, 0, 1] (AExit.inBlock 3 (S91 N [1, 1, 1, 1, 1, 1, 0, 1, 0, 0, 1, 1] (AExit.then N2 (AExit.inBlock 2 (S91 N [1, 1, 1, 1, 1, 1, 1] Q)))))))) :=
  Eq.mpr (by kernel_rfl) (h _ rfl _ (reEdit_eq _) _ (reTree_eq _))
def Body91 (N : Nat) (e : Edit) (d : Int) (n : Int)  : Prop := awp cfg (know (know91 N)) (drawOk cfg (know (know91 N))) Tryz.f91.ntmps lv91 (cd Tryz.f91 []) (entry (args91.can (e, d, n, ())) []) (EndsQ cfg Tryz.f91.ntmps Tryz.f91.results.toList (res91 (e, d, n, ())) [])
theorem make91 (c80 : Contract Tryz.prog cfg 80 spec80) (hb : ∀ (N : Nat) (e : Edit) (d : Int) (n : Int) (_ : Unit), pre91 (e, d, n, ()) → mu91 (e, d, n, ()) < N + 1 → Body91 N e d n) : Contract Tryz.prog cfg 91 spec91 :=
  contract_rec (μ := mu91) (l := [(80, spec80)]) cfgOk rfl (⟨c80, trivial⟩) lv91 Tryz.func91 rfl rfl 3 (fun _ => rfl) (by decide) (fun N ⟨e, d, n, _⟩ => hb N e d n ())
noncomputable def know45 : List (FuncId × Fs U) := [(91, spec91)]
def lv45 : Lives U := fun i => match i with
  | 0 => ([(1, [])], [((.loc 1), [])])
  | 1 => ([(2, [])], [])
  | _ => ([], [])
noncomputable abbrev A45 (p : List Nat) := awp cfg (know know45) (drawOk cfg (know know45)) Tryz.f45.ntmps lv45 (cd Tryz.f45 p)
theorem vc45 (e : Edit) (Q : AExit → LSt U → Prop) (h : ((pre91 ((Edit.mk (Edit.kind e) (Tree.mk (Tree.kind (Edit.old e)) (Tree.words (Edit.old e)) (Tree.kids (Edit.old e))) (Tree.mk (Tree.kind (Edit.new e)) (Tree.words (Edit.new e)) (Tree.kids (Edit.new e))) (Edit.words e) (Edit.kids e) (Edit.list e) (Edit.ops e)), 80, 3000, ())) ∧ (Q .ret (⟨[(2, .c (.bool (decide ((0 : Int) ≤ (leftE (Edit.mk (Edit.kind e) (Tree.mk (Tree.kind (Edit.old e)) (Tree.words (Edit.old e)) (Tree.kids (Edit.old e))) (Tree.mk (Tree.kind (Edit.new e)) (Tree.words (Edit.new e)) (Tree.kids (Edit.new e))) (Edit.words e) (Edit.kids e) (Edit.list e) (Edit.ops e)) 80 3000)))))], [], []⟩ : LSt U)))) :
    A45 [] (⟨[(0, .agg [.int .i64 (Edit.kind e), .int .i64 (Tree.kind (Edit.old e)), .slice (U := U) .u64 (Tree.words (Edit.old e)) .unk, .slice (U := U) .tree (Tree.kids (Edit.old e)) .unk, .int .i64 (Tree.kind (Edit.new e)), .slice (U := U) .u64 (Tree.words (Edit.new e)) .unk, .slice (U := U) .tree (Tree.kids (Edit.new e)) .unk, .slice (U := U) .wedit (Edit.words e) .unk, .slice (U := U) .kid (Edit.kids e) .unk, .int .i64 (Edit.list e), .slice (U := U) .op (Edit.ops e) .unk])], [], []⟩ : LSt U) Q :=
  Eq.mpr (by kernel_rfl) h
def Body45 (e : Edit)  : Prop := awp cfg (know (know45)) (drawOk cfg (know (know45))) Tryz.f45.ntmps lv45 (cd Tryz.f45 []) (entry (args45.can (e, ())) []) (EndsQ cfg Tryz.f45.ntmps Tryz.f45.results.toList (res45 (e, ())) [])
theorem make45 (c91 : Contract Tryz.prog cfg 91 spec91) (hb : ∀ (e : Edit) (_ : Unit), pre45 (e, ()) → Body45 e) : Contract Tryz.prog cfg 45 spec45 :=
  contract_flat (l := [(91, spec91)]) cfgOk rfl (⟨c91, trivial⟩) lv45 Tryz.func45 rfl rfl 1 (fun _ => rfl) (by decide) (fun ⟨e, _⟩ => hb e ())
end Go.AM.YtpjenobkibfpcaaGreat

namespace Go.AM.YtpjenobkibfpcaaGreat
open Go.AM Go.Proofs
theorem wrap_u64 {n : Int} (h0 : 0 ≤ n) (h1 : n < 18446744073709551616) : IntKind.wrap .u64 n = n := by
  simp [IntKind.wrap, IntKind.signed, IntKind.bits]; omega
theorem byteAt_range (w : Int) (i : Nat) : 0 ≤ byteAt w i ∧ byteAt w i < 256 := by
  unfold byteAt
  omega
theorem mixAt_range (a b m : Int) (i : Nat) : 0 ≤ mixAt a b m i ∧ mixAt a b m i < 256 := by
  unfold mixAt
  split
  · exact byteAt_range _ _
  · exact byteAt_range _ _
end Go.AM.YtpjenobkibfpcaaGreat

namespace Go.AM.YtpjenobkibfpcaaGreat
open Go.AM Go.Proofs
theorem drop_getD {α : Type} {l : List α} {i : Nat} (h : i < l.length) (d : α) : l.drop i = l.getD i d :: l.drop (i + 1) := by
  rw [List.drop_eq_getElem_cons h]
  simp [List.getD, h]
theorem dropI {α : Type} {l : List α} {i : Int} (h0 : 0 ≤ i) (h : i < l.length) (d : α) : l.drop i.toNat = l.getD i.toNat d :: l.drop (i + 1).toNat := by
  rw [drop_getD (by omega) d, show i.toNat + 1 = (i + 1).toNat by omega]
theorem mem_getD {α : Type} {l : List α} {i : Nat} (h : i < l.length) (d : α) : l.getD i d ∈ l := by
  simp only [List.getD, List.getElem?_eq_getElem h, Option.getD_some]
  exact List.getElem_mem h
theorem mass_pos (t : Tree) : 1 ≤ mass t := by cases t; simp only [mass]; omega
theorem massE_pos (e : Edit) : 1 ≤ massE e := by cases e; simp only [massE]; omega
theorem massKid_e (k : Kid) : massKid k = massE k.e := by cases k; rfl
theorem massOp_e (o : Op) : massOp o = massK o.l + massE o.e := by cases o; rfl
theorem massK_mem : ∀ {ks : List Tree} {t : Tree}, t ∈ ks → mass t ≤ massK ks
  | x :: r, t, h => by
    simp only [massK]
    rcases List.mem_cons.1 h with rfl | h
    · omega
    · have := massK_mem h; omega
theorem massKs_mem : ∀ {ks : List Kid} {k : Kid}, k ∈ ks → massE k.e ≤ massKs ks
  | x :: r, k, h => by
    simp only [massKs, massKid_e]
    rcases List.mem_cons.1 h with rfl | h
    · omega
    · have := massKs_mem h; omega
theorem massOs_mem : ∀ {os : List Op} {o : Op}, o ∈ os → massOp o ≤ massOs os
  | x :: r, o, h => by
    simp only [massOs]
    rcases List.mem_cons.1 h with rfl | h
    · omega
    · have := massOs_mem h; omega
theorem massKs_len : ∀ (ks : List Kid), ks.length ≤ massKs ks
  | [] => by simp [massKs]
  | k :: r => by
    have := massKs_len r
    have := massE_pos k.e
    simp only [massKs, massKid_e, List.length_cons]
    omega
theorem massOs_len : ∀ (os : List Op), os.length ≤ massOs os
  | [] => by simp [massOs]
  | o :: r => by
    have := massOs_len r
    have := massE_pos o.e
    simp only [massOs, massOp_e, List.length_cons]
    omega
theorem smallK_mem : ∀ {ks : List Tree} {t : Tree}, smallK ks → t ∈ ks → small t
  | x :: r, t, hs, h => by
    simp only [smallK] at hs
    rcases List.mem_cons.1 h with rfl | h
    · exact hs.1
    · exact smallK_mem hs.2 h
theorem smallKs_mem : ∀ {ks : List Kid} {k : Kid}, smallKs ks → k ∈ ks → smallE k.e
  | x :: r, k, hs, h => by
    simp only [smallKs] at hs
    rcases List.mem_cons.1 h with rfl | h
    · have := hs.1; obtain ⟨a, e⟩ := k; exact this
    · exact smallKs_mem hs.2 h
theorem smallOs_mem : ∀ {os : List Op} {o : Op}, smallOs os → o ∈ os → o.l.length ≤ 17592186044416 ∧ smallK o.l ∧ smallE o.e
  | x :: r, o, hs, h => by
    simp only [smallOs] at hs
    rcases List.mem_cons.1 h with rfl | h
    · have := hs.1; obtain ⟨a, b, c, e⟩ := o; exact this
    · exact smallOs_mem hs.2 h
theorem rngK_mem : ∀ {ks : List Tree} {t : Tree}, rngK ks → t ∈ ks → rng t
  | x :: r, t, hs, h => by
    simp only [rngK] at hs
    rcases List.mem_cons.1 h with rfl | h
    · exact hs.1
    · exact rngK_mem hs.2 h
theorem rngKs_mem : ∀ {ks : List Kid} {k : Kid}, rngKs ks → k ∈ ks → isI k.at_ ∧ rngE k.e
  | x :: r, k, hs, h => by
    simp only [rngKs] at hs
    rcases List.mem_cons.1 h with rfl | h
    · have := hs.1; obtain ⟨a, e⟩ := k; exact this
    · exact rngKs_mem hs.2 h
theorem rngOs_mem : ∀ {os : List Op} {o : Op}, rngOs os → o ∈ os → rngOp o
  | x :: r, o, hs, h => by
    simp only [rngOs] at hs
    rcases List.mem_cons.1 h with rfl | h
    · exact hs.1
    · exact rngOs_mem hs.2 h
theorem rngOp_e {o : Op} (h : rngOp o) : isI o.kind ∧ isI o.n ∧ rngK o.l ∧ rngE o.e := by obtain ⟨a, b, c, e⟩ := o; exact h
theorem leftKid_e (k : Kid) (d n : Int) : leftKid k d n = leftE k.e d n := by cases k; rfl
theorem leftOp_e (o : Op) (d n : Int) : leftOp o d n = if shallowK o.l 80 n < 0 then shallowK o.l 80 n else leftE o.e d (shallowK o.l 80 n) := by cases o; rfl
theorem sh1_range (t : Tree) (n : Int) (h : -1 ≤ n) : -1 ≤ sh1 t n ∧ sh1 t n ≤ n := by
  unfold sh1
  split
  · omega
  · have := shallow_range t 80 n; omega
mutual
theorem leftE_range : ∀ (e : Edit) (d n : Int), -1 ≤ leftE e d n ∧ leftE e d n ≤ max n (-1)
  | .mk _ o nw w ks _ os, d, n => by
    simp only [leftE]
    split
    · omega
    · have h1 := shallow_range o 80 (n - 1 - w.length - os.length)
      have h2 := sh1_range nw _ h1.1
      have h3 := leftKs_range ks (d - 1) _ h2.1
      have h4 := leftOs_range os (d - 1) _ h3.1
      omega
theorem leftKs_range : ∀ (ks : List (KidOf Edit)) (d n : Int), -1 ≤ n → -1 ≤ leftKs ks d n ∧ leftKs ks d n ≤ n
  | [], d, n, h => by simp only [leftKs]; omega
  | k :: r, d, n, h => by
    simp only [leftKs]
    split
    · omega
    · have h1 := leftKid_range k d n
      have h2 := leftKs_range r d _ h1.1
      omega
theorem leftKid_range : ∀ (k : KidOf Edit) (d n : Int), -1 ≤ leftKid k d n ∧ leftKid k d n ≤ max n (-1)
  | ⟨_, e⟩, d, n => by
    simp only [leftKid]
    exact leftE_range e d n
theorem leftOs_range : ∀ (os : List (OpOf Edit)) (d n : Int), -1 ≤ n → -1 ≤ leftOs os d n ∧ leftOs os d n ≤ n
  | [], d, n, h => by simp only [leftOs]; omega
  | o :: r, d, n, h => by
    simp only [leftOs]
    split
    · omega
    · have h1 := leftOp_range o d n h
      have h2 := leftOs_range r d _ h1.1
      omega
theorem leftOp_range : ∀ (o : OpOf Edit) (d n : Int), -1 ≤ n → -1 ≤ leftOp o d n ∧ leftOp o d n ≤ n
  | ⟨_, _, l, e⟩, d, n, h => by
    simp only [leftOp]
    have h1 := shallowK_range l 80 n h
    split
    · omega
    · have h2 := leftE_range e d (shallowK l 80 n)
      omega
end
end Go.AM.YtpjenobkibfpcaaGreat

namespace Go.AM.YtpjenobkibfpcaaGreat
open Go.AM Go.Proofs
theorem len_mass (t : Tree) : t.words.length + t.kids.length < mass t := by
  obtain ⟨k, w, ks⟩ := t
  have := massK_len ks
  simp only [mass, Tree.words_mk, Tree.kids_mk]
  omega
theorem len_massE (e : Edit) : mass e.old + mass e.new + e.words.length + e.ops.length + massKs e.kids + massOs e.ops < massE e := by
  obtain ⟨k, o, n, w, ks, l, os⟩ := e
  simp only [massE, Edit.old_mk, Edit.new_mk, Edit.words_mk, Edit.ops_mk, Edit.kids_mk]
  omega
theorem leftKs_neg {l : List Kid} {d n : Int} (h : n < 0) : leftKs l d n = n := by cases l <;> simp [leftKs, h]
theorem leftOs_neg {l : List Op} {d n : Int} (h : n < 0) : leftOs l d n = n := by cases l <;> simp [leftOs, h]
theorem shallowK_neg {l : List Tree} {d n : Int} (h : n < 0) : shallowK l d n = n := by cases l <;> simp [shallowK, h]
theorem smallE_at {e : Edit} (h : smallE e) : small e.old ∧ small e.new ∧ e.words.length ≤ 17592186044416 ∧ e.kids.length ≤ 17592186044416 ∧ e.ops.length ≤ 17592186044416 ∧ smallKs e.kids ∧ smallOs e.ops := by
  obtain ⟨k, o, n, w, ks, l, os⟩ := e; exact h
theorem leftE_at (e : Edit) (d n : Int) : leftE e d n = if d = 0 ∨ n - 1 - e.words.length - e.ops.length < 0 then -1 else leftOs e.ops (d - 1) (leftKs e.kids (d - 1) (sh1 e.new (shallow e.old 80 (n - 1 - e.words.length - e.ops.length)))) := by
  obtain ⟨k, o, nw, w, ks, l, os⟩ := e; rfl
theorem c91 : Contract Tryz.prog cfg 91 spec91 := by
  refine make91 c80 ?_
  rintro N e d n _ hp hN
  simp only [pre91, mu91] at hp hN
  obtain ⟨hs, hd0, hd1, hn0, hn1⟩ := hp
  obtain ⟨so, sn, lw, lk, lo, sk, sos⟩ := smallE_at hs
  have hme := len_massE e
  have hres := leftE_at e d n
  refine vc91 N e d n _ ?_; (try simp only [vcT, forall_eq])
  (simp only [vcS]); (try simp only [vcT])
  try (simp only [Tree.eta, Edit.eta, Tree.kind_mk, Tree.words_mk, Tree.kids_mk])
  refine ⟨by unfold InR; omega, by unfold InR; omega, by unfold InR; omega, fun hc => ends_int rfl (by rw [hres, if_pos hc]), fun hc => ?_⟩
  rw [if_neg (by omega)] at hres
  have r1 := shallow_range e.old 80 (n - 1 - e.words.length - e.ops.length)
  have p68 : ∀ t m, small t → -1 ≤ m → m ≤ 4611686018427387904 → pre80 (t, 80, m, ()) := fun t m h1 h2 h3 => ⟨h1, by dsimp only; omega, by dsimp only; omega, h2, h3⟩
  have k0 : ∀ x, x = sh1 e.new (shallow e.old 80 (n - 1 - e.words.length - e.ops.length)) → W91_c0 N e d n x (EndsQ cfg Tryz.f91.ntmps Tryz.f91.results.toList (res91 (e, d, n, ())) []) := by
    intro x hx
    have rx := sh1_range e.new _ r1.1
    rw [← hx] at rx hres
    refine vc91_c0 N e d n x _ ?_; (try simp only [vcT, forall_eq])
    refine loop_rule (ι := Int × Int) (fun p => head91_1 e d n p.1 p.2) (fun p => 0 ≤ p.2 ∧ p.2 ≤ e.kids.length ∧ -1 ≤ p.1 ∧ p.1 ≤ 4611686018427387904 ∧ leftKs (e.kids.drop p.2.toNat) (d - 1) p.1 = leftKs e.kids (d - 1) x) (fun p => ((e.kids.length : Int) - p.2).toNat) (x, 0) rfl ⟨by dsimp only; omega, by dsimp only; omega, by dsimp only; omega, by dsimp only; omega, by simp⟩ ?_
    rintro ⟨y, i⟩ ⟨h1, h2, h3, h4, h5⟩
    dsimp only at *
    refine vc91_l1 N e d n y i _ _ ?_; (try simp only [vcT, forall_eq])
    (simp only [vcS]); (try simp only [vcT])
    try (simp only [Tree.eta, Edit.eta, Tree.kind_mk, Tree.words_mk, Tree.kids_mk])
    refine ⟨fun hi => ?_, fun hi => ?_⟩
    · have hmem := mem_getD (l := e.kids) (i := i.toNat) (by omega) (KidOf.mk 0 Edit.nil)
      have hsm := smallKs_mem sk hmem
      have hmm := massKs_mem hmem
      rw [dropI h1 hi.1 (KidOf.mk 0 Edit.nil)] at h5
      simp only [leftKs] at h5
      rw [if_neg (by omega), leftKid_e] at h5
      have rr := leftE_range (e.kids.getD i.toNat (KidOf.mk 0 Edit.nil)).e (d - 1) y
      exact ⟨⟨h1, hi.1⟩, by unfold InR; omega, ⟨hsm, by dsimp only; omega, by dsimp only; omega, h3, h4⟩, by simp only [mu91]; omega, by unfold InR; omega, (_, i + 1), rfl, ⟨by dsimp only; omega, by dsimp only; omega, by dsimp only; omega, by dsimp only; omega, h5⟩, by dsimp only; omega⟩
    · have hy : leftKs e.kids (d - 1) x = y := by
        rw [← h5]
        by_cases hlt : i < e.kids.length
        · exact leftKs_neg (by omega)
        · rw [List.drop_of_length_le (by omega)]; rfl
      rw [hy] at hres
      refine loop_rule (ι := Int × Int) (fun p => head91_2 e d n p.1 p.2) (fun p => 0 ≤ p.2 ∧ p.2 ≤ e.ops.length ∧ -1 ≤ p.1 ∧ p.1 ≤ 4611686018427387904 ∧ leftOs (e.ops.drop p.2.toNat) (d - 1) p.1 = leftOs e.ops (d - 1) y) (fun p => ((e.ops.length : Int) - p.2).toNat) (y, 0) rfl ⟨by dsimp only; omega, by dsimp only; omega, h3, h4, by simp⟩ ?_
      rintro ⟨z, j⟩ ⟨h6, h7, h8, h9, h10⟩
      dsimp only at *
      refine vc91_l2 N e d n z j _ _ ?_; (try simp only [vcT, forall_eq])
      (simp only [vcS]); (try simp only [vcT])
      refine ⟨fun hj => ?_, fun hj => ?_⟩
      · have hmem := mem_getD (l := e.ops) (i := j.toNat) (by omega) Op.nil
        have hsm := smallOs_mem sos hmem
        have hmm := massOs_mem hmem
        rw [massOp_e] at hmm
        rw [dropI h6 hj.1 Op.nil] at h10
        simp only [leftOs] at h10
        rw [if_neg (by omega), leftOp_e] at h10
        refine loop_rule (ι := Int × Int) (fun p => head91_3 e d n j p.1 p.2) (fun p => 0 ≤ p.2 ∧ p.2 ≤ (e.ops.getD j.toNat Op.nil).l.length ∧ -1 ≤ p.1 ∧ p.1 ≤ 4611686018427387904 ∧ shallowK ((e.ops.getD j.toNat Op.nil).l.drop p.2.toNat) 80 p.1 = shallowK (e.ops.getD j.toNat Op.nil).l 80 z) (fun p => (((e.ops.getD j.toNat Op.nil).l.length : Int) - p.2).toNat) (z, 0) rfl ⟨by dsimp only; omega, by dsimp only; omega, h8, h9, by simp⟩ ?_
        rintro ⟨u, k⟩ ⟨g1, g2, g3, g4, g5⟩
        dsimp only at *
        refine vc91_l3 N e d n j u k _ _ _ ?_; (try simp only [vcT, forall_eq])
        (simp only [vcS]); (try simp only [vcT])
        try (simp only [Tree.eta, Edit.eta, Tree.kind_mk, Tree.words_mk, Tree.kids_mk])
        refine ⟨⟨h6, hj.1⟩, fun hk => ?_, fun hk => ?_⟩
        · have hmt := mem_getD (l := (e.ops.getD j.toNat Op.nil).l) (i := k.toNat) (by omega) Tree.nil
          rw [dropI g1 hk.1 Tree.nil] at g5
          simp only [shallowK] at g5
          rw [if_neg (by omega)] at g5
          have rr := shallow_range ((e.ops.getD j.toNat Op.nil).l.getD k.toNat Tree.nil) 80 u
          exact ⟨⟨h6, hj.1⟩, ⟨g1, hk.1⟩, p68 _ _ (smallK_mem hsm.2.1 hmt) g3 g4, by unfold InR; omega, (_, k + 1), rfl, ⟨by dsimp only; omega, by dsimp only; omega, by dsimp only; omega, by dsimp only; omega, g5⟩, by dsimp only; omega⟩
        · have hu : shallowK (e.ops.getD j.toNat Op.nil).l 80 z = u := by
            rw [← g5]
            by_cases hlt : k < (e.ops.getD j.toNat Op.nil).l.length
            · exact shallowK_neg (by omega)
            · rw [List.drop_of_length_le (by omega)]; rfl
          rw [hu] at h10
          have rr := leftE_range (e.ops.getD j.toNat Op.nil).e (d - 1) u
          refine ⟨fun hq => ⟨⟨h6, hj.1⟩, by unfold InR; omega, ⟨hsm.2.2, by dsimp only; omega, by dsimp only; omega, g3, g4⟩, by simp only [mu91]; omega, by unfold InR; omega, (_, j + 1), rfl, ⟨by dsimp only; omega, by dsimp only; omega, by dsimp only; omega, by dsimp only; omega, ?_⟩, by dsimp only; omega⟩,
            fun hq => ⟨by unfold InR; omega, (_, j + 1), rfl, ⟨by dsimp only; omega, by dsimp only; omega, by dsimp only; omega, by dsimp only; omega, ?_⟩, by dsimp only; omega⟩⟩
          · rw [if_neg (by omega)] at h10; exact h10
          · rw [if_pos (by omega)] at h10; exact h10
      · refine ends_int rfl ?_
        rw [hres, ← h10]
        by_cases hlt : j < e.ops.length
        · exact (leftOs_neg (by omega)).symm
        · rw [List.drop_of_length_le (by omega)]; rfl
  refine ⟨p68 _ _ so (by omega) (by omega), fun hq => ⟨p68 _ _ sn r1.1 (by omega), k0 _ ?_⟩, fun hq => k0 _ ?_⟩
  · unfold sh1; rw [if_neg (by omega)]
  · unfold sh1; rw [if_pos (by omega)]
theorem c45 : Contract Tryz.prog cfg 45 spec45 := by
  refine make45 c91 ?_
  intro e _ hp
  refine vc45 e _ ?_; (try simp only [vcT, forall_eq])
  try (simp only [Tree.eta, Edit.eta, Tree.kind_mk, Tree.words_mk, Tree.kids_mk])
  exact ⟨⟨hp, by dsimp only; omega, by dsimp only; omega, by dsimp only; omega, by dsimp only; omega⟩, ends_bool rfl rfl⟩
end Go.AM.YtpjenobkibfpcaaGreat

namespace Go.AM.YtpjenobkibfpcaaGreat
open Go.AM Go.Proofs
theorem rightE_at (e : Edit) (d : Int) : rightE e d =
    if d = 0 ∨ e.kind < 0 ∨ 3 < e.kind then false
    else if (e.kind ≠ 1 ∧ ¬(noneT e.old = true ∧ noneT e.new = true)) ∨ (e.kind ≠ 2 ∧ ¬(e.words.length = 0 ∧ e.kids.length = 0)) ∨ (e.kind ≠ 3 ∧ (e.list ≠ 0 ∨ e.ops.length ≠ 0)) then false
    else if e.kind = 1 then rightT e.old (dT d) && rightT e.new (dT d) && decide (e.old.kind ≠ 10 ∧ e.new.kind ≠ 10)
    else wordsOk (-1) e.words && rightKs (-1) e.kids (d - 1) && decide (¬(e.kind = 3 ∧ (e.list < 2 ∨ 9 < e.list))) && rightOs e.list e.ops (d - 1) && decide (lenA e.ops 0 < 1048576 ∧ lenB e.ops 0 < 1048576) := by
  obtain ⟨k, o, nw, w, ks, l, os⟩ := e; rfl
theorem rightKid_at (last : Int) (k : Kid) (d : Int) : rightKid last k d = (decide (last < k.at_ ∧ k.at_ ≤ 65534 ∧ k.e.kind ≠ 0) && rightE k.e d) := by cases k; rfl
theorem rightOp_at (list : Int) (o : Op) (d : Int) : rightOp list o d =
    if o.kind = 0 then decide (1 ≤ o.n ∧ o.n ≤ 1048576 ∧ o.l.length = 0) && sameE o.e
    else if o.n ≠ 0 ∨ o.kind < 0 ∨ 3 < o.kind then false
    else if o.kind < 3 then treesG (dT d) list o.l && decide (0 < o.l.length) && sameE o.e
    else decide (o.l.length = 0 ∧ o.e.kind ≠ 0 ∧ 7 < list) && rightE o.e d && decide (list = 8 ∨ o.e.kind = 2 ∨ o.e.kind = 1 ∧ o.e.old.kind = 1 ∧ o.e.new.kind = 1) := by
  cases o; rfl
theorem rightOp_n {list : Int} {o : Op} {d : Int} (h : rightOp list o d = true) : 0 ≤ o.n ∧ o.n ≤ 1048576 := by
  rw [rightOp_at] at h
  split at h
  · simp only [Bool.and_eq_true, decide_eq_true_eq] at h; omega
  · split at h
    · cases h
    · rename_i h1; omega
theorem rightOs_mem {list d : Int} : ∀ {os : List Op} {o : Op}, rightOs list os d = true → o ∈ os → rightOp list o d = true
  | x :: r, o, h, hm => by
    simp only [rightOs, Bool.and_eq_true] at h
    rcases List.mem_cons.1 hm with rfl | hm
    · exact h.1
    · exact rightOs_mem h.2 hm
theorem rightKs_mem {d : Int} : ∀ {ks : List Kid} {last : Int} {k : Kid}, rightKs last ks d = true → k ∈ ks → rightE k.e d = true ∧ k.e.kind ≠ 0
  | x :: r, last, k, h, hm => by
    simp only [rightKs, Bool.and_eq_true] at h
    rcases List.mem_cons.1 hm with rfl | hm
    · have := h.1; rw [rightKid_at] at this; simp only [Bool.and_eq_true, decide_eq_true_eq] at this; exact ⟨this.2, this.1.2.2⟩
    · exact rightKs_mem h.2 hm
theorem rngE_at {e : Edit} (h : rngE e) : isI e.kind ∧ rng e.old ∧ rng e.new ∧ (∀ x ∈ e.words, rngW x) ∧ isI e.list ∧ rngKs e.kids ∧ rngOs e.ops := by
  obtain ⟨k, o, n, w, ks, l, os⟩ := e; exact h
theorem rightE_in {e : Edit} {d : Int} (h : rightE e d = true) : (∀ k ∈ e.kids, rightE k.e (d - 1) = true ∧ k.e.kind ≠ 0) ∧ ∀ o ∈ e.ops, rightOp e.list o (d - 1) = true := by
  rw [rightE_at] at h
  split at h
  · cases h
  · split at h
    · cases h
    · rename_i h1 h2
      split at h
      · rename_i h3
        have hk : e.kids = [] := List.eq_nil_of_length_eq_zero (by omega)
        have ho : e.ops = [] := List.eq_nil_of_length_eq_zero (by omega)
        rw [hk, ho]
        exact ⟨fun k hk => (by cases hk), fun o ho => (by cases ho)⟩
      · simp only [Bool.and_eq_true] at h
        exact ⟨fun k hk => rightKs_mem h.1.1.1.2 hk, fun o ho => rightOs_mem h.1.2 ho⟩
end Go.AM.YtpjenobkibfpcaaGreat

namespace Go.AM
noncomputable def eqX {α : Type} (a b : α) : Bool := @decide (a = b) (Classical.propDecidable _)
theorem eqX_iff {α : Type} {a b : α} : eqX a b = true ↔ a = b := by unfold eqX; exact @decide_eq_true_iff _ (Classical.propDecidable _)
@[simp] theorem eqX_self {α : Type} (a : α) : eqX a a = true := eqX_iff.2 rfl
def opOk (o : Op) : Prop :=
  (o.kind = 0 ∧ o.l = [] ∧ (1 ≤ o.n ∧ o.n ≤ 1048576) ∧ o.e = Edit.nil) ∨ ((o.kind = 1 ∨ o.kind = 2) ∧ o.n = 0 ∧ o.l ≠ [] ∧ o.e = Edit.nil) ∨ (o.kind = 3 ∧ o.n = 0 ∧ o.l = [])
end Go.AM

namespace Go.AM.YtpjenobkibfpcaaGreat
open Go.AM Go.Proofs
theorem opLen_eq (o : Op) : opLen o = if o.kind = 3 then 1 else o.n + o.l.length := rfl
theorem massK_drop (n : Nat) : ∀ (l : List Tree), massK (l.drop n) ≤ massK l := by
  induction n with
  | zero => intro l; simp
  | succ n ih =>
    intro l
    cases l with
    | nil => simp
    | cons t r => simp only [List.drop_succ_cons, massK]; have := ih r; omega
theorem massK_take (n : Nat) : ∀ (l : List Tree), massK (l.take n) ≤ massK l := by
  induction n with
  | zero => intro l; simp [massK]
  | succ n ih =>
    intro l
    cases l with
    | nil => simp
    | cons t r => simp only [List.take_succ_cons, massK]; have := ih r; omega
theorem opLen_pos {o : Op} (h : opOk o) : 1 ≤ opLen o := by
  have := opLen_eq o
  unfold opOk at h
  have hl : o.l ≠ [] → 0 < o.l.length := List.length_pos_iff.2
  rcases h with ⟨h1, h2, h3, h4⟩ | ⟨h1, h2, h3, h4⟩ | ⟨h1, h2, h3⟩
  · rw [h2] at this; simp at this; split at this <;> omega
  · have := hl h3; split at * <;> omega
  · rw [if_pos h1] at this; omega
end Go.AM.YtpjenobkibfpcaaGreat

namespace Go.AM.YtpjenobkibfpcaaGreat
open Go.AM Go.Proofs
theorem eqX_no {α : Type} {a b : α} (h : ¬ a = b) : eqX a b = false := by rw [← Bool.not_eq_true, eqX_iff]; exact h
end Go.AM.YtpjenobkibfpcaaGreat

namespace Go.AM
def idleE (list : Int) (e : Edit) : Bool := decide (e.kind = 0 ∨ (list = 9 ∧ e.kind = 2 ∧ e.words.length = 0 ∧ e.kids.length = 0))
def normsT (l : List Tree) : List Tree := l.map normT
def turnW (w : WEdit) : WEdit := ⟨w.at_, w.mask, w.new, w.old⟩
mutual
def turnE : Edit → Edit
  | .mk k o n w ks l os => .mk k n o (w.map turnW) (turnKs ks) l (turnOs os)
def turnKs : List (KidOf Edit) → List (KidOf Edit)
  | [] => []
  | k :: r => turnKid k :: turnKs r
def turnKid : KidOf Edit → KidOf Edit
  | ⟨a, e⟩ => ⟨a, turnE e⟩
def turnOs : List (OpOf Edit) → List (OpOf Edit)
  | [] => []
  | o :: r => turnOp o :: turnOs r
def turnOp : OpOf Edit → OpOf Edit
  | ⟨k, n, l, e⟩ => if k = 1 then ⟨2, n, l, e⟩ else if k = 2 then ⟨1, n, l, e⟩ else if k = 3 then ⟨k, n, l, turnE e⟩ else ⟨k, n, l, e⟩
end
end Go.AM

namespace Go.AM
def setPad {α : Type} (z : α) (l : List α) (i : Nat) (x : α) : List α := (l ++ List.replicate (i + 1 - l.length) z).set i x
def wsD (tw : List Int) : List WEdit → List Int → Option (List Int)
  | [], out => some out
  | w :: r, out => if mix 0 (tw.getD w.at_.toNat 0) w.mask = w.old then wsD tw r (setPad 0 out w.at_.toNat (mix (tw.getD w.at_.toNat 0) w.new w.mask)) else none
noncomputable def goneD (l rest : List Tree) : Bool := decide (l.length ≤ rest.length) && eqX (normsT l) (normsT (rest.take l.length))
def endD (r : Option (List Tree × List Tree)) : Option (List Tree) := r.bind fun x => if x.2.length = 0 then some x.1 else none
def nrD (r : Bool) (t : Tree) : Tree := if r then normT t else t
mutual
noncomputable def doE (r : Bool) : Edit → Tree → Option Tree
  | .mk k o n w ks l os, t =>
    (if k = 0 then some t
    else if k = 1 then (if sameT (normT o) (normT t) = true then some n else none)
    else if k = 2 then (if t.kind = 1 then (wsD t.words w t.words).bind fun a => (doKs r t.kids ks t.kids).map fun b => .mk 1 a b else none)
    else if k = 3 then (if t.kind = l then (endD (doOs r os t.kids [])).map fun b => .mk l [] b else none)
    else none).map (nrD r)
noncomputable def doKs (r : Bool) (tk : List Tree) : List (KidOf Edit) → List Tree → Option (List Tree)
  | [], out => some out
  | k :: s, out => (doKid r tk k).bind fun u => doKs r tk s (setPad Tree.nil out k.at_.toNat u)
noncomputable def doKid (r : Bool) (tk : List Tree) : KidOf Edit → Option Tree
  | ⟨a, e⟩ => doE r e (tk.getD a.toNat Tree.nil)
noncomputable def doOs (r : Bool) : List (OpOf Edit) → List Tree → List Tree → Option (List Tree × List Tree)
  | [], rest, out => some (out, rest)
  | o :: s, rest, out => (doOp r o rest out).bind fun x => doOs r s x.2 x.1
noncomputable def doOp (r : Bool) : OpOf Edit → List Tree → List Tree → Option (List Tree × List Tree)
  | ⟨k, n, l, e⟩, rest, out =>
    if k = 0 then (if n.toNat ≤ rest.length then some (out ++ rest.take n.toNat, rest.drop n.toNat) else none)
    else if k = 1 then (if goneD l rest = true then some (out, rest.drop l.length) else none)
    else if k = 2 then some (out ++ l, rest)
    else if rest.length = 0 then none else (doE r e (rest.getD 0 Tree.nil)).map fun u => (out ++ [u], rest.drop 1)
end
theorem doE_at (r : Bool) (e : Edit) (t : Tree) : doE r e t = (if e.kind = 0 then some t
    else if e.kind = 1 then (if sameT (normT e.old) (normT t) = true then some e.new else none)
    else if e.kind = 2 then (if t.kind = 1 then (wsD t.words e.words t.words).bind fun a => (doKs r t.kids e.kids t.kids).map fun b => .mk 1 a b else none)
    else if e.kind = 3 then (if t.kind = e.list then (endD (doOs r e.ops t.kids [])).map fun b => .mk e.list [] b else none)
    else none).map (nrD r) := by cases e; rfl
noncomputable def rawE (r : Bool) (e : Edit) (t : Tree) : Option Tree :=
  if e.kind = 0 then some t
  else if e.kind = 1 then (if sameT (normT e.old) (normT t) = true then some e.new else none)
  else if e.kind = 2 then (if t.kind = 1 then (wsD t.words e.words t.words).bind fun a => (doKs r t.kids e.kids t.kids).map fun b => .mk 1 a b else none)
  else if e.kind = 3 then (if t.kind = e.list then (endD (doOs r e.ops t.kids [])).map fun b => .mk e.list [] b else none)
  else none
theorem doE_raw (r : Bool) (e : Edit) (t : Tree) : doE r e t = (rawE r e t).map (nrD r) := doE_at r e t
theorem doKid_at (r : Bool) (tk : List Tree) (k : Kid) : doKid r tk k = doE r k.e (tk.getD k.at_.toNat Tree.nil) := by cases k; rfl
theorem doOp_at (r : Bool) (o : Op) (rest out : List Tree) : doOp r o rest out = if o.kind = 0 then (if o.n.toNat ≤ rest.length then some (out ++ rest.take o.n.toNat, rest.drop o.n.toNat) else none)
    else if o.kind = 1 then (if goneD o.l rest = true then some (out, rest.drop o.l.length) else none)
    else if o.kind = 2 then some (out ++ o.l, rest)
    else if rest.length = 0 then none else (doE r o.e (rest.getD 0 Tree.nil)).map fun u => (out ++ [u], rest.drop 1) := by cases o; rfl
noncomputable def strD (r : Bool) (e : Edit) (t : Tree) : Option Tree :=
  if t.kind = 1 then (wsD t.words e.words t.words).bind fun a => (doKs r t.kids e.kids t.kids).map fun b => .mk 1 a b else none
noncomputable def lstD (r : Bool) (e : Edit) (t : Tree) : Option (List Tree × List Tree) := if t.kind = e.list then doOs r e.ops t.kids [] else none
def orNil (o : Option Tree) : Tree := o.getD Tree.nil
def lstT (e : Edit) (o : Option (List Tree × List Tree)) : Tree := match o with | some x => .mk e.list [] x.1 | none => Tree.nil
noncomputable def oneT (e : Edit) (t : Tree) : Tree :=
  if e.kind = 0 then t else if e.kind = 1 then e.new else if e.kind = 2 then orNil (strD false e t) else if e.kind = 3 then lstT e (lstD false e t) else Tree.nil
theorem nrD_false (o : Option Tree) : o.map (nrD false) = o := by cases o <;> rfl
theorem oneT_some {e : Edit} {t u : Tree} (h : doE false e t = some u) : oneT e t = u := by
  rw [doE_at, nrD_false] at h
  unfold oneT
  split
  · rename_i h0; rw [if_pos h0] at h; exact Option.some.inj h
  · rename_i h0; rw [if_neg h0] at h
    split
    · rename_i h1; rw [if_pos h1] at h
      split at h
      · exact Option.some.inj h
      · cases h
    · rename_i h1; rw [if_neg h1] at h
      split
      · rename_i h2; rw [if_pos h2] at h
        unfold orNil strD
        rw [h]; rfl
      · rename_i h2; rw [if_neg h2] at h
        split
        · rename_i h3; rw [if_pos h3] at h
          unfold lstT lstD
          split at h
          · rename_i h4; rw [if_pos h4]
            revert h
            cases doOs false e.ops t.kids [] with
            | none => intro h; cases h
            | some x =>
              intro h
              simp only [endD, Option.bind_some] at h
              split at h
              · exact Option.some.inj h
              · cases h
          · cases h
        · rename_i h3; rw [if_neg h3] at h; cases h
end Go.AM

namespace Go.AM
structure Wst where
  out : List Op
  gone : List Tree
  brought : List Tree
def flushO (out : List Op) (g b : List Tree) : List Op :=
  out ++ ((if g.length = 0 then [] else [⟨1, 0, g, Edit.nil⟩]) ++ (if b.length = 0 then [] else [⟨2, 0, b, Edit.nil⟩]))
def keepO : List Op → Int → List Op
  | [], n => [⟨0, n, [], Edit.nil⟩]
  | [o], n => if o.kind = 0 then [⟨o.kind, o.n + n, o.l, o.e⟩] else [o, ⟨0, n, [], Edit.nil⟩]
  | o :: p :: r, n => o :: keepO (p :: r) n
def flushW (w : Wst) : Wst := ⟨flushO w.out w.gone w.brought, [], []⟩
def keepW (w : Wst) (n : Int) : Wst := ⟨keepO (flushW w).out n, [], []⟩
mutual
def nrmE : Edit → Edit
  | .mk k o n w ks l os =>
    if k = 1 then .mk k (normT o) (normT n) [] [] l []
    else if k = 2 then .mk k Tree.nil Tree.nil w (nrmKs ks) l []
    else if k = 3 then .mk k Tree.nil Tree.nil [] [] l (flushW (nrmOs l os ⟨[], [], []⟩)).out
    else .mk k Tree.nil Tree.nil [] [] l []
def nrmKs : List (KidOf Edit) → List (KidOf Edit)
  | [] => []
  | k :: r => nrmKid k :: nrmKs r
def nrmKid : KidOf Edit → KidOf Edit
  | ⟨a, e⟩ => ⟨a, nrmE e⟩
def nrmOs (list : Int) : List (OpOf Edit) → Wst → Wst
  | [], s => s
  | o :: r, s => nrmOs list r (nrmOp list o s)
def nrmOp (list : Int) : OpOf Edit → Wst → Wst
  | ⟨k, n, l, e⟩, s =>
    if k = 0 then keepW s n
    else if k = 1 then ⟨s.out, s.gone ++ normsT l, s.brought⟩
    else if k = 2 then ⟨s.out, s.gone, s.brought ++ normsT l⟩
    else if k = 3 then (if idleE list (nrmE e) = true then keepW s 1 else ⟨(flushW s).out ++ [⟨3, 0, [], nrmE e⟩], [], []⟩)
    else s
end
theorem nrmE_at (e : Edit) : nrmE e = if e.kind = 1 then .mk e.kind (normT e.old) (normT e.new) [] [] e.list []
    else if e.kind = 2 then .mk e.kind Tree.nil Tree.nil e.words (nrmKs e.kids) e.list []
    else if e.kind = 3 then .mk e.kind Tree.nil Tree.nil [] [] e.list (flushW (nrmOs e.list e.ops ⟨[], [], []⟩)).out
    else .mk e.kind Tree.nil Tree.nil [] [] e.list [] := by cases e; rfl
theorem nrmKid_at (k : Kid) : nrmKid k = ⟨k.at_, nrmE k.e⟩ := by cases k; rfl
theorem nrmOp_at (list : Int) (o : Op) (s : Wst) : nrmOp list o s = if o.kind = 0 then keepW s o.n
    else if o.kind = 1 then ⟨s.out, s.gone ++ normsT o.l, s.brought⟩
    else if o.kind = 2 then ⟨s.out, s.gone, s.brought ++ normsT o.l⟩
    else if o.kind = 3 then (if idleE list (nrmE o.e) = true then keepW s 1 else ⟨(flushW s).out ++ [⟨3, 0, [], nrmE o.e⟩], [], []⟩)
    else s := by cases o; rfl
end Go.AM

namespace Go.AM.YtpjenobkibfpcaaGreat
open Go.AM Go.Proofs
theorem sameT_self (a : Tree) : sameT a a = true := by simp [sameT]
theorem trim_idem (l : List Int) : trim (trim l) = trim l := by
  induction l with
  | nil => rfl
  | cons x r ih =>
    rw [trim_cons]
    split
    · rfl
    · rename_i h
      rw [trim_cons, ih, if_neg h]
theorem trimK_idem (l : List Tree) : trimK (trimK l) = trimK l := by
  induction l with
  | nil => rfl
  | cons x r ih =>
    rw [trimK_cons]
    split
    · rfl
    · rename_i h
      rw [trimK_cons, ih, if_neg h]
def Normed : List Tree → Prop
  | [] => True
  | t :: r => normT t = t ∧ Normed r
theorem Normed.eq : ∀ {l : List Tree}, Normed l → normK l = l
  | [], _ => rfl
  | t :: r, h => by simp only [normK, h.1, Normed.eq h.2]
theorem Normed.trim : ∀ {l : List Tree}, Normed l → Normed (trimK l)
  | [], _ => trivial
  | t :: r, h => by
    rw [trimK_cons]
    split
    · trivial
    · exact ⟨h.1, Normed.trim h.2⟩
mutual
theorem normT_idem : ∀ (t : Tree), normT (normT t) = normT t
  | .mk k w ks => by
    have h := normK_normed ks
    by_cases h0 : k = 0
    · simp [normT, h0, Tree.nil]
    · by_cases h1 : k = 1
      · subst h1
        simp only [normT, if_neg h0, if_true, trim_idem, h.trim.eq, trimK_idem]
      · simp only [normT, if_neg h0, if_neg h1, h.eq]
theorem normK_normed : ∀ (ks : List Tree), Normed (normK ks)
  | [] => trivial
  | t :: r => ⟨normT_idem t, normK_normed r⟩
end
end Go.AM.YtpjenobkibfpcaaGreat

namespace Go.AM.YtpjenobkibfpcaaGreat
open Go.AM Go.Proofs
noncomputable section
def args131 : ArgL (Edit × Unit) := (.cons (aEl .edit) .nil)
def pre131 (a : Edit × Unit) : Prop := massE a.1 ≤ 20000000000
def mu131 (a : Edit × Unit) : Nat := 2 * massE a.1
noncomputable def res131 (a : Edit × Unit) : V U := .agg [.int .i64 (Edit.kind (turnE a.1)), .int .i64 (Tree.kind (Edit.old (turnE a.1))), .slice (U := U) .u64 (Tree.words (Edit.old (turnE a.1))) .unk, .slice (U := U) .tree (Tree.kids (Edit.old (turnE a.1))) .unk, .int .i64 (Tree.kind (Edit.new (turnE a.1))), .slice (U := U) .u64 (Tree.words (Edit.new (turnE a.1))) .unk, .slice (U := U) .tree (Tree.kids (Edit.new (turnE a.1))) .unk, .slice (U := U) .wedit (Edit.words (turnE a.1)) .unk, .slice (U := U) .kid (Edit.kids (turnE a.1)) .unk, .int .i64 (Edit.list (turnE a.1)), .slice (U := U) .op (Edit.ops (turnE a.1)) .unk]
noncomputable def spec131 : Fs U := fs args131 (fun a => [pre131 a]) res131
def args182 : ArgL (Op × Unit) := (.cons (aEl .op) .nil)
def pre182 (a : Op × Unit) : Prop := massOp a.1 ≤ 20000000000
def mu182 (a : Op × Unit) : Nat := 2 * massOp a.1 + 1
noncomputable def res182 (a : Op × Unit) : V U := .agg [.int .i64 (OpOf.kind (turnOp a.1)), .int .i64 (OpOf.n (turnOp a.1)), .slice (U := U) .tree (OpOf.l (turnOp a.1)) .unk, .int .i64 (Edit.kind (OpOf.e (turnOp a.1))), .int .i64 (Tree.kind (Edit.old (OpOf.e (turnOp a.1)))), .slice (U := U) .u64 (Tree.words (Edit.old (OpOf.e (turnOp a.1)))) .unk, .slice (U := U) .tree (Tree.kids (Edit.old (OpOf.e (turnOp a.1)))) .unk, .int .i64 (Tree.kind (Edit.new (OpOf.e (turnOp a.1)))), .slice (U := U) .u64 (Tree.words (Edit.new (OpOf.e (turnOp a.1)))) .unk, .slice (U := U) .tree (Tree.kids (Edit.new (OpOf.e (turnOp a.1)))) .unk, .slice (U := U) .wedit (Edit.words (OpOf.e (turnOp a.1))) .unk, .slice (U := U) .kid (Edit.kids (OpOf.e (turnOp a.1))) .unk, .int .i64 (Edit.list (OpOf.e (turnOp a.1))), .slice (U := U) .op (Edit.ops (OpOf.e (turnOp a.1))) .unk]
noncomputable def spec182 : Fs U := fs args182 (fun a => [pre182 a]) res182
noncomputable def know131 (N : Nat) : List (FuncId × Fs U) := (131, fs args131 (fun a => [pre131 a, mu131 a < N]) res131) :: (182, fs args182 (fun a => [pre182 a, mu182 a < N]) res182) :: []
def lv131 : Lives U := fun i => match i with
  | 0 => ([(1, []), (2, [])], [((.loc 1), []), ((.loc 2), [])])
  | 1 => ([(1, []), (2, []), (3, [])], [((.loc 1), []), ((.loc 2), []), ((.loc 3), [])])
  | 2 => ([(1, []), (2, []), (3, []), (20, []), (21, []), (22, [])], [((.loc 1), []), ((.loc 2), []), ((.loc 3), [.any, .any, .any, .any, .any, .any, .any, .own .wedit])])
  | 3 => ([(1, []), (2, []), (3, []), (20, []), (21, []), (22, []), (23, [])], [((.loc 1), []), ((.loc 2), []), ((.loc 3), [])])
  | 4 => ([(1, []), (2, []), (3, []), (5, []), (20, []), (21, []), (22, [])], [((.loc 1), []), ((.loc 2), []), ((.loc 3), []), ((.loc 5), [])])
  | 5 => ([(1, []), (2, []), (3, []), (20, []), (21, []), (22, [])], [((.loc 1), []), ((.loc 2), []), ((.loc 3), [])])
  | 6 => ([(1, []), (2, []), (3, []), (20, []), (21, []), (22, [])], [((.loc 1), []), ((.loc 2), []), ((.loc 3), [.any, .any, .any, .any, .any, .any, .any, .own .wedit])])
  | 7 => ([(1, []), (2, []), (3, []), (42, []), (43, []), (44, [])], [((.loc 1), []), ((.loc 2), []), ((.loc 3), [.any, .any, .any, .any, .any, .any, .any, .any, .own .kid])])
  | 8 => ([(1, []), (2, []), (3, []), (42, []), (43, []), (44, []), (45, [])], [((.loc 1), []), ((.loc 2), []), ((.loc 3), [])])
  | 9 => ([(1, []), (2, []), (3, []), (7, []), (42, []), (43, []), (44, [])], [((.loc 1), []), ((.loc 2), []), ((.loc 3), []), ((.loc 7), [])])
  | 10 => ([(1, []), (2, []), (3, []), (42, []), (43, []), (44, [])], [((.loc 1), []), ((.loc 2), []), ((.loc 3), [])])
  | 11 => ([(1, []), (2, []), (3, []), (42, []), (43, []), (44, [])], [((.loc 1), []), ((.loc 2), []), ((.loc 3), [.any, .any, .any, .any, .any, .any, .any, .any, .own .kid])])
  | 12 => ([(2, []), (3, []), (61, []), (62, []), (63, [])], [((.loc 2), []), ((.loc 3), [.any, .any, .any, .any, .any, .any, .any, .any, .any, .any, .own .op])])
  | 13 => ([(2, []), (3, []), (61, []), (62, []), (63, []), (64, [])], [((.loc 2), []), ((.loc 3), [])])
  | 14 => ([(2, []), (3, []), (9, []), (61, []), (62, []), (63, [])], [((.loc 2), []), ((.loc 3), []), ((.loc 9), [])])
  | 15 => ([(2, []), (3, []), (61, []), (62, []), (63, [])], [((.loc 2), []), ((.loc 3), [])])
  | 16 => ([(2, []), (3, []), (61, []), (62, []), (63, [])], [((.loc 2), []), ((.loc 3), [.any, .any, .any, .any, .any, .any, .any, .any, .any, .any, .own .op])])
  | 17 => ([(2, [])], [((.loc 2), [])])
  | _ => ([], [])
def head131_0 (e : Edit) (x22 : Int) (ml3_7 : List WEdit) : LSt U := (⟨[(1, .ptr (.loc 1) 0), (2, .ptr (.loc 2) 0), (3, .ptr (.loc 3) 0), (20, .c (.slice (U := U) .wedit (Edit.words e) .unk)), (21, .c (.int .i64 ((Edit.words e).length : Int))), (22, .c (.int .i64 x22))], [((.loc 1), [.int .i64 (Edit.kind e), .int .i64 (Tree.kind (Edit.old e)), .slice (U := U) .u64 (Tree.words (Edit.old e)) .unk, .slice (U := U) .tree (Tree.kids (Edit.old e)) .unk, .int .i64 (Tree.kind (Edit.new e)), .slice (U := U) .u64 (Tree.words (Edit.new e)) .unk, .slice (U := U) .tree (Tree.kids (Edit.new e)) .unk, .slice (U := U) .wedit (Edit.words e) .unk, .slice (U := U) .kid (Edit.kids e) .unk, .int .i64 (Edit.list e), .slice (U := U) .op (Edit.ops e) .unk]), ((.loc 2), [.int .i64 0, .int .i64 0, .nils, .nils, .int .i64 0, .nils, .nils, .nils, .nils, .int .i64 0, .nils]), ((.loc 3), [.int .i64 (Edit.kind e), .int .i64 (Tree.kind (Edit.new e)), .slice (U := U) .u64 (Tree.words (Edit.new e)) .unk, .slice (U := U) .tree (Tree.kids (Edit.new e)) .unk, .int .i64 (Tree.kind (Edit.old e)), .slice (U := U) .u64 (Tree.words (Edit.old e)) .unk, .slice (U := U) .tree (Tree.kids (Edit.old e)) .unk, .slice (U := U) .wedit ml3_7 (.own (.l 3 7)), .nils, .int .i64 (Edit.list e), .nils])], []⟩ : LSt U)
def head131_1 (e : Edit) (ml3_7 : List WEdit) (x44_a : Int) (ml3_8_a : List Kid) : LSt U := (⟨[(1, .ptr (.loc 1) 0), (2, .ptr (.loc 2) 0), (3, .ptr (.loc 3) 0), (42, .c (.slice (U := U) .kid (Edit.kids e) .unk)), (43, .c (.int .i64 ((Edit.kids e).length : Int))), (44, .c (.int .i64 x44_a))], [((.loc 1), [.int .i64 (Edit.kind e), .int .i64 (Tree.kind (Edit.old e)), .slice (U := U) .u64 (Tree.words (Edit.old e)) .unk, .slice (U := U) .tree (Tree.kids (Edit.old e)) .unk, .int .i64 (Tree.kind (Edit.new e)), .slice (U := U) .u64 (Tree.words (Edit.new e)) .unk, .slice (U := U) .tree (Tree.kids (Edit.new e)) .unk, .slice (U := U) .wedit (Edit.words e) .unk, .slice (U := U) .kid (Edit.kids e) .unk, .int .i64 (Edit.list e), .slice (U := U) .op (Edit.ops e) .unk]), ((.loc 2), [.int .i64 0, .int .i64 0, .nils, .nils, .int .i64 0, .nils, .nils, .nils, .nils, .int .i64 0, .nils]), ((.loc 3), [.int .i64 (Edit.kind e), .int .i64 (Tree.kind (Edit.new e)), .slice (U := U) .u64 (Tree.words (Edit.new e)) .unk, .slice (U := U) .tree (Tree.kids (Edit.new e)) .unk, .int .i64 (Tree.kind (Edit.old e)), .slice (U := U) .u64 (Tree.words (Edit.old e)) .unk, .slice (U := U) .tree (Tree.kids (Edit.old e)) .unk, .slice (U := U) .wedit ml3_7 (.own (.l 3 7)), .slice (U := U) .kid ml3_8_a (.own (.l 3 8)), .int .i64 (Edit.list e), .nils])], []⟩ : LSt U)
def head131_2 (e : Edit) (ml3_7 : List WEdit) (ml3_8_a : List Kid) (x63_b : Int) (ml3_10_b : List Op) : LSt U := (⟨[(2, .ptr (.loc 2) 0), (3, .ptr (.loc 3) 0), (61, .c (.slice (U := U) .op (Edit.ops e) .unk)), (62, .c (.int .i64 ((Edit.ops e).length : Int))), (63, .c (.int .i64 x63_b))], [((.loc 2), [.int .i64 0, .int .i64 0, .nils, .nils, .int .i64 0, .nils, .nils, .nils, .nils, .int .i64 0, .nils]), ((.loc 3), [.int .i64 (Edit.kind e), .int .i64 (Tree.kind (Edit.new e)), .slice (U := U) .u64 (Tree.words (Edit.new e)) .unk, .slice (U := U) .tree (Tree.kids (Edit.new e)) .unk, .int .i64 (Tree.kind (Edit.old e)), .slice (U := U) .u64 (Tree.words (Edit.old e)) .unk, .slice (U := U) .tree (Tree.kids (Edit.old e)) .unk, .slice (U := U) .wedit ml3_7 (.own (.l 3 7)), .slice (U := U) .kid ml3_8_a (.own (.l 3 8)), .int .i64 (Edit.list e), .slice (U := U) .op ml3_10_b (.own (.l 3 10))])], []⟩ : LSt U)
abbrev W131 (N : Nat) (e : Edit) (Q : AExit → LSt U → Prop) := awp cfg (know (know131 N)) (drawOk cfg (know (know131 N))) Tryz.f131.ntmps lv131 (cd Tryz.f131 []) (⟨[(0, .agg [.int .i64 (Edit.kind e), .int .i64 (Tree.kind (Edit.old e)), .slice (U := U) .u64 (Tree.words (Edit.old e)) .unk, .slice (U := U) .tree (Tree.kids (Edit.old e)) .unk, .int .i64 (Tree.kind (Edit.new e)), .slice (U := U) .u64 (Tree.words (Edit.new e)) .unk, .slice (U := U) .tree (Tree.kids (Edit.new e)) .unk, .slice (U := U) .wedit (Edit.words e) .unk, .slice (U := U) .kid (Edit.kids e) .unk, .int .i64 (Edit.list e), .slice (U := U) .op (Edit.ops e) .unk])], [], []⟩ : LSt U) Q
abbrev a131_ZKG22a (N : Nat) := awp cfg (know (know131 N)) (drawOk cfg (know (know131 N))) Tryz.f131.ntmps lv131
abbrev s131_ZKG22a (N : Nat) := seqK cfg (know (know131 N)) (drawOk cfg (know (know131 N))) Tryz.f131.ntmps lv131
theorem vc131 (N : Nat) (e : Edit) (Q : AExit → LSt U → Prop) (h : LoopWp (awp cfg (know (know131 N)) (drawOk cfg (know (know131 N))) Tryz.f131.ntmps lv131 (cd Tryz.f131 [1, 1, 0, 1, 0, 0])) (head131_0 e 0 ([])) (AExit.inBlock 0 (seqK cfg (know (know131 N)) (drawOk cfg (know (know131 N))) Tryz.f131.ntmps lv131 (cd Tryz.f131 [1, 1, 1]) Q))) :
    W131 N e Q := by
  have e_ : (W131 N e Q) = ((((LoopWp (a131_ZKG22a N (cd Tryz.f131 [1, 1, 0, 1, 0, 0])) (head131_0 e 0 ([])) (AExit.inBlock 0 (s131_ZKG22a N (cd Tryz.f131 [1, 1, 1]) Q)))))) := by kernel_rfl
  exact e_.mpr h
abbrev W131_l0 (N : Nat) (e : Edit) (x22 : Int) (ml3_7 : List WEdit) (N0 : LSt U → Prop) (Q : AExit → LSt U → Prop) := awp cfg (know (know131 N)) (drawOk cfg (know (know131 N))) Tryz.f131.ntmps lv131 (cd Tryz.f131 [1, 1, 0, 1, 0, 0]) (head131_0 e x22 ml3_7) (AExit.then N0 (AExit.inBlock 0 (seqK cfg (know (know131 N)) (drawOk cfg (know (know131 N))) Tryz.f131.ntmps lv131 (cd Tryz.f131 [1, 1, 1]) Q)))
theorem vc131_l0 (N : Nat) (e : Edit) (x22 : Int) (ml3_7 : List WEdit) (N0 : LSt U → Prop) (Q : AExit → LSt U → Prop) (h : ((decide ((x22 : Int) < ((Edit.words e).length : Int))) = true → ((0 : Int) ≤ x22 ∧ x22 < ((Edit.words e).length : Int)) ∧ (((ml3_7.length + ([(WEdit.mk (WEdit.at_ (List.getD (Edit.words e) (Int.toNat x22) (WEdit.mk 0 0 0 0))) (WEdit.mask (List.getD (Edit.words e) (Int.toNat x22) (WEdit.mk 0 0 0 0))) (WEdit.new (List.getD (Edit.words e) (Int.toNat x22) (WEdit.mk 0 0 0 0))) (WEdit.old (List.getD (Edit.words e) (Int.toNat x22) (WEdit.mk 0 0 0 0))))]).length) * 32 ≤ 140737488355328) ∧ ((InR ((x22 : Int) + 1)) ∧ (N0 (head131_0 e ((x22 : Int) + 1) (ml3_7 ++ ([(WEdit.mk (WEdit.at_ (List.getD (Edit.words e) (Int.toNat x22) (WEdit.mk 0 0 0 0))) (WEdit.mask (List.getD (Edit.words e) (Int.toNat x22) (WEdit.mk 0 0 0 0))) (WEdit.new (List.getD (Edit.words e) (Int.toNat x22) (WEdit.mk 0 0 0 0))) (WEdit.old (List.getD (Edit.words e) (Int.toNat x22) (WEdit.mk 0 0 0 0))))]))))))) ∧ ((decide ((x22 : Int) < ((Edit.words e).length : Int))) = false → LoopWp (awp cfg (know (know131 N)) (drawOk cfg (know (know131 N))) Tryz.f131.ntmps lv131 (cd Tryz.f131 [1, 1, 1, 0, 1, 0, 0])) (head131_1 e ml3_7 0 ([])) (AExit.inBlock 2 (seqK cfg (know (know131 N)) (drawOk cfg (know (know131 N))) Tryz.f131.ntmps lv131 (cd Tryz.f131 [1, 1, 1, 1]) Q)))) :
    W131_l0 N e x22 ml3_7 N0 Q := by
  have e_ : (W131_l0 N e x22 ml3_7 N0 Q) = (let zz0 := (decide ((x22 : Int) < ((Edit.words e).length : Int))); ((zz0 = true → ((0 : Int) ≤ x22 ∧ x22 < ((Edit.words e).length : Int)) ∧ (((ml3_7.length + ([(WEdit.mk (WEdit.at_ (List.getD (Edit.words e) (Int.toNat x22) (WEdit.mk 0 0 0 0))) (WEdit.mask (List.getD (Edit.words e) (Int.toNat x22) (WEdit.mk 0 0 0 0))) (WEdit.new (List.getD (Edit.words e) (Int.toNat x22) (WEdit.mk 0 0 0 0))) (WEdit.old (List.getD (Edit.words e) (Int.toNat x22) (WEdit.mk 0 0 0 0))))]).length) * 32 ≤ 140737488355328) ∧ ((InR ((x22 : Int) + 1)) ∧ (N0 (head131_0 e ((x22 : Int) + 1) (ml3_7 ++ ([(WEdit.mk (WEdit.at_ (List.getD (Edit.words e) (Int.toNat x22) (WEdit.mk 0 0 0 0))) (WEdit.mask (List.getD (Edit.words e) (Int.toNat x22) (WEdit.mk 0 0 0 0))) (WEdit.new (List.getD (Edit.words e) (Int.toNat x22) (WEdit.mk 0 0 0 0))) (WEdit.old (List.getD (Edit.words e) (Int.toNat x22) (WEdit.mk 0 0 0 0))))]))))))) ∧ (zz0 = false → (LoopWp (a131_ZKG22a N (cd Tryz.f131 [1, 1, 1, 0, 1, 0, 0])) (head131_1 e ml3_7 0 ([])) (AExit.inBlock 2 (s131_ZKG22a N (cd Tryz.f131 [1, 1, 1, 1]) Q)))))) := by kernel_rfl
  exact e_.mpr ⟨fun c_7 => ⟨(h.1 c_7).1, ⟨(h.1 c_7).2.1, ⟨(h.1 c_7).2.2.1, (h.1 c_7).2.2.2⟩⟩⟩, fun c_7 => (h.2 c_7)⟩
abbrev W131_l1 (N : Nat) (e : Edit) (ml3_7 : List WEdit) (x44_a : Int) (ml3_8_a : List Kid) (N1 : LSt U → Prop) (Q : AExit → LSt U → Prop) := awp cfg (know (know131 N)) (drawOk cfg (know (know131 N))) Tryz.f131.ntmps lv131 (cd Tryz.f131 [1, 1, 1, 0, 1, 0, 0]) (head131_1 e ml3_7 x44_a ml3_8_a) (AExit.then N1 (AExit.inBlock 2 (seqK cfg (know (know131 N)) (drawOk cfg (know (know131 N))) Tryz.f131.ntmps lv131 (cd Tryz.f131 [1, 1, 1, 1]) Q)))
theorem vc131_l1 (N : Nat) (e : Edit) (ml3_7 : List WEdit) (x44_a : Int) (ml3_8_a : List Kid) (N1 : LSt U → Prop) (Q : AExit → LSt U → Prop) (h : ∀ y_1, y_1 = (List.getD (Edit.kids e) (Int.toNat x44_a) (KidOf.mk 0 Edit.nil)) → ∀ y_2, y_2 = ((KidOf.e y_1)) → ∀ y_3, y_3 = ((turnE y_2)) → ((decide ((x44_a : Int) < ((Edit.kids e).length : Int))) = true → ((0 : Int) ≤ x44_a ∧ x44_a < ((Edit.kids e).length : Int)) ∧ ((pre131 (y_2, ())) ∧ (mu131 (y_2, ()) < N) ∧ ((ml3_8_a.length + ([(KidOf.mk (KidOf.at_ y_1) y_3 : Kid)]).length) * 208 ≤ 140737488355328) ∧ ((InR ((x44_a : Int) + 1)) ∧ (N1 (head131_1 e ml3_7 ((x44_a : Int) + 1) (ml3_8_a ++ ([(KidOf.mk (KidOf.at_ y_1) y_3 : Kid)]))))))) ∧ ((decide ((x44_a : Int) < ((Edit.kids e).length : Int))) = false → LoopWp (awp cfg (know (know131 N)) (drawOk cfg (know (know131 N))) Tryz.f131.ntmps lv131 (cd Tryz.f131 [1, 1, 1, 1, 0, 1, 0, 0])) (head131_2 e ml3_7 ml3_8_a 0 ([])) (AExit.inBlock 4 (seqK cfg (know (know131 N)) (drawOk cfg (know (know131 N))) Tryz.f131.ntmps lv131 (cd Tryz.f131 [1, 1, 1, 1, 1]) Q)))) :
    W131_l1 N e ml3_7 x44_a ml3_8_a N1 Q := by
  have e_ : (W131_l1 N e ml3_7 x44_a ml3_8_a N1 Q) = (let y_1 := (List.getD (Edit.kids e) (Int.toNat x44_a) (KidOf.mk 0 Edit.nil)); let y_2 := (reEdit (KidOf.e y_1)); let y_3 := (reEdit (turnE y_2)); let zz0 := (decide ((x44_a : Int) < ((Edit.kids e).length : Int))); ((zz0 = true → ((0 : Int) ≤ x44_a ∧ x44_a < ((Edit.kids e).length : Int)) ∧ ((pre131 (y_2, ())) ∧ (mu131 (y_2, ()) < N) ∧ ((ml3_8_a.length + ([(KidOf.mk (KidOf.at_ y_1) y_3 : Kid)]).length) * 208 ≤ 140737488355328) ∧ ((InR ((x44_a : Int) + 1)) ∧ (N1 (head131_1 e ml3_7 ((x44_a : Int) + 1) (ml3_8_a ++ ([(KidOf.mk (KidOf.at_ y_1) y_3 : Kid)]))))))) ∧ (zz0 = false → (LoopWp (a131_ZKG22a N (cd Tryz.f131 [1, 1, 1, 1, 0, 1, 0, 0])) (head131_2 e ml3_7 ml3_8_a 0 ([])) (AExit.inBlock 4 (s131_ZKG22a N (cd Tryz.f131 [1, 1, 1, 1, 1]) Q)))))) := by kernel_rfl
  exact e_.mpr (by intro y_1 y_2 y_3; have hh := h y_1 rfl y_2 (reEdit_eq _) y_3 (reEdit_eq _); exact ⟨fun c_8 => ⟨(hh.1 c_8).1, ⟨(hh.1 c_8).2.1, (hh.1 c_8).2.2.1, (hh.1 c_8).2.2.2.1, ⟨(hh.1 c_8).2.2.2.2.1, (hh.1 c_8).2.2.2.2.2⟩⟩⟩, fun c_8 => (hh.2 c_8)⟩)
abbrev W131_l2 (N : Nat) (e : Edit) (ml3_7 : List WEdit) (ml3_8_a : List Kid) (x63_b : Int) (ml3_10_b : List Op) (N2 : LSt U → Prop) (Q : AExit → LSt U → Prop) := awp cfg (know (know131 N)) (drawOk cfg (know (know131 N))) Tryz.f131.ntmps lv131 (cd Tryz.f131 [1, 1, 1, 1, 0, 1, 0, 0]) (head131_2 e ml3_7 ml3_8_a x63_b ml3_10_b) (AExit.then N2 (AExit.inBlock 4 (seqK cfg (know (know131 N)) (drawOk cfg (know (know131 N))) Tryz.f131.ntmps lv131 (cd Tryz.f131 [1, 1, 1, 1, 1]) Q)))
theorem vc131_l2 (N : Nat) (e : Edit) (ml3_7 : List WEdit) (ml3_8_a : List Kid) (x63_b : Int) (ml3_10_b : List Op) (N2 : LSt U → Prop) (Q : AExit → LSt U → Prop) (h : ∀ y_1, y_1 = (List.getD (Edit.ops e) (Int.toNat x63_b) Op.nil) → ∀ y_2, y_2 = (y_1) → ∀ y_3, y_3 = ((turnOp y_2)) → ((decide ((x63_b : Int) < ((Edit.ops e).length : Int))) = true → ((0 : Int) ≤ x63_b ∧ x63_b < ((Edit.ops e).length : Int)) ∧ ((pre182 (y_2, ())) ∧ (mu182 (y_2, ()) < N) ∧ ((ml3_10_b.length + ([y_3]).length) * 240 ≤ 140737488355328) ∧ ((InR ((x63_b : Int) + 1)) ∧ (N2 (head131_2 e ml3_7 ml3_8_a ((x63_b : Int) + 1) (ml3_10_b ++ ([y_3]))))))) ∧ ((decide ((x63_b : Int) < ((Edit.ops e).length : Int))) = false → Q .ret (⟨[(2, .ptr (.loc 2) 0)], [((.loc 2), [.int .i64 (Edit.kind e), .int .i64 (Tree.kind (Edit.new e)), .slice (U := U) .u64 (Tree.words (Edit.new e)) .unk, .slice (U := U) .tree (Tree.kids (Edit.new e)) .unk, .int .i64 (Tree.kind (Edit.old e)), .slice (U := U) .u64 (Tree.words (Edit.old e)) .unk, .slice (U := U) .tree (Tree.kids (Edit.old e)) .unk, .slice (U := U) .wedit ml3_7 (.own (.l 2 7)), .slice (U := U) .kid ml3_8_a (.own (.l 2 8)), .int .i64 (Edit.list e), .slice (U := U) .op ml3_10_b (.own (.l 2 10))])], []⟩ : LSt U))) :
    W131_l2 N e ml3_7 ml3_8_a x63_b ml3_10_b N2 Q := by
  have e_ : (W131_l2 N e ml3_7 ml3_8_a x63_b ml3_10_b N2 Q) = (let y_1 := (List.getD (Edit.ops e) (Int.toNat x63_b) Op.nil); let y_2 := (reOp y_1); let y_3 := (reOp (turnOp y_2)); let zz0 := (decide ((x63_b : Int) < ((Edit.ops e).length : Int))); ((zz0 = true → ((0 : Int) ≤ x63_b ∧ x63_b < ((Edit.ops e).length : Int)) ∧ ((pre182 (y_2, ())) ∧ (mu182 (y_2, ()) < N) ∧ ((ml3_10_b.length + ([y_3]).length) * 240 ≤ 140737488355328) ∧ ((InR ((x63_b : Int) + 1)) ∧ (N2 (head131_2 e ml3_7 ml3_8_a ((x63_b : Int) + 1) (ml3_10_b ++ ([y_3]))))))) ∧ (zz0 = false → (Q .ret (⟨[(2, .ptr (.loc 2) 0)], [((.loc 2), [.int .i64 (Edit.kind e), .int .i64 (Tree.kind (Edit.new e)), .slice (U := U) .u64 (Tree.words (Edit.new e)) .unk, .slice (U := U) .tree (Tree.kids (Edit.new e)) .unk, .int .i64 (Tree.kind (Edit.old e)), .slice (U := U) .u64 (Tree.words (Edit.old e)) .unk, .slice (U := U) .tree (Tree.kids (Edit.old e)) .unk, .slice (U := U) .wedit ml3_7 (.own (.l 2 7)), .slice (U := U) .kid ml3_8_a (.own (.l 2 8)), .int .i64 (Edit.list e), .slice (U := U) .op ml3_10_b (.own (.l 2 10))])], []⟩ : LSt U))))) := by kernel_rfl
  exact e_.mpr (by intro y_1 y_2 y_3; have hh := h y_1 rfl y_2 (reOp_eq _) y_3 (reOp_eq _); exact ⟨fun c_9 => ⟨(hh.1 c_9).1, ⟨(hh.1 c_9).2.1, (hh.1 c_9).2.2.1, (hh.1 c_9).2.2.2.1, ⟨(hh.1 c_9).2.2.2.2.1, (hh.1 c_9).2.2.2.2.2⟩⟩⟩, fun c_9 => (hh.2 c_9)⟩)
def Body131 (N : Nat) (e : Edit)  : Prop := awp cfg (know (know131 N)) (drawOk cfg (know (know131 N))) Tryz.f131.ntmps lv131 (cd Tryz.f131 []) (entry (args131.can (e, ())) []) (EndsQ cfg Tryz.f131.ntmps Tryz.f131.results.toList (res131 (e, ())) [])
abbrev HB131 : Prop := ∀ (N : Nat) (e : Edit) (_ : Unit), pre131 (e, ()) → mu131 (e, ()) < N + 1 → Body131 N e
noncomputable def know182 (N : Nat) : List (FuncId × Fs U) := (131, fs args131 (fun a => [pre131 a, mu131 a < N]) res131) :: (182, fs args182 (fun a => [pre182 a, mu182 a < N]) res182) :: []
def lv182 : Lives U := fun i => match i with
  | 0 => ([(1, []), (2, [])], [((.loc 1), []), ((.loc 2), [])])
  | 1 => ([(1, []), (2, []), (4, [])], [((.loc 1), []), ((.loc 2), [])])
  | 2 => ([(1, []), (2, []), (4, []), (5, [])], [((.loc 1), []), ((.loc 2), [])])
  | 3 => ([(1, []), (2, [])], [((.loc 1), []), ((.loc 2), [])])
  | 4 => ([(1, []), (2, []), (4, []), (8, [])], [((.loc 1), []), ((.loc 2), [])])
  | 5 => ([(1, []), (2, [])], [((.loc 1), []), ((.loc 2), [])])
  | 6 => ([(1, []), (2, []), (11, [])], [((.loc 1), []), ((.loc 2), [])])
  | 7 => ([(1, []), (2, [])], [((.loc 1), []), ((.loc 2), [])])
  | 8 => ([(2, [])], [((.loc 2), [])])
  | _ => ([], [])
abbrev W182 (N : Nat) (o : Op) (Q : AExit → LSt U → Prop) := awp cfg (know (know182 N)) (drawOk cfg (know (know182 N))) Tryz.f182.ntmps lv182 (cd Tryz.f182 []) (⟨[(0, .agg [.int .i64 (OpOf.kind o), .int .i64 (OpOf.n o), .slice (U := U) .tree (OpOf.l o) .unk, .int .i64 (Edit.kind (OpOf.e o)), .int .i64 (Tree.kind (Edit.old (OpOf.e o))), .slice (U := U) .u64 (Tree.words (Edit.old (OpOf.e o))) .unk, .slice (U := U) .tree (Tree.kids (Edit.old (OpOf.e o))) .unk, .int .i64 (Tree.kind (Edit.new (OpOf.e o))), .slice (U := U) .u64 (Tree.words (Edit.new (OpOf.e o))) .unk, .slice (U := U) .tree (Tree.kids (Edit.new (OpOf.e o))) .unk, .slice (U := U) .wedit (Edit.words (OpOf.e o)) .unk, .slice (U := U) .kid (Edit.kids (OpOf.e o)) .unk, .int .i64 (Edit.list (OpOf.e o)), .slice (U := U) .op (Edit.ops (OpOf.e o)) .unk])], [], []⟩ : LSt U) Q
theorem vc182 (N : Nat) (o : Op) (Q : AExit → LSt U → Prop) (h : ∀ y_1, y_1 = ((OpOf.e o)) → ((((OpOf.kind o) : Int) == 1) = true → Q .ret (⟨[(2, .ptr (.loc 2) 0)], [((.loc 2), [.int .i64 2, .int .i64 (OpOf.n o), .slice (U := U) .tree (OpOf.l o) .unk, .int .i64 (Edit.kind (OpOf.e o)), .int .i64 (Tree.kind (Edit.old (OpOf.e o))), .slice (U := U) .u64 (Tree.words (Edit.old (OpOf.e o))) .unk, .slice (U := U) .tree (Tree.kids (Edit.old (OpOf.e o))) .unk, .int .i64 (Tree.kind (Edit.new (OpOf.e o))), .slice (U := U) .u64 (Tree.words (Edit.new (OpOf.e o))) .unk, .slice (U := U) .tree (Tree.kids (Edit.new (OpOf.e o))) .unk, .slice (U := U) .wedit (Edit.words (OpOf.e o)) .unk, .slice (U := U) .kid (Edit.kids (OpOf.e o)) .unk, .int .i64 (Edit.list (OpOf.e o)), .slice (U := U) .op (Edit.ops (OpOf.e o)) .unk])], []⟩ : LSt U)) ∧ ((((OpOf.kind o) : Int) == 1) = false → ((((OpOf.kind o) : Int) == 2) = true → Q .ret (⟨[(2, .ptr (.loc 2) 0)], [((.loc 2), [.int .i64 1, .int .i64 (OpOf.n o), .slice (U := U) .tree (OpOf.l o) .unk, .int .i64 (Edit.kind (OpOf.e o)), .int .i64 (Tree.kind (Edit.old (OpOf.e o))), .slice (U := U) .u64 (Tree.words (Edit.old (OpOf.e o))) .unk, .slice (U := U) .tree (Tree.kids (Edit.old (OpOf.e o))) .unk, .int .i64 (Tree.kind (Edit.new (OpOf.e o))), .slice (U := U) .u64 (Tree.words (Edit.new (OpOf.e o))) .unk, .slice (U := U) .tree (Tree.kids (Edit.new (OpOf.e o))) .unk, .slice (U := U) .wedit (Edit.words (OpOf.e o)) .unk, .slice (U := U) .kid (Edit.kids (OpOf.e o)) .unk, .int .i64 (Edit.list (OpOf.e o)), .slice (U := U) .op (Edit.ops (OpOf.e o)) .unk])], []⟩ : LSt U)) ∧ ((((OpOf.kind o) : Int) == 2) = false → ((((OpOf.kind o) : Int) == 3) = true → (pre131 (y_1, ())) ∧ (mu131 (y_1, ()) < N) ∧ (Q .ret (⟨[(2, .ptr (.loc 2) 0)], [((.loc 2), [.int .i64 (OpOf.kind o), .int .i64 (OpOf.n o), .slice (U := U) .tree (OpOf.l o) .unk, .int .i64 (Edit.kind (turnE y_1)), .int .i64 (Tree.kind (Edit.old (turnE y_1))), .slice (U := U) .u64 (Tree.words (Edit.old (turnE y_1))) .unk, .slice (U := U) .tree (Tree.kids (Edit.old (turnE y_1))) .unk, .int .i64 (Tree.kind (Edit.new (turnE y_1))), .slice (U := U) .u64 (Tree.words (Edit.new (turnE y_1))) .unk, .slice (U := U) .tree (Tree.kids (Edit.new (turnE y_1))) .unk, .slice (U := U) .wedit (Edit.words (turnE y_1)) .unk, .slice (U := U) .kid (Edit.kids (turnE y_1)) .unk, .int .i64 (Edit.list (turnE y_1)), .slice (U := U) .op (Edit.ops (turnE y_1)) .unk])], []⟩ : LSt U))) ∧ ((((OpOf.kind o) : Int) == 3) = false → Q .ret (⟨[(2, .ptr (.loc 2) 0)], [((.loc 2), [.int .i64 (OpOf.kind o), .int .i64 (OpOf.n o), .slice (U := U) .tree (OpOf.l o) .unk, .int .i64 (Edit.kind (OpOf.e o)), .int .i64 (Tree.kind (Edit.old (OpOf.e o))), .slice (U := U) .u64 (Tree.words (Edit.old (OpOf.e o))) .unk, .slice (U := U) .tree (Tree.kids (Edit.old (OpOf.e o))) .unk, .int .i64 (Tree.kind (Edit.new (OpOf.e o))), .slice (U := U) .u64 (Tree.words (Edit.new (OpOf.e o))) .unk, .slice (U := U) .tree (Tree.kids (Edit.new (OpOf.e o))) .unk, .slice (U := U) .wedit (Edit.words (OpOf.e o)) .unk, .slice (U := U) .kid (Edit.kids (OpOf.e o)) .unk, .int .i64 (Edit.list (OpOf.e o)), .slice (U := U) .op (Edit.ops (OpOf.e o)) .unk])], []⟩ : LSt U))))) :
    W182 N o Q := by
  have e_ : (W182 N o Q) = (let y_1 := (reEdit (OpOf.e o)); ((((((OpOf.kind o) == 1) = true → ((Q .ret (⟨[(2, .ptr (.loc 2) 0)], [((.loc 2), [.int .i64 2, .int .i64 (OpOf.n o), .slice (U := U) .tree (OpOf.l o) .unk, .int .i64 (Edit.kind (OpOf.e o)), .int .i64 (Tree.kind (Edit.old (OpOf.e o))), .slice (U := U) .u64 (Tree.words (Edit.old (OpOf.e o))) .unk, .slice (U := U) .tree (Tree.kids (Edit.old (OpOf.e o))) .unk, .int .i64 (Tree.kind (Edit.new (OpOf.e o))), .slice (U := U) .u64 (Tree.words (Edit.new (OpOf.e o))) .unk, .slice (U := U) .tree (Tree.kids (Edit.new (OpOf.e o))) .unk, .slice (U := U) .wedit (Edit.words (OpOf.e o)) .unk, .slice (U := U) .kid (Edit.kids (OpOf.e o)) .unk, .int .i64 (Edit.list (OpOf.e o)), .slice (U := U) .op (Edit.ops (OpOf.e o)) .unk])], []⟩ : LSt U)))) ∧ (((OpOf.kind o) == 1) = false → ((((OpOf.kind o) == 2) = true → ((Q .ret (⟨[(2, .ptr (.loc 2) 0)], [((.loc 2), [.int .i64 1, .int .i64 (OpOf.n o), .slice (U := U) .tree (OpOf.l o) .unk, .int .i64 (Edit.kind (OpOf.e o)), .int .i64 (Tree.kind (Edit.old (OpOf.e o))), .slice (U := U) .u64 (Tree.words (Edit.old (OpOf.e o))) .unk, .slice (U := U) .tree (Tree.kids (Edit.old (OpOf.e o))) .unk, .int .i64 (Tree.kind (Edit.new (OpOf.e o))), .slice (U := U) .u64 (Tree.words (Edit.new (OpOf.e o))) .unk, .slice (U := U) .tree (Tree.kids (Edit.new (OpOf.e o))) .unk, .slice (U := U) .wedit (Edit.words (OpOf.e o)) .unk, .slice (U := U) .kid (Edit.kids (OpOf.e o)) .unk, .int .i64 (Edit.list (OpOf.e o)), .slice (U := U) .op (Edit.ops (OpOf.e o)) .unk])], []⟩ : LSt U)))) ∧ (((OpOf.kind o) == 2) = false → ((((OpOf.kind o) == 3) = true → (pre131 (y_1, ())) ∧ (mu131 (y_1, ()) < N) ∧ ((Q .ret (⟨[(2, .ptr (.loc 2) 0)], [((.loc 2), [.int .i64 (OpOf.kind o), .int .i64 (OpOf.n o), .slice (U := U) .tree (OpOf.l o) .unk, .int .i64 (Edit.kind (turnE y_1)), .int .i64 (Tree.kind (Edit.old (turnE y_1))), .slice (U := U) .u64 (Tree.words (Edit.old (turnE y_1))) .unk, .slice (U := U) .tree (Tree.kids (Edit.old (turnE y_1))) .unk, .int .i64 (Tree.kind (Edit.new (turnE y_1))), .slice (U := U) .u64 (Tree.words (Edit.new (turnE y_1))) .unk, .slice (U := U) .tree (Tree.kids (Edit.new (turnE y_1))) .unk, .slice (U := U) .wedit (Edit.words (turnE y_1)) .unk, .slice (U := U) .kid (Edit.kids (turnE y_1)) .unk, .int .i64 (Edit.list (turnE y_1)), .slice (U := U) .op (Edit.ops (turnE y_1)) .unk])], []⟩ : LSt U)))) ∧ (((OpOf.kind o) == 3) = false → (Q .ret (⟨[(2, .ptr (.loc 2) 0)], [((.loc 2), [.int .i64 (OpOf.kind o), .int .i64 (OpOf.n o), .slice (U := U) .tree (OpOf.l o) .unk, .int .i64 (Edit.kind (OpOf.e o)), .int .i64 (Tree.kind (Edit.old (OpOf.e o))), .slice (U := U) .u64 (Tree.words (Edit.old (OpOf.e o))) .unk, .slice (U := U) .tree (Tree.kids (Edit.old (OpOf.e o))) .unk, .int .i64 (Tree.kind (Edit.new (OpOf.e o))), .slice (U := U) .u64 (Tree.words (Edit.new (OpOf.e o))) .unk, .slice (U := U) .tree (Tree.kids (Edit.new (OpOf.e o))) .unk, .slice (U := U) .wedit (Edit.words (OpOf.e o)) .unk, .slice (U := U) .kid (Edit.kids (OpOf.e o)) .unk, .int .i64 (Edit.list (OpOf.e o)), .slice (U := U) .op (Edit.ops (OpOf.e o)) .unk])], []⟩ : LSt U))))))))))) := by kernel_rfl
  exact e_.mpr (by intro y_1; have hh := h y_1 (reEdit_eq _); exact ⟨fun c_10 => (hh.1 c_10), fun c_10 => ⟨fun c_11 => ((hh.2 c_10).1 c_11), fun c_11 => ⟨fun c_12 => ⟨(((hh.2 c_10).2 c_11).1 c_12).1, (((hh.2 c_10).2 c_11).1 c_12).2.1, (((hh.2 c_10).2 c_11).1 c_12).2.2⟩, fun c_12 => (((hh.2 c_10).2 c_11).2 c_12)⟩⟩⟩)
def Body182 (N : Nat) (o : Op)  : Prop := awp cfg (know (know182 N)) (drawOk cfg (know (know182 N))) Tryz.f182.ntmps lv182 (cd Tryz.f182 []) (entry (args182.can (o, ())) []) (EndsQ cfg Tryz.f182.ntmps Tryz.f182.results.toList (res182 (o, ())) [])
abbrev HB182 : Prop := ∀ (N : Nat) (o : Op) (_ : Unit), pre182 (o, ()) → mu182 (o, ()) < N + 1 → Body182 N o
theorem make131_110 (ha : HB131) (hb : HB182) : Contract Tryz.prog cfg 131 spec131 ∧ Contract Tryz.prog cfg 182 spec182 :=
  contract_mut2 (μA := mu131) (μB := mu182) (l := []) cfgOk rfl (trivial) lv131 lv182 Tryz.func131 Tryz.func182 rfl rfl rfl rfl 1 1 (fun _ => rfl) (fun _ => rfl) (by decide) (by decide) (fun N ⟨e, _⟩ => ha N e ()) (fun N ⟨o, _⟩ => hb N o ())
end
end Go.AM.YtpjenobkibfpcaaGreat

namespace Go.AM.YtpjenobkibfpcaaGreat
open Go.AM Go.Proofs
theorem turnOp_at (o : Op) : turnOp o = if o.kind = 1 then ⟨2, o.n, o.l, o.e⟩ else if o.kind = 2 then ⟨1, o.n, o.l, o.e⟩ else if o.kind = 3 then ⟨o.kind, o.n, o.l, turnE o.e⟩ else ⟨o.kind, o.n, o.l, o.e⟩ := by cases o; rfl
theorem turnE_at (e : Edit) : turnE e = .mk e.kind e.new e.old (e.words.map turnW) (turnKs e.kids) e.list (turnOs e.ops) := by cases e; rfl
theorem turnKid_at (k : Kid) : turnKid k = ⟨k.at_, turnE k.e⟩ := by cases k; rfl
theorem b182 : HB182 := by
  intro N o _ hp hN
  simp only [pre182, mu182] at hp hN
  rw [massOp_e] at hp hN
  have hpos := massE_pos o.e
  refine vc182 _ _ _ ?_
  rintro y hy
  (simp only [vcS])
  refine ⟨fun h => ?_, fun h => ⟨fun h2 => ?_, fun h2 => ⟨fun h3 => ⟨by simp only [pre131, hy]; omega, by simp only [mu131, hy]; omega, ?_⟩, fun h3 => ?_⟩⟩⟩
  · have e : turnOp o = ⟨2, o.n, o.l, o.e⟩ := by rw [turnOp_at, if_pos h]
    simp only [res182, e]
    (repeat' (first | exact trivial | exact rfl | apply And.intro))
  · have e : turnOp o = ⟨1, o.n, o.l, o.e⟩ := by rw [turnOp_at, if_neg h, if_pos h2]
    simp only [res182, e]
    (repeat' (first | exact trivial | exact rfl | apply And.intro))
  · have e : turnOp o = ⟨o.kind, o.n, o.l, turnE o.e⟩ := by rw [turnOp_at, if_neg h, if_neg h2, if_pos h3]
    simp only [res182, e]
    rw [hy]
    (repeat' (first | exact trivial | exact rfl | apply And.intro))
  · have e : turnOp o = ⟨o.kind, o.n, o.l, o.e⟩ := by rw [turnOp_at, if_neg h, if_neg h2, if_neg h3]
    simp only [res182, e]
    (repeat' (first | exact trivial | exact rfl | apply And.intro))
theorem b131 : HB131 := by
  intro N e _ hp hN
  simp only [pre131, mu131] at hp hN
  have h1 := len_massE e
  have h2 := massKs_len e.kids
  have h3 := massOs_len e.ops
  have ha := turnE_at e
  refine vc131 _ _ _ ?_
  refine loop_rule (ι := Int × List WEdit) (fun s => head131_0 e s.1 s.2) (fun s => 0 ≤ s.1 ∧ s.1 ≤ e.words.length ∧ s.2.length = s.1 ∧ s.2 ++ (e.words.drop s.1.toNat).map turnW = e.words.map turnW) (fun s => ((e.words.length : Int) - s.1).toNat) (0, []) rfl ⟨by simp, by simp, by simp, by simp⟩ ?_
  rintro ⟨i, ws⟩ ⟨g1, g2, g3, g4⟩
  dsimp only at g1 g2 g3 g4
  refine vc131_l0 _ _ _ _ _ _ ?_
  (simp only [vcS])
  refine ⟨fun hi => ?_, fun hi => ?_⟩
  · rw [dropI g1 hi (WEdit.mk 0 0 0 0)] at g4
    simp only [List.map_cons] at g4
    refine ⟨⟨g1, hi⟩, by simp; omega, by unfold InR; omega, (i + 1, ws ++ [turnW (e.words.getD i.toNat (WEdit.mk 0 0 0 0))]), rfl, ⟨by dsimp only; omega, by dsimp only; omega, by simp; omega, ?_⟩, by dsimp only; omega⟩
    simp only [List.append_assoc, List.cons_append, List.nil_append]
    exact g4
  · rw [List.drop_of_length_le (by omega)] at g4
    simp only [List.map_nil, List.append_nil] at g4
    refine loop_rule (ι := Int × List Kid) (fun s => head131_1 e ws s.1 s.2) (fun s => 0 ≤ s.1 ∧ s.1 ≤ e.kids.length ∧ s.2.length = s.1 ∧ s.2 ++ turnKs (e.kids.drop s.1.toNat) = turnKs e.kids) (fun s => ((e.kids.length : Int) - s.1).toNat) (0, []) rfl ⟨by simp, by simp, by simp, by simp⟩ ?_
    rintro ⟨j, ks⟩ ⟨f1, f2, f3, f4⟩
    dsimp only at f1 f2 f3 f4
    refine vc131_l1 _ _ _ _ _ _ _ ?_
    rintro y1 hy1 y2 hy2 y3 hy3
    (simp only [vcS])
    refine ⟨fun hj => ?_, fun hj => ?_⟩
    · have hm := massKs_mem (mem_getD (l := e.kids) (i := j.toNat) (by omega) (KidOf.mk 0 Edit.nil))
      rw [dropI f1 hj (KidOf.mk 0 Edit.nil)] at f4
      rw [← hy1] at f4 hm
      simp only [turnKs, turnKid_at] at f4
      rw [← hy2] at f4 hm
      rw [← hy3] at f4
      refine ⟨⟨f1, hj⟩, by simp only [pre131]; omega, by simp only [mu131]; omega, by simp; omega, by unfold InR; omega, (j + 1, ks ++ [⟨y1.at_, y3⟩]), rfl, ⟨by dsimp only; omega, by dsimp only; omega, by simp; omega, ?_⟩, by dsimp only; omega⟩
      simp only [List.append_assoc, List.cons_append, List.nil_append]
      exact f4
    · rw [List.drop_of_length_le (by omega)] at f4
      simp only [turnKs, List.append_nil] at f4
      refine loop_rule (ι := Int × List Op) (fun s => head131_2 e ws ks s.1 s.2) (fun s => 0 ≤ s.1 ∧ s.1 ≤ e.ops.length ∧ s.2.length = s.1 ∧ s.2 ++ turnOs (e.ops.drop s.1.toNat) = turnOs e.ops) (fun s => ((e.ops.length : Int) - s.1).toNat) (0, []) rfl ⟨by simp, by simp, by simp, by simp⟩ ?_
      rintro ⟨k, os⟩ ⟨d1, d2, d3, d4⟩
      dsimp only at d1 d2 d3 d4
      refine vc131_l2 _ _ _ _ _ _ _ _ ?_
      rintro z1 hz1 z2 hz2 z3 hz3
      (simp only [vcS])
      refine ⟨fun hj => ?_, fun hj => ?_⟩
      · have hm := massOs_mem (mem_getD (l := e.ops) (i := k.toNat) (by omega) Op.nil)
        rw [dropI d1 hj Op.nil] at d4
        rw [← hz1, ← hz2] at d4 hm
        simp only [turnOs] at d4
        rw [← hz3] at d4
        refine ⟨⟨d1, hj⟩, by simp only [pre182]; omega, by simp only [mu182]; omega, by simp; omega, by unfold InR; omega, (k + 1, os ++ [z3]), rfl, ⟨by dsimp only; omega, by dsimp only; omega, by simp; omega, ?_⟩, by dsimp only; omega⟩
        simp only [List.append_assoc, List.cons_append, List.nil_append]
        exact d4
      · rw [List.drop_of_length_le (by omega)] at d4
        simp only [turnOs, List.append_nil] at d4
        rw [g4, f4, d4]
        simp only [res131, ha]
        (repeat' (first | exact trivial | exact rfl | apply And.intro))
theorem c131_110 : Contract Tryz.prog cfg 131 spec131 ∧ Contract Tryz.prog cfg 182 spec182 := make131_110 b131 b182
end Go.AM.YtpjenobkibfpcaaGreat

namespace Go.AM.YtpjenobkibfpcaaGreat
open Go.AM Go.Proofs
theorem keepO_cases : ∀ (l : List Op) (n : Int), keepO l n = l ++ [⟨0, n, [], Edit.nil⟩] ∨ ∃ a o, l = a ++ [o] ∧ o.kind = 0 ∧ keepO l n = a ++ [⟨o.kind, o.n + n, o.l, o.e⟩]
  | [], n => Or.inl rfl
  | [o], n => by
    by_cases h : o.kind = 0
    · exact Or.inr ⟨[], o, rfl, h, by simp [keepO, h]⟩
    · exact Or.inl (by simp [keepO, h])
  | o :: p :: r, n => by
    rcases keepO_cases (p :: r) n with h | ⟨a, q, h1, h2, h3⟩
    · exact Or.inl (by simp only [keepO, h, List.cons_append])
    · exact Or.inr ⟨o :: a, q, by rw [h1]; rfl, h2, by simp only [keepO, h3, List.cons_append]⟩
def W0 : Wst := ⟨[], [], []⟩
theorem normsT_idem (l : List Tree) : normsT (normsT l) = normsT l := by
  simp only [normsT, List.map_map]
  congr 1
  funext t
  exact normT_idem t
theorem normsT_append (a b : List Tree) : normsT (a ++ b) = normsT a ++ normsT b := by simp [normsT]
end Go.AM.YtpjenobkibfpcaaGreat

namespace Go.AM
theorem noneT_is {t : Tree} (h : noneT t = true) : t = Tree.nil := by
  obtain ⟨k, w, ks⟩ := t
  simp only [noneT, decide_eq_true_eq] at h
  obtain ⟨h1, h2, h3⟩ := h
  have h1 : k = 0 := h1
  rw [h1, List.eq_nil_of_length_eq_zero (l := w) h2, List.eq_nil_of_length_eq_zero (l := ks) h3]
  rfl
theorem sameE_is {e : Edit} (h : sameE e = true) : e = Edit.nil := by
  obtain ⟨k, o, n, w, ks, l, os⟩ := e
  simp only [sameE, Bool.and_eq_true, decide_eq_true_eq] at h
  obtain ⟨⟨⟨h1, h2⟩, h3⟩, h4, h5, h6, h7⟩ := h
  have h1 : k = 0 := h1
  have h7 : l = 0 := h7
  rw [h1, h7, noneT_is (t := o) h2, noneT_is (t := n) h3, List.eq_nil_of_length_eq_zero (l := w) h4, List.eq_nil_of_length_eq_zero (l := ks) h5, List.eq_nil_of_length_eq_zero (l := os) h6]
  rfl
structure RightE (e : Edit) (d : Int) : Prop where
  d0 : d ≠ 0
  kind : 0 ≤ e.kind ∧ e.kind ≤ 3
  none : e.kind ≠ 1 → e.old = Tree.nil ∧ e.new = Tree.nil
  words0 : e.kind ≠ 2 → e.words = [] ∧ e.kids = []
  ops0 : e.kind ≠ 3 → e.list = 0 ∧ e.ops = []
  rep : e.kind = 1 → rightT e.old (dT d) = true ∧ rightT e.new (dT d) = true ∧ e.old.kind ≠ 10 ∧ e.new.kind ≠ 10
  words : wordsOk (-1) e.words = true
  kids : rightKs (-1) e.kids (d - 1) = true
  list : e.kind = 3 → 2 ≤ e.list ∧ e.list ≤ 9
  ops : rightOs e.list e.ops (d - 1) = true
  len : lenA e.ops 0 < 1048576 ∧ lenB e.ops 0 < 1048576
theorem rightE_all {e : Edit} {d : Int} (h : rightE e d = true) : RightE e d := by
  obtain ⟨k, o, n, w, ks, l, os⟩ := e
  rw [rightE] at h
  split at h
  · cases h
  · rename_i a
    split at h
    · cases h
    · rename_i b
      have b1 : k ≠ 1 → o = Tree.nil ∧ n = Tree.nil := by
        intro hk
        by_cases x : noneT o = true ∧ noneT n = true
        · exact ⟨noneT_is x.1, noneT_is x.2⟩
        · exact absurd (.inl ⟨hk, x⟩) b
      have b2 : k ≠ 2 → w = [] ∧ ks = [] := by
        intro hk
        by_cases x : w.length = 0 ∧ ks.length = 0
        · exact ⟨List.eq_nil_of_length_eq_zero x.1, List.eq_nil_of_length_eq_zero x.2⟩
        · exact absurd (.inr (.inl ⟨hk, x⟩)) b
      have b3 : k ≠ 3 → l = 0 ∧ os = [] := by
        intro hk
        by_cases x : l ≠ 0 ∨ os.length ≠ 0
        · exact absurd (.inr (.inr ⟨hk, x⟩)) b
        · exact ⟨by omega, List.eq_nil_of_length_eq_zero (by omega)⟩
      split at h
      · rename_i c
        simp only [Bool.and_eq_true, decide_eq_true_eq] at h
        obtain ⟨⟨h1, h2⟩, h3, h4⟩ := h
        have c2 := b2 (by omega)
        have c3 := b3 (by omega)
        obtain ⟨rfl, rfl⟩ := c2
        obtain ⟨rfl, rfl⟩ := c3
        exact ⟨by omega, ⟨by show 0 ≤ k; omega, by show k ≤ 3; omega⟩, b1, b2, b3, fun _ => ⟨h1, h2, h3, h4⟩, rfl, rfl, fun e => by have e : k = 3 := e; omega, rfl, by show lenA [] 0 < _ ∧ lenB [] 0 < _; simp [lenA, lenB]⟩
      · rename_i c
        simp only [Bool.and_eq_true, decide_eq_true_eq] at h
        obtain ⟨⟨⟨⟨h1, h2⟩, h3⟩, h4⟩, h5⟩ := h
        exact ⟨by omega, ⟨by show 0 ≤ k; omega, by show k ≤ 3; omega⟩, b1, b2, b3, fun e => absurd e c, h1, h2, fun e => by have e : k = 3 := e; show 2 ≤ l ∧ l ≤ 9; omega, h4, h5⟩
theorem rightKs_all : ∀ {ks : List Kid} {last d : Int}, rightKs last ks d = true → ∀ k ∈ ks, (last < k.at_ ∧ k.at_ ≤ 65534 ∧ k.e.kind ≠ 0) ∧ rightE k.e d = true
  | [], _, _, _, _, hk => by cases hk
  | ⟨a, e⟩ :: r, last, d, h, k, hk => by
    simp only [rightKs, rightKid, Bool.and_eq_true, decide_eq_true_eq] at h
    obtain ⟨⟨h1, h2⟩, h3⟩ := h
    rcases List.mem_cons.1 hk with rfl | hk
    · exact ⟨h1, h2⟩
    · have := rightKs_all h3 k hk
      have h1 : last < a ∧ a ≤ 65534 ∧ e.kind ≠ 0 := h1
      have h4 : a < k.at_ := this.1.1
      exact ⟨⟨by omega, this.1.2⟩, this.2⟩
theorem rightOs_mem {list : Int} : ∀ {os : List Op} {d : Int}, rightOs list os d = true → ∀ o ∈ os, rightOp list o d = true
  | [], _, _, _, ho => by cases ho
  | a :: r, d, h, o, ho => by
    simp only [rightOs, Bool.and_eq_true] at h
    rcases List.mem_cons.1 ho with rfl | ho
    · exact h.1
    · exact rightOs_mem h.2 o ho
theorem wordsOk_all : ∀ {ws : List WEdit} {last : Int}, wordsOk last ws = true → ∀ w ∈ ws, last < w.at_ ∧ w.at_ ≤ 65534 ∧ w.mask ≠ 0 ∧ withinW w.old w.mask = true ∧ withinW w.new w.mask = true
  | [], _, _, _, hw => by cases hw
  | a :: r, last, h, w, hw => by
    simp only [wordsOk, Bool.and_eq_true, decide_eq_true_eq] at h
    obtain ⟨⟨⟨h1, h2⟩, h3⟩, h4⟩ := h
    rcases List.mem_cons.1 hw with rfl | hw
    · exact ⟨h1.1, h1.2.1, h1.2.2, h2, h3⟩
    · have := wordsOk_all h4 w hw
      exact ⟨by omega, this.2⟩
inductive RightOp (list : Int) (d : Int) : Op → Prop
  | keep (n : Int) : 1 ≤ n → n ≤ 1048576 → RightOp list d ⟨0, n, [], Edit.nil⟩
  | gone (l : List Tree) : treesG (dT d) list l = true → 0 < l.length → RightOp list d ⟨1, 0, l, Edit.nil⟩
  | come (l : List Tree) : treesG (dT d) list l = true → 0 < l.length → RightOp list d ⟨2, 0, l, Edit.nil⟩
  | into (e : Edit) : rightE e d = true → e.kind ≠ 0 → 7 < list → (list = 8 ∨ e.kind = 2 ∨ e.kind = 1 ∧ e.old.kind = 1 ∧ e.new.kind = 1) → RightOp list d ⟨3, 0, [], e⟩
theorem rightOp_all {list : Int} {o : Op} {d : Int} (h : rightOp list o d = true) : RightOp list d o := by
  obtain ⟨k, n, l, e⟩ := o
  rw [rightOp] at h
  split at h
  · rename_i hk
    simp only [Bool.and_eq_true, decide_eq_true_eq] at h
    obtain ⟨⟨h1, h2, h3⟩, h4⟩ := h
    rw [hk, sameE_is h4, List.eq_nil_of_length_eq_zero h3]
    exact .keep n h1 h2
  · rename_i h0
    split at h
    · cases h
    · rename_i h1
      have hn : n = 0 := by omega
      subst hn
      split at h
      · rename_i h2
        simp only [Bool.and_eq_true, decide_eq_true_eq] at h
        obtain ⟨⟨h3, h4⟩, h5⟩ := h
        rw [sameE_is h5]
        by_cases hk : k = 1
        · rw [hk]; exact .gone l h3 h4
        · rw [show k = 2 by omega]; exact .come l h3 h4
      · rename_i h2
        simp only [Bool.and_eq_true, decide_eq_true_eq] at h
        obtain ⟨⟨⟨h3, h4, h5⟩, h6⟩, h7⟩ := h
        rw [show k = 3 by omega, List.eq_nil_of_length_eq_zero h3]
        exact .into e h6 h4 h5 h7
theorem right_kids {e : Edit} {d : Int} (h : rightE e d = true) : (∀ k ∈ e.kids, ∃ d, rightE k.e d = true) ∧ (∀ o ∈ e.ops, ∃ l d, rightOp l o d = true) ∧ (e.kind = 3 → 2 ≤ e.list ∧ e.list ≤ 9) := by
  have r := rightE_all h
  exact ⟨fun k hk => ⟨_, (rightKs_all r.kids k hk).2⟩, fun o ho => ⟨_, _, rightOs_mem r.ops o ho⟩, r.list⟩
theorem right_desc {l d : Int} {o : Op} (h : rightOp l o d = true) (hk : o.kind = 3) : rightE o.e d = true := by
  have r := rightOp_all h
  cases r with
  | into e h1 => exact h1
  | keep | gone | come => exact absurd hk (by simp)
end Go.AM

namespace Go.AM.YtpjenobkibfpcaaGreat
open Go.AM Go.Proofs
theorem setPad_length {α : Type} (z : α) (l : List α) (i : Nat) (x : α) : (setPad z l i x).length = max l.length (i + 1) := by
  simp only [setPad, List.length_set, List.length_append, List.length_replicate]; omega
theorem setPad_getD {α : Type} (z : α) (l : List α) (i : Nat) (x : α) (j : Nat) : (setPad z l i x).getD j z = if j = i then x else l.getD j z := by
  simp only [setPad, List.getD_eq_getElem?_getD, List.getElem?_set, List.length_append, List.length_replicate]
  by_cases h : j = i
  · subst h; rw [if_pos rfl, if_pos rfl, if_pos (by omega)]; rfl
  · rw [if_neg (fun e => h e.symm), if_neg h]
    by_cases hl : j < l.length
    · rw [List.getElem?_append_left hl]
    · rw [List.getElem?_append_right (by omega), List.getElem?_eq_none (l := l) (by omega), List.getElem?_replicate]
      split <;> rfl
theorem setPad_map {α β : Type} (f : α → β) (z : α) (l : List α) (i : Nat) (x : α) : (setPad z l i x).map f = setPad (f z) (l.map f) i (f x) := by
  simp [setPad, List.map_set]
theorem normK_map : ∀ l : List Tree, normK l = normsT l
  | [] => rfl
  | t :: r => by simp [normK, normsT, normK_map r]
theorem normsT_pad (l : List Tree) (i : Nat) (x : Tree) : normsT (setPad Tree.nil l i x) = setPad Tree.nil (normsT l) i (normT x) := by
  rw [normsT, setPad_map, normT_nil]; rfl
theorem norms_pad {a b : List Tree} {i : Nat} {x y : Tree} (h : normsT a = normsT b) (hx : normT x = normT y) : normsT (setPad Tree.nil a i x) = normsT (setPad Tree.nil b i y) := by
  rw [normsT_pad, normsT_pad, h, hx]
theorem norms_app {a b c d : List Tree} (h : normsT a = normsT b) (hx : normsT c = normsT d) : normsT (a ++ c) = normsT (b ++ d) := by
  rw [normsT_append, normsT_append, h, hx]
theorem normT_mk (k : Int) (w : List Int) {a b : List Tree} (h : normsT a = normsT b) : normT (.mk k w a) = normT (.mk k w b) := by
  simp only [normT, normK_map, h]
theorem norms_len {a b : List Tree} (h : normsT a = normsT b) : a.length = b.length := by
  have := congrArg List.length h
  simpa [normsT] using this
theorem norms_one {a b : Tree} : normsT [a] = normsT [b] ↔ normT a = normT b := by simp [normsT]
def OptR {α β : Type} (R : α → β → Prop) : Option α → Option β → Prop
  | none, none => True
  | some a, some b => R a b
  | _, _ => False
theorem OptR.rfl' {α : Type} (a : Option α) : OptR Eq a a := by cases a; exact trivial; exact rfl
theorem OptR.bind {α β γ δ : Type} {R : α → β → Prop} {S : γ → δ → Prop} {a : Option α} {b : Option β} {f : α → Option γ} {g : β → Option δ} (h : OptR R a b) (hf : ∀ x y, R x y → OptR S (f x) (g y)) : OptR S (a.bind f) (b.bind g) := by
  cases a <;> cases b <;> first | exact trivial | exact h.elim | exact hf _ _ h
theorem OptR.map {α β γ δ : Type} {R : α → β → Prop} {S : γ → δ → Prop} {a : Option α} {b : Option β} {f : α → γ} {g : β → δ} (h : OptR R a b) (hf : ∀ x y, R x y → S (f x) (g y)) : OptR S (a.map f) (b.map g) := by
  cases a <;> cases b <;> first | exact trivial | exact h.elim | exact hf _ _ h
theorem OptR.ite {α β : Type} {R : α → β → Prop} {p q : Prop} [Decidable p] [Decidable q] {a c : Option α} {b d : Option β} (h : p ↔ q) (h1 : p → OptR R a b) (h2 : ¬p → OptR R c d) : OptR R (if p then a else c) (if q then b else d) := by
  by_cases hp : p
  · rw [if_pos hp, if_pos (h.1 hp)]; exact h1 hp
  · rw [if_neg hp, if_neg (fun hq => hp (h.2 hq))]; exact h2 hp
def Eqv (x y : Tree) : Prop := normT x = normT y
def EqvL (x y : List Tree) : Prop := normsT x = normsT y
theorem EqvL.take {x y : List Tree} (h : EqvL x y) (n : Nat) : EqvL (x.take n) (y.take n) := by unfold EqvL normsT at *; rw [List.map_take, List.map_take, h]
theorem EqvL.drop {x y : List Tree} (h : EqvL x y) (n : Nat) : EqvL (x.drop n) (y.drop n) := by unfold EqvL normsT at *; rw [List.map_drop, List.map_drop, h]
theorem EqvL.len {x y : List Tree} (h : EqvL x y) : x.length = y.length := norms_len h
theorem norms_getD (l : List Tree) (i : Nat) : (normsT l).getD i Tree.nil = normT (l.getD i Tree.nil) := by rw [← normK_map]; exact normK_getD l i
theorem EqvL.get {x y : List Tree} (h : EqvL x y) (i : Nat) : Eqv (x.getD i Tree.nil) (y.getD i Tree.nil) := by
  unfold Eqv; rw [← norms_getD, ← norms_getD, h]
theorem endD_rel {a b : Option (List Tree × List Tree)} (h : OptR (fun x y => EqvL x.1 y.1 ∧ EqvL x.2 y.2) a b) : OptR EqvL (endD a) (endD b) := by
  unfold endD
  refine h.bind fun x y hxy => ?_
  exact OptR.ite (by rw [hxy.2.len]) (fun _ => hxy.1) (fun _ => trivial)
def EqvW (a b : List Int) : Prop := ∀ i : Nat, a.getD i 0 = b.getD i 0
def EqvS (a b : List Tree) : Prop := ∀ i : Nat, Eqv (a.getD i Tree.nil) (b.getD i Tree.nil)
theorem eqv_struct {a b : Tree} (ha : a.kind = 1) (hb : b.kind = 1) : Eqv a b ↔ EqvW a.words b.words ∧ EqvS a.kids b.kids := by
  unfold Eqv EqvW EqvS
  rw [normT_eq_iff, ha, hb]
  simp [Eqv]
theorem eqv_list {a b : Tree} (h0 : a.kind ≠ 0) (h1 : a.kind ≠ 1) : Eqv a b ↔ a.kind = b.kind ∧ a.words = b.words ∧ EqvL a.kids b.kids := by
  unfold Eqv EqvL
  rw [normT_eq_iff, if_neg h1, ← normK_map, ← normK_map, normK_eq_iff]
  simp [h0, and_assoc]
theorem Eqv.kind {a b : Tree} (h : Eqv a b) : a.kind = b.kind := ((normT_eq_iff a b).1 h).1
theorem wsD_eqv {tw tv : List Int} (h : EqvW tw tv) : ∀ (ws : List WEdit) (a b : List Int), EqvW a b → OptR EqvW (wsD tw ws a) (wsD tv ws b)
  | [], _, _, hab => hab
  | w :: r, a, b, hab => by
    rw [wsD, wsD, h w.at_.toNat]
    refine OptR.ite Iff.rfl (fun _ => wsD_eqv h r _ _ fun i => ?_) (fun _ => trivial)
    rw [setPad_getD, setPad_getD]
    split
    · rfl
    · exact hab i
theorem goneD_eqv (l : List Tree) {a b : List Tree} (h : EqvL a b) : goneD l a = goneD l b := by
  unfold goneD
  rw [h.len, show normsT (a.take l.length) = normsT (b.take l.length) from h.take _]
mutual
theorem doE_eqv : ∀ (e : Edit) (d : Int) (t s : Tree), rightE e d = true → Eqv t s → OptR Eqv (doE false e t) (doE false e s)
  | .mk k o n w ks l os, d, t, s, hr, h => by
    have h1 := doKs_eqv ks t.kids s.kids
    have h2 := doOs_eqv os t.kids s.kids [] []
    have hk := h.kind
    have hrt := right_kids hr
    rw [doE_at, doE_at, nrD_false, nrD_false]
    show OptR Eqv (if k = 0 then _ else _) (if k = 0 then _ else _)
    refine OptR.ite Iff.rfl (fun _ => h) fun _ => OptR.ite Iff.rfl (fun _ => ?_) fun _ => OptR.ite Iff.rfl (fun k2 => ?_) fun _ => OptR.ite Iff.rfl (fun k3 => ?_) (fun _ => trivial)
    · rw [show normT t = normT s from h]
      exact OptR.ite Iff.rfl (fun _ => rfl) (fun _ => trivial)
    · refine OptR.ite (by rw [hk]) (fun ht => ?_) (fun _ => trivial)
      have hs : s.kind = 1 := by rw [← hk]; exact ht
      obtain ⟨hw, hks⟩ := (eqv_struct ht hs).1 h
      refine (wsD_eqv hw w t.words s.words hw).bind fun a b hab => ?_
      refine (h1 hks hrt.1 t.kids s.kids hks).map fun x y hxy => ?_
      exact (eqv_struct rfl rfl).2 ⟨hab, hxy⟩
    · refine OptR.ite (by rw [hk]) (fun ht => ?_) (fun _ => trivial)
      have hl := hrt.2.2
      have hos := hrt.2.1
      replace ht : t.kind = l := ht
      replace hl : 2 ≤ l ∧ l ≤ 9 := hl k3
      obtain ⟨_, _, hks⟩ := (eqv_list (by omega) (by omega)).1 h
      exact (endD_rel (h2 hks rfl hos)).map fun x y hxy => normT_mk _ _ hxy
theorem doKs_eqv : ∀ (ks : List (KidOf Edit)) (tk sk : List Tree), EqvS tk sk → (∀ k ∈ ks, ∃ d, rightE k.e d = true) → ∀ a b, EqvS a b → OptR EqvS (doKs false tk ks a) (doKs false sk ks b)
  | [], _, _, _, _, _, _, hab => hab
  | k :: r, tk, sk, h, hr, a, b, hab => by
    rw [doKs, doKs]
    obtain ⟨d, hd⟩ := hr k List.mem_cons_self
    refine (doKid_eqv k d tk sk h hd).bind fun x y hxy => doKs_eqv r tk sk h (fun q hq => hr q (List.mem_cons_of_mem _ hq)) _ _ fun i => ?_
    rw [setPad_getD, setPad_getD]
    split
    · exact hxy
    · exact hab i
theorem doKid_eqv : ∀ (k : KidOf Edit) (d : Int) (tk sk : List Tree), EqvS tk sk → rightE k.e d = true → OptR Eqv (doKid false tk k) (doKid false sk k)
  | ⟨a, e⟩, d, tk, sk, h, hr => by rw [doKid, doKid]; exact doE_eqv e d _ _ hr (h _)
theorem doOs_eqv : ∀ (os : List (OpOf Edit)) (rt rs a b : List Tree), EqvL rt rs → EqvL a b → (∀ o ∈ os, ∃ l d, rightOp l o d = true) → OptR (fun x y => EqvL x.1 y.1 ∧ EqvL x.2 y.2) (doOs false os rt a) (doOs false os rs b)
  | [], _, _, _, _, h, hab, _ => ⟨hab, h⟩
  | o :: r, rt, rs, a, b, h, hab, hr => by
    rw [doOs, doOs]
    refine (doOp_eqv o rt rs a b h hab (hr o List.mem_cons_self)).bind fun x y hxy => doOs_eqv r _ _ _ _ hxy.2 hxy.1 (fun q hq => hr q (List.mem_cons_of_mem _ hq))
theorem doOp_eqv : ∀ (o : OpOf Edit) (rt rs a b : List Tree), EqvL rt rs → EqvL a b → (∃ l d, rightOp l o d = true) → OptR (fun x y => EqvL x.1 y.1 ∧ EqvL x.2 y.2) (doOp false o rt a) (doOp false o rs b)
  | ⟨k, n, l, e⟩, rt, rs, a, b, h, hab, hr => by
    obtain ⟨li, d, hr⟩ := hr
    have he := fun h3 => doE_eqv e d (rt.getD 0 Tree.nil) (rs.getD 0 Tree.nil) (right_desc hr h3) (h.get 0)
    have hlen := h.len
    rw [doOp, doOp]
    refine OptR.ite Iff.rfl (fun _ => OptR.ite (by rw [hlen]) (fun _ => ⟨norms_app hab (h.take _), h.drop _⟩) (fun _ => trivial)) fun k0 => OptR.ite Iff.rfl (fun _ => ?_) fun k1 => OptR.ite Iff.rfl (fun _ => ⟨norms_app hab rfl, h⟩) fun k2 => OptR.ite (by rw [hlen]) (fun _ => trivial) fun _ => ?_
    · rw [goneD_eqv l h]
      exact OptR.ite Iff.rfl (fun _ => ⟨hab, h.drop _⟩) (fun _ => trivial)
    · have h03 : k = 0 ∨ k = 1 ∨ k = 2 ∨ k = 3 := by
        have r := rightOp_all hr
        generalize ho : OpOf.mk k n l e = o at r
        cases r <;> (injection ho with h1; subst h1; decide)
      exact (he (by show k = 3; omega)).map fun x y h' => ⟨norms_app hab (norms_one.2 h'), h.drop _⟩
end
end Go.AM.YtpjenobkibfpcaaGreat

namespace Go.AM.YtpjenobkibfpcaaGreat
open Go.AM Go.Proofs
theorem turnKs_len : ∀ (ks : List Kid), (turnKs ks).length = ks.length
  | [] => rfl
  | k :: r => by simp only [turnKs, List.length_cons, turnKs_len r]
end Go.AM.YtpjenobkibfpcaaGreat

namespace Go.AM.YtpjenobkibfpcaaGreat
open Go.AM Go.Proofs
theorem map_eq_getD {α β : Type} {f : α → β} (d : α) {a b : List α} (hl : a.length = b.length) (h : ∀ i : Nat, i < a.length → f (a.getD i d) = f (b.getD i d)) : a.map f = b.map f := by
  apply List.ext_getElem (by simpa using hl)
  intro i h1 h2
  have h1' : i < a.length := by simpa using h1
  have h2' : i < b.length := by simpa using h2
  have := h i h1'
  simpa [List.getD_eq_getElem?_getD, List.getElem?_eq_getElem h1', List.getElem?_eq_getElem h2'] using this
theorem getD_map_eq {α β : Type} {f : α → β} {d : α} {a b : List α} (h : a.map f = b.map f) (i : Nat) : f (a.getD i d) = f (b.getD i d) := by
  have e := congrArg (fun l => l[i]?.getD (f d)) h
  simp only [List.getElem?_map] at e
  rw [List.getD_eq_getElem?_getD, List.getD_eq_getElem?_getD]
  cases h1 : a[i]? <;> cases h2 : b[i]? <;> simp_all
end Go.AM.YtpjenobkibfpcaaGreat
