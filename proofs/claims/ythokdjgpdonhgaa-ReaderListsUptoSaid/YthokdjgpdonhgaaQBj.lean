import Derived.Test.YthokdjgpdonhgaaHBB
import Derived.Test.YthokdjgpdonhgaaBmXU
import Derived.Deep.CondSized
import Derived.Test.YthokdjgpdonhgaaQB6
import Derived.Test.YthokdjgpdonhgaaBD07
set_option linter.unusedSimpArgs false
set_option linter.unusedVariables false
namespace Go.AM.Ythokdjgpdonhgaa
open Go.AM Go.Proofs Go.Proofs.Ythokdjgpdonhgaa Go.ChangeShapes Go.WideShapes Go.RowKit

theorem bulk_pos {H : Type} (d : DataW H) : 1 ≤ Rows.uptoBulk d := by
  cases d with
  | lit l => cases l <;> simp [Rows.uptoBulk]
  | nil => simp [Rows.uptoBulk]
  | ptr d => simp [Rows.uptoBulk]
  | slice elems spare => simp [Rows.uptoBulk]
  | agg parts => simp [Rows.uptoBulk]
  | iface t d => simp [Rows.uptoBulk]
  | map entries => simp [Rows.uptoBulk]
  | held h => simp [Rows.uptoBulk]
theorem bulk_len {H : Type} : ∀ (l : List (DataW H)), l.length ≤ Rows.uptoBulkAll l
  | [] => by simp [Rows.uptoBulkAll]
  | x :: r => by
    have := bulk_pos x
    have := bulk_len r
    simp only [Rows.uptoBulkAll, List.length_cons]
    omega
theorem bulk_mem {H : Type} {d : DataW H} : ∀ {l : List (DataW H)}, d ∈ l → Rows.uptoBulk d ≤ Rows.uptoBulkAll l
  | x :: r, h => by
    simp only [Rows.uptoBulkAll]
    rcases List.mem_cons.1 h with rfl | h
    · omega
    · have := bulk_mem h; omega
theorem lenD_bulk {H : Type} {d : DataW H} {l : List (DataW H)} (h : d ∈ l) : lenD d ≤ Rows.uptoBulkAll l := by
  refine Nat.le_trans ?_ (bulk_mem h)
  cases d with
  | slice elems spare =>
    have := bulk_len elems
    simp only [lenD, Rows.uptoBulk]
    omega
  | _ => simp [lenD]

theorem argSU64 {H : Type} {henc : TypeId × Value → H} : ArgR henc Try.prog cfg (aSl .u64) 22 (fun l => l.length * cfg.bytes .u64 ≤ reachBytes ∧ ∀ e ∈ l, 0 ≤ e ∧ e < 18446744073709551616) :=
  argR_sl cfgOk rfl (fun _ n cs h => rd_u64 cfgOk treeTypes h)
end Go.AM.Ythokdjgpdonhgaa

namespace Go.AM.Ythokdjgpdonhgaa
open Go.AM Go.Proofs

def roomW (c n : Int) : Int := if wd c < 1 ∨ n < 0 ∨ 1099511627776 < n then 0 else (n * wd c + 63) / 64
def putS (c : Int) (l : List Int) (i n : Int) : List Int :=
  if wd c < 1 then l else l.set (i * wd c / 64).toNat (l.getD (i * wd c / 64).toNat 0 + n * 2 ^ (i * wd c % 64).toNat)
def putGo (c : Int) : List Int → Int → List Int → List Int
  | l, _, [] => l
  | l, i, n :: r => putGo c (putS c l i n) (i + 1) r
def putW (c : Int) (ns : List Int) : List Int := putGo c (List.replicate (roomW c ns.length).toNat 0) 0 ns
def fitsA (c : Int) (ns : List Int) : Bool := decide (0 ≤ wd c) && ns.all (fits c)
def putR (c : Int) (ns : List Int) : List Int := if fitsA c ns then putW c ns else []

theorem putGo_append (c : Int) : ∀ (a b l : List Int) (i : Int), putGo c l i (a ++ b) = putGo c (putGo c l i a) (i + a.length) b
  | [], b, l, i => by simp [putGo]
  | n :: r, b, l, i => by
    simp only [List.cons_append, putGo]
    rw [putGo_append c r b _ (i + 1)]
    congr 1
    simp
    omega

theorem putS_len (c : Int) (l : List Int) (i n : Int) : (putS c l i n).length = l.length := by
  unfold putS
  split <;> simp

theorem putGo_len (c : Int) : ∀ (a l : List Int) (i : Int), (putGo c l i a).length = l.length
  | [], l, i => rfl
  | n :: r, l, i => by rw [putGo, putGo_len c r, putS_len]

def putN (c : Int) (ns : List Int) (i : Int) : List Int := putGo c (List.replicate (roomW c ns.length).toNat 0) 0 (ns.take i.toNat)

theorem putN_zero (c : Int) (ns : List Int) : putN c ns 0 = List.replicate (roomW c ns.length).toNat 0 := by simp [putN, putGo]
theorem putN_succ (c : Int) (ns : List Int) {i : Int} (h0 : 0 ≤ i) (h : i < ns.length) : putN c ns (i + 1) = putS c (putN c ns i) i (ns.getD i.toNat 0) := by
  unfold putN
  have e : ns.take (i + 1).toNat = ns.take i.toNat ++ [ns.getD i.toNat 0] := by
    rw [show (i + 1).toNat = i.toNat + 1 by omega, List.getD_eq_getElem?_getD, List.getElem?_eq_getElem (show i.toNat < ns.length by omega), Option.getD_some]
    exact (List.take_append_getElem (by omega)).symm
  rw [e, putGo_append]
  simp only [putGo, List.length_take]
  congr 1
  omega
theorem putN_all (c : Int) (ns : List Int) : putN c ns ns.length = putW c ns := by simp [putN, putW]
theorem putN_len (c : Int) (ns : List Int) (i : Int) : (putN c ns i).length = (roomW c ns.length).toNat := by simp [putN, putGo_len]

theorem room_at {c n i : Int} (hw : 1 ≤ wd c) (h0 : 0 ≤ i) (h1 : i < n) (h2 : n ≤ 1099511627776) : i * wd c / 64 < roomW c n ∧ 0 ≤ i * wd c / 64 := by
  unfold roomW
  rw [if_neg (by omega)]
  rcases wd_div c with e | e | e | e | e | e
  · omega
  all_goals (rw [e]; omega)

def usedB (c i : Int) (q : Nat) : Nat := min 64 (i * wd c - 64 * q).toNat

def PutI (c : Int) (l : List Int) (i : Int) : Prop := ∀ q : Nat, 0 ≤ l.getD q 0 ∧ l.getD q 0 < 2 ^ usedB c i q

theorem used_at {c i : Int} (hw : 1 ≤ wd c) (h0 : 0 ≤ i) (h2 : i ≤ 1099511627776) : usedB c i (i * wd c / 64).toNat = (i * wd c % 64).toNat ∧ usedB c (i + 1) (i * wd c / 64).toNat = (i * wd c % 64).toNat + (wd c).toNat := by
  unfold usedB
  rcases wd_div c with e | e | e | e | e | e
  · omega
  all_goals (rw [e]; constructor <;> omega)

theorem used_mono (c i : Int) (q : Nat) (hw : 1 ≤ wd c) : usedB c i q ≤ usedB c (i + 1) q := by
  unfold usedB
  have : i * wd c ≤ (i + 1) * wd c := by rw [Int.add_mul]; omega
  omega

theorem pow_le_pow {a b : Nat} (h : a ≤ b) : (2 : Int) ^ a ≤ 2 ^ b := by
  have e : ∀ k : Nat, (2 : Int) ^ k = ((2 ^ k : Nat) : Int) := fun k => by simp
  rw [e, e]
  exact Int.ofNat_le.2 (Nat.pow_le_pow_right (by decide) h)

theorem put_num {x n : Int} {a w : Nat} (hx : 0 ≤ x) (hx' : x < 2 ^ a) (hn : 0 ≤ n) (hn' : n < 2 ^ w) : 0 ≤ x + n * 2 ^ a ∧ x + n * 2 ^ a < 2 ^ (a + w) ∧ 0 ≤ n * 2 ^ a := by
  have hp := pow2_pos a
  have h1 : 0 ≤ n * 2 ^ a := Int.mul_nonneg hn (Int.le_of_lt hp)
  have h2 : (n + 1) * 2 ^ a ≤ 2 ^ w * 2 ^ a := Int.mul_le_mul_of_nonneg_right (by omega) (Int.le_of_lt hp)
  rw [Int.add_mul, Int.one_mul] at h2
  rw [Int.pow_add, Int.mul_comm (2 ^ a)]
  omega

theorem fits_lt {c n : Int} (h : fits c n = true) : 0 ≤ wd c ∧ n < 2 ^ (wd c).toNat := by
  unfold fits at h
  exact of_decide_eq_true h

theorem putI_step {c : Int} {l : List Int} {i n : Int} (hw : 1 ≤ wd c) (h0 : 0 ≤ i) (h2 : i ≤ 1099511627776) (hn : 0 ≤ n) (hf : fits c n = true) (h : PutI c l i) : PutI c (putS c l i n) (i + 1) := by
  intro q
  unfold putS
  rw [if_neg (by omega)]
  have hu := used_at hw h0 h2
  rw [List.getD_eq_getElem?_getD, List.getElem?_set]
  by_cases hq : (i * wd c / 64).toNat = q
  · subst hq
    rw [if_pos rfl]
    have hq := h (i * wd c / 64).toNat
    rw [hu.1] at hq
    have := put_num hq.1 hq.2 hn (fits_lt hf).2
    by_cases hl : (i * wd c / 64).toNat < l.length
    · rw [if_pos hl, hu.2]
      simp only [Option.getD_some]
      omega
    · rw [if_neg hl]
      simp only [Option.getD_none]
      exact ⟨by decide, pow2_pos _⟩
  · rw [if_neg hq, ← List.getD_eq_getElem?_getD]
    have hm := pow_le_pow (used_mono c i q hw)
    have := h q
    omega

theorem putI_zero (c : Int) (k : Nat) : PutI c (List.replicate k 0) 0 := by
  intro q
  have : (List.replicate k (0 : Int)).getD q 0 = 0 := by
    rw [List.getD_eq_getElem?_getD, List.getElem?_replicate]
    split <;> rfl
  rw [this]
  exact ⟨by decide, pow2_pos _⟩

theorem fitsA_get {c : Int} {ns : List Int} (h : fitsA c ns = true) {i : Nat} (hi : i < ns.length) : fits c (ns.getD i 0) = true := by
  unfold fitsA at h
  rw [Bool.and_eq_true, List.all_eq_true] at h
  rw [List.getD_eq_getElem?_getD, List.getElem?_eq_getElem hi]
  exact h.2 _ (List.getElem_mem hi)

theorem putN_inv {c : Int} {ns : List Int} (hw : 1 ≤ wd c) (hn : okW ns) (hl : (ns.length : Int) ≤ 1099511627776) : ∀ (k : Nat), k ≤ ns.length → (∀ j, j < k → fits c (ns.getD j 0) = true) → PutI c (putN c ns k) k := by
  intro k
  induction k with
  | zero => intro _ _; rw [show ((0 : Nat) : Int) = 0 from rfl, putN_zero]; exact putI_zero c _
  | succ k ih =>
    intro hk hf
    rw [show ((k + 1 : Nat) : Int) = (k : Int) + 1 by omega, putN_succ c ns (by omega) (by omega)]
    have := hf k (by omega)
    exact putI_step hw (by omega) (by omega) (getD_word hn _).1 (by simpa using this) (ih (by omega) fun j hj => hf j (by omega))

theorem putI_okW {c : Int} {l : List Int} {i : Int} (h : PutI c l i) : okW l := by
  intro x hx
  obtain ⟨q, hq, rfl⟩ := List.getElem_of_mem hx
  have := h q
  rw [List.getD_eq_getElem?_getD, List.getElem?_eq_getElem hq, Option.getD_some] at this
  have hp := pow_le_pow (show usedB c i q ≤ 64 by unfold usedB; omega)
  have h64 : (2 : Int) ^ 64 = 18446744073709551616 := rfl
  omega

theorem get_stay {x m : Int} {a w s : Nat} (h : a + w ≤ s) : (x + m * 2 ^ s) / 2 ^ a % 2 ^ w = x / 2 ^ a % 2 ^ w := by
  have hp := pow2_pos a
  obtain ⟨t, rfl⟩ := Nat.exists_eq_add_of_le h
  rw [Int.pow_add, Int.pow_add, show m * (2 ^ a * 2 ^ w * 2 ^ t) = 2 ^ a * (2 ^ w * (2 ^ t * m)) by simp only [Int.mul_comm, Int.mul_left_comm, Int.mul_assoc]]
  rw [Int.add_mul_ediv_left _ _ (by omega), Int.add_mul_emod_self_left]

theorem get_new {x n : Int} {a w : Nat} (hx : 0 ≤ x) (hx' : x < 2 ^ a) (hn : 0 ≤ n) (hn' : n < 2 ^ w) : (x + n * 2 ^ a) / 2 ^ a % 2 ^ w = n := by
  rw [Int.add_mul_ediv_right _ _ (by have := pow2_pos a; omega), Int.ediv_eq_zero_of_lt hx hx', Int.zero_add, Int.emod_eq_of_lt hn hn']

theorem apart_at {c i j : Int} (hw : 1 ≤ wd c) (h0 : 0 ≤ j) (h1 : j < i) (h2 : i ≤ 1099511627776) (h : i * wd c / 64 = j * wd c / 64) : (j * wd c % 64).toNat + (wd c).toNat ≤ (i * wd c % 64).toNat := by
  rcases wd_div c with e | e | e | e | e | e
  · omega
  all_goals (rw [e] at h ⊢; omega)

theorem getW_put {c : Int} {ns : List Int} (hw : 1 ≤ wd c) (hn : okW ns) (hl : (ns.length : Int) ≤ 1099511627776) (hf : fitsA c ns = true) {j : Int} (h0 : 0 ≤ j) :
    ∀ (k : Nat), k ≤ ns.length → j < k → getW (putN c ns k) c j = ns.getD j.toNat 0 := by
  intro k
  induction k with
  | zero => intro _ h; omega
  | succ k ih =>
    intro hk hj
    have hinv := putN_inv hw hn hl k (by omega) fun j hj => fitsA_get hf (by omega)
    obtain ⟨r1, r2⟩ := room_at hw (i := k) (n := ns.length) (by omega) (by omega) hl
    obtain ⟨s1, s2⟩ := room_at hw (i := j) (n := ns.length) (by omega) (by omega) hl
    rw [getW_eq hw h0 (by omega), show ((k + 1 : Nat) : Int) = (k : Int) + 1 by omega, putN_succ c ns (by omega) (by omega)]
    unfold wordW putS
    rw [if_neg (by omega : ¬ wd c < 1), if_neg (by rw [List.length_set, putN_len]; omega), List.getD_eq_getElem?_getD, List.getElem?_set]
    by_cases hq : ((k : Int) * wd c / 64).toNat = (j * wd c / 64).toNat
    · rw [if_pos hq, if_pos (by rw [putN_len]; omega), Option.getD_some]
      by_cases hjk : j = k
      · subst hjk
        have hu := used_at hw (i := (k : Int)) (by omega) (by omega)
        have hI := hinv ((k : Int) * wd c / 64).toNat
        rw [hu.1] at hI
        exact get_new hI.1 hI.2 (getD_word hn _).1 (fits_lt (fitsA_get hf (by omega))).2
      · have hlt : j < k := by omega
        rw [get_stay (apart_at hw h0 hlt (by omega) (by omega)), ← ih (by omega) hlt, getW_eq hw h0 (by omega)]
        unfold wordW
        rw [if_neg (by rw [putN_len]; omega), hq]
    · rw [if_neg hq, ← List.getD_eq_getElem?_getD]
      have hlt : j < k := by
        rcases Int.lt_or_le j k with h | h
        · exact h
        · have : j = k := by omega
          subst this; exact absurd rfl hq
      rw [← ih (by omega) hlt, getW_eq hw h0 (by omega)]
      unfold wordW
      rw [if_neg (by rw [putN_len]; omega)]

theorem getW_putW {c : Int} {ns : List Int} (hw : 1 ≤ wd c) (hn : okW ns) (hl : (ns.length : Int) ≤ 1099511627776) (hf : fitsA c ns = true) {j : Int} (h0 : 0 ≤ j) (h1 : j < ns.length) : getW (putW c ns) c j = ns.getD j.toNat 0 := by
  rw [← putN_all]
  exact getW_put hw hn hl hf h0 ns.length (Nat.le_refl _) h1

theorem putW_okW {c : Int} {ns : List Int} (hn : okW ns) (hl : (ns.length : Int) ≤ 1099511627776) (hf : fitsA c ns = true) : okW (putW c ns) := by
  by_cases hw : 1 ≤ wd c
  · rw [← putN_all]
    exact putI_okW (putN_inv hw hn hl ns.length (Nat.le_refl _) fun j hj => fitsA_get hf hj)
  · have : putW c ns = List.replicate (roomW c ns.length).toNat 0 := by
      unfold putW
      have : ∀ (a l : List Int) (i : Int), putGo c l i a = l := by
        intro a
        induction a with
        | nil => intro l i; rfl
        | cons n r ih => intro l i; rw [putGo, ih]; unfold putS; rw [if_pos (by omega)]
      exact this _ _ _
    rw [this]
    intro x hx
    have := (List.mem_replicate.1 hx).2
    omega

theorem putW_len (c : Int) (ns : List Int) : (putW c ns).length = (roomW c ns.length).toNat := by rw [← putN_all, putN_len]
end Go.AM.Ythokdjgpdonhgaa

namespace Go.AM.Ythokdjgpdonhgaa
open Go.AM Go.Proofs

def args58 : ArgL (Int × Int × Unit) := (.cons (aInt .i64) (.cons (aInt .u64) .nil))
def pre58 (a : Int × Int × Unit) : Prop := 0 ≤ a.2.1 ∧ a.2.1 < 18446744073709551616
noncomputable def res58 (a : Int × Int × Unit) : V U := .c (.bool (fits a.1 a.2.1))
noncomputable def spec58 : Fs U := fs args58 (fun a => [pre58 a]) res58

noncomputable def know58 : List (FuncId × Fs U) := [(56, spec56)]
def lv58 : Lives U := fun i => match i with
  | 0 => ([(0, []), (1, [])], [])
  | 1 => ([(1, []), (5, [])], [])
  | 2 => ([(1, []), (5, []), (10, [])], [])
  | 3 => ([(4, [])], [])
  | 4 => ([(1, []), (5, []), (6, [])], [])
  | 5 => ([(1, []), (5, []), (6, []), (13, [])], [])
  | 6 => ([(1, []), (5, []), (6, [])], [])
  | 7 => ([(1, []), (5, []), (6, [])], [])
  | 8 => ([(4, [])], [])
  | _ => ([], [])
def head58_0 (c : Int) (n : Int) (x1 : Int) (x6 : Int) : LSt U := (⟨[(1, .c (.int .u64 x1)), (5, .c (.int .i64 (wd c))), (6, .c (.int .i64 x6))], [], []⟩ : LSt U)
theorem vc58 (c : Int) (n : Int) (Q : AExit → LSt U → Prop) (h : (pre56 (c, ())) ∧ (((decide (((wd c) : Int) < 0)) = true → Q .ret (⟨[(4, .c (.bool false))], [], []⟩ : LSt U)) ∧ ((decide (((wd c) : Int) < 0)) = false → LoopWp (awp cfg (know know58) (drawOk cfg (know know58)) Try.f58.ntmps lv58 (cd Try.f58 [1, 1, 1, 0, 1, 0, 0])) (head58_0 c n n 0) (AExit.inBlock 0 (seqK cfg (know know58) (drawOk cfg (know know58)) Try.f58.ntmps lv58 (cd Try.f58 [1, 1, 1, 1]) Q))))) :
    awp cfg (know know58) (drawOk cfg (know know58)) Try.f58.ntmps lv58 (cd Try.f58 []) (⟨[(0, .c (.int .i64 c)), (1, .c (.int .u64 n))], [], []⟩ : LSt U) Q := by
  have e : (awp cfg (know know58) (drawOk cfg (know know58)) Try.f58.ntmps lv58 (cd Try.f58 []) (⟨[(0, .c (.int .i64 c)), (1, .c (.int .u64 n))], [], []⟩ : LSt U) Q) = (((pre56 (c, ())) ∧ ((((decide (((wd c) : Int) < 0)) = true → (Q .ret (⟨[(4, .c (.bool false))], [], []⟩ : LSt U))) ∧ ((decide (((wd c) : Int) < 0)) = false → (LoopWp (awp cfg (know know58) (drawOk cfg (know know58)) Try.f58.ntmps lv58 (cd Try.f58 [1, 1, 1, 0, 1, 0, 0])) (head58_0 c n n 0) (AExit.inBlock 0 (seqK cfg (know know58) (drawOk cfg (know know58)) Try.f58.ntmps lv58 (cd Try.f58 [1, 1, 1, 1]) Q)))))))) := by kernel_rfl
  exact e.mpr ⟨h.1, ⟨fun c_7 => (h.2.1 c_7), fun c_7 => (h.2.2 c_7)⟩⟩
theorem vc58_l0 (c : Int) (n : Int) (x1 : Int) (x6 : Int) (N0 : LSt U → Prop) (Q : AExit → LSt U → Prop) (h : ((decide ((x6 : Int) < (wd c))) = true → ((2 : Int) ≠ 0) ∧ ((InR ((x6 : Int) + 1)) ∧ (N0 (head58_0 c n (IntKind.wrap .u64 (Int.tdiv x1 2)) ((x6 : Int) + 1))))) ∧ ((decide ((x6 : Int) < (wd c))) = false → Q .ret (⟨[(4, .c (.bool ((x1 : Int) == 0)))], [], []⟩ : LSt U))) :
    awp cfg (know know58) (drawOk cfg (know know58)) Try.f58.ntmps lv58 (cd Try.f58 [1, 1, 1, 0, 1, 0, 0]) (head58_0 c n x1 x6) (AExit.then N0 (AExit.inBlock 0 (seqK cfg (know know58) (drawOk cfg (know know58)) Try.f58.ntmps lv58 (cd Try.f58 [1, 1, 1, 1]) Q))) := by
  have e : (awp cfg (know know58) (drawOk cfg (know know58)) Try.f58.ntmps lv58 (cd Try.f58 [1, 1, 1, 0, 1, 0, 0]) (head58_0 c n x1 x6) (AExit.then N0 (AExit.inBlock 0 (seqK cfg (know know58) (drawOk cfg (know know58)) Try.f58.ntmps lv58 (cd Try.f58 [1, 1, 1, 1]) Q)))) = ((((decide ((x6 : Int) < (wd c))) = true → ((2 : Int) ≠ 0) ∧ ((InR ((x6 : Int) + 1)) ∧ (N0 (head58_0 c n (IntKind.wrap .u64 (Int.tdiv x1 2)) ((x6 : Int) + 1))))) ∧ ((decide ((x6 : Int) < (wd c))) = false → (Q .ret (⟨[(4, .c (.bool ((x1 : Int) == 0)))], [], []⟩ : LSt U))))) := by kernel_rfl
  exact e.mpr ⟨fun c_8 => ⟨(h.1 c_8).1, ⟨(h.1 c_8).2.1, (h.1 c_8).2.2⟩⟩, fun c_8 => (h.2 c_8)⟩
def Body58 (c : Int) (n : Int)  : Prop := awp cfg (know (know58)) (drawOk cfg (know (know58))) Try.f58.ntmps lv58 (cd Try.f58 []) (entry (args58.can (c, n, ())) []) (EndsQ cfg Try.f58.ntmps Try.f58.results.toList (res58 (c, n, ())) [])
theorem make58 (c56 : Contract Try.prog cfg 56 spec56) (hb : ∀ (c : Int) (n : Int) (_ : Unit), pre58 (c, n, ()) → Body58 c n) : Contract Try.prog cfg 58 spec58 :=
  contract_flat (l := [(56, spec56)]) cfgOk rfl (⟨c56, trivial⟩) lv58 Try.func58 rfl rfl 2 (fun _ => rfl) (by decide) (fun ⟨c, n, _⟩ => hb c n ())

end Go.AM.Ythokdjgpdonhgaa

namespace Go.AM.Ythokdjgpdonhgaa
open Go.AM Go.Proofs

theorem wrap64_div (n : Int) (h0 : 0 ≤ n) (h1 : n < 18446744073709551616) : IntKind.wrap .u64 (Int.tdiv n 2) = n / 2 := by
  rw [Int.tdiv_eq_ediv_of_nonneg h0]
  simp [IntKind.wrap, IntKind.signed, IntKind.bits]
  omega

theorem pow_half {w : Nat} {n m : Int} (h : 0 ≤ n) : (n / 2 < 2 ^ w) ↔ n < 2 ^ (w + 1) := by
  have : (2 : Int) ^ (w + 1) = 2 ^ w * 2 := by rw [Int.pow_succ]
  omega

theorem c58 : Contract Try.prog cfg 58 spec58 := by
  refine make58 c56 ?_
  intro c n _ hp
  simp only [pre58] at hp
  have hw := wd_le c
  refine vc58 _ _ _ ?_
  (simp only [vcS])
  refine ⟨trivial, fun h => ends_bool rfl ?_, fun h => ?_⟩
  · simp only [fits]
    simp
    omega
  · refine loop_rule (ι := Int × Int) (fun p => head58_0 c n p.1 p.2) (fun p => 0 ≤ p.2 ∧ p.2 ≤ wd c ∧ 0 ≤ p.1 ∧ p.1 < 18446744073709551616 ∧ (n < 2 ^ (wd c).toNat ↔ p.1 < 2 ^ (wd c - p.2).toNat)) (fun p => (wd c - p.2).toNat) (n, 0) rfl ⟨by dsimp only; omega, by dsimp only; omega, by dsimp only; omega, by dsimp only; omega, by simp⟩ ?_
    rintro ⟨m, i⟩ ⟨h1, h2, h3, h4, h5⟩
    dsimp only at *
    refine vc58_l0 _ _ _ _ _ _ ?_
    (simp only [vcS])
    refine ⟨fun hc => ⟨by omega, by unfold InR; omega, (IntKind.wrap .u64 (Int.tdiv m 2), i + 1), rfl, ?_, by dsimp only; omega⟩, fun hc => ends_bool rfl ?_⟩
    · rw [wrap64_div m h3 h4]
      refine ⟨by dsimp only; omega, by dsimp only; omega, by dsimp only; omega, by dsimp only; omega, ?_⟩
      dsimp only
      rw [h5, show (wd c - i).toNat = (wd c - (i + 1)).toNat + 1 by omega]
      exact (pow_half (m := 0) h3).symm
    · have e : (wd c - i).toNat = 0 := by omega
      rw [e] at h5
      simp only [fits]
      rw [Bool.eq_iff_iff]
      simp
      omega

end Go.AM.Ythokdjgpdonhgaa

namespace Go.AM.Ythokdjgpdonhgaa
open Go.AM Go.Proofs

def args57 : ArgL (Int × Int × Unit) := (.cons (aInt .i64) (.cons (aInt .i64) .nil))
def pre57 (a : Int × Int × Unit) : Prop := True
noncomputable def res57 (a : Int × Int × Unit) : V U := .c (.int .i64 (roomW a.1 a.2.1))
noncomputable def spec57 : Fs U := fs args57 (fun a => [pre57 a]) res57

def args18 : ArgL (Int × List Int × Unit) := (.cons (aInt .i64) (.cons (aSl .u64) .nil))
def pre18 (a : Int × List Int × Unit) : Prop := okW a.2.1 ∧ a.2.1.length ≤ 1099511627776
noncomputable def res18 (a : Int × List Int × Unit) : V U := .tup [(false, [.slice (U := U) .u64 (putR a.1 a.2.1) .unk]), (false, [.bool (fitsA a.1 a.2.1)])]
noncomputable def spec18 : Fs U := fs args18 (fun a => [pre18 a]) res18

def args3 : ArgL (Int × List Int × Int × Unit) := (.cons (aInt .i64) (.cons (aSl .u64) (.cons (aInt .i64) .nil)))
def pre3 (a : Int × List Int × Int × Unit) : Prop := okW a.2.1 ∧ a.2.1.length ≤ 1048576
noncomputable def res3 (a : Int × List Int × Int × Unit) : V U := .c (.bool true)
noncomputable def spec3 : Fs U := fs args3 (fun a => [pre3 a]) res3

noncomputable def know57 : List (FuncId × Fs U) := [(56, spec56)]
def lv57 : Lives U := fun i => match i with
  | 0 => ([(0, []), (1, [])], [])
  | 1 => ([(0, []), (1, []), (16, [])], [])
  | 2 => ([(4, [])], [])
  | 3 => ([(1, []), (5, [])], [])
  | 4 => ([(1, []), (5, []), (23, [])], [])
  | 5 => ([(4, [])], [])
  | 6 => ([(4, [])], [])
  | _ => ([], [])
noncomputable abbrev A57 (p : List Nat) := awp cfg (know know57) (drawOk cfg (know know57)) Try.f57.ntmps lv57 (cd Try.f57 p)
theorem vc57 (c : Int) (n : Int) (Q : AExit → LSt U → Prop) (h : ((pre56 (c, ())) ∧ (Tr ((!(decide (((wd c) : Int) < 1))) = true)) ∧ (((decide (((wd c) : Int) < 1)) = false → (!(decide (((wd c) : Int) < 1))) = true)) ∧ (Tr ((!(bif (decide (((wd c) : Int) < 1)) then true else (decide ((n : Int) < 0)))) = true)) ∧ (((bif (decide (((wd c) : Int) < 1)) then true else (decide ((n : Int) < 0))) = false → (!(bif (decide (((wd c) : Int) < 1)) then true else (decide ((n : Int) < 0)))) = true)) ∧ (((bif (bif (decide (((wd c) : Int) < 1)) then true else (decide ((n : Int) < 0))) then true else (decide ((1099511627776 : Int) < n))) = true → (Q .ret (⟨[(4, .c (.int .i64 0))], [], []⟩ : LSt U))) ∧ ((bif (bif (decide (((wd c) : Int) < 1)) then true else (decide ((n : Int) < 0))) then true else (decide ((1099511627776 : Int) < n))) = false → (pre56 (c, ())) ∧ (((wd c) : Int) ≠ 0) ∧ ((((IntKind.wrap .i64 (Int.tdiv 64 (wd c))) : Int) ≠ 0) ∧ (((decide ((0 : Int) < (Int.tmod n (IntKind.wrap .i64 (Int.tdiv 64 (wd c)))))) = true → (((IntKind.wrap .i64 (Int.tdiv 64 (wd c))) : Int) ≠ 0) ∧ (InR (((IntKind.wrap .i64 (Int.tdiv n (IntKind.wrap .i64 (Int.tdiv 64 (wd c))))) : Int) + 1)) ∧ (Q .ret (⟨[(4, .c (.int .i64 (((IntKind.wrap .i64 (Int.tdiv n (IntKind.wrap .i64 (Int.tdiv 64 (wd c))))) : Int) + 1)))], [], []⟩ : LSt U))) ∧ ((decide ((0 : Int) < (Int.tmod n (IntKind.wrap .i64 (Int.tdiv 64 (wd c)))))) = false → (((IntKind.wrap .i64 (Int.tdiv 64 (wd c))) : Int) ≠ 0) ∧ (Q .ret (⟨[(4, .c (.int .i64 (IntKind.wrap .i64 (Int.tdiv n (IntKind.wrap .i64 (Int.tdiv 64 (wd c)))))))], [], []⟩ : LSt U))))))))) :
    A57 [] (⟨[(0, .c (.int .i64 c)), (1, .c (.int .i64 n))], [], []⟩ : LSt U) Q :=
  Eq.mpr (by kernel_rfl) h
def Body57 (c : Int) (n : Int)  : Prop := awp cfg (know (know57)) (drawOk cfg (know (know57))) Try.f57.ntmps lv57 (cd Try.f57 []) (entry (args57.can (c, n, ())) []) (EndsQ cfg Try.f57.ntmps Try.f57.results.toList (res57 (c, n, ())) [])
theorem make57 (c56 : Contract Try.prog cfg 56 spec56) (hb : ∀ (c : Int) (n : Int) (_ : Unit), pre57 (c, n, ()) → Body57 c n) : Contract Try.prog cfg 57 spec57 :=
  contract_flat (l := [(56, spec56)]) cfgOk rfl (⟨c56, trivial⟩) lv57 Try.func57 rfl rfl 2 (fun _ => rfl) (by decide) (fun ⟨c, n, _⟩ => hb c n ())

noncomputable def know18 : List (FuncId × Fs U) := [(56, spec56), (57, spec57), (58, spec58)]
def lv18 : Lives U := fun i => match i with
  | 0 => ([(0, []), (1, [])], [])
  | 1 => ([(0, []), (1, []), (6, [])], [])
  | 2 => ([(0, []), (1, []), (6, []), (14, [])], [])
  | 3 => ([(4, []), (5, [])], [])
  | 4 => ([(0, []), (1, []), (6, []), (7, [.wr .u64])], [])
  | 5 => ([(0, []), (1, []), (6, []), (7, [.wr .u64]), (8, [])], [])
  | 6 => ([(0, []), (1, []), (6, []), (7, [.wr .u64]), (8, []), (23, [])], [])
  | 7 => ([(0, []), (1, []), (6, []), (7, [.wr .u64]), (8, [])], [])
  | 8 => ([(0, []), (1, []), (6, []), (7, [.wr .u64]), (8, []), (9, [])], [])
  | 9 => ([(0, []), (1, []), (6, []), (7, [.wr .u64]), (8, []), (9, []), (33, [])], [])
  | 10 => ([(4, []), (5, [])], [])
  | 11 => ([(0, []), (1, []), (6, []), (7, [.wr .u64]), (8, []), (9, []), (10, [])], [])
  | 12 => ([(0, []), (1, []), (6, []), (7, [.wr .u64]), (8, []), (9, []), (10, []), (39, [])], [])
  | 13 => ([(0, []), (1, []), (6, []), (7, [.wr .u64]), (8, []), (9, []), (10, [])], [])
  | 14 => ([(0, []), (1, []), (6, []), (7, [.wr .u64]), (8, []), (9, []), (10, [])], [])
  | 15 => ([(0, []), (1, []), (6, []), (7, [.wr .u64]), (8, []), (9, []), (45, [])], [])
  | 16 => ([(0, []), (1, []), (6, []), (7, [.wr .u64]), (8, [])], [])
  | 17 => ([(4, []), (5, [])], [])
  | _ => ([], [])
noncomputable def head18_0 (c : Int) (ns : List Int) (x8 : Int) (re_7_0 : List Int) : LSt U := (⟨[(0, .c (.int .i64 c)), (1, .c (.slice (U := U) .u64 ns .unk)), (6, .c (.int .i64 (wd c))), (7, .c (.mref (.e 7 0))), (8, .c (.int .i64 x8))], [], [(.e 7 0, LC.mk (U := U) .u64 re_7_0 0)]⟩ : LSt U)
noncomputable def head18_1 (c : Int) (ns : List Int) (x8 : Int) (re_7_0 : List Int) (x9_a : Int) (x10_a : Int) : LSt U := (⟨[(0, .c (.int .i64 c)), (1, .c (.slice (U := U) .u64 ns .unk)), (6, .c (.int .i64 (wd c))), (7, .c (.mref (.e 7 0))), (8, .c (.int .i64 x8)), (9, .c (.int .u64 x9_a)), (10, .c (.int .i64 x10_a))], [], [(.e 7 0, LC.mk (U := U) .u64 re_7_0 0)]⟩ : LSt U)
noncomputable abbrev A18 (p : List Nat) := awp cfg (knowM know18) (drawOk cfg (knowM know18)) Try.f18.ntmps lv18 (cd Try.f18 p)
noncomputable abbrev S18 (p : List Nat) := seqK cfg (knowM know18) (drawOk cfg (knowM know18)) Try.f18.ntmps lv18 (cd Try.f18 p)
theorem vc18 (c : Int) (ns : List Int) (Q : AExit → LSt U → Prop) (h : ((pre56 (c, ())) ∧ ((((decide (((wd c) : Int) < 0)) = true → (Q .ret (⟨[(4, .c (.nils)), (5, .c (.bool false))], [], []⟩ : LSt U))) ∧ ((decide (((wd c) : Int) < 0)) = false → (pre57 (c, (ns.length : Int), ())) ∧ ((0 : Int) ≤ roomW c (ns.length : Int) ∧ ((roomW c (ns.length : Int)) : Int) * ((8 : Nat) : Int) ≤ 140737488355328 ∧ (roomW c (ns.length : Int) : Int) ≤ 9223372036854775807) ∧ ((roomW c (ns.length : Int) : Int) = (roomW c (ns.length : Int))) ∧ ((LoopWp (A18 [1, 1, 1, 1, 0, 1, 0, 0]) (head18_0 c ns 0 (List.replicate (Int.toNat (roomW c (ns.length : Int))) (0 : Int))) (AExit.inBlock 0 (S18 [1, 1, 1, 1, 1] Q))))))))) :
    A18 [] (⟨[(0, .c (.int .i64 c)), (1, .c (.slice (U := U) .u64 ns .unk))], [], []⟩ : LSt U) Q :=
  Eq.mpr (by kernel_rfl) h
theorem vc18_l0 (c : Int) (ns : List Int) (x8 : Int) (re_7_0 : List Int) (N0 : LSt U → Prop) (Q : AExit → LSt U → Prop) (h : (((decide ((x8 : Int) < (ns.length : Int))) = true → ((0 : Int) ≤ x8 ∧ x8 < (ns.length : Int)) ∧ ((pre58 (c, (List.getD ns (Int.toNat x8) (0 : Int)), ())) ∧ (((!(fits c (List.getD ns (Int.toNat x8) (0 : Int)))) = true → (Q .ret (⟨[(4, .c (.nils)), (5, .c (.bool false))], [], []⟩ : LSt U))) ∧ ((!(fits c (List.getD ns (Int.toNat x8) (0 : Int)))) = false → (LoopWp (A18 [1, 1, 1, 1, 0, 1, 0, 0, 1, 0, 0, 1, 1, 0, 1, 0, 0]) (head18_1 c ns x8 re_7_0 (List.getD ns (Int.toNat x8) (0 : Int)) 0) (AExit.inBlock 2 (S18 [1, 1, 1, 1, 0, 1, 0, 0, 1, 0, 0, 1, 1, 1] (AExit.inBlock 1 (S18 [1, 1, 1, 1, 0, 1, 0, 0, 1, 1] (AExit.then N0 (AExit.inBlock 0 (S18 [1, 1, 1, 1, 1] Q)))))))))))) ∧ ((decide ((x8 : Int) < (ns.length : Int))) = false → (Q .ret (⟨[(4, .c (.slice (U := U) .u64 re_7_0 (.own (.e 4 0)))), (5, .c (.bool true))], [], []⟩ : LSt U))))) :
    A18 [1, 1, 1, 1, 0, 1, 0, 0] (head18_0 c ns x8 re_7_0) (AExit.then N0 (AExit.inBlock 0 (S18 [1, 1, 1, 1, 1] Q))) :=
  Eq.mpr (by kernel_rfl) h
theorem vc18_l1 (c : Int) (ns : List Int) (x8 : Int) (re_7_0 : List Int) (x9_a : Int) (x10_a : Int) (N1 : LSt U → Prop) (N0 : LSt U → Prop) (Q : AExit → LSt U → Prop) (h : (InR ((x8 : Int) * (wd c))) ∧ ((64 : Int) ≠ 0) ∧ (((decide ((x10_a : Int) < (Int.tmod ((x8 : Int) * (wd c)) 64))) = true → ((InR ((x10_a : Int) + 1)) ∧ (N1 (head18_1 c ns x8 re_7_0 (IntKind.wrap .u64 ((x9_a : Int) * 2)) ((x10_a : Int) + 1))))) ∧ ((decide ((x10_a : Int) < (Int.tmod ((x8 : Int) * (wd c)) 64))) = false → (((decide ((0 : Int) < (wd c))) = true → (InR ((x8 : Int) * (wd c))) ∧ ((64 : Int) ≠ 0) ∧ (InR ((x8 : Int) * (wd c))) ∧ ((64 : Int) ≠ 0) ∧ ((0 : Int) ≤ (IntKind.wrap .i64 (Int.tdiv ((x8 : Int) * (wd c)) 64)) ∧ (IntKind.wrap .i64 (Int.tdiv ((x8 : Int) * (wd c)) 64)) < (re_7_0.length : Int)) ∧ ((0 : Int) ≤ (IntKind.wrap .i64 (Int.tdiv ((x8 : Int) * (wd c)) 64)) ∧ (IntKind.wrap .i64 (Int.tdiv ((x8 : Int) * (wd c)) 64)) < (re_7_0.length : Int)) ∧ ((0 : Nat) ≤ (Int.toNat (IntKind.wrap .i64 (Int.tdiv ((x8 : Int) * (wd c)) 64)))) ∧ ((InR ((x8 : Int) + 1)) ∧ (N0 (head18_0 c ns ((x8 : Int) + 1) (List.set re_7_0 (Int.toNat (IntKind.wrap .i64 (Int.tdiv ((x8 : Int) * (wd c)) 64))) (IntKind.wrap .u64 (((List.getD re_7_0 (Int.toNat (IntKind.wrap .i64 (Int.tdiv ((x8 : Int) * (wd c)) 64))) (0 : Int)) : Int) + x9_a))))))) ∧ ((decide ((0 : Int) < (wd c))) = false → (InR ((x8 : Int) + 1)) ∧ (N0 (head18_0 c ns ((x8 : Int) + 1) re_7_0))))))) :
    A18 [1, 1, 1, 1, 0, 1, 0, 0, 1, 0, 0, 1, 1, 0, 1, 0, 0] (head18_1 c ns x8 re_7_0 x9_a x10_a) (AExit.then N1 (AExit.inBlock 2 (S18 [1, 1, 1, 1, 0, 1, 0, 0, 1, 0, 0, 1, 1, 1] (AExit.inBlock 1 (S18 [1, 1, 1, 1, 0, 1, 0, 0, 1, 1] (AExit.then N0 (AExit.inBlock 0 (S18 [1, 1, 1, 1, 1] Q)))))))) :=
  Eq.mpr (by kernel_rfl) h
def Body18 (c : Int) (ns : List Int)  : Prop := awp cfg (knowM (know18)) (drawOk cfg (knowM (know18))) Try.f18.ntmps lv18 (cd Try.f18 []) (entry (args18.can (c, ns, ())) []) (EndsQ cfg Try.f18.ntmps Try.f18.results.toList (res18 (c, ns, ())) [])
theorem make18 (c56 : Contract Try.prog cfg 56 spec56) (c57 : Contract Try.prog cfg 57 spec57) (c58 : Contract Try.prog cfg 58 spec58) (hb : ∀ (c : Int) (ns : List Int) (_ : Unit), pre18 (c, ns, ()) → Body18 c ns) : Contract Try.prog cfg 18 spec18 :=
  contract_flatM (l := [(56, spec56), (57, spec57), (58, spec58)]) cfgOk rfl (⟨c56, c57, c58, trivial⟩) lv18 Try.func18 rfl rfl 2 (fun _ => rfl) (by decide) (fun ⟨c, ns, _⟩ => hb c ns ())

noncomputable def know3 : List (FuncId × Fs U) := [(18, spec18), (19, spec19), (20, spec20), (21, spec21), (22, spec22), (23, spec23), (24, spec24), (25, spec25)]
def lv3 : Lives U := fun i => match i with
  | 0 => ([(0, []), (1, []), (2, [])], [])
  | 1 => ([(0, []), (1, []), (2, []), (7, []), (8, [])], [])
  | 2 => ([(0, []), (1, []), (2, []), (7, []), (27, [])], [])
  | 3 => ([(6, [])], [])
  | 4 => ([(0, []), (1, []), (2, []), (7, []), (9, [])], [])
  | 5 => ([(0, []), (1, []), (2, []), (10, [])], [])
  | 6 => ([(0, []), (1, []), (2, []), (11, []), (12, [])], [((.loc 11), [])])
  | 7 => ([(1, []), (2, []), (11, []), (64, [])], [((.loc 11), [])])
  | 8 => ([(6, [])], [])
  | 9 => ([(1, []), (2, []), (13, []), (14, [])], [((.loc 13), [])])
  | 10 => ([(1, []), (2, []), (13, []), (14, []), (78, [])], [((.loc 13), [])])
  | 11 => ([(6, [])], [])
  | 12 => ([(6, [])], [])
  | _ => ([], [])
noncomputable abbrev A3 (p : List Nat) := awp cfg (know know3) (drawOk cfg (know know3)) Try.f3.ntmps lv3 (cd Try.f3 p)
theorem vc3 (code : Int) (ns : List Int) (i : Int) (Q : AExit → LSt U → Prop) (h : ∀ y_1, y_1 = (List.getD ns (Int.toNat i) (0 : Int)) → ∀ y_2, y_2 = (IntKind.wrap .u64 (((IntKind.wrap .u64 code) : Int) * 4294967296)) → ∀ y_3, y_3 = (IntKind.wrap .u64 (((IntKind.wrap .u64 (ns.length : Int)) : Int) * 34359738368)) → ∀ y_4, y_4 = (Arena.mk ([([IntKind.wrap .u64 (((IntKind.wrap .u64 ((1 : Int) + y_2)) : Int) + y_3)]) ++ (putR code ns)]) 0 0 0) → ∀ y_5, y_5 = ((liftX (some y_4) (refAt (segO (some y_4)) 0 0).1)) → ∀ y_6, y_6 = ((liftX (Ref.a y_5) (kidX (segO (Ref.a y_5)) (unX y_5) i).1)) → ((pre18 (code, ns, ())) ∧ ((Tr ((!(!(fitsA code ns))) = true)) ∧ (Tr ((!(!(fitsA code ns))) = true)) ∧ (((!(fitsA code ns)) = false → (!(!(fitsA code ns))) = true)) ∧ (((bif (!(fitsA code ns)) then true else (decide ((300 : Int) < (ns.length : Int)))) = true → (pre19 (())) ∧ (Q .ret (⟨[(6, .c (.bool true))], [], []⟩ : LSt U))) ∧ ((bif (!(fitsA code ns)) then true else (decide ((300 : Int) < (ns.length : Int)))) = false → (((([IntKind.wrap .u64 (((IntKind.wrap .u64 ((1 : Int) + y_2)) : Int) + y_3)]).length + (putR code ns).length) * 8 ≤ 140737488355328) ∧ (pre20 (([([IntKind.wrap .u64 (((IntKind.wrap .u64 ((1 : Int) + y_2)) : Int) + y_3)]) ++ (putR code ns)]), ())) ∧ ((pre21 ((some y_4), ())) ∧ ((Tr ((!((((refAt (segO (some y_4)) 0 0).2) : Int) != 0)) = true)) ∧ ((!((((refAt (segO (some y_4)) 0 0).2) : Int) != 0)) = true → pre22 (y_5, ())) ∧ (Tr ((!((((refAt (segO (some y_4)) 0 0).2) : Int) != 0)) = true)) ∧ ((!((((refAt (segO (some y_4)) 0 0).2) : Int) != 0)) = true → InR ((2 : Int) + code)) ∧ (Tr ((!((((refAt (segO (some y_4)) 0 0).2) : Int) != 0)) = true)) ∧ (Tr ((!((((refAt (segO (some y_4)) 0 0).2) : Int) != 0)) = true)) ∧ ((((((refAt (segO (some y_4)) 0 0).2) : Int) != 0) = false → (!((((refAt (segO (some y_4)) 0 0).2) : Int) != 0)) = true)) ∧ (Tr ((!(bif ((((refAt (segO (some y_4)) 0 0).2) : Int) != 0) then true else (((Ref.kind y_5) : Int) != ((2 : Int) + code)))) = true)) ∧ ((!(bif ((((refAt (segO (some y_4)) 0 0).2) : Int) != 0) then true else (((Ref.kind y_5) : Int) != ((2 : Int) + code)))) = true → pre23 (y_5, ())) ∧ (Tr ((!(bif ((((refAt (segO (some y_4)) 0 0).2) : Int) != 0) then true else (((Ref.kind y_5) : Int) != ((2 : Int) + code)))) = true)) ∧ (Tr ((!(bif ((((refAt (segO (some y_4)) 0 0).2) : Int) != 0) then true else (((Ref.kind y_5) : Int) != ((2 : Int) + code)))) = true)) ∧ (Tr ((!(bif ((((refAt (segO (some y_4)) 0 0).2) : Int) != 0) then true else (((Ref.kind y_5) : Int) != ((2 : Int) + code)))) = true)) ∧ (((bif ((((refAt (segO (some y_4)) 0 0).2) : Int) != 0) then true else (((Ref.kind y_5) : Int) != ((2 : Int) + code))) = false → (!(bif ((((refAt (segO (some y_4)) 0 0).2) : Int) != 0) then true else (((Ref.kind y_5) : Int) != ((2 : Int) + code)))) = true)) ∧ (((bif (bif ((((refAt (segO (some y_4)) 0 0).2) : Int) != 0) then true else (((Ref.kind y_5) : Int) != ((2 : Int) + code))) then true else (((kidsR y_5) : Int) != (ns.length : Int))) = true → (Q .ret (⟨[(6, .c (.bool false))], [], []⟩ : LSt U))) ∧ ((bif (bif ((((refAt (segO (some y_4)) 0 0).2) : Int) != 0) then true else (((Ref.kind y_5) : Int) != ((2 : Int) + code))) then true else (((kidsR y_5) : Int) != (ns.length : Int))) = false → (pre24 (y_5, i, ())) ∧ ((Tr ((!(decide ((i : Int) < 0))) = true)) ∧ (Tr ((!(decide ((i : Int) < 0))) = true)) ∧ (Tr ((!(decide ((i : Int) < 0))) = true)) ∧ (((decide ((i : Int) < 0)) = false → (!(decide ((i : Int) < 0))) = true)) ∧ (((bif (decide ((i : Int) < 0)) then true else (decide (((ns.length : Int) : Int) ≤ i))) = true → (Tr (((((kidX (segO (Ref.a y_5)) (unX y_5) i).2) : Int) == 0) = true)) ∧ (((((kidX (segO (Ref.a y_5)) (unX y_5) i).2) : Int) == 0) = true → pre22 (y_6, ())) ∧ (Tr (((((kidX (segO (Ref.a y_5)) (unX y_5) i).2) : Int) == 0) = true)) ∧ ((Tr (((((kidX (segO (Ref.a y_5)) (unX y_5) i).2) : Int) == 0) = true))) ∧ ((bif ((((kidX (segO (Ref.a y_5)) (unX y_5) i).2) : Int) == 0) then (((Ref.kind y_6) : Int) == 0) else false) = true → pre19 (())) ∧ ((Tr ((bif ((((kidX (segO (Ref.a y_5)) (unX y_5) i).2) : Int) == 0) then (((Ref.kind y_6) : Int) == 0) else false) = true))) ∧ (Q .ret (⟨[(6, .c (.bool (bif (bif ((((kidX (segO (Ref.a y_5)) (unX y_5) i).2) : Int) == 0) then (((Ref.kind y_6) : Int) == 0) else false) then true else false)))], [], []⟩ : LSt U))) ∧ ((bif (decide ((i : Int) < 0)) then true else (decide (((ns.length : Int) : Int) ≤ i))) = false → (Tr (((((kidX (segO (Ref.a y_5)) (unX y_5) i).2) : Int) == 0) = true)) ∧ (((((kidX (segO (Ref.a y_5)) (unX y_5) i).2) : Int) == 0) = true → pre22 (y_6, ())) ∧ (Tr (((((kidX (segO (Ref.a y_5)) (unX y_5) i).2) : Int) == 0) = true)) ∧ ((Tr (((((kidX (segO (Ref.a y_5)) (unX y_5) i).2) : Int) == 0) = true))) ∧ (Tr ((bif ((((kidX (segO (Ref.a y_5)) (unX y_5) i).2) : Int) == 0) then (((Ref.kind y_6) : Int) == 10) else false) = true)) ∧ ((bif ((((kidX (segO (Ref.a y_5)) (unX y_5) i).2) : Int) == 0) then (((Ref.kind y_6) : Int) == 10) else false) = true → pre25 (y_6, 0, ())) ∧ (Tr ((bif ((((kidX (segO (Ref.a y_5)) (unX y_5) i).2) : Int) == 0) then (((Ref.kind y_6) : Int) == 10) else false) = true)) ∧ (Tr ((bif ((((kidX (segO (Ref.a y_5)) (unX y_5) i).2) : Int) == 0) then (((Ref.kind y_6) : Int) == 10) else false) = true)) ∧ ((bif ((((kidX (segO (Ref.a y_5)) (unX y_5) i).2) : Int) == 0) then (((Ref.kind y_6) : Int) == 10) else false) = true → (0 : Int) ≤ i ∧ i < (ns.length : Int)) ∧ (Tr ((bif ((((kidX (segO (Ref.a y_5)) (unX y_5) i).2) : Int) == 0) then (((Ref.kind y_6) : Int) == 10) else false) = true)) ∧ (Tr ((bif ((((kidX (segO (Ref.a y_5)) (unX y_5) i).2) : Int) == 0) then (((Ref.kind y_6) : Int) == 10) else false) = true)) ∧ (Tr ((bif ((((kidX (segO (Ref.a y_5)) (unX y_5) i).2) : Int) == 0) then (((Ref.kind y_6) : Int) == 10) else false) = true)) ∧ ((Tr ((bif ((((kidX (segO (Ref.a y_5)) (unX y_5) i).2) : Int) == 0) then (((Ref.kind y_6) : Int) == 10) else false) = true))) ∧ ((bif (bif ((((kidX (segO (Ref.a y_5)) (unX y_5) i).2) : Int) == 0) then (((Ref.kind y_6) : Int) == 10) else false) then (((wordR y_6 0) : Int) == y_1) else false) = true → pre19 (())) ∧ ((Tr ((bif (bif ((((kidX (segO (Ref.a y_5)) (unX y_5) i).2) : Int) == 0) then (((Ref.kind y_6) : Int) == 10) else false) then (((wordR y_6 0) : Int) == y_1) else false) = true))) ∧ (Q .ret (⟨[(6, .c (.bool (bif (bif (bif ((((kidX (segO (Ref.a y_5)) (unX y_5) i).2) : Int) == 0) then (((Ref.kind y_6) : Int) == 10) else false) then (((wordR y_6 0) : Int) == y_1) else false) then true else false)))], [], []⟩ : LSt U))))))))))))))) :
    A3 [] (⟨[(0, .c (.int .i64 code)), (1, .c (.slice (U := U) .u64 ns .unk)), (2, .c (.int .i64 i))], [], []⟩ : LSt U) Q :=
  Eq.mpr (by kernel_rfl) (h _ rfl _ rfl _ rfl _ rfl _ (reRef_eq _) _ (reRef_eq _))
def Body3 (code : Int) (ns : List Int) (i : Int)  : Prop := awp cfg (know (know3)) (drawOk cfg (know (know3))) Try.f3.ntmps lv3 (cd Try.f3 []) (entry (args3.can (code, ns, i, ())) []) (EndsQ cfg Try.f3.ntmps Try.f3.results.toList (res3 (code, ns, i, ())) [])
theorem make3 (c18 : Contract Try.prog cfg 18 spec18) (c19 : Contract Try.prog cfg 19 spec19) (c20 : Contract Try.prog cfg 20 spec20) (c21 : Contract Try.prog cfg 21 spec21) (c22 : Contract Try.prog cfg 22 spec22) (c23 : Contract Try.prog cfg 23 spec23) (c24 : Contract Try.prog cfg 24 spec24) (c25 : Contract Try.prog cfg 25 spec25) (hb : ∀ (code : Int) (ns : List Int) (i : Int) (_ : Unit), pre3 (code, ns, i, ()) → Body3 code ns i) : Contract Try.prog cfg 3 spec3 :=
  contract_flat (l := [(18, spec18), (19, spec19), (20, spec20), (21, spec21), (22, spec22), (23, spec23), (24, spec24), (25, spec25)]) cfgOk rfl (⟨c18, c19, c20, c21, c22, c23, c24, c25, trivial⟩) lv3 Try.func3 rfl rfl 3 (fun _ => rfl) (by decide) (fun ⟨code, ns, i, _⟩ => hb code ns i ())

end Go.AM.Ythokdjgpdonhgaa

namespace Go.AM.Ythokdjgpdonhgaa
open Go.AM Go.Proofs

theorem room_cases {c n : Int} (h0 : 0 ≤ n) (h1 : n ≤ 1099511627776) : 0 ≤ roomW c n ∧ roomW c n ≤ 1099511627776 := by
  unfold roomW
  split
  · omega
  · rcases wd_div c with e | e | e | e | e | e
    · omega
    all_goals (rw [e]; omega)

theorem c57 : Contract Try.prog cfg 57 spec57 := by
  refine make57 c56 ?_
  intro c n _ _
  refine vc57 _ _ _ ?_
  (simp only [vcT, bif_tl, bif_fr, bif_tlf, bif_frf, Bool.not_eq_true', Bool.not_eq_false', decide_eq_true_eq, decide_eq_false_iff_not, beq_iff_eq, beq_eq_false_iff_ne, bne_iff_ne, ne_eq, bne_eq_false_iff_eq, Bool.or_eq_true, Bool.and_eq_true, Bool.or_eq_false_iff, Bool.and_eq_false_imp])
  refine ⟨trivial, fun h => ends_int rfl ?_, fun h => ⟨trivial, ?_⟩⟩
  · show (0 : Int) = roomW c n
    unfold roomW
    rw [if_pos (by omega)]
  · have hr : roomW c n = (n * wd c + 63) / 64 := by unfold roomW; rw [if_neg (by omega)]
    have key : ∀ w p : Int, wd c = w → IntKind.wrap .i64 (Int.tdiv 64 w) = p → 1 ≤ p → p ≤ 64 → (n * w + 63) / 64 = (if 0 < n % p then n / p + 1 else n / p) →
        ¬wd c = 0 ∧ ¬IntKind.i64.wrap (Int.tdiv 64 (wd c)) = 0 ∧ (0 < n.tmod (IntKind.i64.wrap (Int.tdiv 64 (wd c))) → ¬IntKind.i64.wrap (Int.tdiv 64 (wd c)) = 0 ∧ InR (IntKind.i64.wrap (n.tdiv (IntKind.i64.wrap (Int.tdiv 64 (wd c)))) + 1) ∧
          EndsQ cfg Try.f57.ntmps Try.f57.results.toList (res57 (c, n, ())) [] AExit.ret { env := [(4, V.c (C.int IntKind.i64 (IntKind.i64.wrap (n.tdiv (IntKind.i64.wrap (Int.tdiv 64 (wd c)))) + 1)))], mem := [], ls := [] }) ∧
        (¬0 < n.tmod (IntKind.i64.wrap (Int.tdiv 64 (wd c))) → ¬IntKind.i64.wrap (Int.tdiv 64 (wd c)) = 0 ∧
          EndsQ cfg Try.f57.ntmps Try.f57.results.toList (res57 (c, n, ())) [] AExit.ret { env := [(4, V.c (C.int IntKind.i64 (IntKind.i64.wrap (n.tdiv (IntKind.i64.wrap (Int.tdiv 64 (wd c)))))))], mem := [], ls := [] }) := by
      intro w p e1 e2 p1 p2 hd
      rw [e1, e2]
      have hq : Int.tdiv n p = n / p := Int.tdiv_eq_ediv_of_nonneg (by omega)
      have hm : Int.tmod n p = n % p := Int.tmod_eq_emod_of_nonneg (by omega)
      have hle : 0 ≤ n / p ∧ n / p ≤ n := ⟨Int.ediv_nonneg (by omega) (by omega), Int.ediv_le_self _ (by omega)⟩
      rw [hq, hm, wrap_i64 (n := n / p) (by omega) (by omega)]
      refine ⟨by omega, by omega, fun h0 => ⟨by omega, by ((unfold InR; omega)), ends_int rfl ?_⟩, fun h0 => ⟨by omega, ends_int rfl ?_⟩⟩
      · show _ = roomW c n
        rw [hr, e1, hd, if_pos h0]
      · show _ = roomW c n
        rw [hr, e1, hd, if_neg h0]
    rcases wd_div c with e | e | e | e | e | e
    · omega
    · exact key 1 64 e (by decide) (by decide) (by decide) (by split <;> omega)
    · exact key 8 8 e (by decide) (by decide) (by decide) (by split <;> omega)
    · exact key 16 4 e (by decide) (by decide) (by decide) (by split <;> omega)
    · exact key 32 2 e (by decide) (by decide) (by decide) (by split <;> omega)
    · exact key 64 1 e (by decide) (by decide) (by decide) (by split <;> omega)

theorem putR_no {c : Int} {ns : List Int} (h : fitsA c ns = false) : putR c ns = [] := by unfold putR; rw [h]; rfl
theorem putR_yes {c : Int} {ns : List Int} (h : fitsA c ns = true) : putR c ns = putW c ns := by unfold putR; rw [h]; rfl

theorem fitsA_neg {c : Int} {ns : List Int} (h : wd c < 0) : fitsA c ns = false := by
  unfold fitsA
  rw [decide_eq_false (by omega)]; rfl
theorem fitsA_bad {c : Int} {ns : List Int} {i : Nat} (hi : i < ns.length) (h : fits c (ns.getD i 0) = false) : fitsA c ns = false := by
  cases e : fitsA c ns with
  | false => rfl
  | true => rw [fitsA_get e hi] at h; cases h
theorem fitsA_all {c : Int} {ns : List Int} (h0 : 0 ≤ wd c) (h : ∀ i, i < ns.length → fits c (ns.getD i 0) = true) : fitsA c ns = true := by
  unfold fitsA
  rw [Bool.and_eq_true, List.all_eq_true]
  refine ⟨decide_eq_true h0, fun x hx => ?_⟩
  obtain ⟨i, hi, rfl⟩ := List.getElem_of_mem hx
  have := h i hi
  rwa [List.getD_eq_getElem?_getD, List.getElem?_eq_getElem hi] at this

theorem putN_okW {c : Int} {ns : List Int} (hn : okW ns) (hl : (ns.length : Int) ≤ 1099511627776) {i : Int} (h0 : 0 ≤ i) (h1 : i < ns.length) (hf : ∀ j : Nat, (j : Int) < i → fits c (ns.getD j 0) = true) (hw : 1 ≤ wd c) : PutI c (putN c ns i) i := by
  have := putN_inv hw hn hl i.toNat (by omega) fun j hj => hf j (by omega)
  rwa [show ((i.toNat : Nat) : Int) = i by omega] at this

theorem c18 : Contract Try.prog cfg 18 spec18 := by
  refine make18 c56 c57 c58 ?_
  intro c ns _ hp
  obtain ⟨hn, hl⟩ := hp
  dsimp only at hn hl
  have no : fitsA c ns = false → EndsQ cfg Try.f18.ntmps Try.f18.results.toList (res18 (c, ns, ())) [] .ret (⟨[(4, .c (.nils)), (5, .c (.bool false))], [], []⟩ : LSt U) := by
    intro h
    refine ends_eq (r' := .tup [(false, [.slice (U := U) .u64 [] .unk]), (false, [.bool false])]) ?_ (by (repeat' (first | exact trivial | exact rfl | refine And.intro ?_ ?_)))
    simp only [res18]
    rw [h, putR_no h]
  refine vc18 _ _ _ ?_
  (simp only [vcT, bif_tl, bif_fr, bif_tlf, bif_frf, Bool.not_eq_true', Bool.not_eq_false', decide_eq_true_eq, decide_eq_false_iff_not, beq_iff_eq, beq_eq_false_iff_ne, bne_iff_ne, ne_eq, bne_eq_false_iff_eq, Bool.or_eq_true, Bool.and_eq_true, Bool.or_eq_false_iff, Bool.and_eq_false_imp])
  have hrm := room_cases (c := c) (n := ns.length) (by omega) (by omega)
  refine ⟨trivial, fun h => no (fitsA_neg h), fun hc => ⟨trivial, ⟨hrm.1, by omega, by omega⟩, ?_⟩⟩
  refine loop_rule (ι := Int) (fun p => head18_0 c ns p (putN c ns p)) (fun p => 0 ≤ p ∧ p ≤ ns.length ∧ ∀ j : Nat, (j : Int) < p → fits c (ns.getD j 0) = true) (fun p => ((ns.length : Int) - p).toNat) 0 (by simp only [putN_zero]) ⟨by omega, by omega, fun j hj => by omega⟩ ?_
  rintro i ⟨h1, h2, h3⟩
  refine vc18_l0 _ _ _ _ _ _ ?_
  (simp only [vcT, bif_tl, bif_fr, bif_tlf, bif_frf, Bool.not_eq_true', Bool.not_eq_false', decide_eq_true_eq, decide_eq_false_iff_not, beq_iff_eq, beq_eq_false_iff_ne, bne_iff_ne, ne_eq, bne_eq_false_iff_eq, Bool.or_eq_true, Bool.and_eq_true, Bool.or_eq_false_iff, Bool.and_eq_false_imp])
  refine ⟨fun hi => ⟨⟨h1, hi⟩, getD_word hn _, fun hb => no (fitsA_bad (by omega) hb), fun hb => ?_⟩, fun hi => ?_⟩
  · have hx := getD_word hn i.toNat
    have hf := fits_lt hb
    have hin : 0 ≤ i * wd c ∧ i * wd c ≤ 70368744177664 := by
      rcases wd_cases c with e | e | e | e | e | e | e
      · omega
      all_goals (rw [e]; omega)
    have hm : Int.tmod (i * wd c) 64 = i * wd c % 64 := Int.tmod_eq_emod_of_nonneg hin.1
    have hd : Int.tdiv (i * wd c) 64 = i * wd c / 64 := Int.tdiv_eq_ediv_of_nonneg hin.1
    refine loop_rule (ι := Int) (fun p => head18_1 c ns i (putN c ns i) (ns.getD i.toNat 0 * 2 ^ p.toNat) p) (fun p => 0 ≤ p ∧ p ≤ i * wd c % 64) (fun p => (i * wd c % 64 - p).toNat) 0 (by simp) ⟨by omega, by omega⟩ ?_
    rintro k ⟨g1, g2⟩
    refine vc18_l1 _ _ _ _ _ _ _ _ _ ?_
    (simp only [vcT, bif_tl, bif_fr, bif_tlf, bif_frf, Bool.not_eq_true', Bool.not_eq_false', decide_eq_true_eq, decide_eq_false_iff_not, beq_iff_eq, beq_eq_false_iff_ne, bne_iff_ne, ne_eq, bne_eq_false_iff_eq, Bool.or_eq_true, Bool.and_eq_true, Bool.or_eq_false_iff, Bool.and_eq_false_imp])
    rw [hm, hd, wrap_i64 (n := i * wd c / 64) (by omega) (by omega)]
    have hpow : ∀ q : Int, 0 ≤ q → q + wd c ≤ 64 → 0 ≤ ns.getD i.toNat 0 * 2 ^ q.toNat ∧ ns.getD i.toNat 0 * 2 ^ q.toNat < 18446744073709551616 := by
      intro q q0 q1
      have hp := pow2_pos q.toNat
      refine ⟨Int.mul_nonneg hx.1 (Int.le_of_lt hp), ?_⟩
      have e1 := Int.mul_lt_mul_of_pos_right hf.2 hp
      have e2 := pow_le_pow (show (wd c).toNat + q.toNat ≤ 64 by omega)
      rw [Int.pow_add] at e2
      have h64 : (2 : Int) ^ 64 = 18446744073709551616 := rfl
      omega
    have hstep : putN c ns (i + 1) = putS c (putN c ns i) i (ns.getD i.toNat 0) := putN_succ c ns h1 hi
    have hfin : 0 ≤ i + 1 ∧ i + 1 ≤ ns.length ∧ ∀ j : Nat, (j : Int) < i + 1 → fits c (ns.getD j 0) = true := by
      refine ⟨by omega, by omega, fun j hj => ?_⟩
      by_cases hji : (j : Int) < i
      · exact h3 j hji
      · rw [show j = i.toNat by omega]; exact hb
    refine ⟨by ((unfold InR; omega)), by decide, fun hk => ⟨by ((unfold InR; omega)), k + 1, ?_, ⟨by omega, by omega⟩, by omega⟩, fun hk => ⟨fun hw => ?_, fun hw => ?_⟩⟩
    · have hw1 : 1 ≤ wd c := by
        rcases wd_cases c with e | e | e | e | e | e | e
        · omega
        · rw [e] at hk; omega
        all_goals omega
      obtain ⟨a0, a1, a2, a3⟩ := wd_at (c := c) (i := i) (by omega) (by omega) hw1
      have e := hpow (k + 1) (by omega) (by omega)
      rw [show (k + 1).toNat = k.toNat + 1 by omega, pow2_succ, ← Int.mul_assoc] at e ⊢
      rw [wrap_u64 e.1 e.2]
    · obtain ⟨a0, a1, a2, a3⟩ := wd_at (c := c) (i := i) (by omega) (by omega) (by omega)
      obtain ⟨r1, r2⟩ := room_at (c := c) (n := ns.length) (i := i) (by omega) h1 hi (by omega)
      have hI := putN_okW hn (by omega) h1 hi h3 (by omega)
      have hu := used_at (c := c) (i := i) (by omega) h1 (by omega)
      have hq := hI (i * wd c / 64).toNat
      rw [hu.1] at hq
      have hs := put_num hq.1 hq.2 hx.1 hf.2
      have hp := pow_le_pow (show (i * wd c % 64).toNat + (wd c).toNat ≤ 64 by omega)
      have h64 : (2 : Int) ^ 64 = 18446744073709551616 := rfl
      have hk' : k = i * wd c % 64 := by omega
      subst hk'
      refine ⟨by ((unfold InR; omega)), by decide, by ((unfold InR; omega)), by decide, ⟨by omega, by rw [putN_len]; omega⟩, ⟨by omega, by rw [putN_len]; omega⟩, by omega, by ((unfold InR; omega)), i + 1, ?_, hfin, by omega⟩
      rw [wrap_u64 (by omega) (by omega), hstep]
      unfold putS
      rw [if_neg (by omega)]
    · refine ⟨by ((unfold InR; omega)), i + 1, ?_, hfin, by omega⟩
      rw [hstep]
      unfold putS
      rw [if_pos (by omega)]
  · have hall : fitsA c ns = true := fitsA_all (by omega) fun j hj => h3 j (by omega)
    have e : i = ns.length := by omega
    subst e
    rw [putN_all]
    refine ends_eq (r' := .tup [(false, [.slice (U := U) .u64 (putW c ns) .unk]), (false, [.bool true])]) ?_ (by (repeat' (first | exact trivial | exact rfl | refine And.intro ?_ ?_)))
    simp only [res18]
    rw [hall, putR_yes hall]

end Go.AM.Ythokdjgpdonhgaa

namespace Go.AM.Ythokdjgpdonhgaa
open Go.AM Go.Proofs

theorem wd_nonneg {c : Int} (h : 0 ≤ wd c) : 0 ≤ c ∧ c ≤ 5 ∧ bitsP c = wd c := by
  unfold wd at h
  unfold bitsP wd
  by_cases h0 : c = 0
  · subst h0; decide
  by_cases h1 : c = 1
  · subst h1; decide
  by_cases h2 : c = 2
  · subst h2; decide
  by_cases h3 : c = 3
  · subst h3; decide
  by_cases h4 : c = 4
  · subst h4; decide
  by_cases h5 : c = 5
  · subst h5; decide
  rw [if_neg h0, if_neg h1, if_neg h2, if_neg h3, if_neg h4, if_neg h5] at h
  omega

theorem room_bits {c n : Int} (hc : 0 ≤ wd c) (h0 : 0 ≤ n) (h1 : n ≤ 1099511627776) : roomW c n = (n * bitsP c + 63) / 64 := by
  rw [(wd_nonneg hc).2.2]
  unfold roomW
  by_cases h : wd c < 1
  · rw [if_pos (.inl h), show wd c = 0 by omega]; simp
  · rw [if_neg (by omega)]

theorem ref_list {c n : Int} {w : List Int} (hc : 0 ≤ wd c) (h0 : 0 ≤ n) (h1 : n < 536870912) (hw : (w.length : Int) = roomW c n) :
    refAt [(1 + c * 4294967296 + n * 34359738368) :: w] 0 0 = (⟨2 + c, 0, 1, 0, 0, n, 0⟩, 0) := by
  obtain ⟨c0, c1, cb⟩ := wd_nonneg hc
  have hd : decP (1 + c * 4294967296 + n * 34359738368) = ⟨2, 0, 0, 0, c, n, 0, false⟩ := by
    unfold decP
    rw [if_neg (by omega), if_neg (by omega), if_pos (by omega)]
    have e1 : offP (1 + c * 4294967296 + n * 34359738368) = 0 := by unfold offP; rw [if_neg (by omega)]; omega
    rw [e1, show (1 + c * 4294967296 + n * 34359738368) / 4294967296 % 8 = c by omega, show (1 + c * 4294967296 + n * 34359738368) / 34359738368 = n by omega]
  have hwp : wordsP ⟨2, 0, 0, 0, c, n, 0, false⟩ = w.length := by
    rw [hw, room_bits hc h0 (by omega)]
    unfold wordsP
    rw [if_neg (show ¬ (2 : Int) = 1 by decide), if_pos rfl, if_neg (show ¬ c = 7 by omega), if_neg (by simp; omega)]
  have hs : segAt [(1 + c * 4294967296 + n * 34359738368) :: w] 0 = (1 + c * 4294967296 + n * 34359738368) :: w := rfl
  have hg : getS [(1 + c * 4294967296 + n * 34359738368) :: w] 0 0 = 1 + c * 4294967296 + n * 34359738368 := rfl
  have hf : follow [(1 + c * 4294967296 + n * 34359738368) :: w] 0 0 = (⟨⟨2, 0, 0, 0, c, n, 0, false⟩, 0, 1⟩, 0) := by
    unfold follow
    have h01 : hasN [(1 + c * 4294967296 + n * 34359738368) :: w] 0 0 1 = true := by
      unfold hasN
      rw [hs]
      exact decide_eq_true ⟨by decide, by simp, by decide, by decide, by simp; omega⟩
    rw [hg, hd, if_pos h01]
    simp only
    rw [if_neg (by decide), if_pos (by decide)]
    unfold nearL
    rw [if_pos (show shapeE ⟨2, 0, 0, 0, c, n, 0, false⟩ = 0 from rfl)]
    unfold insideL
    simp only
    rw [hwp, if_pos]
    · rfl
    · unfold hasN
      rw [hs]
      exact decide_eq_true ⟨by decide, by simp, by decide, by omega, by simp; omega⟩
  unfold refAt
  rw [hf]
  simp only
  rw [if_neg (by decide), if_neg (by decide), if_pos (by omega)]

theorem c3 : Contract Try.prog cfg 3 spec3 := by
  refine make3 c18 c19 c20 c21 c22 c23 c24 c25 ?_
  rintro c ns i _ hp
  obtain ⟨hn, hl⟩ := hp
  dsimp only at hn hl
  refine vc3 _ _ _ _ ?_
  rintro y1 h1 y2 h2 y3 h3 y4 h4 y5 h5 y6 h6
  (simp only [vcT, bif_tl, bif_fr, bif_tlf, bif_frf, Bool.not_eq_true', Bool.not_eq_false', decide_eq_true_eq, decide_eq_false_iff_not, beq_iff_eq, beq_eq_false_iff_ne, bne_iff_ne, ne_eq, bne_eq_false_iff_eq, Bool.or_eq_true, Bool.and_eq_true, Bool.or_eq_false_iff, Bool.and_eq_false_imp])
  refine ⟨⟨hn, by dsimp only; omega⟩, fun _ => ⟨trivial, ends_bool rfl rfl⟩, fun hA => ?_⟩
  obtain ⟨hf, hl3⟩ := hA
  have hw0 : 0 ≤ wd c := by
    cases hd : decide (0 ≤ wd c) with
    | true => exact of_decide_eq_true hd
    | false => unfold fitsA at hf; rw [hd] at hf; cases hf
  obtain ⟨c0, c5, cb⟩ := wd_nonneg hw0
  have e2 : y2 = c * 4294967296 := by rw [h2, wrap_u64 (n := c) (by omega) (by omega), wrap_u64 (by omega) (by omega)]
  have e3 : y3 = ns.length * 34359738368 := by rw [h3, wrap_u64 (n := (ns.length : Int)) (by omega) (by omega), wrap_u64 (by omega) (by omega)]
  have e4 : IntKind.wrap .u64 (IntKind.wrap .u64 (1 + y2) + y3) = 1 + c * 4294967296 + (ns.length : Int) * 34359738368 := by
    rw [e2, e3, wrap_u64 (n := 1 + c * 4294967296) (by omega) (by omega), wrap_u64 (by omega) (by omega)]
  rw [e4, putR_yes hf] at h4
  rw [e4, putR_yes hf]
  have hrl := room_cases (c := c) (n := ns.length) (by omega) (by omega)
  have hpl : ((putW c ns).length : Int) = roomW c ns.length := by rw [putW_len]; omega
  have hsg : segO (some y4) = [(1 + c * 4294967296 + (ns.length : Int) * 34359738368) :: putW c ns] := by rw [h4]; rfl
  have hpo := putW_okW (c := c) hn (by omega) hf
  have hok : okSeg [(1 + c * 4294967296 + (ns.length : Int) * 34359738368) :: putW c ns] := by
    refine ⟨by simp, fun w hw => ?_⟩
    rw [List.mem_singleton.1 hw]
    refine ⟨by simp; omega, fun x hx => ?_⟩
    rcases List.mem_cons.1 hx with rfl | hx
    · omega
    · exact hpo x hx
  have hoa : okA (some y4) := by unfold okA; rw [hsg]; exact hok
  have hrf := ref_list (c := c) (n := ns.length) (w := putW c ns) hw0 (by omega) (by omega) hpl
  rw [hsg, hrf] at h5 ⊢
  have h5' : y5 = ⟨some y4, 2 + c, 0, 1, 0, 0, ns.length, 0⟩ := by
    rw [h5]
    unfold liftX
    rw [if_neg (by dsimp only; omega)]
  have hx : OkX (segO (some y4)) (unX y5) := by
    have := okX_at hok 0 0
    rw [hrf] at this
    rw [h5', hsg]
    exact this
  have hr5 : okR y5 := ⟨by rw [h5']; exact hoa, by rw [h5'] at hx ⊢; exact hx⟩
  have ek : y5.kind = 2 + c := by rw [h5']
  have ekk : kidsR y5 = ns.length := by rw [h5']; unfold kidsR; rw [if_neg (by dsimp only; omega)]
  have ea : y5.a = some y4 := by rw [h5']
  have hsk : ∀ j : Int, (j < 0 ∨ (ns.length : Int) ≤ j) → kidX (segO y5.a) (unX y5) j = (xz, 0) := by
    intro j hj
    unfold kidX
    rw [if_pos]
    rw [← kidsR_un, ekk]
    exact hj
  have hkd : ∀ j : Int, 0 ≤ j → j < ns.length → kidX (segO y5.a) (unX y5) j = (⟨10, 0, 0, 0, 0, 0, getW (putW c ns) c j⟩, 0) := by
    intro j j0 j1
    unfold kidX
    rw [if_neg (by rw [← kidsR_un, ekk]; omega), ea, hsg, h5']
    show (if (2 + c : Int) = 1 then _ else if (2 + c : Int) = 8 then _ else if (2 + c : Int) = 9 then _ else _) = _
    rw [if_neg (by omega), if_neg (by omega), if_neg (by omega)]
    show ((⟨10, 0, 0, 0, 0, 0, getW (putW c ns) (2 + c - 2) j⟩ : XRef), (0 : Int)) = _
    rw [show 2 + c - 2 = c by omega]
  refine ⟨by simp only [List.length_cons, List.length_nil]; omega, by rw [← hsg] at hok; rw [hsg] at hok; exact hok, hoa, fun _ => trivial, fun _ => by ((unfold InR; omega)), fun _ => trivial, fun hb => ?_, fun _ => ⟨hr5, fun hi => ?_, fun hi => ?_⟩⟩
  · exfalso
    rcases hb with (hb | hb) | hb
    · exact hb rfl
    · exact hb ek
    · exact hb ekk
  · rw [hsk i (by omega)] at h6 ⊢
    have e6 : y6.kind = 0 := by rw [h6]; rfl
    refine ⟨fun _ => trivial, fun _ => trivial, ends_bool rfl ?_⟩
    rw [e6]; rfl
  · have hg := hkd i (by omega) (by omega)
    rw [hg] at h6 ⊢
    have e6 : y6 = ⟨y5.a, 10, 0, 0, 0, 0, 0, getW (putW c ns) c i⟩ := by rw [h6]; rfl
    have hk := okX_kid (by rw [ea, hsg]; exact hok) (by rw [ea]; exact hx) i (l := segO y5.a)
    rw [hg] at hk
    have hr6 : okR y6 := ⟨by rw [e6]; show okA y5.a; rw [ea]; exact hoa, by rw [e6]; exact hk⟩
    have hgw : getW (putW c ns) c i = ns.getD i.toNat 0 := by
      by_cases h1 : 1 ≤ wd c
      · exact getW_putW h1 hn (by omega) hf (by omega) (by omega)
      · have hfi := fits_lt (fitsA_get hf (i := i.toNat) (by omega))
        rw [show wd c = 0 by omega] at hfi
        have h0 := getD_word hn i.toNat
        have : getW (putW c ns) c i = 0 := by unfold getW; rw [if_pos (by omega)]
        rw [this]
        have : (2 : Int) ^ (0 : Int).toNat = 1 := rfl
        omega
    have ew : wordR y6 0 = y1 := by
      rw [h1, e6]
      unfold wordR
      rw [if_neg (by decide)]
      exact hgw
    refine ⟨fun _ => trivial, fun _ => hr6, fun _ => ⟨by omega, by omega⟩, fun _ => trivial, ends_bool rfl ?_⟩
    rw [ew, e6]
    simp
end Go.AM.Ythokdjgpdonhgaa
