import Derived.Test.YtlahjnelghpmeaaG20a
import Derived.Test.YtlahjnelghpmeaaG20b
set_option linter.unusedSimpArgs false
set_option linter.unusedVariables false
namespace Go.AM.Ytlahjnelghpmeaa
open Go.AM Go.Proofs
theorem wrap_u64 {n : Int} (h0 : 0 ≤ n) (h1 : n < 18446744073709551616) : IntKind.wrap .u64 n = n := by
  simp [IntKind.wrap, IntKind.signed, IntKind.bits]; omega
theorem wrap_u8 {n : Int} (h0 : 0 ≤ n) (h1 : n < 256) : IntKind.wrap .u8 n = n := by
  simp [IntKind.wrap, IntKind.signed, IntKind.bits]; omega
theorem aSet_if {i : Int} {j : Nat} {v : Int} {F G : Nat → Int} (hi : 0 ≤ i) (hv : v = F i.toNat) : aSet i j v (if (j : Int) < i then F j else G j) = if (j : Int) < i + 1 then F j else G j := by
  unfold aSet
  by_cases h : i = j
  · subst h
    rw [if_pos rfl, if_pos (by omega), hv]
    simp
  · rw [if_neg h]
    by_cases h2 : (j : Int) < i
    · rw [if_pos h2, if_pos (by omega)]
    · rw [if_neg h2, if_neg (by omega)]
theorem if_step {i : Int} {j : Nat} {F G : Nat → Int} (h : F i.toNat = G i.toNat) (hi : 0 ≤ i) : (if (j : Int) < i then F j else G j) = if (j : Int) < i + 1 then F j else G j := by
  by_cases h2 : (j : Int) < i
  · rw [if_pos h2, if_pos (by omega)]
  · by_cases h3 : (j : Int) = i
    · subst h3
      rw [if_neg h2, if_pos (by omega)]
      simpa using h.symm
    · rw [if_neg h2, if_neg (by omega)]
theorem byteAt_range (w : Int) (i : Nat) : 0 ≤ byteAt w i ∧ byteAt w i < 256 := by
  unfold byteAt
  omega
theorem div_pow_nonneg {w : Int} (h : 0 ≤ w) (i : Nat) : 0 ≤ w / 256 ^ i := Int.ediv_nonneg h (Int.le_of_lt (Int.pow_pos (by omega)))
theorem div_pow_le {w : Int} (h : 0 ≤ w) (i : Nat) : w / 256 ^ i ≤ w := Int.ediv_le_self _ h
theorem div_pow_succ (w : Int) (i : Nat) : w / 256 ^ i / 256 = w / 256 ^ (i + 1) := by
  rw [Int.ediv_ediv_of_nonneg (Int.le_of_lt (Int.pow_pos (by omega))), Int.pow_succ]
theorem c128 : Contract Try.prog cfg 128 spec128 := by
  refine make128 ?_
  intro w _ hp
  simp only [pre128] at hp
  refine vc128 _ _ ?_
  refine loop_rule (ι := Int) (fun i => head128_0 w (w / 256 ^ i.toNat) i (if ((0 : Nat) : Int) < i then byteAt w 0 else 0) (if ((1 : Nat) : Int) < i then byteAt w 1 else 0) (if ((2 : Nat) : Int) < i then byteAt w 2 else 0) (if ((3 : Nat) : Int) < i then byteAt w 3 else 0)
    (if ((4 : Nat) : Int) < i then byteAt w 4 else 0) (if ((5 : Nat) : Int) < i then byteAt w 5 else 0) (if ((6 : Nat) : Int) < i then byteAt w 6 else 0) (if ((7 : Nat) : Int) < i then byteAt w 7 else 0)) (fun i => 0 ≤ i ∧ i ≤ 8) (fun i => (8 - i).toNat) 0 ?_ ⟨by omega, by omega⟩ ?_
  · simp [head128_0]
  · rintro i ⟨h1, h2⟩
    refine vc128_l0 _ _ _ _ _ _ _ _ _ _ _ _ _ ?_
    (simp only [vcS])
    refine ⟨fun hc => ⟨by omega, ⟨h1, by omega⟩, by omega, by unfold InR; omega, i + 1, ?_, ⟨by omega, by omega⟩, by omega⟩, fun hc => ?_⟩
    · have hd := div_pow_nonneg hp.1 i.toNat
      have hl := div_pow_le hp.1 i.toNat
      have e1 : IntKind.wrap .u64 (Int.tdiv (w / 256 ^ i.toNat) 256) = w / 256 ^ (i + 1).toNat := by
        rw [Int.tdiv_eq_ediv_of_nonneg hd, div_pow_succ, show i.toNat + 1 = (i + 1).toNat by omega]
        exact wrap_u64 (div_pow_nonneg hp.1 _) (Int.lt_of_le_of_lt (div_pow_le hp.1 _) hp.2)
      have e2 : IntKind.wrap .u8 (Int.tmod (w / 256 ^ i.toNat) 256) = byteAt w i.toNat := by
        rw [Int.tmod_eq_emod_of_nonneg hd]
        exact wrap_u8 (byteAt_range w _).1 (byteAt_range w _).2
      rw [e1]
      have st : ∀ j : Nat, aSet i j (IntKind.wrap .u8 (Int.tmod (w / 256 ^ i.toNat) 256)) (if (j : Int) < i then byteAt w j else 0) = if (j : Int) < i + 1 then byteAt w j else 0 := fun j => aSet_if (F := byteAt w) (G := fun _ => 0) h1 e2
      rw [st 0, st 1, st 2, st 3, st 4, st 5, st 6, st 7]
    · have : i = 8 := by omega
      subst this
      simp only [res128]
      exact ⟨⟨rfl, ⟨⟨rfl, rfl⟩, ⟨rfl, rfl⟩, ⟨rfl, rfl⟩, ⟨rfl, rfl⟩, ⟨rfl, rfl⟩, ⟨rfl, rfl⟩, ⟨rfl, rfl⟩, ⟨rfl, rfl⟩, trivial⟩, trivial⟩, trivial⟩
theorem c129 : Contract Try.prog cfg 129 spec129 := by
  refine make129 ?_
  intro m i _ hp
  simp only [pre129] at hp
  refine vc129 _ _ _ ?_
  refine loop_rule (ι := Int) (fun k => head129_0 m i (m / 2 ^ k.toNat) k) (fun k => 0 ≤ k ∧ k ≤ i) (fun k => (i - k).toNat) 0 ?_ ⟨by omega, by omega⟩ ?_
  · simp
  · rintro k ⟨h1, h2⟩
    refine vc129_l0 _ _ _ _ _ _ ?_
    have hd : 0 ≤ m / 2 ^ k.toNat := Int.ediv_nonneg hp.1.1 (Int.le_of_lt (Int.pow_pos (by omega)))
    have hl : m / 2 ^ k.toNat ≤ m := Int.ediv_le_self _ hp.1.1
    (simp only [vcS])
    refine ⟨fun hc => ⟨by omega, by unfold InR; omega, k + 1, ?_, ⟨by omega, by omega⟩, by omega⟩, fun hc => ⟨by omega, ends_bool rfl ?_⟩⟩
    · have e : IntKind.wrap .u8 (Int.tdiv (m / 2 ^ k.toNat) 2) = m / 2 ^ (k + 1).toNat := by
        rw [Int.tdiv_eq_ediv_of_nonneg hd, Int.ediv_ediv_of_nonneg (Int.le_of_lt (Int.pow_pos (by omega))), show (2 : Int) ^ k.toNat * 2 = 2 ^ (k + 1).toNat by rw [← Int.pow_succ]; congr 1; omega]
        refine wrap_u8 (Int.ediv_nonneg hp.1.1 (Int.le_of_lt (Int.pow_pos (by omega)))) (Int.lt_of_le_of_lt (Int.ediv_le_self _ hp.1.1) hp.1.2)
      rw [e]
    · have : k = i := by omega
      subst this
      rw [Int.tmod_eq_emod_of_nonneg hd]
      rfl
def topN (f : Nat → Int) : Nat → Int
  | 0 => 0
  | k + 1 => f (7 - k) + 256 * topN f k
theorem topN_range {f : Nat → Int} (h : ∀ i, 0 ≤ f i ∧ f i < 256) : ∀ k, 0 ≤ topN f k ∧ topN f k < 256 ^ k
  | 0 => by simp [topN]
  | k + 1 => by
    have := topN_range h k
    have h2 := h (7 - k)
    simp only [topN, Int.pow_succ]
    omega
theorem topN_8 (f : Nat → Int) : topN f 8 = of8 f := by simp [topN, of8]
theorem c130 : Contract Try.prog cfg 130 spec130 := by
  refine make130 ?_
  intro b z _ hp
  obtain ⟨rfl, hl, hb⟩ := hp
  dsimp only at hl hb
  refine vc130 _ _ _ ?_
  have hf : ∀ i, 0 ≤ b.getD i 0 ∧ b.getD i 0 < 256 := by
    intro i
    by_cases hi : i < b.length
    · have : b.getD i 0 ∈ b := by
        simp only [List.getD, List.getElem?_eq_getElem hi, Option.getD_some]
        exact List.getElem_mem hi
      exact hb _ this
    · rw [List.getD, List.getElem?_eq_none (by omega)]; simp
  refine loop_rule (ι := Int) (fun i => head130_0 b 0 (topN (fun i => b.getD i 0) (7 - i).toNat) i) (fun i => -1 ≤ i ∧ i ≤ 7) (fun i => (i + 1).toNat) 7 rfl ⟨by omega, by omega⟩ ?_
  rintro i ⟨h1, h2⟩
  refine vc130_l0 _ _ _ _ _ _ ?_
  (simp only [vcS])
  have hr := topN_range (f := fun i => b.getD i 0) hf (7 - i).toNat
  refine ⟨fun hc => ⟨by unfold InR; omega, by omega, by unfold InR; omega, i - 1, ?_, ⟨by omega, by omega⟩, by omega⟩, fun hc => ends_int rfl ?_⟩
  · have hp7 : (256 : Int) ^ (7 - i).toNat ≤ 256 ^ 7 := by
      have : (256 : Int) ^ (7 - i).toNat = ((256 ^ (7 - i).toNat : Nat) : Int) := by simp
      rw [this]
      have h7 : (256 : Nat) ^ (7 - i).toNat ≤ 256 ^ 7 := Nat.pow_le_pow_right (by omega) (by omega)
      have : ((256 : Nat) ^ 7 : Nat) = 72057594037927936 := by decide
      omega
    have e7 : (256 : Int) ^ 7 = 72057594037927936 := by decide
    have hfi := hf i.toNat
    have e : topN (fun i => b.getD i 0) (7 - (i - 1)).toNat = b.getD i.toNat 0 + 256 * topN (fun i => b.getD i 0) (7 - i).toNat := by
      rw [show (7 - (i - 1)).toNat = (7 - i).toNat + 1 by omega]
      simp only [topN]
      rw [show 7 - (7 - i).toNat = i.toNat by omega]
    rw [e, show (0 + i).toNat = i.toNat by omega, wrap_u64 (n := topN (fun i => b.getD i 0) (7 - i).toNat * 256) (by omega) (by omega), wrap_u64 (n := b.getD i.toNat 0) (by omega) (by omega), wrap_u64 (by omega) (by omega)]
    congr 1
    omega
  · have : i = -1 := by omega
    subst this
    exact topN_8 _
theorem getD8 (f : Nat → Int) {i : Nat} (h : i < 8) : List.getD [f 0, f 1, f 2, f 3, f 4, f 5, f 6, f 7] i 0 = f i := by
  match i, h with
  | 0, _ => rfl
  | 1, _ => rfl
  | 2, _ => rfl
  | 3, _ => rfl
  | 4, _ => rfl
  | 5, _ => rfl
  | 6, _ => rfl
  | 7, _ => rfl
theorem mixAt_range (a b m : Int) (i : Nat) : 0 ≤ mixAt a b m i ∧ mixAt a b m i < 256 := by
  unfold mixAt
  split
  · exact byteAt_range _ _
  · exact byteAt_range _ _
theorem c116 : Contract Try.prog cfg 116 spec116 := by
  refine make116 c128 c129 c130 ?_
  intro a b m _ hp
  simp only [pre116] at hp
  refine vc116 _ _ _ _ ?_
  refine ⟨hp.1, hp.2.1, ?_⟩
  refine loop_rule (ι := Int) (fun i => head116_0 a b m i (if ((0 : Nat) : Int) < i then mixAt a b m 0 else byteAt a 0) (if ((1 : Nat) : Int) < i then mixAt a b m 1 else byteAt a 1) (if ((2 : Nat) : Int) < i then mixAt a b m 2 else byteAt a 2) (if ((3 : Nat) : Int) < i then mixAt a b m 3 else byteAt a 3)
    (if ((4 : Nat) : Int) < i then mixAt a b m 4 else byteAt a 4) (if ((5 : Nat) : Int) < i then mixAt a b m 5 else byteAt a 5) (if ((6 : Nat) : Int) < i then mixAt a b m 6 else byteAt a 6) (if ((7 : Nat) : Int) < i then mixAt a b m 7 else byteAt a 7)) (fun i => 0 ≤ i ∧ i ≤ 8) (fun i => (8 - i).toNat) 0 ?_ ⟨by omega, by omega⟩ ?_
  · simp [head116_0]
  · rintro i ⟨h1, h2⟩
    refine vc116_l0 _ _ _ _ _ _ _ _ _ _ _ _ _ _ ?_
    (simp only [vcS])
    refine ⟨fun hc => ⟨⟨hp.2.2, h1, by dsimp only; omega⟩, fun hn => ⟨⟨h1, by omega⟩, ⟨h1, by omega⟩, by unfold InR; omega, i + 1, ?_, ⟨by omega, by omega⟩, by omega⟩, fun hn => ⟨by unfold InR; omega, i + 1, ?_, ⟨by omega, by omega⟩, by omega⟩⟩, fun hc => ?_⟩
    · rw [getD8 (byteAt b) (by omega)]
      have hv : byteAt b i.toNat = mixAt a b m i.toNat := by
        unfold mixAt
        rw [show ((i.toNat : Nat) : Int) = i by omega, hn]
        rfl
      have st : ∀ j : Nat, aSet i j (byteAt b i.toNat) (if (j : Int) < i then mixAt a b m j else byteAt a j) = if (j : Int) < i + 1 then mixAt a b m j else byteAt a j := fun j => aSet_if (F := mixAt a b m) (G := byteAt a) h1 hv
      rw [st 0, st 1, st 2, st 3, st 4, st 5, st 6, st 7]
    · have hv : mixAt a b m i.toNat = byteAt a i.toNat := by
        unfold mixAt
        rw [show ((i.toNat : Nat) : Int) = i by omega, hn]
        rfl
      have st : ∀ j : Nat, (if (j : Int) < i then mixAt a b m j else byteAt a j) = if (j : Int) < i + 1 then mixAt a b m j else byteAt a j := fun j => if_step (F := mixAt a b m) (G := byteAt a) hv h1
      rw [st 0, st 1, st 2, st 3, st 4, st 5, st 6, st 7]
    · have : i = 8 := by omega
      subst this
      refine ⟨⟨rfl, rfl, ?_⟩, ends_int rfl ?_⟩
      · intro x hx
        simp at hx
        rcases hx with rfl | rfl | rfl | rfl | rfl | rfl | rfl | rfl <;> exact mixAt_range _ _ _ _
      · rfl
end Go.AM.Ytlahjnelghpmeaa

namespace Go.AM.Ytlahjnelghpmeaa
open Go.AM Go.Proofs
theorem drop_getD {α : Type} {l : List α} {i : Nat} (h : i < l.length) (d : α) : l.drop i = l.getD i d :: l.drop (i + 1) := by
  rw [List.drop_eq_getElem_cons h]
  simp [List.getD, h]
theorem dropI {α : Type} {l : List α} {i : Int} (h0 : 0 ≤ i) (h : i < l.length) (d : α) : l.drop i.toNat = l.getD i.toNat d :: l.drop (i + 1).toNat := by
  rw [drop_getD (by omega) d, show i.toNat + 1 = (i + 1).toNat by omega]
theorem mem_getD {α : Type} {l : List α} {i : Nat} (h : i < l.length) (d : α) : l.getD i d ∈ l := by
  simp only [List.getD, List.getElem?_eq_getElem h, Option.getD_some]
  exact List.getElem_mem h
theorem massE_pos (e : Edit) : 1 ≤ massE e := by cases e; simp only [massE]; omega
theorem massKid_e (k : Kid) : massKid k = massE k.e := by cases k; rfl
theorem massOp_e (o : Op) : massOp o = massK o.l + massE o.e := by cases o; rfl
theorem massK_mem : ∀ {ks : List Tree} {t : Tree}, t ∈ ks → mass t ≤ massK ks
  | x :: r, t, h => by
    simp only [massK]
    rcases List.mem_cons.1 h with rfl | h
    · omega
    · have := massK_mem h; omega
theorem massKs_mem : ∀ {ks : List Kid} {k : Kid}, k ∈ ks → massE k.e ≤ massKs ks
  | x :: r, k, h => by
    simp only [massKs, massKid_e]
    rcases List.mem_cons.1 h with rfl | h
    · omega
    · have := massKs_mem h; omega
theorem massOs_mem : ∀ {os : List Op} {o : Op}, o ∈ os → massOp o ≤ massOs os
  | x :: r, o, h => by
    simp only [massOs]
    rcases List.mem_cons.1 h with rfl | h
    · omega
    · have := massOs_mem h; omega
theorem massKs_len : ∀ (ks : List Kid), ks.length ≤ massKs ks
  | [] => by simp [massKs]
  | k :: r => by
    have := massKs_len r
    have := massE_pos k.e
    simp only [massKs, massKid_e, List.length_cons]
    omega
theorem massOs_len : ∀ (os : List Op), os.length ≤ massOs os
  | [] => by simp [massOs]
  | o :: r => by
    have := massOs_len r
    have := massE_pos o.e
    simp only [massOs, massOp_e, List.length_cons]
    omega
theorem smallK_mem : ∀ {ks : List Tree} {t : Tree}, smallK ks → t ∈ ks → small t
  | x :: r, t, hs, h => by
    simp only [smallK] at hs
    rcases List.mem_cons.1 h with rfl | h
    · exact hs.1
    · exact smallK_mem hs.2 h
theorem smallKs_mem : ∀ {ks : List Kid} {k : Kid}, smallKs ks → k ∈ ks → smallE k.e
  | x :: r, k, hs, h => by
    simp only [smallKs] at hs
    rcases List.mem_cons.1 h with rfl | h
    · have := hs.1; obtain ⟨a, e⟩ := k; exact this
    · exact smallKs_mem hs.2 h
theorem smallOs_mem : ∀ {os : List Op} {o : Op}, smallOs os → o ∈ os → o.l.length ≤ 17592186044416 ∧ smallK o.l ∧ smallE o.e
  | x :: r, o, hs, h => by
    simp only [smallOs] at hs
    rcases List.mem_cons.1 h with rfl | h
    · have := hs.1; obtain ⟨a, b, c, e⟩ := o; exact this
    · exact smallOs_mem hs.2 h
theorem rngK_mem : ∀ {ks : List Tree} {t : Tree}, rngK ks → t ∈ ks → rng t
  | x :: r, t, hs, h => by
    simp only [rngK] at hs
    rcases List.mem_cons.1 h with rfl | h
    · exact hs.1
    · exact rngK_mem hs.2 h
theorem rngKs_mem : ∀ {ks : List Kid} {k : Kid}, rngKs ks → k ∈ ks → isI k.at_ ∧ rngE k.e
  | x :: r, k, hs, h => by
    simp only [rngKs] at hs
    rcases List.mem_cons.1 h with rfl | h
    · have := hs.1; obtain ⟨a, e⟩ := k; exact this
    · exact rngKs_mem hs.2 h
theorem rngOs_mem : ∀ {os : List Op} {o : Op}, rngOs os → o ∈ os → rngOp o
  | x :: r, o, hs, h => by
    simp only [rngOs] at hs
    rcases List.mem_cons.1 h with rfl | h
    · exact hs.1
    · exact rngOs_mem hs.2 h
theorem rngOp_e {o : Op} (h : rngOp o) : isI o.kind ∧ isI o.n ∧ rngK o.l ∧ rngE o.e := by obtain ⟨a, b, c, e⟩ := o; exact h
theorem leftKid_e (k : Kid) (d n : Int) : leftKid k d n = leftE k.e d n := by cases k; rfl
theorem leftOp_e (o : Op) (d n : Int) : leftOp o d n = if shallowK o.l 80 n < 0 then shallowK o.l 80 n else leftE o.e d (shallowK o.l 80 n) := by cases o; rfl
theorem sh1_range (t : Tree) (n : Int) (h : -1 ≤ n) : -1 ≤ sh1 t n ∧ sh1 t n ≤ n := by
  unfold sh1
  split
  · omega
  · have := shallow_range t 80 n; omega
mutual
theorem leftE_range : ∀ (e : Edit) (d n : Int), -1 ≤ leftE e d n ∧ leftE e d n ≤ max n (-1)
  | .mk _ o nw w ks _ os, d, n => by
    simp only [leftE]
    split
    · omega
    · have h1 := shallow_range o 80 (n - 1 - w.length - os.length)
      have h2 := sh1_range nw _ h1.1
      have h3 := leftKs_range ks (d - 1) _ h2.1
      have h4 := leftOs_range os (d - 1) _ h3.1
      omega
theorem leftKs_range : ∀ (ks : List (KidOf Edit)) (d n : Int), -1 ≤ n → -1 ≤ leftKs ks d n ∧ leftKs ks d n ≤ n
  | [], d, n, h => by simp only [leftKs]; omega
  | k :: r, d, n, h => by
    simp only [leftKs]
    split
    · omega
    · have h1 := leftKid_range k d n
      have h2 := leftKs_range r d _ h1.1
      omega
theorem leftKid_range : ∀ (k : KidOf Edit) (d n : Int), -1 ≤ leftKid k d n ∧ leftKid k d n ≤ max n (-1)
  | ⟨_, e⟩, d, n => by
    simp only [leftKid]
    exact leftE_range e d n
theorem leftOs_range : ∀ (os : List (OpOf Edit)) (d n : Int), -1 ≤ n → -1 ≤ leftOs os d n ∧ leftOs os d n ≤ n
  | [], d, n, h => by simp only [leftOs]; omega
  | o :: r, d, n, h => by
    simp only [leftOs]
    split
    · omega
    · have h1 := leftOp_range o d n h
      have h2 := leftOs_range r d _ h1.1
      omega
theorem leftOp_range : ∀ (o : OpOf Edit) (d n : Int), -1 ≤ n → -1 ≤ leftOp o d n ∧ leftOp o d n ≤ n
  | ⟨_, _, l, e⟩, d, n, h => by
    simp only [leftOp]
    have h1 := shallowK_range l 80 n h
    split
    · omega
    · have h2 := leftE_range e d (shallowK l 80 n)
      omega
end
theorem sh1_mass {t : Tree} {n : Int} (h : 0 ≤ sh1 t n) : (mass t : Int) + sh1 t n ≤ n := by
  unfold sh1 at *
  split at h
  · omega
  · rename_i hn
    rw [if_neg hn]
    exact shallow_mass t 80 n h
mutual
theorem leftE_mass : ∀ (e : Edit) (d n : Int), 0 ≤ leftE e d n → (massE e : Int) + leftE e d n ≤ n
  | .mk _ o nw w ks _ os, d, n, h => by
    simp only [leftE] at h ⊢
    split at h
    · omega
    · rename_i hc
      rw [if_neg hc]
      have r1 := shallow_range o 80 (n - 1 - w.length - os.length)
      have r2 := sh1_range nw _ r1.1
      have r3 := leftKs_range ks (d - 1) _ r2.1
      have r4 := leftOs_range os (d - 1) _ r3.1
      have m4 := leftOs_mass os (d - 1) _ h
      have m3 := leftKs_mass ks (d - 1) (sh1 nw (shallow o 80 (n - 1 - w.length - os.length))) (by omega)
      have m2 := sh1_mass (t := nw) (n := shallow o 80 (n - 1 - w.length - os.length)) (by omega)
      have m1 := shallow_mass o 80 (n - 1 - w.length - os.length) (by omega)
      simp only [massE]
      omega
theorem leftKs_mass : ∀ (ks : List (KidOf Edit)) (d n : Int), 0 ≤ leftKs ks d n → (massKs ks : Int) + leftKs ks d n ≤ n
  | [], d, n, h => by simp only [leftKs, massKs]; omega
  | k :: r, d, n, h => by
    simp only [leftKs] at h ⊢
    split at h
    · omega
    · rename_i hc
      rw [if_neg hc]
      have r1 := leftKid_range k d n
      have r2 := leftKs_range r d _ r1.1
      have m2 := leftKs_mass r d _ h
      have m1 := leftKid_mass k d n (by omega)
      simp only [massKs]
      omega
theorem leftKid_mass : ∀ (k : KidOf Edit) (d n : Int), 0 ≤ leftKid k d n → (massKid k : Int) + leftKid k d n ≤ n
  | ⟨_, e⟩, d, n, h => by
    simp only [leftKid, massKid] at h ⊢
    exact leftE_mass e d n h
theorem leftOs_mass : ∀ (os : List (OpOf Edit)) (d n : Int), 0 ≤ leftOs os d n → (massOs os : Int) + leftOs os d n ≤ n
  | [], d, n, h => by simp only [leftOs, massOs]; omega
  | o :: r, d, n, h => by
    simp only [leftOs] at h ⊢
    split at h
    · omega
    · rename_i hc
      rw [if_neg hc]
      have r1 := leftOp_range o d n (by omega)
      have r2 := leftOs_range r d _ r1.1
      have m2 := leftOs_mass r d _ h
      have m1 := leftOp_mass o d n (by omega)
      simp only [massOs]
      omega
theorem leftOp_mass : ∀ (o : OpOf Edit) (d n : Int), 0 ≤ leftOp o d n → (massOp o : Int) + leftOp o d n ≤ n
  | ⟨_, _, l, e⟩, d, n, h => by
    simp only [leftOp, massOp] at h ⊢
    split at h
    · omega
    · rename_i hc
      rw [if_neg hc]
      have m2 := leftE_mass e d _ h
      have r2 := leftE_range e d (shallowK l 80 n)
      have m1 := shallowK_mass l 80 n (by omega)
      omega
end
theorem few_massE {e : Edit} (h : 0 ≤ leftE e 80 3000) : massE e ≤ 3000 := by
  have := leftE_mass e 80 3000 h
  omega
end Go.AM.Ytlahjnelghpmeaa

namespace Go.AM.Ytlahjnelghpmeaa
open Go.AM Go.Proofs
theorem len_mass (t : Tree) : t.words.length + t.kids.length < mass t := by
  obtain ⟨k, w, ks⟩ := t
  have := massK_len ks
  simp only [mass, Tree.words_mk, Tree.kids_mk]
  omega
theorem len_massE (e : Edit) : mass e.old + mass e.new + e.words.length + e.ops.length + massKs e.kids + massOs e.ops < massE e := by
  obtain ⟨k, o, n, w, ks, l, os⟩ := e
  simp only [massE, Edit.old_mk, Edit.new_mk, Edit.words_mk, Edit.ops_mk, Edit.kids_mk]
  omega
theorem c88 : Contract Try.prog cfg 88 spec88 := by
  refine make88 ?_
  intro t _ hp
  simp only [pre88] at hp
  have := len_mass t
  refine vc88 t _ ?_
  refine ⟨fun _ => by unfold InR; omega, ends_bool rfl ?_⟩
  rw [Bool.eq_iff_iff]
  simp only [noneT]
  (simp only [vcS])
  omega
theorem c89 : Contract Try.prog cfg 89 spec89 := by
  refine make89 c116 ?_
  intro w m _ hp
  refine vc89 _ _ _ ?_
  refine ⟨⟨hp.1, by dsimp only; omega, hp.2⟩, ends_bool rfl ?_⟩
  rfl
theorem c123 : Contract Try.prog cfg 123 spec123 := by
  refine make123 c88 ?_
  intro e _ hp
  simp only [pre123] at hp
  have h1 := len_massE e
  have h2 := massKs_len e.kids
  refine vc123 e _ ?_
  (simp only [Tree.eta, Edit.eta, Tree.kind_mk, Tree.words_mk, Tree.kids_mk])
  refine ⟨fun _ => by simp only [pre88]; omega, fun _ => by simp only [pre88]; omega, fun _ => by unfold InR; omega, fun _ => by unfold InR; omega, ends_bool rfl ?_⟩
  rw [Bool.eq_iff_iff]
  simp only [sameE]
  (simp only [vcS])
  constructor
  · rintro ⟨⟨⟨⟨h3, h4⟩, h5⟩, h6⟩, h7⟩; exact ⟨⟨⟨h3, h4⟩, h5⟩, by omega⟩
  · rintro ⟨⟨⟨h3, h4⟩, h5⟩, h6⟩; exact ⟨⟨⟨⟨h3, h4⟩, h5⟩, by omega⟩, by omega⟩
theorem loop57 (e : Edit) (x4 x5 i : Int) (N0 : LSt U → Prop) (Q : AExit → LSt U → Prop) (h1 : 0 ≤ x4 ∧ x4 ≤ 1048576) (h2 : 0 ≤ x5 ∧ x5 ≤ 1048576) (hi : 0 ≤ i) (hlen : e.ops.length ≤ 1000000)
    (ho : ∀ o ∈ e.ops, (0 ≤ o.n ∧ o.n ≤ 1048576) ∧ o.l.length ≤ 1000000)
    (h : i < e.ops.length → N0 (head57_0 e (min (if (e.ops.getD i.toNat Op.nil).kind = 2 then x4 else x4 + opLen (e.ops.getD i.toNat Op.nil)) 1048576) (min (if (e.ops.getD i.toNat Op.nil).kind = 1 then x5 else x5 + opLen (e.ops.getD i.toNat Op.nil)) 1048576) (i + 1)))
    (h' : ¬i < e.ops.length → Q .ret (⟨[(2, .c (.int .i64 x4)), (3, .c (.int .i64 x5))], [], []⟩ : LSt U)) : W57_l0 e x4 x5 i N0 Q := by
  refine vc57_l0 _ _ _ _ _ _ ?_
  (simp only [vcS])
  refine ⟨fun hc => ?_, h'⟩
  have hn := h hc
  have hm := ho _ (mem_getD (l := e.ops) (i := i.toNat) (by omega) Op.nil)
  have k1 : ∀ k, k = opLen (e.ops.getD i.toNat Op.nil) → W57_c1 e x4 x5 i k N0 Q := by
    intro k hk
    have hkr : 0 ≤ k ∧ k ≤ 3000000 := by
      rw [hk]; unfold opLen; split <;> omega
    have k2 : ∀ y, y = (if (e.ops.getD i.toNat Op.nil).kind = 2 then x4 else x4 + k) → W57_c2 e x5 i k y N0 Q := by
      intro y hy
      have hyr : 0 ≤ y ∧ y ≤ 5000000 := by rw [hy]; split <;> omega
      have k3 : ∀ z, z = (if (e.ops.getD i.toNat Op.nil).kind = 1 then x5 else x5 + k) → W57_c3 e i k y z N0 Q := by
        intro z hz
        have hzr : 0 ≤ z ∧ z ≤ 5000000 := by rw [hz]; split <;> omega
        have k4 : ∀ u, u = min y 1048576 → W57_c4 e i y z u N0 Q := by
          intro u hu
          refine vc57_c4 _ _ _ _ _ _ _ ?_
          (simp only [vcS])
          rw [← hk, ← hy, ← hz, ← hu] at hn
          refine ⟨fun hq => ⟨by unfold InR; omega, ?_⟩, fun hq => ⟨by unfold InR; omega, ?_⟩⟩
          · rw [show min z 1048576 = 1048576 by omega] at hn; exact hn
          · rw [show min z 1048576 = z by omega] at hn; exact hn
        refine vc57_c3 _ _ _ _ _ _ _ ?_
        (simp only [vcS])
        exact ⟨fun hq => k4 _ (by omega), fun hq => k4 _ (by omega)⟩
      refine vc57_c2 _ _ _ _ _ _ _ ?_
      (simp only [vcS])
      exact ⟨fun hq => ⟨by unfold InR; omega, k3 _ (by rw [if_neg hq])⟩, fun hq => k3 _ (by rw [if_pos hq])⟩
    refine vc57_c1 _ _ _ _ _ _ _ ?_
    (simp only [vcS])
    exact ⟨fun hq => ⟨by unfold InR; omega, k2 _ (by rw [if_neg hq])⟩, fun hq => k2 _ (by rw [if_pos hq])⟩
  exact ⟨⟨hi, hc⟩, by unfold InR; omega, fun hq => k1 _ (by unfold opLen; rw [if_pos hq]), fun hq => k1 _ (by unfold opLen; rw [if_neg hq])⟩
theorem c57 : Contract Try.prog cfg 57 spec57 := by
  refine make57 ?_
  intro e _ hp
  simp only [pre57] at hp
  have h1 := len_massE e
  refine vc57 e _ ?_
  refine loop_rule (ι := Int × Int × Int) (fun p => head57_0 e p.1 p.2.1 p.2.2) (fun p => 0 ≤ p.2.2 ∧ p.2.2 ≤ e.ops.length ∧ (0 ≤ p.1 ∧ p.1 ≤ 1048576) ∧ (0 ≤ p.2.1 ∧ p.2.1 ≤ 1048576) ∧ lenA (e.ops.drop p.2.2.toNat) p.1 = lenA e.ops 0 ∧ lenB (e.ops.drop p.2.2.toNat) p.2.1 = lenB e.ops 0) (fun p => ((e.ops.length : Int) - p.2.2).toNat) (0, 0, 0) rfl ⟨by dsimp only; omega, by dsimp only; omega, by dsimp only; omega, by dsimp only; omega, by simp, by simp⟩ ?_
  rintro ⟨x4, x5, i⟩ ⟨h2, h3, h4, h5, h6, h7⟩
  dsimp only at *
  have ho : ∀ o ∈ e.ops, (0 ≤ o.n ∧ o.n ≤ 1048576) ∧ o.l.length ≤ 1000000 := by
    intro o hm
    refine ⟨hp.2 o hm, ?_⟩
    have a1 := massOs_mem hm
    have a2 := massK_len o.l
    rw [massOp_e] at a1
    omega
  refine loop57 e x4 x5 i _ _ h4 h5 h2 (by omega) ho (fun hc => ⟨(_, _, i + 1), rfl, ⟨by dsimp only; omega, by dsimp only; omega, ?_, ?_, ?_, ?_⟩, by dsimp only; omega⟩) (fun hc => ?_)
  · have hm := ho _ (mem_getD (l := e.ops) (i := i.toNat) (by omega) Op.nil)
    dsimp only
    unfold opLen
    split <;> (try split) <;> omega
  · have hm := ho _ (mem_getD (l := e.ops) (i := i.toNat) (by omega) Op.nil)
    dsimp only
    unfold opLen
    split <;> (try split) <;> omega
  · rw [dropI h2 hc Op.nil] at h6
    exact h6
  · rw [dropI h2 hc Op.nil] at h7
    exact h7
  · rw [List.drop_of_length_le (by omega)] at h6 h7
    simp only [lenA, lenB] at h6 h7
    simp only [res57, ← h6, ← h7]
    exact ⟨⟨rfl, ⟨⟨rfl, rfl⟩, trivial⟩, rfl, ⟨⟨rfl, rfl⟩, trivial⟩, trivial⟩, trivial⟩
theorem leftKs_neg {l : List Kid} {d n : Int} (h : n < 0) : leftKs l d n = n := by cases l <;> simp [leftKs, h]
theorem leftOs_neg {l : List Op} {d n : Int} (h : n < 0) : leftOs l d n = n := by cases l <;> simp [leftOs, h]
theorem shallowK_neg {l : List Tree} {d n : Int} (h : n < 0) : shallowK l d n = n := by cases l <;> simp [shallowK, h]
theorem smallE_at {e : Edit} (h : smallE e) : small e.old ∧ small e.new ∧ e.words.length ≤ 17592186044416 ∧ e.kids.length ≤ 17592186044416 ∧ e.ops.length ≤ 17592186044416 ∧ smallKs e.kids ∧ smallOs e.ops := by
  obtain ⟨k, o, n, w, ks, l, os⟩ := e; exact h
theorem leftE_at (e : Edit) (d n : Int) : leftE e d n = if d = 0 ∨ n - 1 - e.words.length - e.ops.length < 0 then -1 else leftOs e.ops (d - 1) (leftKs e.kids (d - 1) (sh1 e.new (shallow e.old 80 (n - 1 - e.words.length - e.ops.length)))) := by
  obtain ⟨k, o, nw, w, ks, l, os⟩ := e; rfl
theorem c85 : Contract Try.prog cfg 85 spec85 := by
  refine make85 c68 ?_
  rintro N e d n _ hp hN
  simp only [pre85, mu85] at hp hN
  obtain ⟨hs, hd0, hd1, hn0, hn1⟩ := hp
  obtain ⟨so, sn, lw, lk, lo, sk, sos⟩ := smallE_at hs
  have hme := len_massE e
  have hres := leftE_at e d n
  refine vc85 N e d n _ ?_
  (simp only [vcS])
  (simp only [Tree.eta, Edit.eta, Tree.kind_mk, Tree.words_mk, Tree.kids_mk])
  refine ⟨by unfold InR; omega, by unfold InR; omega, by unfold InR; omega, fun hc => ends_int rfl (by rw [hres, if_pos hc]), fun hc => ?_⟩
  rw [if_neg (by omega)] at hres
  have r1 := shallow_range e.old 80 (n - 1 - e.words.length - e.ops.length)
  have p68 : ∀ t m, small t → -1 ≤ m → m ≤ 4611686018427387904 → pre68 (t, 80, m, ()) := fun t m h1 h2 h3 => ⟨h1, by dsimp only; omega, by dsimp only; omega, h2, h3⟩
  have k0 : ∀ x, x = sh1 e.new (shallow e.old 80 (n - 1 - e.words.length - e.ops.length)) → W85_c0 N e d n x (EndsQ cfg Try.f85.ntmps Try.f85.results.toList (res85 (e, d, n, ())) []) := by
    intro x hx
    have rx := sh1_range e.new _ r1.1
    rw [← hx] at rx hres
    refine vc85_c0 N e d n x _ ?_
    refine loop_rule (ι := Int × Int) (fun p => head85_1 e d n p.1 p.2) (fun p => 0 ≤ p.2 ∧ p.2 ≤ e.kids.length ∧ -1 ≤ p.1 ∧ p.1 ≤ 4611686018427387904 ∧ leftKs (e.kids.drop p.2.toNat) (d - 1) p.1 = leftKs e.kids (d - 1) x) (fun p => ((e.kids.length : Int) - p.2).toNat) (x, 0) rfl ⟨by dsimp only; omega, by dsimp only; omega, by dsimp only; omega, by dsimp only; omega, by simp⟩ ?_
    rintro ⟨y, i⟩ ⟨h1, h2, h3, h4, h5⟩
    dsimp only at *
    refine vc85_l1 N e d n y i _ _ ?_
    (simp only [vcS])
    (simp only [Tree.eta, Edit.eta, Tree.kind_mk, Tree.words_mk, Tree.kids_mk])
    refine ⟨fun hi => ?_, fun hi => ?_⟩
    · have hmem := mem_getD (l := e.kids) (i := i.toNat) (by omega) (KidOf.mk 0 Edit.nil)
      have hsm := smallKs_mem sk hmem
      have hmm := massKs_mem hmem
      rw [dropI h1 hi.1 (KidOf.mk 0 Edit.nil)] at h5
      simp only [leftKs] at h5
      rw [if_neg (by omega), leftKid_e] at h5
      have rr := leftE_range (e.kids.getD i.toNat (KidOf.mk 0 Edit.nil)).e (d - 1) y
      exact ⟨⟨h1, hi.1⟩, by unfold InR; omega, ⟨hsm, by dsimp only; omega, by dsimp only; omega, h3, h4⟩, by simp only [mu85]; omega, by unfold InR; omega, (_, i + 1), rfl, ⟨by dsimp only; omega, by dsimp only; omega, by dsimp only; omega, by dsimp only; omega, h5⟩, by dsimp only; omega⟩
    · have hy : leftKs e.kids (d - 1) x = y := by
        rw [← h5]
        by_cases hlt : i < e.kids.length
        · exact leftKs_neg (by omega)
        · rw [List.drop_of_length_le (by omega)]; rfl
      rw [hy] at hres
      refine loop_rule (ι := Int × Int) (fun p => head85_2 e d n p.1 p.2) (fun p => 0 ≤ p.2 ∧ p.2 ≤ e.ops.length ∧ -1 ≤ p.1 ∧ p.1 ≤ 4611686018427387904 ∧ leftOs (e.ops.drop p.2.toNat) (d - 1) p.1 = leftOs e.ops (d - 1) y) (fun p => ((e.ops.length : Int) - p.2).toNat) (y, 0) rfl ⟨by dsimp only; omega, by dsimp only; omega, h3, h4, by simp⟩ ?_
      rintro ⟨z, j⟩ ⟨h6, h7, h8, h9, h10⟩
      dsimp only at *
      refine vc85_l2 N e d n z j _ _ ?_
      (simp only [vcS])
      refine ⟨fun hj => ?_, fun hj => ?_⟩
      · have hmem := mem_getD (l := e.ops) (i := j.toNat) (by omega) Op.nil
        have hsm := smallOs_mem sos hmem
        have hmm := massOs_mem hmem
        rw [massOp_e] at hmm
        rw [dropI h6 hj.1 Op.nil] at h10
        simp only [leftOs] at h10
        rw [if_neg (by omega), leftOp_e] at h10
        refine loop_rule (ι := Int × Int) (fun p => head85_3 e d n j p.1 p.2) (fun p => 0 ≤ p.2 ∧ p.2 ≤ (e.ops.getD j.toNat Op.nil).l.length ∧ -1 ≤ p.1 ∧ p.1 ≤ 4611686018427387904 ∧ shallowK ((e.ops.getD j.toNat Op.nil).l.drop p.2.toNat) 80 p.1 = shallowK (e.ops.getD j.toNat Op.nil).l 80 z) (fun p => (((e.ops.getD j.toNat Op.nil).l.length : Int) - p.2).toNat) (z, 0) rfl ⟨by dsimp only; omega, by dsimp only; omega, h8, h9, by simp⟩ ?_
        rintro ⟨u, k⟩ ⟨g1, g2, g3, g4, g5⟩
        dsimp only at *
        refine vc85_l3 N e d n j u k _ _ _ ?_
        (simp only [vcS])
        (simp only [Tree.eta, Edit.eta, Tree.kind_mk, Tree.words_mk, Tree.kids_mk])
        refine ⟨⟨h6, hj.1⟩, fun hk => ?_, fun hk => ?_⟩
        · have hmt := mem_getD (l := (e.ops.getD j.toNat Op.nil).l) (i := k.toNat) (by omega) Tree.nil
          rw [dropI g1 hk.1 Tree.nil] at g5
          simp only [shallowK] at g5
          rw [if_neg (by omega)] at g5
          have rr := shallow_range ((e.ops.getD j.toNat Op.nil).l.getD k.toNat Tree.nil) 80 u
          exact ⟨⟨h6, hj.1⟩, ⟨g1, hk.1⟩, p68 _ _ (smallK_mem hsm.2.1 hmt) g3 g4, by unfold InR; omega, (_, k + 1), rfl, ⟨by dsimp only; omega, by dsimp only; omega, by dsimp only; omega, by dsimp only; omega, g5⟩, by dsimp only; omega⟩
        · have hu : shallowK (e.ops.getD j.toNat Op.nil).l 80 z = u := by
            rw [← g5]
            by_cases hlt : k < (e.ops.getD j.toNat Op.nil).l.length
            · exact shallowK_neg (by omega)
            · rw [List.drop_of_length_le (by omega)]; rfl
          rw [hu] at h10
          have rr := leftE_range (e.ops.getD j.toNat Op.nil).e (d - 1) u
          refine ⟨fun hq => ⟨⟨h6, hj.1⟩, by unfold InR; omega, ⟨hsm.2.2, by dsimp only; omega, by dsimp only; omega, g3, g4⟩, by simp only [mu85]; omega, by unfold InR; omega, (_, j + 1), rfl, ⟨by dsimp only; omega, by dsimp only; omega, by dsimp only; omega, by dsimp only; omega, ?_⟩, by dsimp only; omega⟩,
            fun hq => ⟨by unfold InR; omega, (_, j + 1), rfl, ⟨by dsimp only; omega, by dsimp only; omega, by dsimp only; omega, by dsimp only; omega, ?_⟩, by dsimp only; omega⟩⟩
          · rw [if_neg (by omega)] at h10; exact h10
          · rw [if_pos (by omega)] at h10; exact h10
      · refine ends_int rfl ?_
        rw [hres, ← h10]
        by_cases hlt : j < e.ops.length
        · exact (leftOs_neg (by omega)).symm
        · rw [List.drop_of_length_le (by omega)]; rfl
  refine ⟨p68 _ _ so (by omega) (by omega), fun hq => ⟨p68 _ _ sn r1.1 (by omega), k0 _ ?_⟩, fun hq => k0 _ ?_⟩
  · unfold sh1; rw [if_neg (by omega)]
  · unfold sh1; rw [if_pos (by omega)]
theorem c54 : Contract Try.prog cfg 54 spec54 := by
  refine make54 c85 ?_
  intro e _ hp
  refine vc54 e _ ?_
  (simp only [Tree.eta, Edit.eta, Tree.kind_mk, Tree.words_mk, Tree.kids_mk])
  exact ⟨⟨hp, by dsimp only; omega, by dsimp only; omega, by dsimp only; omega, by dsimp only; omega⟩, ends_bool rfl rfl⟩
end Go.AM.Ytlahjnelghpmeaa

namespace Go.AM.Ytlahjnelghpmeaa
open Go.AM Go.Proofs
theorem rightE_at (e : Edit) (d : Int) : rightE e d =
    if d = 0 ∨ e.kind < 0 ∨ 3 < e.kind then false
    else if (e.kind ≠ 1 ∧ ¬(noneT e.old = true ∧ noneT e.new = true)) ∨ (e.kind ≠ 2 ∧ ¬(e.words.length = 0 ∧ e.kids.length = 0)) ∨ (e.kind ≠ 3 ∧ (e.list ≠ 0 ∨ e.ops.length ≠ 0)) then false
    else if e.kind = 1 then rightT e.old 64 && rightT e.new 64 && decide (e.old.kind ≠ 10 ∧ e.new.kind ≠ 10)
    else wordsOk (-1) e.words && rightKs (-1) e.kids (d - 1) && decide (¬(e.kind = 3 ∧ (e.list < 2 ∨ 9 < e.list))) && rightOs e.list e.ops (d - 1) && decide (lenA e.ops 0 < 1048576 ∧ lenB e.ops 0 < 1048576) := by
  obtain ⟨k, o, nw, w, ks, l, os⟩ := e; rfl
theorem rightKid_at (last : Int) (k : Kid) (d : Int) : rightKid last k d = (decide (last < k.at_ ∧ k.at_ ≤ 65534 ∧ k.e.kind ≠ 0) && rightE k.e d) := by cases k; rfl
theorem rightOp_at (list : Int) (o : Op) (d : Int) : rightOp list o d =
    if o.kind = 0 then decide (1 ≤ o.n ∧ o.n ≤ 1048576 ∧ o.l.length = 0) && sameE o.e
    else if o.n ≠ 0 ∨ o.kind < 0 ∨ 3 < o.kind then false
    else if o.kind < 3 then treesOk list o.l && decide (0 < o.l.length) && sameE o.e
    else decide (o.l.length = 0 ∧ o.e.kind ≠ 0 ∧ 7 < list) && rightE o.e d && decide (list = 8 ∨ o.e.kind = 2 ∨ o.e.kind = 1 ∧ o.e.old.kind = 1 ∧ o.e.new.kind = 1) := by
  cases o; rfl
theorem rightOp_n {list : Int} {o : Op} {d : Int} (h : rightOp list o d = true) : 0 ≤ o.n ∧ o.n ≤ 1048576 := by
  rw [rightOp_at] at h
  split at h
  · simp only [Bool.and_eq_true, decide_eq_true_eq] at h; omega
  · split at h
    · cases h
    · rename_i h1; omega
theorem rightOs_mem {list d : Int} : ∀ {os : List Op} {o : Op}, rightOs list os d = true → o ∈ os → rightOp list o d = true
  | x :: r, o, h, hm => by
    simp only [rightOs, Bool.and_eq_true] at h
    rcases List.mem_cons.1 hm with rfl | hm
    · exact h.1
    · exact rightOs_mem h.2 hm
theorem rightKs_mem {d : Int} : ∀ {ks : List Kid} {last : Int} {k : Kid}, rightKs last ks d = true → k ∈ ks → rightE k.e d = true ∧ k.e.kind ≠ 0
  | x :: r, last, k, h, hm => by
    simp only [rightKs, Bool.and_eq_true] at h
    rcases List.mem_cons.1 hm with rfl | hm
    · have := h.1; rw [rightKid_at] at this; simp only [Bool.and_eq_true, decide_eq_true_eq] at this; exact ⟨this.2, this.1.2.2⟩
    · exact rightKs_mem h.2 hm
theorem rngE_at {e : Edit} (h : rngE e) : isI e.kind ∧ rng e.old ∧ rng e.new ∧ (∀ x ∈ e.words, rngW x) ∧ isI e.list ∧ rngKs e.kids ∧ rngOs e.ops := by
  obtain ⟨k, o, n, w, ks, l, os⟩ := e; exact h
theorem b59 : HB59 := by
  intro N e d _ hp hN
  simp only [pre59, mu59] at hp hN
  obtain ⟨⟨hm, hr⟩, hd0, hd1⟩ := hp
  obtain ⟨ik, ro, rn, rw', il, rk, ros⟩ := rngE_at hr
  have hme := len_massE e
  have hkl := massKs_len e.kids
  have hol := massOs_len e.ops
  have hat := rightE_at e d
  refine vc59 N e d _ ?_
  (simp only [vcS])
  (simp only [Tree.eta, Edit.eta, Tree.kind_mk, Tree.words_mk, Tree.kids_mk])
  refine ⟨fun hc => ends_bool rfl (by rw [hat, if_pos (by omega)]), fun hc => ?_⟩
  rw [if_neg (by omega)] at hat
  refine ⟨fun _ => by simp only [pre88]; omega, fun _ => by simp only [pre88]; omega, fun _ => by unfold InR; omega, fun hf => ends_bool rfl ?_, fun hf => ⟨fun h1 => ⟨⟨by dsimp only; omega, ro, by dsimp only; omega, by dsimp only; omega⟩, fun _ => ⟨by dsimp only; omega, rn, by dsimp only; omega, by dsimp only; omega⟩, ends_bool rfl ?_⟩, fun h1 => ?_⟩⟩
  · rw [hat, if_pos]
    rcases hf with (hf | hf) | hf
    · left
      refine ⟨hf.1, fun h => ?_⟩
      rcases hf.2 with h2 | h2
      · rw [h.1] at h2; cases h2
      · rw [h.2] at h2; cases h2
    · right; left; omega
    · right; right; omega
  · rw [hat, if_neg, if_pos h1, Bool.eq_iff_iff]
    · (simp only [vcS])
      constructor
      · rintro ⟨⟨⟨h2, h3⟩, h4⟩, h5⟩; exact ⟨⟨h2, h3⟩, h4, h5⟩
      · rintro ⟨⟨h2, h3⟩, h4, h5⟩; exact ⟨⟨⟨h2, h3⟩, h4⟩, h5⟩
    · intro h
      rcases h with h | h | h
      · exact h.1 h1
      · omega
      · omega
  · rw [if_neg, if_neg h1] at hat
    · refine loop_rule (ι := Int × Int) (fun p => head59_0 e d p.1 p.2) (fun p => 0 ≤ p.2 ∧ p.2 ≤ e.words.length ∧ wordsOk p.1 (e.words.drop p.2.toNat) = wordsOk (-1) e.words) (fun p => ((e.words.length : Int) - p.2).toNat) (-1, 0) rfl ⟨by dsimp only; omega, by dsimp only; omega, by simp⟩ ?_
      rintro ⟨last, i⟩ ⟨h2, h3, h4⟩
      dsimp only at *
      refine vc59_l0 N e d last i _ _ ?_
      (simp only [vcS])
      try (simp only [Tree.eta, Edit.eta, Tree.kind_mk, Tree.words_mk, Tree.kids_mk])
      refine ⟨fun hi => ?_, fun hi => ?_⟩
      · have hmem := mem_getD (l := e.words) (i := i.toNat) (by omega) (WEdit.mk 0 0 0 0)
        have hrw := rw' _ hmem
        rw [dropI h2 hi (WEdit.mk 0 0 0 0)] at h4
        simp only [wordsOk] at h4
        generalize e.words.getD i.toNat (WEdit.mk 0 0 0 0) = w at *
        obtain ⟨_, hmk, hwo, hwn⟩ := hrw
        refine ⟨⟨h2, hi⟩, fun _ => ⟨hwo, hmk⟩, fun _ => ⟨hwn, hmk⟩, fun hq => ends_bool rfl ?_, fun hq => ⟨by unfold InR; omega, (_, i + 1), rfl, ⟨by dsimp only; omega, by dsimp only; omega, ?_⟩, by dsimp only; omega⟩⟩
        · rw [hat, ← h4]
          rcases hq with (hq | hq) | hq
          · rw [decide_eq_false (by omega)]; rfl
          · rw [hq]; simp
          · rw [hq]; simp
        · dsimp only
          rw [← h4, decide_eq_true (by omega), hq.1.2, hq.2]; rfl
      · have hw : wordsOk (-1) e.words = true := by
          rw [← h4, List.drop_of_length_le (by omega)]; rfl
        rw [hw, Bool.true_and] at hat
        refine loop_rule (ι := Int × Int) (fun p => head59_1 e d p.1 p.2) (fun p => 0 ≤ p.2 ∧ p.2 ≤ e.kids.length ∧ rightKs p.1 (e.kids.drop p.2.toNat) (d - 1) = rightKs (-1) e.kids (d - 1)) (fun p => ((e.kids.length : Int) - p.2).toNat) (-1, 0) rfl ⟨by dsimp only; omega, by dsimp only; omega, by simp⟩ ?_
        rintro ⟨last, i⟩ ⟨h2, h3, h4⟩
        dsimp only at *
        refine vc59_l1 N e d last i _ _ ?_
        (simp only [vcS])
        try (simp only [Tree.eta, Edit.eta, Tree.kind_mk, Tree.words_mk, Tree.kids_mk])
        refine ⟨fun hi => ?_, fun hi => ?_⟩
        · have hmem := mem_getD (l := e.kids) (i := i.toNat) (by omega) (KidOf.mk 0 Edit.nil)
          have hrw := rngKs_mem rk hmem
          have hmm := massKs_mem hmem
          rw [dropI h2 hi (KidOf.mk 0 Edit.nil)] at h4
          simp only [rightKs, rightKid_at] at h4
          generalize e.kids.getD i.toNat (KidOf.mk 0 Edit.nil) = w at *
          refine ⟨⟨h2, hi⟩, fun _ => by unfold InR; omega, fun _ => ⟨⟨by dsimp only; omega, hrw.2⟩, by dsimp only; omega, by dsimp only; omega⟩, fun _ => by simp only [mu59]; omega, fun hq => ends_bool rfl ?_, fun hq => ⟨by unfold InR; omega, (_, i + 1), rfl, ⟨by dsimp only; omega, by dsimp only; omega, ?_⟩, by dsimp only; omega⟩⟩
          · rw [hat, ← h4]
            rcases hq with hq | hq
            · rw [decide_eq_false (by omega)]; rfl
            · rw [hq]; simp
          · dsimp only
            rw [← h4, decide_eq_true (by omega), hq.2]; rfl
        · have hw : rightKs (-1) e.kids (d - 1) = true := by
            rw [← h4, List.drop_of_length_le (by omega)]; rfl
          rw [hw, Bool.true_and] at hat
          refine ⟨fun hq => ends_bool rfl (by rw [hat, decide_eq_false (by omega)]; rfl), fun hq => ?_⟩
          rw [decide_eq_true (by omega), Bool.true_and] at hat
          refine loop_rule (ι := Int) (fun p => head59_2 e d p) (fun p => 0 ≤ p ∧ p ≤ e.ops.length ∧ rightOs e.list (e.ops.drop p.toNat) (d - 1) = rightOs e.list e.ops (d - 1)) (fun p => ((e.ops.length : Int) - p).toNat) 0 rfl ⟨by omega, by omega, by simp⟩ ?_
          rintro j ⟨h5, h6, h7⟩
          refine vc59_l2 N e d j _ _ ?_
          (simp only [vcS])
          try (simp only [Tree.eta, Edit.eta, Tree.kind_mk, Tree.words_mk, Tree.kids_mk])
          refine ⟨fun hj => ?_, fun hj => ?_⟩
          · have hmem := mem_getD (l := e.ops) (i := j.toNat) (by omega) Op.nil
            have hro := rngOs_mem ros hmem
            have hmm := massOs_mem hmem
            rw [dropI h5 hj Op.nil] at h7
            simp only [rightOs] at h7
            generalize e.ops.getD j.toNat Op.nil = o at *
            refine ⟨⟨h5, hj⟩, by unfold InR; omega, ⟨⟨by show massOp o ≤ 1000000; omega, hro, il⟩, by dsimp only; omega, by dsimp only; omega⟩, ?_, fun hq => ends_bool rfl ?_, fun hq => ⟨by unfold InR; omega, j + 1, rfl, ⟨by omega, by omega, ?_⟩, by omega⟩⟩
            · show 2 * massOp o + 1 < N
              omega
            · have hq' : rightOp e.list o (d - 1) = false := hq
              rw [hat, ← h7, hq']; rfl
            · have hq' : rightOp e.list o (d - 1) = true := hq
              rw [← h7, hq']; rfl
          · have hw : rightOs e.list e.ops (d - 1) = true := by
              rw [← h7, List.drop_of_length_le (by omega)]; rfl
            rw [hw, Bool.true_and] at hat
            refine ⟨⟨hm, fun o ho => rightOp_n (rightOs_mem hw ho)⟩, ends_bool rfl ?_⟩
            rw [hat, Bool.eq_iff_iff]
            (simp only [vcS])
    · intro h
      rcases h with h | h | h
      · rcases hf.1.1 with h2 | h2
        · exact h1 h2
        · exact h.2 h2
      · omega
      · omega
theorem drop_take_one {l : List Tree} {i : Int} (h0 : 0 ≤ i) (h : i < l.length) : List.drop i.toNat (l.take (i + 1).toNat) = [l.getD i.toNat Tree.nil] := by
  rw [List.drop_take, show (i + 1).toNat - i.toNat = 1 by omega, dropI h0 h Tree.nil]
  rfl
theorem b90 : HB90 := by
  intro N list o d _ hp hN
  simp only [pre90, mu90] at hp hN
  obtain ⟨⟨hm, hr, hil⟩, hd0, hd1⟩ := hp
  obtain ⟨ik, inn, rl, re⟩ := rngOp_e hr
  rw [massOp_e] at hm hN
  have hll := massK_len o.l
  have hep := massE_pos o.e
  have hat := rightOp_at list o d
  refine vc90 N list o d _ ?_
  (simp only [vcS])
  (simp only [Tree.eta, Edit.eta, Tree.kind_mk, Tree.words_mk, Tree.kids_mk])
  refine ⟨fun h0 => ⟨fun _ => by simp only [pre123]; omega, ends_bool rfl ?_⟩, fun h0 => ⟨fun hc => ends_bool rfl ?_, fun hc => ⟨fun h3 => ?_, fun h3 => ⟨fun _ => ⟨⟨by dsimp only; omega, re⟩, hd0, hd1⟩, fun _ => by simp only [mu59]; omega, fun hq => ends_bool rfl ?_, fun hq => ends_bool rfl ?_⟩⟩⟩⟩
  · rw [hat, if_pos h0, Bool.eq_iff_iff]
    (simp only [vcS])
    constructor
    · rintro ⟨h1, h2⟩; exact ⟨by omega, h2⟩
    · rintro ⟨h1, h2⟩; exact ⟨by omega, h2⟩
  · rw [hat, if_neg h0, if_pos (by omega)]
  · rw [if_neg h0, if_neg (by omega), if_pos h3] at hat
    refine loop_rule (ι := Int) (fun p => head90_0 list o d p) (fun p => 0 ≤ p ∧ p ≤ o.l.length ∧ treesOk list (o.l.drop p.toNat) = treesOk list o.l) (fun p => ((o.l.length : Int) - p).toNat) 0 rfl ⟨by omega, by omega, by simp⟩ ?_
    rintro i ⟨h4, h5, h6⟩
    refine vc90_l0 N list o d i _ _ ?_
    (simp only [vcS])
    try (simp only [Tree.eta, Edit.eta, Tree.kind_mk, Tree.words_mk, Tree.kids_mk])
    refine ⟨fun hi => ?_, fun hi => ?_⟩
    · have hmem := mem_getD (l := o.l) (i := i.toNat) (by omega) Tree.nil
      have hrt := rngK_mem rl hmem
      have hmt := massK_mem hmem
      rw [drop_take_one h4 hi]
      rw [dropI h4 hi Tree.nil] at h6
      simp only [treesOk] at h6
      generalize o.l.getD i.toNat Tree.nil = t at *
      refine ⟨by unfold InR; omega, by omega, ⟨by simp only [mass, massK, List.length_nil]; omega, ⟨hil, fun x hx => (by cases hx), hrt, trivial⟩, by dsimp only; omega, by dsimp only; omega⟩, fun hq => ends_bool rfl ?_, fun hq => ⟨by unfold InR; omega, i + 1, rfl, ⟨by omega, by omega, ?_⟩, by omega⟩⟩
      · rw [hat, ← h6, hq]; rfl
      · rw [← h6, hq]; rfl
    · have hw : treesOk list o.l = true := by
        rw [← h6, List.drop_of_length_le (by omega)]; rfl
      rw [hw, Bool.true_and] at hat
      refine ⟨fun _ => by simp only [pre123]; omega, ends_bool rfl ?_⟩
      rw [hat, Bool.eq_iff_iff]
      (simp only [vcS])
      simp only [Int.natCast_pos]
  · rw [hat, if_neg h0, if_neg (by omega), if_neg h3]
    rcases hq with hq | hq
    · have : ¬(o.l.length = 0 ∧ o.e.kind ≠ 0 ∧ 7 < list) := by omega
      rw [decide_eq_false this]; rfl
    · rw [hq]; simp
  · rw [hat, if_neg h0, if_neg (by omega), if_neg h3, hq.2]
    have : o.l.length = 0 ∧ o.e.kind ≠ 0 ∧ 7 < list := by omega
    rw [decide_eq_true this, Bool.eq_iff_iff]
    (simp only [vcS])
    simp only [true_and, Bool.and_true, decide_eq_true_eq, and_assoc, or_assoc]
theorem c59_90 : Contract Try.prog cfg 59 spec59 ∧ Contract Try.prog cfg 90 spec90 := make59_90 c88 c89 c123 c47 c57 b59 b90
theorem lightE_at (e : Edit) : lightE e = (decide (lenA e.ops 0 ≤ 2000 ∧ lenB e.ops 0 ≤ 2000) && lightKs e.kids && lightOs e.ops) := by
  obtain ⟨k, o, nw, w, ks, l, os⟩ := e; rfl
theorem lightKid_at (k : Kid) : lightKid k = lightE k.e := by cases k; rfl
theorem lightOp_at (o : Op) : lightOp o = lightE o.e := by cases o; rfl
theorem rightE_in {e : Edit} {d : Int} (h : rightE e d = true) : (∀ k ∈ e.kids, rightE k.e (d - 1) = true ∧ k.e.kind ≠ 0) ∧ ∀ o ∈ e.ops, rightOp e.list o (d - 1) = true := by
  rw [rightE_at] at h
  split at h
  · cases h
  · split at h
    · cases h
    · rename_i h1 h2
      split at h
      · rename_i h3
        have hk : e.kids = [] := List.eq_nil_of_length_eq_zero (by omega)
        have ho : e.ops = [] := List.eq_nil_of_length_eq_zero (by omega)
        rw [hk, ho]
        exact ⟨fun k hk => (by cases hk), fun o ho => (by cases ho)⟩
      · simp only [Bool.and_eq_true] at h
        exact ⟨fun k hk => rightKs_mem h.1.1.1.2 hk, fun o ho => rightOs_mem h.1.2 ho⟩
theorem sameE_eq {e : Edit} (h : sameE e = true) : e.kind = 0 ∧ noneT e.old = true ∧ noneT e.new = true ∧ e.words = [] ∧ e.kids = [] ∧ e.ops = [] ∧ e.list = 0 := by
  simp only [sameE, Bool.and_eq_true, decide_eq_true_eq] at h
  obtain ⟨⟨⟨h1, h2⟩, h3⟩, h4, h5, h6, h7⟩ := h
  exact ⟨h1, h2, h3, List.eq_nil_of_length_eq_zero h4, List.eq_nil_of_length_eq_zero h5, List.eq_nil_of_length_eq_zero h6, h7⟩
theorem sameE_right {e : Edit} (h : sameE e = true) (d : Int) (hd : d ≠ 0) : rightE e d = true := by
  obtain ⟨h1, h2, h3, h4, h5, h6, h7⟩ := sameE_eq h
  rw [rightE_at, h1, h2, h3, h4, h5, h6, h7, if_neg (by omega), if_neg (by simp), if_neg (by omega)]
  simp [wordsOk, rightKs, rightOs, lenA, lenB]
theorem rightOp_right {list : Int} {o : Op} {d : Int} (h : rightOp list o d = true) : ∃ d', rightE o.e d' = true := by
  rw [rightOp_at] at h
  split at h
  · simp only [Bool.and_eq_true] at h
    exact ⟨1, sameE_right h.2 1 (by omega)⟩
  · split at h
    · cases h
    · split at h
      · simp only [Bool.and_eq_true] at h
        exact ⟨1, sameE_right h.2 1 (by omega)⟩
      · simp only [Bool.and_eq_true] at h
        exact ⟨d, h.1.2⟩
theorem c75 : Contract Try.prog cfg 75 spec75 := by
  refine make75 c57 ?_
  intro N e _ hp hN
  simp only [pre75, mu75] at hp hN
  obtain ⟨⟨hm, hr⟩, dd, hrt⟩ := hp
  obtain ⟨ik, ro, rn, rw', il, rk, ros⟩ := rngE_at hr
  have hme := len_massE e
  have hkl := massKs_len e.kids
  have hol := massOs_len e.ops
  have hat := lightE_at e
  obtain ⟨hrk, hro⟩ := rightE_in hrt
  refine vc75 N e _ ?_
  (simp only [vcS])
  try (simp only [Tree.eta, Edit.eta, Tree.kind_mk, Tree.words_mk, Tree.kids_mk])
  refine ⟨⟨hm, fun o ho => rightOp_n (hro o ho)⟩, fun hq => ends_bool rfl (by rw [hat, decide_eq_false (by omega)]; rfl), fun hq => ?_⟩
  rw [decide_eq_true (by omega), Bool.true_and] at hat
  refine loop_rule (ι := Int) (fun p => head75_0 e p) (fun p => 0 ≤ p ∧ p ≤ e.kids.length ∧ lightKs (e.kids.drop p.toNat) = lightKs e.kids) (fun p => ((e.kids.length : Int) - p).toNat) 0 rfl ⟨by omega, by omega, by simp⟩ ?_
  rintro i ⟨h4, h5, h6⟩
  refine vc75_l0 N e i _ _ ?_
  (simp only [vcS])
  (simp only [Tree.eta, Edit.eta, Tree.kind_mk, Tree.words_mk, Tree.kids_mk])
  refine ⟨fun hi => ?_, fun hi => ?_⟩
  · have hmem := mem_getD (l := e.kids) (i := i.toNat) (by omega) (KidOf.mk 0 Edit.nil)
    have hrr := rngKs_mem rk hmem
    have hmm := massKs_mem hmem
    have hri := hrk _ hmem
    rw [dropI h4 hi (KidOf.mk 0 Edit.nil)] at h6
    simp only [lightKs, lightKid_at] at h6
    generalize e.kids.getD i.toNat (KidOf.mk 0 Edit.nil) = k at *
    refine ⟨⟨h4, hi⟩, ⟨⟨by dsimp only; omega, hrr.2⟩, _, hri.1⟩, by simp only [mu75]; omega, fun hq => ends_bool rfl (by rw [hat, ← h6, hq]; rfl), fun hq => ⟨by unfold InR; omega, i + 1, rfl, ⟨by omega, by omega, by rw [← h6, hq]; rfl⟩, by omega⟩⟩
  · have hw : lightKs e.kids = true := by
      rw [← h6, List.drop_of_length_le (by omega)]; rfl
    rw [hw, Bool.true_and] at hat
    refine loop_rule (ι := Int) (fun p => head75_1 e p) (fun p => 0 ≤ p ∧ p ≤ e.ops.length ∧ lightOs (e.ops.drop p.toNat) = lightOs e.ops) (fun p => ((e.ops.length : Int) - p).toNat) 0 rfl ⟨by omega, by omega, by simp⟩ ?_
    rintro j ⟨g4, g5, g6⟩
    refine vc75_l1 N e j _ _ ?_
    (simp only [vcS])
    try (simp only [Tree.eta, Edit.eta, Tree.kind_mk, Tree.words_mk, Tree.kids_mk])
    refine ⟨fun hi => ?_, fun hi => ?_⟩
    · have hmem := mem_getD (l := e.ops) (i := j.toNat) (by omega) Op.nil
      have hrr := rngOp_e (rngOs_mem ros hmem)
      have hmm := massOs_mem hmem
      have hri := rightOp_right (hro _ hmem)
      rw [massOp_e] at hmm
      rw [dropI g4 hi Op.nil] at g6
      simp only [lightOs, lightOp_at] at g6
      generalize e.ops.getD j.toNat Op.nil = o at *
      refine ⟨⟨g4, hi⟩, ⟨⟨by dsimp only; omega, hrr.2.2.2⟩, hri⟩, by simp only [mu75]; omega, fun hq => ends_bool rfl (by rw [hat, ← g6, hq]; rfl), fun hq => ⟨by unfold InR; omega, j + 1, rfl, ⟨by omega, by omega, by rw [← g6, hq]; rfl⟩, by omega⟩⟩
    · refine ends_bool rfl ?_
      rw [hat, ← g6, List.drop_of_length_le (by omega)]; rfl
theorem c37 : Contract Try.prog cfg 37 spec37 := by
  refine make37 c54 c59_90.1 c75 ?_
  intro e _ hp
  simp only [pre37] at hp
  refine vc37 e _ ?_
  (simp only [Tree.eta, Edit.eta, Tree.kind_mk, Tree.words_mk, Tree.kids_mk])
  refine ⟨hp.1, fun hf => ?_, fun hf => ?_, ends_bool rfl ?_⟩
  · have := few_massE (by simpa using hf)
    exact ⟨⟨by dsimp only; omega, hp.2⟩, by dsimp only; omega, by dsimp only; omega⟩
  · simp only [bif_fr, decide_eq_true_eq] at hf
    have := few_massE hf.1
    exact ⟨⟨by dsimp only; omega, hp.2⟩, 64, hf.2⟩
  · show _ = good e
    simp only [good]
    rw [Bool.eq_iff_iff]
    (simp only [vcS])
end Go.AM.Ytlahjnelghpmeaa
