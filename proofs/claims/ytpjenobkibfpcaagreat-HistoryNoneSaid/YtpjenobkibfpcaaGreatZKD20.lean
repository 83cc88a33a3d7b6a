import Derived.Test.YtpjenobkibfpcaaGreatZKD07
set_option linter.unusedSimpArgs false
set_option linter.unusedVariables false
namespace Go.AM
def byteAt (w : Int) (i : Nat) : Int := w / 256 ^ i % 256
def named (m : Int) (i : Int) : Bool := decide (m / 2 ^ i.toNat % 2 = 1)
def of8 (f : Nat → Int) : Int := f 0 + 256 * (f 1 + 256 * (f 2 + 256 * (f 3 + 256 * (f 4 + 256 * (f 5 + 256 * (f 6 + 256 * f 7))))))
def mixAt (a b m : Int) (i : Nat) : Int := if named m i then byteAt b i else byteAt a i
def mix (a b m : Int) : Int := of8 (mixAt a b m)
mutual
def massE : Edit → Nat
  | .mk _ o n w ks _ os => 1 + mass o + mass n + w.length + os.length + massKs ks + massOs os
def massKs : List (KidOf Edit) → Nat
  | [] => 0
  | k :: r => massKid k + massKs r
def massKid : KidOf Edit → Nat
  | ⟨_, e⟩ => massE e
def massOs : List (OpOf Edit) → Nat
  | [] => 0
  | o :: r => massOp o + massOs r
def massOp : OpOf Edit → Nat
  | ⟨_, _, l, e⟩ => massK l + massE e
end
mutual
def smallE : Edit → Prop
  | .mk _ o n w ks _ os => small o ∧ small n ∧ w.length ≤ 17592186044416 ∧ ks.length ≤ 17592186044416 ∧ os.length ≤ 17592186044416 ∧ smallKs ks ∧ smallOs os
def smallKs : List (KidOf Edit) → Prop
  | [] => True
  | k :: r => smallKid k ∧ smallKs r
def smallKid : KidOf Edit → Prop
  | ⟨_, e⟩ => smallE e
def smallOs : List (OpOf Edit) → Prop
  | [] => True
  | o :: r => smallOp o ∧ smallOs r
def smallOp : OpOf Edit → Prop
  | ⟨_, _, l, e⟩ => l.length ≤ 17592186044416 ∧ smallK l ∧ smallE e
end
def isI (n : Int) : Prop := -9223372036854775808 ≤ n ∧ n ≤ 9223372036854775807
def isW (n : Int) : Prop := 0 ≤ n ∧ n < 18446744073709551616
def rngW (w : WEdit) : Prop := isI w.at_ ∧ (0 ≤ w.mask ∧ w.mask < 256) ∧ isW w.old ∧ isW w.new
mutual
def rngE : Edit → Prop
  | .mk k o n w ks l os => isI k ∧ rng o ∧ rng n ∧ (∀ x ∈ w, rngW x) ∧ isI l ∧ rngKs ks ∧ rngOs os
def rngKs : List (KidOf Edit) → Prop
  | [] => True
  | k :: r => rngKid k ∧ rngKs r
def rngKid : KidOf Edit → Prop
  | ⟨a, e⟩ => isI a ∧ rngE e
def rngOs : List (OpOf Edit) → Prop
  | [] => True
  | o :: r => rngOp o ∧ rngOs r
def rngOp : OpOf Edit → Prop
  | ⟨k, n, l, e⟩ => isI k ∧ isI n ∧ rngK l ∧ rngE e
end
def sh1 (t : Tree) (n : Int) : Int := if n < 0 then n else shallow t 80 n
mutual
def leftE : Edit → Int → Int → Int
  | .mk _ o nw w ks _ os, d, n => if d = 0 ∨ n - 1 - w.length - os.length < 0 then -1 else leftOs os (d - 1) (leftKs ks (d - 1) (sh1 nw (shallow o 80 (n - 1 - w.length - os.length))))
def leftKs : List (KidOf Edit) → Int → Int → Int
  | [], _, n => n
  | k :: r, d, n => if n < 0 then n else leftKs r d (leftKid k d n)
def leftKid : KidOf Edit → Int → Int → Int
  | ⟨_, e⟩, d, n => leftE e d n
def leftOs : List (OpOf Edit) → Int → Int → Int
  | [], _, n => n
  | o :: r, d, n => if n < 0 then n else leftOs r d (leftOp o d n)
def leftOp : OpOf Edit → Int → Int → Int
  | ⟨_, _, l, e⟩, d, n => if shallowK l 80 n < 0 then shallowK l 80 n else leftE e d (shallowK l 80 n)
end
def noneT (t : Tree) : Bool := decide (t.kind = 0 ∧ t.words.length = 0 ∧ t.kids.length = 0)
def sameE (e : Edit) : Bool := decide (e.kind = 0) && noneT e.old && noneT e.new && decide (e.words.length = 0 ∧ e.kids.length = 0 ∧ e.ops.length = 0 ∧ e.list = 0)
def withinW (w m : Int) : Bool := decide (mix w 0 m = 0)
def wordsOk (last : Int) : List WEdit → Bool
  | [] => true
  | w :: r => decide (last < w.at_ ∧ w.at_ ≤ 65534 ∧ w.mask ≠ 0) && withinW w.old w.mask && withinW w.new w.mask && wordsOk w.at_ r
def opLen (o : Op) : Int := if o.kind = 3 then 1 else o.n + o.l.length
def lenA : List Op → Int → Int
  | [], n => n
  | o :: r, n => lenA r (min (if o.kind = 2 then n else n + opLen o) 1048576)
def lenB : List Op → Int → Int
  | [], n => n
  | o :: r, n => lenB r (min (if o.kind = 1 then n else n + opLen o) 1048576)
def treesOk (list : Int) : List Tree → Bool
  | [] => true
  | t :: r => rightT (.mk list [] [t]) 64 && treesOk list r
def dT (d : Int) : Int := if d < 0 then -1 else 64
theorem dT_nn {d : Int} (h : 0 ≤ d) : dT d = 64 := by unfold dT; rw [if_neg (by omega)]
theorem dT_ne (d : Int) : dT d ≠ 0 := by unfold dT; split <;> decide
def treesG (D list : Int) : List Tree → Bool
  | [] => true
  | t :: r => rightT (.mk list [] [t]) D && treesG D list r
theorem treesG_64 (list : Int) : ∀ l : List Tree, treesG 64 list l = treesOk list l
  | [] => rfl
  | t :: r => by simp only [treesG, treesOk, treesG_64 list r]
mutual
def rightE : Edit → Int → Bool
  | .mk k o n w ks l os, d =>
    if d = 0 ∨ k < 0 ∨ 3 < k then false
    else if (k ≠ 1 ∧ ¬(noneT o = true ∧ noneT n = true)) ∨ (k ≠ 2 ∧ ¬(w.length = 0 ∧ ks.length = 0)) ∨ (k ≠ 3 ∧ (l ≠ 0 ∨ os.length ≠ 0)) then false
    else if k = 1 then rightT o (dT d) && rightT n (dT d) && decide (o.kind ≠ 10 ∧ n.kind ≠ 10)
    else wordsOk (-1) w && rightKs (-1) ks (d - 1) && decide (¬(k = 3 ∧ (l < 2 ∨ 9 < l))) && rightOs l os (d - 1) && decide (lenA os 0 < 1048576 ∧ lenB os 0 < 1048576)
def rightKs (last : Int) : List (KidOf Edit) → Int → Bool
  | [], _ => true
  | k :: r, d => rightKid last k d && rightKs k.at_ r d
def rightKid (last : Int) : KidOf Edit → Int → Bool
  | ⟨a, e⟩, d => decide (last < a ∧ a ≤ 65534 ∧ e.kind ≠ 0) && rightE e d
def rightOs (list : Int) : List (OpOf Edit) → Int → Bool
  | [], _ => true
  | o :: r, d => rightOp list o d && rightOs list r d
def rightOp (list : Int) : OpOf Edit → Int → Bool
  | ⟨k, n, l, e⟩, d =>
    if k = 0 then decide (1 ≤ n ∧ n ≤ 1048576 ∧ l.length = 0) && sameE e
    else if n ≠ 0 ∨ k < 0 ∨ 3 < k then false
    else if k < 3 then treesG (dT d) list l && decide (0 < l.length) && sameE e
    else decide (l.length = 0 ∧ e.kind ≠ 0 ∧ 7 < list) && rightE e d && decide (list = 8 ∨ e.kind = 2 ∨ e.kind = 1 ∧ e.old.kind = 1 ∧ e.new.kind = 1)
end
mutual
def ctE : Edit → Nat
  | .mk _ o n w ks _ os => 16 + mass o + mass n + 65600 * w.length + ctKs ks + ctOs os
def ctKs : List (KidOf Edit) → Nat
  | [] => 0
  | k :: r => ctKid k + ctKs r
def ctKid : KidOf Edit → Nat
  | ⟨_, e⟩ => 65600 + ctE e
def ctOs : List (OpOf Edit) → Nat
  | [] => 0
  | o :: r => ctOp o + ctOs r
def ctOp : OpOf Edit → Nat
  | ⟨_, _, l, e⟩ => 16 + massK l + ctE e
end
theorem ctE_at (e : Edit) : ctE e = 16 + mass e.old + mass e.new + 65600 * e.words.length + ctKs e.kids + ctOs e.ops := by cases e; rfl
theorem ctKid_at (k : Kid) : ctKid k = 65600 + ctE k.e := by cases k; rfl
theorem ctOp_at (o : Op) : ctOp o = 16 + massK o.l + ctE o.e := by cases o; rfl
theorem ctKs_mem : ∀ {ks : List Kid} {k : Kid}, k ∈ ks → ctE k.e + 65600 ≤ ctKs ks
  | a :: r, k, h => by
    rcases List.mem_cons.1 h with rfl | h
    · simp only [ctKs, ctKid_at]; omega
    · have := ctKs_mem h; simp only [ctKs]; omega
theorem ctOs_mem : ∀ {os : List Op} {o : Op}, o ∈ os → ctE o.e + massK o.l + 16 ≤ ctOs os
  | a :: r, o, h => by
    rcases List.mem_cons.1 h with rfl | h
    · simp only [ctOs, ctOp_at]; omega
    · have := ctOs_mem h; simp only [ctOs]; omega
mutual
theorem mass_ct : ∀ (e : Edit), massE e ≤ ctE e
  | .mk k o n w ks l os => by
    have h1 := mass_ctKs ks
    have h2 : os.length + massOs os ≤ ctOs os := mass_ctOs os
    simp only [massE, ctE]
    omega
theorem mass_ctKs : ∀ (ks : List (KidOf Edit)), massKs ks ≤ ctKs ks
  | [] => Nat.le_refl _
  | k :: r => by
    have h1 := mass_ctKid k
    have h2 := mass_ctKs r
    simp only [massKs, ctKs]
    omega
theorem mass_ctKid : ∀ (k : KidOf Edit), massKid k ≤ ctKid k
  | ⟨a, e⟩ => by
    have := mass_ct e
    simp only [massKid, ctKid]
    omega
theorem mass_ctOs : ∀ (os : List (OpOf Edit)), os.length + massOs os ≤ ctOs os
  | [] => Nat.le_refl _
  | o :: r => by
    have h1 := mass_ctOp o
    have h2 := mass_ctOs r
    simp only [massOs, ctOs, List.length_cons]
    omega
theorem mass_ctOp : ∀ (o : OpOf Edit), massOp o + 1 ≤ ctOp o
  | ⟨k, n, l, e⟩ => by
    have := mass_ct e
    simp only [massOp, ctOp]
    omega
end
mutual
def lightE : Edit → Bool
  | .mk _ _ _ _ ks _ os => decide (lenA os 0 ≤ 2000 ∧ lenB os 0 ≤ 2000) && lightKs ks && lightOs os
def lightKs : List (KidOf Edit) → Bool
  | [] => true
  | k :: r => lightKid k && lightKs r
def lightKid : KidOf Edit → Bool
  | ⟨_, e⟩ => lightE e
def lightOs : List (OpOf Edit) → Bool
  | [] => true
  | o :: r => lightOp o && lightOs r
def lightOp : OpOf Edit → Bool
  | ⟨_, _, _, e⟩ => lightE e
end
def good (e : Edit) : Bool := decide (0 ≤ leftE e 80 3000) && rightE e 64 && lightE e
end Go.AM
