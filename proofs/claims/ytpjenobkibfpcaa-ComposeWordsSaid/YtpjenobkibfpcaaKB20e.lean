import Derived.Test.YtpjenobkibfpcaaCL25c
import Derived.Test.YtpjenobkibfpcaaKP20
import Derived.Test.YtpjenobkibfpcaaKRB07
set_option linter.unusedSimpArgs false
set_option linter.unusedVariables false
namespace Go.AM.Ytpjenobkibfpcaa
open Go.AM Go.Proofs
section
variable {β : Type} {at_ : β → Int} {one : β → β → β × Bool}
structure MSpec (at_ : β → Int) (one : β → β → β × Bool) (last : Int) (p q L : List β) : Prop where
  asc_ : asc at_ last L
  of : ∀ x ∈ L, (x ∈ p ∧ ∀ b ∈ q, at_ b ≠ at_ x) ∨ (x ∈ q ∧ ∀ a ∈ p, at_ a ≠ at_ x) ∨ ∃ a ∈ p, ∃ b ∈ q, at_ a = at_ b ∧ (one a b).2 = true ∧ x = (one a b).1
  left : ∀ a ∈ p, (∀ b ∈ q, at_ b ≠ at_ a) → a ∈ L
  right : ∀ b ∈ q, (∀ a ∈ p, at_ a ≠ at_ b) → b ∈ L
  both : ∀ a ∈ p, ∀ b ∈ q, at_ a = at_ b → (one a b).2 = true ∧ (one a b).1 ∈ L
theorem merge_spec (hone : ∀ a b, at_ a = at_ b → (one a b).2 = true → at_ (one a b).1 = at_ a) : ∀ (k : Nat) (p q : List β) (last : Int), p.length + q.length ≤ k → asc at_ last p → asc at_ last q →
    (mergeF at_ one p q = none → ∃ a ∈ p, ∃ b ∈ q, at_ a = at_ b ∧ (one a b).2 = false) ∧ ∀ L, mergeF at_ one p q = some L → MSpec at_ one last p q L := by
  intro k
  induction k with
  | zero =>
    intro p q last hk hp hq
    have e1 : p = [] := List.eq_nil_of_length_eq_zero (by omega)
    have e2 : q = [] := List.eq_nil_of_length_eq_zero (by omega)
    subst e1 e2
    rw [mergeF]
    refine ⟨fun h => (by cases h), fun L h => ?_⟩
    cases h
    exact ⟨trivial, fun x hx => (by cases hx), fun a ha => (by cases ha), fun a ha => (by cases ha), fun a ha => (by cases ha)⟩
  | succ k ih =>
    intro p q last hk hp hq
    match p, q with
    | [], q =>
      rw [mergeF]
      refine ⟨fun h => (by cases h), fun L h => ?_⟩
      cases h
      exact ⟨hq, fun x hx => .inr (.inl ⟨hx, fun a ha => (by cases ha)⟩), fun a ha => (by cases ha), fun b hb _ => hb, fun a ha => (by cases ha)⟩
    | a :: p, [] =>
      rw [mergeF]
      refine ⟨fun h => (by cases h), fun L h => ?_⟩
      cases h
      exact ⟨hp, fun x hx => .inl ⟨hx, fun a ha => (by cases ha)⟩, fun b hb _ => hb, fun a ha => (by cases ha), fun a _ b hb => (by cases hb)⟩
    | a :: p, b :: q =>
      have gp := fun x hx => asc_gt hp.2 x hx
      have gq := fun x hx => asc_gt hq.2 x hx
      simp only [List.length_cons] at hk
      rw [mergeF]
      by_cases h1 : at_ a < at_ b
      · rw [if_pos h1]
        obtain ⟨i1, i2⟩ := ih p (b :: q) (at_ a) (by simp only [List.length_cons]; omega) hp.2 ⟨h1, hq.2⟩
        refine ⟨fun h => ?_, fun L h => ?_⟩
        · rw [Option.map_eq_none_iff] at h
          obtain ⟨x, hx, y, hy, e⟩ := i1 h
          exact ⟨x, List.mem_cons_of_mem _ hx, y, hy, e⟩
        · obtain ⟨L', hL, rfl⟩ := Option.map_eq_some_iff.1 h
          have S := i2 L' hL
          have na : ∀ y ∈ b :: q, at_ y ≠ at_ a := by
            intro y hy
            rcases List.mem_cons.1 hy with rfl | hy
            · omega
            · have := gq y hy; omega
          refine ⟨⟨hp.1, S.asc_⟩, fun x hx => ?_, fun x hx hn => ?_, fun y hy hn => ?_, fun x hx y hy e => ?_⟩
          · rcases List.mem_cons.1 hx with rfl | hx
            · exact .inl ⟨List.mem_cons_self, na⟩
            · rcases S.of x hx with ⟨h2, h3⟩ | ⟨h2, h3⟩ | ⟨c, hc, d, hd, h2⟩
              · exact .inl ⟨List.mem_cons_of_mem _ h2, h3⟩
              · refine .inr (.inl ⟨h2, fun c hc => ?_⟩)
                rcases List.mem_cons.1 hc with rfl | hc
                · exact (na x h2).symm
                · exact h3 c hc
              · exact .inr (.inr ⟨c, List.mem_cons_of_mem _ hc, d, hd, h2⟩)
          · rcases List.mem_cons.1 hx with rfl | hx
            · exact List.mem_cons_self
            · exact List.mem_cons_of_mem _ (S.left x hx hn)
          · exact List.mem_cons_of_mem _ (S.right y hy fun c hc => hn c (List.mem_cons_of_mem _ hc))
          · rcases List.mem_cons.1 hx with rfl | hx
            · exact absurd e.symm (na y hy)
            · obtain ⟨h2, h3⟩ := S.both x hx y hy e
              exact ⟨h2, List.mem_cons_of_mem _ h3⟩
      · rw [if_neg h1]
        by_cases h2 : at_ b < at_ a
        · rw [if_pos h2]
          obtain ⟨i1, i2⟩ := ih (a :: p) q (at_ b) (by simp only [List.length_cons]; omega) ⟨h2, hp.2⟩ hq.2
          refine ⟨fun h => ?_, fun L h => ?_⟩
          · rw [Option.map_eq_none_iff] at h
            obtain ⟨x, hx, y, hy, e⟩ := i1 h
            exact ⟨x, hx, y, List.mem_cons_of_mem _ hy, e⟩
          · obtain ⟨L', hL, rfl⟩ := Option.map_eq_some_iff.1 h
            have S := i2 L' hL
            have nb : ∀ y ∈ a :: p, at_ y ≠ at_ b := by
              intro y hy
              rcases List.mem_cons.1 hy with rfl | hy
              · omega
              · have := gp y hy; omega
            refine ⟨⟨hq.1, S.asc_⟩, fun x hx => ?_, fun x hx hn => ?_, fun y hy hn => ?_, fun x hx y hy e => ?_⟩
            · rcases List.mem_cons.1 hx with rfl | hx
              · exact .inr (.inl ⟨List.mem_cons_self, nb⟩)
              · rcases S.of x hx with ⟨h3, h4⟩ | ⟨h3, h4⟩ | ⟨c, hc, d, hd, h3⟩
                · refine .inl ⟨h3, fun c hc => ?_⟩
                  rcases List.mem_cons.1 hc with rfl | hc
                  · exact (nb x h3).symm
                  · exact h4 c hc
                · exact .inr (.inl ⟨List.mem_cons_of_mem _ h3, h4⟩)
                · exact .inr (.inr ⟨c, hc, d, List.mem_cons_of_mem _ hd, h3⟩)
            · exact List.mem_cons_of_mem _ (S.left x hx fun c hc => hn c (List.mem_cons_of_mem _ hc))
            · rcases List.mem_cons.1 hy with rfl | hy
              · exact List.mem_cons_self
              · exact List.mem_cons_of_mem _ (S.right y hy hn)
            · rcases List.mem_cons.1 hy with rfl | hy
              · exact absurd e (nb x hx)
              · obtain ⟨h3, h4⟩ := S.both x hx y hy e
                exact ⟨h3, List.mem_cons_of_mem _ h4⟩
        · rw [if_neg h2]
          have e0 : at_ a = at_ b := by omega
          by_cases h3 : (one a b).2 = true
          · rw [if_pos h3]
            obtain ⟨i1, i2⟩ := ih p q (at_ a) (by omega) hp.2 (by rw [e0]; exact hq.2)
            refine ⟨fun h => ?_, fun L h => ?_⟩
            · rw [Option.map_eq_none_iff] at h
              obtain ⟨x, hx, y, hy, e⟩ := i1 h
              exact ⟨x, List.mem_cons_of_mem _ hx, y, List.mem_cons_of_mem _ hy, e⟩
            · obtain ⟨L', hL, rfl⟩ := Option.map_eq_some_iff.1 h
              have S := i2 L' hL
              have hat := hone a b e0 h3
              have na : ∀ y ∈ q, at_ y ≠ at_ a := fun y hy => by have := gq y hy; omega
              have nb : ∀ y ∈ p, at_ y ≠ at_ b := fun y hy => by have := gp y hy; omega
              refine ⟨⟨by rw [hat]; exact hp.1, by rw [hat]; exact S.asc_⟩, fun x hx => ?_, fun x hx hn => ?_, fun y hy hn => ?_, fun x hx y hy e => ?_⟩
              · rcases List.mem_cons.1 hx with rfl | hx
                · exact .inr (.inr ⟨a, List.mem_cons_self, b, List.mem_cons_self, e0, h3, rfl⟩)
                · rcases S.of x hx with ⟨h4, h5⟩ | ⟨h4, h5⟩ | ⟨c, hc, d, hd, h4⟩
                  · refine .inl ⟨List.mem_cons_of_mem _ h4, fun c hc => ?_⟩
                    rcases List.mem_cons.1 hc with rfl | hc
                    · exact (nb x h4).symm
                    · exact h5 c hc
                  · refine .inr (.inl ⟨List.mem_cons_of_mem _ h4, fun c hc => ?_⟩)
                    rcases List.mem_cons.1 hc with rfl | hc
                    · exact (na x h4).symm
                    · exact h5 c hc
                  · exact .inr (.inr ⟨c, List.mem_cons_of_mem _ hc, d, List.mem_cons_of_mem _ hd, h4⟩)
              · rcases List.mem_cons.1 hx with rfl | hx
                · exact absurd e0.symm (hn b List.mem_cons_self)
                · exact List.mem_cons_of_mem _ (S.left x hx fun c hc => hn c (List.mem_cons_of_mem _ hc))
              · rcases List.mem_cons.1 hy with rfl | hy
                · exact absurd e0 (hn a List.mem_cons_self)
                · exact List.mem_cons_of_mem _ (S.right y hy fun c hc => hn c (List.mem_cons_of_mem _ hc))
              · rcases List.mem_cons.1 hx with rfl | hx
                · rcases List.mem_cons.1 hy with rfl | hy
                  · exact ⟨h3, List.mem_cons_self⟩
                  · exact absurd e.symm (na y hy)
                · rcases List.mem_cons.1 hy with rfl | hy
                  · exact absurd e (nb x hx)
                  · obtain ⟨h4, h5⟩ := S.both x hx y hy e
                    exact ⟨h4, List.mem_cons_of_mem _ h5⟩
          · rw [if_neg h3]
            refine ⟨fun _ => ⟨a, List.mem_cons_self, b, List.mem_cons_self, e0, by simpa using h3⟩, fun L h => by cases h⟩
variable {α : Type} {z : α} {F : β → α → Option α} {R : α → α → Prop}
end
end Go.AM.Ytpjenobkibfpcaa

namespace Go.AM.Ytpjenobkibfpcaa
open Go.AM Go.Proofs
theorem mask_bit (m : Int) (h0 : 0 ≤ m) (h1 : m < 256) (i : Nat) : named m (i : Int) = (BitVec.ofInt 8 m).toNat.testBit i := by
  obtain ⟨n, rfl⟩ := Int.eq_ofNat_of_zero_le h0
  have e : (BitVec.ofInt 8 ((n : Nat) : Int)).toNat = n := by simp; omega
  rw [e, Nat.testBit_eq_decide_div_mod_eq]
  unfold named
  rw [decide_eq_decide, Int.toNat_natCast]
  have : ((n : Int) / 2 ^ i % 2 : Int) = ((n / 2 ^ i % 2 : Nat) : Int) := by rw [Int.natCast_emod, Int.natCast_ediv, Int.natCast_pow]; rfl
  rw [this]; omega
theorem andM_in {a b : Int} (ha : 0 ≤ a ∧ a < 256) (hb : 0 ≤ b ∧ b < 256) : (0 ≤ andM a b ∧ andM a b < 256) ∧ ∀ i : Nat, named (andM a b) (i : Int) = (named a (i : Int) && named b (i : Int)) := by
  have hlt : (BitVec.ofInt 8 a &&& BitVec.ofInt 8 b).toNat < 256 := (BitVec.ofInt 8 a &&& BitVec.ofInt 8 b).isLt
  have e : andM a b = ((BitVec.ofInt 8 a &&& BitVec.ofInt 8 b).toNat : Int) := by
    show IntKind.wrap .u8 ((BitVec.ofInt 8 a &&& BitVec.ofInt 8 b).toNat : Int) = _
    exact wrap_u8 (by omega) (by omega)
  refine ⟨by rw [e]; omega, fun i => ?_⟩
  rw [mask_bit _ (by rw [e]; omega) (by rw [e]; omega), e, mask_bit a ha.1 ha.2, mask_bit b hb.1 hb.2]
  have : (BitVec.ofInt 8 (((BitVec.ofInt 8 a &&& BitVec.ofInt 8 b).toNat : Nat) : Int)).toNat = (BitVec.ofInt 8 a &&& BitVec.ofInt 8 b).toNat := by
    generalize (BitVec.ofInt 8 a &&& BitVec.ofInt 8 b).toNat = k at hlt ⊢
    simp
    omega
  rw [this, BitVec.toNat_and, Nat.testBit_and]
theorem orM_in {a b : Int} (ha : 0 ≤ a ∧ a < 256) (hb : 0 ≤ b ∧ b < 256) : (0 ≤ orM a b ∧ orM a b < 256) ∧ ∀ i : Nat, named (orM a b) (i : Int) = (named a (i : Int) || named b (i : Int)) := by
  have hlt : (BitVec.ofInt 8 a ||| BitVec.ofInt 8 b).toNat < 256 := (BitVec.ofInt 8 a ||| BitVec.ofInt 8 b).isLt
  have e : orM a b = ((BitVec.ofInt 8 a ||| BitVec.ofInt 8 b).toNat : Int) := by
    show IntKind.wrap .u8 ((BitVec.ofInt 8 a ||| BitVec.ofInt 8 b).toNat : Int) = _
    exact wrap_u8 (by omega) (by omega)
  refine ⟨by rw [e]; omega, fun i => ?_⟩
  rw [mask_bit _ (by rw [e]; omega) (by rw [e]; omega), e, mask_bit a ha.1 ha.2, mask_bit b hb.1 hb.2]
  have : (BitVec.ofInt 8 (((BitVec.ofInt 8 a ||| BitVec.ofInt 8 b).toNat : Nat) : Int)).toNat = (BitVec.ofInt 8 a ||| BitVec.ofInt 8 b).toNat := by
    generalize (BitVec.ofInt 8 a ||| BitVec.ofInt 8 b).toNat = k at hlt ⊢
    simp
    omega
  rw [this, BitVec.toNat_or, Nat.testBit_or]
theorem byte0 (i : Nat) : byteAt 0 i = 0 := by unfold byteAt; simp
theorem within_byte {w m : Int} (h : withinW w m = true) {i : Nat} (hi : i < 8) (hn : named m i = false) : byteAt w i = 0 := by
  have h : mix w 0 m = 0 := of_decide_eq_true h
  have e := congrArg (fun x => byteAt x i) h
  simp only [mix_byte hi, mixAt, hn, byte0] at e
  simpa using e
theorem mix_at {a b m : Int} {i : Nat} (hi : i < 8) : byteAt (mix a b m) i = if named m i = true then byteAt b i else byteAt a i := by rw [mix_byte hi]; rfl
theorem comW_at (a b : WEdit) (h : (comW a b).2 = true) : (comW a b).1.at_ = a.at_ := by
  unfold comW at h ⊢
  split
  · rfl
  · rename_i hn; rw [if_neg hn] at h; cases h
theorem rightE_ops {e : Edit} {d : Int} (h : rightE e d = true) : ∀ o ∈ e.ops, opOk o := opOk_right (rightE_all h).ops
theorem comStep_congr {f g : Edit → Edit → Edit × Bool} {p q : Edit} {d d' : Int} (hp : rightE p d = true) (hq : rightE q d' = true)
    (h : ∀ a b, massE a + massE b < massE p + massE q → (∃ d, rightE a d = true) → (∃ d, rightE b d = true) → f a b = g a b) : comStep f p q = comStep g p q := by
  have rp := rightE_all hp
  have rq := rightE_all hq
  have hk : mergeF KidOf.at_ (comK f) p.kids q.kids = mergeF KidOf.at_ (comK g) p.kids q.kids := by
    have key : ∀ (k : Nat) (a b : List Kid), a.length + b.length ≤ k → (∀ x ∈ a, x ∈ p.kids) → (∀ x ∈ b, x ∈ q.kids) → mergeF KidOf.at_ (comK f) a b = mergeF KidOf.at_ (comK g) a b := by
      intro k
      induction k with
      | zero =>
        intro a b hn _ _
        have e1 : a = [] := List.eq_nil_of_length_eq_zero (by omega)
        subst e1
        rw [mergeF, mergeF]
      | succ k ihk =>
        intro a b hn ha hb
        match a, b with
        | [], b => rw [mergeF, mergeF]
        | x :: a, [] => rw [mergeF, mergeF]
        | x :: a, y :: b =>
          simp only [List.length_cons] at hn
          have hx := massE_kid (ha x List.mem_cons_self)
          have hy := massE_kid (hb y List.mem_cons_self)
          have e : comK f x y = comK g x y := by
            unfold comK
            rw [h x.e y.e (by omega) ⟨_, (rightKs_all rp.kids x (ha x List.mem_cons_self)).2⟩ ⟨_, (rightKs_all rq.kids y (hb y List.mem_cons_self)).2⟩]
          rw [mergeF, mergeF, e, ihk a (y :: b) (by simp only [List.length_cons]; omega) (fun z hz => ha z (List.mem_cons_of_mem _ hz)) hb, ihk (x :: a) b (by simp only [List.length_cons]; omega) ha (fun z hz => hb z (List.mem_cons_of_mem _ hz)),
            ihk a b (by omega) (fun z hz => ha z (List.mem_cons_of_mem _ hz)) (fun z hz => hb z (List.mem_cons_of_mem _ hz))]
    exact key _ _ _ (Nat.le_refl _) (fun x hx => hx) (fun x hx => hx)
  have ho : comOs f p.ops q.ops = comOs g p.ops q.ops := by
    unfold comOs
    obtain ⟨i1, _⟩ := pair_run _ p.ops q.ops [] (Nat.le_refl _) (rightE_ops hp) (rightE_ops hq)
    by_cases hb : (pairG 1 2 p.ops q.ops []).2.1 = true
    · rw [if_pos hb, if_pos hb]
      obtain ⟨ps, e, hps, hA, hB⟩ := i1 hb
      rw [e, List.nil_append]
      clear e i1 hb hA hB
      induction ps with
      | nil => rfl
      | cons x r ihr =>
        have hx := hps x List.mem_cons_self
        have e : comP f x = comP g x := by
          unfold comP
          by_cases h1 : x.of = 1 ∨ (x.of = 0 ∧ x.q.kind = 0)
          · rw [if_pos h1, if_pos h1]
          rw [if_neg h1, if_neg h1]
          by_cases h2 : x.of = 2 ∨ x.p.kind = 0
          · rw [if_pos h2, if_pos h2]
          rw [if_neg h2, if_neg h2]
          by_cases h3 : x.p.kind = 2 ∧ x.q.kind = 1
          · rw [if_pos h3, if_pos h3]
          rw [if_neg h3, if_neg h3]
          by_cases h4 : x.p.kind = 2
          · rw [if_pos h4, if_pos h4]
          rw [if_neg h4, if_neg h4]
          by_cases h5 : x.q.kind = 1
          · rw [if_pos h5, if_pos h5]
          rw [if_neg h5, if_neg h5]
          have h0 : x.of = 0 := by rcases hx.of with h | h | h <;> omega
          obtain ⟨hpk, hqk, hl⟩ := hx.both h0
          obtain ⟨⟨o1, m1, k1, e1, _⟩, op⟩ := hx.pp (by omega)
          obtain ⟨⟨o2, m2, k2, e2, _⟩, oq⟩ := hx.qq (by omega)
          have kp3 : x.p.kind = 3 := by rcases opOk_k op with h | h | h | h <;> omega
          have kq3 : x.q.kind = 3 := by rcases opOk_k oq with h | h | h | h <;> omega
          have := massE_op m1
          have := massE_op m2
          have r1 := right_desc (rightOs_mem rp.ops m1) (by omega)
          have r2 := right_desc (rightOs_mem rq.ops m2) (by omega)
          rw [e1, e2, h o1.e o2.e (by omega) ⟨_, r1⟩ ⟨_, r2⟩]
        rw [comPs, comPs, e, ihr fun y hy => hps y (List.mem_cons_of_mem _ hy)]
    · rw [if_neg hb, if_neg hb]
  unfold comStep
  rw [hk, ho]
theorem comF_more : ∀ (n m : Nat) (p q : Edit) (d d' : Int), rightE p d = true → rightE q d' = true → massE p + massE q ≤ n → n ≤ m → comF m p q = comF n p q := by
  intro n
  induction n with
  | zero => intro m p q d d' _ _ h; obtain ⟨k, o, nw, w, ks, l, os⟩ := p; simp only [massE] at h; omega
  | succ n ih =>
    intro m p q d d' hp hq h hm
    obtain ⟨m, rfl⟩ : ∃ k, m = k + 1 := ⟨m - 1, by omega⟩
    show comStep (comF m) p q = comStep (comF n) p q
    exact comStep_congr hp hq fun a b hab ⟨d1, h1⟩ ⟨d2, h2⟩ => ih m a b d1 d2 h1 h2 (by omega) (by omega)
theorem comE_step {p q : Edit} {d d' : Int} (hp : rightE p d = true) (hq : rightE q d' = true) : comE p q = comStep comE p q := by
  have e : comE p q = comF (massE p + massE q + 1) p q := (comF_more _ _ p q d d' hp hq (Nat.le_refl _) (by omega)).symm
  rw [e]
  show comStep (comF (massE p + massE q)) p q = comStep comE p q
  exact comStep_congr hp hq fun a b hab ⟨d1, h1⟩ ⟨d2, h2⟩ => comF_more _ _ a b d1 d2 h1 h2 (Nat.le_refl _) (by omega)
end Go.AM.Ytpjenobkibfpcaa

namespace Go.AM.Ytpjenobkibfpcaa
open Go.AM Go.Proofs
theorem rngE_parts {e : Edit} (h : rngE e) : rng e.old ∧ rng e.new ∧ (∀ x ∈ e.words, rngW x) ∧ rngKs e.kids ∧ rngOs e.ops := by
  obtain ⟨k, o, n, w, ks, l, os⟩ := e
  exact ⟨h.2.1, h.2.2.1, h.2.2.2.1, h.2.2.2.2.2.1, h.2.2.2.2.2.2⟩
end Go.AM.Ytpjenobkibfpcaa

namespace Go.AM.Ytpjenobkibfpcaa
open Go.AM Go.Proofs
structure Alike (c r : Edit × Bool) : Prop where
  ok : c.2 = r.2
  nrm : c.2 = true → nrmE c.1 = nrmE r.1
end Go.AM.Ytpjenobkibfpcaa

namespace Go.AM.Ytpjenobkibfpcaa
open Go.AM Go.Proofs
section
variable {g : Edit → Edit → Edit × Bool}
end
theorem nrmE_3 (l : Int) (os : List Op) : nrmE (.mk 3 Tree.nil Tree.nil [] [] l os) = .mk 3 Tree.nil Tree.nil [] [] l (flushW (nrmOs l os ⟨[], [], []⟩)).out := by rw [nrmE, if_neg (by decide), if_neg (by decide), if_pos rfl]
end Go.AM.Ytpjenobkibfpcaa

namespace Go.AM.Ytpjenobkibfpcaa
open Go.AM Go.Proofs
theorem ctE_18 (e : Edit) : 18 ≤ ctE e := by
  have := ctE_at e
  have := mass_pos e.old
  have := mass_pos e.new
  omega
theorem ctE_mk1 (o n : Tree) : ctE (.mk 1 o n [] [] 0 []) = 16 + mass o + mass n := by simp [ctE, ctKs, ctOs]
mutual
theorem ct_turn : ∀ (e : Edit), ctE (turnE e) = ctE e
  | .mk k o n w ks l os => by
    have h1 := ct_turnKs ks
    have h2 := ct_turnOs os
    simp only [turnE, ctE, List.length_map]
    omega
theorem ct_turnKs : ∀ (ks : List (KidOf Edit)), ctKs (turnKs ks) = ctKs ks
  | [] => rfl
  | k :: r => by
    have h1 := ct_turnKid k
    have h2 := ct_turnKs r
    simp only [turnKs, ctKs]
    omega
theorem ct_turnKid : ∀ (k : KidOf Edit), ctKid (turnKid k) = ctKid k
  | ⟨a, e⟩ => by
    have := ct_turn e
    simp only [turnKid, ctKid]
    omega
theorem ct_turnOs : ∀ (os : List (OpOf Edit)), ctOs (turnOs os) = ctOs os
  | [] => rfl
  | o :: r => by
    have h1 := ct_turnOp o
    have h2 := ct_turnOs r
    simp only [turnOs, ctOs]
    omega
theorem ct_turnOp : ∀ (o : OpOf Edit), ctOp (turnOp o) = ctOp o
  | ⟨k, n, l, e⟩ => by
    have := ct_turn e
    rw [turnOp_at]
    dsimp only
    split
    · rfl
    · split
      · rfl
      · split
        · simp only [ctOp]; omega
        · rfl
end
theorem ctOs_app : ∀ (a b : List Op), ctOs (a ++ b) = ctOs a + ctOs b
  | [], b => by simp [ctOs]
  | o :: r, b => by simp only [List.cons_append, ctOs, ctOs_app r b]; omega
def ctW (w : Wst) : Nat := ctOs w.out + (massK w.gone + if w.gone.length = 0 then 0 else 34) + (massK w.brought + if w.brought.length = 0 then 0 else 34)
theorem ct_nil : ctE Edit.nil = 18 := rfl
theorem ct_flush (w : Wst) : ctOs (flushW w).out = ctW w := by
  simp only [flushW, flushO, ctW, ctOs_app]
  by_cases h1 : w.gone.length = 0
  · rw [if_pos h1, if_pos h1, List.eq_nil_of_length_eq_zero h1]
    by_cases h2 : w.brought.length = 0
    · rw [if_pos h2, if_pos h2, List.eq_nil_of_length_eq_zero h2]; simp [ctOs, massK]
    · rw [if_neg h2, if_neg h2]; simp only [ctOs, ctOp, ct_nil, massK]; omega
  · rw [if_neg h1, if_neg h1]
    by_cases h2 : w.brought.length = 0
    · rw [if_pos h2, if_pos h2, List.eq_nil_of_length_eq_zero h2]; simp only [ctOs, ctOp, ct_nil, massK]; omega
    · rw [if_neg h2, if_neg h2]; simp only [ctOs, ctOp, ct_nil]; omega
theorem ct_keep (w : Wst) (n : Int) : ctW (keepW w n) ≤ ctW w + 34 := by
  have h := ct_flush w
  have e : ctW (keepW w n) = ctOs (keepO (flushW w).out n) := by simp [keepW, ctW, massK]
  rw [e, ← h]
  rcases keepO_cases (flushW w).out n with e | ⟨a, q, e1, _, e3⟩
  · rw [e, ctOs_app]; simp only [ctOs, ctOp, ct_nil, massK]; omega
  · rw [e3, e1, ctOs_app, ctOs_app]; simp only [ctOs, ctOp, ctOp_at]; omega
mutual
theorem ct_nrm : ∀ (e : Edit), ctE (nrmE e) ≤ ctE e
  | .mk k o n w ks l os => by
    have h1 := ct_nrmKs ks
    have h2 := ct_nrmOs l os ⟨[], [], []⟩
    have h3 := normT_mass o
    have h4 := normT_mass n
    have := mass_pos o
    have := mass_pos n
    have hf := ct_flush (nrmOs l os ⟨[], [], []⟩)
    have hz : ctW ⟨[], [], []⟩ = 0 := rfl
    rw [nrmE]
    split
    · simp only [ctE, ctKs, ctOs, List.length_nil]; omega
    · split
      · simp only [ctE, ctOs, mass_nilT]; omega
      · split
        · simp only [ctE, ctKs, mass_nilT, List.length_nil]; omega
        · simp only [ctE, ctKs, ctOs, mass_nilT, List.length_nil]; omega
theorem ct_nrmKs : ∀ (ks : List (KidOf Edit)), ctKs (nrmKs ks) ≤ ctKs ks
  | [] => Nat.le_refl _
  | k :: r => by
    have h1 := ct_nrmKid k
    have h2 := ct_nrmKs r
    simp only [nrmKs, ctKs]
    omega
theorem ct_nrmKid : ∀ (k : KidOf Edit), ctKid (nrmKid k) ≤ ctKid k
  | ⟨a, e⟩ => by
    have := ct_nrm e
    simp only [nrmKid, ctKid]
    omega
theorem ct_nrmOs (list : Int) : ∀ (os : List (OpOf Edit)) (w : Wst), ctW (nrmOs list os w) ≤ ctW w + ctOs os
  | [], w => Nat.le_refl _
  | o :: r, w => by
    have h1 := ct_nrmOp list o w
    have h2 := ct_nrmOs list r (nrmOp list o w)
    simp only [nrmOs, ctOs]
    omega
theorem ct_nrmOp (list : Int) : ∀ (o : OpOf Edit) (w : Wst), ctW (nrmOp list o w) ≤ ctW w + ctOp o
  | ⟨k, n, l, e⟩, w => by
    have he := ct_nrm e
    have h18 := ctE_18 e
    have hl := massK_norms l
    have hc := fun a b => massK_cat a b
    rw [nrmOp]
    simp only [ctOp]
    split
    · have := ct_keep w n; omega
    · split
      · have := massK_cat w.gone (normsT l)
        simp only [ctW]
        split <;> split <;> omega
      · split
        · have := massK_cat w.brought (normsT l)
          simp only [ctW]
          split <;> split <;> split <;> omega
        · split
          · split
            · have := ct_keep w 1; omega
            · have hf := ct_flush w
              show ctOs ((flushW w).out ++ [⟨3, 0, [], nrmE e⟩]) + _ + _ ≤ _
              rw [ctOs_app, hf]
              simp only [ctOs, ctOp, massK, List.length_nil, if_pos]
              omega
          · omega
end
def sumF (φ : Op → Int) : List Op → Int
  | [] => 0
  | o :: r => φ o + sumF φ r
def Adds (φ : Op → Int) : Prop := ∀ o n, opOk o → 1 ≤ n → ¬opLen o ≤ n → φ (takeF o n) + φ (backF o n) = φ o
theorem take_sum {φ : Op → Int} (hφ : Adds φ) {p : List Op} {n : Int} (hp : ∀ o ∈ p, opOk o) (hl : p.length ≠ 0) (h1 : 1 ≤ n) : φ (takeF (p.getD 0 Op.nil) n) + sumF φ (takeR p n) = sumF φ p ∧ ∀ o ∈ takeR p n, opOk o := by
  cases p with
  | nil => exact absurd rfl hl
  | cons o r =>
    have ho := hp o List.mem_cons_self
    unfold takeR
    simp only [List.getD_cons_zero, List.drop_succ_cons, List.drop_zero]
    by_cases h : opLen o ≤ n
    · rw [if_pos h]
      have e : takeF o n = o := by unfold takeF; rw [if_pos h]
      rw [e]
      exact ⟨rfl, fun x hx => hp x (List.mem_cons_of_mem _ hx)⟩
    · rw [if_neg h]
      refine ⟨by simp only [sumF]; have := hφ o n ho h1 h; omega, fun x hx => ?_⟩
      rcases List.mem_cons.1 hx with rfl | hx
      · exact (backF_ok ho h1 h).1
      · exact hp x (List.mem_cons_of_mem _ hx)
theorem pair_sum {φ ψ : Op → Int} (hφ : Adds φ) (hψ : Adds ψ) (a : Int) : ∀ (k : Nat) (p q : List Op) (out : List Piece), p.length + q.length ≤ k → (∀ o ∈ p, opOk o) → (∀ o ∈ q, opOk o) → (pairG a 2 p q out).2.1 = true →
    ∃ ps, (pairG a 2 p q out).1 = out ++ ps ∧ sumF φ (sideP ps) = sumF φ p ∧ sumF ψ (sideQ ps) = sumF ψ q ∧ ps.length ≤ p.length + q.length := by
  intro k
  induction k with
  | zero =>
    intro p q out hk hp hq h
    have e1 : p = [] := List.eq_nil_of_length_eq_zero (by omega)
    have e2 : q = [] := List.eq_nil_of_length_eq_zero (by omega)
    subst e1 e2
    rw [pairG, dif_neg (by simp [sgl]), dif_neg (by simp [sgl]), dif_pos (by simp)]
    exact ⟨[], by simp, rfl, rfl, by simp⟩
  | succ k ih =>
    intro p q out hk hp hq h
    rw [pairG] at h ⊢
    by_cases h1 : sgl a p = true
    · rw [dif_pos h1] at h ⊢
      obtain ⟨g1, _⟩ := sgl_iff.1 h1
      cases p with
      | nil => exact absurd rfl g1
      | cons o r =>
        simp only [List.getD_cons_zero, List.drop_succ_cons, List.drop_zero] at h ⊢
        obtain ⟨ps, e, f1, f2, f3⟩ := ih r q _ (by simp only [List.length_cons] at hk; omega) (fun x hx => hp x (List.mem_cons_of_mem _ hx)) hq h
        refine ⟨⟨1, o, Op.nil⟩ :: ps, by rw [e, List.append_assoc]; rfl, ?_, ?_, by simp only [List.length_cons]; omega⟩
        · show sumF φ (o :: sideP ps) = _
          simp only [sumF]; omega
        · exact f2
    · rw [dif_neg h1] at h ⊢
      by_cases h2 : sgl 2 q = true
      · rw [dif_pos h2] at h ⊢
        obtain ⟨g1, _⟩ := sgl_iff.1 h2
        cases q with
        | nil => exact absurd rfl g1
        | cons o r =>
          simp only [List.getD_cons_zero, List.drop_succ_cons, List.drop_zero] at h ⊢
          obtain ⟨ps, e, f1, f2, f3⟩ := ih p r _ (by simp only [List.length_cons] at hk; omega) hp (fun x hx => hq x (List.mem_cons_of_mem _ hx)) h
          refine ⟨⟨2, Op.nil, o⟩ :: ps, by rw [e, List.append_assoc]; rfl, f1, ?_, by simp only [List.length_cons]; omega⟩
          show sumF ψ (o :: sideQ ps) = _
          simp only [sumF]; omega
      · rw [dif_neg h2] at h ⊢
        by_cases h3 : p.length = 0 ∨ q.length = 0
        · rw [dif_pos h3] at h ⊢
          by_cases h4 : decide (p.length = 0) = decide (q.length = 0)
          · rw [if_pos h4]
            have h5 : p.length = 0 ∧ q.length = 0 := by
              have := decide_eq_decide.1 h4
              omega
            rw [List.eq_nil_of_length_eq_zero h5.1, List.eq_nil_of_length_eq_zero h5.2]
            exact ⟨[], by simp, rfl, rfl, by simp⟩
          · rw [if_neg h4] at h; cases h
        · rw [dif_neg h3] at h ⊢
          have l1 : p.length ≠ 0 := by omega
          have l2 : q.length ≠ 0 := by omega
          have p1 := opLen_pos (hp _ (mem_getD (l := p) (i := 0) (by omega) Op.nil))
          have p2 := opLen_pos (hq _ (mem_getD (l := q) (i := 0) (by omega) Op.nil))
          generalize hn : min (opLen (p.getD 0 Op.nil)) (opLen (q.getD 0 Op.nil)) = n at h ⊢
          obtain ⟨s1, s2⟩ := take_sum hφ hp l1 (n := n) (by omega)
          obtain ⟨t1, t2⟩ := take_sum hψ hq l2 (n := n) (by omega)
          have c1 := takeR_len_le p n l1
          have c2 := takeR_len_le q n l2
          have c3 : opLen (p.getD 0 Op.nil) ≤ n → (takeR p n).length < p.length := fun h => takeR_len_lt p _ l1 h
          have c4 : opLen (q.getD 0 Op.nil) ≤ n → (takeR q n).length < q.length := fun h => takeR_len_lt q _ l2 h
          obtain ⟨ps, e, f1, f2, f3⟩ := ih (takeR p n) (takeR q n) _ (by omega) s2 t2 h
          refine ⟨⟨0, takeF (p.getD 0 Op.nil) n, takeF (q.getD 0 Op.nil) n⟩ :: ps, by rw [e, List.append_assoc]; rfl, ?_, ?_, by simp only [List.length_cons]; omega⟩
          · show sumF φ (takeF (p.getD 0 Op.nil) n :: sideP ps) = _
            simp only [sumF]; omega
          · show sumF ψ (takeF (q.getD 0 Op.nil) n :: sideQ ps) = _
            simp only [sumF]; omega
def φA (o : Op) : Int := if o.kind = 2 then 0 else opLen o
def φB (o : Op) : Int := if o.kind = 1 then 0 else opLen o
def φC (o : Op) : Int := massK o.l + ctE o.e - 18
theorem sumF_A : ∀ l, sumF φA l = sumA l
  | [] => rfl
  | o :: r => by simp only [sumF, sumA, φA, sumF_A r]
theorem sumF_B : ∀ l, sumF φB l = sumB l
  | [] => rfl
  | o :: r => by simp only [sumF, sumB, φB, sumF_B r]
theorem sumF_C : ∀ l, sumF φC l + 34 * l.length = ctOs l
  | [] => rfl
  | o :: r => by
    have := sumF_C r
    simp only [sumF, ctOs, φC, ctOp_at, List.length_cons]
    omega
theorem backF_kind (o : Op) (n : Int) : (backF o n).kind = o.kind := by unfold backF; split <;> rfl
theorem back_len {o : Op} {n : Int} (ho : opOk o) (h1 : 1 ≤ n) (hn : ¬opLen o ≤ n) : opLen (backF o n) = opLen o - n := by
  obtain ⟨_, _, v3, _⟩ := vs_split (a := 1) ho h1 hn
  have hl := opLen_eq o
  rcases ho with ⟨k0, k1, k2, k3⟩ | ⟨k0, k1, k2, k3⟩ | ⟨k0, k1, k2⟩
  · unfold backF
    rw [if_pos k0, opLen_eq]
    dsimp only
    rw [if_neg (by omega)] at hl ⊢
    omega
  · unfold backF
    rw [if_neg (by omega), opLen_eq]
    dsimp only
    rw [if_neg (by omega)] at hl ⊢
    rw [List.length_drop]
    omega
  · rw [if_pos k0] at hl
    omega
theorem addsA : Adds φA := by
  intro o n ho h1 hn
  obtain ⟨_, _, v3, _⟩ := vs_split (a := 1) ho h1 hn
  have := back_len ho h1 hn
  unfold φA
  rw [takeF_kind, backF_kind, v3, this]
  split <;> omega
theorem addsB : Adds φB := by
  intro o n ho h1 hn
  obtain ⟨_, _, v3, _⟩ := vs_split (a := 1) ho h1 hn
  have := back_len ho h1 hn
  unfold φB
  rw [takeF_kind, backF_kind, v3, this]
  split <;> omega
theorem addsC : Adds φC := by
  intro o n ho h1 hn
  have hl := opLen_eq o
  unfold φC takeF backF
  rw [if_neg hn]
  rcases ho with ⟨k0, k1, k2, k3⟩ | ⟨k0, k1, k2, k3⟩ | ⟨k0, k1, k2⟩
  · rw [if_pos k0, if_pos k0]
    dsimp only
    rw [k3, k1, ct_nil]
    simp [massK]
  · rw [if_neg (by omega), if_neg (by omega)]
    dsimp only
    have := massK_cat (o.l.take n.toNat) (o.l.drop n.toNat)
    rw [List.take_append_drop] at this
    rw [k3, ct_nil]
    omega
  · rw [if_pos k0] at hl
    omega
end Go.AM.Ytpjenobkibfpcaa

namespace Go.AM.Ytpjenobkibfpcaa
open Go.AM Go.Proofs
theorem treesG_neg {D list : Int} : ∀ {l : List Tree}, treesG D list l = true → treesG (-1) list l = true
  | [], _ => rfl
  | t :: r, h => by
    simp only [treesG, Bool.and_eq_true] at h ⊢
    exact ⟨right_neg _ _ _ (by decide) h.1, treesG_neg h.2⟩
mutual
theorem rightE_neg : ∀ (e : Edit) (d m : Int), m < 0 → rightE e d = true → rightE e m = true
  | .mk k o n w ks l os, d, m, hm, h => by
    have h1 := rightKs_neg ks
    have h2 := rightOs_neg l os
    rw [rightE] at h ⊢
    split at h
    · cases h
    · rename_i a
      rw [if_neg (by omega)]
      split at h
      · cases h
      · rename_i b
        rw [if_neg b]
        split at h
        · rename_i c
          rw [if_pos c, dT_neg hm]
          simp only [Bool.and_eq_true] at h ⊢
          exact ⟨⟨right_neg _ _ _ (by decide) h.1.1, right_neg _ _ _ (by decide) h.1.2⟩, h.2⟩
        · rename_i c
          rw [if_neg c]
          simp only [Bool.and_eq_true] at h ⊢
          exact ⟨⟨⟨⟨h.1.1.1.1, h1 _ _ (m - 1) (by omega) h.1.1.1.2⟩, h.1.1.2⟩, h2 _ (m - 1) (by omega) h.1.2⟩, h.2⟩
theorem rightKs_neg : ∀ (ks : List (KidOf Edit)) (last d m : Int), m < 0 → rightKs last ks d = true → rightKs last ks m = true
  | [], _, _, _, _, _ => rfl
  | k :: r, last, d, m, hm, h => by
    simp only [rightKs, Bool.and_eq_true] at h ⊢
    exact ⟨rightKid_neg k last d m hm h.1, rightKs_neg r k.at_ d m hm h.2⟩
theorem rightKid_neg : ∀ (k : KidOf Edit) (last d m : Int), m < 0 → rightKid last k d = true → rightKid last k m = true
  | ⟨a, e⟩, last, d, m, hm, h => by
    simp only [rightKid, Bool.and_eq_true] at h ⊢
    exact ⟨h.1, rightE_neg e d m hm h.2⟩
theorem rightOs_neg (list : Int) : ∀ (os : List (OpOf Edit)) (d m : Int), m < 0 → rightOs list os d = true → rightOs list os m = true
  | [], _, _, _, _ => rfl
  | o :: r, d, m, hm, h => by
    simp only [rightOs, Bool.and_eq_true] at h ⊢
    exact ⟨rightOp_neg list o d m hm h.1, rightOs_neg list r d m hm h.2⟩
theorem rightOp_neg (list : Int) : ∀ (o : OpOf Edit) (d m : Int), m < 0 → rightOp list o d = true → rightOp list o m = true
  | ⟨k, n, l, e⟩, d, m, hm, h => by
    have he := rightE_neg e d m hm
    rw [rightOp] at h ⊢
    split at h
    · rename_i h0; rw [if_pos h0]; exact h
    · rename_i h0
      rw [if_neg h0]
      split at h
      · cases h
      · rename_i h1
        rw [if_neg h1]
        split at h
        · rename_i h2
          rw [if_pos h2, dT_neg hm]
          simp only [Bool.and_eq_true] at h ⊢
          exact ⟨⟨treesG_neg h.1.1, h.1.2⟩, h.2⟩
        · rename_i h2
          rw [if_neg h2]
          simp only [Bool.and_eq_true] at h ⊢
          exact ⟨⟨h.1.1, he h.1.2⟩, h.2⟩
end
structure Wk (e : Edit) : Prop where
  r : rightE e (-1) = true
  g : rngE e
theorem Wk.of {e : Edit} {d : Int} (h : rightE e d = true) (g : rngE e) : Wk e := ⟨rightE_neg e d _ (by decide) h, g⟩
theorem isI_n {n : Int} (h0 : 0 ≤ n) (h9 : n ≤ 9) : isI n := by unfold isI; omega
theorem right_mk1 {o n : Tree} (h1 : rightT o (-1) = true) (h2 : rightT n (-1) = true) (h3 : o.kind ≠ 10) (h4 : n.kind ≠ 10) : rightE (.mk 1 o n [] [] 0 []) (-1) = true := by
  rw [rightE, if_neg (by decide), if_neg (by simp), if_pos rfl, dT_neg (by decide), h1, h2]
  simpa using ⟨h3, h4⟩
theorem right_mk2 {w : List WEdit} {ks : List Kid} (h1 : wordsOk (-1) w = true) (h2 : rightKs (-1) ks (-2) = true) : rightE (.mk 2 Tree.nil Tree.nil w ks 0 []) (-1) = true := by
  rw [rightE, if_neg (by decide), if_neg (by simp [noneT, Tree.nil]), if_neg (by decide), h1, show (-1 : Int) - 1 = -2 from rfl, h2]
  simp [rightOs, lenA, lenB]
theorem right_mk3 {l : Int} {os : List Op} (hl : 2 ≤ l ∧ l ≤ 9) (h : rightOs l os (-2) = true) (h1 : lenA os 0 < 1048576) (h2 : lenB os 0 < 1048576) : rightE (.mk 3 Tree.nil Tree.nil [] [] l os) (-1) = true := by
  rw [rightE, if_neg (by decide), if_neg (by simp [noneT, Tree.nil]), if_neg (by decide), show (-1 : Int) - 1 = -2 from rfl, h]
  simp only [wordsOk, rightKs, Bool.true_and, Bool.and_true, Bool.and_eq_true, decide_eq_true_eq]
  exact ⟨by omega, h1, h2⟩
theorem wordsOk_of : ∀ {l : List WEdit} {last : Int}, asc WEdit.at_ last l → (∀ w ∈ l, w.at_ ≤ 65534 ∧ w.mask ≠ 0 ∧ withinW w.old w.mask = true ∧ withinW w.new w.mask = true) → wordsOk last l = true
  | [], _, _, _ => rfl
  | a :: r, last, h, hw => by
    obtain ⟨h1, h2, h3, h4⟩ := hw a List.mem_cons_self
    simp only [wordsOk, Bool.and_eq_true, decide_eq_true_eq]
    exact ⟨⟨⟨⟨h.1, h1, h2⟩, h3⟩, h4⟩, wordsOk_of h.2 fun w hw' => hw w (List.mem_cons_of_mem _ hw')⟩
theorem rightKs_of {d : Int} : ∀ {l : List Kid} {last : Int}, asc KidOf.at_ last l → (∀ k ∈ l, k.at_ ≤ 65534 ∧ k.e.kind ≠ 0 ∧ rightE k.e d = true) → rightKs last l d = true
  | [], _, _, _ => rfl
  | a :: r, last, h, hw => by
    obtain ⟨h1, h2, h3⟩ := hw a List.mem_cons_self
    simp only [rightKs, rightKid_at, Bool.and_eq_true, decide_eq_true_eq]
    exact ⟨⟨⟨h.1, h1, h2⟩, h3⟩, rightKs_of h.2 fun w hw' => hw w (List.mem_cons_of_mem _ hw')⟩
theorem rightOs_of {list d : Int} : ∀ {l : List Op}, (∀ o ∈ l, rightOp list o d = true) → rightOs list l d = true
  | [], _ => rfl
  | a :: r, h => by
    simp only [rightOs, Bool.and_eq_true]
    exact ⟨h a List.mem_cons_self, rightOs_of fun o ho => h o (List.mem_cons_of_mem _ ho)⟩
theorem treesG_of {D list : Int} : ∀ {l : List Tree}, (∀ t ∈ l, rightT (.mk list [] [t]) D = true) → treesG D list l = true
  | [], _ => rfl
  | t :: r, h => by
    simp only [treesG, Bool.and_eq_true]
    exact ⟨h t List.mem_cons_self, treesG_of fun x hx => h x (List.mem_cons_of_mem _ hx)⟩
theorem right_one {list : Int} (hl : 2 ≤ list ∧ list ≤ 9) {t : Tree} (h1 : kidB list t = true) (h2 : rightT t (-1) = true) : rightT (.mk list [] [t]) (-1) = true :=
  right_list hl (by simp) fun k hk => by rw [List.mem_singleton.1 hk]; exact ⟨h1, h2⟩
theorem op_keep {list n : Int} (h1 : 1 ≤ n) (h2 : n ≤ 1048576) (d : Int) : rightOp list ⟨0, n, [], Edit.nil⟩ d = true := by
  rw [rightOp, if_pos rfl, sameE_none]
  simp only [List.length_nil, Bool.and_true, decide_eq_true_eq]
  exact ⟨h1, h2, trivial⟩
theorem op_trees {list k d : Int} {l : List Tree} (hk : k = 1 ∨ k = 2) (h : treesG (dT d) list l = true) (hl : l ≠ []) : rightOp list ⟨k, 0, l, Edit.nil⟩ d = true := by
  rw [rightOp, if_neg (by omega), if_neg (by omega), if_pos (by omega), sameE_none, h]
  have := List.length_pos_iff.2 hl
  simp only [Bool.true_and, Bool.and_true, decide_eq_true_eq]
  omega
theorem op_into {list d : Int} {e : Edit} (h : rightE e d = true) (h0 : e.kind ≠ 0) (hl : 7 < list) (hw : list = 8 ∨ e.kind = 2 ∨ e.kind = 1 ∧ e.old.kind = 1 ∧ e.new.kind = 1) : rightOp list ⟨3, 0, [], e⟩ d = true := by
  rw [rightOp, if_neg (by decide), if_neg (by decide), if_neg (by decide), h]
  simp only [List.length_nil, Bool.and_true, Bool.and_eq_true, decide_eq_true_eq]
  exact ⟨⟨trivial, h0, hl⟩, hw⟩
def Wl (list : Int) (e : Edit) : Prop := list = 8 ∨ e.kind = 2 ∨ e.kind = 1 ∧ e.old.kind = 1 ∧ e.new.kind = 1
theorem kind_normT (t : Tree) : (normT t).kind = t.kind := kind_norm t
theorem within_of {w m : Int} (h : ∀ i, i < 8 → named m (i : Nat) = false → byteAt w i = 0) : withinW w m = true := by
  unfold withinW mix of8
  rw [decide_eq_true_eq]
  have z : ∀ i, i < 8 → mixAt w 0 m i = 0 := by
    intro i hi
    unfold mixAt
    split
    · exact byte0 i
    · rename_i hn; exact h i hi (by simpa using hn)
  rw [z 0 (by omega), z 1 (by omega), z 2 (by omega), z 3 (by omega), z 4 (by omega), z 5 (by omega), z 6 (by omega), z 7 (by omega)]
  rfl
theorem word_wk {a b : WEdit} (ra : rngW a) (rb : rngW b) (ha : a.at_ ≤ 65534 ∧ a.mask ≠ 0 ∧ withinW a.old a.mask = true ∧ withinW a.new a.mask = true) (hb : withinW b.old b.mask = true ∧ withinW b.new b.mask = true)
    (hc : (comW a b).2 = true) : ((comW a b).1.at_ ≤ 65534 ∧ (comW a b).1.mask ≠ 0 ∧ withinW (comW a b).1.old (comW a b).1.mask = true ∧ withinW (comW a b).1.new (comW a b).1.mask = true) ∧ rngW (comW a b).1 := by
  have hw : comWok a b = true := by
    unfold comW at hc
    split at hc
    · assumption
    · cases hc
  have e : (comW a b).1 = ⟨a.at_, orM a.mask b.mask, mix b.old a.old a.mask, mix a.new b.new b.mask⟩ := by unfold comW; rw [if_pos hw]
  obtain ⟨m1, m2⟩ := orM_in ra.2.1 rb.2.1
  rw [e]
  dsimp only
  refine ⟨⟨ha.1, fun h => ?_, within_of fun i hi hn => ?_, within_of fun i hi hn => ?_⟩, ra.1, m1, mix_in _ _ _, mix_in _ _ _⟩
  · refine ha.2.1 ?_
    have z : ∀ i : Nat, named a.mask (i : Int) = false := by
      intro i
      have := m2 i
      rw [h] at this
      have z0 : named 0 (i : Int) = false := by unfold named; simp
      rw [z0] at this
      cases hn : named a.mask (i : Int) with
      | false => rfl
      | true => rw [hn] at this; simp at this
    have h0 := z 0; have h1 := z 1; have h2 := z 2; have h3 := z 3; have h4 := z 4; have h5 := z 5; have h6 := z 6; have h7 := z 7
    have := ra.2.1
    simp only [named, decide_eq_false_iff_not, Int.toNat_natCast] at h0 h1 h2 h3 h4 h5 h6 h7
    omega
  · rw [m2 i] at hn
    simp only [Bool.or_eq_false_iff] at hn
    rw [mix_at hi, if_neg (by rw [hn.1]; decide)]
    exact within_byte hb.1 hi hn.2
  · rw [m2 i] at hn
    simp only [Bool.or_eq_false_iff] at hn
    rw [mix_at hi, if_neg (by rw [hn.2]; decide)]
    exact within_byte ha.2.2.2 hi hn.1
def sumN {β : Type} (φ : β → Nat) : List β → Nat
  | [] => 0
  | a :: r => φ a + sumN φ r
theorem merge_sum {β : Type} {at_ : β → Int} {one : β → β → β × Bool} (φ : β → Nat) : ∀ (k : Nat) (p q L : List β), p.length + q.length ≤ k → (∀ a ∈ p, ∀ b ∈ q, (one a b).2 = true → φ (one a b).1 ≤ φ a + φ b) → mergeF at_ one p q = some L → sumN φ L ≤ sumN φ p + sumN φ q := by
  intro k
  induction k with
  | zero =>
    intro p q L hk _ h
    have e1 : p = [] := List.eq_nil_of_length_eq_zero (by omega)
    have e2 : q = [] := List.eq_nil_of_length_eq_zero (by omega)
    subst e1 e2
    rw [mergeF] at h
    cases h
    simp [sumN]
  | succ k ih =>
    intro p q L hk ho h
    match p, q with
    | [], q => rw [mergeF] at h; cases h; simp [sumN]
    | a :: p, [] => rw [mergeF] at h; cases h; simp [sumN]
    | a :: p, b :: q =>
      simp only [List.length_cons] at hk
      rw [mergeF] at h
      split at h
      · obtain ⟨L', hL, rfl⟩ := Option.map_eq_some_iff.1 h
        have := ih p (b :: q) L' (by simp only [List.length_cons]; omega) (fun x hx y hy => ho x (List.mem_cons_of_mem _ hx) y hy) hL
        simp only [sumN] at this ⊢; omega
      · split at h
        · obtain ⟨L', hL, rfl⟩ := Option.map_eq_some_iff.1 h
          have := ih (a :: p) q L' (by simp only [List.length_cons]; omega) (fun x hx y hy => ho x hx y (List.mem_cons_of_mem _ hy)) hL
          simp only [sumN] at this ⊢; omega
        · split at h
          · rename_i hc
            obtain ⟨L', hL, rfl⟩ := Option.map_eq_some_iff.1 h
            have := ih p q L' (by omega) (fun x hx y hy => ho x (List.mem_cons_of_mem _ hx) y (List.mem_cons_of_mem _ hy)) hL
            have := ho a List.mem_cons_self b List.mem_cons_self hc
            simp only [sumN] at *; omega
          · cases h
theorem sumN_ks : ∀ l : List Kid, sumN ctKid l = ctKs l
  | [] => rfl
  | k :: r => by simp only [sumN, ctKs, sumN_ks r]
theorem sumN_len {β : Type} : ∀ l : List β, sumN (fun _ => 1) l = l.length
  | [] => rfl
  | k :: r => by simp only [sumN, List.length_cons, sumN_len r]; omega
theorem rngKs_of : ∀ {l : List Kid}, (∀ k ∈ l, isI k.at_ ∧ rngE k.e) → rngKs l
  | [], _ => trivial
  | ⟨a, e⟩ :: r, h => ⟨h _ List.mem_cons_self, rngKs_of fun k hk => h k (List.mem_cons_of_mem _ hk)⟩
theorem rngOs_of : ∀ {l : List Op}, (∀ o ∈ l, rngOp o) → rngOs l
  | [], _ => trivial
  | o :: r, h => ⟨h _ List.mem_cons_self, rngOs_of fun k hk => h k (List.mem_cons_of_mem _ hk)⟩
structure ComWk (K : Prop) (c : Edit × Bool) (p q : Edit) : Prop where
  wk : c.2 = true → Wk c.1
  ct : K → c.2 = true → ctE c.1 + 18 ≤ ctE p + ctE q
  kind : p.kind ≠ 0 → q.kind ≠ 0 → c.2 = true → c.1.kind ≠ 0
  wl : ∀ list, 7 < list → list ≤ 9 → p.kind ≠ 0 → q.kind ≠ 0 → c.2 = true → Wl list p → Wl list q → Wl list c.1
theorem doB_ok {e : Edit} {t : Tree} (h : (doB e t).2 = true) : ∃ v, doE false e t = some v ∧ (doB e t).1 = normT v := by
  unfold doB at h ⊢
  cases hv : doE false e t with
  | none => rw [hv] at h; cases h
  | some v => exact ⟨v, rfl, rfl⟩
theorem right_normT {t : Tree} {d : Int} (h : rightT t d = true) : rightT (normT t) d = true := rightT_norm t d h
theorem Wk.turn {p : Edit} (h : Wk p) : Wk (nrmE (turnE p)) := ⟨rightE_nrm _ _ (rightE_turn _ _ h.r), rngE_nrm' _ _ (rightE_turn _ _ h.r) (rngE_turn _ h.g)⟩
theorem kid_of_list {list : Int} (hl : 2 ≤ list ∧ list ≤ 9) {e : Edit} {t u : Tree} {d : Int} (hr : rightE e d = true) (hd : doE false e t = some u) (h7 : 7 < list) (hw : Wl list e) (h0 : e.kind ≠ 0) (ht : rightT t (-1) = true) : kidB list u = true := by
  obtain ⟨j1, j2, _, _⟩ := do_kind hr hd
  unfold kidB
  rw [if_neg (by omega)]
  by_cases hl9 : list = 9
  · rw [if_pos hl9]
    refine decide_eq_true ?_
    rcases hw with q | q | q
    · omega
    · exact (j2 q).1
    · rw [j1 q.1]; exact q.2.2
  · rw [if_neg hl9]
    exact decide_eq_true ((do_right' _ e d t u (Nat.le_refl _) hr ht hd).2 h0)
theorem kidB_norm7 {list : Int} (h7 : 7 < list) {u : Tree} (h : kidB list u = true) : kidB list (normT u) = true := by
  unfold kidB at h ⊢
  rw [if_neg (by omega)] at h ⊢
  rw [kind_normT]
  exact h
theorem list_wk {K : Prop} {f : Edit → Edit → Edit × Bool} {p q : Edit} (wp : Wk p) (wq : Wk q) (p3 : p.kind = 3) (hl : p.list = q.list)
    (ih : ∀ a b, massE a + massE b < massE p + massE q → Wk a → Wk b → ComWk K (f a b) a b) {ps : List Piece} (e : (pairG 1 2 p.ops q.ops []).1 = ps) (hb1 : (pairG 1 2 p.ops q.ops []).2.1 = true) {ops : List Op} (hc : comPs f ps = some ops) :
    (∀ o ∈ ops, rightOp p.list o (-2) = true ∧ rngOp o) ∧ sumA ops = sumA p.ops ∧ sumB ops = sumB q.ops ∧ (K → ctOs ops ≤ ctOs p.ops + ctOs q.ops) := by
  have rp := rightE_all wp.r
  have rq := rightE_all wq.r
  have gp := rngE_parts wp.g
  have gq := rngE_parts wq.g
  have hli := rp.list p3
  have op := rightE_ops wp.r
  have oq := rightE_ops wq.r
  have rpo : rightOs p.list p.ops (-2) = true := rp.ops
  have rqo : rightOs p.list q.ops (-2) = true := by rw [hl]; exact rq.ops
  obtain ⟨i1, _⟩ := pair_run _ p.ops q.ops [] (Nat.le_refl _) op oq
  obtain ⟨ps0, e0, hps, _, _⟩ := i1 hb1
  obtain ⟨ps1, e1, sA, sB, hlen⟩ := pair_sum addsA addsB 1 _ p.ops q.ops [] (Nat.le_refl _) op oq hb1
  obtain ⟨ps2, e2, sC, sD, _⟩ := pair_sum addsC addsC 1 _ p.ops q.ops [] (Nat.le_refl _) op oq hb1
  rw [e, List.nil_append] at e0 e1 e2
  subst e0 e1 e2
  have side : ∀ x ∈ ps, (x.of ≠ 2 → rightOp p.list x.p (-2) = true ∧ rngOp x.p) ∧ (x.of ≠ 1 → rightOp p.list x.q (-2) = true ∧ rngOp x.q) := by
    have one : ∀ (l : List Op) (o : Op), (∀ o' ∈ l, rightOp p.list o' (-2) = true) → rngOs l → Part l o → opOk o → rightOp p.list o (-2) = true ∧ rngOp o := by
      intro l o hr hg ⟨o', m, k, e1, _, lt⟩ ho
      have R := rightOp_all (hr o' m)
      have G := rngOp_e (rngOs_mem hg m)
      obtain ⟨kk, nn, ll, ee⟩ := o
      have k : kk = o'.kind := k
      have e1 : ee = o'.e := e1
      have lt : ∀ t ∈ ll, t ∈ o'.l := lt
      have gl : rngK ll := rngK_of fun t ht => rngK_mem G.2.2.1 (lt t ht)
      cases R with
      | keep n1 a1 a2 =>
        have k : kk = 0 := k
        have e1 : ee = Edit.nil := e1
        subst k e1
        rcases ho with h | h | h
        · have hl : ll = [] := h.2.1
          subst hl
          have h3 : 1 ≤ nn ∧ nn ≤ 1048576 := h.2.2.1
          exact ⟨op_keep h3.1 h3.2 _, isI_n (by decide) (by decide), by unfold isI; omega, trivial, G.2.2.2⟩
        · have := h.1; omega
        · have := h.1; omega
      | gone l1 a1 a2 =>
        have k : kk = 1 := k
        have e1 : ee = Edit.nil := e1
        subst k e1
        rcases ho with h | h | h
        · have := h.1; omega
        · have hn : nn = 0 := h.2.1
          subst hn
          exact ⟨op_trees (.inl rfl) (treesG_of fun t ht => treesOk_mem a1 t (lt t ht)) h.2.2.1, isI_n (by decide) (by decide), isI_n (by decide) (by decide), gl, G.2.2.2⟩
        · have := h.1; omega
      | come l1 a1 a2 =>
        have k : kk = 2 := k
        have e1 : ee = Edit.nil := e1
        subst k e1
        rcases ho with h | h | h
        · have := h.1; omega
        · have hn : nn = 0 := h.2.1
          subst hn
          exact ⟨op_trees (.inr rfl) (treesG_of fun t ht => treesOk_mem a1 t (lt t ht)) h.2.2.1, isI_n (by decide) (by decide), isI_n (by decide) (by decide), gl, G.2.2.2⟩
        · have := h.1; omega
      | into e2 a1 a2 a3 a4 =>
        have k : kk = 3 := k
        have e1 : ee = e2 := e1
        subst k e1
        rcases ho with h | h | h
        · have := h.1; omega
        · have := h.1; omega
        · have hn : nn = 0 := h.2.1
          have hl : ll = [] := h.2.2
          subst hn hl
          exact ⟨op_into a1 a2 a3 a4, isI_n (by decide) (by decide), isI_n (by decide) (by decide), trivial, G.2.2.2⟩
    intro x hx
    have X := hps x hx
    exact ⟨fun h => one p.ops x.p (fun o ho => rightOs_mem rpo ho) gp.2.2.2.2 (X.pp h).1 (X.pp h).2, fun h => one q.ops x.q (fun o ho => rightOs_mem rqo ho) gq.2.2.2.2 (X.qq h).1 (X.qq h).2⟩
  -- one piece
  have one : ∀ x ∈ ps, (comP f x).ok = true → ((comP f x).is = true → rightOp p.list (comP f x).op (-2) = true ∧ rngOp (comP f x).op) ∧
      (φA (comP f x).op * (if (comP f x).is then 1 else 0) = (if x.of = 2 then 0 else φA x.p)) ∧ (φB (comP f x).op * (if (comP f x).is then 1 else 0) = (if x.of = 1 then 0 else φB x.q)) ∧
      (K → (comP f x).is = true → φC (comP f x).op ≤ (if x.of = 2 then 0 else φC x.p) + (if x.of = 1 then 0 else φC x.q)) := by
    intro x hx hok
    have X := hps x hx
    obtain ⟨s1, s2⟩ := side x hx
    have cnn : ∀ o : Op, 0 ≤ φC o := fun o => by unfold φC; have := ctE_18 o.e; omega
    unfold comP at hok ⊢
    by_cases c1 : x.of = 1 ∨ (x.of = 0 ∧ x.q.kind = 0)
    · rw [if_pos c1] at hok ⊢
      dsimp only
      have h2 : x.of ≠ 2 := by omega
      rw [if_pos rfl, if_neg h2, if_neg h2]
      refine ⟨fun _ => s1 h2, by omega, ?_, fun _ _ => ?_⟩
      · rcases c1 with c | ⟨c, c'⟩
        · rw [if_pos c]; unfold φB; rw [if_pos (X.one c)]; rfl
        · rw [if_neg (by omega)]
          obtain ⟨b1, b2, b3⟩ := X.both c
          unfold φB
          rw [if_neg b1, if_neg (by omega), b3]; omega
      · have := cnn x.q
        split <;> omega
    rw [if_neg c1] at hok ⊢
    by_cases c2 : x.of = 2 ∨ x.p.kind = 0
    · rw [if_pos c2] at hok ⊢
      dsimp only
      have h2 : x.of ≠ 1 := by omega
      rw [if_pos rfl, if_neg h2, if_neg h2]
      refine ⟨fun _ => s2 h2, ?_, by omega, fun _ _ => ?_⟩
      · by_cases c : x.of = 2
        · rw [if_pos c]; unfold φA; rw [if_pos (X.two c)]; rfl
        · rw [if_neg c]
          have c0 : x.of = 0 := by rcases X.of with h | h | h <;> omega
          obtain ⟨b1, b2, b3⟩ := X.both c0
          unfold φA
          rw [if_neg b2, if_neg (by omega), b3]; omega
      · have := cnn x.p
        split <;> omega
    rw [if_neg c2] at hok ⊢
    have c0 : x.of = 0 := by rcases X.of with h | h | h <;> omega
    obtain ⟨b1, b2, b3⟩ := X.both c0
    have h1 : x.of ≠ 1 := by omega
    have h2 : x.of ≠ 2 := by omega
    obtain ⟨u1, u2⟩ := s1 h2
    obtain ⟨v1, v2⟩ := s2 h1
    have ok1 := (X.pp h2).2
    have ok2 := (X.qq h1).2
    have kp : x.p.kind = 2 ∨ x.p.kind = 3 := by rcases opOk_k ok1 with k | k | k | k <;> omega
    have kq : x.q.kind = 1 ∨ x.q.kind = 3 := by rcases opOk_k ok2 with k | k | k | k <;> omega
    rw [if_neg h2, if_neg h2, if_neg h1, if_neg h1]
    by_cases c3 : x.p.kind = 2 ∧ x.q.kind = 1
    · rw [if_pos c3] at hok ⊢
      dsimp only
      refine ⟨fun h => (by cases h), ?_, ?_, fun _ h => by cases h⟩
      · unfold φA; rw [if_pos c3.1]; rfl
      · unfold φB; rw [if_pos c3.2]; rfl
    rw [if_neg c3] at hok ⊢
    have one3 : ∀ o : Op, o.kind = 3 → rightOp p.list o (-2) = true → rngOp o → (7 < p.list ∧ o.e.kind ≠ 0 ∧ Wl p.list o.e ∧ Wk o.e) ∧ o.l = [] := by
      intro o k hr hg
      have R := rightOp_all hr
      cases R with
      | keep | gone | come => exact absurd k (by simp)
      | into e a1 a2 a3 a4 => exact ⟨⟨a3, a2, a4, ⟨rightE_neg _ _ _ (by decide) a1, (rngOp_e hg).2.2.2⟩⟩, rfl⟩
    have one12 : ∀ o : Op, (o.kind = 1 ∨ o.kind = 2) → opLen o = 1 → opOk o → rightOp p.list o (-2) = true → rngOp o → ∃ t, o.l = [t] ∧ kidB p.list t = true ∧ rightT t (-1) = true ∧ rng t ∧ o.e = Edit.nil := by
      intro o k h1 ho hr hg
      have hlen := opLen_12 ho k
      have hl1 : o.l.length = 1 := by omega
      obtain ⟨t, ht⟩ : ∃ t, o.l = [t] := by
        match h : o.l, hl1 with
        | [t], _ => exact ⟨t, rfl⟩
      have R := rightOp_all hr
      have gt := (rngOp_e hg).2.2.1
      rw [ht] at gt
      refine ⟨t, ht, ?_⟩
      cases R with
      | keep => exact absurd k (by simp)
      | into => exact absurd k (by simp)
      | gone l a1 a2 => exact ⟨(treesOk_right hli a1 t (by have ht : l = [t] := ht; rw [ht]; simp)).1, (treesOk_right hli a1 t (by have ht : l = [t] := ht; rw [ht]; simp)).2, gt.1, rfl⟩
      | come l a1 a2 => exact ⟨(treesOk_right hli a1 t (by have ht : l = [t] := ht; rw [ht]; simp)).1, (treesOk_right hli a1 t (by have ht : l = [t] := ht; rw [ht]; simp)).2, gt.1, rfl⟩
    by_cases c4 : x.p.kind = 2
    · rw [if_pos c4] at hok ⊢
      have q3' : x.q.kind = 3 := by omega
      have hl1 : opLen x.q = 1 := opLen_3 q3'
      obtain ⟨t, ht, t1, t2, t3, t4⟩ := one12 x.p (.inr c4) (by omega) ok1 u1 u2
      obtain ⟨⟨e1, e2, e3, e4⟩, e5⟩ := one3 x.q q3' v1 v2
      dsimp only at hok ⊢
      rw [ht, List.getD_cons_zero] at hok ⊢
      obtain ⟨v, hv, ev⟩ := doB_ok hok
      rw [if_pos rfl, ev]
      have kv := kid_of_list hli e4.r hv e1 e3 e2 t2
      have rv := (do_right' _ _ _ t v (Nat.le_refl _) e4.r t2 hv).1
      refine ⟨fun _ => ⟨op_trees (.inr rfl) ?_ (by simp), isI_n (by decide) (by decide), isI_n (by decide) (by decide), ⟨rng_norm _ (rng_do false _ _ v e4.g t3 hv), trivial⟩, ?_⟩, ?_, ?_, fun _ _ => ?_⟩
      · rw [dT_neg (by decide)]
        exact treesG_of fun y hy => by rw [List.mem_singleton.1 hy]; exact right_one hli (kidB_norm7 e1 kv) (right_normT rv)
      · rw [← t4]; exact (rngOp_e u2).2.2.2
      · unfold φA; rw [if_pos c4]; rfl
      · show (if (2 : Int) = 1 then (0 : Int) else opLen _) * 1 = (if x.q.kind = 1 then 0 else opLen x.q)
        rw [if_neg (by decide), if_neg (by omega), hl1]; simp [opLen]
      · unfold φC
        dsimp only
        rw [ht, t4, e5]
        have := mass_do false _ _ _ v e4.r hv
        have := normT_mass v
        simp only [massK, ct_nil]
        omega
    rw [if_neg c4] at hok ⊢
    have p3' : x.p.kind = 3 := by omega
    have hl0 : opLen x.p = 1 := opLen_3 p3'
    obtain ⟨⟨e1, e2, e3, e4⟩, e5⟩ := one3 x.p p3' u1 u2
    by_cases c5 : x.q.kind = 1
    · rw [if_pos c5] at hok ⊢
      obtain ⟨t, ht, t1, t2, t3, t4⟩ := one12 x.q (.inl c5) (by omega) ok2 v1 v2
      dsimp only at hok ⊢
      rw [ht, List.getD_cons_zero] at hok ⊢
      obtain ⟨v, hv, ev⟩ := doB_ok hok
      have wt := e4.turn
      have kt : (nrmE (turnE x.p.e)).kind = x.p.e.kind := by rw [nrmE_kind, turnE_kind]
      have wlt : Wl p.list (nrmE (turnE x.p.e)) := by
        rcases e3 with h | h | h
        · exact .inl h
        · exact .inr (.inl (by omega))
        · refine .inr (.inr ⟨by omega, ?_, ?_⟩)
          · rw [(nrmE_old (turnE x.p.e) (by rw [turnE_kind]; exact h.1)).1, kind_normT, turnE_old]; exact h.2.2
          · rw [(nrmE_old (turnE x.p.e) (by rw [turnE_kind]; exact h.1)).2, kind_normT, turnE_new]; exact h.2.1
      rw [if_pos rfl, ev]
      have kv := kid_of_list hli wt.r hv e1 wlt (by omega) t2
      have rv := (do_right' _ _ _ t v (Nat.le_refl _) wt.r t2 hv).1
      refine ⟨fun _ => ⟨op_trees (.inl rfl) ?_ (by simp), isI_n (by decide) (by decide), isI_n (by decide) (by decide), ⟨rng_norm _ (rng_do false _ _ v wt.g t3 hv), trivial⟩, ?_⟩, ?_, ?_, fun _ _ => ?_⟩
      · rw [dT_neg (by decide)]
        exact treesG_of fun y hy => by rw [List.mem_singleton.1 hy]; exact right_one hli (kidB_norm7 e1 kv) (right_normT rv)
      · rw [← t4]; exact (rngOp_e v2).2.2.2
      · show (if (1 : Int) = 2 then (0 : Int) else opLen _) * 1 = (if x.p.kind = 2 then 0 else opLen x.p)
        rw [if_neg (by decide), if_neg (by omega), hl0]; simp [opLen]
      · unfold φB; rw [if_pos c5]; rfl
      · unfold φC
        dsimp only
        rw [ht, t4, e5]
        have := mass_do false _ _ _ v wt.r hv
        have := normT_mass v
        have := ct_nrm (turnE x.p.e)
        rw [ct_turn] at this
        simp only [massK, ct_nil]
        omega
    rw [if_neg c5] at hok ⊢
    have q3' : x.q.kind = 3 := by omega
    have hl1 : opLen x.q = 1 := opLen_3 q3'
    obtain ⟨⟨f1, f2, f3, f4⟩, f5⟩ := one3 x.q q3' v1 v2
    dsimp only at hok ⊢
    rw [if_pos rfl]
    obtain ⟨o1, m1, _, k1, _⟩ := (X.pp h2).1
    obtain ⟨o2, m2, _, k2, _⟩ := (X.qq h1).1
    have := massE_op m1
    have := massE_op m2
    have H := ih x.p.e x.q.e (by rw [k1, k2]; omega) e4 f4
    refine ⟨fun _ => ⟨op_into (rightE_neg _ _ _ (by decide) (H.wk hok).r) (H.kind e2 f2 hok) e1 (H.wl p.list e1 hli.2 e2 f2 hok e3 f3), isI_n (by decide) (by decide), isI_n (by decide) (by decide), trivial, (H.wk hok).g⟩, ?_, ?_, fun hK _ => ?_⟩
    · show (if (3 : Int) = 2 then (0 : Int) else opLen _) * 1 = (if x.p.kind = 2 then 0 else opLen x.p)
      rw [if_neg (by decide), if_neg (by omega), hl0]; simp [opLen]
    · show (if (3 : Int) = 1 then (0 : Int) else opLen _) * 1 = (if x.q.kind = 1 then 0 else opLen x.q)
      rw [if_neg (by decide), if_neg (by omega), hl1]; simp [opLen]
    · unfold φC
      dsimp only
      rw [e5, f5]
      have := H.ct hK hok
      simp only [massK]
      omega
  have all : ∀ (ps : List Piece) (ops : List Op), (∀ x ∈ ps, (comP f x).ok = true → ((comP f x).is = true → rightOp p.list (comP f x).op (-2) = true ∧ rngOp (comP f x).op) ∧
      (φA (comP f x).op * (if (comP f x).is then 1 else 0) = (if x.of = 2 then 0 else φA x.p)) ∧ (φB (comP f x).op * (if (comP f x).is then 1 else 0) = (if x.of = 1 then 0 else φB x.q)) ∧
      (K → (comP f x).is = true → φC (comP f x).op ≤ (if x.of = 2 then 0 else φC x.p) + (if x.of = 1 then 0 else φC x.q))) → comPs f ps = some ops →
      (∀ o ∈ ops, rightOp p.list o (-2) = true ∧ rngOp o) ∧ sumF φA ops = sumF φA (sideP ps) ∧ sumF φB ops = sumF φB (sideQ ps) ∧ (K → sumF φC ops ≤ sumF φC (sideP ps) + sumF φC (sideQ ps)) ∧ ops.length ≤ ps.length := by
    intro ps
    induction ps with
    | nil => intro ops _ h; cases h; exact ⟨fun o ho => (by cases ho), rfl, rfl, fun _ => (by simp [sideP, sideQ, sumF]), by simp⟩
    | cons x r ihp =>
      intro ops hx h
      rw [comPs] at h
      split at h
      · rename_i hok
        obtain ⟨l, hl', rfl⟩ := Option.map_eq_some_iff.1 h
        obtain ⟨j1, j2, j3, j4, j5⟩ := ihp l (fun y hy => hx y (List.mem_cons_of_mem _ hy)) hl'
        obtain ⟨k1, k2, k3, k4⟩ := hx x List.mem_cons_self hok
        have cnn : ∀ o : Op, 0 ≤ φC o := fun o => by unfold φC; have := ctE_18 o.e; omega
        have c1 := cnn x.p
        have c2 := cnn x.q
        have hsP : ∀ φ : Op → Int, sumF φ (sideP (x :: r)) = (if x.of = 2 then 0 else φ x.p) + sumF φ (sideP r) := fun φ => by
          simp only [sideP]
          split <;> simp [sumF]
        have hsQ : ∀ φ : Op → Int, sumF φ (sideQ (x :: r)) = (if x.of = 1 then 0 else φ x.q) + sumF φ (sideQ r) := fun φ => by
          simp only [sideQ]
          split <;> simp [sumF]
        rw [hsP, hsQ, hsP, hsQ]
        by_cases his : (comP f x).is = true
        · rw [if_pos his] at k2 k3
          rw [if_pos his]
          have k4 := fun hK => k4 hK his
          simp only [List.cons_append, List.nil_append, sumF, List.length_cons]
          refine ⟨fun o ho => ?_, by omega, by omega, fun hK => (by have := k4 hK; have := j4 hK; omega), by omega⟩
          rcases List.mem_cons.1 ho with rfl | ho
          · exact k1 his
          · exact j1 o ho
        · rw [if_neg his] at k2 k3
          rw [if_neg his]
          simp only [List.nil_append, List.length_cons]
          refine ⟨j1, by omega, by omega, fun hK => ?_, by omega⟩
          have := j4 hK
          have : 0 ≤ (if x.of = 2 then 0 else φC x.p) + (if x.of = 1 then 0 else φC x.q) := by split <;> split <;> omega
          omega
      · cases h
  obtain ⟨j1, j2, j3, j4, j5⟩ := all ps ops one hc
  rw [sumF_A] at j2
  rw [sumF_B] at j3
  rw [sA, sumF_A] at j2
  rw [sB, sumF_B] at j3
  have x1 := sumF_C ops
  have x2 := sumF_C p.ops
  have x3 := sumF_C q.ops
  exact ⟨j1, j2, j3, fun hK => (by have := j4 hK; omega)⟩
theorem step_wk {K : Prop} {f : Edit → Edit → Edit × Bool} {p q : Edit} (wp : Wk p) (wq : Wk q)
    (ih : ∀ a b, massE a + massE b < massE p + massE q → Wk a → Wk b → ComWk K (f a b) a b) : ComWk K (comStep f p q) p q := by
  have rp := rightE_all wp.r
  have rq := rightE_all wq.r
  have gp := rngE_parts wp.g
  have gq := rngE_parts wq.g
  have cp := ctE_18 p
  have cq := ctE_18 q
  have ap := ctE_at p
  have aq := ctE_at q
  unfold comStep
  by_cases p0 : p.kind = 0
  · rw [if_pos p0]
    exact ⟨fun _ => wq, fun _ _ => by dsimp only; omega, fun h => absurd p0 h, fun _ _ _ h => absurd p0 h⟩
  rw [if_neg p0]
  by_cases q0 : q.kind = 0
  · rw [if_pos q0]
    exact ⟨fun _ => wp, fun _ _ => by dsimp only; omega, fun _ h => absurd q0 h, fun _ _ _ _ h => absurd q0 h⟩
  rw [if_neg q0]
  by_cases p1 : p.kind = 1
  · rw [if_pos p1]
    obtain ⟨r1, r2, r3, r4⟩ := rp.rep p1
    have key : (doB q p.new).2 = true → (rightT (doB q p.new).1 (-1) = true ∧ (doB q p.new).1.kind ≠ 10) ∧ rng (doB q p.new).1 ∧ mass (doB q p.new).1 + 18 ≤ mass p.new + ctE q ∧ ∀ list, 7 < list → list ≤ 9 → p.new.kind = 1 → list = 9 → Wl list q → (doB q p.new).1.kind = 1 := by
      intro hb
      obtain ⟨v, hv, e⟩ := doB_ok hb
      rw [e]
      obtain ⟨x1, x2⟩ := do_right' _ q _ p.new v (Nat.le_refl _) wq.r r2 hv
      refine ⟨⟨right_normT x1, by rw [kind_normT]; exact x2 q0⟩, rng_norm _ (rng_do false q _ v wq.g gp.2.1 hv), ?_, fun list h7 h9 hk h9' hw => ?_⟩
      · have := mass_do false q _ _ v wq.r hv
        have := normT_mass v
        omega
      · rw [kind_normT]
        obtain ⟨j1, j2, _, _⟩ := do_kind wq.r hv
        rcases hw with h | h | h
        · omega
        · exact (j2 h).1
        · rw [j1 h.1]; exact h.2.2
    refine ⟨fun hb => ?_, fun _ hb => ?_, fun _ _ _ => (show (1 : Int) ≠ 0 by decide), fun list h7 h9 _ _ hb hp hq => ?_⟩
    · obtain ⟨⟨k1, k2⟩, k3, _, _⟩ := key hb
      exact ⟨right_mk1 r1 k1 r3 k2, isI_n (by decide) (by decide), gp.1, k3, by simp, isI_n (by decide) (by decide), trivial, trivial⟩
    · obtain ⟨_, _, k4, _⟩ := key hb
      rw [ctE_mk1]
      omega
    · by_cases h8 : list = 8
      · exact .inl h8
      · have hp' : p.kind = 1 ∧ p.old.kind = 1 ∧ p.new.kind = 1 := by
          rcases hp with h | h | h
          · exact absurd h h8
          · omega
          · exact h
        exact .inr (.inr ⟨rfl, hp'.2.1, (key hb).2.2.2 list h7 h9 hp'.2.2 (by omega) hq⟩)
  rw [if_neg p1]
  by_cases q1 : q.kind = 1
  · rw [if_pos q1]
    obtain ⟨r1, r2, r3, r4⟩ := rq.rep q1
    have wt := wp.turn
    have kt : (nrmE (turnE p)).kind = p.kind := by rw [nrmE_kind, turnE_kind]
    have key : (doB (nrmE (turnE p)) q.old).2 = true → (rightT (doB (nrmE (turnE p)) q.old).1 (-1) = true ∧ (doB (nrmE (turnE p)) q.old).1.kind ≠ 10) ∧ rng (doB (nrmE (turnE p)) q.old).1 ∧ mass (doB (nrmE (turnE p)) q.old).1 + 18 ≤ mass q.old + ctE p ∧ (p.kind = 2 → (doB (nrmE (turnE p)) q.old).1.kind = 1) := by
      intro hb
      obtain ⟨v, hv, e⟩ := doB_ok hb
      rw [e]
      obtain ⟨x1, x2⟩ := do_right' _ _ _ q.old v (Nat.le_refl _) wt.r r1 hv
      refine ⟨⟨right_normT x1, by rw [kind_normT]; exact x2 (by omega)⟩, rng_norm _ (rng_do false _ _ v wt.g gq.1 hv), ?_, fun hk => ?_⟩
      · have := mass_do false _ _ _ v wt.r hv
        have := normT_mass v
        have := ct_nrm (turnE p)
        rw [ct_turn] at this
        omega
      · rw [kind_normT]
        exact ((do_kind wt.r hv).2.1 (by omega)).1
    refine ⟨fun hb => ?_, fun _ hb => ?_, fun _ _ _ => (show (1 : Int) ≠ 0 by decide), fun list h7 h9 _ _ hb hp hq => ?_⟩
    · obtain ⟨⟨k1, k2⟩, k3, _, _⟩ := key hb
      exact ⟨right_mk1 k1 r2 k2 r4, isI_n (by decide) (by decide), k3, gq.2.1, by simp, isI_n (by decide) (by decide), trivial, trivial⟩
    · obtain ⟨_, _, k4, _⟩ := key hb
      rw [ctE_mk1]
      omega
    · by_cases h8 : list = 8
      · exact .inl h8
      · have hq' : q.kind = 1 ∧ q.old.kind = 1 ∧ q.new.kind = 1 := by
          rcases hq with h | h | h
          · exact absurd h h8
          · omega
          · exact h
        refine .inr (.inr ⟨rfl, (key hb).2.2.2 ?_, hq'.2.2⟩)
        rcases hp with h | h | h
        · exact absurd h h8
        · exact h
        · exact absurd h.1 p1
  rw [if_neg q1]
  by_cases hd : p.kind ≠ q.kind ∨ p.list ≠ q.list
  · rw [if_pos hd]
    exact ⟨fun h => (by cases h), fun _ h => (by cases h), fun _ _ h => (by cases h), fun _ _ _ _ _ h => (by cases h)⟩
  rw [if_neg hd]
  by_cases p2 : p.kind = 2
  · rw [if_pos p2]
    have q2 : q.kind = 2 := by omega
    have awp := wordsOk_all rp.words
    have awq := wordsOk_all rq.words
    have akp := rightKs_all rp.kids
    have akq := rightKs_all rq.kids
    have hwat : ∀ a b : WEdit, a.at_ = b.at_ → (comW a b).2 = true → (comW a b).1.at_ = a.at_ := fun a b _ h => comW_at a b h
    have hkat : ∀ a b : Kid, a.at_ = b.at_ → (comK f a b).2 = true → (comK f a b).1.at_ = a.at_ := fun a b _ _ => rfl
    have hk : ∀ a ∈ p.kids, ∀ b ∈ q.kids, ComWk K (f a.e b.e) a.e b.e := by
      intro a ha b hb
      have := massE_kid ha
      have := massE_kid hb
      exact ih a.e b.e (by omega) (.of (akp a ha).2 (rngKs_mem gp.2.2.2.1 ha).2) (.of (akq b hb).2 (rngKs_mem gq.2.2.2.1 hb).2)
    cases hL : mergeF WEdit.at_ comW p.words q.words with
    | none => exact ⟨fun h => (by cases h), fun _ h => (by cases h), fun _ _ h => (by cases h), fun _ _ _ _ _ h => (by cases h)⟩
    | some L =>
      rw [if_pos (show (some L).isSome = true from rfl)]
      cases hM : mergeF KidOf.at_ (comK f) p.kids q.kids with
      | none => exact ⟨fun h => (by cases h), fun _ h => (by cases h), fun _ _ h => (by cases h), fun _ _ _ _ _ h => (by cases h)⟩
      | some M =>
        have S := (merge_spec hwat _ p.words q.words (-1) (Nat.le_refl _) (words_asc rp.words) (words_asc rq.words)).2 L hL
        have T := (merge_spec hkat _ p.kids q.kids (-1) (Nat.le_refl _) (kids_asc rp.kids) (kids_asc rq.kids)).2 M hM
        have hw : ∀ w ∈ L, (w.at_ ≤ 65534 ∧ w.mask ≠ 0 ∧ withinW w.old w.mask = true ∧ withinW w.new w.mask = true) ∧ rngW w := by
          intro w hw
          rcases S.of w hw with ⟨h, _⟩ | ⟨h, _⟩ | ⟨a, ha, b, hb, _, hc, rfl⟩
          · exact ⟨(awp w h).2, gp.2.2.1 w h⟩
          · exact ⟨(awq w h).2, gq.2.2.1 w h⟩
          · exact word_wk (gp.2.2.1 a ha) (gq.2.2.1 b hb) (awp a ha).2 (awq b hb).2.2.2 hc
        have hm : ∀ k ∈ M, (k.at_ ≤ 65534 ∧ k.e.kind ≠ 0 ∧ rightE k.e (-2) = true) ∧ isI k.at_ ∧ rngE k.e := by
          intro k hk'
          rcases T.of k hk' with ⟨h, _⟩ | ⟨h, _⟩ | ⟨a, ha, b, hb, _, hc, rfl⟩
          · exact ⟨⟨(akp k h).1.2.1, (akp k h).1.2.2, rightE_neg _ _ _ (by decide) (akp k h).2⟩, rngKs_mem gp.2.2.2.1 h⟩
          · exact ⟨⟨(akq k h).1.2.1, (akq k h).1.2.2, rightE_neg _ _ _ (by decide) (akq k h).2⟩, rngKs_mem gq.2.2.2.1 h⟩
          · have H := hk a ha b hb
            have hc : (f a.e b.e).2 = true := hc
            exact ⟨⟨(akp a ha).1.2.1, H.kind (akp a ha).1.2.2 (akq b hb).1.2.2 hc, rightE_neg _ _ _ (by decide) (H.wk hc).r⟩, (rngKs_mem gp.2.2.2.1 ha).1, (H.wk hc).g⟩
        refine ⟨fun _ => ⟨right_mk2 (wordsOk_of S.asc_ fun w h => (hw w h).1) (rightKs_of T.asc_ fun k h => (hm k h).1), ?_⟩, fun hK _ => ?_, fun _ _ _ => (show (2 : Int) ≠ 0 by decide), fun _ _ _ _ _ _ _ _ => .inr (.inl rfl)⟩
        · exact ⟨isI_n (by decide) (by decide), rng_nilT', rng_nilT', fun w h => (hw w h).2, isI_n (by decide) (by decide), rngKs_of fun k h => (hm k h).2, trivial⟩
        · have c1 := merge_sum (fun _ => 1) _ _ _ _ (Nat.le_refl _) (fun a _ b _ _ => by omega) hL
          have c2 := merge_sum ctKid _ _ _ _ (Nat.le_refl _) (fun a ha b hb hc => by
            have H := hk a ha b hb
            have hc : (f a.e b.e).2 = true := hc
            have := H.ct hK hc
            rw [ctKid_at, ctKid_at, ctKid_at]
            show 65600 + ctE (f a.e b.e).1 ≤ _
            omega) hM
          rw [sumN_len, sumN_len, sumN_len] at c1
          rw [sumN_ks, sumN_ks, sumN_ks] at c2
          have mo := mass_pos p.old; have mn := mass_pos p.new; have mo' := mass_pos q.old; have mn' := mass_pos q.new
          simp only [ctE, ctOs, ofO, Option.getD_some, mass_nilT]
          omega
  · rw [if_neg p2]
    have p3 : p.kind = 3 := by have := rp.kind; omega
    have q3 : q.kind = 3 := by omega
    have hl : p.list = q.list := by omega
    have hli := rp.list p3
    have op := rightE_ops wp.r
    have oq := rightE_ops wq.r
    unfold comOs
    by_cases hb1 : (pairG 1 2 p.ops q.ops []).2.1 = true
    · rw [if_pos hb1]
      cases hc : comPs f (pairG 1 2 p.ops q.ops []).1 with
      | none => exact ⟨fun h => (by cases h), fun _ h => (by cases h), fun _ _ h => (by cases h), fun _ _ _ _ _ h => (by cases h)⟩
      | some ops =>
        obtain ⟨j1, j2, j3, j4⟩ := list_wk wp wq p3 hl ih rfl hb1 hc
        have ook : ∀ o ∈ ops, 0 ≤ opLen o := fun o ho => opLen_nonneg (rightOp_ok (j1 o ho).1)
        have lA := lenA_sum ops 0 ook (by decide) (by decide)
        have lB := lenB_sum ops 0 ook (by decide) (by decide)
        have mA := lenA_sum p.ops 0 (fun o ho => opLen_nonneg (op o ho)) (by decide) (by decide)
        have mB := lenB_sum q.ops 0 (fun o ho => opLen_nonneg (oq o ho)) (by decide) (by decide)
        have t1 := rp.len.1
        have t2 := rq.len.2
        refine ⟨fun _ => ⟨?_, ?_⟩, fun hK _ => ?_, fun _ _ _ => (show (3 : Int) ≠ 0 by decide), fun list h7 h9 _ _ _ hp' hq' => ?_⟩
        · refine right_mk3 hli (rightOs_of fun o ho => (j1 o ho).1) ?_ ?_
          · rw [show ofO (some ops) = ops from rfl]; omega
          · rw [show ofO (some ops) = ops from rfl]; omega
        · refine ⟨isI_n (by decide) (by decide), rng_nilT', rng_nilT', by simp, ?_, trivial, rngOs_of fun o ho => (j1 o ho).2⟩
          unfold isI; omega
        · have j4 := j4 hK; have mo := mass_pos p.old; have mn := mass_pos p.new; have mo' := mass_pos q.old; have mn' := mass_pos q.new
          simp only [ctE, ctKs, ofO, Option.getD_some, mass_nilT, List.length_nil]
          omega
        · rcases hp' with h | h | h
          · exact .inl h
          · omega
          · omega
    · rw [if_neg hb1]
      exact ⟨fun h => (by cases h), fun _ h => (by cases h), fun _ _ h => (by cases h), fun _ _ _ _ _ h => (by cases h)⟩
theorem com_wk : ∀ (n : Nat) (p q : Edit), massE p + massE q ≤ n → Wk p → Wk q → ComWk True (comF n p q) p q := by
  intro n
  induction n with
  | zero => intro p q h; obtain ⟨k, o, nw, w, ks, l, os⟩ := p; simp only [massE] at h; omega
  | succ n ih =>
    intro p q hn wp wq
    exact step_wk wp wq fun a b hab wa wb => ih a b (by omega) wa wb
end Go.AM.Ytpjenobkibfpcaa

namespace Go.AM
noncomputable def comN (p q : Edit) : Edit × Bool := if (comE p q).2 = true then (nrmE (comE p q).1, true) else (Edit.nil, false)
def wOk (w : WEdit) : Prop := rngW w ∧ withinW w.old w.mask = true ∧ withinW w.new w.mask = true
end Go.AM

namespace Go.AM.Ytpjenobkibfpcaa
open Go.AM Go.Proofs
mutual
def utE : Edit → Nat
  | .mk _ o n w ks _ os => 16 + mass o + mass n + 65600 * w.length + utKs ks + utOs os
def utKs : List (KidOf Edit) → Nat
  | [] => 0
  | k :: r => utKid k + utKs r
def utKid : KidOf Edit → Nat
  | ⟨_, e⟩ => 65600 + utE e
def utOs : List (OpOf Edit) → Nat
  | [] => 0
  | o :: r => utOp o + utOs r
def utOp : OpOf Edit → Nat
  | ⟨k, n, l, e⟩ => if k = 3 then 16 + utE e else 34 * (n.toNat + l.length) + massK l
end
def φU (o : Op) : Int := utOp o
end Go.AM.Ytpjenobkibfpcaa

namespace Go.AM.Ytpjenobkibfpcaa
open Go.AM Go.Proofs
noncomputable section
def args105 : ArgL (Int × Unit) := (.cons (aInt .u8) .nil)
def pre105 (a : Int × Unit) : Prop := 0 ≤ a.1 ∧ a.1 < 256
noncomputable def res105 (a : Int × Unit) : V U := .c (.int .u64 ((widN (a.1).toNat 8 : Nat) : Int))
noncomputable def spec105 : Fs U := fs args105 (fun a => [pre105 a]) res105
def args66 : ArgL (Int × Int × Int × Unit) := (.cons (aInt .u64) (.cons (aInt .u64) (.cons (aInt .u8) .nil)))
def pre66 (a : Int × Int × Int × Unit) : Prop := (0 ≤ a.1 ∧ a.1 < 18446744073709551616) ∧ (0 ≤ a.2.1 ∧ a.2.1 < 18446744073709551616) ∧ (0 ≤ a.2.2.1 ∧ a.2.2.1 < 256)
noncomputable def res66 (a : Int × Int × Int × Unit) : V U := .c (.int .u64 (mix a.1 a.2.1 a.2.2.1))
noncomputable def spec66 : Fs U := fs args66 (fun a => [pre66 a]) res66
noncomputable def know105 : List (FuncId × Fs U) := []
def lv105 : Lives U := fun i => match i with
  | 0 => ([(0, [])], [])
  | 1 => ([(0, []), (3, [])], [])
  | 2 => ([(0, []), (3, []), (5, [])], [])
  | 3 => ([(0, []), (3, []), (5, []), (6, [])], [])
  | 4 => ([(0, []), (3, []), (4, []), (5, [])], [])
  | 5 => ([(0, []), (3, []), (4, []), (5, []), (12, [])], [])
  | 6 => ([(0, []), (3, []), (5, [])], [])
  | 7 => ([(0, []), (3, []), (5, [])], [])
  | 8 => ([(2, [])], [])
  | _ => ([], [])
def head105_0 (m : Int) (x3 : Int) (x5 : Int) : LSt U := (⟨[(0, .c (.int .u8 m)), (3, .c (.int .u64 x3)), (5, .c (.int .i64 x5))], [], []⟩ : LSt U)
abbrev W105 (m : Int) (Q : AExit → LSt U → Prop) := awp cfg (know know105) (drawOk cfg (know know105)) Try.f105.ntmps lv105 (cd Try.f105 []) (⟨[(0, .c (.int .u8 m))], [], []⟩ : LSt U) Q
abbrev a105_KG20c := awp cfg (know know105) (drawOk cfg (know know105)) Try.f105.ntmps lv105
abbrev s105_KG20c := seqK cfg (know know105) (drawOk cfg (know know105)) Try.f105.ntmps lv105
theorem vc105 (m : Int) (Q : AExit → LSt U → Prop) (h : LoopWp (awp cfg (know know105) (drawOk cfg (know know105)) Try.f105.ntmps lv105 (cd Try.f105 [1, 1, 0, 1, 0, 0])) (head105_0 m 0 0) (AExit.inBlock 0 (seqK cfg (know know105) (drawOk cfg (know know105)) Try.f105.ntmps lv105 (cd Try.f105 [1, 1, 1]) Q))) :
    W105 m Q := by
  have e_ : (W105 m Q) = ((((LoopWp (a105_KG20c (cd Try.f105 [1, 1, 0, 1, 0, 0])) (head105_0 m 0 0) (AExit.inBlock 0 (s105_KG20c (cd Try.f105 [1, 1, 1]) Q)))))) := by kernel_rfl
  exact e_.mpr h
abbrev W105_l0 (m : Int) (x3 : Int) (x5 : Int) (N0 : LSt U → Prop) (Q : AExit → LSt U → Prop) := awp cfg (know know105) (drawOk cfg (know know105)) Try.f105.ntmps lv105 (cd Try.f105 [1, 1, 0, 1, 0, 0]) (head105_0 m x3 x5) (AExit.then N0 (AExit.inBlock 0 (seqK cfg (know know105) (drawOk cfg (know know105)) Try.f105.ntmps lv105 (cd Try.f105 [1, 1, 1]) Q)))
theorem vc105_l0 (m : Int) (x3 : Int) (x5 : Int) (N0 : LSt U → Prop) (Q : AExit → LSt U → Prop) (h : ((decide ((x5 : Int) < 8)) = true → ((0 : Int) ≤ x5) ∧ (((((IntKind.wrap .u8 (BitVec.ofInt (IntKind.bits .u8) (Int.fdiv m (2 ^ (min (Int.toNat x5) (IntKind.bits .u8)))) &&& BitVec.ofInt (IntKind.bits .u8) 1).toNat) : Int) == 1) = true → (InR ((8 : Int) * x5)) ∧ ((0 : Int) ≤ ((8 : Int) * x5)) ∧ ((InR ((x5 : Int) + 1)) ∧ (N0 (head105_0 m (IntKind.wrap .u64 (BitVec.ofInt (IntKind.bits .u64) x3 ||| BitVec.ofInt (IntKind.bits .u64) (IntKind.wrap .u64 ((255 : Int) * 2 ^ (min (Int.toNat ((8 : Int) * x5)) (IntKind.bits .u64))))).toNat) ((x5 : Int) + 1))))) ∧ ((((IntKind.wrap .u8 (BitVec.ofInt (IntKind.bits .u8) (Int.fdiv m (2 ^ (min (Int.toNat x5) (IntKind.bits .u8)))) &&& BitVec.ofInt (IntKind.bits .u8) 1).toNat) : Int) == 1) = false → (InR ((x5 : Int) + 1)) ∧ (N0 (head105_0 m x3 ((x5 : Int) + 1)))))) ∧ ((decide ((x5 : Int) < 8)) = false → Q .ret (⟨[(2, .c (.int .u64 x3))], [], []⟩ : LSt U))) :
    W105_l0 m x3 x5 N0 Q := by
  have e_ : (W105_l0 m x3 x5 N0 Q) = (let zz0 := (((IntKind.wrap .u8 (BitVec.ofInt (IntKind.bits .u8) (Int.fdiv m (2 ^ (min (Int.toNat x5) (IntKind.bits .u8)))) &&& BitVec.ofInt (IntKind.bits .u8) 1).toNat) : Int) == 1); (((decide ((x5 : Int) < 8)) = true → (((0 : Int) ≤ x5) ∧ ((zz0 = true → (InR ((8 : Int) * x5)) ∧ ((0 : Int) ≤ ((8 : Int) * x5)) ∧ ((InR ((x5 : Int) + 1)) ∧ (N0 (head105_0 m (IntKind.wrap .u64 (BitVec.ofInt (IntKind.bits .u64) x3 ||| BitVec.ofInt (IntKind.bits .u64) (IntKind.wrap .u64 ((255 : Int) * 2 ^ (min (Int.toNat ((8 : Int) * x5)) (IntKind.bits .u64))))).toNat) ((x5 : Int) + 1))))) ∧ (zz0 = false → (InR ((x5 : Int) + 1)) ∧ (N0 (head105_0 m x3 ((x5 : Int) + 1))))))) ∧ ((decide ((x5 : Int) < 8)) = false → (Q .ret (⟨[(2, .c (.int .u64 x3))], [], []⟩ : LSt U))))) := by kernel_rfl
  exact e_.mpr ⟨fun c_1 => ⟨(h.1 c_1).1, ⟨fun c_2 => ⟨((h.1 c_1).2.1 c_2).1, ((h.1 c_1).2.1 c_2).2.1, ⟨((h.1 c_1).2.1 c_2).2.2.1, ((h.1 c_1).2.1 c_2).2.2.2⟩⟩, fun c_2 => ⟨((h.1 c_1).2.2 c_2).1, ((h.1 c_1).2.2 c_2).2⟩⟩⟩, fun c_1 => (h.2 c_1)⟩
def Body105 (m : Int)  : Prop := awp cfg (know (know105)) (drawOk cfg (know (know105))) Try.f105.ntmps lv105 (cd Try.f105 []) (entry (args105.can (m, ())) []) (EndsQ cfg Try.f105.ntmps Try.f105.results.toList (res105 (m, ())) [])
theorem make105 (hb : ∀ (m : Int) (_ : Unit), pre105 (m, ()) → Body105 m) : Contract Try.prog cfg 105 spec105 :=
  contract_flat (l := []) cfgOk rfl (trivial) lv105 Try.func105 rfl rfl 1 (fun _ => rfl) (by decide) (fun ⟨m, _⟩ => hb m ())
noncomputable def know66 : List (FuncId × Fs U) := [(105, spec105)]
def lv66 : Lives U := fun i => match i with
  | 0 => ([(0, []), (1, []), (2, [])], [])
  | 1 => ([(6, [])], [])
  | _ => ([], [])
abbrev W66 (a : Int) (b : Int) (m : Int) (Q : AExit → LSt U → Prop) := awp cfg (know know66) (drawOk cfg (know know66)) Try.f66.ntmps lv66 (cd Try.f66 []) (⟨[(0, .c (.int .u64 a)), (1, .c (.int .u64 b)), (2, .c (.int .u8 m))], [], []⟩ : LSt U) Q
theorem vc66 (a : Int) (b : Int) (m : Int) (Q : AExit → LSt U → Prop) (h : (pre105 (m, ())) ∧ (pre105 (m, ())) ∧ (Q .ret (⟨[(6, .c (.int .u64 (IntKind.wrap .u64 (BitVec.ofInt (IntKind.bits .u64) (IntKind.wrap .u64 (BitVec.ofInt (IntKind.bits .u64) a &&& ~~~(BitVec.ofInt (IntKind.bits .u64) ((widN (m).toNat 8 : Nat) : Int))).toNat) ||| BitVec.ofInt (IntKind.bits .u64) (IntKind.wrap .u64 (BitVec.ofInt (IntKind.bits .u64) b &&& BitVec.ofInt (IntKind.bits .u64) ((widN (m).toNat 8 : Nat) : Int)).toNat)).toNat)))], [], []⟩ : LSt U))) :
    W66 a b m Q := by
  have e_ : (W66 a b m Q) = (type_of% h) := by kernel_rfl
  exact e_.mpr ⟨h.1, h.2.1, h.2.2⟩
def Body66 (a : Int) (b : Int) (m : Int)  : Prop := awp cfg (know (know66)) (drawOk cfg (know (know66))) Try.f66.ntmps lv66 (cd Try.f66 []) (entry (args66.can (a, b, m, ())) []) (EndsQ cfg Try.f66.ntmps Try.f66.results.toList (res66 (a, b, m, ())) [])
theorem make66 (c105 : Contract Try.prog cfg 105 spec105) (hb : ∀ (a : Int) (b : Int) (m : Int) (_ : Unit), pre66 (a, b, m, ()) → Body66 a b m) : Contract Try.prog cfg 66 spec66 :=
  contract_flat (l := [(105, spec105)]) cfgOk rfl (⟨c105, trivial⟩) lv66 Try.func66 rfl rfl 3 (fun _ => rfl) (by decide) (fun ⟨a, b, m, _⟩ => hb a b m ())
end
end Go.AM.Ytpjenobkibfpcaa

namespace Go.AM.Ytpjenobkibfpcaa
open Go.AM Go.Proofs
theorem bit_of : ∀ n : Fin 256, ∀ i : Fin 8, IntKind.wrap .u8 (BitVec.ofInt (IntKind.bits .u8) (Int.fdiv (n.1 : Int) (2 ^ (min (Int.toNat (i.1 : Int)) (IntKind.bits .u8)))) &&& BitVec.ofInt (IntKind.bits .u8) 1).toNat = ((n.1 / 2 ^ i.1 % 2 : Nat) : Int) := by decide +kernel
theorem or_byte : ∀ n : Fin 256, ∀ i : Fin 8, IntKind.wrap .u64 (BitVec.ofInt (IntKind.bits .u64) ((widN n.1 i.1 : Nat) : Int) ||| BitVec.ofInt (IntKind.bits .u64) (IntKind.wrap .u64 (255 * 2 ^ (min (Int.toNat (8 * (i.1 : Int))) (IntKind.bits .u64))))).toNat = ((widN n.1 i.1 + 255 * 2 ^ (8 * i.1) : Nat) : Int) := by decide +kernel
theorem c105 : Contract Try.prog cfg 105 spec105 := by
  refine make105 ?_
  intro m _ hp
  simp only [pre105] at hp
  obtain ⟨n, rfl⟩ := Int.eq_ofNat_of_zero_le hp.1
  have hn : n < 256 := by omega
  refine vc105 _ _ ?_
  refine loop_rule (ι := Nat) (fun i => head105_0 n ((widN n i : Nat) : Int) i) (fun i => i ≤ 8) (fun i => 8 - i) 0 rfl (by omega) ?_
  intro i hi
  refine vc105_l0 _ _ _ _ _ ?_
  (simp only [vcS])
  refine ⟨fun hc => ⟨by omega, fun hq => ⟨by unfold InR; omega, by omega, by unfold InR; omega, i + 1, ?_, by omega, by omega⟩, fun hq => ⟨by unfold InR; omega, i + 1, ?_, by omega, by omega⟩⟩, fun hc => ?_⟩
  · have h1 := bit_of ⟨n, hn⟩ ⟨i, by omega⟩
    have h2 := or_byte ⟨n, hn⟩ ⟨i, by omega⟩
    simp only at h1 h2
    rw [h1] at hq
    rw [h2]
    have e : widN n (i + 1) = widN n i + 255 * 2 ^ (8 * i) := by simp only [widN]; rw [if_pos (by omega)]
    rw [e]
    rfl
  · have h1 := bit_of ⟨n, hn⟩ ⟨i, by omega⟩
    simp only at h1
    rw [h1] at hq
    have e : widN n (i + 1) = widN n i := by simp only [widN]; rw [if_neg (by omega)]; omega
    rw [e]
    rfl
  · have : i = 8 := by omega
    subst this
    exact ends_int rfl rfl
theorem ofInt_nat (a : Nat) (h : a < 2 ^ 64) : (BitVec.ofInt 64 (a : Int)).toNat = a := by
  rw [BitVec.toNat_ofInt]
  omega
theorem c66 : Contract Try.prog cfg 66 spec66 := by
  refine make66 c105 ?_
  intro a b m _ hp
  simp only [pre66] at hp
  obtain ⟨⟨a0, a1⟩, ⟨b0, b1⟩, m0, m1⟩ := hp
  obtain ⟨x, rfl⟩ := Int.eq_ofNat_of_zero_le a0
  obtain ⟨y, rfl⟩ := Int.eq_ofNat_of_zero_le b0
  obtain ⟨n, rfl⟩ := Int.eq_ofNat_of_zero_le m0
  have hn : n < 256 := by omega
  have hx : x < 2 ^ 64 := by omega
  have hy : y < 2 ^ 64 := by omega
  have hw := widW_lt ⟨n, hn⟩
  have hw2 := widN_eq ⟨n, hn⟩
  simp only at hw hw2
  rw [← hw2] at hw
  refine vc66 _ _ _ _ ?_
  refine ⟨⟨m0, m1⟩, ⟨m0, m1⟩, ends_int rfl ?_⟩
  have em : mix x y n = (((x &&& (2 ^ 64 - 1 - widN n 8)) ||| (y &&& widN n 8) : Nat) : Int) := by rw [← mixW_mix, ← mix_bits x y n hn]
  have e1 : (BitVec.ofInt 64 (x : Int) &&& ~~~(BitVec.ofInt 64 ((widN n 8 : Nat) : Int))).toNat = x &&& (2 ^ 64 - 1 - widN n 8) := by
    rw [BitVec.toNat_and, BitVec.toNat_not, ofInt_nat x hx, ofInt_nat _ hw]
  have e2 : (BitVec.ofInt 64 (y : Int) &&& BitVec.ofInt 64 ((widN n 8 : Nat) : Int)).toNat = y &&& widN n 8 := by
    rw [BitVec.toNat_and, ofInt_nat y hy, ofInt_nat _ hw]
  have l1 : x &&& (2 ^ 64 - 1 - widN n 8) < 2 ^ 64 := Nat.lt_of_le_of_lt Nat.and_le_left hx
  have l2 : y &&& widN n 8 < 2 ^ 64 := Nat.lt_of_le_of_lt Nat.and_le_left hy
  have l3 : (x &&& (2 ^ 64 - 1 - widN n 8)) ||| (y &&& widN n 8) < 2 ^ 64 := Nat.or_lt_two_pow l1 l2
  have key : IntKind.wrap .u64 ((BitVec.ofInt 64 (IntKind.wrap .u64 ((BitVec.ofInt 64 (x : Int) &&& ~~~(BitVec.ofInt 64 ((widN n 8 : Nat) : Int))).toNat : Int)) ||| BitVec.ofInt 64 (IntKind.wrap .u64 ((BitVec.ofInt 64 (y : Int) &&& BitVec.ofInt 64 ((widN n 8 : Nat) : Int)).toNat : Int))).toNat : Int) = mix x y n := by
    have w1 : ∀ k : Nat, k < 2 ^ 64 → IntKind.wrap .u64 (k : Int) = k := fun k hk => wrap_u64 (by omega) (by omega)
    rw [e1, e2, w1 _ l1, w1 _ l2, BitVec.toNat_or, ofInt_nat _ l1, ofInt_nat _ l2, w1 _ l3, em]
  exact key
end Go.AM.Ytpjenobkibfpcaa

namespace Go.AM.Ytpjenobkibfpcaa
open Go.AM Go.Proofs
noncomputable section
def args151 : ArgL (List Tree × List Tree × Unit × Unit) := (.cons (aSl .tree) (.cons (aSl .tree) (.cons (aFn 106) .nil)))
def pre151 (a : List Tree × List Tree × Unit × Unit) : Prop := massK a.1 ≤ 1000000000000 ∧ massK a.2.1 ≤ 1000000000000
noncomputable def res151 (a : List Tree × List Tree × Unit × Unit) : V U := .c (.bool (eqX (normsT a.1) (normsT a.2.1)))
noncomputable def spec151 : Fs U := fs args151 (fun a => [pre151 a]) res151
noncomputable def know151 : List (FuncId × Fs U) := [(106, spec106)]
def lv151 : Lives U := fun i => match i with
  | 0 => ([(0, []), (1, []), (2, [])], [])
  | 1 => ([(0, []), (1, []), (2, []), (14, [])], [])
  | 2 => ([(6, [])], [])
  | 3 => ([(1, []), (2, []), (15, []), (16, []), (17, [])], [])
  | 4 => ([(1, []), (2, []), (15, []), (16, []), (17, []), (18, [])], [])
  | 5 => ([(1, []), (2, []), (7, []), (8, []), (15, []), (16, []), (17, [])], [((.loc 8), [])])
  | 6 => ([(1, []), (2, []), (8, []), (9, []), (15, []), (16, []), (17, [])], [((.loc 8), []), ((.loc 9), [])])
  | 7 => ([(1, []), (2, []), (15, []), (16, []), (17, []), (30, [])], [])
  | 8 => ([(6, [])], [])
  | 9 => ([(1, []), (2, []), (15, []), (16, []), (17, [])], [])
  | 10 => ([(6, [])], [])
  | _ => ([], [])
def head151_0 (a : List Tree) (b : List Tree) (f : Unit) (x17 : Int) : LSt U := (⟨[(1, .c (.slice (U := U) .tree b .unk)), (2, .fn 106), (15, .c (.slice (U := U) .tree a .unk)), (16, .c (.int .i64 (a.length : Int))), (17, .c (.int .i64 x17))], [], []⟩ : LSt U)
abbrev W151 (a : List Tree) (b : List Tree) (f : Unit) (Q : AExit → LSt U → Prop) := awp cfg (know know151) (drawOk cfg (know know151)) Try.f151.ntmps lv151 (cd Try.f151 []) (⟨[(0, .c (.slice (U := U) .tree a .unk)), (1, .c (.slice (U := U) .tree b .unk)), (2, .fn 106)], [], []⟩ : LSt U) Q
abbrev a151_KG20d := awp cfg (know know151) (drawOk cfg (know know151)) Try.f151.ntmps lv151
abbrev s151_KG20d := seqK cfg (know know151) (drawOk cfg (know know151)) Try.f151.ntmps lv151
theorem vc151 (a : List Tree) (b : List Tree) (f : Unit) (Q : AExit → LSt U → Prop) (h : ((((a.length : Int) : Int) != (b.length : Int)) = true → Q .ret (⟨[(6, .c (.bool false))], [], []⟩ : LSt U)) ∧ ((((a.length : Int) : Int) != (b.length : Int)) = false → LoopWp (awp cfg (know know151) (drawOk cfg (know know151)) Try.f151.ntmps lv151 (cd Try.f151 [1, 1, 0, 1, 0, 0])) (head151_0 a b f 0) (AExit.inBlock 0 (seqK cfg (know know151) (drawOk cfg (know know151)) Try.f151.ntmps lv151 (cd Try.f151 [1, 1, 1]) Q)))) :
    W151 a b f Q := by
  have e_ : (W151 a b f Q) = ((((((a.length : Int) != (b.length : Int)) = true → (Q .ret (⟨[(6, .c (.bool false))], [], []⟩ : LSt U))) ∧ (((a.length : Int) != (b.length : Int)) = false → (LoopWp (a151_KG20d (cd Try.f151 [1, 1, 0, 1, 0, 0])) (head151_0 a b f 0) (AExit.inBlock 0 (s151_KG20d (cd Try.f151 [1, 1, 1]) Q))))))) := by kernel_rfl
  exact e_.mpr ⟨fun c_4 => (h.1 c_4), fun c_4 => (h.2 c_4)⟩
abbrev W151_l0 (a : List Tree) (b : List Tree) (f : Unit) (x17 : Int) (N0 : LSt U → Prop) (Q : AExit → LSt U → Prop) := awp cfg (know know151) (drawOk cfg (know know151)) Try.f151.ntmps lv151 (cd Try.f151 [1, 1, 0, 1, 0, 0]) (head151_0 a b f x17) (AExit.then N0 (AExit.inBlock 0 (seqK cfg (know know151) (drawOk cfg (know know151)) Try.f151.ntmps lv151 (cd Try.f151 [1, 1, 1]) Q)))
theorem vc151_l0 (a : List Tree) (b : List Tree) (f : Unit) (x17 : Int) (N0 : LSt U → Prop) (Q : AExit → LSt U → Prop) (h : ((decide ((x17 : Int) < (a.length : Int))) = true → ((0 : Int) ≤ x17 ∧ x17 < (a.length : Int)) ∧ (((0 : Int) ≤ x17 ∧ x17 < (b.length : Int)) ∧ ((pre106 ((Tree.mk (Tree.kind (List.getD a (Int.toNat x17) Tree.nil)) (Tree.words (List.getD a (Int.toNat x17) Tree.nil)) (Tree.kids (List.getD a (Int.toNat x17) Tree.nil))), (Tree.mk (Tree.kind (List.getD b (Int.toNat x17) Tree.nil)) (Tree.words (List.getD b (Int.toNat x17) Tree.nil)) (Tree.kids (List.getD b (Int.toNat x17) Tree.nil))), ())) ∧ (((!(sameT (normT (Tree.mk (Tree.kind (List.getD a (Int.toNat x17) Tree.nil)) (Tree.words (List.getD a (Int.toNat x17) Tree.nil)) (Tree.kids (List.getD a (Int.toNat x17) Tree.nil)))) (normT (Tree.mk (Tree.kind (List.getD b (Int.toNat x17) Tree.nil)) (Tree.words (List.getD b (Int.toNat x17) Tree.nil)) (Tree.kids (List.getD b (Int.toNat x17) Tree.nil)))))) = true → Q .ret (⟨[(6, .c (.bool false))], [], []⟩ : LSt U)) ∧ ((!(sameT (normT (Tree.mk (Tree.kind (List.getD a (Int.toNat x17) Tree.nil)) (Tree.words (List.getD a (Int.toNat x17) Tree.nil)) (Tree.kids (List.getD a (Int.toNat x17) Tree.nil)))) (normT (Tree.mk (Tree.kind (List.getD b (Int.toNat x17) Tree.nil)) (Tree.words (List.getD b (Int.toNat x17) Tree.nil)) (Tree.kids (List.getD b (Int.toNat x17) Tree.nil)))))) = false → (InR ((x17 : Int) + 1)) ∧ (N0 (head151_0 a b f ((x17 : Int) + 1)))))))) ∧ ((decide ((x17 : Int) < (a.length : Int))) = false → Q .ret (⟨[(6, .c (.bool true))], [], []⟩ : LSt U))) :
    W151_l0 a b f x17 N0 Q := by
  have e_ : (W151_l0 a b f x17 N0 Q) = (let zz0 := (!(sameT (normT (Tree.mk (Tree.kind (List.getD a (Int.toNat x17) Tree.nil)) (Tree.words (List.getD a (Int.toNat x17) Tree.nil)) (Tree.kids (List.getD a (Int.toNat x17) Tree.nil)))) (normT (Tree.mk (Tree.kind (List.getD b (Int.toNat x17) Tree.nil)) (Tree.words (List.getD b (Int.toNat x17) Tree.nil)) (Tree.kids (List.getD b (Int.toNat x17) Tree.nil)))))); (((decide ((x17 : Int) < (a.length : Int))) = true → ((0 : Int) ≤ x17 ∧ x17 < (a.length : Int)) ∧ (((0 : Int) ≤ x17 ∧ x17 < (b.length : Int)) ∧ ((pre106 ((Tree.mk (Tree.kind (List.getD a (Int.toNat x17) Tree.nil)) (Tree.words (List.getD a (Int.toNat x17) Tree.nil)) (Tree.kids (List.getD a (Int.toNat x17) Tree.nil))), (Tree.mk (Tree.kind (List.getD b (Int.toNat x17) Tree.nil)) (Tree.words (List.getD b (Int.toNat x17) Tree.nil)) (Tree.kids (List.getD b (Int.toNat x17) Tree.nil))), ())) ∧ ((zz0 = true → (Q .ret (⟨[(6, .c (.bool false))], [], []⟩ : LSt U))) ∧ (zz0 = false → (InR ((x17 : Int) + 1)) ∧ (N0 (head151_0 a b f ((x17 : Int) + 1)))))))) ∧ ((decide ((x17 : Int) < (a.length : Int))) = false → (Q .ret (⟨[(6, .c (.bool true))], [], []⟩ : LSt U))))) := by kernel_rfl
  exact e_.mpr ⟨fun c_5 => ⟨(h.1 c_5).1, ⟨(h.1 c_5).2.1, ⟨(h.1 c_5).2.2.1, ⟨fun c_6 => ((h.1 c_5).2.2.2.1 c_6), fun c_6 => ⟨((h.1 c_5).2.2.2.2 c_6).1, ((h.1 c_5).2.2.2.2 c_6).2⟩⟩⟩⟩⟩, fun c_5 => (h.2 c_5)⟩
def Body151 (a : List Tree) (b : List Tree) (f : Unit)  : Prop := awp cfg (know (know151)) (drawOk cfg (know (know151))) Try.f151.ntmps lv151 (cd Try.f151 []) (entry (args151.can (a, b, f, ())) []) (EndsQ cfg Try.f151.ntmps Try.f151.results.toList (res151 (a, b, f, ())) [])
theorem make151 (c106 : Contract Try.prog cfg 106 spec106) (hb : ∀ (a : List Tree) (b : List Tree) (f : Unit) (_ : Unit), pre151 (a, b, f, ()) → Body151 a b f) : Contract Try.prog cfg 151 spec151 :=
  contract_flat (l := [(106, spec106)]) cfgOk rfl (⟨c106, trivial⟩) lv151 Try.func151 rfl rfl 3 (fun _ => rfl) (by decide) (fun ⟨a, b, f, _⟩ => hb a b f ())
end
end Go.AM.Ytpjenobkibfpcaa

namespace Go.AM.Ytpjenobkibfpcaa
open Go.AM Go.Proofs
theorem c151 : Contract Try.prog cfg 151 spec151 := by
  refine make151 c106 ?_
  intro a b f _ hp
  simp only [pre151] at hp
  refine vc151 a b f _ ?_
  (simp only [vcS])
  refine ⟨fun hc => ends_bool rfl (eqX_no (a := normsT a) (b := normsT b) (fun h => hc (by have := congrArg List.length h; simp [normsT] at this; omega))).symm, fun hc => ?_⟩
  have hl : a.length = b.length := by omega
  have hla := massK_len a
  refine loop_rule (ι := Int) (fun i => head151_0 a b f i) (fun i => 0 ≤ i ∧ i ≤ a.length ∧ ∀ j : Nat, (j : Int) < i → normT (a.getD j Tree.nil) = normT (b.getD j Tree.nil)) (fun i => ((a.length : Int) - i).toNat) 0 rfl ⟨by omega, by omega, by intro j hj; omega⟩ ?_
  rintro i ⟨h1, h2, h3⟩
  refine vc151_l0 a b f _ _ _ ?_
  (simp only [vcS])
  (simp only [Tree.eta, Edit.eta, Tree.kind_mk, Tree.words_mk, Tree.kids_mk])
  refine ⟨fun hi => ⟨⟨h1, hi⟩, ⟨h1, by omega⟩, ?_, fun hq => ?_, fun hq => ⟨by unfold InR; omega, i + 1, rfl, ⟨by omega, by omega, ?_⟩, by omega⟩⟩, fun hi => ?_⟩
  · have := massK_mem (mem_getD (l := a) (i := i.toNat) (by omega) Tree.nil)
    have := massK_mem (mem_getD (l := b) (i := i.toNat) (by omega) Tree.nil)
    simp only [pre106]; omega
  · refine ends_bool rfl (eqX_no (a := normsT a) (b := normsT b) (fun h => ?_)).symm
    have h5 := getD_map_eq (d := Tree.nil) h i.toNat
    rw [sameT_false] at hq
    exact hq h5
  · intro j hj
    by_cases hj2 : (j : Int) < i
    · exact h3 j hj2
    · rw [sameT_true, show i.toNat = j by omega] at hq
      exact hq
  · exact ends_bool rfl (eqX_iff (a := normsT a) (b := normsT b).2 (map_eq_getD Tree.nil hl (fun j hj => h3 j (by omega)))).symm
end Go.AM.Ytpjenobkibfpcaa
