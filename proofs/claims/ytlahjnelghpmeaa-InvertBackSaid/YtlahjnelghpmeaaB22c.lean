import Derived.Test.YtlahjnelghpmeaaL22r
import Derived.Test.YtlahjnelghpmeaaL21
set_option linter.unusedSimpArgs false
set_option linter.unusedVariables false
namespace Go.AM.Ytlahjnelghpmeaa
open Go.AM Go.Proofs
theorem rngK_app : ∀ {a b : List Tree}, rngK (a ++ b) ↔ rngK a ∧ rngK b
  | [], b => by simp [rngK]
  | t :: r, b => by simp only [List.cons_append, rngK]; rw [rngK_app (a := r), and_assoc]
mutual
theorem rng_norm : ∀ (t : Tree), rng t → rng (normT t)
  | .mk k w ks, h => by
    simp only [rng] at h
    obtain ⟨h1, h2, h3⟩ := h
    have h4 := rngK_norm ks h3
    simp only [normT]
    split
    · simp only [Tree.nil, rng, rngK]
      exact ⟨by decide, by simp, trivial⟩
    · split
      · obtain ⟨r1, e1⟩ := trim_pre w
        obtain ⟨r2, e2⟩ := trimK_pre (normK ks)
        simp only [rng]
        refine ⟨by decide, fun x hx => h2 x (by rw [e1]; exact List.mem_append.2 (Or.inl hx)), ?_⟩
        rw [e2] at h4
        exact (rngK_app.1 h4).1
      · simp only [rng]
        exact ⟨h1, h2, h4⟩
theorem rngK_norm : ∀ (l : List Tree), rngK l → rngK (normK l)
  | [], _ => trivial
  | t :: r, h => by
    simp only [rngK] at h
    have h1 := rng_norm t h.1
    have h2 := rngK_norm r h.2
    simp only [normK, rngK]
    exact ⟨h1, h2⟩
end
theorem rngK_norms : ∀ {l : List Tree}, rngK l → rngK (normsT l)
  | [], _ => trivial
  | t :: r, h => by
    simp only [rngK] at h
    have h2 := rngK_norms h.2
    simp only [normsT] at h2
    simp only [normsT, List.map_cons, rngK]
    exact ⟨rng_norm t h.1, h2⟩
theorem rng_nilT : rng Tree.nil := by
  simp only [Tree.nil, rng, rngK]
  exact ⟨by decide, by simp, trivial⟩
mutual
theorem rngE_turn : ∀ (e : Edit), rngE e → rngE (turnE e)
  | .mk k o n w ks l os, h => by
    simp only [rngE] at h
    obtain ⟨h1, h2, h3, h4, h5, h6, h7⟩ := h
    have i6 := rngKs_turn ks h6
    have i7 := rngOs_turn os h7
    simp only [turnE, rngE]
    refine ⟨h1, h3, h2, fun x hx => ?_, h5, i6, i7⟩
    obtain ⟨y, hy, rfl⟩ := List.mem_map.1 hx
    have := h4 y hy
    simp only [rngW, turnW] at this ⊢
    exact ⟨this.1, this.2.1, this.2.2.2, this.2.2.1⟩
theorem rngKs_turn : ∀ (ks : List (KidOf Edit)), rngKs ks → rngKs (turnKs ks)
  | [], _ => trivial
  | k :: r, h => by
    simp only [rngKs] at h
    have h1 := rngKid_turn k h.1
    have h2 := rngKs_turn r h.2
    simp only [turnKs, rngKs]
    exact ⟨h1, h2⟩
theorem rngKid_turn : ∀ (k : KidOf Edit), rngKid k → rngKid (turnKid k)
  | ⟨a, e⟩, h => by
    simp only [rngKid] at h
    have h2 := rngE_turn e h.2
    simp only [turnKid, rngKid]
    exact ⟨h.1, h2⟩
theorem rngOs_turn : ∀ (os : List (OpOf Edit)), rngOs os → rngOs (turnOs os)
  | [], _ => trivial
  | o :: r, h => by
    simp only [rngOs] at h
    have h1 := rngOp_turn o h.1
    have h2 := rngOs_turn r h.2
    simp only [turnOs, rngOs]
    exact ⟨h1, h2⟩
theorem rngOp_turn : ∀ (o : OpOf Edit), rngOp o → rngOp (turnOp o)
  | ⟨k, n, l, e⟩, h => by
    simp only [rngOp] at h
    have h4 := rngE_turn e h.2.2.2
    simp only [turnOp]
    split
    · simp only [rngOp]; exact ⟨by unfold isI; omega, h.2⟩
    · split
      · simp only [rngOp]; exact ⟨by unfold isI; omega, h.2⟩
      · split
        · simp only [rngOp]; exact ⟨h.1, h.2.1, h.2.2.1, h4⟩
        · simp only [rngOp]; exact h
end
structure RngW (w : Wst) : Prop where
  out : ∀ o ∈ w.out, rngK o.l ∧ rngE o.e
  gone : rngK w.gone
  brought : rngK w.brought
theorem rngE_none : rngE Edit.nil := by
  simp only [Edit.nil, rngE, rngKs, rngOs]
  exact ⟨by unfold isI; omega, rng_nilT, rng_nilT, by simp, by unfold isI; omega, trivial, trivial⟩
theorem rngW_flush {w : Wst} (h : RngW w) : RngW (flushW w) := by
  refine ⟨?_, trivial, trivial⟩
  simp only [flushW, flushO]
  intro o ho
  rcases List.mem_append.1 ho with ho | ho
  · exact h.out o ho
  rcases List.mem_append.1 ho with ho | ho
  · split at ho
    · cases ho
    · simp only [List.mem_singleton] at ho
      subst ho
      exact ⟨h.gone, rngE_none⟩
  · split at ho
    · cases ho
    · simp only [List.mem_singleton] at ho
      subst ho
      exact ⟨h.brought, rngE_none⟩
theorem rngW_keep {w : Wst} {n : Int} (h : RngW w) : RngW (keepW w n) := by
  have hf := rngW_flush h
  refine ⟨?_, trivial, trivial⟩
  simp only [keepW]
  intro o ho
  rcases keepO_cases (flushW w).out n with e | ⟨a, q, e1, e2, e3⟩
  · rw [e] at ho
    rcases List.mem_append.1 ho with ho | ho
    · exact hf.out o ho
    · simp only [List.mem_singleton] at ho
      subst ho
      exact ⟨trivial, rngE_none⟩
  · rw [e3] at ho
    rcases List.mem_append.1 ho with ho | ho
    · exact hf.out o (by rw [e1]; exact List.mem_append.2 (Or.inl ho))
    · simp only [List.mem_singleton] at ho
      subst ho
      exact hf.out q (by rw [e1]; simp)
theorem rngW_op {list : Int} {w : Wst} {o : Op} (h : RngW w) (hl : rngK o.l) (he : rngE (nrmE o.e)) : RngW (nrmOp list o w) := by
  rw [nrmOp_at]
  split
  · exact rngW_keep h
  · split
    · exact ⟨h.out, rngK_app.2 ⟨h.gone, rngK_norms hl⟩, h.brought⟩
    · split
      · exact ⟨h.out, h.gone, rngK_app.2 ⟨h.brought, rngK_norms hl⟩⟩
      · split
        · split
          · exact rngW_keep h
          · refine ⟨?_, trivial, trivial⟩
            intro o ho
            rcases List.mem_append.1 ho with ho | ho
            · exact (rngW_flush h).out o ho
            · simp only [List.mem_singleton] at ho
              subst ho
              exact ⟨trivial, he⟩
        · exact h
theorem rngOs_every : ∀ {os : List Op}, (∀ o ∈ os, rngOp o) → rngOs os
  | [], _ => trivial
  | o :: r, h => by
    simp only [rngOs]
    exact ⟨h o (List.mem_cons_self ..), rngOs_every (fun x hx => h x (List.mem_cons_of_mem _ hx))⟩
theorem rightOp_rng {list d : Int} {o : Op} (h : rightOp list o d = true) (hl : rngK o.l) (he : rngE o.e) : rngOp o := by
  have hn := rightOp_n h
  obtain ⟨k, n, l, e⟩ := o
  simp only at hn hl he
  simp only [rngOp]
  refine ⟨?_, by unfold isI; omega, hl, he⟩
  rw [rightOp] at h
  unfold isI
  split at h
  · omega
  · split at h
    · cases h
    · omega
mutual
theorem rngE_nrm' : ∀ (e : Edit) (d : Int), rightE e d = true → rngE e → rngE (nrmE e)
  | .mk k o n w ks l os, d, hr, h => by
    have hin := rightE_in hr
    have hout := rightE_in (rightE_nrm _ _ hr)
    simp only [Edit.kids_mk, Edit.ops_mk, Edit.list_mk] at hin
    simp only [rngE] at h
    obtain ⟨h1, h2, h3, h4, h5, h6, h7⟩ := h
    have i6 := rngKs_nrm ks (d - 1) (fun k hk => (hin.1 k hk).1) h6
    have i7 := rngOs_nrm l os (d - 1) hin.2 h7 W0 ⟨fun o ho => (by cases ho), trivial, trivial⟩
    rw [nrmE] at hout ⊢
    by_cases k1 : k = 1
    · rw [if_pos k1]
      simp only [rngE]
      exact ⟨h1, rng_norm o h2, rng_norm n h3, by simp, h5, trivial, trivial⟩
    · rw [if_neg k1] at hout ⊢
      by_cases k2 : k = 2
      · rw [if_pos k2]
        simp only [rngE]
        exact ⟨h1, rng_nilT, rng_nilT, h4, h5, i6, trivial⟩
      · rw [if_neg k2] at hout ⊢
        by_cases k3 : k = 3
        · rw [if_pos k3] at hout ⊢
          simp only [rngE]
          refine ⟨h1, rng_nilT, rng_nilT, by simp, h5, trivial, rngOs_every (fun q hq => ?_)⟩
          have hx := hout.2 q hq
          have hy := (rngW_flush i7).out q hq
          exact rightOp_rng hx hy.1 hy.2
        · rw [if_neg k3]
          simp only [rngE]
          exact ⟨h1, rng_nilT, rng_nilT, by simp, h5, trivial, trivial⟩
theorem rngKs_nrm : ∀ (ks : List (KidOf Edit)) (d : Int), (∀ k ∈ ks, rightE k.e d = true) → rngKs ks → rngKs (nrmKs ks)
  | [], _, _, _ => trivial
  | k :: r, d, hr, h => by
    simp only [rngKs] at h
    have h1 := rngKid_nrm k d (hr k (List.mem_cons_self ..)) h.1
    have h2 := rngKs_nrm r d (fun x hx => hr x (List.mem_cons_of_mem _ hx)) h.2
    simp only [nrmKs, rngKs]
    exact ⟨h1, h2⟩
theorem rngKid_nrm : ∀ (k : KidOf Edit) (d : Int), rightE k.e d = true → rngKid k → rngKid (nrmKid k)
  | ⟨a, e⟩, d, hr, h => by
    simp only [rngKid] at h
    have h2 := rngE_nrm' e d hr h.2
    simp only [nrmKid, rngKid]
    exact ⟨h.1, h2⟩
theorem rngOs_nrm (list : Int) : ∀ (os : List (OpOf Edit)) (d : Int), (∀ o ∈ os, rightOp list o d = true) → rngOs os → ∀ (w : Wst), RngW w → RngW (nrmOs list os w)
  | [], _, _, _, w, hw => hw
  | o :: r, d, hr, h, w, hw => by
    simp only [rngOs] at h
    have h1 := rngOp_nrm list o d (hr o (List.mem_cons_self ..)) h.1 w hw
    exact rngOs_nrm list r d (fun x hx => hr x (List.mem_cons_of_mem _ hx)) h.2 _ h1
theorem rngOp_nrm (list : Int) : ∀ (o : OpOf Edit) (d : Int), rightOp list o d = true → rngOp o → ∀ (w : Wst), RngW w → RngW (nrmOp list o w)
  | ⟨k, n, l, e⟩, d, hr, h, w, hw => by
    simp only [rngOp] at h
    by_cases k3 : k = 3
    · have he : rightE e d = true := by
        rw [rightOp, if_neg (by omega), ] at hr
        split at hr
        · cases hr
        · rw [if_neg (by omega)] at hr
          simp only [Bool.and_eq_true] at hr
          exact hr.1.2
      exact rngW_op (o := ⟨k, n, l, e⟩) hw h.2.2.1 (rngE_nrm' e d he h.2.2.2)
    · have hs : rngE (nrmE Edit.nil) := by
        show rngE (.mk 0 Tree.nil Tree.nil [] [] 0 [])
        exact rngE_none
      have e2 : nrmOp list ⟨k, n, l, e⟩ w = nrmOp list ⟨k, n, l, Edit.nil⟩ w := by
        simp only [nrmOp]
        rw [if_neg k3, if_neg k3]
      rw [e2]
      exact rngW_op (o := ⟨k, n, l, Edit.nil⟩) hw h.2.2.1 hs
end
end Go.AM.Ytlahjnelghpmeaa

namespace Go.AM.Ytlahjnelghpmeaa
open Go.AM Go.Proofs
theorem massTK (t : Tree) : t.words.length + massK t.kids + 1 = mass t := by obtain ⟨k, w, ks⟩ := t; simp only [mass, Tree.words_mk, Tree.kids_mk]; omega
theorem massK_set : ∀ (l : List Tree) (i : Nat) (x : Tree), i < l.length → massK (l.set i x) + mass (l.getD i Tree.nil) = massK l + mass x
  | [], i, x, h => by simp at h
  | a :: r, 0, x, _ => by simp only [List.set_cons_zero, massK, List.getD_cons_zero]; omega
  | a :: r, i + 1, x, h => by
    have := massK_set r i x (by simpa using h)
    simp only [List.set_cons_succ, massK, List.getD_cons_succ]; omega
theorem massK_reps (n : Nat) : massK (List.replicate n Tree.nil) = n := by
  induction n with
  | zero => rfl
  | succ n ih => rw [List.replicate_succ, massK, ih]; simp [Tree.nil, mass, massK]; omega
theorem massK_cat : ∀ (a b : List Tree), massK (a ++ b) = massK a + massK b
  | [], b => by simp [massK]
  | t :: r, b => by simp only [List.cons_append, massK, massK_cat r b]; omega
theorem massK_pad (l : List Tree) (i : Nat) (x : Tree) : massK (setPad Tree.nil l i x) + mass (l.getD i Tree.nil) ≤ massK l + mass x + (i + 1) := by
  have h := massK_set (l ++ List.replicate (i + 1 - l.length) Tree.nil) i x (by simp; omega)
  have e : (l ++ List.replicate (i + 1 - l.length) Tree.nil).getD i Tree.nil = l.getD i Tree.nil := by
    by_cases hi : i < l.length
    · simp only [List.getD_eq_getElem?_getD]; rw [List.getElem?_append_left hi]
    · simp only [List.getD_eq_getElem?_getD]
      rw [List.getElem?_append_right (by omega), List.getElem?_eq_none (l := l) (by omega), List.getElem?_replicate]
      split <;> rfl
  rw [e, massK_cat, massK_reps] at h
  simp only [setPad]
  omega
theorem wsD_len {tw : List Int} : ∀ {ws : List WEdit} {last : Int} {out a : List Int}, wordsOk last ws = true → wsD tw ws out = some a → a.length ≤ max out.length 65535
  | [], _, out, a, _, h => by rw [wsD] at h; cases h; omega
  | w :: r, last, out, a, hw, h => by
    have h1 := wordsOk_all hw w List.mem_cons_self
    simp only [wordsOk, Bool.and_eq_true] at hw
    rw [wsD] at h
    split at h
    · have := wsD_len hw.2 h
      rw [setPad_length] at this
      omega
    · cases h
theorem rightKs_cons {last d : Int} {k : Kid} {r : List Kid} (h : rightKs last (k :: r) d = true) : (last < k.at_ ∧ k.at_ ≤ 65534) ∧ rightE k.e d = true ∧ rightKs k.at_ r d = true := by
  have := rightKs_all h k List.mem_cons_self
  simp only [rightKs, Bool.and_eq_true] at h
  exact ⟨⟨this.1.1, this.1.2.1⟩, this.2, h.2⟩
theorem mass_step {A B C b u m M s o : Nat} (m1 : u + 262144 ≤ B + 131072 * m) (m2 : A + B ≤ o + u + C) (m3 : b + 131072 * s ≤ A + 131072 * M) (m4 : C ≤ 131072) : b + 131072 * (s + 1) ≤ o + 131072 * (m + M) := by
  rw [Nat.mul_add, Nat.mul_add, Nat.mul_one, ← Nat.add_assoc]
  generalize 131072 * s = S at *
  generalize 131072 * m = X at *
  generalize 131072 * M = Y at *
  omega
theorem nrD_mass (r : Bool) (v : Tree) : mass (nrD r v) ≤ mass v := by
  unfold nrD
  split
  · exact normT_mass v
  · exact Nat.le_refl _
mutual
theorem mass_raw (r : Bool) : ∀ (e : Edit) (d : Int) (t v : Tree), rightE e d = true → rawE r e t = some v → mass v + 262144 ≤ mass t + 131072 * massE e
  | .mk k o n w ks l os, d, t, v, hr, hv => by
    have ri := rightE_all hr
    have h1 := mass_doKs r ks t.kids
    have h2 := mass_doOs r l os
    have hm := len_massE (.mk k o n w ks l os)
    have po := mass_pos o
    have pn := mass_pos n
    have ht := massTK t
    simp only [Edit.old_mk, Edit.new_mk, Edit.words_mk, Edit.kids_mk, Edit.ops_mk] at hm
    unfold rawE at hv
    split at hv
    · cases hv; omega
    · split at hv
      · split at hv
        · cases hv
          show mass n + _ ≤ _
          omega
        · cases hv
      · split at hv
        · split at hv
          · obtain ⟨a, ha, hb⟩ := Option.bind_eq_some_iff.1 hv
            obtain ⟨b, hb, e⟩ := Option.map_eq_some_iff.1 hb
            have l1 := wsD_len ri.words ha
            have l2 := h1 t.kids b _ (-1) (by omega) ri.kids (fun j _ => rfl) hb
            rw [← e]
            simp only [mass]
            omega
          · cases hv
        · split at hv
          · split at hv
            · obtain ⟨b, hb, e⟩ := Option.map_eq_some_iff.1 hv
              unfold endD at hb
              obtain ⟨x, hx, hy⟩ := Option.bind_eq_some_iff.1 hb
              have l2 := h2 _ t.kids [] x (fun o ho => Go.AM.rightOs_mem ri.ops o ho) hx
              split at hy
              · cases hy
                rw [← e]
                simp only [mass, List.length_nil]
                simp only [massK] at l2
                omega
              · cases hy
            · cases hv
          · cases hv
theorem mass_doKs (r : Bool) : ∀ (ks : List (KidOf Edit)) (tk out b : List Tree) (d last : Int), -1 ≤ last → rightKs last ks d = true → (∀ j : Nat, last < (j : Int) → out.getD j Tree.nil = tk.getD j Tree.nil) → doKs r tk ks out = some b → massK b + 131072 * ks.length ≤ massK out + 131072 * massKs ks
  | [], tk, out, b, d, last, _, _, _, h => by rw [doKs] at h; cases h; simp
  | k :: s, tk, out, b, d, last, hl, hr, hj, h => by
    obtain ⟨h1, h2, h3⟩ := rightKs_cons hr
    rw [doKs] at h
    obtain ⟨u, hu, hb⟩ := Option.bind_eq_some_iff.1 h
    have m1 := mass_doKid r k tk u d h2 hu
    have m2 := massK_pad out k.at_.toNat u
    rw [hj k.at_.toNat (by omega)] at m2
    have m3 := mass_doKs r s tk _ b d k.at_ (by omega) h3 (fun j hj' => by
      rw [setPad_getD, if_neg (by omega)]
      exact hj j (by omega)) hb
    have m4 : k.at_.toNat + 1 ≤ 131072 := by omega
    have e1 : massKs (k :: s) = massE k.e + massKs s := by rw [massKs, massKid_e]
    rw [e1, List.length_cons]
    exact mass_step m1 m2 m3 m4
theorem mass_doKid (r : Bool) : ∀ (k : KidOf Edit) (tk : List Tree) (u : Tree) (d : Int), rightE k.e d = true → doKid r tk k = some u → mass u + 262144 ≤ mass (tk.getD k.at_.toNat Tree.nil) + 131072 * massE k.e
  | ⟨a, e⟩, tk, u, d, hr, h => by
    rw [doKid, doE_raw] at h
    obtain ⟨v, hv, hu⟩ := Option.map_eq_some_iff.1 h
    have := mass_raw r e d (tk.getD a.toNat Tree.nil) v hr hv
    have hvu := nrD_mass r v
    rw [hu] at hvu
    dsimp only
    omega
theorem mass_doOs (r : Bool) (l : Int) : ∀ (os : List (OpOf Edit)) (d : Int) (rest out : List Tree) (x : List Tree × List Tree), (∀ o ∈ os, rightOp l o d = true) → doOs r os rest out = some x → massK x.1 + massK x.2 ≤ massK out + massK rest + 131072 * massOs os
  | [], d, rest, out, x, _, h => by rw [doOs] at h; cases h; simp
  | o :: s, d, rest, out, x, hr, h => by
    rw [doOs] at h
    obtain ⟨y, hy, hx⟩ := Option.bind_eq_some_iff.1 h
    have m1 := mass_doOp r l o d rest out y (hr o List.mem_cons_self) hy
    have m2 := mass_doOs r l s d _ _ x (fun q hq => hr q (List.mem_cons_of_mem _ hq)) hx
    rw [massOs]
    omega
theorem mass_doOp (r : Bool) (l : Int) : ∀ (o : OpOf Edit) (d : Int) (rest out : List Tree) (x : List Tree × List Tree), rightOp l o d = true → doOp r o rest out = some x → massK x.1 + massK x.2 ≤ massK out + massK rest + 131072 * massOp o
  | ⟨k, n, L, e⟩, d, rest, out, x, hr, h => by
    have he := mass_raw r e d (rest.getD 0 Tree.nil)
    have hp := massE_pos e
    rw [doOp] at h
    simp only [massOp]
    split at h
    · split at h
      · cases h
        have := massK_cat (rest.take n.toNat) (rest.drop n.toNat)
        rw [List.take_append_drop] at this
        dsimp only
        rw [massK_cat]; omega
      · cases h
    · split at h
      · split at h
        · cases h
          have := massK_drop L.length rest
          dsimp only; omega
        · cases h
      · split at h
        · cases h
          dsimp only
          rw [massK_cat]; omega
        · split at h
          · cases h
          · obtain ⟨u, hu, e2⟩ := Option.map_eq_some_iff.1 h
            cases e2
            have hk : k = 3 := by
              have ra := rightOp_all hr
              generalize ho : OpOf.mk k n L e = o at ra
              cases ra <;> (injection ho with h1; try omega)
            rw [doE_raw] at hu
            obtain ⟨v, hv, hu⟩ := Option.map_eq_some_iff.1 hu
            have := he v (right_desc hr hk) hv
            have hvu := nrD_mass r v
            rw [hu] at hvu
            cases rest with
            | nil => contradiction
            | cons a q =>
              rw [massK_cat]
              simp only [massK, List.drop_succ_cons, List.drop_zero, List.getD_cons_zero] at this ⊢
              omega
end
theorem mass_do (r : Bool) (e : Edit) (d : Int) (t u : Tree) (hr : rightE e d = true) (h : doE r e t = some u) : mass u + 262144 ≤ mass t + 131072 * massE e := by
  rw [doE_raw] at h
  obtain ⟨v, hv, hu⟩ := Option.map_eq_some_iff.1 h
  have := mass_raw r e d t v hr hv
  have hvu := nrD_mass r v
  rw [hu] at hvu
  omega
theorem of8_in {f : Nat → Int} (h : ∀ i, 0 ≤ f i ∧ f i < 256) : isW (of8 f) := by
  have h0 := h 0; have h1 := h 1; have h2 := h 2; have h3 := h 3; have h4 := h 4; have h5 := h 5; have h6 := h 6; have h7 := h 7
  unfold isW of8
  omega
theorem mix_in (a b m : Int) : isW (mix a b m) := of8_in (mixAt_range a b m)
theorem rngK_of {l : List Tree} (h : ∀ t ∈ l, rng t) : rngK l := by
  induction l with
  | nil => exact trivial
  | cons a r ih => exact ⟨h a List.mem_cons_self, ih fun t ht => h t (List.mem_cons_of_mem _ ht)⟩
theorem rng_nilT' : rng Tree.nil := ⟨by decide, by simp, trivial⟩
theorem setPad_mem {α : Type} {z x y : α} {l : List α} {i : Nat} (h : y ∈ setPad z l i x) : y ∈ l ∨ y = z ∨ y = x := by
  rcases List.mem_or_eq_of_mem_set h with h | h
  · rcases List.mem_append.1 h with h | h
    · exact .inl h
    · exact .inr (.inl (List.eq_of_mem_replicate h))
  · exact .inr (.inr h)
theorem rng_get {ks : List Tree} (h : rngK ks) (i : Nat) : rng (ks.getD i Tree.nil) := by
  by_cases hi : i < ks.length
  · exact rngK_mem h (mem_getD hi _)
  · rw [List.getD_eq_getElem?_getD, List.getElem?_eq_none (by omega)]
    exact rng_nilT'
theorem wsD_in {tw : List Int} : ∀ {ws : List WEdit} {out a : List Int}, (∀ x ∈ out, isW x) → wsD tw ws out = some a → ∀ x ∈ a, isW x
  | [], out, a, h, hw => by rw [wsD] at hw; cases hw; exact h
  | w :: r, out, a, h, hw => by
    rw [wsD] at hw
    split at hw
    · refine wsD_in (fun x hx => ?_) hw
      rcases setPad_mem hx with hx | rfl | rfl
      · exact h x hx
      · exact ⟨by omega, by omega⟩
      · exact mix_in _ _ _
    · cases hw
mutual
theorem rng_do (r : Bool) : ∀ (e : Edit) (t u : Tree), rngE e → rng t → doE r e t = some u → rng u
  | .mk k o n w ks l os, t, u, hr, ht, h => by
    have h1 := rng_doKs r ks
    have h2 := rng_doOs r os
    simp only [rngE] at hr
    obtain ⟨r1, r2, r3, r4, r5, r6, r7⟩ := hr
    have hta : isI t.kind ∧ (∀ x ∈ t.words, isW x) ∧ rngK t.kids := by obtain ⟨k, w, ks⟩ := t; exact ht
    rw [doE_at] at h
    obtain ⟨v, hv, hu⟩ := Option.map_eq_some_iff.1 h
    suffices rng v by
      rw [← hu]; unfold nrD
      split
      · exact rng_norm v this
      · exact this
    clear h hu
    split at hv
    · cases hv; exact ht
    · split at hv
      · split at hv
        · cases hv; exact r3
        · cases hv
      · split at hv
        · split at hv
          · obtain ⟨a, ha, hb⟩ := Option.bind_eq_some_iff.1 hv
            obtain ⟨b, hb, e⟩ := Option.map_eq_some_iff.1 hb
            rw [← e]
            exact ⟨by decide, wsD_in hta.2.1 ha, h1 _ _ _ r6 hta.2.2 hta.2.2 hb⟩
          · cases hv
        · split at hv
          · split at hv
            · obtain ⟨b, hb, e⟩ := Option.map_eq_some_iff.1 hv
              unfold endD at hb
              obtain ⟨x, hx, hy⟩ := Option.bind_eq_some_iff.1 hb
              split at hy
              · cases hy
                rw [← e]
                exact ⟨r5, by simp, (h2 _ [] _ r7 hta.2.2 trivial hx).1⟩
              · cases hy
            · cases hv
          · cases hv
theorem rng_doKs (r : Bool) : ∀ (ks : List (KidOf Edit)) (tk out b : List Tree), rngKs ks → rngK tk → rngK out → doKs r tk ks out = some b → rngK b
  | [], tk, out, b, _, _, ho, h => by rw [doKs] at h; cases h; exact ho
  | k :: s, tk, out, b, hk, ht, ho, h => by
    rw [doKs] at h
    obtain ⟨u, hu, hb⟩ := Option.bind_eq_some_iff.1 h
    have m1 := rng_doKid r k tk u hk.1 ht hu
    refine rng_doKs r s tk _ b hk.2 ht (rngK_of fun x hx => ?_) hb
    rcases setPad_mem hx with hx | rfl | rfl
    · exact rngK_mem ho hx
    · exact rng_nilT'
    · exact m1
theorem rng_doKid (r : Bool) : ∀ (k : KidOf Edit) (tk : List Tree) (u : Tree), rngKid k → rngK tk → doKid r tk k = some u → rng u
  | ⟨a, e⟩, tk, u, hr, ht, h => by
    rw [doKid] at h
    exact rng_do r e _ u hr.2 (rng_get ht _) h
theorem rng_doOs (r : Bool) : ∀ (os : List (OpOf Edit)) (rest out : List Tree) (x : List Tree × List Tree), rngOs os → rngK rest → rngK out → doOs r os rest out = some x → rngK x.1 ∧ rngK x.2
  | [], rest, out, x, _, hr, ho, h => by rw [doOs] at h; cases h; exact ⟨ho, hr⟩
  | o :: s, rest, out, x, hs, hr, ho, h => by
    rw [doOs] at h
    obtain ⟨y, hy, hx⟩ := Option.bind_eq_some_iff.1 h
    have m1 := rng_doOp r o rest out y hs.1 hr ho hy
    exact rng_doOs r s _ _ x hs.2 m1.2 m1.1 hx
theorem rng_doOp (r : Bool) : ∀ (o : OpOf Edit) (rest out : List Tree) (x : List Tree × List Tree), rngOp o → rngK rest → rngK out → doOp r o rest out = some x → rngK x.1 ∧ rngK x.2
  | ⟨k, n, L, e⟩, rest, out, x, hs, hr, ho, h => by
    have he := rng_do r e (rest.getD 0 Tree.nil)
    simp only [rngOp] at hs
    have hd : ∀ n, rngK (rest.drop n) := fun n => rngK_of fun t ht => rngK_mem hr (List.mem_of_mem_drop ht)
    have hap : ∀ l, rngK l → rngK (out ++ l) := fun l hl => rngK_app.2 ⟨ho, hl⟩
    rw [doOp] at h
    split at h
    · split at h
      · cases h
        exact ⟨hap _ (rngK_of fun t ht => rngK_mem hr (List.mem_of_mem_take ht)), hd _⟩
      · cases h
    · split at h
      · split at h
        · cases h
          exact ⟨ho, hd _⟩
        · cases h
      · split at h
        · cases h
          exact ⟨hap _ hs.2.2.1, hr⟩
        · split at h
          · cases h
          · obtain ⟨u, hu, e2⟩ := Option.map_eq_some_iff.1 h
            cases e2
            exact ⟨hap _ ⟨he u hs.2.2.2 (rng_get hr 0) hu, trivial⟩, hd _⟩
end
end Go.AM.Ytlahjnelghpmeaa

namespace Go.AM.Ytlahjnelghpmeaa
open Go.AM Go.Proofs
theorem doE_mass {r : Bool} {e : Edit} {t u : Tree} (he : massE e ≤ 1000000) (hr : ∃ d, rightE e d = true) (ht : mass t ≤ 100000000000) (h : doE r e t = some u) : mass u ≤ 1000000000000 := by
  obtain ⟨d, hr⟩ := hr
  have := mass_do r e d t u hr h
  omega
theorem c52 : Contract Try.prog cfg 52 spec52 := by
  refine make52 c32 c82 ?_
  intro e t _ hp
  simp only [pre52] at hp
  refine vc52 _ _ _ ?_
  rintro y1 hy1 y2 hy2 y3 hy3
  subst hy1 hy2
  (simp only [vcT, bif_tl, bif_fr, bif_tlf, bif_frf, Bool.not_eq_true', Bool.not_eq_false', decide_eq_true_eq, decide_eq_false_iff_not, beq_iff_eq, beq_eq_false_iff_ne, bne_iff_ne, ne_eq, bne_eq_false_iff_eq, Bool.or_eq_true, Bool.and_eq_true, Bool.or_eq_false_iff, Bool.and_eq_false_imp])
  refine ⟨by simp only [pre82]; exact hp, fun hn => ?_, fun hs => ?_⟩
  · have hn : doE false y1 y2 = none := by simpa using hn
    simp only [res52, hn]
    (repeat' (first | exact trivial | exact rfl | apply And.intro))
  · obtain ⟨u, hu⟩ := Option.isSome_iff_exists.1 hs
    rw [oneT_some hu] at hy3
    subst hy3
    have := doE_mass hp.1.1 hp.1.2.2 hp.2.1 hu
    refine ⟨by simp only [pre32]; exact this, ?_⟩
    simp only [res52, hu]
    (repeat' (first | exact trivial | exact rfl | apply And.intro))
end Go.AM.Ytlahjnelghpmeaa

namespace Go.AM.Ytlahjnelghpmeaa
open Go.AM Go.Proofs
section
variable {α β : Type} (z : α) (f : β → Option α) (p : β → Int)
def mg : List β → List α → Option (List α)
  | [], out => some out
  | w :: r, out => (f w).bind fun v => mg r (setPad z out (p w).toNat v)
def asc (last : Int) : List β → Prop
  | [] => True
  | w :: r => last < p w ∧ asc (p w) r
variable {z f p} {l0 : List α} {ws : List β} {n a i : Int} {out : List α}
theorem asc_gt {last : Int} : ∀ {l : List β}, asc p last l → ∀ w ∈ l, last < p w
  | [], _, _, hw => by cases hw
  | b :: r, h, w, hw => by
    rcases List.mem_cons.1 hw with rfl | hw
    · exact h.1
    · have := asc_gt h.2 w hw
      have := h.1
      omega
end
theorem wsD_mg (tw : List Int) : ∀ (ws : List WEdit) (out : List Int), wsD tw ws out = mg 0 (fun w => if mix 0 (tw.getD w.at_.toNat 0) w.mask = w.old then some (mix (tw.getD w.at_.toNat 0) w.new w.mask) else none) WEdit.at_ ws out
  | [], _ => rfl
  | w :: r, out => by
    rw [wsD, mg]
    split
    · rw [Option.bind_some]; exact wsD_mg tw r _
    · rfl
theorem doKs_mg (r : Bool) (tk : List Tree) : ∀ (ks : List Kid) (out : List Tree), doKs r tk ks out = mg Tree.nil (doKid r tk) KidOf.at_ ks out
  | [], _ => by rw [doKs]; rfl
  | k :: s, out => by
    rw [doKs, mg]
    congr 1
    funext u
    exact doKs_mg r tk s _
theorem words_asc : ∀ {ws : List WEdit} {last : Int}, wordsOk last ws = true → asc WEdit.at_ last ws
  | [], _, _ => trivial
  | w :: r, last, h => by
    have h1 := wordsOk_all h w List.mem_cons_self
    simp only [wordsOk, Bool.and_eq_true] at h
    exact ⟨h1.1, words_asc h.2⟩
theorem kids_asc : ∀ {ks : List Kid} {last d : Int}, rightKs last ks d = true → asc KidOf.at_ last ks
  | [], _, _, _ => trivial
  | k :: r, last, d, h => by
    obtain ⟨h1, _, h3⟩ := rightKs_cons h
    exact ⟨h1.1, kids_asc h3⟩
end Go.AM.Ytlahjnelghpmeaa

namespace Go.AM.Ytlahjnelghpmeaa
open Go.AM Go.Proofs
theorem step256 {x y x' y' : Int} (h : x + 256 * y = x' + 256 * y') (hx : 0 ≤ x ∧ x < 256) (hx' : 0 ≤ x' ∧ x' < 256) : x = x' ∧ y = y' := by omega
theorem of8_inj {f g : Nat → Int} (hf : ∀ i, 0 ≤ f i ∧ f i < 256) (hg : ∀ i, 0 ≤ g i ∧ g i < 256) (h : of8 f = of8 g) : ∀ i, i < 8 → f i = g i := by
  unfold of8 at h
  obtain ⟨h0, h⟩ := step256 h (hf 0) (hg 0)
  obtain ⟨h1, h⟩ := step256 h (hf 1) (hg 1)
  obtain ⟨h2, h⟩ := step256 h (hf 2) (hg 2)
  obtain ⟨h3, h⟩ := step256 h (hf 3) (hg 3)
  obtain ⟨h4, h⟩ := step256 h (hf 4) (hg 4)
  obtain ⟨h5, h⟩ := step256 h (hf 5) (hg 5)
  obtain ⟨h6, h7⟩ := step256 h (hf 6) (hg 6)
  intro i hi
  match i, hi with
  | 0, _ => exact h0
  | 1, _ => exact h1
  | 2, _ => exact h2
  | 3, _ => exact h3
  | 4, _ => exact h4
  | 5, _ => exact h5
  | 6, _ => exact h6
  | 7, _ => exact h7
theorem of8_bytes {a : Int} (h : isW a) : of8 (byteAt a) = a := by
  obtain ⟨h0, h1⟩ := h
  simp only [of8, byteAt]
  omega
theorem bytes_eq {a b : Int} (ha : isW a) (hb : isW b) (h : ∀ i, i < 8 → byteAt a i = byteAt b i) : a = b := by
  rw [← of8_bytes ha, ← of8_bytes hb]
  unfold of8
  rw [h 0 (by omega), h 1 (by omega), h 2 (by omega), h 3 (by omega), h 4 (by omega), h 5 (by omega), h 6 (by omega), h 7 (by omega)]
theorem mix_byte {a b m : Int} {i : Nat} (h : i < 8) : byteAt (mix a b m) i = mixAt a b m i :=
  of8_inj (fun i => byteAt_range _ i) (mixAt_range a b m) (by rw [of8_bytes (mix_in a b m)]; rfl) i h
section
variable {α β : Type} {z : α} {f : β → Option α} {p : β → Int}
theorem mg_get : ∀ {ws : List β} {last : Int} {out r : List α}, -1 ≤ last → asc p last ws → mg z f p ws out = some r →
    (∀ w ∈ ws, ∃ v, f w = some v ∧ r.getD (p w).toNat z = v) ∧ (∀ i : Nat, (∀ w ∈ ws, (p w).toNat ≠ i) → r.getD i z = out.getD i z)
  | [], _, out, r, _, _, h => by
    rw [mg] at h; cases h
    exact ⟨fun w hw => (by cases hw), fun _ _ => rfl⟩
  | w :: s, last, out, r, hl, ha, h => by
    rw [mg] at h
    obtain ⟨v, hv, hr⟩ := Option.bind_eq_some_iff.1 h
    have h1 := ha.1
    obtain ⟨i1, i2⟩ := mg_get (by omega) ha.2 hr
    have hn : ∀ x ∈ s, (p x).toNat ≠ (p w).toNat := fun x hx => by have := asc_gt ha.2 x hx; omega
    refine ⟨fun x hx => ?_, fun i hi => ?_⟩
    · rcases List.mem_cons.1 hx with rfl | hx
      · refine ⟨v, hv, ?_⟩
        rw [i2 _ hn, setPad_getD, if_pos rfl]
      · exact i1 x hx
    · rw [i2 i (fun x hx => hi x (List.mem_cons_of_mem _ hx)), setPad_getD, if_neg (fun e => hi w List.mem_cons_self e.symm)]
end
theorem rightK_mem {list d : Int} : ∀ {l : List Tree}, rightK list l d = true → ∀ t ∈ l, rightT t d = true
  | [], _, _, ht => by cases ht
  | a :: r, h, t, ht => by
    simp only [rightK, Bool.and_eq_true] at h
    rcases List.mem_cons.1 ht with rfl | ht
    · exact h.1.2
    · exact rightK_mem h.2 t ht
def RT_ (t : Tree) : Prop := (∃ d, rightT t d = true) ∧ rng t
theorem RT_.kids {t : Tree} (h : RT_ t) : (∀ k ∈ t.kids, RT_ k) ∧ (t.kind ≠ 0 → t.kind ≠ 1 → t.kind ≠ 10 → t.words = []) := by
  obtain ⟨⟨d, h⟩, hr⟩ := h
  obtain ⟨k, w, ks⟩ := t
  have hk : ∀ x ∈ ks, rng x := fun x hx => rngK_mem hr.2.2 hx
  show (∀ x ∈ ks, RT_ x) ∧ (k ≠ 0 → k ≠ 1 → k ≠ 10 → w = [])
  rw [rightT] at h
  split at h
  · simp only [decide_eq_true_eq] at h
    rw [List.eq_nil_of_length_eq_zero h.2]
    exact ⟨fun x hx => (by cases hx), fun h0 => absurd ‹_› h0⟩
  · split at h
    · simp only [decide_eq_true_eq] at h
      rw [List.eq_nil_of_length_eq_zero h.2]
      exact ⟨fun x hx => (by cases hx), fun _ _ h0 => absurd ‹_› h0⟩
    · split at h
      · cases h
      · split at h
        · simp only [Bool.and_eq_true] at h
          exact ⟨fun x hx => ⟨⟨_, rightK_mem h.2 x hx⟩, hk x hx⟩, fun _ h1 => absurd ‹_› h1⟩
        · simp only [Bool.and_eq_true, decide_eq_true_eq] at h
          exact ⟨fun x hx => ⟨⟨_, rightK_mem h.2 x hx⟩, hk x hx⟩, fun _ _ _ => List.eq_nil_of_length_eq_zero h.1.2.2.1⟩
theorem RT_nil : RT_ Tree.nil := ⟨⟨1, rfl⟩, rng_nilT'⟩
theorem RT_get {l : List Tree} (h : ∀ t ∈ l, RT_ t) (i : Nat) : RT_ (l.getD i Tree.nil) := by
  by_cases hi : i < l.length
  · exact h _ (mem_getD hi _)
  · rw [List.getD_eq_getElem?_getD, List.getElem?_eq_none (by omega)]; exact RT_nil
theorem rng_at' {t : Tree} (h : rng t) : isI t.kind ∧ (∀ x ∈ t.words, isW x) ∧ rngK t.kids := by obtain ⟨k, w, ks⟩ := t; exact h
theorem rightOp_facts' {list : Int} {o : Op} {d : Int} (h : rightOp list o d = true) : o.kind = 0 ∨ o.kind = 1 ∨ o.kind = 2 ∨ o.kind = 3 := by
  have r := rightOp_all h
  cases r with
  | keep => exact .inl rfl
  | gone => exact .inr (.inl rfl)
  | come => exact .inr (.inr (.inl rfl))
  | into => exact .inr (.inr (.inr rfl))
end Go.AM.Ytlahjnelghpmeaa

namespace Go.AM.Ytlahjnelghpmeaa
open Go.AM Go.Proofs
theorem goodT_in {t : Tree} (h : goodT t = true) (hr : rng t) : mass t ≤ 1000000 ∧ RT_ t ∧ rightT t 64 = true ∧ t.kind ≠ 10 := by
  unfold goodT at h
  simp only [Bool.and_eq_true, decide_eq_true_eq] at h
  exact ⟨few_mass' h.1.1, ⟨⟨64, h.1.2⟩, hr⟩, h.1.2, h.2⟩
theorem good_in' {e : Edit} (h : good e = true) : massE e ≤ 3000 ∧ rightE e 64 = true := by
  simp only [good, Bool.and_eq_true, decide_eq_true_eq] at h
  exact ⟨few_massE h.1.1, h.1.2⟩
theorem pre52_of {e : Edit} {t : Tree} (hg : good e = true) (he : rngE e) (ht : mass t ≤ 1000000) (hr : rng t) : (massE e ≤ 1000000 ∧ rngE e ∧ ∃ d, rightE e d = true) ∧ mass t ≤ 100000000000 ∧ rng t := by
  obtain ⟨hm, hx⟩ := good_in' hg
  exact ⟨⟨by omega, he, 64, hx⟩, by omega, hr⟩
theorem orNil_mass {r : Bool} {e : Edit} {t : Tree} (he : massE e ≤ 1000000) (hr : ∃ d, rightE e d = true) (ht : mass t ≤ 100000000000) : mass (orNil (doE r e t)) ≤ 1000000000000 := by
  cases h : doE r e t with
  | none => simp [orNil, Tree.nil, mass, massK]
  | some u => exact doE_mass he hr ht h
theorem orNil_norm (o : Option Tree) : orNil (o.map normT) = normT (orNil o) := by cases o; exact normT_nil.symm; rfl
end Go.AM.Ytlahjnelghpmeaa

namespace Go.AM.Ytlahjnelghpmeaa
open Go.AM Go.Proofs
def Rx (x y : List Tree × List Tree) : Prop := EqvL x.1 y.1 ∧ EqvL x.2 y.2
theorem Rx.rfl' (a : Option (List Tree × List Tree)) : OptR Rx a a := by cases a; exact trivial; exact ⟨rfl, rfl⟩
theorem Rx.of {a b : Option (List Tree × List Tree)} (h : a = b) : OptR Rx a b := by rw [h]; exact Rx.rfl' b
theorem OptR.trans' {α : Type} {R : α → α → Prop} (ht : ∀ x y z, R x y → R y z → R x z) {a b c : Option α} (h1 : OptR R a b) (h2 : OptR R b c) : OptR R a c := by
  cases a <;> cases b <;> cases c <;> first | exact trivial | exact h1.elim | exact h2.elim | exact ht _ _ _ h1 h2
theorem Rx.trans {a b c : Option (List Tree × List Tree)} (h1 : OptR Rx a b) (h2 : OptR Rx b c) : OptR Rx a c :=
  OptR.trans' (fun _ _ _ p q => ⟨Eq.trans p.1 q.1, Eq.trans p.2 q.2⟩) h1 h2
theorem doOs_app (r : Bool) : ∀ (a b : List Op) (rest out : List Tree), doOs r (a ++ b) rest out = (doOs r a rest out).bind fun x => doOs r b x.2 x.1
  | [], b, rest, out => by rw [doOs]; rfl
  | o :: s, b, rest, out => by
    rw [List.cons_append, doOs, doOs]
    cases h : doOp r o rest out with
    | none => rfl
    | some x => rw [Option.bind_some, Option.bind_some]; exact doOs_app r s b _ _
theorem doOs_one (r : Bool) (o : Op) (rest out : List Tree) : doOs r [o] rest out = doOp r o rest out := by
  rw [doOs]
  cases doOp r o rest out with
  | none => rfl
  | some x => rw [Option.bind_some, doOs]
theorem doOs_end (r : Bool) (a : List Op) (o : Op) (rest out : List Tree) : doOs r (a ++ [o]) rest out = (doOs r a rest out).bind fun x => doOp r o x.2 x.1 := by
  rw [doOs_app]
  congr 1
  funext x
  exact doOs_one r o _ _
theorem doOs_suffix {r : Bool} : ∀ {os : List Op} {rest out : List Tree} {x : List Tree × List Tree}, doOs r os rest out = some x → ∃ n, x.2 = rest.drop n
  | [], rest, out, x, h => by rw [doOs] at h; cases h; exact ⟨0, by simp⟩
  | o :: s, rest, out, x, h => by
    rw [doOs] at h
    obtain ⟨y, hy, hx⟩ := Option.bind_eq_some_iff.1 h
    obtain ⟨n, hn⟩ := doOs_suffix hx
    have : ∃ m, y.2 = rest.drop m := by
      rw [doOp_at] at hy
      split at hy
      · split at hy
        · cases hy; exact ⟨_, rfl⟩
        · cases hy
      · split at hy
        · split at hy
          · cases hy; exact ⟨_, rfl⟩
          · cases hy
        · split at hy
          · cases hy; exact ⟨0, by simp⟩
          · split at hy
            · cases hy
            · obtain ⟨u, _, e⟩ := Option.map_eq_some_iff.1 hy
              cases e
              exact ⟨1, rfl⟩
    obtain ⟨m, hm⟩ := this
    exact ⟨m + n, by rw [hn, hm, List.drop_drop]⟩
theorem goneD_nil (rest : List Tree) : goneD [] rest = true := by unfold goneD; rw [eqX_iff.2 (by simp)]; simp
theorem goneD_norms (l rest : List Tree) : goneD (normsT l) rest = goneD l rest := by
  unfold goneD
  rw [normsT_idem, show (normsT l).length = l.length by simp [normsT]]
theorem goneD_iff (l rest : List Tree) : goneD l rest = true ↔ l.length ≤ rest.length ∧ normsT l = normsT (rest.take l.length) := by
  unfold goneD
  rw [Bool.and_eq_true, decide_eq_true_eq, eqX_iff]
theorem goneD_app (a b rest : List Tree) : goneD (a ++ b) rest = (goneD a rest && goneD b (rest.drop a.length)) := by
  rw [Bool.eq_iff_iff, Bool.and_eq_true, goneD_iff, goneD_iff, goneD_iff]
  simp only [List.length_append, List.length_drop]
  constructor
  · rintro ⟨h1, h2⟩
    rw [normsT_append, List.take_add, normsT_append] at h2
    obtain ⟨h3, h4⟩ := List.append_inj h2 (by simp [normsT]; omega)
    exact ⟨⟨by omega, h3⟩, by omega, h4⟩
  · rintro ⟨⟨h1, h2⟩, h3, h4⟩
    refine ⟨by omega, ?_⟩
    rw [normsT_append, List.take_add, normsT_append, h2, h4]
theorem flush_do (s : Wst) (rest out : List Tree) : doOs false (flushW s).out rest out = (doOs false s.out rest out).bind fun x => if goneD s.gone x.2 = true then some (x.1 ++ s.brought, x.2.drop s.gone.length) else none := by
  simp only [flushW, flushO]
  rw [doOs_app]
  congr 1
  funext x
  rw [doOs_app]
  have h1 : doOs false (if s.gone.length = 0 then [] else [⟨1, 0, s.gone, Edit.nil⟩]) x.2 x.1 = if goneD s.gone x.2 = true then some (x.1, x.2.drop s.gone.length) else none := by
    split
    · rename_i h
      rw [List.eq_nil_of_length_eq_zero h, goneD_nil, if_pos rfl, doOs]
      rfl
    · rw [doOs_one, doOp_at]
      rw [if_neg (by show ¬ (1 : Int) = 0; omega), if_pos rfl]
  have h2 : ∀ y : List Tree × List Tree, doOs false (if s.brought.length = 0 then [] else [⟨2, 0, s.brought, Edit.nil⟩]) y.2 y.1 = some (y.1 ++ s.brought, y.2) := by
    intro y
    split
    · rename_i h
      rw [List.eq_nil_of_length_eq_zero h, List.append_nil, doOs]
    · rw [doOs_one, doOp_at]
      rw [if_neg (by show ¬ (2 : Int) = 0; omega), if_neg (by show ¬ (2 : Int) = 1; omega), if_pos rfl]
  rw [h1]
  split
  · rw [Option.bind_some, h2]
  · rfl
theorem keep_do {F : List Op} {n : Int} (hF : ∀ o ∈ F, 0 ≤ o.n) (hn : 0 ≤ n) (rest out : List Tree) : doOs false (keepO F n) rest out = doOs false (F ++ [⟨0, n, [], Edit.nil⟩]) rest out := by
  rcases keepO_cases F n with h | ⟨a, o, h1, h2, h3⟩
  · rw [h]
  · rw [h3, h1, doOs_end, doOs_end, doOs_end]
    cases hx : doOs false a rest out with
    | none => rfl
    | some x =>
      have ho := hF o (by rw [h1]; simp)
      simp only [Option.bind_some]
      rw [doOp_at, doOp_at, if_pos h2, if_pos h2]
      simp only
      have e : (o.n + n).toNat = o.n.toNat + n.toNat := by omega
      rw [e]
      by_cases c : o.n.toNat ≤ x.2.length
      · rw [if_pos c, Option.bind_some, doOp_at, if_pos rfl]
        simp only [List.length_drop]
        by_cases c2 : n.toNat ≤ x.2.length - o.n.toNat
        · rw [if_pos c2, if_pos (by omega), List.drop_drop, List.append_assoc, ← List.take_add]
        · rw [if_neg c2, if_neg (by omega)]
      · rw [if_neg c, if_neg (by omega)]
        rfl
def N0s (s : Wst) : Prop := ∀ o ∈ s.out, 0 ≤ o.n
theorem N0s.flush {s : Wst} (h : N0s s) : ∀ o ∈ (flushW s).out, 0 ≤ o.n := by
  intro o ho
  simp only [flushW, flushO, List.mem_append] at ho
  rcases ho with ho | ho | ho
  · exact h o ho
  · split at ho
    · cases ho
    · simp only [List.mem_singleton] at ho; subst ho; exact Int.le_refl 0
  · split at ho
    · cases ho
    · simp only [List.mem_singleton] at ho; subst ho; exact Int.le_refl 0
theorem N0s.keep {s : Wst} (h : N0s s) {n : Int} (hn : 0 ≤ n) : N0s (keepW s n) := by
  intro o ho
  simp only [keepW] at ho
  rcases keepO_cases (flushW s).out n with e | ⟨a, p, h1, h2, h3⟩
  · rw [e] at ho
    rcases List.mem_append.1 ho with ho | ho
    · exact h.flush o ho
    · simp only [List.mem_singleton] at ho; subst ho; exact hn
  · rw [h3] at ho
    rcases List.mem_append.1 ho with ho | ho
    · exact h.flush o (by rw [h1]; simp [ho])
    · simp only [List.mem_singleton] at ho; subst ho
      have := h.flush p (by rw [h1]; simp)
      show 0 ≤ p.n + n
      omega
theorem right_n {list d : Int} {o : Op} (h : rightOp list o d = true) : 0 ≤ o.n := by
  have r := rightOp_all h
  cases r with
  | keep n h1 => show 0 ≤ n; omega
  | gone | come | into => exact Int.le_refl 0
theorem N0s.op {list d : Int} {s : Wst} {o : Op} (h : N0s s) (hr : rightOp list o d = true) : N0s (nrmOp list o s) := by
  rw [nrmOp_at]
  split
  · exact h.keep (right_n hr)
  · split
    · exact h
    · split
      · exact h
      · split
        · split
          · exact h.keep (by omega)
          · intro p hp
            rcases List.mem_append.1 hp with hp | hp
            · exact h.flush p hp
            · simp only [List.mem_singleton] at hp; subst hp; exact Int.le_refl 0
        · exact h
def K9 (list : Int) (l : List Tree) : Prop := (∀ t ∈ l, RT_ t) ∧ (list = 9 → ∀ t ∈ l, t.kind = 1)
theorem K9.drop {list : Int} {l : List Tree} (h : K9 list l) (n : Nat) : K9 list (l.drop n) := ⟨fun t ht => h.1 t (List.mem_of_mem_drop ht), fun e t ht => h.2 e t (List.mem_of_mem_drop ht)⟩
theorem rightK9 {d : Int} : ∀ {l : List Tree}, rightK 9 l d = true → ∀ t ∈ l, t.kind = 1
  | [], _, t, ht => by cases ht
  | a :: r, h, t, ht => by
    simp only [rightK, Bool.and_eq_true] at h
    rcases List.mem_cons.1 ht with rfl | ht
    · have := h.1.1
      simpa [kidB] using this
    · exact rightK9 h.2 t ht
theorem RT_.k9 {t : Tree} (h : RT_ t) : K9 t.kind t.kids := by
  refine ⟨h.kids.1, fun e => ?_⟩
  obtain ⟨⟨d, h⟩, _⟩ := h
  obtain ⟨k, w, ks⟩ := t
  have e : k = 9 := e
  subst e
  rw [rightT, if_neg (by omega), if_neg (by omega)] at h
  split at h
  · cases h
  · rw [if_neg (by omega)] at h
    simp only [Bool.and_eq_true] at h
    exact rightK9 h.2
theorem step_do {list d : Int} {s : Wst} {o : Op} (hs : N0s s) (hr : rightOp list o d = true) {rest : List Tree} (hk : K9 list rest) (out : List Tree)
    (ih : ∀ y, RT_ y → rightE o.e d = true → OptR Eqv (doE false (nrmE o.e) y) (doE false o.e y)) :
    OptR Rx (doOs false (flushW (nrmOp list o s)).out rest out) ((doOs false (flushW s).out rest out).bind fun x => doOp false o x.2 x.1) := by
  have keep : ∀ n : Int, 0 ≤ n → doOs false (flushW (keepW s n)).out rest out = (doOs false (flushW s).out rest out).bind fun x => doOp false ⟨0, n, [], Edit.nil⟩ x.2 x.1 := by
    intro n hn
    have e : (flushW (keepW s n)).out = keepO (flushW s).out n := by simp [flushW, flushO, keepW]
    rw [e, keep_do hs.flush hn, doOs_end]
  rw [nrmOp_at]
  have r1 := rightOp_facts' hr
  by_cases h0 : o.kind = 0
  · rw [if_pos h0, keep _ (right_n hr)]
    refine Rx.of ?_
    congr 1
    funext x
    rw [doOp_at, doOp_at, if_pos rfl, if_pos h0]
  · rw [if_neg h0]
    by_cases h1 : o.kind = 1
    · rw [if_pos h1, flush_do, flush_do]
      refine Rx.of ?_
      rw [Option.bind_assoc]
      congr 1
      funext x
      simp only
      rw [goneD_app, goneD_norms]
      by_cases c : goneD s.gone x.2 = true
      · rw [if_pos c, c, Bool.true_and, Option.bind_some, doOp_at, if_neg h0, if_pos h1]
        simp only
        rw [List.drop_drop, show (s.gone ++ normsT o.l).length = s.gone.length + o.l.length by simp [normsT]]
      · rw [if_neg c, if_neg (by simp only [Bool.and_eq_true]; exact fun h => c h.1)]
        rfl
    · rw [if_neg h1]
      by_cases h2 : o.kind = 2
      · rw [if_pos h2, flush_do, flush_do, Option.bind_assoc]
        refine OptR.bind (R := Eq) (OptR.rfl' _) ?_
        rintro x _ rfl
        simp only
        split
        · rw [Option.bind_some, doOp_at, if_neg h0, if_neg h1, if_pos h2]
          refine ⟨?_, rfl⟩
          show normsT (x.1 ++ (s.brought ++ normsT o.l)) = normsT (x.1 ++ s.brought ++ o.l)
          simp only [normsT_append, normsT_idem, List.append_assoc]
        · exact trivial
      · have h3 : o.kind = 3 := by rcases r1 with h | h | h | h <;> first | exact absurd h h0 | exact absurd h h1 | exact absurd h h2 | exact h
        rw [if_neg h2, if_pos h3]
        have hre := right_desc hr h3
        have ra := rightOp_all hr
        by_cases hi : idleE list (nrmE o.e) = true
        · rw [if_pos hi, keep 1 (by omega)]
          cases hx : doOs false (flushW s).out rest out with
          | none => exact trivial
          | some x =>
            obtain ⟨m, hm⟩ := doOs_suffix hx
            have hk2 := hk.drop m
            rw [← hm] at hk2
            simp only [Option.bind_some]
            rw [doOp_at, doOp_at, if_pos rfl, if_neg h0, if_neg h1, if_neg h2]
            cases hx2 : x.2 with
            | nil => exact trivial
            | cons y q =>
              rw [hx2] at hk2
              have hek : o.e.kind ≠ 0 := by
                cases ra with
                | into e _ h => exact h
                | keep | gone | come => exact absurd h3 (by simp)
              simp only [idleE, decide_eq_true_eq, nrmE_kind] at hi
              rcases hi with hi | ⟨hl9, he2, hw, hks⟩
              · exact absurd hi hek
              · have hy := hk2.2 hl9 y List.mem_cons_self
                have hn := nrmE_at o.e
                rw [if_neg (by omega), if_pos he2] at hn
                have e1 : o.e.words = [] := by rw [hn] at hw; exact List.eq_nil_of_length_eq_zero hw
                have e2 : o.e.kids = [] := by
                  rw [hn] at hks
                  have : (nrmKs o.e.kids).length = 0 := hks
                  cases hh : o.e.kids with
                  | nil => rfl
                  | cons a b => rw [hh] at this; simp [nrmKs] at this
                have hd : doE false o.e y = some (.mk 1 y.words y.kids) := by
                  rw [doE_at, if_neg hek, if_neg (by omega), if_pos he2, if_pos hy, e1, e2, wsD, Option.bind_some, doKs]
                  rfl
                rw [if_neg (show ¬ (y :: q).length = 0 by simp), List.getD_cons_zero, hd, if_pos (show Int.toNat 1 ≤ (y :: q).length by simp)]
                refine ⟨?_, rfl⟩
                show normsT (x.1 ++ [y]) = normsT (x.1 ++ [Tree.mk 1 y.words y.kids])
                rw [show Tree.mk 1 y.words y.kids = y by rw [← hy]; exact Tree.eta y]
        · rw [if_neg hi]
          have e : (flushW ⟨(flushW s).out ++ [⟨3, 0, [], nrmE o.e⟩], [], []⟩).out = (flushW s).out ++ [⟨3, 0, [], nrmE o.e⟩] := by simp [flushW, flushO]
          rw [e, doOs_end]
          cases hx : doOs false (flushW s).out rest out with
          | none => exact trivial
          | some x =>
            obtain ⟨m, hm⟩ := doOs_suffix hx
            have hk2 := hk.drop m
            rw [← hm] at hk2
            simp only [Option.bind_some]
            rw [doOp_at, doOp_at, if_neg h0, if_neg h1, if_neg h2, if_neg (by show ¬ (3 : Int) = 0; omega), if_neg (by show ¬ (3 : Int) = 1; omega), if_neg (by show ¬ (3 : Int) = 2; omega)]
            refine OptR.ite Iff.rfl (fun _ => trivial) fun _ => ?_
            exact (ih _ (RT_get hk2.1 0) hre).map fun u v h => ⟨norms_app rfl (norms_one.2 h), rfl⟩
mutual
theorem nrm_do : ∀ (e : Edit) (d : Int) (t : Tree), rightE e d = true → RT_ t → OptR Eqv (doE false (nrmE e) t) (doE false e t)
  | .mk k o n w ks l os, d, t, hr, ht => by
    have ri := rightE_all hr
    have h1 := nrm_doKs ks
    have h2 := nrm_doOs l os
    have hkid := ht.kids.1
    have hn : nrmE (.mk k o n w ks l os) = if k = 1 then .mk k (normT o) (normT n) [] [] l [] else if k = 2 then .mk k Tree.nil Tree.nil w (nrmKs ks) l [] else if k = 3 then .mk k Tree.nil Tree.nil [] [] l (flushW (nrmOs l os ⟨[], [], []⟩)).out else .mk k Tree.nil Tree.nil [] [] l [] := by rw [nrmE]
    rw [doE_raw, doE_raw, nrD_false, nrD_false]
    by_cases c1 : k = 1
    · subst c1
      rw [if_pos rfl] at hn
      unfold rawE
      rw [hn]
      refine OptR.ite Iff.rfl (fun _ => rfl) fun _ => OptR.ite Iff.rfl (fun _ => ?_) (fun h => absurd rfl h)
      show OptR Eqv (if sameT (normT (normT o)) (normT t) = true then some (normT n) else none) (if sameT (normT o) (normT t) = true then some n else none)
      rw [normT_idem]
      exact OptR.ite Iff.rfl (fun _ => normT_idem n) (fun _ => trivial)
    · by_cases c2 : k = 2
      · subst c2
        rw [if_neg c1, if_pos rfl] at hn
        unfold rawE
        rw [hn]
        refine OptR.ite Iff.rfl (fun _ => rfl) fun _ => OptR.ite Iff.rfl (fun h => absurd h c1) fun _ => OptR.ite Iff.rfl (fun _ => ?_) (fun h => absurd rfl h)
        refine OptR.ite Iff.rfl (fun ht1 => ?_) (fun _ => trivial)
        refine OptR.bind (R := Eq) (OptR.rfl' _) ?_
        rintro a _ rfl
        exact (h1 (d - 1) t.kids t.kids t.kids (fun k hk => (rightKs_all ri.kids k hk).2) hkid rfl).map fun x y h => normT_mk _ _ h
      · by_cases c3 : k = 3
        · subst c3
          rw [if_neg c1, if_neg c2, if_pos rfl] at hn
          unfold rawE
          rw [hn]
          refine OptR.ite Iff.rfl (fun _ => rfl) fun _ => OptR.ite Iff.rfl (fun h => absurd h c1) fun _ => OptR.ite Iff.rfl (fun h => absurd h c2) fun _ => OptR.ite Iff.rfl (fun _ => ?_) (fun h => absurd rfl h)
          refine OptR.ite Iff.rfl (fun ht1 => ?_) (fun _ => trivial)
          have hk9 := ht.k9
          rw [ht1] at hk9
          have := h2 (d - 1) ⟨[], [], []⟩ t.kids [] (fun o ho => Go.AM.rightOs_mem ri.ops o ho) (fun o ho => by cases ho) hk9
          exact (endD_rel this).map fun x y h => normT_mk _ _ h
        · have e0 : k = 0 := by have := ri.kind; have : 0 ≤ k ∧ k ≤ 3 := this; omega
          subst e0
          rw [if_neg c1, if_neg c2, if_neg c3] at hn
          unfold rawE
          rw [hn]
          exact OptR.ite Iff.rfl (fun _ => rfl) fun h => absurd rfl h
theorem nrm_doKs : ∀ (ks : List (KidOf Edit)) (d : Int) (tk a b : List Tree), (∀ k ∈ ks, rightE k.e d = true) → (∀ t ∈ tk, RT_ t) → EqvL a b → OptR EqvL (doKs false tk (nrmKs ks) a) (doKs false tk ks b)
  | [], d, tk, a, b, _, _, h => by rw [nrmKs]; exact h
  | k :: r, d, tk, a, b, hr, ht, h => by
    rw [nrmKs, doKs, doKs]
    have e : (nrmKid k).at_ = k.at_ := by cases k; rfl
    rw [e]
    refine (nrm_doKid k d tk (hr k List.mem_cons_self) ht).bind fun x y hxy => nrm_doKs r d tk _ _ (fun q hq => hr q (List.mem_cons_of_mem _ hq)) ht (norms_pad h hxy)
theorem nrm_doKid : ∀ (k : KidOf Edit) (d : Int) (tk : List Tree), rightE k.e d = true → (∀ t ∈ tk, RT_ t) → OptR Eqv (doKid false tk (nrmKid k)) (doKid false tk k)
  | ⟨a, e⟩, d, tk, hr, ht => by rw [nrmKid, doKid, doKid]; exact nrm_do e d _ hr (RT_get ht _)
theorem nrm_doOs (list : Int) : ∀ (os : List (OpOf Edit)) (d : Int) (s : Wst) (rest out : List Tree), (∀ o ∈ os, rightOp list o d = true) → N0s s → K9 list rest → OptR Rx (doOs false (flushW (nrmOs list os s)).out rest out) (doOs false ((flushW s).out ++ os) rest out)
  | [], d, s, rest, out, _, _, _ => by rw [nrmOs, List.append_nil]; exact Rx.rfl' _
  | o :: r, d, s, rest, out, hr, hs, hk => by
    have ho := hr o List.mem_cons_self
    have st := step_do hs ho hk out (nrm_doOp o d)
    rw [nrmOs]
    refine Rx.trans (nrm_doOs list r d _ rest out (fun q hq => hr q (List.mem_cons_of_mem _ hq)) (hs.op ho) hk) ?_
    rw [doOs_app, doOs_app]
    have e : ∀ x : List Tree × List Tree, doOs false (o :: r) x.2 x.1 = (doOp false o x.2 x.1).bind fun y => doOs false r y.2 y.1 := fun x => by rw [doOs]
    rw [show (fun x : List Tree × List Tree => doOs false (o :: r) x.2 x.1) = fun x => (doOp false o x.2 x.1).bind fun y => doOs false r y.2 y.1 from funext e, ← Option.bind_assoc]
    exact st.bind fun x y hxy => doOs_eqv r _ _ _ _ hxy.2 hxy.1 (fun q hq => ⟨_, _, hr q (List.mem_cons_of_mem _ hq)⟩)
theorem nrm_doOp : ∀ (o : OpOf Edit) (d : Int), ∀ y, RT_ y → rightE o.e d = true → OptR Eqv (doE false (nrmE o.e) y) (doE false o.e y)
  | ⟨_, _, _, e⟩, d, y, hy, hr => nrm_do e d y hr hy
end
end Go.AM.Ytlahjnelghpmeaa

namespace Go.AM.Ytlahjnelghpmeaa
open Go.AM Go.Proofs
mutual
theorem turn_turn : ∀ e : Edit, turnE (turnE e) = e
  | .mk k o n w ks l os => by
    simp only [turnE]
    rw [map_turnW, turnKs_turn ks, turnOs_turn os]
theorem turnKs_turn : ∀ ks : List (KidOf Edit), turnKs (turnKs ks) = ks
  | [] => rfl
  | k :: r => by simp only [turnKs]; rw [turnKid_turn k, turnKs_turn r]
theorem turnKid_turn : ∀ k : KidOf Edit, turnKid (turnKid k) = k
  | ⟨a, e⟩ => by simp only [turnKid]; rw [turn_turn e]
theorem turnOs_turn : ∀ os : List (OpOf Edit), turnOs (turnOs os) = os
  | [] => rfl
  | o :: r => by simp only [turnOs]; rw [turnOp_turn o, turnOs_turn r]
theorem turnOp_turn : ∀ o : OpOf Edit, turnOp (turnOp o) = o
  | ⟨k, n, l, e⟩ => by
    have h := turn_turn e
    simp only [turnOp]
    split
    · rename_i c; subst c; rfl
    · split
      · rename_i c; subst c; rfl
      · split
        · rename_i c; subst c; simp only [turnOp]; rw [h]; rfl
        · rename_i c1 c2 c3; simp only [turnOp]; rw [if_neg c1, if_neg c2, if_neg c3]
end
theorem mix_back1 {a n m : Int} (hn : isW n) (hw : withinW n m = true) : mix 0 (mix a n m) m = n := by
  unfold withinW at hw
  have hw : mix n 0 m = 0 := of_decide_eq_true hw
  refine bytes_eq (mix_in _ _ _) hn fun i hi => ?_
  have e := congrArg (fun x => byteAt x i) hw
  simp only [mix_byte hi, mixAt] at e
  rw [mix_byte hi, mixAt]
  by_cases h : named m i = true
  · rw [if_pos h, mix_byte hi, mixAt, if_pos h]
  · rw [if_neg h] at e ⊢
    exact e.symm
theorem mix_back2 {a n o m : Int} (ha : isW a) (ho : mix 0 a m = o) : mix (mix a n m) o m = a := by
  refine bytes_eq (mix_in _ _ _) ha fun i hi => ?_
  rw [mix_byte hi, mixAt]
  by_cases h : named m i = true
  · rw [if_pos h, ← ho, mix_byte hi, mixAt, if_pos h]
  · rw [if_neg h, mix_byte hi, mixAt, if_neg h]
theorem mg_some {α β : Type} {z : α} {f : β → Option α} {p : β → Int} : ∀ {ws : List β} {out : List α}, (∀ w ∈ ws, ∃ v, f w = some v) → ∃ r, mg z f p ws out = some r
  | [], out, _ => ⟨out, rfl⟩
  | w :: s, out, h => by
    obtain ⟨v, hv⟩ := h w List.mem_cons_self
    rw [mg, hv, Option.bind_some]
    exact mg_some fun x hx => h x (List.mem_cons_of_mem _ hx)
theorem word_at {l : List Int} (h : ∀ x ∈ l, isW x) (i : Nat) : isW (l.getD i 0) := by
  by_cases hi : i < l.length
  · exact h _ (mem_getD hi _)
  · rw [List.getD_eq_getElem?_getD, List.getElem?_eq_none (by omega)]; show 0 ≤ (0 : Int) ∧ (0 : Int) < _; omega
theorem words_back {tw : List Int} {ws : List WEdit} {r : List Int} (hw : wordsOk (-1) ws = true) (it : ∀ x ∈ tw, isW x) (iw : ∀ w ∈ ws, rngW w) (h : wsD tw ws tw = some r) : ∃ v, wsD r (ws.map turnW) r = some v ∧ EqvW v tw := by
  rw [wsD_mg] at h
  obtain ⟨a1, a2⟩ := mg_get (by omega) (words_asc hw) h
  have key : ∀ w ∈ ws, (if mix 0 (r.getD (turnW w).at_.toNat 0) (turnW w).mask = (turnW w).old then some (mix (r.getD (turnW w).at_.toNat 0) (turnW w).new (turnW w).mask) else none) = some (tw.getD w.at_.toNat 0) := by
    intro w hm
    obtain ⟨v, hv, hr⟩ := a1 w hm
    split at hv
    · rename_i c
      cases hv
      have ok := wordsOk_all hw w hm
      show (if mix 0 (r.getD w.at_.toNat 0) w.mask = w.new then some (mix (r.getD w.at_.toNat 0) w.old w.mask) else none) = _
      rw [hr, mix_back1 (iw w hm).2.2.2 ok.2.2.2.2, if_pos rfl, mix_back2 (word_at it _) c]
    · cases hv
  have hw' : wordsOk (-1) (ws.map turnW) = true := by rw [wordsOk_turn]; exact hw
  obtain ⟨v, hv⟩ := mg_some (z := 0) (p := WEdit.at_) (out := r) (f := fun w => if mix 0 (r.getD w.at_.toNat 0) w.mask = w.old then some (mix (r.getD w.at_.toNat 0) w.new w.mask) else none) (ws := ws.map turnW) (fun w hm => by
    obtain ⟨x, hx, rfl⟩ := List.mem_map.1 hm
    exact ⟨_, key x hx⟩)
  obtain ⟨b1, b2⟩ := mg_get (by omega) (words_asc hw') hv
  refine ⟨v, by rw [wsD_mg]; exact hv, fun i => ?_⟩
  by_cases hi : ∃ w ∈ ws, w.at_.toNat = i
  · obtain ⟨w, hm, rfl⟩ := hi
    obtain ⟨y, hy, hr⟩ := b1 (turnW w) (List.mem_map_of_mem hm)
    have := key w hm
    rw [this] at hy
    cases hy
    exact hr
  · have h1 : ∀ w ∈ ws, w.at_.toNat ≠ i := fun w hm e => hi ⟨w, hm, e⟩
    rw [b2 i (fun w hm => by obtain ⟨x, hx, rfl⟩ := List.mem_map.1 hm; exact h1 x hx), a2 i h1]
theorem turnKs_mem : ∀ {ks : List Kid} {k : Kid}, k ∈ turnKs ks → ∃ q ∈ ks, k = turnKid q
  | [], k, h => by cases h
  | a :: r, k, h => by
    rw [turnKs] at h
    rcases List.mem_cons.1 h with rfl | h
    · exact ⟨a, List.mem_cons_self, rfl⟩
    · obtain ⟨q, hq, e⟩ := turnKs_mem h
      exact ⟨q, List.mem_cons_of_mem _ hq, e⟩
theorem mem_turnKs : ∀ {ks : List Kid} {k : Kid}, k ∈ ks → turnKid k ∈ turnKs ks
  | [], k, h => by cases h
  | a :: r, k, h => by
    rw [turnKs]
    rcases List.mem_cons.1 h with rfl | h
    · exact List.mem_cons_self
    · exact List.mem_cons_of_mem _ (mem_turnKs h)
theorem turnKid_parts (k : Kid) : (turnKid k).at_ = k.at_ ∧ (turnKid k).e = turnE k.e := by cases k; exact ⟨rfl, rfl⟩
theorem kids_back {tk : List Tree} {ks : List Kid} {r : List Tree} {d : Int} (hk : rightKs (-1) ks d = true) (h : doKs false tk ks tk = some r)
    (ih : ∀ k ∈ ks, ∀ u, doE false k.e (tk.getD k.at_.toNat Tree.nil) = some u → ∃ v, doE false (turnE k.e) u = some v ∧ Eqv v (tk.getD k.at_.toNat Tree.nil)) : ∃ v, doKs false r (turnKs ks) r = some v ∧ EqvS v tk := by
  rw [doKs_mg] at h
  obtain ⟨a1, a2⟩ := mg_get (by omega) (kids_asc hk) h
  have key : ∀ k ∈ ks, ∃ v, doKid false r (turnKid k) = some v ∧ Eqv v (tk.getD k.at_.toNat Tree.nil) := by
    intro k hm
    obtain ⟨u, hu, hr⟩ := a1 k hm
    rw [doKid_at] at hu
    obtain ⟨v, hv, he⟩ := ih k hm u hu
    refine ⟨v, ?_, he⟩
    rw [doKid_at, (turnKid_parts k).1, (turnKid_parts k).2, hr]
    exact hv
  have hk' := rightKs_turn ks _ _ hk
  obtain ⟨v, hv⟩ := mg_some (z := Tree.nil) (p := KidOf.at_) (out := r) (f := doKid false r) (ws := turnKs ks) (fun k hm => by
    obtain ⟨q, hq, rfl⟩ := turnKs_mem hm
    obtain ⟨v, hv, _⟩ := key q hq
    exact ⟨v, hv⟩)
  obtain ⟨b1, b2⟩ := mg_get (by omega) (kids_asc hk') hv
  refine ⟨v, by rw [doKs_mg]; exact hv, fun i => ?_⟩
  by_cases hi : ∃ k ∈ ks, k.at_.toNat = i
  · obtain ⟨k, hm, rfl⟩ := hi
    obtain ⟨y, hy, hr⟩ := b1 (turnKid k) (mem_turnKs hm)
    obtain ⟨x, hx, he⟩ := key k hm
    rw [hx] at hy
    cases hy
    rw [(turnKid_parts k).1] at hr
    rw [hr]
    exact he
  · have h1 : ∀ k ∈ ks, k.at_.toNat ≠ i := fun k hm e => hi ⟨k, hm, e⟩
    rw [b2 i (fun k hm => by obtain ⟨q, hq, rfl⟩ := turnKs_mem hm; rw [(turnKid_parts q).1]; exact h1 q hq), a2 i h1]
    exact rfl
theorem turnOp_0 (n : Int) (l : List Tree) (e : Edit) : turnOp ⟨0, n, l, e⟩ = ⟨0, n, l, e⟩ := rfl
theorem turnOp_1 (n : Int) (l : List Tree) (e : Edit) : turnOp ⟨1, n, l, e⟩ = ⟨2, n, l, e⟩ := rfl
theorem turnOp_2 (n : Int) (l : List Tree) (e : Edit) : turnOp ⟨2, n, l, e⟩ = ⟨1, n, l, e⟩ := rfl
theorem turnOp_3 (n : Int) (l : List Tree) (e : Edit) : turnOp ⟨3, n, l, e⟩ = ⟨3, n, l, turnE e⟩ := rfl
mutual
theorem turn_do : ∀ (e : Edit) (d : Int) (t u : Tree), rightE e d = true → rngE e → RT_ t → doE false e t = some u → ∃ v, doE false (turnE e) u = some v ∧ Eqv v t
  | .mk k o n w ks l os, d, t, u, hr, he, ht, h => by
    have ri := rightE_all hr
    have h1 := turn_doKs ks
    have h2 := turn_doOs os
    have hkid := ht.kids
    have hta := rng_at' ht.2
    have hea : (∀ x ∈ w, rngW x) ∧ rngKs ks ∧ rngOs os := by simp only [rngE] at he; exact ⟨he.2.2.2.1, he.2.2.2.2.2.1, he.2.2.2.2.2.2⟩
    rw [doE_raw, nrD_false] at h
    unfold rawE at h
    simp only [turnE]
    have hraw : ∀ u : Tree, rawE false (.mk k n o (w.map turnW) (turnKs ks) l (turnOs os)) u = if k = 0 then some u else if k = 1 then (if sameT (normT n) (normT u) = true then some o else none) else if k = 2 then (if u.kind = 1 then (wsD u.words (w.map turnW) u.words).bind fun a => (doKs false u.kids (turnKs ks) u.kids).map fun b => .mk 1 a b else none) else if k = 3 then (if u.kind = l then (endD (doOs false (turnOs os) u.kids [])).map fun b => .mk l [] b else none) else none := fun _ => rfl
    have fin : ∀ x v, x = some v → Eqv v t → rawE false (.mk k n o (w.map turnW) (turnKs ks) l (turnOs os)) u = x → ∃ v, doE false (.mk k n o (w.map turnW) (turnKs ks) l (turnOs os)) u = some v ∧ Eqv v t := by
      rintro x v rfl hv hx
      exact ⟨v, by rw [doE_raw, nrD_false]; exact hx, hv⟩
    split at h
    · rename_i c
      cases h
      refine fin _ t rfl rfl ?_
      replace c : k = 0 := c
      rw [hraw, if_pos c]
    · rename_i c0
      replace c0 : ¬ k = 0 := c0
      split at h
      · rename_i c1
        replace c1 : k = 1 := c1
        split at h
        · rename_i c
          cases h
          refine fin _ o rfl (sameT_true.1 c) ?_
          rw [hraw, if_neg c0, if_pos c1]
          show (if sameT (normT n) (normT n) = true then some o else none) = some o
          rw [sameT_self]
          rfl
        · cases h
      · rename_i c1
        replace c1 : ¬ k = 1 := c1
        split at h
        · rename_i c2
          replace c2 : k = 2 := c2
          split at h
          · rename_i c
            obtain ⟨a, ha, hb⟩ := Option.bind_eq_some_iff.1 h
            obtain ⟨b, hb2, e⟩ := Option.map_eq_some_iff.1 hb
            obtain ⟨va, hva, ea⟩ := words_back ri.words hta.2.1 hea.1 ha
            obtain ⟨vb, hvb, eb⟩ := kids_back ri.kids hb2 (fun q hq x hx => h1 (d - 1) q hq _ x (rightKs_all ri.kids q hq).2 hea.2.1 (RT_get hkid.1 _) hx)
            subst e
            refine fin _ (.mk 1 va vb) rfl ((eqv_struct rfl c).2 ⟨ea, eb⟩) ?_
            rw [hraw, if_neg c0, if_neg c1, if_pos c2, if_pos (show (Tree.mk 1 a b).kind = 1 from rfl)]
            have q1 : wsD a (w.map turnW) a = some va := hva
            have q2 : doKs false b (turnKs ks) b = some vb := hvb
            show ((wsD a (w.map turnW) a).bind fun a_1 => (doKs false b (turnKs ks) b).map fun b_1 => Tree.mk 1 a_1 b_1) = _
            rw [q1, Option.bind_some, q2]
            rfl
          · cases h
        · rename_i c2
          replace c2 : ¬ k = 2 := c2
          split at h
          · rename_i c3
            replace c3 : k = 3 := c3
            split at h
            · rename_i c
              obtain ⟨b, hb, e⟩ := Option.map_eq_some_iff.1 h
              unfold endD at hb
              obtain ⟨x, hx, hy⟩ := Option.bind_eq_some_iff.1 hb
              split at hy
              · rename_i z0
                cases hy
                subst e
                obtain ⟨X, e1, hX⟩ := h2 (d - 1) t.kids [] x (fun q hq => ⟨_, Go.AM.rightOs_mem ri.ops q hq⟩) hea.2.2 hkid.1 hx
                obtain ⟨Y, hY, e2⟩ := hX [] []
                have hl : 2 ≤ l ∧ l ≤ 9 := ri.list c3
                have c : t.kind = l := c
                rw [List.nil_append] at e1
                rw [List.append_nil, ← e1, List.nil_append] at hY
                rw [List.eq_nil_of_length_eq_zero z0] at e2
                refine fin _ (.mk l [] Y) rfl ((eqv_list (a := .mk l [] Y) (by show l ≠ 0; omega) (by show l ≠ 1; omega)).2 ⟨c.symm, (hkid.2 (by omega) (by omega) (by omega)).symm, by show normsT Y = normsT t.kids; rw [← e2]; simp [normsT]⟩) ?_
                rw [hraw, if_neg c0, if_neg c1, if_neg c2, if_pos c3, if_pos (show (Tree.mk (Edit.mk k o n w ks l os).list [] x.1).kind = l from rfl)]
                show (endD (doOs false (turnOs os) x.1 [])).map (fun b => Tree.mk l [] b) = _
                rw [hY]
                rfl
              · cases hy
            · cases h
          · cases h
theorem turn_doKs : ∀ (ks : List (KidOf Edit)) (d : Int), ∀ k ∈ ks, ∀ (t u : Tree), rightE k.e d = true → rngKs ks → RT_ t → doE false k.e t = some u → ∃ v, doE false (turnE k.e) u = some v ∧ Eqv v t
  | [], d, k, hk => by cases hk
  | ⟨a, e⟩ :: r, d, k, hk => by
    have h1 := turn_do e d
    have h2 := turn_doKs r d
    intro t u hr hg ht h
    simp only [rngKs, rngKid] at hg
    rcases List.mem_cons.1 hk with rfl | hk
    · exact h1 t u hr hg.1.2 ht h
    · exact h2 k hk t u hr hg.2 ht h
theorem turn_doOs : ∀ (os : List (OpOf Edit)) (d : Int) (rest out : List Tree) (x : List Tree × List Tree), (∀ o ∈ os, ∃ l, rightOp l o d = true) → rngOs os → (∀ t ∈ rest, RT_ t) → doOs false os rest out = some x →
    ∃ X, x.1 = out ++ X ∧ ∀ z out2, ∃ Y, doOs false (turnOs os) (X ++ z) out2 = some (out2 ++ Y, z) ∧ normsT Y ++ normsT x.2 = normsT rest
  | [], d, rest, out, x, _, _, _, h => by
    rw [doOs] at h
    cases h
    exact ⟨[], by simp, fun z out2 => ⟨[], by rw [turnOs, doOs]; simp, by simp [normsT]⟩⟩
  | o :: s, d, rest, out, x, hr, hg, ht, h => by
    rw [doOs] at h
    obtain ⟨y, hy, hx⟩ := Option.bind_eq_some_iff.1 h
    simp only [rngOs] at hg
    obtain ⟨X0, e0, h0⟩ := turn_doOp o d rest out y (hr o List.mem_cons_self) hg.1 ht hy
    have hsuf : ∀ t ∈ y.2, RT_ t := by
      obtain ⟨m, hm⟩ := doOs_suffix (os := [o]) (by rw [doOs_one]; exact hy)
      rw [hm]
      exact fun t h => ht t (List.mem_of_mem_drop h)
    obtain ⟨X1, e1, h1⟩ := turn_doOs s d y.2 y.1 x (fun q hq => hr q (List.mem_cons_of_mem _ hq)) hg.2 hsuf hx
    refine ⟨X0 ++ X1, by rw [e1, e0, List.append_assoc], fun z out2 => ?_⟩
    obtain ⟨Y0, p0, q0⟩ := h0 (X1 ++ z) out2
    obtain ⟨Y1, p1, q1⟩ := h1 z (out2 ++ Y0)
    refine ⟨Y0 ++ Y1, ?_, ?_⟩
    · rw [turnOs, doOs, List.append_assoc, p0, Option.bind_some, p1, List.append_assoc]
    · rw [normsT_append, List.append_assoc, q1, q0]
theorem turn_doOp : ∀ (o : OpOf Edit) (d : Int) (rest out : List Tree) (y : List Tree × List Tree), (∃ l, rightOp l o d = true) → rngOp o → (∀ t ∈ rest, RT_ t) → doOp false o rest out = some y →
    ∃ X, y.1 = out ++ X ∧ ∀ z out2, ∃ Y, doOp false (turnOp o) (X ++ z) out2 = some (out2 ++ Y, z) ∧ normsT Y ++ normsT y.2 = normsT rest
  | ⟨k, n, l, e⟩, d, rest, out, y, ⟨li, hr⟩, hg, ht, h => by
    have ie := turn_do e d (rest.getD 0 Tree.nil)
    have r1 := rightOp_facts' hr
    simp only [rngOp] at hg
    rw [doOp] at h
    split at h
    · rename_i c
      subst c
      split at h
      · rename_i c
        cases h
        refine ⟨rest.take n.toNat, rfl, fun z out2 => ⟨rest.take n.toNat, ?_, ?_⟩⟩
        · have hl : (rest.take n.toNat).length = n.toNat := by rw [List.length_take]; omega
          rw [turnOp_0, doOp, if_pos rfl, if_pos (by rw [List.length_append]; omega), List.take_left' hl, List.drop_left' hl]
        · rw [← normsT_append, List.take_append_drop]
      · cases h
    · rename_i c0
      split at h
      · rename_i c
        subst c
        split at h
        · rename_i c
          cases h
          refine ⟨[], by simp, fun z out2 => ⟨l, ?_, ?_⟩⟩
          · rw [turnOp_1, doOp, if_neg (by omega), if_neg (by omega), if_pos rfl]
            rfl
          · rw [((goneD_iff l rest).1 c).2, ← normsT_append, List.take_append_drop]
        · cases h
      · rename_i c1
        split at h
        · rename_i c
          subst c
          cases h
          refine ⟨l, rfl, fun z out2 => ⟨[], ?_, by simp [normsT]⟩⟩
          have hg2 : goneD l (l ++ z) = true := by rw [goneD_iff]; exact ⟨by simp, by rw [List.take_left' rfl]⟩
          rw [turnOp_2, doOp, if_neg (by omega), if_pos rfl, if_pos hg2, List.drop_left' rfl, List.append_nil]
        · rename_i c2
          split at h
          · cases h
          · rename_i z0
            have hk : k = 3 := by rcases r1 with h | h | h | h <;> first | exact absurd h c0 | exact absurd h c1 | exact absurd h c2 | exact h
            subst hk
            obtain ⟨u, hu, ey⟩ := Option.map_eq_some_iff.1 h
            cases ey
            obtain ⟨v, hv, hev⟩ := ie u (right_desc hr rfl) hg.2.2.2 (RT_get ht 0) hu
            refine ⟨[u], rfl, fun z out2 => ⟨[v], ?_, ?_⟩⟩
            · rw [turnOp_3, doOp, if_neg (by omega), if_neg (by omega), if_neg (by omega), if_neg (by simp)]
              show (doE false (turnE e) u).map _ = _
              rw [hv]
              rfl
            · cases rest with
              | nil => exact absurd rfl z0
              | cons a q =>
                show normsT ([v] ++ q) = normsT (a :: q)
                simp only [normsT, List.cons_append, List.nil_append, List.map_cons]
                rw [show normT v = normT a from hev]
end
end Go.AM.Ytlahjnelghpmeaa

namespace Go.AM.Ytlahjnelghpmeaa
open Go.AM Go.Proofs
abbrev TrG22c (p : Prop) : Prop := p → p
def args107 : ArgM ((List Op × List Tree × List Tree × Unit) × Unit) := (.obj 0 (.cons (cWr .op 0 0) (.cons (cOwn .tree 0 1) (.cons (cOwn .tree 0 2) .nil))) .nil)
def pre107 (a : (List Op × List Tree × List Tree × Unit) × Unit) : Prop := (a.1.1).length ≤ 100000000 ∧ (a.1.2.1).length ≤ 100000000 ∧ (a.1.2.2.1).length ≤ 100000000
noncomputable def res107 (a : (List Op × List Tree × List Tree × Unit) × Unit) : V U := .tup []
noncomputable def resX107 (a : (List Op × List Tree × List Tree × Unit) × Unit) : List (List (C U)) := [[.mref (.x 0 0), .slice (U := U) .tree ((flushW (Wst.mk a.1.1 a.1.2.1 a.1.2.2.1)).gone) (.own (.x 0 1)), .slice (U := U) .tree ((flushW (Wst.mk a.1.1 a.1.2.1 a.1.2.2.1)).brought) (.own (.x 0 2))]]
noncomputable def resL107 (a : (List Op × List Tree × List Tree × Unit) × Unit) : List (Tok × LC U) := [(.x 0 0, LC.mk (U := U) .op ((flushW (Wst.mk a.1.1 a.1.2.1 a.1.2.2.1)).out) 0)]
noncomputable def spec107 : Fs U := fsXL args107 (fun a => [pre107 a]) res107 resX107 resL107
def args105 : ArgM ((List Op × List Tree × List Tree × Unit) × Int × Unit) := (.obj 0 (.cons (cWr .op 0 0) (.cons (cOwn .tree 0 1) (.cons (cOwn .tree 0 2) .nil))) (.cons (aInt .i64) .nil))
def pre105 (a : (List Op × List Tree × List Tree × Unit) × Int × Unit) : Prop := (a.1.1).length ≤ 100000000 ∧ (a.1.2.1).length ≤ 100000000 ∧ (a.1.2.2.1).length ≤ 100000000 ∧ (∀ o ∈ a.1.1, 0 ≤ o.n ∧ o.n ≤ 100000000000000) ∧ 0 ≤ a.2.1 ∧ a.2.1 ≤ 1048576
noncomputable def res105 (a : (List Op × List Tree × List Tree × Unit) × Int × Unit) : V U := .tup []
noncomputable def resX105 (a : (List Op × List Tree × List Tree × Unit) × Int × Unit) : List (List (C U)) := [[.mref (.x 0 0), .slice (U := U) .tree ((keepW (Wst.mk a.1.1 a.1.2.1 a.1.2.2.1) a.2.1).gone) (.own (.x 0 1)), .slice (U := U) .tree ((keepW (Wst.mk a.1.1 a.1.2.1 a.1.2.2.1) a.2.1).brought) (.own (.x 0 2))]]
noncomputable def resL105 (a : (List Op × List Tree × List Tree × Unit) × Int × Unit) : List (Tok × LC U) := [(.x 0 0, LC.mk (U := U) .op ((keepW (Wst.mk a.1.1 a.1.2.1 a.1.2.2.1) a.2.1).out) 0)]
noncomputable def spec105 : Fs U := fsXL args105 (fun a => [pre105 a]) res105 resX105 resL105
def args106 : ArgM ((List Op × List Tree × List Tree × Unit) × List Tree × Unit) := (.objAt 0 1 (.cons (cWr .op 0 0) (.cons (cOwn .tree 0 1) (.cons (cOwn .tree 0 2) .nil))) (.cons (aSl .tree) .nil))
def pre106 (a : (List Op × List Tree × List Tree × Unit) × List Tree × Unit) : Prop := (a.1.1).length ≤ 100000000 ∧ (a.1.2.1).length ≤ 100000000 ∧ (a.1.2.2.1).length ≤ 100000000 ∧ massK a.2.1 ≤ 1000000
noncomputable def res106 (a : (List Op × List Tree × List Tree × Unit) × List Tree × Unit) : V U := .tup []
noncomputable def resX106 (a : (List Op × List Tree × List Tree × Unit) × List Tree × Unit) : List (List (C U)) := [[.mref (.x 0 0), .slice (U := U) .tree ((Wst.mk a.1.1 (a.1.2.1 ++ normsT a.2.1) a.1.2.2.1).gone) (.own (.x 0 1)), .slice (U := U) .tree ((Wst.mk a.1.1 (a.1.2.1 ++ normsT a.2.1) a.1.2.2.1).brought) (.own (.x 0 2))]]
noncomputable def resL106 (a : (List Op × List Tree × List Tree × Unit) × List Tree × Unit) : List (Tok × LC U) := [(.x 0 0, LC.mk (U := U) .op ((Wst.mk a.1.1 (a.1.2.1 ++ normsT a.2.1) a.1.2.2.1).out) 0)]
noncomputable def spec106 : Fs U := fsXL args106 (fun a => [pre106 a]) res106 resX106 resL106
def args1106 : ArgM ((List Op × List Tree × List Tree × Unit) × List Tree × Unit) := (.objAt 0 2 (.cons (cWr .op 0 0) (.cons (cOwn .tree 0 1) (.cons (cOwn .tree 0 2) .nil))) (.cons (aSl .tree) .nil))
def pre1106 (a : (List Op × List Tree × List Tree × Unit) × List Tree × Unit) : Prop := (a.1.1).length ≤ 100000000 ∧ (a.1.2.1).length ≤ 100000000 ∧ (a.1.2.2.1).length ≤ 100000000 ∧ massK a.2.1 ≤ 1000000
noncomputable def res1106 (a : (List Op × List Tree × List Tree × Unit) × List Tree × Unit) : V U := .tup []
noncomputable def resX1106 (a : (List Op × List Tree × List Tree × Unit) × List Tree × Unit) : List (List (C U)) := [[.mref (.x 0 0), .slice (U := U) .tree ((Wst.mk a.1.1 a.1.2.1 (a.1.2.2.1 ++ normsT a.2.1)).gone) (.own (.x 0 1)), .slice (U := U) .tree ((Wst.mk a.1.1 a.1.2.1 (a.1.2.2.1 ++ normsT a.2.1)).brought) (.own (.x 0 2))]]
noncomputable def resL1106 (a : (List Op × List Tree × List Tree × Unit) × List Tree × Unit) : List (Tok × LC U) := [(.x 0 0, LC.mk (U := U) .op ((Wst.mk a.1.1 a.1.2.1 (a.1.2.2.1 ++ normsT a.2.1)).out) 0)]
noncomputable def spec1106 : Fs U := fsXL args1106 (fun a => [pre1106 a]) res1106 resX1106 resL1106
def args1042 : ArgL (Int × Edit × Unit) := (.cons (aInt .i64) (.cons (aEl .edit) .nil))
def pre1042 (a : Int × Edit × Unit) : Prop := (Edit.words a.2.1).length ≤ 1000000 ∧ (Edit.kids a.2.1).length ≤ 1000000
noncomputable def res1042 (a : Int × Edit × Unit) : V U := .c (.bool (idleE a.1 a.2.1))
noncomputable def spec1042 : Fs U := fs args1042 (fun a => [pre1042 a]) res1042
noncomputable def know107 : List (FuncId × Fs U) := []
def lv107 : Lives U := fun i => match i with
  | 0 => ([(0, []), (7, [])], [((.x 0), [.wr .op])])
  | 1 => ([(0, [])], [((.x 0), [.wr .op])])
  | 2 => ([(0, []), (28, [])], [((.x 0), [.wr .op])])
  | 3 => ([(0, [])], [((.x 0), [.wr .op])])
  | 4 => ([], [((.x 0), [.wr .op])])
  | _ => ([], [])
abbrev W107 (wo : List Op) (wg : List Tree) (wb : List Tree) (Q : AExit → LSt U → Prop) := awp cfg (know know107) (drawOk cfg (know know107)) Try.f107.ntmps lv107 (cd Try.f107 []) (⟨[(0, .ptr (.x 0) 0)], [((.x 0), [.mref (.x 0 0), .slice (U := U) .tree wg (.own (.x 0 1)), .slice (U := U) .tree wb (.own (.x 0 2))])], [(.x 0 0, LC.mk (U := U) .op wo 0)]⟩ : LSt U) Q
theorem vc107 (wo : List Op) (wg : List Tree) (wb : List Tree) (Q : AExit → LSt U → Prop) (h : ∀ y_1, y_1 = (Edit.mk 0 (Tree.mk 0 ([]) ([])) (Tree.mk 0 ([]) ([])) ([]) ([]) 0 ([])) → ∀ y_2, y_2 = (List.set (wo ++ ([(OpOf.mk 0 0 ([]) y_1 : Op)])) (Int.toNat (wo.length : Int)) (OpOf.mk 1 0 wg y_1 : Op)) → ((decide ((0 : Int) < (wg.length : Int))) = true → ((wo.length + ([(OpOf.mk 0 0 ([]) y_1 : Op)]).length) * 240 ≤ 140737488355328) ∧ ((0 : Int) ≤ (wo.length : Int) ∧ (wo.length : Int) < ((wo ++ ([(OpOf.mk 0 0 ([]) y_1 : Op)])).length : Int)) ∧ ((0 : Nat) ≤ (Int.toNat (wo.length : Int))) ∧ (((decide ((0 : Int) < (wb.length : Int))) = true → ((y_2.length + ([(OpOf.mk 0 0 ([]) y_1 : Op)]).length) * 240 ≤ 140737488355328) ∧ ((0 : Int) ≤ (y_2.length : Int) ∧ (y_2.length : Int) < ((y_2 ++ ([(OpOf.mk 0 0 ([]) y_1 : Op)])).length : Int)) ∧ ((0 : Nat) ≤ (Int.toNat (y_2.length : Int))) ∧ (Q .normal (⟨[], [((.x 0), [.mref (.x 0 0), .nils, .nils])], [(.x 0 0, LC.mk (U := U) .op (List.set (y_2 ++ ([(OpOf.mk 0 0 ([]) y_1 : Op)])) (Int.toNat (y_2.length : Int)) (OpOf.mk 2 0 wb y_1 : Op)) 0)]⟩ : LSt U))) ∧ ((decide ((0 : Int) < (wb.length : Int))) = false → Q .normal (⟨[], [((.x 0), [.mref (.x 0 0), .nils, .nils])], [(.x 0 0, LC.mk (U := U) .op y_2 0)]⟩ : LSt U)))) ∧ ((decide ((0 : Int) < (wg.length : Int))) = false → ((decide ((0 : Int) < (wb.length : Int))) = true → ((wo.length + ([(OpOf.mk 0 0 ([]) y_1 : Op)]).length) * 240 ≤ 140737488355328) ∧ ((0 : Int) ≤ (wo.length : Int) ∧ (wo.length : Int) < ((wo ++ ([(OpOf.mk 0 0 ([]) y_1 : Op)])).length : Int)) ∧ ((0 : Nat) ≤ (Int.toNat (wo.length : Int))) ∧ (Q .normal (⟨[], [((.x 0), [.mref (.x 0 0), .nils, .nils])], [(.x 0 0, LC.mk (U := U) .op (List.set (wo ++ ([(OpOf.mk 0 0 ([]) y_1 : Op)])) (Int.toNat (wo.length : Int)) (OpOf.mk 2 0 wb y_1 : Op)) 0)]⟩ : LSt U))) ∧ ((decide ((0 : Int) < (wb.length : Int))) = false → Q .normal (⟨[], [((.x 0), [.mref (.x 0 0), .nils, .nils])], [(.x 0 0, LC.mk (U := U) .op wo 0)]⟩ : LSt U)))) :
    W107 wo wg wb Q := by
  have e_ : (W107 wo wg wb Q) = (let y_1 := (Edit.mk 0 (Tree.mk 0 ([]) ([])) (Tree.mk 0 ([]) ([])) ([]) ([]) 0 ([])); let y_2 := (List.set (wo ++ ([(OpOf.mk 0 0 ([]) y_1 : Op)])) (Int.toNat (wo.length : Int)) (OpOf.mk 1 0 wg y_1 : Op)); let zz0 := (decide ((0 : Int) < (wb.length : Int))); (((decide ((0 : Int) < (wg.length : Int))) = true → ((wo.length + ([(OpOf.mk 0 0 ([]) y_1 : Op)]).length) * 240 ≤ 140737488355328) ∧ ((0 : Int) ≤ (wo.length : Int) ∧ (wo.length : Int) < ((wo ++ ([(OpOf.mk 0 0 ([]) y_1 : Op)])).length : Int)) ∧ ((0 : Nat) ≤ (Int.toNat (wo.length : Int))) ∧ (((zz0 = true → ((y_2.length + ([(OpOf.mk 0 0 ([]) y_1 : Op)]).length) * 240 ≤ 140737488355328) ∧ ((0 : Int) ≤ (y_2.length : Int) ∧ (y_2.length : Int) < ((y_2 ++ ([(OpOf.mk 0 0 ([]) y_1 : Op)])).length : Int)) ∧ ((0 : Nat) ≤ (Int.toNat (y_2.length : Int))) ∧ ((Q .normal (⟨[], [((.x 0), [.mref (.x 0 0), .nils, .nils])], [(.x 0 0, LC.mk (U := U) .op (List.set (y_2 ++ ([(OpOf.mk 0 0 ([]) y_1 : Op)])) (Int.toNat (y_2.length : Int)) (OpOf.mk 2 0 wb y_1 : Op)) 0)]⟩ : LSt U)))) ∧ (zz0 = false → (Q .normal (⟨[], [((.x 0), [.mref (.x 0 0), .nils, .nils])], [(.x 0 0, LC.mk (U := U) .op y_2 0)]⟩ : LSt U)))))) ∧ ((decide ((0 : Int) < (wg.length : Int))) = false → ((zz0 = true → ((wo.length + ([(OpOf.mk 0 0 ([]) y_1 : Op)]).length) * 240 ≤ 140737488355328) ∧ ((0 : Int) ≤ (wo.length : Int) ∧ (wo.length : Int) < ((wo ++ ([(OpOf.mk 0 0 ([]) y_1 : Op)])).length : Int)) ∧ ((0 : Nat) ≤ (Int.toNat (wo.length : Int))) ∧ ((Q .normal (⟨[], [((.x 0), [.mref (.x 0 0), .nils, .nils])], [(.x 0 0, LC.mk (U := U) .op (List.set (wo ++ ([(OpOf.mk 0 0 ([]) y_1 : Op)])) (Int.toNat (wo.length : Int)) (OpOf.mk 2 0 wb y_1 : Op)) 0)]⟩ : LSt U)))) ∧ (zz0 = false → (Q .normal (⟨[], [((.x 0), [.mref (.x 0 0), .nils, .nils])], [(.x 0 0, LC.mk (U := U) .op wo 0)]⟩ : LSt U))))))) := by kernel_rfl
  exact e_.mpr (by intro y_1 y_2; have hh := h y_1 rfl y_2 rfl; exact ⟨fun c_1 => ⟨(hh.1 c_1).1, (hh.1 c_1).2.1, (hh.1 c_1).2.2.1, ⟨fun c_2 => ⟨((hh.1 c_1).2.2.2.1 c_2).1, ((hh.1 c_1).2.2.2.1 c_2).2.1, ((hh.1 c_1).2.2.2.1 c_2).2.2.1, ((hh.1 c_1).2.2.2.1 c_2).2.2.2⟩, fun c_2 => ((hh.1 c_1).2.2.2.2 c_2)⟩⟩, fun c_1 => ⟨fun c_3 => ⟨((hh.2 c_1).1 c_3).1, ((hh.2 c_1).1 c_3).2.1, ((hh.2 c_1).1 c_3).2.2.1, ((hh.2 c_1).1 c_3).2.2.2⟩, fun c_3 => ((hh.2 c_1).2 c_3)⟩⟩)
def Body107 (wo : List Op) (wg : List Tree) (wb : List Tree)  : Prop := awp cfg (know (know107)) (drawOk cfg (know (know107))) Try.f107.ntmps lv107 (cd Try.f107 []) (entryL (args107.can ((wo, wg, wb, ()), ())) (args107.canX ((wo, wg, wb, ()), ())) (args107.canL ((wo, wg, wb, ()), ()))) (EndsQL cfg Try.f107.ntmps Try.f107.results.toList (res107 ((wo, wg, wb, ()), ())) (resX107 ((wo, wg, wb, ()), ())) (resL107 ((wo, wg, wb, ()), ())))
theorem make107 (hb : ∀ (wo : List Op) (wg : List Tree) (wb : List Tree) (_ : Unit), pre107 ((wo, wg, wb, ()), ()) → Body107 wo wg wb) : Contract Try.prog cfg 107 spec107 :=
  contractXL_flat (l := []) cfgOk rfl (trivial) lv107 Try.func107 rfl rfl 1 (fun _ => rfl) (by decide) (fun ⟨⟨wo, wg, wb, _⟩, _⟩ => hb wo wg wb ())
noncomputable def know105 : List (FuncId × Fs U) := [(107, spec107)]
def lv105 : Lives U := fun i => match i with
  | 0 => ([(0, []), (1, [])], [((.x 0), [.wr .op])])
  | 1 => ([(0, []), (1, []), (4, [])], [((.x 0), [.wr .op])])
  | 2 => ([(0, []), (1, []), (4, []), (25, [])], [((.x 0), [.wr .op])])
  | 3 => ([], [((.x 0), [.wr .op])])
  | 4 => ([], [((.x 0), [.wr .op])])
  | _ => ([], [])
abbrev W105 (wo : List Op) (wg : List Tree) (wb : List Tree) (n : Int) (Q : AExit → LSt U → Prop) := awp cfg (know know105) (drawOk cfg (know know105)) Try.f105.ntmps lv105 (cd Try.f105 []) (⟨[(0, .ptr (.x 0) 0), (1, .c (.int .i64 n))], [((.x 0), [.mref (.x 0 0), .slice (U := U) .tree wg (.own (.x 0 1)), .slice (U := U) .tree wb (.own (.x 0 2))])], [(.x 0 0, LC.mk (U := U) .op wo 0)]⟩ : LSt U) Q
theorem vc105 (wo : List Op) (wg : List Tree) (wb : List Tree) (n : Int) (Q : AExit → LSt U → Prop) (h : ∀ y_1, y_1 = (Edit.mk 0 (Tree.mk 0 ([]) ([])) (Tree.mk 0 ([]) ([])) ([]) ([]) 0 ([])) → ∀ y_2, y_2 = (Int.toNat (((((flushW (Wst.mk wo wg wb)).out).length : Int) : Int) - 1)) → ∀ y_3, y_3 = (List.getD ((flushW (Wst.mk wo wg wb)).out) y_2 Op.nil) → ∀ y_4, y_4 = ((OpOf.e y_3)) → (pre107 ((wo, wg, wb, ()), ())) ∧ ((InR (((((flushW (Wst.mk wo wg wb)).out).length : Int) : Int) - 1)) ∧ (((decide ((0 : Int) ≤ (((((flushW (Wst.mk wo wg wb)).out).length : Int) : Int) - 1))) = true → (0 : Int) ≤ (((((flushW (Wst.mk wo wg wb)).out).length : Int) : Int) - 1) ∧ (((((flushW (Wst.mk wo wg wb)).out).length : Int) : Int) - 1) < (((flushW (Wst.mk wo wg wb)).out).length : Int)) ∧ (((bif (decide ((0 : Int) ≤ (((((flushW (Wst.mk wo wg wb)).out).length : Int) : Int) - 1))) then (((OpOf.kind y_3) : Int) == 0) else false) = true → ((0 : Int) ≤ (((((flushW (Wst.mk wo wg wb)).out).length : Int) : Int) - 1) ∧ (((((flushW (Wst.mk wo wg wb)).out).length : Int) : Int) - 1) < (((flushW (Wst.mk wo wg wb)).out).length : Int)) ∧ (InR (((OpOf.n y_3) : Int) + n)) ∧ ((0 : Int) ≤ (((((flushW (Wst.mk wo wg wb)).out).length : Int) : Int) - 1) ∧ (((((flushW (Wst.mk wo wg wb)).out).length : Int) : Int) - 1) < (((flushW (Wst.mk wo wg wb)).out).length : Int)) ∧ ((0 : Nat) ≤ y_2) ∧ (Q .ret (⟨[], [((.x 0), [.mref (.x 0 0), .slice (U := U) .tree ((flushW (Wst.mk wo wg wb)).gone) (.own (.x 0 1)), .slice (U := U) .tree ((flushW (Wst.mk wo wg wb)).brought) (.own (.x 0 2))])], [(.x 0 0, LC.mk (U := U) .op (List.set ((flushW (Wst.mk wo wg wb)).out) y_2 (OpOf.mk (OpOf.kind y_3) (((OpOf.n y_3) : Int) + n) (OpOf.l y_3) y_4 : Op)) 0)]⟩ : LSt U))) ∧ ((bif (decide ((0 : Int) ≤ (((((flushW (Wst.mk wo wg wb)).out).length : Int) : Int) - 1))) then (((OpOf.kind y_3) : Int) == 0) else false) = false → ((((flushW (Wst.mk wo wg wb)).out).length + ([(OpOf.mk 0 0 ([]) y_1 : Op)]).length) * 240 ≤ 140737488355328) ∧ ((0 : Int) ≤ (((flushW (Wst.mk wo wg wb)).out).length : Int) ∧ (((flushW (Wst.mk wo wg wb)).out).length : Int) < ((((flushW (Wst.mk wo wg wb)).out) ++ ([(OpOf.mk 0 0 ([]) y_1 : Op)])).length : Int)) ∧ ((0 : Nat) ≤ (Int.toNat (((flushW (Wst.mk wo wg wb)).out).length : Int))) ∧ (Q .normal (⟨[], [((.x 0), [.mref (.x 0 0), .slice (U := U) .tree ((flushW (Wst.mk wo wg wb)).gone) (.own (.x 0 1)), .slice (U := U) .tree ((flushW (Wst.mk wo wg wb)).brought) (.own (.x 0 2))])], [(.x 0 0, LC.mk (U := U) .op (List.set (((flushW (Wst.mk wo wg wb)).out) ++ ([(OpOf.mk 0 0 ([]) y_1 : Op)])) (Int.toNat (((flushW (Wst.mk wo wg wb)).out).length : Int)) (OpOf.mk 0 n ([]) y_1 : Op)) 0)]⟩ : LSt U))))))) :
    W105 wo wg wb n Q := by
  have e_ : (W105 wo wg wb n Q) = (let y_1 := (Edit.mk 0 (Tree.mk 0 ([]) ([])) (Tree.mk 0 ([]) ([])) ([]) ([]) 0 ([])); let y_2 := (Int.toNat (((((flushW (Wst.mk wo wg wb)).out).length : Int) : Int) - 1)); let y_3 := (List.getD ((flushW (Wst.mk wo wg wb)).out) y_2 Op.nil); let y_4 := (reEdit (OpOf.e y_3)); let zz0 := (decide ((0 : Int) ≤ (((((flushW (Wst.mk wo wg wb)).out).length : Int) : Int) - 1))); (pre107 ((wo, wg, wb, ()), ())) ∧ ((InR (((((flushW (Wst.mk wo wg wb)).out).length : Int) : Int) - 1)) ∧ ((TrG22c (zz0 = true)) ∧ (TrG22c (zz0 = true)) ∧ (TrG22c (zz0 = true)) ∧ (TrG22c (zz0 = true)) ∧ (TrG22c (zz0 = true)) ∧ (zz0 = true → (0 : Int) ≤ (((((flushW (Wst.mk wo wg wb)).out).length : Int) : Int) - 1) ∧ (((((flushW (Wst.mk wo wg wb)).out).length : Int) : Int) - 1) < (((flushW (Wst.mk wo wg wb)).out).length : Int)) ∧ (TrG22c (zz0 = true)) ∧ (TrG22c (zz0 = true)) ∧ (TrG22c (zz0 = true)) ∧ ((TrG22c (zz0 = true))) ∧ (((bif zz0 then ((OpOf.kind y_3) == 0) else false) = true → ((0 : Int) ≤ (((((flushW (Wst.mk wo wg wb)).out).length : Int) : Int) - 1) ∧ (((((flushW (Wst.mk wo wg wb)).out).length : Int) : Int) - 1) < (((flushW (Wst.mk wo wg wb)).out).length : Int)) ∧ (InR ((OpOf.n y_3) + n)) ∧ ((0 : Int) ≤ (((((flushW (Wst.mk wo wg wb)).out).length : Int) : Int) - 1) ∧ (((((flushW (Wst.mk wo wg wb)).out).length : Int) : Int) - 1) < (((flushW (Wst.mk wo wg wb)).out).length : Int)) ∧ ((0 : Nat) ≤ y_2) ∧ (Q .ret (⟨[], [((.x 0), [.mref (.x 0 0), .slice (U := U) .tree ((flushW (Wst.mk wo wg wb)).gone) (.own (.x 0 1)), .slice (U := U) .tree ((flushW (Wst.mk wo wg wb)).brought) (.own (.x 0 2))])], [(.x 0 0, LC.mk (U := U) .op (List.set ((flushW (Wst.mk wo wg wb)).out) y_2 (OpOf.mk (OpOf.kind y_3) ((OpOf.n y_3) + n) (OpOf.l y_3) y_4 : Op)) 0)]⟩ : LSt U))) ∧ ((bif zz0 then ((OpOf.kind y_3) == 0) else false) = false → ((((flushW (Wst.mk wo wg wb)).out).length + ([(OpOf.mk 0 0 ([]) y_1 : Op)]).length) * 240 ≤ 140737488355328) ∧ ((0 : Int) ≤ (((flushW (Wst.mk wo wg wb)).out).length : Int) ∧ (((flushW (Wst.mk wo wg wb)).out).length : Int) < ((((flushW (Wst.mk wo wg wb)).out) ++ ([(OpOf.mk 0 0 ([]) y_1 : Op)])).length : Int)) ∧ ((0 : Nat) ≤ (Int.toNat (((flushW (Wst.mk wo wg wb)).out).length : Int))) ∧ (Q .normal (⟨[], [((.x 0), [.mref (.x 0 0), .slice (U := U) .tree ((flushW (Wst.mk wo wg wb)).gone) (.own (.x 0 1)), .slice (U := U) .tree ((flushW (Wst.mk wo wg wb)).brought) (.own (.x 0 2))])], [(.x 0 0, LC.mk (U := U) .op (List.set (((flushW (Wst.mk wo wg wb)).out) ++ ([(OpOf.mk 0 0 ([]) y_1 : Op)])) (Int.toNat (((flushW (Wst.mk wo wg wb)).out).length : Int)) (OpOf.mk 0 n ([]) y_1 : Op)) 0)]⟩ : LSt U))))))) := by kernel_rfl
  exact e_.mpr (by intro y_1 y_2 y_3 y_4; have hh := h y_1 rfl y_2 rfl y_3 rfl y_4 (reEdit_eq _); exact ⟨hh.1, ⟨hh.2.1, ⟨id, id, id, id, id, hh.2.2.1, id, id, id, (by generalize (decide ((0 : Int) ≤ (((((flushW (Wst.mk wo wg wb)).out).length : Int) : Int) - 1))) = b0; revert b0; decide), ⟨fun c_4 => ⟨(hh.2.2.2.1 c_4).1, (hh.2.2.2.1 c_4).2.1, (hh.2.2.2.1 c_4).2.2.1, (hh.2.2.2.1 c_4).2.2.2.1, (hh.2.2.2.1 c_4).2.2.2.2⟩, fun c_4 => ⟨(hh.2.2.2.2 c_4).1, (hh.2.2.2.2 c_4).2.1, (hh.2.2.2.2 c_4).2.2.1, (hh.2.2.2.2 c_4).2.2.2⟩⟩⟩⟩⟩)
def Body105 (wo : List Op) (wg : List Tree) (wb : List Tree) (n : Int)  : Prop := awp cfg (know (know105)) (drawOk cfg (know (know105))) Try.f105.ntmps lv105 (cd Try.f105 []) (entryL (args105.can ((wo, wg, wb, ()), n, ())) (args105.canX ((wo, wg, wb, ()), n, ())) (args105.canL ((wo, wg, wb, ()), n, ()))) (EndsQL cfg Try.f105.ntmps Try.f105.results.toList (res105 ((wo, wg, wb, ()), n, ())) (resX105 ((wo, wg, wb, ()), n, ())) (resL105 ((wo, wg, wb, ()), n, ())))
theorem make105 (c107 : Contract Try.prog cfg 107 spec107) (hb : ∀ (wo : List Op) (wg : List Tree) (wb : List Tree) (n : Int) (_ : Unit), pre105 ((wo, wg, wb, ()), n, ()) → Body105 wo wg wb n) : Contract Try.prog cfg 105 spec105 :=
  contractXL_flat (l := [(107, spec107)]) cfgOk rfl (⟨c107, trivial⟩) lv105 Try.func105 rfl rfl 2 (fun _ => rfl) (by decide) (fun ⟨⟨wo, wg, wb, _⟩, n, _⟩ => hb wo wg wb n ())
noncomputable def know106 : List (FuncId × Fs U) := [(32, spec32)]
def lv106 : Lives U := fun i => match i with
  | 0 => ([(0, []), (6, []), (7, []), (8, [])], [((.x 0), [.wr .op])])
  | 1 => ([(0, []), (6, []), (7, []), (8, []), (9, [])], [((.x 0), [.wr .op])])
  | 2 => ([(0, []), (5, []), (6, []), (7, []), (8, [])], [((.loc 5), []), ((.x 0), [.wr .op])])
  | 3 => ([(0, []), (6, []), (7, []), (8, [])], [((.x 0), [.wr .op])])
  | 4 => ([(0, []), (6, []), (7, []), (8, [])], [((.x 0), [.wr .op])])
  | _ => ([], [])
def head106_0 (wo : List Op) (wg : List Tree) (wb : List Tree) (l : List Tree) (x8 : Int) (mx0_1 : List Tree) : LSt U := (⟨[(0, .ptr (.x 0) 1), (6, .c (.slice (U := U) .tree l .unk)), (7, .c (.int .i64 (l.length : Int))), (8, .c (.int .i64 x8))], [((.x 0), [.mref (.x 0 0), .slice (U := U) .tree mx0_1 (.own (.x 0 1)), .slice (U := U) .tree wb (.own (.x 0 2))])], [(.x 0 0, LC.mk (U := U) .op wo 0)]⟩ : LSt U)
abbrev W106 (wo : List Op) (wg : List Tree) (wb : List Tree) (l : List Tree) (Q : AExit → LSt U → Prop) := awp cfg (know know106) (drawOk cfg (know know106)) Try.f106.ntmps lv106 (cd Try.f106 []) (⟨[(0, .ptr (.x 0) 1), (1, .c (.slice (U := U) .tree l .unk))], [((.x 0), [.mref (.x 0 0), .slice (U := U) .tree wg (.own (.x 0 1)), .slice (U := U) .tree wb (.own (.x 0 2))])], [(.x 0 0, LC.mk (U := U) .op wo 0)]⟩ : LSt U) Q
theorem vc106 (wo : List Op) (wg : List Tree) (wb : List Tree) (l : List Tree) (Q : AExit → LSt U → Prop) (h : LoopWp (awp cfg (know know106) (drawOk cfg (know know106)) Try.f106.ntmps lv106 (cd Try.f106 [1, 0, 0])) (head106_0 wo wg wb l 0 wg) (AExit.inBlock 0 Q)) :
    W106 wo wg wb l Q := by
  have e_ : (W106 wo wg wb l Q) = (type_of% h) := by kernel_rfl
  exact e_.mpr h
abbrev W106_l0 (wo : List Op) (wg : List Tree) (wb : List Tree) (l : List Tree) (x8 : Int) (mx0_1 : List Tree) (N0 : LSt U → Prop) (Q : AExit → LSt U → Prop) := awp cfg (know know106) (drawOk cfg (know know106)) Try.f106.ntmps lv106 (cd Try.f106 [1, 0, 0]) (head106_0 wo wg wb l x8 mx0_1) (AExit.then N0 (AExit.inBlock 0 Q))
theorem vc106_l0 (wo : List Op) (wg : List Tree) (wb : List Tree) (l : List Tree) (x8 : Int) (mx0_1 : List Tree) (N0 : LSt U → Prop) (Q : AExit → LSt U → Prop) (h : ((decide ((x8 : Int) < (l.length : Int))) = true → ((0 : Int) ≤ x8 ∧ x8 < (l.length : Int)) ∧ ((pre32 ((Tree.mk (Tree.kind (List.getD l (Int.toNat x8) Tree.nil)) (Tree.words (List.getD l (Int.toNat x8) Tree.nil)) (Tree.kids (List.getD l (Int.toNat x8) Tree.nil))), ())) ∧ ((mx0_1.length + ([(Tree.mk 0 ([]) ([]))]).length) * 56 ≤ 140737488355328) ∧ ((0 : Int) ≤ (mx0_1.length : Int) ∧ (mx0_1.length : Int) < ((mx0_1 ++ ([(Tree.mk 0 ([]) ([]))])).length : Int)) ∧ (mx0_1.length ≤ (Int.toNat (mx0_1.length : Int))) ∧ ((InR ((x8 : Int) + 1)) ∧ (N0 (head106_0 wo wg wb l ((x8 : Int) + 1) (List.set (mx0_1 ++ ([(Tree.mk 0 ([]) ([]))])) (Int.toNat (mx0_1.length : Int)) (Tree.mk (Tree.kind (normT (Tree.mk (Tree.kind (List.getD l (Int.toNat x8) Tree.nil)) (Tree.words (List.getD l (Int.toNat x8) Tree.nil)) (Tree.kids (List.getD l (Int.toNat x8) Tree.nil))))) (Tree.words (normT (Tree.mk (Tree.kind (List.getD l (Int.toNat x8) Tree.nil)) (Tree.words (List.getD l (Int.toNat x8) Tree.nil)) (Tree.kids (List.getD l (Int.toNat x8) Tree.nil))))) (Tree.kids (normT (Tree.mk (Tree.kind (List.getD l (Int.toNat x8) Tree.nil)) (Tree.words (List.getD l (Int.toNat x8) Tree.nil)) (Tree.kids (List.getD l (Int.toNat x8) Tree.nil)))))))))))) ∧ ((decide ((x8 : Int) < (l.length : Int))) = false → Q .normal (⟨[(0, .ptr (.x 0) 1), (6, .c (.slice (U := U) .tree l .unk)), (7, .c (.int .i64 (l.length : Int))), (8, .c (.int .i64 x8)), (9, .c (.bool (decide ((x8 : Int) < (l.length : Int)))))], [((.x 0), [.mref (.x 0 0), .slice (U := U) .tree mx0_1 (.own (.x 0 1)), .slice (U := U) .tree wb (.own (.x 0 2))])], [(.x 0 0, LC.mk (U := U) .op wo 0)]⟩ : LSt U))) :
    W106_l0 wo wg wb l x8 mx0_1 N0 Q := by
  have e_ : (W106_l0 wo wg wb l x8 mx0_1 N0 Q) = (type_of% h) := by kernel_rfl
  exact e_.mpr ⟨fun c_5 => ⟨(h.1 c_5).1, ⟨(h.1 c_5).2.1, (h.1 c_5).2.2.1, (h.1 c_5).2.2.2.1, (h.1 c_5).2.2.2.2.1, ⟨(h.1 c_5).2.2.2.2.2.1, (h.1 c_5).2.2.2.2.2.2⟩⟩⟩, fun c_5 => (h.2 c_5)⟩
def Body106 (wo : List Op) (wg : List Tree) (wb : List Tree) (l : List Tree)  : Prop := awp cfg (know (know106)) (drawOk cfg (know (know106))) Try.f106.ntmps lv106 (cd Try.f106 []) (entryL (args106.can ((wo, wg, wb, ()), l, ())) (args106.canX ((wo, wg, wb, ()), l, ())) (args106.canL ((wo, wg, wb, ()), l, ()))) (EndsQL cfg Try.f106.ntmps Try.f106.results.toList (res106 ((wo, wg, wb, ()), l, ())) (resX106 ((wo, wg, wb, ()), l, ())) (resL106 ((wo, wg, wb, ()), l, ())))
theorem make106 (c32 : Contract Try.prog cfg 32 spec32) (hb : ∀ (wo : List Op) (wg : List Tree) (wb : List Tree) (l : List Tree) (_ : Unit), pre106 ((wo, wg, wb, ()), l, ()) → Body106 wo wg wb l) : Contract Try.prog cfg 106 spec106 :=
  contractXL_flat (l := [(32, spec32)]) cfgOk rfl (⟨c32, trivial⟩) lv106 Try.func106 rfl rfl 2 (fun _ => rfl) (by decide) (fun ⟨⟨wo, wg, wb, _⟩, l, _⟩ => hb wo wg wb l ())
noncomputable def know1106 : List (FuncId × Fs U) := [(32, spec32)]
def lv1106 : Lives U := fun i => match i with
  | 0 => ([(0, []), (6, []), (7, []), (8, [])], [((.x 0), [.wr .op])])
  | 1 => ([(0, []), (6, []), (7, []), (8, []), (9, [])], [((.x 0), [.wr .op])])
  | 2 => ([(0, []), (5, []), (6, []), (7, []), (8, [])], [((.loc 5), []), ((.x 0), [.wr .op])])
  | 3 => ([(0, []), (6, []), (7, []), (8, [])], [((.x 0), [.wr .op])])
  | 4 => ([(0, []), (6, []), (7, []), (8, [])], [((.x 0), [.wr .op])])
  | _ => ([], [])
def head1106_0 (wo : List Op) (wg : List Tree) (wb : List Tree) (l : List Tree) (x8 : Int) (mx0_2 : List Tree) : LSt U := (⟨[(0, .ptr (.x 0) 2), (6, .c (.slice (U := U) .tree l .unk)), (7, .c (.int .i64 (l.length : Int))), (8, .c (.int .i64 x8))], [((.x 0), [.mref (.x 0 0), .slice (U := U) .tree wg (.own (.x 0 1)), .slice (U := U) .tree mx0_2 (.own (.x 0 2))])], [(.x 0 0, LC.mk (U := U) .op wo 0)]⟩ : LSt U)
abbrev W1106 (wo : List Op) (wg : List Tree) (wb : List Tree) (l : List Tree) (Q : AExit → LSt U → Prop) := awp cfg (know know1106) (drawOk cfg (know know1106)) Try.f106.ntmps lv1106 (cd Try.f106 []) (⟨[(0, .ptr (.x 0) 2), (1, .c (.slice (U := U) .tree l .unk))], [((.x 0), [.mref (.x 0 0), .slice (U := U) .tree wg (.own (.x 0 1)), .slice (U := U) .tree wb (.own (.x 0 2))])], [(.x 0 0, LC.mk (U := U) .op wo 0)]⟩ : LSt U) Q
theorem vc1106 (wo : List Op) (wg : List Tree) (wb : List Tree) (l : List Tree) (Q : AExit → LSt U → Prop) (h : LoopWp (awp cfg (know know1106) (drawOk cfg (know know1106)) Try.f106.ntmps lv1106 (cd Try.f106 [1, 0, 0])) (head1106_0 wo wg wb l 0 wb) (AExit.inBlock 0 Q)) :
    W1106 wo wg wb l Q := by
  have e_ : (W1106 wo wg wb l Q) = (type_of% h) := by kernel_rfl
  exact e_.mpr h
abbrev W1106_l0 (wo : List Op) (wg : List Tree) (wb : List Tree) (l : List Tree) (x8 : Int) (mx0_2 : List Tree) (N0 : LSt U → Prop) (Q : AExit → LSt U → Prop) := awp cfg (know know1106) (drawOk cfg (know know1106)) Try.f106.ntmps lv1106 (cd Try.f106 [1, 0, 0]) (head1106_0 wo wg wb l x8 mx0_2) (AExit.then N0 (AExit.inBlock 0 Q))
theorem vc1106_l0 (wo : List Op) (wg : List Tree) (wb : List Tree) (l : List Tree) (x8 : Int) (mx0_2 : List Tree) (N0 : LSt U → Prop) (Q : AExit → LSt U → Prop) (h : ((decide ((x8 : Int) < (l.length : Int))) = true → ((0 : Int) ≤ x8 ∧ x8 < (l.length : Int)) ∧ ((pre32 ((Tree.mk (Tree.kind (List.getD l (Int.toNat x8) Tree.nil)) (Tree.words (List.getD l (Int.toNat x8) Tree.nil)) (Tree.kids (List.getD l (Int.toNat x8) Tree.nil))), ())) ∧ ((mx0_2.length + ([(Tree.mk 0 ([]) ([]))]).length) * 56 ≤ 140737488355328) ∧ ((0 : Int) ≤ (mx0_2.length : Int) ∧ (mx0_2.length : Int) < ((mx0_2 ++ ([(Tree.mk 0 ([]) ([]))])).length : Int)) ∧ (mx0_2.length ≤ (Int.toNat (mx0_2.length : Int))) ∧ ((InR ((x8 : Int) + 1)) ∧ (N0 (head1106_0 wo wg wb l ((x8 : Int) + 1) (List.set (mx0_2 ++ ([(Tree.mk 0 ([]) ([]))])) (Int.toNat (mx0_2.length : Int)) (Tree.mk (Tree.kind (normT (Tree.mk (Tree.kind (List.getD l (Int.toNat x8) Tree.nil)) (Tree.words (List.getD l (Int.toNat x8) Tree.nil)) (Tree.kids (List.getD l (Int.toNat x8) Tree.nil))))) (Tree.words (normT (Tree.mk (Tree.kind (List.getD l (Int.toNat x8) Tree.nil)) (Tree.words (List.getD l (Int.toNat x8) Tree.nil)) (Tree.kids (List.getD l (Int.toNat x8) Tree.nil))))) (Tree.kids (normT (Tree.mk (Tree.kind (List.getD l (Int.toNat x8) Tree.nil)) (Tree.words (List.getD l (Int.toNat x8) Tree.nil)) (Tree.kids (List.getD l (Int.toNat x8) Tree.nil)))))))))))) ∧ ((decide ((x8 : Int) < (l.length : Int))) = false → Q .normal (⟨[(0, .ptr (.x 0) 2), (6, .c (.slice (U := U) .tree l .unk)), (7, .c (.int .i64 (l.length : Int))), (8, .c (.int .i64 x8)), (9, .c (.bool (decide ((x8 : Int) < (l.length : Int)))))], [((.x 0), [.mref (.x 0 0), .slice (U := U) .tree wg (.own (.x 0 1)), .slice (U := U) .tree mx0_2 (.own (.x 0 2))])], [(.x 0 0, LC.mk (U := U) .op wo 0)]⟩ : LSt U))) :
    W1106_l0 wo wg wb l x8 mx0_2 N0 Q := by
  have e_ : (W1106_l0 wo wg wb l x8 mx0_2 N0 Q) = (type_of% h) := by kernel_rfl
  exact e_.mpr ⟨fun c_6 => ⟨(h.1 c_6).1, ⟨(h.1 c_6).2.1, (h.1 c_6).2.2.1, (h.1 c_6).2.2.2.1, (h.1 c_6).2.2.2.2.1, ⟨(h.1 c_6).2.2.2.2.2.1, (h.1 c_6).2.2.2.2.2.2⟩⟩⟩, fun c_6 => (h.2 c_6)⟩
def Body1106 (wo : List Op) (wg : List Tree) (wb : List Tree) (l : List Tree)  : Prop := awp cfg (know (know1106)) (drawOk cfg (know (know1106))) Try.f106.ntmps lv1106 (cd Try.f106 []) (entryL (args1106.can ((wo, wg, wb, ()), l, ())) (args1106.canX ((wo, wg, wb, ()), l, ())) (args1106.canL ((wo, wg, wb, ()), l, ()))) (EndsQL cfg Try.f106.ntmps Try.f106.results.toList (res1106 ((wo, wg, wb, ()), l, ())) (resX1106 ((wo, wg, wb, ()), l, ())) (resL1106 ((wo, wg, wb, ()), l, ())))
theorem make1106 (c32 : Contract Try.prog cfg 32 spec32) (hb : ∀ (wo : List Op) (wg : List Tree) (wb : List Tree) (l : List Tree) (_ : Unit), pre1106 ((wo, wg, wb, ()), l, ()) → Body1106 wo wg wb l) : Contract Try.prog cfg 106 spec1106 :=
  contractXL_flat (l := [(32, spec32)]) cfgOk rfl (⟨c32, trivial⟩) lv1106 Try.func106 rfl rfl 2 (fun _ => rfl) (by decide) (fun ⟨⟨wo, wg, wb, _⟩, l, _⟩ => hb wo wg wb l ())
noncomputable def know1042 : List (FuncId × Fs U) := []
def lv1042 : Lives U := fun i => match i with
  | 0 => ([(0, []), (3, [])], [((.loc 3), [])])
  | 1 => ([(4, [])], [])
  | _ => ([], [])
abbrev W1042 (list : Int) (e : Edit) (Q : AExit → LSt U → Prop) := awp cfg (know know1042) (drawOk cfg (know know1042)) Try.f42.ntmps lv1042 (cd Try.f42 []) (⟨[(0, .c (.int .i64 list)), (1, .agg [.int .i64 (Edit.kind e), .int .i64 (Tree.kind (Edit.old e)), .slice (U := U) .u64 (Tree.words (Edit.old e)) .unk, .slice (U := U) .tree (Tree.kids (Edit.old e)) .unk, .int .i64 (Tree.kind (Edit.new e)), .slice (U := U) .u64 (Tree.words (Edit.new e)) .unk, .slice (U := U) .tree (Tree.kids (Edit.new e)) .unk, .slice (U := U) .wedit (Edit.words e) .unk, .slice (U := U) .kid (Edit.kids e) .unk, .int .i64 (Edit.list e), .slice (U := U) .op (Edit.ops e) .unk])], [], []⟩ : LSt U) Q
theorem vc1042 (list : Int) (e : Edit) (Q : AExit → LSt U → Prop) (h : (((!(((Edit.kind e) : Int) == 0)) && (bif ((list : Int) == 9) then (((Edit.kind e) : Int) == 2) else false)) = true → InR ((((Edit.words e).length : Int) : Int) + ((Edit.kids e).length : Int))) ∧ (Q .ret (⟨[(4, .c (.bool (bif (((Edit.kind e) : Int) == 0) then true else (bif (bif ((list : Int) == 9) then (((Edit.kind e) : Int) == 2) else false) then ((((((Edit.words e).length : Int) : Int) + ((Edit.kids e).length : Int)) : Int) == 0) else false))))], [], []⟩ : LSt U))) :
    W1042 list e Q := by
  have e_ : (W1042 list e Q) = (let zz1 := (!((Edit.kind e) == 0)); let zz0 := (bif ((list : Int) == 9) then ((Edit.kind e) == 2) else false); ((TrG22c (zz1 = true)) ∧ (TrG22c (zz1 = true)) ∧ (TrG22c ((zz1 && ((list : Int) == 9)) = true)) ∧ (TrG22c ((zz1 && ((list : Int) == 9)) = true)) ∧ (zz1 = true → (True → zz1 = true)) ∧ (zz1 = true → (((list : Int) == 9) = true → (zz1 && ((list : Int) == 9)) = true)) ∧ (TrG22c (zz1 = true)) ∧ (TrG22c ((zz1 && zz0) = true)) ∧ (TrG22c ((zz1 && zz0) = true)) ∧ (TrG22c ((zz1 && zz0) = true)) ∧ (TrG22c ((zz1 && zz0) = true)) ∧ (TrG22c ((zz1 && zz0) = true)) ∧ (TrG22c ((zz1 && zz0) = true)) ∧ ((zz1 && zz0) = true → InR (((Edit.words e).length : Int) + ((Edit.kids e).length : Int))) ∧ (TrG22c ((zz1 && zz0) = true)) ∧ (zz1 = true → (True → zz1 = true)) ∧ (zz1 = true → (zz0 = true → (zz1 && zz0) = true)) ∧ ((((Edit.kind e) == 0) = false → zz1 = true)) ∧ (Q .ret (⟨[(4, .c (.bool (bif ((Edit.kind e) == 0) then true else (bif zz0 then (((((Edit.words e).length : Int) + ((Edit.kids e).length : Int)) : Int) == 0) else false))))], [], []⟩ : LSt U)))) := by kernel_rfl
  exact e_.mpr ⟨id, id, id, id, (by generalize (((Edit.kind e) : Int) == 0) = b0; revert b0; decide), (by generalize (((Edit.kind e) : Int) == 0) = b0; generalize ((list : Int) == 9) = b1; revert b0 b1; decide), id, id, id, id, id, id, id, h.1, id, (by generalize (((Edit.kind e) : Int) == 0) = b0; revert b0; decide), (by generalize (((Edit.kind e) : Int) == 2) = b0; generalize (((Edit.kind e) : Int) == 0) = b1; generalize ((list : Int) == 9) = b2; revert b0 b1 b2; decide), (by generalize (((Edit.kind e) : Int) == 0) = b0; revert b0; decide), h.2⟩
def Body1042 (list : Int) (e : Edit)  : Prop := awp cfg (know (know1042)) (drawOk cfg (know (know1042))) Try.f42.ntmps lv1042 (cd Try.f42 []) (entry (args1042.can (list, e, ())) []) (EndsQ cfg Try.f42.ntmps Try.f42.results.toList (res1042 (list, e, ())) [])
theorem make1042 (hb : ∀ (list : Int) (e : Edit) (_ : Unit), pre1042 (list, e, ()) → Body1042 list e) : Contract Try.prog cfg 42 spec1042 :=
  contract_flat (l := []) cfgOk rfl (trivial) lv1042 Try.func42 rfl rfl 2 (fun _ => rfl) (by decide) (fun ⟨list, e, _⟩ => hb list e ())
end Go.AM.Ytlahjnelghpmeaa

namespace Go.AM.Ytlahjnelghpmeaa
open Go.AM Go.Proofs
theorem set_last {α : Type} (l : List α) (z x : α) : (l ++ [z]).set (Int.toNat (l.length : Int)) x = l ++ [x] := by
  rw [Int.toNat_natCast, List.set_append_right _ _ (Nat.le_refl _)]
  simp
theorem keepO_at : ∀ (F : List Op) (n : Int), keepO F n = if F.length ≠ 0 ∧ (F.getD (F.length - 1) Op.nil).kind = 0 then F.set (F.length - 1) ⟨(F.getD (F.length - 1) Op.nil).kind, (F.getD (F.length - 1) Op.nil).n + n, (F.getD (F.length - 1) Op.nil).l, (F.getD (F.length - 1) Op.nil).e⟩ else F ++ [⟨0, n, [], Edit.nil⟩]
  | [], n => by simp [keepO]
  | [o], n => by simp [keepO]
  | o :: p :: r, n => by
    have ih := keepO_at (p :: r) n
    have e : (o :: p :: r).length - 1 = ((p :: r).length - 1) + 1 := by simp
    rw [keepO, ih, e]
    simp only [List.getD_cons_succ, List.set_cons_succ]
    by_cases h : (p :: r).length ≠ 0 ∧ ((p :: r).getD ((p :: r).length - 1) Op.nil).kind = 0
    · rw [if_pos h, if_pos ⟨by simp, h.2⟩]
    · have h' : ¬ ((p :: r).getD ((p :: r).length - 1) Op.nil).kind = 0 := fun e => h ⟨by simp, e⟩
      rw [if_neg h, if_neg (fun e => h' e.2)]
      rfl
theorem flush_len (s : Wst) : (flushW s).out.length ≤ s.out.length + 2 := by
  simp only [flushW, flushO]
  split <;> split <;> simp
theorem flush_mem (s : Wst) : ∀ o ∈ (flushW s).out, o ∈ s.out ∨ o.n = 0 := by
  intro o ho
  simp only [flushW, flushO, List.mem_append] at ho
  rcases ho with h | h | h
  · exact .inl h
  · split at h
    · cases h
    · simp only [List.mem_singleton] at h; subst h; exact .inr rfl
  · split at h
    · cases h
    · simp only [List.mem_singleton] at h; subst h; exact .inr rfl
theorem c107 : Contract Try.prog cfg 107 spec107 := by
  refine make107 ?_
  intro wo wg wb _ hp
  simp only [pre107] at hp
  refine vc107 wo wg wb _ ?_
  rintro y1 hy1 y2 hy2
  have hy : y1 = Edit.nil := hy1
  subst hy
  rw [set_last] at hy2
  subst hy2
  (simp only [vcS])
  refine ⟨fun h1 => ⟨by simp; omega, by simp; omega, by omega, fun h2 => ⟨by simp; omega, by simp; omega, by omega, ?_⟩, fun h2 => ?_⟩, fun h1 => ⟨fun h2 => ⟨by simp; omega, by simp; omega, by omega, ?_⟩, fun h2 => ?_⟩⟩
  · rw [set_last]
    have e : flushW ⟨wo, wg, wb⟩ = ⟨wo ++ [⟨1, 0, wg, Edit.nil⟩] ++ [⟨2, 0, wb, Edit.nil⟩], [], []⟩ := by
      simp only [flushW, flushO]; rw [if_neg (by omega), if_neg (by omega)]; simp
    simp only [res107, resX107, resL107, e]
    (repeat' (first | exact trivial | exact rfl | apply And.intro))
  · have e : flushW ⟨wo, wg, wb⟩ = ⟨wo ++ [⟨1, 0, wg, Edit.nil⟩], [], []⟩ := by
      simp only [flushW, flushO]; rw [if_neg (by omega), if_pos (by omega)]; simp
    simp only [res107, resX107, resL107, e]
    (repeat' (first | exact trivial | exact rfl | apply And.intro))
  · rw [set_last]
    have e : flushW ⟨wo, wg, wb⟩ = ⟨wo ++ [⟨2, 0, wb, Edit.nil⟩], [], []⟩ := by
      simp only [flushW, flushO]; rw [if_pos (by omega), if_neg (by omega)]; simp
    simp only [res107, resX107, resL107, e]
    (repeat' (first | exact trivial | exact rfl | apply And.intro))
  · have e : flushW ⟨wo, wg, wb⟩ = ⟨wo, [], []⟩ := by
      simp only [flushW, flushO]; rw [if_pos (by omega), if_pos (by omega)]; simp
    simp only [res107, resX107, resL107, e]
    (repeat' (first | exact trivial | exact rfl | apply And.intro))
theorem c105 : Contract Try.prog cfg 105 spec105 := by
  refine make105 c107 ?_
  intro wo wg wb n _ hp
  simp only [pre105] at hp
  obtain ⟨p1, p2, p3, p4, p5, p6⟩ := hp
  have hfl := flush_len ⟨wo, wg, wb⟩
  have hfm := flush_mem ⟨wo, wg, wb⟩
  have hg : (flushW ⟨wo, wg, wb⟩).gone = [] := rfl
  have hb : (flushW ⟨wo, wg, wb⟩).brought = [] := rfl
  have hk := keepO_at (flushW ⟨wo, wg, wb⟩).out n
  have hkw : keepW ⟨wo, wg, wb⟩ n = ⟨keepO (flushW ⟨wo, wg, wb⟩).out n, [], []⟩ := rfl
  refine vc105 wo wg wb n _ ?_
  simp only [hg, hb, res105, resX105, resL105, hkw]
  generalize (flushW ⟨wo, wg, wb⟩).out = F at *
  simp only at hfl hfm
  rintro y1 hy1 y2 hy2 y3 hy3 y4 hy4
  have hy : y1 = Edit.nil := hy1
  subst hy
  have e2 : y2 = F.length - 1 := by omega
  subst e2
  rw [← hy3, ← hy4] at hk
  (simp only [vcS])
  refine ⟨by simp only [pre107]; exact ⟨p1, p2, p3⟩, by unfold InR; omega, fun h => ⟨h, by omega⟩, fun h => ?_, fun h => ?_⟩
  · have hy3n : 0 ≤ y3.n ∧ y3.n ≤ 100000000000000 := by
      have hm : y3 ∈ F := by rw [hy3]; exact mem_getD (by omega) _
      rcases hfm y3 hm with h1 | h1
      · exact p4 y3 h1
      · omega
    rw [if_pos ⟨by omega, h.2⟩] at hk
    rw [hk]
    refine ⟨by omega, by unfold InR; omega, by omega, by omega, ?_⟩
    (repeat' (first | exact trivial | exact rfl | apply And.intro))
  · rw [if_neg (by omega)] at hk
    rw [hk, set_last]
    refine ⟨by simp; omega, by simp; omega, by omega, ?_⟩
    (repeat' (first | exact trivial | exact rfl | apply And.intro))
theorem c106 : Contract Try.prog cfg 106 spec106 := by
  refine make106 c32 ?_
  intro wo wg wb l _ hp
  simp only [pre106] at hp
  obtain ⟨p1, p2, p3, p4⟩ := hp
  have hl := massK_len l
  refine vc106 _ _ _ _ _ ?_
  refine loop_rule (ι := Int × List Tree) (fun s => head106_0 wo wg wb l s.1 s.2) (fun s => 0 ≤ s.1 ∧ s.1 ≤ l.length ∧ s.2.length = wg.length + s.1 ∧ s.2 ++ normsT (l.drop s.1.toNat) = wg ++ normsT l) (fun s => ((l.length : Int) - s.1).toNat) (0, wg) rfl ⟨by simp, by simp, by simp, by simp⟩ ?_
  rintro ⟨i, out⟩ ⟨h1, h2, h3, h4⟩
  dsimp only at h1 h2 h3 h4
  refine vc106_l0 _ _ _ _ _ _ _ _ ?_
  (simp only [vcS])
  (simp only [Tree.eta, Edit.eta, Tree.kind_mk, Tree.words_mk, Tree.kids_mk])
  refine ⟨fun hi => ?_, fun hi => ?_⟩
  · have hm := massK_mem (mem_getD (l := l) (i := i.toNat) (by omega) Tree.nil)
    rw [dropI h1 hi Tree.nil] at h4
    simp only [normsT, List.map_cons] at h4
    rw [set_last]
    refine ⟨⟨h1, hi⟩, by simp only [pre32]; omega, by simp; omega, by simp; omega, by omega, by unfold InR; omega, (i + 1, out ++ [normT (l.getD i.toNat Tree.nil)]), rfl, ⟨by dsimp only; omega, by dsimp only; omega, by simp; omega, ?_⟩, by dsimp only; omega⟩
    simp only [List.append_assoc, List.cons_append, List.nil_append]
    exact h4
  · rw [List.drop_of_length_le (by omega)] at h4
    simp only [normsT, List.map_nil, List.append_nil] at h4
    rw [h4]
    (repeat' (first | exact trivial | exact rfl | apply And.intro))
theorem c1106 : Contract Try.prog cfg 106 spec1106 := by
  refine make1106 c32 ?_
  intro wo wg wb l _ hp
  simp only [pre1106] at hp
  obtain ⟨p1, p2, p3, p4⟩ := hp
  have hl := massK_len l
  refine vc1106 _ _ _ _ _ ?_
  refine loop_rule (ι := Int × List Tree) (fun s => head1106_0 wo wg wb l s.1 s.2) (fun s => 0 ≤ s.1 ∧ s.1 ≤ l.length ∧ s.2.length = wb.length + s.1 ∧ s.2 ++ normsT (l.drop s.1.toNat) = wb ++ normsT l) (fun s => ((l.length : Int) - s.1).toNat) (0, wb) rfl ⟨by simp, by simp, by simp, by simp⟩ ?_
  rintro ⟨i, out⟩ ⟨h1, h2, h3, h4⟩
  dsimp only at h1 h2 h3 h4
  refine vc1106_l0 _ _ _ _ _ _ _ _ ?_
  (simp only [vcS])
  (simp only [Tree.eta, Edit.eta, Tree.kind_mk, Tree.words_mk, Tree.kids_mk])
  refine ⟨fun hi => ?_, fun hi => ?_⟩
  · have hm := massK_mem (mem_getD (l := l) (i := i.toNat) (by omega) Tree.nil)
    rw [dropI h1 hi Tree.nil] at h4
    simp only [normsT, List.map_cons] at h4
    rw [set_last]
    refine ⟨⟨h1, hi⟩, by simp only [pre32]; omega, by simp; omega, by simp; omega, by omega, by unfold InR; omega, (i + 1, out ++ [normT (l.getD i.toNat Tree.nil)]), rfl, ⟨by dsimp only; omega, by dsimp only; omega, by simp; omega, ?_⟩, by dsimp only; omega⟩
    simp only [List.append_assoc, List.cons_append, List.nil_append]
    exact h4
  · rw [List.drop_of_length_le (by omega)] at h4
    simp only [normsT, List.map_nil, List.append_nil] at h4
    rw [h4]
    (repeat' (first | exact trivial | exact rfl | apply And.intro))
theorem c1042 : Contract Try.prog cfg 42 spec1042 := by
  refine make1042 ?_
  intro list e _ hp
  simp only [pre1042] at hp
  refine vc1042 _ _ _ ?_
  refine ⟨fun _ => by unfold InR; dsimp only; omega, ends_bool rfl ?_⟩
  rw [Bool.eq_iff_iff]
  simp only [idleE]
  (simp only [vcS])
  omega
noncomputable def spec2106 : Fs U := fsOr spec106 spec1106
theorem c2106 : Contract Try.prog cfg 106 spec2106 := contract_or c106 c1106
end Go.AM.Ytlahjnelghpmeaa
