import Derived.Test.YthokdjgpdonhgaaQGn
import Derived.Test.YthokdjgpdonhgaaQL15
import Derived.Test.YthokdjgpdonhgaaRG07
import Derived.Test.YthokdjgpdonhgaaVRB07
set_option linter.unusedSimpArgs false
set_option linter.unusedVariables false
namespace Go.AM.Ythokdjgpdonhgaa
open Go.AM Go.Proofs

def KidsOk (ks : List Tree) : Prop := ∀ k ∈ ks, k.kind ≠ 10 ∧ ∃ d, rightT k d = true

theorem kidsP_blk' : ∀ (ks : List Tree) (a to : Int), KidsOk ks → (kidsP ks a to).2.length = sizeK ks
  | [], _, _, _ => by rw [kidsP, sizeK]; rfl
  | t :: r, a, to, h => by
    obtain ⟨h1, d, h2⟩ := h t List.mem_cons_self
    rw [kidsP, sizeK, List.length_append, blkP_len t d to h2 h1, kidsP_blk' r _ _ fun t ht => h t (List.mem_cons_of_mem _ ht)]
theorem KidsOk.take {ks : List Tree} (h : KidsOk ks) (n : Nat) : KidsOk (ks.take n) := fun k hk => h k (List.mem_of_mem_take hk)

theorem kst_pre {A S : List Int} {ks : List Tree} {to : Int} {i : Nat} (hi : i < ks.length) (hK : KidsOk ks) (hl : A.length + ks.length + S.length + sizeK ks ≤ 1000000) :
    A.length + i < (kidsSt A S ks to i).length ∧ (kidsSt A S ks to i).length + sizeN (ks.getD i Tree.nil) ≤ 1000000 := by
  have h1 := kidsSt_len A S ks to (Nat.le_of_lt hi)
  rw [kidsP_blk' _ _ _ (hK.take i)] at h1
  have h2 := sizeK_take (ks := ks) (i := i) (by omega) (by omega)
  have h3 := sizeK_take_le ks (i + 1)
  rw [show ((i : Int) + 1).toNat = i + 1 by omega, Int.toNat_natCast] at h2
  omega

theorem kid_rng {t : Tree} (h : rng t) {k : Tree} (hk : k ∈ t.kids) : rng k := by
  obtain ⟨k', w, ks⟩ := t
  rw [rng] at h
  have : ∀ l : List Tree, rngK l → ∀ t' ∈ l, rng t' := by
    intro l
    induction l with
    | nil => intro _ t' h; cases h
    | cons x l ih =>
      intro h t' ht
      rw [rngK] at h
      rcases List.mem_cons.1 ht with rfl | ht
      · exact h.1
      · exact ih h.2 t' ht
  exact this ks h.2.2 k hk

theorem RiT.kidsOk {k : Int} {w : List Int} {ks : List Tree} {d : Int} (h : RiT k w ks d) (hk : k = 1 ∨ k = 8) : KidsOk ks := fun t ht => ⟨(h.kids t ht).2.2.1 hk, _, (h.kids t ht).1⟩
theorem fr_lt {ks : List Tree} (h : ∀ t ∈ ks, t.words.length < 65536 ∧ t.kids.length < 65536) : frW ks < 65536 ∧ frK ks < 65536 := by
  induction ks with
  | nil => exact ⟨by simp [frW], by simp [frK]⟩
  | cons t l ih =>
    have h1 := h t List.mem_cons_self
    have h2 := ih fun t ht => h t (List.mem_cons_of_mem _ ht)
    rw [frW, frK]
    omega
theorem riT' {t : Tree} {d : Int} (h : rightT t d = true) : RiT t.kind t.words t.kids d := riT (by rw [Tree.eta]; exact h)
theorem RiT.rows {w : List Int} {ks : List Tree} {d : Int} (h : RiT 9 w ks d) : ∀ t ∈ ks, t.kind = 1 ∧ KidsOk t.kids ∧ t.words.length < 65536 ∧ t.kids.length < 65536 := by
  intro t ht
  have h1 := h.kids t ht
  have hk := h1.2.2.2 rfl
  have r := riT' h1.1
  rw [hk] at r
  exact ⟨hk, r.kidsOk (.inl rfl), r.stru rfl⟩

def rawP (fw fk : Nat) : List Tree → List Int
  | [] => []
  | t :: r => t.words ++ (zs (fw + fk - t.words.length) ++ rawP fw fk r)
theorem rawP_app (fw fk : Nat) : ∀ a b : List Tree, rawP fw fk (a ++ b) = rawP fw fk a ++ rawP fw fk b
  | [], b => rfl
  | t :: r, b => by rw [List.cons_append, rawP, rawP_app fw fk r b, rawP]; simp only [List.append_assoc]
theorem rawP_len {fw fk : Nat} : ∀ {ks : List Tree}, Fit fw fk ks → (rawP fw fk ks).length = ks.length * (fw + fk)
  | [], _ => by simp [rawP]
  | t :: r, h => by
    have h1 := h t List.mem_cons_self
    rw [rawP, List.length_append, List.length_append, zs_len, rawP_len fun t ht => h t (List.mem_cons_of_mem _ ht), List.length_cons, Nat.add_mul]
    omega
theorem rawP_drop {fw fk : Nat} {ks : List Tree} {i : Nat} (h : i < ks.length) : rawP fw fk (ks.drop i) = (ks.getD i Tree.nil).words ++ (zs (fw + fk - (ks.getD i Tree.nil).words.length) ++ rawP fw fk (ks.drop (i + 1))) := by
  have : ks.drop i = ks.getD i Tree.nil :: ks.drop (i + 1) := by
    rw [List.getD_eq_getElem?_getD, List.getElem?_eq_getElem h]
    exact List.drop_eq_getElem_cons h
  rw [this, rawP]

theorem rowsP_blk' (fw fk : Nat) : ∀ (ks : List Tree) (a to : Int), (∀ t ∈ ks, KidsOk t.kids) → (rowsP fw fk ks a to).2.length = sizeR ks
  | [], _, _, _ => by rw [rowsP, sizeR]; rfl
  | .mk k w l :: r, a, to, h => by
    have h1 := h _ List.mem_cons_self
    rw [rowsP, sizeR, List.length_append, kidsP_blk' l _ _ h1, rowsP_blk' fw fk r _ _ fun t ht => h t (List.mem_cons_of_mem _ ht)]

theorem size_eq (t : Tree) : sizeN t = if t.kind = 1 then t.words.length + t.kids.length + sizeK t.kids else if t.kind = 8 then t.kids.length + sizeK t.kids else if t.kind = 9 then 1 + t.kids.length * (frW t.kids + frK t.kids) + sizeR t.kids
    else if 2 ≤ t.kind ∧ t.kind ≤ 7 then (roomW (t.kind - 2) t.kids.length).toNat else sizeK t.kids := by
  obtain ⟨k, w, ks⟩ := t
  rw [sizeN]; rfl
theorem head_eq (a to : Int) (t : Tree) : headP a to t = if t.kind = 0 then 0
    else if t.kind = 1 then ptrP a (if t.words.length + t.kids.length = 0 then a else to) 0 (t.words.length + 65536 * t.kids.length)
    else if t.kind = 8 then ptrP a to 1 (6 + 8 * t.kids.length)
    else if t.kind = 9 then ptrP a to 1 (7 + 8 * (t.kids.length * (frW t.kids + frK t.kids) : Nat))
    else ptrP a to 1 (t.kind - 2 + 8 * t.kids.length) := by
  obtain ⟨k, w, ks⟩ := t
  rfl
theorem blk_eq (t : Tree) (to : Int) : blkP t to = if t.kind = 0 then []
    else if t.kind = 1 then t.words ++ ((kidsP t.kids (to + t.words.length) (to + t.words.length + t.kids.length)).1 ++ (kidsP t.kids (to + t.words.length) (to + t.words.length + t.kids.length)).2)
    else if t.kind = 8 then (kidsP t.kids to (to + t.kids.length)).1 ++ (kidsP t.kids to (to + t.kids.length)).2
    else if t.kind = 9 then tagP t.kids.length (frW t.kids) (frK t.kids) :: ((rowsP (frW t.kids) (frK t.kids) t.kids (to + 1) (to + 1 + (t.kids.length * (frW t.kids + frK t.kids) : Nat))).1 ++ (rowsP (frW t.kids) (frK t.kids) t.kids (to + 1) (to + 1 + (t.kids.length * (frW t.kids + frK t.kids) : Nat))).2)
    else putR (t.kind - 2) (numsP t.kids) := by
  obtain ⟨k, w, ks⟩ := t
  rw [blkP]; rfl

set_option maxHeartbeats 1000000 in
theorem c76 : Contract Try.prog cfg 76 spec76 := by
  refine make76 c102 c103 c104 c82 c18 ?_
  intro N l at_ t _ hp hN
  obtain ⟨⟨h1, h2, h3⟩, ⟨hm, hg⟩, h10, d, hr⟩ := hp
  dsimp only at h1 h2 h3 hm hg h10 hr
  have hN : mass t < N + 1 := hN
  obtain ⟨a, rfl⟩ := Int.eq_ofNat_of_zero_le h1
  have rt := riT' hr
  have hk := kids_le t
  have hkr := rt.kind
  have hlen := rt.len
  have fin : ∀ {L : List Int}, L = layP l a t → EndsQL cfg Try.f76.ntmps Try.f76.results.toList (res76 (l, (a : Int), t, ())) (resX76 (l, (a : Int), t, ())) (resL76 (l, (a : Int), t, ())) .ret (⟨[(6, .c (.mref (.e 6 0)))], [], [(.e 6 0, LC.mk (U := U) .u64 L 0)]⟩ : LSt U) := by
    rintro L rfl
    (repeat' (first | exact trivial | exact rfl | refine And.intro ?_ ?_))
  have lay : ∀ {h : Int} {b : List Int}, t.kind ≠ 0 → headP a l.length t = h → blkP t l.length = b → l.set a h ++ b = layP l a t := by
    rintro h b h0 rfl rfl
    unfold layP
    rw [if_neg h0]
    rfl
  have kid : ∀ {i : Nat}, i < t.kids.length → mass (t.kids.getD i Tree.nil) < N ∧ mass (t.kids.getD i Tree.nil) ≤ 1000000 ∧ rng (t.kids.getD i Tree.nil) ∧ t.kids.getD i Tree.nil ∈ t.kids := fun {i} hi => by
    have := kid_mass hi
    have hmem := mem_getD hi Tree.nil
    exact ⟨by omega, by omega, kid_rng hg hmem, hmem⟩
  have w8 : IntKind.wrap .u64 (8 * IntKind.wrap .u64 (t.kids.length : Int)) = 8 * (t.kids.length : Int) := by rw [wrap_u64 (n := (t.kids.length : Int)) (by omega) (by omega), wrap_u64 (by omega) (by omega)]
  refine vc76 _ _ _ _ _ ?_
  rintro y1 rfl y2 e2 y3 e3 y4 e4 y5 e5 y6 e6 y7 e7 y8 e8
  rw [w8] at e2
  rw [wrap_u64 (n := (y1.kids.length : Int)) (by omega) (by omega), wrap_u64 (by omega) (by omega)] at e3
  (simp only [vcT, vcS])
  refine ⟨fun k0 => fin (by unfold layP; rw [if_pos k0]), fun k0 => ⟨fun k1 => ?_, fun k1 => ⟨fun k8 => ?_, fun k8 => ⟨fun k9 => ?_, fun k9 => ?_⟩⟩⟩⟩
  · -- a struct
    have hs := rt.stru k1
    have sz := size_eq y1
    rw [if_pos k1] at sz
    have hh := head_eq a l.length y1
    rw [if_neg k0, if_pos k1] at hh
    have hb := blk_eq y1 l.length
    rw [if_neg k0, if_pos k1] at hb
    rw [wrap_u64 (n := (y1.words.length : Int)) (by omega) (by omega), e3, wrap_u64 (by omega) (by omega)] at e5
    have kOk := rt.kidsOk (.inl k1)
    have key : ∀ {x : Int} {h : Int}, headP a l.length y1 = h → (y1.kids.length ≠ 0 → x = l.length) → 0 ≤ x → x ≤ 1000000 → LoopWp (A76 N [1, 1, 0, 1, 0, 1, 1, 1, 0, 1, 1, 1, 1, 0, 1, 0, 0]) (head76_0 l a y1 x ((l.set a h ++ y1.words) ++ zs y1.kids.length) 0) (AExit.inBlock 1 (S76 N [1, 1, 0, 1, 0, 1, 1, 1, 0, 1, 1, 1, 1, 1] (AExit.inBlock 0 (S76 N [1, 1, 1] (EndsQL cfg Try.f76.ntmps Try.f76.results.toList (res76 (l, (a : Int), y1, ())) (resX76 (l, (a : Int), y1, ())) (resL76 (l, (a : Int), y1, ()))))))) := by
      intro x h hhd hx x0 x1
      have hA : (l.set a h ++ y1.words).length = l.length + y1.words.length := by simp
      refine loop_rule (ι := Int) (fun p => head76_0 l a y1 x (kidsSt (l.set a h ++ y1.words) [] y1.kids ((l.set a h ++ y1.words).length + y1.kids.length + ([] : List Int).length : Nat) p.toNat) p) (fun p => 0 ≤ p ∧ p ≤ y1.kids.length) (fun p => ((y1.kids.length : Int) - p).toNat) 0 (by rw [show (0 : Int).toNat = 0 from rfl, kidsSt_zero]; simp [zs]) ⟨by omega, by omega⟩ ?_
      rintro i ⟨g1, g2⟩
      refine vc76_l0 _ _ _ _ _ _ _ _ _ ?_
      (simp only [vcT, vcS])
      simp only [Tree.eta]
      refine ⟨fun hi => ?_, fun hi => ?_⟩
      · obtain ⟨m1, m2, m3, m4⟩ := kid (i := i.toNat) (by omega)
        obtain ⟨p1, p2⟩ := kst_pre (A := l.set a h ++ y1.words) (S := []) (to := ((l.set a h ++ y1.words).length + y1.kids.length + ([] : List Int).length : Nat)) (i := i.toNat) (by omega) kOk (by rw [hA]; simp only [List.length_nil]; omega)
        have st := kids_step (A := l.set a h ++ y1.words) (S := []) (i := i.toNat) (ks := y1.kids) (by omega)
        have ex := hx (by omega)
        refine ⟨by ((unfold InR; omega)), by ((unfold InR; omega)), ⟨g1, hi⟩, ⟨⟨by dsimp only; omega, by dsimp only; omega, by dsimp only; omega⟩, ⟨m2, m3⟩, (kOk _ m4).1, (kOk _ m4).2⟩, m1, by ((unfold InR; omega)), i + 1, ?_, ⟨by omega, by omega⟩, by omega⟩
        rw [show (i + 1).toNat = i.toNat + 1 by omega, ← st, hA]
        congr 2
        omega
      · have e : i = y1.kids.length := by omega
        subst e
        refine fin ?_
        rw [Int.toNat_natCast, kidsSt_all, ← lay k0 hhd hb, hA]
        simp only [List.append_assoc, List.nil_append, List.length_nil, Nat.add_zero, Int.natCast_add]
    refine ⟨by ((unfold InR; omega)), fun hz => ?_, fun hz => ?_⟩
    · have hz' : y1.words.length + y1.kids.length = 0 := by omega
      rw [if_pos hz'] at hh
      have eh : ptrP a a 0 y5 = headP a l.length y1 := by rw [hh, e5]
      rw [eh]
      refine ⟨⟨⟨by dsimp only; omega, Int.le_refl _, by dsimp only; omega⟩, ⟨by dsimp only; omega, by dsimp only; omega⟩, by dsimp only; omega, by dsimp only; omega⟩, ⟨by omega, h2⟩, Nat.zero_le _, ?_, ⟨?_, by dsimp only; omega, by dsimp only; omega⟩, key rfl (by omega) (by omega) (by omega)⟩
      · rw [List.length_set]; omega
      · dsimp only; rw [List.length_append, List.length_set]; omega
    · have hz' : ¬(y1.words.length + y1.kids.length = 0) := by omega
      rw [if_neg hz'] at hh
      have eh : ptrP a l.length 0 y5 = headP a l.length y1 := by rw [hh, e5]
      rw [e7, eh]
      refine ⟨⟨⟨by dsimp only; omega, by dsimp only; omega, by dsimp only; omega⟩, ⟨by dsimp only; omega, by dsimp only; omega⟩, by dsimp only; omega, by dsimp only; omega⟩, ⟨by omega, h2⟩, Nat.zero_le _, ?_, ⟨?_, by dsimp only; omega, by dsimp only; omega⟩, key rfl (fun _ => rfl) (by omega) (by omega)⟩
      · rw [List.length_set]; dsimp only; omega
      · dsimp only; rw [List.length_append, List.length_set]; omega
  · -- pointers
    have sz := size_eq y1
    rw [if_neg k1, if_pos k8] at sz
    have hh := head_eq a l.length y1
    rw [if_neg k0, if_neg k1, if_pos k8] at hh
    have hb := blk_eq y1 l.length
    rw [if_neg k0, if_neg k1, if_pos k8] at hb
    have kOk := rt.kidsOk (.inr k8)
    rw [e2, wrap_u64 (n := 6 + 8 * (y1.kids.length : Int)) (by omega) (by omega), ← hh]
    have hA : (l.set a (headP a l.length y1)).length = l.length := by simp
    refine ⟨⟨⟨by dsimp only; omega, by dsimp only; omega, by dsimp only; omega⟩, ⟨by dsimp only; omega, by dsimp only; omega⟩, by dsimp only; omega, by dsimp only; omega⟩, ⟨by omega, h2⟩, Nat.zero_le _, ⟨by dsimp only; rw [Int.toNat_natCast, hA]; omega, by dsimp only; omega, by dsimp only; omega⟩, ?_⟩
    refine loop_rule (ι := Int) (fun p => head76_1 l a y1 p (kidsSt (l.set a (headP a l.length y1)) [] y1.kids ((l.set a (headP a l.length y1)).length + y1.kids.length + ([] : List Int).length : Nat) p.toNat)) (fun p => 0 ≤ p ∧ p ≤ y1.kids.length) (fun p => ((y1.kids.length : Int) - p).toNat) 0 (by rw [show (0 : Int).toNat = 0 from rfl, kidsSt_zero]; simp [zs]) ⟨by omega, by omega⟩ ?_
    rintro i ⟨g1, g2⟩
    refine vc76_l1 _ _ _ _ _ _ _ _ ?_
    (simp only [vcT, vcS])
    simp only [Tree.eta]
    refine ⟨fun hi => ?_, fun hi => ?_⟩
    · obtain ⟨m1, m2, m3, m4⟩ := kid (i := i.toNat) (by omega)
      obtain ⟨p1, p2⟩ := kst_pre (A := l.set a (headP a l.length y1)) (S := []) (to := ((l.set a (headP a l.length y1)).length + y1.kids.length + ([] : List Int).length : Nat)) (i := i.toNat) (by omega) kOk (by rw [hA]; simp only [List.length_nil]; omega)
      have st := kids_step (A := l.set a (headP a l.length y1)) (S := []) (i := i.toNat) (ks := y1.kids) (by omega)
      refine ⟨by ((unfold InR; omega)), ⟨g1, hi⟩, ⟨⟨by dsimp only; omega, by dsimp only; omega, by dsimp only; omega⟩, ⟨m2, m3⟩, (kOk _ m4).1, (kOk _ m4).2⟩, m1, by ((unfold InR; omega)), i + 1, ?_, ⟨by omega, by omega⟩, by omega⟩
      rw [show (i + 1).toNat = i.toNat + 1 by omega, ← st, hA]
      congr 2
      omega
    · have e : i = y1.kids.length := by omega
      subst e
      refine fin ?_
      rw [Int.toNat_natCast, kidsSt_all, ← lay k0 rfl hb, hA]
      simp only [List.nil_append, List.length_nil, Nat.add_zero, Int.natCast_add]
  · -- a list of structs
    rw [k9] at rt
    have rows := rt.rows
    have hfr := fr_lt fun t ht => (rows t ht).2.2
    have hfit : Fit (frW y1.kids) (frK y1.kids) y1.kids := fun t ht => frW_le ht
    have sz := size_eq y1
    rw [if_neg k1, if_neg k8, if_pos k9] at sz
    have hh := head_eq a l.length y1
    rw [if_neg k0, if_neg k1, if_neg k8, if_pos k9] at hh
    have hb := blk_eq y1 l.length
    rw [if_neg k0, if_neg k1, if_neg k8, if_pos k9] at hb
    generalize hfw : frW y1.kids = fw at *
    generalize hfk : frK y1.kids = fk at *
    obtain ⟨P, hP⟩ : ∃ P, P = y1.kids.length * (fw + fk) := ⟨_, rfl⟩
    have hPI : (y1.kids.length : Int) * ((fw : Int) + fk) = P := by rw [hP, Int.natCast_mul, Int.natCast_add]
    rw [← hP] at sz hh hb
    rw [hPI, wrap_u64 (n := (P : Int)) (by omega) (by omega)] at e6
    rw [e6, wrap_u64 (n := 8 * (P : Int)) (by omega) (by omega), wrap_u64 (n := 7 + 8 * (P : Int)) (by omega) (by omega)] at e8
    have etag : IntKind.wrap .u64 (IntKind.wrap .u64 (4 * (y1.kids.length : Int)) + IntKind.wrap .u64 (4294967296 * IntKind.wrap .u64 (IntKind.wrap .u64 (fw : Int) + IntKind.wrap .u64 (65536 * IntKind.wrap .u64 (fk : Int))))) = tagP y1.kids.length fw fk := by
      rw [wrap_u64 (n := (fk : Int)) (by omega) (by omega), wrap_u64 (n := 65536 * (fk : Int)) (by omega) (by omega), wrap_u64 (n := (fw : Int)) (by omega) (by omega), wrap_u64 (n := (fw : Int) + 65536 * fk) (by omega) (by omega), wrap_u64 (n := 4 * (y1.kids.length : Int)) (by omega) (by omega), wrap_u64 (n := 4294967296 * ((fw : Int) + 65536 * fk)) (by omega) (by omega), wrap_u64 (by omega) (by omega)]
      rfl
    rw [etag, hPI, e8, ← hh]
    have hB : (l.set a (headP a l.length y1)).length = l.length := by simp
    have hA : (l.set a (headP a l.length y1) ++ [tagP y1.kids.length fw fk]).length = l.length + 1 := by simp
    refine ⟨hm, by ((unfold InR; omega)), by ((unfold InR; omega)), ⟨⟨by dsimp only; omega, by dsimp only; omega, by dsimp only; omega⟩, ⟨by dsimp only; omega, by dsimp only; omega⟩, by dsimp only; omega, by dsimp only; omega⟩, ⟨by omega, h2⟩, Nat.zero_le _, by ((unfold InR; omega)), by rw [Int.toNat_natCast, hB]; simp only [List.length_singleton]; omega, ?_⟩
    have hraw : ∀ n : Nat, n ≤ y1.kids.length → (rawP fw fk (y1.kids.take n)).length ≤ P := by
      intro n hn
      rw [rawP_len (hfit.take n), List.length_take, Nat.min_eq_left hn, hP]
      exact Nat.mul_le_mul_right _ hn
    rw [Int.toNat_natCast]
    refine loop_rule (ι := Int) (fun p => head76_2 l a y1 p ((l.set a (headP a l.length y1) ++ [tagP y1.kids.length fw fk]) ++ rawP fw fk (y1.kids.take p.toNat))) (fun p => 0 ≤ p ∧ p ≤ y1.kids.length) (fun p => ((y1.kids.length : Int) - p).toNat) 0 (by simp [rawP]) ⟨by omega, by omega⟩ ?_
    rintro i ⟨g1, g2⟩
    refine vc76_l2 _ _ _ _ _ _ _ _ ?_
    rintro y9 rfl y10 e10
    rw [hfw, hfk]
    (simp only [vcT, vcS])
    refine ⟨fun hi => ?_, fun hi => ?_⟩
    · have hmem := mem_getD (l := y9.kids) (i := i.toNat) (by omega) Tree.nil
      have hf := hfit _ hmem
      rw [← e10] at hf
      have hr1 := hraw i.toNat (by omega)
      have htk := takeI g1 hi
      have hr2 := hraw (i + 1).toNat (by omega)
      rw [htk, rawP_app, ← e10, rawP, rawP] at hr2
      simp only [List.length_append, zs_len, List.length_nil] at hr2
      refine ⟨⟨g1, hi⟩, by rw [List.length_append, hA]; omega, by ((unfold InR; omega)), ⟨g1, hi⟩, by ((unfold InR; omega)), ⟨by dsimp only; rw [List.length_append, List.length_append, hA]; omega, by dsimp only; omega, by dsimp only; omega⟩, by ((unfold InR; omega)), i + 1, ?_, ⟨by omega, by omega⟩, by omega⟩
      rw [htk, rawP_app, ← e10, rawP, rawP, show ((fw : Int) + fk - y10.words.length).toNat = fw + fk - y10.words.length by omega]
      simp only [List.append_assoc, List.append_nil]
    · have e : i = y9.kids.length := by omega
      subst e
      rw [Int.toNat_natCast, List.take_length]
      generalize hAA : l.set a (headP a l.length y9) ++ [tagP y9.kids.length fw fk] = A at *
      refine loop_rule (ι := Int) (fun p => head76_3 l a y9 p (rowSt A (rawP fw fk (y9.kids.drop p.toNat)) fw fk y9.kids p.toNat)) (fun p => 0 ≤ p ∧ p ≤ y9.kids.length) (fun p => ((y9.kids.length : Int) - p).toNat) 0 (by simp [rowSt, rowsP]) ⟨by omega, by omega⟩ ?_
      rintro i ⟨f1, f2⟩
      refine vc76_l3 _ _ _ _ _ _ _ _ ?_
      (simp only [vcT, vcS])
      refine ⟨fun hi => ?_, fun hi => ?_⟩
      · have hmem := mem_getD (l := y9.kids) (i := i.toNat) (by omega) Tree.nil
        obtain ⟨r1, r2, r3, r4⟩ := rows _ hmem
        have hR : (rawP fw fk (y9.kids.drop (i.toNat + 1))).length = (y9.kids.length - (i.toNat + 1)) * (fw + fk) := by
          rw [rawP_len (fun t ht => hfit t (List.mem_of_mem_drop ht)), List.length_drop]
        have hAl := rowA_len (A := A) hfit (i := i.toNat) (by omega)
        have hSl := rowS_len (A := A) hfit (i := i.toNat) (by omega) hR
        have hz := row_zero (A := A) (R := rawP fw fk (y9.kids.drop (i.toNat + 1))) hfit (i := i.toNat) (by omega) ((rowA A fw fk y9.kids i.toNat).length + (y9.kids.getD i.toNat Tree.nil).kids.length + (rowS A (rawP fw fk (y9.kids.drop (i.toNat + 1))) fw fk y9.kids i.toNat).length : Nat)
        have hall := row_all (A := A) hfit (i := i.toNat) (by omega) hR
        rw [← rawP_drop (by omega)] at hz
        have hrb := rowsP_blk' fw fk (y9.kids.take i.toNat) A.length (A.length + y9.kids.length * (fw + fk) : Nat) (fun t ht => (rows t (List.mem_of_mem_take ht)).2.1)
        rw [hrb, ← hP] at hSl
        have hst := sizeR_take f1 hi
        have hsl := sizeR_take_le y9.kids (i + 1).toNat
        have hip : i.toNat * (fw + fk) + (fw + fk) ≤ P := by
          rw [← Nat.succ_mul, hP]
          exact Nat.mul_le_mul_right _ (by omega)
        have hipI : i * ((fw : Int) + fk) = (i.toNat * (fw + fk) : Nat) := by rw [Int.natCast_mul, Int.natCast_add, Int.toNat_of_nonneg f1]
        rw [← hz]
        refine loop_rule (ι := Int) (fun p => head76_4 l a y9 i p (kidsSt (rowA A fw fk y9.kids i.toNat) (rowS A (rawP fw fk (y9.kids.drop (i.toNat + 1))) fw fk y9.kids i.toNat) (y9.kids.getD i.toNat Tree.nil).kids ((rowA A fw fk y9.kids i.toNat).length + (y9.kids.getD i.toNat Tree.nil).kids.length + (rowS A (rawP fw fk (y9.kids.drop (i.toNat + 1))) fw fk y9.kids i.toNat).length : Nat) p.toNat)) (fun p => 0 ≤ p ∧ p ≤ (y9.kids.getD i.toNat Tree.nil).kids.length) (fun p => (((y9.kids.getD i.toNat Tree.nil).kids.length : Int) - p).toNat) 0 rfl ⟨by omega, by omega⟩ ?_
        rintro j ⟨j1, j2⟩
        refine vc76_l4 _ _ _ _ _ _ _ _ _ _ ?_
        rintro z1 rfl z2 q2 z3 q3 z4 rfl
        rw [hfw, hfk, hipI]
        rw [← q2] at j2 r2 hall hst hSl ⊢
        (simp only [vcT, vcS])
        refine ⟨⟨f1, hi⟩, fun hj => ?_, fun hj => ?_⟩
        · obtain ⟨m1, m2, m3, m4⟩ := kid (i := i.toNat) (by omega)
          rw [← q2] at m1 m2 m3
          have hm2 := kid_mass (t := z2) (i := j.toNat) (by omega)
          have hmem2 := mem_getD (l := z2.kids) (i := j.toNat) (by omega) Tree.nil
          rw [← q3] at hm2 hmem2
          obtain ⟨p1, p2⟩ := kst_pre (A := rowA A fw fk z1.kids i.toNat) (S := rowS A (rawP fw fk (z1.kids.drop (i.toNat + 1))) fw fk z1.kids i.toNat) (ks := z2.kids) (to := ((rowA A fw fk z1.kids i.toNat).length + z2.kids.length + (rowS A (rawP fw fk (z1.kids.drop (i.toNat + 1))) fw fk z1.kids i.toNat).length : Nat)) (i := j.toNat) (by omega) r2 (by rw [hSl]; omega)
          have st := kids_step (A := rowA A fw fk z1.kids i.toNat) (S := rowS A (rawP fw fk (z1.kids.drop (i.toNat + 1))) fw fk z1.kids i.toNat) (ks := z2.kids) (i := j.toNat) (by omega)
          rw [← q3] at p2 st
          have hq1 : mass z4 < N := by omega
          have hq2 : mass z4 ≤ 1000000 := by omega
          refine ⟨by ((unfold InR; omega)), by ((unfold InR; omega)), by ((unfold InR; omega)), by ((unfold InR; omega)), by ((unfold InR; omega)), by ((unfold InR; omega)), ⟨f1, hi⟩, ⟨j1, hj⟩, ⟨⟨by dsimp only; omega, by dsimp only; omega, by dsimp only; omega⟩, ⟨hq2, kid_rng m3 hmem2⟩, (r2 _ hmem2).1, (r2 _ hmem2).2⟩, hq1, by ((unfold InR; omega)), j + 1, ?_, ⟨by omega, by omega⟩, by omega⟩
          rw [show (j + 1).toNat = j.toNat + 1 by omega, ← st]
          congr 2
          omega
        · have e : j = z2.kids.length := by omega
          subst e
          refine ⟨by ((unfold InR; omega)), i + 1, ?_, ⟨by omega, by omega⟩, by omega⟩
          rw [Int.toNat_natCast, hall, show (i + 1).toNat = i.toNat + 1 by omega]
      · have e : i = y9.kids.length := by omega
        subst e
        refine fin ?_
        rw [Int.toNat_natCast, List.drop_length, ← lay k0 rfl hb, ← List.singleton_append, ← List.append_assoc, hAA]
        unfold rowSt
        rw [List.take_length, hA, rawP, ← hP]
        simp only [List.nil_append, Int.natCast_add, Int.natCast_one]
  · -- numbers
    have hk27 : 2 ≤ y1.kind ∧ y1.kind ≤ 7 := by omega
    obtain ⟨hfit, hat⟩ := rt.data hk27.1 hk27.2
    have sz := size_eq y1
    rw [if_neg k1, if_neg k8, if_neg k9, if_pos hk27] at sz
    have hh := head_eq a l.length y1
    rw [if_neg k0, if_neg k1, if_neg k8, if_neg k9] at hh
    have hb := blk_eq y1 l.length
    rw [if_neg k0, if_neg k1, if_neg k8, if_neg k9] at hb
    rw [wrap_u64 (n := y1.kind - 2) (by omega) (by omega), e2, wrap_u64 (by omega) (by omega)] at e4
    rw [e4, ← hh]
    have hnl : (numsP y1.kids).length = y1.kids.length := by rw [numsP, List.length_map]
    have hnW : okW (numsP y1.kids) := by
      intro x hx
      obtain ⟨t', ht', rfl⟩ := List.mem_map.1 hx
      have := kid_rng hg ht'
      obtain ⟨k', w', l'⟩ := t'
      rw [rng] at this
      exact getD_word this.2.1 0
    have hpl : (putR (y1.kind - 2) (numsP y1.kids)).length = sizeN y1 := by
      unfold putR
      rw [if_pos hfit, putW_len, hnl, sz]
    refine ⟨by ((unfold InR; omega)), ⟨hm, fun k hk => (hat k hk).2.2⟩, ⟨hnW, by dsimp only; omega⟩, by ((unfold InR; omega)), ⟨⟨by dsimp only; omega, by dsimp only; omega, by dsimp only; omega⟩, ⟨by dsimp only; omega, by dsimp only; omega⟩, by dsimp only; omega, by dsimp only; omega⟩, ⟨by omega, h2⟩, Nat.zero_le _, by rw [List.length_set, hpl]; omega, fin ?_⟩
    rw [← lay k0 rfl hb]
    rfl

theorem c36 : Contract Try.prog cfg 36 spec36 := by
  refine make36 c43 c50 c54 c76 ?_
  intro t most _ hp
  obtain ⟨hm, hg⟩ := hp
  dsimp only at hm hg
  have no : ¬(rightT t 64 = true ∧ t.kind ≠ 10 ∧ (sizeN (normT t) : Int) < most ∧ sizeN (normT t) < 131072) → EndsQ cfg Try.f36.ntmps Try.f36.results.toList (res36 (t, most, ())) [] .ret (⟨[(4, .c (.nils)), (5, .c (.bool false))], [], []⟩ : LSt U) := by
    intro h
    refine ends_eq (r' := .tup [(false, [.slice (U := U) .u64 [] .unk]), (false, [.bool false])]) ?_ (by (repeat' (first | exact trivial | exact rfl | refine And.intro ?_ ?_)))
    simp only [res36]
    unfold encP
    split
    · rw [if_neg (by rename_i h2; exact fun h3 => h ⟨h2.1, h2.2, h3⟩)]
    · rfl
  have hn := normT_mass t
  refine vc36 _ _ _ ?_
  rintro y1 rfl y2 rfl
  (simp only [vcT, vcS])
  have q1 : mass y1 ≤ 1000000000000 := by omega
  have q2 : mass (normT y1) ≤ 1000000 := by omega
  refine ⟨⟨hm, hg, by dsimp only; omega, by dsimp only; omega⟩, fun h => no (fun h2 => ?_), fun h => ⟨q1, q2, fun _ => q2, fun h2 => no (fun h3 => ?_), fun h2 => ⟨⟨⟨Int.le_refl _, by dsimp only; simp, by dsimp only; simp only [List.length_singleton]; omega⟩, ⟨by dsimp only; omega, rng_norm _ hg⟩, ?_, 64, rightT_norm _ _ h.1⟩, ?_⟩⟩⟩
  · rcases h with h | h
    · rw [h2.1] at h; cases h
    · exact h2.2.1 h
  · omega
  · dsimp only
    rw [normT_kind]
    exact h.2
  · refine ends_eq (r' := .tup [(false, [.slice (U := U) .u64 (layP [0] 0 (normT y1)) .unk]), (false, [.bool true])]) ?_ (by (repeat' (first | exact trivial | exact rfl | refine And.intro ?_ ?_)))
    simp only [res36]
    unfold encP
    rw [if_pos ⟨h.1, h.2⟩, if_pos (by omega)]

end Go.AM.Ythokdjgpdonhgaa

namespace Go.AM.Ythokdjgpdonhgaa
open Go.AM Go.Proofs

theorem zsAt_mk (A S : List Int) (n : Nat) : zsAt (A ++ (zs n ++ S)) A.length n := ⟨A, S, rfl, rfl⟩
theorem take_mk (A B : List Int) {a : Nat} (h : A.length = a) : (A ++ B).take a = A := by rw [← h, List.take_left]
theorem drop_mk (A B : List Int) {a : Nat} (h : A.length = a) : (A ++ B).drop a = B := by rw [← h, List.drop_left]

theorem strR_mk {X Y : List Int} {fw : Nat} {t : Tree} {a : Nat} (ha : X.length = a) (hw : t.words.length ≤ fw) (n : Nat) :
    strR (X ++ (zs (fw + (t.kids.length + n)) ++ Y)) a fw t = X ++ (t.words ++ (zs (fw - t.words.length) ++ ((kidsP t.kids ((a : Int) + fw) (X ++ (zs (fw + (t.kids.length + n)) ++ Y)).length).1 ++ (zs n ++ (Y ++ (kidsP t.kids ((a : Int) + fw) (X ++ (zs (fw + (t.kids.length + n)) ++ Y)).length).2))))) := by
  generalize hP : kidsP t.kids ((a : Int) + fw) (X ++ (zs (fw + (t.kids.length + n)) ++ Y)).length = P
  unfold strR
  rw [hP, Int.toNat_natCast, Int.toNat_natCast, take_mk _ _ ha]
  have e : X ++ (zs (fw + (t.kids.length + n)) ++ Y) = (X ++ zs (fw + t.kids.length)) ++ (zs n ++ Y) := by
    rw [← Nat.add_assoc, zs_add (fw + t.kids.length) n]
    simp only [List.append_assoc]
  rw [e, drop_mk (a := a + fw + t.kids.length) _ _ (by rw [List.length_append, zs_len]; omega)]
  simp only [List.append_assoc]

theorem row_str {A : List Int} {fw fk : Nat} {ks : List Tree} (h : Fit fw fk ks) {i : Nat} (hi : i < ks.length) :
    zsAt (rowSt A (zs ((ks.length - i) * (fw + fk))) fw fk ks i) (A.length + i * (fw + fk)) (fw + (ks.getD i Tree.nil).kids.length) ∧
      strR (rowSt A (zs ((ks.length - i) * (fw + fk))) fw fk ks i) ((A.length + i * (fw + fk) : Nat) : Int) fw (ks.getD i Tree.nil) = rowSt A (zs ((ks.length - (i + 1)) * (fw + fk))) fw fk ks (i + 1) := by
  have hf := h.get hi
  have hall := row_all (A := A) (R := zs ((ks.length - (i + 1)) * (fw + fk))) h hi (zs_len _)
  have hz := row_zero (A := A) (R := zs ((ks.length - (i + 1)) * (fw + fk))) h hi 0
  have hAl := rowA_len (A := A) h hi
  have hSl := rowS_len (A := A) (R := zs ((ks.length - (i + 1)) * (fw + fk))) h hi (zs_len _)
  generalize hk : ks.getD i Tree.nil = t at *
  have ez : (ks.length - i) * (fw + fk) = fw + (t.kids.length + ((fk - t.kids.length) + (ks.length - (i + 1)) * (fw + fk))) := by
    have : (ks.length - i) * (fw + fk) = (ks.length - (i + 1)) * (fw + fk) + (fw + fk) := by rw [← Nat.succ_mul]; congr 1; omega
    omega
  have eL : rowSt A (zs ((ks.length - i) * (fw + fk))) fw fk ks i = (A ++ (rowsP fw fk (ks.take i) A.length (A.length + ks.length * (fw + fk) : Nat)).1) ++ (zs (fw + (t.kids.length + ((fk - t.kids.length) + (ks.length - (i + 1)) * (fw + fk)))) ++ (rowsP fw fk (ks.take i) A.length (A.length + ks.length * (fw + fk) : Nat)).2) := by
    unfold rowSt
    rw [ez]
    simp only [List.append_assoc]
  have eX : (A ++ (rowsP fw fk (ks.take i) A.length (A.length + ks.length * (fw + fk) : Nat)).1).length = A.length + i * (fw + fk) := by
    rw [List.length_append, rowsP_len _ _ _ (h.take i), List.length_take, Nat.min_eq_left (Nat.le_of_lt hi)]
  constructor
  · rw [eL, ← eX, ← Nat.add_assoc fw, zs_add]
    have := zsAt_mk (A ++ (rowsP fw fk (ks.take i) A.length (A.length + ks.length * (fw + fk) : Nat)).1) (zs ((fk - t.kids.length) + (ks.length - (i + 1)) * (fw + fk)) ++ (rowsP fw fk (ks.take i) A.length (A.length + ks.length * (fw + fk) : Nat)).2) (fw + t.kids.length)
    rwa [← List.append_assoc (zs _)] at this
  · have hlen : ((A ++ (rowsP fw fk (ks.take i) A.length (A.length + ks.length * (fw + fk) : Nat)).1) ++ (zs (fw + (t.kids.length + ((fk - t.kids.length) + (ks.length - (i + 1)) * (fw + fk)))) ++ (rowsP fw fk (ks.take i) A.length (A.length + ks.length * (fw + fk) : Nat)).2)).length = (rowA A fw fk ks i).length + t.kids.length + (rowS A (zs ((ks.length - (i + 1)) * (fw + fk))) fw fk ks i).length := by
      rw [hSl, List.length_append, eX, List.length_append, zs_len]
      have : ks.length * (fw + fk) = i * (fw + fk) + (ks.length - i) * (fw + fk) := by rw [← Nat.add_mul]; congr 1; omega
      omega
    rw [eL, strR_mk eX hf.1, hlen, ← hall, kidsSt_all, hAl]
    unfold rowA rowS
    rw [hk, zs_add (fk - t.kids.length)]
    simp only [List.append_assoc, Int.natCast_add]

theorem cpL_mk {X Y w : List Int} {n : Nat} {a : Nat} (ha : X.length = a) (hw : w.length ≤ n) : cpL (X ++ (zs n ++ Y)) a w = X ++ (w ++ (zs (n - w.length) ++ Y)) := by
  unfold cpL
  have e : X ++ (zs n ++ Y) = (X ++ zs w.length) ++ (zs (n - w.length) ++ Y) := by
    rw [show n = w.length + (n - w.length) by omega, zs_add]
    simp only [List.append_assoc, show w.length + (n - w.length) - w.length = n - w.length by omega]
  rw [take_mk _ _ ha, List.take_of_length_le (by simp only [List.length_append, zs_len]; omega)]
  conv => lhs; rw [e]
  rw [drop_mk (a := a + w.length) _ _ (by rw [List.length_append, zs_len]; omega)]

theorem set_left {l b : List Int} {a : Nat} (h : a < l.length) (x : Int) : (l ++ b).set a x = l.set a x ++ b := List.set_append_left _ _ h

theorem b99 : HB99 := by
  intro N l at_ t _ hp hN
  obtain ⟨⟨h1, h2, h3⟩, ⟨hm, hg⟩, hK⟩ := hp
  dsimp only at h1 h2 h3 hm hg hK
  have hN : 4 * mass t + 1 < N + 1 := hN
  obtain ⟨a, rfl⟩ := Int.eq_ofNat_of_zero_le h1
  rw [Int.toNat_natCast] at h3
  have hk := kids_le t
  obtain ⟨s1, s2, s3⟩ := zsAt_split h3
  have hl := kidsR_len h3
  refine vc99 _ _ _ _ _ ?_
  refine loop_rule (ι := Int) (fun p => head99_0 l a t p (kidsSt (l.take a) (l.drop (a + t.kids.length)) t.kids l.length p.toNat)) (fun p => 0 ≤ p ∧ p ≤ t.kids.length) (fun p => ((t.kids.length : Int) - p).toNat) 0 (by rw [show (0 : Int).toNat = 0 from rfl, kidsR_zero h3]) ⟨by omega, by omega⟩ ?_
  rintro i ⟨g1, g2⟩
  refine vc99_l0 _ _ _ _ _ _ _ _ ?_
  (simp only [vcT, vcS])
  simp only [Tree.eta, vcF]
  refine ⟨fun hi => ?_, fun hi => ?_⟩
  · have m1 := kid_mass (t := t) (i := i.toNat) (by omega)
    have m4 := mem_getD (l := t.kids) (i := i.toNat) (by omega) Tree.nil
    obtain ⟨p1, p2⟩ := kst_pre (A := l.take a) (S := l.drop (a + t.kids.length)) (ks := t.kids) (to := l.length) (i := i.toNat) (by omega) hK (by rw [hl]; exact h2)
    rw [s2] at p1
    have st := kidsR_step h3 (i := i.toNat) (by omega)
    refine ⟨⟨g1, hi⟩, ?_, ⟨⟨?_, ?_, ?_⟩, ⟨?_, kid_rng hg m4⟩, (hK _ m4).1, (hK _ m4).2⟩, ?_, by ((unfold InR; omega)), i + 1, ?_, ⟨by omega, by omega⟩, by omega⟩
    · show InR ((a : Int) + i); ((unfold InR; omega))
    · show 0 ≤ (a : Int) + i; omega
    · show (a : Int) + i < ((kidsSt (l.take a) (l.drop (a + t.kids.length)) t.kids l.length i.toNat).length : Nat); omega
    · exact p2
    · show mass (t.kids.getD i.toNat Tree.nil) ≤ 1000000; omega
    · show 4 * mass (t.kids.getD i.toNat Tree.nil) + 3 < N; omega
    · rw [show (i + 1).toNat = i.toNat + 1 by omega, ← st, show ((i.toNat : Nat) : Int) = i by omega]
  · have e : i = t.kids.length := by omega
    subst e
    rw [Int.toNat_natCast, kidsR_all h3]
    (repeat' (first | exact trivial | exact rfl | refine And.intro ?_ ?_))

theorem b97 : HB97 := by
  intro N l at_ n t _ hp hN
  obtain ⟨⟨⟨h1, h4⟩, h2, h3⟩, ⟨hm, hg⟩, hK⟩ := hp
  dsimp only at h1 h2 h3 h4 hm hg hK
  have hN : 4 * mass t + 2 < N + 1 := hN
  obtain ⟨a, rfl⟩ := Int.eq_ofNat_of_zero_le h1
  obtain ⟨m, rfl⟩ := Int.eq_ofNat_of_zero_le (show 0 ≤ n by omega)
  rw [Int.toNat_natCast, Int.toNat_natCast] at h3
  have h4 : t.words.length ≤ m := by have : (t.words.length : Int) ≤ (m : Int) := h4; omega
  obtain ⟨X, Y, rfl, ha⟩ := h3
  have hlen : (X ++ (zs (m + t.kids.length) ++ Y)).length = a + (m + t.kids.length) + Y.length := by simp only [List.length_append, zs_len]; omega
  have ecp : cpL (X ++ (zs (m + t.kids.length) ++ Y)) a t.words = (X ++ (t.words ++ zs (m - t.words.length))) ++ (zs t.kids.length ++ Y) := by
    rw [cpL_mk ha (by omega), show m + t.kids.length - t.words.length = (m - t.words.length) + t.kids.length by omega, zs_add]
    simp only [List.append_assoc]
  have eX : (X ++ (t.words ++ zs (m - t.words.length))).length = a + m := by simp only [List.length_append, zs_len]; omega
  have hl2 : ((X ++ (t.words ++ zs (m - t.words.length))) ++ (zs t.kids.length ++ Y)).length = (X ++ (zs (m + t.kids.length) ++ Y)).length := by
    rw [hlen, List.length_append, eX]; simp only [List.length_append, zs_len]; omega
  have hz : zsAt ((X ++ (t.words ++ zs (m - t.words.length))) ++ (zs t.kids.length ++ Y)) (a + m) t.kids.length := by rw [← eX]; exact zsAt_mk _ _ _
  have eres : kidsR ((X ++ (t.words ++ zs (m - t.words.length))) ++ (zs t.kids.length ++ Y)) ((a : Int) + m) t = strR (X ++ (zs (m + t.kids.length) ++ Y)) a m t := by
    have := strR_mk (X := X) (Y := Y) (fw := m) (t := t) ha h4 0
    rw [Nat.add_zero] at this
    rw [this]
    unfold kidsR
    rw [hl2, show ((a : Int) + m).toNat = a + m by omega, take_mk _ _ eX, ← List.append_assoc _ (zs t.kids.length) Y, drop_mk (a := a + m + t.kids.length) _ _ (by rw [List.length_append, eX, zs_len])]
    simp [zs]
  refine vc97 N (X ++ (zs (m + t.kids.length) ++ Y)) a m t _ ?_
  simp only [Tree.eta]
  rw [Int.toNat_natCast, ecp]
  refine ⟨⟨by omega, by rw [hlen]; omega⟩, Nat.zero_le _, ?_, ⟨⟨?_, ?_, ?_⟩, ⟨hm, hg⟩, hK⟩, ?_, ?_⟩
  · show InR ((a : Int) + m)
    rw [hlen] at h2
    ((unfold InR; omega))
  · show 0 ≤ (a : Int) + m; omega
  · show ((X ++ (t.words ++ zs (m - t.words.length))) ++ (zs t.kids.length ++ Y)).length + _ ≤ _; rw [hl2]; exact h2
  · show zsAt _ ((a : Int) + m).toNat _
    rw [show ((a : Int) + m).toNat = a + m by omega]
    exact hz
  · show 4 * mass t + 1 < N; omega
  · rw [eres]
    (repeat' (first | exact trivial | exact rfl | refine And.intro ?_ ?_))

theorem pnt_head1 {a to : Int} {t : Tree} (k1 : t.kind = 1) : pntW a to (Ptr.mk 1 0 (t.words.length : Int) (t.kids.length : Int) 0 0 0 false) = headP a to t := by
  rw [head_eq, if_neg (by omega), if_pos k1]
  unfold pntW
  dsimp only
  rw [if_pos rfl]
  congr 1
  split <;> split <;> omega
theorem pnt_head {a to : Int} {c n : Int} : pntW a to (Ptr.mk 2 0 0 0 c n 0 false) = ptrP a to 1 (c + 8 * n) := by
  unfold pntW
  dsimp only
  rw [if_neg (by decide)]
theorem pntOk1 {o d p : Int} (hd : 0 ≤ d ∧ d < 65536) (hp : 0 ≤ p ∧ p < 65536) : pntOk (Ptr.mk 1 o d p 0 0 0 false) := ⟨.inl ⟨rfl, hd, hp, rfl, rfl⟩, rfl, rfl⟩
theorem pntOk2 {o c n : Int} (hc : 0 ≤ c ∧ c < 8) (hn : 0 ≤ n ∧ n < 536870912) : pntOk (Ptr.mk 2 o 0 0 c n 0 false) := ⟨.inr ⟨rfl, rfl, rfl, hc, hn⟩, rfl, rfl⟩

set_option maxHeartbeats 1000000 in
theorem b74 : HB74 := by
  intro N l at_ t _ hp hN
  obtain ⟨⟨h1, h2, h3⟩, ⟨hm, hg⟩, h10, d, hr⟩ := hp
  dsimp only at h1 h2 h3 hm hg h10 hr
  have hN : 4 * mass t + 3 < N + 1 := hN
  obtain ⟨a, rfl⟩ := Int.eq_ofNat_of_zero_le h1
  have h2 : a < l.length := by have : (a : Int) < l.length := h2; omega
  have rt := riT' hr
  have hk := kids_le t
  have hkr := rt.kind
  have hlen := rt.len
  have fin : ∀ {L : List Int}, L = layP l a t → EndsQL cfg Try.f74.ntmps Try.f74.results.toList (res74 ((l, ()), (a : Int), t, ())) (resX74 ((l, ()), (a : Int), t, ())) (resL74 ((l, ()), (a : Int), t, ())) .ret (⟨[(6, .c (.bool true))], [((.x 0), [.mref (.x 0 0)])], [(.x 0 0, LC.mk (U := U) .u64 L 0)]⟩ : LSt U) := by
    rintro L rfl
    (repeat' (first | exact trivial | exact rfl | refine And.intro ?_ ?_))
  have lay : ∀ {h : Int} {b : List Int}, t.kind ≠ 0 → headP a l.length t = h → blkP t l.length = b → l.set a h ++ b = layP l a t := by
    rintro h b h0 rfl rfl
    unfold layP
    rw [if_neg h0]
    rfl
  refine vc74 N l a t _ ?_
  rintro y1 rfl y2 e2 y3 e3 y4 e4
  (simp only [vcT, vcS])
  simp only [vcF, Int.toNat_natCast]
  refine ⟨fun k0 => fin (by unfold layP; rw [if_pos k0]), fun k0 => ⟨fun k1 => ?_, fun k1 => ⟨fun k9 => ?_, fun k9 => ⟨fun k8 => ?_, fun k8 => ?_⟩⟩⟩⟩
  · have hs := rt.stru k1
    have sz := size_eq y1
    rw [if_pos k1] at sz
    have hb := blk_eq y1 l.length
    rw [if_neg k0, if_pos k1] at hb
    have kOk := rt.kidsOk (.inl k1)
    have e2 : y2 = y1.words.length + (y1.kids.length + 0) := by omega
    rw [e3, pnt_head1 k1, set_left h2, e2]
    have hls : (l.set a (headP a l.length y1)).length = l.length := by simp
    have hz : l.set a (headP a l.length y1) ++ zs (y1.words.length + (y1.kids.length + 0)) = l.set a (headP a l.length y1) ++ (zs (y1.words.length + (y1.kids.length + 0)) ++ []) := by simp
    have hst := strR_mk (X := l.set a (headP a l.length y1)) (Y := []) (fw := y1.words.length) (t := y1) hls (Nat.le_refl _) 0
    rw [← hz] at hst
    rw [hst]
    refine ⟨by ((unfold InR; omega)), ⟨by dsimp only; omega, by dsimp only; omega, by dsimp only; omega⟩, ⟨⟨by dsimp only; omega, ?_, by dsimp only; omega, by dsimp only; omega⟩, pntOk1 (by omega) (by omega)⟩, ⟨⟨⟨by dsimp only; omega, by dsimp only; omega⟩, ?_, ?_⟩, ⟨hm, hg⟩, kOk⟩, ?_, fin ?_⟩
    · dsimp only; rw [List.length_append, zs_len]; omega
    · dsimp only; rw [List.length_append, hls, zs_len]; omega
    · dsimp only
      rw [Int.toNat_natCast, Int.toNat_natCast, hz]
      have := zsAt_mk (l.set a (headP a l.length y1)) [] (y1.words.length + (y1.kids.length + 0))
      rw [hls] at this
      exact this
    · show 4 * mass y1 + 2 < N; omega
    · rw [← lay k0 rfl hb, Nat.sub_self, List.length_append, hls, zs_len]
      simp [zs, Int.add_assoc]
  · refine ⟨⟨⟨h1, by dsimp only; omega, h3⟩, ⟨hm, hg⟩, h10, d, hr, k9⟩, ?_, fin rfl⟩
    show 4 * mass y1 + 2 < N
    omega
  · have sz := size_eq y1
    rw [if_neg k1, if_pos k8] at sz
    have hh := head_eq a l.length y1
    rw [if_neg k0, if_neg k1, if_pos k8] at hh
    have hb := blk_eq y1 l.length
    rw [if_neg k0, if_neg k1, if_pos k8] at hb
    have kOk := rt.kidsOk (.inr k8)
    rw [e4, pnt_head, ← hh, set_left h2]
    have hls : (l.set a (headP a l.length y1)).length = l.length := by simp
    have hz : l.set a (headP a l.length y1) ++ zs y1.kids.length = l.set a (headP a l.length y1) ++ (zs y1.kids.length ++ []) := by simp
    refine ⟨⟨by dsimp only; omega, by dsimp only; omega, by dsimp only; omega⟩, ⟨⟨by dsimp only; omega, ?_, by dsimp only; omega, by dsimp only; omega⟩, pntOk2 (by omega) (by omega)⟩, ⟨⟨by dsimp only; omega, ?_, ?_⟩, ⟨hm, hg⟩, kOk⟩, ?_, fin ?_⟩
    · dsimp only; rw [List.length_append, zs_len]; omega
    · dsimp only; rw [List.length_append, hls, zs_len]; omega
    · dsimp only
      rw [Int.toNat_natCast, hz]
      have := zsAt_mk (l.set a (headP a l.length y1)) [] y1.kids.length
      rw [hls] at this
      exact this
    · show 4 * mass y1 + 1 < N; omega
    · rw [← lay k0 rfl hb]
      unfold kidsR
      rw [Int.toNat_natCast, take_mk _ _ hls, List.drop_of_length_le (by rw [List.length_append, hls, zs_len]; omega), List.length_append, hls, zs_len]
      simp
  · have hk27 : 2 ≤ y1.kind ∧ y1.kind ≤ 7 := by omega
    obtain ⟨hfit, hat⟩ := rt.data hk27.1 hk27.2
    have sz := size_eq y1
    rw [if_neg k1, if_neg k8, if_neg k9, if_pos hk27] at sz
    have hh := head_eq a l.length y1
    rw [if_neg k0, if_neg k1, if_neg k8, if_neg k9] at hh
    have hb := blk_eq y1 l.length
    rw [if_neg k0, if_neg k1, if_neg k8, if_neg k9] at hb
    have hnl : (numsP y1.kids).length = y1.kids.length := by rw [numsP, List.length_map]
    have hnW : okW (numsP y1.kids) := by
      intro x hx
      obtain ⟨t', ht', rfl⟩ := List.mem_map.1 hx
      have := kid_rng hg ht'
      obtain ⟨k', w', l'⟩ := t'
      rw [rng] at this
      exact getD_word this.2.1 0
    have hpl : (putW (y1.kind - 2) (numsP y1.kids)).length = sizeN y1 := by rw [putW_len, hnl, sz]
    refine ⟨by ((unfold InR; omega)), ?_⟩
    refine loop_rule (ι := Int × List Int) (fun p => head74_0 l a y1 p.1 p.2) (fun p => 0 ≤ p.1 ∧ p.1 ≤ y1.kids.length ∧ p.2 = numsP (y1.kids.take p.1.toNat)) (fun p => ((y1.kids.length : Int) - p.1).toNat) (0, []) rfl ⟨by dsimp only; omega, by dsimp only; omega, rfl⟩ ?_
    rintro ⟨i, m⟩ ⟨g1, g2, g3⟩
    dsimp only at g1 g2 g3
    subst g3
    refine vc74_l0 _ _ _ _ _ _ _ _ ?_
    rintro z1 q1 z2 q2 z3 rfl
    (simp only [vcT, vcS])
    refine ⟨fun hi => ?_, fun hi => ?_⟩
    · have hl : (numsP (y1.kids.take i.toNat)).length ≤ y1.kids.length := by rw [numsP, List.length_map, List.length_take]; omega
      refine ⟨⟨g1, hi⟩, trivial, ?_, by ((unfold InR; omega)), (i + 1, _), rfl, ⟨by dsimp only; omega, by dsimp only; omega, ?_⟩, by dsimp only; omega⟩
      · simp only [List.length_singleton]
        omega
      · dsimp only
        rw [takeI g1 hi, numsP, numsP, List.map_append, q1]
        rfl
    · have e : i = y1.kids.length := by omega
      subst e
      simp only [Int.toNat_natCast, List.take_length] at q2 ⊢
      have ecp : cpL (l ++ zs z2) l.length (putW (y1.kind - 2) (numsP y1.kids)) = l ++ putW (y1.kind - 2) (numsP y1.kids) := by
        have := cpL_mk (X := l) (Y := []) (w := putW (y1.kind - 2) (numsP y1.kids)) (n := z2) rfl (by omega)
        rw [List.append_nil] at this
        rw [this, q2]
        simp [zs]
      rw [ecp, pnt_head, set_left h2, ← hh]
      refine ⟨⟨⟨hnW, by dsimp only; omega⟩, hfit⟩, ⟨by dsimp only; omega, by dsimp only; omega, by dsimp only; omega⟩, ⟨by omega, by rw [List.length_append]; omega⟩, Nat.zero_le _, ⟨⟨by dsimp only; omega, by dsimp only; rw [List.length_append]; omega, by dsimp only; omega, by dsimp only; omega⟩, pntOk2 (by omega) (by omega)⟩, fin ?_⟩
      have : blkP y1 l.length = putW (y1.kind - 2) (numsP y1.kids) := by
        rw [hb]
        unfold putR
        rw [if_pos hfit]
      exact lay k0 rfl this

set_option maxHeartbeats 1000000 in
theorem b98 : HB98 := by
  intro N l at_ t _ hp hN
  obtain ⟨⟨h1, h2, h3⟩, ⟨hm, hg⟩, h10, d, hr, k9⟩ := hp
  dsimp only at h1 h2 h3 hm hg h10 hr k9
  have hN : 4 * mass t + 2 < N + 1 := hN
  obtain ⟨a, rfl⟩ := Int.eq_ofNat_of_zero_le h1
  have h2 : a < l.length := by have : (a : Int) < l.length := h2; omega
  have rt := riT' hr
  have hk := kids_le t
  have hlen := rt.len
  rw [k9] at rt
  have rows := rt.rows
  have hfr := fr_lt fun t ht => (rows t ht).2.2
  have hfit : Fit (frW t.kids) (frK t.kids) t.kids := fun t ht => frW_le ht
  have hfm := fr_mass t.kids
  have sz := size_eq t
  rw [if_neg (by omega), if_neg (by omega), if_pos k9] at sz
  have hh := head_eq a l.length t
  rw [if_neg (by omega), if_neg (by omega), if_neg (by omega), if_pos k9] at hh
  have hb := blk_eq t l.length
  rw [if_neg (by omega), if_neg (by omega), if_neg (by omega), if_pos k9] at hb
  refine vc98 N l a t _ ?_
  rintro y1 rfl y2 e2 y3 e3 y4 e4 y5 e5 y6 e6
  have fz : y1.kids.length = 0 → frW y1.kids = 0 ∧ frK y1.kids = 0 := fun h => by
    rw [List.length_eq_zero_iff.1 h]; exact ⟨rfl, rfl⟩
  generalize hfw : frW y1.kids = fw at *
  generalize hfk : frK y1.kids = fk at *
  obtain ⟨P, hP⟩ : ∃ P, P = y1.kids.length * (fw + fk) := ⟨_, rfl⟩
  have hPI : (y1.kids.length : Int) * ((fw : Int) + fk) = P := by rw [hP, Int.natCast_mul, Int.natCast_add]
  rw [← hP] at sz hh hb
  rw [hPI] at e3 e4 e5
  have hy4 : y4 = 1 + P := by omega
  have hy3 : y3 := by rw [e3]; ((unfold InR; omega))
  -- the tag
  have hok : (eqP (decP (encW y2)) y2 && !decide (y2.kind = 4)) = true ∧ encW y2 = tagP y1.kids.length fw fk ∨ (eqP (decP (encW y2)) y2 && !decide (y2.kind = 4)) = false ∧ 0 = tagP y1.kids.length fw fk ∧ y1.kids.length = 0 ∧ fw = 0 ∧ fk = 0 := by
    have hen : encW y2 = tagP y1.kids.length fw fk := by
      rw [e2]
      unfold encW
      dsimp only
      rw [if_pos rfl, if_pos ⟨by omega, by omega, by omega⟩]
      unfold tagP
      omega
    by_cases hz : y1.kids.length = 0
    · right
      obtain ⟨z1, z2⟩ := fz hz
      subst z1 z2
      rw [e2, hz]
      exact ⟨by decide +kernel, rfl, rfl, rfl, rfl⟩
    · left
      refine ⟨?_, hen⟩
      have hd : decP (encW y2) = y2 := by
        rw [hen, e2]
        have := dec_struct (o := y1.kids.length) (d := fw) (p := fk) (by omega) (by omega) (by omega) (by omega)
        rw [← this]
        congr 1
        unfold tagP
        omega
      rw [hd, eqP_self, e2]
      rfl
  have hB : (l.set a (headP a l.length y1)).length = l.length := by simp
  have hA : (l.set a (headP a l.length y1) ++ [tagP y1.kids.length fw fk]).length = l.length + 1 := by simp
  have hset : ((l ++ zs y4).set l.length (tagP y1.kids.length fw fk)).set a (pntW a l.length y5) = (l.set a (headP a l.length y1) ++ [tagP y1.kids.length fw fk]) ++ zs P := by
    rw [e5, pnt_head, ← hh, hy4, zs_add, List.set_append_right _ _ (Nat.le_refl _), Nat.sub_self, set_left h2]
    simp [zs]
  have loop : LoopWp (A98 N [1, 1, 1, 1, 1, 1, 1, 1, 0, 1, 0, 0]) (head98_0 l a y1 ((l.set a (headP a l.length y1) ++ [tagP y1.kids.length fw fk]) ++ zs P) 0) (AExit.inBlock 0 (S98 N [1, 1, 1, 1, 1, 1, 1, 1, 1] (EndsQL cfg Try.f98.ntmps Try.f98.results.toList (res98 ((l, ()), (a : Int), y1, ())) (resX98 ((l, ()), (a : Int), y1, ())) (resL98 ((l, ()), (a : Int), y1, ()))))) := by
    generalize hAA : l.set a (headP a l.length y1) ++ [tagP y1.kids.length fw fk] = A at *
    refine loop_rule (ι := Int) (fun p => head98_0 l a y1 (rowSt A (zs ((y1.kids.length - p.toNat) * (fw + fk))) fw fk y1.kids p.toNat) p) (fun p => 0 ≤ p ∧ p ≤ y1.kids.length) (fun p => ((y1.kids.length : Int) - p).toNat) 0 (by simp [rowSt, rowsP, hP]) ⟨by omega, by omega⟩ ?_
    rintro i ⟨f1, f2⟩
    refine vc98_l0 _ _ _ _ _ _ _ _ ?_
    rintro z1 rfl z2 q2 z3 rfl z4 q4
    rw [hfw, hfk] at q4 ⊢
    rw [← e2] at q4
    subst q4
    (simp only [vcT, vcS])
    simp only [vcF]
    refine ⟨fun hi => ?_, fun hi => ?_⟩
    · have hmem := mem_getD (l := z1.kids) (i := i.toNat) (by omega) Tree.nil
      obtain ⟨r1, r2, r3, r4⟩ := rows _ hmem
      have hf := hfit _ hmem
      have m1 := kid_mass (t := z1) (i := i.toNat) (by omega)
      have hrg := kid_rng hg hmem
      obtain ⟨s1, s2⟩ := row_str (A := A) hfit (i := i.toNat) (by omega)
      have hst := sizeR_take f1 hi
      have hsl := sizeR_take_le z1.kids (i + 1).toNat
      have hrb := rowsP_blk' fw fk (z1.kids.take i.toNat) A.length (A.length + z1.kids.length * (fw + fk) : Nat) (fun t ht => (rows t (List.mem_of_mem_take ht)).2.1)
      rw [← q2] at r2 hf m1 hrg s1 s2 hst
      have hip : i.toNat * (fw + fk) + (fw + fk) ≤ P := by
        rw [← Nat.succ_mul, hP]
        exact Nat.mul_le_mul_right _ (by omega)
      have hipI : i * ((fw : Int) + fk) = (i.toNat * (fw + fk) : Nat) := by rw [Int.natCast_mul, Int.natCast_add, Int.toNat_of_nonneg f1]
      have hLl : (rowSt A (zs ((z1.kids.length - i.toNat) * (fw + fk))) fw fk z1.kids i.toNat).length = A.length + P + sizeR (z1.kids.take i.toNat) := by
        unfold rowSt
        rw [List.length_append, List.length_append, List.length_append, zs_len, rowsP_len _ _ _ (hfit.take _), hrb, List.length_take, Nat.min_eq_left (by omega), hP]
        have : z1.kids.length * (fw + fk) = i.toNat * (fw + fk) + (z1.kids.length - i.toNat) * (fw + fk) := by rw [← Nat.add_mul]; congr 1; omega
        omega
      rw [hA] at s1 s2 hLl
      rw [hipI, show (l.length : Int) + 1 + ((i.toNat * (fw + fk) : Nat) : Int) = ((l.length + 1 + i.toNat * (fw + fk) : Nat) : Int) by omega, s2]
      refine ⟨⟨f1, hi⟩, by ((unfold InR; omega)), by ((unfold InR; omega)), by ((unfold InR; omega)), ⟨⟨⟨by dsimp only; omega, by dsimp only; omega⟩, ?_, ?_⟩, ⟨?_, hrg⟩, r2⟩, ?_, by ((unfold InR; omega)), i + 1, ?_, ⟨by omega, by omega⟩, by omega⟩
      · dsimp only; rw [hLl]; omega
      · dsimp only; rw [Int.toNat_natCast, Int.toNat_natCast]; exact s1
      · show mass z3 ≤ 1000000; omega
      · show 4 * mass z3 + 2 < N; omega
      · rw [show (i + 1).toNat = i.toNat + 1 by omega]
    · have e : i = z1.kids.length := by omega
      subst e
      have eL : rowSt A (zs ((z1.kids.length - (z1.kids.length : Int).toNat) * (fw + fk))) fw fk z1.kids (z1.kids.length : Int).toNat = layP l a z1 := by
        unfold layP
        rw [if_neg (by omega), Int.toNat_natCast, Int.toNat_natCast, hb, ← List.singleton_append, ← List.append_assoc, hAA]
        unfold rowSt
        rw [List.take_length, hA, ← hP, Nat.sub_self]
        simp [zs]
      rw [eL]
      refine ⟨fun _ => by ((unfold InR; omega)), ?_⟩
      have ebool : (bif (eqP (decP (encW z4)) z4 && !decide (z4.kind = 4)) then true else (((z1.kids.length : Int) + ((fw : Int) + fk)) == 0)) = true := by
        rcases hok with h | ⟨h, _, q1, q2, q3⟩
        · rw [h.1]; rfl
        · rw [h, q1, q2, q3]; rfl
      rw [ebool]
      (repeat' (first | exact trivial | exact rfl | refine And.intro ?_ ?_))
  have pre1 : pre75 ((l, ()), 1 + (P : Int), ()) := ⟨by dsimp only; omega, by dsimp only; omega, by dsimp only; omega⟩
  have pre2 : ∀ {L : List Int}, L.length = l.length + y4 → pre96 ((L, ()), (a : Int), (l.length : Int), y5, ()) := by
    intro L hL
    refine ⟨⟨by dsimp only; omega, by dsimp only; omega, by dsimp only; omega, by dsimp only; omega⟩, ?_⟩
    rw [e5]
    exact pntOk2 (by omega) (by omega)
  have hl4 : (l ++ zs y4).length = l.length + y4 := by simp
  rw [hPI, Int.toNat_natCast, Int.toNat_natCast]
  rw [Int.toNat_natCast] at e6
  (simp only [vcT, vcS])
  simp only [vcF]
  refine ⟨hm, by ((unfold InR; omega)), by rw [e2]; exact .inl rfl, fun h => ⟨hy3, by ((unfold InR; omega)), pre1, ⟨by omega, by rw [hl4]; omega⟩, Nat.zero_le _, hy3, pre2 (by rw [List.length_set, hl4]), ?_⟩, fun h => ⟨hy3, by ((unfold InR; omega)), pre1, ⟨by omega, by rw [hl4]; omega⟩, Nat.zero_le _, hy3, pre2 (by rw [e6, List.length_set, hl4]), ?_⟩⟩
  · rcases hok with q | ⟨_, q, _⟩
    · rw [Bool.and_eq_true, Bool.not_eq_true', decide_eq_false_iff_not] at q
      exact absurd (h q.1.1) (by simp [q.1.2])
    · rw [show (l ++ zs y4).set l.length (0 : Int) = (l ++ zs y4).set l.length (tagP y1.kids.length fw fk) by rw [← q], hset]
      exact loop
  · rcases hok with ⟨_, q⟩ | ⟨q, _⟩
    · rw [e6, q, hset]
      exact loop
    · rw [Bool.and_eq_false_imp] at q
      have := q h.1
      simp only [Bool.not_eq_false', decide_eq_true_eq] at this
      exact absurd this h.2

theorem c74_ : Contract Try.prog cfg 74 spec74 ∧ Contract Try.prog cfg 99 spec99 ∧ Contract Try.prog cfg 97 spec97 ∧ Contract Try.prog cfg 98 spec98 := make74_ c75 c96 c100 c1101 c119 c120 b74 b99 b97 b98
theorem c74 : Contract Try.prog cfg 74 spec74 := c74_.1

end Go.AM.Ythokdjgpdonhgaa

namespace Go.AM.Ythokdjgpdonhgaa
open Go.AM Go.Proofs

def args35 : ArgL (Tree × Int × Unit) := (.cons (aEl .tree) (.cons (aInt .i64) .nil))
def pre35 (a : Tree × Int × Unit) : Prop := mass a.1 ≤ 1000000 ∧ rng a.1
noncomputable def res35 (a : Tree × Int × Unit) : V U := .tup [(false, [.slice (U := U) .u64 ((encP a.1 a.2.1).1) .unk]), (false, [.bool ((encP a.1 a.2.1).2)])]
noncomputable def spec35 : Fs U := fs args35 (fun a => [pre35 a]) res35

def args34 : ArgL (Unit) := .nil
def pre34 (a : Unit) : Prop := True
noncomputable def res34 (a : Unit) : V U := .c (.bool true)
noncomputable def spec34 : Fs U := fs args34 (fun a => [pre34 a]) res34

def args6 : ArgL (Tree × Int × Unit) := (.cons (aEl .tree) (.cons (aInt .i64) .nil))
def pre6 (a : Tree × Int × Unit) : Prop := small a.1 ∧ rng a.1
noncomputable def res6 (a : Tree × Int × Unit) : V U := .c (.bool true)
noncomputable def spec6 : Fs U := fs args6 (fun a => [pre6 a]) res6

noncomputable def know35 : List (FuncId × Fs U) := [(71, spec71), (72, spec72), (73, spec73), (74, spec74), (75, spec1075)]
def lv35 : Lives U := fun i => match i with
  | 0 => ([(1, []), (2, [])], [((.loc 2), [])])
  | 1 => ([(1, []), (2, []), (16, [])], [((.loc 2), [])])
  | 2 => ([(4, []), (5, [])], [])
  | 3 => ([(1, []), (2, [])], [((.loc 2), [])])
  | 4 => ([(1, []), (2, []), (6, [])], [((.loc 2), [])])
  | 5 => ([(2, []), (27, [])], [((.loc 2), [])])
  | 6 => ([(4, []), (5, [])], [])
  | 7 => ([(2, []), (7, [])], [((.loc 2), []), ((.loc 29), [])])
  | 8 => ([(7, []), (8, [])], [((.loc 29), [])])
  | 9 => ([(4, []), (5, [])], [])
  | _ => ([], [])
noncomputable abbrev A35 (p : List Nat) := awp cfg (know know35) (drawOk cfg (know know35)) Try.f35.ntmps lv35 (cd Try.f35 p)
theorem vc35 (t : Tree) (most : Int) (Q : AExit → LSt U → Prop) (h : ∀ y_1, y_1 = (t) → ∀ y_2, y_2 = ((normT y_1)) → ((pre71 (y_1, ())) ∧ (Tr ((!(!(rightT y_1 64))) = true)) ∧ (Tr ((!(!(rightT y_1 64))) = true)) ∧ (((!(rightT y_1 64)) = false → (!(!(rightT y_1 64))) = true)) ∧ (((bif (!(rightT y_1 64)) then true else (((Tree.kind t) : Int) == 10)) = true → (Q .ret (⟨[(4, .c (.nils)), (5, .c (.bool false))], [], []⟩ : LSt U))) ∧ ((bif (!(rightT y_1 64)) then true else (((Tree.kind t) : Int) == 10)) = false → (pre72 (y_1, ())) ∧ ((pre73 (y_2, ())) ∧ ((Tr ((!(decide ((most : Int) ≤ (sizeN (normT y_2) : Int)))) = true)) ∧ (((decide ((most : Int) ≤ (sizeN (normT y_2) : Int))) = false → (!(decide ((most : Int) ≤ (sizeN (normT y_2) : Int)))) = true)) ∧ (((bif (decide ((most : Int) ≤ (sizeN (normT y_2) : Int))) then true else (decide ((131072 : Int) ≤ (sizeN (normT y_2) : Int)))) = true → (Q .ret (⟨[(4, .c (.nils)), (5, .c (.bool false))], [], []⟩ : LSt U))) ∧ ((bif (decide ((most : Int) ≤ (sizeN (normT y_2) : Int))) then true else (decide ((131072 : Int) ≤ (sizeN (normT y_2) : Int)))) = false → ((pre1075 ((([] : List Int), ()), 1, ())) ∧ (pre74 (((([] : List Int) ++ zs (Int.toNat 1)), ()), (([] : List Int).length : Int), y_2, ())) ∧ ((Q .ret (⟨[(4, .c (.slice (U := U) .u64 (layP (([] : List Int) ++ zs (Int.toNat 1)) (([] : List Int).length : Int) y_2) (.own (.e 4 0)))), (5, .c (.bool true))], [], []⟩ : LSt U)))))))))))) :
    A35 [] (⟨[(0, .agg [.int .i64 (Tree.kind t), .slice (U := U) .u64 (Tree.words t) .unk, .slice (U := U) .tree (Tree.kids t) .unk]), (1, .c (.int .i64 most))], [], []⟩ : LSt U) Q :=
  (Eq.mpr (by kernel_rfl) (h _ (reTree_eq _) _ (reTree_eq _)) :)
abbrev Body35 (t : Tree) (most : Int)  : Prop := awp cfg (know (know35)) (drawOk cfg (know (know35))) Try.f35.ntmps lv35 (cd Try.f35 []) (entry (args35.can (t, most, ())) []) (EndsQ cfg Try.f35.ntmps Try.f35.results.toList (res35 (t, most, ())) [])
theorem make35 (c71 : Contract Try.prog cfg 71 spec71) (c72 : Contract Try.prog cfg 72 spec72) (c73 : Contract Try.prog cfg 73 spec73) (c74 : Contract Try.prog cfg 74 spec74) (c1075 : Contract Try.prog cfg 75 spec1075) (hb : ∀ (t : Tree) (most : Int) (_ : Unit), pre35 (t, most, ()) → Body35 t most) : Contract Try.prog cfg 35 spec35 :=
  contract_flat (l := [(71, spec71), (72, spec72), (73, spec73), (74, spec74), (75, spec1075)]) cfgOk rfl (⟨c71, c72, c73, c74, c1075, trivial⟩) lv35 Try.func35 rfl rfl 2 (fun _ => rfl) (by decide) (fun ⟨t, most, _⟩ => hb t most ())

noncomputable def know34 : List (FuncId × Fs U) := [(35, spec35), (37, spec37)]
def lv34 : Lives U := fun i => match i with
  | 0 => ([], [])
  | 1 => ([(1, []), (2, [])], [])
  | 2 => ([(0, [])], [])
  | _ => ([], [])
noncomputable abbrev A34 (p : List Nat) := awp cfg (know know34) (drawOk cfg (know know34)) Try.f34.ntmps lv34 (cd Try.f34 p)
theorem vc34 (Q : AExit → LSt U → Prop) (h : ((pre35 ((Tree.mk 1 ([5]) ([(Tree.mk 8 ([]) ([(Tree.mk 0 ([]) ([]))]))])), 9, ())) ∧ ((Tr (((encP (Tree.mk 1 ([5]) ([(Tree.mk 8 ([]) ([(Tree.mk 0 ([]) ([]))]))])) 9).2) = true)) ∧ (Tr (((encP (Tree.mk 1 ([5]) ([(Tree.mk 8 ([]) ([(Tree.mk 0 ([]) ([]))]))])) 9).2) = true)) ∧ (((encP (Tree.mk 1 ([5]) ([(Tree.mk 8 ([]) ([(Tree.mk 0 ([]) ([]))]))])) 9).2) = true → pre37 (((encP (Tree.mk 1 ([5]) ([(Tree.mk 8 ([]) ([(Tree.mk 0 ([]) ([]))]))])) 9).1), ([281479271677952, 5, 60129542145, 0]), ())) ∧ ((Tr (((encP (Tree.mk 1 ([5]) ([(Tree.mk 8 ([]) ([(Tree.mk 0 ([]) ([]))]))])) 9).2) = true))) ∧ (Q .ret (⟨[(0, .c (.bool (bif ((encP (Tree.mk 1 ([5]) ([(Tree.mk 8 ([]) ([(Tree.mk 0 ([]) ([]))]))])) 9).2) then (decide (((encP (Tree.mk 1 ([5]) ([(Tree.mk 8 ([]) ([(Tree.mk 0 ([]) ([]))]))])) 9).1) = ([281479271677952, 5, 60129542145, 0]))) else false)))], [], []⟩ : LSt U))))) :
    A34 [] (⟨[], [], []⟩ : LSt U) Q :=
  (Eq.mpr (by kernel_rfl) h :)
abbrev Body34  : Prop := awp cfg (know (know34)) (drawOk cfg (know (know34))) Try.f34.ntmps lv34 (cd Try.f34 []) (entry (args34.can (())) []) (EndsQ cfg Try.f34.ntmps Try.f34.results.toList (res34 (())) [])
theorem make34 (c35 : Contract Try.prog cfg 35 spec35) (c37 : Contract Try.prog cfg 37 spec37) (hb : ∀ (_ : Unit), pre34 (()) → Body34 ) : Contract Try.prog cfg 34 spec34 :=
  contract_flat (l := [(35, spec35), (37, spec37)]) cfgOk rfl (⟨c35, c37, trivial⟩) lv34 Try.func34 rfl rfl 0 (fun _ => rfl) (by decide) (fun _ => hb  ())

noncomputable def know6 : List (FuncId × Fs U) := [(33, spec33), (34, spec34), (35, spec35), (36, spec36), (37, spec37)]
def lv6 : Lives U := fun i => match i with
  | 0 => ([(1, []), (2, [])], [((.loc 2), [])])
  | 1 => ([(1, []), (2, []), (11, [])], [((.loc 2), [])])
  | 2 => ([(4, [])], [])
  | 3 => ([(1, []), (2, []), (5, []), (6, [])], [((.loc 2), [])])
  | 4 => ([(5, []), (6, []), (7, []), (8, [])], [])
  | 5 => ([(4, [])], [])
  | _ => ([], [])
noncomputable abbrev A6 (p : List Nat) := awp cfg (know know6) (drawOk cfg (know know6)) Try.f6.ntmps lv6 (cd Try.f6 p)
theorem vc6 (t : Tree) (most : Int) (Q : AExit → LSt U → Prop) (h : ∀ y_1, y_1 = (t) → ((pre33 (y_1, ())) ∧ (((!(decide (0 ≤ shallow y_1 80 3000))) = true → (pre34 (())) ∧ (Q .ret (⟨[(4, .c (.bool true))], [], []⟩ : LSt U))) ∧ ((!(decide (0 ≤ shallow y_1 80 3000))) = false → (pre35 (y_1, most, ())) ∧ ((pre36 (y_1, most, ())) ∧ ((pre37 (((encP y_1 most).1), ((encP y_1 most).1), ())) ∧ (Tr ((decide (((encP y_1 most).1) = ((encP y_1 most).1))) = true)) ∧ (Tr ((decide (((encP y_1 most).1) = ((encP y_1 most).1))) = true)) ∧ ((Tr ((decide (((encP y_1 most).1) = ((encP y_1 most).1))) = true))) ∧ ((bif (decide (((encP y_1 most).1) = ((encP y_1 most).1))) then (((encP y_1 most).2) == ((encP y_1 most).2)) else false) = true → pre34 (())) ∧ ((Tr ((bif (decide (((encP y_1 most).1) = ((encP y_1 most).1))) then (((encP y_1 most).2) == ((encP y_1 most).2)) else false) = true))) ∧ (Q .ret (⟨[(4, .c (.bool (bif (bif (decide (((encP y_1 most).1) = ((encP y_1 most).1))) then (((encP y_1 most).2) == ((encP y_1 most).2)) else false) then true else false)))], [], []⟩ : LSt U)))))))) :
    A6 [] (⟨[(0, .agg [.int .i64 (Tree.kind t), .slice (U := U) .u64 (Tree.words t) .unk, .slice (U := U) .tree (Tree.kids t) .unk]), (1, .c (.int .i64 most))], [], []⟩ : LSt U) Q :=
  (Eq.mpr (by kernel_rfl) (h _ (reTree_eq _)) :)
abbrev Body6 (t : Tree) (most : Int)  : Prop := awp cfg (know (know6)) (drawOk cfg (know (know6))) Try.f6.ntmps lv6 (cd Try.f6 []) (entry (args6.can (t, most, ())) []) (EndsQ cfg Try.f6.ntmps Try.f6.results.toList (res6 (t, most, ())) [])
theorem make6 (c33 : Contract Try.prog cfg 33 spec33) (c34 : Contract Try.prog cfg 34 spec34) (c35 : Contract Try.prog cfg 35 spec35) (c36 : Contract Try.prog cfg 36 spec36) (c37 : Contract Try.prog cfg 37 spec37) (hb : ∀ (t : Tree) (most : Int) (_ : Unit), pre6 (t, most, ()) → Body6 t most) : Contract Try.prog cfg 6 spec6 :=
  contract_flat (l := [(33, spec33), (34, spec34), (35, spec35), (36, spec36), (37, spec37)]) cfgOk rfl (⟨c33, c34, c35, c36, c37, trivial⟩) lv6 Try.func6 rfl rfl 2 (fun _ => rfl) (by decide) (fun ⟨t, most, _⟩ => hb t most ())

end Go.AM.Ythokdjgpdonhgaa

namespace Go.AM.Ythokdjgpdonhgaa
open Go.AM Go.Proofs

def Has (A : List Int) (to : Int) (b : List Int) : Prop := ∃ p s, A = p ++ (b ++ s) ∧ (p.length : Int) = to


end Go.AM.Ythokdjgpdonhgaa

namespace Go.AM.Ythokdjgpdonhgaa
open Go.AM Go.Proofs

theorem lay_self {n : Tree} {d : Int} (hr : rightT n d = true) (h10 : n.kind ≠ 10) :
    (layP [0] 0 n).length = sizeN n + 1 ∧ (layP [0] 0 n).getD 0 0 = headP 0 1 n ∧ Has (layP [0] 0 n) 1 (blkP n 1) := by
  have hb := blkP_len n d 1 hr h10
  unfold layP
  by_cases h0 : n.kind = 0
  · have rt := riT' hr
    have e := rt.nil h0
    have hs : sizeN n = 0 := by rw [size_eq, if_neg (by omega), if_neg (by omega), if_neg (by omega), if_neg (by omega), e.2]; rfl
    have hbl : blkP n 1 = [] := List.length_eq_zero_iff.1 (by omega)
    rw [if_pos h0, hs, hbl]
    refine ⟨rfl, ?_, ⟨[0], [], rfl, rfl⟩⟩
    rw [head_eq, if_pos h0]
    rfl
  · rw [if_neg h0]
    refine ⟨?_, rfl, ⟨[headP 0 1 n], [], by simp, rfl⟩⟩
    rw [List.length_append, List.length_set]
    show 1 + (blkP n 1).length = _
    omega

theorem enc_yes {t : Tree} {m : Int} (h : (encP t m).2 = true) : rightT t 64 = true ∧ t.kind ≠ 10 ∧ (sizeN (normT t) : Int) < m ∧ sizeN (normT t) < 131072 ∧ encP t m = (layP [0] 0 (normT t), true) := by
  unfold encP at h ⊢
  split at h
  · rename_i h1
    rw [if_pos h1]
    split at h
    · rename_i h2
      rw [if_pos h2]
      exact ⟨h1.1, h1.2, h2.1, h2.2, rfl⟩
    · cases h
  · cases h
theorem enc_no {t : Tree} {m : Int} (h : (encP t m).2 = false) : encP t m = ([], false) := by
  unfold encP at h ⊢
  split
  · rename_i h1
    rw [if_pos h1] at h
    split
    · rename_i h2
      rw [if_pos h2] at h
      cases h
    · rfl
  · rfl
theorem enc_len (t : Tree) (m : Int) : (encP t m).1.length ≤ 131072 := by
  cases h : (encP t m).2 with
  | false => rw [enc_no h]; simp
  | true =>
    obtain ⟨h1, h2, _, h4, h5⟩ := enc_yes h
    rw [h5]
    have := (lay_self (rightT_norm _ _ h1) (by rw [normT_kind]; exact h2)).1
    dsimp only
    omega

end Go.AM.Ythokdjgpdonhgaa

namespace Go.AM.Ythokdjgpdonhgaa
open Go.AM Go.Proofs

theorem c35 : Contract Try.prog cfg 35 spec35 := by
  refine make35 c71 c72 c73 c74 c1075 ?_
  intro t most _ hp
  obtain ⟨hm, hg⟩ := hp
  dsimp only at hm hg
  have no : ¬(rightT t 64 = true ∧ t.kind ≠ 10 ∧ (sizeN (normT t) : Int) < most ∧ sizeN (normT t) < 131072) → EndsQ cfg Try.f35.ntmps Try.f35.results.toList (res35 (t, most, ())) [] .ret (⟨[(4, .c (.nils)), (5, .c (.bool false))], [], []⟩ : LSt U) := by
    intro h
    refine ends_eq (r' := .tup [(false, [.slice (U := U) .u64 [] .unk]), (false, [.bool false])]) ?_ (by (repeat' (first | exact trivial | exact rfl | refine And.intro ?_ ?_)))
    simp only [res35]
    unfold encP
    split
    · rw [if_neg (by rename_i h2; exact fun h3 => h ⟨h2.1, h2.2, h3⟩)]
    · rfl
  have hn := normT_mass t
  refine vc35 _ _ _ ?_
  rintro y1 rfl y2 rfl
  rw [normT_idem]
  (simp only [vcT, vcS])
  have q1 : mass y1 ≤ 1000000000000 := by omega
  have q2 : mass (normT y1) ≤ 1000000 := by omega
  refine ⟨⟨hm, hg⟩, fun h => no (fun h2 => ?_), fun h => ⟨q1, ⟨q2, 64, rightT_norm _ _ h.1⟩, fun h2 => no (fun h3 => ?_), fun h2 => ⟨⟨rfl, by decide, by decide⟩, ⟨⟨Int.le_refl _, by dsimp only; simp [zs], by dsimp only; simp [zs]; omega⟩, ⟨q2, rng_norm _ hg⟩, ?_, 64, rightT_norm _ _ h.1⟩, ?_⟩⟩⟩
  · rcases h with h | h
    · rw [h2.1] at h; cases h
    · exact h2.2.1 h
  · omega
  · dsimp only
    rw [normT_kind]
    exact h.2
  · refine ends_eq (r' := .tup [(false, [.slice (U := U) .u64 (layP [0] 0 (normT y1)) .unk]), (false, [.bool true])]) ?_ (by (repeat' (first | exact trivial | exact rfl | refine And.intro ?_ ?_)))
    simp only [res35]
    unfold encP
    rw [if_pos ⟨h.1, h.2⟩, if_pos (by omega)]

theorem c34 : Contract Try.prog cfg 34 spec34 := by
  refine make34 c35 c37 ?_
  rintro _ hp
  have e : encP (Tree.mk 1 [5] [Tree.mk 8 [] [Tree.mk 0 [] []]]) 9 = ([281479271677952, 5, 60129542145, 0], true) := by rfl
  refine vc34 _ ?_
  rw [e]
  (simp only [vcT, vcS])
  refine ⟨⟨by decide, ?_⟩, by show (_ : Nat) ≤ _; decide, ?_⟩
  · refine ⟨by decide, ?_, ⟨by decide, ?_, ⟨by decide, ?_, trivial⟩, trivial⟩, trivial⟩
    all_goals (intro x hx; simp at hx; try omega)
  · (repeat' (first | exact trivial | exact rfl | refine And.intro ?_ ?_))

theorem few_mass {t : Tree} (h : 0 ≤ shallow t 80 3000) : mass t ≤ 1000000 := by
  have := shallow_mass t 80 3000 h
  omega

theorem c6 : Contract Try.prog cfg 6 spec6 := by
  refine make6 c33 c34 c35 c36 c37 ?_
  intro t most _ hp
  obtain ⟨hs, hg⟩ := hp
  dsimp only at hs hg
  refine vc6 _ _ _ ?_
  rintro y1 rfl
  (simp only [vcT, vcS])
  have hl := enc_len y1 most
  refine ⟨hs, fun h => ⟨trivial, ends_bool rfl rfl⟩, fun h => ?_⟩
  have hm := few_mass h
  refine ⟨⟨hm, hg⟩, ⟨hm, hg⟩, by show (_ : Nat) ≤ _; dsimp only; omega, trivial, ends_bool rfl ?_⟩
  simp

end Go.AM.Ythokdjgpdonhgaa
