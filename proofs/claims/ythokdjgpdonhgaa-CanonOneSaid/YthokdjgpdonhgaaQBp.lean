import Derived.Test.YthokdjgpdonhgaaQBn
import Derived.Test.YthokdjgpdonhgaaQBi
import Derived.Test.YthokdjgpdonhgaaQBb
import Derived.Test.YthokdjgpdonhgaaQD8
set_option linter.unusedSimpArgs false
set_option linter.unusedVariables false
namespace Go.AM.Ythokdjgpdonhgaa
open Go.AM Go.Proofs

theorem zsAt_mk (A S : List Int) (n : Nat) : zsAt (A ++ (zs n ++ S)) A.length n := ⟨A, S, rfl, rfl⟩
theorem take_mk (A B : List Int) {a : Nat} (h : A.length = a) : (A ++ B).take a = A := by rw [← h, List.take_left]
theorem drop_mk (A B : List Int) {a : Nat} (h : A.length = a) : (A ++ B).drop a = B := by rw [← h, List.drop_left]

theorem strR_mk {X Y : List Int} {fw : Nat} {t : Tree} {a : Nat} (ha : X.length = a) (hw : t.words.length ≤ fw) (n : Nat) :
    strR (X ++ (zs (fw + (t.kids.length + n)) ++ Y)) a fw t = X ++ (t.words ++ (zs (fw - t.words.length) ++ ((kidsP t.kids ((a : Int) + fw) (X ++ (zs (fw + (t.kids.length + n)) ++ Y)).length).1 ++ (zs n ++ (Y ++ (kidsP t.kids ((a : Int) + fw) (X ++ (zs (fw + (t.kids.length + n)) ++ Y)).length).2))))) := by
  generalize hP : kidsP t.kids ((a : Int) + fw) (X ++ (zs (fw + (t.kids.length + n)) ++ Y)).length = P
  unfold strR
  rw [hP, Int.toNat_natCast, Int.toNat_natCast, take_mk _ _ ha]
  have e : X ++ (zs (fw + (t.kids.length + n)) ++ Y) = (X ++ zs (fw + t.kids.length)) ++ (zs n ++ Y) := by
    rw [← Nat.add_assoc, zs_add (fw + t.kids.length) n]
    simp only [List.append_assoc]
  rw [e, drop_mk (a := a + fw + t.kids.length) _ _ (by rw [List.length_append, zs_len]; omega)]
  simp only [List.append_assoc]

theorem row_str {A : List Int} {fw fk : Nat} {ks : List Tree} (h : Fit fw fk ks) {i : Nat} (hi : i < ks.length) :
    zsAt (rowSt A (zs ((ks.length - i) * (fw + fk))) fw fk ks i) (A.length + i * (fw + fk)) (fw + (ks.getD i Tree.nil).kids.length) ∧
      strR (rowSt A (zs ((ks.length - i) * (fw + fk))) fw fk ks i) ((A.length + i * (fw + fk) : Nat) : Int) fw (ks.getD i Tree.nil) = rowSt A (zs ((ks.length - (i + 1)) * (fw + fk))) fw fk ks (i + 1) := by
  have hf := h.get hi
  have hall := row_all (A := A) (R := zs ((ks.length - (i + 1)) * (fw + fk))) h hi (zs_len _)
  have hz := row_zero (A := A) (R := zs ((ks.length - (i + 1)) * (fw + fk))) h hi 0
  have hAl := rowA_len (A := A) h hi
  have hSl := rowS_len (A := A) (R := zs ((ks.length - (i + 1)) * (fw + fk))) h hi (zs_len _)
  generalize hk : ks.getD i Tree.nil = t at *
  have ez : (ks.length - i) * (fw + fk) = fw + (t.kids.length + ((fk - t.kids.length) + (ks.length - (i + 1)) * (fw + fk))) := by
    have : (ks.length - i) * (fw + fk) = (ks.length - (i + 1)) * (fw + fk) + (fw + fk) := by rw [← Nat.succ_mul]; congr 1; omega
    omega
  have eL : rowSt A (zs ((ks.length - i) * (fw + fk))) fw fk ks i = (A ++ (rowsP fw fk (ks.take i) A.length (A.length + ks.length * (fw + fk) : Nat)).1) ++ (zs (fw + (t.kids.length + ((fk - t.kids.length) + (ks.length - (i + 1)) * (fw + fk)))) ++ (rowsP fw fk (ks.take i) A.length (A.length + ks.length * (fw + fk) : Nat)).2) := by
    unfold rowSt
    rw [ez]
    simp only [List.append_assoc]
  have eX : (A ++ (rowsP fw fk (ks.take i) A.length (A.length + ks.length * (fw + fk) : Nat)).1).length = A.length + i * (fw + fk) := by
    rw [List.length_append, rowsP_len _ _ _ (h.take i), List.length_take, Nat.min_eq_left (Nat.le_of_lt hi)]
  constructor
  · rw [eL, ← eX, ← Nat.add_assoc fw, zs_add]
    have := zsAt_mk (A ++ (rowsP fw fk (ks.take i) A.length (A.length + ks.length * (fw + fk) : Nat)).1) (zs ((fk - t.kids.length) + (ks.length - (i + 1)) * (fw + fk)) ++ (rowsP fw fk (ks.take i) A.length (A.length + ks.length * (fw + fk) : Nat)).2) (fw + t.kids.length)
    rwa [← List.append_assoc (zs _)] at this
  · have hlen : ((A ++ (rowsP fw fk (ks.take i) A.length (A.length + ks.length * (fw + fk) : Nat)).1) ++ (zs (fw + (t.kids.length + ((fk - t.kids.length) + (ks.length - (i + 1)) * (fw + fk)))) ++ (rowsP fw fk (ks.take i) A.length (A.length + ks.length * (fw + fk) : Nat)).2)).length = (rowA A fw fk ks i).length + t.kids.length + (rowS A (zs ((ks.length - (i + 1)) * (fw + fk))) fw fk ks i).length := by
      rw [hSl, List.length_append, eX, List.length_append, zs_len]
      have : ks.length * (fw + fk) = i * (fw + fk) + (ks.length - i) * (fw + fk) := by rw [← Nat.add_mul]; congr 1; omega
      omega
    rw [eL, strR_mk eX hf.1, hlen, ← hall, kidsSt_all, hAl]
    unfold rowA rowS
    rw [hk, zs_add (fk - t.kids.length)]
    simp only [List.append_assoc, Int.natCast_add]

theorem cpL_mk {X Y w : List Int} {n : Nat} {a : Nat} (ha : X.length = a) (hw : w.length ≤ n) : cpL (X ++ (zs n ++ Y)) a w = X ++ (w ++ (zs (n - w.length) ++ Y)) := by
  unfold cpL
  have e : X ++ (zs n ++ Y) = (X ++ zs w.length) ++ (zs (n - w.length) ++ Y) := by
    rw [show n = w.length + (n - w.length) by omega, zs_add]
    simp only [List.append_assoc, show w.length + (n - w.length) - w.length = n - w.length by omega]
  rw [take_mk _ _ ha, List.take_of_length_le (by simp only [List.length_append, zs_len]; omega)]
  conv => lhs; rw [e]
  rw [drop_mk (a := a + w.length) _ _ (by rw [List.length_append, zs_len]; omega)]

theorem set_left {l b : List Int} {a : Nat} (h : a < l.length) (x : Int) : (l ++ b).set a x = l.set a x ++ b := List.set_append_left _ _ h

theorem b99 : HB99 := by
  intro N l at_ t _ hp hN
  obtain ⟨⟨h1, h2, h3⟩, ⟨hm, hg⟩, hK⟩ := hp
  dsimp only at h1 h2 h3 hm hg hK
  have hN : 4 * mass t + 1 < N + 1 := hN
  obtain ⟨a, rfl⟩ := Int.eq_ofNat_of_zero_le h1
  rw [Int.toNat_natCast] at h3
  have hk := kids_le t
  obtain ⟨s1, s2, s3⟩ := zsAt_split h3
  have hl := kidsR_len h3
  refine vc99 _ _ _ _ _ ?_
  refine loop_rule (ι := Int) (fun p => head99_0 l a t p (kidsSt (l.take a) (l.drop (a + t.kids.length)) t.kids l.length p.toNat)) (fun p => 0 ≤ p ∧ p ≤ t.kids.length) (fun p => ((t.kids.length : Int) - p).toNat) 0 (by rw [show (0 : Int).toNat = 0 from rfl, kidsR_zero h3]) ⟨by omega, by omega⟩ ?_
  rintro i ⟨g1, g2⟩
  refine vc99_l0 _ _ _ _ _ _ _ _ ?_
  (simp only [vcT, vcS])
  simp only [Tree.eta, vcF]
  refine ⟨fun hi => ?_, fun hi => ?_⟩
  · have m1 := kid_mass (t := t) (i := i.toNat) (by omega)
    have m4 := mem_getD (l := t.kids) (i := i.toNat) (by omega) Tree.nil
    obtain ⟨p1, p2⟩ := kst_pre (A := l.take a) (S := l.drop (a + t.kids.length)) (ks := t.kids) (to := l.length) (i := i.toNat) (by omega) hK (by rw [hl]; exact h2)
    rw [s2] at p1
    have st := kidsR_step h3 (i := i.toNat) (by omega)
    refine ⟨⟨g1, hi⟩, ?_, ⟨⟨?_, ?_, ?_⟩, ⟨?_, kid_rng hg m4⟩, (hK _ m4).1, (hK _ m4).2⟩, ?_, by ((unfold InR; omega)), i + 1, ?_, ⟨by omega, by omega⟩, by omega⟩
    · show InR ((a : Int) + i); ((unfold InR; omega))
    · show 0 ≤ (a : Int) + i; omega
    · show (a : Int) + i < ((kidsSt (l.take a) (l.drop (a + t.kids.length)) t.kids l.length i.toNat).length : Nat); omega
    · exact p2
    · show mass (t.kids.getD i.toNat Tree.nil) ≤ 1000000; omega
    · show 4 * mass (t.kids.getD i.toNat Tree.nil) + 3 < N; omega
    · rw [show (i + 1).toNat = i.toNat + 1 by omega, ← st, show ((i.toNat : Nat) : Int) = i by omega]
  · have e : i = t.kids.length := by omega
    subst e
    rw [Int.toNat_natCast, kidsR_all h3]
    (repeat' (first | exact trivial | exact rfl | refine And.intro ?_ ?_))

theorem b97 : HB97 := by
  intro N l at_ n t _ hp hN
  obtain ⟨⟨⟨h1, h4⟩, h2, h3⟩, ⟨hm, hg⟩, hK⟩ := hp
  dsimp only at h1 h2 h3 h4 hm hg hK
  have hN : 4 * mass t + 2 < N + 1 := hN
  obtain ⟨a, rfl⟩ := Int.eq_ofNat_of_zero_le h1
  obtain ⟨m, rfl⟩ := Int.eq_ofNat_of_zero_le (show 0 ≤ n by omega)
  rw [Int.toNat_natCast, Int.toNat_natCast] at h3
  have h4 : t.words.length ≤ m := by have : (t.words.length : Int) ≤ (m : Int) := h4; omega
  obtain ⟨X, Y, rfl, ha⟩ := h3
  have hlen : (X ++ (zs (m + t.kids.length) ++ Y)).length = a + (m + t.kids.length) + Y.length := by simp only [List.length_append, zs_len]; omega
  have ecp : cpL (X ++ (zs (m + t.kids.length) ++ Y)) a t.words = (X ++ (t.words ++ zs (m - t.words.length))) ++ (zs t.kids.length ++ Y) := by
    rw [cpL_mk ha (by omega), show m + t.kids.length - t.words.length = (m - t.words.length) + t.kids.length by omega, zs_add]
    simp only [List.append_assoc]
  have eX : (X ++ (t.words ++ zs (m - t.words.length))).length = a + m := by simp only [List.length_append, zs_len]; omega
  have hl2 : ((X ++ (t.words ++ zs (m - t.words.length))) ++ (zs t.kids.length ++ Y)).length = (X ++ (zs (m + t.kids.length) ++ Y)).length := by
    rw [hlen, List.length_append, eX]; simp only [List.length_append, zs_len]; omega
  have hz : zsAt ((X ++ (t.words ++ zs (m - t.words.length))) ++ (zs t.kids.length ++ Y)) (a + m) t.kids.length := by rw [← eX]; exact zsAt_mk _ _ _
  have eres : kidsR ((X ++ (t.words ++ zs (m - t.words.length))) ++ (zs t.kids.length ++ Y)) ((a : Int) + m) t = strR (X ++ (zs (m + t.kids.length) ++ Y)) a m t := by
    have := strR_mk (X := X) (Y := Y) (fw := m) (t := t) ha h4 0
    rw [Nat.add_zero] at this
    rw [this]
    unfold kidsR
    rw [hl2, show ((a : Int) + m).toNat = a + m by omega, take_mk _ _ eX, ← List.append_assoc _ (zs t.kids.length) Y, drop_mk (a := a + m + t.kids.length) _ _ (by rw [List.length_append, eX, zs_len])]
    simp [zs]
  refine vc97 N (X ++ (zs (m + t.kids.length) ++ Y)) a m t _ ?_
  simp only [Tree.eta]
  rw [Int.toNat_natCast, ecp]
  refine ⟨⟨by omega, by rw [hlen]; omega⟩, Nat.zero_le _, ?_, ⟨⟨?_, ?_, ?_⟩, ⟨hm, hg⟩, hK⟩, ?_, ?_⟩
  · show InR ((a : Int) + m)
    rw [hlen] at h2
    ((unfold InR; omega))
  · show 0 ≤ (a : Int) + m; omega
  · show ((X ++ (t.words ++ zs (m - t.words.length))) ++ (zs t.kids.length ++ Y)).length + _ ≤ _; rw [hl2]; exact h2
  · show zsAt _ ((a : Int) + m).toNat _
    rw [show ((a : Int) + m).toNat = a + m by omega]
    exact hz
  · show 4 * mass t + 1 < N; omega
  · rw [eres]
    (repeat' (first | exact trivial | exact rfl | refine And.intro ?_ ?_))

theorem pnt_head1 {a to : Int} {t : Tree} (k1 : t.kind = 1) : pntW a to (Ptr.mk 1 0 (t.words.length : Int) (t.kids.length : Int) 0 0 0 false) = headP a to t := by
  rw [head_eq, if_neg (by omega), if_pos k1]
  unfold pntW
  dsimp only
  rw [if_pos rfl]
  congr 1
  split <;> split <;> omega
theorem pnt_head {a to : Int} {c n : Int} : pntW a to (Ptr.mk 2 0 0 0 c n 0 false) = ptrP a to 1 (c + 8 * n) := by
  unfold pntW
  dsimp only
  rw [if_neg (by decide)]
theorem pntOk1 {o d p : Int} (hd : 0 ≤ d ∧ d < 65536) (hp : 0 ≤ p ∧ p < 65536) : pntOk (Ptr.mk 1 o d p 0 0 0 false) := ⟨.inl ⟨rfl, hd, hp, rfl, rfl⟩, rfl, rfl⟩
theorem pntOk2 {o c n : Int} (hc : 0 ≤ c ∧ c < 8) (hn : 0 ≤ n ∧ n < 536870912) : pntOk (Ptr.mk 2 o 0 0 c n 0 false) := ⟨.inr ⟨rfl, rfl, rfl, hc, hn⟩, rfl, rfl⟩

set_option maxHeartbeats 1000000 in
theorem b74 : HB74 := by
  intro N l at_ t _ hp hN
  obtain ⟨⟨h1, h2, h3⟩, ⟨hm, hg⟩, h10, d, hr⟩ := hp
  dsimp only at h1 h2 h3 hm hg h10 hr
  have hN : 4 * mass t + 3 < N + 1 := hN
  obtain ⟨a, rfl⟩ := Int.eq_ofNat_of_zero_le h1
  have h2 : a < l.length := by have : (a : Int) < l.length := h2; omega
  have rt := riT' hr
  have hk := kids_le t
  have hkr := rt.kind
  have hlen := rt.len
  have fin : ∀ {L : List Int}, L = layP l a t → EndsQL cfg Try.f74.ntmps Try.f74.results.toList (res74 ((l, ()), (a : Int), t, ())) (resX74 ((l, ()), (a : Int), t, ())) (resL74 ((l, ()), (a : Int), t, ())) .ret (⟨[(6, .c (.bool true))], [((.x 0), [.mref (.x 0 0)])], [(.x 0 0, LC.mk (U := U) .u64 L 0)]⟩ : LSt U) := by
    rintro L rfl
    (repeat' (first | exact trivial | exact rfl | refine And.intro ?_ ?_))
  have lay : ∀ {h : Int} {b : List Int}, t.kind ≠ 0 → headP a l.length t = h → blkP t l.length = b → l.set a h ++ b = layP l a t := by
    rintro h b h0 rfl rfl
    unfold layP
    rw [if_neg h0]
    rfl
  refine vc74 N l a t _ ?_
  rintro y1 rfl y2 e2 y3 e3 y4 e4
  (simp only [vcT, vcS])
  simp only [vcF, Int.toNat_natCast]
  refine ⟨fun k0 => fin (by unfold layP; rw [if_pos k0]), fun k0 => ⟨fun k1 => ?_, fun k1 => ⟨fun k9 => ?_, fun k9 => ⟨fun k8 => ?_, fun k8 => ?_⟩⟩⟩⟩
  · have hs := rt.stru k1
    have sz := size_eq y1
    rw [if_pos k1] at sz
    have hb := blk_eq y1 l.length
    rw [if_neg k0, if_pos k1] at hb
    have kOk := rt.kidsOk (.inl k1)
    have e2 : y2 = y1.words.length + (y1.kids.length + 0) := by omega
    rw [e3, pnt_head1 k1, set_left h2, e2]
    have hls : (l.set a (headP a l.length y1)).length = l.length := by simp
    have hz : l.set a (headP a l.length y1) ++ zs (y1.words.length + (y1.kids.length + 0)) = l.set a (headP a l.length y1) ++ (zs (y1.words.length + (y1.kids.length + 0)) ++ []) := by simp
    have hst := strR_mk (X := l.set a (headP a l.length y1)) (Y := []) (fw := y1.words.length) (t := y1) hls (Nat.le_refl _) 0
    rw [← hz] at hst
    rw [hst]
    refine ⟨by ((unfold InR; omega)), ⟨by dsimp only; omega, by dsimp only; omega, by dsimp only; omega⟩, ⟨⟨by dsimp only; omega, ?_, by dsimp only; omega, by dsimp only; omega⟩, pntOk1 (by omega) (by omega)⟩, ⟨⟨⟨by dsimp only; omega, by dsimp only; omega⟩, ?_, ?_⟩, ⟨hm, hg⟩, kOk⟩, ?_, fin ?_⟩
    · dsimp only; rw [List.length_append, zs_len]; omega
    · dsimp only; rw [List.length_append, hls, zs_len]; omega
    · dsimp only
      rw [Int.toNat_natCast, Int.toNat_natCast, hz]
      have := zsAt_mk (l.set a (headP a l.length y1)) [] (y1.words.length + (y1.kids.length + 0))
      rw [hls] at this
      exact this
    · show 4 * mass y1 + 2 < N; omega
    · rw [← lay k0 rfl hb, Nat.sub_self, List.length_append, hls, zs_len]
      simp [zs, Int.add_assoc]
  · refine ⟨⟨⟨h1, by dsimp only; omega, h3⟩, ⟨hm, hg⟩, h10, d, hr, k9⟩, ?_, fin rfl⟩
    show 4 * mass y1 + 2 < N
    omega
  · have sz := size_eq y1
    rw [if_neg k1, if_pos k8] at sz
    have hh := head_eq a l.length y1
    rw [if_neg k0, if_neg k1, if_pos k8] at hh
    have hb := blk_eq y1 l.length
    rw [if_neg k0, if_neg k1, if_pos k8] at hb
    have kOk := rt.kidsOk (.inr k8)
    rw [e4, pnt_head, ← hh, set_left h2]
    have hls : (l.set a (headP a l.length y1)).length = l.length := by simp
    have hz : l.set a (headP a l.length y1) ++ zs y1.kids.length = l.set a (headP a l.length y1) ++ (zs y1.kids.length ++ []) := by simp
    refine ⟨⟨by dsimp only; omega, by dsimp only; omega, by dsimp only; omega⟩, ⟨⟨by dsimp only; omega, ?_, by dsimp only; omega, by dsimp only; omega⟩, pntOk2 (by omega) (by omega)⟩, ⟨⟨by dsimp only; omega, ?_, ?_⟩, ⟨hm, hg⟩, kOk⟩, ?_, fin ?_⟩
    · dsimp only; rw [List.length_append, zs_len]; omega
    · dsimp only; rw [List.length_append, hls, zs_len]; omega
    · dsimp only
      rw [Int.toNat_natCast, hz]
      have := zsAt_mk (l.set a (headP a l.length y1)) [] y1.kids.length
      rw [hls] at this
      exact this
    · show 4 * mass y1 + 1 < N; omega
    · rw [← lay k0 rfl hb]
      unfold kidsR
      rw [Int.toNat_natCast, take_mk _ _ hls, List.drop_of_length_le (by rw [List.length_append, hls, zs_len]; omega), List.length_append, hls, zs_len]
      simp
  · have hk27 : 2 ≤ y1.kind ∧ y1.kind ≤ 7 := by omega
    obtain ⟨hfit, hat⟩ := rt.data hk27.1 hk27.2
    have sz := size_eq y1
    rw [if_neg k1, if_neg k8, if_neg k9, if_pos hk27] at sz
    have hh := head_eq a l.length y1
    rw [if_neg k0, if_neg k1, if_neg k8, if_neg k9] at hh
    have hb := blk_eq y1 l.length
    rw [if_neg k0, if_neg k1, if_neg k8, if_neg k9] at hb
    have hnl : (numsP y1.kids).length = y1.kids.length := by rw [numsP, List.length_map]
    have hnW : okW (numsP y1.kids) := by
      intro x hx
      obtain ⟨t', ht', rfl⟩ := List.mem_map.1 hx
      have := kid_rng hg ht'
      obtain ⟨k', w', l'⟩ := t'
      rw [rng] at this
      exact getD_word this.2.1 0
    have hpl : (putW (y1.kind - 2) (numsP y1.kids)).length = sizeN y1 := by rw [putW_len, hnl, sz]
    refine ⟨by ((unfold InR; omega)), ?_⟩
    refine loop_rule (ι := Int × List Int) (fun p => head74_0 l a y1 p.1 p.2) (fun p => 0 ≤ p.1 ∧ p.1 ≤ y1.kids.length ∧ p.2 = numsP (y1.kids.take p.1.toNat)) (fun p => ((y1.kids.length : Int) - p.1).toNat) (0, []) rfl ⟨by dsimp only; omega, by dsimp only; omega, rfl⟩ ?_
    rintro ⟨i, m⟩ ⟨g1, g2, g3⟩
    dsimp only at g1 g2 g3
    subst g3
    refine vc74_l0 _ _ _ _ _ _ _ _ ?_
    rintro z1 q1 z2 q2 z3 rfl
    (simp only [vcT, vcS])
    refine ⟨fun hi => ?_, fun hi => ?_⟩
    · have hl : (numsP (y1.kids.take i.toNat)).length ≤ y1.kids.length := by rw [numsP, List.length_map, List.length_take]; omega
      refine ⟨⟨g1, hi⟩, trivial, ?_, by ((unfold InR; omega)), (i + 1, _), rfl, ⟨by dsimp only; omega, by dsimp only; omega, ?_⟩, by dsimp only; omega⟩
      · simp only [List.length_singleton]
        omega
      · dsimp only
        rw [takeI g1 hi, numsP, numsP, List.map_append, q1]
        rfl
    · have e : i = y1.kids.length := by omega
      subst e
      simp only [Int.toNat_natCast, List.take_length] at q2 ⊢
      have ecp : cpL (l ++ zs z2) l.length (putW (y1.kind - 2) (numsP y1.kids)) = l ++ putW (y1.kind - 2) (numsP y1.kids) := by
        have := cpL_mk (X := l) (Y := []) (w := putW (y1.kind - 2) (numsP y1.kids)) (n := z2) rfl (by omega)
        rw [List.append_nil] at this
        rw [this, q2]
        simp [zs]
      rw [ecp, pnt_head, set_left h2, ← hh]
      refine ⟨⟨⟨hnW, by dsimp only; omega⟩, hfit⟩, ⟨by dsimp only; omega, by dsimp only; omega, by dsimp only; omega⟩, ⟨by omega, by rw [List.length_append]; omega⟩, Nat.zero_le _, ⟨⟨by dsimp only; omega, by dsimp only; rw [List.length_append]; omega, by dsimp only; omega, by dsimp only; omega⟩, pntOk2 (by omega) (by omega)⟩, fin ?_⟩
      have : blkP y1 l.length = putW (y1.kind - 2) (numsP y1.kids) := by
        rw [hb]
        unfold putR
        rw [if_pos hfit]
      exact lay k0 rfl this

set_option maxHeartbeats 1000000 in
theorem b98 : HB98 := by
  intro N l at_ t _ hp hN
  obtain ⟨⟨h1, h2, h3⟩, ⟨hm, hg⟩, h10, d, hr, k9⟩ := hp
  dsimp only at h1 h2 h3 hm hg h10 hr k9
  have hN : 4 * mass t + 2 < N + 1 := hN
  obtain ⟨a, rfl⟩ := Int.eq_ofNat_of_zero_le h1
  have h2 : a < l.length := by have : (a : Int) < l.length := h2; omega
  have rt := riT' hr
  have hk := kids_le t
  have hlen := rt.len
  rw [k9] at rt
  have rows := rt.rows
  have hfr := fr_lt fun t ht => (rows t ht).2.2
  have hfit : Fit (frW t.kids) (frK t.kids) t.kids := fun t ht => frW_le ht
  have hfm := fr_mass t.kids
  have sz := size_eq t
  rw [if_neg (by omega), if_neg (by omega), if_pos k9] at sz
  have hh := head_eq a l.length t
  rw [if_neg (by omega), if_neg (by omega), if_neg (by omega), if_pos k9] at hh
  have hb := blk_eq t l.length
  rw [if_neg (by omega), if_neg (by omega), if_neg (by omega), if_pos k9] at hb
  refine vc98 N l a t _ ?_
  rintro y1 rfl y2 e2 y3 e3 y4 e4 y5 e5 y6 e6
  have fz : y1.kids.length = 0 → frW y1.kids = 0 ∧ frK y1.kids = 0 := fun h => by
    rw [List.length_eq_zero_iff.1 h]; exact ⟨rfl, rfl⟩
  generalize hfw : frW y1.kids = fw at *
  generalize hfk : frK y1.kids = fk at *
  obtain ⟨P, hP⟩ : ∃ P, P = y1.kids.length * (fw + fk) := ⟨_, rfl⟩
  have hPI : (y1.kids.length : Int) * ((fw : Int) + fk) = P := by rw [hP, Int.natCast_mul, Int.natCast_add]
  rw [← hP] at sz hh hb
  rw [hPI] at e3 e4 e5
  have hy4 : y4 = 1 + P := by omega
  have hy3 : y3 := by rw [e3]; ((unfold InR; omega))
  -- the tag
  have hok : (eqP (decP (encW y2)) y2 && !decide (y2.kind = 4)) = true ∧ encW y2 = tagP y1.kids.length fw fk ∨ (eqP (decP (encW y2)) y2 && !decide (y2.kind = 4)) = false ∧ 0 = tagP y1.kids.length fw fk ∧ y1.kids.length = 0 ∧ fw = 0 ∧ fk = 0 := by
    have hen : encW y2 = tagP y1.kids.length fw fk := by
      rw [e2]
      unfold encW
      dsimp only
      rw [if_pos rfl, if_pos ⟨by omega, by omega, by omega⟩]
      unfold tagP
      omega
    by_cases hz : y1.kids.length = 0
    · right
      obtain ⟨z1, z2⟩ := fz hz
      subst z1 z2
      rw [e2, hz]
      exact ⟨by decide +kernel, rfl, rfl, rfl, rfl⟩
    · left
      refine ⟨?_, hen⟩
      have hd : decP (encW y2) = y2 := by
        rw [hen, e2]
        have := dec_struct (o := y1.kids.length) (d := fw) (p := fk) (by omega) (by omega) (by omega) (by omega)
        rw [← this]
        congr 1
        unfold tagP
        omega
      rw [hd, eqP_self, e2]
      rfl
  have hB : (l.set a (headP a l.length y1)).length = l.length := by simp
  have hA : (l.set a (headP a l.length y1) ++ [tagP y1.kids.length fw fk]).length = l.length + 1 := by simp
  have hset : ((l ++ zs y4).set l.length (tagP y1.kids.length fw fk)).set a (pntW a l.length y5) = (l.set a (headP a l.length y1) ++ [tagP y1.kids.length fw fk]) ++ zs P := by
    rw [e5, pnt_head, ← hh, hy4, zs_add, List.set_append_right _ _ (Nat.le_refl _), Nat.sub_self, set_left h2]
    simp [zs]
  have loop : LoopWp (A98 N [1, 1, 1, 1, 1, 1, 1, 1, 0, 1, 0, 0]) (head98_0 l a y1 ((l.set a (headP a l.length y1) ++ [tagP y1.kids.length fw fk]) ++ zs P) 0) (AExit.inBlock 0 (S98 N [1, 1, 1, 1, 1, 1, 1, 1, 1] (EndsQL cfg Try.f98.ntmps Try.f98.results.toList (res98 ((l, ()), (a : Int), y1, ())) (resX98 ((l, ()), (a : Int), y1, ())) (resL98 ((l, ()), (a : Int), y1, ()))))) := by
    generalize hAA : l.set a (headP a l.length y1) ++ [tagP y1.kids.length fw fk] = A at *
    refine loop_rule (ι := Int) (fun p => head98_0 l a y1 (rowSt A (zs ((y1.kids.length - p.toNat) * (fw + fk))) fw fk y1.kids p.toNat) p) (fun p => 0 ≤ p ∧ p ≤ y1.kids.length) (fun p => ((y1.kids.length : Int) - p).toNat) 0 (by simp [rowSt, rowsP, hP]) ⟨by omega, by omega⟩ ?_
    rintro i ⟨f1, f2⟩
    refine vc98_l0 _ _ _ _ _ _ _ _ ?_
    rintro z1 rfl z2 q2 z3 rfl z4 q4
    rw [hfw, hfk] at q4 ⊢
    rw [← e2] at q4
    subst q4
    (simp only [vcT, vcS])
    simp only [vcF]
    refine ⟨fun hi => ?_, fun hi => ?_⟩
    · have hmem := mem_getD (l := z1.kids) (i := i.toNat) (by omega) Tree.nil
      obtain ⟨r1, r2, r3, r4⟩ := rows _ hmem
      have hf := hfit _ hmem
      have m1 := kid_mass (t := z1) (i := i.toNat) (by omega)
      have hrg := kid_rng hg hmem
      obtain ⟨s1, s2⟩ := row_str (A := A) hfit (i := i.toNat) (by omega)
      have hst := sizeR_take f1 hi
      have hsl := sizeR_take_le z1.kids (i + 1).toNat
      have hrb := rowsP_blk' fw fk (z1.kids.take i.toNat) A.length (A.length + z1.kids.length * (fw + fk) : Nat) (fun t ht => (rows t (List.mem_of_mem_take ht)).2.1)
      rw [← q2] at r2 hf m1 hrg s1 s2 hst
      have hip : i.toNat * (fw + fk) + (fw + fk) ≤ P := by
        rw [← Nat.succ_mul, hP]
        exact Nat.mul_le_mul_right _ (by omega)
      have hipI : i * ((fw : Int) + fk) = (i.toNat * (fw + fk) : Nat) := by rw [Int.natCast_mul, Int.natCast_add, Int.toNat_of_nonneg f1]
      have hLl : (rowSt A (zs ((z1.kids.length - i.toNat) * (fw + fk))) fw fk z1.kids i.toNat).length = A.length + P + sizeR (z1.kids.take i.toNat) := by
        unfold rowSt
        rw [List.length_append, List.length_append, List.length_append, zs_len, rowsP_len _ _ _ (hfit.take _), hrb, List.length_take, Nat.min_eq_left (by omega), hP]
        have : z1.kids.length * (fw + fk) = i.toNat * (fw + fk) + (z1.kids.length - i.toNat) * (fw + fk) := by rw [← Nat.add_mul]; congr 1; omega
        omega
      rw [hA] at s1 s2 hLl
      rw [hipI, show (l.length : Int) + 1 + ((i.toNat * (fw + fk) : Nat) : Int) = ((l.length + 1 + i.toNat * (fw + fk) : Nat) : Int) by omega, s2]
      refine ⟨⟨f1, hi⟩, by ((unfold InR; omega)), by ((unfold InR; omega)), by ((unfold InR; omega)), ⟨⟨⟨by dsimp only; omega, by dsimp only; omega⟩, ?_, ?_⟩, ⟨?_, hrg⟩, r2⟩, ?_, by ((unfold InR; omega)), i + 1, ?_, ⟨by omega, by omega⟩, by omega⟩
      · dsimp only; rw [hLl]; omega
      · dsimp only; rw [Int.toNat_natCast, Int.toNat_natCast]; exact s1
      · show mass z3 ≤ 1000000; omega
      · show 4 * mass z3 + 2 < N; omega
      · rw [show (i + 1).toNat = i.toNat + 1 by omega]
    · have e : i = z1.kids.length := by omega
      subst e
      have eL : rowSt A (zs ((z1.kids.length - (z1.kids.length : Int).toNat) * (fw + fk))) fw fk z1.kids (z1.kids.length : Int).toNat = layP l a z1 := by
        unfold layP
        rw [if_neg (by omega), Int.toNat_natCast, Int.toNat_natCast, hb, ← List.singleton_append, ← List.append_assoc, hAA]
        unfold rowSt
        rw [List.take_length, hA, ← hP, Nat.sub_self]
        simp [zs]
      rw [eL]
      refine ⟨fun _ => by ((unfold InR; omega)), ?_⟩
      have ebool : (bif (eqP (decP (encW z4)) z4 && !decide (z4.kind = 4)) then true else (((z1.kids.length : Int) + ((fw : Int) + fk)) == 0)) = true := by
        rcases hok with h | ⟨h, _, q1, q2, q3⟩
        · rw [h.1]; rfl
        · rw [h, q1, q2, q3]; rfl
      rw [ebool]
      (repeat' (first | exact trivial | exact rfl | refine And.intro ?_ ?_))
  have pre1 : pre75 ((l, ()), 1 + (P : Int), ()) := ⟨by dsimp only; omega, by dsimp only; omega, by dsimp only; omega⟩
  have pre2 : ∀ {L : List Int}, L.length = l.length + y4 → pre96 ((L, ()), (a : Int), (l.length : Int), y5, ()) := by
    intro L hL
    refine ⟨⟨by dsimp only; omega, by dsimp only; omega, by dsimp only; omega, by dsimp only; omega⟩, ?_⟩
    rw [e5]
    exact pntOk2 (by omega) (by omega)
  have hl4 : (l ++ zs y4).length = l.length + y4 := by simp
  rw [hPI, Int.toNat_natCast, Int.toNat_natCast]
  rw [Int.toNat_natCast] at e6
  (simp only [vcT, vcS])
  simp only [vcF]
  refine ⟨hm, by ((unfold InR; omega)), by rw [e2]; exact .inl rfl, fun h => ⟨hy3, by ((unfold InR; omega)), pre1, ⟨by omega, by rw [hl4]; omega⟩, Nat.zero_le _, hy3, pre2 (by rw [List.length_set, hl4]), ?_⟩, fun h => ⟨hy3, by ((unfold InR; omega)), pre1, ⟨by omega, by rw [hl4]; omega⟩, Nat.zero_le _, hy3, pre2 (by rw [e6, List.length_set, hl4]), ?_⟩⟩
  · rcases hok with q | ⟨_, q, _⟩
    · rw [Bool.and_eq_true, Bool.not_eq_true', decide_eq_false_iff_not] at q
      exact absurd (h q.1.1) (by simp [q.1.2])
    · rw [show (l ++ zs y4).set l.length (0 : Int) = (l ++ zs y4).set l.length (tagP y1.kids.length fw fk) by rw [← q], hset]
      exact loop
  · rcases hok with ⟨_, q⟩ | ⟨q, _⟩
    · rw [e6, q, hset]
      exact loop
    · rw [Bool.and_eq_false_imp] at q
      have := q h.1
      simp only [Bool.not_eq_false', decide_eq_true_eq] at this
      exact absurd this h.2

theorem c74_ : Contract Try.prog cfg 74 spec74 ∧ Contract Try.prog cfg 99 spec99 ∧ Contract Try.prog cfg 97 spec97 ∧ Contract Try.prog cfg 98 spec98 := make74_ c75 c96 c100 c1101 c119 c120 b74 b99 b97 b98
theorem c74 : Contract Try.prog cfg 74 spec74 := c74_.1

end Go.AM.Ythokdjgpdonhgaa

namespace Go.AM.Ythokdjgpdonhgaa
open Go.AM Go.Proofs

def args35 : ArgL (Tree × Int × Unit) := (.cons (aEl .tree) (.cons (aInt .i64) .nil))
def pre35 (a : Tree × Int × Unit) : Prop := mass a.1 ≤ 1000000 ∧ rng a.1
noncomputable def res35 (a : Tree × Int × Unit) : V U := .tup [(false, [.slice (U := U) .u64 ((encP a.1 a.2.1).1) .unk]), (false, [.bool ((encP a.1 a.2.1).2)])]
noncomputable def spec35 : Fs U := fs args35 (fun a => [pre35 a]) res35

def args34 : ArgL (Unit) := .nil
def pre34 (a : Unit) : Prop := True
noncomputable def res34 (a : Unit) : V U := .c (.bool true)
noncomputable def spec34 : Fs U := fs args34 (fun a => [pre34 a]) res34

def args7 : ArgL (Tree × Tree × Unit) := (.cons (aEl .tree) (.cons (aEl .tree) .nil))
def pre7 (a : Tree × Tree × Unit) : Prop := (small a.1 ∧ rng a.1) ∧ small a.2.1 ∧ rng a.2.1
noncomputable def res7 (a : Tree × Tree × Unit) : V U := .c (.bool true)
noncomputable def spec7 : Fs U := fs args7 (fun a => [pre7 a]) res7

noncomputable def know35 : List (FuncId × Fs U) := [(71, spec71), (72, spec72), (73, spec73), (74, spec74), (75, spec1075)]
def lv35 : Lives U := fun i => match i with
  | 0 => ([(1, []), (2, [])], [((.loc 2), [])])
  | 1 => ([(1, []), (2, []), (16, [])], [((.loc 2), [])])
  | 2 => ([(4, []), (5, [])], [])
  | 3 => ([(1, []), (2, [])], [((.loc 2), [])])
  | 4 => ([(1, []), (2, []), (6, [])], [((.loc 2), [])])
  | 5 => ([(2, []), (27, [])], [((.loc 2), [])])
  | 6 => ([(4, []), (5, [])], [])
  | 7 => ([(2, []), (7, [])], [((.loc 2), []), ((.loc 29), [])])
  | 8 => ([(7, []), (8, [])], [((.loc 29), [])])
  | 9 => ([(4, []), (5, [])], [])
  | _ => ([], [])
noncomputable abbrev A35 (p : List Nat) := awp cfg (know know35) (drawOk cfg (know know35)) Try.f35.ntmps lv35 (cd Try.f35 p)
theorem vc35 (t : Tree) (most : Int) (Q : AExit → LSt U → Prop) (h : ∀ y_1, y_1 = (t) → ∀ y_2, y_2 = ((normT y_1)) → ((pre71 (y_1, ())) ∧ (Tr ((!(!(rightT y_1 64))) = true)) ∧ (Tr ((!(!(rightT y_1 64))) = true)) ∧ (((!(rightT y_1 64)) = false → (!(!(rightT y_1 64))) = true)) ∧ (((bif (!(rightT y_1 64)) then true else (((Tree.kind t) : Int) == 10)) = true → (Q .ret (⟨[(4, .c (.nils)), (5, .c (.bool false))], [], []⟩ : LSt U))) ∧ ((bif (!(rightT y_1 64)) then true else (((Tree.kind t) : Int) == 10)) = false → (pre72 (y_1, ())) ∧ ((pre73 (y_2, ())) ∧ ((Tr ((!(decide ((most : Int) ≤ (sizeN (normT y_2) : Int)))) = true)) ∧ (((decide ((most : Int) ≤ (sizeN (normT y_2) : Int))) = false → (!(decide ((most : Int) ≤ (sizeN (normT y_2) : Int)))) = true)) ∧ (((bif (decide ((most : Int) ≤ (sizeN (normT y_2) : Int))) then true else (decide ((131072 : Int) ≤ (sizeN (normT y_2) : Int)))) = true → (Q .ret (⟨[(4, .c (.nils)), (5, .c (.bool false))], [], []⟩ : LSt U))) ∧ ((bif (decide ((most : Int) ≤ (sizeN (normT y_2) : Int))) then true else (decide ((131072 : Int) ≤ (sizeN (normT y_2) : Int)))) = false → ((pre1075 ((([] : List Int), ()), 1, ())) ∧ (pre74 (((([] : List Int) ++ zs (Int.toNat 1)), ()), (([] : List Int).length : Int), y_2, ())) ∧ ((Q .ret (⟨[(4, .c (.slice (U := U) .u64 (layP (([] : List Int) ++ zs (Int.toNat 1)) (([] : List Int).length : Int) y_2) (.own (.e 4 0)))), (5, .c (.bool true))], [], []⟩ : LSt U)))))))))))) :
    A35 [] (⟨[(0, .agg [.int .i64 (Tree.kind t), .slice (U := U) .u64 (Tree.words t) .unk, .slice (U := U) .tree (Tree.kids t) .unk]), (1, .c (.int .i64 most))], [], []⟩ : LSt U) Q :=
  (Eq.mpr (by kernel_rfl) (h _ (reTree_eq _) _ (reTree_eq _)) :)
abbrev Body35 (t : Tree) (most : Int)  : Prop := awp cfg (know (know35)) (drawOk cfg (know (know35))) Try.f35.ntmps lv35 (cd Try.f35 []) (entry (args35.can (t, most, ())) []) (EndsQ cfg Try.f35.ntmps Try.f35.results.toList (res35 (t, most, ())) [])
theorem make35 (c71 : Contract Try.prog cfg 71 spec71) (c72 : Contract Try.prog cfg 72 spec72) (c73 : Contract Try.prog cfg 73 spec73) (c74 : Contract Try.prog cfg 74 spec74) (c1075 : Contract Try.prog cfg 75 spec1075) (hb : ∀ (t : Tree) (most : Int) (_ : Unit), pre35 (t, most, ()) → Body35 t most) : Contract Try.prog cfg 35 spec35 :=
  contract_flat (l := [(71, spec71), (72, spec72), (73, spec73), (74, spec74), (75, spec1075)]) cfgOk rfl (⟨c71, c72, c73, c74, c1075, trivial⟩) lv35 Try.func35 rfl rfl 2 (fun _ => rfl) (by decide) (fun ⟨t, most, _⟩ => hb t most ())

noncomputable def know34 : List (FuncId × Fs U) := [(35, spec35), (37, spec37)]
def lv34 : Lives U := fun i => match i with
  | 0 => ([], [])
  | 1 => ([(1, []), (2, [])], [])
  | 2 => ([(0, [])], [])
  | _ => ([], [])
noncomputable abbrev A34 (p : List Nat) := awp cfg (know know34) (drawOk cfg (know know34)) Try.f34.ntmps lv34 (cd Try.f34 p)
theorem vc34 (Q : AExit → LSt U → Prop) (h : ((pre35 ((Tree.mk 1 ([5]) ([(Tree.mk 8 ([]) ([(Tree.mk 0 ([]) ([]))]))])), 9, ())) ∧ ((Tr (((encP (Tree.mk 1 ([5]) ([(Tree.mk 8 ([]) ([(Tree.mk 0 ([]) ([]))]))])) 9).2) = true)) ∧ (Tr (((encP (Tree.mk 1 ([5]) ([(Tree.mk 8 ([]) ([(Tree.mk 0 ([]) ([]))]))])) 9).2) = true)) ∧ (((encP (Tree.mk 1 ([5]) ([(Tree.mk 8 ([]) ([(Tree.mk 0 ([]) ([]))]))])) 9).2) = true → pre37 (((encP (Tree.mk 1 ([5]) ([(Tree.mk 8 ([]) ([(Tree.mk 0 ([]) ([]))]))])) 9).1), ([281479271677952, 5, 60129542145, 0]), ())) ∧ ((Tr (((encP (Tree.mk 1 ([5]) ([(Tree.mk 8 ([]) ([(Tree.mk 0 ([]) ([]))]))])) 9).2) = true))) ∧ (Q .ret (⟨[(0, .c (.bool (bif ((encP (Tree.mk 1 ([5]) ([(Tree.mk 8 ([]) ([(Tree.mk 0 ([]) ([]))]))])) 9).2) then (decide (((encP (Tree.mk 1 ([5]) ([(Tree.mk 8 ([]) ([(Tree.mk 0 ([]) ([]))]))])) 9).1) = ([281479271677952, 5, 60129542145, 0]))) else false)))], [], []⟩ : LSt U))))) :
    A34 [] (⟨[], [], []⟩ : LSt U) Q :=
  (Eq.mpr (by kernel_rfl) h :)
abbrev Body34  : Prop := awp cfg (know (know34)) (drawOk cfg (know (know34))) Try.f34.ntmps lv34 (cd Try.f34 []) (entry (args34.can (())) []) (EndsQ cfg Try.f34.ntmps Try.f34.results.toList (res34 (())) [])
theorem make34 (c35 : Contract Try.prog cfg 35 spec35) (c37 : Contract Try.prog cfg 37 spec37) (hb : ∀ (_ : Unit), pre34 (()) → Body34 ) : Contract Try.prog cfg 34 spec34 :=
  contract_flat (l := [(35, spec35), (37, spec37)]) cfgOk rfl (⟨c35, c37, trivial⟩) lv34 Try.func34 rfl rfl 0 (fun _ => rfl) (by decide) (fun _ => hb  ())

noncomputable def know7 : List (FuncId × Fs U) := [(33, spec33), (34, spec34), (35, spec35), (38, spec38), (37, spec37)]
def lv7 : Lives U := fun i => match i with
  | 0 => ([(2, []), (3, [])], [((.loc 2), []), ((.loc 3), [])])
  | 1 => ([(2, []), (3, []), (16, [])], [((.loc 2), []), ((.loc 3), [])])
  | 2 => ([(4, [])], [])
  | 3 => ([(2, []), (3, []), (5, []), (6, [])], [((.loc 2), []), ((.loc 3), [])])
  | 4 => ([(2, []), (3, []), (5, []), (6, []), (7, []), (8, [])], [((.loc 2), []), ((.loc 3), [])])
  | 5 => ([(2, []), (3, []), (5, []), (7, []), (33, [])], [((.loc 2), []), ((.loc 3), [])])
  | 6 => ([(4, [])], [])
  | 7 => ([(4, [])], [])
  | _ => ([], [])
noncomputable abbrev A7 (p : List Nat) := awp cfg (know know7) (drawOk cfg (know know7)) Try.f7.ntmps lv7 (cd Try.f7 p)
theorem vc7 (a : Tree) (b : Tree) (Q : AExit → LSt U → Prop) (h : ∀ y_1, y_1 = (a) → ∀ y_2, y_2 = (b) → ((pre33 (y_1, ())) ∧ (Tr ((!(!(decide (0 ≤ shallow y_1 80 3000)))) = true)) ∧ ((!(!(decide (0 ≤ shallow y_1 80 3000)))) = true → pre33 (y_2, ())) ∧ (Tr ((!(!(decide (0 ≤ shallow y_1 80 3000)))) = true)) ∧ (((!(decide (0 ≤ shallow y_1 80 3000))) = false → (!(!(decide (0 ≤ shallow y_1 80 3000)))) = true)) ∧ (((bif (!(decide (0 ≤ shallow y_1 80 3000))) then true else (!(decide (0 ≤ shallow y_2 80 3000)))) = true → (pre34 (())) ∧ (Q .ret (⟨[(4, .c (.bool true))], [], []⟩ : LSt U))) ∧ ((bif (!(decide (0 ≤ shallow y_1 80 3000))) then true else (!(decide (0 ≤ shallow y_2 80 3000)))) = false → (pre35 (y_1, 131072, ())) ∧ ((pre35 (y_2, 131072, ())) ∧ ((Tr ((!(!((encP y_1 131072).2))) = true)) ∧ (((!((encP y_1 131072).2)) = false → (!(!((encP y_1 131072).2))) = true)) ∧ (((bif (!((encP y_1 131072).2)) then true else (!((encP y_2 131072).2))) = true → (pre34 (())) ∧ (Q .ret (⟨[(4, .c (.bool true))], [], []⟩ : LSt U))) ∧ ((bif (!((encP y_1 131072).2)) then true else (!((encP y_2 131072).2))) = false → (pre37 (((encP y_1 131072).1), ((encP y_2 131072).1), ())) ∧ (pre38 (y_1, y_2, ())) ∧ (((decide (((encP y_1 131072).1) = ((encP y_2 131072).1))) == (sameT (normT y_1) (normT y_2))) = true → pre34 (())) ∧ ((Tr (((decide (((encP y_1 131072).1) = ((encP y_2 131072).1))) == (sameT (normT y_1) (normT y_2))) = true))) ∧ (Q .ret (⟨[(4, .c (.bool (bif ((decide (((encP y_1 131072).1) = ((encP y_2 131072).1))) == (sameT (normT y_1) (normT y_2))) then true else false)))], [], []⟩ : LSt U)))))))))) :
    A7 [] (⟨[(0, .agg [.int .i64 (Tree.kind a), .slice (U := U) .u64 (Tree.words a) .unk, .slice (U := U) .tree (Tree.kids a) .unk]), (1, .agg [.int .i64 (Tree.kind b), .slice (U := U) .u64 (Tree.words b) .unk, .slice (U := U) .tree (Tree.kids b) .unk])], [], []⟩ : LSt U) Q :=
  (Eq.mpr (by kernel_rfl) (h _ (reTree_eq _) _ (reTree_eq _)) :)
abbrev Body7 (a : Tree) (b : Tree)  : Prop := awp cfg (know (know7)) (drawOk cfg (know (know7))) Try.f7.ntmps lv7 (cd Try.f7 []) (entry (args7.can (a, b, ())) []) (EndsQ cfg Try.f7.ntmps Try.f7.results.toList (res7 (a, b, ())) [])
theorem make7 (c33 : Contract Try.prog cfg 33 spec33) (c34 : Contract Try.prog cfg 34 spec34) (c35 : Contract Try.prog cfg 35 spec35) (c38 : Contract Try.prog cfg 38 spec38) (c37 : Contract Try.prog cfg 37 spec37) (hb : ∀ (a : Tree) (b : Tree) (_ : Unit), pre7 (a, b, ()) → Body7 a b) : Contract Try.prog cfg 7 spec7 :=
  contract_flat (l := [(33, spec33), (34, spec34), (35, spec35), (38, spec38), (37, spec37)]) cfgOk rfl (⟨c33, c34, c35, c38, c37, trivial⟩) lv7 Try.func7 rfl rfl 2 (fun _ => rfl) (by decide) (fun ⟨a, b, _⟩ => hb a b ())

end Go.AM.Ythokdjgpdonhgaa

namespace Go.AM.Ythokdjgpdonhgaa
open Go.AM Go.Proofs

def Has (A : List Int) (to : Int) (b : List Int) : Prop := ∃ p s, A = p ++ (b ++ s) ∧ (p.length : Int) = to

theorem Has.left {A b c : List Int} {to : Int} (h : Has A to (b ++ c)) : Has A to b := by
  obtain ⟨p, s, rfl, h⟩ := h
  exact ⟨p, c ++ s, by simp, h⟩
theorem Has.right {A b c : List Int} {to : Int} (h : Has A to (b ++ c)) : Has A (to + b.length) c := by
  obtain ⟨p, s, rfl, h⟩ := h
  exact ⟨p ++ b, s, by simp, by rw [List.length_append]; omega⟩
theorem Has.len {A b : List Int} {to : Int} (h : Has A to b) : 0 ≤ to ∧ to + b.length ≤ A.length := by
  obtain ⟨p, s, rfl, h⟩ := h
  simp only [List.length_append]
  omega
theorem Has.get {A b : List Int} {to : Int} (h : Has A to b) {i : Nat} (hi : i < b.length) : A.getD (to + i).toNat 0 = b.getD i 0 := by
  obtain ⟨p, s, rfl, h⟩ := h
  rw [show (to + (i : Int)).toNat = p.length + i by omega, List.getD_eq_getElem?_getD, List.getD_eq_getElem?_getD, List.getElem?_append_right (by omega), show p.length + i - p.length = i by omega, List.getElem?_append_left hi]
theorem Has.take {A b : List Int} {to : Int} (h : Has A to b) : (A.drop to.toNat).take b.length = b := by
  obtain ⟨p, s, rfl, h⟩ := h
  rw [show to.toNat = p.length by omega, List.drop_left, List.take_left]
theorem Has.drop {A b : List Int} {to : Int} (h : Has A to b) : ∃ s, A.drop to.toNat = b ++ s := by
  obtain ⟨p, s, rfl, h⟩ := h
  exact ⟨s, by rw [show to.toNat = p.length by omega, List.drop_left]⟩

theorem hasN_one {A : List Int} {a n : Int} : hasN [A] 0 a n = true ↔ 0 ≤ a ∧ 0 ≤ n ∧ a + n ≤ A.length := by
  rw [hasN_iff]
  simp [segAt]
theorem getS_one (A : List Int) (a : Int) : getS [A] 0 a = A.getD a.toNat 0 := by simp [getS, segAt]
theorem segAt_one (A : List Int) : segAt [A] 0 = A := by simp [segAt]

theorem kids_has {A : List Int} : ∀ (ks : List Tree) (a to : Int), Has A a (kidsP ks a to).1 → Has A to (kidsP ks a to).2 →
    ∀ i : Nat, i < ks.length → ∃ b, A.getD (a + i).toNat 0 = headP (a + i) b (ks.getD i Tree.nil) ∧ Has A b (blkP (ks.getD i Tree.nil) b)
  | [], _, _, _, _, i, hi => by cases hi
  | t :: r, a, to, h1, h2, i, hi => by
    rw [kidsP] at h1 h2
    cases i with
    | zero => exact ⟨to, by have := h1.get (i := 0) (by simp); simpa using this, by simpa using h2.left⟩
    | succ i =>
      have h3 : Has A (a + 1) (kidsP r (a + 1) (to + (blkP t to).length)).1 := Has.right (b := [headP a to t]) h1
      obtain ⟨b, q1, q2⟩ := kids_has r (a + 1) _ h3 h2.right i (by simpa using hi)
      refine ⟨b, ?_, by simpa using q2⟩
      rw [show a + ((i + 1 : Nat) : Int) = a + 1 + i by omega]
      simpa using q1

theorem rows_has {A : List Int} {fw fk : Nat} : ∀ (ks : List Tree) (a to : Int), (∀ t ∈ ks, t.words.length ≤ fw ∧ t.kids.length ≤ fk) → Has A a (rowsP fw fk ks a to).1 → Has A to (rowsP fw fk ks a to).2 →
    ∀ i : Nat, i < ks.length → ∃ b, Has A (a + (i * (fw + fk) : Nat)) ((ks.getD i Tree.nil).words ++ (zs (fw - (ks.getD i Tree.nil).words.length) ++ ((kidsP (ks.getD i Tree.nil).kids (a + (i * (fw + fk) : Nat) + fw) b).1 ++ zs (fk - (ks.getD i Tree.nil).kids.length)))) ∧
      Has A b (kidsP (ks.getD i Tree.nil).kids (a + (i * (fw + fk) : Nat) + fw) b).2
  | [], _, _, _, _, _, i, hi => by cases hi
  | .mk k w l :: r, a, to, hf, h1, h2, i, hi => by
    have hw : w.length ≤ fw ∧ l.length ≤ fk := hf _ List.mem_cons_self
    rw [rowsP] at h1 h2
    cases i with
    | zero =>
      refine ⟨to, ?_, by simpa using h2.left⟩
      have : Has A a ((w ++ (zs (fw - w.length) ++ ((kidsP l (a + fw) to).1 ++ zs (fk - l.length)))) ++ (rowsP fw fk r (a + (fw + fk)) (to + (kidsP l (a + fw) to).2.length)).1) := by
        simpa only [List.append_assoc, zs] using h1
      simpa using this.left
    | succ i =>
      have h3 : Has A (a + ((fw : Int) + fk)) (rowsP fw fk r (a + (fw + fk)) (to + (kidsP l (a + fw) to).2.length)).1 := by
        have : Has A a ((w ++ (zs (fw - w.length) ++ ((kidsP l (a + fw) to).1 ++ zs (fk - l.length)))) ++ (rowsP fw fk r (a + (fw + fk)) (to + (kidsP l (a + fw) to).2.length)).1) := by
          simpa only [List.append_assoc, zs] using h1
        have := this.right
        rwa [show a + (((w ++ (zs (fw - w.length) ++ ((kidsP l (a + fw) to).1 ++ zs (fk - l.length)))).length : Nat) : Int) = a + ((fw : Int) + fk) by
          simp only [List.length_append, zs_len, kidsP_len]; omega] at this
      obtain ⟨b, q1, q2⟩ := rows_has r _ _ (fun t ht => hf t (List.mem_cons_of_mem _ ht)) h3 h2.right i (by simpa using hi)
      have e : a + (((i + 1) * (fw + fk) : Nat) : Int) = a + ((fw : Int) + fk) + ((i * (fw + fk) : Nat) : Int) := by rw [Nat.add_mul]; omega
      refine ⟨b, ?_, ?_⟩
      · rw [e]; simpa using q1
      · rw [e]; simpa using q2

mutual
def framT : Tree → Tree
  | .mk k w ks => .mk k w (if k = 9 then framR (frW ks) (frK ks) ks else framK ks)
def framK : List Tree → List Tree
  | [] => []
  | t :: r => framT t :: framK r
def framR (fw fk : Nat) : List Tree → List Tree
  | [] => []
  | .mk k w ks :: r => .mk k (w ++ zs (fw - w.length)) ((if k = 9 then framR (frW ks) (frK ks) ks else framK ks) ++ List.replicate (fk - ks.length) Tree.nil) :: framR fw fk r
end

def xOf (a to : Int) : Tree → XRef
  | .mk k w ks =>
    if k = 0 then xz
    else if k = 1 then ⟨1, 0, if w.length + ks.length = 0 then a else to, w.length, ks.length, 0, 0⟩
    else if k = 9 then ⟨9, 0, to + 1, frW ks, frK ks, ks.length, 0⟩
    else ⟨k, 0, to, 0, 0, ks.length, 0⟩

theorem follow_one {A : List Int} {a : Int} (h : 0 ≤ a ∧ a < A.length) (hk : (decP (A.getD a.toNat 0)).kind = 1 ∨ (decP (A.getD a.toNat 0)).kind = 2) :
    follow [A] 0 a = insideL [A] ⟨decP (A.getD a.toNat 0), 0, a + 1 + (decP (A.getD a.toNat 0)).off⟩ := by
  unfold follow
  rw [if_pos (hasN_one.2 ⟨h.1, by omega, by omega⟩), getS_one, if_neg (by omega), if_pos (by omega)]
  have hs : shapeE (decP (A.getD a.toNat 0)) = 0 := by unfold shapeE; rw [if_neg (by omega), if_pos hk]
  unfold nearL
  rw [if_pos hs]

theorem wordsP_code {c n : Int} (hc : 0 ≤ c ∧ c ≤ 6) (hn : 0 ≤ n ∧ n < 536870912) (o : Int) : wordsP ⟨2, o, 0, 0, c, n, 0, false⟩ = (n * bitsP c + 63) / 64 := by
  unfold wordsP
  dsimp only
  rw [if_neg (by decide), if_pos rfl, if_neg (by omega), if_neg (by omega)]

theorem bits_wd {c : Int} (hc : 0 ≤ c ∧ c ≤ 5) : bitsP c = wd c := by
  have : c = 0 ∨ c = 1 ∨ c = 2 ∨ c = 3 ∨ c = 4 ∨ c = 5 := by omega
  rcases this with rfl | rfl | rfl | rfl | rfl | rfl <;> rfl

theorem room_bits {c : Int} {n : Nat} (hc : 0 ≤ c ∧ c ≤ 5) (hn : n < 536870912) : ((n : Int) * bitsP c + 63) / 64 = (roomW c n).toNat := by
  rw [bits_wd hc]
  unfold roomW
  have : c = 0 ∨ c = 1 ∨ c = 2 ∨ c = 3 ∨ c = 4 ∨ c = 5 := by omega
  rcases this with rfl | rfl | rfl | rfl | rfl | rfl
  · rw [show wd 0 = 0 from rfl, if_pos (by omega)]; omega
  all_goals (first | rw [show wd 1 = 1 from rfl] | rw [show wd 2 = 8 from rfl] | rw [show wd 3 = 16 from rfl] | rw [show wd 4 = 32 from rfl] | rw [show wd 5 = 64 from rfl])
  all_goals (rw [if_neg (by omega)]; omega)

theorem refAt_lay {A : List Int} {t : Tree} {d a to : Int} (hA : A.length ≤ 100000000) (ha : 0 ≤ a ∧ a < A.length) (hr : rightT t d = true) (h10 : t.kind ≠ 10) (hh : A.getD a.toNat 0 = headP a to t) (hb : Has A to (blkP t to)) :
    refAt [A] 0 a = (xOf a to t, 0) := by
  obtain ⟨k, w, ks⟩ := t
  have h10 : k ≠ 10 := h10
  have rt := riT hr
  have hlen := hb.len
  have hk := rt.kind
  unfold headP at hh
  unfold xOf
  dsimp only at hh ⊢
  by_cases h0 : k = 0
  · rw [if_pos h0] at hh ⊢
    have hf : follow [A] 0 a = (locZ, 0) := by
      unfold follow
      rw [if_pos (hasN_one.2 ⟨ha.1, by omega, by omega⟩), getS_one, hh]
      rfl
    unfold refAt
    rw [hf]
    rfl
  rw [if_neg h0] at hh ⊢
  by_cases h1 : k = 1
  · rw [if_pos h1] at hh ⊢
    have hs := rt.stru h1
    have hbl : w.length + ks.length ≤ (blkP (.mk k w ks) to).length := by
      rw [blkP, if_neg h0, if_pos h1, List.length_append, List.length_append, kidsP_len]
      omega
    have hd : decP (A.getD a.toNat 0) = ⟨1, (if w.length + ks.length = 0 then a else to) - a - 1, w.length, ks.length, 0, 0, 0, false⟩ := by
      rw [hh]
      exact dec_struct (by split <;> omega) (by omega) (by omega) (by split <;> omega)
    have hf := follow_one ha (by rw [hd]; exact .inl rfl)
    rw [hd] at hf
    have hi : insideL [A] ⟨⟨1, (if w.length + ks.length = 0 then a else to) - a - 1, w.length, ks.length, 0, 0, 0, false⟩, 0, a + 1 + ((if w.length + ks.length = 0 then a else to) - a - 1)⟩ = (⟨⟨1, 0, w.length, ks.length, 0, 0, 0, false⟩, 0, if w.length + ks.length = 0 then a else to⟩, 0) := by
      unfold insideL
      have e : a + 1 + ((if w.length + ks.length = 0 then a else to) - a - 1) = if w.length + ks.length = 0 then a else to := by split <;> omega
      dsimp only
      rw [e, if_pos]
      · rfl
      · refine hasN_one.2 ⟨by split <;> omega, ?_, ?_⟩
        · show (0 : Int) ≤ (w.length : Int) + ks.length; omega
        · show (if w.length + ks.length = 0 then a else to) + ((w.length : Int) + ks.length) ≤ A.length
          split <;> omega
    dsimp only at hf
    rw [hi] at hf
    unfold refAt
    rw [hf]
    rfl
  rw [if_neg h1] at hh ⊢
  by_cases h8 : k = 8
  · rw [if_pos h8] at hh
    rw [if_neg (by omega)]
    have hl := rt.len
    have hbl : ks.length ≤ (blkP (.mk k w ks) to).length := by
      rw [blkP, if_neg h0, if_neg h1, if_pos h8, List.length_append, kidsP_len]
      omega
    have hd : decP (A.getD a.toNat 0) = ⟨2, to - a - 1, 0, 0, 6, ks.length, 0, false⟩ := by
      rw [hh]
      exact dec_list (by omega) (by omega) (by omega)
    have hf := follow_one ha (by rw [hd]; exact .inr rfl)
    rw [hd] at hf
    have hi : insideL [A] ⟨⟨2, to - a - 1, 0, 0, 6, ks.length, 0, false⟩, 0, a + 1 + (to - a - 1)⟩ = (⟨⟨2, 0, 0, 0, 6, ks.length, 0, false⟩, 0, to⟩, 0) := by
      unfold insideL
      dsimp only
      rw [show a + 1 + (to - a - 1) = to by omega, wordsP_code (by omega) (by omega), if_pos]
      · rfl
      · refine hasN_one.2 ⟨hlen.1, by rw [show bitsP 6 = 64 from rfl]; omega, by rw [show bitsP 6 = 64 from rfl]; omega⟩
    dsimp only at hf
    rw [hi] at hf
    unfold refAt
    rw [hf, h8]
    rfl
  rw [if_neg h8] at hh
  by_cases h9 : k = 9
  · rw [if_pos h9] at hh ⊢
    have hl := rt.len
    have hbl : (blkP (.mk k w ks) to) = tagP ks.length (frW ks) (frK ks) :: ((rowsP (frW ks) (frK ks) ks (to + 1) (to + 1 + (ks.length * (frW ks + frK ks) : Nat))).1 ++ (rowsP (frW ks) (frK ks) ks (to + 1) (to + 1 + (ks.length * (frW ks + frK ks) : Nat))).2) := by
      rw [blkP, if_neg h0, if_neg h1, if_neg h8, if_pos h9]
    have hfw : frW ks < 65536 ∧ frK ks < 65536 := by
      have : ∀ l : List Tree, (∀ t ∈ l, t.words.length < 65536 ∧ t.kids.length < 65536) → frW l < 65536 ∧ frK l < 65536 := by
        intro l
        induction l with
        | nil => intro _; exact ⟨by simp [frW], by simp [frK]⟩
        | cons t l ih =>
          intro h
          have h1 := h t List.mem_cons_self
          have h2 := ih fun t ht => h t (List.mem_cons_of_mem _ ht)
          rw [frW, frK]
          omega
      refine this ks fun t ht => ?_
      have hk1 := (rt.kids t ht).2.2.2 h9
      have := (rt.kids t ht).1
      obtain ⟨k', w', l'⟩ := t
      exact (riT this).stru hk1
    rw [hbl] at hb hlen
    simp only [List.length_cons, List.length_append, rowsP_len ks _ _ fun t ht => frW_le ht] at hlen
    have htag : A.getD to.toNat 0 = tagP ks.length (frW ks) (frK ks) := by have := hb.get (i := 0) (by simp); simpa using this
    generalize hN : ks.length * (frW ks + frK ks) = N at *
    have hd : decP (A.getD a.toNat 0) = ⟨2, to - a - 1, 0, 0, 7, N, 0, false⟩ := by
      rw [hh]
      exact dec_list (by omega) (by omega) (by omega)
    have hf := follow_one ha (by rw [hd]; exact .inr rfl)
    rw [hd] at hf
    have hi : insideL [A] ⟨⟨2, to - a - 1, 0, 0, 7, N, 0, false⟩, 0, a + 1 + (to - a - 1)⟩ = (⟨⟨2, 0, 0, 0, 7, N, 0, false⟩, 0, to⟩, 0) := by
      unfold insideL
      dsimp only
      rw [show a + 1 + (to - a - 1) = to by omega, if_pos]
      · rfl
      · refine hasN_one.2 ⟨hlen.1, ?_, ?_⟩
        · show (0 : Int) ≤ (N : Int) + 1; omega
        · show to + ((N : Int) + 1) ≤ A.length; omega
    dsimp only at hf
    rw [hi] at hf
    have hc : compX [A] 0 to N = (⟨9, 0, to + 1, frW ks, frK ks, ks.length, 0⟩, 0) := by
      by_cases hz : ks.length = 0
      · have e : ks = [] := List.length_eq_zero_iff.1 hz
        subst e
        have ht0 : getS [A] 0 to = 0 := by rw [getS_one, htag]; rfl
        have hn0 : N = 0 := by rw [← hN]; rfl
        unfold compX
        rw [ht0, hn0]
        rfl
      · have ht : decP (getS [A] 0 to) = ⟨1, ks.length, frW ks, frK ks, 0, 0, 0, false⟩ := by
          rw [getS_one, htag]
          have := dec_struct (o := ks.length) (d := frW ks) (p := frK ks) (by omega) (by omega) (by omega) (by omega)
          rw [← this]
          congr 1
          unfold tagP
          omega
        unfold compX
        rw [ht, if_neg]
        dsimp only
        rintro (h | h | h)
        · exact h.2 rfl
        · omega
        · rw [← Int.natCast_add, ← Int.natCast_mul, hN] at h
          omega
    unfold refAt
    rw [hf]
    dsimp only
    rw [if_neg (by decide), if_neg (by decide), if_neg (by decide)]
    exact hc
  · rw [if_neg h9] at hh ⊢
    have hl := rt.len
    have hbl : (blkP (.mk k w ks) to).length = (roomW (k - 2) ks.length).toNat := by
      rw [blkP, if_neg h0, if_neg h1, if_neg h8, if_neg h9]
      unfold putR
      rw [if_pos (rt.data (by omega) (by omega)).1, putW_len, numsP, List.length_map]
    have hd : decP (A.getD a.toNat 0) = ⟨2, to - a - 1, 0, 0, k - 2, ks.length, 0, false⟩ := by
      rw [hh]
      exact dec_list (by omega) (by omega) (by omega)
    have hf := follow_one ha (by rw [hd]; exact .inr rfl)
    rw [hd] at hf
    have hi : insideL [A] ⟨⟨2, to - a - 1, 0, 0, k - 2, ks.length, 0, false⟩, 0, a + 1 + (to - a - 1)⟩ = (⟨⟨2, 0, 0, 0, k - 2, ks.length, 0, false⟩, 0, to⟩, 0) := by
      unfold insideL
      dsimp only
      rw [show a + 1 + (to - a - 1) = to by omega, wordsP_code (by omega) (by omega), room_bits (by omega) (by omega), if_pos]
      · rfl
      · exact hasN_one.2 ⟨hlen.1, by omega, by omega⟩
    dsimp only at hf
    rw [hi] at hf
    unfold refAt
    rw [hf]
    dsimp only
    rw [if_neg (by decide), if_neg (by decide), if_pos (by omega), show 2 + (k - 2) = k by omega]

end Go.AM.Ythokdjgpdonhgaa

namespace Go.AM.Ythokdjgpdonhgaa
open Go.AM Go.Proofs

def sumT (cost : Tree → Int) : List Tree → Int
  | [] => 0
  | t :: r => cost t + sumT cost r
theorem sumT_weight : ∀ l : List Tree, sumT weight l = weightK l
  | [] => by rw [sumT, weightK]
  | t :: r => by rw [sumT, weightK, sumT_weight r]
theorem sumT_pos {cost : Tree → Int} : ∀ {l : List Tree}, (∀ t ∈ l, 0 ≤ cost t) → 0 ≤ sumT cost l
  | [], _ => by rw [sumT]; omega
  | t :: r, h => by rw [sumT]; have := h t List.mem_cons_self; have := sumT_pos fun t ht => h t (List.mem_cons_of_mem _ ht); omega

theorem loopM_list {f : Int → Int → Tree × Int × Int} {cost : Tree → Int} : ∀ (l : List Tree) (i left : Int) (acc : List Tree),
    (∀ j : Nat, j < l.length → ∀ left, cost (l.getD j Tree.nil) ≤ left → f (i + j) left = (l.getD j Tree.nil, left - cost (l.getD j Tree.nil), 0)) → (∀ t ∈ l, 0 ≤ cost t) → sumT cost l ≤ left →
      loopM f l.length i left acc = (acc ++ l, left - sumT cost l, 0)
  | [], i, left, acc, _, _, _ => by simp [loopM, sumT]
  | t :: r, i, left, acc, h, h0, hl => by
    rw [sumT] at hl
    have hr := sumT_pos fun t ht => h0 t (List.mem_cons_of_mem _ ht)
    have h1 := h 0 (by simp) left (by simp; omega)
    simp only [List.getD_cons_zero, Int.natCast_zero, Int.add_zero] at h1
    rw [List.length_cons, loopM, h1]
    dsimp only
    rw [if_pos rfl, loopM_list r (i + 1) (left - cost t) (acc ++ [t]) (fun j hj left hle => ?_) (fun t ht => h0 t (List.mem_cons_of_mem _ ht)) (by omega), sumT]
    · simp only [List.append_assoc, List.singleton_append, Prod.mk.injEq, true_and, and_true]
      omega
    · have := h (j + 1) (by simpa using hj) left (by simpa using hle)
      rw [show i + 1 + (j : Int) = i + ((j + 1 : Nat) : Int) by omega]
      simpa using this

theorem framK_len : ∀ l : List Tree, (framK l).length = l.length
  | [] => by rw [framK]
  | t :: r => by rw [framK, List.length_cons, framK_len r, List.length_cons]
theorem framK_get : ∀ (l : List Tree) (j : Nat), j < l.length → (framK l).getD j Tree.nil = framT (l.getD j Tree.nil)
  | t :: r, 0, _ => by rw [framK]; simp
  | t :: r, j + 1, h => by rw [framK]; simpa using framK_get r j (by simpa using h)

def framS (fw fk : Nat) (t : Tree) : Tree := .mk t.kind (t.words ++ zs (fw - t.words.length)) ((if t.kind = 9 then framR (frW t.kids) (frK t.kids) t.kids else framK t.kids) ++ List.replicate (fk - t.kids.length) Tree.nil)
theorem framR_eq (fw fk : Nat) : ∀ l : List Tree, framR fw fk l = l.map (framS fw fk)
  | [] => by rw [framR]; rfl
  | .mk k w ks :: r => by rw [framR, framR_eq fw fk r]; rfl

theorem weight_nonneg (t : Tree) : 0 ≤ weight t := (weight_range t).1

theorem weightK_app : ∀ a b : List Tree, weightK (a ++ b) = weightK a + weightK b
  | [], b => by simp [weightK]
  | t :: r, b => by rw [List.cons_append, weightK, weightK, weightK_app r b]; omega
theorem weightK_nil : ∀ n : Nat, weightK (List.replicate n Tree.nil) = 0
  | 0 => by simp [weightK]
  | n + 1 => by rw [List.replicate_succ, weightK, weightK_nil n]; simp [Tree.nil, weight]

theorem mean_xz {l : List (List Int)} (d : Nat) (left : Int) : mean l d xz left = (Tree.nil, left, 0) := by
  by_cases h : d = 0
  · subst h; rw [mean_zero]; rfl
  · rw [mean_eq (by omega)]; rfl

theorem massK_mem : ∀ {l : List Tree} {t : Tree}, t ∈ l → mass t ≤ massK l
  | k :: r, t, h => by
    rw [massK]
    rcases List.mem_cons.1 h with rfl | h
    · omega
    · have := massK_mem h; omega
theorem getD_mem {l : List Tree} {j : Nat} (h : j < l.length) : l.getD j Tree.nil ∈ l := by
  rw [List.getD_eq_getElem?_getD, List.getElem?_eq_getElem h]
  exact List.getElem_mem h

theorem mean_lay {A : List Int} (hA : A.length ≤ 100000000) : ∀ (N : Nat) (t : Tree), mass t ≤ N → ∀ (d : Nat) (a to left : Int), (0 ≤ a ∧ a < A.length) → rightT t d = true → t.kind ≠ 10 → rng t → A.getD a.toNat 0 = headP a to t → Has A to (blkP t to) →
    weight (framT t) ≤ left → mean [A] d (xOf a to t) left = (framT t, left - weight (framT t), 0) := by
  intro N
  induction N with
  | zero => intro t h; have := mass_pos t; omega
  | succ N ih =>
  intro t hN d a to left ha hr h10 hg hh hb hl
  obtain ⟨k, w, ks⟩ := t
  have h10 : k ≠ 10 := h10
  have rt := riT hr
  have hk := rt.kind
  rw [mass] at hN
  by_cases h0 : k = 0
  · obtain ⟨rfl, rfl⟩ := rt.nil h0
    subst h0
    have e : xOf a to (.mk 0 [] []) = xz := rfl
    have e2 : framT (.mk 0 [] []) = Tree.nil := by rw [framT, if_neg (by decide), framK]; rfl
    rw [e, e2, mean_xz]
    simp [Tree.nil, weight]
  have hd : 1 ≤ d := by
    rcases Nat.eq_zero_or_pos d with h | h
    · subst h
      rw [rightT, if_neg h0, if_neg h10, if_pos (by simp)] at hr
      cases hr
    · exact h
  have hdI : ((d - 1 : Nat) : Int) = (d : Int) - 1 := by omega
  -- a kid to which a word points
  have kid : ∀ (d' : Nat) (t' : Tree) (a' b' : Int) (left' : Int), mass t' ≤ massK ks → rightT t' d' = true → t'.kind ≠ 10 → rng t' → (0 ≤ a' ∧ a' < A.length) → A.getD a'.toNat 0 = headP a' b' t' → Has A b' (blkP t' b') → weight (framT t') ≤ left' →
      refAt [A] 0 a' = (xOf a' b' t', 0) ∧ mean [A] d' (xOf a' b' t') left' = (framT t', left' - weight (framT t'), 0) := by
    intro d' t' a' b' left' hm hr' h10' hg' ha' hh' hb' hl'
    exact ⟨refAt_lay hA ha' hr' h10' hh' hb', ih t' (by omega) d' a' b' left' ha' hr' h10' hg' hh' hb' hl'⟩
  have hgk : ∀ t' ∈ ks, rng t' := by
    have : ∀ l : List Tree, rngK l → ∀ t' ∈ l, rng t' := by
      intro l
      induction l with
      | nil => intro _ t' h; cases h
      | cons x l ih =>
        intro h t' ht
        rw [rngK] at h
        rcases List.mem_cons.1 ht with rfl | ht
        · exact h.1
        · exact ih h.2 t' ht
    rw [rng] at hg
    exact this ks hg.2.2
  have hlen := hb.len
  rw [mean_eq hd]
  unfold stepM
  by_cases h1 : k = 1
  · have ex : xOf a to (.mk k w ks) = ⟨1, 0, if w.length + ks.length = 0 then a else to, w.length, ks.length, 0, 0⟩ := by unfold xOf; dsimp only; rw [if_neg h0, if_pos h1]
    have ef : framT (.mk k w ks) = .mk 1 w (framK ks) := by rw [framT, if_neg (by omega), h1]
    rw [blkP, if_neg h0, if_pos h1] at hb
    have ew : weight (.mk 1 w (framK ks)) = 1 + (w.length : Int) + ks.length + weightK (framK ks) := by rw [weight, if_neg (by decide), if_pos rfl, framK_len]; omega
    rw [ef, ew] at hl
    have hwk : 0 ≤ weightK (framK ks) := by rw [← sumT_weight]; exact sumT_pos fun t _ => weight_nonneg t
    have eown : ownX ⟨1, 0, if w.length + ks.length = 0 then a else to, w.length, ks.length, 0, 0⟩ = 1 + (w.length : Int) + ks.length := rfl
    rw [ex, ef, ew, if_neg (show ¬(1 : Int) = 0 by decide), if_neg (by rw [eown]; rintro (h | h | h); omega; exact absurd h.1 (show ¬(1 : Int) = 9 by decide); omega), eown]
    have ekx : (kidsX ⟨1, 0, if w.length + ks.length = 0 then a else to, w.length, ks.length, 0, 0⟩).toNat = (framK ks).length := by rw [framK_len]; rfl
    have ewx : wordsX [A] ⟨1, 0, if w.length + ks.length = 0 then a else to, w.length, ks.length, 0, 0⟩ = w := by
      unfold wordsX
      rw [if_neg (show ¬(1 : Int) = 10 by decide), if_pos rfl]
      dsimp only
      rw [segAt_one]
      by_cases hz : w.length + ks.length = 0
      · have : w = [] := List.length_eq_zero_iff.1 (by omega)
        subst this
        rfl
      · rw [if_neg hz]
        exact hb.left.take
    have hloop : loopM (kidM [A] (mean [A] (d - 1)) (mean [A] (d - 2)) ⟨1, 0, if w.length + ks.length = 0 then a else to, w.length, ks.length, 0, 0⟩) (framK ks).length 0 (left - (1 + (w.length : Int) + ks.length)) [] =
        ([] ++ framK ks, left - (1 + (w.length : Int) + ks.length) - sumT weight (framK ks), 0) := by
      refine loopM_list (framK ks) 0 _ [] (fun j hj left' hle => ?_) (fun t _ => weight_nonneg t) (by rw [sumT_weight]; omega)
      rw [framK_len] at hj
      rw [framK_get ks j hj] at hle ⊢
      have hm := getD_mem hj
      have hk2 := hb.right
      obtain ⟨b, q1, q2⟩ := kids_has ks _ _ hk2.left (by have := hk2.right; rw [kidsP_len] at this; rwa [show to + (w.length : Int) + (ks.length : Int) = to + w.length + ks.length by omega]) j hj
      have hpos : 0 ≤ to + (w.length : Int) + j ∧ to + (w.length : Int) + j < A.length := by
        have := hk2.left.len
        rw [kidsP_len] at this
        omega
      obtain ⟨r1, r2⟩ := kid (d - 1) (ks.getD j Tree.nil) _ b left' (massK_mem hm) (by rw [hdI]; exact (rt.kids _ hm).1) ((rt.kids _ hm).2.2.1 (.inl h1)) (hgk _ hm) hpos q1 q2 hle
      have hkx : kidX [A] ⟨1, 0, if w.length + ks.length = 0 then a else to, w.length, ks.length, 0, 0⟩ (0 + (j : Int)) = refAt [A] 0 (to + w.length + j) := by
        unfold kidX
        rw [if_neg (by show ¬((0 : Int) + j < 0 ∨ (ks.length : Int) ≤ 0 + j); omega), if_pos rfl]
        dsimp only
        rw [if_neg (show ¬(w.length + ks.length = 0) by omega), show to + (w.length : Int) + (0 + (j : Int)) = to + w.length + j by omega]
      unfold kidM
      rw [hkx, r1]
      dsimp only
      rw [if_pos rfl, if_neg (by decide), if_pos (.inl rfl), r2]
    rw [ekx, hloop, ewx, sumT_weight]
    simp only [List.nil_append, Prod.mk.injEq, true_and, and_true]
    omega
  by_cases h8 : k = 8
  · have ex : xOf a to (.mk k w ks) = ⟨8, 0, to, 0, 0, ks.length, 0⟩ := by unfold xOf; dsimp only; rw [if_neg h0, if_neg h1, if_neg (by omega), h8]
    have hw0 : w = [] := rt.list h1 h10
    subst hw0
    have ef : framT (.mk k [] ks) = .mk 8 [] (framK ks) := by rw [framT, if_neg (by omega), h8]
    rw [blkP, if_neg h0, if_neg h1, if_pos h8] at hb
    have ew : weight (.mk 8 [] (framK ks)) = 1 + (ks.length : Int) + weightK (framK ks) := by rw [weight, if_neg (by decide), if_neg (by decide), if_pos rfl, framK_len]
    rw [ef, ew] at hl
    have hwk : 0 ≤ weightK (framK ks) := by rw [← sumT_weight]; exact sumT_pos fun t _ => weight_nonneg t
    have eown : ownX ⟨8, 0, to, 0, 0, ks.length, 0⟩ = 1 + (ks.length : Int) := rfl
    rw [ex, ef, ew, if_neg (show ¬(8 : Int) = 0 by decide), if_neg (by rw [eown]; rintro (h | h | h); omega; exact absurd h.1 (show ¬(8 : Int) = 9 by decide); omega), eown]
    have ekx : (kidsX ⟨8, 0, to, 0, 0, ks.length, 0⟩).toNat = (framK ks).length := by rw [framK_len]; rfl
    have hloop : loopM (kidM [A] (mean [A] (d - 1)) (mean [A] (d - 2)) ⟨8, 0, to, 0, 0, ks.length, 0⟩) (framK ks).length 0 (left - (1 + (ks.length : Int))) [] =
        ([] ++ framK ks, left - (1 + (ks.length : Int)) - sumT weight (framK ks), 0) := by
      refine loopM_list (framK ks) 0 _ [] (fun j hj left' hle => ?_) (fun t _ => weight_nonneg t) (by rw [sumT_weight]; omega)
      rw [framK_len] at hj
      rw [framK_get ks j hj] at hle ⊢
      have hm := getD_mem hj
      obtain ⟨b, q1, q2⟩ := kids_has ks _ _ hb.left (by have := hb.right; rwa [kidsP_len] at this) j hj
      have hpos : 0 ≤ to + (j : Int) ∧ to + (j : Int) < A.length := by
        have := hb.left.len
        rw [kidsP_len] at this
        omega
      obtain ⟨r1, r2⟩ := kid (d - 1) (ks.getD j Tree.nil) _ b left' (massK_mem hm) (by rw [hdI]; exact (rt.kids _ hm).1) ((rt.kids _ hm).2.2.1 (.inr h8)) (hgk _ hm) hpos q1 q2 hle
      have hkx : kidX [A] ⟨8, 0, to, 0, 0, ks.length, 0⟩ (0 + (j : Int)) = refAt [A] 0 (to + j) := by
        unfold kidX
        rw [if_neg (by show ¬((0 : Int) + j < 0 ∨ (ks.length : Int) ≤ 0 + j); omega), if_neg (show ¬(8 : Int) = 1 by decide), if_pos rfl]
        dsimp only
        rw [show to + (0 + (j : Int)) = to + j by omega]
      unfold kidM
      rw [hkx, r1]
      dsimp only
      rw [if_pos rfl, if_neg (by decide), if_pos (.inr rfl), r2]
    rw [ekx, hloop, sumT_weight]
    simp only [List.nil_append, Prod.mk.injEq, and_true]
    exact ⟨rfl, by omega⟩
  have hw0 : w = [] := rt.list h1 h10
  subst hw0
  by_cases h9 : k = 9
  · have ex : xOf a to (.mk k [] ks) = ⟨9, 0, to + 1, frW ks, frK ks, ks.length, 0⟩ := by unfold xOf; dsimp only; rw [if_neg h0, if_neg h1, if_pos h9]
    have ef : framT (.mk k [] ks) = .mk 9 [] (ks.map (framS (frW ks) (frK ks))) := by rw [framT, if_pos h9, framR_eq, h9]
    have hkk : ∀ t' ∈ ks, t'.kind = 1 := fun t' ht => (rt.kids t' ht).2.2.2 h9
    rw [blkP, if_neg h0, if_neg h1, if_neg h8, if_pos h9] at hb
    have hb1 : Has A (to + 1) ((rowsP (frW ks) (frK ks) ks (to + 1) (to + 1 + (ks.length * (frW ks + frK ks) : Nat))).1 ++ (rowsP (frW ks) (frK ks) ks (to + 1) (to + 1 + (ks.length * (frW ks + frK ks) : Nat))).2) := Has.right (b := [tagP ks.length (frW ks) (frK ks)]) hb
    have hb2 := hb1.right
    rw [rowsP_len ks _ _ fun t ht => frW_le ht] at hb2
    -- what a struct costs
    have cost : ∀ t' ∈ ks, weight (framS (frW ks) (frK ks) t') = 1 + (frW ks : Int) + frK ks + weightK (framK t'.kids) := by
      intro t' ht
      have := frW_le ht
      unfold framS
      rw [hkk t' ht, weight, if_neg (by decide), if_pos rfl, if_neg (by decide), weightK_app, weightK_nil]
      simp only [List.length_append, zs_len, List.length_replicate, framK_len]
      omega
    let c : Tree → Int := fun t' => weight t' - (1 + (frW ks : Int) + frK ks)
    have hc0 : ∀ t' ∈ ks.map (framS (frW ks) (frK ks)), 0 ≤ c t' := by
      intro t' ht
      obtain ⟨s, hs, rfl⟩ := List.mem_map.1 ht
      show 0 ≤ weight _ - _
      rw [cost s hs]
      have : 0 ≤ weightK (framK s.kids) := by rw [← sumT_weight]; exact sumT_pos fun t _ => weight_nonneg t
      omega
    have hsum : ∀ l : List Tree, sumT c l = weightK l - l.length * (1 + (frW ks : Int) + frK ks) := by
      intro l
      induction l with
      | nil => rw [sumT, weightK]; simp
      | cons t l ih =>
        rw [sumT, weightK, ih, List.length_cons]
        show weight t - _ + _ = _
        rw [Int.natCast_add, Int.add_mul]
        omega
    have ew : weight (.mk 9 [] (ks.map (framS (frW ks) (frK ks)))) = 1 + weightK (ks.map (framS (frW ks) (frK ks))) := by rw [weight, if_neg (by decide), if_neg (by decide), if_neg (by decide)]; omega
    rw [ef, ew] at hl
    have hs := hsum (ks.map (framS (frW ks) (frK ks)))
    have hs0 := sumT_pos hc0
    rw [List.length_map] at hs
    have eown : ownX ⟨9, 0, to + 1, frW ks, frK ks, ks.length, 0⟩ = 1 + (ks.length : Int) * (1 + (frW ks : Int) + frK ks) := rfl
    have hd2 : 0 < ks.length → 2 ≤ d := by
      intro hp
      have hm := getD_mem hp
      have := (rt.kids _ hm).1
      have hk1 := hkk _ hm
      clear hm
      generalize ks.getD 0 Tree.nil = s at *
      obtain ⟨k', w', l'⟩ := s
      have hk1 : k' = 1 := hk1
      rw [rightT, if_neg (by omega), if_neg (by omega)] at this
      split at this
      · cases this
      · omega
    rw [ex, ef, ew, if_neg (show ¬(9 : Int) = 0 by decide), if_neg (by rw [eown]; rintro (h | h | h); omega; (have := h.2.1; have := hd2 (by dsimp only at this; omega); omega); omega), eown]
    have ekx : (kidsX ⟨9, 0, to + 1, frW ks, frK ks, ks.length, 0⟩).toNat = (ks.map (framS (frW ks) (frK ks))).length := by rw [List.length_map]; rfl
    have hloop : loopM (kidM [A] (mean [A] (d - 1)) (mean [A] (d - 2)) ⟨9, 0, to + 1, frW ks, frK ks, ks.length, 0⟩) (ks.map (framS (frW ks) (frK ks))).length 0 (left - (1 + (ks.length : Int) * (1 + (frW ks : Int) + frK ks))) [] =
        ([] ++ ks.map (framS (frW ks) (frK ks)), left - (1 + (ks.length : Int) * (1 + (frW ks : Int) + frK ks)) - sumT c (ks.map (framS (frW ks) (frK ks))), 0) := by
      refine loopM_list _ 0 _ [] (fun j hj left' hle => ?_) hc0 (by omega)
      rw [List.length_map] at hj
      have eg : (ks.map (framS (frW ks) (frK ks))).getD j Tree.nil = framS (frW ks) (frK ks) (ks.getD j Tree.nil) := by
        rw [List.getD_eq_getElem?_getD, List.getElem?_map, List.getElem?_eq_getElem hj, List.getD_eq_getElem?_getD, List.getElem?_eq_getElem hj]; rfl
      rw [eg] at hle ⊢
      have hm := getD_mem hj
      have hfit := frW_le hm
      have hc := cost _ hm
      obtain ⟨b, q1, q2⟩ := rows_has ks _ _ (fun t ht => frW_le ht) hb1.left hb2 j hj
      generalize ht' : ks.getD j Tree.nil = s at *
      have hs1 := hkk s hm
      have hsr := (rt.kids s hm).1
      have hsg := hgk s hm
      have hsm := massK_mem hm
      obtain ⟨sk, sw, sl⟩ := s
      have hs1 : sk = 1 := hs1
      subst hs1
      dsimp only [Tree.words_mk, Tree.kids_mk] at q1 q2 hfit hc
      have rs := riT hsr
      rw [mass] at hsm
      have hrow := q1.len
      simp only [List.length_append, zs_len, kidsP_len] at hrow
      have hcle : weightK (framK sl) ≤ left' := by
        have : c (framS (frW ks) (frK ks) (.mk 1 sw sl)) = weightK (framK sl) := by
          show weight _ - _ = _
          rw [hc]; omega
        rw [this] at hle
        exact hle
      have ec : c (framS (frW ks) (frK ks) (.mk 1 sw sl)) = weightK (framK sl) := by
        show weight _ - _ = _
        rw [hc]; omega
      have hkx : kidX [A] ⟨9, 0, to + 1, frW ks, frK ks, ks.length, 0⟩ (0 + (j : Int)) = (⟨1, 0, to + 1 + (j * (frW ks + frK ks) : Nat), frW ks, frK ks, 0, 0⟩, 0) := by
        unfold kidX
        rw [if_neg (by show ¬((0 : Int) + j < 0 ∨ (ks.length : Int) ≤ 0 + j); omega), if_neg (show ¬(9 : Int) = 1 by decide), if_neg (show ¬(9 : Int) = 8 by decide), if_pos rfl]
        dsimp only
        rw [Int.zero_add, Int.natCast_mul, Int.natCast_add]
      unfold kidM
      rw [hkx]
      dsimp only
      rw [if_pos rfl, if_pos rfl, ec]
      unfold kidsM
      have q3 := q1.right
      have q4 := q3.right
      rw [zs_len] at q4
      rw [show to + 1 + ((j * (frW ks + frK ks) : Nat) : Int) + (sw.length : Int) + ((frW ks - sw.length : Nat) : Int) = to + 1 + ((j * (frW ks + frK ks) : Nat) : Int) + frW ks by omega] at q4
      have ewx : wordsX [A] ⟨1, 0, to + 1 + (j * (frW ks + frK ks) : Nat), frW ks, frK ks, 0, 0⟩ = sw ++ zs (frW ks - sw.length) := by
        unfold wordsX
        rw [if_neg (show ¬(1 : Int) = 10 by decide), if_pos rfl]
        dsimp only
        rw [segAt_one]
        have : Has A (to + 1 + (j * (frW ks + frK ks) : Nat)) (sw ++ zs (frW ks - sw.length)) := by
          rw [← List.append_assoc] at q1
          exact q1.left
        have := this.take
        rw [List.length_append, zs_len, show sw.length + (frW ks - sw.length) = frW ks by omega] at this
        rw [Int.toNat_natCast]
        exact this
      have hsumk : sumT weight (framK sl ++ List.replicate (frK ks - sl.length) Tree.nil) = weightK (framK sl) := by rw [sumT_weight, weightK_app, weightK_nil]; omega
      have hlk : (framK sl ++ List.replicate (frK ks - sl.length) Tree.nil).length = frK ks := by rw [List.length_append, framK_len, List.length_replicate]; omega
      have hin : loopM (fun j' left => if (kidX [A] ⟨1, 0, to + 1 + (j * (frW ks + frK ks) : Nat), frW ks, frK ks, 0, 0⟩ j').2 = 0 then mean [A] (d - 2) (kidX [A] ⟨1, 0, to + 1 + (j * (frW ks + frK ks) : Nat), frW ks, frK ks, 0, 0⟩ j').1 left else (Tree.nil, left, (kidX [A] ⟨1, 0, to + 1 + (j * (frW ks + frK ks) : Nat), frW ks, frK ks, 0, 0⟩ j').2)) (framK sl ++ List.replicate (frK ks - sl.length) Tree.nil).length 0 left' [] =
          ([] ++ (framK sl ++ List.replicate (frK ks - sl.length) Tree.nil), left' - sumT weight (framK sl ++ List.replicate (frK ks - sl.length) Tree.nil), 0) := by
        refine loopM_list _ 0 left' [] (fun i hi left2 hle2 => ?_) (fun t _ => weight_nonneg t) (by rw [hsumk]; exact hcle)
        rw [hlk] at hi
        have hkx2 : kidX [A] ⟨1, 0, to + 1 + (j * (frW ks + frK ks) : Nat), frW ks, frK ks, 0, 0⟩ (0 + (i : Int)) = refAt [A] 0 (to + 1 + (j * (frW ks + frK ks) : Nat) + frW ks + i) := by
          unfold kidX
          rw [if_neg (by show ¬((0 : Int) + i < 0 ∨ (frK ks : Int) ≤ 0 + i); omega), if_pos rfl]
          dsimp only
          rw [Int.zero_add]
        rw [hkx2]
        by_cases hi2 : i < sl.length
        · have egk : (framK sl ++ List.replicate (frK ks - sl.length) Tree.nil).getD i Tree.nil = framT (sl.getD i Tree.nil) := by
            rw [List.getD_eq_getElem?_getD, List.getElem?_append_left (by rw [framK_len]; exact hi2), ← List.getD_eq_getElem?_getD, framK_get sl i hi2]
          rw [egk] at hle2 ⊢
          have hm2 := getD_mem hi2
          obtain ⟨b2, p1, p2⟩ := kids_has sl _ _ q4.left q2 i hi2
          have hd2' := hd2 (by omega)
          have hsg2 : rng (sl.getD i Tree.nil) := by
            have : ∀ l : List Tree, rngK l → ∀ t' ∈ l, rng t' := by
              intro l
              induction l with
              | nil => intro _ t' h; cases h
              | cons x l ih =>
                intro h t' ht
                rw [rngK] at h
                rcases List.mem_cons.1 ht with rfl | ht
                · exact h.1
                · exact ih h.2 t' ht
            rw [rng] at hsg
            exact this sl hsg.2.2 _ hm2
          obtain ⟨r1, r2⟩ := kid (d - 2) (sl.getD i Tree.nil) _ b2 left2 (by have := massK_mem hm2; omega) (by rw [show ((d - 2 : Nat) : Int) = (d : Int) - 1 - 1 by omega]; exact (rs.kids _ hm2).1) ((rs.kids _ hm2).2.2.1 (.inl rfl)) hsg2 (by omega) p1 p2 hle2
          rw [r1]
          dsimp only
          rw [if_pos rfl, r2]
        · have egk : (framK sl ++ List.replicate (frK ks - sl.length) Tree.nil).getD i Tree.nil = Tree.nil := by
            rw [List.getD_eq_getElem?_getD, List.getElem?_append_right (by rw [framK_len]; omega), List.getElem?_replicate]
            split <;> rfl
          rw [egk]
          have q5 := q4.right
          rw [kidsP_len] at q5
          have hz : A.getD (to + 1 + (j * (frW ks + frK ks) : Nat) + frW ks + i).toNat 0 = 0 := by
            have := q5.get (i := i - sl.length) (by rw [zs_len]; omega)
            rw [show to + 1 + ((j * (frW ks + frK ks) : Nat) : Int) + frW ks + (sl.length : Int) + ((i - sl.length : Nat) : Int) = to + 1 + (j * (frW ks + frK ks) : Nat) + frW ks + i by omega] at this
            rw [this, List.getD_eq_getElem?_getD, zs, List.getElem?_replicate]
            split <;> rfl
          have hr0 : refAt [A] 0 (to + 1 + (j * (frW ks + frK ks) : Nat) + frW ks + i) = (xz, 0) := by
            have hf : follow [A] 0 (to + 1 + (j * (frW ks + frK ks) : Nat) + frW ks + i) = (locZ, 0) := by
              unfold follow
              rw [if_pos (hasN_one.2 ⟨by omega, by omega, by omega⟩), getS_one, hz]
              rfl
            unfold refAt
            rw [hf]
            rfl
          rw [hr0]
          dsimp only
          rw [if_pos rfl, mean_xz]
          simp [Tree.nil, weight]
      rw [hlk, hsumk] at hin
      dsimp only
      rw [ewx, Int.toNat_natCast, hin]
      unfold framS
      rw [if_neg (show ¬(Tree.mk 1 sw sl).kind = 9 from (by show ¬(1 : Int) = 9; decide)), List.nil_append]
      rfl
    rw [ekx, hloop, hs]
    simp only [List.nil_append, Prod.mk.injEq, and_true]
    exact ⟨rfl, by omega⟩
  · -- numbers
    have hk27 : 2 ≤ k ∧ k ≤ 7 := by omega
    obtain ⟨hfit, hat⟩ := rt.data hk27.1 hk27.2
    have ex : xOf a to (.mk k [] ks) = ⟨k, 0, to, 0, 0, ks.length, 0⟩ := by unfold xOf; dsimp only; rw [if_neg h0, if_neg h1, if_neg h9]
    have eat : ∀ l : List Tree, (∀ t ∈ l, t.kind = 10 ∧ t.kids.length = 0 ∧ t.words.length = 1) → framK l = l ∧ weightK l = l.length := by
      intro l
      induction l with
      | nil => intro _; exact ⟨by rw [framK], by rw [weightK]; rfl⟩
      | cons t l ih =>
        intro h
        obtain ⟨i1, i2⟩ := ih fun t ht => h t (List.mem_cons_of_mem _ ht)
        have h1 := h t List.mem_cons_self
        obtain ⟨k', w', l'⟩ := t
        obtain ⟨e1, e2, _⟩ := h1
        dsimp only [Tree.kind_mk, Tree.kids_mk] at e1 e2
        have e2 := List.length_eq_zero_iff.1 e2
        subst e1 e2
        refine ⟨by rw [framK, i1, framT, if_neg (by decide), framK], ?_⟩
        rw [weightK, i2, weight, if_neg (by decide), if_neg (by decide), if_neg (by decide), weightK, List.length_cons]
        omega
    obtain ⟨e1, e2⟩ := eat ks hat
    have ef : framT (.mk k [] ks) = .mk k [] ks := by rw [framT, if_neg h9, e1]
    have ew : weight (.mk k [] ks) = 1 + (ks.length : Int) := by rw [weight, if_neg h0, if_neg h1, if_neg h8, e2]; omega
    rw [ef, ew] at hl
    have eown : ownX ⟨k, 0, to, 0, 0, ks.length, 0⟩ = 1 + (ks.length : Int) := by unfold ownX; rw [if_neg h1, if_neg h9]
    rw [ex, ef, ew, if_neg h0, if_neg (by rw [eown]; rintro (h | h | h); omega; exact absurd h.1 h9; omega), eown]
    have ekx : (kidsX ⟨k, 0, to, 0, 0, ks.length, 0⟩).toNat = ks.length := by unfold kidsX; rw [if_neg h1]; rfl
    have hblk : blkP (.mk k [] ks) to = putW (k - 2) (numsP ks) := by
      rw [blkP, if_neg h0, if_neg h1, if_neg h8, if_neg h9]
      unfold putR
      rw [if_pos hfit]
    rw [hblk] at hb
    have hnW : okW (numsP ks) := by
      intro x hx
      obtain ⟨t', ht', rfl⟩ := List.mem_map.1 hx
      have := hgk t' ht'
      obtain ⟨k', w', l'⟩ := t'
      rw [rng] at this
      exact getD_word this.2.1 0
    have hnl : (numsP ks).length = ks.length := by rw [numsP, List.length_map]
    have hlk := rt.len
    have hloop : loopM (kidM [A] (mean [A] (d - 1)) (mean [A] (d - 2)) ⟨k, 0, to, 0, 0, ks.length, 0⟩) ks.length 0 (left - (1 + (ks.length : Int))) [] =
        ([] ++ ks, left - (1 + (ks.length : Int)) - sumT (fun _ => 0) ks, 0) := by
      refine loopM_list (cost := fun _ => 0) ks 0 _ [] (fun j hj left' hle => ?_) (fun t _ => Int.le_refl _) ?_
      · have hm := getD_mem hj
        have hkx : kidX [A] ⟨k, 0, to, 0, 0, ks.length, 0⟩ (0 + (j : Int)) = (⟨10, 0, 0, 0, 0, 0, getW (A.drop to.toNat) (k - 2) j⟩, 0) := by
          unfold kidX
          rw [if_neg (by unfold kidsX; rw [if_neg h1]; dsimp only; omega), if_neg h1, if_neg h8, if_neg h9]
          dsimp only
          rw [segAt_one, Int.zero_add]
        have hget : getW (A.drop to.toNat) (k - 2) j = (numsP ks).getD j 0 := by
          obtain ⟨s, hs⟩ := hb.drop
          rw [hs]
          by_cases hw : 1 ≤ wd (k - 2)
          · have := getW_putW hw hnW (by rw [hnl]; omega) hfit (j := (j : Int)) (by omega) (by rw [hnl]; omega)
            rw [← Int.toNat_natCast j, ← this, Int.toNat_natCast]
            obtain ⟨r1, r2⟩ := room_at hw (i := (j : Int)) (n := ks.length) (by omega) (by omega) (by omega)
            have hpl := putW_len (k - 2) (numsP ks)
            rw [hnl] at hpl
            unfold getW
            rw [if_neg (by rw [List.length_append]; omega), if_neg (by omega)]
            rw [List.getD_eq_getElem?_getD, List.getElem?_append_left (by omega), ← List.getD_eq_getElem?_getD]
          · have hw0 : wd (k - 2) = 0 := by
              unfold fitsA at hfit
              rw [Bool.and_eq_true] at hfit
              have := of_decide_eq_true hfit.1
              omega
            have hf := fitsA_get hfit (i := j) (by rw [hnl]; exact hj)
            have hf := fits_lt hf
            rw [hw0] at hf
            have h0' := getD_word hnW j
            have : (numsP ks).getD j 0 = 0 := by have h2 : (numsP ks).getD j 0 < 2 ^ (0 : Int).toNat := hf.2; have h3 : (2 : Int) ^ (0 : Int).toNat = 1 := rfl; omega
            rw [this]
            unfold getW
            rw [if_pos (by omega)]
        have htj : ks.getD j Tree.nil = .mk 10 [(numsP ks).getD j 0] [] := by
          have e3 : (numsP ks).getD j 0 = (ks.getD j Tree.nil).words.getD 0 0 := by
            rw [numsP, List.getD_eq_getElem?_getD, List.getElem?_map, List.getElem?_eq_getElem hj, List.getD_eq_getElem?_getD (l := ks), List.getElem?_eq_getElem hj]; rfl
          rw [e3]
          have := hat _ hm
          generalize ks.getD j Tree.nil = s at this ⊢
          obtain ⟨k', w', l'⟩ := s
          obtain ⟨e1, e2, e3⟩ := this
          dsimp only [Tree.kind_mk, Tree.kids_mk, Tree.words_mk] at e1 e2 e3 ⊢
          have e2 := List.length_eq_zero_iff.1 e2
          subst e1 e2
          match w', e3 with
          | [x], _ => rfl
        unfold kidM
        rw [hkx]
        dsimp only
        rw [if_pos rfl, if_neg h9, if_neg (by omega), htj, hget]
        unfold wordsX
        rw [if_pos rfl]
        simp
      · have : sumT (fun _ => 0) ks = 0 := by
          have : ∀ l : List Tree, sumT (fun _ => 0) l = 0 := by intro l; induction l with | nil => rfl | cons t l ih => rw [sumT, ih]; rfl
          exact this ks
        rw [this]; omega
    have hs0 : sumT (fun _ => 0) ks = 0 := by
      have : ∀ l : List Tree, sumT (fun _ => 0) l = 0 := by intro l; induction l with | nil => rfl | cons t l ih => rw [sumT, ih]; rfl
      exact this ks
    have ewx : wordsX [A] ⟨k, 0, to, 0, 0, ks.length, 0⟩ = [] := by unfold wordsX; dsimp only; rw [if_neg (show ¬k = 10 from h10), if_neg h1]
    rw [ekx, hloop, hs0, ewx]
    simp only [List.nil_append, Prod.mk.injEq, true_and, and_true]
    omega

end Go.AM.Ythokdjgpdonhgaa

namespace Go.AM.Ythokdjgpdonhgaa
open Go.AM Go.Proofs

theorem trim_zs (w : List Int) : ∀ n : Nat, trim (w ++ zs n) = trim w := by
  have one : ∀ l : List Int, trim (l ++ [0]) = trim l := by
    intro l
    induction l with
    | nil => rfl
    | cons x r ih =>
      rw [List.cons_append, trim, trim, ih]
  intro n
  induction n with
  | zero => simp [zs]
  | succ n ih => rw [zs_add, ← List.append_assoc, show zs 1 = [0] from rfl, one, ih]
theorem trimK_nils (l : List Tree) : ∀ n : Nat, trimK (l ++ List.replicate n Tree.nil) = trimK l := by
  intro n
  induction n with
  | zero => simp
  | succ n ih => rw [List.replicate_succ', ← List.append_assoc, trimK_zero rfl, ih]
theorem normK_append : ∀ a b : List Tree, normK (a ++ b) = normK a ++ normK b
  | [], b => by rw [normK]; rfl
  | t :: r, b => by rw [List.cons_append, normK, normK, normK_append r b]; rfl
theorem normK_replicate : ∀ n : Nat, normK (List.replicate n Tree.nil) = List.replicate n Tree.nil
  | 0 => by rw [List.replicate_zero, normK]
  | n + 1 => by rw [List.replicate_succ, normK, normK_replicate n, normT_nil]

theorem norm_fram : ∀ (N : Nat) (t : Tree), mass t ≤ N → ∀ d, rightT t d = true → normT (framT t) = normT t := by
  intro N
  induction N with
  | zero => intro t h; have := mass_pos t; omega
  | succ N ih =>
  intro t hN d hr
  obtain ⟨k, w, ks⟩ := t
  rw [mass] at hN
  have rt := riT hr
  have kidsN : ∀ (l : List Tree), massK l ≤ N → (∀ t ∈ l, ∃ d, rightT t d = true) → normK (framK l) = normK l := by
    intro l
    induction l with
    | nil => intro _ _; rw [framK]
    | cons t l ih2 =>
      intro hm h
      rw [massK] at hm
      obtain ⟨d', h'⟩ := h t List.mem_cons_self
      rw [framK, normK, normK, ih t (by omega) d' h', ih2 (by omega) fun t ht => h t (List.mem_cons_of_mem _ ht)]
  rw [framT, normT, normT]
  by_cases h0 : k = 0
  · rw [if_pos h0, if_pos h0]
  rw [if_neg h0, if_neg h0]
  by_cases h1 : k = 1
  · rw [if_pos h1, if_pos h1, if_neg (by omega), kidsN ks (by omega) fun t ht => ⟨_, (rt.kids t ht).1⟩]
  rw [if_neg h1, if_neg h1]
  by_cases h9 : k = 9
  · rw [if_pos h9, framR_eq]
    have : ∀ (l : List Tree) (fw fk : Nat), massK l ≤ N → (∀ t ∈ l, t.kind = 1 ∧ ∃ d, rightT t d = true) → normK (l.map (framS fw fk)) = normK l := by
      intro l fw fk
      induction l with
      | nil => intro _ _; rfl
      | cons t l ih2 =>
        intro hm h
        rw [massK] at hm
        obtain ⟨k1, d', h'⟩ := h t List.mem_cons_self
        rw [List.map_cons, normK, normK, ih2 (by omega) fun t ht => h t (List.mem_cons_of_mem _ ht)]
        congr 1
        obtain ⟨k', w', l'⟩ := t
        have k1 : k' = 1 := k1
        subst k1
        have r' := riT h'
        rw [mass] at hm
        unfold framS
        rw [if_neg (show ¬(Tree.mk 1 w' l').kind = 9 from (by show ¬(1 : Int) = 9; decide))]
        show normT (.mk 1 (w' ++ zs (fw - w'.length)) (framK l' ++ List.replicate (fk - l'.length) Tree.nil)) = normT (.mk 1 w' l')
        rw [normT, normT, if_neg (by decide), if_pos rfl, if_neg (by decide), if_pos rfl, trim_zs, normK_append, normK_replicate, trimK_nils, kidsN l' (by omega) fun t ht => ⟨_, (r'.kids t ht).1⟩]
    rw [this ks _ _ (by omega) fun t ht => ⟨(rt.kids t ht).2.2.2 h9, _, (rt.kids t ht).1⟩]
  · rw [if_neg h9, kidsN ks (by omega) fun t ht => ⟨_, (rt.kids t ht).1⟩]

theorem lay_self {n : Tree} {d : Int} (hr : rightT n d = true) (h10 : n.kind ≠ 10) :
    (layP [0] 0 n).length = sizeN n + 1 ∧ (layP [0] 0 n).getD 0 0 = headP 0 1 n ∧ Has (layP [0] 0 n) 1 (blkP n 1) := by
  have hb := blkP_len n d 1 hr h10
  unfold layP
  by_cases h0 : n.kind = 0
  · have rt := riT' hr
    have e := rt.nil h0
    have hs : sizeN n = 0 := by rw [size_eq, if_neg (by omega), if_neg (by omega), if_neg (by omega), if_neg (by omega), e.2]; rfl
    have hbl : blkP n 1 = [] := List.length_eq_zero_iff.1 (by omega)
    rw [if_pos h0, hs, hbl]
    refine ⟨rfl, ?_, ⟨[0], [], rfl, rfl⟩⟩
    rw [head_eq, if_pos h0]
    rfl
  · rw [if_neg h0]
    refine ⟨?_, rfl, ⟨[headP 0 1 n], [], by simp, rfl⟩⟩
    rw [List.length_append, List.length_set]
    show 1 + (blkP n 1).length = _
    omega

theorem lay_mean {n : Tree} (hr : rightT n 64 = true) (h10 : n.kind ≠ 10) (hg : rng n) (hs : sizeN n < 131072) {left : Int} (hl : weight (framT n) ≤ left) :
    refAt [layP [0] 0 n] 0 0 = (xOf 0 1 n, 0) ∧ mean [layP [0] 0 n] 64 (xOf 0 1 n) left = (framT n, left - weight (framT n), 0) := by
  obtain ⟨h1, h2, h3⟩ := lay_self hr h10
  have ha : (0 : Int) ≤ 0 ∧ (0 : Int) < (layP [0] 0 n).length := ⟨Int.le_refl _, by omega⟩
  exact ⟨refAt_lay (by omega) ha hr h10 h2 h3, mean_lay (by omega) (mass n) n (Nat.le_refl _) 64 0 1 left ha hr h10 hg h2 h3 hl⟩

theorem enc_yes {t : Tree} {m : Int} (h : (encP t m).2 = true) : rightT t 64 = true ∧ t.kind ≠ 10 ∧ (sizeN (normT t) : Int) < m ∧ sizeN (normT t) < 131072 ∧ encP t m = (layP [0] 0 (normT t), true) := by
  unfold encP at h ⊢
  split at h
  · rename_i h1
    rw [if_pos h1]
    split at h
    · rename_i h2
      rw [if_pos h2]
      exact ⟨h1.1, h1.2, h2.1, h2.2, rfl⟩
    · cases h
  · cases h
theorem enc_no {t : Tree} {m : Int} (h : (encP t m).2 = false) : encP t m = ([], false) := by
  unfold encP at h ⊢
  split
  · rename_i h1
    rw [if_pos h1] at h
    split
    · rename_i h2
      rw [if_pos h2] at h
      cases h
    · rfl
  · rfl
theorem enc_len (t : Tree) (m : Int) : (encP t m).1.length ≤ 131072 := by
  cases h : (encP t m).2 with
  | false => rw [enc_no h]; simp
  | true =>
    obtain ⟨h1, h2, _, h4, h5⟩ := enc_yes h
    rw [h5]
    have := (lay_self (rightT_norm _ _ h1) (by rw [normT_kind]; exact h2)).1
    dsimp only
    omega

theorem enc_inj {a b : Tree} {m : Int} (ga : rng a) (gb : rng b) (ha : (encP a m).2 = true) (hb : (encP b m).2 = true) : (encP a m).1 = (encP b m).1 ↔ normT a = normT b := by
  obtain ⟨a1, a2, a3, a4, a5⟩ := enc_yes ha
  obtain ⟨b1, b2, b3, b4, b5⟩ := enc_yes hb
  rw [a5, b5]
  dsimp only
  constructor
  · intro h
    have w1 := weight_nonneg (framT (normT a))
    have w2 := weight_nonneg (framT (normT b))
    have ra := rightT_norm _ _ a1
    have rb := rightT_norm _ _ b1
    obtain ⟨p1, p2⟩ := lay_mean ra (by rw [normT_kind]; exact a2) (rng_norm _ ga) a4 (left := weight (framT (normT a)) + weight (framT (normT b))) (by omega)
    obtain ⟨q1, q2⟩ := lay_mean rb (by rw [normT_kind]; exact b2) (rng_norm _ gb) b4 (left := weight (framT (normT a)) + weight (framT (normT b))) (by omega)
    rw [h, q1] at p1
    have e := (Prod.mk.inj p1).1
    rw [h, ← e, q2] at p2
    have e2 := (Prod.mk.inj p2).1
    have n1 := norm_fram _ _ (Nat.le_refl _) _ ra
    have n2 := norm_fram _ _ (Nat.le_refl _) _ rb
    rw [normT_idem] at n1 n2
    rw [← n1, ← n2, e2]
  · intro h
    rw [h]

end Go.AM.Ythokdjgpdonhgaa

namespace Go.AM.Ythokdjgpdonhgaa
open Go.AM Go.Proofs

theorem c35 : Contract Try.prog cfg 35 spec35 := by
  refine make35 c71 c72 c73 c74 c1075 ?_
  intro t most _ hp
  obtain ⟨hm, hg⟩ := hp
  dsimp only at hm hg
  have no : ¬(rightT t 64 = true ∧ t.kind ≠ 10 ∧ (sizeN (normT t) : Int) < most ∧ sizeN (normT t) < 131072) → EndsQ cfg Try.f35.ntmps Try.f35.results.toList (res35 (t, most, ())) [] .ret (⟨[(4, .c (.nils)), (5, .c (.bool false))], [], []⟩ : LSt U) := by
    intro h
    refine ends_eq (r' := .tup [(false, [.slice (U := U) .u64 [] .unk]), (false, [.bool false])]) ?_ (by (repeat' (first | exact trivial | exact rfl | refine And.intro ?_ ?_)))
    simp only [res35]
    unfold encP
    split
    · rw [if_neg (by rename_i h2; exact fun h3 => h ⟨h2.1, h2.2, h3⟩)]
    · rfl
  have hn := normT_mass t
  refine vc35 _ _ _ ?_
  rintro y1 rfl y2 rfl
  rw [normT_idem]
  (simp only [vcT, vcS])
  have q1 : mass y1 ≤ 1000000000000 := by omega
  have q2 : mass (normT y1) ≤ 1000000 := by omega
  refine ⟨⟨hm, hg⟩, fun h => no (fun h2 => ?_), fun h => ⟨q1, ⟨q2, 64, rightT_norm _ _ h.1⟩, fun h2 => no (fun h3 => ?_), fun h2 => ⟨⟨rfl, by decide, by decide⟩, ⟨⟨Int.le_refl _, by dsimp only; simp [zs], by dsimp only; simp [zs]; omega⟩, ⟨q2, rng_norm _ hg⟩, ?_, 64, rightT_norm _ _ h.1⟩, ?_⟩⟩⟩
  · rcases h with h | h
    · rw [h2.1] at h; cases h
    · exact h2.2.1 h
  · omega
  · dsimp only
    rw [normT_kind]
    exact h.2
  · refine ends_eq (r' := .tup [(false, [.slice (U := U) .u64 (layP [0] 0 (normT y1)) .unk]), (false, [.bool true])]) ?_ (by (repeat' (first | exact trivial | exact rfl | refine And.intro ?_ ?_)))
    simp only [res35]
    unfold encP
    rw [if_pos ⟨h.1, h.2⟩, if_pos (by omega)]

theorem c34 : Contract Try.prog cfg 34 spec34 := by
  refine make34 c35 c37 ?_
  rintro _ hp
  have e : encP (Tree.mk 1 [5] [Tree.mk 8 [] [Tree.mk 0 [] []]]) 9 = ([281479271677952, 5, 60129542145, 0], true) := by rfl
  refine vc34 _ ?_
  rw [e]
  (simp only [vcT, vcS])
  refine ⟨⟨by decide, ?_⟩, by show (_ : Nat) ≤ _; decide, ?_⟩
  · refine ⟨by decide, ?_, ⟨by decide, ?_, ⟨by decide, ?_, trivial⟩, trivial⟩, trivial⟩
    all_goals (intro x hx; simp at hx; try omega)
  · (repeat' (first | exact trivial | exact rfl | refine And.intro ?_ ?_))

theorem few_mass {t : Tree} (h : 0 ≤ shallow t 80 3000) : mass t ≤ 1000000 := by
  have := shallow_mass t 80 3000 h
  omega

theorem c7 : Contract Try.prog cfg 7 spec7 := by
  refine make7 c33 c34 c35 c38 c37 ?_
  intro a b _ hp
  obtain ⟨⟨sa, ga⟩, sb, gb⟩ := hp
  dsimp only at sa ga sb gb
  refine vc7 _ _ _ ?_
  rintro y1 rfl y2 rfl
  (simp only [vcT, vcS])
  have hl := enc_len y1 131072
  have hi := enc_inj (a := y1) (b := y2) (m := 131072) ga gb
  refine ⟨sa, fun _ => sb, fun _ => ⟨trivial, ends_bool rfl rfl⟩, fun h => ?_⟩
  have ha := few_mass h.1
  have hb := few_mass h.2
  refine ⟨⟨ha, ga⟩, ⟨hb, gb⟩, fun _ => ⟨trivial, ends_bool rfl rfl⟩, fun h2 => ⟨by show (_ : Nat) ≤ _; dsimp only; omega, ⟨by dsimp only; omega, by dsimp only; omega⟩, fun _ => trivial, ends_bool rfl ?_⟩⟩
  have e : sameT (normT y1) (normT y2) = decide ((encP y1 131072).1 = (encP y2 131072).1) := by
    unfold sameT
    by_cases h3 : normT y1 = normT y2
    · simp [h3, (hi h2.1 h2.2).2 h3]
    · have : ¬(encP y1 131072).1 = (encP y2 131072).1 := fun h4 => h3 ((hi h2.1 h2.2).1 h4)
      simp [h3, this]
  rw [e]
  cases decide ((encP y1 131072).1 = (encP y2 131072).1) <;> rfl

end Go.AM.Ythokdjgpdonhgaa
