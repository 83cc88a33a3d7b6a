import Derived.Test.YthokdjgpdonhgaaQG5
set_option linter.unusedSimpArgs false
set_option linter.unusedVariables false
namespace Go.AM.Ythokdjgpdonhgaa
open Go.AM Go.Proofs

theorem segO_some {a : Option Arena} (h : a.isSome = true) : (a.getD (Arena.mk [] 0 0 0)).segs = segO a := by
  cases a with
  | none => cases h
  | some x => rfl

theorem c112 : Contract Try.prog cfg 112 spec112 := by
  refine make112 ?_
  intro a _ hp
  refine vc112 _ _ ?_
  (simp only [vcT, bif_tl, bif_fr, bif_tlf, bif_frf, Bool.not_eq_true', Bool.not_eq_false', decide_eq_true_eq, decide_eq_false_iff_not, beq_iff_eq, beq_eq_false_iff_ne, bne_iff_ne, ne_eq, bne_eq_false_iff_eq, Bool.or_eq_true, Bool.and_eq_true, Bool.or_eq_false_iff, Bool.and_eq_false_imp])
  refine ⟨fun h => ends_int rfl ?_, fun h => ?_⟩
  · show (0 : Int) = ((segO a).length : Int)
    cases a with
    | none => rfl
    | some x => cases h
  · have hs : a.isSome = true := by
      cases a with
      | none => cases h
      | some x => rfl
    refine ⟨hs, hs, ends_int rfl ?_⟩
    rw [segO_some hs]

theorem some_of_len {a : Option Arena} {s : Int} (h0 : 0 ≤ s) (h : s < ((segO a).length : Int)) : a.isSome = true := by
  cases a with
  | none => simp [segO] at h; omega
  | some x => rfl

theorem segAt_in {l : List (List Int)} {s : Int} (h : 0 ≤ s) : segAt l s = l.getD s.toNat [] := by unfold segAt; rw [if_neg (by omega)]

theorem segAt_out {l : List (List Int)} {s : Int} (h : s < 0 ∨ (l.length : Int) ≤ s) : segAt l s = [] := by
  unfold segAt
  split
  · rfl
  · rw [List.getD_eq_getElem?_getD, List.getElem?_eq_none (by omega)]; rfl

theorem c111 : Contract Try.prog cfg 111 spec111 := by
  refine make111 c112 ?_
  intro a s _ hp
  refine vc111 _ _ _ ?_
  (simp only [vcT, bif_tl, bif_fr, bif_tlf, bif_frf, Bool.not_eq_true', Bool.not_eq_false', decide_eq_true_eq, decide_eq_false_iff_not, beq_iff_eq, beq_eq_false_iff_ne, bne_iff_ne, ne_eq, bne_eq_false_iff_eq, Bool.or_eq_true, Bool.and_eq_true, Bool.or_eq_false_iff, Bool.and_eq_false_imp])
  refine ⟨fun _ => hp, fun h => ends_int rfl ?_, fun h => ?_⟩
  · show (0 : Int) = ((segAt (segO a) s).length : Int)
    rw [segAt_out h]; rfl
  · have hs := some_of_len (a := a) (s := s) (by omega) (by omega)
    rw [segO_some hs]
    refine ⟨hs, hs, by omega, ends_int rfl ?_⟩
    show _ = ((segAt (segO a) s).length : Int)
    rw [segAt_in (by omega)]

theorem c85 : Contract Try.prog cfg 85 spec85 := by
  refine make85 c112 c111 ?_
  intro a s x n _ hp
  refine vc85 _ _ _ _ _ ?_
  have hl := (okSeg_at hp s).1
  (simp only [vcT, bif_tl, bif_fr, bif_tlf, bif_frf, Bool.not_eq_true', Bool.not_eq_false', decide_eq_true_eq, decide_eq_false_iff_not, beq_iff_eq, beq_eq_false_iff_ne, bne_iff_ne, ne_eq, bne_eq_false_iff_eq, Bool.or_eq_true, Bool.and_eq_true, Bool.or_eq_false_iff, Bool.and_eq_false_imp])
  refine ⟨hp, fun _ => hp, fun h => by dsimp only at hl; ((unfold InR; omega)), ends_bool rfl ?_⟩
  rw [Bool.eq_iff_iff]
  show _ ↔ hasN (segO a) s x n = true
  rw [hasN_iff]
  (simp only [vcT, bif_tl, bif_fr, bif_tlf, bif_frf, Bool.not_eq_true', Bool.not_eq_false', decide_eq_true_eq, decide_eq_false_iff_not, beq_iff_eq, beq_eq_false_iff_ne, bne_iff_ne, ne_eq, bne_eq_false_iff_eq, Bool.or_eq_true, Bool.and_eq_true, Bool.or_eq_false_iff, Bool.and_eq_false_imp])
  omega

theorem c62 : Contract Try.prog cfg 62 spec62 := by
  refine make62 c85 ?_
  intro a s x _ hp
  refine vc62 _ _ _ _ ?_
  (simp only [vcT, bif_tl, bif_fr, bif_tlf, bif_frf, Bool.not_eq_true', Bool.not_eq_false', decide_eq_true_eq, decide_eq_false_iff_not, beq_iff_eq, beq_eq_false_iff_ne, bne_iff_ne, ne_eq, bne_eq_false_iff_eq, Bool.or_eq_true, Bool.and_eq_true, Bool.or_eq_false_iff, Bool.and_eq_false_imp])
  refine ⟨hp, fun h => ?_, fun h => ?_⟩
  · refine ends_eq (r' := .tup [(false, [.int .u64 0]), (false, [.bool false])]) ?_ (by (repeat' (first | exact trivial | exact rfl | refine And.intro ?_ ?_)))
    simp only [res62, h]; rfl
  · have hh := hasN_iff.1 h
    have hs := some_of_len (a := a) (s := s) hh.1 hh.2.1
    rw [segO_some hs, ← segAt_in hh.1]
    refine ⟨hs, hs, by omega, by omega, ?_⟩
    refine ends_eq (r' := .tup [(false, [.int .u64 (getS (segO a) s x)]), (false, [.bool true])]) ?_ (by (repeat' (first | exact trivial | exact rfl | refine And.intro ?_ ?_)))
    simp only [res62, h]; rfl

theorem c60 : Contract Try.prog cfg 60 spec60 := by
  refine make60 ?_
  intro l _ hp
  simp only [pre60] at hp
  refine vc60 _ _ ?_
  (simp only [vcT, bif_tl, bif_fr, bif_tlf, bif_frf, Bool.not_eq_true', Bool.not_eq_false', decide_eq_true_eq, decide_eq_false_iff_not, beq_iff_eq, beq_eq_false_iff_ne, bne_iff_ne, ne_eq, bne_eq_false_iff_eq, Bool.or_eq_true, Bool.and_eq_true, Bool.or_eq_false_iff, Bool.and_eq_false_imp])
  refine ⟨fun h => ?_, by simp; omega, ?_⟩
  · subst h; (repeat' (first | exact trivial | exact rfl | refine And.intro ?_ ?_))
  · rw [List.nil_append]; (repeat' (first | exact trivial | exact rfl | refine And.intro ?_ ?_))

theorem c114 : Contract Try.prog cfg 114 spec114 := by
  refine make114 c85 c60 ?_
  intro a s x n _ hp
  refine vc114 _ _ _ _ _ ?_
  (simp only [vcT, bif_tl, bif_fr, bif_tlf, bif_frf, Bool.not_eq_true', Bool.not_eq_false', decide_eq_true_eq, decide_eq_false_iff_not, beq_iff_eq, beq_eq_false_iff_ne, bne_iff_ne, ne_eq, bne_eq_false_iff_eq, Bool.or_eq_true, Bool.and_eq_true, Bool.or_eq_false_iff, Bool.and_eq_false_imp])
  refine ⟨hp, fun h => ?_, fun h => ?_⟩
  · refine ends_eq (r' := .tup [(false, [.slice (U := U) .u64 [] .unk]), (false, [.bool false])]) ?_ (by (repeat' (first | exact trivial | exact rfl | refine And.intro ?_ ?_)))
    simp only [res114, h]; rfl
  · have hh := hasN_iff.1 h
    have hl := (okSeg_at hp s).1
    dsimp only at hl
    have hs := some_of_len (a := a) (s := s) hh.1 hh.2.1
    rw [segO_some hs, ← segAt_in hh.1]
    refine ⟨hs, hs, by omega, by ((unfold InR; omega)), by omega, ?_, ?_⟩
    · show (List.drop _ (List.take _ _)).length ≤ _
      simp; omega
    · refine ends_eq (r' := .tup [(false, [.slice (U := U) .u64 (partS (segO a) s x n) .unk]), (false, [.bool true])]) ?_ ?_
      · simp only [res114, h]; rfl
      · rw [show partS (segO a) s x n = List.drop x.toNat (List.take (x + n).toNat (segAt (segO a) s)) by
          unfold partS; rw [List.drop_take, show (x + n).toNat - x.toNat = n.toNat by omega]]
        (repeat' (first | exact trivial | exact rfl | refine And.intro ?_ ?_))

theorem c20 : Contract Try.prog cfg 20 spec20 := by
  refine make20 c60 ?_
  intro l _ hp
  simp only [pre20] at hp
  have hl := hp.1
  refine vc20 _ _ ?_
  refine loop_rule (ι := Int × List (List Int)) (fun p => head20_0 l p.1 p.2) (fun p => 0 ≤ p.1 ∧ p.1 ≤ l.length ∧ p.2.length = p.1 ∧ p.2 ++ l.drop p.1.toNat = l) (fun p => (l.length - p.1).toNat) (0, []) rfl ⟨by simp, by dsimp only; omega, by simp, by simp⟩ ?_
  rintro ⟨i, o⟩ ⟨h1, h2, h3, h4⟩
  dsimp only at h1 h2 h3 h4
  refine vc20_l0 _ _ _ _ _ ?_
  (simp only [vcT, bif_tl, bif_fr, bif_tlf, bif_frf, Bool.not_eq_true', Bool.not_eq_false', decide_eq_true_eq, decide_eq_false_iff_not, beq_iff_eq, beq_eq_false_iff_ne, bne_iff_ne, ne_eq, bne_eq_false_iff_eq, Bool.or_eq_true, Bool.and_eq_true, Bool.or_eq_false_iff, Bool.and_eq_false_imp])
  refine ⟨fun hi => ?_, fun hi => ?_⟩
  · have hm := hp.2 _ (mem_getD (l := l) (i := i.toNat) (by omega) [])
    refine ⟨by omega, hm.1, by simp; omega, by ((unfold InR; omega)), (i + 1, o ++ [l.getD i.toNat []]), rfl, ⟨by dsimp only; omega, by dsimp only; omega, by simp; omega, ?_⟩, by dsimp only; omega⟩
    dsimp only
    rw [List.append_assoc, List.singleton_append, ← dropI h1 hi [], h4]
  · rw [List.drop_of_length_le (by omega), List.append_nil] at h4
    subst h4
    (repeat' (first | exact trivial | exact rfl | refine And.intro ?_ ?_))

end Go.AM.Ythokdjgpdonhgaa

namespace Go.AM.Ythokdjgpdonhgaa
open Go.AM Go.Proofs

def args113 : ArgL (Option Arena × Loc × Unit) := (.cons (aPo .arena) (.cons (aEl .loc) .nil))
def pre113 (a : Option Arena × Loc × Unit) : Prop := okA a.1 ∧ OkP (Loc.p a.2.1) ∧ (((Loc.p a.2.1).kind = 1) ∨ ((Loc.p a.2.1).kind = 2))
noncomputable def res113 (a : Option Arena × Loc × Unit) : V U := .tup [(true, [.int .i64 (Ptr.kind (Loc.p ((insideL (segO a.1) a.2.1).1))), .int .i64 (Ptr.off (Loc.p ((insideL (segO a.1) a.2.1).1))), .int .i64 (Ptr.data (Loc.p ((insideL (segO a.1) a.2.1).1))), .int .i64 (Ptr.ptrs (Loc.p ((insideL (segO a.1) a.2.1).1))), .int .i64 (Ptr.code (Loc.p ((insideL (segO a.1) a.2.1).1))), .int .i64 (Ptr.count (Loc.p ((insideL (segO a.1) a.2.1).1))), .int .i64 (Ptr.segment (Loc.p ((insideL (segO a.1) a.2.1).1))), .bool (Ptr.double (Loc.p ((insideL (segO a.1) a.2.1).1))), .int .i64 (Loc.segment ((insideL (segO a.1) a.2.1).1)), .int .i64 (Loc.at_ ((insideL (segO a.1) a.2.1).1))]), (false, [.int .i64 ((insideL (segO a.1) a.2.1).2)])]
noncomputable def spec113 : Fs U := fs args113 (fun a => [pre113 a]) res113

def args87 : ArgL (Option Arena × Ptr × Int × Int × Unit) := (.cons (aPo .arena) (.cons (aEl .ptr) (.cons (aInt .i64) (.cons (aInt .i64) .nil))))
def pre87 (a : Option Arena × Ptr × Int × Int × Unit) : Prop := okA a.1 ∧ OkP a.2.1 ∧ 0 ≤ a.2.2.2.1 ∧ a.2.2.2.1 ≤ 17592186044416
noncomputable def res87 (a : Option Arena × Ptr × Int × Int × Unit) : V U := .tup [(true, [.int .i64 (Ptr.kind (Loc.p ((nearL (segO a.1) a.2.1 a.2.2.1 a.2.2.2.1).1))), .int .i64 (Ptr.off (Loc.p ((nearL (segO a.1) a.2.1 a.2.2.1 a.2.2.2.1).1))), .int .i64 (Ptr.data (Loc.p ((nearL (segO a.1) a.2.1 a.2.2.1 a.2.2.2.1).1))), .int .i64 (Ptr.ptrs (Loc.p ((nearL (segO a.1) a.2.1 a.2.2.1 a.2.2.2.1).1))), .int .i64 (Ptr.code (Loc.p ((nearL (segO a.1) a.2.1 a.2.2.1 a.2.2.2.1).1))), .int .i64 (Ptr.count (Loc.p ((nearL (segO a.1) a.2.1 a.2.2.1 a.2.2.2.1).1))), .int .i64 (Ptr.segment (Loc.p ((nearL (segO a.1) a.2.1 a.2.2.1 a.2.2.2.1).1))), .bool (Ptr.double (Loc.p ((nearL (segO a.1) a.2.1 a.2.2.1 a.2.2.2.1).1))), .int .i64 (Loc.segment ((nearL (segO a.1) a.2.1 a.2.2.1 a.2.2.2.1).1)), .int .i64 (Loc.at_ ((nearL (segO a.1) a.2.1 a.2.2.1 a.2.2.2.1).1))]), (false, [.int .i64 ((nearL (segO a.1) a.2.1 a.2.2.1 a.2.2.2.1).2)])]
noncomputable def spec87 : Fs U := fs args87 (fun a => [pre87 a]) res87

def args88 : ArgL (Option Arena × Int × Int × Unit) := (.cons (aPo .arena) (.cons (aInt .i64) (.cons (aInt .i64) .nil)))
def pre88 (a : Option Arena × Int × Int × Unit) : Prop := okA a.1
noncomputable def res88 (a : Option Arena × Int × Int × Unit) : V U := .tup [(true, [.int .i64 (Ptr.kind (Loc.p ((doubleL (segO a.1) a.2.1 a.2.2.1).1))), .int .i64 (Ptr.off (Loc.p ((doubleL (segO a.1) a.2.1 a.2.2.1).1))), .int .i64 (Ptr.data (Loc.p ((doubleL (segO a.1) a.2.1 a.2.2.1).1))), .int .i64 (Ptr.ptrs (Loc.p ((doubleL (segO a.1) a.2.1 a.2.2.1).1))), .int .i64 (Ptr.code (Loc.p ((doubleL (segO a.1) a.2.1 a.2.2.1).1))), .int .i64 (Ptr.count (Loc.p ((doubleL (segO a.1) a.2.1 a.2.2.1).1))), .int .i64 (Ptr.segment (Loc.p ((doubleL (segO a.1) a.2.1 a.2.2.1).1))), .bool (Ptr.double (Loc.p ((doubleL (segO a.1) a.2.1 a.2.2.1).1))), .int .i64 (Loc.segment ((doubleL (segO a.1) a.2.1 a.2.2.1).1)), .int .i64 (Loc.at_ ((doubleL (segO a.1) a.2.1 a.2.2.1).1))]), (false, [.int .i64 ((doubleL (segO a.1) a.2.1 a.2.2.1).2)])]
noncomputable def spec88 : Fs U := fs args88 (fun a => [pre88 a]) res88

def args63 : ArgL (Option Arena × Int × Int × Unit) := (.cons (aPo .arena) (.cons (aInt .i64) (.cons (aInt .i64) .nil)))
def pre63 (a : Option Arena × Int × Int × Unit) : Prop := okA a.1
noncomputable def res63 (a : Option Arena × Int × Int × Unit) : V U := .tup [(true, [.int .i64 (Ptr.kind (Loc.p ((follow (segO a.1) a.2.1 a.2.2.1).1))), .int .i64 (Ptr.off (Loc.p ((follow (segO a.1) a.2.1 a.2.2.1).1))), .int .i64 (Ptr.data (Loc.p ((follow (segO a.1) a.2.1 a.2.2.1).1))), .int .i64 (Ptr.ptrs (Loc.p ((follow (segO a.1) a.2.1 a.2.2.1).1))), .int .i64 (Ptr.code (Loc.p ((follow (segO a.1) a.2.1 a.2.2.1).1))), .int .i64 (Ptr.count (Loc.p ((follow (segO a.1) a.2.1 a.2.2.1).1))), .int .i64 (Ptr.segment (Loc.p ((follow (segO a.1) a.2.1 a.2.2.1).1))), .bool (Ptr.double (Loc.p ((follow (segO a.1) a.2.1 a.2.2.1).1))), .int .i64 (Loc.segment ((follow (segO a.1) a.2.1 a.2.2.1).1)), .int .i64 (Loc.at_ ((follow (segO a.1) a.2.1 a.2.2.1).1))]), (false, [.int .i64 ((follow (segO a.1) a.2.1 a.2.2.1).2)])]
noncomputable def spec63 : Fs U := fs args63 (fun a => [pre63 a]) res63

def args89 : ArgL (List (List Int) × Int × Int × Unit) := (.cons (aSl .words) (.cons (aInt .i64) (.cons (aInt .i64) .nil)))
def pre89 (a : List (List Int) × Int × Int × Unit) : Prop := okSeg a.1
noncomputable def res89 (a : List (List Int) × Int × Int × Unit) : V U := .c (.bool (hasN a.1 a.2.1 a.2.2.1 1))
noncomputable def spec89 : Fs U := fs args89 (fun a => [pre89 a]) res89

def args90 : ArgL (Ptr × Unit) := (.cons (aEl .ptr) .nil)
def pre90 (a : Ptr × Unit) : Prop := True
noncomputable def res90 (a : Ptr × Unit) : V U := .c (.int .i64 (shapeE a.1))
noncomputable def spec90 : Fs U := fs args90 (fun a => [pre90 a]) res90

def args91 : ArgL (List (List Int) × Loc × Unit) := (.cons (aSl .words) (.cons (aEl .loc) .nil))
def pre91 (a : List (List Int) × Loc × Unit) : Prop := okSeg a.1 ∧ OkP (Loc.p a.2.1) ∧ (((Loc.p a.2.1).kind = 1) ∨ ((Loc.p a.2.1).kind = 2))
noncomputable def res91 (a : List (List Int) × Loc × Unit) : V U := .tup [(true, [.int .i64 (Ptr.kind (Loc.p ((insideL a.1 a.2.1).1))), .int .i64 (Ptr.off (Loc.p ((insideL a.1 a.2.1).1))), .int .i64 (Ptr.data (Loc.p ((insideL a.1 a.2.1).1))), .int .i64 (Ptr.ptrs (Loc.p ((insideL a.1 a.2.1).1))), .int .i64 (Ptr.code (Loc.p ((insideL a.1 a.2.1).1))), .int .i64 (Ptr.count (Loc.p ((insideL a.1 a.2.1).1))), .int .i64 (Ptr.segment (Loc.p ((insideL a.1 a.2.1).1))), .bool (Ptr.double (Loc.p ((insideL a.1 a.2.1).1))), .int .i64 (Loc.segment ((insideL a.1 a.2.1).1)), .int .i64 (Loc.at_ ((insideL a.1 a.2.1).1))]), (false, [.int .i64 ((insideL a.1 a.2.1).2)])]
noncomputable def spec91 : Fs U := fs args91 (fun a => [pre91 a]) res91

def args65 : ArgL (List (List Int) × Int × Int × Unit) := (.cons (aSl .words) (.cons (aInt .i64) (.cons (aInt .i64) .nil)))
def pre65 (a : List (List Int) × Int × Int × Unit) : Prop := okSeg a.1
noncomputable def res65 (a : List (List Int) × Int × Int × Unit) : V U := .tup [(true, [.int .i64 (Ptr.kind (Loc.p ((follow a.1 a.2.1 a.2.2.1).1))), .int .i64 (Ptr.off (Loc.p ((follow a.1 a.2.1 a.2.2.1).1))), .int .i64 (Ptr.data (Loc.p ((follow a.1 a.2.1 a.2.2.1).1))), .int .i64 (Ptr.ptrs (Loc.p ((follow a.1 a.2.1 a.2.2.1).1))), .int .i64 (Ptr.code (Loc.p ((follow a.1 a.2.1 a.2.2.1).1))), .int .i64 (Ptr.count (Loc.p ((follow a.1 a.2.1 a.2.2.1).1))), .int .i64 (Ptr.segment (Loc.p ((follow a.1 a.2.1 a.2.2.1).1))), .bool (Ptr.double (Loc.p ((follow a.1 a.2.1 a.2.2.1).1))), .int .i64 (Loc.segment ((follow a.1 a.2.1 a.2.2.1).1)), .int .i64 (Loc.at_ ((follow a.1 a.2.1 a.2.2.1).1))]), (false, [.int .i64 ((follow a.1 a.2.1 a.2.2.1).2)])]
noncomputable def spec65 : Fs U := fs args65 (fun a => [pre65 a]) res65

noncomputable def know113 : List (FuncId × Fs U) := [(122, spec122), (85, spec85)]
def lv113 : Lives U := fun i => match i with
  | 0 => ([(0, []), (3, []), (4, [])], [((.loc 3), []), ((.loc 4), [])])
  | 1 => ([(0, []), (3, []), (4, []), (6, [])], [((.loc 3), []), ((.loc 4), [])])
  | 2 => ([(3, []), (4, []), (21, [])], [((.loc 3), []), ((.loc 4), [])])
  | 3 => ([(4, []), (5, [])], [((.loc 4), [])])
  | 4 => ([(3, []), (4, [])], [((.loc 3), []), ((.loc 4), [])])
  | 5 => ([(4, []), (5, [])], [((.loc 4), [])])
  | _ => ([], [])
noncomputable abbrev A113 (p : List Nat) := awp cfg (know know113) (drawOk cfg (know know113)) Try.f113.ntmps lv113 (cd Try.f113 p)
theorem vc113 (a : Option Arena) (x : Loc) (Q : AExit → LSt U → Prop) (h : ∀ y_1, y_1 = ((Loc.p x)) → ((pre122 (y_1, ())) ∧ ((pre85 (a, (Loc.segment x), (Loc.at_ x), (if wordsP y_1 < 0 then 0 else wordsP y_1), ())) ∧ (((!(hasN (segO a) (Loc.segment x) (Loc.at_ x) (if wordsP y_1 < 0 then 0 else wordsP y_1))) = true → (Q .ret (⟨[(4, .ptr (.loc 4) 0), (5, .c (.int .i64 7))], [((.loc 4), [.int .i64 0, .int .i64 0, .int .i64 0, .int .i64 0, .int .i64 0, .int .i64 0, .int .i64 0, .bool false, .int .i64 0, .int .i64 0])], []⟩ : LSt U))) ∧ ((!(hasN (segO a) (Loc.segment x) (Loc.at_ x) (if wordsP y_1 < 0 then 0 else wordsP y_1))) = false → ((Q .ret (⟨[(4, .ptr (.loc 4) 0), (5, .c (.int .i64 0))], [((.loc 4), [.int .i64 (Ptr.kind (Loc.p x)), .int .i64 0, .int .i64 (Ptr.data (Loc.p x)), .int .i64 (Ptr.ptrs (Loc.p x)), .int .i64 (Ptr.code (Loc.p x)), .int .i64 (Ptr.count (Loc.p x)), .int .i64 (Ptr.segment (Loc.p x)), .bool (Ptr.double (Loc.p x)), .int .i64 (Loc.segment x), .int .i64 (Loc.at_ x)])], []⟩ : LSt U)))))))) :
    A113 [] (⟨[(0, .c (.po (U := U) .arena a)), (1, .agg [.int .i64 (Ptr.kind (Loc.p x)), .int .i64 (Ptr.off (Loc.p x)), .int .i64 (Ptr.data (Loc.p x)), .int .i64 (Ptr.ptrs (Loc.p x)), .int .i64 (Ptr.code (Loc.p x)), .int .i64 (Ptr.count (Loc.p x)), .int .i64 (Ptr.segment (Loc.p x)), .bool (Ptr.double (Loc.p x)), .int .i64 (Loc.segment x), .int .i64 (Loc.at_ x)])], [], []⟩ : LSt U) Q :=
  Eq.mpr (by kernel_rfl) (h _ (rePtr_eq _))
def Body113 (a : Option Arena) (x : Loc)  : Prop := awp cfg (know (know113)) (drawOk cfg (know (know113))) Try.f113.ntmps lv113 (cd Try.f113 []) (entry (args113.can (a, x, ())) []) (EndsQ cfg Try.f113.ntmps Try.f113.results.toList (res113 (a, x, ())) [])
theorem make113 (c122 : Contract Try.prog cfg 122 spec122) (c85 : Contract Try.prog cfg 85 spec85) (hb : ∀ (a : Option Arena) (x : Loc) (_ : Unit), pre113 (a, x, ()) → Body113 a x) : Contract Try.prog cfg 113 spec113 :=
  contract_flat (l := [(122, spec122), (85, spec85)]) cfgOk rfl (⟨c122, c85, trivial⟩) lv113 Try.func113 rfl rfl 2 (fun _ => rfl) (by decide) (fun ⟨a, x, _⟩ => hb a x ())

noncomputable def know87 : List (FuncId × Fs U) := [(113, spec113)]
def lv87 : Lives U := fun i => match i with
  | 0 => ([(0, []), (2, []), (3, []), (5, []), (8, [])], [((.loc 5), []), ((.loc 8), [])])
  | 1 => ([(0, []), (2, []), (3, []), (5, []), (8, []), (11, [])], [((.loc 5), []), ((.loc 8), [])])
  | 2 => ([(0, []), (2, []), (3, []), (5, []), (8, []), (11, []), (12, [])], [((.loc 5), []), ((.loc 8), [])])
  | 3 => ([(0, []), (2, []), (3, []), (5, []), (8, []), (11, []), (12, [])], [((.loc 5), []), ((.loc 8), [])])
  | 4 => ([(8, []), (9, [])], [((.loc 8), [])])
  | 5 => ([(8, []), (27, [])], [((.loc 8), [])])
  | 6 => ([(8, []), (9, [])], [((.loc 8), [])])
  | 7 => ([(8, []), (9, [])], [((.loc 8), [])])
  | _ => ([], [])
noncomputable abbrev A87 (p : List Nat) := awp cfg (know know87) (drawOk cfg (know know87)) Try.f87.ntmps lv87 (cd Try.f87 p)
theorem vc87 (a : Option Arena) (p : Ptr) (s : Int) (at_ : Int) (Q : AExit → LSt U → Prop) (h : ∀ y_1, y_1 = (p) → ∀ y_2, y_2 = (insideL (segO a) (Loc.mk y_1 s ((((at_ : Int) + 1) : Int) + (Ptr.off p)))) → (((((((Ptr.kind p) : Int) == 1) = true → ((((Ptr.kind p) : Int) == 1) = true → (InR ((at_ : Int) + 1)) ∧ (InR ((((at_ : Int) + 1) : Int) + (Ptr.off p))) ∧ (pre113 (a, (Loc.mk y_1 s ((((at_ : Int) + 1) : Int) + (Ptr.off p))), ())) ∧ (Q .ret (⟨[(8, .ptr (.loc 8) 0), (9, .c (.int .i64 (y_2.2)))], [((.loc 8), [.int .i64 (Ptr.kind (Loc.p (y_2.1))), .int .i64 (Ptr.off (Loc.p (y_2.1))), .int .i64 (Ptr.data (Loc.p (y_2.1))), .int .i64 (Ptr.ptrs (Loc.p (y_2.1))), .int .i64 (Ptr.code (Loc.p (y_2.1))), .int .i64 (Ptr.count (Loc.p (y_2.1))), .int .i64 (Ptr.segment (Loc.p (y_2.1))), .bool (Ptr.double (Loc.p (y_2.1))), .int .i64 (Loc.segment (y_2.1)), .int .i64 (Loc.at_ (y_2.1))])], []⟩ : LSt U))) ∧ ((((Ptr.kind p) : Int) == 1) = false → (((((Ptr.kind p) : Int) == 4) = true → (Q .ret (⟨[(8, .ptr (.loc 8) 0), (9, .c (.int .i64 9))], [((.loc 8), [.int .i64 0, .int .i64 0, .int .i64 0, .int .i64 0, .int .i64 0, .int .i64 0, .int .i64 0, .bool false, .int .i64 0, .int .i64 0])], []⟩ : LSt U))) ∧ ((((Ptr.kind p) : Int) == 4) = false → (Q .ret (⟨[(8, .ptr (.loc 8) 0), (9, .c (.int .i64 8))], [((.loc 8), [.int .i64 0, .int .i64 0, .int .i64 0, .int .i64 0, .int .i64 0, .int .i64 0, .int .i64 0, .bool false, .int .i64 0, .int .i64 0])], []⟩ : LSt U)))))) ∧ ((((Ptr.kind p) : Int) == 1) = false → (((((Ptr.kind p) : Int) == 2) = true → (InR ((at_ : Int) + 1)) ∧ (InR ((((at_ : Int) + 1) : Int) + (Ptr.off p))) ∧ (pre113 (a, (Loc.mk y_1 s ((((at_ : Int) + 1) : Int) + (Ptr.off p))), ())) ∧ (Q .ret (⟨[(8, .ptr (.loc 8) 0), (9, .c (.int .i64 (y_2.2)))], [((.loc 8), [.int .i64 (Ptr.kind (Loc.p (y_2.1))), .int .i64 (Ptr.off (Loc.p (y_2.1))), .int .i64 (Ptr.data (Loc.p (y_2.1))), .int .i64 (Ptr.ptrs (Loc.p (y_2.1))), .int .i64 (Ptr.code (Loc.p (y_2.1))), .int .i64 (Ptr.count (Loc.p (y_2.1))), .int .i64 (Ptr.segment (Loc.p (y_2.1))), .bool (Ptr.double (Loc.p (y_2.1))), .int .i64 (Loc.segment (y_2.1)), .int .i64 (Loc.at_ (y_2.1))])], []⟩ : LSt U))) ∧ ((((Ptr.kind p) : Int) == 2) = false → (((((Ptr.kind p) : Int) == 4) = true → (Q .ret (⟨[(8, .ptr (.loc 8) 0), (9, .c (.int .i64 9))], [((.loc 8), [.int .i64 0, .int .i64 0, .int .i64 0, .int .i64 0, .int .i64 0, .int .i64 0, .int .i64 0, .bool false, .int .i64 0, .int .i64 0])], []⟩ : LSt U))) ∧ ((((Ptr.kind p) : Int) == 4) = false → (Q .ret (⟨[(8, .ptr (.loc 8) 0), (9, .c (.int .i64 8))], [((.loc 8), [.int .i64 0, .int .i64 0, .int .i64 0, .int .i64 0, .int .i64 0, .int .i64 0, .int .i64 0, .bool false, .int .i64 0, .int .i64 0])], []⟩ : LSt U))))))))))) :
    A87 [] (⟨[(0, .c (.po (U := U) .arena a)), (1, .agg [.int .i64 (Ptr.kind p), .int .i64 (Ptr.off p), .int .i64 (Ptr.data p), .int .i64 (Ptr.ptrs p), .int .i64 (Ptr.code p), .int .i64 (Ptr.count p), .int .i64 (Ptr.segment p), .bool (Ptr.double p)]), (2, .c (.int .i64 s)), (3, .c (.int .i64 at_))], [], []⟩ : LSt U) Q :=
  Eq.mpr (by kernel_rfl) (h _ (rePtr_eq _) _ rfl)
def Body87 (a : Option Arena) (p : Ptr) (s : Int) (at_ : Int)  : Prop := awp cfg (know (know87)) (drawOk cfg (know (know87))) Try.f87.ntmps lv87 (cd Try.f87 []) (entry (args87.can (a, p, s, at_, ())) []) (EndsQ cfg Try.f87.ntmps Try.f87.results.toList (res87 (a, p, s, at_, ())) [])
theorem make87 (c113 : Contract Try.prog cfg 113 spec113) (hb : ∀ (a : Option Arena) (p : Ptr) (s : Int) (at_ : Int) (_ : Unit), pre87 (a, p, s, at_, ()) → Body87 a p s at_) : Contract Try.prog cfg 87 spec87 :=
  contract_flat (l := [(113, spec113)]) cfgOk rfl (⟨c113, trivial⟩) lv87 Try.func87 rfl rfl 4 (fun _ => rfl) (by decide) (fun ⟨a, p, s, at_, _⟩ => hb a p s at_ ())

noncomputable def know88 : List (FuncId × Fs U) := [(114, spec114), (86, spec86), (113, spec113)]
def lv88 : Lives U := fun i => match i with
  | 0 => ([(0, []), (1, []), (2, []), (6, [])], [((.loc 6), [])])
  | 1 => ([(0, []), (6, []), (8, []), (9, [])], [((.loc 6), [])])
  | 2 => ([(0, []), (6, []), (8, []), (20, [])], [((.loc 6), [])])
  | 3 => ([(6, []), (7, [])], [((.loc 6), [])])
  | 4 => ([(0, []), (6, []), (10, []), (11, [])], [((.loc 6), []), ((.loc 10), []), ((.loc 11), [])])
  | 5 => ([(0, []), (6, []), (10, []), (11, []), (30, [])], [((.loc 6), []), ((.loc 10), []), ((.loc 11), [])])
  | 6 => ([(6, []), (7, [])], [((.loc 6), [])])
  | 7 => ([(0, []), (6, []), (10, []), (11, []), (39, [])], [((.loc 6), []), ((.loc 10), []), ((.loc 11), [])])
  | 8 => ([(6, []), (7, [])], [((.loc 6), [])])
  | 9 => ([(0, []), (6, []), (10, []), (11, []), (44, [])], [((.loc 6), []), ((.loc 10), []), ((.loc 11), [])])
  | 10 => ([(6, []), (7, [])], [((.loc 6), [])])
  | 11 => ([(6, []), (7, [])], [((.loc 6), [])])
  | _ => ([], [])
noncomputable abbrev A88 (p : List Nat) := awp cfg (know know88) (drawOk cfg (know know88)) Try.f88.ntmps lv88 (cd Try.f88 p)
theorem vc88 (a : Option Arena) (s : Int) (at_ : Int) (Q : AExit → LSt U → Prop) (h : ∀ y_1, y_1 = (List.getD (if hasN (segO a) s at_ 2 then partS (segO a) s at_ 2 else []) (Int.toNat 0) (0 : Int)) → ∀ y_2, y_2 = (List.getD (if hasN (segO a) s at_ 2 then partS (segO a) s at_ 2 else []) (Int.toNat 1) (0 : Int)) → ∀ y_3, y_3 = ((decP y_2)) → ∀ y_4, y_4 = (insideL (segO a) (Loc.mk y_3 (Ptr.segment (decP y_1)) (Ptr.off (decP y_1)))) → ((pre114 (a, s, at_, 2, ())) ∧ ((((!(hasN (segO a) s at_ 2)) = true → (Q .ret (⟨[(6, .ptr (.loc 6) 0), (7, .c (.int .i64 7))], [((.loc 6), [.int .i64 0, .int .i64 0, .int .i64 0, .int .i64 0, .int .i64 0, .int .i64 0, .int .i64 0, .bool false, .int .i64 0, .int .i64 0])], []⟩ : LSt U))) ∧ ((!(hasN (segO a) s at_ 2)) = false → ((0 : Int) ≤ 0 ∧ 0 < ((if hasN (segO a) s at_ 2 then partS (segO a) s at_ 2 else []).length : Int)) ∧ (pre86 (y_1, ())) ∧ ((0 : Int) ≤ 1 ∧ 1 < ((if hasN (segO a) s at_ 2 then partS (segO a) s at_ 2 else []).length : Int)) ∧ (pre86 (y_2, ())) ∧ ((Tr ((!(((Ptr.kind (decP y_1)) : Int) != 3)) = true)) ∧ (((((Ptr.kind (decP y_1)) : Int) != 3) = false → (!(((Ptr.kind (decP y_1)) : Int) != 3)) = true)) ∧ (((bif (((Ptr.kind (decP y_1)) : Int) != 3) then true else (Ptr.double (decP y_1))) = true → (Q .ret (⟨[(6, .ptr (.loc 6) 0), (7, .c (.int .i64 8))], [((.loc 6), [.int .i64 0, .int .i64 0, .int .i64 0, .int .i64 0, .int .i64 0, .int .i64 0, .int .i64 0, .bool false, .int .i64 0, .int .i64 0])], []⟩ : LSt U))) ∧ ((bif (((Ptr.kind (decP y_1)) : Int) != 3) then true else (Ptr.double (decP y_1))) = false → (((((Ptr.kind (decP y_2)) : Int) == 4) = true → (Q .ret (⟨[(6, .ptr (.loc 6) 0), (7, .c (.int .i64 9))], [((.loc 6), [.int .i64 0, .int .i64 0, .int .i64 0, .int .i64 0, .int .i64 0, .int .i64 0, .int .i64 0, .bool false, .int .i64 0, .int .i64 0])], []⟩ : LSt U))) ∧ ((((Ptr.kind (decP y_2)) : Int) == 4) = false → (Tr ((((Ptr.kind (decP y_2)) : Int) != 1) = true)) ∧ (Tr ((((Ptr.kind (decP y_2)) : Int) != 1) = true)) ∧ ((Tr ((((Ptr.kind (decP y_2)) : Int) != 1) = true))) ∧ (Tr ((!(bif (((Ptr.kind (decP y_2)) : Int) != 1) then (((Ptr.kind (decP y_2)) : Int) != 2) else false)) = true)) ∧ (Tr ((!(bif (((Ptr.kind (decP y_2)) : Int) != 1) then (((Ptr.kind (decP y_2)) : Int) != 2) else false)) = true)) ∧ (((bif (((Ptr.kind (decP y_2)) : Int) != 1) then (((Ptr.kind (decP y_2)) : Int) != 2) else false) = false → (!(bif (((Ptr.kind (decP y_2)) : Int) != 1) then (((Ptr.kind (decP y_2)) : Int) != 2) else false)) = true)) ∧ (((bif (bif (((Ptr.kind (decP y_2)) : Int) != 1) then (((Ptr.kind (decP y_2)) : Int) != 2) else false) then true else (((Ptr.off (decP y_2)) : Int) != 0)) = true → (Q .ret (⟨[(6, .ptr (.loc 6) 0), (7, .c (.int .i64 8))], [((.loc 6), [.int .i64 0, .int .i64 0, .int .i64 0, .int .i64 0, .int .i64 0, .int .i64 0, .int .i64 0, .bool false, .int .i64 0, .int .i64 0])], []⟩ : LSt U))) ∧ ((bif (bif (((Ptr.kind (decP y_2)) : Int) != 1) then (((Ptr.kind (decP y_2)) : Int) != 2) else false) then true else (((Ptr.off (decP y_2)) : Int) != 0)) = false → (pre113 (a, (Loc.mk y_3 (Ptr.segment (decP y_1)) (Ptr.off (decP y_1))), ())) ∧ (Q .ret (⟨[(6, .ptr (.loc 6) 0), (7, .c (.int .i64 (y_4.2)))], [((.loc 6), [.int .i64 (Ptr.kind (Loc.p (y_4.1))), .int .i64 (Ptr.off (Loc.p (y_4.1))), .int .i64 (Ptr.data (Loc.p (y_4.1))), .int .i64 (Ptr.ptrs (Loc.p (y_4.1))), .int .i64 (Ptr.code (Loc.p (y_4.1))), .int .i64 (Ptr.count (Loc.p (y_4.1))), .int .i64 (Ptr.segment (Loc.p (y_4.1))), .bool (Ptr.double (Loc.p (y_4.1))), .int .i64 (Loc.segment (y_4.1)), .int .i64 (Loc.at_ (y_4.1))])], []⟩ : LSt U)))))))))))))) :
    A88 [] (⟨[(0, .c (.po (U := U) .arena a)), (1, .c (.int .i64 s)), (2, .c (.int .i64 at_))], [], []⟩ : LSt U) Q :=
  Eq.mpr (by kernel_rfl) (h _ rfl _ rfl _ (rePtr_eq _) _ rfl)
def Body88 (a : Option Arena) (s : Int) (at_ : Int)  : Prop := awp cfg (know (know88)) (drawOk cfg (know (know88))) Try.f88.ntmps lv88 (cd Try.f88 []) (entry (args88.can (a, s, at_, ())) []) (EndsQ cfg Try.f88.ntmps Try.f88.results.toList (res88 (a, s, at_, ())) [])
theorem make88 (c114 : Contract Try.prog cfg 114 spec114) (c86 : Contract Try.prog cfg 86 spec86) (c113 : Contract Try.prog cfg 113 spec113) (hb : ∀ (a : Option Arena) (s : Int) (at_ : Int) (_ : Unit), pre88 (a, s, at_, ()) → Body88 a s at_) : Contract Try.prog cfg 88 spec88 :=
  contract_flat (l := [(114, spec114), (86, spec86), (113, spec113)]) cfgOk rfl (⟨c114, c86, c113, trivial⟩) lv88 Try.func88 rfl rfl 3 (fun _ => rfl) (by decide) (fun ⟨a, s, at_, _⟩ => hb a s at_ ())

noncomputable def know63 : List (FuncId × Fs U) := [(62, spec62), (86, spec86), (87, spec87), (88, spec88)]
def lv63 : Lives U := fun i => match i with
  | 0 => ([(0, []), (1, []), (2, []), (6, [])], [((.loc 6), [])])
  | 1 => ([(0, []), (1, []), (2, []), (6, []), (8, []), (9, [])], [((.loc 6), [])])
  | 2 => ([(0, []), (1, []), (2, []), (6, []), (8, []), (20, [])], [((.loc 6), [])])
  | 3 => ([(6, []), (7, [])], [((.loc 6), [])])
  | 4 => ([(0, []), (1, []), (2, []), (6, []), (10, [])], [((.loc 6), []), ((.loc 10), [])])
  | 5 => ([(0, []), (1, []), (2, []), (6, []), (10, []), (24, [])], [((.loc 6), []), ((.loc 10), [])])
  | 6 => ([(6, []), (7, [])], [((.loc 6), [])])
  | 7 => ([(0, []), (1, []), (2, []), (6, []), (10, []), (29, [])], [((.loc 6), []), ((.loc 10), [])])
  | 8 => ([(6, []), (7, [])], [((.loc 6), [])])
  | 9 => ([(0, []), (6, []), (10, []), (40, [])], [((.loc 6), []), ((.loc 10), [])])
  | 10 => ([(6, []), (7, [])], [((.loc 6), [])])
  | 11 => ([(0, []), (6, []), (9, []), (10, []), (11, [])], [((.loc 6), []), ((.loc 10), [])])
  | 12 => ([(0, []), (6, []), (10, []), (11, []), (61, [])], [((.loc 6), []), ((.loc 10), [])])
  | 13 => ([(6, []), (7, [])], [((.loc 6), [])])
  | 14 => ([(6, []), (7, [])], [((.loc 6), [])])
  | _ => ([], [])
noncomputable abbrev A63 (p : List Nat) := awp cfg (know know63) (drawOk cfg (know know63)) Try.f63.ntmps lv63 (cd Try.f63 p)
theorem vc63 (a : Option Arena) (s : Int) (at_ : Int) (Q : AExit → LSt U → Prop) (h : ∀ y_1, y_1 = (decP (if hasN (segO a) s at_ 1 then getS (segO a) s at_ else 0)) → ∀ y_2, y_2 = (y_1) → ∀ y_3, y_3 = (Loc.p ((doubleL (segO a) (Ptr.segment y_1) (Ptr.off y_1)).1)) → ∀ y_4, y_4 = (decP (if hasN (segO a) (Ptr.segment y_1) (Ptr.off y_1) 1 then getS (segO a) (Ptr.segment y_1) (Ptr.off y_1) else 0)) → ∀ y_5, y_5 = (y_4) → ∀ y_6, y_6 = (Loc.p ((nearL (segO a) y_5 (Ptr.segment y_1) (Ptr.off y_1)).1)) → ((pre62 (a, s, at_, ())) ∧ ((((!(hasN (segO a) s at_ 1)) = true → (Q .ret (⟨[(6, .ptr (.loc 6) 0), (7, .c (.int .i64 7))], [((.loc 6), [.int .i64 0, .int .i64 0, .int .i64 0, .int .i64 0, .int .i64 0, .int .i64 0, .int .i64 0, .bool false, .int .i64 0, .int .i64 0])], []⟩ : LSt U))) ∧ ((!(hasN (segO a) s at_ 1)) = false → (pre86 ((if hasN (segO a) s at_ 1 then getS (segO a) s at_ else 0), ())) ∧ ((((((Ptr.kind y_1) : Int) == 0) = true → (Q .ret (⟨[(6, .ptr (.loc 6) 0), (7, .c (.int .i64 0))], [((.loc 6), [.int .i64 0, .int .i64 0, .int .i64 0, .int .i64 0, .int .i64 0, .int .i64 0, .int .i64 0, .bool false, .int .i64 0, .int .i64 0])], []⟩ : LSt U))) ∧ ((((Ptr.kind y_1) : Int) == 0) = false → (((((Ptr.kind y_1) : Int) != 3) = true → (pre87 (a, y_2, s, at_, ())) ∧ (Q .ret (⟨[(6, .ptr (.loc 6) 0), (7, .c (.int .i64 ((nearL (segO a) y_2 s at_).2)))], [((.loc 6), [.int .i64 (Ptr.kind (Loc.p ((nearL (segO a) y_2 s at_).1))), .int .i64 (Ptr.off (Loc.p ((nearL (segO a) y_2 s at_).1))), .int .i64 (Ptr.data (Loc.p ((nearL (segO a) y_2 s at_).1))), .int .i64 (Ptr.ptrs (Loc.p ((nearL (segO a) y_2 s at_).1))), .int .i64 (Ptr.code (Loc.p ((nearL (segO a) y_2 s at_).1))), .int .i64 (Ptr.count (Loc.p ((nearL (segO a) y_2 s at_).1))), .int .i64 (Ptr.segment (Loc.p ((nearL (segO a) y_2 s at_).1))), .bool (Ptr.double (Loc.p ((nearL (segO a) y_2 s at_).1))), .int .i64 (Loc.segment ((nearL (segO a) y_2 s at_).1)), .int .i64 (Loc.at_ ((nearL (segO a) y_2 s at_).1))])], []⟩ : LSt U))) ∧ ((((Ptr.kind y_1) : Int) != 3) = false → (((Ptr.double y_1) = true → (pre88 (a, (Ptr.segment y_1), (Ptr.off y_1), ())) ∧ (Q .ret (⟨[(6, .ptr (.loc 6) 0), (7, .c (.int .i64 ((doubleL (segO a) (Ptr.segment y_1) (Ptr.off y_1)).2)))], [((.loc 6), [.int .i64 (Ptr.kind y_3), .int .i64 (Ptr.off y_3), .int .i64 (Ptr.data y_3), .int .i64 (Ptr.ptrs y_3), .int .i64 (Ptr.code y_3), .int .i64 (Ptr.count y_3), .int .i64 (Ptr.segment y_3), .bool (Ptr.double y_3), .int .i64 (Loc.segment ((doubleL (segO a) (Ptr.segment y_1) (Ptr.off y_1)).1)), .int .i64 (Loc.at_ ((doubleL (segO a) (Ptr.segment y_1) (Ptr.off y_1)).1))])], []⟩ : LSt U))) ∧ ((Ptr.double y_1) = false → (pre62 (a, (Ptr.segment y_1), (Ptr.off y_1), ())) ∧ ((((!(hasN (segO a) (Ptr.segment y_1) (Ptr.off y_1) 1)) = true → (Q .ret (⟨[(6, .ptr (.loc 6) 0), (7, .c (.int .i64 7))], [((.loc 6), [.int .i64 0, .int .i64 0, .int .i64 0, .int .i64 0, .int .i64 0, .int .i64 0, .int .i64 0, .bool false, .int .i64 0, .int .i64 0])], []⟩ : LSt U))) ∧ ((!(hasN (segO a) (Ptr.segment y_1) (Ptr.off y_1) 1)) = false → (pre86 ((if hasN (segO a) (Ptr.segment y_1) (Ptr.off y_1) 1 then getS (segO a) (Ptr.segment y_1) (Ptr.off y_1) else 0), ())) ∧ (pre87 (a, y_5, (Ptr.segment y_1), (Ptr.off y_1), ())) ∧ (Q .ret (⟨[(6, .ptr (.loc 6) 0), (7, .c (.int .i64 ((nearL (segO a) y_5 (Ptr.segment y_1) (Ptr.off y_1)).2)))], [((.loc 6), [.int .i64 (Ptr.kind y_6), .int .i64 (Ptr.off y_6), .int .i64 (Ptr.data y_6), .int .i64 (Ptr.ptrs y_6), .int .i64 (Ptr.code y_6), .int .i64 (Ptr.count y_6), .int .i64 (Ptr.segment y_6), .bool (Ptr.double y_6), .int .i64 (Loc.segment ((nearL (segO a) y_5 (Ptr.segment y_1) (Ptr.off y_1)).1)), .int .i64 (Loc.at_ ((nearL (segO a) y_5 (Ptr.segment y_1) (Ptr.off y_1)).1))])], []⟩ : LSt U))))))))))))))))) :
    A63 [] (⟨[(0, .c (.po (U := U) .arena a)), (1, .c (.int .i64 s)), (2, .c (.int .i64 at_))], [], []⟩ : LSt U) Q :=
  Eq.mpr (by kernel_rfl) (h _ rfl _ (rePtr_eq _) _ rfl _ rfl _ (rePtr_eq _) _ rfl)
def Body63 (a : Option Arena) (s : Int) (at_ : Int)  : Prop := awp cfg (know (know63)) (drawOk cfg (know (know63))) Try.f63.ntmps lv63 (cd Try.f63 []) (entry (args63.can (a, s, at_, ())) []) (EndsQ cfg Try.f63.ntmps Try.f63.results.toList (res63 (a, s, at_, ())) [])
theorem make63 (c62 : Contract Try.prog cfg 62 spec62) (c86 : Contract Try.prog cfg 86 spec86) (c87 : Contract Try.prog cfg 87 spec87) (c88 : Contract Try.prog cfg 88 spec88) (hb : ∀ (a : Option Arena) (s : Int) (at_ : Int) (_ : Unit), pre63 (a, s, at_, ()) → Body63 a s at_) : Contract Try.prog cfg 63 spec63 :=
  contract_flat (l := [(62, spec62), (86, spec86), (87, spec87), (88, spec88)]) cfgOk rfl (⟨c62, c86, c87, c88, trivial⟩) lv63 Try.func63 rfl rfl 3 (fun _ => rfl) (by decide) (fun ⟨a, s, at_, _⟩ => hb a s at_ ())

noncomputable def know89 : List (FuncId × Fs U) := []
def lv89 : Lives U := fun i => match i with
  | 0 => ([(0, []), (1, []), (2, [])], [])
  | 1 => ([(6, [])], [])
  | _ => ([], [])
noncomputable abbrev A89 (p : List Nat) := awp cfg (know know89) (drawOk cfg (know know89)) Try.f89.ntmps lv89 (cd Try.f89 p)
theorem vc89 (l : List (List Int)) (s : Int) (at_ : Int) (Q : AExit → LSt U → Prop) (h : ((Tr ((decide ((0 : Int) ≤ s)) = true)) ∧ (Tr ((decide ((0 : Int) ≤ s)) = true)) ∧ (Tr ((decide ((0 : Int) ≤ s)) = true)) ∧ ((Tr ((decide ((0 : Int) ≤ s)) = true))) ∧ (Tr ((bif (decide ((0 : Int) ≤ s)) then (decide ((s : Int) < (l.length : Int))) else false) = true)) ∧ ((Tr ((bif (decide ((0 : Int) ≤ s)) then (decide ((s : Int) < (l.length : Int))) else false) = true))) ∧ (Tr ((bif (bif (decide ((0 : Int) ≤ s)) then (decide ((s : Int) < (l.length : Int))) else false) then (decide ((0 : Int) ≤ at_)) else false) = true)) ∧ (Tr ((bif (bif (decide ((0 : Int) ≤ s)) then (decide ((s : Int) < (l.length : Int))) else false) then (decide ((0 : Int) ≤ at_)) else false) = true)) ∧ ((bif (bif (decide ((0 : Int) ≤ s)) then (decide ((s : Int) < (l.length : Int))) else false) then (decide ((0 : Int) ≤ at_)) else false) = true → (0 : Int) ≤ s ∧ s < (l.length : Int)) ∧ (Tr ((bif (bif (decide ((0 : Int) ≤ s)) then (decide ((s : Int) < (l.length : Int))) else false) then (decide ((0 : Int) ≤ at_)) else false) = true)) ∧ (Tr ((bif (bif (decide ((0 : Int) ≤ s)) then (decide ((s : Int) < (l.length : Int))) else false) then (decide ((0 : Int) ≤ at_)) else false) = true)) ∧ (Tr ((bif (bif (decide ((0 : Int) ≤ s)) then (decide ((s : Int) < (l.length : Int))) else false) then (decide ((0 : Int) ≤ at_)) else false) = true)) ∧ (Tr ((bif (bif (decide ((0 : Int) ≤ s)) then (decide ((s : Int) < (l.length : Int))) else false) then (decide ((0 : Int) ≤ at_)) else false) = true)) ∧ ((Tr ((bif (bif (decide ((0 : Int) ≤ s)) then (decide ((s : Int) < (l.length : Int))) else false) then (decide ((0 : Int) ≤ at_)) else false) = true))) ∧ (Q .ret (⟨[(6, .c (.bool (bif (bif (bif (decide ((0 : Int) ≤ s)) then (decide ((s : Int) < (l.length : Int))) else false) then (decide ((0 : Int) ≤ at_)) else false) then (decide ((at_ : Int) < ((List.getD l (Int.toNat s) ([] : List Int)).length : Int))) else false)))], [], []⟩ : LSt U)))) :
    A89 [] (⟨[(0, .c (.slice (U := U) .words l .unk)), (1, .c (.int .i64 s)), (2, .c (.int .i64 at_))], [], []⟩ : LSt U) Q :=
  Eq.mpr (by kernel_rfl) h
def Body89 (l : List (List Int)) (s : Int) (at_ : Int)  : Prop := awp cfg (know (know89)) (drawOk cfg (know (know89))) Try.f89.ntmps lv89 (cd Try.f89 []) (entry (args89.can (l, s, at_, ())) []) (EndsQ cfg Try.f89.ntmps Try.f89.results.toList (res89 (l, s, at_, ())) [])
theorem make89 (hb : ∀ (l : List (List Int)) (s : Int) (at_ : Int) (_ : Unit), pre89 (l, s, at_, ()) → Body89 l s at_) : Contract Try.prog cfg 89 spec89 :=
  contract_flat (l := []) cfgOk rfl (trivial) lv89 Try.func89 rfl rfl 3 (fun _ => rfl) (by decide) (fun ⟨l, s, at_, _⟩ => hb l s at_ ())

noncomputable def know90 : List (FuncId × Fs U) := []
def lv90 : Lives U := fun i => match i with
  | 0 => ([(1, [])], [((.loc 1), [])])
  | 1 => ([(1, []), (5, [])], [((.loc 1), [])])
  | 2 => ([(2, [])], [])
  | 3 => ([(13, [])], [])
  | 4 => ([(2, [])], [])
  | 5 => ([(2, [])], [])
  | _ => ([], [])
noncomputable abbrev A90 (p : List Nat) := awp cfg (know know90) (drawOk cfg (know know90)) Try.f90.ntmps lv90 (cd Try.f90 p)
theorem vc90 (p : Ptr) (Q : AExit → LSt U → Prop) (h : ((((((Ptr.kind p) : Int) == 4) = true → (Q .ret (⟨[(2, .c (.int .i64 9))], [], []⟩ : LSt U))) ∧ ((((Ptr.kind p) : Int) == 4) = false → (Tr ((((Ptr.kind p) : Int) != 1) = true)) ∧ (Tr ((((Ptr.kind p) : Int) != 1) = true)) ∧ ((Tr ((((Ptr.kind p) : Int) != 1) = true))) ∧ (((bif (((Ptr.kind p) : Int) != 1) then (((Ptr.kind p) : Int) != 2) else false) = true → (Q .ret (⟨[(2, .c (.int .i64 8))], [], []⟩ : LSt U))) ∧ ((bif (((Ptr.kind p) : Int) != 1) then (((Ptr.kind p) : Int) != 2) else false) = false → (Q .ret (⟨[(2, .c (.int .i64 0))], [], []⟩ : LSt U)))))))) :
    A90 [] (⟨[(0, .agg [.int .i64 (Ptr.kind p), .int .i64 (Ptr.off p), .int .i64 (Ptr.data p), .int .i64 (Ptr.ptrs p), .int .i64 (Ptr.code p), .int .i64 (Ptr.count p), .int .i64 (Ptr.segment p), .bool (Ptr.double p)])], [], []⟩ : LSt U) Q :=
  Eq.mpr (by kernel_rfl) h
def Body90 (p : Ptr)  : Prop := awp cfg (know (know90)) (drawOk cfg (know (know90))) Try.f90.ntmps lv90 (cd Try.f90 []) (entry (args90.can (p, ())) []) (EndsQ cfg Try.f90.ntmps Try.f90.results.toList (res90 (p, ())) [])
theorem make90 (hb : ∀ (p : Ptr) (_ : Unit), pre90 (p, ()) → Body90 p) : Contract Try.prog cfg 90 spec90 :=
  contract_flat (l := []) cfgOk rfl (trivial) lv90 Try.func90 rfl rfl 1 (fun _ => rfl) (by decide) (fun ⟨p, _⟩ => hb p ())

noncomputable def know91 : List (FuncId × Fs U) := [(115, spec115)]
def lv91 : Lives U := fun i => match i with
  | 0 => ([(0, []), (3, []), (4, [])], [((.loc 3), []), ((.loc 4), [])])
  | 1 => ([(0, []), (3, []), (4, []), (6, [])], [((.loc 3), []), ((.loc 4), [])])
  | 2 => ([(3, []), (4, []), (48, [])], [((.loc 3), []), ((.loc 4), [])])
  | 3 => ([(4, []), (5, [])], [((.loc 4), [])])
  | 4 => ([(3, []), (4, [])], [((.loc 3), []), ((.loc 4), [])])
  | 5 => ([(4, []), (5, [])], [((.loc 4), [])])
  | _ => ([], [])
noncomputable abbrev A91 (p : List Nat) := awp cfg (know know91) (drawOk cfg (know know91)) Try.f91.ntmps lv91 (cd Try.f91 p)
theorem vc91 (l : List (List Int)) (x : Loc) (Q : AExit → LSt U → Prop) (h : ∀ y_1, y_1 = ((Loc.p x)) → ∀ y_2, y_2 = (List.getD l (Int.toNat (Loc.segment x)) ([] : List Int)) → ((pre115 (y_1, ())) ∧ ((Tr ((!(decide (((Loc.segment x) : Int) < 0))) = true)) ∧ (Tr ((!(decide (((Loc.segment x) : Int) < 0))) = true)) ∧ (Tr ((!(decide (((Loc.segment x) : Int) < 0))) = true)) ∧ (Tr ((!(decide (((Loc.segment x) : Int) < 0))) = true)) ∧ (((decide (((Loc.segment x) : Int) < 0)) = false → (!(decide (((Loc.segment x) : Int) < 0))) = true)) ∧ (Tr ((!(bif (decide (((Loc.segment x) : Int) < 0)) then true else (decide (((l.length : Int) : Int) ≤ (Loc.segment x))))) = true)) ∧ (Tr ((!(bif (decide (((Loc.segment x) : Int) < 0)) then true else (decide (((l.length : Int) : Int) ≤ (Loc.segment x))))) = true)) ∧ (((bif (decide (((Loc.segment x) : Int) < 0)) then true else (decide (((l.length : Int) : Int) ≤ (Loc.segment x)))) = false → (!(bif (decide (((Loc.segment x) : Int) < 0)) then true else (decide (((l.length : Int) : Int) ≤ (Loc.segment x))))) = true)) ∧ (Tr ((!(bif (bif (decide (((Loc.segment x) : Int) < 0)) then true else (decide (((l.length : Int) : Int) ≤ (Loc.segment x)))) then true else (decide (((Loc.at_ x) : Int) < 0)))) = true)) ∧ (Tr ((!(bif (bif (decide (((Loc.segment x) : Int) < 0)) then true else (decide (((l.length : Int) : Int) ≤ (Loc.segment x)))) then true else (decide (((Loc.at_ x) : Int) < 0)))) = true)) ∧ (Tr ((!(bif (bif (decide (((Loc.segment x) : Int) < 0)) then true else (decide (((l.length : Int) : Int) ≤ (Loc.segment x)))) then true else (decide (((Loc.at_ x) : Int) < 0)))) = true)) ∧ (Tr ((!(bif (bif (decide (((Loc.segment x) : Int) < 0)) then true else (decide (((l.length : Int) : Int) ≤ (Loc.segment x)))) then true else (decide (((Loc.at_ x) : Int) < 0)))) = true)) ∧ ((!(bif (bif (decide (((Loc.segment x) : Int) < 0)) then true else (decide (((l.length : Int) : Int) ≤ (Loc.segment x)))) then true else (decide (((Loc.at_ x) : Int) < 0)))) = true → (0 : Int) ≤ (Loc.segment x) ∧ (Loc.segment x) < (l.length : Int)) ∧ (Tr ((!(bif (bif (decide (((Loc.segment x) : Int) < 0)) then true else (decide (((l.length : Int) : Int) ≤ (Loc.segment x)))) then true else (decide (((Loc.at_ x) : Int) < 0)))) = true)) ∧ (Tr ((!(bif (bif (decide (((Loc.segment x) : Int) < 0)) then true else (decide (((l.length : Int) : Int) ≤ (Loc.segment x)))) then true else (decide (((Loc.at_ x) : Int) < 0)))) = true)) ∧ (Tr ((!(bif (bif (decide (((Loc.segment x) : Int) < 0)) then true else (decide (((l.length : Int) : Int) ≤ (Loc.segment x)))) then true else (decide (((Loc.at_ x) : Int) < 0)))) = true)) ∧ (Tr ((!(bif (bif (decide (((Loc.segment x) : Int) < 0)) then true else (decide (((l.length : Int) : Int) ≤ (Loc.segment x)))) then true else (decide (((Loc.at_ x) : Int) < 0)))) = true)) ∧ (((bif (bif (decide (((Loc.segment x) : Int) < 0)) then true else (decide (((l.length : Int) : Int) ≤ (Loc.segment x)))) then true else (decide (((Loc.at_ x) : Int) < 0))) = false → (!(bif (bif (decide (((Loc.segment x) : Int) < 0)) then true else (decide (((l.length : Int) : Int) ≤ (Loc.segment x)))) then true else (decide (((Loc.at_ x) : Int) < 0)))) = true)) ∧ (Tr ((!(bif (bif (bif (decide (((Loc.segment x) : Int) < 0)) then true else (decide (((l.length : Int) : Int) ≤ (Loc.segment x)))) then true else (decide (((Loc.at_ x) : Int) < 0))) then true else (decide (((y_2.length : Int) : Int) < (Loc.at_ x))))) = true)) ∧ (Tr ((!(bif (bif (bif (decide (((Loc.segment x) : Int) < 0)) then true else (decide (((l.length : Int) : Int) ≤ (Loc.segment x)))) then true else (decide (((Loc.at_ x) : Int) < 0))) then true else (decide (((y_2.length : Int) : Int) < (Loc.at_ x))))) = true)) ∧ (Tr ((!(bif (bif (bif (decide (((Loc.segment x) : Int) < 0)) then true else (decide (((l.length : Int) : Int) ≤ (Loc.segment x)))) then true else (decide (((Loc.at_ x) : Int) < 0))) then true else (decide (((y_2.length : Int) : Int) < (Loc.at_ x))))) = true)) ∧ ((!(bif (bif (bif (decide (((Loc.segment x) : Int) < 0)) then true else (decide (((l.length : Int) : Int) ≤ (Loc.segment x)))) then true else (decide (((Loc.at_ x) : Int) < 0))) then true else (decide (((y_2.length : Int) : Int) < (Loc.at_ x))))) = true → (0 : Int) ≤ (Loc.segment x) ∧ (Loc.segment x) < (l.length : Int)) ∧ (Tr ((!(bif (bif (bif (decide (((Loc.segment x) : Int) < 0)) then true else (decide (((l.length : Int) : Int) ≤ (Loc.segment x)))) then true else (decide (((Loc.at_ x) : Int) < 0))) then true else (decide (((y_2.length : Int) : Int) < (Loc.at_ x))))) = true)) ∧ (Tr ((!(bif (bif (bif (decide (((Loc.segment x) : Int) < 0)) then true else (decide (((l.length : Int) : Int) ≤ (Loc.segment x)))) then true else (decide (((Loc.at_ x) : Int) < 0))) then true else (decide (((y_2.length : Int) : Int) < (Loc.at_ x))))) = true)) ∧ (Tr ((!(bif (bif (bif (decide (((Loc.segment x) : Int) < 0)) then true else (decide (((l.length : Int) : Int) ≤ (Loc.segment x)))) then true else (decide (((Loc.at_ x) : Int) < 0))) then true else (decide (((y_2.length : Int) : Int) < (Loc.at_ x))))) = true)) ∧ (Tr ((!(bif (bif (bif (decide (((Loc.segment x) : Int) < 0)) then true else (decide (((l.length : Int) : Int) ≤ (Loc.segment x)))) then true else (decide (((Loc.at_ x) : Int) < 0))) then true else (decide (((y_2.length : Int) : Int) < (Loc.at_ x))))) = true)) ∧ (Tr ((!(bif (bif (bif (decide (((Loc.segment x) : Int) < 0)) then true else (decide (((l.length : Int) : Int) ≤ (Loc.segment x)))) then true else (decide (((Loc.at_ x) : Int) < 0))) then true else (decide (((y_2.length : Int) : Int) < (Loc.at_ x))))) = true)) ∧ ((!(bif (bif (bif (decide (((Loc.segment x) : Int) < 0)) then true else (decide (((l.length : Int) : Int) ≤ (Loc.segment x)))) then true else (decide (((Loc.at_ x) : Int) < 0))) then true else (decide (((y_2.length : Int) : Int) < (Loc.at_ x))))) = true → InR (((y_2.length : Int) : Int) - (Loc.at_ x))) ∧ (Tr ((!(bif (bif (bif (decide (((Loc.segment x) : Int) < 0)) then true else (decide (((l.length : Int) : Int) ≤ (Loc.segment x)))) then true else (decide (((Loc.at_ x) : Int) < 0))) then true else (decide (((y_2.length : Int) : Int) < (Loc.at_ x))))) = true)) ∧ (Tr ((!(bif (bif (bif (decide (((Loc.segment x) : Int) < 0)) then true else (decide (((l.length : Int) : Int) ≤ (Loc.segment x)))) then true else (decide (((Loc.at_ x) : Int) < 0))) then true else (decide (((y_2.length : Int) : Int) < (Loc.at_ x))))) = true)) ∧ (((bif (bif (bif (decide (((Loc.segment x) : Int) < 0)) then true else (decide (((l.length : Int) : Int) ≤ (Loc.segment x)))) then true else (decide (((Loc.at_ x) : Int) < 0))) then true else (decide (((y_2.length : Int) : Int) < (Loc.at_ x)))) = false → (!(bif (bif (bif (decide (((Loc.segment x) : Int) < 0)) then true else (decide (((l.length : Int) : Int) ≤ (Loc.segment x)))) then true else (decide (((Loc.at_ x) : Int) < 0))) then true else (decide (((y_2.length : Int) : Int) < (Loc.at_ x))))) = true)) ∧ (((bif (bif (bif (bif (decide (((Loc.segment x) : Int) < 0)) then true else (decide (((l.length : Int) : Int) ≤ (Loc.segment x)))) then true else (decide (((Loc.at_ x) : Int) < 0))) then true else (decide (((y_2.length : Int) : Int) < (Loc.at_ x)))) then true else (decide (((((y_2.length : Int) : Int) - (Loc.at_ x)) : Int) < (wordsP y_1)))) = true → (Q .ret (⟨[(4, .ptr (.loc 4) 0), (5, .c (.int .i64 7))], [((.loc 4), [.int .i64 0, .int .i64 0, .int .i64 0, .int .i64 0, .int .i64 0, .int .i64 0, .int .i64 0, .bool false, .int .i64 0, .int .i64 0])], []⟩ : LSt U))) ∧ ((bif (bif (bif (bif (decide (((Loc.segment x) : Int) < 0)) then true else (decide (((l.length : Int) : Int) ≤ (Loc.segment x)))) then true else (decide (((Loc.at_ x) : Int) < 0))) then true else (decide (((y_2.length : Int) : Int) < (Loc.at_ x)))) then true else (decide (((((y_2.length : Int) : Int) - (Loc.at_ x)) : Int) < (wordsP y_1)))) = false → ((Q .ret (⟨[(4, .ptr (.loc 4) 0), (5, .c (.int .i64 0))], [((.loc 4), [.int .i64 (Ptr.kind (Loc.p x)), .int .i64 0, .int .i64 (Ptr.data (Loc.p x)), .int .i64 (Ptr.ptrs (Loc.p x)), .int .i64 (Ptr.code (Loc.p x)), .int .i64 (Ptr.count (Loc.p x)), .int .i64 (Ptr.segment (Loc.p x)), .bool (Ptr.double (Loc.p x)), .int .i64 (Loc.segment x), .int .i64 (Loc.at_ x)])], []⟩ : LSt U)))))))) :
    A91 [] (⟨[(0, .c (.slice (U := U) .words l .unk)), (1, .agg [.int .i64 (Ptr.kind (Loc.p x)), .int .i64 (Ptr.off (Loc.p x)), .int .i64 (Ptr.data (Loc.p x)), .int .i64 (Ptr.ptrs (Loc.p x)), .int .i64 (Ptr.code (Loc.p x)), .int .i64 (Ptr.count (Loc.p x)), .int .i64 (Ptr.segment (Loc.p x)), .bool (Ptr.double (Loc.p x)), .int .i64 (Loc.segment x), .int .i64 (Loc.at_ x)])], [], []⟩ : LSt U) Q :=
  Eq.mpr (by kernel_rfl) (h _ (rePtr_eq _) _ rfl)
def Body91 (l : List (List Int)) (x : Loc)  : Prop := awp cfg (know (know91)) (drawOk cfg (know (know91))) Try.f91.ntmps lv91 (cd Try.f91 []) (entry (args91.can (l, x, ())) []) (EndsQ cfg Try.f91.ntmps Try.f91.results.toList (res91 (l, x, ())) [])
theorem make91 (c115 : Contract Try.prog cfg 115 spec115) (hb : ∀ (l : List (List Int)) (x : Loc) (_ : Unit), pre91 (l, x, ()) → Body91 l x) : Contract Try.prog cfg 91 spec91 :=
  contract_flat (l := [(115, spec115)]) cfgOk rfl (⟨c115, trivial⟩) lv91 Try.func91 rfl rfl 2 (fun _ => rfl) (by decide) (fun ⟨l, x, _⟩ => hb l x ())

noncomputable def know65 : List (FuncId × Fs U) := [(89, spec89), (66, spec66), (90, spec90), (91, spec91)]
def lv65 : Lives U := fun i => match i with
  | 0 => ([(0, []), (1, []), (2, []), (6, [])], [((.loc 6), [])])
  | 1 => ([(0, []), (1, []), (2, []), (6, []), (17, [])], [((.loc 6), [])])
  | 2 => ([(6, []), (7, [])], [((.loc 6), [])])
  | 3 => ([(0, []), (1, []), (2, []), (6, []), (8, [])], [((.loc 6), []), ((.loc 8), [])])
  | 4 => ([(0, []), (1, []), (2, []), (6, []), (8, []), (29, [])], [((.loc 6), []), ((.loc 8), [])])
  | 5 => ([(6, []), (7, [])], [((.loc 6), [])])
  | 6 => ([(0, []), (1, []), (2, []), (6, []), (8, []), (37, [])], [((.loc 6), []), ((.loc 8), [])])
  | 7 => ([(0, []), (6, []), (8, []), (54, [])], [((.loc 6), []), ((.loc 8), [])])
  | 8 => ([(6, []), (7, [])], [((.loc 6), [])])
  | 9 => ([(0, []), (6, []), (9, []), (10, [])], [((.loc 6), []), ((.loc 9), []), ((.loc 10), [])])
  | 10 => ([(0, []), (6, []), (9, []), (10, []), (83, [])], [((.loc 6), []), ((.loc 9), []), ((.loc 10), [])])
  | 11 => ([(6, []), (7, [])], [((.loc 6), [])])
  | 12 => ([(0, []), (6, []), (9, []), (10, []), (11, [])], [((.loc 6), []), ((.loc 9), []), ((.loc 10), [])])
  | 13 => ([(0, []), (6, []), (9, []), (10, []), (11, []), (93, [])], [((.loc 6), []), ((.loc 9), []), ((.loc 10), [])])
  | 14 => ([(0, []), (6, []), (9, []), (10, []), (11, []), (93, [])], [((.loc 6), []), ((.loc 9), []), ((.loc 10), [])])
  | 15 => ([(0, []), (6, []), (9, []), (10, []), (11, []), (95, [])], [((.loc 6), []), ((.loc 9), []), ((.loc 10), [])])
  | 16 => ([(6, []), (7, [])], [((.loc 6), [])])
  | 17 => ([(6, []), (7, [])], [((.loc 6), [])])
  | 18 => ([(0, []), (1, []), (2, []), (6, []), (8, []), (110, [])], [((.loc 6), []), ((.loc 8), [])])
  | 19 => ([(0, []), (1, []), (6, []), (8, [])], [((.loc 6), []), ((.loc 8), [])])
  | 20 => ([(0, []), (1, []), (2, []), (6, []), (8, [])], [((.loc 6), []), ((.loc 8), [])])
  | 21 => ([(0, []), (1, []), (2, []), (6, []), (8, []), (119, [])], [((.loc 6), []), ((.loc 8), [])])
  | 22 => ([(6, []), (7, [])], [((.loc 6), [])])
  | 23 => ([(0, []), (1, []), (2, []), (6, []), (8, []), (110, [])], [((.loc 6), []), ((.loc 8), [])])
  | 24 => ([(0, []), (1, []), (2, []), (6, []), (8, []), (12, [])], [((.loc 6), []), ((.loc 8), [])])
  | 25 => ([(0, []), (1, []), (2, []), (6, []), (8, []), (12, []), (132, [])], [((.loc 6), []), ((.loc 8), [])])
  | 26 => ([(6, []), (7, [])], [((.loc 6), [])])
  | 27 => ([(6, []), (7, [])], [((.loc 6), [])])
  | _ => ([], [])
noncomputable def head65_0 (l : List (List Int)) (s : Int) (at_ : Int) (x11 : Int) : LSt U := (⟨[(0, .c (.slice (U := U) .words l .unk)), (6, .ptr (.loc 6) 0), (9, .ptr (.loc 9) 0), (10, .ptr (.loc 10) 0), (11, .c (.int .i64 x11)), (93, .c (.bool (bif (((shapeE (Ptr.mk (Ptr.kind (decP (List.getD (List.getD l (Int.toNat (Ptr.segment (decP (List.getD (List.getD l (Int.toNat s) ([] : List Int)) (Int.toNat at_) (0 : Int))))) ([] : List Int)) (Int.toNat (((Ptr.off (decP (List.getD (List.getD l (Int.toNat s) ([] : List Int)) (Int.toNat at_) (0 : Int)))) : Int) + 1)) (0 : Int)))) (Ptr.off (decP (List.getD (List.getD l (Int.toNat (Ptr.segment (decP (List.getD (List.getD l (Int.toNat s) ([] : List Int)) (Int.toNat at_) (0 : Int))))) ([] : List Int)) (Int.toNat (((Ptr.off (decP (List.getD (List.getD l (Int.toNat s) ([] : List Int)) (Int.toNat at_) (0 : Int)))) : Int) + 1)) (0 : Int)))) (Ptr.data (decP (List.getD (List.getD l (Int.toNat (Ptr.segment (decP (List.getD (List.getD l (Int.toNat s) ([] : List Int)) (Int.toNat at_) (0 : Int))))) ([] : List Int)) (Int.toNat (((Ptr.off (decP (List.getD (List.getD l (Int.toNat s) ([] : List Int)) (Int.toNat at_) (0 : Int)))) : Int) + 1)) (0 : Int)))) (Ptr.ptrs (decP (List.getD (List.getD l (Int.toNat (Ptr.segment (decP (List.getD (List.getD l (Int.toNat s) ([] : List Int)) (Int.toNat at_) (0 : Int))))) ([] : List Int)) (Int.toNat (((Ptr.off (decP (List.getD (List.getD l (Int.toNat s) ([] : List Int)) (Int.toNat at_) (0 : Int)))) : Int) + 1)) (0 : Int)))) (Ptr.code (decP (List.getD (List.getD l (Int.toNat (Ptr.segment (decP (List.getD (List.getD l (Int.toNat s) ([] : List Int)) (Int.toNat at_) (0 : Int))))) ([] : List Int)) (Int.toNat (((Ptr.off (decP (List.getD (List.getD l (Int.toNat s) ([] : List Int)) (Int.toNat at_) (0 : Int)))) : Int) + 1)) (0 : Int)))) (Ptr.count (decP (List.getD (List.getD l (Int.toNat (Ptr.segment (decP (List.getD (List.getD l (Int.toNat s) ([] : List Int)) (Int.toNat at_) (0 : Int))))) ([] : List Int)) (Int.toNat (((Ptr.off (decP (List.getD (List.getD l (Int.toNat s) ([] : List Int)) (Int.toNat at_) (0 : Int)))) : Int) + 1)) (0 : Int)))) (Ptr.segment (decP (List.getD (List.getD l (Int.toNat (Ptr.segment (decP (List.getD (List.getD l (Int.toNat s) ([] : List Int)) (Int.toNat at_) (0 : Int))))) ([] : List Int)) (Int.toNat (((Ptr.off (decP (List.getD (List.getD l (Int.toNat s) ([] : List Int)) (Int.toNat at_) (0 : Int)))) : Int) + 1)) (0 : Int)))) (Ptr.double (decP (List.getD (List.getD l (Int.toNat (Ptr.segment (decP (List.getD (List.getD l (Int.toNat s) ([] : List Int)) (Int.toNat at_) (0 : Int))))) ([] : List Int)) (Int.toNat (((Ptr.off (decP (List.getD (List.getD l (Int.toNat s) ([] : List Int)) (Int.toNat at_) (0 : Int)))) : Int) + 1)) (0 : Int)))))) : Int) == 0) then (((Ptr.off (decP (List.getD (List.getD l (Int.toNat (Ptr.segment (decP (List.getD (List.getD l (Int.toNat s) ([] : List Int)) (Int.toNat at_) (0 : Int))))) ([] : List Int)) (Int.toNat (((Ptr.off (decP (List.getD (List.getD l (Int.toNat s) ([] : List Int)) (Int.toNat at_) (0 : Int)))) : Int) + 1)) (0 : Int)))) : Int) != 0) else false)))], [((.loc 6), [.int .i64 0, .int .i64 0, .int .i64 0, .int .i64 0, .int .i64 0, .int .i64 0, .int .i64 0, .bool false, .int .i64 0, .int .i64 0]), ((.loc 9), [.int .i64 (Ptr.kind (decP (List.getD (List.getD l (Int.toNat (Ptr.segment (decP (List.getD (List.getD l (Int.toNat s) ([] : List Int)) (Int.toNat at_) (0 : Int))))) ([] : List Int)) (Int.toNat (Ptr.off (decP (List.getD (List.getD l (Int.toNat s) ([] : List Int)) (Int.toNat at_) (0 : Int))))) (0 : Int)))), .int .i64 (Ptr.off (decP (List.getD (List.getD l (Int.toNat (Ptr.segment (decP (List.getD (List.getD l (Int.toNat s) ([] : List Int)) (Int.toNat at_) (0 : Int))))) ([] : List Int)) (Int.toNat (Ptr.off (decP (List.getD (List.getD l (Int.toNat s) ([] : List Int)) (Int.toNat at_) (0 : Int))))) (0 : Int)))), .int .i64 (Ptr.data (decP (List.getD (List.getD l (Int.toNat (Ptr.segment (decP (List.getD (List.getD l (Int.toNat s) ([] : List Int)) (Int.toNat at_) (0 : Int))))) ([] : List Int)) (Int.toNat (Ptr.off (decP (List.getD (List.getD l (Int.toNat s) ([] : List Int)) (Int.toNat at_) (0 : Int))))) (0 : Int)))), .int .i64 (Ptr.ptrs (decP (List.getD (List.getD l (Int.toNat (Ptr.segment (decP (List.getD (List.getD l (Int.toNat s) ([] : List Int)) (Int.toNat at_) (0 : Int))))) ([] : List Int)) (Int.toNat (Ptr.off (decP (List.getD (List.getD l (Int.toNat s) ([] : List Int)) (Int.toNat at_) (0 : Int))))) (0 : Int)))), .int .i64 (Ptr.code (decP (List.getD (List.getD l (Int.toNat (Ptr.segment (decP (List.getD (List.getD l (Int.toNat s) ([] : List Int)) (Int.toNat at_) (0 : Int))))) ([] : List Int)) (Int.toNat (Ptr.off (decP (List.getD (List.getD l (Int.toNat s) ([] : List Int)) (Int.toNat at_) (0 : Int))))) (0 : Int)))), .int .i64 (Ptr.count (decP (List.getD (List.getD l (Int.toNat (Ptr.segment (decP (List.getD (List.getD l (Int.toNat s) ([] : List Int)) (Int.toNat at_) (0 : Int))))) ([] : List Int)) (Int.toNat (Ptr.off (decP (List.getD (List.getD l (Int.toNat s) ([] : List Int)) (Int.toNat at_) (0 : Int))))) (0 : Int)))), .int .i64 (Ptr.segment (decP (List.getD (List.getD l (Int.toNat (Ptr.segment (decP (List.getD (List.getD l (Int.toNat s) ([] : List Int)) (Int.toNat at_) (0 : Int))))) ([] : List Int)) (Int.toNat (Ptr.off (decP (List.getD (List.getD l (Int.toNat s) ([] : List Int)) (Int.toNat at_) (0 : Int))))) (0 : Int)))), .bool (Ptr.double (decP (List.getD (List.getD l (Int.toNat (Ptr.segment (decP (List.getD (List.getD l (Int.toNat s) ([] : List Int)) (Int.toNat at_) (0 : Int))))) ([] : List Int)) (Int.toNat (Ptr.off (decP (List.getD (List.getD l (Int.toNat s) ([] : List Int)) (Int.toNat at_) (0 : Int))))) (0 : Int))))]), ((.loc 10), [.int .i64 (Ptr.kind (decP (List.getD (List.getD l (Int.toNat (Ptr.segment (decP (List.getD (List.getD l (Int.toNat s) ([] : List Int)) (Int.toNat at_) (0 : Int))))) ([] : List Int)) (Int.toNat (((Ptr.off (decP (List.getD (List.getD l (Int.toNat s) ([] : List Int)) (Int.toNat at_) (0 : Int)))) : Int) + 1)) (0 : Int)))), .int .i64 (Ptr.off (decP (List.getD (List.getD l (Int.toNat (Ptr.segment (decP (List.getD (List.getD l (Int.toNat s) ([] : List Int)) (Int.toNat at_) (0 : Int))))) ([] : List Int)) (Int.toNat (((Ptr.off (decP (List.getD (List.getD l (Int.toNat s) ([] : List Int)) (Int.toNat at_) (0 : Int)))) : Int) + 1)) (0 : Int)))), .int .i64 (Ptr.data (decP (List.getD (List.getD l (Int.toNat (Ptr.segment (decP (List.getD (List.getD l (Int.toNat s) ([] : List Int)) (Int.toNat at_) (0 : Int))))) ([] : List Int)) (Int.toNat (((Ptr.off (decP (List.getD (List.getD l (Int.toNat s) ([] : List Int)) (Int.toNat at_) (0 : Int)))) : Int) + 1)) (0 : Int)))), .int .i64 (Ptr.ptrs (decP (List.getD (List.getD l (Int.toNat (Ptr.segment (decP (List.getD (List.getD l (Int.toNat s) ([] : List Int)) (Int.toNat at_) (0 : Int))))) ([] : List Int)) (Int.toNat (((Ptr.off (decP (List.getD (List.getD l (Int.toNat s) ([] : List Int)) (Int.toNat at_) (0 : Int)))) : Int) + 1)) (0 : Int)))), .int .i64 (Ptr.code (decP (List.getD (List.getD l (Int.toNat (Ptr.segment (decP (List.getD (List.getD l (Int.toNat s) ([] : List Int)) (Int.toNat at_) (0 : Int))))) ([] : List Int)) (Int.toNat (((Ptr.off (decP (List.getD (List.getD l (Int.toNat s) ([] : List Int)) (Int.toNat at_) (0 : Int)))) : Int) + 1)) (0 : Int)))), .int .i64 (Ptr.count (decP (List.getD (List.getD l (Int.toNat (Ptr.segment (decP (List.getD (List.getD l (Int.toNat s) ([] : List Int)) (Int.toNat at_) (0 : Int))))) ([] : List Int)) (Int.toNat (((Ptr.off (decP (List.getD (List.getD l (Int.toNat s) ([] : List Int)) (Int.toNat at_) (0 : Int)))) : Int) + 1)) (0 : Int)))), .int .i64 (Ptr.segment (decP (List.getD (List.getD l (Int.toNat (Ptr.segment (decP (List.getD (List.getD l (Int.toNat s) ([] : List Int)) (Int.toNat at_) (0 : Int))))) ([] : List Int)) (Int.toNat (((Ptr.off (decP (List.getD (List.getD l (Int.toNat s) ([] : List Int)) (Int.toNat at_) (0 : Int)))) : Int) + 1)) (0 : Int)))), .bool (Ptr.double (decP (List.getD (List.getD l (Int.toNat (Ptr.segment (decP (List.getD (List.getD l (Int.toNat s) ([] : List Int)) (Int.toNat at_) (0 : Int))))) ([] : List Int)) (Int.toNat (((Ptr.off (decP (List.getD (List.getD l (Int.toNat s) ([] : List Int)) (Int.toNat at_) (0 : Int)))) : Int) + 1)) (0 : Int))))])], []⟩ : LSt U)
noncomputable def head65_1 (l : List (List Int)) (s : Int) (at_ : Int) (v110_a : V U) (x1_a : Int) (x2_a : Int) (ml8_0_a : Int) (ml8_1_a : Int) (ml8_2_a : Int) (ml8_3_a : Int) (ml8_4_a : Int) (ml8_5_a : Int) (ml8_6_a : Int) (ml8_7_a : Bool) : LSt U := (⟨[(0, .c (.slice (U := U) .words l .unk)), (1, .c (.int .i64 x1_a)), (2, .c (.int .i64 x2_a)), (6, .ptr (.loc 6) 0), (8, .ptr (.loc 8) 0), (110, v110_a)], [((.loc 6), [.int .i64 0, .int .i64 0, .int .i64 0, .int .i64 0, .int .i64 0, .int .i64 0, .int .i64 0, .bool false, .int .i64 0, .int .i64 0]), ((.loc 8), [.int .i64 ml8_0_a, .int .i64 ml8_1_a, .int .i64 ml8_2_a, .int .i64 ml8_3_a, .int .i64 ml8_4_a, .int .i64 ml8_5_a, .int .i64 ml8_6_a, .bool ml8_7_a])], []⟩ : LSt U)
noncomputable abbrev A65 (p : List Nat) := awp cfg (know know65) (drawOk cfg (know know65)) Try.f65.ntmps lv65 (cd Try.f65 p)
noncomputable abbrev S65 (p : List Nat) := seqK cfg (know know65) (drawOk cfg (know know65)) Try.f65.ntmps lv65 (cd Try.f65 p)
theorem vc65 (l : List (List Int)) (s : Int) (at_ : Int) (Q : AExit → LSt U → Prop) (h : ∀ y_1, y_1 = (List.getD l (Int.toNat s) ([] : List Int)) → ∀ y_2, y_2 = (List.getD y_1 (Int.toNat at_) (0 : Int)) → ∀ y_3, y_3 = (List.getD l (Int.toNat (Ptr.segment (decP y_2))) ([] : List Int)) → ∀ y_4, y_4 = (List.getD y_3 (Int.toNat (Ptr.off (decP y_2))) (0 : Int)) → ∀ y_5, y_5 = (List.getD y_3 (Int.toNat (((Ptr.off (decP y_2)) : Int) + 1)) (0 : Int)) → ∀ y_6, y_6 = ((decP y_5)) → ((pre89 (l, s, at_, ())) ∧ (((!(hasN l s at_ 1)) = true → (Q .ret (⟨[(6, .ptr (.loc 6) 0), (7, .c (.int .i64 7))], [((.loc 6), [.int .i64 0, .int .i64 0, .int .i64 0, .int .i64 0, .int .i64 0, .int .i64 0, .int .i64 0, .bool false, .int .i64 0, .int .i64 0])], []⟩ : LSt U))) ∧ ((!(hasN l s at_ 1)) = false → ((0 : Int) ≤ s ∧ s < (l.length : Int)) ∧ ((0 : Int) ≤ at_ ∧ at_ < (y_1.length : Int)) ∧ (pre66 (y_2, ())) ∧ ((((((Ptr.kind (decP y_2)) : Int) == 0) = true → (Q .ret (⟨[(6, .ptr (.loc 6) 0), (7, .c (.int .i64 0))], [((.loc 6), [.int .i64 0, .int .i64 0, .int .i64 0, .int .i64 0, .int .i64 0, .int .i64 0, .int .i64 0, .bool false, .int .i64 0, .int .i64 0])], []⟩ : LSt U))) ∧ ((((Ptr.kind (decP y_2)) : Int) == 0) = false → (Tr ((((Ptr.kind (decP y_2)) : Int) == 3) = true)) ∧ ((Tr ((((Ptr.kind (decP y_2)) : Int) == 3) = true))) ∧ (((bif (((Ptr.kind (decP y_2)) : Int) == 3) then (Ptr.double (decP y_2)) else false) = true → (pre89 (l, (Ptr.segment (decP y_2)), (Ptr.off (decP y_2)), ())) ∧ (Tr ((!(!(hasN l (Ptr.segment (decP y_2)) (Ptr.off (decP y_2)) 1))) = true)) ∧ (Tr ((!(!(hasN l (Ptr.segment (decP y_2)) (Ptr.off (decP y_2)) 1))) = true)) ∧ (Tr ((!(!(hasN l (Ptr.segment (decP y_2)) (Ptr.off (decP y_2)) 1))) = true)) ∧ ((!(!(hasN l (Ptr.segment (decP y_2)) (Ptr.off (decP y_2)) 1))) = true → InR (((Ptr.off (decP y_2)) : Int) + 1)) ∧ (Tr ((!(!(hasN l (Ptr.segment (decP y_2)) (Ptr.off (decP y_2)) 1))) = true)) ∧ (Tr ((!(!(hasN l (Ptr.segment (decP y_2)) (Ptr.off (decP y_2)) 1))) = true)) ∧ (Tr ((!(!(hasN l (Ptr.segment (decP y_2)) (Ptr.off (decP y_2)) 1))) = true)) ∧ ((!(!(hasN l (Ptr.segment (decP y_2)) (Ptr.off (decP y_2)) 1))) = true → pre89 (l, (Ptr.segment (decP y_2)), (((Ptr.off (decP y_2)) : Int) + 1), ())) ∧ (Tr ((!(!(hasN l (Ptr.segment (decP y_2)) (Ptr.off (decP y_2)) 1))) = true)) ∧ (((!(hasN l (Ptr.segment (decP y_2)) (Ptr.off (decP y_2)) 1)) = false → (!(!(hasN l (Ptr.segment (decP y_2)) (Ptr.off (decP y_2)) 1))) = true)) ∧ (((bif (!(hasN l (Ptr.segment (decP y_2)) (Ptr.off (decP y_2)) 1)) then true else (!(hasN l (Ptr.segment (decP y_2)) (((Ptr.off (decP y_2)) : Int) + 1) 1))) = true → (Q .ret (⟨[(6, .ptr (.loc 6) 0), (7, .c (.int .i64 7))], [((.loc 6), [.int .i64 0, .int .i64 0, .int .i64 0, .int .i64 0, .int .i64 0, .int .i64 0, .int .i64 0, .bool false, .int .i64 0, .int .i64 0])], []⟩ : LSt U))) ∧ ((bif (!(hasN l (Ptr.segment (decP y_2)) (Ptr.off (decP y_2)) 1)) then true else (!(hasN l (Ptr.segment (decP y_2)) (((Ptr.off (decP y_2)) : Int) + 1) 1))) = false → ((0 : Int) ≤ (Ptr.segment (decP y_2)) ∧ (Ptr.segment (decP y_2)) < (l.length : Int)) ∧ ((0 : Int) ≤ (Ptr.off (decP y_2)) ∧ (Ptr.off (decP y_2)) < (y_3.length : Int)) ∧ (pre66 (y_4, ())) ∧ ((0 : Int) ≤ (Ptr.segment (decP y_2)) ∧ (Ptr.segment (decP y_2)) < (l.length : Int)) ∧ (InR (((Ptr.off (decP y_2)) : Int) + 1)) ∧ ((0 : Int) ≤ (((Ptr.off (decP y_2)) : Int) + 1) ∧ (((Ptr.off (decP y_2)) : Int) + 1) < (y_3.length : Int)) ∧ (pre66 (y_5, ())) ∧ ((Tr ((!(((Ptr.kind (decP y_4)) : Int) != 3)) = true)) ∧ (((((Ptr.kind (decP y_4)) : Int) != 3) = false → (!(((Ptr.kind (decP y_4)) : Int) != 3)) = true)) ∧ (((bif (((Ptr.kind (decP y_4)) : Int) != 3) then true else (Ptr.double (decP y_4))) = true → (Q .ret (⟨[(6, .ptr (.loc 6) 0), (7, .c (.int .i64 8))], [((.loc 6), [.int .i64 0, .int .i64 0, .int .i64 0, .int .i64 0, .int .i64 0, .int .i64 0, .int .i64 0, .bool false, .int .i64 0, .int .i64 0])], []⟩ : LSt U))) ∧ ((bif (((Ptr.kind (decP y_4)) : Int) != 3) then true else (Ptr.double (decP y_4))) = false → (pre90 (y_6, ())) ∧ ((Tr ((((shapeE y_6) : Int) == 0) = true)) ∧ (Tr ((((shapeE y_6) : Int) == 0) = true)) ∧ ((Tr ((((shapeE y_6) : Int) == 0) = true))) ∧ (((bif (((shapeE y_6) : Int) == 0) then (((Ptr.off (decP y_5)) : Int) != 0) else false) = true → (A65 [1, 1, 1, 1, 0, 1, 0, 1, 1, 1, 1, 1] (head65_0 l s at_ 8) (S65 [1, 1, 1, 1, 1] Q))) ∧ ((bif (((shapeE y_6) : Int) == 0) then (((Ptr.off (decP y_5)) : Int) != 0) else false) = false → A65 [1, 1, 1, 1, 0, 1, 0, 1, 1, 1, 1, 1] (head65_0 l s at_ (shapeE y_6)) (S65 [1, 1, 1, 1, 1] Q)))))))))) ∧ ((bif (((Ptr.kind (decP y_2)) : Int) == 3) then (Ptr.double (decP y_2)) else false) = false → (((((Ptr.kind (decP y_2)) : Int) == 3) = true → (((pre89 (l, (Ptr.segment (decP y_2)), (Ptr.off (decP y_2)), ())) ∧ (((!(hasN l (Ptr.segment (decP y_2)) (Ptr.off (decP y_2)) 1)) = true → (Q .ret (⟨[(6, .ptr (.loc 6) 0), (7, .c (.int .i64 7))], [((.loc 6), [.int .i64 0, .int .i64 0, .int .i64 0, .int .i64 0, .int .i64 0, .int .i64 0, .int .i64 0, .bool false, .int .i64 0, .int .i64 0])], []⟩ : LSt U))) ∧ ((!(hasN l (Ptr.segment (decP y_2)) (Ptr.off (decP y_2)) 1)) = false → ((0 : Int) ≤ (Ptr.segment (decP y_2)) ∧ (Ptr.segment (decP y_2)) < (l.length : Int)) ∧ ((0 : Int) ≤ (Ptr.off (decP y_2)) ∧ (Ptr.off (decP y_2)) < (y_3.length : Int)) ∧ (pre66 (y_4, ())) ∧ (A65 [1, 1, 1, 1, 1, 1] (head65_1 l s at_ .junk (Ptr.segment (decP y_2)) (Ptr.off (decP y_2)) (Ptr.kind (decP y_4)) (Ptr.off (decP y_4)) (Ptr.data (decP y_4)) (Ptr.ptrs (decP y_4)) (Ptr.code (decP y_4)) (Ptr.count (decP y_4)) (Ptr.segment (decP y_4)) (Ptr.double (decP y_4))) Q)))))) ∧ ((((Ptr.kind (decP y_2)) : Int) == 3) = false → A65 [1, 1, 1, 1, 1, 1] (head65_1 l s at_ (.c (.bool (((Ptr.kind (decP y_2)) : Int) == 3))) s at_ (Ptr.kind (decP y_2)) (Ptr.off (decP y_2)) (Ptr.data (decP y_2)) (Ptr.ptrs (decP y_2)) (Ptr.code (decP y_2)) (Ptr.count (decP y_2)) (Ptr.segment (decP y_2)) (Ptr.double (decP y_2))) Q))))))))))) :
    A65 [] (⟨[(0, .c (.slice (U := U) .words l .unk)), (1, .c (.int .i64 s)), (2, .c (.int .i64 at_))], [], []⟩ : LSt U) Q :=
  Eq.mpr (by kernel_rfl) (h _ rfl _ rfl _ rfl _ rfl _ rfl _ (rePtr_eq _))
theorem vc65_c0 (l : List (List Int)) (s : Int) (at_ : Int) (x11 : Int) (Q : AExit → LSt U → Prop) (h : ∀ y_1, y_1 = (List.getD l (Int.toNat s) ([] : List Int)) → ∀ y_2, y_2 = (List.getD y_1 (Int.toNat at_) (0 : Int)) → ∀ y_3, y_3 = (List.getD l (Int.toNat (Ptr.segment (decP y_2))) ([] : List Int)) → ∀ y_4, y_4 = (List.getD y_3 (Int.toNat (Ptr.off (decP y_2))) (0 : Int)) → ∀ y_5, y_5 = (List.getD y_3 (Int.toNat (((Ptr.off (decP y_2)) : Int) + 1)) (0 : Int)) → ∀ y_6, y_6 = ((decP y_5)) → ∀ y_7, y_7 = (insideL l (Loc.mk y_6 (Ptr.segment (decP y_4)) (Ptr.off (decP y_4)))) → ((((x11 : Int) != 0) = true → (Q .ret (⟨[(6, .ptr (.loc 6) 0), (7, .c (.int .i64 x11))], [((.loc 6), [.int .i64 0, .int .i64 0, .int .i64 0, .int .i64 0, .int .i64 0, .int .i64 0, .int .i64 0, .bool false, .int .i64 0, .int .i64 0])], []⟩ : LSt U))) ∧ (((x11 : Int) != 0) = false → (pre91 (l, (Loc.mk y_6 (Ptr.segment (decP y_4)) (Ptr.off (decP y_4))), ())) ∧ (Q .ret (⟨[(6, .ptr (.loc 6) 0), (7, .c (.int .i64 (y_7.2)))], [((.loc 6), [.int .i64 (Ptr.kind (Loc.p (y_7.1))), .int .i64 (Ptr.off (Loc.p (y_7.1))), .int .i64 (Ptr.data (Loc.p (y_7.1))), .int .i64 (Ptr.ptrs (Loc.p (y_7.1))), .int .i64 (Ptr.code (Loc.p (y_7.1))), .int .i64 (Ptr.count (Loc.p (y_7.1))), .int .i64 (Ptr.segment (Loc.p (y_7.1))), .bool (Ptr.double (Loc.p (y_7.1))), .int .i64 (Loc.segment (y_7.1)), .int .i64 (Loc.at_ (y_7.1))])], []⟩ : LSt U))))) :
    A65 [1, 1, 1, 1, 0, 1, 0, 1, 1, 1, 1, 1] (head65_0 l s at_ x11) (S65 [1, 1, 1, 1, 1] Q) :=
  Eq.mpr (by kernel_rfl) (h _ rfl _ rfl _ rfl _ rfl _ rfl _ (rePtr_eq _) _ rfl)
theorem vc65_c1 (l : List (List Int)) (s : Int) (at_ : Int) (v110_a : V U) (x1_a : Int) (x2_a : Int) (ml8_0_a : Int) (ml8_1_a : Int) (ml8_2_a : Int) (ml8_3_a : Int) (ml8_4_a : Int) (ml8_5_a : Int) (ml8_6_a : Int) (ml8_7_a : Bool) (Q : AExit → LSt U → Prop) (h : ∀ y_1, y_1 = (Ptr.mk ml8_0_a ml8_1_a ml8_2_a ml8_3_a ml8_4_a ml8_5_a ml8_6_a ml8_7_a) → ∀ y_2, y_2 = (insideL l (Loc.mk y_1 x1_a ((((x2_a : Int) + 1) : Int) + ml8_1_a))) → (pre90 (y_1, ())) ∧ ((((((shapeE y_1) : Int) != 0) = true → (Q .ret (⟨[(6, .ptr (.loc 6) 0), (7, .c (.int .i64 (shapeE y_1)))], [((.loc 6), [.int .i64 0, .int .i64 0, .int .i64 0, .int .i64 0, .int .i64 0, .int .i64 0, .int .i64 0, .bool false, .int .i64 0, .int .i64 0])], []⟩ : LSt U))) ∧ ((((shapeE y_1) : Int) != 0) = false → (InR ((x2_a : Int) + 1)) ∧ (InR ((((x2_a : Int) + 1) : Int) + ml8_1_a)) ∧ (pre91 (l, (Loc.mk y_1 x1_a ((((x2_a : Int) + 1) : Int) + ml8_1_a)), ())) ∧ (Q .ret (⟨[(6, .ptr (.loc 6) 0), (7, .c (.int .i64 (y_2.2)))], [((.loc 6), [.int .i64 (Ptr.kind (Loc.p (y_2.1))), .int .i64 (Ptr.off (Loc.p (y_2.1))), .int .i64 (Ptr.data (Loc.p (y_2.1))), .int .i64 (Ptr.ptrs (Loc.p (y_2.1))), .int .i64 (Ptr.code (Loc.p (y_2.1))), .int .i64 (Ptr.count (Loc.p (y_2.1))), .int .i64 (Ptr.segment (Loc.p (y_2.1))), .bool (Ptr.double (Loc.p (y_2.1))), .int .i64 (Loc.segment (y_2.1)), .int .i64 (Loc.at_ (y_2.1))])], []⟩ : LSt U)))))) :
    A65 [1, 1, 1, 1, 1, 1] (head65_1 l s at_ v110_a x1_a x2_a ml8_0_a ml8_1_a ml8_2_a ml8_3_a ml8_4_a ml8_5_a ml8_6_a ml8_7_a) Q :=
  Eq.mpr (by kernel_rfl) (h _ rfl _ rfl)
def Body65 (l : List (List Int)) (s : Int) (at_ : Int)  : Prop := awp cfg (know (know65)) (drawOk cfg (know (know65))) Try.f65.ntmps lv65 (cd Try.f65 []) (entry (args65.can (l, s, at_, ())) []) (EndsQ cfg Try.f65.ntmps Try.f65.results.toList (res65 (l, s, at_, ())) [])
theorem make65 (c89 : Contract Try.prog cfg 89 spec89) (c66 : Contract Try.prog cfg 66 spec66) (c90 : Contract Try.prog cfg 90 spec90) (c91 : Contract Try.prog cfg 91 spec91) (hb : ∀ (l : List (List Int)) (s : Int) (at_ : Int) (_ : Unit), pre65 (l, s, at_, ()) → Body65 l s at_) : Contract Try.prog cfg 65 spec65 :=
  contract_flat (l := [(89, spec89), (66, spec66), (90, spec90), (91, spec91)]) cfgOk rfl (⟨c89, c66, c90, c91, trivial⟩) lv65 Try.func65 rfl rfl 3 (fun _ => rfl) (by decide) (fun ⟨l, s, at_, _⟩ => hb l s at_ ())

end Go.AM.Ythokdjgpdonhgaa

namespace Go.AM.Ythokdjgpdonhgaa
open Go.AM Go.Proofs

abbrev tL (x : Loc × Int) : V U := .tup [(true, enc .loc x.1), (false, [.int .i64 x.2])]

theorem wordsP_nn {p : Ptr} (h : OkP p) (hk : p.kind = 1 ∨ p.kind = 2) : 0 ≤ wordsP p := by
  have h1 := h.data
  have h2 := h.ptrs
  have h3 := h.code
  have h4 := h.count
  have hb : 0 ≤ bitsP p.code := by unfold bitsP; (repeat' split) <;> omega
  have hm := Int.mul_nonneg h4.1 hb
  unfold wordsP
  repeat' split
  all_goals omega

theorem c113 : Contract Try.prog cfg 113 spec113 := by
  refine make113 c122 c85 ?_
  intro a x _ hp
  obtain ⟨ha, hx, hk⟩ := hp
  dsimp only at ha hx hk
  refine vc113 _ _ _ ?_
  rintro y hy
  dsimp only at hy
  subst hy
  (simp only [vcT, bif_tl, bif_fr, bif_tlf, bif_frf, Bool.not_eq_true', Bool.not_eq_false', decide_eq_true_eq, decide_eq_false_iff_not, beq_iff_eq, beq_eq_false_iff_ne, bne_iff_ne, ne_eq, bne_eq_false_iff_eq, Bool.or_eq_true, Bool.and_eq_true, Bool.or_eq_false_iff, Bool.and_eq_false_imp])
  have hw := wordsP_nn hx hk
  rw [if_neg (show ¬ wordsP x.p < 0 by omega)]
  have hr : res113 (a, x, ()) = tL (insideL (segO a) x) := rfl
  rw [hr]
  refine ⟨hx, ha, fun h => ?_, fun h => ?_⟩
  · rw [show insideL (segO a) x = (locZ, 7) by unfold insideL; rw [h]; rfl]; (repeat' (first | exact trivial | exact rfl | refine And.intro ?_ ?_))
  · rw [show insideL (segO a) x = (⟨off0 x.p, x.segment, x.at_⟩, 0) by unfold insideL; rw [h]; rfl]; (repeat' (first | exact trivial | exact rfl | refine And.intro ?_ ?_))

theorem shape_1 {p : Ptr} (h : p.kind = 1 ∨ p.kind = 2) : shapeE p = 0 := by unfold shapeE; rw [if_neg (by omega), if_pos h]
theorem shape_4 {p : Ptr} (h : p.kind = 4) : shapeE p = 9 := by unfold shapeE; rw [if_pos h]
theorem shape_8 {p : Ptr} (h1 : ¬p.kind = 1) (h2 : ¬p.kind = 2) (h4 : ¬p.kind = 4) : shapeE p = 8 := by unfold shapeE; rw [if_neg h4, if_neg (by omega)]

theorem c87 : Contract Try.prog cfg 87 spec87 := by
  refine make87 c113 ?_
  intro a p s x _ hp
  obtain ⟨ha, hx, h0, h1⟩ := hp
  dsimp only at ha hx h0 h1
  have ho := hx.off
  refine vc87 _ _ _ _ _ ?_
  rintro y hy z hz
  dsimp only at hy hz
  replace hy := hy.symm
  subst hy hz
  (simp only [vcT, bif_tl, bif_fr, bif_tlf, bif_frf, Bool.not_eq_true', Bool.not_eq_false', decide_eq_true_eq, decide_eq_false_iff_not, beq_iff_eq, beq_eq_false_iff_ne, bne_iff_ne, ne_eq, bne_eq_false_iff_eq, Bool.or_eq_true, Bool.and_eq_true, Bool.or_eq_false_iff, Bool.and_eq_false_imp])
  have hr : res87 (a, p, s, x, ()) = tL (nearL (segO a) p s x) := rfl
  rw [hr]
  have hok : p.kind = 1 ∨ p.kind = 2 → nearL (segO a) p s x = insideL (segO a) ⟨p, s, x + 1 + p.off⟩ := fun h => by
    unfold nearL; rw [shape_1 h, if_pos rfl]
  have h4 : p.kind = 4 → nearL (segO a) p s x = (locZ, 9) := fun h => by unfold nearL; rw [shape_4 h, if_neg (by decide)]
  have h8 : ¬p.kind = 1 → ¬p.kind = 2 → ¬p.kind = 4 → nearL (segO a) p s x = (locZ, 8) := fun a1 a2 a3 => by unfold nearL; rw [shape_8 a1 a2 a3, if_neg (by decide)]
  refine ⟨fun k1 => ⟨fun _ => ⟨by ((unfold InR; omega)), by ((unfold InR; omega)), ⟨ha, hx, .inl k1⟩, ?_⟩, fun k2 => absurd k1 k2⟩, fun k1 => ⟨fun k2 => ⟨by ((unfold InR; omega)), by ((unfold InR; omega)), ⟨ha, hx, .inr k2⟩, ?_⟩, fun k2 => ⟨fun k4 => ?_, fun k4 => ?_⟩⟩⟩
  · rw [hok (.inl k1)]; (repeat' (first | exact trivial | exact rfl | refine And.intro ?_ ?_))
  · rw [hok (.inr k2)]; (repeat' (first | exact trivial | exact rfl | refine And.intro ?_ ?_))
  · rw [h4 k4]; (repeat' (first | exact trivial | exact rfl | refine And.intro ?_ ?_))
  · rw [h8 k1 k2 k4]; (repeat' (first | exact trivial | exact rfl | refine And.intro ?_ ?_))

theorem partS_get {l : List (List Int)} {s x : Int} {n k : Nat} (hx : 0 ≤ x) (hk : k < n) : (partS l s x (n : Int)).getD k 0 = getS l s (x + k) := by
  unfold partS getS
  rw [List.getD_eq_getElem?_getD, List.getD_eq_getElem?_getD, List.getElem?_take_of_lt (by omega), List.getElem?_drop, show (x + (k : Int)).toNat = x.toNat + k by omega]

theorem partS_len {l : List (List Int)} {s x n : Int} (h : hasN l s x n = true) : ((partS l s x n).length : Int) = n := by
  have hh := hasN_iff.1 h
  unfold partS
  simp
  omega

theorem c88 : Contract Try.prog cfg 88 spec88 := by
  refine make88 c114 c86 c113 ?_
  intro a s x _ ha
  simp only [pre88] at ha
  refine vc88 _ _ _ _ ?_
  rintro y1 h1 y2 h2 y3 h3 y4 h4
  dsimp only at h1 h2 h3 h4
  (simp only [vcT, bif_tl, bif_fr, bif_tlf, bif_frf, Bool.not_eq_true', Bool.not_eq_false', decide_eq_true_eq, decide_eq_false_iff_not, beq_iff_eq, beq_eq_false_iff_ne, bne_iff_ne, ne_eq, bne_eq_false_iff_eq, Bool.or_eq_true, Bool.and_eq_true, Bool.or_eq_false_iff, Bool.and_eq_false_imp])
  have hr : res88 (a, s, x, ()) = tL (doubleL (segO a) s x) := rfl
  rw [hr]
  refine ⟨ha, fun h => ?_, fun h => ?_⟩
  · rw [show doubleL (segO a) s x = (locZ, 7) by unfold doubleL; rw [h]; rfl]; (repeat' (first | exact trivial | exact rfl | refine And.intro ?_ ?_))
  · have hh := hasN_iff.1 h
    have hl := partS_len h
    rw [if_pos h] at h1 h2 ⊢
    have e1 : y1 = getS (segO a) s x := by rw [h1]; have := partS_get (l := segO a) (s := s) (x := x) (n := 2) (k := 0) hh.2.2.1 (by decide); simpa using this
    have e2 : y2 = getS (segO a) s (x + 1) := by rw [h2]; have := partS_get (l := segO a) (s := s) (x := x) (n := 2) (k := 1) hh.2.2.1 (by decide); simpa using this
    have w1 := getS_word ha s x
    have w2 := getS_word ha s (x + 1)
    have o2 := okP_dec w2.1 w2.2
    clear h1 h2
    subst e1 e2 h3 h4
    have hD : doubleL (segO a) s x = if (decP (getS (segO a) s x)).kind ≠ 3 ∨ (decP (getS (segO a) s x)).double = true then (locZ, 8)
        else if shapeE (decP (getS (segO a) s (x + 1))) ≠ 0 then (locZ, shapeE (decP (getS (segO a) s (x + 1))))
        else if (decP (getS (segO a) s (x + 1))).off ≠ 0 then (locZ, 8)
        else insideL (segO a) ⟨decP (getS (segO a) s (x + 1)), (decP (getS (segO a) s x)).segment, (decP (getS (segO a) s x)).off⟩ := by unfold doubleL; rw [h]; rfl
    rw [hD]
    refine ⟨by omega, w1, by omega, w2, fun k => ?_, fun k => ⟨fun k4 => ?_, fun k4 => ⟨fun k5 => ?_, fun k5 => ⟨⟨ha, o2, k5.1⟩, ?_⟩⟩⟩⟩
    · rw [if_pos k]; (repeat' (first | exact trivial | exact rfl | refine And.intro ?_ ?_))
    all_goals rw [if_neg (show ¬ ((decP (getS (segO a) s x)).kind ≠ 3 ∨ (decP (getS (segO a) s x)).double = true) by rw [k.1, k.2]; simp)]
    · rw [shape_4 k4, if_pos (by decide)]; (repeat' (first | exact trivial | exact rfl | refine And.intro ?_ ?_))
    · by_cases k6 : (decP (getS (segO a) s (x + 1))).kind = 1 ∨ (decP (getS (segO a) s (x + 1))).kind = 2
      · rw [shape_1 k6, if_neg (by decide), if_pos (by omega)]; (repeat' (first | exact trivial | exact rfl | refine And.intro ?_ ?_))
      · rw [shape_8 (fun e => k6 (.inl e)) (fun e => k6 (.inr e)) k4, if_pos (by decide)]; (repeat' (first | exact trivial | exact rfl | refine And.intro ?_ ?_))
    · rw [shape_1 k5.1, if_neg (by decide), if_neg (by omega)]; (repeat' (first | exact trivial | exact rfl | refine And.intro ?_ ?_))

theorem c63 : Contract Try.prog cfg 63 spec63 := by
  refine make63 c62 c86 c87 c88 ?_
  intro a s x _ ha
  simp only [pre63] at ha
  refine vc63 _ _ _ _ ?_
  rintro y1 h1 y2 h2 y3 h3 y4 h4 y5 h5 y6 h6
  dsimp only at h1 h2 h3 h4 h5 h6
  (simp only [vcT, bif_tl, bif_fr, bif_tlf, bif_frf, Bool.not_eq_true', Bool.not_eq_false', decide_eq_true_eq, decide_eq_false_iff_not, beq_iff_eq, beq_eq_false_iff_ne, bne_iff_ne, ne_eq, bne_eq_false_iff_eq, Bool.or_eq_true, Bool.and_eq_true, Bool.or_eq_false_iff, Bool.and_eq_false_imp])
  have hr : res63 (a, s, x, ()) = tL (follow (segO a) s x) := rfl
  rw [hr]
  refine ⟨ha, fun h => ?_, fun h => ?_⟩
  · rw [show follow (segO a) s x = (locZ, 7) by unfold follow; rw [h]; rfl]; (repeat' (first | exact trivial | exact rfl | refine And.intro ?_ ?_))
  · have hh := hasN_iff.1 h
    have hl := (okSeg_at ha s).1
    have hl2 := (okSeg_at ha y1.segment).1
    have w1 := getS_word ha s x
    rw [if_pos h] at h1 ⊢
    have o1 := okP_dec w1.1 w1.2
    rw [← h1] at o1
    have hD : follow (segO a) s x = if y1.kind = 0 then (locZ, 0) else if y1.kind ≠ 3 then nearL (segO a) y1 s x else if y1.double = true then doubleL (segO a) y1.segment y1.off
        else if hasN (segO a) y1.segment y1.off 1 then nearL (segO a) (decP (getS (segO a) y1.segment y1.off)) y1.segment y1.off else (locZ, 7) := by unfold follow; rw [h, h1]; rfl
    rw [hD]
    clear hD
    subst h2 h3 h5 h6
    refine ⟨w1, fun k0 => ?_, fun k0 => ⟨fun k3 => ⟨⟨ha, o1, hh.2.2.1, by dsimp only; omega⟩, ?_⟩, fun k3 => ⟨fun kd => ⟨ha, ?_⟩, fun kd => ⟨ha, fun kh => ?_, fun kh => ?_⟩⟩⟩⟩
    · rw [if_pos k0]; (repeat' (first | exact trivial | exact rfl | refine And.intro ?_ ?_))
    · rw [if_neg k0, if_pos k3]; (repeat' (first | exact trivial | exact rfl | refine And.intro ?_ ?_))
    · rw [if_neg k0, if_neg (by omega), if_pos kd]; (repeat' (first | exact trivial | exact rfl | refine And.intro ?_ ?_))
    · rw [if_neg k0, if_neg (by omega), if_neg (by rw [kd]; decide), if_neg (by rw [kh]; decide)]; (repeat' (first | exact trivial | exact rfl | refine And.intro ?_ ?_))
    · have hh2 := hasN_iff.1 kh
      have w2 := getS_word ha y2.segment y2.off
      rw [if_pos kh] at h4 ⊢
      subst h4
      refine ⟨w2, ⟨ha, okP_dec w2.1 w2.2, hh2.2.2.1, by dsimp only; omega⟩, ?_⟩
      rw [if_neg k0, if_neg (by omega), if_neg (by rw [kd]; decide), if_pos kh]; (repeat' (first | exact trivial | exact rfl | refine And.intro ?_ ?_))

theorem c89 : Contract Try.prog cfg 89 spec89 := by
  refine make89 ?_
  intro l s x _ hp
  refine vc89 _ _ _ _ ?_
  (simp only [vcT, bif_tl, bif_fr, bif_tlf, bif_frf, Bool.not_eq_true', Bool.not_eq_false', decide_eq_true_eq, decide_eq_false_iff_not, beq_iff_eq, beq_eq_false_iff_ne, bne_iff_ne, ne_eq, bne_eq_false_iff_eq, Bool.or_eq_true, Bool.and_eq_true, Bool.or_eq_false_iff, Bool.and_eq_false_imp])
  refine ⟨fun h => by omega, ends_bool rfl ?_⟩
  rw [Bool.eq_iff_iff]
  show _ ↔ hasN l s x 1 = true
  rw [hasN_iff]
  (simp only [vcT, bif_tl, bif_fr, bif_tlf, bif_frf, Bool.not_eq_true', Bool.not_eq_false', decide_eq_true_eq, decide_eq_false_iff_not, beq_iff_eq, beq_eq_false_iff_ne, bne_iff_ne, ne_eq, bne_eq_false_iff_eq, Bool.or_eq_true, Bool.and_eq_true, Bool.or_eq_false_iff, Bool.and_eq_false_imp])
  constructor
  · rintro ⟨⟨⟨h0, h1⟩, h2⟩, h3⟩
    rw [segAt_in h0]
    omega
  · rintro ⟨h0, h1, h2, h3, h4⟩
    rw [segAt_in h0] at h4
    omega

theorem c90 : Contract Try.prog cfg 90 spec90 := by
  refine make90 ?_
  intro p _ _
  refine vc90 _ _ ?_
  (simp only [vcT, bif_tl, bif_fr, bif_tlf, bif_frf, Bool.not_eq_true', Bool.not_eq_false', decide_eq_true_eq, decide_eq_false_iff_not, beq_iff_eq, beq_eq_false_iff_ne, bne_iff_ne, ne_eq, bne_eq_false_iff_eq, Bool.or_eq_true, Bool.and_eq_true, Bool.or_eq_false_iff, Bool.and_eq_false_imp])
  refine ⟨fun h => ends_int rfl ?_, fun h => ⟨fun h2 => ends_int rfl ?_, fun h2 => ends_int rfl ?_⟩⟩
  all_goals
    show _ = shapeE p
    unfold shapeE
  · rw [if_pos h]
  · rw [if_neg h, if_neg (by omega)]
  · rw [if_neg h, if_pos h2]

theorem c91 : Contract Try.prog cfg 91 spec91 := by
  refine make91 c115 ?_
  intro l x _ hp
  obtain ⟨ha, hx, hk⟩ := hp
  dsimp only at ha hx hk
  refine vc91 _ _ _ ?_
  rintro y hy z hz
  dsimp only at hy hz
  subst hy
  (simp only [vcT, bif_tl, bif_fr, bif_tlf, bif_frf, Bool.not_eq_true', Bool.not_eq_false', decide_eq_true_eq, decide_eq_false_iff_not, beq_iff_eq, beq_eq_false_iff_ne, bne_iff_ne, ne_eq, bne_eq_false_iff_eq, Bool.or_eq_true, Bool.and_eq_true, Bool.or_eq_false_iff, Bool.and_eq_false_imp])
  have hw := wordsP_nn hx hk
  have hr : res91 (l, x, ()) = tL (insideL l x) := rfl
  rw [hr]
  have hs : ¬x.segment < 0 → segAt l x.segment = z := fun h => by rw [segAt_in (by omega), hz]
  have hl := (okSeg_at ha x.segment).1
  refine ⟨hx, fun h => by omega, fun h => by omega, fun h => by rw [hs h.1.1.1] at hl; ((unfold InR; omega)), fun h => ?_, fun h => ?_⟩
  · have hf : hasN l x.segment x.at_ (wordsP x.p) = false := by
      cases e : hasN l x.segment x.at_ (wordsP x.p) with
      | false => rfl
      | true =>
        have hh := hasN_iff.1 e
        rw [hs (by omega)] at hh
        omega
    rw [show insideL l x = (locZ, 7) by unfold insideL; rw [hf]; rfl]; (repeat' (first | exact trivial | exact rfl | refine And.intro ?_ ?_))
  · have ht : hasN l x.segment x.at_ (wordsP x.p) = true := by
      rw [hasN_iff, hs (by omega)]
      omega
    rw [show insideL l x = (⟨off0 x.p, x.segment, x.at_⟩, 0) by unfold insideL; rw [ht]; rfl]; (repeat' (first | exact trivial | exact rfl | refine And.intro ?_ ?_))
theorem cut65 {l : List (List Int)} (hl : okSeg l) (s x : Int) (v : V U) {p : Ptr} (hp : OkP p) (s' x' : Int) (h0 : 0 ≤ x') (h1 : x' ≤ 17592186044416) (hf : follow l s x = nearL l p s' x') :
    A65 [1, 1, 1, 1, 1, 1] (head65_1 l s x v s' x' p.kind p.off p.data p.ptrs p.code p.count p.segment p.double) (EndsQ cfg Try.f65.ntmps Try.f65.results.toList (res65 (l, s, x, ())) []) := by
  have ho := hp.off
  refine vc65_c1 _ _ _ _ _ _ _ _ _ _ _ _ _ _ _ ?_
  rintro y1 h1 y2 h2
  subst h1 h2
  (simp only [vcT, bif_tl, bif_fr, bif_tlf, bif_frf, Bool.not_eq_true', Bool.not_eq_false', decide_eq_true_eq, decide_eq_false_iff_not, beq_iff_eq, beq_eq_false_iff_ne, bne_iff_ne, ne_eq, bne_eq_false_iff_eq, Bool.or_eq_true, Bool.and_eq_true, Bool.or_eq_false_iff, Bool.and_eq_false_imp])
  have hr : res65 (l, s, x, ()) = tL (follow l s x) := rfl
  rw [hr, hf]
  refine ⟨trivial, fun h => ?_, fun h => ⟨by ((unfold InR; omega)), by ((unfold InR; omega)), ⟨hl, hp, shapeE_zero h⟩, ?_⟩⟩
  · rw [show nearL l p s' x' = (locZ, shapeE p) by unfold nearL; rw [if_neg h]]; (repeat' (first | exact trivial | exact rfl | refine And.intro ?_ ?_))
  · rw [show nearL l p s' x' = insideL l ⟨p, s', x' + 1 + p.off⟩ by unfold nearL; rw [if_pos (show shapeE p = 0 from h)]]; (repeat' (first | exact trivial | exact rfl | refine And.intro ?_ ?_))

theorem c65 : Contract Try.prog cfg 65 spec65 := by
  refine make65 c89 c66 c90 c91 ?_
  intro l s x _ hl
  simp only [pre65] at hl
  have hS : ∀ {s x : Int}, hasN l s x 1 = true → (0 ≤ s ∧ s < (l.length : Int)) ∧ (0 ≤ x ∧ x < ((l.getD s.toNat []).length : Int)) ∧ (l.getD s.toNat []).getD x.toNat 0 = getS l s x ∧ x + 1 ≤ 17592186044416 := by
    intro s x h
    have hh := hasN_iff.1 h
    have hb := (okSeg_at hl s).1
    rw [segAt_in hh.1] at hh hb
    refine ⟨⟨hh.1, hh.2.1⟩, ⟨hh.2.2.1, by omega⟩, by unfold getS; rw [segAt_in hh.1], by omega⟩
  have hO : ∀ s x, OkP (decP (getS l s x)) := fun s x => okP_dec (getS_word hl s x).1 (getS_word hl s x).2
  refine vc65 _ _ _ _ ?_
  rintro y1 h1 y2 h2 y3 h3 y4 h4 y5 h5 y6 h6
  dsimp only at h1 h2 h3 h4 h5 h6
  (simp only [vcT, bif_tl, bif_fr, bif_tlf, bif_frf, Bool.not_eq_true', Bool.not_eq_false', decide_eq_true_eq, decide_eq_false_iff_not, beq_iff_eq, beq_eq_false_iff_ne, bne_iff_ne, ne_eq, bne_eq_false_iff_eq, Bool.or_eq_true, Bool.and_eq_true, Bool.or_eq_false_iff, Bool.and_eq_false_imp])
  have hr : res65 (l, s, x, ()) = tL (follow l s x) := rfl
  refine ⟨hl, fun h => ?_, fun h => ?_⟩
  · rw [hr, show follow l s x = (locZ, 7) by unfold follow; rw [h]; rfl]; (repeat' (first | exact trivial | exact rfl | refine And.intro ?_ ?_))
  obtain ⟨a1, a2, a3, a4⟩ := hS h
  rw [h1, a3] at h2
  subst h1
  have hD : follow l s x = if (decP y2).kind = 0 then (locZ, 0) else if (decP y2).kind ≠ 3 then nearL l (decP y2) s x else if (decP y2).double = true then doubleL l (decP y2).segment (decP y2).off
      else if hasN l (decP y2).segment (decP y2).off 1 then nearL l (decP (getS l (decP y2).segment (decP y2).off)) (decP y2).segment (decP y2).off else (locZ, 7) := by unfold follow; rw [h, ← h2]; rfl
  refine ⟨a1, a2, by rw [h2]; exact getS_word hl s x, fun k0 => ?_, fun k0 => ⟨fun k3 => ⟨hl, fun k => by have := hS k; ((unfold InR; omega)), fun _ => hl, fun k => ?_, fun k => ?_⟩, fun k3 => ⟨fun k => ⟨hl, fun kh => ?_, fun kh => ?_⟩, fun k => ?_⟩⟩⟩
  · rw [hr, hD, if_pos k0]; (repeat' (first | exact trivial | exact rfl | refine And.intro ?_ ?_))
  · rw [hr, hD, if_neg k0, if_neg (by omega), if_pos k3.2, show doubleL l (decP y2).segment (decP y2).off = (locZ, 7) by
      unfold doubleL
      rw [if_neg]
      intro hh
      have hh := hasN_iff.1 hh
      rcases k with k | k
      · exact absurd k (by rw [hasN_iff.2 ⟨hh.1, hh.2.1, hh.2.2.1, by decide, by omega⟩]; decide)
      · exact absurd k (by rw [hasN_iff.2 ⟨hh.1, hh.2.1, by omega, by decide, by omega⟩]; decide)]
    (repeat' (first | exact trivial | exact rfl | refine And.intro ?_ ?_))
  · obtain ⟨b1, b2, b3, b4⟩ := hS k.1
    obtain ⟨d1, d2, d3, d4⟩ := hS k.2
    have g1 := hasN_iff.1 k.1
    have g2 := hasN_iff.1 k.2
    subst h3
    rw [b3] at h4
    rw [d3] at h5
    have hD2 : follow l s x = if (decP y4).kind ≠ 3 ∨ (decP y4).double = true then (locZ, 8) else if shapeE (decP y5) ≠ 0 then (locZ, shapeE (decP y5)) else if (decP y5).off ≠ 0 then (locZ, 8) else insideL l ⟨decP y5, (decP y4).segment, (decP y4).off⟩ := by
      rw [hD, if_neg k0, if_neg (by omega), if_pos k3.2, h4, h5]
      unfold doubleL
      rw [if_pos (hasN_iff.2 ⟨g1.1, g1.2.1, g1.2.2.1, by decide, by omega⟩)]
    have o4 : OkP (decP y4) := by rw [h4]; exact hO _ _
    have o5 : OkP (decP y5) := by rw [h5]; exact hO _ _
    have f4 := o4.segment
    have q0 : ∀ e : Int, e ≠ 0 → ((decP y4).kind = 3 ∧ (decP y4).double = false) → follow l s x = (locZ, e) → A65 [1, 1, 1, 1, 0, 1, 0, 1, 1, 1, 1, 1] (head65_0 l s x e) (S65 [1, 1, 1, 1, 1] (EndsQ cfg Try.f65.ntmps Try.f65.results.toList (res65 (l, s, x, ())) [])) := by
      intro e he _ hf
      refine vc65_c0 _ _ _ _ _ ?_
      rintro z1 _ z2 _ z3 _ z4 _ z5 _ z6 _ z7 _
      (simp only [vcT, bif_tl, bif_fr, bif_tlf, bif_frf, Bool.not_eq_true', Bool.not_eq_false', decide_eq_true_eq, decide_eq_false_iff_not, beq_iff_eq, beq_eq_false_iff_ne, bne_iff_ne, ne_eq, bne_eq_false_iff_eq, Bool.or_eq_true, Bool.and_eq_true, Bool.or_eq_false_iff, Bool.and_eq_false_imp])
      rw [hr, hf]
      refine ⟨fun _ => by (repeat' (first | exact trivial | exact rfl | refine And.intro ?_ ?_)), fun k => absurd k he⟩
    refine ⟨b1, b2, by rw [h4]; exact getS_word hl _ _, b1, by ((unfold InR; omega)), d2, by rw [h5]; exact getS_word hl _ _, fun q => ?_, fun q => ⟨trivial, fun r => ?_, fun r => ?_⟩⟩
    · rw [hr, hD2, if_pos q]; (repeat' (first | exact trivial | exact rfl | refine And.intro ?_ ?_))
    · refine q0 8 (by decide) q ?_
      rw [hD2, if_neg (by rw [q.1, q.2]; simp), if_neg (by rw [← h6]; omega), if_pos r.2]
    · by_cases hs : shapeE y6 = 0
      · rw [hs]
        refine vc65_c0 _ _ _ _ _ ?_
        rintro z1 w1 z2 w2 z3 w3 z4 w4 z5 w5 z6 w6 z7 w7
        have e2 : z2 = y2 := by rw [w2, w1, a3, h2]
        rw [e2] at w3
        have e4 : z4 = y4 := by rw [w4, w3, e2, b3, h4]
        have e5 : z5 = y5 := by rw [w5, w3, e2, d3, h5]
        rw [e5] at w6
        rw [e4, w6] at w7
        subst w6 w7
        (simp only [vcT, bif_tl, bif_fr, bif_tlf, bif_frf, Bool.not_eq_true', Bool.not_eq_false', decide_eq_true_eq, decide_eq_false_iff_not, beq_iff_eq, beq_eq_false_iff_ne, bne_iff_ne, ne_eq, bne_eq_false_iff_eq, Bool.or_eq_true, Bool.and_eq_true, Bool.or_eq_false_iff, Bool.and_eq_false_imp])
        rw [hr, hD2, if_neg (by rw [q.1, q.2]; simp), if_neg (by rw [← h6]; omega), if_neg (by omega)]
        refine ⟨fun k => absurd trivial k, ⟨hl, o5, ?_⟩, ?_⟩
        · rw [h6] at hs; exact shapeE_zero hs
        · (repeat' (first | exact trivial | exact rfl | refine And.intro ?_ ?_))
      · refine q0 (shapeE y6) hs q ?_
        rw [hD2, if_neg (by rw [q.1, q.2]; simp), ← h6, if_pos hs]
  · rw [hr, hD, if_neg k0, if_neg (by omega), if_neg (by rw [show (decP y2).double = false by rcases k3 with k3 | k3; exact absurd k k3; exact k3]; decide), if_neg (by rw [kh]; decide)]; (repeat' (first | exact trivial | exact rfl | refine And.intro ?_ ?_))
  · obtain ⟨b1, b2, b3, b4⟩ := hS kh
    subst h3
    rw [b3] at h4
    refine ⟨b1, b2, by rw [h4]; exact getS_word hl _ _, ?_⟩
    refine cut65 hl s x _ (p := decP y4) (by rw [h4]; exact hO _ _) _ _ b2.1 (by omega) ?_
    rw [hD, if_neg k0, if_neg (by omega), if_neg (by rw [show (decP y2).double = false by rcases k3 with k3 | k3; exact absurd k k3; exact k3]; decide), if_pos kh, ← h4]
  · refine cut65 hl s x _ (p := decP y2) (by rw [h2]; exact hO _ _) _ _ a2.1 (by omega) ?_
    rw [hD, if_neg k0, if_pos k]
end Go.AM.Ythokdjgpdonhgaa
