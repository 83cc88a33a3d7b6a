import Derived.Test.YthokdjgpdonhgaaQD4
import Derived.Test.YthokdjgpdonhgaaVRB07
import Derived.Test.YthokdjgpdonhgaaQD8
set_option linter.unusedSimpArgs false
set_option linter.unusedVariables false
namespace Go.AM.Ythokdjgpdonhgaa
open Go.AM Go.Proofs
def args57 : ArgL (Int × Int × Unit) := (.cons (aInt .i64) (.cons (aInt .i64) .nil))
def pre57 (a : Int × Int × Unit) : Prop := True
noncomputable def res57 (a : Int × Int × Unit) : V U := .c (.int .i64 (roomW a.1 a.2.1))
noncomputable def spec57 : Fs U := fs args57 (fun a => [pre57 a]) res57
def args118 : ArgL (Int × Int × Unit) := (.cons (aInt .i64) (.cons (aInt .i64) .nil))
def pre118 (a : Int × Int × Unit) : Prop := True
noncomputable def res118 (a : Int × Int × Unit) : V U := .c (.int .i64 (roomW a.1 a.2.1))
noncomputable def spec118 : Fs U := fs args118 (fun a => [pre118 a]) res118
def args101 : ArgL (Int × List Int × Unit) := (.cons (aInt .i64) (.cons (aSl .u64) .nil))
def pre101 (a : Int × List Int × Unit) : Prop := okW a.2.1 ∧ a.2.1.length ≤ 1099511627776
noncomputable def res101 (a : Int × List Int × Unit) : V U := .tup [(false, [.slice (U := U) .u64 (putR a.1 a.2.1) .unk]), (false, [.bool (fitsA a.1 a.2.1)])]
noncomputable def spec101 : Fs U := fs args101 (fun a => [pre101 a]) res101
noncomputable def know57 : List (FuncId × Fs U) := [(56, spec56)]
def lv57 : Lives U := fun i => match i with
  | 0 => ([(0, []), (1, [])], [])
  | 1 => ([(0, []), (1, []), (16, [])], [])
  | 2 => ([(4, [])], [])
  | 3 => ([(1, []), (5, [])], [])
  | 4 => ([(1, []), (5, []), (23, [])], [])
  | 5 => ([(4, [])], [])
  | 6 => ([(4, [])], [])
  | _ => ([], [])
noncomputable abbrev A57 (p : List Nat) := awp cfg (know know57) (drawOk cfg (know know57)) Try.f57.ntmps lv57 (cd Try.f57 p)
theorem vc57 (c : Int) (n : Int) (Q : AExit → LSt U → Prop) (h : ((pre56 (c, ())) ∧ (Tr ((!(decide (((wd c) : Int) < 1))) = true)) ∧ (((decide (((wd c) : Int) < 1)) = false → (!(decide (((wd c) : Int) < 1))) = true)) ∧ (Tr ((!(bif (decide (((wd c) : Int) < 1)) then true else (decide ((n : Int) < 0)))) = true)) ∧ (((bif (decide (((wd c) : Int) < 1)) then true else (decide ((n : Int) < 0))) = false → (!(bif (decide (((wd c) : Int) < 1)) then true else (decide ((n : Int) < 0)))) = true)) ∧ (((bif (bif (decide (((wd c) : Int) < 1)) then true else (decide ((n : Int) < 0))) then true else (decide ((1099511627776 : Int) < n))) = true → (Q .ret (⟨[(4, .c (.int .i64 0))], [], []⟩ : LSt U))) ∧ ((bif (bif (decide (((wd c) : Int) < 1)) then true else (decide ((n : Int) < 0))) then true else (decide ((1099511627776 : Int) < n))) = false → (pre56 (c, ())) ∧ (((wd c) : Int) ≠ 0) ∧ ((((IntKind.wrap .i64 (Int.tdiv 64 (wd c))) : Int) ≠ 0) ∧ (((decide ((0 : Int) < (Int.tmod n (IntKind.wrap .i64 (Int.tdiv 64 (wd c)))))) = true → (((IntKind.wrap .i64 (Int.tdiv 64 (wd c))) : Int) ≠ 0) ∧ (InR (((IntKind.wrap .i64 (Int.tdiv n (IntKind.wrap .i64 (Int.tdiv 64 (wd c))))) : Int) + 1)) ∧ (Q .ret (⟨[(4, .c (.int .i64 (((IntKind.wrap .i64 (Int.tdiv n (IntKind.wrap .i64 (Int.tdiv 64 (wd c))))) : Int) + 1)))], [], []⟩ : LSt U))) ∧ ((decide ((0 : Int) < (Int.tmod n (IntKind.wrap .i64 (Int.tdiv 64 (wd c)))))) = false → (((IntKind.wrap .i64 (Int.tdiv 64 (wd c))) : Int) ≠ 0) ∧ (Q .ret (⟨[(4, .c (.int .i64 (IntKind.wrap .i64 (Int.tdiv n (IntKind.wrap .i64 (Int.tdiv 64 (wd c)))))))], [], []⟩ : LSt U))))))))) :
    A57 [] (⟨[(0, .c (.int .i64 c)), (1, .c (.int .i64 n))], [], []⟩ : LSt U) Q :=
  Eq.mpr (by kernel_rfl) h
def Body57 (c : Int) (n : Int)  : Prop := awp cfg (know (know57)) (drawOk cfg (know (know57))) Try.f57.ntmps lv57 (cd Try.f57 []) (entry (args57.can (c, n, ())) []) (EndsQ cfg Try.f57.ntmps Try.f57.results.toList (res57 (c, n, ())) [])
theorem make57 (c56 : Contract Try.prog cfg 56 spec56) (hb : ∀ (c : Int) (n : Int) (_ : Unit), pre57 (c, n, ()) → Body57 c n) : Contract Try.prog cfg 57 spec57 :=
  contract_flat (l := [(56, spec56)]) cfgOk rfl (⟨c56, trivial⟩) lv57 Try.func57 rfl rfl 2 (fun _ => rfl) (by decide) (fun ⟨c, n, _⟩ => hb c n ())
noncomputable def know118 : List (FuncId × Fs U) := [(110, spec110)]
def lv118 : Lives U := fun i => match i with
  | 0 => ([(0, []), (1, [])], [])
  | 1 => ([(1, []), (5, []), (6, [])], [])
  | 2 => ([(1, []), (5, []), (21, [])], [])
  | 3 => ([(4, [])], [])
  | 4 => ([(4, [])], [])
  | _ => ([], [])
noncomputable abbrev A118 (p : List Nat) := awp cfg (know know118) (drawOk cfg (know know118)) Try.f118.ntmps lv118 (cd Try.f118 p)
theorem vc118 (c : Int) (n : Int) (Q : AExit → LSt U → Prop) (h : ((pre110 (c, ())) ∧ ((Tr ((!(!(decide (0 ≤ wd c)))) = true)) ∧ (((!(decide (0 ≤ wd c))) = false → (!(!(decide (0 ≤ wd c)))) = true)) ∧ (Tr ((!(bif (!(decide (0 ≤ wd c))) then true else (decide ((n : Int) < 0)))) = true)) ∧ (((bif (!(decide (0 ≤ wd c))) then true else (decide ((n : Int) < 0))) = false → (!(bif (!(decide (0 ≤ wd c))) then true else (decide ((n : Int) < 0)))) = true)) ∧ (((bif (bif (!(decide (0 ≤ wd c))) then true else (decide ((n : Int) < 0))) then true else (decide ((1099511627776 : Int) < n))) = true → (Q .ret (⟨[(4, .c (.int .i64 0))], [], []⟩ : LSt U))) ∧ ((bif (bif (!(decide (0 ≤ wd c))) then true else (decide ((n : Int) < 0))) then true else (decide ((1099511627776 : Int) < n))) = false → (InR ((n : Int) * (if wd c < 0 then 0 else wd c))) ∧ (InR ((((n : Int) * (if wd c < 0 then 0 else wd c)) : Int) + 63)) ∧ ((64 : Int) ≠ 0) ∧ (Q .ret (⟨[(4, .c (.int .i64 (IntKind.wrap .i64 (Int.tdiv ((((n : Int) * (if wd c < 0 then 0 else wd c)) : Int) + 63) 64))))], [], []⟩ : LSt U))))))) :
    A118 [] (⟨[(0, .c (.int .i64 c)), (1, .c (.int .i64 n))], [], []⟩ : LSt U) Q :=
  Eq.mpr (by kernel_rfl) h
def Body118 (c : Int) (n : Int)  : Prop := awp cfg (know (know118)) (drawOk cfg (know (know118))) Try.f118.ntmps lv118 (cd Try.f118 []) (entry (args118.can (c, n, ())) []) (EndsQ cfg Try.f118.ntmps Try.f118.results.toList (res118 (c, n, ())) [])
theorem make118 (c110 : Contract Try.prog cfg 110 spec110) (hb : ∀ (c : Int) (n : Int) (_ : Unit), pre118 (c, n, ()) → Body118 c n) : Contract Try.prog cfg 118 spec118 :=
  contract_flat (l := [(110, spec110)]) cfgOk rfl (⟨c110, trivial⟩) lv118 Try.func118 rfl rfl 2 (fun _ => rfl) (by decide) (fun ⟨c, n, _⟩ => hb c n ())
noncomputable def know101 : List (FuncId × Fs U) := [(110, spec110), (118, spec118), (121, spec121)]
def lv101 : Lives U := fun i => match i with
  | 0 => ([(0, []), (1, [])], [])
  | 1 => ([(0, []), (1, []), (6, []), (7, [])], [])
  | 2 => ([(0, []), (1, []), (6, []), (17, [])], [])
  | 3 => ([(4, []), (5, [])], [])
  | 4 => ([(0, []), (1, []), (6, []), (8, [.wr .u64])], [])
  | 5 => ([(0, []), (6, []), (8, [.wr .u64]), (23, []), (24, []), (25, [])], [])
  | 6 => ([(0, []), (6, []), (8, [.wr .u64]), (23, []), (24, []), (25, []), (26, [])], [])
  | 7 => ([(0, []), (6, []), (8, [.wr .u64]), (9, []), (10, []), (23, []), (24, []), (25, [])], [])
  | 8 => ([(0, []), (6, []), (8, [.wr .u64]), (9, []), (10, []), (23, []), (24, []), (25, []), (33, [])], [])
  | 9 => ([(4, []), (5, [])], [])
  | 10 => ([(0, []), (6, []), (8, [.wr .u64]), (9, []), (10, []), (23, []), (24, []), (25, []), (35, [])], [])
  | 11 => ([(0, []), (6, []), (8, [.wr .u64]), (23, []), (24, []), (25, [])], [])
  | 12 => ([(0, []), (6, []), (8, [.wr .u64]), (23, []), (24, []), (25, [])], [])
  | 13 => ([(4, []), (5, [])], [])
  | _ => ([], [])
noncomputable def head101_0 (c : Int) (ns : List Int) (x25 : Int) (re_8_0 : List Int) : LSt U := (⟨[(0, .c (.int .i64 c)), (6, .c (.int .i64 (if wd c < 0 then 0 else wd c))), (8, .c (.mref (.e 8 0))), (23, .c (.slice (U := U) .u64 ns .unk)), (24, .c (.int .i64 (ns.length : Int))), (25, .c (.int .i64 x25))], [], [(.e 8 0, LC.mk (U := U) .u64 re_8_0 0)]⟩ : LSt U)
noncomputable abbrev A101 (p : List Nat) := awp cfg (knowM know101) (drawOk cfg (knowM know101)) Try.f101.ntmps lv101 (cd Try.f101 p)
noncomputable abbrev S101 (p : List Nat) := seqK cfg (knowM know101) (drawOk cfg (knowM know101)) Try.f101.ntmps lv101 (cd Try.f101 p)
theorem vc101 (c : Int) (ns : List Int) (Q : AExit → LSt U → Prop) (h : ((pre110 (c, ())) ∧ ((((!(decide (0 ≤ wd c))) = true → (Q .ret (⟨[(4, .c (.nils)), (5, .c (.bool false))], [], []⟩ : LSt U))) ∧ ((!(decide (0 ≤ wd c))) = false → (pre118 (c, (ns.length : Int), ())) ∧ ((0 : Int) ≤ roomW c (ns.length : Int) ∧ ((roomW c (ns.length : Int)) : Int) * ((8 : Nat) : Int) ≤ 140737488355328 ∧ (roomW c (ns.length : Int) : Int) ≤ 9223372036854775807) ∧ ((roomW c (ns.length : Int) : Int) = (roomW c (ns.length : Int))) ∧ ((LoopWp (A101 [1, 1, 1, 1, 0, 1, 0, 0]) (head101_0 c ns 0 (List.replicate (Int.toNat (roomW c (ns.length : Int))) (0 : Int))) (AExit.inBlock 0 (S101 [1, 1, 1, 1, 1] Q))))))))) :
    A101 [] (⟨[(0, .c (.int .i64 c)), (1, .c (.slice (U := U) .u64 ns .unk))], [], []⟩ : LSt U) Q :=
  Eq.mpr (by kernel_rfl) h
theorem vc101_l0 (c : Int) (ns : List Int) (x25 : Int) (re_8_0 : List Int) (N0 : LSt U → Prop) (Q : AExit → LSt U → Prop) (h : ∀ y_1, y_1 = (List.getD ns (Int.toNat x25) (0 : Int)) → ∀ y_2, y_2 = (Int.tdiv ((x25 : Int) * (if wd c < 0 then 0 else wd c)) 64) → (((decide ((x25 : Int) < (ns.length : Int))) = true → ((0 : Int) ≤ x25 ∧ x25 < (ns.length : Int)) ∧ ((pre121 (c, y_1, ())) ∧ (((!(fits c y_1)) = true → (Q .ret (⟨[(4, .c (.nils)), (5, .c (.bool false))], [], []⟩ : LSt U))) ∧ ((!(fits c y_1)) = false → (((decide ((0 : Int) < (if wd c < 0 then 0 else wd c))) = true → (InR ((x25 : Int) * (if wd c < 0 then 0 else wd c))) ∧ ((64 : Int) ≠ 0) ∧ ((0 : Int) ≤ (IntKind.wrap .i64 y_2) ∧ (IntKind.wrap .i64 y_2) < (re_8_0.length : Int)) ∧ (InR ((x25 : Int) * (if wd c < 0 then 0 else wd c))) ∧ ((64 : Int) ≠ 0) ∧ ((0 : Int) ≤ (Int.tmod ((x25 : Int) * (if wd c < 0 then 0 else wd c)) 64)) ∧ ((0 : Int) ≤ (IntKind.wrap .i64 y_2) ∧ (IntKind.wrap .i64 y_2) < (re_8_0.length : Int)) ∧ ((0 : Nat) ≤ (Int.toNat (IntKind.wrap .i64 y_2))) ∧ ((InR ((x25 : Int) + 1)) ∧ (N0 (head101_0 c ns ((x25 : Int) + 1) (List.set re_8_0 (Int.toNat (IntKind.wrap .i64 y_2)) (IntKind.wrap .u64 (BitVec.ofInt (IntKind.bits .u64) (List.getD re_8_0 (Int.toNat (IntKind.wrap .i64 y_2)) (0 : Int)) ||| BitVec.ofInt (IntKind.bits .u64) (IntKind.wrap .u64 ((y_1 : Int) * 2 ^ (min (Int.toNat (Int.tmod ((x25 : Int) * (if wd c < 0 then 0 else wd c)) 64)) (IntKind.bits .u64))))).toNat)))))) ∧ ((decide ((0 : Int) < (if wd c < 0 then 0 else wd c))) = false → (InR ((x25 : Int) + 1)) ∧ (N0 (head101_0 c ns ((x25 : Int) + 1) re_8_0)))))))) ∧ ((decide ((x25 : Int) < (ns.length : Int))) = false → (Q .ret (⟨[(4, .c (.slice (U := U) .u64 re_8_0 (.own (.e 4 0)))), (5, .c (.bool true))], [], []⟩ : LSt U))))) :
    A101 [1, 1, 1, 1, 0, 1, 0, 0] (head101_0 c ns x25 re_8_0) (AExit.then N0 (AExit.inBlock 0 (S101 [1, 1, 1, 1, 1] Q))) :=
  Eq.mpr (by kernel_rfl) (h _ rfl _ rfl)
def Body101 (c : Int) (ns : List Int)  : Prop := awp cfg (knowM (know101)) (drawOk cfg (knowM (know101))) Try.f101.ntmps lv101 (cd Try.f101 []) (entry (args101.can (c, ns, ())) []) (EndsQ cfg Try.f101.ntmps Try.f101.results.toList (res101 (c, ns, ())) [])
theorem make101 (c110 : Contract Try.prog cfg 110 spec110) (c118 : Contract Try.prog cfg 118 spec118) (c121 : Contract Try.prog cfg 121 spec121) (hb : ∀ (c : Int) (ns : List Int) (_ : Unit), pre101 (c, ns, ()) → Body101 c ns) : Contract Try.prog cfg 101 spec101 :=
  contract_flatM (l := [(110, spec110), (118, spec118), (121, spec121)]) cfgOk rfl (⟨c110, c118, c121, trivial⟩) lv101 Try.func101 rfl rfl 2 (fun _ => rfl) (by decide) (fun ⟨c, ns, _⟩ => hb c ns ())
end Go.AM.Ythokdjgpdonhgaa

namespace Go.AM.Ythokdjgpdonhgaa
open Go.AM Go.Proofs
theorem room_cases {c n : Int} (h0 : 0 ≤ n) (h1 : n ≤ 1099511627776) : 0 ≤ roomW c n ∧ roomW c n ≤ 1099511627776 := by
  unfold roomW
  split
  · omega
  · rcases wd_div c with e | e | e | e | e | e
    · omega
    all_goals (rw [e]; omega)
theorem c57 : Contract Try.prog cfg 57 spec57 := by
  refine make57 c56 ?_
  intro c n _ _
  refine vc57 _ _ _ ?_
  (simp only [vcT, vcS])
  refine ⟨trivial, fun h => ends_int rfl ?_, fun h => ⟨trivial, ?_⟩⟩
  · show (0 : Int) = roomW c n
    unfold roomW
    rw [if_pos (by omega)]
  · have hr : roomW c n = (n * wd c + 63) / 64 := by unfold roomW; rw [if_neg (by omega)]
    have key : ∀ w p : Int, wd c = w → IntKind.wrap .i64 (Int.tdiv 64 w) = p → 1 ≤ p → p ≤ 64 → (n * w + 63) / 64 = (if 0 < n % p then n / p + 1 else n / p) →
        ¬wd c = 0 ∧ ¬IntKind.i64.wrap (Int.tdiv 64 (wd c)) = 0 ∧ (0 < n.tmod (IntKind.i64.wrap (Int.tdiv 64 (wd c))) → ¬IntKind.i64.wrap (Int.tdiv 64 (wd c)) = 0 ∧ InR (IntKind.i64.wrap (n.tdiv (IntKind.i64.wrap (Int.tdiv 64 (wd c)))) + 1) ∧
          EndsQ cfg Try.f57.ntmps Try.f57.results.toList (res57 (c, n, ())) [] AExit.ret { env := [(4, V.c (C.int IntKind.i64 (IntKind.i64.wrap (n.tdiv (IntKind.i64.wrap (Int.tdiv 64 (wd c)))) + 1)))], mem := [], ls := [] }) ∧
        (¬0 < n.tmod (IntKind.i64.wrap (Int.tdiv 64 (wd c))) → ¬IntKind.i64.wrap (Int.tdiv 64 (wd c)) = 0 ∧
          EndsQ cfg Try.f57.ntmps Try.f57.results.toList (res57 (c, n, ())) [] AExit.ret { env := [(4, V.c (C.int IntKind.i64 (IntKind.i64.wrap (n.tdiv (IntKind.i64.wrap (Int.tdiv 64 (wd c)))))))], mem := [], ls := [] }) := by
      intro w p e1 e2 p1 p2 hd
      rw [e1, e2]
      have hq : Int.tdiv n p = n / p := Int.tdiv_eq_ediv_of_nonneg (by omega)
      have hm : Int.tmod n p = n % p := Int.tmod_eq_emod_of_nonneg (by omega)
      have hle : 0 ≤ n / p ∧ n / p ≤ n := ⟨Int.ediv_nonneg (by omega) (by omega), Int.ediv_le_self _ (by omega)⟩
      rw [hq, hm, wrap_i64 (n := n / p) (by omega) (by omega)]
      refine ⟨by omega, by omega, fun h0 => ⟨by omega, by ((unfold InR; omega)), ends_int rfl ?_⟩, fun h0 => ⟨by omega, ends_int rfl ?_⟩⟩
      · show _ = roomW c n
        rw [hr, e1, hd, if_pos h0]
      · show _ = roomW c n
        rw [hr, e1, hd, if_neg h0]
    rcases wd_div c with e | e | e | e | e | e
    · omega
    · exact key 1 64 e (by decide) (by decide) (by decide) (by split <;> omega)
    · exact key 8 8 e (by decide) (by decide) (by decide) (by split <;> omega)
    · exact key 16 4 e (by decide) (by decide) (by decide) (by split <;> omega)
    · exact key 32 2 e (by decide) (by decide) (by decide) (by split <;> omega)
    · exact key 64 1 e (by decide) (by decide) (by decide) (by split <;> omega)
theorem c118 : Contract Try.prog cfg 118 spec118 := by
  refine make118 c110 ?_
  intro c n _ _
  refine vc118 _ _ _ ?_
  (simp only [vcT, vcS])
  refine ⟨trivial, fun h => ends_int rfl ?_, fun h => ?_⟩
  · show (0 : Int) = roomW c n
    unfold roomW
    rw [if_pos (by omega)]
  · rw [if_neg (show ¬ wd c < 0 by omega)]
    have hb : 0 ≤ n * wd c ∧ n * wd c ≤ 70368744177664 := by
      rcases wd_cases c with e | e | e | e | e | e | e
      · omega
      all_goals (rw [e]; omega)
    have hq : Int.tdiv (n * wd c + 63) 64 = (n * wd c + 63) / 64 := Int.tdiv_eq_ediv_of_nonneg (by omega)
    rw [hq, wrap_i64 (n := (n * wd c + 63) / 64) (by omega) (by omega)]
    refine ⟨by ((unfold InR; omega)), by ((unfold InR; omega)), by decide, ends_int rfl ?_⟩
    show _ = roomW c n
    unfold roomW
    by_cases h0 : wd c < 1
    · rw [if_pos (.inl h0), show wd c = 0 by omega]; simp
    · rw [if_neg (by omega)]
theorem putR_no {c : Int} {ns : List Int} (h : fitsA c ns = false) : putR c ns = [] := by unfold putR; rw [h]; rfl
theorem putR_yes {c : Int} {ns : List Int} (h : fitsA c ns = true) : putR c ns = putW c ns := by unfold putR; rw [h]; rfl
theorem fitsA_neg {c : Int} {ns : List Int} (h : wd c < 0) : fitsA c ns = false := by
  unfold fitsA
  rw [decide_eq_false (by omega)]; rfl
theorem fitsA_bad {c : Int} {ns : List Int} {i : Nat} (hi : i < ns.length) (h : fits c (ns.getD i 0) = false) : fitsA c ns = false := by
  cases e : fitsA c ns with
  | false => rfl
  | true => rw [fitsA_get e hi] at h; cases h
theorem fitsA_all {c : Int} {ns : List Int} (h0 : 0 ≤ wd c) (h : ∀ i, i < ns.length → fits c (ns.getD i 0) = true) : fitsA c ns = true := by
  unfold fitsA
  rw [Bool.and_eq_true, List.all_eq_true]
  refine ⟨decide_eq_true h0, fun x hx => ?_⟩
  obtain ⟨i, hi, rfl⟩ := List.getElem_of_mem hx
  have := h i hi
  rwa [List.getD_eq_getElem?_getD, List.getElem?_eq_getElem hi] at this
theorem putN_okW {c : Int} {ns : List Int} (hn : okW ns) (hl : (ns.length : Int) ≤ 1099511627776) {i : Int} (h0 : 0 ≤ i) (h1 : i < ns.length) (hf : ∀ j : Nat, (j : Int) < i → fits c (ns.getD j 0) = true) (hw : 1 ≤ wd c) : PutI c (putN c ns i) i := by
  have := putN_inv hw hn hl i.toNat (by omega) fun j hj => hf j (by omega)
  rwa [show ((i.toNat : Nat) : Int) = i by omega] at this
theorem or_sum {x y : Int} {a : Nat} (hx : 0 ≤ x) (hx' : x < 2 ^ a) (hy : 0 ≤ y) (hs : x + y * 2 ^ a < 18446744073709551616) :
    IntKind.wrap .u64 (BitVec.ofInt (IntKind.bits .u64) x ||| BitVec.ofInt (IntKind.bits .u64) (y * 2 ^ a)).toNat = x + y * 2 ^ a := by
  have hp := pow2_pos a
  have h1 : 0 ≤ y * 2 ^ a := Int.mul_nonneg hy (Int.le_of_lt hp)
  have e : ∀ z : Int, 0 ≤ z → z < 18446744073709551616 → (BitVec.ofInt (IntKind.bits .u64) z).toNat = z.toNat := by
    intro z z0 z1
    simp [IntKind.bits]
    omega
  rw [BitVec.toNat_or, e x hx (by omega), e _ h1 (by omega)]
  obtain ⟨m, rfl⟩ := Int.eq_ofNat_of_zero_le hx
  obtain ⟨n, rfl⟩ := Int.eq_ofNat_of_zero_le hy
  have hpn : (2 : Int) ^ a = ((2 ^ a : Nat) : Int) := by simp
  rw [hpn] at hx' hs ⊢
  have hm : m < 2 ^ a := by omega
  have hor : m ||| n * 2 ^ a = m + n * 2 ^ a := by
    have h := Nat.two_pow_add_eq_or_of_lt hm n
    rw [Nat.or_comm, Nat.mul_comm n, ← h, Nat.add_comm]
  rw [← Int.natCast_mul, Int.toNat_natCast, Int.toNat_natCast, hor, wrap_u64 (by omega) (by omega)]
  push_cast
  rfl
theorem c101 : Contract Try.prog cfg 101 spec101 := by
  refine make101 c110 c118 c121 ?_
  intro c ns _ hp
  obtain ⟨hn, hl⟩ := hp
  dsimp only at hn hl
  have no : fitsA c ns = false → EndsQ cfg Try.f101.ntmps Try.f101.results.toList (res101 (c, ns, ())) [] .ret (⟨[(4, .c (.nils)), (5, .c (.bool false))], [], []⟩ : LSt U) := by
    intro h
    refine ends_eq (r' := .tup [(false, [.slice (U := U) .u64 [] .unk]), (false, [.bool false])]) ?_ (by (repeat' (first | exact trivial | exact rfl | apply And.intro)))
    simp only [res101]
    rw [h, putR_no h]
  refine vc101 _ _ _ ?_
  (simp only [vcT, vcS])
  have hrm := room_cases (c := c) (n := ns.length) (by omega) (by omega)
  refine ⟨trivial, fun h => no (fitsA_neg (by omega)), fun hc => ⟨trivial, ⟨hrm.1, by omega, by omega⟩, ?_⟩⟩
  refine loop_rule (ι := Int) (fun p => head101_0 c ns p (putN c ns p)) (fun p => 0 ≤ p ∧ p ≤ ns.length ∧ ∀ j : Nat, (j : Int) < p → fits c (ns.getD j 0) = true) (fun p => ((ns.length : Int) - p).toNat) 0 (by simp only [putN_zero]) ⟨by omega, by omega, fun j hj => by omega⟩ ?_
  rintro i ⟨h1, h2, h3⟩
  refine vc101_l0 _ _ _ _ _ _ ?_
  rintro y1 hy1 y2 hy2
  rw [if_neg (show ¬ wd c < 0 by omega)] at hy2 ⊢
  (simp only [vcT, vcS])
  refine ⟨fun hi => ⟨⟨h1, hi⟩, by rw [hy1]; exact getD_word hn _, fun hb => no (fitsA_bad (i := i.toNat) (by omega) (by rw [← hy1]; exact hb)), fun hb => ?_⟩, fun hi => ?_⟩
  · have hx := getD_word hn i.toNat
    rw [← hy1] at hx
    have hf := fits_lt hb
    have hin : 0 ≤ i * wd c ∧ i * wd c ≤ 70368744177664 := by
      rcases wd_cases c with e | e | e | e | e | e | e
      · omega
      all_goals (rw [e]; omega)
    have hm : Int.tmod (i * wd c) 64 = i * wd c % 64 := Int.tmod_eq_emod_of_nonneg hin.1
    rw [Int.tdiv_eq_ediv_of_nonneg hin.1] at hy2
    have hstep : putN c ns (i + 1) = putS c (putN c ns i) i y1 := by rw [hy1]; exact putN_succ c ns h1 hi
    have hfin : 0 ≤ i + 1 ∧ i + 1 ≤ ns.length ∧ ∀ j : Nat, (j : Int) < i + 1 → fits c (ns.getD j 0) = true := by
      refine ⟨by omega, by omega, fun j hj => ?_⟩
      by_cases hji : (j : Int) < i
      · exact h3 j hji
      · rw [show j = i.toNat by omega, ← hy1]; exact hb
    refine ⟨fun hw => ?_, fun hw => ?_⟩
    · obtain ⟨a0, a1, a2, a3⟩ := wd_at (c := c) (i := i) (by omega) (by omega) (by omega)
      obtain ⟨r1, r2⟩ := room_at (c := c) (n := ns.length) (i := i) (by omega) h1 hi (by omega)
      have hI := putN_okW hn (by omega) h1 hi h3 (by omega)
      have hu := used_at (c := c) (i := i) (by omega) h1 (by omega)
      have hq := hI (i * wd c / 64).toNat
      rw [hu.1] at hq
      have hs := put_num hq.1 hq.2 hx.1 hf.2
      have hp := pow_le_pow (show (i * wd c % 64).toNat + (wd c).toNat ≤ 64 by omega)
      have h64 : (2 : Int) ^ 64 = 18446744073709551616 := rfl
      have hwy : IntKind.wrap .i64 y2 = i * wd c / 64 := by rw [hy2, wrap_i64 (by omega) (by omega)]
      have hmin : min (i * wd c % 64).toNat (IntKind.bits .u64) = (i * wd c % 64).toNat := by simp [IntKind.bits]; omega
      rw [hm, hwy, hmin, wrap_u64 (n := y1 * 2 ^ (i * wd c % 64).toNat) hs.2.2 (by omega), or_sum hq.1 hq.2 hx.1 (by omega)]
      refine ⟨by ((unfold InR; omega)), by decide, ⟨by omega, by rw [putN_len]; omega⟩, by ((unfold InR; omega)), by decide, by omega, ⟨by omega, by rw [putN_len]; omega⟩, by omega, by ((unfold InR; omega)), i + 1, ?_, hfin, by omega⟩
      rw [hstep]
      unfold putS
      rw [if_neg (by omega)]
    · refine ⟨by ((unfold InR; omega)), i + 1, ?_, hfin, by omega⟩
      rw [hstep]
      unfold putS
      rw [if_pos (by omega)]
  · have hall : fitsA c ns = true := fitsA_all (by omega) fun j hj => h3 j (by omega)
    have e : i = ns.length := by omega
    subst e
    rw [putN_all]
    refine ends_eq (r' := .tup [(false, [.slice (U := U) .u64 (putW c ns) .unk]), (false, [.bool true])]) ?_ (by (repeat' (first | exact trivial | exact rfl | apply And.intro)))
    simp only [res101]
    rw [hall, putR_yes hall]
end Go.AM.Ythokdjgpdonhgaa

namespace Go.AM.Ythokdjgpdonhgaa
open Go.AM Go.Proofs
def args82 : ArgL (Tree × Unit) := (.cons (aEl .tree) .nil)
def pre82 (a : Tree × Unit) : Prop := mass a.1 ≤ 1000000
noncomputable def res82 (a : Tree × Unit) : V U := .tup [(false, [.int .i64 (frW (Tree.kids a.1) : Int)]), (false, [.int .i64 (frK (Tree.kids a.1) : Int)])]
noncomputable def spec82 : Fs U := fs args82 (fun a => [pre82 a]) res82
def args119 : ArgL (Tree × Unit) := (.cons (aEl .tree) .nil)
def pre119 (a : Tree × Unit) : Prop := mass a.1 ≤ 1000000
noncomputable def res119 (a : Tree × Unit) : V U := .tup [(false, [.int .i64 (frW (Tree.kids a.1) : Int)]), (false, [.int .i64 (frK (Tree.kids a.1) : Int)])]
noncomputable def spec119 : Fs U := fs args119 (fun a => [pre119 a]) res119
def args123 : ArgL (Int × Unit) := (.cons (aInt .i64) .nil)
def pre123 (a : Int × Unit) : Prop := True
noncomputable def res123 (a : Int × Unit) : V U := .c (.bool (decide (-536870912 ≤ a.1 ∧ a.1 < 536870912)))
noncomputable def spec123 : Fs U := fs args123 (fun a => [pre123 a]) res123
def args125 : ArgL (Int × Int × Unit) := (.cons (aInt .i64) (.cons (aInt .i64) .nil))
def pre125 (a : Int × Int × Unit) : Prop := 0 ≤ a.2.1 ∧ a.2.1 < 4
noncomputable def res125 (a : Int × Int × Unit) : V U := .c (.int .u64 (4 * (a.1 % 1073741824) + a.2.1))
noncomputable def spec125 : Fs U := fs args125 (fun a => [pre125 a]) res125
def args120 : ArgL (Ptr × Unit) := (.cons (aEl .ptr) .nil)
def pre120 (a : Ptr × Unit) : Prop := Ptr.kind a.1 = 1 ∨ Ptr.kind a.1 = 2
noncomputable def res120 (a : Ptr × Unit) : V U := .tup [(false, [.int .u64 (encW a.1)]), (false, [.bool (eqP (decP (encW a.1)) a.1 && !decide (Ptr.kind a.1 = 4))])]
noncomputable def spec120 : Fs U := fs args120 (fun a => [pre120 a]) res120
noncomputable def know82 : List (FuncId × Fs U) := []
def lv82 : Lives U := fun i => match i with
  | 0 => ([(1, [])], [((.loc 1), [])])
  | 1 => ([(1, []), (4, []), (5, [])], [((.loc 1), [])])
  | 2 => ([(1, []), (4, []), (5, []), (6, [])], [((.loc 1), [])])
  | 3 => ([(1, []), (4, []), (5, []), (6, []), (11, [])], [((.loc 1), [])])
  | 4 => ([(1, []), (4, []), (5, []), (6, [])], [((.loc 1), [])])
  | 5 => ([(1, []), (4, []), (5, []), (6, []), (22, [])], [((.loc 1), [])])
  | 6 => ([(1, []), (4, []), (5, []), (6, []), (22, [])], [((.loc 1), [])])
  | 7 => ([(1, []), (4, []), (5, []), (6, []), (38, [])], [((.loc 1), [])])
  | 8 => ([(1, []), (4, []), (5, []), (6, []), (38, [])], [((.loc 1), [])])
  | 9 => ([(2, []), (3, [])], [])
  | _ => ([], [])
noncomputable def head82_0 (t : Tree) (x4 : Int) (x5 : Int) (x6 : Int) : LSt U := (⟨[(1, .ptr (.loc 1) 0), (4, .c (.int .i64 x4)), (5, .c (.int .i64 x5)), (6, .c (.int .i64 x6))], [((.loc 1), [.int .i64 (Tree.kind t), .slice (U := U) .u64 (Tree.words t) .unk, .slice (U := U) .tree (Tree.kids t) .unk])], []⟩ : LSt U)
noncomputable def head82_1 (t : Tree) (x4 : Int) (x5 : Int) (x6 : Int) (x4_a : Int) : LSt U := (⟨[(1, .ptr (.loc 1) 0), (4, .c (.int .i64 x4_a)), (5, .c (.int .i64 x5)), (6, .c (.int .i64 x6)), (22, .c (.bool (decide ((x4 : Int) < ((Tree.words (List.getD (Tree.kids t) (Int.toNat x6) Tree.nil)).length : Int)))))], [((.loc 1), [.int .i64 (Tree.kind t), .slice (U := U) .u64 (Tree.words t) .unk, .slice (U := U) .tree (Tree.kids t) .unk])], []⟩ : LSt U)
noncomputable def head82_2 (t : Tree) (x5 : Int) (x6 : Int) (x4_a : Int) (x5_b : Int) : LSt U := (⟨[(1, .ptr (.loc 1) 0), (4, .c (.int .i64 x4_a)), (5, .c (.int .i64 x5_b)), (6, .c (.int .i64 x6)), (38, .c (.bool (decide ((x5 : Int) < ((Tree.kids (List.getD (Tree.kids t) (Int.toNat x6) Tree.nil)).length : Int)))))], [((.loc 1), [.int .i64 (Tree.kind t), .slice (U := U) .u64 (Tree.words t) .unk, .slice (U := U) .tree (Tree.kids t) .unk])], []⟩ : LSt U)
noncomputable abbrev A82 (p : List Nat) := awp cfg (know know82) (drawOk cfg (know know82)) Try.f82.ntmps lv82 (cd Try.f82 p)
noncomputable abbrev S82 (p : List Nat) := seqK cfg (know know82) (drawOk cfg (know know82)) Try.f82.ntmps lv82 (cd Try.f82 p)
theorem vc82 (t : Tree) (Q : AExit → LSt U → Prop) (h : (((LoopWp (A82 [1, 1, 0, 1, 0, 0]) (head82_0 t 0 0 0) (AExit.inBlock 0 (S82 [1, 1, 1] Q)))))) :
    A82 [] (⟨[(0, .agg [.int .i64 (Tree.kind t), .slice (U := U) .u64 (Tree.words t) .unk, .slice (U := U) .tree (Tree.kids t) .unk])], [], []⟩ : LSt U) Q :=
  (Eq.mpr (by kernel_rfl) h :)
theorem vc82_l0 (t : Tree) (x4 : Int) (x5 : Int) (x6 : Int) (N0 : LSt U → Prop) (Q : AExit → LSt U → Prop) (h : (((decide ((x6 : Int) < ((Tree.kids t).length : Int))) = true → ((0 : Int) ≤ x6 ∧ x6 < ((Tree.kids t).length : Int)) ∧ (((decide ((x4 : Int) < ((Tree.words (List.getD (Tree.kids t) (Int.toNat x6) Tree.nil)).length : Int))) = true → ((0 : Int) ≤ x6 ∧ x6 < ((Tree.kids t).length : Int)) ∧ (A82 [1, 1, 0, 1, 0, 0, 1, 0, 0, 1] (head82_1 t x4 x5 x6 ((Tree.words (List.getD (Tree.kids t) (Int.toNat x6) Tree.nil)).length : Int)) (AExit.inBlock 1 (S82 [1, 1, 0, 1, 0, 0, 1, 1] (AExit.then N0 (AExit.inBlock 0 (S82 [1, 1, 1] Q))))))) ∧ ((decide ((x4 : Int) < ((Tree.words (List.getD (Tree.kids t) (Int.toNat x6) Tree.nil)).length : Int))) = false → A82 [1, 1, 0, 1, 0, 0, 1, 0, 0, 1] (head82_1 t x4 x5 x6 x4) (AExit.inBlock 1 (S82 [1, 1, 0, 1, 0, 0, 1, 1] (AExit.then N0 (AExit.inBlock 0 (S82 [1, 1, 1] Q)))))))) ∧ ((decide ((x6 : Int) < ((Tree.kids t).length : Int))) = false → (Q .ret (⟨[(2, .c (.int .i64 x4)), (3, .c (.int .i64 x5))], [], []⟩ : LSt U))))) :
    A82 [1, 1, 0, 1, 0, 0] (head82_0 t x4 x5 x6) (AExit.then N0 (AExit.inBlock 0 (S82 [1, 1, 1] Q))) :=
  (Eq.mpr (by kernel_rfl) h :)
theorem vc82_c1 (t : Tree) (x4 : Int) (x5 : Int) (x6 : Int) (x4_a : Int) (N0 : LSt U → Prop) (Q : AExit → LSt U → Prop) (h : ((0 : Int) ≤ x6 ∧ x6 < ((Tree.kids t).length : Int)) ∧ (((decide ((x5 : Int) < ((Tree.kids (List.getD (Tree.kids t) (Int.toNat x6) Tree.nil)).length : Int))) = true → ((0 : Int) ≤ x6 ∧ x6 < ((Tree.kids t).length : Int)) ∧ (A82 [1, 1, 0, 1, 0, 0, 1, 1] (head82_2 t x5 x6 x4_a ((Tree.kids (List.getD (Tree.kids t) (Int.toNat x6) Tree.nil)).length : Int)) (AExit.then N0 (AExit.inBlock 0 (S82 [1, 1, 1] Q))))) ∧ ((decide ((x5 : Int) < ((Tree.kids (List.getD (Tree.kids t) (Int.toNat x6) Tree.nil)).length : Int))) = false → A82 [1, 1, 0, 1, 0, 0, 1, 1] (head82_2 t x5 x6 x4_a x5) (AExit.then N0 (AExit.inBlock 0 (S82 [1, 1, 1] Q)))))) :
    A82 [1, 1, 0, 1, 0, 0, 1, 0, 0, 1] (head82_1 t x4 x5 x6 x4_a) (AExit.inBlock 1 (S82 [1, 1, 0, 1, 0, 0, 1, 1] (AExit.then N0 (AExit.inBlock 0 (S82 [1, 1, 1] Q))))) :=
  (Eq.mpr (by kernel_rfl) h :)
theorem vc82_c2 (t : Tree) (x5 : Int) (x6 : Int) (x4_a : Int) (x5_b : Int) (N0 : LSt U → Prop) (Q : AExit → LSt U → Prop) (h : (InR ((x6 : Int) + 1)) ∧ (N0 (head82_0 t x4_a x5_b ((x6 : Int) + 1)))) :
    A82 [1, 1, 0, 1, 0, 0, 1, 1] (head82_2 t x5 x6 x4_a x5_b) (AExit.then N0 (AExit.inBlock 0 (S82 [1, 1, 1] Q))) :=
  (Eq.mpr (by kernel_rfl) h :)
abbrev Body82 (t : Tree)  : Prop := awp cfg (know (know82)) (drawOk cfg (know (know82))) Try.f82.ntmps lv82 (cd Try.f82 []) (entry (args82.can (t, ())) []) (EndsQ cfg Try.f82.ntmps Try.f82.results.toList (res82 (t, ())) [])
theorem make82 (hb : ∀ (t : Tree) (_ : Unit), pre82 (t, ()) → Body82 t) : Contract Try.prog cfg 82 spec82 :=
  contract_flat (l := []) cfgOk rfl (trivial) lv82 Try.func82 rfl rfl 1 (fun _ => rfl) (by decide) (fun ⟨t, _⟩ => hb t ())
noncomputable def know119 : List (FuncId × Fs U) := []
def lv119 : Lives U := fun i => match i with
  | 0 => ([(1, [])], [((.loc 1), [])])
  | 1 => ([(1, []), (4, []), (5, [])], [((.loc 1), [])])
  | 2 => ([(4, []), (5, []), (9, []), (10, []), (11, [])], [])
  | 3 => ([(4, []), (5, []), (9, []), (10, []), (11, []), (12, [])], [])
  | 4 => ([(4, []), (5, []), (7, []), (9, []), (10, []), (11, [])], [((.loc 7), [])])
  | 5 => ([(4, []), (5, []), (9, []), (10, []), (11, [])], [])
  | 6 => ([(4, []), (5, []), (9, []), (10, []), (11, [])], [])
  | 7 => ([(2, []), (3, [])], [])
  | _ => ([], [])
noncomputable def head119_0 (t : Tree) (x4 : Int) (x5 : Int) (x11 : Int) : LSt U := (⟨[(4, .c (.int .i64 x4)), (5, .c (.int .i64 x5)), (9, .c (.slice (U := U) .tree (Tree.kids t) .unk)), (10, .c (.int .i64 ((Tree.kids t).length : Int))), (11, .c (.int .i64 x11))], [], []⟩ : LSt U)
noncomputable abbrev A119 (p : List Nat) := awp cfg (know know119) (drawOk cfg (know know119)) Try.f119.ntmps lv119 (cd Try.f119 p)
noncomputable abbrev S119 (p : List Nat) := seqK cfg (know know119) (drawOk cfg (know know119)) Try.f119.ntmps lv119 (cd Try.f119 p)
theorem vc119 (t : Tree) (Q : AExit → LSt U → Prop) (h : (((LoopWp (A119 [1, 1, 0, 1, 0, 0]) (head119_0 t 0 0 0) (AExit.inBlock 0 (S119 [1, 1, 1] Q)))))) :
    A119 [] (⟨[(0, .agg [.int .i64 (Tree.kind t), .slice (U := U) .u64 (Tree.words t) .unk, .slice (U := U) .tree (Tree.kids t) .unk])], [], []⟩ : LSt U) Q :=
  (Eq.mpr (by kernel_rfl) h :)
theorem vc119_l0 (t : Tree) (x4 : Int) (x5 : Int) (x11 : Int) (N0 : LSt U → Prop) (Q : AExit → LSt U → Prop) (h : (((decide ((x11 : Int) < ((Tree.kids t).length : Int))) = true → ((0 : Int) ≤ x11 ∧ x11 < ((Tree.kids t).length : Int)) ∧ (((InR ((x11 : Int) + 1)) ∧ (N0 (head119_0 t (if (x4 : Int) < ((Tree.words (List.getD (Tree.kids t) (Int.toNat x11) Tree.nil)).length : Int) then ((Tree.words (List.getD (Tree.kids t) (Int.toNat x11) Tree.nil)).length : Int) else x4) (if (x5 : Int) < ((Tree.kids (List.getD (Tree.kids t) (Int.toNat x11) Tree.nil)).length : Int) then ((Tree.kids (List.getD (Tree.kids t) (Int.toNat x11) Tree.nil)).length : Int) else x5) ((x11 : Int) + 1)))))) ∧ ((decide ((x11 : Int) < ((Tree.kids t).length : Int))) = false → (Q .ret (⟨[(2, .c (.int .i64 x4)), (3, .c (.int .i64 x5))], [], []⟩ : LSt U))))) :
    A119 [1, 1, 0, 1, 0, 0] (head119_0 t x4 x5 x11) (AExit.then N0 (AExit.inBlock 0 (S119 [1, 1, 1] Q))) :=
  (Eq.mpr (by kernel_rfl) h :)
abbrev Body119 (t : Tree)  : Prop := awp cfg (know (know119)) (drawOk cfg (know (know119))) Try.f119.ntmps lv119 (cd Try.f119 []) (entry (args119.can (t, ())) []) (EndsQ cfg Try.f119.ntmps Try.f119.results.toList (res119 (t, ())) [])
theorem make119 (hb : ∀ (t : Tree) (_ : Unit), pre119 (t, ()) → Body119 t) : Contract Try.prog cfg 119 spec119 :=
  contract_flat (l := []) cfgOk rfl (trivial) lv119 Try.func119 rfl rfl 1 (fun _ => rfl) (by decide) (fun ⟨t, _⟩ => hb t ())
noncomputable def know123 : List (FuncId × Fs U) := []
def lv123 : Lives U := fun i => match i with
  | 0 => ([(0, [])], [])
  | 1 => ([(2, [])], [])
  | _ => ([], [])
noncomputable abbrev A123 (p : List Nat) := awp cfg (know know123) (drawOk cfg (know know123)) Try.f123.ntmps lv123 (cd Try.f123 p)
theorem vc123 (n : Int) (Q : AExit → LSt U → Prop) (h : ((Tr ((decide (((-536870912) : Int) ≤ n)) = true)) ∧ ((Tr ((decide (((-536870912) : Int) ≤ n)) = true))) ∧ (Q .ret (⟨[(2, .c (.bool (bif (decide (((-536870912) : Int) ≤ n)) then (decide ((n : Int) < 536870912)) else false)))], [], []⟩ : LSt U)))) :
    A123 [] (⟨[(0, .c (.int .i64 n))], [], []⟩ : LSt U) Q :=
  (Eq.mpr (by kernel_rfl) h :)
abbrev Body123 (n : Int)  : Prop := awp cfg (know (know123)) (drawOk cfg (know (know123))) Try.f123.ntmps lv123 (cd Try.f123 []) (entry (args123.can (n, ())) []) (EndsQ cfg Try.f123.ntmps Try.f123.results.toList (res123 (n, ())) [])
theorem make123 (hb : ∀ (n : Int) (_ : Unit), pre123 (n, ()) → Body123 n) : Contract Try.prog cfg 123 spec123 :=
  contract_flat (l := []) cfgOk rfl (trivial) lv123 Try.func123 rfl rfl 1 (fun _ => rfl) (by decide) (fun ⟨n, _⟩ => hb n ())
noncomputable def know125 : List (FuncId × Fs U) := []
def lv125 : Lives U := fun i => match i with
  | 0 => ([(0, []), (1, [])], [])
  | 1 => ([(4, [])], [])
  | _ => ([], [])
noncomputable abbrev A125 (p : List Nat) := awp cfg (know know125) (drawOk cfg (know know125)) Try.f125.ntmps lv125 (cd Try.f125 p)
theorem vc125 (off : Int) (k : Int) (Q : AExit → LSt U → Prop) (h : (((0 : Int) ≤ 2) ∧ (Q .ret (⟨[(4, .c (.int .u64 (IntKind.wrap .u64 (IntKind.wrap .u32 (BitVec.ofInt (IntKind.bits .u32) (IntKind.wrap .u32 (((IntKind.wrap .u32 off) : Int) * 2 ^ (min (Int.toNat 2) (IntKind.bits .u32)))) ||| BitVec.ofInt (IntKind.bits .u32) (IntKind.wrap .u32 k)).toNat))))], [], []⟩ : LSt U)))) :
    A125 [] (⟨[(0, .c (.int .i64 off)), (1, .c (.int .i64 k))], [], []⟩ : LSt U) Q :=
  (Eq.mpr (by kernel_rfl) h :)
abbrev Body125 (off : Int) (k : Int)  : Prop := awp cfg (know (know125)) (drawOk cfg (know (know125))) Try.f125.ntmps lv125 (cd Try.f125 []) (entry (args125.can (off, k, ())) []) (EndsQ cfg Try.f125.ntmps Try.f125.results.toList (res125 (off, k, ())) [])
theorem make125 (hb : ∀ (off : Int) (k : Int) (_ : Unit), pre125 (off, k, ()) → Body125 off k) : Contract Try.prog cfg 125 spec125 :=
  contract_flat (l := []) cfgOk rfl (trivial) lv125 Try.func125 rfl rfl 2 (fun _ => rfl) (by decide) (fun ⟨off, k, _⟩ => hb off k ())
noncomputable def know120 : List (FuncId × Fs U) := [(123, spec123), (124, spec124), (125, spec125), (86, spec86)]
def lv120 : Lives U := fun i => match i with
  | 0 => ([(1, [])], [((.loc 1), [])])
  | 1 => ([(1, []), (4, [])], [((.loc 1), [])])
  | 2 => ([(1, []), (4, []), (6, [])], [((.loc 1), [])])
  | 3 => ([(1, []), (4, []), (6, []), (7, [])], [((.loc 1), [])])
  | 4 => ([(1, []), (4, []), (21, []), (49, []), (63, []), (72, []), (84, [])], [((.loc 1), [])])
  | 5 => ([(1, []), (4, []), (21, []), (49, []), (63, []), (72, []), (84, [])], [((.loc 1), [])])
  | 6 => ([(1, []), (4, []), (6, []), (35, [])], [((.loc 1), [])])
  | 7 => ([(1, []), (4, []), (21, []), (49, []), (63, []), (72, []), (84, [])], [((.loc 1), [])])
  | 8 => ([(1, []), (4, []), (21, []), (49, []), (63, []), (72, []), (84, [])], [((.loc 1), [])])
  | 9 => ([(1, []), (4, []), (21, []), (49, []), (63, []), (72, []), (84, [])], [((.loc 1), [])])
  | 10 => ([(1, []), (4, []), (21, []), (49, []), (63, []), (72, []), (84, [])], [((.loc 1), [])])
  | 11 => ([(1, []), (4, [])], [((.loc 1), [])])
  | 12 => ([(1, []), (4, []), (21, []), (49, []), (63, []), (72, []), (84, [])], [((.loc 1), [])])
  | 13 => ([(1, []), (4, []), (21, []), (49, []), (63, []), (72, []), (84, [])], [((.loc 1), [])])
  | 14 => ([(2, []), (3, [])], [])
  | _ => ([], [])
noncomputable def head120_0 (p : Ptr) (x4 : Int) (v21 : V U) (v49 : V U) (v84 : V U) (v72 : V U) (v63 : V U) : LSt U := (⟨[(1, .ptr (.loc 1) 0), (4, .c (.int .u64 x4)), (21, v21), (49, v49), (63, v63), (72, v72), (84, v84)], [((.loc 1), [.int .i64 (Ptr.kind p), .int .i64 (Ptr.off p), .int .i64 (Ptr.data p), .int .i64 (Ptr.ptrs p), .int .i64 (Ptr.code p), .int .i64 (Ptr.count p), .int .i64 (Ptr.segment p), .bool (Ptr.double p)])], []⟩ : LSt U)
noncomputable abbrev A120 (p : List Nat) := awp cfg (know know120) (drawOk cfg (know know120)) Try.f120.ntmps lv120 (cd Try.f120 p)
theorem vc120 (p : Ptr) (Q : AExit → LSt U → Prop) (h : ((((((((Ptr.kind p) : Int) == 1) = true → (pre123 ((Ptr.off p), ())) ∧ (Tr ((decide (-536870912 ≤ (Ptr.off p) ∧ (Ptr.off p) < 536870912)) = true)) ∧ (Tr ((decide (-536870912 ≤ (Ptr.off p) ∧ (Ptr.off p) < 536870912)) = true)) ∧ ((decide (-536870912 ≤ (Ptr.off p) ∧ (Ptr.off p) < 536870912)) = true → pre124 ((Ptr.data p), 65535, ())) ∧ ((Tr ((decide (-536870912 ≤ (Ptr.off p) ∧ (Ptr.off p) < 536870912)) = true))) ∧ (Tr ((bif (decide (-536870912 ≤ (Ptr.off p) ∧ (Ptr.off p) < 536870912)) then (decide (0 ≤ (Ptr.data p) ∧ (Ptr.data p) ≤ 65535)) else false) = true)) ∧ (Tr ((bif (decide (-536870912 ≤ (Ptr.off p) ∧ (Ptr.off p) < 536870912)) then (decide (0 ≤ (Ptr.data p) ∧ (Ptr.data p) ≤ 65535)) else false) = true)) ∧ ((bif (decide (-536870912 ≤ (Ptr.off p) ∧ (Ptr.off p) < 536870912)) then (decide (0 ≤ (Ptr.data p) ∧ (Ptr.data p) ≤ 65535)) else false) = true → pre124 ((Ptr.ptrs p), 65535, ())) ∧ ((Tr ((bif (decide (-536870912 ≤ (Ptr.off p) ∧ (Ptr.off p) < 536870912)) then (decide (0 ≤ (Ptr.data p) ∧ (Ptr.data p) ≤ 65535)) else false) = true))) ∧ (((bif (bif (decide (-536870912 ≤ (Ptr.off p) ∧ (Ptr.off p) < 536870912)) then (decide (0 ≤ (Ptr.data p) ∧ (Ptr.data p) ≤ 65535)) else false) then (decide (0 ≤ (Ptr.ptrs p) ∧ (Ptr.ptrs p) ≤ 65535)) else false) = true → (pre125 ((Ptr.off p), 0, ())) ∧ ((0 : Int) ≤ 32) ∧ ((0 : Int) ≤ 48) ∧ (A120 [1, 1, 1] (head120_0 p (IntKind.wrap .u64 (BitVec.ofInt (IntKind.bits .u64) (IntKind.wrap .u64 (BitVec.ofInt (IntKind.bits .u64) (4 * ((Ptr.off p) % 1073741824) + 0) ||| BitVec.ofInt (IntKind.bits .u64) (IntKind.wrap .u64 (((IntKind.wrap .u64 (Ptr.data p)) : Int) * 2 ^ (min (Int.toNat 32) (IntKind.bits .u64))))).toNat) ||| BitVec.ofInt (IntKind.bits .u64) (IntKind.wrap .u64 (((IntKind.wrap .u64 (Ptr.ptrs p)) : Int) * 2 ^ (min (Int.toNat 48) (IntKind.bits .u64))))).toNat) (.c (.bool (bif (bif (decide (-536870912 ≤ (Ptr.off p) ∧ (Ptr.off p) < 536870912)) then (decide (0 ≤ (Ptr.data p) ∧ (Ptr.data p) ≤ 65535)) else false) then (decide (0 ≤ (Ptr.ptrs p) ∧ (Ptr.ptrs p) ≤ 65535)) else false))) .junk .junk .junk .junk) Q)) ∧ ((bif (bif (decide (-536870912 ≤ (Ptr.off p) ∧ (Ptr.off p) < 536870912)) then (decide (0 ≤ (Ptr.data p) ∧ (Ptr.data p) ≤ 65535)) else false) then (decide (0 ≤ (Ptr.ptrs p) ∧ (Ptr.ptrs p) ≤ 65535)) else false) = false → A120 [1, 1, 1] (head120_0 p 0 (.c (.bool (bif (bif (decide (-536870912 ≤ (Ptr.off p) ∧ (Ptr.off p) < 536870912)) then (decide (0 ≤ (Ptr.data p) ∧ (Ptr.data p) ≤ 65535)) else false) then (decide (0 ≤ (Ptr.ptrs p) ∧ (Ptr.ptrs p) ≤ 65535)) else false))) .junk .junk .junk .junk) Q))) ∧ ((((Ptr.kind p) : Int) == 1) = false → (((((Ptr.kind p) : Int) == 2) = true → (pre123 ((Ptr.off p), ())) ∧ (Tr ((decide (-536870912 ≤ (Ptr.off p) ∧ (Ptr.off p) < 536870912)) = true)) ∧ (Tr ((decide (-536870912 ≤ (Ptr.off p) ∧ (Ptr.off p) < 536870912)) = true)) ∧ ((decide (-536870912 ≤ (Ptr.off p) ∧ (Ptr.off p) < 536870912)) = true → pre124 ((Ptr.code p), 7, ())) ∧ ((Tr ((decide (-536870912 ≤ (Ptr.off p) ∧ (Ptr.off p) < 536870912)) = true))) ∧ (Tr ((bif (decide (-536870912 ≤ (Ptr.off p) ∧ (Ptr.off p) < 536870912)) then (decide (0 ≤ (Ptr.code p) ∧ (Ptr.code p) ≤ 7)) else false) = true)) ∧ (Tr ((bif (decide (-536870912 ≤ (Ptr.off p) ∧ (Ptr.off p) < 536870912)) then (decide (0 ≤ (Ptr.code p) ∧ (Ptr.code p) ≤ 7)) else false) = true)) ∧ ((bif (decide (-536870912 ≤ (Ptr.off p) ∧ (Ptr.off p) < 536870912)) then (decide (0 ≤ (Ptr.code p) ∧ (Ptr.code p) ≤ 7)) else false) = true → pre124 ((Ptr.count p), 536870911, ())) ∧ ((Tr ((bif (decide (-536870912 ≤ (Ptr.off p) ∧ (Ptr.off p) < 536870912)) then (decide (0 ≤ (Ptr.code p) ∧ (Ptr.code p) ≤ 7)) else false) = true))) ∧ (((bif (bif (decide (-536870912 ≤ (Ptr.off p) ∧ (Ptr.off p) < 536870912)) then (decide (0 ≤ (Ptr.code p) ∧ (Ptr.code p) ≤ 7)) else false) then (decide (0 ≤ (Ptr.count p) ∧ (Ptr.count p) ≤ 536870911)) else false) = true → (pre125 ((Ptr.off p), 1, ())) ∧ ((0 : Int) ≤ 32) ∧ ((0 : Int) ≤ 35) ∧ (A120 [1, 1, 1] (head120_0 p (IntKind.wrap .u64 (BitVec.ofInt (IntKind.bits .u64) (IntKind.wrap .u64 (BitVec.ofInt (IntKind.bits .u64) (4 * ((Ptr.off p) % 1073741824) + 1) ||| BitVec.ofInt (IntKind.bits .u64) (IntKind.wrap .u64 (((IntKind.wrap .u64 (Ptr.code p)) : Int) * 2 ^ (min (Int.toNat 32) (IntKind.bits .u64))))).toNat) ||| BitVec.ofInt (IntKind.bits .u64) (IntKind.wrap .u64 (((IntKind.wrap .u64 (Ptr.count p)) : Int) * 2 ^ (min (Int.toNat 35) (IntKind.bits .u64))))).toNat) .junk (.c (.bool (bif (bif (decide (-536870912 ≤ (Ptr.off p) ∧ (Ptr.off p) < 536870912)) then (decide (0 ≤ (Ptr.code p) ∧ (Ptr.code p) ≤ 7)) else false) then (decide (0 ≤ (Ptr.count p) ∧ (Ptr.count p) ≤ 536870911)) else false))) .junk .junk .junk) Q)) ∧ ((bif (bif (decide (-536870912 ≤ (Ptr.off p) ∧ (Ptr.off p) < 536870912)) then (decide (0 ≤ (Ptr.code p) ∧ (Ptr.code p) ≤ 7)) else false) then (decide (0 ≤ (Ptr.count p) ∧ (Ptr.count p) ≤ 536870911)) else false) = false → A120 [1, 1, 1] (head120_0 p 0 .junk (.c (.bool (bif (bif (decide (-536870912 ≤ (Ptr.off p) ∧ (Ptr.off p) < 536870912)) then (decide (0 ≤ (Ptr.code p) ∧ (Ptr.code p) ≤ 7)) else false) then (decide (0 ≤ (Ptr.count p) ∧ (Ptr.count p) ≤ 536870911)) else false))) .junk .junk .junk) Q))) ∧ ((((Ptr.kind p) : Int) == 2) = false → (((((Ptr.kind p) : Int) == 3) = true → (pre124 ((Ptr.off p), 536870911, ())) ∧ (Tr ((decide (0 ≤ (Ptr.off p) ∧ (Ptr.off p) ≤ 536870911)) = true)) ∧ (Tr ((decide (0 ≤ (Ptr.off p) ∧ (Ptr.off p) ≤ 536870911)) = true)) ∧ ((decide (0 ≤ (Ptr.off p) ∧ (Ptr.off p) ≤ 536870911)) = true → pre124 ((Ptr.segment p), 4294967295, ())) ∧ ((Tr ((decide (0 ≤ (Ptr.off p) ∧ (Ptr.off p) ≤ 536870911)) = true))) ∧ (((bif (decide (0 ≤ (Ptr.off p) ∧ (Ptr.off p) ≤ 536870911)) then (decide (0 ≤ (Ptr.segment p) ∧ (Ptr.segment p) ≤ 4294967295)) else false) = true → ((0 : Int) ≤ 3) ∧ ((0 : Int) ≤ 32) ∧ ((((Ptr.double p) = true → (A120 [1, 1, 1] (head120_0 p (IntKind.wrap .u64 (BitVec.ofInt (IntKind.bits .u64) (IntKind.wrap .u64 (BitVec.ofInt (IntKind.bits .u64) (IntKind.wrap .u64 (BitVec.ofInt (IntKind.bits .u64) (IntKind.wrap .u64 (((IntKind.wrap .u64 (Ptr.off p)) : Int) * 2 ^ (min (Int.toNat 3) (IntKind.bits .u64)))) ||| BitVec.ofInt (IntKind.bits .u64) 2).toNat) ||| BitVec.ofInt (IntKind.bits .u64) (IntKind.wrap .u64 (((IntKind.wrap .u64 (Ptr.segment p)) : Int) * 2 ^ (min (Int.toNat 32) (IntKind.bits .u64))))).toNat) ||| BitVec.ofInt (IntKind.bits .u64) 4).toNat) .junk .junk (.c (.bool (Ptr.double p))) .junk .junk) Q)) ∧ ((Ptr.double p) = false → A120 [1, 1, 1] (head120_0 p (IntKind.wrap .u64 (BitVec.ofInt (IntKind.bits .u64) (IntKind.wrap .u64 (BitVec.ofInt (IntKind.bits .u64) (IntKind.wrap .u64 (((IntKind.wrap .u64 (Ptr.off p)) : Int) * 2 ^ (min (Int.toNat 3) (IntKind.bits .u64)))) ||| BitVec.ofInt (IntKind.bits .u64) 2).toNat) ||| BitVec.ofInt (IntKind.bits .u64) (IntKind.wrap .u64 (((IntKind.wrap .u64 (Ptr.segment p)) : Int) * 2 ^ (min (Int.toNat 32) (IntKind.bits .u64))))).toNat) .junk .junk (.c (.bool (Ptr.double p))) .junk .junk) Q)))) ∧ ((bif (decide (0 ≤ (Ptr.off p) ∧ (Ptr.off p) ≤ 536870911)) then (decide (0 ≤ (Ptr.segment p) ∧ (Ptr.segment p) ≤ 4294967295)) else false) = false → A120 [1, 1, 1] (head120_0 p 0 .junk .junk .junk (.c (.bool (bif (decide (0 ≤ (Ptr.off p) ∧ (Ptr.off p) ≤ 536870911)) then (decide (0 ≤ (Ptr.segment p) ∧ (Ptr.segment p) ≤ 4294967295)) else false))) (.c (.bool (((Ptr.kind p) : Int) == 3)))) Q))) ∧ ((((Ptr.kind p) : Int) == 3) = false → A120 [1, 1, 1] (head120_0 p 0 .junk .junk .junk .junk (.c (.bool (((Ptr.kind p) : Int) == 3)))) Q)))))))))) :
    A120 [] (⟨[(0, .agg [.int .i64 (Ptr.kind p), .int .i64 (Ptr.off p), .int .i64 (Ptr.data p), .int .i64 (Ptr.ptrs p), .int .i64 (Ptr.code p), .int .i64 (Ptr.count p), .int .i64 (Ptr.segment p), .bool (Ptr.double p)])], [], []⟩ : LSt U) Q :=
  (Eq.mpr (by kernel_rfl) h :)
theorem vc120_c0 (p : Ptr) (x4 : Int) (v21 : V U) (v49 : V U) (v84 : V U) (v72 : V U) (v63 : V U) (Q : AExit → LSt U → Prop) (h : (pre86 (x4, ())) ∧ (Tr (((((Ptr.kind (decP x4)) : Int) == (Ptr.kind p)) && ((((Ptr.off (decP x4)) : Int) == (Ptr.off p)) && ((((Ptr.data (decP x4)) : Int) == (Ptr.data p)) && ((((Ptr.ptrs (decP x4)) : Int) == (Ptr.ptrs p)) && ((((Ptr.code (decP x4)) : Int) == (Ptr.code p)) && ((((Ptr.count (decP x4)) : Int) == (Ptr.count p)) && ((((Ptr.segment (decP x4)) : Int) == (Ptr.segment p)) && (((Ptr.double (decP x4)) == (Ptr.double p)) && true)))))))) = true)) ∧ (Tr (((((Ptr.kind (decP x4)) : Int) == (Ptr.kind p)) && ((((Ptr.off (decP x4)) : Int) == (Ptr.off p)) && ((((Ptr.data (decP x4)) : Int) == (Ptr.data p)) && ((((Ptr.ptrs (decP x4)) : Int) == (Ptr.ptrs p)) && ((((Ptr.code (decP x4)) : Int) == (Ptr.code p)) && ((((Ptr.count (decP x4)) : Int) == (Ptr.count p)) && ((((Ptr.segment (decP x4)) : Int) == (Ptr.segment p)) && (((Ptr.double (decP x4)) == (Ptr.double p)) && true)))))))) = true)) ∧ ((Tr (((((Ptr.kind (decP x4)) : Int) == (Ptr.kind p)) && ((((Ptr.off (decP x4)) : Int) == (Ptr.off p)) && ((((Ptr.data (decP x4)) : Int) == (Ptr.data p)) && ((((Ptr.ptrs (decP x4)) : Int) == (Ptr.ptrs p)) && ((((Ptr.code (decP x4)) : Int) == (Ptr.code p)) && ((((Ptr.count (decP x4)) : Int) == (Ptr.count p)) && ((((Ptr.segment (decP x4)) : Int) == (Ptr.segment p)) && (((Ptr.double (decP x4)) == (Ptr.double p)) && true)))))))) = true))) ∧ (Q .ret (⟨[(2, .c (.int .u64 x4)), (3, .c (.bool (bif ((((Ptr.kind (decP x4)) : Int) == (Ptr.kind p)) && ((((Ptr.off (decP x4)) : Int) == (Ptr.off p)) && ((((Ptr.data (decP x4)) : Int) == (Ptr.data p)) && ((((Ptr.ptrs (decP x4)) : Int) == (Ptr.ptrs p)) && ((((Ptr.code (decP x4)) : Int) == (Ptr.code p)) && ((((Ptr.count (decP x4)) : Int) == (Ptr.count p)) && ((((Ptr.segment (decP x4)) : Int) == (Ptr.segment p)) && (((Ptr.double (decP x4)) == (Ptr.double p)) && true)))))))) then (((Ptr.kind p) : Int) != 4) else false)))], [], []⟩ : LSt U))) :
    A120 [1, 1, 1] (head120_0 p x4 v21 v49 v84 v72 v63) Q :=
  (Eq.mpr (by kernel_rfl) h :)
abbrev Body120 (p : Ptr)  : Prop := awp cfg (know (know120)) (drawOk cfg (know (know120))) Try.f120.ntmps lv120 (cd Try.f120 []) (entry (args120.can (p, ())) []) (EndsQ cfg Try.f120.ntmps Try.f120.results.toList (res120 (p, ())) [])
theorem make120 (c123 : Contract Try.prog cfg 123 spec123) (c124 : Contract Try.prog cfg 124 spec124) (c125 : Contract Try.prog cfg 125 spec125) (c86 : Contract Try.prog cfg 86 spec86) (hb : ∀ (p : Ptr) (_ : Unit), pre120 (p, ()) → Body120 p) : Contract Try.prog cfg 120 spec120 :=
  contract_flat (l := [(123, spec123), (124, spec124), (125, spec125), (86, spec86)]) cfgOk rfl (⟨c123, c124, c125, c86, trivial⟩) lv120 Try.func120 rfl rfl 1 (fun _ => rfl) (by decide) (fun ⟨p, _⟩ => hb p ())
end Go.AM.Ythokdjgpdonhgaa

namespace Go.AM.Ythokdjgpdonhgaa
open Go.AM Go.Proofs
def args54 : ArgL (Tree × Unit) := (.cons (aEl .tree) .nil)
def pre54 (a : Tree × Unit) : Prop := mass a.1 ≤ 1000000
def mu54 (a : Tree × Unit) : Nat := mass a.1
noncomputable def res54 (a : Tree × Unit) : V U := .c (.int .i64 (sizeN a.1 : Int))
noncomputable def spec54 : Fs U := fs args54 (fun a => [pre54 a]) res54
def args95 : ArgL (Tree × Unit) := (.cons (aEl .tree) .nil)
def pre95 (a : Tree × Unit) : Prop := mass a.1 ≤ 1000000 ∧ (∃ d, rightT a.1 d = true)
def mu95 (a : Tree × Unit) : Nat := mass a.1
noncomputable def res95 (a : Tree × Unit) : V U := .c (.int .i64 (sizeN a.1 : Int))
noncomputable def spec95 : Fs U := fs args95 (fun a => [pre95 a]) res95
def args73 : ArgL (Tree × Unit) := (.cons (aEl .tree) .nil)
def pre73 (a : Tree × Unit) : Prop := (mass a.1 ≤ 1000000) ∧ (∃ d, rightT a.1 d = true)
noncomputable def res73 (a : Tree × Unit) : V U := .c (.int .i64 (sizeN (normT a.1) : Int))
noncomputable def spec73 : Fs U := fs args73 (fun a => [pre73 a]) res73
def args75 : ArgM ((List Int × Unit) × Int × Unit) := (.obj 0 (.cons (cWr .u64 0 0) .nil) (.cons (aInt .i64) .nil))
def pre75 (a : (List Int × Unit) × Int × Unit) : Prop := (a.1.1.length ≤ 1000000) ∧ 0 ≤ a.2.1 ∧ a.2.1 ≤ 1000000
noncomputable def res75 (a : (List Int × Unit) × Int × Unit) : V U := .c (.int .i64 (a.1.1.length : Int))
noncomputable def resX75 (a : (List Int × Unit) × Int × Unit) : List (List (C U)) := [[.mref (.x 0 0)]]
noncomputable def resL75 (a : (List Int × Unit) × Int × Unit) : List (Tok × LC U) := [(.x 0 0, LC.mk (U := U) .u64 (a.1.1 ++ zs (Int.toNat a.2.1)) 0)]
noncomputable def spec75 : Fs U := fsXL args75 (fun a => [pre75 a]) res75 resX75 resL75
def args1075 : ArgM ((List Int × Unit) × Int × Unit) := (.obj 0 (.cons (cOwn .u64 0 0) .nil) (.cons (aInt .i64) .nil))
def pre1075 (a : (List Int × Unit) × Int × Unit) : Prop := (a.1.1 = []) ∧ 0 ≤ a.2.1 ∧ a.2.1 ≤ 1000000
noncomputable def res1075 (a : (List Int × Unit) × Int × Unit) : V U := .c (.int .i64 (a.1.1.length : Int))
noncomputable def resX1075 (a : (List Int × Unit) × Int × Unit) : List (List (C U)) := [[.mref (.x 0 0)]]
noncomputable def resL1075 (a : (List Int × Unit) × Int × Unit) : List (Tok × LC U) := [(.x 0 0, LC.mk (U := U) .u64 (a.1.1 ++ zs (Int.toNat a.2.1)) 0)]
noncomputable def spec1075 : Fs U := fsXL args1075 (fun a => [pre1075 a]) res1075 resX1075 resL1075
def args96 : ArgM ((List Int × Unit) × Int × Int × Ptr × Unit) := (.obj 0 (.cons (cWr .u64 0 0) .nil) (.cons (aInt .i64) (.cons (aInt .i64) (.cons (aEl .ptr) .nil))))
def pre96 (a : (List Int × Unit) × Int × Int × Ptr × Unit) : Prop := (0 ≤ a.2.1 ∧ a.2.1 < a.1.1.length ∧ a.2.1 < a.2.2.1 ∧ a.2.2.1 ≤ 1000000) ∧ pntOk a.2.2.2.1
noncomputable def res96 (a : (List Int × Unit) × Int × Int × Ptr × Unit) : V U := .c (.bool true)
noncomputable def resX96 (a : (List Int × Unit) × Int × Int × Ptr × Unit) : List (List (C U)) := [[.mref (.x 0 0)]]
noncomputable def resL96 (a : (List Int × Unit) × Int × Int × Ptr × Unit) : List (Tok × LC U) := [(.x 0 0, LC.mk (U := U) .u64 (a.1.1.set (Int.toNat a.2.1) (pntW a.2.1 a.2.2.1 a.2.2.2.1)) 0)]
noncomputable def spec96 : Fs U := fsXL args96 (fun a => [pre96 a]) res96 resX96 resL96
noncomputable def know54 (N : Nat) : List (FuncId × Fs U) := (54, fs args54 (fun a => [pre54 a, mu54 a < N]) res54) :: [(82, spec82), (57, spec57)]
def lv54 : Lives U := fun i => match i with
  | 0 => ([(1, [])], [((.loc 1), [])])
  | 1 => ([(1, []), (3, [])], [((.loc 1), [])])
  | 2 => ([(1, []), (3, []), (10, [])], [((.loc 1), [])])
  | 3 => ([(1, []), (3, []), (10, []), (11, [])], [((.loc 1), [])])
  | 4 => ([(1, []), (3, []), (39, [])], [((.loc 1), [])])
  | 5 => ([(1, []), (3, []), (10, []), (20, [])], [((.loc 1), [])])
  | 6 => ([(1, []), (3, []), (39, [])], [((.loc 1), [])])
  | 7 => ([(1, []), (3, []), (10, []), (25, [])], [((.loc 1), [])])
  | 8 => ([(1, []), (3, []), (10, []), (25, [])], [((.loc 1), [])])
  | 9 => ([(1, []), (3, []), (10, []), (25, [])], [((.loc 1), [])])
  | 10 => ([(1, []), (3, []), (10, []), (25, [])], [((.loc 1), [])])
  | 11 => ([(1, []), (3, []), (10, []), (25, [])], [((.loc 1), [])])
  | 12 => ([(1, []), (3, []), (10, []), (25, [])], [((.loc 1), [])])
  | 13 => ([(2, [])], [])
  | 14 => ([(1, []), (3, []), (39, [])], [((.loc 1), [])])
  | 15 => ([(1, []), (4, []), (5, [])], [((.loc 1), [])])
  | 16 => ([(1, []), (3, [])], [((.loc 1), [])])
  | 17 => ([(1, []), (3, []), (6, [])], [((.loc 1), [])])
  | 18 => ([(1, []), (3, []), (6, []), (58, [])], [((.loc 1), [])])
  | 19 => ([(1, []), (3, []), (6, [])], [((.loc 1), [])])
  | 20 => ([(1, []), (3, []), (6, []), (7, [])], [((.loc 1), [])])
  | 21 => ([(1, []), (3, []), (6, []), (7, []), (69, [])], [((.loc 1), [])])
  | 22 => ([(1, []), (3, []), (6, []), (7, [])], [((.loc 1), [])])
  | 23 => ([(1, []), (3, []), (6, []), (7, [])], [((.loc 1), [])])
  | 24 => ([(2, [])], [])
  | 25 => ([(1, []), (3, []), (8, [])], [((.loc 1), [])])
  | 26 => ([(1, []), (3, []), (8, []), (89, [])], [((.loc 1), [])])
  | 27 => ([(1, []), (3, []), (8, [])], [((.loc 1), [])])
  | 28 => ([(1, []), (3, []), (8, [])], [((.loc 1), [])])
  | 29 => ([(2, [])], [])
  | _ => ([], [])
noncomputable def head54_0 (t : Tree) (x3 : Int) (v39 : V U) : LSt U := (⟨[(1, .ptr (.loc 1) 0), (3, .c (.int .i64 x3)), (39, v39)], [((.loc 1), [.int .i64 (Tree.kind t), .slice (U := U) .u64 (Tree.words t) .unk, .slice (U := U) .tree (Tree.kids t) .unk])], []⟩ : LSt U)
noncomputable def head54_1 (t : Tree) (x25_a : Bool) : LSt U := (⟨[(1, .ptr (.loc 1) 0), (3, .c (.int .i64 0)), (10, .c (.int .i64 (Tree.kind t))), (25, .c (.bool x25_a))], [((.loc 1), [.int .i64 (Tree.kind t), .slice (U := U) .u64 (Tree.words t) .unk, .slice (U := U) .tree (Tree.kids t) .unk])], []⟩ : LSt U)
noncomputable def head54_2 (t : Tree) (x3_b : Int) (x8_b : Int) : LSt U := (⟨[(1, .ptr (.loc 1) 0), (3, .c (.int .i64 x3_b)), (8, .c (.int .i64 x8_b))], [((.loc 1), [.int .i64 (Tree.kind t), .slice (U := U) .u64 (Tree.words t) .unk, .slice (U := U) .tree (Tree.kids t) .unk])], []⟩ : LSt U)
noncomputable def head54_3 (t : Tree) (x6_c : Int) (x3_c : Int) : LSt U := (⟨[(1, .ptr (.loc 1) 0), (3, .c (.int .i64 x3_c)), (6, .c (.int .i64 x6_c))], [((.loc 1), [.int .i64 (Tree.kind t), .slice (U := U) .u64 (Tree.words t) .unk, .slice (U := U) .tree (Tree.kids t) .unk])], []⟩ : LSt U)
noncomputable def head54_4 (t : Tree) (x6_c : Int) (x3_d : Int) (x7_d : Int) : LSt U := (⟨[(1, .ptr (.loc 1) 0), (3, .c (.int .i64 x3_d)), (6, .c (.int .i64 x6_c)), (7, .c (.int .i64 x7_d))], [((.loc 1), [.int .i64 (Tree.kind t), .slice (U := U) .u64 (Tree.words t) .unk, .slice (U := U) .tree (Tree.kids t) .unk])], []⟩ : LSt U)
noncomputable abbrev A54 (N : Nat) (p : List Nat) := awp cfg (know (know54 N)) (drawOk cfg (know (know54 N))) Try.f54.ntmps lv54 (cd Try.f54 p)
noncomputable abbrev S54 (N : Nat) (p : List Nat) := seqK cfg (know (know54 N)) (drawOk cfg (know (know54 N))) Try.f54.ntmps lv54 (cd Try.f54 p)
theorem vc54 (N : Nat) (t : Tree) (Q : AExit → LSt U → Prop) (h : ((((((((Tree.kind t) : Int) == 1) = true → (InR ((((Tree.words t).length : Int) : Int) + ((Tree.kids t).length : Int))) ∧ (A54 N [1, 1, 1] (head54_0 t ((((Tree.words t).length : Int) : Int) + ((Tree.kids t).length : Int)) .junk) Q)) ∧ ((((Tree.kind t) : Int) == 1) = false → (((((Tree.kind t) : Int) == 8) = true → (A54 N [1, 1, 1] (head54_0 t ((Tree.kids t).length : Int) .junk) Q)) ∧ ((((Tree.kind t) : Int) == 8) = false → (((((Tree.kind t) : Int) == 2) = true → A54 N [1, 1, 0, 1, 0, 1, 1, 1, 1, 1] (head54_1 t (((Tree.kind t) : Int) == 2)) (AExit.inBlock 0 (S54 N [1, 1, 1] Q))) ∧ ((((Tree.kind t) : Int) == 2) = false → (((((Tree.kind t) : Int) == 3) = true → A54 N [1, 1, 0, 1, 0, 1, 1, 1, 1, 1] (head54_1 t (((Tree.kind t) : Int) == 3)) (AExit.inBlock 0 (S54 N [1, 1, 1] Q))) ∧ ((((Tree.kind t) : Int) == 3) = false → (((((Tree.kind t) : Int) == 4) = true → A54 N [1, 1, 0, 1, 0, 1, 1, 1, 1, 1] (head54_1 t (((Tree.kind t) : Int) == 4)) (AExit.inBlock 0 (S54 N [1, 1, 1] Q))) ∧ ((((Tree.kind t) : Int) == 4) = false → (((((Tree.kind t) : Int) == 5) = true → A54 N [1, 1, 0, 1, 0, 1, 1, 1, 1, 1] (head54_1 t (((Tree.kind t) : Int) == 5)) (AExit.inBlock 0 (S54 N [1, 1, 1] Q))) ∧ ((((Tree.kind t) : Int) == 5) = false → (((((Tree.kind t) : Int) == 6) = true → A54 N [1, 1, 0, 1, 0, 1, 1, 1, 1, 1] (head54_1 t (((Tree.kind t) : Int) == 6)) (AExit.inBlock 0 (S54 N [1, 1, 1] Q))) ∧ ((((Tree.kind t) : Int) == 6) = false → (A54 N [1, 1, 0, 1, 0, 1, 1, 1, 1, 1] (head54_1 t (((Tree.kind t) : Int) == 7)) (AExit.inBlock 0 (S54 N [1, 1, 1] Q))))))))))))))))))))) :
    A54 N [] (⟨[(0, .agg [.int .i64 (Tree.kind t), .slice (U := U) .u64 (Tree.words t) .unk, .slice (U := U) .tree (Tree.kids t) .unk])], [], []⟩ : LSt U) Q :=
  (Eq.mpr (by kernel_rfl) h :)
theorem vc54_c0 (N : Nat) (t : Tree) (x3 : Int) (v39 : V U) (Q : AExit → LSt U → Prop) (h : (LoopWp (A54 N [1, 1, 1, 0, 1, 0, 0]) (head54_2 t x3 0) (AExit.inBlock 5 (S54 N [1, 1, 1, 1] Q)))) :
    A54 N [1, 1, 1] (head54_0 t x3 v39) Q :=
  (Eq.mpr (by kernel_rfl) h :)
theorem vc54_c1 (N : Nat) (t : Tree) (x25_a : Bool) (Q : AExit → LSt U → Prop) (h : ((x25_a) = true → (InR (((Tree.kind t) : Int) - 2)) ∧ (pre57 ((((Tree.kind t) : Int) - 2), ((Tree.kids t).length : Int), ())) ∧ (Q .ret (⟨[(2, .c (.int .i64 (roomW (((Tree.kind t) : Int) - 2) ((Tree.kids t).length : Int))))], [], []⟩ : LSt U))) ∧ ((x25_a) = false → (((((Tree.kind t) : Int) == 9) = true → (pre82 ((Tree.mk (Tree.kind t) (Tree.words t) (Tree.kids t)), ())) ∧ ((InR (((frW (Tree.kids (Tree.mk (Tree.kind t) (Tree.words t) (Tree.kids t))) : Int) : Int) + (frK (Tree.kids (Tree.mk (Tree.kind t) (Tree.words t) (Tree.kids t))) : Int))) ∧ (InR ((((Tree.kids t).length : Int) : Int) * (((frW (Tree.kids (Tree.mk (Tree.kind t) (Tree.words t) (Tree.kids t))) : Int) : Int) + (frK (Tree.kids (Tree.mk (Tree.kind t) (Tree.words t) (Tree.kids t))) : Int)))) ∧ (InR ((1 : Int) + ((((Tree.kids t).length : Int) : Int) * (((frW (Tree.kids (Tree.mk (Tree.kind t) (Tree.words t) (Tree.kids t))) : Int) : Int) + (frK (Tree.kids (Tree.mk (Tree.kind t) (Tree.words t) (Tree.kids t))) : Int))))) ∧ ((LoopWp (A54 N [1, 1, 0, 1, 0, 1, 1, 1, 1, 1, 1, 1, 0, 1, 1, 0, 1, 0, 0]) (head54_3 t 0 ((1 : Int) + ((((Tree.kids t).length : Int) : Int) * (((frW (Tree.kids (Tree.mk (Tree.kind t) (Tree.words t) (Tree.kids t))) : Int) : Int) + (frK (Tree.kids (Tree.mk (Tree.kind t) (Tree.words t) (Tree.kids t))) : Int))))) (AExit.inBlock 1 (S54 N [1, 1, 0, 1, 0, 1, 1, 1, 1, 1, 1, 1, 0, 1, 1, 1] (AExit.inBlock 0 (S54 N [1, 1, 1] Q)))))))) ∧ ((((Tree.kind t) : Int) == 9) = false → A54 N [1, 1, 1] (head54_0 t 0 (.c (.bool (((Tree.kind t) : Int) == 9)))) Q)))) :
    A54 N [1, 1, 0, 1, 0, 1, 1, 1, 1, 1] (head54_1 t x25_a) (AExit.inBlock 0 (S54 N [1, 1, 1] Q)) :=
  (Eq.mpr (by kernel_rfl) h :)
theorem vc54_l2 (N : Nat) (t : Tree) (x3_b : Int) (x8_b : Int) (N2 : LSt U → Prop) (Q : AExit → LSt U → Prop) (h : (((decide ((x8_b : Int) < ((Tree.kids t).length : Int))) = true → ((0 : Int) ≤ x8_b ∧ x8_b < ((Tree.kids t).length : Int)) ∧ (pre54 ((Tree.mk (Tree.kind (List.getD (Tree.kids t) (Int.toNat x8_b) Tree.nil)) (Tree.words (List.getD (Tree.kids t) (Int.toNat x8_b) Tree.nil)) (Tree.kids (List.getD (Tree.kids t) (Int.toNat x8_b) Tree.nil))), ())) ∧ (mu54 ((Tree.mk (Tree.kind (List.getD (Tree.kids t) (Int.toNat x8_b) Tree.nil)) (Tree.words (List.getD (Tree.kids t) (Int.toNat x8_b) Tree.nil)) (Tree.kids (List.getD (Tree.kids t) (Int.toNat x8_b) Tree.nil))), ()) < N) ∧ (InR ((x3_b : Int) + (sizeN (Tree.mk (Tree.kind (List.getD (Tree.kids t) (Int.toNat x8_b) Tree.nil)) (Tree.words (List.getD (Tree.kids t) (Int.toNat x8_b) Tree.nil)) (Tree.kids (List.getD (Tree.kids t) (Int.toNat x8_b) Tree.nil))) : Int))) ∧ ((InR ((x8_b : Int) + 1)) ∧ (N2 (head54_2 t ((x3_b : Int) + (sizeN (Tree.mk (Tree.kind (List.getD (Tree.kids t) (Int.toNat x8_b) Tree.nil)) (Tree.words (List.getD (Tree.kids t) (Int.toNat x8_b) Tree.nil)) (Tree.kids (List.getD (Tree.kids t) (Int.toNat x8_b) Tree.nil))) : Int)) ((x8_b : Int) + 1))))) ∧ ((decide ((x8_b : Int) < ((Tree.kids t).length : Int))) = false → (Q .ret (⟨[(2, .c (.int .i64 x3_b))], [], []⟩ : LSt U))))) :
    A54 N [1, 1, 1, 0, 1, 0, 0] (head54_2 t x3_b x8_b) (AExit.then N2 (AExit.inBlock 5 (S54 N [1, 1, 1, 1] Q))) :=
  (Eq.mpr (by kernel_rfl) h :)
theorem vc54_l3 (N : Nat) (t : Tree) (x6_c : Int) (x3_c : Int) (N3 : LSt U → Prop) (Q : AExit → LSt U → Prop) (h : (((decide ((x6_c : Int) < ((Tree.kids t).length : Int))) = true → (LoopWp (A54 N [1, 1, 0, 1, 0, 1, 1, 1, 1, 1, 1, 1, 0, 1, 1, 0, 1, 0, 0, 1, 0, 0, 1, 0, 0]) (head54_4 t x6_c x3_c 0) (AExit.inBlock 3 (AExit.inBlock 2 (S54 N [1, 1, 0, 1, 0, 1, 1, 1, 1, 1, 1, 1, 0, 1, 1, 0, 1, 0, 0, 1, 1] (AExit.then N3 (AExit.inBlock 1 (S54 N [1, 1, 0, 1, 0, 1, 1, 1, 1, 1, 1, 1, 0, 1, 1, 1] (AExit.inBlock 0 (S54 N [1, 1, 1] Q)))))))))) ∧ ((decide ((x6_c : Int) < ((Tree.kids t).length : Int))) = false → (Q .ret (⟨[(2, .c (.int .i64 x3_c))], [], []⟩ : LSt U))))) :
    A54 N [1, 1, 0, 1, 0, 1, 1, 1, 1, 1, 1, 1, 0, 1, 1, 0, 1, 0, 0] (head54_3 t x6_c x3_c) (AExit.then N3 (AExit.inBlock 1 (S54 N [1, 1, 0, 1, 0, 1, 1, 1, 1, 1, 1, 1, 0, 1, 1, 1] (AExit.inBlock 0 (S54 N [1, 1, 1] Q))))) :=
  (Eq.mpr (by kernel_rfl) h :)
theorem vc54_l4 (N : Nat) (t : Tree) (x6_c : Int) (x3_d : Int) (x7_d : Int) (N4 : LSt U → Prop) (N3 : LSt U → Prop) (Q : AExit → LSt U → Prop) (h : ∀ y_1, y_1 = (List.getD (Tree.kids t) (Int.toNat x6_c) Tree.nil) → ∀ y_2, y_2 = (List.getD (Tree.kids y_1) (Int.toNat x7_d) Tree.nil) → ∀ y_3, y_3 = (y_2) → ((0 : Int) ≤ x6_c ∧ x6_c < ((Tree.kids t).length : Int)) ∧ (((decide ((x7_d : Int) < ((Tree.kids y_1).length : Int))) = true → ((0 : Int) ≤ x6_c ∧ x6_c < ((Tree.kids t).length : Int)) ∧ ((0 : Int) ≤ x7_d ∧ x7_d < ((Tree.kids y_1).length : Int)) ∧ (pre54 (y_3, ())) ∧ (mu54 (y_3, ()) < N) ∧ (InR ((x3_d : Int) + (sizeN y_3 : Int))) ∧ ((InR ((x7_d : Int) + 1)) ∧ (N4 (head54_4 t x6_c ((x3_d : Int) + (sizeN y_3 : Int)) ((x7_d : Int) + 1))))) ∧ ((decide ((x7_d : Int) < ((Tree.kids y_1).length : Int))) = false → (InR ((x6_c : Int) + 1)) ∧ (N3 (head54_3 t ((x6_c : Int) + 1) x3_d))))) :
    A54 N [1, 1, 0, 1, 0, 1, 1, 1, 1, 1, 1, 1, 0, 1, 1, 0, 1, 0, 0, 1, 0, 0, 1, 0, 0] (head54_4 t x6_c x3_d x7_d) (AExit.then N4 (AExit.inBlock 3 (AExit.inBlock 2 (S54 N [1, 1, 0, 1, 0, 1, 1, 1, 1, 1, 1, 1, 0, 1, 1, 0, 1, 0, 0, 1, 1] (AExit.then N3 (AExit.inBlock 1 (S54 N [1, 1, 0, 1, 0, 1, 1, 1, 1, 1, 1, 1, 0, 1, 1, 1] (AExit.inBlock 0 (S54 N [1, 1, 1] Q))))))))) :=
  (Eq.mpr (by kernel_rfl) (h _ rfl _ rfl _ (reTree_eq _)) :)
abbrev Body54 (N : Nat) (t : Tree)  : Prop := awp cfg (know (know54 N)) (drawOk cfg (know (know54 N))) Try.f54.ntmps lv54 (cd Try.f54 []) (entry (args54.can (t, ())) []) (EndsQ cfg Try.f54.ntmps Try.f54.results.toList (res54 (t, ())) [])
theorem make54 (c82 : Contract Try.prog cfg 82 spec82) (c57 : Contract Try.prog cfg 57 spec57) (hb : ∀ (N : Nat) (t : Tree) (_ : Unit), pre54 (t, ()) → mu54 (t, ()) < N + 1 → Body54 N t) : Contract Try.prog cfg 54 spec54 :=
  contract_rec (μ := mu54) (l := [(82, spec82), (57, spec57)]) cfgOk rfl (⟨c82, c57, trivial⟩) lv54 Try.func54 rfl rfl 1 (fun _ => rfl) (by decide) (fun N ⟨t, _⟩ => hb N t ())
noncomputable def know95 (N : Nat) : List (FuncId × Fs U) := (95, fs args95 (fun a => [pre95 a, mu95 a < N]) res95) :: [(119, spec119), (118, spec118), (107, spec107)]
def lv95 : Lives U := fun i => match i with
  | 0 => ([(1, [])], [((.loc 1), [])])
  | 1 => ([(1, []), (3, [])], [((.loc 1), [])])
  | 2 => ([(1, []), (3, []), (10, [])], [((.loc 1), [])])
  | 3 => ([(1, []), (3, [])], [((.loc 1), [])])
  | 4 => ([(1, []), (3, []), (21, [])], [((.loc 1), [])])
  | 5 => ([(1, []), (3, [])], [((.loc 1), [])])
  | 6 => ([(1, []), (3, []), (28, [])], [((.loc 1), [])])
  | 7 => ([(2, [])], [])
  | 8 => ([(1, []), (3, []), (39, [])], [((.loc 1), [])])
  | 9 => ([(1, []), (4, []), (5, [])], [((.loc 1), [])])
  | 10 => ([(1, []), (3, [])], [((.loc 1), [])])
  | 11 => ([(3, []), (57, []), (58, []), (59, [])], [])
  | 12 => ([(3, []), (57, []), (58, []), (59, []), (60, [])], [])
  | 13 => ([(3, []), (7, []), (57, []), (58, []), (59, [])], [((.loc 7), [])])
  | 14 => ([(3, []), (57, []), (58, []), (59, [])], [])
  | 15 => ([(3, []), (57, []), (58, []), (59, [])], [])
  | 16 => ([(2, [])], [])
  | 17 => ([(3, []), (78, []), (79, []), (80, [])], [])
  | 18 => ([(3, []), (78, []), (79, []), (80, []), (81, [])], [])
  | 19 => ([(3, []), (9, []), (78, []), (79, []), (80, [])], [((.loc 9), [])])
  | 20 => ([(3, []), (78, []), (79, []), (80, [])], [])
  | 21 => ([(3, []), (78, []), (79, []), (80, [])], [])
  | 22 => ([(2, [])], [])
  | _ => ([], [])
noncomputable def head95_0 (t : Tree) (x3 : Int) (x80 : Int) : LSt U := (⟨[(3, .c (.int .i64 x3)), (78, .c (.slice (U := U) .tree (Tree.kids t) .unk)), (79, .c (.int .i64 ((Tree.kids t).length : Int))), (80, .c (.int .i64 x80))], [], []⟩ : LSt U)
noncomputable def head95_1 (t : Tree) (x3_a : Int) (x59_a : Int) : LSt U := (⟨[(3, .c (.int .i64 x3_a)), (57, .c (.slice (U := U) .tree (Tree.kids t) .unk)), (58, .c (.int .i64 ((Tree.kids t).length : Int))), (59, .c (.int .i64 x59_a))], [], []⟩ : LSt U)
noncomputable abbrev A95 (N : Nat) (p : List Nat) := awp cfg (know (know95 N)) (drawOk cfg (know (know95 N))) Try.f95.ntmps lv95 (cd Try.f95 p)
noncomputable abbrev S95 (N : Nat) (p : List Nat) := seqK cfg (know (know95 N)) (drawOk cfg (know (know95 N))) Try.f95.ntmps lv95 (cd Try.f95 p)
theorem vc95 (N : Nat) (t : Tree) (Q : AExit → LSt U → Prop) (h : ∀ y_1, y_1 = (t) → (((((((Tree.kind t) : Int) == 1) = true → (InR ((((Tree.words t).length : Int) : Int) + ((Tree.kids t).length : Int))) ∧ ((LoopWp (A95 N [1, 1, 1, 0, 1, 0, 0]) (head95_0 t ((((Tree.words t).length : Int) : Int) + ((Tree.kids t).length : Int)) 0) (AExit.inBlock 3 (S95 N [1, 1, 1, 1] Q))))) ∧ ((((Tree.kind t) : Int) == 1) = false → (((((Tree.kind t) : Int) == 8) = true → ((LoopWp (A95 N [1, 1, 1, 0, 1, 0, 0]) (head95_0 t ((Tree.kids t).length : Int) 0) (AExit.inBlock 3 (S95 N [1, 1, 1, 1] Q))))) ∧ ((((Tree.kind t) : Int) == 8) = false → (pre107 ((Tree.kind t), ())) ∧ (((decide (2 ≤ (Tree.kind t) ∧ (Tree.kind t) ≤ 7)) = true → (InR (((Tree.kind t) : Int) - 2)) ∧ (pre118 ((((Tree.kind t) : Int) - 2), ((Tree.kids t).length : Int), ())) ∧ (Q .ret (⟨[(2, .c (.int .i64 (roomW (((Tree.kind t) : Int) - 2) ((Tree.kids t).length : Int))))], [], []⟩ : LSt U))) ∧ ((decide (2 ≤ (Tree.kind t) ∧ (Tree.kind t) ≤ 7)) = false → (((((Tree.kind t) : Int) == 9) = true → (pre119 (y_1, ())) ∧ ((InR (((frW (Tree.kids y_1) : Int) : Int) + (frK (Tree.kids y_1) : Int))) ∧ (InR ((((Tree.kids t).length : Int) : Int) * (((frW (Tree.kids y_1) : Int) : Int) + (frK (Tree.kids y_1) : Int)))) ∧ (InR ((1 : Int) + ((((Tree.kids t).length : Int) : Int) * (((frW (Tree.kids y_1) : Int) : Int) + (frK (Tree.kids y_1) : Int))))) ∧ ((LoopWp (A95 N [1, 1, 0, 0, 1, 1, 1, 1, 1, 1, 1, 0, 1, 1, 0, 1, 0, 0]) (head95_1 t ((1 : Int) + ((((Tree.kids t).length : Int) : Int) * (((frW (Tree.kids y_1) : Int) : Int) + (frK (Tree.kids y_1) : Int)))) 0) (AExit.inBlock 1 (S95 N [1, 1, 0, 0, 1, 1, 1, 1, 1, 1, 1, 0, 1, 1, 1] (AExit.inBlock 0 (S95 N [1, 1, 1] Q)))))))) ∧ ((((Tree.kind t) : Int) == 9) = false → (LoopWp (A95 N [1, 1, 1, 0, 1, 0, 0]) (head95_0 t 0 0) (AExit.inBlock 3 (S95 N [1, 1, 1, 1] Q)))))))))))))) :
    A95 N [] (⟨[(0, .agg [.int .i64 (Tree.kind t), .slice (U := U) .u64 (Tree.words t) .unk, .slice (U := U) .tree (Tree.kids t) .unk])], [], []⟩ : LSt U) Q :=
  (Eq.mpr (by kernel_rfl) (h _ (reTree_eq _)) :)
theorem vc95_l0 (N : Nat) (t : Tree) (x3 : Int) (x80 : Int) (N0 : LSt U → Prop) (Q : AExit → LSt U → Prop) (h : (((decide ((x80 : Int) < ((Tree.kids t).length : Int))) = true → ((0 : Int) ≤ x80 ∧ x80 < ((Tree.kids t).length : Int)) ∧ ((pre95 ((Tree.mk (Tree.kind (List.getD (Tree.kids t) (Int.toNat x80) Tree.nil)) (Tree.words (List.getD (Tree.kids t) (Int.toNat x80) Tree.nil)) (Tree.kids (List.getD (Tree.kids t) (Int.toNat x80) Tree.nil))), ())) ∧ (mu95 ((Tree.mk (Tree.kind (List.getD (Tree.kids t) (Int.toNat x80) Tree.nil)) (Tree.words (List.getD (Tree.kids t) (Int.toNat x80) Tree.nil)) (Tree.kids (List.getD (Tree.kids t) (Int.toNat x80) Tree.nil))), ()) < N) ∧ (InR ((x3 : Int) + (sizeN (Tree.mk (Tree.kind (List.getD (Tree.kids t) (Int.toNat x80) Tree.nil)) (Tree.words (List.getD (Tree.kids t) (Int.toNat x80) Tree.nil)) (Tree.kids (List.getD (Tree.kids t) (Int.toNat x80) Tree.nil))) : Int))) ∧ ((InR ((x80 : Int) + 1)) ∧ (N0 (head95_0 t ((x3 : Int) + (sizeN (Tree.mk (Tree.kind (List.getD (Tree.kids t) (Int.toNat x80) Tree.nil)) (Tree.words (List.getD (Tree.kids t) (Int.toNat x80) Tree.nil)) (Tree.kids (List.getD (Tree.kids t) (Int.toNat x80) Tree.nil))) : Int)) ((x80 : Int) + 1)))))) ∧ ((decide ((x80 : Int) < ((Tree.kids t).length : Int))) = false → (Q .ret (⟨[(2, .c (.int .i64 x3))], [], []⟩ : LSt U))))) :
    A95 N [1, 1, 1, 0, 1, 0, 0] (head95_0 t x3 x80) (AExit.then N0 (AExit.inBlock 3 (S95 N [1, 1, 1, 1] Q))) :=
  (Eq.mpr (by kernel_rfl) h :)
theorem vc95_l1 (N : Nat) (t : Tree) (x3_a : Int) (x59_a : Int) (N1 : LSt U → Prop) (Q : AExit → LSt U → Prop) (h : ∀ y_1, y_1 = (List.getD (Tree.kids t) (Int.toNat x59_a) Tree.nil) → ∀ y_2, y_2 = (y_1) → (((decide ((x59_a : Int) < ((Tree.kids t).length : Int))) = true → ((0 : Int) ≤ x59_a ∧ x59_a < ((Tree.kids t).length : Int)) ∧ ((pre95 (y_2, ())) ∧ (mu95 (y_2, ()) < N) ∧ (InR (((sizeN y_2 : Int) : Int) - ((Tree.words y_1).length : Int))) ∧ (InR (((((sizeN y_2 : Int) : Int) - ((Tree.words y_1).length : Int)) : Int) - ((Tree.kids y_1).length : Int))) ∧ (InR ((x3_a : Int) + (((((sizeN y_2 : Int) : Int) - ((Tree.words y_1).length : Int)) : Int) - ((Tree.kids y_1).length : Int)))) ∧ ((InR ((x59_a : Int) + 1)) ∧ (N1 (head95_1 t ((x3_a : Int) + (((((sizeN y_2 : Int) : Int) - ((Tree.words y_1).length : Int)) : Int) - ((Tree.kids y_1).length : Int))) ((x59_a : Int) + 1)))))) ∧ ((decide ((x59_a : Int) < ((Tree.kids t).length : Int))) = false → (Q .ret (⟨[(2, .c (.int .i64 x3_a))], [], []⟩ : LSt U))))) :
    A95 N [1, 1, 0, 0, 1, 1, 1, 1, 1, 1, 1, 0, 1, 1, 0, 1, 0, 0] (head95_1 t x3_a x59_a) (AExit.then N1 (AExit.inBlock 1 (S95 N [1, 1, 0, 0, 1, 1, 1, 1, 1, 1, 1, 0, 1, 1, 1] (AExit.inBlock 0 (S95 N [1, 1, 1] Q))))) :=
  (Eq.mpr (by kernel_rfl) (h _ rfl _ (reTree_eq _)) :)
abbrev Body95 (N : Nat) (t : Tree)  : Prop := awp cfg (know (know95 N)) (drawOk cfg (know (know95 N))) Try.f95.ntmps lv95 (cd Try.f95 []) (entry (args95.can (t, ())) []) (EndsQ cfg Try.f95.ntmps Try.f95.results.toList (res95 (t, ())) [])
theorem make95 (c119 : Contract Try.prog cfg 119 spec119) (c118 : Contract Try.prog cfg 118 spec118) (c107 : Contract Try.prog cfg 107 spec107) (hb : ∀ (N : Nat) (t : Tree) (_ : Unit), pre95 (t, ()) → mu95 (t, ()) < N + 1 → Body95 N t) : Contract Try.prog cfg 95 spec95 :=
  contract_rec (μ := mu95) (l := [(119, spec119), (118, spec118), (107, spec107)]) cfgOk rfl (⟨c119, c118, c107, trivial⟩) lv95 Try.func95 rfl rfl 1 (fun _ => rfl) (by decide) (fun N ⟨t, _⟩ => hb N t ())
noncomputable def know73 : List (FuncId × Fs U) := [(72, spec72), (95, spec95)]
def lv73 : Lives U := fun i => match i with
  | 0 => ([(1, [])], [((.loc 1), [])])
  | 1 => ([(2, [])], [])
  | _ => ([], [])
noncomputable abbrev A73 (p : List Nat) := awp cfg (know know73) (drawOk cfg (know know73)) Try.f73.ntmps lv73 (cd Try.f73 p)
theorem vc73 (t : Tree) (Q : AExit → LSt U → Prop) (h : ((pre72 ((Tree.mk (Tree.kind t) (Tree.words t) (Tree.kids t)), ())) ∧ (pre95 ((Tree.mk (Tree.kind (normT (Tree.mk (Tree.kind t) (Tree.words t) (Tree.kids t)))) (Tree.words (normT (Tree.mk (Tree.kind t) (Tree.words t) (Tree.kids t)))) (Tree.kids (normT (Tree.mk (Tree.kind t) (Tree.words t) (Tree.kids t))))), ())) ∧ (Q .ret (⟨[(2, .c (.int .i64 (sizeN (Tree.mk (Tree.kind (normT (Tree.mk (Tree.kind t) (Tree.words t) (Tree.kids t)))) (Tree.words (normT (Tree.mk (Tree.kind t) (Tree.words t) (Tree.kids t)))) (Tree.kids (normT (Tree.mk (Tree.kind t) (Tree.words t) (Tree.kids t))))) : Int)))], [], []⟩ : LSt U)))) :
    A73 [] (⟨[(0, .agg [.int .i64 (Tree.kind t), .slice (U := U) .u64 (Tree.words t) .unk, .slice (U := U) .tree (Tree.kids t) .unk])], [], []⟩ : LSt U) Q :=
  (Eq.mpr (by kernel_rfl) h :)
abbrev Body73 (t : Tree)  : Prop := awp cfg (know (know73)) (drawOk cfg (know (know73))) Try.f73.ntmps lv73 (cd Try.f73 []) (entry (args73.can (t, ())) []) (EndsQ cfg Try.f73.ntmps Try.f73.results.toList (res73 (t, ())) [])
theorem make73 (c72 : Contract Try.prog cfg 72 spec72) (c95 : Contract Try.prog cfg 95 spec95) (hb : ∀ (t : Tree) (_ : Unit), pre73 (t, ()) → Body73 t) : Contract Try.prog cfg 73 spec73 :=
  contract_flat (l := [(72, spec72), (95, spec95)]) cfgOk rfl (⟨c72, c95, trivial⟩) lv73 Try.func73 rfl rfl 1 (fun _ => rfl) (by decide) (fun ⟨t, _⟩ => hb t ())
noncomputable def know75 : List (FuncId × Fs U) := []
def lv75 : Lives U := fun i => match i with
  | 0 => ([(0, []), (1, [])], [((.x 0), [.wr .u64])])
  | 1 => ([(0, []), (1, []), (5, [])], [((.x 0), [.wr .u64])])
  | 2 => ([(5, [])], [((.x 0), [.wr .u64])])
  | 3 => ([(4, [])], [((.x 0), [.wr .u64])])
  | _ => ([], [])
noncomputable abbrev A75 (p : List Nat) := awp cfg (know know75) (drawOk cfg (know know75)) Try.f75.ntmps lv75 (cd Try.f75 p)
theorem vc75 (l : List Int) (n : Int) (Q : AExit → LSt U → Prop) (h : ((((0 : Int) ≤ n ∧ ((l.length : Int) + n) * ((8 : Nat) : Int) ≤ 140737488355328) ∧ ((Q .ret (⟨[(4, .c (.int .i64 (l.length : Int)))], [((.x 0), [.mref (.x 0 0)])], [(.x 0 0, LC.mk (U := U) .u64 (l ++ List.replicate (Int.toNat n) (0 : Int)) 0)]⟩ : LSt U)))))) :
    A75 [] (⟨[(0, .ptr (.x 0) 0), (1, .c (.int .i64 n))], [((.x 0), [.mref (.x 0 0)])], [(.x 0 0, LC.mk (U := U) .u64 l 0)]⟩ : LSt U) Q :=
  (Eq.mpr (by kernel_rfl) h :)
abbrev Body75 (l : List Int) (n : Int)  : Prop := awp cfg (know (know75)) (drawOk cfg (know (know75))) Try.f75.ntmps lv75 (cd Try.f75 []) (entryL (args75.can ((l, ()), n, ())) (args75.canX ((l, ()), n, ())) (args75.canL ((l, ()), n, ()))) (EndsQL cfg Try.f75.ntmps Try.f75.results.toList (res75 ((l, ()), n, ())) (resX75 ((l, ()), n, ())) (resL75 ((l, ()), n, ())))
theorem make75 (hb : ∀ (l : List Int) (n : Int) (_ : Unit), pre75 ((l, ()), n, ()) → Body75 l n) : Contract Try.prog cfg 75 spec75 :=
  contractXL_flat (l := []) cfgOk rfl (trivial) lv75 Try.func75 rfl rfl 2 (fun _ => rfl) (by decide) (fun ⟨⟨l, _⟩, n, _⟩ => hb l n ())
noncomputable def know1075 : List (FuncId × Fs U) := []
def lv1075 : Lives U := fun i => match i with
  | 0 => ([(0, []), (1, [])], [((.x 0), [.wr .u64])])
  | 1 => ([(0, []), (1, []), (5, [])], [((.x 0), [.wr .u64])])
  | 2 => ([(5, [])], [((.x 0), [.wr .u64])])
  | 3 => ([(4, [])], [((.x 0), [.wr .u64])])
  | _ => ([], [])
noncomputable abbrev A1075 (p : List Nat) := awp cfg (know know1075) (drawOk cfg (know know1075)) Try.f75.ntmps lv1075 (cd Try.f75 p)
theorem vc1075 (l : List Int) (n : Int) (Q : AExit → LSt U → Prop) (h : ((((0 : Int) ≤ n ∧ ((l.length : Int) + n) * ((8 : Nat) : Int) ≤ 140737488355328) ∧ ((Q .ret (⟨[(4, .c (.int .i64 (l.length : Int)))], [((.x 0), [.mref (.x 0 0)])], [(.x 0 0, LC.mk (U := U) .u64 (l ++ List.replicate (Int.toNat n) (0 : Int)) l.length)]⟩ : LSt U)))))) :
    A1075 [] (⟨[(0, .ptr (.x 0) 0), (1, .c (.int .i64 n))], [((.x 0), [.slice (U := U) .u64 l (.own (.x 0 0))])], []⟩ : LSt U) Q :=
  (Eq.mpr (by kernel_rfl) h :)
abbrev Body1075 (l : List Int) (n : Int)  : Prop := awp cfg (know (know1075)) (drawOk cfg (know (know1075))) Try.f75.ntmps lv1075 (cd Try.f75 []) (entryL (args1075.can ((l, ()), n, ())) (args1075.canX ((l, ()), n, ())) (args1075.canL ((l, ()), n, ()))) (EndsQL cfg Try.f75.ntmps Try.f75.results.toList (res1075 ((l, ()), n, ())) (resX1075 ((l, ()), n, ())) (resL1075 ((l, ()), n, ())))
theorem make1075 (hb : ∀ (l : List Int) (n : Int) (_ : Unit), pre1075 ((l, ()), n, ()) → Body1075 l n) : Contract Try.prog cfg 75 spec1075 :=
  contractXL_flat (l := []) cfgOk rfl (trivial) lv1075 Try.func75 rfl rfl 2 (fun _ => rfl) (by decide) (fun ⟨⟨l, _⟩, n, _⟩ => hb l n ())
noncomputable def know96 : List (FuncId × Fs U) := [(120, spec120)]
def lv96 : Lives U := fun i => match i with
  | 0 => ([(0, []), (1, []), (2, []), (7, [])], [((.loc 7), []), ((.x 0), [.wr .u64])])
  | 1 => ([(0, []), (1, []), (7, [])], [((.loc 7), []), ((.x 0), [.wr .u64])])
  | 2 => ([(0, []), (1, []), (7, []), (26, [])], [((.loc 7), []), ((.x 0), [.wr .u64])])
  | 3 => ([(0, []), (1, []), (7, [])], [((.loc 7), []), ((.x 0), [.wr .u64])])
  | 4 => ([(0, []), (1, []), (9, []), (10, [])], [((.x 0), [.wr .u64])])
  | 5 => ([(10, [])], [((.x 0), [.wr .u64])])
  | 6 => ([(8, [])], [((.x 0), [.wr .u64])])
  | _ => ([], [])
noncomputable abbrev A96 (p : List Nat) := awp cfg (know know96) (drawOk cfg (know know96)) Try.f96.ntmps lv96 (cd Try.f96 p)
theorem vc96 (l : List Int) (at_ : Int) (to : Int) (p : Ptr) (Q : AExit → LSt U → Prop) (h : ∀ y_1, y_1 = (Ptr.mk (Ptr.kind p) (-1) (Ptr.data p) (Ptr.ptrs p) (Ptr.code p) (Ptr.count p) (Ptr.segment p) (Ptr.double p)) → ∀ y_2, y_2 = (Ptr.mk (Ptr.kind p) ((((to : Int) - at_) : Int) - 1) (Ptr.data p) (Ptr.ptrs p) (Ptr.code p) (Ptr.count p) (Ptr.segment p) (Ptr.double p)) → ((InR ((to : Int) - at_)) ∧ (InR ((((to : Int) - at_) : Int) - 1)) ∧ ((Tr ((((Ptr.kind p) : Int) == 1) = true)) ∧ (Tr ((((Ptr.kind p) : Int) == 1) = true)) ∧ (Tr ((((Ptr.kind p) : Int) == 1) = true)) ∧ (Tr ((((Ptr.kind p) : Int) == 1) = true)) ∧ ((((Ptr.kind p) : Int) == 1) = true → InR (((Ptr.data p) : Int) + (Ptr.ptrs p))) ∧ (Tr ((((Ptr.kind p) : Int) == 1) = true)) ∧ ((Tr ((((Ptr.kind p) : Int) == 1) = true))) ∧ (((bif (((Ptr.kind p) : Int) == 1) then (((((Ptr.data p) : Int) + (Ptr.ptrs p)) : Int) == 0) else false) = true → ((pre120 (y_1, ())) ∧ (((0 : Int) ≤ at_ ∧ at_ < (l.length : Int)) ∧ ((0 : Nat) ≤ (Int.toNat at_)) ∧ ((Q .ret (⟨[(8, .c (.bool (eqP (decP (encW y_1)) y_1 && !decide (Ptr.kind y_1 = 4))))], [((.x 0), [.mref (.x 0 0)])], [(.x 0 0, LC.mk (U := U) .u64 (List.set l (Int.toNat at_) (encW y_1)) 0)]⟩ : LSt U)))))) ∧ ((bif (((Ptr.kind p) : Int) == 1) then (((((Ptr.data p) : Int) + (Ptr.ptrs p)) : Int) == 0) else false) = false → (pre120 (y_2, ())) ∧ (((0 : Int) ≤ at_ ∧ at_ < (l.length : Int)) ∧ ((0 : Nat) ≤ (Int.toNat at_)) ∧ ((Q .ret (⟨[(8, .c (.bool (eqP (decP (encW y_2)) y_2 && !decide (Ptr.kind y_2 = 4))))], [((.x 0), [.mref (.x 0 0)])], [(.x 0 0, LC.mk (U := U) .u64 (List.set l (Int.toNat at_) (encW y_2)) 0)]⟩ : LSt U))))))))) :
    A96 [] (⟨[(0, .ptr (.x 0) 0), (1, .c (.int .i64 at_)), (2, .c (.int .i64 to)), (3, .agg [.int .i64 (Ptr.kind p), .int .i64 (Ptr.off p), .int .i64 (Ptr.data p), .int .i64 (Ptr.ptrs p), .int .i64 (Ptr.code p), .int .i64 (Ptr.count p), .int .i64 (Ptr.segment p), .bool (Ptr.double p)])], [((.x 0), [.mref (.x 0 0)])], [(.x 0 0, LC.mk (U := U) .u64 l 0)]⟩ : LSt U) Q :=
  (Eq.mpr (by kernel_rfl) (h _ rfl _ rfl) :)
abbrev Body96 (l : List Int) (at_ : Int) (to : Int) (p : Ptr)  : Prop := awp cfg (know (know96)) (drawOk cfg (know (know96))) Try.f96.ntmps lv96 (cd Try.f96 []) (entryL (args96.can ((l, ()), at_, to, p, ())) (args96.canX ((l, ()), at_, to, p, ())) (args96.canL ((l, ()), at_, to, p, ()))) (EndsQL cfg Try.f96.ntmps Try.f96.results.toList (res96 ((l, ()), at_, to, p, ())) (resX96 ((l, ()), at_, to, p, ())) (resL96 ((l, ()), at_, to, p, ())))
theorem make96 (c120 : Contract Try.prog cfg 120 spec120) (hb : ∀ (l : List Int) (at_ : Int) (to : Int) (p : Ptr) (_ : Unit), pre96 ((l, ()), at_, to, p, ()) → Body96 l at_ to p) : Contract Try.prog cfg 96 spec96 :=
  contractXL_flat (l := [(120, spec120)]) cfgOk rfl (⟨c120, trivial⟩) lv96 Try.func96 rfl rfl 4 (fun _ => rfl) (by decide) (fun ⟨⟨l, _⟩, at_, to, p, _⟩ => hb l at_ to p ())
end Go.AM.Ythokdjgpdonhgaa

namespace Go.AM.Ythokdjgpdonhgaa
open Go.AM Go.Proofs
theorem fr_snoc : ∀ (a : List Tree) (t : Tree), frW (a ++ [t]) = max (frW a) t.words.length ∧ frK (a ++ [t]) = max (frK a) t.kids.length
  | [], t => by simp [frW, frK]
  | x :: r, t => by
    obtain ⟨h1, h2⟩ := fr_snoc r t
    rw [List.cons_append, frW, frK, h1, h2, frW, frK]
    omega
theorem takeI {ks : List Tree} {i : Int} (h0 : 0 ≤ i) (h : i < ks.length) : ks.take (i + 1).toNat = ks.take i.toNat ++ [ks.getD i.toNat Tree.nil] := by
  rw [show (i + 1).toNat = i.toNat + 1 by omega]
  exact take_snoc (by omega)
theorem fr_take {ks : List Tree} {i : Int} (h0 : 0 ≤ i) (h : i < ks.length) : frW (ks.take (i + 1).toNat) = max (frW (ks.take i.toNat)) (ks.getD i.toNat Tree.nil).words.length ∧ frK (ks.take (i + 1).toNat) = max (frK (ks.take i.toNat)) (ks.getD i.toNat Tree.nil).kids.length := by
  rw [takeI h0 h]
  exact fr_snoc _ _
theorem kids_le (t : Tree) : t.words.length + t.kids.length + 1 ≤ mass t := by
  obtain ⟨k, w, ks⟩ := t
  rw [mass]
  have := fr_mass ks
  show w.length + ks.length + 1 ≤ _
  omega
theorem c119 : Contract Try.prog cfg 119 spec119 := by
  refine make119 ?_
  intro t _ hp
  simp only [pre119] at hp
  have hk := kids_le t
  refine vc119 _ _ ?_
  refine loop_rule (ι := Int × Int × Int) (fun p => head119_0 t p.1 p.2.1 p.2.2) (fun p => 0 ≤ p.2.2 ∧ p.2.2 ≤ t.kids.length ∧ p.1 = frW (t.kids.take p.2.2.toNat) ∧ p.2.1 = frK (t.kids.take p.2.2.toNat)) (fun p => ((t.kids.length : Int) - p.2.2).toNat) (0, 0, 0) rfl ⟨by dsimp only; omega, by dsimp only; omega, rfl, rfl⟩ ?_
  rintro ⟨w, k, i⟩ ⟨h1, h2, h3, h4⟩
  dsimp only at h1 h2 h3 h4
  refine vc119_l0 _ _ _ _ _ _ ?_
  (simp only [vcT, vcS])
  refine ⟨fun hi => ⟨⟨h1, hi⟩, by ((unfold InR; omega)), (if w < ((t.kids.getD i.toNat Tree.nil).words.length : Int) then ((t.kids.getD i.toNat Tree.nil).words.length : Int) else w, if k < ((t.kids.getD i.toNat Tree.nil).kids.length : Int) then ((t.kids.getD i.toNat Tree.nil).kids.length : Int) else k, i + 1), rfl, ⟨by dsimp only; omega, by dsimp only; omega, ?_, ?_⟩, by dsimp only; omega⟩, fun hi => ?_⟩
  · dsimp only
    rw [(fr_take h1 hi).1, h3]
    split <;> omega
  · dsimp only
    rw [(fr_take h1 hi).2, h4]
    split <;> omega
  · have e : i = t.kids.length := by omega
    subst e
    rw [Int.toNat_natCast, List.take_length] at h3 h4
    subst h3 h4
    (repeat' (first | exact trivial | exact rfl | apply And.intro))
theorem c82 : Contract Try.prog cfg 82 spec82 := by
  refine make82 ?_
  intro t _ hp
  simp only [pre82] at hp
  have hk := kids_le t
  refine vc82 _ _ ?_
  refine loop_rule (ι := Int × Int × Int) (fun p => head82_0 t p.1 p.2.1 p.2.2) (fun p => 0 ≤ p.2.2 ∧ p.2.2 ≤ t.kids.length ∧ p.1 = frW (t.kids.take p.2.2.toNat) ∧ p.2.1 = frK (t.kids.take p.2.2.toNat)) (fun p => ((t.kids.length : Int) - p.2.2).toNat) (0, 0, 0) rfl ⟨by dsimp only; omega, by dsimp only; omega, rfl, rfl⟩ ?_
  rintro ⟨w, k, i⟩ ⟨h1, h2, h3, h4⟩
  dsimp only at h1 h2 h3 h4
  have fin : ∀ (hi : i < t.kids.length) {w' k' : Int}, w' = frW (t.kids.take (i + 1).toNat) → k' = frK (t.kids.take (i + 1).toNat) →
      InR (i + 1) ∧ ∃ p : Int × Int × Int, head82_0 t w' k' (i + 1) = head82_0 t p.1 p.2.1 p.2.2 ∧ (0 ≤ p.2.2 ∧ p.2.2 ≤ t.kids.length ∧ p.1 = frW (t.kids.take p.2.2.toNat) ∧ p.2.1 = frK (t.kids.take p.2.2.toNat)) ∧ ((t.kids.length : Int) - p.2.2).toNat < ((t.kids.length : Int) - i).toNat :=
    fun hi w' k' e1 e2 => ⟨by ((unfold InR; omega)), (w', k', i + 1), rfl, ⟨by dsimp only; omega, by dsimp only; omega, e1, e2⟩, by dsimp only; omega⟩
  refine vc82_l0 _ _ _ _ _ _ ?_
  (simp only [vcT, vcS])
  refine ⟨fun hi => ⟨⟨h1, hi⟩, fun hc => ⟨⟨h1, hi⟩, ?_⟩, fun hc => ?_⟩, fun hi => ?_⟩
  · refine vc82_c1 _ _ _ _ _ _ _ ?_
    (simp only [vcT, vcS])
    exact ⟨⟨h1, hi⟩, fun hd => ⟨⟨h1, hi⟩, vc82_c2 _ _ _ _ _ _ _ (fin hi (by rw [(fr_take h1 hi).1]; omega) (by rw [(fr_take h1 hi).2]; omega))⟩, fun hd => vc82_c2 _ _ _ _ _ _ _ (fin hi (by rw [(fr_take h1 hi).1]; omega) (by rw [(fr_take h1 hi).2]; omega))⟩
  · refine vc82_c1 _ _ _ _ _ _ _ ?_
    (simp only [vcT, vcS])
    exact ⟨⟨h1, hi⟩, fun hd => ⟨⟨h1, hi⟩, vc82_c2 _ _ _ _ _ _ _ (fin hi (by rw [(fr_take h1 hi).1]; omega) (by rw [(fr_take h1 hi).2]; omega))⟩, fun hd => vc82_c2 _ _ _ _ _ _ _ (fin hi (by rw [(fr_take h1 hi).1]; omega) (by rw [(fr_take h1 hi).2]; omega))⟩
  · have e : i = t.kids.length := by omega
    subst e
    rw [Int.toNat_natCast, List.take_length] at h3 h4
    subst h3 h4
    (repeat' (first | exact trivial | exact rfl | apply And.intro))
theorem c123 : Contract Try.prog cfg 123 spec123 := by
  refine make123 ?_
  intro n _ _
  refine vc123 _ _ ?_
  (simp only [vcT, vcS])
  refine ends_bool rfl ?_
  by_cases h1 : -536870912 ≤ n <;> by_cases h2 : n < 536870912 <;> simp [h1, h2]
theorem wrap_u32 (n : Int) : IntKind.wrap .u32 n = n % 4294967296 := by
  simp [IntKind.wrap, IntKind.signed, IntKind.bits]
theorem or_sum32 {x y : Int} {a : Nat} (hx : 0 ≤ x) (hx' : x < 2 ^ a) (hy : 0 ≤ y) (hs : x + y * 2 ^ a < 4294967296) :
    IntKind.wrap .u32 (BitVec.ofInt (IntKind.bits .u32) (y * 2 ^ a) ||| BitVec.ofInt (IntKind.bits .u32) x).toNat = x + y * 2 ^ a := by
  have hp := pow2_pos a
  have h1 : 0 ≤ y * 2 ^ a := Int.mul_nonneg hy (Int.le_of_lt hp)
  have e : ∀ z : Int, 0 ≤ z → z < 4294967296 → (BitVec.ofInt (IntKind.bits .u32) z).toNat = z.toNat := by
    intro z z0 z1
    simp [IntKind.bits]
    omega
  rw [BitVec.toNat_or, e x hx (by omega), e _ h1 (by omega), wrap_u32]
  obtain ⟨m, rfl⟩ := Int.eq_ofNat_of_zero_le hx
  obtain ⟨n, rfl⟩ := Int.eq_ofNat_of_zero_le hy
  have hpn : (2 : Int) ^ a = ((2 ^ a : Nat) : Int) := by simp
  rw [hpn] at hx' hs ⊢
  have hm : m < 2 ^ a := by omega
  have hor : n * 2 ^ a ||| m = m + n * 2 ^ a := by
    have h := Nat.two_pow_add_eq_or_of_lt hm n
    rw [Nat.mul_comm n, ← h, Nat.add_comm]
  rw [← Int.natCast_mul, Int.toNat_natCast, Int.toNat_natCast, hor]
  push_cast
  push_cast at hs
  omega
theorem c125 : Contract Try.prog cfg 125 spec125 := by
  refine make125 ?_
  intro o k _ hp
  obtain ⟨hk0, hk⟩ := hp
  dsimp only at hk0 hk
  refine vc125 _ _ _ ⟨by decide, ends_int rfl ?_⟩
  show _ = 4 * (o % 1073741824) + k
  have e1 : IntKind.wrap .u32 (IntKind.wrap .u32 o * 2 ^ (min (Int.toNat 2) (IntKind.bits .u32))) = o % 1073741824 * 2 ^ 2 := by
    rw [wrap_u32, wrap_u32, show (2 : Int) ^ (min (Int.toNat 2) (IntKind.bits .u32)) = 4 from rfl, show (2 : Int) ^ 2 = 4 from rfl]
    omega
  have e2 : IntKind.wrap .u32 k = k := by rw [wrap_u32]; omega
  rw [e1, e2, or_sum32 hk0 (by rw [show (2 : Int) ^ 2 = 4 from rfl]; omega) (by omega) (by rw [show (2 : Int) ^ 2 = 4 from rfl]; omega), show (2 : Int) ^ 2 = 4 from rfl, wrap_u64 (by omega) (by omega)]
  omega
end Go.AM.Ythokdjgpdonhgaa

namespace Go.AM.Ythokdjgpdonhgaa
open Go.AM Go.Proofs
theorem shl64 {d k : Int} (n : Nat) (hk : min (Int.toNat k) (IntKind.bits .u64) = n) (h0 : 0 ≤ d) (h1 : d < 18446744073709551616) (h2 : d * 2 ^ n < 18446744073709551616) : IntKind.wrap .u64 (IntKind.wrap .u64 d * 2 ^ (min (Int.toNat k) (IntKind.bits .u64))) = d * 2 ^ n := by
  rw [hk, wrap_u64 h0 h1]
  exact wrap_u64 (Int.mul_nonneg h0 (Int.le_of_lt (pow2_pos n))) h2
theorem encW_rng (p : Ptr) : 0 ≤ encW p ∧ encW p < 18446744073709551616 := by
  unfold encW
  have h0 := Int.emod_nonneg p.off (show (1073741824 : Int) ≠ 0 by decide)
  have h1 := Int.emod_lt_of_pos p.off (show (0 : Int) < 1073741824 by decide)
  repeat' split
  all_goals omega
theorem c120 : Contract Try.prog cfg 120 spec120 := by
  refine make120 c123 c124 c125 c86 ?_
  intro p _ hp
  simp only [pre120] at hp
  have hr := encW_rng p
  have o0 := Int.emod_nonneg p.off (show (1073741824 : Int) ≠ 0 by decide)
  have o1 := Int.emod_lt_of_pos p.off (show (0 : Int) < 1073741824 by decide)
  have fin : ∀ {x : Int} {v1 v2 v3 v4 v5 : V U}, x = encW p → A120 [1, 1, 1] (head120_0 p x v1 v2 v3 v4 v5) (EndsQ cfg Try.f120.ntmps Try.f120.results.toList (res120 (p, ())) []) := by
    intro x v1 v2 v3 v4 v5 hx
    refine vc120_c0 _ _ _ _ _ _ _ _ ?_
    refine ⟨by subst hx; exact hr, fun h => h, fun h => h, fun h => h, ?_⟩
    refine ends_eq (r' := .tup [(false, [.int .u64 x]), (false, [.bool (bif eqP (decP x) p then (p.kind != 4) else false)])]) ?_ (by (repeat' (first | exact trivial | exact rfl | apply And.intro)))
    simp only [res120]
    subst hx
    cases eqP (decP (encW p)) p <;> rfl
  have e32 : min (Int.toNat 32) (IntKind.bits .u64) = 32 := rfl
  have e48 : min (Int.toNat 48) (IntKind.bits .u64) = 48 := rfl
  have e35 : min (Int.toNat 35) (IntKind.bits .u64) = 35 := rfl
  have q32 : (2 : Int) ^ 32 = 4294967296 := rfl
  have q48 : (2 : Int) ^ 48 = 281474976710656 := rfl
  have q35 : (2 : Int) ^ 35 = 34359738368 := rfl
  refine vc120 _ _ ?_
  (simp only [vcT, vcS])
  refine ⟨fun k1 => ⟨trivial, fun _ => trivial, fun _ => trivial, fun c => ⟨⟨by dsimp only; omega, by dsimp only; omega⟩, by decide, by decide, fin ?_⟩, fun c => fin ?_⟩, fun k1 => ⟨fun k2 => ⟨trivial, fun _ => trivial, fun _ => trivial, fun c => ⟨⟨by dsimp only; omega, by dsimp only; omega⟩, by decide, by decide, fin ?_⟩, fun c => fin ?_⟩, fun k2 => by rcases hp with h | h; exact absurd h k1; exact absurd h k2⟩⟩
  · obtain ⟨⟨c1, c2⟩, c3⟩ := c
    rw [shl64 32 e32 (by omega) (by omega) (by omega), shl64 48 e48 (by omega) (by omega) (by omega), or_sum (x := 4 * (p.off % 1073741824) + 0) (y := p.data) (a := 32) (by omega) (by omega) (by omega) (by omega), or_sum (y := p.ptrs) (a := 48) (by omega) (by omega) (by omega) (by omega)]
    unfold encW
    rw [if_pos k1, if_pos ⟨c1, c2, c3⟩]
    omega
  · unfold encW
    rw [if_pos k1, if_neg (by omega)]
  · obtain ⟨⟨c1, c2⟩, c3⟩ := c
    rw [shl64 32 e32 (by omega) (by omega) (by omega), shl64 35 e35 (by omega) (by omega) (by omega), or_sum (x := 4 * (p.off % 1073741824) + 1) (y := p.code) (a := 32) (by omega) (by omega) (by omega) (by omega), or_sum (y := p.count) (a := 35) (by omega) (by omega) (by omega) (by omega)]
    unfold encW
    rw [if_neg k1, if_pos k2, if_pos ⟨c1, c2, c3⟩]
    omega
  · unfold encW
    rw [if_neg k1, if_pos k2, if_neg (by omega)]
theorem c75 : Contract Try.prog cfg 75 spec75 := by
  refine make75 ?_
  intro l n _ hp
  obtain ⟨h1, h2, h3⟩ := hp
  dsimp only at h1 h2 h3
  refine vc75 _ _ _ ⟨⟨h2, by dsimp only; omega⟩, ?_⟩
  (repeat' (first | exact trivial | exact rfl | apply And.intro))
theorem c1075 : Contract Try.prog cfg 75 spec1075 := by
  refine make1075 ?_
  intro l n _ hp
  obtain ⟨h1, h2, h3⟩ := hp
  dsimp only at h1 h2 h3
  subst h1
  refine vc1075 _ _ _ ⟨⟨h2, by simp; omega⟩, ?_⟩
  (repeat' (first | exact trivial | exact rfl | apply And.intro))
theorem c96 : Contract Try.prog cfg 96 spec96 := by
  refine make96 c120 ?_
  intro l a to p _ hp
  obtain ⟨⟨h1, h2, h3, h4⟩, hk⟩ := hp
  dsimp only at h1 h2 h3 h4 hk
  have he := pnt_enc hk h1 h3 (by omega) (by omega)
  have kk : p.kind = 1 ∨ p.kind = 2 := by rcases hk.1 with h | h; exact .inl h.1; exact .inr h.1
  have hb : ∀ y, y = pntP a to p → (eqP (decP (encW y)) y && !decide (y.kind = 4)) = true ∧ encW y = pntW a to p := by
    rintro y rfl
    rw [he.2, eqP_self, he.1]
    refine ⟨?_, rfl⟩
    have : (pntP a to p).kind = p.kind := rfl
    rw [this]
    simp only [Bool.true_and, Bool.not_eq_true', decide_eq_false_iff_not]
    omega
  refine vc96 _ _ _ _ _ ?_
  intro y1 e1 y2 e2
  (simp only [vcT, vcS])
  refine ⟨by ((unfold InR; omega)), by ((unfold InR; omega)), fun h => ?_, fun h => ⟨?_, ⟨h1, h2⟩, Nat.zero_le _, ?_⟩, fun h => ⟨?_, ⟨h1, h2⟩, Nat.zero_le _, ?_⟩⟩
  · rcases hk.1 with g | g <;> ((unfold InR; omega))
  · subst e1; exact kk
  · obtain ⟨g1, g2⟩ := hb y1 (by rw [e1]; unfold pntP; rw [if_pos h])
    rw [g1, g2]
    (repeat' (first | exact trivial | exact rfl | apply And.intro))
  · subst e2; exact kk
  · obtain ⟨g1, g2⟩ := hb y2 (by rw [e2]; unfold pntP; rw [if_neg (by omega)])
    rw [g1, g2]
    (repeat' (first | exact trivial | exact rfl | apply And.intro))
theorem sizeK_app : ∀ a b : List Tree, sizeK (a ++ b) = sizeK a + sizeK b
  | [], b => by simp [sizeK]
  | t :: r, b => by rw [List.cons_append, sizeK, sizeK, sizeK_app r b]; omega
theorem sizeR_app : ∀ a b : List Tree, sizeR (a ++ b) = sizeR a + sizeR b
  | [], b => by simp [sizeR]
  | .mk _ _ ks :: r, b => by rw [List.cons_append, sizeR, sizeR, sizeR_app r b]; omega
theorem sizeK_take {ks : List Tree} {i : Int} (h0 : 0 ≤ i) (h : i < ks.length) : sizeK (ks.take (i + 1).toNat) = sizeK (ks.take i.toNat) + sizeN (ks.getD i.toNat Tree.nil) := by
  rw [takeI h0 h, sizeK_app, sizeK, sizeK]; rfl
theorem sizeR_take {ks : List Tree} {i : Int} (h0 : 0 ≤ i) (h : i < ks.length) : sizeR (ks.take (i + 1).toNat) = sizeR (ks.take i.toNat) + sizeK (ks.getD i.toNat Tree.nil).kids := by
  rw [takeI h0 h, sizeR_app]
  cases ks.getD i.toNat Tree.nil
  rw [sizeR, sizeR]; rfl
theorem sizeK_take_le (ks : List Tree) (n : Nat) : sizeK (ks.take n) ≤ sizeK ks := by
  conv => rhs; rw [← List.take_append_drop n ks, sizeK_app]
  omega
theorem sizeR_take_le (ks : List Tree) (n : Nat) : sizeR (ks.take n) ≤ sizeR ks := by
  conv => rhs; rw [← List.take_append_drop n ks, sizeR_app]
  omega
theorem kid_mass {t : Tree} {i : Nat} (h : i < t.kids.length) : mass (t.kids.getD i Tree.nil) + 1 ≤ mass t := by
  obtain ⟨k, w, ks⟩ := t
  have := mem_getD (l := ks) h Tree.nil
  have hm : ∀ {l : List Tree} {x : Tree}, x ∈ l → mass x ≤ massK l := by
    intro l
    induction l with
    | nil => intro x hx; cases hx
    | cons y l ih =>
      intro x hx
      rw [massK]
      rcases List.mem_cons.1 hx with rfl | hx
      · omega
      · have := ih hx; omega
  have := hm this
  rw [mass]
  show mass (ks.getD i Tree.nil) + 1 ≤ _
  omega
theorem size_le {t : Tree} (h : mass t ≤ 1000000) : sizeN t ≤ 1000000000000 := Nat.le_trans (size_mass t) (Nat.le_trans (Nat.mul_le_mul h h) (by decide))
theorem c54 : Contract Try.prog cfg 54 spec54 := by
  refine make54 c82 c57 ?_
  intro N t _ hp hN
  simp only [pre54] at hp
  have hN : mass t < N + 1 := hN
  have hk := kids_le t
  have hs := size_le hp
  have hK := sizeK_mass t.kids
  have low : ∀ {x : Int} {v : V U}, x + sizeK t.kids = sizeN t → 0 ≤ x → A54 N [1, 1, 1] (head54_0 t x v) (EndsQ cfg Try.f54.ntmps Try.f54.results.toList (res54 (t, ())) []) := by
    intro x v hx h0
    refine vc54_c0 _ _ _ _ _ ?_
    refine loop_rule (ι := Int × Int) (fun p => head54_2 t p.1 p.2) (fun p => 0 ≤ p.2 ∧ p.2 ≤ t.kids.length ∧ p.1 = x + sizeK (t.kids.take p.2.toNat)) (fun p => ((t.kids.length : Int) - p.2).toNat) (x, 0) rfl ⟨by dsimp only; omega, by dsimp only; omega, by simp [sizeK]⟩ ?_
    rintro ⟨s, i⟩ ⟨g1, g2, g3⟩
    dsimp only at g1 g2 g3
    refine vc54_l2 _ _ _ _ _ _ ?_
    (simp only [vcT, vcS])
    simp only [Tree.eta]
    refine ⟨fun hi => ?_, fun hi => ?_⟩
    · have hm := kid_mass (t := t) (i := i.toNat) (by omega)
      have ht := sizeK_take g1 hi
      have hl := sizeK_take_le t.kids (i + 1).toNat
      have q1 : mass (t.kids.getD i.toNat Tree.nil) ≤ 1000000 := by omega
      have q2 : mass (t.kids.getD i.toNat Tree.nil) < N := by omega
      exact ⟨⟨g1, hi⟩, q1, q2, by ((unfold InR; omega)), by ((unfold InR; omega)), (s + sizeN (t.kids.getD i.toNat Tree.nil), i + 1), rfl, ⟨by dsimp only; omega, by dsimp only; omega, by dsimp only; omega⟩, by dsimp only; omega⟩
    · have e : i = t.kids.length := by omega
      subst e
      rw [Int.toNat_natCast, List.take_length] at g3
      exact ends_int rfl (by show s = (sizeN t : Int); omega)
  have esz : sizeN t = if t.kind = 1 then t.words.length + t.kids.length + sizeK t.kids else if t.kind = 8 then t.kids.length + sizeK t.kids else if t.kind = 9 then 1 + t.kids.length * (frW t.kids + frK t.kids) + sizeR t.kids
      else if 2 ≤ t.kind ∧ t.kind ≤ 7 then (roomW (t.kind - 2) t.kids.length).toNat else sizeK t.kids := by
    obtain ⟨k, w, ks⟩ := t
    rw [sizeN]; rfl
  have mid : ∀ {b : Bool}, (b = true → 2 ≤ t.kind ∧ t.kind ≤ 7) → (b = false → t.kind ≠ 1 ∧ t.kind ≠ 8 ∧ ¬(2 ≤ t.kind ∧ t.kind ≤ 7)) → A54 N [1, 1, 0, 1, 0, 1, 1, 1, 1, 1] (head54_1 t b) (AExit.inBlock 0 (S54 N [1, 1, 1] (EndsQ cfg Try.f54.ntmps Try.f54.results.toList (res54 (t, ())) []))) := by
    intro b hb hb'
    refine vc54_c1 _ _ _ _ ?_
    (simp only [vcT, vcS])
    simp only [Tree.eta]
    refine ⟨fun h => ?_, fun h => ⟨fun h9 => ?_, fun h9 => ?_⟩⟩
    · have := hb h
      refine ⟨by ((unfold InR; omega)), trivial, ends_int rfl ?_⟩
      show roomW _ _ = (sizeN t : Int)
      have hr : 0 ≤ roomW (t.kind - 2) t.kids.length := by
        unfold roomW
        split
        · omega
        · rcases wd_div (t.kind - 2) with e | e | e | e | e | e
          · omega
          all_goals (rw [e]; omega)
      rw [esz, if_neg (by omega), if_neg (by omega), if_neg (by omega), if_pos this]
      omega
    · rw [if_neg (by omega), if_neg (by omega), if_pos h9] at esz
      have hf := fr_mass t.kids
      have hmk : massK t.kids ≤ mass t := by obtain ⟨k, w, ks⟩ := t; rw [mass]; show massK ks ≤ _; omega
      obtain ⟨P, hP⟩ : ∃ P, P = t.kids.length * (frW t.kids + frK t.kids) := ⟨_, rfl⟩
      have hPI : (t.kids.length : Int) * ((frW t.kids : Int) + frK t.kids) = P := by rw [hP, Int.natCast_mul, Int.natCast_add]
      rw [← hP] at esz
      rw [hPI]
      refine ⟨hp, by ((unfold InR; omega)), by ((unfold InR; omega)), by ((unfold InR; omega)), ?_⟩
      refine loop_rule (ι := Int × Int) (fun p => head54_3 t p.1 p.2) (fun p => 0 ≤ p.1 ∧ p.1 ≤ t.kids.length ∧ p.2 = 1 + (P : Int) + sizeR (t.kids.take p.1.toNat)) (fun p => ((t.kids.length : Int) - p.1).toNat) (0, 1 + (P : Int)) rfl ⟨by dsimp only; omega, by dsimp only; omega, ?_⟩ ?_
      · simp [sizeR]
      rintro ⟨i, s⟩ ⟨g1, g2, g3⟩
      dsimp only at g1 g2 g3
      refine vc54_l3 _ _ _ _ _ _ ?_
      (simp only [vcT, vcS])
      refine ⟨fun hi => ?_, fun hi => ?_⟩
      · have hm := kid_mass (t := t) (i := i.toNat) (by omega)
        have ht := sizeR_take g1 hi
        have hl := sizeR_take_le t.kids (i + 1).toNat
        refine loop_rule (ι := Int × Int) (fun p => head54_4 t i p.1 p.2) (fun p => 0 ≤ p.2 ∧ p.2 ≤ (t.kids.getD i.toNat Tree.nil).kids.length ∧ p.1 = s + sizeK ((t.kids.getD i.toNat Tree.nil).kids.take p.2.toNat)) (fun p => (((t.kids.getD i.toNat Tree.nil).kids.length : Int) - p.2).toNat) (s, 0) rfl ⟨by dsimp only; omega, by dsimp only; omega, by simp [sizeK]⟩ ?_
        rintro ⟨s2, j⟩ ⟨f1, f2, f3⟩
        dsimp only at f1 f2 f3
        refine vc54_l4 _ _ _ _ _ _ _ _ ?_
        rintro y1 rfl y2 rfl y3 rfl
        (simp only [vcT, vcS])
        refine ⟨⟨g1, hi⟩, fun hj => ?_, fun hj => ?_⟩
        · have hm2 := kid_mass (t := t.kids.getD i.toNat Tree.nil) (i := j.toNat) (by omega)
          have hk2 := kids_le (t.kids.getD i.toNat Tree.nil)
          have ht2 := sizeK_take f1 hj
          have hl2 := sizeK_take_le (t.kids.getD i.toNat Tree.nil).kids (j + 1).toNat
          have q1 : mass ((t.kids.getD i.toNat Tree.nil).kids.getD j.toNat Tree.nil) ≤ 1000000 := by omega
          have q2 : mass ((t.kids.getD i.toNat Tree.nil).kids.getD j.toNat Tree.nil) < N := by omega
          exact ⟨⟨g1, hi⟩, ⟨f1, hj⟩, q1, q2, by ((unfold InR; omega)), by ((unfold InR; omega)), (s2 + sizeN ((t.kids.getD i.toNat Tree.nil).kids.getD j.toNat Tree.nil), j + 1), rfl, ⟨by dsimp only; omega, by dsimp only; omega, by dsimp only; omega⟩, by dsimp only; omega⟩
        · have e : j = (t.kids.getD i.toNat Tree.nil).kids.length := by omega
          subst e
          rw [Int.toNat_natCast, List.take_length] at f3
          exact ⟨by ((unfold InR; omega)), (i + 1, s2), rfl, ⟨by dsimp only; omega, by dsimp only; omega, by dsimp only; omega⟩, by dsimp only; omega⟩
      · have e : i = t.kids.length := by omega
        subst e
        rw [Int.toNat_natCast, List.take_length] at g3
        exact ends_int rfl (by show s = (sizeN t : Int); omega)
    · have := hb' h
      refine low ?_ (Int.le_refl _)
      rw [esz, if_neg (by omega), if_neg (by omega), if_neg h9, if_neg this.2.2]
      omega
  refine vc54 _ _ _ ?_
  (simp only [vcT, vcS])
  refine ⟨fun h => ⟨by ((unfold InR; omega)), low (by rw [esz, if_pos h]; omega) (by omega)⟩, fun h1 => ⟨fun h => low (by rw [esz, if_neg h1, if_pos h]; omega) (by omega), fun h8 => ⟨fun h => mid ?_ ?_, fun n2 => ⟨fun h => mid ?_ ?_, fun n3 => ⟨fun h => mid ?_ ?_, fun n4 => ⟨fun h => mid ?_ ?_, fun n5 => ⟨fun h => mid ?_ ?_, fun n6 => mid ?_ ?_⟩⟩⟩⟩⟩⟩⟩
  all_goals first | (intro hh; have := eq_of_beq hh; omega) | (intro hh; have := ne_of_beq_false hh; omega)
theorem c95 : Contract Try.prog cfg 95 spec95 := by
  refine make95 c119 c118 c107 ?_
  intro N t _ hp hN
  obtain ⟨hp, d, hr⟩ := hp
  dsimp only at hp hr
  have hN : mass t < N + 1 := hN
  have hk := kids_le t
  have hs := size_le hp
  have rt : RiT t.kind t.words t.kids d := riT (by rw [Tree.eta]; exact hr)
  have esz : sizeN t = if t.kind = 1 then t.words.length + t.kids.length + sizeK t.kids else if t.kind = 8 then t.kids.length + sizeK t.kids else if t.kind = 9 then 1 + t.kids.length * (frW t.kids + frK t.kids) + sizeR t.kids
      else if 2 ≤ t.kind ∧ t.kind ≤ 7 then (roomW (t.kind - 2) t.kids.length).toNat else sizeK t.kids := by
    obtain ⟨k, w, ks⟩ := t
    rw [sizeN]; rfl
  have low : ∀ {x : Int} {K : AExit → LSt U → Prop}, x + sizeK t.kids = sizeN t → 0 ≤ x → (∀ s : LSt U, K .ret s = EndsQ cfg Try.f95.ntmps Try.f95.results.toList (res95 (t, ())) [] .ret s) → True := fun _ _ _ => trivial
  have loopL : ∀ {x : Int}, x + sizeK t.kids = sizeN t → 0 ≤ x → LoopWp (A95 N [1, 1, 1, 0, 1, 0, 0]) (head95_0 t x 0) (AExit.inBlock 3 (S95 N [1, 1, 1, 1] (EndsQ cfg Try.f95.ntmps Try.f95.results.toList (res95 (t, ())) []))) := by
    intro x hx h0
    refine loop_rule (ι := Int × Int) (fun p => head95_0 t p.1 p.2) (fun p => 0 ≤ p.2 ∧ p.2 ≤ t.kids.length ∧ p.1 = x + sizeK (t.kids.take p.2.toNat)) (fun p => ((t.kids.length : Int) - p.2).toNat) (x, 0) rfl ⟨by dsimp only; omega, by dsimp only; omega, by simp [sizeK]⟩ ?_
    rintro ⟨s, i⟩ ⟨g1, g2, g3⟩
    dsimp only at g1 g2 g3
    refine vc95_l0 _ _ _ _ _ _ ?_
    (simp only [vcT, vcS])
    simp only [Tree.eta]
    refine ⟨fun hi => ?_, fun hi => ?_⟩
    · have hm := kid_mass (t := t) (i := i.toNat) (by omega)
      have ht := sizeK_take g1 hi
      have hl := sizeK_take_le t.kids (i + 1).toNat
      have q1 : mass (t.kids.getD i.toNat Tree.nil) ≤ 1000000 := by omega
      have q2 : mass (t.kids.getD i.toNat Tree.nil) < N := by omega
      exact ⟨⟨g1, hi⟩, ⟨q1, _, (rt.kids _ (mem_getD (by omega) _)).1⟩, q2, by ((unfold InR; omega)), by ((unfold InR; omega)), (s + sizeN (t.kids.getD i.toNat Tree.nil), i + 1), rfl, ⟨by dsimp only; omega, by dsimp only; omega, by dsimp only; omega⟩, by dsimp only; omega⟩
    · have e : i = t.kids.length := by omega
      subst e
      rw [Int.toNat_natCast, List.take_length] at g3
      exact ends_int rfl (by show s = (sizeN t : Int); omega)
  refine vc95 _ _ _ ?_
  rintro y1 rfl
  (simp only [vcT, vcS])
  refine ⟨fun h => ⟨by ((unfold InR; omega)), loopL (by rw [esz, if_pos h]; omega) (by omega)⟩, fun h1 => ⟨fun h => loopL (by rw [esz, if_neg h1, if_pos h]; omega) (by omega), fun h8 => ⟨trivial, fun h => ?_, fun h27 => ⟨fun h9 => ?_, fun h9 => loopL (by rw [esz, if_neg h1, if_neg h8, if_neg h9, if_neg h27]; omega) (Int.le_refl _)⟩⟩⟩⟩
  · refine ⟨by ((unfold InR; omega)), trivial, ends_int rfl ?_⟩
    show roomW _ _ = (sizeN y1 : Int)
    have hr : 0 ≤ roomW (y1.kind - 2) y1.kids.length := by
      unfold roomW
      split
      · omega
      · rcases wd_div (y1.kind - 2) with e | e | e | e | e | e
        · omega
        all_goals (rw [e]; omega)
    rw [esz, if_neg (by omega), if_neg (by omega), if_neg (by omega), if_pos h]
    omega
  · rw [if_neg (by omega), if_neg (by omega), if_pos h9] at esz
    have hf := fr_mass y1.kids
    have hmk : massK y1.kids ≤ mass y1 := by obtain ⟨k, w, ks⟩ := y1; rw [mass]; show massK ks ≤ _; omega
    obtain ⟨P, hP⟩ : ∃ P, P = y1.kids.length * (frW y1.kids + frK y1.kids) := ⟨_, rfl⟩
    have hPI : (y1.kids.length : Int) * ((frW y1.kids : Int) + frK y1.kids) = P := by rw [hP, Int.natCast_mul, Int.natCast_add]
    rw [← hP] at esz
    rw [hPI]
    refine ⟨hp, by ((unfold InR; omega)), by ((unfold InR; omega)), by ((unfold InR; omega)), ?_⟩
    refine loop_rule (ι := Int × Int) (fun p => head95_1 y1 p.1 p.2) (fun p => 0 ≤ p.2 ∧ p.2 ≤ y1.kids.length ∧ p.1 = 1 + (P : Int) + sizeR (y1.kids.take p.2.toNat)) (fun p => ((y1.kids.length : Int) - p.2).toNat) (1 + (P : Int), 0) rfl ⟨by dsimp only; omega, by dsimp only; omega, ?_⟩ ?_
    · simp [sizeR]
    rintro ⟨s, i⟩ ⟨g1, g2, g3⟩
    dsimp only at g1 g2 g3
    refine vc95_l1 _ _ _ _ _ _ ?_
    rintro y2 rfl y3 rfl
    (simp only [vcT, vcS])
    refine ⟨fun hi => ?_, fun hi => ?_⟩
    · have hm := kid_mass (t := y1) (i := i.toNat) (by omega)
      have ht := sizeR_take g1 hi
      have hl := sizeR_take_le y1.kids (i + 1).toNat
      have hmem := mem_getD (l := y1.kids) (i := i.toNat) (by omega) Tree.nil
      have hk1 := (rt.kids _ hmem).2.2.2 h9
      have hkr := (rt.kids _ hmem).1
      generalize y1.kids.getD i.toNat Tree.nil = y at *
      have ey : sizeN y = y.words.length + y.kids.length + sizeK y.kids := by
        obtain ⟨k, w, ks⟩ := y
        have hk1 : k = 1 := hk1
        rw [sizeN, if_pos hk1]; rfl
      have q1 : mass y ≤ 1000000 := by omega
      have qs := size_le q1
      have hs' : sizeN y1 ≤ 1000000000000 := hs
      have q2 : mass y < N := by omega
      exact ⟨⟨g1, hi⟩, ⟨q1, _, hkr⟩, q2, by ((unfold InR; omega)), by ((unfold InR; omega)), by ((unfold InR; omega)), by ((unfold InR; omega)), (s + ((sizeN y : Int) - y.words.length - y.kids.length), i + 1), rfl, ⟨by dsimp only; omega, by dsimp only; omega, by dsimp only; omega⟩, by dsimp only; omega⟩
    · have e : i = y1.kids.length := by omega
      subst e
      rw [Int.toNat_natCast, List.take_length] at g3
      exact ends_int rfl (by show s = (sizeN y1 : Int); omega)
theorem c73 : Contract Try.prog cfg 73 spec73 := by
  refine make73 c72 c95 ?_
  intro t _ hp
  obtain ⟨hp, d, hr⟩ := hp
  dsimp only at hp hr
  have hm := normT_mass t
  refine vc73 _ _ ?_
  simp only [Tree.eta]
  exact ⟨by show mass t ≤ _; omega, ⟨by dsimp only; omega, d, rightT_norm t d hr⟩, ends_int rfl rfl⟩
end Go.AM.Ythokdjgpdonhgaa

namespace Go.AM.Ythokdjgpdonhgaa
open Go.AM Go.Proofs
theorem fs_conv {f : FuncId} {α : Type} {A : ArgL α} {pre pre' : α → Prop} {res res' : α → V U} (h : Contract Try.prog cfg f (fs A (fun a => [pre a]) res)) (hh : ∀ a, pre' a → pre a ∧ res a = res' a) : Contract Try.prog cfg f (fs A (fun a => [pre' a]) res') := by
  refine contract_mk h.1 rfl ?_
  intro args X ps r X' hs hps
  unfold fs at hs
  simp only at hs
  split at hs
  · split at hs
    · rename_i a ha
      cases hs
      obtain ⟨h1, h2⟩ := hh a hps.1
      rw [← h2]
      exact h.one rfl args [] [pre a] _ [] (by unfold fs; simp only [ha]) ⟨h1, trivial⟩
    · cases hs
  · cases hs
def pre1101 (a : Int × List Int × Unit) : Prop := (okW a.2.1 ∧ a.2.1.length ≤ 1099511627776) ∧ fitsA a.1 a.2.1 = true
noncomputable def res1101 (a : Int × List Int × Unit) : V U := .tup [(false, [.slice (U := U) .u64 (putW a.1 a.2.1) .unk]), (false, [.bool true])]
noncomputable def spec1101 : Fs U := fs args101 (fun a => [pre1101 a]) res1101
theorem c1101 : Contract Try.prog cfg 101 spec1101 := fs_conv c101 fun a h => ⟨h.1, by
  unfold res101 res1101
  rw [h.2]
  unfold putR
  rw [if_pos h.2]⟩
end Go.AM.Ythokdjgpdonhgaa
