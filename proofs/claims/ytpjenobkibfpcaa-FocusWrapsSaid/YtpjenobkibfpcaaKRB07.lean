import Derived.Test.YtpjenobkibfpcaaKB07
set_option linter.unusedSimpArgs false
set_option linter.unusedVariables false
namespace Go.AM.Ytpjenobkibfpcaa
open Go.AM Go.Proofs
abbrev TrKR07G (p : Prop) : Prop := p → p
noncomputable section
def args116 : ArgL (Int × Unit) := (.cons (aInt .i64) .nil)
def pre116 (a : Int × Unit) : Prop := True
noncomputable def res116 (a : Int × Unit) : V U := .c (.int .i64 (wd a.1))
noncomputable def spec116 : Fs U := fs args116 (fun a => [pre116 a]) res116
def args79 : ArgL (Int × Int × Unit) := (.cons (aInt .i64) (.cons (aInt .u64) .nil))
def pre79 (a : Int × Int × Unit) : Prop := 0 ≤ a.2.1 ∧ a.2.1 < 18446744073709551616
noncomputable def res79 (a : Int × Int × Unit) : V U := .c (.bool (fits a.1 a.2.1))
noncomputable def spec79 : Fs U := fs args79 (fun a => [pre79 a]) res79
def args194 : ArgL (Int × Unit) := (.cons (aInt .i64) .nil)
def pre194 (a : Int × Unit) : Prop := True
noncomputable def res194 (a : Int × Unit) : V U := .tup [(false, [.int .i64 (if wd a.1 < 0 then 0 else wd a.1)]), (false, [.bool (decide (0 ≤ wd a.1))])]
noncomputable def spec194 : Fs U := fs args194 (fun a => [pre194 a]) res194
def args183 : ArgL (Int × Int × Unit) := (.cons (aInt .i64) (.cons (aInt .u64) .nil))
def pre183 (a : Int × Int × Unit) : Prop := 0 ≤ a.2.1 ∧ a.2.1 < 18446744073709551616
noncomputable def res183 (a : Int × Int × Unit) : V U := .c (.bool (fits a.1 a.2.1))
noncomputable def spec183 : Fs U := fs args183 (fun a => [pre183 a]) res183
def args92 : ArgL (Int × Unit) := (.cons (aInt .i64) .nil)
def pre92 (a : Int × Unit) : Prop := True
noncomputable def res92 (a : Int × Unit) : V U := .c (.bool (decide (2 ≤ a.1 ∧ a.1 ≤ 9)))
noncomputable def spec92 : Fs U := fs args92 (fun a => [pre92 a]) res92
def args120 : ArgL (Int × Unit) := (.cons (aInt .i64) .nil)
def pre120 (a : Int × Unit) : Prop := True
noncomputable def res120 (a : Int × Unit) : V U := .c (.bool (decide (2 ≤ a.1 ∧ a.1 ≤ 7)))
noncomputable def spec120 : Fs U := fs args120 (fun a => [pre120 a]) res120
def args162 : ArgL (Int × Tree × Unit) := (.cons (aInt .i64) (.cons (aEl .tree) .nil))
def pre162 (a : Int × Tree × Unit) : Prop := rng a.2.1
noncomputable def res162 (a : Int × Tree × Unit) : V U := .c (.bool (kidB a.1 a.2.1))
noncomputable def spec162 : Fs U := fs args162 (fun a => [pre162 a]) res162
def args117 : ArgL (Tree × Int × Unit) := (.cons (aEl .tree) (.cons (aInt .i64) .nil))
def pre117 (a : Tree × Int × Unit) : Prop := mass a.1 ≤ 20000000000 ∧ rng a.1 ∧ 0 ≤ a.2.1 ∧ a.2.1 ≤ 1000
def mu117 (a : Tree × Int × Unit) : Nat := mass a.1
noncomputable def res117 (a : Tree × Int × Unit) : V U := .c (.bool (rightT a.1 a.2.1))
noncomputable def spec117 : Fs U := fs args117 (fun a => [pre117 a]) res117
def args80 : ArgL (Tree × Unit) := (.cons (aEl .tree) .nil)
def pre80 (a : Tree × Unit) : Prop := mass a.1 ≤ 20000000000 ∧ rng a.1
noncomputable def res80 (a : Tree × Unit) : V U := .c (.bool (rightT a.1 64))
noncomputable def spec80 : Fs U := fs args80 (fun a => [pre80 a]) res80
def args37 : ArgL (Tree × Int × Unit) := (.cons (aEl .tree) (.cons (aInt .i64) .nil))
def pre37 (a : Tree × Int × Unit) : Prop := mass a.1 ≤ 20000000000 ∧ rng a.1 ∧ 0 ≤ a.2.1 ∧ a.2.1 ≤ 1000
def mu37 (a : Tree × Int × Unit) : Nat := mass a.1
noncomputable def res37 (a : Tree × Int × Unit) : V U := .c (.bool (rightT a.1 a.2.1))
noncomputable def spec37 : Fs U := fs args37 (fun a => [pre37 a]) res37
noncomputable def know116 : List (FuncId × Fs U) := []
def lv116 : Lives U := fun i => match i with
  | 0 => ([(0, [])], [])
  | 1 => ([(3, [])], [])
  | 2 => ([(3, []), (4, [])], [])
  | 3 => ([(2, [])], [])
  | 4 => ([(3, []), (6, [])], [])
  | 5 => ([(2, [])], [])
  | 6 => ([(3, []), (8, [])], [])
  | 7 => ([(2, [])], [])
  | 8 => ([(3, []), (10, [])], [])
  | 9 => ([(2, [])], [])
  | 10 => ([(3, []), (12, [])], [])
  | 11 => ([(2, [])], [])
  | 12 => ([(14, [])], [])
  | 13 => ([(2, [])], [])
  | 14 => ([(2, [])], [])
  | _ => ([], [])
theorem vc116 (c : Int) (Q : AExit → LSt U → Prop) (h : (((c : Int) == 0) = true → Q .ret (⟨[(2, .c (.int .i64 0))], [], []⟩ : LSt U)) ∧ (((c : Int) == 0) = false → (((c : Int) == 1) = true → Q .ret (⟨[(2, .c (.int .i64 1))], [], []⟩ : LSt U)) ∧ (((c : Int) == 1) = false → (((c : Int) == 2) = true → Q .ret (⟨[(2, .c (.int .i64 8))], [], []⟩ : LSt U)) ∧ (((c : Int) == 2) = false → (((c : Int) == 3) = true → Q .ret (⟨[(2, .c (.int .i64 16))], [], []⟩ : LSt U)) ∧ (((c : Int) == 3) = false → (((c : Int) == 4) = true → Q .ret (⟨[(2, .c (.int .i64 32))], [], []⟩ : LSt U)) ∧ (((c : Int) == 4) = false → (((c : Int) == 5) = true → Q .ret (⟨[(2, .c (.int .i64 64))], [], []⟩ : LSt U)) ∧ (((c : Int) == 5) = false → Q .ret (⟨[(2, .c (.int .i64 (-1)))], [], []⟩ : LSt U)))))))) :
    awp cfg (know know116) (drawOk cfg (know know116)) Try.f116.ntmps lv116 (cd Try.f116 []) (⟨[(0, .c (.int .i64 c))], [], []⟩ : LSt U) Q := by
  have e : (awp cfg (know know116) (drawOk cfg (know know116)) Try.f116.ntmps lv116 (cd Try.f116 []) (⟨[(0, .c (.int .i64 c))], [], []⟩ : LSt U) Q) = (((((((c : Int) == 0) = true → (Q .ret (⟨[(2, .c (.int .i64 0))], [], []⟩ : LSt U))) ∧ (((c : Int) == 0) = false → ((((c : Int) == 1) = true → (Q .ret (⟨[(2, .c (.int .i64 1))], [], []⟩ : LSt U))) ∧ (((c : Int) == 1) = false → ((((c : Int) == 2) = true → (Q .ret (⟨[(2, .c (.int .i64 8))], [], []⟩ : LSt U))) ∧ (((c : Int) == 2) = false → ((((c : Int) == 3) = true → (Q .ret (⟨[(2, .c (.int .i64 16))], [], []⟩ : LSt U))) ∧ (((c : Int) == 3) = false → ((((c : Int) == 4) = true → (Q .ret (⟨[(2, .c (.int .i64 32))], [], []⟩ : LSt U))) ∧ (((c : Int) == 4) = false → ((((c : Int) == 5) = true → (Q .ret (⟨[(2, .c (.int .i64 64))], [], []⟩ : LSt U))) ∧ (((c : Int) == 5) = false → (Q .ret (⟨[(2, .c (.int .i64 (-1)))], [], []⟩ : LSt U))))))))))))))))) := by kernel_rfl
  exact e.mpr ⟨fun c_1 => (h.1 c_1), fun c_1 => ⟨fun c_2 => ((h.2 c_1).1 c_2), fun c_2 => ⟨fun c_3 => (((h.2 c_1).2 c_2).1 c_3), fun c_3 => ⟨fun c_4 => ((((h.2 c_1).2 c_2).2 c_3).1 c_4), fun c_4 => ⟨fun c_5 => (((((h.2 c_1).2 c_2).2 c_3).2 c_4).1 c_5), fun c_5 => ⟨fun c_6 => ((((((h.2 c_1).2 c_2).2 c_3).2 c_4).2 c_5).1 c_6), fun c_6 => ((((((h.2 c_1).2 c_2).2 c_3).2 c_4).2 c_5).2 c_6)⟩⟩⟩⟩⟩⟩
def Body116 (c : Int)  : Prop := awp cfg (know (know116)) (drawOk cfg (know (know116))) Try.f116.ntmps lv116 (cd Try.f116 []) (entry (args116.can (c, ())) []) (EndsQ cfg Try.f116.ntmps Try.f116.results.toList (res116 (c, ())) [])
theorem make116 (hb : ∀ (c : Int) (_ : Unit), pre116 (c, ()) → Body116 c) : Contract Try.prog cfg 116 spec116 :=
  contract_flat (l := []) cfgOk rfl (trivial) lv116 Try.func116 rfl rfl 1 (fun _ => rfl) (by decide) (fun ⟨c, _⟩ => hb c ())
noncomputable def know79 : List (FuncId × Fs U) := [(116, spec116)]
def lv79 : Lives U := fun i => match i with
  | 0 => ([(0, []), (1, [])], [])
  | 1 => ([(1, []), (5, [])], [])
  | 2 => ([(1, []), (5, []), (10, [])], [])
  | 3 => ([(4, [])], [])
  | 4 => ([(1, []), (5, []), (6, [])], [])
  | 5 => ([(1, []), (5, []), (6, []), (13, [])], [])
  | 6 => ([(1, []), (5, []), (6, [])], [])
  | 7 => ([(1, []), (5, []), (6, [])], [])
  | 8 => ([(4, [])], [])
  | _ => ([], [])
def head79_0 (c : Int) (n : Int) (x1 : Int) (x6 : Int) : LSt U := (⟨[(1, .c (.int .u64 x1)), (5, .c (.int .i64 (wd c))), (6, .c (.int .i64 x6))], [], []⟩ : LSt U)
abbrev a79_KR07G := awp cfg (know know79) (drawOk cfg (know know79)) Try.f79.ntmps lv79
abbrev s79_KR07G := seqK cfg (know know79) (drawOk cfg (know know79)) Try.f79.ntmps lv79
theorem vc79 (c : Int) (n : Int) (Q : AExit → LSt U → Prop) (h : (pre116 (c, ())) ∧ (((decide (((wd c) : Int) < 0)) = true → Q .ret (⟨[(4, .c (.bool false))], [], []⟩ : LSt U)) ∧ ((decide (((wd c) : Int) < 0)) = false → LoopWp (awp cfg (know know79) (drawOk cfg (know know79)) Try.f79.ntmps lv79 (cd Try.f79 [1, 1, 1, 0, 1, 0, 0])) (head79_0 c n n 0) (AExit.inBlock 0 (seqK cfg (know know79) (drawOk cfg (know know79)) Try.f79.ntmps lv79 (cd Try.f79 [1, 1, 1, 1]) Q))))) :
    awp cfg (know know79) (drawOk cfg (know know79)) Try.f79.ntmps lv79 (cd Try.f79 []) (⟨[(0, .c (.int .i64 c)), (1, .c (.int .u64 n))], [], []⟩ : LSt U) Q := by
  have e : (awp cfg (know know79) (drawOk cfg (know know79)) Try.f79.ntmps lv79 (cd Try.f79 []) (⟨[(0, .c (.int .i64 c)), (1, .c (.int .u64 n))], [], []⟩ : LSt U) Q) = (((pre116 (c, ())) ∧ ((((decide (((wd c) : Int) < 0)) = true → (Q .ret (⟨[(4, .c (.bool false))], [], []⟩ : LSt U))) ∧ ((decide (((wd c) : Int) < 0)) = false → (LoopWp (a79_KR07G (cd Try.f79 [1, 1, 1, 0, 1, 0, 0])) (head79_0 c n n 0) (AExit.inBlock 0 (s79_KR07G (cd Try.f79 [1, 1, 1, 1]) Q)))))))) := by kernel_rfl
  exact e.mpr ⟨h.1, ⟨fun c_7 => (h.2.1 c_7), fun c_7 => (h.2.2 c_7)⟩⟩
theorem vc79_l0 (c : Int) (n : Int) (x1 : Int) (x6 : Int) (N0 : LSt U → Prop) (Q : AExit → LSt U → Prop) (h : ((decide ((x6 : Int) < (wd c))) = true → ((2 : Int) ≠ 0) ∧ ((InR ((x6 : Int) + 1)) ∧ (N0 (head79_0 c n (IntKind.wrap .u64 (Int.tdiv x1 2)) ((x6 : Int) + 1))))) ∧ ((decide ((x6 : Int) < (wd c))) = false → Q .ret (⟨[(4, .c (.bool ((x1 : Int) == 0)))], [], []⟩ : LSt U))) :
    awp cfg (know know79) (drawOk cfg (know know79)) Try.f79.ntmps lv79 (cd Try.f79 [1, 1, 1, 0, 1, 0, 0]) (head79_0 c n x1 x6) (AExit.then N0 (AExit.inBlock 0 (seqK cfg (know know79) (drawOk cfg (know know79)) Try.f79.ntmps lv79 (cd Try.f79 [1, 1, 1, 1]) Q))) := by
  have e : (awp cfg (know know79) (drawOk cfg (know know79)) Try.f79.ntmps lv79 (cd Try.f79 [1, 1, 1, 0, 1, 0, 0]) (head79_0 c n x1 x6) (AExit.then N0 (AExit.inBlock 0 (seqK cfg (know know79) (drawOk cfg (know know79)) Try.f79.ntmps lv79 (cd Try.f79 [1, 1, 1, 1]) Q)))) = ((((decide ((x6 : Int) < (wd c))) = true → ((2 : Int) ≠ 0) ∧ ((InR ((x6 : Int) + 1)) ∧ (N0 (head79_0 c n (IntKind.wrap .u64 (Int.tdiv x1 2)) ((x6 : Int) + 1))))) ∧ ((decide ((x6 : Int) < (wd c))) = false → (Q .ret (⟨[(4, .c (.bool ((x1 : Int) == 0)))], [], []⟩ : LSt U))))) := by kernel_rfl
  exact e.mpr ⟨fun c_8 => ⟨(h.1 c_8).1, ⟨(h.1 c_8).2.1, (h.1 c_8).2.2⟩⟩, fun c_8 => (h.2 c_8)⟩
def Body79 (c : Int) (n : Int)  : Prop := awp cfg (know (know79)) (drawOk cfg (know (know79))) Try.f79.ntmps lv79 (cd Try.f79 []) (entry (args79.can (c, n, ())) []) (EndsQ cfg Try.f79.ntmps Try.f79.results.toList (res79 (c, n, ())) [])
theorem make79 (c116 : Contract Try.prog cfg 116 spec116) (hb : ∀ (c : Int) (n : Int) (_ : Unit), pre79 (c, n, ()) → Body79 c n) : Contract Try.prog cfg 79 spec79 :=
  contract_flat (l := [(116, spec116)]) cfgOk rfl (⟨c116, trivial⟩) lv79 Try.func79 rfl rfl 2 (fun _ => rfl) (by decide) (fun ⟨c, n, _⟩ => hb c n ())
noncomputable def know194 : List (FuncId × Fs U) := []
def lv194 : Lives U := fun i => match i with
  | 0 => ([(0, [])], [])
  | 1 => ([(0, []), (4, [])], [((.loc 4), [])])
  | 2 => ([(0, []), (4, []), (11, [])], [((.loc 4), [])])
  | 3 => ([(2, []), (3, [])], [])
  | 4 => ([(2, []), (3, [])], [])
  | _ => ([], [])
theorem vc194 (c : Int) (Q : AExit → LSt U → Prop) (h : ((bif (decide ((c : Int) < 0)) then true else (decide ((6 : Int) ≤ c))) = true → Q .ret (⟨[(2, .c (.int .i64 0)), (3, .c (.bool false))], [], []⟩ : LSt U)) ∧ ((bif (decide ((c : Int) < 0)) then true else (decide ((6 : Int) ≤ c))) = false → ((0 : Int) ≤ c ∧ c < ((6 : Nat) : Int)) ∧ (Q .ret (⟨[(2, .c (.int .i64 (List.getD [0, 1, 8, 16, 32, 64] (Int.toNat c) 0))), (3, .c (.bool true))], [], []⟩ : LSt U)))) :
    awp cfg (know know194) (drawOk cfg (know know194)) Try.f194.ntmps lv194 (cd Try.f194 []) (⟨[(0, .c (.int .i64 c))], [], []⟩ : LSt U) Q := by
  have e : (awp cfg (know know194) (drawOk cfg (know know194)) Try.f194.ntmps lv194 (cd Try.f194 []) (⟨[(0, .c (.int .i64 c))], [], []⟩ : LSt U) Q) = (let zz0 := (decide ((c : Int) < 0)); (((TrKR07G ((!zz0) = true)) ∧ ((zz0 = false → (!zz0) = true)) ∧ (((bif zz0 then true else (decide ((6 : Int) ≤ c))) = true → (Q .ret (⟨[(2, .c (.int .i64 0)), (3, .c (.bool false))], [], []⟩ : LSt U))) ∧ ((bif zz0 then true else (decide ((6 : Int) ≤ c))) = false → ((0 : Int) ≤ c ∧ c < ((6 : Nat) : Int)) ∧ (Q .ret (⟨[(2, .c (.int .i64 (List.getD [0, 1, 8, 16, 32, 64] (Int.toNat c) 0))), (3, .c (.bool true))], [], []⟩ : LSt U))))))) := by kernel_rfl
  exact e.mpr ⟨id, (by generalize (decide ((c : Int) < 0)) = b0; revert b0; decide), ⟨fun c_9 => (h.1 c_9), fun c_9 => ⟨(h.2 c_9).1, (h.2 c_9).2⟩⟩⟩
def Body194 (c : Int)  : Prop := awp cfg (know (know194)) (drawOk cfg (know (know194))) Try.f194.ntmps lv194 (cd Try.f194 []) (entry (args194.can (c, ())) []) (EndsQ cfg Try.f194.ntmps Try.f194.results.toList (res194 (c, ())) [])
theorem make194 (hb : ∀ (c : Int) (_ : Unit), pre194 (c, ()) → Body194 c) : Contract Try.prog cfg 194 spec194 :=
  contract_flat (l := []) cfgOk rfl (trivial) lv194 Try.func194 rfl rfl 1 (fun _ => rfl) (by decide) (fun ⟨c, _⟩ => hb c ())
noncomputable def know183 : List (FuncId × Fs U) := [(194, spec194)]
def lv183 : Lives U := fun i => match i with
  | 0 => ([(0, []), (1, [])], [])
  | 1 => ([(1, []), (5, []), (6, [])], [])
  | 2 => ([(4, [])], [])
  | _ => ([], [])
theorem vc183 (c : Int) (n : Int) (Q : AExit → LSt U → Prop) (h : (pre194 (c, ())) ∧ ((((decide (0 ≤ wd c)) && (!(((if wd c < 0 then 0 else wd c) : Int) == 64))) = true → (0 : Int) ≤ (if wd c < 0 then 0 else wd c)) ∧ (Q .ret (⟨[(4, .c (.bool (bif (decide (0 ≤ wd c)) then (bif (((if wd c < 0 then 0 else wd c) : Int) == 64) then true else (((Int.fdiv n (2 ^ (min (Int.toNat (if wd c < 0 then 0 else wd c)) (IntKind.bits .u64)))) : Int) == 0)) else false)))], [], []⟩ : LSt U)))) :
    awp cfg (know know183) (drawOk cfg (know know183)) Try.f183.ntmps lv183 (cd Try.f183 []) (⟨[(0, .c (.int .i64 c)), (1, .c (.int .u64 n))], [], []⟩ : LSt U) Q := by
  have e : (awp cfg (know know183) (drawOk cfg (know know183)) Try.f183.ntmps lv183 (cd Try.f183 []) (⟨[(0, .c (.int .i64 c)), (1, .c (.int .u64 n))], [], []⟩ : LSt U) Q) = (let zz0 := (((if wd c < 0 then 0 else wd c) : Int) == 64); ((pre194 (c, ())) ∧ ((TrKR07G ((decide (0 ≤ wd c)) = true)) ∧ (TrKR07G ((decide (0 ≤ wd c)) = true)) ∧ (TrKR07G (((decide (0 ≤ wd c)) && (!zz0)) = true)) ∧ (TrKR07G (((decide (0 ≤ wd c)) && (!zz0)) = true)) ∧ (((decide (0 ≤ wd c)) && (!zz0)) = true → (0 : Int) ≤ (if wd c < 0 then 0 else wd c)) ∧ (TrKR07G (((decide (0 ≤ wd c)) && (!zz0)) = true)) ∧ ((decide (0 ≤ wd c)) = true → (True → (decide (0 ≤ wd c)) = true)) ∧ ((decide (0 ≤ wd c)) = true → (zz0 = false → ((decide (0 ≤ wd c)) && (!zz0)) = true)) ∧ ((TrKR07G ((decide (0 ≤ wd c)) = true))) ∧ (Q .ret (⟨[(4, .c (.bool (bif (decide (0 ≤ wd c)) then (bif zz0 then true else (((Int.fdiv n (2 ^ (min (Int.toNat (if wd c < 0 then 0 else wd c)) (IntKind.bits .u64)))) : Int) == 0)) else false)))], [], []⟩ : LSt U))))) := by kernel_rfl
  exact e.mpr ⟨h.1, ⟨id, id, id, id, h.2.1, id, (by generalize (decide (0 ≤ wd c)) = b0; revert b0; decide), (by generalize (((if wd c < 0 then 0 else wd c) : Int) == 64) = b0; generalize (decide (0 ≤ wd c)) = b1; revert b0 b1; decide), (by generalize (decide (0 ≤ wd c)) = b0; revert b0; decide), h.2.2⟩⟩
def Body183 (c : Int) (n : Int)  : Prop := awp cfg (know (know183)) (drawOk cfg (know (know183))) Try.f183.ntmps lv183 (cd Try.f183 []) (entry (args183.can (c, n, ())) []) (EndsQ cfg Try.f183.ntmps Try.f183.results.toList (res183 (c, n, ())) [])
theorem make183 (c194 : Contract Try.prog cfg 194 spec194) (hb : ∀ (c : Int) (n : Int) (_ : Unit), pre183 (c, n, ()) → Body183 c n) : Contract Try.prog cfg 183 spec183 :=
  contract_flat (l := [(194, spec194)]) cfgOk rfl (⟨c194, trivial⟩) lv183 Try.func183 rfl rfl 2 (fun _ => rfl) (by decide) (fun ⟨c, n, _⟩ => hb c n ())
noncomputable def know92 : List (FuncId × Fs U) := []
def lv92 : Lives U := fun i => match i with
  | 0 => ([(0, [])], [])
  | 1 => ([(2, [])], [])
  | _ => ([], [])
theorem vc92 (k : Int) (Q : AExit → LSt U → Prop) (h : Q .ret (⟨[(2, .c (.bool (bif (decide ((2 : Int) ≤ k)) then (decide ((k : Int) ≤ 9)) else false)))], [], []⟩ : LSt U)) :
    awp cfg (know know92) (drawOk cfg (know know92)) Try.f92.ntmps lv92 (cd Try.f92 []) (⟨[(0, .c (.int .i64 k))], [], []⟩ : LSt U) Q := by
  have e : (awp cfg (know know92) (drawOk cfg (know know92)) Try.f92.ntmps lv92 (cd Try.f92 []) (⟨[(0, .c (.int .i64 k))], [], []⟩ : LSt U) Q) = (((TrKR07G ((decide ((2 : Int) ≤ k)) = true)) ∧ ((TrKR07G ((decide ((2 : Int) ≤ k)) = true))) ∧ (Q .ret (⟨[(2, .c (.bool (bif (decide ((2 : Int) ≤ k)) then (decide ((k : Int) ≤ 9)) else false)))], [], []⟩ : LSt U)))) := by kernel_rfl
  exact e.mpr ⟨id, (by generalize (decide ((2 : Int) ≤ k)) = b0; revert b0; decide), h⟩
def Body92 (k : Int)  : Prop := awp cfg (know (know92)) (drawOk cfg (know (know92))) Try.f92.ntmps lv92 (cd Try.f92 []) (entry (args92.can (k, ())) []) (EndsQ cfg Try.f92.ntmps Try.f92.results.toList (res92 (k, ())) [])
theorem make92 (hb : ∀ (k : Int) (_ : Unit), pre92 (k, ()) → Body92 k) : Contract Try.prog cfg 92 spec92 :=
  contract_flat (l := []) cfgOk rfl (trivial) lv92 Try.func92 rfl rfl 1 (fun _ => rfl) (by decide) (fun ⟨k, _⟩ => hb k ())
noncomputable def know120 : List (FuncId × Fs U) := []
def lv120 : Lives U := fun i => match i with
  | 0 => ([(0, [])], [])
  | 1 => ([(2, [])], [])
  | _ => ([], [])
theorem vc120 (k : Int) (Q : AExit → LSt U → Prop) (h : Q .ret (⟨[(2, .c (.bool (bif (decide ((2 : Int) ≤ k)) then (decide ((k : Int) ≤ 7)) else false)))], [], []⟩ : LSt U)) :
    awp cfg (know know120) (drawOk cfg (know know120)) Try.f120.ntmps lv120 (cd Try.f120 []) (⟨[(0, .c (.int .i64 k))], [], []⟩ : LSt U) Q := by
  have e : (awp cfg (know know120) (drawOk cfg (know know120)) Try.f120.ntmps lv120 (cd Try.f120 []) (⟨[(0, .c (.int .i64 k))], [], []⟩ : LSt U) Q) = (((TrKR07G ((decide ((2 : Int) ≤ k)) = true)) ∧ ((TrKR07G ((decide ((2 : Int) ≤ k)) = true))) ∧ (Q .ret (⟨[(2, .c (.bool (bif (decide ((2 : Int) ≤ k)) then (decide ((k : Int) ≤ 7)) else false)))], [], []⟩ : LSt U)))) := by kernel_rfl
  exact e.mpr ⟨id, (by generalize (decide ((2 : Int) ≤ k)) = b0; revert b0; decide), h⟩
def Body120 (k : Int)  : Prop := awp cfg (know (know120)) (drawOk cfg (know (know120))) Try.f120.ntmps lv120 (cd Try.f120 []) (entry (args120.can (k, ())) []) (EndsQ cfg Try.f120.ntmps Try.f120.results.toList (res120 (k, ())) [])
theorem make120 (hb : ∀ (k : Int) (_ : Unit), pre120 (k, ()) → Body120 k) : Contract Try.prog cfg 120 spec120 :=
  contract_flat (l := []) cfgOk rfl (trivial) lv120 Try.func120 rfl rfl 1 (fun _ => rfl) (by decide) (fun ⟨k, _⟩ => hb k ())
noncomputable def know162 : List (FuncId × Fs U) := [(120, spec120), (183, spec183)]
def lv162 : Lives U := fun i => match i with
  | 0 => ([(0, []), (3, [])], [((.loc 3), [])])
  | 1 => ([(0, []), (3, []), (5, [])], [((.loc 3), [])])
  | 2 => ([(4, [])], [])
  | 3 => ([(3, []), (32, [])], [((.loc 3), [])])
  | 4 => ([(4, [])], [])
  | 5 => ([(4, [])], [])
  | _ => ([], [])
theorem vc162 (l : Int) (t : Tree) (Q : AExit → LSt U → Prop) (h : (pre120 (l, ())) ∧ (((decide (2 ≤ l ∧ l ≤ 7)) = true → ((bif (bif (((Tree.kind t) : Int) == 10) then ((((Tree.kids t).length : Int) : Int) == 0) else false) then ((((Tree.words t).length : Int) : Int) == 1) else false) = true → InR ((l : Int) - 2)) ∧ ((bif (bif (((Tree.kind t) : Int) == 10) then ((((Tree.kids t).length : Int) : Int) == 0) else false) then ((((Tree.words t).length : Int) : Int) == 1) else false) = true → (0 : Int) ≤ 0 ∧ 0 < ((Tree.words t).length : Int)) ∧ ((bif (bif (((Tree.kind t) : Int) == 10) then ((((Tree.kids t).length : Int) : Int) == 0) else false) then ((((Tree.words t).length : Int) : Int) == 1) else false) = true → pre183 (((l : Int) - 2), (List.getD (Tree.words t) (Int.toNat 0) (0 : Int)), ())) ∧ (Q .ret (⟨[(4, .c (.bool (bif (bif (bif (((Tree.kind t) : Int) == 10) then ((((Tree.kids t).length : Int) : Int) == 0) else false) then ((((Tree.words t).length : Int) : Int) == 1) else false) then (fits ((l : Int) - 2) (List.getD (Tree.words t) (Int.toNat 0) (0 : Int))) else false)))], [], []⟩ : LSt U))) ∧ ((decide (2 ≤ l ∧ l ≤ 7)) = false → (((l : Int) == 9) = true → Q .ret (⟨[(4, .c (.bool (((Tree.kind t) : Int) == 1)))], [], []⟩ : LSt U)) ∧ (((l : Int) == 9) = false → Q .ret (⟨[(4, .c (.bool (((Tree.kind t) : Int) != 10)))], [], []⟩ : LSt U))))) :
    awp cfg (know know162) (drawOk cfg (know know162)) Try.f162.ntmps lv162 (cd Try.f162 []) (⟨[(0, .c (.int .i64 l)), (1, .agg [.int .i64 (Tree.kind t), .slice (U := U) .u64 (Tree.words t) .unk, .slice (U := U) .tree (Tree.kids t) .unk])], [], []⟩ : LSt U) Q := by
  have e : (awp cfg (know know162) (drawOk cfg (know know162)) Try.f162.ntmps lv162 (cd Try.f162 []) (⟨[(0, .c (.int .i64 l)), (1, .agg [.int .i64 (Tree.kind t), .slice (U := U) .u64 (Tree.words t) .unk, .slice (U := U) .tree (Tree.kids t) .unk])], [], []⟩ : LSt U) Q) = (let zz1 := (bif ((Tree.kind t) == 10) then (((Tree.kids t).length : Int) == 0) else false); let zz0 := (bif zz1 then (((Tree.words t).length : Int) == 1) else false); ((pre120 (l, ())) ∧ (((decide (2 ≤ l ∧ l ≤ 7)) = true → (TrKR07G (((Tree.kind t) == 10) = true)) ∧ (TrKR07G (((Tree.kind t) == 10) = true)) ∧ (TrKR07G (((Tree.kind t) == 10) = true)) ∧ ((TrKR07G (((Tree.kind t) == 10) = true))) ∧ (TrKR07G (zz1 = true)) ∧ (TrKR07G (zz1 = true)) ∧ (TrKR07G (zz1 = true)) ∧ ((TrKR07G (zz1 = true))) ∧ (TrKR07G (zz0 = true)) ∧ (zz0 = true → InR ((l : Int) - 2)) ∧ (TrKR07G (zz0 = true)) ∧ (TrKR07G (zz0 = true)) ∧ (zz0 = true → (0 : Int) ≤ 0 ∧ 0 < ((Tree.words t).length : Int)) ∧ (TrKR07G (zz0 = true)) ∧ (TrKR07G (zz0 = true)) ∧ (TrKR07G (zz0 = true)) ∧ (zz0 = true → pre183 (((l : Int) - 2), (List.getD (Tree.words t) (Int.toNat 0) (0 : Int)), ())) ∧ ((TrKR07G (zz0 = true))) ∧ (Q .ret (⟨[(4, .c (.bool (bif zz0 then (fits ((l : Int) - 2) (List.getD (Tree.words t) (Int.toNat 0) (0 : Int))) else false)))], [], []⟩ : LSt U))) ∧ ((decide (2 ≤ l ∧ l ≤ 7)) = false → ((((l : Int) == 9) = true → (Q .ret (⟨[(4, .c (.bool ((Tree.kind t) == 1)))], [], []⟩ : LSt U))) ∧ (((l : Int) == 9) = false → (Q .ret (⟨[(4, .c (.bool ((Tree.kind t) != 10)))], [], []⟩ : LSt U)))))))) := by kernel_rfl
  exact e.mpr ⟨h.1, ⟨fun c_10 => ⟨id, id, id, (by generalize (((Tree.kind t) : Int) == 10) = b0; revert b0; decide), id, id, id, (by generalize ((((Tree.kids t).length : Int) : Int) == 0) = b0; generalize (((Tree.kind t) : Int) == 10) = b1; revert b0 b1; decide), id, (h.2.1 c_10).1, id, id, (h.2.1 c_10).2.1, id, id, id, (h.2.1 c_10).2.2.1, (by generalize ((((Tree.words t).length : Int) : Int) == 1) = b0; generalize ((((Tree.kids t).length : Int) : Int) == 0) = b1; generalize (((Tree.kind t) : Int) == 10) = b2; revert b0 b1 b2; decide), (h.2.1 c_10).2.2.2⟩, fun c_10 => ⟨fun c_11 => ((h.2.2 c_10).1 c_11), fun c_11 => ((h.2.2 c_10).2 c_11)⟩⟩⟩
def Body162 (l : Int) (t : Tree)  : Prop := awp cfg (know (know162)) (drawOk cfg (know (know162))) Try.f162.ntmps lv162 (cd Try.f162 []) (entry (args162.can (l, t, ())) []) (EndsQ cfg Try.f162.ntmps Try.f162.results.toList (res162 (l, t, ())) [])
theorem make162 (c120 : Contract Try.prog cfg 120 spec120) (c183 : Contract Try.prog cfg 183 spec183) (hb : ∀ (l : Int) (t : Tree) (_ : Unit), pre162 (l, t, ()) → Body162 l t) : Contract Try.prog cfg 162 spec162 :=
  contract_flat (l := [(120, spec120), (183, spec183)]) cfgOk rfl (⟨c120, c183, trivial⟩) lv162 Try.func162 rfl rfl 2 (fun _ => rfl) (by decide) (fun ⟨l, t, _⟩ => hb l t ())
noncomputable def know117 (N : Nat) : List (FuncId × Fs U) := (117, fs args117 (fun a => [pre117 a, mu117 a < N]) res117) :: [(92, spec92), (162, spec162)]
def lv117 : Lives U := fun i => match i with
  | 0 => ([(1, []), (2, [])], [((.loc 2), [])])
  | 1 => ([(1, []), (2, []), (8, [])], [((.loc 2), [])])
  | 2 => ([(4, [])], [])
  | 3 => ([(1, []), (2, []), (22, [])], [((.loc 2), [])])
  | 4 => ([(4, [])], [])
  | 5 => ([(1, []), (2, []), (36, [])], [((.loc 2), [])])
  | 6 => ([(4, [])], [])
  | 7 => ([(1, []), (2, []), (39, [])], [((.loc 2), [])])
  | 8 => ([(1, []), (2, []), (52, [])], [((.loc 2), [])])
  | 9 => ([(4, [])], [])
  | 10 => ([(1, []), (2, []), (53, [])], [((.loc 2), [])])
  | 11 => ([(4, [])], [])
  | 12 => ([(1, []), (2, []), (71, []), (72, []), (73, [])], [((.loc 2), [])])
  | 13 => ([(1, []), (2, []), (71, []), (72, []), (73, []), (74, [])], [((.loc 2), [])])
  | 14 => ([(1, []), (2, []), (6, []), (71, []), (72, []), (73, [])], [((.loc 2), []), ((.loc 6), [])])
  | 15 => ([(1, []), (2, []), (6, []), (7, []), (71, []), (72, []), (73, [])], [((.loc 2), []), ((.loc 6), [])])
  | 16 => ([(1, []), (2, []), (6, []), (7, []), (71, []), (72, []), (73, []), (82, [])], [((.loc 2), []), ((.loc 6), [])])
  | 17 => ([(1, []), (2, []), (6, []), (7, []), (71, []), (72, []), (73, [])], [((.loc 2), []), ((.loc 6), [])])
  | 18 => ([(1, []), (2, []), (71, []), (72, []), (73, []), (95, [])], [((.loc 2), [])])
  | 19 => ([(4, [])], [])
  | 20 => ([(1, []), (2, []), (71, []), (72, []), (73, [])], [((.loc 2), [])])
  | 21 => ([(4, [])], [])
  | _ => ([], [])
def head117_0 (t : Tree) (d : Int) (x73 : Int) : LSt U := (⟨[(1, .c (.int .i64 d)), (2, .ptr (.loc 2) 0), (71, .c (.slice (U := U) .tree (Tree.kids t) .unk)), (72, .c (.int .i64 ((Tree.kids t).length : Int))), (73, .c (.int .i64 x73))], [((.loc 2), [.int .i64 (Tree.kind t), .slice (U := U) .u64 (Tree.words t) .unk, .slice (U := U) .tree (Tree.kids t) .unk])], []⟩ : LSt U)
abbrev a117_KR07G (N : Nat) := awp cfg (know (know117 N)) (drawOk cfg (know (know117 N))) Try.f117.ntmps lv117
abbrev s117_KR07G (N : Nat) := seqK cfg (know (know117 N)) (drawOk cfg (know (know117 N))) Try.f117.ntmps lv117
theorem vc117 (N : Nat) (t : Tree) (d : Int) (Q : AExit → LSt U → Prop) (h : ((((Tree.kind t) : Int) == 0) = true → Q .ret (⟨[(4, .c (.bool (bif ((((Tree.words t).length : Int) : Int) == 0) then ((((Tree.kids t).length : Int) : Int) == 0) else false)))], [], []⟩ : LSt U)) ∧ ((((Tree.kind t) : Int) == 0) = false → ((((Tree.kind t) : Int) == 10) = true → Q .ret (⟨[(4, .c (.bool (bif ((((Tree.words t).length : Int) : Int) == 1) then ((((Tree.kids t).length : Int) : Int) == 0) else false)))], [], []⟩ : LSt U)) ∧ ((((Tree.kind t) : Int) == 10) = false → (((d : Int) == 0) = true → Q .ret (⟨[(4, .c (.bool false))], [], []⟩ : LSt U)) ∧ (((d : Int) == 0) = false → ((((Tree.kind t) : Int) == 1) = true → ((bif (decide ((65536 : Int) ≤ ((Tree.words t).length : Int))) then true else (decide ((65536 : Int) ≤ ((Tree.kids t).length : Int)))) = true → Q .ret (⟨[(4, .c (.bool false))], [], []⟩ : LSt U)) ∧ ((bif (decide ((65536 : Int) ≤ ((Tree.words t).length : Int))) then true else (decide ((65536 : Int) ≤ ((Tree.kids t).length : Int)))) = false → LoopWp (awp cfg (know (know117 N)) (drawOk cfg (know (know117 N))) Try.f117.ntmps lv117 (cd Try.f117 [1, 1, 0, 1, 0, 0])) (head117_0 t d 0) (AExit.inBlock 1 (seqK cfg (know (know117 N)) (drawOk cfg (know (know117 N))) Try.f117.ntmps lv117 (cd Try.f117 [1, 1, 1]) Q)))) ∧ ((((Tree.kind t) : Int) == 1) = false → (pre92 ((Tree.kind t), ())) ∧ (((bif (bif (!(decide (2 ≤ (Tree.kind t) ∧ (Tree.kind t) ≤ 9))) then true else (decide ((0 : Int) < ((Tree.words t).length : Int)))) then true else (decide ((1048576 : Int) ≤ ((Tree.kids t).length : Int)))) = true → Q .ret (⟨[(4, .c (.bool false))], [], []⟩ : LSt U)) ∧ ((bif (bif (!(decide (2 ≤ (Tree.kind t) ∧ (Tree.kind t) ≤ 9))) then true else (decide ((0 : Int) < ((Tree.words t).length : Int)))) then true else (decide ((1048576 : Int) ≤ ((Tree.kids t).length : Int)))) = false → LoopWp (awp cfg (know (know117 N)) (drawOk cfg (know (know117 N))) Try.f117.ntmps lv117 (cd Try.f117 [1, 1, 0, 1, 0, 0])) (head117_0 t d 0) (AExit.inBlock 1 (seqK cfg (know (know117 N)) (drawOk cfg (know (know117 N))) Try.f117.ntmps lv117 (cd Try.f117 [1, 1, 1]) Q))))))))) :
    awp cfg (know (know117 N)) (drawOk cfg (know (know117 N))) Try.f117.ntmps lv117 (cd Try.f117 []) (⟨[(0, .agg [.int .i64 (Tree.kind t), .slice (U := U) .u64 (Tree.words t) .unk, .slice (U := U) .tree (Tree.kids t) .unk]), (1, .c (.int .i64 d))], [], []⟩ : LSt U) Q := by
  have e : (awp cfg (know (know117 N)) (drawOk cfg (know (know117 N))) Try.f117.ntmps lv117 (cd Try.f117 []) (⟨[(0, .agg [.int .i64 (Tree.kind t), .slice (U := U) .u64 (Tree.words t) .unk, .slice (U := U) .tree (Tree.kids t) .unk]), (1, .c (.int .i64 d))], [], []⟩ : LSt U) Q) = (let zz6 := (decide ((65536 : Int) ≤ ((Tree.kids t).length : Int))); let zz5 := (decide ((1048576 : Int) ≤ ((Tree.kids t).length : Int))); let zz4 := (((Tree.words t).length : Int) == 1); let zz3 := (((Tree.words t).length : Int) == 0); let zz2 := (!(decide (2 ≤ (Tree.kind t) ∧ (Tree.kind t) ≤ 9))); let zz1 := (decide ((65536 : Int) ≤ ((Tree.words t).length : Int))); let zz0 := (bif zz2 then true else (decide ((0 : Int) < ((Tree.words t).length : Int)))); (((((Tree.kind t) == 0) = true → (TrKR07G (zz3 = true)) ∧ (TrKR07G (zz3 = true)) ∧ (TrKR07G (zz3 = true)) ∧ ((TrKR07G (zz3 = true))) ∧ (Q .ret (⟨[(4, .c (.bool (bif zz3 then (((Tree.kids t).length : Int) == 0) else false)))], [], []⟩ : LSt U))) ∧ (((Tree.kind t) == 0) = false → ((((Tree.kind t) == 10) = true → (TrKR07G (zz4 = true)) ∧ (TrKR07G (zz4 = true)) ∧ (TrKR07G (zz4 = true)) ∧ ((TrKR07G (zz4 = true))) ∧ (Q .ret (⟨[(4, .c (.bool (bif zz4 then (((Tree.kids t).length : Int) == 0) else false)))], [], []⟩ : LSt U))) ∧ (((Tree.kind t) == 10) = false → ((((d : Int) == 0) = true → (Q .ret (⟨[(4, .c (.bool false))], [], []⟩ : LSt U))) ∧ (((d : Int) == 0) = false → ((((Tree.kind t) == 1) = true → (TrKR07G ((!zz1) = true)) ∧ (TrKR07G ((!zz1) = true)) ∧ (TrKR07G ((!zz1) = true)) ∧ ((zz1 = false → (!zz1) = true)) ∧ (((bif zz1 then true else zz6) = true → (Q .ret (⟨[(4, .c (.bool false))], [], []⟩ : LSt U))) ∧ ((bif zz1 then true else zz6) = false → (LoopWp (a117_KR07G N (cd Try.f117 [1, 1, 0, 1, 0, 0])) (head117_0 t d 0) (AExit.inBlock 1 (s117_KR07G N (cd Try.f117 [1, 1, 1]) Q)))))) ∧ (((Tree.kind t) == 1) = false → (pre92 ((Tree.kind t), ())) ∧ (TrKR07G ((!zz2) = true)) ∧ (TrKR07G ((!zz2) = true)) ∧ (TrKR07G ((!zz2) = true)) ∧ ((zz2 = false → (!zz2) = true)) ∧ (TrKR07G ((!zz0) = true)) ∧ (TrKR07G ((!zz0) = true)) ∧ (TrKR07G ((!zz0) = true)) ∧ ((zz0 = false → (!zz0) = true)) ∧ (((bif zz0 then true else zz5) = true → (Q .ret (⟨[(4, .c (.bool false))], [], []⟩ : LSt U))) ∧ ((bif zz0 then true else zz5) = false → (LoopWp (a117_KR07G N (cd Try.f117 [1, 1, 0, 1, 0, 0])) (head117_0 t d 0) (AExit.inBlock 1 (s117_KR07G N (cd Try.f117 [1, 1, 1]) Q))))))))))))))) := by kernel_rfl
  exact e.mpr ⟨fun c_12 => ⟨id, id, id, (by generalize ((((Tree.words t).length : Int) : Int) == 0) = b0; revert b0; decide), (h.1 c_12)⟩, fun c_12 => ⟨fun c_13 => ⟨id, id, id, (by generalize ((((Tree.words t).length : Int) : Int) == 1) = b0; revert b0; decide), ((h.2 c_12).1 c_13)⟩, fun c_13 => ⟨fun c_14 => (((h.2 c_12).2 c_13).1 c_14), fun c_14 => ⟨fun c_15 => ⟨id, id, id, (by generalize (decide ((65536 : Int) ≤ ((Tree.words t).length : Int))) = b0; revert b0; decide), ⟨fun c_16 => (((((h.2 c_12).2 c_13).2 c_14).1 c_15).1 c_16), fun c_16 => (((((h.2 c_12).2 c_13).2 c_14).1 c_15).2 c_16)⟩⟩, fun c_15 => ⟨((((h.2 c_12).2 c_13).2 c_14).2 c_15).1, id, id, id, (by generalize (decide (2 ≤ (Tree.kind t) ∧ (Tree.kind t) ≤ 9)) = b0; revert b0; decide), id, id, id, (by generalize (decide ((0 : Int) < ((Tree.words t).length : Int))) = b0; generalize (decide (2 ≤ (Tree.kind t) ∧ (Tree.kind t) ≤ 9)) = b1; revert b0 b1; decide), ⟨fun c_17 => (((((h.2 c_12).2 c_13).2 c_14).2 c_15).2.1 c_17), fun c_17 => (((((h.2 c_12).2 c_13).2 c_14).2 c_15).2.2 c_17)⟩⟩⟩⟩⟩⟩
theorem vc117_l0 (N : Nat) (t : Tree) (d : Int) (x73 : Int) (N0 : LSt U → Prop) (Q : AExit → LSt U → Prop) (h : ((decide ((x73 : Int) < ((Tree.kids t).length : Int))) = true → ((0 : Int) ≤ x73 ∧ x73 < ((Tree.kids t).length : Int)) ∧ (((((Tree.kind t) : Int) != 1) = true → (pre162 ((Tree.kind t), (Tree.mk (Tree.kind (List.getD (Tree.kids t) (Int.toNat x73) Tree.nil)) (Tree.words (List.getD (Tree.kids t) (Int.toNat x73) Tree.nil)) (Tree.kids (List.getD (Tree.kids t) (Int.toNat x73) Tree.nil))), ())) ∧ (((!(!(kidB (Tree.kind t) (Tree.mk (Tree.kind (List.getD (Tree.kids t) (Int.toNat x73) Tree.nil)) (Tree.words (List.getD (Tree.kids t) (Int.toNat x73) Tree.nil)) (Tree.kids (List.getD (Tree.kids t) (Int.toNat x73) Tree.nil)))))) = true → InR ((d : Int) - 1)) ∧ ((!(!(kidB (Tree.kind t) (Tree.mk (Tree.kind (List.getD (Tree.kids t) (Int.toNat x73) Tree.nil)) (Tree.words (List.getD (Tree.kids t) (Int.toNat x73) Tree.nil)) (Tree.kids (List.getD (Tree.kids t) (Int.toNat x73) Tree.nil)))))) = true → pre117 ((Tree.mk (Tree.kind (List.getD (Tree.kids t) (Int.toNat x73) Tree.nil)) (Tree.words (List.getD (Tree.kids t) (Int.toNat x73) Tree.nil)) (Tree.kids (List.getD (Tree.kids t) (Int.toNat x73) Tree.nil))), ((d : Int) - 1), ())) ∧ ((!(!(kidB (Tree.kind t) (Tree.mk (Tree.kind (List.getD (Tree.kids t) (Int.toNat x73) Tree.nil)) (Tree.words (List.getD (Tree.kids t) (Int.toNat x73) Tree.nil)) (Tree.kids (List.getD (Tree.kids t) (Int.toNat x73) Tree.nil)))))) = true → mu117 ((Tree.mk (Tree.kind (List.getD (Tree.kids t) (Int.toNat x73) Tree.nil)) (Tree.words (List.getD (Tree.kids t) (Int.toNat x73) Tree.nil)) (Tree.kids (List.getD (Tree.kids t) (Int.toNat x73) Tree.nil))), ((d : Int) - 1), ()) < N) ∧ (((bif (!(kidB (Tree.kind t) (Tree.mk (Tree.kind (List.getD (Tree.kids t) (Int.toNat x73) Tree.nil)) (Tree.words (List.getD (Tree.kids t) (Int.toNat x73) Tree.nil)) (Tree.kids (List.getD (Tree.kids t) (Int.toNat x73) Tree.nil))))) then true else (!(rightT (Tree.mk (Tree.kind (List.getD (Tree.kids t) (Int.toNat x73) Tree.nil)) (Tree.words (List.getD (Tree.kids t) (Int.toNat x73) Tree.nil)) (Tree.kids (List.getD (Tree.kids t) (Int.toNat x73) Tree.nil))) ((d : Int) - 1)))) = true → Q .ret (⟨[(4, .c (.bool false))], [], []⟩ : LSt U)) ∧ ((bif (!(kidB (Tree.kind t) (Tree.mk (Tree.kind (List.getD (Tree.kids t) (Int.toNat x73) Tree.nil)) (Tree.words (List.getD (Tree.kids t) (Int.toNat x73) Tree.nil)) (Tree.kids (List.getD (Tree.kids t) (Int.toNat x73) Tree.nil))))) then true else (!(rightT (Tree.mk (Tree.kind (List.getD (Tree.kids t) (Int.toNat x73) Tree.nil)) (Tree.words (List.getD (Tree.kids t) (Int.toNat x73) Tree.nil)) (Tree.kids (List.getD (Tree.kids t) (Int.toNat x73) Tree.nil))) ((d : Int) - 1)))) = false → (InR ((x73 : Int) + 1)) ∧ (N0 (head117_0 t d ((x73 : Int) + 1))))))) ∧ ((((Tree.kind t) : Int) != 1) = false → ((!(!(((Tree.kind (List.getD (Tree.kids t) (Int.toNat x73) Tree.nil)) : Int) != 10))) = true → InR ((d : Int) - 1)) ∧ ((!(!(((Tree.kind (List.getD (Tree.kids t) (Int.toNat x73) Tree.nil)) : Int) != 10))) = true → pre117 ((Tree.mk (Tree.kind (List.getD (Tree.kids t) (Int.toNat x73) Tree.nil)) (Tree.words (List.getD (Tree.kids t) (Int.toNat x73) Tree.nil)) (Tree.kids (List.getD (Tree.kids t) (Int.toNat x73) Tree.nil))), ((d : Int) - 1), ())) ∧ ((!(!(((Tree.kind (List.getD (Tree.kids t) (Int.toNat x73) Tree.nil)) : Int) != 10))) = true → mu117 ((Tree.mk (Tree.kind (List.getD (Tree.kids t) (Int.toNat x73) Tree.nil)) (Tree.words (List.getD (Tree.kids t) (Int.toNat x73) Tree.nil)) (Tree.kids (List.getD (Tree.kids t) (Int.toNat x73) Tree.nil))), ((d : Int) - 1), ()) < N) ∧ (((bif (!(((Tree.kind (List.getD (Tree.kids t) (Int.toNat x73) Tree.nil)) : Int) != 10)) then true else (!(rightT (Tree.mk (Tree.kind (List.getD (Tree.kids t) (Int.toNat x73) Tree.nil)) (Tree.words (List.getD (Tree.kids t) (Int.toNat x73) Tree.nil)) (Tree.kids (List.getD (Tree.kids t) (Int.toNat x73) Tree.nil))) ((d : Int) - 1)))) = true → Q .ret (⟨[(4, .c (.bool false))], [], []⟩ : LSt U)) ∧ ((bif (!(((Tree.kind (List.getD (Tree.kids t) (Int.toNat x73) Tree.nil)) : Int) != 10)) then true else (!(rightT (Tree.mk (Tree.kind (List.getD (Tree.kids t) (Int.toNat x73) Tree.nil)) (Tree.words (List.getD (Tree.kids t) (Int.toNat x73) Tree.nil)) (Tree.kids (List.getD (Tree.kids t) (Int.toNat x73) Tree.nil))) ((d : Int) - 1)))) = false → (InR ((x73 : Int) + 1)) ∧ (N0 (head117_0 t d ((x73 : Int) + 1)))))))) ∧ ((decide ((x73 : Int) < ((Tree.kids t).length : Int))) = false → Q .ret (⟨[(4, .c (.bool true))], [], []⟩ : LSt U))) :
    awp cfg (know (know117 N)) (drawOk cfg (know (know117 N))) Try.f117.ntmps lv117 (cd Try.f117 [1, 1, 0, 1, 0, 0]) (head117_0 t d x73) (AExit.then N0 (AExit.inBlock 1 (seqK cfg (know (know117 N)) (drawOk cfg (know (know117 N))) Try.f117.ntmps lv117 (cd Try.f117 [1, 1, 1]) Q))) := by
  have e : (awp cfg (know (know117 N)) (drawOk cfg (know (know117 N))) Try.f117.ntmps lv117 (cd Try.f117 [1, 1, 0, 1, 0, 0]) (head117_0 t d x73) (AExit.then N0 (AExit.inBlock 1 (seqK cfg (know (know117 N)) (drawOk cfg (know (know117 N))) Try.f117.ntmps lv117 (cd Try.f117 [1, 1, 1]) Q)))) = (let zz2 := (!(rightT (Tree.mk (Tree.kind (List.getD (Tree.kids t) (Int.toNat x73) Tree.nil)) (Tree.words (List.getD (Tree.kids t) (Int.toNat x73) Tree.nil)) (Tree.kids (List.getD (Tree.kids t) (Int.toNat x73) Tree.nil))) ((d : Int) - 1))); let zz1 := (!(((Tree.kind (List.getD (Tree.kids t) (Int.toNat x73) Tree.nil)) : Int) != 10)); let zz0 := (!(kidB (Tree.kind t) (Tree.mk (Tree.kind (List.getD (Tree.kids t) (Int.toNat x73) Tree.nil)) (Tree.words (List.getD (Tree.kids t) (Int.toNat x73) Tree.nil)) (Tree.kids (List.getD (Tree.kids t) (Int.toNat x73) Tree.nil))))); (((decide ((x73 : Int) < ((Tree.kids t).length : Int))) = true → ((0 : Int) ≤ x73 ∧ x73 < ((Tree.kids t).length : Int)) ∧ ((((((Tree.kind t) != 1) = true → (pre162 ((Tree.kind t), (Tree.mk (Tree.kind (List.getD (Tree.kids t) (Int.toNat x73) Tree.nil)) (Tree.words (List.getD (Tree.kids t) (Int.toNat x73) Tree.nil)) (Tree.kids (List.getD (Tree.kids t) (Int.toNat x73) Tree.nil))), ())) ∧ ((TrKR07G ((!zz0) = true)) ∧ ((!zz0) = true → InR ((d : Int) - 1)) ∧ (TrKR07G ((!zz0) = true)) ∧ (TrKR07G ((!zz0) = true)) ∧ ((!zz0) = true → pre117 ((Tree.mk (Tree.kind (List.getD (Tree.kids t) (Int.toNat x73) Tree.nil)) (Tree.words (List.getD (Tree.kids t) (Int.toNat x73) Tree.nil)) (Tree.kids (List.getD (Tree.kids t) (Int.toNat x73) Tree.nil))), ((d : Int) - 1), ())) ∧ ((!zz0) = true → mu117 ((Tree.mk (Tree.kind (List.getD (Tree.kids t) (Int.toNat x73) Tree.nil)) (Tree.words (List.getD (Tree.kids t) (Int.toNat x73) Tree.nil)) (Tree.kids (List.getD (Tree.kids t) (Int.toNat x73) Tree.nil))), ((d : Int) - 1), ()) < N) ∧ (TrKR07G ((!zz0) = true)) ∧ ((zz0 = false → (!zz0) = true)) ∧ (((bif zz0 then true else zz2) = true → (Q .ret (⟨[(4, .c (.bool false))], [], []⟩ : LSt U))) ∧ ((bif zz0 then true else zz2) = false → (InR ((x73 : Int) + 1)) ∧ (N0 (head117_0 t d ((x73 : Int) + 1))))))) ∧ (((Tree.kind t) != 1) = false → (TrKR07G ((!zz1) = true)) ∧ ((!zz1) = true → InR ((d : Int) - 1)) ∧ (TrKR07G ((!zz1) = true)) ∧ (TrKR07G ((!zz1) = true)) ∧ ((!zz1) = true → pre117 ((Tree.mk (Tree.kind (List.getD (Tree.kids t) (Int.toNat x73) Tree.nil)) (Tree.words (List.getD (Tree.kids t) (Int.toNat x73) Tree.nil)) (Tree.kids (List.getD (Tree.kids t) (Int.toNat x73) Tree.nil))), ((d : Int) - 1), ())) ∧ ((!zz1) = true → mu117 ((Tree.mk (Tree.kind (List.getD (Tree.kids t) (Int.toNat x73) Tree.nil)) (Tree.words (List.getD (Tree.kids t) (Int.toNat x73) Tree.nil)) (Tree.kids (List.getD (Tree.kids t) (Int.toNat x73) Tree.nil))), ((d : Int) - 1), ()) < N) ∧ (TrKR07G ((!zz1) = true)) ∧ ((zz1 = false → (!zz1) = true)) ∧ (((bif zz1 then true else zz2) = true → (Q .ret (⟨[(4, .c (.bool false))], [], []⟩ : LSt U))) ∧ ((bif zz1 then true else zz2) = false → (InR ((x73 : Int) + 1)) ∧ (N0 (head117_0 t d ((x73 : Int) + 1)))))))))) ∧ ((decide ((x73 : Int) < ((Tree.kids t).length : Int))) = false → (Q .ret (⟨[(4, .c (.bool true))], [], []⟩ : LSt U))))) := by kernel_rfl
  exact e.mpr ⟨fun c_18 => ⟨(h.1 c_18).1, ⟨fun c_19 => ⟨((h.1 c_18).2.1 c_19).1, ⟨id, ((h.1 c_18).2.1 c_19).2.1, id, id, ((h.1 c_18).2.1 c_19).2.2.1, ((h.1 c_18).2.1 c_19).2.2.2.1, id, (by generalize (kidB (Tree.kind t) (Tree.mk (Tree.kind (List.getD (Tree.kids t) (Int.toNat x73) Tree.nil)) (Tree.words (List.getD (Tree.kids t) (Int.toNat x73) Tree.nil)) (Tree.kids (List.getD (Tree.kids t) (Int.toNat x73) Tree.nil)))) = b0; revert b0; decide), ⟨fun c_20 => (((h.1 c_18).2.1 c_19).2.2.2.2.1 c_20), fun c_20 => ⟨(((h.1 c_18).2.1 c_19).2.2.2.2.2 c_20).1, (((h.1 c_18).2.1 c_19).2.2.2.2.2 c_20).2⟩⟩⟩⟩, fun c_19 => ⟨id, ((h.1 c_18).2.2 c_19).1, id, id, ((h.1 c_18).2.2 c_19).2.1, ((h.1 c_18).2.2 c_19).2.2.1, id, (by generalize (((Tree.kind (List.getD (Tree.kids t) (Int.toNat x73) Tree.nil)) : Int) != 10) = b0; revert b0; decide), ⟨fun c_21 => (((h.1 c_18).2.2 c_19).2.2.2.1 c_21), fun c_21 => ⟨(((h.1 c_18).2.2 c_19).2.2.2.2 c_21).1, (((h.1 c_18).2.2 c_19).2.2.2.2 c_21).2⟩⟩⟩⟩⟩, fun c_18 => (h.2 c_18)⟩
def Body117 (N : Nat) (t : Tree) (d : Int)  : Prop := awp cfg (know (know117 N)) (drawOk cfg (know (know117 N))) Try.f117.ntmps lv117 (cd Try.f117 []) (entry (args117.can (t, d, ())) []) (EndsQ cfg Try.f117.ntmps Try.f117.results.toList (res117 (t, d, ())) [])
theorem make117 (c92 : Contract Try.prog cfg 92 spec92) (c162 : Contract Try.prog cfg 162 spec162) (hb : ∀ (N : Nat) (t : Tree) (d : Int) (_ : Unit), pre117 (t, d, ()) → mu117 (t, d, ()) < N + 1 → Body117 N t d) : Contract Try.prog cfg 117 spec117 :=
  contract_rec (μ := mu117) (l := [(92, spec92), (162, spec162)]) cfgOk rfl (⟨c92, c162, trivial⟩) lv117 Try.func117 rfl rfl 2 (fun _ => rfl) (by decide) (fun N ⟨t, d, _⟩ => hb N t d ())
noncomputable def know80 : List (FuncId × Fs U) := [(117, spec117)]
def lv80 : Lives U := fun i => match i with
  | 0 => ([(1, [])], [((.loc 1), [])])
  | 1 => ([(2, [])], [])
  | _ => ([], [])
theorem vc80 (t : Tree) (Q : AExit → LSt U → Prop) (h : (pre117 ((Tree.mk (Tree.kind t) (Tree.words t) (Tree.kids t)), 64, ())) ∧ (Q .ret (⟨[(2, .c (.bool (rightT (Tree.mk (Tree.kind t) (Tree.words t) (Tree.kids t)) 64)))], [], []⟩ : LSt U))) :
    awp cfg (know know80) (drawOk cfg (know know80)) Try.f80.ntmps lv80 (cd Try.f80 []) (⟨[(0, .agg [.int .i64 (Tree.kind t), .slice (U := U) .u64 (Tree.words t) .unk, .slice (U := U) .tree (Tree.kids t) .unk])], [], []⟩ : LSt U) Q := by
  have e : (awp cfg (know know80) (drawOk cfg (know know80)) Try.f80.ntmps lv80 (cd Try.f80 []) (⟨[(0, .agg [.int .i64 (Tree.kind t), .slice (U := U) .u64 (Tree.words t) .unk, .slice (U := U) .tree (Tree.kids t) .unk])], [], []⟩ : LSt U) Q) = (type_of% h) := by kernel_rfl
  exact e.mpr ⟨h.1, h.2⟩
def Body80 (t : Tree)  : Prop := awp cfg (know (know80)) (drawOk cfg (know (know80))) Try.f80.ntmps lv80 (cd Try.f80 []) (entry (args80.can (t, ())) []) (EndsQ cfg Try.f80.ntmps Try.f80.results.toList (res80 (t, ())) [])
theorem make80 (c117 : Contract Try.prog cfg 117 spec117) (hb : ∀ (t : Tree) (_ : Unit), pre80 (t, ()) → Body80 t) : Contract Try.prog cfg 80 spec80 :=
  contract_flat (l := [(117, spec117)]) cfgOk rfl (⟨c117, trivial⟩) lv80 Try.func80 rfl rfl 1 (fun _ => rfl) (by decide) (fun ⟨t, _⟩ => hb t ())
noncomputable def know37 (N : Nat) : List (FuncId × Fs U) := (37, fs args37 (fun a => [pre37 a, mu37 a < N]) res37) :: [(79, spec79)]
def lv37 : Lives U := fun i => match i with
  | 0 => ([(1, []), (2, [])], [((.loc 2), [])])
  | 1 => ([(1, []), (2, []), (10, [])], [((.loc 2), [])])
  | 2 => ([(4, [])], [])
  | 3 => ([(1, []), (2, []), (23, [])], [((.loc 2), [])])
  | 4 => ([(4, [])], [])
  | 5 => ([(1, []), (2, []), (68, [])], [((.loc 2), [])])
  | 6 => ([(4, [])], [])
  | 7 => ([(1, []), (2, []), (77, [])], [((.loc 2), [])])
  | 8 => ([(4, [])], [])
  | 9 => ([(1, []), (2, []), (5, [])], [((.loc 2), [])])
  | 10 => ([(1, []), (2, []), (5, []), (82, [])], [((.loc 2), [])])
  | 11 => ([(1, []), (2, []), (5, [])], [((.loc 2), [])])
  | 12 => ([(1, []), (2, []), (5, []), (6, [])], [((.loc 2), []), ((.loc 6), [])])
  | 13 => ([(1, []), (2, []), (5, []), (6, []), (94, [])], [((.loc 2), []), ((.loc 6), [])])
  | 14 => ([(4, [])], [])
  | 15 => ([(1, []), (2, []), (5, []), (6, []), (7, [])], [((.loc 2), []), ((.loc 6), [])])
  | 16 => ([(1, []), (2, []), (5, []), (131, [])], [((.loc 2), [])])
  | 17 => ([(4, [])], [])
  | 18 => ([(4, [])], [])
  | _ => ([], [])
def head37_0 (t : Tree) (d : Int) (x5 : Int) : LSt U := (⟨[(1, .c (.int .i64 d)), (2, .ptr (.loc 2) 0), (5, .c (.int .i64 x5))], [((.loc 2), [.int .i64 (Tree.kind t), .slice (U := U) .u64 (Tree.words t) .unk, .slice (U := U) .tree (Tree.kids t) .unk])], []⟩ : LSt U)
abbrev a37_KR07G (N : Nat) := awp cfg (know (know37 N)) (drawOk cfg (know (know37 N))) Try.f37.ntmps lv37
abbrev s37_KR07G (N : Nat) := seqK cfg (know (know37 N)) (drawOk cfg (know (know37 N))) Try.f37.ntmps lv37
theorem vc37 (N : Nat) (t : Tree) (d : Int) (Q : AExit → LSt U → Prop) (h : ((((Tree.kind t) : Int) == 0) = true → Q .ret (⟨[(4, .c (.bool (bif ((((Tree.words t).length : Int) : Int) == 0) then ((((Tree.kids t).length : Int) : Int) == 0) else false)))], [], []⟩ : LSt U)) ∧ ((((Tree.kind t) : Int) == 0) = false → ((((Tree.kind t) : Int) == 10) = true → Q .ret (⟨[(4, .c (.bool (bif ((((Tree.words t).length : Int) : Int) == 1) then ((((Tree.kids t).length : Int) : Int) == 0) else false)))], [], []⟩ : LSt U)) ∧ ((((Tree.kind t) : Int) == 10) = false → ((bif (bif (bif (bif (bif (decide (((Tree.kind t) : Int) < 0)) then true else (decide ((10 : Int) < (Tree.kind t)))) then true else ((d : Int) == 0)) then true else (decide ((65536 : Int) ≤ ((Tree.words t).length : Int)))) then true else (bif (((Tree.kind t) : Int) == 1) then (decide ((65536 : Int) ≤ ((Tree.kids t).length : Int))) else false)) then true else (decide ((1048576 : Int) ≤ ((Tree.kids t).length : Int)))) = true → Q .ret (⟨[(4, .c (.bool false))], [], []⟩ : LSt U)) ∧ ((bif (bif (bif (bif (bif (decide (((Tree.kind t) : Int) < 0)) then true else (decide ((10 : Int) < (Tree.kind t)))) then true else ((d : Int) == 0)) then true else (decide ((65536 : Int) ≤ ((Tree.words t).length : Int)))) then true else (bif (((Tree.kind t) : Int) == 1) then (decide ((65536 : Int) ≤ ((Tree.kids t).length : Int))) else false)) then true else (decide ((1048576 : Int) ≤ ((Tree.kids t).length : Int)))) = false → ((bif (decide ((1 : Int) < (Tree.kind t))) then (decide ((0 : Int) < ((Tree.words t).length : Int))) else false) = true → Q .ret (⟨[(4, .c (.bool false))], [], []⟩ : LSt U)) ∧ ((bif (decide ((1 : Int) < (Tree.kind t))) then (decide ((0 : Int) < ((Tree.words t).length : Int))) else false) = false → LoopWp (awp cfg (know (know37 N)) (drawOk cfg (know (know37 N))) Try.f37.ntmps lv37 (cd Try.f37 [1, 1, 1, 1, 1, 0, 1, 0, 0])) (head37_0 t d 0) (AExit.inBlock 0 (seqK cfg (know (know37 N)) (drawOk cfg (know (know37 N))) Try.f37.ntmps lv37 (cd Try.f37 [1, 1, 1, 1, 1, 1]) Q))))))) :
    awp cfg (know (know37 N)) (drawOk cfg (know (know37 N))) Try.f37.ntmps lv37 (cd Try.f37 []) (⟨[(0, .agg [.int .i64 (Tree.kind t), .slice (U := U) .u64 (Tree.words t) .unk, .slice (U := U) .tree (Tree.kids t) .unk]), (1, .c (.int .i64 d))], [], []⟩ : LSt U) Q := by
  have e : (awp cfg (know (know37 N)) (drawOk cfg (know (know37 N))) Try.f37.ntmps lv37 (cd Try.f37 []) (⟨[(0, .agg [.int .i64 (Tree.kind t), .slice (U := U) .u64 (Tree.words t) .unk, .slice (U := U) .tree (Tree.kids t) .unk]), (1, .c (.int .i64 d))], [], []⟩ : LSt U) Q) = (let zz7 := (decide ((1048576 : Int) ≤ ((Tree.kids t).length : Int))); let zz6 := (decide ((Tree.kind t) < 0)); let zz5 := (((Tree.words t).length : Int) == 1); let zz4 := (((Tree.words t).length : Int) == 0); let zz3 := (decide ((1 : Int) < (Tree.kind t))); let zz2 := (bif ((Tree.kind t) == 1) then (decide ((65536 : Int) ≤ ((Tree.kids t).length : Int))) else false); let zz1 := (bif zz6 then true else (decide ((10 : Int) < (Tree.kind t)))); let zz0 := (bif (bif zz1 then true else ((d : Int) == 0)) then true else (decide ((65536 : Int) ≤ ((Tree.words t).length : Int)))); (((((Tree.kind t) == 0) = true → (TrKR07G (zz4 = true)) ∧ (TrKR07G (zz4 = true)) ∧ (TrKR07G (zz4 = true)) ∧ ((TrKR07G (zz4 = true))) ∧ (Q .ret (⟨[(4, .c (.bool (bif zz4 then (((Tree.kids t).length : Int) == 0) else false)))], [], []⟩ : LSt U))) ∧ (((Tree.kind t) == 0) = false → ((((Tree.kind t) == 10) = true → (TrKR07G (zz5 = true)) ∧ (TrKR07G (zz5 = true)) ∧ (TrKR07G (zz5 = true)) ∧ ((TrKR07G (zz5 = true))) ∧ (Q .ret (⟨[(4, .c (.bool (bif zz5 then (((Tree.kids t).length : Int) == 0) else false)))], [], []⟩ : LSt U))) ∧ (((Tree.kind t) == 10) = false → (TrKR07G ((!zz6) = true)) ∧ (TrKR07G ((!zz6) = true)) ∧ ((zz6 = false → (!zz6) = true)) ∧ (TrKR07G ((!zz1) = true)) ∧ ((zz1 = false → (!zz1) = true)) ∧ (TrKR07G ((!(bif zz1 then true else ((d : Int) == 0))) = true)) ∧ (TrKR07G ((!(bif zz1 then true else ((d : Int) == 0))) = true)) ∧ (TrKR07G ((!(bif zz1 then true else ((d : Int) == 0))) = true)) ∧ (((bif zz1 then true else ((d : Int) == 0)) = false → (!(bif zz1 then true else ((d : Int) == 0))) = true)) ∧ (TrKR07G ((!zz0) = true)) ∧ (TrKR07G ((!zz0) = true)) ∧ (TrKR07G ((!zz0) = true)) ∧ (TrKR07G (((!zz0) && ((Tree.kind t) == 1)) = true)) ∧ (TrKR07G (((!zz0) && ((Tree.kind t) == 1)) = true)) ∧ (TrKR07G (((!zz0) && ((Tree.kind t) == 1)) = true)) ∧ ((!zz0) = true → (True → (!zz0) = true)) ∧ ((!zz0) = true → (((Tree.kind t) == 1) = true → ((!zz0) && ((Tree.kind t) == 1)) = true)) ∧ ((zz0 = false → (!zz0) = true)) ∧ (TrKR07G ((!(bif zz0 then true else zz2)) = true)) ∧ (TrKR07G ((!(bif zz0 then true else zz2)) = true)) ∧ (TrKR07G ((!(bif zz0 then true else zz2)) = true)) ∧ (((bif zz0 then true else zz2) = false → (!(bif zz0 then true else zz2)) = true)) ∧ (((bif (bif zz0 then true else zz2) then true else zz7) = true → (Q .ret (⟨[(4, .c (.bool false))], [], []⟩ : LSt U))) ∧ ((bif (bif zz0 then true else zz2) then true else zz7) = false → (TrKR07G (zz3 = true)) ∧ (TrKR07G (zz3 = true)) ∧ (TrKR07G (zz3 = true)) ∧ ((TrKR07G (zz3 = true))) ∧ (((bif zz3 then (decide ((0 : Int) < ((Tree.words t).length : Int))) else false) = true → (Q .ret (⟨[(4, .c (.bool false))], [], []⟩ : LSt U))) ∧ ((bif zz3 then (decide ((0 : Int) < ((Tree.words t).length : Int))) else false) = false → (LoopWp (a37_KR07G N (cd Try.f37 [1, 1, 1, 1, 1, 0, 1, 0, 0])) (head37_0 t d 0) (AExit.inBlock 0 (s37_KR07G N (cd Try.f37 [1, 1, 1, 1, 1, 1]) Q))))))))))))) := by kernel_rfl
  exact e.mpr ⟨fun c_22 => ⟨id, id, id, (by generalize ((((Tree.words t).length : Int) : Int) == 0) = b0; revert b0; decide), (h.1 c_22)⟩, fun c_22 => ⟨fun c_23 => ⟨id, id, id, (by generalize ((((Tree.words t).length : Int) : Int) == 1) = b0; revert b0; decide), ((h.2 c_22).1 c_23)⟩, fun c_23 => ⟨id, id, (by generalize (decide (((Tree.kind t) : Int) < 0)) = b0; revert b0; decide), id, (by generalize (decide ((10 : Int) < (Tree.kind t))) = b0; generalize (decide (((Tree.kind t) : Int) < 0)) = b1; revert b0 b1; decide), id, id, id, (by generalize (decide ((10 : Int) < (Tree.kind t))) = b0; generalize (decide (((Tree.kind t) : Int) < 0)) = b1; generalize ((d : Int) == 0) = b2; revert b0 b1 b2; decide), id, id, id, id, id, id, (by generalize (decide ((65536 : Int) ≤ ((Tree.words t).length : Int))) = b0; generalize (decide ((10 : Int) < (Tree.kind t))) = b1; generalize (decide (((Tree.kind t) : Int) < 0)) = b2; generalize ((d : Int) == 0) = b3; revert b0 b1 b2 b3; decide), (by generalize (decide ((65536 : Int) ≤ ((Tree.words t).length : Int))) = b0; generalize (decide ((10 : Int) < (Tree.kind t))) = b1; generalize (decide (((Tree.kind t) : Int) < 0)) = b2; generalize (((Tree.kind t) : Int) == 1) = b3; generalize ((d : Int) == 0) = b4; revert b0 b1 b2 b3 b4; decide), (by generalize (decide ((65536 : Int) ≤ ((Tree.words t).length : Int))) = b0; generalize (decide ((10 : Int) < (Tree.kind t))) = b1; generalize (decide (((Tree.kind t) : Int) < 0)) = b2; generalize ((d : Int) == 0) = b3; revert b0 b1 b2 b3; decide), id, id, id, (by generalize (decide ((65536 : Int) ≤ ((Tree.words t).length : Int))) = b0; generalize (decide ((65536 : Int) ≤ ((Tree.kids t).length : Int))) = b1; generalize (decide ((10 : Int) < (Tree.kind t))) = b2; generalize (decide (((Tree.kind t) : Int) < 0)) = b3; generalize (((Tree.kind t) : Int) == 1) = b4; generalize ((d : Int) == 0) = b5; revert b0 b1 b2 b3 b4 b5; decide), ⟨fun c_24 => (((h.2 c_22).2 c_23).1 c_24), fun c_24 => ⟨id, id, id, (by generalize (decide ((1 : Int) < (Tree.kind t))) = b0; revert b0; decide), ⟨fun c_25 => ((((h.2 c_22).2 c_23).2 c_24).1 c_25), fun c_25 => ((((h.2 c_22).2 c_23).2 c_24).2 c_25)⟩⟩⟩⟩⟩⟩
theorem vc37_l0 (N : Nat) (t : Tree) (d : Int) (x5 : Int) (N0 : LSt U → Prop) (Q : AExit → LSt U → Prop) (h : ((decide ((x5 : Int) < ((Tree.kids t).length : Int))) = true → ((0 : Int) ≤ x5 ∧ x5 < ((Tree.kids t).length : Int)) ∧ ((InR ((d : Int) - 1)) ∧ (pre37 ((Tree.mk (Tree.kind (List.getD (Tree.kids t) (Int.toNat x5) Tree.nil)) (Tree.words (List.getD (Tree.kids t) (Int.toNat x5) Tree.nil)) (Tree.kids (List.getD (Tree.kids t) (Int.toNat x5) Tree.nil))), ((d : Int) - 1), ())) ∧ (mu37 ((Tree.mk (Tree.kind (List.getD (Tree.kids t) (Int.toNat x5) Tree.nil)) (Tree.words (List.getD (Tree.kids t) (Int.toNat x5) Tree.nil)) (Tree.kids (List.getD (Tree.kids t) (Int.toNat x5) Tree.nil))), ((d : Int) - 1), ()) < N) ∧ (((!(rightT (Tree.mk (Tree.kind (List.getD (Tree.kids t) (Int.toNat x5) Tree.nil)) (Tree.words (List.getD (Tree.kids t) (Int.toNat x5) Tree.nil)) (Tree.kids (List.getD (Tree.kids t) (Int.toNat x5) Tree.nil))) ((d : Int) - 1))) = true → Q .ret (⟨[(4, .c (.bool false))], [], []⟩ : LSt U)) ∧ ((!(rightT (Tree.mk (Tree.kind (List.getD (Tree.kids t) (Int.toNat x5) Tree.nil)) (Tree.words (List.getD (Tree.kids t) (Int.toNat x5) Tree.nil)) (Tree.kids (List.getD (Tree.kids t) (Int.toNat x5) Tree.nil))) ((d : Int) - 1))) = false → (((!(bif ((bif (decide ((2 : Int) ≤ (Tree.kind t))) then (decide (((Tree.kind t) : Int) ≤ 7)) else false) != (((Tree.kind (List.getD (Tree.kids t) (Int.toNat x5) Tree.nil)) : Int) == 10)) then true else (bif (((Tree.kind t) : Int) == 9) then (((Tree.kind (List.getD (Tree.kids t) (Int.toNat x5) Tree.nil)) : Int) != 1) else false))) && (bif (decide ((2 : Int) ≤ (Tree.kind t))) then (decide (((Tree.kind t) : Int) ≤ 7)) else false)) = true → InR (((Tree.kind t) : Int) - 2)) ∧ (((!(bif ((bif (decide ((2 : Int) ≤ (Tree.kind t))) then (decide (((Tree.kind t) : Int) ≤ 7)) else false) != (((Tree.kind (List.getD (Tree.kids t) (Int.toNat x5) Tree.nil)) : Int) == 10)) then true else (bif (((Tree.kind t) : Int) == 9) then (((Tree.kind (List.getD (Tree.kids t) (Int.toNat x5) Tree.nil)) : Int) != 1) else false))) && (bif (decide ((2 : Int) ≤ (Tree.kind t))) then (decide (((Tree.kind t) : Int) ≤ 7)) else false)) = true → (0 : Int) ≤ 0 ∧ 0 < ((Tree.words (List.getD (Tree.kids t) (Int.toNat x5) Tree.nil)).length : Int)) ∧ (((!(bif ((bif (decide ((2 : Int) ≤ (Tree.kind t))) then (decide (((Tree.kind t) : Int) ≤ 7)) else false) != (((Tree.kind (List.getD (Tree.kids t) (Int.toNat x5) Tree.nil)) : Int) == 10)) then true else (bif (((Tree.kind t) : Int) == 9) then (((Tree.kind (List.getD (Tree.kids t) (Int.toNat x5) Tree.nil)) : Int) != 1) else false))) && (bif (decide ((2 : Int) ≤ (Tree.kind t))) then (decide (((Tree.kind t) : Int) ≤ 7)) else false)) = true → pre79 ((((Tree.kind t) : Int) - 2), (List.getD (Tree.words (List.getD (Tree.kids t) (Int.toNat x5) Tree.nil)) (Int.toNat 0) (0 : Int)), ())) ∧ (((bif (bif ((bif (decide ((2 : Int) ≤ (Tree.kind t))) then (decide (((Tree.kind t) : Int) ≤ 7)) else false) != (((Tree.kind (List.getD (Tree.kids t) (Int.toNat x5) Tree.nil)) : Int) == 10)) then true else (bif (((Tree.kind t) : Int) == 9) then (((Tree.kind (List.getD (Tree.kids t) (Int.toNat x5) Tree.nil)) : Int) != 1) else false)) then true else (bif (bif (decide ((2 : Int) ≤ (Tree.kind t))) then (decide (((Tree.kind t) : Int) ≤ 7)) else false) then (!(fits (((Tree.kind t) : Int) - 2) (List.getD (Tree.words (List.getD (Tree.kids t) (Int.toNat x5) Tree.nil)) (Int.toNat 0) (0 : Int)))) else false)) = true → Q .ret (⟨[(4, .c (.bool false))], [], []⟩ : LSt U)) ∧ ((bif (bif ((bif (decide ((2 : Int) ≤ (Tree.kind t))) then (decide (((Tree.kind t) : Int) ≤ 7)) else false) != (((Tree.kind (List.getD (Tree.kids t) (Int.toNat x5) Tree.nil)) : Int) == 10)) then true else (bif (((Tree.kind t) : Int) == 9) then (((Tree.kind (List.getD (Tree.kids t) (Int.toNat x5) Tree.nil)) : Int) != 1) else false)) then true else (bif (bif (decide ((2 : Int) ≤ (Tree.kind t))) then (decide (((Tree.kind t) : Int) ≤ 7)) else false) then (!(fits (((Tree.kind t) : Int) - 2) (List.getD (Tree.words (List.getD (Tree.kids t) (Int.toNat x5) Tree.nil)) (Int.toNat 0) (0 : Int)))) else false)) = false → (InR ((x5 : Int) + 1)) ∧ (N0 (head37_0 t d ((x5 : Int) + 1))))))))) ∧ ((decide ((x5 : Int) < ((Tree.kids t).length : Int))) = false → Q .ret (⟨[(4, .c (.bool true))], [], []⟩ : LSt U))) :
    awp cfg (know (know37 N)) (drawOk cfg (know (know37 N))) Try.f37.ntmps lv37 (cd Try.f37 [1, 1, 1, 1, 1, 0, 1, 0, 0]) (head37_0 t d x5) (AExit.then N0 (AExit.inBlock 0 (seqK cfg (know (know37 N)) (drawOk cfg (know (know37 N))) Try.f37.ntmps lv37 (cd Try.f37 [1, 1, 1, 1, 1, 1]) Q))) := by
  have e : (awp cfg (know (know37 N)) (drawOk cfg (know (know37 N))) Try.f37.ntmps lv37 (cd Try.f37 [1, 1, 1, 1, 1, 0, 1, 0, 0]) (head37_0 t d x5) (AExit.then N0 (AExit.inBlock 0 (seqK cfg (know (know37 N)) (drawOk cfg (know (know37 N))) Try.f37.ntmps lv37 (cd Try.f37 [1, 1, 1, 1, 1, 1]) Q)))) = (let zz5 := (decide ((2 : Int) ≤ (Tree.kind t))); let zz4 := (!(fits ((Tree.kind t) - 2) (List.getD (Tree.words (List.getD (Tree.kids t) (Int.toNat x5) Tree.nil)) (Int.toNat 0) (0 : Int)))); let zz3 := (!(rightT (Tree.mk (Tree.kind (List.getD (Tree.kids t) (Int.toNat x5) Tree.nil)) (Tree.words (List.getD (Tree.kids t) (Int.toNat x5) Tree.nil)) (Tree.kids (List.getD (Tree.kids t) (Int.toNat x5) Tree.nil))) ((d : Int) - 1))); let zz2 := (((Tree.kind (List.getD (Tree.kids t) (Int.toNat x5) Tree.nil)) : Int) == 10); let zz1 := (bif zz5 then (decide ((Tree.kind t) ≤ 7)) else false); let zz0 := (bif (zz1 != zz2) then true else (bif ((Tree.kind t) == 9) then (((Tree.kind (List.getD (Tree.kids t) (Int.toNat x5) Tree.nil)) : Int) != 1) else false)); (((decide ((x5 : Int) < ((Tree.kids t).length : Int))) = true → ((0 : Int) ≤ x5 ∧ x5 < ((Tree.kids t).length : Int)) ∧ ((InR ((d : Int) - 1)) ∧ (pre37 ((Tree.mk (Tree.kind (List.getD (Tree.kids t) (Int.toNat x5) Tree.nil)) (Tree.words (List.getD (Tree.kids t) (Int.toNat x5) Tree.nil)) (Tree.kids (List.getD (Tree.kids t) (Int.toNat x5) Tree.nil))), ((d : Int) - 1), ())) ∧ (mu37 ((Tree.mk (Tree.kind (List.getD (Tree.kids t) (Int.toNat x5) Tree.nil)) (Tree.words (List.getD (Tree.kids t) (Int.toNat x5) Tree.nil)) (Tree.kids (List.getD (Tree.kids t) (Int.toNat x5) Tree.nil))), ((d : Int) - 1), ()) < N) ∧ ((zz3 = true → (Q .ret (⟨[(4, .c (.bool false))], [], []⟩ : LSt U))) ∧ (zz3 = false → (TrKR07G (zz5 = true)) ∧ (TrKR07G (zz5 = true)) ∧ ((TrKR07G (zz5 = true))) ∧ ((TrKR07G ((!(zz1 != zz2)) = true)) ∧ (TrKR07G ((!(zz1 != zz2)) = true)) ∧ (TrKR07G ((!(zz1 != zz2)) = true)) ∧ (TrKR07G (((!(zz1 != zz2)) && ((Tree.kind t) == 9)) = true)) ∧ (TrKR07G (((!(zz1 != zz2)) && ((Tree.kind t) == 9)) = true)) ∧ ((!(zz1 != zz2)) = true → (True → (!(zz1 != zz2)) = true)) ∧ ((!(zz1 != zz2)) = true → (((Tree.kind t) == 9) = true → ((!(zz1 != zz2)) && ((Tree.kind t) == 9)) = true)) ∧ (((zz1 != zz2) = false → (!(zz1 != zz2)) = true)) ∧ (TrKR07G ((!zz0) = true)) ∧ (TrKR07G (((!zz0) && zz1) = true)) ∧ (TrKR07G (((!zz0) && zz1) = true)) ∧ (((!zz0) && zz1) = true → InR ((Tree.kind t) - 2)) ∧ (TrKR07G (((!zz0) && zz1) = true)) ∧ (TrKR07G (((!zz0) && zz1) = true)) ∧ (((!zz0) && zz1) = true → (0 : Int) ≤ 0 ∧ 0 < ((Tree.words (List.getD (Tree.kids t) (Int.toNat x5) Tree.nil)).length : Int)) ∧ (TrKR07G (((!zz0) && zz1) = true)) ∧ (TrKR07G (((!zz0) && zz1) = true)) ∧ (TrKR07G (((!zz0) && zz1) = true)) ∧ (((!zz0) && zz1) = true → pre79 (((Tree.kind t) - 2), (List.getD (Tree.words (List.getD (Tree.kids t) (Int.toNat x5) Tree.nil)) (Int.toNat 0) (0 : Int)), ())) ∧ (TrKR07G (((!zz0) && zz1) = true)) ∧ ((!zz0) = true → (True → (!zz0) = true)) ∧ ((!zz0) = true → (zz1 = true → ((!zz0) && zz1) = true)) ∧ ((zz0 = false → (!zz0) = true)) ∧ (((bif zz0 then true else (bif zz1 then zz4 else false)) = true → (Q .ret (⟨[(4, .c (.bool false))], [], []⟩ : LSt U))) ∧ ((bif zz0 then true else (bif zz1 then zz4 else false)) = false → (InR ((x5 : Int) + 1)) ∧ (N0 (head37_0 t d ((x5 : Int) + 1)))))))))) ∧ ((decide ((x5 : Int) < ((Tree.kids t).length : Int))) = false → (Q .ret (⟨[(4, .c (.bool true))], [], []⟩ : LSt U))))) := by kernel_rfl
  exact e.mpr ⟨fun c_26 => ⟨(h.1 c_26).1, ⟨(h.1 c_26).2.1, (h.1 c_26).2.2.1, (h.1 c_26).2.2.2.1, ⟨fun c_27 => ((h.1 c_26).2.2.2.2.1 c_27), fun c_27 => ⟨id, id, (by generalize (decide ((2 : Int) ≤ (Tree.kind t))) = b0; revert b0; decide), ⟨id, id, id, id, id, (by generalize ((bif (decide ((2 : Int) ≤ (Tree.kind t))) then (decide (((Tree.kind t) : Int) ≤ 7)) else false) != (((Tree.kind (List.getD (Tree.kids t) (Int.toNat x5) Tree.nil)) : Int) == 10)) = b0; revert b0; decide), (by generalize ((bif (decide ((2 : Int) ≤ (Tree.kind t))) then (decide (((Tree.kind t) : Int) ≤ 7)) else false) != (((Tree.kind (List.getD (Tree.kids t) (Int.toNat x5) Tree.nil)) : Int) == 10)) = b0; generalize (((Tree.kind t) : Int) == 9) = b1; revert b0 b1; decide), (by generalize ((bif (decide ((2 : Int) ≤ (Tree.kind t))) then (decide (((Tree.kind t) : Int) ≤ 7)) else false) != (((Tree.kind (List.getD (Tree.kids t) (Int.toNat x5) Tree.nil)) : Int) == 10)) = b0; revert b0; decide), id, id, id, ((h.1 c_26).2.2.2.2.2 c_27).1, id, id, ((h.1 c_26).2.2.2.2.2 c_27).2.1, id, id, id, ((h.1 c_26).2.2.2.2.2 c_27).2.2.1, id, (by generalize ((bif (decide ((2 : Int) ≤ (Tree.kind t))) then (decide (((Tree.kind t) : Int) ≤ 7)) else false) != (((Tree.kind (List.getD (Tree.kids t) (Int.toNat x5) Tree.nil)) : Int) == 10)) = b0; generalize (((Tree.kind (List.getD (Tree.kids t) (Int.toNat x5) Tree.nil)) : Int) != 1) = b1; generalize (((Tree.kind t) : Int) == 9) = b2; revert b0 b1 b2; decide), (by generalize ((bif (decide ((2 : Int) ≤ (Tree.kind t))) then (decide (((Tree.kind t) : Int) ≤ 7)) else false) != (((Tree.kind (List.getD (Tree.kids t) (Int.toNat x5) Tree.nil)) : Int) == 10)) = b0; generalize (((Tree.kind (List.getD (Tree.kids t) (Int.toNat x5) Tree.nil)) : Int) != 1) = b1; generalize (decide ((2 : Int) ≤ (Tree.kind t))) = b2; generalize (decide (((Tree.kind t) : Int) ≤ 7)) = b3; generalize (((Tree.kind t) : Int) == 9) = b4; revert b0 b1 b2 b3 b4; decide), (by generalize ((bif (decide ((2 : Int) ≤ (Tree.kind t))) then (decide (((Tree.kind t) : Int) ≤ 7)) else false) != (((Tree.kind (List.getD (Tree.kids t) (Int.toNat x5) Tree.nil)) : Int) == 10)) = b0; generalize (((Tree.kind (List.getD (Tree.kids t) (Int.toNat x5) Tree.nil)) : Int) != 1) = b1; generalize (((Tree.kind t) : Int) == 9) = b2; revert b0 b1 b2; decide), ⟨fun c_28 => (((h.1 c_26).2.2.2.2.2 c_27).2.2.2.1 c_28), fun c_28 => ⟨(((h.1 c_26).2.2.2.2.2 c_27).2.2.2.2 c_28).1, (((h.1 c_26).2.2.2.2.2 c_27).2.2.2.2 c_28).2⟩⟩⟩⟩⟩⟩⟩, fun c_26 => (h.2 c_26)⟩
def Body37 (N : Nat) (t : Tree) (d : Int)  : Prop := awp cfg (know (know37 N)) (drawOk cfg (know (know37 N))) Try.f37.ntmps lv37 (cd Try.f37 []) (entry (args37.can (t, d, ())) []) (EndsQ cfg Try.f37.ntmps Try.f37.results.toList (res37 (t, d, ())) [])
theorem make37 (c79 : Contract Try.prog cfg 79 spec79) (hb : ∀ (N : Nat) (t : Tree) (d : Int) (_ : Unit), pre37 (t, d, ()) → mu37 (t, d, ()) < N + 1 → Body37 N t d) : Contract Try.prog cfg 37 spec37 :=
  contract_rec (μ := mu37) (l := [(79, spec79)]) cfgOk rfl (⟨c79, trivial⟩) lv37 Try.func37 rfl rfl 2 (fun _ => rfl) (by decide) (fun N ⟨t, d, _⟩ => hb N t d ())
end
end Go.AM.Ytpjenobkibfpcaa

namespace Go.AM.Ytpjenobkibfpcaa
open Go.AM Go.Proofs
mutual
theorem shallow_mass : ∀ (t : Tree) (d l : Int), 0 ≤ shallow t d l → (mass t : Int) + shallow t d l ≤ l
  | .mk _ w ks, d, l, h => by
    simp only [shallow] at h ⊢
    split at h
    · omega
    · rename_i hc
      rw [if_neg hc]
      have := shallowK_mass ks (d - 1) (l - 1 - w.length) h
      simp only [mass]
      omega
theorem shallowK_mass : ∀ (ks : List Tree) (d l : Int), 0 ≤ shallowK ks d l → (massK ks : Int) + shallowK ks d l ≤ l
  | [], d, l, h => by simp [shallowK, massK]
  | t :: r, d, l, h => by
    simp only [shallowK] at h ⊢
    split at h
    · omega
    · rename_i hc
      rw [if_neg hc]
      have h1 := shallowK_mass r d (shallow t d l) h
      have h3 := (shallowK_range r d (shallow t d l) (shallow_range t d l).1).2
      have h2 := shallow_mass t d l (by omega)
      simp only [massK]
      omega
end
end Go.AM.Ytpjenobkibfpcaa

namespace Go.AM.Ytpjenobkibfpcaa
open Go.AM Go.Proofs
theorem ends_bool {n k : Nat} {rs : List ResultVar} {b b' : Bool} (hr : rs = [ResultVar.tmp k]) (h : b = b') : EndsQ cfg n rs (.c (.bool b')) [] .ret (⟨[(k, .c (.bool b))], [], []⟩ : LSt U) := by
  subst hr h
  have hk : Nat.beq k k = true := Nat.beq_refl k
  simp [EndsQ, Ends, EndsL, LsEnd, resAll, resOne, LSt.toF, look, hk, partsV, resTok, passC, passC1, leR, leL, leC, XEnd]
theorem ends_int {n k : Nat} {rs : List ResultVar} {K : IntKind} {b b' : Int} (hr : rs = [ResultVar.tmp k]) (h : b = b') : EndsQ cfg n rs (.c (.int K b')) [] .ret (⟨[(k, .c (.int K b))], [], []⟩ : LSt U) := by
  subst hr h
  have hk : Nat.beq k k = true := Nat.beq_refl k
  simp [EndsQ, Ends, EndsL, LsEnd, resAll, resOne, LSt.toF, look, hk, partsV, resTok, passC, passC1, leR, leL, leC, XEnd]
theorem c116 : Contract Try.prog cfg 116 spec116 := by
  refine make116 ?_
  intro c _ _
  refine vc116 _ _ ?_
  (simp only [vcS])
  refine ⟨fun h => ends_int rfl ?_, fun h => ⟨fun h => ends_int rfl ?_, fun h => ⟨fun h => ends_int rfl ?_, fun h => ⟨fun h => ends_int rfl ?_, fun h => ⟨fun h => ends_int rfl ?_, fun h => ⟨fun h => ends_int rfl ?_, fun h => ends_int rfl ?_⟩⟩⟩⟩⟩⟩ <;> simp only [wd] <;> simp [*]
theorem wd_le (c : Int) : -1 ≤ wd c ∧ wd c ≤ 64 := by
  unfold wd
  repeat' split
  all_goals omega
theorem wrap64_div (n : Int) (h0 : 0 ≤ n) (h1 : n < 18446744073709551616) : IntKind.wrap .u64 (Int.tdiv n 2) = n / 2 := by
  rw [Int.tdiv_eq_ediv_of_nonneg h0]
  simp [IntKind.wrap, IntKind.signed, IntKind.bits]
  omega
theorem pow_half {w : Nat} {n m : Int} (h : 0 ≤ n) : (n / 2 < 2 ^ w) ↔ n < 2 ^ (w + 1) := by
  have : (2 : Int) ^ (w + 1) = 2 ^ w * 2 := by rw [Int.pow_succ]
  omega
theorem c79 : Contract Try.prog cfg 79 spec79 := by
  refine make79 c116 ?_
  intro c n _ hp
  simp only [pre79] at hp
  have hw := wd_le c
  refine vc79 _ _ _ ?_
  (simp only [vcS])
  refine ⟨trivial, fun h => ends_bool rfl ?_, fun h => ?_⟩
  · simp only [fits]
    simp
    omega
  · refine loop_rule (ι := Int × Int) (fun p => head79_0 c n p.1 p.2) (fun p => 0 ≤ p.2 ∧ p.2 ≤ wd c ∧ 0 ≤ p.1 ∧ p.1 < 18446744073709551616 ∧ (n < 2 ^ (wd c).toNat ↔ p.1 < 2 ^ (wd c - p.2).toNat)) (fun p => (wd c - p.2).toNat) (n, 0) rfl ⟨by dsimp only; omega, by dsimp only; omega, by dsimp only; omega, by dsimp only; omega, by simp⟩ ?_
    rintro ⟨m, i⟩ ⟨h1, h2, h3, h4, h5⟩
    dsimp only at *
    refine vc79_l0 _ _ _ _ _ _ ?_
    (simp only [vcS])
    refine ⟨fun hc => ⟨by omega, by unfold InR; omega, (IntKind.wrap .u64 (Int.tdiv m 2), i + 1), rfl, ?_, by dsimp only; omega⟩, fun hc => ends_bool rfl ?_⟩
    · rw [wrap64_div m h3 h4]
      refine ⟨by dsimp only; omega, by dsimp only; omega, by dsimp only; omega, by dsimp only; omega, ?_⟩
      dsimp only
      rw [h5, show (wd c - i).toNat = (wd c - (i + 1)).toNat + 1 by omega]
      exact (pow_half (m := 0) h3).symm
    · have e : (wd c - i).toNat = 0 := by omega
      rw [e] at h5
      simp only [fits]
      rw [Bool.eq_iff_iff]
      simp
      omega
theorem c194 : Contract Try.prog cfg 194 spec194 := by
  refine make194 ?_
  intro c _ _
  refine vc194 _ _ ?_
  (simp only [vcS])
  have hw := wd_le c
  refine ⟨fun h => ?_, fun h => ⟨by omega, ?_⟩⟩
  · have e : wd c = -1 := by unfold wd; repeat' split
                             all_goals omega
    simp only [res194, e]
    exact ⟨⟨rfl, ⟨⟨rfl, rfl⟩, trivial⟩, rfl, ⟨rfl, trivial⟩, trivial⟩, trivial⟩
  · have hc : c = 0 ∨ c = 1 ∨ c = 2 ∨ c = 3 ∨ c = 4 ∨ c = 5 := by omega
    rcases hc with rfl | rfl | rfl | rfl | rfl | rfl <;> exact ⟨⟨rfl, ⟨⟨rfl, rfl⟩, trivial⟩, rfl, ⟨rfl, trivial⟩, trivial⟩, trivial⟩
theorem fdiv_pow (n : Int) (w : Nat) (h : 0 ≤ n) : (Int.fdiv n (2 ^ w) = 0) ↔ n < 2 ^ w := by
  have hp : (0 : Int) < 2 ^ w := Int.pow_pos (by omega)
  rw [Int.fdiv_eq_ediv_of_nonneg _ (by omega)]
  constructor
  · intro h1
    have := Int.lt_ediv_add_one_mul_self n hp
    rw [h1] at this
    simpa using this
  · intro h1
    exact Int.ediv_eq_zero_of_lt h h1
theorem c183 : Contract Try.prog cfg 183 spec183 := by
  refine make183 c194 ?_
  intro c n _ hp
  simp only [pre183] at hp
  have hw := wd_le c
  refine vc183 _ _ _ ?_
  refine ⟨trivial, fun h => by split <;> omega, ends_bool rfl ?_⟩
  simp only [fits]
  by_cases h0 : 0 ≤ wd c
  · rw [if_neg (by omega)]
    simp only [h0, decide_true, cond_true, true_and]
    by_cases h64 : wd c = 64
    · simp [h64]
      omega
    · have : ((wd c) == 64) = false := by simpa using h64
      rw [this, cond_false, Bool.eq_iff_iff]
      have hm : min (wd c).toNat (IntKind.bits .u64) = (wd c).toNat := by
        show min (wd c).toNat 64 = _
        omega
      rw [hm]
      simp only [beq_iff_eq, decide_eq_true_eq]
      exact fdiv_pow n _ hp.1
  · simp [h0]
theorem c92 : Contract Try.prog cfg 92 spec92 := by
  refine make92 ?_
  intro c _ _
  refine vc92 _ _ ?_
  refine ends_bool rfl ?_
  rw [Bool.eq_iff_iff]
  (simp only [vcS])
theorem c120 : Contract Try.prog cfg 120 spec120 := by
  refine make120 ?_
  intro c _ _
  refine vc120 _ _ ?_
  refine ends_bool rfl ?_
  rw [Bool.eq_iff_iff]
  (simp only [vcS])
theorem rng_word {t : Tree} (h : rng t) {i : Nat} (hi : i < t.words.length) : 0 ≤ t.words.getD i 0 ∧ t.words.getD i 0 < 18446744073709551616 := by
  obtain ⟨k, w, ks⟩ := t
  simp only [rng] at h
  simp only [Tree.words_mk] at *
  have hg : w.getD i 0 ∈ w := by
    simp only [List.getD, List.getElem?_eq_getElem hi, Option.getD_some]
    exact List.getElem_mem hi
  exact h.2.1 _ hg
theorem c162 : Contract Try.prog cfg 162 spec162 := by
  refine make162 c120 c183 ?_
  intro l t _ hp
  simp only [pre162] at hp
  refine vc162 _ _ _ ?_
  (simp only [vcS])
  refine ⟨trivial, fun hd => ⟨fun _ => by unfold InR; omega, fun h => by omega, fun h => rng_word hp (by omega), ends_bool rfl ?_⟩, fun hd => ⟨fun h => ends_bool rfl ?_, fun h => ends_bool rfl ?_⟩⟩
  · simp only [kidB, if_pos hd, Int.toNat_zero]
    rw [Bool.eq_iff_iff]
    (simp only [vcS])
    constructor <;> (rintro ⟨h1, h2⟩; exact ⟨by omega, h2⟩)
  · simp only [kidB, if_neg hd, if_pos h]
    rw [Bool.eq_iff_iff]
    (simp only [vcS])
  · simp only [kidB, if_neg hd, if_neg h]
    rw [Bool.eq_iff_iff]
    (simp only [vcS])
theorem rightK_drop {l : Int} {ks : List Tree} {i : Int} {d : Int} (h0 : 0 ≤ i) (h : i < ks.length) :
    rightK l (ks.drop i.toNat) d = ((kidB l (ks.getD i.toNat Tree.nil) && rightT (ks.getD i.toNat Tree.nil) d) && rightK l (ks.drop (i + 1).toNat) d) := by
  have e : (i + 1).toNat = i.toNat + 1 := by omega
  rw [List.drop_eq_getElem_cons (by omega), e]
  simp only [rightK, List.getD, List.getElem?_eq_getElem (show i.toNat < ks.length by omega), Option.getD_some]
theorem rngK_get : ∀ {ks : List Tree} {i : Nat}, rngK ks → i < ks.length → rng (ks.getD i Tree.nil)
  | t :: _, 0, h, _ => by simp only [rngK] at h; exact h.1
  | _ :: r, i + 1, h, hi => by simp only [rngK] at h; exact rngK_get (ks := r) (i := i) h.2 (by simpa using hi)
theorem kidB_one (t : Tree) : kidB 1 t = decide (t.kind ≠ 10) := by simp [kidB]
theorem c117 : Contract Try.prog cfg 117 spec117 := by
  refine make117 c92 c162 ?_
  rintro N ⟨k, ws, ks⟩ d _ hp hN
  simp only [pre117, mu117, mass, rng] at hp hN
  have key : ∀ b, d ≠ 0 → rightT (.mk k ws ks) d = (b && rightK k ks (d - 1)) → b = true →
      LoopWp (awp cfg (know (know117 N)) (drawOk cfg (know (know117 N))) Try.f117.ntmps lv117 (cd Try.f117 [1, 1, 0, 1, 0, 0])) (head117_0 (.mk k ws ks) d 0) (AExit.inBlock 1 (seqK cfg (know (know117 N)) (drawOk cfg (know (know117 N))) Try.f117.ntmps lv117 (cd Try.f117 [1, 1, 1]) (EndsQ cfg Try.f117.ntmps Try.f117.results.toList (res117 (.mk k ws ks, d, ())) []))) := by
    intro b hd0 hb hbt
    subst hbt
    rw [Bool.true_and] at hb
    refine loop_rule (ι := Int) (fun p => head117_0 (.mk k ws ks) d p) (fun p => 0 ≤ p ∧ p ≤ ks.length ∧ rightT (.mk k ws ks) d = rightK k (ks.drop p.toNat) (d - 1)) (fun p => ((ks.length : Int) - p).toNat) 0 rfl ⟨by omega, by omega, by simpa using hb⟩ ?_
    rintro i ⟨h1, h2, h3⟩
    refine vc117_l0 N _ _ _ _ _ ?_
    (simp only [vcS])
    (simp only [Tree.eta, Edit.eta, Tree.kind_mk, Tree.words_mk, Tree.kids_mk])
    refine ⟨fun hi => ⟨⟨by omega, hi⟩, ?_⟩, fun hi => ?_⟩
    · have hd := rightK_drop (l := k) (d := d - 1) h1 hi
      have hm := massK_get (ks := ks) (i := i.toNat) (by omega)
      have hr := rngK_get (i := i.toNat) hp.2.1.2.2 (by omega)
      rw [hd] at h3
      have hlen := massK_len ks
      generalize ks.getD i.toNat Tree.nil = y at *
      have hpre : pre117 (y, d - 1, ()) := ⟨by dsimp only; omega, hr, by dsimp only; omega, by dsimp only; omega⟩
      have hmu : mu117 (y, d - 1, ()) < N := by simp only [mu117]; omega
      have hin : InR (d - 1) := by unfold InR; omega
      refine ⟨fun hk => ⟨hr, fun _ => hin, fun _ => hpre, fun _ => hmu, fun hc => ends_bool rfl ?_, fun hc => ⟨by unfold InR; omega, i + 1, rfl, ⟨by omega, by omega, ?_⟩, by omega⟩⟩, fun hk => ⟨fun _ => hin, fun _ => hpre, fun _ => hmu, fun hc => ends_bool rfl ?_, fun hc => ⟨by unfold InR; omega, i + 1, rfl, ⟨by omega, by omega, ?_⟩, by omega⟩⟩⟩
      · rw [h3]
        rcases hc with hc | hc <;> simp [hc]
      · rw [h3, hc.1, hc.2]; rfl
      · subst hk
        rw [h3, kidB_one]
        rcases hc with hc | hc <;> simp [hc]
      · subst hk
        rw [h3, kidB_one, hc.2]
        simp [hc.1]
    · rw [List.drop_eq_nil_of_le (by omega)] at h3
      simp only [rightK] at h3
      exact ends_bool rfl h3.symm
  refine vc117 N _ _ _ ?_
  (simp only [vcS])
  (simp only [Tree.eta, Edit.eta, Tree.kind_mk, Tree.words_mk, Tree.kids_mk])
  have hk0 : ∀ h0 : k = 0, rightT (.mk k ws ks) d = decide (ws.length = 0 ∧ ks.length = 0) := fun h0 => by simp only [rightT, if_pos h0]
  have hk10 : ∀ (_ : ¬k = 0) (h10 : k = 10), rightT (.mk k ws ks) d = decide (ws.length = 1 ∧ ks.length = 0) := fun h0 h10 => by simp only [rightT, if_neg h0, if_pos h10]
  refine ⟨fun h0 => ends_bool rfl ?_, fun h0 => ⟨fun h10 => ends_bool rfl ?_, fun h10 => ⟨fun hd => ends_bool rfl ?_, fun hd => ⟨fun h1 => ⟨fun hc => ends_bool rfl ?_, fun hc => key true hd ?_ rfl⟩, fun h1 => ⟨trivial, fun hc => ends_bool rfl ?_, fun hc => key true hd ?_ rfl⟩⟩⟩⟩⟩
  · rw [hk0 h0, Bool.eq_iff_iff]; (simp only [vcS]); omega
  · rw [hk10 h0 h10, Bool.eq_iff_iff]; (simp only [vcS]); omega
  · simp only [rightT, if_neg h0, if_neg h10, if_pos hd]
  · simp only [rightT, if_neg h0, if_neg h10, if_neg hd, if_pos h1]
    rw [decide_eq_false (by omega)]; rfl
  · simp only [rightT, if_neg h0, if_neg h10, if_neg hd, if_pos h1]
    rw [decide_eq_true (by omega), h1]
  · simp only [rightT, if_neg h0, if_neg h10, if_neg hd, if_neg h1]
    rw [decide_eq_false (by omega)]; rfl
  · simp only [rightT, if_neg h0, if_neg h10, if_neg hd, if_neg h1]
    rw [decide_eq_true (by omega)]
theorem c80 : Contract Try.prog cfg 80 spec80 := by
  refine make80 c117 ?_
  intro t _ hp
  refine vc80 _ _ ?_
  (simp only [Tree.eta, Edit.eta, Tree.kind_mk, Tree.words_mk, Tree.kids_mk])
  exact ⟨⟨hp.1, hp.2, by dsimp only; omega, by dsimp only; omega⟩, ends_bool rfl rfl⟩
theorem rightT_atom {y : Tree} {d : Int} (h : rightT y d = true) (hk : y.kind = 10) : y.words.length = 1 ∧ y.kids.length = 0 := by
  obtain ⟨k, w, ks⟩ := y
  simp only [Tree.kind_mk] at hk
  subst hk
  simpa [rightT] using h
theorem c37 : Contract Try.prog cfg 37 spec37 := by
  refine make37 c79 ?_
  rintro N ⟨k, ws, ks⟩ d _ hp hN
  simp only [pre37, mu37, mass, rng] at hp hN
  refine vc37 N _ _ _ ?_
  (simp only [vcS])
  (simp only [Tree.eta, Edit.eta, Tree.kind_mk, Tree.words_mk, Tree.kids_mk])
  refine ⟨fun h0 => ends_bool rfl ?_, fun h0 => ⟨fun h10 => ends_bool rfl ?_, fun h10 => ⟨fun hc => ends_bool rfl ?_, fun hc => ⟨fun hw => ends_bool rfl ?_, fun hw => ?_⟩⟩⟩⟩
  · simp only [rightT, if_pos h0]
    rw [Bool.eq_iff_iff]; (simp only [vcS]); omega
  · simp only [rightT, if_neg h0, if_pos h10]
    rw [Bool.eq_iff_iff]; (simp only [vcS]); omega
  · simp only [rightT, if_neg h0, if_neg h10]
    split
    · rfl
    · split
      · rw [decide_eq_false (by omega)]; rfl
      · have : ¬(2 ≤ k ∧ k ≤ 9 ∧ ws.length = 0 ∧ ks.length < 1048576) := by omega
        rw [decide_eq_false this]; rfl
  · simp only [rightT, if_neg h0, if_neg h10]
    rw [if_neg (by omega), if_neg (by omega)]
    have : ¬(2 ≤ k ∧ k ≤ 9 ∧ ws.length = 0 ∧ ks.length < 1048576) := by omega
    rw [decide_eq_false this]; rfl
  · have hb : rightT (.mk k ws ks) d = rightK k ks (d - 1) := by
      simp only [rightT, if_neg h0, if_neg h10]
      rw [if_neg (by omega)]
      split
      · rename_i h1
        rw [decide_eq_true (by omega), h1]; rfl
      · have : 2 ≤ k ∧ k ≤ 9 ∧ ws.length = 0 ∧ ks.length < 1048576 := by omega
        rw [decide_eq_true this]; rfl
    refine loop_rule (ι := Int) (fun p => head37_0 (.mk k ws ks) d p) (fun p => 0 ≤ p ∧ p ≤ ks.length ∧ rightT (.mk k ws ks) d = rightK k (ks.drop p.toNat) (d - 1)) (fun p => ((ks.length : Int) - p).toNat) 0 rfl ⟨by omega, by omega, by simpa using hb⟩ ?_
    rintro i ⟨h1, h2, h3⟩
    refine vc37_l0 N _ _ _ _ _ ?_
    (simp only [vcS])
    (simp only [Tree.eta, Edit.eta, Tree.kind_mk, Tree.words_mk, Tree.kids_mk])
    refine ⟨fun hi => ?_, fun hi => ?_⟩
    · have hd := rightK_drop (l := k) (d := d - 1) h1 hi
      have hm := massK_get (ks := ks) (i := i.toNat) (by omega)
      have hr := rngK_get (i := i.toNat) hp.2.1.2.2 (by omega)
      rw [hd] at h3
      have hlen := massK_len ks
      generalize ks.getD i.toNat Tree.nil = y at *
      have hpre : pre37 (y, d - 1, ()) := ⟨by dsimp only; omega, hr, by dsimp only; omega, by dsimp only; omega⟩
      have hmu : mu37 (y, d - 1, ()) < N := by simp only [mu37]; omega
      have hin : InR (d - 1) := by unfold InR; omega
      refine ⟨⟨h1, hi⟩, hin, hpre, hmu, fun hf => ends_bool rfl ?_, fun hf => ?_⟩
      · rw [h3, hf]; simp
      · have hdata : ((bif decide (2 ≤ k) then decide (k ≤ 7) else false) = (y.kind == 10)) ↔ ((2 ≤ k ∧ k ≤ 7) ↔ y.kind = 10) := by
          rw [Bool.eq_iff_iff]; (simp only [vcS])
        have hat := rightT_atom hf
        have hkb : kidB k y = true ↔ (((2 ≤ k ∧ k ≤ 7) ↔ y.kind = 10) ∧ (¬k = 9 ∨ y.kind = 1)) ∧ ((¬2 ≤ k ∨ ¬k ≤ 7) ∨ fits (k - 2) (y.words.getD 0 0) = true) := by
          unfold kidB
          by_cases hk : 2 ≤ k ∧ k ≤ 7
          · rw [if_pos hk]
            (simp only [vcS])
            constructor
            · rintro ⟨h4, h5⟩; exact ⟨⟨by omega, by omega⟩, .inr h5⟩
            · rintro ⟨⟨h4, _⟩, h5⟩
              have := hat (by omega)
              exact ⟨by omega, by rcases h5 with h5 | h5; omega; exact h5⟩
          · rw [if_neg hk]
            by_cases h9 : k = 9
            · rw [if_pos h9]
              (simp only [vcS])
              constructor
              · intro h4; exact ⟨⟨by omega, by omega⟩, .inl (by omega)⟩
              · rintro ⟨⟨_, h4⟩, _⟩; omega
            · rw [if_neg h9]
              (simp only [vcS])
              constructor
              · intro h4; exact ⟨⟨by omega, by omega⟩, .inl (by omega)⟩
              · rintro ⟨⟨h4, _⟩, _⟩; omega
        have hone : ∀ (h4 : (((bif decide (2 ≤ k) then decide (k ≤ 7) else false) = (y.kind == 10) ∧ (¬k = 9 ∨ y.kind = 1)) ∧ 2 ≤ k ∧ k ≤ 7)), y.words.length = 1 := fun h4 => (hat ((hdata.1 h4.1.1).1 h4.2)).1
        simp only [Int.toNat_zero]
        refine ⟨fun h4 => by unfold InR; omega, fun h4 => by have := hone h4; omega, fun h4 => rng_word hr (by have := hone h4; omega), fun h4 => ends_bool rfl ?_, fun h4 => ⟨by unfold InR; omega, i + 1, rfl, ⟨by omega, by omega, ?_⟩, by omega⟩⟩
        · have hno : kidB k y = false := by
            cases hkk : kidB k y with
            | false => rfl
            | true =>
              exfalso
              obtain ⟨h5, h6⟩ := hkb.1 hkk
              rcases h4 with h4 | ⟨h4, h7⟩
              · rcases h4 with h4 | h4
                · exact h4 (hdata.2 h5.1)
                · omega
              · rcases h6 with h6 | h6
                · omega
                · rw [h7] at h6; cases h6
          rw [h3, hno]; rfl
        · rw [h3, hkb.2 ⟨⟨hdata.1 h4.1.1, h4.1.2⟩, h4.2⟩, hf]; rfl
    · rw [List.drop_eq_nil_of_le (by omega)] at h3
      simp only [rightK] at h3
      exact ends_bool rfl h3.symm
theorem few_mass' {t : Tree} (h : 0 ≤ shallow t 80 3000) : mass t ≤ 20000000000 := by
  have := shallow_mass t 80 3000 h
  omega
end Go.AM.Ytpjenobkibfpcaa
