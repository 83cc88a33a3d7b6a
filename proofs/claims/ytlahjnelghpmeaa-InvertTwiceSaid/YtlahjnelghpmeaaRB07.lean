/- Printed by program: what is known of each function, and the conditions that its code comes to. -/
import Derived.Test.YtlahjnelghpmeaaB07
set_option linter.unusedSimpArgs false
set_option linter.unusedVariables false
namespace Go.AM.Ytlahjnelghpmeaa
open Go.AM Go.Proofs

def args112 : ArgL (Int × Unit) := (.cons (aInt .i64) .nil)
def pre112 (a : Int × Unit) : Prop := True
noncomputable def res112 (a : Int × Unit) : V U := .c (.int .i64 (wd a.1))
noncomputable def spec112 : Fs U := fs args112 (fun a => [pre112 a]) res112

def args81 : ArgL (Int × Int × Unit) := (.cons (aInt .i64) (.cons (aInt .u64) .nil))
def pre81 (a : Int × Int × Unit) : Prop := 0 ≤ a.2.1 ∧ a.2.1 < 18446744073709551616
noncomputable def res81 (a : Int × Int × Unit) : V U := .c (.bool (fits a.1 a.2.1))
noncomputable def spec81 : Fs U := fs args81 (fun a => [pre81 a]) res81

def args47 : ArgL (Tree × Int × Unit) := (.cons (aEl .tree) (.cons (aInt .i64) .nil))
def pre47 (a : Tree × Int × Unit) : Prop := mass a.1 ≤ 1000000 ∧ rng a.1 ∧ 0 ≤ a.2.1 ∧ a.2.1 ≤ 1000
def mu47 (a : Tree × Int × Unit) : Nat := mass a.1
noncomputable def res47 (a : Tree × Int × Unit) : V U := .c (.bool (rightT a.1 a.2.1))
noncomputable def spec47 : Fs U := fs args47 (fun a => [pre47 a]) res47

noncomputable def know112 : List (FuncId × Fs U) := []
def lv112 : Lives U := fun i => match i with
  | 0 => ([(0, [])], [])
  | 1 => ([(3, [])], [])
  | 2 => ([(3, []), (4, [])], [])
  | 3 => ([(2, [])], [])
  | 4 => ([(3, []), (6, [])], [])
  | 5 => ([(2, [])], [])
  | 6 => ([(3, []), (8, [])], [])
  | 7 => ([(2, [])], [])
  | 8 => ([(3, []), (10, [])], [])
  | 9 => ([(2, [])], [])
  | 10 => ([(3, []), (12, [])], [])
  | 11 => ([(2, [])], [])
  | 12 => ([(14, [])], [])
  | 13 => ([(2, [])], [])
  | 14 => ([(2, [])], [])
  | _ => ([], [])
theorem vc112 (c : Int) (Q : AExit → LSt U → Prop) (h : (((c : Int) == 0) = true → Q .ret (⟨[(2, .c (.int .i64 0))], [], []⟩ : LSt U)) ∧ (((c : Int) == 0) = false → (((c : Int) == 1) = true → Q .ret (⟨[(2, .c (.int .i64 1))], [], []⟩ : LSt U)) ∧ (((c : Int) == 1) = false → (((c : Int) == 2) = true → Q .ret (⟨[(2, .c (.int .i64 8))], [], []⟩ : LSt U)) ∧ (((c : Int) == 2) = false → (((c : Int) == 3) = true → Q .ret (⟨[(2, .c (.int .i64 16))], [], []⟩ : LSt U)) ∧ (((c : Int) == 3) = false → (((c : Int) == 4) = true → Q .ret (⟨[(2, .c (.int .i64 32))], [], []⟩ : LSt U)) ∧ (((c : Int) == 4) = false → (((c : Int) == 5) = true → Q .ret (⟨[(2, .c (.int .i64 64))], [], []⟩ : LSt U)) ∧ (((c : Int) == 5) = false → Q .ret (⟨[(2, .c (.int .i64 (-1)))], [], []⟩ : LSt U)))))))) :
    awp cfg (know know112) (drawOk cfg (know know112)) Try.f112.ntmps lv112 (cd Try.f112 []) (⟨[(0, .c (.int .i64 c))], [], []⟩ : LSt U) Q := by
  have e : (awp cfg (know know112) (drawOk cfg (know know112)) Try.f112.ntmps lv112 (cd Try.f112 []) (⟨[(0, .c (.int .i64 c))], [], []⟩ : LSt U) Q) = (((((((c : Int) == 0) = true → (Q .ret (⟨[(2, .c (.int .i64 0))], [], []⟩ : LSt U))) ∧ (((c : Int) == 0) = false → ((((c : Int) == 1) = true → (Q .ret (⟨[(2, .c (.int .i64 1))], [], []⟩ : LSt U))) ∧ (((c : Int) == 1) = false → ((((c : Int) == 2) = true → (Q .ret (⟨[(2, .c (.int .i64 8))], [], []⟩ : LSt U))) ∧ (((c : Int) == 2) = false → ((((c : Int) == 3) = true → (Q .ret (⟨[(2, .c (.int .i64 16))], [], []⟩ : LSt U))) ∧ (((c : Int) == 3) = false → ((((c : Int) == 4) = true → (Q .ret (⟨[(2, .c (.int .i64 32))], [], []⟩ : LSt U))) ∧ (((c : Int) == 4) = false → ((((c : Int) == 5) = true → (Q .ret (⟨[(2, .c (.int .i64 64))], [], []⟩ : LSt U))) ∧ (((c : Int) == 5) = false → (Q .ret (⟨[(2, .c (.int .i64 (-1)))], [], []⟩ : LSt U))))))))))))))))) := by kernel_rfl
  exact e.mpr ⟨fun c_1 => (h.1 c_1), fun c_1 => ⟨fun c_2 => ((h.2 c_1).1 c_2), fun c_2 => ⟨fun c_3 => (((h.2 c_1).2 c_2).1 c_3), fun c_3 => ⟨fun c_4 => ((((h.2 c_1).2 c_2).2 c_3).1 c_4), fun c_4 => ⟨fun c_5 => (((((h.2 c_1).2 c_2).2 c_3).2 c_4).1 c_5), fun c_5 => ⟨fun c_6 => ((((((h.2 c_1).2 c_2).2 c_3).2 c_4).2 c_5).1 c_6), fun c_6 => ((((((h.2 c_1).2 c_2).2 c_3).2 c_4).2 c_5).2 c_6)⟩⟩⟩⟩⟩⟩
def Body112 (c : Int)  : Prop := awp cfg (know (know112)) (drawOk cfg (know (know112))) Try.f112.ntmps lv112 (cd Try.f112 []) (entry (args112.can (c, ())) []) (EndsQ cfg Try.f112.ntmps Try.f112.results.toList (res112 (c, ())) [])
theorem make112 (hb : ∀ (c : Int) (_ : Unit), pre112 (c, ()) → Body112 c) : Contract Try.prog cfg 112 spec112 :=
  contract_flat (l := []) cfgOk rfl (trivial) lv112 Try.func112 rfl rfl 1 (fun _ => rfl) (by decide) (fun ⟨c, _⟩ => hb c ())

noncomputable def know81 : List (FuncId × Fs U) := [(112, spec112)]
def lv81 : Lives U := fun i => match i with
  | 0 => ([(0, []), (1, [])], [])
  | 1 => ([(1, []), (5, [])], [])
  | 2 => ([(1, []), (5, []), (10, [])], [])
  | 3 => ([(4, [])], [])
  | 4 => ([(1, []), (5, []), (6, [])], [])
  | 5 => ([(1, []), (5, []), (6, []), (13, [])], [])
  | 6 => ([(1, []), (5, []), (6, [])], [])
  | 7 => ([(1, []), (5, []), (6, [])], [])
  | 8 => ([(4, [])], [])
  | _ => ([], [])
def head81_0 (c : Int) (n : Int) (x1 : Int) (x6 : Int) : LSt U := (⟨[(1, .c (.int .u64 x1)), (5, .c (.int .i64 (wd c))), (6, .c (.int .i64 x6))], [], []⟩ : LSt U)
theorem vc81 (c : Int) (n : Int) (Q : AExit → LSt U → Prop) (h : (pre112 (c, ())) ∧ (((decide (((wd c) : Int) < 0)) = true → Q .ret (⟨[(4, .c (.bool false))], [], []⟩ : LSt U)) ∧ ((decide (((wd c) : Int) < 0)) = false → LoopWp (awp cfg (know know81) (drawOk cfg (know know81)) Try.f81.ntmps lv81 (cd Try.f81 [1, 1, 1, 0, 1, 0, 0])) (head81_0 c n n 0) (AExit.inBlock 0 (seqK cfg (know know81) (drawOk cfg (know know81)) Try.f81.ntmps lv81 (cd Try.f81 [1, 1, 1, 1]) Q))))) :
    awp cfg (know know81) (drawOk cfg (know know81)) Try.f81.ntmps lv81 (cd Try.f81 []) (⟨[(0, .c (.int .i64 c)), (1, .c (.int .u64 n))], [], []⟩ : LSt U) Q := by
  have e : (awp cfg (know know81) (drawOk cfg (know know81)) Try.f81.ntmps lv81 (cd Try.f81 []) (⟨[(0, .c (.int .i64 c)), (1, .c (.int .u64 n))], [], []⟩ : LSt U) Q) = (((pre112 (c, ())) ∧ ((((decide (((wd c) : Int) < 0)) = true → (Q .ret (⟨[(4, .c (.bool false))], [], []⟩ : LSt U))) ∧ ((decide (((wd c) : Int) < 0)) = false → (LoopWp (awp cfg (know know81) (drawOk cfg (know know81)) Try.f81.ntmps lv81 (cd Try.f81 [1, 1, 1, 0, 1, 0, 0])) (head81_0 c n n 0) (AExit.inBlock 0 (seqK cfg (know know81) (drawOk cfg (know know81)) Try.f81.ntmps lv81 (cd Try.f81 [1, 1, 1, 1]) Q)))))))) := by kernel_rfl
  exact e.mpr ⟨h.1, ⟨fun c_7 => (h.2.1 c_7), fun c_7 => (h.2.2 c_7)⟩⟩
theorem vc81_l0 (c : Int) (n : Int) (x1 : Int) (x6 : Int) (N0 : LSt U → Prop) (Q : AExit → LSt U → Prop) (h : ((decide ((x6 : Int) < (wd c))) = true → ((2 : Int) ≠ 0) ∧ ((InR ((x6 : Int) + 1)) ∧ (N0 (head81_0 c n (IntKind.wrap .u64 (Int.tdiv x1 2)) ((x6 : Int) + 1))))) ∧ ((decide ((x6 : Int) < (wd c))) = false → Q .ret (⟨[(4, .c (.bool ((x1 : Int) == 0)))], [], []⟩ : LSt U))) :
    awp cfg (know know81) (drawOk cfg (know know81)) Try.f81.ntmps lv81 (cd Try.f81 [1, 1, 1, 0, 1, 0, 0]) (head81_0 c n x1 x6) (AExit.then N0 (AExit.inBlock 0 (seqK cfg (know know81) (drawOk cfg (know know81)) Try.f81.ntmps lv81 (cd Try.f81 [1, 1, 1, 1]) Q))) := by
  have e : (awp cfg (know know81) (drawOk cfg (know know81)) Try.f81.ntmps lv81 (cd Try.f81 [1, 1, 1, 0, 1, 0, 0]) (head81_0 c n x1 x6) (AExit.then N0 (AExit.inBlock 0 (seqK cfg (know know81) (drawOk cfg (know know81)) Try.f81.ntmps lv81 (cd Try.f81 [1, 1, 1, 1]) Q)))) = ((((decide ((x6 : Int) < (wd c))) = true → ((2 : Int) ≠ 0) ∧ ((InR ((x6 : Int) + 1)) ∧ (N0 (head81_0 c n (IntKind.wrap .u64 (Int.tdiv x1 2)) ((x6 : Int) + 1))))) ∧ ((decide ((x6 : Int) < (wd c))) = false → (Q .ret (⟨[(4, .c (.bool ((x1 : Int) == 0)))], [], []⟩ : LSt U))))) := by kernel_rfl
  exact e.mpr ⟨fun c_8 => ⟨(h.1 c_8).1, ⟨(h.1 c_8).2.1, (h.1 c_8).2.2⟩⟩, fun c_8 => (h.2 c_8)⟩
def Body81 (c : Int) (n : Int)  : Prop := awp cfg (know (know81)) (drawOk cfg (know (know81))) Try.f81.ntmps lv81 (cd Try.f81 []) (entry (args81.can (c, n, ())) []) (EndsQ cfg Try.f81.ntmps Try.f81.results.toList (res81 (c, n, ())) [])
theorem make81 (c112 : Contract Try.prog cfg 112 spec112) (hb : ∀ (c : Int) (n : Int) (_ : Unit), pre81 (c, n, ()) → Body81 c n) : Contract Try.prog cfg 81 spec81 :=
  contract_flat (l := [(112, spec112)]) cfgOk rfl (⟨c112, trivial⟩) lv81 Try.func81 rfl rfl 2 (fun _ => rfl) (by decide) (fun ⟨c, n, _⟩ => hb c n ())

noncomputable def know47 (N : Nat) : List (FuncId × Fs U) := (47, fs args47 (fun a => [pre47 a, mu47 a < N]) res47) :: [(81, spec81)]
def lv47 : Lives U := fun i => match i with
  | 0 => ([(1, []), (2, [])], [((.loc 2), [])])
  | 1 => ([(1, []), (2, []), (10, [])], [((.loc 2), [])])
  | 2 => ([(4, [])], [])
  | 3 => ([(1, []), (2, []), (23, [])], [((.loc 2), [])])
  | 4 => ([(4, [])], [])
  | 5 => ([(1, []), (2, []), (68, [])], [((.loc 2), [])])
  | 6 => ([(4, [])], [])
  | 7 => ([(1, []), (2, []), (77, [])], [((.loc 2), [])])
  | 8 => ([(4, [])], [])
  | 9 => ([(1, []), (2, []), (5, [])], [((.loc 2), [])])
  | 10 => ([(1, []), (2, []), (5, []), (82, [])], [((.loc 2), [])])
  | 11 => ([(1, []), (2, []), (5, [])], [((.loc 2), [])])
  | 12 => ([(1, []), (2, []), (5, []), (6, [])], [((.loc 2), []), ((.loc 6), [])])
  | 13 => ([(1, []), (2, []), (5, []), (6, []), (94, [])], [((.loc 2), []), ((.loc 6), [])])
  | 14 => ([(4, [])], [])
  | 15 => ([(1, []), (2, []), (5, []), (6, []), (7, [])], [((.loc 2), []), ((.loc 6), [])])
  | 16 => ([(1, []), (2, []), (5, []), (131, [])], [((.loc 2), [])])
  | 17 => ([(4, [])], [])
  | 18 => ([(4, [])], [])
  | _ => ([], [])
def head47_0 (t : Tree) (d : Int) (x5 : Int) : LSt U := (⟨[(1, .c (.int .i64 d)), (2, .ptr (.loc 2) 0), (5, .c (.int .i64 x5))], [((.loc 2), [.int .i64 (Tree.kind t), .slice (U := U) .u64 (Tree.words t) .unk, .slice (U := U) .tree (Tree.kids t) .unk])], []⟩ : LSt U)
theorem vc47 (N : Nat) (t : Tree) (d : Int) (Q : AExit → LSt U → Prop) (h : ((((Tree.kind t) : Int) == 0) = true → Q .ret (⟨[(4, .c (.bool (bif ((((Tree.words t).length : Int) : Int) == 0) then ((((Tree.kids t).length : Int) : Int) == 0) else false)))], [], []⟩ : LSt U)) ∧ ((((Tree.kind t) : Int) == 0) = false → ((((Tree.kind t) : Int) == 10) = true → Q .ret (⟨[(4, .c (.bool (bif ((((Tree.words t).length : Int) : Int) == 1) then ((((Tree.kids t).length : Int) : Int) == 0) else false)))], [], []⟩ : LSt U)) ∧ ((((Tree.kind t) : Int) == 10) = false → ((bif (bif (bif (bif (bif (decide (((Tree.kind t) : Int) < 0)) then true else (decide ((10 : Int) < (Tree.kind t)))) then true else ((d : Int) == 0)) then true else (decide ((65536 : Int) ≤ ((Tree.words t).length : Int)))) then true else (bif (((Tree.kind t) : Int) == 1) then (decide ((65536 : Int) ≤ ((Tree.kids t).length : Int))) else false)) then true else (decide ((1048576 : Int) ≤ ((Tree.kids t).length : Int)))) = true → Q .ret (⟨[(4, .c (.bool false))], [], []⟩ : LSt U)) ∧ ((bif (bif (bif (bif (bif (decide (((Tree.kind t) : Int) < 0)) then true else (decide ((10 : Int) < (Tree.kind t)))) then true else ((d : Int) == 0)) then true else (decide ((65536 : Int) ≤ ((Tree.words t).length : Int)))) then true else (bif (((Tree.kind t) : Int) == 1) then (decide ((65536 : Int) ≤ ((Tree.kids t).length : Int))) else false)) then true else (decide ((1048576 : Int) ≤ ((Tree.kids t).length : Int)))) = false → ((bif (decide ((1 : Int) < (Tree.kind t))) then (decide ((0 : Int) < ((Tree.words t).length : Int))) else false) = true → Q .ret (⟨[(4, .c (.bool false))], [], []⟩ : LSt U)) ∧ ((bif (decide ((1 : Int) < (Tree.kind t))) then (decide ((0 : Int) < ((Tree.words t).length : Int))) else false) = false → LoopWp (awp cfg (know (know47 N)) (drawOk cfg (know (know47 N))) Try.f47.ntmps lv47 (cd Try.f47 [1, 1, 1, 1, 1, 0, 1, 0, 0])) (head47_0 t d 0) (AExit.inBlock 0 (seqK cfg (know (know47 N)) (drawOk cfg (know (know47 N))) Try.f47.ntmps lv47 (cd Try.f47 [1, 1, 1, 1, 1, 1]) Q))))))) :
    awp cfg (know (know47 N)) (drawOk cfg (know (know47 N))) Try.f47.ntmps lv47 (cd Try.f47 []) (⟨[(0, .agg [.int .i64 (Tree.kind t), .slice (U := U) .u64 (Tree.words t) .unk, .slice (U := U) .tree (Tree.kids t) .unk]), (1, .c (.int .i64 d))], [], []⟩ : LSt U) Q := by
  have e : (awp cfg (know (know47 N)) (drawOk cfg (know (know47 N))) Try.f47.ntmps lv47 (cd Try.f47 []) (⟨[(0, .agg [.int .i64 (Tree.kind t), .slice (U := U) .u64 (Tree.words t) .unk, .slice (U := U) .tree (Tree.kids t) .unk]), (1, .c (.int .i64 d))], [], []⟩ : LSt U) Q) = (((((((Tree.kind t) : Int) == 0) = true → (((((Tree.words t).length : Int) : Int) == 0) = true → ((((Tree.words t).length : Int) : Int) == 0) = true) ∧ (((((Tree.words t).length : Int) : Int) == 0) = true → ((((Tree.words t).length : Int) : Int) == 0) = true) ∧ (((((Tree.words t).length : Int) : Int) == 0) = true → ((((Tree.words t).length : Int) : Int) == 0) = true) ∧ ((((((Tree.words t).length : Int) : Int) == 0) = true → ((((Tree.words t).length : Int) : Int) == 0) = true)) ∧ (Q .ret (⟨[(4, .c (.bool (bif ((((Tree.words t).length : Int) : Int) == 0) then ((((Tree.kids t).length : Int) : Int) == 0) else false)))], [], []⟩ : LSt U))) ∧ ((((Tree.kind t) : Int) == 0) = false → (((((Tree.kind t) : Int) == 10) = true → (((((Tree.words t).length : Int) : Int) == 1) = true → ((((Tree.words t).length : Int) : Int) == 1) = true) ∧ (((((Tree.words t).length : Int) : Int) == 1) = true → ((((Tree.words t).length : Int) : Int) == 1) = true) ∧ (((((Tree.words t).length : Int) : Int) == 1) = true → ((((Tree.words t).length : Int) : Int) == 1) = true) ∧ ((((((Tree.words t).length : Int) : Int) == 1) = true → ((((Tree.words t).length : Int) : Int) == 1) = true)) ∧ (Q .ret (⟨[(4, .c (.bool (bif ((((Tree.words t).length : Int) : Int) == 1) then ((((Tree.kids t).length : Int) : Int) == 0) else false)))], [], []⟩ : LSt U))) ∧ ((((Tree.kind t) : Int) == 10) = false → ((!(decide (((Tree.kind t) : Int) < 0))) = true → (!(decide (((Tree.kind t) : Int) < 0))) = true) ∧ ((!(decide (((Tree.kind t) : Int) < 0))) = true → (!(decide (((Tree.kind t) : Int) < 0))) = true) ∧ (((decide (((Tree.kind t) : Int) < 0)) = false → (!(decide (((Tree.kind t) : Int) < 0))) = true)) ∧ ((!(bif (decide (((Tree.kind t) : Int) < 0)) then true else (decide ((10 : Int) < (Tree.kind t))))) = true → (!(bif (decide (((Tree.kind t) : Int) < 0)) then true else (decide ((10 : Int) < (Tree.kind t))))) = true) ∧ (((bif (decide (((Tree.kind t) : Int) < 0)) then true else (decide ((10 : Int) < (Tree.kind t)))) = false → (!(bif (decide (((Tree.kind t) : Int) < 0)) then true else (decide ((10 : Int) < (Tree.kind t))))) = true)) ∧ ((!(bif (bif (decide (((Tree.kind t) : Int) < 0)) then true else (decide ((10 : Int) < (Tree.kind t)))) then true else ((d : Int) == 0))) = true → (!(bif (bif (decide (((Tree.kind t) : Int) < 0)) then true else (decide ((10 : Int) < (Tree.kind t)))) then true else ((d : Int) == 0))) = true) ∧ ((!(bif (bif (decide (((Tree.kind t) : Int) < 0)) then true else (decide ((10 : Int) < (Tree.kind t)))) then true else ((d : Int) == 0))) = true → (!(bif (bif (decide (((Tree.kind t) : Int) < 0)) then true else (decide ((10 : Int) < (Tree.kind t)))) then true else ((d : Int) == 0))) = true) ∧ ((!(bif (bif (decide (((Tree.kind t) : Int) < 0)) then true else (decide ((10 : Int) < (Tree.kind t)))) then true else ((d : Int) == 0))) = true → (!(bif (bif (decide (((Tree.kind t) : Int) < 0)) then true else (decide ((10 : Int) < (Tree.kind t)))) then true else ((d : Int) == 0))) = true) ∧ (((bif (bif (decide (((Tree.kind t) : Int) < 0)) then true else (decide ((10 : Int) < (Tree.kind t)))) then true else ((d : Int) == 0)) = false → (!(bif (bif (decide (((Tree.kind t) : Int) < 0)) then true else (decide ((10 : Int) < (Tree.kind t)))) then true else ((d : Int) == 0))) = true)) ∧ ((!(bif (bif (bif (decide (((Tree.kind t) : Int) < 0)) then true else (decide ((10 : Int) < (Tree.kind t)))) then true else ((d : Int) == 0)) then true else (decide ((65536 : Int) ≤ ((Tree.words t).length : Int))))) = true → (!(bif (bif (bif (decide (((Tree.kind t) : Int) < 0)) then true else (decide ((10 : Int) < (Tree.kind t)))) then true else ((d : Int) == 0)) then true else (decide ((65536 : Int) ≤ ((Tree.words t).length : Int))))) = true) ∧ ((!(bif (bif (bif (decide (((Tree.kind t) : Int) < 0)) then true else (decide ((10 : Int) < (Tree.kind t)))) then true else ((d : Int) == 0)) then true else (decide ((65536 : Int) ≤ ((Tree.words t).length : Int))))) = true → (!(bif (bif (bif (decide (((Tree.kind t) : Int) < 0)) then true else (decide ((10 : Int) < (Tree.kind t)))) then true else ((d : Int) == 0)) then true else (decide ((65536 : Int) ≤ ((Tree.words t).length : Int))))) = true) ∧ ((!(bif (bif (bif (decide (((Tree.kind t) : Int) < 0)) then true else (decide ((10 : Int) < (Tree.kind t)))) then true else ((d : Int) == 0)) then true else (decide ((65536 : Int) ≤ ((Tree.words t).length : Int))))) = true → (!(bif (bif (bif (decide (((Tree.kind t) : Int) < 0)) then true else (decide ((10 : Int) < (Tree.kind t)))) then true else ((d : Int) == 0)) then true else (decide ((65536 : Int) ≤ ((Tree.words t).length : Int))))) = true) ∧ (((!(bif (bif (bif (decide (((Tree.kind t) : Int) < 0)) then true else (decide ((10 : Int) < (Tree.kind t)))) then true else ((d : Int) == 0)) then true else (decide ((65536 : Int) ≤ ((Tree.words t).length : Int))))) && (((Tree.kind t) : Int) == 1)) = true → ((!(bif (bif (bif (decide (((Tree.kind t) : Int) < 0)) then true else (decide ((10 : Int) < (Tree.kind t)))) then true else ((d : Int) == 0)) then true else (decide ((65536 : Int) ≤ ((Tree.words t).length : Int))))) && (((Tree.kind t) : Int) == 1)) = true) ∧ (((!(bif (bif (bif (decide (((Tree.kind t) : Int) < 0)) then true else (decide ((10 : Int) < (Tree.kind t)))) then true else ((d : Int) == 0)) then true else (decide ((65536 : Int) ≤ ((Tree.words t).length : Int))))) && (((Tree.kind t) : Int) == 1)) = true → ((!(bif (bif (bif (decide (((Tree.kind t) : Int) < 0)) then true else (decide ((10 : Int) < (Tree.kind t)))) then true else ((d : Int) == 0)) then true else (decide ((65536 : Int) ≤ ((Tree.words t).length : Int))))) && (((Tree.kind t) : Int) == 1)) = true) ∧ (((!(bif (bif (bif (decide (((Tree.kind t) : Int) < 0)) then true else (decide ((10 : Int) < (Tree.kind t)))) then true else ((d : Int) == 0)) then true else (decide ((65536 : Int) ≤ ((Tree.words t).length : Int))))) && (((Tree.kind t) : Int) == 1)) = true → ((!(bif (bif (bif (decide (((Tree.kind t) : Int) < 0)) then true else (decide ((10 : Int) < (Tree.kind t)))) then true else ((d : Int) == 0)) then true else (decide ((65536 : Int) ≤ ((Tree.words t).length : Int))))) && (((Tree.kind t) : Int) == 1)) = true) ∧ ((!(bif (bif (bif (decide (((Tree.kind t) : Int) < 0)) then true else (decide ((10 : Int) < (Tree.kind t)))) then true else ((d : Int) == 0)) then true else (decide ((65536 : Int) ≤ ((Tree.words t).length : Int))))) = true → (True → (!(bif (bif (bif (decide (((Tree.kind t) : Int) < 0)) then true else (decide ((10 : Int) < (Tree.kind t)))) then true else ((d : Int) == 0)) then true else (decide ((65536 : Int) ≤ ((Tree.words t).length : Int))))) = true)) ∧ ((!(bif (bif (bif (decide (((Tree.kind t) : Int) < 0)) then true else (decide ((10 : Int) < (Tree.kind t)))) then true else ((d : Int) == 0)) then true else (decide ((65536 : Int) ≤ ((Tree.words t).length : Int))))) = true → ((((Tree.kind t) : Int) == 1) = true → ((!(bif (bif (bif (decide (((Tree.kind t) : Int) < 0)) then true else (decide ((10 : Int) < (Tree.kind t)))) then true else ((d : Int) == 0)) then true else (decide ((65536 : Int) ≤ ((Tree.words t).length : Int))))) && (((Tree.kind t) : Int) == 1)) = true)) ∧ (((bif (bif (bif (decide (((Tree.kind t) : Int) < 0)) then true else (decide ((10 : Int) < (Tree.kind t)))) then true else ((d : Int) == 0)) then true else (decide ((65536 : Int) ≤ ((Tree.words t).length : Int)))) = false → (!(bif (bif (bif (decide (((Tree.kind t) : Int) < 0)) then true else (decide ((10 : Int) < (Tree.kind t)))) then true else ((d : Int) == 0)) then true else (decide ((65536 : Int) ≤ ((Tree.words t).length : Int))))) = true)) ∧ ((!(bif (bif (bif (bif (decide (((Tree.kind t) : Int) < 0)) then true else (decide ((10 : Int) < (Tree.kind t)))) then true else ((d : Int) == 0)) then true else (decide ((65536 : Int) ≤ ((Tree.words t).length : Int)))) then true else (bif (((Tree.kind t) : Int) == 1) then (decide ((65536 : Int) ≤ ((Tree.kids t).length : Int))) else false))) = true → (!(bif (bif (bif (bif (decide (((Tree.kind t) : Int) < 0)) then true else (decide ((10 : Int) < (Tree.kind t)))) then true else ((d : Int) == 0)) then true else (decide ((65536 : Int) ≤ ((Tree.words t).length : Int)))) then true else (bif (((Tree.kind t) : Int) == 1) then (decide ((65536 : Int) ≤ ((Tree.kids t).length : Int))) else false))) = true) ∧ ((!(bif (bif (bif (bif (decide (((Tree.kind t) : Int) < 0)) then true else (decide ((10 : Int) < (Tree.kind t)))) then true else ((d : Int) == 0)) then true else (decide ((65536 : Int) ≤ ((Tree.words t).length : Int)))) then true else (bif (((Tree.kind t) : Int) == 1) then (decide ((65536 : Int) ≤ ((Tree.kids t).length : Int))) else false))) = true → (!(bif (bif (bif (bif (decide (((Tree.kind t) : Int) < 0)) then true else (decide ((10 : Int) < (Tree.kind t)))) then true else ((d : Int) == 0)) then true else (decide ((65536 : Int) ≤ ((Tree.words t).length : Int)))) then true else (bif (((Tree.kind t) : Int) == 1) then (decide ((65536 : Int) ≤ ((Tree.kids t).length : Int))) else false))) = true) ∧ ((!(bif (bif (bif (bif (decide (((Tree.kind t) : Int) < 0)) then true else (decide ((10 : Int) < (Tree.kind t)))) then true else ((d : Int) == 0)) then true else (decide ((65536 : Int) ≤ ((Tree.words t).length : Int)))) then true else (bif (((Tree.kind t) : Int) == 1) then (decide ((65536 : Int) ≤ ((Tree.kids t).length : Int))) else false))) = true → (!(bif (bif (bif (bif (decide (((Tree.kind t) : Int) < 0)) then true else (decide ((10 : Int) < (Tree.kind t)))) then true else ((d : Int) == 0)) then true else (decide ((65536 : Int) ≤ ((Tree.words t).length : Int)))) then true else (bif (((Tree.kind t) : Int) == 1) then (decide ((65536 : Int) ≤ ((Tree.kids t).length : Int))) else false))) = true) ∧ (((bif (bif (bif (bif (decide (((Tree.kind t) : Int) < 0)) then true else (decide ((10 : Int) < (Tree.kind t)))) then true else ((d : Int) == 0)) then true else (decide ((65536 : Int) ≤ ((Tree.words t).length : Int)))) then true else (bif (((Tree.kind t) : Int) == 1) then (decide ((65536 : Int) ≤ ((Tree.kids t).length : Int))) else false)) = false → (!(bif (bif (bif (bif (decide (((Tree.kind t) : Int) < 0)) then true else (decide ((10 : Int) < (Tree.kind t)))) then true else ((d : Int) == 0)) then true else (decide ((65536 : Int) ≤ ((Tree.words t).length : Int)))) then true else (bif (((Tree.kind t) : Int) == 1) then (decide ((65536 : Int) ≤ ((Tree.kids t).length : Int))) else false))) = true)) ∧ (((bif (bif (bif (bif (bif (decide (((Tree.kind t) : Int) < 0)) then true else (decide ((10 : Int) < (Tree.kind t)))) then true else ((d : Int) == 0)) then true else (decide ((65536 : Int) ≤ ((Tree.words t).length : Int)))) then true else (bif (((Tree.kind t) : Int) == 1) then (decide ((65536 : Int) ≤ ((Tree.kids t).length : Int))) else false)) then true else (decide ((1048576 : Int) ≤ ((Tree.kids t).length : Int)))) = true → (Q .ret (⟨[(4, .c (.bool false))], [], []⟩ : LSt U))) ∧ ((bif (bif (bif (bif (bif (decide (((Tree.kind t) : Int) < 0)) then true else (decide ((10 : Int) < (Tree.kind t)))) then true else ((d : Int) == 0)) then true else (decide ((65536 : Int) ≤ ((Tree.words t).length : Int)))) then true else (bif (((Tree.kind t) : Int) == 1) then (decide ((65536 : Int) ≤ ((Tree.kids t).length : Int))) else false)) then true else (decide ((1048576 : Int) ≤ ((Tree.kids t).length : Int)))) = false → ((decide ((1 : Int) < (Tree.kind t))) = true → (decide ((1 : Int) < (Tree.kind t))) = true) ∧ ((decide ((1 : Int) < (Tree.kind t))) = true → (decide ((1 : Int) < (Tree.kind t))) = true) ∧ ((decide ((1 : Int) < (Tree.kind t))) = true → (decide ((1 : Int) < (Tree.kind t))) = true) ∧ (((decide ((1 : Int) < (Tree.kind t))) = true → (decide ((1 : Int) < (Tree.kind t))) = true)) ∧ (((bif (decide ((1 : Int) < (Tree.kind t))) then (decide ((0 : Int) < ((Tree.words t).length : Int))) else false) = true → (Q .ret (⟨[(4, .c (.bool false))], [], []⟩ : LSt U))) ∧ ((bif (decide ((1 : Int) < (Tree.kind t))) then (decide ((0 : Int) < ((Tree.words t).length : Int))) else false) = false → (LoopWp (awp cfg (know (know47 N)) (drawOk cfg (know (know47 N))) Try.f47.ntmps lv47 (cd Try.f47 [1, 1, 1, 1, 1, 0, 1, 0, 0])) (head47_0 t d 0) (AExit.inBlock 0 (seqK cfg (know (know47 N)) (drawOk cfg (know (know47 N))) Try.f47.ntmps lv47 (cd Try.f47 [1, 1, 1, 1, 1, 1]) Q))))))))))))) := by kernel_rfl
  exact e.mpr ⟨fun c_22 => ⟨fun x => x, fun x => x, fun x => x, (by generalize ((((Tree.words t).length : Int) : Int) == 0) = b0; revert b0; decide), (h.1 c_22)⟩, fun c_22 => ⟨fun c_23 => ⟨fun x => x, fun x => x, fun x => x, (by generalize ((((Tree.words t).length : Int) : Int) == 1) = b0; revert b0; decide), ((h.2 c_22).1 c_23)⟩, fun c_23 => ⟨fun x => x, fun x => x, (by generalize (decide (((Tree.kind t) : Int) < 0)) = b0; revert b0; decide), fun x => x, (by generalize (decide ((10 : Int) < (Tree.kind t))) = b0; generalize (decide (((Tree.kind t) : Int) < 0)) = b1; revert b0 b1; decide), fun x => x, fun x => x, fun x => x, (by generalize (decide ((10 : Int) < (Tree.kind t))) = b0; generalize (decide (((Tree.kind t) : Int) < 0)) = b1; generalize ((d : Int) == 0) = b2; revert b0 b1 b2; decide), fun x => x, fun x => x, fun x => x, fun x => x, fun x => x, fun x => x, (by generalize (decide ((65536 : Int) ≤ ((Tree.words t).length : Int))) = b0; generalize (decide ((10 : Int) < (Tree.kind t))) = b1; generalize (decide (((Tree.kind t) : Int) < 0)) = b2; generalize ((d : Int) == 0) = b3; revert b0 b1 b2 b3; decide), (by generalize (decide ((65536 : Int) ≤ ((Tree.words t).length : Int))) = b0; generalize (decide ((10 : Int) < (Tree.kind t))) = b1; generalize (decide (((Tree.kind t) : Int) < 0)) = b2; generalize (((Tree.kind t) : Int) == 1) = b3; generalize ((d : Int) == 0) = b4; revert b0 b1 b2 b3 b4; decide), (by generalize (decide ((65536 : Int) ≤ ((Tree.words t).length : Int))) = b0; generalize (decide ((10 : Int) < (Tree.kind t))) = b1; generalize (decide (((Tree.kind t) : Int) < 0)) = b2; generalize ((d : Int) == 0) = b3; revert b0 b1 b2 b3; decide), fun x => x, fun x => x, fun x => x, (by generalize (decide ((65536 : Int) ≤ ((Tree.words t).length : Int))) = b0; generalize (decide ((65536 : Int) ≤ ((Tree.kids t).length : Int))) = b1; generalize (decide ((10 : Int) < (Tree.kind t))) = b2; generalize (decide (((Tree.kind t) : Int) < 0)) = b3; generalize (((Tree.kind t) : Int) == 1) = b4; generalize ((d : Int) == 0) = b5; revert b0 b1 b2 b3 b4 b5; decide), ⟨fun c_24 => (((h.2 c_22).2 c_23).1 c_24), fun c_24 => ⟨fun x => x, fun x => x, fun x => x, (by generalize (decide ((1 : Int) < (Tree.kind t))) = b0; revert b0; decide), ⟨fun c_25 => ((((h.2 c_22).2 c_23).2 c_24).1 c_25), fun c_25 => ((((h.2 c_22).2 c_23).2 c_24).2 c_25)⟩⟩⟩⟩⟩⟩
theorem vc47_l0 (N : Nat) (t : Tree) (d : Int) (x5 : Int) (N0 : LSt U → Prop) (Q : AExit → LSt U → Prop) (h : ((decide ((x5 : Int) < ((Tree.kids t).length : Int))) = true → ((0 : Int) ≤ x5 ∧ x5 < ((Tree.kids t).length : Int)) ∧ ((InR ((d : Int) - 1)) ∧ (pre47 ((Tree.mk (Tree.kind (List.getD (Tree.kids t) (Int.toNat x5) Tree.nil)) (Tree.words (List.getD (Tree.kids t) (Int.toNat x5) Tree.nil)) (Tree.kids (List.getD (Tree.kids t) (Int.toNat x5) Tree.nil))), ((d : Int) - 1), ())) ∧ (mu47 ((Tree.mk (Tree.kind (List.getD (Tree.kids t) (Int.toNat x5) Tree.nil)) (Tree.words (List.getD (Tree.kids t) (Int.toNat x5) Tree.nil)) (Tree.kids (List.getD (Tree.kids t) (Int.toNat x5) Tree.nil))), ((d : Int) - 1), ()) < N) ∧ (((!(rightT (Tree.mk (Tree.kind (List.getD (Tree.kids t) (Int.toNat x5) Tree.nil)) (Tree.words (List.getD (Tree.kids t) (Int.toNat x5) Tree.nil)) (Tree.kids (List.getD (Tree.kids t) (Int.toNat x5) Tree.nil))) ((d : Int) - 1))) = true → Q .ret (⟨[(4, .c (.bool false))], [], []⟩ : LSt U)) ∧ ((!(rightT (Tree.mk (Tree.kind (List.getD (Tree.kids t) (Int.toNat x5) Tree.nil)) (Tree.words (List.getD (Tree.kids t) (Int.toNat x5) Tree.nil)) (Tree.kids (List.getD (Tree.kids t) (Int.toNat x5) Tree.nil))) ((d : Int) - 1))) = false → (((!(bif ((bif (decide ((2 : Int) ≤ (Tree.kind t))) then (decide (((Tree.kind t) : Int) ≤ 7)) else false) != (((Tree.kind (List.getD (Tree.kids t) (Int.toNat x5) Tree.nil)) : Int) == 10)) then true else (bif (((Tree.kind t) : Int) == 9) then (((Tree.kind (List.getD (Tree.kids t) (Int.toNat x5) Tree.nil)) : Int) != 1) else false))) && (bif (decide ((2 : Int) ≤ (Tree.kind t))) then (decide (((Tree.kind t) : Int) ≤ 7)) else false)) = true → InR (((Tree.kind t) : Int) - 2)) ∧ (((!(bif ((bif (decide ((2 : Int) ≤ (Tree.kind t))) then (decide (((Tree.kind t) : Int) ≤ 7)) else false) != (((Tree.kind (List.getD (Tree.kids t) (Int.toNat x5) Tree.nil)) : Int) == 10)) then true else (bif (((Tree.kind t) : Int) == 9) then (((Tree.kind (List.getD (Tree.kids t) (Int.toNat x5) Tree.nil)) : Int) != 1) else false))) && (bif (decide ((2 : Int) ≤ (Tree.kind t))) then (decide (((Tree.kind t) : Int) ≤ 7)) else false)) = true → (0 : Int) ≤ 0 ∧ 0 < ((Tree.words (List.getD (Tree.kids t) (Int.toNat x5) Tree.nil)).length : Int)) ∧ (((!(bif ((bif (decide ((2 : Int) ≤ (Tree.kind t))) then (decide (((Tree.kind t) : Int) ≤ 7)) else false) != (((Tree.kind (List.getD (Tree.kids t) (Int.toNat x5) Tree.nil)) : Int) == 10)) then true else (bif (((Tree.kind t) : Int) == 9) then (((Tree.kind (List.getD (Tree.kids t) (Int.toNat x5) Tree.nil)) : Int) != 1) else false))) && (bif (decide ((2 : Int) ≤ (Tree.kind t))) then (decide (((Tree.kind t) : Int) ≤ 7)) else false)) = true → pre81 ((((Tree.kind t) : Int) - 2), (List.getD (Tree.words (List.getD (Tree.kids t) (Int.toNat x5) Tree.nil)) (Int.toNat 0) (0 : Int)), ())) ∧ (((bif (bif ((bif (decide ((2 : Int) ≤ (Tree.kind t))) then (decide (((Tree.kind t) : Int) ≤ 7)) else false) != (((Tree.kind (List.getD (Tree.kids t) (Int.toNat x5) Tree.nil)) : Int) == 10)) then true else (bif (((Tree.kind t) : Int) == 9) then (((Tree.kind (List.getD (Tree.kids t) (Int.toNat x5) Tree.nil)) : Int) != 1) else false)) then true else (bif (bif (decide ((2 : Int) ≤ (Tree.kind t))) then (decide (((Tree.kind t) : Int) ≤ 7)) else false) then (!(fits (((Tree.kind t) : Int) - 2) (List.getD (Tree.words (List.getD (Tree.kids t) (Int.toNat x5) Tree.nil)) (Int.toNat 0) (0 : Int)))) else false)) = true → Q .ret (⟨[(4, .c (.bool false))], [], []⟩ : LSt U)) ∧ ((bif (bif ((bif (decide ((2 : Int) ≤ (Tree.kind t))) then (decide (((Tree.kind t) : Int) ≤ 7)) else false) != (((Tree.kind (List.getD (Tree.kids t) (Int.toNat x5) Tree.nil)) : Int) == 10)) then true else (bif (((Tree.kind t) : Int) == 9) then (((Tree.kind (List.getD (Tree.kids t) (Int.toNat x5) Tree.nil)) : Int) != 1) else false)) then true else (bif (bif (decide ((2 : Int) ≤ (Tree.kind t))) then (decide (((Tree.kind t) : Int) ≤ 7)) else false) then (!(fits (((Tree.kind t) : Int) - 2) (List.getD (Tree.words (List.getD (Tree.kids t) (Int.toNat x5) Tree.nil)) (Int.toNat 0) (0 : Int)))) else false)) = false → (InR ((x5 : Int) + 1)) ∧ (N0 (head47_0 t d ((x5 : Int) + 1))))))))) ∧ ((decide ((x5 : Int) < ((Tree.kids t).length : Int))) = false → Q .ret (⟨[(4, .c (.bool true))], [], []⟩ : LSt U))) :
    awp cfg (know (know47 N)) (drawOk cfg (know (know47 N))) Try.f47.ntmps lv47 (cd Try.f47 [1, 1, 1, 1, 1, 0, 1, 0, 0]) (head47_0 t d x5) (AExit.then N0 (AExit.inBlock 0 (seqK cfg (know (know47 N)) (drawOk cfg (know (know47 N))) Try.f47.ntmps lv47 (cd Try.f47 [1, 1, 1, 1, 1, 1]) Q))) := by
  have e : (awp cfg (know (know47 N)) (drawOk cfg (know (know47 N))) Try.f47.ntmps lv47 (cd Try.f47 [1, 1, 1, 1, 1, 0, 1, 0, 0]) (head47_0 t d x5) (AExit.then N0 (AExit.inBlock 0 (seqK cfg (know (know47 N)) (drawOk cfg (know (know47 N))) Try.f47.ntmps lv47 (cd Try.f47 [1, 1, 1, 1, 1, 1]) Q)))) = ((((decide ((x5 : Int) < ((Tree.kids t).length : Int))) = true → ((0 : Int) ≤ x5 ∧ x5 < ((Tree.kids t).length : Int)) ∧ ((InR ((d : Int) - 1)) ∧ (pre47 ((Tree.mk (Tree.kind (List.getD (Tree.kids t) (Int.toNat x5) Tree.nil)) (Tree.words (List.getD (Tree.kids t) (Int.toNat x5) Tree.nil)) (Tree.kids (List.getD (Tree.kids t) (Int.toNat x5) Tree.nil))), ((d : Int) - 1), ())) ∧ (mu47 ((Tree.mk (Tree.kind (List.getD (Tree.kids t) (Int.toNat x5) Tree.nil)) (Tree.words (List.getD (Tree.kids t) (Int.toNat x5) Tree.nil)) (Tree.kids (List.getD (Tree.kids t) (Int.toNat x5) Tree.nil))), ((d : Int) - 1), ()) < N) ∧ (((!(rightT (Tree.mk (Tree.kind (List.getD (Tree.kids t) (Int.toNat x5) Tree.nil)) (Tree.words (List.getD (Tree.kids t) (Int.toNat x5) Tree.nil)) (Tree.kids (List.getD (Tree.kids t) (Int.toNat x5) Tree.nil))) ((d : Int) - 1))) = true → (Q .ret (⟨[(4, .c (.bool false))], [], []⟩ : LSt U))) ∧ ((!(rightT (Tree.mk (Tree.kind (List.getD (Tree.kids t) (Int.toNat x5) Tree.nil)) (Tree.words (List.getD (Tree.kids t) (Int.toNat x5) Tree.nil)) (Tree.kids (List.getD (Tree.kids t) (Int.toNat x5) Tree.nil))) ((d : Int) - 1))) = false → ((decide ((2 : Int) ≤ (Tree.kind t))) = true → (decide ((2 : Int) ≤ (Tree.kind t))) = true) ∧ ((decide ((2 : Int) ≤ (Tree.kind t))) = true → (decide ((2 : Int) ≤ (Tree.kind t))) = true) ∧ (((decide ((2 : Int) ≤ (Tree.kind t))) = true → (decide ((2 : Int) ≤ (Tree.kind t))) = true)) ∧ (((!((bif (decide ((2 : Int) ≤ (Tree.kind t))) then (decide (((Tree.kind t) : Int) ≤ 7)) else false) != (((Tree.kind (List.getD (Tree.kids t) (Int.toNat x5) Tree.nil)) : Int) == 10))) = true → (!((bif (decide ((2 : Int) ≤ (Tree.kind t))) then (decide (((Tree.kind t) : Int) ≤ 7)) else false) != (((Tree.kind (List.getD (Tree.kids t) (Int.toNat x5) Tree.nil)) : Int) == 10))) = true) ∧ ((!((bif (decide ((2 : Int) ≤ (Tree.kind t))) then (decide (((Tree.kind t) : Int) ≤ 7)) else false) != (((Tree.kind (List.getD (Tree.kids t) (Int.toNat x5) Tree.nil)) : Int) == 10))) = true → (!((bif (decide ((2 : Int) ≤ (Tree.kind t))) then (decide (((Tree.kind t) : Int) ≤ 7)) else false) != (((Tree.kind (List.getD (Tree.kids t) (Int.toNat x5) Tree.nil)) : Int) == 10))) = true) ∧ ((!((bif (decide ((2 : Int) ≤ (Tree.kind t))) then (decide (((Tree.kind t) : Int) ≤ 7)) else false) != (((Tree.kind (List.getD (Tree.kids t) (Int.toNat x5) Tree.nil)) : Int) == 10))) = true → (!((bif (decide ((2 : Int) ≤ (Tree.kind t))) then (decide (((Tree.kind t) : Int) ≤ 7)) else false) != (((Tree.kind (List.getD (Tree.kids t) (Int.toNat x5) Tree.nil)) : Int) == 10))) = true) ∧ (((!((bif (decide ((2 : Int) ≤ (Tree.kind t))) then (decide (((Tree.kind t) : Int) ≤ 7)) else false) != (((Tree.kind (List.getD (Tree.kids t) (Int.toNat x5) Tree.nil)) : Int) == 10))) && (((Tree.kind t) : Int) == 9)) = true → ((!((bif (decide ((2 : Int) ≤ (Tree.kind t))) then (decide (((Tree.kind t) : Int) ≤ 7)) else false) != (((Tree.kind (List.getD (Tree.kids t) (Int.toNat x5) Tree.nil)) : Int) == 10))) && (((Tree.kind t) : Int) == 9)) = true) ∧ (((!((bif (decide ((2 : Int) ≤ (Tree.kind t))) then (decide (((Tree.kind t) : Int) ≤ 7)) else false) != (((Tree.kind (List.getD (Tree.kids t) (Int.toNat x5) Tree.nil)) : Int) == 10))) && (((Tree.kind t) : Int) == 9)) = true → ((!((bif (decide ((2 : Int) ≤ (Tree.kind t))) then (decide (((Tree.kind t) : Int) ≤ 7)) else false) != (((Tree.kind (List.getD (Tree.kids t) (Int.toNat x5) Tree.nil)) : Int) == 10))) && (((Tree.kind t) : Int) == 9)) = true) ∧ ((!((bif (decide ((2 : Int) ≤ (Tree.kind t))) then (decide (((Tree.kind t) : Int) ≤ 7)) else false) != (((Tree.kind (List.getD (Tree.kids t) (Int.toNat x5) Tree.nil)) : Int) == 10))) = true → (True → (!((bif (decide ((2 : Int) ≤ (Tree.kind t))) then (decide (((Tree.kind t) : Int) ≤ 7)) else false) != (((Tree.kind (List.getD (Tree.kids t) (Int.toNat x5) Tree.nil)) : Int) == 10))) = true)) ∧ ((!((bif (decide ((2 : Int) ≤ (Tree.kind t))) then (decide (((Tree.kind t) : Int) ≤ 7)) else false) != (((Tree.kind (List.getD (Tree.kids t) (Int.toNat x5) Tree.nil)) : Int) == 10))) = true → ((((Tree.kind t) : Int) == 9) = true → ((!((bif (decide ((2 : Int) ≤ (Tree.kind t))) then (decide (((Tree.kind t) : Int) ≤ 7)) else false) != (((Tree.kind (List.getD (Tree.kids t) (Int.toNat x5) Tree.nil)) : Int) == 10))) && (((Tree.kind t) : Int) == 9)) = true)) ∧ ((((bif (decide ((2 : Int) ≤ (Tree.kind t))) then (decide (((Tree.kind t) : Int) ≤ 7)) else false) != (((Tree.kind (List.getD (Tree.kids t) (Int.toNat x5) Tree.nil)) : Int) == 10)) = false → (!((bif (decide ((2 : Int) ≤ (Tree.kind t))) then (decide (((Tree.kind t) : Int) ≤ 7)) else false) != (((Tree.kind (List.getD (Tree.kids t) (Int.toNat x5) Tree.nil)) : Int) == 10))) = true)) ∧ ((!(bif ((bif (decide ((2 : Int) ≤ (Tree.kind t))) then (decide (((Tree.kind t) : Int) ≤ 7)) else false) != (((Tree.kind (List.getD (Tree.kids t) (Int.toNat x5) Tree.nil)) : Int) == 10)) then true else (bif (((Tree.kind t) : Int) == 9) then (((Tree.kind (List.getD (Tree.kids t) (Int.toNat x5) Tree.nil)) : Int) != 1) else false))) = true → (!(bif ((bif (decide ((2 : Int) ≤ (Tree.kind t))) then (decide (((Tree.kind t) : Int) ≤ 7)) else false) != (((Tree.kind (List.getD (Tree.kids t) (Int.toNat x5) Tree.nil)) : Int) == 10)) then true else (bif (((Tree.kind t) : Int) == 9) then (((Tree.kind (List.getD (Tree.kids t) (Int.toNat x5) Tree.nil)) : Int) != 1) else false))) = true) ∧ (((!(bif ((bif (decide ((2 : Int) ≤ (Tree.kind t))) then (decide (((Tree.kind t) : Int) ≤ 7)) else false) != (((Tree.kind (List.getD (Tree.kids t) (Int.toNat x5) Tree.nil)) : Int) == 10)) then true else (bif (((Tree.kind t) : Int) == 9) then (((Tree.kind (List.getD (Tree.kids t) (Int.toNat x5) Tree.nil)) : Int) != 1) else false))) && (bif (decide ((2 : Int) ≤ (Tree.kind t))) then (decide (((Tree.kind t) : Int) ≤ 7)) else false)) = true → ((!(bif ((bif (decide ((2 : Int) ≤ (Tree.kind t))) then (decide (((Tree.kind t) : Int) ≤ 7)) else false) != (((Tree.kind (List.getD (Tree.kids t) (Int.toNat x5) Tree.nil)) : Int) == 10)) then true else (bif (((Tree.kind t) : Int) == 9) then (((Tree.kind (List.getD (Tree.kids t) (Int.toNat x5) Tree.nil)) : Int) != 1) else false))) && (bif (decide ((2 : Int) ≤ (Tree.kind t))) then (decide (((Tree.kind t) : Int) ≤ 7)) else false)) = true) ∧ (((!(bif ((bif (decide ((2 : Int) ≤ (Tree.kind t))) then (decide (((Tree.kind t) : Int) ≤ 7)) else false) != (((Tree.kind (List.getD (Tree.kids t) (Int.toNat x5) Tree.nil)) : Int) == 10)) then true else (bif (((Tree.kind t) : Int) == 9) then (((Tree.kind (List.getD (Tree.kids t) (Int.toNat x5) Tree.nil)) : Int) != 1) else false))) && (bif (decide ((2 : Int) ≤ (Tree.kind t))) then (decide (((Tree.kind t) : Int) ≤ 7)) else false)) = true → ((!(bif ((bif (decide ((2 : Int) ≤ (Tree.kind t))) then (decide (((Tree.kind t) : Int) ≤ 7)) else false) != (((Tree.kind (List.getD (Tree.kids t) (Int.toNat x5) Tree.nil)) : Int) == 10)) then true else (bif (((Tree.kind t) : Int) == 9) then (((Tree.kind (List.getD (Tree.kids t) (Int.toNat x5) Tree.nil)) : Int) != 1) else false))) && (bif (decide ((2 : Int) ≤ (Tree.kind t))) then (decide (((Tree.kind t) : Int) ≤ 7)) else false)) = true) ∧ (((!(bif ((bif (decide ((2 : Int) ≤ (Tree.kind t))) then (decide (((Tree.kind t) : Int) ≤ 7)) else false) != (((Tree.kind (List.getD (Tree.kids t) (Int.toNat x5) Tree.nil)) : Int) == 10)) then true else (bif (((Tree.kind t) : Int) == 9) then (((Tree.kind (List.getD (Tree.kids t) (Int.toNat x5) Tree.nil)) : Int) != 1) else false))) && (bif (decide ((2 : Int) ≤ (Tree.kind t))) then (decide (((Tree.kind t) : Int) ≤ 7)) else false)) = true → InR (((Tree.kind t) : Int) - 2)) ∧ (((!(bif ((bif (decide ((2 : Int) ≤ (Tree.kind t))) then (decide (((Tree.kind t) : Int) ≤ 7)) else false) != (((Tree.kind (List.getD (Tree.kids t) (Int.toNat x5) Tree.nil)) : Int) == 10)) then true else (bif (((Tree.kind t) : Int) == 9) then (((Tree.kind (List.getD (Tree.kids t) (Int.toNat x5) Tree.nil)) : Int) != 1) else false))) && (bif (decide ((2 : Int) ≤ (Tree.kind t))) then (decide (((Tree.kind t) : Int) ≤ 7)) else false)) = true → ((!(bif ((bif (decide ((2 : Int) ≤ (Tree.kind t))) then (decide (((Tree.kind t) : Int) ≤ 7)) else false) != (((Tree.kind (List.getD (Tree.kids t) (Int.toNat x5) Tree.nil)) : Int) == 10)) then true else (bif (((Tree.kind t) : Int) == 9) then (((Tree.kind (List.getD (Tree.kids t) (Int.toNat x5) Tree.nil)) : Int) != 1) else false))) && (bif (decide ((2 : Int) ≤ (Tree.kind t))) then (decide (((Tree.kind t) : Int) ≤ 7)) else false)) = true) ∧ (((!(bif ((bif (decide ((2 : Int) ≤ (Tree.kind t))) then (decide (((Tree.kind t) : Int) ≤ 7)) else false) != (((Tree.kind (List.getD (Tree.kids t) (Int.toNat x5) Tree.nil)) : Int) == 10)) then true else (bif (((Tree.kind t) : Int) == 9) then (((Tree.kind (List.getD (Tree.kids t) (Int.toNat x5) Tree.nil)) : Int) != 1) else false))) && (bif (decide ((2 : Int) ≤ (Tree.kind t))) then (decide (((Tree.kind t) : Int) ≤ 7)) else false)) = true → ((!(bif ((bif (decide ((2 : Int) ≤ (Tree.kind t))) then (decide (((Tree.kind t) : Int) ≤ 7)) else false) != (((Tree.kind (List.getD (Tree.kids t) (Int.toNat x5) Tree.nil)) : Int) == 10)) then true else (bif (((Tree.kind t) : Int) == 9) then (((Tree.kind (List.getD (Tree.kids t) (Int.toNat x5) Tree.nil)) : Int) != 1) else false))) && (bif (decide ((2 : Int) ≤ (Tree.kind t))) then (decide (((Tree.kind t) : Int) ≤ 7)) else false)) = true) ∧ (((!(bif ((bif (decide ((2 : Int) ≤ (Tree.kind t))) then (decide (((Tree.kind t) : Int) ≤ 7)) else false) != (((Tree.kind (List.getD (Tree.kids t) (Int.toNat x5) Tree.nil)) : Int) == 10)) then true else (bif (((Tree.kind t) : Int) == 9) then (((Tree.kind (List.getD (Tree.kids t) (Int.toNat x5) Tree.nil)) : Int) != 1) else false))) && (bif (decide ((2 : Int) ≤ (Tree.kind t))) then (decide (((Tree.kind t) : Int) ≤ 7)) else false)) = true → (0 : Int) ≤ 0 ∧ 0 < ((Tree.words (List.getD (Tree.kids t) (Int.toNat x5) Tree.nil)).length : Int)) ∧ (((!(bif ((bif (decide ((2 : Int) ≤ (Tree.kind t))) then (decide (((Tree.kind t) : Int) ≤ 7)) else false) != (((Tree.kind (List.getD (Tree.kids t) (Int.toNat x5) Tree.nil)) : Int) == 10)) then true else (bif (((Tree.kind t) : Int) == 9) then (((Tree.kind (List.getD (Tree.kids t) (Int.toNat x5) Tree.nil)) : Int) != 1) else false))) && (bif (decide ((2 : Int) ≤ (Tree.kind t))) then (decide (((Tree.kind t) : Int) ≤ 7)) else false)) = true → ((!(bif ((bif (decide ((2 : Int) ≤ (Tree.kind t))) then (decide (((Tree.kind t) : Int) ≤ 7)) else false) != (((Tree.kind (List.getD (Tree.kids t) (Int.toNat x5) Tree.nil)) : Int) == 10)) then true else (bif (((Tree.kind t) : Int) == 9) then (((Tree.kind (List.getD (Tree.kids t) (Int.toNat x5) Tree.nil)) : Int) != 1) else false))) && (bif (decide ((2 : Int) ≤ (Tree.kind t))) then (decide (((Tree.kind t) : Int) ≤ 7)) else false)) = true) ∧ (((!(bif ((bif (decide ((2 : Int) ≤ (Tree.kind t))) then (decide (((Tree.kind t) : Int) ≤ 7)) else false) != (((Tree.kind (List.getD (Tree.kids t) (Int.toNat x5) Tree.nil)) : Int) == 10)) then true else (bif (((Tree.kind t) : Int) == 9) then (((Tree.kind (List.getD (Tree.kids t) (Int.toNat x5) Tree.nil)) : Int) != 1) else false))) && (bif (decide ((2 : Int) ≤ (Tree.kind t))) then (decide (((Tree.kind t) : Int) ≤ 7)) else false)) = true → ((!(bif ((bif (decide ((2 : Int) ≤ (Tree.kind t))) then (decide (((Tree.kind t) : Int) ≤ 7)) else false) != (((Tree.kind (List.getD (Tree.kids t) (Int.toNat x5) Tree.nil)) : Int) == 10)) then true else (bif (((Tree.kind t) : Int) == 9) then (((Tree.kind (List.getD (Tree.kids t) (Int.toNat x5) Tree.nil)) : Int) != 1) else false))) && (bif (decide ((2 : Int) ≤ (Tree.kind t))) then (decide (((Tree.kind t) : Int) ≤ 7)) else false)) = true) ∧ (((!(bif ((bif (decide ((2 : Int) ≤ (Tree.kind t))) then (decide (((Tree.kind t) : Int) ≤ 7)) else false) != (((Tree.kind (List.getD (Tree.kids t) (Int.toNat x5) Tree.nil)) : Int) == 10)) then true else (bif (((Tree.kind t) : Int) == 9) then (((Tree.kind (List.getD (Tree.kids t) (Int.toNat x5) Tree.nil)) : Int) != 1) else false))) && (bif (decide ((2 : Int) ≤ (Tree.kind t))) then (decide (((Tree.kind t) : Int) ≤ 7)) else false)) = true → ((!(bif ((bif (decide ((2 : Int) ≤ (Tree.kind t))) then (decide (((Tree.kind t) : Int) ≤ 7)) else false) != (((Tree.kind (List.getD (Tree.kids t) (Int.toNat x5) Tree.nil)) : Int) == 10)) then true else (bif (((Tree.kind t) : Int) == 9) then (((Tree.kind (List.getD (Tree.kids t) (Int.toNat x5) Tree.nil)) : Int) != 1) else false))) && (bif (decide ((2 : Int) ≤ (Tree.kind t))) then (decide (((Tree.kind t) : Int) ≤ 7)) else false)) = true) ∧ (((!(bif ((bif (decide ((2 : Int) ≤ (Tree.kind t))) then (decide (((Tree.kind t) : Int) ≤ 7)) else false) != (((Tree.kind (List.getD (Tree.kids t) (Int.toNat x5) Tree.nil)) : Int) == 10)) then true else (bif (((Tree.kind t) : Int) == 9) then (((Tree.kind (List.getD (Tree.kids t) (Int.toNat x5) Tree.nil)) : Int) != 1) else false))) && (bif (decide ((2 : Int) ≤ (Tree.kind t))) then (decide (((Tree.kind t) : Int) ≤ 7)) else false)) = true → pre81 ((((Tree.kind t) : Int) - 2), (List.getD (Tree.words (List.getD (Tree.kids t) (Int.toNat x5) Tree.nil)) (Int.toNat 0) (0 : Int)), ())) ∧ (((!(bif ((bif (decide ((2 : Int) ≤ (Tree.kind t))) then (decide (((Tree.kind t) : Int) ≤ 7)) else false) != (((Tree.kind (List.getD (Tree.kids t) (Int.toNat x5) Tree.nil)) : Int) == 10)) then true else (bif (((Tree.kind t) : Int) == 9) then (((Tree.kind (List.getD (Tree.kids t) (Int.toNat x5) Tree.nil)) : Int) != 1) else false))) && (bif (decide ((2 : Int) ≤ (Tree.kind t))) then (decide (((Tree.kind t) : Int) ≤ 7)) else false)) = true → ((!(bif ((bif (decide ((2 : Int) ≤ (Tree.kind t))) then (decide (((Tree.kind t) : Int) ≤ 7)) else false) != (((Tree.kind (List.getD (Tree.kids t) (Int.toNat x5) Tree.nil)) : Int) == 10)) then true else (bif (((Tree.kind t) : Int) == 9) then (((Tree.kind (List.getD (Tree.kids t) (Int.toNat x5) Tree.nil)) : Int) != 1) else false))) && (bif (decide ((2 : Int) ≤ (Tree.kind t))) then (decide (((Tree.kind t) : Int) ≤ 7)) else false)) = true) ∧ ((!(bif ((bif (decide ((2 : Int) ≤ (Tree.kind t))) then (decide (((Tree.kind t) : Int) ≤ 7)) else false) != (((Tree.kind (List.getD (Tree.kids t) (Int.toNat x5) Tree.nil)) : Int) == 10)) then true else (bif (((Tree.kind t) : Int) == 9) then (((Tree.kind (List.getD (Tree.kids t) (Int.toNat x5) Tree.nil)) : Int) != 1) else false))) = true → (True → (!(bif ((bif (decide ((2 : Int) ≤ (Tree.kind t))) then (decide (((Tree.kind t) : Int) ≤ 7)) else false) != (((Tree.kind (List.getD (Tree.kids t) (Int.toNat x5) Tree.nil)) : Int) == 10)) then true else (bif (((Tree.kind t) : Int) == 9) then (((Tree.kind (List.getD (Tree.kids t) (Int.toNat x5) Tree.nil)) : Int) != 1) else false))) = true)) ∧ ((!(bif ((bif (decide ((2 : Int) ≤ (Tree.kind t))) then (decide (((Tree.kind t) : Int) ≤ 7)) else false) != (((Tree.kind (List.getD (Tree.kids t) (Int.toNat x5) Tree.nil)) : Int) == 10)) then true else (bif (((Tree.kind t) : Int) == 9) then (((Tree.kind (List.getD (Tree.kids t) (Int.toNat x5) Tree.nil)) : Int) != 1) else false))) = true → ((bif (decide ((2 : Int) ≤ (Tree.kind t))) then (decide (((Tree.kind t) : Int) ≤ 7)) else false) = true → ((!(bif ((bif (decide ((2 : Int) ≤ (Tree.kind t))) then (decide (((Tree.kind t) : Int) ≤ 7)) else false) != (((Tree.kind (List.getD (Tree.kids t) (Int.toNat x5) Tree.nil)) : Int) == 10)) then true else (bif (((Tree.kind t) : Int) == 9) then (((Tree.kind (List.getD (Tree.kids t) (Int.toNat x5) Tree.nil)) : Int) != 1) else false))) && (bif (decide ((2 : Int) ≤ (Tree.kind t))) then (decide (((Tree.kind t) : Int) ≤ 7)) else false)) = true)) ∧ (((bif ((bif (decide ((2 : Int) ≤ (Tree.kind t))) then (decide (((Tree.kind t) : Int) ≤ 7)) else false) != (((Tree.kind (List.getD (Tree.kids t) (Int.toNat x5) Tree.nil)) : Int) == 10)) then true else (bif (((Tree.kind t) : Int) == 9) then (((Tree.kind (List.getD (Tree.kids t) (Int.toNat x5) Tree.nil)) : Int) != 1) else false)) = false → (!(bif ((bif (decide ((2 : Int) ≤ (Tree.kind t))) then (decide (((Tree.kind t) : Int) ≤ 7)) else false) != (((Tree.kind (List.getD (Tree.kids t) (Int.toNat x5) Tree.nil)) : Int) == 10)) then true else (bif (((Tree.kind t) : Int) == 9) then (((Tree.kind (List.getD (Tree.kids t) (Int.toNat x5) Tree.nil)) : Int) != 1) else false))) = true)) ∧ (((bif (bif ((bif (decide ((2 : Int) ≤ (Tree.kind t))) then (decide (((Tree.kind t) : Int) ≤ 7)) else false) != (((Tree.kind (List.getD (Tree.kids t) (Int.toNat x5) Tree.nil)) : Int) == 10)) then true else (bif (((Tree.kind t) : Int) == 9) then (((Tree.kind (List.getD (Tree.kids t) (Int.toNat x5) Tree.nil)) : Int) != 1) else false)) then true else (bif (bif (decide ((2 : Int) ≤ (Tree.kind t))) then (decide (((Tree.kind t) : Int) ≤ 7)) else false) then (!(fits (((Tree.kind t) : Int) - 2) (List.getD (Tree.words (List.getD (Tree.kids t) (Int.toNat x5) Tree.nil)) (Int.toNat 0) (0 : Int)))) else false)) = true → (Q .ret (⟨[(4, .c (.bool false))], [], []⟩ : LSt U))) ∧ ((bif (bif ((bif (decide ((2 : Int) ≤ (Tree.kind t))) then (decide (((Tree.kind t) : Int) ≤ 7)) else false) != (((Tree.kind (List.getD (Tree.kids t) (Int.toNat x5) Tree.nil)) : Int) == 10)) then true else (bif (((Tree.kind t) : Int) == 9) then (((Tree.kind (List.getD (Tree.kids t) (Int.toNat x5) Tree.nil)) : Int) != 1) else false)) then true else (bif (bif (decide ((2 : Int) ≤ (Tree.kind t))) then (decide (((Tree.kind t) : Int) ≤ 7)) else false) then (!(fits (((Tree.kind t) : Int) - 2) (List.getD (Tree.words (List.getD (Tree.kids t) (Int.toNat x5) Tree.nil)) (Int.toNat 0) (0 : Int)))) else false)) = false → (InR ((x5 : Int) + 1)) ∧ (N0 (head47_0 t d ((x5 : Int) + 1)))))))))) ∧ ((decide ((x5 : Int) < ((Tree.kids t).length : Int))) = false → (Q .ret (⟨[(4, .c (.bool true))], [], []⟩ : LSt U))))) := by kernel_rfl
  exact e.mpr ⟨fun c_26 => ⟨(h.1 c_26).1, ⟨(h.1 c_26).2.1, (h.1 c_26).2.2.1, (h.1 c_26).2.2.2.1, ⟨fun c_27 => ((h.1 c_26).2.2.2.2.1 c_27), fun c_27 => ⟨fun x => x, fun x => x, (by generalize (decide ((2 : Int) ≤ (Tree.kind t))) = b0; revert b0; decide), ⟨fun x => x, fun x => x, fun x => x, fun x => x, fun x => x, (by generalize ((bif (decide ((2 : Int) ≤ (Tree.kind t))) then (decide (((Tree.kind t) : Int) ≤ 7)) else false) != (((Tree.kind (List.getD (Tree.kids t) (Int.toNat x5) Tree.nil)) : Int) == 10)) = b0; revert b0; decide), (by generalize ((bif (decide ((2 : Int) ≤ (Tree.kind t))) then (decide (((Tree.kind t) : Int) ≤ 7)) else false) != (((Tree.kind (List.getD (Tree.kids t) (Int.toNat x5) Tree.nil)) : Int) == 10)) = b0; generalize (((Tree.kind t) : Int) == 9) = b1; revert b0 b1; decide), (by generalize ((bif (decide ((2 : Int) ≤ (Tree.kind t))) then (decide (((Tree.kind t) : Int) ≤ 7)) else false) != (((Tree.kind (List.getD (Tree.kids t) (Int.toNat x5) Tree.nil)) : Int) == 10)) = b0; revert b0; decide), fun x => x, fun x => x, fun x => x, ((h.1 c_26).2.2.2.2.2 c_27).1, fun x => x, fun x => x, ((h.1 c_26).2.2.2.2.2 c_27).2.1, fun x => x, fun x => x, fun x => x, ((h.1 c_26).2.2.2.2.2 c_27).2.2.1, fun x => x, (by generalize ((bif (decide ((2 : Int) ≤ (Tree.kind t))) then (decide (((Tree.kind t) : Int) ≤ 7)) else false) != (((Tree.kind (List.getD (Tree.kids t) (Int.toNat x5) Tree.nil)) : Int) == 10)) = b0; generalize (((Tree.kind (List.getD (Tree.kids t) (Int.toNat x5) Tree.nil)) : Int) != 1) = b1; generalize (((Tree.kind t) : Int) == 9) = b2; revert b0 b1 b2; decide), (by generalize ((bif (decide ((2 : Int) ≤ (Tree.kind t))) then (decide (((Tree.kind t) : Int) ≤ 7)) else false) != (((Tree.kind (List.getD (Tree.kids t) (Int.toNat x5) Tree.nil)) : Int) == 10)) = b0; generalize (((Tree.kind (List.getD (Tree.kids t) (Int.toNat x5) Tree.nil)) : Int) != 1) = b1; generalize (decide ((2 : Int) ≤ (Tree.kind t))) = b2; generalize (decide (((Tree.kind t) : Int) ≤ 7)) = b3; generalize (((Tree.kind t) : Int) == 9) = b4; revert b0 b1 b2 b3 b4; decide), (by generalize ((bif (decide ((2 : Int) ≤ (Tree.kind t))) then (decide (((Tree.kind t) : Int) ≤ 7)) else false) != (((Tree.kind (List.getD (Tree.kids t) (Int.toNat x5) Tree.nil)) : Int) == 10)) = b0; generalize (((Tree.kind (List.getD (Tree.kids t) (Int.toNat x5) Tree.nil)) : Int) != 1) = b1; generalize (((Tree.kind t) : Int) == 9) = b2; revert b0 b1 b2; decide), ⟨fun c_28 => (((h.1 c_26).2.2.2.2.2 c_27).2.2.2.1 c_28), fun c_28 => ⟨(((h.1 c_26).2.2.2.2.2 c_27).2.2.2.2 c_28).1, (((h.1 c_26).2.2.2.2.2 c_27).2.2.2.2 c_28).2⟩⟩⟩⟩⟩⟩⟩, fun c_26 => (h.2 c_26)⟩
def Body47 (N : Nat) (t : Tree) (d : Int)  : Prop := awp cfg (know (know47 N)) (drawOk cfg (know (know47 N))) Try.f47.ntmps lv47 (cd Try.f47 []) (entry (args47.can (t, d, ())) []) (EndsQ cfg Try.f47.ntmps Try.f47.results.toList (res47 (t, d, ())) [])
theorem make47 (c81 : Contract Try.prog cfg 81 spec81) (hb : ∀ (N : Nat) (t : Tree) (d : Int) (_ : Unit), pre47 (t, d, ()) → mu47 (t, d, ()) < N + 1 → Body47 N t d) : Contract Try.prog cfg 47 spec47 :=
  contract_rec (μ := mu47) (l := [(81, spec81)]) cfgOk rfl (⟨c81, trivial⟩) lv47 Try.func47 rfl rfl 2 (fun _ => rfl) (by decide) (fun N ⟨t, d, _⟩ => hb N t d ())

end Go.AM.Ytlahjnelghpmeaa

namespace Go.AM.Ytlahjnelghpmeaa
open Go.AM Go.Proofs

end Go.AM.Ytlahjnelghpmeaa

namespace Go.AM.Ytlahjnelghpmeaa
open Go.AM Go.Proofs

theorem trim_cons (x : Int) (r : List Int) : trim (x :: r) = if trim r = [] ∧ x = 0 then [] else x :: trim r := by
  simp only [trim]
  split
  · rename_i h
    simp only [h]
    split <;> simp_all
  · rename_i h
    simp [h]

theorem trimK_cons (x : Tree) (r : List Tree) : trimK (x :: r) = if trimK r = [] ∧ x.kind = 0 then [] else x :: trimK r := by
  simp only [trimK]
  split
  · rename_i h
    simp only [h]
    split <;> simp_all
  · rename_i h
    simp [h]

end Go.AM.Ytlahjnelghpmeaa

namespace Go.AM.Ytlahjnelghpmeaa
open Go.AM Go.Proofs

end Go.AM.Ytlahjnelghpmeaa

namespace Go.AM.Ytlahjnelghpmeaa
open Go.AM Go.Proofs

mutual
theorem shallow_mass : ∀ (t : Tree) (d l : Int), 0 ≤ shallow t d l → (mass t : Int) + shallow t d l ≤ l
  | .mk _ w ks, d, l, h => by
    simp only [shallow] at h ⊢
    split at h
    · omega
    · rename_i hc
      rw [if_neg hc]
      have := shallowK_mass ks (d - 1) (l - 1 - w.length) h
      simp only [mass]
      omega
theorem shallowK_mass : ∀ (ks : List Tree) (d l : Int), 0 ≤ shallowK ks d l → (massK ks : Int) + shallowK ks d l ≤ l
  | [], d, l, h => by simp [shallowK, massK]
  | t :: r, d, l, h => by
    simp only [shallowK] at h ⊢
    split at h
    · omega
    · rename_i hc
      rw [if_neg hc]
      have h1 := shallowK_mass r d (shallow t d l) h
      have h3 := (shallowK_range r d (shallow t d l) (shallow_range t d l).1).2
      have h2 := shallow_mass t d l (by omega)
      simp only [massK]
      omega
end

end Go.AM.Ytlahjnelghpmeaa

namespace Go.AM.Ytlahjnelghpmeaa
open Go.AM Go.Proofs

theorem ends_bool {n k : Nat} {rs : List ResultVar} {b b' : Bool} (hr : rs = [ResultVar.tmp k]) (h : b = b') : EndsQ cfg n rs (.c (.bool b')) [] .ret (⟨[(k, .c (.bool b))], [], []⟩ : LSt U) := by
  subst hr h
  have hk : Nat.beq k k = true := Nat.beq_refl k
  simp [EndsQ, Ends, EndsL, LsEnd, resAll, resOne, LSt.toF, look, hk, partsV, resTok, passC, passC1, leR, leL, leC, XEnd]

theorem ends_int {n k : Nat} {rs : List ResultVar} {K : IntKind} {b b' : Int} (hr : rs = [ResultVar.tmp k]) (h : b = b') : EndsQ cfg n rs (.c (.int K b')) [] .ret (⟨[(k, .c (.int K b))], [], []⟩ : LSt U) := by
  subst hr h
  have hk : Nat.beq k k = true := Nat.beq_refl k
  simp [EndsQ, Ends, EndsL, LsEnd, resAll, resOne, LSt.toF, look, hk, partsV, resTok, passC, passC1, leR, leL, leC, XEnd]

theorem c112 : Contract Try.prog cfg 112 spec112 := by
  refine make112 ?_
  intro c _ _
  refine vc112 _ _ ?_
  (simp only [bif_tl, bif_fr, bif_tlf, bif_frf, Bool.not_eq_true', Bool.not_eq_false', decide_eq_true_eq, decide_eq_false_iff_not, beq_iff_eq, beq_eq_false_iff_ne, bne_iff_ne, ne_eq, bne_eq_false_iff_eq, Bool.or_eq_true, Bool.and_eq_true, Bool.or_eq_false_iff, Bool.and_eq_false_imp])
  refine ⟨fun h => ends_int rfl ?_, fun h => ⟨fun h => ends_int rfl ?_, fun h => ⟨fun h => ends_int rfl ?_, fun h => ⟨fun h => ends_int rfl ?_, fun h => ⟨fun h => ends_int rfl ?_, fun h => ⟨fun h => ends_int rfl ?_, fun h => ends_int rfl ?_⟩⟩⟩⟩⟩⟩ <;> simp only [wd] <;> simp [*]

theorem wd_le (c : Int) : -1 ≤ wd c ∧ wd c ≤ 64 := by
  unfold wd
  repeat' split
  all_goals omega

theorem wrap64_div (n : Int) (h0 : 0 ≤ n) (h1 : n < 18446744073709551616) : IntKind.wrap .u64 (Int.tdiv n 2) = n / 2 := by
  rw [Int.tdiv_eq_ediv_of_nonneg h0]
  simp [IntKind.wrap, IntKind.signed, IntKind.bits]
  omega

theorem pow_half {w : Nat} {n m : Int} (h : 0 ≤ n) : (n / 2 < 2 ^ w) ↔ n < 2 ^ (w + 1) := by
  have : (2 : Int) ^ (w + 1) = 2 ^ w * 2 := by rw [Int.pow_succ]
  omega

theorem c81 : Contract Try.prog cfg 81 spec81 := by
  refine make81 c112 ?_
  intro c n _ hp
  simp only [pre81] at hp
  have hw := wd_le c
  refine vc81 _ _ _ ?_
  (simp only [bif_tl, bif_fr, bif_tlf, bif_frf, Bool.not_eq_true', Bool.not_eq_false', decide_eq_true_eq, decide_eq_false_iff_not, beq_iff_eq, beq_eq_false_iff_ne, bne_iff_ne, ne_eq, bne_eq_false_iff_eq, Bool.or_eq_true, Bool.and_eq_true, Bool.or_eq_false_iff, Bool.and_eq_false_imp])
  refine ⟨trivial, fun h => ends_bool rfl ?_, fun h => ?_⟩
  · simp only [fits]
    simp
    omega
  · refine loop_rule (ι := Int × Int) (fun p => head81_0 c n p.1 p.2) (fun p => 0 ≤ p.2 ∧ p.2 ≤ wd c ∧ 0 ≤ p.1 ∧ p.1 < 18446744073709551616 ∧ (n < 2 ^ (wd c).toNat ↔ p.1 < 2 ^ (wd c - p.2).toNat)) (fun p => (wd c - p.2).toNat) (n, 0) rfl ⟨by dsimp only; omega, by dsimp only; omega, by dsimp only; omega, by dsimp only; omega, by simp⟩ ?_
    rintro ⟨m, i⟩ ⟨h1, h2, h3, h4, h5⟩
    dsimp only at *
    refine vc81_l0 _ _ _ _ _ _ ?_
    (simp only [bif_tl, bif_fr, bif_tlf, bif_frf, Bool.not_eq_true', Bool.not_eq_false', decide_eq_true_eq, decide_eq_false_iff_not, beq_iff_eq, beq_eq_false_iff_ne, bne_iff_ne, ne_eq, bne_eq_false_iff_eq, Bool.or_eq_true, Bool.and_eq_true, Bool.or_eq_false_iff, Bool.and_eq_false_imp])
    refine ⟨fun hc => ⟨by omega, by unfold InR; omega, (IntKind.wrap .u64 (Int.tdiv m 2), i + 1), rfl, ?_, by dsimp only; omega⟩, fun hc => ends_bool rfl ?_⟩
    · rw [wrap64_div m h3 h4]
      refine ⟨by dsimp only; omega, by dsimp only; omega, by dsimp only; omega, by dsimp only; omega, ?_⟩
      dsimp only
      rw [h5, show (wd c - i).toNat = (wd c - (i + 1)).toNat + 1 by omega]
      exact (pow_half (m := 0) h3).symm
    · have e : (wd c - i).toNat = 0 := by omega
      rw [e] at h5
      simp only [fits]
      rw [Bool.eq_iff_iff]
      simp
      omega

theorem rng_word {t : Tree} (h : rng t) {i : Nat} (hi : i < t.words.length) : 0 ≤ t.words.getD i 0 ∧ t.words.getD i 0 < 18446744073709551616 := by
  obtain ⟨k, w, ks⟩ := t
  simp only [rng] at h
  simp only [Tree.words_mk] at *
  have hg : w.getD i 0 ∈ w := by
    simp only [List.getD, List.getElem?_eq_getElem hi, Option.getD_some]
    exact List.getElem_mem hi
  exact h.2.1 _ hg

theorem rightK_drop {l : Int} {ks : List Tree} {i : Int} {d : Int} (h0 : 0 ≤ i) (h : i < ks.length) :
    rightK l (ks.drop i.toNat) d = ((kidB l (ks.getD i.toNat Tree.nil) && rightT (ks.getD i.toNat Tree.nil) d) && rightK l (ks.drop (i + 1).toNat) d) := by
  have e : (i + 1).toNat = i.toNat + 1 := by omega
  rw [List.drop_eq_getElem_cons (by omega), e]
  simp only [rightK, List.getD, List.getElem?_eq_getElem (show i.toNat < ks.length by omega), Option.getD_some]

theorem rngK_get : ∀ {ks : List Tree} {i : Nat}, rngK ks → i < ks.length → rng (ks.getD i Tree.nil)
  | t :: _, 0, h, _ => by simp only [rngK] at h; exact h.1
  | _ :: r, i + 1, h, hi => by simp only [rngK] at h; exact rngK_get (ks := r) (i := i) h.2 (by simpa using hi)

theorem rightT_atom {y : Tree} {d : Int} (h : rightT y d = true) (hk : y.kind = 10) : y.words.length = 1 ∧ y.kids.length = 0 := by
  obtain ⟨k, w, ks⟩ := y
  simp only [Tree.kind_mk] at hk
  subst hk
  simpa [rightT] using h

theorem c47 : Contract Try.prog cfg 47 spec47 := by
  refine make47 c81 ?_
  rintro N ⟨k, ws, ks⟩ d _ hp hN
  simp only [pre47, mu47, mass, rng] at hp hN
  refine vc47 N _ _ _ ?_
  (simp only [bif_tl, bif_fr, bif_tlf, bif_frf, Bool.not_eq_true', Bool.not_eq_false', decide_eq_true_eq, decide_eq_false_iff_not, beq_iff_eq, beq_eq_false_iff_ne, bne_iff_ne, ne_eq, bne_eq_false_iff_eq, Bool.or_eq_true, Bool.and_eq_true, Bool.or_eq_false_iff, Bool.and_eq_false_imp])
  (simp only [Tree.eta, Edit.eta, Tree.kind_mk, Tree.words_mk, Tree.kids_mk])
  refine ⟨fun h0 => ends_bool rfl ?_, fun h0 => ⟨fun h10 => ends_bool rfl ?_, fun h10 => ⟨fun hc => ends_bool rfl ?_, fun hc => ⟨fun hw => ends_bool rfl ?_, fun hw => ?_⟩⟩⟩⟩
  · simp only [rightT, if_pos h0]
    rw [Bool.eq_iff_iff]; (simp only [bif_tl, bif_fr, bif_tlf, bif_frf, Bool.not_eq_true', Bool.not_eq_false', decide_eq_true_eq, decide_eq_false_iff_not, beq_iff_eq, beq_eq_false_iff_ne, bne_iff_ne, ne_eq, bne_eq_false_iff_eq, Bool.or_eq_true, Bool.and_eq_true, Bool.or_eq_false_iff, Bool.and_eq_false_imp]); omega
  · simp only [rightT, if_neg h0, if_pos h10]
    rw [Bool.eq_iff_iff]; (simp only [bif_tl, bif_fr, bif_tlf, bif_frf, Bool.not_eq_true', Bool.not_eq_false', decide_eq_true_eq, decide_eq_false_iff_not, beq_iff_eq, beq_eq_false_iff_ne, bne_iff_ne, ne_eq, bne_eq_false_iff_eq, Bool.or_eq_true, Bool.and_eq_true, Bool.or_eq_false_iff, Bool.and_eq_false_imp]); omega
  · simp only [rightT, if_neg h0, if_neg h10]
    split
    · rfl
    · split
      · rw [decide_eq_false (by omega)]; rfl
      · have : ¬(2 ≤ k ∧ k ≤ 9 ∧ ws.length = 0 ∧ ks.length < 1048576) := by omega
        rw [decide_eq_false this]; rfl
  · simp only [rightT, if_neg h0, if_neg h10]
    rw [if_neg (by omega), if_neg (by omega)]
    have : ¬(2 ≤ k ∧ k ≤ 9 ∧ ws.length = 0 ∧ ks.length < 1048576) := by omega
    rw [decide_eq_false this]; rfl
  · have hb : rightT (.mk k ws ks) d = rightK k ks (d - 1) := by
      simp only [rightT, if_neg h0, if_neg h10]
      rw [if_neg (by omega)]
      split
      · rename_i h1
        rw [decide_eq_true (by omega), h1]; rfl
      · have : 2 ≤ k ∧ k ≤ 9 ∧ ws.length = 0 ∧ ks.length < 1048576 := by omega
        rw [decide_eq_true this]; rfl
    refine loop_rule (ι := Int) (fun p => head47_0 (.mk k ws ks) d p) (fun p => 0 ≤ p ∧ p ≤ ks.length ∧ rightT (.mk k ws ks) d = rightK k (ks.drop p.toNat) (d - 1)) (fun p => ((ks.length : Int) - p).toNat) 0 rfl ⟨by omega, by omega, by simpa using hb⟩ ?_
    rintro i ⟨h1, h2, h3⟩
    refine vc47_l0 N _ _ _ _ _ ?_
    (simp only [bif_tl, bif_fr, bif_tlf, bif_frf, Bool.not_eq_true', Bool.not_eq_false', decide_eq_true_eq, decide_eq_false_iff_not, beq_iff_eq, beq_eq_false_iff_ne, bne_iff_ne, ne_eq, bne_eq_false_iff_eq, Bool.or_eq_true, Bool.and_eq_true, Bool.or_eq_false_iff, Bool.and_eq_false_imp])
    (simp only [Tree.eta, Edit.eta, Tree.kind_mk, Tree.words_mk, Tree.kids_mk])
    refine ⟨fun hi => ?_, fun hi => ?_⟩
    · have hd := rightK_drop (l := k) (d := d - 1) h1 hi
      have hm := massK_get (ks := ks) (i := i.toNat) (by omega)
      have hr := rngK_get (i := i.toNat) hp.2.1.2.2 (by omega)
      rw [hd] at h3
      have hlen := massK_len ks
      generalize ks.getD i.toNat Tree.nil = y at *
      have hpre : pre47 (y, d - 1, ()) := ⟨by dsimp only; omega, hr, by dsimp only; omega, by dsimp only; omega⟩
      have hmu : mu47 (y, d - 1, ()) < N := by simp only [mu47]; omega
      have hin : InR (d - 1) := by unfold InR; omega
      refine ⟨⟨h1, hi⟩, hin, hpre, hmu, fun hf => ends_bool rfl ?_, fun hf => ?_⟩
      · rw [h3, hf]; simp
      · have hdata : ((bif decide (2 ≤ k) then decide (k ≤ 7) else false) = (y.kind == 10)) ↔ ((2 ≤ k ∧ k ≤ 7) ↔ y.kind = 10) := by
          rw [Bool.eq_iff_iff]; (simp only [bif_tl, bif_fr, bif_tlf, bif_frf, Bool.not_eq_true', Bool.not_eq_false', decide_eq_true_eq, decide_eq_false_iff_not, beq_iff_eq, beq_eq_false_iff_ne, bne_iff_ne, ne_eq, bne_eq_false_iff_eq, Bool.or_eq_true, Bool.and_eq_true, Bool.or_eq_false_iff, Bool.and_eq_false_imp])
        have hat := rightT_atom hf
        have hkb : kidB k y = true ↔ (((2 ≤ k ∧ k ≤ 7) ↔ y.kind = 10) ∧ (¬k = 9 ∨ y.kind = 1)) ∧ ((¬2 ≤ k ∨ ¬k ≤ 7) ∨ fits (k - 2) (y.words.getD 0 0) = true) := by
          unfold kidB
          by_cases hk : 2 ≤ k ∧ k ≤ 7
          · rw [if_pos hk]
            (simp only [bif_tl, bif_fr, bif_tlf, bif_frf, Bool.not_eq_true', Bool.not_eq_false', decide_eq_true_eq, decide_eq_false_iff_not, beq_iff_eq, beq_eq_false_iff_ne, bne_iff_ne, ne_eq, bne_eq_false_iff_eq, Bool.or_eq_true, Bool.and_eq_true, Bool.or_eq_false_iff, Bool.and_eq_false_imp])
            constructor
            · rintro ⟨h4, h5⟩; exact ⟨⟨by omega, by omega⟩, .inr h5⟩
            · rintro ⟨⟨h4, _⟩, h5⟩
              have := hat (by omega)
              exact ⟨by omega, by rcases h5 with h5 | h5; omega; exact h5⟩
          · rw [if_neg hk]
            by_cases h9 : k = 9
            · rw [if_pos h9]
              (simp only [bif_tl, bif_fr, bif_tlf, bif_frf, Bool.not_eq_true', Bool.not_eq_false', decide_eq_true_eq, decide_eq_false_iff_not, beq_iff_eq, beq_eq_false_iff_ne, bne_iff_ne, ne_eq, bne_eq_false_iff_eq, Bool.or_eq_true, Bool.and_eq_true, Bool.or_eq_false_iff, Bool.and_eq_false_imp])
              constructor
              · intro h4; exact ⟨⟨by omega, by omega⟩, .inl (by omega)⟩
              · rintro ⟨⟨_, h4⟩, _⟩; omega
            · rw [if_neg h9]
              (simp only [bif_tl, bif_fr, bif_tlf, bif_frf, Bool.not_eq_true', Bool.not_eq_false', decide_eq_true_eq, decide_eq_false_iff_not, beq_iff_eq, beq_eq_false_iff_ne, bne_iff_ne, ne_eq, bne_eq_false_iff_eq, Bool.or_eq_true, Bool.and_eq_true, Bool.or_eq_false_iff, Bool.and_eq_false_imp])
              constructor
              · intro h4; exact ⟨⟨by omega, by omega⟩, .inl (by omega)⟩
              · rintro ⟨⟨h4, _⟩, _⟩; omega
        have hone : ∀ (h4 : (((bif decide (2 ≤ k) then decide (k ≤ 7) else false) = (y.kind == 10) ∧ (¬k = 9 ∨ y.kind = 1)) ∧ 2 ≤ k ∧ k ≤ 7)), y.words.length = 1 := fun h4 => (hat ((hdata.1 h4.1.1).1 h4.2)).1
        simp only [Int.toNat_zero]
        refine ⟨fun h4 => by unfold InR; omega, fun h4 => by have := hone h4; omega, fun h4 => rng_word hr (by have := hone h4; omega), fun h4 => ends_bool rfl ?_, fun h4 => ⟨by unfold InR; omega, i + 1, rfl, ⟨by omega, by omega, ?_⟩, by omega⟩⟩
        · have hno : kidB k y = false := by
            cases hkk : kidB k y with
            | false => rfl
            | true =>
              exfalso
              obtain ⟨h5, h6⟩ := hkb.1 hkk
              rcases h4 with h4 | ⟨h4, h7⟩
              · rcases h4 with h4 | h4
                · exact h4 (hdata.2 h5.1)
                · omega
              · rcases h6 with h6 | h6
                · omega
                · rw [h7] at h6; cases h6
          rw [h3, hno]; rfl
        · rw [h3, hkb.2 ⟨⟨hdata.1 h4.1.1, h4.1.2⟩, h4.2⟩, hf]; rfl
    · rw [List.drop_eq_nil_of_le (by omega)] at h3
      simp only [rightK] at h3
      exact ends_bool rfl h3.symm

end Go.AM.Ytlahjnelghpmeaa
