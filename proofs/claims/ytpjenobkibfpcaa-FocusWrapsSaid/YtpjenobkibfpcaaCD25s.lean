import Derived.Test.YtpjenobkibfpcaaKD24
import Derived.Test.YtpjenobkibfpcaaKD20
import Derived.Test.YtpjenobkibfpcaaKRB07
import Derived.Test.YtpjenobkibfpcaaKB07
set_option linter.unusedSimpArgs false
set_option linter.unusedVariables false
namespace Go.AM.Ytpjenobkibfpcaa
open Go.AM Go.Proofs
def args59 : ArgL (List Tree × List Tree × Unit) := (.cons (aSl .tree) (.cons (aSl .tree) .nil))
def pre59 (a : List Tree × List Tree × Unit) : Prop := massK a.1 ≤ 20000000000
noncomputable def res59 (a : List Tree × List Tree × Unit) : V U := .c (.bool (eqX a.1 a.2.1))
noncomputable def spec59 : Fs U := fs args59 (fun a => [pre59 a]) res59
def args19 : ArgL (Edit × Edit × Unit) := (.cons (aEl .edit) (.cons (aEl .edit) .nil))
def pre19 (a : Edit × Edit × Unit) : Prop := massE a.1 ≤ 20000000000
def mu19 (a : Edit × Edit × Unit) : Nat := massE a.1
noncomputable def res19 (a : Edit × Edit × Unit) : V U := .c (.bool (eqX a.1 a.2.1))
noncomputable def spec19 : Fs U := fs args19 (fun a => [pre19 a]) res19
noncomputable def know59 : List (FuncId × Fs U) := [(29, spec29)]
def lv59 : Lives U := fun i => match i with
  | 0 => ([(0, []), (1, [])], [])
  | 1 => ([(0, []), (1, []), (10, [])], [])
  | 2 => ([(4, [])], [])
  | 3 => ([(0, []), (1, []), (5, [])], [])
  | 4 => ([(0, []), (1, []), (5, []), (14, [])], [])
  | 5 => ([(0, []), (1, []), (5, [])], [])
  | 6 => ([(0, []), (1, []), (5, []), (26, [])], [])
  | 7 => ([(4, [])], [])
  | 8 => ([(4, [])], [])
  | _ => ([], [])
noncomputable def head59_0 (a : List Tree) (b : List Tree) (x5 : Int) : LSt U := (⟨[(0, .c (.slice (U := U) .tree a .unk)), (1, .c (.slice (U := U) .tree b .unk)), (5, .c (.int .i64 x5))], [], []⟩ : LSt U)
noncomputable abbrev A59 (p : List Nat) := awp cfg (know know59) (drawOk cfg (know know59)) Try.f59.ntmps lv59 (cd Try.f59 p)
noncomputable abbrev S59 (p : List Nat) := seqK cfg (know know59) (drawOk cfg (know know59)) Try.f59.ntmps lv59 (cd Try.f59 p)
theorem vc59 (a : List Tree) (b : List Tree) (Q : AExit → LSt U → Prop) (h : ((((((a.length : Int) : Int) != (b.length : Int)) = true → (Q .ret (⟨[(4, .c (.bool false))], [], []⟩ : LSt U))) ∧ ((((a.length : Int) : Int) != (b.length : Int)) = false → (LoopWp (A59 [1, 1, 0, 1, 0, 0]) (head59_0 a b 0) (AExit.inBlock 0 (S59 [1, 1, 1] Q))))))) :
    A59 [] (⟨[(0, .c (.slice (U := U) .tree a .unk)), (1, .c (.slice (U := U) .tree b .unk))], [], []⟩ : LSt U) Q :=
  Eq.mpr (by kernel_rfl) h
theorem vc59_l0 (a : List Tree) (b : List Tree) (x5 : Int) (N0 : LSt U → Prop) (Q : AExit → LSt U → Prop) (h : (((decide ((x5 : Int) < (a.length : Int))) = true → ((0 : Int) ≤ x5 ∧ x5 < (a.length : Int)) ∧ ((0 : Int) ≤ x5 ∧ x5 < (b.length : Int)) ∧ (pre29 ((Tree.mk (Tree.kind (List.getD a (Int.toNat x5) Tree.nil)) (Tree.words (List.getD a (Int.toNat x5) Tree.nil)) (Tree.kids (List.getD a (Int.toNat x5) Tree.nil))), (Tree.mk (Tree.kind (List.getD b (Int.toNat x5) Tree.nil)) (Tree.words (List.getD b (Int.toNat x5) Tree.nil)) (Tree.kids (List.getD b (Int.toNat x5) Tree.nil))), ())) ∧ (((!(sameT (Tree.mk (Tree.kind (List.getD a (Int.toNat x5) Tree.nil)) (Tree.words (List.getD a (Int.toNat x5) Tree.nil)) (Tree.kids (List.getD a (Int.toNat x5) Tree.nil))) (Tree.mk (Tree.kind (List.getD b (Int.toNat x5) Tree.nil)) (Tree.words (List.getD b (Int.toNat x5) Tree.nil)) (Tree.kids (List.getD b (Int.toNat x5) Tree.nil))))) = true → (Q .ret (⟨[(4, .c (.bool false))], [], []⟩ : LSt U))) ∧ ((!(sameT (Tree.mk (Tree.kind (List.getD a (Int.toNat x5) Tree.nil)) (Tree.words (List.getD a (Int.toNat x5) Tree.nil)) (Tree.kids (List.getD a (Int.toNat x5) Tree.nil))) (Tree.mk (Tree.kind (List.getD b (Int.toNat x5) Tree.nil)) (Tree.words (List.getD b (Int.toNat x5) Tree.nil)) (Tree.kids (List.getD b (Int.toNat x5) Tree.nil))))) = false → (InR ((x5 : Int) + 1)) ∧ (N0 (head59_0 a b ((x5 : Int) + 1)))))) ∧ ((decide ((x5 : Int) < (a.length : Int))) = false → (Q .ret (⟨[(4, .c (.bool true))], [], []⟩ : LSt U))))) :
    A59 [1, 1, 0, 1, 0, 0] (head59_0 a b x5) (AExit.then N0 (AExit.inBlock 0 (S59 [1, 1, 1] Q))) :=
  Eq.mpr (by kernel_rfl) h
def Body59 (a : List Tree) (b : List Tree)  : Prop := awp cfg (know (know59)) (drawOk cfg (know (know59))) Try.f59.ntmps lv59 (cd Try.f59 []) (entry (args59.can (a, b, ())) []) (EndsQ cfg Try.f59.ntmps Try.f59.results.toList (res59 (a, b, ())) [])
theorem make59 (c29 : Contract Try.prog cfg 29 spec29) (hb : ∀ (a : List Tree) (b : List Tree) (_ : Unit), pre59 (a, b, ()) → Body59 a b) : Contract Try.prog cfg 59 spec59 :=
  contract_flat (l := [(29, spec29)]) cfgOk rfl (⟨c29, trivial⟩) lv59 Try.func59 rfl rfl 2 (fun _ => rfl) (by decide) (fun ⟨a, b, _⟩ => hb a b ())
noncomputable def know19 (N : Nat) : List (FuncId × Fs U) := (19, fs args19 (fun a => [pre19 a, mu19 a < N]) res19) :: [(29, spec29), (59, spec59)]
def lv19 : Lives U := fun i => match i with
  | 0 => ([(2, []), (3, [])], [((.loc 2), []), ((.loc 3), [])])
  | 1 => ([(2, []), (3, []), (64, [])], [((.loc 2), []), ((.loc 3), [])])
  | 2 => ([(4, [])], [])
  | 3 => ([(2, []), (3, []), (5, [])], [((.loc 2), []), ((.loc 3), [])])
  | 4 => ([(2, []), (3, []), (5, []), (69, [])], [((.loc 2), []), ((.loc 3), [])])
  | 5 => ([(2, []), (3, []), (5, [])], [((.loc 2), []), ((.loc 3), [])])
  | 6 => ([(2, []), (3, []), (5, []), (82, [])], [((.loc 2), []), ((.loc 3), [])])
  | 7 => ([(4, [])], [])
  | 8 => ([(2, []), (3, []), (6, [])], [((.loc 2), []), ((.loc 3), [])])
  | 9 => ([(2, []), (3, []), (6, []), (87, [])], [((.loc 2), []), ((.loc 3), [])])
  | 10 => ([(2, []), (3, []), (6, [])], [((.loc 2), []), ((.loc 3), [])])
  | 11 => ([(2, []), (3, []), (6, []), (118, [])], [((.loc 2), []), ((.loc 3), [])])
  | 12 => ([(4, [])], [])
  | 13 => ([(2, []), (3, []), (7, [])], [((.loc 2), []), ((.loc 3), [])])
  | 14 => ([(2, []), (3, []), (7, []), (123, [])], [((.loc 2), []), ((.loc 3), [])])
  | 15 => ([(2, []), (3, []), (7, [])], [((.loc 2), []), ((.loc 3), [])])
  | 16 => ([(2, []), (3, []), (7, []), (8, []), (9, [])], [((.loc 2), []), ((.loc 3), []), ((.loc 8), []), ((.loc 9), [])])
  | 17 => ([(2, []), (3, []), (7, []), (163, [])], [((.loc 2), []), ((.loc 3), [])])
  | 18 => ([(4, [])], [])
  | 19 => ([(4, [])], [])
  | _ => ([], [])
noncomputable def head19_0 (a : Edit) (b : Edit) (x5 : Int) : LSt U := (⟨[(2, .ptr (.loc 2) 0), (3, .ptr (.loc 3) 0), (5, .c (.int .i64 x5))], [((.loc 2), [.int .i64 (Edit.kind a), .int .i64 (Tree.kind (Edit.old a)), .slice (U := U) .u64 (Tree.words (Edit.old a)) .unk, .slice (U := U) .tree (Tree.kids (Edit.old a)) .unk, .int .i64 (Tree.kind (Edit.new a)), .slice (U := U) .u64 (Tree.words (Edit.new a)) .unk, .slice (U := U) .tree (Tree.kids (Edit.new a)) .unk, .slice (U := U) .wedit (Edit.words a) .unk, .slice (U := U) .kid (Edit.kids a) .unk, .int .i64 (Edit.list a), .slice (U := U) .op (Edit.ops a) .unk]), ((.loc 3), [.int .i64 (Edit.kind b), .int .i64 (Tree.kind (Edit.old b)), .slice (U := U) .u64 (Tree.words (Edit.old b)) .unk, .slice (U := U) .tree (Tree.kids (Edit.old b)) .unk, .int .i64 (Tree.kind (Edit.new b)), .slice (U := U) .u64 (Tree.words (Edit.new b)) .unk, .slice (U := U) .tree (Tree.kids (Edit.new b)) .unk, .slice (U := U) .wedit (Edit.words b) .unk, .slice (U := U) .kid (Edit.kids b) .unk, .int .i64 (Edit.list b), .slice (U := U) .op (Edit.ops b) .unk])], []⟩ : LSt U)
noncomputable def head19_1 (a : Edit) (b : Edit) (x6_a : Int) : LSt U := (⟨[(2, .ptr (.loc 2) 0), (3, .ptr (.loc 3) 0), (6, .c (.int .i64 x6_a))], [((.loc 2), [.int .i64 (Edit.kind a), .int .i64 (Tree.kind (Edit.old a)), .slice (U := U) .u64 (Tree.words (Edit.old a)) .unk, .slice (U := U) .tree (Tree.kids (Edit.old a)) .unk, .int .i64 (Tree.kind (Edit.new a)), .slice (U := U) .u64 (Tree.words (Edit.new a)) .unk, .slice (U := U) .tree (Tree.kids (Edit.new a)) .unk, .slice (U := U) .wedit (Edit.words a) .unk, .slice (U := U) .kid (Edit.kids a) .unk, .int .i64 (Edit.list a), .slice (U := U) .op (Edit.ops a) .unk]), ((.loc 3), [.int .i64 (Edit.kind b), .int .i64 (Tree.kind (Edit.old b)), .slice (U := U) .u64 (Tree.words (Edit.old b)) .unk, .slice (U := U) .tree (Tree.kids (Edit.old b)) .unk, .int .i64 (Tree.kind (Edit.new b)), .slice (U := U) .u64 (Tree.words (Edit.new b)) .unk, .slice (U := U) .tree (Tree.kids (Edit.new b)) .unk, .slice (U := U) .wedit (Edit.words b) .unk, .slice (U := U) .kid (Edit.kids b) .unk, .int .i64 (Edit.list b), .slice (U := U) .op (Edit.ops b) .unk])], []⟩ : LSt U)
noncomputable def head19_2 (a : Edit) (b : Edit) (x7_b : Int) : LSt U := (⟨[(2, .ptr (.loc 2) 0), (3, .ptr (.loc 3) 0), (7, .c (.int .i64 x7_b))], [((.loc 2), [.int .i64 (Edit.kind a), .int .i64 (Tree.kind (Edit.old a)), .slice (U := U) .u64 (Tree.words (Edit.old a)) .unk, .slice (U := U) .tree (Tree.kids (Edit.old a)) .unk, .int .i64 (Tree.kind (Edit.new a)), .slice (U := U) .u64 (Tree.words (Edit.new a)) .unk, .slice (U := U) .tree (Tree.kids (Edit.new a)) .unk, .slice (U := U) .wedit (Edit.words a) .unk, .slice (U := U) .kid (Edit.kids a) .unk, .int .i64 (Edit.list a), .slice (U := U) .op (Edit.ops a) .unk]), ((.loc 3), [.int .i64 (Edit.kind b), .int .i64 (Tree.kind (Edit.old b)), .slice (U := U) .u64 (Tree.words (Edit.old b)) .unk, .slice (U := U) .tree (Tree.kids (Edit.old b)) .unk, .int .i64 (Tree.kind (Edit.new b)), .slice (U := U) .u64 (Tree.words (Edit.new b)) .unk, .slice (U := U) .tree (Tree.kids (Edit.new b)) .unk, .slice (U := U) .wedit (Edit.words b) .unk, .slice (U := U) .kid (Edit.kids b) .unk, .int .i64 (Edit.list b), .slice (U := U) .op (Edit.ops b) .unk])], []⟩ : LSt U)
noncomputable abbrev A19 (N : Nat) (p : List Nat) := awp cfg (know (know19 N)) (drawOk cfg (know (know19 N))) Try.f19.ntmps lv19 (cd Try.f19 p)
noncomputable abbrev S19 (N : Nat) (p : List Nat) := seqK cfg (know (know19 N)) (drawOk cfg (know (know19 N))) Try.f19.ntmps lv19 (cd Try.f19 p)
theorem vc19 (N : Nat) (a : Edit) (b : Edit) (Q : AExit → LSt U → Prop) (h : ∀ y_1, y_1 = ((Edit.new a)) → ∀ y_2, y_2 = ((Edit.new b)) → ∀ y_3, y_3 = ((Edit.old a)) → ∀ y_4, y_4 = ((Edit.old b)) → ((Tr ((!(((Edit.kind a) : Int) != (Edit.kind b))) = true)) ∧ (Tr ((!(((Edit.kind a) : Int) != (Edit.kind b))) = true)) ∧ (Tr ((!(((Edit.kind a) : Int) != (Edit.kind b))) = true)) ∧ (Tr ((!(((Edit.kind a) : Int) != (Edit.kind b))) = true)) ∧ (((((Edit.kind a) : Int) != (Edit.kind b)) = false → (!(((Edit.kind a) : Int) != (Edit.kind b))) = true)) ∧ (Tr ((!(bif (((Edit.kind a) : Int) != (Edit.kind b)) then true else (((Edit.list a) : Int) != (Edit.list b)))) = true)) ∧ (Tr ((!(bif (((Edit.kind a) : Int) != (Edit.kind b)) then true else (((Edit.list a) : Int) != (Edit.list b)))) = true)) ∧ (Tr ((!(bif (((Edit.kind a) : Int) != (Edit.kind b)) then true else (((Edit.list a) : Int) != (Edit.list b)))) = true)) ∧ (Tr ((!(bif (((Edit.kind a) : Int) != (Edit.kind b)) then true else (((Edit.list a) : Int) != (Edit.list b)))) = true)) ∧ ((!(bif (((Edit.kind a) : Int) != (Edit.kind b)) then true else (((Edit.list a) : Int) != (Edit.list b)))) = true → pre29 (y_3, y_4, ())) ∧ (Tr ((!(bif (((Edit.kind a) : Int) != (Edit.kind b)) then true else (((Edit.list a) : Int) != (Edit.list b)))) = true)) ∧ (((bif (((Edit.kind a) : Int) != (Edit.kind b)) then true else (((Edit.list a) : Int) != (Edit.list b))) = false → (!(bif (((Edit.kind a) : Int) != (Edit.kind b)) then true else (((Edit.list a) : Int) != (Edit.list b)))) = true)) ∧ (Tr ((!(bif (bif (((Edit.kind a) : Int) != (Edit.kind b)) then true else (((Edit.list a) : Int) != (Edit.list b))) then true else (!(sameT y_3 y_4)))) = true)) ∧ (Tr ((!(bif (bif (((Edit.kind a) : Int) != (Edit.kind b)) then true else (((Edit.list a) : Int) != (Edit.list b))) then true else (!(sameT y_3 y_4)))) = true)) ∧ (Tr ((!(bif (bif (((Edit.kind a) : Int) != (Edit.kind b)) then true else (((Edit.list a) : Int) != (Edit.list b))) then true else (!(sameT y_3 y_4)))) = true)) ∧ (Tr ((!(bif (bif (((Edit.kind a) : Int) != (Edit.kind b)) then true else (((Edit.list a) : Int) != (Edit.list b))) then true else (!(sameT y_3 y_4)))) = true)) ∧ ((!(bif (bif (((Edit.kind a) : Int) != (Edit.kind b)) then true else (((Edit.list a) : Int) != (Edit.list b))) then true else (!(sameT y_3 y_4)))) = true → pre29 (y_1, y_2, ())) ∧ (Tr ((!(bif (bif (((Edit.kind a) : Int) != (Edit.kind b)) then true else (((Edit.list a) : Int) != (Edit.list b))) then true else (!(sameT y_3 y_4)))) = true)) ∧ (((bif (bif (((Edit.kind a) : Int) != (Edit.kind b)) then true else (((Edit.list a) : Int) != (Edit.list b))) then true else (!(sameT y_3 y_4))) = false → (!(bif (bif (((Edit.kind a) : Int) != (Edit.kind b)) then true else (((Edit.list a) : Int) != (Edit.list b))) then true else (!(sameT y_3 y_4)))) = true)) ∧ (Tr ((!(bif (bif (bif (((Edit.kind a) : Int) != (Edit.kind b)) then true else (((Edit.list a) : Int) != (Edit.list b))) then true else (!(sameT y_3 y_4))) then true else (!(sameT y_1 y_2)))) = true)) ∧ (Tr ((!(bif (bif (bif (((Edit.kind a) : Int) != (Edit.kind b)) then true else (((Edit.list a) : Int) != (Edit.list b))) then true else (!(sameT y_3 y_4))) then true else (!(sameT y_1 y_2)))) = true)) ∧ (Tr ((!(bif (bif (bif (((Edit.kind a) : Int) != (Edit.kind b)) then true else (((Edit.list a) : Int) != (Edit.list b))) then true else (!(sameT y_3 y_4))) then true else (!(sameT y_1 y_2)))) = true)) ∧ (Tr ((!(bif (bif (bif (((Edit.kind a) : Int) != (Edit.kind b)) then true else (((Edit.list a) : Int) != (Edit.list b))) then true else (!(sameT y_3 y_4))) then true else (!(sameT y_1 y_2)))) = true)) ∧ (Tr ((!(bif (bif (bif (((Edit.kind a) : Int) != (Edit.kind b)) then true else (((Edit.list a) : Int) != (Edit.list b))) then true else (!(sameT y_3 y_4))) then true else (!(sameT y_1 y_2)))) = true)) ∧ (Tr ((!(bif (bif (bif (((Edit.kind a) : Int) != (Edit.kind b)) then true else (((Edit.list a) : Int) != (Edit.list b))) then true else (!(sameT y_3 y_4))) then true else (!(sameT y_1 y_2)))) = true)) ∧ (((bif (bif (bif (((Edit.kind a) : Int) != (Edit.kind b)) then true else (((Edit.list a) : Int) != (Edit.list b))) then true else (!(sameT y_3 y_4))) then true else (!(sameT y_1 y_2))) = false → (!(bif (bif (bif (((Edit.kind a) : Int) != (Edit.kind b)) then true else (((Edit.list a) : Int) != (Edit.list b))) then true else (!(sameT y_3 y_4))) then true else (!(sameT y_1 y_2)))) = true)) ∧ (Tr ((!(bif (bif (bif (bif (((Edit.kind a) : Int) != (Edit.kind b)) then true else (((Edit.list a) : Int) != (Edit.list b))) then true else (!(sameT y_3 y_4))) then true else (!(sameT y_1 y_2))) then true else ((((Edit.words a).length : Int) : Int) != ((Edit.words b).length : Int)))) = true)) ∧ (Tr ((!(bif (bif (bif (bif (((Edit.kind a) : Int) != (Edit.kind b)) then true else (((Edit.list a) : Int) != (Edit.list b))) then true else (!(sameT y_3 y_4))) then true else (!(sameT y_1 y_2))) then true else ((((Edit.words a).length : Int) : Int) != ((Edit.words b).length : Int)))) = true)) ∧ (Tr ((!(bif (bif (bif (bif (((Edit.kind a) : Int) != (Edit.kind b)) then true else (((Edit.list a) : Int) != (Edit.list b))) then true else (!(sameT y_3 y_4))) then true else (!(sameT y_1 y_2))) then true else ((((Edit.words a).length : Int) : Int) != ((Edit.words b).length : Int)))) = true)) ∧ (Tr ((!(bif (bif (bif (bif (((Edit.kind a) : Int) != (Edit.kind b)) then true else (((Edit.list a) : Int) != (Edit.list b))) then true else (!(sameT y_3 y_4))) then true else (!(sameT y_1 y_2))) then true else ((((Edit.words a).length : Int) : Int) != ((Edit.words b).length : Int)))) = true)) ∧ (Tr ((!(bif (bif (bif (bif (((Edit.kind a) : Int) != (Edit.kind b)) then true else (((Edit.list a) : Int) != (Edit.list b))) then true else (!(sameT y_3 y_4))) then true else (!(sameT y_1 y_2))) then true else ((((Edit.words a).length : Int) : Int) != ((Edit.words b).length : Int)))) = true)) ∧ (Tr ((!(bif (bif (bif (bif (((Edit.kind a) : Int) != (Edit.kind b)) then true else (((Edit.list a) : Int) != (Edit.list b))) then true else (!(sameT y_3 y_4))) then true else (!(sameT y_1 y_2))) then true else ((((Edit.words a).length : Int) : Int) != ((Edit.words b).length : Int)))) = true)) ∧ (((bif (bif (bif (bif (((Edit.kind a) : Int) != (Edit.kind b)) then true else (((Edit.list a) : Int) != (Edit.list b))) then true else (!(sameT y_3 y_4))) then true else (!(sameT y_1 y_2))) then true else ((((Edit.words a).length : Int) : Int) != ((Edit.words b).length : Int))) = false → (!(bif (bif (bif (bif (((Edit.kind a) : Int) != (Edit.kind b)) then true else (((Edit.list a) : Int) != (Edit.list b))) then true else (!(sameT y_3 y_4))) then true else (!(sameT y_1 y_2))) then true else ((((Edit.words a).length : Int) : Int) != ((Edit.words b).length : Int)))) = true)) ∧ (Tr ((!(bif (bif (bif (bif (bif (((Edit.kind a) : Int) != (Edit.kind b)) then true else (((Edit.list a) : Int) != (Edit.list b))) then true else (!(sameT y_3 y_4))) then true else (!(sameT y_1 y_2))) then true else ((((Edit.words a).length : Int) : Int) != ((Edit.words b).length : Int))) then true else ((((Edit.kids a).length : Int) : Int) != ((Edit.kids b).length : Int)))) = true)) ∧ (Tr ((!(bif (bif (bif (bif (bif (((Edit.kind a) : Int) != (Edit.kind b)) then true else (((Edit.list a) : Int) != (Edit.list b))) then true else (!(sameT y_3 y_4))) then true else (!(sameT y_1 y_2))) then true else ((((Edit.words a).length : Int) : Int) != ((Edit.words b).length : Int))) then true else ((((Edit.kids a).length : Int) : Int) != ((Edit.kids b).length : Int)))) = true)) ∧ (Tr ((!(bif (bif (bif (bif (bif (((Edit.kind a) : Int) != (Edit.kind b)) then true else (((Edit.list a) : Int) != (Edit.list b))) then true else (!(sameT y_3 y_4))) then true else (!(sameT y_1 y_2))) then true else ((((Edit.words a).length : Int) : Int) != ((Edit.words b).length : Int))) then true else ((((Edit.kids a).length : Int) : Int) != ((Edit.kids b).length : Int)))) = true)) ∧ (Tr ((!(bif (bif (bif (bif (bif (((Edit.kind a) : Int) != (Edit.kind b)) then true else (((Edit.list a) : Int) != (Edit.list b))) then true else (!(sameT y_3 y_4))) then true else (!(sameT y_1 y_2))) then true else ((((Edit.words a).length : Int) : Int) != ((Edit.words b).length : Int))) then true else ((((Edit.kids a).length : Int) : Int) != ((Edit.kids b).length : Int)))) = true)) ∧ (Tr ((!(bif (bif (bif (bif (bif (((Edit.kind a) : Int) != (Edit.kind b)) then true else (((Edit.list a) : Int) != (Edit.list b))) then true else (!(sameT y_3 y_4))) then true else (!(sameT y_1 y_2))) then true else ((((Edit.words a).length : Int) : Int) != ((Edit.words b).length : Int))) then true else ((((Edit.kids a).length : Int) : Int) != ((Edit.kids b).length : Int)))) = true)) ∧ (Tr ((!(bif (bif (bif (bif (bif (((Edit.kind a) : Int) != (Edit.kind b)) then true else (((Edit.list a) : Int) != (Edit.list b))) then true else (!(sameT y_3 y_4))) then true else (!(sameT y_1 y_2))) then true else ((((Edit.words a).length : Int) : Int) != ((Edit.words b).length : Int))) then true else ((((Edit.kids a).length : Int) : Int) != ((Edit.kids b).length : Int)))) = true)) ∧ (((bif (bif (bif (bif (bif (((Edit.kind a) : Int) != (Edit.kind b)) then true else (((Edit.list a) : Int) != (Edit.list b))) then true else (!(sameT y_3 y_4))) then true else (!(sameT y_1 y_2))) then true else ((((Edit.words a).length : Int) : Int) != ((Edit.words b).length : Int))) then true else ((((Edit.kids a).length : Int) : Int) != ((Edit.kids b).length : Int))) = false → (!(bif (bif (bif (bif (bif (((Edit.kind a) : Int) != (Edit.kind b)) then true else (((Edit.list a) : Int) != (Edit.list b))) then true else (!(sameT y_3 y_4))) then true else (!(sameT y_1 y_2))) then true else ((((Edit.words a).length : Int) : Int) != ((Edit.words b).length : Int))) then true else ((((Edit.kids a).length : Int) : Int) != ((Edit.kids b).length : Int)))) = true)) ∧ (((bif (bif (bif (bif (bif (bif (((Edit.kind a) : Int) != (Edit.kind b)) then true else (((Edit.list a) : Int) != (Edit.list b))) then true else (!(sameT y_3 y_4))) then true else (!(sameT y_1 y_2))) then true else ((((Edit.words a).length : Int) : Int) != ((Edit.words b).length : Int))) then true else ((((Edit.kids a).length : Int) : Int) != ((Edit.kids b).length : Int))) then true else ((((Edit.ops a).length : Int) : Int) != ((Edit.ops b).length : Int))) = true → (Q .ret (⟨[(4, .c (.bool false))], [], []⟩ : LSt U))) ∧ ((bif (bif (bif (bif (bif (bif (((Edit.kind a) : Int) != (Edit.kind b)) then true else (((Edit.list a) : Int) != (Edit.list b))) then true else (!(sameT y_3 y_4))) then true else (!(sameT y_1 y_2))) then true else ((((Edit.words a).length : Int) : Int) != ((Edit.words b).length : Int))) then true else ((((Edit.kids a).length : Int) : Int) != ((Edit.kids b).length : Int))) then true else ((((Edit.ops a).length : Int) : Int) != ((Edit.ops b).length : Int))) = false → (LoopWp (A19 N [1, 1, 0, 1, 0, 0]) (head19_0 a b 0) (AExit.inBlock 0 (S19 N [1, 1, 1] Q))))))) :
    A19 N [] (⟨[(0, .agg [.int .i64 (Edit.kind a), .int .i64 (Tree.kind (Edit.old a)), .slice (U := U) .u64 (Tree.words (Edit.old a)) .unk, .slice (U := U) .tree (Tree.kids (Edit.old a)) .unk, .int .i64 (Tree.kind (Edit.new a)), .slice (U := U) .u64 (Tree.words (Edit.new a)) .unk, .slice (U := U) .tree (Tree.kids (Edit.new a)) .unk, .slice (U := U) .wedit (Edit.words a) .unk, .slice (U := U) .kid (Edit.kids a) .unk, .int .i64 (Edit.list a), .slice (U := U) .op (Edit.ops a) .unk]), (1, .agg [.int .i64 (Edit.kind b), .int .i64 (Tree.kind (Edit.old b)), .slice (U := U) .u64 (Tree.words (Edit.old b)) .unk, .slice (U := U) .tree (Tree.kids (Edit.old b)) .unk, .int .i64 (Tree.kind (Edit.new b)), .slice (U := U) .u64 (Tree.words (Edit.new b)) .unk, .slice (U := U) .tree (Tree.kids (Edit.new b)) .unk, .slice (U := U) .wedit (Edit.words b) .unk, .slice (U := U) .kid (Edit.kids b) .unk, .int .i64 (Edit.list b), .slice (U := U) .op (Edit.ops b) .unk])], [], []⟩ : LSt U) Q :=
  Eq.mpr (by kernel_rfl) (h _ (reTree_eq _) _ (reTree_eq _) _ (reTree_eq _) _ (reTree_eq _))
theorem vc19_l0 (N : Nat) (a : Edit) (b : Edit) (x5 : Int) (N0 : LSt U → Prop) (Q : AExit → LSt U → Prop) (h : (((decide ((x5 : Int) < ((Edit.words a).length : Int))) = true → ((0 : Int) ≤ x5 ∧ x5 < ((Edit.words a).length : Int)) ∧ ((0 : Int) ≤ x5 ∧ x5 < ((Edit.words b).length : Int)) ∧ (((!((((WEdit.at_ (List.getD (Edit.words a) (Int.toNat x5) (WEdit.mk 0 0 0 0))) : Int) == (WEdit.at_ (List.getD (Edit.words b) (Int.toNat x5) (WEdit.mk 0 0 0 0)))) && ((((WEdit.mask (List.getD (Edit.words a) (Int.toNat x5) (WEdit.mk 0 0 0 0))) : Int) == (WEdit.mask (List.getD (Edit.words b) (Int.toNat x5) (WEdit.mk 0 0 0 0)))) && ((((WEdit.old (List.getD (Edit.words a) (Int.toNat x5) (WEdit.mk 0 0 0 0))) : Int) == (WEdit.old (List.getD (Edit.words b) (Int.toNat x5) (WEdit.mk 0 0 0 0)))) && ((((WEdit.new (List.getD (Edit.words a) (Int.toNat x5) (WEdit.mk 0 0 0 0))) : Int) == (WEdit.new (List.getD (Edit.words b) (Int.toNat x5) (WEdit.mk 0 0 0 0)))) && true))))) = true → (Q .ret (⟨[(4, .c (.bool false))], [], []⟩ : LSt U))) ∧ ((!((((WEdit.at_ (List.getD (Edit.words a) (Int.toNat x5) (WEdit.mk 0 0 0 0))) : Int) == (WEdit.at_ (List.getD (Edit.words b) (Int.toNat x5) (WEdit.mk 0 0 0 0)))) && ((((WEdit.mask (List.getD (Edit.words a) (Int.toNat x5) (WEdit.mk 0 0 0 0))) : Int) == (WEdit.mask (List.getD (Edit.words b) (Int.toNat x5) (WEdit.mk 0 0 0 0)))) && ((((WEdit.old (List.getD (Edit.words a) (Int.toNat x5) (WEdit.mk 0 0 0 0))) : Int) == (WEdit.old (List.getD (Edit.words b) (Int.toNat x5) (WEdit.mk 0 0 0 0)))) && ((((WEdit.new (List.getD (Edit.words a) (Int.toNat x5) (WEdit.mk 0 0 0 0))) : Int) == (WEdit.new (List.getD (Edit.words b) (Int.toNat x5) (WEdit.mk 0 0 0 0)))) && true))))) = false → (InR ((x5 : Int) + 1)) ∧ (N0 (head19_0 a b ((x5 : Int) + 1)))))) ∧ ((decide ((x5 : Int) < ((Edit.words a).length : Int))) = false → (LoopWp (A19 N [1, 1, 1, 0, 1, 0, 0]) (head19_1 a b 0) (AExit.inBlock 2 (S19 N [1, 1, 1, 1] Q)))))) :
    A19 N [1, 1, 0, 1, 0, 0] (head19_0 a b x5) (AExit.then N0 (AExit.inBlock 0 (S19 N [1, 1, 1] Q))) :=
  Eq.mpr (by kernel_rfl) h
theorem vc19_l1 (N : Nat) (a : Edit) (b : Edit) (x6_a : Int) (N1 : LSt U → Prop) (Q : AExit → LSt U → Prop) (h : ∀ y_1, y_1 = (List.getD (Edit.kids a) (Int.toNat x6_a) (KidOf.mk 0 Edit.nil)) → ∀ y_2, y_2 = (List.getD (Edit.kids b) (Int.toNat x6_a) (KidOf.mk 0 Edit.nil)) → ∀ y_3, y_3 = ((KidOf.e y_1)) → ∀ y_4, y_4 = ((KidOf.e y_2)) → (((decide ((x6_a : Int) < ((Edit.kids a).length : Int))) = true → ((0 : Int) ≤ x6_a ∧ x6_a < ((Edit.kids a).length : Int)) ∧ ((0 : Int) ≤ x6_a ∧ x6_a < ((Edit.kids b).length : Int)) ∧ (Tr ((!(((KidOf.at_ y_1) : Int) != (KidOf.at_ y_2))) = true)) ∧ (Tr ((!(((KidOf.at_ y_1) : Int) != (KidOf.at_ y_2))) = true)) ∧ (Tr ((!(((KidOf.at_ y_1) : Int) != (KidOf.at_ y_2))) = true)) ∧ ((!(((KidOf.at_ y_1) : Int) != (KidOf.at_ y_2))) = true → (0 : Int) ≤ x6_a ∧ x6_a < ((Edit.kids a).length : Int)) ∧ (Tr ((!(((KidOf.at_ y_1) : Int) != (KidOf.at_ y_2))) = true)) ∧ (Tr ((!(((KidOf.at_ y_1) : Int) != (KidOf.at_ y_2))) = true)) ∧ (Tr ((!(((KidOf.at_ y_1) : Int) != (KidOf.at_ y_2))) = true)) ∧ (Tr ((!(((KidOf.at_ y_1) : Int) != (KidOf.at_ y_2))) = true)) ∧ (Tr ((!(((KidOf.at_ y_1) : Int) != (KidOf.at_ y_2))) = true)) ∧ ((!(((KidOf.at_ y_1) : Int) != (KidOf.at_ y_2))) = true → (0 : Int) ≤ x6_a ∧ x6_a < ((Edit.kids b).length : Int)) ∧ (Tr ((!(((KidOf.at_ y_1) : Int) != (KidOf.at_ y_2))) = true)) ∧ (Tr ((!(((KidOf.at_ y_1) : Int) != (KidOf.at_ y_2))) = true)) ∧ (Tr ((!(((KidOf.at_ y_1) : Int) != (KidOf.at_ y_2))) = true)) ∧ (Tr ((!(((KidOf.at_ y_1) : Int) != (KidOf.at_ y_2))) = true)) ∧ ((!(((KidOf.at_ y_1) : Int) != (KidOf.at_ y_2))) = true → pre19 (y_3, y_4, ())) ∧ ((!(((KidOf.at_ y_1) : Int) != (KidOf.at_ y_2))) = true → mu19 (y_3, y_4, ()) < N) ∧ (Tr ((!(((KidOf.at_ y_1) : Int) != (KidOf.at_ y_2))) = true)) ∧ (((((KidOf.at_ y_1) : Int) != (KidOf.at_ y_2)) = false → (!(((KidOf.at_ y_1) : Int) != (KidOf.at_ y_2))) = true)) ∧ (((bif (((KidOf.at_ y_1) : Int) != (KidOf.at_ y_2)) then true else (!(eqX y_3 y_4))) = true → (Q .ret (⟨[(4, .c (.bool false))], [], []⟩ : LSt U))) ∧ ((bif (((KidOf.at_ y_1) : Int) != (KidOf.at_ y_2)) then true else (!(eqX y_3 y_4))) = false → (InR ((x6_a : Int) + 1)) ∧ (N1 (head19_1 a b ((x6_a : Int) + 1)))))) ∧ ((decide ((x6_a : Int) < ((Edit.kids a).length : Int))) = false → (LoopWp (A19 N [1, 1, 1, 1, 0, 1, 0, 0]) (head19_2 a b 0) (AExit.inBlock 4 (S19 N [1, 1, 1, 1, 1] Q)))))) :
    A19 N [1, 1, 1, 0, 1, 0, 0] (head19_1 a b x6_a) (AExit.then N1 (AExit.inBlock 2 (S19 N [1, 1, 1, 1] Q))) :=
  Eq.mpr (by kernel_rfl) (h _ rfl _ rfl _ (reEdit_eq _) _ (reEdit_eq _))
theorem vc19_l2 (N : Nat) (a : Edit) (b : Edit) (x7_b : Int) (N2 : LSt U → Prop) (Q : AExit → LSt U → Prop) (h : ∀ y_1, y_1 = (List.getD (Edit.ops a) (Int.toNat x7_b) Op.nil) → ∀ y_2, y_2 = (List.getD (Edit.ops b) (Int.toNat x7_b) Op.nil) → ∀ y_3, y_3 = ((OpOf.e y_1)) → ∀ y_4, y_4 = ((OpOf.e y_2)) → (((decide ((x7_b : Int) < ((Edit.ops a).length : Int))) = true → ((0 : Int) ≤ x7_b ∧ x7_b < ((Edit.ops a).length : Int)) ∧ ((0 : Int) ≤ x7_b ∧ x7_b < ((Edit.ops b).length : Int)) ∧ ((Tr ((!(((OpOf.kind y_1) : Int) != (OpOf.kind y_2))) = true)) ∧ (Tr ((!(((OpOf.kind y_1) : Int) != (OpOf.kind y_2))) = true)) ∧ (Tr ((!(((OpOf.kind y_1) : Int) != (OpOf.kind y_2))) = true)) ∧ (Tr ((!(((OpOf.kind y_1) : Int) != (OpOf.kind y_2))) = true)) ∧ (((((OpOf.kind y_1) : Int) != (OpOf.kind y_2)) = false → (!(((OpOf.kind y_1) : Int) != (OpOf.kind y_2))) = true)) ∧ (Tr ((!(bif (((OpOf.kind y_1) : Int) != (OpOf.kind y_2)) then true else (((OpOf.n y_1) : Int) != (OpOf.n y_2)))) = true)) ∧ (Tr ((!(bif (((OpOf.kind y_1) : Int) != (OpOf.kind y_2)) then true else (((OpOf.n y_1) : Int) != (OpOf.n y_2)))) = true)) ∧ (Tr ((!(bif (((OpOf.kind y_1) : Int) != (OpOf.kind y_2)) then true else (((OpOf.n y_1) : Int) != (OpOf.n y_2)))) = true)) ∧ (Tr ((!(bif (((OpOf.kind y_1) : Int) != (OpOf.kind y_2)) then true else (((OpOf.n y_1) : Int) != (OpOf.n y_2)))) = true)) ∧ ((!(bif (((OpOf.kind y_1) : Int) != (OpOf.kind y_2)) then true else (((OpOf.n y_1) : Int) != (OpOf.n y_2)))) = true → pre59 ((OpOf.l y_1), (OpOf.l y_2), ())) ∧ (Tr ((!(bif (((OpOf.kind y_1) : Int) != (OpOf.kind y_2)) then true else (((OpOf.n y_1) : Int) != (OpOf.n y_2)))) = true)) ∧ (((bif (((OpOf.kind y_1) : Int) != (OpOf.kind y_2)) then true else (((OpOf.n y_1) : Int) != (OpOf.n y_2))) = false → (!(bif (((OpOf.kind y_1) : Int) != (OpOf.kind y_2)) then true else (((OpOf.n y_1) : Int) != (OpOf.n y_2)))) = true)) ∧ (Tr ((!(bif (bif (((OpOf.kind y_1) : Int) != (OpOf.kind y_2)) then true else (((OpOf.n y_1) : Int) != (OpOf.n y_2))) then true else (!(eqX (OpOf.l y_1) (OpOf.l y_2))))) = true)) ∧ (Tr ((!(bif (bif (((OpOf.kind y_1) : Int) != (OpOf.kind y_2)) then true else (((OpOf.n y_1) : Int) != (OpOf.n y_2))) then true else (!(eqX (OpOf.l y_1) (OpOf.l y_2))))) = true)) ∧ (Tr ((!(bif (bif (((OpOf.kind y_1) : Int) != (OpOf.kind y_2)) then true else (((OpOf.n y_1) : Int) != (OpOf.n y_2))) then true else (!(eqX (OpOf.l y_1) (OpOf.l y_2))))) = true)) ∧ (Tr ((!(bif (bif (((OpOf.kind y_1) : Int) != (OpOf.kind y_2)) then true else (((OpOf.n y_1) : Int) != (OpOf.n y_2))) then true else (!(eqX (OpOf.l y_1) (OpOf.l y_2))))) = true)) ∧ ((!(bif (bif (((OpOf.kind y_1) : Int) != (OpOf.kind y_2)) then true else (((OpOf.n y_1) : Int) != (OpOf.n y_2))) then true else (!(eqX (OpOf.l y_1) (OpOf.l y_2))))) = true → pre19 (y_3, y_4, ())) ∧ ((!(bif (bif (((OpOf.kind y_1) : Int) != (OpOf.kind y_2)) then true else (((OpOf.n y_1) : Int) != (OpOf.n y_2))) then true else (!(eqX (OpOf.l y_1) (OpOf.l y_2))))) = true → mu19 (y_3, y_4, ()) < N) ∧ (Tr ((!(bif (bif (((OpOf.kind y_1) : Int) != (OpOf.kind y_2)) then true else (((OpOf.n y_1) : Int) != (OpOf.n y_2))) then true else (!(eqX (OpOf.l y_1) (OpOf.l y_2))))) = true)) ∧ (((bif (bif (((OpOf.kind y_1) : Int) != (OpOf.kind y_2)) then true else (((OpOf.n y_1) : Int) != (OpOf.n y_2))) then true else (!(eqX (OpOf.l y_1) (OpOf.l y_2)))) = false → (!(bif (bif (((OpOf.kind y_1) : Int) != (OpOf.kind y_2)) then true else (((OpOf.n y_1) : Int) != (OpOf.n y_2))) then true else (!(eqX (OpOf.l y_1) (OpOf.l y_2))))) = true)) ∧ (((bif (bif (bif (((OpOf.kind y_1) : Int) != (OpOf.kind y_2)) then true else (((OpOf.n y_1) : Int) != (OpOf.n y_2))) then true else (!(eqX (OpOf.l y_1) (OpOf.l y_2)))) then true else (!(eqX y_3 y_4))) = true → (Q .ret (⟨[(4, .c (.bool false))], [], []⟩ : LSt U))) ∧ ((bif (bif (bif (((OpOf.kind y_1) : Int) != (OpOf.kind y_2)) then true else (((OpOf.n y_1) : Int) != (OpOf.n y_2))) then true else (!(eqX (OpOf.l y_1) (OpOf.l y_2)))) then true else (!(eqX y_3 y_4))) = false → (InR ((x7_b : Int) + 1)) ∧ (N2 (head19_2 a b ((x7_b : Int) + 1))))))) ∧ ((decide ((x7_b : Int) < ((Edit.ops a).length : Int))) = false → (Q .ret (⟨[(4, .c (.bool true))], [], []⟩ : LSt U))))) :
    A19 N [1, 1, 1, 1, 0, 1, 0, 0] (head19_2 a b x7_b) (AExit.then N2 (AExit.inBlock 4 (S19 N [1, 1, 1, 1, 1] Q))) :=
  Eq.mpr (by kernel_rfl) (h _ rfl _ rfl _ (reEdit_eq _) _ (reEdit_eq _))
def Body19 (N : Nat) (a : Edit) (b : Edit)  : Prop := awp cfg (know (know19 N)) (drawOk cfg (know (know19 N))) Try.f19.ntmps lv19 (cd Try.f19 []) (entry (args19.can (a, b, ())) []) (EndsQ cfg Try.f19.ntmps Try.f19.results.toList (res19 (a, b, ())) [])
theorem make19 (c29 : Contract Try.prog cfg 29 spec29) (c59 : Contract Try.prog cfg 59 spec59) (hb : ∀ (N : Nat) (a : Edit) (b : Edit) (_ : Unit), pre19 (a, b, ()) → mu19 (a, b, ()) < N + 1 → Body19 N a b) : Contract Try.prog cfg 19 spec19 :=
  contract_rec (μ := mu19) (l := [(29, spec29), (59, spec59)]) cfgOk rfl (⟨c29, c59, trivial⟩) lv19 Try.func19 rfl rfl 2 (fun _ => rfl) (by decide) (fun N ⟨a, b, _⟩ => hb N a b ())
end Go.AM.Ytpjenobkibfpcaa

namespace Go.AM.Ytpjenobkibfpcaa
open Go.AM Go.Proofs
theorem massE_nil : massE Edit.nil = 3 := by simp [Edit.nil, massE, massKs, massOs, Tree.nil, mass, massK]
theorem opOk_n {o : Op} (h : opOk o) : 0 ≤ o.n ∧ o.n ≤ 1048576 := by
  unfold opOk at h
  omega
theorem opLen_eq (o : Op) : opLen o = if o.kind = 3 then 1 else o.n + o.l.length := rfl
theorem opLen_pos {o : Op} (h : opOk o) : 1 ≤ opLen o := by
  have := opLen_eq o
  unfold opOk at h
  have hl : o.l ≠ [] → 0 < o.l.length := List.length_pos_iff.2
  rcases h with ⟨h1, h2, h3, h4⟩ | ⟨h1, h2, h3, h4⟩ | ⟨h1, h2, h3⟩
  · rw [h2] at this; simp at this; split at this <;> omega
  · have := hl h3; split at * <;> omega
  · rw [if_pos h1] at this; omega
theorem massOs_cons (o : Op) (r : List Op) : massOs (o :: r) = massOp o + massOs r := rfl
end Go.AM.Ytpjenobkibfpcaa

namespace Go.AM.Ytpjenobkibfpcaa
open Go.AM Go.Proofs
theorem eqX_no {α : Type} {a b : α} (h : ¬ a = b) : eqX a b = false := by rw [← Bool.not_eq_true, eqX_iff]; exact h
theorem list_eq_getD {α : Type} (d : α) {a b : List α} (hl : a.length = b.length) (h : ∀ i : Nat, i < a.length → a.getD i d = b.getD i d) : a = b := by
  apply List.ext_getElem hl
  intro i h1 h2
  have := h i h1
  simpa [List.getD_eq_getElem?_getD, List.getElem?_eq_getElem h1, List.getElem?_eq_getElem h2] using this
theorem c59 : Contract Try.prog cfg 59 spec59 := by
  refine make59 c29 ?_
  intro a b _ hp
  simp only [pre59] at hp
  refine vc59 _ _ _ ?_; (try simp only [vcT, forall_eq])
  (simp only [vcS]); (try simp only [vcT])
  refine ⟨fun hc => ends_bool rfl (eqX_no (a := a) (b := b) (fun h => hc (by rw [h]))).symm, fun hc => ?_⟩
  have hl : a.length = b.length := by omega
  have hla := massK_len a
  refine loop_rule (ι := Int) (fun i => head59_0 a b i) (fun i => 0 ≤ i ∧ i ≤ a.length ∧ ∀ j : Nat, (j : Int) < i → a.getD j Tree.nil = b.getD j Tree.nil) (fun i => ((a.length : Int) - i).toNat) 0 rfl ⟨by omega, by omega, by intro j hj; omega⟩ ?_
  rintro i ⟨h1, h2, h3⟩
  refine vc59_l0 _ _ _ _ _ ?_; (try simp only [vcT, forall_eq])
  (simp only [vcS]); (try simp only [vcT])
  try (simp only [Tree.eta, Edit.eta, Tree.kind_mk, Tree.words_mk, Tree.kids_mk])
  refine ⟨fun hi => ⟨⟨h1, hi⟩, ⟨h1, by omega⟩, ?_, fun hq => ?_, fun hq => ⟨by unfold InR; omega, i + 1, rfl, ⟨by omega, by omega, ?_⟩, by omega⟩⟩, fun hi => ?_⟩
  · have := massK_mem (mem_getD (l := a) (i := i.toNat) (by omega) Tree.nil)
    simp only [pre29]; omega
  · refine ends_bool rfl (eqX_no (a := a) (b := b) (fun h => ?_)).symm
    rw [h, sameT_false] at hq
    exact hq rfl
  · intro j hj
    by_cases hj2 : (j : Int) < i
    · exact h3 j hj2
    · rw [sameT_true, show i.toNat = j by omega] at hq
      exact hq
  · refine ends_bool rfl (eqX_iff (a := a) (b := b).2 (list_eq_getD Tree.nil hl (fun j hj => h3 j (by omega)))).symm
theorem edit_ext {a b : Edit} (h1 : a.kind = b.kind) (h2 : a.old = b.old) (h3 : a.new = b.new) (h4 : a.words = b.words) (h5 : a.kids = b.kids) (h6 : a.list = b.list) (h7 : a.ops = b.ops) : a = b := by
  cases a; cases b; simp_all
theorem kid_ext {a b : Kid} (h1 : a.at_ = b.at_) (h2 : a.e = b.e) : a = b := by cases a; cases b; simp_all
theorem op_ext {a b : Op} (h1 : a.kind = b.kind) (h2 : a.n = b.n) (h3 : a.l = b.l) (h4 : a.e = b.e) : a = b := by cases a; cases b; simp_all
theorem wedit_ext {a b : WEdit} (h1 : a.at_ = b.at_) (h2 : a.mask = b.mask) (h3 : a.old = b.old) (h4 : a.new = b.new) : a = b := by cases a; cases b; simp_all
theorem c19 : Contract Try.prog cfg 19 spec19 := by
  refine make19 c29 c59 ?_
  intro N a b _ hp hN
  simp only [pre19, mu19] at hp hN
  have hme := len_massE a
  have hkl := massKs_len a.kids
  have hol := massOs_len a.ops
  have neq : ∀ {P : Prop}, (a = b → P) → ¬ P → eqX a b = false := fun h1 h2 => eqX_no (fun h => h2 (h1 h))
  refine vc19 N a b _ ?_; (try simp only [vcT])
  rintro y1 rfl y2 rfl y3 rfl y4 rfl
  (simp only [vcS]); (try simp only [vcT])
  refine ⟨fun _ => ?_, fun _ => ?_, fun hc => ?_, fun hc => ?_⟩
  · simp only [pre29]; omega
  · simp only [pre29]; omega
  · refine ends_bool rfl (eqX_no (a := a) (b := b) (fun h => ?_)).symm
    rw [h] at hc
    simp only [sameT_false] at hc
    simp at hc
  · simp only [sameT_true, Classical.not_not] at hc
    obtain ⟨⟨⟨⟨⟨⟨h1, h2⟩, h3⟩, h4⟩, h5⟩, h6⟩, h7⟩ := hc
    refine loop_rule (ι := Int) (fun i => head19_0 a b i) (fun i => 0 ≤ i ∧ i ≤ a.words.length ∧ ∀ j : Nat, (j : Int) < i → a.words.getD j (WEdit.mk 0 0 0 0) = b.words.getD j (WEdit.mk 0 0 0 0)) (fun i => ((a.words.length : Int) - i).toNat) 0 rfl ⟨by omega, by omega, by intro j hj; omega⟩ ?_
    rintro i ⟨g1, g2, g3⟩
    refine vc19_l0 _ _ _ _ _ _ ?_; (try simp only [vcT, forall_eq])
    (simp only [vcS]); (try simp only [vcT])
    try simp only [and_true]
    refine ⟨fun hi => ⟨⟨g1, hi⟩, ⟨g1, by omega⟩, fun hq => ?_, fun hq => ⟨by unfold InR; omega, i + 1, rfl, ⟨by omega, by omega, ?_⟩, by omega⟩⟩, fun hi => ?_⟩
    · refine ends_bool rfl (eqX_no (a := a) (b := b) (fun h => ?_)).symm
      rw [h] at hq
      simp at hq
    · intro j hj
      by_cases hj2 : (j : Int) < i
      · exact g3 j hj2
      · rw [show i.toNat = j by omega] at hq
        exact wedit_ext hq.1 hq.2.1 hq.2.2.1 hq.2.2.2
    · have hw : a.words = b.words := list_eq_getD (WEdit.mk 0 0 0 0) (by omega) (fun j hj => g3 j (by omega))
      refine loop_rule (ι := Int) (fun i => head19_1 a b i) (fun i => 0 ≤ i ∧ i ≤ a.kids.length ∧ ∀ j : Nat, (j : Int) < i → a.kids.getD j (KidOf.mk 0 Edit.nil) = b.kids.getD j (KidOf.mk 0 Edit.nil)) (fun i => ((a.kids.length : Int) - i).toNat) 0 rfl ⟨by omega, by omega, by intro j hj; omega⟩ ?_
      rintro i ⟨g1, g2, g3⟩
      refine vc19_l1 _ _ _ _ _ _ ?_; (try simp only [vcT])
      rintro y1 hy1 y2 hy2 y3 hy3 y4 hy4
      (simp only [vcS]); (try simp only [vcT])
      refine ⟨fun hi => ⟨⟨g1, hi⟩, ⟨g1, by omega⟩, fun _ => ⟨g1, hi⟩, fun _ => ⟨g1, by omega⟩, fun _ => ?_, fun _ => ?_, fun hq => ?_, fun hq => ⟨by unfold InR; omega, i + 1, rfl, ⟨by omega, by omega, ?_⟩, by omega⟩⟩, fun hi => ?_⟩
      · have := massKs_mem (mem_getD (l := a.kids) (i := i.toNat) (by omega) (KidOf.mk 0 Edit.nil))
        rw [← hy1, ← hy3] at this
        simp only [pre19]; omega
      · have := massKs_mem (mem_getD (l := a.kids) (i := i.toNat) (by omega) (KidOf.mk 0 Edit.nil))
        rw [← hy1, ← hy3] at this
        simp only [mu19]; omega
      · refine ends_bool rfl (eqX_no (a := a) (b := b) (fun h => ?_)).symm
        rw [h] at hy1
        rw [hy3, hy4, hy1, hy2, eqX_self] at hq
        simp at hq
      · intro j hj
        by_cases hj2 : (j : Int) < i
        · exact g3 j hj2
        · rw [eqX_iff, hy3, hy4, hy1, hy2, show i.toNat = j by omega] at hq
          exact kid_ext (by simpa using hq.1) hq.2
      · have hk : a.kids = b.kids := list_eq_getD (KidOf.mk 0 Edit.nil) (by omega) (fun j hj => g3 j (by omega))
        refine loop_rule (ι := Int) (fun i => head19_2 a b i) (fun i => 0 ≤ i ∧ i ≤ a.ops.length ∧ ∀ j : Nat, (j : Int) < i → a.ops.getD j Op.nil = b.ops.getD j Op.nil) (fun i => ((a.ops.length : Int) - i).toNat) 0 rfl ⟨by omega, by omega, by intro j hj; omega⟩ ?_
        rintro i ⟨g1, g2, g3⟩
        refine vc19_l2 _ _ _ _ _ _ ?_; (try simp only [vcT])
        rintro y1 hy1 y2 hy2 y3 hy3 y4 hy4
        (simp only [vcS]); (try simp only [vcT])
        refine ⟨fun hi => ⟨⟨g1, hi⟩, ⟨g1, by omega⟩, fun _ => ?_, fun _ => ?_, fun _ => ?_, fun hq => ?_, fun hq => ⟨by unfold InR; omega, i + 1, rfl, ⟨by omega, by omega, ?_⟩, by omega⟩⟩, fun hi => ?_⟩
        · have := massOs_mem (mem_getD (l := a.ops) (i := i.toNat) (by omega) Op.nil)
          rw [← hy1, massOp_e] at this
          simp only [pre59]; omega
        · have := massOs_mem (mem_getD (l := a.ops) (i := i.toNat) (by omega) Op.nil)
          rw [← hy1, massOp_e, ← hy3] at this
          simp only [pre19]; omega
        · have := massOs_mem (mem_getD (l := a.ops) (i := i.toNat) (by omega) Op.nil)
          rw [← hy1, massOp_e, ← hy3] at this
          simp only [mu19]; omega
        · refine ends_bool rfl (eqX_no (a := a) (b := b) (fun h => ?_)).symm
          rw [h] at hy1
          rw [hy3, hy4, hy1, hy2, eqX_self, eqX_self] at hq
          simp at hq
        · intro j hj
          by_cases hj2 : (j : Int) < i
          · exact g3 j hj2
          · rw [eqX_iff, eqX_iff, hy3, hy4, hy1, hy2, show i.toNat = j by omega] at hq
            obtain ⟨⟨⟨q1, q2⟩, q3⟩, q4⟩ := hq
            exact op_ext (by simpa using q1) (by simpa using q2) q3 q4
        · have ho : a.ops = b.ops := list_eq_getD Op.nil (by omega) (fun j hj => g3 j (by omega))
          exact ends_bool rfl (eqX_iff (a := a) (b := b).2 (edit_ext h1 h3 h4 hw hk h2 ho)).symm
end Go.AM.Ytpjenobkibfpcaa

namespace Go.AM.Ytpjenobkibfpcaa
open Go.AM Go.Proofs
theorem noneT_eq {t : Tree} (h : noneT t = true) : t = Tree.nil := by
  obtain ⟨k, w, ks⟩ := t
  have := of_decide_eq_true h
  simp at this
  obtain ⟨rfl, rfl, rfl⟩ := this
  rfl
theorem sameE_nil {e : Edit} (h : sameE e = true) : e = Edit.nil := by
  obtain ⟨h1, h2, h3, h4, h5, h6, h7⟩ := sameE_eq h
  obtain ⟨k, o, n, w, ks, l, os⟩ := e
  simp at h1 h2 h3 h4 h5 h6 h7
  subst h1 h4 h5 h6 h7
  rw [noneT_eq h2, noneT_eq h3]
  rfl
theorem rightOp_ok {list : Int} {o : Op} {d : Int} (h : rightOp list o d = true) : opOk o := by
  rw [rightOp_at] at h
  unfold opOk
  split at h
  · rename_i h0
    simp only [Bool.and_eq_true, decide_eq_true_eq] at h
    exact Or.inl ⟨h0, List.length_eq_zero_iff.1 h.1.2.2, ⟨h.1.1, h.1.2.1⟩, sameE_nil h.2⟩
  · split at h
    · cases h
    · rename_i h0 h1
      split at h
      · simp only [Bool.and_eq_true, decide_eq_true_eq] at h
        refine Or.inr (Or.inl ⟨by omega, by omega, ?_, sameE_nil h.2⟩)
        exact List.length_pos_iff.1 h.1.2
      · simp only [Bool.and_eq_true, decide_eq_true_eq] at h
        exact Or.inr (Or.inr ⟨by omega, by omega, List.length_eq_zero_iff.1 h.1.1.1⟩)
end Go.AM.Ytpjenobkibfpcaa

namespace Go.AM
def idleE (list : Int) (e : Edit) : Bool := decide (e.kind = 0 ∨ (list = 9 ∧ e.kind = 2 ∧ e.words.length = 0 ∧ e.kids.length = 0))
def normsT (l : List Tree) : List Tree := l.map normT
def gapT (kind : Int) : List Op → List Tree
  | [] => []
  | o :: r => if o.kind = 1 ∨ o.kind = 2 then (if o.kind = kind then normsT o.l else []) ++ gapT kind r else []
def gapN : List Op → Int
  | [] => 0
  | o :: r => if o.kind = 1 ∨ o.kind = 2 then 1 + gapN r else 0
end Go.AM

namespace Go.AM
structure Wst where
  out : List Op
  gone : List Tree
  brought : List Tree
def flushO (out : List Op) (g b : List Tree) : List Op :=
  out ++ ((if g.length = 0 then [] else [⟨1, 0, g, Edit.nil⟩]) ++ (if b.length = 0 then [] else [⟨2, 0, b, Edit.nil⟩]))
def keepO : List Op → Int → List Op
  | [], n => [⟨0, n, [], Edit.nil⟩]
  | [o], n => if o.kind = 0 then [⟨o.kind, o.n + n, o.l, o.e⟩] else [o, ⟨0, n, [], Edit.nil⟩]
  | o :: p :: r, n => o :: keepO (p :: r) n
def flushW (w : Wst) : Wst := ⟨flushO w.out w.gone w.brought, [], []⟩
def keepW (w : Wst) (n : Int) : Wst := ⟨keepO (flushW w).out n, [], []⟩
mutual
def nrmE : Edit → Edit
  | .mk k o n w ks l os =>
    if k = 1 then .mk k (normT o) (normT n) [] [] l []
    else if k = 2 then .mk k Tree.nil Tree.nil w (nrmKs ks) l []
    else if k = 3 then .mk k Tree.nil Tree.nil [] [] l (flushW (nrmOs l os ⟨[], [], []⟩)).out
    else .mk k Tree.nil Tree.nil [] [] l []
def nrmKs : List (KidOf Edit) → List (KidOf Edit)
  | [] => []
  | k :: r => nrmKid k :: nrmKs r
def nrmKid : KidOf Edit → KidOf Edit
  | ⟨a, e⟩ => ⟨a, nrmE e⟩
def nrmOs (list : Int) : List (OpOf Edit) → Wst → Wst
  | [], s => s
  | o :: r, s => nrmOs list r (nrmOp list o s)
def nrmOp (list : Int) : OpOf Edit → Wst → Wst
  | ⟨k, n, l, e⟩, s =>
    if k = 0 then keepW s n
    else if k = 1 then ⟨s.out, s.gone ++ normsT l, s.brought⟩
    else if k = 2 then ⟨s.out, s.gone, s.brought ++ normsT l⟩
    else if k = 3 then (if idleE list (nrmE e) = true then keepW s 1 else ⟨(flushW s).out ++ [⟨3, 0, [], nrmE e⟩], [], []⟩)
    else s
end
theorem nrmE_at (e : Edit) : nrmE e = if e.kind = 1 then .mk e.kind (normT e.old) (normT e.new) [] [] e.list []
    else if e.kind = 2 then .mk e.kind Tree.nil Tree.nil e.words (nrmKs e.kids) e.list []
    else if e.kind = 3 then .mk e.kind Tree.nil Tree.nil [] [] e.list (flushW (nrmOs e.list e.ops ⟨[], [], []⟩)).out
    else .mk e.kind Tree.nil Tree.nil [] [] e.list [] := by cases e; rfl
theorem nrmKid_at (k : Kid) : nrmKid k = ⟨k.at_, nrmE k.e⟩ := by cases k; rfl
theorem nrmOp_at (list : Int) (o : Op) (s : Wst) : nrmOp list o s = if o.kind = 0 then keepW s o.n
    else if o.kind = 1 then ⟨s.out, s.gone ++ normsT o.l, s.brought⟩
    else if o.kind = 2 then ⟨s.out, s.gone, s.brought ++ normsT o.l⟩
    else if o.kind = 3 then (if idleE list (nrmE o.e) = true then keepW s 1 else ⟨(flushW s).out ++ [⟨3, 0, [], nrmE o.e⟩], [], []⟩)
    else s := by cases o; rfl
theorem nrmOs_gap (list : Int) : ∀ (l : List Op) (s : Wst), nrmOs list l s = nrmOs list (l.drop (gapN l).toNat) ⟨s.out, s.gone ++ gapT 1 l, s.brought ++ gapT 2 l⟩
  | [], s => by simp [nrmOs, gapT, gapN]
  | o :: r, s => by
    by_cases h : o.kind = 1 ∨ o.kind = 2
    · have hg : 0 ≤ gapN r := gapN_nonneg r
      rw [gapN, if_pos h, gapT, gapT, if_pos h, if_pos h, show (1 + gapN r).toNat = (gapN r).toNat + 1 by omega, List.drop_succ_cons, nrmOs, nrmOp_at, nrmOs_gap list r]
      rcases h with h | h
      · rw [if_neg (by omega), if_pos h, if_pos h, if_neg (by omega)]
        simp
      · rw [if_neg (by omega), if_neg (by omega), if_pos h, if_neg (by omega), if_pos h]
        simp
    · rw [gapN, if_neg h, gapT, gapT, if_neg h, if_neg h]
      simp
where
  gapN_nonneg : ∀ (l : List Op), 0 ≤ gapN l
    | [] => by simp [gapN]
    | o :: r => by
      have := gapN_nonneg r
      rw [gapN]; split <;> omega
end Go.AM

namespace Go.AM
def setPad {α : Type} (z : α) (l : List α) (i : Nat) (x : α) : List α := (l ++ List.replicate (i + 1 - l.length) z).set i x
def wsD (tw : List Int) : List WEdit → List Int → Option (List Int)
  | [], out => some out
  | w :: r, out => if mix 0 (tw.getD w.at_.toNat 0) w.mask = w.old then wsD tw r (setPad 0 out w.at_.toNat (mix (tw.getD w.at_.toNat 0) w.new w.mask)) else none
noncomputable def goneD (l rest : List Tree) : Bool := decide (l.length ≤ rest.length) && eqX (normsT l) (normsT (rest.take l.length))
def endD (r : Option (List Tree × List Tree)) : Option (List Tree) := r.bind fun x => if x.2.length = 0 then some x.1 else none
def nrD (r : Bool) (t : Tree) : Tree := if r then normT t else t
mutual
noncomputable def doE (r : Bool) : Edit → Tree → Option Tree
  | .mk k o n w ks l os, t =>
    (if k = 0 then some t
    else if k = 1 then (if sameT (normT o) (normT t) = true then some n else none)
    else if k = 2 then (if t.kind = 1 then (wsD t.words w t.words).bind fun a => (doKs r t.kids ks t.kids).map fun b => .mk 1 a b else none)
    else if k = 3 then (if t.kind = l then (endD (doOs r os t.kids [])).map fun b => .mk l [] b else none)
    else none).map (nrD r)
noncomputable def doKs (r : Bool) (tk : List Tree) : List (KidOf Edit) → List Tree → Option (List Tree)
  | [], out => some out
  | k :: s, out => (doKid r tk k).bind fun u => doKs r tk s (setPad Tree.nil out k.at_.toNat u)
noncomputable def doKid (r : Bool) (tk : List Tree) : KidOf Edit → Option Tree
  | ⟨a, e⟩ => doE r e (tk.getD a.toNat Tree.nil)
noncomputable def doOs (r : Bool) : List (OpOf Edit) → List Tree → List Tree → Option (List Tree × List Tree)
  | [], rest, out => some (out, rest)
  | o :: s, rest, out => (doOp r o rest out).bind fun x => doOs r s x.2 x.1
noncomputable def doOp (r : Bool) : OpOf Edit → List Tree → List Tree → Option (List Tree × List Tree)
  | ⟨k, n, l, e⟩, rest, out =>
    if k = 0 then (if n.toNat ≤ rest.length then some (out ++ rest.take n.toNat, rest.drop n.toNat) else none)
    else if k = 1 then (if goneD l rest = true then some (out, rest.drop l.length) else none)
    else if k = 2 then some (out ++ l, rest)
    else if rest.length = 0 then none else (doE r e (rest.getD 0 Tree.nil)).map fun u => (out ++ [u], rest.drop 1)
end
end Go.AM

namespace Go.AM
def widN (m : Nat) : Nat → Nat
  | 0 => 0
  | i + 1 => widN m i + if m / 2 ^ i % 2 = 1 then 255 * 2 ^ (8 * i) else 0
def widW : Nat → Nat → Nat
  | 0, _ => 0
  | k + 1, m => (if m % 2 = 1 then 255 else 0) + 256 * widW k (m / 2)
def pickW : Nat → Nat → Nat → Nat
  | 0, _, _ => 0
  | k + 1, a, m => (if m % 2 = 1 then a % 256 else 0) + 256 * pickW k (a / 256) (m / 2)
def mixW : Nat → Nat → Nat → Nat → Nat
  | 0, _, _, _ => 0
  | k + 1, a, b, m => (if m % 2 = 1 then b % 256 else a % 256) + 256 * mixW k (a / 256) (b / 256) (m / 2)
theorem and_split (x y u v : Nat) (hu : u < 256) (hv : v < 256) : (u + 256 * x) &&& (v + 256 * y) = (u &&& v) + 256 * (x &&& y) := by
  have h : u &&& v < 256 := Nat.and_lt_two_pow (n := 8) u hv
  apply Nat.eq_of_testBit_eq
  intro j
  rw [Nat.add_comm u, Nat.add_comm v, Nat.add_comm (u &&& v), Nat.testBit_and]
  rw [show (256 : Nat) = 2 ^ 8 from rfl, Nat.testBit_two_pow_mul_add _ hu, Nat.testBit_two_pow_mul_add _ hv, Nat.testBit_two_pow_mul_add _ h]
  split <;> rw [Nat.testBit_and]
theorem or_split (x y u v : Nat) (hu : u < 256) (hv : v < 256) : (u + 256 * x) ||| (v + 256 * y) = (u ||| v) + 256 * (x ||| y) := by
  have h : u ||| v < 256 := Nat.or_lt_two_pow (n := 8) hu hv
  apply Nat.eq_of_testBit_eq
  intro j
  rw [Nat.add_comm u, Nat.add_comm v, Nat.add_comm (u ||| v), Nat.testBit_or]
  rw [show (256 : Nat) = 2 ^ 8 from rfl, Nat.testBit_two_pow_mul_add _ hu, Nat.testBit_two_pow_mul_add _ hv, Nat.testBit_two_pow_mul_add _ h]
  split <;> rw [Nat.testBit_or]
theorem and_wide : ∀ (k a m : Nat), a &&& widW k m = pickW k a m
  | 0, a, m => by simp [widW, pickW]
  | k + 1, a, m => by
    have e : a = a % 256 + 256 * (a / 256) := by omega
    simp only [widW, pickW]
    rw [← and_wide k (a / 256) (m / 2)]
    have h : a &&& ((if m % 2 = 1 then 255 else 0) + 256 * widW k (m / 2)) = (a % 256 + 256 * (a / 256)) &&& ((if m % 2 = 1 then 255 else 0) + 256 * widW k (m / 2)) := by rw [← e]
    rw [h, and_split _ _ _ _ (by omega) (by split <;> omega)]
    congr 1
    split
    · have := Nat.and_two_pow_sub_one_eq_mod (a % 256) 8
      simp only [show (2 : Nat) ^ 8 - 1 = 255 from rfl, show (2 : Nat) ^ 8 = 256 from rfl, Nat.mod_mod] at this
      exact this
    · simp
theorem or_pick : ∀ (k a b m n : Nat), (∀ i < k, m / 2 ^ i % 2 + n / 2 ^ i % 2 = 1) → pickW k a n ||| pickW k b m = mixW k a b m
  | 0, a, b, m, n, _ => by simp [pickW, mixW]
  | k + 1, a, b, m, n, h => by
    simp only [pickW, mixW]
    have h0 := h 0 (by omega)
    simp only [Nat.pow_zero, Nat.div_one] at h0
    rw [or_split _ _ _ _ (by split <;> omega) (by split <;> omega), or_pick k (a / 256) (b / 256) (m / 2) (n / 2) (fun i hi => by
      have := h (i + 1) (by omega)
      rw [Nat.div_div_eq_div_mul, Nat.div_div_eq_div_mul]
      rw [Nat.pow_succ, Nat.mul_comm] at this
      exact this)]
    congr 1
    by_cases hm : m % 2 = 1
    · rw [if_pos hm, if_pos hm, if_neg (by omega)]; simp
    · rw [if_neg hm, if_neg hm, if_pos (by omega)]; simp
theorem widN_eq : ∀ m : Fin 256, widN m.1 8 = widW 8 m.1 := by decide +kernel
theorem widW_not : ∀ m : Fin 256, 2 ^ 64 - 1 - widW 8 m.1 = widW 8 (255 - m.1) := by decide +kernel
theorem bits_not : ∀ m : Fin 256, ∀ i : Fin 8, m.1 / 2 ^ i.1 % 2 + (255 - m.1) / 2 ^ i.1 % 2 = 1 := by decide +kernel
theorem widW_lt : ∀ m : Fin 256, widW 8 m.1 < 2 ^ 64 := by decide +kernel
theorem mix_bits (a b m : Nat) (hm : m < 256) : (a &&& (2 ^ 64 - 1 - widN m 8)) ||| (b &&& widN m 8) = mixW 8 a b m := by
  have h1 := widN_eq ⟨m, hm⟩
  have h2 := widW_not ⟨m, hm⟩
  simp only at h1 h2
  rw [h1, h2, and_wide, and_wide]
  exact or_pick 8 a b m (255 - m) (fun i hi => bits_not ⟨m, hm⟩ ⟨i, hi⟩)
def ofK : Nat → (Nat → Nat) → Nat
  | 0, _ => 0
  | k + 1, f => f 0 + 256 * ofK k (fun i => f (i + 1))
theorem ofK_congr : ∀ (k : Nat) {f g : Nat → Nat}, (∀ i, f i = g i) → ofK k f = ofK k g
  | 0, _, _, _ => rfl
  | k + 1, f, g, h => by simp only [ofK, h 0, ofK_congr k (fun i => h (i + 1))]
theorem mixW_of : ∀ (k a b m : Nat), mixW k a b m = ofK k (fun i => if m / 2 ^ i % 2 = 1 then b / 256 ^ i % 256 else a / 256 ^ i % 256)
  | 0, _, _, _ => rfl
  | k + 1, a, b, m => by
    simp only [mixW, ofK, Nat.pow_zero, Nat.div_one]
    rw [mixW_of k, ofK_congr k (g := fun i => if m / 2 ^ (i + 1) % 2 = 1 then b / 256 ^ (i + 1) % 256 else a / 256 ^ (i + 1) % 256) (fun i => ?_)]
    rw [Nat.div_div_eq_div_mul, Nat.div_div_eq_div_mul, Nat.div_div_eq_div_mul, Nat.pow_succ', Nat.pow_succ']
theorem mixW_mix (a b m : Nat) : ((mixW 8 a b m : Nat) : Int) = mix a b m := by
  have nm : ∀ i : Nat, named (m : Int) (i : Int) = decide (m / 2 ^ i % 2 = 1) := by
    intro i
    unfold named
    rw [decide_eq_decide, Int.toNat_natCast]
    have : ((m : Int) / 2 ^ i % 2 : Int) = ((m / 2 ^ i % 2 : Nat) : Int) := by rw [Int.natCast_emod, Int.natCast_ediv, Int.natCast_pow]; rfl
    rw [this]; omega
  have by_ : ∀ (x i : Nat), byteAt (x : Int) i = ((x / 256 ^ i % 256 : Nat) : Int) := by
    intro x i
    unfold byteAt
    rw [Int.natCast_emod, Int.natCast_ediv, Int.natCast_pow]
    rfl
  have mx : ∀ i : Nat, mixAt (a : Int) (b : Int) (m : Int) i = ((if m / 2 ^ i % 2 = 1 then b / 256 ^ i % 256 else a / 256 ^ i % 256 : Nat) : Int) := by
    intro i
    unfold mixAt
    rw [nm, by_, by_]
    by_cases h : m / 2 ^ i % 2 = 1
    · rw [decide_eq_true h, if_pos rfl, if_pos h]
    · rw [decide_eq_false h, if_neg Bool.false_ne_true, if_neg h]
  rw [mixW_of]
  generalize hf : (fun i => if m / 2 ^ i % 2 = 1 then b / 256 ^ i % 256 else a / 256 ^ i % 256) = f
  have hx : ∀ i, mixAt (a : Int) (b : Int) (m : Int) i = (f i : Int) := by intro i; rw [mx, ← hf]
  have e : ofK 8 f = f 0 + 256 * (f 1 + 256 * (f 2 + 256 * (f 3 + 256 * (f 4 + 256 * (f 5 + 256 * (f 6 + 256 * (f 7 + 256 * 0))))))) := rfl
  rw [e]
  simp only [mix, of8, hx]
  omega
def withinB (list : Int) (e : Edit) : Bool :=
  if (2 ≤ list ∧ list ≤ 7) ∨ e.kind = 0 then false else if list = 8 ∨ e.kind = 2 then true else decide (e.kind = 1 ∧ e.old.kind = 1 ∧ e.new.kind = 1)
end Go.AM

namespace Go.AM
def idxK (l : List Kid) (at_ : Int) : Edit := ((l.find? (fun k => decide (k.at_ = at_))).map KidOf.e).getD Edit.nil
end Go.AM

namespace Go.AM
instance : Inhabited PStep := ⟨⟨0, 0⟩⟩
def keepL (n : Int) : List Op := if n = 0 then [] else [⟨0, n, [], Edit.nil⟩]
def opsA (len at_ : Int) (x : Edit) : List Op := (keepL at_ ++ [⟨3, 0, [], x⟩]) ++ keepL (len - at_ - 1)
def opsB (len at_ : Int) (x : Edit) : List Op := List.replicate at_.toNat ⟨0, 1, [], Edit.nil⟩ ++ ⟨3, 0, [], x⟩ :: List.replicate (len - at_ - 1).toNat ⟨0, 1, [], Edit.nil⟩
def fitsS (s : PStep) (t : Tree) : Prop := s.kind = 0 ∧ 0 ≤ s.at_ ∧ (t.kind = 1 ∧ s.at_ < 65535 ∨ (2 ≤ t.kind ∧ t.kind ≤ 9) ∧ s.at_ < t.kids.length)
instance (s : PStep) (t : Tree) : Decidable (fitsS s t) := by unfold fitsS; infer_instance
def wrapG (f : Int → Int → Edit → List Op) (e : Edit) : List PStep → Tree → Edit × Bool
  | [], t => (e, t.kind != 10)
  | s :: l, t => if fitsS s t then
      (if (wrapG f e l (t.kids.getD s.at_.toNat Tree.nil)).2 = false ∨ (wrapG f e l (t.kids.getD s.at_.toNat Tree.nil)).1.kind = 0 then (Edit.nil, (wrapG f e l (t.kids.getD s.at_.toNat Tree.nil)).2)
      else if t.kind = 1 then (.mk 2 Tree.nil Tree.nil [] [⟨s.at_, (wrapG f e l (t.kids.getD s.at_.toNat Tree.nil)).1⟩] 0 [], true)
      else (.mk 3 Tree.nil Tree.nil [] [] t.kind (f t.kids.length s.at_ (wrapG f e l (t.kids.getD s.at_.toNat Tree.nil)).1), true))
    else (Edit.nil, false)
def wrapN (f : Int → Int → Edit → List Op) (e : Edit) (l : List PStep) (t : Tree) : Edit × Bool :=
  if (wrapG f e l t).2 = true ∧ rightE (wrapG f e l t).1 64 = true then (nrmE (wrapG f e l t).1, true) else (Edit.nil, false)
def kidD (t : Tree) (i : Int) : Tree × Bool :=
  if i < 0 ∨ (t.kind = 1 ∧ 65535 ≤ i) ∨ t.kind < 1 ∨ 9 < t.kind then (Tree.nil, false)
  else if i < t.kids.length then (t.kids.getD i.toNat Tree.nil, true) else (Tree.nil, decide (t.kind = 1))
def findO : List Op → Int → Int → Int → Op × Int × Bool
  | [], _, _, _ => (Op.nil, 0, false)
  | o :: r, at_, from_, to => if o.kind = 2 then findO r at_ from_ (to + opLen o)
    else if at_ < from_ + opLen o then (o, to + at_ - from_, o.kind != 1)
    else findO r at_ (from_ + opLen o) (if o.kind = 1 then to else to + opLen o)
def narG : List PStep → Edit → List PStep → Edit × List PStep × Bool
  | [], e, m => (e, m, true)
  | s :: l, e, m => if s.kind ≠ 0 ∨ s.at_ < 0 ∨ e.kind = 1 then (Edit.nil, [], false)
    else if e.kind = 2 then narG l (idxK e.kids s.at_) (m ++ [s])
    else if e.kind = 3 then (if (findO e.ops s.at_ 0 0).2.2 = true then narG l (findO e.ops s.at_ 0 0).1.e (m ++ [⟨s.kind, (findO e.ops s.at_ 0 0).2.1⟩]) else (Edit.nil, [], false))
    else narG l e (m ++ [s])
def narN (e : Edit) (l : List PStep) : Edit × List PStep × Bool := if (narG l e []).2.2 = true then (nrmE (narG l e []).1, (narG l e []).2.1, true) else (Edit.nil, [], false)
def idxAt : List Kid → Int → Int → Int
  | [], _, _ => -1
  | k :: r, at_, i => if k.at_ = at_ then i else idxAt r at_ (i + 1)
end Go.AM

namespace Go.AM.Ytpjenobkibfpcaa
open Go.AM Go.Proofs
abbrev TrKG22a (p : Prop) : Prop := p → p
noncomputable section
def args152 : ArgL (List Tree × Unit) := (.cons (aSl .tree) .nil)
def pre152 (a : List Tree × Unit) : Prop := massK a.1 ≤ 20000000000
noncomputable def res152 (a : List Tree × Unit) : V U := .c (.slice (U := U) .tree (normsT a.1) .unk)
noncomputable def spec152 : Fs U := fs args152 (fun a => [pre152 a]) res152
def args110 : ArgL (List Op × Int × Int × Unit) := (.cons (aSl .op) (.cons (aInt .i64) (.cons (aInt .i64) .nil)))
def pre110 (a : List Op × Int × Int × Unit) : Prop := massOs a.1 ≤ 20000000000 ∧ 0 ≤ a.2.1 ∧ a.2.1 ≤ (a.1).length
noncomputable def res110 (a : List Op × Int × Int × Unit) : V U := .tup [(false, [.slice (U := U) .tree (gapT a.2.2.1 ((a.1).drop (a.2.1).toNat)) .unk]), (false, [.int .i64 (a.2.1 + gapN ((a.1).drop (a.2.1).toNat))])]
noncomputable def spec110 : Fs U := fs args110 (fun a => [pre110 a]) res110
noncomputable def know152 : List (FuncId × Fs U) := [(45, spec45)]
def lv152 : Lives U := fun i => match i with
  | 0 => ([(0, [])], [])
  | 1 => ([(0, []), (3, [])], [])
  | 2 => ([(0, []), (3, [.own .tree]), (4, [])], [])
  | 3 => ([(0, []), (3, []), (4, []), (8, [])], [])
  | 4 => ([(0, []), (3, [.own .tree]), (4, [])], [])
  | 5 => ([(0, []), (3, []), (4, [])], [])
  | 6 => ([(2, [])], [])
  | _ => ([], [])
def head152_0 (l : List Tree) (x4 : Int) (x3 : List Tree) : LSt U := (⟨[(0, .c (.slice (U := U) .tree l .unk)), (3, .c (.slice (U := U) .tree x3 (.own (.e 3 0)))), (4, .c (.int .i64 x4))], [], []⟩ : LSt U)
abbrev W152 (l : List Tree) (Q : AExit → LSt U → Prop) := awp cfg (know know152) (drawOk cfg (know know152)) Try.f152.ntmps lv152 (cd Try.f152 []) (⟨[(0, .c (.slice (U := U) .tree l .unk))], [], []⟩ : LSt U) Q
abbrev a152_KG22a := awp cfg (know know152) (drawOk cfg (know know152)) Try.f152.ntmps lv152
abbrev s152_KG22a := seqK cfg (know know152) (drawOk cfg (know know152)) Try.f152.ntmps lv152
theorem vc152 (l : List Tree) (Q : AExit → LSt U → Prop) (h : LoopWp (awp cfg (know know152) (drawOk cfg (know know152)) Try.f152.ntmps lv152 (cd Try.f152 [1, 1, 0, 1, 0, 0])) (head152_0 l 0 ([])) (AExit.inBlock 0 (seqK cfg (know know152) (drawOk cfg (know know152)) Try.f152.ntmps lv152 (cd Try.f152 [1, 1, 1]) Q))) :
    W152 l Q := by
  have e_ : (W152 l Q) = ((((LoopWp (a152_KG22a (cd Try.f152 [1, 1, 0, 1, 0, 0])) (head152_0 l 0 ([])) (AExit.inBlock 0 (s152_KG22a (cd Try.f152 [1, 1, 1]) Q)))))) := by kernel_rfl
  exact e_.mpr h
abbrev W152_l0 (l : List Tree) (x4 : Int) (x3 : List Tree) (N0 : LSt U → Prop) (Q : AExit → LSt U → Prop) := awp cfg (know know152) (drawOk cfg (know know152)) Try.f152.ntmps lv152 (cd Try.f152 [1, 1, 0, 1, 0, 0]) (head152_0 l x4 x3) (AExit.then N0 (AExit.inBlock 0 (seqK cfg (know know152) (drawOk cfg (know know152)) Try.f152.ntmps lv152 (cd Try.f152 [1, 1, 1]) Q)))
theorem vc152_l0 (l : List Tree) (x4 : Int) (x3 : List Tree) (N0 : LSt U → Prop) (Q : AExit → LSt U → Prop) (h : ((decide ((x4 : Int) < (l.length : Int))) = true → ((0 : Int) ≤ x4 ∧ x4 < (l.length : Int)) ∧ (pre45 ((Tree.mk (Tree.kind (List.getD l (Int.toNat x4) Tree.nil)) (Tree.words (List.getD l (Int.toNat x4) Tree.nil)) (Tree.kids (List.getD l (Int.toNat x4) Tree.nil))), ())) ∧ ((x3.length + ([(Tree.mk (Tree.kind (normT (Tree.mk (Tree.kind (List.getD l (Int.toNat x4) Tree.nil)) (Tree.words (List.getD l (Int.toNat x4) Tree.nil)) (Tree.kids (List.getD l (Int.toNat x4) Tree.nil))))) (Tree.words (normT (Tree.mk (Tree.kind (List.getD l (Int.toNat x4) Tree.nil)) (Tree.words (List.getD l (Int.toNat x4) Tree.nil)) (Tree.kids (List.getD l (Int.toNat x4) Tree.nil))))) (Tree.kids (normT (Tree.mk (Tree.kind (List.getD l (Int.toNat x4) Tree.nil)) (Tree.words (List.getD l (Int.toNat x4) Tree.nil)) (Tree.kids (List.getD l (Int.toNat x4) Tree.nil))))))]).length) * 56 ≤ 140737488355328) ∧ ((InR ((x4 : Int) + 1)) ∧ (N0 (head152_0 l ((x4 : Int) + 1) (x3 ++ ([(Tree.mk (Tree.kind (normT (Tree.mk (Tree.kind (List.getD l (Int.toNat x4) Tree.nil)) (Tree.words (List.getD l (Int.toNat x4) Tree.nil)) (Tree.kids (List.getD l (Int.toNat x4) Tree.nil))))) (Tree.words (normT (Tree.mk (Tree.kind (List.getD l (Int.toNat x4) Tree.nil)) (Tree.words (List.getD l (Int.toNat x4) Tree.nil)) (Tree.kids (List.getD l (Int.toNat x4) Tree.nil))))) (Tree.kids (normT (Tree.mk (Tree.kind (List.getD l (Int.toNat x4) Tree.nil)) (Tree.words (List.getD l (Int.toNat x4) Tree.nil)) (Tree.kids (List.getD l (Int.toNat x4) Tree.nil))))))])))))) ∧ ((decide ((x4 : Int) < (l.length : Int))) = false → Q .ret (⟨[(2, .c (.slice (U := U) .tree x3 (.own (.e 2 0))))], [], []⟩ : LSt U))) :
    W152_l0 l x4 x3 N0 Q := by
  have e_ : (W152_l0 l x4 x3 N0 Q) = ((((decide ((x4 : Int) < (l.length : Int))) = true → ((0 : Int) ≤ x4 ∧ x4 < (l.length : Int)) ∧ (pre45 ((Tree.mk (Tree.kind (List.getD l (Int.toNat x4) Tree.nil)) (Tree.words (List.getD l (Int.toNat x4) Tree.nil)) (Tree.kids (List.getD l (Int.toNat x4) Tree.nil))), ())) ∧ ((x3.length + ([(Tree.mk (Tree.kind (normT (Tree.mk (Tree.kind (List.getD l (Int.toNat x4) Tree.nil)) (Tree.words (List.getD l (Int.toNat x4) Tree.nil)) (Tree.kids (List.getD l (Int.toNat x4) Tree.nil))))) (Tree.words (normT (Tree.mk (Tree.kind (List.getD l (Int.toNat x4) Tree.nil)) (Tree.words (List.getD l (Int.toNat x4) Tree.nil)) (Tree.kids (List.getD l (Int.toNat x4) Tree.nil))))) (Tree.kids (normT (Tree.mk (Tree.kind (List.getD l (Int.toNat x4) Tree.nil)) (Tree.words (List.getD l (Int.toNat x4) Tree.nil)) (Tree.kids (List.getD l (Int.toNat x4) Tree.nil))))))]).length) * 56 ≤ 140737488355328) ∧ ((InR ((x4 : Int) + 1)) ∧ (N0 (head152_0 l ((x4 : Int) + 1) (x3 ++ ([(Tree.mk (Tree.kind (normT (Tree.mk (Tree.kind (List.getD l (Int.toNat x4) Tree.nil)) (Tree.words (List.getD l (Int.toNat x4) Tree.nil)) (Tree.kids (List.getD l (Int.toNat x4) Tree.nil))))) (Tree.words (normT (Tree.mk (Tree.kind (List.getD l (Int.toNat x4) Tree.nil)) (Tree.words (List.getD l (Int.toNat x4) Tree.nil)) (Tree.kids (List.getD l (Int.toNat x4) Tree.nil))))) (Tree.kids (normT (Tree.mk (Tree.kind (List.getD l (Int.toNat x4) Tree.nil)) (Tree.words (List.getD l (Int.toNat x4) Tree.nil)) (Tree.kids (List.getD l (Int.toNat x4) Tree.nil))))))])))))) ∧ ((decide ((x4 : Int) < (l.length : Int))) = false → (Q .ret (⟨[(2, .c (.slice (U := U) .tree x3 (.own (.e 2 0))))], [], []⟩ : LSt U))))) := by kernel_rfl
  exact e_.mpr ⟨fun c_1 => ⟨(h.1 c_1).1, (h.1 c_1).2.1, (h.1 c_1).2.2.1, ⟨(h.1 c_1).2.2.2.1, (h.1 c_1).2.2.2.2⟩⟩, fun c_1 => (h.2 c_1)⟩
def Body152 (l : List Tree)  : Prop := awp cfg (know (know152)) (drawOk cfg (know (know152))) Try.f152.ntmps lv152 (cd Try.f152 []) (entry (args152.can (l, ())) []) (EndsQ cfg Try.f152.ntmps Try.f152.results.toList (res152 (l, ())) [])
theorem make152 (c45 : Contract Try.prog cfg 45 spec45) (hb : ∀ (l : List Tree) (_ : Unit), pre152 (l, ()) → Body152 l) : Contract Try.prog cfg 152 spec152 :=
  contract_flat (l := [(45, spec45)]) cfgOk rfl (⟨c45, trivial⟩) lv152 Try.func152 rfl rfl 1 (fun _ => rfl) (by decide) (fun ⟨l, _⟩ => hb l ())
noncomputable def know110 : List (FuncId × Fs U) := [(152, spec152)]
def lv110 : Lives U := fun i => match i with
  | 0 => ([(0, []), (1, []), (2, [])], [])
  | 1 => ([(0, []), (1, []), (2, []), (8, [])], [])
  | 2 => ([(0, []), (2, []), (8, [.own .tree]), (9, [])], [])
  | 3 => ([(0, []), (2, []), (8, []), (9, []), (30, [])], [])
  | 4 => ([(0, []), (2, []), (8, []), (9, []), (37, [])], [])
  | 5 => ([(0, []), (2, []), (8, []), (9, [])], [])
  | 6 => ([(0, []), (2, []), (8, [.own .tree]), (9, [])], [])
  | 7 => ([(6, []), (7, [])], [])
  | _ => ([], [])
def head110_0 (l : List Op) (from_ : Int) (kind : Int) (x9 : Int) (x8 : List Tree) : LSt U := (⟨[(0, .c (.slice (U := U) .op l .unk)), (2, .c (.int .i64 kind)), (8, .c (.slice (U := U) .tree x8 (.own (.e 8 0)))), (9, .c (.int .i64 x9))], [], []⟩ : LSt U)
abbrev W110 (l : List Op) (from_ : Int) (kind : Int) (Q : AExit → LSt U → Prop) := awp cfg (know know110) (drawOk cfg (know know110)) Try.f110.ntmps lv110 (cd Try.f110 []) (⟨[(0, .c (.slice (U := U) .op l .unk)), (1, .c (.int .i64 from_)), (2, .c (.int .i64 kind))], [], []⟩ : LSt U) Q
abbrev a110_KG22a := awp cfg (know know110) (drawOk cfg (know know110)) Try.f110.ntmps lv110
abbrev s110_KG22a := seqK cfg (know know110) (drawOk cfg (know know110)) Try.f110.ntmps lv110
theorem vc110 (l : List Op) (from_ : Int) (kind : Int) (Q : AExit → LSt U → Prop) (h : LoopWp (awp cfg (know know110) (drawOk cfg (know know110)) Try.f110.ntmps lv110 (cd Try.f110 [1, 1, 1, 0, 0, 0])) (head110_0 l from_ kind from_ ([])) (AExit.inBlock 0 (seqK cfg (know know110) (drawOk cfg (know know110)) Try.f110.ntmps lv110 (cd Try.f110 [1, 1, 1, 1]) Q))) :
    W110 l from_ kind Q := by
  have e_ : (W110 l from_ kind Q) = ((((LoopWp (a110_KG22a (cd Try.f110 [1, 1, 1, 0, 0, 0])) (head110_0 l from_ kind from_ ([])) (AExit.inBlock 0 (s110_KG22a (cd Try.f110 [1, 1, 1, 1]) Q)))))) := by kernel_rfl
  exact e_.mpr h
abbrev W110_l0 (l : List Op) (from_ : Int) (kind : Int) (x9 : Int) (x8 : List Tree) (N0 : LSt U → Prop) (Q : AExit → LSt U → Prop) := awp cfg (know know110) (drawOk cfg (know know110)) Try.f110.ntmps lv110 (cd Try.f110 [1, 1, 1, 0, 0, 0]) (head110_0 l from_ kind x9 x8) (AExit.then N0 (AExit.inBlock 0 (seqK cfg (know know110) (drawOk cfg (know know110)) Try.f110.ntmps lv110 (cd Try.f110 [1, 1, 1, 1]) Q)))
theorem vc110_l0 (l : List Op) (from_ : Int) (kind : Int) (x9 : Int) (x8 : List Tree) (N0 : LSt U → Prop) (Q : AExit → LSt U → Prop) (h : ∀ y_1, y_1 = (List.getD l (Int.toNat x9) Op.nil) → ((decide ((x9 : Int) < (l.length : Int))) = true → (0 : Int) ≤ x9 ∧ x9 < (l.length : Int)) ∧ (((decide ((x9 : Int) < (l.length : Int))) && (!(((OpOf.kind y_1) : Int) == 1))) = true → (0 : Int) ≤ x9 ∧ x9 < (l.length : Int)) ∧ (((bif (decide ((x9 : Int) < (l.length : Int))) then (bif (((OpOf.kind y_1) : Int) == 1) then true else (((OpOf.kind y_1) : Int) == 2)) else false) = true → ((0 : Int) ≤ x9 ∧ x9 < (l.length : Int)) ∧ (((((OpOf.kind y_1) : Int) == kind) = true → ((0 : Int) ≤ x9 ∧ x9 < (l.length : Int)) ∧ (pre152 ((OpOf.l y_1), ())) ∧ ((x8.length + (normsT (OpOf.l y_1)).length) * 56 ≤ 140737488355328) ∧ ((InR ((x9 : Int) + 1)) ∧ (N0 (head110_0 l from_ kind ((x9 : Int) + 1) (x8 ++ (normsT (OpOf.l y_1))))))) ∧ ((((OpOf.kind y_1) : Int) == kind) = false → (InR ((x9 : Int) + 1)) ∧ (N0 (head110_0 l from_ kind ((x9 : Int) + 1) x8))))) ∧ ((bif (decide ((x9 : Int) < (l.length : Int))) then (bif (((OpOf.kind y_1) : Int) == 1) then true else (((OpOf.kind y_1) : Int) == 2)) else false) = false → Q .ret (⟨[(6, .c (.slice (U := U) .tree x8 (.own (.e 6 0)))), (7, .c (.int .i64 x9))], [], []⟩ : LSt U)))) :
    W110_l0 l from_ kind x9 x8 N0 Q := by
  have e_ : (W110_l0 l from_ kind x9 x8 N0 Q) = (let y_1 := (List.getD l (Int.toNat x9) Op.nil); let zz1 := ((OpOf.kind y_1) == 1); let zz0 := (decide ((x9 : Int) < (l.length : Int))); (TrKG22a (zz0 = true)) ∧ (TrKG22a (zz0 = true)) ∧ (zz0 = true → (0 : Int) ≤ x9 ∧ x9 < (l.length : Int)) ∧ (TrKG22a (zz0 = true)) ∧ (TrKG22a (zz0 = true)) ∧ (TrKG22a (zz0 = true)) ∧ (TrKG22a (zz0 = true)) ∧ (TrKG22a ((zz0 && (!zz1)) = true)) ∧ (TrKG22a ((zz0 && (!zz1)) = true)) ∧ ((zz0 && (!zz1)) = true → (0 : Int) ≤ x9 ∧ x9 < (l.length : Int)) ∧ (TrKG22a ((zz0 && (!zz1)) = true)) ∧ (TrKG22a ((zz0 && (!zz1)) = true)) ∧ (TrKG22a ((zz0 && (!zz1)) = true)) ∧ (zz0 = true → (True → zz0 = true)) ∧ (zz0 = true → (zz1 = false → (zz0 && (!zz1)) = true)) ∧ ((TrKG22a (zz0 = true))) ∧ (((bif zz0 then (bif zz1 then true else ((OpOf.kind y_1) == 2)) else false) = true → ((0 : Int) ≤ x9 ∧ x9 < (l.length : Int)) ∧ ((((OpOf.kind y_1) == kind) = true → ((0 : Int) ≤ x9 ∧ x9 < (l.length : Int)) ∧ (pre152 ((OpOf.l y_1), ())) ∧ ((x8.length + (normsT (OpOf.l y_1)).length) * 56 ≤ 140737488355328) ∧ ((InR ((x9 : Int) + 1)) ∧ (N0 (head110_0 l from_ kind ((x9 : Int) + 1) (x8 ++ (normsT (OpOf.l y_1))))))) ∧ (((OpOf.kind y_1) == kind) = false → (InR ((x9 : Int) + 1)) ∧ (N0 (head110_0 l from_ kind ((x9 : Int) + 1) x8))))) ∧ ((bif zz0 then (bif zz1 then true else ((OpOf.kind y_1) == 2)) else false) = false → (Q .ret (⟨[(6, .c (.slice (U := U) .tree x8 (.own (.e 6 0)))), (7, .c (.int .i64 x9))], [], []⟩ : LSt U))))) := by kernel_rfl
  exact e_.mpr (by intro y_1; have hh := h y_1 rfl; exact ⟨id, id, hh.1, id, id, id, id, id, id, hh.2.1, id, id, id, (by generalize (decide ((x9 : Int) < (l.length : Int))) = b0; revert b0; decide), (by generalize (((OpOf.kind y_1) : Int) == 1) = b0; generalize (decide ((x9 : Int) < (l.length : Int))) = b1; revert b0 b1; decide), (by generalize (decide ((x9 : Int) < (l.length : Int))) = b0; revert b0; decide), ⟨fun c_2 => ⟨(hh.2.2.1 c_2).1, ⟨fun c_3 => ⟨((hh.2.2.1 c_2).2.1 c_3).1, ((hh.2.2.1 c_2).2.1 c_3).2.1, ((hh.2.2.1 c_2).2.1 c_3).2.2.1, ⟨((hh.2.2.1 c_2).2.1 c_3).2.2.2.1, ((hh.2.2.1 c_2).2.1 c_3).2.2.2.2⟩⟩, fun c_3 => ⟨((hh.2.2.1 c_2).2.2 c_3).1, ((hh.2.2.1 c_2).2.2 c_3).2⟩⟩⟩, fun c_2 => (hh.2.2.2 c_2)⟩⟩)
def Body110 (l : List Op) (from_ : Int) (kind : Int)  : Prop := awp cfg (know (know110)) (drawOk cfg (know (know110))) Try.f110.ntmps lv110 (cd Try.f110 []) (entry (args110.can (l, from_, kind, ())) []) (EndsQ cfg Try.f110.ntmps Try.f110.results.toList (res110 (l, from_, kind, ())) [])
theorem make110 (c152 : Contract Try.prog cfg 152 spec152) (hb : ∀ (l : List Op) (from_ : Int) (kind : Int) (_ : Unit), pre110 (l, from_, kind, ()) → Body110 l from_ kind) : Contract Try.prog cfg 110 spec110 :=
  contract_flat (l := [(152, spec152)]) cfgOk rfl (⟨c152, trivial⟩) lv110 Try.func110 rfl rfl 3 (fun _ => rfl) (by decide) (fun ⟨l, from_, kind, _⟩ => hb l from_ kind ())
end
end Go.AM.Ytpjenobkibfpcaa

namespace Go.AM.Ytpjenobkibfpcaa
open Go.AM Go.Proofs
theorem c152 : Contract Try.prog cfg 152 spec152 := by
  refine make152 c45 ?_
  intro l _ hp
  simp only [pre152] at hp
  have hl := massK_len l
  refine vc152 _ _ ?_
  refine loop_rule (ι := Int × List Tree) (fun s => head152_0 l s.1 s.2) (fun s => 0 ≤ s.1 ∧ s.1 ≤ l.length ∧ s.2.length = s.1 ∧ s.2 ++ normsT (l.drop s.1.toNat) = normsT l) (fun s => ((l.length : Int) - s.1).toNat) (0, []) rfl ⟨by simp, by simp, by simp, by simp⟩ ?_
  rintro ⟨i, out⟩ ⟨h1, h2, h3, h4⟩
  dsimp only at h1 h2 h3 h4
  refine vc152_l0 _ _ _ _ _ ?_
  (simp only [vcS])
  (simp only [Tree.eta, Edit.eta, Tree.kind_mk, Tree.words_mk, Tree.kids_mk])
  refine ⟨fun hi => ?_, fun hi => ?_⟩
  · have hm := massK_mem (mem_getD (l := l) (i := i.toNat) (by omega) Tree.nil)
    rw [dropI h1 hi Tree.nil] at h4
    simp only [normsT, List.map_cons] at h4
    refine ⟨⟨h1, hi⟩, by simp only [pre45]; omega, by simp; omega, by unfold InR; omega, (i + 1, out ++ [normT (l.getD i.toNat Tree.nil)]), rfl, ⟨by dsimp only; omega, by dsimp only; omega, by simp; omega, ?_⟩, by dsimp only; omega⟩
    simp only [List.append_assoc, List.cons_append, List.nil_append]
    exact h4
  · rw [List.drop_of_length_le (by omega)] at h4
    simp only [normsT, List.map_nil, List.append_nil] at h4
    rw [h4]
    (repeat' (first | exact trivial | exact rfl | apply And.intro))
theorem gapT_drop {kind : Int} {l : List Op} {i : Int} (h0 : 0 ≤ i) (h : i < l.length) : gapT kind (l.drop i.toNat) = if (l.getD i.toNat Op.nil).kind = 1 ∨ (l.getD i.toNat Op.nil).kind = 2 then (if (l.getD i.toNat Op.nil).kind = kind then normsT (l.getD i.toNat Op.nil).l else []) ++ gapT kind (l.drop (i + 1).toNat) else [] := by
  rw [dropI h0 h Op.nil, gapT]
theorem gapN_drop {l : List Op} {i : Int} (h0 : 0 ≤ i) (h : i < l.length) : gapN (l.drop i.toNat) = if (l.getD i.toNat Op.nil).kind = 1 ∨ (l.getD i.toNat Op.nil).kind = 2 then 1 + gapN (l.drop (i + 1).toNat) else 0 := by
  rw [dropI h0 h Op.nil, gapN]
theorem massOs_drop (n : Nat) : ∀ (l : List Op), massOs (l.drop n) ≤ massOs l := by
  induction n with
  | zero => intro l; simp
  | succ n ih =>
    intro l
    cases l with
    | nil => simp
    | cons t r => simp only [List.drop_succ_cons, massOs]; have := ih r; omega
theorem c110 : Contract Try.prog cfg 110 spec110 := by
  refine make110 c152 ?_
  intro l from_ kind _ hp
  simp only [pre110] at hp
  obtain ⟨hm, hf0, hf1⟩ := hp
  have hl := massOs_len l
  refine vc110 _ _ _ _ ?_
  refine loop_rule (ι := Int × List Tree) (fun s => head110_0 l from_ kind s.1 s.2) (fun s => from_ ≤ s.1 ∧ s.1 ≤ l.length ∧ s.2.length + massOs (l.drop s.1.toNat) ≤ massOs l ∧ s.2 ++ gapT kind (l.drop s.1.toNat) = gapT kind (l.drop from_.toNat) ∧ s.1 + gapN (l.drop s.1.toNat) = from_ + gapN (l.drop from_.toNat)) (fun s => ((l.length : Int) - s.1).toNat) (from_, []) rfl ⟨by simp, by simpa using hf1, by have := massOs_drop from_.toNat l; simpa using this, by simp, rfl⟩ ?_
  rintro ⟨i, out⟩ ⟨h1, h2, h3, h4, h5⟩
  dsimp only at h1 h2 h3 h4 h5
  refine vc110_l0 _ _ _ _ _ _ _ ?_
  rintro y hy
  (simp only [vcS])
  refine ⟨fun hi => ⟨by omega, hi⟩, fun hi => ⟨by omega, hi.1⟩, fun hi => ?_, fun hi => ?_⟩
  · obtain ⟨hi, hk⟩ := hi
    have hmem := massOs_mem (mem_getD (l := l) (i := i.toNat) (by omega) Op.nil)
    have hd := congrArg massOs (dropI (show 0 ≤ i by omega) hi Op.nil)
    rw [massOs_cons] at hd
    rw [gapT_drop (by omega) hi] at h4
    rw [gapN_drop (by omega) hi] at h5
    rw [← hy] at h4 h5 hmem hd
    rw [if_pos hk] at h4 h5
    rw [massOp_e] at hmem hd
    have hkl := massK_len y.l
    have hyl : (normsT y.l).length = y.l.length := by simp [normsT]
    refine ⟨⟨by omega, hi⟩, fun hq => ⟨⟨by omega, hi⟩, by simp only [pre152]; omega, by rw [hyl]; omega, by unfold InR; omega, (i + 1, out ++ normsT y.l), rfl, ⟨by dsimp only; omega, by dsimp only; omega, by simp; omega, ?_, by dsimp only; omega⟩, by dsimp only; omega⟩, fun hq => ⟨by unfold InR; omega, (i + 1, out), rfl, ⟨by dsimp only; omega, by dsimp only; omega, by dsimp only; omega, ?_, by dsimp only; omega⟩, by dsimp only; omega⟩⟩
    · rw [if_pos hq, ← List.append_assoc] at h4; exact h4
    · rw [if_neg hq, List.nil_append] at h4; exact h4
  · have e1 : gapT kind (l.drop i.toNat) = [] ∧ gapN (l.drop i.toNat) = 0 := by
      by_cases hc : i < l.length
      · rw [gapT_drop (by omega) hc, gapN_drop (by omega) hc, ← hy, if_neg (by omega), if_neg (by omega)]
        exact ⟨rfl, rfl⟩
      · rw [List.drop_of_length_le (by omega)]
        exact ⟨rfl, rfl⟩
    rw [e1.1, List.append_nil] at h4
    rw [e1.2] at h5
    have e2 : i = from_ + gapN (l.drop from_.toNat) := by omega
    simp only [res110, ← h4, ← e2]
    (repeat' (first | exact trivial | exact rfl | apply And.intro))
end Go.AM.Ytpjenobkibfpcaa

namespace Go.AM.Ytpjenobkibfpcaa
open Go.AM Go.Proofs
theorem keepO_keepO : ∀ (l : List Op) (m n : Int), keepO (keepO l m) n = keepO l (m + n)
  | [], m, n => by simp [keepO]
  | [o], m, n => by
    by_cases h : o.kind = 0
    · simp [keepO, h, Int.add_assoc]
    · simp [keepO, h]
  | o :: p :: r, m, n => by
    have ih := keepO_keepO (p :: r) m n
    cases hk : keepO (p :: r) m with
    | nil => cases r <;> simp [keepO] at hk; split at hk <;> cases hk
    | cons x y =>
      rw [hk] at ih
      simp only [keepO]
      rw [hk]
      simp only [keepO]
      rw [ih]
theorem keepO_cases : ∀ (l : List Op) (n : Int), keepO l n = l ++ [⟨0, n, [], Edit.nil⟩] ∨ ∃ a o, l = a ++ [o] ∧ o.kind = 0 ∧ keepO l n = a ++ [⟨o.kind, o.n + n, o.l, o.e⟩]
  | [], n => Or.inl rfl
  | [o], n => by
    by_cases h : o.kind = 0
    · exact Or.inr ⟨[], o, rfl, h, by simp [keepO, h]⟩
    · exact Or.inl (by simp [keepO, h])
  | o :: p :: r, n => by
    rcases keepO_cases (p :: r) n with h | ⟨a, q, h1, h2, h3⟩
    · exact Or.inl (by simp only [keepO, h, List.cons_append])
    · exact Or.inr ⟨o :: a, q, by rw [h1]; rfl, h2, by simp only [keepO, h3, List.cons_append]⟩
def W0 : Wst := ⟨[], [], []⟩
end Go.AM.Ytpjenobkibfpcaa

namespace Go.AM
theorem noneT_is {t : Tree} (h : noneT t = true) : t = Tree.nil := by
  obtain ⟨k, w, ks⟩ := t
  simp only [noneT, decide_eq_true_eq] at h
  obtain ⟨h1, h2, h3⟩ := h
  have h1 : k = 0 := h1
  rw [h1, List.eq_nil_of_length_eq_zero (l := w) h2, List.eq_nil_of_length_eq_zero (l := ks) h3]
  rfl
theorem sameE_is {e : Edit} (h : sameE e = true) : e = Edit.nil := by
  obtain ⟨k, o, n, w, ks, l, os⟩ := e
  simp only [sameE, Bool.and_eq_true, decide_eq_true_eq] at h
  obtain ⟨⟨⟨h1, h2⟩, h3⟩, h4, h5, h6, h7⟩ := h
  have h1 : k = 0 := h1
  have h7 : l = 0 := h7
  rw [h1, h7, noneT_is (t := o) h2, noneT_is (t := n) h3, List.eq_nil_of_length_eq_zero (l := w) h4, List.eq_nil_of_length_eq_zero (l := ks) h5, List.eq_nil_of_length_eq_zero (l := os) h6]
  rfl
structure RightE (e : Edit) (d : Int) : Prop where
  d0 : d ≠ 0
  kind : 0 ≤ e.kind ∧ e.kind ≤ 3
  none : e.kind ≠ 1 → e.old = Tree.nil ∧ e.new = Tree.nil
  words0 : e.kind ≠ 2 → e.words = [] ∧ e.kids = []
  ops0 : e.kind ≠ 3 → e.list = 0 ∧ e.ops = []
  rep : e.kind = 1 → rightT e.old (dT d) = true ∧ rightT e.new (dT d) = true ∧ e.old.kind ≠ 10 ∧ e.new.kind ≠ 10
  words : wordsOk (-1) e.words = true
  kids : rightKs (-1) e.kids (d - 1) = true
  list : e.kind = 3 → 2 ≤ e.list ∧ e.list ≤ 9
  ops : rightOs e.list e.ops (d - 1) = true
  len : lenA e.ops 0 < 1048576 ∧ lenB e.ops 0 < 1048576
theorem rightE_all {e : Edit} {d : Int} (h : rightE e d = true) : RightE e d := by
  obtain ⟨k, o, n, w, ks, l, os⟩ := e
  rw [rightE] at h
  split at h
  · cases h
  · rename_i a
    split at h
    · cases h
    · rename_i b
      have b1 : k ≠ 1 → o = Tree.nil ∧ n = Tree.nil := by
        intro hk
        by_cases x : noneT o = true ∧ noneT n = true
        · exact ⟨noneT_is x.1, noneT_is x.2⟩
        · exact absurd (.inl ⟨hk, x⟩) b
      have b2 : k ≠ 2 → w = [] ∧ ks = [] := by
        intro hk
        by_cases x : w.length = 0 ∧ ks.length = 0
        · exact ⟨List.eq_nil_of_length_eq_zero x.1, List.eq_nil_of_length_eq_zero x.2⟩
        · exact absurd (.inr (.inl ⟨hk, x⟩)) b
      have b3 : k ≠ 3 → l = 0 ∧ os = [] := by
        intro hk
        by_cases x : l ≠ 0 ∨ os.length ≠ 0
        · exact absurd (.inr (.inr ⟨hk, x⟩)) b
        · exact ⟨by omega, List.eq_nil_of_length_eq_zero (by omega)⟩
      split at h
      · rename_i c
        simp only [Bool.and_eq_true, decide_eq_true_eq] at h
        obtain ⟨⟨h1, h2⟩, h3, h4⟩ := h
        have c2 := b2 (by omega)
        have c3 := b3 (by omega)
        obtain ⟨rfl, rfl⟩ := c2
        obtain ⟨rfl, rfl⟩ := c3
        exact ⟨by omega, ⟨by show 0 ≤ k; omega, by show k ≤ 3; omega⟩, b1, b2, b3, fun _ => ⟨h1, h2, h3, h4⟩, rfl, rfl, fun e => by have e : k = 3 := e; omega, rfl, by show lenA [] 0 < _ ∧ lenB [] 0 < _; simp [lenA, lenB]⟩
      · rename_i c
        simp only [Bool.and_eq_true, decide_eq_true_eq] at h
        obtain ⟨⟨⟨⟨h1, h2⟩, h3⟩, h4⟩, h5⟩ := h
        exact ⟨by omega, ⟨by show 0 ≤ k; omega, by show k ≤ 3; omega⟩, b1, b2, b3, fun e => absurd e c, h1, h2, fun e => by have e : k = 3 := e; show 2 ≤ l ∧ l ≤ 9; omega, h4, h5⟩
theorem rightKs_all : ∀ {ks : List Kid} {last d : Int}, rightKs last ks d = true → ∀ k ∈ ks, (last < k.at_ ∧ k.at_ ≤ 65534 ∧ k.e.kind ≠ 0) ∧ rightE k.e d = true
  | [], _, _, _, _, hk => by cases hk
  | ⟨a, e⟩ :: r, last, d, h, k, hk => by
    simp only [rightKs, rightKid, Bool.and_eq_true, decide_eq_true_eq] at h
    obtain ⟨⟨h1, h2⟩, h3⟩ := h
    rcases List.mem_cons.1 hk with rfl | hk
    · exact ⟨h1, h2⟩
    · have := rightKs_all h3 k hk
      have h1 : last < a ∧ a ≤ 65534 ∧ e.kind ≠ 0 := h1
      have h4 : a < k.at_ := this.1.1
      exact ⟨⟨by omega, this.1.2⟩, this.2⟩
theorem rightOs_mem {list : Int} : ∀ {os : List Op} {d : Int}, rightOs list os d = true → ∀ o ∈ os, rightOp list o d = true
  | [], _, _, _, ho => by cases ho
  | a :: r, d, h, o, ho => by
    simp only [rightOs, Bool.and_eq_true] at h
    rcases List.mem_cons.1 ho with rfl | ho
    · exact h.1
    · exact rightOs_mem h.2 o ho
inductive RightOp (list : Int) (d : Int) : Op → Prop
  | keep (n : Int) : 1 ≤ n → n ≤ 1048576 → RightOp list d ⟨0, n, [], Edit.nil⟩
  | gone (l : List Tree) : treesG (dT d) list l = true → 0 < l.length → RightOp list d ⟨1, 0, l, Edit.nil⟩
  | come (l : List Tree) : treesG (dT d) list l = true → 0 < l.length → RightOp list d ⟨2, 0, l, Edit.nil⟩
  | into (e : Edit) : rightE e d = true → e.kind ≠ 0 → 7 < list → (list = 8 ∨ e.kind = 2 ∨ e.kind = 1 ∧ e.old.kind = 1 ∧ e.new.kind = 1) → RightOp list d ⟨3, 0, [], e⟩
theorem rightOp_all {list : Int} {o : Op} {d : Int} (h : rightOp list o d = true) : RightOp list d o := by
  obtain ⟨k, n, l, e⟩ := o
  rw [rightOp] at h
  split at h
  · rename_i hk
    simp only [Bool.and_eq_true, decide_eq_true_eq] at h
    obtain ⟨⟨h1, h2, h3⟩, h4⟩ := h
    rw [hk, sameE_is h4, List.eq_nil_of_length_eq_zero h3]
    exact .keep n h1 h2
  · rename_i h0
    split at h
    · cases h
    · rename_i h1
      have hn : n = 0 := by omega
      subst hn
      split at h
      · rename_i h2
        simp only [Bool.and_eq_true, decide_eq_true_eq] at h
        obtain ⟨⟨h3, h4⟩, h5⟩ := h
        rw [sameE_is h5]
        by_cases hk : k = 1
        · rw [hk]; exact .gone l h3 h4
        · rw [show k = 2 by omega]; exact .come l h3 h4
      · rename_i h2
        simp only [Bool.and_eq_true, decide_eq_true_eq] at h
        obtain ⟨⟨⟨h3, h4, h5⟩, h6⟩, h7⟩ := h
        rw [show k = 3 by omega, List.eq_nil_of_length_eq_zero h3]
        exact .into e h6 h4 h5 h7
end Go.AM

namespace Go.AM.Ytpjenobkibfpcaa
open Go.AM Go.Proofs
theorem massK_app : ∀ (a b : List Tree), massK (a ++ b) = massK a + massK b
  | [], b => by simp [massK]
  | t :: r, b => by simp only [List.cons_append, massK, massK_app r b]; omega
theorem massOs_app : ∀ (a b : List Op), massOs (a ++ b) = massOs a + massOs b
  | [], b => by simp [massOs]
  | t :: r, b => by simp only [List.cons_append, massOs, massOs_app r b]; omega
theorem massK_norms : ∀ (l : List Tree), massK (normsT l) ≤ massK l
  | [] => by simp [normsT, massK]
  | t :: r => by
    have h := massK_norms r
    have h2 := normT_mass t
    simp only [normsT] at h
    simp only [normsT, List.map_cons, massK]
    omega
theorem mass_nilE : massE Edit.nil = 3 := by simp [Edit.nil, Tree.nil, massE, mass, massK, massKs, massOs]
theorem mass_nilT : mass Tree.nil = 1 := by simp [Tree.nil, mass, massK]
theorem mass_pos' (t : Tree) : 1 ≤ mass t := by cases t; simp only [mass]; omega
theorem massE_three : ∀ (e : Edit), 3 ≤ massE e
  | .mk k o n w ks l os => by
    have h1 := mass_pos' o
    have h2 := mass_pos' n
    simp only [massE]; omega
def potW (w : Wst) : Nat := massOs w.out + w.out.length + massK w.gone + massK w.brought + (if w.gone.length = 0 then 0 else 4) + (if w.brought.length = 0 then 0 else 4)
theorem massOs_one (o : Op) : massOs [o] = massOp o := by simp [massOs]
theorem massOp_mk (k n : Int) (l : List Tree) (e : Edit) : massOp (OpOf.mk k n l e) = massK l + massE e := rfl
theorem pot_flush (w : Wst) : massOs (flushW w).out + (flushW w).out.length = potW w := by
  simp only [flushW, flushO, potW]
  rw [massOs_app, massOs_app, List.length_append, List.length_append]
  by_cases hg : w.gone.length = 0
  · have e : w.gone = [] := List.length_eq_zero_iff.1 hg
    rw [if_pos hg, if_pos hg, e]
    by_cases hb : w.brought.length = 0
    · have e2 : w.brought = [] := List.length_eq_zero_iff.1 hb
      rw [if_pos hb, if_pos hb, e2]; simp [massOs, massK]
    · rw [if_neg hb, if_neg hb, massOs_one, massOp_mk, mass_nilE]; simp [massOs, massK]; omega
  · rw [if_neg hg, if_neg hg, massOs_one, massOp_mk, mass_nilE]
    by_cases hb : w.brought.length = 0
    · have e2 : w.brought = [] := List.length_eq_zero_iff.1 hb
      rw [if_pos hb, if_pos hb, e2]; simp [massOs, massK]; omega
    · rw [if_neg hb, if_neg hb, massOs_one, massOp_mk, mass_nilE]; simp; omega
theorem pot_keep (w : Wst) (n : Int) : potW (keepW w n) ≤ potW w + 4 := by
  have h := pot_flush w
  have e : potW (keepW w n) = massOs (keepO (flushW w).out n) + (keepO (flushW w).out n).length := by simp [potW, keepW, massK]
  rw [e]
  rcases keepO_cases (flushW w).out n with e | ⟨a, o, e1, _, e3⟩
  · rw [e, massOs_app, List.length_append, massOs_one, massOp_mk, mass_nilE]; simp [massK]; omega
  · rw [e3, massOs_app, List.length_append, massOs_one]
    rw [e1, massOs_app, List.length_append, massOs_one] at h
    obtain ⟨k, m, l, e⟩ := o
    simp only [massOp_mk] at h ⊢
    simp at h ⊢
    omega
theorem pot_op {list : Int} {w : Wst} {o : Op} (hi : massE (nrmE o.e) ≤ massE o.e) : potW (nrmOp list o w) ≤ potW w + massOp o + 1 := by
  have h3 := massE_three o.e
  have hm : massOp o = massK o.l + massE o.e := by cases o; rfl
  have hn := massK_norms o.l
  have hl : (normsT o.l).length = o.l.length := by simp [normsT]
  rw [nrmOp_at]
  split
  · have := pot_keep w o.n; omega
  · split
    · simp only [potW, massK_app, List.length_append, hl]
      split <;> split <;> split <;> omega
    · split
      · simp only [potW, massK_app, List.length_append, hl]
        split <;> split <;> split <;> omega
      · split
        · split
          · have := pot_keep w 1; omega
          · have := pot_flush w
            have e : potW ⟨(flushW w).out ++ [⟨3, 0, [], nrmE o.e⟩], [], []⟩ = massOs ((flushW w).out ++ [(⟨3, 0, [], nrmE o.e⟩ : Op)]) + ((flushW w).out ++ [(⟨3, 0, [], nrmE o.e⟩ : Op)]).length := by simp [potW, massK]
            rw [e, massOs_app, List.length_append, massOs_one, massOp_mk]
            simp [massK]; omega
        · omega
mutual
theorem massE_nrm : ∀ (e : Edit), massE (nrmE e) ≤ massE e
  | .mk k o n w ks l os => by
    have h1 := massKs_nrm ks
    have h2 := pot_nrm l os W0
    have h3 := pot_flush (nrmOs l os W0)
    have e0 : potW W0 = 0 := rfl
    have po := mass_pos' o
    have pn := mass_pos' n
    have mo := normT_mass o
    have mn := normT_mass n
    rw [nrmE]
    split
    · simp only [massE, massKs, massOs, List.length_nil]; omega
    · split
      · simp only [massE, massKs, massOs, List.length_nil, mass_nilT]; omega
      · split
        · simp only [massE, massKs, List.length_nil, mass_nilT]
          show 1 + 1 + 1 + 0 + (flushW (nrmOs l os W0)).out.length + 0 + massOs (flushW (nrmOs l os W0)).out ≤ _
          omega
        · simp only [massE, massKs, massOs, List.length_nil, mass_nilT]; omega
theorem massKs_nrm : ∀ (ks : List (KidOf Edit)), massKs (nrmKs ks) ≤ massKs ks
  | [] => Nat.le_refl _
  | k :: r => by
    have h1 := massKid_nrm k
    have h2 := massKs_nrm r
    simp only [nrmKs, massKs]; omega
theorem massKid_nrm : ∀ (k : KidOf Edit), massKid (nrmKid k) ≤ massKid k
  | ⟨a, e⟩ => by
    have h := massE_nrm e
    simp only [nrmKid, massKid]; exact h
theorem pot_nrm (list : Int) : ∀ (os : List (OpOf Edit)) (w : Wst), potW (nrmOs list os w) ≤ potW w + massOs os + os.length
  | [], w => by simp [nrmOs, massOs]
  | o :: r, w => by
    have h1 := pot_nrmOp list o w
    have h2 := pot_nrm list r (nrmOp list o w)
    simp only [nrmOs, massOs, List.length_cons]; omega
theorem pot_nrmOp (list : Int) : ∀ (o : OpOf Edit) (w : Wst), potW (nrmOp list o w) ≤ potW w + massOp o + 1
  | ⟨k, n, l, e⟩, _ => pot_op (o := ⟨k, n, l, e⟩) (massE_nrm e)
end
end Go.AM.Ytpjenobkibfpcaa

namespace Go.AM.Ytpjenobkibfpcaa
open Go.AM Go.Proofs
def rOp (list : Int) (d : Int) (o : Op) : Prop := (o.kind = 0 → 1 ≤ o.n ∧ o.l.length = 0 ∧ sameE o.e = true) ∧ (o.kind ≠ 0 → rightOp list o d = true)
def sumA : List Op → Int
  | [] => 0
  | o :: r => (if o.kind = 2 then 0 else opLen o) + sumA r
def sumB : List Op → Int
  | [] => 0
  | o :: r => (if o.kind = 1 then 0 else opLen o) + sumB r
theorem lenA_sum : ∀ (l : List Op) (n : Int), (∀ o ∈ l, 0 ≤ opLen o) → 0 ≤ n → n ≤ 1048576 → lenA l n = min (n + sumA l) 1048576 ∧ 0 ≤ sumA l
  | [], n, _, h1, h2 => by simp only [lenA, sumA]; omega
  | o :: r, n, h, h1, h2 => by
    have ho := h o (List.mem_cons_self ..)
    simp only [lenA, sumA]
    have hx : 0 ≤ (if o.kind = 2 then n else n + opLen o) ∧ (if o.kind = 2 then n else n + opLen o) = n + (if o.kind = 2 then 0 else opLen o) := by split <;> omega
    have hy : 0 ≤ (if o.kind = 2 then 0 else opLen o) := by split <;> omega
    rw [hx.2]
    rw [hx.2] at hx
    generalize (if o.kind = 2 then 0 else opLen o) = y at *
    obtain ⟨e1, e2⟩ := lenA_sum r (min (n + y) 1048576) (fun x hx => h x (List.mem_cons_of_mem _ hx)) (by omega) (by omega)
    rw [e1]
    omega
theorem lenB_sum : ∀ (l : List Op) (n : Int), (∀ o ∈ l, 0 ≤ opLen o) → 0 ≤ n → n ≤ 1048576 → lenB l n = min (n + sumB l) 1048576 ∧ 0 ≤ sumB l
  | [], n, _, h1, h2 => by simp only [lenB, sumB]; omega
  | o :: r, n, h, h1, h2 => by
    have ho := h o (List.mem_cons_self ..)
    simp only [lenB, sumB]
    have hx : 0 ≤ (if o.kind = 1 then n else n + opLen o) ∧ (if o.kind = 1 then n else n + opLen o) = n + (if o.kind = 1 then 0 else opLen o) := by split <;> omega
    have hy : 0 ≤ (if o.kind = 1 then 0 else opLen o) := by split <;> omega
    rw [hx.2]
    rw [hx.2] at hx
    generalize (if o.kind = 1 then 0 else opLen o) = y at *
    obtain ⟨e1, e2⟩ := lenB_sum r (min (n + y) 1048576) (fun x hx => h x (List.mem_cons_of_mem _ hx)) (by omega) (by omega)
    rw [e1]
    omega
end Go.AM.Ytpjenobkibfpcaa

namespace Go.AM
def goodT (t : Tree) : Bool := decide (0 ≤ shallow t 80 3000) && rightT t 64 && decide (t.kind ≠ 10)
end Go.AM

namespace Go.AM.Ytpjenobkibfpcaa
open Go.AM Go.Proofs
theorem massKs_mem' : ∀ {ks : List Kid} {k : Kid}, k ∈ ks → massE k.e ≤ massKs ks
  | ⟨_, _⟩ :: r, k, h => by
    rcases List.mem_cons.1 h with rfl | h
    · simp only [massKs, massKid]; omega
    · have := massKs_mem' h; simp only [massKs]; omega
theorem massOs_mem' : ∀ {os : List Op} {o : Op}, o ∈ os → massOp o ≤ massOs os
  | a :: r, o, h => by
    rcases List.mem_cons.1 h with rfl | h
    · simp only [massOs]; omega
    · have := massOs_mem' h; simp only [massOs]; omega
theorem massOp_le (o : Op) : massE o.e ≤ massOp o := by obtain ⟨k, n, l, e⟩ := o; simp only [massOp]; omega
theorem massE_kid {e : Edit} {k : Kid} (h : k ∈ e.kids) : massE k.e < massE e := by
  obtain ⟨kk, o, n, w, ks, l, os⟩ := e
  have := massKs_mem' (ks := ks) h
  simp only [massE]; omega
theorem massE_op {e : Edit} {o : Op} (h : o ∈ e.ops) : massE o.e < massE e := by
  obtain ⟨kk, ol, n, w, ks, l, os⟩ := e
  have := massOs_mem' (os := os) h
  have := massOp_le o
  simp only [massE]; omega
inductive Run : List Op → List Tree → List Tree → Prop
  | nil : Run [] [] []
  | keep {o r a s d} : o.kind = 0 → (a.length : Int) = o.n → Run r s d → Run (o :: r) (a ++ s) (a ++ d)
  | gone {o r a s d} : o.kind = 1 → normsT o.l = normsT a → Run r s d → Run (o :: r) (a ++ s) d
  | come {o r s d} : o.kind = 2 → Run r s d → Run (o :: r) s (o.l ++ d)
  | into {o r x y s d} : o.kind = 3 → doE false o.e x = some y → Run r s d → Run (o :: r) (x :: s) (y :: d)
end Go.AM.Ytpjenobkibfpcaa

namespace Go.AM.Ytpjenobkibfpcaa
open Go.AM Go.Proofs
theorem opOk_right {list d : Int} {os : List Op} (h : rightOs list os d = true) : ∀ o ∈ os, opOk o := fun o ho => rightOp_ok (rightOs_mem h ho)
theorem opLen_nonneg {o : Op} (h : opOk o) : 0 ≤ opLen o := by have := opLen_pos h; omega
end Go.AM.Ytpjenobkibfpcaa

namespace Go.AM.Ytpjenobkibfpcaa
open Go.AM Go.Proofs
theorem rightE_ops {e : Edit} {d : Int} (h : rightE e d = true) : ∀ o ∈ e.ops, opOk o := opOk_right (rightE_all h).ops
end Go.AM.Ytpjenobkibfpcaa

namespace Go.AM.Ytpjenobkibfpcaa
open Go.AM Go.Proofs
theorem nrmOs_app (list : Int) : ∀ (a b : List Op) (w : Wst), nrmOs list (a ++ b) w = nrmOs list b (nrmOs list a w)
  | [], _, _ => rfl
  | o :: r, b, w => by simp only [List.cons_append, nrmOs, nrmOs_app list r b]
theorem flush_nil (x : List Op) : (flushW ⟨x, [], []⟩).out = x := by simp [flushW, flushO]
theorem keepW_keepW (w : Wst) (a b : Int) : keepW (keepW w a) b = keepW w (a + b) := by
  unfold keepW
  rw [flush_nil, keepO_keepO]
structure Alike (c r : Edit × Bool) : Prop where
  ok : c.2 = r.2
  nrm : c.2 = true → nrmE c.1 = nrmE r.1
end Go.AM.Ytpjenobkibfpcaa

namespace Go.AM.Ytpjenobkibfpcaa
open Go.AM Go.Proofs
def φA (o : Op) : Int := if o.kind = 2 then 0 else opLen o
def φB (o : Op) : Int := if o.kind = 1 then 0 else opLen o
def φC (o : Op) : Int := massK o.l + ctE o.e - 18
end Go.AM.Ytpjenobkibfpcaa

namespace Go.AM.Ytpjenobkibfpcaa
open Go.AM Go.Proofs
structure Wk (e : Edit) : Prop where
  r : rightE e (-1) = true
  g : rngE e
end Go.AM.Ytpjenobkibfpcaa

namespace Go.AM.Ytpjenobkibfpcaa
open Go.AM Go.Proofs
theorem massE_nil3 : massE Edit.nil = 3 := rfl
theorem massE_3 (e : Edit) : 3 ≤ massE e := by
  obtain ⟨k, o, n, w, ks, l, os⟩ := e
  have := mass_pos o
  have := mass_pos n
  simp only [massE]; omega
end Go.AM.Ytpjenobkibfpcaa

namespace Go.AM.Ytpjenobkibfpcaa
open Go.AM Go.Proofs
mutual
def utE : Edit → Nat
  | .mk _ o n w ks _ os => 16 + mass o + mass n + 65600 * w.length + utKs ks + utOs os
def utKs : List (KidOf Edit) → Nat
  | [] => 0
  | k :: r => utKid k + utKs r
def utKid : KidOf Edit → Nat
  | ⟨_, e⟩ => 65600 + utE e
def utOs : List (OpOf Edit) → Nat
  | [] => 0
  | o :: r => utOp o + utOs r
def utOp : OpOf Edit → Nat
  | ⟨k, n, l, e⟩ => if k = 3 then 16 + utE e else 34 * (n.toNat + l.length) + massK l
end
theorem utE_at (e : Edit) : utE e = 16 + mass e.old + mass e.new + 65600 * e.words.length + utKs e.kids + utOs e.ops := by cases e; rfl
theorem utKid_at (k : Kid) : utKid k = 65600 + utE k.e := by cases k; rfl
theorem utOp_at (o : Op) : utOp o = if o.kind = 3 then 16 + utE o.e else 34 * (o.n.toNat + o.l.length) + massK o.l := by cases o; rfl
theorem ut_light : ∀ (n : Nat) (e : Edit), massE e ≤ n → (∃ d, rightE e d = true) → lightE e = true → utE e + 131100 ≤ 65600 * massE e + 150000 * massE e := by
  intro n
  induction n with
  | zero => intro e h; have := massE_3 e; omega
  | succ n ih =>
    intro e hn ⟨d, hr⟩ hl
    have R := rightE_all hr
    have hm := massE_3 e
    have me : massE e = 1 + mass e.old + mass e.new + e.words.length + e.ops.length + massKs e.kids + massOs e.ops := by cases e; rfl
    have mo := mass_pos e.old
    have mn := mass_pos e.new
    rw [lightE_at, Bool.and_eq_true, Bool.and_eq_true, decide_eq_true_eq] at hl
    obtain ⟨⟨l1, l2⟩, l3⟩ := hl
    have hk : ∀ l : List Kid, (∀ k ∈ l, k ∈ e.kids) → lightKs l = true → utKs l ≤ 215600 * massKs l := by
      intro l
      induction l with
      | nil => intro _ _; exact Nat.le_refl _
      | cons a r ihl =>
        intro h hl
        simp only [lightKs, Bool.and_eq_true, lightKid_at] at hl
        have ha := h a List.mem_cons_self
        have := massE_kid ha
        have := ih a.e (by omega) ⟨_, (rightKs_all R.kids a ha).2⟩ hl.1
        have := ihl (fun k hk => h k (List.mem_cons_of_mem _ hk)) hl.2
        simp only [utKs, massKs, utKid_at, massKid_e]; omega
    have ook := rightE_ops hr
    have ho : ∀ l : List Op, (∀ o ∈ l, o ∈ e.ops) → lightOs l = true → (utOs l : Int) ≤ 215600 * massOs l + 34 * kidsOs l + 16 * l.length := by
      intro l
      induction l with
      | nil => intro _ _; simp [utOs, massOs, kidsOs]
      | cons a r ihl =>
        intro h hl
        simp only [lightOs, Bool.and_eq_true, lightOp_at] at hl
        have ha := h a List.mem_cons_self
        have := ihl (fun k hk => h k (List.mem_cons_of_mem _ hk)) hl.2
        have hr := rightOs_mem R.ops ha
        have key : (utOp a : Int) ≤ 215600 * massOp a + 34 * opLen a + 16 := by
          have me := massE_op ha
          have ml := massK_len a.l
          rw [utOp_at, massOp_e]
          have rt := rightOp_all hr
          have hp := opLen_eq a
          cases rt with
          | keep n h1 h2 => rw [if_neg (show ¬(0 : Int) = 3 by decide)]; rw [if_neg (show ¬(0 : Int) = 3 by decide)] at hp; simp only [massK, List.length_nil, massE_nil3] at *; omega
          | gone l h1 h2 => rw [if_neg (show ¬(1 : Int) = 3 by decide)]; rw [if_neg (show ¬(1 : Int) = 3 by decide)] at hp; dsimp only at *; simp only [massE_nil3] at *; omega
          | come l h1 h2 => rw [if_neg (show ¬(2 : Int) = 3 by decide)]; rw [if_neg (show ¬(2 : Int) = 3 by decide)] at hp; dsimp only at *; simp only [massE_nil3] at *; omega
          | into e' h1 h2 =>
            rw [if_pos rfl] at hp ⊢
            have := ih e' (by dsimp only at me; omega) ⟨_, h1⟩ hl.1
            simp only [massK]; omega
        simp only [utOs, massOs, kidsOs, List.length_cons]; omega
    have h1 := hk e.kids (fun k h => h) l2
    have h2 := ho e.ops (fun k h => h) l3
    have h3 := kids_sum ook
    have h4 : sumA e.ops ≤ 2000 ∧ sumB e.ops ≤ 2000 := by
      have ok : ∀ o ∈ e.ops, 0 ≤ opLen o := fun o ho => opLen_nonneg (ook o ho)
      have a := lenA_sum e.ops 0 ok (by decide) (by decide)
      have b := lenB_sum e.ops 0 ok (by decide) (by decide)
      omega
    rw [utE_at, me]
    omega
where
  kids_sum : ∀ {l : List Op}, (∀ o ∈ l, opOk o) → kidsOs l ≤ sumA l + sumB l
    | [], _ => by simp [kidsOs, sumA, sumB]
    | o :: r, h => by
      have h1 := opLen_pos (h o List.mem_cons_self)
      have h2 := kids_sum fun x hx => h x (List.mem_cons_of_mem _ hx)
      simp only [kidsOs, sumA, sumB]
      split <;> split <;> omega
def φU (o : Op) : Int := utOp o
end Go.AM.Ytpjenobkibfpcaa

namespace Go.AM.Ytpjenobkibfpcaa
open Go.AM Go.Proofs
def refOk (e : Edit) : Prop := utE e ≤ 9000000000 ∧ rngE e ∧ ∃ d, rightE e d = true
end Go.AM.Ytpjenobkibfpcaa
