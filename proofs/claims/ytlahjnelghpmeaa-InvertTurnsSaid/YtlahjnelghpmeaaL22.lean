import Derived.Test.YtlahjnelghpmeaaB20c
import Derived.Test.YtlahjnelghpmeaaAmZ
import Derived.Test.YtlahjnelghpmeaaRB07
import Derived.Test.YtlahjnelghpmeaaB07
set_option linter.unusedSimpArgs false
set_option linter.unusedVariables false
namespace Go.AM
noncomputable def eqX {α : Type} (a b : α) : Bool := @decide (a = b) (Classical.propDecidable _)
theorem eqX_iff {α : Type} {a b : α} : eqX a b = true ↔ a = b := by unfold eqX; exact @decide_eq_true_iff _ (Classical.propDecidable _)
@[simp] theorem eqX_self {α : Type} (a : α) : eqX a a = true := eqX_iff.2 rfl
def opOk (o : Op) : Prop :=
  (o.kind = 0 ∧ o.l = [] ∧ (1 ≤ o.n ∧ o.n ≤ 1048576) ∧ o.e = Edit.nil) ∨ ((o.kind = 1 ∨ o.kind = 2) ∧ o.n = 0 ∧ o.l ≠ [] ∧ o.e = Edit.nil) ∨ (o.kind = 3 ∧ o.n = 0 ∧ o.l = [])
end Go.AM

namespace Go.AM.Ytlahjnelghpmeaa
open Go.AM Go.Proofs
abbrev TrG24 (p : Prop) : Prop := p → p
noncomputable section
def args77 : ArgL (List Tree × List Tree × Unit) := (.cons (aSl .tree) (.cons (aSl .tree) .nil))
def pre77 (a : List Tree × List Tree × Unit) : Prop := massK a.1 ≤ 1000000
noncomputable def res77 (a : List Tree × List Tree × Unit) : V U := .c (.bool (eqX a.1 a.2.1))
noncomputable def spec77 : Fs U := fs args77 (fun a => [pre77 a]) res77
def args39 : ArgL (Edit × Edit × Unit) := (.cons (aEl .edit) (.cons (aEl .edit) .nil))
def pre39 (a : Edit × Edit × Unit) : Prop := massE a.1 ≤ 1000000
def mu39 (a : Edit × Edit × Unit) : Nat := massE a.1
noncomputable def res39 (a : Edit × Edit × Unit) : V U := .c (.bool (eqX a.1 a.2.1))
noncomputable def spec39 : Fs U := fs args39 (fun a => [pre39 a]) res39
noncomputable def know77 : List (FuncId × Fs U) := [(33, spec33)]
def lv77 : Lives U := fun i => match i with
  | 0 => ([(0, []), (1, [])], [])
  | 1 => ([(0, []), (1, []), (10, [])], [])
  | 2 => ([(4, [])], [])
  | 3 => ([(0, []), (1, []), (5, [])], [])
  | 4 => ([(0, []), (1, []), (5, []), (14, [])], [])
  | 5 => ([(0, []), (1, []), (5, [])], [])
  | 6 => ([(0, []), (1, []), (5, []), (26, [])], [])
  | 7 => ([(4, [])], [])
  | 8 => ([(4, [])], [])
  | _ => ([], [])
def head77_0 (a : List Tree) (b : List Tree) (x5 : Int) : LSt U := (⟨[(0, .c (.slice (U := U) .tree a .unk)), (1, .c (.slice (U := U) .tree b .unk)), (5, .c (.int .i64 x5))], [], []⟩ : LSt U)
abbrev W77 (a : List Tree) (b : List Tree) (Q : AExit → LSt U → Prop) := awp cfg (know know77) (drawOk cfg (know know77)) Try.f77.ntmps lv77 (cd Try.f77 []) (⟨[(0, .c (.slice (U := U) .tree a .unk)), (1, .c (.slice (U := U) .tree b .unk))], [], []⟩ : LSt U) Q
abbrev a77_G24 := awp cfg (know know77) (drawOk cfg (know know77)) Try.f77.ntmps lv77
abbrev s77_G24 := seqK cfg (know know77) (drawOk cfg (know know77)) Try.f77.ntmps lv77
theorem vc77 (a : List Tree) (b : List Tree) (Q : AExit → LSt U → Prop) (h : ((((a.length : Int) : Int) != (b.length : Int)) = true → Q .ret (⟨[(4, .c (.bool false))], [], []⟩ : LSt U)) ∧ ((((a.length : Int) : Int) != (b.length : Int)) = false → LoopWp (awp cfg (know know77) (drawOk cfg (know know77)) Try.f77.ntmps lv77 (cd Try.f77 [1, 1, 0, 1, 0, 0])) (head77_0 a b 0) (AExit.inBlock 0 (seqK cfg (know know77) (drawOk cfg (know know77)) Try.f77.ntmps lv77 (cd Try.f77 [1, 1, 1]) Q)))) :
    W77 a b Q := by
  have e_ : (W77 a b Q) = ((((((a.length : Int) != (b.length : Int)) = true → (Q .ret (⟨[(4, .c (.bool false))], [], []⟩ : LSt U))) ∧ (((a.length : Int) != (b.length : Int)) = false → (LoopWp (a77_G24 (cd Try.f77 [1, 1, 0, 1, 0, 0])) (head77_0 a b 0) (AExit.inBlock 0 (s77_G24 (cd Try.f77 [1, 1, 1]) Q))))))) := by kernel_rfl
  exact e_.mpr ⟨fun c_19 => (h.1 c_19), fun c_19 => (h.2 c_19)⟩
abbrev W77_l0 (a : List Tree) (b : List Tree) (x5 : Int) (N0 : LSt U → Prop) (Q : AExit → LSt U → Prop) := awp cfg (know know77) (drawOk cfg (know know77)) Try.f77.ntmps lv77 (cd Try.f77 [1, 1, 0, 1, 0, 0]) (head77_0 a b x5) (AExit.then N0 (AExit.inBlock 0 (seqK cfg (know know77) (drawOk cfg (know know77)) Try.f77.ntmps lv77 (cd Try.f77 [1, 1, 1]) Q)))
theorem vc77_l0 (a : List Tree) (b : List Tree) (x5 : Int) (N0 : LSt U → Prop) (Q : AExit → LSt U → Prop) (h : ((decide ((x5 : Int) < (a.length : Int))) = true → ((0 : Int) ≤ x5 ∧ x5 < (a.length : Int)) ∧ ((0 : Int) ≤ x5 ∧ x5 < (b.length : Int)) ∧ (pre33 ((Tree.mk (Tree.kind (List.getD a (Int.toNat x5) Tree.nil)) (Tree.words (List.getD a (Int.toNat x5) Tree.nil)) (Tree.kids (List.getD a (Int.toNat x5) Tree.nil))), (Tree.mk (Tree.kind (List.getD b (Int.toNat x5) Tree.nil)) (Tree.words (List.getD b (Int.toNat x5) Tree.nil)) (Tree.kids (List.getD b (Int.toNat x5) Tree.nil))), ())) ∧ (((!(sameT (Tree.mk (Tree.kind (List.getD a (Int.toNat x5) Tree.nil)) (Tree.words (List.getD a (Int.toNat x5) Tree.nil)) (Tree.kids (List.getD a (Int.toNat x5) Tree.nil))) (Tree.mk (Tree.kind (List.getD b (Int.toNat x5) Tree.nil)) (Tree.words (List.getD b (Int.toNat x5) Tree.nil)) (Tree.kids (List.getD b (Int.toNat x5) Tree.nil))))) = true → Q .ret (⟨[(4, .c (.bool false))], [], []⟩ : LSt U)) ∧ ((!(sameT (Tree.mk (Tree.kind (List.getD a (Int.toNat x5) Tree.nil)) (Tree.words (List.getD a (Int.toNat x5) Tree.nil)) (Tree.kids (List.getD a (Int.toNat x5) Tree.nil))) (Tree.mk (Tree.kind (List.getD b (Int.toNat x5) Tree.nil)) (Tree.words (List.getD b (Int.toNat x5) Tree.nil)) (Tree.kids (List.getD b (Int.toNat x5) Tree.nil))))) = false → (InR ((x5 : Int) + 1)) ∧ (N0 (head77_0 a b ((x5 : Int) + 1)))))) ∧ ((decide ((x5 : Int) < (a.length : Int))) = false → Q .ret (⟨[(4, .c (.bool true))], [], []⟩ : LSt U))) :
    W77_l0 a b x5 N0 Q := by
  have e_ : (W77_l0 a b x5 N0 Q) = (let zz0 := (!(sameT (Tree.mk (Tree.kind (List.getD a (Int.toNat x5) Tree.nil)) (Tree.words (List.getD a (Int.toNat x5) Tree.nil)) (Tree.kids (List.getD a (Int.toNat x5) Tree.nil))) (Tree.mk (Tree.kind (List.getD b (Int.toNat x5) Tree.nil)) (Tree.words (List.getD b (Int.toNat x5) Tree.nil)) (Tree.kids (List.getD b (Int.toNat x5) Tree.nil))))); (((decide ((x5 : Int) < (a.length : Int))) = true → ((0 : Int) ≤ x5 ∧ x5 < (a.length : Int)) ∧ ((0 : Int) ≤ x5 ∧ x5 < (b.length : Int)) ∧ (pre33 ((Tree.mk (Tree.kind (List.getD a (Int.toNat x5) Tree.nil)) (Tree.words (List.getD a (Int.toNat x5) Tree.nil)) (Tree.kids (List.getD a (Int.toNat x5) Tree.nil))), (Tree.mk (Tree.kind (List.getD b (Int.toNat x5) Tree.nil)) (Tree.words (List.getD b (Int.toNat x5) Tree.nil)) (Tree.kids (List.getD b (Int.toNat x5) Tree.nil))), ())) ∧ ((zz0 = true → (Q .ret (⟨[(4, .c (.bool false))], [], []⟩ : LSt U))) ∧ (zz0 = false → (InR ((x5 : Int) + 1)) ∧ (N0 (head77_0 a b ((x5 : Int) + 1)))))) ∧ ((decide ((x5 : Int) < (a.length : Int))) = false → (Q .ret (⟨[(4, .c (.bool true))], [], []⟩ : LSt U))))) := by kernel_rfl
  exact e_.mpr ⟨fun c_20 => ⟨(h.1 c_20).1, (h.1 c_20).2.1, (h.1 c_20).2.2.1, ⟨fun c_21 => ((h.1 c_20).2.2.2.1 c_21), fun c_21 => ⟨((h.1 c_20).2.2.2.2 c_21).1, ((h.1 c_20).2.2.2.2 c_21).2⟩⟩⟩, fun c_20 => (h.2 c_20)⟩
def Body77 (a : List Tree) (b : List Tree)  : Prop := awp cfg (know (know77)) (drawOk cfg (know (know77))) Try.f77.ntmps lv77 (cd Try.f77 []) (entry (args77.can (a, b, ())) []) (EndsQ cfg Try.f77.ntmps Try.f77.results.toList (res77 (a, b, ())) [])
theorem make77 (c33 : Contract Try.prog cfg 33 spec33) (hb : ∀ (a : List Tree) (b : List Tree) (_ : Unit), pre77 (a, b, ()) → Body77 a b) : Contract Try.prog cfg 77 spec77 :=
  contract_flat (l := [(33, spec33)]) cfgOk rfl (⟨c33, trivial⟩) lv77 Try.func77 rfl rfl 2 (fun _ => rfl) (by decide) (fun ⟨a, b, _⟩ => hb a b ())
noncomputable def know39 (N : Nat) : List (FuncId × Fs U) := (39, fs args39 (fun a => [pre39 a, mu39 a < N]) res39) :: [(33, spec33), (77, spec77)]
def lv39 : Lives U := fun i => match i with
  | 0 => ([(2, []), (3, [])], [((.loc 2), []), ((.loc 3), [])])
  | 1 => ([(2, []), (3, []), (64, [])], [((.loc 2), []), ((.loc 3), [])])
  | 2 => ([(4, [])], [])
  | 3 => ([(2, []), (3, []), (5, [])], [((.loc 2), []), ((.loc 3), [])])
  | 4 => ([(2, []), (3, []), (5, []), (69, [])], [((.loc 2), []), ((.loc 3), [])])
  | 5 => ([(2, []), (3, []), (5, [])], [((.loc 2), []), ((.loc 3), [])])
  | 6 => ([(2, []), (3, []), (5, []), (82, [])], [((.loc 2), []), ((.loc 3), [])])
  | 7 => ([(4, [])], [])
  | 8 => ([(2, []), (3, []), (6, [])], [((.loc 2), []), ((.loc 3), [])])
  | 9 => ([(2, []), (3, []), (6, []), (87, [])], [((.loc 2), []), ((.loc 3), [])])
  | 10 => ([(2, []), (3, []), (6, [])], [((.loc 2), []), ((.loc 3), [])])
  | 11 => ([(2, []), (3, []), (6, []), (118, [])], [((.loc 2), []), ((.loc 3), [])])
  | 12 => ([(4, [])], [])
  | 13 => ([(2, []), (3, []), (7, [])], [((.loc 2), []), ((.loc 3), [])])
  | 14 => ([(2, []), (3, []), (7, []), (123, [])], [((.loc 2), []), ((.loc 3), [])])
  | 15 => ([(2, []), (3, []), (7, [])], [((.loc 2), []), ((.loc 3), [])])
  | 16 => ([(2, []), (3, []), (7, []), (8, []), (9, [])], [((.loc 2), []), ((.loc 3), []), ((.loc 8), []), ((.loc 9), [])])
  | 17 => ([(2, []), (3, []), (7, []), (163, [])], [((.loc 2), []), ((.loc 3), [])])
  | 18 => ([(4, [])], [])
  | 19 => ([(4, [])], [])
  | _ => ([], [])
def head39_0 (a : Edit) (b : Edit) (x5 : Int) : LSt U := (⟨[(2, .ptr (.loc 2) 0), (3, .ptr (.loc 3) 0), (5, .c (.int .i64 x5))], [((.loc 2), [.int .i64 (Edit.kind a), .int .i64 (Tree.kind (Edit.old a)), .slice (U := U) .u64 (Tree.words (Edit.old a)) .unk, .slice (U := U) .tree (Tree.kids (Edit.old a)) .unk, .int .i64 (Tree.kind (Edit.new a)), .slice (U := U) .u64 (Tree.words (Edit.new a)) .unk, .slice (U := U) .tree (Tree.kids (Edit.new a)) .unk, .slice (U := U) .wedit (Edit.words a) .unk, .slice (U := U) .kid (Edit.kids a) .unk, .int .i64 (Edit.list a), .slice (U := U) .op (Edit.ops a) .unk]), ((.loc 3), [.int .i64 (Edit.kind b), .int .i64 (Tree.kind (Edit.old b)), .slice (U := U) .u64 (Tree.words (Edit.old b)) .unk, .slice (U := U) .tree (Tree.kids (Edit.old b)) .unk, .int .i64 (Tree.kind (Edit.new b)), .slice (U := U) .u64 (Tree.words (Edit.new b)) .unk, .slice (U := U) .tree (Tree.kids (Edit.new b)) .unk, .slice (U := U) .wedit (Edit.words b) .unk, .slice (U := U) .kid (Edit.kids b) .unk, .int .i64 (Edit.list b), .slice (U := U) .op (Edit.ops b) .unk])], []⟩ : LSt U)
def head39_1 (a : Edit) (b : Edit) (x6_a : Int) : LSt U := (⟨[(2, .ptr (.loc 2) 0), (3, .ptr (.loc 3) 0), (6, .c (.int .i64 x6_a))], [((.loc 2), [.int .i64 (Edit.kind a), .int .i64 (Tree.kind (Edit.old a)), .slice (U := U) .u64 (Tree.words (Edit.old a)) .unk, .slice (U := U) .tree (Tree.kids (Edit.old a)) .unk, .int .i64 (Tree.kind (Edit.new a)), .slice (U := U) .u64 (Tree.words (Edit.new a)) .unk, .slice (U := U) .tree (Tree.kids (Edit.new a)) .unk, .slice (U := U) .wedit (Edit.words a) .unk, .slice (U := U) .kid (Edit.kids a) .unk, .int .i64 (Edit.list a), .slice (U := U) .op (Edit.ops a) .unk]), ((.loc 3), [.int .i64 (Edit.kind b), .int .i64 (Tree.kind (Edit.old b)), .slice (U := U) .u64 (Tree.words (Edit.old b)) .unk, .slice (U := U) .tree (Tree.kids (Edit.old b)) .unk, .int .i64 (Tree.kind (Edit.new b)), .slice (U := U) .u64 (Tree.words (Edit.new b)) .unk, .slice (U := U) .tree (Tree.kids (Edit.new b)) .unk, .slice (U := U) .wedit (Edit.words b) .unk, .slice (U := U) .kid (Edit.kids b) .unk, .int .i64 (Edit.list b), .slice (U := U) .op (Edit.ops b) .unk])], []⟩ : LSt U)
def head39_2 (a : Edit) (b : Edit) (x7_b : Int) : LSt U := (⟨[(2, .ptr (.loc 2) 0), (3, .ptr (.loc 3) 0), (7, .c (.int .i64 x7_b))], [((.loc 2), [.int .i64 (Edit.kind a), .int .i64 (Tree.kind (Edit.old a)), .slice (U := U) .u64 (Tree.words (Edit.old a)) .unk, .slice (U := U) .tree (Tree.kids (Edit.old a)) .unk, .int .i64 (Tree.kind (Edit.new a)), .slice (U := U) .u64 (Tree.words (Edit.new a)) .unk, .slice (U := U) .tree (Tree.kids (Edit.new a)) .unk, .slice (U := U) .wedit (Edit.words a) .unk, .slice (U := U) .kid (Edit.kids a) .unk, .int .i64 (Edit.list a), .slice (U := U) .op (Edit.ops a) .unk]), ((.loc 3), [.int .i64 (Edit.kind b), .int .i64 (Tree.kind (Edit.old b)), .slice (U := U) .u64 (Tree.words (Edit.old b)) .unk, .slice (U := U) .tree (Tree.kids (Edit.old b)) .unk, .int .i64 (Tree.kind (Edit.new b)), .slice (U := U) .u64 (Tree.words (Edit.new b)) .unk, .slice (U := U) .tree (Tree.kids (Edit.new b)) .unk, .slice (U := U) .wedit (Edit.words b) .unk, .slice (U := U) .kid (Edit.kids b) .unk, .int .i64 (Edit.list b), .slice (U := U) .op (Edit.ops b) .unk])], []⟩ : LSt U)
abbrev W39 (N : Nat) (a : Edit) (b : Edit) (Q : AExit → LSt U → Prop) := awp cfg (know (know39 N)) (drawOk cfg (know (know39 N))) Try.f39.ntmps lv39 (cd Try.f39 []) (⟨[(0, .agg [.int .i64 (Edit.kind a), .int .i64 (Tree.kind (Edit.old a)), .slice (U := U) .u64 (Tree.words (Edit.old a)) .unk, .slice (U := U) .tree (Tree.kids (Edit.old a)) .unk, .int .i64 (Tree.kind (Edit.new a)), .slice (U := U) .u64 (Tree.words (Edit.new a)) .unk, .slice (U := U) .tree (Tree.kids (Edit.new a)) .unk, .slice (U := U) .wedit (Edit.words a) .unk, .slice (U := U) .kid (Edit.kids a) .unk, .int .i64 (Edit.list a), .slice (U := U) .op (Edit.ops a) .unk]), (1, .agg [.int .i64 (Edit.kind b), .int .i64 (Tree.kind (Edit.old b)), .slice (U := U) .u64 (Tree.words (Edit.old b)) .unk, .slice (U := U) .tree (Tree.kids (Edit.old b)) .unk, .int .i64 (Tree.kind (Edit.new b)), .slice (U := U) .u64 (Tree.words (Edit.new b)) .unk, .slice (U := U) .tree (Tree.kids (Edit.new b)) .unk, .slice (U := U) .wedit (Edit.words b) .unk, .slice (U := U) .kid (Edit.kids b) .unk, .int .i64 (Edit.list b), .slice (U := U) .op (Edit.ops b) .unk])], [], []⟩ : LSt U) Q
abbrev a39_G24 (N : Nat) := awp cfg (know (know39 N)) (drawOk cfg (know (know39 N))) Try.f39.ntmps lv39
abbrev s39_G24 (N : Nat) := seqK cfg (know (know39 N)) (drawOk cfg (know (know39 N))) Try.f39.ntmps lv39
theorem vc39 (N : Nat) (a : Edit) (b : Edit) (Q : AExit → LSt U → Prop) (h : ∀ y_1, y_1 = ((Edit.new a)) → ∀ y_2, y_2 = ((Edit.new b)) → ∀ y_3, y_3 = ((Edit.old a)) → ∀ y_4, y_4 = ((Edit.old b)) → ((!(bif (((Edit.kind a) : Int) != (Edit.kind b)) then true else (((Edit.list a) : Int) != (Edit.list b)))) = true → pre33 (y_3, y_4, ())) ∧ ((!(bif (bif (((Edit.kind a) : Int) != (Edit.kind b)) then true else (((Edit.list a) : Int) != (Edit.list b))) then true else (!(sameT y_3 y_4)))) = true → pre33 (y_1, y_2, ())) ∧ (((bif (bif (bif (bif (bif (bif (((Edit.kind a) : Int) != (Edit.kind b)) then true else (((Edit.list a) : Int) != (Edit.list b))) then true else (!(sameT y_3 y_4))) then true else (!(sameT y_1 y_2))) then true else ((((Edit.words a).length : Int) : Int) != ((Edit.words b).length : Int))) then true else ((((Edit.kids a).length : Int) : Int) != ((Edit.kids b).length : Int))) then true else ((((Edit.ops a).length : Int) : Int) != ((Edit.ops b).length : Int))) = true → Q .ret (⟨[(4, .c (.bool false))], [], []⟩ : LSt U)) ∧ ((bif (bif (bif (bif (bif (bif (((Edit.kind a) : Int) != (Edit.kind b)) then true else (((Edit.list a) : Int) != (Edit.list b))) then true else (!(sameT y_3 y_4))) then true else (!(sameT y_1 y_2))) then true else ((((Edit.words a).length : Int) : Int) != ((Edit.words b).length : Int))) then true else ((((Edit.kids a).length : Int) : Int) != ((Edit.kids b).length : Int))) then true else ((((Edit.ops a).length : Int) : Int) != ((Edit.ops b).length : Int))) = false → LoopWp (awp cfg (know (know39 N)) (drawOk cfg (know (know39 N))) Try.f39.ntmps lv39 (cd Try.f39 [1, 1, 0, 1, 0, 0])) (head39_0 a b 0) (AExit.inBlock 0 (seqK cfg (know (know39 N)) (drawOk cfg (know (know39 N))) Try.f39.ntmps lv39 (cd Try.f39 [1, 1, 1]) Q))))) :
    W39 N a b Q := by
  have e_ : (W39 N a b Q) = (let y_1 := (reTree (Edit.new a)); let y_2 := (reTree (Edit.new b)); let y_3 := (reTree (Edit.old a)); let y_4 := (reTree (Edit.old b)); let zz4 := (((Edit.ops a).length : Int) != ((Edit.ops b).length : Int)); let zz3 := ((Edit.kind a) != (Edit.kind b)); let zz2 := (((Edit.kids a).length : Int) != ((Edit.kids b).length : Int)); let zz1 := (bif zz3 then true else ((Edit.list a) != (Edit.list b))); let zz0 := (bif (bif (bif zz1 then true else (!(sameT y_3 y_4))) then true else (!(sameT y_1 y_2))) then true else (((Edit.words a).length : Int) != ((Edit.words b).length : Int))); ((TrG24 ((!zz3) = true)) ∧ (TrG24 ((!zz3) = true)) ∧ (TrG24 ((!zz3) = true)) ∧ (TrG24 ((!zz3) = true)) ∧ ((zz3 = false → (!zz3) = true)) ∧ (TrG24 ((!zz1) = true)) ∧ (TrG24 ((!zz1) = true)) ∧ (TrG24 ((!zz1) = true)) ∧ (TrG24 ((!zz1) = true)) ∧ ((!zz1) = true → pre33 (y_3, y_4, ())) ∧ (TrG24 ((!zz1) = true)) ∧ ((zz1 = false → (!zz1) = true)) ∧ (TrG24 ((!(bif zz1 then true else (!(sameT y_3 y_4)))) = true)) ∧ (TrG24 ((!(bif zz1 then true else (!(sameT y_3 y_4)))) = true)) ∧ (TrG24 ((!(bif zz1 then true else (!(sameT y_3 y_4)))) = true)) ∧ (TrG24 ((!(bif zz1 then true else (!(sameT y_3 y_4)))) = true)) ∧ ((!(bif zz1 then true else (!(sameT y_3 y_4)))) = true → pre33 (y_1, y_2, ())) ∧ (TrG24 ((!(bif zz1 then true else (!(sameT y_3 y_4)))) = true)) ∧ (((bif zz1 then true else (!(sameT y_3 y_4))) = false → (!(bif zz1 then true else (!(sameT y_3 y_4)))) = true)) ∧ (TrG24 ((!(bif (bif zz1 then true else (!(sameT y_3 y_4))) then true else (!(sameT y_1 y_2)))) = true)) ∧ (TrG24 ((!(bif (bif zz1 then true else (!(sameT y_3 y_4))) then true else (!(sameT y_1 y_2)))) = true)) ∧ (TrG24 ((!(bif (bif zz1 then true else (!(sameT y_3 y_4))) then true else (!(sameT y_1 y_2)))) = true)) ∧ (TrG24 ((!(bif (bif zz1 then true else (!(sameT y_3 y_4))) then true else (!(sameT y_1 y_2)))) = true)) ∧ (TrG24 ((!(bif (bif zz1 then true else (!(sameT y_3 y_4))) then true else (!(sameT y_1 y_2)))) = true)) ∧ (TrG24 ((!(bif (bif zz1 then true else (!(sameT y_3 y_4))) then true else (!(sameT y_1 y_2)))) = true)) ∧ (((bif (bif zz1 then true else (!(sameT y_3 y_4))) then true else (!(sameT y_1 y_2))) = false → (!(bif (bif zz1 then true else (!(sameT y_3 y_4))) then true else (!(sameT y_1 y_2)))) = true)) ∧ (TrG24 ((!zz0) = true)) ∧ (TrG24 ((!zz0) = true)) ∧ (TrG24 ((!zz0) = true)) ∧ (TrG24 ((!zz0) = true)) ∧ (TrG24 ((!zz0) = true)) ∧ (TrG24 ((!zz0) = true)) ∧ ((zz0 = false → (!zz0) = true)) ∧ (TrG24 ((!(bif zz0 then true else zz2)) = true)) ∧ (TrG24 ((!(bif zz0 then true else zz2)) = true)) ∧ (TrG24 ((!(bif zz0 then true else zz2)) = true)) ∧ (TrG24 ((!(bif zz0 then true else zz2)) = true)) ∧ (TrG24 ((!(bif zz0 then true else zz2)) = true)) ∧ (TrG24 ((!(bif zz0 then true else zz2)) = true)) ∧ (((bif zz0 then true else zz2) = false → (!(bif zz0 then true else zz2)) = true)) ∧ (((bif (bif zz0 then true else zz2) then true else zz4) = true → (Q .ret (⟨[(4, .c (.bool false))], [], []⟩ : LSt U))) ∧ ((bif (bif zz0 then true else zz2) then true else zz4) = false → (LoopWp (a39_G24 N (cd Try.f39 [1, 1, 0, 1, 0, 0])) (head39_0 a b 0) (AExit.inBlock 0 (s39_G24 N (cd Try.f39 [1, 1, 1]) Q))))))) := by kernel_rfl
  exact e_.mpr (by intro y_1 y_2 y_3 y_4; have hh := h y_1 (reTree_eq _) y_2 (reTree_eq _) y_3 (reTree_eq _) y_4 (reTree_eq _); exact ⟨id, id, id, id, (by generalize (((Edit.kind a) : Int) != (Edit.kind b)) = b0; revert b0; decide), id, id, id, id, hh.1, id, (by generalize (((Edit.list a) : Int) != (Edit.list b)) = b0; generalize (((Edit.kind a) : Int) != (Edit.kind b)) = b1; revert b0 b1; decide), id, id, id, id, hh.2.1, id, (by generalize (sameT y_3 y_4) = b0; generalize (((Edit.list a) : Int) != (Edit.list b)) = b1; generalize (((Edit.kind a) : Int) != (Edit.kind b)) = b2; revert b0 b1 b2; decide), id, id, id, id, id, id, (by generalize (sameT y_1 y_2) = b0; generalize (sameT y_3 y_4) = b1; generalize (((Edit.list a) : Int) != (Edit.list b)) = b2; generalize (((Edit.kind a) : Int) != (Edit.kind b)) = b3; revert b0 b1 b2 b3; decide), id, id, id, id, id, id, (by generalize (sameT y_3 y_4) = b0; generalize (sameT y_1 y_2) = b1; generalize ((((Edit.words a).length : Int) : Int) != ((Edit.words b).length : Int)) = b2; generalize (((Edit.list a) : Int) != (Edit.list b)) = b3; generalize (((Edit.kind a) : Int) != (Edit.kind b)) = b4; revert b0 b1 b2 b3 b4; decide), id, id, id, id, id, id, (by generalize (sameT y_3 y_4) = b0; generalize (sameT y_1 y_2) = b1; generalize ((((Edit.words a).length : Int) : Int) != ((Edit.words b).length : Int)) = b2; generalize ((((Edit.kids a).length : Int) : Int) != ((Edit.kids b).length : Int)) = b3; generalize (((Edit.list a) : Int) != (Edit.list b)) = b4; generalize (((Edit.kind a) : Int) != (Edit.kind b)) = b5; revert b0 b1 b2 b3 b4 b5; decide), ⟨fun c_22 => (hh.2.2.1 c_22), fun c_22 => (hh.2.2.2 c_22)⟩⟩)
abbrev W39_l0 (N : Nat) (a : Edit) (b : Edit) (x5 : Int) (N0 : LSt U → Prop) (Q : AExit → LSt U → Prop) := awp cfg (know (know39 N)) (drawOk cfg (know (know39 N))) Try.f39.ntmps lv39 (cd Try.f39 [1, 1, 0, 1, 0, 0]) (head39_0 a b x5) (AExit.then N0 (AExit.inBlock 0 (seqK cfg (know (know39 N)) (drawOk cfg (know (know39 N))) Try.f39.ntmps lv39 (cd Try.f39 [1, 1, 1]) Q)))
theorem vc39_l0 (N : Nat) (a : Edit) (b : Edit) (x5 : Int) (N0 : LSt U → Prop) (Q : AExit → LSt U → Prop) (h : ((decide ((x5 : Int) < ((Edit.words a).length : Int))) = true → ((0 : Int) ≤ x5 ∧ x5 < ((Edit.words a).length : Int)) ∧ ((0 : Int) ≤ x5 ∧ x5 < ((Edit.words b).length : Int)) ∧ (((!((((WEdit.at_ (List.getD (Edit.words a) (Int.toNat x5) (WEdit.mk 0 0 0 0))) : Int) == (WEdit.at_ (List.getD (Edit.words b) (Int.toNat x5) (WEdit.mk 0 0 0 0)))) && ((((WEdit.mask (List.getD (Edit.words a) (Int.toNat x5) (WEdit.mk 0 0 0 0))) : Int) == (WEdit.mask (List.getD (Edit.words b) (Int.toNat x5) (WEdit.mk 0 0 0 0)))) && ((((WEdit.old (List.getD (Edit.words a) (Int.toNat x5) (WEdit.mk 0 0 0 0))) : Int) == (WEdit.old (List.getD (Edit.words b) (Int.toNat x5) (WEdit.mk 0 0 0 0)))) && ((((WEdit.new (List.getD (Edit.words a) (Int.toNat x5) (WEdit.mk 0 0 0 0))) : Int) == (WEdit.new (List.getD (Edit.words b) (Int.toNat x5) (WEdit.mk 0 0 0 0)))) && true))))) = true → Q .ret (⟨[(4, .c (.bool false))], [], []⟩ : LSt U)) ∧ ((!((((WEdit.at_ (List.getD (Edit.words a) (Int.toNat x5) (WEdit.mk 0 0 0 0))) : Int) == (WEdit.at_ (List.getD (Edit.words b) (Int.toNat x5) (WEdit.mk 0 0 0 0)))) && ((((WEdit.mask (List.getD (Edit.words a) (Int.toNat x5) (WEdit.mk 0 0 0 0))) : Int) == (WEdit.mask (List.getD (Edit.words b) (Int.toNat x5) (WEdit.mk 0 0 0 0)))) && ((((WEdit.old (List.getD (Edit.words a) (Int.toNat x5) (WEdit.mk 0 0 0 0))) : Int) == (WEdit.old (List.getD (Edit.words b) (Int.toNat x5) (WEdit.mk 0 0 0 0)))) && ((((WEdit.new (List.getD (Edit.words a) (Int.toNat x5) (WEdit.mk 0 0 0 0))) : Int) == (WEdit.new (List.getD (Edit.words b) (Int.toNat x5) (WEdit.mk 0 0 0 0)))) && true))))) = false → (InR ((x5 : Int) + 1)) ∧ (N0 (head39_0 a b ((x5 : Int) + 1)))))) ∧ ((decide ((x5 : Int) < ((Edit.words a).length : Int))) = false → LoopWp (awp cfg (know (know39 N)) (drawOk cfg (know (know39 N))) Try.f39.ntmps lv39 (cd Try.f39 [1, 1, 1, 0, 1, 0, 0])) (head39_1 a b 0) (AExit.inBlock 2 (seqK cfg (know (know39 N)) (drawOk cfg (know (know39 N))) Try.f39.ntmps lv39 (cd Try.f39 [1, 1, 1, 1]) Q)))) :
    W39_l0 N a b x5 N0 Q := by
  have e_ : (W39_l0 N a b x5 N0 Q) = (let zz0 := (!((((WEdit.at_ (List.getD (Edit.words a) (Int.toNat x5) (WEdit.mk 0 0 0 0))) : Int) == (WEdit.at_ (List.getD (Edit.words b) (Int.toNat x5) (WEdit.mk 0 0 0 0)))) && ((((WEdit.mask (List.getD (Edit.words a) (Int.toNat x5) (WEdit.mk 0 0 0 0))) : Int) == (WEdit.mask (List.getD (Edit.words b) (Int.toNat x5) (WEdit.mk 0 0 0 0)))) && ((((WEdit.old (List.getD (Edit.words a) (Int.toNat x5) (WEdit.mk 0 0 0 0))) : Int) == (WEdit.old (List.getD (Edit.words b) (Int.toNat x5) (WEdit.mk 0 0 0 0)))) && ((((WEdit.new (List.getD (Edit.words a) (Int.toNat x5) (WEdit.mk 0 0 0 0))) : Int) == (WEdit.new (List.getD (Edit.words b) (Int.toNat x5) (WEdit.mk 0 0 0 0)))) && true))))); (((decide ((x5 : Int) < ((Edit.words a).length : Int))) = true → ((0 : Int) ≤ x5 ∧ x5 < ((Edit.words a).length : Int)) ∧ ((0 : Int) ≤ x5 ∧ x5 < ((Edit.words b).length : Int)) ∧ ((zz0 = true → (Q .ret (⟨[(4, .c (.bool false))], [], []⟩ : LSt U))) ∧ (zz0 = false → (InR ((x5 : Int) + 1)) ∧ (N0 (head39_0 a b ((x5 : Int) + 1)))))) ∧ ((decide ((x5 : Int) < ((Edit.words a).length : Int))) = false → (LoopWp (a39_G24 N (cd Try.f39 [1, 1, 1, 0, 1, 0, 0])) (head39_1 a b 0) (AExit.inBlock 2 (s39_G24 N (cd Try.f39 [1, 1, 1, 1]) Q)))))) := by kernel_rfl
  exact e_.mpr ⟨fun c_23 => ⟨(h.1 c_23).1, (h.1 c_23).2.1, ⟨fun c_24 => ((h.1 c_23).2.2.1 c_24), fun c_24 => ⟨((h.1 c_23).2.2.2 c_24).1, ((h.1 c_23).2.2.2 c_24).2⟩⟩⟩, fun c_23 => (h.2 c_23)⟩
abbrev W39_l1 (N : Nat) (a : Edit) (b : Edit) (x6_a : Int) (N1 : LSt U → Prop) (Q : AExit → LSt U → Prop) := awp cfg (know (know39 N)) (drawOk cfg (know (know39 N))) Try.f39.ntmps lv39 (cd Try.f39 [1, 1, 1, 0, 1, 0, 0]) (head39_1 a b x6_a) (AExit.then N1 (AExit.inBlock 2 (seqK cfg (know (know39 N)) (drawOk cfg (know (know39 N))) Try.f39.ntmps lv39 (cd Try.f39 [1, 1, 1, 1]) Q)))
theorem vc39_l1 (N : Nat) (a : Edit) (b : Edit) (x6_a : Int) (N1 : LSt U → Prop) (Q : AExit → LSt U → Prop) (h : ∀ y_1, y_1 = (List.getD (Edit.kids a) (Int.toNat x6_a) (KidOf.mk 0 Edit.nil)) → ∀ y_2, y_2 = (List.getD (Edit.kids b) (Int.toNat x6_a) (KidOf.mk 0 Edit.nil)) → ∀ y_3, y_3 = ((KidOf.e y_1)) → ∀ y_4, y_4 = ((KidOf.e y_2)) → ((decide ((x6_a : Int) < ((Edit.kids a).length : Int))) = true → ((0 : Int) ≤ x6_a ∧ x6_a < ((Edit.kids a).length : Int)) ∧ ((0 : Int) ≤ x6_a ∧ x6_a < ((Edit.kids b).length : Int)) ∧ ((!(((KidOf.at_ y_1) : Int) != (KidOf.at_ y_2))) = true → (0 : Int) ≤ x6_a ∧ x6_a < ((Edit.kids a).length : Int)) ∧ ((!(((KidOf.at_ y_1) : Int) != (KidOf.at_ y_2))) = true → (0 : Int) ≤ x6_a ∧ x6_a < ((Edit.kids b).length : Int)) ∧ ((!(((KidOf.at_ y_1) : Int) != (KidOf.at_ y_2))) = true → pre39 (y_3, y_4, ())) ∧ ((!(((KidOf.at_ y_1) : Int) != (KidOf.at_ y_2))) = true → mu39 (y_3, y_4, ()) < N) ∧ (((bif (((KidOf.at_ y_1) : Int) != (KidOf.at_ y_2)) then true else (!(eqX y_3 y_4))) = true → Q .ret (⟨[(4, .c (.bool false))], [], []⟩ : LSt U)) ∧ ((bif (((KidOf.at_ y_1) : Int) != (KidOf.at_ y_2)) then true else (!(eqX y_3 y_4))) = false → (InR ((x6_a : Int) + 1)) ∧ (N1 (head39_1 a b ((x6_a : Int) + 1)))))) ∧ ((decide ((x6_a : Int) < ((Edit.kids a).length : Int))) = false → LoopWp (awp cfg (know (know39 N)) (drawOk cfg (know (know39 N))) Try.f39.ntmps lv39 (cd Try.f39 [1, 1, 1, 1, 0, 1, 0, 0])) (head39_2 a b 0) (AExit.inBlock 4 (seqK cfg (know (know39 N)) (drawOk cfg (know (know39 N))) Try.f39.ntmps lv39 (cd Try.f39 [1, 1, 1, 1, 1]) Q)))) :
    W39_l1 N a b x6_a N1 Q := by
  have e_ : (W39_l1 N a b x6_a N1 Q) = (let y_1 := (List.getD (Edit.kids a) (Int.toNat x6_a) (KidOf.mk 0 Edit.nil)); let y_2 := (List.getD (Edit.kids b) (Int.toNat x6_a) (KidOf.mk 0 Edit.nil)); let y_3 := (reEdit (KidOf.e y_1)); let y_4 := (reEdit (KidOf.e y_2)); let zz1 := (decide ((x6_a : Int) < ((Edit.kids a).length : Int))); let zz0 := ((KidOf.at_ y_1) != (KidOf.at_ y_2)); ((zz1 = true → ((0 : Int) ≤ x6_a ∧ x6_a < ((Edit.kids a).length : Int)) ∧ ((0 : Int) ≤ x6_a ∧ x6_a < ((Edit.kids b).length : Int)) ∧ (TrG24 ((!zz0) = true)) ∧ (TrG24 ((!zz0) = true)) ∧ (TrG24 ((!zz0) = true)) ∧ ((!zz0) = true → (0 : Int) ≤ x6_a ∧ x6_a < ((Edit.kids a).length : Int)) ∧ (TrG24 ((!zz0) = true)) ∧ (TrG24 ((!zz0) = true)) ∧ (TrG24 ((!zz0) = true)) ∧ (TrG24 ((!zz0) = true)) ∧ (TrG24 ((!zz0) = true)) ∧ ((!zz0) = true → (0 : Int) ≤ x6_a ∧ x6_a < ((Edit.kids b).length : Int)) ∧ (TrG24 ((!zz0) = true)) ∧ (TrG24 ((!zz0) = true)) ∧ (TrG24 ((!zz0) = true)) ∧ (TrG24 ((!zz0) = true)) ∧ ((!zz0) = true → pre39 (y_3, y_4, ())) ∧ ((!zz0) = true → mu39 (y_3, y_4, ()) < N) ∧ (TrG24 ((!zz0) = true)) ∧ ((zz0 = false → (!zz0) = true)) ∧ (((bif zz0 then true else (!(eqX y_3 y_4))) = true → (Q .ret (⟨[(4, .c (.bool false))], [], []⟩ : LSt U))) ∧ ((bif zz0 then true else (!(eqX y_3 y_4))) = false → (InR ((x6_a : Int) + 1)) ∧ (N1 (head39_1 a b ((x6_a : Int) + 1)))))) ∧ (zz1 = false → (LoopWp (a39_G24 N (cd Try.f39 [1, 1, 1, 1, 0, 1, 0, 0])) (head39_2 a b 0) (AExit.inBlock 4 (s39_G24 N (cd Try.f39 [1, 1, 1, 1, 1]) Q)))))) := by kernel_rfl
  exact e_.mpr (by intro y_1 y_2 y_3 y_4; have hh := h y_1 rfl y_2 rfl y_3 (reEdit_eq _) y_4 (reEdit_eq _); exact ⟨fun c_25 => ⟨(hh.1 c_25).1, (hh.1 c_25).2.1, id, id, id, (hh.1 c_25).2.2.1, id, id, id, id, id, (hh.1 c_25).2.2.2.1, id, id, id, id, (hh.1 c_25).2.2.2.2.1, (hh.1 c_25).2.2.2.2.2.1, id, (by generalize (((KidOf.at_ y_1) : Int) != (KidOf.at_ y_2)) = b0; revert b0; decide), ⟨fun c_26 => ((hh.1 c_25).2.2.2.2.2.2.1 c_26), fun c_26 => ⟨((hh.1 c_25).2.2.2.2.2.2.2 c_26).1, ((hh.1 c_25).2.2.2.2.2.2.2 c_26).2⟩⟩⟩, fun c_25 => (hh.2 c_25)⟩)
abbrev W39_l2 (N : Nat) (a : Edit) (b : Edit) (x7_b : Int) (N2 : LSt U → Prop) (Q : AExit → LSt U → Prop) := awp cfg (know (know39 N)) (drawOk cfg (know (know39 N))) Try.f39.ntmps lv39 (cd Try.f39 [1, 1, 1, 1, 0, 1, 0, 0]) (head39_2 a b x7_b) (AExit.then N2 (AExit.inBlock 4 (seqK cfg (know (know39 N)) (drawOk cfg (know (know39 N))) Try.f39.ntmps lv39 (cd Try.f39 [1, 1, 1, 1, 1]) Q)))
theorem vc39_l2 (N : Nat) (a : Edit) (b : Edit) (x7_b : Int) (N2 : LSt U → Prop) (Q : AExit → LSt U → Prop) (h : ∀ y_1, y_1 = (List.getD (Edit.ops a) (Int.toNat x7_b) Op.nil) → ∀ y_2, y_2 = (List.getD (Edit.ops b) (Int.toNat x7_b) Op.nil) → ∀ y_3, y_3 = ((OpOf.e y_1)) → ∀ y_4, y_4 = ((OpOf.e y_2)) → ((decide ((x7_b : Int) < ((Edit.ops a).length : Int))) = true → ((0 : Int) ≤ x7_b ∧ x7_b < ((Edit.ops a).length : Int)) ∧ ((0 : Int) ≤ x7_b ∧ x7_b < ((Edit.ops b).length : Int)) ∧ (((!(bif (((OpOf.kind y_1) : Int) != (OpOf.kind y_2)) then true else (((OpOf.n y_1) : Int) != (OpOf.n y_2)))) = true → pre77 ((OpOf.l y_1), (OpOf.l y_2), ())) ∧ ((!(bif (bif (((OpOf.kind y_1) : Int) != (OpOf.kind y_2)) then true else (((OpOf.n y_1) : Int) != (OpOf.n y_2))) then true else (!(eqX (OpOf.l y_1) (OpOf.l y_2))))) = true → pre39 (y_3, y_4, ())) ∧ ((!(bif (bif (((OpOf.kind y_1) : Int) != (OpOf.kind y_2)) then true else (((OpOf.n y_1) : Int) != (OpOf.n y_2))) then true else (!(eqX (OpOf.l y_1) (OpOf.l y_2))))) = true → mu39 (y_3, y_4, ()) < N) ∧ (((bif (bif (bif (((OpOf.kind y_1) : Int) != (OpOf.kind y_2)) then true else (((OpOf.n y_1) : Int) != (OpOf.n y_2))) then true else (!(eqX (OpOf.l y_1) (OpOf.l y_2)))) then true else (!(eqX y_3 y_4))) = true → Q .ret (⟨[(4, .c (.bool false))], [], []⟩ : LSt U)) ∧ ((bif (bif (bif (((OpOf.kind y_1) : Int) != (OpOf.kind y_2)) then true else (((OpOf.n y_1) : Int) != (OpOf.n y_2))) then true else (!(eqX (OpOf.l y_1) (OpOf.l y_2)))) then true else (!(eqX y_3 y_4))) = false → (InR ((x7_b : Int) + 1)) ∧ (N2 (head39_2 a b ((x7_b : Int) + 1))))))) ∧ ((decide ((x7_b : Int) < ((Edit.ops a).length : Int))) = false → Q .ret (⟨[(4, .c (.bool true))], [], []⟩ : LSt U))) :
    W39_l2 N a b x7_b N2 Q := by
  have e_ : (W39_l2 N a b x7_b N2 Q) = (let y_1 := (List.getD (Edit.ops a) (Int.toNat x7_b) Op.nil); let y_2 := (List.getD (Edit.ops b) (Int.toNat x7_b) Op.nil); let y_3 := (reEdit (OpOf.e y_1)); let y_4 := (reEdit (OpOf.e y_2)); let zz2 := ((OpOf.kind y_1) != (OpOf.kind y_2)); let zz1 := (!(eqX (OpOf.l y_1) (OpOf.l y_2))); let zz0 := (bif zz2 then true else ((OpOf.n y_1) != (OpOf.n y_2))); (((decide ((x7_b : Int) < ((Edit.ops a).length : Int))) = true → ((0 : Int) ≤ x7_b ∧ x7_b < ((Edit.ops a).length : Int)) ∧ ((0 : Int) ≤ x7_b ∧ x7_b < ((Edit.ops b).length : Int)) ∧ ((TrG24 ((!zz2) = true)) ∧ (TrG24 ((!zz2) = true)) ∧ (TrG24 ((!zz2) = true)) ∧ (TrG24 ((!zz2) = true)) ∧ ((zz2 = false → (!zz2) = true)) ∧ (TrG24 ((!zz0) = true)) ∧ (TrG24 ((!zz0) = true)) ∧ (TrG24 ((!zz0) = true)) ∧ (TrG24 ((!zz0) = true)) ∧ ((!zz0) = true → pre77 ((OpOf.l y_1), (OpOf.l y_2), ())) ∧ (TrG24 ((!zz0) = true)) ∧ ((zz0 = false → (!zz0) = true)) ∧ (TrG24 ((!(bif zz0 then true else zz1)) = true)) ∧ (TrG24 ((!(bif zz0 then true else zz1)) = true)) ∧ (TrG24 ((!(bif zz0 then true else zz1)) = true)) ∧ (TrG24 ((!(bif zz0 then true else zz1)) = true)) ∧ ((!(bif zz0 then true else zz1)) = true → pre39 (y_3, y_4, ())) ∧ ((!(bif zz0 then true else zz1)) = true → mu39 (y_3, y_4, ()) < N) ∧ (TrG24 ((!(bif zz0 then true else zz1)) = true)) ∧ (((bif zz0 then true else zz1) = false → (!(bif zz0 then true else zz1)) = true)) ∧ (((bif (bif zz0 then true else zz1) then true else (!(eqX y_3 y_4))) = true → (Q .ret (⟨[(4, .c (.bool false))], [], []⟩ : LSt U))) ∧ ((bif (bif zz0 then true else zz1) then true else (!(eqX y_3 y_4))) = false → (InR ((x7_b : Int) + 1)) ∧ (N2 (head39_2 a b ((x7_b : Int) + 1))))))) ∧ ((decide ((x7_b : Int) < ((Edit.ops a).length : Int))) = false → (Q .ret (⟨[(4, .c (.bool true))], [], []⟩ : LSt U))))) := by kernel_rfl
  exact e_.mpr (by intro y_1 y_2 y_3 y_4; have hh := h y_1 rfl y_2 rfl y_3 (reEdit_eq _) y_4 (reEdit_eq _); exact ⟨fun c_27 => ⟨(hh.1 c_27).1, (hh.1 c_27).2.1, ⟨id, id, id, id, (by generalize (((OpOf.kind y_1) : Int) != (OpOf.kind y_2)) = b0; revert b0; decide), id, id, id, id, (hh.1 c_27).2.2.1, id, (by generalize (((OpOf.kind y_1) : Int) != (OpOf.kind y_2)) = b0; generalize (((OpOf.n y_1) : Int) != (OpOf.n y_2)) = b1; revert b0 b1; decide), id, id, id, id, (hh.1 c_27).2.2.2.1, (hh.1 c_27).2.2.2.2.1, id, (by generalize (((OpOf.kind y_1) : Int) != (OpOf.kind y_2)) = b0; generalize (((OpOf.n y_1) : Int) != (OpOf.n y_2)) = b1; generalize (eqX (OpOf.l y_1) (OpOf.l y_2)) = b2; revert b0 b1 b2; decide), ⟨fun c_28 => ((hh.1 c_27).2.2.2.2.2.1 c_28), fun c_28 => ⟨((hh.1 c_27).2.2.2.2.2.2 c_28).1, ((hh.1 c_27).2.2.2.2.2.2 c_28).2⟩⟩⟩⟩, fun c_27 => (hh.2 c_27)⟩)
def Body39 (N : Nat) (a : Edit) (b : Edit)  : Prop := awp cfg (know (know39 N)) (drawOk cfg (know (know39 N))) Try.f39.ntmps lv39 (cd Try.f39 []) (entry (args39.can (a, b, ())) []) (EndsQ cfg Try.f39.ntmps Try.f39.results.toList (res39 (a, b, ())) [])
theorem make39 (c33 : Contract Try.prog cfg 33 spec33) (c77 : Contract Try.prog cfg 77 spec77) (hb : ∀ (N : Nat) (a : Edit) (b : Edit) (_ : Unit), pre39 (a, b, ()) → mu39 (a, b, ()) < N + 1 → Body39 N a b) : Contract Try.prog cfg 39 spec39 :=
  contract_rec (μ := mu39) (l := [(33, spec33), (77, spec77)]) cfgOk rfl (⟨c33, c77, trivial⟩) lv39 Try.func39 rfl rfl 2 (fun _ => rfl) (by decide) (fun N ⟨a, b, _⟩ => hb N a b ())
end
end Go.AM.Ytlahjnelghpmeaa

namespace Go.AM.Ytlahjnelghpmeaa
open Go.AM Go.Proofs
theorem opLen_eq (o : Op) : opLen o = if o.kind = 3 then 1 else o.n + o.l.length := rfl
theorem massOs_cons (o : Op) (r : List Op) : massOs (o :: r) = massOp o + massOs r := rfl
end Go.AM.Ytlahjnelghpmeaa

namespace Go.AM.Ytlahjnelghpmeaa
open Go.AM Go.Proofs
theorem eqX_no {α : Type} {a b : α} (h : ¬ a = b) : eqX a b = false := by rw [← Bool.not_eq_true, eqX_iff]; exact h
theorem list_eq_getD {α : Type} (d : α) {a b : List α} (hl : a.length = b.length) (h : ∀ i : Nat, i < a.length → a.getD i d = b.getD i d) : a = b := by
  apply List.ext_getElem hl
  intro i h1 h2
  have := h i h1
  simpa [List.getD_eq_getElem?_getD, List.getElem?_eq_getElem h1, List.getElem?_eq_getElem h2] using this
theorem c77 : Contract Try.prog cfg 77 spec77 := by
  refine make77 c33 ?_
  intro a b _ hp
  simp only [pre77] at hp
  refine vc77 _ _ _ ?_
  (simp only [vcS])
  refine ⟨fun hc => ends_bool rfl (eqX_no (a := a) (b := b) (fun h => hc (by rw [h]))).symm, fun hc => ?_⟩
  have hl : a.length = b.length := by omega
  have hla := massK_len a
  refine loop_rule (ι := Int) (fun i => head77_0 a b i) (fun i => 0 ≤ i ∧ i ≤ a.length ∧ ∀ j : Nat, (j : Int) < i → a.getD j Tree.nil = b.getD j Tree.nil) (fun i => ((a.length : Int) - i).toNat) 0 rfl ⟨by omega, by omega, by intro j hj; omega⟩ ?_
  rintro i ⟨h1, h2, h3⟩
  refine vc77_l0 _ _ _ _ _ ?_
  (simp only [vcS])
  (simp only [Tree.eta, Edit.eta, Tree.kind_mk, Tree.words_mk, Tree.kids_mk])
  refine ⟨fun hi => ⟨⟨h1, hi⟩, ⟨h1, by omega⟩, ?_, fun hq => ?_, fun hq => ⟨by unfold InR; omega, i + 1, rfl, ⟨by omega, by omega, ?_⟩, by omega⟩⟩, fun hi => ?_⟩
  · have := massK_mem (mem_getD (l := a) (i := i.toNat) (by omega) Tree.nil)
    simp only [pre33]; omega
  · refine ends_bool rfl (eqX_no (a := a) (b := b) (fun h => ?_)).symm
    rw [h, sameT_false] at hq
    exact hq rfl
  · intro j hj
    by_cases hj2 : (j : Int) < i
    · exact h3 j hj2
    · rw [sameT_true, show i.toNat = j by omega] at hq
      exact hq
  · refine ends_bool rfl (eqX_iff (a := a) (b := b).2 (list_eq_getD Tree.nil hl (fun j hj => h3 j (by omega)))).symm
theorem edit_ext {a b : Edit} (h1 : a.kind = b.kind) (h2 : a.old = b.old) (h3 : a.new = b.new) (h4 : a.words = b.words) (h5 : a.kids = b.kids) (h6 : a.list = b.list) (h7 : a.ops = b.ops) : a = b := by
  cases a; cases b; simp_all
theorem kid_ext {a b : Kid} (h1 : a.at_ = b.at_) (h2 : a.e = b.e) : a = b := by cases a; cases b; simp_all
theorem op_ext {a b : Op} (h1 : a.kind = b.kind) (h2 : a.n = b.n) (h3 : a.l = b.l) (h4 : a.e = b.e) : a = b := by cases a; cases b; simp_all
theorem wedit_ext {a b : WEdit} (h1 : a.at_ = b.at_) (h2 : a.mask = b.mask) (h3 : a.old = b.old) (h4 : a.new = b.new) : a = b := by cases a; cases b; simp_all
theorem c39 : Contract Try.prog cfg 39 spec39 := by
  refine make39 c33 c77 ?_
  intro N a b _ hp hN
  simp only [pre39, mu39] at hp hN
  have hme := len_massE a
  have hkl := massKs_len a.kids
  have hol := massOs_len a.ops
  have neq : ∀ {P : Prop}, (a = b → P) → ¬ P → eqX a b = false := fun h1 h2 => eqX_no (fun h => h2 (h1 h))
  refine vc39 N a b _ ?_
  rintro y1 rfl y2 rfl y3 rfl y4 rfl
  (simp only [vcS])
  refine ⟨fun _ => ?_, fun _ => ?_, fun hc => ?_, fun hc => ?_⟩
  · simp only [pre33]; omega
  · simp only [pre33]; omega
  · refine ends_bool rfl (eqX_no (a := a) (b := b) (fun h => ?_)).symm
    rw [h] at hc
    simp only [sameT_false] at hc
    simp at hc
  · simp only [sameT_true, Classical.not_not] at hc
    obtain ⟨⟨⟨⟨⟨⟨h1, h2⟩, h3⟩, h4⟩, h5⟩, h6⟩, h7⟩ := hc
    refine loop_rule (ι := Int) (fun i => head39_0 a b i) (fun i => 0 ≤ i ∧ i ≤ a.words.length ∧ ∀ j : Nat, (j : Int) < i → a.words.getD j (WEdit.mk 0 0 0 0) = b.words.getD j (WEdit.mk 0 0 0 0)) (fun i => ((a.words.length : Int) - i).toNat) 0 rfl ⟨by omega, by omega, by intro j hj; omega⟩ ?_
    rintro i ⟨g1, g2, g3⟩
    refine vc39_l0 _ _ _ _ _ _ ?_
    (simp only [vcS])
    simp only [and_true]
    refine ⟨fun hi => ⟨⟨g1, hi⟩, ⟨g1, by omega⟩, fun hq => ?_, fun hq => ⟨by unfold InR; omega, i + 1, rfl, ⟨by omega, by omega, ?_⟩, by omega⟩⟩, fun hi => ?_⟩
    · refine ends_bool rfl (eqX_no (a := a) (b := b) (fun h => ?_)).symm
      rw [h] at hq
      simp at hq
    · intro j hj
      by_cases hj2 : (j : Int) < i
      · exact g3 j hj2
      · rw [show i.toNat = j by omega] at hq
        exact wedit_ext hq.1 hq.2.1 hq.2.2.1 hq.2.2.2
    · have hw : a.words = b.words := list_eq_getD (WEdit.mk 0 0 0 0) (by omega) (fun j hj => g3 j (by omega))
      refine loop_rule (ι := Int) (fun i => head39_1 a b i) (fun i => 0 ≤ i ∧ i ≤ a.kids.length ∧ ∀ j : Nat, (j : Int) < i → a.kids.getD j (KidOf.mk 0 Edit.nil) = b.kids.getD j (KidOf.mk 0 Edit.nil)) (fun i => ((a.kids.length : Int) - i).toNat) 0 rfl ⟨by omega, by omega, by intro j hj; omega⟩ ?_
      rintro i ⟨g1, g2, g3⟩
      refine vc39_l1 _ _ _ _ _ _ ?_
      rintro y1 hy1 y2 hy2 y3 hy3 y4 hy4
      (simp only [vcS])
      refine ⟨fun hi => ⟨⟨g1, hi⟩, ⟨g1, by omega⟩, fun _ => ⟨g1, hi⟩, fun _ => ⟨g1, by omega⟩, fun _ => ?_, fun _ => ?_, fun hq => ?_, fun hq => ⟨by unfold InR; omega, i + 1, rfl, ⟨by omega, by omega, ?_⟩, by omega⟩⟩, fun hi => ?_⟩
      · have := massKs_mem (mem_getD (l := a.kids) (i := i.toNat) (by omega) (KidOf.mk 0 Edit.nil))
        rw [← hy1, ← hy3] at this
        simp only [pre39]; omega
      · have := massKs_mem (mem_getD (l := a.kids) (i := i.toNat) (by omega) (KidOf.mk 0 Edit.nil))
        rw [← hy1, ← hy3] at this
        simp only [mu39]; omega
      · refine ends_bool rfl (eqX_no (a := a) (b := b) (fun h => ?_)).symm
        rw [h] at hy1
        rw [hy3, hy4, hy1, hy2, eqX_self] at hq
        simp at hq
      · intro j hj
        by_cases hj2 : (j : Int) < i
        · exact g3 j hj2
        · rw [eqX_iff, hy3, hy4, hy1, hy2, show i.toNat = j by omega] at hq
          exact kid_ext (by simpa using hq.1) hq.2
      · have hk : a.kids = b.kids := list_eq_getD (KidOf.mk 0 Edit.nil) (by omega) (fun j hj => g3 j (by omega))
        refine loop_rule (ι := Int) (fun i => head39_2 a b i) (fun i => 0 ≤ i ∧ i ≤ a.ops.length ∧ ∀ j : Nat, (j : Int) < i → a.ops.getD j Op.nil = b.ops.getD j Op.nil) (fun i => ((a.ops.length : Int) - i).toNat) 0 rfl ⟨by omega, by omega, by intro j hj; omega⟩ ?_
        rintro i ⟨g1, g2, g3⟩
        refine vc39_l2 _ _ _ _ _ _ ?_
        rintro y1 hy1 y2 hy2 y3 hy3 y4 hy4
        (simp only [vcS])
        refine ⟨fun hi => ⟨⟨g1, hi⟩, ⟨g1, by omega⟩, fun _ => ?_, fun _ => ?_, fun _ => ?_, fun hq => ?_, fun hq => ⟨by unfold InR; omega, i + 1, rfl, ⟨by omega, by omega, ?_⟩, by omega⟩⟩, fun hi => ?_⟩
        · have := massOs_mem (mem_getD (l := a.ops) (i := i.toNat) (by omega) Op.nil)
          rw [← hy1, massOp_e] at this
          simp only [pre77]; omega
        · have := massOs_mem (mem_getD (l := a.ops) (i := i.toNat) (by omega) Op.nil)
          rw [← hy1, massOp_e, ← hy3] at this
          simp only [pre39]; omega
        · have := massOs_mem (mem_getD (l := a.ops) (i := i.toNat) (by omega) Op.nil)
          rw [← hy1, massOp_e, ← hy3] at this
          simp only [mu39]; omega
        · refine ends_bool rfl (eqX_no (a := a) (b := b) (fun h => ?_)).symm
          rw [h] at hy1
          rw [hy3, hy4, hy1, hy2, eqX_self, eqX_self] at hq
          simp at hq
        · intro j hj
          by_cases hj2 : (j : Int) < i
          · exact g3 j hj2
          · rw [eqX_iff, eqX_iff, hy3, hy4, hy1, hy2, show i.toNat = j by omega] at hq
            obtain ⟨⟨⟨q1, q2⟩, q3⟩, q4⟩ := hq
            exact op_ext (by simpa using q1) (by simpa using q2) q3 q4
        · have ho : a.ops = b.ops := list_eq_getD Op.nil (by omega) (fun j hj => g3 j (by omega))
          exact ends_bool rfl (eqX_iff (a := a) (b := b).2 (edit_ext h1 h3 h4 hw hk h2 ho)).symm
end Go.AM.Ytlahjnelghpmeaa

namespace Go.AM.Ytlahjnelghpmeaa
open Go.AM Go.Proofs
theorem noneT_eq {t : Tree} (h : noneT t = true) : t = Tree.nil := by
  obtain ⟨k, w, ks⟩ := t
  have := of_decide_eq_true h
  simp at this
  obtain ⟨rfl, rfl, rfl⟩ := this
  rfl
theorem sameE_nil {e : Edit} (h : sameE e = true) : e = Edit.nil := by
  obtain ⟨h1, h2, h3, h4, h5, h6, h7⟩ := sameE_eq h
  obtain ⟨k, o, n, w, ks, l, os⟩ := e
  simp at h1 h2 h3 h4 h5 h6 h7
  subst h1 h4 h5 h6 h7
  rw [noneT_eq h2, noneT_eq h3]
  rfl
theorem rightOp_ok {list : Int} {o : Op} {d : Int} (h : rightOp list o d = true) : opOk o := by
  rw [rightOp_at] at h
  unfold opOk
  split at h
  · rename_i h0
    simp only [Bool.and_eq_true, decide_eq_true_eq] at h
    exact Or.inl ⟨h0, List.length_eq_zero_iff.1 h.1.2.2, ⟨h.1.1, h.1.2.1⟩, sameE_nil h.2⟩
  · split at h
    · cases h
    · rename_i h0 h1
      split at h
      · simp only [Bool.and_eq_true, decide_eq_true_eq] at h
        refine Or.inr (Or.inl ⟨by omega, by omega, ?_, sameE_nil h.2⟩)
        exact List.length_pos_iff.1 h.1.2
      · simp only [Bool.and_eq_true, decide_eq_true_eq] at h
        exact Or.inr (Or.inr ⟨by omega, by omega, List.length_eq_zero_iff.1 h.1.1.1⟩)
end Go.AM.Ytlahjnelghpmeaa

namespace Go.AM
def idleE (list : Int) (e : Edit) : Bool := decide (e.kind = 0 ∨ (list = 9 ∧ e.kind = 2 ∧ e.words.length = 0 ∧ e.kids.length = 0))
def normsT (l : List Tree) : List Tree := l.map normT
def gapT (kind : Int) : List Op → List Tree
  | [] => []
  | o :: r => if o.kind = 1 ∨ o.kind = 2 then (if o.kind = kind then normsT o.l else []) ++ gapT kind r else []
def gapN : List Op → Int
  | [] => 0
  | o :: r => if o.kind = 1 ∨ o.kind = 2 then 1 + gapN r else 0
def turnW (w : WEdit) : WEdit := ⟨w.at_, w.mask, w.new, w.old⟩
mutual
def turnE : Edit → Edit
  | .mk k o n w ks l os => .mk k n o (w.map turnW) (turnKs ks) l (turnOs os)
def turnKs : List (KidOf Edit) → List (KidOf Edit)
  | [] => []
  | k :: r => turnKid k :: turnKs r
def turnKid : KidOf Edit → KidOf Edit
  | ⟨a, e⟩ => ⟨a, turnE e⟩
def turnOs : List (OpOf Edit) → List (OpOf Edit)
  | [] => []
  | o :: r => turnOp o :: turnOs r
def turnOp : OpOf Edit → OpOf Edit
  | ⟨k, n, l, e⟩ => if k = 1 then ⟨2, n, l, e⟩ else if k = 2 then ⟨1, n, l, e⟩ else if k = 3 then ⟨k, n, l, turnE e⟩ else ⟨k, n, l, e⟩
end
def roundK (k : Int) : Int := if k = 1 ∨ k = 2 then 3 - k else k
mutual
def roundE : Edit → Edit
  | .mk k o n w ks l os => .mk k n o (w.map turnW) (roundKs ks) l (roundOs os)
def roundKs : List (KidOf Edit) → List (KidOf Edit)
  | [] => []
  | k :: r => roundKid k :: roundKs r
def roundKid : KidOf Edit → KidOf Edit
  | ⟨a, e⟩ => ⟨a, roundE e⟩
def roundOs : List (OpOf Edit) → List (OpOf Edit)
  | [] => []
  | o :: r => roundOp o :: roundOs r
def roundOp : OpOf Edit → OpOf Edit
  | ⟨k, n, l, e⟩ => ⟨roundK k, n, l, roundE e⟩
end
end Go.AM

namespace Go.AM
structure Wst where
  out : List Op
  gone : List Tree
  brought : List Tree
def flushO (out : List Op) (g b : List Tree) : List Op :=
  out ++ ((if g.length = 0 then [] else [⟨1, 0, g, Edit.nil⟩]) ++ (if b.length = 0 then [] else [⟨2, 0, b, Edit.nil⟩]))
def keepO : List Op → Int → List Op
  | [], n => [⟨0, n, [], Edit.nil⟩]
  | [o], n => if o.kind = 0 then [⟨o.kind, o.n + n, o.l, o.e⟩] else [o, ⟨0, n, [], Edit.nil⟩]
  | o :: p :: r, n => o :: keepO (p :: r) n
def flushW (w : Wst) : Wst := ⟨flushO w.out w.gone w.brought, [], []⟩
def keepW (w : Wst) (n : Int) : Wst := ⟨keepO (flushW w).out n, [], []⟩
mutual
def nrmE : Edit → Edit
  | .mk k o n w ks l os =>
    if k = 1 then .mk k (normT o) (normT n) [] [] l []
    else if k = 2 then .mk k Tree.nil Tree.nil w (nrmKs ks) l []
    else if k = 3 then .mk k Tree.nil Tree.nil [] [] l (flushW (nrmOs l os ⟨[], [], []⟩)).out
    else .mk k Tree.nil Tree.nil [] [] l []
def nrmKs : List (KidOf Edit) → List (KidOf Edit)
  | [] => []
  | k :: r => nrmKid k :: nrmKs r
def nrmKid : KidOf Edit → KidOf Edit
  | ⟨a, e⟩ => ⟨a, nrmE e⟩
def nrmOs (list : Int) : List (OpOf Edit) → Wst → Wst
  | [], s => s
  | o :: r, s => nrmOs list r (nrmOp list o s)
def nrmOp (list : Int) : OpOf Edit → Wst → Wst
  | ⟨k, n, l, e⟩, s =>
    if k = 0 then keepW s n
    else if k = 1 then ⟨s.out, s.gone ++ normsT l, s.brought⟩
    else if k = 2 then ⟨s.out, s.gone, s.brought ++ normsT l⟩
    else if k = 3 then (if idleE list (nrmE e) = true then keepW s 1 else ⟨(flushW s).out ++ [⟨3, 0, [], nrmE e⟩], [], []⟩)
    else s
end
theorem nrmE_at (e : Edit) : nrmE e = if e.kind = 1 then .mk e.kind (normT e.old) (normT e.new) [] [] e.list []
    else if e.kind = 2 then .mk e.kind Tree.nil Tree.nil e.words (nrmKs e.kids) e.list []
    else if e.kind = 3 then .mk e.kind Tree.nil Tree.nil [] [] e.list (flushW (nrmOs e.list e.ops ⟨[], [], []⟩)).out
    else .mk e.kind Tree.nil Tree.nil [] [] e.list [] := by cases e; rfl
theorem nrmKid_at (k : Kid) : nrmKid k = ⟨k.at_, nrmE k.e⟩ := by cases k; rfl
theorem nrmOp_at (list : Int) (o : Op) (s : Wst) : nrmOp list o s = if o.kind = 0 then keepW s o.n
    else if o.kind = 1 then ⟨s.out, s.gone ++ normsT o.l, s.brought⟩
    else if o.kind = 2 then ⟨s.out, s.gone, s.brought ++ normsT o.l⟩
    else if o.kind = 3 then (if idleE list (nrmE o.e) = true then keepW s 1 else ⟨(flushW s).out ++ [⟨3, 0, [], nrmE o.e⟩], [], []⟩)
    else s := by cases o; rfl
theorem nrmOs_gap (list : Int) : ∀ (l : List Op) (s : Wst), nrmOs list l s = nrmOs list (l.drop (gapN l).toNat) ⟨s.out, s.gone ++ gapT 1 l, s.brought ++ gapT 2 l⟩
  | [], s => by simp [nrmOs, gapT, gapN]
  | o :: r, s => by
    by_cases h : o.kind = 1 ∨ o.kind = 2
    · have hg : 0 ≤ gapN r := gapN_nonneg r
      rw [gapN, if_pos h, gapT, gapT, if_pos h, if_pos h, show (1 + gapN r).toNat = (gapN r).toNat + 1 by omega, List.drop_succ_cons, nrmOs, nrmOp_at, nrmOs_gap list r]
      rcases h with h | h
      · rw [if_neg (by omega), if_pos h, if_pos h, if_neg (by omega)]
        simp
      · rw [if_neg (by omega), if_neg (by omega), if_pos h, if_neg (by omega), if_pos h]
        simp
    · rw [gapN, if_neg h, gapT, gapT, if_neg h, if_neg h]
      simp
where
  gapN_nonneg : ∀ (l : List Op), 0 ≤ gapN l
    | [] => by simp [gapN]
    | o :: r => by
      have := gapN_nonneg r
      rw [gapN]; split <;> omega
end Go.AM

namespace Go.AM.Ytlahjnelghpmeaa
open Go.AM Go.Proofs
abbrev TrG22a (p : Prop) : Prop := p → p
noncomputable section
def args124 : ArgL (List Tree × Unit) := (.cons (aSl .tree) .nil)
def pre124 (a : List Tree × Unit) : Prop := massK a.1 ≤ 1000000
noncomputable def res124 (a : List Tree × Unit) : V U := .c (.slice (U := U) .tree (normsT a.1) .unk)
noncomputable def spec124 : Fs U := fs args124 (fun a => [pre124 a]) res124
def args108 : ArgL (List Op × Int × Int × Unit) := (.cons (aSl .op) (.cons (aInt .i64) (.cons (aInt .i64) .nil)))
def pre108 (a : List Op × Int × Int × Unit) : Prop := massOs a.1 ≤ 1000000 ∧ 0 ≤ a.2.1 ∧ a.2.1 ≤ (a.1).length
noncomputable def res108 (a : List Op × Int × Int × Unit) : V U := .tup [(false, [.slice (U := U) .tree (gapT a.2.2.1 ((a.1).drop (a.2.1).toNat)) .unk]), (false, [.int .i64 (a.2.1 + gapN ((a.1).drop (a.2.1).toNat))])]
noncomputable def spec108 : Fs U := fs args108 (fun a => [pre108 a]) res108
def args79 : ArgL (Edit × Unit) := (.cons (aEl .edit) .nil)
def pre79 (a : Edit × Unit) : Prop := massE a.1 ≤ 1000000
def mu79 (a : Edit × Unit) : Nat := 2 * massE a.1
noncomputable def res79 (a : Edit × Unit) : V U := .agg [.int .i64 (Edit.kind (turnE a.1)), .int .i64 (Tree.kind (Edit.old (turnE a.1))), .slice (U := U) .u64 (Tree.words (Edit.old (turnE a.1))) .unk, .slice (U := U) .tree (Tree.kids (Edit.old (turnE a.1))) .unk, .int .i64 (Tree.kind (Edit.new (turnE a.1))), .slice (U := U) .u64 (Tree.words (Edit.new (turnE a.1))) .unk, .slice (U := U) .tree (Tree.kids (Edit.new (turnE a.1))) .unk, .slice (U := U) .wedit (Edit.words (turnE a.1)) .unk, .slice (U := U) .kid (Edit.kids (turnE a.1)) .unk, .int .i64 (Edit.list (turnE a.1)), .slice (U := U) .op (Edit.ops (turnE a.1)) .unk]
noncomputable def spec79 : Fs U := fs args79 (fun a => [pre79 a]) res79
def args110 : ArgL (Op × Unit) := (.cons (aEl .op) .nil)
def pre110 (a : Op × Unit) : Prop := massOp a.1 ≤ 1000000
def mu110 (a : Op × Unit) : Nat := 2 * massOp a.1 + 1
noncomputable def res110 (a : Op × Unit) : V U := .agg [.int .i64 (OpOf.kind (turnOp a.1)), .int .i64 (OpOf.n (turnOp a.1)), .slice (U := U) .tree (OpOf.l (turnOp a.1)) .unk, .int .i64 (Edit.kind (OpOf.e (turnOp a.1))), .int .i64 (Tree.kind (Edit.old (OpOf.e (turnOp a.1)))), .slice (U := U) .u64 (Tree.words (Edit.old (OpOf.e (turnOp a.1)))) .unk, .slice (U := U) .tree (Tree.kids (Edit.old (OpOf.e (turnOp a.1)))) .unk, .int .i64 (Tree.kind (Edit.new (OpOf.e (turnOp a.1)))), .slice (U := U) .u64 (Tree.words (Edit.new (OpOf.e (turnOp a.1)))) .unk, .slice (U := U) .tree (Tree.kids (Edit.new (OpOf.e (turnOp a.1)))) .unk, .slice (U := U) .wedit (Edit.words (OpOf.e (turnOp a.1))) .unk, .slice (U := U) .kid (Edit.kids (OpOf.e (turnOp a.1))) .unk, .int .i64 (Edit.list (OpOf.e (turnOp a.1))), .slice (U := U) .op (Edit.ops (OpOf.e (turnOp a.1))) .unk]
noncomputable def spec110 : Fs U := fs args110 (fun a => [pre110 a]) res110
noncomputable def know124 : List (FuncId × Fs U) := [(31, spec31)]
def lv124 : Lives U := fun i => match i with
  | 0 => ([(0, [])], [])
  | 1 => ([(0, []), (3, [])], [])
  | 2 => ([(0, []), (3, [.own .tree]), (4, [])], [])
  | 3 => ([(0, []), (3, []), (4, []), (8, [])], [])
  | 4 => ([(0, []), (3, [.own .tree]), (4, [])], [])
  | 5 => ([(0, []), (3, []), (4, [])], [])
  | 6 => ([(2, [])], [])
  | _ => ([], [])
def head124_0 (l : List Tree) (x4 : Int) (x3 : List Tree) : LSt U := (⟨[(0, .c (.slice (U := U) .tree l .unk)), (3, .c (.slice (U := U) .tree x3 (.own (.e 3 0)))), (4, .c (.int .i64 x4))], [], []⟩ : LSt U)
abbrev W124 (l : List Tree) (Q : AExit → LSt U → Prop) := awp cfg (know know124) (drawOk cfg (know know124)) Try.f124.ntmps lv124 (cd Try.f124 []) (⟨[(0, .c (.slice (U := U) .tree l .unk))], [], []⟩ : LSt U) Q
abbrev a124_G22a := awp cfg (know know124) (drawOk cfg (know know124)) Try.f124.ntmps lv124
abbrev s124_G22a := seqK cfg (know know124) (drawOk cfg (know know124)) Try.f124.ntmps lv124
theorem vc124 (l : List Tree) (Q : AExit → LSt U → Prop) (h : LoopWp (awp cfg (know know124) (drawOk cfg (know know124)) Try.f124.ntmps lv124 (cd Try.f124 [1, 1, 0, 1, 0, 0])) (head124_0 l 0 ([])) (AExit.inBlock 0 (seqK cfg (know know124) (drawOk cfg (know know124)) Try.f124.ntmps lv124 (cd Try.f124 [1, 1, 1]) Q))) :
    W124 l Q := by
  have e_ : (W124 l Q) = ((((LoopWp (a124_G22a (cd Try.f124 [1, 1, 0, 1, 0, 0])) (head124_0 l 0 ([])) (AExit.inBlock 0 (s124_G22a (cd Try.f124 [1, 1, 1]) Q)))))) := by kernel_rfl
  exact e_.mpr h
abbrev W124_l0 (l : List Tree) (x4 : Int) (x3 : List Tree) (N0 : LSt U → Prop) (Q : AExit → LSt U → Prop) := awp cfg (know know124) (drawOk cfg (know know124)) Try.f124.ntmps lv124 (cd Try.f124 [1, 1, 0, 1, 0, 0]) (head124_0 l x4 x3) (AExit.then N0 (AExit.inBlock 0 (seqK cfg (know know124) (drawOk cfg (know know124)) Try.f124.ntmps lv124 (cd Try.f124 [1, 1, 1]) Q)))
theorem vc124_l0 (l : List Tree) (x4 : Int) (x3 : List Tree) (N0 : LSt U → Prop) (Q : AExit → LSt U → Prop) (h : ((decide ((x4 : Int) < (l.length : Int))) = true → ((0 : Int) ≤ x4 ∧ x4 < (l.length : Int)) ∧ (pre31 ((Tree.mk (Tree.kind (List.getD l (Int.toNat x4) Tree.nil)) (Tree.words (List.getD l (Int.toNat x4) Tree.nil)) (Tree.kids (List.getD l (Int.toNat x4) Tree.nil))), ())) ∧ ((x3.length + ([(Tree.mk (Tree.kind (normT (Tree.mk (Tree.kind (List.getD l (Int.toNat x4) Tree.nil)) (Tree.words (List.getD l (Int.toNat x4) Tree.nil)) (Tree.kids (List.getD l (Int.toNat x4) Tree.nil))))) (Tree.words (normT (Tree.mk (Tree.kind (List.getD l (Int.toNat x4) Tree.nil)) (Tree.words (List.getD l (Int.toNat x4) Tree.nil)) (Tree.kids (List.getD l (Int.toNat x4) Tree.nil))))) (Tree.kids (normT (Tree.mk (Tree.kind (List.getD l (Int.toNat x4) Tree.nil)) (Tree.words (List.getD l (Int.toNat x4) Tree.nil)) (Tree.kids (List.getD l (Int.toNat x4) Tree.nil))))))]).length) * 56 ≤ 140737488355328) ∧ ((InR ((x4 : Int) + 1)) ∧ (N0 (head124_0 l ((x4 : Int) + 1) (x3 ++ ([(Tree.mk (Tree.kind (normT (Tree.mk (Tree.kind (List.getD l (Int.toNat x4) Tree.nil)) (Tree.words (List.getD l (Int.toNat x4) Tree.nil)) (Tree.kids (List.getD l (Int.toNat x4) Tree.nil))))) (Tree.words (normT (Tree.mk (Tree.kind (List.getD l (Int.toNat x4) Tree.nil)) (Tree.words (List.getD l (Int.toNat x4) Tree.nil)) (Tree.kids (List.getD l (Int.toNat x4) Tree.nil))))) (Tree.kids (normT (Tree.mk (Tree.kind (List.getD l (Int.toNat x4) Tree.nil)) (Tree.words (List.getD l (Int.toNat x4) Tree.nil)) (Tree.kids (List.getD l (Int.toNat x4) Tree.nil))))))])))))) ∧ ((decide ((x4 : Int) < (l.length : Int))) = false → Q .ret (⟨[(2, .c (.slice (U := U) .tree x3 (.own (.e 2 0))))], [], []⟩ : LSt U))) :
    W124_l0 l x4 x3 N0 Q := by
  have e_ : (W124_l0 l x4 x3 N0 Q) = ((((decide ((x4 : Int) < (l.length : Int))) = true → ((0 : Int) ≤ x4 ∧ x4 < (l.length : Int)) ∧ (pre31 ((Tree.mk (Tree.kind (List.getD l (Int.toNat x4) Tree.nil)) (Tree.words (List.getD l (Int.toNat x4) Tree.nil)) (Tree.kids (List.getD l (Int.toNat x4) Tree.nil))), ())) ∧ ((x3.length + ([(Tree.mk (Tree.kind (normT (Tree.mk (Tree.kind (List.getD l (Int.toNat x4) Tree.nil)) (Tree.words (List.getD l (Int.toNat x4) Tree.nil)) (Tree.kids (List.getD l (Int.toNat x4) Tree.nil))))) (Tree.words (normT (Tree.mk (Tree.kind (List.getD l (Int.toNat x4) Tree.nil)) (Tree.words (List.getD l (Int.toNat x4) Tree.nil)) (Tree.kids (List.getD l (Int.toNat x4) Tree.nil))))) (Tree.kids (normT (Tree.mk (Tree.kind (List.getD l (Int.toNat x4) Tree.nil)) (Tree.words (List.getD l (Int.toNat x4) Tree.nil)) (Tree.kids (List.getD l (Int.toNat x4) Tree.nil))))))]).length) * 56 ≤ 140737488355328) ∧ ((InR ((x4 : Int) + 1)) ∧ (N0 (head124_0 l ((x4 : Int) + 1) (x3 ++ ([(Tree.mk (Tree.kind (normT (Tree.mk (Tree.kind (List.getD l (Int.toNat x4) Tree.nil)) (Tree.words (List.getD l (Int.toNat x4) Tree.nil)) (Tree.kids (List.getD l (Int.toNat x4) Tree.nil))))) (Tree.words (normT (Tree.mk (Tree.kind (List.getD l (Int.toNat x4) Tree.nil)) (Tree.words (List.getD l (Int.toNat x4) Tree.nil)) (Tree.kids (List.getD l (Int.toNat x4) Tree.nil))))) (Tree.kids (normT (Tree.mk (Tree.kind (List.getD l (Int.toNat x4) Tree.nil)) (Tree.words (List.getD l (Int.toNat x4) Tree.nil)) (Tree.kids (List.getD l (Int.toNat x4) Tree.nil))))))])))))) ∧ ((decide ((x4 : Int) < (l.length : Int))) = false → (Q .ret (⟨[(2, .c (.slice (U := U) .tree x3 (.own (.e 2 0))))], [], []⟩ : LSt U))))) := by kernel_rfl
  exact e_.mpr ⟨fun c_1 => ⟨(h.1 c_1).1, (h.1 c_1).2.1, (h.1 c_1).2.2.1, ⟨(h.1 c_1).2.2.2.1, (h.1 c_1).2.2.2.2⟩⟩, fun c_1 => (h.2 c_1)⟩
def Body124 (l : List Tree)  : Prop := awp cfg (know (know124)) (drawOk cfg (know (know124))) Try.f124.ntmps lv124 (cd Try.f124 []) (entry (args124.can (l, ())) []) (EndsQ cfg Try.f124.ntmps Try.f124.results.toList (res124 (l, ())) [])
theorem make124 (c31 : Contract Try.prog cfg 31 spec31) (hb : ∀ (l : List Tree) (_ : Unit), pre124 (l, ()) → Body124 l) : Contract Try.prog cfg 124 spec124 :=
  contract_flat (l := [(31, spec31)]) cfgOk rfl (⟨c31, trivial⟩) lv124 Try.func124 rfl rfl 1 (fun _ => rfl) (by decide) (fun ⟨l, _⟩ => hb l ())
noncomputable def know108 : List (FuncId × Fs U) := [(124, spec124)]
def lv108 : Lives U := fun i => match i with
  | 0 => ([(0, []), (1, []), (2, [])], [])
  | 1 => ([(0, []), (1, []), (2, []), (8, [])], [])
  | 2 => ([(0, []), (2, []), (8, [.own .tree]), (9, [])], [])
  | 3 => ([(0, []), (2, []), (8, []), (9, []), (30, [])], [])
  | 4 => ([(0, []), (2, []), (8, []), (9, []), (37, [])], [])
  | 5 => ([(0, []), (2, []), (8, []), (9, [])], [])
  | 6 => ([(0, []), (2, []), (8, [.own .tree]), (9, [])], [])
  | 7 => ([(6, []), (7, [])], [])
  | _ => ([], [])
def head108_0 (l : List Op) (from_ : Int) (kind : Int) (x9 : Int) (x8 : List Tree) : LSt U := (⟨[(0, .c (.slice (U := U) .op l .unk)), (2, .c (.int .i64 kind)), (8, .c (.slice (U := U) .tree x8 (.own (.e 8 0)))), (9, .c (.int .i64 x9))], [], []⟩ : LSt U)
abbrev W108 (l : List Op) (from_ : Int) (kind : Int) (Q : AExit → LSt U → Prop) := awp cfg (know know108) (drawOk cfg (know know108)) Try.f108.ntmps lv108 (cd Try.f108 []) (⟨[(0, .c (.slice (U := U) .op l .unk)), (1, .c (.int .i64 from_)), (2, .c (.int .i64 kind))], [], []⟩ : LSt U) Q
abbrev a108_G22a := awp cfg (know know108) (drawOk cfg (know know108)) Try.f108.ntmps lv108
abbrev s108_G22a := seqK cfg (know know108) (drawOk cfg (know know108)) Try.f108.ntmps lv108
theorem vc108 (l : List Op) (from_ : Int) (kind : Int) (Q : AExit → LSt U → Prop) (h : LoopWp (awp cfg (know know108) (drawOk cfg (know know108)) Try.f108.ntmps lv108 (cd Try.f108 [1, 1, 1, 0, 0, 0])) (head108_0 l from_ kind from_ ([])) (AExit.inBlock 0 (seqK cfg (know know108) (drawOk cfg (know know108)) Try.f108.ntmps lv108 (cd Try.f108 [1, 1, 1, 1]) Q))) :
    W108 l from_ kind Q := by
  have e_ : (W108 l from_ kind Q) = ((((LoopWp (a108_G22a (cd Try.f108 [1, 1, 1, 0, 0, 0])) (head108_0 l from_ kind from_ ([])) (AExit.inBlock 0 (s108_G22a (cd Try.f108 [1, 1, 1, 1]) Q)))))) := by kernel_rfl
  exact e_.mpr h
abbrev W108_l0 (l : List Op) (from_ : Int) (kind : Int) (x9 : Int) (x8 : List Tree) (N0 : LSt U → Prop) (Q : AExit → LSt U → Prop) := awp cfg (know know108) (drawOk cfg (know know108)) Try.f108.ntmps lv108 (cd Try.f108 [1, 1, 1, 0, 0, 0]) (head108_0 l from_ kind x9 x8) (AExit.then N0 (AExit.inBlock 0 (seqK cfg (know know108) (drawOk cfg (know know108)) Try.f108.ntmps lv108 (cd Try.f108 [1, 1, 1, 1]) Q)))
theorem vc108_l0 (l : List Op) (from_ : Int) (kind : Int) (x9 : Int) (x8 : List Tree) (N0 : LSt U → Prop) (Q : AExit → LSt U → Prop) (h : ∀ y_1, y_1 = (List.getD l (Int.toNat x9) Op.nil) → ((decide ((x9 : Int) < (l.length : Int))) = true → (0 : Int) ≤ x9 ∧ x9 < (l.length : Int)) ∧ (((decide ((x9 : Int) < (l.length : Int))) && (!(((OpOf.kind y_1) : Int) == 1))) = true → (0 : Int) ≤ x9 ∧ x9 < (l.length : Int)) ∧ (((bif (decide ((x9 : Int) < (l.length : Int))) then (bif (((OpOf.kind y_1) : Int) == 1) then true else (((OpOf.kind y_1) : Int) == 2)) else false) = true → ((0 : Int) ≤ x9 ∧ x9 < (l.length : Int)) ∧ (((((OpOf.kind y_1) : Int) == kind) = true → ((0 : Int) ≤ x9 ∧ x9 < (l.length : Int)) ∧ (pre124 ((OpOf.l y_1), ())) ∧ ((x8.length + (normsT (OpOf.l y_1)).length) * 56 ≤ 140737488355328) ∧ ((InR ((x9 : Int) + 1)) ∧ (N0 (head108_0 l from_ kind ((x9 : Int) + 1) (x8 ++ (normsT (OpOf.l y_1))))))) ∧ ((((OpOf.kind y_1) : Int) == kind) = false → (InR ((x9 : Int) + 1)) ∧ (N0 (head108_0 l from_ kind ((x9 : Int) + 1) x8))))) ∧ ((bif (decide ((x9 : Int) < (l.length : Int))) then (bif (((OpOf.kind y_1) : Int) == 1) then true else (((OpOf.kind y_1) : Int) == 2)) else false) = false → Q .ret (⟨[(6, .c (.slice (U := U) .tree x8 (.own (.e 6 0)))), (7, .c (.int .i64 x9))], [], []⟩ : LSt U)))) :
    W108_l0 l from_ kind x9 x8 N0 Q := by
  have e_ : (W108_l0 l from_ kind x9 x8 N0 Q) = (let y_1 := (List.getD l (Int.toNat x9) Op.nil); let zz1 := ((OpOf.kind y_1) == 1); let zz0 := (decide ((x9 : Int) < (l.length : Int))); (TrG22a (zz0 = true)) ∧ (TrG22a (zz0 = true)) ∧ (zz0 = true → (0 : Int) ≤ x9 ∧ x9 < (l.length : Int)) ∧ (TrG22a (zz0 = true)) ∧ (TrG22a (zz0 = true)) ∧ (TrG22a (zz0 = true)) ∧ (TrG22a (zz0 = true)) ∧ (TrG22a ((zz0 && (!zz1)) = true)) ∧ (TrG22a ((zz0 && (!zz1)) = true)) ∧ ((zz0 && (!zz1)) = true → (0 : Int) ≤ x9 ∧ x9 < (l.length : Int)) ∧ (TrG22a ((zz0 && (!zz1)) = true)) ∧ (TrG22a ((zz0 && (!zz1)) = true)) ∧ (TrG22a ((zz0 && (!zz1)) = true)) ∧ (zz0 = true → (True → zz0 = true)) ∧ (zz0 = true → (zz1 = false → (zz0 && (!zz1)) = true)) ∧ ((TrG22a (zz0 = true))) ∧ (((bif zz0 then (bif zz1 then true else ((OpOf.kind y_1) == 2)) else false) = true → ((0 : Int) ≤ x9 ∧ x9 < (l.length : Int)) ∧ ((((OpOf.kind y_1) == kind) = true → ((0 : Int) ≤ x9 ∧ x9 < (l.length : Int)) ∧ (pre124 ((OpOf.l y_1), ())) ∧ ((x8.length + (normsT (OpOf.l y_1)).length) * 56 ≤ 140737488355328) ∧ ((InR ((x9 : Int) + 1)) ∧ (N0 (head108_0 l from_ kind ((x9 : Int) + 1) (x8 ++ (normsT (OpOf.l y_1))))))) ∧ (((OpOf.kind y_1) == kind) = false → (InR ((x9 : Int) + 1)) ∧ (N0 (head108_0 l from_ kind ((x9 : Int) + 1) x8))))) ∧ ((bif zz0 then (bif zz1 then true else ((OpOf.kind y_1) == 2)) else false) = false → (Q .ret (⟨[(6, .c (.slice (U := U) .tree x8 (.own (.e 6 0)))), (7, .c (.int .i64 x9))], [], []⟩ : LSt U))))) := by kernel_rfl
  exact e_.mpr (by intro y_1; have hh := h y_1 rfl; exact ⟨id, id, hh.1, id, id, id, id, id, id, hh.2.1, id, id, id, (by generalize (decide ((x9 : Int) < (l.length : Int))) = b0; revert b0; decide), (by generalize (((OpOf.kind y_1) : Int) == 1) = b0; generalize (decide ((x9 : Int) < (l.length : Int))) = b1; revert b0 b1; decide), (by generalize (decide ((x9 : Int) < (l.length : Int))) = b0; revert b0; decide), ⟨fun c_2 => ⟨(hh.2.2.1 c_2).1, ⟨fun c_3 => ⟨((hh.2.2.1 c_2).2.1 c_3).1, ((hh.2.2.1 c_2).2.1 c_3).2.1, ((hh.2.2.1 c_2).2.1 c_3).2.2.1, ⟨((hh.2.2.1 c_2).2.1 c_3).2.2.2.1, ((hh.2.2.1 c_2).2.1 c_3).2.2.2.2⟩⟩, fun c_3 => ⟨((hh.2.2.1 c_2).2.2 c_3).1, ((hh.2.2.1 c_2).2.2 c_3).2⟩⟩⟩, fun c_2 => (hh.2.2.2 c_2)⟩⟩)
def Body108 (l : List Op) (from_ : Int) (kind : Int)  : Prop := awp cfg (know (know108)) (drawOk cfg (know (know108))) Try.f108.ntmps lv108 (cd Try.f108 []) (entry (args108.can (l, from_, kind, ())) []) (EndsQ cfg Try.f108.ntmps Try.f108.results.toList (res108 (l, from_, kind, ())) [])
theorem make108 (c124 : Contract Try.prog cfg 124 spec124) (hb : ∀ (l : List Op) (from_ : Int) (kind : Int) (_ : Unit), pre108 (l, from_, kind, ()) → Body108 l from_ kind) : Contract Try.prog cfg 108 spec108 :=
  contract_flat (l := [(124, spec124)]) cfgOk rfl (⟨c124, trivial⟩) lv108 Try.func108 rfl rfl 3 (fun _ => rfl) (by decide) (fun ⟨l, from_, kind, _⟩ => hb l from_ kind ())
noncomputable def know79 (N : Nat) : List (FuncId × Fs U) := (79, fs args79 (fun a => [pre79 a, mu79 a < N]) res79) :: (110, fs args110 (fun a => [pre110 a, mu110 a < N]) res110) :: []
def lv79 : Lives U := fun i => match i with
  | 0 => ([(1, []), (2, [])], [((.loc 1), []), ((.loc 2), [])])
  | 1 => ([(1, []), (2, []), (3, [])], [((.loc 1), []), ((.loc 2), []), ((.loc 3), [])])
  | 2 => ([(1, []), (2, []), (3, []), (20, []), (21, []), (22, [])], [((.loc 1), []), ((.loc 2), []), ((.loc 3), [.any, .any, .any, .any, .any, .any, .any, .own .wedit])])
  | 3 => ([(1, []), (2, []), (3, []), (20, []), (21, []), (22, []), (23, [])], [((.loc 1), []), ((.loc 2), []), ((.loc 3), [])])
  | 4 => ([(1, []), (2, []), (3, []), (5, []), (20, []), (21, []), (22, [])], [((.loc 1), []), ((.loc 2), []), ((.loc 3), []), ((.loc 5), [])])
  | 5 => ([(1, []), (2, []), (3, []), (20, []), (21, []), (22, [])], [((.loc 1), []), ((.loc 2), []), ((.loc 3), [])])
  | 6 => ([(1, []), (2, []), (3, []), (20, []), (21, []), (22, [])], [((.loc 1), []), ((.loc 2), []), ((.loc 3), [.any, .any, .any, .any, .any, .any, .any, .own .wedit])])
  | 7 => ([(1, []), (2, []), (3, []), (42, []), (43, []), (44, [])], [((.loc 1), []), ((.loc 2), []), ((.loc 3), [.any, .any, .any, .any, .any, .any, .any, .any, .own .kid])])
  | 8 => ([(1, []), (2, []), (3, []), (42, []), (43, []), (44, []), (45, [])], [((.loc 1), []), ((.loc 2), []), ((.loc 3), [])])
  | 9 => ([(1, []), (2, []), (3, []), (7, []), (42, []), (43, []), (44, [])], [((.loc 1), []), ((.loc 2), []), ((.loc 3), []), ((.loc 7), [])])
  | 10 => ([(1, []), (2, []), (3, []), (42, []), (43, []), (44, [])], [((.loc 1), []), ((.loc 2), []), ((.loc 3), [])])
  | 11 => ([(1, []), (2, []), (3, []), (42, []), (43, []), (44, [])], [((.loc 1), []), ((.loc 2), []), ((.loc 3), [.any, .any, .any, .any, .any, .any, .any, .any, .own .kid])])
  | 12 => ([(2, []), (3, []), (61, []), (62, []), (63, [])], [((.loc 2), []), ((.loc 3), [.any, .any, .any, .any, .any, .any, .any, .any, .any, .any, .own .op])])
  | 13 => ([(2, []), (3, []), (61, []), (62, []), (63, []), (64, [])], [((.loc 2), []), ((.loc 3), [])])
  | 14 => ([(2, []), (3, []), (9, []), (61, []), (62, []), (63, [])], [((.loc 2), []), ((.loc 3), []), ((.loc 9), [])])
  | 15 => ([(2, []), (3, []), (61, []), (62, []), (63, [])], [((.loc 2), []), ((.loc 3), [])])
  | 16 => ([(2, []), (3, []), (61, []), (62, []), (63, [])], [((.loc 2), []), ((.loc 3), [.any, .any, .any, .any, .any, .any, .any, .any, .any, .any, .own .op])])
  | 17 => ([(2, [])], [((.loc 2), [])])
  | _ => ([], [])
def head79_0 (e : Edit) (x22 : Int) (ml3_7 : List WEdit) : LSt U := (⟨[(1, .ptr (.loc 1) 0), (2, .ptr (.loc 2) 0), (3, .ptr (.loc 3) 0), (20, .c (.slice (U := U) .wedit (Edit.words e) .unk)), (21, .c (.int .i64 ((Edit.words e).length : Int))), (22, .c (.int .i64 x22))], [((.loc 1), [.int .i64 (Edit.kind e), .int .i64 (Tree.kind (Edit.old e)), .slice (U := U) .u64 (Tree.words (Edit.old e)) .unk, .slice (U := U) .tree (Tree.kids (Edit.old e)) .unk, .int .i64 (Tree.kind (Edit.new e)), .slice (U := U) .u64 (Tree.words (Edit.new e)) .unk, .slice (U := U) .tree (Tree.kids (Edit.new e)) .unk, .slice (U := U) .wedit (Edit.words e) .unk, .slice (U := U) .kid (Edit.kids e) .unk, .int .i64 (Edit.list e), .slice (U := U) .op (Edit.ops e) .unk]), ((.loc 2), [.int .i64 0, .int .i64 0, .nils, .nils, .int .i64 0, .nils, .nils, .nils, .nils, .int .i64 0, .nils]), ((.loc 3), [.int .i64 (Edit.kind e), .int .i64 (Tree.kind (Edit.new e)), .slice (U := U) .u64 (Tree.words (Edit.new e)) .unk, .slice (U := U) .tree (Tree.kids (Edit.new e)) .unk, .int .i64 (Tree.kind (Edit.old e)), .slice (U := U) .u64 (Tree.words (Edit.old e)) .unk, .slice (U := U) .tree (Tree.kids (Edit.old e)) .unk, .slice (U := U) .wedit ml3_7 (.own (.l 3 7)), .nils, .int .i64 (Edit.list e), .nils])], []⟩ : LSt U)
def head79_1 (e : Edit) (ml3_7 : List WEdit) (x44_a : Int) (ml3_8_a : List Kid) : LSt U := (⟨[(1, .ptr (.loc 1) 0), (2, .ptr (.loc 2) 0), (3, .ptr (.loc 3) 0), (42, .c (.slice (U := U) .kid (Edit.kids e) .unk)), (43, .c (.int .i64 ((Edit.kids e).length : Int))), (44, .c (.int .i64 x44_a))], [((.loc 1), [.int .i64 (Edit.kind e), .int .i64 (Tree.kind (Edit.old e)), .slice (U := U) .u64 (Tree.words (Edit.old e)) .unk, .slice (U := U) .tree (Tree.kids (Edit.old e)) .unk, .int .i64 (Tree.kind (Edit.new e)), .slice (U := U) .u64 (Tree.words (Edit.new e)) .unk, .slice (U := U) .tree (Tree.kids (Edit.new e)) .unk, .slice (U := U) .wedit (Edit.words e) .unk, .slice (U := U) .kid (Edit.kids e) .unk, .int .i64 (Edit.list e), .slice (U := U) .op (Edit.ops e) .unk]), ((.loc 2), [.int .i64 0, .int .i64 0, .nils, .nils, .int .i64 0, .nils, .nils, .nils, .nils, .int .i64 0, .nils]), ((.loc 3), [.int .i64 (Edit.kind e), .int .i64 (Tree.kind (Edit.new e)), .slice (U := U) .u64 (Tree.words (Edit.new e)) .unk, .slice (U := U) .tree (Tree.kids (Edit.new e)) .unk, .int .i64 (Tree.kind (Edit.old e)), .slice (U := U) .u64 (Tree.words (Edit.old e)) .unk, .slice (U := U) .tree (Tree.kids (Edit.old e)) .unk, .slice (U := U) .wedit ml3_7 (.own (.l 3 7)), .slice (U := U) .kid ml3_8_a (.own (.l 3 8)), .int .i64 (Edit.list e), .nils])], []⟩ : LSt U)
def head79_2 (e : Edit) (ml3_7 : List WEdit) (ml3_8_a : List Kid) (x63_b : Int) (ml3_10_b : List Op) : LSt U := (⟨[(2, .ptr (.loc 2) 0), (3, .ptr (.loc 3) 0), (61, .c (.slice (U := U) .op (Edit.ops e) .unk)), (62, .c (.int .i64 ((Edit.ops e).length : Int))), (63, .c (.int .i64 x63_b))], [((.loc 2), [.int .i64 0, .int .i64 0, .nils, .nils, .int .i64 0, .nils, .nils, .nils, .nils, .int .i64 0, .nils]), ((.loc 3), [.int .i64 (Edit.kind e), .int .i64 (Tree.kind (Edit.new e)), .slice (U := U) .u64 (Tree.words (Edit.new e)) .unk, .slice (U := U) .tree (Tree.kids (Edit.new e)) .unk, .int .i64 (Tree.kind (Edit.old e)), .slice (U := U) .u64 (Tree.words (Edit.old e)) .unk, .slice (U := U) .tree (Tree.kids (Edit.old e)) .unk, .slice (U := U) .wedit ml3_7 (.own (.l 3 7)), .slice (U := U) .kid ml3_8_a (.own (.l 3 8)), .int .i64 (Edit.list e), .slice (U := U) .op ml3_10_b (.own (.l 3 10))])], []⟩ : LSt U)
abbrev W79 (N : Nat) (e : Edit) (Q : AExit → LSt U → Prop) := awp cfg (know (know79 N)) (drawOk cfg (know (know79 N))) Try.f79.ntmps lv79 (cd Try.f79 []) (⟨[(0, .agg [.int .i64 (Edit.kind e), .int .i64 (Tree.kind (Edit.old e)), .slice (U := U) .u64 (Tree.words (Edit.old e)) .unk, .slice (U := U) .tree (Tree.kids (Edit.old e)) .unk, .int .i64 (Tree.kind (Edit.new e)), .slice (U := U) .u64 (Tree.words (Edit.new e)) .unk, .slice (U := U) .tree (Tree.kids (Edit.new e)) .unk, .slice (U := U) .wedit (Edit.words e) .unk, .slice (U := U) .kid (Edit.kids e) .unk, .int .i64 (Edit.list e), .slice (U := U) .op (Edit.ops e) .unk])], [], []⟩ : LSt U) Q
abbrev a79_G22a (N : Nat) := awp cfg (know (know79 N)) (drawOk cfg (know (know79 N))) Try.f79.ntmps lv79
abbrev s79_G22a (N : Nat) := seqK cfg (know (know79 N)) (drawOk cfg (know (know79 N))) Try.f79.ntmps lv79
theorem vc79 (N : Nat) (e : Edit) (Q : AExit → LSt U → Prop) (h : LoopWp (awp cfg (know (know79 N)) (drawOk cfg (know (know79 N))) Try.f79.ntmps lv79 (cd Try.f79 [1, 1, 0, 1, 0, 0])) (head79_0 e 0 ([])) (AExit.inBlock 0 (seqK cfg (know (know79 N)) (drawOk cfg (know (know79 N))) Try.f79.ntmps lv79 (cd Try.f79 [1, 1, 1]) Q))) :
    W79 N e Q := by
  have e_ : (W79 N e Q) = ((((LoopWp (a79_G22a N (cd Try.f79 [1, 1, 0, 1, 0, 0])) (head79_0 e 0 ([])) (AExit.inBlock 0 (s79_G22a N (cd Try.f79 [1, 1, 1]) Q)))))) := by kernel_rfl
  exact e_.mpr h
abbrev W79_l0 (N : Nat) (e : Edit) (x22 : Int) (ml3_7 : List WEdit) (N0 : LSt U → Prop) (Q : AExit → LSt U → Prop) := awp cfg (know (know79 N)) (drawOk cfg (know (know79 N))) Try.f79.ntmps lv79 (cd Try.f79 [1, 1, 0, 1, 0, 0]) (head79_0 e x22 ml3_7) (AExit.then N0 (AExit.inBlock 0 (seqK cfg (know (know79 N)) (drawOk cfg (know (know79 N))) Try.f79.ntmps lv79 (cd Try.f79 [1, 1, 1]) Q)))
theorem vc79_l0 (N : Nat) (e : Edit) (x22 : Int) (ml3_7 : List WEdit) (N0 : LSt U → Prop) (Q : AExit → LSt U → Prop) (h : ((decide ((x22 : Int) < ((Edit.words e).length : Int))) = true → ((0 : Int) ≤ x22 ∧ x22 < ((Edit.words e).length : Int)) ∧ (((ml3_7.length + ([(WEdit.mk (WEdit.at_ (List.getD (Edit.words e) (Int.toNat x22) (WEdit.mk 0 0 0 0))) (WEdit.mask (List.getD (Edit.words e) (Int.toNat x22) (WEdit.mk 0 0 0 0))) (WEdit.new (List.getD (Edit.words e) (Int.toNat x22) (WEdit.mk 0 0 0 0))) (WEdit.old (List.getD (Edit.words e) (Int.toNat x22) (WEdit.mk 0 0 0 0))))]).length) * 32 ≤ 140737488355328) ∧ ((InR ((x22 : Int) + 1)) ∧ (N0 (head79_0 e ((x22 : Int) + 1) (ml3_7 ++ ([(WEdit.mk (WEdit.at_ (List.getD (Edit.words e) (Int.toNat x22) (WEdit.mk 0 0 0 0))) (WEdit.mask (List.getD (Edit.words e) (Int.toNat x22) (WEdit.mk 0 0 0 0))) (WEdit.new (List.getD (Edit.words e) (Int.toNat x22) (WEdit.mk 0 0 0 0))) (WEdit.old (List.getD (Edit.words e) (Int.toNat x22) (WEdit.mk 0 0 0 0))))]))))))) ∧ ((decide ((x22 : Int) < ((Edit.words e).length : Int))) = false → LoopWp (awp cfg (know (know79 N)) (drawOk cfg (know (know79 N))) Try.f79.ntmps lv79 (cd Try.f79 [1, 1, 1, 0, 1, 0, 0])) (head79_1 e ml3_7 0 ([])) (AExit.inBlock 2 (seqK cfg (know (know79 N)) (drawOk cfg (know (know79 N))) Try.f79.ntmps lv79 (cd Try.f79 [1, 1, 1, 1]) Q)))) :
    W79_l0 N e x22 ml3_7 N0 Q := by
  have e_ : (W79_l0 N e x22 ml3_7 N0 Q) = (let zz0 := (decide ((x22 : Int) < ((Edit.words e).length : Int))); ((zz0 = true → ((0 : Int) ≤ x22 ∧ x22 < ((Edit.words e).length : Int)) ∧ (((ml3_7.length + ([(WEdit.mk (WEdit.at_ (List.getD (Edit.words e) (Int.toNat x22) (WEdit.mk 0 0 0 0))) (WEdit.mask (List.getD (Edit.words e) (Int.toNat x22) (WEdit.mk 0 0 0 0))) (WEdit.new (List.getD (Edit.words e) (Int.toNat x22) (WEdit.mk 0 0 0 0))) (WEdit.old (List.getD (Edit.words e) (Int.toNat x22) (WEdit.mk 0 0 0 0))))]).length) * 32 ≤ 140737488355328) ∧ ((InR ((x22 : Int) + 1)) ∧ (N0 (head79_0 e ((x22 : Int) + 1) (ml3_7 ++ ([(WEdit.mk (WEdit.at_ (List.getD (Edit.words e) (Int.toNat x22) (WEdit.mk 0 0 0 0))) (WEdit.mask (List.getD (Edit.words e) (Int.toNat x22) (WEdit.mk 0 0 0 0))) (WEdit.new (List.getD (Edit.words e) (Int.toNat x22) (WEdit.mk 0 0 0 0))) (WEdit.old (List.getD (Edit.words e) (Int.toNat x22) (WEdit.mk 0 0 0 0))))]))))))) ∧ (zz0 = false → (LoopWp (a79_G22a N (cd Try.f79 [1, 1, 1, 0, 1, 0, 0])) (head79_1 e ml3_7 0 ([])) (AExit.inBlock 2 (s79_G22a N (cd Try.f79 [1, 1, 1, 1]) Q)))))) := by kernel_rfl
  exact e_.mpr ⟨fun c_7 => ⟨(h.1 c_7).1, ⟨(h.1 c_7).2.1, ⟨(h.1 c_7).2.2.1, (h.1 c_7).2.2.2⟩⟩⟩, fun c_7 => (h.2 c_7)⟩
abbrev W79_l1 (N : Nat) (e : Edit) (ml3_7 : List WEdit) (x44_a : Int) (ml3_8_a : List Kid) (N1 : LSt U → Prop) (Q : AExit → LSt U → Prop) := awp cfg (know (know79 N)) (drawOk cfg (know (know79 N))) Try.f79.ntmps lv79 (cd Try.f79 [1, 1, 1, 0, 1, 0, 0]) (head79_1 e ml3_7 x44_a ml3_8_a) (AExit.then N1 (AExit.inBlock 2 (seqK cfg (know (know79 N)) (drawOk cfg (know (know79 N))) Try.f79.ntmps lv79 (cd Try.f79 [1, 1, 1, 1]) Q)))
theorem vc79_l1 (N : Nat) (e : Edit) (ml3_7 : List WEdit) (x44_a : Int) (ml3_8_a : List Kid) (N1 : LSt U → Prop) (Q : AExit → LSt U → Prop) (h : ∀ y_1, y_1 = (List.getD (Edit.kids e) (Int.toNat x44_a) (KidOf.mk 0 Edit.nil)) → ∀ y_2, y_2 = ((KidOf.e y_1)) → ∀ y_3, y_3 = ((turnE y_2)) → ((decide ((x44_a : Int) < ((Edit.kids e).length : Int))) = true → ((0 : Int) ≤ x44_a ∧ x44_a < ((Edit.kids e).length : Int)) ∧ ((pre79 (y_2, ())) ∧ (mu79 (y_2, ()) < N) ∧ ((ml3_8_a.length + ([(KidOf.mk (KidOf.at_ y_1) y_3 : Kid)]).length) * 208 ≤ 140737488355328) ∧ ((InR ((x44_a : Int) + 1)) ∧ (N1 (head79_1 e ml3_7 ((x44_a : Int) + 1) (ml3_8_a ++ ([(KidOf.mk (KidOf.at_ y_1) y_3 : Kid)]))))))) ∧ ((decide ((x44_a : Int) < ((Edit.kids e).length : Int))) = false → LoopWp (awp cfg (know (know79 N)) (drawOk cfg (know (know79 N))) Try.f79.ntmps lv79 (cd Try.f79 [1, 1, 1, 1, 0, 1, 0, 0])) (head79_2 e ml3_7 ml3_8_a 0 ([])) (AExit.inBlock 4 (seqK cfg (know (know79 N)) (drawOk cfg (know (know79 N))) Try.f79.ntmps lv79 (cd Try.f79 [1, 1, 1, 1, 1]) Q)))) :
    W79_l1 N e ml3_7 x44_a ml3_8_a N1 Q := by
  have e_ : (W79_l1 N e ml3_7 x44_a ml3_8_a N1 Q) = (let y_1 := (List.getD (Edit.kids e) (Int.toNat x44_a) (KidOf.mk 0 Edit.nil)); let y_2 := (reEdit (KidOf.e y_1)); let y_3 := (reEdit (turnE y_2)); let zz0 := (decide ((x44_a : Int) < ((Edit.kids e).length : Int))); ((zz0 = true → ((0 : Int) ≤ x44_a ∧ x44_a < ((Edit.kids e).length : Int)) ∧ ((pre79 (y_2, ())) ∧ (mu79 (y_2, ()) < N) ∧ ((ml3_8_a.length + ([(KidOf.mk (KidOf.at_ y_1) y_3 : Kid)]).length) * 208 ≤ 140737488355328) ∧ ((InR ((x44_a : Int) + 1)) ∧ (N1 (head79_1 e ml3_7 ((x44_a : Int) + 1) (ml3_8_a ++ ([(KidOf.mk (KidOf.at_ y_1) y_3 : Kid)]))))))) ∧ (zz0 = false → (LoopWp (a79_G22a N (cd Try.f79 [1, 1, 1, 1, 0, 1, 0, 0])) (head79_2 e ml3_7 ml3_8_a 0 ([])) (AExit.inBlock 4 (s79_G22a N (cd Try.f79 [1, 1, 1, 1, 1]) Q)))))) := by kernel_rfl
  exact e_.mpr (by intro y_1 y_2 y_3; have hh := h y_1 rfl y_2 (reEdit_eq _) y_3 (reEdit_eq _); exact ⟨fun c_8 => ⟨(hh.1 c_8).1, ⟨(hh.1 c_8).2.1, (hh.1 c_8).2.2.1, (hh.1 c_8).2.2.2.1, ⟨(hh.1 c_8).2.2.2.2.1, (hh.1 c_8).2.2.2.2.2⟩⟩⟩, fun c_8 => (hh.2 c_8)⟩)
abbrev W79_l2 (N : Nat) (e : Edit) (ml3_7 : List WEdit) (ml3_8_a : List Kid) (x63_b : Int) (ml3_10_b : List Op) (N2 : LSt U → Prop) (Q : AExit → LSt U → Prop) := awp cfg (know (know79 N)) (drawOk cfg (know (know79 N))) Try.f79.ntmps lv79 (cd Try.f79 [1, 1, 1, 1, 0, 1, 0, 0]) (head79_2 e ml3_7 ml3_8_a x63_b ml3_10_b) (AExit.then N2 (AExit.inBlock 4 (seqK cfg (know (know79 N)) (drawOk cfg (know (know79 N))) Try.f79.ntmps lv79 (cd Try.f79 [1, 1, 1, 1, 1]) Q)))
theorem vc79_l2 (N : Nat) (e : Edit) (ml3_7 : List WEdit) (ml3_8_a : List Kid) (x63_b : Int) (ml3_10_b : List Op) (N2 : LSt U → Prop) (Q : AExit → LSt U → Prop) (h : ∀ y_1, y_1 = (List.getD (Edit.ops e) (Int.toNat x63_b) Op.nil) → ∀ y_2, y_2 = (y_1) → ∀ y_3, y_3 = ((turnOp y_2)) → ((decide ((x63_b : Int) < ((Edit.ops e).length : Int))) = true → ((0 : Int) ≤ x63_b ∧ x63_b < ((Edit.ops e).length : Int)) ∧ ((pre110 (y_2, ())) ∧ (mu110 (y_2, ()) < N) ∧ ((ml3_10_b.length + ([y_3]).length) * 240 ≤ 140737488355328) ∧ ((InR ((x63_b : Int) + 1)) ∧ (N2 (head79_2 e ml3_7 ml3_8_a ((x63_b : Int) + 1) (ml3_10_b ++ ([y_3]))))))) ∧ ((decide ((x63_b : Int) < ((Edit.ops e).length : Int))) = false → Q .ret (⟨[(2, .ptr (.loc 2) 0)], [((.loc 2), [.int .i64 (Edit.kind e), .int .i64 (Tree.kind (Edit.new e)), .slice (U := U) .u64 (Tree.words (Edit.new e)) .unk, .slice (U := U) .tree (Tree.kids (Edit.new e)) .unk, .int .i64 (Tree.kind (Edit.old e)), .slice (U := U) .u64 (Tree.words (Edit.old e)) .unk, .slice (U := U) .tree (Tree.kids (Edit.old e)) .unk, .slice (U := U) .wedit ml3_7 (.own (.l 2 7)), .slice (U := U) .kid ml3_8_a (.own (.l 2 8)), .int .i64 (Edit.list e), .slice (U := U) .op ml3_10_b (.own (.l 2 10))])], []⟩ : LSt U))) :
    W79_l2 N e ml3_7 ml3_8_a x63_b ml3_10_b N2 Q := by
  have e_ : (W79_l2 N e ml3_7 ml3_8_a x63_b ml3_10_b N2 Q) = (let y_1 := (List.getD (Edit.ops e) (Int.toNat x63_b) Op.nil); let y_2 := (reOp y_1); let y_3 := (reOp (turnOp y_2)); let zz0 := (decide ((x63_b : Int) < ((Edit.ops e).length : Int))); ((zz0 = true → ((0 : Int) ≤ x63_b ∧ x63_b < ((Edit.ops e).length : Int)) ∧ ((pre110 (y_2, ())) ∧ (mu110 (y_2, ()) < N) ∧ ((ml3_10_b.length + ([y_3]).length) * 240 ≤ 140737488355328) ∧ ((InR ((x63_b : Int) + 1)) ∧ (N2 (head79_2 e ml3_7 ml3_8_a ((x63_b : Int) + 1) (ml3_10_b ++ ([y_3]))))))) ∧ (zz0 = false → (Q .ret (⟨[(2, .ptr (.loc 2) 0)], [((.loc 2), [.int .i64 (Edit.kind e), .int .i64 (Tree.kind (Edit.new e)), .slice (U := U) .u64 (Tree.words (Edit.new e)) .unk, .slice (U := U) .tree (Tree.kids (Edit.new e)) .unk, .int .i64 (Tree.kind (Edit.old e)), .slice (U := U) .u64 (Tree.words (Edit.old e)) .unk, .slice (U := U) .tree (Tree.kids (Edit.old e)) .unk, .slice (U := U) .wedit ml3_7 (.own (.l 2 7)), .slice (U := U) .kid ml3_8_a (.own (.l 2 8)), .int .i64 (Edit.list e), .slice (U := U) .op ml3_10_b (.own (.l 2 10))])], []⟩ : LSt U))))) := by kernel_rfl
  exact e_.mpr (by intro y_1 y_2 y_3; have hh := h y_1 rfl y_2 (reOp_eq _) y_3 (reOp_eq _); exact ⟨fun c_9 => ⟨(hh.1 c_9).1, ⟨(hh.1 c_9).2.1, (hh.1 c_9).2.2.1, (hh.1 c_9).2.2.2.1, ⟨(hh.1 c_9).2.2.2.2.1, (hh.1 c_9).2.2.2.2.2⟩⟩⟩, fun c_9 => (hh.2 c_9)⟩)
def Body79 (N : Nat) (e : Edit)  : Prop := awp cfg (know (know79 N)) (drawOk cfg (know (know79 N))) Try.f79.ntmps lv79 (cd Try.f79 []) (entry (args79.can (e, ())) []) (EndsQ cfg Try.f79.ntmps Try.f79.results.toList (res79 (e, ())) [])
abbrev HB79 : Prop := ∀ (N : Nat) (e : Edit) (_ : Unit), pre79 (e, ()) → mu79 (e, ()) < N + 1 → Body79 N e
noncomputable def know110 (N : Nat) : List (FuncId × Fs U) := (79, fs args79 (fun a => [pre79 a, mu79 a < N]) res79) :: (110, fs args110 (fun a => [pre110 a, mu110 a < N]) res110) :: []
def lv110 : Lives U := fun i => match i with
  | 0 => ([(1, []), (2, [])], [((.loc 1), []), ((.loc 2), [])])
  | 1 => ([(1, []), (2, []), (4, [])], [((.loc 1), []), ((.loc 2), [])])
  | 2 => ([(1, []), (2, []), (4, []), (5, [])], [((.loc 1), []), ((.loc 2), [])])
  | 3 => ([(1, []), (2, [])], [((.loc 1), []), ((.loc 2), [])])
  | 4 => ([(1, []), (2, []), (4, []), (8, [])], [((.loc 1), []), ((.loc 2), [])])
  | 5 => ([(1, []), (2, [])], [((.loc 1), []), ((.loc 2), [])])
  | 6 => ([(1, []), (2, []), (11, [])], [((.loc 1), []), ((.loc 2), [])])
  | 7 => ([(1, []), (2, [])], [((.loc 1), []), ((.loc 2), [])])
  | 8 => ([(2, [])], [((.loc 2), [])])
  | _ => ([], [])
abbrev W110 (N : Nat) (o : Op) (Q : AExit → LSt U → Prop) := awp cfg (know (know110 N)) (drawOk cfg (know (know110 N))) Try.f110.ntmps lv110 (cd Try.f110 []) (⟨[(0, .agg [.int .i64 (OpOf.kind o), .int .i64 (OpOf.n o), .slice (U := U) .tree (OpOf.l o) .unk, .int .i64 (Edit.kind (OpOf.e o)), .int .i64 (Tree.kind (Edit.old (OpOf.e o))), .slice (U := U) .u64 (Tree.words (Edit.old (OpOf.e o))) .unk, .slice (U := U) .tree (Tree.kids (Edit.old (OpOf.e o))) .unk, .int .i64 (Tree.kind (Edit.new (OpOf.e o))), .slice (U := U) .u64 (Tree.words (Edit.new (OpOf.e o))) .unk, .slice (U := U) .tree (Tree.kids (Edit.new (OpOf.e o))) .unk, .slice (U := U) .wedit (Edit.words (OpOf.e o)) .unk, .slice (U := U) .kid (Edit.kids (OpOf.e o)) .unk, .int .i64 (Edit.list (OpOf.e o)), .slice (U := U) .op (Edit.ops (OpOf.e o)) .unk])], [], []⟩ : LSt U) Q
theorem vc110 (N : Nat) (o : Op) (Q : AExit → LSt U → Prop) (h : ∀ y_1, y_1 = ((OpOf.e o)) → ((((OpOf.kind o) : Int) == 1) = true → Q .ret (⟨[(2, .ptr (.loc 2) 0)], [((.loc 2), [.int .i64 2, .int .i64 (OpOf.n o), .slice (U := U) .tree (OpOf.l o) .unk, .int .i64 (Edit.kind (OpOf.e o)), .int .i64 (Tree.kind (Edit.old (OpOf.e o))), .slice (U := U) .u64 (Tree.words (Edit.old (OpOf.e o))) .unk, .slice (U := U) .tree (Tree.kids (Edit.old (OpOf.e o))) .unk, .int .i64 (Tree.kind (Edit.new (OpOf.e o))), .slice (U := U) .u64 (Tree.words (Edit.new (OpOf.e o))) .unk, .slice (U := U) .tree (Tree.kids (Edit.new (OpOf.e o))) .unk, .slice (U := U) .wedit (Edit.words (OpOf.e o)) .unk, .slice (U := U) .kid (Edit.kids (OpOf.e o)) .unk, .int .i64 (Edit.list (OpOf.e o)), .slice (U := U) .op (Edit.ops (OpOf.e o)) .unk])], []⟩ : LSt U)) ∧ ((((OpOf.kind o) : Int) == 1) = false → ((((OpOf.kind o) : Int) == 2) = true → Q .ret (⟨[(2, .ptr (.loc 2) 0)], [((.loc 2), [.int .i64 1, .int .i64 (OpOf.n o), .slice (U := U) .tree (OpOf.l o) .unk, .int .i64 (Edit.kind (OpOf.e o)), .int .i64 (Tree.kind (Edit.old (OpOf.e o))), .slice (U := U) .u64 (Tree.words (Edit.old (OpOf.e o))) .unk, .slice (U := U) .tree (Tree.kids (Edit.old (OpOf.e o))) .unk, .int .i64 (Tree.kind (Edit.new (OpOf.e o))), .slice (U := U) .u64 (Tree.words (Edit.new (OpOf.e o))) .unk, .slice (U := U) .tree (Tree.kids (Edit.new (OpOf.e o))) .unk, .slice (U := U) .wedit (Edit.words (OpOf.e o)) .unk, .slice (U := U) .kid (Edit.kids (OpOf.e o)) .unk, .int .i64 (Edit.list (OpOf.e o)), .slice (U := U) .op (Edit.ops (OpOf.e o)) .unk])], []⟩ : LSt U)) ∧ ((((OpOf.kind o) : Int) == 2) = false → ((((OpOf.kind o) : Int) == 3) = true → (pre79 (y_1, ())) ∧ (mu79 (y_1, ()) < N) ∧ (Q .ret (⟨[(2, .ptr (.loc 2) 0)], [((.loc 2), [.int .i64 (OpOf.kind o), .int .i64 (OpOf.n o), .slice (U := U) .tree (OpOf.l o) .unk, .int .i64 (Edit.kind (turnE y_1)), .int .i64 (Tree.kind (Edit.old (turnE y_1))), .slice (U := U) .u64 (Tree.words (Edit.old (turnE y_1))) .unk, .slice (U := U) .tree (Tree.kids (Edit.old (turnE y_1))) .unk, .int .i64 (Tree.kind (Edit.new (turnE y_1))), .slice (U := U) .u64 (Tree.words (Edit.new (turnE y_1))) .unk, .slice (U := U) .tree (Tree.kids (Edit.new (turnE y_1))) .unk, .slice (U := U) .wedit (Edit.words (turnE y_1)) .unk, .slice (U := U) .kid (Edit.kids (turnE y_1)) .unk, .int .i64 (Edit.list (turnE y_1)), .slice (U := U) .op (Edit.ops (turnE y_1)) .unk])], []⟩ : LSt U))) ∧ ((((OpOf.kind o) : Int) == 3) = false → Q .ret (⟨[(2, .ptr (.loc 2) 0)], [((.loc 2), [.int .i64 (OpOf.kind o), .int .i64 (OpOf.n o), .slice (U := U) .tree (OpOf.l o) .unk, .int .i64 (Edit.kind (OpOf.e o)), .int .i64 (Tree.kind (Edit.old (OpOf.e o))), .slice (U := U) .u64 (Tree.words (Edit.old (OpOf.e o))) .unk, .slice (U := U) .tree (Tree.kids (Edit.old (OpOf.e o))) .unk, .int .i64 (Tree.kind (Edit.new (OpOf.e o))), .slice (U := U) .u64 (Tree.words (Edit.new (OpOf.e o))) .unk, .slice (U := U) .tree (Tree.kids (Edit.new (OpOf.e o))) .unk, .slice (U := U) .wedit (Edit.words (OpOf.e o)) .unk, .slice (U := U) .kid (Edit.kids (OpOf.e o)) .unk, .int .i64 (Edit.list (OpOf.e o)), .slice (U := U) .op (Edit.ops (OpOf.e o)) .unk])], []⟩ : LSt U))))) :
    W110 N o Q := by
  have e_ : (W110 N o Q) = (let y_1 := (reEdit (OpOf.e o)); ((((((OpOf.kind o) == 1) = true → ((Q .ret (⟨[(2, .ptr (.loc 2) 0)], [((.loc 2), [.int .i64 2, .int .i64 (OpOf.n o), .slice (U := U) .tree (OpOf.l o) .unk, .int .i64 (Edit.kind (OpOf.e o)), .int .i64 (Tree.kind (Edit.old (OpOf.e o))), .slice (U := U) .u64 (Tree.words (Edit.old (OpOf.e o))) .unk, .slice (U := U) .tree (Tree.kids (Edit.old (OpOf.e o))) .unk, .int .i64 (Tree.kind (Edit.new (OpOf.e o))), .slice (U := U) .u64 (Tree.words (Edit.new (OpOf.e o))) .unk, .slice (U := U) .tree (Tree.kids (Edit.new (OpOf.e o))) .unk, .slice (U := U) .wedit (Edit.words (OpOf.e o)) .unk, .slice (U := U) .kid (Edit.kids (OpOf.e o)) .unk, .int .i64 (Edit.list (OpOf.e o)), .slice (U := U) .op (Edit.ops (OpOf.e o)) .unk])], []⟩ : LSt U)))) ∧ (((OpOf.kind o) == 1) = false → ((((OpOf.kind o) == 2) = true → ((Q .ret (⟨[(2, .ptr (.loc 2) 0)], [((.loc 2), [.int .i64 1, .int .i64 (OpOf.n o), .slice (U := U) .tree (OpOf.l o) .unk, .int .i64 (Edit.kind (OpOf.e o)), .int .i64 (Tree.kind (Edit.old (OpOf.e o))), .slice (U := U) .u64 (Tree.words (Edit.old (OpOf.e o))) .unk, .slice (U := U) .tree (Tree.kids (Edit.old (OpOf.e o))) .unk, .int .i64 (Tree.kind (Edit.new (OpOf.e o))), .slice (U := U) .u64 (Tree.words (Edit.new (OpOf.e o))) .unk, .slice (U := U) .tree (Tree.kids (Edit.new (OpOf.e o))) .unk, .slice (U := U) .wedit (Edit.words (OpOf.e o)) .unk, .slice (U := U) .kid (Edit.kids (OpOf.e o)) .unk, .int .i64 (Edit.list (OpOf.e o)), .slice (U := U) .op (Edit.ops (OpOf.e o)) .unk])], []⟩ : LSt U)))) ∧ (((OpOf.kind o) == 2) = false → ((((OpOf.kind o) == 3) = true → (pre79 (y_1, ())) ∧ (mu79 (y_1, ()) < N) ∧ ((Q .ret (⟨[(2, .ptr (.loc 2) 0)], [((.loc 2), [.int .i64 (OpOf.kind o), .int .i64 (OpOf.n o), .slice (U := U) .tree (OpOf.l o) .unk, .int .i64 (Edit.kind (turnE y_1)), .int .i64 (Tree.kind (Edit.old (turnE y_1))), .slice (U := U) .u64 (Tree.words (Edit.old (turnE y_1))) .unk, .slice (U := U) .tree (Tree.kids (Edit.old (turnE y_1))) .unk, .int .i64 (Tree.kind (Edit.new (turnE y_1))), .slice (U := U) .u64 (Tree.words (Edit.new (turnE y_1))) .unk, .slice (U := U) .tree (Tree.kids (Edit.new (turnE y_1))) .unk, .slice (U := U) .wedit (Edit.words (turnE y_1)) .unk, .slice (U := U) .kid (Edit.kids (turnE y_1)) .unk, .int .i64 (Edit.list (turnE y_1)), .slice (U := U) .op (Edit.ops (turnE y_1)) .unk])], []⟩ : LSt U)))) ∧ (((OpOf.kind o) == 3) = false → (Q .ret (⟨[(2, .ptr (.loc 2) 0)], [((.loc 2), [.int .i64 (OpOf.kind o), .int .i64 (OpOf.n o), .slice (U := U) .tree (OpOf.l o) .unk, .int .i64 (Edit.kind (OpOf.e o)), .int .i64 (Tree.kind (Edit.old (OpOf.e o))), .slice (U := U) .u64 (Tree.words (Edit.old (OpOf.e o))) .unk, .slice (U := U) .tree (Tree.kids (Edit.old (OpOf.e o))) .unk, .int .i64 (Tree.kind (Edit.new (OpOf.e o))), .slice (U := U) .u64 (Tree.words (Edit.new (OpOf.e o))) .unk, .slice (U := U) .tree (Tree.kids (Edit.new (OpOf.e o))) .unk, .slice (U := U) .wedit (Edit.words (OpOf.e o)) .unk, .slice (U := U) .kid (Edit.kids (OpOf.e o)) .unk, .int .i64 (Edit.list (OpOf.e o)), .slice (U := U) .op (Edit.ops (OpOf.e o)) .unk])], []⟩ : LSt U))))))))))) := by kernel_rfl
  exact e_.mpr (by intro y_1; have hh := h y_1 (reEdit_eq _); exact ⟨fun c_10 => (hh.1 c_10), fun c_10 => ⟨fun c_11 => ((hh.2 c_10).1 c_11), fun c_11 => ⟨fun c_12 => ⟨(((hh.2 c_10).2 c_11).1 c_12).1, (((hh.2 c_10).2 c_11).1 c_12).2.1, (((hh.2 c_10).2 c_11).1 c_12).2.2⟩, fun c_12 => (((hh.2 c_10).2 c_11).2 c_12)⟩⟩⟩)
def Body110 (N : Nat) (o : Op)  : Prop := awp cfg (know (know110 N)) (drawOk cfg (know (know110 N))) Try.f110.ntmps lv110 (cd Try.f110 []) (entry (args110.can (o, ())) []) (EndsQ cfg Try.f110.ntmps Try.f110.results.toList (res110 (o, ())) [])
abbrev HB110 : Prop := ∀ (N : Nat) (o : Op) (_ : Unit), pre110 (o, ()) → mu110 (o, ()) < N + 1 → Body110 N o
theorem make79_110 (ha : HB79) (hb : HB110) : Contract Try.prog cfg 79 spec79 ∧ Contract Try.prog cfg 110 spec110 :=
  contract_mut2 (μA := mu79) (μB := mu110) (l := []) cfgOk rfl (trivial) lv79 lv110 Try.func79 Try.func110 rfl rfl rfl rfl 1 1 (fun _ => rfl) (fun _ => rfl) (by decide) (by decide) (fun N ⟨e, _⟩ => ha N e ()) (fun N ⟨o, _⟩ => hb N o ())
end
end Go.AM.Ytlahjnelghpmeaa

namespace Go.AM.Ytlahjnelghpmeaa
open Go.AM Go.Proofs
theorem c124 : Contract Try.prog cfg 124 spec124 := by
  refine make124 c31 ?_
  intro l _ hp
  simp only [pre124] at hp
  have hl := massK_len l
  refine vc124 _ _ ?_
  refine loop_rule (ι := Int × List Tree) (fun s => head124_0 l s.1 s.2) (fun s => 0 ≤ s.1 ∧ s.1 ≤ l.length ∧ s.2.length = s.1 ∧ s.2 ++ normsT (l.drop s.1.toNat) = normsT l) (fun s => ((l.length : Int) - s.1).toNat) (0, []) rfl ⟨by simp, by simp, by simp, by simp⟩ ?_
  rintro ⟨i, out⟩ ⟨h1, h2, h3, h4⟩
  dsimp only at h1 h2 h3 h4
  refine vc124_l0 _ _ _ _ _ ?_
  (simp only [vcS])
  (simp only [Tree.eta, Edit.eta, Tree.kind_mk, Tree.words_mk, Tree.kids_mk])
  refine ⟨fun hi => ?_, fun hi => ?_⟩
  · have hm := massK_mem (mem_getD (l := l) (i := i.toNat) (by omega) Tree.nil)
    rw [dropI h1 hi Tree.nil] at h4
    simp only [normsT, List.map_cons] at h4
    refine ⟨⟨h1, hi⟩, by simp only [pre31]; omega, by simp; omega, by unfold InR; omega, (i + 1, out ++ [normT (l.getD i.toNat Tree.nil)]), rfl, ⟨by dsimp only; omega, by dsimp only; omega, by simp; omega, ?_⟩, by dsimp only; omega⟩
    simp only [List.append_assoc, List.cons_append, List.nil_append]
    exact h4
  · rw [List.drop_of_length_le (by omega)] at h4
    simp only [normsT, List.map_nil, List.append_nil] at h4
    rw [h4]
    (repeat' (first | exact trivial | exact rfl | apply And.intro))
theorem gapT_drop {kind : Int} {l : List Op} {i : Int} (h0 : 0 ≤ i) (h : i < l.length) : gapT kind (l.drop i.toNat) = if (l.getD i.toNat Op.nil).kind = 1 ∨ (l.getD i.toNat Op.nil).kind = 2 then (if (l.getD i.toNat Op.nil).kind = kind then normsT (l.getD i.toNat Op.nil).l else []) ++ gapT kind (l.drop (i + 1).toNat) else [] := by
  rw [dropI h0 h Op.nil, gapT]
theorem gapN_drop {l : List Op} {i : Int} (h0 : 0 ≤ i) (h : i < l.length) : gapN (l.drop i.toNat) = if (l.getD i.toNat Op.nil).kind = 1 ∨ (l.getD i.toNat Op.nil).kind = 2 then 1 + gapN (l.drop (i + 1).toNat) else 0 := by
  rw [dropI h0 h Op.nil, gapN]
theorem massOs_drop (n : Nat) : ∀ (l : List Op), massOs (l.drop n) ≤ massOs l := by
  induction n with
  | zero => intro l; simp
  | succ n ih =>
    intro l
    cases l with
    | nil => simp
    | cons t r => simp only [List.drop_succ_cons, massOs]; have := ih r; omega
theorem c108 : Contract Try.prog cfg 108 spec108 := by
  refine make108 c124 ?_
  intro l from_ kind _ hp
  simp only [pre108] at hp
  obtain ⟨hm, hf0, hf1⟩ := hp
  have hl := massOs_len l
  refine vc108 _ _ _ _ ?_
  refine loop_rule (ι := Int × List Tree) (fun s => head108_0 l from_ kind s.1 s.2) (fun s => from_ ≤ s.1 ∧ s.1 ≤ l.length ∧ s.2.length + massOs (l.drop s.1.toNat) ≤ massOs l ∧ s.2 ++ gapT kind (l.drop s.1.toNat) = gapT kind (l.drop from_.toNat) ∧ s.1 + gapN (l.drop s.1.toNat) = from_ + gapN (l.drop from_.toNat)) (fun s => ((l.length : Int) - s.1).toNat) (from_, []) rfl ⟨by simp, by simpa using hf1, by have := massOs_drop from_.toNat l; simpa using this, by simp, rfl⟩ ?_
  rintro ⟨i, out⟩ ⟨h1, h2, h3, h4, h5⟩
  dsimp only at h1 h2 h3 h4 h5
  refine vc108_l0 _ _ _ _ _ _ _ ?_
  rintro y hy
  (simp only [vcS])
  refine ⟨fun hi => ⟨by omega, hi⟩, fun hi => ⟨by omega, hi.1⟩, fun hi => ?_, fun hi => ?_⟩
  · obtain ⟨hi, hk⟩ := hi
    have hmem := massOs_mem (mem_getD (l := l) (i := i.toNat) (by omega) Op.nil)
    have hd := congrArg massOs (dropI (show 0 ≤ i by omega) hi Op.nil)
    rw [massOs_cons] at hd
    rw [gapT_drop (by omega) hi] at h4
    rw [gapN_drop (by omega) hi] at h5
    rw [← hy] at h4 h5 hmem hd
    rw [if_pos hk] at h4 h5
    rw [massOp_e] at hmem hd
    have hkl := massK_len y.l
    have hyl : (normsT y.l).length = y.l.length := by simp [normsT]
    refine ⟨⟨by omega, hi⟩, fun hq => ⟨⟨by omega, hi⟩, by simp only [pre124]; omega, by rw [hyl]; omega, by unfold InR; omega, (i + 1, out ++ normsT y.l), rfl, ⟨by dsimp only; omega, by dsimp only; omega, by simp; omega, ?_, by dsimp only; omega⟩, by dsimp only; omega⟩, fun hq => ⟨by unfold InR; omega, (i + 1, out), rfl, ⟨by dsimp only; omega, by dsimp only; omega, by dsimp only; omega, ?_, by dsimp only; omega⟩, by dsimp only; omega⟩⟩
    · rw [if_pos hq, ← List.append_assoc] at h4; exact h4
    · rw [if_neg hq, List.nil_append] at h4; exact h4
  · have e1 : gapT kind (l.drop i.toNat) = [] ∧ gapN (l.drop i.toNat) = 0 := by
      by_cases hc : i < l.length
      · rw [gapT_drop (by omega) hc, gapN_drop (by omega) hc, ← hy, if_neg (by omega), if_neg (by omega)]
        exact ⟨rfl, rfl⟩
      · rw [List.drop_of_length_le (by omega)]
        exact ⟨rfl, rfl⟩
    rw [e1.1, List.append_nil] at h4
    rw [e1.2] at h5
    have e2 : i = from_ + gapN (l.drop from_.toNat) := by omega
    simp only [res108, ← h4, ← e2]
    (repeat' (first | exact trivial | exact rfl | apply And.intro))
theorem turnOp_at (o : Op) : turnOp o = if o.kind = 1 then ⟨2, o.n, o.l, o.e⟩ else if o.kind = 2 then ⟨1, o.n, o.l, o.e⟩ else if o.kind = 3 then ⟨o.kind, o.n, o.l, turnE o.e⟩ else ⟨o.kind, o.n, o.l, o.e⟩ := by cases o; rfl
theorem turnE_at (e : Edit) : turnE e = .mk e.kind e.new e.old (e.words.map turnW) (turnKs e.kids) e.list (turnOs e.ops) := by cases e; rfl
theorem turnKid_at (k : Kid) : turnKid k = ⟨k.at_, turnE k.e⟩ := by cases k; rfl
theorem b110 : HB110 := by
  intro N o _ hp hN
  simp only [pre110, mu110] at hp hN
  rw [massOp_e] at hp hN
  have hpos := massE_pos o.e
  refine vc110 _ _ _ ?_
  rintro y hy
  (simp only [vcS])
  refine ⟨fun h => ?_, fun h => ⟨fun h2 => ?_, fun h2 => ⟨fun h3 => ⟨by simp only [pre79, hy]; omega, by simp only [mu79, hy]; omega, ?_⟩, fun h3 => ?_⟩⟩⟩
  · have e : turnOp o = ⟨2, o.n, o.l, o.e⟩ := by rw [turnOp_at, if_pos h]
    simp only [res110, e]
    (repeat' (first | exact trivial | exact rfl | apply And.intro))
  · have e : turnOp o = ⟨1, o.n, o.l, o.e⟩ := by rw [turnOp_at, if_neg h, if_pos h2]
    simp only [res110, e]
    (repeat' (first | exact trivial | exact rfl | apply And.intro))
  · have e : turnOp o = ⟨o.kind, o.n, o.l, turnE o.e⟩ := by rw [turnOp_at, if_neg h, if_neg h2, if_pos h3]
    simp only [res110, e]
    rw [hy]
    (repeat' (first | exact trivial | exact rfl | apply And.intro))
  · have e : turnOp o = ⟨o.kind, o.n, o.l, o.e⟩ := by rw [turnOp_at, if_neg h, if_neg h2, if_neg h3]
    simp only [res110, e]
    (repeat' (first | exact trivial | exact rfl | apply And.intro))
theorem b79 : HB79 := by
  intro N e _ hp hN
  simp only [pre79, mu79] at hp hN
  have h1 := len_massE e
  have h2 := massKs_len e.kids
  have h3 := massOs_len e.ops
  have ha := turnE_at e
  refine vc79 _ _ _ ?_
  refine loop_rule (ι := Int × List WEdit) (fun s => head79_0 e s.1 s.2) (fun s => 0 ≤ s.1 ∧ s.1 ≤ e.words.length ∧ s.2.length = s.1 ∧ s.2 ++ (e.words.drop s.1.toNat).map turnW = e.words.map turnW) (fun s => ((e.words.length : Int) - s.1).toNat) (0, []) rfl ⟨by simp, by simp, by simp, by simp⟩ ?_
  rintro ⟨i, ws⟩ ⟨g1, g2, g3, g4⟩
  dsimp only at g1 g2 g3 g4
  refine vc79_l0 _ _ _ _ _ _ ?_
  (simp only [vcS])
  refine ⟨fun hi => ?_, fun hi => ?_⟩
  · rw [dropI g1 hi (WEdit.mk 0 0 0 0)] at g4
    simp only [List.map_cons] at g4
    refine ⟨⟨g1, hi⟩, by simp; omega, by unfold InR; omega, (i + 1, ws ++ [turnW (e.words.getD i.toNat (WEdit.mk 0 0 0 0))]), rfl, ⟨by dsimp only; omega, by dsimp only; omega, by simp; omega, ?_⟩, by dsimp only; omega⟩
    simp only [List.append_assoc, List.cons_append, List.nil_append]
    exact g4
  · rw [List.drop_of_length_le (by omega)] at g4
    simp only [List.map_nil, List.append_nil] at g4
    refine loop_rule (ι := Int × List Kid) (fun s => head79_1 e ws s.1 s.2) (fun s => 0 ≤ s.1 ∧ s.1 ≤ e.kids.length ∧ s.2.length = s.1 ∧ s.2 ++ turnKs (e.kids.drop s.1.toNat) = turnKs e.kids) (fun s => ((e.kids.length : Int) - s.1).toNat) (0, []) rfl ⟨by simp, by simp, by simp, by simp⟩ ?_
    rintro ⟨j, ks⟩ ⟨f1, f2, f3, f4⟩
    dsimp only at f1 f2 f3 f4
    refine vc79_l1 _ _ _ _ _ _ _ ?_
    rintro y1 hy1 y2 hy2 y3 hy3
    (simp only [vcS])
    refine ⟨fun hj => ?_, fun hj => ?_⟩
    · have hm := massKs_mem (mem_getD (l := e.kids) (i := j.toNat) (by omega) (KidOf.mk 0 Edit.nil))
      rw [dropI f1 hj (KidOf.mk 0 Edit.nil)] at f4
      rw [← hy1] at f4 hm
      simp only [turnKs, turnKid_at] at f4
      rw [← hy2] at f4 hm
      rw [← hy3] at f4
      refine ⟨⟨f1, hj⟩, by simp only [pre79]; omega, by simp only [mu79]; omega, by simp; omega, by unfold InR; omega, (j + 1, ks ++ [⟨y1.at_, y3⟩]), rfl, ⟨by dsimp only; omega, by dsimp only; omega, by simp; omega, ?_⟩, by dsimp only; omega⟩
      simp only [List.append_assoc, List.cons_append, List.nil_append]
      exact f4
    · rw [List.drop_of_length_le (by omega)] at f4
      simp only [turnKs, List.append_nil] at f4
      refine loop_rule (ι := Int × List Op) (fun s => head79_2 e ws ks s.1 s.2) (fun s => 0 ≤ s.1 ∧ s.1 ≤ e.ops.length ∧ s.2.length = s.1 ∧ s.2 ++ turnOs (e.ops.drop s.1.toNat) = turnOs e.ops) (fun s => ((e.ops.length : Int) - s.1).toNat) (0, []) rfl ⟨by simp, by simp, by simp, by simp⟩ ?_
      rintro ⟨k, os⟩ ⟨d1, d2, d3, d4⟩
      dsimp only at d1 d2 d3 d4
      refine vc79_l2 _ _ _ _ _ _ _ _ ?_
      rintro z1 hz1 z2 hz2 z3 hz3
      (simp only [vcS])
      refine ⟨fun hj => ?_, fun hj => ?_⟩
      · have hm := massOs_mem (mem_getD (l := e.ops) (i := k.toNat) (by omega) Op.nil)
        rw [dropI d1 hj Op.nil] at d4
        rw [← hz1, ← hz2] at d4 hm
        simp only [turnOs] at d4
        rw [← hz3] at d4
        refine ⟨⟨d1, hj⟩, by simp only [pre110]; omega, by simp only [mu110]; omega, by simp; omega, by unfold InR; omega, (k + 1, os ++ [z3]), rfl, ⟨by dsimp only; omega, by dsimp only; omega, by simp; omega, ?_⟩, by dsimp only; omega⟩
        simp only [List.append_assoc, List.cons_append, List.nil_append]
        exact d4
      · rw [List.drop_of_length_le (by omega)] at d4
        simp only [turnOs, List.append_nil] at d4
        rw [g4, f4, d4]
        simp only [res79, ha]
        (repeat' (first | exact trivial | exact rfl | apply And.intro))
theorem c79_110 : Contract Try.prog cfg 79 spec79 ∧ Contract Try.prog cfg 110 spec110 := make79_110 b79 b110
end Go.AM.Ytlahjnelghpmeaa

namespace Go.AM.Ytlahjnelghpmeaa
open Go.AM Go.Proofs
theorem keepO_cases : ∀ (l : List Op) (n : Int), keepO l n = l ++ [⟨0, n, [], Edit.nil⟩] ∨ ∃ a o, l = a ++ [o] ∧ o.kind = 0 ∧ keepO l n = a ++ [⟨o.kind, o.n + n, o.l, o.e⟩]
  | [], n => Or.inl rfl
  | [o], n => by
    by_cases h : o.kind = 0
    · exact Or.inr ⟨[], o, rfl, h, by simp [keepO, h]⟩
    · exact Or.inl (by simp [keepO, h])
  | o :: p :: r, n => by
    rcases keepO_cases (p :: r) n with h | ⟨a, q, h1, h2, h3⟩
    · exact Or.inl (by simp only [keepO, h, List.cons_append])
    · exact Or.inr ⟨o :: a, q, by rw [h1]; rfl, h2, by simp only [keepO, h3, List.cons_append]⟩
def W0 : Wst := ⟨[], [], []⟩
end Go.AM.Ytlahjnelghpmeaa
