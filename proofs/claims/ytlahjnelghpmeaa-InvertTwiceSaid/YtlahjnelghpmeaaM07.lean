/- Steps side by side: what the functions of chapter 24 compute. -/
import Derived.Test.YtlahjnelghpmeaaB20c
import Derived.Test.YtlahjnelghpmeaaAmZ
import Derived.Test.YtlahjnelghpmeaaB07
import Derived.Test.YtlahjnelghpmeaaRB07
set_option linter.unusedSimpArgs false
set_option linter.unusedVariables false
namespace Go.AM

noncomputable def eqX {α : Type} (a b : α) : Bool := @decide (a = b) (Classical.propDecidable _)
theorem eqX_iff {α : Type} {a b : α} : eqX a b = true ↔ a = b := by unfold eqX; exact @decide_eq_true_iff _ (Classical.propDecidable _)
@[simp] theorem eqX_self {α : Type} (a : α) : eqX a a = true := eqX_iff.2 rfl

def unitsOp (i alone : Int) (o : Op) : List AUnit :=
  (if o.kind = 0 then List.replicate o.n.toNat ⟨i, 0, Tree.nil, Edit.nil, false⟩ else [])
    ++ (o.l.map (fun t => ⟨i, o.kind, t, Edit.nil, decide (o.kind = alone)⟩)
    ++ (if o.kind = 3 then [⟨i, 3, Tree.nil, o.e, false⟩] else []))
def opU (u : AUnit) : Op := if u.kind = 0 then ⟨0, 1, [], Edit.nil⟩ else if u.kind = 3 then ⟨3, 0, [], u.e⟩ else ⟨u.kind, 0, [u.t], Edit.nil⟩

end Go.AM

namespace Go.AM.Ytlahjnelghpmeaa
open Go.AM Go.Proofs

def args77 : ArgL (List Tree × List Tree × Unit) := (.cons (aSl .tree) (.cons (aSl .tree) .nil))
def pre77 (a : List Tree × List Tree × Unit) : Prop := massK a.1 ≤ 1000000
noncomputable def res77 (a : List Tree × List Tree × Unit) : V U := .c (.bool (eqX a.1 a.2.1))
noncomputable def spec77 : Fs U := fs args77 (fun a => [pre77 a]) res77

def args39 : ArgL (Edit × Edit × Unit) := (.cons (aEl .edit) (.cons (aEl .edit) .nil))
def pre39 (a : Edit × Edit × Unit) : Prop := massE a.1 ≤ 1000000
def mu39 (a : Edit × Edit × Unit) : Nat := massE a.1
noncomputable def res39 (a : Edit × Edit × Unit) : V U := .c (.bool (eqX a.1 a.2.1))
noncomputable def spec39 : Fs U := fs args39 (fun a => [pre39 a]) res39

noncomputable def know77 : List (FuncId × Fs U) := [(33, spec33)]
def lv77 : Lives U := fun i => match i with
  | 0 => ([(0, []), (1, [])], [])
  | 1 => ([(0, []), (1, []), (10, [])], [])
  | 2 => ([(4, [])], [])
  | 3 => ([(0, []), (1, []), (5, [])], [])
  | 4 => ([(0, []), (1, []), (5, []), (14, [])], [])
  | 5 => ([(0, []), (1, []), (5, [])], [])
  | 6 => ([(0, []), (1, []), (5, []), (26, [])], [])
  | 7 => ([(4, [])], [])
  | 8 => ([(4, [])], [])
  | _ => ([], [])
def head77_0 (a : List Tree) (b : List Tree) (x5 : Int) : LSt U := (⟨[(0, .c (.slice (U := U) .tree a .unk)), (1, .c (.slice (U := U) .tree b .unk)), (5, .c (.int .i64 x5))], [], []⟩ : LSt U)
abbrev W77 (a : List Tree) (b : List Tree) (Q : AExit → LSt U → Prop) : Prop := awp cfg (know know77) (drawOk cfg (know know77)) Try.f77.ntmps lv77 (cd Try.f77 []) (⟨[(0, .c (.slice (U := U) .tree a .unk)), (1, .c (.slice (U := U) .tree b .unk))], [], []⟩ : LSt U) Q
theorem vc77 (a : List Tree) (b : List Tree) (Q : AExit → LSt U → Prop) (h : ((((a.length : Int) : Int) != (b.length : Int)) = true → Q .ret (⟨[(4, .c (.bool false))], [], []⟩ : LSt U)) ∧ ((((a.length : Int) : Int) != (b.length : Int)) = false → LoopWp (awp cfg (know know77) (drawOk cfg (know know77)) Try.f77.ntmps lv77 (cd Try.f77 [1, 1, 0, 1, 0, 0])) (head77_0 a b 0) (AExit.inBlock 0 (seqK cfg (know know77) (drawOk cfg (know know77)) Try.f77.ntmps lv77 (cd Try.f77 [1, 1, 1]) Q)))) :
    W77 a b Q := by
  have e_ : (W77 a b Q) = (((((((a.length : Int) : Int) != (b.length : Int)) = true → (Q .ret (⟨[(4, .c (.bool false))], [], []⟩ : LSt U))) ∧ ((((a.length : Int) : Int) != (b.length : Int)) = false → (LoopWp (awp cfg (know know77) (drawOk cfg (know know77)) Try.f77.ntmps lv77 (cd Try.f77 [1, 1, 0, 1, 0, 0])) (head77_0 a b 0) (AExit.inBlock 0 (seqK cfg (know know77) (drawOk cfg (know know77)) Try.f77.ntmps lv77 (cd Try.f77 [1, 1, 1]) Q))))))) := by kernel_rfl
  exact e_.mpr ⟨fun c_19 => (h.1 c_19), fun c_19 => (h.2 c_19)⟩
abbrev W77_l0 (a : List Tree) (b : List Tree) (x5 : Int) (N0 : LSt U → Prop) (Q : AExit → LSt U → Prop) : Prop := awp cfg (know know77) (drawOk cfg (know know77)) Try.f77.ntmps lv77 (cd Try.f77 [1, 1, 0, 1, 0, 0]) (head77_0 a b x5) (AExit.then N0 (AExit.inBlock 0 (seqK cfg (know know77) (drawOk cfg (know know77)) Try.f77.ntmps lv77 (cd Try.f77 [1, 1, 1]) Q)))
theorem vc77_l0 (a : List Tree) (b : List Tree) (x5 : Int) (N0 : LSt U → Prop) (Q : AExit → LSt U → Prop) (h : ((decide ((x5 : Int) < (a.length : Int))) = true → ((0 : Int) ≤ x5 ∧ x5 < (a.length : Int)) ∧ ((0 : Int) ≤ x5 ∧ x5 < (b.length : Int)) ∧ (pre33 ((Tree.mk (Tree.kind (List.getD a (Int.toNat x5) Tree.nil)) (Tree.words (List.getD a (Int.toNat x5) Tree.nil)) (Tree.kids (List.getD a (Int.toNat x5) Tree.nil))), (Tree.mk (Tree.kind (List.getD b (Int.toNat x5) Tree.nil)) (Tree.words (List.getD b (Int.toNat x5) Tree.nil)) (Tree.kids (List.getD b (Int.toNat x5) Tree.nil))), ())) ∧ (((!(sameT (Tree.mk (Tree.kind (List.getD a (Int.toNat x5) Tree.nil)) (Tree.words (List.getD a (Int.toNat x5) Tree.nil)) (Tree.kids (List.getD a (Int.toNat x5) Tree.nil))) (Tree.mk (Tree.kind (List.getD b (Int.toNat x5) Tree.nil)) (Tree.words (List.getD b (Int.toNat x5) Tree.nil)) (Tree.kids (List.getD b (Int.toNat x5) Tree.nil))))) = true → Q .ret (⟨[(4, .c (.bool false))], [], []⟩ : LSt U)) ∧ ((!(sameT (Tree.mk (Tree.kind (List.getD a (Int.toNat x5) Tree.nil)) (Tree.words (List.getD a (Int.toNat x5) Tree.nil)) (Tree.kids (List.getD a (Int.toNat x5) Tree.nil))) (Tree.mk (Tree.kind (List.getD b (Int.toNat x5) Tree.nil)) (Tree.words (List.getD b (Int.toNat x5) Tree.nil)) (Tree.kids (List.getD b (Int.toNat x5) Tree.nil))))) = false → (InR ((x5 : Int) + 1)) ∧ (N0 (head77_0 a b ((x5 : Int) + 1)))))) ∧ ((decide ((x5 : Int) < (a.length : Int))) = false → Q .ret (⟨[(4, .c (.bool true))], [], []⟩ : LSt U))) :
    W77_l0 a b x5 N0 Q := by
  have e_ : (W77_l0 a b x5 N0 Q) = ((((decide ((x5 : Int) < (a.length : Int))) = true → ((0 : Int) ≤ x5 ∧ x5 < (a.length : Int)) ∧ ((0 : Int) ≤ x5 ∧ x5 < (b.length : Int)) ∧ (pre33 ((Tree.mk (Tree.kind (List.getD a (Int.toNat x5) Tree.nil)) (Tree.words (List.getD a (Int.toNat x5) Tree.nil)) (Tree.kids (List.getD a (Int.toNat x5) Tree.nil))), (Tree.mk (Tree.kind (List.getD b (Int.toNat x5) Tree.nil)) (Tree.words (List.getD b (Int.toNat x5) Tree.nil)) (Tree.kids (List.getD b (Int.toNat x5) Tree.nil))), ())) ∧ (((!(sameT (Tree.mk (Tree.kind (List.getD a (Int.toNat x5) Tree.nil)) (Tree.words (List.getD a (Int.toNat x5) Tree.nil)) (Tree.kids (List.getD a (Int.toNat x5) Tree.nil))) (Tree.mk (Tree.kind (List.getD b (Int.toNat x5) Tree.nil)) (Tree.words (List.getD b (Int.toNat x5) Tree.nil)) (Tree.kids (List.getD b (Int.toNat x5) Tree.nil))))) = true → (Q .ret (⟨[(4, .c (.bool false))], [], []⟩ : LSt U))) ∧ ((!(sameT (Tree.mk (Tree.kind (List.getD a (Int.toNat x5) Tree.nil)) (Tree.words (List.getD a (Int.toNat x5) Tree.nil)) (Tree.kids (List.getD a (Int.toNat x5) Tree.nil))) (Tree.mk (Tree.kind (List.getD b (Int.toNat x5) Tree.nil)) (Tree.words (List.getD b (Int.toNat x5) Tree.nil)) (Tree.kids (List.getD b (Int.toNat x5) Tree.nil))))) = false → (InR ((x5 : Int) + 1)) ∧ (N0 (head77_0 a b ((x5 : Int) + 1)))))) ∧ ((decide ((x5 : Int) < (a.length : Int))) = false → (Q .ret (⟨[(4, .c (.bool true))], [], []⟩ : LSt U))))) := by kernel_rfl
  exact e_.mpr ⟨fun c_20 => ⟨(h.1 c_20).1, (h.1 c_20).2.1, (h.1 c_20).2.2.1, ⟨fun c_21 => ((h.1 c_20).2.2.2.1 c_21), fun c_21 => ⟨((h.1 c_20).2.2.2.2 c_21).1, ((h.1 c_20).2.2.2.2 c_21).2⟩⟩⟩, fun c_20 => (h.2 c_20)⟩
def Body77 (a : List Tree) (b : List Tree)  : Prop := awp cfg (know (know77)) (drawOk cfg (know (know77))) Try.f77.ntmps lv77 (cd Try.f77 []) (entry (args77.can (a, b, ())) []) (EndsQ cfg Try.f77.ntmps Try.f77.results.toList (res77 (a, b, ())) [])
theorem make77 (c33 : Contract Try.prog cfg 33 spec33) (hb : ∀ (a : List Tree) (b : List Tree) (_ : Unit), pre77 (a, b, ()) → Body77 a b) : Contract Try.prog cfg 77 spec77 :=
  contract_flat (l := [(33, spec33)]) cfgOk rfl (⟨c33, trivial⟩) lv77 Try.func77 rfl rfl 2 (fun _ => rfl) (by decide) (fun ⟨a, b, _⟩ => hb a b ())

noncomputable def know39 (N : Nat) : List (FuncId × Fs U) := (39, fs args39 (fun a => [pre39 a, mu39 a < N]) res39) :: [(33, spec33), (77, spec77)]
def lv39 : Lives U := fun i => match i with
  | 0 => ([(2, []), (3, [])], [((.loc 2), []), ((.loc 3), [])])
  | 1 => ([(2, []), (3, []), (64, [])], [((.loc 2), []), ((.loc 3), [])])
  | 2 => ([(4, [])], [])
  | 3 => ([(2, []), (3, []), (5, [])], [((.loc 2), []), ((.loc 3), [])])
  | 4 => ([(2, []), (3, []), (5, []), (69, [])], [((.loc 2), []), ((.loc 3), [])])
  | 5 => ([(2, []), (3, []), (5, [])], [((.loc 2), []), ((.loc 3), [])])
  | 6 => ([(2, []), (3, []), (5, []), (82, [])], [((.loc 2), []), ((.loc 3), [])])
  | 7 => ([(4, [])], [])
  | 8 => ([(2, []), (3, []), (6, [])], [((.loc 2), []), ((.loc 3), [])])
  | 9 => ([(2, []), (3, []), (6, []), (87, [])], [((.loc 2), []), ((.loc 3), [])])
  | 10 => ([(2, []), (3, []), (6, [])], [((.loc 2), []), ((.loc 3), [])])
  | 11 => ([(2, []), (3, []), (6, []), (118, [])], [((.loc 2), []), ((.loc 3), [])])
  | 12 => ([(4, [])], [])
  | 13 => ([(2, []), (3, []), (7, [])], [((.loc 2), []), ((.loc 3), [])])
  | 14 => ([(2, []), (3, []), (7, []), (123, [])], [((.loc 2), []), ((.loc 3), [])])
  | 15 => ([(2, []), (3, []), (7, [])], [((.loc 2), []), ((.loc 3), [])])
  | 16 => ([(2, []), (3, []), (7, []), (8, []), (9, [])], [((.loc 2), []), ((.loc 3), []), ((.loc 8), []), ((.loc 9), [])])
  | 17 => ([(2, []), (3, []), (7, []), (163, [])], [((.loc 2), []), ((.loc 3), [])])
  | 18 => ([(4, [])], [])
  | 19 => ([(4, [])], [])
  | _ => ([], [])
def head39_0 (a : Edit) (b : Edit) (x5 : Int) : LSt U := (⟨[(2, .ptr (.loc 2) 0), (3, .ptr (.loc 3) 0), (5, .c (.int .i64 x5))], [((.loc 2), [.int .i64 (Edit.kind a), .int .i64 (Tree.kind (Edit.old a)), .slice (U := U) .u64 (Tree.words (Edit.old a)) .unk, .slice (U := U) .tree (Tree.kids (Edit.old a)) .unk, .int .i64 (Tree.kind (Edit.new a)), .slice (U := U) .u64 (Tree.words (Edit.new a)) .unk, .slice (U := U) .tree (Tree.kids (Edit.new a)) .unk, .slice (U := U) .wedit (Edit.words a) .unk, .slice (U := U) .kid (Edit.kids a) .unk, .int .i64 (Edit.list a), .slice (U := U) .op (Edit.ops a) .unk]), ((.loc 3), [.int .i64 (Edit.kind b), .int .i64 (Tree.kind (Edit.old b)), .slice (U := U) .u64 (Tree.words (Edit.old b)) .unk, .slice (U := U) .tree (Tree.kids (Edit.old b)) .unk, .int .i64 (Tree.kind (Edit.new b)), .slice (U := U) .u64 (Tree.words (Edit.new b)) .unk, .slice (U := U) .tree (Tree.kids (Edit.new b)) .unk, .slice (U := U) .wedit (Edit.words b) .unk, .slice (U := U) .kid (Edit.kids b) .unk, .int .i64 (Edit.list b), .slice (U := U) .op (Edit.ops b) .unk])], []⟩ : LSt U)
def head39_1 (a : Edit) (b : Edit) (x6_a : Int) : LSt U := (⟨[(2, .ptr (.loc 2) 0), (3, .ptr (.loc 3) 0), (6, .c (.int .i64 x6_a))], [((.loc 2), [.int .i64 (Edit.kind a), .int .i64 (Tree.kind (Edit.old a)), .slice (U := U) .u64 (Tree.words (Edit.old a)) .unk, .slice (U := U) .tree (Tree.kids (Edit.old a)) .unk, .int .i64 (Tree.kind (Edit.new a)), .slice (U := U) .u64 (Tree.words (Edit.new a)) .unk, .slice (U := U) .tree (Tree.kids (Edit.new a)) .unk, .slice (U := U) .wedit (Edit.words a) .unk, .slice (U := U) .kid (Edit.kids a) .unk, .int .i64 (Edit.list a), .slice (U := U) .op (Edit.ops a) .unk]), ((.loc 3), [.int .i64 (Edit.kind b), .int .i64 (Tree.kind (Edit.old b)), .slice (U := U) .u64 (Tree.words (Edit.old b)) .unk, .slice (U := U) .tree (Tree.kids (Edit.old b)) .unk, .int .i64 (Tree.kind (Edit.new b)), .slice (U := U) .u64 (Tree.words (Edit.new b)) .unk, .slice (U := U) .tree (Tree.kids (Edit.new b)) .unk, .slice (U := U) .wedit (Edit.words b) .unk, .slice (U := U) .kid (Edit.kids b) .unk, .int .i64 (Edit.list b), .slice (U := U) .op (Edit.ops b) .unk])], []⟩ : LSt U)
def head39_2 (a : Edit) (b : Edit) (x7_b : Int) : LSt U := (⟨[(2, .ptr (.loc 2) 0), (3, .ptr (.loc 3) 0), (7, .c (.int .i64 x7_b))], [((.loc 2), [.int .i64 (Edit.kind a), .int .i64 (Tree.kind (Edit.old a)), .slice (U := U) .u64 (Tree.words (Edit.old a)) .unk, .slice (U := U) .tree (Tree.kids (Edit.old a)) .unk, .int .i64 (Tree.kind (Edit.new a)), .slice (U := U) .u64 (Tree.words (Edit.new a)) .unk, .slice (U := U) .tree (Tree.kids (Edit.new a)) .unk, .slice (U := U) .wedit (Edit.words a) .unk, .slice (U := U) .kid (Edit.kids a) .unk, .int .i64 (Edit.list a), .slice (U := U) .op (Edit.ops a) .unk]), ((.loc 3), [.int .i64 (Edit.kind b), .int .i64 (Tree.kind (Edit.old b)), .slice (U := U) .u64 (Tree.words (Edit.old b)) .unk, .slice (U := U) .tree (Tree.kids (Edit.old b)) .unk, .int .i64 (Tree.kind (Edit.new b)), .slice (U := U) .u64 (Tree.words (Edit.new b)) .unk, .slice (U := U) .tree (Tree.kids (Edit.new b)) .unk, .slice (U := U) .wedit (Edit.words b) .unk, .slice (U := U) .kid (Edit.kids b) .unk, .int .i64 (Edit.list b), .slice (U := U) .op (Edit.ops b) .unk])], []⟩ : LSt U)
abbrev W39 (N : Nat) (a : Edit) (b : Edit) (Q : AExit → LSt U → Prop) : Prop := awp cfg (know (know39 N)) (drawOk cfg (know (know39 N))) Try.f39.ntmps lv39 (cd Try.f39 []) (⟨[(0, .agg [.int .i64 (Edit.kind a), .int .i64 (Tree.kind (Edit.old a)), .slice (U := U) .u64 (Tree.words (Edit.old a)) .unk, .slice (U := U) .tree (Tree.kids (Edit.old a)) .unk, .int .i64 (Tree.kind (Edit.new a)), .slice (U := U) .u64 (Tree.words (Edit.new a)) .unk, .slice (U := U) .tree (Tree.kids (Edit.new a)) .unk, .slice (U := U) .wedit (Edit.words a) .unk, .slice (U := U) .kid (Edit.kids a) .unk, .int .i64 (Edit.list a), .slice (U := U) .op (Edit.ops a) .unk]), (1, .agg [.int .i64 (Edit.kind b), .int .i64 (Tree.kind (Edit.old b)), .slice (U := U) .u64 (Tree.words (Edit.old b)) .unk, .slice (U := U) .tree (Tree.kids (Edit.old b)) .unk, .int .i64 (Tree.kind (Edit.new b)), .slice (U := U) .u64 (Tree.words (Edit.new b)) .unk, .slice (U := U) .tree (Tree.kids (Edit.new b)) .unk, .slice (U := U) .wedit (Edit.words b) .unk, .slice (U := U) .kid (Edit.kids b) .unk, .int .i64 (Edit.list b), .slice (U := U) .op (Edit.ops b) .unk])], [], []⟩ : LSt U) Q
theorem vc39 (N : Nat) (a : Edit) (b : Edit) (Q : AExit → LSt U → Prop) (h : ∀ y_1, y_1 = ((Edit.new a)) → ∀ y_2, y_2 = ((Edit.new b)) → ∀ y_3, y_3 = ((Edit.old a)) → ∀ y_4, y_4 = ((Edit.old b)) → ((!(bif (((Edit.kind a) : Int) != (Edit.kind b)) then true else (((Edit.list a) : Int) != (Edit.list b)))) = true → pre33 (y_3, y_4, ())) ∧ ((!(bif (bif (((Edit.kind a) : Int) != (Edit.kind b)) then true else (((Edit.list a) : Int) != (Edit.list b))) then true else (!(sameT y_3 y_4)))) = true → pre33 (y_1, y_2, ())) ∧ (((bif (bif (bif (bif (bif (bif (((Edit.kind a) : Int) != (Edit.kind b)) then true else (((Edit.list a) : Int) != (Edit.list b))) then true else (!(sameT y_3 y_4))) then true else (!(sameT y_1 y_2))) then true else ((((Edit.words a).length : Int) : Int) != ((Edit.words b).length : Int))) then true else ((((Edit.kids a).length : Int) : Int) != ((Edit.kids b).length : Int))) then true else ((((Edit.ops a).length : Int) : Int) != ((Edit.ops b).length : Int))) = true → Q .ret (⟨[(4, .c (.bool false))], [], []⟩ : LSt U)) ∧ ((bif (bif (bif (bif (bif (bif (((Edit.kind a) : Int) != (Edit.kind b)) then true else (((Edit.list a) : Int) != (Edit.list b))) then true else (!(sameT y_3 y_4))) then true else (!(sameT y_1 y_2))) then true else ((((Edit.words a).length : Int) : Int) != ((Edit.words b).length : Int))) then true else ((((Edit.kids a).length : Int) : Int) != ((Edit.kids b).length : Int))) then true else ((((Edit.ops a).length : Int) : Int) != ((Edit.ops b).length : Int))) = false → LoopWp (awp cfg (know (know39 N)) (drawOk cfg (know (know39 N))) Try.f39.ntmps lv39 (cd Try.f39 [1, 1, 0, 1, 0, 0])) (head39_0 a b 0) (AExit.inBlock 0 (seqK cfg (know (know39 N)) (drawOk cfg (know (know39 N))) Try.f39.ntmps lv39 (cd Try.f39 [1, 1, 1]) Q))))) :
    W39 N a b Q := by
  have e_ : (W39 N a b Q) = (let y_1 := (reTree (Edit.new a)); let y_2 := (reTree (Edit.new b)); let y_3 := (reTree (Edit.old a)); let y_4 := (reTree (Edit.old b)); (((!(((Edit.kind a) : Int) != (Edit.kind b))) = true → (!(((Edit.kind a) : Int) != (Edit.kind b))) = true) ∧ ((!(((Edit.kind a) : Int) != (Edit.kind b))) = true → (!(((Edit.kind a) : Int) != (Edit.kind b))) = true) ∧ ((!(((Edit.kind a) : Int) != (Edit.kind b))) = true → (!(((Edit.kind a) : Int) != (Edit.kind b))) = true) ∧ ((!(((Edit.kind a) : Int) != (Edit.kind b))) = true → (!(((Edit.kind a) : Int) != (Edit.kind b))) = true) ∧ (((((Edit.kind a) : Int) != (Edit.kind b)) = false → (!(((Edit.kind a) : Int) != (Edit.kind b))) = true)) ∧ ((!(bif (((Edit.kind a) : Int) != (Edit.kind b)) then true else (((Edit.list a) : Int) != (Edit.list b)))) = true → (!(bif (((Edit.kind a) : Int) != (Edit.kind b)) then true else (((Edit.list a) : Int) != (Edit.list b)))) = true) ∧ ((!(bif (((Edit.kind a) : Int) != (Edit.kind b)) then true else (((Edit.list a) : Int) != (Edit.list b)))) = true → (!(bif (((Edit.kind a) : Int) != (Edit.kind b)) then true else (((Edit.list a) : Int) != (Edit.list b)))) = true) ∧ ((!(bif (((Edit.kind a) : Int) != (Edit.kind b)) then true else (((Edit.list a) : Int) != (Edit.list b)))) = true → (!(bif (((Edit.kind a) : Int) != (Edit.kind b)) then true else (((Edit.list a) : Int) != (Edit.list b)))) = true) ∧ ((!(bif (((Edit.kind a) : Int) != (Edit.kind b)) then true else (((Edit.list a) : Int) != (Edit.list b)))) = true → (!(bif (((Edit.kind a) : Int) != (Edit.kind b)) then true else (((Edit.list a) : Int) != (Edit.list b)))) = true) ∧ ((!(bif (((Edit.kind a) : Int) != (Edit.kind b)) then true else (((Edit.list a) : Int) != (Edit.list b)))) = true → pre33 (y_3, y_4, ())) ∧ ((!(bif (((Edit.kind a) : Int) != (Edit.kind b)) then true else (((Edit.list a) : Int) != (Edit.list b)))) = true → (!(bif (((Edit.kind a) : Int) != (Edit.kind b)) then true else (((Edit.list a) : Int) != (Edit.list b)))) = true) ∧ (((bif (((Edit.kind a) : Int) != (Edit.kind b)) then true else (((Edit.list a) : Int) != (Edit.list b))) = false → (!(bif (((Edit.kind a) : Int) != (Edit.kind b)) then true else (((Edit.list a) : Int) != (Edit.list b)))) = true)) ∧ ((!(bif (bif (((Edit.kind a) : Int) != (Edit.kind b)) then true else (((Edit.list a) : Int) != (Edit.list b))) then true else (!(sameT y_3 y_4)))) = true → (!(bif (bif (((Edit.kind a) : Int) != (Edit.kind b)) then true else (((Edit.list a) : Int) != (Edit.list b))) then true else (!(sameT y_3 y_4)))) = true) ∧ ((!(bif (bif (((Edit.kind a) : Int) != (Edit.kind b)) then true else (((Edit.list a) : Int) != (Edit.list b))) then true else (!(sameT y_3 y_4)))) = true → (!(bif (bif (((Edit.kind a) : Int) != (Edit.kind b)) then true else (((Edit.list a) : Int) != (Edit.list b))) then true else (!(sameT y_3 y_4)))) = true) ∧ ((!(bif (bif (((Edit.kind a) : Int) != (Edit.kind b)) then true else (((Edit.list a) : Int) != (Edit.list b))) then true else (!(sameT y_3 y_4)))) = true → (!(bif (bif (((Edit.kind a) : Int) != (Edit.kind b)) then true else (((Edit.list a) : Int) != (Edit.list b))) then true else (!(sameT y_3 y_4)))) = true) ∧ ((!(bif (bif (((Edit.kind a) : Int) != (Edit.kind b)) then true else (((Edit.list a) : Int) != (Edit.list b))) then true else (!(sameT y_3 y_4)))) = true → (!(bif (bif (((Edit.kind a) : Int) != (Edit.kind b)) then true else (((Edit.list a) : Int) != (Edit.list b))) then true else (!(sameT y_3 y_4)))) = true) ∧ ((!(bif (bif (((Edit.kind a) : Int) != (Edit.kind b)) then true else (((Edit.list a) : Int) != (Edit.list b))) then true else (!(sameT y_3 y_4)))) = true → pre33 (y_1, y_2, ())) ∧ ((!(bif (bif (((Edit.kind a) : Int) != (Edit.kind b)) then true else (((Edit.list a) : Int) != (Edit.list b))) then true else (!(sameT y_3 y_4)))) = true → (!(bif (bif (((Edit.kind a) : Int) != (Edit.kind b)) then true else (((Edit.list a) : Int) != (Edit.list b))) then true else (!(sameT y_3 y_4)))) = true) ∧ (((bif (bif (((Edit.kind a) : Int) != (Edit.kind b)) then true else (((Edit.list a) : Int) != (Edit.list b))) then true else (!(sameT y_3 y_4))) = false → (!(bif (bif (((Edit.kind a) : Int) != (Edit.kind b)) then true else (((Edit.list a) : Int) != (Edit.list b))) then true else (!(sameT y_3 y_4)))) = true)) ∧ ((!(bif (bif (bif (((Edit.kind a) : Int) != (Edit.kind b)) then true else (((Edit.list a) : Int) != (Edit.list b))) then true else (!(sameT y_3 y_4))) then true else (!(sameT y_1 y_2)))) = true → (!(bif (bif (bif (((Edit.kind a) : Int) != (Edit.kind b)) then true else (((Edit.list a) : Int) != (Edit.list b))) then true else (!(sameT y_3 y_4))) then true else (!(sameT y_1 y_2)))) = true) ∧ ((!(bif (bif (bif (((Edit.kind a) : Int) != (Edit.kind b)) then true else (((Edit.list a) : Int) != (Edit.list b))) then true else (!(sameT y_3 y_4))) then true else (!(sameT y_1 y_2)))) = true → (!(bif (bif (bif (((Edit.kind a) : Int) != (Edit.kind b)) then true else (((Edit.list a) : Int) != (Edit.list b))) then true else (!(sameT y_3 y_4))) then true else (!(sameT y_1 y_2)))) = true) ∧ ((!(bif (bif (bif (((Edit.kind a) : Int) != (Edit.kind b)) then true else (((Edit.list a) : Int) != (Edit.list b))) then true else (!(sameT y_3 y_4))) then true else (!(sameT y_1 y_2)))) = true → (!(bif (bif (bif (((Edit.kind a) : Int) != (Edit.kind b)) then true else (((Edit.list a) : Int) != (Edit.list b))) then true else (!(sameT y_3 y_4))) then true else (!(sameT y_1 y_2)))) = true) ∧ ((!(bif (bif (bif (((Edit.kind a) : Int) != (Edit.kind b)) then true else (((Edit.list a) : Int) != (Edit.list b))) then true else (!(sameT y_3 y_4))) then true else (!(sameT y_1 y_2)))) = true → (!(bif (bif (bif (((Edit.kind a) : Int) != (Edit.kind b)) then true else (((Edit.list a) : Int) != (Edit.list b))) then true else (!(sameT y_3 y_4))) then true else (!(sameT y_1 y_2)))) = true) ∧ ((!(bif (bif (bif (((Edit.kind a) : Int) != (Edit.kind b)) then true else (((Edit.list a) : Int) != (Edit.list b))) then true else (!(sameT y_3 y_4))) then true else (!(sameT y_1 y_2)))) = true → (!(bif (bif (bif (((Edit.kind a) : Int) != (Edit.kind b)) then true else (((Edit.list a) : Int) != (Edit.list b))) then true else (!(sameT y_3 y_4))) then true else (!(sameT y_1 y_2)))) = true) ∧ ((!(bif (bif (bif (((Edit.kind a) : Int) != (Edit.kind b)) then true else (((Edit.list a) : Int) != (Edit.list b))) then true else (!(sameT y_3 y_4))) then true else (!(sameT y_1 y_2)))) = true → (!(bif (bif (bif (((Edit.kind a) : Int) != (Edit.kind b)) then true else (((Edit.list a) : Int) != (Edit.list b))) then true else (!(sameT y_3 y_4))) then true else (!(sameT y_1 y_2)))) = true) ∧ (((bif (bif (bif (((Edit.kind a) : Int) != (Edit.kind b)) then true else (((Edit.list a) : Int) != (Edit.list b))) then true else (!(sameT y_3 y_4))) then true else (!(sameT y_1 y_2))) = false → (!(bif (bif (bif (((Edit.kind a) : Int) != (Edit.kind b)) then true else (((Edit.list a) : Int) != (Edit.list b))) then true else (!(sameT y_3 y_4))) then true else (!(sameT y_1 y_2)))) = true)) ∧ ((!(bif (bif (bif (bif (((Edit.kind a) : Int) != (Edit.kind b)) then true else (((Edit.list a) : Int) != (Edit.list b))) then true else (!(sameT y_3 y_4))) then true else (!(sameT y_1 y_2))) then true else ((((Edit.words a).length : Int) : Int) != ((Edit.words b).length : Int)))) = true → (!(bif (bif (bif (bif (((Edit.kind a) : Int) != (Edit.kind b)) then true else (((Edit.list a) : Int) != (Edit.list b))) then true else (!(sameT y_3 y_4))) then true else (!(sameT y_1 y_2))) then true else ((((Edit.words a).length : Int) : Int) != ((Edit.words b).length : Int)))) = true) ∧ ((!(bif (bif (bif (bif (((Edit.kind a) : Int) != (Edit.kind b)) then true else (((Edit.list a) : Int) != (Edit.list b))) then true else (!(sameT y_3 y_4))) then true else (!(sameT y_1 y_2))) then true else ((((Edit.words a).length : Int) : Int) != ((Edit.words b).length : Int)))) = true → (!(bif (bif (bif (bif (((Edit.kind a) : Int) != (Edit.kind b)) then true else (((Edit.list a) : Int) != (Edit.list b))) then true else (!(sameT y_3 y_4))) then true else (!(sameT y_1 y_2))) then true else ((((Edit.words a).length : Int) : Int) != ((Edit.words b).length : Int)))) = true) ∧ ((!(bif (bif (bif (bif (((Edit.kind a) : Int) != (Edit.kind b)) then true else (((Edit.list a) : Int) != (Edit.list b))) then true else (!(sameT y_3 y_4))) then true else (!(sameT y_1 y_2))) then true else ((((Edit.words a).length : Int) : Int) != ((Edit.words b).length : Int)))) = true → (!(bif (bif (bif (bif (((Edit.kind a) : Int) != (Edit.kind b)) then true else (((Edit.list a) : Int) != (Edit.list b))) then true else (!(sameT y_3 y_4))) then true else (!(sameT y_1 y_2))) then true else ((((Edit.words a).length : Int) : Int) != ((Edit.words b).length : Int)))) = true) ∧ ((!(bif (bif (bif (bif (((Edit.kind a) : Int) != (Edit.kind b)) then true else (((Edit.list a) : Int) != (Edit.list b))) then true else (!(sameT y_3 y_4))) then true else (!(sameT y_1 y_2))) then true else ((((Edit.words a).length : Int) : Int) != ((Edit.words b).length : Int)))) = true → (!(bif (bif (bif (bif (((Edit.kind a) : Int) != (Edit.kind b)) then true else (((Edit.list a) : Int) != (Edit.list b))) then true else (!(sameT y_3 y_4))) then true else (!(sameT y_1 y_2))) then true else ((((Edit.words a).length : Int) : Int) != ((Edit.words b).length : Int)))) = true) ∧ ((!(bif (bif (bif (bif (((Edit.kind a) : Int) != (Edit.kind b)) then true else (((Edit.list a) : Int) != (Edit.list b))) then true else (!(sameT y_3 y_4))) then true else (!(sameT y_1 y_2))) then true else ((((Edit.words a).length : Int) : Int) != ((Edit.words b).length : Int)))) = true → (!(bif (bif (bif (bif (((Edit.kind a) : Int) != (Edit.kind b)) then true else (((Edit.list a) : Int) != (Edit.list b))) then true else (!(sameT y_3 y_4))) then true else (!(sameT y_1 y_2))) then true else ((((Edit.words a).length : Int) : Int) != ((Edit.words b).length : Int)))) = true) ∧ ((!(bif (bif (bif (bif (((Edit.kind a) : Int) != (Edit.kind b)) then true else (((Edit.list a) : Int) != (Edit.list b))) then true else (!(sameT y_3 y_4))) then true else (!(sameT y_1 y_2))) then true else ((((Edit.words a).length : Int) : Int) != ((Edit.words b).length : Int)))) = true → (!(bif (bif (bif (bif (((Edit.kind a) : Int) != (Edit.kind b)) then true else (((Edit.list a) : Int) != (Edit.list b))) then true else (!(sameT y_3 y_4))) then true else (!(sameT y_1 y_2))) then true else ((((Edit.words a).length : Int) : Int) != ((Edit.words b).length : Int)))) = true) ∧ (((bif (bif (bif (bif (((Edit.kind a) : Int) != (Edit.kind b)) then true else (((Edit.list a) : Int) != (Edit.list b))) then true else (!(sameT y_3 y_4))) then true else (!(sameT y_1 y_2))) then true else ((((Edit.words a).length : Int) : Int) != ((Edit.words b).length : Int))) = false → (!(bif (bif (bif (bif (((Edit.kind a) : Int) != (Edit.kind b)) then true else (((Edit.list a) : Int) != (Edit.list b))) then true else (!(sameT y_3 y_4))) then true else (!(sameT y_1 y_2))) then true else ((((Edit.words a).length : Int) : Int) != ((Edit.words b).length : Int)))) = true)) ∧ ((!(bif (bif (bif (bif (bif (((Edit.kind a) : Int) != (Edit.kind b)) then true else (((Edit.list a) : Int) != (Edit.list b))) then true else (!(sameT y_3 y_4))) then true else (!(sameT y_1 y_2))) then true else ((((Edit.words a).length : Int) : Int) != ((Edit.words b).length : Int))) then true else ((((Edit.kids a).length : Int) : Int) != ((Edit.kids b).length : Int)))) = true → (!(bif (bif (bif (bif (bif (((Edit.kind a) : Int) != (Edit.kind b)) then true else (((Edit.list a) : Int) != (Edit.list b))) then true else (!(sameT y_3 y_4))) then true else (!(sameT y_1 y_2))) then true else ((((Edit.words a).length : Int) : Int) != ((Edit.words b).length : Int))) then true else ((((Edit.kids a).length : Int) : Int) != ((Edit.kids b).length : Int)))) = true) ∧ ((!(bif (bif (bif (bif (bif (((Edit.kind a) : Int) != (Edit.kind b)) then true else (((Edit.list a) : Int) != (Edit.list b))) then true else (!(sameT y_3 y_4))) then true else (!(sameT y_1 y_2))) then true else ((((Edit.words a).length : Int) : Int) != ((Edit.words b).length : Int))) then true else ((((Edit.kids a).length : Int) : Int) != ((Edit.kids b).length : Int)))) = true → (!(bif (bif (bif (bif (bif (((Edit.kind a) : Int) != (Edit.kind b)) then true else (((Edit.list a) : Int) != (Edit.list b))) then true else (!(sameT y_3 y_4))) then true else (!(sameT y_1 y_2))) then true else ((((Edit.words a).length : Int) : Int) != ((Edit.words b).length : Int))) then true else ((((Edit.kids a).length : Int) : Int) != ((Edit.kids b).length : Int)))) = true) ∧ ((!(bif (bif (bif (bif (bif (((Edit.kind a) : Int) != (Edit.kind b)) then true else (((Edit.list a) : Int) != (Edit.list b))) then true else (!(sameT y_3 y_4))) then true else (!(sameT y_1 y_2))) then true else ((((Edit.words a).length : Int) : Int) != ((Edit.words b).length : Int))) then true else ((((Edit.kids a).length : Int) : Int) != ((Edit.kids b).length : Int)))) = true → (!(bif (bif (bif (bif (bif (((Edit.kind a) : Int) != (Edit.kind b)) then true else (((Edit.list a) : Int) != (Edit.list b))) then true else (!(sameT y_3 y_4))) then true else (!(sameT y_1 y_2))) then true else ((((Edit.words a).length : Int) : Int) != ((Edit.words b).length : Int))) then true else ((((Edit.kids a).length : Int) : Int) != ((Edit.kids b).length : Int)))) = true) ∧ ((!(bif (bif (bif (bif (bif (((Edit.kind a) : Int) != (Edit.kind b)) then true else (((Edit.list a) : Int) != (Edit.list b))) then true else (!(sameT y_3 y_4))) then true else (!(sameT y_1 y_2))) then true else ((((Edit.words a).length : Int) : Int) != ((Edit.words b).length : Int))) then true else ((((Edit.kids a).length : Int) : Int) != ((Edit.kids b).length : Int)))) = true → (!(bif (bif (bif (bif (bif (((Edit.kind a) : Int) != (Edit.kind b)) then true else (((Edit.list a) : Int) != (Edit.list b))) then true else (!(sameT y_3 y_4))) then true else (!(sameT y_1 y_2))) then true else ((((Edit.words a).length : Int) : Int) != ((Edit.words b).length : Int))) then true else ((((Edit.kids a).length : Int) : Int) != ((Edit.kids b).length : Int)))) = true) ∧ ((!(bif (bif (bif (bif (bif (((Edit.kind a) : Int) != (Edit.kind b)) then true else (((Edit.list a) : Int) != (Edit.list b))) then true else (!(sameT y_3 y_4))) then true else (!(sameT y_1 y_2))) then true else ((((Edit.words a).length : Int) : Int) != ((Edit.words b).length : Int))) then true else ((((Edit.kids a).length : Int) : Int) != ((Edit.kids b).length : Int)))) = true → (!(bif (bif (bif (bif (bif (((Edit.kind a) : Int) != (Edit.kind b)) then true else (((Edit.list a) : Int) != (Edit.list b))) then true else (!(sameT y_3 y_4))) then true else (!(sameT y_1 y_2))) then true else ((((Edit.words a).length : Int) : Int) != ((Edit.words b).length : Int))) then true else ((((Edit.kids a).length : Int) : Int) != ((Edit.kids b).length : Int)))) = true) ∧ ((!(bif (bif (bif (bif (bif (((Edit.kind a) : Int) != (Edit.kind b)) then true else (((Edit.list a) : Int) != (Edit.list b))) then true else (!(sameT y_3 y_4))) then true else (!(sameT y_1 y_2))) then true else ((((Edit.words a).length : Int) : Int) != ((Edit.words b).length : Int))) then true else ((((Edit.kids a).length : Int) : Int) != ((Edit.kids b).length : Int)))) = true → (!(bif (bif (bif (bif (bif (((Edit.kind a) : Int) != (Edit.kind b)) then true else (((Edit.list a) : Int) != (Edit.list b))) then true else (!(sameT y_3 y_4))) then true else (!(sameT y_1 y_2))) then true else ((((Edit.words a).length : Int) : Int) != ((Edit.words b).length : Int))) then true else ((((Edit.kids a).length : Int) : Int) != ((Edit.kids b).length : Int)))) = true) ∧ (((bif (bif (bif (bif (bif (((Edit.kind a) : Int) != (Edit.kind b)) then true else (((Edit.list a) : Int) != (Edit.list b))) then true else (!(sameT y_3 y_4))) then true else (!(sameT y_1 y_2))) then true else ((((Edit.words a).length : Int) : Int) != ((Edit.words b).length : Int))) then true else ((((Edit.kids a).length : Int) : Int) != ((Edit.kids b).length : Int))) = false → (!(bif (bif (bif (bif (bif (((Edit.kind a) : Int) != (Edit.kind b)) then true else (((Edit.list a) : Int) != (Edit.list b))) then true else (!(sameT y_3 y_4))) then true else (!(sameT y_1 y_2))) then true else ((((Edit.words a).length : Int) : Int) != ((Edit.words b).length : Int))) then true else ((((Edit.kids a).length : Int) : Int) != ((Edit.kids b).length : Int)))) = true)) ∧ (((bif (bif (bif (bif (bif (bif (((Edit.kind a) : Int) != (Edit.kind b)) then true else (((Edit.list a) : Int) != (Edit.list b))) then true else (!(sameT y_3 y_4))) then true else (!(sameT y_1 y_2))) then true else ((((Edit.words a).length : Int) : Int) != ((Edit.words b).length : Int))) then true else ((((Edit.kids a).length : Int) : Int) != ((Edit.kids b).length : Int))) then true else ((((Edit.ops a).length : Int) : Int) != ((Edit.ops b).length : Int))) = true → (Q .ret (⟨[(4, .c (.bool false))], [], []⟩ : LSt U))) ∧ ((bif (bif (bif (bif (bif (bif (((Edit.kind a) : Int) != (Edit.kind b)) then true else (((Edit.list a) : Int) != (Edit.list b))) then true else (!(sameT y_3 y_4))) then true else (!(sameT y_1 y_2))) then true else ((((Edit.words a).length : Int) : Int) != ((Edit.words b).length : Int))) then true else ((((Edit.kids a).length : Int) : Int) != ((Edit.kids b).length : Int))) then true else ((((Edit.ops a).length : Int) : Int) != ((Edit.ops b).length : Int))) = false → (LoopWp (awp cfg (know (know39 N)) (drawOk cfg (know (know39 N))) Try.f39.ntmps lv39 (cd Try.f39 [1, 1, 0, 1, 0, 0])) (head39_0 a b 0) (AExit.inBlock 0 (seqK cfg (know (know39 N)) (drawOk cfg (know (know39 N))) Try.f39.ntmps lv39 (cd Try.f39 [1, 1, 1]) Q))))))) := by kernel_rfl
  exact e_.mpr (by intro y_1 y_2 y_3 y_4; have hh := h y_1 (reTree_eq _) y_2 (reTree_eq _) y_3 (reTree_eq _) y_4 (reTree_eq _); exact ⟨fun x => x, fun x => x, fun x => x, fun x => x, (by generalize (((Edit.kind a) : Int) != (Edit.kind b)) = b0; revert b0; decide), fun x => x, fun x => x, fun x => x, fun x => x, hh.1, fun x => x, (by generalize (((Edit.list a) : Int) != (Edit.list b)) = b0; generalize (((Edit.kind a) : Int) != (Edit.kind b)) = b1; revert b0 b1; decide), fun x => x, fun x => x, fun x => x, fun x => x, hh.2.1, fun x => x, (by generalize (sameT y_3 y_4) = b0; generalize (((Edit.list a) : Int) != (Edit.list b)) = b1; generalize (((Edit.kind a) : Int) != (Edit.kind b)) = b2; revert b0 b1 b2; decide), fun x => x, fun x => x, fun x => x, fun x => x, fun x => x, fun x => x, (by generalize (sameT y_1 y_2) = b0; generalize (sameT y_3 y_4) = b1; generalize (((Edit.list a) : Int) != (Edit.list b)) = b2; generalize (((Edit.kind a) : Int) != (Edit.kind b)) = b3; revert b0 b1 b2 b3; decide), fun x => x, fun x => x, fun x => x, fun x => x, fun x => x, fun x => x, (by generalize (sameT y_3 y_4) = b0; generalize (sameT y_1 y_2) = b1; generalize ((((Edit.words a).length : Int) : Int) != ((Edit.words b).length : Int)) = b2; generalize (((Edit.list a) : Int) != (Edit.list b)) = b3; generalize (((Edit.kind a) : Int) != (Edit.kind b)) = b4; revert b0 b1 b2 b3 b4; decide), fun x => x, fun x => x, fun x => x, fun x => x, fun x => x, fun x => x, (by generalize (sameT y_3 y_4) = b0; generalize (sameT y_1 y_2) = b1; generalize ((((Edit.words a).length : Int) : Int) != ((Edit.words b).length : Int)) = b2; generalize ((((Edit.kids a).length : Int) : Int) != ((Edit.kids b).length : Int)) = b3; generalize (((Edit.list a) : Int) != (Edit.list b)) = b4; generalize (((Edit.kind a) : Int) != (Edit.kind b)) = b5; revert b0 b1 b2 b3 b4 b5; decide), ⟨fun c_22 => (hh.2.2.1 c_22), fun c_22 => (hh.2.2.2 c_22)⟩⟩)
abbrev W39_l0 (N : Nat) (a : Edit) (b : Edit) (x5 : Int) (N0 : LSt U → Prop) (Q : AExit → LSt U → Prop) : Prop := awp cfg (know (know39 N)) (drawOk cfg (know (know39 N))) Try.f39.ntmps lv39 (cd Try.f39 [1, 1, 0, 1, 0, 0]) (head39_0 a b x5) (AExit.then N0 (AExit.inBlock 0 (seqK cfg (know (know39 N)) (drawOk cfg (know (know39 N))) Try.f39.ntmps lv39 (cd Try.f39 [1, 1, 1]) Q)))
theorem vc39_l0 (N : Nat) (a : Edit) (b : Edit) (x5 : Int) (N0 : LSt U → Prop) (Q : AExit → LSt U → Prop) (h : ((decide ((x5 : Int) < ((Edit.words a).length : Int))) = true → ((0 : Int) ≤ x5 ∧ x5 < ((Edit.words a).length : Int)) ∧ ((0 : Int) ≤ x5 ∧ x5 < ((Edit.words b).length : Int)) ∧ (((!((((WEdit.at_ (List.getD (Edit.words a) (Int.toNat x5) (WEdit.mk 0 0 0 0))) : Int) == (WEdit.at_ (List.getD (Edit.words b) (Int.toNat x5) (WEdit.mk 0 0 0 0)))) && ((((WEdit.mask (List.getD (Edit.words a) (Int.toNat x5) (WEdit.mk 0 0 0 0))) : Int) == (WEdit.mask (List.getD (Edit.words b) (Int.toNat x5) (WEdit.mk 0 0 0 0)))) && ((((WEdit.old (List.getD (Edit.words a) (Int.toNat x5) (WEdit.mk 0 0 0 0))) : Int) == (WEdit.old (List.getD (Edit.words b) (Int.toNat x5) (WEdit.mk 0 0 0 0)))) && ((((WEdit.new (List.getD (Edit.words a) (Int.toNat x5) (WEdit.mk 0 0 0 0))) : Int) == (WEdit.new (List.getD (Edit.words b) (Int.toNat x5) (WEdit.mk 0 0 0 0)))) && true))))) = true → Q .ret (⟨[(4, .c (.bool false))], [], []⟩ : LSt U)) ∧ ((!((((WEdit.at_ (List.getD (Edit.words a) (Int.toNat x5) (WEdit.mk 0 0 0 0))) : Int) == (WEdit.at_ (List.getD (Edit.words b) (Int.toNat x5) (WEdit.mk 0 0 0 0)))) && ((((WEdit.mask (List.getD (Edit.words a) (Int.toNat x5) (WEdit.mk 0 0 0 0))) : Int) == (WEdit.mask (List.getD (Edit.words b) (Int.toNat x5) (WEdit.mk 0 0 0 0)))) && ((((WEdit.old (List.getD (Edit.words a) (Int.toNat x5) (WEdit.mk 0 0 0 0))) : Int) == (WEdit.old (List.getD (Edit.words b) (Int.toNat x5) (WEdit.mk 0 0 0 0)))) && ((((WEdit.new (List.getD (Edit.words a) (Int.toNat x5) (WEdit.mk 0 0 0 0))) : Int) == (WEdit.new (List.getD (Edit.words b) (Int.toNat x5) (WEdit.mk 0 0 0 0)))) && true))))) = false → (InR ((x5 : Int) + 1)) ∧ (N0 (head39_0 a b ((x5 : Int) + 1)))))) ∧ ((decide ((x5 : Int) < ((Edit.words a).length : Int))) = false → LoopWp (awp cfg (know (know39 N)) (drawOk cfg (know (know39 N))) Try.f39.ntmps lv39 (cd Try.f39 [1, 1, 1, 0, 1, 0, 0])) (head39_1 a b 0) (AExit.inBlock 2 (seqK cfg (know (know39 N)) (drawOk cfg (know (know39 N))) Try.f39.ntmps lv39 (cd Try.f39 [1, 1, 1, 1]) Q)))) :
    W39_l0 N a b x5 N0 Q := by
  have e_ : (W39_l0 N a b x5 N0 Q) = ((((decide ((x5 : Int) < ((Edit.words a).length : Int))) = true → ((0 : Int) ≤ x5 ∧ x5 < ((Edit.words a).length : Int)) ∧ ((0 : Int) ≤ x5 ∧ x5 < ((Edit.words b).length : Int)) ∧ (((!((((WEdit.at_ (List.getD (Edit.words a) (Int.toNat x5) (WEdit.mk 0 0 0 0))) : Int) == (WEdit.at_ (List.getD (Edit.words b) (Int.toNat x5) (WEdit.mk 0 0 0 0)))) && ((((WEdit.mask (List.getD (Edit.words a) (Int.toNat x5) (WEdit.mk 0 0 0 0))) : Int) == (WEdit.mask (List.getD (Edit.words b) (Int.toNat x5) (WEdit.mk 0 0 0 0)))) && ((((WEdit.old (List.getD (Edit.words a) (Int.toNat x5) (WEdit.mk 0 0 0 0))) : Int) == (WEdit.old (List.getD (Edit.words b) (Int.toNat x5) (WEdit.mk 0 0 0 0)))) && ((((WEdit.new (List.getD (Edit.words a) (Int.toNat x5) (WEdit.mk 0 0 0 0))) : Int) == (WEdit.new (List.getD (Edit.words b) (Int.toNat x5) (WEdit.mk 0 0 0 0)))) && true))))) = true → (Q .ret (⟨[(4, .c (.bool false))], [], []⟩ : LSt U))) ∧ ((!((((WEdit.at_ (List.getD (Edit.words a) (Int.toNat x5) (WEdit.mk 0 0 0 0))) : Int) == (WEdit.at_ (List.getD (Edit.words b) (Int.toNat x5) (WEdit.mk 0 0 0 0)))) && ((((WEdit.mask (List.getD (Edit.words a) (Int.toNat x5) (WEdit.mk 0 0 0 0))) : Int) == (WEdit.mask (List.getD (Edit.words b) (Int.toNat x5) (WEdit.mk 0 0 0 0)))) && ((((WEdit.old (List.getD (Edit.words a) (Int.toNat x5) (WEdit.mk 0 0 0 0))) : Int) == (WEdit.old (List.getD (Edit.words b) (Int.toNat x5) (WEdit.mk 0 0 0 0)))) && ((((WEdit.new (List.getD (Edit.words a) (Int.toNat x5) (WEdit.mk 0 0 0 0))) : Int) == (WEdit.new (List.getD (Edit.words b) (Int.toNat x5) (WEdit.mk 0 0 0 0)))) && true))))) = false → (InR ((x5 : Int) + 1)) ∧ (N0 (head39_0 a b ((x5 : Int) + 1)))))) ∧ ((decide ((x5 : Int) < ((Edit.words a).length : Int))) = false → (LoopWp (awp cfg (know (know39 N)) (drawOk cfg (know (know39 N))) Try.f39.ntmps lv39 (cd Try.f39 [1, 1, 1, 0, 1, 0, 0])) (head39_1 a b 0) (AExit.inBlock 2 (seqK cfg (know (know39 N)) (drawOk cfg (know (know39 N))) Try.f39.ntmps lv39 (cd Try.f39 [1, 1, 1, 1]) Q)))))) := by kernel_rfl
  exact e_.mpr ⟨fun c_23 => ⟨(h.1 c_23).1, (h.1 c_23).2.1, ⟨fun c_24 => ((h.1 c_23).2.2.1 c_24), fun c_24 => ⟨((h.1 c_23).2.2.2 c_24).1, ((h.1 c_23).2.2.2 c_24).2⟩⟩⟩, fun c_23 => (h.2 c_23)⟩
abbrev W39_l1 (N : Nat) (a : Edit) (b : Edit) (x6_a : Int) (N1 : LSt U → Prop) (Q : AExit → LSt U → Prop) : Prop := awp cfg (know (know39 N)) (drawOk cfg (know (know39 N))) Try.f39.ntmps lv39 (cd Try.f39 [1, 1, 1, 0, 1, 0, 0]) (head39_1 a b x6_a) (AExit.then N1 (AExit.inBlock 2 (seqK cfg (know (know39 N)) (drawOk cfg (know (know39 N))) Try.f39.ntmps lv39 (cd Try.f39 [1, 1, 1, 1]) Q)))
theorem vc39_l1 (N : Nat) (a : Edit) (b : Edit) (x6_a : Int) (N1 : LSt U → Prop) (Q : AExit → LSt U → Prop) (h : ∀ y_1, y_1 = (List.getD (Edit.kids a) (Int.toNat x6_a) (KidOf.mk 0 Edit.nil)) → ∀ y_2, y_2 = (List.getD (Edit.kids b) (Int.toNat x6_a) (KidOf.mk 0 Edit.nil)) → ∀ y_3, y_3 = ((KidOf.e y_1)) → ∀ y_4, y_4 = ((KidOf.e y_2)) → ((decide ((x6_a : Int) < ((Edit.kids a).length : Int))) = true → ((0 : Int) ≤ x6_a ∧ x6_a < ((Edit.kids a).length : Int)) ∧ ((0 : Int) ≤ x6_a ∧ x6_a < ((Edit.kids b).length : Int)) ∧ ((!(((KidOf.at_ y_1) : Int) != (KidOf.at_ y_2))) = true → (0 : Int) ≤ x6_a ∧ x6_a < ((Edit.kids a).length : Int)) ∧ ((!(((KidOf.at_ y_1) : Int) != (KidOf.at_ y_2))) = true → (0 : Int) ≤ x6_a ∧ x6_a < ((Edit.kids b).length : Int)) ∧ ((!(((KidOf.at_ y_1) : Int) != (KidOf.at_ y_2))) = true → pre39 (y_3, y_4, ())) ∧ ((!(((KidOf.at_ y_1) : Int) != (KidOf.at_ y_2))) = true → mu39 (y_3, y_4, ()) < N) ∧ (((bif (((KidOf.at_ y_1) : Int) != (KidOf.at_ y_2)) then true else (!(eqX y_3 y_4))) = true → Q .ret (⟨[(4, .c (.bool false))], [], []⟩ : LSt U)) ∧ ((bif (((KidOf.at_ y_1) : Int) != (KidOf.at_ y_2)) then true else (!(eqX y_3 y_4))) = false → (InR ((x6_a : Int) + 1)) ∧ (N1 (head39_1 a b ((x6_a : Int) + 1)))))) ∧ ((decide ((x6_a : Int) < ((Edit.kids a).length : Int))) = false → LoopWp (awp cfg (know (know39 N)) (drawOk cfg (know (know39 N))) Try.f39.ntmps lv39 (cd Try.f39 [1, 1, 1, 1, 0, 1, 0, 0])) (head39_2 a b 0) (AExit.inBlock 4 (seqK cfg (know (know39 N)) (drawOk cfg (know (know39 N))) Try.f39.ntmps lv39 (cd Try.f39 [1, 1, 1, 1, 1]) Q)))) :
    W39_l1 N a b x6_a N1 Q := by
  have e_ : (W39_l1 N a b x6_a N1 Q) = (let y_1 := (List.getD (Edit.kids a) (Int.toNat x6_a) (KidOf.mk 0 Edit.nil)); let y_2 := (List.getD (Edit.kids b) (Int.toNat x6_a) (KidOf.mk 0 Edit.nil)); let y_3 := (reEdit (KidOf.e y_1)); let y_4 := (reEdit (KidOf.e y_2)); (((decide ((x6_a : Int) < ((Edit.kids a).length : Int))) = true → ((0 : Int) ≤ x6_a ∧ x6_a < ((Edit.kids a).length : Int)) ∧ ((0 : Int) ≤ x6_a ∧ x6_a < ((Edit.kids b).length : Int)) ∧ ((!(((KidOf.at_ y_1) : Int) != (KidOf.at_ y_2))) = true → (!(((KidOf.at_ y_1) : Int) != (KidOf.at_ y_2))) = true) ∧ ((!(((KidOf.at_ y_1) : Int) != (KidOf.at_ y_2))) = true → (!(((KidOf.at_ y_1) : Int) != (KidOf.at_ y_2))) = true) ∧ ((!(((KidOf.at_ y_1) : Int) != (KidOf.at_ y_2))) = true → (!(((KidOf.at_ y_1) : Int) != (KidOf.at_ y_2))) = true) ∧ ((!(((KidOf.at_ y_1) : Int) != (KidOf.at_ y_2))) = true → (0 : Int) ≤ x6_a ∧ x6_a < ((Edit.kids a).length : Int)) ∧ ((!(((KidOf.at_ y_1) : Int) != (KidOf.at_ y_2))) = true → (!(((KidOf.at_ y_1) : Int) != (KidOf.at_ y_2))) = true) ∧ ((!(((KidOf.at_ y_1) : Int) != (KidOf.at_ y_2))) = true → (!(((KidOf.at_ y_1) : Int) != (KidOf.at_ y_2))) = true) ∧ ((!(((KidOf.at_ y_1) : Int) != (KidOf.at_ y_2))) = true → (!(((KidOf.at_ y_1) : Int) != (KidOf.at_ y_2))) = true) ∧ ((!(((KidOf.at_ y_1) : Int) != (KidOf.at_ y_2))) = true → (!(((KidOf.at_ y_1) : Int) != (KidOf.at_ y_2))) = true) ∧ ((!(((KidOf.at_ y_1) : Int) != (KidOf.at_ y_2))) = true → (!(((KidOf.at_ y_1) : Int) != (KidOf.at_ y_2))) = true) ∧ ((!(((KidOf.at_ y_1) : Int) != (KidOf.at_ y_2))) = true → (0 : Int) ≤ x6_a ∧ x6_a < ((Edit.kids b).length : Int)) ∧ ((!(((KidOf.at_ y_1) : Int) != (KidOf.at_ y_2))) = true → (!(((KidOf.at_ y_1) : Int) != (KidOf.at_ y_2))) = true) ∧ ((!(((KidOf.at_ y_1) : Int) != (KidOf.at_ y_2))) = true → (!(((KidOf.at_ y_1) : Int) != (KidOf.at_ y_2))) = true) ∧ ((!(((KidOf.at_ y_1) : Int) != (KidOf.at_ y_2))) = true → (!(((KidOf.at_ y_1) : Int) != (KidOf.at_ y_2))) = true) ∧ ((!(((KidOf.at_ y_1) : Int) != (KidOf.at_ y_2))) = true → (!(((KidOf.at_ y_1) : Int) != (KidOf.at_ y_2))) = true) ∧ ((!(((KidOf.at_ y_1) : Int) != (KidOf.at_ y_2))) = true → pre39 (y_3, y_4, ())) ∧ ((!(((KidOf.at_ y_1) : Int) != (KidOf.at_ y_2))) = true → mu39 (y_3, y_4, ()) < N) ∧ ((!(((KidOf.at_ y_1) : Int) != (KidOf.at_ y_2))) = true → (!(((KidOf.at_ y_1) : Int) != (KidOf.at_ y_2))) = true) ∧ (((((KidOf.at_ y_1) : Int) != (KidOf.at_ y_2)) = false → (!(((KidOf.at_ y_1) : Int) != (KidOf.at_ y_2))) = true)) ∧ (((bif (((KidOf.at_ y_1) : Int) != (KidOf.at_ y_2)) then true else (!(eqX y_3 y_4))) = true → (Q .ret (⟨[(4, .c (.bool false))], [], []⟩ : LSt U))) ∧ ((bif (((KidOf.at_ y_1) : Int) != (KidOf.at_ y_2)) then true else (!(eqX y_3 y_4))) = false → (InR ((x6_a : Int) + 1)) ∧ (N1 (head39_1 a b ((x6_a : Int) + 1)))))) ∧ ((decide ((x6_a : Int) < ((Edit.kids a).length : Int))) = false → (LoopWp (awp cfg (know (know39 N)) (drawOk cfg (know (know39 N))) Try.f39.ntmps lv39 (cd Try.f39 [1, 1, 1, 1, 0, 1, 0, 0])) (head39_2 a b 0) (AExit.inBlock 4 (seqK cfg (know (know39 N)) (drawOk cfg (know (know39 N))) Try.f39.ntmps lv39 (cd Try.f39 [1, 1, 1, 1, 1]) Q)))))) := by kernel_rfl
  exact e_.mpr (by intro y_1 y_2 y_3 y_4; have hh := h y_1 rfl y_2 rfl y_3 (reEdit_eq _) y_4 (reEdit_eq _); exact ⟨fun c_25 => ⟨(hh.1 c_25).1, (hh.1 c_25).2.1, fun x => x, fun x => x, fun x => x, (hh.1 c_25).2.2.1, fun x => x, fun x => x, fun x => x, fun x => x, fun x => x, (hh.1 c_25).2.2.2.1, fun x => x, fun x => x, fun x => x, fun x => x, (hh.1 c_25).2.2.2.2.1, (hh.1 c_25).2.2.2.2.2.1, fun x => x, (by generalize (((KidOf.at_ y_1) : Int) != (KidOf.at_ y_2)) = b0; revert b0; decide), ⟨fun c_26 => ((hh.1 c_25).2.2.2.2.2.2.1 c_26), fun c_26 => ⟨((hh.1 c_25).2.2.2.2.2.2.2 c_26).1, ((hh.1 c_25).2.2.2.2.2.2.2 c_26).2⟩⟩⟩, fun c_25 => (hh.2 c_25)⟩)
abbrev W39_l2 (N : Nat) (a : Edit) (b : Edit) (x7_b : Int) (N2 : LSt U → Prop) (Q : AExit → LSt U → Prop) : Prop := awp cfg (know (know39 N)) (drawOk cfg (know (know39 N))) Try.f39.ntmps lv39 (cd Try.f39 [1, 1, 1, 1, 0, 1, 0, 0]) (head39_2 a b x7_b) (AExit.then N2 (AExit.inBlock 4 (seqK cfg (know (know39 N)) (drawOk cfg (know (know39 N))) Try.f39.ntmps lv39 (cd Try.f39 [1, 1, 1, 1, 1]) Q)))
theorem vc39_l2 (N : Nat) (a : Edit) (b : Edit) (x7_b : Int) (N2 : LSt U → Prop) (Q : AExit → LSt U → Prop) (h : ∀ y_1, y_1 = (List.getD (Edit.ops a) (Int.toNat x7_b) Op.nil) → ∀ y_2, y_2 = (List.getD (Edit.ops b) (Int.toNat x7_b) Op.nil) → ∀ y_3, y_3 = ((OpOf.e y_1)) → ∀ y_4, y_4 = ((OpOf.e y_2)) → ((decide ((x7_b : Int) < ((Edit.ops a).length : Int))) = true → ((0 : Int) ≤ x7_b ∧ x7_b < ((Edit.ops a).length : Int)) ∧ ((0 : Int) ≤ x7_b ∧ x7_b < ((Edit.ops b).length : Int)) ∧ (((!(bif (((OpOf.kind y_1) : Int) != (OpOf.kind y_2)) then true else (((OpOf.n y_1) : Int) != (OpOf.n y_2)))) = true → pre77 ((OpOf.l y_1), (OpOf.l y_2), ())) ∧ ((!(bif (bif (((OpOf.kind y_1) : Int) != (OpOf.kind y_2)) then true else (((OpOf.n y_1) : Int) != (OpOf.n y_2))) then true else (!(eqX (OpOf.l y_1) (OpOf.l y_2))))) = true → pre39 (y_3, y_4, ())) ∧ ((!(bif (bif (((OpOf.kind y_1) : Int) != (OpOf.kind y_2)) then true else (((OpOf.n y_1) : Int) != (OpOf.n y_2))) then true else (!(eqX (OpOf.l y_1) (OpOf.l y_2))))) = true → mu39 (y_3, y_4, ()) < N) ∧ (((bif (bif (bif (((OpOf.kind y_1) : Int) != (OpOf.kind y_2)) then true else (((OpOf.n y_1) : Int) != (OpOf.n y_2))) then true else (!(eqX (OpOf.l y_1) (OpOf.l y_2)))) then true else (!(eqX y_3 y_4))) = true → Q .ret (⟨[(4, .c (.bool false))], [], []⟩ : LSt U)) ∧ ((bif (bif (bif (((OpOf.kind y_1) : Int) != (OpOf.kind y_2)) then true else (((OpOf.n y_1) : Int) != (OpOf.n y_2))) then true else (!(eqX (OpOf.l y_1) (OpOf.l y_2)))) then true else (!(eqX y_3 y_4))) = false → (InR ((x7_b : Int) + 1)) ∧ (N2 (head39_2 a b ((x7_b : Int) + 1))))))) ∧ ((decide ((x7_b : Int) < ((Edit.ops a).length : Int))) = false → Q .ret (⟨[(4, .c (.bool true))], [], []⟩ : LSt U))) :
    W39_l2 N a b x7_b N2 Q := by
  have e_ : (W39_l2 N a b x7_b N2 Q) = (let y_1 := (List.getD (Edit.ops a) (Int.toNat x7_b) Op.nil); let y_2 := (List.getD (Edit.ops b) (Int.toNat x7_b) Op.nil); let y_3 := (reEdit (OpOf.e y_1)); let y_4 := (reEdit (OpOf.e y_2)); (((decide ((x7_b : Int) < ((Edit.ops a).length : Int))) = true → ((0 : Int) ≤ x7_b ∧ x7_b < ((Edit.ops a).length : Int)) ∧ ((0 : Int) ≤ x7_b ∧ x7_b < ((Edit.ops b).length : Int)) ∧ (((!(((OpOf.kind y_1) : Int) != (OpOf.kind y_2))) = true → (!(((OpOf.kind y_1) : Int) != (OpOf.kind y_2))) = true) ∧ ((!(((OpOf.kind y_1) : Int) != (OpOf.kind y_2))) = true → (!(((OpOf.kind y_1) : Int) != (OpOf.kind y_2))) = true) ∧ ((!(((OpOf.kind y_1) : Int) != (OpOf.kind y_2))) = true → (!(((OpOf.kind y_1) : Int) != (OpOf.kind y_2))) = true) ∧ ((!(((OpOf.kind y_1) : Int) != (OpOf.kind y_2))) = true → (!(((OpOf.kind y_1) : Int) != (OpOf.kind y_2))) = true) ∧ (((((OpOf.kind y_1) : Int) != (OpOf.kind y_2)) = false → (!(((OpOf.kind y_1) : Int) != (OpOf.kind y_2))) = true)) ∧ ((!(bif (((OpOf.kind y_1) : Int) != (OpOf.kind y_2)) then true else (((OpOf.n y_1) : Int) != (OpOf.n y_2)))) = true → (!(bif (((OpOf.kind y_1) : Int) != (OpOf.kind y_2)) then true else (((OpOf.n y_1) : Int) != (OpOf.n y_2)))) = true) ∧ ((!(bif (((OpOf.kind y_1) : Int) != (OpOf.kind y_2)) then true else (((OpOf.n y_1) : Int) != (OpOf.n y_2)))) = true → (!(bif (((OpOf.kind y_1) : Int) != (OpOf.kind y_2)) then true else (((OpOf.n y_1) : Int) != (OpOf.n y_2)))) = true) ∧ ((!(bif (((OpOf.kind y_1) : Int) != (OpOf.kind y_2)) then true else (((OpOf.n y_1) : Int) != (OpOf.n y_2)))) = true → (!(bif (((OpOf.kind y_1) : Int) != (OpOf.kind y_2)) then true else (((OpOf.n y_1) : Int) != (OpOf.n y_2)))) = true) ∧ ((!(bif (((OpOf.kind y_1) : Int) != (OpOf.kind y_2)) then true else (((OpOf.n y_1) : Int) != (OpOf.n y_2)))) = true → (!(bif (((OpOf.kind y_1) : Int) != (OpOf.kind y_2)) then true else (((OpOf.n y_1) : Int) != (OpOf.n y_2)))) = true) ∧ ((!(bif (((OpOf.kind y_1) : Int) != (OpOf.kind y_2)) then true else (((OpOf.n y_1) : Int) != (OpOf.n y_2)))) = true → pre77 ((OpOf.l y_1), (OpOf.l y_2), ())) ∧ ((!(bif (((OpOf.kind y_1) : Int) != (OpOf.kind y_2)) then true else (((OpOf.n y_1) : Int) != (OpOf.n y_2)))) = true → (!(bif (((OpOf.kind y_1) : Int) != (OpOf.kind y_2)) then true else (((OpOf.n y_1) : Int) != (OpOf.n y_2)))) = true) ∧ (((bif (((OpOf.kind y_1) : Int) != (OpOf.kind y_2)) then true else (((OpOf.n y_1) : Int) != (OpOf.n y_2))) = false → (!(bif (((OpOf.kind y_1) : Int) != (OpOf.kind y_2)) then true else (((OpOf.n y_1) : Int) != (OpOf.n y_2)))) = true)) ∧ ((!(bif (bif (((OpOf.kind y_1) : Int) != (OpOf.kind y_2)) then true else (((OpOf.n y_1) : Int) != (OpOf.n y_2))) then true else (!(eqX (OpOf.l y_1) (OpOf.l y_2))))) = true → (!(bif (bif (((OpOf.kind y_1) : Int) != (OpOf.kind y_2)) then true else (((OpOf.n y_1) : Int) != (OpOf.n y_2))) then true else (!(eqX (OpOf.l y_1) (OpOf.l y_2))))) = true) ∧ ((!(bif (bif (((OpOf.kind y_1) : Int) != (OpOf.kind y_2)) then true else (((OpOf.n y_1) : Int) != (OpOf.n y_2))) then true else (!(eqX (OpOf.l y_1) (OpOf.l y_2))))) = true → (!(bif (bif (((OpOf.kind y_1) : Int) != (OpOf.kind y_2)) then true else (((OpOf.n y_1) : Int) != (OpOf.n y_2))) then true else (!(eqX (OpOf.l y_1) (OpOf.l y_2))))) = true) ∧ ((!(bif (bif (((OpOf.kind y_1) : Int) != (OpOf.kind y_2)) then true else (((OpOf.n y_1) : Int) != (OpOf.n y_2))) then true else (!(eqX (OpOf.l y_1) (OpOf.l y_2))))) = true → (!(bif (bif (((OpOf.kind y_1) : Int) != (OpOf.kind y_2)) then true else (((OpOf.n y_1) : Int) != (OpOf.n y_2))) then true else (!(eqX (OpOf.l y_1) (OpOf.l y_2))))) = true) ∧ ((!(bif (bif (((OpOf.kind y_1) : Int) != (OpOf.kind y_2)) then true else (((OpOf.n y_1) : Int) != (OpOf.n y_2))) then true else (!(eqX (OpOf.l y_1) (OpOf.l y_2))))) = true → (!(bif (bif (((OpOf.kind y_1) : Int) != (OpOf.kind y_2)) then true else (((OpOf.n y_1) : Int) != (OpOf.n y_2))) then true else (!(eqX (OpOf.l y_1) (OpOf.l y_2))))) = true) ∧ ((!(bif (bif (((OpOf.kind y_1) : Int) != (OpOf.kind y_2)) then true else (((OpOf.n y_1) : Int) != (OpOf.n y_2))) then true else (!(eqX (OpOf.l y_1) (OpOf.l y_2))))) = true → pre39 (y_3, y_4, ())) ∧ ((!(bif (bif (((OpOf.kind y_1) : Int) != (OpOf.kind y_2)) then true else (((OpOf.n y_1) : Int) != (OpOf.n y_2))) then true else (!(eqX (OpOf.l y_1) (OpOf.l y_2))))) = true → mu39 (y_3, y_4, ()) < N) ∧ ((!(bif (bif (((OpOf.kind y_1) : Int) != (OpOf.kind y_2)) then true else (((OpOf.n y_1) : Int) != (OpOf.n y_2))) then true else (!(eqX (OpOf.l y_1) (OpOf.l y_2))))) = true → (!(bif (bif (((OpOf.kind y_1) : Int) != (OpOf.kind y_2)) then true else (((OpOf.n y_1) : Int) != (OpOf.n y_2))) then true else (!(eqX (OpOf.l y_1) (OpOf.l y_2))))) = true) ∧ (((bif (bif (((OpOf.kind y_1) : Int) != (OpOf.kind y_2)) then true else (((OpOf.n y_1) : Int) != (OpOf.n y_2))) then true else (!(eqX (OpOf.l y_1) (OpOf.l y_2)))) = false → (!(bif (bif (((OpOf.kind y_1) : Int) != (OpOf.kind y_2)) then true else (((OpOf.n y_1) : Int) != (OpOf.n y_2))) then true else (!(eqX (OpOf.l y_1) (OpOf.l y_2))))) = true)) ∧ (((bif (bif (bif (((OpOf.kind y_1) : Int) != (OpOf.kind y_2)) then true else (((OpOf.n y_1) : Int) != (OpOf.n y_2))) then true else (!(eqX (OpOf.l y_1) (OpOf.l y_2)))) then true else (!(eqX y_3 y_4))) = true → (Q .ret (⟨[(4, .c (.bool false))], [], []⟩ : LSt U))) ∧ ((bif (bif (bif (((OpOf.kind y_1) : Int) != (OpOf.kind y_2)) then true else (((OpOf.n y_1) : Int) != (OpOf.n y_2))) then true else (!(eqX (OpOf.l y_1) (OpOf.l y_2)))) then true else (!(eqX y_3 y_4))) = false → (InR ((x7_b : Int) + 1)) ∧ (N2 (head39_2 a b ((x7_b : Int) + 1))))))) ∧ ((decide ((x7_b : Int) < ((Edit.ops a).length : Int))) = false → (Q .ret (⟨[(4, .c (.bool true))], [], []⟩ : LSt U))))) := by kernel_rfl
  exact e_.mpr (by intro y_1 y_2 y_3 y_4; have hh := h y_1 rfl y_2 rfl y_3 (reEdit_eq _) y_4 (reEdit_eq _); exact ⟨fun c_27 => ⟨(hh.1 c_27).1, (hh.1 c_27).2.1, ⟨fun x => x, fun x => x, fun x => x, fun x => x, (by generalize (((OpOf.kind y_1) : Int) != (OpOf.kind y_2)) = b0; revert b0; decide), fun x => x, fun x => x, fun x => x, fun x => x, (hh.1 c_27).2.2.1, fun x => x, (by generalize (((OpOf.kind y_1) : Int) != (OpOf.kind y_2)) = b0; generalize (((OpOf.n y_1) : Int) != (OpOf.n y_2)) = b1; revert b0 b1; decide), fun x => x, fun x => x, fun x => x, fun x => x, (hh.1 c_27).2.2.2.1, (hh.1 c_27).2.2.2.2.1, fun x => x, (by generalize (((OpOf.kind y_1) : Int) != (OpOf.kind y_2)) = b0; generalize (((OpOf.n y_1) : Int) != (OpOf.n y_2)) = b1; generalize (eqX (OpOf.l y_1) (OpOf.l y_2)) = b2; revert b0 b1 b2; decide), ⟨fun c_28 => ((hh.1 c_27).2.2.2.2.2.1 c_28), fun c_28 => ⟨((hh.1 c_27).2.2.2.2.2.2 c_28).1, ((hh.1 c_27).2.2.2.2.2.2 c_28).2⟩⟩⟩⟩, fun c_27 => (hh.2 c_27)⟩)
def Body39 (N : Nat) (a : Edit) (b : Edit)  : Prop := awp cfg (know (know39 N)) (drawOk cfg (know (know39 N))) Try.f39.ntmps lv39 (cd Try.f39 []) (entry (args39.can (a, b, ())) []) (EndsQ cfg Try.f39.ntmps Try.f39.results.toList (res39 (a, b, ())) [])
theorem make39 (c33 : Contract Try.prog cfg 33 spec33) (c77 : Contract Try.prog cfg 77 spec77) (hb : ∀ (N : Nat) (a : Edit) (b : Edit) (_ : Unit), pre39 (a, b, ()) → mu39 (a, b, ()) < N + 1 → Body39 N a b) : Contract Try.prog cfg 39 spec39 :=
  contract_rec (μ := mu39) (l := [(33, spec33), (77, spec77)]) cfgOk rfl (⟨c33, c77, trivial⟩) lv39 Try.func39 rfl rfl 2 (fun _ => rfl) (by decide) (fun N ⟨a, b, _⟩ => hb N a b ())

end Go.AM.Ytlahjnelghpmeaa

namespace Go.AM.Ytlahjnelghpmeaa
open Go.AM Go.Proofs


theorem massOs_cons (o : Op) (r : List Op) : massOs (o :: r) = massOp o + massOs r := rfl

end Go.AM.Ytlahjnelghpmeaa

namespace Go.AM.Ytlahjnelghpmeaa
open Go.AM Go.Proofs

theorem eqX_no {α : Type} {a b : α} (h : ¬ a = b) : eqX a b = false := by rw [← Bool.not_eq_true, eqX_iff]; exact h

theorem list_eq_getD {α : Type} (d : α) {a b : List α} (hl : a.length = b.length) (h : ∀ i : Nat, i < a.length → a.getD i d = b.getD i d) : a = b := by
  apply List.ext_getElem hl
  intro i h1 h2
  have := h i h1
  simpa [List.getD_eq_getElem?_getD, List.getElem?_eq_getElem h1, List.getElem?_eq_getElem h2] using this

theorem c77 : Contract Try.prog cfg 77 spec77 := by
  refine make77 c33 ?_
  intro a b _ hp
  simp only [pre77] at hp
  refine vc77 _ _ _ ?_
  (simp only [bif_tl, bif_fr, bif_tlf, bif_frf, Bool.not_eq_true', Bool.not_eq_false', decide_eq_true_eq, decide_eq_false_iff_not, beq_iff_eq, beq_eq_false_iff_ne, bne_iff_ne, ne_eq, bne_eq_false_iff_eq, Bool.or_eq_true, Bool.and_eq_true, Bool.or_eq_false_iff, Bool.and_eq_false_imp])
  refine ⟨fun hc => ends_bool rfl (eqX_no (a := a) (b := b) (fun h => hc (by rw [h]))).symm, fun hc => ?_⟩
  have hl : a.length = b.length := by omega
  have hla := massK_len a
  refine loop_rule (ι := Int) (fun i => head77_0 a b i) (fun i => 0 ≤ i ∧ i ≤ a.length ∧ ∀ j : Nat, (j : Int) < i → a.getD j Tree.nil = b.getD j Tree.nil) (fun i => ((a.length : Int) - i).toNat) 0 rfl ⟨by omega, by omega, by intro j hj; omega⟩ ?_
  rintro i ⟨h1, h2, h3⟩
  refine vc77_l0 _ _ _ _ _ ?_
  (simp only [bif_tl, bif_fr, bif_tlf, bif_frf, Bool.not_eq_true', Bool.not_eq_false', decide_eq_true_eq, decide_eq_false_iff_not, beq_iff_eq, beq_eq_false_iff_ne, bne_iff_ne, ne_eq, bne_eq_false_iff_eq, Bool.or_eq_true, Bool.and_eq_true, Bool.or_eq_false_iff, Bool.and_eq_false_imp])
  (simp only [Tree.eta, Edit.eta, Tree.kind_mk, Tree.words_mk, Tree.kids_mk])
  refine ⟨fun hi => ⟨⟨h1, hi⟩, ⟨h1, by omega⟩, ?_, fun hq => ?_, fun hq => ⟨by unfold InR; omega, i + 1, rfl, ⟨by omega, by omega, ?_⟩, by omega⟩⟩, fun hi => ?_⟩
  · have := massK_mem (mem_getD (l := a) (i := i.toNat) (by omega) Tree.nil)
    simp only [pre33]; omega
  · refine ends_bool rfl (eqX_no (a := a) (b := b) (fun h => ?_)).symm
    rw [h, sameT_false] at hq
    exact hq rfl
  · intro j hj
    by_cases hj2 : (j : Int) < i
    · exact h3 j hj2
    · rw [sameT_true, show i.toNat = j by omega] at hq
      exact hq
  · refine ends_bool rfl (eqX_iff (a := a) (b := b).2 (list_eq_getD Tree.nil hl (fun j hj => h3 j (by omega)))).symm

theorem edit_ext {a b : Edit} (h1 : a.kind = b.kind) (h2 : a.old = b.old) (h3 : a.new = b.new) (h4 : a.words = b.words) (h5 : a.kids = b.kids) (h6 : a.list = b.list) (h7 : a.ops = b.ops) : a = b := by
  cases a; cases b; simp_all

theorem kid_ext {a b : Kid} (h1 : a.at_ = b.at_) (h2 : a.e = b.e) : a = b := by cases a; cases b; simp_all
theorem op_ext {a b : Op} (h1 : a.kind = b.kind) (h2 : a.n = b.n) (h3 : a.l = b.l) (h4 : a.e = b.e) : a = b := by cases a; cases b; simp_all
theorem wedit_ext {a b : WEdit} (h1 : a.at_ = b.at_) (h2 : a.mask = b.mask) (h3 : a.old = b.old) (h4 : a.new = b.new) : a = b := by cases a; cases b; simp_all

theorem c39 : Contract Try.prog cfg 39 spec39 := by
  refine make39 c33 c77 ?_
  intro N a b _ hp hN
  simp only [pre39, mu39] at hp hN
  have hme := len_massE a
  have hkl := massKs_len a.kids
  have hol := massOs_len a.ops
  have neq : ∀ {P : Prop}, (a = b → P) → ¬ P → eqX a b = false := fun h1 h2 => eqX_no (fun h => h2 (h1 h))
  refine vc39 N a b _ ?_
  rintro y1 rfl y2 rfl y3 rfl y4 rfl
  (simp only [bif_tl, bif_fr, bif_tlf, bif_frf, Bool.not_eq_true', Bool.not_eq_false', decide_eq_true_eq, decide_eq_false_iff_not, beq_iff_eq, beq_eq_false_iff_ne, bne_iff_ne, ne_eq, bne_eq_false_iff_eq, Bool.or_eq_true, Bool.and_eq_true, Bool.or_eq_false_iff, Bool.and_eq_false_imp])
  refine ⟨fun _ => ?_, fun _ => ?_, fun hc => ?_, fun hc => ?_⟩
  · simp only [pre33]; omega
  · simp only [pre33]; omega
  · refine ends_bool rfl (eqX_no (a := a) (b := b) (fun h => ?_)).symm
    rw [h] at hc
    simp only [sameT_false] at hc
    simp at hc
  · simp only [sameT_true, Classical.not_not] at hc
    obtain ⟨⟨⟨⟨⟨⟨h1, h2⟩, h3⟩, h4⟩, h5⟩, h6⟩, h7⟩ := hc
    refine loop_rule (ι := Int) (fun i => head39_0 a b i) (fun i => 0 ≤ i ∧ i ≤ a.words.length ∧ ∀ j : Nat, (j : Int) < i → a.words.getD j (WEdit.mk 0 0 0 0) = b.words.getD j (WEdit.mk 0 0 0 0)) (fun i => ((a.words.length : Int) - i).toNat) 0 rfl ⟨by omega, by omega, by intro j hj; omega⟩ ?_
    rintro i ⟨g1, g2, g3⟩
    refine vc39_l0 _ _ _ _ _ _ ?_
    (simp only [bif_tl, bif_fr, bif_tlf, bif_frf, Bool.not_eq_true', Bool.not_eq_false', decide_eq_true_eq, decide_eq_false_iff_not, beq_iff_eq, beq_eq_false_iff_ne, bne_iff_ne, ne_eq, bne_eq_false_iff_eq, Bool.or_eq_true, Bool.and_eq_true, Bool.or_eq_false_iff, Bool.and_eq_false_imp])
    simp only [and_true]
    refine ⟨fun hi => ⟨⟨g1, hi⟩, ⟨g1, by omega⟩, fun hq => ?_, fun hq => ⟨by unfold InR; omega, i + 1, rfl, ⟨by omega, by omega, ?_⟩, by omega⟩⟩, fun hi => ?_⟩
    · refine ends_bool rfl (eqX_no (a := a) (b := b) (fun h => ?_)).symm
      rw [h] at hq
      simp at hq
    · intro j hj
      by_cases hj2 : (j : Int) < i
      · exact g3 j hj2
      · rw [show i.toNat = j by omega] at hq
        exact wedit_ext hq.1 hq.2.1 hq.2.2.1 hq.2.2.2
    · have hw : a.words = b.words := list_eq_getD (WEdit.mk 0 0 0 0) (by omega) (fun j hj => g3 j (by omega))
      refine loop_rule (ι := Int) (fun i => head39_1 a b i) (fun i => 0 ≤ i ∧ i ≤ a.kids.length ∧ ∀ j : Nat, (j : Int) < i → a.kids.getD j (KidOf.mk 0 Edit.nil) = b.kids.getD j (KidOf.mk 0 Edit.nil)) (fun i => ((a.kids.length : Int) - i).toNat) 0 rfl ⟨by omega, by omega, by intro j hj; omega⟩ ?_
      rintro i ⟨g1, g2, g3⟩
      refine vc39_l1 _ _ _ _ _ _ ?_
      rintro y1 hy1 y2 hy2 y3 hy3 y4 hy4
      (simp only [bif_tl, bif_fr, bif_tlf, bif_frf, Bool.not_eq_true', Bool.not_eq_false', decide_eq_true_eq, decide_eq_false_iff_not, beq_iff_eq, beq_eq_false_iff_ne, bne_iff_ne, ne_eq, bne_eq_false_iff_eq, Bool.or_eq_true, Bool.and_eq_true, Bool.or_eq_false_iff, Bool.and_eq_false_imp])
      refine ⟨fun hi => ⟨⟨g1, hi⟩, ⟨g1, by omega⟩, fun _ => ⟨g1, hi⟩, fun _ => ⟨g1, by omega⟩, fun _ => ?_, fun _ => ?_, fun hq => ?_, fun hq => ⟨by unfold InR; omega, i + 1, rfl, ⟨by omega, by omega, ?_⟩, by omega⟩⟩, fun hi => ?_⟩
      · have := massKs_mem (mem_getD (l := a.kids) (i := i.toNat) (by omega) (KidOf.mk 0 Edit.nil))
        rw [← hy1, ← hy3] at this
        simp only [pre39]; omega
      · have := massKs_mem (mem_getD (l := a.kids) (i := i.toNat) (by omega) (KidOf.mk 0 Edit.nil))
        rw [← hy1, ← hy3] at this
        simp only [mu39]; omega
      · refine ends_bool rfl (eqX_no (a := a) (b := b) (fun h => ?_)).symm
        rw [h] at hy1
        rw [hy3, hy4, hy1, hy2, eqX_self] at hq
        simp at hq
      · intro j hj
        by_cases hj2 : (j : Int) < i
        · exact g3 j hj2
        · rw [eqX_iff, hy3, hy4, hy1, hy2, show i.toNat = j by omega] at hq
          exact kid_ext (by simpa using hq.1) hq.2
      · have hk : a.kids = b.kids := list_eq_getD (KidOf.mk 0 Edit.nil) (by omega) (fun j hj => g3 j (by omega))
        refine loop_rule (ι := Int) (fun i => head39_2 a b i) (fun i => 0 ≤ i ∧ i ≤ a.ops.length ∧ ∀ j : Nat, (j : Int) < i → a.ops.getD j Op.nil = b.ops.getD j Op.nil) (fun i => ((a.ops.length : Int) - i).toNat) 0 rfl ⟨by omega, by omega, by intro j hj; omega⟩ ?_
        rintro i ⟨g1, g2, g3⟩
        refine vc39_l2 _ _ _ _ _ _ ?_
        rintro y1 hy1 y2 hy2 y3 hy3 y4 hy4
        (simp only [bif_tl, bif_fr, bif_tlf, bif_frf, Bool.not_eq_true', Bool.not_eq_false', decide_eq_true_eq, decide_eq_false_iff_not, beq_iff_eq, beq_eq_false_iff_ne, bne_iff_ne, ne_eq, bne_eq_false_iff_eq, Bool.or_eq_true, Bool.and_eq_true, Bool.or_eq_false_iff, Bool.and_eq_false_imp])
        refine ⟨fun hi => ⟨⟨g1, hi⟩, ⟨g1, by omega⟩, fun _ => ?_, fun _ => ?_, fun _ => ?_, fun hq => ?_, fun hq => ⟨by unfold InR; omega, i + 1, rfl, ⟨by omega, by omega, ?_⟩, by omega⟩⟩, fun hi => ?_⟩
        · have := massOs_mem (mem_getD (l := a.ops) (i := i.toNat) (by omega) Op.nil)
          rw [← hy1, massOp_e] at this
          simp only [pre77]; omega
        · have := massOs_mem (mem_getD (l := a.ops) (i := i.toNat) (by omega) Op.nil)
          rw [← hy1, massOp_e, ← hy3] at this
          simp only [pre39]; omega
        · have := massOs_mem (mem_getD (l := a.ops) (i := i.toNat) (by omega) Op.nil)
          rw [← hy1, massOp_e, ← hy3] at this
          simp only [mu39]; omega
        · refine ends_bool rfl (eqX_no (a := a) (b := b) (fun h => ?_)).symm
          rw [h] at hy1
          rw [hy3, hy4, hy1, hy2, eqX_self, eqX_self] at hq
          simp at hq
        · intro j hj
          by_cases hj2 : (j : Int) < i
          · exact g3 j hj2
          · rw [eqX_iff, eqX_iff, hy3, hy4, hy1, hy2, show i.toNat = j by omega] at hq
            obtain ⟨⟨⟨q1, q2⟩, q3⟩, q4⟩ := hq
            exact op_ext (by simpa using q1) (by simpa using q2) q3 q4
        · have ho : a.ops = b.ops := list_eq_getD Op.nil (by omega) (fun j hj => g3 j (by omega))
          exact ends_bool rfl (eqX_iff (a := a) (b := b).2 (edit_ext h1 h3 h4 hw hk h2 ho)).symm

end Go.AM.Ytlahjnelghpmeaa

namespace Go.AM.Ytlahjnelghpmeaa
open Go.AM Go.Proofs

end Go.AM.Ytlahjnelghpmeaa

namespace Go.AM.Ytlahjnelghpmeaa
open Go.AM Go.Proofs

def vu (u : AUnit) : Op × Bool := (opU u, u.alone)
def vs (a : Int) (o : Op) : List (Op × Bool) := (unitsOp 0 a o).map vu
end Go.AM.Ytlahjnelghpmeaa

namespace Go.AM.Ytlahjnelghpmeaa
open Go.AM Go.Proofs

end Go.AM.Ytlahjnelghpmeaa

namespace Go.AM

def idleE (list : Int) (e : Edit) : Bool := decide (e.kind = 0 ∨ (list = 9 ∧ e.kind = 2 ∧ e.words.length = 0 ∧ e.kids.length = 0))
def normsT (l : List Tree) : List Tree := l.map normT

def gapT (kind : Int) : List Op → List Tree
  | [] => []
  | o :: r => if o.kind = 1 ∨ o.kind = 2 then (if o.kind = kind then normsT o.l else []) ++ gapT kind r else []
def gapN : List Op → Int
  | [] => 0
  | o :: r => if o.kind = 1 ∨ o.kind = 2 then 1 + gapN r else 0


def turnW (w : WEdit) : WEdit := ⟨w.at_, w.mask, w.new, w.old⟩
mutual
def turnE : Edit → Edit
  | .mk k o n w ks l os => .mk k n o (w.map turnW) (turnKs ks) l (turnOs os)
def turnKs : List (KidOf Edit) → List (KidOf Edit)
  | [] => []
  | k :: r => turnKid k :: turnKs r
def turnKid : KidOf Edit → KidOf Edit
  | ⟨a, e⟩ => ⟨a, turnE e⟩
def turnOs : List (OpOf Edit) → List (OpOf Edit)
  | [] => []
  | o :: r => turnOp o :: turnOs r
def turnOp : OpOf Edit → OpOf Edit
  | ⟨k, n, l, e⟩ => if k = 1 then ⟨2, n, l, e⟩ else if k = 2 then ⟨1, n, l, e⟩ else if k = 3 then ⟨k, n, l, turnE e⟩ else ⟨k, n, l, e⟩
end



end Go.AM

namespace Go.AM

structure Wst where
  out : List Op
  gone : List Tree
  brought : List Tree

def flushO (out : List Op) (g b : List Tree) : List Op :=
  out ++ ((if g.length = 0 then [] else [⟨1, 0, g, Edit.nil⟩]) ++ (if b.length = 0 then [] else [⟨2, 0, b, Edit.nil⟩]))
def keepO : List Op → Int → List Op
  | [], n => [⟨0, n, [], Edit.nil⟩]
  | [o], n => if o.kind = 0 then [⟨o.kind, o.n + n, o.l, o.e⟩] else [o, ⟨0, n, [], Edit.nil⟩]
  | o :: p :: r, n => o :: keepO (p :: r) n
def flushW (w : Wst) : Wst := ⟨flushO w.out w.gone w.brought, [], []⟩
def keepW (w : Wst) (n : Int) : Wst := ⟨keepO (flushW w).out n, [], []⟩

mutual
def nrmE : Edit → Edit
  | .mk k o n w ks l os =>
    if k = 1 then .mk k (normT o) (normT n) [] [] l []
    else if k = 2 then .mk k Tree.nil Tree.nil w (nrmKs ks) l []
    else if k = 3 then .mk k Tree.nil Tree.nil [] [] l (flushW (nrmOs l os ⟨[], [], []⟩)).out
    else .mk k Tree.nil Tree.nil [] [] l []
def nrmKs : List (KidOf Edit) → List (KidOf Edit)
  | [] => []
  | k :: r => nrmKid k :: nrmKs r
def nrmKid : KidOf Edit → KidOf Edit
  | ⟨a, e⟩ => ⟨a, nrmE e⟩
def nrmOs (list : Int) : List (OpOf Edit) → Wst → Wst
  | [], s => s
  | o :: r, s => nrmOs list r (nrmOp list o s)
def nrmOp (list : Int) : OpOf Edit → Wst → Wst
  | ⟨k, n, l, e⟩, s =>
    if k = 0 then keepW s n
    else if k = 1 then ⟨s.out, s.gone ++ normsT l, s.brought⟩
    else if k = 2 then ⟨s.out, s.gone, s.brought ++ normsT l⟩
    else if k = 3 then (if idleE list (nrmE e) = true then keepW s 1 else ⟨(flushW s).out ++ [⟨3, 0, [], nrmE e⟩], [], []⟩)
    else s
end

theorem nrmE_at (e : Edit) : nrmE e = if e.kind = 1 then .mk e.kind (normT e.old) (normT e.new) [] [] e.list []
    else if e.kind = 2 then .mk e.kind Tree.nil Tree.nil e.words (nrmKs e.kids) e.list []
    else if e.kind = 3 then .mk e.kind Tree.nil Tree.nil [] [] e.list (flushW (nrmOs e.list e.ops ⟨[], [], []⟩)).out
    else .mk e.kind Tree.nil Tree.nil [] [] e.list [] := by cases e; rfl
theorem nrmKid_at (k : Kid) : nrmKid k = ⟨k.at_, nrmE k.e⟩ := by cases k; rfl
theorem nrmOp_at (list : Int) (o : Op) (s : Wst) : nrmOp list o s = if o.kind = 0 then keepW s o.n
    else if o.kind = 1 then ⟨s.out, s.gone ++ normsT o.l, s.brought⟩
    else if o.kind = 2 then ⟨s.out, s.gone, s.brought ++ normsT o.l⟩
    else if o.kind = 3 then (if idleE list (nrmE o.e) = true then keepW s 1 else ⟨(flushW s).out ++ [⟨3, 0, [], nrmE o.e⟩], [], []⟩)
    else s := by cases o; rfl

theorem nrmOs_gap (list : Int) : ∀ (l : List Op) (s : Wst), nrmOs list l s = nrmOs list (l.drop (gapN l).toNat) ⟨s.out, s.gone ++ gapT 1 l, s.brought ++ gapT 2 l⟩
  | [], s => by simp [nrmOs, gapT, gapN]
  | o :: r, s => by
    by_cases h : o.kind = 1 ∨ o.kind = 2
    · have hg : 0 ≤ gapN r := gapN_nonneg r
      rw [gapN, if_pos h, gapT, gapT, if_pos h, if_pos h, show (1 + gapN r).toNat = (gapN r).toNat + 1 by omega, List.drop_succ_cons, nrmOs, nrmOp_at, nrmOs_gap list r]
      rcases h with h | h
      · rw [if_neg (by omega), if_pos h, if_pos h, if_neg (by omega)]
        simp
      · rw [if_neg (by omega), if_neg (by omega), if_pos h, if_neg (by omega), if_pos h]
        simp
    · rw [gapN, if_neg h, gapT, gapT, if_neg h, if_neg h]
      simp
where
  gapN_nonneg : ∀ (l : List Op), 0 ≤ gapN l
    | [] => by simp [gapN]
    | o :: r => by
      have := gapN_nonneg r
      rw [gapN]; split <;> omega

end Go.AM

namespace Go.AM.Ytlahjnelghpmeaa
open Go.AM Go.Proofs

def pre6 (a : Tree × Unit) : Prop := small a.1
end Go.AM.Ytlahjnelghpmeaa

namespace Go.AM.Ytlahjnelghpmeaa
open Go.AM Go.Proofs

theorem trim_idem (l : List Int) : trim (trim l) = trim l := by
  induction l with
  | nil => rfl
  | cons x r ih =>
    rw [trim_cons]
    split
    · rfl
    · rename_i h
      rw [trim_cons, ih, if_neg h]

theorem trimK_idem (l : List Tree) : trimK (trimK l) = trimK l := by
  induction l with
  | nil => rfl
  | cons x r ih =>
    rw [trimK_cons]
    split
    · rfl
    · rename_i h
      rw [trimK_cons, ih, if_neg h]

def Normed : List Tree → Prop
  | [] => True
  | t :: r => normT t = t ∧ Normed r

theorem Normed.eq : ∀ {l : List Tree}, Normed l → normK l = l
  | [], _ => rfl
  | t :: r, h => by simp only [normK, h.1, Normed.eq h.2]

theorem Normed.trim : ∀ {l : List Tree}, Normed l → Normed (trimK l)
  | [], _ => trivial
  | t :: r, h => by
    rw [trimK_cons]
    split
    · trivial
    · exact ⟨h.1, Normed.trim h.2⟩

mutual
theorem normT_idem : ∀ (t : Tree), normT (normT t) = normT t
  | .mk k w ks => by
    have h := normK_normed ks
    by_cases h0 : k = 0
    · simp [normT, h0, Tree.nil]
    · by_cases h1 : k = 1
      · subst h1
        simp only [normT, if_neg h0, if_true, trim_idem, h.trim.eq, trimK_idem]
      · simp only [normT, if_neg h0, if_neg h1, h.eq]
theorem normK_normed : ∀ (ks : List Tree), Normed (normK ks)
  | [] => trivial
  | t :: r => ⟨normT_idem t, normK_normed r⟩
end


end Go.AM.Ytlahjnelghpmeaa
