/- Steps side by side: what the functions of chapter 24 compute. -/
import Derived.Test.YtlahjnelghpmeaaB20c
import Derived.Test.YtlahjnelghpmeaaAmZ
import Derived.Test.YtlahjnelghpmeaaB07
import Derived.Test.YtlahjnelghpmeaaRB07
set_option linter.unusedSimpArgs false
set_option linter.unusedVariables false
namespace Go.AM

/-- The same, as they stand. -/
noncomputable def eqX {α : Type} (a b : α) : Bool := @decide (a = b) (Classical.propDecidable _)
theorem eqX_iff {α : Type} {a b : α} : eqX a b = true ↔ a = b := by unfold eqX; exact @decide_eq_true_iff _ (Classical.propDecidable _)
@[simp] theorem eqX_self {α : Type} (a : α) : eqX a a = true := eqX_iff.2 rfl

/-! ## by definition: kid by kid -/
def unitsOp (i alone : Int) (o : Op) : List AUnit :=
  (if o.kind = 0 then List.replicate o.n.toNat ⟨i, 0, Tree.nil, Edit.nil, false⟩ else [])
    ++ (o.l.map (fun t => ⟨i, o.kind, t, Edit.nil, decide (o.kind = alone)⟩)
    ++ (if o.kind = 3 then [⟨i, 3, Tree.nil, o.e, false⟩] else []))
def opU (u : AUnit) : Op := if u.kind = 0 then ⟨0, 1, [], Edit.nil⟩ else if u.kind = 3 then ⟨3, 0, [], u.e⟩ else ⟨u.kind, 0, [u.t], Edit.nil⟩

end Go.AM

namespace Go.AM.Ytlahjnelghpmeaa
open Go.AM Go.Proofs

def args77 : ArgL (List Tree × List Tree × Unit) := (.cons (aSl .tree) (.cons (aSl .tree) .nil))
def pre77 (a : List Tree × List Tree × Unit) : Prop := massK a.1 ≤ 1000000
noncomputable def res77 (a : List Tree × List Tree × Unit) : V U := .c (.bool (eqX a.1 a.2.1))
noncomputable def spec77 : Fs U := fs args77 (fun a => [pre77 a]) res77

def args39 : ArgL (Edit × Edit × Unit) := (.cons (aEl .edit) (.cons (aEl .edit) .nil))
def pre39 (a : Edit × Edit × Unit) : Prop := massE a.1 ≤ 1000000
def mu39 (a : Edit × Edit × Unit) : Nat := massE a.1
noncomputable def res39 (a : Edit × Edit × Unit) : V U := .c (.bool (eqX a.1 a.2.1))
noncomputable def spec39 : Fs U := fs args39 (fun a => [pre39 a]) res39

/-! cento/align.size -/
/-! (*cento/align.cursor).done -/
/-! (*cento/align.cursor).single -/
/-! (*cento/align.cursor).take -/
/-! cento/align.pair -/
/-! cento/align.Through -/
/-! cento/align.Behind -/
/-! cento/centoref24.Units -/
/-! cento/centoref24.Pairs -/
/-! cento/centolaw24.kids -/
/-! cento/centolaw24.units -/
/-! cento/centoref24.Op -/
/-! cento/centoref22.sameTrees -/
noncomputable def know77 : List (FuncId × Fs U) := [(33, spec33)]
def lv77 : Lives U := fun i => match i with
  | 0 => ([(0, []), (1, [])], [])
  | 1 => ([(0, []), (1, []), (10, [])], [])
  | 2 => ([(4, [])], [])
  | 3 => ([(0, []), (1, []), (5, [])], [])
  | 4 => ([(0, []), (1, []), (5, []), (14, [])], [])
  | 5 => ([(0, []), (1, []), (5, [])], [])
  | 6 => ([(0, []), (1, []), (5, []), (26, [])], [])
  | 7 => ([(4, [])], [])
  | 8 => ([(4, [])], [])
  | _ => ([], [])
def head77_0 (a : List Tree) (b : List Tree) (x5 : Int) : LSt U := (⟨[(0, .c (.slice (U := U) .tree a .unk)), (1, .c (.slice (U := U) .tree b .unk)), (5, .c (.int .i64 x5))], [], []⟩ : LSt U)
abbrev W77 (a : List Tree) (b : List Tree) (Q : AExit → LSt U → Prop) : Prop := awp cfg (know know77) (drawOk cfg (know know77)) Try.f77.ntmps lv77 (cd Try.f77 []) (⟨[(0, .c (.slice (U := U) .tree a .unk)), (1, .c (.slice (U := U) .tree b .unk))], [], []⟩ : LSt U) Q
/-- the body -/
theorem vc77 (a : List Tree) (b : List Tree) (Q : AExit → LSt U → Prop) (h : ((((a.length : Int) : Int) != (b.length : Int)) = true → Q .ret (⟨[(4, .c (.bool false))], [], []⟩ : LSt U)) ∧ ((((a.length : Int) : Int) != (b.length : Int)) = false → LoopWp (awp cfg (know know77) (drawOk cfg (know know77)) Try.f77.ntmps lv77 (cd Try.f77 [1, 1, 0, 1, 0, 0])) (head77_0 a b 0) (AExit.inBlock 0 (seqK cfg (know know77) (drawOk cfg (know know77)) Try.f77.ntmps lv77 (cd Try.f77 [1, 1, 1]) Q)))) :
    W77 a b Q := by
  have e_ : (awp cfg (know know77) (drawOk cfg (know know77)) Try.f77.ntmps lv77 (cd Try.f77 []) (⟨[(0, .c (.slice (U := U) .tree a .unk)), (1, .c (.slice (U := U) .tree b .unk))], [], []⟩ : LSt U) Q) = (((((((a.length : Int) : Int) != (b.length : Int)) = true → (Q .ret (⟨[(4, .c (.bool false))], [], []⟩ : LSt U))) ∧ ((((a.length : Int) : Int) != (b.length : Int)) = false → (LoopWp (awp cfg (know know77) (drawOk cfg (know know77)) Try.f77.ntmps lv77 (cd Try.f77 [1, 1, 0, 1, 0, 0])) (head77_0 a b 0) (AExit.inBlock 0 (seqK cfg (know know77) (drawOk cfg (know know77)) Try.f77.ntmps lv77 (cd Try.f77 [1, 1, 1]) Q))))))) := by kernel_rfl
  exact e_.mpr ⟨fun c_19 => (h.1 c_19), fun c_19 => (h.2 c_19)⟩
abbrev W77_l0 (a : List Tree) (b : List Tree) (x5 : Int) (N0 : LSt U → Prop) (Q : AExit → LSt U → Prop) : Prop := awp cfg (know know77) (drawOk cfg (know know77)) Try.f77.ntmps lv77 (cd Try.f77 [1, 1, 0, 1, 0, 0]) (head77_0 a b x5) (AExit.then N0 (AExit.inBlock 0 (seqK cfg (know know77) (drawOk cfg (know know77)) Try.f77.ntmps lv77 (cd Try.f77 [1, 1, 1]) Q)))
/-- the loop at [1, 1, 0, 1, 0] -/
theorem vc77_l0 (a : List Tree) (b : List Tree) (x5 : Int) (N0 : LSt U → Prop) (Q : AExit → LSt U → Prop) (h : ((decide ((x5 : Int) < (a.length : Int))) = true → ((0 : Int) ≤ x5 ∧ x5 < (a.length : Int)) ∧ ((0 : Int) ≤ x5 ∧ x5 < (b.length : Int)) ∧ (pre33 ((Tree.mk (Tree.kind (List.getD a (Int.toNat x5) Tree.nil)) (Tree.words (List.getD a (Int.toNat x5) Tree.nil)) (Tree.kids (List.getD a (Int.toNat x5) Tree.nil))), (Tree.mk (Tree.kind (List.getD b (Int.toNat x5) Tree.nil)) (Tree.words (List.getD b (Int.toNat x5) Tree.nil)) (Tree.kids (List.getD b (Int.toNat x5) Tree.nil))), ())) ∧ (((!(sameT (Tree.mk (Tree.kind (List.getD a (Int.toNat x5) Tree.nil)) (Tree.words (List.getD a (Int.toNat x5) Tree.nil)) (Tree.kids (List.getD a (Int.toNat x5) Tree.nil))) (Tree.mk (Tree.kind (List.getD b (Int.toNat x5) Tree.nil)) (Tree.words (List.getD b (Int.toNat x5) Tree.nil)) (Tree.kids (List.getD b (Int.toNat x5) Tree.nil))))) = true → Q .ret (⟨[(4, .c (.bool false))], [], []⟩ : LSt U)) ∧ ((!(sameT (Tree.mk (Tree.kind (List.getD a (Int.toNat x5) Tree.nil)) (Tree.words (List.getD a (Int.toNat x5) Tree.nil)) (Tree.kids (List.getD a (Int.toNat x5) Tree.nil))) (Tree.mk (Tree.kind (List.getD b (Int.toNat x5) Tree.nil)) (Tree.words (List.getD b (Int.toNat x5) Tree.nil)) (Tree.kids (List.getD b (Int.toNat x5) Tree.nil))))) = false → (InR ((x5 : Int) + 1)) ∧ (N0 (head77_0 a b ((x5 : Int) + 1)))))) ∧ ((decide ((x5 : Int) < (a.length : Int))) = false → Q .ret (⟨[(4, .c (.bool true))], [], []⟩ : LSt U))) :
    W77_l0 a b x5 N0 Q := by
  have e_ : (awp cfg (know know77) (drawOk cfg (know know77)) Try.f77.ntmps lv77 (cd Try.f77 [1, 1, 0, 1, 0, 0]) (head77_0 a b x5) (AExit.then N0 (AExit.inBlock 0 (seqK cfg (know know77) (drawOk cfg (know know77)) Try.f77.ntmps lv77 (cd Try.f77 [1, 1, 1]) Q)))) = ((((decide ((x5 : Int) < (a.length : Int))) = true → ((0 : Int) ≤ x5 ∧ x5 < (a.length : Int)) ∧ ((0 : Int) ≤ x5 ∧ x5 < (b.length : Int)) ∧ (pre33 ((Tree.mk (Tree.kind (List.getD a (Int.toNat x5) Tree.nil)) (Tree.words (List.getD a (Int.toNat x5) Tree.nil)) (Tree.kids (List.getD a (Int.toNat x5) Tree.nil))), (Tree.mk (Tree.kind (List.getD b (Int.toNat x5) Tree.nil)) (Tree.words (List.getD b (Int.toNat x5) Tree.nil)) (Tree.kids (List.getD b (Int.toNat x5) Tree.nil))), ())) ∧ (((!(sameT (Tree.mk (Tree.kind (List.getD a (Int.toNat x5) Tree.nil)) (Tree.words (List.getD a (Int.toNat x5) Tree.nil)) (Tree.kids (List.getD a (Int.toNat x5) Tree.nil))) (Tree.mk (Tree.kind (List.getD b (Int.toNat x5) Tree.nil)) (Tree.words (List.getD b (Int.toNat x5) Tree.nil)) (Tree.kids (List.getD b (Int.toNat x5) Tree.nil))))) = true → (Q .ret (⟨[(4, .c (.bool false))], [], []⟩ : LSt U))) ∧ ((!(sameT (Tree.mk (Tree.kind (List.getD a (Int.toNat x5) Tree.nil)) (Tree.words (List.getD a (Int.toNat x5) Tree.nil)) (Tree.kids (List.getD a (Int.toNat x5) Tree.nil))) (Tree.mk (Tree.kind (List.getD b (Int.toNat x5) Tree.nil)) (Tree.words (List.getD b (Int.toNat x5) Tree.nil)) (Tree.kids (List.getD b (Int.toNat x5) Tree.nil))))) = false → (InR ((x5 : Int) + 1)) ∧ (N0 (head77_0 a b ((x5 : Int) + 1)))))) ∧ ((decide ((x5 : Int) < (a.length : Int))) = false → (Q .ret (⟨[(4, .c (.bool true))], [], []⟩ : LSt U))))) := by kernel_rfl
  exact e_.mpr ⟨fun c_20 => ⟨(h.1 c_20).1, (h.1 c_20).2.1, (h.1 c_20).2.2.1, ⟨fun c_21 => ((h.1 c_20).2.2.2.1 c_21), fun c_21 => ⟨((h.1 c_20).2.2.2.2 c_21).1, ((h.1 c_20).2.2.2.2 c_21).2⟩⟩⟩, fun c_20 => (h.2 c_20)⟩
def Body77 (a : List Tree) (b : List Tree)  : Prop := awp cfg (know (know77)) (drawOk cfg (know (know77))) Try.f77.ntmps lv77 (cd Try.f77 []) (entry (args77.can (a, b, ())) []) (EndsQ cfg Try.f77.ntmps Try.f77.results.toList (res77 (a, b, ())) [])
theorem make77 (c33 : Contract Try.prog cfg 33 spec33) (hb : ∀ (a : List Tree) (b : List Tree) (_ : Unit), pre77 (a, b, ()) → Body77 a b) : Contract Try.prog cfg 77 spec77 :=
  contract_flat (l := [(33, spec33)]) cfgOk rfl (⟨c33, trivial⟩) lv77 Try.func77 rfl rfl 2 (fun _ => rfl) (by decide) (fun ⟨a, b, _⟩ => hb a b ())

/-! cento/centoref22.Same -/
noncomputable def know39 (N : Nat) : List (FuncId × Fs U) := (39, fs args39 (fun a => [pre39 a, mu39 a < N]) res39) :: [(33, spec33), (77, spec77)]
def lv39 : Lives U := fun i => match i with
  | 0 => ([(2, []), (3, [])], [((.loc 2), []), ((.loc 3), [])])
  | 1 => ([(2, []), (3, []), (64, [])], [((.loc 2), []), ((.loc 3), [])])
  | 2 => ([(4, [])], [])
  | 3 => ([(2, []), (3, []), (5, [])], [((.loc 2), []), ((.loc 3), [])])
  | 4 => ([(2, []), (3, []), (5, []), (69, [])], [((.loc 2), []), ((.loc 3), [])])
  | 5 => ([(2, []), (3, []), (5, [])], [((.loc 2), []), ((.loc 3), [])])
  | 6 => ([(2, []), (3, []), (5, []), (82, [])], [((.loc 2), []), ((.loc 3), [])])
  | 7 => ([(4, [])], [])
  | 8 => ([(2, []), (3, []), (6, [])], [((.loc 2), []), ((.loc 3), [])])
  | 9 => ([(2, []), (3, []), (6, []), (87, [])], [((.loc 2), []), ((.loc 3), [])])
  | 10 => ([(2, []), (3, []), (6, [])], [((.loc 2), []), ((.loc 3), [])])
  | 11 => ([(2, []), (3, []), (6, []), (118, [])], [((.loc 2), []), ((.loc 3), [])])
  | 12 => ([(4, [])], [])
  | 13 => ([(2, []), (3, []), (7, [])], [((.loc 2), []), ((.loc 3), [])])
  | 14 => ([(2, []), (3, []), (7, []), (123, [])], [((.loc 2), []), ((.loc 3), [])])
  | 15 => ([(2, []), (3, []), (7, [])], [((.loc 2), []), ((.loc 3), [])])
  | 16 => ([(2, []), (3, []), (7, []), (8, []), (9, [])], [((.loc 2), []), ((.loc 3), []), ((.loc 8), []), ((.loc 9), [])])
  | 17 => ([(2, []), (3, []), (7, []), (163, [])], [((.loc 2), []), ((.loc 3), [])])
  | 18 => ([(4, [])], [])
  | 19 => ([(4, [])], [])
  | _ => ([], [])
def head39_0 (a : Edit) (b : Edit) (x5 : Int) : LSt U := (⟨[(2, .ptr (.loc 2) 0), (3, .ptr (.loc 3) 0), (5, .c (.int .i64 x5))], [((.loc 2), [.int .i64 (Edit.kind a), .int .i64 (Tree.kind (Edit.old a)), .slice (U := U) .u64 (Tree.words (Edit.old a)) .unk, .slice (U := U) .tree (Tree.kids (Edit.old a)) .unk, .int .i64 (Tree.kind (Edit.new a)), .slice (U := U) .u64 (Tree.words (Edit.new a)) .unk, .slice (U := U) .tree (Tree.kids (Edit.new a)) .unk, .slice (U := U) .wedit (Edit.words a) .unk, .slice (U := U) .kid (Edit.kids a) .unk, .int .i64 (Edit.list a), .slice (U := U) .op (Edit.ops a) .unk]), ((.loc 3), [.int .i64 (Edit.kind b), .int .i64 (Tree.kind (Edit.old b)), .slice (U := U) .u64 (Tree.words (Edit.old b)) .unk, .slice (U := U) .tree (Tree.kids (Edit.old b)) .unk, .int .i64 (Tree.kind (Edit.new b)), .slice (U := U) .u64 (Tree.words (Edit.new b)) .unk, .slice (U := U) .tree (Tree.kids (Edit.new b)) .unk, .slice (U := U) .wedit (Edit.words b) .unk, .slice (U := U) .kid (Edit.kids b) .unk, .int .i64 (Edit.list b), .slice (U := U) .op (Edit.ops b) .unk])], []⟩ : LSt U)
def head39_1 (a : Edit) (b : Edit) (x6_a : Int) : LSt U := (⟨[(2, .ptr (.loc 2) 0), (3, .ptr (.loc 3) 0), (6, .c (.int .i64 x6_a))], [((.loc 2), [.int .i64 (Edit.kind a), .int .i64 (Tree.kind (Edit.old a)), .slice (U := U) .u64 (Tree.words (Edit.old a)) .unk, .slice (U := U) .tree (Tree.kids (Edit.old a)) .unk, .int .i64 (Tree.kind (Edit.new a)), .slice (U := U) .u64 (Tree.words (Edit.new a)) .unk, .slice (U := U) .tree (Tree.kids (Edit.new a)) .unk, .slice (U := U) .wedit (Edit.words a) .unk, .slice (U := U) .kid (Edit.kids a) .unk, .int .i64 (Edit.list a), .slice (U := U) .op (Edit.ops a) .unk]), ((.loc 3), [.int .i64 (Edit.kind b), .int .i64 (Tree.kind (Edit.old b)), .slice (U := U) .u64 (Tree.words (Edit.old b)) .unk, .slice (U := U) .tree (Tree.kids (Edit.old b)) .unk, .int .i64 (Tree.kind (Edit.new b)), .slice (U := U) .u64 (Tree.words (Edit.new b)) .unk, .slice (U := U) .tree (Tree.kids (Edit.new b)) .unk, .slice (U := U) .wedit (Edit.words b) .unk, .slice (U := U) .kid (Edit.kids b) .unk, .int .i64 (Edit.list b), .slice (U := U) .op (Edit.ops b) .unk])], []⟩ : LSt U)
def head39_2 (a : Edit) (b : Edit) (x7_b : Int) : LSt U := (⟨[(2, .ptr (.loc 2) 0), (3, .ptr (.loc 3) 0), (7, .c (.int .i64 x7_b))], [((.loc 2), [.int .i64 (Edit.kind a), .int .i64 (Tree.kind (Edit.old a)), .slice (U := U) .u64 (Tree.words (Edit.old a)) .unk, .slice (U := U) .tree (Tree.kids (Edit.old a)) .unk, .int .i64 (Tree.kind (Edit.new a)), .slice (U := U) .u64 (Tree.words (Edit.new a)) .unk, .slice (U := U) .tree (Tree.kids (Edit.new a)) .unk, .slice (U := U) .wedit (Edit.words a) .unk, .slice (U := U) .kid (Edit.kids a) .unk, .int .i64 (Edit.list a), .slice (U := U) .op (Edit.ops a) .unk]), ((.loc 3), [.int .i64 (Edit.kind b), .int .i64 (Tree.kind (Edit.old b)), .slice (U := U) .u64 (Tree.words (Edit.old b)) .unk, .slice (U := U) .tree (Tree.kids (Edit.old b)) .unk, .int .i64 (Tree.kind (Edit.new b)), .slice (U := U) .u64 (Tree.words (Edit.new b)) .unk, .slice (U := U) .tree (Tree.kids (Edit.new b)) .unk, .slice (U := U) .wedit (Edit.words b) .unk, .slice (U := U) .kid (Edit.kids b) .unk, .int .i64 (Edit.list b), .slice (U := U) .op (Edit.ops b) .unk])], []⟩ : LSt U)
abbrev W39 (N : Nat) (a : Edit) (b : Edit) (Q : AExit → LSt U → Prop) : Prop := awp cfg (know (know39 N)) (drawOk cfg (know (know39 N))) Try.f39.ntmps lv39 (cd Try.f39 []) (⟨[(0, .agg [.int .i64 (Edit.kind a), .int .i64 (Tree.kind (Edit.old a)), .slice (U := U) .u64 (Tree.words (Edit.old a)) .unk, .slice (U := U) .tree (Tree.kids (Edit.old a)) .unk, .int .i64 (Tree.kind (Edit.new a)), .slice (U := U) .u64 (Tree.words (Edit.new a)) .unk, .slice (U := U) .tree (Tree.kids (Edit.new a)) .unk, .slice (U := U) .wedit (Edit.words a) .unk, .slice (U := U) .kid (Edit.kids a) .unk, .int .i64 (Edit.list a), .slice (U := U) .op (Edit.ops a) .unk]), (1, .agg [.int .i64 (Edit.kind b), .int .i64 (Tree.kind (Edit.old b)), .slice (U := U) .u64 (Tree.words (Edit.old b)) .unk, .slice (U := U) .tree (Tree.kids (Edit.old b)) .unk, .int .i64 (Tree.kind (Edit.new b)), .slice (U := U) .u64 (Tree.words (Edit.new b)) .unk, .slice (U := U) .tree (Tree.kids (Edit.new b)) .unk, .slice (U := U) .wedit (Edit.words b) .unk, .slice (U := U) .kid (Edit.kids b) .unk, .int .i64 (Edit.list b), .slice (U := U) .op (Edit.ops b) .unk])], [], []⟩ : LSt U) Q
/-- the body -/
theorem vc39 (N : Nat) (a : Edit) (b : Edit) (Q : AExit → LSt U → Prop) (h : ∀ y_1, y_1 = ((Edit.new a)) → ∀ y_2, y_2 = ((Edit.new b)) → ∀ y_3, y_3 = ((Edit.old a)) → ∀ y_4, y_4 = ((Edit.old b)) → ((!(bif (((Edit.kind a) : Int) != (Edit.kind b)) then true else (((Edit.list a) : Int) != (Edit.list b)))) = true → pre33 (y_3, y_4, ())) ∧ ((!(bif (bif (((Edit.kind a) : Int) != (Edit.kind b)) then true else (((Edit.list a) : Int) != (Edit.list b))) then true else (!(sameT y_3 y_4)))) = true → pre33 (y_1, y_2, ())) ∧ (((bif (bif (bif (bif (bif (bif (((Edit.kind a) : Int) != (Edit.kind b)) then true else (((Edit.list a) : Int) != (Edit.list b))) then true else (!(sameT y_3 y_4))) then true else (!(sameT y_1 y_2))) then true else ((((Edit.words a).length : Int) : Int) != ((Edit.words b).length : Int))) then true else ((((Edit.kids a).length : Int) : Int) != ((Edit.kids b).length : Int))) then true else ((((Edit.ops a).length : Int) : Int) != ((Edit.ops b).length : Int))) = true → Q .ret (⟨[(4, .c (.bool false))], [], []⟩ : LSt U)) ∧ ((bif (bif (bif (bif (bif (bif (((Edit.kind a) : Int) != (Edit.kind b)) then true else (((Edit.list a) : Int) != (Edit.list b))) then true else (!(sameT y_3 y_4))) then true else (!(sameT y_1 y_2))) then true else ((((Edit.words a).length : Int) : Int) != ((Edit.words b).length : Int))) then true else ((((Edit.kids a).length : Int) : Int) != ((Edit.kids b).length : Int))) then true else ((((Edit.ops a).length : Int) : Int) != ((Edit.ops b).length : Int))) = false → LoopWp (awp cfg (know (know39 N)) (drawOk cfg (know (know39 N))) Try.f39.ntmps lv39 (cd Try.f39 [1, 1, 0, 1, 0, 0])) (head39_0 a b 0) (AExit.inBlock 0 (seqK cfg (know (know39 N)) (drawOk cfg (know (know39 N))) Try.f39.ntmps lv39 (cd Try.f39 [1, 1, 1]) Q))))) :
    W39 N a b Q := by
  have e_ : (awp cfg (know (know39 N)) (drawOk cfg (know (know39 N))) Try.f39.ntmps lv39 (cd Try.f39 []) (⟨[(0, .agg [.int .i64 (Edit.kind a), .int .i64 (Tree.kind (Edit.old a)), .slice (U := U) .u64 (Tree.words (Edit.old a)) .unk, .slice (U := U) .tree (Tree.kids (Edit.old a)) .unk, .int .i64 (Tree.kind (Edit.new a)), .slice (U := U) .u64 (Tree.words (Edit.new a)) .unk, .slice (U := U) .tree (Tree.kids (Edit.new a)) .unk, .slice (U := U) .wedit (Edit.words a) .unk, .slice (U := U) .kid (Edit.kids a) .unk, .int .i64 (Edit.list a), .slice (U := U) .op (Edit.ops a) .unk]), (1, .agg [.int .i64 (Edit.kind b), .int .i64 (Tree.kind (Edit.old b)), .slice (U := U) .u64 (Tree.words (Edit.old b)) .unk, .slice (U := U) .tree (Tree.kids (Edit.old b)) .unk, .int .i64 (Tree.kind (Edit.new b)), .slice (U := U) .u64 (Tree.words (Edit.new b)) .unk, .slice (U := U) .tree (Tree.kids (Edit.new b)) .unk, .slice (U := U) .wedit (Edit.words b) .unk, .slice (U := U) .kid (Edit.kids b) .unk, .int .i64 (Edit.list b), .slice (U := U) .op (Edit.ops b) .unk])], [], []⟩ : LSt U) Q) = (let y_1 := (reTree (Edit.new a)); let y_2 := (reTree (Edit.new b)); let y_3 := (reTree (Edit.old a)); let y_4 := (reTree (Edit.old b)); (((!(((Edit.kind a) : Int) != (Edit.kind b))) = true → (!(((Edit.kind a) : Int) != (Edit.kind b))) = true) ∧ ((!(((Edit.kind a) : Int) != (Edit.kind b))) = true → (!(((Edit.kind a) : Int) != (Edit.kind b))) = true) ∧ ((!(((Edit.kind a) : Int) != (Edit.kind b))) = true → (!(((Edit.kind a) : Int) != (Edit.kind b))) = true) ∧ ((!(((Edit.kind a) : Int) != (Edit.kind b))) = true → (!(((Edit.kind a) : Int) != (Edit.kind b))) = true) ∧ (((((Edit.kind a) : Int) != (Edit.kind b)) = false → (!(((Edit.kind a) : Int) != (Edit.kind b))) = true)) ∧ ((!(bif (((Edit.kind a) : Int) != (Edit.kind b)) then true else (((Edit.list a) : Int) != (Edit.list b)))) = true → (!(bif (((Edit.kind a) : Int) != (Edit.kind b)) then true else (((Edit.list a) : Int) != (Edit.list b)))) = true) ∧ ((!(bif (((Edit.kind a) : Int) != (Edit.kind b)) then true else (((Edit.list a) : Int) != (Edit.list b)))) = true → (!(bif (((Edit.kind a) : Int) != (Edit.kind b)) then true else (((Edit.list a) : Int) != (Edit.list b)))) = true) ∧ ((!(bif (((Edit.kind a) : Int) != (Edit.kind b)) then true else (((Edit.list a) : Int) != (Edit.list b)))) = true → (!(bif (((Edit.kind a) : Int) != (Edit.kind b)) then true else (((Edit.list a) : Int) != (Edit.list b)))) = true) ∧ ((!(bif (((Edit.kind a) : Int) != (Edit.kind b)) then true else (((Edit.list a) : Int) != (Edit.list b)))) = true → (!(bif (((Edit.kind a) : Int) != (Edit.kind b)) then true else (((Edit.list a) : Int) != (Edit.list b)))) = true) ∧ ((!(bif (((Edit.kind a) : Int) != (Edit.kind b)) then true else (((Edit.list a) : Int) != (Edit.list b)))) = true → pre33 (y_3, y_4, ())) ∧ ((!(bif (((Edit.kind a) : Int) != (Edit.kind b)) then true else (((Edit.list a) : Int) != (Edit.list b)))) = true → (!(bif (((Edit.kind a) : Int) != (Edit.kind b)) then true else (((Edit.list a) : Int) != (Edit.list b)))) = true) ∧ (((bif (((Edit.kind a) : Int) != (Edit.kind b)) then true else (((Edit.list a) : Int) != (Edit.list b))) = false → (!(bif (((Edit.kind a) : Int) != (Edit.kind b)) then true else (((Edit.list a) : Int) != (Edit.list b)))) = true)) ∧ ((!(bif (bif (((Edit.kind a) : Int) != (Edit.kind b)) then true else (((Edit.list a) : Int) != (Edit.list b))) then true else (!(sameT y_3 y_4)))) = true → (!(bif (bif (((Edit.kind a) : Int) != (Edit.kind b)) then true else (((Edit.list a) : Int) != (Edit.list b))) then true else (!(sameT y_3 y_4)))) = true) ∧ ((!(bif (bif (((Edit.kind a) : Int) != (Edit.kind b)) then true else (((Edit.list a) : Int) != (Edit.list b))) then true else (!(sameT y_3 y_4)))) = true → (!(bif (bif (((Edit.kind a) : Int) != (Edit.kind b)) then true else (((Edit.list a) : Int) != (Edit.list b))) then true else (!(sameT y_3 y_4)))) = true) ∧ ((!(bif (bif (((Edit.kind a) : Int) != (Edit.kind b)) then true else (((Edit.list a) : Int) != (Edit.list b))) then true else (!(sameT y_3 y_4)))) = true → (!(bif (bif (((Edit.kind a) : Int) != (Edit.kind b)) then true else (((Edit.list a) : Int) != (Edit.list b))) then true else (!(sameT y_3 y_4)))) = true) ∧ ((!(bif (bif (((Edit.kind a) : Int) != (Edit.kind b)) then true else (((Edit.list a) : Int) != (Edit.list b))) then true else (!(sameT y_3 y_4)))) = true → (!(bif (bif (((Edit.kind a) : Int) != (Edit.kind b)) then true else (((Edit.list a) : Int) != (Edit.list b))) then true else (!(sameT y_3 y_4)))) = true) ∧ ((!(bif (bif (((Edit.kind a) : Int) != (Edit.kind b)) then true else (((Edit.list a) : Int) != (Edit.list b))) then true else (!(sameT y_3 y_4)))) = true → pre33 (y_1, y_2, ())) ∧ ((!(bif (bif (((Edit.kind a) : Int) != (Edit.kind b)) then true else (((Edit.list a) : Int) != (Edit.list b))) then true else (!(sameT y_3 y_4)))) = true → (!(bif (bif (((Edit.kind a) : Int) != (Edit.kind b)) then true else (((Edit.list a) : Int) != (Edit.list b))) then true else (!(sameT y_3 y_4)))) = true) ∧ (((bif (bif (((Edit.kind a) : Int) != (Edit.kind b)) then true else (((Edit.list a) : Int) != (Edit.list b))) then true else (!(sameT y_3 y_4))) = false → (!(bif (bif (((Edit.kind a) : Int) != (Edit.kind b)) then true else (((Edit.list a) : Int) != (Edit.list b))) then true else (!(sameT y_3 y_4)))) = true)) ∧ ((!(bif (bif (bif (((Edit.kind a) : Int) != (Edit.kind b)) then true else (((Edit.list a) : Int) != (Edit.list b))) then true else (!(sameT y_3 y_4))) then true else (!(sameT y_1 y_2)))) = true → (!(bif (bif (bif (((Edit.kind a) : Int) != (Edit.kind b)) then true else (((Edit.list a) : Int) != (Edit.list b))) then true else (!(sameT y_3 y_4))) then true else (!(sameT y_1 y_2)))) = true) ∧ ((!(bif (bif (bif (((Edit.kind a) : Int) != (Edit.kind b)) then true else (((Edit.list a) : Int) != (Edit.list b))) then true else (!(sameT y_3 y_4))) then true else (!(sameT y_1 y_2)))) = true → (!(bif (bif (bif (((Edit.kind a) : Int) != (Edit.kind b)) then true else (((Edit.list a) : Int) != (Edit.list b))) then true else (!(sameT y_3 y_4))) then true else (!(sameT y_1 y_2)))) = true) ∧ ((!(bif (bif (bif (((Edit.kind a) : Int) != (Edit.kind b)) then true else (((Edit.list a) : Int) != (Edit.list b))) then true else (!(sameT y_3 y_4))) then true else (!(sameT y_1 y_2)))) = true → (!(bif (bif (bif (((Edit.kind a) : Int) != (Edit.kind b)) then true else (((Edit.list a) : Int) != (Edit.list b))) then true else (!(sameT y_3 y_4))) then true else (!(sameT y_1 y_2)))) = true) ∧ ((!(bif (bif (bif (((Edit.kind a) : Int) != (Edit.kind b)) then true else (((Edit.list a) : Int) != (Edit.list b))) then true else (!(sameT y_3 y_4))) then true else (!(sameT y_1 y_2)))) = true → (!(bif (bif (bif (((Edit.kind a) : Int) != (Edit.kind b)) then true else (((Edit.list a) : Int) != (Edit.list b))) then true else (!(sameT y_3 y_4))) then true else (!(sameT y_1 y_2)))) = true) ∧ ((!(bif (bif (bif (((Edit.kind a) : Int) != (Edit.kind b)) then true else (((Edit.list a) : Int) != (Edit.list b))) then true else (!(sameT y_3 y_4))) then true else (!(sameT y_1 y_2)))) = true → (!(bif (bif (bif (((Edit.kind a) : Int) != (Edit.kind b)) then true else (((Edit.list a) : Int) != (Edit.list b))) then true else (!(sameT y_3 y_4))) then true else (!(sameT y_1 y_2)))) = true) ∧ ((!(bif (bif (bif (((Edit.kind a) : Int) != (Edit.kind b)) then true else (((Edit.list a) : Int) != (Edit.list b))) then true else (!(sameT y_3 y_4))) then true else (!(sameT y_1 y_2)))) = true → (!(bif (bif (bif (((Edit.kind a) : Int) != (Edit.kind b)) then true else (((Edit.list a) : Int) != (Edit.list b))) then true else (!(sameT y_3 y_4))) then true else (!(sameT y_1 y_2)))) = true) ∧ (((bif (bif (bif (((Edit.kind a) : Int) != (Edit.kind b)) then true else (((Edit.list a) : Int) != (Edit.list b))) then true else (!(sameT y_3 y_4))) then true else (!(sameT y_1 y_2))) = false → (!(bif (bif (bif (((Edit.kind a) : Int) != (Edit.kind b)) then true else (((Edit.list a) : Int) != (Edit.list b))) then true else (!(sameT y_3 y_4))) then true else (!(sameT y_1 y_2)))) = true)) ∧ ((!(bif (bif (bif (bif (((Edit.kind a) : Int) != (Edit.kind b)) then true else (((Edit.list a) : Int) != (Edit.list b))) then true else (!(sameT y_3 y_4))) then true else (!(sameT y_1 y_2))) then true else ((((Edit.words a).length : Int) : Int) != ((Edit.words b).length : Int)))) = true → (!(bif (bif (bif (bif (((Edit.kind a) : Int) != (Edit.kind b)) then true else (((Edit.list a) : Int) != (Edit.list b))) then true else (!(sameT y_3 y_4))) then true else (!(sameT y_1 y_2))) then true else ((((Edit.words a).length : Int) : Int) != ((Edit.words b).length : Int)))) = true) ∧ ((!(bif (bif (bif (bif (((Edit.kind a) : Int) != (Edit.kind b)) then true else (((Edit.list a) : Int) != (Edit.list b))) then true else (!(sameT y_3 y_4))) then true else (!(sameT y_1 y_2))) then true else ((((Edit.words a).length : Int) : Int) != ((Edit.words b).length : Int)))) = true → (!(bif (bif (bif (bif (((Edit.kind a) : Int) != (Edit.kind b)) then true else (((Edit.list a) : Int) != (Edit.list b))) then true else (!(sameT y_3 y_4))) then true else (!(sameT y_1 y_2))) then true else ((((Edit.words a).length : Int) : Int) != ((Edit.words b).length : Int)))) = true) ∧ ((!(bif (bif (bif (bif (((Edit.kind a) : Int) != (Edit.kind b)) then true else (((Edit.list a) : Int) != (Edit.list b))) then true else (!(sameT y_3 y_4))) then true else (!(sameT y_1 y_2))) then true else ((((Edit.words a).length : Int) : Int) != ((Edit.words b).length : Int)))) = true → (!(bif (bif (bif (bif (((Edit.kind a) : Int) != (Edit.kind b)) then true else (((Edit.list a) : Int) != (Edit.list b))) then true else (!(sameT y_3 y_4))) then true else (!(sameT y_1 y_2))) then true else ((((Edit.words a).length : Int) : Int) != ((Edit.words b).length : Int)))) = true) ∧ ((!(bif (bif (bif (bif (((Edit.kind a) : Int) != (Edit.kind b)) then true else (((Edit.list a) : Int) != (Edit.list b))) then true else (!(sameT y_3 y_4))) then true else (!(sameT y_1 y_2))) then true else ((((Edit.words a).length : Int) : Int) != ((Edit.words b).length : Int)))) = true → (!(bif (bif (bif (bif (((Edit.kind a) : Int) != (Edit.kind b)) then true else (((Edit.list a) : Int) != (Edit.list b))) then true else (!(sameT y_3 y_4))) then true else (!(sameT y_1 y_2))) then true else ((((Edit.words a).length : Int) : Int) != ((Edit.words b).length : Int)))) = true) ∧ ((!(bif (bif (bif (bif (((Edit.kind a) : Int) != (Edit.kind b)) then true else (((Edit.list a) : Int) != (Edit.list b))) then true else (!(sameT y_3 y_4))) then true else (!(sameT y_1 y_2))) then true else ((((Edit.words a).length : Int) : Int) != ((Edit.words b).length : Int)))) = true → (!(bif (bif (bif (bif (((Edit.kind a) : Int) != (Edit.kind b)) then true else (((Edit.list a) : Int) != (Edit.list b))) then true else (!(sameT y_3 y_4))) then true else (!(sameT y_1 y_2))) then true else ((((Edit.words a).length : Int) : Int) != ((Edit.words b).length : Int)))) = true) ∧ ((!(bif (bif (bif (bif (((Edit.kind a) : Int) != (Edit.kind b)) then true else (((Edit.list a) : Int) != (Edit.list b))) then true else (!(sameT y_3 y_4))) then true else (!(sameT y_1 y_2))) then true else ((((Edit.words a).length : Int) : Int) != ((Edit.words b).length : Int)))) = true → (!(bif (bif (bif (bif (((Edit.kind a) : Int) != (Edit.kind b)) then true else (((Edit.list a) : Int) != (Edit.list b))) then true else (!(sameT y_3 y_4))) then true else (!(sameT y_1 y_2))) then true else ((((Edit.words a).length : Int) : Int) != ((Edit.words b).length : Int)))) = true) ∧ (((bif (bif (bif (bif (((Edit.kind a) : Int) != (Edit.kind b)) then true else (((Edit.list a) : Int) != (Edit.list b))) then true else (!(sameT y_3 y_4))) then true else (!(sameT y_1 y_2))) then true else ((((Edit.words a).length : Int) : Int) != ((Edit.words b).length : Int))) = false → (!(bif (bif (bif (bif (((Edit.kind a) : Int) != (Edit.kind b)) then true else (((Edit.list a) : Int) != (Edit.list b))) then true else (!(sameT y_3 y_4))) then true else (!(sameT y_1 y_2))) then true else ((((Edit.words a).length : Int) : Int) != ((Edit.words b).length : Int)))) = true)) ∧ ((!(bif (bif (bif (bif (bif (((Edit.kind a) : Int) != (Edit.kind b)) then true else (((Edit.list a) : Int) != (Edit.list b))) then true else (!(sameT y_3 y_4))) then true else (!(sameT y_1 y_2))) then true else ((((Edit.words a).length : Int) : Int) != ((Edit.words b).length : Int))) then true else ((((Edit.kids a).length : Int) : Int) != ((Edit.kids b).length : Int)))) = true → (!(bif (bif (bif (bif (bif (((Edit.kind a) : Int) != (Edit.kind b)) then true else (((Edit.list a) : Int) != (Edit.list b))) then true else (!(sameT y_3 y_4))) then true else (!(sameT y_1 y_2))) then true else ((((Edit.words a).length : Int) : Int) != ((Edit.words b).length : Int))) then true else ((((Edit.kids a).length : Int) : Int) != ((Edit.kids b).length : Int)))) = true) ∧ ((!(bif (bif (bif (bif (bif (((Edit.kind a) : Int) != (Edit.kind b)) then true else (((Edit.list a) : Int) != (Edit.list b))) then true else (!(sameT y_3 y_4))) then true else (!(sameT y_1 y_2))) then true else ((((Edit.words a).length : Int) : Int) != ((Edit.words b).length : Int))) then true else ((((Edit.kids a).length : Int) : Int) != ((Edit.kids b).length : Int)))) = true → (!(bif (bif (bif (bif (bif (((Edit.kind a) : Int) != (Edit.kind b)) then true else (((Edit.list a) : Int) != (Edit.list b))) then true else (!(sameT y_3 y_4))) then true else (!(sameT y_1 y_2))) then true else ((((Edit.words a).length : Int) : Int) != ((Edit.words b).length : Int))) then true else ((((Edit.kids a).length : Int) : Int) != ((Edit.kids b).length : Int)))) = true) ∧ ((!(bif (bif (bif (bif (bif (((Edit.kind a) : Int) != (Edit.kind b)) then true else (((Edit.list a) : Int) != (Edit.list b))) then true else (!(sameT y_3 y_4))) then true else (!(sameT y_1 y_2))) then true else ((((Edit.words a).length : Int) : Int) != ((Edit.words b).length : Int))) then true else ((((Edit.kids a).length : Int) : Int) != ((Edit.kids b).length : Int)))) = true → (!(bif (bif (bif (bif (bif (((Edit.kind a) : Int) != (Edit.kind b)) then true else (((Edit.list a) : Int) != (Edit.list b))) then true else (!(sameT y_3 y_4))) then true else (!(sameT y_1 y_2))) then true else ((((Edit.words a).length : Int) : Int) != ((Edit.words b).length : Int))) then true else ((((Edit.kids a).length : Int) : Int) != ((Edit.kids b).length : Int)))) = true) ∧ ((!(bif (bif (bif (bif (bif (((Edit.kind a) : Int) != (Edit.kind b)) then true else (((Edit.list a) : Int) != (Edit.list b))) then true else (!(sameT y_3 y_4))) then true else (!(sameT y_1 y_2))) then true else ((((Edit.words a).length : Int) : Int) != ((Edit.words b).length : Int))) then true else ((((Edit.kids a).length : Int) : Int) != ((Edit.kids b).length : Int)))) = true → (!(bif (bif (bif (bif (bif (((Edit.kind a) : Int) != (Edit.kind b)) then true else (((Edit.list a) : Int) != (Edit.list b))) then true else (!(sameT y_3 y_4))) then true else (!(sameT y_1 y_2))) then true else ((((Edit.words a).length : Int) : Int) != ((Edit.words b).length : Int))) then true else ((((Edit.kids a).length : Int) : Int) != ((Edit.kids b).length : Int)))) = true) ∧ ((!(bif (bif (bif (bif (bif (((Edit.kind a) : Int) != (Edit.kind b)) then true else (((Edit.list a) : Int) != (Edit.list b))) then true else (!(sameT y_3 y_4))) then true else (!(sameT y_1 y_2))) then true else ((((Edit.words a).length : Int) : Int) != ((Edit.words b).length : Int))) then true else ((((Edit.kids a).length : Int) : Int) != ((Edit.kids b).length : Int)))) = true → (!(bif (bif (bif (bif (bif (((Edit.kind a) : Int) != (Edit.kind b)) then true else (((Edit.list a) : Int) != (Edit.list b))) then true else (!(sameT y_3 y_4))) then true else (!(sameT y_1 y_2))) then true else ((((Edit.words a).length : Int) : Int) != ((Edit.words b).length : Int))) then true else ((((Edit.kids a).length : Int) : Int) != ((Edit.kids b).length : Int)))) = true) ∧ ((!(bif (bif (bif (bif (bif (((Edit.kind a) : Int) != (Edit.kind b)) then true else (((Edit.list a) : Int) != (Edit.list b))) then true else (!(sameT y_3 y_4))) then true else (!(sameT y_1 y_2))) then true else ((((Edit.words a).length : Int) : Int) != ((Edit.words b).length : Int))) then true else ((((Edit.kids a).length : Int) : Int) != ((Edit.kids b).length : Int)))) = true → (!(bif (bif (bif (bif (bif (((Edit.kind a) : Int) != (Edit.kind b)) then true else (((Edit.list a) : Int) != (Edit.list b))) then true else (!(sameT y_3 y_4))) then true else (!(sameT y_1 y_2))) then true else ((((Edit.words a).length : Int) : Int) != ((Edit.words b).length : Int))) then true else ((((Edit.kids a).length : Int) : Int) != ((Edit.kids b).length : Int)))) = true) ∧ (((bif (bif (bif (bif (bif (((Edit.kind a) : Int) != (Edit.kind b)) then true else (((Edit.list a) : Int) != (Edit.list b))) then true else (!(sameT y_3 y_4))) then true else (!(sameT y_1 y_2))) then true else ((((Edit.words a).length : Int) : Int) != ((Edit.words b).length : Int))) then true else ((((Edit.kids a).length : Int) : Int) != ((Edit.kids b).length : Int))) = false → (!(bif (bif (bif (bif (bif (((Edit.kind a) : Int) != (Edit.kind b)) then true else (((Edit.list a) : Int) != (Edit.list b))) then true else (!(sameT y_3 y_4))) then true else (!(sameT y_1 y_2))) then true else ((((Edit.words a).length : Int) : Int) != ((Edit.words b).length : Int))) then true else ((((Edit.kids a).length : Int) : Int) != ((Edit.kids b).length : Int)))) = true)) ∧ (((bif (bif (bif (bif (bif (bif (((Edit.kind a) : Int) != (Edit.kind b)) then true else (((Edit.list a) : Int) != (Edit.list b))) then true else (!(sameT y_3 y_4))) then true else (!(sameT y_1 y_2))) then true else ((((Edit.words a).length : Int) : Int) != ((Edit.words b).length : Int))) then true else ((((Edit.kids a).length : Int) : Int) != ((Edit.kids b).length : Int))) then true else ((((Edit.ops a).length : Int) : Int) != ((Edit.ops b).length : Int))) = true → (Q .ret (⟨[(4, .c (.bool false))], [], []⟩ : LSt U))) ∧ ((bif (bif (bif (bif (bif (bif (((Edit.kind a) : Int) != (Edit.kind b)) then true else (((Edit.list a) : Int) != (Edit.list b))) then true else (!(sameT y_3 y_4))) then true else (!(sameT y_1 y_2))) then true else ((((Edit.words a).length : Int) : Int) != ((Edit.words b).length : Int))) then true else ((((Edit.kids a).length : Int) : Int) != ((Edit.kids b).length : Int))) then true else ((((Edit.ops a).length : Int) : Int) != ((Edit.ops b).length : Int))) = false → (LoopWp (awp cfg (know (know39 N)) (drawOk cfg (know (know39 N))) Try.f39.ntmps lv39 (cd Try.f39 [1, 1, 0, 1, 0, 0])) (head39_0 a b 0) (AExit.inBlock 0 (seqK cfg (know (know39 N)) (drawOk cfg (know (know39 N))) Try.f39.ntmps lv39 (cd Try.f39 [1, 1, 1]) Q))))))) := by kernel_rfl
  exact e_.mpr (by intro y_1 y_2 y_3 y_4; exact ⟨fun x => x, fun x => x, fun x => x, fun x => x, (by generalize (((Edit.kind a) : Int) != (Edit.kind b)) = b0; revert b0; decide), fun x => x, fun x => x, fun x => x, fun x => x, (h y_1 (reTree_eq _) y_2 (reTree_eq _) y_3 (reTree_eq _) y_4 (reTree_eq _)).1, fun x => x, (by generalize (((Edit.list a) : Int) != (Edit.list b)) = b0; generalize (((Edit.kind a) : Int) != (Edit.kind b)) = b1; revert b0 b1; decide), fun x => x, fun x => x, fun x => x, fun x => x, (h y_1 (reTree_eq _) y_2 (reTree_eq _) y_3 (reTree_eq _) y_4 (reTree_eq _)).2.1, fun x => x, (by generalize (sameT y_3 y_4) = b0; generalize (((Edit.list a) : Int) != (Edit.list b)) = b1; generalize (((Edit.kind a) : Int) != (Edit.kind b)) = b2; revert b0 b1 b2; decide), fun x => x, fun x => x, fun x => x, fun x => x, fun x => x, fun x => x, (by generalize (sameT y_1 y_2) = b0; generalize (sameT y_3 y_4) = b1; generalize (((Edit.list a) : Int) != (Edit.list b)) = b2; generalize (((Edit.kind a) : Int) != (Edit.kind b)) = b3; revert b0 b1 b2 b3; decide), fun x => x, fun x => x, fun x => x, fun x => x, fun x => x, fun x => x, (by generalize (sameT y_3 y_4) = b0; generalize (sameT y_1 y_2) = b1; generalize ((((Edit.words a).length : Int) : Int) != ((Edit.words b).length : Int)) = b2; generalize (((Edit.list a) : Int) != (Edit.list b)) = b3; generalize (((Edit.kind a) : Int) != (Edit.kind b)) = b4; revert b0 b1 b2 b3 b4; decide), fun x => x, fun x => x, fun x => x, fun x => x, fun x => x, fun x => x, (by generalize (sameT y_3 y_4) = b0; generalize (sameT y_1 y_2) = b1; generalize ((((Edit.words a).length : Int) : Int) != ((Edit.words b).length : Int)) = b2; generalize ((((Edit.kids a).length : Int) : Int) != ((Edit.kids b).length : Int)) = b3; generalize (((Edit.list a) : Int) != (Edit.list b)) = b4; generalize (((Edit.kind a) : Int) != (Edit.kind b)) = b5; revert b0 b1 b2 b3 b4 b5; decide), ⟨fun c_22 => ((h y_1 (reTree_eq _) y_2 (reTree_eq _) y_3 (reTree_eq _) y_4 (reTree_eq _)).2.2.1 c_22), fun c_22 => ((h y_1 (reTree_eq _) y_2 (reTree_eq _) y_3 (reTree_eq _) y_4 (reTree_eq _)).2.2.2 c_22)⟩⟩)
abbrev W39_l0 (N : Nat) (a : Edit) (b : Edit) (x5 : Int) (N0 : LSt U → Prop) (Q : AExit → LSt U → Prop) : Prop := awp cfg (know (know39 N)) (drawOk cfg (know (know39 N))) Try.f39.ntmps lv39 (cd Try.f39 [1, 1, 0, 1, 0, 0]) (head39_0 a b x5) (AExit.then N0 (AExit.inBlock 0 (seqK cfg (know (know39 N)) (drawOk cfg (know (know39 N))) Try.f39.ntmps lv39 (cd Try.f39 [1, 1, 1]) Q)))
/-- the loop at [1, 1, 0, 1, 0] -/
theorem vc39_l0 (N : Nat) (a : Edit) (b : Edit) (x5 : Int) (N0 : LSt U → Prop) (Q : AExit → LSt U → Prop) (h : ((decide ((x5 : Int) < ((Edit.words a).length : Int))) = true → ((0 : Int) ≤ x5 ∧ x5 < ((Edit.words a).length : Int)) ∧ ((0 : Int) ≤ x5 ∧ x5 < ((Edit.words b).length : Int)) ∧ (((!((((WEdit.at_ (List.getD (Edit.words a) (Int.toNat x5) (WEdit.mk 0 0 0 0))) : Int) == (WEdit.at_ (List.getD (Edit.words b) (Int.toNat x5) (WEdit.mk 0 0 0 0)))) && ((((WEdit.mask (List.getD (Edit.words a) (Int.toNat x5) (WEdit.mk 0 0 0 0))) : Int) == (WEdit.mask (List.getD (Edit.words b) (Int.toNat x5) (WEdit.mk 0 0 0 0)))) && ((((WEdit.old (List.getD (Edit.words a) (Int.toNat x5) (WEdit.mk 0 0 0 0))) : Int) == (WEdit.old (List.getD (Edit.words b) (Int.toNat x5) (WEdit.mk 0 0 0 0)))) && ((((WEdit.new (List.getD (Edit.words a) (Int.toNat x5) (WEdit.mk 0 0 0 0))) : Int) == (WEdit.new (List.getD (Edit.words b) (Int.toNat x5) (WEdit.mk 0 0 0 0)))) && true))))) = true → Q .ret (⟨[(4, .c (.bool false))], [], []⟩ : LSt U)) ∧ ((!((((WEdit.at_ (List.getD (Edit.words a) (Int.toNat x5) (WEdit.mk 0 0 0 0))) : Int) == (WEdit.at_ (List.getD (Edit.words b) (Int.toNat x5) (WEdit.mk 0 0 0 0)))) && ((((WEdit.mask (List.getD (Edit.words a) (Int.toNat x5) (WEdit.mk 0 0 0 0))) : Int) == (WEdit.mask (List.getD (Edit.words b) (Int.toNat x5) (WEdit.mk 0 0 0 0)))) && ((((WEdit.old (List.getD (Edit.words a) (Int.toNat x5) (WEdit.mk 0 0 0 0))) : Int) == (WEdit.old (List.getD (Edit.words b) (Int.toNat x5) (WEdit.mk 0 0 0 0)))) && ((((WEdit.new (List.getD (Edit.words a) (Int.toNat x5) (WEdit.mk 0 0 0 0))) : Int) == (WEdit.new (List.getD (Edit.words b) (Int.toNat x5) (WEdit.mk 0 0 0 0)))) && true))))) = false → (InR ((x5 : Int) + 1)) ∧ (N0 (head39_0 a b ((x5 : Int) + 1)))))) ∧ ((decide ((x5 : Int) < ((Edit.words a).length : Int))) = false → LoopWp (awp cfg (know (know39 N)) (drawOk cfg (know (know39 N))) Try.f39.ntmps lv39 (cd Try.f39 [1, 1, 1, 0, 1, 0, 0])) (head39_1 a b 0) (AExit.inBlock 2 (seqK cfg (know (know39 N)) (drawOk cfg (know (know39 N))) Try.f39.ntmps lv39 (cd Try.f39 [1, 1, 1, 1]) Q)))) :
    W39_l0 N a b x5 N0 Q := by
  have e_ : (awp cfg (know (know39 N)) (drawOk cfg (know (know39 N))) Try.f39.ntmps lv39 (cd Try.f39 [1, 1, 0, 1, 0, 0]) (head39_0 a b x5) (AExit.then N0 (AExit.inBlock 0 (seqK cfg (know (know39 N)) (drawOk cfg (know (know39 N))) Try.f39.ntmps lv39 (cd Try.f39 [1, 1, 1]) Q)))) = ((((decide ((x5 : Int) < ((Edit.words a).length : Int))) = true → ((0 : Int) ≤ x5 ∧ x5 < ((Edit.words a).length : Int)) ∧ ((0 : Int) ≤ x5 ∧ x5 < ((Edit.words b).length : Int)) ∧ (((!((((WEdit.at_ (List.getD (Edit.words a) (Int.toNat x5) (WEdit.mk 0 0 0 0))) : Int) == (WEdit.at_ (List.getD (Edit.words b) (Int.toNat x5) (WEdit.mk 0 0 0 0)))) && ((((WEdit.mask (List.getD (Edit.words a) (Int.toNat x5) (WEdit.mk 0 0 0 0))) : Int) == (WEdit.mask (List.getD (Edit.words b) (Int.toNat x5) (WEdit.mk 0 0 0 0)))) && ((((WEdit.old (List.getD (Edit.words a) (Int.toNat x5) (WEdit.mk 0 0 0 0))) : Int) == (WEdit.old (List.getD (Edit.words b) (Int.toNat x5) (WEdit.mk 0 0 0 0)))) && ((((WEdit.new (List.getD (Edit.words a) (Int.toNat x5) (WEdit.mk 0 0 0 0))) : Int) == (WEdit.new (List.getD (Edit.words b) (Int.toNat x5) (WEdit.mk 0 0 0 0)))) && true))))) = true → (Q .ret (⟨[(4, .c (.bool false))], [], []⟩ : LSt U))) ∧ ((!((((WEdit.at_ (List.getD (Edit.words a) (Int.toNat x5) (WEdit.mk 0 0 0 0))) : Int) == (WEdit.at_ (List.getD (Edit.words b) (Int.toNat x5) (WEdit.mk 0 0 0 0)))) && ((((WEdit.mask (List.getD (Edit.words a) (Int.toNat x5) (WEdit.mk 0 0 0 0))) : Int) == (WEdit.mask (List.getD (Edit.words b) (Int.toNat x5) (WEdit.mk 0 0 0 0)))) && ((((WEdit.old (List.getD (Edit.words a) (Int.toNat x5) (WEdit.mk 0 0 0 0))) : Int) == (WEdit.old (List.getD (Edit.words b) (Int.toNat x5) (WEdit.mk 0 0 0 0)))) && ((((WEdit.new (List.getD (Edit.words a) (Int.toNat x5) (WEdit.mk 0 0 0 0))) : Int) == (WEdit.new (List.getD (Edit.words b) (Int.toNat x5) (WEdit.mk 0 0 0 0)))) && true))))) = false → (InR ((x5 : Int) + 1)) ∧ (N0 (head39_0 a b ((x5 : Int) + 1)))))) ∧ ((decide ((x5 : Int) < ((Edit.words a).length : Int))) = false → (LoopWp (awp cfg (know (know39 N)) (drawOk cfg (know (know39 N))) Try.f39.ntmps lv39 (cd Try.f39 [1, 1, 1, 0, 1, 0, 0])) (head39_1 a b 0) (AExit.inBlock 2 (seqK cfg (know (know39 N)) (drawOk cfg (know (know39 N))) Try.f39.ntmps lv39 (cd Try.f39 [1, 1, 1, 1]) Q)))))) := by kernel_rfl
  exact e_.mpr ⟨fun c_23 => ⟨(h.1 c_23).1, (h.1 c_23).2.1, ⟨fun c_24 => ((h.1 c_23).2.2.1 c_24), fun c_24 => ⟨((h.1 c_23).2.2.2 c_24).1, ((h.1 c_23).2.2.2 c_24).2⟩⟩⟩, fun c_23 => (h.2 c_23)⟩
abbrev W39_l1 (N : Nat) (a : Edit) (b : Edit) (x6_a : Int) (N1 : LSt U → Prop) (Q : AExit → LSt U → Prop) : Prop := awp cfg (know (know39 N)) (drawOk cfg (know (know39 N))) Try.f39.ntmps lv39 (cd Try.f39 [1, 1, 1, 0, 1, 0, 0]) (head39_1 a b x6_a) (AExit.then N1 (AExit.inBlock 2 (seqK cfg (know (know39 N)) (drawOk cfg (know (know39 N))) Try.f39.ntmps lv39 (cd Try.f39 [1, 1, 1, 1]) Q)))
/-- the loop at [1, 1, 1, 0, 1, 0] -/
theorem vc39_l1 (N : Nat) (a : Edit) (b : Edit) (x6_a : Int) (N1 : LSt U → Prop) (Q : AExit → LSt U → Prop) (h : ∀ y_1, y_1 = (List.getD (Edit.kids a) (Int.toNat x6_a) (KidOf.mk 0 Edit.nil)) → ∀ y_2, y_2 = (List.getD (Edit.kids b) (Int.toNat x6_a) (KidOf.mk 0 Edit.nil)) → ∀ y_3, y_3 = ((KidOf.e y_1)) → ∀ y_4, y_4 = ((KidOf.e y_2)) → ((decide ((x6_a : Int) < ((Edit.kids a).length : Int))) = true → ((0 : Int) ≤ x6_a ∧ x6_a < ((Edit.kids a).length : Int)) ∧ ((0 : Int) ≤ x6_a ∧ x6_a < ((Edit.kids b).length : Int)) ∧ ((!(((KidOf.at_ y_1) : Int) != (KidOf.at_ y_2))) = true → (0 : Int) ≤ x6_a ∧ x6_a < ((Edit.kids a).length : Int)) ∧ ((!(((KidOf.at_ y_1) : Int) != (KidOf.at_ y_2))) = true → (0 : Int) ≤ x6_a ∧ x6_a < ((Edit.kids b).length : Int)) ∧ ((!(((KidOf.at_ y_1) : Int) != (KidOf.at_ y_2))) = true → pre39 (y_3, y_4, ())) ∧ ((!(((KidOf.at_ y_1) : Int) != (KidOf.at_ y_2))) = true → mu39 (y_3, y_4, ()) < N) ∧ (((bif (((KidOf.at_ y_1) : Int) != (KidOf.at_ y_2)) then true else (!(eqX y_3 y_4))) = true → Q .ret (⟨[(4, .c (.bool false))], [], []⟩ : LSt U)) ∧ ((bif (((KidOf.at_ y_1) : Int) != (KidOf.at_ y_2)) then true else (!(eqX y_3 y_4))) = false → (InR ((x6_a : Int) + 1)) ∧ (N1 (head39_1 a b ((x6_a : Int) + 1)))))) ∧ ((decide ((x6_a : Int) < ((Edit.kids a).length : Int))) = false → LoopWp (awp cfg (know (know39 N)) (drawOk cfg (know (know39 N))) Try.f39.ntmps lv39 (cd Try.f39 [1, 1, 1, 1, 0, 1, 0, 0])) (head39_2 a b 0) (AExit.inBlock 4 (seqK cfg (know (know39 N)) (drawOk cfg (know (know39 N))) Try.f39.ntmps lv39 (cd Try.f39 [1, 1, 1, 1, 1]) Q)))) :
    W39_l1 N a b x6_a N1 Q := by
  have e_ : (awp cfg (know (know39 N)) (drawOk cfg (know (know39 N))) Try.f39.ntmps lv39 (cd Try.f39 [1, 1, 1, 0, 1, 0, 0]) (head39_1 a b x6_a) (AExit.then N1 (AExit.inBlock 2 (seqK cfg (know (know39 N)) (drawOk cfg (know (know39 N))) Try.f39.ntmps lv39 (cd Try.f39 [1, 1, 1, 1]) Q)))) = (let y_1 := (List.getD (Edit.kids a) (Int.toNat x6_a) (KidOf.mk 0 Edit.nil)); let y_2 := (List.getD (Edit.kids b) (Int.toNat x6_a) (KidOf.mk 0 Edit.nil)); let y_3 := (reEdit (KidOf.e y_1)); let y_4 := (reEdit (KidOf.e y_2)); (((decide ((x6_a : Int) < ((Edit.kids a).length : Int))) = true → ((0 : Int) ≤ x6_a ∧ x6_a < ((Edit.kids a).length : Int)) ∧ ((0 : Int) ≤ x6_a ∧ x6_a < ((Edit.kids b).length : Int)) ∧ ((!(((KidOf.at_ y_1) : Int) != (KidOf.at_ y_2))) = true → (!(((KidOf.at_ y_1) : Int) != (KidOf.at_ y_2))) = true) ∧ ((!(((KidOf.at_ y_1) : Int) != (KidOf.at_ y_2))) = true → (!(((KidOf.at_ y_1) : Int) != (KidOf.at_ y_2))) = true) ∧ ((!(((KidOf.at_ y_1) : Int) != (KidOf.at_ y_2))) = true → (!(((KidOf.at_ y_1) : Int) != (KidOf.at_ y_2))) = true) ∧ ((!(((KidOf.at_ y_1) : Int) != (KidOf.at_ y_2))) = true → (0 : Int) ≤ x6_a ∧ x6_a < ((Edit.kids a).length : Int)) ∧ ((!(((KidOf.at_ y_1) : Int) != (KidOf.at_ y_2))) = true → (!(((KidOf.at_ y_1) : Int) != (KidOf.at_ y_2))) = true) ∧ ((!(((KidOf.at_ y_1) : Int) != (KidOf.at_ y_2))) = true → (!(((KidOf.at_ y_1) : Int) != (KidOf.at_ y_2))) = true) ∧ ((!(((KidOf.at_ y_1) : Int) != (KidOf.at_ y_2))) = true → (!(((KidOf.at_ y_1) : Int) != (KidOf.at_ y_2))) = true) ∧ ((!(((KidOf.at_ y_1) : Int) != (KidOf.at_ y_2))) = true → (!(((KidOf.at_ y_1) : Int) != (KidOf.at_ y_2))) = true) ∧ ((!(((KidOf.at_ y_1) : Int) != (KidOf.at_ y_2))) = true → (!(((KidOf.at_ y_1) : Int) != (KidOf.at_ y_2))) = true) ∧ ((!(((KidOf.at_ y_1) : Int) != (KidOf.at_ y_2))) = true → (0 : Int) ≤ x6_a ∧ x6_a < ((Edit.kids b).length : Int)) ∧ ((!(((KidOf.at_ y_1) : Int) != (KidOf.at_ y_2))) = true → (!(((KidOf.at_ y_1) : Int) != (KidOf.at_ y_2))) = true) ∧ ((!(((KidOf.at_ y_1) : Int) != (KidOf.at_ y_2))) = true → (!(((KidOf.at_ y_1) : Int) != (KidOf.at_ y_2))) = true) ∧ ((!(((KidOf.at_ y_1) : Int) != (KidOf.at_ y_2))) = true → (!(((KidOf.at_ y_1) : Int) != (KidOf.at_ y_2))) = true) ∧ ((!(((KidOf.at_ y_1) : Int) != (KidOf.at_ y_2))) = true → (!(((KidOf.at_ y_1) : Int) != (KidOf.at_ y_2))) = true) ∧ ((!(((KidOf.at_ y_1) : Int) != (KidOf.at_ y_2))) = true → pre39 (y_3, y_4, ())) ∧ ((!(((KidOf.at_ y_1) : Int) != (KidOf.at_ y_2))) = true → mu39 (y_3, y_4, ()) < N) ∧ ((!(((KidOf.at_ y_1) : Int) != (KidOf.at_ y_2))) = true → (!(((KidOf.at_ y_1) : Int) != (KidOf.at_ y_2))) = true) ∧ (((((KidOf.at_ y_1) : Int) != (KidOf.at_ y_2)) = false → (!(((KidOf.at_ y_1) : Int) != (KidOf.at_ y_2))) = true)) ∧ (((bif (((KidOf.at_ y_1) : Int) != (KidOf.at_ y_2)) then true else (!(eqX y_3 y_4))) = true → (Q .ret (⟨[(4, .c (.bool false))], [], []⟩ : LSt U))) ∧ ((bif (((KidOf.at_ y_1) : Int) != (KidOf.at_ y_2)) then true else (!(eqX y_3 y_4))) = false → (InR ((x6_a : Int) + 1)) ∧ (N1 (head39_1 a b ((x6_a : Int) + 1)))))) ∧ ((decide ((x6_a : Int) < ((Edit.kids a).length : Int))) = false → (LoopWp (awp cfg (know (know39 N)) (drawOk cfg (know (know39 N))) Try.f39.ntmps lv39 (cd Try.f39 [1, 1, 1, 1, 0, 1, 0, 0])) (head39_2 a b 0) (AExit.inBlock 4 (seqK cfg (know (know39 N)) (drawOk cfg (know (know39 N))) Try.f39.ntmps lv39 (cd Try.f39 [1, 1, 1, 1, 1]) Q)))))) := by kernel_rfl
  exact e_.mpr (by intro y_1 y_2 y_3 y_4; exact ⟨fun c_25 => ⟨((h y_1 rfl y_2 rfl y_3 (reEdit_eq _) y_4 (reEdit_eq _)).1 c_25).1, ((h y_1 rfl y_2 rfl y_3 (reEdit_eq _) y_4 (reEdit_eq _)).1 c_25).2.1, fun x => x, fun x => x, fun x => x, ((h y_1 rfl y_2 rfl y_3 (reEdit_eq _) y_4 (reEdit_eq _)).1 c_25).2.2.1, fun x => x, fun x => x, fun x => x, fun x => x, fun x => x, ((h y_1 rfl y_2 rfl y_3 (reEdit_eq _) y_4 (reEdit_eq _)).1 c_25).2.2.2.1, fun x => x, fun x => x, fun x => x, fun x => x, ((h y_1 rfl y_2 rfl y_3 (reEdit_eq _) y_4 (reEdit_eq _)).1 c_25).2.2.2.2.1, ((h y_1 rfl y_2 rfl y_3 (reEdit_eq _) y_4 (reEdit_eq _)).1 c_25).2.2.2.2.2.1, fun x => x, (by generalize (((KidOf.at_ y_1) : Int) != (KidOf.at_ y_2)) = b0; revert b0; decide), ⟨fun c_26 => (((h y_1 rfl y_2 rfl y_3 (reEdit_eq _) y_4 (reEdit_eq _)).1 c_25).2.2.2.2.2.2.1 c_26), fun c_26 => ⟨(((h y_1 rfl y_2 rfl y_3 (reEdit_eq _) y_4 (reEdit_eq _)).1 c_25).2.2.2.2.2.2.2 c_26).1, (((h y_1 rfl y_2 rfl y_3 (reEdit_eq _) y_4 (reEdit_eq _)).1 c_25).2.2.2.2.2.2.2 c_26).2⟩⟩⟩, fun c_25 => ((h y_1 rfl y_2 rfl y_3 (reEdit_eq _) y_4 (reEdit_eq _)).2 c_25)⟩)
abbrev W39_l2 (N : Nat) (a : Edit) (b : Edit) (x7_b : Int) (N2 : LSt U → Prop) (Q : AExit → LSt U → Prop) : Prop := awp cfg (know (know39 N)) (drawOk cfg (know (know39 N))) Try.f39.ntmps lv39 (cd Try.f39 [1, 1, 1, 1, 0, 1, 0, 0]) (head39_2 a b x7_b) (AExit.then N2 (AExit.inBlock 4 (seqK cfg (know (know39 N)) (drawOk cfg (know (know39 N))) Try.f39.ntmps lv39 (cd Try.f39 [1, 1, 1, 1, 1]) Q)))
/-- the loop at [1, 1, 1, 1, 0, 1, 0] -/
theorem vc39_l2 (N : Nat) (a : Edit) (b : Edit) (x7_b : Int) (N2 : LSt U → Prop) (Q : AExit → LSt U → Prop) (h : ∀ y_1, y_1 = (List.getD (Edit.ops a) (Int.toNat x7_b) Op.nil) → ∀ y_2, y_2 = (List.getD (Edit.ops b) (Int.toNat x7_b) Op.nil) → ∀ y_3, y_3 = ((OpOf.e y_1)) → ∀ y_4, y_4 = ((OpOf.e y_2)) → ((decide ((x7_b : Int) < ((Edit.ops a).length : Int))) = true → ((0 : Int) ≤ x7_b ∧ x7_b < ((Edit.ops a).length : Int)) ∧ ((0 : Int) ≤ x7_b ∧ x7_b < ((Edit.ops b).length : Int)) ∧ (((!(bif (((OpOf.kind y_1) : Int) != (OpOf.kind y_2)) then true else (((OpOf.n y_1) : Int) != (OpOf.n y_2)))) = true → pre77 ((OpOf.l y_1), (OpOf.l y_2), ())) ∧ ((!(bif (bif (((OpOf.kind y_1) : Int) != (OpOf.kind y_2)) then true else (((OpOf.n y_1) : Int) != (OpOf.n y_2))) then true else (!(eqX (OpOf.l y_1) (OpOf.l y_2))))) = true → pre39 (y_3, y_4, ())) ∧ ((!(bif (bif (((OpOf.kind y_1) : Int) != (OpOf.kind y_2)) then true else (((OpOf.n y_1) : Int) != (OpOf.n y_2))) then true else (!(eqX (OpOf.l y_1) (OpOf.l y_2))))) = true → mu39 (y_3, y_4, ()) < N) ∧ (((bif (bif (bif (((OpOf.kind y_1) : Int) != (OpOf.kind y_2)) then true else (((OpOf.n y_1) : Int) != (OpOf.n y_2))) then true else (!(eqX (OpOf.l y_1) (OpOf.l y_2)))) then true else (!(eqX y_3 y_4))) = true → Q .ret (⟨[(4, .c (.bool false))], [], []⟩ : LSt U)) ∧ ((bif (bif (bif (((OpOf.kind y_1) : Int) != (OpOf.kind y_2)) then true else (((OpOf.n y_1) : Int) != (OpOf.n y_2))) then true else (!(eqX (OpOf.l y_1) (OpOf.l y_2)))) then true else (!(eqX y_3 y_4))) = false → (InR ((x7_b : Int) + 1)) ∧ (N2 (head39_2 a b ((x7_b : Int) + 1))))))) ∧ ((decide ((x7_b : Int) < ((Edit.ops a).length : Int))) = false → Q .ret (⟨[(4, .c (.bool true))], [], []⟩ : LSt U))) :
    W39_l2 N a b x7_b N2 Q := by
  have e_ : (awp cfg (know (know39 N)) (drawOk cfg (know (know39 N))) Try.f39.ntmps lv39 (cd Try.f39 [1, 1, 1, 1, 0, 1, 0, 0]) (head39_2 a b x7_b) (AExit.then N2 (AExit.inBlock 4 (seqK cfg (know (know39 N)) (drawOk cfg (know (know39 N))) Try.f39.ntmps lv39 (cd Try.f39 [1, 1, 1, 1, 1]) Q)))) = (let y_1 := (List.getD (Edit.ops a) (Int.toNat x7_b) Op.nil); let y_2 := (List.getD (Edit.ops b) (Int.toNat x7_b) Op.nil); let y_3 := (reEdit (OpOf.e y_1)); let y_4 := (reEdit (OpOf.e y_2)); (((decide ((x7_b : Int) < ((Edit.ops a).length : Int))) = true → ((0 : Int) ≤ x7_b ∧ x7_b < ((Edit.ops a).length : Int)) ∧ ((0 : Int) ≤ x7_b ∧ x7_b < ((Edit.ops b).length : Int)) ∧ (((!(((OpOf.kind y_1) : Int) != (OpOf.kind y_2))) = true → (!(((OpOf.kind y_1) : Int) != (OpOf.kind y_2))) = true) ∧ ((!(((OpOf.kind y_1) : Int) != (OpOf.kind y_2))) = true → (!(((OpOf.kind y_1) : Int) != (OpOf.kind y_2))) = true) ∧ ((!(((OpOf.kind y_1) : Int) != (OpOf.kind y_2))) = true → (!(((OpOf.kind y_1) : Int) != (OpOf.kind y_2))) = true) ∧ ((!(((OpOf.kind y_1) : Int) != (OpOf.kind y_2))) = true → (!(((OpOf.kind y_1) : Int) != (OpOf.kind y_2))) = true) ∧ (((((OpOf.kind y_1) : Int) != (OpOf.kind y_2)) = false → (!(((OpOf.kind y_1) : Int) != (OpOf.kind y_2))) = true)) ∧ ((!(bif (((OpOf.kind y_1) : Int) != (OpOf.kind y_2)) then true else (((OpOf.n y_1) : Int) != (OpOf.n y_2)))) = true → (!(bif (((OpOf.kind y_1) : Int) != (OpOf.kind y_2)) then true else (((OpOf.n y_1) : Int) != (OpOf.n y_2)))) = true) ∧ ((!(bif (((OpOf.kind y_1) : Int) != (OpOf.kind y_2)) then true else (((OpOf.n y_1) : Int) != (OpOf.n y_2)))) = true → (!(bif (((OpOf.kind y_1) : Int) != (OpOf.kind y_2)) then true else (((OpOf.n y_1) : Int) != (OpOf.n y_2)))) = true) ∧ ((!(bif (((OpOf.kind y_1) : Int) != (OpOf.kind y_2)) then true else (((OpOf.n y_1) : Int) != (OpOf.n y_2)))) = true → (!(bif (((OpOf.kind y_1) : Int) != (OpOf.kind y_2)) then true else (((OpOf.n y_1) : Int) != (OpOf.n y_2)))) = true) ∧ ((!(bif (((OpOf.kind y_1) : Int) != (OpOf.kind y_2)) then true else (((OpOf.n y_1) : Int) != (OpOf.n y_2)))) = true → (!(bif (((OpOf.kind y_1) : Int) != (OpOf.kind y_2)) then true else (((OpOf.n y_1) : Int) != (OpOf.n y_2)))) = true) ∧ ((!(bif (((OpOf.kind y_1) : Int) != (OpOf.kind y_2)) then true else (((OpOf.n y_1) : Int) != (OpOf.n y_2)))) = true → pre77 ((OpOf.l y_1), (OpOf.l y_2), ())) ∧ ((!(bif (((OpOf.kind y_1) : Int) != (OpOf.kind y_2)) then true else (((OpOf.n y_1) : Int) != (OpOf.n y_2)))) = true → (!(bif (((OpOf.kind y_1) : Int) != (OpOf.kind y_2)) then true else (((OpOf.n y_1) : Int) != (OpOf.n y_2)))) = true) ∧ (((bif (((OpOf.kind y_1) : Int) != (OpOf.kind y_2)) then true else (((OpOf.n y_1) : Int) != (OpOf.n y_2))) = false → (!(bif (((OpOf.kind y_1) : Int) != (OpOf.kind y_2)) then true else (((OpOf.n y_1) : Int) != (OpOf.n y_2)))) = true)) ∧ ((!(bif (bif (((OpOf.kind y_1) : Int) != (OpOf.kind y_2)) then true else (((OpOf.n y_1) : Int) != (OpOf.n y_2))) then true else (!(eqX (OpOf.l y_1) (OpOf.l y_2))))) = true → (!(bif (bif (((OpOf.kind y_1) : Int) != (OpOf.kind y_2)) then true else (((OpOf.n y_1) : Int) != (OpOf.n y_2))) then true else (!(eqX (OpOf.l y_1) (OpOf.l y_2))))) = true) ∧ ((!(bif (bif (((OpOf.kind y_1) : Int) != (OpOf.kind y_2)) then true else (((OpOf.n y_1) : Int) != (OpOf.n y_2))) then true else (!(eqX (OpOf.l y_1) (OpOf.l y_2))))) = true → (!(bif (bif (((OpOf.kind y_1) : Int) != (OpOf.kind y_2)) then true else (((OpOf.n y_1) : Int) != (OpOf.n y_2))) then true else (!(eqX (OpOf.l y_1) (OpOf.l y_2))))) = true) ∧ ((!(bif (bif (((OpOf.kind y_1) : Int) != (OpOf.kind y_2)) then true else (((OpOf.n y_1) : Int) != (OpOf.n y_2))) then true else (!(eqX (OpOf.l y_1) (OpOf.l y_2))))) = true → (!(bif (bif (((OpOf.kind y_1) : Int) != (OpOf.kind y_2)) then true else (((OpOf.n y_1) : Int) != (OpOf.n y_2))) then true else (!(eqX (OpOf.l y_1) (OpOf.l y_2))))) = true) ∧ ((!(bif (bif (((OpOf.kind y_1) : Int) != (OpOf.kind y_2)) then true else (((OpOf.n y_1) : Int) != (OpOf.n y_2))) then true else (!(eqX (OpOf.l y_1) (OpOf.l y_2))))) = true → (!(bif (bif (((OpOf.kind y_1) : Int) != (OpOf.kind y_2)) then true else (((OpOf.n y_1) : Int) != (OpOf.n y_2))) then true else (!(eqX (OpOf.l y_1) (OpOf.l y_2))))) = true) ∧ ((!(bif (bif (((OpOf.kind y_1) : Int) != (OpOf.kind y_2)) then true else (((OpOf.n y_1) : Int) != (OpOf.n y_2))) then true else (!(eqX (OpOf.l y_1) (OpOf.l y_2))))) = true → pre39 (y_3, y_4, ())) ∧ ((!(bif (bif (((OpOf.kind y_1) : Int) != (OpOf.kind y_2)) then true else (((OpOf.n y_1) : Int) != (OpOf.n y_2))) then true else (!(eqX (OpOf.l y_1) (OpOf.l y_2))))) = true → mu39 (y_3, y_4, ()) < N) ∧ ((!(bif (bif (((OpOf.kind y_1) : Int) != (OpOf.kind y_2)) then true else (((OpOf.n y_1) : Int) != (OpOf.n y_2))) then true else (!(eqX (OpOf.l y_1) (OpOf.l y_2))))) = true → (!(bif (bif (((OpOf.kind y_1) : Int) != (OpOf.kind y_2)) then true else (((OpOf.n y_1) : Int) != (OpOf.n y_2))) then true else (!(eqX (OpOf.l y_1) (OpOf.l y_2))))) = true) ∧ (((bif (bif (((OpOf.kind y_1) : Int) != (OpOf.kind y_2)) then true else (((OpOf.n y_1) : Int) != (OpOf.n y_2))) then true else (!(eqX (OpOf.l y_1) (OpOf.l y_2)))) = false → (!(bif (bif (((OpOf.kind y_1) : Int) != (OpOf.kind y_2)) then true else (((OpOf.n y_1) : Int) != (OpOf.n y_2))) then true else (!(eqX (OpOf.l y_1) (OpOf.l y_2))))) = true)) ∧ (((bif (bif (bif (((OpOf.kind y_1) : Int) != (OpOf.kind y_2)) then true else (((OpOf.n y_1) : Int) != (OpOf.n y_2))) then true else (!(eqX (OpOf.l y_1) (OpOf.l y_2)))) then true else (!(eqX y_3 y_4))) = true → (Q .ret (⟨[(4, .c (.bool false))], [], []⟩ : LSt U))) ∧ ((bif (bif (bif (((OpOf.kind y_1) : Int) != (OpOf.kind y_2)) then true else (((OpOf.n y_1) : Int) != (OpOf.n y_2))) then true else (!(eqX (OpOf.l y_1) (OpOf.l y_2)))) then true else (!(eqX y_3 y_4))) = false → (InR ((x7_b : Int) + 1)) ∧ (N2 (head39_2 a b ((x7_b : Int) + 1))))))) ∧ ((decide ((x7_b : Int) < ((Edit.ops a).length : Int))) = false → (Q .ret (⟨[(4, .c (.bool true))], [], []⟩ : LSt U))))) := by kernel_rfl
  exact e_.mpr (by intro y_1 y_2 y_3 y_4; exact ⟨fun c_27 => ⟨((h y_1 rfl y_2 rfl y_3 (reEdit_eq _) y_4 (reEdit_eq _)).1 c_27).1, ((h y_1 rfl y_2 rfl y_3 (reEdit_eq _) y_4 (reEdit_eq _)).1 c_27).2.1, ⟨fun x => x, fun x => x, fun x => x, fun x => x, (by generalize (((OpOf.kind y_1) : Int) != (OpOf.kind y_2)) = b0; revert b0; decide), fun x => x, fun x => x, fun x => x, fun x => x, ((h y_1 rfl y_2 rfl y_3 (reEdit_eq _) y_4 (reEdit_eq _)).1 c_27).2.2.1, fun x => x, (by generalize (((OpOf.kind y_1) : Int) != (OpOf.kind y_2)) = b0; generalize (((OpOf.n y_1) : Int) != (OpOf.n y_2)) = b1; revert b0 b1; decide), fun x => x, fun x => x, fun x => x, fun x => x, ((h y_1 rfl y_2 rfl y_3 (reEdit_eq _) y_4 (reEdit_eq _)).1 c_27).2.2.2.1, ((h y_1 rfl y_2 rfl y_3 (reEdit_eq _) y_4 (reEdit_eq _)).1 c_27).2.2.2.2.1, fun x => x, (by generalize (((OpOf.kind y_1) : Int) != (OpOf.kind y_2)) = b0; generalize (((OpOf.n y_1) : Int) != (OpOf.n y_2)) = b1; generalize (eqX (OpOf.l y_1) (OpOf.l y_2)) = b2; revert b0 b1 b2; decide), ⟨fun c_28 => (((h y_1 rfl y_2 rfl y_3 (reEdit_eq _) y_4 (reEdit_eq _)).1 c_27).2.2.2.2.2.1 c_28), fun c_28 => ⟨(((h y_1 rfl y_2 rfl y_3 (reEdit_eq _) y_4 (reEdit_eq _)).1 c_27).2.2.2.2.2.2 c_28).1, (((h y_1 rfl y_2 rfl y_3 (reEdit_eq _) y_4 (reEdit_eq _)).1 c_27).2.2.2.2.2.2 c_28).2⟩⟩⟩⟩, fun c_27 => ((h y_1 rfl y_2 rfl y_3 (reEdit_eq _) y_4 (reEdit_eq _)).2 c_27)⟩)
def Body39 (N : Nat) (a : Edit) (b : Edit)  : Prop := awp cfg (know (know39 N)) (drawOk cfg (know (know39 N))) Try.f39.ntmps lv39 (cd Try.f39 []) (entry (args39.can (a, b, ())) []) (EndsQ cfg Try.f39.ntmps Try.f39.results.toList (res39 (a, b, ())) [])
theorem make39 (c33 : Contract Try.prog cfg 33 spec33) (c77 : Contract Try.prog cfg 77 spec77) (hb : ∀ (N : Nat) (a : Edit) (b : Edit) (_ : Unit), pre39 (a, b, ()) → mu39 (a, b, ()) < N + 1 → Body39 N a b) : Contract Try.prog cfg 39 spec39 :=
  contract_rec (μ := mu39) (l := [(33, spec33), (77, spec77)]) cfgOk rfl (⟨c33, c77, trivial⟩) lv39 Try.func39 rfl rfl 2 (fun _ => rfl) (by decide) (fun N ⟨a, b, _⟩ => hb N a b ())

/-! cento/centolaw24.same -/
/-! cento/centolaw24.alike -/
/-! cento/centolaw24.steps -/
/-! cento/centolaw24.awake -/
/-! cento/centolaw24.AlignThrough -/
/-! cento/centolaw24.AlignWhole -/
/-! cento/centolaw24.AlignBehind -/
end Go.AM.Ytlahjnelghpmeaa

namespace Go.AM.Ytlahjnelghpmeaa
open Go.AM Go.Proofs


/-! ## pair -/
end Go.AM.Ytlahjnelghpmeaa

namespace Go.AM.Ytlahjnelghpmeaa
open Go.AM Go.Proofs

theorem eqX_no {α : Type} {a b : α} (h : ¬ a = b) : eqX a b = false := by rw [← Bool.not_eq_true, eqX_iff]; exact h

/-! ## the same, as they stand -/
theorem list_eq_getD {α : Type} (d : α) {a b : List α} (hl : a.length = b.length) (h : ∀ i : Nat, i < a.length → a.getD i d = b.getD i d) : a = b := by
  apply List.ext_getElem hl
  intro i h1 h2
  have := h i h1
  simpa [List.getD_eq_getElem?_getD, List.getElem?_eq_getElem h1, List.getElem?_eq_getElem h2] using this

theorem c77 : Contract Try.prog cfg 77 spec77 := by
  refine make77 c33 ?_
  intro a b _ hp
  simp only [pre77] at hp
  refine vc77 _ _ _ ?_
  (simp only [bif_tl, bif_fr, bif_tlf, bif_frf, Bool.not_eq_true', Bool.not_eq_false', decide_eq_true_eq, decide_eq_false_iff_not, beq_iff_eq, beq_eq_false_iff_ne, bne_iff_ne, ne_eq, bne_eq_false_iff_eq, Bool.or_eq_true, Bool.and_eq_true, Bool.or_eq_false_iff, Bool.and_eq_false_imp])
  refine ⟨fun hc => ends_bool rfl (eqX_no (a := a) (b := b) (fun h => hc (by rw [h]))).symm, fun hc => ?_⟩
  have hl : a.length = b.length := by omega
  have hla := massK_len a
  refine loop_rule (ι := Int) (fun i => head77_0 a b i) (fun i => 0 ≤ i ∧ i ≤ a.length ∧ ∀ j : Nat, (j : Int) < i → a.getD j Tree.nil = b.getD j Tree.nil) (fun i => ((a.length : Int) - i).toNat) 0 rfl ⟨by omega, by omega, by intro j hj; omega⟩ ?_
  rintro i ⟨h1, h2, h3⟩
  refine vc77_l0 _ _ _ _ _ ?_
  (simp only [bif_tl, bif_fr, bif_tlf, bif_frf, Bool.not_eq_true', Bool.not_eq_false', decide_eq_true_eq, decide_eq_false_iff_not, beq_iff_eq, beq_eq_false_iff_ne, bne_iff_ne, ne_eq, bne_eq_false_iff_eq, Bool.or_eq_true, Bool.and_eq_true, Bool.or_eq_false_iff, Bool.and_eq_false_imp])
  (simp only [Tree.eta, Edit.eta, Tree.kind_mk, Tree.words_mk, Tree.kids_mk])
  refine ⟨fun hi => ⟨⟨h1, hi⟩, ⟨h1, by omega⟩, ?_, fun hq => ?_, fun hq => ⟨by unfold InR; omega, i + 1, rfl, ⟨by omega, by omega, ?_⟩, by omega⟩⟩, fun hi => ?_⟩
  · have := massK_mem (mem_getD (l := a) (i := i.toNat) (by omega) Tree.nil)
    simp only [pre33]; omega
  · refine ends_bool rfl (eqX_no (a := a) (b := b) (fun h => ?_)).symm
    rw [h, sameT_false] at hq
    exact hq rfl
  · intro j hj
    by_cases hj2 : (j : Int) < i
    · exact h3 j hj2
    · rw [sameT_true, show i.toNat = j by omega] at hq
      exact hq
  · refine ends_bool rfl (eqX_iff (a := a) (b := b).2 (list_eq_getD Tree.nil hl (fun j hj => h3 j (by omega)))).symm

theorem edit_ext {a b : Edit} (h1 : a.kind = b.kind) (h2 : a.old = b.old) (h3 : a.new = b.new) (h4 : a.words = b.words) (h5 : a.kids = b.kids) (h6 : a.list = b.list) (h7 : a.ops = b.ops) : a = b := by
  cases a; cases b; simp_all

theorem kid_ext {a b : Kid} (h1 : a.at_ = b.at_) (h2 : a.e = b.e) : a = b := by cases a; cases b; simp_all
theorem op_ext {a b : Op} (h1 : a.kind = b.kind) (h2 : a.n = b.n) (h3 : a.l = b.l) (h4 : a.e = b.e) : a = b := by cases a; cases b; simp_all
theorem wedit_ext {a b : WEdit} (h1 : a.at_ = b.at_) (h2 : a.mask = b.mask) (h3 : a.old = b.old) (h4 : a.new = b.new) : a = b := by cases a; cases b; simp_all

theorem c39 : Contract Try.prog cfg 39 spec39 := by
  refine make39 c33 c77 ?_
  intro N a b _ hp hN
  simp only [pre39, mu39] at hp hN
  have hme := len_massE a
  have hkl := massKs_len a.kids
  have hol := massOs_len a.ops
  have neq : ∀ {P : Prop}, (a = b → P) → ¬ P → eqX a b = false := fun h1 h2 => eqX_no (fun h => h2 (h1 h))
  refine vc39 N a b _ ?_
  rintro y1 rfl y2 rfl y3 rfl y4 rfl
  (simp only [bif_tl, bif_fr, bif_tlf, bif_frf, Bool.not_eq_true', Bool.not_eq_false', decide_eq_true_eq, decide_eq_false_iff_not, beq_iff_eq, beq_eq_false_iff_ne, bne_iff_ne, ne_eq, bne_eq_false_iff_eq, Bool.or_eq_true, Bool.and_eq_true, Bool.or_eq_false_iff, Bool.and_eq_false_imp])
  refine ⟨fun _ => ?_, fun _ => ?_, fun hc => ?_, fun hc => ?_⟩
  · simp only [pre33]; omega
  · simp only [pre33]; omega
  · refine ends_bool rfl (eqX_no (a := a) (b := b) (fun h => ?_)).symm
    rw [h] at hc
    simp only [sameT_false] at hc
    simp at hc
  · simp only [sameT_true, Classical.not_not] at hc
    obtain ⟨⟨⟨⟨⟨⟨h1, h2⟩, h3⟩, h4⟩, h5⟩, h6⟩, h7⟩ := hc
    refine loop_rule (ι := Int) (fun i => head39_0 a b i) (fun i => 0 ≤ i ∧ i ≤ a.words.length ∧ ∀ j : Nat, (j : Int) < i → a.words.getD j (WEdit.mk 0 0 0 0) = b.words.getD j (WEdit.mk 0 0 0 0)) (fun i => ((a.words.length : Int) - i).toNat) 0 rfl ⟨by omega, by omega, by intro j hj; omega⟩ ?_
    rintro i ⟨g1, g2, g3⟩
    refine vc39_l0 _ _ _ _ _ _ ?_
    (simp only [bif_tl, bif_fr, bif_tlf, bif_frf, Bool.not_eq_true', Bool.not_eq_false', decide_eq_true_eq, decide_eq_false_iff_not, beq_iff_eq, beq_eq_false_iff_ne, bne_iff_ne, ne_eq, bne_eq_false_iff_eq, Bool.or_eq_true, Bool.and_eq_true, Bool.or_eq_false_iff, Bool.and_eq_false_imp])
    simp only [and_true]
    refine ⟨fun hi => ⟨⟨g1, hi⟩, ⟨g1, by omega⟩, fun hq => ?_, fun hq => ⟨by unfold InR; omega, i + 1, rfl, ⟨by omega, by omega, ?_⟩, by omega⟩⟩, fun hi => ?_⟩
    · refine ends_bool rfl (eqX_no (a := a) (b := b) (fun h => ?_)).symm
      rw [h] at hq
      simp at hq
    · intro j hj
      by_cases hj2 : (j : Int) < i
      · exact g3 j hj2
      · rw [show i.toNat = j by omega] at hq
        exact wedit_ext hq.1 hq.2.1 hq.2.2.1 hq.2.2.2
    · have hw : a.words = b.words := list_eq_getD (WEdit.mk 0 0 0 0) (by omega) (fun j hj => g3 j (by omega))
      refine loop_rule (ι := Int) (fun i => head39_1 a b i) (fun i => 0 ≤ i ∧ i ≤ a.kids.length ∧ ∀ j : Nat, (j : Int) < i → a.kids.getD j (KidOf.mk 0 Edit.nil) = b.kids.getD j (KidOf.mk 0 Edit.nil)) (fun i => ((a.kids.length : Int) - i).toNat) 0 rfl ⟨by omega, by omega, by intro j hj; omega⟩ ?_
      rintro i ⟨g1, g2, g3⟩
      refine vc39_l1 _ _ _ _ _ _ ?_
      rintro y1 hy1 y2 hy2 y3 hy3 y4 hy4
      (simp only [bif_tl, bif_fr, bif_tlf, bif_frf, Bool.not_eq_true', Bool.not_eq_false', decide_eq_true_eq, decide_eq_false_iff_not, beq_iff_eq, beq_eq_false_iff_ne, bne_iff_ne, ne_eq, bne_eq_false_iff_eq, Bool.or_eq_true, Bool.and_eq_true, Bool.or_eq_false_iff, Bool.and_eq_false_imp])
      refine ⟨fun hi => ⟨⟨g1, hi⟩, ⟨g1, by omega⟩, fun _ => ⟨g1, hi⟩, fun _ => ⟨g1, by omega⟩, fun _ => ?_, fun _ => ?_, fun hq => ?_, fun hq => ⟨by unfold InR; omega, i + 1, rfl, ⟨by omega, by omega, ?_⟩, by omega⟩⟩, fun hi => ?_⟩
      · have := massKs_mem (mem_getD (l := a.kids) (i := i.toNat) (by omega) (KidOf.mk 0 Edit.nil))
        rw [← hy1, ← hy3] at this
        simp only [pre39]; omega
      · have := massKs_mem (mem_getD (l := a.kids) (i := i.toNat) (by omega) (KidOf.mk 0 Edit.nil))
        rw [← hy1, ← hy3] at this
        simp only [mu39]; omega
      · refine ends_bool rfl (eqX_no (a := a) (b := b) (fun h => ?_)).symm
        rw [h] at hy1
        rw [hy3, hy4, hy1, hy2, eqX_self] at hq
        simp at hq
      · intro j hj
        by_cases hj2 : (j : Int) < i
        · exact g3 j hj2
        · rw [eqX_iff, hy3, hy4, hy1, hy2, show i.toNat = j by omega] at hq
          exact kid_ext (by simpa using hq.1) hq.2
      · have hk : a.kids = b.kids := list_eq_getD (KidOf.mk 0 Edit.nil) (by omega) (fun j hj => g3 j (by omega))
        refine loop_rule (ι := Int) (fun i => head39_2 a b i) (fun i => 0 ≤ i ∧ i ≤ a.ops.length ∧ ∀ j : Nat, (j : Int) < i → a.ops.getD j Op.nil = b.ops.getD j Op.nil) (fun i => ((a.ops.length : Int) - i).toNat) 0 rfl ⟨by omega, by omega, by intro j hj; omega⟩ ?_
        rintro i ⟨g1, g2, g3⟩
        refine vc39_l2 _ _ _ _ _ _ ?_
        rintro y1 hy1 y2 hy2 y3 hy3 y4 hy4
        (simp only [bif_tl, bif_fr, bif_tlf, bif_frf, Bool.not_eq_true', Bool.not_eq_false', decide_eq_true_eq, decide_eq_false_iff_not, beq_iff_eq, beq_eq_false_iff_ne, bne_iff_ne, ne_eq, bne_eq_false_iff_eq, Bool.or_eq_true, Bool.and_eq_true, Bool.or_eq_false_iff, Bool.and_eq_false_imp])
        refine ⟨fun hi => ⟨⟨g1, hi⟩, ⟨g1, by omega⟩, fun _ => ?_, fun _ => ?_, fun _ => ?_, fun hq => ?_, fun hq => ⟨by unfold InR; omega, i + 1, rfl, ⟨by omega, by omega, ?_⟩, by omega⟩⟩, fun hi => ?_⟩
        · have := massOs_mem (mem_getD (l := a.ops) (i := i.toNat) (by omega) Op.nil)
          rw [← hy1, massOp_e] at this
          simp only [pre77]; omega
        · have := massOs_mem (mem_getD (l := a.ops) (i := i.toNat) (by omega) Op.nil)
          rw [← hy1, massOp_e, ← hy3] at this
          simp only [pre39]; omega
        · have := massOs_mem (mem_getD (l := a.ops) (i := i.toNat) (by omega) Op.nil)
          rw [← hy1, massOp_e, ← hy3] at this
          simp only [mu39]; omega
        · refine ends_bool rfl (eqX_no (a := a) (b := b) (fun h => ?_)).symm
          rw [h] at hy1
          rw [hy3, hy4, hy1, hy2, eqX_self, eqX_self] at hq
          simp at hq
        · intro j hj
          by_cases hj2 : (j : Int) < i
          · exact g3 j hj2
          · rw [eqX_iff, eqX_iff, hy3, hy4, hy1, hy2, show i.toNat = j by omega] at hq
            obtain ⟨⟨⟨q1, q2⟩, q3⟩, q4⟩ := hq
            exact op_ext (by simpa using q1) (by simpa using q2) q3 q4
        · have ho : a.ops = b.ops := list_eq_getD Op.nil (by omega) (fun j hj => g3 j (by omega))
          exact ends_bool rfl (eqX_iff (a := a) (b := b).2 (edit_ext h1 h3 h4 hw hk h2 ho)).symm

end Go.AM.Ytlahjnelghpmeaa

namespace Go.AM.Ytlahjnelghpmeaa
open Go.AM Go.Proofs

end Go.AM.Ytlahjnelghpmeaa

namespace Go.AM.Ytlahjnelghpmeaa
open Go.AM Go.Proofs

def vu (u : AUnit) : Op × Bool := (opU u, u.alone)
def vs (a : Int) (o : Op) : List (Op × Bool) := (unitsOp 0 a o).map vu
/-! ## pairs, by blocks -/
/-! ## the law -/
end Go.AM.Ytlahjnelghpmeaa

namespace Go.AM.Ytlahjnelghpmeaa
open Go.AM Go.Proofs

end Go.AM.Ytlahjnelghpmeaa

namespace Go.AM

def idleE (list : Int) (e : Edit) : Bool := decide (e.kind = 0 ∨ (list = 9 ∧ e.kind = 2 ∧ e.words.length = 0 ∧ e.kids.length = 0))
def normsT (l : List Tree) : List Tree := l.map normT

/-! ## how many edits and steps -/
mutual
def countE : Edit → Int
  | .mk _ _ _ w ks _ os => 1 + w.length + countKs ks + countOs os
def countKs : List (KidOf Edit) → Int
  | [] => 0
  | k :: r => countKid k + countKs r
def countKid : KidOf Edit → Int
  | ⟨_, e⟩ => countE e
def countOs : List (OpOf Edit) → Int
  | [] => 0
  | o :: r => countOp o + countOs r
def countOp : OpOf Edit → Int
  | ⟨k, _, _, e⟩ => if k = 3 then 1 + countE e else 1
end

/-! ## turned round -/
def turnW (w : WEdit) : WEdit := ⟨w.at_, w.mask, w.new, w.old⟩
mutual
def turnE : Edit → Edit
  | .mk k o n w ks l os => .mk k n o (w.map turnW) (turnKs ks) l (turnOs os)
def turnKs : List (KidOf Edit) → List (KidOf Edit)
  | [] => []
  | k :: r => turnKid k :: turnKs r
def turnKid : KidOf Edit → KidOf Edit
  | ⟨a, e⟩ => ⟨a, turnE e⟩
def turnOs : List (OpOf Edit) → List (OpOf Edit)
  | [] => []
  | o :: r => turnOp o :: turnOs r
def turnOp : OpOf Edit → OpOf Edit
  | ⟨k, n, l, e⟩ => if k = 1 then ⟨2, n, l, e⟩ else if k = 2 then ⟨1, n, l, e⟩ else if k = 3 then ⟨k, n, l, turnE e⟩ else ⟨k, n, l, e⟩
end

/-! ## what edits mean: their trees' Norms -/


end Go.AM

namespace Go.AM

/-- What is written, and what waits: deleted, and inserted, trees. -/
structure Wst where
  out : List Op
  gone : List Tree
  brought : List Tree

def flushO (out : List Op) (g b : List Tree) : List Op :=
  out ++ ((if g.length = 0 then [] else [⟨1, 0, g, Edit.nil⟩]) ++ (if b.length = 0 then [] else [⟨2, 0, b, Edit.nil⟩]))
/-- So many kids are kept: with those that are kept ahead of them, if nothing is between. -/
def keepO : List Op → Int → List Op
  | [], n => [⟨0, n, [], Edit.nil⟩]
  | [o], n => if o.kind = 0 then [⟨o.kind, o.n + n, o.l, o.e⟩] else [o, ⟨0, n, [], Edit.nil⟩]
  | o :: p :: r, n => o :: keepO (p :: r) n
def flushW (w : Wst) : Wst := ⟨flushO w.out w.gone w.brought, [], []⟩
def keepW (w : Wst) (n : Int) : Wst := ⟨keepO (flushW w).out n, [], []⟩

mutual
def nrmE : Edit → Edit
  | .mk k o n w ks l os =>
    if k = 1 then .mk k (normT o) (normT n) [] [] l []
    else if k = 2 then .mk k Tree.nil Tree.nil w (nrmKs ks) l []
    else if k = 3 then .mk k Tree.nil Tree.nil [] [] l (flushW (nrmOs l os ⟨[], [], []⟩)).out
    else .mk k Tree.nil Tree.nil [] [] l []
def nrmKs : List (KidOf Edit) → List (KidOf Edit)
  | [] => []
  | k :: r => nrmKid k :: nrmKs r
def nrmKid : KidOf Edit → KidOf Edit
  | ⟨a, e⟩ => ⟨a, nrmE e⟩
def nrmOs (list : Int) : List (OpOf Edit) → Wst → Wst
  | [], s => s
  | o :: r, s => nrmOs list r (nrmOp list o s)
def nrmOp (list : Int) : OpOf Edit → Wst → Wst
  | ⟨k, n, l, e⟩, s =>
    if k = 0 then keepW s n
    else if k = 1 then ⟨s.out, s.gone ++ normsT l, s.brought⟩
    else if k = 2 then ⟨s.out, s.gone, s.brought ++ normsT l⟩
    else if k = 3 then (if idleE list (nrmE e) = true then keepW s 1 else ⟨(flushW s).out ++ [⟨3, 0, [], nrmE e⟩], [], []⟩)
    else s
end

theorem nrmE_at (e : Edit) : nrmE e = if e.kind = 1 then .mk e.kind (normT e.old) (normT e.new) [] [] e.list []
    else if e.kind = 2 then .mk e.kind Tree.nil Tree.nil e.words (nrmKs e.kids) e.list []
    else if e.kind = 3 then .mk e.kind Tree.nil Tree.nil [] [] e.list (flushW (nrmOs e.list e.ops ⟨[], [], []⟩)).out
    else .mk e.kind Tree.nil Tree.nil [] [] e.list [] := by cases e; rfl
theorem nrmKid_at (k : Kid) : nrmKid k = ⟨k.at_, nrmE k.e⟩ := by cases k; rfl
theorem nrmOp_at (list : Int) (o : Op) (s : Wst) : nrmOp list o s = if o.kind = 0 then keepW s o.n
    else if o.kind = 1 then ⟨s.out, s.gone ++ normsT o.l, s.brought⟩
    else if o.kind = 2 then ⟨s.out, s.gone, s.brought ++ normsT o.l⟩
    else if o.kind = 3 then (if idleE list (nrmE o.e) = true then keepW s 1 else ⟨(flushW s).out ++ [⟨3, 0, [], nrmE o.e⟩], [], []⟩)
    else s := by cases o; rfl

end Go.AM

namespace Go.AM.Ytlahjnelghpmeaa
open Go.AM Go.Proofs

def pre6 (a : Tree × Unit) : Prop := small a.1
/-! cento/centolaw07.TreeNorms -/
/-! cento/centolaw07.TreeEqual -/
end Go.AM.Ytlahjnelghpmeaa

namespace Go.AM.Ytlahjnelghpmeaa
open Go.AM Go.Proofs

theorem trim_idem (l : List Int) : trim (trim l) = trim l := by
  induction l with
  | nil => rfl
  | cons x r ih =>
    rw [trim_cons]
    split
    · rfl
    · rename_i h
      rw [trim_cons, ih, if_neg h]

theorem trimK_idem (l : List Tree) : trimK (trimK l) = trimK l := by
  induction l with
  | nil => rfl
  | cons x r ih =>
    rw [trimK_cons]
    split
    · rfl
    · rename_i h
      rw [trimK_cons, ih, if_neg h]

/-- Every one is its own Norm. -/
def Normed : List Tree → Prop
  | [] => True
  | t :: r => normT t = t ∧ Normed r

theorem Normed.eq : ∀ {l : List Tree}, Normed l → normK l = l
  | [], _ => rfl
  | t :: r, h => by simp only [normK, h.1, Normed.eq h.2]

theorem Normed.trim : ∀ {l : List Tree}, Normed l → Normed (trimK l)
  | [], _ => trivial
  | t :: r, h => by
    rw [trimK_cons]
    split
    · trivial
    · exact ⟨h.1, Normed.trim h.2⟩

mutual
theorem normT_idem : ∀ (t : Tree), normT (normT t) = normT t
  | .mk k w ks => by
    have h := normK_normed ks
    by_cases h0 : k = 0
    · simp [normT, h0, Tree.nil]
    · by_cases h1 : k = 1
      · subst h1
        simp only [normT, if_neg h0, if_true, trim_idem, h.trim.eq, trimK_idem]
      · simp only [normT, if_neg h0, if_neg h1, h.eq]
theorem normK_normed : ∀ (ks : List Tree), Normed (normK ks)
  | [] => trivial
  | t :: r => ⟨normT_idem t, normK_normed r⟩
end


end Go.AM.Ytlahjnelghpmeaa

namespace Go.AM.Ytlahjnelghpmeaa
open Go.AM Go.Proofs

def args43 : ArgL (Edit × Unit) := (.cons (aEl .edit) .nil)
def pre43 (a : Edit × Unit) : Prop := massE a.1 ≤ 1000000
def mu43 (a : Edit × Unit) : Nat := massE a.1
noncomputable def res43 (a : Edit × Unit) : V U := .c (.int .i64 (countE a.1))
noncomputable def spec43 : Fs U := fs args43 (fun a => [pre43 a]) res43

/-! cento/normal.Idle -/
/-! cento/centoref22.idle -/
/-! cento/centoref22.norms -/
/-! cento/centoref22.gap -/
/-! cento/edit.Count -/
noncomputable def know43 (N : Nat) : List (FuncId × Fs U) := (43, fs args43 (fun a => [pre43 a, mu43 a < N]) res43) :: []
def lv43 : Lives U := fun i => match i with
  | 0 => ([(1, [])], [((.loc 1), [])])
  | 1 => ([(1, []), (3, [])], [((.loc 1), [])])
  | 2 => ([(1, []), (3, []), (13, []), (14, []), (15, [])], [((.loc 1), [])])
  | 3 => ([(1, []), (3, []), (13, []), (14, []), (15, []), (16, [])], [((.loc 1), [])])
  | 4 => ([(1, []), (3, []), (5, []), (13, []), (14, []), (15, [])], [((.loc 1), []), ((.loc 5), [])])
  | 5 => ([(1, []), (3, []), (13, []), (14, []), (15, [])], [((.loc 1), [])])
  | 6 => ([(1, []), (3, []), (13, []), (14, []), (15, [])], [((.loc 1), [])])
  | 7 => ([(3, []), (26, []), (27, []), (28, [])], [])
  | 8 => ([(3, []), (26, []), (27, []), (28, []), (29, [])], [])
  | 9 => ([(3, []), (7, []), (26, []), (27, []), (28, [])], [((.loc 7), [])])
  | 10 => ([(3, []), (7, []), (26, []), (27, []), (28, [])], [((.loc 7), [])])
  | 11 => ([(3, []), (7, []), (26, []), (27, []), (28, []), (36, [])], [((.loc 7), [])])
  | 12 => ([(3, []), (26, []), (27, []), (28, [])], [])
  | 13 => ([(3, []), (26, []), (27, []), (28, [])], [])
  | 14 => ([(2, [])], [])
  | _ => ([], [])
def head43_0 (e : Edit) (x3 : Int) (x15 : Int) : LSt U := (⟨[(1, .ptr (.loc 1) 0), (3, .c (.int .i64 x3)), (13, .c (.slice (U := U) .kid (Edit.kids e) .unk)), (14, .c (.int .i64 ((Edit.kids e).length : Int))), (15, .c (.int .i64 x15))], [((.loc 1), [.int .i64 (Edit.kind e), .int .i64 (Tree.kind (Edit.old e)), .slice (U := U) .u64 (Tree.words (Edit.old e)) .unk, .slice (U := U) .tree (Tree.kids (Edit.old e)) .unk, .int .i64 (Tree.kind (Edit.new e)), .slice (U := U) .u64 (Tree.words (Edit.new e)) .unk, .slice (U := U) .tree (Tree.kids (Edit.new e)) .unk, .slice (U := U) .wedit (Edit.words e) .unk, .slice (U := U) .kid (Edit.kids e) .unk, .int .i64 (Edit.list e), .slice (U := U) .op (Edit.ops e) .unk])], []⟩ : LSt U)
def head43_1 (e : Edit) (x3_a : Int) (x28_a : Int) : LSt U := (⟨[(3, .c (.int .i64 x3_a)), (26, .c (.slice (U := U) .op (Edit.ops e) .unk)), (27, .c (.int .i64 ((Edit.ops e).length : Int))), (28, .c (.int .i64 x28_a))], [], []⟩ : LSt U)
abbrev W43 (N : Nat) (e : Edit) (Q : AExit → LSt U → Prop) : Prop := awp cfg (know (know43 N)) (drawOk cfg (know (know43 N))) Try.f43.ntmps lv43 (cd Try.f43 []) (⟨[(0, .agg [.int .i64 (Edit.kind e), .int .i64 (Tree.kind (Edit.old e)), .slice (U := U) .u64 (Tree.words (Edit.old e)) .unk, .slice (U := U) .tree (Tree.kids (Edit.old e)) .unk, .int .i64 (Tree.kind (Edit.new e)), .slice (U := U) .u64 (Tree.words (Edit.new e)) .unk, .slice (U := U) .tree (Tree.kids (Edit.new e)) .unk, .slice (U := U) .wedit (Edit.words e) .unk, .slice (U := U) .kid (Edit.kids e) .unk, .int .i64 (Edit.list e), .slice (U := U) .op (Edit.ops e) .unk])], [], []⟩ : LSt U) Q
/-- the body -/
theorem vc43 (N : Nat) (e : Edit) (Q : AExit → LSt U → Prop) (h : (InR ((1 : Int) + ((Edit.words e).length : Int))) ∧ (LoopWp (awp cfg (know (know43 N)) (drawOk cfg (know (know43 N))) Try.f43.ntmps lv43 (cd Try.f43 [1, 1, 0, 1, 0, 0])) (head43_0 e ((1 : Int) + ((Edit.words e).length : Int)) 0) (AExit.inBlock 0 (seqK cfg (know (know43 N)) (drawOk cfg (know (know43 N))) Try.f43.ntmps lv43 (cd Try.f43 [1, 1, 1]) Q)))) :
    W43 N e Q := by
  have e_ : (awp cfg (know (know43 N)) (drawOk cfg (know (know43 N))) Try.f43.ntmps lv43 (cd Try.f43 []) (⟨[(0, .agg [.int .i64 (Edit.kind e), .int .i64 (Tree.kind (Edit.old e)), .slice (U := U) .u64 (Tree.words (Edit.old e)) .unk, .slice (U := U) .tree (Tree.kids (Edit.old e)) .unk, .int .i64 (Tree.kind (Edit.new e)), .slice (U := U) .u64 (Tree.words (Edit.new e)) .unk, .slice (U := U) .tree (Tree.kids (Edit.new e)) .unk, .slice (U := U) .wedit (Edit.words e) .unk, .slice (U := U) .kid (Edit.kids e) .unk, .int .i64 (Edit.list e), .slice (U := U) .op (Edit.ops e) .unk])], [], []⟩ : LSt U) Q) = (((InR ((1 : Int) + ((Edit.words e).length : Int))) ∧ ((LoopWp (awp cfg (know (know43 N)) (drawOk cfg (know (know43 N))) Try.f43.ntmps lv43 (cd Try.f43 [1, 1, 0, 1, 0, 0])) (head43_0 e ((1 : Int) + ((Edit.words e).length : Int)) 0) (AExit.inBlock 0 (seqK cfg (know (know43 N)) (drawOk cfg (know (know43 N))) Try.f43.ntmps lv43 (cd Try.f43 [1, 1, 1]) Q)))))) := by kernel_rfl
  exact e_.mpr ⟨h.1, h.2⟩
abbrev W43_l0 (N : Nat) (e : Edit) (x3 : Int) (x15 : Int) (N0 : LSt U → Prop) (Q : AExit → LSt U → Prop) : Prop := awp cfg (know (know43 N)) (drawOk cfg (know (know43 N))) Try.f43.ntmps lv43 (cd Try.f43 [1, 1, 0, 1, 0, 0]) (head43_0 e x3 x15) (AExit.then N0 (AExit.inBlock 0 (seqK cfg (know (know43 N)) (drawOk cfg (know (know43 N))) Try.f43.ntmps lv43 (cd Try.f43 [1, 1, 1]) Q)))
/-- the loop at [1, 1, 0, 1, 0] -/
theorem vc43_l0 (N : Nat) (e : Edit) (x3 : Int) (x15 : Int) (N0 : LSt U → Prop) (Q : AExit → LSt U → Prop) (h : ∀ y_1, y_1 = (List.getD (Edit.kids e) (Int.toNat x15) (KidOf.mk 0 Edit.nil)) → ∀ y_2, y_2 = ((KidOf.e y_1)) → ((decide ((x15 : Int) < ((Edit.kids e).length : Int))) = true → ((0 : Int) ≤ x15 ∧ x15 < ((Edit.kids e).length : Int)) ∧ ((pre43 (y_2, ())) ∧ (mu43 (y_2, ()) < N) ∧ (InR ((x3 : Int) + (countE y_2))) ∧ ((InR ((x15 : Int) + 1)) ∧ (N0 (head43_0 e ((x3 : Int) + (countE y_2)) ((x15 : Int) + 1)))))) ∧ ((decide ((x15 : Int) < ((Edit.kids e).length : Int))) = false → LoopWp (awp cfg (know (know43 N)) (drawOk cfg (know (know43 N))) Try.f43.ntmps lv43 (cd Try.f43 [1, 1, 1, 0, 1, 0, 0])) (head43_1 e x3 0) (AExit.inBlock 2 (seqK cfg (know (know43 N)) (drawOk cfg (know (know43 N))) Try.f43.ntmps lv43 (cd Try.f43 [1, 1, 1, 1]) Q)))) :
    W43_l0 N e x3 x15 N0 Q := by
  have e_ : (awp cfg (know (know43 N)) (drawOk cfg (know (know43 N))) Try.f43.ntmps lv43 (cd Try.f43 [1, 1, 0, 1, 0, 0]) (head43_0 e x3 x15) (AExit.then N0 (AExit.inBlock 0 (seqK cfg (know (know43 N)) (drawOk cfg (know (know43 N))) Try.f43.ntmps lv43 (cd Try.f43 [1, 1, 1]) Q)))) = (let y_1 := (List.getD (Edit.kids e) (Int.toNat x15) (KidOf.mk 0 Edit.nil)); let y_2 := (reEdit (KidOf.e y_1)); (((decide ((x15 : Int) < ((Edit.kids e).length : Int))) = true → ((0 : Int) ≤ x15 ∧ x15 < ((Edit.kids e).length : Int)) ∧ ((pre43 (y_2, ())) ∧ (mu43 (y_2, ()) < N) ∧ (InR ((x3 : Int) + (countE y_2))) ∧ ((InR ((x15 : Int) + 1)) ∧ (N0 (head43_0 e ((x3 : Int) + (countE y_2)) ((x15 : Int) + 1)))))) ∧ ((decide ((x15 : Int) < ((Edit.kids e).length : Int))) = false → (LoopWp (awp cfg (know (know43 N)) (drawOk cfg (know (know43 N))) Try.f43.ntmps lv43 (cd Try.f43 [1, 1, 1, 0, 1, 0, 0])) (head43_1 e x3 0) (AExit.inBlock 2 (seqK cfg (know (know43 N)) (drawOk cfg (know (know43 N))) Try.f43.ntmps lv43 (cd Try.f43 [1, 1, 1, 1]) Q)))))) := by kernel_rfl
  exact e_.mpr (by intro y_1 y_2; exact ⟨fun c_4 => ⟨((h y_1 rfl y_2 (reEdit_eq _)).1 c_4).1, ⟨((h y_1 rfl y_2 (reEdit_eq _)).1 c_4).2.1, ((h y_1 rfl y_2 (reEdit_eq _)).1 c_4).2.2.1, ((h y_1 rfl y_2 (reEdit_eq _)).1 c_4).2.2.2.1, ⟨((h y_1 rfl y_2 (reEdit_eq _)).1 c_4).2.2.2.2.1, ((h y_1 rfl y_2 (reEdit_eq _)).1 c_4).2.2.2.2.2⟩⟩⟩, fun c_4 => ((h y_1 rfl y_2 (reEdit_eq _)).2 c_4)⟩)
abbrev W43_l1 (N : Nat) (e : Edit) (x3_a : Int) (x28_a : Int) (N1 : LSt U → Prop) (Q : AExit → LSt U → Prop) : Prop := awp cfg (know (know43 N)) (drawOk cfg (know (know43 N))) Try.f43.ntmps lv43 (cd Try.f43 [1, 1, 1, 0, 1, 0, 0]) (head43_1 e x3_a x28_a) (AExit.then N1 (AExit.inBlock 2 (seqK cfg (know (know43 N)) (drawOk cfg (know (know43 N))) Try.f43.ntmps lv43 (cd Try.f43 [1, 1, 1, 1]) Q)))
/-- the loop at [1, 1, 1, 0, 1, 0] -/
theorem vc43_l1 (N : Nat) (e : Edit) (x3_a : Int) (x28_a : Int) (N1 : LSt U → Prop) (Q : AExit → LSt U → Prop) (h : ∀ y_1, y_1 = (List.getD (Edit.ops e) (Int.toNat x28_a) Op.nil) → ∀ y_2, y_2 = ((OpOf.e y_1)) → ((decide ((x28_a : Int) < ((Edit.ops e).length : Int))) = true → ((0 : Int) ≤ x28_a ∧ x28_a < ((Edit.ops e).length : Int)) ∧ ((InR ((x3_a : Int) + 1)) ∧ (((((OpOf.kind y_1) : Int) == 3) = true → (pre43 (y_2, ())) ∧ (mu43 (y_2, ()) < N) ∧ (InR ((((x3_a : Int) + 1) : Int) + (countE y_2))) ∧ ((InR ((x28_a : Int) + 1)) ∧ (N1 (head43_1 e ((((x3_a : Int) + 1) : Int) + (countE y_2)) ((x28_a : Int) + 1))))) ∧ ((((OpOf.kind y_1) : Int) == 3) = false → (InR ((x28_a : Int) + 1)) ∧ (N1 (head43_1 e ((x3_a : Int) + 1) ((x28_a : Int) + 1))))))) ∧ ((decide ((x28_a : Int) < ((Edit.ops e).length : Int))) = false → Q .ret (⟨[(2, .c (.int .i64 x3_a))], [], []⟩ : LSt U))) :
    W43_l1 N e x3_a x28_a N1 Q := by
  have e_ : (awp cfg (know (know43 N)) (drawOk cfg (know (know43 N))) Try.f43.ntmps lv43 (cd Try.f43 [1, 1, 1, 0, 1, 0, 0]) (head43_1 e x3_a x28_a) (AExit.then N1 (AExit.inBlock 2 (seqK cfg (know (know43 N)) (drawOk cfg (know (know43 N))) Try.f43.ntmps lv43 (cd Try.f43 [1, 1, 1, 1]) Q)))) = (let y_1 := (List.getD (Edit.ops e) (Int.toNat x28_a) Op.nil); let y_2 := (reEdit (OpOf.e y_1)); (((decide ((x28_a : Int) < ((Edit.ops e).length : Int))) = true → ((0 : Int) ≤ x28_a ∧ x28_a < ((Edit.ops e).length : Int)) ∧ ((InR ((x3_a : Int) + 1)) ∧ ((((((OpOf.kind y_1) : Int) == 3) = true → (pre43 (y_2, ())) ∧ (mu43 (y_2, ()) < N) ∧ (InR ((((x3_a : Int) + 1) : Int) + (countE y_2))) ∧ ((InR ((x28_a : Int) + 1)) ∧ (N1 (head43_1 e ((((x3_a : Int) + 1) : Int) + (countE y_2)) ((x28_a : Int) + 1))))) ∧ ((((OpOf.kind y_1) : Int) == 3) = false → (InR ((x28_a : Int) + 1)) ∧ (N1 (head43_1 e ((x3_a : Int) + 1) ((x28_a : Int) + 1)))))))) ∧ ((decide ((x28_a : Int) < ((Edit.ops e).length : Int))) = false → (Q .ret (⟨[(2, .c (.int .i64 x3_a))], [], []⟩ : LSt U))))) := by kernel_rfl
  exact e_.mpr (by intro y_1 y_2; exact ⟨fun c_5 => ⟨((h y_1 rfl y_2 (reEdit_eq _)).1 c_5).1, ⟨((h y_1 rfl y_2 (reEdit_eq _)).1 c_5).2.1, ⟨fun c_6 => ⟨(((h y_1 rfl y_2 (reEdit_eq _)).1 c_5).2.2.1 c_6).1, (((h y_1 rfl y_2 (reEdit_eq _)).1 c_5).2.2.1 c_6).2.1, (((h y_1 rfl y_2 (reEdit_eq _)).1 c_5).2.2.1 c_6).2.2.1, ⟨(((h y_1 rfl y_2 (reEdit_eq _)).1 c_5).2.2.1 c_6).2.2.2.1, (((h y_1 rfl y_2 (reEdit_eq _)).1 c_5).2.2.1 c_6).2.2.2.2⟩⟩, fun c_6 => ⟨(((h y_1 rfl y_2 (reEdit_eq _)).1 c_5).2.2.2 c_6).1, (((h y_1 rfl y_2 (reEdit_eq _)).1 c_5).2.2.2 c_6).2⟩⟩⟩⟩, fun c_5 => ((h y_1 rfl y_2 (reEdit_eq _)).2 c_5)⟩)
def Body43 (N : Nat) (e : Edit)  : Prop := awp cfg (know (know43 N)) (drawOk cfg (know (know43 N))) Try.f43.ntmps lv43 (cd Try.f43 []) (entry (args43.can (e, ())) []) (EndsQ cfg Try.f43.ntmps Try.f43.results.toList (res43 (e, ())) [])
theorem make43 (hb : ∀ (N : Nat) (e : Edit) (_ : Unit), pre43 (e, ()) → mu43 (e, ()) < N + 1 → Body43 N e) : Contract Try.prog cfg 43 spec43 :=
  contract_rec (μ := mu43) (l := []) cfgOk rfl (trivial) lv43 Try.func43 rfl rfl 1 (fun _ => rfl) (by decide) (fun N ⟨e, _⟩ => hb N e ())

/-! cento/invert.turned -/
/-! cento/invert.op -/
end Go.AM.Ytlahjnelghpmeaa

namespace Go.AM.Ytlahjnelghpmeaa
open Go.AM Go.Proofs

/-! ## counts -/
theorem countKid_e (k : Kid) : countKid k = countE k.e := by cases k; rfl
theorem countOp_e (o : Op) : countOp o = if o.kind = 3 then 1 + countE o.e else 1 := by cases o; rfl
theorem countE_at (e : Edit) : countE e = 1 + e.words.length + countKs e.kids + countOs e.ops := by cases e; rfl

mutual
theorem countE_le : ∀ (e : Edit), 1 ≤ countE e ∧ countE e ≤ massE e
  | .mk k o n w ks l os => by
    have h1 := countKs_le ks
    have h2 := countOs_le os
    simp only [countE, massE]
    omega
theorem countKs_le : ∀ (ks : List (KidOf Edit)), 0 ≤ countKs ks ∧ countKs ks ≤ massKs ks
  | [] => by simp [countKs, massKs]
  | k :: r => by
    have h1 := countKid_le k
    have h2 := countKs_le r
    simp only [countKs, massKs]
    omega
theorem countKid_le : ∀ (k : KidOf Edit), 0 ≤ countKid k ∧ countKid k ≤ massKid k
  | ⟨_, e⟩ => by
    have h1 := countE_le e
    simp only [countKid, massKid]
    omega
theorem countOs_le : ∀ (os : List (OpOf Edit)), 0 ≤ countOs os ∧ countOs os ≤ massOs os + os.length
  | [] => by simp [countOs, massOs]
  | o :: r => by
    have h1 := countOp_le o
    have h2 := countOs_le r
    simp only [countOs, massOs, List.length_cons]
    omega
theorem countOp_le : ∀ (o : OpOf Edit), 1 ≤ countOp o ∧ countOp o ≤ massOp o + 1
  | ⟨k, _, _, e⟩ => by
    have h1 := countE_le e
    simp only [countOp, massOp]
    split <;> omega
end

theorem c43 : Contract Try.prog cfg 43 spec43 := by
  refine make43 ?_
  intro N e _ hp hN
  simp only [pre43, mu43] at hp hN
  have h1 := len_massE e
  have h2 := massKs_len e.kids
  have h3 := massOs_len e.ops
  have hc := countE_le e
  have ha := countE_at e
  refine vc43 _ _ _ ?_
  refine ⟨by unfold InR; dsimp only; omega, ?_⟩
  refine loop_rule (ι := Int × Int) (fun s => head43_0 e s.1 s.2) (fun s => 1 ≤ s.1 ∧ 0 ≤ s.2 ∧ s.2 ≤ e.kids.length ∧ s.1 + countKs (e.kids.drop s.2.toNat) + countOs e.ops = countE e) (fun s => ((e.kids.length : Int) - s.2).toNat) (1 + e.words.length, 0) rfl ⟨by dsimp only; omega, by simp, by simp, by simp; omega⟩ ?_
  rintro ⟨n, i⟩ ⟨g0, g1, g2, g3⟩
  dsimp only at g0 g1 g2 g3
  refine vc43_l0 _ _ _ _ _ _ ?_
  rintro y1 hy1 y2 hy2
  (simp only [bif_tl, bif_fr, bif_tlf, bif_frf, Bool.not_eq_true', Bool.not_eq_false', decide_eq_true_eq, decide_eq_false_iff_not, beq_iff_eq, beq_eq_false_iff_ne, bne_iff_ne, ne_eq, bne_eq_false_iff_eq, Bool.or_eq_true, Bool.and_eq_true, Bool.or_eq_false_iff, Bool.and_eq_false_imp])
  have ho := countOs_le e.ops
  refine ⟨fun hi => ?_, fun hi => ?_⟩
  · have hm := massKs_mem (mem_getD (l := e.kids) (i := i.toNat) (by omega) (KidOf.mk 0 Edit.nil))
    rw [dropI g1 hi (KidOf.mk 0 Edit.nil)] at g3
    rw [← hy1] at g3 hm
    simp only [countKs, countKid_e] at g3
    rw [← hy2] at g3 hm
    have h5 := countE_le y2
    have h6 := countKs_le (e.kids.drop (i + 1).toNat)
    refine ⟨⟨g1, hi⟩, by simp only [pre43]; omega, by simp only [mu43]; omega, by unfold InR; omega, by unfold InR; omega, (n + countE y2, i + 1), rfl, ⟨by dsimp only; omega, by dsimp only; omega, by dsimp only; omega, by dsimp only; omega⟩, by dsimp only; omega⟩
  · rw [List.drop_of_length_le (by omega)] at g3
    simp only [countKs] at g3
    refine loop_rule (ι := Int × Int) (fun s => head43_1 e s.1 s.2) (fun s => 1 ≤ s.1 ∧ 0 ≤ s.2 ∧ s.2 ≤ e.ops.length ∧ s.1 + countOs (e.ops.drop s.2.toNat) = countE e) (fun s => ((e.ops.length : Int) - s.2).toNat) (n, 0) rfl ⟨by dsimp only; omega, by simp, by simp, by simp; omega⟩ ?_
    rintro ⟨m, j⟩ ⟨f0, f1, f2, f3⟩
    dsimp only at f0 f1 f2 f3
    refine vc43_l1 _ _ _ _ _ _ ?_
    rintro z1 hz1 z2 hz2
    (simp only [bif_tl, bif_fr, bif_tlf, bif_frf, Bool.not_eq_true', Bool.not_eq_false', decide_eq_true_eq, decide_eq_false_iff_not, beq_iff_eq, beq_eq_false_iff_ne, bne_iff_ne, ne_eq, bne_eq_false_iff_eq, Bool.or_eq_true, Bool.and_eq_true, Bool.or_eq_false_iff, Bool.and_eq_false_imp])
    refine ⟨fun hj => ?_, fun hj => ?_⟩
    · have hm := massOs_mem (mem_getD (l := e.ops) (i := j.toNat) (by omega) Op.nil)
      rw [dropI f1 hj Op.nil] at f3
      rw [← hz1] at f3 hm
      simp only [countOs, countOp_e] at f3
      rw [massOp_e] at hm
      rw [← hz2] at f3 hm
      have h5 := countE_le z2
      have h6 := countOs_le (e.ops.drop (j + 1).toNat)
      refine ⟨⟨f1, hj⟩, by unfold InR; split at f3 <;> omega, fun hq => ?_, fun hq => ?_⟩
      · rw [if_pos hq] at f3
        refine ⟨by simp only [pre43]; omega, by simp only [mu43]; omega, by unfold InR; omega, by unfold InR; omega, (m + 1 + countE z2, j + 1), rfl, ⟨by dsimp only; omega, by dsimp only; omega, by dsimp only; omega, by dsimp only; omega⟩, by dsimp only; omega⟩
      · rw [if_neg hq] at f3
        refine ⟨by unfold InR; omega, (m + 1, j + 1), rfl, ⟨by dsimp only; omega, by dsimp only; omega, by dsimp only; omega, by dsimp only; omega⟩, by dsimp only; omega⟩
    · rw [List.drop_of_length_le (by omega)] at f3
      simp only [countOs] at f3
      exact ends_int rfl (by show m = countE e; omega)

/-! ## turned round -/
end Go.AM.Ytlahjnelghpmeaa

namespace Go.AM.Ytlahjnelghpmeaa
open Go.AM Go.Proofs

theorem nrmOs_append (list : Int) : ∀ (a b : List Op) (s : Wst), nrmOs list (a ++ b) s = nrmOs list b (nrmOs list a s)
  | [], b, s => rfl
  | o :: r, b, s => by simp only [List.cons_append, nrmOs, nrmOs_append list r]

theorem keepO_keepO : ∀ (l : List Op) (m n : Int), keepO (keepO l m) n = keepO l (m + n)
  | [], m, n => by simp [keepO]
  | [o], m, n => by
    by_cases h : o.kind = 0
    · simp [keepO, h, Int.add_assoc]
    · simp [keepO, h]
  | o :: p :: r, m, n => by
    have ih := keepO_keepO (p :: r) m n
    cases hk : keepO (p :: r) m with
    | nil => cases r <;> simp [keepO] at hk; split at hk <;> cases hk
    | cons x y =>
      rw [hk] at ih
      simp only [keepO]
      rw [hk]
      simp only [keepO]
      rw [ih]

/-- Kept behind: put behind, or merged with what is kept last. -/
theorem keepO_cases : ∀ (l : List Op) (n : Int), keepO l n = l ++ [⟨0, n, [], Edit.nil⟩] ∨ ∃ a o, l = a ++ [o] ∧ o.kind = 0 ∧ keepO l n = a ++ [⟨o.kind, o.n + n, o.l, o.e⟩]
  | [], n => Or.inl rfl
  | [o], n => by
    by_cases h : o.kind = 0
    · exact Or.inr ⟨[], o, rfl, h, by simp [keepO, h]⟩
    · exact Or.inl (by simp [keepO, h])
  | o :: p :: r, n => by
    rcases keepO_cases (p :: r) n with h | ⟨a, q, h1, h2, h3⟩
    · exact Or.inl (by simp only [keepO, h, List.cons_append])
    · exact Or.inr ⟨o :: a, q, by rw [h1]; rfl, h2, by simp only [keepO, h3, List.cons_append]⟩

def W0 : Wst := ⟨[], [], []⟩
/-- What is written so far is written as it is. -/
def Stb (list : Int) (w : Wst) : Prop := nrmOs list w.out W0 = ⟨w.out, [], []⟩ ∧ normsT w.gone = w.gone ∧ normsT w.brought = w.brought

theorem stb_flush {list : Int} {w : Wst} (h : Stb list w) : nrmOs list (flushW w).out W0 = w := by
  obtain ⟨h1, h2, h3⟩ := h
  obtain ⟨out, g, b⟩ := w
  simp only [flushW, flushO]
  rw [nrmOs_append, h1, nrmOs_append]
  simp only at h2 h3
  by_cases hg : g.length = 0
  · rw [if_pos hg]
    have : g = [] := List.length_eq_zero_iff.1 hg
    subst this
    by_cases hb : b.length = 0
    · rw [if_pos hb]
      have : b = [] := List.length_eq_zero_iff.1 hb
      subst this
      rfl
    · rw [if_neg hb]
      simp [nrmOs, nrmOp_at, h3]
  · rw [if_neg hg]
    by_cases hb : b.length = 0
    · rw [if_pos hb]
      have : b = [] := List.length_eq_zero_iff.1 hb
      subst this
      simp [nrmOs, nrmOp_at, h2]
    · rw [if_neg hb]
      simp [nrmOs, nrmOp_at, h2, h3]

theorem nrm_keep (list : Int) (o : Op) (s : Wst) (h : o.kind = 0) : nrmOs list [o] s = keepW s o.n := by
  simp only [nrmOs, nrmOp_at, h, if_true]

theorem stb_keep {list : Int} {w : Wst} (h : Stb list w) (n : Int) : Stb list (keepW w n) := by
  have hf := stb_flush h
  refine ⟨?_, rfl, rfl⟩
  show nrmOs list (keepO (flushW w).out n) W0 = ⟨keepO (flushW w).out n, [], []⟩
  rcases keepO_cases (flushW w).out n with e | ⟨a, o, e1, e2, e3⟩
  · rw [e, nrmOs_append, hf, nrm_keep _ _ _ rfl]
    show (⟨keepO (flushW w).out n, [], []⟩ : Wst) = _
    rw [e]
  · rw [e1, nrmOs_append, nrm_keep _ _ _ e2] at hf
    rw [e3, nrmOs_append, nrm_keep list ⟨o.kind, o.n + n, o.l, o.e⟩ _ e2]
    have ho : keepO (flushW (nrmOs list a W0)).out o.n = w.out ∧ w.gone = [] ∧ w.brought = [] := by
      rw [← hf]; exact ⟨rfl, rfl, rfl⟩
    have hw : (flushW w).out = w.out := by simp [flushW, flushO, ho.2.1, ho.2.2]
    show (⟨keepO (flushW (nrmOs list a W0)).out (o.n + n), [], []⟩ : Wst) = _
    rw [← keepO_keepO, ho.1, ← e3, hw]

theorem normsT_idem (l : List Tree) : normsT (normsT l) = normsT l := by
  simp only [normsT, List.map_map]
  congr 1
  funext t
  exact normT_idem t

theorem normsT_append (a b : List Tree) : normsT (a ++ b) = normsT a ++ normsT b := by simp [normsT]

/-- A step that may be, of an edit that is written as it is. -/
theorem stb_op {list : Int} {w : Wst} {o : Op} (h : Stb list w) (hi : nrmE (nrmE o.e) = nrmE o.e) : Stb list (nrmOp list o w) := by
  rw [nrmOp_at]
  by_cases k0 : o.kind = 0
  · rw [if_pos k0]; exact stb_keep h _
  · rw [if_neg k0]
    by_cases k1 : o.kind = 1
    · rw [if_pos k1]
      exact ⟨h.1, by simp only [normsT_append, normsT_idem, h.2.1], h.2.2⟩
    · rw [if_neg k1]
      by_cases k2 : o.kind = 2
      · rw [if_pos k2]
        exact ⟨h.1, h.2.1, by simp only [normsT_append, normsT_idem, h.2.2]⟩
      · rw [if_neg k2]
        by_cases k3 : o.kind = 3
        · rw [if_pos k3]
          by_cases hd : idleE list (nrmE o.e) = true
          · rw [if_pos hd]; exact stb_keep h _
          · rw [if_neg hd]
            refine ⟨?_, rfl, rfl⟩
            have hf := stb_flush h
            show nrmOs list ((flushW w).out ++ [⟨3, 0, [], nrmE o.e⟩]) W0 = _
            rw [nrmOs_append, hf]
            simp only [nrmOs, nrmOp_at]
            rw [if_neg (by decide), if_neg (by decide), if_neg (by decide), if_pos trivial, hi, if_neg hd]
        · rw [if_neg k3]; exact h

mutual
theorem nrmE_idem : ∀ (e : Edit), nrmE (nrmE e) = nrmE e
  | .mk k o n w ks l os => by
    have h1 := nrmKs_idem ks
    have h2 := nrmOs_stb l os W0 ⟨rfl, rfl, rfl⟩
    have h3 := stb_flush h2
    rw [nrmE]
    by_cases k1 : k = 1
    · rw [if_pos k1, nrmE, if_pos k1, normT_idem, normT_idem]
    · rw [if_neg k1]
      by_cases k2 : k = 2
      · rw [if_pos k2, nrmE, if_neg k1, if_pos k2, h1]
      · rw [if_neg k2]
        by_cases k3 : k = 3
        · rw [if_pos k3, nrmE, if_neg k1, if_neg k2, if_pos k3]
          show Edit.mk k Tree.nil Tree.nil [] [] l (flushW (nrmOs l (flushW (nrmOs l os W0)).out W0)).out = Edit.mk k Tree.nil Tree.nil [] [] l (flushW (nrmOs l os W0)).out
          rw [h3]
        · rw [if_neg k3, nrmE, if_neg k1, if_neg k2, if_neg k3]
theorem nrmKs_idem : ∀ (ks : List (KidOf Edit)), nrmKs (nrmKs ks) = nrmKs ks
  | [] => rfl
  | k :: r => by
    have h1 := nrmKid_idem k
    have h2 := nrmKs_idem r
    simp only [nrmKs]
    rw [h1, h2]
theorem nrmKid_idem : ∀ (k : KidOf Edit), nrmKid (nrmKid k) = nrmKid k
  | ⟨a, e⟩ => by
    have h := nrmE_idem e
    simp only [nrmKid]
    rw [h]
theorem nrmOs_stb (list : Int) : ∀ (os : List (OpOf Edit)) (w : Wst), Stb list w → Stb list (nrmOs list os w)
  | [], w, h => h
  | o :: r, w, h => by
    have h1 := nrmOp_stb list o w h
    exact nrmOs_stb list r _ h1
theorem nrmOp_stb (list : Int) : ∀ (o : OpOf Edit) (w : Wst), Stb list w → Stb list (nrmOp list o w)
  | ⟨k, n, l, e⟩, w, h => stb_op (o := ⟨k, n, l, e⟩) h (nrmE_idem e)
end

/-! ## it has no more edits and steps -/
theorem countOs_append : ∀ (a b : List Op), countOs (a ++ b) = countOs a + countOs b
  | [], b => by simp [countOs]
  | o :: r, b => by simp only [List.cons_append, countOs, countOs_append r b]; omega

def cst (w : Wst) : Int := countOs w.out + (if w.gone.length = 0 then 0 else 1) + (if w.brought.length = 0 then 0 else 1)

theorem cst_flush (w : Wst) : countOs (flushW w).out = cst w := by
  obtain ⟨out, g, b⟩ := w
  simp only [flushW, flushO, countOs_append, cst]
  by_cases hg : g.length = 0 <;> by_cases hb : b.length = 0 <;> simp [hg, hb, countOs, countOp] <;> omega

theorem count_keep : ∀ (l : List Op) (n : Int), countOs (keepO l n) ≤ countOs l + 1 := by
  intro l n
  rcases keepO_cases l n with e | ⟨a, o, e1, e2, e3⟩
  · rw [e, countOs_append]
    simp [countOs, countOp]
  · rw [e3, e1, countOs_append, countOs_append]
    obtain ⟨k, m, t, e⟩ := o
    simp only at e2
    subst e2
    simp [countOs, countOp]
    omega

theorem cst_keep (w : Wst) (n : Int) : cst (keepW w n) ≤ cst w + 1 := by
  have h1 := count_keep (flushW w).out n
  rw [cst_flush] at h1
  simp only [keepW, cst, List.length_nil, if_true] at h1 ⊢
  omega

theorem cst_op {list : Int} (w : Wst) (o : Op) (hi : 1 ≤ countE o.e ∧ countE (nrmE o.e) ≤ countE o.e) : cst (nrmOp list o w) ≤ cst w + countOp o := by
  rw [nrmOp_at]
  obtain ⟨k, n, l, e⟩ := o
  simp only at hi ⊢
  by_cases k0 : k = 0
  · subst k0
    rw [if_pos rfl]
    have := cst_keep w n
    simp only [countOp]
    rw [if_neg (by decide)]
    exact this
  · rw [if_neg k0]
    by_cases k1 : k = 1
    · subst k1
      rw [if_pos rfl]
      simp only [cst, countOp]
      rw [if_neg (show ¬(1 : Int) = 3 by decide)]
      split <;> split <;> omega
    · rw [if_neg k1]
      by_cases k2 : k = 2
      · subst k2
        rw [if_pos rfl]
        simp only [cst, countOp]
        rw [if_neg (show ¬(2 : Int) = 3 by decide)]
        split <;> split <;> split <;> omega
      · rw [if_neg k2]
        by_cases k3 : k = 3
        · subst k3
          rw [if_pos rfl]
          have hco : countOp (⟨3, n, l, e⟩ : Op) = 1 + countE e := by rw [countOp, if_pos rfl]
          rw [hco]
          by_cases hd : idleE list (nrmE e) = true
          · rw [if_pos hd]
            have := cst_keep w 1
            omega
          · rw [if_neg hd]
            have h1 := cst_flush w
            simp only [cst, countOs_append, List.length_nil, if_true] at h1 ⊢
            rw [h1]
            have hc2 : countOs [(⟨3, 0, [], nrmE e⟩ : Op)] = 1 + countE (nrmE e) := by rw [countOs, countOp, if_pos rfl, countOs]; omega
            rw [hc2]
            omega
        · rw [if_neg k3]
          simp only [countOp]
          rw [if_neg k3]
          omega

theorem countE_pos (e : Edit) : 1 ≤ countE e := (countE_le e).1

mutual
theorem countE_nrm : ∀ (e : Edit), countE (nrmE e) ≤ countE e
  | .mk k o n w ks l os => by
    have h1 := countKs_nrm ks
    have h2 := countOs_nrm l os W0
    have h3 := countKs_le ks
    have h4 := countOs_le os
    have h5 := cst_flush (nrmOs l os W0)
    rw [nrmE]
    by_cases k1 : k = 1
    · rw [if_pos k1]
      simp only [countE, countKs, countOs, List.length_nil]
      omega
    · rw [if_neg k1]
      by_cases k2 : k = 2
      · rw [if_pos k2]
        simp only [countE, countOs]
        omega
      · rw [if_neg k2]
        by_cases k3 : k = 3
        · rw [if_pos k3]
          have h6 : cst W0 = 0 := rfl
          have h7 : countOs (flushW (nrmOs l os ⟨[], [], []⟩)).out = cst (nrmOs l os W0) := h5
          simp only [countE, countKs, List.length_nil]
          rw [h7]
          omega
        · rw [if_neg k3]
          simp only [countE, countKs, countOs, List.length_nil]
          omega
theorem countKs_nrm : ∀ (ks : List (KidOf Edit)), countKs (nrmKs ks) ≤ countKs ks
  | [] => by simp [nrmKs]
  | k :: r => by
    have h1 := countKid_nrm k
    have h2 := countKs_nrm r
    simp only [nrmKs, countKs]
    omega
theorem countKid_nrm : ∀ (k : KidOf Edit), countKid (nrmKid k) ≤ countKid k
  | ⟨a, e⟩ => by
    have h := countE_nrm e
    simp only [nrmKid, countKid]
    omega
theorem countOs_nrm (list : Int) : ∀ (os : List (OpOf Edit)) (w : Wst), cst (nrmOs list os w) ≤ cst w + countOs os
  | [], w => by simp [nrmOs, countOs]
  | o :: r, w => by
    have h1 := countOp_nrm list o w
    have h2 := countOs_nrm list r (nrmOp list o w)
    simp only [nrmOs, countOs]
    omega
theorem countOp_nrm (list : Int) : ∀ (o : OpOf Edit) (w : Wst), cst (nrmOp list o w) ≤ cst w + countOp o
  | ⟨k, n, l, e⟩, w => cst_op w ⟨k, n, l, e⟩ ⟨countE_pos e, countE_nrm e⟩
end

end Go.AM.Ytlahjnelghpmeaa
