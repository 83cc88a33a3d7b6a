import Derived.Test.YtpjenobkibfpcaaCG25a
import Derived.Test.YtpjenobkibfpcaaKB20e
set_option linter.unusedSimpArgs false
set_option linter.unusedVariables false
namespace Go.AM.Ytpjenobkibfpcaa
open Go.AM Go.Proofs
def args60 : ArgL (Edit × Edit × Unit) := (.cons (aEl .edit) (.cons (aEl .edit) .nil))
def pre60 (a : Edit × Edit × Unit) : Prop := reOk a.1 ∧ reOk a.2.1
def mu60 (a : Edit × Edit × Unit) : Nat := 8 * (massE a.1 + massE a.2.1)
noncomputable def res60 (a : Edit × Edit × Unit) : V U := .tup [(true, [.int .i64 (Edit.kind ((comE a.1 a.2.1).1)), .int .i64 (Tree.kind (Edit.old ((comE a.1 a.2.1).1))), .slice (U := U) .u64 (Tree.words (Edit.old ((comE a.1 a.2.1).1))) .unk, .slice (U := U) .tree (Tree.kids (Edit.old ((comE a.1 a.2.1).1))) .unk, .int .i64 (Tree.kind (Edit.new ((comE a.1 a.2.1).1))), .slice (U := U) .u64 (Tree.words (Edit.new ((comE a.1 a.2.1).1))) .unk, .slice (U := U) .tree (Tree.kids (Edit.new ((comE a.1 a.2.1).1))) .unk, .slice (U := U) .wedit (Edit.words ((comE a.1 a.2.1).1)) .unk, .slice (U := U) .kid (Edit.kids ((comE a.1 a.2.1).1)) .unk, .int .i64 (Edit.list ((comE a.1 a.2.1).1)), .slice (U := U) .op (Edit.ops ((comE a.1 a.2.1).1)) .unk]), (false, [.bool ((comE a.1 a.2.1).2)])]
noncomputable def spec60 : Fs U := fs args60 (fun a => [pre60 a]) res60
def args97 : ArgL (List Kid × List Kid × Unit) := (.cons (aSl .kid) (.cons (aSl .kid) .nil))
def pre97 (a : List Kid × List Kid × Unit) : Prop := rkOk a.1 ∧ rkOk a.2.1
def mu97 (a : List Kid × List Kid × Unit) : Nat := 8 * (massKs a.1 + massKs a.2.1) + 4
noncomputable def res97 (a : List Kid × List Kid × Unit) : V U := .tup [(false, [.slice (U := U) .kid (ofO (mergeF KidOf.at_ (comK comE) a.1 a.2.1)) .unk]), (false, [.bool ((mergeF KidOf.at_ (comK comE) a.1 a.2.1).isSome)])]
noncomputable def spec97 : Fs U := fs args97 (fun a => [pre97 a]) res97
def args132 : ArgL (List Kid × List Kid × Unit × Unit × Unit) := (.cons (aSl .kid) (.cons (aSl .kid) (.cons (aFn 133) (.cons (aFn 134) .nil))))
def pre132 (a : List Kid × List Kid × Unit × Unit × Unit) : Prop := rkOk a.1 ∧ rkOk a.2.1
def mu132 (a : List Kid × List Kid × Unit × Unit × Unit) : Nat := 8 * (massKs a.1 + massKs a.2.1) + 3
noncomputable def res132 (a : List Kid × List Kid × Unit × Unit × Unit) : V U := .tup [(false, [.slice (U := U) .kid (ofO (mergeF KidOf.at_ (comK comE) a.1 a.2.1)) .unk]), (false, [.bool ((mergeF KidOf.at_ (comK comE) a.1 a.2.1).isSome)])]
noncomputable def spec132 : Fs U := fs args132 (fun a => [pre132 a]) res132
def args134 : ArgL (Kid × Kid × Unit) := (.cons (aEl .kid) (.cons (aEl .kid) .nil))
def pre134 (a : Kid × Kid × Unit) : Prop := kidOk a.1 ∧ kidOk a.2.1
def mu134 (a : Kid × Kid × Unit) : Nat := 8 * (massKid a.1 + massKid a.2.1) + 1
noncomputable def res134 (a : Kid × Kid × Unit) : V U := .tup [(true, [.int .i64 (KidOf.at_ ((comK comE a.1 a.2.1).1)), .int .i64 (Edit.kind (KidOf.e ((comK comE a.1 a.2.1).1))), .int .i64 (Tree.kind (Edit.old (KidOf.e ((comK comE a.1 a.2.1).1)))), .slice (U := U) .u64 (Tree.words (Edit.old (KidOf.e ((comK comE a.1 a.2.1).1)))) .unk, .slice (U := U) .tree (Tree.kids (Edit.old (KidOf.e ((comK comE a.1 a.2.1).1)))) .unk, .int .i64 (Tree.kind (Edit.new (KidOf.e ((comK comE a.1 a.2.1).1)))), .slice (U := U) .u64 (Tree.words (Edit.new (KidOf.e ((comK comE a.1 a.2.1).1)))) .unk, .slice (U := U) .tree (Tree.kids (Edit.new (KidOf.e ((comK comE a.1 a.2.1).1)))) .unk, .slice (U := U) .wedit (Edit.words (KidOf.e ((comK comE a.1 a.2.1).1))) .unk, .slice (U := U) .kid (Edit.kids (KidOf.e ((comK comE a.1 a.2.1).1))) .unk, .int .i64 (Edit.list (KidOf.e ((comK comE a.1 a.2.1).1))), .slice (U := U) .op (Edit.ops (KidOf.e ((comK comE a.1 a.2.1).1))) .unk]), (false, [.bool ((comK comE a.1 a.2.1).2)])]
noncomputable def spec134 : Fs U := fs args134 (fun a => [pre134 a]) res134
def args98 : ArgL (List Op × List Op × Unit) := (.cons (aSl .op) (.cons (aSl .op) .nil))
def pre98 (a : List Op × List Op × Unit) : Prop := roOk a.1 ∧ roOk a.2.1
def mu98 (a : List Op × List Op × Unit) : Nat := 8 * (massOs a.1 + massOs a.2.1) + 40
noncomputable def res98 (a : List Op × List Op × Unit) : V U := .tup [(false, [.slice (U := U) .op (ofO (comOs comE a.1 a.2.1)) .unk]), (false, [.bool ((comOs comE a.1 a.2.1).isSome)])]
noncomputable def spec98 : Fs U := fs args98 (fun a => [pre98 a]) res98
def args136 : ArgL (Piece × Unit) := (.cons (aEl .piece) .nil)
def pre136 (a : Piece × Unit) : Prop := PcOk a.1
def mu136 (a : Piece × Unit) : Nat := 8 * (massOp (Piece.p a.1) + massOp (Piece.q a.1)) + 1
noncomputable def res136 (a : Piece × Unit) : V U := .tup [(true, [.int .i64 (OpOf.kind ((comP comE a.1).op)), .int .i64 (OpOf.n ((comP comE a.1).op)), .slice (U := U) .tree (OpOf.l ((comP comE a.1).op)) .unk, .int .i64 (Edit.kind (OpOf.e ((comP comE a.1).op))), .int .i64 (Tree.kind (Edit.old (OpOf.e ((comP comE a.1).op)))), .slice (U := U) .u64 (Tree.words (Edit.old (OpOf.e ((comP comE a.1).op)))) .unk, .slice (U := U) .tree (Tree.kids (Edit.old (OpOf.e ((comP comE a.1).op)))) .unk, .int .i64 (Tree.kind (Edit.new (OpOf.e ((comP comE a.1).op)))), .slice (U := U) .u64 (Tree.words (Edit.new (OpOf.e ((comP comE a.1).op)))) .unk, .slice (U := U) .tree (Tree.kids (Edit.new (OpOf.e ((comP comE a.1).op)))) .unk, .slice (U := U) .wedit (Edit.words (OpOf.e ((comP comE a.1).op))) .unk, .slice (U := U) .kid (Edit.kids (OpOf.e ((comP comE a.1).op))) .unk, .int .i64 (Edit.list (OpOf.e ((comP comE a.1).op))), .slice (U := U) .op (Edit.ops (OpOf.e ((comP comE a.1).op))) .unk]), (false, [.bool ((comP comE a.1).is)]), (false, [.bool ((comP comE a.1).ok)])]
noncomputable def spec136 : Fs U := fs args136 (fun a => [pre136 a]) res136
noncomputable def know60 (N : Nat) : List (FuncId × Fs U) := (60, fs args60 (fun a => [pre60 a, mu60 a < N]) res60) :: (97, fs args97 (fun a => [pre97 a, mu97 a < N]) res97) :: (132, fs args132 (fun a => [pre132 a, mu132 a < N]) res132) :: (134, fs args134 (fun a => [pre134 a, mu134 a < N]) res134) :: (98, fs args98 (fun a => [pre98 a, mu98 a < N]) res98) :: (136, fs args136 (fun a => [pre136 a, mu136 a < N]) res136) :: [(26, spec26), (83, spec83), (106, spec106), (96, spec96), (133, spec133), (135, spec135)]
def lv60 : Lives U := fun i => match i with
  | 0 => ([(2, []), (3, []), (4, [])], [((.loc 2), []), ((.loc 3), []), ((.loc 4), [])])
  | 1 => ([(2, []), (3, []), (4, []), (15, [])], [((.loc 2), []), ((.loc 3), []), ((.loc 4), [])])
  | 2 => ([(4, []), (5, [])], [((.loc 4), [])])
  | 3 => ([(2, []), (3, []), (4, []), (20, [])], [((.loc 2), []), ((.loc 3), []), ((.loc 4), [])])
  | 4 => ([(4, []), (5, [])], [((.loc 4), [])])
  | 5 => ([(2, []), (3, []), (4, []), (25, [])], [((.loc 2), []), ((.loc 3), []), ((.loc 4), [])])
  | 6 => ([(2, []), (4, []), (6, []), (7, [])], [((.loc 2), []), ((.loc 4), []), ((.loc 6), [])])
  | 7 => ([(4, []), (5, [])], [((.loc 4), [])])
  | 8 => ([(2, []), (3, []), (4, []), (41, [])], [((.loc 2), []), ((.loc 3), []), ((.loc 4), [])])
  | 9 => ([(3, []), (4, []), (8, []), (9, [])], [((.loc 3), []), ((.loc 4), []), ((.loc 8), [])])
  | 10 => ([(4, []), (5, [])], [((.loc 4), [])])
  | 11 => ([(2, []), (3, []), (4, []), (58, [])], [((.loc 2), []), ((.loc 3), []), ((.loc 4), [])])
  | 12 => ([(4, []), (5, [])], [((.loc 4), [])])
  | 13 => ([(2, []), (3, []), (4, []), (72, [])], [((.loc 2), []), ((.loc 3), []), ((.loc 4), [])])
  | 14 => ([(2, []), (3, []), (4, []), (10, []), (11, [])], [((.loc 2), []), ((.loc 3), []), ((.loc 4), [])])
  | 15 => ([(2, []), (3, []), (4, []), (10, []), (85, [])], [((.loc 2), []), ((.loc 3), []), ((.loc 4), [])])
  | 16 => ([(4, []), (5, [])], [((.loc 4), [])])
  | 17 => ([(4, []), (10, []), (11, []), (12, [])], [((.loc 4), [])])
  | 18 => ([(4, []), (5, [])], [((.loc 4), [])])
  | 19 => ([(2, []), (4, []), (13, []), (14, [])], [((.loc 2), []), ((.loc 4), [])])
  | 20 => ([(4, []), (5, [])], [((.loc 4), [])])
  | _ => ([], [])
noncomputable abbrev A60 (N : Nat) (p : List Nat) := awp cfg (know (know60 N)) (drawOk cfg (know (know60 N))) Try.f60.ntmps lv60 (cd Try.f60 p)
theorem vc60 (N : Nat) (p : Edit) (q : Edit) (Q : AExit → LSt U → Prop) (h : ∀ y_1, y_1 = (p) → ∀ y_2, y_2 = (q) → ∀ y_3, y_3 = ((Edit.new p)) → ∀ y_4, y_4 = ((Edit.old q)) → ∀ y_5, y_5 = ((nrmE (turnE y_1))) → ((((((Edit.kind p) : Int) == 0) = true → (Q .ret (⟨[(4, .ptr (.loc 4) 0), (5, .c (.bool true))], [((.loc 4), [.int .i64 (Edit.kind q), .int .i64 (Tree.kind (Edit.old q)), .slice (U := U) .u64 (Tree.words (Edit.old q)) .unk, .slice (U := U) .tree (Tree.kids (Edit.old q)) .unk, .int .i64 (Tree.kind (Edit.new q)), .slice (U := U) .u64 (Tree.words (Edit.new q)) .unk, .slice (U := U) .tree (Tree.kids (Edit.new q)) .unk, .slice (U := U) .wedit (Edit.words q) .unk, .slice (U := U) .kid (Edit.kids q) .unk, .int .i64 (Edit.list q), .slice (U := U) .op (Edit.ops q) .unk])], []⟩ : LSt U))) ∧ ((((Edit.kind p) : Int) == 0) = false → (((((Edit.kind q) : Int) == 0) = true → (Q .ret (⟨[(4, .ptr (.loc 4) 0), (5, .c (.bool true))], [((.loc 4), [.int .i64 (Edit.kind p), .int .i64 (Tree.kind (Edit.old p)), .slice (U := U) .u64 (Tree.words (Edit.old p)) .unk, .slice (U := U) .tree (Tree.kids (Edit.old p)) .unk, .int .i64 (Tree.kind (Edit.new p)), .slice (U := U) .u64 (Tree.words (Edit.new p)) .unk, .slice (U := U) .tree (Tree.kids (Edit.new p)) .unk, .slice (U := U) .wedit (Edit.words p) .unk, .slice (U := U) .kid (Edit.kids p) .unk, .int .i64 (Edit.list p), .slice (U := U) .op (Edit.ops p) .unk])], []⟩ : LSt U))) ∧ ((((Edit.kind q) : Int) == 0) = false → (((((Edit.kind p) : Int) == 1) = true → (pre26 (y_2, y_3, ())) ∧ ((Q .ret (⟨[(4, .ptr (.loc 4) 0), (5, .c (.bool ((doE false y_2 y_3).isSome)))], [((.loc 4), [.int .i64 1, .int .i64 (Tree.kind (Edit.old p)), .slice (U := U) .u64 (Tree.words (Edit.old p)) .unk, .slice (U := U) .tree (Tree.kids (Edit.old p)) .unk, .int .i64 (Tree.kind (orNil ((doE false y_2 y_3).map normT))), .slice (U := U) .u64 (Tree.words (orNil ((doE false y_2 y_3).map normT))) .unk, .slice (U := U) .tree (Tree.kids (orNil ((doE false y_2 y_3).map normT))) .unk, .nils, .nils, .int .i64 0, .nils])], []⟩ : LSt U)))) ∧ ((((Edit.kind p) : Int) == 1) = false → (((((Edit.kind q) : Int) == 1) = true → (pre83 (y_1, ())) ∧ (pre26 (y_5, y_4, ())) ∧ ((Q .ret (⟨[(4, .ptr (.loc 4) 0), (5, .c (.bool ((doE false y_5 y_4).isSome)))], [((.loc 4), [.int .i64 1, .int .i64 (Tree.kind (orNil ((doE false y_5 y_4).map normT))), .slice (U := U) .u64 (Tree.words (orNil ((doE false y_5 y_4).map normT))) .unk, .slice (U := U) .tree (Tree.kids (orNil ((doE false y_5 y_4).map normT))) .unk, .int .i64 (Tree.kind (Edit.new q)), .slice (U := U) .u64 (Tree.words (Edit.new q)) .unk, .slice (U := U) .tree (Tree.kids (Edit.new q)) .unk, .nils, .nils, .int .i64 0, .nils])], []⟩ : LSt U)))) ∧ ((((Edit.kind q) : Int) == 1) = false → (Tr ((!(((Edit.kind p) : Int) != (Edit.kind q))) = true)) ∧ (Tr ((!(((Edit.kind p) : Int) != (Edit.kind q))) = true)) ∧ (Tr ((!(((Edit.kind p) : Int) != (Edit.kind q))) = true)) ∧ (Tr ((!(((Edit.kind p) : Int) != (Edit.kind q))) = true)) ∧ (((((Edit.kind p) : Int) != (Edit.kind q)) = false → (!(((Edit.kind p) : Int) != (Edit.kind q))) = true)) ∧ (((bif (((Edit.kind p) : Int) != (Edit.kind q)) then true else (((Edit.list p) : Int) != (Edit.list q))) = true → (Q .ret (⟨[(4, .ptr (.loc 4) 0), (5, .c (.bool false))], [((.loc 4), [.int .i64 0, .int .i64 0, .nils, .nils, .int .i64 0, .nils, .nils, .nils, .nils, .int .i64 0, .nils])], []⟩ : LSt U))) ∧ ((bif (((Edit.kind p) : Int) != (Edit.kind q)) then true else (((Edit.list p) : Int) != (Edit.list q))) = false → (((((Edit.kind p) : Int) == 2) = true → (pre96 ((Edit.words p), (Edit.words q), ())) ∧ ((((!((mergeF WEdit.at_ comW (Edit.words p) (Edit.words q)).isSome)) = true → (Q .ret (⟨[(4, .ptr (.loc 4) 0), (5, .c (.bool false))], [((.loc 4), [.int .i64 0, .int .i64 0, .nils, .nils, .int .i64 0, .nils, .nils, .nils, .nils, .int .i64 0, .nils])], []⟩ : LSt U))) ∧ ((!((mergeF WEdit.at_ comW (Edit.words p) (Edit.words q)).isSome)) = false → (pre97 ((Edit.kids p), (Edit.kids q), ())) ∧ (mu97 ((Edit.kids p), (Edit.kids q), ()) < N) ∧ ((Q .ret (⟨[(4, .ptr (.loc 4) 0), (5, .c (.bool ((mergeF KidOf.at_ (comK comE) (Edit.kids p) (Edit.kids q)).isSome)))], [((.loc 4), [.int .i64 2, .int .i64 0, .nils, .nils, .int .i64 0, .nils, .nils, .slice (U := U) .wedit (ofO (mergeF WEdit.at_ comW (Edit.words p) (Edit.words q))) .unk, .slice (U := U) .kid (ofO (mergeF KidOf.at_ (comK comE) (Edit.kids p) (Edit.kids q))) .unk, .int .i64 0, .nils])], []⟩ : LSt U))))))) ∧ ((((Edit.kind p) : Int) == 2) = false → (pre98 ((Edit.ops p), (Edit.ops q), ())) ∧ (mu98 ((Edit.ops p), (Edit.ops q), ()) < N) ∧ ((Q .ret (⟨[(4, .ptr (.loc 4) 0), (5, .c (.bool ((comOs comE (Edit.ops p) (Edit.ops q)).isSome)))], [((.loc 4), [.int .i64 3, .int .i64 0, .nils, .nils, .int .i64 0, .nils, .nils, .nils, .nils, .int .i64 (Edit.list p), .slice (U := U) .op (ofO (comOs comE (Edit.ops p) (Edit.ops q))) .unk])], []⟩ : LSt U))))))))))))))))) :
    A60 N [] (⟨[(0, .agg [.int .i64 (Edit.kind p), .int .i64 (Tree.kind (Edit.old p)), .slice (U := U) .u64 (Tree.words (Edit.old p)) .unk, .slice (U := U) .tree (Tree.kids (Edit.old p)) .unk, .int .i64 (Tree.kind (Edit.new p)), .slice (U := U) .u64 (Tree.words (Edit.new p)) .unk, .slice (U := U) .tree (Tree.kids (Edit.new p)) .unk, .slice (U := U) .wedit (Edit.words p) .unk, .slice (U := U) .kid (Edit.kids p) .unk, .int .i64 (Edit.list p), .slice (U := U) .op (Edit.ops p) .unk]), (1, .agg [.int .i64 (Edit.kind q), .int .i64 (Tree.kind (Edit.old q)), .slice (U := U) .u64 (Tree.words (Edit.old q)) .unk, .slice (U := U) .tree (Tree.kids (Edit.old q)) .unk, .int .i64 (Tree.kind (Edit.new q)), .slice (U := U) .u64 (Tree.words (Edit.new q)) .unk, .slice (U := U) .tree (Tree.kids (Edit.new q)) .unk, .slice (U := U) .wedit (Edit.words q) .unk, .slice (U := U) .kid (Edit.kids q) .unk, .int .i64 (Edit.list q), .slice (U := U) .op (Edit.ops q) .unk])], [], []⟩ : LSt U) Q :=
  Eq.mpr (by kernel_rfl) (h _ (reEdit_eq _) _ (reEdit_eq _) _ (reTree_eq _) _ (reTree_eq _) _ (reEdit_eq _))
def Body60 (N : Nat) (p : Edit) (q : Edit)  : Prop := awp cfg (know (know60 N)) (drawOk cfg (know (know60 N))) Try.f60.ntmps lv60 (cd Try.f60 []) (entry (args60.can (p, q, ())) []) (EndsQ cfg Try.f60.ntmps Try.f60.results.toList (res60 (p, q, ())) [])
abbrev HB60 : Prop := ∀ (N : Nat) (p : Edit) (q : Edit) (_ : Unit), pre60 (p, q, ()) → mu60 (p, q, ()) < N + 1 → Body60 N p q
noncomputable def know97 (N : Nat) : List (FuncId × Fs U) := (60, fs args60 (fun a => [pre60 a, mu60 a < N]) res60) :: (97, fs args97 (fun a => [pre97 a, mu97 a < N]) res97) :: (132, fs args132 (fun a => [pre132 a, mu132 a < N]) res132) :: (134, fs args134 (fun a => [pre134 a, mu134 a < N]) res134) :: (98, fs args98 (fun a => [pre98 a, mu98 a < N]) res98) :: (136, fs args136 (fun a => [pre136 a, mu136 a < N]) res136) :: [(26, spec26), (83, spec83), (106, spec106), (96, spec96), (133, spec133), (135, spec135)]
def lv97 : Lives U := fun i => match i with
  | 0 => ([(0, []), (1, [])], [])
  | 1 => ([(4, []), (5, [])], [])
  | _ => ([], [])
noncomputable abbrev A97 (N : Nat) (p : List Nat) := awp cfg (know (know97 N)) (drawOk cfg (know (know97 N))) Try.f97.ntmps lv97 (cd Try.f97 p)
theorem vc97 (N : Nat) (p : List Kid) (q : List Kid) (Q : AExit → LSt U → Prop) (h : ((pre132 (p, q, (), (), ())) ∧ (mu132 (p, q, (), (), ()) < N) ∧ (Q .ret (⟨[(4, .c (.slice (U := U) .kid (ofO (mergeF KidOf.at_ (comK comE) p q)) .unk)), (5, .c (.bool ((mergeF KidOf.at_ (comK comE) p q).isSome)))], [], []⟩ : LSt U)))) :
    A97 N [] (⟨[(0, .c (.slice (U := U) .kid p .unk)), (1, .c (.slice (U := U) .kid q .unk))], [], []⟩ : LSt U) Q :=
  Eq.mpr (by kernel_rfl) h
def Body97 (N : Nat) (p : List Kid) (q : List Kid)  : Prop := awp cfg (know (know97 N)) (drawOk cfg (know (know97 N))) Try.f97.ntmps lv97 (cd Try.f97 []) (entry (args97.can (p, q, ())) []) (EndsQ cfg Try.f97.ntmps Try.f97.results.toList (res97 (p, q, ())) [])
abbrev HB97 : Prop := ∀ (N : Nat) (p : List Kid) (q : List Kid) (_ : Unit), pre97 (p, q, ()) → mu97 (p, q, ()) < N + 1 → Body97 N p q
noncomputable def know132 (N : Nat) : List (FuncId × Fs U) := (60, fs args60 (fun a => [pre60 a, mu60 a < N]) res60) :: (97, fs args97 (fun a => [pre97 a, mu97 a < N]) res97) :: (132, fs args132 (fun a => [pre132 a, mu132 a < N]) res132) :: (134, fs args134 (fun a => [pre134 a, mu134 a < N]) res134) :: (98, fs args98 (fun a => [pre98 a, mu98 a < N]) res98) :: (136, fs args136 (fun a => [pre136 a, mu136 a < N]) res136) :: [(26, spec26), (83, spec83), (106, spec106), (96, spec96), (133, spec133), (135, spec135)]
def lv132 : Lives U := fun i => match i with
  | 0 => ([(0, []), (1, []), (2, []), (3, [])], [])
  | 1 => ([(0, []), (1, []), (2, []), (3, []), (10, [.own .kid])], [])
  | 2 => ([(0, []), (1, []), (2, []), (3, []), (10, []), (20, [])], [])
  | 3 => ([(0, []), (1, []), (2, []), (3, []), (10, []), (11, []), (12, [])], [((.loc 11), [])])
  | 4 => ([(0, []), (1, []), (2, []), (3, []), (10, []), (11, []), (33, [])], [((.loc 11), [])])
  | 5 => ([(8, []), (9, [])], [])
  | 6 => ([(0, []), (1, []), (2, []), (3, []), (10, [.own .kid])], [])
  | 7 => ([(0, []), (1, []), (2, []), (3, []), (10, []), (42, [])], [])
  | 8 => ([(0, []), (1, []), (2, []), (3, []), (10, [.own .kid])], [])
  | 9 => ([(0, []), (1, []), (2, []), (3, []), (10, []), (72, [])], [])
  | 10 => ([(0, []), (1, []), (2, []), (3, []), (10, [.own .kid])], [])
  | 11 => ([(8, []), (9, [])], [])
  | _ => ([], [])
noncomputable def head132_0 (p : List Kid) (q : List Kid) (at_ : Unit) (one : Unit) (x0 : List Kid) (x1 : List Kid) (x10 : List Kid) : LSt U := (⟨[(0, .c (.slice (U := U) .kid x0 .unk)), (1, .c (.slice (U := U) .kid x1 .unk)), (2, .fn 133), (3, .fn 134), (10, .c (.slice (U := U) .kid x10 (.own (.e 10 0))))], [], []⟩ : LSt U)
noncomputable abbrev A132 (N : Nat) (p : List Nat) := awp cfg (know (know132 N)) (drawOk cfg (know (know132 N))) Try.f132.ntmps lv132 (cd Try.f132 p)
noncomputable abbrev S132 (N : Nat) (p : List Nat) := seqK cfg (know (know132 N)) (drawOk cfg (know (know132 N))) Try.f132.ntmps lv132 (cd Try.f132 p)
theorem vc132 (N : Nat) (p : List Kid) (q : List Kid) (at_ : Unit) (one : Unit) (Q : AExit → LSt U → Prop) (h : ((LoopWp (A132 N [1, 1, 0, 0, 0]) (head132_0 p q at_ one p q ([])) (AExit.inBlock 0 (S132 N [1, 1, 1] Q))))) :
    A132 N [] (⟨[(0, .c (.slice (U := U) .kid p .unk)), (1, .c (.slice (U := U) .kid q .unk)), (2, .fn 133), (3, .fn 134)], [], []⟩ : LSt U) Q :=
  Eq.mpr (by kernel_rfl) h
theorem vc132_l0 (N : Nat) (p : List Kid) (q : List Kid) (at_ : Unit) (one : Unit) (x0 : List Kid) (x1 : List Kid) (x10 : List Kid) (N0 : LSt U → Prop) (Q : AExit → LSt U → Prop) (h : ∀ y_1, y_1 = (List.getD x0 (Int.toNat 0) (KidOf.mk 0 Edit.nil)) → ∀ y_2, y_2 = (List.getD x1 (Int.toNat 0) (KidOf.mk 0 Edit.nil)) → ∀ y_3, y_3 = (y_1) → ∀ y_4, y_4 = (y_2) → ∀ y_5, y_5 = (((comK comE y_3 y_4).1)) → (Tr ((!(decide ((0 : Int) < (x0.length : Int)))) = true)) ∧ (Tr ((!(decide ((0 : Int) < (x0.length : Int)))) = true)) ∧ (((decide ((0 : Int) < (x0.length : Int))) = false → (!(decide ((0 : Int) < (x0.length : Int)))) = true)) ∧ (((bif (decide ((0 : Int) < (x0.length : Int))) then true else (decide ((0 : Int) < (x1.length : Int)))) = true → (Tr ((!(((x1.length : Int) : Int) == 0)) = true)) ∧ (Tr ((!(((x1.length : Int) : Int) == 0)) = true)) ∧ (Tr ((!(((x1.length : Int) : Int) == 0)) = true)) ∧ (Tr (((!(((x1.length : Int) : Int) == 0)) && (decide ((0 : Int) < (x0.length : Int)))) = true)) ∧ (((!(((x1.length : Int) : Int) == 0)) && (decide ((0 : Int) < (x0.length : Int)))) = true → (0 : Int) ≤ 0 ∧ 0 < (x0.length : Int)) ∧ (Tr (((!(((x1.length : Int) : Int) == 0)) && (decide ((0 : Int) < (x0.length : Int)))) = true)) ∧ (Tr (((!(((x1.length : Int) : Int) == 0)) && (decide ((0 : Int) < (x0.length : Int)))) = true)) ∧ (Tr (((!(((x1.length : Int) : Int) == 0)) && (decide ((0 : Int) < (x0.length : Int)))) = true)) ∧ (((!(((x1.length : Int) : Int) == 0)) && (decide ((0 : Int) < (x0.length : Int)))) = true → pre133 (y_3, ())) ∧ (Tr (((!(((x1.length : Int) : Int) == 0)) && (decide ((0 : Int) < (x0.length : Int)))) = true)) ∧ (((!(((x1.length : Int) : Int) == 0)) && (decide ((0 : Int) < (x0.length : Int)))) = true → (0 : Int) ≤ 0 ∧ 0 < (x1.length : Int)) ∧ (Tr (((!(((x1.length : Int) : Int) == 0)) && (decide ((0 : Int) < (x0.length : Int)))) = true)) ∧ (Tr (((!(((x1.length : Int) : Int) == 0)) && (decide ((0 : Int) < (x0.length : Int)))) = true)) ∧ (Tr (((!(((x1.length : Int) : Int) == 0)) && (decide ((0 : Int) < (x0.length : Int)))) = true)) ∧ (((!(((x1.length : Int) : Int) == 0)) && (decide ((0 : Int) < (x0.length : Int)))) = true → pre133 (y_4, ())) ∧ (Tr (((!(((x1.length : Int) : Int) == 0)) && (decide ((0 : Int) < (x0.length : Int)))) = true)) ∧ (Tr (((!(((x1.length : Int) : Int) == 0)) && (decide ((0 : Int) < (x0.length : Int)))) = true)) ∧ ((!(((x1.length : Int) : Int) == 0)) = true → (True → (!(((x1.length : Int) : Int) == 0)) = true)) ∧ ((!(((x1.length : Int) : Int) == 0)) = true → ((decide ((0 : Int) < (x0.length : Int))) = true → ((!(((x1.length : Int) : Int) == 0)) && (decide ((0 : Int) < (x0.length : Int)))) = true)) ∧ (((((x1.length : Int) : Int) == 0) = false → (!(((x1.length : Int) : Int) == 0)) = true)) ∧ (((bif (((x1.length : Int) : Int) == 0) then true else (bif (decide ((0 : Int) < (x0.length : Int))) then (decide (((KidOf.at_ y_3) : Int) < (KidOf.at_ y_4))) else false)) = true → ((0 : Int) ≤ 0 ∧ 0 < (x0.length : Int)) ∧ ((x10.length + ([y_3]).length) * 208 ≤ 140737488355328) ∧ ((0 : Int) ≤ 1 ∧ 1 ≤ (x0.length : Int)) ∧ (N0 (head132_0 p q at_ one (List.drop (Int.toNat 1) x0) x1 (x10 ++ ([y_3]))))) ∧ ((bif (((x1.length : Int) : Int) == 0) then true else (bif (decide ((0 : Int) < (x0.length : Int))) then (decide (((KidOf.at_ y_3) : Int) < (KidOf.at_ y_4))) else false)) = false → (Tr ((!(((x0.length : Int) : Int) == 0)) = true)) ∧ ((!(((x0.length : Int) : Int) == 0)) = true → (0 : Int) ≤ 0 ∧ 0 < (x1.length : Int)) ∧ (Tr ((!(((x0.length : Int) : Int) == 0)) = true)) ∧ (Tr ((!(((x0.length : Int) : Int) == 0)) = true)) ∧ (Tr ((!(((x0.length : Int) : Int) == 0)) = true)) ∧ ((!(((x0.length : Int) : Int) == 0)) = true → pre133 (y_4, ())) ∧ (Tr ((!(((x0.length : Int) : Int) == 0)) = true)) ∧ ((!(((x0.length : Int) : Int) == 0)) = true → (0 : Int) ≤ 0 ∧ 0 < (x0.length : Int)) ∧ (Tr ((!(((x0.length : Int) : Int) == 0)) = true)) ∧ (Tr ((!(((x0.length : Int) : Int) == 0)) = true)) ∧ (Tr ((!(((x0.length : Int) : Int) == 0)) = true)) ∧ ((!(((x0.length : Int) : Int) == 0)) = true → pre133 (y_3, ())) ∧ (Tr ((!(((x0.length : Int) : Int) == 0)) = true)) ∧ (Tr ((!(((x0.length : Int) : Int) == 0)) = true)) ∧ (((((x0.length : Int) : Int) == 0) = false → (!(((x0.length : Int) : Int) == 0)) = true)) ∧ (((bif (((x0.length : Int) : Int) == 0) then true else (decide (((KidOf.at_ y_4) : Int) < (KidOf.at_ y_3)))) = true → ((0 : Int) ≤ 0 ∧ 0 < (x1.length : Int)) ∧ ((x10.length + ([y_4]).length) * 208 ≤ 140737488355328) ∧ ((0 : Int) ≤ 1 ∧ 1 ≤ (x1.length : Int)) ∧ (N0 (head132_0 p q at_ one x0 (List.drop (Int.toNat 1) x1) (x10 ++ ([y_4]))))) ∧ ((bif (((x0.length : Int) : Int) == 0) then true else (decide (((KidOf.at_ y_4) : Int) < (KidOf.at_ y_3)))) = false → ((0 : Int) ≤ 0 ∧ 0 < (x0.length : Int)) ∧ ((0 : Int) ≤ 0 ∧ 0 < (x1.length : Int)) ∧ (pre134 (y_3, y_4, ())) ∧ (mu134 (y_3, y_4, ()) < N) ∧ ((((!((comK comE y_3 y_4).2)) = true → (Q .ret (⟨[(8, .c (.nils)), (9, .c (.bool false))], [], []⟩ : LSt U))) ∧ ((!((comK comE y_3 y_4).2)) = false → ((x10.length + ([y_5]).length) * 208 ≤ 140737488355328) ∧ ((0 : Int) ≤ 1 ∧ 1 ≤ (x0.length : Int)) ∧ ((0 : Int) ≤ 1 ∧ 1 ≤ (x1.length : Int)) ∧ (N0 (head132_0 p q at_ one (List.drop (Int.toNat 1) x0) (List.drop (Int.toNat 1) x1) (x10 ++ ([y_5])))))))))))) ∧ ((bif (decide ((0 : Int) < (x0.length : Int))) then true else (decide ((0 : Int) < (x1.length : Int)))) = false → (Q .ret (⟨[(8, .c (.slice (U := U) .kid x10 (.own (.e 8 0)))), (9, .c (.bool true))], [], []⟩ : LSt U))))) :
    A132 N [1, 1, 0, 0, 0] (head132_0 p q at_ one x0 x1 x10) (AExit.then N0 (AExit.inBlock 0 (S132 N [1, 1, 1] Q))) :=
  Eq.mpr (by kernel_rfl) (h _ rfl _ rfl _ (reKid_eq _) _ (reKid_eq _) _ (reKid_eq _))
def Body132 (N : Nat) (p : List Kid) (q : List Kid) (at_ : Unit) (one : Unit)  : Prop := awp cfg (know (know132 N)) (drawOk cfg (know (know132 N))) Try.f132.ntmps lv132 (cd Try.f132 []) (entry (args132.can (p, q, at_, one, ())) []) (EndsQ cfg Try.f132.ntmps Try.f132.results.toList (res132 (p, q, at_, one, ())) [])
abbrev HB132 : Prop := ∀ (N : Nat) (p : List Kid) (q : List Kid) (at_ : Unit) (one : Unit) (_ : Unit), pre132 (p, q, at_, one, ()) → mu132 (p, q, at_, one, ()) < N + 1 → Body132 N p q at_ one
noncomputable def know134 (N : Nat) : List (FuncId × Fs U) := (60, fs args60 (fun a => [pre60 a, mu60 a < N]) res60) :: (97, fs args97 (fun a => [pre97 a, mu97 a < N]) res97) :: (132, fs args132 (fun a => [pre132 a, mu132 a < N]) res132) :: (134, fs args134 (fun a => [pre134 a, mu134 a < N]) res134) :: (98, fs args98 (fun a => [pre98 a, mu98 a < N]) res98) :: (136, fs args136 (fun a => [pre136 a, mu136 a < N]) res136) :: [(26, spec26), (83, spec83), (106, spec106), (96, spec96), (133, spec133), (135, spec135)]
def lv134 : Lives U := fun i => match i with
  | 0 => ([(2, []), (3, []), (4, [])], [((.loc 2), []), ((.loc 3), []), ((.loc 4), [])])
  | 1 => ([(2, []), (4, []), (6, []), (7, [])], [((.loc 2), []), ((.loc 4), []), ((.loc 6), [])])
  | 2 => ([(4, []), (5, [])], [((.loc 4), [])])
  | _ => ([], [])
noncomputable abbrev A134 (N : Nat) (p : List Nat) := awp cfg (know (know134 N)) (drawOk cfg (know (know134 N))) Try.f134.ntmps lv134 (cd Try.f134 p)
theorem vc134 (N : Nat) (a : Kid) (b : Kid) (Q : AExit → LSt U → Prop) (h : ∀ y_1, y_1 = ((KidOf.e a)) → ∀ y_2, y_2 = ((KidOf.e b)) → ((pre60 (y_1, y_2, ())) ∧ (mu60 (y_1, y_2, ()) < N) ∧ ((Q .ret (⟨[(4, .ptr (.loc 4) 0), (5, .c (.bool ((comE y_1 y_2).2)))], [((.loc 4), [.int .i64 (KidOf.at_ a), .int .i64 (Edit.kind ((comE y_1 y_2).1)), .int .i64 (Tree.kind (Edit.old ((comE y_1 y_2).1))), .slice (U := U) .u64 (Tree.words (Edit.old ((comE y_1 y_2).1))) .unk, .slice (U := U) .tree (Tree.kids (Edit.old ((comE y_1 y_2).1))) .unk, .int .i64 (Tree.kind (Edit.new ((comE y_1 y_2).1))), .slice (U := U) .u64 (Tree.words (Edit.new ((comE y_1 y_2).1))) .unk, .slice (U := U) .tree (Tree.kids (Edit.new ((comE y_1 y_2).1))) .unk, .slice (U := U) .wedit (Edit.words ((comE y_1 y_2).1)) .unk, .slice (U := U) .kid (Edit.kids ((comE y_1 y_2).1)) .unk, .int .i64 (Edit.list ((comE y_1 y_2).1)), .slice (U := U) .op (Edit.ops ((comE y_1 y_2).1)) .unk])], []⟩ : LSt U))))) :
    A134 N [] (⟨[(0, .agg [.int .i64 (KidOf.at_ a), .int .i64 (Edit.kind (KidOf.e a)), .int .i64 (Tree.kind (Edit.old (KidOf.e a))), .slice (U := U) .u64 (Tree.words (Edit.old (KidOf.e a))) .unk, .slice (U := U) .tree (Tree.kids (Edit.old (KidOf.e a))) .unk, .int .i64 (Tree.kind (Edit.new (KidOf.e a))), .slice (U := U) .u64 (Tree.words (Edit.new (KidOf.e a))) .unk, .slice (U := U) .tree (Tree.kids (Edit.new (KidOf.e a))) .unk, .slice (U := U) .wedit (Edit.words (KidOf.e a)) .unk, .slice (U := U) .kid (Edit.kids (KidOf.e a)) .unk, .int .i64 (Edit.list (KidOf.e a)), .slice (U := U) .op (Edit.ops (KidOf.e a)) .unk]), (1, .agg [.int .i64 (KidOf.at_ b), .int .i64 (Edit.kind (KidOf.e b)), .int .i64 (Tree.kind (Edit.old (KidOf.e b))), .slice (U := U) .u64 (Tree.words (Edit.old (KidOf.e b))) .unk, .slice (U := U) .tree (Tree.kids (Edit.old (KidOf.e b))) .unk, .int .i64 (Tree.kind (Edit.new (KidOf.e b))), .slice (U := U) .u64 (Tree.words (Edit.new (KidOf.e b))) .unk, .slice (U := U) .tree (Tree.kids (Edit.new (KidOf.e b))) .unk, .slice (U := U) .wedit (Edit.words (KidOf.e b)) .unk, .slice (U := U) .kid (Edit.kids (KidOf.e b)) .unk, .int .i64 (Edit.list (KidOf.e b)), .slice (U := U) .op (Edit.ops (KidOf.e b)) .unk])], [], []⟩ : LSt U) Q :=
  Eq.mpr (by kernel_rfl) (h _ (reEdit_eq _) _ (reEdit_eq _))
def Body134 (N : Nat) (a : Kid) (b : Kid)  : Prop := awp cfg (know (know134 N)) (drawOk cfg (know (know134 N))) Try.f134.ntmps lv134 (cd Try.f134 []) (entry (args134.can (a, b, ())) []) (EndsQ cfg Try.f134.ntmps Try.f134.results.toList (res134 (a, b, ())) [])
abbrev HB134 : Prop := ∀ (N : Nat) (a : Kid) (b : Kid) (_ : Unit), pre134 (a, b, ()) → mu134 (a, b, ()) < N + 1 → Body134 N a b
noncomputable def know98 (N : Nat) : List (FuncId × Fs U) := (60, fs args60 (fun a => [pre60 a, mu60 a < N]) res60) :: (97, fs args97 (fun a => [pre97 a, mu97 a < N]) res97) :: (132, fs args132 (fun a => [pre132 a, mu132 a < N]) res132) :: (134, fs args134 (fun a => [pre134 a, mu134 a < N]) res134) :: (98, fs args98 (fun a => [pre98 a, mu98 a < N]) res98) :: (136, fs args136 (fun a => [pre136 a, mu136 a < N]) res136) :: [(26, spec26), (83, spec83), (106, spec106), (96, spec96), (133, spec133), (135, spec135)]
def lv98 : Lives U := fun i => match i with
  | 0 => ([(0, []), (1, [])], [])
  | 1 => ([(6, []), (7, [])], [])
  | 2 => ([(6, []), (21, [])], [])
  | 3 => ([(4, []), (5, [])], [])
  | 4 => ([(6, []), (8, [])], [])
  | 5 => ([(8, [.own .op]), (22, []), (23, []), (24, [])], [])
  | 6 => ([(8, []), (22, []), (23, []), (24, []), (25, [])], [])
  | 7 => ([(8, []), (10, []), (22, []), (23, []), (24, [])], [((.loc 10), [])])
  | 8 => ([(8, []), (11, []), (12, []), (13, []), (22, []), (23, []), (24, [])], [((.loc 11), [])])
  | 9 => ([(8, []), (11, []), (12, []), (22, []), (23, []), (24, []), (35, [])], [((.loc 11), [])])
  | 10 => ([(4, []), (5, [])], [])
  | 11 => ([(8, []), (11, []), (22, []), (23, []), (24, []), (36, [])], [((.loc 11), [])])
  | 12 => ([(8, []), (22, []), (23, []), (24, [])], [])
  | 13 => ([(8, [.own .op]), (22, []), (23, []), (24, [])], [])
  | 14 => ([(4, []), (5, [])], [])
  | _ => ([], [])
noncomputable def head98_0 (p : List Op) (q : List Op) (x24 : Int) (x8 : List Op) : LSt U := (⟨[(8, .c (.slice (U := U) .op x8 (.own (.e 8 0)))), (22, .c (.slice (U := U) .piece ((pairG 1 2 p q []).1) .unk)), (23, .c (.int .i64 (((pairG 1 2 p q []).1).length : Int))), (24, .c (.int .i64 x24))], [], []⟩ : LSt U)
noncomputable abbrev A98 (N : Nat) (p : List Nat) := awp cfg (know (know98 N)) (drawOk cfg (know (know98 N))) Try.f98.ntmps lv98 (cd Try.f98 p)
noncomputable abbrev S98 (N : Nat) (p : List Nat) := seqK cfg (know (know98 N)) (drawOk cfg (know (know98 N))) Try.f98.ntmps lv98 (cd Try.f98 p)
theorem vc98 (N : Nat) (p : List Op) (q : List Op) (Q : AExit → LSt U → Prop) (h : ((pre135 (p, q, ())) ∧ ((((!((pairG 1 2 p q []).2.1)) = true → (Q .ret (⟨[(4, .c (.nils)), (5, .c (.bool false))], [], []⟩ : LSt U))) ∧ ((!((pairG 1 2 p q []).2.1)) = false → ((LoopWp (A98 N [1, 1, 1, 1, 0, 1, 0, 0]) (head98_0 p q 0 ([])) (AExit.inBlock 0 (S98 N [1, 1, 1, 1, 1] Q))))))))) :
    A98 N [] (⟨[(0, .c (.slice (U := U) .op p .unk)), (1, .c (.slice (U := U) .op q .unk))], [], []⟩ : LSt U) Q :=
  Eq.mpr (by kernel_rfl) h
theorem vc98_l0 (N : Nat) (p : List Op) (q : List Op) (x24 : Int) (x8 : List Op) (N0 : LSt U → Prop) (Q : AExit → LSt U → Prop) (h : ∀ y_1, y_1 = (List.getD ((pairG 1 2 p q []).1) (Int.toNat x24) (Piece.mk 0 Op.nil Op.nil)) → ∀ y_2, y_2 = (y_1) → ∀ y_3, y_3 = (((comP comE y_2).op)) → (((decide ((x24 : Int) < (((pairG 1 2 p q []).1).length : Int))) = true → ((0 : Int) ≤ x24 ∧ x24 < (((pairG 1 2 p q []).1).length : Int)) ∧ ((pre136 (y_2, ())) ∧ (mu136 (y_2, ()) < N) ∧ ((((!((comP comE y_2).ok)) = true → (Q .ret (⟨[(4, .c (.nils)), (5, .c (.bool false))], [], []⟩ : LSt U))) ∧ ((!((comP comE y_2).ok)) = false → ((((comP comE y_2).is) = true → ((x8.length + ([y_3]).length) * 240 ≤ 140737488355328) ∧ ((InR ((x24 : Int) + 1)) ∧ (N0 (head98_0 p q ((x24 : Int) + 1) (x8 ++ ([y_3])))))) ∧ (((comP comE y_2).is) = false → (InR ((x24 : Int) + 1)) ∧ (N0 (head98_0 p q ((x24 : Int) + 1) x8))))))))) ∧ ((decide ((x24 : Int) < (((pairG 1 2 p q []).1).length : Int))) = false → (Q .ret (⟨[(4, .c (.slice (U := U) .op x8 (.own (.e 4 0)))), (5, .c (.bool true))], [], []⟩ : LSt U))))) :
    A98 N [1, 1, 1, 1, 0, 1, 0, 0] (head98_0 p q x24 x8) (AExit.then N0 (AExit.inBlock 0 (S98 N [1, 1, 1, 1, 1] Q))) :=
  Eq.mpr (by kernel_rfl) (h _ rfl _ (rePiece_eq _) _ (reOp_eq _))
def Body98 (N : Nat) (p : List Op) (q : List Op)  : Prop := awp cfg (know (know98 N)) (drawOk cfg (know (know98 N))) Try.f98.ntmps lv98 (cd Try.f98 []) (entry (args98.can (p, q, ())) []) (EndsQ cfg Try.f98.ntmps Try.f98.results.toList (res98 (p, q, ())) [])
abbrev HB98 : Prop := ∀ (N : Nat) (p : List Op) (q : List Op) (_ : Unit), pre98 (p, q, ()) → mu98 (p, q, ()) < N + 1 → Body98 N p q
noncomputable def know136 (N : Nat) : List (FuncId × Fs U) := (60, fs args60 (fun a => [pre60 a, mu60 a < N]) res60) :: (97, fs args97 (fun a => [pre97 a, mu97 a < N]) res97) :: (132, fs args132 (fun a => [pre132 a, mu132 a < N]) res132) :: (134, fs args134 (fun a => [pre134 a, mu134 a < N]) res134) :: (98, fs args98 (fun a => [pre98 a, mu98 a < N]) res98) :: (136, fs args136 (fun a => [pre136 a, mu136 a < N]) res136) :: [(26, spec26), (83, spec83), (106, spec106), (96, spec96), (133, spec133), (135, spec135)]
def lv136 : Lives U := fun i => match i with
  | 0 => ([(1, []), (2, [])], [((.loc 1), []), ((.loc 2), [])])
  | 1 => ([(1, []), (2, []), (13, [])], [((.loc 1), []), ((.loc 2), [])])
  | 2 => ([(2, []), (3, []), (4, [])], [((.loc 2), [])])
  | 3 => ([(1, []), (2, []), (30, [])], [((.loc 1), []), ((.loc 2), [])])
  | 4 => ([(2, []), (3, []), (4, [])], [((.loc 2), [])])
  | 5 => ([(1, []), (2, []), (42, [])], [((.loc 1), []), ((.loc 2), [])])
  | 6 => ([(1, []), (2, []), (55, []), (56, []), (57, [])], [((.loc 1), []), ((.loc 2), [])])
  | 7 => ([(1, []), (2, []), (55, []), (56, []), (57, []), (58, [])], [((.loc 1), []), ((.loc 2), [])])
  | 8 => ([(1, []), (2, []), (5, []), (6, []), (55, []), (56, []), (57, [])], [((.loc 1), []), ((.loc 2), []), ((.loc 6), [])])
  | 9 => ([(1, []), (2, []), (55, []), (56, []), (57, []), (70, [])], [((.loc 1), []), ((.loc 2), [])])
  | 10 => ([(2, []), (3, []), (4, [])], [((.loc 2), [])])
  | 11 => ([(1, []), (2, []), (55, []), (56, []), (57, [])], [((.loc 1), []), ((.loc 2), [])])
  | 12 => ([(2, []), (3, []), (4, [])], [((.loc 2), [])])
  | 13 => ([(1, []), (2, []), (74, [])], [((.loc 1), []), ((.loc 2), [])])
  | 14 => ([(2, []), (7, []), (8, [])], [((.loc 2), []), ((.loc 7), [])])
  | 15 => ([(2, []), (3, []), (4, [])], [((.loc 2), [])])
  | 16 => ([(1, []), (2, []), (95, [])], [((.loc 1), []), ((.loc 2), [])])
  | 17 => ([(2, []), (9, []), (10, [])], [((.loc 2), []), ((.loc 9), [])])
  | 18 => ([(2, []), (3, []), (4, [])], [((.loc 2), [])])
  | 19 => ([(2, []), (11, []), (12, [])], [((.loc 2), []), ((.loc 11), [])])
  | 20 => ([(2, []), (3, []), (4, [])], [((.loc 2), [])])
  | _ => ([], [])
noncomputable def head136_0 (x : Piece) (x57 : Int) : LSt U := (⟨[(1, .ptr (.loc 1) 0), (2, .ptr (.loc 2) 0), (55, .c (.slice (U := U) .tree (OpOf.l (Piece.p x)) .unk)), (56, .c (.int .i64 ((OpOf.l (Piece.p x)).length : Int))), (57, .c (.int .i64 x57))], [((.loc 1), [.int .i64 (Piece.of x), .int .i64 (OpOf.kind (Piece.p x)), .int .i64 (OpOf.n (Piece.p x)), .slice (U := U) .tree (OpOf.l (Piece.p x)) .unk, .int .i64 (Edit.kind (OpOf.e (Piece.p x))), .int .i64 (Tree.kind (Edit.old (OpOf.e (Piece.p x)))), .slice (U := U) .u64 (Tree.words (Edit.old (OpOf.e (Piece.p x)))) .unk, .slice (U := U) .tree (Tree.kids (Edit.old (OpOf.e (Piece.p x)))) .unk, .int .i64 (Tree.kind (Edit.new (OpOf.e (Piece.p x)))), .slice (U := U) .u64 (Tree.words (Edit.new (OpOf.e (Piece.p x)))) .unk, .slice (U := U) .tree (Tree.kids (Edit.new (OpOf.e (Piece.p x)))) .unk, .slice (U := U) .wedit (Edit.words (OpOf.e (Piece.p x))) .unk, .slice (U := U) .kid (Edit.kids (OpOf.e (Piece.p x))) .unk, .int .i64 (Edit.list (OpOf.e (Piece.p x))), .slice (U := U) .op (Edit.ops (OpOf.e (Piece.p x))) .unk, .int .i64 (OpOf.kind (Piece.q x)), .int .i64 (OpOf.n (Piece.q x)), .slice (U := U) .tree (OpOf.l (Piece.q x)) .unk, .int .i64 (Edit.kind (OpOf.e (Piece.q x))), .int .i64 (Tree.kind (Edit.old (OpOf.e (Piece.q x)))), .slice (U := U) .u64 (Tree.words (Edit.old (OpOf.e (Piece.q x)))) .unk, .slice (U := U) .tree (Tree.kids (Edit.old (OpOf.e (Piece.q x)))) .unk, .int .i64 (Tree.kind (Edit.new (OpOf.e (Piece.q x)))), .slice (U := U) .u64 (Tree.words (Edit.new (OpOf.e (Piece.q x)))) .unk, .slice (U := U) .tree (Tree.kids (Edit.new (OpOf.e (Piece.q x)))) .unk, .slice (U := U) .wedit (Edit.words (OpOf.e (Piece.q x))) .unk, .slice (U := U) .kid (Edit.kids (OpOf.e (Piece.q x))) .unk, .int .i64 (Edit.list (OpOf.e (Piece.q x))), .slice (U := U) .op (Edit.ops (OpOf.e (Piece.q x))) .unk]), ((.loc 2), [.int .i64 0, .int .i64 0, .nils, .int .i64 0, .int .i64 0, .nils, .nils, .int .i64 0, .nils, .nils, .nils, .nils, .int .i64 0, .nils])], []⟩ : LSt U)
noncomputable abbrev A136 (N : Nat) (p : List Nat) := awp cfg (know (know136 N)) (drawOk cfg (know (know136 N))) Try.f136.ntmps lv136 (cd Try.f136 p)
noncomputable abbrev S136 (N : Nat) (p : List Nat) := seqK cfg (know (know136 N)) (drawOk cfg (know (know136 N))) Try.f136.ntmps lv136 (cd Try.f136 p)
theorem vc136 (N : Nat) (x : Piece) (Q : AExit → LSt U → Prop) (h : ∀ y_1, y_1 = ((OpOf.e (Piece.p x))) → ∀ y_2, y_2 = ((OpOf.e (Piece.q x))) → ∀ y_3, y_3 = (List.getD (OpOf.l (Piece.p x)) (Int.toNat 0) Tree.nil) → ∀ y_4, y_4 = (List.getD (OpOf.l (Piece.q x)) (Int.toNat 0) Tree.nil) → ∀ y_5, y_5 = (y_3) → ∀ y_6, y_6 = (y_4) → ∀ y_7, y_7 = ((nrmE (turnE y_1))) → ∀ y_8, y_8 = ((orNil ((doE false y_2 y_5).map normT))) → ∀ y_9, y_9 = ((orNil ((doE false y_7 y_6).map normT))) → ((Tr ((!(((Piece.of x) : Int) == 1)) = true)) ∧ (Tr ((!(((Piece.of x) : Int) == 1)) = true)) ∧ (Tr ((!(((Piece.of x) : Int) == 1)) = true)) ∧ (Tr (((!(((Piece.of x) : Int) == 1)) && (((Piece.of x) : Int) == 0)) = true)) ∧ (Tr (((!(((Piece.of x) : Int) == 1)) && (((Piece.of x) : Int) == 0)) = true)) ∧ (Tr (((!(((Piece.of x) : Int) == 1)) && (((Piece.of x) : Int) == 0)) = true)) ∧ ((!(((Piece.of x) : Int) == 1)) = true → (True → (!(((Piece.of x) : Int) == 1)) = true)) ∧ ((!(((Piece.of x) : Int) == 1)) = true → ((((Piece.of x) : Int) == 0) = true → ((!(((Piece.of x) : Int) == 1)) && (((Piece.of x) : Int) == 0)) = true)) ∧ (((((Piece.of x) : Int) == 1) = false → (!(((Piece.of x) : Int) == 1)) = true)) ∧ (((bif (((Piece.of x) : Int) == 1) then true else (bif (((Piece.of x) : Int) == 0) then (((OpOf.kind (Piece.q x)) : Int) == 0) else false)) = true → (Q .ret (⟨[(2, .ptr (.loc 2) 0), (3, .c (.bool true)), (4, .c (.bool true))], [((.loc 2), [.int .i64 (OpOf.kind (Piece.p x)), .int .i64 (OpOf.n (Piece.p x)), .slice (U := U) .tree (OpOf.l (Piece.p x)) .unk, .int .i64 (Edit.kind (OpOf.e (Piece.p x))), .int .i64 (Tree.kind (Edit.old (OpOf.e (Piece.p x)))), .slice (U := U) .u64 (Tree.words (Edit.old (OpOf.e (Piece.p x)))) .unk, .slice (U := U) .tree (Tree.kids (Edit.old (OpOf.e (Piece.p x)))) .unk, .int .i64 (Tree.kind (Edit.new (OpOf.e (Piece.p x)))), .slice (U := U) .u64 (Tree.words (Edit.new (OpOf.e (Piece.p x)))) .unk, .slice (U := U) .tree (Tree.kids (Edit.new (OpOf.e (Piece.p x)))) .unk, .slice (U := U) .wedit (Edit.words (OpOf.e (Piece.p x))) .unk, .slice (U := U) .kid (Edit.kids (OpOf.e (Piece.p x))) .unk, .int .i64 (Edit.list (OpOf.e (Piece.p x))), .slice (U := U) .op (Edit.ops (OpOf.e (Piece.p x))) .unk])], []⟩ : LSt U))) ∧ ((bif (((Piece.of x) : Int) == 1) then true else (bif (((Piece.of x) : Int) == 0) then (((OpOf.kind (Piece.q x)) : Int) == 0) else false)) = false → (Tr ((!(((Piece.of x) : Int) == 2)) = true)) ∧ (Tr ((!(((Piece.of x) : Int) == 2)) = true)) ∧ (Tr ((!(((Piece.of x) : Int) == 2)) = true)) ∧ (((((Piece.of x) : Int) == 2) = false → (!(((Piece.of x) : Int) == 2)) = true)) ∧ (((bif (((Piece.of x) : Int) == 2) then true else (((OpOf.kind (Piece.p x)) : Int) == 0)) = true → (Q .ret (⟨[(2, .ptr (.loc 2) 0), (3, .c (.bool true)), (4, .c (.bool true))], [((.loc 2), [.int .i64 (OpOf.kind (Piece.q x)), .int .i64 (OpOf.n (Piece.q x)), .slice (U := U) .tree (OpOf.l (Piece.q x)) .unk, .int .i64 (Edit.kind (OpOf.e (Piece.q x))), .int .i64 (Tree.kind (Edit.old (OpOf.e (Piece.q x)))), .slice (U := U) .u64 (Tree.words (Edit.old (OpOf.e (Piece.q x)))) .unk, .slice (U := U) .tree (Tree.kids (Edit.old (OpOf.e (Piece.q x)))) .unk, .int .i64 (Tree.kind (Edit.new (OpOf.e (Piece.q x)))), .slice (U := U) .u64 (Tree.words (Edit.new (OpOf.e (Piece.q x)))) .unk, .slice (U := U) .tree (Tree.kids (Edit.new (OpOf.e (Piece.q x)))) .unk, .slice (U := U) .wedit (Edit.words (OpOf.e (Piece.q x))) .unk, .slice (U := U) .kid (Edit.kids (OpOf.e (Piece.q x))) .unk, .int .i64 (Edit.list (OpOf.e (Piece.q x))), .slice (U := U) .op (Edit.ops (OpOf.e (Piece.q x))) .unk])], []⟩ : LSt U))) ∧ ((bif (((Piece.of x) : Int) == 2) then true else (((OpOf.kind (Piece.p x)) : Int) == 0)) = false → (Tr ((((OpOf.kind (Piece.p x)) : Int) == 2) = true)) ∧ (Tr ((((OpOf.kind (Piece.p x)) : Int) == 2) = true)) ∧ (Tr ((((OpOf.kind (Piece.p x)) : Int) == 2) = true)) ∧ ((Tr ((((OpOf.kind (Piece.p x)) : Int) == 2) = true))) ∧ (((bif (((OpOf.kind (Piece.p x)) : Int) == 2) then (((OpOf.kind (Piece.q x)) : Int) == 1) else false) = true → (LoopWp (A136 N [1, 0, 0, 1, 1, 1, 1, 1, 0, 0, 1, 0, 0]) (head136_0 x 0) (AExit.inBlock 1 (S136 N [1, 0, 0, 1, 1, 1, 1, 1, 0, 1] (AExit.inBlock 0 (S136 N [1, 1] Q)))))) ∧ ((bif (((OpOf.kind (Piece.p x)) : Int) == 2) then (((OpOf.kind (Piece.q x)) : Int) == 1) else false) = false → (((((OpOf.kind (Piece.p x)) : Int) == 2) = true → ((0 : Int) ≤ 0 ∧ 0 < ((OpOf.l (Piece.p x)).length : Int)) ∧ (pre26 (y_2, y_5, ())) ∧ ((Q .ret (⟨[(2, .ptr (.loc 2) 0), (3, .c (.bool true)), (4, .c (.bool ((doE false y_2 y_5).isSome)))], [((.loc 2), [.int .i64 2, .int .i64 0, .slice (U := U) .tree ([y_8]) .full, .int .i64 0, .int .i64 0, .nils, .nils, .int .i64 0, .nils, .nils, .nils, .nils, .int .i64 0, .nils])], []⟩ : LSt U)))) ∧ ((((OpOf.kind (Piece.p x)) : Int) == 2) = false → (((((OpOf.kind (Piece.q x)) : Int) == 1) = true → (pre83 (y_1, ())) ∧ ((0 : Int) ≤ 0 ∧ 0 < ((OpOf.l (Piece.q x)).length : Int)) ∧ (pre26 (y_7, y_6, ())) ∧ ((Q .ret (⟨[(2, .ptr (.loc 2) 0), (3, .c (.bool true)), (4, .c (.bool ((doE false y_7 y_6).isSome)))], [((.loc 2), [.int .i64 1, .int .i64 0, .slice (U := U) .tree ([y_9]) .full, .int .i64 0, .int .i64 0, .nils, .nils, .int .i64 0, .nils, .nils, .nils, .nils, .int .i64 0, .nils])], []⟩ : LSt U)))) ∧ ((((OpOf.kind (Piece.q x)) : Int) == 1) = false → (pre60 (y_1, y_2, ())) ∧ (mu60 (y_1, y_2, ()) < N) ∧ ((Q .ret (⟨[(2, .ptr (.loc 2) 0), (3, .c (.bool true)), (4, .c (.bool ((comE y_1 y_2).2)))], [((.loc 2), [.int .i64 3, .int .i64 0, .nils, .int .i64 (Edit.kind ((comE y_1 y_2).1)), .int .i64 (Tree.kind (Edit.old ((comE y_1 y_2).1))), .slice (U := U) .u64 (Tree.words (Edit.old ((comE y_1 y_2).1))) .unk, .slice (U := U) .tree (Tree.kids (Edit.old ((comE y_1 y_2).1))) .unk, .int .i64 (Tree.kind (Edit.new ((comE y_1 y_2).1))), .slice (U := U) .u64 (Tree.words (Edit.new ((comE y_1 y_2).1))) .unk, .slice (U := U) .tree (Tree.kids (Edit.new ((comE y_1 y_2).1))) .unk, .slice (U := U) .wedit (Edit.words ((comE y_1 y_2).1)) .unk, .slice (U := U) .kid (Edit.kids ((comE y_1 y_2).1)) .unk, .int .i64 (Edit.list ((comE y_1 y_2).1)), .slice (U := U) .op (Edit.ops ((comE y_1 y_2).1)) .unk])], []⟩ : LSt U))))))))))))))) :
    A136 N [] (⟨[(0, .agg [.int .i64 (Piece.of x), .int .i64 (OpOf.kind (Piece.p x)), .int .i64 (OpOf.n (Piece.p x)), .slice (U := U) .tree (OpOf.l (Piece.p x)) .unk, .int .i64 (Edit.kind (OpOf.e (Piece.p x))), .int .i64 (Tree.kind (Edit.old (OpOf.e (Piece.p x)))), .slice (U := U) .u64 (Tree.words (Edit.old (OpOf.e (Piece.p x)))) .unk, .slice (U := U) .tree (Tree.kids (Edit.old (OpOf.e (Piece.p x)))) .unk, .int .i64 (Tree.kind (Edit.new (OpOf.e (Piece.p x)))), .slice (U := U) .u64 (Tree.words (Edit.new (OpOf.e (Piece.p x)))) .unk, .slice (U := U) .tree (Tree.kids (Edit.new (OpOf.e (Piece.p x)))) .unk, .slice (U := U) .wedit (Edit.words (OpOf.e (Piece.p x))) .unk, .slice (U := U) .kid (Edit.kids (OpOf.e (Piece.p x))) .unk, .int .i64 (Edit.list (OpOf.e (Piece.p x))), .slice (U := U) .op (Edit.ops (OpOf.e (Piece.p x))) .unk, .int .i64 (OpOf.kind (Piece.q x)), .int .i64 (OpOf.n (Piece.q x)), .slice (U := U) .tree (OpOf.l (Piece.q x)) .unk, .int .i64 (Edit.kind (OpOf.e (Piece.q x))), .int .i64 (Tree.kind (Edit.old (OpOf.e (Piece.q x)))), .slice (U := U) .u64 (Tree.words (Edit.old (OpOf.e (Piece.q x)))) .unk, .slice (U := U) .tree (Tree.kids (Edit.old (OpOf.e (Piece.q x)))) .unk, .int .i64 (Tree.kind (Edit.new (OpOf.e (Piece.q x)))), .slice (U := U) .u64 (Tree.words (Edit.new (OpOf.e (Piece.q x)))) .unk, .slice (U := U) .tree (Tree.kids (Edit.new (OpOf.e (Piece.q x)))) .unk, .slice (U := U) .wedit (Edit.words (OpOf.e (Piece.q x))) .unk, .slice (U := U) .kid (Edit.kids (OpOf.e (Piece.q x))) .unk, .int .i64 (Edit.list (OpOf.e (Piece.q x))), .slice (U := U) .op (Edit.ops (OpOf.e (Piece.q x))) .unk])], [], []⟩ : LSt U) Q :=
  Eq.mpr (by kernel_rfl) (h _ (reEdit_eq _) _ (reEdit_eq _) _ rfl _ rfl _ (reTree_eq _) _ (reTree_eq _) _ (reEdit_eq _) _ (reTree_eq _) _ (reTree_eq _))
theorem vc136_l0 (N : Nat) (x : Piece) (x57 : Int) (N0 : LSt U → Prop) (Q : AExit → LSt U → Prop) (h : ∀ y_1, y_1 = (List.getD (OpOf.l (Piece.p x)) (Int.toNat x57) Tree.nil) → ∀ y_2, y_2 = (List.getD (OpOf.l (Piece.q x)) (Int.toNat x57) Tree.nil) → ∀ y_3, y_3 = (y_1) → ∀ y_4, y_4 = (y_2) → (((decide ((x57 : Int) < ((OpOf.l (Piece.p x)).length : Int))) = true → ((0 : Int) ≤ x57 ∧ x57 < ((OpOf.l (Piece.p x)).length : Int)) ∧ (((0 : Int) ≤ x57 ∧ x57 < ((OpOf.l (Piece.q x)).length : Int)) ∧ (pre106 (y_3, y_4, ())) ∧ (((!(sameT (normT y_3) (normT y_4))) = true → (Q .ret (⟨[(2, .ptr (.loc 2) 0), (3, .c (.bool false)), (4, .c (.bool false))], [((.loc 2), [.int .i64 0, .int .i64 0, .nils, .int .i64 0, .int .i64 0, .nils, .nils, .int .i64 0, .nils, .nils, .nils, .nils, .int .i64 0, .nils])], []⟩ : LSt U))) ∧ ((!(sameT (normT y_3) (normT y_4))) = false → (InR ((x57 : Int) + 1)) ∧ (N0 (head136_0 x ((x57 : Int) + 1))))))) ∧ ((decide ((x57 : Int) < ((OpOf.l (Piece.p x)).length : Int))) = false → (Q .ret (⟨[(2, .ptr (.loc 2) 0), (3, .c (.bool false)), (4, .c (.bool true))], [((.loc 2), [.int .i64 0, .int .i64 0, .nils, .int .i64 0, .int .i64 0, .nils, .nils, .int .i64 0, .nils, .nils, .nils, .nils, .int .i64 0, .nils])], []⟩ : LSt U))))) :
    A136 N [1, 0, 0, 1, 1, 1, 1, 1, 0, 0, 1, 0, 0] (head136_0 x x57) (AExit.then N0 (AExit.inBlock 1 (S136 N [1, 0, 0, 1, 1, 1, 1, 1, 0, 1] (AExit.inBlock 0 (S136 N [1, 1] Q))))) :=
  Eq.mpr (by kernel_rfl) (h _ rfl _ rfl _ (reTree_eq _) _ (reTree_eq _))
def Body136 (N : Nat) (x : Piece)  : Prop := awp cfg (know (know136 N)) (drawOk cfg (know (know136 N))) Try.f136.ntmps lv136 (cd Try.f136 []) (entry (args136.can (x, ())) []) (EndsQ cfg Try.f136.ntmps Try.f136.results.toList (res136 (x, ())) [])
abbrev HB136 : Prop := ∀ (N : Nat) (x : Piece) (_ : Unit), pre136 (x, ()) → mu136 (x, ()) < N + 1 → Body136 N x
theorem make60_ (c26 : Contract Try.prog cfg 26 spec26) (c83 : Contract Try.prog cfg 83 spec83) (c106 : Contract Try.prog cfg 106 spec106) (c96 : Contract Try.prog cfg 96 spec96) (c133 : Contract Try.prog cfg 133 spec133) (c135 : Contract Try.prog cfg 135 spec135) (b60 : HB60) (b97 : HB97) (b132 : HB132) (b134 : HB134) (b98 : HB98) (b136 : HB136) :
    Contract Try.prog cfg 60 spec60 ∧ Contract Try.prog cfg 97 spec97 ∧ Contract Try.prog cfg 132 spec132 ∧ Contract Try.prog cfg 134 spec134 ∧ Contract Try.prog cfg 98 spec98 ∧ Contract Try.prog cfg 136 spec136 := by
  have h60 : ∃ fn, Try.prog.funcs[(60 : FuncId)]? = some fn ∧ fn.body.isSome = true ∧ (fn.name == "runtime.NumGoroutine") = false := ⟨Try.f60, Try.func60, rfl, rfl⟩
  have h97 : ∃ fn, Try.prog.funcs[(97 : FuncId)]? = some fn ∧ fn.body.isSome = true ∧ (fn.name == "runtime.NumGoroutine") = false := ⟨Try.f97, Try.func97, rfl, rfl⟩
  have h132 : ∃ fn, Try.prog.funcs[(132 : FuncId)]? = some fn ∧ fn.body.isSome = true ∧ (fn.name == "runtime.NumGoroutine") = false := ⟨Try.f132, Try.func132, rfl, rfl⟩
  have h134 : ∃ fn, Try.prog.funcs[(134 : FuncId)]? = some fn ∧ fn.body.isSome = true ∧ (fn.name == "runtime.NumGoroutine") = false := ⟨Try.f134, Try.func134, rfl, rfl⟩
  have h98 : ∃ fn, Try.prog.funcs[(98 : FuncId)]? = some fn ∧ fn.body.isSome = true ∧ (fn.name == "runtime.NumGoroutine") = false := ⟨Try.f98, Try.func98, rfl, rfl⟩
  have h136 : ∃ fn, Try.prog.funcs[(136 : FuncId)]? = some fn ∧ fn.body.isSome = true ∧ (fn.name == "runtime.NumGoroutine") = false := ⟨Try.f136, Try.func136, rfl, rfl⟩
  have key : ∀ N, Contract Try.prog cfg 60 (fs args60 (fun a => [pre60 a, mu60 a < N]) res60) ∧ Contract Try.prog cfg 97 (fs args97 (fun a => [pre97 a, mu97 a < N]) res97) ∧ Contract Try.prog cfg 132 (fs args132 (fun a => [pre132 a, mu132 a < N]) res132) ∧ Contract Try.prog cfg 134 (fs args134 (fun a => [pre134 a, mu134 a < N]) res134) ∧ Contract Try.prog cfg 98 (fs args98 (fun a => [pre98 a, mu98 a < N]) res98) ∧ Contract Try.prog cfg 136 (fs args136 (fun a => [pre136 a, mu136 a < N]) res136) := by
    intro N
    induction N with
    | zero => exact ⟨fs_zero h60, fs_zero h97, fs_zero h132, fs_zero h134, fs_zero h98, fs_zero h136⟩
    | succ N ih =>
      have kn := know_ok (l := know60 N) ⟨ih.1, ih.2.1, ih.2.2.1, ih.2.2.2.1, ih.2.2.2.2.1, ih.2.2.2.2.2, c26, c83, c106, c96, c133, c135, trivial⟩
      exact ⟨contract_fs (Γ := know (know60 N)) cfgOk rfl kn lv60 Try.func60 rfl rfl (fun a => by show 2 ≤ _; decide) (fun ⟨p, q, _⟩ h => b60 N p q () h.1 h.2.1),
        contract_fs (Γ := know (know60 N)) cfgOk rfl kn lv97 Try.func97 rfl rfl (fun a => by show 2 ≤ _; decide) (fun ⟨p, q, _⟩ h => b97 N p q () h.1 h.2.1),
        contract_fs (Γ := know (know60 N)) cfgOk rfl kn lv132 Try.func132 rfl rfl (fun a => by show 4 ≤ _; decide) (fun ⟨p, q, at_, one, _⟩ h => b132 N p q at_ one () h.1 h.2.1),
        contract_fs (Γ := know (know60 N)) cfgOk rfl kn lv134 Try.func134 rfl rfl (fun a => by show 2 ≤ _; decide) (fun ⟨a, b, _⟩ h => b134 N a b () h.1 h.2.1),
        contract_fs (Γ := know (know60 N)) cfgOk rfl kn lv98 Try.func98 rfl rfl (fun a => by show 2 ≤ _; decide) (fun ⟨p, q, _⟩ h => b98 N p q () h.1 h.2.1),
        contract_fs (Γ := know (know60 N)) cfgOk rfl kn lv136 Try.func136 rfl rfl (fun a => by show 1 ≤ _; decide) (fun ⟨x, _⟩ h => b136 N x () h.1 h.2.1)⟩
  exact ⟨fs_less h60 fun N => (key N).1, fs_less h97 fun N => (key N).2.1, fs_less h132 fun N => (key N).2.2.1, fs_less h134 fun N => (key N).2.2.2.1, fs_less h98 fun N => (key N).2.2.2.2.1, fs_less h136 fun N => (key N).2.2.2.2.2⟩
end Go.AM.Ytpjenobkibfpcaa

namespace Go.AM.Ytpjenobkibfpcaa
open Go.AM Go.Proofs
theorem ends_eq {n : Nat} {rs : List ResultVar} {r r' : V U} {X : List (List (C U))} {e : AExit} {s : LSt U} (hr : r = r') (h : EndsQ cfg n rs r' X e s) : EndsQ cfg n rs r X e s := by rw [hr]; exact h
theorem c24 : Contract Try.prog cfg 24 spec24 := by
  refine make24 c66 ?_
  intro p q _ hp
  obtain ⟨rp, rq⟩ := hp
  dsimp only at rp rq
  have A := (andM_in rp.2.1 rq.2.1).1
  refine vc24 _ _ _ ?_
  (simp only [vcT, vcS])
  have z0 : (0 : Int) ≤ 0 ∧ (0 : Int) < 18446744073709551616 := by decide
  refine ⟨⟨z0, rp.2.2.2, A⟩, ⟨z0, rq.2.2.1, A⟩, fun h => ?_, fun h => ⟨⟨rq.2.2.1, rp.2.2.1, rp.2.1⟩, ⟨rp.2.2.2, rq.2.2.2, rq.2.1⟩, ?_⟩⟩
  · have hn : comWok p q = false := decide_eq_false h
    refine ends_eq (r' := .tup [(true, enc .wedit (⟨0, 0, 0, 0⟩ : WEdit)), (false, [.bool false])]) ?_ (by (repeat' (first | exact trivial | exact rfl | apply And.intro)))
    simp only [res24, comW]
    rw [hn]
    rfl
  · have hn : comWok p q = true := decide_eq_true h
    refine ends_eq (r' := .tup [(true, enc .wedit (⟨p.at_, orM p.mask q.mask, mix q.old p.old p.mask, mix p.new q.new q.mask⟩ : WEdit)), (false, [.bool true])]) ?_ (by (repeat' (first | exact trivial | exact rfl | apply And.intro)))
    simp only [res24, comW]
    rw [hn]
    rfl
theorem c131 : Contract Try.prog cfg 131 spec131 := by
  refine make131 ?_
  intro w _ _
  exact vc131 _ _ (ends_int rfl rfl)
theorem c133 : Contract Try.prog cfg 133 spec133 := by
  refine make133 ?_
  intro w _ _
  exact vc133 _ _ (ends_int rfl rfl)
theorem merge_none {α : Type} {at_ : α → Int} {one : α → α → α × Bool} {p q : List α} (h : mergeF at_ one p q = none) : (mergeF at_ one p q).isSome = false ∧ ofO (mergeF at_ one p q) = [] := by rw [h]; exact ⟨rfl, rfl⟩
structure MInv {α : Type} (at_ : α → Int) (one : α → α → α × Bool) (p q x0 x1 out : List α) : Prop where
  eq : mergeF at_ one p q = (mergeF at_ one x0 x1).map (out ++ ·)
  len : out.length + x0.length + x1.length ≤ p.length + q.length
theorem MInv.left {α : Type} {at_ : α → Int} {one : α → α → α × Bool} {p q x1 out : List α} {a : α} {x0 : List α} (h : MInv at_ one p q (a :: x0) x1 out) (hb : ∀ b ∈ x1.head?, at_ a < at_ b) : MInv at_ one p q x0 x1 (out ++ [a]) := by
  refine ⟨?_, by have := h.len; simp only [List.length_cons, List.length_append, List.length_nil] at *; omega⟩
  rw [h.eq]
  cases x1 with
  | nil =>
    rw [mergeF]
    have : mergeF at_ one x0 [] = some x0 := by cases x0 <;> rw [mergeF]
    rw [this]; simp
  | cons b r =>
    rw [mergeF, if_pos (hb b (by simp))]
    cases mergeF at_ one x0 (b :: r) <;> simp
theorem MInv.right {α : Type} {at_ : α → Int} {one : α → α → α × Bool} {p q x0 out : List α} {b : α} {x1 : List α} (h : MInv at_ one p q x0 (b :: x1) out) (hb : ∀ a ∈ x0.head?, at_ b < at_ a) : MInv at_ one p q x0 x1 (out ++ [b]) := by
  refine ⟨?_, by have := h.len; simp only [List.length_cons, List.length_append, List.length_nil] at *; omega⟩
  rw [h.eq]
  cases x0 with
  | nil => rw [mergeF, mergeF]; simp
  | cons a r =>
    have := hb a (by simp)
    rw [mergeF, if_neg (by omega), if_pos this]
    cases mergeF at_ one (a :: r) x1 <;> simp
theorem MInv.both {α : Type} {at_ : α → Int} {one : α → α → α × Bool} {p q x0 x1 out : List α} {a b : α} (h : MInv at_ one p q (a :: x0) (b :: x1) out) (e : at_ a = at_ b) :
    ((one a b).2 = true → MInv at_ one p q x0 x1 (out ++ [(one a b).1])) ∧ ((one a b).2 = false → mergeF at_ one p q = none) := by
  refine ⟨fun hc => ⟨?_, by have := h.len; simp only [List.length_cons, List.length_append, List.length_nil] at *; omega⟩, fun hc => ?_⟩
  · rw [h.eq, mergeF, if_neg (by omega), if_neg (by omega), if_pos hc]
    cases mergeF at_ one x0 x1 <;> simp
  · rw [h.eq, mergeF, if_neg (by omega), if_neg (by omega), if_neg (by rw [hc]; decide)]
    rfl
theorem MInv.done {α : Type} {at_ : α → Int} {one : α → α → α × Bool} {p q out : List α} (h : MInv at_ one p q [] [] out) : mergeF at_ one p q = some out := by
  rw [h.eq, mergeF]; simp
theorem MInv.left' {α : Type} {at_ : α → Int} {one : α → α → α × Bool} {p q x0 x1 out : List α} (z : α) (h : MInv at_ one p q x0 x1 out) (hx : 0 < x0.length) (hb : x1.length = 0 ∨ at_ (x0.getD 0 z) < at_ (x1.getD 0 z)) :
    MInv at_ one p q (x0.drop 1) x1 (out ++ [x0.getD 0 z]) := by
  cases x0 with
  | nil => simp at hx
  | cons a r =>
    refine h.left fun b hb' => ?_
    cases x1 with
    | nil => simp at hb'
    | cons c s =>
      simp only [List.head?_cons, Option.mem_def, Option.some.injEq] at hb'
      subst hb'
      rcases hb with hb | hb
      · simp at hb
      · exact hb
theorem MInv.right' {α : Type} {at_ : α → Int} {one : α → α → α × Bool} {p q x0 x1 out : List α} (z : α) (h : MInv at_ one p q x0 x1 out) (hx : 0 < x1.length) (hb : x0.length = 0 ∨ at_ (x1.getD 0 z) < at_ (x0.getD 0 z)) :
    MInv at_ one p q x0 (x1.drop 1) (out ++ [x1.getD 0 z]) := by
  cases x1 with
  | nil => simp at hx
  | cons a r =>
    refine h.right fun b hb' => ?_
    cases x0 with
    | nil => simp at hb'
    | cons c s =>
      simp only [List.head?_cons, Option.mem_def, Option.some.injEq] at hb'
      subst hb'
      rcases hb with hb | hb
      · simp at hb
      · exact hb
theorem MInv.both' {α : Type} {at_ : α → Int} {one : α → α → α × Bool} {p q x0 x1 out : List α} (z : α) (h : MInv at_ one p q x0 x1 out) (h0 : 0 < x0.length) (h1 : 0 < x1.length) (e : at_ (x0.getD 0 z) = at_ (x1.getD 0 z)) :
    ((one (x0.getD 0 z) (x1.getD 0 z)).2 = true → MInv at_ one p q (x0.drop 1) (x1.drop 1) (out ++ [(one (x0.getD 0 z) (x1.getD 0 z)).1])) ∧ ((one (x0.getD 0 z) (x1.getD 0 z)).2 = false → mergeF at_ one p q = none) := by
  cases x0 with
  | nil => simp at h0
  | cons a r =>
    cases x1 with
    | nil => simp at h1
    | cons b s => exact h.both e
theorem c130 : Contract Try.prog cfg 130 spec130 := by
  refine make130 c131 c24 ?_
  rintro p q ⟨⟩ ⟨⟩ _ hp
  obtain ⟨⟨rp, lp⟩, rq, lq⟩ := hp
  dsimp only at rp lp rq lq
  refine vc130 p q () () _ ?_
  refine loop_rule (ι := List WEdit × List WEdit × List WEdit) (fun x => head130_0 p q () () x.1 x.2.1 x.2.2) (fun x => MInv WEdit.at_ comW p q x.1 x.2.1 x.2.2 ∧ (∀ w ∈ x.1, rngW w) ∧ ∀ w ∈ x.2.1, rngW w) (fun x => x.1.length + x.2.1.length) (p, q, []) rfl
    ⟨⟨by dsimp only; cases mergeF WEdit.at_ comW p q <;> simp, by simp⟩, rp, rq⟩ ?_
  rintro ⟨x0, x1, x10⟩ ⟨inv, r0, r1⟩
  dsimp only at inv r0 r1
  have hlen := inv.len
  refine vc130_l0 p q () () _ _ _ _ _ ?_
  intro y1 h1 y2 h2 y3 h3 y4 h4 y5 h5
  subst h3 h4
  (simp only [vcT, vcS])
  have h3 : y3 = x0.getD 0 ⟨0, 0, 0, 0⟩ := h1
  have h4 : y4 = x1.getD 0 ⟨0, 0, 0, 0⟩ := h2
  have d0 : ∀ w ∈ x0.drop 1, rngW w := fun w hw => r0 w (List.mem_of_mem_drop hw)
  have d1 : ∀ w ∈ x1.drop 1, rngW w := fun w hw => r1 w (List.mem_of_mem_drop hw)
  refine ⟨fun hne => ⟨fun h => ⟨by omega, by omega⟩, fun _ => trivial, fun h => ⟨by omega, by omega⟩, fun _ => trivial, fun g1 g2 => ⟨g1, g2⟩, fun hA => ?_, fun hB => ?_⟩, fun hE => ?_⟩
  · refine ⟨⟨by omega, by omega⟩, by simp only [List.length_cons, List.length_nil]; omega, ⟨by omega, by omega⟩, (x0.drop 1, x1, x10 ++ [y3]), rfl, ⟨?_, d0, r1⟩, by dsimp only; rw [List.length_drop]; omega⟩
    rw [h3]
    exact inv.left' _ (by omega) (by rw [← h3, ← h4]; omega)
  · refine ⟨fun h => ⟨by omega, by omega⟩, fun _ => trivial, fun h => ⟨by omega, by omega⟩, fun _ => trivial, fun hC => ?_, fun hD => ?_⟩
    · refine ⟨⟨by omega, by omega⟩, by simp only [List.length_cons, List.length_nil]; omega, ⟨by omega, by omega⟩, (x0, x1.drop 1, x10 ++ [y4]), rfl, ⟨?_, r0, d1⟩, by dsimp only; rw [List.length_drop]; omega⟩
      rw [h4]
      exact inv.right' _ (by omega) (by rw [← h3, ← h4]; omega)
    · have hb := inv.both' ⟨0, 0, 0, 0⟩ (by omega) (by omega) (by rw [← h3, ← h4]; omega)
      rw [← h3, ← h4] at hb
      have m3 : rngW y3 := by rw [h3]; exact r0 _ (mem_getD (by omega) _)
      have m4 : rngW y4 := by rw [h4]; exact r1 _ (mem_getD (by omega) _)
      refine ⟨⟨by omega, by omega⟩, ⟨by omega, by omega⟩, ⟨m3, m4⟩, fun hc => ?_, fun hc => ?_⟩
      · have e := merge_none (hb.2 hc)
        refine ends_eq (r' := .tup [(false, [.slice (U := U) .wedit [] .unk]), (false, [.bool false])]) ?_ (by (repeat' (first | exact trivial | exact rfl | apply And.intro)))
        simp only [res130]
        rw [e.1, e.2]
      · refine ⟨by simp only [List.length_cons, List.length_nil]; omega, ⟨by omega, by omega⟩, ⟨by omega, by omega⟩, (x0.drop 1, x1.drop 1, x10 ++ [y5]), rfl, ⟨?_, d0, d1⟩, by dsimp only; rw [List.length_drop, List.length_drop]; omega⟩
        rw [h5]
        exact hb.1 hc
  · have e0 : x0 = [] := List.eq_nil_of_length_eq_zero (by omega)
    have e1 : x1 = [] := List.eq_nil_of_length_eq_zero (by omega)
    subst e0 e1
    have e := inv.done
    refine ends_eq (r' := .tup [(false, [.slice (U := U) .wedit x10 .unk]), (false, [.bool true])]) ?_ (by (repeat' (first | exact trivial | exact rfl | apply And.intro)))
    simp only [res130]
    rw [e]
    rfl
theorem c96 : Contract Try.prog cfg 96 spec96 := by
  refine make96 c130 ?_
  intro p q _ hp
  exact vc96 _ _ _ ⟨hp, by (repeat' (first | exact trivial | exact rfl | apply And.intro))⟩
end Go.AM.Ytpjenobkibfpcaa

namespace Go.AM.Ytpjenobkibfpcaa
open Go.AM Go.Proofs
theorem len_e (e : Edit) : e.words.length + e.ops.length + massKs e.kids + massOs e.ops + mass e.old + mass e.new + 1 = massE e := by obtain ⟨k, o, n, w, ks, l, os⟩ := e; simp only [massE, Edit.words_mk, Edit.ops_mk, Edit.kids_mk, Edit.old_mk, Edit.new_mk]; omega
theorem mass1 (t : Tree) : 1 ≤ mass t := by obtain ⟨k, w, ks⟩ := t; simp only [mass]; omega
theorem reOk_mass {e : Edit} (h : reOk e) : massE e ≤ 9000000000 := Nat.le_trans (mass_ct e) h.1
theorem turn_ok {e : Edit} (h : reOk e) : pre83 (e, ()) ∧ reOk (nrmE (turnE e)) := by
  have hm := reOk_mass h
  obtain ⟨m, r, d, hr⟩ := h
  refine ⟨⟨by dsimp only; omega, d, hr⟩, ?_, ?_, d, rightE_nrm _ _ (rightE_turn _ _ hr)⟩
  · have := ct_nrm (turnE e)
    rw [ct_turn] at this
    omega
  · exact rngE_nrm' _ d (rightE_turn _ _ hr) (rngE_turn e r)
theorem apply_ok {e : Edit} {t : Tree} (h : reOk e) (hm : mass t ≤ 100000000000) (ht : rng t) : pre26 (e, t, ()) := by
  have := reOk_mass h
  have := h.1
  exact ⟨⟨by dsimp only; omega, h.2⟩, by dsimp only; omega, ht⟩
theorem reOk_rk {e : Edit} (h : reOk e) : rkOk e.kids := by
  obtain ⟨m, r, d, hr⟩ := h
  have := ctE_at e
  exact ⟨by omega, (rngE_parts r).2.2.2.1, fun k hk => ⟨_, (rightKs_all (rightE_all hr).kids k hk).2⟩⟩
theorem reOk_ro {e : Edit} (h : reOk e) : roOk e.ops := by
  obtain ⟨m, r, d, hr⟩ := h
  have := ctE_at e
  exact ⟨by omega, (rngE_parts r).2.2.2.2, fun o ho => ⟨_, _, rightOs_mem (rightE_all hr).ops ho⟩⟩
theorem b60 : HB60 := by
  intro N p q _ hp hN
  obtain ⟨op, oq⟩ := hp
  dsimp only at op oq
  have hN' : 8 * (massE p + massE q) < N + 1 := hN
  obtain ⟨dp, rp⟩ := op.2.2
  obtain ⟨dq, rq⟩ := oq.2.2
  have hst := comE_step rp rq
  unfold comStep at hst
  have lp := len_e p
  have lq := len_e q
  have mo := mass1 p.old; have mn := mass1 p.new; have mo' := mass1 q.old; have mn' := mass1 q.new
  have gp := rngE_parts op.2.1
  have gq := rngE_parts oq.2.1
  have cp := ctE_at p; have cq := ctE_at q; have cp' := op.1; have cq' := oq.1
  have fin : ∀ {X : Edit} {b : Bool} {s : LSt U}, comE p q = (X, b) → EndsQ cfg Try.f60.ntmps Try.f60.results.toList (.tup [(true, enc .edit X), (false, [.bool b])]) [] .ret s → EndsQ cfg Try.f60.ntmps Try.f60.results.toList (res60 (p, q, ())) [] .ret s := by
    intro X b s h hs
    refine ends_eq ?_ hs
    simp only [res60]
    rw [h]
    rfl
  refine vc60 N p q _ ?_
  intro y1 h1 y2 h2 y3 h3 y4 h4 y5 h5
  replace h1 := h1.symm; replace h2 := h2.symm; replace h3 := h3.symm; replace h4 := h4.symm
  subst h1 h2 h3 h4
  (simp only [vcT, vcS])
  try dsimp only at h5 ⊢
  refine ⟨fun p0 => fin (by rw [hst, if_pos p0]) (by (repeat' (first | exact trivial | exact rfl | apply And.intro))), fun p0 => ?_⟩
  rw [if_neg p0] at hst
  refine ⟨fun q0 => fin (by rw [hst, if_pos q0]) (by (repeat' (first | exact trivial | exact rfl | apply And.intro))), fun q0 => ?_⟩
  rw [if_neg q0] at hst
  refine ⟨fun p1 => ⟨apply_ok oq (by omega) gp.2.1, fin (by rw [hst, if_pos p1]) (by unfold doB; (repeat' (first | exact trivial | exact rfl | apply And.intro)))⟩, fun p1 => ?_⟩
  rw [if_neg p1] at hst
  refine ⟨fun q1 => ⟨(turn_ok op).1, by rw [h5]; exact apply_ok (turn_ok op).2 (by omega) gq.1, fin (by rw [hst, if_pos q1, ← h5]) (by unfold doB; (repeat' (first | exact trivial | exact rfl | apply And.intro)))⟩, fun q1 => ?_⟩
  rw [if_neg q1] at hst
  refine ⟨fun hd => fin (by rw [hst, if_pos hd]) (by (repeat' (first | exact trivial | exact rfl | apply And.intro))), fun hd => ?_⟩
  rw [if_neg (by rintro (h | h); exact h hd.1; exact h hd.2)] at hst
  refine ⟨fun p2 => ?_, fun p2 => ?_⟩
  · rw [if_pos p2] at hst
    refine ⟨⟨⟨gp.2.2.1, by dsimp only; omega⟩, gq.2.2.1, by dsimp only; omega⟩, fun hw => ?_, fun hw => ⟨⟨reOk_rk op, reOk_rk oq⟩, by show 8 * (massKs p.kids + massKs q.kids) + 4 < N; omega, ?_⟩⟩
    · exact fin (by rw [hst, if_neg (by rw [hw]; decide)]) (by (repeat' (first | exact trivial | exact rfl | apply And.intro)))
    · exact fin (by rw [hst, if_pos hw]) (by (repeat' (first | exact trivial | exact rfl | apply And.intro)))
  · rw [if_neg p2] at hst
    exact ⟨⟨reOk_ro op, reOk_ro oq⟩, by show 8 * (massOs p.ops + massOs q.ops) + 40 < N; omega, fin hst (by (repeat' (first | exact trivial | exact rfl | apply And.intro)))⟩
theorem b97 : HB97 := by
  intro N a b _ hp hN
  have hN' : 8 * (massKs a + massKs b) + 4 < N + 1 := hN
  refine vc97 N a b _ ?_
  exact ⟨hp, by show 8 * (massKs a + massKs b) + 3 < N; omega, by (repeat' (first | exact trivial | exact rfl | apply And.intro))⟩
theorem rngKid_e {k : Kid} (h : rngKid k) : isI k.at_ ∧ rngE k.e := by cases k; exact h
theorem b134 : HB134 := by
  intro N a b _ hp hN
  obtain ⟨oa, ob⟩ := hp
  dsimp only at oa ob
  have hN' : 8 * (massKid a + massKid b) + 1 < N + 1 := hN
  have ka := massKid_e a
  have kb := massKid_e b
  refine vc134 N a b _ ?_
  intro y1 h1 y2 h2
  replace h1 := h1.symm; replace h2 := h2.symm
  subst h1 h2
  try dsimp only
  have ra : reOk a.e := ⟨by have := oa.1; rw [ctKid_at] at this; omega, (rngKid_e oa.2.1).2, oa.2.2⟩
  have rb : reOk b.e := ⟨by have := ob.1; rw [ctKid_at] at this; omega, (rngKid_e ob.2.1).2, ob.2.2⟩
  exact ⟨⟨ra, rb⟩, by show 8 * (massE a.e + massE b.e) < N; omega, by unfold res134 comK; (repeat' (first | exact trivial | exact rfl | apply And.intro))⟩
theorem rkOk_drop {l : List Kid} (h : rkOk l) : rkOk (l.drop 1) := by
  cases l with
  | nil => exact h
  | cons k r =>
    obtain ⟨h1, h2, h3⟩ := h
    simp only [ctKs] at h1
    exact ⟨by simp only [List.drop_succ_cons, List.drop_zero]; omega, h2.2, fun x hx => h3 x (List.mem_cons_of_mem _ hx)⟩
theorem rkOk_head {l : List Kid} (h : rkOk l) (hl : 0 < l.length) (z : Kid) : kidOk (l.getD 0 z) ∧ massKid (l.getD 0 z) + massKs (l.drop 1) = massKs l := by
  cases l with
  | nil => simp at hl
  | cons k r =>
    obtain ⟨h1, h2, h3⟩ := h
    simp only [ctKs] at h1
    exact ⟨⟨by simp only [List.getD_cons_zero]; omega, h2.1, h3 k List.mem_cons_self⟩, rfl⟩
theorem massKs_drop : ∀ l : List Kid, massKs (l.drop 1) ≤ massKs l
  | [] => Nat.le_refl _
  | k :: r => by simp only [List.drop_succ_cons, List.drop_zero, massKs]; omega
theorem b132 : HB132 := by
  rintro N p q ⟨⟩ ⟨⟩ _ hp hN
  obtain ⟨op, oq⟩ := hp
  dsimp only at op oq
  have hN' : 8 * (massKs p + massKs q) + 3 < N + 1 := hN
  have lp := massKs_len p
  have lq := massKs_len q
  have bp := Nat.le_trans (mass_ctKs p) op.1; have bq := Nat.le_trans (mass_ctKs q) oq.1
  refine vc132 N p q () () _ ?_
  refine loop_rule (ι := List Kid × List Kid × List Kid) (fun x => head132_0 p q () () x.1 x.2.1 x.2.2) (fun x => MInv KidOf.at_ (comK comE) p q x.1 x.2.1 x.2.2 ∧ (rkOk x.1 ∧ massKs x.1 ≤ massKs p) ∧ rkOk x.2.1 ∧ massKs x.2.1 ≤ massKs q) (fun x => x.1.length + x.2.1.length) (p, q, []) rfl
    ⟨⟨by dsimp only; cases mergeF KidOf.at_ (comK comE) p q <;> simp, by simp⟩, ⟨op, Nat.le_refl _⟩, oq, Nat.le_refl _⟩ ?_
  rintro ⟨x0, x1, x10⟩ ⟨inv, ⟨r0, m0⟩, r1, m1⟩
  dsimp only at inv r0 r1 m0 m1
  have hlen := inv.len
  refine vc132_l0 N p q () () _ _ _ _ _ ?_
  intro y1 h1 y2 h2 y3 h3 y4 h4 y5 h5
  subst h3 h4
  (simp only [vcT, vcS])
  have h3 : y3 = x0.getD 0 ⟨0, Edit.nil⟩ := h1
  have h4 : y4 = x1.getD 0 ⟨0, Edit.nil⟩ := h2
  have d0 : rkOk (x0.drop 1) ∧ massKs (x0.drop 1) ≤ massKs p := ⟨rkOk_drop r0, by have := massKs_drop x0; omega⟩
  have d1 : rkOk (x1.drop 1) ∧ massKs (x1.drop 1) ≤ massKs q := ⟨rkOk_drop r1, by have := massKs_drop x1; omega⟩
  refine ⟨fun hne => ⟨fun h => ⟨by omega, by omega⟩, fun _ => trivial, fun h => ⟨by omega, by omega⟩, fun _ => trivial, fun g1 g2 => ⟨g1, g2⟩, fun hA => ?_, fun hB => ?_⟩, fun hE => ?_⟩
  · refine ⟨⟨by omega, by omega⟩, by simp only [List.length_cons, List.length_nil]; omega, ⟨by omega, by omega⟩, (x0.drop 1, x1, x10 ++ [y3]), rfl, ⟨?_, d0, r1, m1⟩, by dsimp only; rw [List.length_drop]; omega⟩
    rw [h3]
    exact inv.left' _ (by omega) (by rw [← h3, ← h4]; omega)
  · refine ⟨fun h => ⟨by omega, by omega⟩, fun _ => trivial, fun h => ⟨by omega, by omega⟩, fun _ => trivial, fun hC => ?_, fun hD => ?_⟩
    · refine ⟨⟨by omega, by omega⟩, by simp only [List.length_cons, List.length_nil]; omega, ⟨by omega, by omega⟩, (x0, x1.drop 1, x10 ++ [y4]), rfl, ⟨?_, ⟨r0, m0⟩, d1⟩, by dsimp only; rw [List.length_drop]; omega⟩
      rw [h4]
      exact inv.right' _ (by omega) (by rw [← h3, ← h4]; omega)
    · have hb := inv.both' ⟨0, Edit.nil⟩ (by omega) (by omega) (by rw [← h3, ← h4]; omega)
      rw [← h3, ← h4] at hb
      obtain ⟨k3, n3⟩ := rkOk_head r0 (by omega) ⟨0, Edit.nil⟩
      obtain ⟨k4, n4⟩ := rkOk_head r1 (by omega) ⟨0, Edit.nil⟩
      rw [← h3] at k3 n3
      rw [← h4] at k4 n4
      refine ⟨⟨by omega, by omega⟩, ⟨by omega, by omega⟩, ⟨k3, k4⟩, by show 8 * (massKid y3 + massKid y4) + 1 < N; omega, fun hc => ?_, fun hc => ?_⟩
      · have e := merge_none (hb.2 hc)
        refine ends_eq (r' := .tup [(false, [.slice (U := U) .kid [] .unk]), (false, [.bool false])]) ?_ (by (repeat' (first | exact trivial | exact rfl | apply And.intro)))
        simp only [res132]
        rw [e.1, e.2]
      · refine ⟨by simp only [List.length_cons, List.length_nil]; omega, ⟨by omega, by omega⟩, ⟨by omega, by omega⟩, (x0.drop 1, x1.drop 1, x10 ++ [y5]), rfl, ⟨?_, d0, d1⟩, by dsimp only; rw [List.length_drop, List.length_drop]; omega⟩
        rw [h5]
        exact hb.1 hc
  · have e0 : x0 = [] := List.eq_nil_of_length_eq_zero (by omega)
    have e1 : x1 = [] := List.eq_nil_of_length_eq_zero (by omega)
    subst e0 e1
    have e := inv.done
    refine ends_eq (r' := .tup [(false, [.slice (U := U) .kid x10 .unk]), (false, [.bool true])]) ?_ (by (repeat' (first | exact trivial | exact rfl | apply And.intro)))
    simp only [res132]
    rw [e]
    rfl
theorem part_rng {l : List Op} {o : Op} (h : Part l o) (ho : opOk o) (hl : rngOs l) : rngOp o := by
  obtain ⟨o', m, k, e1, _, lt⟩ := h
  have G := rngOp_e (rngOs_mem hl m)
  obtain ⟨kk, nn, ll, ee⟩ := o
  have k : kk = o'.kind := k
  have e1 : ee = o'.e := e1
  have lt : ∀ t ∈ ll, t ∈ o'.l := lt
  refine ⟨by rw [k]; exact G.1, ?_, rngK_of fun t ht => rngK_mem G.2.2.1 (lt t ht), by rw [e1]; exact G.2.2.2⟩
  rcases ho with h | h | h
  · have := h.2.2.1
    unfold isI
    dsimp only at this
    omega
  · have h2 : nn = 0 := h.2.1
    rw [h2]; exact isI_n (by decide) (by decide)
  · have h2 : nn = 0 := h.2.1
    rw [h2]; exact isI_n (by decide) (by decide)
theorem part_ct {l : List Op} {o : Op} (h : Part l o) : ctOp o ≤ ctOs l ∧ massOp o ≤ massOs l := by
  obtain ⟨o', m, k, e1, hm, _⟩ := h
  have h1 := ctOs_mem m
  have h2 := massOs_mem m
  have a := ctOp_at o
  rw [massOp_e, massOp_e, e1] at hm
  rw [e1] at a
  rw [massOp_e] at h2
  rw [massOp_e, e1]
  omega
theorem part_right {l : List Op} {o : Op} (h : Part l o) (hl : ∀ o ∈ l, ∃ list d, rightOp list o d = true) (k3 : o.kind = 3) : ∃ d, rightE o.e d = true := by
  obtain ⟨o', m, k, e1, hm, _⟩ := h
  obtain ⟨list, d, hr⟩ := hl o' m
  exact ⟨d, by rw [e1]; exact right_desc hr (by omega)⟩
theorem piece_ok {p q : List Op} (hp : roOk p) (hq : roOk q) {x : Piece} (h : POk p q x) : PcOk x := by
  refine ⟨h.of, fun e => ?_, fun e => ?_, h.both⟩
  · obtain ⟨a, b⟩ := h.pp e
    exact ⟨b, Nat.le_trans (part_ct a).1 hp.1, part_rng a b hp.2.1, part_right a hp.2.2⟩
  · obtain ⟨a, b⟩ := h.qq e
    exact ⟨b, Nat.le_trans (part_ct a).1 hq.1, part_rng a b hq.2.1, part_right a hq.2.2⟩
theorem ro_ok {p : List Op} (hp : roOk p) : okOs p := by
  refine ⟨fun o ho => ?_, ?_⟩
  · obtain ⟨_, _, h⟩ := hp.2.2 o ho
    exact rightOp_ok h
  · have := mass_ctOs p
    have := hp.1
    omega
theorem b98 : HB98 := by
  intro N p q _ hp hN
  obtain ⟨op, oq⟩ := hp
  dsimp only at op oq
  have hN' : 8 * (massOs p + massOs q) + 40 < N + 1 := hN
  have kp := ro_ok op
  have kq := ro_ok oq
  obtain ⟨i1, _⟩ := pair_run _ p q [] (Nat.le_refl _) kp.1 kq.1
  refine vc98 N p q _ ?_
  (simp only [vcT, vcS])
  refine ⟨⟨kp, kq⟩, fun hb => ?_, fun hb => ?_⟩
  · have e : comOs comE p q = none := by unfold comOs; rw [if_neg (by rw [hb]; decide)]
    refine ends_eq (r' := .tup [(false, [.slice (U := U) .op [] .unk]), (false, [.bool false])]) ?_ (by (repeat' (first | exact trivial | exact rfl | apply And.intro)))
    simp only [res98]
    rw [e]; rfl
  · obtain ⟨ps, e, hps, _, _⟩ := i1 hb
    obtain ⟨ps1, e1, _, _, hlen⟩ := pair_sum addsA addsB 1 _ p q [] (Nat.le_refl _) kp.1 kq.1 hb
    rw [e, List.nil_append, List.nil_append] at e1
    subst e1
    rw [List.nil_append] at e
    have hco : comOs comE p q = comPs comE ps := by unfold comOs; rw [if_pos hb, e]
    refine loop_rule (ι := Int × List Op) (fun s => head98_0 p q s.1 s.2) (fun s => 0 ≤ s.1 ∧ s.1 ≤ ps.length ∧ comPs comE ps = (comPs comE (ps.drop s.1.toNat)).map (s.2 ++ ·) ∧ s.2.length + (ps.drop s.1.toNat).length ≤ ps.length) (fun s => ((ps.length : Int) - s.1).toNat) (0, []) rfl ⟨by simp, by simp, by simp, by simp⟩ ?_
    rintro ⟨i, out⟩ ⟨f1, f2, f3, f4⟩
    dsimp only at f1 f2 f3 f4
    refine vc98_l0 N p q _ _ _ _ ?_
    intro y1 h1 y2 h2 y3 h3
    rw [e] at h1 ⊢
    subst h2
    (simp only [vcT, vcS])
    refine ⟨fun hi => ?_, fun hi => ?_⟩
    · have h1 : y2 = ps.getD i.toNat (Piece.mk 0 Op.nil Op.nil) := h1
      have hmem : y2 ∈ ps := by rw [h1]; exact mem_getD (by omega) _
      have hx := hps y2 hmem
      have hd : ps.drop i.toNat = y2 :: ps.drop (i + 1).toNat := by rw [h1]; exact dropI f1 hi _
      rw [hd, comPs] at f3
      rw [hd, List.length_cons] at f4
      have hmu : 8 * (massOp y2.p + massOp y2.q) + 1 < N := by
        rcases hx.of with h | h | h
        · have := (part_ct (hx.pp (by omega)).1).2; have := (part_ct (hx.qq (by omega)).1).2; omega
        · have := (part_ct (hx.pp (by omega)).1).2; rw [hx.qn h, show massOp Op.nil = 3 from rfl]; omega
        · have := (part_ct (hx.qq (by omega)).1).2; rw [hx.pn h, show massOp Op.nil = 3 from rfl]; omega
      have c1 := mass_ctOs p; have c2 := mass_ctOs q; have c3 := op.1; have c4 := oq.1
      refine ⟨⟨f1, hi⟩, piece_ok op oq hx, hmu, fun hc => ?_, fun hc => ⟨fun his => ?_, fun his => ?_⟩⟩
      · rw [if_neg (by rw [hc]; decide)] at f3
        refine ends_eq (r' := .tup [(false, [.slice (U := U) .op [] .unk]), (false, [.bool false])]) ?_ (by (repeat' (first | exact trivial | exact rfl | apply And.intro)))
        simp only [res98]
        rw [hco, f3]; rfl
      · rw [if_pos hc, if_pos his] at f3
        refine ⟨by simp only [List.length_cons, List.length_nil]; omega, by unfold InR; omega, (i + 1, out ++ [y3]), rfl, ⟨by dsimp only; omega, by dsimp only; omega, ?_, ?_⟩, by dsimp only; omega⟩
        · rw [f3, h3]
          cases comPs comE (ps.drop (i + 1).toNat) <;> simp
        · simp only [List.length_append, List.length_cons, List.length_nil]; omega
      · rw [if_pos hc, if_neg (by rw [his]; decide)] at f3
        refine ⟨by unfold InR; omega, (i + 1, out), rfl, ⟨by dsimp only; omega, by dsimp only; omega, ?_, by dsimp only; omega⟩, by dsimp only; omega⟩
        rw [f3]
        cases comPs comE (ps.drop (i + 1).toNat) <;> simp
    · rw [List.drop_of_length_le (by omega), comPs] at f3
      refine ends_eq (r' := .tup [(false, [.slice (U := U) .op out .unk]), (false, [.bool true])]) ?_ (by (repeat' (first | exact trivial | exact rfl | apply And.intro)))
      simp only [res98]
      rw [hco, f3]
      simp [ofO]
theorem take_more {α : Type} {l : List α} {i : Nat} (h : i < l.length) (d : α) : l.take (i + 1) = l.take i ++ [l.getD i d] := by
  rw [List.take_succ_eq_append_getElem h, List.getD_eq_getElem?_getD, List.getElem?_eq_getElem h]; rfl
theorem eqvL_yes {a b : List Tree} (h : normsT a = normsT b) : eqvL a b = true := eqX_iff.2 h
theorem eqvL_no {a b : List Tree} (h : ¬normsT a = normsT b) : eqvL a b = false := by rw [← Bool.not_eq_true]; exact fun e => h (eqX_iff.1 e)
theorem massK_ct (o : Op) : massK o.l ≤ ctOp o := by rw [ctOp_at]; omega
theorem b136 : HB136 := by
  intro N x _ hp hN
  have hp : PcOk x := hp
  have hN' : 8 * (massOp x.p + massOp x.q) + 1 < N + 1 := hN
  have fin : ∀ {o : Op} {i k : Bool} {s : LSt U}, comP comE x = ⟨o, i, k⟩ → EndsQ cfg Try.f136.ntmps Try.f136.results.toList (.tup [(true, enc .op o), (false, [.bool i]), (false, [.bool k])]) [] .ret s → EndsQ cfg Try.f136.ntmps Try.f136.results.toList (res136 (x, ())) [] .ret s := by
    intro o i k s h hs
    refine ends_eq ?_ hs
    simp only [res136]
    rw [h]; rfl
  refine vc136 N x _ ?_
  intro y1 h1 y2 h2 y3 h3 y4 h4 y5 h5 y6 h6 y7 h7 y8 h8 y9 h9
  subst h1 h2 h5 h6
  (simp only [vcT, vcS])
  have hc := comP.eq_1 comE x
  refine ⟨fun _ h => ⟨by omega, h⟩, fun c1 => fin (by rw [hc, if_pos c1]) (by (repeat' (first | exact trivial | exact rfl | apply And.intro))), fun c1 => ?_⟩
  rw [if_neg (by omega)] at hc
  refine ⟨fun c2 => fin (by rw [hc, if_pos c2]) (by (repeat' (first | exact trivial | exact rfl | apply And.intro))), fun c2 => ?_⟩
  rw [if_neg (by omega)] at hc
  have c0 : x.of = 0 := by rcases hp.of with h | h | h <;> omega
  obtain ⟨b1, b2, b3⟩ := hp.both c0
  obtain ⟨op, mp, gp, rp⟩ := hp.pp (by omega)
  obtain ⟨oq, mq, gq, rq⟩ := hp.qq (by omega)
  have ep := ctOp_at x.p
  have eq := ctOp_at x.q
  have gp' := rngOp_e gp
  have gq' := rngOp_e gq
  have ap := massK_ct x.p
  have aq := massK_ct x.q
  refine ⟨fun c3 => ?_, fun c3 => ?_⟩
  · rw [if_pos c3] at hc
    have l1 := opLen_12 op (.inr c3.1)
    have l2 := opLen_12 oq (.inl c3.2)
    have k1 := massK_len x.p.l
    rw [List.take_of_length_le (by omega)] at hc
    refine loop_rule (ι := Int) (fun i => head136_0 x i) (fun i => 0 ≤ i ∧ i ≤ x.p.l.length ∧ normsT (x.p.l.take i.toNat) = normsT (x.q.l.take i.toNat)) (fun i => ((x.p.l.length : Int) - i).toNat) 0 rfl ⟨by omega, by omega, by simp⟩ ?_
    rintro i ⟨f1, f2, f3⟩
    refine vc136_l0 N x _ _ _ ?_
    intro z1 g1 z2 g2 z3 g3 z4 g4
    subst g1 g2
    (simp only [vcT, vcS])
    have l3 : x.p.l.length = x.q.l.length := by omega
    refine ⟨fun hi => ?_, fun hi => ?_⟩
    · have m1 : z3 ∈ x.p.l := by rw [g3]; exact mem_getD (by omega) _
      have m2 : z4 ∈ x.q.l := by rw [g4]; exact mem_getD (by omega) _
      have m1' := massK_mem m1
      have m2' := massK_mem m2
      have t1 : x.p.l.take (i + 1).toNat = x.p.l.take i.toNat ++ [z3] := by rw [g3, show (i + 1).toNat = i.toNat + 1 by omega]; exact take_more (by omega) _
      have t2 : x.q.l.take (i + 1).toNat = x.q.l.take i.toNat ++ [z4] := by rw [g4, show (i + 1).toNat = i.toNat + 1 by omega]; exact take_more (by omega) _
      refine ⟨⟨f1, hi⟩, ⟨f1, by omega⟩, ⟨by dsimp only; omega, by dsimp only; omega⟩, fun hne => fin (by rw [hc, eqvL_no]; intro he; rw [sameT_false] at hne; apply hne; rw [g3, g4]; exact getD_map_eq he i.toNat) (by (repeat' (first | exact trivial | exact rfl | apply And.intro))), fun heq => ⟨by unfold InR; omega, i + 1, rfl, ⟨by omega, by omega, ?_⟩, by omega⟩⟩
      rw [t1, t2]
      exact norms_app f3 (norms_one.2 (sameT_true.1 heq))
    · rw [List.take_of_length_le (by omega), List.take_of_length_le (by omega)] at f3
      exact fin (by rw [hc, eqvL_yes f3]) (by (repeat' (first | exact trivial | exact rfl | apply And.intro)))
  rw [if_neg (by omega)] at hc
  have kp : x.p.kind = 2 ∨ x.p.kind = 3 := by rcases opOk_k op with k | k | k | k <;> omega
  have kq : x.q.kind = 1 ∨ x.q.kind = 3 := by rcases opOk_k oq with k | k | k | k <;> omega
  refine ⟨fun c4 => ?_, fun c4 => ?_⟩
  · rw [if_pos c4] at hc
    have l1 := opLen_12 op (.inr c4)
    have l2 := opLen_3 (o := x.q) (by omega)
    have hl : 0 < x.p.l.length := by omega
    have m3 : y5 ∈ x.p.l := by rw [h3]; exact mem_getD hl _
    have m3' := massK_mem m3
    refine ⟨⟨by omega, by omega⟩, apply_ok ⟨by omega, gq'.2.2.2, rq (by omega)⟩ (by omega) (rngK_mem gp'.2.2.1 m3), fin hc ?_⟩
    rw [show x.p.l.getD 0 Tree.nil = y5 from h3.symm]
    unfold doB
    rw [← h8]
    (repeat' (first | exact trivial | exact rfl | apply And.intro))
  rw [if_neg c4] at hc
  have p3 : x.p.kind = 3 := by omega
  refine ⟨fun c5 => ?_, fun c5 => ?_⟩
  · rw [if_pos c5] at hc
    have l1 := opLen_12 oq (.inl c5)
    have l2 := opLen_3 (o := x.p) p3
    have hl : 0 < x.q.l.length := by omega
    have m4 : y6 ∈ x.q.l := by rw [h4]; exact mem_getD hl _
    have m4' := massK_mem m4
    have rk : reOk x.p.e := ⟨by omega, gp'.2.2.2, rp p3⟩
    refine ⟨(turn_ok rk).1, ⟨by omega, by omega⟩, by rw [h7]; exact apply_ok (turn_ok rk).2 (by omega) (rngK_mem gq'.2.2.1 m4), fin hc ?_⟩
    rw [show x.q.l.getD 0 Tree.nil = y6 from h4.symm, ← h7]
    unfold doB
    rw [← h9]
    (repeat' (first | exact trivial | exact rfl | apply And.intro))
  · rw [if_neg c5] at hc
    have k1 : reOk x.p.e := ⟨by omega, gp'.2.2.2, rp p3⟩
    have k2 : reOk x.q.e := ⟨by omega, gq'.2.2.2, rq (by omega)⟩
    refine ⟨⟨k1, k2⟩, ?_, fin hc (by (repeat' (first | exact trivial | exact rfl | apply And.intro)))⟩
    show 8 * (massE x.p.e + massE x.q.e) < N
    rw [massOp_e, massOp_e] at hN'
    omega
theorem c60_ : Contract Try.prog cfg 60 spec60 ∧ Contract Try.prog cfg 97 spec97 ∧ Contract Try.prog cfg 132 spec132 ∧ Contract Try.prog cfg 134 spec134 ∧ Contract Try.prog cfg 98 spec98 ∧ Contract Try.prog cfg 136 spec136 :=
  make60_ c26 c83 c106 c96 c133 (c135 c169) b60 b97 b132 b134 b98 b136
theorem c60 : Contract Try.prog cfg 60 spec60 := c60_.1
end Go.AM.Ytpjenobkibfpcaa
