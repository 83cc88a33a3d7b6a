import Derived.Test.YthokdjgpdonhgaaQB6
import Derived.Test.YthokdjgpdonhgaaRows
import Derived.Test.YthokdjgpdonhgaaBmX
import Derived.ProofKit
set_option linter.unusedSimpArgs false
set_option linter.unusedVariables false
namespace Go.AM.Ythokdjgpdonhgaa
open Go.AM Go.Proofs
def args64 : ArgL (Ref × Int × Unit) := (.cons (aEl .ref) (.cons (aInt .i64) .nil))
def pre64 (a : Ref × Int × Unit) : Prop := okA (Ref.a a.1) ∧ 0 ≤ a.2.1 ∧ Ref.number a.1 = 0 ∧ hasN (segO (Ref.a a.1)) (Ref.segment a.1) (Ref.at_ a.1) (a.2.1 + 1) = true
noncomputable def res64 (a : Ref × Int × Unit) : V U := .tup [(true, [.po (U := U) .arena (Ref.a (liftX (Ref.a a.1) (compX (segO (Ref.a a.1)) (Ref.segment a.1) (Ref.at_ a.1) a.2.1).1)), .int .i64 (Ref.kind (liftX (Ref.a a.1) (compX (segO (Ref.a a.1)) (Ref.segment a.1) (Ref.at_ a.1) a.2.1).1)), .int .i64 (Ref.segment (liftX (Ref.a a.1) (compX (segO (Ref.a a.1)) (Ref.segment a.1) (Ref.at_ a.1) a.2.1).1)), .int .i64 (Ref.at_ (liftX (Ref.a a.1) (compX (segO (Ref.a a.1)) (Ref.segment a.1) (Ref.at_ a.1) a.2.1).1)), .int .i64 (Ref.data (liftX (Ref.a a.1) (compX (segO (Ref.a a.1)) (Ref.segment a.1) (Ref.at_ a.1) a.2.1).1)), .int .i64 (Ref.kids (liftX (Ref.a a.1) (compX (segO (Ref.a a.1)) (Ref.segment a.1) (Ref.at_ a.1) a.2.1).1)), .int .i64 (Ref.count (liftX (Ref.a a.1) (compX (segO (Ref.a a.1)) (Ref.segment a.1) (Ref.at_ a.1) a.2.1).1)), .int .u64 (Ref.number (liftX (Ref.a a.1) (compX (segO (Ref.a a.1)) (Ref.segment a.1) (Ref.at_ a.1) a.2.1).1))]), (false, [.int .i64 ((compX (segO (Ref.a a.1)) (Ref.segment a.1) (Ref.at_ a.1) a.2.1).2)])]
noncomputable def spec64 : Fs U := fs args64 (fun a => [pre64 a]) res64
def args26 : ArgL (Option Arena × Int × Int × Unit) := (.cons (aPo .arena) (.cons (aInt .i64) (.cons (aInt .i64) .nil)))
def pre26 (a : Option Arena × Int × Int × Unit) : Prop := okA a.1
noncomputable def res26 (a : Option Arena × Int × Int × Unit) : V U := .tup [(true, [.po (U := U) .arena (Ref.a (liftX a.1 (refAt (segO a.1) a.2.1 a.2.2.1).1)), .int .i64 (Ref.kind (liftX a.1 (refAt (segO a.1) a.2.1 a.2.2.1).1)), .int .i64 (Ref.segment (liftX a.1 (refAt (segO a.1) a.2.1 a.2.2.1).1)), .int .i64 (Ref.at_ (liftX a.1 (refAt (segO a.1) a.2.1 a.2.2.1).1)), .int .i64 (Ref.data (liftX a.1 (refAt (segO a.1) a.2.1 a.2.2.1).1)), .int .i64 (Ref.kids (liftX a.1 (refAt (segO a.1) a.2.1 a.2.2.1).1)), .int .i64 (Ref.count (liftX a.1 (refAt (segO a.1) a.2.1 a.2.2.1).1)), .int .u64 (Ref.number (liftX a.1 (refAt (segO a.1) a.2.1 a.2.2.1).1))]), (false, [.int .i64 ((refAt (segO a.1) a.2.1 a.2.2.1).2)])]
noncomputable def spec26 : Fs U := fs args26 (fun a => [pre26 a]) res26
def args21 : ArgL (Option Arena × Unit) := (.cons (aPo .arena) .nil)
def pre21 (a : Option Arena × Unit) : Prop := okA a.1
noncomputable def res21 (a : Option Arena × Unit) : V U := .tup [(true, [.po (U := U) .arena (Ref.a (liftX a.1 (refAt (segO a.1) 0 0).1)), .int .i64 (Ref.kind (liftX a.1 (refAt (segO a.1) 0 0).1)), .int .i64 (Ref.segment (liftX a.1 (refAt (segO a.1) 0 0).1)), .int .i64 (Ref.at_ (liftX a.1 (refAt (segO a.1) 0 0).1)), .int .i64 (Ref.data (liftX a.1 (refAt (segO a.1) 0 0).1)), .int .i64 (Ref.kids (liftX a.1 (refAt (segO a.1) 0 0).1)), .int .i64 (Ref.count (liftX a.1 (refAt (segO a.1) 0 0).1)), .int .u64 (Ref.number (liftX a.1 (refAt (segO a.1) 0 0).1))]), (false, [.int .i64 ((refAt (segO a.1) 0 0).2)])]
noncomputable def spec21 : Fs U := fs args21 (fun a => [pre21 a]) res21
def args22 : ArgL (Ref × Unit) := (.cons (aEl .ref) .nil)
def pre22 (a : Ref × Unit) : Prop := True
noncomputable def res22 (a : Ref × Unit) : V U := .c (.int .i64 (Ref.kind a.1))
noncomputable def spec22 : Fs U := fs args22 (fun a => [pre22 a]) res22
def args59 : ArgL (Ref × Unit) := (.cons (aEl .ref) .nil)
def pre59 (a : Ref × Unit) : Prop := True
noncomputable def res59 (a : Ref × Unit) : V U := .c (.int .i64 (lenR a.1))
noncomputable def spec59 : Fs U := fs args59 (fun a => [pre59 a]) res59
def args23 : ArgL (Ref × Unit) := (.cons (aEl .ref) .nil)
def pre23 (a : Ref × Unit) : Prop := True
noncomputable def res23 (a : Ref × Unit) : V U := .c (.int .i64 (kidsR a.1))
noncomputable def spec23 : Fs U := fs args23 (fun a => [pre23 a]) res23
def args25 : ArgL (Ref × Int × Unit) := (.cons (aEl .ref) (.cons (aInt .i64) .nil))
def pre25 (a : Ref × Int × Unit) : Prop := okR a.1
noncomputable def res25 (a : Ref × Int × Unit) : V U := .c (.int .u64 (wordR a.1 a.2.1))
noncomputable def spec25 : Fs U := fs args25 (fun a => [pre25 a]) res25
def args68 : ArgL (Ref × Unit) := (.cons (aEl .ref) .nil)
def pre68 (a : Ref × Unit) : Prop := True
noncomputable def res68 (a : Ref × Unit) : V U := .tup [(false, [.int .i64 (if Ref.kind a.1 = 9 then Ref.data a.1 else 0)]), (false, [.int .i64 (if Ref.kind a.1 = 9 then Ref.kids a.1 else 0)])]
noncomputable def spec68 : Fs U := fs args68 (fun a => [pre68 a]) res68
def args61 : ArgL (Ref × Int × Unit) := (.cons (aEl .ref) (.cons (aInt .i64) .nil))
def pre61 (a : Ref × Int × Unit) : Prop := okR a.1 ∧ 2 ≤ Ref.kind a.1 ∧ Ref.kind a.1 ≤ 7 ∧ 0 ≤ a.2.1 ∧ a.2.1 < Ref.count a.1
noncomputable def res61 (a : Ref × Int × Unit) : V U := .c (.int .u64 (getW (List.drop (Int.toNat (Ref.at_ a.1)) (segAt (segO (Ref.a a.1)) (Ref.segment a.1))) (Ref.kind a.1 - 2) a.2.1))
noncomputable def spec61 : Fs U := fs args61 (fun a => [pre61 a]) res61
def args24 : ArgL (Ref × Int × Unit) := (.cons (aEl .ref) (.cons (aInt .i64) .nil))
def pre24 (a : Ref × Int × Unit) : Prop := okR a.1
noncomputable def res24 (a : Ref × Int × Unit) : V U := .tup [(true, [.po (U := U) .arena (Ref.a (liftX (Ref.a a.1) (kidX (segO (Ref.a a.1)) (unX a.1) a.2.1).1)), .int .i64 (Ref.kind (liftX (Ref.a a.1) (kidX (segO (Ref.a a.1)) (unX a.1) a.2.1).1)), .int .i64 (Ref.segment (liftX (Ref.a a.1) (kidX (segO (Ref.a a.1)) (unX a.1) a.2.1).1)), .int .i64 (Ref.at_ (liftX (Ref.a a.1) (kidX (segO (Ref.a a.1)) (unX a.1) a.2.1).1)), .int .i64 (Ref.data (liftX (Ref.a a.1) (kidX (segO (Ref.a a.1)) (unX a.1) a.2.1).1)), .int .i64 (Ref.kids (liftX (Ref.a a.1) (kidX (segO (Ref.a a.1)) (unX a.1) a.2.1).1)), .int .i64 (Ref.count (liftX (Ref.a a.1) (kidX (segO (Ref.a a.1)) (unX a.1) a.2.1).1)), .int .u64 (Ref.number (liftX (Ref.a a.1) (kidX (segO (Ref.a a.1)) (unX a.1) a.2.1).1))]), (false, [.int .i64 ((kidX (segO (Ref.a a.1)) (unX a.1) a.2.1).2)])]
noncomputable def spec24 : Fs U := fs args24 (fun a => [pre24 a]) res24
noncomputable def know64 : List (FuncId × Fs U) := [(62, spec62), (86, spec86)]
def lv64 : Lives U := fun i => match i with
  | 0 => ([(1, []), (2, []), (4, [])], [((.loc 2), []), ((.loc 4), [])])
  | 1 => ([(1, []), (2, []), (4, []), (6, [])], [((.loc 2), []), ((.loc 4), [])])
  | 2 => ([(1, []), (2, []), (4, []), (6, []), (8, [])], [((.loc 2), []), ((.loc 4), []), ((.loc 8), [])])
  | 3 => ([(2, []), (4, []), (8, []), (44, [])], [((.loc 2), []), ((.loc 4), []), ((.loc 8), [])])
  | 4 => ([(4, []), (5, [])], [((.loc 4), [])])
  | 5 => ([(2, []), (4, []), (8, [])], [((.loc 2), []), ((.loc 4), []), ((.loc 8), [])])
  | 6 => ([(2, []), (4, [])], [((.loc 2), []), ((.loc 4), [])])
  | 7 => ([(4, []), (5, [])], [((.loc 4), [])])
  | _ => ([], [])
noncomputable abbrev A64 (p : List Nat) := awp cfg (know know64) (drawOk cfg (know know64)) Try.f64.ntmps lv64 (cd Try.f64 p)
theorem vc64 (r : Ref) (n : Int) (Q : AExit → LSt U → Prop) (h : ∀ y_1, y_1 = (decP (if hasN (segO (Ref.a r)) (Ref.segment r) (Ref.at_ r) 1 then getS (segO (Ref.a r)) (Ref.segment r) (Ref.at_ r) else 0)) → ((pre62 ((Ref.a r), (Ref.segment r), (Ref.at_ r), ())) ∧ ((pre86 ((if hasN (segO (Ref.a r)) (Ref.segment r) (Ref.at_ r) 1 then getS (segO (Ref.a r)) (Ref.segment r) (Ref.at_ r) else 0), ())) ∧ ((Tr ((((if hasN (segO (Ref.a r)) (Ref.segment r) (Ref.at_ r) 1 then getS (segO (Ref.a r)) (Ref.segment r) (Ref.at_ r) else 0) : Int) != 0) = true)) ∧ (Tr ((((if hasN (segO (Ref.a r)) (Ref.segment r) (Ref.at_ r) 1 then getS (segO (Ref.a r)) (Ref.segment r) (Ref.at_ r) else 0) : Int) != 0) = true)) ∧ ((Tr ((((if hasN (segO (Ref.a r)) (Ref.segment r) (Ref.at_ r) 1 then getS (segO (Ref.a r)) (Ref.segment r) (Ref.at_ r) else 0) : Int) != 0) = true))) ∧ (Tr ((!(bif (((if hasN (segO (Ref.a r)) (Ref.segment r) (Ref.at_ r) 1 then getS (segO (Ref.a r)) (Ref.segment r) (Ref.at_ r) else 0) : Int) != 0) then (((Ptr.kind y_1) : Int) != 1) else false)) = true)) ∧ (Tr ((!(bif (((if hasN (segO (Ref.a r)) (Ref.segment r) (Ref.at_ r) 1 then getS (segO (Ref.a r)) (Ref.segment r) (Ref.at_ r) else 0) : Int) != 0) then (((Ptr.kind y_1) : Int) != 1) else false)) = true)) ∧ (((bif (((if hasN (segO (Ref.a r)) (Ref.segment r) (Ref.at_ r) 1 then getS (segO (Ref.a r)) (Ref.segment r) (Ref.at_ r) else 0) : Int) != 0) then (((Ptr.kind y_1) : Int) != 1) else false) = false → (!(bif (((if hasN (segO (Ref.a r)) (Ref.segment r) (Ref.at_ r) 1 then getS (segO (Ref.a r)) (Ref.segment r) (Ref.at_ r) else 0) : Int) != 0) then (((Ptr.kind y_1) : Int) != 1) else false)) = true)) ∧ (Tr ((!(bif (bif (((if hasN (segO (Ref.a r)) (Ref.segment r) (Ref.at_ r) 1 then getS (segO (Ref.a r)) (Ref.segment r) (Ref.at_ r) else 0) : Int) != 0) then (((Ptr.kind y_1) : Int) != 1) else false) then true else (decide (((Ptr.off y_1) : Int) < 0)))) = true)) ∧ (Tr ((!(bif (bif (((if hasN (segO (Ref.a r)) (Ref.segment r) (Ref.at_ r) 1 then getS (segO (Ref.a r)) (Ref.segment r) (Ref.at_ r) else 0) : Int) != 0) then (((Ptr.kind y_1) : Int) != 1) else false) then true else (decide (((Ptr.off y_1) : Int) < 0)))) = true)) ∧ (Tr ((!(bif (bif (((if hasN (segO (Ref.a r)) (Ref.segment r) (Ref.at_ r) 1 then getS (segO (Ref.a r)) (Ref.segment r) (Ref.at_ r) else 0) : Int) != 0) then (((Ptr.kind y_1) : Int) != 1) else false) then true else (decide (((Ptr.off y_1) : Int) < 0)))) = true)) ∧ (Tr ((!(bif (bif (((if hasN (segO (Ref.a r)) (Ref.segment r) (Ref.at_ r) 1 then getS (segO (Ref.a r)) (Ref.segment r) (Ref.at_ r) else 0) : Int) != 0) then (((Ptr.kind y_1) : Int) != 1) else false) then true else (decide (((Ptr.off y_1) : Int) < 0)))) = true)) ∧ (Tr ((!(bif (bif (((if hasN (segO (Ref.a r)) (Ref.segment r) (Ref.at_ r) 1 then getS (segO (Ref.a r)) (Ref.segment r) (Ref.at_ r) else 0) : Int) != 0) then (((Ptr.kind y_1) : Int) != 1) else false) then true else (decide (((Ptr.off y_1) : Int) < 0)))) = true)) ∧ ((!(bif (bif (((if hasN (segO (Ref.a r)) (Ref.segment r) (Ref.at_ r) 1 then getS (segO (Ref.a r)) (Ref.segment r) (Ref.at_ r) else 0) : Int) != 0) then (((Ptr.kind y_1) : Int) != 1) else false) then true else (decide (((Ptr.off y_1) : Int) < 0)))) = true → InR (((Ptr.data y_1) : Int) + (Ptr.ptrs y_1))) ∧ (Tr ((!(bif (bif (((if hasN (segO (Ref.a r)) (Ref.segment r) (Ref.at_ r) 1 then getS (segO (Ref.a r)) (Ref.segment r) (Ref.at_ r) else 0) : Int) != 0) then (((Ptr.kind y_1) : Int) != 1) else false) then true else (decide (((Ptr.off y_1) : Int) < 0)))) = true)) ∧ (Tr ((!(bif (bif (((if hasN (segO (Ref.a r)) (Ref.segment r) (Ref.at_ r) 1 then getS (segO (Ref.a r)) (Ref.segment r) (Ref.at_ r) else 0) : Int) != 0) then (((Ptr.kind y_1) : Int) != 1) else false) then true else (decide (((Ptr.off y_1) : Int) < 0)))) = true)) ∧ ((!(bif (bif (((if hasN (segO (Ref.a r)) (Ref.segment r) (Ref.at_ r) 1 then getS (segO (Ref.a r)) (Ref.segment r) (Ref.at_ r) else 0) : Int) != 0) then (((Ptr.kind y_1) : Int) != 1) else false) then true else (decide (((Ptr.off y_1) : Int) < 0)))) = true → InR (((Ptr.off y_1) : Int) * (((Ptr.data y_1) : Int) + (Ptr.ptrs y_1)))) ∧ (Tr ((!(bif (bif (((if hasN (segO (Ref.a r)) (Ref.segment r) (Ref.at_ r) 1 then getS (segO (Ref.a r)) (Ref.segment r) (Ref.at_ r) else 0) : Int) != 0) then (((Ptr.kind y_1) : Int) != 1) else false) then true else (decide (((Ptr.off y_1) : Int) < 0)))) = true)) ∧ (Tr ((!(bif (bif (((if hasN (segO (Ref.a r)) (Ref.segment r) (Ref.at_ r) 1 then getS (segO (Ref.a r)) (Ref.segment r) (Ref.at_ r) else 0) : Int) != 0) then (((Ptr.kind y_1) : Int) != 1) else false) then true else (decide (((Ptr.off y_1) : Int) < 0)))) = true)) ∧ (((bif (bif (((if hasN (segO (Ref.a r)) (Ref.segment r) (Ref.at_ r) 1 then getS (segO (Ref.a r)) (Ref.segment r) (Ref.at_ r) else 0) : Int) != 0) then (((Ptr.kind y_1) : Int) != 1) else false) then true else (decide (((Ptr.off y_1) : Int) < 0))) = false → (!(bif (bif (((if hasN (segO (Ref.a r)) (Ref.segment r) (Ref.at_ r) 1 then getS (segO (Ref.a r)) (Ref.segment r) (Ref.at_ r) else 0) : Int) != 0) then (((Ptr.kind y_1) : Int) != 1) else false) then true else (decide (((Ptr.off y_1) : Int) < 0)))) = true)) ∧ (((bif (bif (bif (((if hasN (segO (Ref.a r)) (Ref.segment r) (Ref.at_ r) 1 then getS (segO (Ref.a r)) (Ref.segment r) (Ref.at_ r) else 0) : Int) != 0) then (((Ptr.kind y_1) : Int) != 1) else false) then true else (decide (((Ptr.off y_1) : Int) < 0))) then true else (decide ((n : Int) < (((Ptr.off y_1) : Int) * (((Ptr.data y_1) : Int) + (Ptr.ptrs y_1)))))) = true → (Q .ret (⟨[(4, .ptr (.loc 4) 0), (5, .c (.int .i64 8))], [((.loc 4), [.nilp, .int .i64 0, .int .i64 0, .int .i64 0, .int .i64 0, .int .i64 0, .int .i64 0, .int .u64 0])], []⟩ : LSt U))) ∧ ((bif (bif (bif (((if hasN (segO (Ref.a r)) (Ref.segment r) (Ref.at_ r) 1 then getS (segO (Ref.a r)) (Ref.segment r) (Ref.at_ r) else 0) : Int) != 0) then (((Ptr.kind y_1) : Int) != 1) else false) then true else (decide (((Ptr.off y_1) : Int) < 0))) then true else (decide ((n : Int) < (((Ptr.off y_1) : Int) * (((Ptr.data y_1) : Int) + (Ptr.ptrs y_1)))))) = false → (InR (((Ref.at_ r) : Int) + 1)) ∧ (((Q .ret (⟨[(4, .ptr (.loc 4) 0), (5, .c (.int .i64 0))], [((.loc 4), [.po (U := U) .arena (Ref.a r), .int .i64 9, .int .i64 (Ref.segment r), .int .i64 (((Ref.at_ r) : Int) + 1), .int .i64 (Ptr.data y_1), .int .i64 (Ptr.ptrs y_1), .int .i64 (Ptr.off y_1), .int .u64 (Ref.number r)])], []⟩ : LSt U)))))))))) :
    A64 [] (⟨[(0, .agg [.po (U := U) .arena (Ref.a r), .int .i64 (Ref.kind r), .int .i64 (Ref.segment r), .int .i64 (Ref.at_ r), .int .i64 (Ref.data r), .int .i64 (Ref.kids r), .int .i64 (Ref.count r), .int .u64 (Ref.number r)]), (1, .c (.int .i64 n))], [], []⟩ : LSt U) Q :=
  Eq.mpr (by kernel_rfl) (h _ rfl)
def Body64 (r : Ref) (n : Int)  : Prop := awp cfg (know (know64)) (drawOk cfg (know (know64))) Try.f64.ntmps lv64 (cd Try.f64 []) (entry (args64.can (r, n, ())) []) (EndsQ cfg Try.f64.ntmps Try.f64.results.toList (res64 (r, n, ())) [])
theorem make64 (c62 : Contract Try.prog cfg 62 spec62) (c86 : Contract Try.prog cfg 86 spec86) (hb : ∀ (r : Ref) (n : Int) (_ : Unit), pre64 (r, n, ()) → Body64 r n) : Contract Try.prog cfg 64 spec64 :=
  contract_flat (l := [(62, spec62), (86, spec86)]) cfgOk rfl (⟨c62, c86, trivial⟩) lv64 Try.func64 rfl rfl 2 (fun _ => rfl) (by decide) (fun ⟨r, n, _⟩ => hb r n ())
noncomputable def know26 : List (FuncId × Fs U) := [(63, spec63), (64, spec64)]
def lv26 : Lives U := fun i => match i with
  | 0 => ([(0, []), (1, []), (2, []), (6, [])], [((.loc 6), [])])
  | 1 => ([(0, []), (6, []), (8, []), (9, [])], [((.loc 6), []), ((.loc 8), [])])
  | 2 => ([(0, []), (6, []), (8, []), (9, []), (25, [])], [((.loc 6), []), ((.loc 8), [])])
  | 3 => ([(6, []), (7, [])], [((.loc 6), [])])
  | 4 => ([(6, []), (8, []), (10, [])], [((.loc 6), []), ((.loc 8), []), ((.loc 10), [])])
  | 5 => ([(6, []), (7, [])], [((.loc 6), [])])
  | 6 => ([(6, []), (8, []), (10, []), (41, [])], [((.loc 6), []), ((.loc 8), []), ((.loc 10), [])])
  | 7 => ([(6, []), (10, [])], [((.loc 6), []), ((.loc 10), [])])
  | 8 => ([(6, []), (8, []), (10, []), (55, [])], [((.loc 6), []), ((.loc 8), []), ((.loc 10), [])])
  | 9 => ([(6, []), (10, [])], [((.loc 6), []), ((.loc 10), [])])
  | 10 => ([(6, []), (8, []), (10, []), (69, [])], [((.loc 6), []), ((.loc 8), []), ((.loc 10), [])])
  | 11 => ([(6, []), (10, [])], [((.loc 6), []), ((.loc 10), [])])
  | 12 => ([(6, []), (7, [])], [((.loc 6), [])])
  | _ => ([], [])
noncomputable def head26_0 (a : Option Arena) (s : Int) (at_ : Int) (ml10_1 : Int) (ml10_4 : Int) (ml10_5 : Int) (ml10_6 : Int) : LSt U := (⟨[(6, .ptr (.loc 6) 0), (10, .ptr (.loc 10) 0)], [((.loc 6), [.nilp, .int .i64 0, .int .i64 0, .int .i64 0, .int .i64 0, .int .i64 0, .int .i64 0, .int .u64 0]), ((.loc 10), [.po (U := U) .arena a, .int .i64 ml10_1, .int .i64 (Loc.segment ((follow (segO a) s at_).1)), .int .i64 (Loc.at_ ((follow (segO a) s at_).1)), .int .i64 ml10_4, .int .i64 ml10_5, .int .i64 ml10_6, .int .u64 0])], []⟩ : LSt U)
noncomputable abbrev A26 (p : List Nat) := awp cfg (know know26) (drawOk cfg (know know26)) Try.f26.ntmps lv26 (cd Try.f26 p)
theorem vc26 (a : Option Arena) (s : Int) (at_ : Int) (Q : AExit → LSt U → Prop) (h : ∀ y_1, y_1 = (Ref.mk a 0 (Loc.segment ((follow (segO a) s at_).1)) (Loc.at_ ((follow (segO a) s at_).1)) 0 0 0 0) → ∀ y_2, y_2 = (compX (segO (Ref.a y_1)) (Ref.segment y_1) (Ref.at_ y_1) (Ptr.count (Loc.p ((follow (segO a) s at_).1)))) → ((pre63 (a, s, at_, ())) ∧ ((Tr ((!((((follow (segO a) s at_).2) : Int) != 0)) = true)) ∧ (Tr ((!((((follow (segO a) s at_).2) : Int) != 0)) = true)) ∧ (Tr ((!((((follow (segO a) s at_).2) : Int) != 0)) = true)) ∧ ((((((follow (segO a) s at_).2) : Int) != 0) = false → (!((((follow (segO a) s at_).2) : Int) != 0)) = true)) ∧ (((bif ((((follow (segO a) s at_).2) : Int) != 0) then true else (((Ptr.kind (Loc.p ((follow (segO a) s at_).1))) : Int) == 0)) = true → (Q .ret (⟨[(6, .ptr (.loc 6) 0), (7, .c (.int .i64 ((follow (segO a) s at_).2)))], [((.loc 6), [.nilp, .int .i64 0, .int .i64 0, .int .i64 0, .int .i64 0, .int .i64 0, .int .i64 0, .int .u64 0])], []⟩ : LSt U))) ∧ ((bif ((((follow (segO a) s at_).2) : Int) != 0) then true else (((Ptr.kind (Loc.p ((follow (segO a) s at_).1))) : Int) == 0)) = false → ((((((Ptr.kind (Loc.p ((follow (segO a) s at_).1))) : Int) == 1) = true → (A26 [1, 1, 1, 1, 1] (head26_0 a s at_ 1 (Ptr.data (Loc.p ((follow (segO a) s at_).1))) (Ptr.ptrs (Loc.p ((follow (segO a) s at_).1))) 0) Q)) ∧ ((((Ptr.kind (Loc.p ((follow (segO a) s at_).1))) : Int) == 1) = false → (((decide (((Ptr.code (Loc.p ((follow (segO a) s at_).1))) : Int) < 6)) = true → (InR ((2 : Int) + (Ptr.code (Loc.p ((follow (segO a) s at_).1))))) ∧ (A26 [1, 1, 1, 1, 1] (head26_0 a s at_ ((2 : Int) + (Ptr.code (Loc.p ((follow (segO a) s at_).1)))) 0 0 (Ptr.count (Loc.p ((follow (segO a) s at_).1)))) Q)) ∧ ((decide (((Ptr.code (Loc.p ((follow (segO a) s at_).1))) : Int) < 6)) = false → (((((Ptr.code (Loc.p ((follow (segO a) s at_).1))) : Int) == 6) = true → (A26 [1, 1, 1, 1, 1] (head26_0 a s at_ 8 0 0 (Ptr.count (Loc.p ((follow (segO a) s at_).1)))) Q)) ∧ ((((Ptr.code (Loc.p ((follow (segO a) s at_).1))) : Int) == 6) = false → (pre64 (y_1, (Ptr.count (Loc.p ((follow (segO a) s at_).1))), ())) ∧ (Q .ret (⟨[(6, .ptr (.loc 6) 0), (7, .c (.int .i64 (y_2.2)))], [((.loc 6), [.po (U := U) .arena (Ref.a (liftX (Ref.a y_1) y_2.1)), .int .i64 (Ref.kind (liftX (Ref.a y_1) y_2.1)), .int .i64 (Ref.segment (liftX (Ref.a y_1) y_2.1)), .int .i64 (Ref.at_ (liftX (Ref.a y_1) y_2.1)), .int .i64 (Ref.data (liftX (Ref.a y_1) y_2.1)), .int .i64 (Ref.kids (liftX (Ref.a y_1) y_2.1)), .int .i64 (Ref.count (liftX (Ref.a y_1) y_2.1)), .int .u64 (Ref.number (liftX (Ref.a y_1) y_2.1))])], []⟩ : LSt U)))))))))))))) :
    A26 [] (⟨[(0, .c (.po (U := U) .arena a)), (1, .c (.int .i64 s)), (2, .c (.int .i64 at_))], [], []⟩ : LSt U) Q :=
  Eq.mpr (by kernel_rfl) (h _ rfl _ rfl)
theorem vc26_c0 (a : Option Arena) (s : Int) (at_ : Int) (ml10_1 : Int) (ml10_4 : Int) (ml10_5 : Int) (ml10_6 : Int) (Q : AExit → LSt U → Prop) (h : (Q .ret (⟨[(6, .ptr (.loc 6) 0), (7, .c (.int .i64 0))], [((.loc 6), [.po (U := U) .arena a, .int .i64 ml10_1, .int .i64 (Loc.segment ((follow (segO a) s at_).1)), .int .i64 (Loc.at_ ((follow (segO a) s at_).1)), .int .i64 ml10_4, .int .i64 ml10_5, .int .i64 ml10_6, .int .u64 0])], []⟩ : LSt U))) :
    A26 [1, 1, 1, 1, 1] (head26_0 a s at_ ml10_1 ml10_4 ml10_5 ml10_6) Q :=
  Eq.mpr (by kernel_rfl) h
def Body26 (a : Option Arena) (s : Int) (at_ : Int)  : Prop := awp cfg (know (know26)) (drawOk cfg (know (know26))) Try.f26.ntmps lv26 (cd Try.f26 []) (entry (args26.can (a, s, at_, ())) []) (EndsQ cfg Try.f26.ntmps Try.f26.results.toList (res26 (a, s, at_, ())) [])
theorem make26 (c63 : Contract Try.prog cfg 63 spec63) (c64 : Contract Try.prog cfg 64 spec64) (hb : ∀ (a : Option Arena) (s : Int) (at_ : Int) (_ : Unit), pre26 (a, s, at_, ()) → Body26 a s at_) : Contract Try.prog cfg 26 spec26 :=
  contract_flat (l := [(63, spec63), (64, spec64)]) cfgOk rfl (⟨c63, c64, trivial⟩) lv26 Try.func26 rfl rfl 3 (fun _ => rfl) (by decide) (fun ⟨a, s, at_, _⟩ => hb a s at_ ())
noncomputable def know21 : List (FuncId × Fs U) := [(26, spec26)]
def lv21 : Lives U := fun i => match i with
  | 0 => ([(0, []), (2, [])], [((.loc 2), [])])
  | 1 => ([(2, []), (3, [])], [((.loc 2), [])])
  | _ => ([], [])
noncomputable abbrev A21 (p : List Nat) := awp cfg (know know21) (drawOk cfg (know know21)) Try.f21.ntmps lv21 (cd Try.f21 p)
theorem vc21 (a : Option Arena) (Q : AExit → LSt U → Prop) (h : ((pre26 (a, 0, 0, ())) ∧ (Q .ret (⟨[(2, .ptr (.loc 2) 0), (3, .c (.int .i64 ((refAt (segO a) 0 0).2)))], [((.loc 2), [.po (U := U) .arena (Ref.a (liftX a (refAt (segO a) 0 0).1)), .int .i64 (Ref.kind (liftX a (refAt (segO a) 0 0).1)), .int .i64 (Ref.segment (liftX a (refAt (segO a) 0 0).1)), .int .i64 (Ref.at_ (liftX a (refAt (segO a) 0 0).1)), .int .i64 (Ref.data (liftX a (refAt (segO a) 0 0).1)), .int .i64 (Ref.kids (liftX a (refAt (segO a) 0 0).1)), .int .i64 (Ref.count (liftX a (refAt (segO a) 0 0).1)), .int .u64 (Ref.number (liftX a (refAt (segO a) 0 0).1))])], []⟩ : LSt U)))) :
    A21 [] (⟨[(0, .c (.po (U := U) .arena a))], [], []⟩ : LSt U) Q :=
  Eq.mpr (by kernel_rfl) h
def Body21 (a : Option Arena)  : Prop := awp cfg (know (know21)) (drawOk cfg (know (know21))) Try.f21.ntmps lv21 (cd Try.f21 []) (entry (args21.can (a, ())) []) (EndsQ cfg Try.f21.ntmps Try.f21.results.toList (res21 (a, ())) [])
theorem make21 (c26 : Contract Try.prog cfg 26 spec26) (hb : ∀ (a : Option Arena) (_ : Unit), pre21 (a, ()) → Body21 a) : Contract Try.prog cfg 21 spec21 :=
  contract_flat (l := [(26, spec26)]) cfgOk rfl (⟨c26, trivial⟩) lv21 Try.func21 rfl rfl 1 (fun _ => rfl) (by decide) (fun ⟨a, _⟩ => hb a ())
noncomputable def know22 : List (FuncId × Fs U) := []
def lv22 : Lives U := fun i => match i with
  | 0 => ([(1, [])], [((.loc 1), [])])
  | 1 => ([(2, [])], [])
  | _ => ([], [])
noncomputable abbrev A22 (p : List Nat) := awp cfg (know know22) (drawOk cfg (know know22)) Try.f22.ntmps lv22 (cd Try.f22 p)
theorem vc22 (r : Ref) (Q : AExit → LSt U → Prop) (h : ((Q .ret (⟨[(2, .c (.int .i64 (Ref.kind r)))], [], []⟩ : LSt U)))) :
    A22 [] (⟨[(0, .agg [.po (U := U) .arena (Ref.a r), .int .i64 (Ref.kind r), .int .i64 (Ref.segment r), .int .i64 (Ref.at_ r), .int .i64 (Ref.data r), .int .i64 (Ref.kids r), .int .i64 (Ref.count r), .int .u64 (Ref.number r)])], [], []⟩ : LSt U) Q :=
  Eq.mpr (by kernel_rfl) h
def Body22 (r : Ref)  : Prop := awp cfg (know (know22)) (drawOk cfg (know (know22))) Try.f22.ntmps lv22 (cd Try.f22 []) (entry (args22.can (r, ())) []) (EndsQ cfg Try.f22.ntmps Try.f22.results.toList (res22 (r, ())) [])
theorem make22 (hb : ∀ (r : Ref) (_ : Unit), pre22 (r, ()) → Body22 r) : Contract Try.prog cfg 22 spec22 :=
  contract_flat (l := []) cfgOk rfl (trivial) lv22 Try.func22 rfl rfl 1 (fun _ => rfl) (by decide) (fun ⟨r, _⟩ => hb r ())
noncomputable def know59 : List (FuncId × Fs U) := []
def lv59 : Lives U := fun i => match i with
  | 0 => ([(1, [])], [((.loc 1), [])])
  | 1 => ([(1, []), (4, [])], [((.loc 1), [])])
  | 2 => ([(1, []), (4, []), (5, [])], [((.loc 1), [])])
  | 3 => ([(2, [])], [])
  | 4 => ([(9, [])], [])
  | 5 => ([(2, [])], [])
  | 6 => ([(2, [])], [])
  | _ => ([], [])
noncomputable abbrev A59 (p : List Nat) := awp cfg (know know59) (drawOk cfg (know know59)) Try.f59.ntmps lv59 (cd Try.f59 p)
theorem vc59 (r : Ref) (Q : AExit → LSt U → Prop) (h : (((((((Ref.kind r) : Int) == 1) = true → (Q .ret (⟨[(2, .c (.int .i64 (Ref.data r)))], [], []⟩ : LSt U))) ∧ ((((Ref.kind r) : Int) == 1) = false → (((((Ref.kind r) : Int) == 10) = true → (Q .ret (⟨[(2, .c (.int .i64 1))], [], []⟩ : LSt U))) ∧ ((((Ref.kind r) : Int) == 10) = false → (Q .ret (⟨[(2, .c (.int .i64 0))], [], []⟩ : LSt U))))))))) :
    A59 [] (⟨[(0, .agg [.po (U := U) .arena (Ref.a r), .int .i64 (Ref.kind r), .int .i64 (Ref.segment r), .int .i64 (Ref.at_ r), .int .i64 (Ref.data r), .int .i64 (Ref.kids r), .int .i64 (Ref.count r), .int .u64 (Ref.number r)])], [], []⟩ : LSt U) Q :=
  Eq.mpr (by kernel_rfl) h
def Body59 (r : Ref)  : Prop := awp cfg (know (know59)) (drawOk cfg (know (know59))) Try.f59.ntmps lv59 (cd Try.f59 []) (entry (args59.can (r, ())) []) (EndsQ cfg Try.f59.ntmps Try.f59.results.toList (res59 (r, ())) [])
theorem make59 (hb : ∀ (r : Ref) (_ : Unit), pre59 (r, ()) → Body59 r) : Contract Try.prog cfg 59 spec59 :=
  contract_flat (l := []) cfgOk rfl (trivial) lv59 Try.func59 rfl rfl 1 (fun _ => rfl) (by decide) (fun ⟨r, _⟩ => hb r ())
noncomputable def know23 : List (FuncId × Fs U) := []
def lv23 : Lives U := fun i => match i with
  | 0 => ([(1, [])], [((.loc 1), [])])
  | 1 => ([(1, []), (5, [])], [((.loc 1), [])])
  | 2 => ([(2, [])], [])
  | 3 => ([(2, [])], [])
  | _ => ([], [])
noncomputable abbrev A23 (p : List Nat) := awp cfg (know know23) (drawOk cfg (know know23)) Try.f23.ntmps lv23 (cd Try.f23 p)
theorem vc23 (r : Ref) (Q : AExit → LSt U → Prop) (h : ((((((Ref.kind r) : Int) == 1) = true → (Q .ret (⟨[(2, .c (.int .i64 (Ref.kids r)))], [], []⟩ : LSt U))) ∧ ((((Ref.kind r) : Int) == 1) = false → (Q .ret (⟨[(2, .c (.int .i64 (Ref.count r)))], [], []⟩ : LSt U)))))) :
    A23 [] (⟨[(0, .agg [.po (U := U) .arena (Ref.a r), .int .i64 (Ref.kind r), .int .i64 (Ref.segment r), .int .i64 (Ref.at_ r), .int .i64 (Ref.data r), .int .i64 (Ref.kids r), .int .i64 (Ref.count r), .int .u64 (Ref.number r)])], [], []⟩ : LSt U) Q :=
  Eq.mpr (by kernel_rfl) h
def Body23 (r : Ref)  : Prop := awp cfg (know (know23)) (drawOk cfg (know (know23))) Try.f23.ntmps lv23 (cd Try.f23 []) (entry (args23.can (r, ())) []) (EndsQ cfg Try.f23.ntmps Try.f23.results.toList (res23 (r, ())) [])
theorem make23 (hb : ∀ (r : Ref) (_ : Unit), pre23 (r, ()) → Body23 r) : Contract Try.prog cfg 23 spec23 :=
  contract_flat (l := []) cfgOk rfl (trivial) lv23 Try.func23 rfl rfl 1 (fun _ => rfl) (by decide) (fun ⟨r, _⟩ => hb r ())
noncomputable def know25 : List (FuncId × Fs U) := [(59, spec59), (62, spec62)]
def lv25 : Lives U := fun i => match i with
  | 0 => ([(1, []), (2, [])], [((.loc 2), [])])
  | 1 => ([(1, []), (2, []), (14, [])], [((.loc 2), [])])
  | 2 => ([(4, [])], [])
  | 3 => ([(1, []), (2, []), (17, [])], [((.loc 2), [])])
  | 4 => ([(4, [])], [])
  | 5 => ([(5, [])], [])
  | 6 => ([(4, [])], [])
  | _ => ([], [])
noncomputable abbrev A25 (p : List Nat) := awp cfg (know know25) (drawOk cfg (know know25)) Try.f25.ntmps lv25 (cd Try.f25 p)
theorem vc25 (r : Ref) (i : Int) (Q : AExit → LSt U → Prop) (h : ((Tr ((!(decide ((i : Int) < 0))) = true)) ∧ ((!(decide ((i : Int) < 0))) = true → pre59 ((Ref.mk (Ref.a r) (Ref.kind r) (Ref.segment r) (Ref.at_ r) (Ref.data r) (Ref.kids r) (Ref.count r) (Ref.number r)), ())) ∧ (Tr ((!(decide ((i : Int) < 0))) = true)) ∧ (Tr ((!(decide ((i : Int) < 0))) = true)) ∧ (((decide ((i : Int) < 0)) = false → (!(decide ((i : Int) < 0))) = true)) ∧ (((bif (decide ((i : Int) < 0)) then true else (decide (((lenR (Ref.mk (Ref.a r) (Ref.kind r) (Ref.segment r) (Ref.at_ r) (Ref.data r) (Ref.kids r) (Ref.count r) (Ref.number r))) : Int) ≤ i))) = true → (Q .ret (⟨[(4, .c (.int .u64 0))], [], []⟩ : LSt U))) ∧ ((bif (decide ((i : Int) < 0)) then true else (decide (((lenR (Ref.mk (Ref.a r) (Ref.kind r) (Ref.segment r) (Ref.at_ r) (Ref.data r) (Ref.kids r) (Ref.count r) (Ref.number r))) : Int) ≤ i))) = false → (((((Ref.kind r) : Int) == 10) = true → (Q .ret (⟨[(4, .c (.int .u64 (Ref.number r)))], [], []⟩ : LSt U))) ∧ ((((Ref.kind r) : Int) == 10) = false → (InR (((Ref.at_ r) : Int) + i)) ∧ (pre62 ((Ref.a r), (Ref.segment r), (((Ref.at_ r) : Int) + i), ())) ∧ ((Q .ret (⟨[(4, .c (.int .u64 (if hasN (segO (Ref.a r)) (Ref.segment r) (((Ref.at_ r) : Int) + i) 1 then getS (segO (Ref.a r)) (Ref.segment r) (((Ref.at_ r) : Int) + i) else 0)))], [], []⟩ : LSt U))))))))) :
    A25 [] (⟨[(0, .agg [.po (U := U) .arena (Ref.a r), .int .i64 (Ref.kind r), .int .i64 (Ref.segment r), .int .i64 (Ref.at_ r), .int .i64 (Ref.data r), .int .i64 (Ref.kids r), .int .i64 (Ref.count r), .int .u64 (Ref.number r)]), (1, .c (.int .i64 i))], [], []⟩ : LSt U) Q :=
  Eq.mpr (by kernel_rfl) h
def Body25 (r : Ref) (i : Int)  : Prop := awp cfg (know (know25)) (drawOk cfg (know (know25))) Try.f25.ntmps lv25 (cd Try.f25 []) (entry (args25.can (r, i, ())) []) (EndsQ cfg Try.f25.ntmps Try.f25.results.toList (res25 (r, i, ())) [])
theorem make25 (c59 : Contract Try.prog cfg 59 spec59) (c62 : Contract Try.prog cfg 62 spec62) (hb : ∀ (r : Ref) (i : Int) (_ : Unit), pre25 (r, i, ()) → Body25 r i) : Contract Try.prog cfg 25 spec25 :=
  contract_flat (l := [(59, spec59), (62, spec62)]) cfgOk rfl (⟨c59, c62, trivial⟩) lv25 Try.func25 rfl rfl 2 (fun _ => rfl) (by decide) (fun ⟨r, i, _⟩ => hb r i ())
noncomputable def know68 : List (FuncId × Fs U) := []
def lv68 : Lives U := fun i => match i with
  | 0 => ([(1, [])], [((.loc 1), [])])
  | 1 => ([(1, []), (6, [])], [((.loc 1), [])])
  | 2 => ([(2, []), (3, [])], [])
  | 3 => ([(2, []), (3, [])], [])
  | _ => ([], [])
noncomputable abbrev A68 (p : List Nat) := awp cfg (know know68) (drawOk cfg (know know68)) Try.f68.ntmps lv68 (cd Try.f68 p)
theorem vc68 (r : Ref) (Q : AExit → LSt U → Prop) (h : ((((((Ref.kind r) : Int) != 9) = true → (Q .ret (⟨[(2, .c (.int .i64 0)), (3, .c (.int .i64 0))], [], []⟩ : LSt U))) ∧ ((((Ref.kind r) : Int) != 9) = false → (Q .ret (⟨[(2, .c (.int .i64 (Ref.data r))), (3, .c (.int .i64 (Ref.kids r)))], [], []⟩ : LSt U)))))) :
    A68 [] (⟨[(0, .agg [.po (U := U) .arena (Ref.a r), .int .i64 (Ref.kind r), .int .i64 (Ref.segment r), .int .i64 (Ref.at_ r), .int .i64 (Ref.data r), .int .i64 (Ref.kids r), .int .i64 (Ref.count r), .int .u64 (Ref.number r)])], [], []⟩ : LSt U) Q :=
  Eq.mpr (by kernel_rfl) h
def Body68 (r : Ref)  : Prop := awp cfg (know (know68)) (drawOk cfg (know (know68))) Try.f68.ntmps lv68 (cd Try.f68 []) (entry (args68.can (r, ())) []) (EndsQ cfg Try.f68.ntmps Try.f68.results.toList (res68 (r, ())) [])
theorem make68 (hb : ∀ (r : Ref) (_ : Unit), pre68 (r, ()) → Body68 r) : Contract Try.prog cfg 68 spec68 :=
  contract_flat (l := []) cfgOk rfl (trivial) lv68 Try.func68 rfl rfl 1 (fun _ => rfl) (by decide) (fun ⟨r, _⟩ => hb r ())
noncomputable def know61 : List (FuncId × Fs U) := [(83, spec83), (62, spec62), (84, spec84)]
def lv61 : Lives U := fun i => match i with
  | 0 => ([(1, []), (2, [])], [((.loc 2), [])])
  | 1 => ([(1, []), (2, []), (5, [])], [((.loc 2), [])])
  | 2 => ([(1, []), (2, []), (5, []), (6, [])], [((.loc 2), [])])
  | 3 => ([(1, []), (2, []), (5, []), (6, []), (20, [])], [((.loc 2), [])])
  | 4 => ([(4, [])], [])
  | 5 => ([(1, []), (2, []), (5, []), (8, [])], [((.loc 2), [])])
  | 6 => ([(1, []), (5, []), (8, []), (9, [])], [])
  | 7 => ([(4, [])], [])
  | _ => ([], [])
noncomputable abbrev A61 (p : List Nat) := awp cfg (know know61) (drawOk cfg (know know61)) Try.f61.ntmps lv61 (cd Try.f61 p)
theorem vc61 (r : Ref) (i : Int) (Q : AExit → LSt U → Prop) (h : ∀ y_1, y_1 = (Int.tdiv 64 (if wd (((Ref.kind r) : Int) - 2) < 0 then 0 else wd (((Ref.kind r) : Int) - 2))) → ((InR (((Ref.kind r) : Int) - 2)) ∧ ((pre83 ((((Ref.kind r) : Int) - 2), ())) ∧ ((((((if wd (((Ref.kind r) : Int) - 2) < 0 then 0 else wd (((Ref.kind r) : Int) - 2)) : Int) == 0) = true → (Q .ret (⟨[(4, .c (.int .u64 0))], [], []⟩ : LSt U))) ∧ ((((if wd (((Ref.kind r) : Int) - 2) < 0 then 0 else wd (((Ref.kind r) : Int) - 2)) : Int) == 0) = false → (((if wd (((Ref.kind r) : Int) - 2) < 0 then 0 else wd (((Ref.kind r) : Int) - 2)) : Int) ≠ 0) ∧ ((((IntKind.wrap .i64 y_1) : Int) ≠ 0) ∧ (InR (((Ref.at_ r) : Int) + (IntKind.wrap .i64 (Int.tdiv i (IntKind.wrap .i64 y_1))))) ∧ (pre62 ((Ref.a r), (Ref.segment r), (((Ref.at_ r) : Int) + (IntKind.wrap .i64 (Int.tdiv i (IntKind.wrap .i64 y_1)))), ())) ∧ ((((IntKind.wrap .i64 y_1) : Int) ≠ 0) ∧ (pre84 (([if hasN (segO (Ref.a r)) (Ref.segment r) (((Ref.at_ r) : Int) + (IntKind.wrap .i64 (Int.tdiv i (IntKind.wrap .i64 y_1)))) 1 then getS (segO (Ref.a r)) (Ref.segment r) (((Ref.at_ r) : Int) + (IntKind.wrap .i64 (Int.tdiv i (IntKind.wrap .i64 y_1)))) else 0]), (((Ref.kind r) : Int) - 2), (Int.tmod i (IntKind.wrap .i64 y_1)), ())) ∧ (Q .ret (⟨[(4, .c (.int .u64 (getW ([if hasN (segO (Ref.a r)) (Ref.segment r) (((Ref.at_ r) : Int) + (IntKind.wrap .i64 (Int.tdiv i (IntKind.wrap .i64 y_1)))) 1 then getS (segO (Ref.a r)) (Ref.segment r) (((Ref.at_ r) : Int) + (IntKind.wrap .i64 (Int.tdiv i (IntKind.wrap .i64 y_1)))) else 0]) (((Ref.kind r) : Int) - 2) (Int.tmod i (IntKind.wrap .i64 y_1)))))], [], []⟩ : LSt U)))))))))) :
    A61 [] (⟨[(0, .agg [.po (U := U) .arena (Ref.a r), .int .i64 (Ref.kind r), .int .i64 (Ref.segment r), .int .i64 (Ref.at_ r), .int .i64 (Ref.data r), .int .i64 (Ref.kids r), .int .i64 (Ref.count r), .int .u64 (Ref.number r)]), (1, .c (.int .i64 i))], [], []⟩ : LSt U) Q :=
  Eq.mpr (by kernel_rfl) (h _ rfl)
def Body61 (r : Ref) (i : Int)  : Prop := awp cfg (know (know61)) (drawOk cfg (know (know61))) Try.f61.ntmps lv61 (cd Try.f61 []) (entry (args61.can (r, i, ())) []) (EndsQ cfg Try.f61.ntmps Try.f61.results.toList (res61 (r, i, ())) [])
theorem make61 (c83 : Contract Try.prog cfg 83 spec83) (c62 : Contract Try.prog cfg 62 spec62) (c84 : Contract Try.prog cfg 84 spec84) (hb : ∀ (r : Ref) (i : Int) (_ : Unit), pre61 (r, i, ()) → Body61 r i) : Contract Try.prog cfg 61 spec61 :=
  contract_flat (l := [(83, spec83), (62, spec62), (84, spec84)]) cfgOk rfl (⟨c83, c62, c84, trivial⟩) lv61 Try.func61 rfl rfl 2 (fun _ => rfl) (by decide) (fun ⟨r, i, _⟩ => hb r i ())
noncomputable def know24 : List (FuncId × Fs U) := [(23, spec23), (26, spec26), (61, spec61)]
def lv24 : Lives U := fun i => match i with
  | 0 => ([(1, []), (2, []), (4, [])], [((.loc 2), []), ((.loc 4), [])])
  | 1 => ([(1, []), (2, []), (4, []), (13, [])], [((.loc 2), []), ((.loc 4), [])])
  | 2 => ([(4, []), (5, [])], [((.loc 4), [])])
  | 3 => ([(1, []), (2, []), (4, []), (16, [])], [((.loc 2), []), ((.loc 4), [])])
  | 4 => ([(1, []), (2, []), (4, []), (16, []), (17, [])], [((.loc 2), []), ((.loc 4), [])])
  | 5 => ([(4, []), (5, [])], [((.loc 4), [])])
  | 6 => ([(1, []), (2, []), (4, []), (16, []), (33, [])], [((.loc 2), []), ((.loc 4), [])])
  | 7 => ([(4, []), (5, [])], [((.loc 4), [])])
  | 8 => ([(1, []), (2, []), (4, []), (46, [])], [((.loc 2), []), ((.loc 4), [])])
  | 9 => ([(4, []), (5, [])], [((.loc 4), [])])
  | 10 => ([(4, []), (5, [])], [((.loc 4), [])])
  | _ => ([], [])
noncomputable abbrev A24 (p : List Nat) := awp cfg (know know24) (drawOk cfg (know know24)) Try.f24.ntmps lv24 (cd Try.f24 p)
theorem vc24 (r : Ref) (i : Int) (Q : AExit → LSt U → Prop) (h : ∀ y_1, y_1 = (r) → ∀ y_2, y_2 = (refAt (segO (Ref.a r)) (Ref.segment r) (((Ref.at_ r) : Int) + i)) → ∀ y_3, y_3 = (refAt (segO (Ref.a r)) (Ref.segment r) (((((Ref.at_ r) : Int) + (Ref.data r)) : Int) + i)) → ((Tr ((!(decide ((i : Int) < 0))) = true)) ∧ ((!(decide ((i : Int) < 0))) = true → pre23 (y_1, ())) ∧ (Tr ((!(decide ((i : Int) < 0))) = true)) ∧ (Tr ((!(decide ((i : Int) < 0))) = true)) ∧ (((decide ((i : Int) < 0)) = false → (!(decide ((i : Int) < 0))) = true)) ∧ (((bif (decide ((i : Int) < 0)) then true else (decide (((kidsR y_1) : Int) ≤ i))) = true → (Q .ret (⟨[(4, .ptr (.loc 4) 0), (5, .c (.int .i64 0))], [((.loc 4), [.nilp, .int .i64 0, .int .i64 0, .int .i64 0, .int .i64 0, .int .i64 0, .int .i64 0, .int .u64 0])], []⟩ : LSt U))) ∧ ((bif (decide ((i : Int) < 0)) then true else (decide (((kidsR y_1) : Int) ≤ i))) = false → ((((((Ref.kind r) : Int) == 1) = true → (InR (((Ref.at_ r) : Int) + (Ref.data r))) ∧ (InR (((((Ref.at_ r) : Int) + (Ref.data r)) : Int) + i)) ∧ (pre26 ((Ref.a r), (Ref.segment r), (((((Ref.at_ r) : Int) + (Ref.data r)) : Int) + i), ())) ∧ (Q .ret (⟨[(4, .ptr (.loc 4) 0), (5, .c (.int .i64 (y_3.2)))], [((.loc 4), [.po (U := U) .arena (Ref.a (liftX (Ref.a r) y_3.1)), .int .i64 (Ref.kind (liftX (Ref.a r) y_3.1)), .int .i64 (Ref.segment (liftX (Ref.a r) y_3.1)), .int .i64 (Ref.at_ (liftX (Ref.a r) y_3.1)), .int .i64 (Ref.data (liftX (Ref.a r) y_3.1)), .int .i64 (Ref.kids (liftX (Ref.a r) y_3.1)), .int .i64 (Ref.count (liftX (Ref.a r) y_3.1)), .int .u64 (Ref.number (liftX (Ref.a r) y_3.1))])], []⟩ : LSt U))) ∧ ((((Ref.kind r) : Int) == 1) = false → (((((Ref.kind r) : Int) == 8) = true → (InR (((Ref.at_ r) : Int) + i)) ∧ (pre26 ((Ref.a r), (Ref.segment r), (((Ref.at_ r) : Int) + i), ())) ∧ (Q .ret (⟨[(4, .ptr (.loc 4) 0), (5, .c (.int .i64 (y_2.2)))], [((.loc 4), [.po (U := U) .arena (Ref.a (liftX (Ref.a r) y_2.1)), .int .i64 (Ref.kind (liftX (Ref.a r) y_2.1)), .int .i64 (Ref.segment (liftX (Ref.a r) y_2.1)), .int .i64 (Ref.at_ (liftX (Ref.a r) y_2.1)), .int .i64 (Ref.data (liftX (Ref.a r) y_2.1)), .int .i64 (Ref.kids (liftX (Ref.a r) y_2.1)), .int .i64 (Ref.count (liftX (Ref.a r) y_2.1)), .int .u64 (Ref.number (liftX (Ref.a r) y_2.1))])], []⟩ : LSt U))) ∧ ((((Ref.kind r) : Int) == 8) = false → (((((Ref.kind r) : Int) == 9) = true → (InR (((Ref.data r) : Int) + (Ref.kids r))) ∧ (InR ((i : Int) * (((Ref.data r) : Int) + (Ref.kids r)))) ∧ (InR (((Ref.at_ r) : Int) + ((i : Int) * (((Ref.data r) : Int) + (Ref.kids r))))) ∧ (Q .ret (⟨[(4, .ptr (.loc 4) 0), (5, .c (.int .i64 0))], [((.loc 4), [.po (U := U) .arena (Ref.a r), .int .i64 1, .int .i64 (Ref.segment r), .int .i64 (((Ref.at_ r) : Int) + ((i : Int) * (((Ref.data r) : Int) + (Ref.kids r)))), .int .i64 (Ref.data r), .int .i64 (Ref.kids r), .int .i64 0, .int .u64 0])], []⟩ : LSt U))) ∧ ((((Ref.kind r) : Int) == 9) = false → (pre61 (y_1, i, ())) ∧ (Q .ret (⟨[(4, .ptr (.loc 4) 0), (5, .c (.int .i64 0))], [((.loc 4), [.po (U := U) .arena (Ref.a r), .int .i64 10, .int .i64 0, .int .i64 0, .int .i64 0, .int .i64 0, .int .i64 0, .int .u64 (getW (List.drop (Int.toNat (Ref.at_ y_1)) (segAt (segO (Ref.a y_1)) (Ref.segment y_1))) (Ref.kind y_1 - 2) i)])], []⟩ : LSt U))))))))))))) :
    A24 [] (⟨[(0, .agg [.po (U := U) .arena (Ref.a r), .int .i64 (Ref.kind r), .int .i64 (Ref.segment r), .int .i64 (Ref.at_ r), .int .i64 (Ref.data r), .int .i64 (Ref.kids r), .int .i64 (Ref.count r), .int .u64 (Ref.number r)]), (1, .c (.int .i64 i))], [], []⟩ : LSt U) Q :=
  Eq.mpr (by kernel_rfl) (h _ (reRef_eq _) _ rfl _ rfl)
def Body24 (r : Ref) (i : Int)  : Prop := awp cfg (know (know24)) (drawOk cfg (know (know24))) Try.f24.ntmps lv24 (cd Try.f24 []) (entry (args24.can (r, i, ())) []) (EndsQ cfg Try.f24.ntmps Try.f24.results.toList (res24 (r, i, ())) [])
theorem make24 (c23 : Contract Try.prog cfg 23 spec23) (c26 : Contract Try.prog cfg 26 spec26) (c61 : Contract Try.prog cfg 61 spec61) (hb : ∀ (r : Ref) (i : Int) (_ : Unit), pre24 (r, i, ()) → Body24 r i) : Contract Try.prog cfg 24 spec24 :=
  contract_flat (l := [(23, spec23), (26, spec26), (61, spec61)]) cfgOk rfl (⟨c23, c26, c61, trivial⟩) lv24 Try.func24 rfl rfl 2 (fun _ => rfl) (by decide) (fun ⟨r, i, _⟩ => hb r i ())
end Go.AM.Ythokdjgpdonhgaa

namespace Go.AM.Ythokdjgpdonhgaa
open Go.AM Go.Proofs
abbrev tR (a : Option Arena) (x : XRef × Int) : V U := .tup [(true, enc .ref (liftX a x.1)), (false, [.int .i64 x.2])]
theorem frame_le {p : Ptr} (h : OkP p) (h0 : 0 ≤ p.off) : 0 ≤ p.off * (p.data + p.ptrs) ∧ p.off * (p.data + p.ptrs) ≤ 70368744177664 := by
  have h1 := h.data
  have h2 := h.ptrs
  have h3 := h.off
  have := Int.mul_le_mul (Int.le_of_lt h3.2) (show p.data + p.ptrs ≤ 131072 by omega) (by omega) (by decide : (0 : Int) ≤ 536870912)
  exact ⟨Int.mul_nonneg h0 (by omega), by omega⟩
theorem c64 : Contract Try.prog cfg 64 spec64 := by
  refine make64 c62 c86 ?_
  intro r n _ hp
  obtain ⟨ha, hn, hz, hh⟩ := hp
  dsimp only at ha hn hz hh
  refine vc64 _ _ _ ?_
  rintro y hy
  dsimp only at hy
  (simp only [vcT, vcS])
  have g := hasN_iff.1 hh
  have hl := (okSeg_at ha r.segment).1
  have h1 : hasN (segO r.a) r.segment r.at_ 1 = true := hasN_iff.2 ⟨g.1, g.2.1, g.2.2.1, by decide, by omega⟩
  have hw := getS_word ha r.segment r.at_
  rw [if_pos h1] at hy ⊢
  have ho := okP_dec hw.1 hw.2
  rw [← hy] at ho
  have hd := ho.data
  have hq := ho.ptrs
  have hr : res64 (r, n, ()) = tR r.a (compX (segO r.a) r.segment r.at_ n) := rfl
  rw [hr]
  refine ⟨ha, hw, fun h => by ((unfold InR; omega)), fun h => by have := frame_le ho (by omega); ((unfold InR; omega)), fun h => ?_, fun h => ⟨by ((unfold InR; omega)), ?_⟩⟩
  · rw [show compX (segO r.a) r.segment r.at_ n = (xz, 8) by unfold compX; rw [← hy, if_pos (by omega)]]; (repeat' (first | exact trivial | exact rfl | apply And.intro))
  · rw [show compX (segO r.a) r.segment r.at_ n = (⟨9, r.segment, r.at_ + 1, y.data, y.ptrs, y.off, 0⟩, 0) by unfold compX; rw [← hy, if_neg (by omega)]]
    rw [hz]; (repeat' (first | exact trivial | exact rfl | apply And.intro))
theorem c26 : Contract Try.prog cfg 26 spec26 := by
  refine make26 c63 c64 ?_
  intro a s x _ ha
  simp only [pre26] at ha
  refine vc26 _ _ _ _ ?_
  rintro y1 h1 y2 h2
  dsimp only at h1 h2
  have hf := okL_follow ha s x
  have hp := hf.p
  have hk := hf.kind
  have hc := hp.code
  have hcn := hp.count
  have hr : res26 (a, s, x, ()) = tR a (refAt (segO a) s x) := rfl
  have cut : ∀ k d p c : Int, k ≠ 0 → refAt (segO a) s x = (⟨k, (follow (segO a) s x).1.segment, (follow (segO a) s x).1.at_, d, p, c, 0⟩, 0) → A26 [1, 1, 1, 1, 1] (head26_0 a s x k d p c) (EndsQ cfg Try.f26.ntmps Try.f26.results.toList (res26 (a, s, x, ())) []) := by
    intro k d p c hk0 he
    refine vc26_c0 _ _ _ _ _ _ _ _ ?_
    rw [hr, he, show tR a (⟨k, (follow (segO a) s x).1.segment, (follow (segO a) s x).1.at_, d, p, c, 0⟩, 0) = .tup [(true, enc .ref ⟨a, k, (follow (segO a) s x).1.segment, (follow (segO a) s x).1.at_, d, p, c, 0⟩), (false, [.int .i64 0])] by
      simp only [tR, liftX]; rw [if_neg hk0]]
    (repeat' (first | exact trivial | exact rfl | apply And.intro))
  (simp only [vcT, vcS])
  refine ⟨ha, fun h => ?_, fun h => ⟨fun k1 => ?_, fun k1 => ⟨fun k6 => ⟨by ((unfold InR; omega)), ?_⟩, fun k6 => ⟨fun k7 => ?_, fun k7 => ⟨?_, ?_⟩⟩⟩⟩⟩
  · rw [hr, show refAt (segO a) s x = (xz, (follow (segO a) s x).2) by unfold refAt; rw [if_pos h]]; (repeat' (first | exact trivial | exact rfl | apply And.intro))
  · refine cut _ _ _ _ (by decide) ?_
    unfold refAt; rw [if_neg (by omega), if_pos k1]
  · refine cut _ _ _ _ (by omega) ?_
    unfold refAt; rw [if_neg (by omega), if_neg k1, if_pos (by omega)]
  · refine cut _ _ _ _ (by decide) ?_
    unfold refAt; rw [if_neg (by omega), if_neg k1, if_pos (by omega), k7]; rfl
  · subst h1
    refine ⟨ha, hcn.1, rfl, ?_⟩
    have := hf.lie (by omega)
    rw [show wordsP (follow (segO a) s x).1.p = (follow (segO a) s x).1.p.count + 1 by unfold wordsP; rw [if_neg k1, if_pos (by omega), if_pos (by omega)]] at this
    exact this
  · subst h1 h2
    rw [hr, show refAt (segO a) s x = compX (segO a) (follow (segO a) s x).1.segment (follow (segO a) s x).1.at_ (follow (segO a) s x).1.p.count by unfold refAt; rw [if_neg (by omega), if_neg k1, if_neg (by omega)]]
    (repeat' (first | exact trivial | exact rfl | apply And.intro))
theorem c21 : Contract Try.prog cfg 21 spec21 := by
  refine make21 c26 ?_
  intro a _ ha
  refine vc21 _ _ ?_
  refine ⟨ha, ?_⟩
  (repeat' (first | exact trivial | exact rfl | apply And.intro))
theorem c22 : Contract Try.prog cfg 22 spec22 := by
  refine make22 ?_
  intro r _ _
  refine vc22 _ _ ?_
  (repeat' (first | exact trivial | exact rfl | apply And.intro))
theorem c59 : Contract Try.prog cfg 59 spec59 := by
  refine make59 ?_
  intro r _ _
  refine vc59 _ _ ?_
  (simp only [vcT, vcS])
  refine ⟨fun h => ends_int rfl ?_, fun h => ⟨fun h2 => ends_int rfl ?_, fun h2 => ends_int rfl ?_⟩⟩
  all_goals
    show _ = lenR r
    unfold lenR
  · rw [if_pos h]
  · rw [if_neg h, if_pos h2]
  · rw [if_neg h, if_neg h2]
theorem c23 : Contract Try.prog cfg 23 spec23 := by
  refine make23 ?_
  intro r _ _
  refine vc23 _ _ ?_
  (simp only [vcT, vcS])
  refine ⟨fun h => ends_int rfl ?_, fun h => ends_int rfl ?_⟩
  all_goals
    show _ = kidsR r
    unfold kidsR
  · rw [if_pos h]
  · rw [if_neg h]
theorem c68 : Contract Try.prog cfg 68 spec68 := by
  refine make68 ?_
  intro r _ _
  refine vc68 _ _ ?_
  (simp only [vcT, vcS])
  refine ⟨fun h => ?_, fun h => ?_⟩
  · refine ends_eq (r' := .tup [(false, [.int .i64 0]), (false, [.int .i64 0])]) ?_ (by (repeat' (first | exact trivial | exact rfl | apply And.intro)))
    simp only [res68]; rw [if_neg h, if_neg h]
  · refine ends_eq (r' := .tup [(false, [.int .i64 r.data]), (false, [.int .i64 r.kids])]) ?_ (by (repeat' (first | exact trivial | exact rfl | apply And.intro)))
    simp only [res68]; rw [if_pos h, if_pos h]
theorem wordsX_get {l : List (List Int)} {x : XRef} {i : Int} (h1 : x.kind = 1) (ha : 0 ≤ x.at_) (h0 : 0 ≤ i) (hi : i < x.data) : (wordsX l x).getD i.toNat 0 = getS l x.s (x.at_ + i) := by
  unfold wordsX getS
  rw [if_neg (by omega), if_pos h1, List.getD_eq_getElem?_getD, List.getD_eq_getElem?_getD, List.getElem?_take_of_lt (by omega), List.getElem?_drop, show (x.at_ + i).toNat = x.at_.toNat + i.toNat by omega]
theorem wordsX_len {l : List (List Int)} {x : XRef} (h : OkX l x) : ((wordsX l x).length : Int) = if x.kind = 1 then x.data else if x.kind = 10 then 1 else 0 := by
  unfold wordsX
  by_cases h1 : x.kind = 1
  · have hh := hasN_iff.1 (h.one h1)
    have hd := h.data
    have hp := h.ptrs
    rw [if_neg (by omega), if_pos h1, if_pos h1]
    simp
    omega
  · by_cases h10 : x.kind = 10
    · rw [if_pos h10, if_neg h1, if_pos h10]; rfl
    · rw [if_neg h10, if_neg h1, if_neg h1, if_neg h10]; rfl
theorem c25 : Contract Try.prog cfg 25 spec25 := by
  refine make25 c59 c62 ?_
  intro r i _ hp
  obtain ⟨ha, hx⟩ := hp
  dsimp only at ha hx
  refine vc25 _ _ _ ?_
  (simp only [vcT, vcS])
  have hlen := wordsX_len hx
  have hlr : lenR r = ((wordsX (segO r.a) (unX r)).length : Int) := by rw [hlen]; rfl
  have hat := hx.at_
  have hdt := hx.data
  have hpt := hx.ptrs
  simp only [unX] at hat hdt hpt
  refine ⟨fun _ => trivial, fun h => ends_int rfl ?_, fun h => ⟨fun k => ends_int rfl ?_, fun k => ?_⟩⟩
  · show (0 : Int) = wordR r i
    change i < 0 ∨ lenR r ≤ i at h
    unfold wordR
    by_cases h0 : i < 0
    · rw [if_pos h0]
    · rw [if_neg h0, List.getD_eq_getElem?_getD, List.getElem?_eq_none (by omega)]; rfl
  · show r.number = wordR r i
    change ¬i < 0 ∧ ¬lenR r ≤ i at h
    have h1 : lenR r = 1 := by unfold lenR; rw [if_neg (by omega), if_pos k]
    unfold wordR wordsX
    rw [if_neg h.1, if_pos (show (unX r).kind = 10 from k), show i = 0 by omega]
    rfl
  · change ¬i < 0 ∧ ¬lenR r ≤ i at h
    have k1 : r.kind = 1 := by
      cases Decidable.em (r.kind = 1) with
      | inl e => exact e
      | inr e => exfalso; have : lenR r = 0 := (by unfold lenR; rw [if_neg e, if_neg k]); omega
    have hl : lenR r = r.data := by unfold lenR; rw [if_pos k1]
    have hh := hasN_iff.1 (hx.one k1)
    simp only [unX] at hh
    refine ⟨by ((unfold InR; omega)), ha, ends_int rfl ?_⟩
    show _ = wordR r i
    unfold wordR
    rw [if_neg h.1, wordsX_get (x := unX r) k1 hh.2.2.1 (by omega) (by show i < r.data; omega), if_pos (hasN_iff.2 ⟨hh.1, hh.2.1, by omega, by decide, by omega⟩)]
    rfl
theorem wd_bits {c : Int} (h0 : 0 ≤ c) (h1 : c ≤ 5) : wd c = bitsP c := by
  have : c = 0 ∨ c = 1 ∨ c = 2 ∨ c = 3 ∨ c = 4 ∨ c = 5 := by omega
  rcases this with rfl | rfl | rfl | rfl | rfl | rfl <;> decide
theorem getW_one {g : List Int} {a c i n w : Int} (hw : wd c = w) (hw' : w = 1 ∨ w = 8 ∨ w = 16 ∨ w = 32 ∨ w = 64) (ha : 0 ≤ a) (h0 : 0 ≤ i) (hi : i < n) (hn : n < 536870912) (hl : a + (n * w + 63) / 64 ≤ (g.length : Int)) :
    a + i / (64 / w) < (g.length : Int) ∧ 0 ≤ i / (64 / w) ∧ i / (64 / w) ≤ i ∧ getW [g.getD (a + i / (64 / w)).toNat 0] c (i % (64 / w)) = getW (g.drop a.toNat) c i := by
  have key : i * w / 64 = i / (64 / w) ∧ i % (64 / w) * w / 64 = 0 ∧ i % (64 / w) * w % 64 = i * w % 64 ∧ a + i / (64 / w) < (g.length : Int) ∧ 0 ≤ i / (64 / w) ∧ i / (64 / w) ≤ i ∧ 0 ≤ i % (64 / w) ∧ i % (64 / w) ≤ 64 := by
    rcases hw' with e | e | e | e | e <;> subst e
    · exact ⟨by omega, by omega, by omega, by omega, by omega, by omega, by omega, by omega⟩
    · exact ⟨by omega, by omega, by omega, by omega, by omega, by omega, by omega, by omega⟩
    · exact ⟨by omega, by omega, by omega, by omega, by omega, by omega, by omega, by omega⟩
    · exact ⟨by omega, by omega, by omega, by omega, by omega, by omega, by omega, by omega⟩
    · exact ⟨by omega, by omega, by omega, by omega, by omega, by omega, by omega, by omega⟩
  obtain ⟨e1, e2, e3, e4, e5, e6, e7, e8⟩ := key
  refine ⟨e4, e5, e6, ?_⟩
  have hwp : 1 ≤ wd c := by omega
  rw [getW_eq hwp e7 (by omega), getW_eq hwp h0 (by omega), hw, e1, e2, e3]
  have : wordW [g.getD (a + i / (64 / w)).toNat 0] 0 = wordW (g.drop a.toNat) (i / (64 / w)) := by
    unfold wordW
    rw [if_neg (by simp), if_neg (by simp; omega)]
    rw [List.getD_eq_getElem?_getD (l := g.drop _), List.getElem?_drop, ← List.getD_eq_getElem?_getD, show a.toNat + (i / (64 / w)).toNat = (a + i / (64 / w)).toNat by omega]
    rfl
  rw [this]
theorem c61 : Contract Try.prog cfg 61 spec61 := by
  refine make61 c83 c62 c84 ?_
  intro r i _ hp
  obtain ⟨⟨ha, hx⟩, hk0, hk1, hi0, hi1⟩ := hp
  dsimp only at ha hx hk0 hk1 hi0 hi1
  refine vc61 _ _ _ ?_
  rintro y hy
  dsimp only at hy
  (simp only [vcT, vcS])
  have hc := hx.count
  have hat := hx.at_
  have hh := hasN_iff.1 (hx.list hk0 (by show r.kind ≤ 8; omega))
  simp only [unX] at hc hat hh
  have hwb := wd_bits (c := r.kind - 2) (by omega) (by omega)
  rw [← hwb] at hh
  have hwc := wd_cases (r.kind - 2)
  have hb0 : 0 ≤ bitsP (r.kind - 2) := by unfold bitsP; (repeat' split) <;> omega
  rw [if_neg (show ¬ wd (r.kind - 2) < 0 by omega)] at hy ⊢
  have hr : res61 (r, i, ()) = .c (.int .u64 (getW ((segAt (segO r.a) r.segment).drop r.at_.toNat) (r.kind - 2) i)) := rfl
  refine ⟨by ((unfold InR; omega)), trivial, fun h => ends_int rfl ?_, fun h => ?_⟩
  · show (0 : Int) = getW _ (r.kind - 2) i
    unfold getW
    rw [if_pos (by omega)]
  · generalize hwe : wd (r.kind - 2) = w at *
    have hw5 : w = 1 ∨ w = 8 ∨ w = 16 ∨ w = 32 ∨ w = 64 := by omega
    obtain ⟨q1, q2, q3, q4⟩ := getW_one (g := segAt (segO r.a) r.segment) (i := i) hwe hw5 hat.1 hi0 hi1 hc.2 hh.2.2.2.2
    have hy' : IntKind.wrap .i64 y = 64 / w ∧ 0 < 64 / w ∧ 64 / w ≤ 64 := by
      rw [hy]
      rcases hw5 with e | e | e | e | e <;> subst e <;> decide
    rw [hy'.1, Int.tdiv_eq_ediv_of_nonneg hi0, Int.tmod_eq_emod_of_nonneg hi0, wrap_i64 (n := i / (64 / w)) (by omega) (by omega)]
    have h1 : hasN (segO r.a) r.segment (r.at_ + i / (64 / w)) 1 = true := hasN_iff.2 ⟨hh.1, hh.2.1, by omega, by decide, by omega⟩
    rw [if_pos h1]
    refine ⟨h, by omega, by ((unfold InR; omega)), ha, by omega, ?_, ends_int rfl q4⟩
    intro z hz
    rw [List.mem_singleton.1 hz]
    exact getS_word ha _ _
theorem c24 : Contract Try.prog cfg 24 spec24 := by
  refine make24 c23 c26 c61 ?_
  intro r i _ hp
  obtain ⟨ha, hx⟩ := hp
  dsimp only at ha hx
  refine vc24 _ _ _ ?_
  rintro y1 h1 y2 h2 y3 h3
  dsimp only at h1 h2 h3
  replace h1 := h1.symm
  subst h1
  (simp only [vcT, vcS])
  have hr : res24 (r, i, ()) = tR r.a (kidX (segO r.a) (unX r) i) := rfl
  rw [hr]
  have hk := hx.kind
  have hat := hx.at_
  have hd := hx.data
  have hp := hx.ptrs
  have hcn := hx.count
  have hz := hx.zero
  simp only [unX] at hk hat hd hp hcn hz
  have hkr : kidsX (unX r) = kidsR r := rfl
  have hb : ¬kidsR r ≤ i → i < 536870912 := fun h => by unfold kidsR at h; split at h <;> omega
  refine ⟨fun _ => trivial, fun h => ?_, fun h => ⟨fun k1 => ⟨by ((unfold InR; omega)), by have := hb h.2; ((unfold InR; omega)), ha, ?_⟩, fun k1 => ⟨fun k8 => ⟨by have := hb h.2; ((unfold InR; omega)), ha, ?_⟩, fun k8 => ⟨fun k9 => ?_, fun k9 => ⟨⟨⟨ha, hx⟩, ?_⟩, ?_⟩⟩⟩⟩⟩
  · rw [show kidX (segO r.a) (unX r) i = (xz, 0) by unfold kidX; rw [if_pos (by rw [hkr]; exact h)]]; (repeat' (first | exact trivial | exact rfl | apply And.intro))
  · subst h3
    rw [show kidX (segO r.a) (unX r) i = refAt (segO r.a) r.segment (r.at_ + r.data + i) by unfold kidX; rw [if_neg (by rw [hkr]; omega), if_pos (show (unX r).kind = 1 from k1)]; rfl]; (repeat' (first | exact trivial | exact rfl | apply And.intro))
  · subst h2
    rw [show kidX (segO r.a) (unX r) i = refAt (segO r.a) r.segment (r.at_ + i) by unfold kidX; rw [if_neg (by rw [hkr]; omega), if_neg (show ¬(unX r).kind = 1 from k1), if_pos (show (unX r).kind = 8 from k8)]; rfl]; (repeat' (first | exact trivial | exact rfl | apply And.intro))
  · have hh := hasN_iff.1 (hx.nine k9)
    have hic : i < r.count := by have := h.2; unfold kidsR at this; rw [if_neg k1] at this; omega
    have hl := (okSeg_at ha r.segment).1
    simp only [unX] at hh
    have e1 : 0 ≤ i * (r.data + r.kids) := Int.mul_nonneg (by omega) (by omega)
    have e2 : i * (r.data + r.kids) ≤ r.count * (r.data + r.kids) := Int.mul_le_mul_of_nonneg_right (by omega) (by omega)
    refine ⟨by ((unfold InR; omega)), by ((unfold InR; omega)), by ((unfold InR; omega)), ?_⟩
    rw [show kidX (segO r.a) (unX r) i = (⟨1, r.segment, r.at_ + i * (r.data + r.kids), r.data, r.kids, 0, 0⟩, 0) by
      unfold kidX; rw [if_neg (by rw [hkr]; omega), if_neg (show ¬(unX r).kind = 1 from k1), if_neg (show ¬(unX r).kind = 8 from k8), if_pos (show (unX r).kind = 9 from k9)]; rfl]
    (repeat' (first | exact trivial | exact rfl | apply And.intro))
  · have hic : i < r.count := by have := h.2; unfold kidsR at this; rw [if_neg k1] at this; omega
    refine ⟨by show 2 ≤ r.kind; omega, by show r.kind ≤ 7; omega, by show 0 ≤ i; omega, hic⟩
  · rw [show kidX (segO r.a) (unX r) i = (⟨10, 0, 0, 0, 0, 0, getW ((segAt (segO r.a) r.segment).drop r.at_.toNat) (r.kind - 2) i⟩, 0) by
      unfold kidX; rw [if_neg (by rw [hkr]; omega), if_neg (show ¬(unX r).kind = 1 from k1), if_neg (show ¬(unX r).kind = 8 from k8), if_neg (show ¬(unX r).kind = 9 from k9)]; rfl]
    (repeat' (first | exact trivial | exact rfl | apply And.intro))
end Go.AM.Ythokdjgpdonhgaa

namespace Go.AM.Ythokdjgpdonhgaa
open Go.AM Go.Proofs
def args37 : ArgL (List Int × List Int × Unit) := (.cons (aSl .u64) (.cons (aSl .u64) .nil))
def pre37 (a : List Int × List Int × Unit) : Prop := a.1.length ≤ 17592186044416
noncomputable def res37 (a : List Int × List Int × Unit) : V U := .c (.bool (decide (a.1 = a.2.1)))
noncomputable def spec37 : Fs U := fs args37 (fun a => [pre37 a]) res37
noncomputable def know37 : List (FuncId × Fs U) := []
def lv37 : Lives U := fun i => match i with
  | 0 => ([(0, []), (1, [])], [])
  | 1 => ([(0, []), (1, []), (10, [])], [])
  | 2 => ([(4, [])], [])
  | 3 => ([(0, []), (1, []), (5, [])], [])
  | 4 => ([(0, []), (1, []), (5, []), (14, [])], [])
  | 5 => ([(0, []), (1, []), (5, [])], [])
  | 6 => ([(0, []), (1, []), (5, []), (25, [])], [])
  | 7 => ([(4, [])], [])
  | 8 => ([(4, [])], [])
  | _ => ([], [])
noncomputable def head37_0 (a : List Int) (b : List Int) (x5 : Int) : LSt U := (⟨[(0, .c (.slice (U := U) .u64 a .unk)), (1, .c (.slice (U := U) .u64 b .unk)), (5, .c (.int .i64 x5))], [], []⟩ : LSt U)
noncomputable abbrev A37 (p : List Nat) := awp cfg (know know37) (drawOk cfg (know know37)) Try.f37.ntmps lv37 (cd Try.f37 p)
noncomputable abbrev S37 (p : List Nat) := seqK cfg (know know37) (drawOk cfg (know know37)) Try.f37.ntmps lv37 (cd Try.f37 p)
theorem vc37 (a : List Int) (b : List Int) (Q : AExit → LSt U → Prop) (h : ((((((a.length : Int) : Int) != (b.length : Int)) = true → (Q .ret (⟨[(4, .c (.bool false))], [], []⟩ : LSt U))) ∧ ((((a.length : Int) : Int) != (b.length : Int)) = false → (LoopWp (A37 [1, 1, 0, 1, 0, 0]) (head37_0 a b 0) (AExit.inBlock 0 (S37 [1, 1, 1] Q))))))) :
    A37 [] (⟨[(0, .c (.slice (U := U) .u64 a .unk)), (1, .c (.slice (U := U) .u64 b .unk))], [], []⟩ : LSt U) Q :=
  Eq.mpr (by kernel_rfl) h
theorem vc37_l0 (a : List Int) (b : List Int) (x5 : Int) (N0 : LSt U → Prop) (Q : AExit → LSt U → Prop) (h : (((decide ((x5 : Int) < (a.length : Int))) = true → ((0 : Int) ≤ x5 ∧ x5 < (a.length : Int)) ∧ ((0 : Int) ≤ x5 ∧ x5 < (b.length : Int)) ∧ (((((List.getD a (Int.toNat x5) (0 : Int)) : Int) != (List.getD b (Int.toNat x5) (0 : Int))) = true → (Q .ret (⟨[(4, .c (.bool false))], [], []⟩ : LSt U))) ∧ ((((List.getD a (Int.toNat x5) (0 : Int)) : Int) != (List.getD b (Int.toNat x5) (0 : Int))) = false → (InR ((x5 : Int) + 1)) ∧ (N0 (head37_0 a b ((x5 : Int) + 1)))))) ∧ ((decide ((x5 : Int) < (a.length : Int))) = false → (Q .ret (⟨[(4, .c (.bool true))], [], []⟩ : LSt U))))) :
    A37 [1, 1, 0, 1, 0, 0] (head37_0 a b x5) (AExit.then N0 (AExit.inBlock 0 (S37 [1, 1, 1] Q))) :=
  Eq.mpr (by kernel_rfl) h
def Body37 (a : List Int) (b : List Int)  : Prop := awp cfg (know (know37)) (drawOk cfg (know (know37))) Try.f37.ntmps lv37 (cd Try.f37 []) (entry (args37.can (a, b, ())) []) (EndsQ cfg Try.f37.ntmps Try.f37.results.toList (res37 (a, b, ())) [])
theorem make37 (hb : ∀ (a : List Int) (b : List Int) (_ : Unit), pre37 (a, b, ()) → Body37 a b) : Contract Try.prog cfg 37 spec37 :=
  contract_flat (l := []) cfgOk rfl (trivial) lv37 Try.func37 rfl rfl 2 (fun _ => rfl) (by decide) (fun ⟨a, b, _⟩ => hb a b ())
end Go.AM.Ythokdjgpdonhgaa

namespace Go.AM.Ythokdjgpdonhgaa
open Go.AM Go.Proofs
theorem eq_of_getD {α : Type} {a b : List α} (d : α) (hl : a.length = b.length) (h : ∀ j : Nat, j < a.length → a.getD j d = b.getD j d) : a = b := by
  refine List.ext_getElem hl fun j h1 h2 => ?_
  have := h j h1
  rwa [List.getD_eq_getElem?_getD, List.getD_eq_getElem?_getD, List.getElem?_eq_getElem h1, List.getElem?_eq_getElem h2] at this
theorem c37 : Contract Try.prog cfg 37 spec37 := by
  refine make37 ?_
  intro a b _ hp
  simp only [pre37] at hp
  refine vc37 _ _ _ ?_
  (simp only [vcT, vcS])
  refine ⟨fun h => ends_bool rfl (decide_eq_false fun e => h (by rw [show a = b from e])).symm, fun h => ?_⟩
  refine loop_rule (ι := Int) (fun i => head37_0 a b i) (fun i => 0 ≤ i ∧ i ≤ a.length ∧ ∀ j : Nat, j < i.toNat → a.getD j 0 = b.getD j 0) (fun i => (a.length - i).toNat) 0 rfl ⟨by simp, by omega, fun j hj => by simp at hj⟩ ?_
  rintro i ⟨h1, h2, h3⟩
  refine vc37_l0 _ _ _ _ _ ?_
  (simp only [vcT, vcS])
  refine ⟨fun hi => ⟨by omega, by omega, fun hn => ends_bool rfl ?_, fun he => ⟨by ((unfold InR; omega)), i + 1, rfl, ⟨by omega, by omega, fun j hj => ?_⟩, by omega⟩⟩, fun hi => ends_bool rfl ?_⟩
  · exact (decide_eq_false fun e => hn (by rw [show a = b from e])).symm
  · by_cases e : j < i.toNat
    · exact h3 j e
    · rw [show j = i.toNat by omega]; exact he
  · exact (decide_eq_true (eq_of_getD 0 (by omega) fun j hj => h3 j (by omega))).symm
end Go.AM.Ythokdjgpdonhgaa

namespace Go.AM.Ythokdjgpdonhgaa
open Go.AM Go.Proofs Go.Proofs.Ythokdjgpdonhgaa Go.ChangeShapes Go.WideShapes Go.RowKit
theorem own : ownKnob Try.prog.godebug = none := by kernel_rfl
theorem laidOut : laidOutB Try.prog = true := by kernel_rfl
theorem treeTypes : TreeTypes cfg := ⟨rfl, rfl, ⟨_, rfl⟩, ⟨_, rfl⟩, ⟨_, rfl, rfl⟩, ⟨_, _, rfl, rfl⟩, ⟨_, _, rfl, rfl, rfl⟩, ⟨_, _, rfl, rfl, rfl⟩⟩
theorem argTree {H : Type} {henc : TypeId × Value → H} : ArgR henc Try.prog cfg (aEl .tree) 53 inT := argR_el cfgOk rfl ⟨_, _, rfl⟩ (fun _ n cs h => rd_tree cfgOk treeTypes n cs h)
end Go.AM.Ythokdjgpdonhgaa

namespace Go.AM.Ythokdjgpdonhgaa
open Go.AM Go.Proofs
def roomW (c n : Int) : Int := if wd c < 1 ∨ n < 0 ∨ 1099511627776 < n then 0 else (n * wd c + 63) / 64
def putS (c : Int) (l : List Int) (i n : Int) : List Int :=
  if wd c < 1 then l else l.set (i * wd c / 64).toNat (l.getD (i * wd c / 64).toNat 0 + n * 2 ^ (i * wd c % 64).toNat)
def putGo (c : Int) : List Int → Int → List Int → List Int
  | l, _, [] => l
  | l, i, n :: r => putGo c (putS c l i n) (i + 1) r
def putW (c : Int) (ns : List Int) : List Int := putGo c (List.replicate (roomW c ns.length).toNat 0) 0 ns
def fitsA (c : Int) (ns : List Int) : Bool := decide (0 ≤ wd c) && ns.all (fits c)
def putR (c : Int) (ns : List Int) : List Int := if fitsA c ns then putW c ns else []
theorem putGo_append (c : Int) : ∀ (a b l : List Int) (i : Int), putGo c l i (a ++ b) = putGo c (putGo c l i a) (i + a.length) b
  | [], b, l, i => by simp [putGo]
  | n :: r, b, l, i => by
    simp only [List.cons_append, putGo]
    rw [putGo_append c r b _ (i + 1)]
    congr 1
    simp
    omega
theorem putS_len (c : Int) (l : List Int) (i n : Int) : (putS c l i n).length = l.length := by
  unfold putS
  split <;> simp
theorem putGo_len (c : Int) : ∀ (a l : List Int) (i : Int), (putGo c l i a).length = l.length
  | [], l, i => rfl
  | n :: r, l, i => by rw [putGo, putGo_len c r, putS_len]
def putN (c : Int) (ns : List Int) (i : Int) : List Int := putGo c (List.replicate (roomW c ns.length).toNat 0) 0 (ns.take i.toNat)
theorem putN_zero (c : Int) (ns : List Int) : putN c ns 0 = List.replicate (roomW c ns.length).toNat 0 := by simp [putN, putGo]
theorem putN_succ (c : Int) (ns : List Int) {i : Int} (h0 : 0 ≤ i) (h : i < ns.length) : putN c ns (i + 1) = putS c (putN c ns i) i (ns.getD i.toNat 0) := by
  unfold putN
  have e : ns.take (i + 1).toNat = ns.take i.toNat ++ [ns.getD i.toNat 0] := by
    rw [show (i + 1).toNat = i.toNat + 1 by omega, List.getD_eq_getElem?_getD, List.getElem?_eq_getElem (show i.toNat < ns.length by omega), Option.getD_some]
    exact (List.take_append_getElem (by omega)).symm
  rw [e, putGo_append]
  simp only [putGo, List.length_take]
  congr 1
  omega
theorem putN_all (c : Int) (ns : List Int) : putN c ns ns.length = putW c ns := by simp [putN, putW]
theorem putN_len (c : Int) (ns : List Int) (i : Int) : (putN c ns i).length = (roomW c ns.length).toNat := by simp [putN, putGo_len]
theorem room_at {c n i : Int} (hw : 1 ≤ wd c) (h0 : 0 ≤ i) (h1 : i < n) (h2 : n ≤ 1099511627776) : i * wd c / 64 < roomW c n ∧ 0 ≤ i * wd c / 64 := by
  unfold roomW
  rw [if_neg (by omega)]
  rcases wd_div c with e | e | e | e | e | e
  · omega
  all_goals (rw [e]; omega)
def usedB (c i : Int) (q : Nat) : Nat := min 64 (i * wd c - 64 * q).toNat
def PutI (c : Int) (l : List Int) (i : Int) : Prop := ∀ q : Nat, 0 ≤ l.getD q 0 ∧ l.getD q 0 < 2 ^ usedB c i q
theorem used_at {c i : Int} (hw : 1 ≤ wd c) (h0 : 0 ≤ i) (h2 : i ≤ 1099511627776) : usedB c i (i * wd c / 64).toNat = (i * wd c % 64).toNat ∧ usedB c (i + 1) (i * wd c / 64).toNat = (i * wd c % 64).toNat + (wd c).toNat := by
  unfold usedB
  rcases wd_div c with e | e | e | e | e | e
  · omega
  all_goals (rw [e]; constructor <;> omega)
theorem used_mono (c i : Int) (q : Nat) (hw : 1 ≤ wd c) : usedB c i q ≤ usedB c (i + 1) q := by
  unfold usedB
  have : i * wd c ≤ (i + 1) * wd c := by rw [Int.add_mul]; omega
  omega
theorem pow_le_pow {a b : Nat} (h : a ≤ b) : (2 : Int) ^ a ≤ 2 ^ b := by
  have e : ∀ k : Nat, (2 : Int) ^ k = ((2 ^ k : Nat) : Int) := fun k => by simp
  rw [e, e]
  exact Int.ofNat_le.2 (Nat.pow_le_pow_right (by decide) h)
theorem put_num {x n : Int} {a w : Nat} (hx : 0 ≤ x) (hx' : x < 2 ^ a) (hn : 0 ≤ n) (hn' : n < 2 ^ w) : 0 ≤ x + n * 2 ^ a ∧ x + n * 2 ^ a < 2 ^ (a + w) ∧ 0 ≤ n * 2 ^ a := by
  have hp := pow2_pos a
  have h1 : 0 ≤ n * 2 ^ a := Int.mul_nonneg hn (Int.le_of_lt hp)
  have h2 : (n + 1) * 2 ^ a ≤ 2 ^ w * 2 ^ a := Int.mul_le_mul_of_nonneg_right (by omega) (Int.le_of_lt hp)
  rw [Int.add_mul, Int.one_mul] at h2
  rw [Int.pow_add, Int.mul_comm (2 ^ a)]
  omega
theorem fits_lt {c n : Int} (h : fits c n = true) : 0 ≤ wd c ∧ n < 2 ^ (wd c).toNat := by
  unfold fits at h
  exact of_decide_eq_true h
theorem putI_step {c : Int} {l : List Int} {i n : Int} (hw : 1 ≤ wd c) (h0 : 0 ≤ i) (h2 : i ≤ 1099511627776) (hn : 0 ≤ n) (hf : fits c n = true) (h : PutI c l i) : PutI c (putS c l i n) (i + 1) := by
  intro q
  unfold putS
  rw [if_neg (by omega)]
  have hu := used_at hw h0 h2
  rw [List.getD_eq_getElem?_getD, List.getElem?_set]
  by_cases hq : (i * wd c / 64).toNat = q
  · subst hq
    rw [if_pos rfl]
    have hq := h (i * wd c / 64).toNat
    rw [hu.1] at hq
    have := put_num hq.1 hq.2 hn (fits_lt hf).2
    by_cases hl : (i * wd c / 64).toNat < l.length
    · rw [if_pos hl, hu.2]
      simp only [Option.getD_some]
      omega
    · rw [if_neg hl]
      simp only [Option.getD_none]
      exact ⟨by decide, pow2_pos _⟩
  · rw [if_neg hq, ← List.getD_eq_getElem?_getD]
    have hm := pow_le_pow (used_mono c i q hw)
    have := h q
    omega
theorem putI_zero (c : Int) (k : Nat) : PutI c (List.replicate k 0) 0 := by
  intro q
  have : (List.replicate k (0 : Int)).getD q 0 = 0 := by
    rw [List.getD_eq_getElem?_getD, List.getElem?_replicate]
    split <;> rfl
  rw [this]
  exact ⟨by decide, pow2_pos _⟩
theorem fitsA_get {c : Int} {ns : List Int} (h : fitsA c ns = true) {i : Nat} (hi : i < ns.length) : fits c (ns.getD i 0) = true := by
  unfold fitsA at h
  rw [Bool.and_eq_true, List.all_eq_true] at h
  rw [List.getD_eq_getElem?_getD, List.getElem?_eq_getElem hi]
  exact h.2 _ (List.getElem_mem hi)
theorem putN_inv {c : Int} {ns : List Int} (hw : 1 ≤ wd c) (hn : okW ns) (hl : (ns.length : Int) ≤ 1099511627776) : ∀ (k : Nat), k ≤ ns.length → (∀ j, j < k → fits c (ns.getD j 0) = true) → PutI c (putN c ns k) k := by
  intro k
  induction k with
  | zero => intro _ _; rw [show ((0 : Nat) : Int) = 0 from rfl, putN_zero]; exact putI_zero c _
  | succ k ih =>
    intro hk hf
    rw [show ((k + 1 : Nat) : Int) = (k : Int) + 1 by omega, putN_succ c ns (by omega) (by omega)]
    have := hf k (by omega)
    exact putI_step hw (by omega) (by omega) (getD_word hn _).1 (by simpa using this) (ih (by omega) fun j hj => hf j (by omega))
theorem putI_okW {c : Int} {l : List Int} {i : Int} (h : PutI c l i) : okW l := by
  intro x hx
  obtain ⟨q, hq, rfl⟩ := List.getElem_of_mem hx
  have := h q
  rw [List.getD_eq_getElem?_getD, List.getElem?_eq_getElem hq, Option.getD_some] at this
  have hp := pow_le_pow (show usedB c i q ≤ 64 by unfold usedB; omega)
  have h64 : (2 : Int) ^ 64 = 18446744073709551616 := rfl
  omega
theorem get_stay {x m : Int} {a w s : Nat} (h : a + w ≤ s) : (x + m * 2 ^ s) / 2 ^ a % 2 ^ w = x / 2 ^ a % 2 ^ w := by
  have hp := pow2_pos a
  obtain ⟨t, rfl⟩ := Nat.exists_eq_add_of_le h
  rw [Int.pow_add, Int.pow_add, show m * (2 ^ a * 2 ^ w * 2 ^ t) = 2 ^ a * (2 ^ w * (2 ^ t * m)) by simp only [Int.mul_comm, Int.mul_left_comm, Int.mul_assoc]]
  rw [Int.add_mul_ediv_left _ _ (by omega), Int.add_mul_emod_self_left]
theorem get_new {x n : Int} {a w : Nat} (hx : 0 ≤ x) (hx' : x < 2 ^ a) (hn : 0 ≤ n) (hn' : n < 2 ^ w) : (x + n * 2 ^ a) / 2 ^ a % 2 ^ w = n := by
  rw [Int.add_mul_ediv_right _ _ (by have := pow2_pos a; omega), Int.ediv_eq_zero_of_lt hx hx', Int.zero_add, Int.emod_eq_of_lt hn hn']
theorem apart_at {c i j : Int} (hw : 1 ≤ wd c) (h0 : 0 ≤ j) (h1 : j < i) (h2 : i ≤ 1099511627776) (h : i * wd c / 64 = j * wd c / 64) : (j * wd c % 64).toNat + (wd c).toNat ≤ (i * wd c % 64).toNat := by
  rcases wd_div c with e | e | e | e | e | e
  · omega
  all_goals (rw [e] at h ⊢; omega)
theorem getW_put {c : Int} {ns : List Int} (hw : 1 ≤ wd c) (hn : okW ns) (hl : (ns.length : Int) ≤ 1099511627776) (hf : fitsA c ns = true) {j : Int} (h0 : 0 ≤ j) :
    ∀ (k : Nat), k ≤ ns.length → j < k → getW (putN c ns k) c j = ns.getD j.toNat 0 := by
  intro k
  induction k with
  | zero => intro _ h; omega
  | succ k ih =>
    intro hk hj
    have hinv := putN_inv hw hn hl k (by omega) fun j hj => fitsA_get hf (by omega)
    obtain ⟨r1, r2⟩ := room_at hw (i := k) (n := ns.length) (by omega) (by omega) hl
    obtain ⟨s1, s2⟩ := room_at hw (i := j) (n := ns.length) (by omega) (by omega) hl
    rw [getW_eq hw h0 (by omega), show ((k + 1 : Nat) : Int) = (k : Int) + 1 by omega, putN_succ c ns (by omega) (by omega)]
    unfold wordW putS
    rw [if_neg (by omega : ¬ wd c < 1), if_neg (by rw [List.length_set, putN_len]; omega), List.getD_eq_getElem?_getD, List.getElem?_set]
    by_cases hq : ((k : Int) * wd c / 64).toNat = (j * wd c / 64).toNat
    · rw [if_pos hq, if_pos (by rw [putN_len]; omega), Option.getD_some]
      by_cases hjk : j = k
      · subst hjk
        have hu := used_at hw (i := (k : Int)) (by omega) (by omega)
        have hI := hinv ((k : Int) * wd c / 64).toNat
        rw [hu.1] at hI
        exact get_new hI.1 hI.2 (getD_word hn _).1 (fits_lt (fitsA_get hf (by omega))).2
      · have hlt : j < k := by omega
        rw [get_stay (apart_at hw h0 hlt (by omega) (by omega)), ← ih (by omega) hlt, getW_eq hw h0 (by omega)]
        unfold wordW
        rw [if_neg (by rw [putN_len]; omega), hq]
    · rw [if_neg hq, ← List.getD_eq_getElem?_getD]
      have hlt : j < k := by
        rcases Int.lt_or_le j k with h | h
        · exact h
        · have : j = k := by omega
          subst this; exact absurd rfl hq
      rw [← ih (by omega) hlt, getW_eq hw h0 (by omega)]
      unfold wordW
      rw [if_neg (by rw [putN_len]; omega)]
theorem getW_putW {c : Int} {ns : List Int} (hw : 1 ≤ wd c) (hn : okW ns) (hl : (ns.length : Int) ≤ 1099511627776) (hf : fitsA c ns = true) {j : Int} (h0 : 0 ≤ j) (h1 : j < ns.length) : getW (putW c ns) c j = ns.getD j.toNat 0 := by
  rw [← putN_all]
  exact getW_put hw hn hl hf h0 ns.length (Nat.le_refl _) h1
theorem putW_okW {c : Int} {ns : List Int} (hn : okW ns) (hl : (ns.length : Int) ≤ 1099511627776) (hf : fitsA c ns = true) : okW (putW c ns) := by
  by_cases hw : 1 ≤ wd c
  · rw [← putN_all]
    exact putI_okW (putN_inv hw hn hl ns.length (Nat.le_refl _) fun j hj => fitsA_get hf hj)
  · have : putW c ns = List.replicate (roomW c ns.length).toNat 0 := by
      unfold putW
      have : ∀ (a l : List Int) (i : Int), putGo c l i a = l := by
        intro a
        induction a with
        | nil => intro l i; rfl
        | cons n r ih => intro l i; rw [putGo, ih]; unfold putS; rw [if_pos (by omega)]
      exact this _ _ _
    rw [this]
    intro x hx
    have := (List.mem_replicate.1 hx).2
    omega
theorem putW_len (c : Int) (ns : List Int) : (putW c ns).length = (roomW c ns.length).toNat := by rw [← putN_all, putN_len]
end Go.AM.Ythokdjgpdonhgaa

namespace Go.AM
def clampI (n t : Int) : Int := if n < 0 then 0 else if t < n then t else n
def limV (x : Limits) : Limits := ⟨clampI x.depth 64, clampI x.weight 65536, clampI x.maxD 4096, clampI x.maxOut 131072⟩
def ownX (x : XRef) : Int := if x.kind = 1 then 1 + x.data + x.ptrs else if x.kind = 9 then 1 + x.count * (1 + x.data + x.ptrs) else 1 + x.count
def loopM (f : Int → Int → Tree × Int × Int) : Nat → Int → Int → List Tree → List Tree × Int × Int
  | 0, _, left, acc => (acc, left, 0)
  | n + 1, i, left, acc => if (f i left).2.2 = 0 then loopM f n (i + 1) (f i left).2.1 (acc ++ [(f i left).1]) else (acc, (f i left).2)
def kidsM (l : List (List Int)) (m : XRef → Int → Tree × Int × Int) (x : XRef) (left : Int) : Tree × Int × Int :=
  (⟨1, wordsX l x, (loopM (fun j left => if (kidX l x j).2 = 0 then m (kidX l x j).1 left else (Tree.nil, left, (kidX l x j).2)) x.ptrs.toNat 0 left []).1⟩,
    (loopM (fun j left => if (kidX l x j).2 = 0 then m (kidX l x j).1 left else (Tree.nil, left, (kidX l x j).2)) x.ptrs.toNat 0 left []).2)
def kidM (l : List (List Int)) (m m' : XRef → Int → Tree × Int × Int) (x : XRef) (i left : Int) : Tree × Int × Int :=
  if (kidX l x i).2 = 0 then
    if x.kind = 9 then kidsM l m' (kidX l x i).1 left
    else if x.kind = 1 ∨ x.kind = 8 then m (kidX l x i).1 left
    else (⟨(kidX l x i).1.kind, wordsX l (kidX l x i).1, []⟩, left, 0)
  else (Tree.nil, left, (kidX l x i).2)
def stepM (l : List (List Int)) (d : Nat) (m m' : XRef → Int → Tree × Int × Int) (x : XRef) (left : Int) : Tree × Int × Int :=
  if x.kind = 0 then (⟨0, wordsX l x, []⟩, left, 0)
  else if d = 0 ∨ (x.kind = 9 ∧ 0 < x.count ∧ d < 2) ∨ left < ownX x then (⟨x.kind, wordsX l x, []⟩, left, 3)
  else (⟨x.kind, wordsX l x, (loopM (kidM l m m' x) (kidsX x).toNat 0 (left - ownX x) []).1⟩, (loopM (kidM l m m' x) (kidsX x).toNat 0 (left - ownX x) []).2)
def mean (l : List (List Int)) : Nat → XRef → Int → Tree × Int × Int
  | 0 => stepM l 0 (fun _ left => (Tree.nil, left, 3)) (fun _ left => (Tree.nil, left, 3))
  | 1 => stepM l 1 (mean l 0) (fun _ left => (Tree.nil, left, 3))
  | d + 2 => stepM l (d + 2) (mean l (d + 1)) (mean l d)
def kidV (l : List (List Int)) (d : Nat) (x : XRef) (i left : Int) : Int × Int :=
  if (kidX l x i).2 = 0 then (if x.kind = 9 then (kidsM l (mean l d) (kidX l x i).1 left).2 else (mean l d (kidX l x i).1 left).2) else (left, (kidX l x i).2)
def unfV (l : List (List Int)) (x : Limits) : Tree × Int × Int :=
  if (refAt l 0 0).2 = 0 then
    if (mean l (limV x).depth.toNat (refAt l 0 0).1 (limV x).weight).2.2 = 0 then
      ((mean l (limV x).depth.toNat (refAt l 0 0).1 (limV x).weight).1, (limV x).weight - (mean l (limV x).depth.toNat (refAt l 0 0).1 (limV x).weight).2.1, 0)
    else (Tree.nil, 0, (mean l (limV x).depth.toNat (refAt l 0 0).1 (limV x).weight).2.2)
  else (Tree.nil, 0, (refAt l 0 0).2)
theorem ownX_pos {l : List (List Int)} {x : XRef} (h : OkX l x) : 1 ≤ ownX x := by
  have h1 := h.data
  have h2 := h.ptrs
  have h3 := h.count
  unfold ownX
  split
  · omega
  · split
    · have := Int.mul_nonneg h3.1 (show 0 ≤ 1 + x.data + x.ptrs by omega); omega
    · omega
theorem kidsX_le {l : List (List Int)} {x : XRef} (h : OkX l x) : 0 ≤ kidsX x ∧ kidsX x + 1 ≤ ownX x := by
  have h1 := h.data
  have h2 := h.ptrs
  have h3 := h.count
  unfold ownX kidsX
  split
  · omega
  · split
    · have : x.count * 1 ≤ x.count * (1 + x.data + x.ptrs) := Int.mul_le_mul_of_nonneg_left (by omega) h3.1
      omega
    · omega
def Fine (r : Tree × Int × Int) (left : Int) : Prop := 0 ≤ r.2.1 ∧ r.2.1 ≤ left
theorem loopM_fine {f : Int → Int → Tree × Int × Int} (hf : ∀ i left, 0 ≤ left → Fine (f i left) left) : ∀ (n : Nat) (i left : Int) (acc : List Tree), 0 ≤ left → 0 ≤ (loopM f n i left acc).2.1 ∧ (loopM f n i left acc).2.1 ≤ left
  | 0, _, left, _, h => ⟨h, Int.le_refl _⟩
  | n + 1, i, left, acc, h => by
    have h1 := hf i left h
    simp only [loopM]
    split
    · have := loopM_fine hf n (i + 1) (f i left).2.1 (acc ++ [(f i left).1]) h1.1
      exact ⟨this.1, Int.le_trans this.2 h1.2⟩
    · exact h1
def FineM (l : List (List Int)) (m : XRef → Int → Tree × Int × Int) : Prop := ∀ x left, OkX l x → 0 ≤ left → Fine (m x left) left
theorem kidsM_fine {l : List (List Int)} (hl : okSeg l) {m : XRef → Int → Tree × Int × Int} (hm : FineM l m) {x : XRef} (hx : OkX l x) (left : Int) (h : 0 ≤ left) : Fine (kidsM l m x left) left := by
  refine loopM_fine (fun j left h => ?_) _ _ _ _ h
  split
  · exact hm _ _ (okX_kid hl hx _) h
  · exact ⟨h, Int.le_refl _⟩
theorem kidM_fine {l : List (List Int)} (hl : okSeg l) {m m' : XRef → Int → Tree × Int × Int} (hm : FineM l m) (hm' : FineM l m') {x : XRef} (hx : OkX l x) (i left : Int) (h : 0 ≤ left) : Fine (kidM l m m' x i left) left := by
  unfold kidM
  split
  · split
    · exact kidsM_fine hl hm' (okX_kid hl hx _) _ h
    · split
      · exact hm _ _ (okX_kid hl hx _) h
      · exact ⟨h, Int.le_refl _⟩
  · exact ⟨h, Int.le_refl _⟩
theorem stepM_fine {l : List (List Int)} (hl : okSeg l) {d : Nat} {m m' : XRef → Int → Tree × Int × Int} (hm : FineM l m) (hm' : FineM l m') : FineM l (stepM l d m m') := by
  intro x left hx h
  unfold stepM
  split
  · exact ⟨h, Int.le_refl _⟩
  · split
    · exact ⟨h, Int.le_refl _⟩
    · have h1 := ownX_pos hx
      have := loopM_fine (f := kidM l m m' x) (fun i left h => kidM_fine hl hm hm' hx i left h) (kidsX x).toNat 0 (left - ownX x) [] (by omega)
      exact ⟨this.1, by have := this.2; dsimp only; omega⟩
theorem none_fine {l : List (List Int)} : FineM l (fun _ left => (Tree.nil, left, 3)) := fun _ _ _ h => ⟨h, Int.le_refl _⟩
theorem mean_fine {l : List (List Int)} (hl : okSeg l) : ∀ d : Nat, FineM l (mean l d) := by
  intro d
  induction d using Nat.strongRecOn with
  | ind d ih =>
    match d with
    | 0 => exact stepM_fine hl none_fine none_fine
    | 1 => exact stepM_fine hl (ih 0 (by omega)) none_fine
    | d + 2 => exact stepM_fine hl (ih (d + 1) (by omega)) (ih d (by omega))
theorem mean_eq {l : List (List Int)} {d : Nat} {x : XRef} {left : Int} (h : 1 ≤ d) : mean l d x left = stepM l d (mean l (d - 1)) (mean l (d - 2)) x left := by
  match d, h with
  | 1, _ =>
    show stepM l 1 (mean l 0) _ x left = stepM l 1 (mean l 0) (mean l 0) x left
    unfold stepM
    split
    · rfl
    · split
      · rfl
      · rename_i h0 h1
        have h9 : x.kind = 9 → x.count ≤ 0 := fun e => by
          by_cases hc : 0 < x.count
          · exact absurd (.inr (.inl ⟨e, hc, by decide⟩)) h1
          · omega
        have : ∀ a b, kidM l (mean l 0) a x = kidM l (mean l 0) b x ∨ (kidsX x).toNat = 0 := fun a b => by
          by_cases e : x.kind = 9
          · right
            have := h9 e
            unfold kidsX
            rw [if_neg (by omega)]
            omega
          · left
            funext i left
            unfold kidM
            rw [if_neg e, if_neg e]
        rcases this (fun _ left => (Tree.nil, left, 3)) (mean l 0) with e | e
        · rw [e]
        · rw [e]; rfl
  | d + 2, _ => rfl
theorem mean_zero {l : List (List Int)} {x : XRef} {left : Int} : mean l 0 x left = if x.kind = 0 then (⟨0, wordsX l x, []⟩, left, 0) else (⟨x.kind, wordsX l x, []⟩, left, 3) := by
  show stepM l 0 _ _ x left = _
  unfold stepM
  split
  · rfl
  · rw [if_pos (.inl rfl)]
end Go.AM
