import Derived.Test.YthokdjgpdonhgaaQB6
import Derived.Test.YthokdjgpdonhgaaRows
import Derived.Test.YthokdjgpdonhgaaBmX
import Derived.ProofKit
set_option linter.unusedSimpArgs false
set_option linter.unusedVariables false
namespace Go.AM.Ythokdjgpdonhgaa
open Go.AM Go.Proofs

def args64 : ArgL (Ref × Int × Unit) := (.cons (aEl .ref) (.cons (aInt .i64) .nil))
def pre64 (a : Ref × Int × Unit) : Prop := okA (Ref.a a.1) ∧ 0 ≤ a.2.1 ∧ Ref.number a.1 = 0 ∧ hasN (segO (Ref.a a.1)) (Ref.segment a.1) (Ref.at_ a.1) (a.2.1 + 1) = true
noncomputable def res64 (a : Ref × Int × Unit) : V U := .tup [(true, [.po (U := U) .arena (Ref.a (liftX (Ref.a a.1) (compX (segO (Ref.a a.1)) (Ref.segment a.1) (Ref.at_ a.1) a.2.1).1)), .int .i64 (Ref.kind (liftX (Ref.a a.1) (compX (segO (Ref.a a.1)) (Ref.segment a.1) (Ref.at_ a.1) a.2.1).1)), .int .i64 (Ref.segment (liftX (Ref.a a.1) (compX (segO (Ref.a a.1)) (Ref.segment a.1) (Ref.at_ a.1) a.2.1).1)), .int .i64 (Ref.at_ (liftX (Ref.a a.1) (compX (segO (Ref.a a.1)) (Ref.segment a.1) (Ref.at_ a.1) a.2.1).1)), .int .i64 (Ref.data (liftX (Ref.a a.1) (compX (segO (Ref.a a.1)) (Ref.segment a.1) (Ref.at_ a.1) a.2.1).1)), .int .i64 (Ref.kids (liftX (Ref.a a.1) (compX (segO (Ref.a a.1)) (Ref.segment a.1) (Ref.at_ a.1) a.2.1).1)), .int .i64 (Ref.count (liftX (Ref.a a.1) (compX (segO (Ref.a a.1)) (Ref.segment a.1) (Ref.at_ a.1) a.2.1).1)), .int .u64 (Ref.number (liftX (Ref.a a.1) (compX (segO (Ref.a a.1)) (Ref.segment a.1) (Ref.at_ a.1) a.2.1).1))]), (false, [.int .i64 ((compX (segO (Ref.a a.1)) (Ref.segment a.1) (Ref.at_ a.1) a.2.1).2)])]
noncomputable def spec64 : Fs U := fs args64 (fun a => [pre64 a]) res64

def args26 : ArgL (Option Arena × Int × Int × Unit) := (.cons (aPo .arena) (.cons (aInt .i64) (.cons (aInt .i64) .nil)))
def pre26 (a : Option Arena × Int × Int × Unit) : Prop := okA a.1
noncomputable def res26 (a : Option Arena × Int × Int × Unit) : V U := .tup [(true, [.po (U := U) .arena (Ref.a (liftX a.1 (refAt (segO a.1) a.2.1 a.2.2.1).1)), .int .i64 (Ref.kind (liftX a.1 (refAt (segO a.1) a.2.1 a.2.2.1).1)), .int .i64 (Ref.segment (liftX a.1 (refAt (segO a.1) a.2.1 a.2.2.1).1)), .int .i64 (Ref.at_ (liftX a.1 (refAt (segO a.1) a.2.1 a.2.2.1).1)), .int .i64 (Ref.data (liftX a.1 (refAt (segO a.1) a.2.1 a.2.2.1).1)), .int .i64 (Ref.kids (liftX a.1 (refAt (segO a.1) a.2.1 a.2.2.1).1)), .int .i64 (Ref.count (liftX a.1 (refAt (segO a.1) a.2.1 a.2.2.1).1)), .int .u64 (Ref.number (liftX a.1 (refAt (segO a.1) a.2.1 a.2.2.1).1))]), (false, [.int .i64 ((refAt (segO a.1) a.2.1 a.2.2.1).2)])]
noncomputable def spec26 : Fs U := fs args26 (fun a => [pre26 a]) res26

def args21 : ArgL (Option Arena × Unit) := (.cons (aPo .arena) .nil)
def pre21 (a : Option Arena × Unit) : Prop := okA a.1
noncomputable def res21 (a : Option Arena × Unit) : V U := .tup [(true, [.po (U := U) .arena (Ref.a (liftX a.1 (refAt (segO a.1) 0 0).1)), .int .i64 (Ref.kind (liftX a.1 (refAt (segO a.1) 0 0).1)), .int .i64 (Ref.segment (liftX a.1 (refAt (segO a.1) 0 0).1)), .int .i64 (Ref.at_ (liftX a.1 (refAt (segO a.1) 0 0).1)), .int .i64 (Ref.data (liftX a.1 (refAt (segO a.1) 0 0).1)), .int .i64 (Ref.kids (liftX a.1 (refAt (segO a.1) 0 0).1)), .int .i64 (Ref.count (liftX a.1 (refAt (segO a.1) 0 0).1)), .int .u64 (Ref.number (liftX a.1 (refAt (segO a.1) 0 0).1))]), (false, [.int .i64 ((refAt (segO a.1) 0 0).2)])]
noncomputable def spec21 : Fs U := fs args21 (fun a => [pre21 a]) res21

def args22 : ArgL (Ref × Unit) := (.cons (aEl .ref) .nil)
def pre22 (a : Ref × Unit) : Prop := True
noncomputable def res22 (a : Ref × Unit) : V U := .c (.int .i64 (Ref.kind a.1))
noncomputable def spec22 : Fs U := fs args22 (fun a => [pre22 a]) res22

def args59 : ArgL (Ref × Unit) := (.cons (aEl .ref) .nil)
def pre59 (a : Ref × Unit) : Prop := True
noncomputable def res59 (a : Ref × Unit) : V U := .c (.int .i64 (lenR a.1))
noncomputable def spec59 : Fs U := fs args59 (fun a => [pre59 a]) res59

def args23 : ArgL (Ref × Unit) := (.cons (aEl .ref) .nil)
def pre23 (a : Ref × Unit) : Prop := True
noncomputable def res23 (a : Ref × Unit) : V U := .c (.int .i64 (kidsR a.1))
noncomputable def spec23 : Fs U := fs args23 (fun a => [pre23 a]) res23

def args68 : ArgL (Ref × Unit) := (.cons (aEl .ref) .nil)
def pre68 (a : Ref × Unit) : Prop := True
noncomputable def res68 (a : Ref × Unit) : V U := .tup [(false, [.int .i64 (if Ref.kind a.1 = 9 then Ref.data a.1 else 0)]), (false, [.int .i64 (if Ref.kind a.1 = 9 then Ref.kids a.1 else 0)])]
noncomputable def spec68 : Fs U := fs args68 (fun a => [pre68 a]) res68

def args61 : ArgL (Ref × Int × Unit) := (.cons (aEl .ref) (.cons (aInt .i64) .nil))
def pre61 (a : Ref × Int × Unit) : Prop := okR a.1 ∧ 2 ≤ Ref.kind a.1 ∧ Ref.kind a.1 ≤ 7 ∧ 0 ≤ a.2.1 ∧ a.2.1 < Ref.count a.1
noncomputable def res61 (a : Ref × Int × Unit) : V U := .c (.int .u64 (getW (List.drop (Int.toNat (Ref.at_ a.1)) (segAt (segO (Ref.a a.1)) (Ref.segment a.1))) (Ref.kind a.1 - 2) a.2.1))
noncomputable def spec61 : Fs U := fs args61 (fun a => [pre61 a]) res61

def args24 : ArgL (Ref × Int × Unit) := (.cons (aEl .ref) (.cons (aInt .i64) .nil))
def pre24 (a : Ref × Int × Unit) : Prop := okR a.1
noncomputable def res24 (a : Ref × Int × Unit) : V U := .tup [(true, [.po (U := U) .arena (Ref.a (liftX (Ref.a a.1) (kidX (segO (Ref.a a.1)) (unX a.1) a.2.1).1)), .int .i64 (Ref.kind (liftX (Ref.a a.1) (kidX (segO (Ref.a a.1)) (unX a.1) a.2.1).1)), .int .i64 (Ref.segment (liftX (Ref.a a.1) (kidX (segO (Ref.a a.1)) (unX a.1) a.2.1).1)), .int .i64 (Ref.at_ (liftX (Ref.a a.1) (kidX (segO (Ref.a a.1)) (unX a.1) a.2.1).1)), .int .i64 (Ref.data (liftX (Ref.a a.1) (kidX (segO (Ref.a a.1)) (unX a.1) a.2.1).1)), .int .i64 (Ref.kids (liftX (Ref.a a.1) (kidX (segO (Ref.a a.1)) (unX a.1) a.2.1).1)), .int .i64 (Ref.count (liftX (Ref.a a.1) (kidX (segO (Ref.a a.1)) (unX a.1) a.2.1).1)), .int .u64 (Ref.number (liftX (Ref.a a.1) (kidX (segO (Ref.a a.1)) (unX a.1) a.2.1).1))]), (false, [.int .i64 ((kidX (segO (Ref.a a.1)) (unX a.1) a.2.1).2)])]
noncomputable def spec24 : Fs U := fs args24 (fun a => [pre24 a]) res24

noncomputable def know64 : List (FuncId × Fs U) := [(62, spec62), (86, spec86)]
def lv64 : Lives U := fun i => match i with
  | 0 => ([(1, []), (2, []), (4, [])], [((.loc 2), []), ((.loc 4), [])])
  | 1 => ([(1, []), (2, []), (4, []), (6, [])], [((.loc 2), []), ((.loc 4), [])])
  | 2 => ([(1, []), (2, []), (4, []), (6, []), (8, [])], [((.loc 2), []), ((.loc 4), []), ((.loc 8), [])])
  | 3 => ([(2, []), (4, []), (8, []), (44, [])], [((.loc 2), []), ((.loc 4), []), ((.loc 8), [])])
  | 4 => ([(4, []), (5, [])], [((.loc 4), [])])
  | 5 => ([(2, []), (4, []), (8, [])], [((.loc 2), []), ((.loc 4), []), ((.loc 8), [])])
  | 6 => ([(2, []), (4, [])], [((.loc 2), []), ((.loc 4), [])])
  | 7 => ([(4, []), (5, [])], [((.loc 4), [])])
  | _ => ([], [])
noncomputable abbrev A64 (p : List Nat) := awp cfg (know know64) (drawOk cfg (know know64)) Try.f64.ntmps lv64 (cd Try.f64 p)
theorem vc64 (r : Ref) (n : Int) (Q : AExit → LSt U → Prop) (h : ∀ y_1, y_1 = (decP (if hasN (segO (Ref.a r)) (Ref.segment r) (Ref.at_ r) 1 then getS (segO (Ref.a r)) (Ref.segment r) (Ref.at_ r) else 0)) → ((pre62 ((Ref.a r), (Ref.segment r), (Ref.at_ r), ())) ∧ ((pre86 ((if hasN (segO (Ref.a r)) (Ref.segment r) (Ref.at_ r) 1 then getS (segO (Ref.a r)) (Ref.segment r) (Ref.at_ r) else 0), ())) ∧ ((Tr ((((if hasN (segO (Ref.a r)) (Ref.segment r) (Ref.at_ r) 1 then getS (segO (Ref.a r)) (Ref.segment r) (Ref.at_ r) else 0) : Int) != 0) = true)) ∧ (Tr ((((if hasN (segO (Ref.a r)) (Ref.segment r) (Ref.at_ r) 1 then getS (segO (Ref.a r)) (Ref.segment r) (Ref.at_ r) else 0) : Int) != 0) = true)) ∧ ((Tr ((((if hasN (segO (Ref.a r)) (Ref.segment r) (Ref.at_ r) 1 then getS (segO (Ref.a r)) (Ref.segment r) (Ref.at_ r) else 0) : Int) != 0) = true))) ∧ (Tr ((!(bif (((if hasN (segO (Ref.a r)) (Ref.segment r) (Ref.at_ r) 1 then getS (segO (Ref.a r)) (Ref.segment r) (Ref.at_ r) else 0) : Int) != 0) then (((Ptr.kind y_1) : Int) != 1) else false)) = true)) ∧ (Tr ((!(bif (((if hasN (segO (Ref.a r)) (Ref.segment r) (Ref.at_ r) 1 then getS (segO (Ref.a r)) (Ref.segment r) (Ref.at_ r) else 0) : Int) != 0) then (((Ptr.kind y_1) : Int) != 1) else false)) = true)) ∧ (((bif (((if hasN (segO (Ref.a r)) (Ref.segment r) (Ref.at_ r) 1 then getS (segO (Ref.a r)) (Ref.segment r) (Ref.at_ r) else 0) : Int) != 0) then (((Ptr.kind y_1) : Int) != 1) else false) = false → (!(bif (((if hasN (segO (Ref.a r)) (Ref.segment r) (Ref.at_ r) 1 then getS (segO (Ref.a r)) (Ref.segment r) (Ref.at_ r) else 0) : Int) != 0) then (((Ptr.kind y_1) : Int) != 1) else false)) = true)) ∧ (Tr ((!(bif (bif (((if hasN (segO (Ref.a r)) (Ref.segment r) (Ref.at_ r) 1 then getS (segO (Ref.a r)) (Ref.segment r) (Ref.at_ r) else 0) : Int) != 0) then (((Ptr.kind y_1) : Int) != 1) else false) then true else (decide (((Ptr.off y_1) : Int) < 0)))) = true)) ∧ (Tr ((!(bif (bif (((if hasN (segO (Ref.a r)) (Ref.segment r) (Ref.at_ r) 1 then getS (segO (Ref.a r)) (Ref.segment r) (Ref.at_ r) else 0) : Int) != 0) then (((Ptr.kind y_1) : Int) != 1) else false) then true else (decide (((Ptr.off y_1) : Int) < 0)))) = true)) ∧ (Tr ((!(bif (bif (((if hasN (segO (Ref.a r)) (Ref.segment r) (Ref.at_ r) 1 then getS (segO (Ref.a r)) (Ref.segment r) (Ref.at_ r) else 0) : Int) != 0) then (((Ptr.kind y_1) : Int) != 1) else false) then true else (decide (((Ptr.off y_1) : Int) < 0)))) = true)) ∧ (Tr ((!(bif (bif (((if hasN (segO (Ref.a r)) (Ref.segment r) (Ref.at_ r) 1 then getS (segO (Ref.a r)) (Ref.segment r) (Ref.at_ r) else 0) : Int) != 0) then (((Ptr.kind y_1) : Int) != 1) else false) then true else (decide (((Ptr.off y_1) : Int) < 0)))) = true)) ∧ (Tr ((!(bif (bif (((if hasN (segO (Ref.a r)) (Ref.segment r) (Ref.at_ r) 1 then getS (segO (Ref.a r)) (Ref.segment r) (Ref.at_ r) else 0) : Int) != 0) then (((Ptr.kind y_1) : Int) != 1) else false) then true else (decide (((Ptr.off y_1) : Int) < 0)))) = true)) ∧ ((!(bif (bif (((if hasN (segO (Ref.a r)) (Ref.segment r) (Ref.at_ r) 1 then getS (segO (Ref.a r)) (Ref.segment r) (Ref.at_ r) else 0) : Int) != 0) then (((Ptr.kind y_1) : Int) != 1) else false) then true else (decide (((Ptr.off y_1) : Int) < 0)))) = true → InR (((Ptr.data y_1) : Int) + (Ptr.ptrs y_1))) ∧ (Tr ((!(bif (bif (((if hasN (segO (Ref.a r)) (Ref.segment r) (Ref.at_ r) 1 then getS (segO (Ref.a r)) (Ref.segment r) (Ref.at_ r) else 0) : Int) != 0) then (((Ptr.kind y_1) : Int) != 1) else false) then true else (decide (((Ptr.off y_1) : Int) < 0)))) = true)) ∧ (Tr ((!(bif (bif (((if hasN (segO (Ref.a r)) (Ref.segment r) (Ref.at_ r) 1 then getS (segO (Ref.a r)) (Ref.segment r) (Ref.at_ r) else 0) : Int) != 0) then (((Ptr.kind y_1) : Int) != 1) else false) then true else (decide (((Ptr.off y_1) : Int) < 0)))) = true)) ∧ ((!(bif (bif (((if hasN (segO (Ref.a r)) (Ref.segment r) (Ref.at_ r) 1 then getS (segO (Ref.a r)) (Ref.segment r) (Ref.at_ r) else 0) : Int) != 0) then (((Ptr.kind y_1) : Int) != 1) else false) then true else (decide (((Ptr.off y_1) : Int) < 0)))) = true → InR (((Ptr.off y_1) : Int) * (((Ptr.data y_1) : Int) + (Ptr.ptrs y_1)))) ∧ (Tr ((!(bif (bif (((if hasN (segO (Ref.a r)) (Ref.segment r) (Ref.at_ r) 1 then getS (segO (Ref.a r)) (Ref.segment r) (Ref.at_ r) else 0) : Int) != 0) then (((Ptr.kind y_1) : Int) != 1) else false) then true else (decide (((Ptr.off y_1) : Int) < 0)))) = true)) ∧ (Tr ((!(bif (bif (((if hasN (segO (Ref.a r)) (Ref.segment r) (Ref.at_ r) 1 then getS (segO (Ref.a r)) (Ref.segment r) (Ref.at_ r) else 0) : Int) != 0) then (((Ptr.kind y_1) : Int) != 1) else false) then true else (decide (((Ptr.off y_1) : Int) < 0)))) = true)) ∧ (((bif (bif (((if hasN (segO (Ref.a r)) (Ref.segment r) (Ref.at_ r) 1 then getS (segO (Ref.a r)) (Ref.segment r) (Ref.at_ r) else 0) : Int) != 0) then (((Ptr.kind y_1) : Int) != 1) else false) then true else (decide (((Ptr.off y_1) : Int) < 0))) = false → (!(bif (bif (((if hasN (segO (Ref.a r)) (Ref.segment r) (Ref.at_ r) 1 then getS (segO (Ref.a r)) (Ref.segment r) (Ref.at_ r) else 0) : Int) != 0) then (((Ptr.kind y_1) : Int) != 1) else false) then true else (decide (((Ptr.off y_1) : Int) < 0)))) = true)) ∧ (((bif (bif (bif (((if hasN (segO (Ref.a r)) (Ref.segment r) (Ref.at_ r) 1 then getS (segO (Ref.a r)) (Ref.segment r) (Ref.at_ r) else 0) : Int) != 0) then (((Ptr.kind y_1) : Int) != 1) else false) then true else (decide (((Ptr.off y_1) : Int) < 0))) then true else (decide ((n : Int) < (((Ptr.off y_1) : Int) * (((Ptr.data y_1) : Int) + (Ptr.ptrs y_1)))))) = true → (Q .ret (⟨[(4, .ptr (.loc 4) 0), (5, .c (.int .i64 8))], [((.loc 4), [.nilp, .int .i64 0, .int .i64 0, .int .i64 0, .int .i64 0, .int .i64 0, .int .i64 0, .int .u64 0])], []⟩ : LSt U))) ∧ ((bif (bif (bif (((if hasN (segO (Ref.a r)) (Ref.segment r) (Ref.at_ r) 1 then getS (segO (Ref.a r)) (Ref.segment r) (Ref.at_ r) else 0) : Int) != 0) then (((Ptr.kind y_1) : Int) != 1) else false) then true else (decide (((Ptr.off y_1) : Int) < 0))) then true else (decide ((n : Int) < (((Ptr.off y_1) : Int) * (((Ptr.data y_1) : Int) + (Ptr.ptrs y_1)))))) = false → (InR (((Ref.at_ r) : Int) + 1)) ∧ (((Q .ret (⟨[(4, .ptr (.loc 4) 0), (5, .c (.int .i64 0))], [((.loc 4), [.po (U := U) .arena (Ref.a r), .int .i64 9, .int .i64 (Ref.segment r), .int .i64 (((Ref.at_ r) : Int) + 1), .int .i64 (Ptr.data y_1), .int .i64 (Ptr.ptrs y_1), .int .i64 (Ptr.off y_1), .int .u64 (Ref.number r)])], []⟩ : LSt U)))))))))) :
    A64 [] (⟨[(0, .agg [.po (U := U) .arena (Ref.a r), .int .i64 (Ref.kind r), .int .i64 (Ref.segment r), .int .i64 (Ref.at_ r), .int .i64 (Ref.data r), .int .i64 (Ref.kids r), .int .i64 (Ref.count r), .int .u64 (Ref.number r)]), (1, .c (.int .i64 n))], [], []⟩ : LSt U) Q :=
  Eq.mpr (by kernel_rfl) (h _ rfl)
def Body64 (r : Ref) (n : Int)  : Prop := awp cfg (know (know64)) (drawOk cfg (know (know64))) Try.f64.ntmps lv64 (cd Try.f64 []) (entry (args64.can (r, n, ())) []) (EndsQ cfg Try.f64.ntmps Try.f64.results.toList (res64 (r, n, ())) [])
theorem make64 (c62 : Contract Try.prog cfg 62 spec62) (c86 : Contract Try.prog cfg 86 spec86) (hb : ∀ (r : Ref) (n : Int) (_ : Unit), pre64 (r, n, ()) → Body64 r n) : Contract Try.prog cfg 64 spec64 :=
  contract_flat (l := [(62, spec62), (86, spec86)]) cfgOk rfl (⟨c62, c86, trivial⟩) lv64 Try.func64 rfl rfl 2 (fun _ => rfl) (by decide) (fun ⟨r, n, _⟩ => hb r n ())

noncomputable def know26 : List (FuncId × Fs U) := [(63, spec63), (64, spec64)]
def lv26 : Lives U := fun i => match i with
  | 0 => ([(0, []), (1, []), (2, []), (6, [])], [((.loc 6), [])])
  | 1 => ([(0, []), (6, []), (8, []), (9, [])], [((.loc 6), []), ((.loc 8), [])])
  | 2 => ([(0, []), (6, []), (8, []), (9, []), (25, [])], [((.loc 6), []), ((.loc 8), [])])
  | 3 => ([(6, []), (7, [])], [((.loc 6), [])])
  | 4 => ([(6, []), (8, []), (10, [])], [((.loc 6), []), ((.loc 8), []), ((.loc 10), [])])
  | 5 => ([(6, []), (7, [])], [((.loc 6), [])])
  | 6 => ([(6, []), (8, []), (10, []), (41, [])], [((.loc 6), []), ((.loc 8), []), ((.loc 10), [])])
  | 7 => ([(6, []), (10, [])], [((.loc 6), []), ((.loc 10), [])])
  | 8 => ([(6, []), (8, []), (10, []), (55, [])], [((.loc 6), []), ((.loc 8), []), ((.loc 10), [])])
  | 9 => ([(6, []), (10, [])], [((.loc 6), []), ((.loc 10), [])])
  | 10 => ([(6, []), (8, []), (10, []), (69, [])], [((.loc 6), []), ((.loc 8), []), ((.loc 10), [])])
  | 11 => ([(6, []), (10, [])], [((.loc 6), []), ((.loc 10), [])])
  | 12 => ([(6, []), (7, [])], [((.loc 6), [])])
  | _ => ([], [])
noncomputable def head26_0 (a : Option Arena) (s : Int) (at_ : Int) (ml10_1 : Int) (ml10_4 : Int) (ml10_5 : Int) (ml10_6 : Int) : LSt U := (⟨[(6, .ptr (.loc 6) 0), (10, .ptr (.loc 10) 0)], [((.loc 6), [.nilp, .int .i64 0, .int .i64 0, .int .i64 0, .int .i64 0, .int .i64 0, .int .i64 0, .int .u64 0]), ((.loc 10), [.po (U := U) .arena a, .int .i64 ml10_1, .int .i64 (Loc.segment ((follow (segO a) s at_).1)), .int .i64 (Loc.at_ ((follow (segO a) s at_).1)), .int .i64 ml10_4, .int .i64 ml10_5, .int .i64 ml10_6, .int .u64 0])], []⟩ : LSt U)
noncomputable abbrev A26 (p : List Nat) := awp cfg (know know26) (drawOk cfg (know know26)) Try.f26.ntmps lv26 (cd Try.f26 p)
theorem vc26 (a : Option Arena) (s : Int) (at_ : Int) (Q : AExit → LSt U → Prop) (h : ∀ y_1, y_1 = (Ref.mk a 0 (Loc.segment ((follow (segO a) s at_).1)) (Loc.at_ ((follow (segO a) s at_).1)) 0 0 0 0) → ∀ y_2, y_2 = (compX (segO (Ref.a y_1)) (Ref.segment y_1) (Ref.at_ y_1) (Ptr.count (Loc.p ((follow (segO a) s at_).1)))) → ((pre63 (a, s, at_, ())) ∧ ((Tr ((!((((follow (segO a) s at_).2) : Int) != 0)) = true)) ∧ (Tr ((!((((follow (segO a) s at_).2) : Int) != 0)) = true)) ∧ (Tr ((!((((follow (segO a) s at_).2) : Int) != 0)) = true)) ∧ ((((((follow (segO a) s at_).2) : Int) != 0) = false → (!((((follow (segO a) s at_).2) : Int) != 0)) = true)) ∧ (((bif ((((follow (segO a) s at_).2) : Int) != 0) then true else (((Ptr.kind (Loc.p ((follow (segO a) s at_).1))) : Int) == 0)) = true → (Q .ret (⟨[(6, .ptr (.loc 6) 0), (7, .c (.int .i64 ((follow (segO a) s at_).2)))], [((.loc 6), [.nilp, .int .i64 0, .int .i64 0, .int .i64 0, .int .i64 0, .int .i64 0, .int .i64 0, .int .u64 0])], []⟩ : LSt U))) ∧ ((bif ((((follow (segO a) s at_).2) : Int) != 0) then true else (((Ptr.kind (Loc.p ((follow (segO a) s at_).1))) : Int) == 0)) = false → ((((((Ptr.kind (Loc.p ((follow (segO a) s at_).1))) : Int) == 1) = true → (A26 [1, 1, 1, 1, 1] (head26_0 a s at_ 1 (Ptr.data (Loc.p ((follow (segO a) s at_).1))) (Ptr.ptrs (Loc.p ((follow (segO a) s at_).1))) 0) Q)) ∧ ((((Ptr.kind (Loc.p ((follow (segO a) s at_).1))) : Int) == 1) = false → (((decide (((Ptr.code (Loc.p ((follow (segO a) s at_).1))) : Int) < 6)) = true → (InR ((2 : Int) + (Ptr.code (Loc.p ((follow (segO a) s at_).1))))) ∧ (A26 [1, 1, 1, 1, 1] (head26_0 a s at_ ((2 : Int) + (Ptr.code (Loc.p ((follow (segO a) s at_).1)))) 0 0 (Ptr.count (Loc.p ((follow (segO a) s at_).1)))) Q)) ∧ ((decide (((Ptr.code (Loc.p ((follow (segO a) s at_).1))) : Int) < 6)) = false → (((((Ptr.code (Loc.p ((follow (segO a) s at_).1))) : Int) == 6) = true → (A26 [1, 1, 1, 1, 1] (head26_0 a s at_ 8 0 0 (Ptr.count (Loc.p ((follow (segO a) s at_).1)))) Q)) ∧ ((((Ptr.code (Loc.p ((follow (segO a) s at_).1))) : Int) == 6) = false → (pre64 (y_1, (Ptr.count (Loc.p ((follow (segO a) s at_).1))), ())) ∧ (Q .ret (⟨[(6, .ptr (.loc 6) 0), (7, .c (.int .i64 (y_2.2)))], [((.loc 6), [.po (U := U) .arena (Ref.a (liftX (Ref.a y_1) y_2.1)), .int .i64 (Ref.kind (liftX (Ref.a y_1) y_2.1)), .int .i64 (Ref.segment (liftX (Ref.a y_1) y_2.1)), .int .i64 (Ref.at_ (liftX (Ref.a y_1) y_2.1)), .int .i64 (Ref.data (liftX (Ref.a y_1) y_2.1)), .int .i64 (Ref.kids (liftX (Ref.a y_1) y_2.1)), .int .i64 (Ref.count (liftX (Ref.a y_1) y_2.1)), .int .u64 (Ref.number (liftX (Ref.a y_1) y_2.1))])], []⟩ : LSt U)))))))))))))) :
    A26 [] (⟨[(0, .c (.po (U := U) .arena a)), (1, .c (.int .i64 s)), (2, .c (.int .i64 at_))], [], []⟩ : LSt U) Q :=
  Eq.mpr (by kernel_rfl) (h _ rfl _ rfl)
theorem vc26_c0 (a : Option Arena) (s : Int) (at_ : Int) (ml10_1 : Int) (ml10_4 : Int) (ml10_5 : Int) (ml10_6 : Int) (Q : AExit → LSt U → Prop) (h : (Q .ret (⟨[(6, .ptr (.loc 6) 0), (7, .c (.int .i64 0))], [((.loc 6), [.po (U := U) .arena a, .int .i64 ml10_1, .int .i64 (Loc.segment ((follow (segO a) s at_).1)), .int .i64 (Loc.at_ ((follow (segO a) s at_).1)), .int .i64 ml10_4, .int .i64 ml10_5, .int .i64 ml10_6, .int .u64 0])], []⟩ : LSt U))) :
    A26 [1, 1, 1, 1, 1] (head26_0 a s at_ ml10_1 ml10_4 ml10_5 ml10_6) Q :=
  Eq.mpr (by kernel_rfl) h
def Body26 (a : Option Arena) (s : Int) (at_ : Int)  : Prop := awp cfg (know (know26)) (drawOk cfg (know (know26))) Try.f26.ntmps lv26 (cd Try.f26 []) (entry (args26.can (a, s, at_, ())) []) (EndsQ cfg Try.f26.ntmps Try.f26.results.toList (res26 (a, s, at_, ())) [])
theorem make26 (c63 : Contract Try.prog cfg 63 spec63) (c64 : Contract Try.prog cfg 64 spec64) (hb : ∀ (a : Option Arena) (s : Int) (at_ : Int) (_ : Unit), pre26 (a, s, at_, ()) → Body26 a s at_) : Contract Try.prog cfg 26 spec26 :=
  contract_flat (l := [(63, spec63), (64, spec64)]) cfgOk rfl (⟨c63, c64, trivial⟩) lv26 Try.func26 rfl rfl 3 (fun _ => rfl) (by decide) (fun ⟨a, s, at_, _⟩ => hb a s at_ ())

noncomputable def know21 : List (FuncId × Fs U) := [(26, spec26)]
def lv21 : Lives U := fun i => match i with
  | 0 => ([(0, []), (2, [])], [((.loc 2), [])])
  | 1 => ([(2, []), (3, [])], [((.loc 2), [])])
  | _ => ([], [])
noncomputable abbrev A21 (p : List Nat) := awp cfg (know know21) (drawOk cfg (know know21)) Try.f21.ntmps lv21 (cd Try.f21 p)
theorem vc21 (a : Option Arena) (Q : AExit → LSt U → Prop) (h : ((pre26 (a, 0, 0, ())) ∧ (Q .ret (⟨[(2, .ptr (.loc 2) 0), (3, .c (.int .i64 ((refAt (segO a) 0 0).2)))], [((.loc 2), [.po (U := U) .arena (Ref.a (liftX a (refAt (segO a) 0 0).1)), .int .i64 (Ref.kind (liftX a (refAt (segO a) 0 0).1)), .int .i64 (Ref.segment (liftX a (refAt (segO a) 0 0).1)), .int .i64 (Ref.at_ (liftX a (refAt (segO a) 0 0).1)), .int .i64 (Ref.data (liftX a (refAt (segO a) 0 0).1)), .int .i64 (Ref.kids (liftX a (refAt (segO a) 0 0).1)), .int .i64 (Ref.count (liftX a (refAt (segO a) 0 0).1)), .int .u64 (Ref.number (liftX a (refAt (segO a) 0 0).1))])], []⟩ : LSt U)))) :
    A21 [] (⟨[(0, .c (.po (U := U) .arena a))], [], []⟩ : LSt U) Q :=
  Eq.mpr (by kernel_rfl) h
def Body21 (a : Option Arena)  : Prop := awp cfg (know (know21)) (drawOk cfg (know (know21))) Try.f21.ntmps lv21 (cd Try.f21 []) (entry (args21.can (a, ())) []) (EndsQ cfg Try.f21.ntmps Try.f21.results.toList (res21 (a, ())) [])
theorem make21 (c26 : Contract Try.prog cfg 26 spec26) (hb : ∀ (a : Option Arena) (_ : Unit), pre21 (a, ()) → Body21 a) : Contract Try.prog cfg 21 spec21 :=
  contract_flat (l := [(26, spec26)]) cfgOk rfl (⟨c26, trivial⟩) lv21 Try.func21 rfl rfl 1 (fun _ => rfl) (by decide) (fun ⟨a, _⟩ => hb a ())

noncomputable def know22 : List (FuncId × Fs U) := []
def lv22 : Lives U := fun i => match i with
  | 0 => ([(1, [])], [((.loc 1), [])])
  | 1 => ([(2, [])], [])
  | _ => ([], [])
noncomputable abbrev A22 (p : List Nat) := awp cfg (know know22) (drawOk cfg (know know22)) Try.f22.ntmps lv22 (cd Try.f22 p)
theorem vc22 (r : Ref) (Q : AExit → LSt U → Prop) (h : ((Q .ret (⟨[(2, .c (.int .i64 (Ref.kind r)))], [], []⟩ : LSt U)))) :
    A22 [] (⟨[(0, .agg [.po (U := U) .arena (Ref.a r), .int .i64 (Ref.kind r), .int .i64 (Ref.segment r), .int .i64 (Ref.at_ r), .int .i64 (Ref.data r), .int .i64 (Ref.kids r), .int .i64 (Ref.count r), .int .u64 (Ref.number r)])], [], []⟩ : LSt U) Q :=
  Eq.mpr (by kernel_rfl) h
def Body22 (r : Ref)  : Prop := awp cfg (know (know22)) (drawOk cfg (know (know22))) Try.f22.ntmps lv22 (cd Try.f22 []) (entry (args22.can (r, ())) []) (EndsQ cfg Try.f22.ntmps Try.f22.results.toList (res22 (r, ())) [])
theorem make22 (hb : ∀ (r : Ref) (_ : Unit), pre22 (r, ()) → Body22 r) : Contract Try.prog cfg 22 spec22 :=
  contract_flat (l := []) cfgOk rfl (trivial) lv22 Try.func22 rfl rfl 1 (fun _ => rfl) (by decide) (fun ⟨r, _⟩ => hb r ())

noncomputable def know59 : List (FuncId × Fs U) := []
def lv59 : Lives U := fun i => match i with
  | 0 => ([(1, [])], [((.loc 1), [])])
  | 1 => ([(1, []), (4, [])], [((.loc 1), [])])
  | 2 => ([(1, []), (4, []), (5, [])], [((.loc 1), [])])
  | 3 => ([(2, [])], [])
  | 4 => ([(9, [])], [])
  | 5 => ([(2, [])], [])
  | 6 => ([(2, [])], [])
  | _ => ([], [])
noncomputable abbrev A59 (p : List Nat) := awp cfg (know know59) (drawOk cfg (know know59)) Try.f59.ntmps lv59 (cd Try.f59 p)
theorem vc59 (r : Ref) (Q : AExit → LSt U → Prop) (h : (((((((Ref.kind r) : Int) == 1) = true → (Q .ret (⟨[(2, .c (.int .i64 (Ref.data r)))], [], []⟩ : LSt U))) ∧ ((((Ref.kind r) : Int) == 1) = false → (((((Ref.kind r) : Int) == 10) = true → (Q .ret (⟨[(2, .c (.int .i64 1))], [], []⟩ : LSt U))) ∧ ((((Ref.kind r) : Int) == 10) = false → (Q .ret (⟨[(2, .c (.int .i64 0))], [], []⟩ : LSt U))))))))) :
    A59 [] (⟨[(0, .agg [.po (U := U) .arena (Ref.a r), .int .i64 (Ref.kind r), .int .i64 (Ref.segment r), .int .i64 (Ref.at_ r), .int .i64 (Ref.data r), .int .i64 (Ref.kids r), .int .i64 (Ref.count r), .int .u64 (Ref.number r)])], [], []⟩ : LSt U) Q :=
  Eq.mpr (by kernel_rfl) h
def Body59 (r : Ref)  : Prop := awp cfg (know (know59)) (drawOk cfg (know (know59))) Try.f59.ntmps lv59 (cd Try.f59 []) (entry (args59.can (r, ())) []) (EndsQ cfg Try.f59.ntmps Try.f59.results.toList (res59 (r, ())) [])
theorem make59 (hb : ∀ (r : Ref) (_ : Unit), pre59 (r, ()) → Body59 r) : Contract Try.prog cfg 59 spec59 :=
  contract_flat (l := []) cfgOk rfl (trivial) lv59 Try.func59 rfl rfl 1 (fun _ => rfl) (by decide) (fun ⟨r, _⟩ => hb r ())

noncomputable def know23 : List (FuncId × Fs U) := []
def lv23 : Lives U := fun i => match i with
  | 0 => ([(1, [])], [((.loc 1), [])])
  | 1 => ([(1, []), (5, [])], [((.loc 1), [])])
  | 2 => ([(2, [])], [])
  | 3 => ([(2, [])], [])
  | _ => ([], [])
noncomputable abbrev A23 (p : List Nat) := awp cfg (know know23) (drawOk cfg (know know23)) Try.f23.ntmps lv23 (cd Try.f23 p)
theorem vc23 (r : Ref) (Q : AExit → LSt U → Prop) (h : ((((((Ref.kind r) : Int) == 1) = true → (Q .ret (⟨[(2, .c (.int .i64 (Ref.kids r)))], [], []⟩ : LSt U))) ∧ ((((Ref.kind r) : Int) == 1) = false → (Q .ret (⟨[(2, .c (.int .i64 (Ref.count r)))], [], []⟩ : LSt U)))))) :
    A23 [] (⟨[(0, .agg [.po (U := U) .arena (Ref.a r), .int .i64 (Ref.kind r), .int .i64 (Ref.segment r), .int .i64 (Ref.at_ r), .int .i64 (Ref.data r), .int .i64 (Ref.kids r), .int .i64 (Ref.count r), .int .u64 (Ref.number r)])], [], []⟩ : LSt U) Q :=
  Eq.mpr (by kernel_rfl) h
def Body23 (r : Ref)  : Prop := awp cfg (know (know23)) (drawOk cfg (know (know23))) Try.f23.ntmps lv23 (cd Try.f23 []) (entry (args23.can (r, ())) []) (EndsQ cfg Try.f23.ntmps Try.f23.results.toList (res23 (r, ())) [])
theorem make23 (hb : ∀ (r : Ref) (_ : Unit), pre23 (r, ()) → Body23 r) : Contract Try.prog cfg 23 spec23 :=
  contract_flat (l := []) cfgOk rfl (trivial) lv23 Try.func23 rfl rfl 1 (fun _ => rfl) (by decide) (fun ⟨r, _⟩ => hb r ())

noncomputable def know68 : List (FuncId × Fs U) := []
def lv68 : Lives U := fun i => match i with
  | 0 => ([(1, [])], [((.loc 1), [])])
  | 1 => ([(1, []), (6, [])], [((.loc 1), [])])
  | 2 => ([(2, []), (3, [])], [])
  | 3 => ([(2, []), (3, [])], [])
  | _ => ([], [])
noncomputable abbrev A68 (p : List Nat) := awp cfg (know know68) (drawOk cfg (know know68)) Try.f68.ntmps lv68 (cd Try.f68 p)
theorem vc68 (r : Ref) (Q : AExit → LSt U → Prop) (h : ((((((Ref.kind r) : Int) != 9) = true → (Q .ret (⟨[(2, .c (.int .i64 0)), (3, .c (.int .i64 0))], [], []⟩ : LSt U))) ∧ ((((Ref.kind r) : Int) != 9) = false → (Q .ret (⟨[(2, .c (.int .i64 (Ref.data r))), (3, .c (.int .i64 (Ref.kids r)))], [], []⟩ : LSt U)))))) :
    A68 [] (⟨[(0, .agg [.po (U := U) .arena (Ref.a r), .int .i64 (Ref.kind r), .int .i64 (Ref.segment r), .int .i64 (Ref.at_ r), .int .i64 (Ref.data r), .int .i64 (Ref.kids r), .int .i64 (Ref.count r), .int .u64 (Ref.number r)])], [], []⟩ : LSt U) Q :=
  Eq.mpr (by kernel_rfl) h
def Body68 (r : Ref)  : Prop := awp cfg (know (know68)) (drawOk cfg (know (know68))) Try.f68.ntmps lv68 (cd Try.f68 []) (entry (args68.can (r, ())) []) (EndsQ cfg Try.f68.ntmps Try.f68.results.toList (res68 (r, ())) [])
theorem make68 (hb : ∀ (r : Ref) (_ : Unit), pre68 (r, ()) → Body68 r) : Contract Try.prog cfg 68 spec68 :=
  contract_flat (l := []) cfgOk rfl (trivial) lv68 Try.func68 rfl rfl 1 (fun _ => rfl) (by decide) (fun ⟨r, _⟩ => hb r ())

noncomputable def know61 : List (FuncId × Fs U) := [(83, spec83), (62, spec62), (84, spec84)]
def lv61 : Lives U := fun i => match i with
  | 0 => ([(1, []), (2, [])], [((.loc 2), [])])
  | 1 => ([(1, []), (2, []), (5, [])], [((.loc 2), [])])
  | 2 => ([(1, []), (2, []), (5, []), (6, [])], [((.loc 2), [])])
  | 3 => ([(1, []), (2, []), (5, []), (6, []), (20, [])], [((.loc 2), [])])
  | 4 => ([(4, [])], [])
  | 5 => ([(1, []), (2, []), (5, []), (8, [])], [((.loc 2), [])])
  | 6 => ([(1, []), (5, []), (8, []), (9, [])], [])
  | 7 => ([(4, [])], [])
  | _ => ([], [])
noncomputable abbrev A61 (p : List Nat) := awp cfg (know know61) (drawOk cfg (know know61)) Try.f61.ntmps lv61 (cd Try.f61 p)
theorem vc61 (r : Ref) (i : Int) (Q : AExit → LSt U → Prop) (h : ∀ y_1, y_1 = (Int.tdiv 64 (if wd (((Ref.kind r) : Int) - 2) < 0 then 0 else wd (((Ref.kind r) : Int) - 2))) → ((InR (((Ref.kind r) : Int) - 2)) ∧ ((pre83 ((((Ref.kind r) : Int) - 2), ())) ∧ ((((((if wd (((Ref.kind r) : Int) - 2) < 0 then 0 else wd (((Ref.kind r) : Int) - 2)) : Int) == 0) = true → (Q .ret (⟨[(4, .c (.int .u64 0))], [], []⟩ : LSt U))) ∧ ((((if wd (((Ref.kind r) : Int) - 2) < 0 then 0 else wd (((Ref.kind r) : Int) - 2)) : Int) == 0) = false → (((if wd (((Ref.kind r) : Int) - 2) < 0 then 0 else wd (((Ref.kind r) : Int) - 2)) : Int) ≠ 0) ∧ ((((IntKind.wrap .i64 y_1) : Int) ≠ 0) ∧ (InR (((Ref.at_ r) : Int) + (IntKind.wrap .i64 (Int.tdiv i (IntKind.wrap .i64 y_1))))) ∧ (pre62 ((Ref.a r), (Ref.segment r), (((Ref.at_ r) : Int) + (IntKind.wrap .i64 (Int.tdiv i (IntKind.wrap .i64 y_1)))), ())) ∧ ((((IntKind.wrap .i64 y_1) : Int) ≠ 0) ∧ (pre84 (([if hasN (segO (Ref.a r)) (Ref.segment r) (((Ref.at_ r) : Int) + (IntKind.wrap .i64 (Int.tdiv i (IntKind.wrap .i64 y_1)))) 1 then getS (segO (Ref.a r)) (Ref.segment r) (((Ref.at_ r) : Int) + (IntKind.wrap .i64 (Int.tdiv i (IntKind.wrap .i64 y_1)))) else 0]), (((Ref.kind r) : Int) - 2), (Int.tmod i (IntKind.wrap .i64 y_1)), ())) ∧ (Q .ret (⟨[(4, .c (.int .u64 (getW ([if hasN (segO (Ref.a r)) (Ref.segment r) (((Ref.at_ r) : Int) + (IntKind.wrap .i64 (Int.tdiv i (IntKind.wrap .i64 y_1)))) 1 then getS (segO (Ref.a r)) (Ref.segment r) (((Ref.at_ r) : Int) + (IntKind.wrap .i64 (Int.tdiv i (IntKind.wrap .i64 y_1)))) else 0]) (((Ref.kind r) : Int) - 2) (Int.tmod i (IntKind.wrap .i64 y_1)))))], [], []⟩ : LSt U)))))))))) :
    A61 [] (⟨[(0, .agg [.po (U := U) .arena (Ref.a r), .int .i64 (Ref.kind r), .int .i64 (Ref.segment r), .int .i64 (Ref.at_ r), .int .i64 (Ref.data r), .int .i64 (Ref.kids r), .int .i64 (Ref.count r), .int .u64 (Ref.number r)]), (1, .c (.int .i64 i))], [], []⟩ : LSt U) Q :=
  Eq.mpr (by kernel_rfl) (h _ rfl)
def Body61 (r : Ref) (i : Int)  : Prop := awp cfg (know (know61)) (drawOk cfg (know (know61))) Try.f61.ntmps lv61 (cd Try.f61 []) (entry (args61.can (r, i, ())) []) (EndsQ cfg Try.f61.ntmps Try.f61.results.toList (res61 (r, i, ())) [])
theorem make61 (c83 : Contract Try.prog cfg 83 spec83) (c62 : Contract Try.prog cfg 62 spec62) (c84 : Contract Try.prog cfg 84 spec84) (hb : ∀ (r : Ref) (i : Int) (_ : Unit), pre61 (r, i, ()) → Body61 r i) : Contract Try.prog cfg 61 spec61 :=
  contract_flat (l := [(83, spec83), (62, spec62), (84, spec84)]) cfgOk rfl (⟨c83, c62, c84, trivial⟩) lv61 Try.func61 rfl rfl 2 (fun _ => rfl) (by decide) (fun ⟨r, i, _⟩ => hb r i ())

noncomputable def know24 : List (FuncId × Fs U) := [(23, spec23), (26, spec26), (61, spec61)]
def lv24 : Lives U := fun i => match i with
  | 0 => ([(1, []), (2, []), (4, [])], [((.loc 2), []), ((.loc 4), [])])
  | 1 => ([(1, []), (2, []), (4, []), (13, [])], [((.loc 2), []), ((.loc 4), [])])
  | 2 => ([(4, []), (5, [])], [((.loc 4), [])])
  | 3 => ([(1, []), (2, []), (4, []), (16, [])], [((.loc 2), []), ((.loc 4), [])])
  | 4 => ([(1, []), (2, []), (4, []), (16, []), (17, [])], [((.loc 2), []), ((.loc 4), [])])
  | 5 => ([(4, []), (5, [])], [((.loc 4), [])])
  | 6 => ([(1, []), (2, []), (4, []), (16, []), (33, [])], [((.loc 2), []), ((.loc 4), [])])
  | 7 => ([(4, []), (5, [])], [((.loc 4), [])])
  | 8 => ([(1, []), (2, []), (4, []), (46, [])], [((.loc 2), []), ((.loc 4), [])])
  | 9 => ([(4, []), (5, [])], [((.loc 4), [])])
  | 10 => ([(4, []), (5, [])], [((.loc 4), [])])
  | _ => ([], [])
noncomputable abbrev A24 (p : List Nat) := awp cfg (know know24) (drawOk cfg (know know24)) Try.f24.ntmps lv24 (cd Try.f24 p)
theorem vc24 (r : Ref) (i : Int) (Q : AExit → LSt U → Prop) (h : ∀ y_1, y_1 = (r) → ∀ y_2, y_2 = (refAt (segO (Ref.a r)) (Ref.segment r) (((Ref.at_ r) : Int) + i)) → ∀ y_3, y_3 = (refAt (segO (Ref.a r)) (Ref.segment r) (((((Ref.at_ r) : Int) + (Ref.data r)) : Int) + i)) → ((Tr ((!(decide ((i : Int) < 0))) = true)) ∧ ((!(decide ((i : Int) < 0))) = true → pre23 (y_1, ())) ∧ (Tr ((!(decide ((i : Int) < 0))) = true)) ∧ (Tr ((!(decide ((i : Int) < 0))) = true)) ∧ (((decide ((i : Int) < 0)) = false → (!(decide ((i : Int) < 0))) = true)) ∧ (((bif (decide ((i : Int) < 0)) then true else (decide (((kidsR y_1) : Int) ≤ i))) = true → (Q .ret (⟨[(4, .ptr (.loc 4) 0), (5, .c (.int .i64 0))], [((.loc 4), [.nilp, .int .i64 0, .int .i64 0, .int .i64 0, .int .i64 0, .int .i64 0, .int .i64 0, .int .u64 0])], []⟩ : LSt U))) ∧ ((bif (decide ((i : Int) < 0)) then true else (decide (((kidsR y_1) : Int) ≤ i))) = false → ((((((Ref.kind r) : Int) == 1) = true → (InR (((Ref.at_ r) : Int) + (Ref.data r))) ∧ (InR (((((Ref.at_ r) : Int) + (Ref.data r)) : Int) + i)) ∧ (pre26 ((Ref.a r), (Ref.segment r), (((((Ref.at_ r) : Int) + (Ref.data r)) : Int) + i), ())) ∧ (Q .ret (⟨[(4, .ptr (.loc 4) 0), (5, .c (.int .i64 (y_3.2)))], [((.loc 4), [.po (U := U) .arena (Ref.a (liftX (Ref.a r) y_3.1)), .int .i64 (Ref.kind (liftX (Ref.a r) y_3.1)), .int .i64 (Ref.segment (liftX (Ref.a r) y_3.1)), .int .i64 (Ref.at_ (liftX (Ref.a r) y_3.1)), .int .i64 (Ref.data (liftX (Ref.a r) y_3.1)), .int .i64 (Ref.kids (liftX (Ref.a r) y_3.1)), .int .i64 (Ref.count (liftX (Ref.a r) y_3.1)), .int .u64 (Ref.number (liftX (Ref.a r) y_3.1))])], []⟩ : LSt U))) ∧ ((((Ref.kind r) : Int) == 1) = false → (((((Ref.kind r) : Int) == 8) = true → (InR (((Ref.at_ r) : Int) + i)) ∧ (pre26 ((Ref.a r), (Ref.segment r), (((Ref.at_ r) : Int) + i), ())) ∧ (Q .ret (⟨[(4, .ptr (.loc 4) 0), (5, .c (.int .i64 (y_2.2)))], [((.loc 4), [.po (U := U) .arena (Ref.a (liftX (Ref.a r) y_2.1)), .int .i64 (Ref.kind (liftX (Ref.a r) y_2.1)), .int .i64 (Ref.segment (liftX (Ref.a r) y_2.1)), .int .i64 (Ref.at_ (liftX (Ref.a r) y_2.1)), .int .i64 (Ref.data (liftX (Ref.a r) y_2.1)), .int .i64 (Ref.kids (liftX (Ref.a r) y_2.1)), .int .i64 (Ref.count (liftX (Ref.a r) y_2.1)), .int .u64 (Ref.number (liftX (Ref.a r) y_2.1))])], []⟩ : LSt U))) ∧ ((((Ref.kind r) : Int) == 8) = false → (((((Ref.kind r) : Int) == 9) = true → (InR (((Ref.data r) : Int) + (Ref.kids r))) ∧ (InR ((i : Int) * (((Ref.data r) : Int) + (Ref.kids r)))) ∧ (InR (((Ref.at_ r) : Int) + ((i : Int) * (((Ref.data r) : Int) + (Ref.kids r))))) ∧ (Q .ret (⟨[(4, .ptr (.loc 4) 0), (5, .c (.int .i64 0))], [((.loc 4), [.po (U := U) .arena (Ref.a r), .int .i64 1, .int .i64 (Ref.segment r), .int .i64 (((Ref.at_ r) : Int) + ((i : Int) * (((Ref.data r) : Int) + (Ref.kids r)))), .int .i64 (Ref.data r), .int .i64 (Ref.kids r), .int .i64 0, .int .u64 0])], []⟩ : LSt U))) ∧ ((((Ref.kind r) : Int) == 9) = false → (pre61 (y_1, i, ())) ∧ (Q .ret (⟨[(4, .ptr (.loc 4) 0), (5, .c (.int .i64 0))], [((.loc 4), [.po (U := U) .arena (Ref.a r), .int .i64 10, .int .i64 0, .int .i64 0, .int .i64 0, .int .i64 0, .int .i64 0, .int .u64 (getW (List.drop (Int.toNat (Ref.at_ y_1)) (segAt (segO (Ref.a y_1)) (Ref.segment y_1))) (Ref.kind y_1 - 2) i)])], []⟩ : LSt U))))))))))))) :
    A24 [] (⟨[(0, .agg [.po (U := U) .arena (Ref.a r), .int .i64 (Ref.kind r), .int .i64 (Ref.segment r), .int .i64 (Ref.at_ r), .int .i64 (Ref.data r), .int .i64 (Ref.kids r), .int .i64 (Ref.count r), .int .u64 (Ref.number r)]), (1, .c (.int .i64 i))], [], []⟩ : LSt U) Q :=
  Eq.mpr (by kernel_rfl) (h _ (reRef_eq _) _ rfl _ rfl)
def Body24 (r : Ref) (i : Int)  : Prop := awp cfg (know (know24)) (drawOk cfg (know (know24))) Try.f24.ntmps lv24 (cd Try.f24 []) (entry (args24.can (r, i, ())) []) (EndsQ cfg Try.f24.ntmps Try.f24.results.toList (res24 (r, i, ())) [])
theorem make24 (c23 : Contract Try.prog cfg 23 spec23) (c26 : Contract Try.prog cfg 26 spec26) (c61 : Contract Try.prog cfg 61 spec61) (hb : ∀ (r : Ref) (i : Int) (_ : Unit), pre24 (r, i, ()) → Body24 r i) : Contract Try.prog cfg 24 spec24 :=
  contract_flat (l := [(23, spec23), (26, spec26), (61, spec61)]) cfgOk rfl (⟨c23, c26, c61, trivial⟩) lv24 Try.func24 rfl rfl 2 (fun _ => rfl) (by decide) (fun ⟨r, i, _⟩ => hb r i ())

end Go.AM.Ythokdjgpdonhgaa

namespace Go.AM.Ythokdjgpdonhgaa
open Go.AM Go.Proofs

abbrev tR (a : Option Arena) (x : XRef × Int) : V U := .tup [(true, enc .ref (liftX a x.1)), (false, [.int .i64 x.2])]
theorem frame_le {p : Ptr} (h : OkP p) (h0 : 0 ≤ p.off) : 0 ≤ p.off * (p.data + p.ptrs) ∧ p.off * (p.data + p.ptrs) ≤ 70368744177664 := by
  have h1 := h.data
  have h2 := h.ptrs
  have h3 := h.off
  have := Int.mul_le_mul (Int.le_of_lt h3.2) (show p.data + p.ptrs ≤ 131072 by omega) (by omega) (by decide : (0 : Int) ≤ 536870912)
  exact ⟨Int.mul_nonneg h0 (by omega), by omega⟩

theorem c64 : Contract Try.prog cfg 64 spec64 := by
  refine make64 c62 c86 ?_
  intro r n _ hp
  obtain ⟨ha, hn, hz, hh⟩ := hp
  dsimp only at ha hn hz hh
  refine vc64 _ _ _ ?_
  rintro y hy
  dsimp only at hy
  (simp only [vcT, bif_tl, bif_fr, bif_tlf, bif_frf, Bool.not_eq_true', Bool.not_eq_false', decide_eq_true_eq, decide_eq_false_iff_not, beq_iff_eq, beq_eq_false_iff_ne, bne_iff_ne, ne_eq, bne_eq_false_iff_eq, Bool.or_eq_true, Bool.and_eq_true, Bool.or_eq_false_iff, Bool.and_eq_false_imp])
  have g := hasN_iff.1 hh
  have hl := (okSeg_at ha r.segment).1
  have h1 : hasN (segO r.a) r.segment r.at_ 1 = true := hasN_iff.2 ⟨g.1, g.2.1, g.2.2.1, by decide, by omega⟩
  have hw := getS_word ha r.segment r.at_
  rw [if_pos h1] at hy ⊢
  have ho := okP_dec hw.1 hw.2
  rw [← hy] at ho
  have hd := ho.data
  have hq := ho.ptrs
  have hr : res64 (r, n, ()) = tR r.a (compX (segO r.a) r.segment r.at_ n) := rfl
  rw [hr]
  refine ⟨ha, hw, fun h => by ((unfold InR; omega)), fun h => by have := frame_le ho (by omega); ((unfold InR; omega)), fun h => ?_, fun h => ⟨by ((unfold InR; omega)), ?_⟩⟩
  · rw [show compX (segO r.a) r.segment r.at_ n = (xz, 8) by unfold compX; rw [← hy, if_pos (by omega)]]; (repeat' (first | exact trivial | exact rfl | refine And.intro ?_ ?_))
  · rw [show compX (segO r.a) r.segment r.at_ n = (⟨9, r.segment, r.at_ + 1, y.data, y.ptrs, y.off, 0⟩, 0) by unfold compX; rw [← hy, if_neg (by omega)]]
    rw [hz]; (repeat' (first | exact trivial | exact rfl | refine And.intro ?_ ?_))

theorem c26 : Contract Try.prog cfg 26 spec26 := by
  refine make26 c63 c64 ?_
  intro a s x _ ha
  simp only [pre26] at ha
  refine vc26 _ _ _ _ ?_
  rintro y1 h1 y2 h2
  dsimp only at h1 h2
  have hf := okL_follow ha s x
  have hp := hf.p
  have hk := hf.kind
  have hc := hp.code
  have hcn := hp.count
  have hr : res26 (a, s, x, ()) = tR a (refAt (segO a) s x) := rfl
  have cut : ∀ k d p c : Int, k ≠ 0 → refAt (segO a) s x = (⟨k, (follow (segO a) s x).1.segment, (follow (segO a) s x).1.at_, d, p, c, 0⟩, 0) → A26 [1, 1, 1, 1, 1] (head26_0 a s x k d p c) (EndsQ cfg Try.f26.ntmps Try.f26.results.toList (res26 (a, s, x, ())) []) := by
    intro k d p c hk0 he
    refine vc26_c0 _ _ _ _ _ _ _ _ ?_
    rw [hr, he, show tR a (⟨k, (follow (segO a) s x).1.segment, (follow (segO a) s x).1.at_, d, p, c, 0⟩, 0) = .tup [(true, enc .ref ⟨a, k, (follow (segO a) s x).1.segment, (follow (segO a) s x).1.at_, d, p, c, 0⟩), (false, [.int .i64 0])] by
      simp only [tR, liftX]; rw [if_neg hk0]]
    (repeat' (first | exact trivial | exact rfl | refine And.intro ?_ ?_))
  (simp only [vcT, bif_tl, bif_fr, bif_tlf, bif_frf, Bool.not_eq_true', Bool.not_eq_false', decide_eq_true_eq, decide_eq_false_iff_not, beq_iff_eq, beq_eq_false_iff_ne, bne_iff_ne, ne_eq, bne_eq_false_iff_eq, Bool.or_eq_true, Bool.and_eq_true, Bool.or_eq_false_iff, Bool.and_eq_false_imp])
  refine ⟨ha, fun h => ?_, fun h => ⟨fun k1 => ?_, fun k1 => ⟨fun k6 => ⟨by ((unfold InR; omega)), ?_⟩, fun k6 => ⟨fun k7 => ?_, fun k7 => ⟨?_, ?_⟩⟩⟩⟩⟩
  · rw [hr, show refAt (segO a) s x = (xz, (follow (segO a) s x).2) by unfold refAt; rw [if_pos h]]; (repeat' (first | exact trivial | exact rfl | refine And.intro ?_ ?_))
  · refine cut _ _ _ _ (by decide) ?_
    unfold refAt; rw [if_neg (by omega), if_pos k1]
  · refine cut _ _ _ _ (by omega) ?_
    unfold refAt; rw [if_neg (by omega), if_neg k1, if_pos (by omega)]
  · refine cut _ _ _ _ (by decide) ?_
    unfold refAt; rw [if_neg (by omega), if_neg k1, if_pos (by omega), k7]; rfl
  · subst h1
    refine ⟨ha, hcn.1, rfl, ?_⟩
    have := hf.lie (by omega)
    rw [show wordsP (follow (segO a) s x).1.p = (follow (segO a) s x).1.p.count + 1 by unfold wordsP; rw [if_neg k1, if_pos (by omega), if_pos (by omega)]] at this
    exact this
  · subst h1 h2
    rw [hr, show refAt (segO a) s x = compX (segO a) (follow (segO a) s x).1.segment (follow (segO a) s x).1.at_ (follow (segO a) s x).1.p.count by unfold refAt; rw [if_neg (by omega), if_neg k1, if_neg (by omega)]]
    (repeat' (first | exact trivial | exact rfl | refine And.intro ?_ ?_))

theorem c21 : Contract Try.prog cfg 21 spec21 := by
  refine make21 c26 ?_
  intro a _ ha
  refine vc21 _ _ ?_
  refine ⟨ha, ?_⟩
  (repeat' (first | exact trivial | exact rfl | refine And.intro ?_ ?_))

theorem c22 : Contract Try.prog cfg 22 spec22 := by
  refine make22 ?_
  intro r _ _
  refine vc22 _ _ ?_
  (repeat' (first | exact trivial | exact rfl | refine And.intro ?_ ?_))

theorem c59 : Contract Try.prog cfg 59 spec59 := by
  refine make59 ?_
  intro r _ _
  refine vc59 _ _ ?_
  (simp only [vcT, bif_tl, bif_fr, bif_tlf, bif_frf, Bool.not_eq_true', Bool.not_eq_false', decide_eq_true_eq, decide_eq_false_iff_not, beq_iff_eq, beq_eq_false_iff_ne, bne_iff_ne, ne_eq, bne_eq_false_iff_eq, Bool.or_eq_true, Bool.and_eq_true, Bool.or_eq_false_iff, Bool.and_eq_false_imp])
  refine ⟨fun h => ends_int rfl ?_, fun h => ⟨fun h2 => ends_int rfl ?_, fun h2 => ends_int rfl ?_⟩⟩
  all_goals
    show _ = lenR r
    unfold lenR
  · rw [if_pos h]
  · rw [if_neg h, if_pos h2]
  · rw [if_neg h, if_neg h2]

theorem c23 : Contract Try.prog cfg 23 spec23 := by
  refine make23 ?_
  intro r _ _
  refine vc23 _ _ ?_
  (simp only [vcT, bif_tl, bif_fr, bif_tlf, bif_frf, Bool.not_eq_true', Bool.not_eq_false', decide_eq_true_eq, decide_eq_false_iff_not, beq_iff_eq, beq_eq_false_iff_ne, bne_iff_ne, ne_eq, bne_eq_false_iff_eq, Bool.or_eq_true, Bool.and_eq_true, Bool.or_eq_false_iff, Bool.and_eq_false_imp])
  refine ⟨fun h => ends_int rfl ?_, fun h => ends_int rfl ?_⟩
  all_goals
    show _ = kidsR r
    unfold kidsR
  · rw [if_pos h]
  · rw [if_neg h]

theorem c68 : Contract Try.prog cfg 68 spec68 := by
  refine make68 ?_
  intro r _ _
  refine vc68 _ _ ?_
  (simp only [vcT, bif_tl, bif_fr, bif_tlf, bif_frf, Bool.not_eq_true', Bool.not_eq_false', decide_eq_true_eq, decide_eq_false_iff_not, beq_iff_eq, beq_eq_false_iff_ne, bne_iff_ne, ne_eq, bne_eq_false_iff_eq, Bool.or_eq_true, Bool.and_eq_true, Bool.or_eq_false_iff, Bool.and_eq_false_imp])
  refine ⟨fun h => ?_, fun h => ?_⟩
  · refine ends_eq (r' := .tup [(false, [.int .i64 0]), (false, [.int .i64 0])]) ?_ (by (repeat' (first | exact trivial | exact rfl | refine And.intro ?_ ?_)))
    simp only [res68]; rw [if_neg h, if_neg h]
  · refine ends_eq (r' := .tup [(false, [.int .i64 r.data]), (false, [.int .i64 r.kids])]) ?_ (by (repeat' (first | exact trivial | exact rfl | refine And.intro ?_ ?_)))
    simp only [res68]; rw [if_pos h, if_pos h]

theorem wd_bits {c : Int} (h0 : 0 ≤ c) (h1 : c ≤ 5) : wd c = bitsP c := by
  have : c = 0 ∨ c = 1 ∨ c = 2 ∨ c = 3 ∨ c = 4 ∨ c = 5 := by omega
  rcases this with rfl | rfl | rfl | rfl | rfl | rfl <;> decide

theorem getW_one {g : List Int} {a c i n w : Int} (hw : wd c = w) (hw' : w = 1 ∨ w = 8 ∨ w = 16 ∨ w = 32 ∨ w = 64) (ha : 0 ≤ a) (h0 : 0 ≤ i) (hi : i < n) (hn : n < 536870912) (hl : a + (n * w + 63) / 64 ≤ (g.length : Int)) :
    a + i / (64 / w) < (g.length : Int) ∧ 0 ≤ i / (64 / w) ∧ i / (64 / w) ≤ i ∧ getW [g.getD (a + i / (64 / w)).toNat 0] c (i % (64 / w)) = getW (g.drop a.toNat) c i := by
  have key : i * w / 64 = i / (64 / w) ∧ i % (64 / w) * w / 64 = 0 ∧ i % (64 / w) * w % 64 = i * w % 64 ∧ a + i / (64 / w) < (g.length : Int) ∧ 0 ≤ i / (64 / w) ∧ i / (64 / w) ≤ i ∧ 0 ≤ i % (64 / w) ∧ i % (64 / w) ≤ 64 := by
    rcases hw' with e | e | e | e | e <;> subst e
    · exact ⟨by omega, by omega, by omega, by omega, by omega, by omega, by omega, by omega⟩
    · exact ⟨by omega, by omega, by omega, by omega, by omega, by omega, by omega, by omega⟩
    · exact ⟨by omega, by omega, by omega, by omega, by omega, by omega, by omega, by omega⟩
    · exact ⟨by omega, by omega, by omega, by omega, by omega, by omega, by omega, by omega⟩
    · exact ⟨by omega, by omega, by omega, by omega, by omega, by omega, by omega, by omega⟩
  obtain ⟨e1, e2, e3, e4, e5, e6, e7, e8⟩ := key
  refine ⟨e4, e5, e6, ?_⟩
  have hwp : 1 ≤ wd c := by omega
  rw [getW_eq hwp e7 (by omega), getW_eq hwp h0 (by omega), hw, e1, e2, e3]
  have : wordW [g.getD (a + i / (64 / w)).toNat 0] 0 = wordW (g.drop a.toNat) (i / (64 / w)) := by
    unfold wordW
    rw [if_neg (by simp), if_neg (by simp; omega)]
    rw [List.getD_eq_getElem?_getD (l := g.drop _), List.getElem?_drop, ← List.getD_eq_getElem?_getD, show a.toNat + (i / (64 / w)).toNat = (a + i / (64 / w)).toNat by omega]
    rfl
  rw [this]

theorem c61 : Contract Try.prog cfg 61 spec61 := by
  refine make61 c83 c62 c84 ?_
  intro r i _ hp
  obtain ⟨⟨ha, hx⟩, hk0, hk1, hi0, hi1⟩ := hp
  dsimp only at ha hx hk0 hk1 hi0 hi1
  refine vc61 _ _ _ ?_
  rintro y hy
  dsimp only at hy
  (simp only [vcT, bif_tl, bif_fr, bif_tlf, bif_frf, Bool.not_eq_true', Bool.not_eq_false', decide_eq_true_eq, decide_eq_false_iff_not, beq_iff_eq, beq_eq_false_iff_ne, bne_iff_ne, ne_eq, bne_eq_false_iff_eq, Bool.or_eq_true, Bool.and_eq_true, Bool.or_eq_false_iff, Bool.and_eq_false_imp])
  have hc := hx.count
  have hat := hx.at_
  have hh := hasN_iff.1 (hx.list hk0 (by show r.kind ≤ 8; omega))
  simp only [unX] at hc hat hh
  have hwb := wd_bits (c := r.kind - 2) (by omega) (by omega)
  rw [← hwb] at hh
  have hwc := wd_cases (r.kind - 2)
  have hb0 : 0 ≤ bitsP (r.kind - 2) := by unfold bitsP; (repeat' split) <;> omega
  rw [if_neg (show ¬ wd (r.kind - 2) < 0 by omega)] at hy ⊢
  have hr : res61 (r, i, ()) = .c (.int .u64 (getW ((segAt (segO r.a) r.segment).drop r.at_.toNat) (r.kind - 2) i)) := rfl
  refine ⟨by ((unfold InR; omega)), trivial, fun h => ends_int rfl ?_, fun h => ?_⟩
  · show (0 : Int) = getW _ (r.kind - 2) i
    unfold getW
    rw [if_pos (by omega)]
  · generalize hwe : wd (r.kind - 2) = w at *
    have hw5 : w = 1 ∨ w = 8 ∨ w = 16 ∨ w = 32 ∨ w = 64 := by omega
    obtain ⟨q1, q2, q3, q4⟩ := getW_one (g := segAt (segO r.a) r.segment) (i := i) hwe hw5 hat.1 hi0 hi1 hc.2 hh.2.2.2.2
    have hy' : IntKind.wrap .i64 y = 64 / w ∧ 0 < 64 / w ∧ 64 / w ≤ 64 := by
      rw [hy]
      rcases hw5 with e | e | e | e | e <;> subst e <;> decide
    rw [hy'.1, Int.tdiv_eq_ediv_of_nonneg hi0, Int.tmod_eq_emod_of_nonneg hi0, wrap_i64 (n := i / (64 / w)) (by omega) (by omega)]
    have h1 : hasN (segO r.a) r.segment (r.at_ + i / (64 / w)) 1 = true := hasN_iff.2 ⟨hh.1, hh.2.1, by omega, by decide, by omega⟩
    rw [if_pos h1]
    refine ⟨h, by omega, by ((unfold InR; omega)), ha, by omega, ?_, ends_int rfl q4⟩
    intro z hz
    rw [List.mem_singleton.1 hz]
    exact getS_word ha _ _

theorem c24 : Contract Try.prog cfg 24 spec24 := by
  refine make24 c23 c26 c61 ?_
  intro r i _ hp
  obtain ⟨ha, hx⟩ := hp
  dsimp only at ha hx
  refine vc24 _ _ _ ?_
  rintro y1 h1 y2 h2 y3 h3
  dsimp only at h1 h2 h3
  replace h1 := h1.symm
  subst h1
  (simp only [vcT, bif_tl, bif_fr, bif_tlf, bif_frf, Bool.not_eq_true', Bool.not_eq_false', decide_eq_true_eq, decide_eq_false_iff_not, beq_iff_eq, beq_eq_false_iff_ne, bne_iff_ne, ne_eq, bne_eq_false_iff_eq, Bool.or_eq_true, Bool.and_eq_true, Bool.or_eq_false_iff, Bool.and_eq_false_imp])
  have hr : res24 (r, i, ()) = tR r.a (kidX (segO r.a) (unX r) i) := rfl
  rw [hr]
  have hk := hx.kind
  have hat := hx.at_
  have hd := hx.data
  have hp := hx.ptrs
  have hcn := hx.count
  have hz := hx.zero
  simp only [unX] at hk hat hd hp hcn hz
  have hkr : kidsX (unX r) = kidsR r := rfl
  have hb : ¬kidsR r ≤ i → i < 536870912 := fun h => by unfold kidsR at h; split at h <;> omega
  refine ⟨fun _ => trivial, fun h => ?_, fun h => ⟨fun k1 => ⟨by ((unfold InR; omega)), by have := hb h.2; ((unfold InR; omega)), ha, ?_⟩, fun k1 => ⟨fun k8 => ⟨by have := hb h.2; ((unfold InR; omega)), ha, ?_⟩, fun k8 => ⟨fun k9 => ?_, fun k9 => ⟨⟨⟨ha, hx⟩, ?_⟩, ?_⟩⟩⟩⟩⟩
  · rw [show kidX (segO r.a) (unX r) i = (xz, 0) by unfold kidX; rw [if_pos (by rw [hkr]; exact h)]]; (repeat' (first | exact trivial | exact rfl | refine And.intro ?_ ?_))
  · subst h3
    rw [show kidX (segO r.a) (unX r) i = refAt (segO r.a) r.segment (r.at_ + r.data + i) by unfold kidX; rw [if_neg (by rw [hkr]; omega), if_pos (show (unX r).kind = 1 from k1)]; rfl]; (repeat' (first | exact trivial | exact rfl | refine And.intro ?_ ?_))
  · subst h2
    rw [show kidX (segO r.a) (unX r) i = refAt (segO r.a) r.segment (r.at_ + i) by unfold kidX; rw [if_neg (by rw [hkr]; omega), if_neg (show ¬(unX r).kind = 1 from k1), if_pos (show (unX r).kind = 8 from k8)]; rfl]; (repeat' (first | exact trivial | exact rfl | refine And.intro ?_ ?_))
  · have hh := hasN_iff.1 (hx.nine k9)
    have hic : i < r.count := by have := h.2; unfold kidsR at this; rw [if_neg k1] at this; omega
    have hl := (okSeg_at ha r.segment).1
    simp only [unX] at hh
    have e1 : 0 ≤ i * (r.data + r.kids) := Int.mul_nonneg (by omega) (by omega)
    have e2 : i * (r.data + r.kids) ≤ r.count * (r.data + r.kids) := Int.mul_le_mul_of_nonneg_right (by omega) (by omega)
    refine ⟨by ((unfold InR; omega)), by ((unfold InR; omega)), by ((unfold InR; omega)), ?_⟩
    rw [show kidX (segO r.a) (unX r) i = (⟨1, r.segment, r.at_ + i * (r.data + r.kids), r.data, r.kids, 0, 0⟩, 0) by
      unfold kidX; rw [if_neg (by rw [hkr]; omega), if_neg (show ¬(unX r).kind = 1 from k1), if_neg (show ¬(unX r).kind = 8 from k8), if_pos (show (unX r).kind = 9 from k9)]; rfl]
    (repeat' (first | exact trivial | exact rfl | refine And.intro ?_ ?_))
  · have hic : i < r.count := by have := h.2; unfold kidsR at this; rw [if_neg k1] at this; omega
    refine ⟨by show 2 ≤ r.kind; omega, by show r.kind ≤ 7; omega, by show 0 ≤ i; omega, hic⟩
  · rw [show kidX (segO r.a) (unX r) i = (⟨10, 0, 0, 0, 0, 0, getW ((segAt (segO r.a) r.segment).drop r.at_.toNat) (r.kind - 2) i⟩, 0) by
      unfold kidX; rw [if_neg (by rw [hkr]; omega), if_neg (show ¬(unX r).kind = 1 from k1), if_neg (show ¬(unX r).kind = 8 from k8), if_neg (show ¬(unX r).kind = 9 from k9)]; rfl]
    (repeat' (first | exact trivial | exact rfl | refine And.intro ?_ ?_))

end Go.AM.Ythokdjgpdonhgaa

namespace Go.AM.Ythokdjgpdonhgaa
open Go.AM Go.Proofs

theorem aw_ok : okSeg [[4294967296, 7]] := ⟨by simp, fun w hw => by
  rw [List.mem_singleton.1 hw]
  refine ⟨by simp, fun x hx => ?_⟩
  simp at hx
  rcases hx with rfl | rfl <;> decide⟩

end Go.AM.Ythokdjgpdonhgaa

namespace Go.AM.Ythokdjgpdonhgaa
open Go.AM Go.Proofs Go.Proofs.Ythokdjgpdonhgaa Go.ChangeShapes Go.WideShapes Go.RowKit

theorem own : ownKnob Try.prog.godebug = none := by kernel_rfl
theorem laidOut : laidOutB Try.prog = true := by kernel_rfl
end Go.AM.Ythokdjgpdonhgaa

namespace Go.AM.Ythokdjgpdonhgaa
open Go.AM Go.Proofs Go.Proofs.Ythokdjgpdonhgaa Go.ChangeShapes Go.WideShapes Go.RowKit

theorem rd_limits {H : Type} {henc : TypeId × Value → H} {w : World} {n : Nat} {cs : List Value} (h : Rdd henc Try.prog w n (cfg.elT .limits) cs) : ∃ e : Limits, RelS cfg w.cell? cs (cfg.enc .limits e) ∧ True := by
  obtain ⟨m, rfl, hl, r0⟩ := rd_fld cfgOk (t := cfg.elT .limits) (i := 0) (off := 0) (ft := 3) (ag := false) (zs := [.int .i64 0]) rfl rfl h
  obtain ⟨m', e', _, r1⟩ := rd_fld cfgOk (t := cfg.elT .limits) (i := 1) (off := 1) (ft := 3) (ag := false) (zs := [.int .i64 0]) rfl rfl h
  cases e'
  obtain ⟨m', e', _, r2⟩ := rd_fld cfgOk (t := cfg.elT .limits) (i := 2) (off := 2) (ft := 3) (ag := false) (zs := [.int .i64 0]) rfl rfl h
  cases e'
  obtain ⟨m', e', _, r3⟩ := rd_fld cfgOk (t := cfg.elT .limits) (i := 3) (off := 3) (ft := 3) (ag := false) (zs := [.int .i64 0]) rfl rfl h
  cases e'
  have hl4 : cs.length = 4 := by rw [hl, cellsOf_var cfgOk (t := cfg.elT .limits) (ag := true) (zs := [.int .i64 0, .int .i64 0, .int .i64 0, .int .i64 0]) rfl]; rfl
  obtain ⟨a, a1, _⟩ := rd_int cfgOk (k := .i64) (n0 := 0) rfl r0
  obtain ⟨b, b1, _⟩ := rd_int cfgOk (k := .i64) (n0 := 0) rfl r1
  obtain ⟨c, c1, _⟩ := rd_int cfgOk (k := .i64) (n0 := 0) rfl r2
  obtain ⟨d, d1, _⟩ := rd_int cfgOk (k := .i64) (n0 := 0) rfl r3
  exact ⟨⟨a, b, c, d⟩, a1.glue rfl (by simp; omega) (b1.glue rfl (by simp; omega) (c1.glue rfl (by simp; omega) (d1.glue rfl (by simp; omega) (RelS.done (n := 4) hl4)))), trivial⟩

theorem argLimits {H : Type} {henc : TypeId × Value → H} : ArgR henc Try.prog cfg (aEl .limits) 60 (fun _ => True) := argR_el cfgOk rfl ⟨_, _, rfl⟩ (fun _ n cs h => rd_limits h)
theorem argU32 {H : Type} {henc : TypeId × Value → H} : ArgR henc Try.prog cfg (aInt .u32) 70 (fun z => IntKind.min .u32 ≤ z ∧ z ≤ IntKind.max .u32) := argR_int cfgOk (n0 := 0) rfl

end Go.AM.Ythokdjgpdonhgaa

namespace Go.AM

def clampI (n t : Int) : Int := if n < 0 then 0 else if t < n then t else n
def limV (x : Limits) : Limits := ⟨clampI x.depth 64, clampI x.weight 65536, clampI x.maxD 4096, clampI x.maxOut 131072⟩
def ownX (x : XRef) : Int := if x.kind = 1 then 1 + x.data + x.ptrs else if x.kind = 9 then 1 + x.count * (1 + x.data + x.ptrs) else 1 + x.count

def loopM (f : Int → Int → Tree × Int × Int) : Nat → Int → Int → List Tree → List Tree × Int × Int
  | 0, _, left, acc => (acc, left, 0)
  | n + 1, i, left, acc => if (f i left).2.2 = 0 then loopM f n (i + 1) (f i left).2.1 (acc ++ [(f i left).1]) else (acc, (f i left).2)

def kidsM (l : List (List Int)) (m : XRef → Int → Tree × Int × Int) (x : XRef) (left : Int) : Tree × Int × Int :=
  (⟨1, wordsX l x, (loopM (fun j left => if (kidX l x j).2 = 0 then m (kidX l x j).1 left else (Tree.nil, left, (kidX l x j).2)) x.ptrs.toNat 0 left []).1⟩,
    (loopM (fun j left => if (kidX l x j).2 = 0 then m (kidX l x j).1 left else (Tree.nil, left, (kidX l x j).2)) x.ptrs.toNat 0 left []).2)

def kidM (l : List (List Int)) (m m' : XRef → Int → Tree × Int × Int) (x : XRef) (i left : Int) : Tree × Int × Int :=
  if (kidX l x i).2 = 0 then
    if x.kind = 9 then kidsM l m' (kidX l x i).1 left
    else if x.kind = 1 ∨ x.kind = 8 then m (kidX l x i).1 left
    else (⟨(kidX l x i).1.kind, wordsX l (kidX l x i).1, []⟩, left, 0)
  else (Tree.nil, left, (kidX l x i).2)

def stepM (l : List (List Int)) (d : Nat) (m m' : XRef → Int → Tree × Int × Int) (x : XRef) (left : Int) : Tree × Int × Int :=
  if x.kind = 0 then (⟨0, wordsX l x, []⟩, left, 0)
  else if d = 0 ∨ (x.kind = 9 ∧ 0 < x.count ∧ d < 2) ∨ left < ownX x then (⟨x.kind, wordsX l x, []⟩, left, 3)
  else (⟨x.kind, wordsX l x, (loopM (kidM l m m' x) (kidsX x).toNat 0 (left - ownX x) []).1⟩, (loopM (kidM l m m' x) (kidsX x).toNat 0 (left - ownX x) []).2)

def mean (l : List (List Int)) : Nat → XRef → Int → Tree × Int × Int
  | 0 => stepM l 0 (fun _ left => (Tree.nil, left, 3)) (fun _ left => (Tree.nil, left, 3))
  | 1 => stepM l 1 (mean l 0) (fun _ left => (Tree.nil, left, 3))
  | d + 2 => stepM l (d + 2) (mean l (d + 1)) (mean l d)

def kidV (l : List (List Int)) (d : Nat) (x : XRef) (i left : Int) : Int × Int :=
  if (kidX l x i).2 = 0 then (if x.kind = 9 then (kidsM l (mean l d) (kidX l x i).1 left).2 else (mean l d (kidX l x i).1 left).2) else (left, (kidX l x i).2)

def unfV (l : List (List Int)) (x : Limits) : Tree × Int × Int :=
  if (refAt l 0 0).2 = 0 then
    if (mean l (limV x).depth.toNat (refAt l 0 0).1 (limV x).weight).2.2 = 0 then
      ((mean l (limV x).depth.toNat (refAt l 0 0).1 (limV x).weight).1, (limV x).weight - (mean l (limV x).depth.toNat (refAt l 0 0).1 (limV x).weight).2.1, 0)
    else (Tree.nil, 0, (mean l (limV x).depth.toNat (refAt l 0 0).1 (limV x).weight).2.2)
  else (Tree.nil, 0, (refAt l 0 0).2)

theorem ownX_pos {l : List (List Int)} {x : XRef} (h : OkX l x) : 1 ≤ ownX x := by
  have h1 := h.data
  have h2 := h.ptrs
  have h3 := h.count
  unfold ownX
  split
  · omega
  · split
    · have := Int.mul_nonneg h3.1 (show 0 ≤ 1 + x.data + x.ptrs by omega); omega
    · omega

theorem kidsX_le {l : List (List Int)} {x : XRef} (h : OkX l x) : 0 ≤ kidsX x ∧ kidsX x + 1 ≤ ownX x := by
  have h1 := h.data
  have h2 := h.ptrs
  have h3 := h.count
  unfold ownX kidsX
  split
  · omega
  · split
    · have : x.count * 1 ≤ x.count * (1 + x.data + x.ptrs) := Int.mul_le_mul_of_nonneg_left (by omega) h3.1
      omega
    · omega

def Fine (r : Tree × Int × Int) (left : Int) : Prop := 0 ≤ r.2.1 ∧ r.2.1 ≤ left

theorem loopM_fine {f : Int → Int → Tree × Int × Int} (hf : ∀ i left, 0 ≤ left → Fine (f i left) left) : ∀ (n : Nat) (i left : Int) (acc : List Tree), 0 ≤ left → 0 ≤ (loopM f n i left acc).2.1 ∧ (loopM f n i left acc).2.1 ≤ left
  | 0, _, left, _, h => ⟨h, Int.le_refl _⟩
  | n + 1, i, left, acc, h => by
    have h1 := hf i left h
    simp only [loopM]
    split
    · have := loopM_fine hf n (i + 1) (f i left).2.1 (acc ++ [(f i left).1]) h1.1
      exact ⟨this.1, Int.le_trans this.2 h1.2⟩
    · exact h1

def FineM (l : List (List Int)) (m : XRef → Int → Tree × Int × Int) : Prop := ∀ x left, OkX l x → 0 ≤ left → Fine (m x left) left

theorem kidsM_fine {l : List (List Int)} (hl : okSeg l) {m : XRef → Int → Tree × Int × Int} (hm : FineM l m) {x : XRef} (hx : OkX l x) (left : Int) (h : 0 ≤ left) : Fine (kidsM l m x left) left := by
  refine loopM_fine (fun j left h => ?_) _ _ _ _ h
  split
  · exact hm _ _ (okX_kid hl hx _) h
  · exact ⟨h, Int.le_refl _⟩

theorem kidM_fine {l : List (List Int)} (hl : okSeg l) {m m' : XRef → Int → Tree × Int × Int} (hm : FineM l m) (hm' : FineM l m') {x : XRef} (hx : OkX l x) (i left : Int) (h : 0 ≤ left) : Fine (kidM l m m' x i left) left := by
  unfold kidM
  split
  · split
    · exact kidsM_fine hl hm' (okX_kid hl hx _) _ h
    · split
      · exact hm _ _ (okX_kid hl hx _) h
      · exact ⟨h, Int.le_refl _⟩
  · exact ⟨h, Int.le_refl _⟩

theorem stepM_fine {l : List (List Int)} (hl : okSeg l) {d : Nat} {m m' : XRef → Int → Tree × Int × Int} (hm : FineM l m) (hm' : FineM l m') : FineM l (stepM l d m m') := by
  intro x left hx h
  unfold stepM
  split
  · exact ⟨h, Int.le_refl _⟩
  · split
    · exact ⟨h, Int.le_refl _⟩
    · have h1 := ownX_pos hx
      have := loopM_fine (f := kidM l m m' x) (fun i left h => kidM_fine hl hm hm' hx i left h) (kidsX x).toNat 0 (left - ownX x) [] (by omega)
      exact ⟨this.1, by have := this.2; dsimp only; omega⟩

theorem none_fine {l : List (List Int)} : FineM l (fun _ left => (Tree.nil, left, 3)) := fun _ _ _ h => ⟨h, Int.le_refl _⟩

theorem mean_fine {l : List (List Int)} (hl : okSeg l) : ∀ d : Nat, FineM l (mean l d) := by
  intro d
  induction d using Nat.strongRecOn with
  | ind d ih =>
    match d with
    | 0 => exact stepM_fine hl none_fine none_fine
    | 1 => exact stepM_fine hl (ih 0 (by omega)) none_fine
    | d + 2 => exact stepM_fine hl (ih (d + 1) (by omega)) (ih d (by omega))

theorem mean_eq {l : List (List Int)} {d : Nat} {x : XRef} {left : Int} (h : 1 ≤ d) : mean l d x left = stepM l d (mean l (d - 1)) (mean l (d - 2)) x left := by
  match d, h with
  | 1, _ =>
    show stepM l 1 (mean l 0) _ x left = stepM l 1 (mean l 0) (mean l 0) x left
    unfold stepM
    split
    · rfl
    · split
      · rfl
      · rename_i h0 h1
        have h9 : x.kind = 9 → x.count ≤ 0 := fun e => by
          by_cases hc : 0 < x.count
          · exact absurd (.inr (.inl ⟨e, hc, by decide⟩)) h1
          · omega
        have : ∀ a b, kidM l (mean l 0) a x = kidM l (mean l 0) b x ∨ (kidsX x).toNat = 0 := fun a b => by
          by_cases e : x.kind = 9
          · right
            have := h9 e
            unfold kidsX
            rw [if_neg (by omega)]
            omega
          · left
            funext i left
            unfold kidM
            rw [if_neg e, if_neg e]
        rcases this (fun _ left => (Tree.nil, left, 3)) (mean l 0) with e | e
        · rw [e]
        · rw [e]; rfl
  | d + 2, _ => rfl

theorem mean_zero {l : List (List Int)} {x : XRef} {left : Int} : mean l 0 x left = if x.kind = 0 then (⟨0, wordsX l x, []⟩, left, 0) else (⟨x.kind, wordsX l x, []⟩, left, 3) := by
  show stepM l 0 _ _ x left = _
  unfold stepM
  split
  · rfl
  · rw [if_pos (.inl rfl)]

end Go.AM

namespace Go.AM.Ythokdjgpdonhgaa
open Go.AM Go.Proofs

def args45 : ArgL (Limits × Unit) := (.cons (aEl .limits) .nil)
def pre45 (a : Limits × Unit) : Prop := True
noncomputable def res45 (a : Limits × Unit) : V U := .agg [.int .i64 (Limits.depth (limV a.1)), .int .i64 (Limits.weight (limV a.1)), .int .i64 (Limits.maxD (limV a.1)), .int .i64 (Limits.maxOut (limV a.1))]
noncomputable def spec45 : Fs U := fs args45 (fun a => [pre45 a]) res45

def args107 : ArgL (Int × Unit) := (.cons (aInt .i64) .nil)
def pre107 (a : Int × Unit) : Prop := True
noncomputable def res107 (a : Int × Unit) : V U := .c (.bool (decide (2 ≤ a.1 ∧ a.1 ≤ 7)))
noncomputable def spec107 : Fs U := fs args107 (fun a => [pre107 a]) res107

def args106 : ArgL (Ref × Unit) := (.cons (aEl .ref) .nil)
def pre106 (a : Ref × Unit) : Prop := okR a.1
noncomputable def res106 (a : Ref × Unit) : V U := .c (.int .i64 (ownX (unX a.1)))
noncomputable def spec106 : Fs U := fs args106 (fun a => [pre106 a]) res106

def args105 : ArgM ((Int × Int × Unit) × Int × Unit) := (.obj 0 (.cons (cInt .i64) (.cons (cInt .i64) .nil)) (.cons (aInt .i64) .nil))
def pre105 (a : (Int × Int × Unit) × Int × Unit) : Prop := 0 ≤ a.1.1 ∧ a.1.1 ≤ a.1.2.1 ∧ a.1.2.1 ≤ 65536 ∧ 0 ≤ a.2.1
noncomputable def res105 (a : (Int × Int × Unit) × Int × Unit) : V U := .c (.bool (decide (a.2.1 ≤ a.1.2.1 - a.1.1)))
noncomputable def resX105 (a : (Int × Int × Unit) × Int × Unit) : List (List (C U)) := [[.int .i64 (if a.2.1 ≤ a.1.2.1 - a.1.1 then a.1.1 + a.2.1 else a.1.1), .int .i64 a.1.2.1]]
noncomputable def spec105 : Fs U := fsX args105 (fun a => [pre105 a]) res105 resX105

def args77 : ArgM ((Int × Int × Unit) × Ref × Int × Unit) := (.obj 0 (.cons (cInt .i64) (.cons (cInt .i64) .nil)) (.cons (aEl .ref) (.cons (aInt .i64) .nil)))
def pre77 (a : (Int × Int × Unit) × Ref × Int × Unit) : Prop := okR a.2.1 ∧ 0 ≤ a.1.1 ∧ a.1.1 ≤ a.1.2.1 ∧ a.1.2.1 ≤ 65536 ∧ 0 ≤ a.2.2.1 ∧ a.2.2.1 ≤ 64
def mu77 (a : (Int × Int × Unit) × Ref × Int × Unit) : Nat := 3 * Int.toNat a.2.2.1
noncomputable def res77 (a : (Int × Int × Unit) × Ref × Int × Unit) : V U := .c (.int .i64 ((mean (segO (Ref.a a.2.1)) (Int.toNat a.2.2.1) (unX a.2.1) (a.1.2.1 - a.1.1)).2.2))
noncomputable def resX77 (a : (Int × Int × Unit) × Ref × Int × Unit) : List (List (C U)) := [[.int .i64 (a.1.2.1 - (mean (segO (Ref.a a.2.1)) (Int.toNat a.2.2.1) (unX a.2.1) (a.1.2.1 - a.1.1)).2.1), .int .i64 a.1.2.1]]
noncomputable def spec77 : Fs U := fsX args77 (fun a => [pre77 a]) res77 resX77

def args108 : ArgM ((Int × Int × Unit) × Ref × Int × Int × Unit) := (.obj 0 (.cons (cInt .i64) (.cons (cInt .i64) .nil)) (.cons (aEl .ref) (.cons (aInt .i64) (.cons (aInt .i64) .nil))))
def pre108 (a : (Int × Int × Unit) × Ref × Int × Int × Unit) : Prop := okR a.2.1 ∧ 0 ≤ a.1.1 ∧ a.1.1 ≤ a.1.2.1 ∧ a.1.2.1 ≤ 65536 ∧ 0 ≤ a.2.2.2.1 ∧ a.2.2.2.1 ≤ 64 ∧ (Ref.kind a.2.1 = 1 ∨ Ref.kind a.2.1 = 8 ∨ Ref.kind a.2.1 = 9)
def mu108 (a : (Int × Int × Unit) × Ref × Int × Int × Unit) : Nat := 3 * Int.toNat a.2.2.2.1 + (if Ref.kind a.2.1 = 9 then 2 else 1)
noncomputable def res108 (a : (Int × Int × Unit) × Ref × Int × Int × Unit) : V U := .c (.int .i64 ((kidV (segO (Ref.a a.2.1)) (Int.toNat a.2.2.2.1) (unX a.2.1) a.2.2.1 (a.1.2.1 - a.1.1)).2))
noncomputable def resX108 (a : (Int × Int × Unit) × Ref × Int × Int × Unit) : List (List (C U)) := [[.int .i64 (a.1.2.1 - (kidV (segO (Ref.a a.2.1)) (Int.toNat a.2.2.2.1) (unX a.2.1) a.2.2.1 (a.1.2.1 - a.1.1)).1), .int .i64 a.1.2.1]]
noncomputable def spec108 : Fs U := fsX args108 (fun a => [pre108 a]) res108 resX108

def args40 : ArgL (Option Arena × Limits × Unit) := (.cons (aPo .arena) (.cons (aEl .limits) .nil))
def pre40 (a : Option Arena × Limits × Unit) : Prop := okA a.1
noncomputable def res40 (a : Option Arena × Limits × Unit) : V U := .tup [(false, [.int .i64 ((unfV (segO a.1) a.2.1).2.1)]), (false, [.int .i64 ((unfV (segO a.1) a.2.1).2.2)])]
noncomputable def spec40 : Fs U := fs args40 (fun a => [pre40 a]) res40

noncomputable def know45 : List (FuncId × Fs U) := []
def lv45 : Lives U := fun i => match i with
  | 0 => ([(1, []), (2, [])], [((.loc 1), []), ((.loc 2), [])])
  | 1 => ([(2, [])], [((.loc 2), [])])
  | _ => ([], [])
noncomputable abbrev A45 (p : List Nat) := awp cfg (know know45) (drawOk cfg (know know45)) Try.f45.ntmps lv45 (cd Try.f45 p)
theorem vc45 (x : Limits) (Q : AExit → LSt U → Prop) (h : ((Q .ret (⟨[(2, .ptr (.loc 2) 0)], [((.loc 2), [.int .i64 (if (64 : Int) < (if ((Limits.depth x) : Int) < 0 then 0 else (Limits.depth x)) then 64 else (if ((Limits.depth x) : Int) < 0 then 0 else (Limits.depth x))), .int .i64 (if (65536 : Int) < (if ((Limits.weight x) : Int) < 0 then 0 else (Limits.weight x)) then 65536 else (if ((Limits.weight x) : Int) < 0 then 0 else (Limits.weight x))), .int .i64 (if (4096 : Int) < (if ((Limits.maxD x) : Int) < 0 then 0 else (Limits.maxD x)) then 4096 else (if ((Limits.maxD x) : Int) < 0 then 0 else (Limits.maxD x))), .int .i64 (if (131072 : Int) < (if ((Limits.maxOut x) : Int) < 0 then 0 else (Limits.maxOut x)) then 131072 else (if ((Limits.maxOut x) : Int) < 0 then 0 else (Limits.maxOut x)))])], []⟩ : LSt U)))) :
    A45 [] (⟨[(0, .agg [.int .i64 (Limits.depth x), .int .i64 (Limits.weight x), .int .i64 (Limits.maxD x), .int .i64 (Limits.maxOut x)])], [], []⟩ : LSt U) Q :=
  Eq.mpr (by kernel_rfl) h
def Body45 (x : Limits)  : Prop := awp cfg (know (know45)) (drawOk cfg (know (know45))) Try.f45.ntmps lv45 (cd Try.f45 []) (entry (args45.can (x, ())) []) (EndsQ cfg Try.f45.ntmps Try.f45.results.toList (res45 (x, ())) [])
theorem make45 (hb : ∀ (x : Limits) (_ : Unit), pre45 (x, ()) → Body45 x) : Contract Try.prog cfg 45 spec45 :=
  contract_flat (l := []) cfgOk rfl (trivial) lv45 Try.func45 rfl rfl 1 (fun _ => rfl) (by decide) (fun ⟨x, _⟩ => hb x ())

noncomputable def know107 : List (FuncId × Fs U) := []
def lv107 : Lives U := fun i => match i with
  | 0 => ([(0, [])], [])
  | 1 => ([(2, [])], [])
  | _ => ([], [])
noncomputable abbrev A107 (p : List Nat) := awp cfg (know know107) (drawOk cfg (know know107)) Try.f107.ntmps lv107 (cd Try.f107 p)
theorem vc107 (k : Int) (Q : AExit → LSt U → Prop) (h : ((Tr ((decide ((2 : Int) ≤ k)) = true)) ∧ ((Tr ((decide ((2 : Int) ≤ k)) = true))) ∧ (Q .ret (⟨[(2, .c (.bool (bif (decide ((2 : Int) ≤ k)) then (decide ((k : Int) ≤ 7)) else false)))], [], []⟩ : LSt U)))) :
    A107 [] (⟨[(0, .c (.int .i64 k))], [], []⟩ : LSt U) Q :=
  Eq.mpr (by kernel_rfl) h
def Body107 (k : Int)  : Prop := awp cfg (know (know107)) (drawOk cfg (know (know107))) Try.f107.ntmps lv107 (cd Try.f107 []) (entry (args107.can (k, ())) []) (EndsQ cfg Try.f107.ntmps Try.f107.results.toList (res107 (k, ())) [])
theorem make107 (hb : ∀ (k : Int) (_ : Unit), pre107 (k, ()) → Body107 k) : Contract Try.prog cfg 107 spec107 :=
  contract_flat (l := []) cfgOk rfl (trivial) lv107 Try.func107 rfl rfl 1 (fun _ => rfl) (by decide) (fun ⟨k, _⟩ => hb k ())

noncomputable def know106 : List (FuncId × Fs U) := [(22, spec22), (59, spec59), (23, spec23), (68, spec68)]
def lv106 : Lives U := fun i => match i with
  | 0 => ([(1, [])], [((.loc 1), [])])
  | 1 => ([(1, []), (5, [])], [((.loc 1), [])])
  | 2 => ([(2, [])], [])
  | 3 => ([(1, []), (15, [])], [((.loc 1), [])])
  | 4 => ([(1, []), (3, []), (4, [])], [((.loc 1), [])])
  | 5 => ([(2, [])], [])
  | 6 => ([(2, [])], [])
  | _ => ([], [])
noncomputable abbrev A106 (p : List Nat) := awp cfg (know know106) (drawOk cfg (know know106)) Try.f106.ntmps lv106 (cd Try.f106 p)
theorem vc106 (r : Ref) (Q : AExit → LSt U → Prop) (h : ∀ y_1, y_1 = (r) → ((pre22 (y_1, ())) ∧ (((((Ref.kind y_1) : Int) == 1) = true → (pre59 (y_1, ())) ∧ (InR ((1 : Int) + (lenR y_1))) ∧ (pre23 (y_1, ())) ∧ (InR ((((1 : Int) + (lenR y_1)) : Int) + (kidsR y_1))) ∧ (Q .ret (⟨[(2, .c (.int .i64 ((((1 : Int) + (lenR y_1)) : Int) + (kidsR y_1))))], [], []⟩ : LSt U))) ∧ ((((Ref.kind y_1) : Int) == 1) = false → (pre22 (y_1, ())) ∧ (((((Ref.kind y_1) : Int) == 9) = true → (pre68 (y_1, ())) ∧ ((pre23 (y_1, ())) ∧ (InR ((1 : Int) + (if Ref.kind y_1 = 9 then Ref.data y_1 else 0))) ∧ (InR ((((1 : Int) + (if Ref.kind y_1 = 9 then Ref.data y_1 else 0)) : Int) + (if Ref.kind y_1 = 9 then Ref.kids y_1 else 0))) ∧ (InR (((kidsR y_1) : Int) * ((((1 : Int) + (if Ref.kind y_1 = 9 then Ref.data y_1 else 0)) : Int) + (if Ref.kind y_1 = 9 then Ref.kids y_1 else 0)))) ∧ (InR ((1 : Int) + (((kidsR y_1) : Int) * ((((1 : Int) + (if Ref.kind y_1 = 9 then Ref.data y_1 else 0)) : Int) + (if Ref.kind y_1 = 9 then Ref.kids y_1 else 0))))) ∧ (Q .ret (⟨[(2, .c (.int .i64 ((1 : Int) + (((kidsR y_1) : Int) * ((((1 : Int) + (if Ref.kind y_1 = 9 then Ref.data y_1 else 0)) : Int) + (if Ref.kind y_1 = 9 then Ref.kids y_1 else 0))))))], [], []⟩ : LSt U)))) ∧ ((((Ref.kind y_1) : Int) == 9) = false → (pre23 (y_1, ())) ∧ (InR ((1 : Int) + (kidsR y_1))) ∧ (Q .ret (⟨[(2, .c (.int .i64 ((1 : Int) + (kidsR y_1))))], [], []⟩ : LSt U)))))))) :
    A106 [] (⟨[(0, .agg [.po (U := U) .arena (Ref.a r), .int .i64 (Ref.kind r), .int .i64 (Ref.segment r), .int .i64 (Ref.at_ r), .int .i64 (Ref.data r), .int .i64 (Ref.kids r), .int .i64 (Ref.count r), .int .u64 (Ref.number r)])], [], []⟩ : LSt U) Q :=
  Eq.mpr (by kernel_rfl) (h _ (reRef_eq _))
def Body106 (r : Ref)  : Prop := awp cfg (know (know106)) (drawOk cfg (know (know106))) Try.f106.ntmps lv106 (cd Try.f106 []) (entry (args106.can (r, ())) []) (EndsQ cfg Try.f106.ntmps Try.f106.results.toList (res106 (r, ())) [])
theorem make106 (c22 : Contract Try.prog cfg 22 spec22) (c59 : Contract Try.prog cfg 59 spec59) (c23 : Contract Try.prog cfg 23 spec23) (c68 : Contract Try.prog cfg 68 spec68) (hb : ∀ (r : Ref) (_ : Unit), pre106 (r, ()) → Body106 r) : Contract Try.prog cfg 106 spec106 :=
  contract_flat (l := [(22, spec22), (59, spec59), (23, spec23), (68, spec68)]) cfgOk rfl (⟨c22, c59, c23, c68, trivial⟩) lv106 Try.func106 rfl rfl 1 (fun _ => rfl) (by decide) (fun ⟨r, _⟩ => hb r ())

noncomputable def know105 : List (FuncId × Fs U) := []
def lv105 : Lives U := fun i => match i with
  | 0 => ([(0, []), (1, [])], [((.x 0), [])])
  | 1 => ([(0, []), (1, []), (15, [])], [((.x 0), [])])
  | 2 => ([(4, [])], [((.x 0), [])])
  | 3 => ([], [((.x 0), [])])
  | 4 => ([(4, [])], [((.x 0), [])])
  | _ => ([], [])
noncomputable abbrev A105 (p : List Nat) := awp cfg (know know105) (drawOk cfg (know know105)) Try.f105.ntmps lv105 (cd Try.f105 p)
theorem vc105 (u : Int) (t : Int) (n : Int) (Q : AExit → LSt U → Prop) (h : ((InR ((t : Int) - u)) ∧ (((decide ((((t : Int) - u) : Int) < n)) = true → (Q .ret (⟨[(4, .c (.bool false))], [((.x 0), [.int .i64 u, .int .i64 t])], []⟩ : LSt U))) ∧ ((decide ((((t : Int) - u) : Int) < n)) = false → (InR ((u : Int) + n)) ∧ ((Q .ret (⟨[(4, .c (.bool true))], [((.x 0), [.int .i64 ((u : Int) + n), .int .i64 t])], []⟩ : LSt U))))))) :
    A105 [] (⟨[(0, .ptr (.x 0) 0), (1, .c (.int .i64 n))], [((.x 0), [.int .i64 u, .int .i64 t])], []⟩ : LSt U) Q :=
  Eq.mpr (by kernel_rfl) h
def Body105 (u : Int) (t : Int) (n : Int)  : Prop := awp cfg (know (know105)) (drawOk cfg (know (know105))) Try.f105.ntmps lv105 (cd Try.f105 []) (entry (args105.can ((u, t, ()), n, ())) (args105.canX ((u, t, ()), n, ()))) (EndsQ cfg Try.f105.ntmps Try.f105.results.toList (res105 ((u, t, ()), n, ())) (resX105 ((u, t, ()), n, ())))
theorem make105 (hb : ∀ (u : Int) (t : Int) (n : Int) (_ : Unit), pre105 ((u, t, ()), n, ()) → Body105 u t n) : Contract Try.prog cfg 105 spec105 :=
  contractX_flat (l := []) cfgOk rfl (trivial) lv105 Try.func105 rfl rfl 2 (fun _ => rfl) (by decide) (fun ⟨⟨u, t, _⟩, n, _⟩ => hb u t n ())

noncomputable def know77 (N : Nat) : List (FuncId × Fs U) := (77, fsX args77 (fun a => [pre77 a, mu77 a < N]) res77 resX77) :: (108, fsX args108 (fun a => [pre108 a, mu108 a < N]) res108 resX108) :: [(106, spec106), (105, spec105), (107, spec107), (22, spec22), (23, spec23), (24, spec24)]
def lv77 : Lives U := fun i => match i with
  | 0 => ([(0, []), (2, []), (4, [])], [((.loc 4), []), ((.x 0), [])])
  | 1 => ([(0, []), (2, []), (4, []), (12, [])], [((.loc 4), []), ((.x 0), [])])
  | 2 => ([(6, [])], [((.x 0), [])])
  | 3 => ([(0, []), (2, []), (4, []), (7, [])], [((.loc 4), []), ((.x 0), [])])
  | 4 => ([(0, []), (2, []), (4, []), (7, []), (22, [])], [((.loc 4), []), ((.x 0), [])])
  | 5 => ([(0, []), (2, []), (4, []), (7, []), (22, [])], [((.loc 4), []), ((.x 0), [])])
  | 6 => ([(0, []), (4, []), (7, []), (37, [])], [((.loc 4), []), ((.x 0), [])])
  | 7 => ([(6, [])], [((.x 0), [])])
  | 8 => ([(0, []), (4, []), (7, []), (40, [])], [((.loc 4), []), ((.x 0), [])])
  | 9 => ([(6, [])], [((.x 0), [])])
  | 10 => ([(0, []), (4, []), (7, []), (42, []), (43, [])], [((.loc 4), []), ((.x 0), [])])
  | 11 => ([(0, []), (4, []), (7, []), (42, []), (43, []), (44, [])], [((.loc 4), []), ((.x 0), [])])
  | 12 => ([(0, []), (4, []), (7, []), (8, []), (42, []), (43, [])], [((.loc 4), []), ((.x 0), [])])
  | 13 => ([(0, []), (4, []), (7, []), (9, []), (42, []), (43, [])], [((.loc 4), []), ((.x 0), [])])
  | 14 => ([(0, []), (4, []), (7, []), (9, []), (42, []), (43, []), (52, [])], [((.loc 4), []), ((.x 0), [])])
  | 15 => ([(6, [])], [((.x 0), [])])
  | 16 => ([(0, []), (4, []), (7, []), (42, []), (43, [])], [((.loc 4), []), ((.x 0), [])])
  | 17 => ([(6, [])], [((.x 0), [])])
  | _ => ([], [])
noncomputable def head77_0 (u : Int) (t : Int) (r : Ref) (d : Int) (x7 : Int) : LSt U := (⟨[(0, .ptr (.x 0) 0), (2, .c (.int .i64 d)), (4, .ptr (.loc 4) 0), (7, .c (.int .i64 x7)), (22, .c (.bool (bif (((Ref.kind (Ref.mk (Ref.a r) (Ref.kind r) (Ref.segment r) (Ref.at_ r) (Ref.data r) (Ref.kids r) (Ref.count r) (Ref.number r))) : Int) == 9) then (decide ((0 : Int) < (kidsR (Ref.mk (Ref.a r) (Ref.kind r) (Ref.segment r) (Ref.at_ r) (Ref.data r) (Ref.kids r) (Ref.count r) (Ref.number r))))) else false)))], [((.loc 4), [.po (U := U) .arena (Ref.a r), .int .i64 (Ref.kind r), .int .i64 (Ref.segment r), .int .i64 (Ref.at_ r), .int .i64 (Ref.data r), .int .i64 (Ref.kids r), .int .i64 (Ref.count r), .int .u64 (Ref.number r)]), ((.x 0), [.int .i64 u, .int .i64 t])], []⟩ : LSt U)
noncomputable def head77_1 (u : Int) (t : Int) (r : Ref) (d : Int) (x7 : Int) (x43_a : Int) (mx0_0_a : Int) (mx0_1_a : Int) : LSt U := (⟨[(0, .ptr (.x 0) 0), (4, .ptr (.loc 4) 0), (7, .c (.int .i64 x7)), (42, .c (.int .i64 (kidsR (Ref.mk (Ref.a r) (Ref.kind r) (Ref.segment r) (Ref.at_ r) (Ref.data r) (Ref.kids r) (Ref.count r) (Ref.number r))))), (43, .c (.int .i64 x43_a))], [((.loc 4), [.po (U := U) .arena (Ref.a r), .int .i64 (Ref.kind r), .int .i64 (Ref.segment r), .int .i64 (Ref.at_ r), .int .i64 (Ref.data r), .int .i64 (Ref.kids r), .int .i64 (Ref.count r), .int .u64 (Ref.number r)]), ((.x 0), [.int .i64 mx0_0_a, .int .i64 mx0_1_a])], []⟩ : LSt U)
noncomputable abbrev A77 (N : Nat) (p : List Nat) := awp cfg (know (know77 N)) (drawOk cfg (know (know77 N))) Try.f77.ntmps lv77 (cd Try.f77 p)
noncomputable abbrev S77 (N : Nat) (p : List Nat) := seqK cfg (know (know77 N)) (drawOk cfg (know (know77 N))) Try.f77.ntmps lv77 (cd Try.f77 p)
theorem vc77 (N : Nat) (u : Int) (t : Int) (r : Ref) (d : Int) (Q : AExit → LSt U → Prop) (h : ∀ y_1, y_1 = (r) → ((pre22 (y_1, ())) ∧ (((((Ref.kind y_1) : Int) == 0) = true → (Q .ret (⟨[(6, .c (.int .i64 0))], [((.x 0), [.int .i64 u, .int .i64 t])], []⟩ : LSt U))) ∧ ((((Ref.kind y_1) : Int) == 0) = false → (InR ((d : Int) - 1)) ∧ ((pre22 (y_1, ())) ∧ (Tr ((((Ref.kind y_1) : Int) == 9) = true)) ∧ ((((Ref.kind y_1) : Int) == 9) = true → pre23 (y_1, ())) ∧ (Tr ((((Ref.kind y_1) : Int) == 9) = true)) ∧ ((Tr ((((Ref.kind y_1) : Int) == 9) = true))) ∧ (((bif (((Ref.kind y_1) : Int) == 9) then (decide ((0 : Int) < (kidsR y_1))) else false) = true → (InR ((((d : Int) - 1) : Int) - 1)) ∧ (A77 N [1, 1, 1, 1] (head77_0 u t r d ((((d : Int) - 1) : Int) - 1)) Q)) ∧ ((bif (((Ref.kind y_1) : Int) == 9) then (decide ((0 : Int) < (kidsR y_1))) else false) = false → A77 N [1, 1, 1, 1] (head77_0 u t r d ((d : Int) - 1)) Q))))))) :
    A77 N [] (⟨[(0, .ptr (.x 0) 0), (1, .agg [.po (U := U) .arena (Ref.a r), .int .i64 (Ref.kind r), .int .i64 (Ref.segment r), .int .i64 (Ref.at_ r), .int .i64 (Ref.data r), .int .i64 (Ref.kids r), .int .i64 (Ref.count r), .int .u64 (Ref.number r)]), (2, .c (.int .i64 d))], [((.x 0), [.int .i64 u, .int .i64 t])], []⟩ : LSt U) Q :=
  Eq.mpr (by kernel_rfl) (h _ (reRef_eq _))
theorem vc77_c0 (N : Nat) (u : Int) (t : Int) (r : Ref) (d : Int) (x7 : Int) (Q : AExit → LSt U → Prop) (h : ∀ y_1, y_1 = (r) → (Tr ((!(decide ((d : Int) < 1))) = true)) ∧ (((decide ((d : Int) < 1)) = false → (!(decide ((d : Int) < 1))) = true)) ∧ (Tr ((!(bif (decide ((d : Int) < 1)) then true else (decide ((x7 : Int) < 0)))) = true)) ∧ ((!(bif (decide ((d : Int) < 1)) then true else (decide ((x7 : Int) < 0)))) = true → pre106 (y_1, ())) ∧ (Tr ((!(bif (decide ((d : Int) < 1)) then true else (decide ((x7 : Int) < 0)))) = true)) ∧ (Tr ((!(bif (decide ((d : Int) < 1)) then true else (decide ((x7 : Int) < 0)))) = true)) ∧ ((!(bif (decide ((d : Int) < 1)) then true else (decide ((x7 : Int) < 0)))) = true → pre105 ((u, t, ()), (ownX (unX y_1)), ())) ∧ (Tr ((!(bif (decide ((d : Int) < 1)) then true else (decide ((x7 : Int) < 0)))) = true)) ∧ (((bif (decide ((d : Int) < 1)) then true else (decide ((x7 : Int) < 0))) = false → (!(bif (decide ((d : Int) < 1)) then true else (decide ((x7 : Int) < 0)))) = true)) ∧ (((bif (bif (decide ((d : Int) < 1)) then true else (decide ((x7 : Int) < 0))) then true else (!(decide ((ownX (unX y_1)) ≤ t - u)))) = true → (Q .ret (⟨[(6, .c (.int .i64 3))], [((.x 0), [.int .i64 (bif (!(bif (decide ((d : Int) < 1)) then true else (decide ((x7 : Int) < 0)))) then (if (ownX (unX y_1)) ≤ t - u then u + (ownX (unX y_1)) else u) else u), .int .i64 (bif (!(bif (decide ((d : Int) < 1)) then true else (decide ((x7 : Int) < 0)))) then t else t)])], []⟩ : LSt U))) ∧ ((bif (bif (decide ((d : Int) < 1)) then true else (decide ((x7 : Int) < 0))) then true else (!(decide ((ownX (unX y_1)) ≤ t - u)))) = false → (pre22 (y_1, ())) ∧ (pre107 ((Ref.kind y_1), ())) ∧ (((decide (2 ≤ (Ref.kind y_1) ∧ (Ref.kind y_1) ≤ 7)) = true → (Q .ret (⟨[(6, .c (.int .i64 0))], [((.x 0), [.int .i64 (bif (!(bif (decide ((d : Int) < 1)) then true else (decide ((x7 : Int) < 0)))) then (if (ownX (unX y_1)) ≤ t - u then u + (ownX (unX y_1)) else u) else u), .int .i64 (bif (!(bif (decide ((d : Int) < 1)) then true else (decide ((x7 : Int) < 0)))) then t else t)])], []⟩ : LSt U))) ∧ ((decide (2 ≤ (Ref.kind y_1) ∧ (Ref.kind y_1) ≤ 7)) = false → (pre23 (y_1, ())) ∧ (LoopWp (A77 N [1, 1, 1, 1, 1, 1, 0, 1, 0, 0]) (head77_1 u t r d x7 0 (bif (!(bif (decide ((d : Int) < 1)) then true else (decide ((x7 : Int) < 0)))) then (if (ownX (unX y_1)) ≤ t - u then u + (ownX (unX y_1)) else u) else u) (bif (!(bif (decide ((d : Int) < 1)) then true else (decide ((x7 : Int) < 0)))) then t else t)) (AExit.inBlock 0 (S77 N [1, 1, 1, 1, 1, 1, 1] Q)))))))) :
    A77 N [1, 1, 1, 1] (head77_0 u t r d x7) Q :=
  Eq.mpr (by kernel_rfl) (h _ (reRef_eq _))
theorem vc77_l1 (N : Nat) (u : Int) (t : Int) (r : Ref) (d : Int) (x7 : Int) (x43_a : Int) (mx0_0_a : Int) (mx0_1_a : Int) (N1 : LSt U → Prop) (Q : AExit → LSt U → Prop) (h : ∀ y_1, y_1 = (r) → ∀ y_2, y_2 = (kidV (segO (Ref.a y_1)) (Int.toNat x7) (unX y_1) x43_a (mx0_1_a - mx0_0_a)) → (((decide ((x43_a : Int) < (kidsR y_1))) = true → ((pre108 ((mx0_0_a, mx0_1_a, ()), y_1, x43_a, x7, ())) ∧ (mu108 ((mx0_0_a, mx0_1_a, ()), y_1, x43_a, x7, ()) < N) ∧ ((((((y_2.2) : Int) != 0) = true → (Q .ret (⟨[(6, .c (.int .i64 (y_2.2)))], [((.x 0), [.int .i64 (mx0_1_a - y_2.1), .int .i64 mx0_1_a])], []⟩ : LSt U))) ∧ ((((y_2.2) : Int) != 0) = false → (InR ((x43_a : Int) + 1)) ∧ (N1 (head77_1 u t r d x7 ((x43_a : Int) + 1) (mx0_1_a - y_2.1) mx0_1_a))))))) ∧ ((decide ((x43_a : Int) < (kidsR y_1))) = false → (Q .ret (⟨[(6, .c (.int .i64 0))], [((.x 0), [.int .i64 mx0_0_a, .int .i64 mx0_1_a])], []⟩ : LSt U))))) :
    A77 N [1, 1, 1, 1, 1, 1, 0, 1, 0, 0] (head77_1 u t r d x7 x43_a mx0_0_a mx0_1_a) (AExit.then N1 (AExit.inBlock 0 (S77 N [1, 1, 1, 1, 1, 1, 1] Q))) :=
  Eq.mpr (by kernel_rfl) (h _ (reRef_eq _) _ rfl)
def Body77 (N : Nat) (u : Int) (t : Int) (r : Ref) (d : Int)  : Prop := awp cfg (know (know77 N)) (drawOk cfg (know (know77 N))) Try.f77.ntmps lv77 (cd Try.f77 []) (entry (args77.can ((u, t, ()), r, d, ())) (args77.canX ((u, t, ()), r, d, ()))) (EndsQ cfg Try.f77.ntmps Try.f77.results.toList (res77 ((u, t, ()), r, d, ())) (resX77 ((u, t, ()), r, d, ())))
abbrev HB77 : Prop := ∀ (N : Nat) (u : Int) (t : Int) (r : Ref) (d : Int) (_ : Unit), pre77 ((u, t, ()), r, d, ()) → mu77 ((u, t, ()), r, d, ()) < N + 1 → Body77 N u t r d

noncomputable def know108 (N : Nat) : List (FuncId × Fs U) := (77, fsX args77 (fun a => [pre77 a, mu77 a < N]) res77 resX77) :: (108, fsX args108 (fun a => [pre108 a, mu108 a < N]) res108 resX108) :: [(106, spec106), (105, spec105), (107, spec107), (22, spec22), (23, spec23), (24, spec24)]
def lv108 : Lives U := fun i => match i with
  | 0 => ([(0, []), (2, []), (3, []), (5, [])], [((.loc 5), []), ((.x 0), [])])
  | 1 => ([(0, []), (3, []), (5, []), (9, []), (10, [])], [((.loc 5), []), ((.loc 9), []), ((.x 0), [])])
  | 2 => ([(0, []), (3, []), (5, []), (9, []), (10, []), (20, [])], [((.loc 5), []), ((.loc 9), []), ((.x 0), [])])
  | 3 => ([(8, [])], [((.x 0), [])])
  | 4 => ([(0, []), (3, []), (9, []), (24, [])], [((.loc 9), []), ((.x 0), [])])
  | 5 => ([(8, [])], [((.x 0), [])])
  | 6 => ([(0, []), (3, []), (9, []), (30, []), (31, [])], [((.loc 9), []), ((.x 0), [])])
  | 7 => ([(0, []), (3, []), (9, []), (30, []), (31, []), (32, [])], [((.loc 9), []), ((.x 0), [])])
  | 8 => ([(0, []), (3, []), (9, []), (11, []), (30, []), (31, [])], [((.loc 9), []), ((.x 0), [])])
  | 9 => ([(0, []), (3, []), (9, []), (12, []), (30, []), (31, [])], [((.loc 9), []), ((.x 0), [])])
  | 10 => ([(0, []), (3, []), (9, []), (12, []), (30, []), (31, []), (40, [])], [((.loc 9), []), ((.x 0), [])])
  | 11 => ([(8, [])], [((.x 0), [])])
  | 12 => ([(0, []), (3, []), (9, []), (30, []), (31, [])], [((.loc 9), []), ((.x 0), [])])
  | 13 => ([(8, [])], [((.x 0), [])])
  | _ => ([], [])
noncomputable def head108_0 (u : Int) (t : Int) (r : Ref) (i : Int) (d : Int) (x31 : Int) (mx0_0 : Int) : LSt U := (⟨[(0, .ptr (.x 0) 0), (3, .c (.int .i64 d)), (9, .ptr (.loc 9) 0), (30, .c (.int .i64 (kidsR (Ref.mk (Ref.a (liftX (Ref.a (Ref.mk (Ref.a r) (Ref.kind r) (Ref.segment r) (Ref.at_ r) (Ref.data r) (Ref.kids r) (Ref.count r) (Ref.number r))) (kidX (segO (Ref.a (Ref.mk (Ref.a r) (Ref.kind r) (Ref.segment r) (Ref.at_ r) (Ref.data r) (Ref.kids r) (Ref.count r) (Ref.number r)))) (unX (Ref.mk (Ref.a r) (Ref.kind r) (Ref.segment r) (Ref.at_ r) (Ref.data r) (Ref.kids r) (Ref.count r) (Ref.number r))) i).1)) (Ref.kind (liftX (Ref.a (Ref.mk (Ref.a r) (Ref.kind r) (Ref.segment r) (Ref.at_ r) (Ref.data r) (Ref.kids r) (Ref.count r) (Ref.number r))) (kidX (segO (Ref.a (Ref.mk (Ref.a r) (Ref.kind r) (Ref.segment r) (Ref.at_ r) (Ref.data r) (Ref.kids r) (Ref.count r) (Ref.number r)))) (unX (Ref.mk (Ref.a r) (Ref.kind r) (Ref.segment r) (Ref.at_ r) (Ref.data r) (Ref.kids r) (Ref.count r) (Ref.number r))) i).1)) (Ref.segment (liftX (Ref.a (Ref.mk (Ref.a r) (Ref.kind r) (Ref.segment r) (Ref.at_ r) (Ref.data r) (Ref.kids r) (Ref.count r) (Ref.number r))) (kidX (segO (Ref.a (Ref.mk (Ref.a r) (Ref.kind r) (Ref.segment r) (Ref.at_ r) (Ref.data r) (Ref.kids r) (Ref.count r) (Ref.number r)))) (unX (Ref.mk (Ref.a r) (Ref.kind r) (Ref.segment r) (Ref.at_ r) (Ref.data r) (Ref.kids r) (Ref.count r) (Ref.number r))) i).1)) (Ref.at_ (liftX (Ref.a (Ref.mk (Ref.a r) (Ref.kind r) (Ref.segment r) (Ref.at_ r) (Ref.data r) (Ref.kids r) (Ref.count r) (Ref.number r))) (kidX (segO (Ref.a (Ref.mk (Ref.a r) (Ref.kind r) (Ref.segment r) (Ref.at_ r) (Ref.data r) (Ref.kids r) (Ref.count r) (Ref.number r)))) (unX (Ref.mk (Ref.a r) (Ref.kind r) (Ref.segment r) (Ref.at_ r) (Ref.data r) (Ref.kids r) (Ref.count r) (Ref.number r))) i).1)) (Ref.data (liftX (Ref.a (Ref.mk (Ref.a r) (Ref.kind r) (Ref.segment r) (Ref.at_ r) (Ref.data r) (Ref.kids r) (Ref.count r) (Ref.number r))) (kidX (segO (Ref.a (Ref.mk (Ref.a r) (Ref.kind r) (Ref.segment r) (Ref.at_ r) (Ref.data r) (Ref.kids r) (Ref.count r) (Ref.number r)))) (unX (Ref.mk (Ref.a r) (Ref.kind r) (Ref.segment r) (Ref.at_ r) (Ref.data r) (Ref.kids r) (Ref.count r) (Ref.number r))) i).1)) (Ref.kids (liftX (Ref.a (Ref.mk (Ref.a r) (Ref.kind r) (Ref.segment r) (Ref.at_ r) (Ref.data r) (Ref.kids r) (Ref.count r) (Ref.number r))) (kidX (segO (Ref.a (Ref.mk (Ref.a r) (Ref.kind r) (Ref.segment r) (Ref.at_ r) (Ref.data r) (Ref.kids r) (Ref.count r) (Ref.number r)))) (unX (Ref.mk (Ref.a r) (Ref.kind r) (Ref.segment r) (Ref.at_ r) (Ref.data r) (Ref.kids r) (Ref.count r) (Ref.number r))) i).1)) (Ref.count (liftX (Ref.a (Ref.mk (Ref.a r) (Ref.kind r) (Ref.segment r) (Ref.at_ r) (Ref.data r) (Ref.kids r) (Ref.count r) (Ref.number r))) (kidX (segO (Ref.a (Ref.mk (Ref.a r) (Ref.kind r) (Ref.segment r) (Ref.at_ r) (Ref.data r) (Ref.kids r) (Ref.count r) (Ref.number r)))) (unX (Ref.mk (Ref.a r) (Ref.kind r) (Ref.segment r) (Ref.at_ r) (Ref.data r) (Ref.kids r) (Ref.count r) (Ref.number r))) i).1)) (Ref.number (liftX (Ref.a (Ref.mk (Ref.a r) (Ref.kind r) (Ref.segment r) (Ref.at_ r) (Ref.data r) (Ref.kids r) (Ref.count r) (Ref.number r))) (kidX (segO (Ref.a (Ref.mk (Ref.a r) (Ref.kind r) (Ref.segment r) (Ref.at_ r) (Ref.data r) (Ref.kids r) (Ref.count r) (Ref.number r)))) (unX (Ref.mk (Ref.a r) (Ref.kind r) (Ref.segment r) (Ref.at_ r) (Ref.data r) (Ref.kids r) (Ref.count r) (Ref.number r))) i).1)))))), (31, .c (.int .i64 x31))], [((.loc 9), [.po (U := U) .arena (Ref.a (liftX (Ref.a (Ref.mk (Ref.a r) (Ref.kind r) (Ref.segment r) (Ref.at_ r) (Ref.data r) (Ref.kids r) (Ref.count r) (Ref.number r))) (kidX (segO (Ref.a (Ref.mk (Ref.a r) (Ref.kind r) (Ref.segment r) (Ref.at_ r) (Ref.data r) (Ref.kids r) (Ref.count r) (Ref.number r)))) (unX (Ref.mk (Ref.a r) (Ref.kind r) (Ref.segment r) (Ref.at_ r) (Ref.data r) (Ref.kids r) (Ref.count r) (Ref.number r))) i).1)), .int .i64 (Ref.kind (liftX (Ref.a (Ref.mk (Ref.a r) (Ref.kind r) (Ref.segment r) (Ref.at_ r) (Ref.data r) (Ref.kids r) (Ref.count r) (Ref.number r))) (kidX (segO (Ref.a (Ref.mk (Ref.a r) (Ref.kind r) (Ref.segment r) (Ref.at_ r) (Ref.data r) (Ref.kids r) (Ref.count r) (Ref.number r)))) (unX (Ref.mk (Ref.a r) (Ref.kind r) (Ref.segment r) (Ref.at_ r) (Ref.data r) (Ref.kids r) (Ref.count r) (Ref.number r))) i).1)), .int .i64 (Ref.segment (liftX (Ref.a (Ref.mk (Ref.a r) (Ref.kind r) (Ref.segment r) (Ref.at_ r) (Ref.data r) (Ref.kids r) (Ref.count r) (Ref.number r))) (kidX (segO (Ref.a (Ref.mk (Ref.a r) (Ref.kind r) (Ref.segment r) (Ref.at_ r) (Ref.data r) (Ref.kids r) (Ref.count r) (Ref.number r)))) (unX (Ref.mk (Ref.a r) (Ref.kind r) (Ref.segment r) (Ref.at_ r) (Ref.data r) (Ref.kids r) (Ref.count r) (Ref.number r))) i).1)), .int .i64 (Ref.at_ (liftX (Ref.a (Ref.mk (Ref.a r) (Ref.kind r) (Ref.segment r) (Ref.at_ r) (Ref.data r) (Ref.kids r) (Ref.count r) (Ref.number r))) (kidX (segO (Ref.a (Ref.mk (Ref.a r) (Ref.kind r) (Ref.segment r) (Ref.at_ r) (Ref.data r) (Ref.kids r) (Ref.count r) (Ref.number r)))) (unX (Ref.mk (Ref.a r) (Ref.kind r) (Ref.segment r) (Ref.at_ r) (Ref.data r) (Ref.kids r) (Ref.count r) (Ref.number r))) i).1)), .int .i64 (Ref.data (liftX (Ref.a (Ref.mk (Ref.a r) (Ref.kind r) (Ref.segment r) (Ref.at_ r) (Ref.data r) (Ref.kids r) (Ref.count r) (Ref.number r))) (kidX (segO (Ref.a (Ref.mk (Ref.a r) (Ref.kind r) (Ref.segment r) (Ref.at_ r) (Ref.data r) (Ref.kids r) (Ref.count r) (Ref.number r)))) (unX (Ref.mk (Ref.a r) (Ref.kind r) (Ref.segment r) (Ref.at_ r) (Ref.data r) (Ref.kids r) (Ref.count r) (Ref.number r))) i).1)), .int .i64 (Ref.kids (liftX (Ref.a (Ref.mk (Ref.a r) (Ref.kind r) (Ref.segment r) (Ref.at_ r) (Ref.data r) (Ref.kids r) (Ref.count r) (Ref.number r))) (kidX (segO (Ref.a (Ref.mk (Ref.a r) (Ref.kind r) (Ref.segment r) (Ref.at_ r) (Ref.data r) (Ref.kids r) (Ref.count r) (Ref.number r)))) (unX (Ref.mk (Ref.a r) (Ref.kind r) (Ref.segment r) (Ref.at_ r) (Ref.data r) (Ref.kids r) (Ref.count r) (Ref.number r))) i).1)), .int .i64 (Ref.count (liftX (Ref.a (Ref.mk (Ref.a r) (Ref.kind r) (Ref.segment r) (Ref.at_ r) (Ref.data r) (Ref.kids r) (Ref.count r) (Ref.number r))) (kidX (segO (Ref.a (Ref.mk (Ref.a r) (Ref.kind r) (Ref.segment r) (Ref.at_ r) (Ref.data r) (Ref.kids r) (Ref.count r) (Ref.number r)))) (unX (Ref.mk (Ref.a r) (Ref.kind r) (Ref.segment r) (Ref.at_ r) (Ref.data r) (Ref.kids r) (Ref.count r) (Ref.number r))) i).1)), .int .u64 (Ref.number (liftX (Ref.a (Ref.mk (Ref.a r) (Ref.kind r) (Ref.segment r) (Ref.at_ r) (Ref.data r) (Ref.kids r) (Ref.count r) (Ref.number r))) (kidX (segO (Ref.a (Ref.mk (Ref.a r) (Ref.kind r) (Ref.segment r) (Ref.at_ r) (Ref.data r) (Ref.kids r) (Ref.count r) (Ref.number r)))) (unX (Ref.mk (Ref.a r) (Ref.kind r) (Ref.segment r) (Ref.at_ r) (Ref.data r) (Ref.kids r) (Ref.count r) (Ref.number r))) i).1))]), ((.x 0), [.int .i64 mx0_0, .int .i64 t])], []⟩ : LSt U)
noncomputable abbrev A108 (N : Nat) (p : List Nat) := awp cfg (know (know108 N)) (drawOk cfg (know (know108 N))) Try.f108.ntmps lv108 (cd Try.f108 p)
noncomputable abbrev S108 (N : Nat) (p : List Nat) := seqK cfg (know (know108 N)) (drawOk cfg (know (know108 N))) Try.f108.ntmps lv108 (cd Try.f108 p)
theorem vc108 (N : Nat) (u : Int) (t : Int) (r : Ref) (i : Int) (d : Int) (Q : AExit → LSt U → Prop) (h : ∀ y_1, y_1 = (r) → ∀ y_2, y_2 = ((liftX (Ref.a y_1) (kidX (segO (Ref.a y_1)) (unX y_1) i).1)) → ((pre24 (y_1, i, ())) ∧ (((((((kidX (segO (Ref.a y_1)) (unX y_1) i).2) : Int) != 0) = true → (Q .ret (⟨[(8, .c (.int .i64 ((kidX (segO (Ref.a y_1)) (unX y_1) i).2)))], [((.x 0), [.int .i64 u, .int .i64 t])], []⟩ : LSt U))) ∧ (((((kidX (segO (Ref.a y_1)) (unX y_1) i).2) : Int) != 0) = false → (pre22 (y_1, ())) ∧ (((((Ref.kind y_1) : Int) != 9) = true → (pre77 ((u, t, ()), y_2, d, ())) ∧ (mu77 ((u, t, ()), y_2, d, ()) < N) ∧ (Q .ret (⟨[(8, .c (.int .i64 ((mean (segO (Ref.a y_2)) (Int.toNat d) (unX y_2) (t - u)).2.2)))], [((.x 0), [.int .i64 (t - (mean (segO (Ref.a y_2)) (Int.toNat d) (unX y_2) (t - u)).2.1), .int .i64 t])], []⟩ : LSt U))) ∧ ((((Ref.kind y_1) : Int) != 9) = false → (pre23 (y_2, ())) ∧ (LoopWp (A108 N [1, 1, 1, 1, 0, 1, 0, 0]) (head108_0 u t r i d 0 u) (AExit.inBlock 0 (S108 N [1, 1, 1, 1, 1] Q)))))))))) :
    A108 N [] (⟨[(0, .ptr (.x 0) 0), (1, .agg [.po (U := U) .arena (Ref.a r), .int .i64 (Ref.kind r), .int .i64 (Ref.segment r), .int .i64 (Ref.at_ r), .int .i64 (Ref.data r), .int .i64 (Ref.kids r), .int .i64 (Ref.count r), .int .u64 (Ref.number r)]), (2, .c (.int .i64 i)), (3, .c (.int .i64 d))], [((.x 0), [.int .i64 u, .int .i64 t])], []⟩ : LSt U) Q :=
  Eq.mpr (by kernel_rfl) (h _ (reRef_eq _) _ (reRef_eq _))
theorem vc108_l0 (N : Nat) (u : Int) (t : Int) (r : Ref) (i : Int) (d : Int) (x31 : Int) (mx0_0 : Int) (N0 : LSt U → Prop) (Q : AExit → LSt U → Prop) (h : ∀ y_1, y_1 = (r) → ∀ y_2, y_2 = ((liftX (Ref.a y_1) (kidX (segO (Ref.a y_1)) (unX y_1) i).1)) → ∀ y_3, y_3 = (kidV (segO (Ref.a y_2)) (Int.toNat d) (unX y_2) x31 (t - mx0_0)) → (((decide ((x31 : Int) < (kidsR y_2))) = true → ((pre108 ((mx0_0, t, ()), y_2, x31, d, ())) ∧ (mu108 ((mx0_0, t, ()), y_2, x31, d, ()) < N) ∧ ((((((y_3.2) : Int) != 0) = true → (Q .ret (⟨[(8, .c (.int .i64 (y_3.2)))], [((.x 0), [.int .i64 (t - y_3.1), .int .i64 t])], []⟩ : LSt U))) ∧ ((((y_3.2) : Int) != 0) = false → (InR ((x31 : Int) + 1)) ∧ (N0 (head108_0 u t r i d ((x31 : Int) + 1) (t - y_3.1)))))))) ∧ ((decide ((x31 : Int) < (kidsR y_2))) = false → (Q .ret (⟨[(8, .c (.int .i64 0))], [((.x 0), [.int .i64 mx0_0, .int .i64 t])], []⟩ : LSt U))))) :
    A108 N [1, 1, 1, 1, 0, 1, 0, 0] (head108_0 u t r i d x31 mx0_0) (AExit.then N0 (AExit.inBlock 0 (S108 N [1, 1, 1, 1, 1] Q))) :=
  Eq.mpr (by kernel_rfl) (h _ (reRef_eq _) _ (reRef_eq _) _ rfl)
def Body108 (N : Nat) (u : Int) (t : Int) (r : Ref) (i : Int) (d : Int)  : Prop := awp cfg (know (know108 N)) (drawOk cfg (know (know108 N))) Try.f108.ntmps lv108 (cd Try.f108 []) (entry (args108.can ((u, t, ()), r, i, d, ())) (args108.canX ((u, t, ()), r, i, d, ()))) (EndsQ cfg Try.f108.ntmps Try.f108.results.toList (res108 ((u, t, ()), r, i, d, ())) (resX108 ((u, t, ()), r, i, d, ())))
abbrev HB108 : Prop := ∀ (N : Nat) (u : Int) (t : Int) (r : Ref) (i : Int) (d : Int) (_ : Unit), pre108 ((u, t, ()), r, i, d, ()) → mu108 ((u, t, ()), r, i, d, ()) < N + 1 → Body108 N u t r i d

noncomputable def know40 : List (FuncId × Fs U) := [(45, spec45), (21, spec21), (77, spec77)]
def lv40 : Lives U := fun i => match i with
  | 0 => ([(0, []), (3, [])], [((.loc 3), [])])
  | 1 => ([(0, []), (3, [])], [((.loc 3), [])])
  | 2 => ([(3, []), (6, []), (7, [])], [((.loc 3), []), ((.loc 6), [])])
  | 3 => ([(3, []), (6, []), (7, []), (18, [])], [((.loc 3), []), ((.loc 6), [])])
  | 4 => ([(4, []), (5, [])], [])
  | 5 => ([(3, []), (6, []), (8, [])], [((.loc 3), []), ((.loc 6), []), ((.loc 23), [])])
  | 6 => ([(8, []), (9, [])], [((.loc 23), [])])
  | 7 => ([(8, []), (9, []), (30, [])], [((.loc 23), [])])
  | 8 => ([(4, []), (5, [])], [])
  | 9 => ([(4, []), (5, [])], [])
  | _ => ([], [])
noncomputable abbrev A40 (p : List Nat) := awp cfg (know know40) (drawOk cfg (know know40)) Try.f40.ntmps lv40 (cd Try.f40 p)
theorem vc40 (a : Option Arena) (x : Limits) (Q : AExit → LSt U → Prop) (h : ∀ y_1, y_1 = (x) → ∀ y_2, y_2 = ((liftX a (refAt (segO a) 0 0).1)) → ∀ y_3, y_3 = (mean (segO (Ref.a y_2)) (Int.toNat (Limits.depth (limV y_1))) (unX y_2) ((Limits.weight (limV y_1)) - 0)) → ((pre45 (y_1, ())) ∧ ((pre21 (a, ())) ∧ (((((((refAt (segO a) 0 0).2) : Int) != 0) = true → (Q .ret (⟨[(4, .c (.int .i64 0)), (5, .c (.int .i64 ((refAt (segO a) 0 0).2)))], [], []⟩ : LSt U))) ∧ (((((refAt (segO a) 0 0).2) : Int) != 0) = false → ((pre77 ((0, (Limits.weight (limV y_1)), ()), y_2, (Limits.depth (limV y_1)), ())) ∧ ((((((y_3.2.2) : Int) != 0) = true → (Q .ret (⟨[(4, .c (.int .i64 0)), (5, .c (.int .i64 (y_3.2.2)))], [], []⟩ : LSt U))) ∧ ((((y_3.2.2) : Int) != 0) = false → (Q .ret (⟨[(4, .c (.int .i64 ((Limits.weight (limV y_1)) - y_3.2.1))), (5, .c (.int .i64 0))], [], []⟩ : LSt U)))))))))))) :
    A40 [] (⟨[(0, .c (.po (U := U) .arena a)), (1, .agg [.int .i64 (Limits.depth x), .int .i64 (Limits.weight x), .int .i64 (Limits.maxD x), .int .i64 (Limits.maxOut x)])], [], []⟩ : LSt U) Q :=
  Eq.mpr (by kernel_rfl) (h _ (reLimits_eq _) _ (reRef_eq _) _ rfl)
def Body40 (a : Option Arena) (x : Limits)  : Prop := awp cfg (know (know40)) (drawOk cfg (know (know40))) Try.f40.ntmps lv40 (cd Try.f40 []) (entry (args40.can (a, x, ())) []) (EndsQ cfg Try.f40.ntmps Try.f40.results.toList (res40 (a, x, ())) [])
theorem make40 (c45 : Contract Try.prog cfg 45 spec45) (c21 : Contract Try.prog cfg 21 spec21) (c77 : Contract Try.prog cfg 77 spec77) (hb : ∀ (a : Option Arena) (x : Limits) (_ : Unit), pre40 (a, x, ()) → Body40 a x) : Contract Try.prog cfg 40 spec40 :=
  contract_flat (l := [(45, spec45), (21, spec21), (77, spec77)]) cfgOk rfl (⟨c45, c21, c77, trivial⟩) lv40 Try.func40 rfl rfl 2 (fun _ => rfl) (by decide) (fun ⟨a, x, _⟩ => hb a x ())

theorem make77_ (c106 : Contract Try.prog cfg 106 spec106) (c105 : Contract Try.prog cfg 105 spec105) (c107 : Contract Try.prog cfg 107 spec107) (c22 : Contract Try.prog cfg 22 spec22) (c23 : Contract Try.prog cfg 23 spec23) (c24 : Contract Try.prog cfg 24 spec24) (b77 : HB77) (b108 : HB108) :
    Contract Try.prog cfg 77 spec77 ∧ Contract Try.prog cfg 108 spec108 := by
  have h77 : ∃ fn, Try.prog.funcs[(77 : FuncId)]? = some fn ∧ fn.body.isSome = true ∧ (fn.name == "runtime.NumGoroutine") = false := ⟨Try.f77, Try.func77, rfl, rfl⟩
  have h108 : ∃ fn, Try.prog.funcs[(108 : FuncId)]? = some fn ∧ fn.body.isSome = true ∧ (fn.name == "runtime.NumGoroutine") = false := ⟨Try.f108, Try.func108, rfl, rfl⟩
  have key : ∀ N, Contract Try.prog cfg 77 (fsX args77 (fun a => [pre77 a, mu77 a < N]) res77 resX77) ∧ Contract Try.prog cfg 108 (fsX args108 (fun a => [pre108 a, mu108 a < N]) res108 resX108) := by
    intro N
    induction N with
    | zero => exact ⟨fsX_zero h77, fsX_zero h108⟩
    | succ N ih =>
      have kn := know_ok (l := know77 N) ⟨ih.1, ih.2, c106, c105, c107, c22, c23, c24, trivial⟩
      exact ⟨contract_fsX (Γ := know (know77 N)) cfgOk rfl kn lv77 Try.func77 rfl rfl (fun a => by show 3 ≤ _; decide) (fun ⟨⟨u, t, _⟩, r, d, _⟩ h => b77 N u t r d () h.1 h.2.1),
        contract_fsX (Γ := know (know77 N)) cfgOk rfl kn lv108 Try.func108 rfl rfl (fun a => by show 4 ≤ _; decide) (fun ⟨⟨u, t, _⟩, r, i, d, _⟩ h => b108 N u t r i d () h.1 h.2.1)⟩
  exact ⟨fsX_less h77 fun N => (key N).1, fsX_less h108 fun N => (key N).2⟩
end Go.AM.Ythokdjgpdonhgaa
