import Derived.Test.YthokdjgpdonhgaaQB6
import Derived.Test.YthokdjgpdonhgaaRows
import Derived.Test.YthokdjgpdonhgaaBmX
import Derived.ProofKit
set_option linter.unusedSimpArgs false
set_option linter.unusedVariables false
namespace Go.AM.Ythokdjgpdonhgaa
open Go.AM Go.Proofs

def args64 : ArgL (Ref × Int × Unit) := (.cons (aEl .ref) (.cons (aInt .i64) .nil))
def pre64 (a : Ref × Int × Unit) : Prop := okA (Ref.a a.1) ∧ 0 ≤ a.2.1 ∧ Ref.number a.1 = 0 ∧ hasN (segO (Ref.a a.1)) (Ref.segment a.1) (Ref.at_ a.1) (a.2.1 + 1) = true
noncomputable def res64 (a : Ref × Int × Unit) : V U := .tup [(true, [.po (U := U) .arena (Ref.a (liftX (Ref.a a.1) (compX (segO (Ref.a a.1)) (Ref.segment a.1) (Ref.at_ a.1) a.2.1).1)), .int .i64 (Ref.kind (liftX (Ref.a a.1) (compX (segO (Ref.a a.1)) (Ref.segment a.1) (Ref.at_ a.1) a.2.1).1)), .int .i64 (Ref.segment (liftX (Ref.a a.1) (compX (segO (Ref.a a.1)) (Ref.segment a.1) (Ref.at_ a.1) a.2.1).1)), .int .i64 (Ref.at_ (liftX (Ref.a a.1) (compX (segO (Ref.a a.1)) (Ref.segment a.1) (Ref.at_ a.1) a.2.1).1)), .int .i64 (Ref.data (liftX (Ref.a a.1) (compX (segO (Ref.a a.1)) (Ref.segment a.1) (Ref.at_ a.1) a.2.1).1)), .int .i64 (Ref.kids (liftX (Ref.a a.1) (compX (segO (Ref.a a.1)) (Ref.segment a.1) (Ref.at_ a.1) a.2.1).1)), .int .i64 (Ref.count (liftX (Ref.a a.1) (compX (segO (Ref.a a.1)) (Ref.segment a.1) (Ref.at_ a.1) a.2.1).1)), .int .u64 (Ref.number (liftX (Ref.a a.1) (compX (segO (Ref.a a.1)) (Ref.segment a.1) (Ref.at_ a.1) a.2.1).1))]), (false, [.int .i64 ((compX (segO (Ref.a a.1)) (Ref.segment a.1) (Ref.at_ a.1) a.2.1).2)])]
noncomputable def spec64 : Fs U := fs args64 (fun a => [pre64 a]) res64

def args26 : ArgL (Option Arena × Int × Int × Unit) := (.cons (aPo .arena) (.cons (aInt .i64) (.cons (aInt .i64) .nil)))
def pre26 (a : Option Arena × Int × Int × Unit) : Prop := okA a.1
noncomputable def res26 (a : Option Arena × Int × Int × Unit) : V U := .tup [(true, [.po (U := U) .arena (Ref.a (liftX a.1 (refAt (segO a.1) a.2.1 a.2.2.1).1)), .int .i64 (Ref.kind (liftX a.1 (refAt (segO a.1) a.2.1 a.2.2.1).1)), .int .i64 (Ref.segment (liftX a.1 (refAt (segO a.1) a.2.1 a.2.2.1).1)), .int .i64 (Ref.at_ (liftX a.1 (refAt (segO a.1) a.2.1 a.2.2.1).1)), .int .i64 (Ref.data (liftX a.1 (refAt (segO a.1) a.2.1 a.2.2.1).1)), .int .i64 (Ref.kids (liftX a.1 (refAt (segO a.1) a.2.1 a.2.2.1).1)), .int .i64 (Ref.count (liftX a.1 (refAt (segO a.1) a.2.1 a.2.2.1).1)), .int .u64 (Ref.number (liftX a.1 (refAt (segO a.1) a.2.1 a.2.2.1).1))]), (false, [.int .i64 ((refAt (segO a.1) a.2.1 a.2.2.1).2)])]
noncomputable def spec26 : Fs U := fs args26 (fun a => [pre26 a]) res26

def args21 : ArgL (Option Arena × Unit) := (.cons (aPo .arena) .nil)
def pre21 (a : Option Arena × Unit) : Prop := okA a.1
noncomputable def res21 (a : Option Arena × Unit) : V U := .tup [(true, [.po (U := U) .arena (Ref.a (liftX a.1 (refAt (segO a.1) 0 0).1)), .int .i64 (Ref.kind (liftX a.1 (refAt (segO a.1) 0 0).1)), .int .i64 (Ref.segment (liftX a.1 (refAt (segO a.1) 0 0).1)), .int .i64 (Ref.at_ (liftX a.1 (refAt (segO a.1) 0 0).1)), .int .i64 (Ref.data (liftX a.1 (refAt (segO a.1) 0 0).1)), .int .i64 (Ref.kids (liftX a.1 (refAt (segO a.1) 0 0).1)), .int .i64 (Ref.count (liftX a.1 (refAt (segO a.1) 0 0).1)), .int .u64 (Ref.number (liftX a.1 (refAt (segO a.1) 0 0).1))]), (false, [.int .i64 ((refAt (segO a.1) 0 0).2)])]
noncomputable def spec21 : Fs U := fs args21 (fun a => [pre21 a]) res21

def args22 : ArgL (Ref × Unit) := (.cons (aEl .ref) .nil)
def pre22 (a : Ref × Unit) : Prop := True
noncomputable def res22 (a : Ref × Unit) : V U := .c (.int .i64 (Ref.kind a.1))
noncomputable def spec22 : Fs U := fs args22 (fun a => [pre22 a]) res22

def args59 : ArgL (Ref × Unit) := (.cons (aEl .ref) .nil)
def pre59 (a : Ref × Unit) : Prop := True
noncomputable def res59 (a : Ref × Unit) : V U := .c (.int .i64 (lenR a.1))
noncomputable def spec59 : Fs U := fs args59 (fun a => [pre59 a]) res59

def args23 : ArgL (Ref × Unit) := (.cons (aEl .ref) .nil)
def pre23 (a : Ref × Unit) : Prop := True
noncomputable def res23 (a : Ref × Unit) : V U := .c (.int .i64 (kidsR a.1))
noncomputable def spec23 : Fs U := fs args23 (fun a => [pre23 a]) res23

def args25 : ArgL (Ref × Int × Unit) := (.cons (aEl .ref) (.cons (aInt .i64) .nil))
def pre25 (a : Ref × Int × Unit) : Prop := okR a.1
noncomputable def res25 (a : Ref × Int × Unit) : V U := .c (.int .u64 (wordR a.1 a.2.1))
noncomputable def spec25 : Fs U := fs args25 (fun a => [pre25 a]) res25

def args68 : ArgL (Ref × Unit) := (.cons (aEl .ref) .nil)
def pre68 (a : Ref × Unit) : Prop := True
noncomputable def res68 (a : Ref × Unit) : V U := .tup [(false, [.int .i64 (if Ref.kind a.1 = 9 then Ref.data a.1 else 0)]), (false, [.int .i64 (if Ref.kind a.1 = 9 then Ref.kids a.1 else 0)])]
noncomputable def spec68 : Fs U := fs args68 (fun a => [pre68 a]) res68

def args61 : ArgL (Ref × Int × Unit) := (.cons (aEl .ref) (.cons (aInt .i64) .nil))
def pre61 (a : Ref × Int × Unit) : Prop := okR a.1 ∧ 2 ≤ Ref.kind a.1 ∧ Ref.kind a.1 ≤ 7 ∧ 0 ≤ a.2.1 ∧ a.2.1 < Ref.count a.1
noncomputable def res61 (a : Ref × Int × Unit) : V U := .c (.int .u64 (getW (List.drop (Int.toNat (Ref.at_ a.1)) (segAt (segO (Ref.a a.1)) (Ref.segment a.1))) (Ref.kind a.1 - 2) a.2.1))
noncomputable def spec61 : Fs U := fs args61 (fun a => [pre61 a]) res61

def args24 : ArgL (Ref × Int × Unit) := (.cons (aEl .ref) (.cons (aInt .i64) .nil))
def pre24 (a : Ref × Int × Unit) : Prop := okR a.1
noncomputable def res24 (a : Ref × Int × Unit) : V U := .tup [(true, [.po (U := U) .arena (Ref.a (liftX (Ref.a a.1) (kidX (segO (Ref.a a.1)) (unX a.1) a.2.1).1)), .int .i64 (Ref.kind (liftX (Ref.a a.1) (kidX (segO (Ref.a a.1)) (unX a.1) a.2.1).1)), .int .i64 (Ref.segment (liftX (Ref.a a.1) (kidX (segO (Ref.a a.1)) (unX a.1) a.2.1).1)), .int .i64 (Ref.at_ (liftX (Ref.a a.1) (kidX (segO (Ref.a a.1)) (unX a.1) a.2.1).1)), .int .i64 (Ref.data (liftX (Ref.a a.1) (kidX (segO (Ref.a a.1)) (unX a.1) a.2.1).1)), .int .i64 (Ref.kids (liftX (Ref.a a.1) (kidX (segO (Ref.a a.1)) (unX a.1) a.2.1).1)), .int .i64 (Ref.count (liftX (Ref.a a.1) (kidX (segO (Ref.a a.1)) (unX a.1) a.2.1).1)), .int .u64 (Ref.number (liftX (Ref.a a.1) (kidX (segO (Ref.a a.1)) (unX a.1) a.2.1).1))]), (false, [.int .i64 ((kidX (segO (Ref.a a.1)) (unX a.1) a.2.1).2)])]
noncomputable def spec24 : Fs U := fs args24 (fun a => [pre24 a]) res24

noncomputable def know64 : List (FuncId × Fs U) := [(62, spec62), (86, spec86)]
def lv64 : Lives U := fun i => match i with
  | 0 => ([(1, []), (2, []), (4, [])], [((.loc 2), []), ((.loc 4), [])])
  | 1 => ([(1, []), (2, []), (4, []), (6, [])], [((.loc 2), []), ((.loc 4), [])])
  | 2 => ([(1, []), (2, []), (4, []), (6, []), (8, [])], [((.loc 2), []), ((.loc 4), []), ((.loc 8), [])])
  | 3 => ([(2, []), (4, []), (8, []), (44, [])], [((.loc 2), []), ((.loc 4), []), ((.loc 8), [])])
  | 4 => ([(4, []), (5, [])], [((.loc 4), [])])
  | 5 => ([(2, []), (4, []), (8, [])], [((.loc 2), []), ((.loc 4), []), ((.loc 8), [])])
  | 6 => ([(2, []), (4, [])], [((.loc 2), []), ((.loc 4), [])])
  | 7 => ([(4, []), (5, [])], [((.loc 4), [])])
  | _ => ([], [])
noncomputable abbrev A64 (p : List Nat) := awp cfg (know know64) (drawOk cfg (know know64)) Try.f64.ntmps lv64 (cd Try.f64 p)
theorem vc64 (r : Ref) (n : Int) (Q : AExit → LSt U → Prop) (h : ∀ y_1, y_1 = (decP (if hasN (segO (Ref.a r)) (Ref.segment r) (Ref.at_ r) 1 then getS (segO (Ref.a r)) (Ref.segment r) (Ref.at_ r) else 0)) → ((pre62 ((Ref.a r), (Ref.segment r), (Ref.at_ r), ())) ∧ ((pre86 ((if hasN (segO (Ref.a r)) (Ref.segment r) (Ref.at_ r) 1 then getS (segO (Ref.a r)) (Ref.segment r) (Ref.at_ r) else 0), ())) ∧ ((Tr ((((if hasN (segO (Ref.a r)) (Ref.segment r) (Ref.at_ r) 1 then getS (segO (Ref.a r)) (Ref.segment r) (Ref.at_ r) else 0) : Int) != 0) = true)) ∧ (Tr ((((if hasN (segO (Ref.a r)) (Ref.segment r) (Ref.at_ r) 1 then getS (segO (Ref.a r)) (Ref.segment r) (Ref.at_ r) else 0) : Int) != 0) = true)) ∧ ((Tr ((((if hasN (segO (Ref.a r)) (Ref.segment r) (Ref.at_ r) 1 then getS (segO (Ref.a r)) (Ref.segment r) (Ref.at_ r) else 0) : Int) != 0) = true))) ∧ (Tr ((!(bif (((if hasN (segO (Ref.a r)) (Ref.segment r) (Ref.at_ r) 1 then getS (segO (Ref.a r)) (Ref.segment r) (Ref.at_ r) else 0) : Int) != 0) then (((Ptr.kind y_1) : Int) != 1) else false)) = true)) ∧ (Tr ((!(bif (((if hasN (segO (Ref.a r)) (Ref.segment r) (Ref.at_ r) 1 then getS (segO (Ref.a r)) (Ref.segment r) (Ref.at_ r) else 0) : Int) != 0) then (((Ptr.kind y_1) : Int) != 1) else false)) = true)) ∧ (((bif (((if hasN (segO (Ref.a r)) (Ref.segment r) (Ref.at_ r) 1 then getS (segO (Ref.a r)) (Ref.segment r) (Ref.at_ r) else 0) : Int) != 0) then (((Ptr.kind y_1) : Int) != 1) else false) = false → (!(bif (((if hasN (segO (Ref.a r)) (Ref.segment r) (Ref.at_ r) 1 then getS (segO (Ref.a r)) (Ref.segment r) (Ref.at_ r) else 0) : Int) != 0) then (((Ptr.kind y_1) : Int) != 1) else false)) = true)) ∧ (Tr ((!(bif (bif (((if hasN (segO (Ref.a r)) (Ref.segment r) (Ref.at_ r) 1 then getS (segO (Ref.a r)) (Ref.segment r) (Ref.at_ r) else 0) : Int) != 0) then (((Ptr.kind y_1) : Int) != 1) else false) then true else (decide (((Ptr.off y_1) : Int) < 0)))) = true)) ∧ (Tr ((!(bif (bif (((if hasN (segO (Ref.a r)) (Ref.segment r) (Ref.at_ r) 1 then getS (segO (Ref.a r)) (Ref.segment r) (Ref.at_ r) else 0) : Int) != 0) then (((Ptr.kind y_1) : Int) != 1) else false) then true else (decide (((Ptr.off y_1) : Int) < 0)))) = true)) ∧ (Tr ((!(bif (bif (((if hasN (segO (Ref.a r)) (Ref.segment r) (Ref.at_ r) 1 then getS (segO (Ref.a r)) (Ref.segment r) (Ref.at_ r) else 0) : Int) != 0) then (((Ptr.kind y_1) : Int) != 1) else false) then true else (decide (((Ptr.off y_1) : Int) < 0)))) = true)) ∧ (Tr ((!(bif (bif (((if hasN (segO (Ref.a r)) (Ref.segment r) (Ref.at_ r) 1 then getS (segO (Ref.a r)) (Ref.segment r) (Ref.at_ r) else 0) : Int) != 0) then (((Ptr.kind y_1) : Int) != 1) else false) then true else (decide (((Ptr.off y_1) : Int) < 0)))) = true)) ∧ (Tr ((!(bif (bif (((if hasN (segO (Ref.a r)) (Ref.segment r) (Ref.at_ r) 1 then getS (segO (Ref.a r)) (Ref.segment r) (Ref.at_ r) else 0) : Int) != 0) then (((Ptr.kind y_1) : Int) != 1) else false) then true else (decide (((Ptr.off y_1) : Int) < 0)))) = true)) ∧ ((!(bif (bif (((if hasN (segO (Ref.a r)) (Ref.segment r) (Ref.at_ r) 1 then getS (segO (Ref.a r)) (Ref.segment r) (Ref.at_ r) else 0) : Int) != 0) then (((Ptr.kind y_1) : Int) != 1) else false) then true else (decide (((Ptr.off y_1) : Int) < 0)))) = true → InR (((Ptr.data y_1) : Int) + (Ptr.ptrs y_1))) ∧ (Tr ((!(bif (bif (((if hasN (segO (Ref.a r)) (Ref.segment r) (Ref.at_ r) 1 then getS (segO (Ref.a r)) (Ref.segment r) (Ref.at_ r) else 0) : Int) != 0) then (((Ptr.kind y_1) : Int) != 1) else false) then true else (decide (((Ptr.off y_1) : Int) < 0)))) = true)) ∧ (Tr ((!(bif (bif (((if hasN (segO (Ref.a r)) (Ref.segment r) (Ref.at_ r) 1 then getS (segO (Ref.a r)) (Ref.segment r) (Ref.at_ r) else 0) : Int) != 0) then (((Ptr.kind y_1) : Int) != 1) else false) then true else (decide (((Ptr.off y_1) : Int) < 0)))) = true)) ∧ ((!(bif (bif (((if hasN (segO (Ref.a r)) (Ref.segment r) (Ref.at_ r) 1 then getS (segO (Ref.a r)) (Ref.segment r) (Ref.at_ r) else 0) : Int) != 0) then (((Ptr.kind y_1) : Int) != 1) else false) then true else (decide (((Ptr.off y_1) : Int) < 0)))) = true → InR (((Ptr.off y_1) : Int) * (((Ptr.data y_1) : Int) + (Ptr.ptrs y_1)))) ∧ (Tr ((!(bif (bif (((if hasN (segO (Ref.a r)) (Ref.segment r) (Ref.at_ r) 1 then getS (segO (Ref.a r)) (Ref.segment r) (Ref.at_ r) else 0) : Int) != 0) then (((Ptr.kind y_1) : Int) != 1) else false) then true else (decide (((Ptr.off y_1) : Int) < 0)))) = true)) ∧ (Tr ((!(bif (bif (((if hasN (segO (Ref.a r)) (Ref.segment r) (Ref.at_ r) 1 then getS (segO (Ref.a r)) (Ref.segment r) (Ref.at_ r) else 0) : Int) != 0) then (((Ptr.kind y_1) : Int) != 1) else false) then true else (decide (((Ptr.off y_1) : Int) < 0)))) = true)) ∧ (((bif (bif (((if hasN (segO (Ref.a r)) (Ref.segment r) (Ref.at_ r) 1 then getS (segO (Ref.a r)) (Ref.segment r) (Ref.at_ r) else 0) : Int) != 0) then (((Ptr.kind y_1) : Int) != 1) else false) then true else (decide (((Ptr.off y_1) : Int) < 0))) = false → (!(bif (bif (((if hasN (segO (Ref.a r)) (Ref.segment r) (Ref.at_ r) 1 then getS (segO (Ref.a r)) (Ref.segment r) (Ref.at_ r) else 0) : Int) != 0) then (((Ptr.kind y_1) : Int) != 1) else false) then true else (decide (((Ptr.off y_1) : Int) < 0)))) = true)) ∧ (((bif (bif (bif (((if hasN (segO (Ref.a r)) (Ref.segment r) (Ref.at_ r) 1 then getS (segO (Ref.a r)) (Ref.segment r) (Ref.at_ r) else 0) : Int) != 0) then (((Ptr.kind y_1) : Int) != 1) else false) then true else (decide (((Ptr.off y_1) : Int) < 0))) then true else (decide ((n : Int) < (((Ptr.off y_1) : Int) * (((Ptr.data y_1) : Int) + (Ptr.ptrs y_1)))))) = true → (Q .ret (⟨[(4, .ptr (.loc 4) 0), (5, .c (.int .i64 8))], [((.loc 4), [.nilp, .int .i64 0, .int .i64 0, .int .i64 0, .int .i64 0, .int .i64 0, .int .i64 0, .int .u64 0])], []⟩ : LSt U))) ∧ ((bif (bif (bif (((if hasN (segO (Ref.a r)) (Ref.segment r) (Ref.at_ r) 1 then getS (segO (Ref.a r)) (Ref.segment r) (Ref.at_ r) else 0) : Int) != 0) then (((Ptr.kind y_1) : Int) != 1) else false) then true else (decide (((Ptr.off y_1) : Int) < 0))) then true else (decide ((n : Int) < (((Ptr.off y_1) : Int) * (((Ptr.data y_1) : Int) + (Ptr.ptrs y_1)))))) = false → (InR (((Ref.at_ r) : Int) + 1)) ∧ (((Q .ret (⟨[(4, .ptr (.loc 4) 0), (5, .c (.int .i64 0))], [((.loc 4), [.po (U := U) .arena (Ref.a r), .int .i64 9, .int .i64 (Ref.segment r), .int .i64 (((Ref.at_ r) : Int) + 1), .int .i64 (Ptr.data y_1), .int .i64 (Ptr.ptrs y_1), .int .i64 (Ptr.off y_1), .int .u64 (Ref.number r)])], []⟩ : LSt U)))))))))) :
    A64 [] (⟨[(0, .agg [.po (U := U) .arena (Ref.a r), .int .i64 (Ref.kind r), .int .i64 (Ref.segment r), .int .i64 (Ref.at_ r), .int .i64 (Ref.data r), .int .i64 (Ref.kids r), .int .i64 (Ref.count r), .int .u64 (Ref.number r)]), (1, .c (.int .i64 n))], [], []⟩ : LSt U) Q :=
  Eq.mpr (by kernel_rfl) (h _ rfl)
def Body64 (r : Ref) (n : Int)  : Prop := awp cfg (know (know64)) (drawOk cfg (know (know64))) Try.f64.ntmps lv64 (cd Try.f64 []) (entry (args64.can (r, n, ())) []) (EndsQ cfg Try.f64.ntmps Try.f64.results.toList (res64 (r, n, ())) [])
theorem make64 (c62 : Contract Try.prog cfg 62 spec62) (c86 : Contract Try.prog cfg 86 spec86) (hb : ∀ (r : Ref) (n : Int) (_ : Unit), pre64 (r, n, ()) → Body64 r n) : Contract Try.prog cfg 64 spec64 :=
  contract_flat (l := [(62, spec62), (86, spec86)]) cfgOk rfl (⟨c62, c86, trivial⟩) lv64 Try.func64 rfl rfl 2 (fun _ => rfl) (by decide) (fun ⟨r, n, _⟩ => hb r n ())

noncomputable def know26 : List (FuncId × Fs U) := [(63, spec63), (64, spec64)]
def lv26 : Lives U := fun i => match i with
  | 0 => ([(0, []), (1, []), (2, []), (6, [])], [((.loc 6), [])])
  | 1 => ([(0, []), (6, []), (8, []), (9, [])], [((.loc 6), []), ((.loc 8), [])])
  | 2 => ([(0, []), (6, []), (8, []), (9, []), (25, [])], [((.loc 6), []), ((.loc 8), [])])
  | 3 => ([(6, []), (7, [])], [((.loc 6), [])])
  | 4 => ([(6, []), (8, []), (10, [])], [((.loc 6), []), ((.loc 8), []), ((.loc 10), [])])
  | 5 => ([(6, []), (7, [])], [((.loc 6), [])])
  | 6 => ([(6, []), (8, []), (10, []), (41, [])], [((.loc 6), []), ((.loc 8), []), ((.loc 10), [])])
  | 7 => ([(6, []), (10, [])], [((.loc 6), []), ((.loc 10), [])])
  | 8 => ([(6, []), (8, []), (10, []), (55, [])], [((.loc 6), []), ((.loc 8), []), ((.loc 10), [])])
  | 9 => ([(6, []), (10, [])], [((.loc 6), []), ((.loc 10), [])])
  | 10 => ([(6, []), (8, []), (10, []), (69, [])], [((.loc 6), []), ((.loc 8), []), ((.loc 10), [])])
  | 11 => ([(6, []), (10, [])], [((.loc 6), []), ((.loc 10), [])])
  | 12 => ([(6, []), (7, [])], [((.loc 6), [])])
  | _ => ([], [])
noncomputable def head26_0 (a : Option Arena) (s : Int) (at_ : Int) (ml10_1 : Int) (ml10_4 : Int) (ml10_5 : Int) (ml10_6 : Int) : LSt U := (⟨[(6, .ptr (.loc 6) 0), (10, .ptr (.loc 10) 0)], [((.loc 6), [.nilp, .int .i64 0, .int .i64 0, .int .i64 0, .int .i64 0, .int .i64 0, .int .i64 0, .int .u64 0]), ((.loc 10), [.po (U := U) .arena a, .int .i64 ml10_1, .int .i64 (Loc.segment ((follow (segO a) s at_).1)), .int .i64 (Loc.at_ ((follow (segO a) s at_).1)), .int .i64 ml10_4, .int .i64 ml10_5, .int .i64 ml10_6, .int .u64 0])], []⟩ : LSt U)
noncomputable abbrev A26 (p : List Nat) := awp cfg (know know26) (drawOk cfg (know know26)) Try.f26.ntmps lv26 (cd Try.f26 p)
theorem vc26 (a : Option Arena) (s : Int) (at_ : Int) (Q : AExit → LSt U → Prop) (h : ∀ y_1, y_1 = (Ref.mk a 0 (Loc.segment ((follow (segO a) s at_).1)) (Loc.at_ ((follow (segO a) s at_).1)) 0 0 0 0) → ∀ y_2, y_2 = (compX (segO (Ref.a y_1)) (Ref.segment y_1) (Ref.at_ y_1) (Ptr.count (Loc.p ((follow (segO a) s at_).1)))) → ((pre63 (a, s, at_, ())) ∧ ((Tr ((!((((follow (segO a) s at_).2) : Int) != 0)) = true)) ∧ (Tr ((!((((follow (segO a) s at_).2) : Int) != 0)) = true)) ∧ (Tr ((!((((follow (segO a) s at_).2) : Int) != 0)) = true)) ∧ ((((((follow (segO a) s at_).2) : Int) != 0) = false → (!((((follow (segO a) s at_).2) : Int) != 0)) = true)) ∧ (((bif ((((follow (segO a) s at_).2) : Int) != 0) then true else (((Ptr.kind (Loc.p ((follow (segO a) s at_).1))) : Int) == 0)) = true → (Q .ret (⟨[(6, .ptr (.loc 6) 0), (7, .c (.int .i64 ((follow (segO a) s at_).2)))], [((.loc 6), [.nilp, .int .i64 0, .int .i64 0, .int .i64 0, .int .i64 0, .int .i64 0, .int .i64 0, .int .u64 0])], []⟩ : LSt U))) ∧ ((bif ((((follow (segO a) s at_).2) : Int) != 0) then true else (((Ptr.kind (Loc.p ((follow (segO a) s at_).1))) : Int) == 0)) = false → ((((((Ptr.kind (Loc.p ((follow (segO a) s at_).1))) : Int) == 1) = true → (A26 [1, 1, 1, 1, 1] (head26_0 a s at_ 1 (Ptr.data (Loc.p ((follow (segO a) s at_).1))) (Ptr.ptrs (Loc.p ((follow (segO a) s at_).1))) 0) Q)) ∧ ((((Ptr.kind (Loc.p ((follow (segO a) s at_).1))) : Int) == 1) = false → (((decide (((Ptr.code (Loc.p ((follow (segO a) s at_).1))) : Int) < 6)) = true → (InR ((2 : Int) + (Ptr.code (Loc.p ((follow (segO a) s at_).1))))) ∧ (A26 [1, 1, 1, 1, 1] (head26_0 a s at_ ((2 : Int) + (Ptr.code (Loc.p ((follow (segO a) s at_).1)))) 0 0 (Ptr.count (Loc.p ((follow (segO a) s at_).1)))) Q)) ∧ ((decide (((Ptr.code (Loc.p ((follow (segO a) s at_).1))) : Int) < 6)) = false → (((((Ptr.code (Loc.p ((follow (segO a) s at_).1))) : Int) == 6) = true → (A26 [1, 1, 1, 1, 1] (head26_0 a s at_ 8 0 0 (Ptr.count (Loc.p ((follow (segO a) s at_).1)))) Q)) ∧ ((((Ptr.code (Loc.p ((follow (segO a) s at_).1))) : Int) == 6) = false → (pre64 (y_1, (Ptr.count (Loc.p ((follow (segO a) s at_).1))), ())) ∧ (Q .ret (⟨[(6, .ptr (.loc 6) 0), (7, .c (.int .i64 (y_2.2)))], [((.loc 6), [.po (U := U) .arena (Ref.a (liftX (Ref.a y_1) y_2.1)), .int .i64 (Ref.kind (liftX (Ref.a y_1) y_2.1)), .int .i64 (Ref.segment (liftX (Ref.a y_1) y_2.1)), .int .i64 (Ref.at_ (liftX (Ref.a y_1) y_2.1)), .int .i64 (Ref.data (liftX (Ref.a y_1) y_2.1)), .int .i64 (Ref.kids (liftX (Ref.a y_1) y_2.1)), .int .i64 (Ref.count (liftX (Ref.a y_1) y_2.1)), .int .u64 (Ref.number (liftX (Ref.a y_1) y_2.1))])], []⟩ : LSt U)))))))))))))) :
    A26 [] (⟨[(0, .c (.po (U := U) .arena a)), (1, .c (.int .i64 s)), (2, .c (.int .i64 at_))], [], []⟩ : LSt U) Q :=
  Eq.mpr (by kernel_rfl) (h _ rfl _ rfl)
theorem vc26_c0 (a : Option Arena) (s : Int) (at_ : Int) (ml10_1 : Int) (ml10_4 : Int) (ml10_5 : Int) (ml10_6 : Int) (Q : AExit → LSt U → Prop) (h : (Q .ret (⟨[(6, .ptr (.loc 6) 0), (7, .c (.int .i64 0))], [((.loc 6), [.po (U := U) .arena a, .int .i64 ml10_1, .int .i64 (Loc.segment ((follow (segO a) s at_).1)), .int .i64 (Loc.at_ ((follow (segO a) s at_).1)), .int .i64 ml10_4, .int .i64 ml10_5, .int .i64 ml10_6, .int .u64 0])], []⟩ : LSt U))) :
    A26 [1, 1, 1, 1, 1] (head26_0 a s at_ ml10_1 ml10_4 ml10_5 ml10_6) Q :=
  Eq.mpr (by kernel_rfl) h
def Body26 (a : Option Arena) (s : Int) (at_ : Int)  : Prop := awp cfg (know (know26)) (drawOk cfg (know (know26))) Try.f26.ntmps lv26 (cd Try.f26 []) (entry (args26.can (a, s, at_, ())) []) (EndsQ cfg Try.f26.ntmps Try.f26.results.toList (res26 (a, s, at_, ())) [])
theorem make26 (c63 : Contract Try.prog cfg 63 spec63) (c64 : Contract Try.prog cfg 64 spec64) (hb : ∀ (a : Option Arena) (s : Int) (at_ : Int) (_ : Unit), pre26 (a, s, at_, ()) → Body26 a s at_) : Contract Try.prog cfg 26 spec26 :=
  contract_flat (l := [(63, spec63), (64, spec64)]) cfgOk rfl (⟨c63, c64, trivial⟩) lv26 Try.func26 rfl rfl 3 (fun _ => rfl) (by decide) (fun ⟨a, s, at_, _⟩ => hb a s at_ ())

noncomputable def know21 : List (FuncId × Fs U) := [(26, spec26)]
def lv21 : Lives U := fun i => match i with
  | 0 => ([(0, []), (2, [])], [((.loc 2), [])])
  | 1 => ([(2, []), (3, [])], [((.loc 2), [])])
  | _ => ([], [])
noncomputable abbrev A21 (p : List Nat) := awp cfg (know know21) (drawOk cfg (know know21)) Try.f21.ntmps lv21 (cd Try.f21 p)
theorem vc21 (a : Option Arena) (Q : AExit → LSt U → Prop) (h : ((pre26 (a, 0, 0, ())) ∧ (Q .ret (⟨[(2, .ptr (.loc 2) 0), (3, .c (.int .i64 ((refAt (segO a) 0 0).2)))], [((.loc 2), [.po (U := U) .arena (Ref.a (liftX a (refAt (segO a) 0 0).1)), .int .i64 (Ref.kind (liftX a (refAt (segO a) 0 0).1)), .int .i64 (Ref.segment (liftX a (refAt (segO a) 0 0).1)), .int .i64 (Ref.at_ (liftX a (refAt (segO a) 0 0).1)), .int .i64 (Ref.data (liftX a (refAt (segO a) 0 0).1)), .int .i64 (Ref.kids (liftX a (refAt (segO a) 0 0).1)), .int .i64 (Ref.count (liftX a (refAt (segO a) 0 0).1)), .int .u64 (Ref.number (liftX a (refAt (segO a) 0 0).1))])], []⟩ : LSt U)))) :
    A21 [] (⟨[(0, .c (.po (U := U) .arena a))], [], []⟩ : LSt U) Q :=
  Eq.mpr (by kernel_rfl) h
def Body21 (a : Option Arena)  : Prop := awp cfg (know (know21)) (drawOk cfg (know (know21))) Try.f21.ntmps lv21 (cd Try.f21 []) (entry (args21.can (a, ())) []) (EndsQ cfg Try.f21.ntmps Try.f21.results.toList (res21 (a, ())) [])
theorem make21 (c26 : Contract Try.prog cfg 26 spec26) (hb : ∀ (a : Option Arena) (_ : Unit), pre21 (a, ()) → Body21 a) : Contract Try.prog cfg 21 spec21 :=
  contract_flat (l := [(26, spec26)]) cfgOk rfl (⟨c26, trivial⟩) lv21 Try.func21 rfl rfl 1 (fun _ => rfl) (by decide) (fun ⟨a, _⟩ => hb a ())

noncomputable def know22 : List (FuncId × Fs U) := []
def lv22 : Lives U := fun i => match i with
  | 0 => ([(1, [])], [((.loc 1), [])])
  | 1 => ([(2, [])], [])
  | _ => ([], [])
noncomputable abbrev A22 (p : List Nat) := awp cfg (know know22) (drawOk cfg (know know22)) Try.f22.ntmps lv22 (cd Try.f22 p)
theorem vc22 (r : Ref) (Q : AExit → LSt U → Prop) (h : ((Q .ret (⟨[(2, .c (.int .i64 (Ref.kind r)))], [], []⟩ : LSt U)))) :
    A22 [] (⟨[(0, .agg [.po (U := U) .arena (Ref.a r), .int .i64 (Ref.kind r), .int .i64 (Ref.segment r), .int .i64 (Ref.at_ r), .int .i64 (Ref.data r), .int .i64 (Ref.kids r), .int .i64 (Ref.count r), .int .u64 (Ref.number r)])], [], []⟩ : LSt U) Q :=
  Eq.mpr (by kernel_rfl) h
def Body22 (r : Ref)  : Prop := awp cfg (know (know22)) (drawOk cfg (know (know22))) Try.f22.ntmps lv22 (cd Try.f22 []) (entry (args22.can (r, ())) []) (EndsQ cfg Try.f22.ntmps Try.f22.results.toList (res22 (r, ())) [])
theorem make22 (hb : ∀ (r : Ref) (_ : Unit), pre22 (r, ()) → Body22 r) : Contract Try.prog cfg 22 spec22 :=
  contract_flat (l := []) cfgOk rfl (trivial) lv22 Try.func22 rfl rfl 1 (fun _ => rfl) (by decide) (fun ⟨r, _⟩ => hb r ())

noncomputable def know59 : List (FuncId × Fs U) := []
def lv59 : Lives U := fun i => match i with
  | 0 => ([(1, [])], [((.loc 1), [])])
  | 1 => ([(1, []), (4, [])], [((.loc 1), [])])
  | 2 => ([(1, []), (4, []), (5, [])], [((.loc 1), [])])
  | 3 => ([(2, [])], [])
  | 4 => ([(9, [])], [])
  | 5 => ([(2, [])], [])
  | 6 => ([(2, [])], [])
  | _ => ([], [])
noncomputable abbrev A59 (p : List Nat) := awp cfg (know know59) (drawOk cfg (know know59)) Try.f59.ntmps lv59 (cd Try.f59 p)
theorem vc59 (r : Ref) (Q : AExit → LSt U → Prop) (h : (((((((Ref.kind r) : Int) == 1) = true → (Q .ret (⟨[(2, .c (.int .i64 (Ref.data r)))], [], []⟩ : LSt U))) ∧ ((((Ref.kind r) : Int) == 1) = false → (((((Ref.kind r) : Int) == 10) = true → (Q .ret (⟨[(2, .c (.int .i64 1))], [], []⟩ : LSt U))) ∧ ((((Ref.kind r) : Int) == 10) = false → (Q .ret (⟨[(2, .c (.int .i64 0))], [], []⟩ : LSt U))))))))) :
    A59 [] (⟨[(0, .agg [.po (U := U) .arena (Ref.a r), .int .i64 (Ref.kind r), .int .i64 (Ref.segment r), .int .i64 (Ref.at_ r), .int .i64 (Ref.data r), .int .i64 (Ref.kids r), .int .i64 (Ref.count r), .int .u64 (Ref.number r)])], [], []⟩ : LSt U) Q :=
  Eq.mpr (by kernel_rfl) h
def Body59 (r : Ref)  : Prop := awp cfg (know (know59)) (drawOk cfg (know (know59))) Try.f59.ntmps lv59 (cd Try.f59 []) (entry (args59.can (r, ())) []) (EndsQ cfg Try.f59.ntmps Try.f59.results.toList (res59 (r, ())) [])
theorem make59 (hb : ∀ (r : Ref) (_ : Unit), pre59 (r, ()) → Body59 r) : Contract Try.prog cfg 59 spec59 :=
  contract_flat (l := []) cfgOk rfl (trivial) lv59 Try.func59 rfl rfl 1 (fun _ => rfl) (by decide) (fun ⟨r, _⟩ => hb r ())

noncomputable def know23 : List (FuncId × Fs U) := []
def lv23 : Lives U := fun i => match i with
  | 0 => ([(1, [])], [((.loc 1), [])])
  | 1 => ([(1, []), (5, [])], [((.loc 1), [])])
  | 2 => ([(2, [])], [])
  | 3 => ([(2, [])], [])
  | _ => ([], [])
noncomputable abbrev A23 (p : List Nat) := awp cfg (know know23) (drawOk cfg (know know23)) Try.f23.ntmps lv23 (cd Try.f23 p)
theorem vc23 (r : Ref) (Q : AExit → LSt U → Prop) (h : ((((((Ref.kind r) : Int) == 1) = true → (Q .ret (⟨[(2, .c (.int .i64 (Ref.kids r)))], [], []⟩ : LSt U))) ∧ ((((Ref.kind r) : Int) == 1) = false → (Q .ret (⟨[(2, .c (.int .i64 (Ref.count r)))], [], []⟩ : LSt U)))))) :
    A23 [] (⟨[(0, .agg [.po (U := U) .arena (Ref.a r), .int .i64 (Ref.kind r), .int .i64 (Ref.segment r), .int .i64 (Ref.at_ r), .int .i64 (Ref.data r), .int .i64 (Ref.kids r), .int .i64 (Ref.count r), .int .u64 (Ref.number r)])], [], []⟩ : LSt U) Q :=
  Eq.mpr (by kernel_rfl) h
def Body23 (r : Ref)  : Prop := awp cfg (know (know23)) (drawOk cfg (know (know23))) Try.f23.ntmps lv23 (cd Try.f23 []) (entry (args23.can (r, ())) []) (EndsQ cfg Try.f23.ntmps Try.f23.results.toList (res23 (r, ())) [])
theorem make23 (hb : ∀ (r : Ref) (_ : Unit), pre23 (r, ()) → Body23 r) : Contract Try.prog cfg 23 spec23 :=
  contract_flat (l := []) cfgOk rfl (trivial) lv23 Try.func23 rfl rfl 1 (fun _ => rfl) (by decide) (fun ⟨r, _⟩ => hb r ())

noncomputable def know25 : List (FuncId × Fs U) := [(59, spec59), (62, spec62)]
def lv25 : Lives U := fun i => match i with
  | 0 => ([(1, []), (2, [])], [((.loc 2), [])])
  | 1 => ([(1, []), (2, []), (14, [])], [((.loc 2), [])])
  | 2 => ([(4, [])], [])
  | 3 => ([(1, []), (2, []), (17, [])], [((.loc 2), [])])
  | 4 => ([(4, [])], [])
  | 5 => ([(5, [])], [])
  | 6 => ([(4, [])], [])
  | _ => ([], [])
noncomputable abbrev A25 (p : List Nat) := awp cfg (know know25) (drawOk cfg (know know25)) Try.f25.ntmps lv25 (cd Try.f25 p)
theorem vc25 (r : Ref) (i : Int) (Q : AExit → LSt U → Prop) (h : ((Tr ((!(decide ((i : Int) < 0))) = true)) ∧ ((!(decide ((i : Int) < 0))) = true → pre59 ((Ref.mk (Ref.a r) (Ref.kind r) (Ref.segment r) (Ref.at_ r) (Ref.data r) (Ref.kids r) (Ref.count r) (Ref.number r)), ())) ∧ (Tr ((!(decide ((i : Int) < 0))) = true)) ∧ (Tr ((!(decide ((i : Int) < 0))) = true)) ∧ (((decide ((i : Int) < 0)) = false → (!(decide ((i : Int) < 0))) = true)) ∧ (((bif (decide ((i : Int) < 0)) then true else (decide (((lenR (Ref.mk (Ref.a r) (Ref.kind r) (Ref.segment r) (Ref.at_ r) (Ref.data r) (Ref.kids r) (Ref.count r) (Ref.number r))) : Int) ≤ i))) = true → (Q .ret (⟨[(4, .c (.int .u64 0))], [], []⟩ : LSt U))) ∧ ((bif (decide ((i : Int) < 0)) then true else (decide (((lenR (Ref.mk (Ref.a r) (Ref.kind r) (Ref.segment r) (Ref.at_ r) (Ref.data r) (Ref.kids r) (Ref.count r) (Ref.number r))) : Int) ≤ i))) = false → (((((Ref.kind r) : Int) == 10) = true → (Q .ret (⟨[(4, .c (.int .u64 (Ref.number r)))], [], []⟩ : LSt U))) ∧ ((((Ref.kind r) : Int) == 10) = false → (InR (((Ref.at_ r) : Int) + i)) ∧ (pre62 ((Ref.a r), (Ref.segment r), (((Ref.at_ r) : Int) + i), ())) ∧ ((Q .ret (⟨[(4, .c (.int .u64 (if hasN (segO (Ref.a r)) (Ref.segment r) (((Ref.at_ r) : Int) + i) 1 then getS (segO (Ref.a r)) (Ref.segment r) (((Ref.at_ r) : Int) + i) else 0)))], [], []⟩ : LSt U))))))))) :
    A25 [] (⟨[(0, .agg [.po (U := U) .arena (Ref.a r), .int .i64 (Ref.kind r), .int .i64 (Ref.segment r), .int .i64 (Ref.at_ r), .int .i64 (Ref.data r), .int .i64 (Ref.kids r), .int .i64 (Ref.count r), .int .u64 (Ref.number r)]), (1, .c (.int .i64 i))], [], []⟩ : LSt U) Q :=
  Eq.mpr (by kernel_rfl) h
def Body25 (r : Ref) (i : Int)  : Prop := awp cfg (know (know25)) (drawOk cfg (know (know25))) Try.f25.ntmps lv25 (cd Try.f25 []) (entry (args25.can (r, i, ())) []) (EndsQ cfg Try.f25.ntmps Try.f25.results.toList (res25 (r, i, ())) [])
theorem make25 (c59 : Contract Try.prog cfg 59 spec59) (c62 : Contract Try.prog cfg 62 spec62) (hb : ∀ (r : Ref) (i : Int) (_ : Unit), pre25 (r, i, ()) → Body25 r i) : Contract Try.prog cfg 25 spec25 :=
  contract_flat (l := [(59, spec59), (62, spec62)]) cfgOk rfl (⟨c59, c62, trivial⟩) lv25 Try.func25 rfl rfl 2 (fun _ => rfl) (by decide) (fun ⟨r, i, _⟩ => hb r i ())

noncomputable def know68 : List (FuncId × Fs U) := []
def lv68 : Lives U := fun i => match i with
  | 0 => ([(1, [])], [((.loc 1), [])])
  | 1 => ([(1, []), (6, [])], [((.loc 1), [])])
  | 2 => ([(2, []), (3, [])], [])
  | 3 => ([(2, []), (3, [])], [])
  | _ => ([], [])
noncomputable abbrev A68 (p : List Nat) := awp cfg (know know68) (drawOk cfg (know know68)) Try.f68.ntmps lv68 (cd Try.f68 p)
theorem vc68 (r : Ref) (Q : AExit → LSt U → Prop) (h : ((((((Ref.kind r) : Int) != 9) = true → (Q .ret (⟨[(2, .c (.int .i64 0)), (3, .c (.int .i64 0))], [], []⟩ : LSt U))) ∧ ((((Ref.kind r) : Int) != 9) = false → (Q .ret (⟨[(2, .c (.int .i64 (Ref.data r))), (3, .c (.int .i64 (Ref.kids r)))], [], []⟩ : LSt U)))))) :
    A68 [] (⟨[(0, .agg [.po (U := U) .arena (Ref.a r), .int .i64 (Ref.kind r), .int .i64 (Ref.segment r), .int .i64 (Ref.at_ r), .int .i64 (Ref.data r), .int .i64 (Ref.kids r), .int .i64 (Ref.count r), .int .u64 (Ref.number r)])], [], []⟩ : LSt U) Q :=
  Eq.mpr (by kernel_rfl) h
def Body68 (r : Ref)  : Prop := awp cfg (know (know68)) (drawOk cfg (know (know68))) Try.f68.ntmps lv68 (cd Try.f68 []) (entry (args68.can (r, ())) []) (EndsQ cfg Try.f68.ntmps Try.f68.results.toList (res68 (r, ())) [])
theorem make68 (hb : ∀ (r : Ref) (_ : Unit), pre68 (r, ()) → Body68 r) : Contract Try.prog cfg 68 spec68 :=
  contract_flat (l := []) cfgOk rfl (trivial) lv68 Try.func68 rfl rfl 1 (fun _ => rfl) (by decide) (fun ⟨r, _⟩ => hb r ())

noncomputable def know61 : List (FuncId × Fs U) := [(83, spec83), (62, spec62), (84, spec84)]
def lv61 : Lives U := fun i => match i with
  | 0 => ([(1, []), (2, [])], [((.loc 2), [])])
  | 1 => ([(1, []), (2, []), (5, [])], [((.loc 2), [])])
  | 2 => ([(1, []), (2, []), (5, []), (6, [])], [((.loc 2), [])])
  | 3 => ([(1, []), (2, []), (5, []), (6, []), (20, [])], [((.loc 2), [])])
  | 4 => ([(4, [])], [])
  | 5 => ([(1, []), (2, []), (5, []), (8, [])], [((.loc 2), [])])
  | 6 => ([(1, []), (5, []), (8, []), (9, [])], [])
  | 7 => ([(4, [])], [])
  | _ => ([], [])
noncomputable abbrev A61 (p : List Nat) := awp cfg (know know61) (drawOk cfg (know know61)) Try.f61.ntmps lv61 (cd Try.f61 p)
theorem vc61 (r : Ref) (i : Int) (Q : AExit → LSt U → Prop) (h : ∀ y_1, y_1 = (Int.tdiv 64 (if wd (((Ref.kind r) : Int) - 2) < 0 then 0 else wd (((Ref.kind r) : Int) - 2))) → ((InR (((Ref.kind r) : Int) - 2)) ∧ ((pre83 ((((Ref.kind r) : Int) - 2), ())) ∧ ((((((if wd (((Ref.kind r) : Int) - 2) < 0 then 0 else wd (((Ref.kind r) : Int) - 2)) : Int) == 0) = true → (Q .ret (⟨[(4, .c (.int .u64 0))], [], []⟩ : LSt U))) ∧ ((((if wd (((Ref.kind r) : Int) - 2) < 0 then 0 else wd (((Ref.kind r) : Int) - 2)) : Int) == 0) = false → (((if wd (((Ref.kind r) : Int) - 2) < 0 then 0 else wd (((Ref.kind r) : Int) - 2)) : Int) ≠ 0) ∧ ((((IntKind.wrap .i64 y_1) : Int) ≠ 0) ∧ (InR (((Ref.at_ r) : Int) + (IntKind.wrap .i64 (Int.tdiv i (IntKind.wrap .i64 y_1))))) ∧ (pre62 ((Ref.a r), (Ref.segment r), (((Ref.at_ r) : Int) + (IntKind.wrap .i64 (Int.tdiv i (IntKind.wrap .i64 y_1)))), ())) ∧ ((((IntKind.wrap .i64 y_1) : Int) ≠ 0) ∧ (pre84 (([if hasN (segO (Ref.a r)) (Ref.segment r) (((Ref.at_ r) : Int) + (IntKind.wrap .i64 (Int.tdiv i (IntKind.wrap .i64 y_1)))) 1 then getS (segO (Ref.a r)) (Ref.segment r) (((Ref.at_ r) : Int) + (IntKind.wrap .i64 (Int.tdiv i (IntKind.wrap .i64 y_1)))) else 0]), (((Ref.kind r) : Int) - 2), (Int.tmod i (IntKind.wrap .i64 y_1)), ())) ∧ (Q .ret (⟨[(4, .c (.int .u64 (getW ([if hasN (segO (Ref.a r)) (Ref.segment r) (((Ref.at_ r) : Int) + (IntKind.wrap .i64 (Int.tdiv i (IntKind.wrap .i64 y_1)))) 1 then getS (segO (Ref.a r)) (Ref.segment r) (((Ref.at_ r) : Int) + (IntKind.wrap .i64 (Int.tdiv i (IntKind.wrap .i64 y_1)))) else 0]) (((Ref.kind r) : Int) - 2) (Int.tmod i (IntKind.wrap .i64 y_1)))))], [], []⟩ : LSt U)))))))))) :
    A61 [] (⟨[(0, .agg [.po (U := U) .arena (Ref.a r), .int .i64 (Ref.kind r), .int .i64 (Ref.segment r), .int .i64 (Ref.at_ r), .int .i64 (Ref.data r), .int .i64 (Ref.kids r), .int .i64 (Ref.count r), .int .u64 (Ref.number r)]), (1, .c (.int .i64 i))], [], []⟩ : LSt U) Q :=
  Eq.mpr (by kernel_rfl) (h _ rfl)
def Body61 (r : Ref) (i : Int)  : Prop := awp cfg (know (know61)) (drawOk cfg (know (know61))) Try.f61.ntmps lv61 (cd Try.f61 []) (entry (args61.can (r, i, ())) []) (EndsQ cfg Try.f61.ntmps Try.f61.results.toList (res61 (r, i, ())) [])
theorem make61 (c83 : Contract Try.prog cfg 83 spec83) (c62 : Contract Try.prog cfg 62 spec62) (c84 : Contract Try.prog cfg 84 spec84) (hb : ∀ (r : Ref) (i : Int) (_ : Unit), pre61 (r, i, ()) → Body61 r i) : Contract Try.prog cfg 61 spec61 :=
  contract_flat (l := [(83, spec83), (62, spec62), (84, spec84)]) cfgOk rfl (⟨c83, c62, c84, trivial⟩) lv61 Try.func61 rfl rfl 2 (fun _ => rfl) (by decide) (fun ⟨r, i, _⟩ => hb r i ())

noncomputable def know24 : List (FuncId × Fs U) := [(23, spec23), (26, spec26), (61, spec61)]
def lv24 : Lives U := fun i => match i with
  | 0 => ([(1, []), (2, []), (4, [])], [((.loc 2), []), ((.loc 4), [])])
  | 1 => ([(1, []), (2, []), (4, []), (13, [])], [((.loc 2), []), ((.loc 4), [])])
  | 2 => ([(4, []), (5, [])], [((.loc 4), [])])
  | 3 => ([(1, []), (2, []), (4, []), (16, [])], [((.loc 2), []), ((.loc 4), [])])
  | 4 => ([(1, []), (2, []), (4, []), (16, []), (17, [])], [((.loc 2), []), ((.loc 4), [])])
  | 5 => ([(4, []), (5, [])], [((.loc 4), [])])
  | 6 => ([(1, []), (2, []), (4, []), (16, []), (33, [])], [((.loc 2), []), ((.loc 4), [])])
  | 7 => ([(4, []), (5, [])], [((.loc 4), [])])
  | 8 => ([(1, []), (2, []), (4, []), (46, [])], [((.loc 2), []), ((.loc 4), [])])
  | 9 => ([(4, []), (5, [])], [((.loc 4), [])])
  | 10 => ([(4, []), (5, [])], [((.loc 4), [])])
  | _ => ([], [])
noncomputable abbrev A24 (p : List Nat) := awp cfg (know know24) (drawOk cfg (know know24)) Try.f24.ntmps lv24 (cd Try.f24 p)
theorem vc24 (r : Ref) (i : Int) (Q : AExit → LSt U → Prop) (h : ∀ y_1, y_1 = (r) → ∀ y_2, y_2 = (refAt (segO (Ref.a r)) (Ref.segment r) (((Ref.at_ r) : Int) + i)) → ∀ y_3, y_3 = (refAt (segO (Ref.a r)) (Ref.segment r) (((((Ref.at_ r) : Int) + (Ref.data r)) : Int) + i)) → ((Tr ((!(decide ((i : Int) < 0))) = true)) ∧ ((!(decide ((i : Int) < 0))) = true → pre23 (y_1, ())) ∧ (Tr ((!(decide ((i : Int) < 0))) = true)) ∧ (Tr ((!(decide ((i : Int) < 0))) = true)) ∧ (((decide ((i : Int) < 0)) = false → (!(decide ((i : Int) < 0))) = true)) ∧ (((bif (decide ((i : Int) < 0)) then true else (decide (((kidsR y_1) : Int) ≤ i))) = true → (Q .ret (⟨[(4, .ptr (.loc 4) 0), (5, .c (.int .i64 0))], [((.loc 4), [.nilp, .int .i64 0, .int .i64 0, .int .i64 0, .int .i64 0, .int .i64 0, .int .i64 0, .int .u64 0])], []⟩ : LSt U))) ∧ ((bif (decide ((i : Int) < 0)) then true else (decide (((kidsR y_1) : Int) ≤ i))) = false → ((((((Ref.kind r) : Int) == 1) = true → (InR (((Ref.at_ r) : Int) + (Ref.data r))) ∧ (InR (((((Ref.at_ r) : Int) + (Ref.data r)) : Int) + i)) ∧ (pre26 ((Ref.a r), (Ref.segment r), (((((Ref.at_ r) : Int) + (Ref.data r)) : Int) + i), ())) ∧ (Q .ret (⟨[(4, .ptr (.loc 4) 0), (5, .c (.int .i64 (y_3.2)))], [((.loc 4), [.po (U := U) .arena (Ref.a (liftX (Ref.a r) y_3.1)), .int .i64 (Ref.kind (liftX (Ref.a r) y_3.1)), .int .i64 (Ref.segment (liftX (Ref.a r) y_3.1)), .int .i64 (Ref.at_ (liftX (Ref.a r) y_3.1)), .int .i64 (Ref.data (liftX (Ref.a r) y_3.1)), .int .i64 (Ref.kids (liftX (Ref.a r) y_3.1)), .int .i64 (Ref.count (liftX (Ref.a r) y_3.1)), .int .u64 (Ref.number (liftX (Ref.a r) y_3.1))])], []⟩ : LSt U))) ∧ ((((Ref.kind r) : Int) == 1) = false → (((((Ref.kind r) : Int) == 8) = true → (InR (((Ref.at_ r) : Int) + i)) ∧ (pre26 ((Ref.a r), (Ref.segment r), (((Ref.at_ r) : Int) + i), ())) ∧ (Q .ret (⟨[(4, .ptr (.loc 4) 0), (5, .c (.int .i64 (y_2.2)))], [((.loc 4), [.po (U := U) .arena (Ref.a (liftX (Ref.a r) y_2.1)), .int .i64 (Ref.kind (liftX (Ref.a r) y_2.1)), .int .i64 (Ref.segment (liftX (Ref.a r) y_2.1)), .int .i64 (Ref.at_ (liftX (Ref.a r) y_2.1)), .int .i64 (Ref.data (liftX (Ref.a r) y_2.1)), .int .i64 (Ref.kids (liftX (Ref.a r) y_2.1)), .int .i64 (Ref.count (liftX (Ref.a r) y_2.1)), .int .u64 (Ref.number (liftX (Ref.a r) y_2.1))])], []⟩ : LSt U))) ∧ ((((Ref.kind r) : Int) == 8) = false → (((((Ref.kind r) : Int) == 9) = true → (InR (((Ref.data r) : Int) + (Ref.kids r))) ∧ (InR ((i : Int) * (((Ref.data r) : Int) + (Ref.kids r)))) ∧ (InR (((Ref.at_ r) : Int) + ((i : Int) * (((Ref.data r) : Int) + (Ref.kids r))))) ∧ (Q .ret (⟨[(4, .ptr (.loc 4) 0), (5, .c (.int .i64 0))], [((.loc 4), [.po (U := U) .arena (Ref.a r), .int .i64 1, .int .i64 (Ref.segment r), .int .i64 (((Ref.at_ r) : Int) + ((i : Int) * (((Ref.data r) : Int) + (Ref.kids r)))), .int .i64 (Ref.data r), .int .i64 (Ref.kids r), .int .i64 0, .int .u64 0])], []⟩ : LSt U))) ∧ ((((Ref.kind r) : Int) == 9) = false → (pre61 (y_1, i, ())) ∧ (Q .ret (⟨[(4, .ptr (.loc 4) 0), (5, .c (.int .i64 0))], [((.loc 4), [.po (U := U) .arena (Ref.a r), .int .i64 10, .int .i64 0, .int .i64 0, .int .i64 0, .int .i64 0, .int .i64 0, .int .u64 (getW (List.drop (Int.toNat (Ref.at_ y_1)) (segAt (segO (Ref.a y_1)) (Ref.segment y_1))) (Ref.kind y_1 - 2) i)])], []⟩ : LSt U))))))))))))) :
    A24 [] (⟨[(0, .agg [.po (U := U) .arena (Ref.a r), .int .i64 (Ref.kind r), .int .i64 (Ref.segment r), .int .i64 (Ref.at_ r), .int .i64 (Ref.data r), .int .i64 (Ref.kids r), .int .i64 (Ref.count r), .int .u64 (Ref.number r)]), (1, .c (.int .i64 i))], [], []⟩ : LSt U) Q :=
  Eq.mpr (by kernel_rfl) (h _ (reRef_eq _) _ rfl _ rfl)
def Body24 (r : Ref) (i : Int)  : Prop := awp cfg (know (know24)) (drawOk cfg (know (know24))) Try.f24.ntmps lv24 (cd Try.f24 []) (entry (args24.can (r, i, ())) []) (EndsQ cfg Try.f24.ntmps Try.f24.results.toList (res24 (r, i, ())) [])
theorem make24 (c23 : Contract Try.prog cfg 23 spec23) (c26 : Contract Try.prog cfg 26 spec26) (c61 : Contract Try.prog cfg 61 spec61) (hb : ∀ (r : Ref) (i : Int) (_ : Unit), pre24 (r, i, ()) → Body24 r i) : Contract Try.prog cfg 24 spec24 :=
  contract_flat (l := [(23, spec23), (26, spec26), (61, spec61)]) cfgOk rfl (⟨c23, c26, c61, trivial⟩) lv24 Try.func24 rfl rfl 2 (fun _ => rfl) (by decide) (fun ⟨r, i, _⟩ => hb r i ())

end Go.AM.Ythokdjgpdonhgaa

namespace Go.AM.Ythokdjgpdonhgaa
open Go.AM Go.Proofs

abbrev tR (a : Option Arena) (x : XRef × Int) : V U := .tup [(true, enc .ref (liftX a x.1)), (false, [.int .i64 x.2])]
theorem frame_le {p : Ptr} (h : OkP p) (h0 : 0 ≤ p.off) : 0 ≤ p.off * (p.data + p.ptrs) ∧ p.off * (p.data + p.ptrs) ≤ 70368744177664 := by
  have h1 := h.data
  have h2 := h.ptrs
  have h3 := h.off
  have := Int.mul_le_mul (Int.le_of_lt h3.2) (show p.data + p.ptrs ≤ 131072 by omega) (by omega) (by decide : (0 : Int) ≤ 536870912)
  exact ⟨Int.mul_nonneg h0 (by omega), by omega⟩

theorem c64 : Contract Try.prog cfg 64 spec64 := by
  refine make64 c62 c86 ?_
  intro r n _ hp
  obtain ⟨ha, hn, hz, hh⟩ := hp
  dsimp only at ha hn hz hh
  refine vc64 _ _ _ ?_
  rintro y hy
  dsimp only at hy
  (simp only [vcT, bif_tl, bif_fr, bif_tlf, bif_frf, Bool.not_eq_true', Bool.not_eq_false', decide_eq_true_eq, decide_eq_false_iff_not, beq_iff_eq, beq_eq_false_iff_ne, bne_iff_ne, ne_eq, bne_eq_false_iff_eq, Bool.or_eq_true, Bool.and_eq_true, Bool.or_eq_false_iff, Bool.and_eq_false_imp])
  have g := hasN_iff.1 hh
  have hl := (okSeg_at ha r.segment).1
  have h1 : hasN (segO r.a) r.segment r.at_ 1 = true := hasN_iff.2 ⟨g.1, g.2.1, g.2.2.1, by decide, by omega⟩
  have hw := getS_word ha r.segment r.at_
  rw [if_pos h1] at hy ⊢
  have ho := okP_dec hw.1 hw.2
  rw [← hy] at ho
  have hd := ho.data
  have hq := ho.ptrs
  have hr : res64 (r, n, ()) = tR r.a (compX (segO r.a) r.segment r.at_ n) := rfl
  rw [hr]
  refine ⟨ha, hw, fun h => by ((unfold InR; omega)), fun h => by have := frame_le ho (by omega); ((unfold InR; omega)), fun h => ?_, fun h => ⟨by ((unfold InR; omega)), ?_⟩⟩
  · rw [show compX (segO r.a) r.segment r.at_ n = (xz, 8) by unfold compX; rw [← hy, if_pos (by omega)]]; (repeat' (first | exact trivial | exact rfl | refine And.intro ?_ ?_))
  · rw [show compX (segO r.a) r.segment r.at_ n = (⟨9, r.segment, r.at_ + 1, y.data, y.ptrs, y.off, 0⟩, 0) by unfold compX; rw [← hy, if_neg (by omega)]]
    rw [hz]; (repeat' (first | exact trivial | exact rfl | refine And.intro ?_ ?_))

theorem c26 : Contract Try.prog cfg 26 spec26 := by
  refine make26 c63 c64 ?_
  intro a s x _ ha
  simp only [pre26] at ha
  refine vc26 _ _ _ _ ?_
  rintro y1 h1 y2 h2
  dsimp only at h1 h2
  have hf := okL_follow ha s x
  have hp := hf.p
  have hk := hf.kind
  have hc := hp.code
  have hcn := hp.count
  have hr : res26 (a, s, x, ()) = tR a (refAt (segO a) s x) := rfl
  have cut : ∀ k d p c : Int, k ≠ 0 → refAt (segO a) s x = (⟨k, (follow (segO a) s x).1.segment, (follow (segO a) s x).1.at_, d, p, c, 0⟩, 0) → A26 [1, 1, 1, 1, 1] (head26_0 a s x k d p c) (EndsQ cfg Try.f26.ntmps Try.f26.results.toList (res26 (a, s, x, ())) []) := by
    intro k d p c hk0 he
    refine vc26_c0 _ _ _ _ _ _ _ _ ?_
    rw [hr, he, show tR a (⟨k, (follow (segO a) s x).1.segment, (follow (segO a) s x).1.at_, d, p, c, 0⟩, 0) = .tup [(true, enc .ref ⟨a, k, (follow (segO a) s x).1.segment, (follow (segO a) s x).1.at_, d, p, c, 0⟩), (false, [.int .i64 0])] by
      simp only [tR, liftX]; rw [if_neg hk0]]
    (repeat' (first | exact trivial | exact rfl | refine And.intro ?_ ?_))
  (simp only [vcT, bif_tl, bif_fr, bif_tlf, bif_frf, Bool.not_eq_true', Bool.not_eq_false', decide_eq_true_eq, decide_eq_false_iff_not, beq_iff_eq, beq_eq_false_iff_ne, bne_iff_ne, ne_eq, bne_eq_false_iff_eq, Bool.or_eq_true, Bool.and_eq_true, Bool.or_eq_false_iff, Bool.and_eq_false_imp])
  refine ⟨ha, fun h => ?_, fun h => ⟨fun k1 => ?_, fun k1 => ⟨fun k6 => ⟨by ((unfold InR; omega)), ?_⟩, fun k6 => ⟨fun k7 => ?_, fun k7 => ⟨?_, ?_⟩⟩⟩⟩⟩
  · rw [hr, show refAt (segO a) s x = (xz, (follow (segO a) s x).2) by unfold refAt; rw [if_pos h]]; (repeat' (first | exact trivial | exact rfl | refine And.intro ?_ ?_))
  · refine cut _ _ _ _ (by decide) ?_
    unfold refAt; rw [if_neg (by omega), if_pos k1]
  · refine cut _ _ _ _ (by omega) ?_
    unfold refAt; rw [if_neg (by omega), if_neg k1, if_pos (by omega)]
  · refine cut _ _ _ _ (by decide) ?_
    unfold refAt; rw [if_neg (by omega), if_neg k1, if_pos (by omega), k7]; rfl
  · subst h1
    refine ⟨ha, hcn.1, rfl, ?_⟩
    have := hf.lie (by omega)
    rw [show wordsP (follow (segO a) s x).1.p = (follow (segO a) s x).1.p.count + 1 by unfold wordsP; rw [if_neg k1, if_pos (by omega), if_pos (by omega)]] at this
    exact this
  · subst h1 h2
    rw [hr, show refAt (segO a) s x = compX (segO a) (follow (segO a) s x).1.segment (follow (segO a) s x).1.at_ (follow (segO a) s x).1.p.count by unfold refAt; rw [if_neg (by omega), if_neg k1, if_neg (by omega)]]
    (repeat' (first | exact trivial | exact rfl | refine And.intro ?_ ?_))

theorem c21 : Contract Try.prog cfg 21 spec21 := by
  refine make21 c26 ?_
  intro a _ ha
  refine vc21 _ _ ?_
  refine ⟨ha, ?_⟩
  (repeat' (first | exact trivial | exact rfl | refine And.intro ?_ ?_))

theorem c22 : Contract Try.prog cfg 22 spec22 := by
  refine make22 ?_
  intro r _ _
  refine vc22 _ _ ?_
  (repeat' (first | exact trivial | exact rfl | refine And.intro ?_ ?_))

theorem c59 : Contract Try.prog cfg 59 spec59 := by
  refine make59 ?_
  intro r _ _
  refine vc59 _ _ ?_
  (simp only [vcT, bif_tl, bif_fr, bif_tlf, bif_frf, Bool.not_eq_true', Bool.not_eq_false', decide_eq_true_eq, decide_eq_false_iff_not, beq_iff_eq, beq_eq_false_iff_ne, bne_iff_ne, ne_eq, bne_eq_false_iff_eq, Bool.or_eq_true, Bool.and_eq_true, Bool.or_eq_false_iff, Bool.and_eq_false_imp])
  refine ⟨fun h => ends_int rfl ?_, fun h => ⟨fun h2 => ends_int rfl ?_, fun h2 => ends_int rfl ?_⟩⟩
  all_goals
    show _ = lenR r
    unfold lenR
  · rw [if_pos h]
  · rw [if_neg h, if_pos h2]
  · rw [if_neg h, if_neg h2]

theorem c23 : Contract Try.prog cfg 23 spec23 := by
  refine make23 ?_
  intro r _ _
  refine vc23 _ _ ?_
  (simp only [vcT, bif_tl, bif_fr, bif_tlf, bif_frf, Bool.not_eq_true', Bool.not_eq_false', decide_eq_true_eq, decide_eq_false_iff_not, beq_iff_eq, beq_eq_false_iff_ne, bne_iff_ne, ne_eq, bne_eq_false_iff_eq, Bool.or_eq_true, Bool.and_eq_true, Bool.or_eq_false_iff, Bool.and_eq_false_imp])
  refine ⟨fun h => ends_int rfl ?_, fun h => ends_int rfl ?_⟩
  all_goals
    show _ = kidsR r
    unfold kidsR
  · rw [if_pos h]
  · rw [if_neg h]

theorem c68 : Contract Try.prog cfg 68 spec68 := by
  refine make68 ?_
  intro r _ _
  refine vc68 _ _ ?_
  (simp only [vcT, bif_tl, bif_fr, bif_tlf, bif_frf, Bool.not_eq_true', Bool.not_eq_false', decide_eq_true_eq, decide_eq_false_iff_not, beq_iff_eq, beq_eq_false_iff_ne, bne_iff_ne, ne_eq, bne_eq_false_iff_eq, Bool.or_eq_true, Bool.and_eq_true, Bool.or_eq_false_iff, Bool.and_eq_false_imp])
  refine ⟨fun h => ?_, fun h => ?_⟩
  · refine ends_eq (r' := .tup [(false, [.int .i64 0]), (false, [.int .i64 0])]) ?_ (by (repeat' (first | exact trivial | exact rfl | refine And.intro ?_ ?_)))
    simp only [res68]; rw [if_neg h, if_neg h]
  · refine ends_eq (r' := .tup [(false, [.int .i64 r.data]), (false, [.int .i64 r.kids])]) ?_ (by (repeat' (first | exact trivial | exact rfl | refine And.intro ?_ ?_)))
    simp only [res68]; rw [if_pos h, if_pos h]

theorem wordsX_get {l : List (List Int)} {x : XRef} {i : Int} (h1 : x.kind = 1) (ha : 0 ≤ x.at_) (h0 : 0 ≤ i) (hi : i < x.data) : (wordsX l x).getD i.toNat 0 = getS l x.s (x.at_ + i) := by
  unfold wordsX getS
  rw [if_neg (by omega), if_pos h1, List.getD_eq_getElem?_getD, List.getD_eq_getElem?_getD, List.getElem?_take_of_lt (by omega), List.getElem?_drop, show (x.at_ + i).toNat = x.at_.toNat + i.toNat by omega]

theorem wordsX_len {l : List (List Int)} {x : XRef} (h : OkX l x) : ((wordsX l x).length : Int) = if x.kind = 1 then x.data else if x.kind = 10 then 1 else 0 := by
  unfold wordsX
  by_cases h1 : x.kind = 1
  · have hh := hasN_iff.1 (h.one h1)
    have hd := h.data
    have hp := h.ptrs
    rw [if_neg (by omega), if_pos h1, if_pos h1]
    simp
    omega
  · by_cases h10 : x.kind = 10
    · rw [if_pos h10, if_neg h1, if_pos h10]; rfl
    · rw [if_neg h10, if_neg h1, if_neg h1, if_neg h10]; rfl

theorem c25 : Contract Try.prog cfg 25 spec25 := by
  refine make25 c59 c62 ?_
  intro r i _ hp
  obtain ⟨ha, hx⟩ := hp
  dsimp only at ha hx
  refine vc25 _ _ _ ?_
  (simp only [vcT, bif_tl, bif_fr, bif_tlf, bif_frf, Bool.not_eq_true', Bool.not_eq_false', decide_eq_true_eq, decide_eq_false_iff_not, beq_iff_eq, beq_eq_false_iff_ne, bne_iff_ne, ne_eq, bne_eq_false_iff_eq, Bool.or_eq_true, Bool.and_eq_true, Bool.or_eq_false_iff, Bool.and_eq_false_imp])
  have hlen := wordsX_len hx
  have hlr : lenR r = ((wordsX (segO r.a) (unX r)).length : Int) := by rw [hlen]; rfl
  have hat := hx.at_
  have hdt := hx.data
  have hpt := hx.ptrs
  simp only [unX] at hat hdt hpt
  refine ⟨fun _ => trivial, fun h => ends_int rfl ?_, fun h => ⟨fun k => ends_int rfl ?_, fun k => ?_⟩⟩
  · show (0 : Int) = wordR r i
    change i < 0 ∨ lenR r ≤ i at h
    unfold wordR
    by_cases h0 : i < 0
    · rw [if_pos h0]
    · rw [if_neg h0, List.getD_eq_getElem?_getD, List.getElem?_eq_none (by omega)]; rfl
  · show r.number = wordR r i
    change ¬i < 0 ∧ ¬lenR r ≤ i at h
    have h1 : lenR r = 1 := by unfold lenR; rw [if_neg (by omega), if_pos k]
    unfold wordR wordsX
    rw [if_neg h.1, if_pos (show (unX r).kind = 10 from k), show i = 0 by omega]
    rfl
  · change ¬i < 0 ∧ ¬lenR r ≤ i at h
    have k1 : r.kind = 1 := by
      cases Decidable.em (r.kind = 1) with
      | inl e => exact e
      | inr e => exfalso; have : lenR r = 0 := by unfold lenR; rw [if_neg e, if_neg k]
                 omega
    have hl : lenR r = r.data := by unfold lenR; rw [if_pos k1]
    have hh := hasN_iff.1 (hx.one k1)
    simp only [unX] at hh
    refine ⟨by ((unfold InR; omega)), ha, ends_int rfl ?_⟩
    show _ = wordR r i
    unfold wordR
    rw [if_neg h.1, wordsX_get (x := unX r) k1 hh.2.2.1 (by omega) (by show i < r.data; omega), if_pos (hasN_iff.2 ⟨hh.1, hh.2.1, by omega, by decide, by omega⟩)]
    rfl

theorem wd_bits {c : Int} (h0 : 0 ≤ c) (h1 : c ≤ 5) : wd c = bitsP c := by
  have : c = 0 ∨ c = 1 ∨ c = 2 ∨ c = 3 ∨ c = 4 ∨ c = 5 := by omega
  rcases this with rfl | rfl | rfl | rfl | rfl | rfl <;> decide

theorem getW_one {g : List Int} {a c i n w : Int} (hw : wd c = w) (hw' : w = 1 ∨ w = 8 ∨ w = 16 ∨ w = 32 ∨ w = 64) (ha : 0 ≤ a) (h0 : 0 ≤ i) (hi : i < n) (hn : n < 536870912) (hl : a + (n * w + 63) / 64 ≤ (g.length : Int)) :
    a + i / (64 / w) < (g.length : Int) ∧ 0 ≤ i / (64 / w) ∧ i / (64 / w) ≤ i ∧ getW [g.getD (a + i / (64 / w)).toNat 0] c (i % (64 / w)) = getW (g.drop a.toNat) c i := by
  have key : i * w / 64 = i / (64 / w) ∧ i % (64 / w) * w / 64 = 0 ∧ i % (64 / w) * w % 64 = i * w % 64 ∧ a + i / (64 / w) < (g.length : Int) ∧ 0 ≤ i / (64 / w) ∧ i / (64 / w) ≤ i ∧ 0 ≤ i % (64 / w) ∧ i % (64 / w) ≤ 64 := by
    rcases hw' with e | e | e | e | e <;> subst e
    · exact ⟨by omega, by omega, by omega, by omega, by omega, by omega, by omega, by omega⟩
    · exact ⟨by omega, by omega, by omega, by omega, by omega, by omega, by omega, by omega⟩
    · exact ⟨by omega, by omega, by omega, by omega, by omega, by omega, by omega, by omega⟩
    · exact ⟨by omega, by omega, by omega, by omega, by omega, by omega, by omega, by omega⟩
    · exact ⟨by omega, by omega, by omega, by omega, by omega, by omega, by omega, by omega⟩
  obtain ⟨e1, e2, e3, e4, e5, e6, e7, e8⟩ := key
  refine ⟨e4, e5, e6, ?_⟩
  have hwp : 1 ≤ wd c := by omega
  rw [getW_eq hwp e7 (by omega), getW_eq hwp h0 (by omega), hw, e1, e2, e3]
  have : wordW [g.getD (a + i / (64 / w)).toNat 0] 0 = wordW (g.drop a.toNat) (i / (64 / w)) := by
    unfold wordW
    rw [if_neg (by simp), if_neg (by simp; omega)]
    rw [List.getD_eq_getElem?_getD (l := g.drop _), List.getElem?_drop, ← List.getD_eq_getElem?_getD, show a.toNat + (i / (64 / w)).toNat = (a + i / (64 / w)).toNat by omega]
    rfl
  rw [this]

theorem c61 : Contract Try.prog cfg 61 spec61 := by
  refine make61 c83 c62 c84 ?_
  intro r i _ hp
  obtain ⟨⟨ha, hx⟩, hk0, hk1, hi0, hi1⟩ := hp
  dsimp only at ha hx hk0 hk1 hi0 hi1
  refine vc61 _ _ _ ?_
  rintro y hy
  dsimp only at hy
  (simp only [vcT, bif_tl, bif_fr, bif_tlf, bif_frf, Bool.not_eq_true', Bool.not_eq_false', decide_eq_true_eq, decide_eq_false_iff_not, beq_iff_eq, beq_eq_false_iff_ne, bne_iff_ne, ne_eq, bne_eq_false_iff_eq, Bool.or_eq_true, Bool.and_eq_true, Bool.or_eq_false_iff, Bool.and_eq_false_imp])
  have hc := hx.count
  have hat := hx.at_
  have hh := hasN_iff.1 (hx.list hk0 (by show r.kind ≤ 8; omega))
  simp only [unX] at hc hat hh
  have hwb := wd_bits (c := r.kind - 2) (by omega) (by omega)
  rw [← hwb] at hh
  have hwc := wd_cases (r.kind - 2)
  have hb0 : 0 ≤ bitsP (r.kind - 2) := by unfold bitsP; (repeat' split) <;> omega
  rw [if_neg (show ¬ wd (r.kind - 2) < 0 by omega)] at hy ⊢
  have hr : res61 (r, i, ()) = .c (.int .u64 (getW ((segAt (segO r.a) r.segment).drop r.at_.toNat) (r.kind - 2) i)) := rfl
  refine ⟨by ((unfold InR; omega)), trivial, fun h => ends_int rfl ?_, fun h => ?_⟩
  · show (0 : Int) = getW _ (r.kind - 2) i
    unfold getW
    rw [if_pos (by omega)]
  · generalize hwe : wd (r.kind - 2) = w at *
    have hw5 : w = 1 ∨ w = 8 ∨ w = 16 ∨ w = 32 ∨ w = 64 := by omega
    obtain ⟨q1, q2, q3, q4⟩ := getW_one (g := segAt (segO r.a) r.segment) (i := i) hwe hw5 hat.1 hi0 hi1 hc.2 hh.2.2.2.2
    have hy' : IntKind.wrap .i64 y = 64 / w ∧ 0 < 64 / w ∧ 64 / w ≤ 64 := by
      rw [hy]
      rcases hw5 with e | e | e | e | e <;> subst e <;> decide
    rw [hy'.1, Int.tdiv_eq_ediv_of_nonneg hi0, Int.tmod_eq_emod_of_nonneg hi0, wrap_i64 (n := i / (64 / w)) (by omega) (by omega)]
    have h1 : hasN (segO r.a) r.segment (r.at_ + i / (64 / w)) 1 = true := hasN_iff.2 ⟨hh.1, hh.2.1, by omega, by decide, by omega⟩
    rw [if_pos h1]
    refine ⟨h, by omega, by ((unfold InR; omega)), ha, by omega, ?_, ends_int rfl q4⟩
    intro z hz
    rw [List.mem_singleton.1 hz]
    exact getS_word ha _ _

theorem c24 : Contract Try.prog cfg 24 spec24 := by
  refine make24 c23 c26 c61 ?_
  intro r i _ hp
  obtain ⟨ha, hx⟩ := hp
  dsimp only at ha hx
  refine vc24 _ _ _ ?_
  rintro y1 h1 y2 h2 y3 h3
  dsimp only at h1 h2 h3
  replace h1 := h1.symm
  subst h1
  (simp only [vcT, bif_tl, bif_fr, bif_tlf, bif_frf, Bool.not_eq_true', Bool.not_eq_false', decide_eq_true_eq, decide_eq_false_iff_not, beq_iff_eq, beq_eq_false_iff_ne, bne_iff_ne, ne_eq, bne_eq_false_iff_eq, Bool.or_eq_true, Bool.and_eq_true, Bool.or_eq_false_iff, Bool.and_eq_false_imp])
  have hr : res24 (r, i, ()) = tR r.a (kidX (segO r.a) (unX r) i) := rfl
  rw [hr]
  have hk := hx.kind
  have hat := hx.at_
  have hd := hx.data
  have hp := hx.ptrs
  have hcn := hx.count
  have hz := hx.zero
  simp only [unX] at hk hat hd hp hcn hz
  have hkr : kidsX (unX r) = kidsR r := rfl
  have hb : ¬kidsR r ≤ i → i < 536870912 := fun h => by unfold kidsR at h; split at h <;> omega
  refine ⟨fun _ => trivial, fun h => ?_, fun h => ⟨fun k1 => ⟨by ((unfold InR; omega)), by have := hb h.2; ((unfold InR; omega)), ha, ?_⟩, fun k1 => ⟨fun k8 => ⟨by have := hb h.2; ((unfold InR; omega)), ha, ?_⟩, fun k8 => ⟨fun k9 => ?_, fun k9 => ⟨⟨⟨ha, hx⟩, ?_⟩, ?_⟩⟩⟩⟩⟩
  · rw [show kidX (segO r.a) (unX r) i = (xz, 0) by unfold kidX; rw [if_pos (by rw [hkr]; exact h)]]; (repeat' (first | exact trivial | exact rfl | refine And.intro ?_ ?_))
  · subst h3
    rw [show kidX (segO r.a) (unX r) i = refAt (segO r.a) r.segment (r.at_ + r.data + i) by unfold kidX; rw [if_neg (by rw [hkr]; omega), if_pos (show (unX r).kind = 1 from k1)]; rfl]; (repeat' (first | exact trivial | exact rfl | refine And.intro ?_ ?_))
  · subst h2
    rw [show kidX (segO r.a) (unX r) i = refAt (segO r.a) r.segment (r.at_ + i) by unfold kidX; rw [if_neg (by rw [hkr]; omega), if_neg (show ¬(unX r).kind = 1 from k1), if_pos (show (unX r).kind = 8 from k8)]; rfl]; (repeat' (first | exact trivial | exact rfl | refine And.intro ?_ ?_))
  · have hh := hasN_iff.1 (hx.nine k9)
    have hic : i < r.count := by have := h.2; unfold kidsR at this; rw [if_neg k1] at this; omega
    have hl := (okSeg_at ha r.segment).1
    simp only [unX] at hh
    have e1 : 0 ≤ i * (r.data + r.kids) := Int.mul_nonneg (by omega) (by omega)
    have e2 : i * (r.data + r.kids) ≤ r.count * (r.data + r.kids) := Int.mul_le_mul_of_nonneg_right (by omega) (by omega)
    refine ⟨by ((unfold InR; omega)), by ((unfold InR; omega)), by ((unfold InR; omega)), ?_⟩
    rw [show kidX (segO r.a) (unX r) i = (⟨1, r.segment, r.at_ + i * (r.data + r.kids), r.data, r.kids, 0, 0⟩, 0) by
      unfold kidX; rw [if_neg (by rw [hkr]; omega), if_neg (show ¬(unX r).kind = 1 from k1), if_neg (show ¬(unX r).kind = 8 from k8), if_pos (show (unX r).kind = 9 from k9)]; rfl]
    (repeat' (first | exact trivial | exact rfl | refine And.intro ?_ ?_))
  · have hic : i < r.count := by have := h.2; unfold kidsR at this; rw [if_neg k1] at this; omega
    refine ⟨by show 2 ≤ r.kind; omega, by show r.kind ≤ 7; omega, by show 0 ≤ i; omega, hic⟩
  · rw [show kidX (segO r.a) (unX r) i = (⟨10, 0, 0, 0, 0, 0, getW ((segAt (segO r.a) r.segment).drop r.at_.toNat) (r.kind - 2) i⟩, 0) by
      unfold kidX; rw [if_neg (by rw [hkr]; omega), if_neg (show ¬(unX r).kind = 1 from k1), if_neg (show ¬(unX r).kind = 8 from k8), if_neg (show ¬(unX r).kind = 9 from k9)]; rfl]
    (repeat' (first | exact trivial | exact rfl | refine And.intro ?_ ?_))

end Go.AM.Ythokdjgpdonhgaa

namespace Go.AM.Ythokdjgpdonhgaa
open Go.AM Go.Proofs

def args37 : ArgL (List Int × List Int × Unit) := (.cons (aSl .u64) (.cons (aSl .u64) .nil))
def pre37 (a : List Int × List Int × Unit) : Prop := a.1.length ≤ 17592186044416
noncomputable def res37 (a : List Int × List Int × Unit) : V U := .c (.bool (decide (a.1 = a.2.1)))
noncomputable def spec37 : Fs U := fs args37 (fun a => [pre37 a]) res37

noncomputable def know37 : List (FuncId × Fs U) := []
def lv37 : Lives U := fun i => match i with
  | 0 => ([(0, []), (1, [])], [])
  | 1 => ([(0, []), (1, []), (10, [])], [])
  | 2 => ([(4, [])], [])
  | 3 => ([(0, []), (1, []), (5, [])], [])
  | 4 => ([(0, []), (1, []), (5, []), (14, [])], [])
  | 5 => ([(0, []), (1, []), (5, [])], [])
  | 6 => ([(0, []), (1, []), (5, []), (25, [])], [])
  | 7 => ([(4, [])], [])
  | 8 => ([(4, [])], [])
  | _ => ([], [])
noncomputable def head37_0 (a : List Int) (b : List Int) (x5 : Int) : LSt U := (⟨[(0, .c (.slice (U := U) .u64 a .unk)), (1, .c (.slice (U := U) .u64 b .unk)), (5, .c (.int .i64 x5))], [], []⟩ : LSt U)
noncomputable abbrev A37 (p : List Nat) := awp cfg (know know37) (drawOk cfg (know know37)) Try.f37.ntmps lv37 (cd Try.f37 p)
noncomputable abbrev S37 (p : List Nat) := seqK cfg (know know37) (drawOk cfg (know know37)) Try.f37.ntmps lv37 (cd Try.f37 p)
theorem vc37 (a : List Int) (b : List Int) (Q : AExit → LSt U → Prop) (h : ((((((a.length : Int) : Int) != (b.length : Int)) = true → (Q .ret (⟨[(4, .c (.bool false))], [], []⟩ : LSt U))) ∧ ((((a.length : Int) : Int) != (b.length : Int)) = false → (LoopWp (A37 [1, 1, 0, 1, 0, 0]) (head37_0 a b 0) (AExit.inBlock 0 (S37 [1, 1, 1] Q))))))) :
    A37 [] (⟨[(0, .c (.slice (U := U) .u64 a .unk)), (1, .c (.slice (U := U) .u64 b .unk))], [], []⟩ : LSt U) Q :=
  Eq.mpr (by kernel_rfl) h
theorem vc37_l0 (a : List Int) (b : List Int) (x5 : Int) (N0 : LSt U → Prop) (Q : AExit → LSt U → Prop) (h : (((decide ((x5 : Int) < (a.length : Int))) = true → ((0 : Int) ≤ x5 ∧ x5 < (a.length : Int)) ∧ ((0 : Int) ≤ x5 ∧ x5 < (b.length : Int)) ∧ (((((List.getD a (Int.toNat x5) (0 : Int)) : Int) != (List.getD b (Int.toNat x5) (0 : Int))) = true → (Q .ret (⟨[(4, .c (.bool false))], [], []⟩ : LSt U))) ∧ ((((List.getD a (Int.toNat x5) (0 : Int)) : Int) != (List.getD b (Int.toNat x5) (0 : Int))) = false → (InR ((x5 : Int) + 1)) ∧ (N0 (head37_0 a b ((x5 : Int) + 1)))))) ∧ ((decide ((x5 : Int) < (a.length : Int))) = false → (Q .ret (⟨[(4, .c (.bool true))], [], []⟩ : LSt U))))) :
    A37 [1, 1, 0, 1, 0, 0] (head37_0 a b x5) (AExit.then N0 (AExit.inBlock 0 (S37 [1, 1, 1] Q))) :=
  Eq.mpr (by kernel_rfl) h
def Body37 (a : List Int) (b : List Int)  : Prop := awp cfg (know (know37)) (drawOk cfg (know (know37))) Try.f37.ntmps lv37 (cd Try.f37 []) (entry (args37.can (a, b, ())) []) (EndsQ cfg Try.f37.ntmps Try.f37.results.toList (res37 (a, b, ())) [])
theorem make37 (hb : ∀ (a : List Int) (b : List Int) (_ : Unit), pre37 (a, b, ()) → Body37 a b) : Contract Try.prog cfg 37 spec37 :=
  contract_flat (l := []) cfgOk rfl (trivial) lv37 Try.func37 rfl rfl 2 (fun _ => rfl) (by decide) (fun ⟨a, b, _⟩ => hb a b ())

end Go.AM.Ythokdjgpdonhgaa

namespace Go.AM.Ythokdjgpdonhgaa
open Go.AM Go.Proofs

theorem eq_of_getD {α : Type} {a b : List α} (d : α) (hl : a.length = b.length) (h : ∀ j : Nat, j < a.length → a.getD j d = b.getD j d) : a = b := by
  refine List.ext_getElem hl fun j h1 h2 => ?_
  have := h j h1
  rwa [List.getD_eq_getElem?_getD, List.getD_eq_getElem?_getD, List.getElem?_eq_getElem h1, List.getElem?_eq_getElem h2] at this

theorem c37 : Contract Try.prog cfg 37 spec37 := by
  refine make37 ?_
  intro a b _ hp
  simp only [pre37] at hp
  refine vc37 _ _ _ ?_
  (simp only [vcT, bif_tl, bif_fr, bif_tlf, bif_frf, Bool.not_eq_true', Bool.not_eq_false', decide_eq_true_eq, decide_eq_false_iff_not, beq_iff_eq, beq_eq_false_iff_ne, bne_iff_ne, ne_eq, bne_eq_false_iff_eq, Bool.or_eq_true, Bool.and_eq_true, Bool.or_eq_false_iff, Bool.and_eq_false_imp])
  refine ⟨fun h => ends_bool rfl (decide_eq_false fun e => h (by rw [show a = b from e])).symm, fun h => ?_⟩
  refine loop_rule (ι := Int) (fun i => head37_0 a b i) (fun i => 0 ≤ i ∧ i ≤ a.length ∧ ∀ j : Nat, j < i.toNat → a.getD j 0 = b.getD j 0) (fun i => (a.length - i).toNat) 0 rfl ⟨by simp, by omega, fun j hj => by simp at hj⟩ ?_
  rintro i ⟨h1, h2, h3⟩
  refine vc37_l0 _ _ _ _ _ ?_
  (simp only [vcT, bif_tl, bif_fr, bif_tlf, bif_frf, Bool.not_eq_true', Bool.not_eq_false', decide_eq_true_eq, decide_eq_false_iff_not, beq_iff_eq, beq_eq_false_iff_ne, bne_iff_ne, ne_eq, bne_eq_false_iff_eq, Bool.or_eq_true, Bool.and_eq_true, Bool.or_eq_false_iff, Bool.and_eq_false_imp])
  refine ⟨fun hi => ⟨by omega, by omega, fun hn => ends_bool rfl ?_, fun he => ⟨by ((unfold InR; omega)), i + 1, rfl, ⟨by omega, by omega, fun j hj => ?_⟩, by omega⟩⟩, fun hi => ends_bool rfl ?_⟩
  · exact (decide_eq_false fun e => hn (by rw [show a = b from e])).symm
  · by_cases e : j < i.toNat
    · exact h3 j e
    · rw [show j = i.toNat by omega]; exact he
  · exact (decide_eq_true (eq_of_getD 0 (by omega) fun j hj => h3 j (by omega))).symm

end Go.AM.Ythokdjgpdonhgaa

namespace Go.AM.Ythokdjgpdonhgaa
open Go.AM Go.Proofs Go.Proofs.Ythokdjgpdonhgaa Go.ChangeShapes Go.WideShapes Go.RowKit

theorem own : ownKnob Try.prog.godebug = none := by kernel_rfl
theorem laidOut : laidOutB Try.prog = true := by kernel_rfl
theorem treeTypes : TreeTypes cfg := ⟨rfl, rfl, ⟨_, rfl⟩, ⟨_, rfl⟩, ⟨_, rfl, rfl⟩, ⟨_, _, rfl, rfl⟩, ⟨_, _, rfl, rfl, rfl⟩, ⟨_, _, rfl, rfl, rfl⟩⟩
def inW (e : List Int) : Prop := e.length ≤ 17592186044416 ∧ ∀ x ∈ e, 0 ≤ x ∧ x < 18446744073709551616

theorem rd_words {H : Type} {henc : TypeId × Value → H} {w : World} {n : Nat} {cs : List Value} (h : Rdd henc Try.prog w n (cfg.elT .words) cs) : ∃ e : List Int, RelS cfg w.cell? cs (cfg.enc .words e) ∧ inW e := by
  obtain ⟨l, h1, h2, h3⟩ := rd_sl cfgOk (S := .u64) (good := fun e : Int => 0 ≤ e ∧ e < 18446744073709551616) rfl (fun m _ cs h => rd_u64 cfgOk treeTypes h) h
  have hb : l.length * 8 ≤ reachBytes := h2
  exact ⟨l, h1, reach_div hb (by decide), h3⟩

theorem argSWords {H : Type} {henc : TypeId × Value → H} : ArgR henc Try.prog cfg (aSl .words) 29 (fun l => l.length * cfg.bytes .words ≤ reachBytes ∧ ∀ e ∈ l, inW e) :=
  argR_sl cfgOk rfl (fun _ n cs h => rd_words h)

theorem inSegs {l : List (List Int)} (h : l.length * cfg.bytes .words ≤ reachBytes ∧ ∀ e ∈ l, inW e) : okSeg l := by
  have hb : l.length * 24 ≤ reachBytes := h.1
  have h2 : reachBytes < 2 ^ 47 := reachBytes_lt
  exact ⟨by omega, h.2⟩

end Go.AM.Ythokdjgpdonhgaa

namespace Go.AM.Ythokdjgpdonhgaa
open Go.AM Go.Proofs Go.Proofs.Ythokdjgpdonhgaa Go.ChangeShapes Go.WideShapes Go.RowKit

theorem rd_limits {H : Type} {henc : TypeId × Value → H} {w : World} {n : Nat} {cs : List Value} (h : Rdd henc Try.prog w n (cfg.elT .limits) cs) : ∃ e : Limits, RelS cfg w.cell? cs (cfg.enc .limits e) ∧ True := by
  obtain ⟨m, rfl, hl, r0⟩ := rd_fld cfgOk (t := cfg.elT .limits) (i := 0) (off := 0) (ft := 3) (ag := false) (zs := [.int .i64 0]) rfl rfl h
  obtain ⟨m', e', _, r1⟩ := rd_fld cfgOk (t := cfg.elT .limits) (i := 1) (off := 1) (ft := 3) (ag := false) (zs := [.int .i64 0]) rfl rfl h
  cases e'
  obtain ⟨m', e', _, r2⟩ := rd_fld cfgOk (t := cfg.elT .limits) (i := 2) (off := 2) (ft := 3) (ag := false) (zs := [.int .i64 0]) rfl rfl h
  cases e'
  obtain ⟨m', e', _, r3⟩ := rd_fld cfgOk (t := cfg.elT .limits) (i := 3) (off := 3) (ft := 3) (ag := false) (zs := [.int .i64 0]) rfl rfl h
  cases e'
  have hl4 : cs.length = 4 := by rw [hl, cellsOf_var cfgOk (t := cfg.elT .limits) (ag := true) (zs := [.int .i64 0, .int .i64 0, .int .i64 0, .int .i64 0]) rfl]; rfl
  obtain ⟨a, a1, _⟩ := rd_int cfgOk (k := .i64) (n0 := 0) rfl r0
  obtain ⟨b, b1, _⟩ := rd_int cfgOk (k := .i64) (n0 := 0) rfl r1
  obtain ⟨c, c1, _⟩ := rd_int cfgOk (k := .i64) (n0 := 0) rfl r2
  obtain ⟨d, d1, _⟩ := rd_int cfgOk (k := .i64) (n0 := 0) rfl r3
  exact ⟨⟨a, b, c, d⟩, a1.glue rfl (by simp; omega) (b1.glue rfl (by simp; omega) (c1.glue rfl (by simp; omega) (d1.glue rfl (by simp; omega) (RelS.done (n := 4) hl4)))), trivial⟩

theorem argLimits {H : Type} {henc : TypeId × Value → H} : ArgR henc Try.prog cfg (aEl .limits) 60 (fun _ => True) := argR_el cfgOk rfl ⟨_, _, rfl⟩ (fun _ n cs h => rd_limits h)
end Go.AM.Ythokdjgpdonhgaa
