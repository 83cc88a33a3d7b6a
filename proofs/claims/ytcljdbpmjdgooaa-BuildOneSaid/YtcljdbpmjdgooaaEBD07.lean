import Derived.Test.YtcljdbpmjdgooaaEmW
set_option linter.unusedSimpArgs false
set_option linter.unusedVariables false
namespace Go.AM
mutual
def shallow : Tree → Int → Int → Int
  | .mk _ w ks, d, l => if d = 0 ∨ l - 1 - w.length < 0 then -1 else shallowK ks (d - 1) (l - 1 - w.length)
def shallowK : List Tree → Int → Int → Int
  | [], _, l => l
  | t :: r, d, l => if l < 0 then l else shallowK r d (shallow t d l)
end
mutual
def mass : Tree → Nat
  | .mk _ w ks => 1 + w.length + massK ks
def massK : List Tree → Nat
  | [] => 0
  | t :: r => mass t + massK r
end
mutual
def small : Tree → Prop
  | .mk _ w ks => w.length ≤ 17592186044416 ∧ ks.length ≤ 17592186044416 ∧ smallK ks
def smallK : List Tree → Prop
  | [] => True
  | t :: r => small t ∧ smallK r
end
def trim : List Int → List Int
  | [] => []
  | x :: r => match trim r with
    | [] => if x = 0 then [] else [x]
    | y :: s => x :: y :: s
def trimK : List Tree → List Tree
  | [] => []
  | x :: r => match trimK r with
    | [] => if x.kind = 0 then [] else [x]
    | y :: s => x :: y :: s
mutual
def normT : Tree → Tree
  | .mk k w ks => if k = 0 then Tree.nil else if k = 1 then .mk 1 (trim w) (trimK (normK ks)) else .mk k w (normK ks)
def normK : List Tree → List Tree
  | [] => []
  | t :: r => normT t :: normK r
end
mutual
def weight : Tree → Int
  | .mk k w ks => if k = 0 then 0 else 1 + (if k = 1 then (w.length : Int) + ks.length else if k = 8 then (ks.length : Int) else 0) + weightK ks
def weightK : List Tree → Int
  | [] => 0
  | t :: r => weight t + weightK r
end
open Classical in
def wordAt (t : Tree) (i : Int) : Int := if i < 0 then 0 else t.words.getD i.toNat 0
mutual
def rng : Tree → Prop
  | .mk k w ks => (-9223372036854775808 ≤ k ∧ k ≤ 9223372036854775807) ∧ (∀ x ∈ w, 0 ≤ x ∧ x < 18446744073709551616) ∧ rngK ks
def rngK : List Tree → Prop
  | [] => True
  | t :: r => rng t ∧ rngK r
end
def wd (c : Int) : Int := if c = 0 then 0 else if c = 1 then 1 else if c = 2 then 8 else if c = 3 then 16 else if c = 4 then 32 else if c = 5 then 64 else -1
def fits (c n : Int) : Bool := decide (0 ≤ wd c ∧ n < 2 ^ (wd c).toNat)
def kidB (list : Int) (t : Tree) : Bool :=
  if 2 ≤ list ∧ list ≤ 7 then decide (t.kind = 10 ∧ t.kids.length = 0 ∧ t.words.length = 1) && fits (list - 2) (t.words.getD 0 0)
  else if list = 9 then decide (t.kind = 1) else decide (t.kind ≠ 10)
mutual
def rightT : Tree → Int → Bool
  | .mk k w ks, d =>
    if k = 0 then decide (w.length = 0 ∧ ks.length = 0)
    else if k = 10 then decide (w.length = 1 ∧ ks.length = 0)
    else if d = 0 then false
    else if k = 1 then decide (w.length < 65536 ∧ ks.length < 65536) && rightK 1 ks (d - 1)
    else decide (2 ≤ k ∧ k ≤ 9 ∧ w.length = 0 ∧ ks.length < 1048576) && rightK k ks (d - 1)
def rightK (list : Int) : List Tree → Int → Bool
  | [], _ => true
  | t :: r, d => (kidB list t && rightT t d) && rightK list r d
end
end Go.AM
