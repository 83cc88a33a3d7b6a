/- Trees: what the functions of chapter 7 compute. -/
import Derived.Test.YtlahjnelghpmeaaAmW
set_option linter.unusedSimpArgs false
set_option linter.unusedVariables false
namespace Go.AM

mutual
def shallow : Tree → Int → Int → Int
  | .mk _ w ks, d, l => if d = 0 ∨ l - 1 - w.length < 0 then -1 else shallowK ks (d - 1) (l - 1 - w.length)
def shallowK : List Tree → Int → Int → Int
  | [], _, l => l
  | t :: r, d, l => if l < 0 then l else shallowK r d (shallow t d l)
end

mutual
/-- The number of nodes and words. -/
def mass : Tree → Nat
  | .mk _ w ks => 1 + w.length + massK ks
def massK : List Tree → Nat
  | [] => 0
  | t :: r => mass t + massK r
end

mutual
/-- No list is longer than memory allows. -/
def small : Tree → Prop
  | .mk _ w ks => w.length ≤ 17592186044416 ∧ ks.length ≤ 17592186044416 ∧ smallK ks
def smallK : List Tree → Prop
  | [] => True
  | t :: r => small t ∧ smallK r
end

/-- Without noughts at the end. -/
def trim : List Int → List Int
  | [] => []
  | x :: r => match trim r with
    | [] => if x = 0 then [] else [x]
    | y :: s => x :: y :: s

/-- Without nothings at the end. -/
def trimK : List Tree → List Tree
  | [] => []
  | x :: r => match trimK r with
    | [] => if x.kind = 0 then [] else [x]
    | y :: s => x :: y :: s

mutual
def normT : Tree → Tree
  | .mk k w ks => if k = 0 then Tree.nil else if k = 1 then .mk 1 (trim w) (trimK (normK ks)) else .mk k w (normK ks)
def normK : List Tree → List Tree
  | [] => []
  | t :: r => normT t :: normK r
end

mutual
def weight : Tree → Int
  | .mk k w ks => if k = 0 then 0 else 1 + (if k = 1 then (w.length : Int) + ks.length else if k = 8 then (ks.length : Int) else 0) + weightK ks
def weightK : List Tree → Int
  | [] => 0
  | t :: r => weight t + weightK r
end

open Classical in
noncomputable def sameT (a b : Tree) : Bool := decide (a = b)

def wordAt (t : Tree) (i : Int) : Int := if i < 0 then 0 else t.words.getD i.toNat 0
def kidAt (t : Tree) (i : Int) : Tree := if i < 0 then Tree.nil else t.kids.getD i.toNat Tree.nil

end Go.AM
