import Derived.Test.YthokdjgpdonhgaaBmW
set_option linter.unusedSimpArgs false
set_option linter.unusedVariables false
namespace Go.AM



mutual
def small : Tree → Prop
  | .mk _ w ks => w.length ≤ 17592186044416 ∧ ks.length ≤ 17592186044416 ∧ smallK ks
def smallK : List Tree → Prop
  | [] => True
  | t :: r => small t ∧ smallK r
end


mutual
def weight : Tree → Int
  | .mk k w ks => if k = 0 then 0 else 1 + (if k = 1 then (w.length : Int) + ks.length else if k = 8 then (ks.length : Int) else 0) + weightK ks
def weightK : List Tree → Int
  | [] => 0
  | t :: r => weight t + weightK r
end

open Classical in
mutual
def rng : Tree → Prop
  | .mk k w ks => (-9223372036854775808 ≤ k ∧ k ≤ 9223372036854775807) ∧ (∀ x ∈ w, 0 ≤ x ∧ x < 18446744073709551616) ∧ rngK ks
def rngK : List Tree → Prop
  | [] => True
  | t :: r => rng t ∧ rngK r
end

def wd (c : Int) : Int := if c = 0 then 0 else if c = 1 then 1 else if c = 2 then 8 else if c = 3 then 16 else if c = 4 then 32 else if c = 5 then 64 else -1

def fits (c n : Int) : Bool := decide (0 ≤ wd c ∧ n < 2 ^ (wd c).toNat)


end Go.AM
