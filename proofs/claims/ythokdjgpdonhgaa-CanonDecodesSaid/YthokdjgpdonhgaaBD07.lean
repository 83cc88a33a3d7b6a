import Derived.Test.YthokdjgpdonhgaaBmW
set_option linter.unusedSimpArgs false
set_option linter.unusedVariables false
namespace Go.AM
mutual
def Zh:Tree->Nat
 | .mk _ w ks=> 1+w.length+Zv ks
def Zv:List Tree->Nat
 | []=> 0
 | t ::r=> Zh t+Zv r
end
def trim:List Int->List Int
 | []=> []
 | x ::r=> match trim r with
  | []=> if x=0 then [] else [x]
  | y ::s=> x ::y ::s
def Yb:List Tree->List Tree
 | []=> []
 | x ::r=> match Yb r with
  | []=> if x.kind=0 then [] else [x]
  | y ::s=> x ::y ::s
mutual
def Ze:Tree->Tree
 | .mk k w ks=> if k=0 then Tree.nil else if k=1 then .mk 1 (trim w) (Yb (Yq ks)) else .mk k w (Yq ks)
def Yq:List Tree->List Tree
 | []=> []
 | t ::r=> Ze t ::Yq r
end
mutual
def weight:Tree->Int
 | .mk k w ks=> if k=0 then 0 else 1+(if k=1 then (w.length:Int)+ks.length else if k=8 then (ks.length:Int) else 0)+YF ks
def YF:List Tree->Int
 | []=> 0
 | t ::r=> weight t+YF r
end
open Classical in
noncomputable def JS(a b:Tree):Bool:=decide (a=b)
def Z3a(t:Tree)(i:Int):Int:=if i < 0 then 0 else t.words.getD i.toNat 0
mutual
def rng:Tree->Prop
 | .mk k w ks=> (-9223372036854775808<=k/\k<=9223372036854775807)/\(∀ x∈w,0<=x/\x < 18446744073709551616)/\Z1B ks
def Z1B:List Tree->Prop
 | []=> True
 | t ::r=> rng t/\Z1B r
end
def wd(c:Int):Int:=if c=0 then 0 else if c=1 then 1 else if c=2 then 8 else if c=3 then 16 else if c=4 then 32 else if c=5 then 64 else -1
def J6(c n:Int):Bool:=decide (0<=wd c/\n < 2 ^ (wd c).toNat)
def YE(list:Int)(t:Tree):Bool:=
 if 2<=list/\list<=7 then decide (t.kind=10/\t.kids.length=0/\t.words.length=1) && J6 (list - 2) (t.words.getD 0 0)
 else if list=9 then decide (t.kind=1) else decide (t.kind≠10)
mutual
def Z8:Tree->Int->Bool
 | .mk k w ks,d=>
  if k=0 then decide (w.length=0/\ks.length=0)
  else if k=10 then decide (w.length=1/\ks.length=0)
  else if d=0 then false
  else if k=1 then decide (w.length < 65536/\ks.length < 65536) && ZI 1 ks (d - 1)
  else decide (2<=k/\k<=9/\w.length=0/\ks.length < 1048576) && ZI k ks (d - 1)
def ZI(list:Int):List Tree->Int->Bool
 | [],_=> true
 | t ::r,d=> (YE list t && Z8 t d) && ZI list r d
end
end Go.AM
