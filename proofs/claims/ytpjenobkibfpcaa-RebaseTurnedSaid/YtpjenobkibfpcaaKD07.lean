import Derived.Test.YtpjenobkibfpcaaCmW
set_option linter.unusedSimpArgs false
set_option linter.unusedVariables false
namespace Go.AM
mutual
def ZH:Tree->Int->Int->Int
 | .mk _ w ks,d,l=> if d=0\/l - 1 - w.length < 0 then -1 else Zo ks (d - 1) (l - 1 - w.length)
def Zo:List Tree->Int->Int->Int
 | [],_,l=> l
 | t ::r,d,l=> if l < 0 then l else Zo r d (ZH t d l)
end
mutual
def Zj:Tree->Nat
 | .mk _ w ks=> 1+w.length+Z4 ks
def Z4:List Tree->Nat
 | []=> 0
 | t ::r=> Zj t+Z4 r
end
mutual
def Z3h:Tree->Prop
 | .mk _ w ks=> w.length<=17592186044416/\ks.length<=17592186044416/\Z1N ks
def Z1N:List Tree->Prop
 | []=> True
 | t ::r=> Z3h t/\Z1N r
end
def trim:List Int->List Int
 | []=> []
 | x ::r=> match trim r with
  | []=> if x=0 then [] else [x]
  | y ::s=> x ::y ::s
def ZQ:List Tree->List Tree
 | []=> []
 | x ::r=> match ZQ r with
  | []=> if x.kind=0 then [] else [x]
  | y ::s=> x ::y ::s
mutual
def Z7:Tree->Tree
 | .mk k w ks=> if k=0 then Tree.nil else if k=1 then .mk 1 (trim w) (ZQ (ZW ks)) else .mk k w (ZW ks)
def ZW:List Tree->List Tree
 | []=> []
 | t ::r=> Z7 t ::ZW r
end
open Classical in
noncomputable def Y3(a b:Tree):Bool:=decide (a=b)
def YY(t:Tree)(i:Int):Int:=if i < 0 then 0 else t.words.getD i.toNat 0
def Jf(t:Tree)(i:Int):Tree:=if i < 0 then Tree.nil else t.kids.getD i.toNat Tree.nil
mutual
def rng:Tree->Prop
 | .mk k w ks=> (-9223372036854775808<=k/\k<=9223372036854775807)/\(∀ x∈w,0<=x/\x < 18446744073709551616)/\YG ks
def YG:List Tree->Prop
 | []=> True
 | t ::r=> rng t/\YG r
end
def wd(c:Int):Int:=if c=0 then 0 else if c=1 then 1 else if c=2 then 8 else if c=3 then 16 else if c=4 then 32 else if c=5 then 64 else -1
def Zl1(c n:Int):Bool:=decide (0<=wd c/\n < 2 ^ (wd c).toNat)
def Ze6(list:Int)(t:Tree):Bool:=
 if 2<=list/\list<=7 then decide (t.kind=10/\t.kids.length=0/\t.words.length=1) && Zl1 (list - 2) (t.words.getD 0 0)
 else if list=9 then decide (t.kind=1) else decide (t.kind≠10)
mutual
def Zq:Tree->Int->Bool
 | .mk k w ks,d=>
  if k=0 then decide (w.length=0/\ks.length=0)
  else if k=10 then decide (w.length=1/\ks.length=0)
  else if d=0 then false
  else if k=1 then decide (w.length < 65536/\ks.length < 65536) && YA 1 ks (d - 1)
  else decide (2<=k/\k<=9/\w.length=0/\ks.length < 1048576) && YA k ks (d - 1)
def YA(list:Int):List Tree->Int->Bool
 | [],_=> true
 | t ::r,d=> (Ze6 list t && Zq t d) && YA list r d
end
end Go.AM
