import Derived.Test.YtfapacabjkhepaaGreatWmW
set_option linter.unusedSimpArgs false
set_option linter.unusedVariables false
namespace Go.AM
mutual
def ZJ:Tree->Int->Int->Int
 | .mk _ w ks,d,l=> if d=0\/l - 1 - w.length < 0 then -1 else ZA ks (d - 1) (l - 1 - w.length)
def ZA:List Tree->Int->Int->Int
 | [],_,l=> l
 | t ::r,d,l=> if l < 0 then l else ZA r d (ZJ t d l)
end
mutual
def Zm:Tree->Nat
 | .mk _ w ks=> 1+w.length+Zk ks
def Zk:List Tree->Nat
 | []=> 0
 | t ::r=> Zm t+Zk r
end
mutual
def Z3z:Tree->Prop
 | .mk _ w ks=> w.length<=17592186044416/\ks.length<=17592186044416/\Z3U ks
def Z3U:List Tree->Prop
 | []=> True
 | t ::r=> Z3z t/\Z3U r
end
def trim:List Int->List Int
 | []=> []
 | x ::r=> match trim r with
  | []=> if x=0 then [] else [x]
  | y ::s=> x ::y ::s
def Yh:List Tree->List Tree
 | []=> []
 | x ::r=> match Yh r with
  | []=> if x.kind=0 then [] else [x]
  | y ::s=> x ::y ::s
mutual
def Z5:Tree->Tree
 | .mk k w ks=> if k=0 then Tree.nil else if k=1 then .mk 1 (trim w) (Yh (Yk ks)) else .mk k w (Yk ks)
def Yk:List Tree->List Tree
 | []=> []
 | t ::r=> Z5 t ::Yk r
end
open Classical in
noncomputable def YM(a b:Tree):Bool:=decide (a=b)
def YE(t:Tree)(i:Int):Int:=if i < 0 then 0 else t.words.getD i.toNat 0
def JD(t:Tree)(i:Int):Tree:=if i < 0 then Tree.nil else t.kids.getD i.toNat Tree.nil
mutual
def rng:Tree->Prop
 | .mk k w ks=> (-9223372036854775808<=k/\k<=9223372036854775807)/\(∀ x∈w,0<=x/\x < 18446744073709551616)/\Yl ks
def Yl:List Tree->Prop
 | []=> True
 | t ::r=> rng t/\Yl r
end
def wd(c:Int):Int:=if c=0 then 0 else if c=1 then 1 else if c=2 then 8 else if c=3 then 16 else if c=4 then 32 else if c=5 then 64 else -1
def Zjp(c n:Int):Bool:=decide (0<=wd c/\n < 2 ^ (wd c).toNat)
def Z0L(list:Int)(t:Tree):Bool:=
 if 2<=list/\list<=7 then decide (t.kind=10/\t.kids.length=0/\t.words.length=1) && Zjp (list - 2) (t.words.getD 0 0)
 else if list=9 then decide (t.kind=1) else decide (t.kind≠10)
mutual
def Ze:Tree->Int->Bool
 | .mk k w ks,d=>
  if k=0 then decide (w.length=0/\ks.length=0)
  else if k=10 then decide (w.length=1/\ks.length=0)
  else if d=0 then false
  else if k=1 then decide (w.length < 65536/\ks.length < 65536) && Yv 1 ks (d - 1)
  else decide (2<=k/\k<=9/\w.length=0/\ks.length < 1048576) && Yv k ks (d - 1)
def Yv(list:Int):List Tree->Int->Bool
 | [],_=> true
 | t ::r,d=> (Z0L list t && Ze t d) && Yv list r d
end
end Go.AM
