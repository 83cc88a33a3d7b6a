import Derived.Test.YtpjenobkibfpcaaGreatZmW
set_option linter.unusedSimpArgs false
set_option linter.unusedVariables false
namespace Go.AM
mutual
def ZW:Tree->Int->Int->Int
 | .mk _ w ks,d,l=> if d=0\/l - 1 - w.length < 0 then -1 else Zx ks (d - 1) (l - 1 - w.length)
def Zx:List Tree->Int->Int->Int
 | [],_,l=> l
 | t ::r,d,l=> if l < 0 then l else Zx r d (ZW t d l)
end
mutual
def Zm:Tree->Nat
 | .mk _ w ks=> 1+w.length+Z9 ks
def Z9:List Tree->Nat
 | []=> 0
 | t ::r=> Zm t+Z9 r
end
mutual
def Z5C:Tree->Prop
 | .mk _ w ks=> w.length<=17592186044416/\ks.length<=17592186044416/\Z3K ks
def Z3K:List Tree->Prop
 | []=> True
 | t ::r=> Z5C t/\Z3K r
end
def trim:List Int->List Int
 | []=> []
 | x ::r=> match trim r with
  | []=> if x=0 then [] else [x]
  | y ::s=> x ::y ::s
def Yp:List Tree->List Tree
 | []=> []
 | x ::r=> match Yp r with
  | []=> if x.kind=0 then [] else [x]
  | y ::s=> x ::y ::s
mutual
def Z4:Tree->Tree
 | .mk k w ks=> if k=0 then Tree.nil else if k=1 then .mk 1 (trim w) (Yp (Yk ks)) else .mk k w (Yk ks)
def Yk:List Tree->List Tree
 | []=> []
 | t ::r=> Z4 t ::Yk r
end
open Classical in
noncomputable def ZU(a b:Tree):Bool:=decide (a=b)
def YF(t:Tree)(i:Int):Int:=if i < 0 then 0 else t.words.getD i.toNat 0
def JC(t:Tree)(i:Int):Tree:=if i < 0 then Tree.nil else t.kids.getD i.toNat Tree.nil
mutual
def rng:Tree->Prop
 | .mk k w ks=> (-9223372036854775808<=k/\k<=9223372036854775807)/\(∀ x∈w,0<=x/\x < 18446744073709551616)/\Jt ks
def Jt:List Tree->Prop
 | []=> True
 | t ::r=> rng t/\Jt r
end
def wd(c:Int):Int:=if c=0 then 0 else if c=1 then 1 else if c=2 then 8 else if c=3 then 16 else if c=4 then 32 else if c=5 then 64 else -1
def ZsS(c n:Int):Bool:=decide (0<=wd c/\n < 2 ^ (wd c).toNat)
def ZjG(list:Int)(t:Tree):Bool:=
 if 2<=list/\list<=7 then decide (t.kind=10/\t.kids.length=0/\t.words.length=1) && ZsS (list - 2) (t.words.getD 0 0)
 else if list=9 then decide (t.kind=1) else decide (t.kind≠10)
mutual
def ZD:Tree->Int->Bool
 | .mk k w ks,d=>
  if k=0 then decide (w.length=0/\ks.length=0)
  else if k=10 then decide (w.length=1/\ks.length=0)
  else if d=0 then false
  else if k=1 then decide (w.length < 65536/\ks.length < 65536) && Jm 1 ks (d - 1)
  else decide (2<=k/\k<=9/\w.length=0/\ks.length < 1048576) && Jm k ks (d - 1)
def Jm(list:Int):List Tree->Int->Bool
 | [],_=> true
 | t ::r,d=> (ZjG list t && ZD t d) && Jm list r d
end
end Go.AM
