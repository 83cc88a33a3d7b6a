import Derived.Test.YtcljdbpmjdgooaaEmW
set_option linter.unusedSimpArgs false
set_option linter.unusedVariables false
namespace Go.AM
mutual
def ZR:Tree->Int->Int->Int
 | .mk _ w ks,d,l=> if d=0\/l - 1 - w.length < 0 then -1 else Y1 ks (d - 1) (l - 1 - w.length)
def Y1:List Tree->Int->Int->Int
 | [],_,l=> l
 | t ::r,d,l=> if l < 0 then l else Y1 r d (ZR t d l)
end
mutual
def Zm:Tree->Nat
 | .mk _ w ks=> 1+w.length+Zp ks
def Zp:List Tree->Nat
 | []=> 0
 | t ::r=> Zm t+Zp r
end
mutual
def small:Tree->Prop
 | .mk _ w ks=> w.length<=17592186044416/\ks.length<=17592186044416/\Z5K ks
def Z5K:List Tree->Prop
 | []=> True
 | t ::r=> small t/\Z5K r
end
def trim:List Int->List Int
 | []=> []
 | x ::r=> match trim r with
  | []=> if x=0 then [] else [x]
  | y ::s=> x ::y ::s
def Yp:List Tree->List Tree
 | []=> []
 | x ::r=> match Yp r with
  | []=> if x.kind=0 then [] else [x]
  | y ::s=> x ::y ::s
mutual
def Z9:Tree->Tree
 | .mk k w ks=> if k=0 then Tree.nil else if k=1 then .mk 1 (trim w) (Yp (ZS ks)) else .mk k w (ZS ks)
def ZS:List Tree->List Tree
 | []=> []
 | t ::r=> Z9 t ::ZS r
end
mutual
def weight:Tree->Int
 | .mk k w ks=> if k=0 then 0 else 1+(if k=1 then (w.length:Int)+ks.length else if k=8 then (ks.length:Int) else 0)+Zl ks
def Zl:List Tree->Int
 | []=> 0
 | t ::r=> weight t+Zl r
end
open Classical in
noncomputable def Z00(a b:Tree):Bool:=decide (a=b)
def Z1U(t:Tree)(i:Int):Int:=if i < 0 then 0 else t.words.getD i.toNat 0
mutual
def rng:Tree->Prop
 | .mk k w ks=> (-9223372036854775808<=k/\k<=9223372036854775807)/\(∀ x∈w,0<=x/\x < 18446744073709551616)/\Z1Y ks
def Z1Y:List Tree->Prop
 | []=> True
 | t ::r=> rng t/\Z1Y r
end
def wd(c:Int):Int:=if c=0 then 0 else if c=1 then 1 else if c=2 then 8 else if c=3 then 16 else if c=4 then 32 else if c=5 then 64 else -1
def Z1L(c n:Int):Bool:=decide (0<=wd c/\n < 2 ^ (wd c).toNat)
def Jm(list:Int)(t:Tree):Bool:=
 if 2<=list/\list<=7 then decide (t.kind=10/\t.kids.length=0/\t.words.length=1) && Z1L (list - 2) (t.words.getD 0 0)
 else if list=9 then decide (t.kind=1) else decide (t.kind≠10)
mutual
def Z5:Tree->Int->Bool
 | .mk k w ks,d=>
  if k=0 then decide (w.length=0/\ks.length=0)
  else if k=10 then decide (w.length=1/\ks.length=0)
  else if d=0 then false
  else if k=1 then decide (w.length < 65536/\ks.length < 65536) && Yh 1 ks (d - 1)
  else decide (2<=k/\k<=9/\w.length=0/\ks.length < 1048576) && Yh k ks (d - 1)
def Yh(list:Int):List Tree->Int->Bool
 | [],_=> true
 | t ::r,d=> (Jm list t && Z5 t d) && Yh list r d
end
end Go.AM
