import Derived.Test.YtpjenobkibfpcaaCmZ
import Derived.Test.YtpjenobkibfpcaaChecked
import Derived.Test.YtpjenobkibfpcaaRows
import Derived.Test.YtpjenobkibfpcaaCmX
import Derived.Test.YtpjenobkibfpcaaCmXE
import Derived.ProofKit
import Derived.Test.YtpjenobkibfpcaaKD07
set_option linter.unusedSimpArgs false
set_option linter.unusedVariables false
namespace Go.AM.Ytpjenobkibfpcaa
open Go.AM Go.Proofs
def el:Ty→TypeId
 | .u64=> 40
 | .u8=> 5
 | .int=> 3
 | .tree=> 25
 | .wedit=> 42
 | .edit=> 31
 | .kid=> 84
 | .op=> 82
 | .piece=> 150
 | .unit=> 164
 | .pair=> 166
 | .step=> 58
 | .deed=> 70
def tb:Tables U:=
 {el:=el
  sl:=[(22,.u64),(23,.tree),(26,.step),(27,.wedit),(28,.kid),(29,.op),(64,.edit),(94,.u8),(146,.piece),(153,.int),(158,.pair),(161,.unit)]
  var:=[(2,false,[.int .i64 0]),
   (3,false,[.int .i64 0]),
   (4,false,[.bool false]),
   (5,false,[.int .u8 0]),
   (6,false,[.int .u8 0]),
   (7,true,[.int .i64 0,.int .i64 0,.bool false,.int .u8 0]),
   (8,true,[.int .i64 0,.int .i64 0,.bool false,.int .u8 0]),
   (12,false,[.int .u64 0]),
   (15,false,[.nilp]),
   (16,false,[.nilp]),
   (17,false,[.nilp]),
   (18,true,[.nilp]),
   (19,true,[.nilp]),
   (21,false,[.int .i32 0]),
   (22,false,[.nils]),
   (23,false,[.nils]),
   (24,true,[.int .i64 0,.nils,.nils]),
   (25,true,[.int .i64 0,.nils,.nils]),
   (26,false,[.nils]),
   (27,false,[.nils]),
   (28,false,[.nils]),
   (29,false,[.nils]),
   (30,true,[.int .i64 0,.int .i64 0,.nils,.nils,.int .i64 0,.nils,.nils,.nils,.nils,.int .i64 0,.nils]),
   (31,true,[.int .i64 0,.int .i64 0,.nils,.nils,.int .i64 0,.nils,.nils,.nils,.nils,.int .i64 0,.nils]),
   (40,false,[.int .u64 0]),
   (41,true,[.int .i64 0,.int .u8 0,.int .u64 0,.int .u64 0]),
   (42,true,[.int .i64 0,.int .u8 0,.int .u64 0,.int .u64 0]),
   (57,true,[.int .i64 0,.int .i64 0]),
   (58,true,[.int .i64 0,.int .i64 0]),
   (60,false,[.int .i64 0]),
   (64,false,[.nils]),
   (66,false,[.nilp]),
   (69,true,[.int .i64 0,.int .i64 0,.int .i64 0,.int .i64 0,.nils,.nils,.int .i64 0,.nils,.nils,.nils,.nils,.int .i64 0,.nils]),
   (70,true,[.int .i64 0,.int .i64 0,.int .i64 0,.int .i64 0,.nils,.nils,.int .i64 0,.nils,.nils,.nils,.nils,.int .i64 0,.nils]),
   (81,true,[.int .i64 0,.int .i64 0,.nils,.int .i64 0,.int .i64 0,.nils,.nils,.int .i64 0,.nils,.nils,.nils,.nils,.int .i64 0,.nils]),
   (82,true,[.int .i64 0,.int .i64 0,.nils,.int .i64 0,.int .i64 0,.nils,.nils,.int .i64 0,.nils,.nils,.nils,.nils,.int .i64 0,.nils]),
   (83,true,[.int .i64 0,.int .i64 0,.int .i64 0,.nils,.nils,.int .i64 0,.nils,.nils,.nils,.nils,.int .i64 0,.nils]),
   (84,true,[.int .i64 0,.int .i64 0,.int .i64 0,.nils,.nils,.int .i64 0,.nils,.nils,.nils,.nils,.int .i64 0,.nils]),
   (90,true,[.int .u8 0,.int .u8 0,.int .u8 0,.int .u8 0,.int .u8 0,.int .u8 0,.int .u8 0,.int .u8 0]),
   (94,false,[.nils]),
   (101,false,[.nilp]),
   (102,true,[.bool false,.bool false]),
   (103,true,[.bool false,.bool false]),
   (108,true,[.int .i64 0,.nils,.nils,.nils,.nils]),
   (109,true,[.int .i64 0,.nils,.nils,.nils,.nils]),
   (135,false,[.nilp]),
   (136,true,[.nils,.nils,.nils]),
   (137,true,[.nils,.nils,.nils]),
   (140,false,[.nilp]),
   (146,false,[.nils]),
   (149,true,[.int .i64 0,.int .i64 0,.int .i64 0,.nils,.int .i64 0,.int .i64 0,.nils,.nils,.int .i64 0,.nils,.nils,.nils,.nils,.int .i64 0,.nils,.int .i64 0,.int .i64 0,.nils,.int .i64 0,.int .i64 0,.nils,.nils,.int .i64 0,.nils,.nils,.nils,.nils,.int .i64 0,.nils]),
   (150,true,[.int .i64 0,.int .i64 0,.int .i64 0,.nils,.int .i64 0,.int .i64 0,.nils,.nils,.int .i64 0,.nils,.nils,.nils,.nils,.int .i64 0,.nils,.int .i64 0,.int .i64 0,.nils,.int .i64 0,.int .i64 0,.nils,.nils,.int .i64 0,.nils,.nils,.nils,.nils,.int .i64 0,.nils]),
   (153,false,[.nils]),
   (158,false,[.nils]),
   (161,false,[.nils]),
   (163,true,[.int .i64 0,.int .i64 0,.int .i64 0,.nils,.nils,.int .i64 0,.int .i64 0,.nils,.nils,.int .i64 0,.nils,.nils,.nils,.nils,.int .i64 0,.nils,.bool false]),
   (164,true,[.int .i64 0,.int .i64 0,.int .i64 0,.nils,.nils,.int .i64 0,.int .i64 0,.nils,.nils,.int .i64 0,.nils,.nils,.nils,.nils,.int .i64 0,.nils,.bool false]),
   (165,true,[.int .i64 0,.int .i64 0,.int .i64 0,.int .i64 0,.nils,.nils,.int .i64 0,.int .i64 0,.nils,.nils,.int .i64 0,.nils,.nils,.nils,.nils,.int .i64 0,.nils,.bool false,.int .i64 0,.int .i64 0,.int .i64 0,.nils,.nils,.int .i64 0,.int .i64 0,.nils,.nils,.int .i64 0,.nils,.nils,.nils,.nils,.int .i64 0,.nils,.bool false]),
   (166,true,[.int .i64 0,.int .i64 0,.int .i64 0,.int .i64 0,.nils,.nils,.int .i64 0,.int .i64 0,.nils,.nils,.int .i64 0,.nils,.nils,.nils,.nils,.int .i64 0,.nils,.bool false,.int .i64 0,.int .i64 0,.int .i64 0,.nils,.nils,.int .i64 0,.int .i64 0,.nils,.nils,.int .i64 0,.nils,.nils,.nils,.nils,.int .i64 0,.nils,.bool false]),
   (176,false,[.nilp]),
   (177,true,[.nilp,.nils,.nils,.nils,.nils]),
   (178,true,[.nilp,.nils,.nils,.nils,.nils]),
   (186,false,[.nilp]),
   (187,true,[.nils,.int .i64 0]),
   (188,true,[.nils,.int .i64 0]),
   (206,true,[.int .i64 0,.int .i64 0,.int .i64 0,.int .i64 0,.int .i64 0,.int .i64 0]),
   (214,false,[.int .u32 0]),
   (215,false,[.int .u8 0]),
   (216,false,[.int .u8 0]),
   (218,false,[.nilp]),
   (219,false,[.int .i32 0]),
   (220,false,[.int .i32 0])]
  fld:=[(7,0,0,2),(7,1,1,3),(7,2,2,4),(7,3,3,6),(8,0,0,2),(8,1,1,3),(8,2,2,4),(8,3,3,6),(18,0,0,17),(19,0,0,17),(24,0,0,3),(24,1,1,22),(24,2,2,23),(25,0,0,3),(25,1,1,22),(25,2,2,23),(30,0,0,3),(30,1,1,25),(30,2,4,25),(30,3,7,27),(30,4,8,28),(30,5,9,3),(30,6,10,29),(31,0,0,3),(31,1,1,25),(31,2,4,25),(31,3,7,27),(31,4,8,28),(31,5,9,3),(31,6,10,29),(41,0,0,3),(41,1,1,5),(41,2,2,40),(41,3,3,40),(42,0,0,3),(42,1,1,5),(42,2,2,40),(42,3,3,40),(57,0,0,3),(57,1,1,3),(58,0,0,3),(58,1,1,3),(69,0,0,3),(69,1,1,3),(69,2,2,31),(70,0,0,3),(70,1,1,3),(70,2,2,31),(81,0,0,3),(81,1,1,3),(81,2,2,23),(81,3,3,31),(82,0,0,3),(82,1,1,3),(82,2,2,23),(82,3,3,31),(83,0,0,3),(83,1,1,31),(84,0,0,3),(84,1,1,31),(102,0,0,4),(102,1,1,4),(103,0,0,4),(103,1,1,4),(108,0,0,25),(108,1,3,64),(108,2,4,64),(109,0,0,25),(109,1,3,64),(109,2,4,64),(136,0,0,29),(136,1,1,23),(136,2,2,23),(137,0,0,29),(137,1,1,23),(137,2,2,23),(149,0,0,3),(149,1,1,82),(149,2,15,82),(150,0,0,3),(150,1,1,82),(150,2,15,82),(163,0,0,3),(163,1,1,3),(163,2,2,25),(163,3,5,31),(163,4,16,4),(164,0,0,3),(164,1,1,3),(164,2,2,25),(164,3,5,31),(164,4,16,4),(165,0,0,3),(165,1,1,164),(165,2,18,164),(166,0,0,3),(166,1,1,164),(166,2,18,164),(177,0,0,101),(177,1,1,29),(177,2,2,29),(177,3,3,23),(177,4,4,23),(178,0,0,101),(178,1,1,29),(178,2,2,29),(178,3,3,23),(178,4,4,23),(187,0,0,29),(187,1,1,3),(188,0,0,29),(188,1,1,3)]
  arr:=[(90,8,5),(206,6,3)]
  eqs:=[41,42,57,58] }
def cfg:Cfg U:=tb.cfg K
theorem ZBp:tb.var.all (Zuu Try.prog)=true:=by kernel_rfl
theorem ZCX:tb.sl.all (slB Try.prog tb.el)=true:=by kernel_rfl
theorem ZBE:tb.fld.all (ZyT Try.prog)=true:=by kernel_rfl
theorem ZBH:tb.arr.all (ZzA Try.prog)=true:=by kernel_rfl
theorem ZCY:∀ t,elB Try.prog K tb t=true:=by
 intro t
 cases t
 ·kernel_rfl
 ·kernel_rfl
 ·kernel_rfl
 ·kernel_rfl
 ·kernel_rfl
 ·kernel_rfl
 ·kernel_rfl
 ·kernel_rfl
 ·kernel_rfl
 ·kernel_rfl
 ·kernel_rfl
 ·kernel_rfl
 ·kernel_rfl
theorem Zm:CfgOk Try.prog cfg:=Zon ZD6 ZBp ZCX ZBE ZBH ZCY (by kernel_rfl) (by kernel_rfl)
abbrev sU(T:Ty)(l:List (El T))(t:Tail):C U:= .slice (U:=U) T l t
noncomputable abbrev AW(K:Known U)(f:Func)(lv:Zj U)(p:List Nat):=awp cfg K (ZS cfg K) f.ntmps lv (cd f p)
noncomputable abbrev SW(K:Known U)(f:Func)(lv:Zj U)(p:List Nat):=ZaF cfg K (ZS cfg K) f.ntmps lv (cd f p)
abbrev EQ(f:Func):=Ys cfg f.ntmps f.results.toList
abbrev QT:=AExit→LSt U→Prop
abbrev NT:=LSt U→Prop
abbrev CT(k:FuncId)(s:Fs U):Prop:=Contract Try.prog cfg k s
abbrev xB:=@AExit.inBlock U
abbrev xT:=@AExit.then U
abbrev ci(x:Int):C U:= .int .i64 x
abbrev L2(e:List (Nat × V U))(m:List (Name × List (C U))):LSt U:=⟨e,m,[]⟩
def lvl(l:List (List Nat × List Nat)):Zj U:=fun i=> ((l.getD i ([],[])).1.map fun k=> (k,[]),(l.getD i ([],[])).2.map fun k=> (.loc k,[]))
abbrev zc0:List (C U):=[.int .u8 0,.int .u8 0,.int .u8 0,.int .u8 0,.int .u8 0,.int .u8 0,.int .u8 0,.int .u8 0]
abbrev zc1:List (C U):=[.int .i64 0,.int .i64 0,.nils,.nils,.int .i64 0,.nils,.nils,.nils,.nils,.int .i64 0,.nils]
abbrev zc2:List (C U):=[.int .i64 0,.int .i64 0,.nils,.int .i64 0,.int .i64 0,.nils,.nils,.int .i64 0,.nils,.nils,.nils,.nils,.int .i64 0,.nils]
end Go.AM.Ytpjenobkibfpcaa
namespace Go.AM.Ytpjenobkibfpcaa
open Go.AM Go.Proofs Go.Proofs.Ytpjenobkibfpcaa Go.ChangeShapes Go.WideShapes Go.RowKit
theorem own:ownKnob Try.prog.godebug=none:=by kernel_rfl
theorem ZvD:laidOutB Try.prog=true:=by kernel_rfl
theorem Zol:TreeTypes cfg:=⟨rfl,rfl,⟨_,rfl⟩,⟨_,rfl⟩,⟨_,rfl,rfl⟩,⟨_,_,rfl,rfl⟩,⟨_,_,rfl,rfl,rfl⟩,⟨_,_,rfl,rfl,rfl⟩⟩
theorem Zpe:EditTypes cfg:=⟨⟨_,rfl,rfl⟩,⟨_,_,rfl,rfl⟩,⟨_,_,rfl,rfl⟩,⟨_,_,rfl,rfl⟩,⟨_,_,rfl,rfl⟩,⟨_,rfl,rfl⟩,⟨_,_,rfl,rfl⟩,rfl,⟨_,rfl,rfl⟩,⟨_,_,rfl,rfl⟩,⟨_,_,rfl,rfl⟩,⟨_,_,rfl,rfl,rfl⟩,rfl,⟨_,rfl,rfl⟩,⟨_,_,rfl,rfl⟩,rfl,rfl,⟨_,_,rfl,rfl,rfl⟩,⟨_,_,rfl,rfl,rfl⟩,⟨_,_,rfl,rfl⟩,⟨_,_,rfl,rfl,rfl⟩⟩
theorem ZnY{H:Type}{henc:TypeId × Value→H}:ZAp henc Try.prog cfg (aEl .edit) 31 inE:=ZvS Zm rfl ⟨_,_,rfl⟩ (fun _ n cs h=> Zuz Zm Zol Zpe n cs h)
end Go.AM.Ytpjenobkibfpcaa
namespace Go.AM.Ytpjenobkibfpcaa
open Go.AM Go.Proofs
noncomputable section
def Zlf:ArgL (Tree × Int × Int × Unit):=(.cons (aEl .tree) (.cons (JI .i64) (.cons (JI .i64) .nil)))
def ZbM(a:Tree × Int × Int × Unit):Prop:=Z5P a.1∧0≤a.2.1∧a.2.1≤4611686018427387904∧-1≤a.2.2.1∧a.2.2.1≤4611686018427387904
def ZoR(a:Tree × Int × Int × Unit):Nat:=Zo a.1
def Ziy(a:Tree × Int × Int × Unit):V U:= .c (ci (ZZ a.1 a.2.1 a.2.2.1))
def Zdg:Fs U:=fs Zlf (fun a=> [ZbM a]) Ziy
def Ztf:ArgL (List Int × List Int × Unit):=(.cons (aSl .u64) (.cons (aSl .u64) .nil))
def ZfK(a:List Int × List Int × Unit):Prop:=a.1.length≤1000000000000
def Ziz(a:List Int × List Int × Unit):V U:= .c (.bool (decide (a.1=a.2.1)))
def Zdh:Fs U:=fs Ztf (fun a=> [ZfK a]) Ziz
def Ztc:ArgL (List Int × Unit):=(.cons (aSl .u64) .nil)
def ZiG(a:List Int × Unit):Prop:=a.1.length≤1000000000000
def ZqU(a:List Int × Unit):V U:= .c (sU .u64 (trim a.1) .unk)
def Zde:Fs U:=fs Ztc (fun a=> [ZiG a]) ZqU
def ZnT:ArgL (List Int × Unit):=(.cons (aSl .u64) .nil)
def ZdX(a:List Int × Unit):Prop:=a.1.length≤1000000000000
def Zrf(a:List Int × Unit):V U:= .c (sU .u64 a.1 .unk)
def Z94:Fs U:=fs ZnT (fun a=> [ZdX a]) Zrf
def ZnF:ArgL (List Int × List Int × Unit):=(.cons (aSl .u64) (.cons (aSl .u64) .nil))
def ZdV(a:List Int × List Int × Unit):Prop:=a.1.length≤1000000000000
def ZdF(a:List Int × List Int × Unit):V U:= .c (.bool (decide (a.1=a.2.1)))
def Z8Y:Fs U:=fs ZnF (fun a=> [ZdV a]) ZdF
def ZnE:ArgL (Tree × Int × Unit):=(.cons (aEl .tree) (.cons (JI .i64) .nil))
def ZaR(a:Tree × Int × Unit):Prop:=True
def ZgL(a:Tree × Int × Unit):V U:= .c (.int .u64 (YC a.1 a.2.1))
def Z29:Fs U:=fs ZnE (fun a=> [ZaR a]) ZgL
def Ztb:ArgL (Tree × Int × Unit):=(.cons (aEl .tree) (.cons (JI .i64) .nil))
def ZfI(a:Tree × Int × Unit):Prop:=True
def Zm7(a:Tree × Int × Unit):V U:= .agg (enc .tree (JA a.1 a.2.1))
def Z4O:Fs U:=fs Ztb (fun a=> [ZfI a]) Zm7
def Zli:ArgL (Tree × Unit):=(.cons (aEl .tree) .nil)
def Jy(a:Tree × Unit):Prop:=Zo a.1≤1000000000000
def ZoU(a:Tree × Unit):Nat:=Zo a.1
def ZfE(a:Tree × Unit):V U:= .agg (enc .tree (Z4 a.1))
def Z0b:Fs U:=fs Zli (fun a=> [Jy a]) ZfE
def Zlg:ArgL (Tree × Unit):=(.cons (aEl .tree) .nil)
def Z1e(a:Tree × Unit):Prop:=Zo a.1≤1000000000000
def ZoS(a:Tree × Unit):Nat:=Zo a.1
def ZfD(a:Tree × Unit):V U:= .agg (enc .tree (Z4 a.1))
def Z0x:Fs U:=fs Zlg (fun a=> [Z1e a]) ZfD
def Zlk:ArgL (Tree × Tree × Unit):=(.cons (aEl .tree) (.cons (aEl .tree) .nil))
def Z3A(a:Tree × Tree × Unit):Prop:=Zo a.1≤1000000000000
def ZoV(a:Tree × Tree × Unit):Nat:=Zo a.1
def ZfF(a:Tree × Tree × Unit):V U:= .c (.bool (YF a.1 a.2.1))
def Z2X:Fs U:=fs Zlk (fun a=> [Z3A a]) ZfF
def ZhR:ArgL (Tree × Tree × Unit):=(.cons (aEl .tree) (.cons (aEl .tree) .nil))
def Z1Z(a:Tree × Tree × Unit):Prop:=Zo a.1≤1000000000000∧Zo a.2.1≤1000000000000
def ZfV(a:Tree × Tree × Unit):Nat:=Zo a.1+Zo a.2.1
def Z8k(a:Tree × Tree × Unit):V U:= .c (.bool (YF (Z4 a.1) (Z4 a.2.1)))
def Jl:Fs U:=fs ZhR (fun a=> [Z1Z a]) Z8k
def ZnM:ArgL (Tree × Tree × Unit):=(.cons (aEl .tree) (.cons (aEl .tree) .nil))
def Z65(a:Tree × Tree × Unit):Prop:=Zo a.1≤1000000000000∧Zo a.2.1≤1000000000000
def Zr9(a:Tree × Tree × Unit):V U:= .c (.bool (YF (Z4 a.1) (Z4 a.2.1)))
def Z0Y:Fs U:=fs ZnM (fun a=> [Z65 a]) Zr9
def ZkM(N:Nat):List (FuncId × Fs U):=(78,fs Zlf (fun a=> [ZbM a,ZoR a < N]) Ziy) ::[]
def Zvm:Zj U:=lvl [([1,2,3],[3]),([1,2,3],[3]),([1,2,3,19],[3]),([6],[]),([1,2,3,7],[3]),([1,2,3,7,28],[3]),([1,2,3,7],[3]),([1,2,3,7],[3]),([6],[])]
def Z9V(t:Tree)(d l x2 x7:Int):LSt U:=(L2 [(1,.c (ci d)),(2,.c (ci x2)),(3,.ptr (.loc 3) 0),(7,.c (ci x7))] [(.loc 3,(enc .tree t))])
abbrev A78(N:Nat)(p:List Nat):=AW (Z1 (ZkM N)) Try.f78 Zvm p
abbrev S78(N:Nat)(p:List Nat):=SW (Z1 (ZkM N)) Try.f78 Zvm p
theorem ZCo(N:Nat)(t:Tree)(d l:Int)(Q:QT)(h:let z0:=bif (d==0) then true else (decide (((((l - 1):Int) - (t.words.length:Int)):Int) < 0));((InR (l - 1))∧(InR (((l - 1):Int) - (t.words.length:Int)))∧((Tr ((!(d==0))=true))∧((d==0)=false→(!(d==0))=true)∧((z0=true→(Q .ret (L2 [(6,.c (ci (-1)))] [])))∧(z0=false→(Ze (A78 N [1,1,1,0,1,0,0]) (Z9V t d l (((l - 1):Int) - (t.words.length:Int)) 0) (xB 0 (S78 N [1,1,1,1] Q)))))))):
  A78 N [] (L2 [(0,.agg (enc .tree t)),(1,.c (ci d)),(2,.c (ci l))] []) Q:=
 Eq.mpr (by kernel_rfl) h
theorem ZtY(N:Nat)(t:Tree)(d l x2 x7:Int)(N0:NT)(Q:QT)(h:let z2:=t.kids.getD x7.toNat Tree.nil;let z1:=decide (x7 < (t.kids.length:Int));let z3:=bif z1 then (decide ((0:Int)≤x2)) else false;let z0:=Tree.mk (Tree.kind z2) (Tree.words z2) (Tree.kids z2);(Tr (z1=true))∧(Tr (z1=true))∧((z3=true→((0:Int)≤x7∧x7 < (t.kids.length:Int))∧(InR (d - 1))∧(ZbM (z0,(d - 1),x2,()))∧(ZoR (z0,(d - 1),x2,()) < N)∧((InR (x7+1))∧(N0 (Z9V t d l (ZZ z0 (d - 1) x2) (x7+1)))))∧(z3=false→(Q .ret (L2 [(6,.c (ci x2))] []))))):
  A78 N [1,1,1,0,1,0,0] (Z9V t d l x2 x7) (xT N0 (xB 0 (S78 N [1,1,1,1] Q))):=
 Eq.mpr (by kernel_rfl) h
def ZzT(N:Nat)(t:Tree)(d l:Int):Prop:=AW (Z1 (ZkM N)) Try.f78 Zvm [] (Zk (Zlf.can (t,d,l,())) []) (EQ Try.f78 (Ziy (t,d,l,())) [])
theorem Zy7(hb:∀ (N:Nat) (t:Tree) (d:Int) (l:Int) (_:Unit),ZbM (t,d,l,())→ZoR (t,d,l,()) < N+1→ZzT N t d l):CT 78 Zdg:=
 YB (μ:=ZoR) (l:=[]) Zm rfl trivial Zvm Try.func78 rfl rfl 3 (fun _=> rfl) (by decide) (fun N ⟨t,d,l,_⟩=> hb N t d l ())
def ZkN:List (FuncId × Fs U):=[]
def Zvn:Zj U:=lvl [([0,1],[]),([0,1,10],[]),([4],[]),([0,1,5],[]),([0,1,5,14],[]),([0,1,5],[]),([0,1,5,25],[]),([4],[]),([4],[])]
def Z9W(a b:List Int)(x5:Int):LSt U:=(L2 [(0,.c (sU .u64 a .unk)),(1,.c (sU .u64 b .unk)),(5,.c (ci x5))] [])
abbrev A75(p:List Nat):=AW (Z1 ZkN) Try.f75 Zvn p
abbrev S75(p:List Nat):=SW (Z1 ZkN) Try.f75 Zvn p
theorem ZCq(a b:List Int)(Q:QT)(h:let z0:=((a.length:Int):Int) !=(b.length:Int);((z0=true→(Q .ret (L2 [(4,.c (.bool false))] [])))∧(z0=false→(Ze (A75 [1,1,0,1,0,0]) (Z9W a b 0) (xB 0 (S75 [1,1,1] Q)))))):
  A75 [] (L2 [(0,.c (sU .u64 a .unk)),(1,.c (sU .u64 b .unk))] []) Q:=
 Eq.mpr (by kernel_rfl) h
theorem Zu1(a b:List Int)(x5:Int)(N0:NT)(Q:QT)(h:let z1:=decide (x5 < (a.length:Int));let z0:=((a.getD x5.toNat (0:Int)):Int) !=(b.getD x5.toNat (0:Int));((z1=true→((0:Int)≤x5∧x5 < (a.length:Int))∧((0:Int)≤x5∧x5 < (b.length:Int))∧((z0=true→(Q .ret (L2 [(4,.c (.bool false))] [])))∧(z0=false→(InR (x5+1))∧(N0 (Z9W a b (x5+1))))))∧(z1=false→(Q .ret (L2 [(4,.c (.bool true))] []))))):
  A75 [1,1,0,1,0,0] (Z9W a b x5) (xT N0 (xB 0 (S75 [1,1,1] Q))):=
 Eq.mpr (by kernel_rfl) h
def ZzV(a b:List Int):Prop:=AW (Z1 ZkN) Try.f75 Zvn [] (Zk (Ztf.can (a,b,())) []) (EQ Try.f75 (Ziz (a,b,())) [])
theorem Zy8(hb:∀ (a:List Int) (b:List Int) (_:Unit),ZfK (a,b,())→ZzV a b):CT 75 Zdh:=
 Z7 (l:=[]) Zm rfl trivial Zvn Try.func75 rfl rfl 2 (fun _=> rfl) (by decide) (fun ⟨a,b,_⟩=> hb a b ())
def ZkL:List (FuncId × Fs U):=[]
def Zvl:Zj U:=lvl [([0],[]),([0,3],[]),([0,3,16],[]),([0,3],[]),([0,3,4],[]),([2],[])]
def Z9U(l:List Int)(x3:Int):LSt U:=(L2 [(0,.c (sU .u64 l .unk)),(3,.c (ci x3))] [])
abbrev A84(p:List Nat):=AW (Z1 ZkL) Try.f84 Zvl p
abbrev S84(p:List Nat):=SW (Z1 ZkL) Try.f84 Zvl p
theorem ZCl(l:List Int)(Q:QT)(h:(Ze (A84 [1,1,0,0,0]) (Z9U l (l.length:Int)) (xB 0 (S84 [1,1,1] Q)))):
  A84 [] (L2 [(0,.c (sU .u64 l .unk))] []) Q:=
 Eq.mpr (by kernel_rfl) h
theorem ZtW(l:List Int)(x3:Int)(N0:NT)(Q:QT)(h:let z0:=decide ((0:Int) < x3);let z1:=bif z0 then (((List.getD l (Int.toNat (x3 - 1)) (0:Int)):Int)==0) else false;(Tr (z0=true))∧(z0=true→InR (x3 - 1))∧(Tr (z0=true))∧(Tr (z0=true))∧(z0=true→(0:Int)≤(x3 - 1)∧(x3 - 1) < (l.length:Int))∧(Tr (z0=true))∧(Tr (z0=true))∧(Tr (z0=true))∧((z1=true→(InR (x3 - 1))∧(N0 (Z9U l (x3 - 1))))∧(z1=false→(((0:Int)≤x3∧x3≤(l.length:Int))∧((([]:List Int).length+(List.take x3.toNat l).length)*8≤140737488355328)∧(Q .ret (L2 [(2,.c (sU .u64 (([]:List Int)++(List.take x3.toNat l)) (.own (.e 2 0))))] [])))))):
  A84 [1,1,0,0,0] (Z9U l x3) (xT N0 (xB 0 (S84 [1,1,1] Q))):=
 Eq.mpr (by kernel_rfl) h
def ZzQ(l:List Int):Prop:=AW (Z1 ZkL) Try.f84 Zvl [] (Zk (Ztc.can (l,())) []) (EQ Try.f84 (ZqU (l,())) [])
theorem Zy4(hb:∀ (l:List Int) (_:Unit),ZiG (l,())→ZzQ l):CT 84 Zde:=
 Z7 (l:=[]) Zm rfl trivial Zvl Try.func84 rfl rfl 1 (fun _=> rfl) (by decide) (fun ⟨l,_⟩=> hb l ())
def Zng:List (FuncId × Fs U):=[]
def Zsi:Zj U:=lvl [([0],[]),([0,4],[]),([2],[]),([2],[])]
abbrev ZDm(p:List Nat):=AW (Z1 Zng) Try.f109 Zsi p
theorem ZBf(l:List Int)(Q:QT)(h:(((l=[])→(Q .ret (L2 [(2,.c (.nils))] [])))∧(True→((([]:List Int).length+l.length)*8≤140737488355328)∧(Q .ret (L2 [(2,.c (sU .u64 (([]:List Int)++l) (.own (.e 2 0))))] []))))):
  ZDm [] (L2 [(0,.c (sU .u64 l .unk))] []) Q:=
 Eq.mpr (by kernel_rfl) h
def ZwA(l:List Int):Prop:=AW (Z1 Zng) Try.f109 Zsi [] (Zk (ZnT.can (l,())) []) (EQ Try.f109 (Zrf (l,())) [])
theorem Zvd(hb:∀ (l:List Int) (_:Unit),ZdX (l,())→ZwA l):CT 109 Z94:=
 Z7 (l:=[]) Zm rfl trivial Zsi Try.func109 rfl rfl 1 (fun _=> rfl) (by decide) (fun ⟨l,_⟩=> hb l ())
def Zhf:List (FuncId × Fs U):=[]
def ZmB:Zj U:=lvl [([0,1],[]),([0,1,10],[]),([4],[]),([0,1,12,13],[]),([0,1,12,13,14],[]),([0,1,5,12,13],[]),([0,1,12,13,24],[]),([4],[]),([0,1,12,13],[]),([4],[])]
def Z7l(a b:List Int)(x13:Int):LSt U:=(L2 [(0,.c (sU .u64 a .unk)),(1,.c (sU .u64 b .unk)),(12,.c (ci (a.length:Int))),(13,.c (ci x13))] [])
abbrev ZAr(p:List Nat):=AW (Z1 Zhf) Try.f148 ZmB p
abbrev ZBT(p:List Nat):=SW (Z1 Zhf) Try.f148 ZmB p
theorem ZAQ(a b:List Int)(Q:QT)(h:let z0:=((a.length:Int):Int) !=(b.length:Int);((z0=true→(Q .ret (L2 [(4,.c (.bool false))] [])))∧(z0=false→(Ze (ZAr [1,1,0,1,0,0]) (Z7l a b 0) (xB 0 (ZBT [1,1,1] Q)))))):
  ZAr [] (L2 [(0,.c (sU .u64 a .unk)),(1,.c (sU .u64 b .unk))] []) Q:=
 Eq.mpr (by kernel_rfl) h
theorem ZpU(a b:List Int)(x13:Int)(N0:NT)(Q:QT)(h:let z1:=decide (x13 < (a.length:Int));let z0:=((a.getD x13.toNat (0:Int)):Int) !=(b.getD x13.toNat (0:Int));((z1=true→(((0:Int)≤x13∧x13 < (a.length:Int))∧((0:Int)≤x13∧x13 < (b.length:Int))∧((z0=true→(Q .ret (L2 [(4,.c (.bool false))] [])))∧(z0=false→(InR (x13+1))∧(N0 (Z7l a b (x13+1)))))))∧(z1=false→(Q .ret (L2 [(4,.c (.bool true))] []))))):
  ZAr [1,1,0,1,0,0] (Z7l a b x13) (xT N0 (xB 0 (ZBT [1,1,1] Q))):=
 Eq.mpr (by kernel_rfl) h
def Zwb(a b:List Int):Prop:=AW (Z1 Zhf) Try.f148 ZmB [] (Zk (ZnF.can (a,b,())) []) (EQ Try.f148 (ZdF (a,b,())) [])
theorem ZuV(hb:∀ (a:List Int) (b:List Int) (_:Unit),ZdV (a,b,())→Zwb a b):CT 148 Z8Y:=
 Z7 (l:=[]) Zm rfl trivial ZmB Try.func148 rfl rfl 2 (fun _=> rfl) (by decide) (fun ⟨a,b,_⟩=> hb a b ())
def Zn6:List (FuncId × Fs U):=[]
def Zs8:Zj U:=lvl [([1,2],[2]),([1,2,13],[2]),([4],[]),([4],[])]
abbrev ZDe(p:List Nat):=AW (Z1 Zn6) Try.f149 Zs8 p
theorem ZAP(t:Tree)(i:Int)(Q:QT)(h:let z1:= !(decide (i < 0));let z0:=bif (decide (i < 0)) then true else (decide (((t.words.length:Int):Int)≤i));((Tr (z1=true))∧(Tr (z1=true))∧(Tr (z1=true))∧(Tr (z1=true))∧((decide (i < 0))=false→z1=true)∧((z0=true→(Q .ret (L2 [(4,.c (.int .u64 0))] [])))∧(z0=false→((0:Int)≤i∧i < (t.words.length:Int))∧(Q .ret (L2 [(4,.c (.int .u64 (t.words.getD i.toNat (0:Int))))] [])))))):
  ZDe [] (L2 [(0,.agg (enc .tree t)),(1,.c (ci i))] []) Q:=
 Eq.mpr (by kernel_rfl) h
def Zwa(t:Tree)(i:Int):Prop:=AW (Z1 Zn6) Try.f149 Zs8 [] (Zk (ZnE.can (t,i,())) []) (EQ Try.f149 (ZgL (t,i,())) [])
theorem ZuU(hb:∀ (t:Tree) (i:Int) (_:Unit),ZaR (t,i,())→Zwa t i):CT 149 Z29:=
 Z7 (l:=[]) Zm rfl trivial Zs8 Try.func149 rfl rfl 2 (fun _=> rfl) (by decide) (fun ⟨t,i,_⟩=> hb t i ())
def Zsv:List (FuncId × Fs U):=[]
def Zyy:Zj U:=lvl [([1,2,4],[2,4]),([1,2,4,13],[2,4]),([4],[4]),([4],[4])]
abbrev A91(p:List Nat):=AW (Z1 Zsv) Try.f91 Zyy p
theorem ZCj(t:Tree)(i:Int)(Q:QT)(h:let z1:= !(decide (i < 0));let z0:=bif (decide (i < 0)) then true else (decide (((t.kids.length:Int):Int)≤i));((Tr (z1=true))∧(Tr (z1=true))∧(Tr (z1=true))∧(Tr (z1=true))∧((decide (i < 0))=false→z1=true)∧((z0=true→(Q .ret (L2 [(4,.ptr (.loc 4) 0)] [(.loc 4,[ci 0,.nils,.nils])])))∧(z0=false→((0:Int)≤i∧i < (t.kids.length:Int))∧(Q .ret (L2 [(4,.ptr (.loc 4) 0)] [(.loc 4,(enc .tree (t.kids.getD i.toNat Tree.nil)))])))))):
  A91 [] (L2 [(0,.agg (enc .tree t)),(1,.c (ci i))] []) Q:=
 Eq.mpr (by kernel_rfl) h
def ZzO(t:Tree)(i:Int):Prop:=AW (Z1 Zsv) Try.f91 Zyy [] (Zk (Ztb.can (t,i,())) []) (EQ Try.f91 (Zm7 (t,i,())) [])
theorem Zy2(hb:∀ (t:Tree) (i:Int) (_:Unit),ZfI (t,i,())→ZzO t i):CT 91 Z4O:=
 Z7 (l:=[]) Zm rfl trivial Zyy Try.func91 rfl rfl 2 (fun _=> rfl) (by decide) (fun ⟨t,i,_⟩=> hb t i ())
def ZkW(N:Nat):List (FuncId × Fs U):=(45,fs Zli (fun a=> [Jy a,ZoU a < N]) ZfE) ::[(84,Zde)]
def Zvw:Zj U:=fun i=> match i with
 | 0=> ([(1,[]),(2,[])],[(.loc 1,[]),(.loc 2,[])])
 | 1=> ([(1,[]),(2,[]),(10,[])],[(.loc 1,[]),(.loc 2,[])])
 | 2=> ([(2,[])],[(.loc 2,[])])
 | 3=> ([(1,[]),(2,[]),(3,[])],[(.loc 1,[]),(.loc 2,[])])
 | 4=> ([(1,[]),(2,[]),(3,[]),(4,[])],[(.loc 1,[]),(.loc 2,[])])
 | 5=> ([(1,[]),(2,[]),(3,[.own .tree]),(4,[]),(5,[])],[(.loc 1,[]),(.loc 2,[])])
 | 6=> ([(1,[]),(2,[]),(3,[]),(4,[]),(5,[]),(16,[])],[(.loc 1,[]),(.loc 2,[])])
 | 7=> ([(1,[]),(2,[]),(3,[.own .tree]),(4,[]),(5,[])],[(.loc 1,[]),(.loc 2,[])])
 | 8=> ([(1,[]),(2,[]),(3,[]),(4,[]),(5,[]),(6,[])],[(.loc 1,[]),(.loc 2,[]),(.loc 6,[])])
 | 9=> ([(1,[]),(2,[]),(3,[]),(4,[]),(5,[]),(6,[])],[(.loc 1,[]),(.loc 2,[]),(.loc 6,[])])
 | 10=> ([(1,[]),(2,[]),(3,[]),(4,[]),(5,[]),(31,[])],[(.loc 1,[]),(.loc 2,[])])
 | 11=> ([(1,[]),(2,[]),(3,[]),(4,[]),(5,[])],[(.loc 1,[]),(.loc 2,[])])
 | 12=> ([(1,[]),(2,[]),(3,[]),(4,[]),(36,[])],[(.loc 1,[]),(.loc 2,[])])
 | 13=> ([(2,[])],[(.loc 2,[])])
 | 14=> ([(1,[]),(2,[]),(3,[]),(7,[])],[(.loc 1,[]),(.loc 2,[])])
 | 15=> ([(1,[]),(2,[]),(3,[]),(7,[])],[(.loc 1,[]),(.loc 2,[])])
 | 16=> ([(2,[])],[(.loc 2,[])])
 | _=> ([],[])
def Z6t(t:Tree)(x4 x5:Int)(x3:List Tree):LSt U:=(L2 [(1,.ptr (.loc 1) 0),(2,.ptr (.loc 2) 0),(3,.c (sU .tree x3 (.own (.e 3 0)))),(4,.c (ci x4)),(5,.c (ci x5))] [(.loc 1,(enc .tree t)),(.loc 2,[ci 0,.nils,.nils])])
abbrev A45(N:Nat)(p:List Nat):=AW (Z1 (ZkW N)) Try.f45 Zvw p
abbrev S45(N:Nat)(p:List Nat):=SW (Z1 (ZkW N)) Try.f45 Zvw p
theorem ZCH(N:Nat)(t:Tree)(Q:QT)(h:(((t.kind==0)=true→(Q .ret (L2 [(2,.ptr (.loc 2) 0)] [(.loc 2,[ci 0,.nils,.nils])])))∧((t.kind==0)=false→(Ze (A45 N [1,1,1,1,0,1,0,0]) (Z6t t 0 0 []) (xB 0 (S45 N [1,1,1,1,1] Q)))))):
  A45 N [] (L2 [(0,.agg (enc .tree t))] []) Q:=
 Eq.mpr (by kernel_rfl) h
theorem Zui(N:Nat)(t:Tree)(x4 x5:Int)(x3:List Tree)(N0:NT)(Q:QT)(h:∀ y_1,y_1=(t.kids.getD x5.toNat Tree.nil)→∀ y_2,y_2=y_1→∀ y_3,y_3=(Z4 y_2)→let z1:=decide (x5 < (t.kids.length:Int));let z0:=((Tree.kind (Z4 y_2)):Int) !=0;((z1=true→((0:Int)≤x5∧x5 < (t.kids.length:Int))∧(Jy (y_2,()))∧(ZoU (y_2,()) < N)∧(((x3.length+([y_3]).length)*56≤140737488355328)∧((z0=true→(InR (x5+1))∧((InR (x5+1))∧(N0 (Z6t t (x5+1) (x5+1) (x3++([y_3]))))))∧(z0=false→(InR (x5+1))∧(N0 (Z6t t x4 (x5+1) (x3++([y_3]))))))))∧(z1=false→(((t.kind==1)=true→(ZiG (t.words,()))∧((0:Int)≤x4∧x4≤(x3.length:Int))∧(Q .ret (L2 [(2,.ptr (.loc 2) 0)] [(.loc 2,[ci 1,sU .u64 (trim t.words) .unk,sU .tree (List.take x4.toNat x3) .unk])])))∧((t.kind==1)=false→(((([]:List Int).length+t.words.length)*8≤140737488355328)∧(Q .ret (L2 [(2,.ptr (.loc 2) 0)] [(.loc 2,[ci t.kind,sU .u64 (([]:List Int)++t.words) (.own (.l 2 1)),sU .tree x3 (.own (.l 2 2))])])))))))):
  A45 N [1,1,1,1,0,1,0,0] (Z6t t x4 x5 x3) (xT N0 (xB 0 (S45 N [1,1,1,1,1] Q))):=
 Eq.mpr (by kernel_rfl) (h _ rfl _ (Zb _) _ (Zb _))
def ZAc(N:Nat)(t:Tree):Prop:=AW (Z1 (ZkW N)) Try.f45 Zvw [] (Zk (Zli.can (t,())) []) (EQ Try.f45 (ZfE (t,())) [])
theorem Zyk(c84:CT 84 Zde)(hb:∀ (N:Nat) (t:Tree) (_:Unit),Jy (t,())→ZoU (t,()) < N+1→ZAc N t):CT 45 Z0b:=
 YB (μ:=ZoU) (l:=[(84,Zde)]) Zm rfl (⟨c84,trivial⟩) Zvw Try.func45 rfl rfl 1 (fun _=> rfl) (by decide) (fun N ⟨t,_⟩=> hb N t ())
def ZkO(N:Nat):List (FuncId × Fs U):=(71,fs Zlg (fun a=> [Z1e a,ZoS a < N]) ZfD) ::[(109,Z94)]
def Zvo:Zj U:=fun i=> match i with
 | 0=> ([(1,[]),(2,[])],[(.loc 1,[]),(.loc 2,[])])
 | 1=> ([(1,[]),(2,[]),(8,[])],[(.loc 1,[]),(.loc 2,[])])
 | 2=> ([(2,[])],[(.loc 2,[])])
 | 3=> ([(1,[]),(2,[]),(3,[])],[(.loc 1,[]),(.loc 2,[]),(.loc 3,[])])
 | 4=> ([(1,[]),(2,[]),(3,[]),(17,[]),(18,[]),(19,[])],[(.loc 1,[]),(.loc 2,[]),(.loc 3,[.any,.any,.own .tree])])
 | 5=> ([(1,[]),(2,[]),(3,[]),(17,[]),(18,[]),(19,[]),(20,[])],[(.loc 1,[]),(.loc 2,[]),(.loc 3,[])])
 | 6=> ([(1,[]),(2,[]),(3,[]),(5,[]),(17,[]),(18,[]),(19,[])],[(.loc 1,[]),(.loc 2,[]),(.loc 3,[]),(.loc 5,[])])
 | 7=> ([(1,[]),(2,[]),(3,[]),(17,[]),(18,[]),(19,[])],[(.loc 1,[]),(.loc 2,[]),(.loc 3,[])])
 | 8=> ([(1,[]),(2,[]),(3,[]),(17,[]),(18,[]),(19,[])],[(.loc 1,[]),(.loc 2,[]),(.loc 3,[.any,.any,.own .tree])])
 | 9=> ([(2,[]),(3,[]),(33,[])],[(.loc 2,[]),(.loc 3,[.any,.any,.unk .tree])])
 | 10=> ([(2,[]),(3,[]),(33,[]),(48,[])],[(.loc 2,[]),(.loc 3,[.any,.any,.unk .tree])])
 | 11=> ([(2,[]),(3,[]),(33,[])],[(.loc 2,[]),(.loc 3,[.any,.any,.unk .tree])])
 | 12=> ([(2,[]),(3,[]),(33,[]),(48,[]),(72,[])],[(.loc 2,[]),(.loc 3,[])])
 | 13=> ([(2,[]),(3,[]),(33,[]),(48,[])],[(.loc 2,[]),(.loc 3,[.any,.any,.unk .tree])])
 | 14=> ([(2,[])],[(.loc 2,[])])
 | _=> ([],[])
def Z9Z(t:Tree)(x19:Int)(ml3_2:List Tree):LSt U:=(L2 [(1,.ptr (.loc 1) 0),(2,.ptr (.loc 2) 0),(3,.ptr (.loc 3) 0),(17,.c (sU .tree t.kids .unk)),(18,.c (ci (t.kids.length:Int))),(19,.c (ci x19))] [(.loc 1,(enc .tree t)),(.loc 2,[ci 0,.nils,.nils]),(.loc 3,[ci t.kind,sU .u64 t.words .unk,sU .tree ml3_2 (.own (.l 3 2))])])
def Z9Y(t:Tree)(ml3_2:List Tree)(ml3_1_a:List Int):LSt U:=(L2 [(2,.ptr (.loc 2) 0),(3,.ptr (.loc 3) 0),(33,.c (.bool ((t.kind:Int)==1)))] [(.loc 2,[ci 0,.nils,.nils]),(.loc 3,[ci t.kind,sU .u64 ml3_1_a .unk,sU .tree ml3_2 .unk])])
def Z9X(t:Tree)(ml3_1_a:List Int)(ml3_2_b:List Tree):LSt U:=(L2 [(2,.ptr (.loc 2) 0),(3,.ptr (.loc 3) 0),(33,.c (.bool ((t.kind:Int)==1))),(48,.c (.bool (bif (decide ((0:Int) < (ml3_1_a.length:Int))) then (((List.getD ml3_1_a (Int.toNat (((ml3_1_a.length:Int):Int) - 1)) (0:Int)):Int)==0) else false)))] [(.loc 2,[ci 0,.nils,.nils]),(.loc 3,[ci t.kind,sU .u64 ml3_1_a .unk,sU .tree ml3_2_b .unk])])
abbrev A71(N:Nat)(p:List Nat):=AW (Z1 (ZkO N)) Try.f71 Zvo p
abbrev S71(N:Nat)(p:List Nat):=SW (Z1 (ZkO N)) Try.f71 Zvo p
theorem ZCr(N:Nat)(t:Tree)(Q:QT)(h:(((t.kind==0)=true→(Q .ret (L2 [(2,.ptr (.loc 2) 0)] [(.loc 2,[ci 0,.nils,.nils])])))∧((t.kind==0)=false→(ZdX (t.words,()))∧(Ze (A71 N [1,1,1,0,1,0,0]) (Z9Z t 0 []) (xB 0 (S71 N [1,1,1,1] Q)))))):
  A71 N [] (L2 [(0,.agg (enc .tree t))] []) Q:=
 Eq.mpr (by kernel_rfl) h
theorem Zu4(N:Nat)(t:Tree)(x19:Int)(ml3_2:List Tree)(N0:NT)(Q:QT)(h:∀ y_1,y_1=(t.kids.getD x19.toNat Tree.nil)→∀ y_2,y_2=y_1→∀ y_3,y_3=(Z4 y_2)→let z0:=decide (x19 < (t.kids.length:Int));((z0=true→((0:Int)≤x19∧x19 < (t.kids.length:Int))∧((Z1e (y_2,()))∧(ZoS (y_2,()) < N)∧((ml3_2.length+([y_3]).length)*56≤140737488355328)∧((InR (x19+1))∧(N0 (Z9Z t (x19+1) (ml3_2++([y_3])))))))∧(z0=false→(((t.kind==1)=true→Ze (A71 N [1,1,1,1,0,1,0,0,0,0]) (Z9Y t ml3_2 t.words) (xB 2 (S71 N [1,1,1,1,0,1,0,1] (S71 N [1,1,1,1,1] Q))))∧((t.kind==1)=false→(Q .ret (L2 [(2,.ptr (.loc 2) 0)] [(.loc 2,[ci t.kind,sU .u64 t.words .unk,sU .tree ml3_2 .unk])]))))))):
  A71 N [1,1,1,0,1,0,0] (Z9Z t x19 ml3_2) (xT N0 (xB 0 (S71 N [1,1,1,1] Q))):=
 Eq.mpr (by kernel_rfl) (h _ rfl _ (Zb _) _ (Zb _))
theorem Zu3(N:Nat)(t:Tree)(ml3_2:List Tree)(ml3_1_a:List Int)(N1:NT)(Q:QT)(h:let z0:=decide ((0:Int) < (ml3_1_a.length:Int));let z1:=bif z0 then (((List.getD ml3_1_a (Int.toNat (((ml3_1_a.length:Int):Int) - 1)) (0:Int)):Int)==0) else false;(Tr (z0=true))∧(Tr (z0=true))∧(Tr (z0=true))∧(Tr (z0=true))∧(z0=true→InR (((ml3_1_a.length:Int):Int) - 1))∧(Tr (z0=true))∧(Tr (z0=true))∧(z0=true→(0:Int)≤(((ml3_1_a.length:Int):Int) - 1)∧(((ml3_1_a.length:Int):Int) - 1) < (ml3_1_a.length:Int))∧(Tr (z0=true))∧(Tr (z0=true))∧(Tr (z0=true))∧((z1=true→(InR (((ml3_1_a.length:Int):Int) - 1))∧((0:Int)≤(((ml3_1_a.length:Int):Int) - 1)∧(((ml3_1_a.length:Int):Int) - 1)≤(ml3_1_a.length:Int))∧(N1 (Z9Y t ml3_2 (List.take (Int.toNat (((ml3_1_a.length:Int):Int) - 1)) ml3_1_a))))∧(z1=false→Ze (A71 N [1,1,1,1,0,1,0,1,0,0]) (Z9X t ml3_1_a ml3_2) (xB 4 (S71 N [1,1,1,1,1] Q))))):
  A71 N [1,1,1,1,0,1,0,0,0,0] (Z9Y t ml3_2 ml3_1_a) (xT N1 (xB 2 (S71 N [1,1,1,1,0,1,0,1] (S71 N [1,1,1,1,1] Q)))):=
 Eq.mpr (by kernel_rfl) h
theorem Zu2(N:Nat)(t:Tree)(ml3_1_a:List Int)(ml3_2_b:List Tree)(N2:NT)(Q:QT)(h:let z0:=decide ((0:Int) < (ml3_2_b.length:Int));let z1:=bif z0 then (((Tree.kind (List.getD ml3_2_b (Int.toNat (((ml3_2_b.length:Int):Int) - 1)) Tree.nil)):Int)==0) else false;(Tr (z0=true))∧(Tr (z0=true))∧(Tr (z0=true))∧(Tr (z0=true))∧(z0=true→InR (((ml3_2_b.length:Int):Int) - 1))∧(Tr (z0=true))∧(Tr (z0=true))∧(z0=true→(0:Int)≤(((ml3_2_b.length:Int):Int) - 1)∧(((ml3_2_b.length:Int):Int) - 1) < (ml3_2_b.length:Int))∧(Tr (z0=true))∧(Tr (z0=true))∧(Tr (z0=true))∧(Tr (z0=true))∧((z1=true→(InR (((ml3_2_b.length:Int):Int) - 1))∧((0:Int)≤(((ml3_2_b.length:Int):Int) - 1)∧(((ml3_2_b.length:Int):Int) - 1)≤(ml3_2_b.length:Int))∧(N2 (Z9X t ml3_1_a (List.take (Int.toNat (((ml3_2_b.length:Int):Int) - 1)) ml3_2_b))))∧(z1=false→(Q .ret (L2 [(2,.ptr (.loc 2) 0)] [(.loc 2,[ci t.kind,sU .u64 ml3_1_a .unk,sU .tree ml3_2_b .unk])]))))):
  A71 N [1,1,1,1,0,1,0,1,0,0] (Z9X t ml3_1_a ml3_2_b) (xT N2 (xB 4 (S71 N [1,1,1,1,1] Q))):=
 Eq.mpr (by kernel_rfl) h
def ZzW(N:Nat)(t:Tree):Prop:=AW (Z1 (ZkO N)) Try.f71 Zvo [] (Zk (Zlg.can (t,())) []) (EQ Try.f71 (ZfD (t,())) [])
theorem Zy9(Zzk:CT 109 Z94)(hb:∀ (N:Nat) (t:Tree) (_:Unit),Z1e (t,())→ZoS (t,()) < N+1→ZzW N t):CT 71 Z0x:=
 YB (μ:=ZoS) (l:=[(109,Z94)]) Zm rfl (⟨Zzk,trivial⟩) Zvo Try.func71 rfl rfl 1 (fun _=> rfl) (by decide) (fun N ⟨t,_⟩=> hb N t ())
def ZkX(N:Nat):List (FuncId × Fs U):=(29,fs Zlk (fun a=> [Z3A a,ZoV a < N]) ZfF) ::[(75,Zdh)]
def Zvx:Zj U:=lvl [([2,3],[2,3]),([2,3,27],[2,3]),([4],[]),([2,3,5],[2,3]),([2,3,5,32],[2,3]),([2,3,5],[2,3]),([2,3,5,46],[2,3]),([4],[]),([4],[])]
def Zaa(a b:Tree)(x5:Int):LSt U:=(L2 [(2,.ptr (.loc 2) 0),(3,.ptr (.loc 3) 0),(5,.c (ci x5))] [(.loc 2,(enc .tree a)),(.loc 3,(enc .tree b))])
abbrev A29(N:Nat)(p:List Nat):=AW (Z1 (ZkX N)) Try.f29 Zvx p
abbrev S29(N:Nat)(p:List Nat):=SW (Z1 (ZkX N)) Try.f29 Zvx p
theorem ZCK(N:Nat)(a b:Tree)(Q:QT)(h:let z1:=a.kind !=b.kind;let z0:=bif z1 then true else (!(decide (a.words=b.words)));let z2:=bif z0 then true else (((a.kids.length:Int):Int) !=(b.kids.length:Int));((Tr ((!z1)=true))∧(Tr ((!z1)=true))∧(Tr ((!z1)=true))∧(Tr ((!z1)=true))∧((!z1)=true→ZfK (a.words,b.words,()))∧(Tr ((!z1)=true))∧(z1=false→(!z1)=true)∧(Tr ((!z0)=true))∧(Tr ((!z0)=true))∧(Tr ((!z0)=true))∧(Tr ((!z0)=true))∧(Tr ((!z0)=true))∧(Tr ((!z0)=true))∧(z0=false→(!z0)=true)∧((z2=true→(Q .ret (L2 [(4,.c (.bool false))] [])))∧(z2=false→(Ze (A29 N [1,1,0,1,0,0]) (Zaa a b 0) (xB 0 (S29 N [1,1,1] Q))))))):
  A29 N [] (L2 [(0,.agg (enc .tree a)),(1,.agg (enc .tree b))] []) Q:=
 Eq.mpr (by kernel_rfl) h
theorem Zul(N:Nat)(a b:Tree)(x5:Int)(N0:NT)(Q:QT)(h:∀ y_1,y_1=(a.kids.getD x5.toNat Tree.nil)→∀ y_2,y_2=(b.kids.getD x5.toNat Tree.nil)→∀ y_3,y_3=y_1→∀ y_4,y_4=y_2→let z0:=decide (x5 < (a.kids.length:Int));((z0=true→((0:Int)≤x5∧x5 < (a.kids.length:Int))∧((0:Int)≤x5∧x5 < (b.kids.length:Int))∧(Z3A (y_3,y_4,()))∧(ZoV (y_3,y_4,()) < N)∧(((!(YF y_3 y_4))=true→(Q .ret (L2 [(4,.c (.bool false))] [])))∧((!(YF y_3 y_4))=false→(InR (x5+1))∧(N0 (Zaa a b (x5+1))))))∧(z0=false→(Q .ret (L2 [(4,.c (.bool true))] []))))):
  A29 N [1,1,0,1,0,0] (Zaa a b x5) (xT N0 (xB 0 (S29 N [1,1,1] Q))):=
 Eq.mpr (by kernel_rfl) (h _ rfl _ rfl _ (Zb _) _ (Zb _))
def ZAf(N:Nat)(a b:Tree):Prop:=AW (Z1 (ZkX N)) Try.f29 Zvx [] (Zk (Zlk.can (a,b,())) []) (EQ Try.f29 (ZfF (a,b,())) [])
theorem Zym(c75:CT 75 Zdh)(hb:∀ (N:Nat) (a:Tree) (b:Tree) (_:Unit),Z3A (a,b,())→ZoV (a,b,()) < N+1→ZAf N a b):CT 29 Z2X:=
 YB (μ:=ZoV) (l:=[(75,Zdh)]) Zm rfl (⟨c75,trivial⟩) Zvx Try.func29 rfl rfl 2 (fun _=> rfl) (by decide) (fun N ⟨a,b,_⟩=> hb N a b ())
def Zht(N:Nat):List (FuncId × Fs U):=(106,fs ZhR (fun a=> [Z1Z a,ZfV a < N]) Z8k) ::[(148,Z8Y),(149,Z29),(91,Z4O)]
def ZmP:Zj U:=lvl [([2,3],[2,3]),([2,3,16],[2,3]),([4],[]),([2,3,41],[2,3]),([4],[]),([2,3,48,49],[2,3]),([2,3,48,49,50],[2,3]),([2,3,5,48,49],[2,3]),([2,3,48,49,58],[2,3]),([4],[]),([2,3,48,49],[2,3]),([2,3,66,67],[2,3]),([2,3,66,67,68],[2,3]),([2,3,6,66,67],[2,3]),([2,3,66,67,77],[2,3]),([4],[]),([2,3,66,67],[2,3]),([4],[])]
def Z7C(a b:Tree)(x49:Int):LSt U:=(L2 [(2,.ptr (.loc 2) 0),(3,.ptr (.loc 3) 0),(48,.c (ci (if ((a.words.length:Int):Int) < (b.words.length:Int) then (b.words.length:Int) else (a.words.length:Int)))),(49,.c (ci x49))] [(.loc 2,(enc .tree a)),(.loc 3,(enc .tree b))])
def Z7B(a b:Tree)(x67_a:Int):LSt U:=(L2 [(2,.ptr (.loc 2) 0),(3,.ptr (.loc 3) 0),(66,.c (ci (if ((a.kids.length:Int):Int) < (b.kids.length:Int) then (b.kids.length:Int) else (a.kids.length:Int)))),(67,.c (ci x67_a))] [(.loc 2,(enc .tree a)),(.loc 3,(enc .tree b))])
abbrev ZtK(N:Nat)(p:List Nat):=AW (Z1 (Zht N)) Try.f106 ZmP p
abbrev ZvW(N:Nat)(p:List Nat):=SW (Z1 (Zht N)) Try.f106 ZmP p
theorem ZBi(N:Nat)(a b:Tree)(Q:QT)(h:let z3:=a.kind !=b.kind;let z4:=bif z3 then true else (a.kind==0);let z0:=((a.kids.length:Int):Int) !=(b.kids.length:Int);let z2:=bif (a.kind !=1) then (bif z0 then true else (!(decide (a.words=b.words)))) else false;let z1:=(a.kind !=1) && (!z0);((Tr ((!z3)=true))∧(Tr ((!z3)=true))∧(z3=false→(!z3)=true)∧((z4=true→(Q .ret (L2 [(4,.c (.bool (a.kind==b.kind)))] [])))∧(z4=false→(Tr ((a.kind !=1)=true))∧(Tr ((a.kind !=1)=true))∧(Tr ((a.kind !=1)=true))∧(Tr ((a.kind !=1)=true))∧(Tr ((a.kind !=1)=true))∧(Tr ((a.kind !=1)=true))∧(Tr ((a.kind !=1)=true))∧(Tr (z1=true))∧(Tr (z1=true))∧(Tr (z1=true))∧(Tr (z1=true))∧(z1=true→ZdV (a.words,b.words,()))∧(Tr (z1=true))∧((a.kind !=1)=true→(True→(a.kind !=1)=true))∧((a.kind !=1)=true→(z0=false→z1=true))∧(Tr ((a.kind !=1)=true))∧((z2=true→(Q .ret (L2 [(4,.c (.bool false))] [])))∧(z2=false→(Ze (ZtK N [1,1,1,0,1,0,0]) (Z7C a b 0) (xB 0 (ZvW N [1,1,1,1] Q))))))))):
  ZtK N [] (L2 [(0,.agg (enc .tree a)),(1,.agg (enc .tree b))] []) Q:=
 Eq.mpr (by kernel_rfl) h
theorem Zqr(N:Nat)(a b:Tree)(x49:Int)(N0:NT)(Q:QT)(h:let z3:=Tree.mk b.kind b.words b.kids;let z2:=Tree.mk a.kind a.words a.kids;let z1:=((YC z2 x49):Int) !=(YC z3 x49);let z0:=decide (x49 < (if ((a.words.length:Int):Int) < (b.words.length:Int) then (b.words.length:Int) else (a.words.length:Int)));((z0=true→((ZaR (z2,x49,()))∧(ZaR (z3,x49,()))∧((z1=true→(Q .ret (L2 [(4,.c (.bool false))] [])))∧(z1=false→(InR (x49+1))∧(N0 (Z7C a b (x49+1)))))))∧(z0=false→(Ze (ZtK N [1,1,1,1,0,1,0,0]) (Z7B a b 0) (xB 2 (ZvW N [1,1,1,1,1] Q)))))):
  ZtK N [1,1,1,0,1,0,0] (Z7C a b x49) (xT N0 (xB 0 (ZvW N [1,1,1,1] Q))):=
 Eq.mpr (by kernel_rfl) h
theorem Zqq(N:Nat)(a b:Tree)(x67_a:Int)(N1:NT)(Q:QT)(h:∀ y_1,y_1=a→∀ y_2,y_2=b→∀ y_3,y_3=(JA y_1 x67_a)→∀ y_4,y_4=(JA y_2 x67_a)→let z1:= !(YF (Z4 y_3) (Z4 y_4));let z0:=decide (x67_a < (if ((a.kids.length:Int):Int) < (b.kids.length:Int) then (b.kids.length:Int) else (a.kids.length:Int)));((z0=true→((ZfI (y_1,x67_a,()))∧(ZfI (y_2,x67_a,()))∧(Z1Z (y_3,y_4,()))∧(ZfV (y_3,y_4,()) < N)∧((z1=true→(Q .ret (L2 [(4,.c (.bool false))] [])))∧(z1=false→(InR (x67_a+1))∧(N1 (Z7B a b (x67_a+1)))))))∧(z0=false→(Q .ret (L2 [(4,.c (.bool true))] []))))):
  ZtK N [1,1,1,1,0,1,0,0] (Z7B a b x67_a) (xT N1 (xB 2 (ZvW N [1,1,1,1,1] Q))):=
 Eq.mpr (by kernel_rfl) (h _ (Zb _) _ (Zb _) _ (Zb _) _ (Zb _))
def ZwD(N:Nat)(a b:Tree):Prop:=AW (Z1 (Zht N)) Try.f106 ZmP [] (Zk (ZhR.can (a,b,())) []) (EQ Try.f106 (Z8k (a,b,())) [])
theorem Zve(Zz5:CT 148 Z8Y)(Zpm:CT 149 Z29)(c91:CT 91 Z4O)(hb:∀ (N:Nat) (a:Tree) (b:Tree) (_:Unit),Z1Z (a,b,())→ZfV (a,b,()) < N+1→ZwD N a b):CT 106 Jl:=
 YB (μ:=ZfV) (l:=[(148,Z8Y),(149,Z29),(91,Z4O)]) Zm rfl (⟨Zz5,Zpm,c91,trivial⟩) ZmP Try.func106 rfl rfl 2 (fun _=> rfl) (by decide) (fun N ⟨a,b,_⟩=> hb N a b ())
def Zn9:List (FuncId × Fs U):=[(45,Z0b),(29,Z2X)]
def Zsb:Zj U:=lvl [([2,3],[2,3]),([4],[])]
abbrev ZDh(p:List Nat):=AW (Z1 Zn9) Try.f137 Zsb p
theorem ZB1(a b:Tree)(Q:QT)(h:let z5:=Tree.mk a.kind a.words a.kids;let z4:=Tree.mk b.kind b.words b.kids;let z1:=Z4 z4;let z3:=Tree.mk (Tree.kind z1) (Tree.words z1) (Tree.kids z1);let z0:=Z4 z5;let z2:=Tree.mk (Tree.kind z0) (Tree.words z0) (Tree.kids z0);((Jy (z5,()))∧(Jy (z4,()))∧(Z3A (z2,z3,()))∧(Q .ret (L2 [(4,.c (.bool (YF z2 z3)))] [])))):
  ZDh [] (L2 [(0,.agg (enc .tree a)),(1,.agg (enc .tree b))] []) Q:=
 Eq.mpr (by kernel_rfl) h
def Zwm(a b:Tree):Prop:=AW (Z1 Zn9) Try.f137 Zsb [] (Zk (ZnM.can (a,b,())) []) (EQ Try.f137 (Zr9 (a,b,())) [])
theorem Zv3(c45:CT 45 Z0b)(c29:CT 29 Z2X)(hb:∀ (a:Tree) (b:Tree) (_:Unit),Z65 (a,b,())→Zwm a b):CT 137 Z0Y:=
 Z7 (l:=[(45,Z0b),(29,Z2X)]) Zm rfl (⟨c45,c29,trivial⟩) Zsb Try.func137 rfl rfl 2 (fun _=> rfl) (by decide) (fun ⟨a,b,_⟩=> hb a b ())
end
end Go.AM.Ytpjenobkibfpcaa
namespace Go.AM.Ytpjenobkibfpcaa
open Go.AM Go.Proofs
theorem vcU:(∀ {p q:Prop},(p→q→p∧q)=True)∧(∀ {p:Prop},(True∧p)=p)∧(∀ {p:Prop},(p∧True)=p)∧(∀ {p:Prop},(p→True)=True):=
 ⟨by intros;simp+contextual,by simp,by simp,by simp⟩
theorem Zdt:∀ {ks:List Tree} {i:Nat},Z3P ks→i < ks.length→Z5P (ks.getD i Tree.nil)
 | t ::_,0,h,_=> by simp only [Z3P] at h;exact h.1
 | _ ::r,i+1,h,hi=> by simp only [Z3P] at h;exact Zdt (ks:=r) (i:=i) h.2 (by simpa using hi)
theorem Z0O:∀ {ks:List Tree} {i:Nat},i < ks.length→Zo (ks.getD i Tree.nil)≤Zf ks
 | t ::_,0,_=> by simp only [Zf,List.getD_cons_zero];omega
 | t ::r,i+1,h=> by
  have:=Z0O (ks:=r) (i:=i) (by simpa using h)
  simp only [Zf,List.getD_cons_succ]
  omega
mutual
theorem YZ:∀ (t:Tree) (d l:Int),-1≤ZZ t d l∧ZZ t d l≤max l (-1)
 | .mk _ w ks,d,l=> by
  simp only [ZZ]
  split
  ·omega
  ·have:=Z0Z ks (d - 1) (l - 1 - w.length) (by omega)
   omega
theorem Z0Z:∀ (ks:List Tree) (d l:Int),-1≤l→-1≤Zw ks d l∧Zw ks d l≤l
 | [],d,l,h=> by simp only [Zw];omega
 | t ::r,d,l,h=> by
  simp only [Zw]
  split
  ·omega
  ·have h1:=YZ t d l
   have h2:=Z0Z r d (ZZ t d l) h1.1
   omega
end
theorem ZeZ{ks:List Tree}{i:Nat}{d l:Int}(h:i < ks.length)(hl:0≤l):Zw (ks.drop i) d l=Zw (ks.drop (i+1)) d (ZZ (ks.getD i Tree.nil) d l):=by
 rw [List.drop_eq_getElem_cons h]
 simp only [Zw]
 rw [if_neg (by omega)]
 simp [List.getD,h]
theorem c78:Contract Try.prog cfg 78 Zdg:=by
 refine Zy7 ?_
 rintro N ⟨k,ws,ks⟩ d l _ ⟨hs,h1,h2,h3,h4⟩ hN
 simp only [Z5P,ZoR,Zo] at*
 refine ZCo N _ _ _ _ ?_;(try simp only [vcT,forall_eq])
 (simp only [vcS]);(try simp only [vcT])
 try (simp only [Tree.eta,Edit.eta,Tree.kind_mk,Tree.words_mk,Tree.kids_mk])
 refine ⟨by unfold InR;omega,by unfold InR;omega,fun hc=> ?_,fun hc=> ?_⟩
 ·have e:ZZ (.mk k ws ks) d l= -1:=by
   simp only [ZZ]
   rw [if_pos (by omega)]
  simp only [Ziy,e]
  exact ⟨⟨rfl,⟨⟨rfl,rfl⟩,trivial⟩,trivial⟩,trivial⟩
 ·have e:ZZ (.mk k ws ks) d l=Zw ks (d - 1) (l - 1 - ws.length):=by
   simp only [ZZ]
   rw [if_neg (by omega)]
  simp only [Ziy,e]
  refine Z6 (ι:=Int × Int) (fun p=> Z9V (.mk k ws ks) d l p.1 p.2) (fun p=> 0≤p.2∧p.2≤ks.length∧-1≤p.1∧p.1≤l∧Zw (ks.drop p.2.toNat) (d - 1) p.1=Zw ks (d - 1) (l - 1 - ws.length)) (fun p=> ((ks.length:Int) - p.2).toNat) (l - 1 - ws.length,0) rfl ⟨by omega,by omega,by omega,by omega,by simp⟩ ?_
  rintro ⟨l',i⟩ ⟨h5,h6,h7,h8,h9⟩
  dsimp only at*
  refine ZtY N _ _ _ _ _ _ _ ?_;(try simp only [vcT,forall_eq])
  (simp only [vcS]);(try simp only [vcT])
  try (simp only [Tree.eta,Edit.eta,Tree.kind_mk,Tree.words_mk,Tree.kids_mk])
  refine ⟨fun hc=> ?_,fun hc=> ?_⟩
  ·have hi:i.toNat < ks.length:=by omega
   have hr:=YZ (ks.getD i.toNat Tree.nil) (d - 1) l'
   have hn:=Z0O hi
   have hd:=ZeZ (d:=d - 1) hi hc.2
   refine ⟨by omega,by unfold InR;omega,⟨Zdt hs.2.2 hi,by dsimp only;omega,by dsimp only;omega,by dsimp only;omega,by dsimp only;omega⟩,by simp only [ZoR];omega,by unfold InR;omega,⟨(ZZ (ks.getD i.toNat Tree.nil) (d - 1) l',i+1),rfl,⟨by dsimp only;omega,by dsimp only;omega,by dsimp only;omega,by dsimp only;omega,?_⟩,by dsimp only;omega⟩⟩
   dsimp only
   rw [←h9,hd]
   congr 2
   omega
  ·have e:Zw ks (d - 1) (l - 1 - ws.length)=l':=by
    rw [←h9]
    by_cases hi:i < ks.length
    ·rw [List.drop_eq_getElem_cons (by omega)]
     simp only [Zw]
     rw [if_pos (by omega)]
    ·rw [List.drop_eq_nil_of_le (by omega)]
     simp only [Zw]
   rw [e]
   exact ⟨⟨rfl,⟨⟨rfl,rfl⟩,trivial⟩,trivial⟩,trivial⟩
theorem Zzk:Contract Try.prog cfg 109 Z94:=by
 refine Zvd ?_
 intro l _ hp
 refine ZBf _ _ ?_;(try simp only [vcT,forall_eq])
 simp only [ZdX] at hp
 refine ⟨fun h=> ?_,⟨by simp only [List.length_nil];omega,?_⟩⟩
 ·subst h
  exact ⟨⟨rfl,⟨rfl,trivial⟩,trivial⟩,trivial⟩
 ·exact ⟨⟨rfl,⟨⟨rfl,trivial⟩,trivial⟩,trivial⟩,trivial⟩
theorem ZcO{a b:List Int}{i:Int}(hi:0≤i)(ha:i < a.length)(hb:i < b.length):(a.drop i.toNat=b.drop i.toNat)↔(a.getD i.toNat 0=b.getD i.toNat 0∧a.drop (i+1).toNat=b.drop (i+1).toNat):=by
 have e:(i+1).toNat=i.toNat+1:=by omega
 rw [List.drop_eq_getElem_cons (by omega),List.drop_eq_getElem_cons (l:=b) (by omega),e]
 simp only [List.cons.injEq,List.getD,List.getElem?_eq_getElem (show i.toNat < a.length by omega),List.getElem?_eq_getElem (show i.toNat < b.length by omega),Option.getD_some]
theorem c75:Contract Try.prog cfg 75 Zdh:=by
 refine Zy8 ?_
 intro a b _ hp
 simp only [ZfK] at hp
 refine ZCq _ _ _ ?_;(try simp only [vcT,forall_eq])
 (simp only [vcS]);(try simp only [vcT])
 refine ⟨fun hc=> ?_,fun hc=> ?_⟩
 ·have e:decide (a=b)=false:=by
   simp only [decide_eq_false_iff_not]
   rintro rfl
   omega
  simp only [Ziz,e]
  exact ⟨⟨rfl,⟨rfl,trivial⟩,trivial⟩,trivial⟩
 ·have hl:a.length=b.length:=by omega
  refine Z6 (ι:=Int) (fun p=> Z9W a b p) (fun p=> 0≤p∧p≤a.length∧(a=b↔a.drop p.toNat=b.drop p.toNat)) (fun p=> ((a.length:Int) - p).toNat) 0 rfl ⟨by omega,by omega,by simp⟩ ?_
  rintro i ⟨h1,h2,h3⟩
  refine Zu1 _ _ _ _ _ ?_;(try simp only [vcT,forall_eq])
  (simp only [vcS]);(try simp only [vcT])
  refine ⟨fun hc=> ⟨by omega,by omega,fun hn=> ?_,fun he=> ⟨by unfold InR;omega,i+1,rfl,⟨by omega,by omega,?_⟩,by omega⟩⟩,fun hc=> ?_⟩
  ·have e:decide (a=b)=false:=by
    simp only [decide_eq_false_iff_not,h3]
    rw [ZcO h1 hc (by omega)]
    exact fun h=> hn h.1
   simp only [Ziz,e]
   exact ⟨⟨rfl,⟨rfl,trivial⟩,trivial⟩,trivial⟩
  ·rw [h3,ZcO h1 hc (by omega)]
   exact ⟨fun h=> h.2,fun h=> ⟨by simpa using he,h⟩⟩
  ·have e:decide (a=b)=true:=by
    simp only [decide_eq_true_eq,h3]
    rw [List.drop_eq_nil_of_le (by omega),List.drop_eq_nil_of_le (by omega)]
   simp only [Ziz,e]
   exact ⟨⟨rfl,⟨rfl,trivial⟩,trivial⟩,trivial⟩
theorem Zpm:Contract Try.prog cfg 149 Z29:=by
 refine ZuU ?_
 intro t i _ hp
 refine ZAP _ _ _ ?_;(try simp only [vcT,forall_eq])
 (simp only [vcS]);(try simp only [vcT])
 (repeat (refine And.intro (by first | omega | (unfold InR;omega) | (dsimp only;omega)) ?_))
 refine ⟨fun hc=> ?_,fun hc=> ⟨by omega,?_⟩⟩
 ·have e:YC t i=0:=by
   unfold YC
   split
   ·try rfl
   ·rw [List.getD,List.getElem?_eq_none (by omega)]
    try rfl
  simp only [ZgL,e]
  exact ⟨⟨rfl,⟨⟨rfl,rfl⟩,trivial⟩,trivial⟩,trivial⟩
 ·have e:YC t i=t.words.getD i.toNat 0:=by
   unfold YC
   rw [if_neg (by omega)]
  simp only [ZgL,e]
  exact ⟨⟨rfl,⟨⟨rfl,rfl⟩,trivial⟩,trivial⟩,trivial⟩
theorem c91:Contract Try.prog cfg 91 Z4O:=by
 refine Zy2 ?_
 intro t i _ hp
 refine ZCj _ _ _ ?_;(try simp only [vcT,forall_eq])
 (simp only [vcS]);(try simp only [vcT])
 (repeat (refine And.intro (by first | omega | (unfold InR;omega) | (dsimp only;omega)) ?_))
 refine ⟨fun hc=> ?_,fun hc=> ⟨by omega,?_⟩⟩
 ·have e:JA t i=Tree.nil:=by
   unfold JA
   split
   ·try rfl
   ·rw [List.getD,List.getElem?_eq_none (by omega)]
    try rfl
  simp only [Zm7,e]
  exact ⟨⟨rfl,⟨⟨rfl,rfl⟩,⟨rfl,⟨rfl,trivial⟩⟩⟩,trivial⟩,trivial⟩
 ·have e:JA t i=t.kids.getD i.toNat Tree.nil:=by
   unfold JA
   rw [if_neg (by omega)]
  simp only [Zm7,e]
  exact ⟨⟨rfl,⟨⟨rfl,rfl⟩,⟨rfl,trivial⟩,⟨rfl,trivial⟩,trivial⟩,trivial⟩,trivial⟩
theorem Zz5:Contract Try.prog cfg 148 Z8Y:=by
 refine ZuV ?_
 intro a b _ hp
 simp only [ZdV] at hp
 refine ZAQ _ _ _ ?_;(try simp only [vcT,forall_eq])
 (simp only [vcS]);(try simp only [vcT])
 refine ⟨fun hc=> ?_,fun hc=> ?_⟩
 ·have e:decide (a=b)=false:=by
   simp only [decide_eq_false_iff_not]
   rintro rfl
   omega
  simp only [ZdF,e]
  exact ⟨⟨rfl,⟨rfl,trivial⟩,trivial⟩,trivial⟩
 ·have hl:a.length=b.length:=by omega
  refine Z6 (ι:=Int) (fun p=> Z7l a b p) (fun p=> 0≤p∧p≤a.length∧(a=b↔a.drop p.toNat=b.drop p.toNat)) (fun p=> ((a.length:Int) - p).toNat) 0 rfl ⟨by omega,by omega,by simp⟩ ?_
  rintro i ⟨h1,h2,h3⟩
  refine ZpU _ _ _ _ _ ?_;(try simp only [vcT,forall_eq])
  (simp only [vcS]);(try simp only [vcT])
  refine ⟨fun hc=> ⟨by omega,by omega,fun hn=> ?_,fun he=> ⟨by unfold InR;omega,i+1,rfl,⟨by omega,by omega,?_⟩,by omega⟩⟩,fun hc=> ?_⟩
  ·have e:decide (a=b)=false:=by
    simp only [decide_eq_false_iff_not,h3]
    rw [ZcO h1 hc (by omega)]
    exact fun h=> hn h.1
   simp only [ZdF,e]
   exact ⟨⟨rfl,⟨rfl,trivial⟩,trivial⟩,trivial⟩
  ·rw [h3,ZcO h1 hc (by omega)]
   exact ⟨fun h=> h.2,fun h=> ⟨by simpa using he,h⟩⟩
  ·have e:decide (a=b)=true:=by
    simp only [decide_eq_true_eq,h3]
    rw [List.drop_eq_nil_of_le (by omega),List.drop_eq_nil_of_le (by omega)]
   simp only [ZdF,e]
   exact ⟨⟨rfl,⟨rfl,trivial⟩,trivial⟩,trivial⟩
theorem Zjy{a b:List Tree}{i:Int}(hi:0≤i)(ha:i < a.length)(hb:i < b.length):(a.drop i.toNat=b.drop i.toNat)↔(a.getD i.toNat Tree.nil=b.getD i.toNat Tree.nil∧a.drop (i+1).toNat=b.drop (i+1).toNat):=by
 have e:(i+1).toNat=i.toNat+1:=by omega
 rw [List.drop_eq_getElem_cons (by omega),List.drop_eq_getElem_cons (l:=b) (by omega),e]
 simp only [List.cons.injEq,List.getD,List.getElem?_eq_getElem (show i.toNat < a.length by omega),List.getElem?_eq_getElem (show i.toNat < b.length by omega),Option.getD_some]
theorem Yw{a b:Tree}:YF a b=true↔a=b:=by simp [YF]
theorem YE{a b:Tree}:YF a b=false↔¬a=b:=by simp [YF]
theorem ZA:∀ (ks:List Tree),ks.length≤Zf ks
 | []=> by simp [Zf]
 | t ::r=> by
  have:=ZA r
  have:1≤Zo t:=by cases t;simp only [Zo];omega
  simp only [Zf,List.length_cons]
  omega
theorem c29:Contract Try.prog cfg 29 Z2X:=by
 refine Zym c75 ?_
 rintro N ⟨k,ws,ks⟩ ⟨k',ws',ks'⟩ _ hp hN
 have hlen:=ZA ks
 simp only [Z3A,ZoV,Zo] at hp hN
 refine ZCK N _ _ _ ?_;(try simp only [vcT,forall_eq])
 (simp only [vcS]);(try simp only [vcT])
 try (simp only [Tree.eta,Edit.eta,Tree.kind_mk,Tree.words_mk,Tree.kids_mk])
 have p69:ZfK (ws,ws',()):=by simp only [ZfK];omega
 refine ⟨fun _=> p69,fun hc=> ?_,fun hc=> ?_⟩
 ·have e:YF (.mk k ws ks) (.mk k' ws' ks')=false:=by
   rw [YE]
   intro h
   cases h
   simp at hc
  simp only [ZfF,e]
  exact ⟨⟨rfl,⟨rfl,trivial⟩,trivial⟩,trivial⟩
 ·have hc':(k=k'∧ws=ws')∧ks.length=ks'.length:=⟨hc.1,by have:=hc.2;omega⟩
  obtain ⟨⟨rfl,rfl⟩,hl⟩:=hc'
  refine Z6 (ι:=Int) (fun p=> Zaa (.mk k ws ks) (.mk k ws ks') p) (fun p=> 0≤p∧p≤ks.length∧(Tree.mk k ws ks= .mk k ws ks'↔ks.drop p.toNat=ks'.drop p.toNat)) (fun p=> ((ks.length:Int) - p).toNat) 0 rfl ⟨by omega,by omega,by simp⟩ ?_
  rintro i ⟨h1,h2,h3⟩
  refine Zul N _ _ _ _ _ ?_;(try simp only [vcT,forall_eq])
  (simp only [vcS]);(try simp only [vcT])
  try (simp only [Tree.eta,Edit.eta,Tree.kind_mk,Tree.words_mk,Tree.kids_mk])
  refine ⟨fun hc=> ⟨by omega,by omega,?_,?_,fun hn=> ?_,fun he=> ⟨by unfold InR;omega,i+1,rfl,⟨by omega,by omega,?_⟩,by omega⟩⟩,fun hc=> ?_⟩
  ·have:=Z0O (ks:=ks) (i:=i.toNat) (by omega)
   simp only [Z3A]
   omega
  ·have:=Z0O (ks:=ks) (i:=i.toNat) (by omega)
   simp only [ZoV]
   omega
  ·have e:YF (.mk k ws ks) (.mk k ws ks')=false:=by
    rw [YE,h3,Zjy h1 hc (by omega)]
    rw [YE] at hn
    exact fun h=> hn h.1
   simp only [ZfF,e]
   exact ⟨⟨rfl,⟨rfl,trivial⟩,trivial⟩,trivial⟩
  ·rw [h3,Zjy h1 hc (by omega)]
   exact ⟨fun h=> h.2,fun h=> ⟨Yw.1 he,h⟩⟩
  ·have e:YF (.mk k ws ks) (.mk k ws ks')=true:=by
    rw [Yw,h3]
    rw [List.drop_eq_nil_of_le (by omega),List.drop_eq_nil_of_le (by omega)]
   simp only [ZfF,e]
   exact ⟨⟨rfl,⟨rfl,trivial⟩,trivial⟩,trivial⟩
theorem Zat:∀ (l:List Int),trim (l++[0])=trim l
 | []=> rfl
 | x ::r=> by
  show (match trim (r++[0]) with | []=> if x=0 then [] else [x] | y ::s=> x ::y ::s)=_
  rw [Zat r]
  try rfl
theorem Zgv{x:Int}(hx:x≠0):∀ (l:List Int),trim (l++[x])=l++[x]
 | []=> by simp [trim,hx]
 | y ::r=> by
  show (match trim (r++[x]) with | []=> if y=0 then [] else [y] | z ::s=> y ::z ::s)=_
  rw [Zgv hx r]
  cases r <;> rfl
theorem Zaw{l:List Int}{i:Int}(h0:0 < i)(hi:i≤l.length):l.take i.toNat=l.take (i - 1).toNat++[l.getD (i - 1).toNat 0]:=by
 have e:i.toNat=(i - 1).toNat+1:=by omega
 rw [e,List.take_add_one]
 simp only [List.getD,List.getElem?_eq_getElem (show (i - 1).toNat < l.length by omega),Option.toList,Option.getD_some]
theorem c84:Contract Try.prog cfg 84 Zde:=by
 refine Zy4 ?_
 intro l _ hp
 simp only [ZiG] at hp
 refine ZCl _ _ ?_;(try simp only [vcT,forall_eq])
 refine Z6 (ι:=Int) (fun p=> Z9U l p) (fun p=> 0≤p∧p≤l.length∧trim (l.take p.toNat)=trim l) (fun p=> p.toNat) (l.length:Int) rfl ⟨by omega,by omega,by simp⟩ ?_
 rintro i ⟨h1,h2,h3⟩
 refine ZtW _ _ _ _ ?_;(try simp only [vcT,forall_eq])
 (simp only [vcS]);(try simp only [vcT])
 refine ⟨fun h=> by unfold InR;omega,fun h=> by omega,fun hc=> ⟨by unfold InR;omega,i - 1,rfl,⟨by omega,by omega,?_⟩,by omega⟩,fun hc=> ⟨by omega,?_,?_⟩⟩
 ·rw [Zaw hc.1 h2,hc.2,Zat] at h3
  exact h3
 ·simp only [List.length_nil,List.length_take]
  omega
 ·have e:trim l=[]++l.take i.toNat:=by
   rw [←h3]
   by_cases h0:0 < i
   ·rw [Zaw h0 h2,Zgv (by rcases hc with h | h;exact absurd h0 h;exact h)]
    try rfl
   ·have:i.toNat=0:=by omega
    rw [this]
    try rfl
  simp only [ZqU,e]
  exact ⟨⟨rfl,⟨⟨rfl,trivial⟩,trivial⟩,trivial⟩,trivial⟩
theorem Zi4:∀ (l:List Int),(trim l).length≤l.length
 | []=> by simp [trim]
 | x ::r=> by
  have:=Zi4 r
  simp only [trim]
  split
  ·split <;> simp
  ·rename_i h
   rw [h] at this
   simp at*
   omega
theorem Zd7:∀ (l:List Tree),Zf (Yi l)≤Zf l
 | []=> by simp [Yi]
 | x ::r=> by
  have:=Zd7 r
  simp only [Yi]
  split
  ·split
   ·simp [Zf]
   ·simp [Zf]
  ·rename_i h
   rw [h] at this
   simp only [Zf] at*
   omega
mutual
theorem Y6:∀ (t:Tree),Zo (Z4 t)≤Zo t
 | .mk k w ks=> by
  have h1:=Ze7 ks
  have h2:=Zi4 w
  have h3:=Zd7 (Yf ks)
  simp only [Z4]
  split
  ·simp only [Tree.nil,Zo,Zf,List.length_nil];omega
  ·split
   ·simp only [Zo];omega
   ·simp only [Zo];omega
theorem Ze7:∀ (ks:List Tree),Zf (Yf ks)≤Zf ks
 | []=> by simp [Yf]
 | t ::r=> by
  have h1:=Y6 t
  have h2:=Ze7 r
  simp only [Yf,Zf]
  omega
end
theorem Zb6:∀ (l:List Tree) (x:Tree),Yf (l++[x])=Yf l++[Z4 x]
 | [],x=> rfl
 | y ::r,x=> by simp only [List.cons_append,Yf,Zb6 r x]
theorem Z1n:∀ (l:List Tree),(Yf l).length=l.length
 | []=> rfl
 | y ::r=> by simp only [Yf,List.length_cons,Z1n r]
theorem Z88{x:Tree}(hx:x.kind=0):∀ (l:List Tree),Yi (l++[x])=Yi l
 | []=> by simp [Yi,hx]
 | y ::r=> by
  show (match Yi (r++[x]) with | []=> if y.kind=0 then [] else [y] | z ::s=> y ::z ::s)=_
  rw [Z88 hx r]
  try rfl
theorem Zd6{x:Tree}(hx:x.kind≠0):∀ (l:List Tree),Yi (l++[x])=l++[x]
 | []=> by simp [Yi,hx]
 | y ::r=> by
  show (match Yi (r++[x]) with | []=> if y.kind=0 then [] else [y] | z ::s=> y ::z ::s)=_
  rw [Zd6 hx r]
  cases r <;> rfl
theorem Z89{l:List Tree}{i:Int}(h0:0≤i)(hi:i < l.length):l.take (i+1).toNat=l.take i.toNat++[l.getD i.toNat Tree.nil]:=by
 have e:(i+1).toNat=i.toNat+1:=by omega
 rw [e,List.take_add_one]
 simp only [List.getD,List.getElem?_eq_getElem (show i.toNat < l.length by omega),Option.toList,Option.getD_some]
theorem c45:Contract Try.prog cfg 45 Z0b:=by
 refine Zyk c84 ?_
 rintro N ⟨k,ws,ks⟩ _ hp hN
 have hlen:=ZA ks
 simp only [Jy,ZoU,Zo] at hp hN
 refine ZCH N _ _ ?_;(try simp only [vcT,forall_eq])
 (simp only [vcS]);(try simp only [vcT])
 try (simp only [Tree.eta,Edit.eta,Tree.kind_mk,Tree.words_mk,Tree.kids_mk])
 refine ⟨fun hc=> ?_,fun hc0=> ?_⟩
 ·have e:Z4 (.mk k ws ks)=Tree.nil:=by simp [Z4,hc]
  simp only [ZfE,e]
  exact ⟨⟨rfl,⟨⟨rfl,rfl⟩,⟨rfl,⟨rfl,trivial⟩⟩⟩,trivial⟩,trivial⟩
 ·refine Z6 (ι:=Int × Int × List Tree) (fun p=> Z6t (.mk k ws ks) p.1 p.2.1 p.2.2) (fun p=> 0≤p.2.1∧p.2.1≤ks.length∧0≤p.1∧p.1≤p.2.1∧p.2.2=Yf (ks.take p.2.1.toNat)∧Yi (Yf (ks.take p.2.1.toNat))=p.2.2.take p.1.toNat) (fun p=> ((ks.length:Int) - p.2.1).toNat) (0,0,[]) rfl ⟨by dsimp only;omega,by dsimp only;omega,by dsimp only;omega,by dsimp only;omega,rfl,rfl⟩ ?_
  rintro ⟨last,i,l⟩ ⟨h1,h2,h3,h4,h5,h6⟩
  dsimp only at*
  have hl:l.length=i.toNat:=by rw [h5,Z1n,List.length_take];omega
  refine Zui N _ _ _ _ _ _ ?_;(try simp only [vcT,forall_eq])
  (simp only [vcS]);(try simp only [vcT])
  try (simp only [Tree.eta,Edit.eta,Tree.kind_mk,Tree.words_mk,Tree.kids_mk])
  refine ⟨fun hc=> ?_,fun hc=> ⟨fun h1=> ⟨?_,by omega,?_⟩,fun hk=> ⟨?_,?_⟩⟩⟩
  ·have hm:=Z0O (ks:=ks) (i:=i.toNat) (by omega)
   have hnx:Yf (ks.take (i+1).toNat)=l++[Z4 (ks.getD i.toNat Tree.nil)]:=by rw [Z89 h1 hc,Zb6,h5]
   refine ⟨by omega,by simp only [Jy];omega,by simp only [ZoU];omega,by simp only [List.length_cons,List.length_nil];omega,fun hk=> ⟨by unfold InR;omega,by unfold InR;omega,(i+1,i+1,_),rfl,⟨by dsimp only;omega,by dsimp only;omega,by dsimp only;omega,by dsimp only;omega,hnx.symm,?_⟩,by dsimp only;omega⟩,fun hk=> ⟨by unfold InR;omega,(last,i+1,_),rfl,⟨by dsimp only;omega,by dsimp only;omega,by dsimp only;omega,by dsimp only;omega,hnx.symm,?_⟩,by dsimp only;omega⟩⟩
   ·dsimp only
    rw [hnx,Zd6 hk,List.take_of_length_le (by simp;omega)]
   ·dsimp only
    rw [hnx,Z88 hk,List.take_append_of_le_length (by omega),←h6,h5]
  ·simp only [ZiG];omega
  ·have hi:ks.take i.toNat=ks:=List.take_of_length_le (by omega)
   rw [hi] at h5 h6
   have e:Z4 (.mk k ws ks)= .mk 1 (trim ws) (l.take last.toNat):=by
    subst h1
    simp only [Z4,←h6]
    try rfl
   simp only [ZfE,e]
   exact ⟨⟨rfl,⟨⟨rfl,rfl⟩,⟨rfl,trivial⟩,⟨rfl,trivial⟩,trivial⟩,trivial⟩,trivial⟩
  ·simp only [List.length_nil];omega
  ·have hi:ks.take i.toNat=ks:=List.take_of_length_le (by omega)
   rw [hi] at h5
   have e:Z4 (.mk k ws ks)= .mk k ([]++ws) l:=by
    simp only [Z4,if_neg hc0,if_neg hk,h5]
    try rfl
   simp only [ZfE,e]
   exact ⟨⟨rfl,⟨⟨rfl,rfl⟩,⟨rfl,trivial⟩,⟨rfl,trivial⟩,trivial⟩,trivial⟩,trivial⟩
theorem Zpn:Contract Try.prog cfg 137 Z0Y:=by
 refine Zv3 c45 c29 ?_
 intro a b _ hp
 have h1:=Y6 a
 simp only [Z65] at hp
 refine ZB1 _ _ _ ?_;(try simp only [vcT,forall_eq])
 try (simp only [Tree.eta,Edit.eta,Tree.kind_mk,Tree.words_mk,Tree.kids_mk])
 refine ⟨hp.1,hp.2,?_,?_⟩
 ·simp only [Z3A];omega
 ·exact ⟨⟨rfl,⟨rfl,trivial⟩,trivial⟩,trivial⟩
theorem ZmW{l:List Int}(h0:0 < (l.length:Int)):l=l.take ((l.length:Int) - 1).toNat++[l.getD ((l.length:Int) - 1).toNat 0]:=by
 have:=Zaw h0 (Int.le_refl _)
 rw [List.take_of_length_le (by omega)] at this
 exact this
theorem Zjl{l:List Tree}(h0:0 < (l.length:Int)):l=l.take ((l.length:Int) - 1).toNat++[l.getD ((l.length:Int) - 1).toNat Tree.nil]:=by
 have:=Z89 (l:=l) (i:=(l.length:Int) - 1) (by omega) (by omega)
 rw [List.take_of_length_le (by omega)] at this
 exact this
theorem Zoi{l:List Int}(h0:0 < (l.length:Int))(hz:l.getD ((l.length:Int) - 1).toNat 0=0):trim (l.take ((l.length:Int) - 1).toNat)=trim l:=by
 have e:=Zat (l.take ((l.length:Int) - 1).toNat)
 have h:=ZmW h0
 rw [hz] at h
 rw [←h] at e
 exact e.symm
theorem Zok{l:List Int}(h:¬0 < (l.length:Int)∨¬l.getD ((l.length:Int) - 1).toNat 0=0):trim l=l:=by
 by_cases h0:0 < (l.length:Int)
 ·have e:=Zgv (x:=l.getD ((l.length:Int) - 1).toNat 0) (by rcases h with h | h;exact absurd h0 h;exact h) (l.take ((l.length:Int) - 1).toNat)
  rw [←ZmW h0] at e
  exact e
 ·have:l=[]:=List.eq_nil_of_length_eq_zero (by omega)
  subst this
  try rfl
theorem ZjV{l:List Tree}(h0:0 < (l.length:Int))(hz:(l.getD ((l.length:Int) - 1).toNat Tree.nil).kind=0):Yi (l.take ((l.length:Int) - 1).toNat)=Yi l:=by
 have e:=Z88 hz (l.take ((l.length:Int) - 1).toNat)
 rw [←Zjl h0] at e
 exact e.symm
theorem ZjX{l:List Tree}(h:¬0 < (l.length:Int)∨¬(l.getD ((l.length:Int) - 1).toNat Tree.nil).kind=0):Yi l=l:=by
 by_cases h0:0 < (l.length:Int)
 ·have e:=Zd6 (x:=l.getD ((l.length:Int) - 1).toNat Tree.nil) (by rcases h with h | h;exact absurd h0 h;exact h) (l.take ((l.length:Int) - 1).toNat)
  rw [←Zjl h0] at e
  exact e
 ·have:l=[]:=List.eq_nil_of_length_eq_zero (by omega)
  subst this
  try rfl
theorem c71:Contract Try.prog cfg 71 Z0x:=by
 refine Zy9 Zzk ?_
 rintro N ⟨k,ws,ks⟩ _ hp hN
 have hlen:=ZA ks
 simp only [Z1e,ZoS,Zo] at hp hN
 refine ZCr N _ _ ?_;(try simp only [vcT,forall_eq])
 (simp only [vcS]);(try simp only [vcT])
 try (simp only [Tree.eta,Edit.eta,Tree.kind_mk,Tree.words_mk,Tree.kids_mk])
 refine ⟨fun hc=> ?_,fun hc0=> ⟨by simp only [ZdX];omega,?_⟩⟩
 ·have e:Z4 (.mk k ws ks)=Tree.nil:=by simp [Z4,hc]
  simp only [ZfD,e]
  exact ⟨⟨rfl,⟨⟨rfl,rfl⟩,⟨rfl,⟨rfl,trivial⟩⟩⟩,trivial⟩,trivial⟩
 ·refine Z6 (ι:=Int × List Tree) (fun p=> Z9Z (.mk k ws ks) p.1 p.2) (fun p=> 0≤p.1∧p.1≤ks.length∧p.2=Yf (ks.take p.1.toNat)) (fun p=> ((ks.length:Int) - p.1).toNat) (0,[]) rfl ⟨by dsimp only;omega,by dsimp only;omega,rfl⟩ ?_
  rintro ⟨i,l⟩ ⟨h1,h2,h5⟩
  dsimp only at*
  have hl:l.length=i.toNat:=by rw [h5,Z1n,List.length_take];omega
  refine Zu4 N _ _ _ _ _ ?_;(try simp only [vcT,forall_eq])
  (simp only [vcS]);(try simp only [vcT])
  try (simp only [Tree.eta,Edit.eta,Tree.kind_mk,Tree.words_mk,Tree.kids_mk])
  refine ⟨fun hc=> ?_,fun hc=> ⟨fun hk=> ?_,fun hk=> ?_⟩⟩
  ·have hm:=Z0O (ks:=ks) (i:=i.toNat) (by omega)
   have hnx:Yf (ks.take (i+1).toNat)=l++[Z4 (ks.getD i.toNat Tree.nil)]:=by rw [Z89 h1 hc,Zb6,h5]
   exact ⟨by omega,by simp only [Z1e];omega,by simp only [ZoS];omega,by simp only [List.length_cons,List.length_nil];omega,by unfold InR;omega,(i+1,_),rfl,⟨by dsimp only;omega,by dsimp only;omega,hnx.symm⟩,by dsimp only;omega⟩
  ·have hi:ks.take i.toNat=ks:=List.take_of_length_le (by omega)
   rw [hi] at h5
   refine Z6 (ι:=List Int) (fun p=> Z9Y (.mk k ws ks) l p) (fun p=> p.length≤ws.length∧trim p=trim ws) (fun p=> p.length) ws rfl ⟨by omega,rfl⟩ ?_
   rintro w ⟨h6,h7⟩
   refine Zu3 N _ _ _ _ _ ?_;(try simp only [vcT,forall_eq])
   (simp only [vcS]);(try simp only [vcT])
   refine ⟨fun h=> by unfold InR;omega,fun h=> by omega,fun hc=> ⟨by unfold InR;omega,by omega,_,rfl,⟨by rw [List.length_take];omega,?_⟩,by rw [List.length_take];omega⟩,fun hc=> ?_⟩
   ·rw [Zoi hc.1 hc.2,h7]
   ·have hw:w=trim ws:=by rw [←h7,Zok hc]
    refine Z6 (ι:=List Tree) (fun p=> Z9X (.mk k ws ks) w p) (fun p=> p.length≤l.length∧Yi p=Yi l) (fun p=> p.length) l rfl ⟨by omega,rfl⟩ ?_
    rintro q ⟨h8,h9⟩
    refine Zu2 N _ _ _ _ _ ?_;(try simp only [vcT,forall_eq])
    (simp only [vcS]);(try simp only [vcT])
    refine ⟨fun h=> by unfold InR;omega,fun h=> by omega,fun hc=> ⟨by unfold InR;omega,by omega,_,rfl,⟨by rw [List.length_take];omega,?_⟩,by rw [List.length_take];omega⟩,fun hc=> ?_⟩
    ·rw [ZjV hc.1 hc.2,h9]
    ·have hq:q=Yi (Yf ks):=by rw [←h5,←h9,ZjX hc]
     have e:Z4 (.mk k ws ks)= .mk k w q:=by
      subst hk
      simp only [Z4,hw,hq]
      try rfl
     simp only [ZfD,e]
     exact ⟨⟨rfl,⟨⟨rfl,rfl⟩,⟨rfl,trivial⟩,⟨rfl,trivial⟩,trivial⟩,trivial⟩,trivial⟩
  ·have hi:ks.take i.toNat=ks:=List.take_of_length_le (by omega)
   rw [hi] at h5
   have e:Z4 (.mk k ws ks)= .mk k ws l:=by simp only [Z4,if_neg hc0,if_neg hk,h5]
   simp only [ZfD,e]
   exact ⟨⟨rfl,⟨⟨rfl,rfl⟩,⟨rfl,trivial⟩,⟨rfl,trivial⟩,trivial⟩,trivial⟩,trivial⟩
end Go.AM.Ytpjenobkibfpcaa
namespace Go.AM.Ytpjenobkibfpcaa
open Go.AM Go.Proofs
noncomputable section
abbrev Zu(p:Prop):Prop:=p→p
noncomputable section
def ZnR:ArgL (Int × Unit):=(.cons (JI .i64) .nil)
def Zh0(a:Int × Unit):Prop:=True
def Zre(a:Int × Unit):V U:= .c (ci (wd a.1))
def Z93:Fs U:=fs ZnR (fun a=> [Zh0 a]) Zre
def Zte:ArgL (Int × Int × Unit):=(.cons (JI .i64) (.cons (JI .u64) .nil))
def ZiH(a:Int × Int × Unit):Prop:=0≤a.2.1∧a.2.1 < 18446744073709551616
def ZwN(a:Int × Int × Unit):V U:= .c (.bool (Zjv a.1 a.2.1))
def Zdf:Fs U:=fs Zte (fun a=> [ZiH a]) ZwN
def mu117(a:Tree × Int × Unit):Nat:=Zo a.1
def Zlj:ArgL (Tree × Int × Unit):=(.cons (aEl .tree) (.cons (JI .i64) .nil))
def Z7Y(a:Tree × Int × Unit):Prop:=Zo a.1≤20000000000∧rng a.1∧0≤a.2.1∧a.2.1≤1000
def Zj5(a:Tree × Int × Unit):Nat:=Zo a.1
def ZqZ(a:Tree × Int × Unit):V U:= .c (.bool (Zl a.1 a.2.1))
def ZaD:Fs U:=fs Zlj (fun a=> [Z7Y a]) ZqZ
def Zhq:List (FuncId × Fs U):=[]
def ZmM:Zj U:=lvl [([0],[]),([3],[]),([3,4],[]),([2],[]),([3,6],[]),([2],[]),([3,8],[]),([2],[]),([3,10],[]),([2],[]),([3,12],[]),([2],[]),([14],[]),([2],[]),([2],[])]
theorem ZBd(c:Int)(Q:QT)(h:((c==0)=true→Q .ret (L2 [(2,.c (ci 0))] []))∧((c==0)=false→((c==1)=true→Q .ret (L2 [(2,.c (ci 1))] []))∧((c==1)=false→((c==2)=true→Q .ret (L2 [(2,.c (ci 8))] []))∧((c==2)=false→((c==3)=true→Q .ret (L2 [(2,.c (ci 16))] []))∧((c==3)=false→((c==4)=true→Q .ret (L2 [(2,.c (ci 32))] []))∧((c==4)=false→((c==5)=true→Q .ret (L2 [(2,.c (ci 64))] []))∧((c==5)=false→Q .ret (L2 [(2,.c (ci (-1)))] [])))))))):
  AW (Z1 Zhq) Try.f116 ZmM [] (L2 [(0,.c (ci c))] []) Q:=by
 have e:(AW (Z1 Zhq) Try.f116 ZmM [] (L2 [(0,.c (ci c))] []) Q)=((((c:Int)==0)=true→(Q .ret (L2 [(2,.c (ci 0))] [])))∧(((c:Int)==0)=false→((((c:Int)==1)=true→(Q .ret (L2 [(2,.c (ci 1))] [])))∧(((c:Int)==1)=false→((((c:Int)==2)=true→(Q .ret (L2 [(2,.c (ci 8))] [])))∧(((c:Int)==2)=false→((((c:Int)==3)=true→(Q .ret (L2 [(2,.c (ci 16))] [])))∧(((c:Int)==3)=false→((((c:Int)==4)=true→(Q .ret (L2 [(2,.c (ci 32))] [])))∧(((c:Int)==4)=false→((((c:Int)==5)=true→(Q .ret (L2 [(2,.c (ci 64))] [])))∧(((c:Int)==5)=false→(Q .ret (L2 [(2,.c (ci (-1)))] [])))))))))))))):=by kernel_rfl
 exact e.mpr ⟨fun c_1=> (h.1 c_1),fun c_1=> ⟨fun c_2=> ((h.2 c_1).1 c_2),fun c_2=> ⟨fun c_3=> (((h.2 c_1).2 c_2).1 c_3),fun c_3=> ⟨fun c_4=> ((((h.2 c_1).2 c_2).2 c_3).1 c_4),fun c_4=> ⟨fun c_5=> (((((h.2 c_1).2 c_2).2 c_3).2 c_4).1 c_5),fun c_5=> ⟨fun c_6=> ((((((h.2 c_1).2 c_2).2 c_3).2 c_4).2 c_5).1 c_6),fun c_6=> ((((((h.2 c_1).2 c_2).2 c_3).2 c_4).2 c_5).2 c_6)⟩⟩⟩⟩⟩⟩
def Zwy(c:Int):Prop:=AW (Z1 Zhq) Try.f116 ZmM [] (Zk (ZnR.can (c,())) []) (EQ Try.f116 (Zre (c,())) [])
theorem Zvb(hb:∀ (c:Int) (_:Unit),Zh0 (c,())→Zwy c):CT 116 Z93:=
 Z7 (l:=[]) Zm rfl trivial ZmM Try.func116 rfl rfl 1 (fun _=> rfl) (by decide) (fun ⟨c,_⟩=> hb c ())
def Z1r:List (FuncId × Fs U):=[(116,Z93)]
def Zcv:Zj U:=lvl [([0,1],[]),([1,5],[]),([1,5,10],[]),([4],[]),([1,5,6],[]),([1,5,6,13],[]),([1,5,6],[]),([1,5,6],[]),([4],[])]
def Z3h(c n x1 x6:Int):LSt U:=(L2 [(1,.c (.int .u64 x1)),(5,.c (ci (wd c))),(6,.c (ci x6))] [])
abbrev ZpA:=awp cfg (Z1 Z1r) (ZS cfg (Z1 Z1r)) Try.f79.ntmps Zcv
abbrev Zos:=ZaF cfg (Z1 Z1r) (ZS cfg (Z1 Z1r)) Try.f79.ntmps Zcv
theorem ZCn(c n:Int)(Q:QT)(h:(Zh0 (c,()))∧(((decide (((wd c):Int) < 0))=true→Q .ret (L2 [(4,.c (.bool false))] []))∧((decide (((wd c):Int) < 0))=false→Ze (AW (Z1 Z1r) Try.f79 Zcv [1,1,1,0,1,0,0]) (Z3h c n n 0) (xB 0 (SW (Z1 Z1r) Try.f79 Zcv [1,1,1,1] Q))))):
  AW (Z1 Z1r) Try.f79 Zcv [] (L2 [(0,.c (ci c)),(1,.c (.int .u64 n))] []) Q:=by
 have e:(AW (Z1 Z1r) Try.f79 Zcv [] (L2 [(0,.c (ci c)),(1,.c (.int .u64 n))] []) Q)=((Zh0 (c,()))∧(((decide (((wd c):Int) < 0))=true→(Q .ret (L2 [(4,.c (.bool false))] [])))∧((decide (((wd c):Int) < 0))=false→(Ze (ZpA (cd Try.f79 [1,1,1,0,1,0,0])) (Z3h c n n 0) (xB 0 (Zos (cd Try.f79 [1,1,1,1]) Q)))))):=by kernel_rfl
 exact e.mpr ⟨h.1,⟨fun c_7=> (h.2.1 c_7),fun c_7=> (h.2.2 c_7)⟩⟩
theorem ZtX(c n x1 x6:Int)(N0:NT)(Q:QT)(h:((decide (x6 < (wd c)))=true→((2:Int)≠0)∧((InR (x6+1))∧(N0 (Z3h c n (IntKind.wrap .u64 (Int.tdiv x1 2)) (x6+1)))))∧((decide (x6 < (wd c)))=false→Q .ret (L2 [(4,.c (.bool (x1==0)))] []))):
  AW (Z1 Z1r) Try.f79 Zcv [1,1,1,0,1,0,0] (Z3h c n x1 x6) (xT N0 (xB 0 (SW (Z1 Z1r) Try.f79 Zcv [1,1,1,1] Q))):=by
 have e:(AW (Z1 Z1r) Try.f79 Zcv [1,1,1,0,1,0,0] (Z3h c n x1 x6) (xT N0 (xB 0 (SW (Z1 Z1r) Try.f79 Zcv [1,1,1,1] Q))))=(((decide ((x6:Int) < (wd c)))=true→((2:Int)≠0)∧((InR ((x6:Int)+1))∧(N0 (Z3h c n (IntKind.wrap .u64 (Int.tdiv x1 2)) ((x6:Int)+1)))))∧((decide ((x6:Int) < (wd c)))=false→(Q .ret (L2 [(4,.c (.bool ((x1:Int)==0)))] [])))):=by kernel_rfl
 exact e.mpr ⟨fun c_8=> ⟨(h.1 c_8).1,⟨(h.1 c_8).2.1,(h.1 c_8).2.2⟩⟩,fun c_8=> (h.2 c_8)⟩
def ZzS(c n:Int):Prop:=AW (Z1 Z1r) Try.f79 Zcv [] (Zk (Zte.can (c,n,())) []) (EQ Try.f79 (ZwN (c,n,())) [])
theorem Zy6(Zzi:CT 116 Z93)(hb:∀ (c:Int) (n:Int) (_:Unit),ZiH (c,n,())→ZzS c n):CT 79 Zdf:=
 Z7 (l:=[(116,Z93)]) Zm rfl (⟨Zzi,trivial⟩) Zcv Try.func79 rfl rfl 2 (fun _=> rfl) (by decide) (fun ⟨c,n,_⟩=> hb c n ())
def Z1s(N:Nat):List (FuncId × Fs U):=(37,fs Zlj (fun a=> [Z7Y a,Zj5 a < N]) ZqZ) ::[(79,Zdf)]
def Zcw:Zj U:=lvl [([1,2],[2]),([1,2,10],[2]),([4],[]),([1,2,23],[2]),([4],[]),([1,2,68],[2]),([4],[]),([1,2,77],[2]),([4],[]),([1,2,5],[2]),([1,2,5,82],[2]),([1,2,5],[2]),([1,2,5,6],[2,6]),([1,2,5,6,94],[2,6]),([4],[]),([1,2,5,6,7],[2,6]),([1,2,5,131],[2]),([4],[]),([4],[])]
def Z3j(t:Tree)(d x5:Int):LSt U:=(L2 [(1,.c (ci d)),(2,.ptr (.loc 2) 0),(5,.c (ci x5))] [(.loc 2,(enc .tree t))])
abbrev ZpC(N:Nat):=awp cfg (Z1 (Z1s N)) (ZS cfg (Z1 (Z1s N))) Try.f37.ntmps Zcw
abbrev Zou(N:Nat):=ZaF cfg (Z1 (Z1s N)) (ZS cfg (Z1 (Z1s N))) Try.f37.ntmps Zcw
theorem ZCI(N:Nat)(t:Tree)(d:Int)(Q:QT)(h:((t.kind==0)=true→Q .ret (L2 [(4,.c (.bool (bif (((t.words.length:Int):Int)==0) then (((t.kids.length:Int):Int)==0) else false)))] []))∧((t.kind==0)=false→((t.kind==10)=true→Q .ret (L2 [(4,.c (.bool (bif (((t.words.length:Int):Int)==1) then (((t.kids.length:Int):Int)==0) else false)))] []))∧((t.kind==10)=false→((bif (bif (bif (bif (bif (decide (t.kind < 0)) then true else (decide ((10:Int) < t.kind))) then true else (d==0)) then true else (decide ((65536:Int)≤(t.words.length:Int)))) then true else (bif (t.kind==1) then (decide ((65536:Int)≤(t.kids.length:Int))) else false)) then true else (decide ((1048576:Int)≤(t.kids.length:Int))))=true→Q .ret (L2 [(4,.c (.bool false))] []))∧((bif (bif (bif (bif (bif (decide (t.kind < 0)) then true else (decide ((10:Int) < t.kind))) then true else (d==0)) then true else (decide ((65536:Int)≤(t.words.length:Int)))) then true else (bif (t.kind==1) then (decide ((65536:Int)≤(t.kids.length:Int))) else false)) then true else (decide ((1048576:Int)≤(t.kids.length:Int))))=false→((bif (decide ((1:Int) < t.kind)) then (decide ((0:Int) < (t.words.length:Int))) else false)=true→Q .ret (L2 [(4,.c (.bool false))] []))∧((bif (decide ((1:Int) < t.kind)) then (decide ((0:Int) < (t.words.length:Int))) else false)=false→Ze (AW (Z1 (Z1s N)) Try.f37 Zcw [1,1,1,1,1,0,1,0,0]) (Z3j t d 0) (xB 0 (SW (Z1 (Z1s N)) Try.f37 Zcw [1,1,1,1,1,1] Q))))))):
  AW (Z1 (Z1s N)) Try.f37 Zcw [] (L2 [(0,.agg (enc .tree t)),(1,.c (ci d))] []) Q:=by
 have e:(AW (Z1 (Z1s N)) Try.f37 Zcw [] (L2 [(0,.agg (enc .tree t)),(1,.c (ci d))] []) Q)=(let zz7:=(decide ((1048576:Int)≤(t.kids.length:Int)));let zz6:=(decide (t.kind < 0));let zz5:=((t.words.length:Int)==1);let zz4:=((t.words.length:Int)==0);let zz3:=(decide ((1:Int) < t.kind));let zz2:=(bif (t.kind==1) then (decide ((65536:Int)≤(t.kids.length:Int))) else false);let zz1:=(bif zz6 then true else (decide ((10:Int) < t.kind)));let zz0:=(bif (bif zz1 then true else ((d:Int)==0)) then true else (decide ((65536:Int)≤(t.words.length:Int))));(((t.kind==0)=true→(Zu (zz4=true))∧(Zu (zz4=true))∧(Zu (zz4=true))∧(Zu (zz4=true))∧(Q .ret (L2 [(4,.c (.bool (bif zz4 then ((t.kids.length:Int)==0) else false)))] [])))∧((t.kind==0)=false→(((t.kind==10)=true→(Zu (zz5=true))∧(Zu (zz5=true))∧(Zu (zz5=true))∧(Zu (zz5=true))∧(Q .ret (L2 [(4,.c (.bool (bif zz5 then ((t.kids.length:Int)==0) else false)))] [])))∧((t.kind==10)=false→(Zu ((!zz6)=true))∧(Zu ((!zz6)=true))∧(zz6=false→(!zz6)=true)∧(Zu ((!zz1)=true))∧(zz1=false→(!zz1)=true)∧(Zu ((!(bif zz1 then true else ((d:Int)==0)))=true))∧(Zu ((!(bif zz1 then true else ((d:Int)==0)))=true))∧(Zu ((!(bif zz1 then true else ((d:Int)==0)))=true))∧((bif zz1 then true else ((d:Int)==0))=false→(!(bif zz1 then true else ((d:Int)==0)))=true)∧(Zu ((!zz0)=true))∧(Zu ((!zz0)=true))∧(Zu ((!zz0)=true))∧(Zu (((!zz0) && (t.kind==1))=true))∧(Zu (((!zz0) && (t.kind==1))=true))∧(Zu (((!zz0) && (t.kind==1))=true))∧((!zz0)=true→(True→(!zz0)=true))∧((!zz0)=true→((t.kind==1)=true→((!zz0) && (t.kind==1))=true))∧(zz0=false→(!zz0)=true)∧(Zu ((!(bif zz0 then true else zz2))=true))∧(Zu ((!(bif zz0 then true else zz2))=true))∧(Zu ((!(bif zz0 then true else zz2))=true))∧((bif zz0 then true else zz2)=false→(!(bif zz0 then true else zz2))=true)∧(((bif (bif zz0 then true else zz2) then true else zz7)=true→(Q .ret (L2 [(4,.c (.bool false))] [])))∧((bif (bif zz0 then true else zz2) then true else zz7)=false→(Zu (zz3=true))∧(Zu (zz3=true))∧(Zu (zz3=true))∧(Zu (zz3=true))∧(((bif zz3 then (decide ((0:Int) < (t.words.length:Int))) else false)=true→(Q .ret (L2 [(4,.c (.bool false))] [])))∧((bif zz3 then (decide ((0:Int) < (t.words.length:Int))) else false)=false→(Ze (ZpC N (cd Try.f37 [1,1,1,1,1,0,1,0,0])) (Z3j t d 0) (xB 0 (Zou N (cd Try.f37 [1,1,1,1,1,1]) Q)))))))))))):=by kernel_rfl
 exact e.mpr ⟨fun c_22=> ⟨id,id,id,(by generalize (((t.words.length:Int):Int)==0)=b0;revert b0;decide),(h.1 c_22)⟩,fun c_22=> ⟨fun c_23=> ⟨id,id,id,(by generalize (((t.words.length:Int):Int)==1)=b0;revert b0;decide),((h.2 c_22).1 c_23)⟩,fun c_23=> ⟨id,id,(by generalize (decide ((t.kind:Int) < 0))=b0;revert b0;decide),id,(by generalize (decide ((10:Int) < t.kind))=b0;generalize (decide ((t.kind:Int) < 0))=b1;revert b0 b1;decide),id,id,id,(by generalize (decide ((10:Int) < t.kind))=b0;generalize (decide ((t.kind:Int) < 0))=b1;generalize ((d:Int)==0)=b2;revert b0 b1 b2;decide),id,id,id,id,id,id,(by generalize (decide ((65536:Int)≤(t.words.length:Int)))=b0;generalize (decide ((10:Int) < t.kind))=b1;generalize (decide ((t.kind:Int) < 0))=b2;generalize ((d:Int)==0)=b3;revert b0 b1 b2 b3;decide),(by generalize (decide ((65536:Int)≤(t.words.length:Int)))=b0;generalize (decide ((10:Int) < t.kind))=b1;generalize (decide ((t.kind:Int) < 0))=b2;generalize ((t.kind:Int)==1)=b3;generalize ((d:Int)==0)=b4;revert b0 b1 b2 b3 b4;decide),(by generalize (decide ((65536:Int)≤(t.words.length:Int)))=b0;generalize (decide ((10:Int) < t.kind))=b1;generalize (decide ((t.kind:Int) < 0))=b2;generalize ((d:Int)==0)=b3;revert b0 b1 b2 b3;decide),id,id,id,(by generalize (decide ((65536:Int)≤(t.words.length:Int)))=b0;generalize (decide ((65536:Int)≤(t.kids.length:Int)))=b1;generalize (decide ((10:Int) < t.kind))=b2;generalize (decide ((t.kind:Int) < 0))=b3;generalize ((t.kind:Int)==1)=b4;generalize ((d:Int)==0)=b5;revert b0 b1 b2 b3 b4 b5;decide),⟨fun c_24=> (((h.2 c_22).2 c_23).1 c_24),fun c_24=> ⟨id,id,id,(by generalize (decide ((1:Int) < t.kind))=b0;revert b0;decide),⟨fun c_25=> ((((h.2 c_22).2 c_23).2 c_24).1 c_25),fun c_25=> ((((h.2 c_22).2 c_23).2 c_24).2 c_25)⟩⟩⟩⟩⟩⟩
theorem Zuj(N:Nat)(t:Tree)(d x5:Int)(N0:NT)(Q:QT)(h:((decide (x5 < (t.kids.length:Int)))=true→((0:Int)≤x5∧x5 < (t.kids.length:Int))∧((InR (d - 1))∧(Z7Y ((Tree.mk (Tree.kind (t.kids.getD x5.toNat Tree.nil)) (Tree.words (t.kids.getD x5.toNat Tree.nil)) (Tree.kids (t.kids.getD x5.toNat Tree.nil))),(d - 1),()))∧(Zj5 ((Tree.mk (Tree.kind (t.kids.getD x5.toNat Tree.nil)) (Tree.words (t.kids.getD x5.toNat Tree.nil)) (Tree.kids (t.kids.getD x5.toNat Tree.nil))),(d - 1),()) < N)∧(((!(Zl (Tree.mk (Tree.kind (t.kids.getD x5.toNat Tree.nil)) (Tree.words (t.kids.getD x5.toNat Tree.nil)) (Tree.kids (t.kids.getD x5.toNat Tree.nil))) (d - 1)))=true→Q .ret (L2 [(4,.c (.bool false))] []))∧((!(Zl (Tree.mk (Tree.kind (t.kids.getD x5.toNat Tree.nil)) (Tree.words (t.kids.getD x5.toNat Tree.nil)) (Tree.kids (t.kids.getD x5.toNat Tree.nil))) (d - 1)))=false→(((!(bif ((bif (decide ((2:Int)≤t.kind)) then (decide (t.kind≤7)) else false) !=(((Tree.kind (t.kids.getD x5.toNat Tree.nil)):Int)==10)) then true else (bif (t.kind==9) then (((Tree.kind (t.kids.getD x5.toNat Tree.nil)):Int) !=1) else false))) && (bif (decide ((2:Int)≤t.kind)) then (decide (t.kind≤7)) else false))=true→InR (t.kind - 2))∧(((!(bif ((bif (decide ((2:Int)≤t.kind)) then (decide (t.kind≤7)) else false) !=(((Tree.kind (t.kids.getD x5.toNat Tree.nil)):Int)==10)) then true else (bif (t.kind==9) then (((Tree.kind (t.kids.getD x5.toNat Tree.nil)):Int) !=1) else false))) && (bif (decide ((2:Int)≤t.kind)) then (decide (t.kind≤7)) else false))=true→(0:Int)≤0∧0 < ((Tree.words (t.kids.getD x5.toNat Tree.nil)).length:Int))∧(((!(bif ((bif (decide ((2:Int)≤t.kind)) then (decide (t.kind≤7)) else false) !=(((Tree.kind (t.kids.getD x5.toNat Tree.nil)):Int)==10)) then true else (bif (t.kind==9) then (((Tree.kind (t.kids.getD x5.toNat Tree.nil)):Int) !=1) else false))) && (bif (decide ((2:Int)≤t.kind)) then (decide (t.kind≤7)) else false))=true→ZiH ((t.kind - 2),(List.getD (Tree.words (t.kids.getD x5.toNat Tree.nil)) (Int.toNat 0) (0:Int)),()))∧(((bif (bif ((bif (decide ((2:Int)≤t.kind)) then (decide (t.kind≤7)) else false) !=(((Tree.kind (t.kids.getD x5.toNat Tree.nil)):Int)==10)) then true else (bif (t.kind==9) then (((Tree.kind (t.kids.getD x5.toNat Tree.nil)):Int) !=1) else false)) then true else (bif (bif (decide ((2:Int)≤t.kind)) then (decide (t.kind≤7)) else false) then (!(Zjv (t.kind - 2) (List.getD (Tree.words (t.kids.getD x5.toNat Tree.nil)) (Int.toNat 0) (0:Int)))) else false))=true→Q .ret (L2 [(4,.c (.bool false))] []))∧((bif (bif ((bif (decide ((2:Int)≤t.kind)) then (decide (t.kind≤7)) else false) !=(((Tree.kind (t.kids.getD x5.toNat Tree.nil)):Int)==10)) then true else (bif (t.kind==9) then (((Tree.kind (t.kids.getD x5.toNat Tree.nil)):Int) !=1) else false)) then true else (bif (bif (decide ((2:Int)≤t.kind)) then (decide (t.kind≤7)) else false) then (!(Zjv (t.kind - 2) (List.getD (Tree.words (t.kids.getD x5.toNat Tree.nil)) (Int.toNat 0) (0:Int)))) else false))=false→(InR (x5+1))∧(N0 (Z3j t d (x5+1)))))))))∧((decide (x5 < (t.kids.length:Int)))=false→Q .ret (L2 [(4,.c (.bool true))] []))):
  AW (Z1 (Z1s N)) Try.f37 Zcw [1,1,1,1,1,0,1,0,0] (Z3j t d x5) (xT N0 (xB 0 (SW (Z1 (Z1s N)) Try.f37 Zcw [1,1,1,1,1,1] Q))):=by
 have e:(AW (Z1 (Z1s N)) Try.f37 Zcw [1,1,1,1,1,0,1,0,0] (Z3j t d x5) (xT N0 (xB 0 (SW (Z1 (Z1s N)) Try.f37 Zcw [1,1,1,1,1,1] Q))))=(let zz5:=(decide ((2:Int)≤t.kind));let zz4:=(!(Zjv (t.kind - 2) (List.getD (Tree.words (t.kids.getD x5.toNat Tree.nil)) (Int.toNat 0) (0:Int))));let zz3:=(!(Zl (Tree.mk (Tree.kind (t.kids.getD x5.toNat Tree.nil)) (Tree.words (t.kids.getD x5.toNat Tree.nil)) (Tree.kids (t.kids.getD x5.toNat Tree.nil))) ((d:Int) - 1)));let zz2:=(((Tree.kind (t.kids.getD x5.toNat Tree.nil)):Int)==10);let zz1:=(bif zz5 then (decide (t.kind≤7)) else false);let zz0:=(bif (zz1 !=zz2) then true else (bif (t.kind==9) then (((Tree.kind (t.kids.getD x5.toNat Tree.nil)):Int) !=1) else false));(((decide ((x5:Int) < (t.kids.length:Int)))=true→((0:Int)≤x5∧x5 < (t.kids.length:Int))∧((InR ((d:Int) - 1))∧(Z7Y ((Tree.mk (Tree.kind (t.kids.getD x5.toNat Tree.nil)) (Tree.words (t.kids.getD x5.toNat Tree.nil)) (Tree.kids (t.kids.getD x5.toNat Tree.nil))),((d:Int) - 1),()))∧(Zj5 ((Tree.mk (Tree.kind (t.kids.getD x5.toNat Tree.nil)) (Tree.words (t.kids.getD x5.toNat Tree.nil)) (Tree.kids (t.kids.getD x5.toNat Tree.nil))),((d:Int) - 1),()) < N)∧((zz3=true→(Q .ret (L2 [(4,.c (.bool false))] [])))∧(zz3=false→(Zu (zz5=true))∧(Zu (zz5=true))∧(Zu (zz5=true))∧((Zu ((!(zz1 !=zz2))=true))∧(Zu ((!(zz1 !=zz2))=true))∧(Zu ((!(zz1 !=zz2))=true))∧(Zu (((!(zz1 !=zz2)) && (t.kind==9))=true))∧(Zu (((!(zz1 !=zz2)) && (t.kind==9))=true))∧((!(zz1 !=zz2))=true→(True→(!(zz1 !=zz2))=true))∧((!(zz1 !=zz2))=true→((t.kind==9)=true→((!(zz1 !=zz2)) && (t.kind==9))=true))∧((zz1 !=zz2)=false→(!(zz1 !=zz2))=true)∧(Zu ((!zz0)=true))∧(Zu (((!zz0) && zz1)=true))∧(Zu (((!zz0) && zz1)=true))∧(((!zz0) && zz1)=true→InR (t.kind - 2))∧(Zu (((!zz0) && zz1)=true))∧(Zu (((!zz0) && zz1)=true))∧(((!zz0) && zz1)=true→(0:Int)≤0∧0 < ((Tree.words (t.kids.getD x5.toNat Tree.nil)).length:Int))∧(Zu (((!zz0) && zz1)=true))∧(Zu (((!zz0) && zz1)=true))∧(Zu (((!zz0) && zz1)=true))∧(((!zz0) && zz1)=true→ZiH ((t.kind - 2),(List.getD (Tree.words (t.kids.getD x5.toNat Tree.nil)) (Int.toNat 0) (0:Int)),()))∧(Zu (((!zz0) && zz1)=true))∧((!zz0)=true→(True→(!zz0)=true))∧((!zz0)=true→(zz1=true→((!zz0) && zz1)=true))∧(zz0=false→(!zz0)=true)∧(((bif zz0 then true else (bif zz1 then zz4 else false))=true→(Q .ret (L2 [(4,.c (.bool false))] [])))∧((bif zz0 then true else (bif zz1 then zz4 else false))=false→(InR ((x5:Int)+1))∧(N0 (Z3j t d ((x5:Int)+1))))))))))∧((decide ((x5:Int) < (t.kids.length:Int)))=false→(Q .ret (L2 [(4,.c (.bool true))] []))))):=by kernel_rfl
 exact e.mpr ⟨fun c_26=> ⟨(h.1 c_26).1,⟨(h.1 c_26).2.1,(h.1 c_26).2.2.1,(h.1 c_26).2.2.2.1,⟨fun c_27=> ((h.1 c_26).2.2.2.2.1 c_27),fun c_27=> ⟨id,id,(by generalize (decide ((2:Int)≤t.kind))=b0;revert b0;decide),⟨id,id,id,id,id,(by generalize ((bif (decide ((2:Int)≤t.kind)) then (decide ((t.kind:Int)≤7)) else false) !=(((Tree.kind (t.kids.getD x5.toNat Tree.nil)):Int)==10))=b0;revert b0;decide),(by generalize ((bif (decide ((2:Int)≤t.kind)) then (decide ((t.kind:Int)≤7)) else false) !=(((Tree.kind (t.kids.getD x5.toNat Tree.nil)):Int)==10))=b0;generalize ((t.kind:Int)==9)=b1;revert b0 b1;decide),(by generalize ((bif (decide ((2:Int)≤t.kind)) then (decide ((t.kind:Int)≤7)) else false) !=(((Tree.kind (t.kids.getD x5.toNat Tree.nil)):Int)==10))=b0;revert b0;decide),id,id,id,((h.1 c_26).2.2.2.2.2 c_27).1,id,id,((h.1 c_26).2.2.2.2.2 c_27).2.1,id,id,id,((h.1 c_26).2.2.2.2.2 c_27).2.2.1,id,(by generalize ((bif (decide ((2:Int)≤t.kind)) then (decide ((t.kind:Int)≤7)) else false) !=(((Tree.kind (t.kids.getD x5.toNat Tree.nil)):Int)==10))=b0;generalize (((Tree.kind (t.kids.getD x5.toNat Tree.nil)):Int) !=1)=b1;generalize ((t.kind:Int)==9)=b2;revert b0 b1 b2;decide),(by generalize ((bif (decide ((2:Int)≤t.kind)) then (decide ((t.kind:Int)≤7)) else false) !=(((Tree.kind (t.kids.getD x5.toNat Tree.nil)):Int)==10))=b0;generalize (((Tree.kind (t.kids.getD x5.toNat Tree.nil)):Int) !=1)=b1;generalize (decide ((2:Int)≤t.kind))=b2;generalize (decide ((t.kind:Int)≤7))=b3;generalize ((t.kind:Int)==9)=b4;revert b0 b1 b2 b3 b4;decide),(by generalize ((bif (decide ((2:Int)≤t.kind)) then (decide ((t.kind:Int)≤7)) else false) !=(((Tree.kind (t.kids.getD x5.toNat Tree.nil)):Int)==10))=b0;generalize (((Tree.kind (t.kids.getD x5.toNat Tree.nil)):Int) !=1)=b1;generalize ((t.kind:Int)==9)=b2;revert b0 b1 b2;decide),⟨fun c_28=> (((h.1 c_26).2.2.2.2.2 c_27).2.2.2.1 c_28),fun c_28=> ⟨(((h.1 c_26).2.2.2.2.2 c_27).2.2.2.2 c_28).1,(((h.1 c_26).2.2.2.2.2 c_27).2.2.2.2 c_28).2⟩⟩⟩⟩⟩⟩⟩,fun c_26=> (h.2 c_26)⟩
def ZAd(N:Nat)(t:Tree)(d:Int):Prop:=AW (Z1 (Z1s N)) Try.f37 Zcw [] (Zk (Zlj.can (t,d,())) []) (EQ Try.f37 (ZqZ (t,d,())) [])
theorem Zyl(c79:CT 79 Zdf)(hb:∀ (N:Nat) (t:Tree) (d:Int) (_:Unit),Z7Y (t,d,())→Zj5 (t,d,()) < N+1→ZAd N t d):CT 37 ZaD:=
 YB (μ:=Zj5) (l:=[(79,Zdf)]) Zm rfl (⟨c79,trivial⟩) Zcw Try.func37 rfl rfl 2 (fun _=> rfl) (by decide) (fun N ⟨t,d,_⟩=> hb N t d ())
end
end
end Go.AM.Ytpjenobkibfpcaa
namespace Go.AM.Ytpjenobkibfpcaa
open Go.AM Go.Proofs
theorem Z4J:∀ (l:List Int),trim l=[]↔∀ i:Nat,l.getD i 0=0
 | []=> by simp [trim]
 | x ::r=> by
  have ih:=Z4J r
  constructor
  ·intro h i
   simp only [trim] at h
   split at h
   ·rename_i hr
    split at h
    ·cases i with
     | zero=> simpa
     | succ i=> simpa using (ih.1 hr) i
    ·cases h
   ·cases h
  ·intro h
   have h0:=h 0
   have hr:trim r=[]:=ih.2 fun i=> by simpa using h (i+1)
   simp only [trim,hr]
   simp at h0
   simp [h0]
theorem Z2v(x:Int)(r:List Int):trim (x ::r)=if trim r=[]∧x=0 then [] else x ::trim r:=by
 simp only [trim]
 split
 ·rename_i h
  simp only [h]
  split <;> simp_all
 ·rename_i h
  simp [h]
theorem Zbt:∀ (a b:List Int),trim a=trim b↔∀ i:Nat,a.getD i 0=b.getD i 0
 | [],b=> by
  rw [show trim []=[] from rfl,eq_comm,Z4J]
  simp [eq_comm]
 | x ::r,[]=> by
  rw [show trim []=[] from rfl,Z4J]
  simp
 | x ::r,y ::s=> by
  have ih:=Zbt r s
  constructor
  ·intro h i
   have key:x=y∧trim r=trim s:=by
    rw [Z2v,Z2v] at h
    split at h <;> split at h <;> simp_all
   cases i with
   | zero=> simpa using key.1
   | succ i=> simpa using ih.1 key.2 i
  ·intro h
   have h0:x=y:=by simpa using h 0
   have hr:trim r=trim s:=ih.2 fun i=> by simpa using h (i+1)
   rw [Z2v,Z2v,h0,hr]
def ZvX(l:List Tree):Prop:=∀ x∈l,x.kind=0→x=Tree.nil
theorem JT(x:Tree)(r:List Tree):Yi (x ::r)=if Yi r=[]∧x.kind=0 then [] else x ::Yi r:=by
 simp only [Yi]
 split
 ·rename_i h
  simp only [h]
  split <;> simp_all
 ·rename_i h
  simp [h]
theorem Z3N:∀ (l:List Tree),ZvX l→(Yi l=[]↔∀ i:Nat,l.getD i Tree.nil=Tree.nil)
 | [],_=> by simp [Yi]
 | x ::r,hn=> by
  have ih:=Z3N r (fun y hy=> hn y (List.mem_cons_of_mem _ hy))
  have hx:=hn x (List.mem_cons_self ..)
  rw [JT]
  constructor
  ·intro h i
   split at h
   ·rename_i hc
    cases i with
    | zero=> simpa using hx hc.2
    | succ i=> simpa using (ih.1 hc.1) i
   ·cases h
  ·intro h
   have h0:x=Tree.nil:=by simpa using h 0
   have hr:Yi r=[]:=ih.2 fun i=> by simpa using h (i+1)
   rw [if_pos ⟨hr,by rw [h0];rfl⟩]
theorem Z8P:∀ (a b:List Tree),ZvX a→ZvX b→(Yi a=Yi b↔∀ i:Nat,a.getD i Tree.nil=b.getD i Tree.nil)
 | [],b,_,hb=> by
  rw [show Yi []=[] from rfl,eq_comm,Z3N b hb]
  simp [eq_comm]
 | x ::r,[],ha,_=> by
  rw [show Yi []=[] from rfl,Z3N _ ha]
  simp
 | x ::r,y ::s,ha,hb=> by
  have ih:=Z8P r s (fun y hy=> ha y (List.mem_cons_of_mem _ hy)) (fun y hy=> hb y (List.mem_cons_of_mem _ hy))
  have hx:=ha x (List.mem_cons_self ..)
  have hy:=hb y (List.mem_cons_self ..)
  constructor
  ·intro h i
   have key:x=y∧Yi r=Yi s:=by
    rw [JT,JT] at h
    split at h <;> split at h
    ·rename_i h1 h2
     exact ⟨(hx h1.2).trans (hy h2.2).symm,h1.1.trans h2.1.symm⟩
    ·cases h
    ·cases h
    ·simpa using h
   cases i with
   | zero=> simpa using key.1
   | succ i=> simpa using ih.1 key.2 i
  ·intro h
   have h0:x=y:=by simpa using h 0
   have hr:Yi r=Yi s:=ih.2 fun i=> by simpa using h (i+1)
   rw [JT,JT,h0,hr]
theorem ZfR:Z4 Tree.nil=Tree.nil:=by simp [Tree.nil,Z4]
theorem Z8w(t:Tree):(Z4 t).kind=t.kind:=by
 obtain ⟨k,w,ks⟩:=t
 simp only [Z4]
 split
 ·rename_i h;simp [h,Tree.nil]
 ·split
  ·rename_i h;simp [h]
  ·try rfl
theorem Z8z:∀ (l:List Tree),ZvX (Yf l)
 | []=> by intro x hx;simp [Yf] at hx
 | t ::r=> by
  intro x hx hk
  simp only [Yf,List.mem_cons] at hx
  rcases hx with rfl | hx
  ·rw [Z8w] at hk
   obtain ⟨k,w,ks⟩:=t
   simp only [Tree.kind_mk] at hk
   simp [Z4,hk]
  ·exact Z8z r x hx hk
theorem Z1o:∀ (l:List Tree) (i:Nat),(Yf l).getD i Tree.nil=Z4 (l.getD i Tree.nil)
 | [],i=> by simp [Yf,ZfR]
 | t ::r,0=> by simp [Yf]
 | t ::r,i+1=> by simpa [Yf] using Z1o r i
theorem Zh3(a b:List Tree):Yf a=Yf b↔a.length=b.length∧∀ i:Nat,Z4 (a.getD i Tree.nil)=Z4 (b.getD i Tree.nil):=by
 constructor
 ·intro h
  refine ⟨by rw [←Z1n a,h,Z1n],fun i=> ?_⟩
  rw [←Z1o,h,Z1o]
 ·rintro ⟨hl,h⟩
  apply List.ext_getElem (by rw [Z1n,Z1n,hl])
  intro i h1 h2
  have:=h i
  rw [←Z1o,←Z1o] at this
  simpa [List.getD,h1,h2] using this
theorem Z07(a b:Tree):Z4 a=Z4 b↔a.kind=b.kind∧(a.kind=0∨(if a.kind=1 then (∀ i:Nat,a.words.getD i 0=b.words.getD i 0) else a.words=b.words∧a.kids.length=b.kids.length)∧∀ i:Nat,Z4 (a.kids.getD i Tree.nil)=Z4 (b.kids.getD i Tree.nil)):=by
 obtain ⟨k,w,ks⟩:=a
 obtain ⟨k',w',ks'⟩:=b
 show _↔k=k'∧(k=0∨(if k=1 then (∀ i:Nat,w.getD i 0=w'.getD i 0) else w=w'∧ks.length=ks'.length)∧∀ i:Nat,Z4 (ks.getD i Tree.nil)=Z4 (ks'.getD i Tree.nil))
 by_cases hk:k=k'
 ·subst hk
  simp only [true_and]
  by_cases h0:k=0
  ·simp [Z4,h0]
  ·by_cases h1:k=1
   ·subst h1
    simp only [Z4,if_neg h0,if_true,Tree.mk.injEq,true_and,Zbt,Z8P _ _ (Z8z _) (Z8z _),Z1o]
    simp
   ·simp only [Z4,if_neg h0,if_neg h1,Tree.mk.injEq,true_and,Zh3]
    constructor
    ·rintro ⟨h2,h3,h4⟩;exact .inr ⟨⟨h2,h3⟩,h4⟩
    ·rintro (h | ⟨⟨h2,h3⟩,h4⟩)
     ·exact absurd h h0
     ·exact ⟨h2,h3,h4⟩
 ·simp only [hk,false_and,iff_false]
  intro h
  have:=congrArg Tree.kind h
  rw [Z8w,Z8w] at this
  exact hk this
end Go.AM.Ytpjenobkibfpcaa
namespace Go.AM.Ytpjenobkibfpcaa
open Go.AM Go.Proofs
theorem Zi2{a b:Tree}(h:Z4 a=Z4 b)(h0:a.kind≠0)(i:Nat):a.words.getD i 0=b.words.getD i 0:=by
 obtain ⟨_,h2⟩:=(Z07 a b).1 h
 rcases h2 with h2 | ⟨h2,_⟩
 ·exact absurd h2 h0
 ·split at h2
  ·exact h2 i
  ·rw [h2.1]
theorem Zl1{a b:Tree}(h:Z4 a=Z4 b)(h0:a.kind≠0)(i:Nat):Z4 (a.kids.getD i Tree.nil)=Z4 (b.kids.getD i Tree.nil):=by
 obtain ⟨_,h2⟩:=(Z07 a b).1 h
 rcases h2 with h2 | ⟨_,h2⟩
 ·exact absurd h2 h0
 ·exact h2 i
theorem Zeu(t:Tree)(i:Int):Zo (JA t i)≤Zo t∧(i < t.kids.length→0≤i→Zo (JA t i) < Zo t):=by
 obtain ⟨k,w,ks⟩:=t
 unfold JA
 have h1:Zo Tree.nil=1:=by simp [Tree.nil,Zo,Zf]
 split
 ·simp only [h1,Zo];omega
 ·simp only [Tree.kids_mk]
  by_cases hi:i.toNat < ks.length
  ·have:=Z0O hi
   simp only [Zo];omega
  ·rw [List.getD,List.getElem?_eq_none (by omega)]
   simp only [Option.getD_none,h1,Zo];omega
theorem ZhE:Contract Try.prog cfg 106 Jl:=by
 refine Zve Zz5 Zpm c91 ?_
 rintro N a b _ hp hN
 have la:a.words.length+a.kids.length < Zo a:=by obtain ⟨k,w,ks⟩:=a;have:=ZA ks;simp only [Zo,Tree.words_mk,Tree.kids_mk];omega
 have lb:b.words.length+b.kids.length < Zo b:=by obtain ⟨k,w,ks⟩:=b;have:=ZA ks;simp only [Zo,Tree.words_mk,Tree.kids_mk];omega
 simp only [Z1Z,ZfV] at hp hN
 have no:¬Z4 a=Z4 b→Ys cfg Try.f106.ntmps Try.f106.results.toList (Z8k (a,b,())) [] .ret (⟨[(4,.c (.bool false))],[],[]⟩:LSt U):=by
  intro h
  have e:YF (Z4 a) (Z4 b)=false:=YE.2 h
  simp only [Z8k,e]
  exact ⟨⟨rfl,⟨rfl,trivial⟩,trivial⟩,trivial⟩
 refine ZBi N _ _ _ ?_;(try simp only [vcT,forall_eq])
 (simp only [vcS]);(try simp only [vcT])
 refine ⟨fun hc=> ?_,fun hc=> ?_⟩
 ·have e:YF (Z4 a) (Z4 b)=(a.kind==b.kind):=by
   by_cases hk:a.kind=b.kind
   ·have h0:a.kind=0:=by rcases hc with h | h;exact absurd hk h;exact h
    rw [Yw.2 ((Z07 a b).2 ⟨hk,.inl h0⟩)]
    simp [hk]
   ·rw [YE.2 (fun h=> hk ((Z07 a b).1 h).1)]
    simp [hk]
  simp only [Z8k,e]
  exact ⟨⟨rfl,⟨rfl,trivial⟩,trivial⟩,trivial⟩
 ·refine ⟨fun _=> by simp only [ZdV];omega,fun h h'=> ⟨h,h'⟩,fun hd=> no ?_,fun hd=> ?_⟩
  ·intro h
   obtain ⟨_,h2⟩:=(Z07 a b).1 h
   rcases h2 with h2 | ⟨h2,_⟩
   ·exact hc.2 h2
   ·rw [if_neg hd.1] at h2
    rcases hd.2 with h3 | h3
    ·exact h3 (by omega)
    ·exact h3 h2.1
  ·refine Z6 (ι:=Int) (fun p=> Z7C a b p) (fun p=> 0≤p∧p≤2000000000000∧∀ j:Nat,j < p.toNat→a.words.getD j 0=b.words.getD j 0) (fun p=> (2000000000000 - p).toNat) 0 rfl ⟨by omega,by omega,fun j hj=> by simp at hj⟩ ?_
   rintro i ⟨h1,h2,h3⟩
   refine Zqr N _ _ _ _ _ ?_;(try simp only [vcT,forall_eq])
   (simp only [vcS]);(try simp only [vcT])
   have wa:∀ t:Tree,YC t i=t.words.getD i.toNat 0:=fun t=> by unfold YC;rw [if_neg (by omega)]
   refine ⟨fun hi=> ⟨trivial,trivial,fun hn=> no fun h=> hn ?_,fun he=> ⟨?_,?_⟩⟩,fun hi=> ?_⟩
   ·rw [wa,wa]
    exact Zi2 h hc.2 _
   ·unfold InR;split at hi <;> omega
   ·refine ⟨i+1,rfl,⟨by omega,by split at hi <;> omega,fun j hj=> ?_⟩,by split at hi <;> omega⟩
    by_cases hj':j < i.toNat
    ·exact h3 j hj'
    ·have:j=i.toNat:=by omega
     rw [this,←wa,←wa]
     exact he
   ·have hw:∀ j:Nat,a.words.getD j 0=b.words.getD j 0:=fun j=> by
     by_cases hj:j < i.toNat
     ·exact h3 j hj
     ·split at hi <;> rw [List.getD,List.getD,List.getElem?_eq_none (by omega),List.getElem?_eq_none (by omega)]
    refine Z6 (ι:=Int) (fun p=> Z7B a b p) (fun p=> 0≤p∧p≤2000000000000∧∀ j:Nat,j < p.toNat→Z4 (a.kids.getD j Tree.nil)=Z4 (b.kids.getD j Tree.nil)) (fun p=> (2000000000000 - p).toNat) 0 rfl ⟨by omega,by omega,fun j hj=> by simp at hj⟩ ?_
    rintro q ⟨h5,h6,h7⟩
    refine Zqq N _ _ _ _ _ ?_;(try simp only [vcT,forall_eq])
    (simp only [vcS]);(try simp only [vcT])
    have ka:∀ t:Tree,JA t q=t.kids.getD q.toNat Tree.nil:=fun t=> by unfold JA;rw [if_neg (by omega)]
    have ma:=Zeu a q
    have mb:=Zeu b q
    try (simp only [Tree.eta,Edit.eta,Tree.kind_mk,Tree.words_mk,Tree.kids_mk])
    refine ⟨fun hq=> ⟨trivial,trivial,?_,?_,fun hn=> no fun h=> ?_,fun he=> ⟨?_,?_⟩⟩,fun hq=> ?_⟩
    ·simp only [Z1Z];omega
    ·simp only [ZfV];split at hq <;> omega
    ·rw [YE] at hn
     apply hn
     rw [ka,ka]
     exact Zl1 h hc.2 _
    ·unfold InR;split at hq <;> omega
    ·refine ⟨q+1,rfl,⟨by omega,by split at hq <;> omega,fun j hj=> ?_⟩,by split at hq <;> omega⟩
     by_cases hj':j < q.toNat
     ·exact h7 j hj'
     ·have:j=q.toNat:=by omega
      rw [this,←ka,←ka]
      exact Yw.1 he
    ·have hk:∀ j:Nat,Z4 (a.kids.getD j Tree.nil)=Z4 (b.kids.getD j Tree.nil):=fun j=> by
      by_cases hj:j < q.toNat
      ·exact h7 j hj
      ·split at hq <;> rw [List.getD,List.getD,List.getElem?_eq_none (by omega),List.getElem?_eq_none (by omega)]
     have e:YF (Z4 a) (Z4 b)=true:=by
      rw [Yw,Z07]
      refine ⟨hc.1,.inr ⟨?_,hk⟩⟩
      split
      ·exact hw
      ·rename_i h1
       rcases hd with hd | hd
       ·exact absurd hd h1
       ·exact ⟨hd.2,by have:=hd.1;omega⟩
     simp only [Z8k,e]
     exact ⟨⟨rfl,⟨rfl,trivial⟩,trivial⟩,trivial⟩
end Go.AM.Ytpjenobkibfpcaa
