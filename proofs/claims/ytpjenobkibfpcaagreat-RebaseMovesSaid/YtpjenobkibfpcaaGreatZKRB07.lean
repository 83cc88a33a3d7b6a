import Derived.Test.YtpjenobkibfpcaaGreatZmZ
import Derived.Test.YtpjenobkibfpcaaGreatChecked
import Derived.Test.YtpjenobkibfpcaaGreatRows
import Derived.Test.YtpjenobkibfpcaaGreatZmX
import Derived.Test.YtpjenobkibfpcaaGreatZmXE
import Derived.ProofKit
import Derived.Test.YtpjenobkibfpcaaGreatZKD07
set_option linter.unusedSimpArgs false
set_option linter.unusedVariables false
namespace Go.AM.YtpjenobkibfpcaaGreat
open Go.AM Go.Proofs
def el:Ty->TypeId
 | .u64=> 101
 | .u8=> 5
 | .int=> 3
 | .tree=> 25
 | .wedit=> 113
 | .edit=> 30
 | .kid=> 115
 | .op=> 103
 | .piece=> 173
 | .unit=> 200
 | .pair=> 202
 | .left=> 110
 | .deed=> 56
 | .hdeed=> 82
def tb:Tables U:=
 {el:=el
  sl:=[(22,.u64),(23,.tree),(26,.wedit),(27,.kid),(28,.op),(39,.edit),(50,.deed),(78,.hdeed),(166,.piece),(182,.int),(188,.pair),(191,.unit),(221,.u8)]
  var:=[(2,false,[.int .i64 0]),
   (3,false,[.int .i64 0]),
   (4,false,[.bool false]),
   (5,false,[.int .u8 0]),
   (6,false,[.int .u8 0]),
   (7,true,[.int .i64 0,.int .i64 0,.bool false,.int .u8 0]),
   (8,true,[.int .i64 0,.int .i64 0,.bool false,.int .u8 0]),
   (12,false,[.int .u64 0]),
   (15,false,[.nilp]),
   (16,false,[.nilp]),
   (17,false,[.nilp]),
   (18,true,[.nilp]),
   (19,true,[.nilp]),
   (21,false,[.int .i32 0]),
   (22,false,[.nils]),
   (23,false,[.nils]),
   (24,true,[.int .i64 0,.nils,.nils]),
   (25,true,[.int .i64 0,.nils,.nils]),
   (26,false,[.nils]),
   (27,false,[.nils]),
   (28,false,[.nils]),
   (29,true,[.int .i64 0,.int .i64 0,.nils,.nils,.int .i64 0,.nils,.nils,.nils,.nils,.int .i64 0,.nils]),
   (30,true,[.int .i64 0,.int .i64 0,.nils,.nils,.int .i64 0,.nils,.nils,.nils,.nils,.int .i64 0,.nils]),
   (33,false,[.int .i64 0]),
   (39,false,[.nils]),
   (50,false,[.nils]),
   (52,false,[.nilp]),
   (55,true,[.int .i64 0,.int .i64 0,.int .i64 0,.int .i64 0,.nils,.nils,.int .i64 0,.nils,.nils,.nils,.nils,.int .i64 0,.nils]),
   (56,true,[.int .i64 0,.int .i64 0,.int .i64 0,.int .i64 0,.nils,.nils,.int .i64 0,.nils,.nils,.nils,.nils,.int .i64 0,.nils]),
   (62,false,[.nilp]),
   (64,true,[.int .i64 0,.nils,.nils,.int .i64 0,.nils,.nils,.nils,.nils]),
   (65,true,[.int .i64 0,.nils,.nils,.int .i64 0,.nils,.nils,.nils,.nils]),
   (71,false,[.nilp]),
   (78,false,[.nils]),
   (79,false,[.nilp]),
   (81,true,[.int .i64 0,.int .i64 0,.int .i64 0,.int .i64 0,.int .i64 0,.nils,.nils,.int .i64 0,.nils,.nils,.nils,.nils,.int .i64 0,.nils]),
   (82,true,[.int .i64 0,.int .i64 0,.int .i64 0,.int .i64 0,.int .i64 0,.nils,.nils,.int .i64 0,.nils,.nils,.nils,.nils,.int .i64 0,.nils]),
   (85,false,[.nilp]),
   (86,true,[.nilp,.nilp,.nilp,.nilp]),
   (87,false,[.nilp]),
   (88,false,[.nilp]),
   (89,true,[.nilp,.nilp,.nilp,.nilp]),
   (90,true,[.nilp,.nilp,.nilp,.nilp,.nilp,.nilp,.nilp,.nilp,.nilp,.nilp]),
   (91,true,[.nilp,.nilp,.nilp,.nilp,.nilp,.nilp,.nilp,.nilp,.nilp,.nilp]),
   (101,false,[.int .u64 0]),
   (102,true,[.int .i64 0,.int .i64 0,.nils,.int .i64 0,.int .i64 0,.nils,.nils,.int .i64 0,.nils,.nils,.nils,.nils,.int .i64 0,.nils]),
   (103,true,[.int .i64 0,.int .i64 0,.nils,.int .i64 0,.int .i64 0,.nils,.nils,.int .i64 0,.nils,.nils,.nils,.nils,.int .i64 0,.nils]),
   (104,false,[.nilp]),
   (105,true,[.bool false,.bool false]),
   (106,true,[.bool false,.bool false]),
   (109,true,[.int .i64 0,.int .i64 0,.nils,.nils,.int .i64 0,.nils,.nils,.nils,.nils,.int .i64 0,.nils,.int .i64 0,.int .i64 0,.nils,.nils,.int .i64 0,.nils,.nils,.nils,.nils,.int .i64 0,.nils,.bool false,.bool false]),
   (110,true,[.int .i64 0,.int .i64 0,.nils,.nils,.int .i64 0,.nils,.nils,.nils,.nils,.int .i64 0,.nils,.int .i64 0,.int .i64 0,.nils,.nils,.int .i64 0,.nils,.nils,.nils,.nils,.int .i64 0,.nils,.bool false,.bool false]),
   (112,true,[.int .i64 0,.int .u8 0,.int .u64 0,.int .u64 0]),
   (113,true,[.int .i64 0,.int .u8 0,.int .u64 0,.int .u64 0]),
   (114,true,[.int .i64 0,.int .i64 0,.int .i64 0,.nils,.nils,.int .i64 0,.nils,.nils,.nils,.nils,.int .i64 0,.nils]),
   (115,true,[.int .i64 0,.int .i64 0,.int .i64 0,.nils,.nils,.int .i64 0,.nils,.nils,.nils,.nils,.int .i64 0,.nils]),
   (123,true,[.int .i64 0,.nils,.nils,.nils,.nils]),
   (124,true,[.int .i64 0,.nils,.nils,.nils,.nils]),
   (130,true,[.int .i64 0,.nils,.nils,.nils]),
   (131,true,[.int .i64 0,.nils,.nils,.nils]),
   (136,true,[.int .i64 0,.nils,.nils,.int .i64 0,.nils,.nils,.nils]),
   (137,true,[.int .i64 0,.nils,.nils,.int .i64 0,.nils,.nils,.nils]),
   (138,true,[.int .i64 0,.nils,.nils,.int .i64 0,.int .i64 0,.int .i64 0,.nils,.nils,.int .i64 0,.nils,.nils,.nils,.nils,.int .i64 0,.nils]),
   (139,true,[.int .i64 0,.nils,.nils,.int .i64 0,.int .i64 0,.int .i64 0,.nils,.nils,.int .i64 0,.nils,.nils,.nils,.nils,.int .i64 0,.nils]),
   (141,true,[.int .i64 0,.nils,.nils,.int .i64 0,.int .i64 0,.int .i64 0,.nils,.nils,.int .i64 0,.nils,.nils,.nils,.nils,.int .i64 0,.nils]),
   (142,true,[.int .i64 0,.nils,.nils,.int .i64 0,.int .i64 0,.int .i64 0,.nils,.nils,.int .i64 0,.nils,.nils,.nils,.nils,.int .i64 0,.nils]),
   (166,false,[.nils]),
   (169,false,[.nilp]),
   (170,true,[.nilp,.nils,.nils,.nils,.nils]),
   (171,true,[.nilp,.nils,.nils,.nils,.nils]),
   (172,true,[.int .i64 0,.int .i64 0,.int .i64 0,.nils,.int .i64 0,.int .i64 0,.nils,.nils,.int .i64 0,.nils,.nils,.nils,.nils,.int .i64 0,.nils,.int .i64 0,.int .i64 0,.nils,.int .i64 0,.int .i64 0,.nils,.nils,.int .i64 0,.nils,.nils,.nils,.nils,.int .i64 0,.nils]),
   (173,true,[.int .i64 0,.int .i64 0,.int .i64 0,.nils,.int .i64 0,.int .i64 0,.nils,.nils,.int .i64 0,.nils,.nils,.nils,.nils,.int .i64 0,.nils,.int .i64 0,.int .i64 0,.nils,.int .i64 0,.int .i64 0,.nils,.nils,.int .i64 0,.nils,.nils,.nils,.nils,.int .i64 0,.nils]),
   (176,false,[.nilp]),
   (177,true,[.nils,.nils,.nils]),
   (178,true,[.nils,.nils,.nils]),
   (181,false,[.nilp]),
   (182,false,[.nils]),
   (188,false,[.nils]),
   (191,false,[.nils]),
   (199,true,[.int .i64 0,.int .i64 0,.int .i64 0,.nils,.nils,.int .i64 0,.int .i64 0,.nils,.nils,.int .i64 0,.nils,.nils,.nils,.nils,.int .i64 0,.nils,.bool false]),
   (200,true,[.int .i64 0,.int .i64 0,.int .i64 0,.nils,.nils,.int .i64 0,.int .i64 0,.nils,.nils,.int .i64 0,.nils,.nils,.nils,.nils,.int .i64 0,.nils,.bool false]),
   (201,true,[.int .i64 0,.int .i64 0,.int .i64 0,.int .i64 0,.nils,.nils,.int .i64 0,.int .i64 0,.nils,.nils,.int .i64 0,.nils,.nils,.nils,.nils,.int .i64 0,.nils,.bool false,.int .i64 0,.int .i64 0,.int .i64 0,.nils,.nils,.int .i64 0,.int .i64 0,.nils,.nils,.int .i64 0,.nils,.nils,.nils,.nils,.int .i64 0,.nils,.bool false]),
   (202,true,[.int .i64 0,.int .i64 0,.int .i64 0,.int .i64 0,.nils,.nils,.int .i64 0,.int .i64 0,.nils,.nils,.int .i64 0,.nils,.nils,.nils,.nils,.int .i64 0,.nils,.bool false,.int .i64 0,.int .i64 0,.int .i64 0,.nils,.nils,.int .i64 0,.int .i64 0,.nils,.nils,.int .i64 0,.nils,.nils,.nils,.nils,.int .i64 0,.nils,.bool false]),
   (217,true,[.int .u8 0,.int .u8 0,.int .u8 0,.int .u8 0,.int .u8 0,.int .u8 0,.int .u8 0,.int .u8 0]),
   (221,false,[.nils]),
   (227,false,[.nilp]),
   (228,true,[.nils,.int .i64 0]),
   (229,true,[.nils,.int .i64 0]),
   (259,true,[.int .i64 0,.int .i64 0,.int .i64 0,.int .i64 0,.int .i64 0,.int .i64 0]),
   (267,false,[.int .u32 0]),
   (268,false,[.int .u8 0]),
   (269,false,[.int .u8 0]),
   (271,false,[.nilp]),
   (272,false,[.int .i32 0]),
   (273,false,[.int .i32 0])]
  fld:=[(7,0,0,2),(7,1,1,3),(7,2,2,4),(7,3,3,6),(8,0,0,2),(8,1,1,3),(8,2,2,4),(8,3,3,6),(18,0,0,17),(19,0,0,17),(24,0,0,3),(24,1,1,22),(24,2,2,23),(25,0,0,3),(25,1,1,22),(25,2,2,23),(29,0,0,3),(29,1,1,25),(29,2,4,25),(29,3,7,26),(29,4,8,27),(29,5,9,3),(29,6,10,28),(30,0,0,3),(30,1,1,25),(30,2,4,25),(30,3,7,26),(30,4,8,27),(30,5,9,3),(30,6,10,28),(55,0,0,3),(55,1,1,3),(55,2,2,30),(56,0,0,3),(56,1,1,3),(56,2,2,30),(64,0,0,25),(64,1,3,25),(64,2,6,39),(64,3,7,39),(65,0,0,25),(65,1,3,25),(65,2,6,39),(65,3,7,39),(81,0,0,3),(81,1,1,3),(81,2,2,3),(81,3,3,30),(82,0,0,3),(82,1,1,3),(82,2,2,3),(82,3,3,30),(90,0,0,71),(90,1,1,86),(90,2,5,87),(90,3,6,89),(91,0,0,71),(91,1,1,86),(91,2,5,87),(91,3,6,89),(102,0,0,3),(102,1,1,3),(102,2,2,23),(102,3,3,30),(103,0,0,3),(103,1,1,3),(103,2,2,23),(103,3,3,30),(105,0,0,4),(105,1,1,4),(106,0,0,4),(106,1,1,4),(109,0,0,30),(109,1,11,30),(109,2,22,4),(109,3,23,4),(110,0,0,30),(110,1,11,30),(110,2,22,4),(110,3,23,4),(112,0,0,3),(112,1,1,5),(112,2,2,101),(112,3,3,101),(113,0,0,3),(113,1,1,5),(113,2,2,101),(113,3,3,101),(114,0,0,3),(114,1,1,30),(115,0,0,3),(115,1,1,30),(123,0,0,25),(123,1,3,39),(123,2,4,39),(124,0,0,25),(124,1,3,39),(124,2,4,39),(130,0,0,25),(130,1,3,39),(131,0,0,25),(131,1,3,39),(136,0,0,25),(136,1,3,25),(136,2,6,39),(137,0,0,25),(137,1,3,25),(137,2,6,39),(138,0,0,25),(138,1,3,3),(138,2,4,30),(139,0,0,25),(139,1,3,3),(139,2,4,30),(141,0,0,25),(141,1,3,3),(141,2,4,30),(142,0,0,25),(142,1,3,3),(142,2,4,30),(170,0,0,104),(170,1,1,28),(170,2,2,28),(170,3,3,23),(170,4,4,23),(171,0,0,104),(171,1,1,28),(171,2,2,28),(171,3,3,23),(171,4,4,23),(172,0,0,3),(172,1,1,103),(172,2,15,103),(173,0,0,3),(173,1,1,103),(173,2,15,103),(177,0,0,28),(177,1,1,23),(177,2,2,23),(178,0,0,28),(178,1,1,23),(178,2,2,23),(199,0,0,3),(199,1,1,3),(199,2,2,25),(199,3,5,30),(199,4,16,4),(200,0,0,3),(200,1,1,3),(200,2,2,25),(200,3,5,30),(200,4,16,4),(201,0,0,3),(201,1,1,200),(201,2,18,200),(202,0,0,3),(202,1,1,200),(202,2,18,200),(228,0,0,28),(228,1,1,3),(229,0,0,28),(229,1,1,3)]
  arr:=[(86,4,85),(89,4,88),(217,8,5),(259,6,3)]
  eqs:=[7,8,105,106,112,113] }
def cfg:Cfg U:=tb.cfg K
theorem ZHm:tb.var.all (Zyt Tryz.prog)=true:=V4
theorem ZIX:tb.sl.all (slB Tryz.prog tb.el)=true:=V4
theorem ZHP:tb.fld.all (ZE7 Tryz.prog)=true:=V4
theorem ZHV:tb.arr.all (ZFe Tryz.prog)=true:=V4
theorem ZIZ:∀ t,elB Tryz.prog K tb t=true:=by
 intro t
 cases t
 .kernel_rfl
 .kernel_rfl
 .kernel_rfl
 .kernel_rfl
 .kernel_rfl
 .kernel_rfl
 .kernel_rfl
 .kernel_rfl
 .kernel_rfl
 .kernel_rfl
 .kernel_rfl
 .kernel_rfl
 .kernel_rfl
 .kernel_rfl
theorem Zi:CfgOk Tryz.prog cfg:=Zs6 ZJ6 ZHm ZIX ZHP ZHV ZIZ V4 V4
abbrev sU(T:Ty)(l:List (El T))(t:Tail):C U:= .slice (U:=U) T l t
noncomputable abbrev AW(K:Known U)(f:Func)(lv:Zc U)(p:List Nat):=awp cfg K (Yn cfg K) f.ntmps lv (cd f p)
noncomputable abbrev SW(K:Known U)(f:Func)(lv:Zc U)(p:List Nat):=Zi0 cfg K (Yn cfg K) f.ntmps lv (cd f p)
abbrev EQ(f:Func):=Y3 cfg f.ntmps f.results.toList
abbrev QT:=AExit->LSt U->Prop
abbrev NT:=LSt U->Prop
abbrev CT(k:FuncId)(s:Fs U):Prop:=Contract Tryz.prog cfg k s
abbrev xB:=@AExit.inBlock U
abbrev xT:=@AExit.then U
abbrev ci(x:Int):C U:= .int .i64 x
abbrev L2(e:List (Nat × V U))(m:List (Name × List (C U))):LSt U:=⟨e,m,[]⟩
abbrev pL(n:Nat):Nat × V U:=(n,.ptr (.loc n) 0)
abbrev pB(n:Nat)(b:Bool):Nat × V U:=(n,.c (.bool b))
abbrev pI(n:Nat)(x:Int):Nat × V U:=(n,.c (.int .i64 x))
def lvl(l:List (List Nat × List Nat)):Zc U:=fun i=> ((l.getD i ([],[])).1.map fun k=> (k,[]),(l.getD i ([],[])).2.map fun k=> (.loc k,[]))
instance (n:Nat):OfNat (Nat × List (Sk U)) n:=⟨(n,[])⟩
instance (n:Nat):OfNat (Name × List (Sk U)) n:=⟨(.loc n,[])⟩
abbrev an(n:Nat)(l:List (Sk U)):List (Sk U):=List.replicate n .any++l
def lvk(l:List (List (Nat × List (Sk U)) × List (Name × List (Sk U)))):Zc U:=fun i=> l.getD i ([],[])
abbrev zc0:List (C U):=[.int .u8 0,.int .u8 0,.int .u8 0,.int .u8 0,.int .u8 0,.int .u8 0,.int .u8 0,.int .u8 0]
abbrev zc1:List (C U):=[.int .i64 0,.int .i64 0,.nils,.nils,.int .i64 0,.nils,.nils,.nils,.nils,.int .i64 0,.nils]
abbrev zc2:List (C U):=[.int .i64 0,.int .i64 0,.nils,.nils,.int .i64 0,.nils,.nils,.nils,.nils,.int .i64 0,.nils,.int .i64 0,.int .i64 0,.nils,.nils,.int .i64 0,.nils,.nils,.nils,.nils,.int .i64 0,.nils,.bool false,.bool false]
end Go.AM.YtpjenobkibfpcaaGreat
namespace Go.AM.YtpjenobkibfpcaaGreat
open Go.AM Go.Proofs Go.Proofs.YtpjenobkibfpcaaGreat Go.ChangeShapes Go.WideShapes Go.RowKit
theorem own:ownKnob Tryz.prog.godebug=none:=V4
theorem ZAe:laidOutB Tryz.prog=true:=V4
theorem Zs4:TreeTypes cfg:=⟨rfl,rfl,⟨_,rfl⟩,⟨_,rfl⟩,⟨_,rfl,rfl⟩,⟨_,_,rfl,rfl⟩,⟨_,_,rfl,rfl,rfl⟩,⟨_,_,rfl,rfl,rfl⟩⟩
theorem ZsV:EditTypes cfg:=⟨⟨_,rfl,rfl⟩,⟨_,_,rfl,rfl⟩,⟨_,_,rfl,rfl⟩,⟨_,_,rfl,rfl⟩,⟨_,_,rfl,rfl⟩,⟨_,rfl,rfl⟩,⟨_,_,rfl,rfl⟩,rfl,⟨_,rfl,rfl⟩,⟨_,_,rfl,rfl⟩,⟨_,_,rfl,rfl⟩,⟨_,_,rfl,rfl,rfl⟩,rfl,⟨_,rfl,rfl⟩,⟨_,_,rfl,rfl⟩,rfl,rfl,⟨_,_,rfl,rfl,rfl⟩,⟨_,_,rfl,rfl,rfl⟩,⟨_,_,rfl,rfl⟩,⟨_,_,rfl,rfl,rfl⟩⟩
theorem ZrI{H:Type}{henc:TypeId × Value->H}:ZFI henc Tryz.prog cfg (aEl .edit) 30 inE:=ZAu Zi rfl ⟨_,_,rfl⟩ (fun _ n cs h=> ZyC Zi Zs4 ZsV n cs h)
end Go.AM.YtpjenobkibfpcaaGreat
namespace Go.AM.YtpjenobkibfpcaaGreat
open Go.AM Go.Proofs
noncomputable section
def Zo4:ArgL (Tree × Int × Int × Unit):=(.cons (aEl .tree) (.cons (J9 .i64) (.cons (J9 .i64) .nil)))
def ZbY(a:Tree × Int × Int × Unit):Prop:=Z5C a.1/\0<=a.2.1/\a.2.1<=4611686018427387904/\-1<=a.2.2.1/\a.2.2.1<=4611686018427387904
def Zsx(a:Tree × Int × Int × Unit):Nat:=Zm a.1
def ZkM(a:Tree × Int × Int × Unit):V U:= .c (ci (ZW a.1 a.2.1 a.2.2.1))
def Zek:Fs U:=fs Zo4 (fun a=> [ZbY a]) ZkM
def Zxy:ArgL (List Int × List Int × Unit):=(.cons (aSl .u64) (.cons (aSl .u64) .nil))
def ZgX(a:List Int × List Int × Unit):Prop:=a.1.length<=1000000000000
def ZkN(a:List Int × List Int × Unit):V U:= .c (.bool (decide (a.1=a.2.1)))
def Zel:Fs U:=fs Zxy (fun a=> [ZgX a]) ZkN
def Zxw:ArgL (List Int × Unit):=(.cons (aSl .u64) .nil)
def Zl5(a:List Int × Unit):Prop:=a.1.length<=1000000000000
def ZuG(a:List Int × Unit):V U:= .c (sU .u64 (trim a.1) .unk)
def Zei:Fs U:=fs Zxw (fun a=> [Zl5 a]) ZuG
def Zv8(a:List Int × Unit):V U:= .c (sU .u64 a.1 .unk)
def Z94:Fs U:=fs Zxw (fun a=> [Zl5 a]) Zv8
def Zri:ArgL (Tree × Int × Unit):=(.cons (aEl .tree) (.cons (J9 .i64) .nil))
def ZaT(a:Tree × Int × Unit):Prop:=True
def Zik(a:Tree × Int × Unit):V U:= .c (.int .u64 (YF a.1 a.2.1))
def Z2i:Fs U:=fs Zri (fun a=> [ZaT a]) Zik
def Zij(a:Tree × Int × Unit):V U:= .agg (enc .tree (JC a.1 a.2.1))
def Z2h:Fs U:=fs Zri (fun a=> [ZaT a]) Zij
def Zo7:ArgL (Tree × Unit):=(.cons (aEl .tree) .nil)
def Jy(a:Tree × Unit):Prop:=Zm a.1<=1000000000000
def Zsz(a:Tree × Unit):Nat:=Zm a.1
def ZgU(a:Tree × Unit):V U:= .agg (enc .tree (Z4 a.1))
def Z0l:Fs U:=fs Zo7 (fun a=> [Jy a]) ZgU
def Zo9:ArgL (Tree × Tree × Unit):=(.cons (aEl .tree) (.cons (aEl .tree) .nil))
def Z3x(a:Tree × Tree × Unit):Prop:=Zm a.1<=1000000000000
def ZsA(a:Tree × Tree × Unit):Nat:=Zm a.1
def ZgV(a:Tree × Tree × Unit):V U:= .c (.bool (ZU a.1 a.2.1))
def Z2V:Fs U:=fs Zo9 (fun a=> [Z3x a]) ZgV
def Z23(a:Tree × Tree × Unit):Prop:=Zm a.1<=1000000000000/\Zm a.2.1<=1000000000000
def Zh7(a:Tree × Tree × Unit):Nat:=Zm a.1+Zm a.2.1
def Z8c(a:Tree × Tree × Unit):V U:= .c (.bool (ZU (Z4 a.1) (Z4 a.2.1)))
def JR:Fs U:=fs Zo9 (fun a=> [Z23 a]) Z8c
def ZnI(N:Nat):List (FuncId × Fs U):=(80,fs Zo4 (fun a=> [ZbY a,Zsx a < N]) ZkM) ::[]
def ZA1:Zc U:=lvl [([1,2,3],[3]),([1,2,3],[3]),([1,2,3,19],[3]),([6],[]),([1,2,3,7],[3]),([1,2,3,7,28],[3]),([1,2,3,7],[3]),([1,2,3,7],[3]),([6],[])]
def Z9Z(t:Tree)(d l x2 x7:Int):LSt U:=(L2 [pI 1 d,pI 2 x2,pL 3,pI 7 x7] [(.loc 3,(enc .tree t))])
abbrev A80(N:Nat)(p:List Nat):=AW (Z0 (ZnI N)) Tryz.f80 ZA1 p
abbrev S80(N:Nat)(p:List Nat):=SW (Z0 (ZnI N)) Tryz.f80 ZA1 p
theorem ZIz(N:Nat)(t:Tree)(d l:Int)(Q:QT)(h:((InR (l - 1))/\(InR (((l - 1):Int) - (t.words.length:Int)))/\((Tt (!(d==0)))/\((d==0)=false->(!(d==0))=true)/\(iB (bif (d==0) then true else (decide (((((l - 1):Int) - (t.words.length:Int)):Int) < 0))) ((Q .ret (L2 [pI 6 (-1)] []))) ((Zd (A80 N [1,1,1,0,1,0,0]) (Z9Z t d l (((l - 1):Int) - (t.words.length:Int)) 0) (xB 0 (S80 N [1,1,1,1] Q)))))))):
  A80 N [] (L2 [(0,.agg (enc .tree t)),pI 1 d,pI 2 l] []) Q:=
 Eq.mpr V4 h
theorem Zy8(N:Nat)(t:Tree)(d l x2 x7:Int)(N0:NT)(Q:QT)(h:let z2:=t.kids.getD x7.toNat Tree.nil;let z1:=decide (x7 < (t.kids.length:Int));let z0:=Tree.mk (Tree.kind z2) (Tree.words z2) (Tree.kids z2);(Tt z1)/\(Tt z1)/\(iB (bif z1 then (decide ((0:Int)<=x2)) else false) (((0:Int)<=x7/\x7 < (t.kids.length:Int))/\(InR (d - 1))/\(ZbY (z0,(d - 1),x2,()))/\(Zsx (z0,(d - 1),x2,()) < N)/\((InR (x7+1))/\(N0 (Z9Z t d l (ZW z0 (d - 1) x2) (x7+1))))) ((Q .ret (L2 [pI 6 x2] []))))):
  A80 N [1,1,1,0,1,0,0] (Z9Z t d l x2 x7) (xT N0 (xB 0 (S80 N [1,1,1,1] Q))):=
 Eq.mpr V4 h
def ZFm(N:Nat)(t:Tree)(d l:Int):Prop:=AW (Z0 (ZnI N)) Tryz.f80 ZA1 [] (Zh (Zo4.can (t,d,l,())) []) (EQ Tryz.f80 (ZkM (t,d,l,())) [])
theorem ZDB(hb:∀ (N:Nat) (t:Tree) (d:Int) (l:Int) (_:Unit),ZbY (t,d,l,())->Zsx (t,d,l,()) < N+1->ZFm N t d l):CT 80 Zek:=
 YY (μ:=Zsx) (l:=[]) Zi rfl trivial ZA1 Tryz.func80 rfl rfl 3 (fun _=> rfl) V1 (fun N ⟨t,d,l,_⟩=> hb N t d l ())
def ZnJ:List (FuncId × Fs U):=[]
def ZA2:Zc U:=lvl [([0,1],[]),([0,1,10],[]),([4],[]),([0,1,5],[]),([0,1,5,14],[]),([0,1,5],[]),([0,1,5,25],[]),([4],[]),([4],[])]
def Za0(a b:List Int)(x5:Int):LSt U:=(L2 [(0,.c (sU .u64 a .unk)),(1,.c (sU .u64 b .unk)),pI 5 x5] [])
abbrev A76(p:List Nat):=AW (Z0 ZnJ) Tryz.f76 ZA2 p
abbrev S76(p:List Nat):=SW (Z0 ZnJ) Tryz.f76 ZA2 p
theorem ZIB(a b:List Int)(Q:QT)(h:(iB (((a.length:Int):Int) !=(b.length:Int)) ((Q .ret (L2 [pB 4 false] []))) ((Zd (A76 [1,1,0,1,0,0]) (Za0 a b 0) (xB 0 (S76 [1,1,1] Q)))))):
  A76 [] (L2 [(0,.c (sU .u64 a .unk)),(1,.c (sU .u64 b .unk))] []) Q:=
 Eq.mpr V4 h
theorem Zyb(a b:List Int)(x5:Int)(N0:NT)(Q:QT)(h:(iB (decide (x5 < (a.length:Int))) (((0:Int)<=x5/\x5 < (a.length:Int))/\((0:Int)<=x5/\x5 < (b.length:Int))/\(iB (((a.getD x5.toNat (0:Int)):Int) !=(b.getD x5.toNat (0:Int))) ((Q .ret (L2 [pB 4 false] []))) ((InR (x5+1))/\(N0 (Za0 a b (x5+1)))))) ((Q .ret (L2 [pB 4 true] []))))):
  A76 [1,1,0,1,0,0] (Za0 a b x5) (xT N0 (xB 0 (S76 [1,1,1] Q))):=
 Eq.mpr V4 h
def ZFo(a b:List Int):Prop:=AW (Z0 ZnJ) Tryz.f76 ZA2 [] (Zh (Zxy.can (a,b,())) []) (EQ Tryz.f76 (ZkN (a,b,())) [])
theorem ZDC(hb:∀ (a:List Int) (b:List Int) (_:Unit),ZgX (a,b,())->ZFo a b):CT 76 Zel:=
 Z1 (l:=[]) Zi rfl trivial ZA2 Tryz.func76 rfl rfl 2 (fun _=> rfl) V1 (fun ⟨a,b,_⟩=> hb a b ())
def ZzZ:Zc U:=lvl [([0],[]),([0,3],[]),([0,3,16],[]),([0,3],[]),([0,3,4],[]),([2],[])]
def Z9X(l:List Int)(x3:Int):LSt U:=(L2 [(0,.c (sU .u64 l .unk)),pI 3 x3] [])
abbrev A86(p:List Nat):=AW (Z0 ZnJ) Tryz.f86 ZzZ p
abbrev S86(p:List Nat):=SW (Z0 ZnJ) Tryz.f86 ZzZ p
theorem ZIx(l:List Int)(Q:QT)(h:(Zd (A86 [1,1,0,0,0]) (Z9X l (l.length:Int)) (xB 0 (S86 [1,1,1] Q)))):
  A86 [] (L2 [(0,.c (sU .u64 l .unk))] []) Q:=
 Eq.mpr V4 h
theorem Zy6(l:List Int)(x3:Int)(N0:NT)(Q:QT)(h:let z0:=decide ((0:Int) < x3);(Tt z0)/\(z0=true->InR (x3 - 1))/\(Tt z0)/\(Tt z0)/\(z0=true->(0:Int)<=(x3 - 1)/\(x3 - 1) < (l.length:Int))/\(Tt z0)/\(Tt z0)/\(Tt z0)/\(iB (bif z0 then (((List.getD l (Int.toNat (x3 - 1)) (0:Int)):Int)==0) else false) ((InR (x3 - 1))/\(N0 (Z9X l (x3 - 1)))) ((((0:Int)<=x3/\x3<=(l.length:Int))/\((([]:List Int).length+(List.take x3.toNat l).length)*8<=140737488355328)/\(Q .ret (L2 [(2,.c (sU .u64 (([]:List Int)++(List.take x3.toNat l)) (.own (.e 2 0))))] [])))))):
  A86 [1,1,0,0,0] (Z9X l x3) (xT N0 (xB 0 (S86 [1,1,1] Q))):=
 Eq.mpr V4 h
def ZFk(l:List Int):Prop:=AW (Z0 ZnJ) Tryz.f86 ZzZ [] (Zh (Zxw.can (l,())) []) (EQ Tryz.f86 (ZuG (l,())) [])
theorem ZDz(hb:∀ (l:List Int) (_:Unit),Zl5 (l,())->ZFk l):CT 86 Zei:=
 Z1 (l:=[]) Zi rfl trivial ZzZ Tryz.func86 rfl rfl 1 (fun _=> rfl) V1 (fun ⟨l,_⟩=> hb l ())
def ZwD:Zc U:=lvl [([0],[]),([0,4],[]),([2],[]),([2],[])]
abbrev ZJH(p:List Nat):=AW (Z0 ZnJ) Tryz.f117 ZwD p
theorem ZH7(l:List Int)(Q:QT)(h:(((l=[])->(Q .ret (L2 [(2,.c (.nils))] [])))/\(True->((([]:List Int).length+l.length)*8<=140737488355328)/\(Q .ret (L2 [(2,.c (sU .u64 (([]:List Int)++l) (.own (.e 2 0))))] []))))):
  ZJH [] (L2 [(0,.c (sU .u64 l .unk))] []) Q:=
 Eq.mpr V4 h
def ZBK(l:List Int):Prop:=AW (Z0 ZnJ) Tryz.f117 ZwD [] (Zh (Zxw.can (l,())) []) (EQ Tryz.f117 (Zv8 (l,())) [])
theorem ZzR(hb:∀ (l:List Int) (_:Unit),Zl5 (l,())->ZBK l):CT 117 Z94:=
 Z1 (l:=[]) Zi rfl trivial ZwD Tryz.func117 rfl rfl 1 (fun _=> rfl) V1 (fun ⟨l,_⟩=> hb l ())
def ZpA:Zc U:=lvl [([0,1],[]),([0,1,10],[]),([4],[]),([0,1,12,13],[]),([0,1,12,13,14],[]),([0,1,5,12,13],[]),([0,1,12,13,24],[]),([4],[]),([0,1,12,13],[]),([4],[])]
def Z77(a b:List Int)(x13:Int):LSt U:=(L2 [(0,.c (sU .u64 a .unk)),(1,.c (sU .u64 b .unk)),pI 12 (a.length:Int),pI 13 x13] [])
abbrev ZFR(p:List Nat):=AW (Z0 ZnJ) Tryz.f172 ZpA p
abbrev ZId(p:List Nat):=SW (Z0 ZnJ) Tryz.f172 ZpA p
theorem ZGC(a b:List Int)(Q:QT)(h:(iB (((a.length:Int):Int) !=(b.length:Int)) ((Q .ret (L2 [pB 4 false] []))) ((Zd (ZFR [1,1,0,1,0,0]) (Z77 a b 0) (xB 0 (ZId [1,1,1] Q)))))):
  ZFR [] (L2 [(0,.c (sU .u64 a .unk)),(1,.c (sU .u64 b .unk))] []) Q:=
 Eq.mpr V4 h
theorem ZtK(a b:List Int)(x13:Int)(N0:NT)(Q:QT)(h:(iB (decide (x13 < (a.length:Int))) ((((0:Int)<=x13/\x13 < (a.length:Int))/\((0:Int)<=x13/\x13 < (b.length:Int))/\(iB (((a.getD x13.toNat (0:Int)):Int) !=(b.getD x13.toNat (0:Int))) ((Q .ret (L2 [pB 4 false] []))) ((InR (x13+1))/\(N0 (Z77 a b (x13+1))))))) ((Q .ret (L2 [pB 4 true] []))))):
  ZFR [1,1,0,1,0,0] (Z77 a b x13) (xT N0 (xB 0 (ZId [1,1,1] Q))):=
 Eq.mpr V4 h
def ZBf(a b:List Int):Prop:=AW (Z0 ZnJ) Tryz.f172 ZpA [] (Zh (Zxy.can (a,b,())) []) (EQ Tryz.f172 (ZkN (a,b,())) [])
theorem Zzp(hb:∀ (a:List Int) (b:List Int) (_:Unit),ZgX (a,b,())->ZBf a b):CT 172 Zel:=
 Z1 (l:=[]) Zi rfl trivial ZpA Tryz.func172 rfl rfl 2 (fun _=> rfl) V1 (fun ⟨a,b,_⟩=> hb a b ())
def Zwj:Zc U:=lvl [([1,2],[2]),([1,2,13],[2]),([4],[]),([4],[])]
abbrev ZJp(p:List Nat):=AW (Z0 ZnJ) Tryz.f173 Zwj p
theorem ZGB(t:Tree)(i:Int)(Q:QT)(h:let z0:= !(decide (i < 0));((Tt z0)/\(Tt z0)/\(Tt z0)/\(Tt z0)/\((decide (i < 0))=false->z0=true)/\(iB (bif (decide (i < 0)) then true else (decide (((t.words.length:Int):Int)<=i))) ((Q .ret (L2 [(4,.c (.int .u64 0))] []))) (((0:Int)<=i/\i < (t.words.length:Int))/\(Q .ret (L2 [(4,.c (.int .u64 (t.words.getD i.toNat (0:Int))))] [])))))):
  ZJp [] (L2 [(0,.agg (enc .tree t)),pI 1 i] []) Q:=
 Eq.mpr V4 h
def ZBe(t:Tree)(i:Int):Prop:=AW (Z0 ZnJ) Tryz.f173 Zwj [] (Zh (Zri.can (t,i,())) []) (EQ Tryz.f173 (Zik (t,i,())) [])
theorem Zzo(hb:∀ (t:Tree) (i:Int) (_:Unit),ZaT (t,i,())->ZBe t i):CT 173 Z2i:=
 Z1 (l:=[]) Zi rfl trivial Zwj Tryz.func173 rfl rfl 2 (fun _=> rfl) V1 (fun ⟨t,i,_⟩=> hb t i ())
def Zwi:Zc U:=lvl [([1,2,4],[2,4]),([1,2,4,13],[2,4]),([4],[4]),([4],[4])]
abbrev ZJo(p:List Nat):=AW (Z0 ZnJ) Tryz.f174 Zwi p
theorem ZGA(t:Tree)(i:Int)(Q:QT)(h:let z0:= !(decide (i < 0));((Tt z0)/\(Tt z0)/\(Tt z0)/\(Tt z0)/\((decide (i < 0))=false->z0=true)/\(iB (bif (decide (i < 0)) then true else (decide (((t.kids.length:Int):Int)<=i))) ((Q .ret (L2 [pL 4] [(.loc 4,[ci 0,.nils,.nils])]))) (((0:Int)<=i/\i < (t.kids.length:Int))/\(Q .ret (L2 [pL 4] [(.loc 4,(enc .tree (t.kids.getD i.toNat Tree.nil)))])))))):
  ZJo [] (L2 [(0,.agg (enc .tree t)),pI 1 i] []) Q:=
 Eq.mpr V4 h
def ZBd(t:Tree)(i:Int):Prop:=AW (Z0 ZnJ) Tryz.f174 Zwi [] (Zh (Zri.can (t,i,())) []) (EQ Tryz.f174 (Zij (t,i,())) [])
theorem Zzn(hb:∀ (t:Tree) (i:Int) (_:Unit),ZaT (t,i,())->ZBd t i):CT 174 Z2h:=
 Z1 (l:=[]) Zi rfl trivial Zwi Tryz.func174 rfl rfl 2 (fun _=> rfl) V1 (fun ⟨t,i,_⟩=> hb t i ())
def ZnO(N:Nat):List (FuncId × Fs U):=(41,fs Zo7 (fun a=> [Jy a,Zsz a < N]) ZgU) ::[(86,Zei)]
def ZA7:Zc U:=lvk [([1,2],[1,2]),([1,2,10],[1,2]),([2],[2]),([1,2,3],[1,2]),([1,2,3,4],[1,2]),([1,2,(3,[.own .tree]),4,5],[1,2]),([1,2,3,4,5,16],[1,2]),([1,2,(3,[.own .tree]),4,5],[1,2]),([1,2,3,4,5,6],[1,2,6]),([1,2,3,4,5,6],[1,2,6]),([1,2,3,4,5,31],[1,2]),([1,2,3,4,5],[1,2]),([1,2,3,4,36],[1,2]),([2],[2]),([1,2,3,7],[1,2]),([1,2,3,7],[1,2]),([2],[2])]
def Z6c(t:Tree)(x4 x5:Int)(x3:List Tree):LSt U:=(L2 [pL 1,pL 2,(3,.c (sU .tree x3 (.own (.e 3 0)))),pI 4 x4,pI 5 x5] [(.loc 1,(enc .tree t)),(.loc 2,[ci 0,.nils,.nils])])
abbrev A41(N:Nat)(p:List Nat):=AW (Z0 (ZnO N)) Tryz.f41 ZA7 p
abbrev S41(N:Nat)(p:List Nat):=SW (Z0 (ZnO N)) Tryz.f41 ZA7 p
theorem ZIL(N:Nat)(t:Tree)(Q:QT)(h:(iB (t.kind==0) ((Q .ret (L2 [pL 2] [(.loc 2,[ci 0,.nils,.nils])]))) ((Zd (A41 N [1,1,1,1,0,1,0,0]) (Z6c t 0 0 []) (xB 0 (S41 N [1,1,1,1,1] Q)))))):
  A41 N [] (L2 [(0,.agg (enc .tree t))] []) Q:=
 Eq.mpr V4 h
theorem Zym(N:Nat)(t:Tree)(x4 x5:Int)(x3:List Tree)(N0:NT)(Q:QT)(h:∀ y_1,y_1=(t.kids.getD x5.toNat Tree.nil)->∀ y_2,y_2=y_1->∀ y_3,y_3=(Z4 y_2)->(iB (decide (x5 < (t.kids.length:Int))) (((0:Int)<=x5/\x5 < (t.kids.length:Int))/\(Jy (y_2,()))/\(Zsz (y_2,()) < N)/\(((x3.length+([y_3]).length)*56<=140737488355328)/\(iB (((Tree.kind (Z4 y_2)):Int) !=0) ((InR (x5+1))/\((InR (x5+1))/\(N0 (Z6c t (x5+1) (x5+1) (x3++([y_3])))))) ((InR (x5+1))/\(N0 (Z6c t x4 (x5+1) (x3++([y_3])))))))) ((iB (t.kind==1) ((Zl5 (t.words,()))/\((0:Int)<=x4/\x4<=(x3.length:Int))/\(Q .ret (L2 [pL 2] [(.loc 2,[ci 1,sU .u64 (trim t.words) .unk,sU .tree (List.take x4.toNat x3) .unk])]))) ((((([]:List Int).length+t.words.length)*8<=140737488355328)/\(Q .ret (L2 [pL 2] [(.loc 2,[ci t.kind,sU .u64 (([]:List Int)++t.words) (.own (.l 2 1)),sU .tree x3 (.own (.l 2 2))])])))))))):
  A41 N [1,1,1,1,0,1,0,0] (Z6c t x4 x5 x3) (xT N0 (xB 0 (S41 N [1,1,1,1,1] Q))):=
 Eq.mpr V4 (h _ rfl _ (Za _) _ (Za _))
def ZFy(N:Nat)(t:Tree):Prop:=AW (Z0 (ZnO N)) Tryz.f41 ZA7 [] (Zh (Zo7.can (t,())) []) (EQ Tryz.f41 (ZgU (t,())) [])
theorem ZDH(c86:CT 86 Zei)(hb:∀ (N:Nat) (t:Tree) (_:Unit),Jy (t,())->Zsz (t,()) < N+1->ZFy N t):CT 41 Z0l:=
 YY (μ:=Zsz) (l:=[(86,Zei)]) Zi rfl (⟨c86,trivial⟩) ZA7 Tryz.func41 rfl rfl 1 (fun _=> rfl) V1 (fun N ⟨t,_⟩=> hb N t ())
def ZnK(N:Nat):List (FuncId × Fs U):=(75,fs Zo7 (fun a=> [Jy a,Zsz a < N]) ZgU) ::[(117,Z94)]
def ZA3:Zc U:=lvk [([1,2],[1,2]),([1,2,8],[1,2]),([2],[2]),([1,2,3],[1,2,3]),([1,2,3,17,18,19],[1,2,((.loc 3),[.any,.any,.own .tree])]),([1,2,3,17,18,19,20],[1,2,3]),([1,2,3,5,17,18,19],[1,2,3,5]),([1,2,3,17,18,19],[1,2,3]),([1,2,3,17,18,19],[1,2,((.loc 3),[.any,.any,.own .tree])]),([2,3,33],[2,((.loc 3),[.any,.any,.unk .tree])]),([2,3,33,48],[2,((.loc 3),[.any,.any,.unk .tree])]),([2,3,33],[2,((.loc 3),[.any,.any,.unk .tree])]),([2,3,33,48,72],[2,3]),([2,3,33,48],[2,((.loc 3),[.any,.any,.unk .tree])]),([2],[2])]
def Za3(t:Tree)(x19:Int)(ml3_2:List Tree):LSt U:=(L2 [pL 1,pL 2,pL 3,(17,.c (sU .tree t.kids .unk)),pI 18 (t.kids.length:Int),pI 19 x19] [(.loc 1,(enc .tree t)),(.loc 2,[ci 0,.nils,.nils]),(.loc 3,[ci t.kind,sU .u64 t.words .unk,sU .tree ml3_2 (.own (.l 3 2))])])
def Za2(t:Tree)(ml3_2:List Tree)(ml3_1_a:List Int):LSt U:=(L2 [pL 2,pL 3,pB 33 ((t.kind:Int)==1)] [(.loc 2,[ci 0,.nils,.nils]),(.loc 3,[ci t.kind,sU .u64 ml3_1_a .unk,sU .tree ml3_2 .unk])])
def Za1(t:Tree)(ml3_1_a:List Int)(ml3_2_b:List Tree):LSt U:=(L2 [pL 2,pL 3,pB 33 ((t.kind:Int)==1),(48,.c (.bool (bif (decide ((0:Int) < (ml3_1_a.length:Int))) then (((List.getD ml3_1_a (Int.toNat (((ml3_1_a.length:Int):Int) - 1)) (0:Int)):Int)==0) else false)))] [(.loc 2,[ci 0,.nils,.nils]),(.loc 3,[ci t.kind,sU .u64 ml3_1_a .unk,sU .tree ml3_2_b .unk])])
abbrev A75(N:Nat)(p:List Nat):=AW (Z0 (ZnK N)) Tryz.f75 ZA3 p
abbrev S75(N:Nat)(p:List Nat):=SW (Z0 (ZnK N)) Tryz.f75 ZA3 p
theorem ZIC(N:Nat)(t:Tree)(Q:QT)(h:(iB (t.kind==0) ((Q .ret (L2 [pL 2] [(.loc 2,[ci 0,.nils,.nils])]))) ((Zl5 (t.words,()))/\(Zd (A75 N [1,1,1,0,1,0,0]) (Za3 t 0 []) (xB 0 (S75 N [1,1,1,1] Q)))))):
  A75 N [] (L2 [(0,.agg (enc .tree t))] []) Q:=
 Eq.mpr V4 h
theorem Zye(N:Nat)(t:Tree)(x19:Int)(ml3_2:List Tree)(N0:NT)(Q:QT)(h:∀ y_1,y_1=(t.kids.getD x19.toNat Tree.nil)->∀ y_2,y_2=y_1->∀ y_3,y_3=(Z4 y_2)->(iB (decide (x19 < (t.kids.length:Int))) (((0:Int)<=x19/\x19 < (t.kids.length:Int))/\((Jy (y_2,()))/\(Zsz (y_2,()) < N)/\((ml3_2.length+([y_3]).length)*56<=140737488355328)/\((InR (x19+1))/\(N0 (Za3 t (x19+1) (ml3_2++([y_3]))))))) ((iB (t.kind==1) (Zd (A75 N [1,1,1,1,0,1,0,0,0,0]) (Za2 t ml3_2 t.words) (xB 2 (S75 N [1,1,1,1,0,1,0,1] (S75 N [1,1,1,1,1] Q)))) ((Q .ret (L2 [pL 2] [(.loc 2,[ci t.kind,sU .u64 t.words .unk,sU .tree ml3_2 .unk])]))))))):
  A75 N [1,1,1,0,1,0,0] (Za3 t x19 ml3_2) (xT N0 (xB 0 (S75 N [1,1,1,1] Q))):=
 Eq.mpr V4 (h _ rfl _ (Za _) _ (Za _))
theorem Zyd(N:Nat)(t:Tree)(ml3_2:List Tree)(ml3_1_a:List Int)(N1:NT)(Q:QT)(h:let z0:=decide ((0:Int) < (ml3_1_a.length:Int));(Tt z0)/\(Tt z0)/\(Tt z0)/\(Tt z0)/\(z0=true->InR (((ml3_1_a.length:Int):Int) - 1))/\(Tt z0)/\(Tt z0)/\(z0=true->(0:Int)<=(((ml3_1_a.length:Int):Int) - 1)/\(((ml3_1_a.length:Int):Int) - 1) < (ml3_1_a.length:Int))/\(Tt z0)/\(Tt z0)/\(Tt z0)/\(iB (bif z0 then (((List.getD ml3_1_a (Int.toNat (((ml3_1_a.length:Int):Int) - 1)) (0:Int)):Int)==0) else false) ((InR (((ml3_1_a.length:Int):Int) - 1))/\((0:Int)<=(((ml3_1_a.length:Int):Int) - 1)/\(((ml3_1_a.length:Int):Int) - 1)<=(ml3_1_a.length:Int))/\(N1 (Za2 t ml3_2 (List.take (Int.toNat (((ml3_1_a.length:Int):Int) - 1)) ml3_1_a)))) (Zd (A75 N [1,1,1,1,0,1,0,1,0,0]) (Za1 t ml3_1_a ml3_2) (xB 4 (S75 N [1,1,1,1,1] Q))))):
  A75 N [1,1,1,1,0,1,0,0,0,0] (Za2 t ml3_2 ml3_1_a) (xT N1 (xB 2 (S75 N [1,1,1,1,0,1,0,1] (S75 N [1,1,1,1,1] Q)))):=
 Eq.mpr V4 h
theorem Zyc(N:Nat)(t:Tree)(ml3_1_a:List Int)(ml3_2_b:List Tree)(N2:NT)(Q:QT)(h:let z0:=decide ((0:Int) < (ml3_2_b.length:Int));(Tt z0)/\(Tt z0)/\(Tt z0)/\(Tt z0)/\(z0=true->InR (((ml3_2_b.length:Int):Int) - 1))/\(Tt z0)/\(Tt z0)/\(z0=true->(0:Int)<=(((ml3_2_b.length:Int):Int) - 1)/\(((ml3_2_b.length:Int):Int) - 1) < (ml3_2_b.length:Int))/\(Tt z0)/\(Tt z0)/\(Tt z0)/\(Tt z0)/\(iB (bif z0 then (((Tree.kind (List.getD ml3_2_b (Int.toNat (((ml3_2_b.length:Int):Int) - 1)) Tree.nil)):Int)==0) else false) ((InR (((ml3_2_b.length:Int):Int) - 1))/\((0:Int)<=(((ml3_2_b.length:Int):Int) - 1)/\(((ml3_2_b.length:Int):Int) - 1)<=(ml3_2_b.length:Int))/\(N2 (Za1 t ml3_1_a (List.take (Int.toNat (((ml3_2_b.length:Int):Int) - 1)) ml3_2_b)))) ((Q .ret (L2 [pL 2] [(.loc 2,[ci t.kind,sU .u64 ml3_1_a .unk,sU .tree ml3_2_b .unk])]))))):
  A75 N [1,1,1,1,0,1,0,1,0,0] (Za1 t ml3_1_a ml3_2_b) (xT N2 (xB 4 (S75 N [1,1,1,1,1] Q))):=
 Eq.mpr V4 h
def ZFp(N:Nat)(t:Tree):Prop:=AW (Z0 (ZnK N)) Tryz.f75 ZA3 [] (Zh (Zo7.can (t,())) []) (EQ Tryz.f75 (ZgU (t,())) [])
theorem ZDD(ZEX:CT 117 Z94)(hb:∀ (N:Nat) (t:Tree) (_:Unit),Jy (t,())->Zsz (t,()) < N+1->ZFp N t):CT 75 Z0l:=
 YY (μ:=Zsz) (l:=[(117,Z94)]) Zi rfl (⟨ZEX,trivial⟩) ZA3 Tryz.func75 rfl rfl 1 (fun _=> rfl) V1 (fun N ⟨t,_⟩=> hb N t ())
def ZnQ(N:Nat):List (FuncId × Fs U):=(26,fs Zo9 (fun a=> [Z3x a,ZsA a < N]) ZgV) ::[(76,Zel)]
def ZA9:Zc U:=lvl [([2,3],[2,3]),([2,3,27],[2,3]),([4],[]),([2,3,5],[2,3]),([2,3,5,32],[2,3]),([2,3,5],[2,3]),([2,3,5,46],[2,3]),([4],[]),([4],[])]
def Zab(a b:Tree)(x5:Int):LSt U:=(L2 [pL 2,pL 3,pI 5 x5] [(.loc 2,(enc .tree a)),(.loc 3,(enc .tree b))])
abbrev A26(N:Nat)(p:List Nat):=AW (Z0 (ZnQ N)) Tryz.f26 ZA9 p
abbrev S26(N:Nat)(p:List Nat):=SW (Z0 (ZnQ N)) Tryz.f26 ZA9 p
theorem ZIO(N:Nat)(a b:Tree)(Q:QT)(h:let z1:=a.kind !=b.kind;let z0:=bif z1 then true else (!(decide (a.words=b.words)));((Tt (!z1))/\(Tt (!z1))/\(Tt (!z1))/\(Tt (!z1))/\((!z1)=true->ZgX (a.words,b.words,()))/\(Tt (!z1))/\(z1=false->(!z1)=true)/\(Tt (!z0))/\(Tt (!z0))/\(Tt (!z0))/\(Tt (!z0))/\(Tt (!z0))/\(Tt (!z0))/\(z0=false->(!z0)=true)/\(iB (bif z0 then true else (((a.kids.length:Int):Int) !=(b.kids.length:Int))) ((Q .ret (L2 [pB 4 false] []))) ((Zd (A26 N [1,1,0,1,0,0]) (Zab a b 0) (xB 0 (S26 N [1,1,1] Q))))))):
  A26 N [] (L2 [(0,.agg (enc .tree a)),(1,.agg (enc .tree b))] []) Q:=
 Eq.mpr V4 h
theorem Zyp(N:Nat)(a b:Tree)(x5:Int)(N0:NT)(Q:QT)(h:∀ y_1,y_1=(a.kids.getD x5.toNat Tree.nil)->∀ y_2,y_2=(b.kids.getD x5.toNat Tree.nil)->∀ y_3,y_3=y_1->∀ y_4,y_4=y_2->(iB (decide (x5 < (a.kids.length:Int))) (((0:Int)<=x5/\x5 < (a.kids.length:Int))/\((0:Int)<=x5/\x5 < (b.kids.length:Int))/\(Z3x (y_3,y_4,()))/\(ZsA (y_3,y_4,()) < N)/\(iB (!(ZU y_3 y_4)) ((Q .ret (L2 [pB 4 false] []))) ((InR (x5+1))/\(N0 (Zab a b (x5+1)))))) ((Q .ret (L2 [pB 4 true] []))))):
  A26 N [1,1,0,1,0,0] (Zab a b x5) (xT N0 (xB 0 (S26 N [1,1,1] Q))):=
 Eq.mpr V4 (h _ rfl _ rfl _ (Za _) _ (Za _))
def ZFB(N:Nat)(a b:Tree):Prop:=AW (Z0 (ZnQ N)) Tryz.f26 ZA9 [] (Zh (Zo9.can (a,b,())) []) (EQ Tryz.f26 (ZgV (a,b,())) [])
theorem ZDJ(c76:CT 76 Zel)(hb:∀ (N:Nat) (a:Tree) (b:Tree) (_:Unit),Z3x (a,b,())->ZsA (a,b,()) < N+1->ZFB N a b):CT 26 Z2V:=
 YY (μ:=ZsA) (l:=[(76,Zel)]) Zi rfl (⟨c76,trivial⟩) ZA9 Tryz.func26 rfl rfl 2 (fun _=> rfl) V1 (fun N ⟨a,b,_⟩=> hb N a b ())
def Zjz(N:Nat):List (FuncId × Fs U):=(114,fs Zo9 (fun a=> [Z23 a,Zh7 a < N]) Z8c) ::[(172,Zel),(173,Z2i),(174,Z2h)]
def ZpM:Zc U:=lvl [([2,3],[2,3]),([2,3,16],[2,3]),([4],[]),([2,3,41],[2,3]),([4],[]),([2,3,48,49],[2,3]),([2,3,48,49,50],[2,3]),([2,3,5,48,49],[2,3]),([2,3,48,49,58],[2,3]),([4],[]),([2,3,48,49],[2,3]),([2,3,66,67],[2,3]),([2,3,66,67,68],[2,3]),([2,3,6,66,67],[2,3]),([2,3,66,67,77],[2,3]),([4],[]),([2,3,66,67],[2,3]),([4],[])]
def Z7q(a b:Tree)(x49:Int):LSt U:=(L2 [pL 2,pL 3,pI 48 (if ((a.words.length:Int):Int) < (b.words.length:Int) then (b.words.length:Int) else (a.words.length:Int)),pI 49 x49] [(.loc 2,(enc .tree a)),(.loc 3,(enc .tree b))])
def Z7p(a b:Tree)(x67_a:Int):LSt U:=(L2 [pL 2,pL 3,pI 66 (if ((a.kids.length:Int):Int) < (b.kids.length:Int) then (b.kids.length:Int) else (a.kids.length:Int)),pI 67 x67_a] [(.loc 2,(enc .tree a)),(.loc 3,(enc .tree b))])
abbrev ZxW(N:Nat)(p:List Nat):=AW (Z0 (Zjz N)) Tryz.f114 ZpM p
abbrev ZAD(N:Nat)(p:List Nat):=SW (Z0 (Zjz N)) Tryz.f114 ZpM p
theorem ZHa(N:Nat)(a b:Tree)(Q:QT)(h:let z2:=a.kind !=b.kind;let z1:=((a.kids.length:Int):Int) !=(b.kids.length:Int);let z0:=(a.kind !=1) && (!z1);((Tt (!z2))/\(Tt (!z2))/\(z2=false->(!z2)=true)/\(iB (bif z2 then true else (a.kind==0)) ((Q .ret (L2 [pB 4 (a.kind==b.kind)] []))) ((Tt (a.kind !=1))/\(Tt (a.kind !=1))/\(Tt (a.kind !=1))/\(Tt (a.kind !=1))/\(Tt (a.kind !=1))/\(Tt (a.kind !=1))/\(Tt (a.kind !=1))/\(Tt z0)/\(Tt z0)/\(Tt z0)/\(Tt z0)/\(z0=true->ZgX (a.words,b.words,()))/\(Tt z0)/\((a.kind !=1)=true->(True->(a.kind !=1)=true))/\((a.kind !=1)=true->(z1=false->z0=true))/\(Tt (a.kind !=1))/\(iB (bif (a.kind !=1) then (bif z1 then true else (!(decide (a.words=b.words)))) else false) ((Q .ret (L2 [pB 4 false] []))) ((Zd (ZxW N [1,1,1,0,1,0,0]) (Z7q a b 0) (xB 0 (ZAD N [1,1,1,1] Q))))))))):
  ZxW N [] (L2 [(0,.agg (enc .tree a)),(1,.agg (enc .tree b))] []) Q:=
 Eq.mpr V4 h
theorem Zu9(N:Nat)(a b:Tree)(x49:Int)(N0:NT)(Q:QT)(h:let z1:=Tree.mk b.kind b.words b.kids;let z0:=Tree.mk a.kind a.words a.kids;(iB (decide (x49 < (if ((a.words.length:Int):Int) < (b.words.length:Int) then (b.words.length:Int) else (a.words.length:Int)))) (((ZaT (z0,x49,()))/\(ZaT (z1,x49,()))/\(iB (((YF z0 x49):Int) !=(YF z1 x49)) ((Q .ret (L2 [pB 4 false] []))) ((InR (x49+1))/\(N0 (Z7q a b (x49+1))))))) ((Zd (ZxW N [1,1,1,1,0,1,0,0]) (Z7p a b 0) (xB 2 (ZAD N [1,1,1,1,1] Q)))))):
  ZxW N [1,1,1,0,1,0,0] (Z7q a b x49) (xT N0 (xB 0 (ZAD N [1,1,1,1] Q))):=
 Eq.mpr V4 h
theorem Zu8(N:Nat)(a b:Tree)(x67_a:Int)(N1:NT)(Q:QT)(h:∀ y_1,y_1=a->∀ y_2,y_2=b->∀ y_3,y_3=(JC y_1 x67_a)->∀ y_4,y_4=(JC y_2 x67_a)->(iB (decide (x67_a < (if ((a.kids.length:Int):Int) < (b.kids.length:Int) then (b.kids.length:Int) else (a.kids.length:Int)))) (((ZaT (y_1,x67_a,()))/\(ZaT (y_2,x67_a,()))/\(Z23 (y_3,y_4,()))/\(Zh7 (y_3,y_4,()) < N)/\(iB (!(ZU (Z4 y_3) (Z4 y_4))) ((Q .ret (L2 [pB 4 false] []))) ((InR (x67_a+1))/\(N1 (Z7p a b (x67_a+1))))))) ((Q .ret (L2 [pB 4 true] []))))):
  ZxW N [1,1,1,1,0,1,0,0] (Z7p a b x67_a) (xT N1 (xB 2 (ZAD N [1,1,1,1,1] Q))):=
 Eq.mpr V4 (h _ (Za _) _ (Za _) _ (Za _) _ (Za _))
def ZBN(N:Nat)(a b:Tree):Prop:=AW (Z0 (Zjz N)) Tryz.f114 ZpM [] (Zh (Zo9.can (a,b,())) []) (EQ Tryz.f114 (Z8c (a,b,())) [])
theorem ZzS(ZEz:CT 172 Zel)(Zt4:CT 173 Z2i)(Zt3:CT 174 Z2h)(hb:∀ (N:Nat) (a:Tree) (b:Tree) (_:Unit),Z23 (a,b,())->Zh7 (a,b,()) < N+1->ZBN N a b):CT 114 JR:=
 YY (μ:=Zh7) (l:=[(172,Zel),(173,Z2i),(174,Z2h)]) Zi rfl (⟨ZEz,Zt4,Zt3,trivial⟩) ZpM Tryz.func114 rfl rfl 2 (fun _=> rfl) V1 (fun N ⟨a,b,_⟩=> hb N a b ())
def Zqk:List (FuncId × Fs U):=[(41,Z0l),(26,Z2V)]
def Zwo:Zc U:=lvl [([2,3],[2,3]),([4],[])]
abbrev ZJu(p:List Nat):=AW (Z0 Zqk) Tryz.f151 Zwo p
theorem ZGP(a b:Tree)(Q:QT)(h:let z5:=Tree.mk a.kind a.words a.kids;let z4:=Tree.mk b.kind b.words b.kids;let z1:=Z4 z4;let z3:=Tree.mk (Tree.kind z1) (Tree.words z1) (Tree.kids z1);let z0:=Z4 z5;let z2:=Tree.mk (Tree.kind z0) (Tree.words z0) (Tree.kids z0);((Jy (z5,()))/\(Jy (z4,()))/\(Z3x (z2,z3,()))/\(Q .ret (L2 [(4,.c (.bool (ZU z2 z3)))] [])))):
  ZJu [] (L2 [(0,.agg (enc .tree a)),(1,.agg (enc .tree b))] []) Q:=
 Eq.mpr V4 h
def ZBs(a b:Tree):Prop:=AW (Z0 Zqk) Tryz.f151 Zwo [] (Zh (Zo9.can (a,b,())) []) (EQ Tryz.f151 (Z8c (a,b,())) [])
theorem ZzB(c41:CT 41 Z0l)(c26:CT 26 Z2V)(hb:∀ (a:Tree) (b:Tree) (_:Unit),Z23 (a,b,())->ZBs a b):CT 151 JR:=
 Z1 (l:=[(41,Z0l),(26,Z2V)]) Zi rfl (⟨c41,c26,trivial⟩) Zwo Tryz.func151 rfl rfl 2 (fun _=> rfl) V1 (fun ⟨a,b,_⟩=> hb a b ())
end
theorem vcU:(∀ {p q:Prop},(p->q->p/\q)=True)/\(∀ {p:Prop},(True/\p)=p)/\(∀ {p:Prop},(p/\True)=p)/\(∀ {p:Prop},(p->True)=True):=
 ⟨by intros;simp+contextual,by simp,by simp,by simp⟩
theorem Zey:∀ {ks:List Tree} {i:Nat},Z3K ks->i < ks.length->Z5C (ks.getD i Tree.nil)
 | t ::_,0,h,_=> by simp only [Z3K] at h;exact h.1
 | _ ::r,i+1,h,hi=> by simp only [Z3K] at h;exact Zey (ks:=r) (i:=i) h.2 (by simpa using hi)
theorem Z0Q:∀ {ks:List Tree} {i:Nat},i < ks.length->Zm (ks.getD i Tree.nil)<=Z9 ks
 | t ::_,0,_=> by simp only [Z9,Ql];omega
 | t ::r,i+1,h=> by
  have:=Z0Q (ks:=r) (i:=i) (by simpa using h)
  simp only [Z9,K2]
  omega
mutual
theorem YZ:∀ (t:Tree) (d l:Int),-1<=ZW t d l/\ZW t d l<=max l (-1)
 | .mk _ w ks,d,l=> by
  simp only [ZW]
  split
  .omega
  .have:=Z12 ks (d - 1) (l - 1 - w.length) YS
   omega
theorem Z12:∀ (ks:List Tree) (d l:Int),-1<=l->-1<=Zx ks d l/\Zx ks d l<=l
 | [],d,l,h=> by simp only [Zx];omega
 | t ::r,d,l,h=> by
  simp only [Zx]
  split
  .omega
  .have h1:=YZ t d l
   have h2:=Z12 r d (ZW t d l) h1.1
   omega
end
theorem Zgn{ks:List Tree}{i:Nat}{d l:Int}(h:i < ks.length)(hl:0<=l):Zx (ks.drop i) d l=Zx (ks.drop (i+1)) d (ZW (ks.getD i Tree.nil) d l):=by
 rw [QL h]
 simp only [Zx]
 rw [JL]
 simp [List.getD,h]
theorem c80:Contract Tryz.prog cfg 80 Zek:=by
 refine ZDB ?_
 rintro N ⟨k,ws,ks⟩ d l _ ⟨hs,h1,h2,h3,h4⟩ hN
 simp only [Z5C,Zsx,Zm] at*
 refine ZIz N _ _ _ _ ?_;(try simp only [iB,vcT,forall_eq])
 (simp only [iB,vcS]);(try simp only [iB,vcT])
 try (simp only [Tree.eta,Edit.eta,Tree.kind_mk,Tree.words_mk,Tree.kids_mk])
 refine ⟨V3,V3,fun hc=> ?_,fun hc=> ?_⟩
 .have e:ZW (.mk k ws ks) d l= -1:=by
   simp only [ZW]
   rw [V0]
  simp only [ZkM,e]
  exact ⟨⟨rfl,⟨⟨rfl,rfl⟩,trivial⟩,trivial⟩,trivial⟩
 .have e:ZW (.mk k ws ks) d l=Zx ks (d - 1) (l - 1 - ws.length):=by
   simp only [ZW]
   rw [JL]
  simp only [ZkM,e]
  refine Z5 (ι:=Int × Int) (fun p=> Z9Z (.mk k ws ks) d l p.1 p.2) (fun p=> 0<=p.2/\p.2<=ks.length/\-1<=p.1/\p.1<=l/\Zx (ks.drop p.2.toNat) (d - 1) p.1=Zx ks (d - 1) (l - 1 - ws.length)) (fun p=> ((ks.length:Int) - p.2).toNat) (l - 1 - ws.length,0) rfl ⟨YS,YS,YS,YS,by simp⟩ ?_
  rintro ⟨l',i⟩ ⟨h5,h6,h7,h8,h9⟩
  dsimp only at*
  refine Zy8 N _ _ _ _ _ _ _ ?_;(try simp only [iB,vcT,forall_eq])
  (simp only [iB,vcS]);(try simp only [iB,vcT])
  try (simp only [Tree.eta,Edit.eta,Tree.kind_mk,Tree.words_mk,Tree.kids_mk])
  refine ⟨fun hc=> ?_,fun hc=> ?_⟩
  .have hi:i.toNat < ks.length:=YS
   have hr:=YZ (ks.getD i.toNat Tree.nil) (d - 1) l'
   have hn:=Z0Q hi
   have hd:=Zgn (d:=d - 1) hi hc.2
   refine ⟨YS,V3,⟨Zey hs.2.2 hi,V2,V2,V2,V2⟩,by simp only [Zsx];omega,V3,⟨(ZW (ks.getD i.toNat Tree.nil) (d - 1) l',i+1),rfl,⟨V2,V2,V2,V2,?_⟩,V2⟩⟩
   dsimp only
   rw [<-h9,hd]
   congr 2
   omega
  .have e:Zx ks (d - 1) (l - 1 - ws.length)=l':=by
    rw [<-h9]
    by_cases hi:i < ks.length
    .rw [QL YS]
     simp only [Zx]
     rw [V0]
    .rw [QJ YS]
     simp only [Zx]
   rw [e]
   exact ⟨⟨rfl,⟨⟨rfl,rfl⟩,trivial⟩,trivial⟩,trivial⟩
theorem ZEX:Contract Tryz.prog cfg 117 Z94:=by
 refine ZzR ?_
 intro l _ hp
 refine ZH7 _ _ ?_;(try simp only [iB,vcT,forall_eq])
 simp only [Zl5] at hp
 refine ⟨fun h=> ?_,⟨by simp only [Q8];omega,?_⟩⟩
 .subst h
  exact ⟨⟨rfl,⟨rfl,trivial⟩,trivial⟩,trivial⟩
 .exact ⟨⟨rfl,⟨⟨rfl,trivial⟩,trivial⟩,trivial⟩,trivial⟩
theorem ZdD{a b:List Int}{i:Int}(hi:0<=i)(ha:i < a.length)(hb:i < b.length):(a.drop i.toNat=b.drop i.toNat)↔(a.getD i.toNat 0=b.getD i.toNat 0/\a.drop (i+1).toNat=b.drop (i+1).toNat):=by
 have e:(i+1).toNat=i.toNat+1:=YS
 rw [QL YS,QL (l:=b) YS,e]
 simp only [List.cons.injEq,List.getD,Q0 (show i.toNat < a.length by omega),Q0 (show i.toNat < b.length by omega),Xa]
theorem c76:Contract Tryz.prog cfg 76 Zel:=by
 refine ZDC ?_
 intro a b _ hp
 simp only [ZgX] at hp
 refine ZIB _ _ _ ?_;(try simp only [iB,vcT,forall_eq])
 (simp only [iB,vcS]);(try simp only [iB,vcT])
 refine ⟨fun hc=> ?_,fun hc=> ?_⟩
 .have e:decide (a=b)=false:=by
   simp only [decide_eq_false_iff_not]
   rintro rfl
   omega
  simp only [ZkN,e]
  exact ⟨⟨rfl,⟨rfl,trivial⟩,trivial⟩,trivial⟩
 .have hl:a.length=b.length:=YS
  refine Z5 (ι:=Int) (fun p=> Za0 a b p) (fun p=> 0<=p/\p<=a.length/\(a=b↔a.drop p.toNat=b.drop p.toNat)) (fun p=> ((a.length:Int) - p).toNat) 0 rfl ⟨YS,YS,by simp⟩ ?_
  rintro i ⟨h1,h2,h3⟩
  refine Zyb _ _ _ _ _ ?_;(try simp only [iB,vcT,forall_eq])
  (simp only [iB,vcS]);(try simp only [iB,vcT])
  refine ⟨fun hc=> ⟨YS,YS,fun hn=> ?_,fun he=> ⟨V3,i+1,rfl,⟨YS,YS,?_⟩,YS⟩⟩,fun hc=> ?_⟩
  .have e:decide (a=b)=false:=by
    simp only [decide_eq_false_iff_not,h3]
    rw [ZdD h1 hc YS]
    exact fun h=> hn h.1
   simp only [ZkN,e]
   exact ⟨⟨rfl,⟨rfl,trivial⟩,trivial⟩,trivial⟩
  .rw [h3,ZdD h1 hc YS]
   exact ⟨fun h=> h.2,fun h=> ⟨by simpa using he,h⟩⟩
  .have e:decide (a=b)=true:=by
    simp only [decide_eq_true_eq,h3]
    rw [QJ YS,QJ YS]
   simp only [ZkN,e]
   exact ⟨⟨rfl,⟨rfl,trivial⟩,trivial⟩,trivial⟩
theorem Zt4:Contract Tryz.prog cfg 173 Z2i:=by
 refine Zzo ?_
 intro t i _ hp
 refine ZGB _ _ _ ?_;(try simp only [iB,vcT,forall_eq])
 (simp only [iB,vcS]);(try simp only [iB,vcT])
 (repeat (refine And.intro (by first | omega | (unfold InR;omega) | (dsimp only;omega)) ?_))
 refine ⟨fun hc=> ?_,fun hc=> ⟨YS,?_⟩⟩
 .have e:YF t i=0:=by
   unfold YF
   split
   .try rfl
   .rw [List.getD,QA YS]
    try rfl
  simp only [Zik,e]
  exact ⟨⟨rfl,⟨⟨rfl,rfl⟩,trivial⟩,trivial⟩,trivial⟩
 .have e:YF t i=t.words.getD i.toNat 0:=by
   unfold YF
   rw [JL]
  simp only [Zik,e]
  exact ⟨⟨rfl,⟨⟨rfl,rfl⟩,trivial⟩,trivial⟩,trivial⟩
theorem Zt3:Contract Tryz.prog cfg 174 Z2h:=by
 refine Zzn ?_
 intro t i _ hp
 refine ZGA _ _ _ ?_;(try simp only [iB,vcT,forall_eq])
 (simp only [iB,vcS]);(try simp only [iB,vcT])
 (repeat (refine And.intro (by first | omega | (unfold InR;omega) | (dsimp only;omega)) ?_))
 refine ⟨fun hc=> ?_,fun hc=> ⟨YS,?_⟩⟩
 .have e:JC t i=Tree.nil:=by
   unfold JC
   split
   .try rfl
   .rw [List.getD,QA YS]
    try rfl
  simp only [Zij,e]
  exact ⟨⟨rfl,⟨⟨rfl,rfl⟩,⟨rfl,⟨rfl,trivial⟩⟩⟩,trivial⟩,trivial⟩
 .have e:JC t i=t.kids.getD i.toNat Tree.nil:=by
   unfold JC
   rw [JL]
  simp only [Zij,e]
  exact ⟨⟨rfl,⟨⟨rfl,rfl⟩,⟨rfl,trivial⟩,⟨rfl,trivial⟩,trivial⟩,trivial⟩,trivial⟩
theorem ZEz:Contract Tryz.prog cfg 172 Zel:=by
 refine Zzp ?_
 intro a b _ hp
 simp only [ZgX] at hp
 refine ZGC _ _ _ ?_;(try simp only [iB,vcT,forall_eq])
 (simp only [iB,vcS]);(try simp only [iB,vcT])
 refine ⟨fun hc=> ?_,fun hc=> ?_⟩
 .have e:decide (a=b)=false:=by
   simp only [decide_eq_false_iff_not]
   rintro rfl
   omega
  simp only [ZkN,e]
  exact ⟨⟨rfl,⟨rfl,trivial⟩,trivial⟩,trivial⟩
 .have hl:a.length=b.length:=YS
  refine Z5 (ι:=Int) (fun p=> Z77 a b p) (fun p=> 0<=p/\p<=a.length/\(a=b↔a.drop p.toNat=b.drop p.toNat)) (fun p=> ((a.length:Int) - p).toNat) 0 rfl ⟨YS,YS,by simp⟩ ?_
  rintro i ⟨h1,h2,h3⟩
  refine ZtK _ _ _ _ _ ?_;(try simp only [iB,vcT,forall_eq])
  (simp only [iB,vcS]);(try simp only [iB,vcT])
  refine ⟨fun hc=> ⟨YS,YS,fun hn=> ?_,fun he=> ⟨V3,i+1,rfl,⟨YS,YS,?_⟩,YS⟩⟩,fun hc=> ?_⟩
  .have e:decide (a=b)=false:=by
    simp only [decide_eq_false_iff_not,h3]
    rw [ZdD h1 hc YS]
    exact fun h=> hn h.1
   simp only [ZkN,e]
   exact ⟨⟨rfl,⟨rfl,trivial⟩,trivial⟩,trivial⟩
  .rw [h3,ZdD h1 hc YS]
   exact ⟨fun h=> h.2,fun h=> ⟨by simpa using he,h⟩⟩
  .have e:decide (a=b)=true:=by
    simp only [decide_eq_true_eq,h3]
    rw [QJ YS,QJ YS]
   simp only [ZkN,e]
   exact ⟨⟨rfl,⟨rfl,trivial⟩,trivial⟩,trivial⟩
theorem Zm1{a b:List Tree}{i:Int}(hi:0<=i)(ha:i < a.length)(hb:i < b.length):(a.drop i.toNat=b.drop i.toNat)↔(a.getD i.toNat Tree.nil=b.getD i.toNat Tree.nil/\a.drop (i+1).toNat=b.drop (i+1).toNat):=by
 have e:(i+1).toNat=i.toNat+1:=YS
 rw [QL YS,QL (l:=b) YS,e]
 simp only [List.cons.injEq,List.getD,Q0 (show i.toNat < a.length by omega),Q0 (show i.toNat < b.length by omega),Xa]
theorem J4{a b:Tree}:ZU a b=true↔a=b:=by simp [ZU]
theorem J0{a b:Tree}:ZU a b=false↔¬a=b:=by simp [ZU]
theorem Zq:∀ (ks:List Tree),ks.length<=Z9 ks
 | []=> by simp [Z9]
 | t ::r=> by
  have:=Zq r
  have:1<=Zm t:=by cases t;simp only [Zm];omega
  simp only [Z9,Q6]
  omega
theorem c26:Contract Tryz.prog cfg 26 Z2V:=by
 refine ZDJ c76 ?_
 rintro N ⟨k,ws,ks⟩ ⟨k',ws',ks'⟩ _ hp hN
 have hlen:=Zq ks
 simp only [Z3x,ZsA,Zm] at hp hN
 refine ZIO N _ _ _ ?_;(try simp only [iB,vcT,forall_eq])
 (simp only [iB,vcS]);(try simp only [iB,vcT])
 try (simp only [Tree.eta,Edit.eta,Tree.kind_mk,Tree.words_mk,Tree.kids_mk])
 have p69:ZgX (ws,ws',()):=by simp only [ZgX];omega
 refine ⟨fun _=> p69,fun hc=> ?_,fun hc=> ?_⟩
 .have e:ZU (.mk k ws ks) (.mk k' ws' ks')=false:=by
   rw [J0]
   intro h
   cases h
   simp at hc
  simp only [ZgV,e]
  exact ⟨⟨rfl,⟨rfl,trivial⟩,trivial⟩,trivial⟩
 .have hc':(k=k'/\ws=ws')/\ks.length=ks'.length:=⟨hc.1,by have:=hc.2;omega⟩
  obtain ⟨⟨rfl,rfl⟩,hl⟩:=hc'
  refine Z5 (ι:=Int) (fun p=> Zab (.mk k ws ks) (.mk k ws ks') p) (fun p=> 0<=p/\p<=ks.length/\(Tree.mk k ws ks= .mk k ws ks'↔ks.drop p.toNat=ks'.drop p.toNat)) (fun p=> ((ks.length:Int) - p).toNat) 0 rfl ⟨YS,YS,by simp⟩ ?_
  rintro i ⟨h1,h2,h3⟩
  refine Zyp N _ _ _ _ _ ?_;(try simp only [iB,vcT,forall_eq])
  (simp only [iB,vcS]);(try simp only [iB,vcT])
  try (simp only [Tree.eta,Edit.eta,Tree.kind_mk,Tree.words_mk,Tree.kids_mk])
  refine ⟨fun hc=> ⟨YS,YS,?_,?_,fun hn=> ?_,fun he=> ⟨V3,i+1,rfl,⟨YS,YS,?_⟩,YS⟩⟩,fun hc=> ?_⟩
  .have:=Z0Q (ks:=ks) (i:=i.toNat) YS
   simp only [Z3x]
   omega
  .have:=Z0Q (ks:=ks) (i:=i.toNat) YS
   simp only [ZsA]
   omega
  .have e:ZU (.mk k ws ks) (.mk k ws ks')=false:=by
    rw [J0,h3,Zm1 h1 hc YS]
    rw [J0] at hn
    exact fun h=> hn h.1
   simp only [ZgV,e]
   exact ⟨⟨rfl,⟨rfl,trivial⟩,trivial⟩,trivial⟩
  .rw [h3,Zm1 h1 hc YS]
   exact ⟨fun h=> h.2,fun h=> ⟨J4.1 he,h⟩⟩
  .have e:ZU (.mk k ws ks) (.mk k ws ks')=true:=by
    rw [J4,h3]
    rw [QJ YS,QJ YS]
   simp only [ZgV,e]
   exact ⟨⟨rfl,⟨rfl,trivial⟩,trivial⟩,trivial⟩
theorem Zaz:∀ (l:List Int),trim (l++[0])=trim l
 | []=> rfl
 | x ::r=> by
  show (match trim (r++[0]) with | []=> if x=0 then [] else [x] | y ::s=> x ::y ::s)=_
  rw [Zaz r]
  try rfl
theorem ZhP{x:Int}(hx:x≠0):∀ (l:List Int),trim (l++[x])=l++[x]
 | []=> by simp [trim,hx]
 | y ::r=> by
  show (match trim (r++[x]) with | []=> if y=0 then [] else [y] | z ::s=> y ::z ::s)=_
  rw [ZhP hx r]
  cases r <;> rfl
theorem ZaB{l:List Int}{i:Int}(h0:0 < i)(hi:i<=l.length):l.take i.toNat=l.take (i - 1).toNat++[l.getD (i - 1).toNat 0]:=by
 have e:i.toNat=(i - 1).toNat+1:=YS
 rw [e,KA]
 simp only [List.getD,Q0 (show (i - 1).toNat < l.length by omega),Option.toList,Xa]
theorem c86:Contract Tryz.prog cfg 86 Zei:=by
 refine ZDz ?_
 intro l _ hp
 simp only [Zl5] at hp
 refine ZIx _ _ ?_;(try simp only [iB,vcT,forall_eq])
 refine Z5 (ι:=Int) (fun p=> Z9X l p) (fun p=> 0<=p/\p<=l.length/\trim (l.take p.toNat)=trim l) (fun p=> p.toNat) (l.length:Int) rfl ⟨YS,YS,by simp⟩ ?_
 rintro i ⟨h1,h2,h3⟩
 refine Zy6 _ _ _ _ ?_;(try simp only [iB,vcT,forall_eq])
 (simp only [iB,vcS]);(try simp only [iB,vcT])
 refine ⟨fun h=> by unfold InR;omega,fun h=> by omega,fun hc=> ⟨V3,i - 1,rfl,⟨YS,YS,?_⟩,YS⟩,fun hc=> ⟨YS,?_,?_⟩⟩
 .rw [ZaB hc.1 h2,hc.2,Zaz] at h3
  exact h3
 .simp only [Q8,Qj]
  omega
 .have e:trim l=[]++l.take i.toNat:=by
   rw [<-h3]
   by_cases h0:0 < i
   .rw [ZaB h0 h2,ZhP (by rcases hc with h | h;exact absurd h0 h;exact h)]
    try rfl
   .have:i.toNat=0:=YS
    rw [this]
    try rfl
  simp only [ZuG,e]
  exact ⟨⟨rfl,⟨⟨rfl,trivial⟩,trivial⟩,trivial⟩,trivial⟩
theorem Zkk:∀ (l:List Int),(trim l).length<=l.length
 | []=> by simp [trim]
 | x ::r=> by
  have:=Zkk r
  simp only [trim]
  split
  .split <;> simp
  .rename_i h
   rw [h] at this
   simp at*
   omega
theorem Ze3:∀ (l:List Tree),Z9 (Yp l)<=Z9 l
 | []=> by simp [Yp]
 | x ::r=> by
  have:=Ze3 r
  simp only [Yp]
  split
  .split
   .simp [Z9]
   .simp [Z9]
  .rename_i h
   rw [h] at this
   simp only [Z9] at*
   omega
mutual
theorem JH:∀ (t:Tree),Zm (Z4 t)<=Zm t
 | .mk k w ks=> by
  have h1:=ZfA ks
  have h2:=Zkk w
  have h3:=Ze3 (Yk ks)
  simp only [Z4]
  split
  .simp only [Tree.nil,Zm,Z9,Q8];omega
  .split
   .simp only [Zm];omega
   .simp only [Zm];omega
theorem ZfA:∀ (ks:List Tree),Z9 (Yk ks)<=Z9 ks
 | []=> by simp [Yk]
 | t ::r=> by
  have h1:=JH t
  have h2:=ZfA r
  simp only [Yk,Z9]
  omega
end
theorem Zba:∀ (l:List Tree) (x:Tree),Yk (l++[x])=Yk l++[Z4 x]
 | [],x=> rfl
 | y ::r,x=> by simp only [Qp,Yk,Zba r x]
theorem Z1w:∀ (l:List Tree),(Yk l).length=l.length
 | []=> rfl
 | y ::r=> by simp only [Yk,Q6,Z1w r]
theorem Z86{x:Tree}(hx:x.kind=0):∀ (l:List Tree),Yp (l++[x])=Yp l
 | []=> by simp [Yp,hx]
 | y ::r=> by
  show (match Yp (r++[x]) with | []=> if y.kind=0 then [] else [y] | z ::s=> y ::z ::s)=_
  rw [Z86 hx r]
  try rfl
theorem Ze2{x:Tree}(hx:x.kind≠0):∀ (l:List Tree),Yp (l++[x])=l++[x]
 | []=> by simp [Yp,hx]
 | y ::r=> by
  show (match Yp (r++[x]) with | []=> if y.kind=0 then [] else [y] | z ::s=> y ::z ::s)=_
  rw [Ze2 hx r]
  cases r <;> rfl
theorem Z87{l:List Tree}{i:Int}(h0:0<=i)(hi:i < l.length):l.take (i+1).toNat=l.take i.toNat++[l.getD i.toNat Tree.nil]:=by
 have e:(i+1).toNat=i.toNat+1:=YS
 rw [e,KA]
 simp only [List.getD,Q0 (show i.toNat < l.length by omega),Option.toList,Xa]
theorem c41:Contract Tryz.prog cfg 41 Z0l:=by
 refine ZDH c86 ?_
 rintro N ⟨k,ws,ks⟩ _ hp hN
 have hlen:=Zq ks
 simp only [Jy,Zsz,Zm] at hp hN
 refine ZIL N _ _ ?_;(try simp only [iB,vcT,forall_eq])
 (simp only [iB,vcS]);(try simp only [iB,vcT])
 try (simp only [Tree.eta,Edit.eta,Tree.kind_mk,Tree.words_mk,Tree.kids_mk])
 refine ⟨fun hc=> ?_,fun hc0=> ?_⟩
 .have e:Z4 (.mk k ws ks)=Tree.nil:=by simp [Z4,hc]
  simp only [ZgU,e]
  exact ⟨⟨rfl,⟨⟨rfl,rfl⟩,⟨rfl,⟨rfl,trivial⟩⟩⟩,trivial⟩,trivial⟩
 .refine Z5 (ι:=Int × Int × List Tree) (fun p=> Z6c (.mk k ws ks) p.1 p.2.1 p.2.2) (fun p=> 0<=p.2.1/\p.2.1<=ks.length/\0<=p.1/\p.1<=p.2.1/\p.2.2=Yk (ks.take p.2.1.toNat)/\Yp (Yk (ks.take p.2.1.toNat))=p.2.2.take p.1.toNat) (fun p=> ((ks.length:Int) - p.2.1).toNat) (0,0,[]) rfl ⟨V2,V2,V2,V2,rfl,rfl⟩ ?_
  rintro ⟨last,i,l⟩ ⟨h1,h2,h3,h4,h5,h6⟩
  dsimp only at*
  have hl:l.length=i.toNat:=by rw [h5,Z1w,Qj];omega
  refine Zym N _ _ _ _ _ _ ?_;(try simp only [iB,vcT,forall_eq])
  (simp only [iB,vcS]);(try simp only [iB,vcT])
  try (simp only [Tree.eta,Edit.eta,Tree.kind_mk,Tree.words_mk,Tree.kids_mk])
  refine ⟨fun hc=> ?_,fun hc=> ⟨fun h1=> ⟨?_,YS,?_⟩,fun hk=> ⟨?_,?_⟩⟩⟩
  .have hm:=Z0Q (ks:=ks) (i:=i.toNat) YS
   have hnx:Yk (ks.take (i+1).toNat)=l++[Z4 (ks.getD i.toNat Tree.nil)]:=by rw [Z87 h1 hc,Zba,h5]
   refine ⟨YS,by simp only [Jy];omega,by simp only [Zsz];omega,by simp only [Q6,Q8];omega,fun hk=> ⟨V3,V3,(i+1,i+1,_),rfl,⟨V2,V2,V2,V2,hnx.symm,?_⟩,V2⟩,fun hk=> ⟨V3,(last,i+1,_),rfl,⟨V2,V2,V2,V2,hnx.symm,?_⟩,V2⟩⟩
   .dsimp only
    rw [hnx,Ze2 hk,Qu (by simp;omega)]
   .dsimp only
    rw [hnx,Z86 hk,Kp YS,<-h6,h5]
  .simp only [Zl5];omega
  .have hi:ks.take i.toNat=ks:=Qu YS
   rw [hi] at h5 h6
   have e:Z4 (.mk k ws ks)= .mk 1 (trim ws) (l.take last.toNat):=by
    subst h1
    simp only [Z4,<-h6]
    try rfl
   simp only [ZgU,e]
   exact ⟨⟨rfl,⟨⟨rfl,rfl⟩,⟨rfl,trivial⟩,⟨rfl,trivial⟩,trivial⟩,trivial⟩,trivial⟩
  .simp only [Q8];omega
  .have hi:ks.take i.toNat=ks:=Qu YS
   rw [hi] at h5
   have e:Z4 (.mk k ws ks)= .mk k ([]++ws) l:=by
    simp only [Z4,if_neg hc0,if_neg hk,h5]
    try rfl
   simp only [ZgU,e]
   exact ⟨⟨rfl,⟨⟨rfl,rfl⟩,⟨rfl,trivial⟩,⟨rfl,trivial⟩,trivial⟩,trivial⟩,trivial⟩
theorem ZcJ:Contract Tryz.prog cfg 151 JR:=by
 refine ZzB c41 c26 ?_
 intro a b _ hp
 have h1:=JH a
 simp only [Z23] at hp
 refine ZGP _ _ _ ?_;(try simp only [iB,vcT,forall_eq])
 try (simp only [Tree.eta,Edit.eta,Tree.kind_mk,Tree.words_mk,Tree.kids_mk])
 refine ⟨hp.1,hp.2,?_,?_⟩
 .simp only [Z3x];omega
 .exact ⟨⟨rfl,⟨rfl,trivial⟩,trivial⟩,trivial⟩
theorem ZpU{l:List Int}(h0:0 < (l.length:Int)):l=l.take ((l.length:Int) - 1).toNat++[l.getD ((l.length:Int) - 1).toNat 0]:=by
 have:=ZaB h0 (Qw _)
 rw [Qu YS] at this
 exact this
theorem ZlL{l:List Tree}(h0:0 < (l.length:Int)):l=l.take ((l.length:Int) - 1).toNat++[l.getD ((l.length:Int) - 1).toNat Tree.nil]:=by
 have:=Z87 (l:=l) (i:=(l.length:Int) - 1) YS YS
 rw [Qu YS] at this
 exact this
theorem Zs1{l:List Int}(h0:0 < (l.length:Int))(hz:l.getD ((l.length:Int) - 1).toNat 0=0):trim (l.take ((l.length:Int) - 1).toNat)=trim l:=by
 have e:=Zaz (l.take ((l.length:Int) - 1).toNat)
 have h:=ZpU h0
 rw [hz] at h
 rw [<-h] at e
 exact e.symm
theorem Zs3{l:List Int}(h:¬0 < (l.length:Int)\/¬l.getD ((l.length:Int) - 1).toNat 0=0):trim l=l:=by
 by_cases h0:0 < (l.length:Int)
 .have e:=ZhP (x:=l.getD ((l.length:Int) - 1).toNat 0) (by rcases h with h | h;exact absurd h0 h;exact h) (l.take ((l.length:Int) - 1).toNat)
  rw [<-ZpU h0] at e
  exact e
 .have:l=[]:=Q4 YS
  subst this
  try rfl
theorem Zmw{l:List Tree}(h0:0 < (l.length:Int))(hz:(l.getD ((l.length:Int) - 1).toNat Tree.nil).kind=0):Yp (l.take ((l.length:Int) - 1).toNat)=Yp l:=by
 have e:=Z86 hz (l.take ((l.length:Int) - 1).toNat)
 rw [<-ZlL h0] at e
 exact e.symm
theorem Zmy{l:List Tree}(h:¬0 < (l.length:Int)\/¬(l.getD ((l.length:Int) - 1).toNat Tree.nil).kind=0):Yp l=l:=by
 by_cases h0:0 < (l.length:Int)
 .have e:=Ze2 (x:=l.getD ((l.length:Int) - 1).toNat Tree.nil) (by rcases h with h | h;exact absurd h0 h;exact h) (l.take ((l.length:Int) - 1).toNat)
  rw [<-ZlL h0] at e
  exact e
 .have:l=[]:=Q4 YS
  subst this
  try rfl
theorem c75:Contract Tryz.prog cfg 75 Z0l:=by
 refine ZDD ZEX ?_
 rintro N ⟨k,ws,ks⟩ _ hp hN
 have hlen:=Zq ks
 simp only [Jy,Zsz,Zm] at hp hN
 refine ZIC N _ _ ?_;(try simp only [iB,vcT,forall_eq])
 (simp only [iB,vcS]);(try simp only [iB,vcT])
 try (simp only [Tree.eta,Edit.eta,Tree.kind_mk,Tree.words_mk,Tree.kids_mk])
 refine ⟨fun hc=> ?_,fun hc0=> ⟨by simp only [Zl5];omega,?_⟩⟩
 .have e:Z4 (.mk k ws ks)=Tree.nil:=by simp [Z4,hc]
  simp only [ZgU,e]
  exact ⟨⟨rfl,⟨⟨rfl,rfl⟩,⟨rfl,⟨rfl,trivial⟩⟩⟩,trivial⟩,trivial⟩
 .refine Z5 (ι:=Int × List Tree) (fun p=> Za3 (.mk k ws ks) p.1 p.2) (fun p=> 0<=p.1/\p.1<=ks.length/\p.2=Yk (ks.take p.1.toNat)) (fun p=> ((ks.length:Int) - p.1).toNat) (0,[]) rfl ⟨V2,V2,rfl⟩ ?_
  rintro ⟨i,l⟩ ⟨h1,h2,h5⟩
  dsimp only at*
  have hl:l.length=i.toNat:=by rw [h5,Z1w,Qj];omega
  refine Zye N _ _ _ _ _ ?_;(try simp only [iB,vcT,forall_eq])
  (simp only [iB,vcS]);(try simp only [iB,vcT])
  try (simp only [Tree.eta,Edit.eta,Tree.kind_mk,Tree.words_mk,Tree.kids_mk])
  refine ⟨fun hc=> ?_,fun hc=> ⟨fun hk=> ?_,fun hk=> ?_⟩⟩
  .have hm:=Z0Q (ks:=ks) (i:=i.toNat) YS
   have hnx:Yk (ks.take (i+1).toNat)=l++[Z4 (ks.getD i.toNat Tree.nil)]:=by rw [Z87 h1 hc,Zba,h5]
   exact ⟨YS,by simp only [Jy];omega,by simp only [Zsz];omega,by simp only [Q6,Q8];omega,V3,(i+1,_),rfl,⟨V2,V2,hnx.symm⟩,V2⟩
  .have hi:ks.take i.toNat=ks:=Qu YS
   rw [hi] at h5
   refine Z5 (ι:=List Int) (fun p=> Za2 (.mk k ws ks) l p) (fun p=> p.length<=ws.length/\trim p=trim ws) (fun p=> p.length) ws rfl ⟨YS,rfl⟩ ?_
   rintro w ⟨h6,h7⟩
   refine Zyd N _ _ _ _ _ ?_;(try simp only [iB,vcT,forall_eq])
   (simp only [iB,vcS]);(try simp only [iB,vcT])
   refine ⟨fun h=> by unfold InR;omega,fun h=> by omega,fun hc=> ⟨V3,YS,_,rfl,⟨by rw [List.length_take];omega,?_⟩,by rw [List.length_take];omega⟩,fun hc=> ?_⟩
   .rw [Zs1 hc.1 hc.2,h7]
   .have hw:w=trim ws:=by rw [<-h7,Zs3 hc]
    refine Z5 (ι:=List Tree) (fun p=> Za1 (.mk k ws ks) w p) (fun p=> p.length<=l.length/\Yp p=Yp l) (fun p=> p.length) l rfl ⟨YS,rfl⟩ ?_
    rintro q ⟨h8,h9⟩
    refine Zyc N _ _ _ _ _ ?_;(try simp only [iB,vcT,forall_eq])
    (simp only [iB,vcS]);(try simp only [iB,vcT])
    refine ⟨fun h=> by unfold InR;omega,fun h=> by omega,fun hc=> ⟨V3,YS,_,rfl,⟨by rw [List.length_take];omega,?_⟩,by rw [List.length_take];omega⟩,fun hc=> ?_⟩
    .rw [Zmw hc.1 hc.2,h9]
    .have hq:q=Yp (Yk ks):=by rw [<-h5,<-h9,Zmy hc]
     have e:Z4 (.mk k ws ks)= .mk k w q:=by
      subst hk
      simp only [Z4,hw,hq]
      try rfl
     simp only [ZgU,e]
     exact ⟨⟨rfl,⟨⟨rfl,rfl⟩,⟨rfl,trivial⟩,⟨rfl,trivial⟩,trivial⟩,trivial⟩,trivial⟩
  .have hi:ks.take i.toNat=ks:=Qu YS
   rw [hi] at h5
   have e:Z4 (.mk k ws ks)= .mk k ws l:=by simp only [Z4,if_neg hc0,if_neg hk,h5]
   simp only [ZgU,e]
   exact ⟨⟨rfl,⟨⟨rfl,rfl⟩,⟨rfl,trivial⟩,⟨rfl,trivial⟩,trivial⟩,trivial⟩,trivial⟩
noncomputable section
def ZrB:ArgL (Int × Unit):=(.cons (J9 .i64) .nil)
def Znb(a:Int × Unit):Prop:=True
def Zv7(a:Int × Unit):V U:= .c (ci (wd a.1))
def Z93:Fs U:=fs ZrB (fun a=> [Znb a]) Zv7
def Zxx:ArgL (Int × Int × Unit):=(.cons (J9 .i64) (.cons (J9 .u64) .nil))
def Zp6(a:Int × Int × Unit):Prop:=0<=a.2.1/\a.2.1 < 18446744073709551616
def ZC4(a:Int × Int × Unit):V U:= .c (.bool (ZsS a.1 a.2.1))
def Zej:Fs U:=fs Zxx (fun a=> [Zp6 a]) ZC4
def mu130(a:Tree × Int × Unit):Nat:=Zm a.1
def Z9r(a:Tree × Int × Unit):Prop:=Zm a.1<=20000000000/\rng a.1/\0<=a.2.1/\a.2.1<=1000
def ZuI(a:Tree × Int × Unit):V U:= .c (.bool (ZD a.1 a.2.1))
def ZaF:Fs U:=fs Zri (fun a=> [Z9r a]) ZuI
def ZwC:Zc U:=lvl [([0],[]),([3],[]),([3,4],[]),([2],[]),([3,6],[]),([2],[]),([3,8],[]),([2],[]),([3,10],[]),([2],[]),([3,12],[]),([2],[]),([14],[]),([2],[]),([2],[])]
abbrev ZJG(p:List Nat):=AW (Z0 ZnJ) Tryz.f129 ZwC p
theorem ZH5(c:Int)(Q:QT)(h:(iB (c==0) ((Q .ret (L2 [pI 2 0] []))) ((iB (c==1) ((Q .ret (L2 [pI 2 1] []))) ((iB (c==2) ((Q .ret (L2 [pI 2 8] []))) ((iB (c==3) ((Q .ret (L2 [pI 2 16] []))) ((iB (c==4) ((Q .ret (L2 [pI 2 32] []))) ((iB (c==5) ((Q .ret (L2 [pI 2 64] []))) ((Q .ret (L2 [pI 2 (-1)] []))))))))))))))):
  ZJG [] (L2 [pI 0 c] []) Q:=
 Eq.mpr V4 h
def ZBI(c:Int):Prop:=AW (Z0 ZnJ) Tryz.f129 ZwC [] (Zh (ZrB.can (c,())) []) (EQ Tryz.f129 (Zv7 (c,())) [])
theorem ZzP(hb:∀ (c:Int) (_:Unit),Znb (c,())->ZBI c):CT 129 Z93:=
 Z1 (l:=[]) Zi rfl trivial ZwC Tryz.func129 rfl rfl 1 (fun _=> rfl) V1 (fun ⟨c,_⟩=> hb c ())
def ZnH:List (FuncId × Fs U):=[(129,Z93)]
def ZA0:Zc U:=lvl [([0,1],[]),([1,5],[]),([1,5,10],[]),([4],[]),([1,5,6],[]),([1,5,6,13],[]),([1,5,6],[]),([1,5,6],[]),([4],[])]
def Z9Y(c n x1 x6:Int):LSt U:=(L2 [(1,.c (.int .u64 x1)),pI 5 (wd c),pI 6 x6] [])
abbrev A81(p:List Nat):=AW (Z0 ZnH) Tryz.f81 ZA0 p
abbrev S81(p:List Nat):=SW (Z0 ZnH) Tryz.f81 ZA0 p
theorem ZIy(c n:Int)(Q:QT)(h:((Znb (c,()))/\(iB (decide (((wd c):Int) < 0)) ((Q .ret (L2 [pB 4 false] []))) ((Zd (A81 [1,1,1,0,1,0,0]) (Z9Y c n n 0) (xB 0 (S81 [1,1,1,1] Q))))))):
  A81 [] (L2 [pI 0 c,(1,.c (.int .u64 n))] []) Q:=
 Eq.mpr V4 h
theorem Zy7(c n x1 x6:Int)(N0:NT)(Q:QT)(h:(iB (decide (x6 < (wd c))) (((2:Int)≠0)/\((InR (x6+1))/\(N0 (Z9Y c n (IntKind.wrap .u64 (Int.tdiv x1 2)) (x6+1))))) ((Q .ret (L2 [pB 4 (x1==0)] []))))):
  A81 [1,1,1,0,1,0,0] (Z9Y c n x1 x6) (xT N0 (xB 0 (S81 [1,1,1,1] Q))):=
 Eq.mpr V4 h
def ZFl(c n:Int):Prop:=AW (Z0 ZnH) Tryz.f81 ZA0 [] (Zh (Zxx.can (c,n,())) []) (EQ Tryz.f81 (ZC4 (c,n,())) [])
theorem ZDA(ZEV:CT 129 Z93)(hb:∀ (c:Int) (n:Int) (_:Unit),Zp6 (c,n,())->ZFl c n):CT 81 Zej:=
 Z1 (l:=[(129,Z93)]) Zi rfl (⟨ZEV,trivial⟩) ZA0 Tryz.func81 rfl rfl 2 (fun _=> rfl) V1 (fun ⟨c,n,_⟩=> hb c n ())
def ZnP(N:Nat):List (FuncId × Fs U):=(31,fs Zri (fun a=> [Z9r a,mu130 a < N]) ZuI) ::[(81,Zej)]
def ZA8:Zc U:=lvl [([1,2],[2]),([1,2,10],[2]),([4],[]),([1,2,23],[2]),([4],[]),([1,2,68],[2]),([4],[]),([1,2,77],[2]),([4],[]),([1,2,5],[2]),([1,2,5,82],[2]),([1,2,5],[2]),([1,2,5,6],[2,6]),([1,2,5,6,94],[2,6]),([4],[]),([1,2,5,6,7],[2,6]),([1,2,5,131],[2]),([4],[]),([4],[])]
def Zaa(t:Tree)(d x5:Int):LSt U:=(L2 [pI 1 d,pL 2,pI 5 x5] [(.loc 2,(enc .tree t))])
abbrev A31(N:Nat)(p:List Nat):=AW (Z0 (ZnP N)) Tryz.f31 ZA8 p
abbrev S31(N:Nat)(p:List Nat):=SW (Z0 (ZnP N)) Tryz.f31 ZA8 p
theorem ZIM(N:Nat)(t:Tree)(d:Int)(Q:QT)(h:let z10:=(Q .ret (L2 [pB 4 false] []));let z9:=((t.kids.length:Int):Int)==0;let z7:=decide (t.kind < 0);let z6:=decide ((1:Int) < t.kind);let z5:=((t.words.length:Int):Int)==1;let z4:=((t.words.length:Int):Int)==0;let z1:=bif z7 then true else (decide ((10:Int) < t.kind));let z3:=bif z1 then true else (d==0);let z0:=bif z3 then true else (decide ((65536:Int)<=(t.words.length:Int)));let z8:=(!z0) && (t.kind==1);let z2:=bif z0 then true else (bif (t.kind==1) then (decide ((65536:Int)<=(t.kids.length:Int))) else false);(iB (t.kind==0) ((Tt z4)/\(Tt z4)/\(Tt z4)/\(Tt z4)/\(Q .ret (L2 [(4,.c (.bool (bif z4 then z9 else false)))] []))) ((iB (t.kind==10) ((Tt z5)/\(Tt z5)/\(Tt z5)/\(Tt z5)/\(Q .ret (L2 [(4,.c (.bool (bif z5 then z9 else false)))] []))) ((Tt (!z7))/\(Tt (!z7))/\(z7=false->(!z7)=true)/\(Tt (!z1))/\(z1=false->(!z1)=true)/\(Tt (!z3))/\(Tt (!z3))/\(Tt (!z3))/\(z3=false->(!z3)=true)/\(Tt (!z0))/\(Tt (!z0))/\(Tt (!z0))/\(Tt z8)/\(Tt z8)/\(Tt z8)/\((!z0)=true->(True->(!z0)=true))/\((!z0)=true->((t.kind==1)=true->z8=true))/\(z0=false->(!z0)=true)/\(Tt (!z2))/\(Tt (!z2))/\(Tt (!z2))/\(z2=false->(!z2)=true)/\(iB (bif z2 then true else (decide ((1048576:Int)<=(t.kids.length:Int)))) z10 ((Tt z6)/\(Tt z6)/\(Tt z6)/\(Tt z6)/\(iB (bif z6 then (decide ((0:Int) < (t.words.length:Int))) else false) z10 ((Zd (A31 N [1,1,1,1,1,0,1,0,0]) (Zaa t d 0) (xB 0 (S31 N [1,1,1,1,1,1] Q)))))))))))):
  A31 N [] (L2 [(0,.agg (enc .tree t)),pI 1 d] []) Q:=
 Eq.mpr V4 h
theorem Zyn(N:Nat)(t:Tree)(d x5:Int)(N0:NT)(Q:QT)(h:∀ y_1,y_1=(t.kids.getD x5.toNat Tree.nil)->∀ y_2,y_2=y_1->∀ y_3,y_3=(List.getD y_1.words (Int.toNat 0) (0:Int))->let z5:=(Q .ret (L2 [pB 4 false] []));let z3:=decide ((2:Int)<=t.kind);let z0:=bif z3 then (decide (t.kind<=7)) else false;let z2:=z0 !=(y_1.kind==10);let z4:=(!z2) && (t.kind==9);let z1:=bif z2 then true else (bif (t.kind==9) then (y_1.kind !=1) else false);(iB (decide (x5 < (t.kids.length:Int))) (((0:Int)<=x5/\x5 < (t.kids.length:Int))/\((InR (d - 1))/\(Z9r (y_2,(d - 1),()))/\(mu130 (y_2,(d - 1),()) < N)/\(iB (!(ZD y_2 (d - 1))) z5 ((Tt z3)/\(Tt z3)/\(Tt z3)/\((Tt (!z2))/\(Tt (!z2))/\(Tt (!z2))/\(Tt z4)/\(Tt z4)/\((!z2)=true->(True->(!z2)=true))/\((!z2)=true->((t.kind==9)=true->z4=true))/\(z2=false->(!z2)=true)/\(Tt (!z1))/\(Tt ((!z1) && z0))/\(Tt ((!z1) && z0))/\(((!z1) && z0)=true->InR (t.kind - 2))/\(Tt ((!z1) && z0))/\(Tt ((!z1) && z0))/\(((!z1) && z0)=true->(0:Int)<=0/\0 < (y_1.words.length:Int))/\(Tt ((!z1) && z0))/\(Tt ((!z1) && z0))/\(Tt ((!z1) && z0))/\(((!z1) && z0)=true->Zp6 ((t.kind - 2),y_3,()))/\(Tt ((!z1) && z0))/\((!z1)=true->(True->(!z1)=true))/\((!z1)=true->(z0=true->((!z1) && z0)=true))/\(z1=false->(!z1)=true)/\(iB (bif z1 then true else (bif z0 then (!(ZsS (t.kind - 2) y_3)) else false)) z5 ((InR (x5+1))/\(N0 (Zaa t d (x5+1)))))))))) ((Q .ret (L2 [pB 4 true] []))))):
  A31 N [1,1,1,1,1,0,1,0,0] (Zaa t d x5) (xT N0 (xB 0 (S31 N [1,1,1,1,1,1] Q))):=
 Eq.mpr V4 (h _ rfl _ (Za _) _ rfl)
def ZFz(N:Nat)(t:Tree)(d:Int):Prop:=AW (Z0 (ZnP N)) Tryz.f31 ZA8 [] (Zh (Zri.can (t,d,())) []) (EQ Tryz.f31 (ZuI (t,d,())) [])
theorem ZDI(c81:CT 81 Zej)(hb:∀ (N:Nat) (t:Tree) (d:Int) (_:Unit),Z9r (t,d,())->mu130 (t,d,()) < N+1->ZFz N t d):CT 31 ZaF:=
 YY (μ:=mu130) (l:=[(81,Zej)]) Zi rfl (⟨c81,trivial⟩) ZA8 Tryz.func31 rfl rfl 2 (fun _=> rfl) V1 (fun N ⟨t,d,_⟩=> hb N t d ())
end
theorem Z4L:∀ (l:List Int),trim l=[]↔∀ i:Nat,l.getD i 0=0
 | []=> by simp [trim]
 | x ::r=> by
  have ih:=Z4L r
  constructor
  .intro h i
   simp only [trim] at h
   split at h
   .rename_i hr
    split at h
    .cases i with
     | zero=> simpa
     | succ i=> simpa using (ih.1 hr) i
    .cases h
   .cases h
  .intro h
   have h0:=h 0
   have hr:trim r=[]:=ih.2 fun i=> by simpa using h (i+1)
   simp only [trim,hr]
   simp at h0
   simp [h0]
theorem Z2y(x:Int)(r:List Int):trim (x ::r)=if trim r=[]/\x=0 then [] else x ::trim r:=by
 simp only [trim]
 split
 .rename_i h
  simp only [h]
  split <;> simp_all
 .rename_i h
  simp [h]
theorem ZbI:∀ (a b:List Int),trim a=trim b↔∀ i:Nat,a.getD i 0=b.getD i 0
 | [],b=> by
  rw [show trim []=[] from rfl,eq_comm,Z4L]
  simp [eq_comm]
 | x ::r,[]=> by
  rw [show trim []=[] from rfl,Z4L]
  simp
 | x ::r,y ::s=> by
  have ih:=ZbI r s
  constructor
  .intro h i
   have key:x=y/\trim r=trim s:=by
    rw [Z2y,Z2y] at h
    split at h <;> split at h <;> simp_all
   cases i with
   | zero=> simpa using key.1
   | succ i=> simpa using ih.1 key.2 i
  .intro h
   have h0:x=y:=by simpa using h 0
   have hr:trim r=trim s:=ih.2 fun i=> by simpa using h (i+1)
   rw [Z2y,Z2y,h0,hr]
def ZAG(l:List Tree):Prop:=∀ x∈l,x.kind=0->x=Tree.nil
theorem JV(x:Tree)(r:List Tree):Yp (x ::r)=if Yp r=[]/\x.kind=0 then [] else x ::Yp r:=by
 simp only [Yp]
 split
 .rename_i h
  simp only [h]
  split <;> simp_all
 .rename_i h
  simp [h]
theorem Z3I:∀ (l:List Tree),ZAG l->(Yp l=[]↔∀ i:Nat,l.getD i Tree.nil=Tree.nil)
 | [],_=> by simp [Yp]
 | x ::r,hn=> by
  have ih:=Z3I r (fun y hy=> hn y (Q1 _ hy))
  have hx:=hn x (Q2 ..)
  rw [JV]
  constructor
  .intro h i
   split at h
   .rename_i hc
    cases i with
    | zero=> simpa using hx hc.2
    | succ i=> simpa using (ih.1 hc.1) i
   .cases h
  .intro h
   have h0:x=Tree.nil:=by simpa using h 0
   have hr:Yp r=[]:=ih.2 fun i=> by simpa using h (i+1)
   rw [if_pos ⟨hr,by rw [h0];rfl⟩]
theorem Z8F:∀ (a b:List Tree),ZAG a->ZAG b->(Yp a=Yp b↔∀ i:Nat,a.getD i Tree.nil=b.getD i Tree.nil)
 | [],b,_,hb=> by
  rw [show Yp []=[] from rfl,eq_comm,Z3I b hb]
  simp [eq_comm]
 | x ::r,[],ha,_=> by
  rw [show Yp []=[] from rfl,Z3I _ ha]
  simp
 | x ::r,y ::s,ha,hb=> by
  have ih:=Z8F r s (fun y hy=> ha y (Q1 _ hy)) (fun y hy=> hb y (Q1 _ hy))
  have hx:=ha x (Q2 ..)
  have hy:=hb y (Q2 ..)
  constructor
  .intro h i
   have key:x=y/\Yp r=Yp s:=by
    rw [JV,JV] at h
    split at h <;> split at h
    .rename_i h1 h2
     exact ⟨(hx h1.2).trans (hy h2.2).symm,h1.1.trans h2.1.symm⟩
    .cases h
    .cases h
    .simpa using h
   cases i with
   | zero=> simpa using key.1
   | succ i=> simpa using ih.1 key.2 i
  .intro h
   have h0:x=y:=by simpa using h 0
   have hr:Yp r=Yp s:=ih.2 fun i=> by simpa using h (i+1)
   rw [JV,JV,h0,hr]
theorem Zb9:Z4 Tree.nil=Tree.nil:=by simp [Tree.nil,Z4]
theorem Z8q(t:Tree):(Z4 t).kind=t.kind:=by
 obtain ⟨k,w,ks⟩:=t
 simp only [Z4]
 split
 .rename_i h;simp [h,Tree.nil]
 .split
  .rename_i h;simp [h]
  .try rfl
theorem Z8s:∀ (l:List Tree),ZAG (Yk l)
 | []=> by intro x hx;simp [Yk] at hx
 | t ::r=> by
  intro x hx hk
  simp only [Yk,Qc] at hx
  rcases hx with rfl | hx
  .rw [Z8q] at hk
   obtain ⟨k,w,ks⟩:=t
   simp only [Tree.kind_mk] at hk
   simp [Z4,hk]
  .exact Z8s r x hx hk
theorem Z1x:∀ (l:List Tree) (i:Nat),(Yk l).getD i Tree.nil=Z4 (l.getD i Tree.nil)
 | [],i=> by simp [Yk,Zb9]
 | t ::r,0=> by simp [Yk]
 | t ::r,i+1=> by simpa [Yk] using Z1x r i
theorem Zj5(a b:List Tree):Yk a=Yk b↔a.length=b.length/\∀ i:Nat,Z4 (a.getD i Tree.nil)=Z4 (b.getD i Tree.nil):=by
 constructor
 .intro h
  refine ⟨by rw [<-Z1w a,h,Z1w],fun i=> ?_⟩
  rw [<-Z1x,h,Z1x]
 .rintro ⟨hl,h⟩
  apply KD (by rw [Z1w,Z1w,hl])
  intro i h1 h2
  have:=h i
  rw [<-Z1x,<-Z1x] at this
  simpa [List.getD,h1,h2] using this
theorem Z0d(a b:Tree):Z4 a=Z4 b↔a.kind=b.kind/\(a.kind=0\/(if a.kind=1 then (∀ i:Nat,a.words.getD i 0=b.words.getD i 0) else a.words=b.words/\a.kids.length=b.kids.length)/\∀ i:Nat,Z4 (a.kids.getD i Tree.nil)=Z4 (b.kids.getD i Tree.nil)):=by
 obtain ⟨k,w,ks⟩:=a
 obtain ⟨k',w',ks'⟩:=b
 show _↔k=k'/\(k=0\/(if k=1 then (∀ i:Nat,w.getD i 0=w'.getD i 0) else w=w'/\ks.length=ks'.length)/\∀ i:Nat,Z4 (ks.getD i Tree.nil)=Z4 (ks'.getD i Tree.nil))
 by_cases hk:k=k'
 .subst hk
  simp only [true_and]
  by_cases h0:k=0
  .simp [Z4,h0]
  .by_cases h1:k=1
   .subst h1
    simp only [Z4,if_neg h0,if_true,Tree.mk.injEq,true_and,ZbI,Z8F _ _ (Z8s _) (Z8s _),Z1x]
    simp
   .simp only [Z4,if_neg h0,if_neg h1,Tree.mk.injEq,true_and,Zj5]
    constructor
    .rintro ⟨h2,h3,h4⟩;exact .inr ⟨⟨h2,h3⟩,h4⟩
    .rintro (h | ⟨⟨h2,h3⟩,h4⟩)
     .exact absurd h h0
     .exact ⟨h2,h3,h4⟩
 .simp only [hk,false_and,iff_false]
  intro h
  have:=congrArg Tree.kind h
  rw [Z8q,Z8q] at this
  exact hk this
theorem Zkd{a b:Tree}(h:Z4 a=Z4 b)(h0:a.kind≠0)(i:Nat):a.words.getD i 0=b.words.getD i 0:=by
 obtain ⟨_,h2⟩:=(Z0d a b).1 h
 rcases h2 with h2 | ⟨h2,_⟩
 .exact absurd h2 h0
 .split at h2
  .exact h2 i
  .rw [h2.1]
theorem ZnS{a b:Tree}(h:Z4 a=Z4 b)(h0:a.kind≠0)(i:Nat):Z4 (a.kids.getD i Tree.nil)=Z4 (b.kids.getD i Tree.nil):=by
 obtain ⟨_,h2⟩:=(Z0d a b).1 h
 rcases h2 with h2 | ⟨_,h2⟩
 .exact absurd h2 h0
 .exact h2 i
theorem ZfT(t:Tree)(i:Int):Zm (JC t i)<=Zm t/\(i < t.kids.length->0<=i->Zm (JC t i) < Zm t):=by
 obtain ⟨k,w,ks⟩:=t
 unfold JC
 have h1:Zm Tree.nil=1:=by simp [Tree.nil,Zm,Z9]
 split
 .simp only [h1,Zm];omega
 .simp only [Tree.kids_mk]
  by_cases hi:i.toNat < ks.length
  .have:=Z0Q hi
   simp only [Zm];omega
  .rw [List.getD,QA YS]
   simp only [Option.getD_none,h1,Zm];omega
theorem ZcL:Contract Tryz.prog cfg 114 JR:=by
 refine ZzS ZEz Zt4 Zt3 ?_
 rintro N a b _ hp hN
 have la:a.words.length+a.kids.length < Zm a:=by obtain ⟨k,w,ks⟩:=a;have:=Zq ks;simp only [Zm,Tree.words_mk,Tree.kids_mk];omega
 have lb:b.words.length+b.kids.length < Zm b:=by obtain ⟨k,w,ks⟩:=b;have:=Zq ks;simp only [Zm,Tree.words_mk,Tree.kids_mk];omega
 simp only [Z23,Zh7] at hp hN
 have no:¬Z4 a=Z4 b->Y3 cfg Tryz.f114.ntmps Tryz.f114.results.toList (Z8c (a,b,())) [] .ret (⟨[(4,.c (.bool false))],[],[]⟩:LSt U):=by
  intro h
  have e:ZU (Z4 a) (Z4 b)=false:=J0.2 h
  simp only [Z8c,e]
  exact ⟨⟨rfl,⟨rfl,trivial⟩,trivial⟩,trivial⟩
 refine ZHa N _ _ _ ?_;(try simp only [iB,vcT,forall_eq])
 (simp only [iB,vcS]);(try simp only [iB,vcT])
 refine ⟨fun hc=> ?_,fun hc=> ?_⟩
 .have e:ZU (Z4 a) (Z4 b)=(a.kind==b.kind):=by
   by_cases hk:a.kind=b.kind
   .have h0:a.kind=0:=by rcases hc with h | h;exact absurd hk h;exact h
    rw [J4.2 ((Z0d a b).2 ⟨hk,.inl h0⟩)]
    simp [hk]
   .rw [J0.2 (fun h=> hk ((Z0d a b).1 h).1)]
    simp [hk]
  simp only [Z8c,e]
  exact ⟨⟨rfl,⟨rfl,trivial⟩,trivial⟩,trivial⟩
 .refine ⟨fun _=> by simp only [ZgX];omega,fun h h'=> ⟨h,h'⟩,fun hd=> no ?_,fun hd=> ?_⟩
  .intro h
   obtain ⟨_,h2⟩:=(Z0d a b).1 h
   rcases h2 with h2 | ⟨h2,_⟩
   .exact hc.2 h2
   .rw [if_neg hd.1] at h2
    rcases hd.2 with h3 | h3
    .exact h3 YS
    .exact h3 h2.1
  .refine Z5 (ι:=Int) (fun p=> Z7q a b p) (fun p=> 0<=p/\p<=2000000000000/\∀ j:Nat,j < p.toNat->a.words.getD j 0=b.words.getD j 0) (fun p=> (2000000000000 - p).toNat) 0 rfl ⟨YS,YS,fun j hj=> by simp at hj⟩ ?_
   rintro i ⟨h1,h2,h3⟩
   refine Zu9 N _ _ _ _ _ ?_;(try simp only [iB,vcT,forall_eq])
   (simp only [iB,vcS]);(try simp only [iB,vcT])
   have wa:∀ t:Tree,YF t i=t.words.getD i.toNat 0:=fun t=> by unfold YF;rw [JL]
   refine ⟨fun hi=> ⟨trivial,trivial,fun hn=> no fun h=> hn ?_,fun he=> ⟨?_,?_⟩⟩,fun hi=> ?_⟩
   .rw [wa,wa]
    exact Zkd h hc.2 _
   .unfold InR;split at hi <;> omega
   .refine ⟨i+1,rfl,⟨YS,by split at hi <;> omega,fun j hj=> ?_⟩,by split at hi <;> omega⟩
    by_cases hj':j < i.toNat
    .exact h3 j hj'
    .have:j=i.toNat:=YS
     rw [this,<-wa,<-wa]
     exact he
   .have hw:∀ j:Nat,a.words.getD j 0=b.words.getD j 0:=fun j=> by
     by_cases hj:j < i.toNat
     .exact h3 j hj
     .split at hi <;> rw [List.getD,List.getD,QA YS,QA YS]
    refine Z5 (ι:=Int) (fun p=> Z7p a b p) (fun p=> 0<=p/\p<=2000000000000/\∀ j:Nat,j < p.toNat->Z4 (a.kids.getD j Tree.nil)=Z4 (b.kids.getD j Tree.nil)) (fun p=> (2000000000000 - p).toNat) 0 rfl ⟨YS,YS,fun j hj=> by simp at hj⟩ ?_
    rintro q ⟨h5,h6,h7⟩
    refine Zu8 N _ _ _ _ _ ?_;(try simp only [iB,vcT,forall_eq])
    (simp only [iB,vcS]);(try simp only [iB,vcT])
    have ka:∀ t:Tree,JC t q=t.kids.getD q.toNat Tree.nil:=fun t=> by unfold JC;rw [JL]
    have ma:=ZfT a q
    have mb:=ZfT b q
    try (simp only [Tree.eta,Edit.eta,Tree.kind_mk,Tree.words_mk,Tree.kids_mk])
    refine ⟨fun hq=> ⟨trivial,trivial,?_,?_,fun hn=> no fun h=> ?_,fun he=> ⟨?_,?_⟩⟩,fun hq=> ?_⟩
    .simp only [Z23];omega
    .simp only [Zh7];split at hq <;> omega
    .rw [J0] at hn
     apply hn
     rw [ka,ka]
     exact ZnS h hc.2 _
    .unfold InR;split at hq <;> omega
    .refine ⟨q+1,rfl,⟨YS,by split at hq <;> omega,fun j hj=> ?_⟩,by split at hq <;> omega⟩
     by_cases hj':j < q.toNat
     .exact h7 j hj'
     .have:j=q.toNat:=YS
      rw [this,<-ka,<-ka]
      exact J4.1 he
    .have hk:∀ j:Nat,Z4 (a.kids.getD j Tree.nil)=Z4 (b.kids.getD j Tree.nil):=fun j=> by
      by_cases hj:j < q.toNat
      .exact h7 j hj
      .split at hq <;> rw [List.getD,List.getD,QA YS,QA YS]
     have e:ZU (Z4 a) (Z4 b)=true:=by
      rw [J4,Z0d]
      refine ⟨hc.1,.inr ⟨?_,hk⟩⟩
      split
      .exact hw
      .rename_i h1
       rcases hd with hd | hd
       .exact absurd hd h1
       .exact ⟨hd.2,by have:=hd.1;omega⟩
     simp only [Z8c,e]
     exact ⟨⟨rfl,⟨rfl,trivial⟩,trivial⟩,trivial⟩
mutual
theorem Z4Q:∀ (t:Tree) (d l:Int),0<=ZW t d l->(Zm t:Int)+ZW t d l<=l
 | .mk _ w ks,d,l,h=> by
  simp only [ZW] at h ⊢
  split at h
  .omega
  .rename_i hc
   rw [if_neg hc]
   have:=Z3L ks (d - 1) (l - 1 - w.length) h
   simp only [Zm]
   omega
theorem Z3L:∀ (ks:List Tree) (d l:Int),0<=Zx ks d l->(Z9 ks:Int)+Zx ks d l<=l
 | [],d,l,h=> by simp [Zx,Z9]
 | t ::r,d,l,h=> by
  simp only [Zx] at h ⊢
  split at h
  .omega
  .rename_i hc
   rw [if_neg hc]
   have h1:=Z3L r d (ZW t d l) h
   have h3:=(Z12 r d (ZW t d l) (YZ t d l).1).2
   have h2:=Z4Q t d l YS
   simp only [Z9]
   omega
end
theorem Zf{n k:Nat}{rs:List ResultVar}{b b':Bool}(hr:rs=[ResultVar.tmp k])(h:b=b'):Y3 cfg n rs (.c (.bool b')) [] .ret (⟨[(k,.c (.bool b))],[],[]⟩:LSt U):=by
 subst hr h
 have hk:Nat.beq k k=true:=Kl k
 simp [Y3,ZFh,ZhL,ZhK,Z8b,ZaM,LSt.toF,Zgs,hk,Zfp,Z3M,Ja,Z0m,leR,leL,leC,Zth]
theorem Yd{n k:Nat}{rs:List ResultVar}{K:IntKind}{b b':Int}(hr:rs=[ResultVar.tmp k])(h:b=b'):Y3 cfg n rs (.c (.int K b')) [] .ret (⟨[(k,.c (.int K b))],[],[]⟩:LSt U):=by
 subst hr h
 have hk:Nat.beq k k=true:=Kl k
 simp [Y3,ZFh,ZhL,ZhK,Z8b,ZaM,LSt.toF,Zgs,hk,Zfp,Z3M,Ja,Z0m,leR,leL,leC,Zth]
theorem ZEV:Contract Tryz.prog cfg 129 Z93:=by
 refine ZzP ?_
 intro c _ _
 refine ZH5 _ _ ?_;(try simp only [iB,vcT,forall_eq])
 (simp only [iB,vcS]);(try simp only [iB,vcT])
 refine ⟨fun h=> Yd rfl ?_,fun h=> ⟨fun h=> Yd rfl ?_,fun h=> ⟨fun h=> Yd rfl ?_,fun h=> ⟨fun h=> Yd rfl ?_,fun h=> ⟨fun h=> Yd rfl ?_,fun h=> ⟨fun h=> Yd rfl ?_,fun h=> Yd rfl ?_⟩⟩⟩⟩⟩⟩ <;> simp only [wd] <;> simp [*]
theorem ZG3(c:Int): -1<=wd c/\wd c<=64:=by
 unfold wd
 repeat' split
 all_goals omega
theorem Zmr(n:Int)(h0:0<=n)(h1:n < 18446744073709551616):IntKind.wrap .u64 (Int.tdiv n 2)=n / 2:=by
 rw [K0 h0]
 simp [IntKind.wrap,IntKind.signed,IntKind.bits]
 omega
theorem Zvr{w:Nat}{n m:Int}(h:0<=n):(n / 2 < 2 ^ w)↔n < 2 ^ (w+1):=by
 have:(2:Int) ^ (w+1)=2 ^ w*2:=by rw [KE]
 omega
theorem c81:Contract Tryz.prog cfg 81 Zej:=by
 refine ZDA ZEV ?_
 intro c n _ hp
 simp only [Zp6] at hp
 have hw:=ZG3 c
 refine ZIy _ _ _ ?_;(try simp only [iB,vcT,forall_eq])
 (simp only [iB,vcS]);(try simp only [iB,vcT])
 refine ⟨trivial,fun h=> Zf rfl ?_,fun h=> ?_⟩
 .simp only [ZsS]
  simp
  omega
 .refine Z5 (ι:=Int × Int) (fun p=> Z9Y c n p.1 p.2) (fun p=> 0<=p.2/\p.2<=wd c/\0<=p.1/\p.1 < 18446744073709551616/\(n < 2 ^ (wd c).toNat↔p.1 < 2 ^ (wd c - p.2).toNat)) (fun p=> (wd c - p.2).toNat) (n,0) rfl ⟨V2,V2,V2,V2,by simp⟩ ?_
  rintro ⟨m,i⟩ ⟨h1,h2,h3,h4,h5⟩
  dsimp only at*
  refine Zy7 _ _ _ _ _ _ ?_;(try simp only [iB,vcT,forall_eq])
  (simp only [iB,vcS]);(try simp only [iB,vcT])
  refine ⟨fun hc=> ⟨YS,V3,(IntKind.wrap .u64 (Int.tdiv m 2),i+1),rfl,?_,V2⟩,fun hc=> Zf rfl ?_⟩
  .rw [Zmr m h3 h4]
   refine ⟨V2,V2,V2,V2,?_⟩
   dsimp only
   rw [h5,show (wd c - i).toNat=(wd c - (i+1)).toNat+1 by omega]
   exact (Zvr (m:=0) h3).symm
  .have e:(wd c - i).toNat=0:=YS
   rw [e] at h5
   simp only [ZsS]
   rw [Qs]
   simp
   omega
theorem ZuE{t:Tree}(h:rng t){i:Nat}(hi:i < t.words.length):0<=t.words.getD i 0/\t.words.getD i 0 < 18446744073709551616:=by
 obtain ⟨k,w,ks⟩:=t
 simp only [rng] at h
 simp only [Tree.words_mk] at*
 have hg:w.getD i 0∈w:=by
  simp only [List.getD,Q0 hi,Xa]
  exact Kf hi
 exact h.2.1 _ hg
theorem ZkJ{l:Int}{ks:List Tree}{i:Int}{d:Int}(h0:0<=i)(h:i < ks.length):
  Jm l (ks.drop i.toNat) d=((ZjG l (ks.getD i.toNat Tree.nil) && ZD (ks.getD i.toNat Tree.nil) d) && Jm l (ks.drop (i+1).toNat) d):=by
 have e:(i+1).toNat=i.toNat+1:=YS
 rw [QL YS,e]
 simp only [Jm,List.getD,Q0 (show i.toNat < ks.length by omega),Xa]
theorem ZkF:∀ {ks:List Tree} {i:Nat},Jt ks->i < ks.length->rng (ks.getD i Tree.nil)
 | t ::_,0,h,_=> by simp only [Jt] at h;exact h.1
 | _ ::r,i+1,h,hi=> by simp only [Jt] at h;exact ZkF (ks:=r) (i:=i) h.2 (by simpa using hi)
theorem ZkG{y:Tree}{d:Int}(h:ZD y d=true)(hk:y.kind=10):y.words.length=1/\y.kids.length=0:=by
 obtain ⟨k,w,ks⟩:=y
 simp only [Tree.kind_mk] at hk
 subst hk
 simpa [ZD] using h
theorem c31:Contract Tryz.prog cfg 31 ZaF:=by
 refine ZDI c81 ?_
 rintro N ⟨k,ws,ks⟩ d _ hp hN
 simp only [Z9r,mu130,Zm,rng] at hp hN
 refine ZIM N _ _ _ ?_;(try simp only [iB,vcT,forall_eq])
 (simp only [iB,vcS]);(try simp only [iB,vcT])
 try (simp only [Tree.eta,Edit.eta,Tree.kind_mk,Tree.words_mk,Tree.kids_mk])
 refine ⟨fun h0=> Zf rfl ?_,fun h0=> ⟨fun h10=> Zf rfl ?_,fun h10=> ⟨fun a b=> ⟨a,b⟩,fun hc=> Zf rfl ?_,fun hc=> ⟨fun hw=> Zf rfl ?_,fun hw=> ?_⟩⟩⟩⟩
 .simp only [ZD,if_pos h0]
  rw [Qs];(simp only [iB,vcS]);omega
 .simp only [ZD,if_neg h0,if_pos h10]
  rw [Qs];(simp only [iB,vcS]);omega
 .simp only [ZD,if_neg h0,if_neg h10]
  split
  .try rfl
  .split
   .rw [decide_eq_false YS];try rfl
   .have:¬(2<=k/\k<=9/\ws.length=0/\ks.length < 1048576):=YS
    rw [decide_eq_false this];try rfl
 .simp only [ZD,if_neg h0,if_neg h10]
  rw [JL,JL]
  have:¬(2<=k/\k<=9/\ws.length=0/\ks.length < 1048576):=YS
  rw [decide_eq_false this];try rfl
 .have hb:ZD (.mk k ws ks) d=Jm k ks (d - 1):=by
   simp only [ZD,if_neg h0,if_neg h10]
   rw [JL]
   split
   .rename_i h1
    rw [decide_eq_true YS,h1];try rfl
   .have:2<=k/\k<=9/\ws.length=0/\ks.length < 1048576:=YS
    rw [decide_eq_true this];try rfl
  refine Z5 (ι:=Int) (fun p=> Zaa (.mk k ws ks) d p) (fun p=> 0<=p/\p<=ks.length/\ZD (.mk k ws ks) d=Jm k (ks.drop p.toNat) (d - 1)) (fun p=> ((ks.length:Int) - p).toNat) 0 rfl ⟨YS,YS,by simpa using hb⟩ ?_
  rintro i ⟨h1,h2,h3⟩
  refine Zyn N _ _ _ _ _ ?_;(try simp only [iB,vcT,forall_eq])
  (simp only [iB,vcS]);(try simp only [iB,vcT])
  try (simp only [Tree.eta,Edit.eta,Tree.kind_mk,Tree.words_mk,Tree.kids_mk])
  refine ⟨fun hi=> ?_,fun hi=> ?_⟩
  .have hd:=ZkJ (l:=k) (d:=d - 1) h1 hi
   have hm:=Z0Q (ks:=ks) (i:=i.toNat) YS
   have hr:=ZkF (i:=i.toNat) hp.2.1.2.2 YS
   rw [hd] at h3
   have hlen:=Zq ks
   generalize ks.getD i.toNat Tree.nil=y at*
   have hpre:Z9r (y,d - 1,()):=⟨V2,hr,V2,V2⟩
   have hmu:mu130 (y,d - 1,()) < N:=by simp only [mu130];omega
   have hin:InR (d - 1):=V3
   refine ⟨⟨h1,hi⟩,hin,hpre,hmu,fun hf=> Zf rfl ?_,fun hf=> ?_⟩
   .rw [h3,hf];simp
   .have hdata:((bif decide (2<=k) then decide (k<=7) else false)=(y.kind==10))↔((2<=k/\k<=7)↔y.kind=10):=by
     rw [Qs];(simp only [iB,vcS])
    have hat:=ZkG hf
    have hkb:ZjG k y=true↔(((2<=k/\k<=7)↔y.kind=10)/\(¬k=9\/y.kind=1))/\((¬2<=k\/¬k<=7)\/ZsS (k - 2) (y.words.getD 0 0)=true):=by
     unfold ZjG
     by_cases hk:2<=k/\k<=7
     .rw [if_pos hk]
      (simp only [iB,vcS])
      constructor
      .rintro ⟨h4,h5⟩;exact ⟨⟨YS,YS⟩,.inr h5⟩
      .rintro ⟨⟨h4,_⟩,h5⟩
       have:=hat YS
       exact ⟨YS,by rcases h5 with h5 | h5;omega;exact h5⟩
     .rw [if_neg hk]
      by_cases h9:k=9
      .rw [if_pos h9]
       (simp only [iB,vcS])
       constructor
       .intro h4;exact ⟨⟨YS,YS⟩,.inl YS⟩
       .rintro ⟨⟨_,h4⟩,_⟩;omega
      .rw [if_neg h9]
       (simp only [iB,vcS])
       constructor
       .intro h4;exact ⟨⟨YS,YS⟩,.inl YS⟩
       .rintro ⟨⟨h4,_⟩,_⟩;omega
    have hone:∀ (h4:(((bif decide (2<=k) then decide (k<=7) else false)=(y.kind==10)/\(¬k=9\/y.kind=1))/\2<=k/\k<=7)),y.words.length=1:=fun h4=> (hat ((hdata.1 h4.1.1).1 h4.2)).1
    simp only [Int.toNat_zero]
    refine ⟨fun a b=> ⟨a,b⟩,fun h4=> by unfold InR;omega,fun h4=> by have:=hone h4;omega,fun h4=> ZuE hr (by have:=hone h4;omega),fun a b=> ⟨a,b⟩,fun h4=> Zf rfl ?_,fun h4=> ⟨V3,i+1,rfl,⟨YS,YS,?_⟩,YS⟩⟩
    .have hno:ZjG k y=false:=by
      cases hkk:ZjG k y with
      | false=> rfl
      | true=>
       exfalso
       obtain ⟨h5,h6⟩:=hkb.1 hkk
       rcases h4 with h4 | ⟨h4,h7⟩
       .rcases h4 with h4 | h4
        .exact h4 (hdata.2 h5.1)
        .omega
       .rcases h6 with h6 | h6
        .omega
        .rw [h7] at h6;cases h6
     rw [h3,hno];try rfl
    .rw [h3,hkb.2 ⟨⟨hdata.1 h4.1.1,h4.1.2⟩,h4.2⟩,hf];try rfl
  .rw [QJ YS] at h3
   simp only [Jm] at h3
   exact Zf rfl h3.symm
end Go.AM.YtpjenobkibfpcaaGreat
