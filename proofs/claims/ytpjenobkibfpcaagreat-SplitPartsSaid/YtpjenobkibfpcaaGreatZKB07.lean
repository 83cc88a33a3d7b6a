import Derived.Test.YtpjenobkibfpcaaGreatZmZ
import Derived.Test.YtpjenobkibfpcaaGreatChecked
import Derived.Test.YtpjenobkibfpcaaGreatRows
import Derived.Test.YtpjenobkibfpcaaGreatZmX
import Derived.Test.YtpjenobkibfpcaaGreatZmXE
import Derived.ProofKit
import Derived.Test.YtpjenobkibfpcaaGreatZKD07
set_option linter.unusedSimpArgs false
set_option linter.unusedVariables false
namespace Go.AM.YtpjenobkibfpcaaGreat
open Go.AM Go.Proofs
def el:Ty→TypeId
 | .u64=> 101
 | .u8=> 5
 | .int=> 3
 | .tree=> 25
 | .wedit=> 113
 | .edit=> 30
 | .kid=> 115
 | .op=> 103
 | .piece=> 173
 | .unit=> 200
 | .pair=> 202
 | .left=> 110
 | .deed=> 56
 | .hdeed=> 82
def tb:Tables U:=
 {el:=el
  sl:=[(22,.u64),(23,.tree),(26,.wedit),(27,.kid),(28,.op),(39,.edit),(50,.deed),(78,.hdeed),(166,.piece),(182,.int),(188,.pair),(191,.unit),(221,.u8)]
  var:=[(2,false,[.int .i64 0]),
   (3,false,[.int .i64 0]),
   (4,false,[.bool false]),
   (5,false,[.int .u8 0]),
   (6,false,[.int .u8 0]),
   (7,true,[.int .i64 0,.int .i64 0,.bool false,.int .u8 0]),
   (8,true,[.int .i64 0,.int .i64 0,.bool false,.int .u8 0]),
   (12,false,[.int .u64 0]),
   (15,false,[.nilp]),
   (16,false,[.nilp]),
   (17,false,[.nilp]),
   (18,true,[.nilp]),
   (19,true,[.nilp]),
   (21,false,[.int .i32 0]),
   (22,false,[.nils]),
   (23,false,[.nils]),
   (24,true,[.int .i64 0,.nils,.nils]),
   (25,true,[.int .i64 0,.nils,.nils]),
   (26,false,[.nils]),
   (27,false,[.nils]),
   (28,false,[.nils]),
   (29,true,[.int .i64 0,.int .i64 0,.nils,.nils,.int .i64 0,.nils,.nils,.nils,.nils,.int .i64 0,.nils]),
   (30,true,[.int .i64 0,.int .i64 0,.nils,.nils,.int .i64 0,.nils,.nils,.nils,.nils,.int .i64 0,.nils]),
   (33,false,[.int .i64 0]),
   (39,false,[.nils]),
   (50,false,[.nils]),
   (52,false,[.nilp]),
   (55,true,[.int .i64 0,.int .i64 0,.int .i64 0,.int .i64 0,.nils,.nils,.int .i64 0,.nils,.nils,.nils,.nils,.int .i64 0,.nils]),
   (56,true,[.int .i64 0,.int .i64 0,.int .i64 0,.int .i64 0,.nils,.nils,.int .i64 0,.nils,.nils,.nils,.nils,.int .i64 0,.nils]),
   (62,false,[.nilp]),
   (64,true,[.int .i64 0,.nils,.nils,.int .i64 0,.nils,.nils,.nils,.nils]),
   (65,true,[.int .i64 0,.nils,.nils,.int .i64 0,.nils,.nils,.nils,.nils]),
   (71,false,[.nilp]),
   (78,false,[.nils]),
   (79,false,[.nilp]),
   (81,true,[.int .i64 0,.int .i64 0,.int .i64 0,.int .i64 0,.int .i64 0,.nils,.nils,.int .i64 0,.nils,.nils,.nils,.nils,.int .i64 0,.nils]),
   (82,true,[.int .i64 0,.int .i64 0,.int .i64 0,.int .i64 0,.int .i64 0,.nils,.nils,.int .i64 0,.nils,.nils,.nils,.nils,.int .i64 0,.nils]),
   (85,false,[.nilp]),
   (86,true,[.nilp,.nilp,.nilp,.nilp]),
   (87,false,[.nilp]),
   (88,false,[.nilp]),
   (89,true,[.nilp,.nilp,.nilp,.nilp]),
   (90,true,[.nilp,.nilp,.nilp,.nilp,.nilp,.nilp,.nilp,.nilp,.nilp,.nilp]),
   (91,true,[.nilp,.nilp,.nilp,.nilp,.nilp,.nilp,.nilp,.nilp,.nilp,.nilp]),
   (101,false,[.int .u64 0]),
   (102,true,[.int .i64 0,.int .i64 0,.nils,.int .i64 0,.int .i64 0,.nils,.nils,.int .i64 0,.nils,.nils,.nils,.nils,.int .i64 0,.nils]),
   (103,true,[.int .i64 0,.int .i64 0,.nils,.int .i64 0,.int .i64 0,.nils,.nils,.int .i64 0,.nils,.nils,.nils,.nils,.int .i64 0,.nils]),
   (104,false,[.nilp]),
   (105,true,[.bool false,.bool false]),
   (106,true,[.bool false,.bool false]),
   (109,true,[.int .i64 0,.int .i64 0,.nils,.nils,.int .i64 0,.nils,.nils,.nils,.nils,.int .i64 0,.nils,.int .i64 0,.int .i64 0,.nils,.nils,.int .i64 0,.nils,.nils,.nils,.nils,.int .i64 0,.nils,.bool false,.bool false]),
   (110,true,[.int .i64 0,.int .i64 0,.nils,.nils,.int .i64 0,.nils,.nils,.nils,.nils,.int .i64 0,.nils,.int .i64 0,.int .i64 0,.nils,.nils,.int .i64 0,.nils,.nils,.nils,.nils,.int .i64 0,.nils,.bool false,.bool false]),
   (112,true,[.int .i64 0,.int .u8 0,.int .u64 0,.int .u64 0]),
   (113,true,[.int .i64 0,.int .u8 0,.int .u64 0,.int .u64 0]),
   (114,true,[.int .i64 0,.int .i64 0,.int .i64 0,.nils,.nils,.int .i64 0,.nils,.nils,.nils,.nils,.int .i64 0,.nils]),
   (115,true,[.int .i64 0,.int .i64 0,.int .i64 0,.nils,.nils,.int .i64 0,.nils,.nils,.nils,.nils,.int .i64 0,.nils]),
   (123,true,[.int .i64 0,.nils,.nils,.nils,.nils]),
   (124,true,[.int .i64 0,.nils,.nils,.nils,.nils]),
   (130,true,[.int .i64 0,.nils,.nils,.nils]),
   (131,true,[.int .i64 0,.nils,.nils,.nils]),
   (136,true,[.int .i64 0,.nils,.nils,.int .i64 0,.nils,.nils,.nils]),
   (137,true,[.int .i64 0,.nils,.nils,.int .i64 0,.nils,.nils,.nils]),
   (138,true,[.int .i64 0,.nils,.nils,.int .i64 0,.int .i64 0,.int .i64 0,.nils,.nils,.int .i64 0,.nils,.nils,.nils,.nils,.int .i64 0,.nils]),
   (139,true,[.int .i64 0,.nils,.nils,.int .i64 0,.int .i64 0,.int .i64 0,.nils,.nils,.int .i64 0,.nils,.nils,.nils,.nils,.int .i64 0,.nils]),
   (141,true,[.int .i64 0,.nils,.nils,.int .i64 0,.int .i64 0,.int .i64 0,.nils,.nils,.int .i64 0,.nils,.nils,.nils,.nils,.int .i64 0,.nils]),
   (142,true,[.int .i64 0,.nils,.nils,.int .i64 0,.int .i64 0,.int .i64 0,.nils,.nils,.int .i64 0,.nils,.nils,.nils,.nils,.int .i64 0,.nils]),
   (166,false,[.nils]),
   (169,false,[.nilp]),
   (170,true,[.nilp,.nils,.nils,.nils,.nils]),
   (171,true,[.nilp,.nils,.nils,.nils,.nils]),
   (172,true,[.int .i64 0,.int .i64 0,.int .i64 0,.nils,.int .i64 0,.int .i64 0,.nils,.nils,.int .i64 0,.nils,.nils,.nils,.nils,.int .i64 0,.nils,.int .i64 0,.int .i64 0,.nils,.int .i64 0,.int .i64 0,.nils,.nils,.int .i64 0,.nils,.nils,.nils,.nils,.int .i64 0,.nils]),
   (173,true,[.int .i64 0,.int .i64 0,.int .i64 0,.nils,.int .i64 0,.int .i64 0,.nils,.nils,.int .i64 0,.nils,.nils,.nils,.nils,.int .i64 0,.nils,.int .i64 0,.int .i64 0,.nils,.int .i64 0,.int .i64 0,.nils,.nils,.int .i64 0,.nils,.nils,.nils,.nils,.int .i64 0,.nils]),
   (176,false,[.nilp]),
   (177,true,[.nils,.nils,.nils]),
   (178,true,[.nils,.nils,.nils]),
   (181,false,[.nilp]),
   (182,false,[.nils]),
   (188,false,[.nils]),
   (191,false,[.nils]),
   (199,true,[.int .i64 0,.int .i64 0,.int .i64 0,.nils,.nils,.int .i64 0,.int .i64 0,.nils,.nils,.int .i64 0,.nils,.nils,.nils,.nils,.int .i64 0,.nils,.bool false]),
   (200,true,[.int .i64 0,.int .i64 0,.int .i64 0,.nils,.nils,.int .i64 0,.int .i64 0,.nils,.nils,.int .i64 0,.nils,.nils,.nils,.nils,.int .i64 0,.nils,.bool false]),
   (201,true,[.int .i64 0,.int .i64 0,.int .i64 0,.int .i64 0,.nils,.nils,.int .i64 0,.int .i64 0,.nils,.nils,.int .i64 0,.nils,.nils,.nils,.nils,.int .i64 0,.nils,.bool false,.int .i64 0,.int .i64 0,.int .i64 0,.nils,.nils,.int .i64 0,.int .i64 0,.nils,.nils,.int .i64 0,.nils,.nils,.nils,.nils,.int .i64 0,.nils,.bool false]),
   (202,true,[.int .i64 0,.int .i64 0,.int .i64 0,.int .i64 0,.nils,.nils,.int .i64 0,.int .i64 0,.nils,.nils,.int .i64 0,.nils,.nils,.nils,.nils,.int .i64 0,.nils,.bool false,.int .i64 0,.int .i64 0,.int .i64 0,.nils,.nils,.int .i64 0,.int .i64 0,.nils,.nils,.int .i64 0,.nils,.nils,.nils,.nils,.int .i64 0,.nils,.bool false]),
   (217,true,[.int .u8 0,.int .u8 0,.int .u8 0,.int .u8 0,.int .u8 0,.int .u8 0,.int .u8 0,.int .u8 0]),
   (221,false,[.nils]),
   (227,false,[.nilp]),
   (228,true,[.nils,.int .i64 0]),
   (229,true,[.nils,.int .i64 0]),
   (259,true,[.int .i64 0,.int .i64 0,.int .i64 0,.int .i64 0,.int .i64 0,.int .i64 0]),
   (267,false,[.int .u32 0]),
   (268,false,[.int .u8 0]),
   (269,false,[.int .u8 0]),
   (271,false,[.nilp]),
   (272,false,[.int .i32 0]),
   (273,false,[.int .i32 0])]
  fld:=[(7,0,0,2),(7,1,1,3),(7,2,2,4),(7,3,3,6),(8,0,0,2),(8,1,1,3),(8,2,2,4),(8,3,3,6),(18,0,0,17),(19,0,0,17),(24,0,0,3),(24,1,1,22),(24,2,2,23),(25,0,0,3),(25,1,1,22),(25,2,2,23),(29,0,0,3),(29,1,1,25),(29,2,4,25),(29,3,7,26),(29,4,8,27),(29,5,9,3),(29,6,10,28),(30,0,0,3),(30,1,1,25),(30,2,4,25),(30,3,7,26),(30,4,8,27),(30,5,9,3),(30,6,10,28),(55,0,0,3),(55,1,1,3),(55,2,2,30),(56,0,0,3),(56,1,1,3),(56,2,2,30),(64,0,0,25),(64,1,3,25),(64,2,6,39),(64,3,7,39),(65,0,0,25),(65,1,3,25),(65,2,6,39),(65,3,7,39),(81,0,0,3),(81,1,1,3),(81,2,2,3),(81,3,3,30),(82,0,0,3),(82,1,1,3),(82,2,2,3),(82,3,3,30),(90,0,0,71),(90,1,1,86),(90,2,5,87),(90,3,6,89),(91,0,0,71),(91,1,1,86),(91,2,5,87),(91,3,6,89),(102,0,0,3),(102,1,1,3),(102,2,2,23),(102,3,3,30),(103,0,0,3),(103,1,1,3),(103,2,2,23),(103,3,3,30),(105,0,0,4),(105,1,1,4),(106,0,0,4),(106,1,1,4),(109,0,0,30),(109,1,11,30),(109,2,22,4),(109,3,23,4),(110,0,0,30),(110,1,11,30),(110,2,22,4),(110,3,23,4),(112,0,0,3),(112,1,1,5),(112,2,2,101),(112,3,3,101),(113,0,0,3),(113,1,1,5),(113,2,2,101),(113,3,3,101),(114,0,0,3),(114,1,1,30),(115,0,0,3),(115,1,1,30),(123,0,0,25),(123,1,3,39),(123,2,4,39),(124,0,0,25),(124,1,3,39),(124,2,4,39),(130,0,0,25),(130,1,3,39),(131,0,0,25),(131,1,3,39),(136,0,0,25),(136,1,3,25),(136,2,6,39),(137,0,0,25),(137,1,3,25),(137,2,6,39),(138,0,0,25),(138,1,3,3),(138,2,4,30),(139,0,0,25),(139,1,3,3),(139,2,4,30),(141,0,0,25),(141,1,3,3),(141,2,4,30),(142,0,0,25),(142,1,3,3),(142,2,4,30),(170,0,0,104),(170,1,1,28),(170,2,2,28),(170,3,3,23),(170,4,4,23),(171,0,0,104),(171,1,1,28),(171,2,2,28),(171,3,3,23),(171,4,4,23),(172,0,0,3),(172,1,1,103),(172,2,15,103),(173,0,0,3),(173,1,1,103),(173,2,15,103),(177,0,0,28),(177,1,1,23),(177,2,2,23),(178,0,0,28),(178,1,1,23),(178,2,2,23),(199,0,0,3),(199,1,1,3),(199,2,2,25),(199,3,5,30),(199,4,16,4),(200,0,0,3),(200,1,1,3),(200,2,2,25),(200,3,5,30),(200,4,16,4),(201,0,0,3),(201,1,1,200),(201,2,18,200),(202,0,0,3),(202,1,1,200),(202,2,18,200),(228,0,0,28),(228,1,1,3),(229,0,0,28),(229,1,1,3)]
  arr:=[(86,4,85),(89,4,88),(217,8,5),(259,6,3)]
  eqs:=[112,113] }
def cfg:Cfg U:=tb.cfg K
theorem ZEm:tb.var.all (Zw5 Tryz.prog)=true:=by kernel_rfl
theorem ZG3:tb.sl.all (slB Tryz.prog tb.el)=true:=by kernel_rfl
theorem ZEH:tb.fld.all (ZBn Tryz.prog)=true:=by kernel_rfl
theorem ZEN:tb.arr.all (ZCl Tryz.prog)=true:=by kernel_rfl
theorem ZG4:∀ t,elB Tryz.prog K tb t=true:=by
 intro t
 cases t
 ·kernel_rfl
 ·kernel_rfl
 ·kernel_rfl
 ·kernel_rfl
 ·kernel_rfl
 ·kernel_rfl
 ·kernel_rfl
 ·kernel_rfl
 ·kernel_rfl
 ·kernel_rfl
 ·kernel_rfl
 ·kernel_rfl
 ·kernel_rfl
 ·kernel_rfl
theorem Zo:CfgOk Tryz.prog cfg:=ZpY ZGd ZEm ZG3 ZEH ZEN ZG4 (by kernel_rfl) (by kernel_rfl)
abbrev sU(T:Ty)(l:List (El T))(t:Tail):C U:= .slice (U:=U) T l t
noncomputable abbrev AW(K:Known U)(f:Func)(lv:Zj U)(p:List Nat):=awp cfg K (ZB cfg K) f.ntmps lv (cd f p)
noncomputable abbrev SW(K:Known U)(f:Func)(lv:Zj U)(p:List Nat):=Z5a cfg K (ZB cfg K) f.ntmps lv (cd f p)
abbrev EQ(f:Func):=Jx cfg f.ntmps f.results.toList
abbrev QT:=AExit→LSt U→Prop
abbrev NT:=LSt U→Prop
abbrev CT(k:FuncId)(s:Fs U):Prop:=Contract Tryz.prog cfg k s
abbrev xB:=@AExit.inBlock U
abbrev xT:=@AExit.then U
abbrev ci(x:Int):C U:= .int .i64 x
abbrev L2(e:List (Nat × V U))(m:List (Name × List (C U))):LSt U:=⟨e,m,[]⟩
def lvl(l:List (List Nat × List Nat)):Zj U:=fun i=> ((l.getD i ([],[])).1.map fun k=> (k,[]),(l.getD i ([],[])).2.map fun k=> (.loc k,[]))
abbrev zc0:List (C U):=[.int .u8 0,.int .u8 0,.int .u8 0,.int .u8 0,.int .u8 0,.int .u8 0,.int .u8 0,.int .u8 0]
abbrev zc1:List (C U):=[.int .i64 0,.int .i64 0,.nils,.nils,.int .i64 0,.nils,.nils,.nils,.nils,.int .i64 0,.nils]
abbrev zc2:List (C U):=[.int .i64 0,.int .i64 0,.nils,.int .i64 0,.int .i64 0,.nils,.nils,.int .i64 0,.nils,.nils,.nils,.nils,.int .i64 0,.nils]
end Go.AM.YtpjenobkibfpcaaGreat
namespace Go.AM.YtpjenobkibfpcaaGreat
open Go.AM Go.Proofs Go.Proofs.YtpjenobkibfpcaaGreat Go.ChangeShapes Go.WideShapes Go.RowKit
theorem own:ownKnob Tryz.prog.godebug=none:=by kernel_rfl
theorem ZxB:laidOutB Tryz.prog=true:=by kernel_rfl
theorem ZpV:TreeTypes cfg:=⟨rfl,rfl,⟨_,rfl⟩,⟨_,rfl⟩,⟨_,rfl,rfl⟩,⟨_,_,rfl,rfl⟩,⟨_,_,rfl,rfl,rfl⟩,⟨_,_,rfl,rfl,rfl⟩⟩
theorem ZqL:EditTypes cfg:=⟨⟨_,rfl,rfl⟩,⟨_,_,rfl,rfl⟩,⟨_,_,rfl,rfl⟩,⟨_,_,rfl,rfl⟩,⟨_,_,rfl,rfl⟩,⟨_,rfl,rfl⟩,⟨_,_,rfl,rfl⟩,rfl,⟨_,rfl,rfl⟩,⟨_,_,rfl,rfl⟩,⟨_,_,rfl,rfl⟩,⟨_,_,rfl,rfl,rfl⟩,rfl,⟨_,rfl,rfl⟩,⟨_,_,rfl,rfl⟩,rfl,rfl,⟨_,_,rfl,rfl,rfl⟩,⟨_,_,rfl,rfl,rfl⟩,⟨_,_,rfl,rfl⟩,⟨_,_,rfl,rfl,rfl⟩⟩
theorem ZxW{H:Type}{henc:TypeId × Value→H}:ZCX henc Tryz.prog cfg (aEl .edit) 30 inE:=ZxV Zo rfl ⟨_,_,rfl⟩ (fun _ n cs h=> Zwh Zo ZpV ZqL n cs h)
end Go.AM.YtpjenobkibfpcaaGreat
namespace Go.AM.YtpjenobkibfpcaaGreat
open Go.AM Go.Proofs
noncomputable section
def Zmp:ArgL (Tree × Int × Int × Unit):=(.cons (aEl .tree) (.cons (YG .i64) (.cons (YG .i64) .nil)))
def ZbS(a:Tree × Int × Int × Unit):Prop:=Z5S a.1∧0≤a.2.1∧a.2.1≤4611686018427387904∧-1≤a.2.2.1∧a.2.2.1≤4611686018427387904
def Zqq(a:Tree × Int × Int × Unit):Nat:=Zu a.1
def Zjx(a:Tree × Int × Int × Unit):V U:= .c (ci (Y4 a.1 a.2.1 a.2.2.1))
def Zdl:Fs U:=fs Zmp (fun a=> [ZbS a]) Zjx
def Zv0:ArgL (List Int × List Int × Unit):=(.cons (aSl .u64) (.cons (aSl .u64) .nil))
def Zgg(a:List Int × List Int × Unit):Prop:=a.1.length≤1000000000000
def Zjy(a:List Int × List Int × Unit):V U:= .c (.bool (decide (a.1=a.2.1)))
def Zdo:Fs U:=fs Zv0 (fun a=> [Zgg a]) Zjy
def ZuW:ArgL (List Int × Unit):=(.cons (aSl .u64) .nil)
def ZjG(a:List Int × Unit):Prop:=a.1.length≤1000000000000
def Zsk(a:List Int × Unit):V U:= .c (sU .u64 (trim a.1) .unk)
def Zdj:Fs U:=fs ZuW (fun a=> [ZjG a]) Zsk
def Zpt:ArgL (List Int × Unit):=(.cons (aSl .u64) .nil)
def Zeh(a:List Int × Unit):Prop:=a.1.length≤1000000000000
def ZsV(a:List Int × Unit):V U:= .c (sU .u64 a.1 .unk)
def Z98:Fs U:=fs Zpt (fun a=> [Zeh a]) ZsV
def Zpe:ArgL (List Int × List Int × Unit):=(.cons (aSl .u64) (.cons (aSl .u64) .nil))
def Zed(a:List Int × List Int × Unit):Prop:=a.1.length≤1000000000000
def ZdV(a:List Int × List Int × Unit):V U:= .c (.bool (decide (a.1=a.2.1)))
def Z8Z:Fs U:=fs Zpe (fun a=> [Zed a]) ZdV
def Zpd:ArgL (Tree × Int × Unit):=(.cons (aEl .tree) (.cons (YG .i64) .nil))
def ZaV(a:Tree × Int × Unit):Prop:=True
def Zhp(a:Tree × Int × Unit):V U:= .c (.int .u64 (JY a.1 a.2.1))
def Z2m:Fs U:=fs Zpd (fun a=> [ZaV a]) Zhp
def Zpc:ArgL (Tree × Int × Unit):=(.cons (aEl .tree) (.cons (YG .i64) .nil))
def ZaU(a:Tree × Int × Unit):Prop:=True
def Zho(a:Tree × Int × Unit):V U:= .agg (enc .tree (Z0c a.1 a.2.1))
def Z2l:Fs U:=fs Zpc (fun a=> [ZaU a]) Zho
def Zmt:ArgL (Tree × Unit):=(.cons (aEl .tree) .nil)
def Z3g(a:Tree × Unit):Prop:=Zu a.1≤1000000000000
def Zqs(a:Tree × Unit):Nat:=Zu a.1
def Zgb(a:Tree × Unit):V U:= .agg (enc .tree (Zd a.1))
def Z52:Fs U:=fs Zmt (fun a=> [Z3g a]) Zgb
def Zmr:ArgL (Tree × Unit):=(.cons (aEl .tree) .nil)
def Z1h(a:Tree × Unit):Prop:=Zu a.1≤1000000000000
def Zqr(a:Tree × Unit):Nat:=Zu a.1
def Zga(a:Tree × Unit):V U:= .agg (enc .tree (Zd a.1))
def Z0C:Fs U:=fs Zmr (fun a=> [Z1h a]) Zga
def Zmv:ArgL (Tree × Tree × Unit):=(.cons (aEl .tree) (.cons (aEl .tree) .nil))
def Z5E(a:Tree × Tree × Unit):Prop:=Zu a.1≤1000000000000
def Zqt(a:Tree × Tree × Unit):Nat:=Zu a.1
def Zgc(a:Tree × Tree × Unit):V U:= .c (.bool (Jp a.1 a.2.1))
def Z5P:Fs U:=fs Zmv (fun a=> [Z5E a]) Zgc
def ZiJ:ArgL (Tree × Tree × Unit):=(.cons (aEl .tree) (.cons (aEl .tree) .nil))
def Z29(a:Tree × Tree × Unit):Prop:=Zu a.1≤1000000000000∧Zu a.2.1≤1000000000000
def Zgp(a:Tree × Tree × Unit):Nat:=Zu a.1+Zu a.2.1
def Z88(a:Tree × Tree × Unit):V U:= .c (.bool (Jp (Zd a.1) (Zd a.2.1)))
def Jr:Fs U:=fs ZiJ (fun a=> [Z29 a]) Z88
def Zm1(N:Nat):List (FuncId × Fs U):=(80,fs Zmp (fun a=> [ZbS a,Zqq a < N]) Zjx) ::[]
def Zxo:Zj U:=lvl [([1,2,3],[3]),([1,2,3],[3]),([1,2,3,19],[3]),([6],[]),([1,2,3,7],[3]),([1,2,3,7,28],[3]),([1,2,3,7],[3]),([1,2,3,7],[3]),([6],[])]
def Za2(t:Tree)(d l x2 x7:Int):LSt U:=(L2 [(1,.c (ci d)),(2,.c (ci x2)),(3,.ptr (.loc 3) 0),(7,.c (ci x7))] [(.loc 3,(enc .tree t))])
abbrev A80(N:Nat)(p:List Nat):=AW (Z0 (Zm1 N)) Tryz.f80 Zxo p
abbrev S80(N:Nat)(p:List Nat):=SW (Z0 (Zm1 N)) Tryz.f80 Zxo p
theorem ZFB(N:Nat)(t:Tree)(d l:Int)(Q:QT)(h:let z0:=bif (d==0) then true else (decide (((((l - 1):Int) - (t.words.length:Int)):Int) < 0));((InR (l - 1))∧(InR (((l - 1):Int) - (t.words.length:Int)))∧((Tr ((!(d==0))=true))∧((d==0)=false→(!(d==0))=true)∧((z0=true→(Q .ret (L2 [(6,.c (ci (-1)))] [])))∧(z0=false→(Zf (A80 N [1,1,1,0,1,0,0]) (Za2 t d l (((l - 1):Int) - (t.words.length:Int)) 0) (xB 0 (S80 N [1,1,1,1] Q)))))))):
  A80 N [] (L2 [(0,.agg (enc .tree t)),(1,.c (ci d)),(2,.c (ci l))] []) Q:=
 Eq.mpr (by kernel_rfl) h
theorem Zvz(N:Nat)(t:Tree)(d l x2 x7:Int)(N0:NT)(Q:QT)(h:let z2:=t.kids.getD x7.toNat Tree.nil;let z1:=decide (x7 < (t.kids.length:Int));let z3:=bif z1 then (decide ((0:Int)≤x2)) else false;let z0:=Tree.mk (Tree.kind z2) (Tree.words z2) (Tree.kids z2);(Tr (z1=true))∧(Tr (z1=true))∧((z3=true→((0:Int)≤x7∧x7 < (t.kids.length:Int))∧(InR (d - 1))∧(ZbS (z0,(d - 1),x2,()))∧(Zqq (z0,(d - 1),x2,()) < N)∧((InR (x7+1))∧(N0 (Za2 t d l (Y4 z0 (d - 1) x2) (x7+1)))))∧(z3=false→(Q .ret (L2 [(6,.c (ci x2))] []))))):
  A80 N [1,1,1,0,1,0,0] (Za2 t d l x2 x7) (xT N0 (xB 0 (S80 N [1,1,1,1] Q))):=
 Eq.mpr (by kernel_rfl) h
def ZCv(N:Nat)(t:Tree)(d l:Int):Prop:=AW (Z0 (Zm1 N)) Tryz.f80 Zxo [] (Zl (Zmp.can (t,d,l,())) []) (EQ Tryz.f80 (Zjx (t,d,l,())) [])
theorem ZAJ(hb:∀ (N:Nat) (t:Tree) (d:Int) (l:Int) (_:Unit),ZbS (t,d,l,())→Zqq (t,d,l,()) < N+1→ZCv N t d l):CT 80 Zdl:=
 Yo (μ:=Zqq) (l:=[]) Zo rfl trivial Zxo Tryz.func80 rfl rfl 3 (fun _=> rfl) (by decide) (fun N ⟨t,d,l,_⟩=> hb N t d l ())
def Zm3:List (FuncId × Fs U):=[]
def Zxq:Zj U:=lvl [([0,1],[]),([0,1,10],[]),([4],[]),([0,1,5],[]),([0,1,5,14],[]),([0,1,5],[]),([0,1,5,25],[]),([4],[]),([4],[])]
def Za6(a b:List Int)(x5:Int):LSt U:=(L2 [(0,.c (sU .u64 a .unk)),(1,.c (sU .u64 b .unk)),(5,.c (ci x5))] [])
abbrev A76(p:List Nat):=AW (Z0 Zm3) Tryz.f76 Zxq p
abbrev S76(p:List Nat):=SW (Z0 Zm3) Tryz.f76 Zxq p
theorem ZFF(a b:List Int)(Q:QT)(h:let z0:=((a.length:Int):Int) !=(b.length:Int);((z0=true→(Q .ret (L2 [(4,.c (.bool false))] [])))∧(z0=false→(Zf (A76 [1,1,0,1,0,0]) (Za6 a b 0) (xB 0 (S76 [1,1,1] Q)))))):
  A76 [] (L2 [(0,.c (sU .u64 a .unk)),(1,.c (sU .u64 b .unk))] []) Q:=
 Eq.mpr (by kernel_rfl) h
theorem ZvH(a b:List Int)(x5:Int)(N0:NT)(Q:QT)(h:let z1:=decide (x5 < (a.length:Int));let z0:=((a.getD x5.toNat (0:Int)):Int) !=(b.getD x5.toNat (0:Int));((z1=true→((0:Int)≤x5∧x5 < (a.length:Int))∧((0:Int)≤x5∧x5 < (b.length:Int))∧((z0=true→(Q .ret (L2 [(4,.c (.bool false))] [])))∧(z0=false→(InR (x5+1))∧(N0 (Za6 a b (x5+1))))))∧(z1=false→(Q .ret (L2 [(4,.c (.bool true))] []))))):
  A76 [1,1,0,1,0,0] (Za6 a b x5) (xT N0 (xB 0 (S76 [1,1,1] Q))):=
 Eq.mpr (by kernel_rfl) h
def ZCz(a b:List Int):Prop:=AW (Z0 Zm3) Tryz.f76 Zxq [] (Zl (Zv0.can (a,b,())) []) (EQ Tryz.f76 (Zjy (a,b,())) [])
theorem ZAL(hb:∀ (a:List Int) (b:List Int) (_:Unit),Zgg (a,b,())→ZCz a b):CT 76 Zdo:=
 Z4 (l:=[]) Zo rfl trivial Zxq Tryz.func76 rfl rfl 2 (fun _=> rfl) (by decide) (fun ⟨a,b,_⟩=> hb a b ())
def ZlZ:List (FuncId × Fs U):=[]
def Zxm:Zj U:=lvl [([0],[]),([0,3],[]),([0,3,16],[]),([0,3],[]),([0,3,4],[]),([2],[])]
def Za1(l:List Int)(x3:Int):LSt U:=(L2 [(0,.c (sU .u64 l .unk)),(3,.c (ci x3))] [])
abbrev A86(p:List Nat):=AW (Z0 ZlZ) Tryz.f86 Zxm p
abbrev S86(p:List Nat):=SW (Z0 ZlZ) Tryz.f86 Zxm p
theorem ZFx(l:List Int)(Q:QT)(h:(Zf (A86 [1,1,0,0,0]) (Za1 l (l.length:Int)) (xB 0 (S86 [1,1,1] Q)))):
  A86 [] (L2 [(0,.c (sU .u64 l .unk))] []) Q:=
 Eq.mpr (by kernel_rfl) h
theorem Zvx(l:List Int)(x3:Int)(N0:NT)(Q:QT)(h:let z0:=decide ((0:Int) < x3);let z1:=bif z0 then (((List.getD l (Int.toNat (x3 - 1)) (0:Int)):Int)==0) else false;(Tr (z0=true))∧(z0=true→InR (x3 - 1))∧(Tr (z0=true))∧(Tr (z0=true))∧(z0=true→(0:Int)≤(x3 - 1)∧(x3 - 1) < (l.length:Int))∧(Tr (z0=true))∧(Tr (z0=true))∧(Tr (z0=true))∧((z1=true→(InR (x3 - 1))∧(N0 (Za1 l (x3 - 1))))∧(z1=false→(((0:Int)≤x3∧x3≤(l.length:Int))∧((([]:List Int).length+(List.take x3.toNat l).length)*8≤140737488355328)∧(Q .ret (L2 [(2,.c (sU .u64 (([]:List Int)++(List.take x3.toNat l)) (.own (.e 2 0))))] [])))))):
  A86 [1,1,0,0,0] (Za1 l x3) (xT N0 (xB 0 (S86 [1,1,1] Q))):=
 Eq.mpr (by kernel_rfl) h
def ZCr(l:List Int):Prop:=AW (Z0 ZlZ) Tryz.f86 Zxm [] (Zl (ZuW.can (l,())) []) (EQ Tryz.f86 (Zsk (l,())) [])
theorem ZAF(hb:∀ (l:List Int) (_:Unit),ZjG (l,())→ZCr l):CT 86 Zdj:=
 Z4 (l:=[]) Zo rfl trivial Zxm Tryz.func86 rfl rfl 1 (fun _=> rfl) (by decide) (fun ⟨l,_⟩=> hb l ())
def ZoE:List (FuncId × Fs U):=[]
def Zua:Zj U:=lvl [([0],[]),([0,4],[]),([2],[]),([2],[])]
abbrev ZGv(p:List Nat):=AW (Z0 ZoE) Tryz.f117 Zua p
theorem ZEc(l:List Int)(Q:QT)(h:(((l=[])→(Q .ret (L2 [(2,.c (.nils))] [])))∧(True→((([]:List Int).length+l.length)*8≤140737488355328)∧(Q .ret (L2 [(2,.c (sU .u64 (([]:List Int)++l) (.own (.e 2 0))))] []))))):
  ZGv [] (L2 [(0,.c (sU .u64 l .unk))] []) Q:=
 Eq.mpr (by kernel_rfl) h
def Zz7(l:List Int):Prop:=AW (Z0 ZoE) Tryz.f117 Zua [] (Zl (Zpt.can (l,())) []) (EQ Tryz.f117 (ZsV (l,())) [])
theorem Zxh(hb:∀ (l:List Int) (_:Unit),Zeh (l,())→Zz7 l):CT 117 Z98:=
 Z4 (l:=[]) Zo rfl trivial Zua Tryz.func117 rfl rfl 1 (fun _=> rfl) (by decide) (fun ⟨l,_⟩=> hb l ())
def Zi2:List (FuncId × Fs U):=[]
def ZnT:Zj U:=lvl [([0,1],[]),([0,1,10],[]),([4],[]),([0,1,12,13],[]),([0,1,12,13,14],[]),([0,1,5,12,13],[]),([0,1,12,13,24],[]),([4],[]),([0,1,12,13],[]),([4],[])]
def Z7i(a b:List Int)(x13:Int):LSt U:=(L2 [(0,.c (sU .u64 a .unk)),(1,.c (sU .u64 b .unk)),(12,.c (ci (a.length:Int))),(13,.c (ci x13))] [])
abbrev ZD5(p:List Nat):=AW (Z0 Zi2) Tryz.f172 ZnT p
abbrev ZFh(p:List Nat):=SW (Z0 Zi2) Tryz.f172 ZnT p
theorem ZDN(a b:List Int)(Q:QT)(h:let z0:=((a.length:Int):Int) !=(b.length:Int);((z0=true→(Q .ret (L2 [(4,.c (.bool false))] [])))∧(z0=false→(Zf (ZD5 [1,1,0,1,0,0]) (Z7i a b 0) (xB 0 (ZFh [1,1,1] Q)))))):
  ZD5 [] (L2 [(0,.c (sU .u64 a .unk)),(1,.c (sU .u64 b .unk))] []) Q:=
 Eq.mpr (by kernel_rfl) h
theorem Zru(a b:List Int)(x13:Int)(N0:NT)(Q:QT)(h:let z1:=decide (x13 < (a.length:Int));let z0:=((a.getD x13.toNat (0:Int)):Int) !=(b.getD x13.toNat (0:Int));((z1=true→(((0:Int)≤x13∧x13 < (a.length:Int))∧((0:Int)≤x13∧x13 < (b.length:Int))∧((z0=true→(Q .ret (L2 [(4,.c (.bool false))] [])))∧(z0=false→(InR (x13+1))∧(N0 (Z7i a b (x13+1)))))))∧(z1=false→(Q .ret (L2 [(4,.c (.bool true))] []))))):
  ZD5 [1,1,0,1,0,0] (Z7i a b x13) (xT N0 (xB 0 (ZFh [1,1,1] Q))):=
 Eq.mpr (by kernel_rfl) h
def ZyI(a b:List Int):Prop:=AW (Z0 Zi2) Tryz.f172 ZnT [] (Zl (Zpe.can (a,b,())) []) (EQ Tryz.f172 (ZdV (a,b,())) [])
theorem ZwX(hb:∀ (a:List Int) (b:List Int) (_:Unit),Zed (a,b,())→ZyI a b):CT 172 Z8Z:=
 Z4 (l:=[]) Zo rfl trivial ZnT Tryz.func172 rfl rfl 2 (fun _=> rfl) (by decide) (fun ⟨a,b,_⟩=> hb a b ())
def Zot:List (FuncId × Fs U):=[]
def ZtZ:Zj U:=lvl [([1,2],[2]),([1,2,13],[2]),([4],[]),([4],[])]
abbrev ZGp(p:List Nat):=AW (Z0 Zot) Tryz.f173 ZtZ p
theorem ZDM(t:Tree)(i:Int)(Q:QT)(h:let z1:= !(decide (i < 0));let z0:=bif (decide (i < 0)) then true else (decide (((t.words.length:Int):Int)≤i));((Tr (z1=true))∧(Tr (z1=true))∧(Tr (z1=true))∧(Tr (z1=true))∧((decide (i < 0))=false→z1=true)∧((z0=true→(Q .ret (L2 [(4,.c (.int .u64 0))] [])))∧(z0=false→((0:Int)≤i∧i < (t.words.length:Int))∧(Q .ret (L2 [(4,.c (.int .u64 (t.words.getD i.toNat (0:Int))))] [])))))):
  ZGp [] (L2 [(0,.agg (enc .tree t)),(1,.c (ci i))] []) Q:=
 Eq.mpr (by kernel_rfl) h
def ZyH(t:Tree)(i:Int):Prop:=AW (Z0 Zot) Tryz.f173 ZtZ [] (Zl (Zpd.can (t,i,())) []) (EQ Tryz.f173 (Zhp (t,i,())) [])
theorem ZwW(hb:∀ (t:Tree) (i:Int) (_:Unit),ZaV (t,i,())→ZyH t i):CT 173 Z2m:=
 Z4 (l:=[]) Zo rfl trivial ZtZ Tryz.func173 rfl rfl 2 (fun _=> rfl) (by decide) (fun ⟨t,i,_⟩=> hb t i ())
def Zos:List (FuncId × Fs U):=[]
def ZtY:Zj U:=lvl [([1,2,4],[2,4]),([1,2,4,13],[2,4]),([4],[4]),([4],[4])]
abbrev ZGo(p:List Nat):=AW (Z0 Zos) Tryz.f174 ZtY p
theorem ZDL(t:Tree)(i:Int)(Q:QT)(h:let z1:= !(decide (i < 0));let z0:=bif (decide (i < 0)) then true else (decide (((t.kids.length:Int):Int)≤i));((Tr (z1=true))∧(Tr (z1=true))∧(Tr (z1=true))∧(Tr (z1=true))∧((decide (i < 0))=false→z1=true)∧((z0=true→(Q .ret (L2 [(4,.ptr (.loc 4) 0)] [(.loc 4,[ci 0,.nils,.nils])])))∧(z0=false→((0:Int)≤i∧i < (t.kids.length:Int))∧(Q .ret (L2 [(4,.ptr (.loc 4) 0)] [(.loc 4,(enc .tree (t.kids.getD i.toNat Tree.nil)))])))))):
  ZGo [] (L2 [(0,.agg (enc .tree t)),(1,.c (ci i))] []) Q:=
 Eq.mpr (by kernel_rfl) h
def ZyG(t:Tree)(i:Int):Prop:=AW (Z0 Zos) Tryz.f174 ZtY [] (Zl (Zpc.can (t,i,())) []) (EQ Tryz.f174 (Zho (t,i,())) [])
theorem ZwV(hb:∀ (t:Tree) (i:Int) (_:Unit),ZaU (t,i,())→ZyG t i):CT 174 Z2l:=
 Z4 (l:=[]) Zo rfl trivial ZtY Tryz.func174 rfl rfl 2 (fun _=> rfl) (by decide) (fun ⟨t,i,_⟩=> hb t i ())
def Zm9(N:Nat):List (FuncId × Fs U):=(41,fs Zmt (fun a=> [Z3g a,Zqs a < N]) Zgb) ::[(86,Zdj)]
def Zxw:Zj U:=fun i=> match i with
 | 0=> ([(1,[]),(2,[])],[(.loc 1,[]),(.loc 2,[])])
 | 1=> ([(1,[]),(2,[]),(10,[])],[(.loc 1,[]),(.loc 2,[])])
 | 2=> ([(2,[])],[(.loc 2,[])])
 | 3=> ([(1,[]),(2,[]),(3,[])],[(.loc 1,[]),(.loc 2,[])])
 | 4=> ([(1,[]),(2,[]),(3,[]),(4,[])],[(.loc 1,[]),(.loc 2,[])])
 | 5=> ([(1,[]),(2,[]),(3,[.own .tree]),(4,[]),(5,[])],[(.loc 1,[]),(.loc 2,[])])
 | 6=> ([(1,[]),(2,[]),(3,[]),(4,[]),(5,[]),(16,[])],[(.loc 1,[]),(.loc 2,[])])
 | 7=> ([(1,[]),(2,[]),(3,[.own .tree]),(4,[]),(5,[])],[(.loc 1,[]),(.loc 2,[])])
 | 8=> ([(1,[]),(2,[]),(3,[]),(4,[]),(5,[]),(6,[])],[(.loc 1,[]),(.loc 2,[]),(.loc 6,[])])
 | 9=> ([(1,[]),(2,[]),(3,[]),(4,[]),(5,[]),(6,[])],[(.loc 1,[]),(.loc 2,[]),(.loc 6,[])])
 | 10=> ([(1,[]),(2,[]),(3,[]),(4,[]),(5,[]),(31,[])],[(.loc 1,[]),(.loc 2,[])])
 | 11=> ([(1,[]),(2,[]),(3,[]),(4,[]),(5,[])],[(.loc 1,[]),(.loc 2,[])])
 | 12=> ([(1,[]),(2,[]),(3,[]),(4,[]),(36,[])],[(.loc 1,[]),(.loc 2,[])])
 | 13=> ([(2,[])],[(.loc 2,[])])
 | 14=> ([(1,[]),(2,[]),(3,[]),(7,[])],[(.loc 1,[]),(.loc 2,[])])
 | 15=> ([(1,[]),(2,[]),(3,[]),(7,[])],[(.loc 1,[]),(.loc 2,[])])
 | 16=> ([(2,[])],[(.loc 2,[])])
 | _=> ([],[])
def Z6v(t:Tree)(x4 x5:Int)(x3:List Tree):LSt U:=(L2 [(1,.ptr (.loc 1) 0),(2,.ptr (.loc 2) 0),(3,.c (sU .tree x3 (.own (.e 3 0)))),(4,.c (ci x4)),(5,.c (ci x5))] [(.loc 1,(enc .tree t)),(.loc 2,[ci 0,.nils,.nils])])
abbrev A41(N:Nat)(p:List Nat):=AW (Z0 (Zm9 N)) Tryz.f41 Zxw p
abbrev S41(N:Nat)(p:List Nat):=SW (Z0 (Zm9 N)) Tryz.f41 Zxw p
theorem ZFQ(N:Nat)(t:Tree)(Q:QT)(h:(((t.kind==0)=true→(Q .ret (L2 [(2,.ptr (.loc 2) 0)] [(.loc 2,[ci 0,.nils,.nils])])))∧((t.kind==0)=false→(Zf (A41 N [1,1,1,1,0,1,0,0]) (Z6v t 0 0 []) (xB 0 (S41 N [1,1,1,1,1] Q)))))):
  A41 N [] (L2 [(0,.agg (enc .tree t))] []) Q:=
 Eq.mpr (by kernel_rfl) h
theorem ZvV(N:Nat)(t:Tree)(x4 x5:Int)(x3:List Tree)(N0:NT)(Q:QT)(h:∀ y_1,y_1=(t.kids.getD x5.toNat Tree.nil)→∀ y_2,y_2=y_1→∀ y_3,y_3=(Zd y_2)→let z1:=decide (x5 < (t.kids.length:Int));let z0:=((Tree.kind (Zd y_2)):Int) !=0;((z1=true→((0:Int)≤x5∧x5 < (t.kids.length:Int))∧(Z3g (y_2,()))∧(Zqs (y_2,()) < N)∧(((x3.length+([y_3]).length)*56≤140737488355328)∧((z0=true→(InR (x5+1))∧((InR (x5+1))∧(N0 (Z6v t (x5+1) (x5+1) (x3++([y_3]))))))∧(z0=false→(InR (x5+1))∧(N0 (Z6v t x4 (x5+1) (x3++([y_3]))))))))∧(z1=false→(((t.kind==1)=true→(ZjG (t.words,()))∧((0:Int)≤x4∧x4≤(x3.length:Int))∧(Q .ret (L2 [(2,.ptr (.loc 2) 0)] [(.loc 2,[ci 1,sU .u64 (trim t.words) .unk,sU .tree (List.take x4.toNat x3) .unk])])))∧((t.kind==1)=false→(((([]:List Int).length+t.words.length)*8≤140737488355328)∧(Q .ret (L2 [(2,.ptr (.loc 2) 0)] [(.loc 2,[ci t.kind,sU .u64 (([]:List Int)++t.words) (.own (.l 2 1)),sU .tree x3 (.own (.l 2 2))])])))))))):
  A41 N [1,1,1,1,0,1,0,0] (Z6v t x4 x5 x3) (xT N0 (xB 0 (S41 N [1,1,1,1,1] Q))):=
 Eq.mpr (by kernel_rfl) (h _ rfl _ (Zm _) _ (Zm _))
def ZCK(N:Nat)(t:Tree):Prop:=AW (Z0 (Zm9 N)) Tryz.f41 Zxw [] (Zl (Zmt.can (t,())) []) (EQ Tryz.f41 (Zgb (t,())) [])
theorem ZAS(c86:CT 86 Zdj)(hb:∀ (N:Nat) (t:Tree) (_:Unit),Z3g (t,())→Zqs (t,()) < N+1→ZCK N t):CT 41 Z52:=
 Yo (μ:=Zqs) (l:=[(86,Zdj)]) Zo rfl (⟨c86,trivial⟩) Zxw Tryz.func41 rfl rfl 1 (fun _=> rfl) (by decide) (fun N ⟨t,_⟩=> hb N t ())
def Zm4(N:Nat):List (FuncId × Fs U):=(75,fs Zmr (fun a=> [Z1h a,Zqr a < N]) Zga) ::[(117,Z98)]
def Zxr:Zj U:=fun i=> match i with
 | 0=> ([(1,[]),(2,[])],[(.loc 1,[]),(.loc 2,[])])
 | 1=> ([(1,[]),(2,[]),(8,[])],[(.loc 1,[]),(.loc 2,[])])
 | 2=> ([(2,[])],[(.loc 2,[])])
 | 3=> ([(1,[]),(2,[]),(3,[])],[(.loc 1,[]),(.loc 2,[]),(.loc 3,[])])
 | 4=> ([(1,[]),(2,[]),(3,[]),(17,[]),(18,[]),(19,[])],[(.loc 1,[]),(.loc 2,[]),(.loc 3,[.any,.any,.own .tree])])
 | 5=> ([(1,[]),(2,[]),(3,[]),(17,[]),(18,[]),(19,[]),(20,[])],[(.loc 1,[]),(.loc 2,[]),(.loc 3,[])])
 | 6=> ([(1,[]),(2,[]),(3,[]),(5,[]),(17,[]),(18,[]),(19,[])],[(.loc 1,[]),(.loc 2,[]),(.loc 3,[]),(.loc 5,[])])
 | 7=> ([(1,[]),(2,[]),(3,[]),(17,[]),(18,[]),(19,[])],[(.loc 1,[]),(.loc 2,[]),(.loc 3,[])])
 | 8=> ([(1,[]),(2,[]),(3,[]),(17,[]),(18,[]),(19,[])],[(.loc 1,[]),(.loc 2,[]),(.loc 3,[.any,.any,.own .tree])])
 | 9=> ([(2,[]),(3,[]),(33,[])],[(.loc 2,[]),(.loc 3,[.any,.any,.unk .tree])])
 | 10=> ([(2,[]),(3,[]),(33,[]),(48,[])],[(.loc 2,[]),(.loc 3,[.any,.any,.unk .tree])])
 | 11=> ([(2,[]),(3,[]),(33,[])],[(.loc 2,[]),(.loc 3,[.any,.any,.unk .tree])])
 | 12=> ([(2,[]),(3,[]),(33,[]),(48,[]),(72,[])],[(.loc 2,[]),(.loc 3,[])])
 | 13=> ([(2,[]),(3,[]),(33,[]),(48,[])],[(.loc 2,[]),(.loc 3,[.any,.any,.unk .tree])])
 | 14=> ([(2,[])],[(.loc 2,[])])
 | _=> ([],[])
def Za9(t:Tree)(x19:Int)(ml3_2:List Tree):LSt U:=(L2 [(1,.ptr (.loc 1) 0),(2,.ptr (.loc 2) 0),(3,.ptr (.loc 3) 0),(17,.c (sU .tree t.kids .unk)),(18,.c (ci (t.kids.length:Int))),(19,.c (ci x19))] [(.loc 1,(enc .tree t)),(.loc 2,[ci 0,.nils,.nils]),(.loc 3,[ci t.kind,sU .u64 t.words .unk,sU .tree ml3_2 (.own (.l 3 2))])])
def Za8(t:Tree)(ml3_2:List Tree)(ml3_1_a:List Int):LSt U:=(L2 [(2,.ptr (.loc 2) 0),(3,.ptr (.loc 3) 0),(33,.c (.bool ((t.kind:Int)==1)))] [(.loc 2,[ci 0,.nils,.nils]),(.loc 3,[ci t.kind,sU .u64 ml3_1_a .unk,sU .tree ml3_2 .unk])])
def Za7(t:Tree)(ml3_1_a:List Int)(ml3_2_b:List Tree):LSt U:=(L2 [(2,.ptr (.loc 2) 0),(3,.ptr (.loc 3) 0),(33,.c (.bool ((t.kind:Int)==1))),(48,.c (.bool (bif (decide ((0:Int) < (ml3_1_a.length:Int))) then (((List.getD ml3_1_a (Int.toNat (((ml3_1_a.length:Int):Int) - 1)) (0:Int)):Int)==0) else false)))] [(.loc 2,[ci 0,.nils,.nils]),(.loc 3,[ci t.kind,sU .u64 ml3_1_a .unk,sU .tree ml3_2_b .unk])])
abbrev A75(N:Nat)(p:List Nat):=AW (Z0 (Zm4 N)) Tryz.f75 Zxr p
abbrev S75(N:Nat)(p:List Nat):=SW (Z0 (Zm4 N)) Tryz.f75 Zxr p
theorem ZFG(N:Nat)(t:Tree)(Q:QT)(h:(((t.kind==0)=true→(Q .ret (L2 [(2,.ptr (.loc 2) 0)] [(.loc 2,[ci 0,.nils,.nils])])))∧((t.kind==0)=false→(Zeh (t.words,()))∧(Zf (A75 N [1,1,1,0,1,0,0]) (Za9 t 0 []) (xB 0 (S75 N [1,1,1,1] Q)))))):
  A75 N [] (L2 [(0,.agg (enc .tree t))] []) Q:=
 Eq.mpr (by kernel_rfl) h
theorem ZvK(N:Nat)(t:Tree)(x19:Int)(ml3_2:List Tree)(N0:NT)(Q:QT)(h:∀ y_1,y_1=(t.kids.getD x19.toNat Tree.nil)→∀ y_2,y_2=y_1→∀ y_3,y_3=(Zd y_2)→let z0:=decide (x19 < (t.kids.length:Int));((z0=true→((0:Int)≤x19∧x19 < (t.kids.length:Int))∧((Z1h (y_2,()))∧(Zqr (y_2,()) < N)∧((ml3_2.length+([y_3]).length)*56≤140737488355328)∧((InR (x19+1))∧(N0 (Za9 t (x19+1) (ml3_2++([y_3])))))))∧(z0=false→(((t.kind==1)=true→Zf (A75 N [1,1,1,1,0,1,0,0,0,0]) (Za8 t ml3_2 t.words) (xB 2 (S75 N [1,1,1,1,0,1,0,1] (S75 N [1,1,1,1,1] Q))))∧((t.kind==1)=false→(Q .ret (L2 [(2,.ptr (.loc 2) 0)] [(.loc 2,[ci t.kind,sU .u64 t.words .unk,sU .tree ml3_2 .unk])]))))))):
  A75 N [1,1,1,0,1,0,0] (Za9 t x19 ml3_2) (xT N0 (xB 0 (S75 N [1,1,1,1] Q))):=
 Eq.mpr (by kernel_rfl) (h _ rfl _ (Zm _) _ (Zm _))
theorem ZvJ(N:Nat)(t:Tree)(ml3_2:List Tree)(ml3_1_a:List Int)(N1:NT)(Q:QT)(h:let z0:=decide ((0:Int) < (ml3_1_a.length:Int));let z1:=bif z0 then (((List.getD ml3_1_a (Int.toNat (((ml3_1_a.length:Int):Int) - 1)) (0:Int)):Int)==0) else false;(Tr (z0=true))∧(Tr (z0=true))∧(Tr (z0=true))∧(Tr (z0=true))∧(z0=true→InR (((ml3_1_a.length:Int):Int) - 1))∧(Tr (z0=true))∧(Tr (z0=true))∧(z0=true→(0:Int)≤(((ml3_1_a.length:Int):Int) - 1)∧(((ml3_1_a.length:Int):Int) - 1) < (ml3_1_a.length:Int))∧(Tr (z0=true))∧(Tr (z0=true))∧(Tr (z0=true))∧((z1=true→(InR (((ml3_1_a.length:Int):Int) - 1))∧((0:Int)≤(((ml3_1_a.length:Int):Int) - 1)∧(((ml3_1_a.length:Int):Int) - 1)≤(ml3_1_a.length:Int))∧(N1 (Za8 t ml3_2 (List.take (Int.toNat (((ml3_1_a.length:Int):Int) - 1)) ml3_1_a))))∧(z1=false→Zf (A75 N [1,1,1,1,0,1,0,1,0,0]) (Za7 t ml3_1_a ml3_2) (xB 4 (S75 N [1,1,1,1,1] Q))))):
  A75 N [1,1,1,1,0,1,0,0,0,0] (Za8 t ml3_2 ml3_1_a) (xT N1 (xB 2 (S75 N [1,1,1,1,0,1,0,1] (S75 N [1,1,1,1,1] Q)))):=
 Eq.mpr (by kernel_rfl) h
theorem ZvI(N:Nat)(t:Tree)(ml3_1_a:List Int)(ml3_2_b:List Tree)(N2:NT)(Q:QT)(h:let z0:=decide ((0:Int) < (ml3_2_b.length:Int));let z1:=bif z0 then (((Tree.kind (List.getD ml3_2_b (Int.toNat (((ml3_2_b.length:Int):Int) - 1)) Tree.nil)):Int)==0) else false;(Tr (z0=true))∧(Tr (z0=true))∧(Tr (z0=true))∧(Tr (z0=true))∧(z0=true→InR (((ml3_2_b.length:Int):Int) - 1))∧(Tr (z0=true))∧(Tr (z0=true))∧(z0=true→(0:Int)≤(((ml3_2_b.length:Int):Int) - 1)∧(((ml3_2_b.length:Int):Int) - 1) < (ml3_2_b.length:Int))∧(Tr (z0=true))∧(Tr (z0=true))∧(Tr (z0=true))∧(Tr (z0=true))∧((z1=true→(InR (((ml3_2_b.length:Int):Int) - 1))∧((0:Int)≤(((ml3_2_b.length:Int):Int) - 1)∧(((ml3_2_b.length:Int):Int) - 1)≤(ml3_2_b.length:Int))∧(N2 (Za7 t ml3_1_a (List.take (Int.toNat (((ml3_2_b.length:Int):Int) - 1)) ml3_2_b))))∧(z1=false→(Q .ret (L2 [(2,.ptr (.loc 2) 0)] [(.loc 2,[ci t.kind,sU .u64 ml3_1_a .unk,sU .tree ml3_2_b .unk])]))))):
  A75 N [1,1,1,1,0,1,0,1,0,0] (Za7 t ml3_1_a ml3_2_b) (xT N2 (xB 4 (S75 N [1,1,1,1,1] Q))):=
 Eq.mpr (by kernel_rfl) h
def ZCA(N:Nat)(t:Tree):Prop:=AW (Z0 (Zm4 N)) Tryz.f75 Zxr [] (Zl (Zmr.can (t,())) []) (EQ Tryz.f75 (Zga (t,())) [])
theorem ZAM(ZC6:CT 117 Z98)(hb:∀ (N:Nat) (t:Tree) (_:Unit),Z1h (t,())→Zqr (t,()) < N+1→ZCA N t):CT 75 Z0C:=
 Yo (μ:=Zqr) (l:=[(117,Z98)]) Zo rfl (⟨ZC6,trivial⟩) Zxr Tryz.func75 rfl rfl 1 (fun _=> rfl) (by decide) (fun N ⟨t,_⟩=> hb N t ())
def Zma(N:Nat):List (FuncId × Fs U):=(26,fs Zmv (fun a=> [Z5E a,Zqt a < N]) Zgc) ::[(76,Zdo)]
def Zxx:Zj U:=lvl [([2,3],[2,3]),([2,3,27],[2,3]),([4],[]),([2,3,5],[2,3]),([2,3,5,32],[2,3]),([2,3,5],[2,3]),([2,3,5,46],[2,3]),([4],[]),([4],[])]
def Zaj(a b:Tree)(x5:Int):LSt U:=(L2 [(2,.ptr (.loc 2) 0),(3,.ptr (.loc 3) 0),(5,.c (ci x5))] [(.loc 2,(enc .tree a)),(.loc 3,(enc .tree b))])
abbrev A26(N:Nat)(p:List Nat):=AW (Z0 (Zma N)) Tryz.f26 Zxx p
abbrev S26(N:Nat)(p:List Nat):=SW (Z0 (Zma N)) Tryz.f26 Zxx p
theorem ZFV(N:Nat)(a b:Tree)(Q:QT)(h:let z1:=a.kind !=b.kind;let z0:=bif z1 then true else (!(decide (a.words=b.words)));let z2:=bif z0 then true else (((a.kids.length:Int):Int) !=(b.kids.length:Int));((Tr ((!z1)=true))∧(Tr ((!z1)=true))∧(Tr ((!z1)=true))∧(Tr ((!z1)=true))∧((!z1)=true→Zgg (a.words,b.words,()))∧(Tr ((!z1)=true))∧(z1=false→(!z1)=true)∧(Tr ((!z0)=true))∧(Tr ((!z0)=true))∧(Tr ((!z0)=true))∧(Tr ((!z0)=true))∧(Tr ((!z0)=true))∧(Tr ((!z0)=true))∧(z0=false→(!z0)=true)∧((z2=true→(Q .ret (L2 [(4,.c (.bool false))] [])))∧(z2=false→(Zf (A26 N [1,1,0,1,0,0]) (Zaj a b 0) (xB 0 (S26 N [1,1,1] Q))))))):
  A26 N [] (L2 [(0,.agg (enc .tree a)),(1,.agg (enc .tree b))] []) Q:=
 Eq.mpr (by kernel_rfl) h
theorem ZvY(N:Nat)(a b:Tree)(x5:Int)(N0:NT)(Q:QT)(h:∀ y_1,y_1=(a.kids.getD x5.toNat Tree.nil)→∀ y_2,y_2=(b.kids.getD x5.toNat Tree.nil)→∀ y_3,y_3=y_1→∀ y_4,y_4=y_2→let z0:=decide (x5 < (a.kids.length:Int));((z0=true→((0:Int)≤x5∧x5 < (a.kids.length:Int))∧((0:Int)≤x5∧x5 < (b.kids.length:Int))∧(Z5E (y_3,y_4,()))∧(Zqt (y_3,y_4,()) < N)∧(((!(Jp y_3 y_4))=true→(Q .ret (L2 [(4,.c (.bool false))] [])))∧((!(Jp y_3 y_4))=false→(InR (x5+1))∧(N0 (Zaj a b (x5+1))))))∧(z0=false→(Q .ret (L2 [(4,.c (.bool true))] []))))):
  A26 N [1,1,0,1,0,0] (Zaj a b x5) (xT N0 (xB 0 (S26 N [1,1,1] Q))):=
 Eq.mpr (by kernel_rfl) (h _ rfl _ rfl _ (Zm _) _ (Zm _))
def ZCP(N:Nat)(a b:Tree):Prop:=AW (Z0 (Zma N)) Tryz.f26 Zxx [] (Zl (Zmv.can (a,b,())) []) (EQ Tryz.f26 (Zgc (a,b,())) [])
theorem ZAW(c76:CT 76 Zdo)(hb:∀ (N:Nat) (a:Tree) (b:Tree) (_:Unit),Z5E (a,b,())→Zqt (a,b,()) < N+1→ZCP N a b):CT 26 Z5P:=
 Yo (μ:=Zqt) (l:=[(76,Zdo)]) Zo rfl (⟨c76,trivial⟩) Zxx Tryz.func26 rfl rfl 2 (fun _=> rfl) (by decide) (fun N ⟨a,b,_⟩=> hb N a b ())
def Zib(N:Nat):List (FuncId × Fs U):=(114,fs ZiJ (fun a=> [Z29 a,Zgp a < N]) Z88) ::[(172,Z8Z),(173,Z2m),(174,Z2l)]
def Zo2:Zj U:=lvl [([2,3],[2,3]),([2,3,16],[2,3]),([4],[]),([2,3,41],[2,3]),([4],[]),([2,3,48,49],[2,3]),([2,3,48,49,50],[2,3]),([2,3,5,48,49],[2,3]),([2,3,48,49,58],[2,3]),([4],[]),([2,3,48,49],[2,3]),([2,3,66,67],[2,3]),([2,3,66,67,68],[2,3]),([2,3,6,66,67],[2,3]),([2,3,66,67,77],[2,3]),([4],[]),([2,3,66,67],[2,3]),([4],[])]
def Z7r(a b:Tree)(x49:Int):LSt U:=(L2 [(2,.ptr (.loc 2) 0),(3,.ptr (.loc 3) 0),(48,.c (ci (if ((a.words.length:Int):Int) < (b.words.length:Int) then (b.words.length:Int) else (a.words.length:Int)))),(49,.c (ci x49))] [(.loc 2,(enc .tree a)),(.loc 3,(enc .tree b))])
def Z7q(a b:Tree)(x67_a:Int):LSt U:=(L2 [(2,.ptr (.loc 2) 0),(3,.ptr (.loc 3) 0),(66,.c (ci (if ((a.kids.length:Int):Int) < (b.kids.length:Int) then (b.kids.length:Int) else (a.kids.length:Int)))),(67,.c (ci x67_a))] [(.loc 2,(enc .tree a)),(.loc 3,(enc .tree b))])
abbrev Zvo(N:Nat)(p:List Nat):=AW (Z0 (Zib N)) Tryz.f114 Zo2 p
abbrev Zy6(N:Nat)(p:List Nat):=SW (Z0 (Zib N)) Tryz.f114 Zo2 p
theorem ZEf(N:Nat)(a b:Tree)(Q:QT)(h:let z3:=a.kind !=b.kind;let z4:=bif z3 then true else (a.kind==0);let z0:=((a.kids.length:Int):Int) !=(b.kids.length:Int);let z2:=bif (a.kind !=1) then (bif z0 then true else (!(decide (a.words=b.words)))) else false;let z1:=(a.kind !=1) && (!z0);((Tr ((!z3)=true))∧(Tr ((!z3)=true))∧(z3=false→(!z3)=true)∧((z4=true→(Q .ret (L2 [(4,.c (.bool (a.kind==b.kind)))] [])))∧(z4=false→(Tr ((a.kind !=1)=true))∧(Tr ((a.kind !=1)=true))∧(Tr ((a.kind !=1)=true))∧(Tr ((a.kind !=1)=true))∧(Tr ((a.kind !=1)=true))∧(Tr ((a.kind !=1)=true))∧(Tr ((a.kind !=1)=true))∧(Tr (z1=true))∧(Tr (z1=true))∧(Tr (z1=true))∧(Tr (z1=true))∧(z1=true→Zed (a.words,b.words,()))∧(Tr (z1=true))∧((a.kind !=1)=true→(True→(a.kind !=1)=true))∧((a.kind !=1)=true→(z0=false→z1=true))∧(Tr ((a.kind !=1)=true))∧((z2=true→(Q .ret (L2 [(4,.c (.bool false))] [])))∧(z2=false→(Zf (Zvo N [1,1,1,0,1,0,0]) (Z7r a b 0) (xB 0 (Zy6 N [1,1,1,1] Q))))))))):
  Zvo N [] (L2 [(0,.agg (enc .tree a)),(1,.agg (enc .tree b))] []) Q:=
 Eq.mpr (by kernel_rfl) h
theorem ZrT(N:Nat)(a b:Tree)(x49:Int)(N0:NT)(Q:QT)(h:let z3:=Tree.mk b.kind b.words b.kids;let z2:=Tree.mk a.kind a.words a.kids;let z1:=((JY z2 x49):Int) !=(JY z3 x49);let z0:=decide (x49 < (if ((a.words.length:Int):Int) < (b.words.length:Int) then (b.words.length:Int) else (a.words.length:Int)));((z0=true→((ZaV (z2,x49,()))∧(ZaV (z3,x49,()))∧((z1=true→(Q .ret (L2 [(4,.c (.bool false))] [])))∧(z1=false→(InR (x49+1))∧(N0 (Z7r a b (x49+1)))))))∧(z0=false→(Zf (Zvo N [1,1,1,1,0,1,0,0]) (Z7q a b 0) (xB 2 (Zy6 N [1,1,1,1,1] Q)))))):
  Zvo N [1,1,1,0,1,0,0] (Z7r a b x49) (xT N0 (xB 0 (Zy6 N [1,1,1,1] Q))):=
 Eq.mpr (by kernel_rfl) h
theorem ZrS(N:Nat)(a b:Tree)(x67_a:Int)(N1:NT)(Q:QT)(h:∀ y_1,y_1=a→∀ y_2,y_2=b→∀ y_3,y_3=(Z0c y_1 x67_a)→∀ y_4,y_4=(Z0c y_2 x67_a)→let z1:= !(Jp (Zd y_3) (Zd y_4));let z0:=decide (x67_a < (if ((a.kids.length:Int):Int) < (b.kids.length:Int) then (b.kids.length:Int) else (a.kids.length:Int)));((z0=true→((ZaU (y_1,x67_a,()))∧(ZaU (y_2,x67_a,()))∧(Z29 (y_3,y_4,()))∧(Zgp (y_3,y_4,()) < N)∧((z1=true→(Q .ret (L2 [(4,.c (.bool false))] [])))∧(z1=false→(InR (x67_a+1))∧(N1 (Z7q a b (x67_a+1)))))))∧(z0=false→(Q .ret (L2 [(4,.c (.bool true))] []))))):
  Zvo N [1,1,1,1,0,1,0,0] (Z7q a b x67_a) (xT N1 (xB 2 (Zy6 N [1,1,1,1,1] Q))):=
 Eq.mpr (by kernel_rfl) (h _ (Zm _) _ (Zm _) _ (Zm _) _ (Zm _))
def Zza(N:Nat)(a b:Tree):Prop:=AW (Z0 (Zib N)) Tryz.f114 Zo2 [] (Zl (ZiJ.can (a,b,())) []) (EQ Tryz.f114 (Z88 (a,b,())) [])
theorem Zxi(ZBQ:CT 172 Z8Z)(ZqW:CT 173 Z2m)(ZqV:CT 174 Z2l)(hb:∀ (N:Nat) (a:Tree) (b:Tree) (_:Unit),Z29 (a,b,())→Zgp (a,b,()) < N+1→Zza N a b):CT 114 Jr:=
 Yo (μ:=Zgp) (l:=[(172,Z8Z),(173,Z2m),(174,Z2l)]) Zo rfl (⟨ZBQ,ZqW,ZqV,trivial⟩) Zo2 Tryz.func114 rfl rfl 2 (fun _=> rfl) (by decide) (fun N ⟨a,b,_⟩=> hb N a b ())
end
end Go.AM.YtpjenobkibfpcaaGreat
namespace Go.AM.YtpjenobkibfpcaaGreat
open Go.AM Go.Proofs
theorem vcU:(∀ {p q:Prop},(p→q→p∧q)=True)∧(∀ {p:Prop},(True∧p)=p)∧(∀ {p:Prop},(p∧True)=p)∧(∀ {p:Prop},(p→True)=True):=
 ⟨by intros;simp+contextual,by simp,by simp,by simp⟩
theorem ZdF:∀ {ks:List Tree} {i:Nat},Z3Z ks→i < ks.length→Z5S (ks.getD i Tree.nil)
 | t ::_,0,h,_=> by simp only [Z3Z] at h;exact h.1
 | _ ::r,i+1,h,hi=> by simp only [Z3Z] at h;exact ZdF (ks:=r) (i:=i) h.2 (by simpa using hi)
theorem Z0h:∀ {ks:List Tree} {i:Nat},i < ks.length→Zu (ks.getD i Tree.nil)≤Zh ks
 | t ::_,0,_=> by simp only [Zh,List.getD_cons_zero];omega
 | t ::r,i+1,h=> by
  have:=Z0h (ks:=r) (i:=i) (by simpa using h)
  simp only [Zh,List.getD_cons_succ]
  omega
mutual
theorem J1:∀ (t:Tree) (d l:Int),-1≤Y4 t d l∧Y4 t d l≤max l (-1)
 | .mk _ w ks,d,l=> by
  simp only [Y4]
  split
  ·omega
  ·have:=Z0W ks (d - 1) (l - 1 - w.length) (by omega)
   omega
theorem Z0W:∀ (ks:List Tree) (d l:Int),-1≤l→-1≤ZD ks d l∧ZD ks d l≤l
 | [],d,l,h=> by simp only [ZD];omega
 | t ::r,d,l,h=> by
  simp only [ZD]
  split
  ·omega
  ·have h1:=J1 t d l
   have h2:=Z0W r d (Y4 t d l) h1.1
   omega
end
theorem Zfo{ks:List Tree}{i:Nat}{d l:Int}(h:i < ks.length)(hl:0≤l):ZD (ks.drop i) d l=ZD (ks.drop (i+1)) d (Y4 (ks.getD i Tree.nil) d l):=by
 rw [List.drop_eq_getElem_cons h]
 simp only [ZD]
 rw [if_neg (by omega)]
 simp [List.getD,h]
theorem c80:Contract Tryz.prog cfg 80 Zdl:=by
 refine ZAJ ?_
 rintro N ⟨k,ws,ks⟩ d l _ ⟨hs,h1,h2,h3,h4⟩ hN
 simp only [Z5S,Zqq,Zu] at*
 refine ZFB N _ _ _ _ ?_;(try simp only [vcT,forall_eq])
 (simp only [vcS]);(try simp only [vcT])
 try (simp only [Tree.eta,Edit.eta,Tree.kind_mk,Tree.words_mk,Tree.kids_mk])
 refine ⟨by unfold InR;omega,by unfold InR;omega,fun hc=> ?_,fun hc=> ?_⟩
 ·have e:Y4 (.mk k ws ks) d l= -1:=by
   simp only [Y4]
   rw [if_pos (by omega)]
  simp only [Zjx,e]
  exact ⟨⟨rfl,⟨⟨rfl,rfl⟩,trivial⟩,trivial⟩,trivial⟩
 ·have e:Y4 (.mk k ws ks) d l=ZD ks (d - 1) (l - 1 - ws.length):=by
   simp only [Y4]
   rw [if_neg (by omega)]
  simp only [Zjx,e]
  refine Za (ι:=Int × Int) (fun p=> Za2 (.mk k ws ks) d l p.1 p.2) (fun p=> 0≤p.2∧p.2≤ks.length∧-1≤p.1∧p.1≤l∧ZD (ks.drop p.2.toNat) (d - 1) p.1=ZD ks (d - 1) (l - 1 - ws.length)) (fun p=> ((ks.length:Int) - p.2).toNat) (l - 1 - ws.length,0) rfl ⟨by omega,by omega,by omega,by omega,by simp⟩ ?_
  rintro ⟨l',i⟩ ⟨h5,h6,h7,h8,h9⟩
  dsimp only at*
  refine Zvz N _ _ _ _ _ _ _ ?_;(try simp only [vcT,forall_eq])
  (simp only [vcS]);(try simp only [vcT])
  try (simp only [Tree.eta,Edit.eta,Tree.kind_mk,Tree.words_mk,Tree.kids_mk])
  refine ⟨fun hc=> ?_,fun hc=> ?_⟩
  ·have hi:i.toNat < ks.length:=by omega
   have hr:=J1 (ks.getD i.toNat Tree.nil) (d - 1) l'
   have hn:=Z0h hi
   have hd:=Zfo (d:=d - 1) hi hc.2
   refine ⟨by omega,by unfold InR;omega,⟨ZdF hs.2.2 hi,by dsimp only;omega,by dsimp only;omega,by dsimp only;omega,by dsimp only;omega⟩,by simp only [Zqq];omega,by unfold InR;omega,⟨(Y4 (ks.getD i.toNat Tree.nil) (d - 1) l',i+1),rfl,⟨by dsimp only;omega,by dsimp only;omega,by dsimp only;omega,by dsimp only;omega,?_⟩,by dsimp only;omega⟩⟩
   dsimp only
   rw [←h9,hd]
   congr 2
   omega
  ·have e:ZD ks (d - 1) (l - 1 - ws.length)=l':=by
    rw [←h9]
    by_cases hi:i < ks.length
    ·rw [List.drop_eq_getElem_cons (by omega)]
     simp only [ZD]
     rw [if_pos (by omega)]
    ·rw [List.drop_eq_nil_of_le (by omega)]
     simp only [ZD]
   rw [e]
   exact ⟨⟨rfl,⟨⟨rfl,rfl⟩,trivial⟩,trivial⟩,trivial⟩
theorem ZC6:Contract Tryz.prog cfg 117 Z98:=by
 refine Zxh ?_
 intro l _ hp
 refine ZEc _ _ ?_;(try simp only [vcT,forall_eq])
 simp only [Zeh] at hp
 refine ⟨fun h=> ?_,⟨by simp only [List.length_nil];omega,?_⟩⟩
 ·subst h
  exact ⟨⟨rfl,⟨rfl,trivial⟩,trivial⟩,trivial⟩
 ·exact ⟨⟨rfl,⟨⟨rfl,trivial⟩,trivial⟩,trivial⟩,trivial⟩
theorem ZcU{a b:List Int}{i:Int}(hi:0≤i)(ha:i < a.length)(hb:i < b.length):(a.drop i.toNat=b.drop i.toNat)↔(a.getD i.toNat 0=b.getD i.toNat 0∧a.drop (i+1).toNat=b.drop (i+1).toNat):=by
 have e:(i+1).toNat=i.toNat+1:=by omega
 rw [List.drop_eq_getElem_cons (by omega),List.drop_eq_getElem_cons (l:=b) (by omega),e]
 simp only [List.cons.injEq,List.getD,List.getElem?_eq_getElem (show i.toNat < a.length by omega),List.getElem?_eq_getElem (show i.toNat < b.length by omega),Option.getD_some]
theorem c76:Contract Tryz.prog cfg 76 Zdo:=by
 refine ZAL ?_
 intro a b _ hp
 simp only [Zgg] at hp
 refine ZFF _ _ _ ?_;(try simp only [vcT,forall_eq])
 (simp only [vcS]);(try simp only [vcT])
 refine ⟨fun hc=> ?_,fun hc=> ?_⟩
 ·have e:decide (a=b)=false:=by
   simp only [decide_eq_false_iff_not]
   rintro rfl
   omega
  simp only [Zjy,e]
  exact ⟨⟨rfl,⟨rfl,trivial⟩,trivial⟩,trivial⟩
 ·have hl:a.length=b.length:=by omega
  refine Za (ι:=Int) (fun p=> Za6 a b p) (fun p=> 0≤p∧p≤a.length∧(a=b↔a.drop p.toNat=b.drop p.toNat)) (fun p=> ((a.length:Int) - p).toNat) 0 rfl ⟨by omega,by omega,by simp⟩ ?_
  rintro i ⟨h1,h2,h3⟩
  refine ZvH _ _ _ _ _ ?_;(try simp only [vcT,forall_eq])
  (simp only [vcS]);(try simp only [vcT])
  refine ⟨fun hc=> ⟨by omega,by omega,fun hn=> ?_,fun he=> ⟨by unfold InR;omega,i+1,rfl,⟨by omega,by omega,?_⟩,by omega⟩⟩,fun hc=> ?_⟩
  ·have e:decide (a=b)=false:=by
    simp only [decide_eq_false_iff_not,h3]
    rw [ZcU h1 hc (by omega)]
    exact fun h=> hn h.1
   simp only [Zjy,e]
   exact ⟨⟨rfl,⟨rfl,trivial⟩,trivial⟩,trivial⟩
  ·rw [h3,ZcU h1 hc (by omega)]
   exact ⟨fun h=> h.2,fun h=> ⟨by simpa using he,h⟩⟩
  ·have e:decide (a=b)=true:=by
    simp only [decide_eq_true_eq,h3]
    rw [List.drop_eq_nil_of_le (by omega),List.drop_eq_nil_of_le (by omega)]
   simp only [Zjy,e]
   exact ⟨⟨rfl,⟨rfl,trivial⟩,trivial⟩,trivial⟩
theorem ZqW:Contract Tryz.prog cfg 173 Z2m:=by
 refine ZwW ?_
 intro t i _ hp
 refine ZDM _ _ _ ?_;(try simp only [vcT,forall_eq])
 (simp only [vcS]);(try simp only [vcT])
 (repeat (refine And.intro (by first | omega | (unfold InR;omega) | (dsimp only;omega)) ?_))
 refine ⟨fun hc=> ?_,fun hc=> ⟨by omega,?_⟩⟩
 ·have e:JY t i=0:=by
   unfold JY
   split
   ·try rfl
   ·rw [List.getD,List.getElem?_eq_none (by omega)]
    try rfl
  simp only [Zhp,e]
  exact ⟨⟨rfl,⟨⟨rfl,rfl⟩,trivial⟩,trivial⟩,trivial⟩
 ·have e:JY t i=t.words.getD i.toNat 0:=by
   unfold JY
   rw [if_neg (by omega)]
  simp only [Zhp,e]
  exact ⟨⟨rfl,⟨⟨rfl,rfl⟩,trivial⟩,trivial⟩,trivial⟩
theorem ZqV:Contract Tryz.prog cfg 174 Z2l:=by
 refine ZwV ?_
 intro t i _ hp
 refine ZDL _ _ _ ?_;(try simp only [vcT,forall_eq])
 (simp only [vcS]);(try simp only [vcT])
 (repeat (refine And.intro (by first | omega | (unfold InR;omega) | (dsimp only;omega)) ?_))
 refine ⟨fun hc=> ?_,fun hc=> ⟨by omega,?_⟩⟩
 ·have e:Z0c t i=Tree.nil:=by
   unfold Z0c
   split
   ·try rfl
   ·rw [List.getD,List.getElem?_eq_none (by omega)]
    try rfl
  simp only [Zho,e]
  exact ⟨⟨rfl,⟨⟨rfl,rfl⟩,⟨rfl,⟨rfl,trivial⟩⟩⟩,trivial⟩,trivial⟩
 ·have e:Z0c t i=t.kids.getD i.toNat Tree.nil:=by
   unfold Z0c
   rw [if_neg (by omega)]
  simp only [Zho,e]
  exact ⟨⟨rfl,⟨⟨rfl,rfl⟩,⟨rfl,trivial⟩,⟨rfl,trivial⟩,trivial⟩,trivial⟩,trivial⟩
theorem ZBQ:Contract Tryz.prog cfg 172 Z8Z:=by
 refine ZwX ?_
 intro a b _ hp
 simp only [Zed] at hp
 refine ZDN _ _ _ ?_;(try simp only [vcT,forall_eq])
 (simp only [vcS]);(try simp only [vcT])
 refine ⟨fun hc=> ?_,fun hc=> ?_⟩
 ·have e:decide (a=b)=false:=by
   simp only [decide_eq_false_iff_not]
   rintro rfl
   omega
  simp only [ZdV,e]
  exact ⟨⟨rfl,⟨rfl,trivial⟩,trivial⟩,trivial⟩
 ·have hl:a.length=b.length:=by omega
  refine Za (ι:=Int) (fun p=> Z7i a b p) (fun p=> 0≤p∧p≤a.length∧(a=b↔a.drop p.toNat=b.drop p.toNat)) (fun p=> ((a.length:Int) - p).toNat) 0 rfl ⟨by omega,by omega,by simp⟩ ?_
  rintro i ⟨h1,h2,h3⟩
  refine Zru _ _ _ _ _ ?_;(try simp only [vcT,forall_eq])
  (simp only [vcS]);(try simp only [vcT])
  refine ⟨fun hc=> ⟨by omega,by omega,fun hn=> ?_,fun he=> ⟨by unfold InR;omega,i+1,rfl,⟨by omega,by omega,?_⟩,by omega⟩⟩,fun hc=> ?_⟩
  ·have e:decide (a=b)=false:=by
    simp only [decide_eq_false_iff_not,h3]
    rw [ZcU h1 hc (by omega)]
    exact fun h=> hn h.1
   simp only [ZdV,e]
   exact ⟨⟨rfl,⟨rfl,trivial⟩,trivial⟩,trivial⟩
  ·rw [h3,ZcU h1 hc (by omega)]
   exact ⟨fun h=> h.2,fun h=> ⟨by simpa using he,h⟩⟩
  ·have e:decide (a=b)=true:=by
    simp only [decide_eq_true_eq,h3]
    rw [List.drop_eq_nil_of_le (by omega),List.drop_eq_nil_of_le (by omega)]
   simp only [ZdV,e]
   exact ⟨⟨rfl,⟨rfl,trivial⟩,trivial⟩,trivial⟩
theorem Zkx{a b:List Tree}{i:Int}(hi:0≤i)(ha:i < a.length)(hb:i < b.length):(a.drop i.toNat=b.drop i.toNat)↔(a.getD i.toNat Tree.nil=b.getD i.toNat Tree.nil∧a.drop (i+1).toNat=b.drop (i+1).toNat):=by
 have e:(i+1).toNat=i.toNat+1:=by omega
 rw [List.drop_eq_getElem_cons (by omega),List.drop_eq_getElem_cons (l:=b) (by omega),e]
 simp only [List.cons.injEq,List.getD,List.getElem?_eq_getElem (show i.toNat < a.length by omega),List.getElem?_eq_getElem (show i.toNat < b.length by omega),Option.getD_some]
theorem JB{a b:Tree}:Jp a b=true↔a=b:=by simp [Jp]
theorem J2{a b:Tree}:Jp a b=false↔¬a=b:=by simp [Jp]
theorem ZA:∀ (ks:List Tree),ks.length≤Zh ks
 | []=> by simp [Zh]
 | t ::r=> by
  have:=ZA r
  have:1≤Zu t:=by cases t;simp only [Zu];omega
  simp only [Zh,List.length_cons]
  omega
theorem c26:Contract Tryz.prog cfg 26 Z5P:=by
 refine ZAW c76 ?_
 rintro N ⟨k,ws,ks⟩ ⟨k',ws',ks'⟩ _ hp hN
 have hlen:=ZA ks
 simp only [Z5E,Zqt,Zu] at hp hN
 refine ZFV N _ _ _ ?_;(try simp only [vcT,forall_eq])
 (simp only [vcS]);(try simp only [vcT])
 try (simp only [Tree.eta,Edit.eta,Tree.kind_mk,Tree.words_mk,Tree.kids_mk])
 have p69:Zgg (ws,ws',()):=by simp only [Zgg];omega
 refine ⟨fun _=> p69,fun hc=> ?_,fun hc=> ?_⟩
 ·have e:Jp (.mk k ws ks) (.mk k' ws' ks')=false:=by
   rw [J2]
   intro h
   cases h
   simp at hc
  simp only [Zgc,e]
  exact ⟨⟨rfl,⟨rfl,trivial⟩,trivial⟩,trivial⟩
 ·have hc':(k=k'∧ws=ws')∧ks.length=ks'.length:=⟨hc.1,by have:=hc.2;omega⟩
  obtain ⟨⟨rfl,rfl⟩,hl⟩:=hc'
  refine Za (ι:=Int) (fun p=> Zaj (.mk k ws ks) (.mk k ws ks') p) (fun p=> 0≤p∧p≤ks.length∧(Tree.mk k ws ks= .mk k ws ks'↔ks.drop p.toNat=ks'.drop p.toNat)) (fun p=> ((ks.length:Int) - p).toNat) 0 rfl ⟨by omega,by omega,by simp⟩ ?_
  rintro i ⟨h1,h2,h3⟩
  refine ZvY N _ _ _ _ _ ?_;(try simp only [vcT,forall_eq])
  (simp only [vcS]);(try simp only [vcT])
  try (simp only [Tree.eta,Edit.eta,Tree.kind_mk,Tree.words_mk,Tree.kids_mk])
  refine ⟨fun hc=> ⟨by omega,by omega,?_,?_,fun hn=> ?_,fun he=> ⟨by unfold InR;omega,i+1,rfl,⟨by omega,by omega,?_⟩,by omega⟩⟩,fun hc=> ?_⟩
  ·have:=Z0h (ks:=ks) (i:=i.toNat) (by omega)
   simp only [Z5E]
   omega
  ·have:=Z0h (ks:=ks) (i:=i.toNat) (by omega)
   simp only [Zqt]
   omega
  ·have e:Jp (.mk k ws ks) (.mk k ws ks')=false:=by
    rw [J2,h3,Zkx h1 hc (by omega)]
    rw [J2] at hn
    exact fun h=> hn h.1
   simp only [Zgc,e]
   exact ⟨⟨rfl,⟨rfl,trivial⟩,trivial⟩,trivial⟩
  ·rw [h3,Zkx h1 hc (by omega)]
   exact ⟨fun h=> h.2,fun h=> ⟨JB.1 he,h⟩⟩
  ·have e:Jp (.mk k ws ks) (.mk k ws ks')=true:=by
    rw [JB,h3]
    rw [List.drop_eq_nil_of_le (by omega),List.drop_eq_nil_of_le (by omega)]
   simp only [Zgc,e]
   exact ⟨⟨rfl,⟨rfl,trivial⟩,trivial⟩,trivial⟩
theorem ZaB:∀ (l:List Int),trim (l++[0])=trim l
 | []=> rfl
 | x ::r=> by
  show (match trim (r++[0]) with | []=> if x=0 then [] else [x] | y ::s=> x ::y ::s)=_
  rw [ZaB r]
  try rfl
theorem Zh0{x:Int}(hx:x≠0):∀ (l:List Int),trim (l++[x])=l++[x]
 | []=> by simp [trim,hx]
 | y ::r=> by
  show (match trim (r++[x]) with | []=> if y=0 then [] else [y] | z ::s=> y ::z ::s)=_
  rw [Zh0 hx r]
  cases r <;> rfl
theorem ZaE{l:List Int}{i:Int}(h0:0 < i)(hi:i≤l.length):l.take i.toNat=l.take (i - 1).toNat++[l.getD (i - 1).toNat 0]:=by
 have e:i.toNat=(i - 1).toNat+1:=by omega
 rw [e,List.take_add_one]
 simp only [List.getD,List.getElem?_eq_getElem (show (i - 1).toNat < l.length by omega),Option.toList,Option.getD_some]
theorem c86:Contract Tryz.prog cfg 86 Zdj:=by
 refine ZAF ?_
 intro l _ hp
 simp only [ZjG] at hp
 refine ZFx _ _ ?_;(try simp only [vcT,forall_eq])
 refine Za (ι:=Int) (fun p=> Za1 l p) (fun p=> 0≤p∧p≤l.length∧trim (l.take p.toNat)=trim l) (fun p=> p.toNat) (l.length:Int) rfl ⟨by omega,by omega,by simp⟩ ?_
 rintro i ⟨h1,h2,h3⟩
 refine Zvx _ _ _ _ ?_;(try simp only [vcT,forall_eq])
 (simp only [vcS]);(try simp only [vcT])
 refine ⟨fun h=> by unfold InR;omega,fun h=> by omega,fun hc=> ⟨by unfold InR;omega,i - 1,rfl,⟨by omega,by omega,?_⟩,by omega⟩,fun hc=> ⟨by omega,?_,?_⟩⟩
 ·rw [ZaE hc.1 h2,hc.2,ZaB] at h3
  exact h3
 ·simp only [List.length_nil,List.length_take]
  omega
 ·have e:trim l=[]++l.take i.toNat:=by
   rw [←h3]
   by_cases h0:0 < i
   ·rw [ZaE h0 h2,Zh0 (by rcases hc with h | h;exact absurd h0 h;exact h)]
    try rfl
   ·have:i.toNat=0:=by omega
    rw [this]
    try rfl
  simp only [Zsk,e]
  exact ⟨⟨rfl,⟨⟨rfl,trivial⟩,trivial⟩,trivial⟩,trivial⟩
theorem ZiW:∀ (l:List Int),(trim l).length≤l.length
 | []=> by simp [trim]
 | x ::r=> by
  have:=ZiW r
  simp only [trim]
  split
  ·split <;> simp
  ·rename_i h
   rw [h] at this
   simp at*
   omega
theorem Zdd:∀ (l:List Tree),Zh (Yw l)≤Zh l
 | []=> by simp [Yw]
 | x ::r=> by
  have:=Zdd r
  simp only [Yw]
  split
  ·split
   ·simp [Zh]
   ·simp [Zh]
  ·rename_i h
   rw [h] at this
   simp only [Zh] at*
   omega
mutual
theorem Ja:∀ (t:Tree),Zu (Zd t)≤Zu t
 | .mk k w ks=> by
  have h1:=Zex ks
  have h2:=ZiW w
  have h3:=Zdd (Ys ks)
  simp only [Zd]
  split
  ·simp only [Tree.nil,Zu,Zh,List.length_nil];omega
  ·split
   ·simp only [Zu];omega
   ·simp only [Zu];omega
theorem Zex:∀ (ks:List Tree),Zh (Ys ks)≤Zh ks
 | []=> by simp [Ys]
 | t ::r=> by
  have h1:=Ja t
  have h2:=Zex r
  simp only [Ys,Zh]
  omega
end
theorem Zbd:∀ (l:List Tree) (x:Tree),Ys (l++[x])=Ys l++[Zd x]
 | [],x=> rfl
 | y ::r,x=> by simp only [List.cons_append,Ys,Zbd r x]
theorem Z1s:∀ (l:List Tree),(Ys l).length=l.length
 | []=> rfl
 | y ::r=> by simp only [Ys,List.length_cons,Z1s r]
theorem Z7Z{x:Tree}(hx:x.kind=0):∀ (l:List Tree),Yw (l++[x])=Yw l
 | []=> by simp [Yw,hx]
 | y ::r=> by
  show (match Yw (r++[x]) with | []=> if y.kind=0 then [] else [y] | z ::s=> y ::z ::s)=_
  rw [Z7Z hx r]
  try rfl
theorem Zdc{x:Tree}(hx:x.kind≠0):∀ (l:List Tree),Yw (l++[x])=l++[x]
 | []=> by simp [Yw,hx]
 | y ::r=> by
  show (match Yw (r++[x]) with | []=> if y.kind=0 then [] else [y] | z ::s=> y ::z ::s)=_
  rw [Zdc hx r]
  cases r <;> rfl
theorem Z80{l:List Tree}{i:Int}(h0:0≤i)(hi:i < l.length):l.take (i+1).toNat=l.take i.toNat++[l.getD i.toNat Tree.nil]:=by
 have e:(i+1).toNat=i.toNat+1:=by omega
 rw [e,List.take_add_one]
 simp only [List.getD,List.getElem?_eq_getElem (show i.toNat < l.length by omega),Option.toList,Option.getD_some]
theorem c41:Contract Tryz.prog cfg 41 Z52:=by
 refine ZAS c86 ?_
 rintro N ⟨k,ws,ks⟩ _ hp hN
 have hlen:=ZA ks
 simp only [Z3g,Zqs,Zu] at hp hN
 refine ZFQ N _ _ ?_;(try simp only [vcT,forall_eq])
 (simp only [vcS]);(try simp only [vcT])
 try (simp only [Tree.eta,Edit.eta,Tree.kind_mk,Tree.words_mk,Tree.kids_mk])
 refine ⟨fun hc=> ?_,fun hc0=> ?_⟩
 ·have e:Zd (.mk k ws ks)=Tree.nil:=by simp [Zd,hc]
  simp only [Zgb,e]
  exact ⟨⟨rfl,⟨⟨rfl,rfl⟩,⟨rfl,⟨rfl,trivial⟩⟩⟩,trivial⟩,trivial⟩
 ·refine Za (ι:=Int × Int × List Tree) (fun p=> Z6v (.mk k ws ks) p.1 p.2.1 p.2.2) (fun p=> 0≤p.2.1∧p.2.1≤ks.length∧0≤p.1∧p.1≤p.2.1∧p.2.2=Ys (ks.take p.2.1.toNat)∧Yw (Ys (ks.take p.2.1.toNat))=p.2.2.take p.1.toNat) (fun p=> ((ks.length:Int) - p.2.1).toNat) (0,0,[]) rfl ⟨by dsimp only;omega,by dsimp only;omega,by dsimp only;omega,by dsimp only;omega,rfl,rfl⟩ ?_
  rintro ⟨last,i,l⟩ ⟨h1,h2,h3,h4,h5,h6⟩
  dsimp only at*
  have hl:l.length=i.toNat:=by rw [h5,Z1s,List.length_take];omega
  refine ZvV N _ _ _ _ _ _ ?_;(try simp only [vcT,forall_eq])
  (simp only [vcS]);(try simp only [vcT])
  try (simp only [Tree.eta,Edit.eta,Tree.kind_mk,Tree.words_mk,Tree.kids_mk])
  refine ⟨fun hc=> ?_,fun hc=> ⟨fun h1=> ⟨?_,by omega,?_⟩,fun hk=> ⟨?_,?_⟩⟩⟩
  ·have hm:=Z0h (ks:=ks) (i:=i.toNat) (by omega)
   have hnx:Ys (ks.take (i+1).toNat)=l++[Zd (ks.getD i.toNat Tree.nil)]:=by rw [Z80 h1 hc,Zbd,h5]
   refine ⟨by omega,by simp only [Z3g];omega,by simp only [Zqs];omega,by simp only [List.length_cons,List.length_nil];omega,fun hk=> ⟨by unfold InR;omega,by unfold InR;omega,(i+1,i+1,_),rfl,⟨by dsimp only;omega,by dsimp only;omega,by dsimp only;omega,by dsimp only;omega,hnx.symm,?_⟩,by dsimp only;omega⟩,fun hk=> ⟨by unfold InR;omega,(last,i+1,_),rfl,⟨by dsimp only;omega,by dsimp only;omega,by dsimp only;omega,by dsimp only;omega,hnx.symm,?_⟩,by dsimp only;omega⟩⟩
   ·dsimp only
    rw [hnx,Zdc hk,List.take_of_length_le (by simp;omega)]
   ·dsimp only
    rw [hnx,Z7Z hk,List.take_append_of_le_length (by omega),←h6,h5]
  ·simp only [ZjG];omega
  ·have hi:ks.take i.toNat=ks:=List.take_of_length_le (by omega)
   rw [hi] at h5 h6
   have e:Zd (.mk k ws ks)= .mk 1 (trim ws) (l.take last.toNat):=by
    subst h1
    simp only [Zd,←h6]
    try rfl
   simp only [Zgb,e]
   exact ⟨⟨rfl,⟨⟨rfl,rfl⟩,⟨rfl,trivial⟩,⟨rfl,trivial⟩,trivial⟩,trivial⟩,trivial⟩
  ·simp only [List.length_nil];omega
  ·have hi:ks.take i.toNat=ks:=List.take_of_length_le (by omega)
   rw [hi] at h5
   have e:Zd (.mk k ws ks)= .mk k ([]++ws) l:=by
    simp only [Zd,if_neg hc0,if_neg hk,h5]
    try rfl
   simp only [Zgb,e]
   exact ⟨⟨rfl,⟨⟨rfl,rfl⟩,⟨rfl,trivial⟩,⟨rfl,trivial⟩,trivial⟩,trivial⟩,trivial⟩
theorem Zo8{l:List Int}(h0:0 < (l.length:Int)):l=l.take ((l.length:Int) - 1).toNat++[l.getD ((l.length:Int) - 1).toNat 0]:=by
 have:=ZaE h0 (Int.le_refl _)
 rw [List.take_of_length_le (by omega)] at this
 exact this
theorem Zkn{l:List Tree}(h0:0 < (l.length:Int)):l=l.take ((l.length:Int) - 1).toNat++[l.getD ((l.length:Int) - 1).toNat Tree.nil]:=by
 have:=Z80 (l:=l) (i:=(l.length:Int) - 1) (by omega) (by omega)
 rw [List.take_of_length_le (by omega)] at this
 exact this
theorem ZpS{l:List Int}(h0:0 < (l.length:Int))(hz:l.getD ((l.length:Int) - 1).toNat 0=0):trim (l.take ((l.length:Int) - 1).toNat)=trim l:=by
 have e:=ZaB (l.take ((l.length:Int) - 1).toNat)
 have h:=Zo8 h0
 rw [hz] at h
 rw [←h] at e
 exact e.symm
theorem ZpU{l:List Int}(h:¬0 < (l.length:Int)∨¬l.getD ((l.length:Int) - 1).toNat 0=0):trim l=l:=by
 by_cases h0:0 < (l.length:Int)
 ·have e:=Zh0 (x:=l.getD ((l.length:Int) - 1).toNat 0) (by rcases h with h | h;exact absurd h0 h;exact h) (l.take ((l.length:Int) - 1).toNat)
  rw [←Zo8 h0] at e
  exact e
 ·have:l=[]:=List.eq_nil_of_length_eq_zero (by omega)
  subst this
  try rfl
theorem Zl1{l:List Tree}(h0:0 < (l.length:Int))(hz:(l.getD ((l.length:Int) - 1).toNat Tree.nil).kind=0):Yw (l.take ((l.length:Int) - 1).toNat)=Yw l:=by
 have e:=Z7Z hz (l.take ((l.length:Int) - 1).toNat)
 rw [←Zkn h0] at e
 exact e.symm
theorem Zl3{l:List Tree}(h:¬0 < (l.length:Int)∨¬(l.getD ((l.length:Int) - 1).toNat Tree.nil).kind=0):Yw l=l:=by
 by_cases h0:0 < (l.length:Int)
 ·have e:=Zdc (x:=l.getD ((l.length:Int) - 1).toNat Tree.nil) (by rcases h with h | h;exact absurd h0 h;exact h) (l.take ((l.length:Int) - 1).toNat)
  rw [←Zkn h0] at e
  exact e
 ·have:l=[]:=List.eq_nil_of_length_eq_zero (by omega)
  subst this
  try rfl
theorem c75:Contract Tryz.prog cfg 75 Z0C:=by
 refine ZAM ZC6 ?_
 rintro N ⟨k,ws,ks⟩ _ hp hN
 have hlen:=ZA ks
 simp only [Z1h,Zqr,Zu] at hp hN
 refine ZFG N _ _ ?_;(try simp only [vcT,forall_eq])
 (simp only [vcS]);(try simp only [vcT])
 try (simp only [Tree.eta,Edit.eta,Tree.kind_mk,Tree.words_mk,Tree.kids_mk])
 refine ⟨fun hc=> ?_,fun hc0=> ⟨by simp only [Zeh];omega,?_⟩⟩
 ·have e:Zd (.mk k ws ks)=Tree.nil:=by simp [Zd,hc]
  simp only [Zga,e]
  exact ⟨⟨rfl,⟨⟨rfl,rfl⟩,⟨rfl,⟨rfl,trivial⟩⟩⟩,trivial⟩,trivial⟩
 ·refine Za (ι:=Int × List Tree) (fun p=> Za9 (.mk k ws ks) p.1 p.2) (fun p=> 0≤p.1∧p.1≤ks.length∧p.2=Ys (ks.take p.1.toNat)) (fun p=> ((ks.length:Int) - p.1).toNat) (0,[]) rfl ⟨by dsimp only;omega,by dsimp only;omega,rfl⟩ ?_
  rintro ⟨i,l⟩ ⟨h1,h2,h5⟩
  dsimp only at*
  have hl:l.length=i.toNat:=by rw [h5,Z1s,List.length_take];omega
  refine ZvK N _ _ _ _ _ ?_;(try simp only [vcT,forall_eq])
  (simp only [vcS]);(try simp only [vcT])
  try (simp only [Tree.eta,Edit.eta,Tree.kind_mk,Tree.words_mk,Tree.kids_mk])
  refine ⟨fun hc=> ?_,fun hc=> ⟨fun hk=> ?_,fun hk=> ?_⟩⟩
  ·have hm:=Z0h (ks:=ks) (i:=i.toNat) (by omega)
   have hnx:Ys (ks.take (i+1).toNat)=l++[Zd (ks.getD i.toNat Tree.nil)]:=by rw [Z80 h1 hc,Zbd,h5]
   exact ⟨by omega,by simp only [Z1h];omega,by simp only [Zqr];omega,by simp only [List.length_cons,List.length_nil];omega,by unfold InR;omega,(i+1,_),rfl,⟨by dsimp only;omega,by dsimp only;omega,hnx.symm⟩,by dsimp only;omega⟩
  ·have hi:ks.take i.toNat=ks:=List.take_of_length_le (by omega)
   rw [hi] at h5
   refine Za (ι:=List Int) (fun p=> Za8 (.mk k ws ks) l p) (fun p=> p.length≤ws.length∧trim p=trim ws) (fun p=> p.length) ws rfl ⟨by omega,rfl⟩ ?_
   rintro w ⟨h6,h7⟩
   refine ZvJ N _ _ _ _ _ ?_;(try simp only [vcT,forall_eq])
   (simp only [vcS]);(try simp only [vcT])
   refine ⟨fun h=> by unfold InR;omega,fun h=> by omega,fun hc=> ⟨by unfold InR;omega,by omega,_,rfl,⟨by rw [List.length_take];omega,?_⟩,by rw [List.length_take];omega⟩,fun hc=> ?_⟩
   ·rw [ZpS hc.1 hc.2,h7]
   ·have hw:w=trim ws:=by rw [←h7,ZpU hc]
    refine Za (ι:=List Tree) (fun p=> Za7 (.mk k ws ks) w p) (fun p=> p.length≤l.length∧Yw p=Yw l) (fun p=> p.length) l rfl ⟨by omega,rfl⟩ ?_
    rintro q ⟨h8,h9⟩
    refine ZvI N _ _ _ _ _ ?_;(try simp only [vcT,forall_eq])
    (simp only [vcS]);(try simp only [vcT])
    refine ⟨fun h=> by unfold InR;omega,fun h=> by omega,fun hc=> ⟨by unfold InR;omega,by omega,_,rfl,⟨by rw [List.length_take];omega,?_⟩,by rw [List.length_take];omega⟩,fun hc=> ?_⟩
    ·rw [Zl1 hc.1 hc.2,h9]
    ·have hq:q=Yw (Ys ks):=by rw [←h5,←h9,Zl3 hc]
     have e:Zd (.mk k ws ks)= .mk k w q:=by
      subst hk
      simp only [Zd,hw,hq]
      try rfl
     simp only [Zga,e]
     exact ⟨⟨rfl,⟨⟨rfl,rfl⟩,⟨rfl,trivial⟩,⟨rfl,trivial⟩,trivial⟩,trivial⟩,trivial⟩
  ·have hi:ks.take i.toNat=ks:=List.take_of_length_le (by omega)
   rw [hi] at h5
   have e:Zd (.mk k ws ks)= .mk k ws l:=by simp only [Zd,if_neg hc0,if_neg hk,h5]
   simp only [Zga,e]
   exact ⟨⟨rfl,⟨⟨rfl,rfl⟩,⟨rfl,trivial⟩,⟨rfl,trivial⟩,trivial⟩,trivial⟩,trivial⟩
end Go.AM.YtpjenobkibfpcaaGreat
