import Derived.Test.YtpjenobkibfpcaaCmZ
import Derived.Test.YtpjenobkibfpcaaChecked
import Derived.Test.YtpjenobkibfpcaaRows
import Derived.Test.YtpjenobkibfpcaaCmX
import Derived.Test.YtpjenobkibfpcaaCmXE
import Derived.ProofKit
import Derived.Test.YtpjenobkibfpcaaKD07
set_option linter.unusedSimpArgs false
set_option linter.unusedVariables false
namespace Go.AM.Ytpjenobkibfpcaa
open Go.AM Go.Proofs
def el:Ty→TypeId
 | .u64=> 40
 | .u8=> 5
 | .int=> 3
 | .tree=> 25
 | .wedit=> 42
 | .edit=> 31
 | .kid=> 84
 | .op=> 82
 | .piece=> 150
 | .unit=> 164
 | .pair=> 166
 | .step=> 58
 | .deed=> 70
def tb:Tables U:=
 {el:=el
  sl:=[(22,.u64),(23,.tree),(26,.step),(27,.wedit),(28,.kid),(29,.op),(64,.edit),(94,.u8),(146,.piece),(153,.int),(158,.pair),(161,.unit)]
  var:=[(2,false,[.int .i64 0]),
   (3,false,[.int .i64 0]),
   (4,false,[.bool false]),
   (5,false,[.int .u8 0]),
   (6,false,[.int .u8 0]),
   (7,true,[.int .i64 0,.int .i64 0,.bool false,.int .u8 0]),
   (8,true,[.int .i64 0,.int .i64 0,.bool false,.int .u8 0]),
   (12,false,[.int .u64 0]),
   (15,false,[.nilp]),
   (16,false,[.nilp]),
   (17,false,[.nilp]),
   (18,true,[.nilp]),
   (19,true,[.nilp]),
   (21,false,[.int .i32 0]),
   (22,false,[.nils]),
   (23,false,[.nils]),
   (24,true,[.int .i64 0,.nils,.nils]),
   (25,true,[.int .i64 0,.nils,.nils]),
   (26,false,[.nils]),
   (27,false,[.nils]),
   (28,false,[.nils]),
   (29,false,[.nils]),
   (30,true,[.int .i64 0,.int .i64 0,.nils,.nils,.int .i64 0,.nils,.nils,.nils,.nils,.int .i64 0,.nils]),
   (31,true,[.int .i64 0,.int .i64 0,.nils,.nils,.int .i64 0,.nils,.nils,.nils,.nils,.int .i64 0,.nils]),
   (40,false,[.int .u64 0]),
   (41,true,[.int .i64 0,.int .u8 0,.int .u64 0,.int .u64 0]),
   (42,true,[.int .i64 0,.int .u8 0,.int .u64 0,.int .u64 0]),
   (57,true,[.int .i64 0,.int .i64 0]),
   (58,true,[.int .i64 0,.int .i64 0]),
   (60,false,[.int .i64 0]),
   (64,false,[.nils]),
   (66,false,[.nilp]),
   (69,true,[.int .i64 0,.int .i64 0,.int .i64 0,.int .i64 0,.nils,.nils,.int .i64 0,.nils,.nils,.nils,.nils,.int .i64 0,.nils]),
   (70,true,[.int .i64 0,.int .i64 0,.int .i64 0,.int .i64 0,.nils,.nils,.int .i64 0,.nils,.nils,.nils,.nils,.int .i64 0,.nils]),
   (81,true,[.int .i64 0,.int .i64 0,.nils,.int .i64 0,.int .i64 0,.nils,.nils,.int .i64 0,.nils,.nils,.nils,.nils,.int .i64 0,.nils]),
   (82,true,[.int .i64 0,.int .i64 0,.nils,.int .i64 0,.int .i64 0,.nils,.nils,.int .i64 0,.nils,.nils,.nils,.nils,.int .i64 0,.nils]),
   (83,true,[.int .i64 0,.int .i64 0,.int .i64 0,.nils,.nils,.int .i64 0,.nils,.nils,.nils,.nils,.int .i64 0,.nils]),
   (84,true,[.int .i64 0,.int .i64 0,.int .i64 0,.nils,.nils,.int .i64 0,.nils,.nils,.nils,.nils,.int .i64 0,.nils]),
   (90,true,[.int .u8 0,.int .u8 0,.int .u8 0,.int .u8 0,.int .u8 0,.int .u8 0,.int .u8 0,.int .u8 0]),
   (94,false,[.nils]),
   (101,false,[.nilp]),
   (102,true,[.bool false,.bool false]),
   (103,true,[.bool false,.bool false]),
   (108,true,[.int .i64 0,.nils,.nils,.nils,.nils]),
   (109,true,[.int .i64 0,.nils,.nils,.nils,.nils]),
   (135,false,[.nilp]),
   (136,true,[.nils,.nils,.nils]),
   (137,true,[.nils,.nils,.nils]),
   (140,false,[.nilp]),
   (146,false,[.nils]),
   (149,true,[.int .i64 0,.int .i64 0,.int .i64 0,.nils,.int .i64 0,.int .i64 0,.nils,.nils,.int .i64 0,.nils,.nils,.nils,.nils,.int .i64 0,.nils,.int .i64 0,.int .i64 0,.nils,.int .i64 0,.int .i64 0,.nils,.nils,.int .i64 0,.nils,.nils,.nils,.nils,.int .i64 0,.nils]),
   (150,true,[.int .i64 0,.int .i64 0,.int .i64 0,.nils,.int .i64 0,.int .i64 0,.nils,.nils,.int .i64 0,.nils,.nils,.nils,.nils,.int .i64 0,.nils,.int .i64 0,.int .i64 0,.nils,.int .i64 0,.int .i64 0,.nils,.nils,.int .i64 0,.nils,.nils,.nils,.nils,.int .i64 0,.nils]),
   (153,false,[.nils]),
   (158,false,[.nils]),
   (161,false,[.nils]),
   (163,true,[.int .i64 0,.int .i64 0,.int .i64 0,.nils,.nils,.int .i64 0,.int .i64 0,.nils,.nils,.int .i64 0,.nils,.nils,.nils,.nils,.int .i64 0,.nils,.bool false]),
   (164,true,[.int .i64 0,.int .i64 0,.int .i64 0,.nils,.nils,.int .i64 0,.int .i64 0,.nils,.nils,.int .i64 0,.nils,.nils,.nils,.nils,.int .i64 0,.nils,.bool false]),
   (165,true,[.int .i64 0,.int .i64 0,.int .i64 0,.int .i64 0,.nils,.nils,.int .i64 0,.int .i64 0,.nils,.nils,.int .i64 0,.nils,.nils,.nils,.nils,.int .i64 0,.nils,.bool false,.int .i64 0,.int .i64 0,.int .i64 0,.nils,.nils,.int .i64 0,.int .i64 0,.nils,.nils,.int .i64 0,.nils,.nils,.nils,.nils,.int .i64 0,.nils,.bool false]),
   (166,true,[.int .i64 0,.int .i64 0,.int .i64 0,.int .i64 0,.nils,.nils,.int .i64 0,.int .i64 0,.nils,.nils,.int .i64 0,.nils,.nils,.nils,.nils,.int .i64 0,.nils,.bool false,.int .i64 0,.int .i64 0,.int .i64 0,.nils,.nils,.int .i64 0,.int .i64 0,.nils,.nils,.int .i64 0,.nils,.nils,.nils,.nils,.int .i64 0,.nils,.bool false]),
   (176,false,[.nilp]),
   (177,true,[.nilp,.nils,.nils,.nils,.nils]),
   (178,true,[.nilp,.nils,.nils,.nils,.nils]),
   (186,false,[.nilp]),
   (187,true,[.nils,.int .i64 0]),
   (188,true,[.nils,.int .i64 0]),
   (206,true,[.int .i64 0,.int .i64 0,.int .i64 0,.int .i64 0,.int .i64 0,.int .i64 0]),
   (214,false,[.int .u32 0]),
   (215,false,[.int .u8 0]),
   (216,false,[.int .u8 0]),
   (218,false,[.nilp]),
   (219,false,[.int .i32 0]),
   (220,false,[.int .i32 0])]
  fld:=[(7,0,0,2),(7,1,1,3),(7,2,2,4),(7,3,3,6),(8,0,0,2),(8,1,1,3),(8,2,2,4),(8,3,3,6),(18,0,0,17),(19,0,0,17),(24,0,0,3),(24,1,1,22),(24,2,2,23),(25,0,0,3),(25,1,1,22),(25,2,2,23),(30,0,0,3),(30,1,1,25),(30,2,4,25),(30,3,7,27),(30,4,8,28),(30,5,9,3),(30,6,10,29),(31,0,0,3),(31,1,1,25),(31,2,4,25),(31,3,7,27),(31,4,8,28),(31,5,9,3),(31,6,10,29),(41,0,0,3),(41,1,1,5),(41,2,2,40),(41,3,3,40),(42,0,0,3),(42,1,1,5),(42,2,2,40),(42,3,3,40),(57,0,0,3),(57,1,1,3),(58,0,0,3),(58,1,1,3),(69,0,0,3),(69,1,1,3),(69,2,2,31),(70,0,0,3),(70,1,1,3),(70,2,2,31),(81,0,0,3),(81,1,1,3),(81,2,2,23),(81,3,3,31),(82,0,0,3),(82,1,1,3),(82,2,2,23),(82,3,3,31),(83,0,0,3),(83,1,1,31),(84,0,0,3),(84,1,1,31),(102,0,0,4),(102,1,1,4),(103,0,0,4),(103,1,1,4),(108,0,0,25),(108,1,3,64),(108,2,4,64),(109,0,0,25),(109,1,3,64),(109,2,4,64),(136,0,0,29),(136,1,1,23),(136,2,2,23),(137,0,0,29),(137,1,1,23),(137,2,2,23),(149,0,0,3),(149,1,1,82),(149,2,15,82),(150,0,0,3),(150,1,1,82),(150,2,15,82),(163,0,0,3),(163,1,1,3),(163,2,2,25),(163,3,5,31),(163,4,16,4),(164,0,0,3),(164,1,1,3),(164,2,2,25),(164,3,5,31),(164,4,16,4),(165,0,0,3),(165,1,1,164),(165,2,18,164),(166,0,0,3),(166,1,1,164),(166,2,18,164),(177,0,0,101),(177,1,1,29),(177,2,2,29),(177,3,3,23),(177,4,4,23),(178,0,0,101),(178,1,1,29),(178,2,2,29),(178,3,3,23),(178,4,4,23),(187,0,0,29),(187,1,1,3),(188,0,0,29),(188,1,1,3)]
  arr:=[(90,8,5),(206,6,3)]
  eqs:=[41,42,57,58] }
def cfg:Cfg U:=tb.cfg K
theorem Zx2:tb.var.all (ZqU Try.prog)=true:=by kernel_rfl
theorem Zyp:tb.sl.all (slB Try.prog tb.el)=true:=by kernel_rfl
theorem Zxg:tb.fld.all (Zv1 Try.prog)=true:=by kernel_rfl
theorem Zxm:tb.arr.all (Zvv Try.prog)=true:=by kernel_rfl
theorem Zyq:∀ t,elB Try.prog K tb t=true:=by
 intro t
 cases t
 ·kernel_rfl
 ·kernel_rfl
 ·kernel_rfl
 ·kernel_rfl
 ·kernel_rfl
 ·kernel_rfl
 ·kernel_rfl
 ·kernel_rfl
 ·kernel_rfl
 ·kernel_rfl
 ·kernel_rfl
 ·kernel_rfl
 ·kernel_rfl
theorem Zr:CfgOk Try.prog cfg:=Zll Zyx Zx2 Zyp Zxg Zxm Zyq (by kernel_rfl) (by kernel_rfl)
abbrev sU(T:Ty)(l:List (El T))(t:Tail):C U:= .slice (U:=U) T l t
noncomputable abbrev AW(K:Known U)(f:Func)(lv:Zg U)(p:List Nat):=awp cfg K (Y0 cfg K) f.ntmps lv (cd f p)
noncomputable abbrev SW(K:Known U)(f:Func)(lv:Zg U)(p:List Nat):=ZeA cfg K (Y0 cfg K) f.ntmps lv (cd f p)
abbrev EQ(f:Func):=Jv cfg f.ntmps f.results.toList
abbrev QT:=AExit→LSt U→Prop
abbrev NT:=LSt U→Prop
abbrev CT(k:FuncId)(s:Fs U):Prop:=Contract Try.prog cfg k s
abbrev xB:=@AExit.inBlock U
abbrev xT:=@AExit.then U
abbrev ci(x:Int):C U:= .int .i64 x
abbrev L2(e:List (Nat × V U))(m:List (Name × List (C U))):LSt U:=⟨e,m,[]⟩
def lvl(l:List (List Nat × List Nat)):Zg U:=fun i=> ((l.getD i ([],[])).1.map fun k=> (k,[]),(l.getD i ([],[])).2.map fun k=> (.loc k,[]))
abbrev zc0:List (C U):=[.int .u8 0,.int .u8 0,.int .u8 0,.int .u8 0,.int .u8 0,.int .u8 0,.int .u8 0,.int .u8 0]
abbrev zc1:List (C U):=[.int .i64 0,.int .i64 0,.nils,.nils,.int .i64 0,.nils,.nils,.nils,.nils,.int .i64 0,.nils]
abbrev zc2:List (C U):=[.int .i64 0,.int .i64 0,.nils,.int .i64 0,.int .i64 0,.nils,.nils,.int .i64 0,.nils,.nils,.nils,.nils,.int .i64 0,.nils]
end Go.AM.Ytpjenobkibfpcaa
namespace Go.AM.Ytpjenobkibfpcaa
open Go.AM Go.Proofs Go.Proofs.Ytpjenobkibfpcaa Go.ChangeShapes Go.WideShapes Go.RowKit
theorem own:ownKnob Try.prog.godebug=none:=by kernel_rfl
theorem ZrW:laidOutB Try.prog=true:=by kernel_rfl
theorem Zdd:TreeTypes cfg:=⟨rfl,rfl,⟨_,rfl⟩,⟨_,rfl⟩,⟨_,rfl,rfl⟩,⟨_,_,rfl,rfl⟩,⟨_,_,rfl,rfl,rfl⟩,⟨_,_,rfl,rfl,rfl⟩⟩
theorem Zme:EditTypes cfg:=⟨⟨_,rfl,rfl⟩,⟨_,_,rfl,rfl⟩,⟨_,_,rfl,rfl⟩,⟨_,_,rfl,rfl⟩,⟨_,_,rfl,rfl⟩,⟨_,rfl,rfl⟩,⟨_,_,rfl,rfl⟩,rfl,⟨_,rfl,rfl⟩,⟨_,_,rfl,rfl⟩,⟨_,_,rfl,rfl⟩,⟨_,_,rfl,rfl,rfl⟩,rfl,⟨_,rfl,rfl⟩,⟨_,_,rfl,rfl⟩,rfl,rfl,⟨_,_,rfl,rfl,rfl⟩,⟨_,_,rfl,rfl,rfl⟩,⟨_,_,rfl,rfl⟩,⟨_,_,rfl,rfl,rfl⟩⟩
theorem Zse{H:Type}{henc:TypeId × Value→H}:ZsT henc Try.prog cfg (aEl .tree) 25 inT:=Zl1 Zr rfl ⟨_,_,rfl⟩ (fun _ n cs h=> ZaA Zr Zdd n cs h)
theorem Zsf{H:Type}{henc:TypeId × Value→H}:ZsT henc Try.prog cfg (aEl .edit) 31 inE:=Zl1 Zr rfl ⟨_,_,rfl⟩ (fun _ n cs h=> Zr5 Zr Zdd Zme n cs h)
end Go.AM.Ytpjenobkibfpcaa
namespace Go.AM.Ytpjenobkibfpcaa
open Go.AM Go.Proofs
noncomputable section
def ZiY:ArgL (Tree × Int × Int × Unit):=(.cons (aEl .tree) (.cons (Z04 .i64) (.cons (Z04 .i64) .nil)))
def Z7v(a:Tree × Int × Int × Unit):Prop:=Z28 a.1∧0≤a.2.1∧a.2.1≤4611686018427387904∧-1≤a.2.2.1∧a.2.2.1≤4611686018427387904
def ZlQ(a:Tree × Int × Int × Unit):Nat:=Zk a.1
def Zgo(a:Tree × Int × Int × Unit):V U:= .c (ci (ZC a.1 a.2.1 a.2.2.1))
def Z4s:Fs U:=fs ZiY (fun a=> [Z7v a]) Zgo
def ZpV:ArgL (Tree × Unit):=(.cons (aEl .tree) .nil)
def ZjU(a:Tree × Unit):Prop:=Z28 a.1
def Zt8(a:Tree × Unit):V U:= .c (.bool (decide (0≤ZC a.1 80 3000)))
def Zbh:Fs U:=fs ZpV (fun a=> [ZjU a]) Zt8
def ZpJ:ArgL (List Int × List Int × Unit):=(.cons (aSl .u64) (.cons (aSl .u64) .nil))
def ZdK(a:List Int × List Int × Unit):Prop:=a.1.length≤1000000000000
def Zgp(a:List Int × List Int × Unit):V U:= .c (.bool (decide (a.1=a.2.1)))
def Zb7:Fs U:=fs ZpJ (fun a=> [ZdK a]) Zgp
def ZpG:ArgL (List Int × Unit):=(.cons (aSl .u64) .nil)
def Zgu(a:List Int × Unit):Prop:=a.1.length≤1000000000000
def Znz(a:List Int × Unit):V U:= .c (sU .u64 (trim a.1) .unk)
def Zb5:Fs U:=fs ZpG (fun a=> [Zgu a]) Znz
def ZkX:ArgL (List Int × Unit):=(.cons (aSl .u64) .nil)
def ZbO(a:List Int × Unit):Prop:=a.1.length≤1000000000000
def ZnR(a:List Int × Unit):V U:= .c (sU .u64 a.1 .unk)
def Z7f:Fs U:=fs ZkX (fun a=> [ZbO a]) ZnR
def ZkR:ArgL (List Int × List Int × Unit):=(.cons (aSl .u64) (.cons (aSl .u64) .nil))
def ZbN(a:List Int × List Int × Unit):Prop:=a.1.length≤1000000000000
def ZbB(a:List Int × List Int × Unit):V U:= .c (.bool (decide (a.1=a.2.1)))
def Z7a:Fs U:=fs ZkR (fun a=> [ZbN a]) ZbB
def ZkQ:ArgL (Tree × Int × Unit):=(.cons (aEl .tree) (.cons (Z04 .i64) .nil))
def Z8U(a:Tree × Int × Unit):Prop:=True
def ZeN(a:Tree × Int × Unit):V U:= .c (.int .u64 (Jx a.1 a.2.1))
def Z1A:Fs U:=fs ZkQ (fun a=> [Z8U a]) ZeN
def ZpD:ArgL (Tree × Int × Unit):=(.cons (aEl .tree) (.cons (Z04 .i64) .nil))
def ZdI(a:Tree × Int × Unit):Prop:=True
def ZjB(a:Tree × Int × Unit):V U:= .agg (enc .tree (JM a.1 a.2.1))
def Z3L:Fs U:=fs ZpD (fun a=> [ZdI a]) ZjB
def Zj2:ArgL (Tree × Unit):=(.cons (aEl .tree) .nil)
def ZbJ(a:Tree × Unit):Prop:=Zk a.1≤1000000000000
def ZlT(a:Tree × Unit):Nat:=Zk a.1
def ZdC(a:Tree × Unit):V U:= .agg (enc .tree (Z3 a.1))
def Zbg:Fs U:=fs Zj2 (fun a=> [ZbJ a]) ZdC
def ZiZ:ArgL (Tree × Unit):=(.cons (aEl .tree) .nil)
def Z0Q(a:Tree × Unit):Prop:=Zk a.1≤1000000000000
def ZlR(a:Tree × Unit):Nat:=Zk a.1
def ZdB(a:Tree × Unit):V U:= .agg (enc .tree (Z3 a.1))
def Z0c:Fs U:=fs ZiZ (fun a=> [Z0Q a]) ZdB
def Zj4:ArgL (Tree × Tree × Unit):=(.cons (aEl .tree) (.cons (aEl .tree) .nil))
def ZbK(a:Tree × Tree × Unit):Prop:=Zk a.1≤1000000000000
def ZlU(a:Tree × Tree × Unit):Nat:=Zk a.1
def ZdD(a:Tree × Tree × Unit):V U:= .c (.bool (YT a.1 a.2.1))
def Zbi:Fs U:=fs Zj4 (fun a=> [ZbK a]) ZdD
def ZfK:ArgL (Tree × Tree × Unit):=(.cons (aEl .tree) (.cons (aEl .tree) .nil))
def Z1s(a:Tree × Tree × Unit):Prop:=Zk a.1≤1000000000000∧Zk a.2.1≤1000000000000
def ZdR(a:Tree × Tree × Unit):Nat:=Zk a.1+Zk a.2.1
def Z6z(a:Tree × Tree × Unit):V U:= .c (.bool (YT (Z3 a.1) (Z3 a.2.1)))
def J3:Fs U:=fs ZfK (fun a=> [Z1s a]) Z6z
def Ziy(N:Nat):List (FuncId × Fs U):=(78,fs ZiY (fun a=> [Z7v a,ZlQ a < N]) Zgo) ::[]
def ZrI:Zg U:=lvl [([1,2,3],[3]),([1,2,3],[3]),([1,2,3,19],[3]),([6],[]),([1,2,3,7],[3]),([1,2,3,7,28],[3]),([1,2,3,7],[3]),([1,2,3,7],[3]),([6],[])]
def Z88(t:Tree)(d l x2 x7:Int):LSt U:=(L2 [(1,.c (ci d)),(2,.c (ci x2)),(3,.ptr (.loc 3) 0),(7,.c (ci x7))] [(.loc 3,(enc .tree t))])
abbrev A78(N:Nat)(p:List Nat):=AW (Z2 (Ziy N)) Try.f78 ZrI p
abbrev S78(N:Nat)(p:List Nat):=SW (Z2 (Ziy N)) Try.f78 ZrI p
theorem ZxV(N:Nat)(t:Tree)(d l:Int)(Q:QT)(h:let z0:=bif (d==0) then true else (decide (((((l - 1):Int) - (t.words.length:Int)):Int) < 0));((InR (l - 1))∧(InR (((l - 1):Int) - (t.words.length:Int)))∧((Tr ((!(d==0))=true))∧((d==0)=false→(!(d==0))=true)∧((z0=true→(Q .ret (L2 [(6,.c (ci (-1)))] [])))∧(z0=false→(Zj (A78 N [1,1,1,0,1,0,0]) (Z88 t d l (((l - 1):Int) - (t.words.length:Int)) 0) (xB 0 (S78 N [1,1,1,1] Q)))))))):
  A78 N [] (L2 [(0,.agg (enc .tree t)),(1,.c (ci d)),(2,.c (ci l))] []) Q:=
 Eq.mpr (by kernel_rfl) h
theorem Zqu(N:Nat)(t:Tree)(d l x2 x7:Int)(N0:NT)(Q:QT)(h:let z2:=t.kids.getD x7.toNat Tree.nil;let z1:=decide (x7 < (t.kids.length:Int));let z3:=bif z1 then (decide ((0:Int)≤x2)) else false;let z0:=Tree.mk (Tree.kind z2) (Tree.words z2) (Tree.kids z2);(Tr (z1=true))∧(Tr (z1=true))∧((z3=true→((0:Int)≤x7∧x7 < (t.kids.length:Int))∧(InR (d - 1))∧(Z7v (z0,(d - 1),x2,()))∧(ZlQ (z0,(d - 1),x2,()) < N)∧((InR (x7+1))∧(N0 (Z88 t d l (ZC z0 (d - 1) x2) (x7+1)))))∧(z3=false→(Q .ret (L2 [(6,.c (ci x2))] []))))):
  A78 N [1,1,1,0,1,0,0] (Z88 t d l x2 x7) (xT N0 (xB 0 (S78 N [1,1,1,1] Q))):=
 Eq.mpr (by kernel_rfl) h
def ZvR(N:Nat)(t:Tree)(d l:Int):Prop:=AW (Z2 (Ziy N)) Try.f78 ZrI [] (Zo (ZiY.can (t,d,l,())) []) (EQ Try.f78 (Zgo (t,d,l,())) [])
theorem Zud(hb:∀ (N:Nat) (t:Tree) (d:Int) (l:Int) (_:Unit),Z7v (t,d,l,())→ZlQ (t,d,l,()) < N+1→ZvR N t d l):CT 78 Z4s:=
 YD (μ:=ZlQ) (l:=[]) Zr rfl trivial ZrI Try.func78 rfl rfl 3 (fun _=> rfl) (by decide) (fun N ⟨t,d,l,_⟩=> hb N t d l ())
def Zpc:List (FuncId × Fs U):=[(78,Z4s)]
def ZuQ:Zg U:=lvl [([1],[1]),([2],[])]
abbrev A36(p:List Nat):=AW (Z2 Zpc) Try.f36 ZuQ p
theorem Zyh(t:Tree)(Q:QT)(h:let z0:=Tree.mk t.kind t.words t.kids;((Z7v (z0,80,3000,()))∧(Q .ret (L2 [(2,.c (.bool (decide ((0:Int)≤(ZC z0 80 3000)))))] [])))):
  A36 [] (L2 [(0,.agg (enc .tree t))] []) Q:=
 Eq.mpr (by kernel_rfl) h
def Zwd(t:Tree):Prop:=AW (Z2 Zpc) Try.f36 ZuQ [] (Zo (ZpV.can (t,())) []) (EQ Try.f36 (Zt8 (t,())) [])
theorem Zuv(c78:CT 78 Z4s)(hb:∀ (t:Tree) (_:Unit),ZjU (t,())→Zwd t):CT 36 Zbh:=
 Z8 (l:=[(78,Z4s)]) Zr rfl (⟨c78,trivial⟩) ZuQ Try.func36 rfl rfl 1 (fun _=> rfl) (by decide) (fun ⟨t,_⟩=> hb t ())
def Ziz:List (FuncId × Fs U):=[]
def ZrJ:Zg U:=lvl [([0,1],[]),([0,1,10],[]),([4],[]),([0,1,5],[]),([0,1,5,14],[]),([0,1,5],[]),([0,1,5,25],[]),([4],[]),([4],[])]
def Z89(a b:List Int)(x5:Int):LSt U:=(L2 [(0,.c (sU .u64 a .unk)),(1,.c (sU .u64 b .unk)),(5,.c (ci x5))] [])
abbrev A75(p:List Nat):=AW (Z2 Ziz) Try.f75 ZrJ p
abbrev S75(p:List Nat):=SW (Z2 Ziz) Try.f75 ZrJ p
theorem ZxW(a b:List Int)(Q:QT)(h:let z0:=((a.length:Int):Int) !=(b.length:Int);((z0=true→(Q .ret (L2 [(4,.c (.bool false))] [])))∧(z0=false→(Zj (A75 [1,1,0,1,0,0]) (Z89 a b 0) (xB 0 (S75 [1,1,1] Q)))))):
  A75 [] (L2 [(0,.c (sU .u64 a .unk)),(1,.c (sU .u64 b .unk))] []) Q:=
 Eq.mpr (by kernel_rfl) h
theorem Zqv(a b:List Int)(x5:Int)(N0:NT)(Q:QT)(h:let z1:=decide (x5 < (a.length:Int));let z0:=((a.getD x5.toNat (0:Int)):Int) !=(b.getD x5.toNat (0:Int));((z1=true→((0:Int)≤x5∧x5 < (a.length:Int))∧((0:Int)≤x5∧x5 < (b.length:Int))∧((z0=true→(Q .ret (L2 [(4,.c (.bool false))] [])))∧(z0=false→(InR (x5+1))∧(N0 (Z89 a b (x5+1))))))∧(z1=false→(Q .ret (L2 [(4,.c (.bool true))] []))))):
  A75 [1,1,0,1,0,0] (Z89 a b x5) (xT N0 (xB 0 (S75 [1,1,1] Q))):=
 Eq.mpr (by kernel_rfl) h
def ZvS(a b:List Int):Prop:=AW (Z2 Ziz) Try.f75 ZrJ [] (Zo (ZpJ.can (a,b,())) []) (EQ Try.f75 (Zgp (a,b,())) [])
theorem Zue(hb:∀ (a:List Int) (b:List Int) (_:Unit),ZdK (a,b,())→ZvS a b):CT 75 Zb7:=
 Z8 (l:=[]) Zr rfl trivial ZrJ Try.func75 rfl rfl 2 (fun _=> rfl) (by decide) (fun ⟨a,b,_⟩=> hb a b ())
def Zix:List (FuncId × Fs U):=[]
def ZrH:Zg U:=lvl [([0],[]),([0,3],[]),([0,3,16],[]),([0,3],[]),([0,3,4],[]),([2],[])]
def Z87(l:List Int)(x3:Int):LSt U:=(L2 [(0,.c (sU .u64 l .unk)),(3,.c (ci x3))] [])
abbrev A84(p:List Nat):=AW (Z2 Zix) Try.f84 ZrH p
abbrev S84(p:List Nat):=SW (Z2 Zix) Try.f84 ZrH p
theorem ZxS(l:List Int)(Q:QT)(h:(Zj (A84 [1,1,0,0,0]) (Z87 l (l.length:Int)) (xB 0 (S84 [1,1,1] Q)))):
  A84 [] (L2 [(0,.c (sU .u64 l .unk))] []) Q:=
 Eq.mpr (by kernel_rfl) h
theorem Zqs(l:List Int)(x3:Int)(N0:NT)(Q:QT)(h:let z0:=decide ((0:Int) < x3);let z1:=bif z0 then (((List.getD l (Int.toNat (x3 - 1)) (0:Int)):Int)==0) else false;(Tr (z0=true))∧(z0=true→InR (x3 - 1))∧(Tr (z0=true))∧(Tr (z0=true))∧(z0=true→(0:Int)≤(x3 - 1)∧(x3 - 1) < (l.length:Int))∧(Tr (z0=true))∧(Tr (z0=true))∧(Tr (z0=true))∧((z1=true→(InR (x3 - 1))∧(N0 (Z87 l (x3 - 1))))∧(z1=false→(((0:Int)≤x3∧x3≤(l.length:Int))∧((([]:List Int).length+(List.take x3.toNat l).length)*8≤140737488355328)∧(Q .ret (L2 [(2,.c (sU .u64 (([]:List Int)++(List.take x3.toNat l)) (.own (.e 2 0))))] [])))))):
  A84 [1,1,0,0,0] (Z87 l x3) (xT N0 (xB 0 (S84 [1,1,1] Q))):=
 Eq.mpr (by kernel_rfl) h
def ZvO(l:List Int):Prop:=AW (Z2 Zix) Try.f84 ZrH [] (Zo (ZpG.can (l,())) []) (EQ Try.f84 (Znz (l,())) [])
theorem Zua(hb:∀ (l:List Int) (_:Unit),Zgu (l,())→ZvO l):CT 84 Zb5:=
 Z8 (l:=[]) Zr rfl trivial ZrH Try.func84 rfl rfl 1 (fun _=> rfl) (by decide) (fun ⟨l,_⟩=> hb l ())
def ZkA:List (FuncId × Fs U):=[]
def ZoQ:Zg U:=lvl [([0],[]),([0,4],[]),([2],[]),([2],[])]
abbrev ZyK(p:List Nat):=AW (Z2 ZkA) Try.f109 ZoQ p
theorem ZwV(l:List Int)(Q:QT)(h:(((l=[])→(Q .ret (L2 [(2,.c (.nils))] [])))∧(True→((([]:List Int).length+l.length)*8≤140737488355328)∧(Q .ret (L2 [(2,.c (sU .u64 (([]:List Int)++l) (.own (.e 2 0))))] []))))):
  ZyK [] (L2 [(0,.c (sU .u64 l .unk))] []) Q:=
 Eq.mpr (by kernel_rfl) h
def ZsM(l:List Int):Prop:=AW (Z2 ZkA) Try.f109 ZoQ [] (Zo (ZkX.can (l,())) []) (EQ Try.f109 (ZnR (l,())) [])
theorem Zry(hb:∀ (l:List Int) (_:Unit),ZbO (l,())→ZsM l):CT 109 Z7f:=
 Z8 (l:=[]) Zr rfl trivial ZoQ Try.func109 rfl rfl 1 (fun _=> rfl) (by decide) (fun ⟨l,_⟩=> hb l ())
def Zfc:List (FuncId × Fs U):=[]
def Zk7:Zg U:=lvl [([0,1],[]),([0,1,10],[]),([4],[]),([0,1,12,13],[]),([0,1,12,13,14],[]),([0,1,5,12,13],[]),([0,1,12,13,24],[]),([4],[]),([0,1,12,13],[]),([4],[])]
def Z5R(a b:List Int)(x13:Int):LSt U:=(L2 [(0,.c (sU .u64 a .unk)),(1,.c (sU .u64 b .unk)),(12,.c (ci (a.length:Int))),(13,.c (ci x13))] [])
abbrev Zwm(p:List Nat):=AW (Z2 Zfc) Try.f148 Zk7 p
abbrev Zxv(p:List Nat):=SW (Z2 Zfc) Try.f148 Zk7 p
theorem ZwH(a b:List Int)(Q:QT)(h:let z0:=((a.length:Int):Int) !=(b.length:Int);((z0=true→(Q .ret (L2 [(4,.c (.bool false))] [])))∧(z0=false→(Zj (Zwm [1,1,0,1,0,0]) (Z5R a b 0) (xB 0 (Zxv [1,1,1] Q)))))):
  Zwm [] (L2 [(0,.c (sU .u64 a .unk)),(1,.c (sU .u64 b .unk))] []) Q:=
 Eq.mpr (by kernel_rfl) h
theorem ZmS(a b:List Int)(x13:Int)(N0:NT)(Q:QT)(h:let z1:=decide (x13 < (a.length:Int));let z0:=((a.getD x13.toNat (0:Int)):Int) !=(b.getD x13.toNat (0:Int));((z1=true→(((0:Int)≤x13∧x13 < (a.length:Int))∧((0:Int)≤x13∧x13 < (b.length:Int))∧((z0=true→(Q .ret (L2 [(4,.c (.bool false))] [])))∧(z0=false→(InR (x13+1))∧(N0 (Z5R a b (x13+1)))))))∧(z1=false→(Q .ret (L2 [(4,.c (.bool true))] []))))):
  Zwm [1,1,0,1,0,0] (Z5R a b x13) (xT N0 (xB 0 (Zxv [1,1,1] Q))):=
 Eq.mpr (by kernel_rfl) h
def Zsy(a b:List Int):Prop:=AW (Z2 Zfc) Try.f148 Zk7 [] (Zo (ZkR.can (a,b,())) []) (EQ Try.f148 (ZbB (a,b,())) [])
theorem Zrp(hb:∀ (a:List Int) (b:List Int) (_:Unit),ZbN (a,b,())→Zsy a b):CT 148 Z7a:=
 Z8 (l:=[]) Zr rfl trivial Zk7 Try.func148 rfl rfl 2 (fun _=> rfl) (by decide) (fun ⟨a,b,_⟩=> hb a b ())
def Zkt:List (FuncId × Fs U):=[]
def ZoJ:Zg U:=lvl [([1,2],[2]),([1,2,13],[2]),([4],[]),([4],[])]
abbrev ZyF(p:List Nat):=AW (Z2 Zkt) Try.f149 ZoJ p
theorem ZwG(t:Tree)(i:Int)(Q:QT)(h:let z1:= !(decide (i < 0));let z0:=bif (decide (i < 0)) then true else (decide (((t.words.length:Int):Int)≤i));((Tr (z1=true))∧(Tr (z1=true))∧(Tr (z1=true))∧(Tr (z1=true))∧((decide (i < 0))=false→z1=true)∧((z0=true→(Q .ret (L2 [(4,.c (.int .u64 0))] [])))∧(z0=false→((0:Int)≤i∧i < (t.words.length:Int))∧(Q .ret (L2 [(4,.c (.int .u64 (t.words.getD i.toNat (0:Int))))] [])))))):
  ZyF [] (L2 [(0,.agg (enc .tree t)),(1,.c (ci i))] []) Q:=
 Eq.mpr (by kernel_rfl) h
def Zsx(t:Tree)(i:Int):Prop:=AW (Z2 Zkt) Try.f149 ZoJ [] (Zo (ZkQ.can (t,i,())) []) (EQ Try.f149 (ZeN (t,i,())) [])
theorem Zro(hb:∀ (t:Tree) (i:Int) (_:Unit),Z8U (t,i,())→Zsx t i):CT 149 Z1A:=
 Z8 (l:=[]) Zr rfl trivial ZoJ Try.func149 rfl rfl 2 (fun _=> rfl) (by decide) (fun ⟨t,i,_⟩=> hb t i ())
def Zp2:List (FuncId × Fs U):=[]
def ZuE:Zg U:=lvl [([1,2,4],[2,4]),([1,2,4,13],[2,4]),([4],[4]),([4],[4])]
abbrev A91(p:List Nat):=AW (Z2 Zp2) Try.f91 ZuE p
theorem ZxN(t:Tree)(i:Int)(Q:QT)(h:let z1:= !(decide (i < 0));let z0:=bif (decide (i < 0)) then true else (decide (((t.kids.length:Int):Int)≤i));((Tr (z1=true))∧(Tr (z1=true))∧(Tr (z1=true))∧(Tr (z1=true))∧((decide (i < 0))=false→z1=true)∧((z0=true→(Q .ret (L2 [(4,.ptr (.loc 4) 0)] [(.loc 4,[ci 0,.nils,.nils])])))∧(z0=false→((0:Int)≤i∧i < (t.kids.length:Int))∧(Q .ret (L2 [(4,.ptr (.loc 4) 0)] [(.loc 4,(enc .tree (t.kids.getD i.toNat Tree.nil)))])))))):
  A91 [] (L2 [(0,.agg (enc .tree t)),(1,.c (ci i))] []) Q:=
 Eq.mpr (by kernel_rfl) h
def ZvJ(t:Tree)(i:Int):Prop:=AW (Z2 Zp2) Try.f91 ZuE [] (Zo (ZpD.can (t,i,())) []) (EQ Try.f91 (ZjB (t,i,())) [])
theorem Zu6(hb:∀ (t:Tree) (i:Int) (_:Unit),ZdI (t,i,())→ZvJ t i):CT 91 Z3L:=
 Z8 (l:=[]) Zr rfl trivial ZuE Try.func91 rfl rfl 2 (fun _=> rfl) (by decide) (fun ⟨t,i,_⟩=> hb t i ())
def ZiH(N:Nat):List (FuncId × Fs U):=(45,fs Zj2 (fun a=> [ZbJ a,ZlT a < N]) ZdC) ::[(84,Zb5)]
def ZrR:Zg U:=fun i=> match i with
 | 0=> ([(1,[]),(2,[])],[(.loc 1,[]),(.loc 2,[])])
 | 1=> ([(1,[]),(2,[]),(10,[])],[(.loc 1,[]),(.loc 2,[])])
 | 2=> ([(2,[])],[(.loc 2,[])])
 | 3=> ([(1,[]),(2,[]),(3,[])],[(.loc 1,[]),(.loc 2,[])])
 | 4=> ([(1,[]),(2,[]),(3,[]),(4,[])],[(.loc 1,[]),(.loc 2,[])])
 | 5=> ([(1,[]),(2,[]),(3,[.own .tree]),(4,[]),(5,[])],[(.loc 1,[]),(.loc 2,[])])
 | 6=> ([(1,[]),(2,[]),(3,[]),(4,[]),(5,[]),(16,[])],[(.loc 1,[]),(.loc 2,[])])
 | 7=> ([(1,[]),(2,[]),(3,[.own .tree]),(4,[]),(5,[])],[(.loc 1,[]),(.loc 2,[])])
 | 8=> ([(1,[]),(2,[]),(3,[]),(4,[]),(5,[]),(6,[])],[(.loc 1,[]),(.loc 2,[]),(.loc 6,[])])
 | 9=> ([(1,[]),(2,[]),(3,[]),(4,[]),(5,[]),(6,[])],[(.loc 1,[]),(.loc 2,[]),(.loc 6,[])])
 | 10=> ([(1,[]),(2,[]),(3,[]),(4,[]),(5,[]),(31,[])],[(.loc 1,[]),(.loc 2,[])])
 | 11=> ([(1,[]),(2,[]),(3,[]),(4,[]),(5,[])],[(.loc 1,[]),(.loc 2,[])])
 | 12=> ([(1,[]),(2,[]),(3,[]),(4,[]),(36,[])],[(.loc 1,[]),(.loc 2,[])])
 | 13=> ([(2,[])],[(.loc 2,[])])
 | 14=> ([(1,[]),(2,[]),(3,[]),(7,[])],[(.loc 1,[]),(.loc 2,[])])
 | 15=> ([(1,[]),(2,[]),(3,[]),(7,[])],[(.loc 1,[]),(.loc 2,[])])
 | 16=> ([(2,[])],[(.loc 2,[])])
 | _=> ([],[])
def Z56(t:Tree)(x4 x5:Int)(x3:List Tree):LSt U:=(L2 [(1,.ptr (.loc 1) 0),(2,.ptr (.loc 2) 0),(3,.c (sU .tree x3 (.own (.e 3 0)))),(4,.c (ci x4)),(5,.c (ci x5))] [(.loc 1,(enc .tree t)),(.loc 2,[ci 0,.nils,.nils])])
abbrev A45(N:Nat)(p:List Nat):=AW (Z2 (ZiH N)) Try.f45 ZrR p
abbrev S45(N:Nat)(p:List Nat):=SW (Z2 (ZiH N)) Try.f45 ZrR p
theorem Zyf(N:Nat)(t:Tree)(Q:QT)(h:(((t.kind==0)=true→(Q .ret (L2 [(2,.ptr (.loc 2) 0)] [(.loc 2,[ci 0,.nils,.nils])])))∧((t.kind==0)=false→(Zj (A45 N [1,1,1,1,0,1,0,0]) (Z56 t 0 0 []) (xB 0 (S45 N [1,1,1,1,1] Q)))))):
  A45 N [] (L2 [(0,.agg (enc .tree t))] []) Q:=
 Eq.mpr (by kernel_rfl) h
theorem ZqN(N:Nat)(t:Tree)(x4 x5:Int)(x3:List Tree)(N0:NT)(Q:QT)(h:∀ y_1,y_1=(t.kids.getD x5.toNat Tree.nil)→∀ y_2,y_2=y_1→∀ y_3,y_3=(Z3 y_2)→let z1:=decide (x5 < (t.kids.length:Int));let z0:=((Tree.kind (Z3 y_2)):Int) !=0;((z1=true→((0:Int)≤x5∧x5 < (t.kids.length:Int))∧(ZbJ (y_2,()))∧(ZlT (y_2,()) < N)∧(((x3.length+([y_3]).length)*56≤140737488355328)∧((z0=true→(InR (x5+1))∧((InR (x5+1))∧(N0 (Z56 t (x5+1) (x5+1) (x3++([y_3]))))))∧(z0=false→(InR (x5+1))∧(N0 (Z56 t x4 (x5+1) (x3++([y_3]))))))))∧(z1=false→(((t.kind==1)=true→(Zgu (t.words,()))∧((0:Int)≤x4∧x4≤(x3.length:Int))∧(Q .ret (L2 [(2,.ptr (.loc 2) 0)] [(.loc 2,[ci 1,sU .u64 (trim t.words) .unk,sU .tree (List.take x4.toNat x3) .unk])])))∧((t.kind==1)=false→(((([]:List Int).length+t.words.length)*8≤140737488355328)∧(Q .ret (L2 [(2,.ptr (.loc 2) 0)] [(.loc 2,[ci t.kind,sU .u64 (([]:List Int)++t.words) (.own (.l 2 1)),sU .tree x3 (.own (.l 2 2))])])))))))):
  A45 N [1,1,1,1,0,1,0,0] (Z56 t x4 x5 x3) (xT N0 (xB 0 (S45 N [1,1,1,1,1] Q))):=
 Eq.mpr (by kernel_rfl) (h _ rfl _ (Zf _) _ (Zf _))
def Zwb(N:Nat)(t:Tree):Prop:=AW (Z2 (ZiH N)) Try.f45 ZrR [] (Zo (Zj2.can (t,())) []) (EQ Try.f45 (ZdC (t,())) [])
theorem Zut(c84:CT 84 Zb5)(hb:∀ (N:Nat) (t:Tree) (_:Unit),ZbJ (t,())→ZlT (t,()) < N+1→Zwb N t):CT 45 Zbg:=
 YD (μ:=ZlT) (l:=[(84,Zb5)]) Zr rfl (⟨c84,trivial⟩) ZrR Try.func45 rfl rfl 1 (fun _=> rfl) (by decide) (fun N ⟨t,_⟩=> hb N t ())
def ZiA(N:Nat):List (FuncId × Fs U):=(71,fs ZiZ (fun a=> [Z0Q a,ZlR a < N]) ZdB) ::[(109,Z7f)]
def ZrK:Zg U:=fun i=> match i with
 | 0=> ([(1,[]),(2,[])],[(.loc 1,[]),(.loc 2,[])])
 | 1=> ([(1,[]),(2,[]),(8,[])],[(.loc 1,[]),(.loc 2,[])])
 | 2=> ([(2,[])],[(.loc 2,[])])
 | 3=> ([(1,[]),(2,[]),(3,[])],[(.loc 1,[]),(.loc 2,[]),(.loc 3,[])])
 | 4=> ([(1,[]),(2,[]),(3,[]),(17,[]),(18,[]),(19,[])],[(.loc 1,[]),(.loc 2,[]),(.loc 3,[.any,.any,.own .tree])])
 | 5=> ([(1,[]),(2,[]),(3,[]),(17,[]),(18,[]),(19,[]),(20,[])],[(.loc 1,[]),(.loc 2,[]),(.loc 3,[])])
 | 6=> ([(1,[]),(2,[]),(3,[]),(5,[]),(17,[]),(18,[]),(19,[])],[(.loc 1,[]),(.loc 2,[]),(.loc 3,[]),(.loc 5,[])])
 | 7=> ([(1,[]),(2,[]),(3,[]),(17,[]),(18,[]),(19,[])],[(.loc 1,[]),(.loc 2,[]),(.loc 3,[])])
 | 8=> ([(1,[]),(2,[]),(3,[]),(17,[]),(18,[]),(19,[])],[(.loc 1,[]),(.loc 2,[]),(.loc 3,[.any,.any,.own .tree])])
 | 9=> ([(2,[]),(3,[]),(33,[])],[(.loc 2,[]),(.loc 3,[.any,.any,.unk .tree])])
 | 10=> ([(2,[]),(3,[]),(33,[]),(48,[])],[(.loc 2,[]),(.loc 3,[.any,.any,.unk .tree])])
 | 11=> ([(2,[]),(3,[]),(33,[])],[(.loc 2,[]),(.loc 3,[.any,.any,.unk .tree])])
 | 12=> ([(2,[]),(3,[]),(33,[]),(48,[]),(72,[])],[(.loc 2,[]),(.loc 3,[])])
 | 13=> ([(2,[]),(3,[]),(33,[]),(48,[])],[(.loc 2,[]),(.loc 3,[.any,.any,.unk .tree])])
 | 14=> ([(2,[])],[(.loc 2,[])])
 | _=> ([],[])
def Z8c(t:Tree)(x19:Int)(ml3_2:List Tree):LSt U:=(L2 [(1,.ptr (.loc 1) 0),(2,.ptr (.loc 2) 0),(3,.ptr (.loc 3) 0),(17,.c (sU .tree t.kids .unk)),(18,.c (ci (t.kids.length:Int))),(19,.c (ci x19))] [(.loc 1,(enc .tree t)),(.loc 2,[ci 0,.nils,.nils]),(.loc 3,[ci t.kind,sU .u64 t.words .unk,sU .tree ml3_2 (.own (.l 3 2))])])
def Z8b(t:Tree)(ml3_2:List Tree)(ml3_1_a:List Int):LSt U:=(L2 [(2,.ptr (.loc 2) 0),(3,.ptr (.loc 3) 0),(33,.c (.bool ((t.kind:Int)==1)))] [(.loc 2,[ci 0,.nils,.nils]),(.loc 3,[ci t.kind,sU .u64 ml3_1_a .unk,sU .tree ml3_2 .unk])])
def Z8a(t:Tree)(ml3_1_a:List Int)(ml3_2_b:List Tree):LSt U:=(L2 [(2,.ptr (.loc 2) 0),(3,.ptr (.loc 3) 0),(33,.c (.bool ((t.kind:Int)==1))),(48,.c (.bool (bif (decide ((0:Int) < (ml3_1_a.length:Int))) then (((List.getD ml3_1_a (Int.toNat (((ml3_1_a.length:Int):Int) - 1)) (0:Int)):Int)==0) else false)))] [(.loc 2,[ci 0,.nils,.nils]),(.loc 3,[ci t.kind,sU .u64 ml3_1_a .unk,sU .tree ml3_2_b .unk])])
abbrev A71(N:Nat)(p:List Nat):=AW (Z2 (ZiA N)) Try.f71 ZrK p
abbrev S71(N:Nat)(p:List Nat):=SW (Z2 (ZiA N)) Try.f71 ZrK p
theorem ZxX(N:Nat)(t:Tree)(Q:QT)(h:(((t.kind==0)=true→(Q .ret (L2 [(2,.ptr (.loc 2) 0)] [(.loc 2,[ci 0,.nils,.nils])])))∧((t.kind==0)=false→(ZbO (t.words,()))∧(Zj (A71 N [1,1,1,0,1,0,0]) (Z8c t 0 []) (xB 0 (S71 N [1,1,1,1] Q)))))):
  A71 N [] (L2 [(0,.agg (enc .tree t))] []) Q:=
 Eq.mpr (by kernel_rfl) h
theorem Zqy(N:Nat)(t:Tree)(x19:Int)(ml3_2:List Tree)(N0:NT)(Q:QT)(h:∀ y_1,y_1=(t.kids.getD x19.toNat Tree.nil)→∀ y_2,y_2=y_1→∀ y_3,y_3=(Z3 y_2)→let z0:=decide (x19 < (t.kids.length:Int));((z0=true→((0:Int)≤x19∧x19 < (t.kids.length:Int))∧((Z0Q (y_2,()))∧(ZlR (y_2,()) < N)∧((ml3_2.length+([y_3]).length)*56≤140737488355328)∧((InR (x19+1))∧(N0 (Z8c t (x19+1) (ml3_2++([y_3])))))))∧(z0=false→(((t.kind==1)=true→Zj (A71 N [1,1,1,1,0,1,0,0,0,0]) (Z8b t ml3_2 t.words) (xB 2 (S71 N [1,1,1,1,0,1,0,1] (S71 N [1,1,1,1,1] Q))))∧((t.kind==1)=false→(Q .ret (L2 [(2,.ptr (.loc 2) 0)] [(.loc 2,[ci t.kind,sU .u64 t.words .unk,sU .tree ml3_2 .unk])]))))))):
  A71 N [1,1,1,0,1,0,0] (Z8c t x19 ml3_2) (xT N0 (xB 0 (S71 N [1,1,1,1] Q))):=
 Eq.mpr (by kernel_rfl) (h _ rfl _ (Zf _) _ (Zf _))
theorem Zqx(N:Nat)(t:Tree)(ml3_2:List Tree)(ml3_1_a:List Int)(N1:NT)(Q:QT)(h:let z0:=decide ((0:Int) < (ml3_1_a.length:Int));let z1:=bif z0 then (((List.getD ml3_1_a (Int.toNat (((ml3_1_a.length:Int):Int) - 1)) (0:Int)):Int)==0) else false;(Tr (z0=true))∧(Tr (z0=true))∧(Tr (z0=true))∧(Tr (z0=true))∧(z0=true→InR (((ml3_1_a.length:Int):Int) - 1))∧(Tr (z0=true))∧(Tr (z0=true))∧(z0=true→(0:Int)≤(((ml3_1_a.length:Int):Int) - 1)∧(((ml3_1_a.length:Int):Int) - 1) < (ml3_1_a.length:Int))∧(Tr (z0=true))∧(Tr (z0=true))∧(Tr (z0=true))∧((z1=true→(InR (((ml3_1_a.length:Int):Int) - 1))∧((0:Int)≤(((ml3_1_a.length:Int):Int) - 1)∧(((ml3_1_a.length:Int):Int) - 1)≤(ml3_1_a.length:Int))∧(N1 (Z8b t ml3_2 (List.take (Int.toNat (((ml3_1_a.length:Int):Int) - 1)) ml3_1_a))))∧(z1=false→Zj (A71 N [1,1,1,1,0,1,0,1,0,0]) (Z8a t ml3_1_a ml3_2) (xB 4 (S71 N [1,1,1,1,1] Q))))):
  A71 N [1,1,1,1,0,1,0,0,0,0] (Z8b t ml3_2 ml3_1_a) (xT N1 (xB 2 (S71 N [1,1,1,1,0,1,0,1] (S71 N [1,1,1,1,1] Q)))):=
 Eq.mpr (by kernel_rfl) h
theorem Zqw(N:Nat)(t:Tree)(ml3_1_a:List Int)(ml3_2_b:List Tree)(N2:NT)(Q:QT)(h:let z0:=decide ((0:Int) < (ml3_2_b.length:Int));let z1:=bif z0 then (((Tree.kind (List.getD ml3_2_b (Int.toNat (((ml3_2_b.length:Int):Int) - 1)) Tree.nil)):Int)==0) else false;(Tr (z0=true))∧(Tr (z0=true))∧(Tr (z0=true))∧(Tr (z0=true))∧(z0=true→InR (((ml3_2_b.length:Int):Int) - 1))∧(Tr (z0=true))∧(Tr (z0=true))∧(z0=true→(0:Int)≤(((ml3_2_b.length:Int):Int) - 1)∧(((ml3_2_b.length:Int):Int) - 1) < (ml3_2_b.length:Int))∧(Tr (z0=true))∧(Tr (z0=true))∧(Tr (z0=true))∧(Tr (z0=true))∧((z1=true→(InR (((ml3_2_b.length:Int):Int) - 1))∧((0:Int)≤(((ml3_2_b.length:Int):Int) - 1)∧(((ml3_2_b.length:Int):Int) - 1)≤(ml3_2_b.length:Int))∧(N2 (Z8a t ml3_1_a (List.take (Int.toNat (((ml3_2_b.length:Int):Int) - 1)) ml3_2_b))))∧(z1=false→(Q .ret (L2 [(2,.ptr (.loc 2) 0)] [(.loc 2,[ci t.kind,sU .u64 ml3_1_a .unk,sU .tree ml3_2_b .unk])]))))):
  A71 N [1,1,1,1,0,1,0,1,0,0] (Z8a t ml3_1_a ml3_2_b) (xT N2 (xB 4 (S71 N [1,1,1,1,1] Q))):=
 Eq.mpr (by kernel_rfl) h
def ZvT(N:Nat)(t:Tree):Prop:=AW (Z2 (ZiA N)) Try.f71 ZrK [] (Zo (ZiZ.can (t,())) []) (EQ Try.f71 (ZdB (t,())) [])
theorem Zuf(Zvl:CT 109 Z7f)(hb:∀ (N:Nat) (t:Tree) (_:Unit),Z0Q (t,())→ZlR (t,()) < N+1→ZvT N t):CT 71 Z0c:=
 YD (μ:=ZlR) (l:=[(109,Z7f)]) Zr rfl (⟨Zvl,trivial⟩) ZrK Try.func71 rfl rfl 1 (fun _=> rfl) (by decide) (fun N ⟨t,_⟩=> hb N t ())
def ZiI(N:Nat):List (FuncId × Fs U):=(29,fs Zj4 (fun a=> [ZbK a,ZlU a < N]) ZdD) ::[(75,Zb7)]
def ZrS:Zg U:=lvl [([2,3],[2,3]),([2,3,27],[2,3]),([4],[]),([2,3,5],[2,3]),([2,3,5,32],[2,3]),([2,3,5],[2,3]),([2,3,5,46],[2,3]),([4],[]),([4],[])]
def Z8m(a b:Tree)(x5:Int):LSt U:=(L2 [(2,.ptr (.loc 2) 0),(3,.ptr (.loc 3) 0),(5,.c (ci x5))] [(.loc 2,(enc .tree a)),(.loc 3,(enc .tree b))])
abbrev A29(N:Nat)(p:List Nat):=AW (Z2 (ZiI N)) Try.f29 ZrS p
abbrev S29(N:Nat)(p:List Nat):=SW (Z2 (ZiI N)) Try.f29 ZrS p
theorem Zyi(N:Nat)(a b:Tree)(Q:QT)(h:let z1:=a.kind !=b.kind;let z0:=bif z1 then true else (!(decide (a.words=b.words)));let z2:=bif z0 then true else (((a.kids.length:Int):Int) !=(b.kids.length:Int));((Tr ((!z1)=true))∧(Tr ((!z1)=true))∧(Tr ((!z1)=true))∧(Tr ((!z1)=true))∧((!z1)=true→ZdK (a.words,b.words,()))∧(Tr ((!z1)=true))∧(z1=false→(!z1)=true)∧(Tr ((!z0)=true))∧(Tr ((!z0)=true))∧(Tr ((!z0)=true))∧(Tr ((!z0)=true))∧(Tr ((!z0)=true))∧(Tr ((!z0)=true))∧(z0=false→(!z0)=true)∧((z2=true→(Q .ret (L2 [(4,.c (.bool false))] [])))∧(z2=false→(Zj (A29 N [1,1,0,1,0,0]) (Z8m a b 0) (xB 0 (S29 N [1,1,1] Q))))))):
  A29 N [] (L2 [(0,.agg (enc .tree a)),(1,.agg (enc .tree b))] []) Q:=
 Eq.mpr (by kernel_rfl) h
theorem ZqP(N:Nat)(a b:Tree)(x5:Int)(N0:NT)(Q:QT)(h:∀ y_1,y_1=(a.kids.getD x5.toNat Tree.nil)→∀ y_2,y_2=(b.kids.getD x5.toNat Tree.nil)→∀ y_3,y_3=y_1→∀ y_4,y_4=y_2→let z0:=decide (x5 < (a.kids.length:Int));((z0=true→((0:Int)≤x5∧x5 < (a.kids.length:Int))∧((0:Int)≤x5∧x5 < (b.kids.length:Int))∧(ZbK (y_3,y_4,()))∧(ZlU (y_3,y_4,()) < N)∧(((!(YT y_3 y_4))=true→(Q .ret (L2 [(4,.c (.bool false))] [])))∧((!(YT y_3 y_4))=false→(InR (x5+1))∧(N0 (Z8m a b (x5+1))))))∧(z0=false→(Q .ret (L2 [(4,.c (.bool true))] []))))):
  A29 N [1,1,0,1,0,0] (Z8m a b x5) (xT N0 (xB 0 (S29 N [1,1,1] Q))):=
 Eq.mpr (by kernel_rfl) (h _ rfl _ rfl _ (Zf _) _ (Zf _))
def Zwe(N:Nat)(a b:Tree):Prop:=AW (Z2 (ZiI N)) Try.f29 ZrS [] (Zo (Zj4.can (a,b,())) []) (EQ Try.f29 (ZdD (a,b,())) [])
theorem Zuw(c75:CT 75 Zb7)(hb:∀ (N:Nat) (a:Tree) (b:Tree) (_:Unit),ZbK (a,b,())→ZlU (a,b,()) < N+1→Zwe N a b):CT 29 Zbi:=
 YD (μ:=ZlU) (l:=[(75,Zb7)]) Zr rfl (⟨c75,trivial⟩) ZrS Try.func29 rfl rfl 2 (fun _=> rfl) (by decide) (fun N ⟨a,b,_⟩=> hb N a b ())
def Zfk(N:Nat):List (FuncId × Fs U):=(106,fs ZfK (fun a=> [Z1s a,ZdR a < N]) Z6z) ::[(148,Z7a),(149,Z1A),(91,Z3L)]
def Zkf:Zg U:=lvl [([2,3],[2,3]),([2,3,16],[2,3]),([4],[]),([2,3,41],[2,3]),([4],[]),([2,3,48,49],[2,3]),([2,3,48,49,50],[2,3]),([2,3,5,48,49],[2,3]),([2,3,48,49,58],[2,3]),([4],[]),([2,3,48,49],[2,3]),([2,3,66,67],[2,3]),([2,3,66,67,68],[2,3]),([2,3,6,66,67],[2,3]),([2,3,66,67,77],[2,3]),([4],[]),([2,3,66,67],[2,3]),([4],[])]
def Z62(a b:Tree)(x49:Int):LSt U:=(L2 [(2,.ptr (.loc 2) 0),(3,.ptr (.loc 3) 0),(48,.c (ci (if ((a.words.length:Int):Int) < (b.words.length:Int) then (b.words.length:Int) else (a.words.length:Int)))),(49,.c (ci x49))] [(.loc 2,(enc .tree a)),(.loc 3,(enc .tree b))])
def Z61(a b:Tree)(x67_a:Int):LSt U:=(L2 [(2,.ptr (.loc 2) 0),(3,.ptr (.loc 3) 0),(66,.c (ci (if ((a.kids.length:Int):Int) < (b.kids.length:Int) then (b.kids.length:Int) else (a.kids.length:Int)))),(67,.c (ci x67_a))] [(.loc 2,(enc .tree a)),(.loc 3,(enc .tree b))])
abbrev Zqd(N:Nat)(p:List Nat):=AW (Z2 (Zfk N)) Try.f106 Zkf p
abbrev Zsk(N:Nat)(p:List Nat):=SW (Z2 (Zfk N)) Try.f106 Zkf p
theorem ZwY(N:Nat)(a b:Tree)(Q:QT)(h:let z3:=a.kind !=b.kind;let z4:=bif z3 then true else (a.kind==0);let z0:=((a.kids.length:Int):Int) !=(b.kids.length:Int);let z2:=bif (a.kind !=1) then (bif z0 then true else (!(decide (a.words=b.words)))) else false;let z1:=(a.kind !=1) && (!z0);((Tr ((!z3)=true))∧(Tr ((!z3)=true))∧(z3=false→(!z3)=true)∧((z4=true→(Q .ret (L2 [(4,.c (.bool (a.kind==b.kind)))] [])))∧(z4=false→(Tr ((a.kind !=1)=true))∧(Tr ((a.kind !=1)=true))∧(Tr ((a.kind !=1)=true))∧(Tr ((a.kind !=1)=true))∧(Tr ((a.kind !=1)=true))∧(Tr ((a.kind !=1)=true))∧(Tr ((a.kind !=1)=true))∧(Tr (z1=true))∧(Tr (z1=true))∧(Tr (z1=true))∧(Tr (z1=true))∧(z1=true→ZbN (a.words,b.words,()))∧(Tr (z1=true))∧((a.kind !=1)=true→(True→(a.kind !=1)=true))∧((a.kind !=1)=true→(z0=false→z1=true))∧(Tr ((a.kind !=1)=true))∧((z2=true→(Q .ret (L2 [(4,.c (.bool false))] [])))∧(z2=false→(Zj (Zqd N [1,1,1,0,1,0,0]) (Z62 a b 0) (xB 0 (Zsk N [1,1,1,1] Q))))))))):
  Zqd N [] (L2 [(0,.agg (enc .tree a)),(1,.agg (enc .tree b))] []) Q:=
 Eq.mpr (by kernel_rfl) h
theorem Zn9(N:Nat)(a b:Tree)(x49:Int)(N0:NT)(Q:QT)(h:let z3:=Tree.mk b.kind b.words b.kids;let z2:=Tree.mk a.kind a.words a.kids;let z1:=((Jx z2 x49):Int) !=(Jx z3 x49);let z0:=decide (x49 < (if ((a.words.length:Int):Int) < (b.words.length:Int) then (b.words.length:Int) else (a.words.length:Int)));((z0=true→((Z8U (z2,x49,()))∧(Z8U (z3,x49,()))∧((z1=true→(Q .ret (L2 [(4,.c (.bool false))] [])))∧(z1=false→(InR (x49+1))∧(N0 (Z62 a b (x49+1)))))))∧(z0=false→(Zj (Zqd N [1,1,1,1,0,1,0,0]) (Z61 a b 0) (xB 2 (Zsk N [1,1,1,1,1] Q)))))):
  Zqd N [1,1,1,0,1,0,0] (Z62 a b x49) (xT N0 (xB 0 (Zsk N [1,1,1,1] Q))):=
 Eq.mpr (by kernel_rfl) h
theorem Zn8(N:Nat)(a b:Tree)(x67_a:Int)(N1:NT)(Q:QT)(h:∀ y_1,y_1=a→∀ y_2,y_2=b→∀ y_3,y_3=(JM y_1 x67_a)→∀ y_4,y_4=(JM y_2 x67_a)→let z1:= !(YT (Z3 y_3) (Z3 y_4));let z0:=decide (x67_a < (if ((a.kids.length:Int):Int) < (b.kids.length:Int) then (b.kids.length:Int) else (a.kids.length:Int)));((z0=true→((ZdI (y_1,x67_a,()))∧(ZdI (y_2,x67_a,()))∧(Z1s (y_3,y_4,()))∧(ZdR (y_3,y_4,()) < N)∧((z1=true→(Q .ret (L2 [(4,.c (.bool false))] [])))∧(z1=false→(InR (x67_a+1))∧(N1 (Z61 a b (x67_a+1)))))))∧(z0=false→(Q .ret (L2 [(4,.c (.bool true))] []))))):
  Zqd N [1,1,1,1,0,1,0,0] (Z61 a b x67_a) (xT N1 (xB 2 (Zsk N [1,1,1,1,1] Q))):=
 Eq.mpr (by kernel_rfl) (h _ (Zf _) _ (Zf _) _ (Zf _) _ (Zf _))
def ZsP(N:Nat)(a b:Tree):Prop:=AW (Z2 (Zfk N)) Try.f106 Zkf [] (Zo (ZfK.can (a,b,())) []) (EQ Try.f106 (Z6z (a,b,())) [])
theorem Zrz(Zve:CT 148 Z7a)(Zmp:CT 149 Z1A)(c91:CT 91 Z3L)(hb:∀ (N:Nat) (a:Tree) (b:Tree) (_:Unit),Z1s (a,b,())→ZdR (a,b,()) < N+1→ZsP N a b):CT 106 J3:=
 YD (μ:=ZdR) (l:=[(148,Z7a),(149,Z1A),(91,Z3L)]) Zr rfl (⟨Zve,Zmp,c91,trivial⟩) Zkf Try.func106 rfl rfl 2 (fun _=> rfl) (by decide) (fun N ⟨a,b,_⟩=> hb N a b ())
end
end Go.AM.Ytpjenobkibfpcaa
namespace Go.AM.Ytpjenobkibfpcaa
open Go.AM Go.Proofs
theorem vcU:(∀ {p q:Prop},(p→q→p∧q)=True)∧(∀ {p:Prop},(True∧p)=p)∧(∀ {p:Prop},(p∧True)=p)∧(∀ {p:Prop},(p→True)=True):=
 ⟨by intros;simp+contextual,by simp,by simp,by simp⟩
theorem Zbp:∀ {ks:List Tree} {i:Nat},Z27 ks→i < ks.length→Z28 (ks.getD i Tree.nil)
 | t ::_,0,h,_=> by simp only [Z27] at h;exact h.1
 | _ ::r,i+1,h,hi=> by simp only [Z27] at h;exact Zbp (ks:=r) (i:=i) h.2 (by simpa using hi)
theorem Z0o:∀ {ks:List Tree} {i:Nat},i < ks.length→Zk (ks.getD i Tree.nil)≤Za ks
 | t ::_,0,_=> by simp only [Za,List.getD_cons_zero];omega
 | t ::r,i+1,h=> by
  have:=Z0o (ks:=r) (i:=i) (by simpa using h)
  simp only [Za,List.getD_cons_succ]
  omega
mutual
theorem YE:∀ (t:Tree) (d l:Int),-1≤ZC t d l∧ZC t d l≤max l (-1)
 | .mk _ w ks,d,l=> by
  simp only [ZC]
  split
  ·omega
  ·have:=Z0u ks (d - 1) (l - 1 - w.length) (by omega)
   omega
theorem Z0u:∀ (ks:List Tree) (d l:Int),-1≤l→-1≤Zv ks d l∧Zv ks d l≤l
 | [],d,l,h=> by simp only [Zv];omega
 | t ::r,d,l,h=> by
  simp only [Zv]
  split
  ·omega
  ·have h1:=YE t d l
   have h2:=Z0u r d (ZC t d l) h1.1
   omega
end
theorem ZcR{ks:List Tree}{i:Nat}{d l:Int}(h:i < ks.length)(hl:0≤l):Zv (ks.drop i) d l=Zv (ks.drop (i+1)) d (ZC (ks.getD i Tree.nil) d l):=by
 rw [List.drop_eq_getElem_cons h]
 simp only [Zv]
 rw [if_neg (by omega)]
 simp [List.getD,h]
theorem c78:Contract Try.prog cfg 78 Z4s:=by
 refine Zud ?_
 rintro N ⟨k,ws,ks⟩ d l _ ⟨hs,h1,h2,h3,h4⟩ hN
 simp only [Z28,ZlQ,Zk] at*
 refine ZxV N _ _ _ _ ?_;(try simp only [vcT,forall_eq])
 (simp only [vcS]);(try simp only [vcT])
 try (simp only [Tree.eta,Edit.eta,Tree.kind_mk,Tree.words_mk,Tree.kids_mk])
 refine ⟨by unfold InR;omega,by unfold InR;omega,fun hc=> ?_,fun hc=> ?_⟩
 ·have e:ZC (.mk k ws ks) d l= -1:=by
   simp only [ZC]
   rw [if_pos (by omega)]
  simp only [Zgo,e]
  exact ⟨⟨rfl,⟨⟨rfl,rfl⟩,trivial⟩,trivial⟩,trivial⟩
 ·have e:ZC (.mk k ws ks) d l=Zv ks (d - 1) (l - 1 - ws.length):=by
   simp only [ZC]
   rw [if_neg (by omega)]
  simp only [Zgo,e]
  refine Zb (ι:=Int × Int) (fun p=> Z88 (.mk k ws ks) d l p.1 p.2) (fun p=> 0≤p.2∧p.2≤ks.length∧-1≤p.1∧p.1≤l∧Zv (ks.drop p.2.toNat) (d - 1) p.1=Zv ks (d - 1) (l - 1 - ws.length)) (fun p=> ((ks.length:Int) - p.2).toNat) (l - 1 - ws.length,0) rfl ⟨by omega,by omega,by omega,by omega,by simp⟩ ?_
  rintro ⟨l',i⟩ ⟨h5,h6,h7,h8,h9⟩
  dsimp only at*
  refine Zqu N _ _ _ _ _ _ _ ?_;(try simp only [vcT,forall_eq])
  (simp only [vcS]);(try simp only [vcT])
  try (simp only [Tree.eta,Edit.eta,Tree.kind_mk,Tree.words_mk,Tree.kids_mk])
  refine ⟨fun hc=> ?_,fun hc=> ?_⟩
  ·have hi:i.toNat < ks.length:=by omega
   have hr:=YE (ks.getD i.toNat Tree.nil) (d - 1) l'
   have hn:=Z0o hi
   have hd:=ZcR (d:=d - 1) hi hc.2
   refine ⟨by omega,by unfold InR;omega,⟨Zbp hs.2.2 hi,by dsimp only;omega,by dsimp only;omega,by dsimp only;omega,by dsimp only;omega⟩,by simp only [ZlQ];omega,by unfold InR;omega,⟨(ZC (ks.getD i.toNat Tree.nil) (d - 1) l',i+1),rfl,⟨by dsimp only;omega,by dsimp only;omega,by dsimp only;omega,by dsimp only;omega,?_⟩,by dsimp only;omega⟩⟩
   dsimp only
   rw [←h9,hd]
   congr 2
   omega
  ·have e:Zv ks (d - 1) (l - 1 - ws.length)=l':=by
    rw [←h9]
    by_cases hi:i < ks.length
    ·rw [List.drop_eq_getElem_cons (by omega)]
     simp only [Zv]
     rw [if_pos (by omega)]
    ·rw [List.drop_eq_nil_of_le (by omega)]
     simp only [Zv]
   rw [e]
   exact ⟨⟨rfl,⟨⟨rfl,rfl⟩,trivial⟩,trivial⟩,trivial⟩
theorem c36:Contract Try.prog cfg 36 Zbh:=by
 refine Zuv c78 ?_
 intro t _ hp
 refine Zyh _ _ ?_;(try simp only [vcT,forall_eq])
 try (simp only [Tree.eta,Edit.eta,Tree.kind_mk,Tree.words_mk,Tree.kids_mk])
 refine ⟨⟨hp,by dsimp only;omega,by dsimp only;omega,by dsimp only;omega,by dsimp only;omega⟩,?_⟩
 exact ⟨⟨rfl,⟨rfl,trivial⟩,trivial⟩,trivial⟩
theorem Zvl:Contract Try.prog cfg 109 Z7f:=by
 refine Zry ?_
 intro l _ hp
 refine ZwV _ _ ?_;(try simp only [vcT,forall_eq])
 simp only [ZbO] at hp
 refine ⟨fun h=> ?_,⟨by simp only [List.length_nil];omega,?_⟩⟩
 ·subst h
  exact ⟨⟨rfl,⟨rfl,trivial⟩,trivial⟩,trivial⟩
 ·exact ⟨⟨rfl,⟨⟨rfl,trivial⟩,trivial⟩,trivial⟩,trivial⟩
theorem ZaG{a b:List Int}{i:Int}(hi:0≤i)(ha:i < a.length)(hb:i < b.length):(a.drop i.toNat=b.drop i.toNat)↔(a.getD i.toNat 0=b.getD i.toNat 0∧a.drop (i+1).toNat=b.drop (i+1).toNat):=by
 have e:(i+1).toNat=i.toNat+1:=by omega
 rw [List.drop_eq_getElem_cons (by omega),List.drop_eq_getElem_cons (l:=b) (by omega),e]
 simp only [List.cons.injEq,List.getD,List.getElem?_eq_getElem (show i.toNat < a.length by omega),List.getElem?_eq_getElem (show i.toNat < b.length by omega),Option.getD_some]
theorem c75:Contract Try.prog cfg 75 Zb7:=by
 refine Zue ?_
 intro a b _ hp
 simp only [ZdK] at hp
 refine ZxW _ _ _ ?_;(try simp only [vcT,forall_eq])
 (simp only [vcS]);(try simp only [vcT])
 refine ⟨fun hc=> ?_,fun hc=> ?_⟩
 ·have e:decide (a=b)=false:=by
   simp only [decide_eq_false_iff_not]
   rintro rfl
   omega
  simp only [Zgp,e]
  exact ⟨⟨rfl,⟨rfl,trivial⟩,trivial⟩,trivial⟩
 ·have hl:a.length=b.length:=by omega
  refine Zb (ι:=Int) (fun p=> Z89 a b p) (fun p=> 0≤p∧p≤a.length∧(a=b↔a.drop p.toNat=b.drop p.toNat)) (fun p=> ((a.length:Int) - p).toNat) 0 rfl ⟨by omega,by omega,by simp⟩ ?_
  rintro i ⟨h1,h2,h3⟩
  refine Zqv _ _ _ _ _ ?_;(try simp only [vcT,forall_eq])
  (simp only [vcS]);(try simp only [vcT])
  refine ⟨fun hc=> ⟨by omega,by omega,fun hn=> ?_,fun he=> ⟨by unfold InR;omega,i+1,rfl,⟨by omega,by omega,?_⟩,by omega⟩⟩,fun hc=> ?_⟩
  ·have e:decide (a=b)=false:=by
    simp only [decide_eq_false_iff_not,h3]
    rw [ZaG h1 hc (by omega)]
    exact fun h=> hn h.1
   simp only [Zgp,e]
   exact ⟨⟨rfl,⟨rfl,trivial⟩,trivial⟩,trivial⟩
  ·rw [h3,ZaG h1 hc (by omega)]
   exact ⟨fun h=> h.2,fun h=> ⟨by simpa using he,h⟩⟩
  ·have e:decide (a=b)=true:=by
    simp only [decide_eq_true_eq,h3]
    rw [List.drop_eq_nil_of_le (by omega),List.drop_eq_nil_of_le (by omega)]
   simp only [Zgp,e]
   exact ⟨⟨rfl,⟨rfl,trivial⟩,trivial⟩,trivial⟩
theorem Zmp:Contract Try.prog cfg 149 Z1A:=by
 refine Zro ?_
 intro t i _ hp
 refine ZwG _ _ _ ?_;(try simp only [vcT,forall_eq])
 (simp only [vcS]);(try simp only [vcT])
 (repeat (refine And.intro (by first | omega | (unfold InR;omega) | (dsimp only;omega)) ?_))
 refine ⟨fun hc=> ?_,fun hc=> ⟨by omega,?_⟩⟩
 ·have e:Jx t i=0:=by
   unfold Jx
   split
   ·try rfl
   ·rw [List.getD,List.getElem?_eq_none (by omega)]
    try rfl
  simp only [ZeN,e]
  exact ⟨⟨rfl,⟨⟨rfl,rfl⟩,trivial⟩,trivial⟩,trivial⟩
 ·have e:Jx t i=t.words.getD i.toNat 0:=by
   unfold Jx
   rw [if_neg (by omega)]
  simp only [ZeN,e]
  exact ⟨⟨rfl,⟨⟨rfl,rfl⟩,trivial⟩,trivial⟩,trivial⟩
theorem c91:Contract Try.prog cfg 91 Z3L:=by
 refine Zu6 ?_
 intro t i _ hp
 refine ZxN _ _ _ ?_;(try simp only [vcT,forall_eq])
 (simp only [vcS]);(try simp only [vcT])
 (repeat (refine And.intro (by first | omega | (unfold InR;omega) | (dsimp only;omega)) ?_))
 refine ⟨fun hc=> ?_,fun hc=> ⟨by omega,?_⟩⟩
 ·have e:JM t i=Tree.nil:=by
   unfold JM
   split
   ·try rfl
   ·rw [List.getD,List.getElem?_eq_none (by omega)]
    try rfl
  simp only [ZjB,e]
  exact ⟨⟨rfl,⟨⟨rfl,rfl⟩,⟨rfl,⟨rfl,trivial⟩⟩⟩,trivial⟩,trivial⟩
 ·have e:JM t i=t.kids.getD i.toNat Tree.nil:=by
   unfold JM
   rw [if_neg (by omega)]
  simp only [ZjB,e]
  exact ⟨⟨rfl,⟨⟨rfl,rfl⟩,⟨rfl,trivial⟩,⟨rfl,trivial⟩,trivial⟩,trivial⟩,trivial⟩
theorem Zve:Contract Try.prog cfg 148 Z7a:=by
 refine Zrp ?_
 intro a b _ hp
 simp only [ZbN] at hp
 refine ZwH _ _ _ ?_;(try simp only [vcT,forall_eq])
 (simp only [vcS]);(try simp only [vcT])
 refine ⟨fun hc=> ?_,fun hc=> ?_⟩
 ·have e:decide (a=b)=false:=by
   simp only [decide_eq_false_iff_not]
   rintro rfl
   omega
  simp only [ZbB,e]
  exact ⟨⟨rfl,⟨rfl,trivial⟩,trivial⟩,trivial⟩
 ·have hl:a.length=b.length:=by omega
  refine Zb (ι:=Int) (fun p=> Z5R a b p) (fun p=> 0≤p∧p≤a.length∧(a=b↔a.drop p.toNat=b.drop p.toNat)) (fun p=> ((a.length:Int) - p).toNat) 0 rfl ⟨by omega,by omega,by simp⟩ ?_
  rintro i ⟨h1,h2,h3⟩
  refine ZmS _ _ _ _ _ ?_;(try simp only [vcT,forall_eq])
  (simp only [vcS]);(try simp only [vcT])
  refine ⟨fun hc=> ⟨by omega,by omega,fun hn=> ?_,fun he=> ⟨by unfold InR;omega,i+1,rfl,⟨by omega,by omega,?_⟩,by omega⟩⟩,fun hc=> ?_⟩
  ·have e:decide (a=b)=false:=by
    simp only [decide_eq_false_iff_not,h3]
    rw [ZaG h1 hc (by omega)]
    exact fun h=> hn h.1
   simp only [ZbB,e]
   exact ⟨⟨rfl,⟨rfl,trivial⟩,trivial⟩,trivial⟩
  ·rw [h3,ZaG h1 hc (by omega)]
   exact ⟨fun h=> h.2,fun h=> ⟨by simpa using he,h⟩⟩
  ·have e:decide (a=b)=true:=by
    simp only [decide_eq_true_eq,h3]
    rw [List.drop_eq_nil_of_le (by omega),List.drop_eq_nil_of_le (by omega)]
   simp only [ZbB,e]
   exact ⟨⟨rfl,⟨rfl,trivial⟩,trivial⟩,trivial⟩
theorem Zhk{a b:List Tree}{i:Int}(hi:0≤i)(ha:i < a.length)(hb:i < b.length):(a.drop i.toNat=b.drop i.toNat)↔(a.getD i.toNat Tree.nil=b.getD i.toNat Tree.nil∧a.drop (i+1).toNat=b.drop (i+1).toNat):=by
 have e:(i+1).toNat=i.toNat+1:=by omega
 rw [List.drop_eq_getElem_cons (by omega),List.drop_eq_getElem_cons (l:=b) (by omega),e]
 simp only [List.cons.injEq,List.getD,List.getElem?_eq_getElem (show i.toNat < a.length by omega),List.getElem?_eq_getElem (show i.toNat < b.length by omega),Option.getD_some]
theorem Z0d{a b:Tree}:YT a b=true↔a=b:=by simp [YT]
theorem Jb{a b:Tree}:YT a b=false↔¬a=b:=by simp [YT]
theorem ZD:∀ (ks:List Tree),ks.length≤Za ks
 | []=> by simp [Za]
 | t ::r=> by
  have:=ZD r
  have:1≤Zk t:=by cases t;simp only [Zk];omega
  simp only [Za,List.length_cons]
  omega
theorem c29:Contract Try.prog cfg 29 Zbi:=by
 refine Zuw c75 ?_
 rintro N ⟨k,ws,ks⟩ ⟨k',ws',ks'⟩ _ hp hN
 have hlen:=ZD ks
 simp only [ZbK,ZlU,Zk] at hp hN
 refine Zyi N _ _ _ ?_;(try simp only [vcT,forall_eq])
 (simp only [vcS]);(try simp only [vcT])
 try (simp only [Tree.eta,Edit.eta,Tree.kind_mk,Tree.words_mk,Tree.kids_mk])
 have p69:ZdK (ws,ws',()):=by simp only [ZdK];omega
 refine ⟨fun _=> p69,fun hc=> ?_,fun hc=> ?_⟩
 ·have e:YT (.mk k ws ks) (.mk k' ws' ks')=false:=by
   rw [Jb]
   intro h
   cases h
   simp at hc
  simp only [ZdD,e]
  exact ⟨⟨rfl,⟨rfl,trivial⟩,trivial⟩,trivial⟩
 ·have hc':(k=k'∧ws=ws')∧ks.length=ks'.length:=⟨hc.1,by have:=hc.2;omega⟩
  obtain ⟨⟨rfl,rfl⟩,hl⟩:=hc'
  refine Zb (ι:=Int) (fun p=> Z8m (.mk k ws ks) (.mk k ws ks') p) (fun p=> 0≤p∧p≤ks.length∧(Tree.mk k ws ks= .mk k ws ks'↔ks.drop p.toNat=ks'.drop p.toNat)) (fun p=> ((ks.length:Int) - p).toNat) 0 rfl ⟨by omega,by omega,by simp⟩ ?_
  rintro i ⟨h1,h2,h3⟩
  refine ZqP N _ _ _ _ _ ?_;(try simp only [vcT,forall_eq])
  (simp only [vcS]);(try simp only [vcT])
  try (simp only [Tree.eta,Edit.eta,Tree.kind_mk,Tree.words_mk,Tree.kids_mk])
  refine ⟨fun hc=> ⟨by omega,by omega,?_,?_,fun hn=> ?_,fun he=> ⟨by unfold InR;omega,i+1,rfl,⟨by omega,by omega,?_⟩,by omega⟩⟩,fun hc=> ?_⟩
  ·have:=Z0o (ks:=ks) (i:=i.toNat) (by omega)
   simp only [ZbK]
   omega
  ·have:=Z0o (ks:=ks) (i:=i.toNat) (by omega)
   simp only [ZlU]
   omega
  ·have e:YT (.mk k ws ks) (.mk k ws ks')=false:=by
    rw [Jb,h3,Zhk h1 hc (by omega)]
    rw [Jb] at hn
    exact fun h=> hn h.1
   simp only [ZdD,e]
   exact ⟨⟨rfl,⟨rfl,trivial⟩,trivial⟩,trivial⟩
  ·rw [h3,Zhk h1 hc (by omega)]
   exact ⟨fun h=> h.2,fun h=> ⟨Z0d.1 he,h⟩⟩
  ·have e:YT (.mk k ws ks) (.mk k ws ks')=true:=by
    rw [Z0d,h3]
    rw [List.drop_eq_nil_of_le (by omega),List.drop_eq_nil_of_le (by omega)]
   simp only [ZdD,e]
   exact ⟨⟨rfl,⟨rfl,trivial⟩,trivial⟩,trivial⟩
theorem Z8F:∀ (l:List Int),trim (l++[0])=trim l
 | []=> rfl
 | x ::r=> by
  show (match trim (r++[0]) with | []=> if x=0 then [] else [x] | y ::s=> x ::y ::s)=_
  rw [Z8F r]
  try rfl
theorem Zep{x:Int}(hx:x≠0):∀ (l:List Int),trim (l++[x])=l++[x]
 | []=> by simp [trim,hx]
 | y ::r=> by
  show (match trim (r++[x]) with | []=> if y=0 then [] else [y] | z ::s=> y ::z ::s)=_
  rw [Zep hx r]
  cases r <;> rfl
theorem Z8H{l:List Int}{i:Int}(h0:0 < i)(hi:i≤l.length):l.take i.toNat=l.take (i - 1).toNat++[l.getD (i - 1).toNat 0]:=by
 have e:i.toNat=(i - 1).toNat+1:=by omega
 rw [e,List.take_add_one]
 simp only [List.getD,List.getElem?_eq_getElem (show (i - 1).toNat < l.length by omega),Option.toList,Option.getD_some]
theorem c84:Contract Try.prog cfg 84 Zb5:=by
 refine Zua ?_
 intro l _ hp
 simp only [Zgu] at hp
 refine ZxS _ _ ?_;(try simp only [vcT,forall_eq])
 refine Zb (ι:=Int) (fun p=> Z87 l p) (fun p=> 0≤p∧p≤l.length∧trim (l.take p.toNat)=trim l) (fun p=> p.toNat) (l.length:Int) rfl ⟨by omega,by omega,by simp⟩ ?_
 rintro i ⟨h1,h2,h3⟩
 refine Zqs _ _ _ _ ?_;(try simp only [vcT,forall_eq])
 (simp only [vcS]);(try simp only [vcT])
 refine ⟨fun h=> by unfold InR;omega,fun h=> by omega,fun hc=> ⟨by unfold InR;omega,i - 1,rfl,⟨by omega,by omega,?_⟩,by omega⟩,fun hc=> ⟨by omega,?_,?_⟩⟩
 ·rw [Z8H hc.1 h2,hc.2,Z8F] at h3
  exact h3
 ·simp only [List.length_nil,List.length_take]
  omega
 ·have e:trim l=[]++l.take i.toNat:=by
   rw [←h3]
   by_cases h0:0 < i
   ·rw [Z8H h0 h2,Zep (by rcases hc with h | h;exact absurd h0 h;exact h)]
    try rfl
   ·have:i.toNat=0:=by omega
    rw [this]
    try rfl
  simp only [Znz,e]
  exact ⟨⟨rfl,⟨⟨rfl,trivial⟩,trivial⟩,trivial⟩,trivial⟩
theorem ZfV:∀ (l:List Int),(trim l).length≤l.length
 | []=> by simp [trim]
 | x ::r=> by
  have:=ZfV r
  simp only [trim]
  split
  ·split <;> simp
  ·rename_i h
   rw [h] at this
   simp at*
   omega
theorem ZaX:∀ (l:List Tree),Za (Y4 l)≤Za l
 | []=> by simp [Y4]
 | x ::r=> by
  have:=ZaX r
  simp only [Y4]
  split
  ·split
   ·simp [Za]
   ·simp [Za]
  ·rename_i h
   rw [h] at this
   simp only [Za] at*
   omega
mutual
theorem Yi:∀ (t:Tree),Zk (Z3 t)≤Zk t
 | .mk k w ks=> by
  have h1:=Zc1 ks
  have h2:=ZfV w
  have h3:=ZaX (Y1 ks)
  simp only [Z3]
  split
  ·simp only [Tree.nil,Zk,Za,List.length_nil];omega
  ·split
   ·simp only [Zk];omega
   ·simp only [Zk];omega
theorem Zc1:∀ (ks:List Tree),Za (Y1 ks)≤Za ks
 | []=> by simp [Y1]
 | t ::r=> by
  have h1:=Yi t
  have h2:=Zc1 r
  simp only [Y1,Za]
  omega
end
theorem Z99:∀ (l:List Tree) (x:Tree),Y1 (l++[x])=Y1 l++[Z3 x]
 | [],x=> rfl
 | y ::r,x=> by simp only [List.cons_append,Y1,Z99 r x]
theorem Z12:∀ (l:List Tree),(Y1 l).length=l.length
 | []=> rfl
 | y ::r=> by simp only [Y1,List.length_cons,Z12 r]
theorem Z6p{x:Tree}(hx:x.kind=0):∀ (l:List Tree),Y4 (l++[x])=Y4 l
 | []=> by simp [Y4,hx]
 | y ::r=> by
  show (match Y4 (r++[x]) with | []=> if y.kind=0 then [] else [y] | z ::s=> y ::z ::s)=_
  rw [Z6p hx r]
  try rfl
theorem ZaW{x:Tree}(hx:x.kind≠0):∀ (l:List Tree),Y4 (l++[x])=l++[x]
 | []=> by simp [Y4,hx]
 | y ::r=> by
  show (match Y4 (r++[x]) with | []=> if y.kind=0 then [] else [y] | z ::s=> y ::z ::s)=_
  rw [ZaW hx r]
  cases r <;> rfl
theorem Z6q{l:List Tree}{i:Int}(h0:0≤i)(hi:i < l.length):l.take (i+1).toNat=l.take i.toNat++[l.getD i.toNat Tree.nil]:=by
 have e:(i+1).toNat=i.toNat+1:=by omega
 rw [e,List.take_add_one]
 simp only [List.getD,List.getElem?_eq_getElem (show i.toNat < l.length by omega),Option.toList,Option.getD_some]
theorem c45:Contract Try.prog cfg 45 Zbg:=by
 refine Zut c84 ?_
 rintro N ⟨k,ws,ks⟩ _ hp hN
 have hlen:=ZD ks
 simp only [ZbJ,ZlT,Zk] at hp hN
 refine Zyf N _ _ ?_;(try simp only [vcT,forall_eq])
 (simp only [vcS]);(try simp only [vcT])
 try (simp only [Tree.eta,Edit.eta,Tree.kind_mk,Tree.words_mk,Tree.kids_mk])
 refine ⟨fun hc=> ?_,fun hc0=> ?_⟩
 ·have e:Z3 (.mk k ws ks)=Tree.nil:=by simp [Z3,hc]
  simp only [ZdC,e]
  exact ⟨⟨rfl,⟨⟨rfl,rfl⟩,⟨rfl,⟨rfl,trivial⟩⟩⟩,trivial⟩,trivial⟩
 ·refine Zb (ι:=Int × Int × List Tree) (fun p=> Z56 (.mk k ws ks) p.1 p.2.1 p.2.2) (fun p=> 0≤p.2.1∧p.2.1≤ks.length∧0≤p.1∧p.1≤p.2.1∧p.2.2=Y1 (ks.take p.2.1.toNat)∧Y4 (Y1 (ks.take p.2.1.toNat))=p.2.2.take p.1.toNat) (fun p=> ((ks.length:Int) - p.2.1).toNat) (0,0,[]) rfl ⟨by dsimp only;omega,by dsimp only;omega,by dsimp only;omega,by dsimp only;omega,rfl,rfl⟩ ?_
  rintro ⟨last,i,l⟩ ⟨h1,h2,h3,h4,h5,h6⟩
  dsimp only at*
  have hl:l.length=i.toNat:=by rw [h5,Z12,List.length_take];omega
  refine ZqN N _ _ _ _ _ _ ?_;(try simp only [vcT,forall_eq])
  (simp only [vcS]);(try simp only [vcT])
  try (simp only [Tree.eta,Edit.eta,Tree.kind_mk,Tree.words_mk,Tree.kids_mk])
  refine ⟨fun hc=> ?_,fun hc=> ⟨fun h1=> ⟨?_,by omega,?_⟩,fun hk=> ⟨?_,?_⟩⟩⟩
  ·have hm:=Z0o (ks:=ks) (i:=i.toNat) (by omega)
   have hnx:Y1 (ks.take (i+1).toNat)=l++[Z3 (ks.getD i.toNat Tree.nil)]:=by rw [Z6q h1 hc,Z99,h5]
   refine ⟨by omega,by simp only [ZbJ];omega,by simp only [ZlT];omega,by simp only [List.length_cons,List.length_nil];omega,fun hk=> ⟨by unfold InR;omega,by unfold InR;omega,(i+1,i+1,_),rfl,⟨by dsimp only;omega,by dsimp only;omega,by dsimp only;omega,by dsimp only;omega,hnx.symm,?_⟩,by dsimp only;omega⟩,fun hk=> ⟨by unfold InR;omega,(last,i+1,_),rfl,⟨by dsimp only;omega,by dsimp only;omega,by dsimp only;omega,by dsimp only;omega,hnx.symm,?_⟩,by dsimp only;omega⟩⟩
   ·dsimp only
    rw [hnx,ZaW hk,List.take_of_length_le (by simp;omega)]
   ·dsimp only
    rw [hnx,Z6p hk,List.take_append_of_le_length (by omega),←h6,h5]
  ·simp only [Zgu];omega
  ·have hi:ks.take i.toNat=ks:=List.take_of_length_le (by omega)
   rw [hi] at h5 h6
   have e:Z3 (.mk k ws ks)= .mk 1 (trim ws) (l.take last.toNat):=by
    subst h1
    simp only [Z3,←h6]
    try rfl
   simp only [ZdC,e]
   exact ⟨⟨rfl,⟨⟨rfl,rfl⟩,⟨rfl,trivial⟩,⟨rfl,trivial⟩,trivial⟩,trivial⟩,trivial⟩
  ·simp only [List.length_nil];omega
  ·have hi:ks.take i.toNat=ks:=List.take_of_length_le (by omega)
   rw [hi] at h5
   have e:Z3 (.mk k ws ks)= .mk k ([]++ws) l:=by
    simp only [Z3,if_neg hc0,if_neg hk,h5]
    try rfl
   simp only [ZdC,e]
   exact ⟨⟨rfl,⟨⟨rfl,rfl⟩,⟨rfl,trivial⟩,⟨rfl,trivial⟩,trivial⟩,trivial⟩,trivial⟩
theorem Zkj{l:List Int}(h0:0 < (l.length:Int)):l=l.take ((l.length:Int) - 1).toNat++[l.getD ((l.length:Int) - 1).toNat 0]:=by
 have:=Z8H h0 (Int.le_refl _)
 rw [List.take_of_length_le (by omega)] at this
 exact this
theorem Zh8{l:List Tree}(h0:0 < (l.length:Int)):l=l.take ((l.length:Int) - 1).toNat++[l.getD ((l.length:Int) - 1).toNat Tree.nil]:=by
 have:=Z6q (l:=l) (i:=(l.length:Int) - 1) (by omega) (by omega)
 rw [List.take_of_length_le (by omega)] at this
 exact this
theorem Zlh{l:List Int}(h0:0 < (l.length:Int))(hz:l.getD ((l.length:Int) - 1).toNat 0=0):trim (l.take ((l.length:Int) - 1).toNat)=trim l:=by
 have e:=Z8F (l.take ((l.length:Int) - 1).toNat)
 have h:=Zkj h0
 rw [hz] at h
 rw [←h] at e
 exact e.symm
theorem Zlj{l:List Int}(h:¬0 < (l.length:Int)∨¬l.getD ((l.length:Int) - 1).toNat 0=0):trim l=l:=by
 by_cases h0:0 < (l.length:Int)
 ·have e:=Zep (x:=l.getD ((l.length:Int) - 1).toNat 0) (by rcases h with h | h;exact absurd h0 h;exact h) (l.take ((l.length:Int) - 1).toNat)
  rw [←Zkj h0] at e
  exact e
 ·have:l=[]:=List.eq_nil_of_length_eq_zero (by omega)
  subst this
  try rfl
theorem ZhF{l:List Tree}(h0:0 < (l.length:Int))(hz:(l.getD ((l.length:Int) - 1).toNat Tree.nil).kind=0):Y4 (l.take ((l.length:Int) - 1).toNat)=Y4 l:=by
 have e:=Z6p hz (l.take ((l.length:Int) - 1).toNat)
 rw [←Zh8 h0] at e
 exact e.symm
theorem ZhH{l:List Tree}(h:¬0 < (l.length:Int)∨¬(l.getD ((l.length:Int) - 1).toNat Tree.nil).kind=0):Y4 l=l:=by
 by_cases h0:0 < (l.length:Int)
 ·have e:=ZaW (x:=l.getD ((l.length:Int) - 1).toNat Tree.nil) (by rcases h with h | h;exact absurd h0 h;exact h) (l.take ((l.length:Int) - 1).toNat)
  rw [←Zh8 h0] at e
  exact e
 ·have:l=[]:=List.eq_nil_of_length_eq_zero (by omega)
  subst this
  try rfl
theorem c71:Contract Try.prog cfg 71 Z0c:=by
 refine Zuf Zvl ?_
 rintro N ⟨k,ws,ks⟩ _ hp hN
 have hlen:=ZD ks
 simp only [Z0Q,ZlR,Zk] at hp hN
 refine ZxX N _ _ ?_;(try simp only [vcT,forall_eq])
 (simp only [vcS]);(try simp only [vcT])
 try (simp only [Tree.eta,Edit.eta,Tree.kind_mk,Tree.words_mk,Tree.kids_mk])
 refine ⟨fun hc=> ?_,fun hc0=> ⟨by simp only [ZbO];omega,?_⟩⟩
 ·have e:Z3 (.mk k ws ks)=Tree.nil:=by simp [Z3,hc]
  simp only [ZdB,e]
  exact ⟨⟨rfl,⟨⟨rfl,rfl⟩,⟨rfl,⟨rfl,trivial⟩⟩⟩,trivial⟩,trivial⟩
 ·refine Zb (ι:=Int × List Tree) (fun p=> Z8c (.mk k ws ks) p.1 p.2) (fun p=> 0≤p.1∧p.1≤ks.length∧p.2=Y1 (ks.take p.1.toNat)) (fun p=> ((ks.length:Int) - p.1).toNat) (0,[]) rfl ⟨by dsimp only;omega,by dsimp only;omega,rfl⟩ ?_
  rintro ⟨i,l⟩ ⟨h1,h2,h5⟩
  dsimp only at*
  have hl:l.length=i.toNat:=by rw [h5,Z12,List.length_take];omega
  refine Zqy N _ _ _ _ _ ?_;(try simp only [vcT,forall_eq])
  (simp only [vcS]);(try simp only [vcT])
  try (simp only [Tree.eta,Edit.eta,Tree.kind_mk,Tree.words_mk,Tree.kids_mk])
  refine ⟨fun hc=> ?_,fun hc=> ⟨fun hk=> ?_,fun hk=> ?_⟩⟩
  ·have hm:=Z0o (ks:=ks) (i:=i.toNat) (by omega)
   have hnx:Y1 (ks.take (i+1).toNat)=l++[Z3 (ks.getD i.toNat Tree.nil)]:=by rw [Z6q h1 hc,Z99,h5]
   exact ⟨by omega,by simp only [Z0Q];omega,by simp only [ZlR];omega,by simp only [List.length_cons,List.length_nil];omega,by unfold InR;omega,(i+1,_),rfl,⟨by dsimp only;omega,by dsimp only;omega,hnx.symm⟩,by dsimp only;omega⟩
  ·have hi:ks.take i.toNat=ks:=List.take_of_length_le (by omega)
   rw [hi] at h5
   refine Zb (ι:=List Int) (fun p=> Z8b (.mk k ws ks) l p) (fun p=> p.length≤ws.length∧trim p=trim ws) (fun p=> p.length) ws rfl ⟨by omega,rfl⟩ ?_
   rintro w ⟨h6,h7⟩
   refine Zqx N _ _ _ _ _ ?_;(try simp only [vcT,forall_eq])
   (simp only [vcS]);(try simp only [vcT])
   refine ⟨fun h=> by unfold InR;omega,fun h=> by omega,fun hc=> ⟨by unfold InR;omega,by omega,_,rfl,⟨by rw [List.length_take];omega,?_⟩,by rw [List.length_take];omega⟩,fun hc=> ?_⟩
   ·rw [Zlh hc.1 hc.2,h7]
   ·have hw:w=trim ws:=by rw [←h7,Zlj hc]
    refine Zb (ι:=List Tree) (fun p=> Z8a (.mk k ws ks) w p) (fun p=> p.length≤l.length∧Y4 p=Y4 l) (fun p=> p.length) l rfl ⟨by omega,rfl⟩ ?_
    rintro q ⟨h8,h9⟩
    refine Zqw N _ _ _ _ _ ?_;(try simp only [vcT,forall_eq])
    (simp only [vcS]);(try simp only [vcT])
    refine ⟨fun h=> by unfold InR;omega,fun h=> by omega,fun hc=> ⟨by unfold InR;omega,by omega,_,rfl,⟨by rw [List.length_take];omega,?_⟩,by rw [List.length_take];omega⟩,fun hc=> ?_⟩
    ·rw [ZhF hc.1 hc.2,h9]
    ·have hq:q=Y4 (Y1 ks):=by rw [←h5,←h9,ZhH hc]
     have e:Z3 (.mk k ws ks)= .mk k w q:=by
      subst hk
      simp only [Z3,hw,hq]
      try rfl
     simp only [ZdB,e]
     exact ⟨⟨rfl,⟨⟨rfl,rfl⟩,⟨rfl,trivial⟩,⟨rfl,trivial⟩,trivial⟩,trivial⟩,trivial⟩
  ·have hi:ks.take i.toNat=ks:=List.take_of_length_le (by omega)
   rw [hi] at h5
   have e:Z3 (.mk k ws ks)= .mk k ws l:=by simp only [Z3,if_neg hc0,if_neg hk,h5]
   simp only [ZdB,e]
   exact ⟨⟨rfl,⟨⟨rfl,rfl⟩,⟨rfl,trivial⟩,⟨rfl,trivial⟩,trivial⟩,trivial⟩,trivial⟩
end Go.AM.Ytpjenobkibfpcaa
namespace Go.AM.Ytpjenobkibfpcaa
open Go.AM Go.Proofs
noncomputable section
abbrev Zt(p:Prop):Prop:=p→p
noncomputable section
def ZkW:ArgL (Int × Unit):=(.cons (Z04 .i64) .nil)
def ZeW(a:Int × Unit):Prop:=True
def ZnQ(a:Int × Unit):V U:= .c (ci (wd a.1))
def Z7e:Fs U:=fs ZkW (fun a=> [ZeW a]) ZnQ
def ZpI:ArgL (Int × Int × Unit):=(.cons (Z04 .i64) (.cons (Z04 .u64) .nil))
def Zgv(a:Int × Int × Unit):Prop:=0≤a.2.1∧a.2.1 < 18446744073709551616
def ZsZ(a:Int × Int × Unit):V U:= .c (.bool (Zhh a.1 a.2.1))
def Zb6:Fs U:=fs ZpI (fun a=> [Zgv a]) ZsZ
def mu117(a:Tree × Int × Unit):Nat:=Zk a.1
def Zj3:ArgL (Tree × Int × Unit):=(.cons (aEl .tree) (.cons (Z04 .i64) .nil))
def Z4k(a:Tree × Int × Unit):Prop:=Zk a.1≤20000000000∧rng a.1∧0≤a.2.1∧a.2.1≤1000
def ZgQ(a:Tree × Int × Unit):Nat:=Zk a.1
def ZnG(a:Tree × Int × Unit):V U:= .c (.bool (Ze a.1 a.2.1))
def Z3Q:Fs U:=fs Zj3 (fun a=> [Z4k a]) ZnG
def Zfh:List (FuncId × Fs U):=[]
def Zkc:Zg U:=lvl [([0],[]),([3],[]),([3,4],[]),([2],[]),([3,6],[]),([2],[]),([3,8],[]),([2],[]),([3,10],[]),([2],[]),([3,12],[]),([2],[]),([14],[]),([2],[]),([2],[])]
theorem ZwU(c:Int)(Q:QT)(h:((c==0)=true→Q .ret (L2 [(2,.c (ci 0))] []))∧((c==0)=false→((c==1)=true→Q .ret (L2 [(2,.c (ci 1))] []))∧((c==1)=false→((c==2)=true→Q .ret (L2 [(2,.c (ci 8))] []))∧((c==2)=false→((c==3)=true→Q .ret (L2 [(2,.c (ci 16))] []))∧((c==3)=false→((c==4)=true→Q .ret (L2 [(2,.c (ci 32))] []))∧((c==4)=false→((c==5)=true→Q .ret (L2 [(2,.c (ci 64))] []))∧((c==5)=false→Q .ret (L2 [(2,.c (ci (-1)))] [])))))))):
  AW (Z2 Zfh) Try.f116 Zkc [] (L2 [(0,.c (ci c))] []) Q:=by
 have e:(AW (Z2 Zfh) Try.f116 Zkc [] (L2 [(0,.c (ci c))] []) Q)=((((c:Int)==0)=true→(Q .ret (L2 [(2,.c (ci 0))] [])))∧(((c:Int)==0)=false→((((c:Int)==1)=true→(Q .ret (L2 [(2,.c (ci 1))] [])))∧(((c:Int)==1)=false→((((c:Int)==2)=true→(Q .ret (L2 [(2,.c (ci 8))] [])))∧(((c:Int)==2)=false→((((c:Int)==3)=true→(Q .ret (L2 [(2,.c (ci 16))] [])))∧(((c:Int)==3)=false→((((c:Int)==4)=true→(Q .ret (L2 [(2,.c (ci 32))] [])))∧(((c:Int)==4)=false→((((c:Int)==5)=true→(Q .ret (L2 [(2,.c (ci 64))] [])))∧(((c:Int)==5)=false→(Q .ret (L2 [(2,.c (ci (-1)))] [])))))))))))))):=by kernel_rfl
 exact e.mpr ⟨fun c_1=> (h.1 c_1),fun c_1=> ⟨fun c_2=> ((h.2 c_1).1 c_2),fun c_2=> ⟨fun c_3=> (((h.2 c_1).2 c_2).1 c_3),fun c_3=> ⟨fun c_4=> ((((h.2 c_1).2 c_2).2 c_3).1 c_4),fun c_4=> ⟨fun c_5=> (((((h.2 c_1).2 c_2).2 c_3).2 c_4).1 c_5),fun c_5=> ⟨fun c_6=> ((((((h.2 c_1).2 c_2).2 c_3).2 c_4).2 c_5).1 c_6),fun c_6=> ((((((h.2 c_1).2 c_2).2 c_3).2 c_4).2 c_5).2 c_6)⟩⟩⟩⟩⟩⟩
def ZsL(c:Int):Prop:=AW (Z2 Zfh) Try.f116 Zkc [] (Zo (ZkW.can (c,())) []) (EQ Try.f116 (ZnQ (c,())) [])
theorem Zrx(hb:∀ (c:Int) (_:Unit),ZeW (c,())→ZsL c):CT 116 Z7e:=
 Z8 (l:=[]) Zr rfl trivial Zkc Try.func116 rfl rfl 1 (fun _=> rfl) (by decide) (fun ⟨c,_⟩=> hb c ())
def Z13:List (FuncId × Fs U):=[(116,Z7e)]
def Zaq:Zg U:=lvl [([0,1],[]),([1,5],[]),([1,5,10],[]),([4],[]),([1,5,6],[]),([1,5,6,13],[]),([1,5,6],[]),([1,5,6],[]),([4],[])]
def Z2r(c n x1 x6:Int):LSt U:=(L2 [(1,.c (.int .u64 x1)),(5,.c (ci (wd c))),(6,.c (ci x6))] [])
abbrev ZmA:=awp cfg (Z2 Z13) (Y0 cfg (Z2 Z13)) Try.f79.ntmps Zaq
abbrev Zlr:=ZeA cfg (Z2 Z13) (Y0 cfg (Z2 Z13)) Try.f79.ntmps Zaq
theorem ZxU(c n:Int)(Q:QT)(h:(ZeW (c,()))∧(((decide (((wd c):Int) < 0))=true→Q .ret (L2 [(4,.c (.bool false))] []))∧((decide (((wd c):Int) < 0))=false→Zj (AW (Z2 Z13) Try.f79 Zaq [1,1,1,0,1,0,0]) (Z2r c n n 0) (xB 0 (SW (Z2 Z13) Try.f79 Zaq [1,1,1,1] Q))))):
  AW (Z2 Z13) Try.f79 Zaq [] (L2 [(0,.c (ci c)),(1,.c (.int .u64 n))] []) Q:=by
 have e:(AW (Z2 Z13) Try.f79 Zaq [] (L2 [(0,.c (ci c)),(1,.c (.int .u64 n))] []) Q)=((ZeW (c,()))∧(((decide (((wd c):Int) < 0))=true→(Q .ret (L2 [(4,.c (.bool false))] [])))∧((decide (((wd c):Int) < 0))=false→(Zj (ZmA (cd Try.f79 [1,1,1,0,1,0,0])) (Z2r c n n 0) (xB 0 (Zlr (cd Try.f79 [1,1,1,1]) Q)))))):=by kernel_rfl
 exact e.mpr ⟨h.1,⟨fun c_7=> (h.2.1 c_7),fun c_7=> (h.2.2 c_7)⟩⟩
theorem Zqt(c n x1 x6:Int)(N0:NT)(Q:QT)(h:((decide (x6 < (wd c)))=true→((2:Int)≠0)∧((InR (x6+1))∧(N0 (Z2r c n (IntKind.wrap .u64 (Int.tdiv x1 2)) (x6+1)))))∧((decide (x6 < (wd c)))=false→Q .ret (L2 [(4,.c (.bool (x1==0)))] []))):
  AW (Z2 Z13) Try.f79 Zaq [1,1,1,0,1,0,0] (Z2r c n x1 x6) (xT N0 (xB 0 (SW (Z2 Z13) Try.f79 Zaq [1,1,1,1] Q))):=by
 have e:(AW (Z2 Z13) Try.f79 Zaq [1,1,1,0,1,0,0] (Z2r c n x1 x6) (xT N0 (xB 0 (SW (Z2 Z13) Try.f79 Zaq [1,1,1,1] Q))))=(((decide ((x6:Int) < (wd c)))=true→((2:Int)≠0)∧((InR ((x6:Int)+1))∧(N0 (Z2r c n (IntKind.wrap .u64 (Int.tdiv x1 2)) ((x6:Int)+1)))))∧((decide ((x6:Int) < (wd c)))=false→(Q .ret (L2 [(4,.c (.bool ((x1:Int)==0)))] [])))):=by kernel_rfl
 exact e.mpr ⟨fun c_8=> ⟨(h.1 c_8).1,⟨(h.1 c_8).2.1,(h.1 c_8).2.2⟩⟩,fun c_8=> (h.2 c_8)⟩
def ZvQ(c n:Int):Prop:=AW (Z2 Z13) Try.f79 Zaq [] (Zo (ZpI.can (c,n,())) []) (EQ Try.f79 (ZsZ (c,n,())) [])
theorem Zuc(Zvk:CT 116 Z7e)(hb:∀ (c:Int) (n:Int) (_:Unit),Zgv (c,n,())→ZvQ c n):CT 79 Zb6:=
 Z8 (l:=[(116,Z7e)]) Zr rfl (⟨Zvk,trivial⟩) Zaq Try.func79 rfl rfl 2 (fun _=> rfl) (by decide) (fun ⟨c,n,_⟩=> hb c n ())
def Z14(N:Nat):List (FuncId × Fs U):=(37,fs Zj3 (fun a=> [Z4k a,ZgQ a < N]) ZnG) ::[(79,Zb6)]
def Zar:Zg U:=lvl [([1,2],[2]),([1,2,10],[2]),([4],[]),([1,2,23],[2]),([4],[]),([1,2,68],[2]),([4],[]),([1,2,77],[2]),([4],[]),([1,2,5],[2]),([1,2,5,82],[2]),([1,2,5],[2]),([1,2,5,6],[2,6]),([1,2,5,6,94],[2,6]),([4],[]),([1,2,5,6,7],[2,6]),([1,2,5,131],[2]),([4],[]),([4],[])]
def Z2t(t:Tree)(d x5:Int):LSt U:=(L2 [(1,.c (ci d)),(2,.ptr (.loc 2) 0),(5,.c (ci x5))] [(.loc 2,(enc .tree t))])
abbrev ZmC(N:Nat):=awp cfg (Z2 (Z14 N)) (Y0 cfg (Z2 (Z14 N))) Try.f37.ntmps Zar
abbrev Zlt(N:Nat):=ZeA cfg (Z2 (Z14 N)) (Y0 cfg (Z2 (Z14 N))) Try.f37.ntmps Zar
theorem Zyg(N:Nat)(t:Tree)(d:Int)(Q:QT)(h:((t.kind==0)=true→Q .ret (L2 [(4,.c (.bool (bif (((t.words.length:Int):Int)==0) then (((t.kids.length:Int):Int)==0) else false)))] []))∧((t.kind==0)=false→((t.kind==10)=true→Q .ret (L2 [(4,.c (.bool (bif (((t.words.length:Int):Int)==1) then (((t.kids.length:Int):Int)==0) else false)))] []))∧((t.kind==10)=false→((bif (bif (bif (bif (bif (decide (t.kind < 0)) then true else (decide ((10:Int) < t.kind))) then true else (d==0)) then true else (decide ((65536:Int)≤(t.words.length:Int)))) then true else (bif (t.kind==1) then (decide ((65536:Int)≤(t.kids.length:Int))) else false)) then true else (decide ((1048576:Int)≤(t.kids.length:Int))))=true→Q .ret (L2 [(4,.c (.bool false))] []))∧((bif (bif (bif (bif (bif (decide (t.kind < 0)) then true else (decide ((10:Int) < t.kind))) then true else (d==0)) then true else (decide ((65536:Int)≤(t.words.length:Int)))) then true else (bif (t.kind==1) then (decide ((65536:Int)≤(t.kids.length:Int))) else false)) then true else (decide ((1048576:Int)≤(t.kids.length:Int))))=false→((bif (decide ((1:Int) < t.kind)) then (decide ((0:Int) < (t.words.length:Int))) else false)=true→Q .ret (L2 [(4,.c (.bool false))] []))∧((bif (decide ((1:Int) < t.kind)) then (decide ((0:Int) < (t.words.length:Int))) else false)=false→Zj (AW (Z2 (Z14 N)) Try.f37 Zar [1,1,1,1,1,0,1,0,0]) (Z2t t d 0) (xB 0 (SW (Z2 (Z14 N)) Try.f37 Zar [1,1,1,1,1,1] Q))))))):
  AW (Z2 (Z14 N)) Try.f37 Zar [] (L2 [(0,.agg (enc .tree t)),(1,.c (ci d))] []) Q:=by
 have e:(AW (Z2 (Z14 N)) Try.f37 Zar [] (L2 [(0,.agg (enc .tree t)),(1,.c (ci d))] []) Q)=(let zz7:=(decide ((1048576:Int)≤(t.kids.length:Int)));let zz6:=(decide (t.kind < 0));let zz5:=((t.words.length:Int)==1);let zz4:=((t.words.length:Int)==0);let zz3:=(decide ((1:Int) < t.kind));let zz2:=(bif (t.kind==1) then (decide ((65536:Int)≤(t.kids.length:Int))) else false);let zz1:=(bif zz6 then true else (decide ((10:Int) < t.kind)));let zz0:=(bif (bif zz1 then true else ((d:Int)==0)) then true else (decide ((65536:Int)≤(t.words.length:Int))));(((t.kind==0)=true→(Zt (zz4=true))∧(Zt (zz4=true))∧(Zt (zz4=true))∧(Zt (zz4=true))∧(Q .ret (L2 [(4,.c (.bool (bif zz4 then ((t.kids.length:Int)==0) else false)))] [])))∧((t.kind==0)=false→(((t.kind==10)=true→(Zt (zz5=true))∧(Zt (zz5=true))∧(Zt (zz5=true))∧(Zt (zz5=true))∧(Q .ret (L2 [(4,.c (.bool (bif zz5 then ((t.kids.length:Int)==0) else false)))] [])))∧((t.kind==10)=false→(Zt ((!zz6)=true))∧(Zt ((!zz6)=true))∧(zz6=false→(!zz6)=true)∧(Zt ((!zz1)=true))∧(zz1=false→(!zz1)=true)∧(Zt ((!(bif zz1 then true else ((d:Int)==0)))=true))∧(Zt ((!(bif zz1 then true else ((d:Int)==0)))=true))∧(Zt ((!(bif zz1 then true else ((d:Int)==0)))=true))∧((bif zz1 then true else ((d:Int)==0))=false→(!(bif zz1 then true else ((d:Int)==0)))=true)∧(Zt ((!zz0)=true))∧(Zt ((!zz0)=true))∧(Zt ((!zz0)=true))∧(Zt (((!zz0) && (t.kind==1))=true))∧(Zt (((!zz0) && (t.kind==1))=true))∧(Zt (((!zz0) && (t.kind==1))=true))∧((!zz0)=true→(True→(!zz0)=true))∧((!zz0)=true→((t.kind==1)=true→((!zz0) && (t.kind==1))=true))∧(zz0=false→(!zz0)=true)∧(Zt ((!(bif zz0 then true else zz2))=true))∧(Zt ((!(bif zz0 then true else zz2))=true))∧(Zt ((!(bif zz0 then true else zz2))=true))∧((bif zz0 then true else zz2)=false→(!(bif zz0 then true else zz2))=true)∧(((bif (bif zz0 then true else zz2) then true else zz7)=true→(Q .ret (L2 [(4,.c (.bool false))] [])))∧((bif (bif zz0 then true else zz2) then true else zz7)=false→(Zt (zz3=true))∧(Zt (zz3=true))∧(Zt (zz3=true))∧(Zt (zz3=true))∧(((bif zz3 then (decide ((0:Int) < (t.words.length:Int))) else false)=true→(Q .ret (L2 [(4,.c (.bool false))] [])))∧((bif zz3 then (decide ((0:Int) < (t.words.length:Int))) else false)=false→(Zj (ZmC N (cd Try.f37 [1,1,1,1,1,0,1,0,0])) (Z2t t d 0) (xB 0 (Zlt N (cd Try.f37 [1,1,1,1,1,1]) Q)))))))))))):=by kernel_rfl
 exact e.mpr ⟨fun c_22=> ⟨id,id,id,(by generalize (((t.words.length:Int):Int)==0)=b0;revert b0;decide),(h.1 c_22)⟩,fun c_22=> ⟨fun c_23=> ⟨id,id,id,(by generalize (((t.words.length:Int):Int)==1)=b0;revert b0;decide),((h.2 c_22).1 c_23)⟩,fun c_23=> ⟨id,id,(by generalize (decide ((t.kind:Int) < 0))=b0;revert b0;decide),id,(by generalize (decide ((10:Int) < t.kind))=b0;generalize (decide ((t.kind:Int) < 0))=b1;revert b0 b1;decide),id,id,id,(by generalize (decide ((10:Int) < t.kind))=b0;generalize (decide ((t.kind:Int) < 0))=b1;generalize ((d:Int)==0)=b2;revert b0 b1 b2;decide),id,id,id,id,id,id,(by generalize (decide ((65536:Int)≤(t.words.length:Int)))=b0;generalize (decide ((10:Int) < t.kind))=b1;generalize (decide ((t.kind:Int) < 0))=b2;generalize ((d:Int)==0)=b3;revert b0 b1 b2 b3;decide),(by generalize (decide ((65536:Int)≤(t.words.length:Int)))=b0;generalize (decide ((10:Int) < t.kind))=b1;generalize (decide ((t.kind:Int) < 0))=b2;generalize ((t.kind:Int)==1)=b3;generalize ((d:Int)==0)=b4;revert b0 b1 b2 b3 b4;decide),(by generalize (decide ((65536:Int)≤(t.words.length:Int)))=b0;generalize (decide ((10:Int) < t.kind))=b1;generalize (decide ((t.kind:Int) < 0))=b2;generalize ((d:Int)==0)=b3;revert b0 b1 b2 b3;decide),id,id,id,(by generalize (decide ((65536:Int)≤(t.words.length:Int)))=b0;generalize (decide ((65536:Int)≤(t.kids.length:Int)))=b1;generalize (decide ((10:Int) < t.kind))=b2;generalize (decide ((t.kind:Int) < 0))=b3;generalize ((t.kind:Int)==1)=b4;generalize ((d:Int)==0)=b5;revert b0 b1 b2 b3 b4 b5;decide),⟨fun c_24=> (((h.2 c_22).2 c_23).1 c_24),fun c_24=> ⟨id,id,id,(by generalize (decide ((1:Int) < t.kind))=b0;revert b0;decide),⟨fun c_25=> ((((h.2 c_22).2 c_23).2 c_24).1 c_25),fun c_25=> ((((h.2 c_22).2 c_23).2 c_24).2 c_25)⟩⟩⟩⟩⟩⟩
theorem ZqO(N:Nat)(t:Tree)(d x5:Int)(N0:NT)(Q:QT)(h:((decide (x5 < (t.kids.length:Int)))=true→((0:Int)≤x5∧x5 < (t.kids.length:Int))∧((InR (d - 1))∧(Z4k ((Tree.mk (Tree.kind (t.kids.getD x5.toNat Tree.nil)) (Tree.words (t.kids.getD x5.toNat Tree.nil)) (Tree.kids (t.kids.getD x5.toNat Tree.nil))),(d - 1),()))∧(ZgQ ((Tree.mk (Tree.kind (t.kids.getD x5.toNat Tree.nil)) (Tree.words (t.kids.getD x5.toNat Tree.nil)) (Tree.kids (t.kids.getD x5.toNat Tree.nil))),(d - 1),()) < N)∧(((!(Ze (Tree.mk (Tree.kind (t.kids.getD x5.toNat Tree.nil)) (Tree.words (t.kids.getD x5.toNat Tree.nil)) (Tree.kids (t.kids.getD x5.toNat Tree.nil))) (d - 1)))=true→Q .ret (L2 [(4,.c (.bool false))] []))∧((!(Ze (Tree.mk (Tree.kind (t.kids.getD x5.toNat Tree.nil)) (Tree.words (t.kids.getD x5.toNat Tree.nil)) (Tree.kids (t.kids.getD x5.toNat Tree.nil))) (d - 1)))=false→(((!(bif ((bif (decide ((2:Int)≤t.kind)) then (decide (t.kind≤7)) else false) !=(((Tree.kind (t.kids.getD x5.toNat Tree.nil)):Int)==10)) then true else (bif (t.kind==9) then (((Tree.kind (t.kids.getD x5.toNat Tree.nil)):Int) !=1) else false))) && (bif (decide ((2:Int)≤t.kind)) then (decide (t.kind≤7)) else false))=true→InR (t.kind - 2))∧(((!(bif ((bif (decide ((2:Int)≤t.kind)) then (decide (t.kind≤7)) else false) !=(((Tree.kind (t.kids.getD x5.toNat Tree.nil)):Int)==10)) then true else (bif (t.kind==9) then (((Tree.kind (t.kids.getD x5.toNat Tree.nil)):Int) !=1) else false))) && (bif (decide ((2:Int)≤t.kind)) then (decide (t.kind≤7)) else false))=true→(0:Int)≤0∧0 < ((Tree.words (t.kids.getD x5.toNat Tree.nil)).length:Int))∧(((!(bif ((bif (decide ((2:Int)≤t.kind)) then (decide (t.kind≤7)) else false) !=(((Tree.kind (t.kids.getD x5.toNat Tree.nil)):Int)==10)) then true else (bif (t.kind==9) then (((Tree.kind (t.kids.getD x5.toNat Tree.nil)):Int) !=1) else false))) && (bif (decide ((2:Int)≤t.kind)) then (decide (t.kind≤7)) else false))=true→Zgv ((t.kind - 2),(List.getD (Tree.words (t.kids.getD x5.toNat Tree.nil)) (Int.toNat 0) (0:Int)),()))∧(((bif (bif ((bif (decide ((2:Int)≤t.kind)) then (decide (t.kind≤7)) else false) !=(((Tree.kind (t.kids.getD x5.toNat Tree.nil)):Int)==10)) then true else (bif (t.kind==9) then (((Tree.kind (t.kids.getD x5.toNat Tree.nil)):Int) !=1) else false)) then true else (bif (bif (decide ((2:Int)≤t.kind)) then (decide (t.kind≤7)) else false) then (!(Zhh (t.kind - 2) (List.getD (Tree.words (t.kids.getD x5.toNat Tree.nil)) (Int.toNat 0) (0:Int)))) else false))=true→Q .ret (L2 [(4,.c (.bool false))] []))∧((bif (bif ((bif (decide ((2:Int)≤t.kind)) then (decide (t.kind≤7)) else false) !=(((Tree.kind (t.kids.getD x5.toNat Tree.nil)):Int)==10)) then true else (bif (t.kind==9) then (((Tree.kind (t.kids.getD x5.toNat Tree.nil)):Int) !=1) else false)) then true else (bif (bif (decide ((2:Int)≤t.kind)) then (decide (t.kind≤7)) else false) then (!(Zhh (t.kind - 2) (List.getD (Tree.words (t.kids.getD x5.toNat Tree.nil)) (Int.toNat 0) (0:Int)))) else false))=false→(InR (x5+1))∧(N0 (Z2t t d (x5+1)))))))))∧((decide (x5 < (t.kids.length:Int)))=false→Q .ret (L2 [(4,.c (.bool true))] []))):
  AW (Z2 (Z14 N)) Try.f37 Zar [1,1,1,1,1,0,1,0,0] (Z2t t d x5) (xT N0 (xB 0 (SW (Z2 (Z14 N)) Try.f37 Zar [1,1,1,1,1,1] Q))):=by
 have e:(AW (Z2 (Z14 N)) Try.f37 Zar [1,1,1,1,1,0,1,0,0] (Z2t t d x5) (xT N0 (xB 0 (SW (Z2 (Z14 N)) Try.f37 Zar [1,1,1,1,1,1] Q))))=(let zz5:=(decide ((2:Int)≤t.kind));let zz4:=(!(Zhh (t.kind - 2) (List.getD (Tree.words (t.kids.getD x5.toNat Tree.nil)) (Int.toNat 0) (0:Int))));let zz3:=(!(Ze (Tree.mk (Tree.kind (t.kids.getD x5.toNat Tree.nil)) (Tree.words (t.kids.getD x5.toNat Tree.nil)) (Tree.kids (t.kids.getD x5.toNat Tree.nil))) ((d:Int) - 1)));let zz2:=(((Tree.kind (t.kids.getD x5.toNat Tree.nil)):Int)==10);let zz1:=(bif zz5 then (decide (t.kind≤7)) else false);let zz0:=(bif (zz1 !=zz2) then true else (bif (t.kind==9) then (((Tree.kind (t.kids.getD x5.toNat Tree.nil)):Int) !=1) else false));(((decide ((x5:Int) < (t.kids.length:Int)))=true→((0:Int)≤x5∧x5 < (t.kids.length:Int))∧((InR ((d:Int) - 1))∧(Z4k ((Tree.mk (Tree.kind (t.kids.getD x5.toNat Tree.nil)) (Tree.words (t.kids.getD x5.toNat Tree.nil)) (Tree.kids (t.kids.getD x5.toNat Tree.nil))),((d:Int) - 1),()))∧(ZgQ ((Tree.mk (Tree.kind (t.kids.getD x5.toNat Tree.nil)) (Tree.words (t.kids.getD x5.toNat Tree.nil)) (Tree.kids (t.kids.getD x5.toNat Tree.nil))),((d:Int) - 1),()) < N)∧((zz3=true→(Q .ret (L2 [(4,.c (.bool false))] [])))∧(zz3=false→(Zt (zz5=true))∧(Zt (zz5=true))∧(Zt (zz5=true))∧((Zt ((!(zz1 !=zz2))=true))∧(Zt ((!(zz1 !=zz2))=true))∧(Zt ((!(zz1 !=zz2))=true))∧(Zt (((!(zz1 !=zz2)) && (t.kind==9))=true))∧(Zt (((!(zz1 !=zz2)) && (t.kind==9))=true))∧((!(zz1 !=zz2))=true→(True→(!(zz1 !=zz2))=true))∧((!(zz1 !=zz2))=true→((t.kind==9)=true→((!(zz1 !=zz2)) && (t.kind==9))=true))∧((zz1 !=zz2)=false→(!(zz1 !=zz2))=true)∧(Zt ((!zz0)=true))∧(Zt (((!zz0) && zz1)=true))∧(Zt (((!zz0) && zz1)=true))∧(((!zz0) && zz1)=true→InR (t.kind - 2))∧(Zt (((!zz0) && zz1)=true))∧(Zt (((!zz0) && zz1)=true))∧(((!zz0) && zz1)=true→(0:Int)≤0∧0 < ((Tree.words (t.kids.getD x5.toNat Tree.nil)).length:Int))∧(Zt (((!zz0) && zz1)=true))∧(Zt (((!zz0) && zz1)=true))∧(Zt (((!zz0) && zz1)=true))∧(((!zz0) && zz1)=true→Zgv ((t.kind - 2),(List.getD (Tree.words (t.kids.getD x5.toNat Tree.nil)) (Int.toNat 0) (0:Int)),()))∧(Zt (((!zz0) && zz1)=true))∧((!zz0)=true→(True→(!zz0)=true))∧((!zz0)=true→(zz1=true→((!zz0) && zz1)=true))∧(zz0=false→(!zz0)=true)∧(((bif zz0 then true else (bif zz1 then zz4 else false))=true→(Q .ret (L2 [(4,.c (.bool false))] [])))∧((bif zz0 then true else (bif zz1 then zz4 else false))=false→(InR ((x5:Int)+1))∧(N0 (Z2t t d ((x5:Int)+1))))))))))∧((decide ((x5:Int) < (t.kids.length:Int)))=false→(Q .ret (L2 [(4,.c (.bool true))] []))))):=by kernel_rfl
 exact e.mpr ⟨fun c_26=> ⟨(h.1 c_26).1,⟨(h.1 c_26).2.1,(h.1 c_26).2.2.1,(h.1 c_26).2.2.2.1,⟨fun c_27=> ((h.1 c_26).2.2.2.2.1 c_27),fun c_27=> ⟨id,id,(by generalize (decide ((2:Int)≤t.kind))=b0;revert b0;decide),⟨id,id,id,id,id,(by generalize ((bif (decide ((2:Int)≤t.kind)) then (decide ((t.kind:Int)≤7)) else false) !=(((Tree.kind (t.kids.getD x5.toNat Tree.nil)):Int)==10))=b0;revert b0;decide),(by generalize ((bif (decide ((2:Int)≤t.kind)) then (decide ((t.kind:Int)≤7)) else false) !=(((Tree.kind (t.kids.getD x5.toNat Tree.nil)):Int)==10))=b0;generalize ((t.kind:Int)==9)=b1;revert b0 b1;decide),(by generalize ((bif (decide ((2:Int)≤t.kind)) then (decide ((t.kind:Int)≤7)) else false) !=(((Tree.kind (t.kids.getD x5.toNat Tree.nil)):Int)==10))=b0;revert b0;decide),id,id,id,((h.1 c_26).2.2.2.2.2 c_27).1,id,id,((h.1 c_26).2.2.2.2.2 c_27).2.1,id,id,id,((h.1 c_26).2.2.2.2.2 c_27).2.2.1,id,(by generalize ((bif (decide ((2:Int)≤t.kind)) then (decide ((t.kind:Int)≤7)) else false) !=(((Tree.kind (t.kids.getD x5.toNat Tree.nil)):Int)==10))=b0;generalize (((Tree.kind (t.kids.getD x5.toNat Tree.nil)):Int) !=1)=b1;generalize ((t.kind:Int)==9)=b2;revert b0 b1 b2;decide),(by generalize ((bif (decide ((2:Int)≤t.kind)) then (decide ((t.kind:Int)≤7)) else false) !=(((Tree.kind (t.kids.getD x5.toNat Tree.nil)):Int)==10))=b0;generalize (((Tree.kind (t.kids.getD x5.toNat Tree.nil)):Int) !=1)=b1;generalize (decide ((2:Int)≤t.kind))=b2;generalize (decide ((t.kind:Int)≤7))=b3;generalize ((t.kind:Int)==9)=b4;revert b0 b1 b2 b3 b4;decide),(by generalize ((bif (decide ((2:Int)≤t.kind)) then (decide ((t.kind:Int)≤7)) else false) !=(((Tree.kind (t.kids.getD x5.toNat Tree.nil)):Int)==10))=b0;generalize (((Tree.kind (t.kids.getD x5.toNat Tree.nil)):Int) !=1)=b1;generalize ((t.kind:Int)==9)=b2;revert b0 b1 b2;decide),⟨fun c_28=> (((h.1 c_26).2.2.2.2.2 c_27).2.2.2.1 c_28),fun c_28=> ⟨(((h.1 c_26).2.2.2.2.2 c_27).2.2.2.2 c_28).1,(((h.1 c_26).2.2.2.2.2 c_27).2.2.2.2 c_28).2⟩⟩⟩⟩⟩⟩⟩,fun c_26=> (h.2 c_26)⟩
def Zwc(N:Nat)(t:Tree)(d:Int):Prop:=AW (Z2 (Z14 N)) Try.f37 Zar [] (Zo (Zj3.can (t,d,())) []) (EQ Try.f37 (ZnG (t,d,())) [])
theorem Zuu(c79:CT 79 Zb6)(hb:∀ (N:Nat) (t:Tree) (d:Int) (_:Unit),Z4k (t,d,())→ZgQ (t,d,()) < N+1→Zwc N t d):CT 37 Z3Q:=
 YD (μ:=ZgQ) (l:=[(79,Zb6)]) Zr rfl (⟨c79,trivial⟩) Zar Try.func37 rfl rfl 2 (fun _=> rfl) (by decide) (fun N ⟨t,d,_⟩=> hb N t d ())
end
end
end Go.AM.Ytpjenobkibfpcaa
namespace Go.AM.Ytpjenobkibfpcaa
open Go.AM Go.Proofs
theorem Z3G:∀ (l:List Int),trim l=[]↔∀ i:Nat,l.getD i 0=0
 | []=> by simp [trim]
 | x ::r=> by
  have ih:=Z3G r
  constructor
  ·intro h i
   simp only [trim] at h
   split at h
   ·rename_i hr
    split at h
    ·cases i with
     | zero=> simpa
     | succ i=> simpa using (ih.1 hr) i
    ·cases h
   ·cases h
  ·intro h
   have h0:=h 0
   have hr:trim r=[]:=ih.2 fun i=> by simpa using h (i+1)
   simp only [trim,hr]
   simp at h0
   simp [h0]
theorem Z1P(x:Int)(r:List Int):trim (x ::r)=if trim r=[]∧x=0 then [] else x ::trim r:=by
 simp only [trim]
 split
 ·rename_i h
  simp only [h]
  split <;> simp_all
 ·rename_i h
  simp [h]
theorem Z9x:∀ (a b:List Int),trim a=trim b↔∀ i:Nat,a.getD i 0=b.getD i 0
 | [],b=> by
  rw [show trim []=[] from rfl,eq_comm,Z3G]
  simp [eq_comm]
 | x ::r,[]=> by
  rw [show trim []=[] from rfl,Z3G]
  simp
 | x ::r,y ::s=> by
  have ih:=Z9x r s
  constructor
  ·intro h i
   have key:x=y∧trim r=trim s:=by
    rw [Z1P,Z1P] at h
    split at h <;> split at h <;> simp_all
   cases i with
   | zero=> simpa using key.1
   | succ i=> simpa using ih.1 key.2 i
  ·intro h
   have h0:x=y:=by simpa using h 0
   have hr:trim r=trim s:=ih.2 fun i=> by simpa using h (i+1)
   rw [Z1P,Z1P,h0,hr]
def Zsl(l:List Tree):Prop:=∀ x∈l,x.kind=0→x=Tree.nil
theorem Jz(x:Tree)(r:List Tree):Y4 (x ::r)=if Y4 r=[]∧x.kind=0 then [] else x ::Y4 r:=by
 simp only [Y4]
 split
 ·rename_i h
  simp only [h]
  split <;> simp_all
 ·rename_i h
  simp [h]
theorem Z2U:∀ (l:List Tree),Zsl l→(Y4 l=[]↔∀ i:Nat,l.getD i Tree.nil=Tree.nil)
 | [],_=> by simp [Y4]
 | x ::r,hn=> by
  have ih:=Z2U r (fun y hy=> hn y (List.mem_cons_of_mem _ hy))
  have hx:=hn x (List.mem_cons_self ..)
  rw [Jz]
  constructor
  ·intro h i
   split at h
   ·rename_i hc
    cases i with
    | zero=> simpa using hx hc.2
    | succ i=> simpa using (ih.1 hc.1) i
   ·cases h
  ·intro h
   have h0:x=Tree.nil:=by simpa using h 0
   have hr:Y4 r=[]:=ih.2 fun i=> by simpa using h (i+1)
   rw [if_pos ⟨hr,by rw [h0];rfl⟩]
theorem Z72:∀ (a b:List Tree),Zsl a→Zsl b→(Y4 a=Y4 b↔∀ i:Nat,a.getD i Tree.nil=b.getD i Tree.nil)
 | [],b,_,hb=> by
  rw [show Y4 []=[] from rfl,eq_comm,Z2U b hb]
  simp [eq_comm]
 | x ::r,[],ha,_=> by
  rw [show Y4 []=[] from rfl,Z2U _ ha]
  simp
 | x ::r,y ::s,ha,hb=> by
  have ih:=Z72 r s (fun y hy=> ha y (List.mem_cons_of_mem _ hy)) (fun y hy=> hb y (List.mem_cons_of_mem _ hy))
  have hx:=ha x (List.mem_cons_self ..)
  have hy:=hb y (List.mem_cons_self ..)
  constructor
  ·intro h i
   have key:x=y∧Y4 r=Y4 s:=by
    rw [Jz,Jz] at h
    split at h <;> split at h
    ·rename_i h1 h2
     exact ⟨(hx h1.2).trans (hy h2.2).symm,h1.1.trans h2.1.symm⟩
    ·cases h
    ·cases h
    ·simpa using h
   cases i with
   | zero=> simpa using key.1
   | succ i=> simpa using ih.1 key.2 i
  ·intro h
   have h0:x=y:=by simpa using h 0
   have hr:Y4 r=Y4 s:=ih.2 fun i=> by simpa using h (i+1)
   rw [Jz,Jz,h0,hr]
theorem Z97:Z3 Tree.nil=Tree.nil:=by simp [Tree.nil,Z3]
theorem Z6N(t:Tree):(Z3 t).kind=t.kind:=by
 obtain ⟨k,w,ks⟩:=t
 simp only [Z3]
 split
 ·rename_i h;simp [h,Tree.nil]
 ·split
  ·rename_i h;simp [h]
  ·try rfl
theorem Z6P:∀ (l:List Tree),Zsl (Y1 l)
 | []=> by intro x hx;simp [Y1] at hx
 | t ::r=> by
  intro x hx hk
  simp only [Y1,List.mem_cons] at hx
  rcases hx with rfl | hx
  ·rw [Z6N] at hk
   obtain ⟨k,w,ks⟩:=t
   simp only [Tree.kind_mk] at hk
   simp [Z3,hk]
  ·exact Z6P r x hx hk
theorem Z0f:∀ (l:List Tree) (i:Nat),(Y1 l).getD i Tree.nil=Z3 (l.getD i Tree.nil)
 | [],i=> by simp [Y1,Z97]
 | t ::r,0=> by simp [Y1]
 | t ::r,i+1=> by simpa [Y1] using Z0f r i
theorem Z7G(a b:List Tree):Y1 a=Y1 b↔a.length=b.length∧∀ i:Nat,Z3 (a.getD i Tree.nil)=Z3 (b.getD i Tree.nil):=by
 constructor
 ·intro h
  refine ⟨by rw [←Z12 a,h,Z12],fun i=> ?_⟩
  rw [←Z0f,h,Z0f]
 ·rintro ⟨hl,h⟩
  apply List.ext_getElem (by rw [Z12,Z12,hl])
  intro i h1 h2
  have:=h i
  rw [←Z0f,←Z0f] at this
  simpa [List.getD,h1,h2] using this
theorem YC(a b:Tree):Z3 a=Z3 b↔a.kind=b.kind∧(a.kind=0∨(if a.kind=1 then (∀ i:Nat,a.words.getD i 0=b.words.getD i 0) else a.words=b.words∧a.kids.length=b.kids.length)∧∀ i:Nat,Z3 (a.kids.getD i Tree.nil)=Z3 (b.kids.getD i Tree.nil)):=by
 obtain ⟨k,w,ks⟩:=a
 obtain ⟨k',w',ks'⟩:=b
 show _↔k=k'∧(k=0∨(if k=1 then (∀ i:Nat,w.getD i 0=w'.getD i 0) else w=w'∧ks.length=ks'.length)∧∀ i:Nat,Z3 (ks.getD i Tree.nil)=Z3 (ks'.getD i Tree.nil))
 by_cases hk:k=k'
 ·subst hk
  simp only [true_and]
  by_cases h0:k=0
  ·simp [Z3,h0]
  ·by_cases h1:k=1
   ·subst h1
    simp only [Z3,if_neg h0,if_true,Tree.mk.injEq,true_and,Z9x,Z72 _ _ (Z6P _) (Z6P _),Z0f]
    simp
   ·simp only [Z3,if_neg h0,if_neg h1,Tree.mk.injEq,true_and,Z7G]
    constructor
    ·rintro ⟨h2,h3,h4⟩;exact .inr ⟨⟨h2,h3⟩,h4⟩
    ·rintro (h | ⟨⟨h2,h3⟩,h4⟩)
     ·exact absurd h h0
     ·exact ⟨h2,h3,h4⟩
 ·simp only [hk,false_and,iff_false]
  intro h
  have:=congrArg Tree.kind h
  rw [Z6N,Z6N] at this
  exact hk this
end Go.AM.Ytpjenobkibfpcaa
namespace Go.AM.Ytpjenobkibfpcaa
open Go.AM Go.Proofs
theorem ZfU{a b:Tree}(h:Z3 a=Z3 b)(h0:a.kind≠0)(i:Nat):a.words.getD i 0=b.words.getD i 0:=by
 obtain ⟨_,h2⟩:=(YC a b).1 h
 rcases h2 with h2 | ⟨h2,_⟩
 ·exact absurd h2 h0
 ·split at h2
  ·exact h2 i
  ·rw [h2.1]
theorem ZiL{a b:Tree}(h:Z3 a=Z3 b)(h0:a.kind≠0)(i:Nat):Z3 (a.kids.getD i Tree.nil)=Z3 (b.kids.getD i Tree.nil):=by
 obtain ⟨_,h2⟩:=(YC a b).1 h
 rcases h2 with h2 | ⟨_,h2⟩
 ·exact absurd h2 h0
 ·exact h2 i
theorem Zcp(t:Tree)(i:Int):Zk (JM t i)≤Zk t∧(i < t.kids.length→0≤i→Zk (JM t i) < Zk t):=by
 obtain ⟨k,w,ks⟩:=t
 unfold JM
 have h1:Zk Tree.nil=1:=by simp [Tree.nil,Zk,Za]
 split
 ·simp only [h1,Zk];omega
 ·simp only [Tree.kids_mk]
  by_cases hi:i.toNat < ks.length
  ·have:=Z0o hi
   simp only [Zk];omega
  ·rw [List.getD,List.getElem?_eq_none (by omega)]
   simp only [Option.getD_none,h1,Zk];omega
theorem Zfy:Contract Try.prog cfg 106 J3:=by
 refine Zrz Zve Zmp c91 ?_
 rintro N a b _ hp hN
 have la:a.words.length+a.kids.length < Zk a:=by obtain ⟨k,w,ks⟩:=a;have:=ZD ks;simp only [Zk,Tree.words_mk,Tree.kids_mk];omega
 have lb:b.words.length+b.kids.length < Zk b:=by obtain ⟨k,w,ks⟩:=b;have:=ZD ks;simp only [Zk,Tree.words_mk,Tree.kids_mk];omega
 simp only [Z1s,ZdR] at hp hN
 have no:¬Z3 a=Z3 b→Jv cfg Try.f106.ntmps Try.f106.results.toList (Z6z (a,b,())) [] .ret (⟨[(4,.c (.bool false))],[],[]⟩:LSt U):=by
  intro h
  have e:YT (Z3 a) (Z3 b)=false:=Jb.2 h
  simp only [Z6z,e]
  exact ⟨⟨rfl,⟨rfl,trivial⟩,trivial⟩,trivial⟩
 refine ZwY N _ _ _ ?_;(try simp only [vcT,forall_eq])
 (simp only [vcS]);(try simp only [vcT])
 refine ⟨fun hc=> ?_,fun hc=> ?_⟩
 ·have e:YT (Z3 a) (Z3 b)=(a.kind==b.kind):=by
   by_cases hk:a.kind=b.kind
   ·have h0:a.kind=0:=by rcases hc with h | h;exact absurd hk h;exact h
    rw [Z0d.2 ((YC a b).2 ⟨hk,.inl h0⟩)]
    simp [hk]
   ·rw [Jb.2 (fun h=> hk ((YC a b).1 h).1)]
    simp [hk]
  simp only [Z6z,e]
  exact ⟨⟨rfl,⟨rfl,trivial⟩,trivial⟩,trivial⟩
 ·refine ⟨fun _=> by simp only [ZbN];omega,fun h h'=> ⟨h,h'⟩,fun hd=> no ?_,fun hd=> ?_⟩
  ·intro h
   obtain ⟨_,h2⟩:=(YC a b).1 h
   rcases h2 with h2 | ⟨h2,_⟩
   ·exact hc.2 h2
   ·rw [if_neg hd.1] at h2
    rcases hd.2 with h3 | h3
    ·exact h3 (by omega)
    ·exact h3 h2.1
  ·refine Zb (ι:=Int) (fun p=> Z62 a b p) (fun p=> 0≤p∧p≤2000000000000∧∀ j:Nat,j < p.toNat→a.words.getD j 0=b.words.getD j 0) (fun p=> (2000000000000 - p).toNat) 0 rfl ⟨by omega,by omega,fun j hj=> by simp at hj⟩ ?_
   rintro i ⟨h1,h2,h3⟩
   refine Zn9 N _ _ _ _ _ ?_;(try simp only [vcT,forall_eq])
   (simp only [vcS]);(try simp only [vcT])
   have wa:∀ t:Tree,Jx t i=t.words.getD i.toNat 0:=fun t=> by unfold Jx;rw [if_neg (by omega)]
   refine ⟨fun hi=> ⟨trivial,trivial,fun hn=> no fun h=> hn ?_,fun he=> ⟨?_,?_⟩⟩,fun hi=> ?_⟩
   ·rw [wa,wa]
    exact ZfU h hc.2 _
   ·unfold InR;split at hi <;> omega
   ·refine ⟨i+1,rfl,⟨by omega,by split at hi <;> omega,fun j hj=> ?_⟩,by split at hi <;> omega⟩
    by_cases hj':j < i.toNat
    ·exact h3 j hj'
    ·have:j=i.toNat:=by omega
     rw [this,←wa,←wa]
     exact he
   ·have hw:∀ j:Nat,a.words.getD j 0=b.words.getD j 0:=fun j=> by
     by_cases hj:j < i.toNat
     ·exact h3 j hj
     ·split at hi <;> rw [List.getD,List.getD,List.getElem?_eq_none (by omega),List.getElem?_eq_none (by omega)]
    refine Zb (ι:=Int) (fun p=> Z61 a b p) (fun p=> 0≤p∧p≤2000000000000∧∀ j:Nat,j < p.toNat→Z3 (a.kids.getD j Tree.nil)=Z3 (b.kids.getD j Tree.nil)) (fun p=> (2000000000000 - p).toNat) 0 rfl ⟨by omega,by omega,fun j hj=> by simp at hj⟩ ?_
    rintro q ⟨h5,h6,h7⟩
    refine Zn8 N _ _ _ _ _ ?_;(try simp only [vcT,forall_eq])
    (simp only [vcS]);(try simp only [vcT])
    have ka:∀ t:Tree,JM t q=t.kids.getD q.toNat Tree.nil:=fun t=> by unfold JM;rw [if_neg (by omega)]
    have ma:=Zcp a q
    have mb:=Zcp b q
    try (simp only [Tree.eta,Edit.eta,Tree.kind_mk,Tree.words_mk,Tree.kids_mk])
    refine ⟨fun hq=> ⟨trivial,trivial,?_,?_,fun hn=> no fun h=> ?_,fun he=> ⟨?_,?_⟩⟩,fun hq=> ?_⟩
    ·simp only [Z1s];omega
    ·simp only [ZdR];split at hq <;> omega
    ·rw [Jb] at hn
     apply hn
     rw [ka,ka]
     exact ZiL h hc.2 _
    ·unfold InR;split at hq <;> omega
    ·refine ⟨q+1,rfl,⟨by omega,by split at hq <;> omega,fun j hj=> ?_⟩,by split at hq <;> omega⟩
     by_cases hj':j < q.toNat
     ·exact h7 j hj'
     ·have:j=q.toNat:=by omega
      rw [this,←ka,←ka]
      exact Z0d.1 he
    ·have hk:∀ j:Nat,Z3 (a.kids.getD j Tree.nil)=Z3 (b.kids.getD j Tree.nil):=fun j=> by
      by_cases hj:j < q.toNat
      ·exact h7 j hj
      ·split at hq <;> rw [List.getD,List.getD,List.getElem?_eq_none (by omega),List.getElem?_eq_none (by omega)]
     have e:YT (Z3 a) (Z3 b)=true:=by
      rw [Z0d,YC]
      refine ⟨hc.1,.inr ⟨?_,hk⟩⟩
      split
      ·exact hw
      ·rename_i h1
       rcases hd with hd | hd
       ·exact absurd hd h1
       ·exact ⟨hd.2,by have:=hd.1;omega⟩
     simp only [Z6z,e]
     exact ⟨⟨rfl,⟨rfl,trivial⟩,trivial⟩,trivial⟩
end Go.AM.Ytpjenobkibfpcaa
