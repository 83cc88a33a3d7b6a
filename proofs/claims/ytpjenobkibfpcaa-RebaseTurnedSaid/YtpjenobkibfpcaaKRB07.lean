import Derived.Test.YtpjenobkibfpcaaCmZ
import Derived.Test.YtpjenobkibfpcaaChecked
import Derived.Test.YtpjenobkibfpcaaRows
import Derived.Test.YtpjenobkibfpcaaCmX
import Derived.Test.YtpjenobkibfpcaaCmXE
import Derived.ProofKit
import Derived.Test.YtpjenobkibfpcaaKD07
set_option linter.unusedSimpArgs false
set_option linter.unusedVariables false
namespace Go.AM.Ytpjenobkibfpcaa
open Go.AM Go.Proofs
def el:Ty->TypeId
 | .u64=> 40
 | .u8=> 5
 | .int=> 3
 | .tree=> 25
 | .wedit=> 42
 | .edit=> 31
 | .kid=> 84
 | .op=> 82
 | .piece=> 150
 | .unit=> 164
 | .pair=> 166
 | .step=> 58
 | .deed=> 70
def tb:Tables U:=
 {el:=el
  sl:=[(22,.u64),(23,.tree),(26,.step),(27,.wedit),(28,.kid),(29,.op),(64,.edit),(94,.u8),(146,.piece),(153,.int),(158,.pair),(161,.unit)]
  var:=[(2,false,[.int .i64 0]),
   (3,false,[.int .i64 0]),
   (4,false,[.bool false]),
   (5,false,[.int .u8 0]),
   (6,false,[.int .u8 0]),
   (7,true,[.int .i64 0,.int .i64 0,.bool false,.int .u8 0]),
   (8,true,[.int .i64 0,.int .i64 0,.bool false,.int .u8 0]),
   (12,false,[.int .u64 0]),
   (15,false,[.nilp]),
   (16,false,[.nilp]),
   (17,false,[.nilp]),
   (18,true,[.nilp]),
   (19,true,[.nilp]),
   (21,false,[.int .i32 0]),
   (22,false,[.nils]),
   (23,false,[.nils]),
   (24,true,[.int .i64 0,.nils,.nils]),
   (25,true,[.int .i64 0,.nils,.nils]),
   (26,false,[.nils]),
   (27,false,[.nils]),
   (28,false,[.nils]),
   (29,false,[.nils]),
   (30,true,[.int .i64 0,.int .i64 0,.nils,.nils,.int .i64 0,.nils,.nils,.nils,.nils,.int .i64 0,.nils]),
   (31,true,[.int .i64 0,.int .i64 0,.nils,.nils,.int .i64 0,.nils,.nils,.nils,.nils,.int .i64 0,.nils]),
   (40,false,[.int .u64 0]),
   (41,true,[.int .i64 0,.int .u8 0,.int .u64 0,.int .u64 0]),
   (42,true,[.int .i64 0,.int .u8 0,.int .u64 0,.int .u64 0]),
   (57,true,[.int .i64 0,.int .i64 0]),
   (58,true,[.int .i64 0,.int .i64 0]),
   (60,false,[.int .i64 0]),
   (64,false,[.nils]),
   (66,false,[.nilp]),
   (69,true,[.int .i64 0,.int .i64 0,.int .i64 0,.int .i64 0,.nils,.nils,.int .i64 0,.nils,.nils,.nils,.nils,.int .i64 0,.nils]),
   (70,true,[.int .i64 0,.int .i64 0,.int .i64 0,.int .i64 0,.nils,.nils,.int .i64 0,.nils,.nils,.nils,.nils,.int .i64 0,.nils]),
   (81,true,[.int .i64 0,.int .i64 0,.nils,.int .i64 0,.int .i64 0,.nils,.nils,.int .i64 0,.nils,.nils,.nils,.nils,.int .i64 0,.nils]),
   (82,true,[.int .i64 0,.int .i64 0,.nils,.int .i64 0,.int .i64 0,.nils,.nils,.int .i64 0,.nils,.nils,.nils,.nils,.int .i64 0,.nils]),
   (83,true,[.int .i64 0,.int .i64 0,.int .i64 0,.nils,.nils,.int .i64 0,.nils,.nils,.nils,.nils,.int .i64 0,.nils]),
   (84,true,[.int .i64 0,.int .i64 0,.int .i64 0,.nils,.nils,.int .i64 0,.nils,.nils,.nils,.nils,.int .i64 0,.nils]),
   (90,true,[.int .u8 0,.int .u8 0,.int .u8 0,.int .u8 0,.int .u8 0,.int .u8 0,.int .u8 0,.int .u8 0]),
   (94,false,[.nils]),
   (101,false,[.nilp]),
   (102,true,[.bool false,.bool false]),
   (103,true,[.bool false,.bool false]),
   (108,true,[.int .i64 0,.nils,.nils,.nils,.nils]),
   (109,true,[.int .i64 0,.nils,.nils,.nils,.nils]),
   (135,false,[.nilp]),
   (136,true,[.nils,.nils,.nils]),
   (137,true,[.nils,.nils,.nils]),
   (140,false,[.nilp]),
   (146,false,[.nils]),
   (149,true,[.int .i64 0,.int .i64 0,.int .i64 0,.nils,.int .i64 0,.int .i64 0,.nils,.nils,.int .i64 0,.nils,.nils,.nils,.nils,.int .i64 0,.nils,.int .i64 0,.int .i64 0,.nils,.int .i64 0,.int .i64 0,.nils,.nils,.int .i64 0,.nils,.nils,.nils,.nils,.int .i64 0,.nils]),
   (150,true,[.int .i64 0,.int .i64 0,.int .i64 0,.nils,.int .i64 0,.int .i64 0,.nils,.nils,.int .i64 0,.nils,.nils,.nils,.nils,.int .i64 0,.nils,.int .i64 0,.int .i64 0,.nils,.int .i64 0,.int .i64 0,.nils,.nils,.int .i64 0,.nils,.nils,.nils,.nils,.int .i64 0,.nils]),
   (153,false,[.nils]),
   (158,false,[.nils]),
   (161,false,[.nils]),
   (163,true,[.int .i64 0,.int .i64 0,.int .i64 0,.nils,.nils,.int .i64 0,.int .i64 0,.nils,.nils,.int .i64 0,.nils,.nils,.nils,.nils,.int .i64 0,.nils,.bool false]),
   (164,true,[.int .i64 0,.int .i64 0,.int .i64 0,.nils,.nils,.int .i64 0,.int .i64 0,.nils,.nils,.int .i64 0,.nils,.nils,.nils,.nils,.int .i64 0,.nils,.bool false]),
   (165,true,[.int .i64 0,.int .i64 0,.int .i64 0,.int .i64 0,.nils,.nils,.int .i64 0,.int .i64 0,.nils,.nils,.int .i64 0,.nils,.nils,.nils,.nils,.int .i64 0,.nils,.bool false,.int .i64 0,.int .i64 0,.int .i64 0,.nils,.nils,.int .i64 0,.int .i64 0,.nils,.nils,.int .i64 0,.nils,.nils,.nils,.nils,.int .i64 0,.nils,.bool false]),
   (166,true,[.int .i64 0,.int .i64 0,.int .i64 0,.int .i64 0,.nils,.nils,.int .i64 0,.int .i64 0,.nils,.nils,.int .i64 0,.nils,.nils,.nils,.nils,.int .i64 0,.nils,.bool false,.int .i64 0,.int .i64 0,.int .i64 0,.nils,.nils,.int .i64 0,.int .i64 0,.nils,.nils,.int .i64 0,.nils,.nils,.nils,.nils,.int .i64 0,.nils,.bool false]),
   (176,false,[.nilp]),
   (177,true,[.nilp,.nils,.nils,.nils,.nils]),
   (178,true,[.nilp,.nils,.nils,.nils,.nils]),
   (186,false,[.nilp]),
   (187,true,[.nils,.int .i64 0]),
   (188,true,[.nils,.int .i64 0]),
   (206,true,[.int .i64 0,.int .i64 0,.int .i64 0,.int .i64 0,.int .i64 0,.int .i64 0]),
   (214,false,[.int .u32 0]),
   (215,false,[.int .u8 0]),
   (216,false,[.int .u8 0]),
   (218,false,[.nilp]),
   (219,false,[.int .i32 0]),
   (220,false,[.int .i32 0])]
  fld:=[(7,0,0,2),(7,1,1,3),(7,2,2,4),(7,3,3,6),(8,0,0,2),(8,1,1,3),(8,2,2,4),(8,3,3,6),(18,0,0,17),(19,0,0,17),(24,0,0,3),(24,1,1,22),(24,2,2,23),(25,0,0,3),(25,1,1,22),(25,2,2,23),(30,0,0,3),(30,1,1,25),(30,2,4,25),(30,3,7,27),(30,4,8,28),(30,5,9,3),(30,6,10,29),(31,0,0,3),(31,1,1,25),(31,2,4,25),(31,3,7,27),(31,4,8,28),(31,5,9,3),(31,6,10,29),(41,0,0,3),(41,1,1,5),(41,2,2,40),(41,3,3,40),(42,0,0,3),(42,1,1,5),(42,2,2,40),(42,3,3,40),(57,0,0,3),(57,1,1,3),(58,0,0,3),(58,1,1,3),(69,0,0,3),(69,1,1,3),(69,2,2,31),(70,0,0,3),(70,1,1,3),(70,2,2,31),(81,0,0,3),(81,1,1,3),(81,2,2,23),(81,3,3,31),(82,0,0,3),(82,1,1,3),(82,2,2,23),(82,3,3,31),(83,0,0,3),(83,1,1,31),(84,0,0,3),(84,1,1,31),(102,0,0,4),(102,1,1,4),(103,0,0,4),(103,1,1,4),(108,0,0,25),(108,1,3,64),(108,2,4,64),(109,0,0,25),(109,1,3,64),(109,2,4,64),(136,0,0,29),(136,1,1,23),(136,2,2,23),(137,0,0,29),(137,1,1,23),(137,2,2,23),(149,0,0,3),(149,1,1,82),(149,2,15,82),(150,0,0,3),(150,1,1,82),(150,2,15,82),(163,0,0,3),(163,1,1,3),(163,2,2,25),(163,3,5,31),(163,4,16,4),(164,0,0,3),(164,1,1,3),(164,2,2,25),(164,3,5,31),(164,4,16,4),(165,0,0,3),(165,1,1,164),(165,2,18,164),(166,0,0,3),(166,1,1,164),(166,2,18,164),(177,0,0,101),(177,1,1,29),(177,2,2,29),(177,3,3,23),(177,4,4,23),(178,0,0,101),(178,1,1,29),(178,2,2,29),(178,3,3,23),(178,4,4,23),(187,0,0,29),(187,1,1,3),(188,0,0,29),(188,1,1,3)]
  arr:=[(90,8,5),(206,6,3)]
  eqs:=[41,42,57,58] }
def cfg:Cfg U:=tb.cfg K
theorem ZvU:tb.var.all (Zpp Try.prog)=true:=by kernel_rfl
theorem Zxe:tb.sl.all (slB Try.prog tb.el)=true:=by kernel_rfl
theorem Zwk:tb.fld.all (ZtI Try.prog)=true:=by kernel_rfl
theorem Zwp:tb.arr.all (Zum Try.prog)=true:=by kernel_rfl
theorem Zxf:∀ t,elB Try.prog K tb t=true:=by
 intro t
 cases t
 ·kernel_rfl
 ·kernel_rfl
 ·kernel_rfl
 ·kernel_rfl
 ·kernel_rfl
 ·kernel_rfl
 ·kernel_rfl
 ·kernel_rfl
 ·kernel_rfl
 ·kernel_rfl
 ·kernel_rfl
 ·kernel_rfl
 ·kernel_rfl
theorem Zl:CfgOk Try.prog cfg:=Zke Zxj ZvU Zxe Zwk Zwp Zxf (by kernel_rfl) (by kernel_rfl)
abbrev sU(T:Ty)(l:List (El T))(t:Tail):C U:= .slice (U:=U) T l t
noncomputable abbrev AW(K:Known U)(f:Func)(lv:Ze U)(p:List Nat):=awp cfg K (Yn cfg K) f.ntmps lv (cd f p)
noncomputable abbrev SW(K:Known U)(f:Func)(lv:Ze U)(p:List Nat):=Zm5 cfg K (Yn cfg K) f.ntmps lv (cd f p)
abbrev EQ(f:Func):=Yw cfg f.ntmps f.results.toList
abbrev QT:=AExit->LSt U->Prop
abbrev NT:=LSt U->Prop
abbrev CT(k:FuncId)(s:Fs U):Prop:=Contract Try.prog cfg k s
abbrev xB:=@AExit.inBlock U
abbrev xT:=@AExit.then U
abbrev ci(x:Int):C U:= .int .i64 x
abbrev L2(e:List (Nat × V U))(m:List (Name × List (C U))):LSt U:=⟨e,m,[]⟩
abbrev pL(n:Nat):Nat × V U:=(n,.ptr (.loc n) 0)
abbrev pB(n:Nat)(b:Bool):Nat × V U:=(n,.c (.bool b))
abbrev pI(n:Nat)(x:Int):Nat × V U:=(n,.c (.int .i64 x))
def lvl(l:List (List Nat × List Nat)):Ze U:=fun i=> ((l.getD i ([],[])).1.map fun k=> (k,[]),(l.getD i ([],[])).2.map fun k=> (.loc k,[]))
abbrev zc0:List (C U):=[.int .u8 0,.int .u8 0,.int .u8 0,.int .u8 0,.int .u8 0,.int .u8 0,.int .u8 0,.int .u8 0]
abbrev zc1:List (C U):=[.int .i64 0,.int .i64 0,.nils,.nils,.int .i64 0,.nils,.nils,.nils,.nils,.int .i64 0,.nils]
end Go.AM.Ytpjenobkibfpcaa
namespace Go.AM.Ytpjenobkibfpcaa
open Go.AM Go.Proofs Go.Proofs.Ytpjenobkibfpcaa Go.ChangeShapes Go.WideShapes Go.RowKit
theorem own:ownKnob Try.prog.godebug=none:=by kernel_rfl
theorem ZqD:laidOutB Try.prog=true:=by kernel_rfl
theorem Zkb:TreeTypes cfg:=⟨rfl,rfl,⟨_,rfl⟩,⟨_,rfl⟩,⟨_,rfl,rfl⟩,⟨_,_,rfl,rfl⟩,⟨_,_,rfl,rfl,rfl⟩,⟨_,_,rfl,rfl,rfl⟩⟩
theorem Zl3:EditTypes cfg:=⟨⟨_,rfl,rfl⟩,⟨_,_,rfl,rfl⟩,⟨_,_,rfl,rfl⟩,⟨_,_,rfl,rfl⟩,⟨_,_,rfl,rfl⟩,⟨_,rfl,rfl⟩,⟨_,_,rfl,rfl⟩,rfl,⟨_,rfl,rfl⟩,⟨_,_,rfl,rfl⟩,⟨_,_,rfl,rfl⟩,⟨_,_,rfl,rfl,rfl⟩,rfl,⟨_,rfl,rfl⟩,⟨_,_,rfl,rfl⟩,rfl,rfl,⟨_,_,rfl,rfl,rfl⟩,⟨_,_,rfl,rfl,rfl⟩,⟨_,_,rfl,rfl⟩,⟨_,_,rfl,rfl,rfl⟩⟩
theorem ZjT{H:Type}{henc:TypeId × Value->H}:ZuY henc Try.prog cfg (aEl .edit) 31 inE:=ZqS Zl rfl ⟨_,_,rfl⟩ (fun _ n cs h=> Zpx Zl Zkb Zl3 n cs h)
end Go.AM.Ytpjenobkibfpcaa
namespace Go.AM.Ytpjenobkibfpcaa
open Go.AM Go.Proofs
noncomputable section
def Zhz:ArgL (Tree × Int × Int × Unit):=(.cons (aEl .tree) (.cons (Jv .i64) (.cons (Jv .i64) .nil)))
def Z8g(a:Tree × Int × Int × Unit):Prop:=Z3h a.1/\0<=a.2.1/\a.2.1<=4611686018427387904/\-1<=a.2.2.1/\a.2.2.1<=4611686018427387904
def ZkG(a:Tree × Int × Int × Unit):Nat:=Zj a.1
def Zf1(a:Tree × Int × Int × Unit):V U:= .c (ci (ZH a.1 a.2.1 a.2.2.1))
def Za0:Fs U:=fs Zhz (fun a=> [Z8g a]) Zf1
def Zop:ArgL (List Int × List Int × Unit):=(.cons (aSl .u64) (.cons (aSl .u64) .nil))
def Zcc(a:List Int × List Int × Unit):Prop:=a.1.length<=1000000000000
def Zf3(a:List Int × List Int × Unit):V U:= .c (.bool (decide (a.1=a.2.1)))
def Za1:Fs U:=fs Zop (fun a=> [Zcc a]) Zf3
def ZjP:ArgL (List Int × Unit):=(.cons (aSl .u64) .nil)
def ZaK(a:List Int × Unit):Prop:=a.1.length<=1000000000000
def Zmn(a:List Int × Unit):V U:= .c (sU .u64 a.1 .unk)
def Z5I:Fs U:=fs ZjP (fun a=> [ZaK a]) Zmn
def ZjL:ArgL (Tree × Int × Unit):=(.cons (aEl .tree) (.cons (Jv .i64) .nil))
def Z7n(a:Tree × Int × Unit):Prop:=True
def Zdk(a:Tree × Int × Unit):V U:= .c (.int .u64 (YY a.1 a.2.1))
def Z0G:Fs U:=fs ZjL (fun a=> [Z7n a]) Zdk
def Zi6(a:Tree × Int × Unit):V U:= .agg (enc .tree (Jf a.1 a.2.1))
def Z2B:Fs U:=fs ZjL (fun a=> [Z7n a]) Zi6
def ZhA:ArgL (Tree × Unit):=(.cons (aEl .tree) .nil)
def Z04(a:Tree × Unit):Prop:=Zj a.1<=1000000000000
def ZkH(a:Tree × Unit):Nat:=Zj a.1
def Zc6(a:Tree × Unit):V U:= .agg (enc .tree (Z7 a.1))
def JB:Fs U:=fs ZhA (fun a=> [Z04 a]) Zc6
def ZhD:ArgL (Tree × Tree × Unit):=(.cons (aEl .tree) (.cons (aEl .tree) .nil))
def Z30(a:Tree × Tree × Unit):Prop:=Zj a.1<=1000000000000
def ZkJ(a:Tree × Tree × Unit):Nat:=Zj a.1
def Zc7(a:Tree × Tree × Unit):V U:= .c (.bool (Y3 a.1 a.2.1))
def Z3d:Fs U:=fs ZhD (fun a=> [Z30 a]) Zc7
def Z0y(a:Tree × Tree × Unit):Prop:=Zj a.1<=1000000000000/\Zj a.2.1<=1000000000000
def Zcn(a:Tree × Tree × Unit):Nat:=Zj a.1+Zj a.2.1
def Z53(a:Tree × Tree × Unit):V U:= .c (.bool (Y3 (Z7 a.1) (Z7 a.2.1)))
def YV:Fs U:=fs ZhD (fun a=> [Z0y a]) Z53
def Zhb(N:Nat):List (FuncId × Fs U):=(78,fs Zhz (fun a=> [Z8g a,ZkG a < N]) Zf1) ::[]
def Zqo:Ze U:=lvl [([1,2,3],[3]),([1,2,3],[3]),([1,2,3,19],[3]),([6],[]),([1,2,3,7],[3]),([1,2,3,7,28],[3]),([1,2,3,7],[3]),([1,2,3,7],[3]),([6],[])]
def Z6t(t:Tree)(d l x2 x7:Int):LSt U:=(L2 [pI 1 d,pI 2 x2,pL 3,pI 7 x7] [(.loc 3,(enc .tree t))])
abbrev A78(N:Nat)(p:List Nat):=AW (Z2 (Zhb N)) Try.f78 Zqo p
abbrev S78(N:Nat)(p:List Nat):=SW (Z2 (Zhb N)) Try.f78 Zqo p
theorem ZwP(N:Nat)(t:Tree)(d l:Int)(Q:QT)(h:let z0:=bif (d==0) then true else (decide (((((l - 1):Int) - (t.words.length:Int)):Int) < 0));((InR (l - 1))/\(InR (((l - 1):Int) - (t.words.length:Int)))/\((Tr ((!(d==0))=true))/\((d==0)=false->(!(d==0))=true)/\((z0=true->(Q .ret (L2 [pI 6 (-1)] [])))/\(z0=false->(Zm (A78 N [1,1,1,0,1,0,0]) (Z6t t d l (((l - 1):Int) - (t.words.length:Int)) 0) (xB 0 (S78 N [1,1,1,1] Q)))))))):
  A78 N [] (L2 [(0,.agg (enc .tree t)),pI 1 d,pI 2 l] []) Q:=
 Eq.mpr (by kernel_rfl) h
theorem ZoZ(N:Nat)(t:Tree)(d l x2 x7:Int)(N0:NT)(Q:QT)(h:let z2:=t.kids.getD x7.toNat Tree.nil;let z1:=decide (x7 < (t.kids.length:Int));let z3:=bif z1 then (decide ((0:Int)<=x2)) else false;let z0:=Tree.mk (Tree.kind z2) (Tree.words z2) (Tree.kids z2);(Tr (z1=true))/\(Tr (z1=true))/\((z3=true->((0:Int)<=x7/\x7 < (t.kids.length:Int))/\(InR (d - 1))/\(Z8g (z0,(d - 1),x2,()))/\(ZkG (z0,(d - 1),x2,()) < N)/\((InR (x7+1))/\(N0 (Z6t t d l (ZH z0 (d - 1) x2) (x7+1)))))/\(z3=false->(Q .ret (L2 [pI 6 x2] []))))):
  A78 N [1,1,1,0,1,0,0] (Z6t t d l x2 x7) (xT N0 (xB 0 (S78 N [1,1,1,1] Q))):=
 Eq.mpr (by kernel_rfl) h
def Zuz(N:Nat)(t:Tree)(d l:Int):Prop:=AW (Z2 (Zhb N)) Try.f78 Zqo [] (Zk (Zhz.can (t,d,l,())) []) (EQ Try.f78 (Zf1 (t,d,l,())) [])
theorem Zt6(hb:∀ (N:Nat) (t:Tree) (d:Int) (l:Int) (_:Unit),Z8g (t,d,l,())->ZkG (t,d,l,()) < N+1->Zuz N t d l):CT 78 Za0:=
 Yu (μ:=ZkG) (l:=[]) Zl rfl trivial Zqo Try.func78 rfl rfl 3 (fun _=> rfl) (by decide) (fun N ⟨t,d,l,_⟩=> hb N t d l ())
def Zhc:List (FuncId × Fs U):=[]
def Zqp:Ze U:=lvl [([0,1],[]),([0,1,10],[]),([4],[]),([0,1,5],[]),([0,1,5,14],[]),([0,1,5],[]),([0,1,5,25],[]),([4],[]),([4],[])]
def Z6u(a b:List Int)(x5:Int):LSt U:=(L2 [(0,.c (sU .u64 a .unk)),(1,.c (sU .u64 b .unk)),pI 5 x5] [])
abbrev A75(p:List Nat):=AW (Z2 Zhc) Try.f75 Zqp p
abbrev S75(p:List Nat):=SW (Z2 Zhc) Try.f75 Zqp p
theorem ZwR(a b:List Int)(Q:QT)(h:let z0:=((a.length:Int):Int) !=(b.length:Int);((z0=true->(Q .ret (L2 [pB 4 false] [])))/\(z0=false->(Zm (A75 [1,1,0,1,0,0]) (Z6u a b 0) (xB 0 (S75 [1,1,1] Q)))))):
  A75 [] (L2 [(0,.c (sU .u64 a .unk)),(1,.c (sU .u64 b .unk))] []) Q:=
 Eq.mpr (by kernel_rfl) h
theorem Zp0(a b:List Int)(x5:Int)(N0:NT)(Q:QT)(h:let z1:=decide (x5 < (a.length:Int));let z0:=((a.getD x5.toNat (0:Int)):Int) !=(b.getD x5.toNat (0:Int));((z1=true->((0:Int)<=x5/\x5 < (a.length:Int))/\((0:Int)<=x5/\x5 < (b.length:Int))/\((z0=true->(Q .ret (L2 [pB 4 false] [])))/\(z0=false->(InR (x5+1))/\(N0 (Z6u a b (x5+1))))))/\(z1=false->(Q .ret (L2 [pB 4 true] []))))):
  A75 [1,1,0,1,0,0] (Z6u a b x5) (xT N0 (xB 0 (S75 [1,1,1] Q))):=
 Eq.mpr (by kernel_rfl) h
def ZuB(a b:List Int):Prop:=AW (Z2 Zhc) Try.f75 Zqp [] (Zk (Zop.can (a,b,())) []) (EQ Try.f75 (Zf3 (a,b,())) [])
theorem Zt7(hb:∀ (a:List Int) (b:List Int) (_:Unit),Zcc (a,b,())->ZuB a b):CT 75 Za1:=
 Z3 (l:=[]) Zl rfl trivial Zqp Try.func75 rfl rfl 2 (fun _=> rfl) (by decide) (fun ⟨a,b,_⟩=> hb a b ())
def ZnA:Ze U:=lvl [([0],[]),([0,4],[]),([2],[]),([2],[])]
abbrev ZxK(p:List Nat):=AW (Z2 Zhc) Try.f109 ZnA p
theorem ZvN(l:List Int)(Q:QT)(h:(((l=[])->(Q .ret (L2 [(2,.c (.nils))] [])))/\(True->((([]:List Int).length+l.length)*8<=140737488355328)/\(Q .ret (L2 [(2,.c (sU .u64 (([]:List Int)++l) (.own (.e 2 0))))] []))))):
  ZxK [] (L2 [(0,.c (sU .u64 l .unk))] []) Q:=
 Eq.mpr (by kernel_rfl) h
def ZrA(l:List Int):Prop:=AW (Z2 Zhc) Try.f109 ZnA [] (Zk (ZjP.can (l,())) []) (EQ Try.f109 (Zmn (l,())) [])
theorem Zqh(hb:∀ (l:List Int) (_:Unit),ZaK (l,())->ZrA l):CT 109 Z5I:=
 Z3 (l:=[]) Zl rfl trivial ZnA Try.func109 rfl rfl 1 (fun _=> rfl) (by decide) (fun ⟨l,_⟩=> hb l ())
def ZiG:Ze U:=lvl [([0,1],[]),([0,1,10],[]),([4],[]),([0,1,12,13],[]),([0,1,12,13,14],[]),([0,1,5,12,13],[]),([0,1,12,13,24],[]),([4],[]),([0,1,12,13],[]),([4],[])]
def Z4n(a b:List Int)(x13:Int):LSt U:=(L2 [(0,.c (sU .u64 a .unk)),(1,.c (sU .u64 b .unk)),pI 12 (a.length:Int),pI 13 x13] [])
abbrev Zv4(p:List Nat):=AW (Z2 Zhc) Try.f148 ZiG p
abbrev ZwA(p:List Nat):=SW (Z2 Zhc) Try.f148 ZiG p
theorem ZvE(a b:List Int)(Q:QT)(h:let z0:=((a.length:Int):Int) !=(b.length:Int);((z0=true->(Q .ret (L2 [pB 4 false] [])))/\(z0=false->(Zm (Zv4 [1,1,0,1,0,0]) (Z4n a b 0) (xB 0 (ZwA [1,1,1] Q)))))):
  Zv4 [] (L2 [(0,.c (sU .u64 a .unk)),(1,.c (sU .u64 b .unk))] []) Q:=
 Eq.mpr (by kernel_rfl) h
theorem ZlD(a b:List Int)(x13:Int)(N0:NT)(Q:QT)(h:let z1:=decide (x13 < (a.length:Int));let z0:=((a.getD x13.toNat (0:Int)):Int) !=(b.getD x13.toNat (0:Int));((z1=true->(((0:Int)<=x13/\x13 < (a.length:Int))/\((0:Int)<=x13/\x13 < (b.length:Int))/\((z0=true->(Q .ret (L2 [pB 4 false] [])))/\(z0=false->(InR (x13+1))/\(N0 (Z4n a b (x13+1)))))))/\(z1=false->(Q .ret (L2 [pB 4 true] []))))):
  Zv4 [1,1,0,1,0,0] (Z4n a b x13) (xT N0 (xB 0 (ZwA [1,1,1] Q))):=
 Eq.mpr (by kernel_rfl) h
def Zrr(a b:List Int):Prop:=AW (Z2 Zhc) Try.f148 ZiG [] (Zk (Zop.can (a,b,())) []) (EQ Try.f148 (Zf3 (a,b,())) [])
theorem Zqa(hb:∀ (a:List Int) (b:List Int) (_:Unit),Zcc (a,b,())->Zrr a b):CT 148 Za1:=
 Z3 (l:=[]) Zl rfl trivial ZiG Try.func148 rfl rfl 2 (fun _=> rfl) (by decide) (fun ⟨a,b,_⟩=> hb a b ())
def Znu:Ze U:=lvl [([1,2],[2]),([1,2,13],[2]),([4],[]),([4],[])]
abbrev ZxG(p:List Nat):=AW (Z2 Zhc) Try.f149 Znu p
theorem ZvD(t:Tree)(i:Int)(Q:QT)(h:let z1:= !(decide (i < 0));let z0:=bif (decide (i < 0)) then true else (decide (((t.words.length:Int):Int)<=i));((Tr (z1=true))/\(Tr (z1=true))/\(Tr (z1=true))/\(Tr (z1=true))/\((decide (i < 0))=false->z1=true)/\((z0=true->(Q .ret (L2 [(4,.c (.int .u64 0))] [])))/\(z0=false->((0:Int)<=i/\i < (t.words.length:Int))/\(Q .ret (L2 [(4,.c (.int .u64 (t.words.getD i.toNat (0:Int))))] [])))))):
  ZxG [] (L2 [(0,.agg (enc .tree t)),pI 1 i] []) Q:=
 Eq.mpr (by kernel_rfl) h
def Zrq(t:Tree)(i:Int):Prop:=AW (Z2 Zhc) Try.f149 Znu [] (Zk (ZjL.can (t,i,())) []) (EQ Try.f149 (Zdk (t,i,())) [])
theorem Zq9(hb:∀ (t:Tree) (i:Int) (_:Unit),Z7n (t,i,())->Zrq t i):CT 149 Z0G:=
 Z3 (l:=[]) Zl rfl trivial Znu Try.func149 rfl rfl 2 (fun _=> rfl) (by decide) (fun ⟨t,i,_⟩=> hb t i ())
def Ztq:Ze U:=lvl [([1,2,4],[2,4]),([1,2,4,13],[2,4]),([4],[4]),([4],[4])]
abbrev A91(p:List Nat):=AW (Z2 Zhc) Try.f91 Ztq p
theorem ZwM(t:Tree)(i:Int)(Q:QT)(h:let z1:= !(decide (i < 0));let z0:=bif (decide (i < 0)) then true else (decide (((t.kids.length:Int):Int)<=i));((Tr (z1=true))/\(Tr (z1=true))/\(Tr (z1=true))/\(Tr (z1=true))/\((decide (i < 0))=false->z1=true)/\((z0=true->(Q .ret (L2 [pL 4] [(.loc 4,[ci 0,.nils,.nils])])))/\(z0=false->((0:Int)<=i/\i < (t.kids.length:Int))/\(Q .ret (L2 [pL 4] [(.loc 4,(enc .tree (t.kids.getD i.toNat Tree.nil)))])))))):
  A91 [] (L2 [(0,.agg (enc .tree t)),pI 1 i] []) Q:=
 Eq.mpr (by kernel_rfl) h
def Zuw(t:Tree)(i:Int):Prop:=AW (Z2 Zhc) Try.f91 Ztq [] (Zk (ZjL.can (t,i,())) []) (EQ Try.f91 (Zi6 (t,i,())) [])
theorem Zt3(hb:∀ (t:Tree) (i:Int) (_:Unit),Z7n (t,i,())->Zuw t i):CT 91 Z2B:=
 Z3 (l:=[]) Zl rfl trivial Ztq Try.func91 rfl rfl 2 (fun _=> rfl) (by decide) (fun ⟨t,i,_⟩=> hb t i ())
def Zhd(N:Nat):List (FuncId × Fs U):=(71,fs ZhA (fun a=> [Z04 a,ZkH a < N]) Zc6) ::[(109,Z5I)]
def Zqq:Ze U:=fun i=> match i with
 | 0=> ([(1,[]),(2,[])],[(.loc 1,[]),(.loc 2,[])])
 | 1=> ([(1,[]),(2,[]),(8,[])],[(.loc 1,[]),(.loc 2,[])])
 | 2=> ([(2,[])],[(.loc 2,[])])
 | 3=> ([(1,[]),(2,[]),(3,[])],[(.loc 1,[]),(.loc 2,[]),(.loc 3,[])])
 | 4=> ([(1,[]),(2,[]),(3,[]),(17,[]),(18,[]),(19,[])],[(.loc 1,[]),(.loc 2,[]),(.loc 3,[.any,.any,.own .tree])])
 | 5=> ([(1,[]),(2,[]),(3,[]),(17,[]),(18,[]),(19,[]),(20,[])],[(.loc 1,[]),(.loc 2,[]),(.loc 3,[])])
 | 6=> ([(1,[]),(2,[]),(3,[]),(5,[]),(17,[]),(18,[]),(19,[])],[(.loc 1,[]),(.loc 2,[]),(.loc 3,[]),(.loc 5,[])])
 | 7=> ([(1,[]),(2,[]),(3,[]),(17,[]),(18,[]),(19,[])],[(.loc 1,[]),(.loc 2,[]),(.loc 3,[])])
 | 8=> ([(1,[]),(2,[]),(3,[]),(17,[]),(18,[]),(19,[])],[(.loc 1,[]),(.loc 2,[]),(.loc 3,[.any,.any,.own .tree])])
 | 9=> ([(2,[]),(3,[]),(33,[])],[(.loc 2,[]),(.loc 3,[.any,.any,.unk .tree])])
 | 10=> ([(2,[]),(3,[]),(33,[]),(48,[])],[(.loc 2,[]),(.loc 3,[.any,.any,.unk .tree])])
 | 11=> ([(2,[]),(3,[]),(33,[])],[(.loc 2,[]),(.loc 3,[.any,.any,.unk .tree])])
 | 12=> ([(2,[]),(3,[]),(33,[]),(48,[]),(72,[])],[(.loc 2,[]),(.loc 3,[])])
 | 13=> ([(2,[]),(3,[]),(33,[]),(48,[])],[(.loc 2,[]),(.loc 3,[.any,.any,.unk .tree])])
 | 14=> ([(2,[])],[(.loc 2,[])])
 | _=> ([],[])
def Z6x(t:Tree)(x19:Int)(ml3_2:List Tree):LSt U:=(L2 [pL 1,pL 2,pL 3,(17,.c (sU .tree t.kids .unk)),pI 18 (t.kids.length:Int),pI 19 x19] [(.loc 1,(enc .tree t)),(.loc 2,[ci 0,.nils,.nils]),(.loc 3,[ci t.kind,sU .u64 t.words .unk,sU .tree ml3_2 (.own (.l 3 2))])])
def Z6w(t:Tree)(ml3_2:List Tree)(ml3_1_a:List Int):LSt U:=(L2 [pL 2,pL 3,pB 33 ((t.kind:Int)==1)] [(.loc 2,[ci 0,.nils,.nils]),(.loc 3,[ci t.kind,sU .u64 ml3_1_a .unk,sU .tree ml3_2 .unk])])
def Z6v(t:Tree)(ml3_1_a:List Int)(ml3_2_b:List Tree):LSt U:=(L2 [pL 2,pL 3,pB 33 ((t.kind:Int)==1),(48,.c (.bool (bif (decide ((0:Int) < (ml3_1_a.length:Int))) then (((List.getD ml3_1_a (Int.toNat (((ml3_1_a.length:Int):Int) - 1)) (0:Int)):Int)==0) else false)))] [(.loc 2,[ci 0,.nils,.nils]),(.loc 3,[ci t.kind,sU .u64 ml3_1_a .unk,sU .tree ml3_2_b .unk])])
abbrev A71(N:Nat)(p:List Nat):=AW (Z2 (Zhd N)) Try.f71 Zqq p
abbrev S71(N:Nat)(p:List Nat):=SW (Z2 (Zhd N)) Try.f71 Zqq p
theorem ZwS(N:Nat)(t:Tree)(Q:QT)(h:(((t.kind==0)=true->(Q .ret (L2 [pL 2] [(.loc 2,[ci 0,.nils,.nils])])))/\((t.kind==0)=false->(ZaK (t.words,()))/\(Zm (A71 N [1,1,1,0,1,0,0]) (Z6x t 0 []) (xB 0 (S71 N [1,1,1,1] Q)))))):
  A71 N [] (L2 [(0,.agg (enc .tree t))] []) Q:=
 Eq.mpr (by kernel_rfl) h
theorem Zp3(N:Nat)(t:Tree)(x19:Int)(ml3_2:List Tree)(N0:NT)(Q:QT)(h:∀ y_1,y_1=(t.kids.getD x19.toNat Tree.nil)->∀ y_2,y_2=y_1->∀ y_3,y_3=(Z7 y_2)->let z0:=decide (x19 < (t.kids.length:Int));((z0=true->((0:Int)<=x19/\x19 < (t.kids.length:Int))/\((Z04 (y_2,()))/\(ZkH (y_2,()) < N)/\((ml3_2.length+([y_3]).length)*56<=140737488355328)/\((InR (x19+1))/\(N0 (Z6x t (x19+1) (ml3_2++([y_3])))))))/\(z0=false->(((t.kind==1)=true->Zm (A71 N [1,1,1,1,0,1,0,0,0,0]) (Z6w t ml3_2 t.words) (xB 2 (S71 N [1,1,1,1,0,1,0,1] (S71 N [1,1,1,1,1] Q))))/\((t.kind==1)=false->(Q .ret (L2 [pL 2] [(.loc 2,[ci t.kind,sU .u64 t.words .unk,sU .tree ml3_2 .unk])]))))))):
  A71 N [1,1,1,0,1,0,0] (Z6x t x19 ml3_2) (xT N0 (xB 0 (S71 N [1,1,1,1] Q))):=
 Eq.mpr (by kernel_rfl) (h _ rfl _ (Zd _) _ (Zd _))
theorem Zp2(N:Nat)(t:Tree)(ml3_2:List Tree)(ml3_1_a:List Int)(N1:NT)(Q:QT)(h:let z0:=decide ((0:Int) < (ml3_1_a.length:Int));let z1:=bif z0 then (((List.getD ml3_1_a (Int.toNat (((ml3_1_a.length:Int):Int) - 1)) (0:Int)):Int)==0) else false;(Tr (z0=true))/\(Tr (z0=true))/\(Tr (z0=true))/\(Tr (z0=true))/\(z0=true->InR (((ml3_1_a.length:Int):Int) - 1))/\(Tr (z0=true))/\(Tr (z0=true))/\(z0=true->(0:Int)<=(((ml3_1_a.length:Int):Int) - 1)/\(((ml3_1_a.length:Int):Int) - 1) < (ml3_1_a.length:Int))/\(Tr (z0=true))/\(Tr (z0=true))/\(Tr (z0=true))/\((z1=true->(InR (((ml3_1_a.length:Int):Int) - 1))/\((0:Int)<=(((ml3_1_a.length:Int):Int) - 1)/\(((ml3_1_a.length:Int):Int) - 1)<=(ml3_1_a.length:Int))/\(N1 (Z6w t ml3_2 (List.take (Int.toNat (((ml3_1_a.length:Int):Int) - 1)) ml3_1_a))))/\(z1=false->Zm (A71 N [1,1,1,1,0,1,0,1,0,0]) (Z6v t ml3_1_a ml3_2) (xB 4 (S71 N [1,1,1,1,1] Q))))):
  A71 N [1,1,1,1,0,1,0,0,0,0] (Z6w t ml3_2 ml3_1_a) (xT N1 (xB 2 (S71 N [1,1,1,1,0,1,0,1] (S71 N [1,1,1,1,1] Q)))):=
 Eq.mpr (by kernel_rfl) h
theorem Zp1(N:Nat)(t:Tree)(ml3_1_a:List Int)(ml3_2_b:List Tree)(N2:NT)(Q:QT)(h:let z0:=decide ((0:Int) < (ml3_2_b.length:Int));let z1:=bif z0 then (((Tree.kind (List.getD ml3_2_b (Int.toNat (((ml3_2_b.length:Int):Int) - 1)) Tree.nil)):Int)==0) else false;(Tr (z0=true))/\(Tr (z0=true))/\(Tr (z0=true))/\(Tr (z0=true))/\(z0=true->InR (((ml3_2_b.length:Int):Int) - 1))/\(Tr (z0=true))/\(Tr (z0=true))/\(z0=true->(0:Int)<=(((ml3_2_b.length:Int):Int) - 1)/\(((ml3_2_b.length:Int):Int) - 1) < (ml3_2_b.length:Int))/\(Tr (z0=true))/\(Tr (z0=true))/\(Tr (z0=true))/\(Tr (z0=true))/\((z1=true->(InR (((ml3_2_b.length:Int):Int) - 1))/\((0:Int)<=(((ml3_2_b.length:Int):Int) - 1)/\(((ml3_2_b.length:Int):Int) - 1)<=(ml3_2_b.length:Int))/\(N2 (Z6v t ml3_1_a (List.take (Int.toNat (((ml3_2_b.length:Int):Int) - 1)) ml3_2_b))))/\(z1=false->(Q .ret (L2 [pL 2] [(.loc 2,[ci t.kind,sU .u64 ml3_1_a .unk,sU .tree ml3_2_b .unk])]))))):
  A71 N [1,1,1,1,0,1,0,1,0,0] (Z6v t ml3_1_a ml3_2_b) (xT N2 (xB 4 (S71 N [1,1,1,1,1] Q))):=
 Eq.mpr (by kernel_rfl) h
def ZuC(N:Nat)(t:Tree):Prop:=AW (Z2 (Zhd N)) Try.f71 Zqq [] (Zk (ZhA.can (t,())) []) (EQ Try.f71 (Zc6 (t,())) [])
theorem Zt8(Zuc:CT 109 Z5I)(hb:∀ (N:Nat) (t:Tree) (_:Unit),Z04 (t,())->ZkH (t,()) < N+1->ZuC N t):CT 71 JB:=
 Yu (μ:=ZkH) (l:=[(109,Z5I)]) Zl rfl (⟨Zuc,trivial⟩) Zqq Try.func71 rfl rfl 1 (fun _=> rfl) (by decide) (fun N ⟨t,_⟩=> hb N t ())
def Zhm(N:Nat):List (FuncId × Fs U):=(29,fs ZhD (fun a=> [Z30 a,ZkJ a < N]) Zc7) ::[(75,Za1)]
def Zqz:Ze U:=lvl [([2,3],[2,3]),([2,3,27],[2,3]),([4],[]),([2,3,5],[2,3]),([2,3,5,32],[2,3]),([2,3,5],[2,3]),([2,3,5,46],[2,3]),([4],[]),([4],[])]
def Z6J(a b:Tree)(x5:Int):LSt U:=(L2 [pL 2,pL 3,pI 5 x5] [(.loc 2,(enc .tree a)),(.loc 3,(enc .tree b))])
abbrev A29(N:Nat)(p:List Nat):=AW (Z2 (Zhm N)) Try.f29 Zqz p
abbrev S29(N:Nat)(p:List Nat):=SW (Z2 (Zhm N)) Try.f29 Zqz p
theorem Zx9(N:Nat)(a b:Tree)(Q:QT)(h:let z1:=a.kind !=b.kind;let z0:=bif z1 then true else (!(decide (a.words=b.words)));let z2:=bif z0 then true else (((a.kids.length:Int):Int) !=(b.kids.length:Int));((Tr ((!z1)=true))/\(Tr ((!z1)=true))/\(Tr ((!z1)=true))/\(Tr ((!z1)=true))/\((!z1)=true->Zcc (a.words,b.words,()))/\(Tr ((!z1)=true))/\(z1=false->(!z1)=true)/\(Tr ((!z0)=true))/\(Tr ((!z0)=true))/\(Tr ((!z0)=true))/\(Tr ((!z0)=true))/\(Tr ((!z0)=true))/\(Tr ((!z0)=true))/\(z0=false->(!z0)=true)/\((z2=true->(Q .ret (L2 [pB 4 false] [])))/\(z2=false->(Zm (A29 N [1,1,0,1,0,0]) (Z6J a b 0) (xB 0 (S29 N [1,1,1] Q))))))):
  A29 N [] (L2 [(0,.agg (enc .tree a)),(1,.agg (enc .tree b))] []) Q:=
 Eq.mpr (by kernel_rfl) h
theorem Zpi(N:Nat)(a b:Tree)(x5:Int)(N0:NT)(Q:QT)(h:∀ y_1,y_1=(a.kids.getD x5.toNat Tree.nil)->∀ y_2,y_2=(b.kids.getD x5.toNat Tree.nil)->∀ y_3,y_3=y_1->∀ y_4,y_4=y_2->let z0:=decide (x5 < (a.kids.length:Int));((z0=true->((0:Int)<=x5/\x5 < (a.kids.length:Int))/\((0:Int)<=x5/\x5 < (b.kids.length:Int))/\(Z30 (y_3,y_4,()))/\(ZkJ (y_3,y_4,()) < N)/\(((!(Y3 y_3 y_4))=true->(Q .ret (L2 [pB 4 false] [])))/\((!(Y3 y_3 y_4))=false->(InR (x5+1))/\(N0 (Z6J a b (x5+1))))))/\(z0=false->(Q .ret (L2 [pB 4 true] []))))):
  A29 N [1,1,0,1,0,0] (Z6J a b x5) (xT N0 (xB 0 (S29 N [1,1,1] Q))):=
 Eq.mpr (by kernel_rfl) (h _ rfl _ rfl _ (Zd _) _ (Zd _))
def ZuT(N:Nat)(a b:Tree):Prop:=AW (Z2 (Zhm N)) Try.f29 Zqz [] (Zk (ZhD.can (a,b,())) []) (EQ Try.f29 (Zc7 (a,b,())) [])
theorem Ztm(c75:CT 75 Za1)(hb:∀ (N:Nat) (a:Tree) (b:Tree) (_:Unit),Z30 (a,b,())->ZkJ (a,b,()) < N+1->ZuT N a b):CT 29 Z3d:=
 Yu (μ:=ZkJ) (l:=[(75,Za1)]) Zl rfl (⟨c75,trivial⟩) Zqz Try.func29 rfl rfl 2 (fun _=> rfl) (by decide) (fun N ⟨a,b,_⟩=> hb N a b ())
def Ze4(N:Nat):List (FuncId × Fs U):=(106,fs ZhD (fun a=> [Z0y a,Zcn a < N]) Z53) ::[(148,Za1),(149,Z0G),(91,Z2B)]
def ZiL:Ze U:=lvl [([2,3],[2,3]),([2,3,16],[2,3]),([4],[]),([2,3,41],[2,3]),([4],[]),([2,3,48,49],[2,3]),([2,3,48,49,50],[2,3]),([2,3,5,48,49],[2,3]),([2,3,48,49,58],[2,3]),([4],[]),([2,3,48,49],[2,3]),([2,3,66,67],[2,3]),([2,3,66,67,68],[2,3]),([2,3,6,66,67],[2,3]),([2,3,66,67,77],[2,3]),([4],[]),([2,3,66,67],[2,3]),([4],[])]
def Z4z(a b:Tree)(x49:Int):LSt U:=(L2 [pL 2,pL 3,pI 48 (if ((a.words.length:Int):Int) < (b.words.length:Int) then (b.words.length:Int) else (a.words.length:Int)),pI 49 x49] [(.loc 2,(enc .tree a)),(.loc 3,(enc .tree b))])
def Z4y(a b:Tree)(x67_a:Int):LSt U:=(L2 [pL 2,pL 3,pI 66 (if ((a.kids.length:Int):Int) < (b.kids.length:Int) then (b.kids.length:Int) else (a.kids.length:Int)),pI 67 x67_a] [(.loc 2,(enc .tree a)),(.loc 3,(enc .tree b))])
abbrev ZoP(N:Nat)(p:List Nat):=AW (Z2 (Ze4 N)) Try.f106 ZiL p
abbrev ZqW(N:Nat)(p:List Nat):=SW (Z2 (Ze4 N)) Try.f106 ZiL p
theorem ZvQ(N:Nat)(a b:Tree)(Q:QT)(h:let z3:=a.kind !=b.kind;let z4:=bif z3 then true else (a.kind==0);let z0:=((a.kids.length:Int):Int) !=(b.kids.length:Int);let z2:=bif (a.kind !=1) then (bif z0 then true else (!(decide (a.words=b.words)))) else false;let z1:=(a.kind !=1) && (!z0);((Tr ((!z3)=true))/\(Tr ((!z3)=true))/\(z3=false->(!z3)=true)/\((z4=true->(Q .ret (L2 [pB 4 (a.kind==b.kind)] [])))/\(z4=false->(Tr ((a.kind !=1)=true))/\(Tr ((a.kind !=1)=true))/\(Tr ((a.kind !=1)=true))/\(Tr ((a.kind !=1)=true))/\(Tr ((a.kind !=1)=true))/\(Tr ((a.kind !=1)=true))/\(Tr ((a.kind !=1)=true))/\(Tr (z1=true))/\(Tr (z1=true))/\(Tr (z1=true))/\(Tr (z1=true))/\(z1=true->Zcc (a.words,b.words,()))/\(Tr (z1=true))/\((a.kind !=1)=true->(True->(a.kind !=1)=true))/\((a.kind !=1)=true->(z0=false->z1=true))/\(Tr ((a.kind !=1)=true))/\((z2=true->(Q .ret (L2 [pB 4 false] [])))/\(z2=false->(Zm (ZoP N [1,1,1,0,1,0,0]) (Z4z a b 0) (xB 0 (ZqW N [1,1,1,1] Q))))))))):
  ZoP N [] (L2 [(0,.agg (enc .tree a)),(1,.agg (enc .tree b))] []) Q:=
 Eq.mpr (by kernel_rfl) h
theorem ZlR(N:Nat)(a b:Tree)(x49:Int)(N0:NT)(Q:QT)(h:let z3:=Tree.mk b.kind b.words b.kids;let z2:=Tree.mk a.kind a.words a.kids;let z1:=((YY z2 x49):Int) !=(YY z3 x49);let z0:=decide (x49 < (if ((a.words.length:Int):Int) < (b.words.length:Int) then (b.words.length:Int) else (a.words.length:Int)));((z0=true->((Z7n (z2,x49,()))/\(Z7n (z3,x49,()))/\((z1=true->(Q .ret (L2 [pB 4 false] [])))/\(z1=false->(InR (x49+1))/\(N0 (Z4z a b (x49+1)))))))/\(z0=false->(Zm (ZoP N [1,1,1,1,0,1,0,0]) (Z4y a b 0) (xB 2 (ZqW N [1,1,1,1,1] Q)))))):
  ZoP N [1,1,1,0,1,0,0] (Z4z a b x49) (xT N0 (xB 0 (ZqW N [1,1,1,1] Q))):=
 Eq.mpr (by kernel_rfl) h
theorem ZlQ(N:Nat)(a b:Tree)(x67_a:Int)(N1:NT)(Q:QT)(h:∀ y_1,y_1=a->∀ y_2,y_2=b->∀ y_3,y_3=(Jf y_1 x67_a)->∀ y_4,y_4=(Jf y_2 x67_a)->let z1:= !(Y3 (Z7 y_3) (Z7 y_4));let z0:=decide (x67_a < (if ((a.kids.length:Int):Int) < (b.kids.length:Int) then (b.kids.length:Int) else (a.kids.length:Int)));((z0=true->((Z7n (y_1,x67_a,()))/\(Z7n (y_2,x67_a,()))/\(Z0y (y_3,y_4,()))/\(Zcn (y_3,y_4,()) < N)/\((z1=true->(Q .ret (L2 [pB 4 false] [])))/\(z1=false->(InR (x67_a+1))/\(N1 (Z4y a b (x67_a+1)))))))/\(z0=false->(Q .ret (L2 [pB 4 true] []))))):
  ZoP N [1,1,1,1,0,1,0,0] (Z4y a b x67_a) (xT N1 (xB 2 (ZqW N [1,1,1,1,1] Q))):=
 Eq.mpr (by kernel_rfl) (h _ (Zd _) _ (Zd _) _ (Zd _) _ (Zd _))
def ZrD(N:Nat)(a b:Tree):Prop:=AW (Z2 (Ze4 N)) Try.f106 ZiL [] (Zk (ZhD.can (a,b,())) []) (EQ Try.f106 (Z53 (a,b,())) [])
theorem Zqi(Zu7:CT 148 Za1)(Zlc:CT 149 Z0G)(c91:CT 91 Z2B)(hb:∀ (N:Nat) (a:Tree) (b:Tree) (_:Unit),Z0y (a,b,())->Zcn (a,b,()) < N+1->ZrD N a b):CT 106 YV:=
 Yu (μ:=Zcn) (l:=[(148,Za1),(149,Z0G),(91,Z2B)]) Zl rfl (⟨Zu7,Zlc,c91,trivial⟩) ZiL Try.func106 rfl rfl 2 (fun _=> rfl) (by decide) (fun N ⟨a,b,_⟩=> hb N a b ())
end
theorem vcU:(∀ {p q:Prop},(p->q->p/\q)=True)/\(∀ {p:Prop},(True/\p)=p)/\(∀ {p:Prop},(p/\True)=p)/\(∀ {p:Prop},(p->True)=True):=
 ⟨by intros;simp+contextual,by simp,by simp,by simp⟩
theorem Zaf:∀ {ks:List Tree} {i:Nat},Z1N ks->i < ks.length->Z3h (ks.getD i Tree.nil)
 | t ::_,0,h,_=> by simp only [Z1N] at h;exact h.1
 | _ ::r,i+1,h,hi=> by simp only [Z1N] at h;exact Zaf (ks:=r) (i:=i) h.2 (by simpa using hi)
theorem Z0c:∀ {ks:List Tree} {i:Nat},i < ks.length->Zj (ks.getD i Tree.nil)<=Z4 ks
 | t ::_,0,_=> by simp only [Z4,Qg];omega
 | t ::r,i+1,h=> by
  have:=Z0c (ks:=r) (i:=i) (by simpa using h)
  simp only [Z4,K4]
  omega
mutual
theorem Ye:∀ (t:Tree) (d l:Int),-1<=ZH t d l/\ZH t d l<=max l (-1)
 | .mk _ w ks,d,l=> by
  simp only [ZH]
  split
  ·omega
  ·have:=JQ ks (d - 1) (l - 1 - w.length) (by omega)
   omega
theorem JQ:∀ (ks:List Tree) (d l:Int),-1<=l->-1<=Zo ks d l/\Zo ks d l<=l
 | [],d,l,h=> by simp only [Zo];omega
 | t ::r,d,l,h=> by
  simp only [Zo]
  split
  ·omega
  ·have h1:=Ye t d l
   have h2:=JQ r d (ZH t d l) h1.1
   omega
end
theorem ZbB{ks:List Tree}{i:Nat}{d l:Int}(h:i < ks.length)(hl:0<=l):Zo (ks.drop i) d l=Zo (ks.drop (i+1)) d (ZH (ks.getD i Tree.nil) d l):=by
 rw [QI h]
 simp only [Zo]
 rw [if_neg (by omega)]
 simp [List.getD,h]
theorem c78:Contract Try.prog cfg 78 Za0:=by
 refine Zt6 ?_
 rintro N ⟨k,ws,ks⟩ d l _ ⟨hs,h1,h2,h3,h4⟩ hN
 simp only [Z3h,ZkG,Zj] at*
 refine ZwP N _ _ _ _ ?_;(try simp only [vcT,forall_eq])
 (simp only [vcS]);(try simp only [vcT])
 try (simp only [Tree.eta,Edit.eta,Tree.kind_mk,Tree.words_mk,Tree.kids_mk])
 refine ⟨by unfold InR;omega,by unfold InR;omega,fun hc=> ?_,fun hc=> ?_⟩
 ·have e:ZH (.mk k ws ks) d l= -1:=by
   simp only [ZH]
   rw [if_pos (by omega)]
  simp only [Zf1,e]
  exact ⟨⟨rfl,⟨⟨rfl,rfl⟩,trivial⟩,trivial⟩,trivial⟩
 ·have e:ZH (.mk k ws ks) d l=Zo ks (d - 1) (l - 1 - ws.length):=by
   simp only [ZH]
   rw [if_neg (by omega)]
  simp only [Zf1,e]
  refine Za (ι:=Int × Int) (fun p=> Z6t (.mk k ws ks) d l p.1 p.2) (fun p=> 0<=p.2/\p.2<=ks.length/\-1<=p.1/\p.1<=l/\Zo (ks.drop p.2.toNat) (d - 1) p.1=Zo ks (d - 1) (l - 1 - ws.length)) (fun p=> ((ks.length:Int) - p.2).toNat) (l - 1 - ws.length,0) rfl ⟨by omega,by omega,by omega,by omega,by simp⟩ ?_
  rintro ⟨l',i⟩ ⟨h5,h6,h7,h8,h9⟩
  dsimp only at*
  refine ZoZ N _ _ _ _ _ _ _ ?_;(try simp only [vcT,forall_eq])
  (simp only [vcS]);(try simp only [vcT])
  try (simp only [Tree.eta,Edit.eta,Tree.kind_mk,Tree.words_mk,Tree.kids_mk])
  refine ⟨fun hc=> ?_,fun hc=> ?_⟩
  ·have hi:i.toNat < ks.length:=by omega
   have hr:=Ye (ks.getD i.toNat Tree.nil) (d - 1) l'
   have hn:=Z0c hi
   have hd:=ZbB (d:=d - 1) hi hc.2
   refine ⟨by omega,by unfold InR;omega,⟨Zaf hs.2.2 hi,by dsimp only;omega,by dsimp only;omega,by dsimp only;omega,by dsimp only;omega⟩,by simp only [ZkG];omega,by unfold InR;omega,⟨(ZH (ks.getD i.toNat Tree.nil) (d - 1) l',i+1),rfl,⟨by dsimp only;omega,by dsimp only;omega,by dsimp only;omega,by dsimp only;omega,?_⟩,by dsimp only;omega⟩⟩
   dsimp only
   rw [<-h9,hd]
   congr 2
   omega
  ·have e:Zo ks (d - 1) (l - 1 - ws.length)=l':=by
    rw [<-h9]
    by_cases hi:i < ks.length
    ·rw [QI (by omega)]
     simp only [Zo]
     rw [if_pos (by omega)]
    ·rw [Qt (by omega)]
     simp only [Zo]
   rw [e]
   exact ⟨⟨rfl,⟨⟨rfl,rfl⟩,trivial⟩,trivial⟩,trivial⟩
theorem Zuc:Contract Try.prog cfg 109 Z5I:=by
 refine Zqh ?_
 intro l _ hp
 refine ZvN _ _ ?_;(try simp only [vcT,forall_eq])
 simp only [ZaK] at hp
 refine ⟨fun h=> ?_,⟨by simp only [Qb];omega,?_⟩⟩
 ·subst h
  exact ⟨⟨rfl,⟨rfl,trivial⟩,trivial⟩,trivial⟩
 ·exact ⟨⟨rfl,⟨⟨rfl,trivial⟩,trivial⟩,trivial⟩,trivial⟩
theorem Z9v{a b:List Int}{i:Int}(hi:0<=i)(ha:i < a.length)(hb:i < b.length):(a.drop i.toNat=b.drop i.toNat)↔(a.getD i.toNat 0=b.getD i.toNat 0/\a.drop (i+1).toNat=b.drop (i+1).toNat):=by
 have e:(i+1).toNat=i.toNat+1:=by omega
 rw [QI (by omega),QI (l:=b) (by omega),e]
 simp only [List.cons.injEq,List.getD,Q0 (show i.toNat < a.length by omega),Q0 (show i.toNat < b.length by omega),X6]
theorem c75:Contract Try.prog cfg 75 Za1:=by
 refine Zt7 ?_
 intro a b _ hp
 simp only [Zcc] at hp
 refine ZwR _ _ _ ?_;(try simp only [vcT,forall_eq])
 (simp only [vcS]);(try simp only [vcT])
 refine ⟨fun hc=> ?_,fun hc=> ?_⟩
 ·have e:decide (a=b)=false:=by
   simp only [decide_eq_false_iff_not]
   rintro rfl
   omega
  simp only [Zf3,e]
  exact ⟨⟨rfl,⟨rfl,trivial⟩,trivial⟩,trivial⟩
 ·have hl:a.length=b.length:=by omega
  refine Za (ι:=Int) (fun p=> Z6u a b p) (fun p=> 0<=p/\p<=a.length/\(a=b↔a.drop p.toNat=b.drop p.toNat)) (fun p=> ((a.length:Int) - p).toNat) 0 rfl ⟨by omega,by omega,by simp⟩ ?_
  rintro i ⟨h1,h2,h3⟩
  refine Zp0 _ _ _ _ _ ?_;(try simp only [vcT,forall_eq])
  (simp only [vcS]);(try simp only [vcT])
  refine ⟨fun hc=> ⟨by omega,by omega,fun hn=> ?_,fun he=> ⟨by unfold InR;omega,i+1,rfl,⟨by omega,by omega,?_⟩,by omega⟩⟩,fun hc=> ?_⟩
  ·have e:decide (a=b)=false:=by
    simp only [decide_eq_false_iff_not,h3]
    rw [Z9v h1 hc (by omega)]
    exact fun h=> hn h.1
   simp only [Zf3,e]
   exact ⟨⟨rfl,⟨rfl,trivial⟩,trivial⟩,trivial⟩
  ·rw [h3,Z9v h1 hc (by omega)]
   exact ⟨fun h=> h.2,fun h=> ⟨by simpa using he,h⟩⟩
  ·have e:decide (a=b)=true:=by
    simp only [decide_eq_true_eq,h3]
    rw [Qt (by omega),Qt (by omega)]
   simp only [Zf3,e]
   exact ⟨⟨rfl,⟨rfl,trivial⟩,trivial⟩,trivial⟩
theorem Zlc:Contract Try.prog cfg 149 Z0G:=by
 refine Zq9 ?_
 intro t i _ hp
 refine ZvD _ _ _ ?_;(try simp only [vcT,forall_eq])
 (simp only [vcS]);(try simp only [vcT])
 (repeat (refine And.intro (by first | omega | (unfold InR;omega) | (dsimp only;omega)) ?_))
 refine ⟨fun hc=> ?_,fun hc=> ⟨by omega,?_⟩⟩
 ·have e:YY t i=0:=by
   unfold YY
   split
   ·try rfl
   ·rw [List.getD,Qw (by omega)]
    try rfl
  simp only [Zdk,e]
  exact ⟨⟨rfl,⟨⟨rfl,rfl⟩,trivial⟩,trivial⟩,trivial⟩
 ·have e:YY t i=t.words.getD i.toNat 0:=by
   unfold YY
   rw [if_neg (by omega)]
  simp only [Zdk,e]
  exact ⟨⟨rfl,⟨⟨rfl,rfl⟩,trivial⟩,trivial⟩,trivial⟩
theorem c91:Contract Try.prog cfg 91 Z2B:=by
 refine Zt3 ?_
 intro t i _ hp
 refine ZwM _ _ _ ?_;(try simp only [vcT,forall_eq])
 (simp only [vcS]);(try simp only [vcT])
 (repeat (refine And.intro (by first | omega | (unfold InR;omega) | (dsimp only;omega)) ?_))
 refine ⟨fun hc=> ?_,fun hc=> ⟨by omega,?_⟩⟩
 ·have e:Jf t i=Tree.nil:=by
   unfold Jf
   split
   ·try rfl
   ·rw [List.getD,Qw (by omega)]
    try rfl
  simp only [Zi6,e]
  exact ⟨⟨rfl,⟨⟨rfl,rfl⟩,⟨rfl,⟨rfl,trivial⟩⟩⟩,trivial⟩,trivial⟩
 ·have e:Jf t i=t.kids.getD i.toNat Tree.nil:=by
   unfold Jf
   rw [if_neg (by omega)]
  simp only [Zi6,e]
  exact ⟨⟨rfl,⟨⟨rfl,rfl⟩,⟨rfl,trivial⟩,⟨rfl,trivial⟩,trivial⟩,trivial⟩,trivial⟩
theorem Zu7:Contract Try.prog cfg 148 Za1:=by
 refine Zqa ?_
 intro a b _ hp
 simp only [Zcc] at hp
 refine ZvE _ _ _ ?_;(try simp only [vcT,forall_eq])
 (simp only [vcS]);(try simp only [vcT])
 refine ⟨fun hc=> ?_,fun hc=> ?_⟩
 ·have e:decide (a=b)=false:=by
   simp only [decide_eq_false_iff_not]
   rintro rfl
   omega
  simp only [Zf3,e]
  exact ⟨⟨rfl,⟨rfl,trivial⟩,trivial⟩,trivial⟩
 ·have hl:a.length=b.length:=by omega
  refine Za (ι:=Int) (fun p=> Z4n a b p) (fun p=> 0<=p/\p<=a.length/\(a=b↔a.drop p.toNat=b.drop p.toNat)) (fun p=> ((a.length:Int) - p).toNat) 0 rfl ⟨by omega,by omega,by simp⟩ ?_
  rintro i ⟨h1,h2,h3⟩
  refine ZlD _ _ _ _ _ ?_;(try simp only [vcT,forall_eq])
  (simp only [vcS]);(try simp only [vcT])
  refine ⟨fun hc=> ⟨by omega,by omega,fun hn=> ?_,fun he=> ⟨by unfold InR;omega,i+1,rfl,⟨by omega,by omega,?_⟩,by omega⟩⟩,fun hc=> ?_⟩
  ·have e:decide (a=b)=false:=by
    simp only [decide_eq_false_iff_not,h3]
    rw [Z9v h1 hc (by omega)]
    exact fun h=> hn h.1
   simp only [Zf3,e]
   exact ⟨⟨rfl,⟨rfl,trivial⟩,trivial⟩,trivial⟩
  ·rw [h3,Z9v h1 hc (by omega)]
   exact ⟨fun h=> h.2,fun h=> ⟨by simpa using he,h⟩⟩
  ·have e:decide (a=b)=true:=by
    simp only [decide_eq_true_eq,h3]
    rw [Qt (by omega),Qt (by omega)]
   simp only [Zf3,e]
   exact ⟨⟨rfl,⟨rfl,trivial⟩,trivial⟩,trivial⟩
theorem Zg2{a b:List Tree}{i:Int}(hi:0<=i)(ha:i < a.length)(hb:i < b.length):(a.drop i.toNat=b.drop i.toNat)↔(a.getD i.toNat Tree.nil=b.getD i.toNat Tree.nil/\a.drop (i+1).toNat=b.drop (i+1).toNat):=by
 have e:(i+1).toNat=i.toNat+1:=by omega
 rw [QI (by omega),QI (l:=b) (by omega),e]
 simp only [List.cons.injEq,List.getD,Q0 (show i.toNat < a.length by omega),Q0 (show i.toNat < b.length by omega),X6]
theorem J2{a b:Tree}:Y3 a b=true↔a=b:=by simp [Y3]
theorem Yr{a b:Tree}:Y3 a b=false↔¬a=b:=by simp [Y3]
theorem Zt:∀ (ks:List Tree),ks.length<=Z4 ks
 | []=> by simp [Z4]
 | t ::r=> by
  have:=Zt r
  have:1<=Zj t:=by cases t;simp only [Zj];omega
  simp only [Z4,Q9]
  omega
theorem c29:Contract Try.prog cfg 29 Z3d:=by
 refine Ztm c75 ?_
 rintro N ⟨k,ws,ks⟩ ⟨k',ws',ks'⟩ _ hp hN
 have hlen:=Zt ks
 simp only [Z30,ZkJ,Zj] at hp hN
 refine Zx9 N _ _ _ ?_;(try simp only [vcT,forall_eq])
 (simp only [vcS]);(try simp only [vcT])
 try (simp only [Tree.eta,Edit.eta,Tree.kind_mk,Tree.words_mk,Tree.kids_mk])
 have p69:Zcc (ws,ws',()):=by simp only [Zcc];omega
 refine ⟨fun _=> p69,fun hc=> ?_,fun hc=> ?_⟩
 ·have e:Y3 (.mk k ws ks) (.mk k' ws' ks')=false:=by
   rw [Yr]
   intro h
   cases h
   simp at hc
  simp only [Zc7,e]
  exact ⟨⟨rfl,⟨rfl,trivial⟩,trivial⟩,trivial⟩
 ·have hc':(k=k'/\ws=ws')/\ks.length=ks'.length:=⟨hc.1,by have:=hc.2;omega⟩
  obtain ⟨⟨rfl,rfl⟩,hl⟩:=hc'
  refine Za (ι:=Int) (fun p=> Z6J (.mk k ws ks) (.mk k ws ks') p) (fun p=> 0<=p/\p<=ks.length/\(Tree.mk k ws ks= .mk k ws ks'↔ks.drop p.toNat=ks'.drop p.toNat)) (fun p=> ((ks.length:Int) - p).toNat) 0 rfl ⟨by omega,by omega,by simp⟩ ?_
  rintro i ⟨h1,h2,h3⟩
  refine Zpi N _ _ _ _ _ ?_;(try simp only [vcT,forall_eq])
  (simp only [vcS]);(try simp only [vcT])
  try (simp only [Tree.eta,Edit.eta,Tree.kind_mk,Tree.words_mk,Tree.kids_mk])
  refine ⟨fun hc=> ⟨by omega,by omega,?_,?_,fun hn=> ?_,fun he=> ⟨by unfold InR;omega,i+1,rfl,⟨by omega,by omega,?_⟩,by omega⟩⟩,fun hc=> ?_⟩
  ·have:=Z0c (ks:=ks) (i:=i.toNat) (by omega)
   simp only [Z30]
   omega
  ·have:=Z0c (ks:=ks) (i:=i.toNat) (by omega)
   simp only [ZkJ]
   omega
  ·have e:Y3 (.mk k ws ks) (.mk k ws ks')=false:=by
    rw [Yr,h3,Zg2 h1 hc (by omega)]
    rw [Yr] at hn
    exact fun h=> hn h.1
   simp only [Zc7,e]
   exact ⟨⟨rfl,⟨rfl,trivial⟩,trivial⟩,trivial⟩
  ·rw [h3,Zg2 h1 hc (by omega)]
   exact ⟨fun h=> h.2,fun h=> ⟨J2.1 he,h⟩⟩
  ·have e:Y3 (.mk k ws ks) (.mk k ws ks')=true:=by
    rw [J2,h3]
    rw [Qt (by omega),Qt (by omega)]
   simp only [Zc7,e]
   exact ⟨⟨rfl,⟨rfl,trivial⟩,trivial⟩,trivial⟩
theorem ZbS:∀ (l:List Int),trim (l++[0])=trim l
 | []=> rfl
 | x ::r=> by
  show (match trim (r++[0]) with | []=> if x=0 then [] else [x] | y ::s=> x ::y ::s)=_
  rw [ZbS r]
  try rfl
theorem ZhL{x:Int}(hx:x≠0):∀ (l:List Int),trim (l++[x])=l++[x]
 | []=> by simp [trim,hx]
 | y ::r=> by
  show (match trim (r++[x]) with | []=> if y=0 then [] else [y] | z ::s=> y ::z ::s)=_
  rw [ZhL hx r]
  cases r <;> rfl
theorem Zkd{l:List Int}{i:Int}(h0:0 < i)(hi:i<=l.length):l.take i.toNat=l.take (i - 1).toNat++[l.getD (i - 1).toNat 0]:=by
 have e:i.toNat=(i - 1).toNat+1:=by omega
 rw [e,List.take_add_one]
 simp only [List.getD,Q0 (show (i - 1).toNat < l.length by omega),Option.toList,X6]
theorem ZeF:∀ (l:List Int),(trim l).length<=l.length
 | []=> by simp [trim]
 | x ::r=> by
  have:=ZeF r
  simp only [trim]
  split
  ·split <;> simp
  ·rename_i h
   rw [h] at this
   simp at*
   omega
theorem Z9K:∀ (l:List Tree),Z4 (ZQ l)<=Z4 l
 | []=> by simp [ZQ]
 | x ::r=> by
  have:=Z9K r
  simp only [ZQ]
  split
  ·split
   ·simp [Z4]
   ·simp [Z4]
  ·rename_i h
   rw [h] at this
   simp only [Z4] at*
   omega
mutual
theorem J8:∀ (t:Tree),Zj (Z7 t)<=Zj t
 | .mk k w ks=> by
  have h1:=ZaV ks
  have h2:=ZeF w
  have h3:=Z9K (ZW ks)
  simp only [Z7]
  split
  ·simp only [Tree.nil,Zj,Z4,Qb];omega
  ·split
   ·simp only [Zj];omega
   ·simp only [Zj];omega
theorem ZaV:∀ (ks:List Tree),Z4 (ZW ks)<=Z4 ks
 | []=> by simp [ZW]
 | t ::r=> by
  have h1:=J8 t
  have h2:=ZaV r
  simp only [ZW,Z4]
  omega
end
theorem Zck:∀ (l:List Tree) (x:Tree),ZW (l++[x])=ZW l++[Z7 x]
 | [],x=> rfl
 | y ::r,x=> by simp only [Qs,ZW,Zck r x]
theorem Z0Z:∀ (l:List Tree),(ZW l).length=l.length
 | []=> rfl
 | y ::r=> by simp only [ZW,Q9,Z0Z r]
theorem Z9J{x:Tree}(hx:x.kind=0):∀ (l:List Tree),ZQ (l++[x])=ZQ l
 | []=> by simp [ZQ,hx]
 | y ::r=> by
  show (match ZQ (r++[x]) with | []=> if y.kind=0 then [] else [y] | z ::s=> y ::z ::s)=_
  rw [Z9J hx r]
  try rfl
theorem ZeG{x:Tree}(hx:x.kind≠0):∀ (l:List Tree),ZQ (l++[x])=l++[x]
 | []=> by simp [ZQ,hx]
 | y ::r=> by
  show (match ZQ (r++[x]) with | []=> if y.kind=0 then [] else [y] | z ::s=> y ::z ::s)=_
  rw [ZeG hx r]
  cases r <;> rfl
theorem Z9T{l:List Tree}{i:Int}(h0:0<=i)(hi:i < l.length):l.take (i+1).toNat=l.take i.toNat++[l.getD i.toNat Tree.nil]:=by
 have e:(i+1).toNat=i.toNat+1:=by omega
 rw [e,List.take_add_one]
 simp only [List.getD,Q0 (show i.toNat < l.length by omega),Option.toList,X6]
theorem ZiO{l:List Int}(h0:0 < (l.length:Int)):l=l.take ((l.length:Int) - 1).toNat++[l.getD ((l.length:Int) - 1).toNat 0]:=by
 have:=Zkd h0 (Xc _)
 rw [QJ (by omega)] at this
 exact this
theorem ZfO{l:List Tree}(h0:0 < (l.length:Int)):l=l.take ((l.length:Int) - 1).toNat++[l.getD ((l.length:Int) - 1).toNat Tree.nil]:=by
 have:=Z9T (l:=l) (i:=(l.length:Int) - 1) (by omega) (by omega)
 rw [QJ (by omega)] at this
 exact this
theorem Zk8{l:List Int}(h0:0 < (l.length:Int))(hz:l.getD ((l.length:Int) - 1).toNat 0=0):trim (l.take ((l.length:Int) - 1).toNat)=trim l:=by
 have e:=ZbS (l.take ((l.length:Int) - 1).toNat)
 have h:=ZiO h0
 rw [hz] at h
 rw [<-h] at e
 exact e.symm
theorem Zka{l:List Int}(h:¬0 < (l.length:Int)\/¬l.getD ((l.length:Int) - 1).toNat 0=0):trim l=l:=by
 by_cases h0:0 < (l.length:Int)
 ·have e:=ZhL (x:=l.getD ((l.length:Int) - 1).toNat 0) (by rcases h with h | h;exact absurd h0 h;exact h) (l.take ((l.length:Int) - 1).toNat)
  rw [<-ZiO h0] at e
  exact e
 ·have:l=[]:=Q3 (by omega)
  subst this
  try rfl
theorem Zgm{l:List Tree}(h0:0 < (l.length:Int))(hz:(l.getD ((l.length:Int) - 1).toNat Tree.nil).kind=0):ZQ (l.take ((l.length:Int) - 1).toNat)=ZQ l:=by
 have e:=Z9J hz (l.take ((l.length:Int) - 1).toNat)
 rw [<-ZfO h0] at e
 exact e.symm
theorem Zgo{l:List Tree}(h:¬0 < (l.length:Int)\/¬(l.getD ((l.length:Int) - 1).toNat Tree.nil).kind=0):ZQ l=l:=by
 by_cases h0:0 < (l.length:Int)
 ·have e:=ZeG (x:=l.getD ((l.length:Int) - 1).toNat Tree.nil) (by rcases h with h | h;exact absurd h0 h;exact h) (l.take ((l.length:Int) - 1).toNat)
  rw [<-ZfO h0] at e
  exact e
 ·have:l=[]:=Q3 (by omega)
  subst this
  try rfl
theorem c71:Contract Try.prog cfg 71 JB:=by
 refine Zt8 Zuc ?_
 rintro N ⟨k,ws,ks⟩ _ hp hN
 have hlen:=Zt ks
 simp only [Z04,ZkH,Zj] at hp hN
 refine ZwS N _ _ ?_;(try simp only [vcT,forall_eq])
 (simp only [vcS]);(try simp only [vcT])
 try (simp only [Tree.eta,Edit.eta,Tree.kind_mk,Tree.words_mk,Tree.kids_mk])
 refine ⟨fun hc=> ?_,fun hc0=> ⟨by simp only [ZaK];omega,?_⟩⟩
 ·have e:Z7 (.mk k ws ks)=Tree.nil:=by simp [Z7,hc]
  simp only [Zc6,e]
  exact ⟨⟨rfl,⟨⟨rfl,rfl⟩,⟨rfl,⟨rfl,trivial⟩⟩⟩,trivial⟩,trivial⟩
 ·refine Za (ι:=Int × List Tree) (fun p=> Z6x (.mk k ws ks) p.1 p.2) (fun p=> 0<=p.1/\p.1<=ks.length/\p.2=ZW (ks.take p.1.toNat)) (fun p=> ((ks.length:Int) - p.1).toNat) (0,[]) rfl ⟨by dsimp only;omega,by dsimp only;omega,rfl⟩ ?_
  rintro ⟨i,l⟩ ⟨h1,h2,h5⟩
  dsimp only at*
  have hl:l.length=i.toNat:=by rw [h5,Z0Z,Qk];omega
  refine Zp3 N _ _ _ _ _ ?_;(try simp only [vcT,forall_eq])
  (simp only [vcS]);(try simp only [vcT])
  try (simp only [Tree.eta,Edit.eta,Tree.kind_mk,Tree.words_mk,Tree.kids_mk])
  refine ⟨fun hc=> ?_,fun hc=> ⟨fun hk=> ?_,fun hk=> ?_⟩⟩
  ·have hm:=Z0c (ks:=ks) (i:=i.toNat) (by omega)
   have hnx:ZW (ks.take (i+1).toNat)=l++[Z7 (ks.getD i.toNat Tree.nil)]:=by rw [Z9T h1 hc,Zck,h5]
   exact ⟨by omega,by simp only [Z04];omega,by simp only [ZkH];omega,by simp only [Q9,Qb];omega,by unfold InR;omega,(i+1,_),rfl,⟨by dsimp only;omega,by dsimp only;omega,hnx.symm⟩,by dsimp only;omega⟩
  ·have hi:ks.take i.toNat=ks:=QJ (by omega)
   rw [hi] at h5
   refine Za (ι:=List Int) (fun p=> Z6w (.mk k ws ks) l p) (fun p=> p.length<=ws.length/\trim p=trim ws) (fun p=> p.length) ws rfl ⟨by omega,rfl⟩ ?_
   rintro w ⟨h6,h7⟩
   refine Zp2 N _ _ _ _ _ ?_;(try simp only [vcT,forall_eq])
   (simp only [vcS]);(try simp only [vcT])
   refine ⟨fun h=> by unfold InR;omega,fun h=> by omega,fun hc=> ⟨by unfold InR;omega,by omega,_,rfl,⟨by rw [List.length_take];omega,?_⟩,by rw [List.length_take];omega⟩,fun hc=> ?_⟩
   ·rw [Zk8 hc.1 hc.2,h7]
   ·have hw:w=trim ws:=by rw [<-h7,Zka hc]
    refine Za (ι:=List Tree) (fun p=> Z6v (.mk k ws ks) w p) (fun p=> p.length<=l.length/\ZQ p=ZQ l) (fun p=> p.length) l rfl ⟨by omega,rfl⟩ ?_
    rintro q ⟨h8,h9⟩
    refine Zp1 N _ _ _ _ _ ?_;(try simp only [vcT,forall_eq])
    (simp only [vcS]);(try simp only [vcT])
    refine ⟨fun h=> by unfold InR;omega,fun h=> by omega,fun hc=> ⟨by unfold InR;omega,by omega,_,rfl,⟨by rw [List.length_take];omega,?_⟩,by rw [List.length_take];omega⟩,fun hc=> ?_⟩
    ·rw [Zgm hc.1 hc.2,h9]
    ·have hq:q=ZQ (ZW ks):=by rw [<-h5,<-h9,Zgo hc]
     have e:Z7 (.mk k ws ks)= .mk k w q:=by
      subst hk
      simp only [Z7,hw,hq]
      try rfl
     simp only [Zc6,e]
     exact ⟨⟨rfl,⟨⟨rfl,rfl⟩,⟨rfl,trivial⟩,⟨rfl,trivial⟩,trivial⟩,trivial⟩,trivial⟩
  ·have hi:ks.take i.toNat=ks:=QJ (by omega)
   rw [hi] at h5
   have e:Z7 (.mk k ws ks)= .mk k ws l:=by simp only [Z7,if_neg hc0,if_neg hk,h5]
   simp only [Zc6,e]
   exact ⟨⟨rfl,⟨⟨rfl,rfl⟩,⟨rfl,trivial⟩,⟨rfl,trivial⟩,trivial⟩,trivial⟩,trivial⟩
noncomputable section
def ZjN:ArgL (Int × Unit):=(.cons (Jv .i64) .nil)
def ZgK(a:Int × Unit):Prop:=True
def Zmm(a:Int × Unit):V U:= .c (ci (wd a.1))
def Z5H:Fs U:=fs ZjN (fun a=> [ZgK a]) Zmm
def Zoo:ArgL (Int × Int × Unit):=(.cons (Jv .i64) (.cons (Jv .u64) .nil))
def Zij(a:Int × Int × Unit):Prop:=0<=a.2.1/\a.2.1 < 18446744073709551616
def ZrL(a:Int × Int × Unit):V U:= .c (.bool (Zl1 a.1 a.2.1))
def Z9Z:Fs U:=fs Zoo (fun a=> [Zij a]) ZrL
def mu117(a:Tree × Int × Unit):Nat:=Zj a.1
def Z63(a:Tree × Int × Unit):Prop:=Zj a.1<=20000000000/\rng a.1/\0<=a.2.1/\a.2.1<=1000
def Zmb(a:Tree × Int × Unit):V U:= .c (.bool (Zq a.1 a.2.1))
def Z7b:Fs U:=fs ZjL (fun a=> [Z63 a]) Zmb
def Znx:Ze U:=lvl [([0],[]),([3],[]),([3,4],[]),([2],[]),([3,6],[]),([2],[]),([3,8],[]),([2],[]),([3,10],[]),([2],[]),([3,12],[]),([2],[]),([14],[]),([2],[]),([2],[])]
abbrev ZxH(p:List Nat):=AW (Z2 Zhc) Try.f116 Znx p
theorem ZvI(c:Int)(Q:QT)(h:(((c==0)=true->(Q .ret (L2 [pI 2 0] [])))/\((c==0)=false->(((c==1)=true->(Q .ret (L2 [pI 2 1] [])))/\((c==1)=false->(((c==2)=true->(Q .ret (L2 [pI 2 8] [])))/\((c==2)=false->(((c==3)=true->(Q .ret (L2 [pI 2 16] [])))/\((c==3)=false->(((c==4)=true->(Q .ret (L2 [pI 2 32] [])))/\((c==4)=false->(((c==5)=true->(Q .ret (L2 [pI 2 64] [])))/\((c==5)=false->(Q .ret (L2 [pI 2 (-1)] []))))))))))))))):
  ZxH [] (L2 [pI 0 c] []) Q:=
 Eq.mpr (by kernel_rfl) h
def Zrv(c:Int):Prop:=AW (Z2 Zhc) Try.f116 Znx [] (Zk (ZjN.can (c,())) []) (EQ Try.f116 (Zmm (c,())) [])
theorem Zqe(hb:∀ (c:Int) (_:Unit),ZgK (c,())->Zrv c):CT 116 Z5H:=
 Z3 (l:=[]) Zl rfl trivial Znx Try.func116 rfl rfl 1 (fun _=> rfl) (by decide) (fun ⟨c,_⟩=> hb c ())
def Zha:List (FuncId × Fs U):=[(116,Z5H)]
def Zqn:Ze U:=lvl [([0,1],[]),([1,5],[]),([1,5,10],[]),([4],[]),([1,5,6],[]),([1,5,6,13],[]),([1,5,6],[]),([1,5,6],[]),([4],[])]
def Z6s(c n x1 x6:Int):LSt U:=(L2 [(1,.c (.int .u64 x1)),pI 5 (wd c),pI 6 x6] [])
abbrev A79(p:List Nat):=AW (Z2 Zha) Try.f79 Zqn p
abbrev S79(p:List Nat):=SW (Z2 Zha) Try.f79 Zqn p
theorem ZwO(c n:Int)(Q:QT)(h:((ZgK (c,()))/\(((decide (((wd c):Int) < 0))=true->(Q .ret (L2 [pB 4 false] [])))/\((decide (((wd c):Int) < 0))=false->(Zm (A79 [1,1,1,0,1,0,0]) (Z6s c n n 0) (xB 0 (S79 [1,1,1,1] Q))))))):
  A79 [] (L2 [pI 0 c,(1,.c (.int .u64 n))] []) Q:=
 Eq.mpr (by kernel_rfl) h
theorem ZoY(c n x1 x6:Int)(N0:NT)(Q:QT)(h:(((decide (x6 < (wd c)))=true->((2:Int)≠0)/\((InR (x6+1))/\(N0 (Z6s c n (IntKind.wrap .u64 (Int.tdiv x1 2)) (x6+1)))))/\((decide (x6 < (wd c)))=false->(Q .ret (L2 [pB 4 (x1==0)] []))))):
  A79 [1,1,1,0,1,0,0] (Z6s c n x1 x6) (xT N0 (xB 0 (S79 [1,1,1,1] Q))):=
 Eq.mpr (by kernel_rfl) h
def Zuy(c n:Int):Prop:=AW (Z2 Zha) Try.f79 Zqn [] (Zk (Zoo.can (c,n,())) []) (EQ Try.f79 (ZrL (c,n,())) [])
theorem Zt5(Zu9:CT 116 Z5H)(hb:∀ (c:Int) (n:Int) (_:Unit),Zij (c,n,())->Zuy c n):CT 79 Z9Z:=
 Z3 (l:=[(116,Z5H)]) Zl rfl (⟨Zu9,trivial⟩) Zqn Try.func79 rfl rfl 2 (fun _=> rfl) (by decide) (fun ⟨c,n,_⟩=> hb c n ())
def Zhl(N:Nat):List (FuncId × Fs U):=(37,fs ZjL (fun a=> [Z63 a,mu117 a < N]) Zmb) ::[(79,Z9Z)]
def Zqy:Ze U:=lvl [([1,2],[2]),([1,2,10],[2]),([4],[]),([1,2,23],[2]),([4],[]),([1,2,68],[2]),([4],[]),([1,2,77],[2]),([4],[]),([1,2,5],[2]),([1,2,5,82],[2]),([1,2,5],[2]),([1,2,5,6],[2,6]),([1,2,5,6,94],[2,6]),([4],[]),([1,2,5,6,7],[2,6]),([1,2,5,131],[2]),([4],[]),([4],[])]
def Z6I(t:Tree)(d x5:Int):LSt U:=(L2 [pI 1 d,pL 2,pI 5 x5] [(.loc 2,(enc .tree t))])
abbrev A37(N:Nat)(p:List Nat):=AW (Z2 (Zhl N)) Try.f37 Zqy p
abbrev S37(N:Nat)(p:List Nat):=SW (Z2 (Zhl N)) Try.f37 Zqy p
theorem Zx6(N:Nat)(t:Tree)(d:Int)(Q:QT)(h:let z11:=((t.kids.length:Int):Int)==0;let z8:=decide (t.kind < 0);let z6:=decide ((1:Int) < t.kind);let z9:=bif z6 then (decide ((0:Int) < (t.words.length:Int))) else false;let z5:=((t.words.length:Int):Int)==1;let z4:=((t.words.length:Int):Int)==0;let z2:=bif z8 then true else (decide ((10:Int) < t.kind));let z3:=bif z2 then true else (d==0);let z0:=bif z3 then true else (decide ((65536:Int)<=(t.words.length:Int)));let z10:=(!z0) && (t.kind==1);let z1:=bif z0 then true else (bif (t.kind==1) then (decide ((65536:Int)<=(t.kids.length:Int))) else false);let z7:=bif z1 then true else (decide ((1048576:Int)<=(t.kids.length:Int)));(((t.kind==0)=true->(Tr (z4=true))/\(Tr (z4=true))/\(Tr (z4=true))/\(Tr (z4=true))/\(Q .ret (L2 [(4,.c (.bool (bif z4 then z11 else false)))] [])))/\((t.kind==0)=false->(((t.kind==10)=true->(Tr (z5=true))/\(Tr (z5=true))/\(Tr (z5=true))/\(Tr (z5=true))/\(Q .ret (L2 [(4,.c (.bool (bif z5 then z11 else false)))] [])))/\((t.kind==10)=false->(Tr ((!z8)=true))/\(Tr ((!z8)=true))/\(z8=false->(!z8)=true)/\(Tr ((!z2)=true))/\(z2=false->(!z2)=true)/\(Tr ((!z3)=true))/\(Tr ((!z3)=true))/\(Tr ((!z3)=true))/\(z3=false->(!z3)=true)/\(Tr ((!z0)=true))/\(Tr ((!z0)=true))/\(Tr ((!z0)=true))/\(Tr (z10=true))/\(Tr (z10=true))/\(Tr (z10=true))/\((!z0)=true->(True->(!z0)=true))/\((!z0)=true->((t.kind==1)=true->z10=true))/\(z0=false->(!z0)=true)/\(Tr ((!z1)=true))/\(Tr ((!z1)=true))/\(Tr ((!z1)=true))/\(z1=false->(!z1)=true)/\((z7=true->(Q .ret (L2 [pB 4 false] [])))/\(z7=false->(Tr (z6=true))/\(Tr (z6=true))/\(Tr (z6=true))/\(Tr (z6=true))/\((z9=true->(Q .ret (L2 [pB 4 false] [])))/\(z9=false->(Zm (A37 N [1,1,1,1,1,0,1,0,0]) (Z6I t d 0) (xB 0 (S37 N [1,1,1,1,1,1] Q)))))))))))):
  A37 N [] (L2 [(0,.agg (enc .tree t)),pI 1 d] []) Q:=
 Eq.mpr (by kernel_rfl) h
theorem Zph(N:Nat)(t:Tree)(d x5:Int)(N0:NT)(Q:QT)(h:∀ y_1,y_1=(t.kids.getD x5.toNat Tree.nil)->∀ y_2,y_2=y_1->∀ y_3,y_3=(List.getD y_1.words (Int.toNat 0) (0:Int))->let z6:=decide (x5 < (t.kids.length:Int));let z3:=decide ((2:Int)<=t.kind);let z0:=bif z3 then (decide (t.kind<=7)) else false;let z2:=z0 !=(y_1.kind==10);let z5:=(!z2) && (t.kind==9);let z1:=bif z2 then true else (bif (t.kind==9) then (y_1.kind !=1) else false);let z4:=bif z1 then true else (bif z0 then (!(Zl1 (t.kind - 2) y_3)) else false);((z6=true->((0:Int)<=x5/\x5 < (t.kids.length:Int))/\((InR (d - 1))/\(Z63 (y_2,(d - 1),()))/\(mu117 (y_2,(d - 1),()) < N)/\(((!(Zq y_2 (d - 1)))=true->(Q .ret (L2 [pB 4 false] [])))/\((!(Zq y_2 (d - 1)))=false->(Tr (z3=true))/\(Tr (z3=true))/\(Tr (z3=true))/\((Tr ((!z2)=true))/\(Tr ((!z2)=true))/\(Tr ((!z2)=true))/\(Tr (z5=true))/\(Tr (z5=true))/\((!z2)=true->(True->(!z2)=true))/\((!z2)=true->((t.kind==9)=true->z5=true))/\(z2=false->(!z2)=true)/\(Tr ((!z1)=true))/\(Tr (((!z1) && z0)=true))/\(Tr (((!z1) && z0)=true))/\(((!z1) && z0)=true->InR (t.kind - 2))/\(Tr (((!z1) && z0)=true))/\(Tr (((!z1) && z0)=true))/\(((!z1) && z0)=true->(0:Int)<=0/\0 < (y_1.words.length:Int))/\(Tr (((!z1) && z0)=true))/\(Tr (((!z1) && z0)=true))/\(Tr (((!z1) && z0)=true))/\(((!z1) && z0)=true->Zij ((t.kind - 2),y_3,()))/\(Tr (((!z1) && z0)=true))/\((!z1)=true->(True->(!z1)=true))/\((!z1)=true->(z0=true->((!z1) && z0)=true))/\(z1=false->(!z1)=true)/\((z4=true->(Q .ret (L2 [pB 4 false] [])))/\(z4=false->(InR (x5+1))/\(N0 (Z6I t d (x5+1))))))))))/\(z6=false->(Q .ret (L2 [pB 4 true] []))))):
  A37 N [1,1,1,1,1,0,1,0,0] (Z6I t d x5) (xT N0 (xB 0 (S37 N [1,1,1,1,1,1] Q))):=
 Eq.mpr (by kernel_rfl) (h _ rfl _ (Zd _) _ rfl)
def ZuQ(N:Nat)(t:Tree)(d:Int):Prop:=AW (Z2 (Zhl N)) Try.f37 Zqy [] (Zk (ZjL.can (t,d,())) []) (EQ Try.f37 (Zmb (t,d,())) [])
theorem Ztj(c79:CT 79 Z9Z)(hb:∀ (N:Nat) (t:Tree) (d:Int) (_:Unit),Z63 (t,d,())->mu117 (t,d,()) < N+1->ZuQ N t d):CT 37 Z7b:=
 Yu (μ:=mu117) (l:=[(79,Z9Z)]) Zl rfl (⟨c79,trivial⟩) Zqy Try.func37 rfl rfl 2 (fun _=> rfl) (by decide) (fun N ⟨t,d,_⟩=> hb N t d ())
end
theorem Z2x:∀ (l:List Int),trim l=[]↔∀ i:Nat,l.getD i 0=0
 | []=> by simp [trim]
 | x ::r=> by
  have ih:=Z2x r
  constructor
  ·intro h i
   simp only [trim] at h
   split at h
   ·rename_i hr
    split at h
    ·cases i with
     | zero=> simpa
     | succ i=> simpa using (ih.1 hr) i
    ·cases h
   ·cases h
  ·intro h
   have h0:=h 0
   have hr:trim r=[]:=ih.2 fun i=> by simpa using h (i+1)
   simp only [trim,hr]
   simp at h0
   simp [h0]
theorem Z0T(x:Int)(r:List Int):trim (x ::r)=if trim r=[]/\x=0 then [] else x ::trim r:=by
 simp only [trim]
 split
 ·rename_i h
  simp only [h]
  split <;> simp_all
 ·rename_i h
  simp [h]
theorem Z82:∀ (a b:List Int),trim a=trim b↔∀ i:Nat,a.getD i 0=b.getD i 0
 | [],b=> by
  rw [show trim []=[] from rfl,eq_comm,Z2x]
  simp [eq_comm]
 | x ::r,[]=> by
  rw [show trim []=[] from rfl,Z2x]
  simp
 | x ::r,y ::s=> by
  have ih:=Z82 r s
  constructor
  ·intro h i
   have key:x=y/\trim r=trim s:=by
    rw [Z0T,Z0T] at h
    split at h <;> split at h <;> simp_all
   cases i with
   | zero=> simpa using key.1
   | succ i=> simpa using ih.1 key.2 i
  ·intro h
   have h0:x=y:=by simpa using h 0
   have hr:trim r=trim s:=ih.2 fun i=> by simpa using h (i+1)
   rw [Z0T,Z0T,h0,hr]
def ZqX(l:List Tree):Prop:=∀ x∈l,x.kind=0->x=Tree.nil
theorem YZ(x:Tree)(r:List Tree):ZQ (x ::r)=if ZQ r=[]/\x.kind=0 then [] else x ::ZQ r:=by
 simp only [ZQ]
 split
 ·rename_i h
  simp only [h]
  split <;> simp_all
 ·rename_i h
  simp [h]
theorem Z1L:∀ (l:List Tree),ZqX l->(ZQ l=[]↔∀ i:Nat,l.getD i Tree.nil=Tree.nil)
 | [],_=> by simp [ZQ]
 | x ::r,hn=> by
  have ih:=Z1L r (fun y hy=> hn y (Q4 _ hy))
  have hx:=hn x (Q5 ..)
  rw [YZ]
  constructor
  ·intro h i
   split at h
   ·rename_i hc
    cases i with
    | zero=> simpa using hx hc.2
    | succ i=> simpa using (ih.1 hc.1) i
   ·cases h
  ·intro h
   have h0:x=Tree.nil:=by simpa using h 0
   have hr:ZQ r=[]:=ih.2 fun i=> by simpa using h (i+1)
   rw [if_pos ⟨hr,by rw [h0];rfl⟩]
theorem Z5r:∀ (a b:List Tree),ZqX a->ZqX b->(ZQ a=ZQ b↔∀ i:Nat,a.getD i Tree.nil=b.getD i Tree.nil)
 | [],b,_,hb=> by
  rw [show ZQ []=[] from rfl,eq_comm,Z1L b hb]
  simp [eq_comm]
 | x ::r,[],ha,_=> by
  rw [show ZQ []=[] from rfl,Z1L _ ha]
  simp
 | x ::r,y ::s,ha,hb=> by
  have ih:=Z5r r s (fun y hy=> ha y (Q4 _ hy)) (fun y hy=> hb y (Q4 _ hy))
  have hx:=ha x (Q5 ..)
  have hy:=hb y (Q5 ..)
  constructor
  ·intro h i
   have key:x=y/\ZQ r=ZQ s:=by
    rw [YZ,YZ] at h
    split at h <;> split at h
    ·rename_i h1 h2
     exact ⟨(hx h1.2).trans (hy h2.2).symm,h1.1.trans h2.1.symm⟩
    ·cases h
    ·cases h
    ·simpa using h
   cases i with
   | zero=> simpa using key.1
   | succ i=> simpa using ih.1 key.2 i
  ·intro h
   have h0:x=y:=by simpa using h 0
   have hr:ZQ r=ZQ s:=ih.2 fun i=> by simpa using h (i+1)
   rw [YZ,YZ,h0,hr]
theorem Zcj:Z7 Tree.nil=Tree.nil:=by simp [Tree.nil,Z7]
theorem Z5e(t:Tree):(Z7 t).kind=t.kind:=by
 obtain ⟨k,w,ks⟩:=t
 simp only [Z7]
 split
 ·rename_i h;simp [h,Tree.nil]
 ·split
  ·rename_i h;simp [h]
  ·try rfl
theorem Z5h:∀ (l:List Tree),ZqX (ZW l)
 | []=> by intro x hx;simp [ZW] at hx
 | t ::r=> by
  intro x hx hk
  simp only [ZW,Qc] at hx
  rcases hx with rfl | hx
  ·rw [Z5e] at hk
   obtain ⟨k,w,ks⟩:=t
   simp only [Tree.kind_mk] at hk
   simp [Z7,hk]
  ·exact Z5h r x hx hk
theorem Z0b:∀ (l:List Tree) (i:Nat),(ZW l).getD i Tree.nil=Z7 (l.getD i Tree.nil)
 | [],i=> by simp [ZW,Zcj]
 | t ::r,0=> by simp [ZW]
 | t ::r,i+1=> by simpa [ZW] using Z0b r i
theorem ZdN(a b:List Tree):ZW a=ZW b↔a.length=b.length/\∀ i:Nat,Z7 (a.getD i Tree.nil)=Z7 (b.getD i Tree.nil):=by
 constructor
 ·intro h
  refine ⟨by rw [<-Z0Z a,h,Z0Z],fun i=> ?_⟩
  rw [<-Z0b,h,Z0b]
 ·rintro ⟨hl,h⟩
  apply Kh (by rw [Z0Z,Z0Z,hl])
  intro i h1 h2
  have:=h i
  rw [<-Z0b,<-Z0b] at this
  simpa [List.getD,h1,h2] using this
theorem Jl(a b:Tree):Z7 a=Z7 b↔a.kind=b.kind/\(a.kind=0\/(if a.kind=1 then (∀ i:Nat,a.words.getD i 0=b.words.getD i 0) else a.words=b.words/\a.kids.length=b.kids.length)/\∀ i:Nat,Z7 (a.kids.getD i Tree.nil)=Z7 (b.kids.getD i Tree.nil)):=by
 obtain ⟨k,w,ks⟩:=a
 obtain ⟨k',w',ks'⟩:=b
 show _↔k=k'/\(k=0\/(if k=1 then (∀ i:Nat,w.getD i 0=w'.getD i 0) else w=w'/\ks.length=ks'.length)/\∀ i:Nat,Z7 (ks.getD i Tree.nil)=Z7 (ks'.getD i Tree.nil))
 by_cases hk:k=k'
 ·subst hk
  simp only [true_and]
  by_cases h0:k=0
  ·simp [Z7,h0]
  ·by_cases h1:k=1
   ·subst h1
    simp only [Z7,if_neg h0,if_true,Tree.mk.injEq,true_and,Z82,Z5r _ _ (Z5h _) (Z5h _),Z0b]
    simp
   ·simp only [Z7,if_neg h0,if_neg h1,Tree.mk.injEq,true_and,ZdN]
    constructor
    ·rintro ⟨h2,h3,h4⟩;exact .inr ⟨⟨h2,h3⟩,h4⟩
    ·rintro (h | ⟨⟨h2,h3⟩,h4⟩)
     ·exact absurd h h0
     ·exact ⟨h2,h3,h4⟩
 ·simp only [hk,false_and,iff_false]
  intro h
  have:=congrArg Tree.kind h
  rw [Z5e,Z5e] at this
  exact hk this
theorem ZeB{a b:Tree}(h:Z7 a=Z7 b)(h0:a.kind≠0)(i:Nat):a.words.getD i 0=b.words.getD i 0:=by
 obtain ⟨_,h2⟩:=(Jl a b).1 h
 rcases h2 with h2 | ⟨h2,_⟩
 ·exact absurd h2 h0
 ·split at h2
  ·exact h2 i
  ·rw [h2.1]
theorem Zhp{a b:Tree}(h:Z7 a=Z7 b)(h0:a.kind≠0)(i:Nat):Z7 (a.kids.getD i Tree.nil)=Z7 (b.kids.getD i Tree.nil):=by
 obtain ⟨_,h2⟩:=(Jl a b).1 h
 rcases h2 with h2 | ⟨_,h2⟩
 ·exact absurd h2 h0
 ·exact h2 i
theorem Zbc(t:Tree)(i:Int):Zj (Jf t i)<=Zj t/\(i < t.kids.length->0<=i->Zj (Jf t i) < Zj t):=by
 obtain ⟨k,w,ks⟩:=t
 unfold Jf
 have h1:Zj Tree.nil=1:=by simp [Tree.nil,Zj,Z4]
 split
 ·simp only [h1,Zj];omega
 ·simp only [Tree.kids_mk]
  by_cases hi:i.toNat < ks.length
  ·have:=Z0c hi
   simp only [Zj];omega
  ·rw [List.getD,Qw (by omega)]
   simp only [Option.getD_none,h1,Zj];omega
theorem Z8X:Contract Try.prog cfg 106 YV:=by
 refine Zqi Zu7 Zlc c91 ?_
 rintro N a b _ hp hN
 have la:a.words.length+a.kids.length < Zj a:=by obtain ⟨k,w,ks⟩:=a;have:=Zt ks;simp only [Zj,Tree.words_mk,Tree.kids_mk];omega
 have lb:b.words.length+b.kids.length < Zj b:=by obtain ⟨k,w,ks⟩:=b;have:=Zt ks;simp only [Zj,Tree.words_mk,Tree.kids_mk];omega
 simp only [Z0y,Zcn] at hp hN
 have no:¬Z7 a=Z7 b->Yw cfg Try.f106.ntmps Try.f106.results.toList (Z53 (a,b,())) [] .ret (⟨[(4,.c (.bool false))],[],[]⟩:LSt U):=by
  intro h
  have e:Y3 (Z7 a) (Z7 b)=false:=Yr.2 h
  simp only [Z53,e]
  exact ⟨⟨rfl,⟨rfl,trivial⟩,trivial⟩,trivial⟩
 refine ZvQ N _ _ _ ?_;(try simp only [vcT,forall_eq])
 (simp only [vcS]);(try simp only [vcT])
 refine ⟨fun hc=> ?_,fun hc=> ?_⟩
 ·have e:Y3 (Z7 a) (Z7 b)=(a.kind==b.kind):=by
   by_cases hk:a.kind=b.kind
   ·have h0:a.kind=0:=by rcases hc with h | h;exact absurd hk h;exact h
    rw [J2.2 ((Jl a b).2 ⟨hk,.inl h0⟩)]
    simp [hk]
   ·rw [Yr.2 (fun h=> hk ((Jl a b).1 h).1)]
    simp [hk]
  simp only [Z53,e]
  exact ⟨⟨rfl,⟨rfl,trivial⟩,trivial⟩,trivial⟩
 ·refine ⟨fun _=> by simp only [Zcc];omega,fun h h'=> ⟨h,h'⟩,fun hd=> no ?_,fun hd=> ?_⟩
  ·intro h
   obtain ⟨_,h2⟩:=(Jl a b).1 h
   rcases h2 with h2 | ⟨h2,_⟩
   ·exact hc.2 h2
   ·rw [if_neg hd.1] at h2
    rcases hd.2 with h3 | h3
    ·exact h3 (by omega)
    ·exact h3 h2.1
  ·refine Za (ι:=Int) (fun p=> Z4z a b p) (fun p=> 0<=p/\p<=2000000000000/\∀ j:Nat,j < p.toNat->a.words.getD j 0=b.words.getD j 0) (fun p=> (2000000000000 - p).toNat) 0 rfl ⟨by omega,by omega,fun j hj=> by simp at hj⟩ ?_
   rintro i ⟨h1,h2,h3⟩
   refine ZlR N _ _ _ _ _ ?_;(try simp only [vcT,forall_eq])
   (simp only [vcS]);(try simp only [vcT])
   have wa:∀ t:Tree,YY t i=t.words.getD i.toNat 0:=fun t=> by unfold YY;rw [if_neg (by omega)]
   refine ⟨fun hi=> ⟨trivial,trivial,fun hn=> no fun h=> hn ?_,fun he=> ⟨?_,?_⟩⟩,fun hi=> ?_⟩
   ·rw [wa,wa]
    exact ZeB h hc.2 _
   ·unfold InR;split at hi <;> omega
   ·refine ⟨i+1,rfl,⟨by omega,by split at hi <;> omega,fun j hj=> ?_⟩,by split at hi <;> omega⟩
    by_cases hj':j < i.toNat
    ·exact h3 j hj'
    ·have:j=i.toNat:=by omega
     rw [this,<-wa,<-wa]
     exact he
   ·have hw:∀ j:Nat,a.words.getD j 0=b.words.getD j 0:=fun j=> by
     by_cases hj:j < i.toNat
     ·exact h3 j hj
     ·split at hi <;> rw [List.getD,List.getD,Qw (by omega),Qw (by omega)]
    refine Za (ι:=Int) (fun p=> Z4y a b p) (fun p=> 0<=p/\p<=2000000000000/\∀ j:Nat,j < p.toNat->Z7 (a.kids.getD j Tree.nil)=Z7 (b.kids.getD j Tree.nil)) (fun p=> (2000000000000 - p).toNat) 0 rfl ⟨by omega,by omega,fun j hj=> by simp at hj⟩ ?_
    rintro q ⟨h5,h6,h7⟩
    refine ZlQ N _ _ _ _ _ ?_;(try simp only [vcT,forall_eq])
    (simp only [vcS]);(try simp only [vcT])
    have ka:∀ t:Tree,Jf t q=t.kids.getD q.toNat Tree.nil:=fun t=> by unfold Jf;rw [if_neg (by omega)]
    have ma:=Zbc a q
    have mb:=Zbc b q
    try (simp only [Tree.eta,Edit.eta,Tree.kind_mk,Tree.words_mk,Tree.kids_mk])
    refine ⟨fun hq=> ⟨trivial,trivial,?_,?_,fun hn=> no fun h=> ?_,fun he=> ⟨?_,?_⟩⟩,fun hq=> ?_⟩
    ·simp only [Z0y];omega
    ·simp only [Zcn];split at hq <;> omega
    ·rw [Yr] at hn
     apply hn
     rw [ka,ka]
     exact Zhp h hc.2 _
    ·unfold InR;split at hq <;> omega
    ·refine ⟨q+1,rfl,⟨by omega,by split at hq <;> omega,fun j hj=> ?_⟩,by split at hq <;> omega⟩
     by_cases hj':j < q.toNat
     ·exact h7 j hj'
     ·have:j=q.toNat:=by omega
      rw [this,<-ka,<-ka]
      exact J2.1 he
    ·have hk:∀ j:Nat,Z7 (a.kids.getD j Tree.nil)=Z7 (b.kids.getD j Tree.nil):=fun j=> by
      by_cases hj:j < q.toNat
      ·exact h7 j hj
      ·split at hq <;> rw [List.getD,List.getD,Qw (by omega),Qw (by omega)]
     have e:Y3 (Z7 a) (Z7 b)=true:=by
      rw [J2,Jl]
      refine ⟨hc.1,.inr ⟨?_,hk⟩⟩
      split
      ·exact hw
      ·rename_i h1
       rcases hd with hd | hd
       ·exact absurd hd h1
       ·exact ⟨hd.2,by have:=hd.1;omega⟩
     simp only [Z53,e]
     exact ⟨⟨rfl,⟨rfl,trivial⟩,trivial⟩,trivial⟩
mutual
theorem Z2E:∀ (t:Tree) (d l:Int),0<=ZH t d l->(Zj t:Int)+ZH t d l<=l
 | .mk _ w ks,d,l,h=> by
  simp only [ZH] at h ⊢
  split at h
  ·omega
  ·rename_i hc
   rw [if_neg hc]
   have:=Z1O ks (d - 1) (l - 1 - w.length) h
   simp only [Zj]
   omega
theorem Z1O:∀ (ks:List Tree) (d l:Int),0<=Zo ks d l->(Z4 ks:Int)+Zo ks d l<=l
 | [],d,l,h=> by simp [Zo,Z4]
 | t ::r,d,l,h=> by
  simp only [Zo] at h ⊢
  split at h
  ·omega
  ·rename_i hc
   rw [if_neg hc]
   have h1:=Z1O r d (ZH t d l) h
   have h3:=(JQ r d (ZH t d l) (Ye t d l).1).2
   have h2:=Z2E t d l (by omega)
   simp only [Z4]
   omega
end
theorem Zb{n k:Nat}{rs:List ResultVar}{b b':Bool}(hr:rs=[ResultVar.tmp k])(h:b=b'):Yw cfg n rs (.c (.bool b')) [] .ret (⟨[(k,.c (.bool b))],[],[]⟩:LSt U):=by
 subst hr h
 have hk:Nat.beq k k=true:=K0 k
 simp [Yw,Zuu,ZcO,ZcN,Z52,Z7i,LSt.toF,ZbF,hk,ZaN,Z1P,Yl,Jp,leR,leL,leC,Zlp]
theorem Yi{n k:Nat}{rs:List ResultVar}{K:IntKind}{b b':Int}(hr:rs=[ResultVar.tmp k])(h:b=b'):Yw cfg n rs (.c (.int K b')) [] .ret (⟨[(k,.c (.int K b))],[],[]⟩:LSt U):=by
 subst hr h
 have hk:Nat.beq k k=true:=K0 k
 simp [Yw,Zuu,ZcO,ZcN,Z52,Z7i,LSt.toF,ZbF,hk,ZaN,Z1P,Yl,Jp,leR,leL,leC,Zlp]
theorem Zu9:Contract Try.prog cfg 116 Z5H:=by
 refine Zqe ?_
 intro c _ _
 refine ZvI _ _ ?_;(try simp only [vcT,forall_eq])
 (simp only [vcS]);(try simp only [vcT])
 refine ⟨fun h=> Yi rfl ?_,fun h=> ⟨fun h=> Yi rfl ?_,fun h=> ⟨fun h=> Yi rfl ?_,fun h=> ⟨fun h=> Yi rfl ?_,fun h=> ⟨fun h=> Yi rfl ?_,fun h=> ⟨fun h=> Yi rfl ?_,fun h=> Yi rfl ?_⟩⟩⟩⟩⟩⟩ <;> simp only [wd] <;> simp [*]
theorem Zva(c:Int): -1<=wd c/\wd c<=64:=by
 unfold wd
 repeat' split
 all_goals omega
theorem Zgi(n:Int)(h0:0<=n)(h1:n < 18446744073709551616):IntKind.wrap .u64 (Int.tdiv n 2)=n / 2:=by
 rw [XC h0]
 simp [IntKind.wrap,IntKind.signed,IntKind.bits]
 omega
theorem ZmE{w:Nat}{n m:Int}(h:0<=n):(n / 2 < 2 ^ w)↔n < 2 ^ (w+1):=by
 have:(2:Int) ^ (w+1)=2 ^ w*2:=by rw [Ki]
 omega
theorem c79:Contract Try.prog cfg 79 Z9Z:=by
 refine Zt5 Zu9 ?_
 intro c n _ hp
 simp only [Zij] at hp
 have hw:=Zva c
 refine ZwO _ _ _ ?_;(try simp only [vcT,forall_eq])
 (simp only [vcS]);(try simp only [vcT])
 refine ⟨trivial,fun h=> Zb rfl ?_,fun h=> ?_⟩
 ·simp only [Zl1]
  simp
  omega
 ·refine Za (ι:=Int × Int) (fun p=> Z6s c n p.1 p.2) (fun p=> 0<=p.2/\p.2<=wd c/\0<=p.1/\p.1 < 18446744073709551616/\(n < 2 ^ (wd c).toNat↔p.1 < 2 ^ (wd c - p.2).toNat)) (fun p=> (wd c - p.2).toNat) (n,0) rfl ⟨by dsimp only;omega,by dsimp only;omega,by dsimp only;omega,by dsimp only;omega,by simp⟩ ?_
  rintro ⟨m,i⟩ ⟨h1,h2,h3,h4,h5⟩
  dsimp only at*
  refine ZoY _ _ _ _ _ _ ?_;(try simp only [vcT,forall_eq])
  (simp only [vcS]);(try simp only [vcT])
  refine ⟨fun hc=> ⟨by omega,by unfold InR;omega,(IntKind.wrap .u64 (Int.tdiv m 2),i+1),rfl,?_,by dsimp only;omega⟩,fun hc=> Zb rfl ?_⟩
  ·rw [Zgi m h3 h4]
   refine ⟨by dsimp only;omega,by dsimp only;omega,by dsimp only;omega,by dsimp only;omega,?_⟩
   dsimp only
   rw [h5,show (wd c - i).toNat=(wd c - (i+1)).toNat+1 by omega]
   exact (ZmE (m:=0) h3).symm
  ·have e:(wd c - i).toNat=0:=by omega
   rw [e] at h5
   simp only [Zl1]
   rw [Qx]
   simp
   omega
theorem Zm6{t:Tree}(h:rng t){i:Nat}(hi:i < t.words.length):0<=t.words.getD i 0/\t.words.getD i 0 < 18446744073709551616:=by
 obtain ⟨k,w,ks⟩:=t
 simp only [rng] at h
 simp only [Tree.words_mk] at*
 have hg:w.getD i 0∈w:=by
  simp only [List.getD,Q0 hi,X6]
  exact XU hi
 exact h.2.1 _ hg
theorem ZeX{l:Int}{ks:List Tree}{i:Int}{d:Int}(h0:0<=i)(h:i < ks.length):
  YA l (ks.drop i.toNat) d=((Ze6 l (ks.getD i.toNat Tree.nil) && Zq (ks.getD i.toNat Tree.nil) d) && YA l (ks.drop (i+1).toNat) d):=by
 have e:(i+1).toNat=i.toNat+1:=by omega
 rw [QI (by omega),e]
 simp only [YA,List.getD,Q0 (show i.toNat < ks.length by omega),X6]
theorem ZeT:∀ {ks:List Tree} {i:Nat},YG ks->i < ks.length->rng (ks.getD i Tree.nil)
 | t ::_,0,h,_=> by simp only [YG] at h;exact h.1
 | _ ::r,i+1,h,hi=> by simp only [YG] at h;exact ZeT (ks:=r) (i:=i) h.2 (by simpa using hi)
theorem ZeU{y:Tree}{d:Int}(h:Zq y d=true)(hk:y.kind=10):y.words.length=1/\y.kids.length=0:=by
 obtain ⟨k,w,ks⟩:=y
 simp only [Tree.kind_mk] at hk
 subst hk
 simpa [Zq] using h
theorem c37:Contract Try.prog cfg 37 Z7b:=by
 refine Ztj c79 ?_
 rintro N ⟨k,ws,ks⟩ d _ hp hN
 simp only [Z63,mu117,Zj,rng] at hp hN
 refine Zx6 N _ _ _ ?_;(try simp only [vcT,forall_eq])
 (simp only [vcS]);(try simp only [vcT])
 try (simp only [Tree.eta,Edit.eta,Tree.kind_mk,Tree.words_mk,Tree.kids_mk])
 refine ⟨fun h0=> Zb rfl ?_,fun h0=> ⟨fun h10=> Zb rfl ?_,fun h10=> ⟨fun a b=> ⟨a,b⟩,fun hc=> Zb rfl ?_,fun hc=> ⟨fun hw=> Zb rfl ?_,fun hw=> ?_⟩⟩⟩⟩
 ·simp only [Zq,if_pos h0]
  rw [Qx];(simp only [vcS]);omega
 ·simp only [Zq,if_neg h0,if_pos h10]
  rw [Qx];(simp only [vcS]);omega
 ·simp only [Zq,if_neg h0,if_neg h10]
  split
  ·try rfl
  ·split
   ·rw [decide_eq_false (by omega)];try rfl
   ·have:¬(2<=k/\k<=9/\ws.length=0/\ks.length < 1048576):=by omega
    rw [decide_eq_false this];try rfl
 ·simp only [Zq,if_neg h0,if_neg h10]
  rw [if_neg (by omega),if_neg (by omega)]
  have:¬(2<=k/\k<=9/\ws.length=0/\ks.length < 1048576):=by omega
  rw [decide_eq_false this];try rfl
 ·have hb:Zq (.mk k ws ks) d=YA k ks (d - 1):=by
   simp only [Zq,if_neg h0,if_neg h10]
   rw [if_neg (by omega)]
   split
   ·rename_i h1
    rw [decide_eq_true (by omega),h1];try rfl
   ·have:2<=k/\k<=9/\ws.length=0/\ks.length < 1048576:=by omega
    rw [decide_eq_true this];try rfl
  refine Za (ι:=Int) (fun p=> Z6I (.mk k ws ks) d p) (fun p=> 0<=p/\p<=ks.length/\Zq (.mk k ws ks) d=YA k (ks.drop p.toNat) (d - 1)) (fun p=> ((ks.length:Int) - p).toNat) 0 rfl ⟨by omega,by omega,by simpa using hb⟩ ?_
  rintro i ⟨h1,h2,h3⟩
  refine Zph N _ _ _ _ _ ?_;(try simp only [vcT,forall_eq])
  (simp only [vcS]);(try simp only [vcT])
  try (simp only [Tree.eta,Edit.eta,Tree.kind_mk,Tree.words_mk,Tree.kids_mk])
  refine ⟨fun hi=> ?_,fun hi=> ?_⟩
  ·have hd:=ZeX (l:=k) (d:=d - 1) h1 hi
   have hm:=Z0c (ks:=ks) (i:=i.toNat) (by omega)
   have hr:=ZeT (i:=i.toNat) hp.2.1.2.2 (by omega)
   rw [hd] at h3
   have hlen:=Zt ks
   generalize ks.getD i.toNat Tree.nil=y at*
   have hpre:Z63 (y,d - 1,()):=⟨by dsimp only;omega,hr,by dsimp only;omega,by dsimp only;omega⟩
   have hmu:mu117 (y,d - 1,()) < N:=by simp only [mu117];omega
   have hin:InR (d - 1):=by unfold InR;omega
   refine ⟨⟨h1,hi⟩,hin,hpre,hmu,fun hf=> Zb rfl ?_,fun hf=> ?_⟩
   ·rw [h3,hf];simp
   ·have hdata:((bif decide (2<=k) then decide (k<=7) else false)=(y.kind==10))↔((2<=k/\k<=7)↔y.kind=10):=by
     rw [Qx];(simp only [vcS])
    have hat:=ZeU hf
    have hkb:Ze6 k y=true↔(((2<=k/\k<=7)↔y.kind=10)/\(¬k=9\/y.kind=1))/\((¬2<=k\/¬k<=7)\/Zl1 (k - 2) (y.words.getD 0 0)=true):=by
     unfold Ze6
     by_cases hk:2<=k/\k<=7
     ·rw [if_pos hk]
      (simp only [vcS])
      constructor
      ·rintro ⟨h4,h5⟩;exact ⟨⟨by omega,by omega⟩,.inr h5⟩
      ·rintro ⟨⟨h4,_⟩,h5⟩
       have:=hat (by omega)
       exact ⟨by omega,by rcases h5 with h5 | h5;omega;exact h5⟩
     ·rw [if_neg hk]
      by_cases h9:k=9
      ·rw [if_pos h9]
       (simp only [vcS])
       constructor
       ·intro h4;exact ⟨⟨by omega,by omega⟩,.inl (by omega)⟩
       ·rintro ⟨⟨_,h4⟩,_⟩;omega
      ·rw [if_neg h9]
       (simp only [vcS])
       constructor
       ·intro h4;exact ⟨⟨by omega,by omega⟩,.inl (by omega)⟩
       ·rintro ⟨⟨h4,_⟩,_⟩;omega
    have hone:∀ (h4:(((bif decide (2<=k) then decide (k<=7) else false)=(y.kind==10)/\(¬k=9\/y.kind=1))/\2<=k/\k<=7)),y.words.length=1:=fun h4=> (hat ((hdata.1 h4.1.1).1 h4.2)).1
    simp only [Int.toNat_zero]
    refine ⟨fun a b=> ⟨a,b⟩,fun h4=> by unfold InR;omega,fun h4=> by have:=hone h4;omega,fun h4=> Zm6 hr (by have:=hone h4;omega),fun a b=> ⟨a,b⟩,fun h4=> Zb rfl ?_,fun h4=> ⟨by unfold InR;omega,i+1,rfl,⟨by omega,by omega,?_⟩,by omega⟩⟩
    ·have hno:Ze6 k y=false:=by
      cases hkk:Ze6 k y with
      | false=> rfl
      | true=>
       exfalso
       obtain ⟨h5,h6⟩:=hkb.1 hkk
       rcases h4 with h4 | ⟨h4,h7⟩
       ·rcases h4 with h4 | h4
        ·exact h4 (hdata.2 h5.1)
        ·omega
       ·rcases h6 with h6 | h6
        ·omega
        ·rw [h7] at h6;cases h6
     rw [h3,hno];try rfl
    ·rw [h3,hkb.2 ⟨⟨hdata.1 h4.1.1,h4.1.2⟩,h4.2⟩,hf];try rfl
  ·rw [Qt (by omega)] at h3
   simp only [YA] at h3
   exact Zb rfl h3.symm
end Go.AM.Ytpjenobkibfpcaa
