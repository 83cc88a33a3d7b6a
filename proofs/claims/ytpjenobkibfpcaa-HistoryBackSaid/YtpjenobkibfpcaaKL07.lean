import Derived.Test.YtpjenobkibfpcaaCmZ
import Derived.Test.YtpjenobkibfpcaaChecked
import Derived.Test.YtpjenobkibfpcaaRows
import Derived.Test.YtpjenobkibfpcaaCmX
import Derived.Test.YtpjenobkibfpcaaCmXE
import Derived.ProofKit
import Derived.Test.YtpjenobkibfpcaaKD07
set_option linter.unusedSimpArgs false
set_option linter.unusedVariables false
namespace Go.AM.Ytpjenobkibfpcaa
open Go.AM Go.Proofs
def el:Ty->TypeId
 | .u64=> 40
 | .u8=> 5
 | .int=> 3
 | .tree=> 25
 | .wedit=> 42
 | .edit=> 31
 | .kid=> 84
 | .op=> 82
 | .piece=> 150
 | .unit=> 164
 | .pair=> 166
 | .step=> 58
 | .deed=> 70
def tb:Tables U:=
 {el:=el
  sl:=[(22,.u64),(23,.tree),(26,.step),(27,.wedit),(28,.kid),(29,.op),(64,.edit),(94,.u8),(146,.piece),(153,.int),(158,.pair),(161,.unit)]
  var:=[(2,false,[.int .i64 0]),
   (3,false,[.int .i64 0]),
   (4,false,[.bool false]),
   (5,false,[.int .u8 0]),
   (6,false,[.int .u8 0]),
   (7,true,[.int .i64 0,.int .i64 0,.bool false,.int .u8 0]),
   (8,true,[.int .i64 0,.int .i64 0,.bool false,.int .u8 0]),
   (12,false,[.int .u64 0]),
   (15,false,[.nilp]),
   (16,false,[.nilp]),
   (17,false,[.nilp]),
   (18,true,[.nilp]),
   (19,true,[.nilp]),
   (21,false,[.int .i32 0]),
   (22,false,[.nils]),
   (23,false,[.nils]),
   (24,true,[.int .i64 0,.nils,.nils]),
   (25,true,[.int .i64 0,.nils,.nils]),
   (26,false,[.nils]),
   (27,false,[.nils]),
   (28,false,[.nils]),
   (29,false,[.nils]),
   (30,true,[.int .i64 0,.int .i64 0,.nils,.nils,.int .i64 0,.nils,.nils,.nils,.nils,.int .i64 0,.nils]),
   (31,true,[.int .i64 0,.int .i64 0,.nils,.nils,.int .i64 0,.nils,.nils,.nils,.nils,.int .i64 0,.nils]),
   (40,false,[.int .u64 0]),
   (41,true,[.int .i64 0,.int .u8 0,.int .u64 0,.int .u64 0]),
   (42,true,[.int .i64 0,.int .u8 0,.int .u64 0,.int .u64 0]),
   (57,true,[.int .i64 0,.int .i64 0]),
   (58,true,[.int .i64 0,.int .i64 0]),
   (60,false,[.int .i64 0]),
   (64,false,[.nils]),
   (66,false,[.nilp]),
   (69,true,[.int .i64 0,.int .i64 0,.int .i64 0,.int .i64 0,.nils,.nils,.int .i64 0,.nils,.nils,.nils,.nils,.int .i64 0,.nils]),
   (70,true,[.int .i64 0,.int .i64 0,.int .i64 0,.int .i64 0,.nils,.nils,.int .i64 0,.nils,.nils,.nils,.nils,.int .i64 0,.nils]),
   (81,true,[.int .i64 0,.int .i64 0,.nils,.int .i64 0,.int .i64 0,.nils,.nils,.int .i64 0,.nils,.nils,.nils,.nils,.int .i64 0,.nils]),
   (82,true,[.int .i64 0,.int .i64 0,.nils,.int .i64 0,.int .i64 0,.nils,.nils,.int .i64 0,.nils,.nils,.nils,.nils,.int .i64 0,.nils]),
   (83,true,[.int .i64 0,.int .i64 0,.int .i64 0,.nils,.nils,.int .i64 0,.nils,.nils,.nils,.nils,.int .i64 0,.nils]),
   (84,true,[.int .i64 0,.int .i64 0,.int .i64 0,.nils,.nils,.int .i64 0,.nils,.nils,.nils,.nils,.int .i64 0,.nils]),
   (90,true,[.int .u8 0,.int .u8 0,.int .u8 0,.int .u8 0,.int .u8 0,.int .u8 0,.int .u8 0,.int .u8 0]),
   (94,false,[.nils]),
   (101,false,[.nilp]),
   (102,true,[.bool false,.bool false]),
   (103,true,[.bool false,.bool false]),
   (108,true,[.int .i64 0,.nils,.nils,.nils,.nils]),
   (109,true,[.int .i64 0,.nils,.nils,.nils,.nils]),
   (135,false,[.nilp]),
   (136,true,[.nils,.nils,.nils]),
   (137,true,[.nils,.nils,.nils]),
   (140,false,[.nilp]),
   (146,false,[.nils]),
   (149,true,[.int .i64 0,.int .i64 0,.int .i64 0,.nils,.int .i64 0,.int .i64 0,.nils,.nils,.int .i64 0,.nils,.nils,.nils,.nils,.int .i64 0,.nils,.int .i64 0,.int .i64 0,.nils,.int .i64 0,.int .i64 0,.nils,.nils,.int .i64 0,.nils,.nils,.nils,.nils,.int .i64 0,.nils]),
   (150,true,[.int .i64 0,.int .i64 0,.int .i64 0,.nils,.int .i64 0,.int .i64 0,.nils,.nils,.int .i64 0,.nils,.nils,.nils,.nils,.int .i64 0,.nils,.int .i64 0,.int .i64 0,.nils,.int .i64 0,.int .i64 0,.nils,.nils,.int .i64 0,.nils,.nils,.nils,.nils,.int .i64 0,.nils]),
   (153,false,[.nils]),
   (158,false,[.nils]),
   (161,false,[.nils]),
   (163,true,[.int .i64 0,.int .i64 0,.int .i64 0,.nils,.nils,.int .i64 0,.int .i64 0,.nils,.nils,.int .i64 0,.nils,.nils,.nils,.nils,.int .i64 0,.nils,.bool false]),
   (164,true,[.int .i64 0,.int .i64 0,.int .i64 0,.nils,.nils,.int .i64 0,.int .i64 0,.nils,.nils,.int .i64 0,.nils,.nils,.nils,.nils,.int .i64 0,.nils,.bool false]),
   (165,true,[.int .i64 0,.int .i64 0,.int .i64 0,.int .i64 0,.nils,.nils,.int .i64 0,.int .i64 0,.nils,.nils,.int .i64 0,.nils,.nils,.nils,.nils,.int .i64 0,.nils,.bool false,.int .i64 0,.int .i64 0,.int .i64 0,.nils,.nils,.int .i64 0,.int .i64 0,.nils,.nils,.int .i64 0,.nils,.nils,.nils,.nils,.int .i64 0,.nils,.bool false]),
   (166,true,[.int .i64 0,.int .i64 0,.int .i64 0,.int .i64 0,.nils,.nils,.int .i64 0,.int .i64 0,.nils,.nils,.int .i64 0,.nils,.nils,.nils,.nils,.int .i64 0,.nils,.bool false,.int .i64 0,.int .i64 0,.int .i64 0,.nils,.nils,.int .i64 0,.int .i64 0,.nils,.nils,.int .i64 0,.nils,.nils,.nils,.nils,.int .i64 0,.nils,.bool false]),
   (176,false,[.nilp]),
   (177,true,[.nilp,.nils,.nils,.nils,.nils]),
   (178,true,[.nilp,.nils,.nils,.nils,.nils]),
   (186,false,[.nilp]),
   (187,true,[.nils,.int .i64 0]),
   (188,true,[.nils,.int .i64 0]),
   (206,true,[.int .i64 0,.int .i64 0,.int .i64 0,.int .i64 0,.int .i64 0,.int .i64 0]),
   (214,false,[.int .u32 0]),
   (215,false,[.int .u8 0]),
   (216,false,[.int .u8 0]),
   (218,false,[.nilp]),
   (219,false,[.int .i32 0]),
   (220,false,[.int .i32 0])]
  fld:=[(7,0,0,2),(7,1,1,3),(7,2,2,4),(7,3,3,6),(8,0,0,2),(8,1,1,3),(8,2,2,4),(8,3,3,6),(18,0,0,17),(19,0,0,17),(24,0,0,3),(24,1,1,22),(24,2,2,23),(25,0,0,3),(25,1,1,22),(25,2,2,23),(30,0,0,3),(30,1,1,25),(30,2,4,25),(30,3,7,27),(30,4,8,28),(30,5,9,3),(30,6,10,29),(31,0,0,3),(31,1,1,25),(31,2,4,25),(31,3,7,27),(31,4,8,28),(31,5,9,3),(31,6,10,29),(41,0,0,3),(41,1,1,5),(41,2,2,40),(41,3,3,40),(42,0,0,3),(42,1,1,5),(42,2,2,40),(42,3,3,40),(57,0,0,3),(57,1,1,3),(58,0,0,3),(58,1,1,3),(69,0,0,3),(69,1,1,3),(69,2,2,31),(70,0,0,3),(70,1,1,3),(70,2,2,31),(81,0,0,3),(81,1,1,3),(81,2,2,23),(81,3,3,31),(82,0,0,3),(82,1,1,3),(82,2,2,23),(82,3,3,31),(83,0,0,3),(83,1,1,31),(84,0,0,3),(84,1,1,31),(102,0,0,4),(102,1,1,4),(103,0,0,4),(103,1,1,4),(108,0,0,25),(108,1,3,64),(108,2,4,64),(109,0,0,25),(109,1,3,64),(109,2,4,64),(136,0,0,29),(136,1,1,23),(136,2,2,23),(137,0,0,29),(137,1,1,23),(137,2,2,23),(149,0,0,3),(149,1,1,82),(149,2,15,82),(150,0,0,3),(150,1,1,82),(150,2,15,82),(163,0,0,3),(163,1,1,3),(163,2,2,25),(163,3,5,31),(163,4,16,4),(164,0,0,3),(164,1,1,3),(164,2,2,25),(164,3,5,31),(164,4,16,4),(165,0,0,3),(165,1,1,164),(165,2,18,164),(166,0,0,3),(166,1,1,164),(166,2,18,164),(177,0,0,101),(177,1,1,29),(177,2,2,29),(177,3,3,23),(177,4,4,23),(178,0,0,101),(178,1,1,29),(178,2,2,29),(178,3,3,23),(178,4,4,23),(187,0,0,29),(187,1,1,3),(188,0,0,29),(188,1,1,3)]
  arr:=[(90,8,5),(206,6,3)]
  eqs:=[41,42,57,58] }
def cfg:Cfg U:=tb.cfg K
theorem ZtL:tb.var.all (ZnN Try.prog)=true:=by kernel_rfl
theorem Zvm:tb.sl.all (slB Try.prog tb.el)=true:=by kernel_rfl
theorem Zu5:tb.fld.all (ZrI Try.prog)=true:=by kernel_rfl
theorem Zub:tb.arr.all (Zsg Try.prog)=true:=by kernel_rfl
theorem Zvn:∀ t,elB Try.prog K tb t=true:=by
 intro t
 cases t
 ·kernel_rfl
 ·kernel_rfl
 ·kernel_rfl
 ·kernel_rfl
 ·kernel_rfl
 ·kernel_rfl
 ·kernel_rfl
 ·kernel_rfl
 ·kernel_rfl
 ·kernel_rfl
 ·kernel_rfl
 ·kernel_rfl
 ·kernel_rfl
theorem Zj:CfgOk Try.prog cfg:=Zin Zvu ZtL Zvm Zu5 Zub Zvn (by kernel_rfl) (by kernel_rfl)
abbrev sU(T:Ty)(l:List (El T))(t:Tail):C U:= .slice (U:=U) T l t
noncomputable abbrev AW(K:Known U)(f:Func)(lv:Zc U)(p:List Nat):=awp cfg K (ZC cfg K) f.ntmps lv (cd f p)
noncomputable abbrev SW(K:Known U)(f:Func)(lv:Zc U)(p:List Nat):=Z9h cfg K (ZC cfg K) f.ntmps lv (cd f p)
abbrev EQ(f:Func):=YA cfg f.ntmps f.results.toList
abbrev QT:=AExit->LSt U->Prop
abbrev NT:=LSt U->Prop
abbrev CT(k:FuncId)(s:Fs U):Prop:=Contract Try.prog cfg k s
abbrev xB:=@AExit.inBlock U
abbrev xT:=@AExit.then U
abbrev ci(x:Int):C U:= .int .i64 x
abbrev L2(e:List (Nat × V U))(m:List (Name × List (C U))):LSt U:=⟨e,m,[]⟩
abbrev pL(n:Nat):Nat × V U:=(n,.ptr (.loc n) 0)
abbrev pB(n:Nat)(b:Bool):Nat × V U:=(n,.c (.bool b))
abbrev pI(n:Nat)(x:Int):Nat × V U:=(n,.c (.int .i64 x))
def lvl(l:List (List Nat × List Nat)):Zc U:=fun i=> ((l.getD i ([],[])).1.map fun k=> (k,[]),(l.getD i ([],[])).2.map fun k=> (.loc k,[]))
abbrev zc0:List (C U):=[.int .u8 0,.int .u8 0,.int .u8 0,.int .u8 0,.int .u8 0,.int .u8 0,.int .u8 0,.int .u8 0]
abbrev zc1:List (C U):=[.int .i64 0,.int .i64 0,.nils,.nils,.int .i64 0,.nils,.nils,.nils,.nils,.int .i64 0,.nils]
end Go.AM.Ytpjenobkibfpcaa
namespace Go.AM.Ytpjenobkibfpcaa
open Go.AM Go.Proofs Go.Proofs.Ytpjenobkibfpcaa Go.ChangeShapes Go.WideShapes Go.RowKit
theorem own:ownKnob Try.prog.godebug=none:=by kernel_rfl
theorem ZoJ:laidOutB Try.prog=true:=by kernel_rfl
theorem ZaJ:TreeTypes cfg:=⟨rfl,rfl,⟨_,rfl⟩,⟨_,rfl⟩,⟨_,rfl,rfl⟩,⟨_,_,rfl,rfl⟩,⟨_,_,rfl,rfl,rfl⟩,⟨_,_,rfl,rfl,rfl⟩⟩
theorem Zjb:EditTypes cfg:=⟨⟨_,rfl,rfl⟩,⟨_,_,rfl,rfl⟩,⟨_,_,rfl,rfl⟩,⟨_,_,rfl,rfl⟩,⟨_,_,rfl,rfl⟩,⟨_,rfl,rfl⟩,⟨_,_,rfl,rfl⟩,rfl,⟨_,rfl,rfl⟩,⟨_,_,rfl,rfl⟩,⟨_,_,rfl,rfl⟩,⟨_,_,rfl,rfl,rfl⟩,rfl,⟨_,rfl,rfl⟩,⟨_,_,rfl,rfl⟩,rfl,rfl,⟨_,_,rfl,rfl,rfl⟩,⟨_,_,rfl,rfl,rfl⟩,⟨_,_,rfl,rfl⟩,⟨_,_,rfl,rfl,rfl⟩⟩
theorem ZoV{H:Type}{henc:TypeId × Value->H}:Zna henc Try.prog cfg (aEl .tree) 25 inT:=ZoX Zj rfl ⟨_,_,rfl⟩ (fun _ n cs h=> Z8v Zj ZaJ n cs h)
end Go.AM.Ytpjenobkibfpcaa
namespace Go.AM.Ytpjenobkibfpcaa
open Go.AM Go.Proofs Go.Proofs.Ytpjenobkibfpcaa Go.ChangeShapes Go.WideShapes Go.RowKit
theorem Zn0{H:Type}{henc:TypeId × Value->H}:Zna henc Try.prog cfg (aSl .edit) 64 (fun l=> l.length*cfg.bytes .edit<=reachBytes/\∀ e∈l,inE e):=
 ZoW Zj rfl (fun _ n cs h=> ZnT Zj ZaJ Zjb n cs h)
end Go.AM.Ytpjenobkibfpcaa
namespace Go.AM.Ytpjenobkibfpcaa
open Go.AM Go.Proofs
noncomputable section
def ZfV:ArgL (Tree × Int × Int × Unit):=(.cons (aEl .tree) (.cons (Yq .i64) (.cons (Yq .i64) .nil)))
def Z5M(a:Tree × Int × Int × Unit):Prop:=Z12 a.1/\0<=a.2.1/\a.2.1<=4611686018427387904/\-1<=a.2.2.1/\a.2.2.1<=4611686018427387904
def ZiK(a:Tree × Int × Int × Unit):Nat:=Zm a.1
def Zdi(a:Tree × Int × Int × Unit):V U:= .c (ci (Zr a.1 a.2.1 a.2.2.1))
def Z32:Fs U:=fs ZfV (fun a=> [Z5M a]) Zdi
def ZmX:ArgL (Tree × Unit):=(.cons (aEl .tree) .nil)
def ZgT(a:Tree × Unit):Prop:=Z12 a.1
def ZpO(a:Tree × Unit):V U:= .c (.bool (decide (0<=Zr a.1 80 3000)))
def Z39:Fs U:=fs ZmX (fun a=> [ZgT a]) ZpO
def ZmL:ArgL (List Int × List Int × Unit):=(.cons (aSl .u64) (.cons (aSl .u64) .nil))
def ZaZ(a:List Int × List Int × Unit):Prop:=a.1.length<=1000000000000
def Zdj(a:List Int × List Int × Unit):V U:= .c (.bool (decide (a.1=a.2.1)))
def Z8X:Fs U:=fs ZmL (fun a=> [ZaZ a]) Zdj
def ZmG:ArgL (List Int × Unit):=(.cons (aSl .u64) .nil)
def Zdp(a:List Int × Unit):Prop:=a.1.length<=1000000000000
def Zko(a:List Int × Unit):V U:= .c (sU .u64 (trim a.1) .unk)
def Z8U:Fs U:=fs ZmG (fun a=> [Zdp a]) Zko
def ZkP(a:List Int × Unit):V U:= .c (sU .u64 a.1 .unk)
def Z5B:Fs U:=fs ZmG (fun a=> [Zdp a]) ZkP
def ZhN:ArgL (Tree × Int × Unit):=(.cons (aEl .tree) (.cons (Yq .i64) .nil))
def Z72(a:Tree × Int × Unit):Prop:=True
def ZbZ(a:Tree × Int × Unit):V U:= .c (.int .u64 (YS a.1 a.2.1))
def Z0A:Fs U:=fs ZhN (fun a=> [Z72 a]) ZbZ
def ZgD(a:Tree × Int × Unit):V U:= .agg (enc .tree (J5 a.1 a.2.1))
def Z2n:Fs U:=fs ZhN (fun a=> [Z72 a]) ZgD
def Z9w(a:Tree × Unit):Prop:=Zm a.1<=1000000000000
def ZiN(a:Tree × Unit):Nat:=Zm a.1
def ZaT(a:Tree × Unit):V U:= .agg (enc .tree (Z3 a.1))
def Z94:Fs U:=fs ZmX (fun a=> [Z9w a]) ZaT
def Zg6:ArgL (Tree × Tree × Unit):=(.cons (aEl .tree) (.cons (aEl .tree) .nil))
def Z7K(a:Tree × Tree × Unit):Prop:=Zm a.1<=1000000000000
def ZiO(a:Tree × Tree × Unit):Nat:=Zm a.1
def ZaU(a:Tree × Tree × Unit):V U:= .c (.bool (Yf a.1 a.2.1))
def Z98:Fs U:=fs Zg6 (fun a=> [Z7K a]) ZaU
def Z1e(a:Tree × Tree × Unit):Prop:=Zm a.1<=1000000000000/\Zm a.2.1<=1000000000000
def Zb7(a:Tree × Tree × Unit):Nat:=Zm a.1+Zm a.2.1
def Z4Z(a:Tree × Tree × Unit):V U:= .c (.bool (Yf (Z3 a.1) (Z3 a.2.1)))
def Z0C:Fs U:=fs Zg6 (fun a=> [Z1e a]) Z4Z
def Zfv(N:Nat):List (FuncId × Fs U):=(78,fs ZfV (fun a=> [Z5M a,ZiK a < N]) Zdi) ::[]
def Zov:Zc U:=lvl [([1,2,3],[3]),([1,2,3],[3]),([1,2,3,19],[3]),([6],[]),([1,2,3,7],[3]),([1,2,3,7,28],[3]),([1,2,3,7],[3]),([1,2,3,7],[3]),([6],[])]
def Z6h(t:Tree)(d l x2 x7:Int):LSt U:=(L2 [pI 1 d,pI 2 x2,pL 3,pI 7 x7] [(.loc 3,(enc .tree t))])
abbrev A78(N:Nat)(p:List Nat):=AW (Z1 (Zfv N)) Try.f78 Zov p
abbrev S78(N:Nat)(p:List Nat):=SW (Z1 (Zfv N)) Try.f78 Zov p
theorem ZuR(N:Nat)(t:Tree)(d l:Int)(Q:QT)(h:let z0:=bif (d==0) then true else (decide (((((l - 1):Int) - (t.words.length:Int)):Int) < 0));((InR (l - 1))/\(InR (((l - 1):Int) - (t.words.length:Int)))/\((Tr ((!(d==0))=true))/\((d==0)=false->(!(d==0))=true)/\((z0=true->(Q .ret (L2 [pI 6 (-1)] [])))/\(z0=false->(Zh (A78 N [1,1,1,0,1,0,0]) (Z6h t d l (((l - 1):Int) - (t.words.length:Int)) 0) (xB 0 (S78 N [1,1,1,1] Q)))))))):
  A78 N [] (L2 [(0,.agg (enc .tree t)),pI 1 d,pI 2 l] []) Q:=
 Eq.mpr (by kernel_rfl) h
theorem Znn(N:Nat)(t:Tree)(d l x2 x7:Int)(N0:NT)(Q:QT)(h:let z2:=t.kids.getD x7.toNat Tree.nil;let z1:=decide (x7 < (t.kids.length:Int));let z3:=bif z1 then (decide ((0:Int)<=x2)) else false;let z0:=Tree.mk (Tree.kind z2) (Tree.words z2) (Tree.kids z2);(Tr (z1=true))/\(Tr (z1=true))/\((z3=true->((0:Int)<=x7/\x7 < (t.kids.length:Int))/\(InR (d - 1))/\(Z5M (z0,(d - 1),x2,()))/\(ZiK (z0,(d - 1),x2,()) < N)/\((InR (x7+1))/\(N0 (Z6h t d l (Zr z0 (d - 1) x2) (x7+1)))))/\(z3=false->(Q .ret (L2 [pI 6 x2] []))))):
  A78 N [1,1,1,0,1,0,0] (Z6h t d l x2 x7) (xT N0 (xB 0 (S78 N [1,1,1,1] Q))):=
 Eq.mpr (by kernel_rfl) h
def ZsB(N:Nat)(t:Tree)(d l:Int):Prop:=AW (Z1 (Zfv N)) Try.f78 Zov [] (Zg (ZfV.can (t,d,l,())) []) (EQ Try.f78 (Zdi (t,d,l,())) [])
theorem ZqP(hb:∀ (N:Nat) (t:Tree) (d:Int) (l:Int) (_:Unit),Z5M (t,d,l,())->ZiK (t,d,l,()) < N+1->ZsB N t d l):CT 78 Z32:=
 Yb (μ:=ZiK) (l:=[]) Zj rfl trivial Zov Try.func78 rfl rfl 3 (fun _=> rfl) (by decide) (fun N ⟨t,d,l,_⟩=> hb N t d l ())
def Zmj:List (FuncId × Fs U):=[(78,Z32)]
def ZrB:Zc U:=lvl [([1],[1]),([2],[])]
abbrev A36(p:List Nat):=AW (Z1 Zmj) Try.f36 ZrB p
theorem Zvh(t:Tree)(Q:QT)(h:let z0:=Tree.mk t.kind t.words t.kids;((Z5M (z0,80,3000,()))/\(Q .ret (L2 [(2,.c (.bool (decide ((0:Int)<=(Zr z0 80 3000)))))] [])))):
  A36 [] (L2 [(0,.agg (enc .tree t))] []) Q:=
 Eq.mpr (by kernel_rfl) h
def Zt1(t:Tree):Prop:=AW (Z1 Zmj) Try.f36 ZrB [] (Zg (ZmX.can (t,())) []) (EQ Try.f36 (ZpO (t,())) [])
theorem Zrc(c78:CT 78 Z32)(hb:∀ (t:Tree) (_:Unit),ZgT (t,())->Zt1 t):CT 36 Z39:=
 Z7 (l:=[(78,Z32)]) Zj rfl (⟨c78,trivial⟩) ZrB Try.func36 rfl rfl 1 (fun _=> rfl) (by decide) (fun ⟨t,_⟩=> hb t ())
def Zfw:List (FuncId × Fs U):=[]
def Zow:Zc U:=lvl [([0,1],[]),([0,1,10],[]),([4],[]),([0,1,5],[]),([0,1,5,14],[]),([0,1,5],[]),([0,1,5,25],[]),([4],[]),([4],[])]
def Z6i(a b:List Int)(x5:Int):LSt U:=(L2 [(0,.c (sU .u64 a .unk)),(1,.c (sU .u64 b .unk)),pI 5 x5] [])
abbrev A75(p:List Nat):=AW (Z1 Zfw) Try.f75 Zow p
abbrev S75(p:List Nat):=SW (Z1 Zfw) Try.f75 Zow p
theorem ZuS(a b:List Int)(Q:QT)(h:let z0:=((a.length:Int):Int) !=(b.length:Int);((z0=true->(Q .ret (L2 [pB 4 false] [])))/\(z0=false->(Zh (A75 [1,1,0,1,0,0]) (Z6i a b 0) (xB 0 (S75 [1,1,1] Q)))))):
  A75 [] (L2 [(0,.c (sU .u64 a .unk)),(1,.c (sU .u64 b .unk))] []) Q:=
 Eq.mpr (by kernel_rfl) h
theorem Zno(a b:List Int)(x5:Int)(N0:NT)(Q:QT)(h:let z1:=decide (x5 < (a.length:Int));let z0:=((a.getD x5.toNat (0:Int)):Int) !=(b.getD x5.toNat (0:Int));((z1=true->((0:Int)<=x5/\x5 < (a.length:Int))/\((0:Int)<=x5/\x5 < (b.length:Int))/\((z0=true->(Q .ret (L2 [pB 4 false] [])))/\(z0=false->(InR (x5+1))/\(N0 (Z6i a b (x5+1))))))/\(z1=false->(Q .ret (L2 [pB 4 true] []))))):
  A75 [1,1,0,1,0,0] (Z6i a b x5) (xT N0 (xB 0 (S75 [1,1,1] Q))):=
 Eq.mpr (by kernel_rfl) h
def ZsC(a b:List Int):Prop:=AW (Z1 Zfw) Try.f75 Zow [] (Zg (ZmL.can (a,b,())) []) (EQ Try.f75 (Zdj (a,b,())) [])
theorem ZqQ(hb:∀ (a:List Int) (b:List Int) (_:Unit),ZaZ (a,b,())->ZsC a b):CT 75 Z8X:=
 Z7 (l:=[]) Zj rfl trivial Zow Try.func75 rfl rfl 2 (fun _=> rfl) (by decide) (fun ⟨a,b,_⟩=> hb a b ())
def Zot:Zc U:=lvl [([0],[]),([0,3],[]),([0,3,16],[]),([0,3],[]),([0,3,4],[]),([2],[])]
def Z6f(l:List Int)(x3:Int):LSt U:=(L2 [(0,.c (sU .u64 l .unk)),pI 3 x3] [])
abbrev A84(p:List Nat):=AW (Z1 Zfw) Try.f84 Zot p
abbrev S84(p:List Nat):=SW (Z1 Zfw) Try.f84 Zot p
theorem ZuL(l:List Int)(Q:QT)(h:(Zh (A84 [1,1,0,0,0]) (Z6f l (l.length:Int)) (xB 0 (S84 [1,1,1] Q)))):
  A84 [] (L2 [(0,.c (sU .u64 l .unk))] []) Q:=
 Eq.mpr (by kernel_rfl) h
theorem Znl(l:List Int)(x3:Int)(N0:NT)(Q:QT)(h:let z0:=decide ((0:Int) < x3);let z1:=bif z0 then (((List.getD l (Int.toNat (x3 - 1)) (0:Int)):Int)==0) else false;(Tr (z0=true))/\(z0=true->InR (x3 - 1))/\(Tr (z0=true))/\(Tr (z0=true))/\(z0=true->(0:Int)<=(x3 - 1)/\(x3 - 1) < (l.length:Int))/\(Tr (z0=true))/\(Tr (z0=true))/\(Tr (z0=true))/\((z1=true->(InR (x3 - 1))/\(N0 (Z6f l (x3 - 1))))/\(z1=false->(((0:Int)<=x3/\x3<=(l.length:Int))/\((([]:List Int).length+(List.take x3.toNat l).length)*8<=140737488355328)/\(Q .ret (L2 [(2,.c (sU .u64 (([]:List Int)++(List.take x3.toNat l)) (.own (.e 2 0))))] [])))))):
  A84 [1,1,0,0,0] (Z6f l x3) (xT N0 (xB 0 (S84 [1,1,1] Q))):=
 Eq.mpr (by kernel_rfl) h
def Zsv(l:List Int):Prop:=AW (Z1 Zfw) Try.f84 Zot [] (Zg (ZmG.can (l,())) []) (EQ Try.f84 (Zko (l,())) [])
theorem ZqJ(hb:∀ (l:List Int) (_:Unit),Zdp (l,())->Zsv l):CT 84 Z8U:=
 Z7 (l:=[]) Zj rfl trivial Zot Try.func84 rfl rfl 1 (fun _=> rfl) (by decide) (fun ⟨l,_⟩=> hb l ())
def ZlN:Zc U:=lvl [([0],[]),([0,4],[]),([2],[]),([2],[])]
abbrev ZvC(p:List Nat):=AW (Z1 Zfw) Try.f109 ZlN p
theorem ZtE(l:List Int)(Q:QT)(h:(((l=[])->(Q .ret (L2 [(2,.c (.nils))] [])))/\(True->((([]:List Int).length+l.length)*8<=140737488355328)/\(Q .ret (L2 [(2,.c (sU .u64 (([]:List Int)++l) (.own (.e 2 0))))] []))))):
  ZvC [] (L2 [(0,.c (sU .u64 l .unk))] []) Q:=
 Eq.mpr (by kernel_rfl) h
def Zpu(l:List Int):Prop:=AW (Z1 Zfw) Try.f109 ZlN [] (Zg (ZmG.can (l,())) []) (EQ Try.f109 (ZkP (l,())) [])
theorem Zon(hb:∀ (l:List Int) (_:Unit),Zdp (l,())->Zpu l):CT 109 Z5B:=
 Z7 (l:=[]) Zj rfl trivial ZlN Try.func109 rfl rfl 1 (fun _=> rfl) (by decide) (fun ⟨l,_⟩=> hb l ())
def Zh1:Zc U:=lvl [([0,1],[]),([0,1,10],[]),([4],[]),([0,1,12,13],[]),([0,1,12,13,14],[]),([0,1,5,12,13],[]),([0,1,12,13,24],[]),([4],[]),([0,1,12,13],[]),([4],[])]
def Z4d(a b:List Int)(x13:Int):LSt U:=(L2 [(0,.c (sU .u64 a .unk)),(1,.c (sU .u64 b .unk)),pI 12 (a.length:Int),pI 13 x13] [])
abbrev Zt6(p:List Nat):=AW (Z1 Zfw) Try.f148 Zh1 p
abbrev Zuw(p:List Nat):=SW (Z1 Zfw) Try.f148 Zh1 p
theorem Ztr(a b:List Int)(Q:QT)(h:let z0:=((a.length:Int):Int) !=(b.length:Int);((z0=true->(Q .ret (L2 [pB 4 false] [])))/\(z0=false->(Zh (Zt6 [1,1,0,1,0,0]) (Z4d a b 0) (xB 0 (Zuw [1,1,1] Q)))))):
  Zt6 [] (L2 [(0,.c (sU .u64 a .unk)),(1,.c (sU .u64 b .unk))] []) Q:=
 Eq.mpr (by kernel_rfl) h
theorem ZjL(a b:List Int)(x13:Int)(N0:NT)(Q:QT)(h:let z1:=decide (x13 < (a.length:Int));let z0:=((a.getD x13.toNat (0:Int)):Int) !=(b.getD x13.toNat (0:Int));((z1=true->(((0:Int)<=x13/\x13 < (a.length:Int))/\((0:Int)<=x13/\x13 < (b.length:Int))/\((z0=true->(Q .ret (L2 [pB 4 false] [])))/\(z0=false->(InR (x13+1))/\(N0 (Z4d a b (x13+1)))))))/\(z1=false->(Q .ret (L2 [pB 4 true] []))))):
  Zt6 [1,1,0,1,0,0] (Z4d a b x13) (xT N0 (xB 0 (Zuw [1,1,1] Q))):=
 Eq.mpr (by kernel_rfl) h
def Zph(a b:List Int):Prop:=AW (Z1 Zfw) Try.f148 Zh1 [] (Zg (ZmL.can (a,b,())) []) (EQ Try.f148 (Zdj (a,b,())) [])
theorem Zod(hb:∀ (a:List Int) (b:List Int) (_:Unit),ZaZ (a,b,())->Zph a b):CT 148 Z8X:=
 Z7 (l:=[]) Zj rfl trivial Zh1 Try.func148 rfl rfl 2 (fun _=> rfl) (by decide) (fun ⟨a,b,_⟩=> hb a b ())
def ZlG:Zc U:=lvl [([1,2],[2]),([1,2,13],[2]),([4],[]),([4],[])]
abbrev Zvz(p:List Nat):=AW (Z1 Zfw) Try.f149 ZlG p
theorem Ztq(t:Tree)(i:Int)(Q:QT)(h:let z1:= !(decide (i < 0));let z0:=bif (decide (i < 0)) then true else (decide (((t.words.length:Int):Int)<=i));((Tr (z1=true))/\(Tr (z1=true))/\(Tr (z1=true))/\(Tr (z1=true))/\((decide (i < 0))=false->z1=true)/\((z0=true->(Q .ret (L2 [(4,.c (.int .u64 0))] [])))/\(z0=false->((0:Int)<=i/\i < (t.words.length:Int))/\(Q .ret (L2 [(4,.c (.int .u64 (t.words.getD i.toNat (0:Int))))] [])))))):
  Zvz [] (L2 [(0,.agg (enc .tree t)),pI 1 i] []) Q:=
 Eq.mpr (by kernel_rfl) h
def Zpg(t:Tree)(i:Int):Prop:=AW (Z1 Zfw) Try.f149 ZlG [] (Zg (ZhN.can (t,i,())) []) (EQ Try.f149 (ZbZ (t,i,())) [])
theorem Zoc(hb:∀ (t:Tree) (i:Int) (_:Unit),Z72 (t,i,())->Zpg t i):CT 149 Z0A:=
 Z7 (l:=[]) Zj rfl trivial ZlG Try.func149 rfl rfl 2 (fun _=> rfl) (by decide) (fun ⟨t,i,_⟩=> hb t i ())
def Zrh:Zc U:=lvl [([1,2,4],[2,4]),([1,2,4,13],[2,4]),([4],[4]),([4],[4])]
abbrev A91(p:List Nat):=AW (Z1 Zfw) Try.f91 Zrh p
theorem ZuI(t:Tree)(i:Int)(Q:QT)(h:let z1:= !(decide (i < 0));let z0:=bif (decide (i < 0)) then true else (decide (((t.kids.length:Int):Int)<=i));((Tr (z1=true))/\(Tr (z1=true))/\(Tr (z1=true))/\(Tr (z1=true))/\((decide (i < 0))=false->z1=true)/\((z0=true->(Q .ret (L2 [pL 4] [(.loc 4,[ci 0,.nils,.nils])])))/\(z0=false->((0:Int)<=i/\i < (t.kids.length:Int))/\(Q .ret (L2 [pL 4] [(.loc 4,(enc .tree (t.kids.getD i.toNat Tree.nil)))])))))):
  A91 [] (L2 [(0,.agg (enc .tree t)),pI 1 i] []) Q:=
 Eq.mpr (by kernel_rfl) h
def Zss(t:Tree)(i:Int):Prop:=AW (Z1 Zfw) Try.f91 Zrh [] (Zg (ZhN.can (t,i,())) []) (EQ Try.f91 (ZgD (t,i,())) [])
theorem ZqH(hb:∀ (t:Tree) (i:Int) (_:Unit),Z72 (t,i,())->Zss t i):CT 91 Z2n:=
 Z7 (l:=[]) Zj rfl trivial Zrh Try.func91 rfl rfl 2 (fun _=> rfl) (by decide) (fun ⟨t,i,_⟩=> hb t i ())
def ZfE(N:Nat):List (FuncId × Fs U):=(45,fs ZmX (fun a=> [Z9w a,ZiN a < N]) ZaT) ::[(84,Z8U)]
def ZoE:Zc U:=fun i=> match i with
 | 0=> ([(1,[]),(2,[])],[(.loc 1,[]),(.loc 2,[])])
 | 1=> ([(1,[]),(2,[]),(10,[])],[(.loc 1,[]),(.loc 2,[])])
 | 2=> ([(2,[])],[(.loc 2,[])])
 | 3=> ([(1,[]),(2,[]),(3,[])],[(.loc 1,[]),(.loc 2,[])])
 | 4=> ([(1,[]),(2,[]),(3,[]),(4,[])],[(.loc 1,[]),(.loc 2,[])])
 | 5=> ([(1,[]),(2,[]),(3,[.own .tree]),(4,[]),(5,[])],[(.loc 1,[]),(.loc 2,[])])
 | 6=> ([(1,[]),(2,[]),(3,[]),(4,[]),(5,[]),(16,[])],[(.loc 1,[]),(.loc 2,[])])
 | 7=> ([(1,[]),(2,[]),(3,[.own .tree]),(4,[]),(5,[])],[(.loc 1,[]),(.loc 2,[])])
 | 8=> ([(1,[]),(2,[]),(3,[]),(4,[]),(5,[]),(6,[])],[(.loc 1,[]),(.loc 2,[]),(.loc 6,[])])
 | 9=> ([(1,[]),(2,[]),(3,[]),(4,[]),(5,[]),(6,[])],[(.loc 1,[]),(.loc 2,[]),(.loc 6,[])])
 | 10=> ([(1,[]),(2,[]),(3,[]),(4,[]),(5,[]),(31,[])],[(.loc 1,[]),(.loc 2,[])])
 | 11=> ([(1,[]),(2,[]),(3,[]),(4,[]),(5,[])],[(.loc 1,[]),(.loc 2,[])])
 | 12=> ([(1,[]),(2,[]),(3,[]),(4,[]),(36,[])],[(.loc 1,[]),(.loc 2,[])])
 | 13=> ([(2,[])],[(.loc 2,[])])
 | 14=> ([(1,[]),(2,[]),(3,[]),(7,[])],[(.loc 1,[]),(.loc 2,[])])
 | 15=> ([(1,[]),(2,[]),(3,[]),(7,[])],[(.loc 1,[]),(.loc 2,[])])
 | 16=> ([(2,[])],[(.loc 2,[])])
 | _=> ([],[])
def Z3H(t:Tree)(x4 x5:Int)(x3:List Tree):LSt U:=(L2 [pL 1,pL 2,(3,.c (sU .tree x3 (.own (.e 3 0)))),pI 4 x4,pI 5 x5] [(.loc 1,(enc .tree t)),(.loc 2,[ci 0,.nils,.nils])])
abbrev A45(N:Nat)(p:List Nat):=AW (Z1 (ZfE N)) Try.f45 ZoE p
abbrev S45(N:Nat)(p:List Nat):=SW (Z1 (ZfE N)) Try.f45 ZoE p
theorem Zv8(N:Nat)(t:Tree)(Q:QT)(h:(((t.kind==0)=true->(Q .ret (L2 [pL 2] [(.loc 2,[ci 0,.nils,.nils])])))/\((t.kind==0)=false->(Zh (A45 N [1,1,1,1,0,1,0,0]) (Z3H t 0 0 []) (xB 0 (S45 N [1,1,1,1,1] Q)))))):
  A45 N [] (L2 [(0,.agg (enc .tree t))] []) Q:=
 Eq.mpr (by kernel_rfl) h
theorem ZnE(N:Nat)(t:Tree)(x4 x5:Int)(x3:List Tree)(N0:NT)(Q:QT)(h:∀ y_1,y_1=(t.kids.getD x5.toNat Tree.nil)->∀ y_2,y_2=y_1->∀ y_3,y_3=(Z3 y_2)->let z1:=decide (x5 < (t.kids.length:Int));let z0:=((Tree.kind (Z3 y_2)):Int) !=0;((z1=true->((0:Int)<=x5/\x5 < (t.kids.length:Int))/\(Z9w (y_2,()))/\(ZiN (y_2,()) < N)/\(((x3.length+([y_3]).length)*56<=140737488355328)/\((z0=true->(InR (x5+1))/\((InR (x5+1))/\(N0 (Z3H t (x5+1) (x5+1) (x3++([y_3]))))))/\(z0=false->(InR (x5+1))/\(N0 (Z3H t x4 (x5+1) (x3++([y_3]))))))))/\(z1=false->(((t.kind==1)=true->(Zdp (t.words,()))/\((0:Int)<=x4/\x4<=(x3.length:Int))/\(Q .ret (L2 [pL 2] [(.loc 2,[ci 1,sU .u64 (trim t.words) .unk,sU .tree (List.take x4.toNat x3) .unk])])))/\((t.kind==1)=false->(((([]:List Int).length+t.words.length)*8<=140737488355328)/\(Q .ret (L2 [pL 2] [(.loc 2,[ci t.kind,sU .u64 (([]:List Int)++t.words) (.own (.l 2 1)),sU .tree x3 (.own (.l 2 2))])])))))))):
  A45 N [1,1,1,1,0,1,0,0] (Z3H t x4 x5 x3) (xT N0 (xB 0 (S45 N [1,1,1,1,1] Q))):=
 Eq.mpr (by kernel_rfl) (h _ rfl _ (Z8 _) _ (Z8 _))
def ZsS(N:Nat)(t:Tree):Prop:=AW (Z1 (ZfE N)) Try.f45 ZoE [] (Zg (ZmX.can (t,())) []) (EQ Try.f45 (ZaT (t,())) [])
theorem Zr3(c84:CT 84 Z8U)(hb:∀ (N:Nat) (t:Tree) (_:Unit),Z9w (t,())->ZiN (t,()) < N+1->ZsS N t):CT 45 Z94:=
 Yb (μ:=ZiN) (l:=[(84,Z8U)]) Zj rfl (⟨c84,trivial⟩) ZoE Try.func45 rfl rfl 1 (fun _=> rfl) (by decide) (fun N ⟨t,_⟩=> hb N t ())
def Zfx(N:Nat):List (FuncId × Fs U):=(71,fs ZmX (fun a=> [Z9w a,ZiN a < N]) ZaT) ::[(109,Z5B)]
def Zox:Zc U:=fun i=> match i with
 | 0=> ([(1,[]),(2,[])],[(.loc 1,[]),(.loc 2,[])])
 | 1=> ([(1,[]),(2,[]),(8,[])],[(.loc 1,[]),(.loc 2,[])])
 | 2=> ([(2,[])],[(.loc 2,[])])
 | 3=> ([(1,[]),(2,[]),(3,[])],[(.loc 1,[]),(.loc 2,[]),(.loc 3,[])])
 | 4=> ([(1,[]),(2,[]),(3,[]),(17,[]),(18,[]),(19,[])],[(.loc 1,[]),(.loc 2,[]),(.loc 3,[.any,.any,.own .tree])])
 | 5=> ([(1,[]),(2,[]),(3,[]),(17,[]),(18,[]),(19,[]),(20,[])],[(.loc 1,[]),(.loc 2,[]),(.loc 3,[])])
 | 6=> ([(1,[]),(2,[]),(3,[]),(5,[]),(17,[]),(18,[]),(19,[])],[(.loc 1,[]),(.loc 2,[]),(.loc 3,[]),(.loc 5,[])])
 | 7=> ([(1,[]),(2,[]),(3,[]),(17,[]),(18,[]),(19,[])],[(.loc 1,[]),(.loc 2,[]),(.loc 3,[])])
 | 8=> ([(1,[]),(2,[]),(3,[]),(17,[]),(18,[]),(19,[])],[(.loc 1,[]),(.loc 2,[]),(.loc 3,[.any,.any,.own .tree])])
 | 9=> ([(2,[]),(3,[]),(33,[])],[(.loc 2,[]),(.loc 3,[.any,.any,.unk .tree])])
 | 10=> ([(2,[]),(3,[]),(33,[]),(48,[])],[(.loc 2,[]),(.loc 3,[.any,.any,.unk .tree])])
 | 11=> ([(2,[]),(3,[]),(33,[])],[(.loc 2,[]),(.loc 3,[.any,.any,.unk .tree])])
 | 12=> ([(2,[]),(3,[]),(33,[]),(48,[]),(72,[])],[(.loc 2,[]),(.loc 3,[])])
 | 13=> ([(2,[]),(3,[]),(33,[]),(48,[])],[(.loc 2,[]),(.loc 3,[.any,.any,.unk .tree])])
 | 14=> ([(2,[])],[(.loc 2,[])])
 | _=> ([],[])
def Z6l(t:Tree)(x19:Int)(ml3_2:List Tree):LSt U:=(L2 [pL 1,pL 2,pL 3,(17,.c (sU .tree t.kids .unk)),pI 18 (t.kids.length:Int),pI 19 x19] [(.loc 1,(enc .tree t)),(.loc 2,[ci 0,.nils,.nils]),(.loc 3,[ci t.kind,sU .u64 t.words .unk,sU .tree ml3_2 (.own (.l 3 2))])])
def Z6k(t:Tree)(ml3_2:List Tree)(ml3_1_a:List Int):LSt U:=(L2 [pL 2,pL 3,pB 33 ((t.kind:Int)==1)] [(.loc 2,[ci 0,.nils,.nils]),(.loc 3,[ci t.kind,sU .u64 ml3_1_a .unk,sU .tree ml3_2 .unk])])
def Z6j(t:Tree)(ml3_1_a:List Int)(ml3_2_b:List Tree):LSt U:=(L2 [pL 2,pL 3,pB 33 ((t.kind:Int)==1),(48,.c (.bool (bif (decide ((0:Int) < (ml3_1_a.length:Int))) then (((List.getD ml3_1_a (Int.toNat (((ml3_1_a.length:Int):Int) - 1)) (0:Int)):Int)==0) else false)))] [(.loc 2,[ci 0,.nils,.nils]),(.loc 3,[ci t.kind,sU .u64 ml3_1_a .unk,sU .tree ml3_2_b .unk])])
abbrev A71(N:Nat)(p:List Nat):=AW (Z1 (Zfx N)) Try.f71 Zox p
abbrev S71(N:Nat)(p:List Nat):=SW (Z1 (Zfx N)) Try.f71 Zox p
theorem ZuT(N:Nat)(t:Tree)(Q:QT)(h:(((t.kind==0)=true->(Q .ret (L2 [pL 2] [(.loc 2,[ci 0,.nils,.nils])])))/\((t.kind==0)=false->(Zdp (t.words,()))/\(Zh (A71 N [1,1,1,0,1,0,0]) (Z6l t 0 []) (xB 0 (S71 N [1,1,1,1] Q)))))):
  A71 N [] (L2 [(0,.agg (enc .tree t))] []) Q:=
 Eq.mpr (by kernel_rfl) h
theorem Znr(N:Nat)(t:Tree)(x19:Int)(ml3_2:List Tree)(N0:NT)(Q:QT)(h:∀ y_1,y_1=(t.kids.getD x19.toNat Tree.nil)->∀ y_2,y_2=y_1->∀ y_3,y_3=(Z3 y_2)->let z0:=decide (x19 < (t.kids.length:Int));((z0=true->((0:Int)<=x19/\x19 < (t.kids.length:Int))/\((Z9w (y_2,()))/\(ZiN (y_2,()) < N)/\((ml3_2.length+([y_3]).length)*56<=140737488355328)/\((InR (x19+1))/\(N0 (Z6l t (x19+1) (ml3_2++([y_3])))))))/\(z0=false->(((t.kind==1)=true->Zh (A71 N [1,1,1,1,0,1,0,0,0,0]) (Z6k t ml3_2 t.words) (xB 2 (S71 N [1,1,1,1,0,1,0,1] (S71 N [1,1,1,1,1] Q))))/\((t.kind==1)=false->(Q .ret (L2 [pL 2] [(.loc 2,[ci t.kind,sU .u64 t.words .unk,sU .tree ml3_2 .unk])]))))))):
  A71 N [1,1,1,0,1,0,0] (Z6l t x19 ml3_2) (xT N0 (xB 0 (S71 N [1,1,1,1] Q))):=
 Eq.mpr (by kernel_rfl) (h _ rfl _ (Z8 _) _ (Z8 _))
theorem Znq(N:Nat)(t:Tree)(ml3_2:List Tree)(ml3_1_a:List Int)(N1:NT)(Q:QT)(h:let z0:=decide ((0:Int) < (ml3_1_a.length:Int));let z1:=bif z0 then (((List.getD ml3_1_a (Int.toNat (((ml3_1_a.length:Int):Int) - 1)) (0:Int)):Int)==0) else false;(Tr (z0=true))/\(Tr (z0=true))/\(Tr (z0=true))/\(Tr (z0=true))/\(z0=true->InR (((ml3_1_a.length:Int):Int) - 1))/\(Tr (z0=true))/\(Tr (z0=true))/\(z0=true->(0:Int)<=(((ml3_1_a.length:Int):Int) - 1)/\(((ml3_1_a.length:Int):Int) - 1) < (ml3_1_a.length:Int))/\(Tr (z0=true))/\(Tr (z0=true))/\(Tr (z0=true))/\((z1=true->(InR (((ml3_1_a.length:Int):Int) - 1))/\((0:Int)<=(((ml3_1_a.length:Int):Int) - 1)/\(((ml3_1_a.length:Int):Int) - 1)<=(ml3_1_a.length:Int))/\(N1 (Z6k t ml3_2 (List.take (Int.toNat (((ml3_1_a.length:Int):Int) - 1)) ml3_1_a))))/\(z1=false->Zh (A71 N [1,1,1,1,0,1,0,1,0,0]) (Z6j t ml3_1_a ml3_2) (xB 4 (S71 N [1,1,1,1,1] Q))))):
  A71 N [1,1,1,1,0,1,0,0,0,0] (Z6k t ml3_2 ml3_1_a) (xT N1 (xB 2 (S71 N [1,1,1,1,0,1,0,1] (S71 N [1,1,1,1,1] Q)))):=
 Eq.mpr (by kernel_rfl) h
theorem Znp(N:Nat)(t:Tree)(ml3_1_a:List Int)(ml3_2_b:List Tree)(N2:NT)(Q:QT)(h:let z0:=decide ((0:Int) < (ml3_2_b.length:Int));let z1:=bif z0 then (((Tree.kind (List.getD ml3_2_b (Int.toNat (((ml3_2_b.length:Int):Int) - 1)) Tree.nil)):Int)==0) else false;(Tr (z0=true))/\(Tr (z0=true))/\(Tr (z0=true))/\(Tr (z0=true))/\(z0=true->InR (((ml3_2_b.length:Int):Int) - 1))/\(Tr (z0=true))/\(Tr (z0=true))/\(z0=true->(0:Int)<=(((ml3_2_b.length:Int):Int) - 1)/\(((ml3_2_b.length:Int):Int) - 1) < (ml3_2_b.length:Int))/\(Tr (z0=true))/\(Tr (z0=true))/\(Tr (z0=true))/\(Tr (z0=true))/\((z1=true->(InR (((ml3_2_b.length:Int):Int) - 1))/\((0:Int)<=(((ml3_2_b.length:Int):Int) - 1)/\(((ml3_2_b.length:Int):Int) - 1)<=(ml3_2_b.length:Int))/\(N2 (Z6j t ml3_1_a (List.take (Int.toNat (((ml3_2_b.length:Int):Int) - 1)) ml3_2_b))))/\(z1=false->(Q .ret (L2 [pL 2] [(.loc 2,[ci t.kind,sU .u64 ml3_1_a .unk,sU .tree ml3_2_b .unk])]))))):
  A71 N [1,1,1,1,0,1,0,1,0,0] (Z6j t ml3_1_a ml3_2_b) (xT N2 (xB 4 (S71 N [1,1,1,1,1] Q))):=
 Eq.mpr (by kernel_rfl) h
def ZsD(N:Nat)(t:Tree):Prop:=AW (Z1 (Zfx N)) Try.f71 Zox [] (Zg (ZmX.can (t,())) []) (EQ Try.f71 (ZaT (t,())) [])
theorem ZqR(Zs5:CT 109 Z5B)(hb:∀ (N:Nat) (t:Tree) (_:Unit),Z9w (t,())->ZiN (t,()) < N+1->ZsD N t):CT 71 Z94:=
 Yb (μ:=ZiN) (l:=[(109,Z5B)]) Zj rfl (⟨Zs5,trivial⟩) Zox Try.func71 rfl rfl 1 (fun _=> rfl) (by decide) (fun N ⟨t,_⟩=> hb N t ())
def ZfG(N:Nat):List (FuncId × Fs U):=(29,fs Zg6 (fun a=> [Z7K a,ZiO a < N]) ZaU) ::[(75,Z8X)]
def ZoG:Zc U:=lvl [([2,3],[2,3]),([2,3,27],[2,3]),([4],[]),([2,3,5],[2,3]),([2,3,5,32],[2,3]),([2,3,5],[2,3]),([2,3,5,46],[2,3]),([4],[]),([4],[])]
def Z6w(a b:Tree)(x5:Int):LSt U:=(L2 [pL 2,pL 3,pI 5 x5] [(.loc 2,(enc .tree a)),(.loc 3,(enc .tree b))])
abbrev A29(N:Nat)(p:List Nat):=AW (Z1 (ZfG N)) Try.f29 ZoG p
abbrev S29(N:Nat)(p:List Nat):=SW (Z1 (ZfG N)) Try.f29 ZoG p
theorem Zvi(N:Nat)(a b:Tree)(Q:QT)(h:let z1:=a.kind !=b.kind;let z0:=bif z1 then true else (!(decide (a.words=b.words)));let z2:=bif z0 then true else (((a.kids.length:Int):Int) !=(b.kids.length:Int));((Tr ((!z1)=true))/\(Tr ((!z1)=true))/\(Tr ((!z1)=true))/\(Tr ((!z1)=true))/\((!z1)=true->ZaZ (a.words,b.words,()))/\(Tr ((!z1)=true))/\(z1=false->(!z1)=true)/\(Tr ((!z0)=true))/\(Tr ((!z0)=true))/\(Tr ((!z0)=true))/\(Tr ((!z0)=true))/\(Tr ((!z0)=true))/\(Tr ((!z0)=true))/\(z0=false->(!z0)=true)/\((z2=true->(Q .ret (L2 [pB 4 false] [])))/\(z2=false->(Zh (A29 N [1,1,0,1,0,0]) (Z6w a b 0) (xB 0 (S29 N [1,1,1] Q))))))):
  A29 N [] (L2 [(0,.agg (enc .tree a)),(1,.agg (enc .tree b))] []) Q:=
 Eq.mpr (by kernel_rfl) h
theorem ZnG(N:Nat)(a b:Tree)(x5:Int)(N0:NT)(Q:QT)(h:∀ y_1,y_1=(a.kids.getD x5.toNat Tree.nil)->∀ y_2,y_2=(b.kids.getD x5.toNat Tree.nil)->∀ y_3,y_3=y_1->∀ y_4,y_4=y_2->let z0:=decide (x5 < (a.kids.length:Int));((z0=true->((0:Int)<=x5/\x5 < (a.kids.length:Int))/\((0:Int)<=x5/\x5 < (b.kids.length:Int))/\(Z7K (y_3,y_4,()))/\(ZiO (y_3,y_4,()) < N)/\(((!(Yf y_3 y_4))=true->(Q .ret (L2 [pB 4 false] [])))/\((!(Yf y_3 y_4))=false->(InR (x5+1))/\(N0 (Z6w a b (x5+1))))))/\(z0=false->(Q .ret (L2 [pB 4 true] []))))):
  A29 N [1,1,0,1,0,0] (Z6w a b x5) (xT N0 (xB 0 (S29 N [1,1,1] Q))):=
 Eq.mpr (by kernel_rfl) (h _ rfl _ rfl _ (Z8 _) _ (Z8 _))
def Zt2(N:Nat)(a b:Tree):Prop:=AW (Z1 (ZfG N)) Try.f29 ZoG [] (Zg (Zg6.can (a,b,())) []) (EQ Try.f29 (ZaU (a,b,())) [])
theorem Zrd(c75:CT 75 Z8X)(hb:∀ (N:Nat) (a:Tree) (b:Tree) (_:Unit),Z7K (a,b,())->ZiO (a,b,()) < N+1->Zt2 N a b):CT 29 Z98:=
 Yb (μ:=ZiO) (l:=[(75,Z8X)]) Zj rfl (⟨c75,trivial⟩) ZoG Try.func29 rfl rfl 2 (fun _=> rfl) (by decide) (fun N ⟨a,b,_⟩=> hb N a b ())
def Zco(N:Nat):List (FuncId × Fs U):=(106,fs Zg6 (fun a=> [Z1e a,Zb7 a < N]) Z4Z) ::[(148,Z8X),(149,Z0A),(91,Z2n)]
def Zh4:Zc U:=lvl [([2,3],[2,3]),([2,3,16],[2,3]),([4],[]),([2,3,41],[2,3]),([4],[]),([2,3,48,49],[2,3]),([2,3,48,49,50],[2,3]),([2,3,5,48,49],[2,3]),([2,3,48,49,58],[2,3]),([4],[]),([2,3,48,49],[2,3]),([2,3,66,67],[2,3]),([2,3,66,67,68],[2,3]),([2,3,6,66,67],[2,3]),([2,3,66,67,77],[2,3]),([4],[]),([2,3,66,67],[2,3]),([4],[])]
def Z4l(a b:Tree)(x49:Int):LSt U:=(L2 [pL 2,pL 3,pI 48 (if ((a.words.length:Int):Int) < (b.words.length:Int) then (b.words.length:Int) else (a.words.length:Int)),pI 49 x49] [(.loc 2,(enc .tree a)),(.loc 3,(enc .tree b))])
def Z4k(a b:Tree)(x67_a:Int):LSt U:=(L2 [pL 2,pL 3,pI 66 (if ((a.kids.length:Int):Int) < (b.kids.length:Int) then (b.kids.length:Int) else (a.kids.length:Int)),pI 67 x67_a] [(.loc 2,(enc .tree a)),(.loc 3,(enc .tree b))])
abbrev Znb(N:Nat)(p:List Nat):=AW (Z1 (Zco N)) Try.f106 Zh4 p
abbrev Zp0(N:Nat)(p:List Nat):=SW (Z1 (Zco N)) Try.f106 Zh4 p
theorem ZtH(N:Nat)(a b:Tree)(Q:QT)(h:let z3:=a.kind !=b.kind;let z4:=bif z3 then true else (a.kind==0);let z0:=((a.kids.length:Int):Int) !=(b.kids.length:Int);let z2:=bif (a.kind !=1) then (bif z0 then true else (!(decide (a.words=b.words)))) else false;let z1:=(a.kind !=1) && (!z0);((Tr ((!z3)=true))/\(Tr ((!z3)=true))/\(z3=false->(!z3)=true)/\((z4=true->(Q .ret (L2 [pB 4 (a.kind==b.kind)] [])))/\(z4=false->(Tr ((a.kind !=1)=true))/\(Tr ((a.kind !=1)=true))/\(Tr ((a.kind !=1)=true))/\(Tr ((a.kind !=1)=true))/\(Tr ((a.kind !=1)=true))/\(Tr ((a.kind !=1)=true))/\(Tr ((a.kind !=1)=true))/\(Tr (z1=true))/\(Tr (z1=true))/\(Tr (z1=true))/\(Tr (z1=true))/\(z1=true->ZaZ (a.words,b.words,()))/\(Tr (z1=true))/\((a.kind !=1)=true->(True->(a.kind !=1)=true))/\((a.kind !=1)=true->(z0=false->z1=true))/\(Tr ((a.kind !=1)=true))/\((z2=true->(Q .ret (L2 [pB 4 false] [])))/\(z2=false->(Zh (Znb N [1,1,1,0,1,0,0]) (Z4l a b 0) (xB 0 (Zp0 N [1,1,1,1] Q))))))))):
  Znb N [] (L2 [(0,.agg (enc .tree a)),(1,.agg (enc .tree b))] []) Q:=
 Eq.mpr (by kernel_rfl) h
theorem Zk1(N:Nat)(a b:Tree)(x49:Int)(N0:NT)(Q:QT)(h:let z3:=Tree.mk b.kind b.words b.kids;let z2:=Tree.mk a.kind a.words a.kids;let z1:=((YS z2 x49):Int) !=(YS z3 x49);let z0:=decide (x49 < (if ((a.words.length:Int):Int) < (b.words.length:Int) then (b.words.length:Int) else (a.words.length:Int)));((z0=true->((Z72 (z2,x49,()))/\(Z72 (z3,x49,()))/\((z1=true->(Q .ret (L2 [pB 4 false] [])))/\(z1=false->(InR (x49+1))/\(N0 (Z4l a b (x49+1)))))))/\(z0=false->(Zh (Znb N [1,1,1,1,0,1,0,0]) (Z4k a b 0) (xB 2 (Zp0 N [1,1,1,1,1] Q)))))):
  Znb N [1,1,1,0,1,0,0] (Z4l a b x49) (xT N0 (xB 0 (Zp0 N [1,1,1,1] Q))):=
 Eq.mpr (by kernel_rfl) h
theorem Zk0(N:Nat)(a b:Tree)(x67_a:Int)(N1:NT)(Q:QT)(h:∀ y_1,y_1=a->∀ y_2,y_2=b->∀ y_3,y_3=(J5 y_1 x67_a)->∀ y_4,y_4=(J5 y_2 x67_a)->let z1:= !(Yf (Z3 y_3) (Z3 y_4));let z0:=decide (x67_a < (if ((a.kids.length:Int):Int) < (b.kids.length:Int) then (b.kids.length:Int) else (a.kids.length:Int)));((z0=true->((Z72 (y_1,x67_a,()))/\(Z72 (y_2,x67_a,()))/\(Z1e (y_3,y_4,()))/\(Zb7 (y_3,y_4,()) < N)/\((z1=true->(Q .ret (L2 [pB 4 false] [])))/\(z1=false->(InR (x67_a+1))/\(N1 (Z4k a b (x67_a+1)))))))/\(z0=false->(Q .ret (L2 [pB 4 true] []))))):
  Znb N [1,1,1,1,0,1,0,0] (Z4k a b x67_a) (xT N1 (xB 2 (Zp0 N [1,1,1,1,1] Q))):=
 Eq.mpr (by kernel_rfl) (h _ (Z8 _) _ (Z8 _) _ (Z8 _) _ (Z8 _))
def Zpx(N:Nat)(a b:Tree):Prop:=AW (Z1 (Zco N)) Try.f106 Zh4 [] (Zg (Zg6.can (a,b,())) []) (EQ Try.f106 (Z4Z (a,b,())) [])
theorem Zoo(ZrY:CT 148 Z8X)(Zji:CT 149 Z0A)(c91:CT 91 Z2n)(hb:∀ (N:Nat) (a:Tree) (b:Tree) (_:Unit),Z1e (a,b,())->Zb7 (a,b,()) < N+1->Zpx N a b):CT 106 Z0C:=
 Yb (μ:=Zb7) (l:=[(148,Z8X),(149,Z0A),(91,Z2n)]) Zj rfl (⟨ZrY,Zji,c91,trivial⟩) Zh4 Try.func106 rfl rfl 2 (fun _=> rfl) (by decide) (fun N ⟨a,b,_⟩=> hb N a b ())
end
theorem vcU:(∀ {p q:Prop},(p->q->p/\q)=True)/\(∀ {p:Prop},(True/\p)=p)/\(∀ {p:Prop},(p/\True)=p)/\(∀ {p:Prop},(p->True)=True):=
 ⟨by intros;simp+contextual,by simp,by simp,by simp⟩
theorem Z9d:∀ {ks:List Tree} {i:Nat},Z11 ks->i < ks.length->Z12 (ks.getD i Tree.nil)
 | t ::_,0,h,_=> by simp only [Z11] at h;exact h.1
 | _ ::r,i+1,h,hi=> by simp only [Z11] at h;exact Z9d (ks:=r) (i:=i) h.2 (by simpa using hi)
theorem Jc:∀ {ks:List Tree} {i:Nat},i < ks.length->Zm (ks.getD i Tree.nil)<=Ze ks
 | t ::_,0,_=> by simp only [Ze,Xr];omega
 | t ::r,i+1,h=> by
  have:=Jc (ks:=r) (i:=i) (by simpa using h)
  simp only [Ze,XK]
  omega
mutual
theorem Yc:∀ (t:Tree) (d l:Int),-1<=Zr t d l/\Zr t d l<=max l (-1)
 | .mk _ w ks,d,l=> by
  simp only [Zr]
  split
  ·omega
  ·have:=JJ ks (d - 1) (l - 1 - w.length) (by omega)
   omega
theorem JJ:∀ (ks:List Tree) (d l:Int),-1<=l->-1<=Zo ks d l/\Zo ks d l<=l
 | [],d,l,h=> by simp only [Zo];omega
 | t ::r,d,l,h=> by
  simp only [Zo]
  split
  ·omega
  ·have h1:=Yc t d l
   have h2:=JJ r d (Zr t d l) h1.1
   omega
end
theorem Zaq{ks:List Tree}{i:Nat}{d l:Int}(h:i < ks.length)(hl:0<=l):Zo (ks.drop i) d l=Zo (ks.drop (i+1)) d (Zr (ks.getD i Tree.nil) d l):=by
 rw [QJ h]
 simp only [Zo]
 rw [if_neg (by omega)]
 simp [List.getD,h]
theorem c78:Contract Try.prog cfg 78 Z32:=by
 refine ZqP ?_
 rintro N ⟨k,ws,ks⟩ d l _ ⟨hs,h1,h2,h3,h4⟩ hN
 simp only [Z12,ZiK,Zm] at*
 refine ZuR N _ _ _ _ ?_;(try simp only [vcT,forall_eq])
 (simp only [vcS]);(try simp only [vcT])
 try (simp only [Tree.eta,Edit.eta,Tree.kind_mk,Tree.words_mk,Tree.kids_mk])
 refine ⟨by unfold InR;omega,by unfold InR;omega,fun hc=> ?_,fun hc=> ?_⟩
 ·have e:Zr (.mk k ws ks) d l= -1:=by
   simp only [Zr]
   rw [if_pos (by omega)]
  simp only [Zdi,e]
  exact ⟨⟨rfl,⟨⟨rfl,rfl⟩,trivial⟩,trivial⟩,trivial⟩
 ·have e:Zr (.mk k ws ks) d l=Zo ks (d - 1) (l - 1 - ws.length):=by
   simp only [Zr]
   rw [if_neg (by omega)]
  simp only [Zdi,e]
  refine Za (ι:=Int × Int) (fun p=> Z6h (.mk k ws ks) d l p.1 p.2) (fun p=> 0<=p.2/\p.2<=ks.length/\-1<=p.1/\p.1<=l/\Zo (ks.drop p.2.toNat) (d - 1) p.1=Zo ks (d - 1) (l - 1 - ws.length)) (fun p=> ((ks.length:Int) - p.2).toNat) (l - 1 - ws.length,0) rfl ⟨by omega,by omega,by omega,by omega,by simp⟩ ?_
  rintro ⟨l',i⟩ ⟨h5,h6,h7,h8,h9⟩
  dsimp only at*
  refine Znn N _ _ _ _ _ _ _ ?_;(try simp only [vcT,forall_eq])
  (simp only [vcS]);(try simp only [vcT])
  try (simp only [Tree.eta,Edit.eta,Tree.kind_mk,Tree.words_mk,Tree.kids_mk])
  refine ⟨fun hc=> ?_,fun hc=> ?_⟩
  ·have hi:i.toNat < ks.length:=by omega
   have hr:=Yc (ks.getD i.toNat Tree.nil) (d - 1) l'
   have hn:=Jc hi
   have hd:=Zaq (d:=d - 1) hi hc.2
   refine ⟨by omega,by unfold InR;omega,⟨Z9d hs.2.2 hi,by dsimp only;omega,by dsimp only;omega,by dsimp only;omega,by dsimp only;omega⟩,by simp only [ZiK];omega,by unfold InR;omega,⟨(Zr (ks.getD i.toNat Tree.nil) (d - 1) l',i+1),rfl,⟨by dsimp only;omega,by dsimp only;omega,by dsimp only;omega,by dsimp only;omega,?_⟩,by dsimp only;omega⟩⟩
   dsimp only
   rw [<-h9,hd]
   congr 2
   omega
  ·have e:Zo ks (d - 1) (l - 1 - ws.length)=l':=by
    rw [<-h9]
    by_cases hi:i < ks.length
    ·rw [QJ (by omega)]
     simp only [Zo]
     rw [if_pos (by omega)]
    ·rw [Qr (by omega)]
     simp only [Zo]
   rw [e]
   exact ⟨⟨rfl,⟨⟨rfl,rfl⟩,trivial⟩,trivial⟩,trivial⟩
theorem c36:Contract Try.prog cfg 36 Z39:=by
 refine Zrc c78 ?_
 intro t _ hp
 refine Zvh _ _ ?_;(try simp only [vcT,forall_eq])
 try (simp only [Tree.eta,Edit.eta,Tree.kind_mk,Tree.words_mk,Tree.kids_mk])
 refine ⟨⟨hp,by dsimp only;omega,by dsimp only;omega,by dsimp only;omega,by dsimp only;omega⟩,?_⟩
 exact ⟨⟨rfl,⟨rfl,trivial⟩,trivial⟩,trivial⟩
theorem Zs5:Contract Try.prog cfg 109 Z5B:=by
 refine Zon ?_
 intro l _ hp
 refine ZtE _ _ ?_;(try simp only [vcT,forall_eq])
 simp only [Zdp] at hp
 refine ⟨fun h=> ?_,⟨by simp only [Qx];omega,?_⟩⟩
 ·subst h
  exact ⟨⟨rfl,⟨rfl,trivial⟩,trivial⟩,trivial⟩
 ·exact ⟨⟨rfl,⟨⟨rfl,trivial⟩,trivial⟩,trivial⟩,trivial⟩
theorem Z8B{a b:List Int}{i:Int}(hi:0<=i)(ha:i < a.length)(hb:i < b.length):(a.drop i.toNat=b.drop i.toNat)↔(a.getD i.toNat 0=b.getD i.toNat 0/\a.drop (i+1).toNat=b.drop (i+1).toNat):=by
 have e:(i+1).toNat=i.toNat+1:=by omega
 rw [QJ (by omega),QJ (l:=b) (by omega),e]
 simp only [List.cons.injEq,List.getD,Q0 (show i.toNat < a.length by omega),Q0 (show i.toNat < b.length by omega),QX]
theorem c75:Contract Try.prog cfg 75 Z8X:=by
 refine ZqQ ?_
 intro a b _ hp
 simp only [ZaZ] at hp
 refine ZuS _ _ _ ?_;(try simp only [vcT,forall_eq])
 (simp only [vcS]);(try simp only [vcT])
 refine ⟨fun hc=> ?_,fun hc=> ?_⟩
 ·have e:decide (a=b)=false:=by
   simp only [decide_eq_false_iff_not]
   rintro rfl
   omega
  simp only [Zdj,e]
  exact ⟨⟨rfl,⟨rfl,trivial⟩,trivial⟩,trivial⟩
 ·have hl:a.length=b.length:=by omega
  refine Za (ι:=Int) (fun p=> Z6i a b p) (fun p=> 0<=p/\p<=a.length/\(a=b↔a.drop p.toNat=b.drop p.toNat)) (fun p=> ((a.length:Int) - p).toNat) 0 rfl ⟨by omega,by omega,by simp⟩ ?_
  rintro i ⟨h1,h2,h3⟩
  refine Zno _ _ _ _ _ ?_;(try simp only [vcT,forall_eq])
  (simp only [vcS]);(try simp only [vcT])
  refine ⟨fun hc=> ⟨by omega,by omega,fun hn=> ?_,fun he=> ⟨by unfold InR;omega,i+1,rfl,⟨by omega,by omega,?_⟩,by omega⟩⟩,fun hc=> ?_⟩
  ·have e:decide (a=b)=false:=by
    simp only [decide_eq_false_iff_not,h3]
    rw [Z8B h1 hc (by omega)]
    exact fun h=> hn h.1
   simp only [Zdj,e]
   exact ⟨⟨rfl,⟨rfl,trivial⟩,trivial⟩,trivial⟩
  ·rw [h3,Z8B h1 hc (by omega)]
   exact ⟨fun h=> h.2,fun h=> ⟨by simpa using he,h⟩⟩
  ·have e:decide (a=b)=true:=by
    simp only [decide_eq_true_eq,h3]
    rw [Qr (by omega),Qr (by omega)]
   simp only [Zdj,e]
   exact ⟨⟨rfl,⟨rfl,trivial⟩,trivial⟩,trivial⟩
theorem Zji:Contract Try.prog cfg 149 Z0A:=by
 refine Zoc ?_
 intro t i _ hp
 refine Ztq _ _ _ ?_;(try simp only [vcT,forall_eq])
 (simp only [vcS]);(try simp only [vcT])
 (repeat (refine And.intro (by first | omega | (unfold InR;omega) | (dsimp only;omega)) ?_))
 refine ⟨fun hc=> ?_,fun hc=> ⟨by omega,?_⟩⟩
 ·have e:YS t i=0:=by
   unfold YS
   split
   ·try rfl
   ·rw [List.getD,Ql (by omega)]
    try rfl
  simp only [ZbZ,e]
  exact ⟨⟨rfl,⟨⟨rfl,rfl⟩,trivial⟩,trivial⟩,trivial⟩
 ·have e:YS t i=t.words.getD i.toNat 0:=by
   unfold YS
   rw [if_neg (by omega)]
  simp only [ZbZ,e]
  exact ⟨⟨rfl,⟨⟨rfl,rfl⟩,trivial⟩,trivial⟩,trivial⟩
theorem c91:Contract Try.prog cfg 91 Z2n:=by
 refine ZqH ?_
 intro t i _ hp
 refine ZuI _ _ _ ?_;(try simp only [vcT,forall_eq])
 (simp only [vcS]);(try simp only [vcT])
 (repeat (refine And.intro (by first | omega | (unfold InR;omega) | (dsimp only;omega)) ?_))
 refine ⟨fun hc=> ?_,fun hc=> ⟨by omega,?_⟩⟩
 ·have e:J5 t i=Tree.nil:=by
   unfold J5
   split
   ·try rfl
   ·rw [List.getD,Ql (by omega)]
    try rfl
  simp only [ZgD,e]
  exact ⟨⟨rfl,⟨⟨rfl,rfl⟩,⟨rfl,⟨rfl,trivial⟩⟩⟩,trivial⟩,trivial⟩
 ·have e:J5 t i=t.kids.getD i.toNat Tree.nil:=by
   unfold J5
   rw [if_neg (by omega)]
  simp only [ZgD,e]
  exact ⟨⟨rfl,⟨⟨rfl,rfl⟩,⟨rfl,trivial⟩,⟨rfl,trivial⟩,trivial⟩,trivial⟩,trivial⟩
theorem ZrY:Contract Try.prog cfg 148 Z8X:=by
 refine Zod ?_
 intro a b _ hp
 simp only [ZaZ] at hp
 refine Ztr _ _ _ ?_;(try simp only [vcT,forall_eq])
 (simp only [vcS]);(try simp only [vcT])
 refine ⟨fun hc=> ?_,fun hc=> ?_⟩
 ·have e:decide (a=b)=false:=by
   simp only [decide_eq_false_iff_not]
   rintro rfl
   omega
  simp only [Zdj,e]
  exact ⟨⟨rfl,⟨rfl,trivial⟩,trivial⟩,trivial⟩
 ·have hl:a.length=b.length:=by omega
  refine Za (ι:=Int) (fun p=> Z4d a b p) (fun p=> 0<=p/\p<=a.length/\(a=b↔a.drop p.toNat=b.drop p.toNat)) (fun p=> ((a.length:Int) - p).toNat) 0 rfl ⟨by omega,by omega,by simp⟩ ?_
  rintro i ⟨h1,h2,h3⟩
  refine ZjL _ _ _ _ _ ?_;(try simp only [vcT,forall_eq])
  (simp only [vcS]);(try simp only [vcT])
  refine ⟨fun hc=> ⟨by omega,by omega,fun hn=> ?_,fun he=> ⟨by unfold InR;omega,i+1,rfl,⟨by omega,by omega,?_⟩,by omega⟩⟩,fun hc=> ?_⟩
  ·have e:decide (a=b)=false:=by
    simp only [decide_eq_false_iff_not,h3]
    rw [Z8B h1 hc (by omega)]
    exact fun h=> hn h.1
   simp only [Zdj,e]
   exact ⟨⟨rfl,⟨rfl,trivial⟩,trivial⟩,trivial⟩
  ·rw [h3,Z8B h1 hc (by omega)]
   exact ⟨fun h=> h.2,fun h=> ⟨by simpa using he,h⟩⟩
  ·have e:decide (a=b)=true:=by
    simp only [decide_eq_true_eq,h3]
    rw [Qr (by omega),Qr (by omega)]
   simp only [Zdj,e]
   exact ⟨⟨rfl,⟨rfl,trivial⟩,trivial⟩,trivial⟩
theorem Zec{a b:List Tree}{i:Int}(hi:0<=i)(ha:i < a.length)(hb:i < b.length):(a.drop i.toNat=b.drop i.toNat)↔(a.getD i.toNat Tree.nil=b.getD i.toNat Tree.nil/\a.drop (i+1).toNat=b.drop (i+1).toNat):=by
 have e:(i+1).toNat=i.toNat+1:=by omega
 rw [QJ (by omega),QJ (l:=b) (by omega),e]
 simp only [List.cons.injEq,List.getD,Q0 (show i.toNat < a.length by omega),Q0 (show i.toNat < b.length by omega),QX]
theorem Jt{a b:Tree}:Yf a b=true↔a=b:=by simp [Yf]
theorem YV{a b:Tree}:Yf a b=false↔¬a=b:=by simp [Yf]
theorem Zw:∀ (ks:List Tree),ks.length<=Ze ks
 | []=> by simp [Ze]
 | t ::r=> by
  have:=Zw r
  have:1<=Zm t:=by cases t;simp only [Zm];omega
  simp only [Ze,Qw]
  omega
theorem c29:Contract Try.prog cfg 29 Z98:=by
 refine Zrd c75 ?_
 rintro N ⟨k,ws,ks⟩ ⟨k',ws',ks'⟩ _ hp hN
 have hlen:=Zw ks
 simp only [Z7K,ZiO,Zm] at hp hN
 refine Zvi N _ _ _ ?_;(try simp only [vcT,forall_eq])
 (simp only [vcS]);(try simp only [vcT])
 try (simp only [Tree.eta,Edit.eta,Tree.kind_mk,Tree.words_mk,Tree.kids_mk])
 have p69:ZaZ (ws,ws',()):=by simp only [ZaZ];omega
 refine ⟨fun _=> p69,fun hc=> ?_,fun hc=> ?_⟩
 ·have e:Yf (.mk k ws ks) (.mk k' ws' ks')=false:=by
   rw [YV]
   intro h
   cases h
   simp at hc
  simp only [ZaU,e]
  exact ⟨⟨rfl,⟨rfl,trivial⟩,trivial⟩,trivial⟩
 ·have hc':(k=k'/\ws=ws')/\ks.length=ks'.length:=⟨hc.1,by have:=hc.2;omega⟩
  obtain ⟨⟨rfl,rfl⟩,hl⟩:=hc'
  refine Za (ι:=Int) (fun p=> Z6w (.mk k ws ks) (.mk k ws ks') p) (fun p=> 0<=p/\p<=ks.length/\(Tree.mk k ws ks= .mk k ws ks'↔ks.drop p.toNat=ks'.drop p.toNat)) (fun p=> ((ks.length:Int) - p).toNat) 0 rfl ⟨by omega,by omega,by simp⟩ ?_
  rintro i ⟨h1,h2,h3⟩
  refine ZnG N _ _ _ _ _ ?_;(try simp only [vcT,forall_eq])
  (simp only [vcS]);(try simp only [vcT])
  try (simp only [Tree.eta,Edit.eta,Tree.kind_mk,Tree.words_mk,Tree.kids_mk])
  refine ⟨fun hc=> ⟨by omega,by omega,?_,?_,fun hn=> ?_,fun he=> ⟨by unfold InR;omega,i+1,rfl,⟨by omega,by omega,?_⟩,by omega⟩⟩,fun hc=> ?_⟩
  ·have:=Jc (ks:=ks) (i:=i.toNat) (by omega)
   simp only [Z7K]
   omega
  ·have:=Jc (ks:=ks) (i:=i.toNat) (by omega)
   simp only [ZiO]
   omega
  ·have e:Yf (.mk k ws ks) (.mk k ws ks')=false:=by
    rw [YV,h3,Zec h1 hc (by omega)]
    rw [YV] at hn
    exact fun h=> hn h.1
   simp only [ZaU,e]
   exact ⟨⟨rfl,⟨rfl,trivial⟩,trivial⟩,trivial⟩
  ·rw [h3,Zec h1 hc (by omega)]
   exact ⟨fun h=> h.2,fun h=> ⟨Jt.1 he,h⟩⟩
  ·have e:Yf (.mk k ws ks) (.mk k ws ks')=true:=by
    rw [Jt,h3]
    rw [Qr (by omega),Qr (by omega)]
   simp only [ZaU,e]
   exact ⟨⟨rfl,⟨rfl,trivial⟩,trivial⟩,trivial⟩
theorem Z6M:∀ (l:List Int),trim (l++[0])=trim l
 | []=> rfl
 | x ::r=> by
  show (match trim (r++[0]) with | []=> if x=0 then [] else [x] | y ::s=> x ::y ::s)=_
  rw [Z6M r]
  try rfl
theorem ZbF{x:Int}(hx:x≠0):∀ (l:List Int),trim (l++[x])=l++[x]
 | []=> by simp [trim,hx]
 | y ::r=> by
  show (match trim (r++[x]) with | []=> if y=0 then [] else [y] | z ::s=> y ::z ::s)=_
  rw [ZbF hx r]
  cases r <;> rfl
theorem Z6P{l:List Int}{i:Int}(h0:0 < i)(hi:i<=l.length):l.take i.toNat=l.take (i - 1).toNat++[l.getD (i - 1).toNat 0]:=by
 have e:i.toNat=(i - 1).toNat+1:=by omega
 rw [e,Xj]
 simp only [List.getD,Q0 (show (i - 1).toNat < l.length by omega),Option.toList,QX]
theorem c84:Contract Try.prog cfg 84 Z8U:=by
 refine ZqJ ?_
 intro l _ hp
 simp only [Zdp] at hp
 refine ZuL _ _ ?_;(try simp only [vcT,forall_eq])
 refine Za (ι:=Int) (fun p=> Z6f l p) (fun p=> 0<=p/\p<=l.length/\trim (l.take p.toNat)=trim l) (fun p=> p.toNat) (l.length:Int) rfl ⟨by omega,by omega,by simp⟩ ?_
 rintro i ⟨h1,h2,h3⟩
 refine Znl _ _ _ _ ?_;(try simp only [vcT,forall_eq])
 (simp only [vcS]);(try simp only [vcT])
 refine ⟨fun h=> by unfold InR;omega,fun h=> by omega,fun hc=> ⟨by unfold InR;omega,i - 1,rfl,⟨by omega,by omega,?_⟩,by omega⟩,fun hc=> ⟨by omega,?_,?_⟩⟩
 ·rw [Z6P hc.1 h2,hc.2,Z6M] at h3
  exact h3
 ·simp only [Qx,Qg]
  omega
 ·have e:trim l=[]++l.take i.toNat:=by
   rw [<-h3]
   by_cases h0:0 < i
   ·rw [Z6P h0 h2,ZbF (by rcases hc with h | h;exact absurd h0 h;exact h)]
    try rfl
   ·have:i.toNat=0:=by omega
    rw [this]
    try rfl
  simp only [Zko,e]
  exact ⟨⟨rfl,⟨⟨rfl,trivial⟩,trivial⟩,trivial⟩,trivial⟩
theorem Zd2:∀ (l:List Int),(trim l).length<=l.length
 | []=> by simp [trim]
 | x ::r=> by
  have:=Zd2 r
  simp only [trim]
  split
  ·split <;> simp
  ·rename_i h
   rw [h] at this
   simp at*
   omega
theorem Z8O:∀ (l:List Tree),Ze (ZO l)<=Ze l
 | []=> by simp [ZO]
 | x ::r=> by
  have:=Z8O r
  simp only [ZO]
  split
  ·split
   ·simp [Ze]
   ·simp [Ze]
  ·rename_i h
   rw [h] at this
   simp only [Ze] at*
   omega
mutual
theorem J0:∀ (t:Tree),Zm (Z3 t)<=Zm t
 | .mk k w ks=> by
  have h1:=Z9P ks
  have h2:=Zd2 w
  have h3:=Z8O (ZN ks)
  simp only [Z3]
  split
  ·simp only [Tree.nil,Zm,Ze,Qx];omega
  ·split
   ·simp only [Zm];omega
   ·simp only [Zm];omega
theorem Z9P:∀ (ks:List Tree),Ze (ZN ks)<=Ze ks
 | []=> by simp [ZN]
 | t ::r=> by
  have h1:=J0 t
  have h2:=Z9P r
  simp only [ZN,Ze]
  omega
end
theorem Z7a:∀ (l:List Tree) (x:Tree),ZN (l++[x])=ZN l++[Z3 x]
 | [],x=> rfl
 | y ::r,x=> by simp only [Qt,ZN,Z7a r x]
theorem Z03:∀ (l:List Tree),(ZN l).length=l.length
 | []=> rfl
 | y ::r=> by simp only [ZN,Qw,Z03 r]
theorem Z4O{x:Tree}(hx:x.kind=0):∀ (l:List Tree),ZO (l++[x])=ZO l
 | []=> by simp [ZO,hx]
 | y ::r=> by
  show (match ZO (r++[x]) with | []=> if y.kind=0 then [] else [y] | z ::s=> y ::z ::s)=_
  rw [Z4O hx r]
  try rfl
theorem Z8N{x:Tree}(hx:x.kind≠0):∀ (l:List Tree),ZO (l++[x])=l++[x]
 | []=> by simp [ZO,hx]
 | y ::r=> by
  show (match ZO (r++[x]) with | []=> if y.kind=0 then [] else [y] | z ::s=> y ::z ::s)=_
  rw [Z8N hx r]
  cases r <;> rfl
theorem Z4P{l:List Tree}{i:Int}(h0:0<=i)(hi:i < l.length):l.take (i+1).toNat=l.take i.toNat++[l.getD i.toNat Tree.nil]:=by
 have e:(i+1).toNat=i.toNat+1:=by omega
 rw [e,Xj]
 simp only [List.getD,Q0 (show i.toNat < l.length by omega),Option.toList,QX]
theorem c45:Contract Try.prog cfg 45 Z94:=by
 refine Zr3 c84 ?_
 rintro N ⟨k,ws,ks⟩ _ hp hN
 have hlen:=Zw ks
 simp only [Z9w,ZiN,Zm] at hp hN
 refine Zv8 N _ _ ?_;(try simp only [vcT,forall_eq])
 (simp only [vcS]);(try simp only [vcT])
 try (simp only [Tree.eta,Edit.eta,Tree.kind_mk,Tree.words_mk,Tree.kids_mk])
 refine ⟨fun hc=> ?_,fun hc0=> ?_⟩
 ·have e:Z3 (.mk k ws ks)=Tree.nil:=by simp [Z3,hc]
  simp only [ZaT,e]
  exact ⟨⟨rfl,⟨⟨rfl,rfl⟩,⟨rfl,⟨rfl,trivial⟩⟩⟩,trivial⟩,trivial⟩
 ·refine Za (ι:=Int × Int × List Tree) (fun p=> Z3H (.mk k ws ks) p.1 p.2.1 p.2.2) (fun p=> 0<=p.2.1/\p.2.1<=ks.length/\0<=p.1/\p.1<=p.2.1/\p.2.2=ZN (ks.take p.2.1.toNat)/\ZO (ZN (ks.take p.2.1.toNat))=p.2.2.take p.1.toNat) (fun p=> ((ks.length:Int) - p.2.1).toNat) (0,0,[]) rfl ⟨by dsimp only;omega,by dsimp only;omega,by dsimp only;omega,by dsimp only;omega,rfl,rfl⟩ ?_
  rintro ⟨last,i,l⟩ ⟨h1,h2,h3,h4,h5,h6⟩
  dsimp only at*
  have hl:l.length=i.toNat:=by rw [h5,Z03,Qg];omega
  refine ZnE N _ _ _ _ _ _ ?_;(try simp only [vcT,forall_eq])
  (simp only [vcS]);(try simp only [vcT])
  try (simp only [Tree.eta,Edit.eta,Tree.kind_mk,Tree.words_mk,Tree.kids_mk])
  refine ⟨fun hc=> ?_,fun hc=> ⟨fun h1=> ⟨?_,by omega,?_⟩,fun hk=> ⟨?_,?_⟩⟩⟩
  ·have hm:=Jc (ks:=ks) (i:=i.toNat) (by omega)
   have hnx:ZN (ks.take (i+1).toNat)=l++[Z3 (ks.getD i.toNat Tree.nil)]:=by rw [Z4P h1 hc,Z7a,h5]
   refine ⟨by omega,by simp only [Z9w];omega,by simp only [ZiN];omega,by simp only [Qw,Qx];omega,fun hk=> ⟨by unfold InR;omega,by unfold InR;omega,(i+1,i+1,_),rfl,⟨by dsimp only;omega,by dsimp only;omega,by dsimp only;omega,by dsimp only;omega,hnx.symm,?_⟩,by dsimp only;omega⟩,fun hk=> ⟨by unfold InR;omega,(last,i+1,_),rfl,⟨by dsimp only;omega,by dsimp only;omega,by dsimp only;omega,by dsimp only;omega,hnx.symm,?_⟩,by dsimp only;omega⟩⟩
   ·dsimp only
    rw [hnx,Z8N hk,Qu (by simp;omega)]
   ·dsimp only
    rw [hnx,Z4O hk,List.take_append_of_le_length (by omega),<-h6,h5]
  ·simp only [Zdp];omega
  ·have hi:ks.take i.toNat=ks:=Qu (by omega)
   rw [hi] at h5 h6
   have e:Z3 (.mk k ws ks)= .mk 1 (trim ws) (l.take last.toNat):=by
    subst h1
    simp only [Z3,<-h6]
    try rfl
   simp only [ZaT,e]
   exact ⟨⟨rfl,⟨⟨rfl,rfl⟩,⟨rfl,trivial⟩,⟨rfl,trivial⟩,trivial⟩,trivial⟩,trivial⟩
  ·simp only [Qx];omega
  ·have hi:ks.take i.toNat=ks:=Qu (by omega)
   rw [hi] at h5
   have e:Z3 (.mk k ws ks)= .mk k ([]++ws) l:=by
    simp only [Z3,if_neg hc0,if_neg hk,h5]
    try rfl
   simp only [ZaT,e]
   exact ⟨⟨rfl,⟨⟨rfl,rfl⟩,⟨rfl,trivial⟩,⟨rfl,trivial⟩,trivial⟩,trivial⟩,trivial⟩
theorem Zh8{l:List Int}(h0:0 < (l.length:Int)):l=l.take ((l.length:Int) - 1).toNat++[l.getD ((l.length:Int) - 1).toNat 0]:=by
 have:=Z6P h0 (Xq _)
 rw [Qu (by omega)] at this
 exact this
theorem ZdY{l:List Tree}(h0:0 < (l.length:Int)):l=l.take ((l.length:Int) - 1).toNat++[l.getD ((l.length:Int) - 1).toNat Tree.nil]:=by
 have:=Z4P (l:=l) (i:=(l.length:Int) - 1) (by omega) (by omega)
 rw [Qu (by omega)] at this
 exact this
theorem Zij{l:List Int}(h0:0 < (l.length:Int))(hz:l.getD ((l.length:Int) - 1).toNat 0=0):trim (l.take ((l.length:Int) - 1).toNat)=trim l:=by
 have e:=Z6M (l.take ((l.length:Int) - 1).toNat)
 have h:=Zh8 h0
 rw [hz] at h
 rw [<-h] at e
 exact e.symm
theorem Zil{l:List Int}(h:¬0 < (l.length:Int)\/¬l.getD ((l.length:Int) - 1).toNat 0=0):trim l=l:=by
 by_cases h0:0 < (l.length:Int)
 ·have e:=ZbF (x:=l.getD ((l.length:Int) - 1).toNat 0) (by rcases h with h | h;exact absurd h0 h;exact h) (l.take ((l.length:Int) - 1).toNat)
  rw [<-Zh8 h0] at e
  exact e
 ·have:l=[]:=Q3 (by omega)
  subst this
  try rfl
theorem ZeA{l:List Tree}(h0:0 < (l.length:Int))(hz:(l.getD ((l.length:Int) - 1).toNat Tree.nil).kind=0):ZO (l.take ((l.length:Int) - 1).toNat)=ZO l:=by
 have e:=Z4O hz (l.take ((l.length:Int) - 1).toNat)
 rw [<-ZdY h0] at e
 exact e.symm
theorem ZeC{l:List Tree}(h:¬0 < (l.length:Int)\/¬(l.getD ((l.length:Int) - 1).toNat Tree.nil).kind=0):ZO l=l:=by
 by_cases h0:0 < (l.length:Int)
 ·have e:=Z8N (x:=l.getD ((l.length:Int) - 1).toNat Tree.nil) (by rcases h with h | h;exact absurd h0 h;exact h) (l.take ((l.length:Int) - 1).toNat)
  rw [<-ZdY h0] at e
  exact e
 ·have:l=[]:=Q3 (by omega)
  subst this
  try rfl
theorem c71:Contract Try.prog cfg 71 Z94:=by
 refine ZqR Zs5 ?_
 rintro N ⟨k,ws,ks⟩ _ hp hN
 have hlen:=Zw ks
 simp only [Z9w,ZiN,Zm] at hp hN
 refine ZuT N _ _ ?_;(try simp only [vcT,forall_eq])
 (simp only [vcS]);(try simp only [vcT])
 try (simp only [Tree.eta,Edit.eta,Tree.kind_mk,Tree.words_mk,Tree.kids_mk])
 refine ⟨fun hc=> ?_,fun hc0=> ⟨by simp only [Zdp];omega,?_⟩⟩
 ·have e:Z3 (.mk k ws ks)=Tree.nil:=by simp [Z3,hc]
  simp only [ZaT,e]
  exact ⟨⟨rfl,⟨⟨rfl,rfl⟩,⟨rfl,⟨rfl,trivial⟩⟩⟩,trivial⟩,trivial⟩
 ·refine Za (ι:=Int × List Tree) (fun p=> Z6l (.mk k ws ks) p.1 p.2) (fun p=> 0<=p.1/\p.1<=ks.length/\p.2=ZN (ks.take p.1.toNat)) (fun p=> ((ks.length:Int) - p.1).toNat) (0,[]) rfl ⟨by dsimp only;omega,by dsimp only;omega,rfl⟩ ?_
  rintro ⟨i,l⟩ ⟨h1,h2,h5⟩
  dsimp only at*
  have hl:l.length=i.toNat:=by rw [h5,Z03,Qg];omega
  refine Znr N _ _ _ _ _ ?_;(try simp only [vcT,forall_eq])
  (simp only [vcS]);(try simp only [vcT])
  try (simp only [Tree.eta,Edit.eta,Tree.kind_mk,Tree.words_mk,Tree.kids_mk])
  refine ⟨fun hc=> ?_,fun hc=> ⟨fun hk=> ?_,fun hk=> ?_⟩⟩
  ·have hm:=Jc (ks:=ks) (i:=i.toNat) (by omega)
   have hnx:ZN (ks.take (i+1).toNat)=l++[Z3 (ks.getD i.toNat Tree.nil)]:=by rw [Z4P h1 hc,Z7a,h5]
   exact ⟨by omega,by simp only [Z9w];omega,by simp only [ZiN];omega,by simp only [Qw,Qx];omega,by unfold InR;omega,(i+1,_),rfl,⟨by dsimp only;omega,by dsimp only;omega,hnx.symm⟩,by dsimp only;omega⟩
  ·have hi:ks.take i.toNat=ks:=Qu (by omega)
   rw [hi] at h5
   refine Za (ι:=List Int) (fun p=> Z6k (.mk k ws ks) l p) (fun p=> p.length<=ws.length/\trim p=trim ws) (fun p=> p.length) ws rfl ⟨by omega,rfl⟩ ?_
   rintro w ⟨h6,h7⟩
   refine Znq N _ _ _ _ _ ?_;(try simp only [vcT,forall_eq])
   (simp only [vcS]);(try simp only [vcT])
   refine ⟨fun h=> by unfold InR;omega,fun h=> by omega,fun hc=> ⟨by unfold InR;omega,by omega,_,rfl,⟨by rw [List.length_take];omega,?_⟩,by rw [List.length_take];omega⟩,fun hc=> ?_⟩
   ·rw [Zij hc.1 hc.2,h7]
   ·have hw:w=trim ws:=by rw [<-h7,Zil hc]
    refine Za (ι:=List Tree) (fun p=> Z6j (.mk k ws ks) w p) (fun p=> p.length<=l.length/\ZO p=ZO l) (fun p=> p.length) l rfl ⟨by omega,rfl⟩ ?_
    rintro q ⟨h8,h9⟩
    refine Znp N _ _ _ _ _ ?_;(try simp only [vcT,forall_eq])
    (simp only [vcS]);(try simp only [vcT])
    refine ⟨fun h=> by unfold InR;omega,fun h=> by omega,fun hc=> ⟨by unfold InR;omega,by omega,_,rfl,⟨by rw [List.length_take];omega,?_⟩,by rw [List.length_take];omega⟩,fun hc=> ?_⟩
    ·rw [ZeA hc.1 hc.2,h9]
    ·have hq:q=ZO (ZN ks):=by rw [<-h5,<-h9,ZeC hc]
     have e:Z3 (.mk k ws ks)= .mk k w q:=by
      subst hk
      simp only [Z3,hw,hq]
      try rfl
     simp only [ZaT,e]
     exact ⟨⟨rfl,⟨⟨rfl,rfl⟩,⟨rfl,trivial⟩,⟨rfl,trivial⟩,trivial⟩,trivial⟩,trivial⟩
  ·have hi:ks.take i.toNat=ks:=Qu (by omega)
   rw [hi] at h5
   have e:Z3 (.mk k ws ks)= .mk k ws l:=by simp only [Z3,if_neg hc0,if_neg hk,h5]
   simp only [ZaT,e]
   exact ⟨⟨rfl,⟨⟨rfl,rfl⟩,⟨rfl,trivial⟩,⟨rfl,trivial⟩,trivial⟩,trivial⟩,trivial⟩
noncomputable section
def ZhT:ArgL (Int × Unit):=(.cons (Yq .i64) .nil)
def Zf8(a:Int × Unit):Prop:=True
def ZkO(a:Int × Unit):V U:= .c (ci (wd a.1))
def Z5A:Fs U:=fs ZhT (fun a=> [Zf8 a]) ZkO
def ZmK:ArgL (Int × Int × Unit):=(.cons (Yq .i64) (.cons (Yq .u64) .nil))
def ZgN(a:Int × Int × Unit):Prop:=0<=a.2.1/\a.2.1 < 18446744073709551616
def ZpF(a:Int × Int × Unit):V U:= .c (.bool (Zcr a.1 a.2.1))
def Z8W:Fs U:=fs ZmK (fun a=> [ZgN a]) ZpF
def ZeW(a:Int × Unit):V U:= .tup [(false,[ci (if wd a.1 < 0 then 0 else wd a.1)]),(false,[.bool (decide (0<=wd a.1))])]
def Z5r:Fs U:=fs ZhT (fun a=> [Zf8 a]) ZeW
def ZpD(a:Int × Unit):V U:= .c (.bool (decide (2<=a.1/\a.1<=9)))
def Z1E:Fs U:=fs ZhT (fun a=> [Zf8 a]) ZpD
def ZkN(a:Int × Unit):V U:= .c (.bool (decide (2<=a.1/\a.1<=7)))
def Z1s:Fs U:=fs ZhT (fun a=> [Zf8 a]) ZkN
def ZhK:ArgL (Int × Tree × Unit):=(.cons (Yq .i64) (.cons (aEl .tree) .nil))
def Zc6(a:Int × Tree × Unit):Prop:=rng a.2.1
def ZkH(a:Int × Tree × Unit):V U:= .c (.bool (Z3E a.1 a.2.1))
def Z5w:Fs U:=fs ZhK (fun a=> [Zc6 a]) ZkH
def Z3q(a:Tree × Int × Unit):Prop:=Zm a.1<=20000000000/\rng a.1/\0<=a.2.1/\a.2.1<=1000
def Z7U(a:Tree × Int × Unit):Nat:=Zm a.1
def Zc0(a:Tree × Int × Unit):V U:= .c (.bool (Z9 a.1 a.2.1))
def Z5z:Fs U:=fs ZhN (fun a=> [Z3q a]) Zc0
def Z9u(a:Tree × Unit):Prop:=Zm a.1<=20000000000/\rng a.1
def ZpE(a:Tree × Unit):V U:= .c (.bool (Z9 a.1 64))
def JI:Fs U:=fs ZmX (fun a=> [Z9u a]) ZpE
def ZlM:Zc U:=lvl [([0],[]),([3],[]),([3,4],[]),([2],[]),([3,6],[]),([2],[]),([3,8],[]),([2],[]),([3,10],[]),([2],[]),([3,12],[]),([2],[]),([14],[]),([2],[]),([2],[])]
abbrev ZvB(p:List Nat):=AW (Z1 Zfw) Try.f116 ZlM p
theorem ZtD(c:Int)(Q:QT)(h:(((c==0)=true->(Q .ret (L2 [pI 2 0] [])))/\((c==0)=false->(((c==1)=true->(Q .ret (L2 [pI 2 1] [])))/\((c==1)=false->(((c==2)=true->(Q .ret (L2 [pI 2 8] [])))/\((c==2)=false->(((c==3)=true->(Q .ret (L2 [pI 2 16] [])))/\((c==3)=false->(((c==4)=true->(Q .ret (L2 [pI 2 32] [])))/\((c==4)=false->(((c==5)=true->(Q .ret (L2 [pI 2 64] [])))/\((c==5)=false->(Q .ret (L2 [pI 2 (-1)] []))))))))))))))):
  ZvB [] (L2 [pI 0 c] []) Q:=
 Eq.mpr (by kernel_rfl) h
def Zpt(c:Int):Prop:=AW (Z1 Zfw) Try.f116 ZlM [] (Zg (ZhT.can (c,())) []) (EQ Try.f116 (ZkO (c,())) [])
theorem Zom(hb:∀ (c:Int) (_:Unit),Zf8 (c,())->Zpt c):CT 116 Z5A:=
 Z7 (l:=[]) Zj rfl trivial ZlM Try.func116 rfl rfl 1 (fun _=> rfl) (by decide) (fun ⟨c,_⟩=> hb c ())
def Zfu:List (FuncId × Fs U):=[(116,Z5A)]
def Zou:Zc U:=lvl [([0,1],[]),([1,5],[]),([1,5,10],[]),([4],[]),([1,5,6],[]),([1,5,6,13],[]),([1,5,6],[]),([1,5,6],[]),([4],[])]
def Z6g(c n x1 x6:Int):LSt U:=(L2 [(1,.c (.int .u64 x1)),pI 5 (wd c),pI 6 x6] [])
abbrev A79(p:List Nat):=AW (Z1 Zfu) Try.f79 Zou p
abbrev S79(p:List Nat):=SW (Z1 Zfu) Try.f79 Zou p
theorem ZuQ(c n:Int)(Q:QT)(h:((Zf8 (c,()))/\(((decide (((wd c):Int) < 0))=true->(Q .ret (L2 [pB 4 false] [])))/\((decide (((wd c):Int) < 0))=false->(Zh (A79 [1,1,1,0,1,0,0]) (Z6g c n n 0) (xB 0 (S79 [1,1,1,1] Q))))))):
  A79 [] (L2 [pI 0 c,(1,.c (.int .u64 n))] []) Q:=
 Eq.mpr (by kernel_rfl) h
theorem Znm(c n x1 x6:Int)(N0:NT)(Q:QT)(h:(((decide (x6 < (wd c)))=true->((2:Int)≠0)/\((InR (x6+1))/\(N0 (Z6g c n (IntKind.wrap .u64 (Int.tdiv x1 2)) (x6+1)))))/\((decide (x6 < (wd c)))=false->(Q .ret (L2 [pB 4 (x1==0)] []))))):
  A79 [1,1,1,0,1,0,0] (Z6g c n x1 x6) (xT N0 (xB 0 (S79 [1,1,1,1] Q))):=
 Eq.mpr (by kernel_rfl) h
def ZsA(c n:Int):Prop:=AW (Z1 Zfu) Try.f79 Zou [] (Zg (ZmK.can (c,n,())) []) (EQ Try.f79 (ZpF (c,n,())) [])
theorem ZqO(Zs4:CT 116 Z5A)(hb:∀ (c:Int) (n:Int) (_:Unit),ZgN (c,n,())->ZsA c n):CT 79 Z8W:=
 Z7 (l:=[(116,Z5A)]) Zj rfl (⟨Zs4,trivial⟩) Zou Try.func79 rfl rfl 2 (fun _=> rfl) (by decide) (fun ⟨c,n,_⟩=> hb c n ())
def Zlv:Zc U:=lvl [([0],[]),([0,4],[4]),([0,4,11],[4]),([2,3],[]),([2,3],[])]
abbrev Zvv(p:List Nat):=AW (Z1 Zfw) Try.f194 Zlv p
theorem Ztd(c:Int)(Q:QT)(h:let z0:=bif (decide (c < 0)) then true else (decide ((6:Int)<=c));((Tr ((!(decide (c < 0)))=true))/\((decide (c < 0))=false->(!(decide (c < 0)))=true)/\((z0=true->(Q .ret (L2 [pI 2 0,pB 3 false] [])))/\(z0=false->((0:Int)<=c/\c < ((6:Nat):Int))/\(Q .ret (L2 [pI 2 (List.getD [0,1,8,16,32,64] c.toNat 0),pB 3 true] [])))))):
  Zvv [] (L2 [pI 0 c] []) Q:=
 Eq.mpr (by kernel_rfl) h
def Zp3(c:Int):Prop:=AW (Z1 Zfw) Try.f194 Zlv [] (Zg (ZhT.can (c,())) []) (EQ Try.f194 (ZeW (c,())) [])
theorem Zo1(hb:∀ (c:Int) (_:Unit),Zf8 (c,())->Zp3 c):CT 194 Z5r:=
 Z7 (l:=[]) Zj rfl trivial Zlv Try.func194 rfl rfl 1 (fun _=> rfl) (by decide) (fun ⟨c,_⟩=> hb c ())
def Zhf:List (FuncId × Fs U):=[(194,Z5r)]
def ZlA:Zc U:=lvl [([0,1],[]),([1,5,6],[]),([4],[])]
abbrev Zvw(p:List Nat):=AW (Z1 Zhf) Try.f183 ZlA p
theorem Zti(c n:Int)(Q:QT)(h:let z2:=((if wd c < 0 then 0 else wd c):Int)==64;let z1:=decide (0<=wd c);let z0:=z1 && (!z2);((Zf8 (c,()))/\((Tr (z1=true))/\(Tr (z1=true))/\(Tr (z0=true))/\(Tr (z0=true))/\(z0=true->(0:Int)<=(if wd c < 0 then 0 else wd c))/\(Tr (z0=true))/\(z1=true->(True->z1=true))/\(z1=true->(z2=false->z0=true))/\(Tr (z1=true))/\(Q .ret (L2 [(4,.c (.bool (bif z1 then (bif z2 then true else (((Int.fdiv n (2 ^ (min (Int.toNat (if wd c < 0 then 0 else wd c)) (IntKind.bits .u64)))):Int)==0)) else false)))] []))))):
  Zvw [] (L2 [pI 0 c,(1,.c (.int .u64 n))] []) Q:=
 Eq.mpr (by kernel_rfl) h
def Zp8(c n:Int):Prop:=AW (Z1 Zhf) Try.f183 ZlA [] (Zg (ZmK.can (c,n,())) []) (EQ Try.f183 (ZpF (c,n,())) [])
theorem Zo6(ZrN:CT 194 Z5r)(hb:∀ (c:Int) (n:Int) (_:Unit),ZgN (c,n,())->Zp8 c n):CT 183 Z8W:=
 Z7 (l:=[(194,Z5r)]) Zj rfl (⟨ZrN,trivial⟩) ZlA Try.func183 rfl rfl 2 (fun _=> rfl) (by decide) (fun ⟨c,n,_⟩=> hb c n ())
def Zrg:Zc U:=lvl [([0],[]),([2],[])]
abbrev A92(p:List Nat):=AW (Z1 Zfw) Try.f92 Zrg p
theorem ZuH(k:Int)(Q:QT)(h:let z0:=decide ((2:Int)<=k);((Tr (z0=true))/\(Tr (z0=true))/\(Q .ret (L2 [(2,.c (.bool (bif z0 then (decide (k<=9)) else false)))] [])))):
  A92 [] (L2 [pI 0 k] []) Q:=
 Eq.mpr (by kernel_rfl) h
def Zsr(k:Int):Prop:=AW (Z1 Zfw) Try.f92 Zrg [] (Zg (ZhT.can (k,())) []) (EQ Try.f92 (ZpD (k,())) [])
theorem ZqG(hb:∀ (k:Int) (_:Unit),Zf8 (k,())->Zsr k):CT 92 Z1E:=
 Z7 (l:=[]) Zj rfl trivial Zrg Try.func92 rfl rfl 1 (fun _=> rfl) (by decide) (fun ⟨k,_⟩=> hb k ())
abbrev ZvA(p:List Nat):=AW (Z1 Zfw) Try.f120 Zrg p
theorem ZtA(k:Int)(Q:QT)(h:let z0:=decide ((2:Int)<=k);((Tr (z0=true))/\(Tr (z0=true))/\(Q .ret (L2 [(2,.c (.bool (bif z0 then (decide (k<=7)) else false)))] [])))):
  ZvA [] (L2 [pI 0 k] []) Q:=
 Eq.mpr (by kernel_rfl) h
def Zpq(k:Int):Prop:=AW (Z1 Zfw) Try.f120 Zrg [] (Zg (ZhT.can (k,())) []) (EQ Try.f120 (ZkN (k,())) [])
theorem Zok(hb:∀ (k:Int) (_:Unit),Zf8 (k,())->Zpq k):CT 120 Z1s:=
 Z7 (l:=[]) Zj rfl trivial Zrg Try.func120 rfl rfl 1 (fun _=> rfl) (by decide) (fun ⟨k,_⟩=> hb k ())
def Zhj:List (FuncId × Fs U):=[(120,Z1s),(183,Z8W)]
def ZlE:Zc U:=lvl [([0,3],[3]),([0,3,5],[3]),([4],[]),([3,32],[3]),([4],[]),([4],[])]
abbrev Zvx(p:List Nat):=AW (Z1 Zhj) Try.f162 ZlE p
theorem Ztn(l:Int)(t:Tree)(Q:QT)(h:let z3:=decide (2<=l/\l<=7);let z2:=List.getD t.words (Int.toNat 0) (0:Int);let z1:=bif (t.kind==10) then (((t.kids.length:Int):Int)==0) else false;let z0:=bif z1 then (((t.words.length:Int):Int)==1) else false;((Zf8 (l,()))/\((z3=true->(Tr ((t.kind==10)=true))/\(Tr ((t.kind==10)=true))/\(Tr ((t.kind==10)=true))/\(Tr ((t.kind==10)=true))/\(Tr (z1=true))/\(Tr (z1=true))/\(Tr (z1=true))/\(Tr (z1=true))/\(Tr (z0=true))/\(z0=true->InR (l - 2))/\(Tr (z0=true))/\(Tr (z0=true))/\(z0=true->(0:Int)<=0/\0 < (t.words.length:Int))/\(Tr (z0=true))/\(Tr (z0=true))/\(Tr (z0=true))/\(z0=true->ZgN ((l - 2),z2,()))/\(Tr (z0=true))/\(Q .ret (L2 [(4,.c (.bool (bif z0 then (Zcr (l - 2) z2) else false)))] [])))/\(z3=false->(((l==9)=true->(Q .ret (L2 [pB 4 (t.kind==1)] [])))/\((l==9)=false->(Q .ret (L2 [pB 4 (t.kind !=10)] [])))))))):
  Zvx [] (L2 [pI 0 l,(1,.agg (enc .tree t))] []) Q:=
 Eq.mpr (by kernel_rfl) h
def Zpd(l:Int)(t:Tree):Prop:=AW (Z1 Zhj) Try.f162 ZlE [] (Zg (ZhK.can (l,t,())) []) (EQ Try.f162 (ZkH (l,t,())) [])
theorem Zo9(Zjk:CT 120 Z1s)(ZrS:CT 183 Z8W)(hb:∀ (l:Int) (t:Tree) (_:Unit),Zc6 (l,t,())->Zpd l t):CT 162 Z5w:=
 Z7 (l:=[(120,Z1s),(183,Z8W)]) Zj rfl (⟨Zjk,ZrS,trivial⟩) ZlE Try.func162 rfl rfl 2 (fun _=> rfl) (by decide) (fun ⟨l,t,_⟩=> hb l t ())
def Z2L(N:Nat):List (FuncId × Fs U):=(117,fs ZhN (fun a=> [Z3q a,Z7U a < N]) Zc0) ::[(92,Z1E),(162,Z5w)]
def Zbf:Zc U:=lvl [([1,2],[2]),([1,2,8],[2]),([4],[]),([1,2,22],[2]),([4],[]),([1,2,36],[2]),([4],[]),([1,2,39],[2]),([1,2,52],[2]),([4],[]),([1,2,53],[2]),([4],[]),([1,2,71,72,73],[2]),([1,2,71,72,73,74],[2]),([1,2,6,71,72,73],[2,6]),([1,2,6,7,71,72,73],[2,6]),([1,2,6,7,71,72,73,82],[2,6]),([1,2,6,7,71,72,73],[2,6]),([1,2,71,72,73,95],[2]),([4],[]),([1,2,71,72,73],[2]),([4],[])]
def Z2a(t:Tree)(d x73:Int):LSt U:=(L2 [pI 1 d,pL 2,(71,.c (sU .tree t.kids .unk)),pI 72 (t.kids.length:Int),pI 73 x73] [(.loc 2,(enc .tree t))])
abbrev Zt7(N:Nat)(p:List Nat):=AW (Z1 (Z2L N)) Try.f117 Zbf p
abbrev Zux(N:Nat)(p:List Nat):=SW (Z1 (Z2L N)) Try.f117 Zbf p
theorem ZtC(N:Nat)(t:Tree)(d:Int)(Q:QT)(h:let z9:=((t.kids.length:Int):Int)==0;let z8:=Q .ret (L2 [pB 4 false] []);let z5:=Zh (Zt7 N [1,1,0,1,0,0]) (Z2a t d 0) (xB 1 (Zux N [1,1,1] Q));let z4:=((t.words.length:Int):Int)==1;let z3:=((t.words.length:Int):Int)==0;let z2:= !(decide (2<=t.kind/\t.kind<=9));let z1:=decide ((65536:Int)<=(t.words.length:Int));let z7:=bif z1 then true else (decide ((65536:Int)<=(t.kids.length:Int)));let z0:=bif z2 then true else (decide ((0:Int) < (t.words.length:Int)));let z6:=bif z0 then true else (decide ((1048576:Int)<=(t.kids.length:Int)));(((t.kind==0)=true->(Tr (z3=true))/\(Tr (z3=true))/\(Tr (z3=true))/\(Tr (z3=true))/\(Q .ret (L2 [(4,.c (.bool (bif z3 then z9 else false)))] [])))/\((t.kind==0)=false->(((t.kind==10)=true->(Tr (z4=true))/\(Tr (z4=true))/\(Tr (z4=true))/\(Tr (z4=true))/\(Q .ret (L2 [(4,.c (.bool (bif z4 then z9 else false)))] [])))/\((t.kind==10)=false->(((d==0)=true->z8)/\((d==0)=false->(((t.kind==1)=true->(Tr ((!z1)=true))/\(Tr ((!z1)=true))/\(Tr ((!z1)=true))/\(z1=false->(!z1)=true)/\((z7=true->z8)/\(z7=false->z5)))/\((t.kind==1)=false->(Zf8 (t.kind,()))/\(Tr ((!z2)=true))/\(Tr ((!z2)=true))/\(Tr ((!z2)=true))/\(z2=false->(!z2)=true)/\(Tr ((!z0)=true))/\(Tr ((!z0)=true))/\(Tr ((!z0)=true))/\(z0=false->(!z0)=true)/\((z6=true->z8)/\(z6=false->z5))))))))))):
  Zt7 N [] (L2 [(0,.agg (enc .tree t)),pI 1 d] []) Q:=
 Eq.mpr (by kernel_rfl) h
theorem ZjT(N:Nat)(t:Tree)(d x73:Int)(N0:NT)(Q:QT)(h:∀ y_1,y_1=(t.kids.getD x73.toNat Tree.nil)->∀ y_2,y_2=y_1->let z4:=N0 (Z2a t d (x73+1));let z3:=decide (x73 < (t.kids.length:Int));let z2:= !(Z9 y_2 (d - 1));let z1:= !(y_1.kind !=10);let z0:= !(Z3E t.kind y_2);((z3=true->((0:Int)<=x73/\x73 < (t.kids.length:Int))/\(((t.kind !=1)=true->(Zc6 (t.kind,y_2,()))/\((Tr ((!z0)=true))/\((!z0)=true->InR (d - 1))/\(Tr ((!z0)=true))/\(Tr ((!z0)=true))/\((!z0)=true->Z3q (y_2,(d - 1),()))/\((!z0)=true->Z7U (y_2,(d - 1),()) < N)/\(Tr ((!z0)=true))/\(z0=false->(!z0)=true)/\(((bif z0 then true else z2)=true->(Q .ret (L2 [pB 4 false] [])))/\((bif z0 then true else z2)=false->(InR (x73+1))/\z4))))/\((t.kind !=1)=false->(Tr ((!z1)=true))/\((!z1)=true->InR (d - 1))/\(Tr ((!z1)=true))/\(Tr ((!z1)=true))/\((!z1)=true->Z3q (y_2,(d - 1),()))/\((!z1)=true->Z7U (y_2,(d - 1),()) < N)/\(Tr ((!z1)=true))/\(z1=false->(!z1)=true)/\(((bif z1 then true else z2)=true->(Q .ret (L2 [pB 4 false] [])))/\((bif z1 then true else z2)=false->(InR (x73+1))/\z4)))))/\(z3=false->(Q .ret (L2 [pB 4 true] []))))):
  Zt7 N [1,1,0,1,0,0] (Z2a t d x73) (xT N0 (xB 1 (Zux N [1,1,1] Q))):=
 Eq.mpr (by kernel_rfl) (h _ rfl _ (Z8 _))
def Zps(N:Nat)(t:Tree)(d:Int):Prop:=AW (Z1 (Z2L N)) Try.f117 Zbf [] (Zg (ZhN.can (t,d,())) []) (EQ Try.f117 (Zc0 (t,d,())) [])
theorem Zol(c92:CT 92 Z1E)(ZrV:CT 162 Z5w)(hb:∀ (N:Nat) (t:Tree) (d:Int) (_:Unit),Z3q (t,d,())->Z7U (t,d,()) < N+1->Zps N t d):CT 117 Z5z:=
 Yb (μ:=Z7U) (l:=[(92,Z1E),(162,Z5w)]) Zj rfl (⟨c92,ZrV,trivial⟩) Zbf Try.func117 rfl rfl 2 (fun _=> rfl) (by decide) (fun N ⟨t,d,_⟩=> hb N t d ())
def Zm5:List (FuncId × Fs U):=[(117,Z5z)]
abbrev A80(p:List Nat):=AW (Z1 Zm5) Try.f80 ZrB p
theorem ZuP(t:Tree)(Q:QT)(h:let z0:=Tree.mk t.kind t.words t.kids;((Z3q (z0,64,()))/\(Q .ret (L2 [pB 2 (Z9 z0 64)] [])))):
  A80 [] (L2 [(0,.agg (enc .tree t))] []) Q:=
 Eq.mpr (by kernel_rfl) h
def Zsz(t:Tree):Prop:=AW (Z1 Zm5) Try.f80 ZrB [] (Zg (ZmX.can (t,())) []) (EQ Try.f80 (ZpE (t,())) [])
theorem ZqN(Zs3:CT 117 Z5z)(hb:∀ (t:Tree) (_:Unit),Z9u (t,())->Zsz t):CT 80 JI:=
 Z7 (l:=[(117,Z5z)]) Zj rfl (⟨Zs3,trivial⟩) ZrB Try.func80 rfl rfl 1 (fun _=> rfl) (by decide) (fun ⟨t,_⟩=> hb t ())
def ZfF(N:Nat):List (FuncId × Fs U):=(37,fs ZhN (fun a=> [Z3q a,Z7U a < N]) Zc0) ::[(79,Z8W)]
def ZoF:Zc U:=lvl [([1,2],[2]),([1,2,10],[2]),([4],[]),([1,2,23],[2]),([4],[]),([1,2,68],[2]),([4],[]),([1,2,77],[2]),([4],[]),([1,2,5],[2]),([1,2,5,82],[2]),([1,2,5],[2]),([1,2,5,6],[2,6]),([1,2,5,6,94],[2,6]),([4],[]),([1,2,5,6,7],[2,6]),([1,2,5,131],[2]),([4],[]),([4],[])]
def Z6v(t:Tree)(d x5:Int):LSt U:=(L2 [pI 1 d,pL 2,pI 5 x5] [(.loc 2,(enc .tree t))])
abbrev A37(N:Nat)(p:List Nat):=AW (Z1 (ZfF N)) Try.f37 ZoF p
abbrev S37(N:Nat)(p:List Nat):=SW (Z1 (ZfF N)) Try.f37 ZoF p
theorem Zvg(N:Nat)(t:Tree)(d:Int)(Q:QT)(h:let z11:=((t.kids.length:Int):Int)==0;let z8:=decide (t.kind < 0);let z6:=decide ((1:Int) < t.kind);let z9:=bif z6 then (decide ((0:Int) < (t.words.length:Int))) else false;let z5:=((t.words.length:Int):Int)==1;let z4:=((t.words.length:Int):Int)==0;let z2:=bif z8 then true else (decide ((10:Int) < t.kind));let z3:=bif z2 then true else (d==0);let z0:=bif z3 then true else (decide ((65536:Int)<=(t.words.length:Int)));let z10:=(!z0) && (t.kind==1);let z1:=bif z0 then true else (bif (t.kind==1) then (decide ((65536:Int)<=(t.kids.length:Int))) else false);let z7:=bif z1 then true else (decide ((1048576:Int)<=(t.kids.length:Int)));(((t.kind==0)=true->(Tr (z4=true))/\(Tr (z4=true))/\(Tr (z4=true))/\(Tr (z4=true))/\(Q .ret (L2 [(4,.c (.bool (bif z4 then z11 else false)))] [])))/\((t.kind==0)=false->(((t.kind==10)=true->(Tr (z5=true))/\(Tr (z5=true))/\(Tr (z5=true))/\(Tr (z5=true))/\(Q .ret (L2 [(4,.c (.bool (bif z5 then z11 else false)))] [])))/\((t.kind==10)=false->(Tr ((!z8)=true))/\(Tr ((!z8)=true))/\(z8=false->(!z8)=true)/\(Tr ((!z2)=true))/\(z2=false->(!z2)=true)/\(Tr ((!z3)=true))/\(Tr ((!z3)=true))/\(Tr ((!z3)=true))/\(z3=false->(!z3)=true)/\(Tr ((!z0)=true))/\(Tr ((!z0)=true))/\(Tr ((!z0)=true))/\(Tr (z10=true))/\(Tr (z10=true))/\(Tr (z10=true))/\((!z0)=true->(True->(!z0)=true))/\((!z0)=true->((t.kind==1)=true->z10=true))/\(z0=false->(!z0)=true)/\(Tr ((!z1)=true))/\(Tr ((!z1)=true))/\(Tr ((!z1)=true))/\(z1=false->(!z1)=true)/\((z7=true->(Q .ret (L2 [pB 4 false] [])))/\(z7=false->(Tr (z6=true))/\(Tr (z6=true))/\(Tr (z6=true))/\(Tr (z6=true))/\((z9=true->(Q .ret (L2 [pB 4 false] [])))/\(z9=false->(Zh (A37 N [1,1,1,1,1,0,1,0,0]) (Z6v t d 0) (xB 0 (S37 N [1,1,1,1,1,1] Q)))))))))))):
  A37 N [] (L2 [(0,.agg (enc .tree t)),pI 1 d] []) Q:=
 Eq.mpr (by kernel_rfl) h
theorem ZnF(N:Nat)(t:Tree)(d x5:Int)(N0:NT)(Q:QT)(h:∀ y_1,y_1=(t.kids.getD x5.toNat Tree.nil)->∀ y_2,y_2=y_1->∀ y_3,y_3=(List.getD y_1.words (Int.toNat 0) (0:Int))->let z6:=decide (x5 < (t.kids.length:Int));let z3:=decide ((2:Int)<=t.kind);let z0:=bif z3 then (decide (t.kind<=7)) else false;let z2:=z0 !=(y_1.kind==10);let z5:=(!z2) && (t.kind==9);let z1:=bif z2 then true else (bif (t.kind==9) then (y_1.kind !=1) else false);let z4:=bif z1 then true else (bif z0 then (!(Zcr (t.kind - 2) y_3)) else false);((z6=true->((0:Int)<=x5/\x5 < (t.kids.length:Int))/\((InR (d - 1))/\(Z3q (y_2,(d - 1),()))/\(Z7U (y_2,(d - 1),()) < N)/\(((!(Z9 y_2 (d - 1)))=true->(Q .ret (L2 [pB 4 false] [])))/\((!(Z9 y_2 (d - 1)))=false->(Tr (z3=true))/\(Tr (z3=true))/\(Tr (z3=true))/\((Tr ((!z2)=true))/\(Tr ((!z2)=true))/\(Tr ((!z2)=true))/\(Tr (z5=true))/\(Tr (z5=true))/\((!z2)=true->(True->(!z2)=true))/\((!z2)=true->((t.kind==9)=true->z5=true))/\(z2=false->(!z2)=true)/\(Tr ((!z1)=true))/\(Tr (((!z1) && z0)=true))/\(Tr (((!z1) && z0)=true))/\(((!z1) && z0)=true->InR (t.kind - 2))/\(Tr (((!z1) && z0)=true))/\(Tr (((!z1) && z0)=true))/\(((!z1) && z0)=true->(0:Int)<=0/\0 < (y_1.words.length:Int))/\(Tr (((!z1) && z0)=true))/\(Tr (((!z1) && z0)=true))/\(Tr (((!z1) && z0)=true))/\(((!z1) && z0)=true->ZgN ((t.kind - 2),y_3,()))/\(Tr (((!z1) && z0)=true))/\((!z1)=true->(True->(!z1)=true))/\((!z1)=true->(z0=true->((!z1) && z0)=true))/\(z1=false->(!z1)=true)/\((z4=true->(Q .ret (L2 [pB 4 false] [])))/\(z4=false->(InR (x5+1))/\(N0 (Z6v t d (x5+1))))))))))/\(z6=false->(Q .ret (L2 [pB 4 true] []))))):
  A37 N [1,1,1,1,1,0,1,0,0] (Z6v t d x5) (xT N0 (xB 0 (S37 N [1,1,1,1,1,1] Q))):=
 Eq.mpr (by kernel_rfl) (h _ rfl _ (Z8 _) _ rfl)
def Zt0(N:Nat)(t:Tree)(d:Int):Prop:=AW (Z1 (ZfF N)) Try.f37 ZoF [] (Zg (ZhN.can (t,d,())) []) (EQ Try.f37 (Zc0 (t,d,())) [])
theorem Zrb(c79:CT 79 Z8W)(hb:∀ (N:Nat) (t:Tree) (d:Int) (_:Unit),Z3q (t,d,())->Z7U (t,d,()) < N+1->Zt0 N t d):CT 37 Z5z:=
 Yb (μ:=Z7U) (l:=[(79,Z8W)]) Zj rfl (⟨c79,trivial⟩) ZoF Try.func37 rfl rfl 2 (fun _=> rfl) (by decide) (fun N ⟨t,d,_⟩=> hb N t d ())
end
theorem Z2l:∀ (l:List Int),trim l=[]↔∀ i:Nat,l.getD i 0=0
 | []=> by simp [trim]
 | x ::r=> by
  have ih:=Z2l r
  constructor
  ·intro h i
   simp only [trim] at h
   split at h
   ·rename_i hr
    split at h
    ·cases i with
     | zero=> simpa
     | succ i=> simpa using (ih.1 hr) i
    ·cases h
   ·cases h
  ·intro h
   have h0:=h 0
   have hr:trim r=[]:=ih.2 fun i=> by simpa using h (i+1)
   simp only [trim,hr]
   simp at h0
   simp [h0]
theorem Z0J(x:Int)(r:List Int):trim (x ::r)=if trim r=[]/\x=0 then [] else x ::trim r:=by
 simp only [trim]
 split
 ·rename_i h
  simp only [h]
  split <;> simp_all
 ·rename_i h
  simp [h]
theorem Z7x:∀ (a b:List Int),trim a=trim b↔∀ i:Nat,a.getD i 0=b.getD i 0
 | [],b=> by
  rw [show trim []=[] from rfl,eq_comm,Z2l]
  simp [eq_comm]
 | x ::r,[]=> by
  rw [show trim []=[] from rfl,Z2l]
  simp
 | x ::r,y ::s=> by
  have ih:=Z7x r s
  constructor
  ·intro h i
   have key:x=y/\trim r=trim s:=by
    rw [Z0J,Z0J] at h
    split at h <;> split at h <;> simp_all
   cases i with
   | zero=> simpa using key.1
   | succ i=> simpa using ih.1 key.2 i
  ·intro h
   have h0:x=y:=by simpa using h 0
   have hr:trim r=trim s:=ih.2 fun i=> by simpa using h (i+1)
   rw [Z0J,Z0J,h0,hr]
def Zp1(l:List Tree):Prop:=∀ x∈l,x.kind=0->x=Tree.nil
theorem YT(x:Tree)(r:List Tree):ZO (x ::r)=if ZO r=[]/\x.kind=0 then [] else x ::ZO r:=by
 simp only [ZO]
 split
 ·rename_i h
  simp only [h]
  split <;> simp_all
 ·rename_i h
  simp [h]
theorem Z1C:∀ (l:List Tree),Zp1 l->(ZO l=[]↔∀ i:Nat,l.getD i Tree.nil=Tree.nil)
 | [],_=> by simp [ZO]
 | x ::r,hn=> by
  have ih:=Z1C r (fun y hy=> hn y (Q5 _ hy))
  have hx:=hn x (Qa ..)
  rw [YT]
  constructor
  ·intro h i
   split at h
   ·rename_i hc
    cases i with
    | zero=> simpa using hx hc.2
    | succ i=> simpa using (ih.1 hc.1) i
   ·cases h
  ·intro h
   have h0:x=Tree.nil:=by simpa using h 0
   have hr:ZO r=[]:=ih.2 fun i=> by simpa using h (i+1)
   rw [if_pos ⟨hr,by rw [h0];rfl⟩]
theorem Z5m:∀ (a b:List Tree),Zp1 a->Zp1 b->(ZO a=ZO b↔∀ i:Nat,a.getD i Tree.nil=b.getD i Tree.nil)
 | [],b,_,hb=> by
  rw [show ZO []=[] from rfl,eq_comm,Z1C b hb]
  simp [eq_comm]
 | x ::r,[],ha,_=> by
  rw [show ZO []=[] from rfl,Z1C _ ha]
  simp
 | x ::r,y ::s,ha,hb=> by
  have ih:=Z5m r s (fun y hy=> ha y (Q5 _ hy)) (fun y hy=> hb y (Q5 _ hy))
  have hx:=ha x (Qa ..)
  have hy:=hb y (Qa ..)
  constructor
  ·intro h i
   have key:x=y/\ZO r=ZO s:=by
    rw [YT,YT] at h
    split at h <;> split at h
    ·rename_i h1 h2
     exact ⟨(hx h1.2).trans (hy h2.2).symm,h1.1.trans h2.1.symm⟩
    ·cases h
    ·cases h
    ·simpa using h
   cases i with
   | zero=> simpa using key.1
   | succ i=> simpa using ih.1 key.2 i
  ·intro h
   have h0:x=y:=by simpa using h 0
   have hr:ZO r=ZO s:=ih.2 fun i=> by simpa using h (i+1)
   rw [YT,YT,h0,hr]
theorem Zb4:Z3 Tree.nil=Tree.nil:=by simp [Tree.nil,Z3]
theorem Z58(t:Tree):(Z3 t).kind=t.kind:=by
 obtain ⟨k,w,ks⟩:=t
 simp only [Z3]
 split
 ·rename_i h;simp [h,Tree.nil]
 ·split
  ·rename_i h;simp [h]
  ·try rfl
theorem Z5a:∀ (l:List Tree),Zp1 (ZN l)
 | []=> by intro x hx;simp [ZN] at hx
 | t ::r=> by
  intro x hx hk
  simp only [ZN,Qc] at hx
  rcases hx with rfl | hx
  ·rw [Z58] at hk
   obtain ⟨k,w,ks⟩:=t
   simp only [Tree.kind_mk] at hk
   simp [Z3,hk]
  ·exact Z5a r x hx hk
theorem Jw:∀ (l:List Tree) (i:Nat),(ZN l).getD i Tree.nil=Z3 (l.getD i Tree.nil)
 | [],i=> by simp [ZN,Zb4]
 | t ::r,0=> by simp [ZN]
 | t ::r,i+1=> by simpa [ZN] using Jw r i
theorem Z5S(a b:List Tree):ZN a=ZN b↔a.length=b.length/\∀ i:Nat,Z3 (a.getD i Tree.nil)=Z3 (b.getD i Tree.nil):=by
 constructor
 ·intro h
  refine ⟨by rw [<-Z03 a,h,Z03],fun i=> ?_⟩
  rw [<-Jw,h,Jw]
 ·rintro ⟨hl,h⟩
  apply List.ext_getElem (by rw [Z03,Z03,hl])
  intro i h1 h2
  have:=h i
  rw [<-Jw,<-Jw] at this
  simpa [List.getD,h1,h2] using this
theorem Ya(a b:Tree):Z3 a=Z3 b↔a.kind=b.kind/\(a.kind=0\/(if a.kind=1 then (∀ i:Nat,a.words.getD i 0=b.words.getD i 0) else a.words=b.words/\a.kids.length=b.kids.length)/\∀ i:Nat,Z3 (a.kids.getD i Tree.nil)=Z3 (b.kids.getD i Tree.nil)):=by
 obtain ⟨k,w,ks⟩:=a
 obtain ⟨k',w',ks'⟩:=b
 show _↔k=k'/\(k=0\/(if k=1 then (∀ i:Nat,w.getD i 0=w'.getD i 0) else w=w'/\ks.length=ks'.length)/\∀ i:Nat,Z3 (ks.getD i Tree.nil)=Z3 (ks'.getD i Tree.nil))
 by_cases hk:k=k'
 ·subst hk
  simp only [true_and]
  by_cases h0:k=0
  ·simp [Z3,h0]
  ·by_cases h1:k=1
   ·subst h1
    simp only [Z3,if_neg h0,if_true,Tree.mk.injEq,true_and,Z7x,Z5m _ _ (Z5a _) (Z5a _),Jw]
    simp
   ·simp only [Z3,if_neg h0,if_neg h1,Tree.mk.injEq,true_and,Z5S]
    constructor
    ·rintro ⟨h2,h3,h4⟩;exact .inr ⟨⟨h2,h3⟩,h4⟩
    ·rintro (h | ⟨⟨h2,h3⟩,h4⟩)
     ·exact absurd h h0
     ·exact ⟨h2,h3,h4⟩
 ·simp only [hk,false_and,iff_false]
  intro h
  have:=congrArg Tree.kind h
  rw [Z58,Z58] at this
  exact hk this
theorem Zd1{a b:Tree}(h:Z3 a=Z3 b)(h0:a.kind≠0)(i:Nat):a.words.getD i 0=b.words.getD i 0:=by
 obtain ⟨_,h2⟩:=(Ya a b).1 h
 rcases h2 with h2 | ⟨h2,_⟩
 ·exact absurd h2 h0
 ·split at h2
  ·exact h2 i
  ·rw [h2.1]
theorem ZfJ{a b:Tree}(h:Z3 a=Z3 b)(h0:a.kind≠0)(i:Nat):Z3 (a.kids.getD i Tree.nil)=Z3 (b.kids.getD i Tree.nil):=by
 obtain ⟨_,h2⟩:=(Ya a b).1 h
 rcases h2 with h2 | ⟨_,h2⟩
 ·exact absurd h2 h0
 ·exact h2 i
theorem Za4(t:Tree)(i:Int):Zm (J5 t i)<=Zm t/\(i < t.kids.length->0<=i->Zm (J5 t i) < Zm t):=by
 obtain ⟨k,w,ks⟩:=t
 unfold J5
 have h1:Zm Tree.nil=1:=by simp [Tree.nil,Zm,Ze]
 split
 ·simp only [h1,Zm];omega
 ·simp only [Tree.kids_mk]
  by_cases hi:i.toNat < ks.length
  ·have:=Jc hi
   simp only [Zm];omega
  ·rw [List.getD,Ql (by omega)]
   simp only [Option.getD_none,h1,Zm];omega
theorem Zjl:Contract Try.prog cfg 106 Z0C:=by
 refine Zoo ZrY Zji c91 ?_
 rintro N a b _ hp hN
 have la:a.words.length+a.kids.length < Zm a:=by obtain ⟨k,w,ks⟩:=a;have:=Zw ks;simp only [Zm,Tree.words_mk,Tree.kids_mk];omega
 have lb:b.words.length+b.kids.length < Zm b:=by obtain ⟨k,w,ks⟩:=b;have:=Zw ks;simp only [Zm,Tree.words_mk,Tree.kids_mk];omega
 simp only [Z1e,Zb7] at hp hN
 have no:¬Z3 a=Z3 b->YA cfg Try.f106.ntmps Try.f106.results.toList (Z4Z (a,b,())) [] .ret (⟨[(4,.c (.bool false))],[],[]⟩:LSt U):=by
  intro h
  have e:Yf (Z3 a) (Z3 b)=false:=YV.2 h
  simp only [Z4Z,e]
  exact ⟨⟨rfl,⟨rfl,trivial⟩,trivial⟩,trivial⟩
 refine ZtH N _ _ _ ?_;(try simp only [vcT,forall_eq])
 (simp only [vcS]);(try simp only [vcT])
 refine ⟨fun hc=> ?_,fun hc=> ?_⟩
 ·have e:Yf (Z3 a) (Z3 b)=(a.kind==b.kind):=by
   by_cases hk:a.kind=b.kind
   ·have h0:a.kind=0:=by rcases hc with h | h;exact absurd hk h;exact h
    rw [Jt.2 ((Ya a b).2 ⟨hk,.inl h0⟩)]
    simp [hk]
   ·rw [YV.2 (fun h=> hk ((Ya a b).1 h).1)]
    simp [hk]
  simp only [Z4Z,e]
  exact ⟨⟨rfl,⟨rfl,trivial⟩,trivial⟩,trivial⟩
 ·refine ⟨fun _=> by simp only [ZaZ];omega,fun h h'=> ⟨h,h'⟩,fun hd=> no ?_,fun hd=> ?_⟩
  ·intro h
   obtain ⟨_,h2⟩:=(Ya a b).1 h
   rcases h2 with h2 | ⟨h2,_⟩
   ·exact hc.2 h2
   ·rw [if_neg hd.1] at h2
    rcases hd.2 with h3 | h3
    ·exact h3 (by omega)
    ·exact h3 h2.1
  ·refine Za (ι:=Int) (fun p=> Z4l a b p) (fun p=> 0<=p/\p<=2000000000000/\∀ j:Nat,j < p.toNat->a.words.getD j 0=b.words.getD j 0) (fun p=> (2000000000000 - p).toNat) 0 rfl ⟨by omega,by omega,fun j hj=> by simp at hj⟩ ?_
   rintro i ⟨h1,h2,h3⟩
   refine Zk1 N _ _ _ _ _ ?_;(try simp only [vcT,forall_eq])
   (simp only [vcS]);(try simp only [vcT])
   have wa:∀ t:Tree,YS t i=t.words.getD i.toNat 0:=fun t=> by unfold YS;rw [if_neg (by omega)]
   refine ⟨fun hi=> ⟨trivial,trivial,fun hn=> no fun h=> hn ?_,fun he=> ⟨?_,?_⟩⟩,fun hi=> ?_⟩
   ·rw [wa,wa]
    exact Zd1 h hc.2 _
   ·unfold InR;split at hi <;> omega
   ·refine ⟨i+1,rfl,⟨by omega,by split at hi <;> omega,fun j hj=> ?_⟩,by split at hi <;> omega⟩
    by_cases hj':j < i.toNat
    ·exact h3 j hj'
    ·have:j=i.toNat:=by omega
     rw [this,<-wa,<-wa]
     exact he
   ·have hw:∀ j:Nat,a.words.getD j 0=b.words.getD j 0:=fun j=> by
     by_cases hj:j < i.toNat
     ·exact h3 j hj
     ·split at hi <;> rw [List.getD,List.getD,Ql (by omega),Ql (by omega)]
    refine Za (ι:=Int) (fun p=> Z4k a b p) (fun p=> 0<=p/\p<=2000000000000/\∀ j:Nat,j < p.toNat->Z3 (a.kids.getD j Tree.nil)=Z3 (b.kids.getD j Tree.nil)) (fun p=> (2000000000000 - p).toNat) 0 rfl ⟨by omega,by omega,fun j hj=> by simp at hj⟩ ?_
    rintro q ⟨h5,h6,h7⟩
    refine Zk0 N _ _ _ _ _ ?_;(try simp only [vcT,forall_eq])
    (simp only [vcS]);(try simp only [vcT])
    have ka:∀ t:Tree,J5 t q=t.kids.getD q.toNat Tree.nil:=fun t=> by unfold J5;rw [if_neg (by omega)]
    have ma:=Za4 a q
    have mb:=Za4 b q
    try (simp only [Tree.eta,Edit.eta,Tree.kind_mk,Tree.words_mk,Tree.kids_mk])
    refine ⟨fun hq=> ⟨trivial,trivial,?_,?_,fun hn=> no fun h=> ?_,fun he=> ⟨?_,?_⟩⟩,fun hq=> ?_⟩
    ·simp only [Z1e];omega
    ·simp only [Zb7];split at hq <;> omega
    ·rw [YV] at hn
     apply hn
     rw [ka,ka]
     exact ZfJ h hc.2 _
    ·unfold InR;split at hq <;> omega
    ·refine ⟨q+1,rfl,⟨by omega,by split at hq <;> omega,fun j hj=> ?_⟩,by split at hq <;> omega⟩
     by_cases hj':j < q.toNat
     ·exact h7 j hj'
     ·have:j=q.toNat:=by omega
      rw [this,<-ka,<-ka]
      exact Jt.1 he
    ·have hk:∀ j:Nat,Z3 (a.kids.getD j Tree.nil)=Z3 (b.kids.getD j Tree.nil):=fun j=> by
      by_cases hj:j < q.toNat
      ·exact h7 j hj
      ·split at hq <;> rw [List.getD,List.getD,Ql (by omega),Ql (by omega)]
     have e:Yf (Z3 a) (Z3 b)=true:=by
      rw [Jt,Ya]
      refine ⟨hc.1,.inr ⟨?_,hk⟩⟩
      split
      ·exact hw
      ·rename_i h1
       rcases hd with hd | hd
       ·exact absurd hd h1
       ·exact ⟨hd.2,by have:=hd.1;omega⟩
     simp only [Z4Z,e]
     exact ⟨⟨rfl,⟨rfl,trivial⟩,trivial⟩,trivial⟩
mutual
theorem J9:∀ (t:Tree) (d l:Int),0<=Zr t d l->(Zm t:Int)+Zr t d l<=l
 | .mk _ w ks,d,l,h=> by
  simp only [Zr] at h ⊢
  split at h
  ·omega
  ·rename_i hc
   rw [if_neg hc]
   have:=Z1G ks (d - 1) (l - 1 - w.length) h
   simp only [Zm]
   omega
theorem Z1G:∀ (ks:List Tree) (d l:Int),0<=Zo ks d l->(Ze ks:Int)+Zo ks d l<=l
 | [],d,l,h=> by simp [Zo,Ze]
 | t ::r,d,l,h=> by
  simp only [Zo] at h ⊢
  split at h
  ·omega
  ·rename_i hc
   rw [if_neg hc]
   have h1:=Z1G r d (Zr t d l) h
   have h3:=(JJ r d (Zr t d l) (Yc t d l).1).2
   have h2:=J9 t d l (by omega)
   simp only [Ze]
   omega
end
end Go.AM.Ytpjenobkibfpcaa
