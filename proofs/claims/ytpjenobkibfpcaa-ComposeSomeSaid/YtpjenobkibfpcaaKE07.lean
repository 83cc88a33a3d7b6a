import Derived.Test.YtpjenobkibfpcaaCmZ
import Derived.Test.YtpjenobkibfpcaaChecked
import Derived.Test.YtpjenobkibfpcaaRows
import Derived.Test.YtpjenobkibfpcaaCmX
import Derived.Test.YtpjenobkibfpcaaCmXE
import Derived.ProofKit
import Derived.Test.YtpjenobkibfpcaaKD07
set_option linter.unusedSimpArgs false
set_option linter.unusedVariables false
namespace Go.AM.Ytpjenobkibfpcaa
open Go.AM Go.Proofs
def el:Ty→TypeId
 | .u64=> 40
 | .u8=> 5
 | .int=> 3
 | .tree=> 25
 | .wedit=> 42
 | .edit=> 31
 | .kid=> 84
 | .op=> 82
 | .piece=> 150
 | .unit=> 164
 | .pair=> 166
 | .step=> 58
 | .deed=> 70
def tb:Tables U:=
 {el:=el
  sl:=[(22,.u64),(23,.tree),(26,.step),(27,.wedit),(28,.kid),(29,.op),(64,.edit),(94,.u8),(146,.piece),(153,.int),(158,.pair),(161,.unit)]
  var:=[(2,false,[.int .i64 0]),
   (3,false,[.int .i64 0]),
   (4,false,[.bool false]),
   (5,false,[.int .u8 0]),
   (6,false,[.int .u8 0]),
   (7,true,[.int .i64 0,.int .i64 0,.bool false,.int .u8 0]),
   (8,true,[.int .i64 0,.int .i64 0,.bool false,.int .u8 0]),
   (12,false,[.int .u64 0]),
   (15,false,[.nilp]),
   (16,false,[.nilp]),
   (17,false,[.nilp]),
   (18,true,[.nilp]),
   (19,true,[.nilp]),
   (21,false,[.int .i32 0]),
   (22,false,[.nils]),
   (23,false,[.nils]),
   (24,true,[.int .i64 0,.nils,.nils]),
   (25,true,[.int .i64 0,.nils,.nils]),
   (26,false,[.nils]),
   (27,false,[.nils]),
   (28,false,[.nils]),
   (29,false,[.nils]),
   (30,true,[.int .i64 0,.int .i64 0,.nils,.nils,.int .i64 0,.nils,.nils,.nils,.nils,.int .i64 0,.nils]),
   (31,true,[.int .i64 0,.int .i64 0,.nils,.nils,.int .i64 0,.nils,.nils,.nils,.nils,.int .i64 0,.nils]),
   (40,false,[.int .u64 0]),
   (41,true,[.int .i64 0,.int .u8 0,.int .u64 0,.int .u64 0]),
   (42,true,[.int .i64 0,.int .u8 0,.int .u64 0,.int .u64 0]),
   (57,true,[.int .i64 0,.int .i64 0]),
   (58,true,[.int .i64 0,.int .i64 0]),
   (60,false,[.int .i64 0]),
   (64,false,[.nils]),
   (66,false,[.nilp]),
   (69,true,[.int .i64 0,.int .i64 0,.int .i64 0,.int .i64 0,.nils,.nils,.int .i64 0,.nils,.nils,.nils,.nils,.int .i64 0,.nils]),
   (70,true,[.int .i64 0,.int .i64 0,.int .i64 0,.int .i64 0,.nils,.nils,.int .i64 0,.nils,.nils,.nils,.nils,.int .i64 0,.nils]),
   (81,true,[.int .i64 0,.int .i64 0,.nils,.int .i64 0,.int .i64 0,.nils,.nils,.int .i64 0,.nils,.nils,.nils,.nils,.int .i64 0,.nils]),
   (82,true,[.int .i64 0,.int .i64 0,.nils,.int .i64 0,.int .i64 0,.nils,.nils,.int .i64 0,.nils,.nils,.nils,.nils,.int .i64 0,.nils]),
   (83,true,[.int .i64 0,.int .i64 0,.int .i64 0,.nils,.nils,.int .i64 0,.nils,.nils,.nils,.nils,.int .i64 0,.nils]),
   (84,true,[.int .i64 0,.int .i64 0,.int .i64 0,.nils,.nils,.int .i64 0,.nils,.nils,.nils,.nils,.int .i64 0,.nils]),
   (90,true,[.int .u8 0,.int .u8 0,.int .u8 0,.int .u8 0,.int .u8 0,.int .u8 0,.int .u8 0,.int .u8 0]),
   (94,false,[.nils]),
   (101,false,[.nilp]),
   (102,true,[.bool false,.bool false]),
   (103,true,[.bool false,.bool false]),
   (108,true,[.int .i64 0,.nils,.nils,.nils,.nils]),
   (109,true,[.int .i64 0,.nils,.nils,.nils,.nils]),
   (135,false,[.nilp]),
   (136,true,[.nils,.nils,.nils]),
   (137,true,[.nils,.nils,.nils]),
   (140,false,[.nilp]),
   (146,false,[.nils]),
   (149,true,[.int .i64 0,.int .i64 0,.int .i64 0,.nils,.int .i64 0,.int .i64 0,.nils,.nils,.int .i64 0,.nils,.nils,.nils,.nils,.int .i64 0,.nils,.int .i64 0,.int .i64 0,.nils,.int .i64 0,.int .i64 0,.nils,.nils,.int .i64 0,.nils,.nils,.nils,.nils,.int .i64 0,.nils]),
   (150,true,[.int .i64 0,.int .i64 0,.int .i64 0,.nils,.int .i64 0,.int .i64 0,.nils,.nils,.int .i64 0,.nils,.nils,.nils,.nils,.int .i64 0,.nils,.int .i64 0,.int .i64 0,.nils,.int .i64 0,.int .i64 0,.nils,.nils,.int .i64 0,.nils,.nils,.nils,.nils,.int .i64 0,.nils]),
   (153,false,[.nils]),
   (158,false,[.nils]),
   (161,false,[.nils]),
   (163,true,[.int .i64 0,.int .i64 0,.int .i64 0,.nils,.nils,.int .i64 0,.int .i64 0,.nils,.nils,.int .i64 0,.nils,.nils,.nils,.nils,.int .i64 0,.nils,.bool false]),
   (164,true,[.int .i64 0,.int .i64 0,.int .i64 0,.nils,.nils,.int .i64 0,.int .i64 0,.nils,.nils,.int .i64 0,.nils,.nils,.nils,.nils,.int .i64 0,.nils,.bool false]),
   (165,true,[.int .i64 0,.int .i64 0,.int .i64 0,.int .i64 0,.nils,.nils,.int .i64 0,.int .i64 0,.nils,.nils,.int .i64 0,.nils,.nils,.nils,.nils,.int .i64 0,.nils,.bool false,.int .i64 0,.int .i64 0,.int .i64 0,.nils,.nils,.int .i64 0,.int .i64 0,.nils,.nils,.int .i64 0,.nils,.nils,.nils,.nils,.int .i64 0,.nils,.bool false]),
   (166,true,[.int .i64 0,.int .i64 0,.int .i64 0,.int .i64 0,.nils,.nils,.int .i64 0,.int .i64 0,.nils,.nils,.int .i64 0,.nils,.nils,.nils,.nils,.int .i64 0,.nils,.bool false,.int .i64 0,.int .i64 0,.int .i64 0,.nils,.nils,.int .i64 0,.int .i64 0,.nils,.nils,.int .i64 0,.nils,.nils,.nils,.nils,.int .i64 0,.nils,.bool false]),
   (176,false,[.nilp]),
   (177,true,[.nilp,.nils,.nils,.nils,.nils]),
   (178,true,[.nilp,.nils,.nils,.nils,.nils]),
   (186,false,[.nilp]),
   (187,true,[.nils,.int .i64 0]),
   (188,true,[.nils,.int .i64 0]),
   (206,true,[.int .i64 0,.int .i64 0,.int .i64 0,.int .i64 0,.int .i64 0,.int .i64 0]),
   (214,false,[.int .u32 0]),
   (215,false,[.int .u8 0]),
   (216,false,[.int .u8 0]),
   (218,false,[.nilp]),
   (219,false,[.int .i32 0]),
   (220,false,[.int .i32 0])]
  fld:=[(7,0,0,2),(7,1,1,3),(7,2,2,4),(7,3,3,6),(8,0,0,2),(8,1,1,3),(8,2,2,4),(8,3,3,6),(18,0,0,17),(19,0,0,17),(24,0,0,3),(24,1,1,22),(24,2,2,23),(25,0,0,3),(25,1,1,22),(25,2,2,23),(30,0,0,3),(30,1,1,25),(30,2,4,25),(30,3,7,27),(30,4,8,28),(30,5,9,3),(30,6,10,29),(31,0,0,3),(31,1,1,25),(31,2,4,25),(31,3,7,27),(31,4,8,28),(31,5,9,3),(31,6,10,29),(41,0,0,3),(41,1,1,5),(41,2,2,40),(41,3,3,40),(42,0,0,3),(42,1,1,5),(42,2,2,40),(42,3,3,40),(57,0,0,3),(57,1,1,3),(58,0,0,3),(58,1,1,3),(69,0,0,3),(69,1,1,3),(69,2,2,31),(70,0,0,3),(70,1,1,3),(70,2,2,31),(81,0,0,3),(81,1,1,3),(81,2,2,23),(81,3,3,31),(82,0,0,3),(82,1,1,3),(82,2,2,23),(82,3,3,31),(83,0,0,3),(83,1,1,31),(84,0,0,3),(84,1,1,31),(102,0,0,4),(102,1,1,4),(103,0,0,4),(103,1,1,4),(108,0,0,25),(108,1,3,64),(108,2,4,64),(109,0,0,25),(109,1,3,64),(109,2,4,64),(136,0,0,29),(136,1,1,23),(136,2,2,23),(137,0,0,29),(137,1,1,23),(137,2,2,23),(149,0,0,3),(149,1,1,82),(149,2,15,82),(150,0,0,3),(150,1,1,82),(150,2,15,82),(163,0,0,3),(163,1,1,3),(163,2,2,25),(163,3,5,31),(163,4,16,4),(164,0,0,3),(164,1,1,3),(164,2,2,25),(164,3,5,31),(164,4,16,4),(165,0,0,3),(165,1,1,164),(165,2,18,164),(166,0,0,3),(166,1,1,164),(166,2,18,164),(177,0,0,101),(177,1,1,29),(177,2,2,29),(177,3,3,23),(177,4,4,23),(178,0,0,101),(178,1,1,29),(178,2,2,29),(178,3,3,23),(178,4,4,23),(187,0,0,29),(187,1,1,3),(188,0,0,29),(188,1,1,3)]
  arr:=[(90,8,5),(206,6,3)]
  eqs:=[41,42,57,58] }
def cfg:Cfg U:=tb.cfg K
theorem ZyB:tb.var.all (ZrW Try.prog)=true:=by kernel_rfl
theorem ZA8:tb.sl.all (slB Try.prog tb.el)=true:=by kernel_rfl
theorem ZyO:tb.fld.all (Zwc Try.prog)=true:=by kernel_rfl
theorem ZyU:tb.arr.all (ZwT Try.prog)=true:=by kernel_rfl
theorem ZA9:∀ t,elB Try.prog K tb t=true:=by
 intro t
 cases t
 ·kernel_rfl
 ·kernel_rfl
 ·kernel_rfl
 ·kernel_rfl
 ·kernel_rfl
 ·kernel_rfl
 ·kernel_rfl
 ·kernel_rfl
 ·kernel_rfl
 ·kernel_rfl
 ·kernel_rfl
 ·kernel_rfl
 ·kernel_rfl
theorem Zo:CfgOk Try.prog cfg:=Zml ZAh ZyB ZA8 ZyO ZyU ZA9 (by kernel_rfl) (by kernel_rfl)
abbrev sU(T:Ty)(l:List (El T))(t:Tail):C U:= .slice (U:=U) T l t
noncomputable abbrev AW(K:Known U)(f:Func)(lv:Zh U)(p:List Nat):=awp cfg K (ZJ cfg K) f.ntmps lv (cd f p)
noncomputable abbrev SW(K:Known U)(f:Func)(lv:Zh U)(p:List Nat):=Z7Y cfg K (ZJ cfg K) f.ntmps lv (cd f p)
abbrev EQ(f:Func):=JB cfg f.ntmps f.results.toList
abbrev QT:=AExit→LSt U→Prop
abbrev NT:=LSt U→Prop
abbrev CT(k:FuncId)(s:Fs U):Prop:=Contract Try.prog cfg k s
abbrev xB:=@AExit.inBlock U
abbrev xT:=@AExit.then U
abbrev ci(x:Int):C U:= .int .i64 x
abbrev L2(e:List (Nat × V U))(m:List (Name × List (C U))):LSt U:=⟨e,m,[]⟩
def lvl(l:List (List Nat × List Nat)):Zh U:=fun i=> ((l.getD i ([],[])).1.map fun k=> (k,[]),(l.getD i ([],[])).2.map fun k=> (.loc k,[]))
abbrev zc0:List (C U):=[.int .u8 0,.int .u8 0,.int .u8 0,.int .u8 0,.int .u8 0,.int .u8 0,.int .u8 0,.int .u8 0]
abbrev zc1:List (C U):=[.int .i64 0,.int .i64 0,.nils,.nils,.int .i64 0,.nils,.nils,.nils,.nils,.int .i64 0,.nils]
abbrev zc2:List (C U):=[.int .i64 0,.int .i64 0,.nils,.int .i64 0,.int .i64 0,.nils,.nils,.int .i64 0,.nils,.nils,.nils,.nils,.int .i64 0,.nils]
end Go.AM.Ytpjenobkibfpcaa
namespace Go.AM.Ytpjenobkibfpcaa
open Go.AM Go.Proofs Go.Proofs.Ytpjenobkibfpcaa Go.ChangeShapes Go.WideShapes Go.RowKit
theorem own:ownKnob Try.prog.godebug=none:=by kernel_rfl
theorem Zt5:laidOutB Try.prog=true:=by kernel_rfl
theorem Zmh:TreeTypes cfg:=⟨rfl,rfl,⟨_,rfl⟩,⟨_,rfl⟩,⟨_,rfl,rfl⟩,⟨_,_,rfl,rfl⟩,⟨_,_,rfl,rfl,rfl⟩,⟨_,_,rfl,rfl,rfl⟩⟩
theorem Znd:EditTypes cfg:=⟨⟨_,rfl,rfl⟩,⟨_,_,rfl,rfl⟩,⟨_,_,rfl,rfl⟩,⟨_,_,rfl,rfl⟩,⟨_,_,rfl,rfl⟩,⟨_,rfl,rfl⟩,⟨_,_,rfl,rfl⟩,rfl,⟨_,rfl,rfl⟩,⟨_,_,rfl,rfl⟩,⟨_,_,rfl,rfl⟩,⟨_,_,rfl,rfl,rfl⟩,rfl,⟨_,rfl,rfl⟩,⟨_,_,rfl,rfl⟩,rfl,rfl,⟨_,_,rfl,rfl,rfl⟩,⟨_,_,rfl,rfl,rfl⟩,⟨_,_,rfl,rfl⟩,⟨_,_,rfl,rfl,rfl⟩⟩
theorem ZlU{H:Type}{henc:TypeId × Value→H}:ZxG henc Try.prog cfg (aEl .edit) 31 inE:=Ztj Zo rfl ⟨_,_,rfl⟩ (fun _ n cs h=> Zs3 Zo Zmh Znd n cs h)
end Go.AM.Ytpjenobkibfpcaa
namespace Go.AM.Ytpjenobkibfpcaa
open Go.AM Go.Proofs
noncomputable section
def Zjx:ArgL (Tree × Int × Int × Unit):=(.cons (aEl .tree) (.cons (J3 .i64) (.cons (J3 .i64) .nil)))
def Z85(a:Tree × Int × Int × Unit):Prop:=JK a.1∧0≤a.2.1∧a.2.1≤4611686018427387904∧-1≤a.2.2.1∧a.2.2.1≤4611686018427387904
def ZmO(a:Tree × Int × Int × Unit):Nat:=Zq a.1
def Zh1(a:Tree × Int × Int × Unit):V U:= .c (ci (ZH a.1 a.2.1 a.2.2.1))
def Z5d:Fs U:=fs Zjx (fun a=> [Z85 a]) Zh1
def Zr7:ArgL (Tree × Unit):=(.cons (aEl .tree) .nil)
def Zku(a:Tree × Unit):Prop:=JK a.1
def Zuq(a:Tree × Unit):V U:= .c (.bool (decide (0≤ZH a.1 80 3000)))
def ZbP:Fs U:=fs Zr7 (fun a=> [Zku a]) Zuq
def ZlQ:ArgL (List Int × Unit):=(.cons (aSl .u64) .nil)
def Zcs(a:List Int × Unit):Prop:=a.1.length≤1000000000000
def ZoZ(a:List Int × Unit):V U:= .c (sU .u64 a.1 .unk)
def Z7U:Fs U:=fs ZlQ (fun a=> [Zcs a]) ZoZ
def ZlG:ArgL (List Int × List Int × Unit):=(.cons (aSl .u64) (.cons (aSl .u64) .nil))
def Zcr(a:List Int × List Int × Unit):Prop:=a.1.length≤1000000000000
def Zcc(a:List Int × List Int × Unit):V U:= .c (.bool (decide (a.1=a.2.1)))
def Z7O:Fs U:=fs ZlG (fun a=> [Zcr a]) Zcc
def ZlF:ArgL (Tree × Int × Unit):=(.cons (aEl .tree) (.cons (J3 .i64) .nil))
def Z9n(a:Tree × Int × Unit):Prop:=True
def Zfh(a:Tree × Int × Unit):V U:= .c (.int .u64 (JO a.1 a.2.1))
def Z1N:Fs U:=fs ZlF (fun a=> [Z9n a]) Zfh
def ZqT:ArgL (Tree × Int × Unit):=(.cons (aEl .tree) (.cons (J3 .i64) .nil))
def Ze9(a:Tree × Int × Unit):Prop:=True
def Zkd(a:Tree × Int × Unit):V U:= .agg (enc .tree (Z00 a.1 a.2.1))
def Z4n:Fs U:=fs ZqT (fun a=> [Ze9 a]) Zkd
def Zjy:ArgL (Tree × Unit):=(.cons (aEl .tree) .nil)
def Z0W(a:Tree × Unit):Prop:=Zq a.1≤1000000000000
def ZmP(a:Tree × Unit):Nat:=Zq a.1
def Ze3(a:Tree × Unit):V U:= .agg (enc .tree (Z7 a.1))
def Z0o:Fs U:=fs Zjy (fun a=> [Z0W a]) Ze3
def Zgi:ArgL (Tree × Tree × Unit):=(.cons (aEl .tree) (.cons (aEl .tree) .nil))
def Z1G(a:Tree × Tree × Unit):Prop:=Zq a.1≤1000000000000∧Zq a.2.1≤1000000000000
def Zej(a:Tree × Tree × Unit):Nat:=Zq a.1+Zq a.2.1
def Z76(a:Tree × Tree × Unit):V U:= .c (.bool (Jo (Z7 a.1) (Z7 a.2.1)))
def Jg:Fs U:=fs Zgi (fun a=> [Z1G a]) Z76
def Zja(N:Nat):List (FuncId × Fs U):=(78,fs Zjx (fun a=> [Z85 a,ZmO a < N]) Zh1) ::[]
def ZsU:Zh U:=lvl [([1,2,3],[3]),([1,2,3],[3]),([1,2,3,19],[3]),([6],[]),([1,2,3,7],[3]),([1,2,3,7,28],[3]),([1,2,3,7],[3]),([1,2,3,7],[3]),([6],[])]
def Z8E(t:Tree)(d l x2 x7:Int):LSt U:=(L2 [(1,.c (ci d)),(2,.c (ci x2)),(3,.ptr (.loc 3) 0),(7,.c (ci x7))] [(.loc 3,(enc .tree t))])
abbrev A78(N:Nat)(p:List Nat):=AW (Z1 (Zja N)) Try.f78 ZsU p
abbrev S78(N:Nat)(p:List Nat):=SW (Z1 (Zja N)) Try.f78 ZsU p
theorem ZzH(N:Nat)(t:Tree)(d l:Int)(Q:QT)(h:let z0:=bif (d==0) then true else (decide (((((l - 1):Int) - (t.words.length:Int)):Int) < 0));((InR (l - 1))∧(InR (((l - 1):Int) - (t.words.length:Int)))∧((Tr ((!(d==0))=true))∧((d==0)=false→(!(d==0))=true)∧((z0=true→(Q .ret (L2 [(6,.c (ci (-1)))] [])))∧(z0=false→(Zl (A78 N [1,1,1,0,1,0,0]) (Z8E t d l (((l - 1):Int) - (t.words.length:Int)) 0) (xB 0 (S78 N [1,1,1,1] Q)))))))):
  A78 N [] (L2 [(0,.agg (enc .tree t)),(1,.c (ci d)),(2,.c (ci l))] []) Q:=
 Eq.mpr (by kernel_rfl) h
theorem Zrz(N:Nat)(t:Tree)(d l x2 x7:Int)(N0:NT)(Q:QT)(h:let z2:=t.kids.getD x7.toNat Tree.nil;let z1:=decide (x7 < (t.kids.length:Int));let z3:=bif z1 then (decide ((0:Int)≤x2)) else false;let z0:=Tree.mk (Tree.kind z2) (Tree.words z2) (Tree.kids z2);(Tr (z1=true))∧(Tr (z1=true))∧((z3=true→((0:Int)≤x7∧x7 < (t.kids.length:Int))∧(InR (d - 1))∧(Z85 (z0,(d - 1),x2,()))∧(ZmO (z0,(d - 1),x2,()) < N)∧((InR (x7+1))∧(N0 (Z8E t d l (ZH z0 (d - 1) x2) (x7+1)))))∧(z3=false→(Q .ret (L2 [(6,.c (ci x2))] []))))):
  A78 N [1,1,1,0,1,0,0] (Z8E t d l x2 x7) (xT N0 (xB 0 (S78 N [1,1,1,1] Q))):=
 Eq.mpr (by kernel_rfl) h
def Zxf(N:Nat)(t:Tree)(d l:Int):Prop:=AW (Z1 (Zja N)) Try.f78 ZsU [] (Zn (Zjx.can (t,d,l,())) []) (EQ Try.f78 (Zh1 (t,d,l,())) [])
theorem Zvr(hb:∀ (N:Nat) (t:Tree) (d:Int) (l:Int) (_:Unit),Z85 (t,d,l,())→ZmO (t,d,l,()) < N+1→Zxf N t d l):CT 78 Z5d:=
 Jw (μ:=ZmO) (l:=[]) Zo rfl trivial ZsU Try.func78 rfl rfl 3 (fun _=> rfl) (by decide) (fun N ⟨t,d,l,_⟩=> hb N t d l ())
def Zql:List (FuncId × Fs U):=[(78,Z5d)]
def ZvZ:Zh U:=lvl [([1],[1]),([2],[])]
abbrev A36(p:List Nat):=AW (Z1 Zql) Try.f36 ZvZ p
theorem ZA0(t:Tree)(Q:QT)(h:let z0:=Tree.mk t.kind t.words t.kids;((Z85 (z0,80,3000,()))∧(Q .ret (L2 [(2,.c (.bool (decide ((0:Int)≤(ZH z0 80 3000)))))] [])))):
  A36 [] (L2 [(0,.agg (enc .tree t))] []) Q:=
 Eq.mpr (by kernel_rfl) h
def Zxy(t:Tree):Prop:=AW (Z1 Zql) Try.f36 ZvZ [] (Zn (Zr7.can (t,())) []) (EQ Try.f36 (Zuq (t,())) [])
theorem ZvF(c78:CT 78 Z5d)(hb:∀ (t:Tree) (_:Unit),Zku (t,())→Zxy t):CT 36 ZbP:=
 Z6 (l:=[(78,Z5d)]) Zo rfl (⟨c78,trivial⟩) ZvZ Try.func36 rfl rfl 1 (fun _=> rfl) (by decide) (fun ⟨t,_⟩=> hb t ())
def Zlh:List (FuncId × Fs U):=[]
def Zq2:Zh U:=lvl [([0],[]),([0,4],[]),([2],[]),([2],[])]
abbrev ZAs(p:List Nat):=AW (Z1 Zlh) Try.f109 Zq2 p
theorem Zyu(l:List Int)(Q:QT)(h:(((l=[])→(Q .ret (L2 [(2,.c (.nils))] [])))∧(True→((([]:List Int).length+l.length)*8≤140737488355328)∧(Q .ret (L2 [(2,.c (sU .u64 (([]:List Int)++l) (.own (.e 2 0))))] []))))):
  ZAs [] (L2 [(0,.c (sU .u64 l .unk))] []) Q:=
 Eq.mpr (by kernel_rfl) h
def Zu4(l:List Int):Prop:=AW (Z1 Zlh) Try.f109 Zq2 [] (Zn (ZlQ.can (l,())) []) (EQ Try.f109 (ZoZ (l,())) [])
theorem ZsK(hb:∀ (l:List Int) (_:Unit),Zcs (l,())→Zu4 l):CT 109 Z7U:=
 Z6 (l:=[]) Zo rfl trivial Zq2 Try.func109 rfl rfl 1 (fun _=> rfl) (by decide) (fun ⟨l,_⟩=> hb l ())
def ZfI:List (FuncId × Fs U):=[]
def ZkI:Zh U:=lvl [([0,1],[]),([0,1,10],[]),([4],[]),([0,1,12,13],[]),([0,1,12,13,14],[]),([0,1,5,12,13],[]),([0,1,12,13,24],[]),([4],[]),([0,1,12,13],[]),([4],[])]
def Z6m(a b:List Int)(x13:Int):LSt U:=(L2 [(0,.c (sU .u64 a .unk)),(1,.c (sU .u64 b .unk)),(12,.c (ci (a.length:Int))),(13,.c (ci x13))] [])
abbrev ZxI(p:List Nat):=AW (Z1 ZfI) Try.f148 ZkI p
abbrev Zzf(p:List Nat):=SW (Z1 ZfI) Try.f148 ZkI p
theorem Zya(a b:List Int)(Q:QT)(h:let z0:=((a.length:Int):Int) !=(b.length:Int);((z0=true→(Q .ret (L2 [(4,.c (.bool false))] [])))∧(z0=false→(Zl (ZxI [1,1,0,1,0,0]) (Z6m a b 0) (xB 0 (Zzf [1,1,1] Q)))))):
  ZxI [] (L2 [(0,.c (sU .u64 a .unk)),(1,.c (sU .u64 b .unk))] []) Q:=
 Eq.mpr (by kernel_rfl) h
theorem ZnU(a b:List Int)(x13:Int)(N0:NT)(Q:QT)(h:let z1:=decide (x13 < (a.length:Int));let z0:=((a.getD x13.toNat (0:Int)):Int) !=(b.getD x13.toNat (0:Int));((z1=true→(((0:Int)≤x13∧x13 < (a.length:Int))∧((0:Int)≤x13∧x13 < (b.length:Int))∧((z0=true→(Q .ret (L2 [(4,.c (.bool false))] [])))∧(z0=false→(InR (x13+1))∧(N0 (Z6m a b (x13+1)))))))∧(z1=false→(Q .ret (L2 [(4,.c (.bool true))] []))))):
  ZxI [1,1,0,1,0,0] (Z6m a b x13) (xT N0 (xB 0 (Zzf [1,1,1] Q))):=
 Eq.mpr (by kernel_rfl) h
def ZtK(a b:List Int):Prop:=AW (Z1 ZfI) Try.f148 ZkI [] (Zn (ZlG.can (a,b,())) []) (EQ Try.f148 (Zcc (a,b,())) [])
theorem Zsw(hb:∀ (a:List Int) (b:List Int) (_:Unit),Zcr (a,b,())→ZtK a b):CT 148 Z7O:=
 Z6 (l:=[]) Zo rfl trivial ZkI Try.func148 rfl rfl 2 (fun _=> rfl) (by decide) (fun ⟨a,b,_⟩=> hb a b ())
def Zl8:List (FuncId × Fs U):=[]
def ZpT:Zh U:=lvl [([1,2],[2]),([1,2,13],[2]),([4],[]),([4],[])]
abbrev ZAn(p:List Nat):=AW (Z1 Zl8) Try.f149 ZpT p
theorem Zy9(t:Tree)(i:Int)(Q:QT)(h:let z1:= !(decide (i < 0));let z0:=bif (decide (i < 0)) then true else (decide (((t.words.length:Int):Int)≤i));((Tr (z1=true))∧(Tr (z1=true))∧(Tr (z1=true))∧(Tr (z1=true))∧((decide (i < 0))=false→z1=true)∧((z0=true→(Q .ret (L2 [(4,.c (.int .u64 0))] [])))∧(z0=false→((0:Int)≤i∧i < (t.words.length:Int))∧(Q .ret (L2 [(4,.c (.int .u64 (t.words.getD i.toNat (0:Int))))] [])))))):
  ZAn [] (L2 [(0,.agg (enc .tree t)),(1,.c (ci i))] []) Q:=
 Eq.mpr (by kernel_rfl) h
def ZtJ(t:Tree)(i:Int):Prop:=AW (Z1 Zl8) Try.f149 ZpT [] (Zn (ZlF.can (t,i,())) []) (EQ Try.f149 (Zfh (t,i,())) [])
theorem Zsv(hb:∀ (t:Tree) (i:Int) (_:Unit),Z9n (t,i,())→ZtJ t i):CT 149 Z1N:=
 Z6 (l:=[]) Zo rfl trivial ZpT Try.func149 rfl rfl 2 (fun _=> rfl) (by decide) (fun ⟨t,i,_⟩=> hb t i ())
def Zqd:List (FuncId × Fs U):=[]
def ZvO:Zh U:=lvl [([1,2,4],[2,4]),([1,2,4,13],[2,4]),([4],[4]),([4],[4])]
abbrev A91(p:List Nat):=AW (Z1 Zqd) Try.f91 ZvO p
theorem ZzA(t:Tree)(i:Int)(Q:QT)(h:let z1:= !(decide (i < 0));let z0:=bif (decide (i < 0)) then true else (decide (((t.kids.length:Int):Int)≤i));((Tr (z1=true))∧(Tr (z1=true))∧(Tr (z1=true))∧(Tr (z1=true))∧((decide (i < 0))=false→z1=true)∧((z0=true→(Q .ret (L2 [(4,.ptr (.loc 4) 0)] [(.loc 4,[ci 0,.nils,.nils])])))∧(z0=false→((0:Int)≤i∧i < (t.kids.length:Int))∧(Q .ret (L2 [(4,.ptr (.loc 4) 0)] [(.loc 4,(enc .tree (t.kids.getD i.toNat Tree.nil)))])))))):
  A91 [] (L2 [(0,.agg (enc .tree t)),(1,.c (ci i))] []) Q:=
 Eq.mpr (by kernel_rfl) h
def Zx8(t:Tree)(i:Int):Prop:=AW (Z1 Zqd) Try.f91 ZvO [] (Zn (ZqT.can (t,i,())) []) (EQ Try.f91 (Zkd (t,i,())) [])
theorem Zvm(hb:∀ (t:Tree) (i:Int) (_:Unit),Ze9 (t,i,())→Zx8 t i):CT 91 Z4n:=
 Z6 (l:=[]) Zo rfl trivial ZvO Try.func91 rfl rfl 2 (fun _=> rfl) (by decide) (fun ⟨t,i,_⟩=> hb t i ())
def Zjb(N:Nat):List (FuncId × Fs U):=(71,fs Zjy (fun a=> [Z0W a,ZmP a < N]) Ze3) ::[(109,Z7U)]
def ZsV:Zh U:=fun i=> match i with
 | 0=> ([(1,[]),(2,[])],[(.loc 1,[]),(.loc 2,[])])
 | 1=> ([(1,[]),(2,[]),(8,[])],[(.loc 1,[]),(.loc 2,[])])
 | 2=> ([(2,[])],[(.loc 2,[])])
 | 3=> ([(1,[]),(2,[]),(3,[])],[(.loc 1,[]),(.loc 2,[]),(.loc 3,[])])
 | 4=> ([(1,[]),(2,[]),(3,[]),(17,[]),(18,[]),(19,[])],[(.loc 1,[]),(.loc 2,[]),(.loc 3,[.any,.any,.own .tree])])
 | 5=> ([(1,[]),(2,[]),(3,[]),(17,[]),(18,[]),(19,[]),(20,[])],[(.loc 1,[]),(.loc 2,[]),(.loc 3,[])])
 | 6=> ([(1,[]),(2,[]),(3,[]),(5,[]),(17,[]),(18,[]),(19,[])],[(.loc 1,[]),(.loc 2,[]),(.loc 3,[]),(.loc 5,[])])
 | 7=> ([(1,[]),(2,[]),(3,[]),(17,[]),(18,[]),(19,[])],[(.loc 1,[]),(.loc 2,[]),(.loc 3,[])])
 | 8=> ([(1,[]),(2,[]),(3,[]),(17,[]),(18,[]),(19,[])],[(.loc 1,[]),(.loc 2,[]),(.loc 3,[.any,.any,.own .tree])])
 | 9=> ([(2,[]),(3,[]),(33,[])],[(.loc 2,[]),(.loc 3,[.any,.any,.unk .tree])])
 | 10=> ([(2,[]),(3,[]),(33,[]),(48,[])],[(.loc 2,[]),(.loc 3,[.any,.any,.unk .tree])])
 | 11=> ([(2,[]),(3,[]),(33,[])],[(.loc 2,[]),(.loc 3,[.any,.any,.unk .tree])])
 | 12=> ([(2,[]),(3,[]),(33,[]),(48,[]),(72,[])],[(.loc 2,[]),(.loc 3,[])])
 | 13=> ([(2,[]),(3,[]),(33,[]),(48,[])],[(.loc 2,[]),(.loc 3,[.any,.any,.unk .tree])])
 | 14=> ([(2,[])],[(.loc 2,[])])
 | _=> ([],[])
def Z8H(t:Tree)(x19:Int)(ml3_2:List Tree):LSt U:=(L2 [(1,.ptr (.loc 1) 0),(2,.ptr (.loc 2) 0),(3,.ptr (.loc 3) 0),(17,.c (sU .tree t.kids .unk)),(18,.c (ci (t.kids.length:Int))),(19,.c (ci x19))] [(.loc 1,(enc .tree t)),(.loc 2,[ci 0,.nils,.nils]),(.loc 3,[ci t.kind,sU .u64 t.words .unk,sU .tree ml3_2 (.own (.l 3 2))])])
def Z8G(t:Tree)(ml3_2:List Tree)(ml3_1_a:List Int):LSt U:=(L2 [(2,.ptr (.loc 2) 0),(3,.ptr (.loc 3) 0),(33,.c (.bool ((t.kind:Int)==1)))] [(.loc 2,[ci 0,.nils,.nils]),(.loc 3,[ci t.kind,sU .u64 ml3_1_a .unk,sU .tree ml3_2 .unk])])
def Z8F(t:Tree)(ml3_1_a:List Int)(ml3_2_b:List Tree):LSt U:=(L2 [(2,.ptr (.loc 2) 0),(3,.ptr (.loc 3) 0),(33,.c (.bool ((t.kind:Int)==1))),(48,.c (.bool (bif (decide ((0:Int) < (ml3_1_a.length:Int))) then (((List.getD ml3_1_a (Int.toNat (((ml3_1_a.length:Int):Int) - 1)) (0:Int)):Int)==0) else false)))] [(.loc 2,[ci 0,.nils,.nils]),(.loc 3,[ci t.kind,sU .u64 ml3_1_a .unk,sU .tree ml3_2_b .unk])])
abbrev A71(N:Nat)(p:List Nat):=AW (Z1 (Zjb N)) Try.f71 ZsV p
abbrev S71(N:Nat)(p:List Nat):=SW (Z1 (Zjb N)) Try.f71 ZsV p
theorem ZzI(N:Nat)(t:Tree)(Q:QT)(h:(((t.kind==0)=true→(Q .ret (L2 [(2,.ptr (.loc 2) 0)] [(.loc 2,[ci 0,.nils,.nils])])))∧((t.kind==0)=false→(Zcs (t.words,()))∧(Zl (A71 N [1,1,1,0,1,0,0]) (Z8H t 0 []) (xB 0 (S71 N [1,1,1,1] Q)))))):
  A71 N [] (L2 [(0,.agg (enc .tree t))] []) Q:=
 Eq.mpr (by kernel_rfl) h
theorem ZrC(N:Nat)(t:Tree)(x19:Int)(ml3_2:List Tree)(N0:NT)(Q:QT)(h:∀ y_1,y_1=(t.kids.getD x19.toNat Tree.nil)→∀ y_2,y_2=y_1→∀ y_3,y_3=(Z7 y_2)→let z0:=decide (x19 < (t.kids.length:Int));((z0=true→((0:Int)≤x19∧x19 < (t.kids.length:Int))∧((Z0W (y_2,()))∧(ZmP (y_2,()) < N)∧((ml3_2.length+([y_3]).length)*56≤140737488355328)∧((InR (x19+1))∧(N0 (Z8H t (x19+1) (ml3_2++([y_3])))))))∧(z0=false→(((t.kind==1)=true→Zl (A71 N [1,1,1,1,0,1,0,0,0,0]) (Z8G t ml3_2 t.words) (xB 2 (S71 N [1,1,1,1,0,1,0,1] (S71 N [1,1,1,1,1] Q))))∧((t.kind==1)=false→(Q .ret (L2 [(2,.ptr (.loc 2) 0)] [(.loc 2,[ci t.kind,sU .u64 t.words .unk,sU .tree ml3_2 .unk])]))))))):
  A71 N [1,1,1,0,1,0,0] (Z8H t x19 ml3_2) (xT N0 (xB 0 (S71 N [1,1,1,1] Q))):=
 Eq.mpr (by kernel_rfl) (h _ rfl _ (Zi _) _ (Zi _))
theorem ZrB(N:Nat)(t:Tree)(ml3_2:List Tree)(ml3_1_a:List Int)(N1:NT)(Q:QT)(h:let z0:=decide ((0:Int) < (ml3_1_a.length:Int));let z1:=bif z0 then (((List.getD ml3_1_a (Int.toNat (((ml3_1_a.length:Int):Int) - 1)) (0:Int)):Int)==0) else false;(Tr (z0=true))∧(Tr (z0=true))∧(Tr (z0=true))∧(Tr (z0=true))∧(z0=true→InR (((ml3_1_a.length:Int):Int) - 1))∧(Tr (z0=true))∧(Tr (z0=true))∧(z0=true→(0:Int)≤(((ml3_1_a.length:Int):Int) - 1)∧(((ml3_1_a.length:Int):Int) - 1) < (ml3_1_a.length:Int))∧(Tr (z0=true))∧(Tr (z0=true))∧(Tr (z0=true))∧((z1=true→(InR (((ml3_1_a.length:Int):Int) - 1))∧((0:Int)≤(((ml3_1_a.length:Int):Int) - 1)∧(((ml3_1_a.length:Int):Int) - 1)≤(ml3_1_a.length:Int))∧(N1 (Z8G t ml3_2 (List.take (Int.toNat (((ml3_1_a.length:Int):Int) - 1)) ml3_1_a))))∧(z1=false→Zl (A71 N [1,1,1,1,0,1,0,1,0,0]) (Z8F t ml3_1_a ml3_2) (xB 4 (S71 N [1,1,1,1,1] Q))))):
  A71 N [1,1,1,1,0,1,0,0,0,0] (Z8G t ml3_2 ml3_1_a) (xT N1 (xB 2 (S71 N [1,1,1,1,0,1,0,1] (S71 N [1,1,1,1,1] Q)))):=
 Eq.mpr (by kernel_rfl) h
theorem ZrA(N:Nat)(t:Tree)(ml3_1_a:List Int)(ml3_2_b:List Tree)(N2:NT)(Q:QT)(h:let z0:=decide ((0:Int) < (ml3_2_b.length:Int));let z1:=bif z0 then (((Tree.kind (List.getD ml3_2_b (Int.toNat (((ml3_2_b.length:Int):Int) - 1)) Tree.nil)):Int)==0) else false;(Tr (z0=true))∧(Tr (z0=true))∧(Tr (z0=true))∧(Tr (z0=true))∧(z0=true→InR (((ml3_2_b.length:Int):Int) - 1))∧(Tr (z0=true))∧(Tr (z0=true))∧(z0=true→(0:Int)≤(((ml3_2_b.length:Int):Int) - 1)∧(((ml3_2_b.length:Int):Int) - 1) < (ml3_2_b.length:Int))∧(Tr (z0=true))∧(Tr (z0=true))∧(Tr (z0=true))∧(Tr (z0=true))∧((z1=true→(InR (((ml3_2_b.length:Int):Int) - 1))∧((0:Int)≤(((ml3_2_b.length:Int):Int) - 1)∧(((ml3_2_b.length:Int):Int) - 1)≤(ml3_2_b.length:Int))∧(N2 (Z8F t ml3_1_a (List.take (Int.toNat (((ml3_2_b.length:Int):Int) - 1)) ml3_2_b))))∧(z1=false→(Q .ret (L2 [(2,.ptr (.loc 2) 0)] [(.loc 2,[ci t.kind,sU .u64 ml3_1_a .unk,sU .tree ml3_2_b .unk])]))))):
  A71 N [1,1,1,1,0,1,0,1,0,0] (Z8F t ml3_1_a ml3_2_b) (xT N2 (xB 4 (S71 N [1,1,1,1,1] Q))):=
 Eq.mpr (by kernel_rfl) h
def Zxg(N:Nat)(t:Tree):Prop:=AW (Z1 (Zjb N)) Try.f71 ZsV [] (Zn (Zjy.can (t,())) []) (EQ Try.f71 (Ze3 (t,())) [])
theorem Zvs(ZwG:CT 109 Z7U)(hb:∀ (N:Nat) (t:Tree) (_:Unit),Z0W (t,())→ZmP (t,()) < N+1→Zxg N t):CT 71 Z0o:=
 Jw (μ:=ZmP) (l:=[(109,Z7U)]) Zo rfl (⟨ZwG,trivial⟩) ZsV Try.func71 rfl rfl 1 (fun _=> rfl) (by decide) (fun N ⟨t,_⟩=> hb N t ())
def ZfQ(N:Nat):List (FuncId × Fs U):=(106,fs Zgi (fun a=> [Z1G a,Zej a < N]) Z76) ::[(148,Z7O),(149,Z1N),(91,Z4n)]
def ZkQ:Zh U:=lvl [([2,3],[2,3]),([2,3,16],[2,3]),([4],[]),([2,3,41],[2,3]),([4],[]),([2,3,48,49],[2,3]),([2,3,48,49,50],[2,3]),([2,3,5,48,49],[2,3]),([2,3,48,49,58],[2,3]),([4],[]),([2,3,48,49],[2,3]),([2,3,66,67],[2,3]),([2,3,66,67,68],[2,3]),([2,3,6,66,67],[2,3]),([2,3,66,67,77],[2,3]),([4],[]),([2,3,66,67],[2,3]),([4],[])]
def Z6v(a b:Tree)(x49:Int):LSt U:=(L2 [(2,.ptr (.loc 2) 0),(3,.ptr (.loc 3) 0),(48,.c (ci (if ((a.words.length:Int):Int) < (b.words.length:Int) then (b.words.length:Int) else (a.words.length:Int)))),(49,.c (ci x49))] [(.loc 2,(enc .tree a)),(.loc 3,(enc .tree b))])
def Z6u(a b:Tree)(x67_a:Int):LSt U:=(L2 [(2,.ptr (.loc 2) 0),(3,.ptr (.loc 3) 0),(66,.c (ci (if ((a.kids.length:Int):Int) < (b.kids.length:Int) then (b.kids.length:Int) else (a.kids.length:Int)))),(67,.c (ci x67_a))] [(.loc 2,(enc .tree a)),(.loc 3,(enc .tree b))])
abbrev Zrm(N:Nat)(p:List Nat):=AW (Z1 (ZfQ N)) Try.f106 ZkQ p
abbrev Zto(N:Nat)(p:List Nat):=SW (Z1 (ZfQ N)) Try.f106 ZkQ p
theorem Zyx(N:Nat)(a b:Tree)(Q:QT)(h:let z3:=a.kind !=b.kind;let z4:=bif z3 then true else (a.kind==0);let z0:=((a.kids.length:Int):Int) !=(b.kids.length:Int);let z2:=bif (a.kind !=1) then (bif z0 then true else (!(decide (a.words=b.words)))) else false;let z1:=(a.kind !=1) && (!z0);((Tr ((!z3)=true))∧(Tr ((!z3)=true))∧(z3=false→(!z3)=true)∧((z4=true→(Q .ret (L2 [(4,.c (.bool (a.kind==b.kind)))] [])))∧(z4=false→(Tr ((a.kind !=1)=true))∧(Tr ((a.kind !=1)=true))∧(Tr ((a.kind !=1)=true))∧(Tr ((a.kind !=1)=true))∧(Tr ((a.kind !=1)=true))∧(Tr ((a.kind !=1)=true))∧(Tr ((a.kind !=1)=true))∧(Tr (z1=true))∧(Tr (z1=true))∧(Tr (z1=true))∧(Tr (z1=true))∧(z1=true→Zcr (a.words,b.words,()))∧(Tr (z1=true))∧((a.kind !=1)=true→(True→(a.kind !=1)=true))∧((a.kind !=1)=true→(z0=false→z1=true))∧(Tr ((a.kind !=1)=true))∧((z2=true→(Q .ret (L2 [(4,.c (.bool false))] [])))∧(z2=false→(Zl (Zrm N [1,1,1,0,1,0,0]) (Z6v a b 0) (xB 0 (Zto N [1,1,1,1] Q))))))))):
  Zrm N [] (L2 [(0,.agg (enc .tree a)),(1,.agg (enc .tree b))] []) Q:=
 Eq.mpr (by kernel_rfl) h
theorem Zod(N:Nat)(a b:Tree)(x49:Int)(N0:NT)(Q:QT)(h:let z3:=Tree.mk b.kind b.words b.kids;let z2:=Tree.mk a.kind a.words a.kids;let z1:=((JO z2 x49):Int) !=(JO z3 x49);let z0:=decide (x49 < (if ((a.words.length:Int):Int) < (b.words.length:Int) then (b.words.length:Int) else (a.words.length:Int)));((z0=true→((Z9n (z2,x49,()))∧(Z9n (z3,x49,()))∧((z1=true→(Q .ret (L2 [(4,.c (.bool false))] [])))∧(z1=false→(InR (x49+1))∧(N0 (Z6v a b (x49+1)))))))∧(z0=false→(Zl (Zrm N [1,1,1,1,0,1,0,0]) (Z6u a b 0) (xB 2 (Zto N [1,1,1,1,1] Q)))))):
  Zrm N [1,1,1,0,1,0,0] (Z6v a b x49) (xT N0 (xB 0 (Zto N [1,1,1,1] Q))):=
 Eq.mpr (by kernel_rfl) h
theorem Zoc(N:Nat)(a b:Tree)(x67_a:Int)(N1:NT)(Q:QT)(h:∀ y_1,y_1=a→∀ y_2,y_2=b→∀ y_3,y_3=(Z00 y_1 x67_a)→∀ y_4,y_4=(Z00 y_2 x67_a)→let z1:= !(Jo (Z7 y_3) (Z7 y_4));let z0:=decide (x67_a < (if ((a.kids.length:Int):Int) < (b.kids.length:Int) then (b.kids.length:Int) else (a.kids.length:Int)));((z0=true→((Ze9 (y_1,x67_a,()))∧(Ze9 (y_2,x67_a,()))∧(Z1G (y_3,y_4,()))∧(Zej (y_3,y_4,()) < N)∧((z1=true→(Q .ret (L2 [(4,.c (.bool false))] [])))∧(z1=false→(InR (x67_a+1))∧(N1 (Z6u a b (x67_a+1)))))))∧(z0=false→(Q .ret (L2 [(4,.c (.bool true))] []))))):
  Zrm N [1,1,1,1,0,1,0,0] (Z6u a b x67_a) (xT N1 (xB 2 (Zto N [1,1,1,1,1] Q))):=
 Eq.mpr (by kernel_rfl) (h _ (Zi _) _ (Zi _) _ (Zi _) _ (Zi _))
def Zu7(N:Nat)(a b:Tree):Prop:=AW (Z1 (ZfQ N)) Try.f106 ZkQ [] (Zn (Zgi.can (a,b,())) []) (EQ Try.f106 (Z76 (a,b,())) [])
theorem ZsL(Zwv:CT 148 Z7O)(Znq:CT 149 Z1N)(c91:CT 91 Z4n)(hb:∀ (N:Nat) (a:Tree) (b:Tree) (_:Unit),Z1G (a,b,())→Zej (a,b,()) < N+1→Zu7 N a b):CT 106 Jg:=
 Jw (μ:=Zej) (l:=[(148,Z7O),(149,Z1N),(91,Z4n)]) Zo rfl (⟨Zwv,Znq,c91,trivial⟩) ZkQ Try.func106 rfl rfl 2 (fun _=> rfl) (by decide) (fun N ⟨a,b,_⟩=> hb N a b ())
end
end Go.AM.Ytpjenobkibfpcaa
namespace Go.AM.Ytpjenobkibfpcaa
open Go.AM Go.Proofs
theorem vcU:(∀ {p q:Prop},(p→q→p∧q)=True)∧(∀ {p:Prop},(True∧p)=p)∧(∀ {p:Prop},(p∧True)=p)∧(∀ {p:Prop},(p→True)=True):=
 ⟨by intros;simp+contextual,by simp,by simp,by simp⟩
theorem ZbW:∀ {ks:List Tree} {i:Nat},JQ ks→i < ks.length→JK (ks.getD i Tree.nil)
 | t ::_,0,h,_=> by simp only [JQ] at h;exact h.1
 | _ ::r,i+1,h,hi=> by simp only [JQ] at h;exact ZbW (ks:=r) (i:=i) h.2 (by simpa using hi)
theorem Z2b:∀ {ks:List Tree} {i:Nat},i < ks.length→Zq (ks.getD i Tree.nil)≤Zg ks
 | t ::_,0,_=> by simp only [Zg,List.getD_cons_zero];omega
 | t ::r,i+1,h=> by
  have:=Z2b (ks:=r) (i:=i) (by simpa using h)
  simp only [Zg,List.getD_cons_succ]
  omega
mutual
theorem YT:∀ (t:Tree) (d l:Int),-1≤ZH t d l∧ZH t d l≤max l (-1)
 | .mk _ w ks,d,l=> by
  simp only [ZH]
  split
  ·omega
  ·have:=Z0E ks (d - 1) (l - 1 - w.length) (by omega)
   omega
theorem Z0E:∀ (ks:List Tree) (d l:Int),-1≤l→-1≤Zy ks d l∧Zy ks d l≤l
 | [],d,l,h=> by simp only [Zy];omega
 | t ::r,d,l,h=> by
  simp only [Zy]
  split
  ·omega
  ·have h1:=YT t d l
   have h2:=Z0E r d (ZH t d l) h1.1
   omega
end
theorem Zdr{ks:List Tree}{i:Nat}{d l:Int}(h:i < ks.length)(hl:0≤l):Zy (ks.drop i) d l=Zy (ks.drop (i+1)) d (ZH (ks.getD i Tree.nil) d l):=by
 rw [List.drop_eq_getElem_cons h]
 simp only [Zy]
 rw [if_neg (by omega)]
 simp [List.getD,h]
theorem c78:Contract Try.prog cfg 78 Z5d:=by
 refine Zvr ?_
 rintro N ⟨k,ws,ks⟩ d l _ ⟨hs,h1,h2,h3,h4⟩ hN
 simp only [JK,ZmO,Zq] at*
 refine ZzH N _ _ _ _ ?_;(try simp only [vcT,forall_eq])
 (simp only [vcS]);(try simp only [vcT])
 try (simp only [Tree.eta,Edit.eta,Tree.kind_mk,Tree.words_mk,Tree.kids_mk])
 refine ⟨by unfold InR;omega,by unfold InR;omega,fun hc=> ?_,fun hc=> ?_⟩
 ·have e:ZH (.mk k ws ks) d l= -1:=by
   simp only [ZH]
   rw [if_pos (by omega)]
  simp only [Zh1,e]
  exact ⟨⟨rfl,⟨⟨rfl,rfl⟩,trivial⟩,trivial⟩,trivial⟩
 ·have e:ZH (.mk k ws ks) d l=Zy ks (d - 1) (l - 1 - ws.length):=by
   simp only [ZH]
   rw [if_neg (by omega)]
  simp only [Zh1,e]
  refine Ze (ι:=Int × Int) (fun p=> Z8E (.mk k ws ks) d l p.1 p.2) (fun p=> 0≤p.2∧p.2≤ks.length∧-1≤p.1∧p.1≤l∧Zy (ks.drop p.2.toNat) (d - 1) p.1=Zy ks (d - 1) (l - 1 - ws.length)) (fun p=> ((ks.length:Int) - p.2).toNat) (l - 1 - ws.length,0) rfl ⟨by omega,by omega,by omega,by omega,by simp⟩ ?_
  rintro ⟨l',i⟩ ⟨h5,h6,h7,h8,h9⟩
  dsimp only at*
  refine Zrz N _ _ _ _ _ _ _ ?_;(try simp only [vcT,forall_eq])
  (simp only [vcS]);(try simp only [vcT])
  try (simp only [Tree.eta,Edit.eta,Tree.kind_mk,Tree.words_mk,Tree.kids_mk])
  refine ⟨fun hc=> ?_,fun hc=> ?_⟩
  ·have hi:i.toNat < ks.length:=by omega
   have hr:=YT (ks.getD i.toNat Tree.nil) (d - 1) l'
   have hn:=Z2b hi
   have hd:=Zdr (d:=d - 1) hi hc.2
   refine ⟨by omega,by unfold InR;omega,⟨ZbW hs.2.2 hi,by dsimp only;omega,by dsimp only;omega,by dsimp only;omega,by dsimp only;omega⟩,by simp only [ZmO];omega,by unfold InR;omega,⟨(ZH (ks.getD i.toNat Tree.nil) (d - 1) l',i+1),rfl,⟨by dsimp only;omega,by dsimp only;omega,by dsimp only;omega,by dsimp only;omega,?_⟩,by dsimp only;omega⟩⟩
   dsimp only
   rw [←h9,hd]
   congr 2
   omega
  ·have e:Zy ks (d - 1) (l - 1 - ws.length)=l':=by
    rw [←h9]
    by_cases hi:i < ks.length
    ·rw [List.drop_eq_getElem_cons (by omega)]
     simp only [Zy]
     rw [if_pos (by omega)]
    ·rw [List.drop_eq_nil_of_le (by omega)]
     simp only [Zy]
   rw [e]
   exact ⟨⟨rfl,⟨⟨rfl,rfl⟩,trivial⟩,trivial⟩,trivial⟩
theorem c36:Contract Try.prog cfg 36 ZbP:=by
 refine ZvF c78 ?_
 intro t _ hp
 refine ZA0 _ _ ?_;(try simp only [vcT,forall_eq])
 try (simp only [Tree.eta,Edit.eta,Tree.kind_mk,Tree.words_mk,Tree.kids_mk])
 refine ⟨⟨hp,by dsimp only;omega,by dsimp only;omega,by dsimp only;omega,by dsimp only;omega⟩,?_⟩
 exact ⟨⟨rfl,⟨rfl,trivial⟩,trivial⟩,trivial⟩
theorem ZwG:Contract Try.prog cfg 109 Z7U:=by
 refine ZsK ?_
 intro l _ hp
 refine Zyu _ _ ?_;(try simp only [vcT,forall_eq])
 simp only [Zcs] at hp
 refine ⟨fun h=> ?_,⟨by simp only [List.length_nil];omega,?_⟩⟩
 ·subst h
  exact ⟨⟨rfl,⟨rfl,trivial⟩,trivial⟩,trivial⟩
 ·exact ⟨⟨rfl,⟨⟨rfl,trivial⟩,trivial⟩,trivial⟩,trivial⟩
theorem Zln{a b:List Int}{i:Int}(hi:0≤i)(ha:i < a.length)(hb:i < b.length):(a.drop i.toNat=b.drop i.toNat)↔(a.getD i.toNat 0=b.getD i.toNat 0∧a.drop (i+1).toNat=b.drop (i+1).toNat):=by
 have e:(i+1).toNat=i.toNat+1:=by omega
 rw [List.drop_eq_getElem_cons (by omega),List.drop_eq_getElem_cons (l:=b) (by omega),e]
 simp only [List.cons.injEq,List.getD,List.getElem?_eq_getElem (show i.toNat < a.length by omega),List.getElem?_eq_getElem (show i.toNat < b.length by omega),Option.getD_some]
theorem Znq:Contract Try.prog cfg 149 Z1N:=by
 refine Zsv ?_
 intro t i _ hp
 refine Zy9 _ _ _ ?_;(try simp only [vcT,forall_eq])
 (simp only [vcS]);(try simp only [vcT])
 (repeat (refine And.intro (by first | omega | (unfold InR;omega) | (dsimp only;omega)) ?_))
 refine ⟨fun hc=> ?_,fun hc=> ⟨by omega,?_⟩⟩
 ·have e:JO t i=0:=by
   unfold JO
   split
   ·try rfl
   ·rw [List.getD,List.getElem?_eq_none (by omega)]
    try rfl
  simp only [Zfh,e]
  exact ⟨⟨rfl,⟨⟨rfl,rfl⟩,trivial⟩,trivial⟩,trivial⟩
 ·have e:JO t i=t.words.getD i.toNat 0:=by
   unfold JO
   rw [if_neg (by omega)]
  simp only [Zfh,e]
  exact ⟨⟨rfl,⟨⟨rfl,rfl⟩,trivial⟩,trivial⟩,trivial⟩
theorem c91:Contract Try.prog cfg 91 Z4n:=by
 refine Zvm ?_
 intro t i _ hp
 refine ZzA _ _ _ ?_;(try simp only [vcT,forall_eq])
 (simp only [vcS]);(try simp only [vcT])
 (repeat (refine And.intro (by first | omega | (unfold InR;omega) | (dsimp only;omega)) ?_))
 refine ⟨fun hc=> ?_,fun hc=> ⟨by omega,?_⟩⟩
 ·have e:Z00 t i=Tree.nil:=by
   unfold Z00
   split
   ·try rfl
   ·rw [List.getD,List.getElem?_eq_none (by omega)]
    try rfl
  simp only [Zkd,e]
  exact ⟨⟨rfl,⟨⟨rfl,rfl⟩,⟨rfl,⟨rfl,trivial⟩⟩⟩,trivial⟩,trivial⟩
 ·have e:Z00 t i=t.kids.getD i.toNat Tree.nil:=by
   unfold Z00
   rw [if_neg (by omega)]
  simp only [Zkd,e]
  exact ⟨⟨rfl,⟨⟨rfl,rfl⟩,⟨rfl,trivial⟩,⟨rfl,trivial⟩,trivial⟩,trivial⟩,trivial⟩
theorem Zwv:Contract Try.prog cfg 148 Z7O:=by
 refine Zsw ?_
 intro a b _ hp
 simp only [Zcr] at hp
 refine Zya _ _ _ ?_;(try simp only [vcT,forall_eq])
 (simp only [vcS]);(try simp only [vcT])
 refine ⟨fun hc=> ?_,fun hc=> ?_⟩
 ·have e:decide (a=b)=false:=by
   simp only [decide_eq_false_iff_not]
   rintro rfl
   omega
  simp only [Zcc,e]
  exact ⟨⟨rfl,⟨rfl,trivial⟩,trivial⟩,trivial⟩
 ·have hl:a.length=b.length:=by omega
  refine Ze (ι:=Int) (fun p=> Z6m a b p) (fun p=> 0≤p∧p≤a.length∧(a=b↔a.drop p.toNat=b.drop p.toNat)) (fun p=> ((a.length:Int) - p).toNat) 0 rfl ⟨by omega,by omega,by simp⟩ ?_
  rintro i ⟨h1,h2,h3⟩
  refine ZnU _ _ _ _ _ ?_;(try simp only [vcT,forall_eq])
  (simp only [vcS]);(try simp only [vcT])
  refine ⟨fun hc=> ⟨by omega,by omega,fun hn=> ?_,fun he=> ⟨by unfold InR;omega,i+1,rfl,⟨by omega,by omega,?_⟩,by omega⟩⟩,fun hc=> ?_⟩
  ·have e:decide (a=b)=false:=by
    simp only [decide_eq_false_iff_not,h3]
    rw [Zln h1 hc (by omega)]
    exact fun h=> hn h.1
   simp only [Zcc,e]
   exact ⟨⟨rfl,⟨rfl,trivial⟩,trivial⟩,trivial⟩
  ·rw [h3,Zln h1 hc (by omega)]
   exact ⟨fun h=> h.2,fun h=> ⟨by simpa using he,h⟩⟩
  ·have e:decide (a=b)=true:=by
    simp only [decide_eq_true_eq,h3]
    rw [List.drop_eq_nil_of_le (by omega),List.drop_eq_nil_of_le (by omega)]
   simp only [Zcc,e]
   exact ⟨⟨rfl,⟨rfl,trivial⟩,trivial⟩,trivial⟩
theorem Jd{a b:Tree}:Jo a b=true↔a=b:=by simp [Jo]
theorem Z1p{a b:Tree}:Jo a b=false↔¬a=b:=by simp [Jo]
theorem ZD:∀ (ks:List Tree),ks.length≤Zg ks
 | []=> by simp [Zg]
 | t ::r=> by
  have:=ZD r
  have:1≤Zq t:=by cases t;simp only [Zq];omega
  simp only [Zg,List.length_cons]
  omega
theorem ZdK:∀ (l:List Int),trim (l++[0])=trim l
 | []=> rfl
 | x ::r=> by
  show (match trim (r++[0]) with | []=> if x=0 then [] else [x] | y ::s=> x ::y ::s)=_
  rw [ZdK r]
  try rfl
theorem ZjN{x:Int}(hx:x≠0):∀ (l:List Int),trim (l++[x])=l++[x]
 | []=> by simp [trim,hx]
 | y ::r=> by
  show (match trim (r++[x]) with | []=> if y=0 then [] else [y] | z ::s=> y ::z ::s)=_
  rw [ZjN hx r]
  cases r <;> rfl
theorem Zmk{l:List Int}{i:Int}(h0:0 < i)(hi:i≤l.length):l.take i.toNat=l.take (i - 1).toNat++[l.getD (i - 1).toNat 0]:=by
 have e:i.toNat=(i - 1).toNat+1:=by omega
 rw [e,List.take_add_one]
 simp only [List.getD,List.getElem?_eq_getElem (show (i - 1).toNat < l.length by omega),Option.toList,Option.getD_some]
theorem ZgA:∀ (l:List Int),(trim l).length≤l.length
 | []=> by simp [trim]
 | x ::r=> by
  have:=ZgA r
  simp only [trim]
  split
  ·split <;> simp
  ·rename_i h
   rw [h] at this
   simp at*
   omega
theorem Zbv:∀ (l:List Tree),Zg (Yf l)≤Zg l
 | []=> by simp [Yf]
 | x ::r=> by
  have:=Zbv r
  simp only [Yf]
  split
  ·split
   ·simp [Zg]
   ·simp [Zg]
  ·rename_i h
   rw [h] at this
   simp only [Zg] at*
   omega
mutual
theorem Je:∀ (t:Tree),Zq (Z7 t)≤Zq t
 | .mk k w ks=> by
  have h1:=ZcG ks
  have h2:=ZgA w
  have h3:=Zbv (Yl ks)
  simp only [Z7]
  split
  ·simp only [Tree.nil,Zq,Zg,List.length_nil];omega
  ·split
   ·simp only [Zq];omega
   ·simp only [Zq];omega
theorem ZcG:∀ (ks:List Tree),Zg (Yl ks)≤Zg ks
 | []=> by simp [Yl]
 | t ::r=> by
  have h1:=Je t
  have h2:=ZcG r
  simp only [Yl,Zg]
  omega
end
theorem Zeg:∀ (l:List Tree) (x:Tree),Yl (l++[x])=Yl l++[Z7 x]
 | [],x=> rfl
 | y ::r,x=> by simp only [List.cons_append,Yl,Zeg r x]
theorem Z2a:∀ (l:List Tree),(Yl l).length=l.length
 | []=> rfl
 | y ::r=> by simp only [Yl,List.length_cons,Z2a r]
theorem Zbu{x:Tree}(hx:x.kind=0):∀ (l:List Tree),Yf (l++[x])=Yf l
 | []=> by simp [Yf,hx]
 | y ::r=> by
  show (match Yf (r++[x]) with | []=> if y.kind=0 then [] else [y] | z ::s=> y ::z ::s)=_
  rw [Zbu hx r]
  try rfl
theorem ZgB{x:Tree}(hx:x.kind≠0):∀ (l:List Tree),Yf (l++[x])=l++[x]
 | []=> by simp [Yf,hx]
 | y ::r=> by
  show (match Yf (r++[x]) with | []=> if y.kind=0 then [] else [y] | z ::s=> y ::z ::s)=_
  rw [ZgB hx r]
  cases r <;> rfl
theorem ZbC{l:List Tree}{i:Int}(h0:0≤i)(hi:i < l.length):l.take (i+1).toNat=l.take i.toNat++[l.getD i.toNat Tree.nil]:=by
 have e:(i+1).toNat=i.toNat+1:=by omega
 rw [e,List.take_add_one]
 simp only [List.getD,List.getElem?_eq_getElem (show i.toNat < l.length by omega),Option.toList,Option.getD_some]
theorem ZkU{l:List Int}(h0:0 < (l.length:Int)):l=l.take ((l.length:Int) - 1).toNat++[l.getD ((l.length:Int) - 1).toNat 0]:=by
 have:=Zmk h0 (Int.le_refl _)
 rw [List.take_of_length_le (by omega)] at this
 exact this
theorem ZhH{l:List Tree}(h0:0 < (l.length:Int)):l=l.take ((l.length:Int) - 1).toNat++[l.getD ((l.length:Int) - 1).toNat Tree.nil]:=by
 have:=ZbC (l:=l) (i:=(l.length:Int) - 1) (by omega) (by omega)
 rw [List.take_of_length_le (by omega)] at this
 exact this
theorem Zme{l:List Int}(h0:0 < (l.length:Int))(hz:l.getD ((l.length:Int) - 1).toNat 0=0):trim (l.take ((l.length:Int) - 1).toNat)=trim l:=by
 have e:=ZdK (l.take ((l.length:Int) - 1).toNat)
 have h:=ZkU h0
 rw [hz] at h
 rw [←h] at e
 exact e.symm
theorem Zmg{l:List Int}(h:¬0 < (l.length:Int)∨¬l.getD ((l.length:Int) - 1).toNat 0=0):trim l=l:=by
 by_cases h0:0 < (l.length:Int)
 ·have e:=ZjN (x:=l.getD ((l.length:Int) - 1).toNat 0) (by rcases h with h | h;exact absurd h0 h;exact h) (l.take ((l.length:Int) - 1).toNat)
  rw [←ZkU h0] at e
  exact e
 ·have:l=[]:=List.eq_nil_of_length_eq_zero (by omega)
  subst this
  try rfl
theorem Zik{l:List Tree}(h0:0 < (l.length:Int))(hz:(l.getD ((l.length:Int) - 1).toNat Tree.nil).kind=0):Yf (l.take ((l.length:Int) - 1).toNat)=Yf l:=by
 have e:=Zbu hz (l.take ((l.length:Int) - 1).toNat)
 rw [←ZhH h0] at e
 exact e.symm
theorem Zim{l:List Tree}(h:¬0 < (l.length:Int)∨¬(l.getD ((l.length:Int) - 1).toNat Tree.nil).kind=0):Yf l=l:=by
 by_cases h0:0 < (l.length:Int)
 ·have e:=ZgB (x:=l.getD ((l.length:Int) - 1).toNat Tree.nil) (by rcases h with h | h;exact absurd h0 h;exact h) (l.take ((l.length:Int) - 1).toNat)
  rw [←ZhH h0] at e
  exact e
 ·have:l=[]:=List.eq_nil_of_length_eq_zero (by omega)
  subst this
  try rfl
theorem c71:Contract Try.prog cfg 71 Z0o:=by
 refine Zvs ZwG ?_
 rintro N ⟨k,ws,ks⟩ _ hp hN
 have hlen:=ZD ks
 simp only [Z0W,ZmP,Zq] at hp hN
 refine ZzI N _ _ ?_;(try simp only [vcT,forall_eq])
 (simp only [vcS]);(try simp only [vcT])
 try (simp only [Tree.eta,Edit.eta,Tree.kind_mk,Tree.words_mk,Tree.kids_mk])
 refine ⟨fun hc=> ?_,fun hc0=> ⟨by simp only [Zcs];omega,?_⟩⟩
 ·have e:Z7 (.mk k ws ks)=Tree.nil:=by simp [Z7,hc]
  simp only [Ze3,e]
  exact ⟨⟨rfl,⟨⟨rfl,rfl⟩,⟨rfl,⟨rfl,trivial⟩⟩⟩,trivial⟩,trivial⟩
 ·refine Ze (ι:=Int × List Tree) (fun p=> Z8H (.mk k ws ks) p.1 p.2) (fun p=> 0≤p.1∧p.1≤ks.length∧p.2=Yl (ks.take p.1.toNat)) (fun p=> ((ks.length:Int) - p.1).toNat) (0,[]) rfl ⟨by dsimp only;omega,by dsimp only;omega,rfl⟩ ?_
  rintro ⟨i,l⟩ ⟨h1,h2,h5⟩
  dsimp only at*
  have hl:l.length=i.toNat:=by rw [h5,Z2a,List.length_take];omega
  refine ZrC N _ _ _ _ _ ?_;(try simp only [vcT,forall_eq])
  (simp only [vcS]);(try simp only [vcT])
  try (simp only [Tree.eta,Edit.eta,Tree.kind_mk,Tree.words_mk,Tree.kids_mk])
  refine ⟨fun hc=> ?_,fun hc=> ⟨fun hk=> ?_,fun hk=> ?_⟩⟩
  ·have hm:=Z2b (ks:=ks) (i:=i.toNat) (by omega)
   have hnx:Yl (ks.take (i+1).toNat)=l++[Z7 (ks.getD i.toNat Tree.nil)]:=by rw [ZbC h1 hc,Zeg,h5]
   exact ⟨by omega,by simp only [Z0W];omega,by simp only [ZmP];omega,by simp only [List.length_cons,List.length_nil];omega,by unfold InR;omega,(i+1,_),rfl,⟨by dsimp only;omega,by dsimp only;omega,hnx.symm⟩,by dsimp only;omega⟩
  ·have hi:ks.take i.toNat=ks:=List.take_of_length_le (by omega)
   rw [hi] at h5
   refine Ze (ι:=List Int) (fun p=> Z8G (.mk k ws ks) l p) (fun p=> p.length≤ws.length∧trim p=trim ws) (fun p=> p.length) ws rfl ⟨by omega,rfl⟩ ?_
   rintro w ⟨h6,h7⟩
   refine ZrB N _ _ _ _ _ ?_;(try simp only [vcT,forall_eq])
   (simp only [vcS]);(try simp only [vcT])
   refine ⟨fun h=> by unfold InR;omega,fun h=> by omega,fun hc=> ⟨by unfold InR;omega,by omega,_,rfl,⟨by rw [List.length_take];omega,?_⟩,by rw [List.length_take];omega⟩,fun hc=> ?_⟩
   ·rw [Zme hc.1 hc.2,h7]
   ·have hw:w=trim ws:=by rw [←h7,Zmg hc]
    refine Ze (ι:=List Tree) (fun p=> Z8F (.mk k ws ks) w p) (fun p=> p.length≤l.length∧Yf p=Yf l) (fun p=> p.length) l rfl ⟨by omega,rfl⟩ ?_
    rintro q ⟨h8,h9⟩
    refine ZrA N _ _ _ _ _ ?_;(try simp only [vcT,forall_eq])
    (simp only [vcS]);(try simp only [vcT])
    refine ⟨fun h=> by unfold InR;omega,fun h=> by omega,fun hc=> ⟨by unfold InR;omega,by omega,_,rfl,⟨by rw [List.length_take];omega,?_⟩,by rw [List.length_take];omega⟩,fun hc=> ?_⟩
    ·rw [Zik hc.1 hc.2,h9]
    ·have hq:q=Yf (Yl ks):=by rw [←h5,←h9,Zim hc]
     have e:Z7 (.mk k ws ks)= .mk k w q:=by
      subst hk
      simp only [Z7,hw,hq]
      try rfl
     simp only [Ze3,e]
     exact ⟨⟨rfl,⟨⟨rfl,rfl⟩,⟨rfl,trivial⟩,⟨rfl,trivial⟩,trivial⟩,trivial⟩,trivial⟩
  ·have hi:ks.take i.toNat=ks:=List.take_of_length_le (by omega)
   rw [hi] at h5
   have e:Z7 (.mk k ws ks)= .mk k ws l:=by simp only [Z7,if_neg hc0,if_neg hk,h5]
   simp only [Ze3,e]
   exact ⟨⟨rfl,⟨⟨rfl,rfl⟩,⟨rfl,trivial⟩,⟨rfl,trivial⟩,trivial⟩,trivial⟩,trivial⟩
end Go.AM.Ytpjenobkibfpcaa
namespace Go.AM.Ytpjenobkibfpcaa
open Go.AM Go.Proofs
noncomputable section
abbrev Z8(p:Prop):Prop:=p→p
noncomputable section
def ZlP:ArgL (Int × Unit):=(.cons (J3 .i64) .nil)
def Zfs(a:Int × Unit):Prop:=True
def ZoY(a:Int × Unit):V U:= .c (ci (wd a.1))
def Z7T:Fs U:=fs ZlP (fun a=> [Zfs a]) ZoY
def ZqW:ArgL (Int × Int × Unit):=(.cons (J3 .i64) (.cons (J3 .u64) .nil))
def Zh8(a:Int × Int × Unit):Prop:=0≤a.2.1∧a.2.1 < 18446744073709551616
def Zuh(a:Int × Int × Unit):V U:= .c (.bool (ZaZ a.1 a.2.1))
def ZbG:Fs U:=fs ZqW (fun a=> [Zh8 a]) Zuh
def Zlv:ArgL (Int × Unit):=(.cons (J3 .i64) .nil)
def Zfp(a:Int × Unit):Prop:=True
def ZiC(a:Int × Unit):V U:= .tup [(false,[ci (if wd a.1 < 0 then 0 else wd a.1)]),(false,[.bool (decide (0≤wd a.1))])]
def Z7G:Fs U:=fs Zlv (fun a=> [Zfp a]) ZiC
def Zlz:ArgL (Int × Int × Unit):=(.cons (J3 .i64) (.cons (J3 .u64) .nil))
def Zcn(a:Int × Int × Unit):Prop:=0≤a.2.1∧a.2.1 < 18446744073709551616
def ZoL(a:Int × Int × Unit):V U:= .c (.bool (ZaZ a.1 a.2.1))
def Z7L:Fs U:=fs Zlz (fun a=> [Zcn a]) ZoL
def ZqS:ArgL (Int × Unit):=(.cons (J3 .i64) .nil)
def Ze8(a:Int × Unit):Prop:=True
def Zuf(a:Int × Unit):V U:= .c (.bool (decide (2≤a.1∧a.1≤9)))
def Z3q:Fs U:=fs ZqS (fun a=> [Ze8 a]) Zuf
def ZlO:ArgL (Int × Unit):=(.cons (J3 .i64) .nil)
def Z7b(a:Int × Unit):Prop:=True
def ZoX(a:Int × Unit):V U:= .c (.bool (decide (2≤a.1∧a.1≤7)))
def Z1c:Fs U:=fs ZlO (fun a=> [Z7b a]) ZoX
def ZlC:ArgL (Int × Tree × Unit):=(.cons (J3 .i64) (.cons (aEl .tree) .nil))
def Zco(a:Int × Tree × Unit):Prop:=rng a.2.1
def ZoO(a:Int × Tree × Unit):V U:= .c (.bool (Jz a.1 a.2.1))
def Z7N:Fs U:=fs ZlC (fun a=> [Zco a]) ZoO
def Zgh:ArgL (Tree × Int × Unit):=(.cons (aEl .tree) (.cons (J3 .i64) .nil))
def Z3y(a:Tree × Int × Unit):Prop:=Zq a.1≤20000000000∧rng a.1∧0≤a.2.1∧a.2.1≤1000
def Z6M(a:Tree × Int × Unit):Nat:=Zq a.1
def Zfj(a:Tree × Int × Unit):V U:= .c (.bool (Z9 a.1 a.2.1))
def Z7S:Fs U:=fs Zgh (fun a=> [Z3y a]) Zfj
def ZqV:ArgL (Tree × Unit):=(.cons (aEl .tree) .nil)
def Zh7(a:Tree × Unit):Prop:=Zq a.1≤20000000000∧rng a.1
def Zug(a:Tree × Unit):V U:= .c (.bool (Z9 a.1 64))
def Z5c:Fs U:=fs ZqV (fun a=> [Zh7 a]) Zug
def ZjA:ArgL (Tree × Int × Unit):=(.cons (aEl .tree) (.cons (J3 .i64) .nil))
def Z55(a:Tree × Int × Unit):Prop:=Zq a.1≤20000000000∧rng a.1∧0≤a.2.1∧a.2.1≤1000
def Zhs(a:Tree × Int × Unit):Nat:=Zq a.1
def ZoF(a:Tree × Int × Unit):V U:= .c (.bool (Z9 a.1 a.2.1))
def Z4r:Fs U:=fs ZjA (fun a=> [Z55 a]) ZoF
def ZfN:List (FuncId × Fs U):=[]
def ZkN:Zh U:=lvl [([0],[]),([3],[]),([3,4],[]),([2],[]),([3,6],[]),([2],[]),([3,8],[]),([2],[]),([3,10],[]),([2],[]),([3,12],[]),([2],[]),([14],[]),([2],[]),([2],[])]
theorem Zyt(c:Int)(Q:QT)(h:((c==0)=true→Q .ret (L2 [(2,.c (ci 0))] []))∧((c==0)=false→((c==1)=true→Q .ret (L2 [(2,.c (ci 1))] []))∧((c==1)=false→((c==2)=true→Q .ret (L2 [(2,.c (ci 8))] []))∧((c==2)=false→((c==3)=true→Q .ret (L2 [(2,.c (ci 16))] []))∧((c==3)=false→((c==4)=true→Q .ret (L2 [(2,.c (ci 32))] []))∧((c==4)=false→((c==5)=true→Q .ret (L2 [(2,.c (ci 64))] []))∧((c==5)=false→Q .ret (L2 [(2,.c (ci (-1)))] [])))))))):
  AW (Z1 ZfN) Try.f116 ZkN [] (L2 [(0,.c (ci c))] []) Q:=by
 have e:(AW (Z1 ZfN) Try.f116 ZkN [] (L2 [(0,.c (ci c))] []) Q)=((((c:Int)==0)=true→(Q .ret (L2 [(2,.c (ci 0))] [])))∧(((c:Int)==0)=false→((((c:Int)==1)=true→(Q .ret (L2 [(2,.c (ci 1))] [])))∧(((c:Int)==1)=false→((((c:Int)==2)=true→(Q .ret (L2 [(2,.c (ci 8))] [])))∧(((c:Int)==2)=false→((((c:Int)==3)=true→(Q .ret (L2 [(2,.c (ci 16))] [])))∧(((c:Int)==3)=false→((((c:Int)==4)=true→(Q .ret (L2 [(2,.c (ci 32))] [])))∧(((c:Int)==4)=false→((((c:Int)==5)=true→(Q .ret (L2 [(2,.c (ci 64))] [])))∧(((c:Int)==5)=false→(Q .ret (L2 [(2,.c (ci (-1)))] [])))))))))))))):=by kernel_rfl
 exact e.mpr ⟨fun c_1=> (h.1 c_1),fun c_1=> ⟨fun c_2=> ((h.2 c_1).1 c_2),fun c_2=> ⟨fun c_3=> (((h.2 c_1).2 c_2).1 c_3),fun c_3=> ⟨fun c_4=> ((((h.2 c_1).2 c_2).2 c_3).1 c_4),fun c_4=> ⟨fun c_5=> (((((h.2 c_1).2 c_2).2 c_3).2 c_4).1 c_5),fun c_5=> ⟨fun c_6=> ((((((h.2 c_1).2 c_2).2 c_3).2 c_4).2 c_5).1 c_6),fun c_6=> ((((((h.2 c_1).2 c_2).2 c_3).2 c_4).2 c_5).2 c_6)⟩⟩⟩⟩⟩⟩
def Zu3(c:Int):Prop:=AW (Z1 ZfN) Try.f116 ZkN [] (Zn (ZlP.can (c,())) []) (EQ Try.f116 (ZoY (c,())) [])
theorem ZsJ(hb:∀ (c:Int) (_:Unit),Zfs (c,())→Zu3 c):CT 116 Z7T:=
 Z6 (l:=[]) Zo rfl trivial ZkN Try.func116 rfl rfl 1 (fun _=> rfl) (by decide) (fun ⟨c,_⟩=> hb c ())
def Z14:List (FuncId × Fs U):=[(116,Z7T)]
def ZaV:Zh U:=lvl [([0,1],[]),([1,5],[]),([1,5,10],[]),([4],[]),([1,5,6],[]),([1,5,6,13],[]),([1,5,6],[]),([1,5,6],[]),([4],[])]
def Z2R(c n x1 x6:Int):LSt U:=(L2 [(1,.c (.int .u64 x1)),(5,.c (ci (wd c))),(6,.c (ci x6))] [])
abbrev ZnA:=awp cfg (Z1 Z14) (ZJ cfg (Z1 Z14)) Try.f79.ntmps ZaV
abbrev Zmr:=Z7Y cfg (Z1 Z14) (ZJ cfg (Z1 Z14)) Try.f79.ntmps ZaV
theorem ZzG(c n:Int)(Q:QT)(h:(Zfs (c,()))∧(((decide (((wd c):Int) < 0))=true→Q .ret (L2 [(4,.c (.bool false))] []))∧((decide (((wd c):Int) < 0))=false→Zl (AW (Z1 Z14) Try.f79 ZaV [1,1,1,0,1,0,0]) (Z2R c n n 0) (xB 0 (SW (Z1 Z14) Try.f79 ZaV [1,1,1,1] Q))))):
  AW (Z1 Z14) Try.f79 ZaV [] (L2 [(0,.c (ci c)),(1,.c (.int .u64 n))] []) Q:=by
 have e:(AW (Z1 Z14) Try.f79 ZaV [] (L2 [(0,.c (ci c)),(1,.c (.int .u64 n))] []) Q)=((Zfs (c,()))∧(((decide (((wd c):Int) < 0))=true→(Q .ret (L2 [(4,.c (.bool false))] [])))∧((decide (((wd c):Int) < 0))=false→(Zl (ZnA (cd Try.f79 [1,1,1,0,1,0,0])) (Z2R c n n 0) (xB 0 (Zmr (cd Try.f79 [1,1,1,1]) Q)))))):=by kernel_rfl
 exact e.mpr ⟨h.1,⟨fun c_7=> (h.2.1 c_7),fun c_7=> (h.2.2 c_7)⟩⟩
theorem Zry(c n x1 x6:Int)(N0:NT)(Q:QT)(h:((decide (x6 < (wd c)))=true→((2:Int)≠0)∧((InR (x6+1))∧(N0 (Z2R c n (IntKind.wrap .u64 (Int.tdiv x1 2)) (x6+1)))))∧((decide (x6 < (wd c)))=false→Q .ret (L2 [(4,.c (.bool (x1==0)))] []))):
  AW (Z1 Z14) Try.f79 ZaV [1,1,1,0,1,0,0] (Z2R c n x1 x6) (xT N0 (xB 0 (SW (Z1 Z14) Try.f79 ZaV [1,1,1,1] Q))):=by
 have e:(AW (Z1 Z14) Try.f79 ZaV [1,1,1,0,1,0,0] (Z2R c n x1 x6) (xT N0 (xB 0 (SW (Z1 Z14) Try.f79 ZaV [1,1,1,1] Q))))=(((decide ((x6:Int) < (wd c)))=true→((2:Int)≠0)∧((InR ((x6:Int)+1))∧(N0 (Z2R c n (IntKind.wrap .u64 (Int.tdiv x1 2)) ((x6:Int)+1)))))∧((decide ((x6:Int) < (wd c)))=false→(Q .ret (L2 [(4,.c (.bool ((x1:Int)==0)))] [])))):=by kernel_rfl
 exact e.mpr ⟨fun c_8=> ⟨(h.1 c_8).1,⟨(h.1 c_8).2.1,(h.1 c_8).2.2⟩⟩,fun c_8=> (h.2 c_8)⟩
def Zxe(c n:Int):Prop:=AW (Z1 Z14) Try.f79 ZaV [] (Zn (ZqW.can (c,n,())) []) (EQ Try.f79 (Zuh (c,n,())) [])
theorem Zvq(ZwF:CT 116 Z7T)(hb:∀ (c:Int) (n:Int) (_:Unit),Zh8 (c,n,())→Zxe c n):CT 79 ZbG:=
 Z6 (l:=[(116,Z7T)]) Zo rfl (⟨ZwF,trivial⟩) ZaV Try.func79 rfl rfl 2 (fun _=> rfl) (by decide) (fun ⟨c,n,_⟩=> hb c n ())
def ZfF:List (FuncId × Fs U):=[]
def ZkF:Zh U:=lvl [([0],[]),([0,4],[4]),([0,4,11],[4]),([2,3],[]),([2,3],[])]
theorem ZxR(c:Int)(Q:QT)(h:((bif (decide (c < 0)) then true else (decide ((6:Int)≤c)))=true→Q .ret (L2 [(2,.c (ci 0)),(3,.c (.bool false))] []))∧((bif (decide (c < 0)) then true else (decide ((6:Int)≤c)))=false→((0:Int)≤c∧c < ((6:Nat):Int))∧(Q .ret (L2 [(2,.c (ci (List.getD [0,1,8,16,32,64] c.toNat 0))),(3,.c (.bool true))] [])))):
  AW (Z1 ZfF) Try.f194 ZkF [] (L2 [(0,.c (ci c))] []) Q:=by
 have e:(AW (Z1 ZfF) Try.f194 ZkF [] (L2 [(0,.c (ci c))] []) Q)=(let zz0:=(decide ((c:Int) < 0));((Z8 ((!zz0)=true))∧(zz0=false→(!zz0)=true)∧(((bif zz0 then true else (decide ((6:Int)≤c)))=true→(Q .ret (L2 [(2,.c (ci 0)),(3,.c (.bool false))] [])))∧((bif zz0 then true else (decide ((6:Int)≤c)))=false→((0:Int)≤c∧c < ((6:Nat):Int))∧(Q .ret (L2 [(2,.c (ci (List.getD [0,1,8,16,32,64] c.toNat 0))),(3,.c (.bool true))] [])))))):=by kernel_rfl
 exact e.mpr ⟨id,(by generalize (decide ((c:Int) < 0))=b0;revert b0;decide),⟨fun c_9=> (h.1 c_9),fun c_9=> ⟨(h.2 c_9).1,(h.2 c_9).2⟩⟩⟩
def Ztr(c:Int):Prop:=AW (Z1 ZfF) Try.f194 ZkF [] (Zn (Zlv.can (c,())) []) (EQ Try.f194 (ZiC (c,())) [])
theorem Zsf(hb:∀ (c:Int) (_:Unit),Zfp (c,())→Ztr c):CT 194 Z7G:=
 Z6 (l:=[]) Zo rfl trivial ZkF Try.func194 rfl rfl 1 (fun _=> rfl) (by decide) (fun ⟨c,_⟩=> hb c ())
def ZfG:List (FuncId × Fs U):=[(194,Z7G)]
def ZkG:Zh U:=lvl [([0,1],[]),([1,5,6],[]),([4],[])]
theorem Zy0(c n:Int)(Q:QT)(h:(Zfp (c,()))∧((((decide (0≤wd c)) && (!(((if wd c < 0 then 0 else wd c):Int)==64)))=true→(0:Int)≤(if wd c < 0 then 0 else wd c))∧(Q .ret (L2 [(4,.c (.bool (bif (decide (0≤wd c)) then (bif (((if wd c < 0 then 0 else wd c):Int)==64) then true else (((Int.fdiv n (2 ^ (min (Int.toNat (if wd c < 0 then 0 else wd c)) (IntKind.bits .u64)))):Int)==0)) else false)))] [])))):
  AW (Z1 ZfG) Try.f183 ZkG [] (L2 [(0,.c (ci c)),(1,.c (.int .u64 n))] []) Q:=by
 have e:(AW (Z1 ZfG) Try.f183 ZkG [] (L2 [(0,.c (ci c)),(1,.c (.int .u64 n))] []) Q)=(let zz0:=(((if wd c < 0 then 0 else wd c):Int)==64);((Zfp (c,()))∧((Z8 ((decide (0≤wd c))=true))∧(Z8 ((decide (0≤wd c))=true))∧(Z8 (((decide (0≤wd c)) && (!zz0))=true))∧(Z8 (((decide (0≤wd c)) && (!zz0))=true))∧(((decide (0≤wd c)) && (!zz0))=true→(0:Int)≤(if wd c < 0 then 0 else wd c))∧(Z8 (((decide (0≤wd c)) && (!zz0))=true))∧((decide (0≤wd c))=true→(True→(decide (0≤wd c))=true))∧((decide (0≤wd c))=true→(zz0=false→((decide (0≤wd c)) && (!zz0))=true))∧(Z8 ((decide (0≤wd c))=true))∧(Q .ret (L2 [(4,.c (.bool (bif (decide (0≤wd c)) then (bif zz0 then true else (((Int.fdiv n (2 ^ (min (Int.toNat (if wd c < 0 then 0 else wd c)) (IntKind.bits .u64)))):Int)==0)) else false)))] []))))):=by kernel_rfl
 exact e.mpr ⟨h.1,⟨id,id,id,id,h.2.1,id,(by generalize (decide (0≤wd c))=b0;revert b0;decide),(by generalize (((if wd c < 0 then 0 else wd c):Int)==64)=b0;generalize (decide (0≤wd c))=b1;revert b0 b1;decide),(by generalize (decide (0≤wd c))=b0;revert b0;decide),h.2.2⟩⟩
def ZtA(c n:Int):Prop:=AW (Z1 ZfG) Try.f183 ZkG [] (Zn (Zlz.can (c,n,())) []) (EQ Try.f183 (ZoL (c,n,())) [])
theorem Zso(Zwi:CT 194 Z7G)(hb:∀ (c:Int) (n:Int) (_:Unit),Zcn (c,n,())→ZtA c n):CT 183 Z7L:=
 Z6 (l:=[(194,Z7G)]) Zo rfl (⟨Zwi,trivial⟩) ZkG Try.func183 rfl rfl 2 (fun _=> rfl) (by decide) (fun ⟨c,n,_⟩=> hb c n ())
def Zj6:List (FuncId × Fs U):=[]
def ZsQ:Zh U:=lvl [([0],[]),([2],[])]
theorem Zzz(k:Int)(Q:QT)(h:Q .ret (L2 [(2,.c (.bool (bif (decide ((2:Int)≤k)) then (decide (k≤9)) else false)))] [])):
  AW (Z1 Zj6) Try.f92 ZsQ [] (L2 [(0,.c (ci k))] []) Q:=by
 have e:(AW (Z1 Zj6) Try.f92 ZsQ [] (L2 [(0,.c (ci k))] []) Q)=((Z8 ((decide ((2:Int)≤k))=true))∧(Z8 ((decide ((2:Int)≤k))=true))∧(Q .ret (L2 [(2,.c (.bool (bif (decide ((2:Int)≤k)) then (decide ((k:Int)≤9)) else false)))] []))):=by kernel_rfl
 exact e.mpr ⟨id,(by generalize (decide ((2:Int)≤k))=b0;revert b0;decide),h⟩
def Zx7(k:Int):Prop:=AW (Z1 Zj6) Try.f92 ZsQ [] (Zn (ZqS.can (k,())) []) (EQ Try.f92 (Zuf (k,())) [])
theorem Zvl(hb:∀ (k:Int) (_:Unit),Ze8 (k,())→Zx7 k):CT 92 Z3q:=
 Z6 (l:=[]) Zo rfl trivial ZsQ Try.func92 rfl rfl 1 (fun _=> rfl) (by decide) (fun ⟨k,_⟩=> hb k ())
def ZfM:List (FuncId × Fs U):=[]
def ZkM:Zh U:=lvl [([0],[]),([2],[])]
theorem Zyq(k:Int)(Q:QT)(h:Q .ret (L2 [(2,.c (.bool (bif (decide ((2:Int)≤k)) then (decide (k≤7)) else false)))] [])):
  AW (Z1 ZfM) Try.f120 ZkM [] (L2 [(0,.c (ci k))] []) Q:=by
 have e:(AW (Z1 ZfM) Try.f120 ZkM [] (L2 [(0,.c (ci k))] []) Q)=((Z8 ((decide ((2:Int)≤k))=true))∧(Z8 ((decide ((2:Int)≤k))=true))∧(Q .ret (L2 [(2,.c (.bool (bif (decide ((2:Int)≤k)) then (decide ((k:Int)≤7)) else false)))] []))):=by kernel_rfl
 exact e.mpr ⟨id,(by generalize (decide ((2:Int)≤k))=b0;revert b0;decide),h⟩
def Zu0(k:Int):Prop:=AW (Z1 ZfM) Try.f120 ZkM [] (Zn (ZlO.can (k,())) []) (EQ Try.f120 (ZoX (k,())) [])
theorem ZsH(hb:∀ (k:Int) (_:Unit),Z7b (k,())→Zu0 k):CT 120 Z1c:=
 Z6 (l:=[]) Zo rfl trivial ZkM Try.func120 rfl rfl 1 (fun _=> rfl) (by decide) (fun ⟨k,_⟩=> hb k ())
def ZfH:List (FuncId × Fs U):=[(120,Z1c),(183,Z7L)]
def ZkH:Zh U:=lvl [([0,3],[3]),([0,3,5],[3]),([4],[]),([3,32],[3]),([4],[]),([4],[])]
theorem Zy6(l:Int)(t:Tree)(Q:QT)(h:(Z7b (l,()))∧(((decide (2≤l∧l≤7))=true→((bif (bif (t.kind==10) then (((t.kids.length:Int):Int)==0) else false) then (((t.words.length:Int):Int)==1) else false)=true→InR (l - 2))∧((bif (bif (t.kind==10) then (((t.kids.length:Int):Int)==0) else false) then (((t.words.length:Int):Int)==1) else false)=true→(0:Int)≤0∧0 < (t.words.length:Int))∧((bif (bif (t.kind==10) then (((t.kids.length:Int):Int)==0) else false) then (((t.words.length:Int):Int)==1) else false)=true→Zcn ((l - 2),(List.getD t.words (Int.toNat 0) (0:Int)),()))∧(Q .ret (L2 [(4,.c (.bool (bif (bif (bif (t.kind==10) then (((t.kids.length:Int):Int)==0) else false) then (((t.words.length:Int):Int)==1) else false) then (ZaZ (l - 2) (List.getD t.words (Int.toNat 0) (0:Int))) else false)))] [])))∧((decide (2≤l∧l≤7))=false→((l==9)=true→Q .ret (L2 [(4,.c (.bool (t.kind==1)))] []))∧((l==9)=false→Q .ret (L2 [(4,.c (.bool (t.kind !=10)))] []))))):
  AW (Z1 ZfH) Try.f162 ZkH [] (L2 [(0,.c (ci l)),(1,.agg (enc .tree t))] []) Q:=by
 have e:(AW (Z1 ZfH) Try.f162 ZkH [] (L2 [(0,.c (ci l)),(1,.agg (enc .tree t))] []) Q)=(let zz1:=(bif (t.kind==10) then ((t.kids.length:Int)==0) else false);let zz0:=(bif zz1 then ((t.words.length:Int)==1) else false);((Z7b (l,()))∧(((decide (2≤l∧l≤7))=true→(Z8 ((t.kind==10)=true))∧(Z8 ((t.kind==10)=true))∧(Z8 ((t.kind==10)=true))∧(Z8 ((t.kind==10)=true))∧(Z8 (zz1=true))∧(Z8 (zz1=true))∧(Z8 (zz1=true))∧(Z8 (zz1=true))∧(Z8 (zz0=true))∧(zz0=true→InR ((l:Int) - 2))∧(Z8 (zz0=true))∧(Z8 (zz0=true))∧(zz0=true→(0:Int)≤0∧0 < (t.words.length:Int))∧(Z8 (zz0=true))∧(Z8 (zz0=true))∧(Z8 (zz0=true))∧(zz0=true→Zcn (((l:Int) - 2),(List.getD t.words (Int.toNat 0) (0:Int)),()))∧(Z8 (zz0=true))∧(Q .ret (L2 [(4,.c (.bool (bif zz0 then (ZaZ ((l:Int) - 2) (List.getD t.words (Int.toNat 0) (0:Int))) else false)))] [])))∧((decide (2≤l∧l≤7))=false→((((l:Int)==9)=true→(Q .ret (L2 [(4,.c (.bool (t.kind==1)))] [])))∧(((l:Int)==9)=false→(Q .ret (L2 [(4,.c (.bool (t.kind !=10)))] [])))))))):=by kernel_rfl
 exact e.mpr ⟨h.1,⟨fun c_10=> ⟨id,id,id,(by generalize ((t.kind:Int)==10)=b0;revert b0;decide),id,id,id,(by generalize (((t.kids.length:Int):Int)==0)=b0;generalize ((t.kind:Int)==10)=b1;revert b0 b1;decide),id,(h.2.1 c_10).1,id,id,(h.2.1 c_10).2.1,id,id,id,(h.2.1 c_10).2.2.1,(by generalize (((t.words.length:Int):Int)==1)=b0;generalize (((t.kids.length:Int):Int)==0)=b1;generalize ((t.kind:Int)==10)=b2;revert b0 b1 b2;decide),(h.2.1 c_10).2.2.2⟩,fun c_10=> ⟨fun c_11=> ((h.2.2 c_10).1 c_11),fun c_11=> ((h.2.2 c_10).2 c_11)⟩⟩⟩
def ZtG(l:Int)(t:Tree):Prop:=AW (Z1 ZfH) Try.f162 ZkH [] (Zn (ZlC.can (l,t,())) []) (EQ Try.f162 (ZoO (l,t,())) [])
theorem Zss(Zg1:CT 120 Z1c)(Zwp:CT 183 Z7L)(hb:∀ (l:Int) (t:Tree) (_:Unit),Zco (l,t,())→ZtG l t):CT 162 Z7N:=
 Z6 (l:=[(120,Z1c),(183,Z7L)]) Zo rfl (⟨Zg1,Zwp,trivial⟩) ZkH Try.func162 rfl rfl 2 (fun _=> rfl) (by decide) (fun ⟨l,t,_⟩=> hb l t ())
def YR(N:Nat):List (FuncId × Fs U):=(117,fs Zgh (fun a=> [Z3y a,Z6M a < N]) Zfj) ::[(92,Z3q),(162,Z7N)]
def Z1I:Zh U:=lvl [([1,2],[2]),([1,2,8],[2]),([4],[]),([1,2,22],[2]),([4],[]),([1,2,36],[2]),([4],[]),([1,2,39],[2]),([1,2,52],[2]),([4],[]),([1,2,53],[2]),([4],[]),([1,2,71,72,73],[2]),([1,2,71,72,73,74],[2]),([1,2,6,71,72,73],[2,6]),([1,2,6,7,71,72,73],[2,6]),([1,2,6,7,71,72,73,82],[2,6]),([1,2,6,7,71,72,73],[2,6]),([1,2,71,72,73,95],[2]),([4],[]),([1,2,71,72,73],[2]),([4],[])]
def J5(t:Tree)(d x73:Int):LSt U:=(L2 [(1,.c (ci d)),(2,.ptr (.loc 2) 0),(71,.c (sU .tree t.kids .unk)),(72,.c (ci (t.kids.length:Int))),(73,.c (ci x73))] [(.loc 2,(enc .tree t))])
abbrev Zdo(N:Nat):=awp cfg (Z1 (YR N)) (ZJ cfg (Z1 (YR N))) Try.f117.ntmps Z1I
abbrev Zc0(N:Nat):=Z7Y cfg (Z1 (YR N)) (ZJ cfg (Z1 (YR N))) Try.f117.ntmps Z1I
theorem Zys(N:Nat)(t:Tree)(d:Int)(Q:QT)(h:((t.kind==0)=true→Q .ret (L2 [(4,.c (.bool (bif (((t.words.length:Int):Int)==0) then (((t.kids.length:Int):Int)==0) else false)))] []))∧((t.kind==0)=false→((t.kind==10)=true→Q .ret (L2 [(4,.c (.bool (bif (((t.words.length:Int):Int)==1) then (((t.kids.length:Int):Int)==0) else false)))] []))∧((t.kind==10)=false→((d==0)=true→Q .ret (L2 [(4,.c (.bool false))] []))∧((d==0)=false→((t.kind==1)=true→((bif (decide ((65536:Int)≤(t.words.length:Int))) then true else (decide ((65536:Int)≤(t.kids.length:Int))))=true→Q .ret (L2 [(4,.c (.bool false))] []))∧((bif (decide ((65536:Int)≤(t.words.length:Int))) then true else (decide ((65536:Int)≤(t.kids.length:Int))))=false→Zl (AW (Z1 (YR N)) Try.f117 Z1I [1,1,0,1,0,0]) (J5 t d 0) (xB 1 (SW (Z1 (YR N)) Try.f117 Z1I [1,1,1] Q))))∧((t.kind==1)=false→(Ze8 (t.kind,()))∧(((bif (bif (!(decide (2≤t.kind∧t.kind≤9))) then true else (decide ((0:Int) < (t.words.length:Int)))) then true else (decide ((1048576:Int)≤(t.kids.length:Int))))=true→Q .ret (L2 [(4,.c (.bool false))] []))∧((bif (bif (!(decide (2≤t.kind∧t.kind≤9))) then true else (decide ((0:Int) < (t.words.length:Int)))) then true else (decide ((1048576:Int)≤(t.kids.length:Int))))=false→Zl (AW (Z1 (YR N)) Try.f117 Z1I [1,1,0,1,0,0]) (J5 t d 0) (xB 1 (SW (Z1 (YR N)) Try.f117 Z1I [1,1,1] Q))))))))):
  AW (Z1 (YR N)) Try.f117 Z1I [] (L2 [(0,.agg (enc .tree t)),(1,.c (ci d))] []) Q:=by
 have e:(AW (Z1 (YR N)) Try.f117 Z1I [] (L2 [(0,.agg (enc .tree t)),(1,.c (ci d))] []) Q)=(let zz6:=(decide ((65536:Int)≤(t.kids.length:Int)));let zz5:=(decide ((1048576:Int)≤(t.kids.length:Int)));let zz4:=((t.words.length:Int)==1);let zz3:=((t.words.length:Int)==0);let zz2:=(!(decide (2≤t.kind∧t.kind≤9)));let zz1:=(decide ((65536:Int)≤(t.words.length:Int)));let zz0:=(bif zz2 then true else (decide ((0:Int) < (t.words.length:Int))));(((t.kind==0)=true→(Z8 (zz3=true))∧(Z8 (zz3=true))∧(Z8 (zz3=true))∧(Z8 (zz3=true))∧(Q .ret (L2 [(4,.c (.bool (bif zz3 then ((t.kids.length:Int)==0) else false)))] [])))∧((t.kind==0)=false→(((t.kind==10)=true→(Z8 (zz4=true))∧(Z8 (zz4=true))∧(Z8 (zz4=true))∧(Z8 (zz4=true))∧(Q .ret (L2 [(4,.c (.bool (bif zz4 then ((t.kids.length:Int)==0) else false)))] [])))∧((t.kind==10)=false→((((d:Int)==0)=true→(Q .ret (L2 [(4,.c (.bool false))] [])))∧(((d:Int)==0)=false→(((t.kind==1)=true→(Z8 ((!zz1)=true))∧(Z8 ((!zz1)=true))∧(Z8 ((!zz1)=true))∧(zz1=false→(!zz1)=true)∧(((bif zz1 then true else zz6)=true→(Q .ret (L2 [(4,.c (.bool false))] [])))∧((bif zz1 then true else zz6)=false→(Zl (Zdo N (cd Try.f117 [1,1,0,1,0,0])) (J5 t d 0) (xB 1 (Zc0 N (cd Try.f117 [1,1,1]) Q))))))∧((t.kind==1)=false→(Ze8 (t.kind,()))∧(Z8 ((!zz2)=true))∧(Z8 ((!zz2)=true))∧(Z8 ((!zz2)=true))∧(zz2=false→(!zz2)=true)∧(Z8 ((!zz0)=true))∧(Z8 ((!zz0)=true))∧(Z8 ((!zz0)=true))∧(zz0=false→(!zz0)=true)∧(((bif zz0 then true else zz5)=true→(Q .ret (L2 [(4,.c (.bool false))] [])))∧((bif zz0 then true else zz5)=false→(Zl (Zdo N (cd Try.f117 [1,1,0,1,0,0])) (J5 t d 0) (xB 1 (Zc0 N (cd Try.f117 [1,1,1]) Q)))))))))))))):=by kernel_rfl
 exact e.mpr ⟨fun c_12=> ⟨id,id,id,(by generalize (((t.words.length:Int):Int)==0)=b0;revert b0;decide),(h.1 c_12)⟩,fun c_12=> ⟨fun c_13=> ⟨id,id,id,(by generalize (((t.words.length:Int):Int)==1)=b0;revert b0;decide),((h.2 c_12).1 c_13)⟩,fun c_13=> ⟨fun c_14=> (((h.2 c_12).2 c_13).1 c_14),fun c_14=> ⟨fun c_15=> ⟨id,id,id,(by generalize (decide ((65536:Int)≤(t.words.length:Int)))=b0;revert b0;decide),⟨fun c_16=> (((((h.2 c_12).2 c_13).2 c_14).1 c_15).1 c_16),fun c_16=> (((((h.2 c_12).2 c_13).2 c_14).1 c_15).2 c_16)⟩⟩,fun c_15=> ⟨((((h.2 c_12).2 c_13).2 c_14).2 c_15).1,id,id,id,(by generalize (decide (2≤t.kind∧t.kind≤9))=b0;revert b0;decide),id,id,id,(by generalize (decide ((0:Int) < (t.words.length:Int)))=b0;generalize (decide (2≤t.kind∧t.kind≤9))=b1;revert b0 b1;decide),⟨fun c_17=> (((((h.2 c_12).2 c_13).2 c_14).2 c_15).2.1 c_17),fun c_17=> (((((h.2 c_12).2 c_13).2 c_14).2 c_15).2.2 c_17)⟩⟩⟩⟩⟩⟩
theorem Zo5(N:Nat)(t:Tree)(d x73:Int)(N0:NT)(Q:QT)(h:((decide (x73 < (t.kids.length:Int)))=true→((0:Int)≤x73∧x73 < (t.kids.length:Int))∧(((t.kind !=1)=true→(Zco (t.kind,(Tree.mk (Tree.kind (t.kids.getD x73.toNat Tree.nil)) (Tree.words (t.kids.getD x73.toNat Tree.nil)) (Tree.kids (t.kids.getD x73.toNat Tree.nil))),()))∧(((!(!(Jz t.kind (Tree.mk (Tree.kind (t.kids.getD x73.toNat Tree.nil)) (Tree.words (t.kids.getD x73.toNat Tree.nil)) (Tree.kids (t.kids.getD x73.toNat Tree.nil))))))=true→InR (d - 1))∧((!(!(Jz t.kind (Tree.mk (Tree.kind (t.kids.getD x73.toNat Tree.nil)) (Tree.words (t.kids.getD x73.toNat Tree.nil)) (Tree.kids (t.kids.getD x73.toNat Tree.nil))))))=true→Z3y ((Tree.mk (Tree.kind (t.kids.getD x73.toNat Tree.nil)) (Tree.words (t.kids.getD x73.toNat Tree.nil)) (Tree.kids (t.kids.getD x73.toNat Tree.nil))),(d - 1),()))∧((!(!(Jz t.kind (Tree.mk (Tree.kind (t.kids.getD x73.toNat Tree.nil)) (Tree.words (t.kids.getD x73.toNat Tree.nil)) (Tree.kids (t.kids.getD x73.toNat Tree.nil))))))=true→Z6M ((Tree.mk (Tree.kind (t.kids.getD x73.toNat Tree.nil)) (Tree.words (t.kids.getD x73.toNat Tree.nil)) (Tree.kids (t.kids.getD x73.toNat Tree.nil))),(d - 1),()) < N)∧(((bif (!(Jz t.kind (Tree.mk (Tree.kind (t.kids.getD x73.toNat Tree.nil)) (Tree.words (t.kids.getD x73.toNat Tree.nil)) (Tree.kids (t.kids.getD x73.toNat Tree.nil))))) then true else (!(Z9 (Tree.mk (Tree.kind (t.kids.getD x73.toNat Tree.nil)) (Tree.words (t.kids.getD x73.toNat Tree.nil)) (Tree.kids (t.kids.getD x73.toNat Tree.nil))) (d - 1))))=true→Q .ret (L2 [(4,.c (.bool false))] []))∧((bif (!(Jz t.kind (Tree.mk (Tree.kind (t.kids.getD x73.toNat Tree.nil)) (Tree.words (t.kids.getD x73.toNat Tree.nil)) (Tree.kids (t.kids.getD x73.toNat Tree.nil))))) then true else (!(Z9 (Tree.mk (Tree.kind (t.kids.getD x73.toNat Tree.nil)) (Tree.words (t.kids.getD x73.toNat Tree.nil)) (Tree.kids (t.kids.getD x73.toNat Tree.nil))) (d - 1))))=false→(InR (x73+1))∧(N0 (J5 t d (x73+1)))))))∧((t.kind !=1)=false→((!(!(((Tree.kind (t.kids.getD x73.toNat Tree.nil)):Int) !=10)))=true→InR (d - 1))∧((!(!(((Tree.kind (t.kids.getD x73.toNat Tree.nil)):Int) !=10)))=true→Z3y ((Tree.mk (Tree.kind (t.kids.getD x73.toNat Tree.nil)) (Tree.words (t.kids.getD x73.toNat Tree.nil)) (Tree.kids (t.kids.getD x73.toNat Tree.nil))),(d - 1),()))∧((!(!(((Tree.kind (t.kids.getD x73.toNat Tree.nil)):Int) !=10)))=true→Z6M ((Tree.mk (Tree.kind (t.kids.getD x73.toNat Tree.nil)) (Tree.words (t.kids.getD x73.toNat Tree.nil)) (Tree.kids (t.kids.getD x73.toNat Tree.nil))),(d - 1),()) < N)∧(((bif (!(((Tree.kind (t.kids.getD x73.toNat Tree.nil)):Int) !=10)) then true else (!(Z9 (Tree.mk (Tree.kind (t.kids.getD x73.toNat Tree.nil)) (Tree.words (t.kids.getD x73.toNat Tree.nil)) (Tree.kids (t.kids.getD x73.toNat Tree.nil))) (d - 1))))=true→Q .ret (L2 [(4,.c (.bool false))] []))∧((bif (!(((Tree.kind (t.kids.getD x73.toNat Tree.nil)):Int) !=10)) then true else (!(Z9 (Tree.mk (Tree.kind (t.kids.getD x73.toNat Tree.nil)) (Tree.words (t.kids.getD x73.toNat Tree.nil)) (Tree.kids (t.kids.getD x73.toNat Tree.nil))) (d - 1))))=false→(InR (x73+1))∧(N0 (J5 t d (x73+1))))))))∧((decide (x73 < (t.kids.length:Int)))=false→Q .ret (L2 [(4,.c (.bool true))] []))):
  AW (Z1 (YR N)) Try.f117 Z1I [1,1,0,1,0,0] (J5 t d x73) (xT N0 (xB 1 (SW (Z1 (YR N)) Try.f117 Z1I [1,1,1] Q))):=by
 have e:(AW (Z1 (YR N)) Try.f117 Z1I [1,1,0,1,0,0] (J5 t d x73) (xT N0 (xB 1 (SW (Z1 (YR N)) Try.f117 Z1I [1,1,1] Q))))=(let zz2:=(!(Z9 (Tree.mk (Tree.kind (t.kids.getD x73.toNat Tree.nil)) (Tree.words (t.kids.getD x73.toNat Tree.nil)) (Tree.kids (t.kids.getD x73.toNat Tree.nil))) ((d:Int) - 1)));let zz1:=(!(((Tree.kind (t.kids.getD x73.toNat Tree.nil)):Int) !=10));let zz0:=(!(Jz t.kind (Tree.mk (Tree.kind (t.kids.getD x73.toNat Tree.nil)) (Tree.words (t.kids.getD x73.toNat Tree.nil)) (Tree.kids (t.kids.getD x73.toNat Tree.nil)))));(((decide ((x73:Int) < (t.kids.length:Int)))=true→((0:Int)≤x73∧x73 < (t.kids.length:Int))∧(((t.kind !=1)=true→(Zco (t.kind,(Tree.mk (Tree.kind (t.kids.getD x73.toNat Tree.nil)) (Tree.words (t.kids.getD x73.toNat Tree.nil)) (Tree.kids (t.kids.getD x73.toNat Tree.nil))),()))∧((Z8 ((!zz0)=true))∧((!zz0)=true→InR ((d:Int) - 1))∧(Z8 ((!zz0)=true))∧(Z8 ((!zz0)=true))∧((!zz0)=true→Z3y ((Tree.mk (Tree.kind (t.kids.getD x73.toNat Tree.nil)) (Tree.words (t.kids.getD x73.toNat Tree.nil)) (Tree.kids (t.kids.getD x73.toNat Tree.nil))),((d:Int) - 1),()))∧((!zz0)=true→Z6M ((Tree.mk (Tree.kind (t.kids.getD x73.toNat Tree.nil)) (Tree.words (t.kids.getD x73.toNat Tree.nil)) (Tree.kids (t.kids.getD x73.toNat Tree.nil))),((d:Int) - 1),()) < N)∧(Z8 ((!zz0)=true))∧(zz0=false→(!zz0)=true)∧(((bif zz0 then true else zz2)=true→(Q .ret (L2 [(4,.c (.bool false))] [])))∧((bif zz0 then true else zz2)=false→(InR ((x73:Int)+1))∧(N0 (J5 t d ((x73:Int)+1)))))))∧((t.kind !=1)=false→(Z8 ((!zz1)=true))∧((!zz1)=true→InR ((d:Int) - 1))∧(Z8 ((!zz1)=true))∧(Z8 ((!zz1)=true))∧((!zz1)=true→Z3y ((Tree.mk (Tree.kind (t.kids.getD x73.toNat Tree.nil)) (Tree.words (t.kids.getD x73.toNat Tree.nil)) (Tree.kids (t.kids.getD x73.toNat Tree.nil))),((d:Int) - 1),()))∧((!zz1)=true→Z6M ((Tree.mk (Tree.kind (t.kids.getD x73.toNat Tree.nil)) (Tree.words (t.kids.getD x73.toNat Tree.nil)) (Tree.kids (t.kids.getD x73.toNat Tree.nil))),((d:Int) - 1),()) < N)∧(Z8 ((!zz1)=true))∧(zz1=false→(!zz1)=true)∧(((bif zz1 then true else zz2)=true→(Q .ret (L2 [(4,.c (.bool false))] [])))∧((bif zz1 then true else zz2)=false→(InR ((x73:Int)+1))∧(N0 (J5 t d ((x73:Int)+1))))))))∧((decide ((x73:Int) < (t.kids.length:Int)))=false→(Q .ret (L2 [(4,.c (.bool true))] []))))):=by kernel_rfl
 exact e.mpr ⟨fun c_18=> ⟨(h.1 c_18).1,⟨fun c_19=> ⟨((h.1 c_18).2.1 c_19).1,⟨id,((h.1 c_18).2.1 c_19).2.1,id,id,((h.1 c_18).2.1 c_19).2.2.1,((h.1 c_18).2.1 c_19).2.2.2.1,id,(by generalize (Jz t.kind (Tree.mk (Tree.kind (t.kids.getD x73.toNat Tree.nil)) (Tree.words (t.kids.getD x73.toNat Tree.nil)) (Tree.kids (t.kids.getD x73.toNat Tree.nil))))=b0;revert b0;decide),⟨fun c_20=> (((h.1 c_18).2.1 c_19).2.2.2.2.1 c_20),fun c_20=> ⟨(((h.1 c_18).2.1 c_19).2.2.2.2.2 c_20).1,(((h.1 c_18).2.1 c_19).2.2.2.2.2 c_20).2⟩⟩⟩⟩,fun c_19=> ⟨id,((h.1 c_18).2.2 c_19).1,id,id,((h.1 c_18).2.2 c_19).2.1,((h.1 c_18).2.2 c_19).2.2.1,id,(by generalize (((Tree.kind (t.kids.getD x73.toNat Tree.nil)):Int) !=10)=b0;revert b0;decide),⟨fun c_21=> (((h.1 c_18).2.2 c_19).2.2.2.1 c_21),fun c_21=> ⟨(((h.1 c_18).2.2 c_19).2.2.2.2 c_21).1,(((h.1 c_18).2.2 c_19).2.2.2.2 c_21).2⟩⟩⟩⟩⟩,fun c_18=> (h.2 c_18)⟩
def Zu2(N:Nat)(t:Tree)(d:Int):Prop:=AW (Z1 (YR N)) Try.f117 Z1I [] (Zn (Zgh.can (t,d,())) []) (EQ Try.f117 (Zfj (t,d,())) [])
theorem ZsI(c92:CT 92 Z3q)(Zws:CT 162 Z7N)(hb:∀ (N:Nat) (t:Tree) (d:Int) (_:Unit),Z3y (t,d,())→Z6M (t,d,()) < N+1→Zu2 N t d):CT 117 Z7S:=
 Jw (μ:=Z6M) (l:=[(92,Z3q),(162,Z7N)]) Zo rfl (⟨c92,Zws,trivial⟩) Z1I Try.func117 rfl rfl 2 (fun _=> rfl) (by decide) (fun N ⟨t,d,_⟩=> hb N t d ())
def Zj9:List (FuncId × Fs U):=[(117,Z7S)]
def ZsT:Zh U:=lvl [([1],[1]),([2],[])]
theorem ZzF(t:Tree)(Q:QT)(h:(Z3y ((Tree.mk t.kind t.words t.kids),64,()))∧(Q .ret (L2 [(2,.c (.bool (Z9 (Tree.mk t.kind t.words t.kids) 64)))] []))):
  AW (Z1 Zj9) Try.f80 ZsT [] (L2 [(0,.agg (enc .tree t))] []) Q:=by
 have e:(AW (Z1 Zj9) Try.f80 ZsT [] (L2 [(0,.agg (enc .tree t))] []) Q)=(type_of% h):=by kernel_rfl
 exact e.mpr ⟨h.1,h.2⟩
def Zxd(t:Tree):Prop:=AW (Z1 Zj9) Try.f80 ZsT [] (Zn (ZqV.can (t,())) []) (EQ Try.f80 (Zug (t,())) [])
theorem Zvp(ZwE:CT 117 Z7S)(hb:∀ (t:Tree) (_:Unit),Zh7 (t,())→Zxd t):CT 80 Z5c:=
 Z6 (l:=[(117,Z7S)]) Zo rfl (⟨ZwE,trivial⟩) ZsT Try.func80 rfl rfl 1 (fun _=> rfl) (by decide) (fun ⟨t,_⟩=> hb t ())
def Z15(N:Nat):List (FuncId × Fs U):=(37,fs ZjA (fun a=> [Z55 a,Zhs a < N]) ZoF) ::[(79,ZbG)]
def ZaW:Zh U:=lvl [([1,2],[2]),([1,2,10],[2]),([4],[]),([1,2,23],[2]),([4],[]),([1,2,68],[2]),([4],[]),([1,2,77],[2]),([4],[]),([1,2,5],[2]),([1,2,5,82],[2]),([1,2,5],[2]),([1,2,5,6],[2,6]),([1,2,5,6,94],[2,6]),([4],[]),([1,2,5,6,7],[2,6]),([1,2,5,131],[2]),([4],[]),([4],[])]
def Z2T(t:Tree)(d x5:Int):LSt U:=(L2 [(1,.c (ci d)),(2,.ptr (.loc 2) 0),(5,.c (ci x5))] [(.loc 2,(enc .tree t))])
abbrev ZnC(N:Nat):=awp cfg (Z1 (Z15 N)) (ZJ cfg (Z1 (Z15 N))) Try.f37.ntmps ZaW
abbrev Zmt(N:Nat):=Z7Y cfg (Z1 (Z15 N)) (ZJ cfg (Z1 (Z15 N))) Try.f37.ntmps ZaW
theorem ZzZ(N:Nat)(t:Tree)(d:Int)(Q:QT)(h:((t.kind==0)=true→Q .ret (L2 [(4,.c (.bool (bif (((t.words.length:Int):Int)==0) then (((t.kids.length:Int):Int)==0) else false)))] []))∧((t.kind==0)=false→((t.kind==10)=true→Q .ret (L2 [(4,.c (.bool (bif (((t.words.length:Int):Int)==1) then (((t.kids.length:Int):Int)==0) else false)))] []))∧((t.kind==10)=false→((bif (bif (bif (bif (bif (decide (t.kind < 0)) then true else (decide ((10:Int) < t.kind))) then true else (d==0)) then true else (decide ((65536:Int)≤(t.words.length:Int)))) then true else (bif (t.kind==1) then (decide ((65536:Int)≤(t.kids.length:Int))) else false)) then true else (decide ((1048576:Int)≤(t.kids.length:Int))))=true→Q .ret (L2 [(4,.c (.bool false))] []))∧((bif (bif (bif (bif (bif (decide (t.kind < 0)) then true else (decide ((10:Int) < t.kind))) then true else (d==0)) then true else (decide ((65536:Int)≤(t.words.length:Int)))) then true else (bif (t.kind==1) then (decide ((65536:Int)≤(t.kids.length:Int))) else false)) then true else (decide ((1048576:Int)≤(t.kids.length:Int))))=false→((bif (decide ((1:Int) < t.kind)) then (decide ((0:Int) < (t.words.length:Int))) else false)=true→Q .ret (L2 [(4,.c (.bool false))] []))∧((bif (decide ((1:Int) < t.kind)) then (decide ((0:Int) < (t.words.length:Int))) else false)=false→Zl (AW (Z1 (Z15 N)) Try.f37 ZaW [1,1,1,1,1,0,1,0,0]) (Z2T t d 0) (xB 0 (SW (Z1 (Z15 N)) Try.f37 ZaW [1,1,1,1,1,1] Q))))))):
  AW (Z1 (Z15 N)) Try.f37 ZaW [] (L2 [(0,.agg (enc .tree t)),(1,.c (ci d))] []) Q:=by
 have e:(AW (Z1 (Z15 N)) Try.f37 ZaW [] (L2 [(0,.agg (enc .tree t)),(1,.c (ci d))] []) Q)=(let zz7:=(decide ((1048576:Int)≤(t.kids.length:Int)));let zz6:=(decide (t.kind < 0));let zz5:=((t.words.length:Int)==1);let zz4:=((t.words.length:Int)==0);let zz3:=(decide ((1:Int) < t.kind));let zz2:=(bif (t.kind==1) then (decide ((65536:Int)≤(t.kids.length:Int))) else false);let zz1:=(bif zz6 then true else (decide ((10:Int) < t.kind)));let zz0:=(bif (bif zz1 then true else ((d:Int)==0)) then true else (decide ((65536:Int)≤(t.words.length:Int))));(((t.kind==0)=true→(Z8 (zz4=true))∧(Z8 (zz4=true))∧(Z8 (zz4=true))∧(Z8 (zz4=true))∧(Q .ret (L2 [(4,.c (.bool (bif zz4 then ((t.kids.length:Int)==0) else false)))] [])))∧((t.kind==0)=false→(((t.kind==10)=true→(Z8 (zz5=true))∧(Z8 (zz5=true))∧(Z8 (zz5=true))∧(Z8 (zz5=true))∧(Q .ret (L2 [(4,.c (.bool (bif zz5 then ((t.kids.length:Int)==0) else false)))] [])))∧((t.kind==10)=false→(Z8 ((!zz6)=true))∧(Z8 ((!zz6)=true))∧(zz6=false→(!zz6)=true)∧(Z8 ((!zz1)=true))∧(zz1=false→(!zz1)=true)∧(Z8 ((!(bif zz1 then true else ((d:Int)==0)))=true))∧(Z8 ((!(bif zz1 then true else ((d:Int)==0)))=true))∧(Z8 ((!(bif zz1 then true else ((d:Int)==0)))=true))∧((bif zz1 then true else ((d:Int)==0))=false→(!(bif zz1 then true else ((d:Int)==0)))=true)∧(Z8 ((!zz0)=true))∧(Z8 ((!zz0)=true))∧(Z8 ((!zz0)=true))∧(Z8 (((!zz0) && (t.kind==1))=true))∧(Z8 (((!zz0) && (t.kind==1))=true))∧(Z8 (((!zz0) && (t.kind==1))=true))∧((!zz0)=true→(True→(!zz0)=true))∧((!zz0)=true→((t.kind==1)=true→((!zz0) && (t.kind==1))=true))∧(zz0=false→(!zz0)=true)∧(Z8 ((!(bif zz0 then true else zz2))=true))∧(Z8 ((!(bif zz0 then true else zz2))=true))∧(Z8 ((!(bif zz0 then true else zz2))=true))∧((bif zz0 then true else zz2)=false→(!(bif zz0 then true else zz2))=true)∧(((bif (bif zz0 then true else zz2) then true else zz7)=true→(Q .ret (L2 [(4,.c (.bool false))] [])))∧((bif (bif zz0 then true else zz2) then true else zz7)=false→(Z8 (zz3=true))∧(Z8 (zz3=true))∧(Z8 (zz3=true))∧(Z8 (zz3=true))∧(((bif zz3 then (decide ((0:Int) < (t.words.length:Int))) else false)=true→(Q .ret (L2 [(4,.c (.bool false))] [])))∧((bif zz3 then (decide ((0:Int) < (t.words.length:Int))) else false)=false→(Zl (ZnC N (cd Try.f37 [1,1,1,1,1,0,1,0,0])) (Z2T t d 0) (xB 0 (Zmt N (cd Try.f37 [1,1,1,1,1,1]) Q)))))))))))):=by kernel_rfl
 exact e.mpr ⟨fun c_22=> ⟨id,id,id,(by generalize (((t.words.length:Int):Int)==0)=b0;revert b0;decide),(h.1 c_22)⟩,fun c_22=> ⟨fun c_23=> ⟨id,id,id,(by generalize (((t.words.length:Int):Int)==1)=b0;revert b0;decide),((h.2 c_22).1 c_23)⟩,fun c_23=> ⟨id,id,(by generalize (decide ((t.kind:Int) < 0))=b0;revert b0;decide),id,(by generalize (decide ((10:Int) < t.kind))=b0;generalize (decide ((t.kind:Int) < 0))=b1;revert b0 b1;decide),id,id,id,(by generalize (decide ((10:Int) < t.kind))=b0;generalize (decide ((t.kind:Int) < 0))=b1;generalize ((d:Int)==0)=b2;revert b0 b1 b2;decide),id,id,id,id,id,id,(by generalize (decide ((65536:Int)≤(t.words.length:Int)))=b0;generalize (decide ((10:Int) < t.kind))=b1;generalize (decide ((t.kind:Int) < 0))=b2;generalize ((d:Int)==0)=b3;revert b0 b1 b2 b3;decide),(by generalize (decide ((65536:Int)≤(t.words.length:Int)))=b0;generalize (decide ((10:Int) < t.kind))=b1;generalize (decide ((t.kind:Int) < 0))=b2;generalize ((t.kind:Int)==1)=b3;generalize ((d:Int)==0)=b4;revert b0 b1 b2 b3 b4;decide),(by generalize (decide ((65536:Int)≤(t.words.length:Int)))=b0;generalize (decide ((10:Int) < t.kind))=b1;generalize (decide ((t.kind:Int) < 0))=b2;generalize ((d:Int)==0)=b3;revert b0 b1 b2 b3;decide),id,id,id,(by generalize (decide ((65536:Int)≤(t.words.length:Int)))=b0;generalize (decide ((65536:Int)≤(t.kids.length:Int)))=b1;generalize (decide ((10:Int) < t.kind))=b2;generalize (decide ((t.kind:Int) < 0))=b3;generalize ((t.kind:Int)==1)=b4;generalize ((d:Int)==0)=b5;revert b0 b1 b2 b3 b4 b5;decide),⟨fun c_24=> (((h.2 c_22).2 c_23).1 c_24),fun c_24=> ⟨id,id,id,(by generalize (decide ((1:Int) < t.kind))=b0;revert b0;decide),⟨fun c_25=> ((((h.2 c_22).2 c_23).2 c_24).1 c_25),fun c_25=> ((((h.2 c_22).2 c_23).2 c_24).2 c_25)⟩⟩⟩⟩⟩⟩
theorem ZrS(N:Nat)(t:Tree)(d x5:Int)(N0:NT)(Q:QT)(h:((decide (x5 < (t.kids.length:Int)))=true→((0:Int)≤x5∧x5 < (t.kids.length:Int))∧((InR (d - 1))∧(Z55 ((Tree.mk (Tree.kind (t.kids.getD x5.toNat Tree.nil)) (Tree.words (t.kids.getD x5.toNat Tree.nil)) (Tree.kids (t.kids.getD x5.toNat Tree.nil))),(d - 1),()))∧(Zhs ((Tree.mk (Tree.kind (t.kids.getD x5.toNat Tree.nil)) (Tree.words (t.kids.getD x5.toNat Tree.nil)) (Tree.kids (t.kids.getD x5.toNat Tree.nil))),(d - 1),()) < N)∧(((!(Z9 (Tree.mk (Tree.kind (t.kids.getD x5.toNat Tree.nil)) (Tree.words (t.kids.getD x5.toNat Tree.nil)) (Tree.kids (t.kids.getD x5.toNat Tree.nil))) (d - 1)))=true→Q .ret (L2 [(4,.c (.bool false))] []))∧((!(Z9 (Tree.mk (Tree.kind (t.kids.getD x5.toNat Tree.nil)) (Tree.words (t.kids.getD x5.toNat Tree.nil)) (Tree.kids (t.kids.getD x5.toNat Tree.nil))) (d - 1)))=false→(((!(bif ((bif (decide ((2:Int)≤t.kind)) then (decide (t.kind≤7)) else false) !=(((Tree.kind (t.kids.getD x5.toNat Tree.nil)):Int)==10)) then true else (bif (t.kind==9) then (((Tree.kind (t.kids.getD x5.toNat Tree.nil)):Int) !=1) else false))) && (bif (decide ((2:Int)≤t.kind)) then (decide (t.kind≤7)) else false))=true→InR (t.kind - 2))∧(((!(bif ((bif (decide ((2:Int)≤t.kind)) then (decide (t.kind≤7)) else false) !=(((Tree.kind (t.kids.getD x5.toNat Tree.nil)):Int)==10)) then true else (bif (t.kind==9) then (((Tree.kind (t.kids.getD x5.toNat Tree.nil)):Int) !=1) else false))) && (bif (decide ((2:Int)≤t.kind)) then (decide (t.kind≤7)) else false))=true→(0:Int)≤0∧0 < ((Tree.words (t.kids.getD x5.toNat Tree.nil)).length:Int))∧(((!(bif ((bif (decide ((2:Int)≤t.kind)) then (decide (t.kind≤7)) else false) !=(((Tree.kind (t.kids.getD x5.toNat Tree.nil)):Int)==10)) then true else (bif (t.kind==9) then (((Tree.kind (t.kids.getD x5.toNat Tree.nil)):Int) !=1) else false))) && (bif (decide ((2:Int)≤t.kind)) then (decide (t.kind≤7)) else false))=true→Zh8 ((t.kind - 2),(List.getD (Tree.words (t.kids.getD x5.toNat Tree.nil)) (Int.toNat 0) (0:Int)),()))∧(((bif (bif ((bif (decide ((2:Int)≤t.kind)) then (decide (t.kind≤7)) else false) !=(((Tree.kind (t.kids.getD x5.toNat Tree.nil)):Int)==10)) then true else (bif (t.kind==9) then (((Tree.kind (t.kids.getD x5.toNat Tree.nil)):Int) !=1) else false)) then true else (bif (bif (decide ((2:Int)≤t.kind)) then (decide (t.kind≤7)) else false) then (!(ZaZ (t.kind - 2) (List.getD (Tree.words (t.kids.getD x5.toNat Tree.nil)) (Int.toNat 0) (0:Int)))) else false))=true→Q .ret (L2 [(4,.c (.bool false))] []))∧((bif (bif ((bif (decide ((2:Int)≤t.kind)) then (decide (t.kind≤7)) else false) !=(((Tree.kind (t.kids.getD x5.toNat Tree.nil)):Int)==10)) then true else (bif (t.kind==9) then (((Tree.kind (t.kids.getD x5.toNat Tree.nil)):Int) !=1) else false)) then true else (bif (bif (decide ((2:Int)≤t.kind)) then (decide (t.kind≤7)) else false) then (!(ZaZ (t.kind - 2) (List.getD (Tree.words (t.kids.getD x5.toNat Tree.nil)) (Int.toNat 0) (0:Int)))) else false))=false→(InR (x5+1))∧(N0 (Z2T t d (x5+1)))))))))∧((decide (x5 < (t.kids.length:Int)))=false→Q .ret (L2 [(4,.c (.bool true))] []))):
  AW (Z1 (Z15 N)) Try.f37 ZaW [1,1,1,1,1,0,1,0,0] (Z2T t d x5) (xT N0 (xB 0 (SW (Z1 (Z15 N)) Try.f37 ZaW [1,1,1,1,1,1] Q))):=by
 have e:(AW (Z1 (Z15 N)) Try.f37 ZaW [1,1,1,1,1,0,1,0,0] (Z2T t d x5) (xT N0 (xB 0 (SW (Z1 (Z15 N)) Try.f37 ZaW [1,1,1,1,1,1] Q))))=(let zz5:=(decide ((2:Int)≤t.kind));let zz4:=(!(ZaZ (t.kind - 2) (List.getD (Tree.words (t.kids.getD x5.toNat Tree.nil)) (Int.toNat 0) (0:Int))));let zz3:=(!(Z9 (Tree.mk (Tree.kind (t.kids.getD x5.toNat Tree.nil)) (Tree.words (t.kids.getD x5.toNat Tree.nil)) (Tree.kids (t.kids.getD x5.toNat Tree.nil))) ((d:Int) - 1)));let zz2:=(((Tree.kind (t.kids.getD x5.toNat Tree.nil)):Int)==10);let zz1:=(bif zz5 then (decide (t.kind≤7)) else false);let zz0:=(bif (zz1 !=zz2) then true else (bif (t.kind==9) then (((Tree.kind (t.kids.getD x5.toNat Tree.nil)):Int) !=1) else false));(((decide ((x5:Int) < (t.kids.length:Int)))=true→((0:Int)≤x5∧x5 < (t.kids.length:Int))∧((InR ((d:Int) - 1))∧(Z55 ((Tree.mk (Tree.kind (t.kids.getD x5.toNat Tree.nil)) (Tree.words (t.kids.getD x5.toNat Tree.nil)) (Tree.kids (t.kids.getD x5.toNat Tree.nil))),((d:Int) - 1),()))∧(Zhs ((Tree.mk (Tree.kind (t.kids.getD x5.toNat Tree.nil)) (Tree.words (t.kids.getD x5.toNat Tree.nil)) (Tree.kids (t.kids.getD x5.toNat Tree.nil))),((d:Int) - 1),()) < N)∧((zz3=true→(Q .ret (L2 [(4,.c (.bool false))] [])))∧(zz3=false→(Z8 (zz5=true))∧(Z8 (zz5=true))∧(Z8 (zz5=true))∧((Z8 ((!(zz1 !=zz2))=true))∧(Z8 ((!(zz1 !=zz2))=true))∧(Z8 ((!(zz1 !=zz2))=true))∧(Z8 (((!(zz1 !=zz2)) && (t.kind==9))=true))∧(Z8 (((!(zz1 !=zz2)) && (t.kind==9))=true))∧((!(zz1 !=zz2))=true→(True→(!(zz1 !=zz2))=true))∧((!(zz1 !=zz2))=true→((t.kind==9)=true→((!(zz1 !=zz2)) && (t.kind==9))=true))∧((zz1 !=zz2)=false→(!(zz1 !=zz2))=true)∧(Z8 ((!zz0)=true))∧(Z8 (((!zz0) && zz1)=true))∧(Z8 (((!zz0) && zz1)=true))∧(((!zz0) && zz1)=true→InR (t.kind - 2))∧(Z8 (((!zz0) && zz1)=true))∧(Z8 (((!zz0) && zz1)=true))∧(((!zz0) && zz1)=true→(0:Int)≤0∧0 < ((Tree.words (t.kids.getD x5.toNat Tree.nil)).length:Int))∧(Z8 (((!zz0) && zz1)=true))∧(Z8 (((!zz0) && zz1)=true))∧(Z8 (((!zz0) && zz1)=true))∧(((!zz0) && zz1)=true→Zh8 ((t.kind - 2),(List.getD (Tree.words (t.kids.getD x5.toNat Tree.nil)) (Int.toNat 0) (0:Int)),()))∧(Z8 (((!zz0) && zz1)=true))∧((!zz0)=true→(True→(!zz0)=true))∧((!zz0)=true→(zz1=true→((!zz0) && zz1)=true))∧(zz0=false→(!zz0)=true)∧(((bif zz0 then true else (bif zz1 then zz4 else false))=true→(Q .ret (L2 [(4,.c (.bool false))] [])))∧((bif zz0 then true else (bif zz1 then zz4 else false))=false→(InR ((x5:Int)+1))∧(N0 (Z2T t d ((x5:Int)+1))))))))))∧((decide ((x5:Int) < (t.kids.length:Int)))=false→(Q .ret (L2 [(4,.c (.bool true))] []))))):=by kernel_rfl
 exact e.mpr ⟨fun c_26=> ⟨(h.1 c_26).1,⟨(h.1 c_26).2.1,(h.1 c_26).2.2.1,(h.1 c_26).2.2.2.1,⟨fun c_27=> ((h.1 c_26).2.2.2.2.1 c_27),fun c_27=> ⟨id,id,(by generalize (decide ((2:Int)≤t.kind))=b0;revert b0;decide),⟨id,id,id,id,id,(by generalize ((bif (decide ((2:Int)≤t.kind)) then (decide ((t.kind:Int)≤7)) else false) !=(((Tree.kind (t.kids.getD x5.toNat Tree.nil)):Int)==10))=b0;revert b0;decide),(by generalize ((bif (decide ((2:Int)≤t.kind)) then (decide ((t.kind:Int)≤7)) else false) !=(((Tree.kind (t.kids.getD x5.toNat Tree.nil)):Int)==10))=b0;generalize ((t.kind:Int)==9)=b1;revert b0 b1;decide),(by generalize ((bif (decide ((2:Int)≤t.kind)) then (decide ((t.kind:Int)≤7)) else false) !=(((Tree.kind (t.kids.getD x5.toNat Tree.nil)):Int)==10))=b0;revert b0;decide),id,id,id,((h.1 c_26).2.2.2.2.2 c_27).1,id,id,((h.1 c_26).2.2.2.2.2 c_27).2.1,id,id,id,((h.1 c_26).2.2.2.2.2 c_27).2.2.1,id,(by generalize ((bif (decide ((2:Int)≤t.kind)) then (decide ((t.kind:Int)≤7)) else false) !=(((Tree.kind (t.kids.getD x5.toNat Tree.nil)):Int)==10))=b0;generalize (((Tree.kind (t.kids.getD x5.toNat Tree.nil)):Int) !=1)=b1;generalize ((t.kind:Int)==9)=b2;revert b0 b1 b2;decide),(by generalize ((bif (decide ((2:Int)≤t.kind)) then (decide ((t.kind:Int)≤7)) else false) !=(((Tree.kind (t.kids.getD x5.toNat Tree.nil)):Int)==10))=b0;generalize (((Tree.kind (t.kids.getD x5.toNat Tree.nil)):Int) !=1)=b1;generalize (decide ((2:Int)≤t.kind))=b2;generalize (decide ((t.kind:Int)≤7))=b3;generalize ((t.kind:Int)==9)=b4;revert b0 b1 b2 b3 b4;decide),(by generalize ((bif (decide ((2:Int)≤t.kind)) then (decide ((t.kind:Int)≤7)) else false) !=(((Tree.kind (t.kids.getD x5.toNat Tree.nil)):Int)==10))=b0;generalize (((Tree.kind (t.kids.getD x5.toNat Tree.nil)):Int) !=1)=b1;generalize ((t.kind:Int)==9)=b2;revert b0 b1 b2;decide),⟨fun c_28=> (((h.1 c_26).2.2.2.2.2 c_27).2.2.2.1 c_28),fun c_28=> ⟨(((h.1 c_26).2.2.2.2.2 c_27).2.2.2.2 c_28).1,(((h.1 c_26).2.2.2.2.2 c_27).2.2.2.2 c_28).2⟩⟩⟩⟩⟩⟩⟩,fun c_26=> (h.2 c_26)⟩
def Zxx(N:Nat)(t:Tree)(d:Int):Prop:=AW (Z1 (Z15 N)) Try.f37 ZaW [] (Zn (ZjA.can (t,d,())) []) (EQ Try.f37 (ZoF (t,d,())) [])
theorem ZvE(c79:CT 79 ZbG)(hb:∀ (N:Nat) (t:Tree) (d:Int) (_:Unit),Z55 (t,d,())→Zhs (t,d,()) < N+1→Zxx N t d):CT 37 Z4r:=
 Jw (μ:=Zhs) (l:=[(79,ZbG)]) Zo rfl (⟨c79,trivial⟩) ZaW Try.func37 rfl rfl 2 (fun _=> rfl) (by decide) (fun N ⟨t,d,_⟩=> hb N t d ())
end
end
end Go.AM.Ytpjenobkibfpcaa
namespace Go.AM.Ytpjenobkibfpcaa
open Go.AM Go.Proofs
theorem Z4i:∀ (l:List Int),trim l=[]↔∀ i:Nat,l.getD i 0=0
 | []=> by simp [trim]
 | x ::r=> by
  have ih:=Z4i r
  constructor
  ·intro h i
   simp only [trim] at h
   split at h
   ·rename_i hr
    split at h
    ·cases i with
     | zero=> simpa
     | succ i=> simpa using (ih.1 hr) i
    ·cases h
   ·cases h
  ·intro h
   have h0:=h 0
   have hr:trim r=[]:=ih.2 fun i=> by simpa using h (i+1)
   simp only [trim,hr]
   simp at h0
   simp [h0]
theorem Z24(x:Int)(r:List Int):trim (x ::r)=if trim r=[]∧x=0 then [] else x ::trim r:=by
 simp only [trim]
 split
 ·rename_i h
  simp only [h]
  split <;> simp_all
 ·rename_i h
  simp [h]
theorem Z9W:∀ (a b:List Int),trim a=trim b↔∀ i:Nat,a.getD i 0=b.getD i 0
 | [],b=> by
  rw [show trim []=[] from rfl,eq_comm,Z4i]
  simp [eq_comm]
 | x ::r,[]=> by
  rw [show trim []=[] from rfl,Z4i]
  simp
 | x ::r,y ::s=> by
  have ih:=Z9W r s
  constructor
  ·intro h i
   have key:x=y∧trim r=trim s:=by
    rw [Z24,Z24] at h
    split at h <;> split at h <;> simp_all
   cases i with
   | zero=> simpa using key.1
   | succ i=> simpa using ih.1 key.2 i
  ·intro h
   have h0:x=y:=by simpa using h 0
   have hr:trim r=trim s:=ih.2 fun i=> by simpa using h (i+1)
   rw [Z24,Z24,h0,hr]
def Ztp(l:List Tree):Prop:=∀ x∈l,x.kind=0→x=Tree.nil
theorem JP(x:Tree)(r:List Tree):Yf (x ::r)=if Yf r=[]∧x.kind=0 then [] else x ::Yf r:=by
 simp only [Yf]
 split
 ·rename_i h
  simp only [h]
  split <;> simp_all
 ·rename_i h
  simp [h]
theorem Z3o:∀ (l:List Tree),Ztp l→(Yf l=[]↔∀ i:Nat,l.getD i Tree.nil=Tree.nil)
 | [],_=> by simp [Yf]
 | x ::r,hn=> by
  have ih:=Z3o r (fun y hy=> hn y (List.mem_cons_of_mem _ hy))
  have hx:=hn x (List.mem_cons_self ..)
  rw [JP]
  constructor
  ·intro h i
   split at h
   ·rename_i hc
    cases i with
    | zero=> simpa using hx hc.2
    | succ i=> simpa using (ih.1 hc.1) i
   ·cases h
  ·intro h
   have h0:x=Tree.nil:=by simpa using h 0
   have hr:Yf r=[]:=ih.2 fun i=> by simpa using h (i+1)
   rw [if_pos ⟨hr,by rw [h0];rfl⟩]
theorem Z7A:∀ (a b:List Tree),Ztp a→Ztp b→(Yf a=Yf b↔∀ i:Nat,a.getD i Tree.nil=b.getD i Tree.nil)
 | [],b,_,hb=> by
  rw [show Yf []=[] from rfl,eq_comm,Z3o b hb]
  simp [eq_comm]
 | x ::r,[],ha,_=> by
  rw [show Yf []=[] from rfl,Z3o _ ha]
  simp
 | x ::r,y ::s,ha,hb=> by
  have ih:=Z7A r s (fun y hy=> ha y (List.mem_cons_of_mem _ hy)) (fun y hy=> hb y (List.mem_cons_of_mem _ hy))
  have hx:=ha x (List.mem_cons_self ..)
  have hy:=hb y (List.mem_cons_self ..)
  constructor
  ·intro h i
   have key:x=y∧Yf r=Yf s:=by
    rw [JP,JP] at h
    split at h <;> split at h
    ·rename_i h1 h2
     exact ⟨(hx h1.2).trans (hy h2.2).symm,h1.1.trans h2.1.symm⟩
    ·cases h
    ·cases h
    ·simpa using h
   cases i with
   | zero=> simpa using key.1
   | succ i=> simpa using ih.1 key.2 i
  ·intro h
   have h0:x=y:=by simpa using h 0
   have hr:Yf r=Yf s:=ih.2 fun i=> by simpa using h (i+1)
   rw [JP,JP,h0,hr]
theorem Zef:Z7 Tree.nil=Tree.nil:=by simp [Tree.nil,Z7]
theorem Z7j(t:Tree):(Z7 t).kind=t.kind:=by
 obtain ⟨k,w,ks⟩:=t
 simp only [Z7]
 split
 ·rename_i h;simp [h,Tree.nil]
 ·split
  ·rename_i h;simp [h]
  ·try rfl
theorem Z7l:∀ (l:List Tree),Ztp (Yl l)
 | []=> by intro x hx;simp [Yl] at hx
 | t ::r=> by
  intro x hx hk
  simp only [Yl,List.mem_cons] at hx
  rcases hx with rfl | hx
  ·rw [Z7j] at hk
   obtain ⟨k,w,ks⟩:=t
   simp only [Tree.kind_mk] at hk
   simp [Z7,hk]
  ·exact Z7l r x hx hk
theorem Z0q:∀ (l:List Tree) (i:Nat),(Yl l).getD i Tree.nil=Z7 (l.getD i Tree.nil)
 | [],i=> by simp [Yl,Zef]
 | t ::r,0=> by simp [Yl]
 | t ::r,i+1=> by simpa [Yl] using Z0q r i
theorem Z8f(a b:List Tree):Yl a=Yl b↔a.length=b.length∧∀ i:Nat,Z7 (a.getD i Tree.nil)=Z7 (b.getD i Tree.nil):=by
 constructor
 ·intro h
  refine ⟨by rw [←Z2a a,h,Z2a],fun i=> ?_⟩
  rw [←Z0q,h,Z0q]
 ·rintro ⟨hl,h⟩
  apply List.ext_getElem (by rw [Z2a,Z2a,hl])
  intro i h1 h2
  have:=h i
  rw [←Z0q,←Z0q] at this
  simpa [List.getD,h1,h2] using this
theorem YP(a b:Tree):Z7 a=Z7 b↔a.kind=b.kind∧(a.kind=0∨(if a.kind=1 then (∀ i:Nat,a.words.getD i 0=b.words.getD i 0) else a.words=b.words∧a.kids.length=b.kids.length)∧∀ i:Nat,Z7 (a.kids.getD i Tree.nil)=Z7 (b.kids.getD i Tree.nil)):=by
 obtain ⟨k,w,ks⟩:=a
 obtain ⟨k',w',ks'⟩:=b
 show _↔k=k'∧(k=0∨(if k=1 then (∀ i:Nat,w.getD i 0=w'.getD i 0) else w=w'∧ks.length=ks'.length)∧∀ i:Nat,Z7 (ks.getD i Tree.nil)=Z7 (ks'.getD i Tree.nil))
 by_cases hk:k=k'
 ·subst hk
  simp only [true_and]
  by_cases h0:k=0
  ·simp [Z7,h0]
  ·by_cases h1:k=1
   ·subst h1
    simp only [Z7,if_neg h0,if_true,Tree.mk.injEq,true_and,Z9W,Z7A _ _ (Z7l _) (Z7l _),Z0q]
    simp
   ·simp only [Z7,if_neg h0,if_neg h1,Tree.mk.injEq,true_and,Z8f]
    constructor
    ·rintro ⟨h2,h3,h4⟩;exact .inr ⟨⟨h2,h3⟩,h4⟩
    ·rintro (h | ⟨⟨h2,h3⟩,h4⟩)
     ·exact absurd h h0
     ·exact ⟨h2,h3,h4⟩
 ·simp only [hk,false_and,iff_false]
  intro h
  have:=congrArg Tree.kind h
  rw [Z7j,Z7j] at this
  exact hk this
end Go.AM.Ytpjenobkibfpcaa
