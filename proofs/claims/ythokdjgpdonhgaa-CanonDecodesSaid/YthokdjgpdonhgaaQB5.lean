import Derived.Test.YthokdjgpdonhgaaBmZ
import Derived.Test.YthokdjgpdonhgaaChecked
import Derived.Test.YthokdjgpdonhgaaQD2
set_option linter.unusedSimpArgs false
set_option linter.unusedVariables false
namespace Go.AM.Ythokdjgpdonhgaa
open Go.AM Go.Proofs
def el:Ty->TypeId
 | .u64=> 26
 | .u8=> 5
 | .int=> 3
 | .words=> 22
 | .tree=> 53
 | .ptr=> 89
 | .loc=> 91
 | .arena=> 84
 | .ref=> 31
 | .xref=> 42
 | .limits=> 60
def tb:Tables U:=
 {el:=el
  sl:=[(22,.u64),(29,.words),(39,.int),(51,.tree)]
  var:=[(2,false,[.int .i64 0]),
   (3,false,[.int .i64 0]),
   (4,false,[.bool false]),
   (5,false,[.int .u8 0]),
   (6,false,[.int .u8 0]),
   (7,true,[.int .i64 0,.int .i64 0,.bool false,.int .u8 0]),
   (8,true,[.int .i64 0,.int .i64 0,.bool false,.int .u8 0]),
   (12,false,[.int .u64 0]),
   (15,false,[.nilp]),
   (16,false,[.nilp]),
   (17,false,[.nilp]),
   (18,true,[.nilp]),
   (19,true,[.nilp]),
   (21,false,[.int .i32 0]),
   (22,false,[.nils]),
   (26,false,[.int .u64 0]),
   (27,false,[.nilp]),
   (29,false,[.nils]),
   (30,true,[.nilp,.int .i64 0,.int .i64 0,.int .i64 0,.int .i64 0,.int .i64 0,.int .i64 0,.int .u64 0]),
   (31,true,[.nilp,.int .i64 0,.int .i64 0,.int .i64 0,.int .i64 0,.int .i64 0,.int .i64 0,.int .u64 0]),
   (32,false,[.int .i64 0]),
   (39,false,[.nils]),
   (41,true,[.int .i64 0,.int .i64 0,.int .i64 0,.int .i64 0,.int .i64 0,.int .i64 0,.int .u64 0]),
   (42,true,[.int .i64 0,.int .i64 0,.int .i64 0,.int .i64 0,.int .i64 0,.int .i64 0,.int .u64 0]),
   (51,false,[.nils]),
   (52,true,[.int .i64 0,.nils,.nils]),
   (53,true,[.int .i64 0,.nils,.nils]),
   (59,true,[.int .i64 0,.int .i64 0,.int .i64 0,.int .i64 0]),
   (60,true,[.int .i64 0,.int .i64 0,.int .i64 0,.int .i64 0]),
   (70,false,[.int .u32 0]),
   (71,false,[.int .u64 0]),
   (83,true,[.nils,.int .i64 0,.int .i64 0,.int .i64 0]),
   (84,true,[.nils,.int .i64 0,.int .i64 0,.int .i64 0]),
   (88,true,[.int .i64 0,.int .i64 0,.int .i64 0,.int .i64 0,.int .i64 0,.int .i64 0,.int .i64 0,.bool false]),
   (89,true,[.int .i64 0,.int .i64 0,.int .i64 0,.int .i64 0,.int .i64 0,.int .i64 0,.int .i64 0,.bool false]),
   (90,true,[.int .i64 0,.int .i64 0,.int .i64 0,.int .i64 0,.int .i64 0,.int .i64 0,.int .i64 0,.bool false,.int .i64 0,.int .i64 0]),
   (91,true,[.int .i64 0,.int .i64 0,.int .i64 0,.int .i64 0,.int .i64 0,.int .i64 0,.int .i64 0,.bool false,.int .i64 0,.int .i64 0]),
   (94,true,[.int .i64 0,.int .i64 0,.int .i64 0,.int .i64 0,.int .i64 0,.int .i64 0,.int .i64 0,.bool false]),
   (95,true,[.int .i64 0,.int .i64 0,.int .i64 0,.int .i64 0,.int .i64 0,.int .i64 0,.int .i64 0,.bool false,.int .i64 0,.int .i64 0]),
   (96,true,[.int .i64 0,.int .i64 0,.int .i64 0,.int .i64 0,.int .i64 0,.int .i64 0,.int .i64 0,.bool false,.int .i64 0,.int .i64 0]),
   (105,false,[.nilp]),
   (106,true,[.nils]),
   (107,true,[.nils]),
   (110,false,[.nilp]),
   (111,true,[.int .i64 0,.int .i64 0]),
   (112,true,[.int .i64 0,.int .i64 0]),
   (138,true,[.int .i64 0,.int .i64 0,.int .i64 0,.int .i64 0,.int .i64 0,.int .i64 0]),
   (142,true,[.int .i64 0,.int .i64 0,.int .i64 0,.int .i64 0,.int .i64 0,.int .i64 0,.int .i64 0]),
   (149,false,[.int .u8 0]),
   (150,false,[.int .u8 0]),
   (152,false,[.nilp]),
   (153,false,[.int .i32 0]),
   (154,false,[.int .i32 0])]
  fld:=[(7,0,0,2),(7,1,1,3),(7,2,2,4),(7,3,3,6),(8,0,0,2),(8,1,1,3),(8,2,2,4),(8,3,3,6),(18,0,0,17),(19,0,0,17),(30,0,0,27),(30,1,1,3),(30,2,2,3),(30,3,3,3),(30,4,4,3),(30,5,5,3),(30,6,6,3),(30,7,7,26),(31,0,0,27),(31,1,1,3),(31,2,2,3),(31,3,3,3),(31,4,4,3),(31,5,5,3),(31,6,6,3),(31,7,7,26),(41,0,0,3),(41,1,1,3),(41,2,2,3),(41,3,3,3),(41,4,4,3),(41,5,5,3),(41,6,6,26),(42,0,0,3),(42,1,1,3),(42,2,2,3),(42,3,3,3),(42,4,4,3),(42,5,5,3),(42,6,6,26),(52,0,0,3),(52,1,1,22),(52,2,2,51),(53,0,0,3),(53,1,1,22),(53,2,2,51),(59,0,0,3),(59,1,1,3),(59,2,2,3),(59,3,3,3),(60,0,0,3),(60,1,1,3),(60,2,2,3),(60,3,3,3),(83,0,0,29),(83,1,1,3),(83,2,2,3),(83,3,3,3),(84,0,0,29),(84,1,1,3),(84,2,2,3),(84,3,3,3),(88,0,0,3),(88,1,1,3),(88,2,2,3),(88,3,3,3),(88,4,4,3),(88,5,5,3),(88,6,6,3),(88,7,7,4),(89,0,0,3),(89,1,1,3),(89,2,2,3),(89,3,3,3),(89,4,4,3),(89,5,5,3),(89,6,6,3),(89,7,7,4),(90,0,0,89),(90,1,8,3),(90,2,9,3),(91,0,0,89),(91,1,8,3),(91,2,9,3),(94,0,0,3),(94,1,1,3),(94,2,2,3),(94,3,3,3),(94,4,4,3),(94,5,5,3),(94,6,6,3),(94,7,7,4),(95,0,0,94),(95,1,8,3),(95,2,9,3),(96,0,0,94),(96,1,8,3),(96,2,9,3),(106,0,0,22),(107,0,0,22),(111,0,0,3),(111,1,1,3),(112,0,0,3),(112,1,1,3)]
  arr:=[(138,6,3),(142,7,3)]
  eqs:=[7,8,41,42,59,60,88,89,94,111,112] }
def cfg:Cfg U:=tb.cfg K
theorem Zrv:tb.var.all (ZkY Try.prog)=true:=by kernel_rfl
theorem Ztg:tb.sl.all (slB Try.prog tb.el)=true:=by kernel_rfl
theorem ZrN:tb.fld.all (Zpt Try.prog)=true:=by kernel_rfl
theorem ZrT:tb.arr.all (ZpN Try.prog)=true:=by kernel_rfl
theorem Zth:∀ t,elB Try.prog K tb t=true:=by
 intro t
 cases t
 ·kernel_rfl
 ·kernel_rfl
 ·kernel_rfl
 ·kernel_rfl
 ·kernel_rfl
 ·kernel_rfl
 ·kernel_rfl
 ·kernel_rfl
 ·kernel_rfl
 ·kernel_rfl
 ·kernel_rfl
theorem Z9:CfgOk Try.prog cfg:=Zfh Ztq Zrv Ztg ZrN ZrT Zth (by kernel_rfl) (by kernel_rfl)
abbrev sU(T:Ty)(l:List (El T))(t:Tail):C U:= .slice (U:=U) T l t
noncomputable abbrev AW(K:Known U)(f:Func)(lv:Z6 U)(p:List Nat):=awp cfg K (Y8 cfg K) f.ntmps lv (cd f p)
noncomputable abbrev SW(K:Known U)(f:Func)(lv:Z6 U)(p:List Nat):=ZgD cfg K (Y8 cfg K) f.ntmps lv (cd f p)
abbrev EQ(f:Func):=Zx cfg f.ntmps f.results.toList
abbrev QT:=AExit->LSt U->Prop
abbrev NT:=LSt U->Prop
abbrev CT(k:FuncId)(s:Fs U):Prop:=Contract Try.prog cfg k s
abbrev xB:=@AExit.inBlock U
abbrev xT:=@AExit.then U
abbrev ci(x:Int):C U:= .int .i64 x
abbrev L2(e:List (Nat × V U))(m:List (Name × List (C U))):LSt U:=⟨e,m,[]⟩
abbrev pL(n:Nat):Nat × V U:=(n,.ptr (.loc n) 0)
abbrev pB(n:Nat)(b:Bool):Nat × V U:=(n,.c (.bool b))
abbrev pI(n:Nat)(x:Int):Nat × V U:=(n,.c (.int .i64 x))
def lvl(l:List (List Nat × List Nat)):Z6 U:=fun i=> ((l.getD i ([],[])).1.map fun k=> (k,[]),(l.getD i ([],[])).2.map fun k=> (.loc k,[]))
abbrev zc0:List (C U):=[.int .i64 0,.int .i64 0,.int .i64 0,.int .i64 0,.int .i64 0,.int .i64 0,.int .i64 0,.bool false]
abbrev zc1:List (C U):=[.int .i64 0,.int .i64 0,.int .i64 0,.int .i64 0,.int .i64 0,.int .i64 0,.int .i64 0,.bool false,.int .i64 0,.int .i64 0]
abbrev zc2:List (C U):=[.nilp,.int .i64 0,.int .i64 0,.int .i64 0,.int .i64 0,.int .i64 0,.int .i64 0,.int .u64 0]
abbrev zc3:List (C U):=[.int .i64 0,.int .i64 0,.int .i64 0,.int .i64 0,.int .i64 0,.int .i64 0,.int .u64 0]
noncomputable section
def ZjK:ArgL (Int × Unit):=(.cons (Zr .i64) .nil)
def Z5G(a:Int × Unit):Prop:=True
def ZmW(a:Int × Unit):V U:= .c (ci (wd a.1))
def Jl:Fs U:=fs ZjK (fun a=> [Z5G a]) ZmW
def Z9Z(a:Int × Unit):V U:= .tup [(false,[ci (if wd a.1 < 0 then 0 else wd a.1)]),(false,[.bool (decide (0<=wd a.1))])]
def Yc:Fs U:=fs ZjK (fun a=> [Z5G a]) Z9Z
def Zjg:ArgL (List Int × Int × Unit):=(.cons (aSl .u64) (.cons (Zr .i64) .nil))
def ZdD(a:List Int × Int × Unit):Prop:=okW a.1/\a.2.1<=4611686018427387904
def ZmF(a:List Int × Int × Unit):V U:= .c (.int .u64 (Zaz a.1 a.2.1))
def Z6H:Fs U:=fs Zjg (fun a=> [ZdD a]) ZmF
def Zjx:ArgL (List Int × Int × Int × Unit):=(.cons (aSl .u64) (.cons (Zr .i64) (.cons (Zr .i64) .nil)))
def ZdK(a:List Int × Int × Int × Unit):Prop:=okW a.1
def ZmS(a:List Int × Int × Int × Unit):V U:= .c (.int .u64 (YW a.1 a.2.1 a.2.2.1))
def Z6W:Fs U:=fs Zjx (fun a=> [ZdK a]) ZmS
def Zjh:ArgL (Int × Int × Int × Unit):=(.cons (Zr .u64) (.cons (Zr .i64) (.cons (Zr .i64) .nil)))
def YY(a:Int × Int × Int × Unit):Prop:=(0<=a.1/\a.1 < 18446744073709551616)/\0<=a.2.1/\a.2.1<=64/\0<=a.2.2.1/\a.2.2.1<=32
def ZmG(a:Int × Int × Int × Unit):V U:= .c (ci (ZJ a.1 a.2.1 a.2.2.1))
def Z6I:Fs U:=fs Zjh (fun a=> [YY a]) ZmG
def ZjA:ArgL (Int × Unit):=(.cons (Zr .u64) .nil)
def Z5F(a:Int × Unit):Prop:=(0<=a.1/\a.1 < 18446744073709551616)
def ZgO(a:Int × Unit):V U:= .agg (enc .ptr (Z4 a.1))
def Z1H:Fs U:=fs ZjA (fun a=> [Z5F a]) ZgO
def ZeU:ArgL (Ptr × Unit):=(.cons (aEl .ptr) .nil)
def Zac(a:Ptr × Unit):Prop:=OkP a.1
def Zh5(a:Ptr × Unit):V U:= .c (ci (ZF a.1))
def Z3K:Fs U:=fs ZeU (fun a=> [Zac a]) Zh5
def ZeL:ArgL (Int × Int × Unit):=(.cons (Zr .i64) (.cons (Zr .i64) .nil))
def Z0I(a:Int × Int × Unit):Prop:=True
def ZgY(a:Int × Int × Unit):V U:= .c (.bool (decide (0<=a.1/\a.1<=a.2.1)))
def Z0s:Fs U:=fs ZeL (fun a=> [Z0I a]) ZgY
def Z4Z(a:Ptr × Unit):V U:= .tup [(false,[ci (if ZF a.1 < 0 then 0 else ZF a.1)]),(false,[.bool (decide (0<=ZF a.1))])]
def Z3H:Fs U:=fs ZeU (fun a=> [Zac a]) Z4Z
def ZiK:List (FuncId × Fs U):=[]
def Zp4:Z6 U:=lvl [([0],[]),([3],[]),([3,4],[]),([2],[]),([3,6],[]),([2],[]),([3,8],[]),([2],[]),([3,10],[]),([2],[]),([3,12],[]),([2],[]),([14],[]),([2],[]),([2],[])]
abbrev A56(p:List Nat):=AW (Z1 ZiK) Try.f56 Zp4 p
theorem ZsN(c:Int)(Q:QT)(h:(((c==0)=true->(Q .ret (L2 [pI 2 0] [])))/\((c==0)=false->(((c==1)=true->(Q .ret (L2 [pI 2 1] [])))/\((c==1)=false->(((c==2)=true->(Q .ret (L2 [pI 2 8] [])))/\((c==2)=false->(((c==3)=true->(Q .ret (L2 [pI 2 16] [])))/\((c==3)=false->(((c==4)=true->(Q .ret (L2 [pI 2 32] [])))/\((c==4)=false->(((c==5)=true->(Q .ret (L2 [pI 2 64] [])))/\((c==5)=false->(Q .ret (L2 [pI 2 (-1)] []))))))))))))))):
  A56 [] (L2 [pI 0 c] []) Q:=
 Eq.mpr (by kernel_rfl) h
def Zqw(c:Int):Prop:=AW (Z1 ZiK) Try.f56 Zp4 [] (Zb (ZjK.can (c,())) []) (EQ Try.f56 (ZmW (c,())) [])
theorem Zod(hb:∀ (c:Int) (_:Unit),Z5G (c,())->Zqw c):CT 56 Jl:=
 Z0 (l:=[]) Z9 rfl trivial Zp4 Try.func56 rfl rfl 1 (fun _=> rfl) (by decide) (fun ⟨c,_⟩=> hb c ())
def Zi8:Z6 U:=lvl [([0],[]),([0,4],[4]),([0,4,11],[4]),([2,3],[]),([2,3],[])]
abbrev ZtB(p:List Nat):=AW (Z1 ZiK) Try.f110 Zi8 p
theorem Zrk(c:Int)(Q:QT)(h:let z0:=bif (decide (c < 0)) then true else (decide ((6:Int)<=c));((Tr ((!(decide (c < 0)))=true))/\((decide (c < 0))=false->(!(decide (c < 0)))=true)/\((z0=true->(Q .ret (L2 [pI 2 0,pB 3 false] [])))/\(z0=false->((0:Int)<=c/\c < ((6:Nat):Int))/\(Q .ret (L2 [pI 2 (List.getD [0,1,8,16,32,64] c.toNat 0),pB 3 true] [])))))):
  ZtB [] (L2 [pI 0 c] []) Q:=
 Eq.mpr (by kernel_rfl) h
def Zmq(c:Int):Prop:=AW (Z1 ZiK) Try.f110 Zi8 [] (Zb (ZjK.can (c,())) []) (EQ Try.f110 (Z9Z (c,())) [])
theorem Zlr(hb:∀ (c:Int) (_:Unit),Z5G (c,())->Zmq c):CT 110 Yc:=
 Z0 (l:=[]) Z9 rfl trivial Zi8 Try.func110 rfl rfl 1 (fun _=> rfl) (by decide) (fun ⟨c,_⟩=> hb c ())
def Ziw:List (FuncId × Fs U):=[(110,Yc)]
def ZoQ:Z6 U:=lvl [([0],[]),([2,3],[])]
abbrev A83(p:List Nat):=AW (Z1 Ziw) Try.f83 ZoQ p
theorem Zsn(c:Int)(Q:QT)(h:((Z5G (c,()))/\(Q .ret (L2 [pI 2 (if wd c < 0 then 0 else wd c),pB 3 (decide (0<=wd c))] [])))):
  A83 [] (L2 [pI 0 c] []) Q:=
 Eq.mpr (by kernel_rfl) h
def Zq6(c:Int):Prop:=AW (Z1 Ziw) Try.f83 ZoQ [] (Zb (ZjK.can (c,())) []) (EQ Try.f83 (Z9Z (c,())) [])
theorem ZnQ(Z3A:CT 110 Yc)(hb:∀ (c:Int) (_:Unit),Z5G (c,())->Zq6 c):CT 83 Yc:=
 Z0 (l:=[(110,Yc)]) Z9 rfl (⟨Z3A,trivial⟩) ZoQ Try.func83 rfl rfl 1 (fun _=> rfl) (by decide) (fun ⟨c,_⟩=> hb c ())
def ZlD:Z6 U:=lvl [([0,1],[]),([0,1,15],[]),([4],[]),([1,5],[]),([1,5,6],[]),([1,5,6,24],[]),([1,5,6],[]),([1,5,6],[]),([4],[])]
def Z4h(l:List Int)(a x5 x6:Int):LSt U:=(L2 [pI 1 a,(5,.c (.int .u64 x5)),pI 6 x6] [])
abbrev A93(p:List Nat):=AW (Z1 ZiK) Try.f93 ZlD p
abbrev S93(p:List Nat):=SW (Z1 ZiK) Try.f93 ZlD p
theorem Zsd(l:List Int)(a:Int)(Q:QT)(h:let z1:= !(decide (a < 0));let z0:=IntKind.wrap .i64 (Int.tdiv a 64);let z2:=bif (decide (a < 0)) then true else (decide (((l.length:Int):Int)<=z0));((Tr (z1=true))/\(z1=true->(64:Int)≠0)/\(Tr (z1=true))/\(Tr (z1=true))/\(Tr (z1=true))/\((decide (a < 0))=false->z1=true)/\((z2=true->(Q .ret (L2 [(4,.c (.int .u64 0))] [])))/\(z2=false->((64:Int)≠0)/\((0:Int)<=z0/\z0 < (l.length:Int))/\(Zk (A93 [1,1,1,0,1,0,0]) (Z4h l a (List.getD l (Int.toNat z0) (0:Int)) 0) (xB 0 (S93 [1,1,1,1] Q))))))):
  A93 [] (L2 [(0,.c (sU .u64 l .unk)),pI 1 a] []) Q:=
 Eq.mpr (by kernel_rfl) h
theorem Zkl(l:List Int)(a x5 x6:Int)(N0:NT)(Q:QT)(h:let z0:=decide (x6 < (Int.tmod a 64));((64:Int)≠0)/\((z0=true->((2:Int)≠0)/\((InR (x6+1))/\(N0 (Z4h l a (IntKind.wrap .u64 (Int.tdiv x5 2)) (x6+1)))))/\(z0=false->((2:Int)≠0)/\(Q .ret (L2 [(4,.c (.int .u64 (Int.tmod x5 2)))] []))))):
  A93 [1,1,1,0,1,0,0] (Z4h l a x5 x6) (xT N0 (xB 0 (S93 [1,1,1,1] Q))):=
 Eq.mpr (by kernel_rfl) h
def ZpW(l:List Int)(a:Int):Prop:=AW (Z1 ZiK) Try.f93 ZlD [] (Zb (Zjg.can (l,a,())) []) (EQ Try.f93 (ZmF (l,a,())) [])
theorem ZnG(hb:∀ (l:List Int) (a:Int) (_:Unit),ZdD (l,a,())->ZpW l a):CT 93 Z6H:=
 Z0 (l:=[]) Z9 rfl trivial ZlD Try.func93 rfl rfl 2 (fun _=> rfl) (by decide) (fun ⟨l,a,_⟩=> hb l a ())
def ZcE:List (FuncId × Fs U):=[(56,Jl),(93,Z6H)]
def ZlL:Z6 U:=lvl [([0,1,2],[]),([0,2,7],[]),([0,2,7,21],[]),([6],[]),([0,2,7,8],[]),([0,2,7,8,9],[]),([0,2,7,8,9,25],[]),([0,2,7,8,9],[]),([0,2,7,8,9],[]),([6],[])]
def Z4r(l:List Int)(c i x8 x9:Int):LSt U:=(L2 [(0,.c (sU .u64 l .unk)),pI 2 i,pI 7 (wd c),(8,.c (.int .u64 x8)),pI 9 x9] [])
abbrev A69(p:List Nat):=AW (Z1 ZcE) Try.f69 ZlL p
abbrev S69(p:List Nat):=SW (Z1 ZcE) Try.f69 ZlL p
theorem ZsA(l:List Int)(c i:Int)(Q:QT)(h:let z1:=decide (((wd c):Int) < 1);let z0:=bif z1 then true else (decide (i < 0));let z2:=bif z0 then true else (decide ((1099511627776:Int) < i));((Z5G (c,()))/\((Tr ((!z1)=true))/\(z1=false->(!z1)=true)/\(Tr ((!z0)=true))/\(z0=false->(!z0)=true)/\((z2=true->(Q .ret (L2 [(6,.c (.int .u64 0))] [])))/\(z2=false->((InR (((wd c):Int) - 1))/\(Zk (A69 [1,1,1,1,0,1,0,0]) (Z4r l c i 0 (((wd c):Int) - 1)) (xB 0 (S69 [1,1,1,1,1] Q))))))))):
  A69 [] (L2 [(0,.c (sU .u64 l .unk)),pI 1 c,pI 2 i] []) Q:=
 Eq.mpr (by kernel_rfl) h
theorem ZkG(l:List Int)(c i x8 x9:Int)(N0:NT)(Q:QT)(h:(((decide ((0:Int)<=x9))=true->(InR (i*(wd c)))/\(InR (((i*(wd c)):Int)+x9))/\(ZdD (l,(((i*(wd c)):Int)+x9),()))/\((InR (x9 - 1))/\(N0 (Z4r l c i (IntKind.wrap .u64 (((IntKind.wrap .u64 (x8*2)):Int)+(Zaz l (((i*(wd c)):Int)+x9)))) (x9 - 1)))))/\((decide ((0:Int)<=x9))=false->(Q .ret (L2 [(6,.c (.int .u64 x8))] []))))):
  A69 [1,1,1,1,0,1,0,0] (Z4r l c i x8 x9) (xT N0 (xB 0 (S69 [1,1,1,1,1] Q))):=
 Eq.mpr (by kernel_rfl) h
def Zqj(l:List Int)(c i:Int):Prop:=AW (Z1 ZcE) Try.f69 ZlL [] (Zb (Zjx.can (l,c,i,())) []) (EQ Try.f69 (ZmS (l,c,i,())) [])
theorem Zo0(c56:CT 56 Jl)(c93:CT 93 Z6H)(hb:∀ (l:List Int) (c:Int) (i:Int) (_:Unit),ZdK (l,c,i,())->Zqj l c i):CT 69 Z6W:=
 Z0 (l:=[(56,Jl),(93,Z6H)]) Z9 rfl (⟨c56,c93,trivial⟩) ZlL Try.func69 rfl rfl 3 (fun _=> rfl) (by decide) (fun ⟨l,c,i,_⟩=> hb l c i ())
def ZoP:Z6 U:=lvl [([0,1,2],[]),([0,2,7,8],[]),([0,2,7,37],[]),([6],[]),([7,9],[]),([7,9,51],[]),([6],[]),([6],[])]
abbrev A84(p:List Nat):=AW (Z1 Ziw) Try.f84 ZoP p
theorem Zsm(l:List Int)(c i:Int)(Q:QT)(h:∀ y_1,y_1=(IntKind.wrap .i64 (Int.tdiv (i*(if wd c < 0 then 0 else wd c)) 64))->let z9:=InR (i*(if wd c < 0 then 0 else wd c));let z8:=((if wd c < 0 then 0 else wd c):Int)==64;let z7:=Int.tmod (i*(if wd c < 0 then 0 else wd c)) 64;let z6:=IntKind.bits .u64;let z5:= !(decide (0<=wd c));let z2:=Int.fdiv (l.getD y_1.toNat (0:Int)) (2 ^ (min (Int.toNat z7) z6));let z1:=bif z5 then true else (((if wd c < 0 then 0 else wd c):Int)==0);let z3:=bif z1 then true else (decide (i < 0));let z0:=bif z3 then true else (decide ((1099511627776:Int) < i));let z4:=bif z0 then true else (decide (((l.length:Int):Int)<=y_1));((Z5G (c,()))/\((Tr ((!z5)=true))/\(z5=false->(!z5)=true)/\(Tr ((!z1)=true))/\(z1=false->(!z1)=true)/\(Tr ((!z3)=true))/\(z3=false->(!z3)=true)/\(Tr ((!z0)=true))/\(Tr ((!z0)=true))/\((!z0)=true->InR (i*(if wd c < 0 then 0 else wd c)))/\(Tr ((!z0)=true))/\((!z0)=true->(64:Int)≠0)/\(Tr ((!z0)=true))/\(Tr ((!z0)=true))/\(Tr ((!z0)=true))/\(z0=false->(!z0)=true)/\((z4=true->(Q .ret (L2 [(6,.c (.int .u64 0))] [])))/\(z4=false->z9/\((64:Int)≠0)/\((0:Int)<=y_1/\y_1 < (l.length:Int))/\z9/\((64:Int)≠0)/\((0:Int)<=z7)/\((z8=true->(Q .ret (L2 [(6,.c (.int .u64 z2))] [])))/\(z8=false->((0:Int)<=(if wd c < 0 then 0 else wd c))/\(Q .ret (L2 [(6,.c (.int .u64 (IntKind.wrap .u64 (BitVec.ofInt z6 z2 &&& BitVec.ofInt z6 (IntKind.wrap .u64 (((IntKind.wrap .u64 ((1:Int)*2 ^ (min (Int.toNat (if wd c < 0 then 0 else wd c)) z6))):Int) - 1))).toNat)))] []))))))))):
  A84 [] (L2 [(0,.c (sU .u64 l .unk)),pI 1 c,pI 2 i] []) Q:=
 Eq.mpr (by kernel_rfl) (h _ rfl)
def Zq5(l:List Int)(c i:Int):Prop:=AW (Z1 Ziw) Try.f84 ZoP [] (Zb (Zjx.can (l,c,i,())) []) (EQ Try.f84 (ZmS (l,c,i,())) [])
theorem ZnP(Z3A:CT 110 Yc)(hb:∀ (l:List Int) (c:Int) (i:Int) (_:Unit),ZdK (l,c,i,())->Zq5 l c i):CT 84 Z6W:=
 Z0 (l:=[(110,Yc)]) Z9 rfl (⟨Z3A,trivial⟩) ZoP Try.func84 rfl rfl 3 (fun _=> rfl) (by decide) (fun ⟨l,c,i,_⟩=> hb l c i ())
def ZlE:Z6 U:=lvl [([0,1,2],[]),([0,1,2,7],[]),([0,1,2,7,13],[]),([0,1,2,7],[]),([0,1,2,7],[]),([0,2,8,9],[]),([0,2,8,9,10],[]),([0,2,8,9,10,20],[]),([0,2,8,9,10],[]),([0,2,8,9,10,25],[]),([0,2,8,9,10],[]),([0,2,8,9,10],[]),([0,2,8,9,10],[]),([6],[])]
def Z4i(w b k x0 x7:Int):LSt U:=(L2 [(0,.c (.int .u64 x0)),pI 1 b,pI 2 k,pI 7 x7] [])
def Z2g(w b k x0_a x8_a x9_a x10_a:Int):LSt U:=(L2 [(0,.c (.int .u64 x0_a)),pI 2 k,pI 8 x8_a,pI 9 x9_a,pI 10 x10_a] [])
abbrev A92(p:List Nat):=AW (Z1 ZiK) Try.f92 ZlE p
abbrev S92(p:List Nat):=SW (Z1 ZiK) Try.f92 ZlE p
theorem Zse(w b k:Int)(Q:QT)(h:(Zk (A92 [1,0,1,0,0]) (Z4i w b k w 0) (xB 0 (S92 [1,1] Q)))):
  A92 [] (L2 [(0,.c (.int .u64 w)),pI 1 b,pI 2 k] []) Q:=
 Eq.mpr (by kernel_rfl) h
theorem Zkn(w b k x0 x7:Int)(N0:NT)(Q:QT)(h:(((decide (x7 < b))=true->((2:Int)≠0)/\((InR (x7+1))/\(N0 (Z4i w b k (IntKind.wrap .u64 (Int.tdiv x0 2)) (x7+1)))))/\((decide (x7 < b))=false->(Zk (A92 [1,1,1,0,1,0,0]) (Z2g w b k x0 0 1 0) (xB 2 (S92 [1,1,1,1] Q)))))):
  A92 [1,0,1,0,0] (Z4i w b k x0 x7) (xT N0 (xB 0 (S92 [1,1] Q))):=
 Eq.mpr (by kernel_rfl) h
theorem Zkm(w b k x0_a x8_a x9_a x10_a:Int)(N1:NT)(Q:QT)(h:let z1:=((Int.tmod x0_a 2):Int)==1;let z0:=IntKind.wrap .u64 (Int.tdiv x0_a 2);(((decide (x10_a < k))=true->((2:Int)≠0)/\((z1=true->(InR (x8_a+x9_a))/\(((2:Int)≠0)/\((InR ((2:Int)*x9_a))/\((InR (x10_a+1))/\(N1 (Z2g w b k z0 (x8_a+x9_a) ((2:Int)*x9_a) (x10_a+1)))))))/\(z1=false->((2:Int)≠0)/\((InR ((2:Int)*x9_a))/\((InR (x10_a+1))/\(N1 (Z2g w b k z0 x8_a ((2:Int)*x9_a) (x10_a+1))))))))/\((decide (x10_a < k))=false->(Q .ret (L2 [pI 6 x8_a] []))))):
  A92 [1,1,1,0,1,0,0] (Z2g w b k x0_a x8_a x9_a x10_a) (xT N1 (xB 2 (S92 [1,1,1,1] Q))):=
 Eq.mpr (by kernel_rfl) h
def ZpX(w b k:Int):Prop:=AW (Z1 ZiK) Try.f92 ZlE [] (Zb (Zjh.can (w,b,k,())) []) (EQ Try.f92 (ZmG (w,b,k,())) [])
theorem ZnH(hb:∀ (w:Int) (b:Int) (k:Int) (_:Unit),YY (w,b,k,())->ZpX w b k):CT 92 Z6I:=
 Z0 (l:=[]) Z9 rfl trivial ZlE Try.func92 rfl rfl 3 (fun _=> rfl) (by decide) (fun ⟨w,b,k,_⟩=> hb w b k ())
def ZiC:List (FuncId × Fs U):=[(92,Z6I)]
def ZoW:Z6 U:=lvl [([0,2],[2]),([0,2,5],[2]),([2],[2]),([0,2,3],[2]),([0,2,3,10],[2]),([0,2,3],[2]),([0,2,3,14],[2]),([0,2,3,14,15],[2]),([2],[2]),([0,2,3,14,23],[2]),([2],[2]),([0,2,31],[2]),([2],[2]),([2],[2])]
abbrev A66(p:List Nat):=AW (Z1 ZiC) Try.f66 ZoW p
theorem ZsD(w:Int)(Q:QT)(h:let z5:=decide ((536870912:Int)<=(ZJ w 2 30));let z4:=((ZJ w 0 2):Int)==2;let z3:=((ZJ w 0 2):Int)==1;let z2:=((ZJ w 0 2):Int)==0;let z1:=Q .ret (L2 [pL 2] [(.loc 2,[ci 4,ci 0,ci 0,ci 0,ci 0,ci 0,ci 0,.bool false])]);let z0:=Q .ret (L2 [pL 2] [(.loc 2,[ci 3,ci (ZJ w 3 29),ci 0,ci 0,ci 0,ci 0,ci (ZJ w 32 32),.bool (((ZJ w 2 1):Int)==1)])]);(((w==0)=true->(Q .ret (L2 [pL 2] [(.loc 2,zc0)])))/\((w==0)=false->(YY (w,2,30,()))/\((z5=true->(InR (((ZJ w 2 30):Int) - 1073741824))/\((YY (w,0,2,()))/\((z2=true->(YY (w,32,16,()))/\(YY (w,48,16,()))/\(Q .ret (L2 [pL 2] [(.loc 2,[ci 1,ci (((ZJ w 2 30):Int) - 1073741824),ci (ZJ w 32 16),ci (ZJ w 48 16),ci 0,ci 0,ci 0,.bool false])])))/\(z2=false->((z3=true->(YY (w,32,3,()))/\(YY (w,35,29,()))/\(Q .ret (L2 [pL 2] [(.loc 2,[ci 2,ci (((ZJ w 2 30):Int) - 1073741824),ci 0,ci 0,ci (ZJ w 32 3),ci (ZJ w 35 29),ci 0,.bool false])])))/\(z3=false->((z4=true->(YY (w,3,29,()))/\(YY (w,32,32,()))/\(YY (w,2,1,()))/\z0)/\(z4=false->z1))))))))/\(z5=false->(YY (w,0,2,()))/\((z2=true->(YY (w,32,16,()))/\(YY (w,48,16,()))/\(Q .ret (L2 [pL 2] [(.loc 2,[ci 1,ci (ZJ w 2 30),ci (ZJ w 32 16),ci (ZJ w 48 16),ci 0,ci 0,ci 0,.bool false])])))/\(z2=false->((z3=true->(YY (w,32,3,()))/\(YY (w,35,29,()))/\(Q .ret (L2 [pL 2] [(.loc 2,[ci 2,ci (ZJ w 2 30),ci 0,ci 0,ci (ZJ w 32 3),ci (ZJ w 35 29),ci 0,.bool false])])))/\(z3=false->((z4=true->(YY (w,3,29,()))/\(YY (w,32,32,()))/\(YY (w,2,1,()))/\z0)/\(z4=false->z1))))))))))):
  A66 [] (L2 [(0,.c (.int .u64 w))] []) Q:=
 Eq.mpr (by kernel_rfl) h
def Zqm(w:Int):Prop:=AW (Z1 ZiC) Try.f66 ZoW [] (Zb (ZjA.can (w,())) []) (EQ Try.f66 (ZgO (w,())) [])
theorem Zo3(c92:CT 92 Z6I)(hb:∀ (w:Int) (_:Unit),Z5F (w,())->Zqm w):CT 66 Z1H:=
 Z0 (l:=[(92,Z6I)]) Z9 rfl (⟨c92,trivial⟩) ZoW Try.func66 rfl rfl 1 (fun _=> rfl) (by decide) (fun ⟨w,_⟩=> hb w ())
def ZoN:Z6 U:=lvl [([0,2],[2]),([0,2,3],[2]),([0,2,3,9],[2]),([2],[2]),([0,2,3,13],[2]),([2],[2]),([0,2,3,26],[2]),([2],[2]),([0,2,39],[2]),([2],[2]),([2],[2])]
abbrev A86(p:List Nat):=AW (Z1 ZiK) Try.f86 ZoN p
theorem Zsk(w:Int)(Q:QT)(h:∀ y_1,y_1=(BitVec.ofInt (IntKind.bits .u64) w &&& BitVec.ofInt (IntKind.bits .u64) 3)->let z2:=Int.fdiv (IntKind.wrap .i64 (IntKind.wrap .i32 (IntKind.wrap .u32 w))) (2 ^ (min (Int.toNat 2) (IntKind.bits .i64)));let z1:=IntKind.wrap .u64 y_1.toNat;let z0:=IntKind.bits .u64;let z3:=Int.fdiv w (2 ^ (min (Int.toNat 32) z0));(((0:Int)<=2)/\(((w==0)=true->(Q .ret (L2 [pL 2] [(.loc 2,zc0)])))/\((w==0)=false->((((z1:Int)==0)=true->((0:Int)<=32)/\((0:Int)<=48)/\(Q .ret (L2 [pL 2] [(.loc 2,[ci 1,ci z2,ci (IntKind.wrap .i64 (IntKind.wrap .u64 (BitVec.ofInt z0 z3 &&& BitVec.ofInt z0 65535).toNat)),ci (IntKind.wrap .i64 (Int.fdiv w (2 ^ (min (Int.toNat 48) z0)))),ci 0,ci 0,ci 0,.bool false])])))/\(((z1:Int)==0)=false->((((z1:Int)==1)=true->((0:Int)<=32)/\((0:Int)<=35)/\(Q .ret (L2 [pL 2] [(.loc 2,[ci 2,ci z2,ci 0,ci 0,ci (IntKind.wrap .i64 (IntKind.wrap .u64 (BitVec.ofInt z0 z3 &&& BitVec.ofInt z0 7).toNat)),ci (IntKind.wrap .i64 (Int.fdiv w (2 ^ (min (Int.toNat 35) z0)))),ci 0,.bool false])])))/\(((z1:Int)==1)=false->((((z1:Int)==2)=true->((0:Int)<=3)/\((0:Int)<=32)/\(Q .ret (L2 [pL 2] [(.loc 2,[ci 3,ci (IntKind.wrap .i64 (IntKind.wrap .u64 (BitVec.ofInt z0 (Int.fdiv w (2 ^ (min (Int.toNat 3) z0))) &&& BitVec.ofInt z0 536870911).toNat)),ci 0,ci 0,ci 0,ci 0,ci (IntKind.wrap .i64 z3),.bool (((IntKind.wrap .u64 (BitVec.ofInt z0 w &&& BitVec.ofInt z0 4).toNat):Int) !=0)])])))/\(((z1:Int)==2)=false->(Q .ret (L2 [pL 2] [(.loc 2,[ci 4,ci 0,ci 0,ci 0,ci 0,ci 0,ci 0,.bool false])])))))))))))):
  A86 [] (L2 [(0,.c (.int .u64 w))] []) Q:=
 Eq.mpr (by kernel_rfl) (h _ rfl)
def Zq3(w:Int):Prop:=AW (Z1 ZiK) Try.f86 ZoN [] (Zb (ZjA.can (w,())) []) (EQ Try.f86 (ZgO (w,())) [])
theorem ZnN(hb:∀ (w:Int) (_:Unit),Z5F (w,())->Zq3 w):CT 86 Z1H:=
 Z0 (l:=[]) Z9 rfl trivial ZoN Try.func86 rfl rfl 1 (fun _=> rfl) (by decide) (fun ⟨w,_⟩=> hb w ())
def Zi3:Z6 U:=lvl [([1],[1]),([1,6],[1]),([2],[]),([1,14],[1]),([2],[]),([1,17],[1]),([2],[]),([1,38],[1]),([2],[]),([1,3],[1]),([1,3,40],[1]),([1,3,40,41],[1]),([2],[]),([1,3,40,43],[1]),([1,3],[1]),([1,3,40,45],[1]),([1,3],[1]),([1,3,40,47],[1]),([1,3],[1]),([1,3,49],[1]),([1,3],[1]),([1,3,55],[1]),([2],[]),([2],[])]
abbrev Ztw(p:List Nat):=AW (Z1 ZiK) Try.f115 Zi3 p
theorem Zrf(p:Ptr)(Q:QT)(h:let z13:=decide ((0:Int) < (Int.tmod (Ptr.count p) 1));let z12:=decide ((0:Int) < (Int.tmod (Ptr.count p) 2));let z11:=decide ((0:Int) < (Int.tmod (Ptr.count p) 4));let z10:=decide ((0:Int) < (Int.tmod (Ptr.count p) 8));let z9:=decide ((0:Int) < (Int.tmod (Ptr.count p) 64));let z7:=IntKind.wrap .i64 (Int.tdiv (Ptr.count p) 1);let z6:=IntKind.wrap .i64 (Int.tdiv (Ptr.count p) 2);let z5:=IntKind.wrap .i64 (Int.tdiv (Ptr.count p) 4);let z4:=IntKind.wrap .i64 (Int.tdiv (Ptr.count p) 8);let z3:=IntKind.wrap .i64 (Int.tdiv (Ptr.count p) 64);let z2:=decide (((Ptr.code p):Int) < 0);let z0:=bif z2 then true else (decide ((6:Int) < (Ptr.code p)));let z1:=bif z0 then true else (decide (((Ptr.count p):Int) < 0));let z8:=bif z1 then true else (decide ((536870912:Int)<=(Ptr.count p)));(((((Ptr.kind p):Int)==1)=true->(InR (((Ptr.data p):Int)+(Ptr.ptrs p)))/\(Q .ret (L2 [pI 2 (((Ptr.data p):Int)+(Ptr.ptrs p))] [])))/\((((Ptr.kind p):Int)==1)=false->(((((Ptr.kind p):Int) !=2)=true->(Q .ret (L2 [pI 2 (-1)] [])))/\((((Ptr.kind p):Int) !=2)=false->(((((Ptr.code p):Int)==7)=true->(InR (((Ptr.count p):Int)+1))/\(Q .ret (L2 [pI 2 (((Ptr.count p):Int)+1)] [])))/\((((Ptr.code p):Int)==7)=false->(Tr ((!z2)=true))/\(Tr ((!z2)=true))/\(z2=false->(!z2)=true)/\(Tr ((!z0)=true))/\(Tr ((!z0)=true))/\(z0=false->(!z0)=true)/\(Tr ((!z1)=true))/\(Tr ((!z1)=true))/\(z1=false->(!z1)=true)/\((z8=true->(Q .ret (L2 [pI 2 (-1)] [])))/\(z8=false->(((((Ptr.code p):Int)==0)=true->(Q .ret (L2 [pI 2 0] [])))/\((((Ptr.code p):Int)==0)=false->(((((Ptr.code p):Int)==1)=true->(((64:Int)≠0)/\((z9=true->((64:Int)≠0)/\(InR ((z3:Int)+1))/\(Q .ret (L2 [(2,.c (ci ((z3:Int)+1)))] [])))/\(z9=false->((64:Int)≠0)/\(Q .ret (L2 [pI 2 z3] []))))))/\((((Ptr.code p):Int)==1)=false->(((((Ptr.code p):Int)==2)=true->(((8:Int)≠0)/\((z10=true->((8:Int)≠0)/\(InR ((z4:Int)+1))/\(Q .ret (L2 [(2,.c (ci ((z4:Int)+1)))] [])))/\(z10=false->((8:Int)≠0)/\(Q .ret (L2 [pI 2 z4] []))))))/\((((Ptr.code p):Int)==2)=false->(((((Ptr.code p):Int)==3)=true->(((4:Int)≠0)/\((z11=true->((4:Int)≠0)/\(InR ((z5:Int)+1))/\(Q .ret (L2 [(2,.c (ci ((z5:Int)+1)))] [])))/\(z11=false->((4:Int)≠0)/\(Q .ret (L2 [pI 2 z5] []))))))/\((((Ptr.code p):Int)==3)=false->(((((Ptr.code p):Int)==4)=true->(((2:Int)≠0)/\((z12=true->((2:Int)≠0)/\(InR ((z6:Int)+1))/\(Q .ret (L2 [(2,.c (ci ((z6:Int)+1)))] [])))/\(z12=false->((2:Int)≠0)/\(Q .ret (L2 [pI 2 z6] []))))))/\((((Ptr.code p):Int)==4)=false->((1:Int)≠0)/\((z13=true->((1:Int)≠0)/\(InR ((z7:Int)+1))/\(Q .ret (L2 [(2,.c (ci ((z7:Int)+1)))] [])))/\(z13=false->((1:Int)≠0)/\(Q .ret (L2 [pI 2 z7] []))))))))))))))))))))))):
  Ztw [] (L2 [(0,.agg (enc .ptr p))] []) Q:=
 Eq.mpr (by kernel_rfl) h
def Zml(p:Ptr):Prop:=AW (Z1 ZiK) Try.f115 Zi3 [] (Zb (ZeU.can (p,())) []) (EQ Try.f115 (Zh5 (p,())) [])
theorem Zlm(hb:∀ (p:Ptr) (_:Unit),Zac (p,())->Zml p):CT 115 Z3K:=
 Z0 (l:=[]) Z9 rfl trivial Zi3 Try.func115 rfl rfl 1 (fun _=> rfl) (by decide) (fun ⟨p,_⟩=> hb p ())
def ZhY:Z6 U:=lvl [([0,1],[]),([4],[])]
abbrev Zts(p:List Nat):=AW (Z1 ZiK) Try.f124 ZhY p
theorem Zr6(n to:Int)(Q:QT)(h:let z0:=decide ((0:Int)<=n);((Tr (z0=true))/\(Tr (z0=true))/\(Tr (z0=true))/\(Q .ret (L2 [(4,.c (.bool (bif z0 then (decide (n<=to)) else false)))] [])))):
  Zts [] (L2 [pI 0 n,pI 1 to] []) Q:=
 Eq.mpr (by kernel_rfl) h
def Zmc(n to:Int):Prop:=AW (Z1 ZiK) Try.f124 ZhY [] (Zb (ZeL.can (n,to,())) []) (EQ Try.f124 (ZgY (n,to,())) [])
theorem Zld(hb:∀ (n:Int) (to:Int) (_:Unit),Z0I (n,to,())->Zmc n to):CT 124 Z0s:=
 Z0 (l:=[]) Z9 rfl trivial ZhY Try.func124 rfl rfl 2 (fun _=> rfl) (by decide) (fun ⟨n,to,_⟩=> hb n to ())
def Zel:List (FuncId × Fs U):=[(124,Z0s)]
def Zi0:Z6 U:=lvl [([1],[1]),([1,4],[1,4]),([1,4,6],[1,4]),([2,3],[]),([1,4,15],[1,4]),([2,3],[]),([1,4,27],[1,4]),([2,3],[]),([2,3],[])]
abbrev Ztu(p:List Nat):=AW (Z1 Zel) Try.f122 Zi0 p
theorem Zr8(p:Ptr)(Q:QT)(h:∀ y_1,y_1=(List.getD [0,1,8,16,32,64,64] (Int.toNat (Ptr.code p)) 0)->let z1:=((Ptr.kind p):Int)==2;let z3:=bif z1 then (((Ptr.code p):Int)==7) else false;let z0:=bif z1 then (decide (0<=(Ptr.code p)/\(Ptr.code p)<=6)) else false;let z2:=bif z0 then (decide (0<=(Ptr.count p)/\(Ptr.count p)<=536870911)) else false;(((((Ptr.kind p):Int)==1)=true->(InR (((Ptr.data p):Int)+(Ptr.ptrs p)))/\(Q .ret (L2 [pI 2 (((Ptr.data p):Int)+(Ptr.ptrs p)),pB 3 true] [])))/\((((Ptr.kind p):Int)==1)=false->(Tr (z1=true))/\(Tr (z1=true))/\(Tr (z1=true))/\((z3=true->(InR (((Ptr.count p):Int)+1))/\(Q .ret (L2 [pI 2 (((Ptr.count p):Int)+1),pB 3 true] [])))/\(z3=false->(Tr (z1=true))/\(Tr (z1=true))/\(z1=true->Z0I ((Ptr.code p),6,()))/\(Tr (z1=true))/\(Tr (z0=true))/\(Tr (z0=true))/\(z0=true->Z0I ((Ptr.count p),536870911,()))/\(Tr (z0=true))/\((z2=true->((0:Int)<=(Ptr.code p)/\(Ptr.code p) < ((7:Nat):Int))/\(InR (((Ptr.count p):Int)*y_1))/\(InR (((((Ptr.count p):Int)*y_1):Int)+63))/\((64:Int)≠0)/\(Q .ret (L2 [(2,.c (ci (IntKind.wrap .i64 (Int.tdiv (((((Ptr.count p):Int)*y_1):Int)+63) 64)))),pB 3 true] [])))/\(z2=false->(Q .ret (L2 [pI 2 0,pB 3 false] []))))))))):
  Ztu [] (L2 [(0,.agg (enc .ptr p))] []) Q:=
 Eq.mpr (by kernel_rfl) (h _ rfl)
def Zme(p:Ptr):Prop:=AW (Z1 Zel) Try.f122 Zi0 [] (Zb (ZeU.can (p,())) []) (EQ Try.f122 (Z4Z (p,())) [])
theorem Zlf(ZfZ:CT 124 Z0s)(hb:∀ (p:Ptr) (_:Unit),Zac (p,())->Zme p):CT 122 Z3H:=
 Z0 (l:=[(124,Z0s)]) Z9 rfl (⟨ZfZ,trivial⟩) Zi0 Try.func122 rfl rfl 1 (fun _=> rfl) (by decide) (fun ⟨p,_⟩=> hb p ())
end
end Go.AM.Ythokdjgpdonhgaa
namespace Go.AM
def Zfo:Ref:=⟨none,0,0,0,0,0,0,0⟩
def Y0(a:Option Arena)(x:XRef):Ref:=if x.kind=0 then Zfo else ⟨a,x.kind,x.s,x.at_,x.data,x.ptrs,x.count,x.n⟩
def unX(r:Ref):XRef:=⟨r.kind,r.segment,r.at_,r.data,r.kids,r.count,r.number⟩
def okR(r:Ref):Prop:=okA r.a/\OkX (Z2 r.a) (unX r)
def Jh(r:Ref):Int:=if r.kind=1 then r.data else if r.kind=10 then 1 else 0
def Zw(r:Ref):Int:=if r.kind=1 then r.kids else r.count
def Z1D(r:Ref)(i:Int):Int:=if i < 0 then 0 else (Zg (Z2 r.a) (unX r)).getD i.toNat 0
theorem Z2f(r:Ref):Zw r=Zf (unX r):=rfl
theorem Z3C{a:Option Arena}{x:XRef}{l:List (List Int)}(h:OkX l x):unX (Y0 a x)=x:=by
 unfold Y0
 split
 ·rename_i h0
  rw [h.null h0];try rfl
 ·try rfl
theorem Z8o{a:Option Arena}{x:XRef}(h:x.kind≠0):(Y0 a x).a=a:=by unfold Y0;rw [if_neg h]
theorem Z44{a:Option Arena}{x:XRef}(ha:okA a)(h:OkX (Z2 a) x):okR (Y0 a x):=by
 by_cases h0:x.kind=0
 ·unfold Y0
  rw [if_pos h0]
  exact ⟨⟨by simp [Zfo,Z2],fun w hw=> by simp [Zfo,Z2] at hw⟩,Ze1⟩
 ·refine ⟨by rw [Z8o h0];exact ha,?_⟩
  rw [Z3C h,Z8o h0]
  exact h
end Go.AM
namespace Go.AM.Ythokdjgpdonhgaa
open Go.AM Go.Proofs
theorem Zj{n k:Nat}{rs:List ResultVar}{b b':Bool}(hr:rs=[ResultVar.tmp k])(h:b=b'):Zx cfg n rs (.c (.bool b')) [] .ret (⟨[(k,.c (.bool b))],[],[]⟩:LSt U):=by
 subst hr h
 have hk:Nat.beq k k=true:=XQ k
 simp [Zx,ZpP,Z9D,Z9C,Z3i,Z4Y,LSt.toF,Z8y,hk,Z7P,Z0H,Y9,YT,leR,leL,leC,Zgi]
theorem Z7{n k:Nat}{rs:List ResultVar}{K:IntKind}{b b':Int}(hr:rs=[ResultVar.tmp k])(h:b=b'):Zx cfg n rs (.c (.int K b')) [] .ret (⟨[(k,.c (.int K b))],[],[]⟩:LSt U):=by
 subst hr h
 have hk:Nat.beq k k=true:=XQ k
 simp [Zx,ZpP,Z9D,Z9C,Z3i,Z4Y,LSt.toF,Z8y,hk,Z7P,Z0H,Y9,YT,leR,leL,leC,Zgi]
theorem ZG{n:Nat}{rs:List ResultVar}{r r':V U}{X:List (List (C U))}{e:AExit}{s:LSt U}(hr:r=r')(h:Zx cfg n rs r' X e s):Zx cfg n rs r X e s:=by rw [hr];exact h
theorem ZrR{α:Type}{l:List α}{i:Int}(h0:0<=i)(h:i < l.length)(d:α):l.drop i.toNat=l.getD i.toNat d ::l.drop (i+1).toNat:=by
 rw [show (i+1).toNat=i.toNat+1 by omega,Q7,Q0 (by omega)]
 exact QR (by omega)
theorem YK{α:Type}{l:List α}{i:Nat}(h:i < l.length)(d:α):l.getD i d∈l:=by
 rw [Q7,Q0 h]
 exact Xd h
theorem ZlZ{n:Int}(h0:0<=n)(h1:n < 18446744073709551616):IntKind.wrap .u64 (Int.tdiv n 2)=n / 2:=by
 rw [Ql h0,Zo (by omega) (by omega)]
theorem Z01(k:Nat):(2:Int) ^ (k+1)=2 ^ k*2:=Int.pow_succ ..
theorem Y3(k:Nat):(0:Int) < 2 ^ k:=Kb (by decide)
theorem J0(n:Int)(k:Nat):n / 2 ^ k / 2=n / 2 ^ (k+1):=by
 rw [Z01,Xr (QP (Y3 k))]
theorem c56:Contract Try.prog cfg 56 Jl:=by
 refine Zod ?_
 intro c _ _
 refine ZsN _ _ ?_
 (simp only [vcT,vcS])
 refine ⟨fun h=> Z7 rfl ?_,fun h=> ⟨fun h=> Z7 rfl ?_,fun h=> ⟨fun h=> Z7 rfl ?_,fun h=> ⟨fun h=> Z7 rfl ?_,fun h=> ⟨fun h=> Z7 rfl ?_,fun h=> ⟨fun h=> Z7 rfl ?_,fun h=> Z7 rfl ?_⟩⟩⟩⟩⟩⟩
 all_goals (simp only [wd];repeat' split) <;> omega
theorem Zke{c:Int}(h0:0<=c)(h1:c < 6):List.getD [0,1,8,16,32,64] c.toNat 0=wd c/\0<=wd c:=by
 have:c=0\/c=1\/c=2\/c=3\/c=4\/c=5:=by omega
 rcases this with rfl | rfl | rfl | rfl | rfl | rfl <;> decide
theorem Znp{c:Int}(h:c < 0\/6<=c):wd c= -1:=by
 unfold wd
 repeat' split
 all_goals omega
theorem Z3A:Contract Try.prog cfg 110 Yc:=by
 refine Zlr ?_
 intro c _ _
 refine Zrk _ _ ?_
 (simp only [vcT,vcS])
 refine ⟨fun h=> ?_,fun h=> ⟨by omega,?_⟩⟩
 ·refine ZG (r':= .tup [(false,[.int .i64 0]),(false,[.bool false])]) ?_ (by (repeat' (first | exact trivial | exact rfl | apply And.intro)))
  simp only [Z9Z,Znp h]
  try rfl
 ·have hw:=Zke (c:=c) (by omega) (by omega)
  refine ZG (r':= .tup [(false,[.int .i64 (List.getD [0,1,8,16,32,64] (Int.toNat c) 0)]),(false,[.bool true])]) ?_ (by (repeat' (first | exact trivial | exact rfl | apply And.intro)))
  simp only [Z9Z,hw.1]
  rw [if_neg (by omega),decide_eq_true hw.2]
theorem c83:Contract Try.prog cfg 83 Yc:=by
 refine ZnQ Z3A ?_
 intro c _ _
 refine Zsn _ _ ?_
 refine ⟨trivial,?_⟩
 (repeat' (first | exact trivial | exact rfl | apply And.intro))
theorem c93:Contract Try.prog cfg 93 Z6H:=by
 refine ZnG ?_
 intro l a _ hp
 simp only [ZdD] at hp
 obtain ⟨hl,ha⟩:=hp
 refine Zsd _ _ _ ?_
 (simp only [vcT,vcS])
 have hd:0<=a->IntKind.wrap .i64 (Int.tdiv a 64)=a / 64:=fun h=> by rw [Ql h,Ya (by omega) (by omega)]
 refine ⟨fun _=> by decide,fun h=> Z7 rfl ?_,fun h=> ?_⟩
 ·unfold Zaz
  by_cases h0:a < 0
  ·rw [if_pos (.inl h0)]
  ·rw [hd (by omega)] at h
   rw [if_pos];omega
 ·have h0:0<=a:=by omega
  rw [hd h0] at h ⊢
  have hx:=Yr hl (a / 64).toNat
  have hm:Int.tmod a 64=a % 64:=Qw h0
  refine ⟨by decide,by omega,?_⟩
  refine Za (ι:=Int × Int) (fun p=> Z4h l a p.1 p.2) (fun p=> 0<=p.2/\p.2<=a % 64/\p.1=l.getD (a / 64).toNat 0 / 2 ^ p.2.toNat/\0<=p.1/\p.1 < 18446744073709551616) (fun p=> (a % 64 - p.2).toNat) (_,0) rfl ⟨by simp,by dsimp only;omega,by show l.getD _ 0=l.getD _ 0 / 2 ^ 0;rw [Int.pow_zero,Int.ediv_one],hx.1,hx.2⟩ ?_
  rintro ⟨x,i⟩ ⟨h1,h2,h3,h4,h5⟩
  dsimp only at h1 h2 h3 h4 h5
  refine Zkl _ _ _ _ _ _ ?_
  (simp only [vcT,vcS])
  rw [hm]
  refine ⟨by decide,fun hi=> ⟨by decide,by ((unfold InR;omega)),(IntKind.wrap .u64 (Int.tdiv x 2),i+1),rfl,?_,by dsimp only;omega⟩,fun hi=> ⟨by decide,Z7 rfl ?_⟩⟩
  ·rw [ZlZ h4 h5]
   refine ⟨by dsimp only;omega,by dsimp only;omega,?_,by dsimp only;omega,by dsimp only;omega⟩
   dsimp only
   rw [h3,J0,show (i+1).toNat=i.toNat+1 by omega]
  ·show _=Zaz l a
   unfold Zaz
   rw [if_neg (by omega),Qw h4,h3,show i=a % 64 by omega]
theorem Z17(c:Int):wd c < 1\/wd c=1\/wd c=8\/wd c=16\/wd c=32\/wd c=64:=by have:=Ji c;omega
theorem Zg7{x:Int}(p w k:Nat)(hk:k < w):(x / 2 ^ p / 2 ^ (k+1) % 2 ^ (w - (k+1)))*2+x / 2 ^ (p+k) % 2=x / 2 ^ p / 2 ^ k % 2 ^ (w - k):=by
 have e1:x / 2 ^ (p+k)=x / 2 ^ p / 2 ^ k:=by
  rw [Int.pow_add,Xr (QP (Y3 p))]
 rw [e1,<-J0]
 generalize x / 2 ^ p / 2 ^ k=y
 rw [show w - k=(w - (k+1))+1 by omega,Z01]
 generalize hq:(2:Int) ^ (w - (k+1))=q
 have hq0:0 < q:=by rw [<-hq];exact Y3 _
 have h1:=X6 y 2
 have h2:=X6 (y / 2) q
 have h3:=X6 y (q*2)
 have h4:y / (q*2)=y / 2 / q:=by rw [Xo,Xr (by decide)]
 rw [h4] at h3
 have h5:q*2*(y / 2 / q)=2*(q*(y / 2 / q)):=by rw [Xo q 2,Int.mul_assoc]
 omega
theorem Zgn(c:Int): -1<=wd c/\wd c<=64:=by have:=Ji c;omega
theorem Z6y{c i:Int}(hi:0<=i)(hi':i<=1099511627776)(hw:1<=wd c):0<=i*wd c/\i*wd c<=70368744177664/\i*wd c % 64+wd c<=64/\
  ∀ k,0<=k->k < wd c->(i*wd c+k) / 64=i*wd c / 64/\(i*wd c+k) % 64=i*wd c % 64+k:=by
 rcases Z17 c with e | e | e | e | e | e
 ·omega
 all_goals (rw [e];refine ⟨by omega,by omega,by omega,fun k _ _=> ⟨by omega,by omega⟩⟩)
def Z04(l:List Int)(q:Int):Int:=if (l.length:Int)<=q then 0 else l.getD q.toNat 0
theorem Zc1{l:List Int}(h:okW l)(q:Int):0<=Z04 l q/\Z04 l q < 18446744073709551616:=by
 unfold Z04
 split
 ·decide
 ·exact Yr h _
theorem Zm1{l:List Int}{a:Int}(h:0<=a):Zaz l a=Z04 l (a / 64) / 2 ^ (a % 64).toNat % 2:=by
 unfold Zaz Z04
 by_cases h1:(l.length:Int)<=a / 64
 ·rw [if_pos (.inr h1),if_pos h1];simp
 ·rw [if_neg (by omega),if_neg h1]
theorem Z6s{l:List Int}{c i:Int}(hw:1<=wd c)(h0:0<=i)(h1:i<=1099511627776):YW l c i=Z04 l (i*wd c / 64) / 2 ^ (i*wd c % 64).toNat % 2 ^ (wd c).toNat:=by
 unfold YW Z04
 by_cases h2:(l.length:Int)<=i*wd c / 64
 ·rw [if_pos (by omega),if_pos h2];simp
 ·rw [if_neg (by omega),if_neg h2]
theorem Zco{x:Int}{k:Nat}(hk:k<=64):0<=x % 2 ^ k/\x % 2 ^ k < 18446744073709551616:=by
 have hp:=Y3 k
 refine ⟨Xb _ (by omega),Int.lt_of_lt_of_le (X2 _ hp) ?_⟩
 have:(2:Int) ^ k=((2 ^ k:Nat):Int):=by simp
 rw [this]
 have:=Xk (n:=2) (by decide) hk
 omega
theorem c69:Contract Try.prog cfg 69 Z6W:=by
 refine Zo0 c56 c93 ?_
 intro l c i _ hp
 simp only [ZdK] at hp
 refine ZsA _ _ _ _ ?_
 (simp only [vcT,vcS])
 have hw:=Zgn c
 refine ⟨trivial,fun h=> Z7 rfl ?_,fun h=> ⟨by ((unfold InR;omega)),?_⟩⟩
 ·show (0:Int)=YW l c i
  unfold YW
  rw [if_pos (by omega)]
 ·obtain ⟨a0,a1,a2,a3⟩:=Z6y (c:=c) (i:=i) (by omega) (by omega) (by omega)
  have hW:=Zc1 hp (i*wd c / 64)
  refine Za (ι:=Int × Int) (fun p=> Z4r l c i p.1 p.2) (fun p=> -1<=p.2/\p.2 < wd c/\p.1=Z04 l (i*wd c / 64) / 2 ^ (i*wd c % 64).toNat / 2 ^ (p.2+1).toNat % 2 ^ ((wd c).toNat - (p.2+1).toNat)) (fun p=> (p.2+1).toNat) (0,wd c - 1) rfl ⟨by dsimp only;omega,by dsimp only;omega,?_⟩ ?_
  ·dsimp only
   rw [show (wd c - 1+1).toNat=(wd c).toNat by omega,XA]
   simp
  rintro ⟨x,k⟩ ⟨h1,h2,h3⟩
  dsimp only at h1 h2 h3
  refine ZkG _ _ _ _ _ _ _ ?_
  (simp only [vcT,vcS])
  refine ⟨fun hk=> ?_,fun hk=> Z7 rfl ?_⟩
  ·obtain ⟨b1,b2⟩:=a3 k hk h2
   have hb:Zaz l (i*wd c+k)=Z04 l (i*wd c / 64) / 2 ^ ((i*wd c % 64).toNat+k.toNat) % 2:=by
    rw [Zm1 (by omega),b1,b2,show (i*wd c % 64+k).toNat=(i*wd c % 64).toNat+k.toNat by omega]
   have hs:=Zg7 (x:=Z04 l (i*wd c / 64)) (i*wd c % 64).toNat (wd c).toNat k.toNat (by omega)
   rw [<-hb,show k.toNat+1=(k+1).toNat by omega,<-h3] at hs
   have hm:=Zco (x:=Z04 l (i*wd c / 64) / 2 ^ (i*wd c % 64).toNat / 2 ^ k.toNat) (k:=(wd c).toNat - k.toNat) (by omega)
   rw [<-hs] at hm
   have hx:0<=x:=by rw [h3];exact Xb _ (by have:=Y3 ((wd c).toNat - (k+1).toNat);omega)
   have hb0:0<=Zaz l (i*wd c+k):=by rw [hb];omega
   rw [Zo (n:=x*2) (by omega) (by omega),Zo hm.1 hm.2,hs]
   refine ⟨by ((unfold InR;omega)),by ((unfold InR;omega)),⟨hp,by dsimp only;omega⟩,by ((unfold InR;omega)),(_,k - 1),rfl,⟨by dsimp only;omega,by dsimp only;omega,?_⟩,by dsimp only;omega⟩
   dsimp only
   rw [show (k - 1+1).toNat=k.toNat by omega]
  ·show _=YW l c i
   rw [Z6s (by omega) (by omega) (by omega),h3,show (k+1).toNat=0 by omega]
   simp
theorem Zdh{x:Int}{n:Int}(h0:0<=n)(h1:n<=64):Int.fdiv x (2 ^ (min n.toNat (IntKind.bits .u64)))=x / 2 ^ n.toNat:=by
 rw [show min n.toNat (IntKind.bits .u64)=n.toNat by simp [IntKind.bits];omega,Xy _ (QP (Y3 _))]
theorem c84:Contract Try.prog cfg 84 Z6W:=by
 refine ZnP Z3A ?_
 intro l c i _ hp
 simp only [ZdK] at hp
 refine Zsm _ _ _ _ ?_
 rintro y hy
 (simp only [vcT,vcS])
 dsimp only at hy
 have hw:=Ji c
 by_cases hg:1<=wd c
 ·rw [if_neg (show ¬wd c < 0 by omega)] at hy ⊢
  refine ⟨trivial,fun h=> ?_,fun _=> by decide,fun h=> Z7 rfl ?_,fun h=> ?_⟩
  ·obtain ⟨a0,a1,a2,a3⟩:=Z6y (c:=c) (i:=i) (by omega) (by omega) hg
   ((unfold InR;omega))
  ·show (0:Int)=YW l c i
   unfold YW
   by_cases h0:i < 0\/1099511627776 < i
   ·rw [if_pos (by omega)]
   ·obtain ⟨a0,a1,a2,a3⟩:=Z6y (c:=c) (i:=i) (by omega) (by omega) hg
    rw [Ql a0,Ya (by omega) (by omega)] at hy
    rw [if_pos (by omega)]
  ·obtain ⟨a0,a1,a2,a3⟩:=Z6y (c:=c) (i:=i) (by omega) (by omega) hg
   rw [Ql a0,Ya (by omega) (by omega)] at hy
   have hx:=Yr hp y.toNat
   have hm:Int.tmod (i*wd c) 64=i*wd c % 64:=Qw a0
   rw [hm,Zdh (by omega) (by omega)]
   have hg':YW l c i=l.getD y.toNat 0 / 2 ^ (i*wd c % 64).toNat % 2 ^ (wd c).toNat:=by
    rw [Z6s hg (by omega) (by omega)]
    unfold Z04
    rw [<-hy,if_neg (by omega)]
   have hz0:0<=l.getD y.toNat 0 / 2 ^ (i*wd c % 64).toNat:=XT hx.1 (QP (Y3 _))
   have hz1:l.getD y.toNat 0 / 2 ^ (i*wd c % 64).toNat < 18446744073709551616:=Int.lt_of_le_of_lt (XJ _ hx.1) hx.2
   refine ⟨by ((unfold InR;omega)),by decide,by omega,by ((unfold InR;omega)),by decide,by omega,fun h64=> Z7 rfl ?_,fun h64=> ⟨by omega,Z7 rfl ?_⟩⟩
   ·show _=YW l c i
    rw [hg']
    have h64':(2:Int) ^ (wd c).toNat=18446744073709551616:=by rw [h64];try rfl
    rw [h64']
    exact (Int.emod_eq_of_lt hz0 hz1).symm
   ·show _=YW l c i
    rw [hg']
    refine Z8n hz0 hz1 (wd c).toNat (by omega) ?_
    rcases Z17 c with e | e | e | e | e | e
    ·omega
    all_goals first | (rw [e];decide) | omega
 ·refine ⟨trivial,fun h=> ?_,fun _=> by decide,fun h=> Z7 rfl ?_,fun h=> ?_⟩
  ·exfalso
   have h1:=h.1.1.2
   rw [if_neg (by omega)] at h1
   omega
  ·show (0:Int)=YW l c i
   unfold YW
   rw [if_pos (by omega)]
  ·exfalso
   have h1:=h.1.1.1.2
   rw [if_neg (by omega)] at h1
   omega
theorem c92:Contract Try.prog cfg 92 Z6I:=by
 refine ZnH ?_
 intro w b k _ hp
 simp only [YY] at hp
 obtain ⟨⟨hw0,hw1⟩,hb0,hb1,hk0,hk1⟩:=hp
 refine Zse _ _ _ _ ?_
 refine Za (ι:=Int × Int) (fun p=> Z4i w b k p.1 p.2) (fun p=> 0<=p.2/\p.2<=b/\p.1=w / 2 ^ p.2.toNat/\0<=p.1/\p.1 < 18446744073709551616) (fun p=> (b - p.2).toNat) (w,0) rfl ⟨by simp,by dsimp only;omega,by show w=w / 2 ^ 0;rw [Int.pow_zero,Int.ediv_one],hw0,hw1⟩ ?_
 rintro ⟨x,i⟩ ⟨h1,h2,h3,h4,h5⟩
 dsimp only at h1 h2 h3 h4 h5
 refine Zkn _ _ _ _ _ _ _ ?_
 (simp only [vcT,vcS])
 refine ⟨fun hi=> ⟨by decide,by ((unfold InR;omega)),(IntKind.wrap .u64 (Int.tdiv x 2),i+1),rfl,?_,by dsimp only;omega⟩,fun hi=> ?_⟩
 ·rw [ZlZ h4 h5]
  refine ⟨by dsimp only;omega,by dsimp only;omega,?_,by dsimp only;omega,by dsimp only;omega⟩
  dsimp only
  rw [h3,J0,show (i+1).toNat=i.toNat+1 by omega]
 ·have hib:i=b:=by omega
  subst hib
  clear hi
  generalize hx:x=x0 at*
  refine Za (ι:=Int × Int × Int × Int) (fun p=> Z2g w i k p.1 p.2.1 p.2.2.1 p.2.2.2) (fun p=> 0<=p.2.2.2/\p.2.2.2<=k/\p.1=x0 / 2 ^ p.2.2.2.toNat/\p.2.1=x0 % 2 ^ p.2.2.2.toNat/\p.2.2.1=2 ^ p.2.2.2.toNat) (fun p=> (k - p.2.2.2).toNat) (x0,0,1,0) rfl ⟨by simp,by dsimp only;omega,by show x0=x0 / 2 ^ 0;rw [Int.pow_zero,Int.ediv_one],by show 0=x0 % 2 ^ 0;rw [Int.pow_zero,Int.emod_one],rfl⟩ ?_
  rintro ⟨y,n,p,j⟩ ⟨g1,g2,g3,g4,g5⟩
  dsimp only at g1 g2 g3 g4 g5
  refine Zkm _ _ _ _ _ _ _ _ _ ?_
  (simp only [vcT,vcS])
  have hpp:=Y3 j.toNat
  have hple:(2:Int) ^ j.toNat<=4294967296:=by
   have:(2:Int) ^ j.toNat=((2 ^ j.toNat:Nat):Int):=by simp
   rw [this]
   have:=Xk (n:=2) (show 0 < 2 by decide) (show j.toNat<=32 by omega)
   omega
  have hy0:0<=y:=by rw [g3];exact XT h4 (by omega)
  have hy1:y < 18446744073709551616:=by rw [g3];exact Int.lt_of_le_of_lt (XJ _ h4) h5
  have hn0:0<=n:=by rw [g4];exact Xb _ (by omega)
  have hn1:n < 4294967296:=by rw [g4];have:=X2 x0 hpp;omega
  have hm:Int.tmod y 2=y % 2:=Qw hy0
  have hs:x0 % 2 ^ (j.toNat+1)=x0 % 2 ^ j.toNat+y % 2*2 ^ j.toNat:=by
   rw [g3,Z01]
   generalize (2:Int) ^ j.toNat=q at hpp ⊢
   have e1:=X6 x0 q
   have e2:=X6 (x0 / q) 2
   have e3:=X6 x0 (q*2)
   have e4:x0 / (q*2)=x0 / q / 2:=by rw [Xr (by omega)]
   rw [e4] at e3
   have e5:q*(x0 / q)=q*(x0 / q % 2)+q*2*(x0 / q / 2):=by
    rw [Int.mul_assoc,<-Int.mul_add,e2]
   rw [Xo (x0 / q % 2) q]
   omega
  rw [hm]
  refine ⟨fun hj=> ⟨by decide,fun ho=> ⟨by ((unfold InR;omega)),by decide,by ((unfold InR;omega)),by ((unfold InR;omega)),(_,_,_,j+1),rfl,⟨by dsimp only;omega,by dsimp only;omega,?_,?_,?_⟩,by dsimp only;omega⟩,fun ho=> ⟨by decide,by ((unfold InR;omega)),by ((unfold InR;omega)),(_,_,_,j+1),rfl,⟨by dsimp only;omega,by dsimp only;omega,?_,?_,?_⟩,by dsimp only;omega⟩⟩,fun hj=> Z7 rfl ?_⟩
  ·show IntKind.wrap .u64 (Int.tdiv y 2)=_
   rw [ZlZ hy0 hy1,g3,J0,show (j+1).toNat=j.toNat+1 by omega]
  ·show n+p=_
   rw [show (j+1).toNat=j.toNat+1 by omega,hs,ho,g4,g5,Int.one_mul]
  ·show 2*p=_
   rw [show (j+1).toNat=j.toNat+1 by omega,Z01,g5,Xo]
  ·show IntKind.wrap .u64 (Int.tdiv y 2)=_
   rw [ZlZ hy0 hy1,g3,J0,show (j+1).toNat=j.toNat+1 by omega]
  ·show n=_
   rw [show (j+1).toNat=j.toNat+1 by omega,hs,show y % 2=0 by omega,g4,Int.zero_mul,Int.add_zero]
  ·show 2*p=_
   rw [show (j+1).toNat=j.toNat+1 by omega,Z01,g5,Xo]
  ·show n=ZJ w i k
   rw [g4,show j=k by omega]
   unfold ZJ
   rw [h3]
theorem Ztp{w:Int}(h0:0<=w)(h1:w < 18446744073709551616):IntKind.wrap .u64 (BitVec.ofInt (IntKind.bits .u64) w &&& BitVec.ofInt (IntKind.bits .u64) 3).toNat=w % 4:=Z8n h0 h1 2 (by decide) rfl
theorem Zto{w:Int}(h0:0<=w)(h1:w < 18446744073709551616):(IntKind.wrap .u64 (BitVec.ofInt (IntKind.bits .u64) w &&& BitVec.ofInt (IntKind.bits .u64) 4).toNat !=0)=decide (w / 4 % 2=1):=by
 obtain ⟨n,rfl⟩:=Qg h0
 have e1:BitVec.ofInt (IntKind.bits .u64) ((n:Nat):Int)=BitVec.ofNat 64 n:=by simp [IntKind.bits]
 have e2:BitVec.ofInt (IntKind.bits .u64) (4:Int)=BitVec.ofNat 64 4:=rfl
 rw [e1,e2]
 have hn:n < 2 ^ 64:=by omega
 have e4:(BitVec.ofNat 64 n &&& BitVec.ofNat 64 4).toNat=n / 4 % 2*4:=by
  rw [BitVec.toNat_and,XD,XD,Xc hn]
  apply Nat.eq_of_testBit_eq
  intro k
  rw [Nat.testBit_and,show (4 % 2 ^ 64:Nat)=2 ^ 2 from rfl,Nat.testBit_two_pow]
  by_cases hk:2=k
  ·subst hk
   rw [Nat.testBit_eq_decide_div_mod_eq]
   have:n / 4 % 2=0\/n / 4 % 2=1:=by omega
   rcases this with e | e <;> rw [show n / 2 ^ 2=n / 4 from rfl,e] <;> decide
  ·have:n / 4 % 2=0\/n / 4 % 2=1:=by omega
   rcases this with e | e <;> rw [e]
   ·simp [hk]
   ·rw [show 1*4=2 ^ 2 from rfl,Nat.testBit_two_pow];simp [hk]
 show (IntKind.wrap .u64 ((BitVec.ofNat 64 n &&& BitVec.ofNat 64 4).toNat:Int) !=0)=_
 rw [e4,Zo (by omega) (by omega)]
 rw [Qv]
 simp
 omega
theorem Zl5{w:Int}(h0:0<=w)(h1:w < 18446744073709551616):Int.fdiv (IntKind.wrap .i64 (IntKind.wrap .i32 (IntKind.wrap .u32 w))) (2 ^ (min (Int.toNat 2) (IntKind.bits .i64)))=Z27 w:=by
 show Int.fdiv _ 4=_
 rw [Xy _ (by decide)]
 unfold Z27
 simp only [IntKind.wrap,IntKind.signed,IntKind.bits]
 simp
 repeat' split
 all_goals omega
theorem c86:Contract Try.prog cfg 86 Z1H:=by
 refine ZnN ?_
 intro w _ hp
 simp only [Z5F] at hp
 refine Zsk _ _ ?_
 rintro y hy
 dsimp only at hy
 have h3:=Ztp hp.1 hp.2
 rw [<-hy] at h3
 (simp only [vcT,vcS])
 rw [h3,Zl5 hp.1 hp.2,Zto hp.1 hp.2]
 have hs:∀ (k:Nat),k<=64->Int.fdiv w (2 ^ (min (Int.toNat (k:Int)) (IntKind.bits .u64)))=w / 2 ^ k:=fun k hk=> Zdh (x:=w) (n:=(k:Int)) (by omega) (by omega)
 have s32:=hs 32 (by decide)
 have s48:=hs 48 (by decide)
 have s35:=hs 35 (by decide)
 have s3:=hs 3 (by decide)
 have m1:∀ x m:Int,0<=x->x < 18446744073709551616->∀ k:Nat,k<=32->m=2 ^ k - 1->IntKind.wrap .i64 (IntKind.wrap .u64 (BitVec.ofInt (IntKind.bits .u64) x &&& BitVec.ofInt (IntKind.bits .u64) m).toNat)=x % 2 ^ k:=by
  intro x m hx0 hx1 k hk hm
  rw [Z8n hx0 hx1 k (by omega) hm]
  have hp':=Y3 k
  have hle:(2:Int) ^ k<=4294967296:=by
   have:(2:Int) ^ k=((2 ^ k:Nat):Int):=by simp
   rw [this]
   have:=Xk (n:=2) (show 0 < 2 by decide) hk
   omega
  have a1:=Xb x (show (2:Int) ^ k≠0 by omega)
  have a2:=X2 x hp'
  exact Ya (by omega) (by omega)
 erw [s32,s48,s35,s3]
 rw [m1 _ 65535 (by omega) (by omega) 16 (by decide) rfl,m1 _ 7 (by omega) (by omega) 3 (by decide) rfl,m1 _ 536870911 (by omega) (by omega) 29 (by decide) rfl]
 rw [Ya (n:=w / 2 ^ 48) (by omega) (by omega),Ya (n:=w / 2 ^ 35) (by omega) (by omega),Ya (n:=w / 2 ^ 32) (by omega) (by omega)]
 refine ⟨by decide,fun h=> ?_,fun hz=> ⟨fun h=> ⟨by decide,by decide,?_⟩,fun h0=> ⟨fun h=> ⟨by decide,by decide,?_⟩,fun h1=> ⟨fun h=> ⟨by decide,by decide,?_⟩,fun h2=> ?_⟩⟩⟩⟩
 all_goals
  refine ZG (r':= .agg (enc .ptr (Z4 w))) rfl ?_
 ·rw [show Z4 w=pz by unfold Z4;rw [if_pos h]];(repeat' (first | exact trivial | exact rfl | apply And.intro))
 ·rw [show Z4 w=⟨1,Z27 w,w / 4294967296 % 65536,w / 281474976710656,0,0,0,false⟩ by unfold Z4;rw [if_neg hz,if_pos h]];(repeat' (first | exact trivial | exact rfl | apply And.intro))
 ·rw [show Z4 w=⟨2,Z27 w,0,0,w / 4294967296 % 8,w / 34359738368,0,false⟩ by unfold Z4;rw [if_neg hz,if_neg h0,if_pos h]];(repeat' (first | exact trivial | exact rfl | apply And.intro))
 ·rw [show Z4 w=⟨3,w / 8 % 536870912,0,0,0,0,w / 4294967296,decide (w / 4 % 2=1)⟩ by unfold Z4;rw [if_neg hz,if_neg h0,if_neg h1,if_pos h]];(repeat' (first | exact trivial | exact rfl | apply And.intro))
 ·rw [show Z4 w=⟨4,0,0,0,0,0,0,false⟩ by unfold Z4;rw [if_neg hz,if_neg h0,if_neg h1,if_neg h2]];(repeat' (first | exact trivial | exact rfl | apply And.intro))
theorem Zpu{w:Int}(h0:0<=w)(h1:w < 18446744073709551616):ZJ w 2 30=w / 4 % 1073741824/\ZJ w 0 2=w % 4/\ZJ w 32 16=w / 4294967296 % 65536/\ZJ w 48 16=w / 281474976710656/\
  ZJ w 32 3=w / 4294967296 % 8/\ZJ w 35 29=w / 34359738368/\ZJ w 3 29=w / 8 % 536870912/\ZJ w 32 32=w / 4294967296/\ZJ w 2 1=w / 4 % 2:=by
 simp only [ZJ]
 refine ⟨rfl,?_,rfl,?_,rfl,?_,rfl,?_,rfl⟩
 ·show w / 1 % 4=_;omega
 ·show w / 281474976710656 % 65536=_;omega
 ·show w / 34359738368 % 536870912=_;omega
 ·show w / 4294967296 % 4294967296=_;omega
theorem c66:Contract Try.prog cfg 66 Z1H:=by
 refine Zo3 c92 ?_
 intro w _ hp
 simp only [Z5F] at hp
 obtain ⟨f1,f2,f3,f4,f5,f6,f7,f8,f9⟩:=Zpu hp.1 hp.2
 have ho:∀ b k:Int,0<=b->b<=64->0<=k->k<=32->YY (w,b,k,()):=fun b k h1 h2 h3 h4=> ⟨hp,h1,h2,h3,h4⟩
 refine ZsD _ _ ?_
 (simp only [vcT,vcS])
 rw [f1,f2,f3,f4,f5,f6,f7,f8,f9]
 have d0:w=0->Z4 w=pz:=fun h=> by unfold Z4;rw [if_pos h]
 have d1:¬w=0->w % 4=0->Z4 w=⟨1,Z27 w,w / 4294967296 % 65536,w / 281474976710656,0,0,0,false⟩:=fun hz h=> by unfold Z4;rw [if_neg hz,if_pos h]
 have d2:¬w=0->¬w % 4=0->w % 4=1->Z4 w=⟨2,Z27 w,0,0,w / 4294967296 % 8,w / 34359738368,0,false⟩:=fun hz h0 h=> by unfold Z4;rw [if_neg hz,if_neg h0,if_pos h]
 have d3:¬w=0->¬w % 4=0->¬w % 4=1->w % 4=2->Z4 w=⟨3,w / 8 % 536870912,0,0,0,0,w / 4294967296,w / 4 % 2==1⟩:=fun hz h0 h1 h=> by
  unfold Z4;rw [if_neg hz,if_neg h0,if_neg h1,if_pos h];try rfl
 have d4:¬w=0->¬w % 4=0->¬w % 4=1->¬w % 4=2->Z4 w=⟨4,0,0,0,0,0,0,false⟩:=fun hz h0 h1 h2=> by unfold Z4;rw [if_neg hz,if_neg h0,if_neg h1,if_neg h2]
 have hr:ZgO (w,())= .agg (enc .ptr (Z4 w)):=rfl
 have hs:∀ {x y:Int} {b:Bool},True:=trivial
 rw [hr]
 refine ⟨fun h=> by rw [d0 h];(repeat' (first | exact trivial | exact rfl | apply And.intro)),fun hz=> ⟨ho _ _ (by decide) (by decide) (by decide) (by decide),fun hb=> ?_,fun hb=> ?_⟩⟩
 ·have hof:Z27 w=w / 4 % 1073741824 - 1073741824:=by unfold Z27;rw [if_pos hb]
  rw [<-hof]
  refine ⟨by rw [hof];((unfold InR;omega)),ho _ _ (by decide) (by decide) (by decide) (by decide),fun h0=> ⟨ho _ _ (by decide) (by decide) (by decide) (by decide),ho _ _ (by decide) (by decide) (by decide) (by decide),?_⟩,fun h0=> ⟨fun h1=> ⟨ho _ _ (by decide) (by decide) (by decide) (by decide),ho _ _ (by decide) (by decide) (by decide) (by decide),?_⟩,fun h1=> ⟨fun h2=> ⟨ho _ _ (by decide) (by decide) (by decide) (by decide),ho _ _ (by decide) (by decide) (by decide) (by decide),ho _ _ (by decide) (by decide) (by decide) (by decide),?_⟩,fun h2=> ?_⟩⟩⟩
  ·rw [d1 hz h0];(repeat' (first | exact trivial | exact rfl | apply And.intro))
  ·rw [d2 hz h0 h1];(repeat' (first | exact trivial | exact rfl | apply And.intro))
  ·rw [d3 hz h0 h1 h2];(repeat' (first | exact trivial | exact rfl | apply And.intro))
  ·rw [d4 hz h0 h1 h2];(repeat' (first | exact trivial | exact rfl | apply And.intro))
 ·have hof:Z27 w=w / 4 % 1073741824:=by unfold Z27;rw [if_neg hb]
  rw [<-hof]
  refine ⟨ho _ _ (by decide) (by decide) (by decide) (by decide),fun h0=> ⟨ho _ _ (by decide) (by decide) (by decide) (by decide),ho _ _ (by decide) (by decide) (by decide) (by decide),?_⟩,fun h0=> ⟨fun h1=> ⟨ho _ _ (by decide) (by decide) (by decide) (by decide),ho _ _ (by decide) (by decide) (by decide) (by decide),?_⟩,fun h1=> ⟨fun h2=> ⟨ho _ _ (by decide) (by decide) (by decide) (by decide),ho _ _ (by decide) (by decide) (by decide) (by decide),ho _ _ (by decide) (by decide) (by decide) (by decide),?_⟩,fun h2=> ?_⟩⟩⟩
  ·rw [d1 hz h0];(repeat' (first | exact trivial | exact rfl | apply And.intro))
  ·rw [d2 hz h0 h1];(repeat' (first | exact trivial | exact rfl | apply And.intro))
  ·rw [d3 hz h0 h1 h2];(repeat' (first | exact trivial | exact rfl | apply And.intro))
  ·rw [d4 hz h0 h1 h2];(repeat' (first | exact trivial | exact rfl | apply And.intro))
theorem ZfZ:Contract Try.prog cfg 124 Z0s:=by
 refine Zld ?_
 intro n to _ _
 refine Zr6 _ _ _ ?_
 (simp only [vcT,vcS])
 refine Zj rfl ?_
 rw [Qv]
 (simp only [vcT,vcS])
theorem ZpB:Contract Try.prog cfg 115 Z3K:=by
 refine Zlm ?_
 intro p _ hp
 simp only [Zac] at hp
 have h1:=hp.data
 have h2:=hp.ptrs
 have h3:=hp.code
 have h4:=hp.count
 refine Zrf _ _ ?_
 (simp only [vcT,vcS])
 have ht:∀ k:Int,0 < k->IntKind.wrap .i64 (Int.tdiv p.count k)=p.count / k:=fun k hk=> by
  rw [Ql h4.1]
  have:=XT h4.1 (QP hk)
  have:=XJ k h4.1
  exact Ya (by omega) (by omega)
 have hm:∀ k:Int,Int.tmod p.count k=p.count % k:=fun k=> Qw h4.1
 simp only [ht 64 (by decide),ht 8 (by decide),ht 4 (by decide),ht 2 (by decide),ht 1 (by decide),hm]
 (repeat' (first | with_reducible (refine And.intro ?_ ?_) | with_reducible intro _))
 all_goals first
  | decide
  | (unfold InR;omega)
  | (refine Z7 rfl ?_;(show _=ZF p);simp only [ZF,Z0o];(repeat' split) <;> omega)
theorem Zpy:Contract Try.prog cfg 122 Z3H:=by
 refine Zlf ZfZ ?_
 intro p _ hp
 simp only [Zac] at hp
 have h1:=hp.data
 have h2:=hp.ptrs
 have h3:=hp.code
 have h4:=hp.count
 refine Zr8 _ _ ?_
 rintro y hy
 (simp only [vcT,vcS])
 dsimp only at hy
 have hy':p.code<=6->y=Z0o p.code:=fun h=> by
  have:p.code=0\/p.code=1\/p.code=2\/p.code=3\/p.code=4\/p.code=5\/p.code=6:=by omega
  rcases this with e | e | e | e | e | e | e <;> rw [hy,e] <;> decide
 have hb:0<=Z0o p.code/\Z0o p.code<=64:=by unfold Z0o;(repeat' split) <;> omega
 have hc:p.code<=6->0<=p.count*y/\p.count*y<=34359738368:=fun h=> by
  rw [hy' h]
  have:=XW (QP h4.2) hb.2 hb.1 (by decide:(0:Int)<=536870912)
  exact ⟨QE h4.1 hb.1,by omega⟩
 have hr:∀ n:Int,0<=n->ZF p=n->Z4Z (p,())= .tup [(false,[.int .i64 n]),(false,[.bool true])]:=fun n h0 h=> by
  simp only [Z4Z];rw [h,if_neg (by omega),decide_eq_true h0]
 have hr':ZF p < 0->Z4Z (p,())= .tup [(false,[.int .i64 0]),(false,[.bool false])]:=fun h=> by
  simp only [Z4Z];rw [if_pos h,decide_eq_false (by omega)]
 refine ⟨fun k1=> ⟨by ((unfold InR;omega)),?_⟩,fun k1=> ⟨fun k2=> ⟨by ((unfold InR;omega)),?_⟩,fun k2=> ⟨fun _=> trivial,fun _=> trivial,fun k3=> ?_,fun k3=> ?_⟩⟩⟩
 ·rw [hr (p.data+p.ptrs) (by omega) (by unfold ZF;rw [if_pos k1])];(repeat' (first | exact trivial | exact rfl | apply And.intro))
 ·rw [hr (p.count+1) (by omega) (by unfold ZF;rw [if_neg k1,if_pos k2.1,if_pos k2.2])];(repeat' (first | exact trivial | exact rfl | apply And.intro))
 ·have hcc:=hc k3.1.2.2
  rw [Ql (by omega),Ya (by omega) (by omega)]
  refine ⟨by omega,by ((unfold InR;omega)),by ((unfold InR;omega)),by decide,?_⟩
  rw [hr ((p.count*y+63) / 64) (by omega) (by unfold ZF;rw [if_neg k1,if_pos k3.1.1,if_neg (by omega),if_neg (by omega),hy' k3.1.2.2])];(repeat' (first | exact trivial | exact rfl | apply And.intro))
 ·have hn:ZF p < 0:=by
   unfold ZF
   rw [if_neg k1]
   split
   ·rw [if_neg (by omega),if_pos (by omega)];decide
   ·decide
  rw [hr' hn];(repeat' (first | exact trivial | exact rfl | apply And.intro))
noncomputable section
def ZeX:ArgL (Option Arena × Unit):=(.cons (aPo .arena) .nil)
def Zae(a:Option Arena × Unit):Prop:=okA a.1
def Zh6(a:Option Arena × Unit):V U:= .c (ci ((Z2 a.1).length:Int))
def Z0w:Fs U:=fs ZeX (fun a=> [Zae a]) Zh6
def ZeY:ArgL (Option Arena × Int × Unit):=(.cons (aPo .arena) (.cons (Zr .i64) .nil))
def Zcf(a:Option Arena × Int × Unit):Prop:=okA a.1
def Zh7(a:Option Arena × Int × Unit):V U:= .c (ci ((Yk (Z2 a.1) a.2.1).length:Int))
def Z3M:Fs U:=fs ZeY (fun a=> [Zcf a]) Zh7
def Zjo:ArgL (Option Arena × Int × Int × Int × Unit):=(.cons (aPo .arena) (.cons (Zr .i64) (.cons (Zr .i64) (.cons (Zr .i64) .nil))))
def Zbg(a:Option Arena × Int × Int × Int × Unit):Prop:=okA a.1
def ZmK(a:Option Arena × Int × Int × Int × Unit):V U:= .c (.bool (ZQ (Z2 a.1) a.2.1 a.2.2.1 a.2.2.2.1))
def Z05:Fs U:=fs Zjo (fun a=> [Zbg a]) ZmK
def ZjE:ArgL (Option Arena × Int × Int × Unit):=(.cons (aPo .arena) (.cons (Zr .i64) (.cons (Zr .i64) .nil)))
def Z7J(a:Option Arena × Int × Int × Unit):Prop:=okA a.1
def Zdt(a:Option Arena × Int × Int × Unit):V U:= .tup [(false,[.int .u64 (if ZQ (Z2 a.1) a.2.1 a.2.2.1 1 then ZA (Z2 a.1) a.2.1 a.2.2.1 else 0)]),(false,[.bool (ZQ (Z2 a.1) a.2.1 a.2.2.1 1)])]
def Jk:Fs U:=fs ZjE (fun a=> [Z7J a]) Zdt
def ZjG:ArgL (List Int × Unit):=(.cons (aSl .u64) .nil)
def Z7K(a:List Int × Unit):Prop:=a.1.length<=17592186044416
def ZmT(a:List Int × Unit):V U:= .c (sU .u64 a.1 .unk)
def Z07:Fs U:=fs ZjG (fun a=> [Z7K a]) ZmT
def Z9Y(a:Option Arena × Int × Int × Int × Unit):V U:= .tup [(false,[sU .u64 (if ZQ (Z2 a.1) a.2.1 a.2.2.1 a.2.2.2.1 then Z1y (Z2 a.1) a.2.1 a.2.2.1 a.2.2.2.1 else []) .unk]),(false,[.bool (ZQ (Z2 a.1) a.2.1 a.2.2.1 a.2.2.2.1)])]
def Z3L:Fs U:=fs Zjo (fun a=> [Zbg a]) Z9Y
def Zk5:ArgL (List (List Int) × Unit):=(.cons (aSl .words) .nil)
def ZdW(a:List (List Int) × Unit):Prop:=ZX a.1
def Zn6(a:List (List Int) × Unit):V U:= .c (.po (U:=U) .arena (some (Arena.mk a.1 0 0 0)))
def Z7g:Fs U:=fs Zk5 (fun a=> [ZdW a]) Zn6
def Zi6:Z6 U:=lvl [([0],[]),([0,4],[]),([2],[]),([2],[])]
abbrev Ztz(p:List Nat):=AW (Z1 ZiK) Try.f112 Zi6 p
theorem Zri(a:Option Arena)(Q:QT)(h:(((Option.isNone a)=true->(Q .ret (L2 [pI 2 0] [])))/\((Option.isNone a)=false->(Option.isSome a=true)/\(Option.isSome a=true)/\(Q .ret (L2 [(2,.c (ci ((Arena.segs (Option.getD a (Arena.mk [] 0 0 0))).length:Int)))] []))))):
  Ztz [] (L2 [(0,.c (.po (U:=U) .arena a))] []) Q:=
 Eq.mpr (by kernel_rfl) h
def Zmo(a:Option Arena):Prop:=AW (Z1 ZiK) Try.f112 Zi6 [] (Zb (ZeX.can (a,())) []) (EQ Try.f112 (Zh6 (a,())) [])
theorem Zlp(hb:∀ (a:Option Arena) (_:Unit),Zae (a,())->Zmo a):CT 112 Z0w:=
 Z0 (l:=[]) Z9 rfl trivial Zi6 Try.func112 rfl rfl 1 (fun _=> rfl) (by decide) (fun ⟨a,_⟩=> hb a ())
def Zes:List (FuncId × Fs U):=[(112,Z0w)]
def Zi7:Z6 U:=lvl [([0,1],[]),([0,1,12],[]),([4],[]),([4],[])]
abbrev ZtA(p:List Nat):=AW (Z1 Zes) Try.f111 Zi7 p
theorem Zrj(a:Option Arena)(s:Int)(Q:QT)(h:let z2:=Arena.segs (Option.getD a (Arena.mk [] 0 0 0));let z1:= !(decide (s < 0));let z0:=bif (decide (s < 0)) then true else (decide ((((Z2 a).length:Int):Int)<=s));((Tr (z1=true))/\(z1=true->Zae (a,()))/\(Tr (z1=true))/\(Tr (z1=true))/\((decide (s < 0))=false->z1=true)/\((z0=true->(Q .ret (L2 [pI 4 0] [])))/\(z0=false->(Option.isSome a=true)/\(Option.isSome a=true)/\((0:Int)<=s/\s < (z2.length:Int))/\(Q .ret (L2 [(4,.c (ci ((List.getD z2 s.toNat ([]:List Int)).length:Int)))] [])))))):
  ZtA [] (L2 [(0,.c (.po (U:=U) .arena a)),pI 1 s] []) Q:=
 Eq.mpr (by kernel_rfl) h
def Zmp(a:Option Arena)(s:Int):Prop:=AW (Z1 Zes) Try.f111 Zi7 [] (Zb (ZeY.can (a,s,())) []) (EQ Try.f111 (Zh7 (a,s,())) [])
theorem Zlq(Zg5:CT 112 Z0w)(hb:∀ (a:Option Arena) (s:Int) (_:Unit),Zcf (a,s,())->Zmp a s):CT 111 Z3M:=
 Z0 (l:=[(112,Z0w)]) Z9 rfl (⟨Zg5,trivial⟩) Zi7 Try.func111 rfl rfl 2 (fun _=> rfl) (by decide) (fun ⟨a,s,_⟩=> hb a s ())
def Ziu:List (FuncId × Fs U):=[(112,Z0w),(111,Z3M)]
def ZoO:Z6 U:=lvl [([0,1,2,3],[]),([0,1,2,3,9],[]),([8],[])]
abbrev A85(p:List Nat):=AW (Z1 Ziu) Try.f85 ZoO p
theorem Zsl(a:Option Arena)(s at_ n:Int)(Q:QT)(h:let z5:=Yk (Z2 a) s;let z3:=decide ((0:Int)<=s);let z2:=bif z3 then (decide (s < ((Z2 a).length:Int))) else false;let z4:=bif z2 then (decide ((0:Int)<=at_)) else false;let z0:=bif z4 then (decide ((0:Int)<=n)) else false;let z1:=bif z0 then (decide (n<=(z5.length:Int))) else false;((Zcf (a,s,()))/\((Tr (z3=true))/\(z3=true->Zae (a,()))/\(Tr (z3=true))/\(Tr (z3=true))/\(Tr (z3=true))/\(Tr (z2=true))/\(Tr (z2=true))/\(Tr (z4=true))/\(Tr (z4=true))/\(Tr (z0=true))/\(Tr (z0=true))/\(Tr (z0=true))/\(Tr (z1=true))/\(Tr (z1=true))/\(z1=true->InR (((z5.length:Int):Int) - n))/\(Tr (z1=true))/\(Tr (z1=true))/\(Tr (z1=true))/\(Q .ret (L2 [(8,.c (.bool (bif z1 then (decide (at_<=(((z5.length:Int):Int) - n))) else false)))] []))))):
  A85 [] (L2 [(0,.c (.po (U:=U) .arena a)),pI 1 s,pI 2 at_,pI 3 n] []) Q:=
 Eq.mpr (by kernel_rfl) h
def Zq4(a:Option Arena)(s at_ n:Int):Prop:=AW (Z1 Ziu) Try.f85 ZoO [] (Zb (Zjo.can (a,s,at_,n,())) []) (EQ Try.f85 (ZmK (a,s,at_,n,())) [])
theorem ZnO(Zg5:CT 112 Z0w)(ZpD:CT 111 Z3M)(hb:∀ (a:Option Arena) (s:Int) (at_:Int) (n:Int) (_:Unit),Zbg (a,s,at_,n,())->Zq4 a s at_ n):CT 85 Z05:=
 Z0 (l:=[(112,Z0w),(111,Z3M)]) Z9 rfl (⟨Zg5,ZpD,trivial⟩) ZoO Try.func85 rfl rfl 4 (fun _=> rfl) (by decide) (fun ⟨a,s,at_,n,_⟩=> hb a s at_ n ())
def ZiF:List (FuncId × Fs U):=[(85,Z05)]
def ZoZ:Z6 U:=lvl [([0,1,2],[]),([0,1,2,12],[]),([6,7],[]),([6,7],[])]
abbrev A62(p:List Nat):=AW (Z1 ZiF) Try.f62 ZoZ p
theorem ZsH(a:Option Arena)(s at_:Int)(Q:QT)(h:let z0:=Arena.segs (Option.getD a (Arena.mk [] 0 0 0));let z1:=List.getD z0 s.toNat ([]:List Int);((Zbg (a,s,at_,1,()))/\(((!(ZQ (Z2 a) s at_ 1))=true->(Q .ret (L2 [(6,.c (.int .u64 0)),pB 7 false] [])))/\((!(ZQ (Z2 a) s at_ 1))=false->(Option.isSome a=true)/\(Option.isSome a=true)/\((0:Int)<=s/\s < (z0.length:Int))/\((0:Int)<=at_/\at_ < (z1.length:Int))/\(Q .ret (L2 [(6,.c (.int .u64 (List.getD z1 at_.toNat (0:Int)))),pB 7 true] [])))))):
  A62 [] (L2 [(0,.c (.po (U:=U) .arena a)),pI 1 s,pI 2 at_] []) Q:=
 Eq.mpr (by kernel_rfl) h
def Zqq(a:Option Arena)(s at_:Int):Prop:=AW (Z1 ZiF) Try.f62 ZoZ [] (Zb (ZjE.can (a,s,at_,())) []) (EQ Try.f62 (Zdt (a,s,at_,())) [])
theorem Zo7(c85:CT 85 Z05)(hb:∀ (a:Option Arena) (s:Int) (at_:Int) (_:Unit),Z7J (a,s,at_,())->Zqq a s at_):CT 62 Jk:=
 Z0 (l:=[(85,Z05)]) Z9 rfl (⟨c85,trivial⟩) ZoZ Try.func62 rfl rfl 3 (fun _=> rfl) (by decide) (fun ⟨a,s,at_,_⟩=> hb a s at_ ())
abbrev A60(p:List Nat):=AW (Z1 ZiK) Try.f60 Zi6 p
theorem ZsJ(l:List Int)(Q:QT)(h:(((l=[])->(Q .ret (L2 [(2,.c (.nils))] [])))/\(True->((([]:List Int).length+l.length)*8<=140737488355328)/\(Q .ret (L2 [(2,.c (sU .u64 (([]:List Int)++l) (.own (.e 2 0))))] []))))):
  A60 [] (L2 [(0,.c (sU .u64 l .unk))] []) Q:=
 Eq.mpr (by kernel_rfl) h
def Zqs(l:List Int):Prop:=AW (Z1 ZiK) Try.f60 Zi6 [] (Zb (ZjG.can (l,())) []) (EQ Try.f60 (ZmT (l,())) [])
theorem Zo9(hb:∀ (l:List Int) (_:Unit),Z7K (l,())->Zqs l):CT 60 Z07:=
 Z0 (l:=[]) Z9 rfl trivial Zi6 Try.func60 rfl rfl 1 (fun _=> rfl) (by decide) (fun ⟨l,_⟩=> hb l ())
def Zep:List (FuncId × Fs U):=[(85,Z05),(60,Z07)]
def Zi4:Z6 U:=lvl [([0,1,2,3],[]),([0,1,2,3,15],[]),([8,9],[]),([8,9],[])]
abbrev Ztx(p:List Nat):=AW (Z1 Zep) Try.f114 Zi4 p
theorem Zrg(a:Option Arena)(s at_ n:Int)(Q:QT)(h:let z2:=Arena.segs (Option.getD a (Arena.mk [] 0 0 0));let z0:=List.getD z2 s.toNat ([]:List Int);let z1:=List.drop at_.toNat (List.take (Int.toNat (at_+n)) z0);((Zbg (a,s,at_,n,()))/\(((!(ZQ (Z2 a) s at_ n))=true->(Q .ret (L2 [(8,.c (.nils)),pB 9 false] [])))/\((!(ZQ (Z2 a) s at_ n))=false->(Option.isSome a=true)/\(Option.isSome a=true)/\((0:Int)<=s/\s < (z2.length:Int))/\(InR (at_+n))/\((0:Int)<=at_/\at_<=(at_+n)/\(at_+n)<=(z0.length:Int))/\(Z7K (z1,()))/\(Q .ret (L2 [(8,.c (sU .u64 z1 .unk)),pB 9 true] [])))))):
  Ztx [] (L2 [(0,.c (.po (U:=U) .arena a)),pI 1 s,pI 2 at_,pI 3 n] []) Q:=
 Eq.mpr (by kernel_rfl) h
def Zmm(a:Option Arena)(s at_ n:Int):Prop:=AW (Z1 Zep) Try.f114 Zi4 [] (Zb (Zjo.can (a,s,at_,n,())) []) (EQ Try.f114 (Z9Y (a,s,at_,n,())) [])
theorem Zln(c85:CT 85 Z05)(c60:CT 60 Z07)(hb:∀ (a:Option Arena) (s:Int) (at_:Int) (n:Int) (_:Unit),Zbg (a,s,at_,n,())->Zmm a s at_ n):CT 114 Z3L:=
 Z0 (l:=[(85,Z05),(60,Z07)]) Z9 rfl (⟨c85,c60,trivial⟩) Zi4 Try.func114 rfl rfl 4 (fun _=> rfl) (by decide) (fun ⟨a,s,at_,n,_⟩=> hb a s at_ n ())
def ZcJ:List (FuncId × Fs U):=[(60,Z07)]
def ZlQ:Z6 U:=fun i=> match i with
 | 0=> ([(0,[])],[])
 | 1=> ([(0,[]),(3,[])],[(.loc 7,[])])
 | 2=> ([(3,[]),(8,[]),(9,[]),(10,[])],[(.loc 7,[.own .words])])
 | 3=> ([(3,[]),(8,[]),(9,[]),(10,[]),(11,[])],[(.loc 7,[])])
 | 4=> ([(3,[]),(5,[]),(8,[]),(9,[]),(10,[])],[(.loc 7,[])])
 | 5=> ([(3,[]),(8,[]),(9,[]),(10,[])],[(.loc 7,[])])
 | 6=> ([(3,[]),(8,[]),(9,[]),(10,[])],[(.loc 7,[.own .words])])
 | 7=> ([(2,[.pt .arena])],[(.loc 7,[])])
 | _=> ([],[])
def Z4z(l:List (List Int))(x10:Int)(ml7_0:List (List Int)):LSt U:=(L2 [(3,.ptr (.loc 7) 0),(8,.c (sU .words l .unk)),pI 9 (l.length:Int),pI 10 x10] [(.loc 7,[sU .words ml7_0 (.own (.l 7 0)),ci 0,ci 0,ci 0])])
abbrev A20(p:List Nat):=AW (Z1 ZcJ) Try.f20 ZlQ p
abbrev S20(p:List Nat):=SW (Z1 ZcJ) Try.f20 ZlQ p
theorem Ztd(l:List (List Int))(Q:QT)(h:(Zk (A20 [1,1,0,1,0,0]) (Z4z l 0 []) (xB 0 (S20 [1,1,1] Q)))):
  A20 [] (L2 [(0,.c (sU .words l .unk))] []) Q:=
 Eq.mpr (by kernel_rfl) h
theorem ZkV(l:List (List Int))(x10:Int)(ml7_0:List (List Int))(N0:NT)(Q:QT)(h:let z1:=decide (x10 < (l.length:Int));let z0:=l.getD x10.toNat ([]:List Int);((z1=true->((0:Int)<=x10/\x10 < (l.length:Int))/\((Z7K (z0,()))/\((ml7_0.length+([z0]).length)*24<=140737488355328)/\((InR (x10+1))/\(N0 (Z4z l (x10+1) (ml7_0++([z0])))))))/\(z1=false->(Q .ret (L2 [(2,.c (.po (U:=U) .arena (some (Arena.mk ml7_0 0 0 0))))] []))))):
  A20 [1,1,0,1,0,0] (Z4z l x10 ml7_0) (xT N0 (xB 0 (S20 [1,1,1] Q))):=
 Eq.mpr (by kernel_rfl) h
def ZqW(l:List (List Int)):Prop:=AW (Z1 ZcJ) Try.f20 ZlQ [] (Zb (Zk5.can (l,())) []) (EQ Try.f20 (Zn6 (l,())) [])
theorem ZoD(c60:CT 60 Z07)(hb:∀ (l:List (List Int)) (_:Unit),ZdW (l,())->ZqW l):CT 20 Z7g:=
 Z0 (l:=[(60,Z07)]) Z9 rfl (⟨c60,trivial⟩) ZlQ Try.func20 rfl rfl 1 (fun _=> rfl) (by decide) (fun ⟨l,_⟩=> hb l ())
end
theorem Z2z{a:Option Arena}(h:a.isSome=true):(a.getD (Arena.mk [] 0 0 0)).segs=Z2 a:=by
 cases a with
 | none=> cases h
 | some x=> rfl
theorem Zg5:Contract Try.prog cfg 112 Z0w:=by
 refine Zlp ?_
 intro a _ hp
 refine Zri _ _ ?_
 (simp only [vcT,vcS])
 refine ⟨fun h=> Z7 rfl ?_,fun h=> ?_⟩
 ·show (0:Int)=((Z2 a).length:Int)
  cases a with
  | none=> rfl
  | some x=> cases h
 ·have hs:a.isSome=true:=by
   cases a with
   | none=> cases h
   | some x=> rfl
  refine ⟨hs,hs,Z7 rfl ?_⟩
  rw [Z2z hs]
theorem Z1R{a:Option Arena}{s:Int}(h0:0<=s)(h:s < ((Z2 a).length:Int)):a.isSome=true:=by
 cases a with
 | none=> simp [Z2] at h;omega
 | some x=> rfl
theorem Yn{l:List (List Int)}{s:Int}(h:0<=s):Yk l s=l.getD s.toNat []:=by unfold Yk;rw [if_neg (by omega)]
theorem Zfk{l:List (List Int)}{s:Int}(h:s < 0\/(l.length:Int)<=s):Yk l s=[]:=by
 unfold Yk
 split
 ·try rfl
 ·rw [Q7,Xj (by omega)];try rfl
theorem ZpD:Contract Try.prog cfg 111 Z3M:=by
 refine Zlq Zg5 ?_
 intro a s _ hp
 refine Zrj _ _ _ ?_
 (simp only [vcT,vcS])
 refine ⟨fun _=> hp,fun h=> Z7 rfl ?_,fun h=> ?_⟩
 ·show (0:Int)=((Yk (Z2 a) s).length:Int)
  rw [Zfk h];try rfl
 ·have hs:=Z1R (a:=a) (s:=s) (by omega) (by omega)
  rw [Z2z hs]
  refine ⟨hs,hs,by omega,Z7 rfl ?_⟩
  show _=((Yk (Z2 a) s).length:Int)
  rw [Yn (by omega)]
theorem c85:Contract Try.prog cfg 85 Z05:=by
 refine ZnO Zg5 ZpD ?_
 intro a s x n _ hp
 refine Zsl _ _ _ _ _ ?_
 have hl:=(ZU hp s).1
 (simp only [vcT,vcS])
 refine ⟨hp,fun _=> hp,fun h=> by dsimp only at hl;((unfold InR;omega)),Zj rfl ?_⟩
 rw [Qv]
 show _↔ZQ (Z2 a) s x n=true
 rw [Zm]
 (simp only [vcT,vcS])
 omega
theorem c62:Contract Try.prog cfg 62 Jk:=by
 refine Zo7 c85 ?_
 intro a s x _ hp
 refine ZsH _ _ _ _ ?_
 (simp only [vcT,vcS])
 refine ⟨hp,fun h=> ?_,fun h=> ?_⟩
 ·refine ZG (r':= .tup [(false,[.int .u64 0]),(false,[.bool false])]) ?_ (by (repeat' (first | exact trivial | exact rfl | apply And.intro)))
  simp only [Zdt,h];try rfl
 ·have hh:=Zm.1 h
  have hs:=Z1R (a:=a) (s:=s) hh.1 hh.2.1
  rw [Z2z hs,<-Yn hh.1]
  refine ⟨hs,hs,by omega,by omega,?_⟩
  refine ZG (r':= .tup [(false,[.int .u64 (ZA (Z2 a) s x)]),(false,[.bool true])]) ?_ (by (repeat' (first | exact trivial | exact rfl | apply And.intro)))
  simp only [Zdt,h];try rfl
theorem c60:Contract Try.prog cfg 60 Z07:=by
 refine Zo9 ?_
 intro l _ hp
 simp only [Z7K] at hp
 refine ZsJ _ _ ?_
 (simp only [vcT,vcS])
 refine ⟨fun h=> ?_,by simp;omega,?_⟩
 ·subst h;(repeat' (first | exact trivial | exact rfl | apply And.intro))
 ·rw [Xh];(repeat' (first | exact trivial | exact rfl | apply And.intro))
theorem ZpC:Contract Try.prog cfg 114 Z3L:=by
 refine Zln c85 c60 ?_
 intro a s x n _ hp
 refine Zrg _ _ _ _ _ ?_
 (simp only [vcT,vcS])
 refine ⟨hp,fun h=> ?_,fun h=> ?_⟩
 ·refine ZG (r':= .tup [(false,[.slice (U:=U) .u64 [] .unk]),(false,[.bool false])]) ?_ (by (repeat' (first | exact trivial | exact rfl | apply And.intro)))
  simp only [Z9Y,h];try rfl
 ·have hh:=Zm.1 h
  have hl:=(ZU hp s).1
  dsimp only at hl
  have hs:=Z1R (a:=a) (s:=s) hh.1 hh.2.1
  rw [Z2z hs,<-Yn hh.1]
  refine ⟨hs,hs,by omega,by ((unfold InR;omega)),by omega,?_,?_⟩
  ·show (List.drop _ (List.take _ _)).length<=_
   simp;omega
  ·refine ZG (r':= .tup [(false,[.slice (U:=U) .u64 (Z1y (Z2 a) s x n) .unk]),(false,[.bool true])]) ?_ ?_
   ·simp only [Z9Y,h];try rfl
   ·rw [show Z1y (Z2 a) s x n=List.drop x.toNat (List.take (x+n).toNat (Yk (Z2 a) s)) by
     unfold Z1y;rw [List.drop_take,show (x+n).toNat - x.toNat=n.toNat by omega]]
    (repeat' (first | exact trivial | exact rfl | apply And.intro))
theorem c20:Contract Try.prog cfg 20 Z7g:=by
 refine ZoD c60 ?_
 intro l _ hp
 simp only [ZdW] at hp
 have hl:=hp.1
 refine Ztd _ _ ?_
 refine Za (ι:=Int × List (List Int)) (fun p=> Z4z l p.1 p.2) (fun p=> 0<=p.1/\p.1<=l.length/\p.2.length=p.1/\p.2++l.drop p.1.toNat=l) (fun p=> (l.length - p.1).toNat) (0,[]) rfl ⟨by simp,by dsimp only;omega,by simp,by simp⟩ ?_
 rintro ⟨i,o⟩ ⟨h1,h2,h3,h4⟩
 dsimp only at h1 h2 h3 h4
 refine ZkV _ _ _ _ _ ?_
 (simp only [vcT,vcS])
 refine ⟨fun hi=> ?_,fun hi=> ?_⟩
 ·have hm:=hp.2 _ (YK (l:=l) (i:=i.toNat) (by omega) [])
  refine ⟨by omega,hm.1,by simp;omega,by ((unfold InR;omega)),(i+1,o++[l.getD i.toNat []]),rfl,⟨by dsimp only;omega,by dsimp only;omega,by simp;omega,?_⟩,by dsimp only;omega⟩
  dsimp only
  rw [Qb,Xv,<-ZrR h1 hi [],h4]
 ·rw [XH (by omega),Xa] at h4
  subst h4
  (repeat' (first | exact trivial | exact rfl | apply And.intro))
end Go.AM.Ythokdjgpdonhgaa
