import Derived.Test.YtpjenobkibfpcaaCmZ
import Derived.Test.YtpjenobkibfpcaaChecked
import Derived.Test.YtpjenobkibfpcaaRows
import Derived.Test.YtpjenobkibfpcaaCmX
import Derived.Test.YtpjenobkibfpcaaCmXE
import Derived.ProofKit
import Derived.Test.YtpjenobkibfpcaaKD07
set_option linter.unusedSimpArgs false
set_option linter.unusedVariables false
namespace Go.AM.Ytpjenobkibfpcaa
open Go.AM Go.Proofs
def el:Ty->TypeId
 | .u64=> 40
 | .u8=> 5
 | .int=> 3
 | .tree=> 25
 | .wedit=> 42
 | .edit=> 31
 | .kid=> 84
 | .op=> 82
 | .piece=> 150
 | .unit=> 164
 | .pair=> 166
 | .step=> 58
 | .deed=> 70
def tb:Tables U:=
 {el:=el
  sl:=[(22,.u64),(23,.tree),(26,.step),(27,.wedit),(28,.kid),(29,.op),(64,.edit),(94,.u8),(146,.piece),(153,.int),(158,.pair),(161,.unit)]
  var:=[(2,false,[.int .i64 0]),
   (3,false,[.int .i64 0]),
   (4,false,[.bool false]),
   (5,false,[.int .u8 0]),
   (6,false,[.int .u8 0]),
   (7,true,[.int .i64 0,.int .i64 0,.bool false,.int .u8 0]),
   (8,true,[.int .i64 0,.int .i64 0,.bool false,.int .u8 0]),
   (12,false,[.int .u64 0]),
   (15,false,[.nilp]),
   (16,false,[.nilp]),
   (17,false,[.nilp]),
   (18,true,[.nilp]),
   (19,true,[.nilp]),
   (21,false,[.int .i32 0]),
   (22,false,[.nils]),
   (23,false,[.nils]),
   (24,true,[.int .i64 0,.nils,.nils]),
   (25,true,[.int .i64 0,.nils,.nils]),
   (26,false,[.nils]),
   (27,false,[.nils]),
   (28,false,[.nils]),
   (29,false,[.nils]),
   (30,true,[.int .i64 0,.int .i64 0,.nils,.nils,.int .i64 0,.nils,.nils,.nils,.nils,.int .i64 0,.nils]),
   (31,true,[.int .i64 0,.int .i64 0,.nils,.nils,.int .i64 0,.nils,.nils,.nils,.nils,.int .i64 0,.nils]),
   (40,false,[.int .u64 0]),
   (41,true,[.int .i64 0,.int .u8 0,.int .u64 0,.int .u64 0]),
   (42,true,[.int .i64 0,.int .u8 0,.int .u64 0,.int .u64 0]),
   (57,true,[.int .i64 0,.int .i64 0]),
   (58,true,[.int .i64 0,.int .i64 0]),
   (60,false,[.int .i64 0]),
   (64,false,[.nils]),
   (66,false,[.nilp]),
   (69,true,[.int .i64 0,.int .i64 0,.int .i64 0,.int .i64 0,.nils,.nils,.int .i64 0,.nils,.nils,.nils,.nils,.int .i64 0,.nils]),
   (70,true,[.int .i64 0,.int .i64 0,.int .i64 0,.int .i64 0,.nils,.nils,.int .i64 0,.nils,.nils,.nils,.nils,.int .i64 0,.nils]),
   (81,true,[.int .i64 0,.int .i64 0,.nils,.int .i64 0,.int .i64 0,.nils,.nils,.int .i64 0,.nils,.nils,.nils,.nils,.int .i64 0,.nils]),
   (82,true,[.int .i64 0,.int .i64 0,.nils,.int .i64 0,.int .i64 0,.nils,.nils,.int .i64 0,.nils,.nils,.nils,.nils,.int .i64 0,.nils]),
   (83,true,[.int .i64 0,.int .i64 0,.int .i64 0,.nils,.nils,.int .i64 0,.nils,.nils,.nils,.nils,.int .i64 0,.nils]),
   (84,true,[.int .i64 0,.int .i64 0,.int .i64 0,.nils,.nils,.int .i64 0,.nils,.nils,.nils,.nils,.int .i64 0,.nils]),
   (90,true,[.int .u8 0,.int .u8 0,.int .u8 0,.int .u8 0,.int .u8 0,.int .u8 0,.int .u8 0,.int .u8 0]),
   (94,false,[.nils]),
   (101,false,[.nilp]),
   (102,true,[.bool false,.bool false]),
   (103,true,[.bool false,.bool false]),
   (108,true,[.int .i64 0,.nils,.nils,.nils,.nils]),
   (109,true,[.int .i64 0,.nils,.nils,.nils,.nils]),
   (135,false,[.nilp]),
   (136,true,[.nils,.nils,.nils]),
   (137,true,[.nils,.nils,.nils]),
   (140,false,[.nilp]),
   (146,false,[.nils]),
   (149,true,[.int .i64 0,.int .i64 0,.int .i64 0,.nils,.int .i64 0,.int .i64 0,.nils,.nils,.int .i64 0,.nils,.nils,.nils,.nils,.int .i64 0,.nils,.int .i64 0,.int .i64 0,.nils,.int .i64 0,.int .i64 0,.nils,.nils,.int .i64 0,.nils,.nils,.nils,.nils,.int .i64 0,.nils]),
   (150,true,[.int .i64 0,.int .i64 0,.int .i64 0,.nils,.int .i64 0,.int .i64 0,.nils,.nils,.int .i64 0,.nils,.nils,.nils,.nils,.int .i64 0,.nils,.int .i64 0,.int .i64 0,.nils,.int .i64 0,.int .i64 0,.nils,.nils,.int .i64 0,.nils,.nils,.nils,.nils,.int .i64 0,.nils]),
   (153,false,[.nils]),
   (158,false,[.nils]),
   (161,false,[.nils]),
   (163,true,[.int .i64 0,.int .i64 0,.int .i64 0,.nils,.nils,.int .i64 0,.int .i64 0,.nils,.nils,.int .i64 0,.nils,.nils,.nils,.nils,.int .i64 0,.nils,.bool false]),
   (164,true,[.int .i64 0,.int .i64 0,.int .i64 0,.nils,.nils,.int .i64 0,.int .i64 0,.nils,.nils,.int .i64 0,.nils,.nils,.nils,.nils,.int .i64 0,.nils,.bool false]),
   (165,true,[.int .i64 0,.int .i64 0,.int .i64 0,.int .i64 0,.nils,.nils,.int .i64 0,.int .i64 0,.nils,.nils,.int .i64 0,.nils,.nils,.nils,.nils,.int .i64 0,.nils,.bool false,.int .i64 0,.int .i64 0,.int .i64 0,.nils,.nils,.int .i64 0,.int .i64 0,.nils,.nils,.int .i64 0,.nils,.nils,.nils,.nils,.int .i64 0,.nils,.bool false]),
   (166,true,[.int .i64 0,.int .i64 0,.int .i64 0,.int .i64 0,.nils,.nils,.int .i64 0,.int .i64 0,.nils,.nils,.int .i64 0,.nils,.nils,.nils,.nils,.int .i64 0,.nils,.bool false,.int .i64 0,.int .i64 0,.int .i64 0,.nils,.nils,.int .i64 0,.int .i64 0,.nils,.nils,.int .i64 0,.nils,.nils,.nils,.nils,.int .i64 0,.nils,.bool false]),
   (176,false,[.nilp]),
   (177,true,[.nilp,.nils,.nils,.nils,.nils]),
   (178,true,[.nilp,.nils,.nils,.nils,.nils]),
   (186,false,[.nilp]),
   (187,true,[.nils,.int .i64 0]),
   (188,true,[.nils,.int .i64 0]),
   (206,true,[.int .i64 0,.int .i64 0,.int .i64 0,.int .i64 0,.int .i64 0,.int .i64 0]),
   (214,false,[.int .u32 0]),
   (215,false,[.int .u8 0]),
   (216,false,[.int .u8 0]),
   (218,false,[.nilp]),
   (219,false,[.int .i32 0]),
   (220,false,[.int .i32 0])]
  fld:=[(7,0,0,2),(7,1,1,3),(7,2,2,4),(7,3,3,6),(8,0,0,2),(8,1,1,3),(8,2,2,4),(8,3,3,6),(18,0,0,17),(19,0,0,17),(24,0,0,3),(24,1,1,22),(24,2,2,23),(25,0,0,3),(25,1,1,22),(25,2,2,23),(30,0,0,3),(30,1,1,25),(30,2,4,25),(30,3,7,27),(30,4,8,28),(30,5,9,3),(30,6,10,29),(31,0,0,3),(31,1,1,25),(31,2,4,25),(31,3,7,27),(31,4,8,28),(31,5,9,3),(31,6,10,29),(41,0,0,3),(41,1,1,5),(41,2,2,40),(41,3,3,40),(42,0,0,3),(42,1,1,5),(42,2,2,40),(42,3,3,40),(57,0,0,3),(57,1,1,3),(58,0,0,3),(58,1,1,3),(69,0,0,3),(69,1,1,3),(69,2,2,31),(70,0,0,3),(70,1,1,3),(70,2,2,31),(81,0,0,3),(81,1,1,3),(81,2,2,23),(81,3,3,31),(82,0,0,3),(82,1,1,3),(82,2,2,23),(82,3,3,31),(83,0,0,3),(83,1,1,31),(84,0,0,3),(84,1,1,31),(102,0,0,4),(102,1,1,4),(103,0,0,4),(103,1,1,4),(108,0,0,25),(108,1,3,64),(108,2,4,64),(109,0,0,25),(109,1,3,64),(109,2,4,64),(136,0,0,29),(136,1,1,23),(136,2,2,23),(137,0,0,29),(137,1,1,23),(137,2,2,23),(149,0,0,3),(149,1,1,82),(149,2,15,82),(150,0,0,3),(150,1,1,82),(150,2,15,82),(163,0,0,3),(163,1,1,3),(163,2,2,25),(163,3,5,31),(163,4,16,4),(164,0,0,3),(164,1,1,3),(164,2,2,25),(164,3,5,31),(164,4,16,4),(165,0,0,3),(165,1,1,164),(165,2,18,164),(166,0,0,3),(166,1,1,164),(166,2,18,164),(177,0,0,101),(177,1,1,29),(177,2,2,29),(177,3,3,23),(177,4,4,23),(178,0,0,101),(178,1,1,29),(178,2,2,29),(178,3,3,23),(178,4,4,23),(187,0,0,29),(187,1,1,3),(188,0,0,29),(188,1,1,3)]
  arr:=[(90,8,5),(206,6,3)]
  eqs:=[41,42,57,58] }
def cfg:Cfg U:=tb.cfg K
theorem Zyd:tb.var.all (Zrh Try.prog)=true:=by kernel_rfl
theorem ZzC:tb.sl.all (slB Try.prog tb.el)=true:=by kernel_rfl
theorem ZyB:tb.fld.all (ZvQ Try.prog)=true:=by kernel_rfl
theorem ZyF:tb.arr.all (Zwy Try.prog)=true:=by kernel_rfl
theorem ZzD:∀ t,elB Try.prog K tb t=true:=by
 intro t
 cases t
 ·kernel_rfl
 ·kernel_rfl
 ·kernel_rfl
 ·kernel_rfl
 ·kernel_rfl
 ·kernel_rfl
 ·kernel_rfl
 ·kernel_rfl
 ·kernel_rfl
 ·kernel_rfl
 ·kernel_rfl
 ·kernel_rfl
 ·kernel_rfl
theorem Zl:CfgOk Try.prog cfg:=ZlI ZzH Zyd ZzC ZyB ZyF ZzD (by kernel_rfl) (by kernel_rfl)
abbrev sU(T:Ty)(l:List (El T))(t:Tail):C U:= .slice (U:=U) T l t
noncomputable abbrev AW(K:Known U)(f:Func)(lv:Zf U)(p:List Nat):=awp cfg K (ZW cfg K) f.ntmps lv (cd f p)
noncomputable abbrev SW(K:Known U)(f:Func)(lv:Zf U)(p:List Nat):=Ze9 cfg K (ZW cfg K) f.ntmps lv (cd f p)
abbrev EQ(f:Func):=Yy cfg f.ntmps f.results.toList
abbrev QT:=AExit->LSt U->Prop
abbrev NT:=LSt U->Prop
abbrev CT(k:FuncId)(s:Fs U):Prop:=Contract Try.prog cfg k s
abbrev xB:=@AExit.inBlock U
abbrev xT:=@AExit.then U
abbrev ci(x:Int):C U:= .int .i64 x
abbrev L2(e:List (Nat × V U))(m:List (Name × List (C U))):LSt U:=⟨e,m,[]⟩
abbrev pL(n:Nat):Nat × V U:=(n,.ptr (.loc n) 0)
abbrev pB(n:Nat)(b:Bool):Nat × V U:=(n,.c (.bool b))
abbrev pI(n:Nat)(x:Int):Nat × V U:=(n,.c (.int .i64 x))
def lvl(l:List (List Nat × List Nat)):Zf U:=fun i=> ((l.getD i ([],[])).1.map fun k=> (k,[]),(l.getD i ([],[])).2.map fun k=> (.loc k,[]))
abbrev zc0:List (C U):=[.int .u8 0,.int .u8 0,.int .u8 0,.int .u8 0,.int .u8 0,.int .u8 0,.int .u8 0,.int .u8 0]
abbrev zc1:List (C U):=[.int .i64 0,.int .i64 0,.nils,.nils,.int .i64 0,.nils,.nils,.nils,.nils,.int .i64 0,.nils]
end Go.AM.Ytpjenobkibfpcaa
namespace Go.AM.Ytpjenobkibfpcaa
open Go.AM Go.Proofs Go.Proofs.Ytpjenobkibfpcaa Go.ChangeShapes Go.WideShapes Go.RowKit
theorem own:ownKnob Try.prog.godebug=none:=by kernel_rfl
theorem ZsF:laidOutB Try.prog=true:=by kernel_rfl
theorem ZlG:TreeTypes cfg:=⟨rfl,rfl,⟨_,rfl⟩,⟨_,rfl⟩,⟨_,rfl,rfl⟩,⟨_,_,rfl,rfl⟩,⟨_,_,rfl,rfl,rfl⟩,⟨_,_,rfl,rfl,rfl⟩⟩
theorem Zmy:EditTypes cfg:=⟨⟨_,rfl,rfl⟩,⟨_,_,rfl,rfl⟩,⟨_,_,rfl,rfl⟩,⟨_,_,rfl,rfl⟩,⟨_,_,rfl,rfl⟩,⟨_,rfl,rfl⟩,⟨_,_,rfl,rfl⟩,rfl,⟨_,rfl,rfl⟩,⟨_,_,rfl,rfl⟩,⟨_,_,rfl,rfl⟩,⟨_,_,rfl,rfl,rfl⟩,rfl,⟨_,rfl,rfl⟩,⟨_,_,rfl,rfl⟩,rfl,rfl,⟨_,_,rfl,rfl,rfl⟩,⟨_,_,rfl,rfl,rfl⟩,⟨_,_,rfl,rfl⟩,⟨_,_,rfl,rfl,rfl⟩⟩
theorem ZsW{H:Type}{henc:TypeId × Value->H}:Zxf henc Try.prog cfg (aEl .edit) 31 inE:=ZsV Zl rfl ⟨_,_,rfl⟩ (fun _ n cs h=> Zrq Zl ZlG Zmy n cs h)
end Go.AM.Ytpjenobkibfpcaa
namespace Go.AM.Ytpjenobkibfpcaa
open Go.AM Go.Proofs
noncomputable section
def ZiW:ArgL (Tree × Int × Int × Unit):=(.cons (aEl .tree) (.cons (Jd .i64) (.cons (Jd .i64) .nil)))
def Z94(a:Tree × Int × Int × Unit):Prop:=Z3S a.1/\0<=a.2.1/\a.2.1<=4611686018427387904/\-1<=a.2.2.1/\a.2.2.1<=4611686018427387904
def Zma(a:Tree × Int × Int × Unit):Nat:=Zm a.1
def Zgd(a:Tree × Int × Int × Unit):V U:= .c (ci (ZM a.1 a.2.1 a.2.2.1))
def ZaQ:Fs U:=fs ZiW (fun a=> [Z94 a]) Zgd
def Zq7:ArgL (List Int × List Int × Unit):=(.cons (aSl .u64) (.cons (aSl .u64) .nil))
def Zde(a:List Int × List Int × Unit):Prop:=a.1.length<=1000000000000
def Zgf(a:List Int × List Int × Unit):V U:= .c (.bool (decide (a.1=a.2.1)))
def ZaR:Fs U:=fs Zq7 (fun a=> [Zde a]) Zgf
def Zq5:ArgL (List Int × Unit):=(.cons (aSl .u64) .nil)
def Zgm(a:List Int × Unit):Prop:=a.1.length<=1000000000000
def ZnG(a:List Int × Unit):V U:= .c (sU .u64 (trim a.1) .unk)
def ZaO:Fs U:=fs Zq5 (fun a=> [Zgm a]) ZnG
def ZnX(a:List Int × Unit):V U:= .c (sU .u64 a.1 .unk)
def Z6n:Fs U:=fs Zq5 (fun a=> [Zgm a]) ZnX
def Zle:ArgL (Tree × Int × Unit):=(.cons (aEl .tree) (.cons (Jd .i64) .nil))
def Z8c(a:Tree × Int × Unit):Prop:=True
def Zer(a:Tree × Int × Unit):V U:= .c (.int .u64 (Jg a.1 a.2.1))
def Z12:Fs U:=fs Zle (fun a=> [Z8c a]) Zer
def Zjw(a:Tree × Int × Unit):V U:= .agg (enc .tree (Jt a.1 a.2.1))
def Z38:Fs U:=fs Zle (fun a=> [Z8c a]) Zjw
def ZiZ:ArgL (Tree × Unit):=(.cons (aEl .tree) .nil)
def Z1F(a:Tree × Unit):Prop:=Zm a.1<=1000000000000
def Zmd(a:Tree × Unit):Nat:=Zm a.1
def Zd8(a:Tree × Unit):V U:= .agg (enc .tree (Z4 a.1))
def Z3b:Fs U:=fs ZiZ (fun a=> [Z1F a]) Zd8
def Zj1:ArgL (Tree × Tree × Unit):=(.cons (aEl .tree) (.cons (aEl .tree) .nil))
def Z3D(a:Tree × Tree × Unit):Prop:=Zm a.1<=1000000000000
def Zme(a:Tree × Tree × Unit):Nat:=Zm a.1
def Zd9(a:Tree × Tree × Unit):V U:= .c (.bool (ZZ a.1 a.2.1))
def Z3O:Fs U:=fs Zj1 (fun a=> [Z3D a]) Zd9
def Z0S(a:Tree × Tree × Unit):Prop:=Zm a.1<=1000000000000/\Zm a.2.1<=1000000000000
def Zdo(a:Tree × Tree × Unit):Nat:=Zm a.1+Zm a.2.1
def Z5J(a:Tree × Tree × Unit):V U:= .c (.bool (ZZ (Z4 a.1) (Z4 a.2.1)))
def Je:Fs U:=fs Zj1 (fun a=> [Z0S a]) Z5J
def Ziw(N:Nat):List (FuncId × Fs U):=(78,fs ZiW (fun a=> [Z94 a,Zma a < N]) Zgd) ::[]
def Zso:Zf U:=lvl [([1,2,3],[3]),([1,2,3],[3]),([1,2,3,19],[3]),([6],[]),([1,2,3,7],[3]),([1,2,3,7,28],[3]),([1,2,3,7],[3]),([1,2,3,7],[3]),([6],[])]
def Z7c(t:Tree)(d l x2 x7:Int):LSt U:=(L2 [pI 1 d,pI 2 x2,pL 3,pI 7 x7] [(.loc 3,(enc .tree t))])
abbrev A78(N:Nat)(p:List Nat):=AW (Z1 (Ziw N)) Try.f78 Zso p
abbrev S78(N:Nat)(p:List Nat):=SW (Z1 (Ziw N)) Try.f78 Zso p
theorem Zz9(N:Nat)(t:Tree)(d l:Int)(Q:QT)(h:let z0:=bif (d==0) then true else (decide (((((l - 1):Int) - (t.words.length:Int)):Int) < 0));((InR (l - 1))/\(InR (((l - 1):Int) - (t.words.length:Int)))/\((Tr ((!(d==0))=true))/\((d==0)=false->(!(d==0))=true)/\((z0=true->(Q .ret (L2 [pI 6 (-1)] [])))/\(z0=false->(Zi (A78 N [1,1,1,0,1,0,0]) (Z7c t d l (((l - 1):Int) - (t.words.length:Int)) 0) (xB 0 (S78 N [1,1,1,1] Q)))))))):
  A78 N [] (L2 [(0,.agg (enc .tree t)),pI 1 d,pI 2 l] []) Q:=
 Eq.mpr (by kernel_rfl) h
theorem ZqN(N:Nat)(t:Tree)(d l x2 x7:Int)(N0:NT)(Q:QT)(h:let z2:=t.kids.getD x7.toNat Tree.nil;let z1:=decide (x7 < (t.kids.length:Int));let z3:=bif z1 then (decide ((0:Int)<=x2)) else false;let z0:=Tree.mk (Tree.kind z2) (Tree.words z2) (Tree.kids z2);(Tr (z1=true))/\(Tr (z1=true))/\((z3=true->((0:Int)<=x7/\x7 < (t.kids.length:Int))/\(InR (d - 1))/\(Z94 (z0,(d - 1),x2,()))/\(Zma (z0,(d - 1),x2,()) < N)/\((InR (x7+1))/\(N0 (Z7c t d l (ZM z0 (d - 1) x2) (x7+1)))))/\(z3=false->(Q .ret (L2 [pI 6 x2] []))))):
  A78 N [1,1,1,0,1,0,0] (Z7c t d l x2 x7) (xT N0 (xB 0 (S78 N [1,1,1,1] Q))):=
 Eq.mpr (by kernel_rfl) h
def ZwM(N:Nat)(t:Tree)(d l:Int):Prop:=AW (Z1 (Ziw N)) Try.f78 Zso [] (Zj (ZiW.can (t,d,l,())) []) (EQ Try.f78 (Zgd (t,d,l,())) [])
theorem Zvc(hb:∀ (N:Nat) (t:Tree) (d:Int) (l:Int) (_:Unit),Z94 (t,d,l,())->Zma (t,d,l,()) < N+1->ZwM N t d l):CT 78 ZaQ:=
 Yl (μ:=Zma) (l:=[]) Zl rfl trivial Zso Try.func78 rfl rfl 3 (fun _=> rfl) (by decide) (fun N ⟨t,d,l,_⟩=> hb N t d l ())
def Zix:List (FuncId × Fs U):=[]
def Zsp:Zf U:=lvl [([0,1],[]),([0,1,10],[]),([4],[]),([0,1,5],[]),([0,1,5,14],[]),([0,1,5],[]),([0,1,5,25],[]),([4],[]),([4],[])]
def Z7d(a b:List Int)(x5:Int):LSt U:=(L2 [(0,.c (sU .u64 a .unk)),(1,.c (sU .u64 b .unk)),pI 5 x5] [])
abbrev A75(p:List Nat):=AW (Z1 Zix) Try.f75 Zsp p
abbrev S75(p:List Nat):=SW (Z1 Zix) Try.f75 Zsp p
theorem Zzc(a b:List Int)(Q:QT)(h:let z0:=((a.length:Int):Int) !=(b.length:Int);((z0=true->(Q .ret (L2 [pB 4 false] [])))/\(z0=false->(Zi (A75 [1,1,0,1,0,0]) (Z7d a b 0) (xB 0 (S75 [1,1,1] Q)))))):
  A75 [] (L2 [(0,.c (sU .u64 a .unk)),(1,.c (sU .u64 b .unk))] []) Q:=
 Eq.mpr (by kernel_rfl) h
theorem ZqQ(a b:List Int)(x5:Int)(N0:NT)(Q:QT)(h:let z1:=decide (x5 < (a.length:Int));let z0:=((a.getD x5.toNat (0:Int)):Int) !=(b.getD x5.toNat (0:Int));((z1=true->((0:Int)<=x5/\x5 < (a.length:Int))/\((0:Int)<=x5/\x5 < (b.length:Int))/\((z0=true->(Q .ret (L2 [pB 4 false] [])))/\(z0=false->(InR (x5+1))/\(N0 (Z7d a b (x5+1))))))/\(z1=false->(Q .ret (L2 [pB 4 true] []))))):
  A75 [1,1,0,1,0,0] (Z7d a b x5) (xT N0 (xB 0 (S75 [1,1,1] Q))):=
 Eq.mpr (by kernel_rfl) h
def ZwP(a b:List Int):Prop:=AW (Z1 Zix) Try.f75 Zsp [] (Zj (Zq7.can (a,b,())) []) (EQ Try.f75 (Zgf (a,b,())) [])
theorem Zvd(hb:∀ (a:List Int) (b:List Int) (_:Unit),Zde (a,b,())->ZwP a b):CT 75 ZaR:=
 Z3 (l:=[]) Zl rfl trivial Zsp Try.func75 rfl rfl 2 (fun _=> rfl) (by decide) (fun ⟨a,b,_⟩=> hb a b ())
def Zsm:Zf U:=lvl [([0],[]),([0,3],[]),([0,3,16],[]),([0,3],[]),([0,3,4],[]),([2],[])]
def Z7a(l:List Int)(x3:Int):LSt U:=(L2 [(0,.c (sU .u64 l .unk)),pI 3 x3] [])
abbrev A84(p:List Nat):=AW (Z1 Zix) Try.f84 Zsm p
abbrev S84(p:List Nat):=SW (Z1 Zix) Try.f84 Zsm p
theorem Zz7(l:List Int)(Q:QT)(h:(Zi (A84 [1,1,0,0,0]) (Z7a l (l.length:Int)) (xB 0 (S84 [1,1,1] Q)))):
  A84 [] (L2 [(0,.c (sU .u64 l .unk))] []) Q:=
 Eq.mpr (by kernel_rfl) h
theorem ZqL(l:List Int)(x3:Int)(N0:NT)(Q:QT)(h:let z0:=decide ((0:Int) < x3);let z1:=bif z0 then (((List.getD l (Int.toNat (x3 - 1)) (0:Int)):Int)==0) else false;(Tr (z0=true))/\(z0=true->InR (x3 - 1))/\(Tr (z0=true))/\(Tr (z0=true))/\(z0=true->(0:Int)<=(x3 - 1)/\(x3 - 1) < (l.length:Int))/\(Tr (z0=true))/\(Tr (z0=true))/\(Tr (z0=true))/\((z1=true->(InR (x3 - 1))/\(N0 (Z7a l (x3 - 1))))/\(z1=false->(((0:Int)<=x3/\x3<=(l.length:Int))/\((([]:List Int).length+(List.take x3.toNat l).length)*8<=140737488355328)/\(Q .ret (L2 [(2,.c (sU .u64 (([]:List Int)++(List.take x3.toNat l)) (.own (.e 2 0))))] [])))))):
  A84 [1,1,0,0,0] (Z7a l x3) (xT N0 (xB 0 (S84 [1,1,1] Q))):=
 Eq.mpr (by kernel_rfl) h
def ZwK(l:List Int):Prop:=AW (Z1 Zix) Try.f84 Zsm [] (Zj (Zq5.can (l,())) []) (EQ Try.f84 (ZnG (l,())) [])
theorem Zva(hb:∀ (l:List Int) (_:Unit),Zgm (l,())->ZwK l):CT 84 ZaO:=
 Z3 (l:=[]) Zl rfl trivial Zsm Try.func84 rfl rfl 1 (fun _=> rfl) (by decide) (fun ⟨l,_⟩=> hb l ())
def Zpb:Zf U:=lvl [([0],[]),([0,4],[]),([2],[]),([2],[])]
abbrev ZA8(p:List Nat):=AW (Z1 Zix) Try.f109 Zpb p
theorem Zy6(l:List Int)(Q:QT)(h:(((l=[])->(Q .ret (L2 [(2,.c (.nils))] [])))/\(True->((([]:List Int).length+l.length)*8<=140737488355328)/\(Q .ret (L2 [(2,.c (sU .u64 (([]:List Int)++l) (.own (.e 2 0))))] []))))):
  ZA8 [] (L2 [(0,.c (sU .u64 l .unk))] []) Q:=
 Eq.mpr (by kernel_rfl) h
def ZtG(l:List Int):Prop:=AW (Z1 Zix) Try.f109 Zpb [] (Zj (Zq5.can (l,())) []) (EQ Try.f109 (ZnX (l,())) [])
theorem Zsg(hb:∀ (l:List Int) (_:Unit),Zgm (l,())->ZtG l):CT 109 Z6n:=
 Z3 (l:=[]) Zl rfl trivial Zpb Try.func109 rfl rfl 1 (fun _=> rfl) (by decide) (fun ⟨l,_⟩=> hb l ())
def Zk7:Zf U:=lvl [([0,1],[]),([0,1,10],[]),([4],[]),([0,1,12,13],[]),([0,1,12,13,14],[]),([0,1,5,12,13],[]),([0,1,12,13,24],[]),([4],[]),([0,1,12,13],[]),([4],[])]
def Z4Y(a b:List Int)(x13:Int):LSt U:=(L2 [(0,.c (sU .u64 a .unk)),(1,.c (sU .u64 b .unk)),pI 12 (a.length:Int),pI 13 x13] [])
abbrev Zxl(p:List Nat):=AW (Z1 Zix) Try.f148 Zk7 p
abbrev ZyS(p:List Nat):=SW (Z1 Zix) Try.f148 Zk7 p
theorem ZxW(a b:List Int)(Q:QT)(h:let z0:=((a.length:Int):Int) !=(b.length:Int);((z0=true->(Q .ret (L2 [pB 4 false] [])))/\(z0=false->(Zi (Zxl [1,1,0,1,0,0]) (Z4Y a b 0) (xB 0 (ZyS [1,1,1] Q)))))):
  Zxl [] (L2 [(0,.c (sU .u64 a .unk)),(1,.c (sU .u64 b .unk))] []) Q:=
 Eq.mpr (by kernel_rfl) h
theorem Zna(a b:List Int)(x13:Int)(N0:NT)(Q:QT)(h:let z1:=decide (x13 < (a.length:Int));let z0:=((a.getD x13.toNat (0:Int)):Int) !=(b.getD x13.toNat (0:Int));((z1=true->(((0:Int)<=x13/\x13 < (a.length:Int))/\((0:Int)<=x13/\x13 < (b.length:Int))/\((z0=true->(Q .ret (L2 [pB 4 false] [])))/\(z0=false->(InR (x13+1))/\(N0 (Z4Y a b (x13+1)))))))/\(z1=false->(Q .ret (L2 [pB 4 true] []))))):
  Zxl [1,1,0,1,0,0] (Z4Y a b x13) (xT N0 (xB 0 (ZyS [1,1,1] Q))):=
 Eq.mpr (by kernel_rfl) h
def Ztw(a b:List Int):Prop:=AW (Z1 Zix) Try.f148 Zk7 [] (Zj (Zq7.can (a,b,())) []) (EQ Try.f148 (Zgf (a,b,())) [])
theorem Zs8(hb:∀ (a:List Int) (b:List Int) (_:Unit),Zde (a,b,())->Ztw a b):CT 148 ZaR:=
 Z3 (l:=[]) Zl rfl trivial Zk7 Try.func148 rfl rfl 2 (fun _=> rfl) (by decide) (fun ⟨a,b,_⟩=> hb a b ())
def Zp5:Zf U:=lvl [([1,2],[2]),([1,2,13],[2]),([4],[]),([4],[])]
abbrev ZA4(p:List Nat):=AW (Z1 Zix) Try.f149 Zp5 p
theorem ZxV(t:Tree)(i:Int)(Q:QT)(h:let z1:= !(decide (i < 0));let z0:=bif (decide (i < 0)) then true else (decide (((t.words.length:Int):Int)<=i));((Tr (z1=true))/\(Tr (z1=true))/\(Tr (z1=true))/\(Tr (z1=true))/\((decide (i < 0))=false->z1=true)/\((z0=true->(Q .ret (L2 [(4,.c (.int .u64 0))] [])))/\(z0=false->((0:Int)<=i/\i < (t.words.length:Int))/\(Q .ret (L2 [(4,.c (.int .u64 (t.words.getD i.toNat (0:Int))))] [])))))):
  ZA4 [] (L2 [(0,.agg (enc .tree t)),pI 1 i] []) Q:=
 Eq.mpr (by kernel_rfl) h
def Ztv(t:Tree)(i:Int):Prop:=AW (Z1 Zix) Try.f149 Zp5 [] (Zj (Zle.can (t,i,())) []) (EQ Try.f149 (Zer (t,i,())) [])
theorem Zs7(hb:∀ (t:Tree) (i:Int) (_:Unit),Z8c (t,i,())->Ztv t i):CT 149 Z12:=
 Z3 (l:=[]) Zl rfl trivial Zp5 Try.func149 rfl rfl 2 (fun _=> rfl) (by decide) (fun ⟨t,i,_⟩=> hb t i ())
def Zvy:Zf U:=lvl [([1,2,4],[2,4]),([1,2,4,13],[2,4]),([4],[4]),([4],[4])]
abbrev A91(p:List Nat):=AW (Z1 Zix) Try.f91 Zvy p
theorem Zz5(t:Tree)(i:Int)(Q:QT)(h:let z1:= !(decide (i < 0));let z0:=bif (decide (i < 0)) then true else (decide (((t.kids.length:Int):Int)<=i));((Tr (z1=true))/\(Tr (z1=true))/\(Tr (z1=true))/\(Tr (z1=true))/\((decide (i < 0))=false->z1=true)/\((z0=true->(Q .ret (L2 [pL 4] [(.loc 4,[ci 0,.nils,.nils])])))/\(z0=false->((0:Int)<=i/\i < (t.kids.length:Int))/\(Q .ret (L2 [pL 4] [(.loc 4,(enc .tree (t.kids.getD i.toNat Tree.nil)))])))))):
  A91 [] (L2 [(0,.agg (enc .tree t)),pI 1 i] []) Q:=
 Eq.mpr (by kernel_rfl) h
def ZwI(t:Tree)(i:Int):Prop:=AW (Z1 Zix) Try.f91 Zvy [] (Zj (Zle.can (t,i,())) []) (EQ Try.f91 (Zjw (t,i,())) [])
theorem Zv8(hb:∀ (t:Tree) (i:Int) (_:Unit),Z8c (t,i,())->ZwI t i):CT 91 Z38:=
 Z3 (l:=[]) Zl rfl trivial Zvy Try.func91 rfl rfl 2 (fun _=> rfl) (by decide) (fun ⟨t,i,_⟩=> hb t i ())
def ZiG(N:Nat):List (FuncId × Fs U):=(45,fs ZiZ (fun a=> [Z1F a,Zmd a < N]) Zd8) ::[(84,ZaO)]
def Zsy:Zf U:=fun i=> match i with
 | 0=> ([(1,[]),(2,[])],[(.loc 1,[]),(.loc 2,[])])
 | 1=> ([(1,[]),(2,[]),(10,[])],[(.loc 1,[]),(.loc 2,[])])
 | 2=> ([(2,[])],[(.loc 2,[])])
 | 3=> ([(1,[]),(2,[]),(3,[])],[(.loc 1,[]),(.loc 2,[])])
 | 4=> ([(1,[]),(2,[]),(3,[]),(4,[])],[(.loc 1,[]),(.loc 2,[])])
 | 5=> ([(1,[]),(2,[]),(3,[.own .tree]),(4,[]),(5,[])],[(.loc 1,[]),(.loc 2,[])])
 | 6=> ([(1,[]),(2,[]),(3,[]),(4,[]),(5,[]),(16,[])],[(.loc 1,[]),(.loc 2,[])])
 | 7=> ([(1,[]),(2,[]),(3,[.own .tree]),(4,[]),(5,[])],[(.loc 1,[]),(.loc 2,[])])
 | 8=> ([(1,[]),(2,[]),(3,[]),(4,[]),(5,[]),(6,[])],[(.loc 1,[]),(.loc 2,[]),(.loc 6,[])])
 | 9=> ([(1,[]),(2,[]),(3,[]),(4,[]),(5,[]),(6,[])],[(.loc 1,[]),(.loc 2,[]),(.loc 6,[])])
 | 10=> ([(1,[]),(2,[]),(3,[]),(4,[]),(5,[]),(31,[])],[(.loc 1,[]),(.loc 2,[])])
 | 11=> ([(1,[]),(2,[]),(3,[]),(4,[]),(5,[])],[(.loc 1,[]),(.loc 2,[])])
 | 12=> ([(1,[]),(2,[]),(3,[]),(4,[]),(36,[])],[(.loc 1,[]),(.loc 2,[])])
 | 13=> ([(2,[])],[(.loc 2,[])])
 | 14=> ([(1,[]),(2,[]),(3,[]),(7,[])],[(.loc 1,[]),(.loc 2,[])])
 | 15=> ([(1,[]),(2,[]),(3,[]),(7,[])],[(.loc 1,[]),(.loc 2,[])])
 | 16=> ([(2,[])],[(.loc 2,[])])
 | _=> ([],[])
def Z4m(t:Tree)(x4 x5:Int)(x3:List Tree):LSt U:=(L2 [pL 1,pL 2,(3,.c (sU .tree x3 (.own (.e 3 0)))),pI 4 x4,pI 5 x5] [(.loc 1,(enc .tree t)),(.loc 2,[ci 0,.nils,.nils])])
abbrev A45(N:Nat)(p:List Nat):=AW (Z1 (ZiG N)) Try.f45 Zsy p
abbrev S45(N:Nat)(p:List Nat):=SW (Z1 (ZiG N)) Try.f45 Zsy p
theorem Zzr(N:Nat)(t:Tree)(Q:QT)(h:(((t.kind==0)=true->(Q .ret (L2 [pL 2] [(.loc 2,[ci 0,.nils,.nils])])))/\((t.kind==0)=false->(Zi (A45 N [1,1,1,1,0,1,0,0]) (Z4m t 0 0 []) (xB 0 (S45 N [1,1,1,1,1] Q)))))):
  A45 N [] (L2 [(0,.agg (enc .tree t))] []) Q:=
 Eq.mpr (by kernel_rfl) h
theorem Zr7(N:Nat)(t:Tree)(x4 x5:Int)(x3:List Tree)(N0:NT)(Q:QT)(h:∀ y_1,y_1=(t.kids.getD x5.toNat Tree.nil)->∀ y_2,y_2=y_1->∀ y_3,y_3=(Z4 y_2)->let z1:=decide (x5 < (t.kids.length:Int));let z0:=((Tree.kind (Z4 y_2)):Int) !=0;((z1=true->((0:Int)<=x5/\x5 < (t.kids.length:Int))/\(Z1F (y_2,()))/\(Zmd (y_2,()) < N)/\(((x3.length+([y_3]).length)*56<=140737488355328)/\((z0=true->(InR (x5+1))/\((InR (x5+1))/\(N0 (Z4m t (x5+1) (x5+1) (x3++([y_3]))))))/\(z0=false->(InR (x5+1))/\(N0 (Z4m t x4 (x5+1) (x3++([y_3]))))))))/\(z1=false->(((t.kind==1)=true->(Zgm (t.words,()))/\((0:Int)<=x4/\x4<=(x3.length:Int))/\(Q .ret (L2 [pL 2] [(.loc 2,[ci 1,sU .u64 (trim t.words) .unk,sU .tree (List.take x4.toNat x3) .unk])])))/\((t.kind==1)=false->(((([]:List Int).length+t.words.length)*8<=140737488355328)/\(Q .ret (L2 [pL 2] [(.loc 2,[ci t.kind,sU .u64 (([]:List Int)++t.words) (.own (.l 2 1)),sU .tree x3 (.own (.l 2 2))])])))))))):
  A45 N [1,1,1,1,0,1,0,0] (Z4m t x4 x5 x3) (xT N0 (xB 0 (S45 N [1,1,1,1,1] Q))):=
 Eq.mpr (by kernel_rfl) (h _ rfl _ (Zc _) _ (Zc _))
def Zx4(N:Nat)(t:Tree):Prop:=AW (Z1 (ZiG N)) Try.f45 Zsy [] (Zj (ZiZ.can (t,())) []) (EQ Try.f45 (Zd8 (t,())) [])
theorem Zvp(c84:CT 84 ZaO)(hb:∀ (N:Nat) (t:Tree) (_:Unit),Z1F (t,())->Zmd (t,()) < N+1->Zx4 N t):CT 45 Z3b:=
 Yl (μ:=Zmd) (l:=[(84,ZaO)]) Zl rfl (⟨c84,trivial⟩) Zsy Try.func45 rfl rfl 1 (fun _=> rfl) (by decide) (fun N ⟨t,_⟩=> hb N t ())
def Ziy(N:Nat):List (FuncId × Fs U):=(71,fs ZiZ (fun a=> [Z1F a,Zmd a < N]) Zd8) ::[(109,Z6n)]
def Zsq:Zf U:=fun i=> match i with
 | 0=> ([(1,[]),(2,[])],[(.loc 1,[]),(.loc 2,[])])
 | 1=> ([(1,[]),(2,[]),(8,[])],[(.loc 1,[]),(.loc 2,[])])
 | 2=> ([(2,[])],[(.loc 2,[])])
 | 3=> ([(1,[]),(2,[]),(3,[])],[(.loc 1,[]),(.loc 2,[]),(.loc 3,[])])
 | 4=> ([(1,[]),(2,[]),(3,[]),(17,[]),(18,[]),(19,[])],[(.loc 1,[]),(.loc 2,[]),(.loc 3,[.any,.any,.own .tree])])
 | 5=> ([(1,[]),(2,[]),(3,[]),(17,[]),(18,[]),(19,[]),(20,[])],[(.loc 1,[]),(.loc 2,[]),(.loc 3,[])])
 | 6=> ([(1,[]),(2,[]),(3,[]),(5,[]),(17,[]),(18,[]),(19,[])],[(.loc 1,[]),(.loc 2,[]),(.loc 3,[]),(.loc 5,[])])
 | 7=> ([(1,[]),(2,[]),(3,[]),(17,[]),(18,[]),(19,[])],[(.loc 1,[]),(.loc 2,[]),(.loc 3,[])])
 | 8=> ([(1,[]),(2,[]),(3,[]),(17,[]),(18,[]),(19,[])],[(.loc 1,[]),(.loc 2,[]),(.loc 3,[.any,.any,.own .tree])])
 | 9=> ([(2,[]),(3,[]),(33,[])],[(.loc 2,[]),(.loc 3,[.any,.any,.unk .tree])])
 | 10=> ([(2,[]),(3,[]),(33,[]),(48,[])],[(.loc 2,[]),(.loc 3,[.any,.any,.unk .tree])])
 | 11=> ([(2,[]),(3,[]),(33,[])],[(.loc 2,[]),(.loc 3,[.any,.any,.unk .tree])])
 | 12=> ([(2,[]),(3,[]),(33,[]),(48,[]),(72,[])],[(.loc 2,[]),(.loc 3,[])])
 | 13=> ([(2,[]),(3,[]),(33,[]),(48,[])],[(.loc 2,[]),(.loc 3,[.any,.any,.unk .tree])])
 | 14=> ([(2,[])],[(.loc 2,[])])
 | _=> ([],[])
def Z7g(t:Tree)(x19:Int)(ml3_2:List Tree):LSt U:=(L2 [pL 1,pL 2,pL 3,(17,.c (sU .tree t.kids .unk)),pI 18 (t.kids.length:Int),pI 19 x19] [(.loc 1,(enc .tree t)),(.loc 2,[ci 0,.nils,.nils]),(.loc 3,[ci t.kind,sU .u64 t.words .unk,sU .tree ml3_2 (.own (.l 3 2))])])
def Z7f(t:Tree)(ml3_2:List Tree)(ml3_1_a:List Int):LSt U:=(L2 [pL 2,pL 3,pB 33 ((t.kind:Int)==1)] [(.loc 2,[ci 0,.nils,.nils]),(.loc 3,[ci t.kind,sU .u64 ml3_1_a .unk,sU .tree ml3_2 .unk])])
def Z7e(t:Tree)(ml3_1_a:List Int)(ml3_2_b:List Tree):LSt U:=(L2 [pL 2,pL 3,pB 33 ((t.kind:Int)==1),(48,.c (.bool (bif (decide ((0:Int) < (ml3_1_a.length:Int))) then (((List.getD ml3_1_a (Int.toNat (((ml3_1_a.length:Int):Int) - 1)) (0:Int)):Int)==0) else false)))] [(.loc 2,[ci 0,.nils,.nils]),(.loc 3,[ci t.kind,sU .u64 ml3_1_a .unk,sU .tree ml3_2_b .unk])])
abbrev A71(N:Nat)(p:List Nat):=AW (Z1 (Ziy N)) Try.f71 Zsq p
abbrev S71(N:Nat)(p:List Nat):=SW (Z1 (Ziy N)) Try.f71 Zsq p
theorem Zzd(N:Nat)(t:Tree)(Q:QT)(h:(((t.kind==0)=true->(Q .ret (L2 [pL 2] [(.loc 2,[ci 0,.nils,.nils])])))/\((t.kind==0)=false->(Zgm (t.words,()))/\(Zi (A71 N [1,1,1,0,1,0,0]) (Z7g t 0 []) (xB 0 (S71 N [1,1,1,1] Q)))))):
  A71 N [] (L2 [(0,.agg (enc .tree t))] []) Q:=
 Eq.mpr (by kernel_rfl) h
theorem ZqT(N:Nat)(t:Tree)(x19:Int)(ml3_2:List Tree)(N0:NT)(Q:QT)(h:∀ y_1,y_1=(t.kids.getD x19.toNat Tree.nil)->∀ y_2,y_2=y_1->∀ y_3,y_3=(Z4 y_2)->let z0:=decide (x19 < (t.kids.length:Int));((z0=true->((0:Int)<=x19/\x19 < (t.kids.length:Int))/\((Z1F (y_2,()))/\(Zmd (y_2,()) < N)/\((ml3_2.length+([y_3]).length)*56<=140737488355328)/\((InR (x19+1))/\(N0 (Z7g t (x19+1) (ml3_2++([y_3])))))))/\(z0=false->(((t.kind==1)=true->Zi (A71 N [1,1,1,1,0,1,0,0,0,0]) (Z7f t ml3_2 t.words) (xB 2 (S71 N [1,1,1,1,0,1,0,1] (S71 N [1,1,1,1,1] Q))))/\((t.kind==1)=false->(Q .ret (L2 [pL 2] [(.loc 2,[ci t.kind,sU .u64 t.words .unk,sU .tree ml3_2 .unk])]))))))):
  A71 N [1,1,1,0,1,0,0] (Z7g t x19 ml3_2) (xT N0 (xB 0 (S71 N [1,1,1,1] Q))):=
 Eq.mpr (by kernel_rfl) (h _ rfl _ (Zc _) _ (Zc _))
theorem ZqS(N:Nat)(t:Tree)(ml3_2:List Tree)(ml3_1_a:List Int)(N1:NT)(Q:QT)(h:let z0:=decide ((0:Int) < (ml3_1_a.length:Int));let z1:=bif z0 then (((List.getD ml3_1_a (Int.toNat (((ml3_1_a.length:Int):Int) - 1)) (0:Int)):Int)==0) else false;(Tr (z0=true))/\(Tr (z0=true))/\(Tr (z0=true))/\(Tr (z0=true))/\(z0=true->InR (((ml3_1_a.length:Int):Int) - 1))/\(Tr (z0=true))/\(Tr (z0=true))/\(z0=true->(0:Int)<=(((ml3_1_a.length:Int):Int) - 1)/\(((ml3_1_a.length:Int):Int) - 1) < (ml3_1_a.length:Int))/\(Tr (z0=true))/\(Tr (z0=true))/\(Tr (z0=true))/\((z1=true->(InR (((ml3_1_a.length:Int):Int) - 1))/\((0:Int)<=(((ml3_1_a.length:Int):Int) - 1)/\(((ml3_1_a.length:Int):Int) - 1)<=(ml3_1_a.length:Int))/\(N1 (Z7f t ml3_2 (List.take (Int.toNat (((ml3_1_a.length:Int):Int) - 1)) ml3_1_a))))/\(z1=false->Zi (A71 N [1,1,1,1,0,1,0,1,0,0]) (Z7e t ml3_1_a ml3_2) (xB 4 (S71 N [1,1,1,1,1] Q))))):
  A71 N [1,1,1,1,0,1,0,0,0,0] (Z7f t ml3_2 ml3_1_a) (xT N1 (xB 2 (S71 N [1,1,1,1,0,1,0,1] (S71 N [1,1,1,1,1] Q)))):=
 Eq.mpr (by kernel_rfl) h
theorem ZqR(N:Nat)(t:Tree)(ml3_1_a:List Int)(ml3_2_b:List Tree)(N2:NT)(Q:QT)(h:let z0:=decide ((0:Int) < (ml3_2_b.length:Int));let z1:=bif z0 then (((Tree.kind (List.getD ml3_2_b (Int.toNat (((ml3_2_b.length:Int):Int) - 1)) Tree.nil)):Int)==0) else false;(Tr (z0=true))/\(Tr (z0=true))/\(Tr (z0=true))/\(Tr (z0=true))/\(z0=true->InR (((ml3_2_b.length:Int):Int) - 1))/\(Tr (z0=true))/\(Tr (z0=true))/\(z0=true->(0:Int)<=(((ml3_2_b.length:Int):Int) - 1)/\(((ml3_2_b.length:Int):Int) - 1) < (ml3_2_b.length:Int))/\(Tr (z0=true))/\(Tr (z0=true))/\(Tr (z0=true))/\(Tr (z0=true))/\((z1=true->(InR (((ml3_2_b.length:Int):Int) - 1))/\((0:Int)<=(((ml3_2_b.length:Int):Int) - 1)/\(((ml3_2_b.length:Int):Int) - 1)<=(ml3_2_b.length:Int))/\(N2 (Z7e t ml3_1_a (List.take (Int.toNat (((ml3_2_b.length:Int):Int) - 1)) ml3_2_b))))/\(z1=false->(Q .ret (L2 [pL 2] [(.loc 2,[ci t.kind,sU .u64 ml3_1_a .unk,sU .tree ml3_2_b .unk])]))))):
  A71 N [1,1,1,1,0,1,0,1,0,0] (Z7e t ml3_1_a ml3_2_b) (xT N2 (xB 4 (S71 N [1,1,1,1,1] Q))):=
 Eq.mpr (by kernel_rfl) h
def ZwQ(N:Nat)(t:Tree):Prop:=AW (Z1 (Ziy N)) Try.f71 Zsq [] (Zj (ZiZ.can (t,())) []) (EQ Try.f71 (Zd8 (t,())) [])
theorem Zve(Zwo:CT 109 Z6n)(hb:∀ (N:Nat) (t:Tree) (_:Unit),Z1F (t,())->Zmd (t,()) < N+1->ZwQ N t):CT 71 Z3b:=
 Yl (μ:=Zmd) (l:=[(109,Z6n)]) Zl rfl (⟨Zwo,trivial⟩) Zsq Try.func71 rfl rfl 1 (fun _=> rfl) (by decide) (fun N ⟨t,_⟩=> hb N t ())
def ZiI(N:Nat):List (FuncId × Fs U):=(29,fs Zj1 (fun a=> [Z3D a,Zme a < N]) Zd9) ::[(75,ZaR)]
def ZsA:Zf U:=lvl [([2,3],[2,3]),([2,3,27],[2,3]),([4],[]),([2,3,5],[2,3]),([2,3,5,32],[2,3]),([2,3,5],[2,3]),([2,3,5,46],[2,3]),([4],[]),([4],[])]
def Z7s(a b:Tree)(x5:Int):LSt U:=(L2 [pL 2,pL 3,pI 5 x5] [(.loc 2,(enc .tree a)),(.loc 3,(enc .tree b))])
abbrev A29(N:Nat)(p:List Nat):=AW (Z1 (ZiI N)) Try.f29 ZsA p
abbrev S29(N:Nat)(p:List Nat):=SW (Z1 (ZiI N)) Try.f29 ZsA p
theorem Zzw(N:Nat)(a b:Tree)(Q:QT)(h:let z1:=a.kind !=b.kind;let z0:=bif z1 then true else (!(decide (a.words=b.words)));let z2:=bif z0 then true else (((a.kids.length:Int):Int) !=(b.kids.length:Int));((Tr ((!z1)=true))/\(Tr ((!z1)=true))/\(Tr ((!z1)=true))/\(Tr ((!z1)=true))/\((!z1)=true->Zde (a.words,b.words,()))/\(Tr ((!z1)=true))/\(z1=false->(!z1)=true)/\(Tr ((!z0)=true))/\(Tr ((!z0)=true))/\(Tr ((!z0)=true))/\(Tr ((!z0)=true))/\(Tr ((!z0)=true))/\(Tr ((!z0)=true))/\(z0=false->(!z0)=true)/\((z2=true->(Q .ret (L2 [pB 4 false] [])))/\(z2=false->(Zi (A29 N [1,1,0,1,0,0]) (Z7s a b 0) (xB 0 (S29 N [1,1,1] Q))))))):
  A29 N [] (L2 [(0,.agg (enc .tree a)),(1,.agg (enc .tree b))] []) Q:=
 Eq.mpr (by kernel_rfl) h
theorem Zra(N:Nat)(a b:Tree)(x5:Int)(N0:NT)(Q:QT)(h:∀ y_1,y_1=(a.kids.getD x5.toNat Tree.nil)->∀ y_2,y_2=(b.kids.getD x5.toNat Tree.nil)->∀ y_3,y_3=y_1->∀ y_4,y_4=y_2->let z0:=decide (x5 < (a.kids.length:Int));((z0=true->((0:Int)<=x5/\x5 < (a.kids.length:Int))/\((0:Int)<=x5/\x5 < (b.kids.length:Int))/\(Z3D (y_3,y_4,()))/\(Zme (y_3,y_4,()) < N)/\(((!(ZZ y_3 y_4))=true->(Q .ret (L2 [pB 4 false] [])))/\((!(ZZ y_3 y_4))=false->(InR (x5+1))/\(N0 (Z7s a b (x5+1))))))/\(z0=false->(Q .ret (L2 [pB 4 true] []))))):
  A29 N [1,1,0,1,0,0] (Z7s a b x5) (xT N0 (xB 0 (S29 N [1,1,1] Q))):=
 Eq.mpr (by kernel_rfl) (h _ rfl _ rfl _ (Zc _) _ (Zc _))
def Zx9(N:Nat)(a b:Tree):Prop:=AW (Z1 (ZiI N)) Try.f29 ZsA [] (Zj (Zj1.can (a,b,())) []) (EQ Try.f29 (Zd9 (a,b,())) [])
theorem Zvt(c75:CT 75 ZaR)(hb:∀ (N:Nat) (a:Tree) (b:Tree) (_:Unit),Z3D (a,b,())->Zme (a,b,()) < N+1->Zx9 N a b):CT 29 Z3O:=
 Yl (μ:=Zme) (l:=[(75,ZaR)]) Zl rfl (⟨c75,trivial⟩) ZsA Try.func29 rfl rfl 2 (fun _=> rfl) (by decide) (fun N ⟨a,b,_⟩=> hb N a b ())
def Zfd(N:Nat):List (FuncId × Fs U):=(106,fs Zj1 (fun a=> [Z0S a,Zdo a < N]) Z5J) ::[(148,ZaR),(149,Z12),(91,Z38)]
def Zkc:Zf U:=lvl [([2,3],[2,3]),([2,3,16],[2,3]),([4],[]),([2,3,41],[2,3]),([4],[]),([2,3,48,49],[2,3]),([2,3,48,49,50],[2,3]),([2,3,5,48,49],[2,3]),([2,3,48,49,58],[2,3]),([4],[]),([2,3,48,49],[2,3]),([2,3,66,67],[2,3]),([2,3,66,67,68],[2,3]),([2,3,6,66,67],[2,3]),([2,3,66,67,77],[2,3]),([4],[]),([2,3,66,67],[2,3]),([4],[])]
def Z5a(a b:Tree)(x49:Int):LSt U:=(L2 [pL 2,pL 3,pI 48 (if ((a.words.length:Int):Int) < (b.words.length:Int) then (b.words.length:Int) else (a.words.length:Int)),pI 49 x49] [(.loc 2,(enc .tree a)),(.loc 3,(enc .tree b))])
def Z59(a b:Tree)(x67_a:Int):LSt U:=(L2 [pL 2,pL 3,pI 66 (if ((a.kids.length:Int):Int) < (b.kids.length:Int) then (b.kids.length:Int) else (a.kids.length:Int)),pI 67 x67_a] [(.loc 2,(enc .tree a)),(.loc 3,(enc .tree b))])
abbrev ZqC(N:Nat)(p:List Nat):=AW (Z1 (Zfd N)) Try.f106 Zkc p
abbrev Zt0(N:Nat)(p:List Nat):=SW (Z1 (Zfd N)) Try.f106 Zkc p
theorem Zy9(N:Nat)(a b:Tree)(Q:QT)(h:let z3:=a.kind !=b.kind;let z4:=bif z3 then true else (a.kind==0);let z0:=((a.kids.length:Int):Int) !=(b.kids.length:Int);let z2:=bif (a.kind !=1) then (bif z0 then true else (!(decide (a.words=b.words)))) else false;let z1:=(a.kind !=1) && (!z0);((Tr ((!z3)=true))/\(Tr ((!z3)=true))/\(z3=false->(!z3)=true)/\((z4=true->(Q .ret (L2 [pB 4 (a.kind==b.kind)] [])))/\(z4=false->(Tr ((a.kind !=1)=true))/\(Tr ((a.kind !=1)=true))/\(Tr ((a.kind !=1)=true))/\(Tr ((a.kind !=1)=true))/\(Tr ((a.kind !=1)=true))/\(Tr ((a.kind !=1)=true))/\(Tr ((a.kind !=1)=true))/\(Tr (z1=true))/\(Tr (z1=true))/\(Tr (z1=true))/\(Tr (z1=true))/\(z1=true->Zde (a.words,b.words,()))/\(Tr (z1=true))/\((a.kind !=1)=true->(True->(a.kind !=1)=true))/\((a.kind !=1)=true->(z0=false->z1=true))/\(Tr ((a.kind !=1)=true))/\((z2=true->(Q .ret (L2 [pB 4 false] [])))/\(z2=false->(Zi (ZqC N [1,1,1,0,1,0,0]) (Z5a a b 0) (xB 0 (Zt0 N [1,1,1,1] Q))))))))):
  ZqC N [] (L2 [(0,.agg (enc .tree a)),(1,.agg (enc .tree b))] []) Q:=
 Eq.mpr (by kernel_rfl) h
theorem Znp(N:Nat)(a b:Tree)(x49:Int)(N0:NT)(Q:QT)(h:let z3:=Tree.mk b.kind b.words b.kids;let z2:=Tree.mk a.kind a.words a.kids;let z1:=((Jg z2 x49):Int) !=(Jg z3 x49);let z0:=decide (x49 < (if ((a.words.length:Int):Int) < (b.words.length:Int) then (b.words.length:Int) else (a.words.length:Int)));((z0=true->((Z8c (z2,x49,()))/\(Z8c (z3,x49,()))/\((z1=true->(Q .ret (L2 [pB 4 false] [])))/\(z1=false->(InR (x49+1))/\(N0 (Z5a a b (x49+1)))))))/\(z0=false->(Zi (ZqC N [1,1,1,1,0,1,0,0]) (Z59 a b 0) (xB 2 (Zt0 N [1,1,1,1,1] Q)))))):
  ZqC N [1,1,1,0,1,0,0] (Z5a a b x49) (xT N0 (xB 0 (Zt0 N [1,1,1,1] Q))):=
 Eq.mpr (by kernel_rfl) h
theorem Zno(N:Nat)(a b:Tree)(x67_a:Int)(N1:NT)(Q:QT)(h:∀ y_1,y_1=a->∀ y_2,y_2=b->∀ y_3,y_3=(Jt y_1 x67_a)->∀ y_4,y_4=(Jt y_2 x67_a)->let z1:= !(ZZ (Z4 y_3) (Z4 y_4));let z0:=decide (x67_a < (if ((a.kids.length:Int):Int) < (b.kids.length:Int) then (b.kids.length:Int) else (a.kids.length:Int)));((z0=true->((Z8c (y_1,x67_a,()))/\(Z8c (y_2,x67_a,()))/\(Z0S (y_3,y_4,()))/\(Zdo (y_3,y_4,()) < N)/\((z1=true->(Q .ret (L2 [pB 4 false] [])))/\(z1=false->(InR (x67_a+1))/\(N1 (Z59 a b (x67_a+1)))))))/\(z0=false->(Q .ret (L2 [pB 4 true] []))))):
  ZqC N [1,1,1,1,0,1,0,0] (Z59 a b x67_a) (xT N1 (xB 2 (Zt0 N [1,1,1,1,1] Q))):=
 Eq.mpr (by kernel_rfl) (h _ (Zc _) _ (Zc _) _ (Zc _) _ (Zc _))
def ZtJ(N:Nat)(a b:Tree):Prop:=AW (Z1 (Zfd N)) Try.f106 Zkc [] (Zj (Zj1.can (a,b,())) []) (EQ Try.f106 (Z5J (a,b,())) [])
theorem Zsh(Zwi:CT 148 ZaR)(ZmH:CT 149 Z12)(c91:CT 91 Z38)(hb:∀ (N:Nat) (a:Tree) (b:Tree) (_:Unit),Z0S (a,b,())->Zdo (a,b,()) < N+1->ZtJ N a b):CT 106 Je:=
 Yl (μ:=Zdo) (l:=[(148,ZaR),(149,Z12),(91,Z38)]) Zl rfl (⟨Zwi,ZmH,c91,trivial⟩) Zkc Try.func106 rfl rfl 2 (fun _=> rfl) (by decide) (fun N ⟨a,b,_⟩=> hb N a b ())
end
theorem vcU:(∀ {p q:Prop},(p->q->p/\q)=True)/\(∀ {p:Prop},(True/\p)=p)/\(∀ {p:Prop},(p/\True)=p)/\(∀ {p:Prop},(p->True)=True):=
 ⟨by intros;simp+contextual,by simp,by simp,by simp⟩
theorem Zb6:∀ {ks:List Tree} {i:Nat},Z2e ks->i < ks.length->Z3S (ks.getD i Tree.nil)
 | t ::_,0,h,_=> by simp only [Z2e] at h;exact h.1
 | _ ::r,i+1,h,hi=> by simp only [Z2e] at h;exact Zb6 (ks:=r) (i:=i) h.2 (by simpa using hi)
theorem Z00:∀ {ks:List Tree} {i:Nat},i < ks.length->Zm (ks.getD i Tree.nil)<=Z6 ks
 | t ::_,0,_=> by simp only [Z6,Qi];omega
 | t ::r,i+1,h=> by
  have:=Z00 (ks:=r) (i:=i) (by simpa using h)
  simp only [Z6,XI]
  omega
mutual
theorem Ym:∀ (t:Tree) (d l:Int),-1<=ZM t d l/\ZM t d l<=max l (-1)
 | .mk _ w ks,d,l=> by
  simp only [ZM]
  split
  ·omega
  ·have:=Z08 ks (d - 1) (l - 1 - w.length) (by omega)
   omega
theorem Z08:∀ (ks:List Tree) (d l:Int),-1<=l->-1<=Zr ks d l/\Zr ks d l<=l
 | [],d,l,h=> by simp only [Zr];omega
 | t ::r,d,l,h=> by
  simp only [Zr]
  split
  ·omega
  ·have h1:=Ym t d l
   have h2:=Z08 r d (ZM t d l) h1.1
   omega
end
theorem ZcB{ks:List Tree}{i:Nat}{d l:Int}(h:i < ks.length)(hl:0<=l):Zr (ks.drop i) d l=Zr (ks.drop (i+1)) d (ZM (ks.getD i Tree.nil) d l):=by
 rw [QL h]
 simp only [Zr]
 rw [if_neg (by omega)]
 simp [List.getD,h]
theorem c78:Contract Try.prog cfg 78 ZaQ:=by
 refine Zvc ?_
 rintro N ⟨k,ws,ks⟩ d l _ ⟨hs,h1,h2,h3,h4⟩ hN
 simp only [Z3S,Zma,Zm] at*
 refine Zz9 N _ _ _ _ ?_;(try simp only [vcT,forall_eq])
 (simp only [vcS]);(try simp only [vcT])
 try (simp only [Tree.eta,Edit.eta,Tree.kind_mk,Tree.words_mk,Tree.kids_mk])
 refine ⟨by unfold InR;omega,by unfold InR;omega,fun hc=> ?_,fun hc=> ?_⟩
 ·have e:ZM (.mk k ws ks) d l= -1:=by
   simp only [ZM]
   rw [if_pos (by omega)]
  simp only [Zgd,e]
  exact ⟨⟨rfl,⟨⟨rfl,rfl⟩,trivial⟩,trivial⟩,trivial⟩
 ·have e:ZM (.mk k ws ks) d l=Zr ks (d - 1) (l - 1 - ws.length):=by
   simp only [ZM]
   rw [if_neg (by omega)]
  simp only [Zgd,e]
  refine Z9 (ι:=Int × Int) (fun p=> Z7c (.mk k ws ks) d l p.1 p.2) (fun p=> 0<=p.2/\p.2<=ks.length/\-1<=p.1/\p.1<=l/\Zr (ks.drop p.2.toNat) (d - 1) p.1=Zr ks (d - 1) (l - 1 - ws.length)) (fun p=> ((ks.length:Int) - p.2).toNat) (l - 1 - ws.length,0) rfl ⟨by omega,by omega,by omega,by omega,by simp⟩ ?_
  rintro ⟨l',i⟩ ⟨h5,h6,h7,h8,h9⟩
  dsimp only at*
  refine ZqN N _ _ _ _ _ _ _ ?_;(try simp only [vcT,forall_eq])
  (simp only [vcS]);(try simp only [vcT])
  try (simp only [Tree.eta,Edit.eta,Tree.kind_mk,Tree.words_mk,Tree.kids_mk])
  refine ⟨fun hc=> ?_,fun hc=> ?_⟩
  ·have hi:i.toNat < ks.length:=by omega
   have hr:=Ym (ks.getD i.toNat Tree.nil) (d - 1) l'
   have hn:=Z00 hi
   have hd:=ZcB (d:=d - 1) hi hc.2
   refine ⟨by omega,by unfold InR;omega,⟨Zb6 hs.2.2 hi,by dsimp only;omega,by dsimp only;omega,by dsimp only;omega,by dsimp only;omega⟩,by simp only [Zma];omega,by unfold InR;omega,⟨(ZM (ks.getD i.toNat Tree.nil) (d - 1) l',i+1),rfl,⟨by dsimp only;omega,by dsimp only;omega,by dsimp only;omega,by dsimp only;omega,?_⟩,by dsimp only;omega⟩⟩
   dsimp only
   rw [<-h9,hd]
   congr 2
   omega
  ·have e:Zr ks (d - 1) (l - 1 - ws.length)=l':=by
    rw [<-h9]
    by_cases hi:i < ks.length
    ·rw [QL (by omega)]
     simp only [Zr]
     rw [if_pos (by omega)]
    ·rw [Qw (by omega)]
     simp only [Zr]
   rw [e]
   exact ⟨⟨rfl,⟨⟨rfl,rfl⟩,trivial⟩,trivial⟩,trivial⟩
theorem Zwo:Contract Try.prog cfg 109 Z6n:=by
 refine Zsg ?_
 intro l _ hp
 refine Zy6 _ _ ?_;(try simp only [vcT,forall_eq])
 simp only [Zgm] at hp
 refine ⟨fun h=> ?_,⟨by simp only [Qb];omega,?_⟩⟩
 ·subst h
  exact ⟨⟨rfl,⟨rfl,trivial⟩,trivial⟩,trivial⟩
 ·exact ⟨⟨rfl,⟨⟨rfl,trivial⟩,trivial⟩,trivial⟩,trivial⟩
theorem Zak{a b:List Int}{i:Int}(hi:0<=i)(ha:i < a.length)(hb:i < b.length):(a.drop i.toNat=b.drop i.toNat)↔(a.getD i.toNat 0=b.getD i.toNat 0/\a.drop (i+1).toNat=b.drop (i+1).toNat):=by
 have e:(i+1).toNat=i.toNat+1:=by omega
 rw [QL (by omega),QL (l:=b) (by omega),e]
 simp only [List.cons.injEq,List.getD,Q0 (show i.toNat < a.length by omega),Q0 (show i.toNat < b.length by omega),X8]
theorem c75:Contract Try.prog cfg 75 ZaR:=by
 refine Zvd ?_
 intro a b _ hp
 simp only [Zde] at hp
 refine Zzc _ _ _ ?_;(try simp only [vcT,forall_eq])
 (simp only [vcS]);(try simp only [vcT])
 refine ⟨fun hc=> ?_,fun hc=> ?_⟩
 ·have e:decide (a=b)=false:=by
   simp only [decide_eq_false_iff_not]
   rintro rfl
   omega
  simp only [Zgf,e]
  exact ⟨⟨rfl,⟨rfl,trivial⟩,trivial⟩,trivial⟩
 ·have hl:a.length=b.length:=by omega
  refine Z9 (ι:=Int) (fun p=> Z7d a b p) (fun p=> 0<=p/\p<=a.length/\(a=b↔a.drop p.toNat=b.drop p.toNat)) (fun p=> ((a.length:Int) - p).toNat) 0 rfl ⟨by omega,by omega,by simp⟩ ?_
  rintro i ⟨h1,h2,h3⟩
  refine ZqQ _ _ _ _ _ ?_;(try simp only [vcT,forall_eq])
  (simp only [vcS]);(try simp only [vcT])
  refine ⟨fun hc=> ⟨by omega,by omega,fun hn=> ?_,fun he=> ⟨by unfold InR;omega,i+1,rfl,⟨by omega,by omega,?_⟩,by omega⟩⟩,fun hc=> ?_⟩
  ·have e:decide (a=b)=false:=by
    simp only [decide_eq_false_iff_not,h3]
    rw [Zak h1 hc (by omega)]
    exact fun h=> hn h.1
   simp only [Zgf,e]
   exact ⟨⟨rfl,⟨rfl,trivial⟩,trivial⟩,trivial⟩
  ·rw [h3,Zak h1 hc (by omega)]
   exact ⟨fun h=> h.2,fun h=> ⟨by simpa using he,h⟩⟩
  ·have e:decide (a=b)=true:=by
    simp only [decide_eq_true_eq,h3]
    rw [Qw (by omega),Qw (by omega)]
   simp only [Zgf,e]
   exact ⟨⟨rfl,⟨rfl,trivial⟩,trivial⟩,trivial⟩
theorem ZmH:Contract Try.prog cfg 149 Z12:=by
 refine Zs7 ?_
 intro t i _ hp
 refine ZxV _ _ _ ?_;(try simp only [vcT,forall_eq])
 (simp only [vcS]);(try simp only [vcT])
 (repeat (refine And.intro (by first | omega | (unfold InR;omega) | (dsimp only;omega)) ?_))
 refine ⟨fun hc=> ?_,fun hc=> ⟨by omega,?_⟩⟩
 ·have e:Jg t i=0:=by
   unfold Jg
   split
   ·try rfl
   ·rw [List.getD,Qz (by omega)]
    try rfl
  simp only [Zer,e]
  exact ⟨⟨rfl,⟨⟨rfl,rfl⟩,trivial⟩,trivial⟩,trivial⟩
 ·have e:Jg t i=t.words.getD i.toNat 0:=by
   unfold Jg
   rw [if_neg (by omega)]
  simp only [Zer,e]
  exact ⟨⟨rfl,⟨⟨rfl,rfl⟩,trivial⟩,trivial⟩,trivial⟩
theorem c91:Contract Try.prog cfg 91 Z38:=by
 refine Zv8 ?_
 intro t i _ hp
 refine Zz5 _ _ _ ?_;(try simp only [vcT,forall_eq])
 (simp only [vcS]);(try simp only [vcT])
 (repeat (refine And.intro (by first | omega | (unfold InR;omega) | (dsimp only;omega)) ?_))
 refine ⟨fun hc=> ?_,fun hc=> ⟨by omega,?_⟩⟩
 ·have e:Jt t i=Tree.nil:=by
   unfold Jt
   split
   ·try rfl
   ·rw [List.getD,Qz (by omega)]
    try rfl
  simp only [Zjw,e]
  exact ⟨⟨rfl,⟨⟨rfl,rfl⟩,⟨rfl,⟨rfl,trivial⟩⟩⟩,trivial⟩,trivial⟩
 ·have e:Jt t i=t.kids.getD i.toNat Tree.nil:=by
   unfold Jt
   rw [if_neg (by omega)]
  simp only [Zjw,e]
  exact ⟨⟨rfl,⟨⟨rfl,rfl⟩,⟨rfl,trivial⟩,⟨rfl,trivial⟩,trivial⟩,trivial⟩,trivial⟩
theorem Zwi:Contract Try.prog cfg 148 ZaR:=by
 refine Zs8 ?_
 intro a b _ hp
 simp only [Zde] at hp
 refine ZxW _ _ _ ?_;(try simp only [vcT,forall_eq])
 (simp only [vcS]);(try simp only [vcT])
 refine ⟨fun hc=> ?_,fun hc=> ?_⟩
 ·have e:decide (a=b)=false:=by
   simp only [decide_eq_false_iff_not]
   rintro rfl
   omega
  simp only [Zgf,e]
  exact ⟨⟨rfl,⟨rfl,trivial⟩,trivial⟩,trivial⟩
 ·have hl:a.length=b.length:=by omega
  refine Z9 (ι:=Int) (fun p=> Z4Y a b p) (fun p=> 0<=p/\p<=a.length/\(a=b↔a.drop p.toNat=b.drop p.toNat)) (fun p=> ((a.length:Int) - p).toNat) 0 rfl ⟨by omega,by omega,by simp⟩ ?_
  rintro i ⟨h1,h2,h3⟩
  refine Zna _ _ _ _ _ ?_;(try simp only [vcT,forall_eq])
  (simp only [vcS]);(try simp only [vcT])
  refine ⟨fun hc=> ⟨by omega,by omega,fun hn=> ?_,fun he=> ⟨by unfold InR;omega,i+1,rfl,⟨by omega,by omega,?_⟩,by omega⟩⟩,fun hc=> ?_⟩
  ·have e:decide (a=b)=false:=by
    simp only [decide_eq_false_iff_not,h3]
    rw [Zak h1 hc (by omega)]
    exact fun h=> hn h.1
   simp only [Zgf,e]
   exact ⟨⟨rfl,⟨rfl,trivial⟩,trivial⟩,trivial⟩
  ·rw [h3,Zak h1 hc (by omega)]
   exact ⟨fun h=> h.2,fun h=> ⟨by simpa using he,h⟩⟩
  ·have e:decide (a=b)=true:=by
    simp only [decide_eq_true_eq,h3]
    rw [Qw (by omega),Qw (by omega)]
   simp only [Zgf,e]
   exact ⟨⟨rfl,⟨rfl,trivial⟩,trivial⟩,trivial⟩
theorem Zhh{a b:List Tree}{i:Int}(hi:0<=i)(ha:i < a.length)(hb:i < b.length):(a.drop i.toNat=b.drop i.toNat)↔(a.getD i.toNat Tree.nil=b.getD i.toNat Tree.nil/\a.drop (i+1).toNat=b.drop (i+1).toNat):=by
 have e:(i+1).toNat=i.toNat+1:=by omega
 rw [QL (by omega),QL (l:=b) (by omega),e]
 simp only [List.cons.injEq,List.getD,Q0 (show i.toNat < a.length by omega),Q0 (show i.toNat < b.length by omega),X8]
theorem Jk{a b:Tree}:ZZ a b=true↔a=b:=by simp [ZZ]
theorem YE{a b:Tree}:ZZ a b=false↔¬a=b:=by simp [ZZ]
theorem Zs:∀ (ks:List Tree),ks.length<=Z6 ks
 | []=> by simp [Z6]
 | t ::r=> by
  have:=Zs r
  have:1<=Zm t:=by cases t;simp only [Zm];omega
  simp only [Z6,Q9]
  omega
theorem c29:Contract Try.prog cfg 29 Z3O:=by
 refine Zvt c75 ?_
 rintro N ⟨k,ws,ks⟩ ⟨k',ws',ks'⟩ _ hp hN
 have hlen:=Zs ks
 simp only [Z3D,Zme,Zm] at hp hN
 refine Zzw N _ _ _ ?_;(try simp only [vcT,forall_eq])
 (simp only [vcS]);(try simp only [vcT])
 try (simp only [Tree.eta,Edit.eta,Tree.kind_mk,Tree.words_mk,Tree.kids_mk])
 have p69:Zde (ws,ws',()):=by simp only [Zde];omega
 refine ⟨fun _=> p69,fun hc=> ?_,fun hc=> ?_⟩
 ·have e:ZZ (.mk k ws ks) (.mk k' ws' ks')=false:=by
   rw [YE]
   intro h
   cases h
   simp at hc
  simp only [Zd9,e]
  exact ⟨⟨rfl,⟨rfl,trivial⟩,trivial⟩,trivial⟩
 ·have hc':(k=k'/\ws=ws')/\ks.length=ks'.length:=⟨hc.1,by have:=hc.2;omega⟩
  obtain ⟨⟨rfl,rfl⟩,hl⟩:=hc'
  refine Z9 (ι:=Int) (fun p=> Z7s (.mk k ws ks) (.mk k ws ks') p) (fun p=> 0<=p/\p<=ks.length/\(Tree.mk k ws ks= .mk k ws ks'↔ks.drop p.toNat=ks'.drop p.toNat)) (fun p=> ((ks.length:Int) - p).toNat) 0 rfl ⟨by omega,by omega,by simp⟩ ?_
  rintro i ⟨h1,h2,h3⟩
  refine Zra N _ _ _ _ _ ?_;(try simp only [vcT,forall_eq])
  (simp only [vcS]);(try simp only [vcT])
  try (simp only [Tree.eta,Edit.eta,Tree.kind_mk,Tree.words_mk,Tree.kids_mk])
  refine ⟨fun hc=> ⟨by omega,by omega,?_,?_,fun hn=> ?_,fun he=> ⟨by unfold InR;omega,i+1,rfl,⟨by omega,by omega,?_⟩,by omega⟩⟩,fun hc=> ?_⟩
  ·have:=Z00 (ks:=ks) (i:=i.toNat) (by omega)
   simp only [Z3D]
   omega
  ·have:=Z00 (ks:=ks) (i:=i.toNat) (by omega)
   simp only [Zme]
   omega
  ·have e:ZZ (.mk k ws ks) (.mk k ws ks')=false:=by
    rw [YE,h3,Zhh h1 hc (by omega)]
    rw [YE] at hn
    exact fun h=> hn h.1
   simp only [Zd9,e]
   exact ⟨⟨rfl,⟨rfl,trivial⟩,trivial⟩,trivial⟩
  ·rw [h3,Zhh h1 hc (by omega)]
   exact ⟨fun h=> h.2,fun h=> ⟨Jk.1 he,h⟩⟩
  ·have e:ZZ (.mk k ws ks) (.mk k ws ks')=true:=by
    rw [Jk,h3]
    rw [Qw (by omega),Qw (by omega)]
   simp only [Zd9,e]
   exact ⟨⟨rfl,⟨rfl,trivial⟩,trivial⟩,trivial⟩
theorem Z7R:∀ (l:List Int),trim (l++[0])=trim l
 | []=> rfl
 | x ::r=> by
  show (match trim (r++[0]) with | []=> if x=0 then [] else [x] | y ::s=> x ::y ::s)=_
  rw [Z7R r]
  try rfl
theorem ZdX{x:Int}(hx:x≠0):∀ (l:List Int),trim (l++[x])=l++[x]
 | []=> by simp [trim,hx]
 | y ::r=> by
  show (match trim (r++[x]) with | []=> if y=0 then [] else [y] | z ::s=> y ::z ::s)=_
  rw [ZdX hx r]
  cases r <;> rfl
theorem Z7U{l:List Int}{i:Int}(h0:0 < i)(hi:i<=l.length):l.take i.toNat=l.take (i - 1).toNat++[l.getD (i - 1).toNat 0]:=by
 have e:i.toNat=(i - 1).toNat+1:=by omega
 rw [e,List.take_add_one]
 simp only [List.getD,Q0 (show (i - 1).toNat < l.length by omega),Option.toList,X8]
theorem c84:Contract Try.prog cfg 84 ZaO:=by
 refine Zva ?_
 intro l _ hp
 simp only [Zgm] at hp
 refine Zz7 _ _ ?_;(try simp only [vcT,forall_eq])
 refine Z9 (ι:=Int) (fun p=> Z7a l p) (fun p=> 0<=p/\p<=l.length/\trim (l.take p.toNat)=trim l) (fun p=> p.toNat) (l.length:Int) rfl ⟨by omega,by omega,by simp⟩ ?_
 rintro i ⟨h1,h2,h3⟩
 refine ZqL _ _ _ _ ?_;(try simp only [vcT,forall_eq])
 (simp only [vcS]);(try simp only [vcT])
 refine ⟨fun h=> by unfold InR;omega,fun h=> by omega,fun hc=> ⟨by unfold InR;omega,i - 1,rfl,⟨by omega,by omega,?_⟩,by omega⟩,fun hc=> ⟨by omega,?_,?_⟩⟩
 ·rw [Z7U hc.1 h2,hc.2,Z7R] at h3
  exact h3
 ·simp only [Qb,Qk]
  omega
 ·have e:trim l=[]++l.take i.toNat:=by
   rw [<-h3]
   by_cases h0:0 < i
   ·rw [Z7U h0 h2,ZdX (by rcases hc with h | h;exact absurd h0 h;exact h)]
    try rfl
   ·have:i.toNat=0:=by omega
    rw [this]
    try rfl
  simp only [ZnG,e]
  exact ⟨⟨rfl,⟨⟨rfl,trivial⟩,trivial⟩,trivial⟩,trivial⟩
theorem ZfQ:∀ (l:List Int),(trim l).length<=l.length
 | []=> by simp [trim]
 | x ::r=> by
  have:=ZfQ r
  simp only [trim]
  split
  ·split <;> simp
  ·rename_i h
   rw [h] at this
   simp at*
   omega
theorem ZaA:∀ (l:List Tree),Z6 (ZX l)<=Z6 l
 | []=> by simp [ZX]
 | x ::r=> by
  have:=ZaA r
  simp only [ZX]
  split
  ·split
   ·simp [Z6]
   ·simp [Z6]
  ·rename_i h
   rw [h] at this
   simp only [Z6] at*
   omega
mutual
theorem Jo:∀ (t:Tree),Zm (Z4 t)<=Zm t
 | .mk k w ks=> by
  have h1:=ZbQ ks
  have h2:=ZfQ w
  have h3:=ZaA (ZY ks)
  simp only [Z4]
  split
  ·simp only [Tree.nil,Zm,Z6,Qb];omega
  ·split
   ·simp only [Zm];omega
   ·simp only [Zm];omega
theorem ZbQ:∀ (ks:List Tree),Z6 (ZY ks)<=Z6 ks
 | []=> by simp [ZY]
 | t ::r=> by
  have h1:=Jo t
  have h2:=ZbQ r
  simp only [ZY,Z6]
  omega
end
theorem Z8p:∀ (l:List Tree) (x:Tree),ZY (l++[x])=ZY l++[Z4 x]
 | [],x=> rfl
 | y ::r,x=> by simp only [Qo,ZY,Z8p r x]
theorem Z0r:∀ (l:List Tree),(ZY l).length=l.length
 | []=> rfl
 | y ::r=> by simp only [ZY,Q9,Z0r r]
theorem Z5D{x:Tree}(hx:x.kind=0):∀ (l:List Tree),ZX (l++[x])=ZX l
 | []=> by simp [ZX,hx]
 | y ::r=> by
  show (match ZX (r++[x]) with | []=> if y.kind=0 then [] else [y] | z ::s=> y ::z ::s)=_
  rw [Z5D hx r]
  try rfl
theorem Zaz{x:Tree}(hx:x.kind≠0):∀ (l:List Tree),ZX (l++[x])=l++[x]
 | []=> by simp [ZX,hx]
 | y ::r=> by
  show (match ZX (r++[x]) with | []=> if y.kind=0 then [] else [y] | z ::s=> y ::z ::s)=_
  rw [Zaz hx r]
  cases r <;> rfl
theorem Z5E{l:List Tree}{i:Int}(h0:0<=i)(hi:i < l.length):l.take (i+1).toNat=l.take i.toNat++[l.getD i.toNat Tree.nil]:=by
 have e:(i+1).toNat=i.toNat+1:=by omega
 rw [e,List.take_add_one]
 simp only [List.getD,Q0 (show i.toNat < l.length by omega),Option.toList,X8]
theorem c45:Contract Try.prog cfg 45 Z3b:=by
 refine Zvp c84 ?_
 rintro N ⟨k,ws,ks⟩ _ hp hN
 have hlen:=Zs ks
 simp only [Z1F,Zmd,Zm] at hp hN
 refine Zzr N _ _ ?_;(try simp only [vcT,forall_eq])
 (simp only [vcS]);(try simp only [vcT])
 try (simp only [Tree.eta,Edit.eta,Tree.kind_mk,Tree.words_mk,Tree.kids_mk])
 refine ⟨fun hc=> ?_,fun hc0=> ?_⟩
 ·have e:Z4 (.mk k ws ks)=Tree.nil:=by simp [Z4,hc]
  simp only [Zd8,e]
  exact ⟨⟨rfl,⟨⟨rfl,rfl⟩,⟨rfl,⟨rfl,trivial⟩⟩⟩,trivial⟩,trivial⟩
 ·refine Z9 (ι:=Int × Int × List Tree) (fun p=> Z4m (.mk k ws ks) p.1 p.2.1 p.2.2) (fun p=> 0<=p.2.1/\p.2.1<=ks.length/\0<=p.1/\p.1<=p.2.1/\p.2.2=ZY (ks.take p.2.1.toNat)/\ZX (ZY (ks.take p.2.1.toNat))=p.2.2.take p.1.toNat) (fun p=> ((ks.length:Int) - p.2.1).toNat) (0,0,[]) rfl ⟨by dsimp only;omega,by dsimp only;omega,by dsimp only;omega,by dsimp only;omega,rfl,rfl⟩ ?_
  rintro ⟨last,i,l⟩ ⟨h1,h2,h3,h4,h5,h6⟩
  dsimp only at*
  have hl:l.length=i.toNat:=by rw [h5,Z0r,Qk];omega
  refine Zr7 N _ _ _ _ _ _ ?_;(try simp only [vcT,forall_eq])
  (simp only [vcS]);(try simp only [vcT])
  try (simp only [Tree.eta,Edit.eta,Tree.kind_mk,Tree.words_mk,Tree.kids_mk])
  refine ⟨fun hc=> ?_,fun hc=> ⟨fun h1=> ⟨?_,by omega,?_⟩,fun hk=> ⟨?_,?_⟩⟩⟩
  ·have hm:=Z00 (ks:=ks) (i:=i.toNat) (by omega)
   have hnx:ZY (ks.take (i+1).toNat)=l++[Z4 (ks.getD i.toNat Tree.nil)]:=by rw [Z5E h1 hc,Z8p,h5]
   refine ⟨by omega,by simp only [Z1F];omega,by simp only [Zmd];omega,by simp only [Q9,Qb];omega,fun hk=> ⟨by unfold InR;omega,by unfold InR;omega,(i+1,i+1,_),rfl,⟨by dsimp only;omega,by dsimp only;omega,by dsimp only;omega,by dsimp only;omega,hnx.symm,?_⟩,by dsimp only;omega⟩,fun hk=> ⟨by unfold InR;omega,(last,i+1,_),rfl,⟨by dsimp only;omega,by dsimp only;omega,by dsimp only;omega,by dsimp only;omega,hnx.symm,?_⟩,by dsimp only;omega⟩⟩
   ·dsimp only
    rw [hnx,Zaz hk,Qv (by simp;omega)]
   ·dsimp only
    rw [hnx,Z5D hk,K9 (by omega),<-h6,h5]
  ·simp only [Zgm];omega
  ·have hi:ks.take i.toNat=ks:=Qv (by omega)
   rw [hi] at h5 h6
   have e:Z4 (.mk k ws ks)= .mk 1 (trim ws) (l.take last.toNat):=by
    subst h1
    simp only [Z4,<-h6]
    try rfl
   simp only [Zd8,e]
   exact ⟨⟨rfl,⟨⟨rfl,rfl⟩,⟨rfl,trivial⟩,⟨rfl,trivial⟩,trivial⟩,trivial⟩,trivial⟩
  ·simp only [Qb];omega
  ·have hi:ks.take i.toNat=ks:=Qv (by omega)
   rw [hi] at h5
   have e:Z4 (.mk k ws ks)= .mk k ([]++ws) l:=by
    simp only [Z4,if_neg hc0,if_neg hk,h5]
    try rfl
   simp only [Zd8,e]
   exact ⟨⟨rfl,⟨⟨rfl,rfl⟩,⟨rfl,trivial⟩,⟨rfl,trivial⟩,trivial⟩,trivial⟩,trivial⟩
theorem Zkf{l:List Int}(h0:0 < (l.length:Int)):l=l.take ((l.length:Int) - 1).toNat++[l.getD ((l.length:Int) - 1).toNat 0]:=by
 have:=Z7U h0 (Xa _)
 rw [Qv (by omega)] at this
 exact this
theorem Zh3{l:List Tree}(h0:0 < (l.length:Int)):l=l.take ((l.length:Int) - 1).toNat++[l.getD ((l.length:Int) - 1).toNat Tree.nil]:=by
 have:=Z5E (l:=l) (i:=(l.length:Int) - 1) (by omega) (by omega)
 rw [Qv (by omega)] at this
 exact this
theorem ZlD{l:List Int}(h0:0 < (l.length:Int))(hz:l.getD ((l.length:Int) - 1).toNat 0=0):trim (l.take ((l.length:Int) - 1).toNat)=trim l:=by
 have e:=Z7R (l.take ((l.length:Int) - 1).toNat)
 have h:=Zkf h0
 rw [hz] at h
 rw [<-h] at e
 exact e.symm
theorem ZlF{l:List Int}(h:¬0 < (l.length:Int)\/¬l.getD ((l.length:Int) - 1).toNat 0=0):trim l=l:=by
 by_cases h0:0 < (l.length:Int)
 ·have e:=ZdX (x:=l.getD ((l.length:Int) - 1).toNat 0) (by rcases h with h | h;exact absurd h0 h;exact h) (l.take ((l.length:Int) - 1).toNat)
  rw [<-Zkf h0] at e
  exact e
 ·have:l=[]:=Q3 (by omega)
  subst this
  try rfl
theorem ZhB{l:List Tree}(h0:0 < (l.length:Int))(hz:(l.getD ((l.length:Int) - 1).toNat Tree.nil).kind=0):ZX (l.take ((l.length:Int) - 1).toNat)=ZX l:=by
 have e:=Z5D hz (l.take ((l.length:Int) - 1).toNat)
 rw [<-Zh3 h0] at e
 exact e.symm
theorem ZhD{l:List Tree}(h:¬0 < (l.length:Int)\/¬(l.getD ((l.length:Int) - 1).toNat Tree.nil).kind=0):ZX l=l:=by
 by_cases h0:0 < (l.length:Int)
 ·have e:=Zaz (x:=l.getD ((l.length:Int) - 1).toNat Tree.nil) (by rcases h with h | h;exact absurd h0 h;exact h) (l.take ((l.length:Int) - 1).toNat)
  rw [<-Zh3 h0] at e
  exact e
 ·have:l=[]:=Q3 (by omega)
  subst this
  try rfl
theorem c71:Contract Try.prog cfg 71 Z3b:=by
 refine Zve Zwo ?_
 rintro N ⟨k,ws,ks⟩ _ hp hN
 have hlen:=Zs ks
 simp only [Z1F,Zmd,Zm] at hp hN
 refine Zzd N _ _ ?_;(try simp only [vcT,forall_eq])
 (simp only [vcS]);(try simp only [vcT])
 try (simp only [Tree.eta,Edit.eta,Tree.kind_mk,Tree.words_mk,Tree.kids_mk])
 refine ⟨fun hc=> ?_,fun hc0=> ⟨by simp only [Zgm];omega,?_⟩⟩
 ·have e:Z4 (.mk k ws ks)=Tree.nil:=by simp [Z4,hc]
  simp only [Zd8,e]
  exact ⟨⟨rfl,⟨⟨rfl,rfl⟩,⟨rfl,⟨rfl,trivial⟩⟩⟩,trivial⟩,trivial⟩
 ·refine Z9 (ι:=Int × List Tree) (fun p=> Z7g (.mk k ws ks) p.1 p.2) (fun p=> 0<=p.1/\p.1<=ks.length/\p.2=ZY (ks.take p.1.toNat)) (fun p=> ((ks.length:Int) - p.1).toNat) (0,[]) rfl ⟨by dsimp only;omega,by dsimp only;omega,rfl⟩ ?_
  rintro ⟨i,l⟩ ⟨h1,h2,h5⟩
  dsimp only at*
  have hl:l.length=i.toNat:=by rw [h5,Z0r,Qk];omega
  refine ZqT N _ _ _ _ _ ?_;(try simp only [vcT,forall_eq])
  (simp only [vcS]);(try simp only [vcT])
  try (simp only [Tree.eta,Edit.eta,Tree.kind_mk,Tree.words_mk,Tree.kids_mk])
  refine ⟨fun hc=> ?_,fun hc=> ⟨fun hk=> ?_,fun hk=> ?_⟩⟩
  ·have hm:=Z00 (ks:=ks) (i:=i.toNat) (by omega)
   have hnx:ZY (ks.take (i+1).toNat)=l++[Z4 (ks.getD i.toNat Tree.nil)]:=by rw [Z5E h1 hc,Z8p,h5]
   exact ⟨by omega,by simp only [Z1F];omega,by simp only [Zmd];omega,by simp only [Q9,Qb];omega,by unfold InR;omega,(i+1,_),rfl,⟨by dsimp only;omega,by dsimp only;omega,hnx.symm⟩,by dsimp only;omega⟩
  ·have hi:ks.take i.toNat=ks:=Qv (by omega)
   rw [hi] at h5
   refine Z9 (ι:=List Int) (fun p=> Z7f (.mk k ws ks) l p) (fun p=> p.length<=ws.length/\trim p=trim ws) (fun p=> p.length) ws rfl ⟨by omega,rfl⟩ ?_
   rintro w ⟨h6,h7⟩
   refine ZqS N _ _ _ _ _ ?_;(try simp only [vcT,forall_eq])
   (simp only [vcS]);(try simp only [vcT])
   refine ⟨fun h=> by unfold InR;omega,fun h=> by omega,fun hc=> ⟨by unfold InR;omega,by omega,_,rfl,⟨by rw [List.length_take];omega,?_⟩,by rw [List.length_take];omega⟩,fun hc=> ?_⟩
   ·rw [ZlD hc.1 hc.2,h7]
   ·have hw:w=trim ws:=by rw [<-h7,ZlF hc]
    refine Z9 (ι:=List Tree) (fun p=> Z7e (.mk k ws ks) w p) (fun p=> p.length<=l.length/\ZX p=ZX l) (fun p=> p.length) l rfl ⟨by omega,rfl⟩ ?_
    rintro q ⟨h8,h9⟩
    refine ZqR N _ _ _ _ _ ?_;(try simp only [vcT,forall_eq])
    (simp only [vcS]);(try simp only [vcT])
    refine ⟨fun h=> by unfold InR;omega,fun h=> by omega,fun hc=> ⟨by unfold InR;omega,by omega,_,rfl,⟨by rw [List.length_take];omega,?_⟩,by rw [List.length_take];omega⟩,fun hc=> ?_⟩
    ·rw [ZhB hc.1 hc.2,h9]
    ·have hq:q=ZX (ZY ks):=by rw [<-h5,<-h9,ZhD hc]
     have e:Z4 (.mk k ws ks)= .mk k w q:=by
      subst hk
      simp only [Z4,hw,hq]
      try rfl
     simp only [Zd8,e]
     exact ⟨⟨rfl,⟨⟨rfl,rfl⟩,⟨rfl,trivial⟩,⟨rfl,trivial⟩,trivial⟩,trivial⟩,trivial⟩
  ·have hi:ks.take i.toNat=ks:=Qv (by omega)
   rw [hi] at h5
   have e:Z4 (.mk k ws ks)= .mk k ws l:=by simp only [Z4,if_neg hc0,if_neg hk,h5]
   simp only [Zd8,e]
   exact ⟨⟨rfl,⟨⟨rfl,rfl⟩,⟨rfl,trivial⟩,⟨rfl,trivial⟩,trivial⟩,trivial⟩,trivial⟩
noncomputable section
def Zlg:ArgL (Int × Unit):=(.cons (Jd .i64) .nil)
def Zi3(a:Int × Unit):Prop:=True
def ZnW(a:Int × Unit):V U:= .c (ci (wd a.1))
def Z6m:Fs U:=fs Zlg (fun a=> [Zi3 a]) ZnW
def Zq6:ArgL (Int × Int × Unit):=(.cons (Jd .i64) (.cons (Jd .u64) .nil))
def ZjJ(a:Int × Int × Unit):Prop:=0<=a.2.1/\a.2.1 < 18446744073709551616
def ZtR(a:Int × Int × Unit):V U:= .c (.bool (Zmw a.1 a.2.1))
def ZaP:Fs U:=fs Zq6 (fun a=> [ZjJ a]) ZtR
def mu117(a:Tree × Int × Unit):Nat:=Zm a.1
def Z6J(a:Tree × Int × Unit):Prop:=Zm a.1<=20000000000/\rng a.1/\0<=a.2.1/\a.2.1<=1000
def ZnK(a:Tree × Int × Unit):V U:= .c (.bool (Zu a.1 a.2.1))
def Z7Z:Fs U:=fs Zle (fun a=> [Z6J a]) ZnK
def Zp8:Zf U:=lvl [([0],[]),([3],[]),([3,4],[]),([2],[]),([3,6],[]),([2],[]),([3,8],[]),([2],[]),([3,10],[]),([2],[]),([3,12],[]),([2],[]),([14],[]),([2],[]),([2],[])]
abbrev ZA5(p:List Nat):=AW (Z1 Zix) Try.f116 Zp8 p
theorem Zy0(c:Int)(Q:QT)(h:(((c==0)=true->(Q .ret (L2 [pI 2 0] [])))/\((c==0)=false->(((c==1)=true->(Q .ret (L2 [pI 2 1] [])))/\((c==1)=false->(((c==2)=true->(Q .ret (L2 [pI 2 8] [])))/\((c==2)=false->(((c==3)=true->(Q .ret (L2 [pI 2 16] [])))/\((c==3)=false->(((c==4)=true->(Q .ret (L2 [pI 2 32] [])))/\((c==4)=false->(((c==5)=true->(Q .ret (L2 [pI 2 64] [])))/\((c==5)=false->(Q .ret (L2 [pI 2 (-1)] []))))))))))))))):
  ZA5 [] (L2 [pI 0 c] []) Q:=
 Eq.mpr (by kernel_rfl) h
def ZtA(c:Int):Prop:=AW (Z1 Zix) Try.f116 Zp8 [] (Zj (Zlg.can (c,())) []) (EQ Try.f116 (ZnW (c,())) [])
theorem Zsc(hb:∀ (c:Int) (_:Unit),Zi3 (c,())->ZtA c):CT 116 Z6m:=
 Z3 (l:=[]) Zl rfl trivial Zp8 Try.func116 rfl rfl 1 (fun _=> rfl) (by decide) (fun ⟨c,_⟩=> hb c ())
def Ziv:List (FuncId × Fs U):=[(116,Z6m)]
def Zsn:Zf U:=lvl [([0,1],[]),([1,5],[]),([1,5,10],[]),([4],[]),([1,5,6],[]),([1,5,6,13],[]),([1,5,6],[]),([1,5,6],[]),([4],[])]
def Z7b(c n x1 x6:Int):LSt U:=(L2 [(1,.c (.int .u64 x1)),pI 5 (wd c),pI 6 x6] [])
abbrev A79(p:List Nat):=AW (Z1 Ziv) Try.f79 Zsn p
abbrev S79(p:List Nat):=SW (Z1 Ziv) Try.f79 Zsn p
theorem Zz8(c n:Int)(Q:QT)(h:((Zi3 (c,()))/\(((decide (((wd c):Int) < 0))=true->(Q .ret (L2 [pB 4 false] [])))/\((decide (((wd c):Int) < 0))=false->(Zi (A79 [1,1,1,0,1,0,0]) (Z7b c n n 0) (xB 0 (S79 [1,1,1,1] Q))))))):
  A79 [] (L2 [pI 0 c,(1,.c (.int .u64 n))] []) Q:=
 Eq.mpr (by kernel_rfl) h
theorem ZqM(c n x1 x6:Int)(N0:NT)(Q:QT)(h:(((decide (x6 < (wd c)))=true->((2:Int)≠0)/\((InR (x6+1))/\(N0 (Z7b c n (IntKind.wrap .u64 (Int.tdiv x1 2)) (x6+1)))))/\((decide (x6 < (wd c)))=false->(Q .ret (L2 [pB 4 (x1==0)] []))))):
  A79 [1,1,1,0,1,0,0] (Z7b c n x1 x6) (xT N0 (xB 0 (S79 [1,1,1,1] Q))):=
 Eq.mpr (by kernel_rfl) h
def ZwL(c n:Int):Prop:=AW (Z1 Ziv) Try.f79 Zsn [] (Zj (Zq6.can (c,n,())) []) (EQ Try.f79 (ZtR (c,n,())) [])
theorem Zvb(Zwk:CT 116 Z6m)(hb:∀ (c:Int) (n:Int) (_:Unit),ZjJ (c,n,())->ZwL c n):CT 79 ZaP:=
 Z3 (l:=[(116,Z6m)]) Zl rfl (⟨Zwk,trivial⟩) Zsn Try.func79 rfl rfl 2 (fun _=> rfl) (by decide) (fun ⟨c,n,_⟩=> hb c n ())
def ZiH(N:Nat):List (FuncId × Fs U):=(37,fs Zle (fun a=> [Z6J a,mu117 a < N]) ZnK) ::[(79,ZaP)]
def Zsz:Zf U:=lvl [([1,2],[2]),([1,2,10],[2]),([4],[]),([1,2,23],[2]),([4],[]),([1,2,68],[2]),([4],[]),([1,2,77],[2]),([4],[]),([1,2,5],[2]),([1,2,5,82],[2]),([1,2,5],[2]),([1,2,5,6],[2,6]),([1,2,5,6,94],[2,6]),([4],[]),([1,2,5,6,7],[2,6]),([1,2,5,131],[2]),([4],[]),([4],[])]
def Z7r(t:Tree)(d x5:Int):LSt U:=(L2 [pI 1 d,pL 2,pI 5 x5] [(.loc 2,(enc .tree t))])
abbrev A37(N:Nat)(p:List Nat):=AW (Z1 (ZiH N)) Try.f37 Zsz p
abbrev S37(N:Nat)(p:List Nat):=SW (Z1 (ZiH N)) Try.f37 Zsz p
theorem Zzs(N:Nat)(t:Tree)(d:Int)(Q:QT)(h:let z11:=((t.kids.length:Int):Int)==0;let z8:=decide (t.kind < 0);let z6:=decide ((1:Int) < t.kind);let z9:=bif z6 then (decide ((0:Int) < (t.words.length:Int))) else false;let z5:=((t.words.length:Int):Int)==1;let z4:=((t.words.length:Int):Int)==0;let z2:=bif z8 then true else (decide ((10:Int) < t.kind));let z3:=bif z2 then true else (d==0);let z0:=bif z3 then true else (decide ((65536:Int)<=(t.words.length:Int)));let z10:=(!z0) && (t.kind==1);let z1:=bif z0 then true else (bif (t.kind==1) then (decide ((65536:Int)<=(t.kids.length:Int))) else false);let z7:=bif z1 then true else (decide ((1048576:Int)<=(t.kids.length:Int)));(((t.kind==0)=true->(Tr (z4=true))/\(Tr (z4=true))/\(Tr (z4=true))/\(Tr (z4=true))/\(Q .ret (L2 [(4,.c (.bool (bif z4 then z11 else false)))] [])))/\((t.kind==0)=false->(((t.kind==10)=true->(Tr (z5=true))/\(Tr (z5=true))/\(Tr (z5=true))/\(Tr (z5=true))/\(Q .ret (L2 [(4,.c (.bool (bif z5 then z11 else false)))] [])))/\((t.kind==10)=false->(Tr ((!z8)=true))/\(Tr ((!z8)=true))/\(z8=false->(!z8)=true)/\(Tr ((!z2)=true))/\(z2=false->(!z2)=true)/\(Tr ((!z3)=true))/\(Tr ((!z3)=true))/\(Tr ((!z3)=true))/\(z3=false->(!z3)=true)/\(Tr ((!z0)=true))/\(Tr ((!z0)=true))/\(Tr ((!z0)=true))/\(Tr (z10=true))/\(Tr (z10=true))/\(Tr (z10=true))/\((!z0)=true->(True->(!z0)=true))/\((!z0)=true->((t.kind==1)=true->z10=true))/\(z0=false->(!z0)=true)/\(Tr ((!z1)=true))/\(Tr ((!z1)=true))/\(Tr ((!z1)=true))/\(z1=false->(!z1)=true)/\((z7=true->(Q .ret (L2 [pB 4 false] [])))/\(z7=false->(Tr (z6=true))/\(Tr (z6=true))/\(Tr (z6=true))/\(Tr (z6=true))/\((z9=true->(Q .ret (L2 [pB 4 false] [])))/\(z9=false->(Zi (A37 N [1,1,1,1,1,0,1,0,0]) (Z7r t d 0) (xB 0 (S37 N [1,1,1,1,1,1] Q)))))))))))):
  A37 N [] (L2 [(0,.agg (enc .tree t)),pI 1 d] []) Q:=
 Eq.mpr (by kernel_rfl) h
theorem Zr8(N:Nat)(t:Tree)(d x5:Int)(N0:NT)(Q:QT)(h:∀ y_1,y_1=(t.kids.getD x5.toNat Tree.nil)->∀ y_2,y_2=y_1->∀ y_3,y_3=(List.getD y_1.words (Int.toNat 0) (0:Int))->let z6:=decide (x5 < (t.kids.length:Int));let z3:=decide ((2:Int)<=t.kind);let z0:=bif z3 then (decide (t.kind<=7)) else false;let z2:=z0 !=(y_1.kind==10);let z5:=(!z2) && (t.kind==9);let z1:=bif z2 then true else (bif (t.kind==9) then (y_1.kind !=1) else false);let z4:=bif z1 then true else (bif z0 then (!(Zmw (t.kind - 2) y_3)) else false);((z6=true->((0:Int)<=x5/\x5 < (t.kids.length:Int))/\((InR (d - 1))/\(Z6J (y_2,(d - 1),()))/\(mu117 (y_2,(d - 1),()) < N)/\(((!(Zu y_2 (d - 1)))=true->(Q .ret (L2 [pB 4 false] [])))/\((!(Zu y_2 (d - 1)))=false->(Tr (z3=true))/\(Tr (z3=true))/\(Tr (z3=true))/\((Tr ((!z2)=true))/\(Tr ((!z2)=true))/\(Tr ((!z2)=true))/\(Tr (z5=true))/\(Tr (z5=true))/\((!z2)=true->(True->(!z2)=true))/\((!z2)=true->((t.kind==9)=true->z5=true))/\(z2=false->(!z2)=true)/\(Tr ((!z1)=true))/\(Tr (((!z1) && z0)=true))/\(Tr (((!z1) && z0)=true))/\(((!z1) && z0)=true->InR (t.kind - 2))/\(Tr (((!z1) && z0)=true))/\(Tr (((!z1) && z0)=true))/\(((!z1) && z0)=true->(0:Int)<=0/\0 < (y_1.words.length:Int))/\(Tr (((!z1) && z0)=true))/\(Tr (((!z1) && z0)=true))/\(Tr (((!z1) && z0)=true))/\(((!z1) && z0)=true->ZjJ ((t.kind - 2),y_3,()))/\(Tr (((!z1) && z0)=true))/\((!z1)=true->(True->(!z1)=true))/\((!z1)=true->(z0=true->((!z1) && z0)=true))/\(z1=false->(!z1)=true)/\((z4=true->(Q .ret (L2 [pB 4 false] [])))/\(z4=false->(InR (x5+1))/\(N0 (Z7r t d (x5+1))))))))))/\(z6=false->(Q .ret (L2 [pB 4 true] []))))):
  A37 N [1,1,1,1,1,0,1,0,0] (Z7r t d x5) (xT N0 (xB 0 (S37 N [1,1,1,1,1,1] Q))):=
 Eq.mpr (by kernel_rfl) (h _ rfl _ (Zc _) _ rfl)
def Zx5(N:Nat)(t:Tree)(d:Int):Prop:=AW (Z1 (ZiH N)) Try.f37 Zsz [] (Zj (Zle.can (t,d,())) []) (EQ Try.f37 (ZnK (t,d,())) [])
theorem Zvq(c79:CT 79 ZaP)(hb:∀ (N:Nat) (t:Tree) (d:Int) (_:Unit),Z6J (t,d,())->mu117 (t,d,()) < N+1->Zx5 N t d):CT 37 Z7Z:=
 Yl (μ:=mu117) (l:=[(79,ZaP)]) Zl rfl (⟨c79,trivial⟩) Zsz Try.func37 rfl rfl 2 (fun _=> rfl) (by decide) (fun N ⟨t,d,_⟩=> hb N t d ())
end
theorem Z34:∀ (l:List Int),trim l=[]↔∀ i:Nat,l.getD i 0=0
 | []=> by simp [trim]
 | x ::r=> by
  have ih:=Z34 r
  constructor
  ·intro h i
   simp only [trim] at h
   split at h
   ·rename_i hr
    split at h
    ·cases i with
     | zero=> simpa
     | succ i=> simpa using (ih.1 hr) i
    ·cases h
   ·cases h
  ·intro h
   have h0:=h 0
   have hr:trim r=[]:=ih.2 fun i=> by simpa using h (i+1)
   simp only [trim,hr]
   simp at h0
   simp [h0]
theorem Z1g(x:Int)(r:List Int):trim (x ::r)=if trim r=[]/\x=0 then [] else x ::trim r:=by
 simp only [trim]
 split
 ·rename_i h
  simp only [h]
  split <;> simp_all
 ·rename_i h
  simp [h]
theorem Z8P:∀ (a b:List Int),trim a=trim b↔∀ i:Nat,a.getD i 0=b.getD i 0
 | [],b=> by
  rw [show trim []=[] from rfl,eq_comm,Z34]
  simp [eq_comm]
 | x ::r,[]=> by
  rw [show trim []=[] from rfl,Z34]
  simp
 | x ::r,y ::s=> by
  have ih:=Z8P r s
  constructor
  ·intro h i
   have key:x=y/\trim r=trim s:=by
    rw [Z1g,Z1g] at h
    split at h <;> split at h <;> simp_all
   cases i with
   | zero=> simpa using key.1
   | succ i=> simpa using ih.1 key.2 i
  ·intro h
   have h0:x=y:=by simpa using h 0
   have hr:trim r=trim s:=ih.2 fun i=> by simpa using h (i+1)
   rw [Z1g,Z1g,h0,hr]
def Zt1(l:List Tree):Prop:=∀ x∈l,x.kind=0->x=Tree.nil
theorem Jh(x:Tree)(r:List Tree):ZX (x ::r)=if ZX r=[]/\x.kind=0 then [] else x ::ZX r:=by
 simp only [ZX]
 split
 ·rename_i h
  simp only [h]
  split <;> simp_all
 ·rename_i h
  simp [h]
theorem Z2c:∀ (l:List Tree),Zt1 l->(ZX l=[]↔∀ i:Nat,l.getD i Tree.nil=Tree.nil)
 | [],_=> by simp [ZX]
 | x ::r,hn=> by
  have ih:=Z2c r (fun y hy=> hn y (Q4 _ hy))
  have hx:=hn x (Q5 ..)
  rw [Jh]
  constructor
  ·intro h i
   split at h
   ·rename_i hc
    cases i with
    | zero=> simpa using hx hc.2
    | succ i=> simpa using (ih.1 hc.1) i
   ·cases h
  ·intro h
   have h0:x=Tree.nil:=by simpa using h 0
   have hr:ZX r=[]:=ih.2 fun i=> by simpa using h (i+1)
   rw [if_pos ⟨hr,by rw [h0];rfl⟩]
theorem Z65:∀ (a b:List Tree),Zt1 a->Zt1 b->(ZX a=ZX b↔∀ i:Nat,a.getD i Tree.nil=b.getD i Tree.nil)
 | [],b,_,hb=> by
  rw [show ZX []=[] from rfl,eq_comm,Z2c b hb]
  simp [eq_comm]
 | x ::r,[],ha,_=> by
  rw [show ZX []=[] from rfl,Z2c _ ha]
  simp
 | x ::r,y ::s,ha,hb=> by
  have ih:=Z65 r s (fun y hy=> ha y (Q4 _ hy)) (fun y hy=> hb y (Q4 _ hy))
  have hx:=ha x (Q5 ..)
  have hy:=hb y (Q5 ..)
  constructor
  ·intro h i
   have key:x=y/\ZX r=ZX s:=by
    rw [Jh,Jh] at h
    split at h <;> split at h
    ·rename_i h1 h2
     exact ⟨(hx h1.2).trans (hy h2.2).symm,h1.1.trans h2.1.symm⟩
    ·cases h
    ·cases h
    ·simpa using h
   cases i with
   | zero=> simpa using key.1
   | succ i=> simpa using ih.1 key.2 i
  ·intro h
   have h0:x=y:=by simpa using h 0
   have hr:ZX r=ZX s:=ih.2 fun i=> by simpa using h (i+1)
   rw [Jh,Jh,h0,hr]
theorem Zdl:Z4 Tree.nil=Tree.nil:=by simp [Tree.nil,Z4]
theorem Z5U(t:Tree):(Z4 t).kind=t.kind:=by
 obtain ⟨k,w,ks⟩:=t
 simp only [Z4]
 split
 ·rename_i h;simp [h,Tree.nil]
 ·split
  ·rename_i h;simp [h]
  ·try rfl
theorem Z5W:∀ (l:List Tree),Zt1 (ZY l)
 | []=> by intro x hx;simp [ZY] at hx
 | t ::r=> by
  intro x hx hk
  simp only [ZY,Qc] at hx
  rcases hx with rfl | hx
  ·rw [Z5U] at hk
   obtain ⟨k,w,ks⟩:=t
   simp only [Tree.kind_mk] at hk
   simp [Z4,hk]
  ·exact Z5W r x hx hk
theorem Z0s:∀ (l:List Tree) (i:Nat),(ZY l).getD i Tree.nil=Z4 (l.getD i Tree.nil)
 | [],i=> by simp [ZY,Zdl]
 | t ::r,0=> by simp [ZY]
 | t ::r,i+1=> by simpa [ZY] using Z0s r i
theorem ZeV(a b:List Tree):ZY a=ZY b↔a.length=b.length/\∀ i:Nat,Z4 (a.getD i Tree.nil)=Z4 (b.getD i Tree.nil):=by
 constructor
 ·intro h
  refine ⟨by rw [<-Z0r a,h,Z0r],fun i=> ?_⟩
  rw [<-Z0s,h,Z0s]
 ·rintro ⟨hl,h⟩
  apply Kl (by rw [Z0r,Z0r,hl])
  intro i h1 h2
  have:=h i
  rw [<-Z0s,<-Z0s] at this
  simpa [List.getD,h1,h2] using this
theorem Jz(a b:Tree):Z4 a=Z4 b↔a.kind=b.kind/\(a.kind=0\/(if a.kind=1 then (∀ i:Nat,a.words.getD i 0=b.words.getD i 0) else a.words=b.words/\a.kids.length=b.kids.length)/\∀ i:Nat,Z4 (a.kids.getD i Tree.nil)=Z4 (b.kids.getD i Tree.nil)):=by
 obtain ⟨k,w,ks⟩:=a
 obtain ⟨k',w',ks'⟩:=b
 show _↔k=k'/\(k=0\/(if k=1 then (∀ i:Nat,w.getD i 0=w'.getD i 0) else w=w'/\ks.length=ks'.length)/\∀ i:Nat,Z4 (ks.getD i Tree.nil)=Z4 (ks'.getD i Tree.nil))
 by_cases hk:k=k'
 ·subst hk
  simp only [true_and]
  by_cases h0:k=0
  ·simp [Z4,h0]
  ·by_cases h1:k=1
   ·subst h1
    simp only [Z4,if_neg h0,if_true,Tree.mk.injEq,true_and,Z8P,Z65 _ _ (Z5W _) (Z5W _),Z0s]
    simp
   ·simp only [Z4,if_neg h0,if_neg h1,Tree.mk.injEq,true_and,ZeV]
    constructor
    ·rintro ⟨h2,h3,h4⟩;exact .inr ⟨⟨h2,h3⟩,h4⟩
    ·rintro (h | ⟨⟨h2,h3⟩,h4⟩)
     ·exact absurd h h0
     ·exact ⟨h2,h3,h4⟩
 ·simp only [hk,false_and,iff_false]
  intro h
  have:=congrArg Tree.kind h
  rw [Z5U,Z5U] at this
  exact hk this
theorem ZfM{a b:Tree}(h:Z4 a=Z4 b)(h0:a.kind≠0)(i:Nat):a.words.getD i 0=b.words.getD i 0:=by
 obtain ⟨_,h2⟩:=(Jz a b).1 h
 rcases h2 with h2 | ⟨h2,_⟩
 ·exact absurd h2 h0
 ·split at h2
  ·exact h2 i
  ·rw [h2.1]
theorem ZiL{a b:Tree}(h:Z4 a=Z4 b)(h0:a.kind≠0)(i:Nat):Z4 (a.kids.getD i Tree.nil)=Z4 (b.kids.getD i Tree.nil):=by
 obtain ⟨_,h2⟩:=(Jz a b).1 h
 rcases h2 with h2 | ⟨_,h2⟩
 ·exact absurd h2 h0
 ·exact h2 i
theorem Zcc(t:Tree)(i:Int):Zm (Jt t i)<=Zm t/\(i < t.kids.length->0<=i->Zm (Jt t i) < Zm t):=by
 obtain ⟨k,w,ks⟩:=t
 unfold Jt
 have h1:Zm Tree.nil=1:=by simp [Tree.nil,Zm,Z6]
 split
 ·simp only [h1,Zm];omega
 ·simp only [Tree.kids_mk]
  by_cases hi:i.toNat < ks.length
  ·have:=Z00 hi
   simp only [Zm];omega
  ·rw [List.getD,Qz (by omega)]
   simp only [Option.getD_none,h1,Zm];omega
theorem Z9N:Contract Try.prog cfg 106 Je:=by
 refine Zsh Zwi ZmH c91 ?_
 rintro N a b _ hp hN
 have la:a.words.length+a.kids.length < Zm a:=by obtain ⟨k,w,ks⟩:=a;have:=Zs ks;simp only [Zm,Tree.words_mk,Tree.kids_mk];omega
 have lb:b.words.length+b.kids.length < Zm b:=by obtain ⟨k,w,ks⟩:=b;have:=Zs ks;simp only [Zm,Tree.words_mk,Tree.kids_mk];omega
 simp only [Z0S,Zdo] at hp hN
 have no:¬Z4 a=Z4 b->Yy cfg Try.f106.ntmps Try.f106.results.toList (Z5J (a,b,())) [] .ret (⟨[(4,.c (.bool false))],[],[]⟩:LSt U):=by
  intro h
  have e:ZZ (Z4 a) (Z4 b)=false:=YE.2 h
  simp only [Z5J,e]
  exact ⟨⟨rfl,⟨rfl,trivial⟩,trivial⟩,trivial⟩
 refine Zy9 N _ _ _ ?_;(try simp only [vcT,forall_eq])
 (simp only [vcS]);(try simp only [vcT])
 refine ⟨fun hc=> ?_,fun hc=> ?_⟩
 ·have e:ZZ (Z4 a) (Z4 b)=(a.kind==b.kind):=by
   by_cases hk:a.kind=b.kind
   ·have h0:a.kind=0:=by rcases hc with h | h;exact absurd hk h;exact h
    rw [Jk.2 ((Jz a b).2 ⟨hk,.inl h0⟩)]
    simp [hk]
   ·rw [YE.2 (fun h=> hk ((Jz a b).1 h).1)]
    simp [hk]
  simp only [Z5J,e]
  exact ⟨⟨rfl,⟨rfl,trivial⟩,trivial⟩,trivial⟩
 ·refine ⟨fun _=> by simp only [Zde];omega,fun h h'=> ⟨h,h'⟩,fun hd=> no ?_,fun hd=> ?_⟩
  ·intro h
   obtain ⟨_,h2⟩:=(Jz a b).1 h
   rcases h2 with h2 | ⟨h2,_⟩
   ·exact hc.2 h2
   ·rw [if_neg hd.1] at h2
    rcases hd.2 with h3 | h3
    ·exact h3 (by omega)
    ·exact h3 h2.1
  ·refine Z9 (ι:=Int) (fun p=> Z5a a b p) (fun p=> 0<=p/\p<=2000000000000/\∀ j:Nat,j < p.toNat->a.words.getD j 0=b.words.getD j 0) (fun p=> (2000000000000 - p).toNat) 0 rfl ⟨by omega,by omega,fun j hj=> by simp at hj⟩ ?_
   rintro i ⟨h1,h2,h3⟩
   refine Znp N _ _ _ _ _ ?_;(try simp only [vcT,forall_eq])
   (simp only [vcS]);(try simp only [vcT])
   have wa:∀ t:Tree,Jg t i=t.words.getD i.toNat 0:=fun t=> by unfold Jg;rw [if_neg (by omega)]
   refine ⟨fun hi=> ⟨trivial,trivial,fun hn=> no fun h=> hn ?_,fun he=> ⟨?_,?_⟩⟩,fun hi=> ?_⟩
   ·rw [wa,wa]
    exact ZfM h hc.2 _
   ·unfold InR;split at hi <;> omega
   ·refine ⟨i+1,rfl,⟨by omega,by split at hi <;> omega,fun j hj=> ?_⟩,by split at hi <;> omega⟩
    by_cases hj':j < i.toNat
    ·exact h3 j hj'
    ·have:j=i.toNat:=by omega
     rw [this,<-wa,<-wa]
     exact he
   ·have hw:∀ j:Nat,a.words.getD j 0=b.words.getD j 0:=fun j=> by
     by_cases hj:j < i.toNat
     ·exact h3 j hj
     ·split at hi <;> rw [List.getD,List.getD,Qz (by omega),Qz (by omega)]
    refine Z9 (ι:=Int) (fun p=> Z59 a b p) (fun p=> 0<=p/\p<=2000000000000/\∀ j:Nat,j < p.toNat->Z4 (a.kids.getD j Tree.nil)=Z4 (b.kids.getD j Tree.nil)) (fun p=> (2000000000000 - p).toNat) 0 rfl ⟨by omega,by omega,fun j hj=> by simp at hj⟩ ?_
    rintro q ⟨h5,h6,h7⟩
    refine Zno N _ _ _ _ _ ?_;(try simp only [vcT,forall_eq])
    (simp only [vcS]);(try simp only [vcT])
    have ka:∀ t:Tree,Jt t q=t.kids.getD q.toNat Tree.nil:=fun t=> by unfold Jt;rw [if_neg (by omega)]
    have ma:=Zcc a q
    have mb:=Zcc b q
    try (simp only [Tree.eta,Edit.eta,Tree.kind_mk,Tree.words_mk,Tree.kids_mk])
    refine ⟨fun hq=> ⟨trivial,trivial,?_,?_,fun hn=> no fun h=> ?_,fun he=> ⟨?_,?_⟩⟩,fun hq=> ?_⟩
    ·simp only [Z0S];omega
    ·simp only [Zdo];split at hq <;> omega
    ·rw [YE] at hn
     apply hn
     rw [ka,ka]
     exact ZiL h hc.2 _
    ·unfold InR;split at hq <;> omega
    ·refine ⟨q+1,rfl,⟨by omega,by split at hq <;> omega,fun j hj=> ?_⟩,by split at hq <;> omega⟩
     by_cases hj':j < q.toNat
     ·exact h7 j hj'
     ·have:j=q.toNat:=by omega
      rw [this,<-ka,<-ka]
      exact Jk.1 he
    ·have hk:∀ j:Nat,Z4 (a.kids.getD j Tree.nil)=Z4 (b.kids.getD j Tree.nil):=fun j=> by
      by_cases hj:j < q.toNat
      ·exact h7 j hj
      ·split at hq <;> rw [List.getD,List.getD,Qz (by omega),Qz (by omega)]
     have e:ZZ (Z4 a) (Z4 b)=true:=by
      rw [Jk,Jz]
      refine ⟨hc.1,.inr ⟨?_,hk⟩⟩
      split
      ·exact hw
      ·rename_i h1
       rcases hd with hd | hd
       ·exact absurd hd h1
       ·exact ⟨hd.2,by have:=hd.1;omega⟩
     simp only [Z5J,e]
     exact ⟨⟨rfl,⟨rfl,trivial⟩,trivial⟩,trivial⟩
mutual
theorem Z3c:∀ (t:Tree) (d l:Int),0<=ZM t d l->(Zm t:Int)+ZM t d l<=l
 | .mk _ w ks,d,l,h=> by
  simp only [ZM] at h ⊢
  split at h
  ·omega
  ·rename_i hc
   rw [if_neg hc]
   have:=Z2g ks (d - 1) (l - 1 - w.length) h
   simp only [Zm]
   omega
theorem Z2g:∀ (ks:List Tree) (d l:Int),0<=Zr ks d l->(Z6 ks:Int)+Zr ks d l<=l
 | [],d,l,h=> by simp [Zr,Z6]
 | t ::r,d,l,h=> by
  simp only [Zr] at h ⊢
  split at h
  ·omega
  ·rename_i hc
   rw [if_neg hc]
   have h1:=Z2g r d (ZM t d l) h
   have h3:=(Z08 r d (ZM t d l) (Ym t d l).1).2
   have h2:=Z3c t d l (by omega)
   simp only [Z6]
   omega
end
theorem Zb{n k:Nat}{rs:List ResultVar}{b b':Bool}(hr:rs=[ResultVar.tmp k])(h:b=b'):Yy cfg n rs (.c (.bool b')) [] .ret (⟨[(k,.c (.bool b))],[],[]⟩:LSt U):=by
 subst hr h
 have hk:Nat.beq k k=true:=K5 k
 simp [Yy,ZwG,ZdS,ZdR,Z5I,Z86,LSt.toF,ZcG,hk,ZbG,Z2h,Yw,JE,leR,leL,leC,ZmV]
theorem Yt{n k:Nat}{rs:List ResultVar}{K:IntKind}{b b':Int}(hr:rs=[ResultVar.tmp k])(h:b=b'):Yy cfg n rs (.c (.int K b')) [] .ret (⟨[(k,.c (.int K b))],[],[]⟩:LSt U):=by
 subst hr h
 have hk:Nat.beq k k=true:=K5 k
 simp [Yy,ZwG,ZdS,ZdR,Z5I,Z86,LSt.toF,ZcG,hk,ZbG,Z2h,Yw,JE,leR,leL,leC,ZmV]
theorem Zwk:Contract Try.prog cfg 116 Z6m:=by
 refine Zsc ?_
 intro c _ _
 refine Zy0 _ _ ?_;(try simp only [vcT,forall_eq])
 (simp only [vcS]);(try simp only [vcT])
 refine ⟨fun h=> Yt rfl ?_,fun h=> ⟨fun h=> Yt rfl ?_,fun h=> ⟨fun h=> Yt rfl ?_,fun h=> ⟨fun h=> Yt rfl ?_,fun h=> ⟨fun h=> Yt rfl ?_,fun h=> ⟨fun h=> Yt rfl ?_,fun h=> Yt rfl ?_⟩⟩⟩⟩⟩⟩ <;> simp only [wd] <;> simp [*]
theorem Zxr(c:Int): -1<=wd c/\wd c<=64:=by
 unfold wd
 repeat' split
 all_goals omega
theorem Zhy(n:Int)(h0:0<=n)(h1:n < 18446744073709551616):IntKind.wrap .u64 (Int.tdiv n 2)=n / 2:=by
 rw [XF h0]
 simp [IntKind.wrap,IntKind.signed,IntKind.bits]
 omega
theorem Zof{w:Nat}{n m:Int}(h:0<=n):(n / 2 < 2 ^ w)↔n < 2 ^ (w+1):=by
 have:(2:Int) ^ (w+1)=2 ^ w*2:=by rw [Km]
 omega
theorem c79:Contract Try.prog cfg 79 ZaP:=by
 refine Zvb Zwk ?_
 intro c n _ hp
 simp only [ZjJ] at hp
 have hw:=Zxr c
 refine Zz8 _ _ _ ?_;(try simp only [vcT,forall_eq])
 (simp only [vcS]);(try simp only [vcT])
 refine ⟨trivial,fun h=> Zb rfl ?_,fun h=> ?_⟩
 ·simp only [Zmw]
  simp
  omega
 ·refine Z9 (ι:=Int × Int) (fun p=> Z7b c n p.1 p.2) (fun p=> 0<=p.2/\p.2<=wd c/\0<=p.1/\p.1 < 18446744073709551616/\(n < 2 ^ (wd c).toNat↔p.1 < 2 ^ (wd c - p.2).toNat)) (fun p=> (wd c - p.2).toNat) (n,0) rfl ⟨by dsimp only;omega,by dsimp only;omega,by dsimp only;omega,by dsimp only;omega,by simp⟩ ?_
  rintro ⟨m,i⟩ ⟨h1,h2,h3,h4,h5⟩
  dsimp only at*
  refine ZqM _ _ _ _ _ _ ?_;(try simp only [vcT,forall_eq])
  (simp only [vcS]);(try simp only [vcT])
  refine ⟨fun hc=> ⟨by omega,by unfold InR;omega,(IntKind.wrap .u64 (Int.tdiv m 2),i+1),rfl,?_,by dsimp only;omega⟩,fun hc=> Zb rfl ?_⟩
  ·rw [Zhy m h3 h4]
   refine ⟨by dsimp only;omega,by dsimp only;omega,by dsimp only;omega,by dsimp only;omega,?_⟩
   dsimp only
   rw [h5,show (wd c - i).toNat=(wd c - (i+1)).toNat+1 by omega]
   exact (Zof (m:=0) h3).symm
  ·have e:(wd c - i).toNat=0:=by omega
   rw [e] at h5
   simp only [Zmw]
   rw [Qx]
   simp
   omega
theorem ZnE{t:Tree}(h:rng t){i:Nat}(hi:i < t.words.length):0<=t.words.getD i 0/\t.words.getD i 0 < 18446744073709551616:=by
 obtain ⟨k,w,ks⟩:=t
 simp only [rng] at h
 simp only [Tree.words_mk] at*
 have hg:w.getD i 0∈w:=by
  simp only [List.getD,Q0 hi,X8]
  exact XZ hi
 exact h.2.1 _ hg
theorem Zg9{l:Int}{ks:List Tree}{i:Int}{d:Int}(h0:0<=i)(h:i < ks.length):
  YM l (ks.drop i.toNat) d=((Zff l (ks.getD i.toNat Tree.nil) && Zu (ks.getD i.toNat Tree.nil) d) && YM l (ks.drop (i+1).toNat) d):=by
 have e:(i+1).toNat=i.toNat+1:=by omega
 rw [QL (by omega),e]
 simp only [YM,List.getD,Q0 (show i.toNat < ks.length by omega),X8]
theorem Zg5:∀ {ks:List Tree} {i:Nat},YU ks->i < ks.length->rng (ks.getD i Tree.nil)
 | t ::_,0,h,_=> by simp only [YU] at h;exact h.1
 | _ ::r,i+1,h,hi=> by simp only [YU] at h;exact Zg5 (ks:=r) (i:=i) h.2 (by simpa using hi)
theorem Zg6{y:Tree}{d:Int}(h:Zu y d=true)(hk:y.kind=10):y.words.length=1/\y.kids.length=0:=by
 obtain ⟨k,w,ks⟩:=y
 simp only [Tree.kind_mk] at hk
 subst hk
 simpa [Zu] using h
theorem c37:Contract Try.prog cfg 37 Z7Z:=by
 refine Zvq c79 ?_
 rintro N ⟨k,ws,ks⟩ d _ hp hN
 simp only [Z6J,mu117,Zm,rng] at hp hN
 refine Zzs N _ _ _ ?_;(try simp only [vcT,forall_eq])
 (simp only [vcS]);(try simp only [vcT])
 try (simp only [Tree.eta,Edit.eta,Tree.kind_mk,Tree.words_mk,Tree.kids_mk])
 refine ⟨fun h0=> Zb rfl ?_,fun h0=> ⟨fun h10=> Zb rfl ?_,fun h10=> ⟨fun a b=> ⟨a,b⟩,fun hc=> Zb rfl ?_,fun hc=> ⟨fun hw=> Zb rfl ?_,fun hw=> ?_⟩⟩⟩⟩
 ·simp only [Zu,if_pos h0]
  rw [Qx];(simp only [vcS]);omega
 ·simp only [Zu,if_neg h0,if_pos h10]
  rw [Qx];(simp only [vcS]);omega
 ·simp only [Zu,if_neg h0,if_neg h10]
  split
  ·try rfl
  ·split
   ·rw [decide_eq_false (by omega)];try rfl
   ·have:¬(2<=k/\k<=9/\ws.length=0/\ks.length < 1048576):=by omega
    rw [decide_eq_false this];try rfl
 ·simp only [Zu,if_neg h0,if_neg h10]
  rw [if_neg (by omega),if_neg (by omega)]
  have:¬(2<=k/\k<=9/\ws.length=0/\ks.length < 1048576):=by omega
  rw [decide_eq_false this];try rfl
 ·have hb:Zu (.mk k ws ks) d=YM k ks (d - 1):=by
   simp only [Zu,if_neg h0,if_neg h10]
   rw [if_neg (by omega)]
   split
   ·rename_i h1
    rw [decide_eq_true (by omega),h1];try rfl
   ·have:2<=k/\k<=9/\ws.length=0/\ks.length < 1048576:=by omega
    rw [decide_eq_true this];try rfl
  refine Z9 (ι:=Int) (fun p=> Z7r (.mk k ws ks) d p) (fun p=> 0<=p/\p<=ks.length/\Zu (.mk k ws ks) d=YM k (ks.drop p.toNat) (d - 1)) (fun p=> ((ks.length:Int) - p).toNat) 0 rfl ⟨by omega,by omega,by simpa using hb⟩ ?_
  rintro i ⟨h1,h2,h3⟩
  refine Zr8 N _ _ _ _ _ ?_;(try simp only [vcT,forall_eq])
  (simp only [vcS]);(try simp only [vcT])
  try (simp only [Tree.eta,Edit.eta,Tree.kind_mk,Tree.words_mk,Tree.kids_mk])
  refine ⟨fun hi=> ?_,fun hi=> ?_⟩
  ·have hd:=Zg9 (l:=k) (d:=d - 1) h1 hi
   have hm:=Z00 (ks:=ks) (i:=i.toNat) (by omega)
   have hr:=Zg5 (i:=i.toNat) hp.2.1.2.2 (by omega)
   rw [hd] at h3
   have hlen:=Zs ks
   generalize ks.getD i.toNat Tree.nil=y at*
   have hpre:Z6J (y,d - 1,()):=⟨by dsimp only;omega,hr,by dsimp only;omega,by dsimp only;omega⟩
   have hmu:mu117 (y,d - 1,()) < N:=by simp only [mu117];omega
   have hin:InR (d - 1):=by unfold InR;omega
   refine ⟨⟨h1,hi⟩,hin,hpre,hmu,fun hf=> Zb rfl ?_,fun hf=> ?_⟩
   ·rw [h3,hf];simp
   ·have hdata:((bif decide (2<=k) then decide (k<=7) else false)=(y.kind==10))↔((2<=k/\k<=7)↔y.kind=10):=by
     rw [Qx];(simp only [vcS])
    have hat:=Zg6 hf
    have hkb:Zff k y=true↔(((2<=k/\k<=7)↔y.kind=10)/\(¬k=9\/y.kind=1))/\((¬2<=k\/¬k<=7)\/Zmw (k - 2) (y.words.getD 0 0)=true):=by
     unfold Zff
     by_cases hk:2<=k/\k<=7
     ·rw [if_pos hk]
      (simp only [vcS])
      constructor
      ·rintro ⟨h4,h5⟩;exact ⟨⟨by omega,by omega⟩,.inr h5⟩
      ·rintro ⟨⟨h4,_⟩,h5⟩
       have:=hat (by omega)
       exact ⟨by omega,by rcases h5 with h5 | h5;omega;exact h5⟩
     ·rw [if_neg hk]
      by_cases h9:k=9
      ·rw [if_pos h9]
       (simp only [vcS])
       constructor
       ·intro h4;exact ⟨⟨by omega,by omega⟩,.inl (by omega)⟩
       ·rintro ⟨⟨_,h4⟩,_⟩;omega
      ·rw [if_neg h9]
       (simp only [vcS])
       constructor
       ·intro h4;exact ⟨⟨by omega,by omega⟩,.inl (by omega)⟩
       ·rintro ⟨⟨h4,_⟩,_⟩;omega
    have hone:∀ (h4:(((bif decide (2<=k) then decide (k<=7) else false)=(y.kind==10)/\(¬k=9\/y.kind=1))/\2<=k/\k<=7)),y.words.length=1:=fun h4=> (hat ((hdata.1 h4.1.1).1 h4.2)).1
    simp only [Int.toNat_zero]
    refine ⟨fun a b=> ⟨a,b⟩,fun h4=> by unfold InR;omega,fun h4=> by have:=hone h4;omega,fun h4=> ZnE hr (by have:=hone h4;omega),fun a b=> ⟨a,b⟩,fun h4=> Zb rfl ?_,fun h4=> ⟨by unfold InR;omega,i+1,rfl,⟨by omega,by omega,?_⟩,by omega⟩⟩
    ·have hno:Zff k y=false:=by
      cases hkk:Zff k y with
      | false=> rfl
      | true=>
       exfalso
       obtain ⟨h5,h6⟩:=hkb.1 hkk
       rcases h4 with h4 | ⟨h4,h7⟩
       ·rcases h4 with h4 | h4
        ·exact h4 (hdata.2 h5.1)
        ·omega
       ·rcases h6 with h6 | h6
        ·omega
        ·rw [h7] at h6;cases h6
     rw [h3,hno];try rfl
    ·rw [h3,hkb.2 ⟨⟨hdata.1 h4.1.1,h4.1.2⟩,h4.2⟩,hf];try rfl
  ·rw [Qw (by omega)] at h3
   simp only [YM] at h3
   exact Zb rfl h3.symm
end Go.AM.Ytpjenobkibfpcaa
