import Derived.Test.YtpjenobkibfpcaaCmZ
import Derived.Test.YtpjenobkibfpcaaChecked
import Derived.Test.YtpjenobkibfpcaaRows
import Derived.Test.YtpjenobkibfpcaaCmX
import Derived.Test.YtpjenobkibfpcaaCmXE
import Derived.ProofKit
import Derived.Test.YtpjenobkibfpcaaKD07
set_option linter.unusedSimpArgs false
set_option linter.unusedVariables false
namespace Go.AM.Ytpjenobkibfpcaa
open Go.AM Go.Proofs
def el:Ty->TypeId
 | .u64=> 40
 | .u8=> 5
 | .int=> 3
 | .tree=> 25
 | .wedit=> 42
 | .edit=> 31
 | .kid=> 84
 | .op=> 82
 | .piece=> 150
 | .unit=> 164
 | .pair=> 166
 | .step=> 58
 | .deed=> 70
def tb:Tables U:=
 {el:=el
  sl:=[(22,.u64),(23,.tree),(26,.step),(27,.wedit),(28,.kid),(29,.op),(64,.edit),(94,.u8),(146,.piece),(153,.int),(158,.pair),(161,.unit)]
  var:=[(2,false,[.int .i64 0]),
   (3,false,[.int .i64 0]),
   (4,false,[.bool false]),
   (5,false,[.int .u8 0]),
   (6,false,[.int .u8 0]),
   (7,true,[.int .i64 0,.int .i64 0,.bool false,.int .u8 0]),
   (8,true,[.int .i64 0,.int .i64 0,.bool false,.int .u8 0]),
   (12,false,[.int .u64 0]),
   (15,false,[.nilp]),
   (16,false,[.nilp]),
   (17,false,[.nilp]),
   (18,true,[.nilp]),
   (19,true,[.nilp]),
   (21,false,[.int .i32 0]),
   (22,false,[.nils]),
   (23,false,[.nils]),
   (24,true,[.int .i64 0,.nils,.nils]),
   (25,true,[.int .i64 0,.nils,.nils]),
   (26,false,[.nils]),
   (27,false,[.nils]),
   (28,false,[.nils]),
   (29,false,[.nils]),
   (30,true,[.int .i64 0,.int .i64 0,.nils,.nils,.int .i64 0,.nils,.nils,.nils,.nils,.int .i64 0,.nils]),
   (31,true,[.int .i64 0,.int .i64 0,.nils,.nils,.int .i64 0,.nils,.nils,.nils,.nils,.int .i64 0,.nils]),
   (40,false,[.int .u64 0]),
   (41,true,[.int .i64 0,.int .u8 0,.int .u64 0,.int .u64 0]),
   (42,true,[.int .i64 0,.int .u8 0,.int .u64 0,.int .u64 0]),
   (57,true,[.int .i64 0,.int .i64 0]),
   (58,true,[.int .i64 0,.int .i64 0]),
   (60,false,[.int .i64 0]),
   (64,false,[.nils]),
   (66,false,[.nilp]),
   (69,true,[.int .i64 0,.int .i64 0,.int .i64 0,.int .i64 0,.nils,.nils,.int .i64 0,.nils,.nils,.nils,.nils,.int .i64 0,.nils]),
   (70,true,[.int .i64 0,.int .i64 0,.int .i64 0,.int .i64 0,.nils,.nils,.int .i64 0,.nils,.nils,.nils,.nils,.int .i64 0,.nils]),
   (81,true,[.int .i64 0,.int .i64 0,.nils,.int .i64 0,.int .i64 0,.nils,.nils,.int .i64 0,.nils,.nils,.nils,.nils,.int .i64 0,.nils]),
   (82,true,[.int .i64 0,.int .i64 0,.nils,.int .i64 0,.int .i64 0,.nils,.nils,.int .i64 0,.nils,.nils,.nils,.nils,.int .i64 0,.nils]),
   (83,true,[.int .i64 0,.int .i64 0,.int .i64 0,.nils,.nils,.int .i64 0,.nils,.nils,.nils,.nils,.int .i64 0,.nils]),
   (84,true,[.int .i64 0,.int .i64 0,.int .i64 0,.nils,.nils,.int .i64 0,.nils,.nils,.nils,.nils,.int .i64 0,.nils]),
   (90,true,[.int .u8 0,.int .u8 0,.int .u8 0,.int .u8 0,.int .u8 0,.int .u8 0,.int .u8 0,.int .u8 0]),
   (94,false,[.nils]),
   (101,false,[.nilp]),
   (102,true,[.bool false,.bool false]),
   (103,true,[.bool false,.bool false]),
   (108,true,[.int .i64 0,.nils,.nils,.nils,.nils]),
   (109,true,[.int .i64 0,.nils,.nils,.nils,.nils]),
   (135,false,[.nilp]),
   (136,true,[.nils,.nils,.nils]),
   (137,true,[.nils,.nils,.nils]),
   (140,false,[.nilp]),
   (146,false,[.nils]),
   (149,true,[.int .i64 0,.int .i64 0,.int .i64 0,.nils,.int .i64 0,.int .i64 0,.nils,.nils,.int .i64 0,.nils,.nils,.nils,.nils,.int .i64 0,.nils,.int .i64 0,.int .i64 0,.nils,.int .i64 0,.int .i64 0,.nils,.nils,.int .i64 0,.nils,.nils,.nils,.nils,.int .i64 0,.nils]),
   (150,true,[.int .i64 0,.int .i64 0,.int .i64 0,.nils,.int .i64 0,.int .i64 0,.nils,.nils,.int .i64 0,.nils,.nils,.nils,.nils,.int .i64 0,.nils,.int .i64 0,.int .i64 0,.nils,.int .i64 0,.int .i64 0,.nils,.nils,.int .i64 0,.nils,.nils,.nils,.nils,.int .i64 0,.nils]),
   (153,false,[.nils]),
   (158,false,[.nils]),
   (161,false,[.nils]),
   (163,true,[.int .i64 0,.int .i64 0,.int .i64 0,.nils,.nils,.int .i64 0,.int .i64 0,.nils,.nils,.int .i64 0,.nils,.nils,.nils,.nils,.int .i64 0,.nils,.bool false]),
   (164,true,[.int .i64 0,.int .i64 0,.int .i64 0,.nils,.nils,.int .i64 0,.int .i64 0,.nils,.nils,.int .i64 0,.nils,.nils,.nils,.nils,.int .i64 0,.nils,.bool false]),
   (165,true,[.int .i64 0,.int .i64 0,.int .i64 0,.int .i64 0,.nils,.nils,.int .i64 0,.int .i64 0,.nils,.nils,.int .i64 0,.nils,.nils,.nils,.nils,.int .i64 0,.nils,.bool false,.int .i64 0,.int .i64 0,.int .i64 0,.nils,.nils,.int .i64 0,.int .i64 0,.nils,.nils,.int .i64 0,.nils,.nils,.nils,.nils,.int .i64 0,.nils,.bool false]),
   (166,true,[.int .i64 0,.int .i64 0,.int .i64 0,.int .i64 0,.nils,.nils,.int .i64 0,.int .i64 0,.nils,.nils,.int .i64 0,.nils,.nils,.nils,.nils,.int .i64 0,.nils,.bool false,.int .i64 0,.int .i64 0,.int .i64 0,.nils,.nils,.int .i64 0,.int .i64 0,.nils,.nils,.int .i64 0,.nils,.nils,.nils,.nils,.int .i64 0,.nils,.bool false]),
   (176,false,[.nilp]),
   (177,true,[.nilp,.nils,.nils,.nils,.nils]),
   (178,true,[.nilp,.nils,.nils,.nils,.nils]),
   (186,false,[.nilp]),
   (187,true,[.nils,.int .i64 0]),
   (188,true,[.nils,.int .i64 0]),
   (206,true,[.int .i64 0,.int .i64 0,.int .i64 0,.int .i64 0,.int .i64 0,.int .i64 0]),
   (214,false,[.int .u32 0]),
   (215,false,[.int .u8 0]),
   (216,false,[.int .u8 0]),
   (218,false,[.nilp]),
   (219,false,[.int .i32 0]),
   (220,false,[.int .i32 0])]
  fld:=[(7,0,0,2),(7,1,1,3),(7,2,2,4),(7,3,3,6),(8,0,0,2),(8,1,1,3),(8,2,2,4),(8,3,3,6),(18,0,0,17),(19,0,0,17),(24,0,0,3),(24,1,1,22),(24,2,2,23),(25,0,0,3),(25,1,1,22),(25,2,2,23),(30,0,0,3),(30,1,1,25),(30,2,4,25),(30,3,7,27),(30,4,8,28),(30,5,9,3),(30,6,10,29),(31,0,0,3),(31,1,1,25),(31,2,4,25),(31,3,7,27),(31,4,8,28),(31,5,9,3),(31,6,10,29),(41,0,0,3),(41,1,1,5),(41,2,2,40),(41,3,3,40),(42,0,0,3),(42,1,1,5),(42,2,2,40),(42,3,3,40),(57,0,0,3),(57,1,1,3),(58,0,0,3),(58,1,1,3),(69,0,0,3),(69,1,1,3),(69,2,2,31),(70,0,0,3),(70,1,1,3),(70,2,2,31),(81,0,0,3),(81,1,1,3),(81,2,2,23),(81,3,3,31),(82,0,0,3),(82,1,1,3),(82,2,2,23),(82,3,3,31),(83,0,0,3),(83,1,1,31),(84,0,0,3),(84,1,1,31),(102,0,0,4),(102,1,1,4),(103,0,0,4),(103,1,1,4),(108,0,0,25),(108,1,3,64),(108,2,4,64),(109,0,0,25),(109,1,3,64),(109,2,4,64),(136,0,0,29),(136,1,1,23),(136,2,2,23),(137,0,0,29),(137,1,1,23),(137,2,2,23),(149,0,0,3),(149,1,1,82),(149,2,15,82),(150,0,0,3),(150,1,1,82),(150,2,15,82),(163,0,0,3),(163,1,1,3),(163,2,2,25),(163,3,5,31),(163,4,16,4),(164,0,0,3),(164,1,1,3),(164,2,2,25),(164,3,5,31),(164,4,16,4),(165,0,0,3),(165,1,1,164),(165,2,18,164),(166,0,0,3),(166,1,1,164),(166,2,18,164),(177,0,0,101),(177,1,1,29),(177,2,2,29),(177,3,3,23),(177,4,4,23),(178,0,0,101),(178,1,1,29),(178,2,2,29),(178,3,3,23),(178,4,4,23),(187,0,0,29),(187,1,1,3),(188,0,0,29),(188,1,1,3)]
  arr:=[(90,8,5),(206,6,3)]
  eqs:=[41,42,57,58] }
def cfg:Cfg U:=tb.cfg K
theorem ZxO:tb.var.all (Zr8 Try.prog)=true:=by kernel_rfl
theorem Zzb:tb.sl.all (slB Try.prog tb.el)=true:=by kernel_rfl
theorem Zyf:tb.fld.all (Zvz Try.prog)=true:=by kernel_rfl
theorem Zym:tb.arr.all (Zwg Try.prog)=true:=by kernel_rfl
theorem Zzc:∀ t,elB Try.prog K tb t=true:=by
 intro t
 cases t
 ·kernel_rfl
 ·kernel_rfl
 ·kernel_rfl
 ·kernel_rfl
 ·kernel_rfl
 ·kernel_rfl
 ·kernel_rfl
 ·kernel_rfl
 ·kernel_rfl
 ·kernel_rfl
 ·kernel_rfl
 ·kernel_rfl
 ·kernel_rfl
theorem Zn:CfgOk Try.prog cfg:=ZlI Zzg ZxO Zzb Zyf Zym Zzc (by kernel_rfl) (by kernel_rfl)
abbrev sU(T:Ty)(l:List (El T))(t:Tail):C U:= .slice (U:=U) T l t
noncomputable abbrev AW(K:Known U)(f:Func)(lv:Zf U)(p:List Nat):=awp cfg K (YD cfg K) f.ntmps lv (cd f p)
noncomputable abbrev SW(K:Known U)(f:Func)(lv:Zf U)(p:List Nat):=ZnJ cfg K (YD cfg K) f.ntmps lv (cd f p)
abbrev EQ(f:Func):=YN cfg f.ntmps f.results.toList
abbrev QT:=AExit->LSt U->Prop
abbrev NT:=LSt U->Prop
abbrev CT(k:FuncId)(s:Fs U):Prop:=Contract Try.prog cfg k s
abbrev xB:=@AExit.inBlock U
abbrev xT:=@AExit.then U
abbrev ci(x:Int):C U:= .int .i64 x
abbrev L2(e:List (Nat × V U))(m:List (Name × List (C U))):LSt U:=⟨e,m,[]⟩
abbrev pL(n:Nat):Nat × V U:=(n,.ptr (.loc n) 0)
abbrev pB(n:Nat)(b:Bool):Nat × V U:=(n,.c (.bool b))
abbrev pI(n:Nat)(x:Int):Nat × V U:=(n,.c (.int .i64 x))
def lvl(l:List (List Nat × List Nat)):Zf U:=fun i=> ((l.getD i ([],[])).1.map fun k=> (k,[]),(l.getD i ([],[])).2.map fun k=> (.loc k,[]))
abbrev zc0:List (C U):=[.int .u8 0,.int .u8 0,.int .u8 0,.int .u8 0,.int .u8 0,.int .u8 0,.int .u8 0,.int .u8 0]
abbrev zc1:List (C U):=[.int .i64 0,.int .i64 0,.nils,.nils,.int .i64 0,.nils,.nils,.nils,.nils,.int .i64 0,.nils]
end Go.AM.Ytpjenobkibfpcaa
namespace Go.AM.Ytpjenobkibfpcaa
open Go.AM Go.Proofs Go.Proofs.Ytpjenobkibfpcaa Go.ChangeShapes Go.WideShapes Go.RowKit
theorem own:ownKnob Try.prog.godebug=none:=by kernel_rfl
theorem Zsu:laidOutB Try.prog=true:=by kernel_rfl
theorem Zda:TreeTypes cfg:=⟨rfl,rfl,⟨_,rfl⟩,⟨_,rfl⟩,⟨_,rfl,rfl⟩,⟨_,_,rfl,rfl⟩,⟨_,_,rfl,rfl,rfl⟩,⟨_,_,rfl,rfl,rfl⟩⟩
theorem ZmD:EditTypes cfg:=⟨⟨_,rfl,rfl⟩,⟨_,_,rfl,rfl⟩,⟨_,_,rfl,rfl⟩,⟨_,_,rfl,rfl⟩,⟨_,_,rfl,rfl⟩,⟨_,rfl,rfl⟩,⟨_,_,rfl,rfl⟩,rfl,⟨_,rfl,rfl⟩,⟨_,_,rfl,rfl⟩,⟨_,_,rfl,rfl⟩,⟨_,_,rfl,rfl,rfl⟩,rfl,⟨_,rfl,rfl⟩,⟨_,_,rfl,rfl⟩,rfl,rfl,⟨_,_,rfl,rfl,rfl⟩,⟨_,_,rfl,rfl,rfl⟩,⟨_,_,rfl,rfl⟩,⟨_,_,rfl,rfl,rfl⟩⟩
theorem ZsJ{H:Type}{henc:TypeId × Value->H}:Zty henc Try.prog cfg (aEl .tree) 25 inT:=Zlo Zn rfl ⟨_,_,rfl⟩ (fun _ n cs h=> Zap Zn Zda n cs h)
theorem Zlp{H:Type}{henc:TypeId × Value->H}:Zty henc Try.prog cfg (aEl .edit) 31 inE:=Zlo Zn rfl ⟨_,_,rfl⟩ (fun _ n cs h=> Zrj Zn Zda ZmD n cs h)
end Go.AM.Ytpjenobkibfpcaa
namespace Go.AM.Ytpjenobkibfpcaa
open Go.AM Go.Proofs
noncomputable section
def ZiW:ArgL (Tree × Int × Int × Unit):=(.cons (aEl .tree) (.cons (JR .i64) (.cons (JR .i64) .nil)))
def Z71(a:Tree × Int × Int × Unit):Prop:=Z1Q a.1/\0<=a.2.1/\a.2.1<=4611686018427387904/\-1<=a.2.2.1/\a.2.2.1<=4611686018427387904
def Zmc(a:Tree × Int × Int × Unit):Nat:=Zi a.1
def Zgk(a:Tree × Int × Int × Unit):V U:= .c (ci (Zz a.1 a.2.1 a.2.2.1))
def Z3U:Fs U:=fs ZiW (fun a=> [Z71 a]) Zgk
def Zqj:ArgL (Tree × Unit):=(.cons (aEl .tree) .nil)
def ZjP(a:Tree × Unit):Prop:=Z1Q a.1
def ZtK(a:Tree × Unit):V U:= .c (.bool (decide (0<=Zz a.1 80 3000)))
def Zbb:Fs U:=fs Zqj (fun a=> [ZjP a]) ZtK
def Zqa:ArgL (List Int × List Int × Unit):=(.cons (aSl .u64) (.cons (aSl .u64) .nil))
def Zds(a:List Int × List Int × Unit):Prop:=a.1.length<=1000000000000
def Zgm(a:List Int × List Int × Unit):V U:= .c (.bool (decide (a.1=a.2.1)))
def Zb4:Fs U:=fs Zqa (fun a=> [Zds a]) Zgm
def Zlk:ArgL (List Int × Unit):=(.cons (aSl .u64) .nil)
def ZbS(a:List Int × Unit):Prop:=a.1.length<=1000000000000
def Zo2(a:List Int × Unit):V U:= .c (sU .u64 a.1 .unk)
def Z6K:Fs U:=fs Zlk (fun a=> [ZbS a]) Zo2
def Zlg:ArgL (Tree × Int × Unit):=(.cons (aEl .tree) (.cons (JR .i64) .nil))
def Z8n(a:Tree × Int × Unit):Prop:=True
def ZeC(a:Tree × Int × Unit):V U:= .c (.int .u64 (Jm a.1 a.2.1))
def Z1k:Fs U:=fs Zlg (fun a=> [Z8n a]) ZeC
def ZjA(a:Tree × Int × Unit):V U:= .agg (enc .tree (JA a.1 a.2.1))
def Z3j:Fs U:=fs Zlg (fun a=> [Z8n a]) ZjA
def Z0A(a:Tree × Unit):Prop:=Zi a.1<=1000000000000
def Zmd(a:Tree × Unit):Nat:=Zi a.1
def Zdm(a:Tree × Unit):V U:= .agg (enc .tree (Z2 a.1))
def JZ:Fs U:=fs Zqj (fun a=> [Z0A a]) Zdm
def Zj0:ArgL (Tree × Tree × Unit):=(.cons (aEl .tree) (.cons (aEl .tree) .nil))
def ZbH(a:Tree × Tree × Unit):Prop:=Zi a.1<=1000000000000
def Zmf(a:Tree × Tree × Unit):Nat:=Zi a.1
def Zdn(a:Tree × Tree × Unit):V U:= .c (.bool (ZT a.1 a.2.1))
def Zbe:Fs U:=fs Zj0 (fun a=> [ZbH a]) Zdn
def Z18(a:Tree × Tree × Unit):Prop:=Zi a.1<=1000000000000/\Zi a.2.1<=1000000000000
def ZdC(a:Tree × Tree × Unit):Nat:=Zi a.1+Zi a.2.1
def Z67(a:Tree × Tree × Unit):V U:= .c (.bool (ZT (Z2 a.1) (Z2 a.2.1)))
def Jh:Fs U:=fs Zj0 (fun a=> [Z18 a]) Z67
def Ziy(N:Nat):List (FuncId × Fs U):=(78,fs ZiW (fun a=> [Z71 a,Zmc a < N]) Zgk) ::[]
def Zsg:Zf U:=lvl [([1,2,3],[3]),([1,2,3],[3]),([1,2,3,19],[3]),([6],[]),([1,2,3,7],[3]),([1,2,3,7,28],[3]),([1,2,3,7],[3]),([1,2,3,7],[3]),([6],[])]
def Z7w(t:Tree)(d l x2 x7:Int):LSt U:=(L2 [pI 1 d,pI 2 x2,pL 3,pI 7 x7] [(.loc 3,(enc .tree t))])
abbrev A78(N:Nat)(p:List Nat):=AW (Z6 (Ziy N)) Try.f78 Zsg p
abbrev S78(N:Nat)(p:List Nat):=SW (Z6 (Ziy N)) Try.f78 Zsg p
theorem ZyM(N:Nat)(t:Tree)(d l:Int)(Q:QT)(h:let z0:=bif (d==0) then true else (decide (((((l - 1):Int) - (t.words.length:Int)):Int) < 0));((InR (l - 1))/\(InR (((l - 1):Int) - (t.words.length:Int)))/\((Tr ((!(d==0))=true))/\((d==0)=false->(!(d==0))=true)/\((z0=true->(Q .ret (L2 [pI 6 (-1)] [])))/\(z0=false->(Zo (A78 N [1,1,1,0,1,0,0]) (Z7w t d l (((l - 1):Int) - (t.words.length:Int)) 0) (xB 0 (S78 N [1,1,1,1] Q)))))))):
  A78 N [] (L2 [(0,.agg (enc .tree t)),pI 1 d,pI 2 l] []) Q:=
 Eq.mpr (by kernel_rfl) h
theorem ZqM(N:Nat)(t:Tree)(d l x2 x7:Int)(N0:NT)(Q:QT)(h:let z2:=t.kids.getD x7.toNat Tree.nil;let z1:=decide (x7 < (t.kids.length:Int));let z3:=bif z1 then (decide ((0:Int)<=x2)) else false;let z0:=Tree.mk (Tree.kind z2) (Tree.words z2) (Tree.kids z2);(Tr (z1=true))/\(Tr (z1=true))/\((z3=true->((0:Int)<=x7/\x7 < (t.kids.length:Int))/\(InR (d - 1))/\(Z71 (z0,(d - 1),x2,()))/\(Zmc (z0,(d - 1),x2,()) < N)/\((InR (x7+1))/\(N0 (Z7w t d l (Zz z0 (d - 1) x2) (x7+1)))))/\(z3=false->(Q .ret (L2 [pI 6 x2] []))))):
  A78 N [1,1,1,0,1,0,0] (Z7w t d l x2 x7) (xT N0 (xB 0 (S78 N [1,1,1,1] Q))):=
 Eq.mpr (by kernel_rfl) h
def Zwu(N:Nat)(t:Tree)(d l:Int):Prop:=AW (Z6 (Ziy N)) Try.f78 Zsg [] (Zm (ZiW.can (t,d,l,())) []) (EQ Try.f78 (Zgk (t,d,l,())) [])
theorem ZuR(hb:∀ (N:Nat) (t:Tree) (d:Int) (l:Int) (_:Unit),Z71 (t,d,l,())->Zmc (t,d,l,()) < N+1->Zwu N t d l):CT 78 Z3U:=
 Ja (μ:=Zmc) (l:=[]) Zn rfl trivial Zsg Try.func78 rfl rfl 3 (fun _=> rfl) (by decide) (fun N ⟨t,d,l,_⟩=> hb N t d l ())
def ZpD:List (FuncId × Fs U):=[(78,Z3U)]
def Zvi:Zf U:=lvl [([1],[1]),([2],[])]
abbrev A36(p:List Nat):=AW (Z6 ZpD) Try.f36 Zvi p
theorem Zz3(t:Tree)(Q:QT)(h:let z0:=Tree.mk t.kind t.words t.kids;((Z71 (z0,80,3000,()))/\(Q .ret (L2 [(2,.c (.bool (decide ((0:Int)<=(Zz z0 80 3000)))))] [])))):
  A36 [] (L2 [(0,.agg (enc .tree t))] []) Q:=
 Eq.mpr (by kernel_rfl) h
def ZwL(t:Tree):Prop:=AW (Z6 ZpD) Try.f36 Zvi [] (Zm (Zqj.can (t,())) []) (EQ Try.f36 (ZtK (t,())) [])
theorem Zv4(c78:CT 78 Z3U)(hb:∀ (t:Tree) (_:Unit),ZjP (t,())->ZwL t):CT 36 Zbb:=
 Z4 (l:=[(78,Z3U)]) Zn rfl (⟨c78,trivial⟩) Zvi Try.func36 rfl rfl 1 (fun _=> rfl) (by decide) (fun ⟨t,_⟩=> hb t ())
def Ziz:List (FuncId × Fs U):=[]
def Zsh:Zf U:=lvl [([0,1],[]),([0,1,10],[]),([4],[]),([0,1,5],[]),([0,1,5,14],[]),([0,1,5],[]),([0,1,5,25],[]),([4],[]),([4],[])]
def Z7x(a b:List Int)(x5:Int):LSt U:=(L2 [(0,.c (sU .u64 a .unk)),(1,.c (sU .u64 b .unk)),pI 5 x5] [])
abbrev A75(p:List Nat):=AW (Z6 Ziz) Try.f75 Zsh p
abbrev S75(p:List Nat):=SW (Z6 Ziz) Try.f75 Zsh p
theorem ZyO(a b:List Int)(Q:QT)(h:let z0:=((a.length:Int):Int) !=(b.length:Int);((z0=true->(Q .ret (L2 [pB 4 false] [])))/\(z0=false->(Zo (A75 [1,1,0,1,0,0]) (Z7x a b 0) (xB 0 (S75 [1,1,1] Q)))))):
  A75 [] (L2 [(0,.c (sU .u64 a .unk)),(1,.c (sU .u64 b .unk))] []) Q:=
 Eq.mpr (by kernel_rfl) h
theorem ZqN(a b:List Int)(x5:Int)(N0:NT)(Q:QT)(h:let z1:=decide (x5 < (a.length:Int));let z0:=((a.getD x5.toNat (0:Int)):Int) !=(b.getD x5.toNat (0:Int));((z1=true->((0:Int)<=x5/\x5 < (a.length:Int))/\((0:Int)<=x5/\x5 < (b.length:Int))/\((z0=true->(Q .ret (L2 [pB 4 false] [])))/\(z0=false->(InR (x5+1))/\(N0 (Z7x a b (x5+1))))))/\(z1=false->(Q .ret (L2 [pB 4 true] []))))):
  A75 [1,1,0,1,0,0] (Z7x a b x5) (xT N0 (xB 0 (S75 [1,1,1] Q))):=
 Eq.mpr (by kernel_rfl) h
def Zww(a b:List Int):Prop:=AW (Z6 Ziz) Try.f75 Zsh [] (Zm (Zqa.can (a,b,())) []) (EQ Try.f75 (Zgm (a,b,())) [])
theorem ZuS(hb:∀ (a:List Int) (b:List Int) (_:Unit),Zds (a,b,())->Zww a b):CT 75 Zb4:=
 Z4 (l:=[]) Zn rfl trivial Zsh Try.func75 rfl rfl 2 (fun _=> rfl) (by decide) (fun ⟨a,b,_⟩=> hb a b ())
def Zph:Zf U:=lvl [([0],[]),([0,4],[]),([2],[]),([2],[])]
abbrev ZzH(p:List Nat):=AW (Z6 Ziz) Try.f109 Zph p
theorem ZxH(l:List Int)(Q:QT)(h:(((l=[])->(Q .ret (L2 [(2,.c (.nils))] [])))/\(True->((([]:List Int).length+l.length)*8<=140737488355328)/\(Q .ret (L2 [(2,.c (sU .u64 (([]:List Int)++l) (.own (.e 2 0))))] []))))):
  ZzH [] (L2 [(0,.c (sU .u64 l .unk))] []) Q:=
 Eq.mpr (by kernel_rfl) h
def Ztr(l:List Int):Prop:=AW (Z6 Ziz) Try.f109 Zph [] (Zm (Zlk.can (l,())) []) (EQ Try.f109 (Zo2 (l,())) [])
theorem Zs9(hb:∀ (l:List Int) (_:Unit),ZbS (l,())->Ztr l):CT 109 Z6K:=
 Z4 (l:=[]) Zn rfl trivial Zph Try.func109 rfl rfl 1 (fun _=> rfl) (by decide) (fun ⟨l,_⟩=> hb l ())
def Zkb:Zf U:=lvl [([0,1],[]),([0,1,10],[]),([4],[]),([0,1,12,13],[]),([0,1,12,13,14],[]),([0,1,5,12,13],[]),([0,1,12,13,24],[]),([4],[]),([0,1,12,13],[]),([4],[])]
def Z5d(a b:List Int)(x13:Int):LSt U:=(L2 [(0,.c (sU .u64 a .unk)),(1,.c (sU .u64 b .unk)),pI 12 (a.length:Int),pI 13 x13] [])
abbrev ZwY(p:List Nat):=AW (Z6 Ziz) Try.f148 Zkb p
abbrev Zyx(p:List Nat):=SW (Z6 Ziz) Try.f148 Zkb p
theorem Zxy(a b:List Int)(Q:QT)(h:let z0:=((a.length:Int):Int) !=(b.length:Int);((z0=true->(Q .ret (L2 [pB 4 false] [])))/\(z0=false->(Zo (ZwY [1,1,0,1,0,0]) (Z5d a b 0) (xB 0 (Zyx [1,1,1] Q)))))):
  ZwY [] (L2 [(0,.c (sU .u64 a .unk)),(1,.c (sU .u64 b .unk))] []) Q:=
 Eq.mpr (by kernel_rfl) h
theorem Znh(a b:List Int)(x13:Int)(N0:NT)(Q:QT)(h:let z1:=decide (x13 < (a.length:Int));let z0:=((a.getD x13.toNat (0:Int)):Int) !=(b.getD x13.toNat (0:Int));((z1=true->(((0:Int)<=x13/\x13 < (a.length:Int))/\((0:Int)<=x13/\x13 < (b.length:Int))/\((z0=true->(Q .ret (L2 [pB 4 false] [])))/\(z0=false->(InR (x13+1))/\(N0 (Z5d a b (x13+1)))))))/\(z1=false->(Q .ret (L2 [pB 4 true] []))))):
  ZwY [1,1,0,1,0,0] (Z5d a b x13) (xT N0 (xB 0 (Zyx [1,1,1] Q))):=
 Eq.mpr (by kernel_rfl) h
def Zti(a b:List Int):Prop:=AW (Z6 Ziz) Try.f148 Zkb [] (Zm (Zqa.can (a,b,())) []) (EQ Try.f148 (Zgm (a,b,())) [])
theorem Zs2(hb:∀ (a:List Int) (b:List Int) (_:Unit),Zds (a,b,())->Zti a b):CT 148 Zb4:=
 Z4 (l:=[]) Zn rfl trivial Zkb Try.func148 rfl rfl 2 (fun _=> rfl) (by decide) (fun ⟨a,b,_⟩=> hb a b ())
def Zpb:Zf U:=lvl [([1,2],[2]),([1,2,13],[2]),([4],[]),([4],[])]
abbrev ZzD(p:List Nat):=AW (Z6 Ziz) Try.f149 Zpb p
theorem Zxx(t:Tree)(i:Int)(Q:QT)(h:let z1:= !(decide (i < 0));let z0:=bif (decide (i < 0)) then true else (decide (((t.words.length:Int):Int)<=i));((Tr (z1=true))/\(Tr (z1=true))/\(Tr (z1=true))/\(Tr (z1=true))/\((decide (i < 0))=false->z1=true)/\((z0=true->(Q .ret (L2 [(4,.c (.int .u64 0))] [])))/\(z0=false->((0:Int)<=i/\i < (t.words.length:Int))/\(Q .ret (L2 [(4,.c (.int .u64 (t.words.getD i.toNat (0:Int))))] [])))))):
  ZzD [] (L2 [(0,.agg (enc .tree t)),pI 1 i] []) Q:=
 Eq.mpr (by kernel_rfl) h
def Zth(t:Tree)(i:Int):Prop:=AW (Z6 Ziz) Try.f149 Zpb [] (Zm (Zlg.can (t,i,())) []) (EQ Try.f149 (ZeC (t,i,())) [])
theorem Zs1(hb:∀ (t:Tree) (i:Int) (_:Unit),Z8n (t,i,())->Zth t i):CT 149 Z1k:=
 Z4 (l:=[]) Zn rfl trivial Zpb Try.func149 rfl rfl 2 (fun _=> rfl) (by decide) (fun ⟨t,i,_⟩=> hb t i ())
def Zvb:Zf U:=lvl [([1,2,4],[2,4]),([1,2,4,13],[2,4]),([4],[4]),([4],[4])]
abbrev A91(p:List Nat):=AW (Z6 Ziz) Try.f91 Zvb p
theorem ZyJ(t:Tree)(i:Int)(Q:QT)(h:let z1:= !(decide (i < 0));let z0:=bif (decide (i < 0)) then true else (decide (((t.kids.length:Int):Int)<=i));((Tr (z1=true))/\(Tr (z1=true))/\(Tr (z1=true))/\(Tr (z1=true))/\((decide (i < 0))=false->z1=true)/\((z0=true->(Q .ret (L2 [pL 4] [(.loc 4,[ci 0,.nils,.nils])])))/\(z0=false->((0:Int)<=i/\i < (t.kids.length:Int))/\(Q .ret (L2 [pL 4] [(.loc 4,(enc .tree (t.kids.getD i.toNat Tree.nil)))])))))):
  A91 [] (L2 [(0,.agg (enc .tree t)),pI 1 i] []) Q:=
 Eq.mpr (by kernel_rfl) h
def Zwr(t:Tree)(i:Int):Prop:=AW (Z6 Ziz) Try.f91 Zvb [] (Zm (Zlg.can (t,i,())) []) (EQ Try.f91 (ZjA (t,i,())) [])
theorem ZuO(hb:∀ (t:Tree) (i:Int) (_:Unit),Z8n (t,i,())->Zwr t i):CT 91 Z3j:=
 Z4 (l:=[]) Zn rfl trivial Zvb Try.func91 rfl rfl 2 (fun _=> rfl) (by decide) (fun ⟨t,i,_⟩=> hb t i ())
def ZiA(N:Nat):List (FuncId × Fs U):=(71,fs Zqj (fun a=> [Z0A a,Zmd a < N]) Zdm) ::[(109,Z6K)]
def Zsi:Zf U:=fun i=> match i with
 | 0=> ([(1,[]),(2,[])],[(.loc 1,[]),(.loc 2,[])])
 | 1=> ([(1,[]),(2,[]),(8,[])],[(.loc 1,[]),(.loc 2,[])])
 | 2=> ([(2,[])],[(.loc 2,[])])
 | 3=> ([(1,[]),(2,[]),(3,[])],[(.loc 1,[]),(.loc 2,[]),(.loc 3,[])])
 | 4=> ([(1,[]),(2,[]),(3,[]),(17,[]),(18,[]),(19,[])],[(.loc 1,[]),(.loc 2,[]),(.loc 3,[.any,.any,.own .tree])])
 | 5=> ([(1,[]),(2,[]),(3,[]),(17,[]),(18,[]),(19,[]),(20,[])],[(.loc 1,[]),(.loc 2,[]),(.loc 3,[])])
 | 6=> ([(1,[]),(2,[]),(3,[]),(5,[]),(17,[]),(18,[]),(19,[])],[(.loc 1,[]),(.loc 2,[]),(.loc 3,[]),(.loc 5,[])])
 | 7=> ([(1,[]),(2,[]),(3,[]),(17,[]),(18,[]),(19,[])],[(.loc 1,[]),(.loc 2,[]),(.loc 3,[])])
 | 8=> ([(1,[]),(2,[]),(3,[]),(17,[]),(18,[]),(19,[])],[(.loc 1,[]),(.loc 2,[]),(.loc 3,[.any,.any,.own .tree])])
 | 9=> ([(2,[]),(3,[]),(33,[])],[(.loc 2,[]),(.loc 3,[.any,.any,.unk .tree])])
 | 10=> ([(2,[]),(3,[]),(33,[]),(48,[])],[(.loc 2,[]),(.loc 3,[.any,.any,.unk .tree])])
 | 11=> ([(2,[]),(3,[]),(33,[])],[(.loc 2,[]),(.loc 3,[.any,.any,.unk .tree])])
 | 12=> ([(2,[]),(3,[]),(33,[]),(48,[]),(72,[])],[(.loc 2,[]),(.loc 3,[])])
 | 13=> ([(2,[]),(3,[]),(33,[]),(48,[])],[(.loc 2,[]),(.loc 3,[.any,.any,.unk .tree])])
 | 14=> ([(2,[])],[(.loc 2,[])])
 | _=> ([],[])
def Z7A(t:Tree)(x19:Int)(ml3_2:List Tree):LSt U:=(L2 [pL 1,pL 2,pL 3,(17,.c (sU .tree t.kids .unk)),pI 18 (t.kids.length:Int),pI 19 x19] [(.loc 1,(enc .tree t)),(.loc 2,[ci 0,.nils,.nils]),(.loc 3,[ci t.kind,sU .u64 t.words .unk,sU .tree ml3_2 (.own (.l 3 2))])])
def Z7z(t:Tree)(ml3_2:List Tree)(ml3_1_a:List Int):LSt U:=(L2 [pL 2,pL 3,pB 33 ((t.kind:Int)==1)] [(.loc 2,[ci 0,.nils,.nils]),(.loc 3,[ci t.kind,sU .u64 ml3_1_a .unk,sU .tree ml3_2 .unk])])
def Z7y(t:Tree)(ml3_1_a:List Int)(ml3_2_b:List Tree):LSt U:=(L2 [pL 2,pL 3,pB 33 ((t.kind:Int)==1),(48,.c (.bool (bif (decide ((0:Int) < (ml3_1_a.length:Int))) then (((List.getD ml3_1_a (Int.toNat (((ml3_1_a.length:Int):Int) - 1)) (0:Int)):Int)==0) else false)))] [(.loc 2,[ci 0,.nils,.nils]),(.loc 3,[ci t.kind,sU .u64 ml3_1_a .unk,sU .tree ml3_2_b .unk])])
abbrev A71(N:Nat)(p:List Nat):=AW (Z6 (ZiA N)) Try.f71 Zsi p
abbrev S71(N:Nat)(p:List Nat):=SW (Z6 (ZiA N)) Try.f71 Zsi p
theorem ZyP(N:Nat)(t:Tree)(Q:QT)(h:(((t.kind==0)=true->(Q .ret (L2 [pL 2] [(.loc 2,[ci 0,.nils,.nils])])))/\((t.kind==0)=false->(ZbS (t.words,()))/\(Zo (A71 N [1,1,1,0,1,0,0]) (Z7A t 0 []) (xB 0 (S71 N [1,1,1,1] Q)))))):
  A71 N [] (L2 [(0,.agg (enc .tree t))] []) Q:=
 Eq.mpr (by kernel_rfl) h
theorem ZqQ(N:Nat)(t:Tree)(x19:Int)(ml3_2:List Tree)(N0:NT)(Q:QT)(h:∀ y_1,y_1=(t.kids.getD x19.toNat Tree.nil)->∀ y_2,y_2=y_1->∀ y_3,y_3=(Z2 y_2)->let z0:=decide (x19 < (t.kids.length:Int));((z0=true->((0:Int)<=x19/\x19 < (t.kids.length:Int))/\((Z0A (y_2,()))/\(Zmd (y_2,()) < N)/\((ml3_2.length+([y_3]).length)*56<=140737488355328)/\((InR (x19+1))/\(N0 (Z7A t (x19+1) (ml3_2++([y_3])))))))/\(z0=false->(((t.kind==1)=true->Zo (A71 N [1,1,1,1,0,1,0,0,0,0]) (Z7z t ml3_2 t.words) (xB 2 (S71 N [1,1,1,1,0,1,0,1] (S71 N [1,1,1,1,1] Q))))/\((t.kind==1)=false->(Q .ret (L2 [pL 2] [(.loc 2,[ci t.kind,sU .u64 t.words .unk,sU .tree ml3_2 .unk])]))))))):
  A71 N [1,1,1,0,1,0,0] (Z7A t x19 ml3_2) (xT N0 (xB 0 (S71 N [1,1,1,1] Q))):=
 Eq.mpr (by kernel_rfl) (h _ rfl _ (Zc _) _ (Zc _))
theorem ZqP(N:Nat)(t:Tree)(ml3_2:List Tree)(ml3_1_a:List Int)(N1:NT)(Q:QT)(h:let z0:=decide ((0:Int) < (ml3_1_a.length:Int));let z1:=bif z0 then (((List.getD ml3_1_a (Int.toNat (((ml3_1_a.length:Int):Int) - 1)) (0:Int)):Int)==0) else false;(Tr (z0=true))/\(Tr (z0=true))/\(Tr (z0=true))/\(Tr (z0=true))/\(z0=true->InR (((ml3_1_a.length:Int):Int) - 1))/\(Tr (z0=true))/\(Tr (z0=true))/\(z0=true->(0:Int)<=(((ml3_1_a.length:Int):Int) - 1)/\(((ml3_1_a.length:Int):Int) - 1) < (ml3_1_a.length:Int))/\(Tr (z0=true))/\(Tr (z0=true))/\(Tr (z0=true))/\((z1=true->(InR (((ml3_1_a.length:Int):Int) - 1))/\((0:Int)<=(((ml3_1_a.length:Int):Int) - 1)/\(((ml3_1_a.length:Int):Int) - 1)<=(ml3_1_a.length:Int))/\(N1 (Z7z t ml3_2 (List.take (Int.toNat (((ml3_1_a.length:Int):Int) - 1)) ml3_1_a))))/\(z1=false->Zo (A71 N [1,1,1,1,0,1,0,1,0,0]) (Z7y t ml3_1_a ml3_2) (xB 4 (S71 N [1,1,1,1,1] Q))))):
  A71 N [1,1,1,1,0,1,0,0,0,0] (Z7z t ml3_2 ml3_1_a) (xT N1 (xB 2 (S71 N [1,1,1,1,0,1,0,1] (S71 N [1,1,1,1,1] Q)))):=
 Eq.mpr (by kernel_rfl) h
theorem ZqO(N:Nat)(t:Tree)(ml3_1_a:List Int)(ml3_2_b:List Tree)(N2:NT)(Q:QT)(h:let z0:=decide ((0:Int) < (ml3_2_b.length:Int));let z1:=bif z0 then (((Tree.kind (List.getD ml3_2_b (Int.toNat (((ml3_2_b.length:Int):Int) - 1)) Tree.nil)):Int)==0) else false;(Tr (z0=true))/\(Tr (z0=true))/\(Tr (z0=true))/\(Tr (z0=true))/\(z0=true->InR (((ml3_2_b.length:Int):Int) - 1))/\(Tr (z0=true))/\(Tr (z0=true))/\(z0=true->(0:Int)<=(((ml3_2_b.length:Int):Int) - 1)/\(((ml3_2_b.length:Int):Int) - 1) < (ml3_2_b.length:Int))/\(Tr (z0=true))/\(Tr (z0=true))/\(Tr (z0=true))/\(Tr (z0=true))/\((z1=true->(InR (((ml3_2_b.length:Int):Int) - 1))/\((0:Int)<=(((ml3_2_b.length:Int):Int) - 1)/\(((ml3_2_b.length:Int):Int) - 1)<=(ml3_2_b.length:Int))/\(N2 (Z7y t ml3_1_a (List.take (Int.toNat (((ml3_2_b.length:Int):Int) - 1)) ml3_2_b))))/\(z1=false->(Q .ret (L2 [pL 2] [(.loc 2,[ci t.kind,sU .u64 ml3_1_a .unk,sU .tree ml3_2_b .unk])]))))):
  A71 N [1,1,1,1,0,1,0,1,0,0] (Z7y t ml3_1_a ml3_2_b) (xT N2 (xB 4 (S71 N [1,1,1,1,1] Q))):=
 Eq.mpr (by kernel_rfl) h
def Zwx(N:Nat)(t:Tree):Prop:=AW (Z6 (ZiA N)) Try.f71 Zsi [] (Zm (Zqj.can (t,())) []) (EQ Try.f71 (Zdm (t,())) [])
theorem ZuT(Zw6:CT 109 Z6K)(hb:∀ (N:Nat) (t:Tree) (_:Unit),Z0A (t,())->Zmd (t,()) < N+1->Zwx N t):CT 71 JZ:=
 Ja (μ:=Zmd) (l:=[(109,Z6K)]) Zn rfl (⟨Zw6,trivial⟩) Zsi Try.func71 rfl rfl 1 (fun _=> rfl) (by decide) (fun N ⟨t,_⟩=> hb N t ())
def ZiI(N:Nat):List (FuncId × Fs U):=(29,fs Zj0 (fun a=> [ZbH a,Zmf a < N]) Zdn) ::[(75,Zb4)]
def Zsq:Zf U:=lvl [([2,3],[2,3]),([2,3,27],[2,3]),([4],[]),([2,3,5],[2,3]),([2,3,5,32],[2,3]),([2,3,5],[2,3]),([2,3,5,46],[2,3]),([4],[]),([4],[])]
def Z7L(a b:Tree)(x5:Int):LSt U:=(L2 [pL 2,pL 3,pI 5 x5] [(.loc 2,(enc .tree a)),(.loc 3,(enc .tree b))])
abbrev A29(N:Nat)(p:List Nat):=AW (Z6 (ZiI N)) Try.f29 Zsq p
abbrev S29(N:Nat)(p:List Nat):=SW (Z6 (ZiI N)) Try.f29 Zsq p
theorem Zz7(N:Nat)(a b:Tree)(Q:QT)(h:let z1:=a.kind !=b.kind;let z0:=bif z1 then true else (!(decide (a.words=b.words)));let z2:=bif z0 then true else (((a.kids.length:Int):Int) !=(b.kids.length:Int));((Tr ((!z1)=true))/\(Tr ((!z1)=true))/\(Tr ((!z1)=true))/\(Tr ((!z1)=true))/\((!z1)=true->Zds (a.words,b.words,()))/\(Tr ((!z1)=true))/\(z1=false->(!z1)=true)/\(Tr ((!z0)=true))/\(Tr ((!z0)=true))/\(Tr ((!z0)=true))/\(Tr ((!z0)=true))/\(Tr ((!z0)=true))/\(Tr ((!z0)=true))/\(z0=false->(!z0)=true)/\((z2=true->(Q .ret (L2 [pB 4 false] [])))/\(z2=false->(Zo (A29 N [1,1,0,1,0,0]) (Z7L a b 0) (xB 0 (S29 N [1,1,1] Q))))))):
  A29 N [] (L2 [(0,.agg (enc .tree a)),(1,.agg (enc .tree b))] []) Q:=
 Eq.mpr (by kernel_rfl) h
theorem Zr4(N:Nat)(a b:Tree)(x5:Int)(N0:NT)(Q:QT)(h:∀ y_1,y_1=(a.kids.getD x5.toNat Tree.nil)->∀ y_2,y_2=(b.kids.getD x5.toNat Tree.nil)->∀ y_3,y_3=y_1->∀ y_4,y_4=y_2->let z0:=decide (x5 < (a.kids.length:Int));((z0=true->((0:Int)<=x5/\x5 < (a.kids.length:Int))/\((0:Int)<=x5/\x5 < (b.kids.length:Int))/\(ZbH (y_3,y_4,()))/\(Zmf (y_3,y_4,()) < N)/\(((!(ZT y_3 y_4))=true->(Q .ret (L2 [pB 4 false] [])))/\((!(ZT y_3 y_4))=false->(InR (x5+1))/\(N0 (Z7L a b (x5+1))))))/\(z0=false->(Q .ret (L2 [pB 4 true] []))))):
  A29 N [1,1,0,1,0,0] (Z7L a b x5) (xT N0 (xB 0 (S29 N [1,1,1] Q))):=
 Eq.mpr (by kernel_rfl) (h _ rfl _ rfl _ (Zc _) _ (Zc _))
def ZwP(N:Nat)(a b:Tree):Prop:=AW (Z6 (ZiI N)) Try.f29 Zsq [] (Zm (Zj0.can (a,b,())) []) (EQ Try.f29 (Zdn (a,b,())) [])
theorem Zv8(c75:CT 75 Zb4)(hb:∀ (N:Nat) (a:Tree) (b:Tree) (_:Unit),ZbH (a,b,())->Zmf (a,b,()) < N+1->ZwP N a b):CT 29 Zbe:=
 Ja (μ:=Zmf) (l:=[(75,Zb4)]) Zn rfl (⟨c75,trivial⟩) Zsq Try.func29 rfl rfl 2 (fun _=> rfl) (by decide) (fun N ⟨a,b,_⟩=> hb N a b ())
def Zfj(N:Nat):List (FuncId × Fs U):=(106,fs Zj0 (fun a=> [Z18 a,ZdC a < N]) Z67) ::[(148,Zb4),(149,Z1k),(91,Z3j)]
def Zkg:Zf U:=lvl [([2,3],[2,3]),([2,3,16],[2,3]),([4],[]),([2,3,41],[2,3]),([4],[]),([2,3,48,49],[2,3]),([2,3,48,49,50],[2,3]),([2,3,5,48,49],[2,3]),([2,3,48,49,58],[2,3]),([4],[]),([2,3,48,49],[2,3]),([2,3,66,67],[2,3]),([2,3,66,67,68],[2,3]),([2,3,6,66,67],[2,3]),([2,3,66,67,77],[2,3]),([4],[]),([2,3,66,67],[2,3]),([4],[])]
def Z5p(a b:Tree)(x49:Int):LSt U:=(L2 [pL 2,pL 3,pI 48 (if ((a.words.length:Int):Int) < (b.words.length:Int) then (b.words.length:Int) else (a.words.length:Int)),pI 49 x49] [(.loc 2,(enc .tree a)),(.loc 3,(enc .tree b))])
def Z5o(a b:Tree)(x67_a:Int):LSt U:=(L2 [pL 2,pL 3,pI 66 (if ((a.kids.length:Int):Int) < (b.kids.length:Int) then (b.kids.length:Int) else (a.kids.length:Int)),pI 67 x67_a] [(.loc 2,(enc .tree a)),(.loc 3,(enc .tree b))])
abbrev ZqC(N:Nat)(p:List Nat):=AW (Z6 (Zfj N)) Try.f106 Zkg p
abbrev ZsN(N:Nat)(p:List Nat):=SW (Z6 (Zfj N)) Try.f106 Zkg p
theorem ZxK(N:Nat)(a b:Tree)(Q:QT)(h:let z3:=a.kind !=b.kind;let z4:=bif z3 then true else (a.kind==0);let z0:=((a.kids.length:Int):Int) !=(b.kids.length:Int);let z2:=bif (a.kind !=1) then (bif z0 then true else (!(decide (a.words=b.words)))) else false;let z1:=(a.kind !=1) && (!z0);((Tr ((!z3)=true))/\(Tr ((!z3)=true))/\(z3=false->(!z3)=true)/\((z4=true->(Q .ret (L2 [pB 4 (a.kind==b.kind)] [])))/\(z4=false->(Tr ((a.kind !=1)=true))/\(Tr ((a.kind !=1)=true))/\(Tr ((a.kind !=1)=true))/\(Tr ((a.kind !=1)=true))/\(Tr ((a.kind !=1)=true))/\(Tr ((a.kind !=1)=true))/\(Tr ((a.kind !=1)=true))/\(Tr (z1=true))/\(Tr (z1=true))/\(Tr (z1=true))/\(Tr (z1=true))/\(z1=true->Zds (a.words,b.words,()))/\(Tr (z1=true))/\((a.kind !=1)=true->(True->(a.kind !=1)=true))/\((a.kind !=1)=true->(z0=false->z1=true))/\(Tr ((a.kind !=1)=true))/\((z2=true->(Q .ret (L2 [pB 4 false] [])))/\(z2=false->(Zo (ZqC N [1,1,1,0,1,0,0]) (Z5p a b 0) (xB 0 (ZsN N [1,1,1,1] Q))))))))):
  ZqC N [] (L2 [(0,.agg (enc .tree a)),(1,.agg (enc .tree b))] []) Q:=
 Eq.mpr (by kernel_rfl) h
theorem Znv(N:Nat)(a b:Tree)(x49:Int)(N0:NT)(Q:QT)(h:let z3:=Tree.mk b.kind b.words b.kids;let z2:=Tree.mk a.kind a.words a.kids;let z1:=((Jm z2 x49):Int) !=(Jm z3 x49);let z0:=decide (x49 < (if ((a.words.length:Int):Int) < (b.words.length:Int) then (b.words.length:Int) else (a.words.length:Int)));((z0=true->((Z8n (z2,x49,()))/\(Z8n (z3,x49,()))/\((z1=true->(Q .ret (L2 [pB 4 false] [])))/\(z1=false->(InR (x49+1))/\(N0 (Z5p a b (x49+1)))))))/\(z0=false->(Zo (ZqC N [1,1,1,1,0,1,0,0]) (Z5o a b 0) (xB 2 (ZsN N [1,1,1,1,1] Q)))))):
  ZqC N [1,1,1,0,1,0,0] (Z5p a b x49) (xT N0 (xB 0 (ZsN N [1,1,1,1] Q))):=
 Eq.mpr (by kernel_rfl) h
theorem Znu(N:Nat)(a b:Tree)(x67_a:Int)(N1:NT)(Q:QT)(h:∀ y_1,y_1=a->∀ y_2,y_2=b->∀ y_3,y_3=(JA y_1 x67_a)->∀ y_4,y_4=(JA y_2 x67_a)->let z1:= !(ZT (Z2 y_3) (Z2 y_4));let z0:=decide (x67_a < (if ((a.kids.length:Int):Int) < (b.kids.length:Int) then (b.kids.length:Int) else (a.kids.length:Int)));((z0=true->((Z8n (y_1,x67_a,()))/\(Z8n (y_2,x67_a,()))/\(Z18 (y_3,y_4,()))/\(ZdC (y_3,y_4,()) < N)/\((z1=true->(Q .ret (L2 [pB 4 false] [])))/\(z1=false->(InR (x67_a+1))/\(N1 (Z5o a b (x67_a+1)))))))/\(z0=false->(Q .ret (L2 [pB 4 true] []))))):
  ZqC N [1,1,1,1,0,1,0,0] (Z5o a b x67_a) (xT N1 (xB 2 (ZsN N [1,1,1,1,1] Q))):=
 Eq.mpr (by kernel_rfl) (h _ (Zc _) _ (Zc _) _ (Zc _) _ (Zc _))
def Ztu(N:Nat)(a b:Tree):Prop:=AW (Z6 (Zfj N)) Try.f106 Zkg [] (Zm (Zj0.can (a,b,())) []) (EQ Try.f106 (Z67 (a,b,())) [])
theorem Zsa(Zw1:CT 148 Zb4)(ZmO:CT 149 Z1k)(c91:CT 91 Z3j)(hb:∀ (N:Nat) (a:Tree) (b:Tree) (_:Unit),Z18 (a,b,())->ZdC (a,b,()) < N+1->Ztu N a b):CT 106 Jh:=
 Ja (μ:=ZdC) (l:=[(148,Zb4),(149,Z1k),(91,Z3j)]) Zn rfl (⟨Zw1,ZmO,c91,trivial⟩) Zkg Try.func106 rfl rfl 2 (fun _=> rfl) (by decide) (fun N ⟨a,b,_⟩=> hb N a b ())
end
theorem vcU:(∀ {p q:Prop},(p->q->p/\q)=True)/\(∀ {p:Prop},(True/\p)=p)/\(∀ {p:Prop},(p/\True)=p)/\(∀ {p:Prop},(p->True)=True):=
 ⟨by intros;simp+contextual,by simp,by simp,by simp⟩
theorem Zbj:∀ {ks:List Tree} {i:Nat},Z1O ks->i < ks.length->Z1Q (ks.getD i Tree.nil)
 | t ::_,0,h,_=> by simp only [Z1O] at h;exact h.1
 | _ ::r,i+1,h,hi=> by simp only [Z1O] at h;exact Zbj (ks:=r) (i:=i) h.2 (by simpa using hi)
theorem Z0N:∀ {ks:List Tree} {i:Nat},i < ks.length->Zi (ks.getD i Tree.nil)<=Z7 ks
 | t ::_,0,_=> by simp only [Z7,Qk];omega
 | t ::r,i+1,h=> by
  have:=Z0N (ks:=r) (i:=i) (by simpa using h)
  simp only [Z7,Kg]
  omega
mutual
theorem Yr:∀ (t:Tree) (d l:Int),-1<=Zz t d l/\Zz t d l<=max l (-1)
 | .mk _ w ks,d,l=> by
  simp only [Zz]
  split
  ·omega
  ·have:=Z0h ks (d - 1) (l - 1 - w.length) (by omega)
   omega
theorem Z0h:∀ (ks:List Tree) (d l:Int),-1<=l->-1<=Zr ks d l/\Zr ks d l<=l
 | [],d,l,h=> by simp only [Zr];omega
 | t ::r,d,l,h=> by
  simp only [Zr]
  split
  ·omega
  ·have h1:=Yr t d l
   have h2:=Z0h r d (Zz t d l) h1.1
   omega
end
theorem ZcR{ks:List Tree}{i:Nat}{d l:Int}(h:i < ks.length)(hl:0<=l):Zr (ks.drop i) d l=Zr (ks.drop (i+1)) d (Zz (ks.getD i Tree.nil) d l):=by
 rw [QQ h]
 simp only [Zr]
 rw [if_neg (by omega)]
 simp [List.getD,h]
theorem c78:Contract Try.prog cfg 78 Z3U:=by
 refine ZuR ?_
 rintro N ⟨k,ws,ks⟩ d l _ ⟨hs,h1,h2,h3,h4⟩ hN
 simp only [Z1Q,Zmc,Zi] at*
 refine ZyM N _ _ _ _ ?_;(try simp only [vcT,forall_eq])
 (simp only [vcS]);(try simp only [vcT])
 try (simp only [Tree.eta,Edit.eta,Tree.kind_mk,Tree.words_mk,Tree.kids_mk])
 refine ⟨by unfold InR;omega,by unfold InR;omega,fun hc=> ?_,fun hc=> ?_⟩
 ·have e:Zz (.mk k ws ks) d l= -1:=by
   simp only [Zz]
   rw [if_pos (by omega)]
  simp only [Zgk,e]
  exact ⟨⟨rfl,⟨⟨rfl,rfl⟩,trivial⟩,trivial⟩,trivial⟩
 ·have e:Zz (.mk k ws ks) d l=Zr ks (d - 1) (l - 1 - ws.length):=by
   simp only [Zz]
   rw [if_neg (by omega)]
  simp only [Zgk,e]
  refine Zb (ι:=Int × Int) (fun p=> Z7w (.mk k ws ks) d l p.1 p.2) (fun p=> 0<=p.2/\p.2<=ks.length/\-1<=p.1/\p.1<=l/\Zr (ks.drop p.2.toNat) (d - 1) p.1=Zr ks (d - 1) (l - 1 - ws.length)) (fun p=> ((ks.length:Int) - p.2).toNat) (l - 1 - ws.length,0) rfl ⟨by omega,by omega,by omega,by omega,by simp⟩ ?_
  rintro ⟨l',i⟩ ⟨h5,h6,h7,h8,h9⟩
  dsimp only at*
  refine ZqM N _ _ _ _ _ _ _ ?_;(try simp only [vcT,forall_eq])
  (simp only [vcS]);(try simp only [vcT])
  try (simp only [Tree.eta,Edit.eta,Tree.kind_mk,Tree.words_mk,Tree.kids_mk])
  refine ⟨fun hc=> ?_,fun hc=> ?_⟩
  ·have hi:i.toNat < ks.length:=by omega
   have hr:=Yr (ks.getD i.toNat Tree.nil) (d - 1) l'
   have hn:=Z0N hi
   have hd:=ZcR (d:=d - 1) hi hc.2
   refine ⟨by omega,by unfold InR;omega,⟨Zbj hs.2.2 hi,by dsimp only;omega,by dsimp only;omega,by dsimp only;omega,by dsimp only;omega⟩,by simp only [Zmc];omega,by unfold InR;omega,⟨(Zz (ks.getD i.toNat Tree.nil) (d - 1) l',i+1),rfl,⟨by dsimp only;omega,by dsimp only;omega,by dsimp only;omega,by dsimp only;omega,?_⟩,by dsimp only;omega⟩⟩
   dsimp only
   rw [<-h9,hd]
   congr 2
   omega
  ·have e:Zr ks (d - 1) (l - 1 - ws.length)=l':=by
    rw [<-h9]
    by_cases hi:i < ks.length
    ·rw [QQ (by omega)]
     simp only [Zr]
     rw [if_pos (by omega)]
    ·rw [QE (by omega)]
     simp only [Zr]
   rw [e]
   exact ⟨⟨rfl,⟨⟨rfl,rfl⟩,trivial⟩,trivial⟩,trivial⟩
theorem c36:Contract Try.prog cfg 36 Zbb:=by
 refine Zv4 c78 ?_
 intro t _ hp
 refine Zz3 _ _ ?_;(try simp only [vcT,forall_eq])
 try (simp only [Tree.eta,Edit.eta,Tree.kind_mk,Tree.words_mk,Tree.kids_mk])
 refine ⟨⟨hp,by dsimp only;omega,by dsimp only;omega,by dsimp only;omega,by dsimp only;omega⟩,?_⟩
 exact ⟨⟨rfl,⟨rfl,trivial⟩,trivial⟩,trivial⟩
theorem Zw6:Contract Try.prog cfg 109 Z6K:=by
 refine Zs9 ?_
 intro l _ hp
 refine ZxH _ _ ?_;(try simp only [vcT,forall_eq])
 simp only [ZbS] at hp
 refine ⟨fun h=> ?_,⟨by simp only [Qg];omega,?_⟩⟩
 ·subst h
  exact ⟨⟨rfl,⟨rfl,trivial⟩,trivial⟩,trivial⟩
 ·exact ⟨⟨rfl,⟨⟨rfl,trivial⟩,trivial⟩,trivial⟩,trivial⟩
theorem Zay{a b:List Int}{i:Int}(hi:0<=i)(ha:i < a.length)(hb:i < b.length):(a.drop i.toNat=b.drop i.toNat)↔(a.getD i.toNat 0=b.getD i.toNat 0/\a.drop (i+1).toNat=b.drop (i+1).toNat):=by
 have e:(i+1).toNat=i.toNat+1:=by omega
 rw [QQ (by omega),QQ (l:=b) (by omega),e]
 simp only [List.cons.injEq,List.getD,Q4 (show i.toNat < a.length by omega),Q4 (show i.toNat < b.length by omega),Xi]
theorem c75:Contract Try.prog cfg 75 Zb4:=by
 refine ZuS ?_
 intro a b _ hp
 simp only [Zds] at hp
 refine ZyO _ _ _ ?_;(try simp only [vcT,forall_eq])
 (simp only [vcS]);(try simp only [vcT])
 refine ⟨fun hc=> ?_,fun hc=> ?_⟩
 ·have e:decide (a=b)=false:=by
   simp only [decide_eq_false_iff_not]
   rintro rfl
   omega
  simp only [Zgm,e]
  exact ⟨⟨rfl,⟨rfl,trivial⟩,trivial⟩,trivial⟩
 ·have hl:a.length=b.length:=by omega
  refine Zb (ι:=Int) (fun p=> Z7x a b p) (fun p=> 0<=p/\p<=a.length/\(a=b↔a.drop p.toNat=b.drop p.toNat)) (fun p=> ((a.length:Int) - p).toNat) 0 rfl ⟨by omega,by omega,by simp⟩ ?_
  rintro i ⟨h1,h2,h3⟩
  refine ZqN _ _ _ _ _ ?_;(try simp only [vcT,forall_eq])
  (simp only [vcS]);(try simp only [vcT])
  refine ⟨fun hc=> ⟨by omega,by omega,fun hn=> ?_,fun he=> ⟨by unfold InR;omega,i+1,rfl,⟨by omega,by omega,?_⟩,by omega⟩⟩,fun hc=> ?_⟩
  ·have e:decide (a=b)=false:=by
    simp only [decide_eq_false_iff_not,h3]
    rw [Zay h1 hc (by omega)]
    exact fun h=> hn h.1
   simp only [Zgm,e]
   exact ⟨⟨rfl,⟨rfl,trivial⟩,trivial⟩,trivial⟩
  ·rw [h3,Zay h1 hc (by omega)]
   exact ⟨fun h=> h.2,fun h=> ⟨by simpa using he,h⟩⟩
  ·have e:decide (a=b)=true:=by
    simp only [decide_eq_true_eq,h3]
    rw [QE (by omega),QE (by omega)]
   simp only [Zgm,e]
   exact ⟨⟨rfl,⟨rfl,trivial⟩,trivial⟩,trivial⟩
theorem ZmO:Contract Try.prog cfg 149 Z1k:=by
 refine Zs1 ?_
 intro t i _ hp
 refine Zxx _ _ _ ?_;(try simp only [vcT,forall_eq])
 (simp only [vcS]);(try simp only [vcT])
 (repeat (refine And.intro (by first | omega | (unfold InR;omega) | (dsimp only;omega)) ?_))
 refine ⟨fun hc=> ?_,fun hc=> ⟨by omega,?_⟩⟩
 ·have e:Jm t i=0:=by
   unfold Jm
   split
   ·try rfl
   ·rw [List.getD,Qu (by omega)]
    try rfl
  simp only [ZeC,e]
  exact ⟨⟨rfl,⟨⟨rfl,rfl⟩,trivial⟩,trivial⟩,trivial⟩
 ·have e:Jm t i=t.words.getD i.toNat 0:=by
   unfold Jm
   rw [if_neg (by omega)]
  simp only [ZeC,e]
  exact ⟨⟨rfl,⟨⟨rfl,rfl⟩,trivial⟩,trivial⟩,trivial⟩
theorem c91:Contract Try.prog cfg 91 Z3j:=by
 refine ZuO ?_
 intro t i _ hp
 refine ZyJ _ _ _ ?_;(try simp only [vcT,forall_eq])
 (simp only [vcS]);(try simp only [vcT])
 (repeat (refine And.intro (by first | omega | (unfold InR;omega) | (dsimp only;omega)) ?_))
 refine ⟨fun hc=> ?_,fun hc=> ⟨by omega,?_⟩⟩
 ·have e:JA t i=Tree.nil:=by
   unfold JA
   split
   ·try rfl
   ·rw [List.getD,Qu (by omega)]
    try rfl
  simp only [ZjA,e]
  exact ⟨⟨rfl,⟨⟨rfl,rfl⟩,⟨rfl,⟨rfl,trivial⟩⟩⟩,trivial⟩,trivial⟩
 ·have e:JA t i=t.kids.getD i.toNat Tree.nil:=by
   unfold JA
   rw [if_neg (by omega)]
  simp only [ZjA,e]
  exact ⟨⟨rfl,⟨⟨rfl,rfl⟩,⟨rfl,trivial⟩,⟨rfl,trivial⟩,trivial⟩,trivial⟩,trivial⟩
theorem Zw1:Contract Try.prog cfg 148 Zb4:=by
 refine Zs2 ?_
 intro a b _ hp
 simp only [Zds] at hp
 refine Zxy _ _ _ ?_;(try simp only [vcT,forall_eq])
 (simp only [vcS]);(try simp only [vcT])
 refine ⟨fun hc=> ?_,fun hc=> ?_⟩
 ·have e:decide (a=b)=false:=by
   simp only [decide_eq_false_iff_not]
   rintro rfl
   omega
  simp only [Zgm,e]
  exact ⟨⟨rfl,⟨rfl,trivial⟩,trivial⟩,trivial⟩
 ·have hl:a.length=b.length:=by omega
  refine Zb (ι:=Int) (fun p=> Z5d a b p) (fun p=> 0<=p/\p<=a.length/\(a=b↔a.drop p.toNat=b.drop p.toNat)) (fun p=> ((a.length:Int) - p).toNat) 0 rfl ⟨by omega,by omega,by simp⟩ ?_
  rintro i ⟨h1,h2,h3⟩
  refine Znh _ _ _ _ _ ?_;(try simp only [vcT,forall_eq])
  (simp only [vcS]);(try simp only [vcT])
  refine ⟨fun hc=> ⟨by omega,by omega,fun hn=> ?_,fun he=> ⟨by unfold InR;omega,i+1,rfl,⟨by omega,by omega,?_⟩,by omega⟩⟩,fun hc=> ?_⟩
  ·have e:decide (a=b)=false:=by
    simp only [decide_eq_false_iff_not,h3]
    rw [Zay h1 hc (by omega)]
    exact fun h=> hn h.1
   simp only [Zgm,e]
   exact ⟨⟨rfl,⟨rfl,trivial⟩,trivial⟩,trivial⟩
  ·rw [h3,Zay h1 hc (by omega)]
   exact ⟨fun h=> h.2,fun h=> ⟨by simpa using he,h⟩⟩
  ·have e:decide (a=b)=true:=by
    simp only [decide_eq_true_eq,h3]
    rw [QE (by omega),QE (by omega)]
   simp only [Zgm,e]
   exact ⟨⟨rfl,⟨rfl,trivial⟩,trivial⟩,trivial⟩
theorem Zhk{a b:List Tree}{i:Int}(hi:0<=i)(ha:i < a.length)(hb:i < b.length):(a.drop i.toNat=b.drop i.toNat)↔(a.getD i.toNat Tree.nil=b.getD i.toNat Tree.nil/\a.drop (i+1).toNat=b.drop (i+1).toNat):=by
 have e:(i+1).toNat=i.toNat+1:=by omega
 rw [QQ (by omega),QQ (l:=b) (by omega),e]
 simp only [List.cons.injEq,List.getD,Q4 (show i.toNat < a.length by omega),Q4 (show i.toNat < b.length by omega),Xi]
theorem Z0F{a b:Tree}:ZT a b=true↔a=b:=by simp [ZT]
theorem Jq{a b:Tree}:ZT a b=false↔¬a=b:=by simp [ZT]
theorem Zv:∀ (ks:List Tree),ks.length<=Z7 ks
 | []=> by simp [Z7]
 | t ::r=> by
  have:=Zv r
  have:1<=Zi t:=by cases t;simp only [Zi];omega
  simp only [Z7,Qb]
  omega
theorem c29:Contract Try.prog cfg 29 Zbe:=by
 refine Zv8 c75 ?_
 rintro N ⟨k,ws,ks⟩ ⟨k',ws',ks'⟩ _ hp hN
 have hlen:=Zv ks
 simp only [ZbH,Zmf,Zi] at hp hN
 refine Zz7 N _ _ _ ?_;(try simp only [vcT,forall_eq])
 (simp only [vcS]);(try simp only [vcT])
 try (simp only [Tree.eta,Edit.eta,Tree.kind_mk,Tree.words_mk,Tree.kids_mk])
 have p69:Zds (ws,ws',()):=by simp only [Zds];omega
 refine ⟨fun _=> p69,fun hc=> ?_,fun hc=> ?_⟩
 ·have e:ZT (.mk k ws ks) (.mk k' ws' ks')=false:=by
   rw [Jq]
   intro h
   cases h
   simp at hc
  simp only [Zdn,e]
  exact ⟨⟨rfl,⟨rfl,trivial⟩,trivial⟩,trivial⟩
 ·have hc':(k=k'/\ws=ws')/\ks.length=ks'.length:=⟨hc.1,by have:=hc.2;omega⟩
  obtain ⟨⟨rfl,rfl⟩,hl⟩:=hc'
  refine Zb (ι:=Int) (fun p=> Z7L (.mk k ws ks) (.mk k ws ks') p) (fun p=> 0<=p/\p<=ks.length/\(Tree.mk k ws ks= .mk k ws ks'↔ks.drop p.toNat=ks'.drop p.toNat)) (fun p=> ((ks.length:Int) - p).toNat) 0 rfl ⟨by omega,by omega,by simp⟩ ?_
  rintro i ⟨h1,h2,h3⟩
  refine Zr4 N _ _ _ _ _ ?_;(try simp only [vcT,forall_eq])
  (simp only [vcS]);(try simp only [vcT])
  try (simp only [Tree.eta,Edit.eta,Tree.kind_mk,Tree.words_mk,Tree.kids_mk])
  refine ⟨fun hc=> ⟨by omega,by omega,?_,?_,fun hn=> ?_,fun he=> ⟨by unfold InR;omega,i+1,rfl,⟨by omega,by omega,?_⟩,by omega⟩⟩,fun hc=> ?_⟩
  ·have:=Z0N (ks:=ks) (i:=i.toNat) (by omega)
   simp only [ZbH]
   omega
  ·have:=Z0N (ks:=ks) (i:=i.toNat) (by omega)
   simp only [Zmf]
   omega
  ·have e:ZT (.mk k ws ks) (.mk k ws ks')=false:=by
    rw [Jq,h3,Zhk h1 hc (by omega)]
    rw [Jq] at hn
    exact fun h=> hn h.1
   simp only [Zdn,e]
   exact ⟨⟨rfl,⟨rfl,trivial⟩,trivial⟩,trivial⟩
  ·rw [h3,Zhk h1 hc (by omega)]
   exact ⟨fun h=> h.2,fun h=> ⟨Z0F.1 he,h⟩⟩
  ·have e:ZT (.mk k ws ks) (.mk k ws ks')=true:=by
    rw [Z0F,h3]
    rw [QE (by omega),QE (by omega)]
   simp only [Zdn,e]
   exact ⟨⟨rfl,⟨rfl,trivial⟩,trivial⟩,trivial⟩
theorem Zd8:∀ (l:List Int),trim (l++[0])=trim l
 | []=> rfl
 | x ::r=> by
  show (match trim (r++[0]) with | []=> if x=0 then [] else [x] | y ::s=> x ::y ::s)=_
  rw [Zd8 r]
  try rfl
theorem Zja{x:Int}(hx:x≠0):∀ (l:List Int),trim (l++[x])=l++[x]
 | []=> by simp [trim,hx]
 | y ::r=> by
  show (match trim (r++[x]) with | []=> if y=0 then [] else [y] | z ::s=> y ::z ::s)=_
  rw [Zja hx r]
  cases r <;> rfl
theorem ZlH{l:List Int}{i:Int}(h0:0 < i)(hi:i<=l.length):l.take i.toNat=l.take (i - 1).toNat++[l.getD (i - 1).toNat 0]:=by
 have e:i.toNat=(i - 1).toNat+1:=by omega
 rw [e,List.take_add_one]
 simp only [List.getD,Q4 (show (i - 1).toNat < l.length by omega),Option.toList,Xi]
theorem ZfS:∀ (l:List Int),(trim l).length<=l.length
 | []=> by simp [trim]
 | x ::r=> by
  have:=ZfS r
  simp only [trim]
  split
  ·split <;> simp
  ·rename_i h
   rw [h] at this
   simp at*
   omega
theorem ZaO:∀ (l:List Tree),Z7 (ZS l)<=Z7 l
 | []=> by simp [ZS]
 | x ::r=> by
  have:=ZaO r
  simp only [ZS]
  split
  ·split
   ·simp [Z7]
   ·simp [Z7]
  ·rename_i h
   rw [h] at this
   simp only [Z7] at*
   omega
mutual
theorem Jv:∀ (t:Tree),Zi (Z2 t)<=Zi t
 | .mk k w ks=> by
  have h1:=Zc7 ks
  have h2:=ZfS w
  have h3:=ZaO (ZX ks)
  simp only [Z2]
  split
  ·simp only [Tree.nil,Zi,Z7,Qg];omega
  ·split
   ·simp only [Zi];omega
   ·simp only [Zi];omega
theorem Zc7:∀ (ks:List Tree),Z7 (ZX ks)<=Z7 ks
 | []=> by simp [ZX]
 | t ::r=> by
  have h1:=Jv t
  have h2:=Zc7 r
  simp only [ZX,Z7]
  omega
end
theorem Zdz:∀ (l:List Tree) (x:Tree),ZX (l++[x])=ZX l++[Z2 x]
 | [],x=> rfl
 | y ::r,x=> by simp only [QA,ZX,Zdz r x]
theorem Z1F:∀ (l:List Tree),(ZX l).length=l.length
 | []=> rfl
 | y ::r=> by simp only [ZX,Qb,Z1F r]
theorem ZaN{x:Tree}(hx:x.kind=0):∀ (l:List Tree),ZS (l++[x])=ZS l
 | []=> by simp [ZS,hx]
 | y ::r=> by
  show (match ZS (r++[x]) with | []=> if y.kind=0 then [] else [y] | z ::s=> y ::z ::s)=_
  rw [ZaN hx r]
  try rfl
theorem ZfT{x:Tree}(hx:x.kind≠0):∀ (l:List Tree),ZS (l++[x])=l++[x]
 | []=> by simp [ZS,hx]
 | y ::r=> by
  show (match ZS (r++[x]) with | []=> if y.kind=0 then [] else [y] | z ::s=> y ::z ::s)=_
  rw [ZfT hx r]
  cases r <;> rfl
theorem ZaX{l:List Tree}{i:Int}(h0:0<=i)(hi:i < l.length):l.take (i+1).toNat=l.take i.toNat++[l.getD i.toNat Tree.nil]:=by
 have e:(i+1).toNat=i.toNat+1:=by omega
 rw [e,List.take_add_one]
 simp only [List.getD,Q4 (show i.toNat < l.length by omega),Option.toList,Xi]
theorem Zkj{l:List Int}(h0:0 < (l.length:Int)):l=l.take ((l.length:Int) - 1).toNat++[l.getD ((l.length:Int) - 1).toNat 0]:=by
 have:=ZlH h0 (X2 _)
 rw [QS (by omega)] at this
 exact this
theorem Zh4{l:List Tree}(h0:0 < (l.length:Int)):l=l.take ((l.length:Int) - 1).toNat++[l.getD ((l.length:Int) - 1).toNat Tree.nil]:=by
 have:=ZaX (l:=l) (i:=(l.length:Int) - 1) (by omega) (by omega)
 rw [QS (by omega)] at this
 exact this
theorem ZlD{l:List Int}(h0:0 < (l.length:Int))(hz:l.getD ((l.length:Int) - 1).toNat 0=0):trim (l.take ((l.length:Int) - 1).toNat)=trim l:=by
 have e:=Zd8 (l.take ((l.length:Int) - 1).toNat)
 have h:=Zkj h0
 rw [hz] at h
 rw [<-h] at e
 exact e.symm
theorem ZlF{l:List Int}(h:¬0 < (l.length:Int)\/¬l.getD ((l.length:Int) - 1).toNat 0=0):trim l=l:=by
 by_cases h0:0 < (l.length:Int)
 ·have e:=Zja (x:=l.getD ((l.length:Int) - 1).toNat 0) (by rcases h with h | h;exact absurd h0 h;exact h) (l.take ((l.length:Int) - 1).toNat)
  rw [<-Zkj h0] at e
  exact e
 ·have:l=[]:=Q6 (by omega)
  subst this
  try rfl
theorem ZhJ{l:List Tree}(h0:0 < (l.length:Int))(hz:(l.getD ((l.length:Int) - 1).toNat Tree.nil).kind=0):ZS (l.take ((l.length:Int) - 1).toNat)=ZS l:=by
 have e:=ZaN hz (l.take ((l.length:Int) - 1).toNat)
 rw [<-Zh4 h0] at e
 exact e.symm
theorem ZhL{l:List Tree}(h:¬0 < (l.length:Int)\/¬(l.getD ((l.length:Int) - 1).toNat Tree.nil).kind=0):ZS l=l:=by
 by_cases h0:0 < (l.length:Int)
 ·have e:=ZfT (x:=l.getD ((l.length:Int) - 1).toNat Tree.nil) (by rcases h with h | h;exact absurd h0 h;exact h) (l.take ((l.length:Int) - 1).toNat)
  rw [<-Zh4 h0] at e
  exact e
 ·have:l=[]:=Q6 (by omega)
  subst this
  try rfl
theorem c71:Contract Try.prog cfg 71 JZ:=by
 refine ZuT Zw6 ?_
 rintro N ⟨k,ws,ks⟩ _ hp hN
 have hlen:=Zv ks
 simp only [Z0A,Zmd,Zi] at hp hN
 refine ZyP N _ _ ?_;(try simp only [vcT,forall_eq])
 (simp only [vcS]);(try simp only [vcT])
 try (simp only [Tree.eta,Edit.eta,Tree.kind_mk,Tree.words_mk,Tree.kids_mk])
 refine ⟨fun hc=> ?_,fun hc0=> ⟨by simp only [ZbS];omega,?_⟩⟩
 ·have e:Z2 (.mk k ws ks)=Tree.nil:=by simp [Z2,hc]
  simp only [Zdm,e]
  exact ⟨⟨rfl,⟨⟨rfl,rfl⟩,⟨rfl,⟨rfl,trivial⟩⟩⟩,trivial⟩,trivial⟩
 ·refine Zb (ι:=Int × List Tree) (fun p=> Z7A (.mk k ws ks) p.1 p.2) (fun p=> 0<=p.1/\p.1<=ks.length/\p.2=ZX (ks.take p.1.toNat)) (fun p=> ((ks.length:Int) - p.1).toNat) (0,[]) rfl ⟨by dsimp only;omega,by dsimp only;omega,rfl⟩ ?_
  rintro ⟨i,l⟩ ⟨h1,h2,h5⟩
  dsimp only at*
  have hl:l.length=i.toNat:=by rw [h5,Z1F,Qp];omega
  refine ZqQ N _ _ _ _ _ ?_;(try simp only [vcT,forall_eq])
  (simp only [vcS]);(try simp only [vcT])
  try (simp only [Tree.eta,Edit.eta,Tree.kind_mk,Tree.words_mk,Tree.kids_mk])
  refine ⟨fun hc=> ?_,fun hc=> ⟨fun hk=> ?_,fun hk=> ?_⟩⟩
  ·have hm:=Z0N (ks:=ks) (i:=i.toNat) (by omega)
   have hnx:ZX (ks.take (i+1).toNat)=l++[Z2 (ks.getD i.toNat Tree.nil)]:=by rw [ZaX h1 hc,Zdz,h5]
   exact ⟨by omega,by simp only [Z0A];omega,by simp only [Zmd];omega,by simp only [Qb,Qg];omega,by unfold InR;omega,(i+1,_),rfl,⟨by dsimp only;omega,by dsimp only;omega,hnx.symm⟩,by dsimp only;omega⟩
  ·have hi:ks.take i.toNat=ks:=QS (by omega)
   rw [hi] at h5
   refine Zb (ι:=List Int) (fun p=> Z7z (.mk k ws ks) l p) (fun p=> p.length<=ws.length/\trim p=trim ws) (fun p=> p.length) ws rfl ⟨by omega,rfl⟩ ?_
   rintro w ⟨h6,h7⟩
   refine ZqP N _ _ _ _ _ ?_;(try simp only [vcT,forall_eq])
   (simp only [vcS]);(try simp only [vcT])
   refine ⟨fun h=> by unfold InR;omega,fun h=> by omega,fun hc=> ⟨by unfold InR;omega,by omega,_,rfl,⟨by rw [List.length_take];omega,?_⟩,by rw [List.length_take];omega⟩,fun hc=> ?_⟩
   ·rw [ZlD hc.1 hc.2,h7]
   ·have hw:w=trim ws:=by rw [<-h7,ZlF hc]
    refine Zb (ι:=List Tree) (fun p=> Z7y (.mk k ws ks) w p) (fun p=> p.length<=l.length/\ZS p=ZS l) (fun p=> p.length) l rfl ⟨by omega,rfl⟩ ?_
    rintro q ⟨h8,h9⟩
    refine ZqO N _ _ _ _ _ ?_;(try simp only [vcT,forall_eq])
    (simp only [vcS]);(try simp only [vcT])
    refine ⟨fun h=> by unfold InR;omega,fun h=> by omega,fun hc=> ⟨by unfold InR;omega,by omega,_,rfl,⟨by rw [List.length_take];omega,?_⟩,by rw [List.length_take];omega⟩,fun hc=> ?_⟩
    ·rw [ZhJ hc.1 hc.2,h9]
    ·have hq:q=ZS (ZX ks):=by rw [<-h5,<-h9,ZhL hc]
     have e:Z2 (.mk k ws ks)= .mk k w q:=by
      subst hk
      simp only [Z2,hw,hq]
      try rfl
     simp only [Zdm,e]
     exact ⟨⟨rfl,⟨⟨rfl,rfl⟩,⟨rfl,trivial⟩,⟨rfl,trivial⟩,trivial⟩,trivial⟩,trivial⟩
  ·have hi:ks.take i.toNat=ks:=QS (by omega)
   rw [hi] at h5
   have e:Z2 (.mk k ws ks)= .mk k ws l:=by simp only [Z2,if_neg hc0,if_neg hk,h5]
   simp only [Zdm,e]
   exact ⟨⟨rfl,⟨⟨rfl,rfl⟩,⟨rfl,trivial⟩,⟨rfl,trivial⟩,trivial⟩,trivial⟩,trivial⟩
noncomputable section
def Zli:ArgL (Int × Unit):=(.cons (JR .i64) .nil)
def Zib(a:Int × Unit):Prop:=True
def Zo1(a:Int × Unit):V U:= .c (ci (wd a.1))
def Z6J:Fs U:=fs Zli (fun a=> [Zib a]) Zo1
def Zq9:ArgL (Int × Int × Unit):=(.cons (JR .i64) (.cons (JR .u64) .nil))
def ZjM(a:Int × Int × Unit):Prop:=0<=a.2.1/\a.2.1 < 18446744073709551616
def ZtD(a:Int × Int × Unit):V U:= .c (.bool (ZmB a.1 a.2.1))
def Zb3:Fs U:=fs Zq9 (fun a=> [ZjM a]) ZtD
def mu117(a:Tree × Int × Unit):Nat:=Zi a.1
def Z49(a:Tree × Int × Unit):Prop:=Zi a.1<=20000000000/\rng a.1/\0<=a.2.1/\a.2.1<=1000
def ZnR(a:Tree × Int × Unit):V U:= .c (.bool (Zh a.1 a.2.1))
def Z3m:Fs U:=fs Zlg (fun a=> [Z49 a]) ZnR
def Zpe:Zf U:=lvl [([0],[]),([3],[]),([3,4],[]),([2],[]),([3,6],[]),([2],[]),([3,8],[]),([2],[]),([3,10],[]),([2],[]),([3,12],[]),([2],[]),([14],[]),([2],[]),([2],[])]
abbrev ZzE(p:List Nat):=AW (Z6 Ziz) Try.f116 Zpe p
theorem ZxC(c:Int)(Q:QT)(h:(((c==0)=true->(Q .ret (L2 [pI 2 0] [])))/\((c==0)=false->(((c==1)=true->(Q .ret (L2 [pI 2 1] [])))/\((c==1)=false->(((c==2)=true->(Q .ret (L2 [pI 2 8] [])))/\((c==2)=false->(((c==3)=true->(Q .ret (L2 [pI 2 16] [])))/\((c==3)=false->(((c==4)=true->(Q .ret (L2 [pI 2 32] [])))/\((c==4)=false->(((c==5)=true->(Q .ret (L2 [pI 2 64] [])))/\((c==5)=false->(Q .ret (L2 [pI 2 (-1)] []))))))))))))))):
  ZzE [] (L2 [pI 0 c] []) Q:=
 Eq.mpr (by kernel_rfl) h
def Ztm(c:Int):Prop:=AW (Z6 Ziz) Try.f116 Zpe [] (Zm (Zli.can (c,())) []) (EQ Try.f116 (Zo1 (c,())) [])
theorem Zs6(hb:∀ (c:Int) (_:Unit),Zib (c,())->Ztm c):CT 116 Z6J:=
 Z4 (l:=[]) Zn rfl trivial Zpe Try.func116 rfl rfl 1 (fun _=> rfl) (by decide) (fun ⟨c,_⟩=> hb c ())
def Zix:List (FuncId × Fs U):=[(116,Z6J)]
def Zsf:Zf U:=lvl [([0,1],[]),([1,5],[]),([1,5,10],[]),([4],[]),([1,5,6],[]),([1,5,6,13],[]),([1,5,6],[]),([1,5,6],[]),([4],[])]
def Z7v(c n x1 x6:Int):LSt U:=(L2 [(1,.c (.int .u64 x1)),pI 5 (wd c),pI 6 x6] [])
abbrev A79(p:List Nat):=AW (Z6 Zix) Try.f79 Zsf p
abbrev S79(p:List Nat):=SW (Z6 Zix) Try.f79 Zsf p
theorem ZyL(c n:Int)(Q:QT)(h:((Zib (c,()))/\(((decide (((wd c):Int) < 0))=true->(Q .ret (L2 [pB 4 false] [])))/\((decide (((wd c):Int) < 0))=false->(Zo (A79 [1,1,1,0,1,0,0]) (Z7v c n n 0) (xB 0 (S79 [1,1,1,1] Q))))))):
  A79 [] (L2 [pI 0 c,(1,.c (.int .u64 n))] []) Q:=
 Eq.mpr (by kernel_rfl) h
theorem ZqL(c n x1 x6:Int)(N0:NT)(Q:QT)(h:(((decide (x6 < (wd c)))=true->((2:Int)≠0)/\((InR (x6+1))/\(N0 (Z7v c n (IntKind.wrap .u64 (Int.tdiv x1 2)) (x6+1)))))/\((decide (x6 < (wd c)))=false->(Q .ret (L2 [pB 4 (x1==0)] []))))):
  A79 [1,1,1,0,1,0,0] (Z7v c n x1 x6) (xT N0 (xB 0 (S79 [1,1,1,1] Q))):=
 Eq.mpr (by kernel_rfl) h
def Zwt(c n:Int):Prop:=AW (Z6 Zix) Try.f79 Zsf [] (Zm (Zq9.can (c,n,())) []) (EQ Try.f79 (ZtD (c,n,())) [])
theorem ZuQ(Zw3:CT 116 Z6J)(hb:∀ (c:Int) (n:Int) (_:Unit),ZjM (c,n,())->Zwt c n):CT 79 Zb3:=
 Z4 (l:=[(116,Z6J)]) Zn rfl (⟨Zw3,trivial⟩) Zsf Try.func79 rfl rfl 2 (fun _=> rfl) (by decide) (fun ⟨c,n,_⟩=> hb c n ())
def ZiH(N:Nat):List (FuncId × Fs U):=(37,fs Zlg (fun a=> [Z49 a,mu117 a < N]) ZnR) ::[(79,Zb3)]
def Zsp:Zf U:=lvl [([1,2],[2]),([1,2,10],[2]),([4],[]),([1,2,23],[2]),([4],[]),([1,2,68],[2]),([4],[]),([1,2,77],[2]),([4],[]),([1,2,5],[2]),([1,2,5,82],[2]),([1,2,5],[2]),([1,2,5,6],[2,6]),([1,2,5,6,94],[2,6]),([4],[]),([1,2,5,6,7],[2,6]),([1,2,5,131],[2]),([4],[]),([4],[])]
def Z7K(t:Tree)(d x5:Int):LSt U:=(L2 [pI 1 d,pL 2,pI 5 x5] [(.loc 2,(enc .tree t))])
abbrev A37(N:Nat)(p:List Nat):=AW (Z6 (ZiH N)) Try.f37 Zsp p
abbrev S37(N:Nat)(p:List Nat):=SW (Z6 (ZiH N)) Try.f37 Zsp p
theorem Zz2(N:Nat)(t:Tree)(d:Int)(Q:QT)(h:let z11:=((t.kids.length:Int):Int)==0;let z8:=decide (t.kind < 0);let z6:=decide ((1:Int) < t.kind);let z9:=bif z6 then (decide ((0:Int) < (t.words.length:Int))) else false;let z5:=((t.words.length:Int):Int)==1;let z4:=((t.words.length:Int):Int)==0;let z2:=bif z8 then true else (decide ((10:Int) < t.kind));let z3:=bif z2 then true else (d==0);let z0:=bif z3 then true else (decide ((65536:Int)<=(t.words.length:Int)));let z10:=(!z0) && (t.kind==1);let z1:=bif z0 then true else (bif (t.kind==1) then (decide ((65536:Int)<=(t.kids.length:Int))) else false);let z7:=bif z1 then true else (decide ((1048576:Int)<=(t.kids.length:Int)));(((t.kind==0)=true->(Tr (z4=true))/\(Tr (z4=true))/\(Tr (z4=true))/\(Tr (z4=true))/\(Q .ret (L2 [(4,.c (.bool (bif z4 then z11 else false)))] [])))/\((t.kind==0)=false->(((t.kind==10)=true->(Tr (z5=true))/\(Tr (z5=true))/\(Tr (z5=true))/\(Tr (z5=true))/\(Q .ret (L2 [(4,.c (.bool (bif z5 then z11 else false)))] [])))/\((t.kind==10)=false->(Tr ((!z8)=true))/\(Tr ((!z8)=true))/\(z8=false->(!z8)=true)/\(Tr ((!z2)=true))/\(z2=false->(!z2)=true)/\(Tr ((!z3)=true))/\(Tr ((!z3)=true))/\(Tr ((!z3)=true))/\(z3=false->(!z3)=true)/\(Tr ((!z0)=true))/\(Tr ((!z0)=true))/\(Tr ((!z0)=true))/\(Tr (z10=true))/\(Tr (z10=true))/\(Tr (z10=true))/\((!z0)=true->(True->(!z0)=true))/\((!z0)=true->((t.kind==1)=true->z10=true))/\(z0=false->(!z0)=true)/\(Tr ((!z1)=true))/\(Tr ((!z1)=true))/\(Tr ((!z1)=true))/\(z1=false->(!z1)=true)/\((z7=true->(Q .ret (L2 [pB 4 false] [])))/\(z7=false->(Tr (z6=true))/\(Tr (z6=true))/\(Tr (z6=true))/\(Tr (z6=true))/\((z9=true->(Q .ret (L2 [pB 4 false] [])))/\(z9=false->(Zo (A37 N [1,1,1,1,1,0,1,0,0]) (Z7K t d 0) (xB 0 (S37 N [1,1,1,1,1,1] Q)))))))))))):
  A37 N [] (L2 [(0,.agg (enc .tree t)),pI 1 d] []) Q:=
 Eq.mpr (by kernel_rfl) h
theorem Zr3(N:Nat)(t:Tree)(d x5:Int)(N0:NT)(Q:QT)(h:∀ y_1,y_1=(t.kids.getD x5.toNat Tree.nil)->∀ y_2,y_2=y_1->∀ y_3,y_3=(List.getD y_1.words (Int.toNat 0) (0:Int))->let z6:=decide (x5 < (t.kids.length:Int));let z3:=decide ((2:Int)<=t.kind);let z0:=bif z3 then (decide (t.kind<=7)) else false;let z2:=z0 !=(y_1.kind==10);let z5:=(!z2) && (t.kind==9);let z1:=bif z2 then true else (bif (t.kind==9) then (y_1.kind !=1) else false);let z4:=bif z1 then true else (bif z0 then (!(ZmB (t.kind - 2) y_3)) else false);((z6=true->((0:Int)<=x5/\x5 < (t.kids.length:Int))/\((InR (d - 1))/\(Z49 (y_2,(d - 1),()))/\(mu117 (y_2,(d - 1),()) < N)/\(((!(Zh y_2 (d - 1)))=true->(Q .ret (L2 [pB 4 false] [])))/\((!(Zh y_2 (d - 1)))=false->(Tr (z3=true))/\(Tr (z3=true))/\(Tr (z3=true))/\((Tr ((!z2)=true))/\(Tr ((!z2)=true))/\(Tr ((!z2)=true))/\(Tr (z5=true))/\(Tr (z5=true))/\((!z2)=true->(True->(!z2)=true))/\((!z2)=true->((t.kind==9)=true->z5=true))/\(z2=false->(!z2)=true)/\(Tr ((!z1)=true))/\(Tr (((!z1) && z0)=true))/\(Tr (((!z1) && z0)=true))/\(((!z1) && z0)=true->InR (t.kind - 2))/\(Tr (((!z1) && z0)=true))/\(Tr (((!z1) && z0)=true))/\(((!z1) && z0)=true->(0:Int)<=0/\0 < (y_1.words.length:Int))/\(Tr (((!z1) && z0)=true))/\(Tr (((!z1) && z0)=true))/\(Tr (((!z1) && z0)=true))/\(((!z1) && z0)=true->ZjM ((t.kind - 2),y_3,()))/\(Tr (((!z1) && z0)=true))/\((!z1)=true->(True->(!z1)=true))/\((!z1)=true->(z0=true->((!z1) && z0)=true))/\(z1=false->(!z1)=true)/\((z4=true->(Q .ret (L2 [pB 4 false] [])))/\(z4=false->(InR (x5+1))/\(N0 (Z7K t d (x5+1))))))))))/\(z6=false->(Q .ret (L2 [pB 4 true] []))))):
  A37 N [1,1,1,1,1,0,1,0,0] (Z7K t d x5) (xT N0 (xB 0 (S37 N [1,1,1,1,1,1] Q))):=
 Eq.mpr (by kernel_rfl) (h _ rfl _ (Zc _) _ rfl)
def ZwK(N:Nat)(t:Tree)(d:Int):Prop:=AW (Z6 (ZiH N)) Try.f37 Zsp [] (Zm (Zlg.can (t,d,())) []) (EQ Try.f37 (ZnR (t,d,())) [])
theorem Zv3(c79:CT 79 Zb3)(hb:∀ (N:Nat) (t:Tree) (d:Int) (_:Unit),Z49 (t,d,())->mu117 (t,d,()) < N+1->ZwK N t d):CT 37 Z3m:=
 Ja (μ:=mu117) (l:=[(79,Zb3)]) Zn rfl (⟨c79,trivial⟩) Zsp Try.func37 rfl rfl 2 (fun _=> rfl) (by decide) (fun N ⟨t,d,_⟩=> hb N t d ())
end
theorem Z3f:∀ (l:List Int),trim l=[]↔∀ i:Nat,l.getD i 0=0
 | []=> by simp [trim]
 | x ::r=> by
  have ih:=Z3f r
  constructor
  ·intro h i
   simp only [trim] at h
   split at h
   ·rename_i hr
    split at h
    ·cases i with
     | zero=> simpa
     | succ i=> simpa using (ih.1 hr) i
    ·cases h
   ·cases h
  ·intro h
   have h0:=h 0
   have hr:trim r=[]:=ih.2 fun i=> by simpa using h (i+1)
   simp only [trim,hr]
   simp at h0
   simp [h0]
theorem Z1x(x:Int)(r:List Int):trim (x ::r)=if trim r=[]/\x=0 then [] else x ::trim r:=by
 simp only [trim]
 split
 ·rename_i h
  simp only [h]
  split <;> simp_all
 ·rename_i h
  simp [h]
theorem Z92:∀ (a b:List Int),trim a=trim b↔∀ i:Nat,a.getD i 0=b.getD i 0
 | [],b=> by
  rw [show trim []=[] from rfl,eq_comm,Z3f]
  simp [eq_comm]
 | x ::r,[]=> by
  rw [show trim []=[] from rfl,Z3f]
  simp
 | x ::r,y ::s=> by
  have ih:=Z92 r s
  constructor
  ·intro h i
   have key:x=y/\trim r=trim s:=by
    rw [Z1x,Z1x] at h
    split at h <;> split at h <;> simp_all
   cases i with
   | zero=> simpa using key.1
   | succ i=> simpa using ih.1 key.2 i
  ·intro h
   have h0:x=y:=by simpa using h 0
   have hr:trim r=trim s:=ih.2 fun i=> by simpa using h (i+1)
   rw [Z1x,Z1x,h0,hr]
def ZsO(l:List Tree):Prop:=∀ x∈l,x.kind=0->x=Tree.nil
theorem Jn(x:Tree)(r:List Tree):ZS (x ::r)=if ZS r=[]/\x.kind=0 then [] else x ::ZS r:=by
 simp only [ZS]
 split
 ·rename_i h
  simp only [h]
  split <;> simp_all
 ·rename_i h
  simp [h]
theorem Z2r:∀ (l:List Tree),ZsO l->(ZS l=[]↔∀ i:Nat,l.getD i Tree.nil=Tree.nil)
 | [],_=> by simp [ZS]
 | x ::r,hn=> by
  have ih:=Z2r r (fun y hy=> hn y (Q5 _ hy))
  have hx:=hn x (Q7 ..)
  rw [Jn]
  constructor
  ·intro h i
   split at h
   ·rename_i hc
    cases i with
    | zero=> simpa using hx hc.2
    | succ i=> simpa using (ih.1 hc.1) i
   ·cases h
  ·intro h
   have h0:x=Tree.nil:=by simpa using h 0
   have hr:ZS r=[]:=ih.2 fun i=> by simpa using h (i+1)
   rw [if_pos ⟨hr,by rw [h0];rfl⟩]
theorem Z6v:∀ (a b:List Tree),ZsO a->ZsO b->(ZS a=ZS b↔∀ i:Nat,a.getD i Tree.nil=b.getD i Tree.nil)
 | [],b,_,hb=> by
  rw [show ZS []=[] from rfl,eq_comm,Z2r b hb]
  simp [eq_comm]
 | x ::r,[],ha,_=> by
  rw [show ZS []=[] from rfl,Z2r _ ha]
  simp
 | x ::r,y ::s,ha,hb=> by
  have ih:=Z6v r s (fun y hy=> ha y (Q5 _ hy)) (fun y hy=> hb y (Q5 _ hy))
  have hx:=ha x (Q7 ..)
  have hy:=hb y (Q7 ..)
  constructor
  ·intro h i
   have key:x=y/\ZS r=ZS s:=by
    rw [Jn,Jn] at h
    split at h <;> split at h
    ·rename_i h1 h2
     exact ⟨(hx h1.2).trans (hy h2.2).symm,h1.1.trans h2.1.symm⟩
    ·cases h
    ·cases h
    ·simpa using h
   cases i with
   | zero=> simpa using key.1
   | succ i=> simpa using ih.1 key.2 i
  ·intro h
   have h0:x=y:=by simpa using h 0
   have hr:ZS r=ZS s:=ih.2 fun i=> by simpa using h (i+1)
   rw [Jn,Jn,h0,hr]
theorem Z8A:Z2 Tree.nil=Tree.nil:=by simp [Tree.nil,Z2]
theorem Z6j(t:Tree):(Z2 t).kind=t.kind:=by
 obtain ⟨k,w,ks⟩:=t
 simp only [Z2]
 split
 ·rename_i h;simp [h,Tree.nil]
 ·split
  ·rename_i h;simp [h]
  ·try rfl
theorem Z6l:∀ (l:List Tree),ZsO (ZX l)
 | []=> by intro x hx;simp [ZX] at hx
 | t ::r=> by
  intro x hx hk
  simp only [ZX,Qd] at hx
  rcases hx with rfl | hx
  ·rw [Z6j] at hk
   obtain ⟨k,w,ks⟩:=t
   simp only [Tree.kind_mk] at hk
   simp [Z2,hk]
  ·exact Z6l r x hx hk
theorem Z01:∀ (l:List Tree) (i:Nat),(ZX l).getD i Tree.nil=Z2 (l.getD i Tree.nil)
 | [],i=> by simp [ZX,Z8A]
 | t ::r,0=> by simp [ZX]
 | t ::r,i+1=> by simpa [ZX] using Z01 r i
theorem Z7a(a b:List Tree):ZX a=ZX b↔a.length=b.length/\∀ i:Nat,Z2 (a.getD i Tree.nil)=Z2 (b.getD i Tree.nil):=by
 constructor
 ·intro h
  refine ⟨by rw [<-Z1F a,h,Z1F],fun i=> ?_⟩
  rw [<-Z01,h,Z01]
 ·rintro ⟨hl,h⟩
  apply List.ext_getElem (by rw [Z1F,Z1F,hl])
  intro i h1 h2
  have:=h i
  rw [<-Z01,<-Z01] at this
  simpa [List.getD,h1,h2] using this
theorem Yq(a b:Tree):Z2 a=Z2 b↔a.kind=b.kind/\(a.kind=0\/(if a.kind=1 then (∀ i:Nat,a.words.getD i 0=b.words.getD i 0) else a.words=b.words/\a.kids.length=b.kids.length)/\∀ i:Nat,Z2 (a.kids.getD i Tree.nil)=Z2 (b.kids.getD i Tree.nil)):=by
 obtain ⟨k,w,ks⟩:=a
 obtain ⟨k',w',ks'⟩:=b
 show _↔k=k'/\(k=0\/(if k=1 then (∀ i:Nat,w.getD i 0=w'.getD i 0) else w=w'/\ks.length=ks'.length)/\∀ i:Nat,Z2 (ks.getD i Tree.nil)=Z2 (ks'.getD i Tree.nil))
 by_cases hk:k=k'
 ·subst hk
  simp only [true_and]
  by_cases h0:k=0
  ·simp [Z2,h0]
  ·by_cases h1:k=1
   ·subst h1
    simp only [Z2,if_neg h0,if_true,Tree.mk.injEq,true_and,Z92,Z6v _ _ (Z6l _) (Z6l _),Z01]
    simp
   ·simp only [Z2,if_neg h0,if_neg h1,Tree.mk.injEq,true_and,Z7a]
    constructor
    ·rintro ⟨h2,h3,h4⟩;exact .inr ⟨⟨h2,h3⟩,h4⟩
    ·rintro (h | ⟨⟨h2,h3⟩,h4⟩)
     ·exact absurd h h0
     ·exact ⟨h2,h3,h4⟩
 ·simp only [hk,false_and,iff_false]
  intro h
  have:=congrArg Tree.kind h
  rw [Z6j,Z6j] at this
  exact hk this
theorem ZfN{a b:Tree}(h:Z2 a=Z2 b)(h0:a.kind≠0)(i:Nat):a.words.getD i 0=b.words.getD i 0:=by
 obtain ⟨_,h2⟩:=(Yq a b).1 h
 rcases h2 with h2 | ⟨h2,_⟩
 ·exact absurd h2 h0
 ·split at h2
  ·exact h2 i
  ·rw [h2.1]
theorem ZiK{a b:Tree}(h:Z2 a=Z2 b)(h0:a.kind≠0)(i:Nat):Z2 (a.kids.getD i Tree.nil)=Z2 (b.kids.getD i Tree.nil):=by
 obtain ⟨_,h2⟩:=(Yq a b).1 h
 rcases h2 with h2 | ⟨_,h2⟩
 ·exact absurd h2 h0
 ·exact h2 i
theorem Zcn(t:Tree)(i:Int):Zi (JA t i)<=Zi t/\(i < t.kids.length->0<=i->Zi (JA t i) < Zi t):=by
 obtain ⟨k,w,ks⟩:=t
 unfold JA
 have h1:Zi Tree.nil=1:=by simp [Tree.nil,Zi,Z7]
 split
 ·simp only [h1,Zi];omega
 ·simp only [Tree.kids_mk]
  by_cases hi:i.toNat < ks.length
  ·have:=Z0N hi
   simp only [Zi];omega
  ·rw [List.getD,Qu (by omega)]
   simp only [Option.getD_none,h1,Zi];omega
theorem Z9W:Contract Try.prog cfg 106 Jh:=by
 refine Zsa Zw1 ZmO c91 ?_
 rintro N a b _ hp hN
 have la:a.words.length+a.kids.length < Zi a:=by obtain ⟨k,w,ks⟩:=a;have:=Zv ks;simp only [Zi,Tree.words_mk,Tree.kids_mk];omega
 have lb:b.words.length+b.kids.length < Zi b:=by obtain ⟨k,w,ks⟩:=b;have:=Zv ks;simp only [Zi,Tree.words_mk,Tree.kids_mk];omega
 simp only [Z18,ZdC] at hp hN
 have no:¬Z2 a=Z2 b->YN cfg Try.f106.ntmps Try.f106.results.toList (Z67 (a,b,())) [] .ret (⟨[(4,.c (.bool false))],[],[]⟩:LSt U):=by
  intro h
  have e:ZT (Z2 a) (Z2 b)=false:=Jq.2 h
  simp only [Z67,e]
  exact ⟨⟨rfl,⟨rfl,trivial⟩,trivial⟩,trivial⟩
 refine ZxK N _ _ _ ?_;(try simp only [vcT,forall_eq])
 (simp only [vcS]);(try simp only [vcT])
 refine ⟨fun hc=> ?_,fun hc=> ?_⟩
 ·have e:ZT (Z2 a) (Z2 b)=(a.kind==b.kind):=by
   by_cases hk:a.kind=b.kind
   ·have h0:a.kind=0:=by rcases hc with h | h;exact absurd hk h;exact h
    rw [Z0F.2 ((Yq a b).2 ⟨hk,.inl h0⟩)]
    simp [hk]
   ·rw [Jq.2 (fun h=> hk ((Yq a b).1 h).1)]
    simp [hk]
  simp only [Z67,e]
  exact ⟨⟨rfl,⟨rfl,trivial⟩,trivial⟩,trivial⟩
 ·refine ⟨fun _=> by simp only [Zds];omega,fun h h'=> ⟨h,h'⟩,fun hd=> no ?_,fun hd=> ?_⟩
  ·intro h
   obtain ⟨_,h2⟩:=(Yq a b).1 h
   rcases h2 with h2 | ⟨h2,_⟩
   ·exact hc.2 h2
   ·rw [if_neg hd.1] at h2
    rcases hd.2 with h3 | h3
    ·exact h3 (by omega)
    ·exact h3 h2.1
  ·refine Zb (ι:=Int) (fun p=> Z5p a b p) (fun p=> 0<=p/\p<=2000000000000/\∀ j:Nat,j < p.toNat->a.words.getD j 0=b.words.getD j 0) (fun p=> (2000000000000 - p).toNat) 0 rfl ⟨by omega,by omega,fun j hj=> by simp at hj⟩ ?_
   rintro i ⟨h1,h2,h3⟩
   refine Znv N _ _ _ _ _ ?_;(try simp only [vcT,forall_eq])
   (simp only [vcS]);(try simp only [vcT])
   have wa:∀ t:Tree,Jm t i=t.words.getD i.toNat 0:=fun t=> by unfold Jm;rw [if_neg (by omega)]
   refine ⟨fun hi=> ⟨trivial,trivial,fun hn=> no fun h=> hn ?_,fun he=> ⟨?_,?_⟩⟩,fun hi=> ?_⟩
   ·rw [wa,wa]
    exact ZfN h hc.2 _
   ·unfold InR;split at hi <;> omega
   ·refine ⟨i+1,rfl,⟨by omega,by split at hi <;> omega,fun j hj=> ?_⟩,by split at hi <;> omega⟩
    by_cases hj':j < i.toNat
    ·exact h3 j hj'
    ·have:j=i.toNat:=by omega
     rw [this,<-wa,<-wa]
     exact he
   ·have hw:∀ j:Nat,a.words.getD j 0=b.words.getD j 0:=fun j=> by
     by_cases hj:j < i.toNat
     ·exact h3 j hj
     ·split at hi <;> rw [List.getD,List.getD,Qu (by omega),Qu (by omega)]
    refine Zb (ι:=Int) (fun p=> Z5o a b p) (fun p=> 0<=p/\p<=2000000000000/\∀ j:Nat,j < p.toNat->Z2 (a.kids.getD j Tree.nil)=Z2 (b.kids.getD j Tree.nil)) (fun p=> (2000000000000 - p).toNat) 0 rfl ⟨by omega,by omega,fun j hj=> by simp at hj⟩ ?_
    rintro q ⟨h5,h6,h7⟩
    refine Znu N _ _ _ _ _ ?_;(try simp only [vcT,forall_eq])
    (simp only [vcS]);(try simp only [vcT])
    have ka:∀ t:Tree,JA t q=t.kids.getD q.toNat Tree.nil:=fun t=> by unfold JA;rw [if_neg (by omega)]
    have ma:=Zcn a q
    have mb:=Zcn b q
    try (simp only [Tree.eta,Edit.eta,Tree.kind_mk,Tree.words_mk,Tree.kids_mk])
    refine ⟨fun hq=> ⟨trivial,trivial,?_,?_,fun hn=> no fun h=> ?_,fun he=> ⟨?_,?_⟩⟩,fun hq=> ?_⟩
    ·simp only [Z18];omega
    ·simp only [ZdC];split at hq <;> omega
    ·rw [Jq] at hn
     apply hn
     rw [ka,ka]
     exact ZiK h hc.2 _
    ·unfold InR;split at hq <;> omega
    ·refine ⟨q+1,rfl,⟨by omega,by split at hq <;> omega,fun j hj=> ?_⟩,by split at hq <;> omega⟩
     by_cases hj':j < q.toNat
     ·exact h7 j hj'
     ·have:j=q.toNat:=by omega
      rw [this,<-ka,<-ka]
      exact Z0F.1 he
    ·have hk:∀ j:Nat,Z2 (a.kids.getD j Tree.nil)=Z2 (b.kids.getD j Tree.nil):=fun j=> by
      by_cases hj:j < q.toNat
      ·exact h7 j hj
      ·split at hq <;> rw [List.getD,List.getD,Qu (by omega),Qu (by omega)]
     have e:ZT (Z2 a) (Z2 b)=true:=by
      rw [Z0F,Yq]
      refine ⟨hc.1,.inr ⟨?_,hk⟩⟩
      split
      ·exact hw
      ·rename_i h1
       rcases hd with hd | hd
       ·exact absurd hd h1
       ·exact ⟨hd.2,by have:=hd.1;omega⟩
     simp only [Z67,e]
     exact ⟨⟨rfl,⟨rfl,trivial⟩,trivial⟩,trivial⟩
mutual
theorem Z0g:∀ (t:Tree) (d l:Int),0<=Zz t d l->(Zi t:Int)+Zz t d l<=l
 | .mk _ w ks,d,l,h=> by
  simp only [Zz] at h ⊢
  split at h
  ·omega
  ·rename_i hc
   rw [if_neg hc]
   have:=Z2t ks (d - 1) (l - 1 - w.length) h
   simp only [Zi]
   omega
theorem Z2t:∀ (ks:List Tree) (d l:Int),0<=Zr ks d l->(Z7 ks:Int)+Zr ks d l<=l
 | [],d,l,h=> by simp [Zr,Z7]
 | t ::r,d,l,h=> by
  simp only [Zr] at h ⊢
  split at h
  ·omega
  ·rename_i hc
   rw [if_neg hc]
   have h1:=Z2t r d (Zz t d l) h
   have h3:=(Z0h r d (Zz t d l) (Yr t d l).1).2
   have h2:=Z0g t d l (by omega)
   simp only [Z7]
   omega
end
theorem Ze{n k:Nat}{rs:List ResultVar}{b b':Bool}(hr:rs=[ResultVar.tmp k])(h:b=b'):YN cfg n rs (.c (.bool b')) [] .ret (⟨[(k,.c (.bool b))],[],[]⟩:LSt U):=by
 subst hr h
 have hk:Nat.beq k k=true:=Kc k
 simp [YN,Zwp,Ze3,Ze2,Z66,Z8i,LSt.toF,ZcV,hk,ZbV,Z2u,YB,JN,leR,leL,leC,Zn1]
theorem Yx{n k:Nat}{rs:List ResultVar}{K:IntKind}{b b':Int}(hr:rs=[ResultVar.tmp k])(h:b=b'):YN cfg n rs (.c (.int K b')) [] .ret (⟨[(k,.c (.int K b))],[],[]⟩:LSt U):=by
 subst hr h
 have hk:Nat.beq k k=true:=Kc k
 simp [YN,Zwp,Ze3,Ze2,Z66,Z8i,LSt.toF,ZcV,hk,ZbV,Z2u,YB,JN,leR,leL,leC,Zn1]
theorem Zw3:Contract Try.prog cfg 116 Z6J:=by
 refine Zs6 ?_
 intro c _ _
 refine ZxC _ _ ?_;(try simp only [vcT,forall_eq])
 (simp only [vcS]);(try simp only [vcT])
 refine ⟨fun h=> Yx rfl ?_,fun h=> ⟨fun h=> Yx rfl ?_,fun h=> ⟨fun h=> Yx rfl ?_,fun h=> ⟨fun h=> Yx rfl ?_,fun h=> ⟨fun h=> Yx rfl ?_,fun h=> ⟨fun h=> Yx rfl ?_,fun h=> Yx rfl ?_⟩⟩⟩⟩⟩⟩ <;> simp only [wd] <;> simp [*]
theorem Zx4(c:Int): -1<=wd c/\wd c<=64:=by
 unfold wd
 repeat' split
 all_goals omega
theorem ZhF(n:Int)(h0:0<=n)(h1:n < 18446744073709551616):IntKind.wrap .u64 (Int.tdiv n 2)=n / 2:=by
 rw [XP h0]
 simp [IntKind.wrap,IntKind.signed,IntKind.bits]
 omega
theorem Zoi{w:Nat}{n m:Int}(h:0<=n):(n / 2 < 2 ^ w)↔n < 2 ^ (w+1):=by
 have:(2:Int) ^ (w+1)=2 ^ w*2:=by rw [Kt]
 omega
theorem c79:Contract Try.prog cfg 79 Zb3:=by
 refine ZuQ Zw3 ?_
 intro c n _ hp
 simp only [ZjM] at hp
 have hw:=Zx4 c
 refine ZyL _ _ _ ?_;(try simp only [vcT,forall_eq])
 (simp only [vcS]);(try simp only [vcT])
 refine ⟨trivial,fun h=> Ze rfl ?_,fun h=> ?_⟩
 ·simp only [ZmB]
  simp
  omega
 ·refine Zb (ι:=Int × Int) (fun p=> Z7v c n p.1 p.2) (fun p=> 0<=p.2/\p.2<=wd c/\0<=p.1/\p.1 < 18446744073709551616/\(n < 2 ^ (wd c).toNat↔p.1 < 2 ^ (wd c - p.2).toNat)) (fun p=> (wd c - p.2).toNat) (n,0) rfl ⟨by dsimp only;omega,by dsimp only;omega,by dsimp only;omega,by dsimp only;omega,by simp⟩ ?_
  rintro ⟨m,i⟩ ⟨h1,h2,h3,h4,h5⟩
  dsimp only at*
  refine ZqL _ _ _ _ _ _ ?_;(try simp only [vcT,forall_eq])
  (simp only [vcS]);(try simp only [vcT])
  refine ⟨fun hc=> ⟨by omega,by unfold InR;omega,(IntKind.wrap .u64 (Int.tdiv m 2),i+1),rfl,?_,by dsimp only;omega⟩,fun hc=> Ze rfl ?_⟩
  ·rw [ZhF m h3 h4]
   refine ⟨by dsimp only;omega,by dsimp only;omega,by dsimp only;omega,by dsimp only;omega,?_⟩
   dsimp only
   rw [h5,show (wd c - i).toNat=(wd c - (i+1)).toNat+1 by omega]
   exact (Zoi (m:=0) h3).symm
  ·have e:(wd c - i).toNat=0:=by omega
   rw [e] at h5
   simp only [ZmB]
   rw [QD]
   simp
   omega
theorem ZnL{t:Tree}(h:rng t){i:Nat}(hi:i < t.words.length):0<=t.words.getD i 0/\t.words.getD i 0 < 18446744073709551616:=by
 obtain ⟨k,w,ks⟩:=t
 simp only [rng] at h
 simp only [Tree.words_mk] at*
 have hg:w.getD i 0∈w:=by
  simp only [List.getD,Q4 hi,Xi]
  exact XM hi
 exact h.2.1 _ hg
theorem Zgg{l:Int}{ks:List Tree}{i:Int}{d:Int}(h0:0<=i)(h:i < ks.length):
  ZZ l (ks.drop i.toNat) d=((Z3P l (ks.getD i.toNat Tree.nil) && Zh (ks.getD i.toNat Tree.nil) d) && ZZ l (ks.drop (i+1).toNat) d):=by
 have e:(i+1).toNat=i.toNat+1:=by omega
 rw [QQ (by omega),e]
 simp only [ZZ,List.getD,Q4 (show i.toNat < ks.length by omega),Xi]
theorem Zgc:∀ {ks:List Tree} {i:Nat},ZU ks->i < ks.length->rng (ks.getD i Tree.nil)
 | t ::_,0,h,_=> by simp only [ZU] at h;exact h.1
 | _ ::r,i+1,h,hi=> by simp only [ZU] at h;exact Zgc (ks:=r) (i:=i) h.2 (by simpa using hi)
theorem Zgd{y:Tree}{d:Int}(h:Zh y d=true)(hk:y.kind=10):y.words.length=1/\y.kids.length=0:=by
 obtain ⟨k,w,ks⟩:=y
 simp only [Tree.kind_mk] at hk
 subst hk
 simpa [Zh] using h
theorem c37:Contract Try.prog cfg 37 Z3m:=by
 refine Zv3 c79 ?_
 rintro N ⟨k,ws,ks⟩ d _ hp hN
 simp only [Z49,mu117,Zi,rng] at hp hN
 refine Zz2 N _ _ _ ?_;(try simp only [vcT,forall_eq])
 (simp only [vcS]);(try simp only [vcT])
 try (simp only [Tree.eta,Edit.eta,Tree.kind_mk,Tree.words_mk,Tree.kids_mk])
 refine ⟨fun h0=> Ze rfl ?_,fun h0=> ⟨fun h10=> Ze rfl ?_,fun h10=> ⟨fun a b=> ⟨a,b⟩,fun hc=> Ze rfl ?_,fun hc=> ⟨fun hw=> Ze rfl ?_,fun hw=> ?_⟩⟩⟩⟩
 ·simp only [Zh,if_pos h0]
  rw [QD];(simp only [vcS]);omega
 ·simp only [Zh,if_neg h0,if_pos h10]
  rw [QD];(simp only [vcS]);omega
 ·simp only [Zh,if_neg h0,if_neg h10]
  split
  ·try rfl
  ·split
   ·rw [decide_eq_false (by omega)];try rfl
   ·have:¬(2<=k/\k<=9/\ws.length=0/\ks.length < 1048576):=by omega
    rw [decide_eq_false this];try rfl
 ·simp only [Zh,if_neg h0,if_neg h10]
  rw [if_neg (by omega),if_neg (by omega)]
  have:¬(2<=k/\k<=9/\ws.length=0/\ks.length < 1048576):=by omega
  rw [decide_eq_false this];try rfl
 ·have hb:Zh (.mk k ws ks) d=ZZ k ks (d - 1):=by
   simp only [Zh,if_neg h0,if_neg h10]
   rw [if_neg (by omega)]
   split
   ·rename_i h1
    rw [decide_eq_true (by omega),h1];try rfl
   ·have:2<=k/\k<=9/\ws.length=0/\ks.length < 1048576:=by omega
    rw [decide_eq_true this];try rfl
  refine Zb (ι:=Int) (fun p=> Z7K (.mk k ws ks) d p) (fun p=> 0<=p/\p<=ks.length/\Zh (.mk k ws ks) d=ZZ k (ks.drop p.toNat) (d - 1)) (fun p=> ((ks.length:Int) - p).toNat) 0 rfl ⟨by omega,by omega,by simpa using hb⟩ ?_
  rintro i ⟨h1,h2,h3⟩
  refine Zr3 N _ _ _ _ _ ?_;(try simp only [vcT,forall_eq])
  (simp only [vcS]);(try simp only [vcT])
  try (simp only [Tree.eta,Edit.eta,Tree.kind_mk,Tree.words_mk,Tree.kids_mk])
  refine ⟨fun hi=> ?_,fun hi=> ?_⟩
  ·have hd:=Zgg (l:=k) (d:=d - 1) h1 hi
   have hm:=Z0N (ks:=ks) (i:=i.toNat) (by omega)
   have hr:=Zgc (i:=i.toNat) hp.2.1.2.2 (by omega)
   rw [hd] at h3
   have hlen:=Zv ks
   generalize ks.getD i.toNat Tree.nil=y at*
   have hpre:Z49 (y,d - 1,()):=⟨by dsimp only;omega,hr,by dsimp only;omega,by dsimp only;omega⟩
   have hmu:mu117 (y,d - 1,()) < N:=by simp only [mu117];omega
   have hin:InR (d - 1):=by unfold InR;omega
   refine ⟨⟨h1,hi⟩,hin,hpre,hmu,fun hf=> Ze rfl ?_,fun hf=> ?_⟩
   ·rw [h3,hf];simp
   ·have hdata:((bif decide (2<=k) then decide (k<=7) else false)=(y.kind==10))↔((2<=k/\k<=7)↔y.kind=10):=by
     rw [QD];(simp only [vcS])
    have hat:=Zgd hf
    have hkb:Z3P k y=true↔(((2<=k/\k<=7)↔y.kind=10)/\(¬k=9\/y.kind=1))/\((¬2<=k\/¬k<=7)\/ZmB (k - 2) (y.words.getD 0 0)=true):=by
     unfold Z3P
     by_cases hk:2<=k/\k<=7
     ·rw [if_pos hk]
      (simp only [vcS])
      constructor
      ·rintro ⟨h4,h5⟩;exact ⟨⟨by omega,by omega⟩,.inr h5⟩
      ·rintro ⟨⟨h4,_⟩,h5⟩
       have:=hat (by omega)
       exact ⟨by omega,by rcases h5 with h5 | h5;omega;exact h5⟩
     ·rw [if_neg hk]
      by_cases h9:k=9
      ·rw [if_pos h9]
       (simp only [vcS])
       constructor
       ·intro h4;exact ⟨⟨by omega,by omega⟩,.inl (by omega)⟩
       ·rintro ⟨⟨_,h4⟩,_⟩;omega
      ·rw [if_neg h9]
       (simp only [vcS])
       constructor
       ·intro h4;exact ⟨⟨by omega,by omega⟩,.inl (by omega)⟩
       ·rintro ⟨⟨h4,_⟩,_⟩;omega
    have hone:∀ (h4:(((bif decide (2<=k) then decide (k<=7) else false)=(y.kind==10)/\(¬k=9\/y.kind=1))/\2<=k/\k<=7)),y.words.length=1:=fun h4=> (hat ((hdata.1 h4.1.1).1 h4.2)).1
    simp only [Int.toNat_zero]
    refine ⟨fun a b=> ⟨a,b⟩,fun h4=> by unfold InR;omega,fun h4=> by have:=hone h4;omega,fun h4=> ZnL hr (by have:=hone h4;omega),fun a b=> ⟨a,b⟩,fun h4=> Ze rfl ?_,fun h4=> ⟨by unfold InR;omega,i+1,rfl,⟨by omega,by omega,?_⟩,by omega⟩⟩
    ·have hno:Z3P k y=false:=by
      cases hkk:Z3P k y with
      | false=> rfl
      | true=>
       exfalso
       obtain ⟨h5,h6⟩:=hkb.1 hkk
       rcases h4 with h4 | ⟨h4,h7⟩
       ·rcases h4 with h4 | h4
        ·exact h4 (hdata.2 h5.1)
        ·omega
       ·rcases h6 with h6 | h6
        ·omega
        ·rw [h7] at h6;cases h6
     rw [h3,hno];try rfl
    ·rw [h3,hkb.2 ⟨⟨hdata.1 h4.1.1,h4.1.2⟩,h4.2⟩,hf];try rfl
  ·rw [QE (by omega)] at h3
   simp only [ZZ] at h3
   exact Ze rfl h3.symm
theorem ZdQ{t:Tree}(h:0<=Zz t 80 3000):Zi t<=20000000000:=by
 have:=Z0g t 80 3000 h
 omega
end Go.AM.Ytpjenobkibfpcaa
