import Derived.Test.YtpjenobkibfpcaaCmZ
import Derived.Test.YtpjenobkibfpcaaChecked
import Derived.Test.YtpjenobkibfpcaaRows
import Derived.Test.YtpjenobkibfpcaaCmX
import Derived.Test.YtpjenobkibfpcaaCmXE
import Derived.ProofKit
import Derived.Test.YtpjenobkibfpcaaKD07
set_option linter.unusedSimpArgs false
set_option linter.unusedVariables false
namespace Go.AM.Ytpjenobkibfpcaa
open Go.AM Go.Proofs
def el:Ty→TypeId
 | .u64=> 40
 | .u8=> 5
 | .int=> 3
 | .tree=> 25
 | .wedit=> 42
 | .edit=> 31
 | .kid=> 84
 | .op=> 82
 | .piece=> 150
 | .unit=> 164
 | .pair=> 166
 | .step=> 58
 | .deed=> 70
def tb:Tables U:=
 {el:=el
  sl:=[(22,.u64),(23,.tree),(26,.step),(27,.wedit),(28,.kid),(29,.op),(64,.edit),(94,.u8),(146,.piece),(153,.int),(158,.pair),(161,.unit)]
  var:=[(2,false,[.int .i64 0]),
   (3,false,[.int .i64 0]),
   (4,false,[.bool false]),
   (5,false,[.int .u8 0]),
   (6,false,[.int .u8 0]),
   (7,true,[.int .i64 0,.int .i64 0,.bool false,.int .u8 0]),
   (8,true,[.int .i64 0,.int .i64 0,.bool false,.int .u8 0]),
   (12,false,[.int .u64 0]),
   (15,false,[.nilp]),
   (16,false,[.nilp]),
   (17,false,[.nilp]),
   (18,true,[.nilp]),
   (19,true,[.nilp]),
   (21,false,[.int .i32 0]),
   (22,false,[.nils]),
   (23,false,[.nils]),
   (24,true,[.int .i64 0,.nils,.nils]),
   (25,true,[.int .i64 0,.nils,.nils]),
   (26,false,[.nils]),
   (27,false,[.nils]),
   (28,false,[.nils]),
   (29,false,[.nils]),
   (30,true,[.int .i64 0,.int .i64 0,.nils,.nils,.int .i64 0,.nils,.nils,.nils,.nils,.int .i64 0,.nils]),
   (31,true,[.int .i64 0,.int .i64 0,.nils,.nils,.int .i64 0,.nils,.nils,.nils,.nils,.int .i64 0,.nils]),
   (40,false,[.int .u64 0]),
   (41,true,[.int .i64 0,.int .u8 0,.int .u64 0,.int .u64 0]),
   (42,true,[.int .i64 0,.int .u8 0,.int .u64 0,.int .u64 0]),
   (57,true,[.int .i64 0,.int .i64 0]),
   (58,true,[.int .i64 0,.int .i64 0]),
   (60,false,[.int .i64 0]),
   (64,false,[.nils]),
   (66,false,[.nilp]),
   (69,true,[.int .i64 0,.int .i64 0,.int .i64 0,.int .i64 0,.nils,.nils,.int .i64 0,.nils,.nils,.nils,.nils,.int .i64 0,.nils]),
   (70,true,[.int .i64 0,.int .i64 0,.int .i64 0,.int .i64 0,.nils,.nils,.int .i64 0,.nils,.nils,.nils,.nils,.int .i64 0,.nils]),
   (81,true,[.int .i64 0,.int .i64 0,.nils,.int .i64 0,.int .i64 0,.nils,.nils,.int .i64 0,.nils,.nils,.nils,.nils,.int .i64 0,.nils]),
   (82,true,[.int .i64 0,.int .i64 0,.nils,.int .i64 0,.int .i64 0,.nils,.nils,.int .i64 0,.nils,.nils,.nils,.nils,.int .i64 0,.nils]),
   (83,true,[.int .i64 0,.int .i64 0,.int .i64 0,.nils,.nils,.int .i64 0,.nils,.nils,.nils,.nils,.int .i64 0,.nils]),
   (84,true,[.int .i64 0,.int .i64 0,.int .i64 0,.nils,.nils,.int .i64 0,.nils,.nils,.nils,.nils,.int .i64 0,.nils]),
   (90,true,[.int .u8 0,.int .u8 0,.int .u8 0,.int .u8 0,.int .u8 0,.int .u8 0,.int .u8 0,.int .u8 0]),
   (94,false,[.nils]),
   (101,false,[.nilp]),
   (102,true,[.bool false,.bool false]),
   (103,true,[.bool false,.bool false]),
   (108,true,[.int .i64 0,.nils,.nils,.nils,.nils]),
   (109,true,[.int .i64 0,.nils,.nils,.nils,.nils]),
   (135,false,[.nilp]),
   (136,true,[.nils,.nils,.nils]),
   (137,true,[.nils,.nils,.nils]),
   (140,false,[.nilp]),
   (146,false,[.nils]),
   (149,true,[.int .i64 0,.int .i64 0,.int .i64 0,.nils,.int .i64 0,.int .i64 0,.nils,.nils,.int .i64 0,.nils,.nils,.nils,.nils,.int .i64 0,.nils,.int .i64 0,.int .i64 0,.nils,.int .i64 0,.int .i64 0,.nils,.nils,.int .i64 0,.nils,.nils,.nils,.nils,.int .i64 0,.nils]),
   (150,true,[.int .i64 0,.int .i64 0,.int .i64 0,.nils,.int .i64 0,.int .i64 0,.nils,.nils,.int .i64 0,.nils,.nils,.nils,.nils,.int .i64 0,.nils,.int .i64 0,.int .i64 0,.nils,.int .i64 0,.int .i64 0,.nils,.nils,.int .i64 0,.nils,.nils,.nils,.nils,.int .i64 0,.nils]),
   (153,false,[.nils]),
   (158,false,[.nils]),
   (161,false,[.nils]),
   (163,true,[.int .i64 0,.int .i64 0,.int .i64 0,.nils,.nils,.int .i64 0,.int .i64 0,.nils,.nils,.int .i64 0,.nils,.nils,.nils,.nils,.int .i64 0,.nils,.bool false]),
   (164,true,[.int .i64 0,.int .i64 0,.int .i64 0,.nils,.nils,.int .i64 0,.int .i64 0,.nils,.nils,.int .i64 0,.nils,.nils,.nils,.nils,.int .i64 0,.nils,.bool false]),
   (165,true,[.int .i64 0,.int .i64 0,.int .i64 0,.int .i64 0,.nils,.nils,.int .i64 0,.int .i64 0,.nils,.nils,.int .i64 0,.nils,.nils,.nils,.nils,.int .i64 0,.nils,.bool false,.int .i64 0,.int .i64 0,.int .i64 0,.nils,.nils,.int .i64 0,.int .i64 0,.nils,.nils,.int .i64 0,.nils,.nils,.nils,.nils,.int .i64 0,.nils,.bool false]),
   (166,true,[.int .i64 0,.int .i64 0,.int .i64 0,.int .i64 0,.nils,.nils,.int .i64 0,.int .i64 0,.nils,.nils,.int .i64 0,.nils,.nils,.nils,.nils,.int .i64 0,.nils,.bool false,.int .i64 0,.int .i64 0,.int .i64 0,.nils,.nils,.int .i64 0,.int .i64 0,.nils,.nils,.int .i64 0,.nils,.nils,.nils,.nils,.int .i64 0,.nils,.bool false]),
   (176,false,[.nilp]),
   (177,true,[.nilp,.nils,.nils,.nils,.nils]),
   (178,true,[.nilp,.nils,.nils,.nils,.nils]),
   (186,false,[.nilp]),
   (187,true,[.nils,.int .i64 0]),
   (188,true,[.nils,.int .i64 0]),
   (206,true,[.int .i64 0,.int .i64 0,.int .i64 0,.int .i64 0,.int .i64 0,.int .i64 0]),
   (214,false,[.int .u32 0]),
   (215,false,[.int .u8 0]),
   (216,false,[.int .u8 0]),
   (218,false,[.nilp]),
   (219,false,[.int .i32 0]),
   (220,false,[.int .i32 0])]
  fld:=[(7,0,0,2),(7,1,1,3),(7,2,2,4),(7,3,3,6),(8,0,0,2),(8,1,1,3),(8,2,2,4),(8,3,3,6),(18,0,0,17),(19,0,0,17),(24,0,0,3),(24,1,1,22),(24,2,2,23),(25,0,0,3),(25,1,1,22),(25,2,2,23),(30,0,0,3),(30,1,1,25),(30,2,4,25),(30,3,7,27),(30,4,8,28),(30,5,9,3),(30,6,10,29),(31,0,0,3),(31,1,1,25),(31,2,4,25),(31,3,7,27),(31,4,8,28),(31,5,9,3),(31,6,10,29),(41,0,0,3),(41,1,1,5),(41,2,2,40),(41,3,3,40),(42,0,0,3),(42,1,1,5),(42,2,2,40),(42,3,3,40),(57,0,0,3),(57,1,1,3),(58,0,0,3),(58,1,1,3),(69,0,0,3),(69,1,1,3),(69,2,2,31),(70,0,0,3),(70,1,1,3),(70,2,2,31),(81,0,0,3),(81,1,1,3),(81,2,2,23),(81,3,3,31),(82,0,0,3),(82,1,1,3),(82,2,2,23),(82,3,3,31),(83,0,0,3),(83,1,1,31),(84,0,0,3),(84,1,1,31),(102,0,0,4),(102,1,1,4),(103,0,0,4),(103,1,1,4),(108,0,0,25),(108,1,3,64),(108,2,4,64),(109,0,0,25),(109,1,3,64),(109,2,4,64),(136,0,0,29),(136,1,1,23),(136,2,2,23),(137,0,0,29),(137,1,1,23),(137,2,2,23),(149,0,0,3),(149,1,1,82),(149,2,15,82),(150,0,0,3),(150,1,1,82),(150,2,15,82),(163,0,0,3),(163,1,1,3),(163,2,2,25),(163,3,5,31),(163,4,16,4),(164,0,0,3),(164,1,1,3),(164,2,2,25),(164,3,5,31),(164,4,16,4),(165,0,0,3),(165,1,1,164),(165,2,18,164),(166,0,0,3),(166,1,1,164),(166,2,18,164),(177,0,0,101),(177,1,1,29),(177,2,2,29),(177,3,3,23),(177,4,4,23),(178,0,0,101),(178,1,1,29),(178,2,2,29),(178,3,3,23),(178,4,4,23),(187,0,0,29),(187,1,1,3),(188,0,0,29),(188,1,1,3)]
  arr:=[(90,8,5),(206,6,3)]
  eqs:=[41,42,57,58] }
def cfg:Cfg U:=tb.cfg K
theorem Zvp:tb.var.all (ZoX Try.prog)=true:=by kernel_rfl
theorem Zx2:tb.sl.all (slB Try.prog tb.el)=true:=by kernel_rfl
theorem ZvE:tb.fld.all (Zth Try.prog)=true:=by kernel_rfl
theorem ZvK:tb.arr.all (ZtR Try.prog)=true:=by kernel_rfl
theorem Zx4:∀ t,elB Try.prog K tb t=true:=by
 intro t
 cases t
 ·kernel_rfl
 ·kernel_rfl
 ·kernel_rfl
 ·kernel_rfl
 ·kernel_rfl
 ·kernel_rfl
 ·kernel_rfl
 ·kernel_rfl
 ·kernel_rfl
 ·kernel_rfl
 ·kernel_rfl
 ·kernel_rfl
 ·kernel_rfl
theorem Zk:CfgOk Try.prog cfg:=ZjD Zxa Zvp Zx2 ZvE ZvK Zx4 (by kernel_rfl) (by kernel_rfl)
abbrev sU(T:Ty)(l:List (El T))(t:Tail):C U:= .slice (U:=U) T l t
noncomputable abbrev AW(K:Known U)(f:Func)(lv:Zi U)(p:List Nat):=awp cfg K (Zx cfg K) f.ntmps lv (cd f p)
noncomputable abbrev SW(K:Known U)(f:Func)(lv:Zi U)(p:List Nat):=Z3K cfg K (Zx cfg K) f.ntmps lv (cd f p)
abbrev EQ(f:Func):=Jg cfg f.ntmps f.results.toList
abbrev QT:=AExit→LSt U→Prop
abbrev NT:=LSt U→Prop
abbrev CT(k:FuncId)(s:Fs U):Prop:=Contract Try.prog cfg k s
abbrev xB:=@AExit.inBlock U
abbrev xT:=@AExit.then U
abbrev ci(x:Int):C U:= .int .i64 x
abbrev L2(e:List (Nat × V U))(m:List (Name × List (C U))):LSt U:=⟨e,m,[]⟩
def lvl(l:List (List Nat × List Nat)):Zi U:=fun i=> ((l.getD i ([],[])).1.map fun k=> (k,[]),(l.getD i ([],[])).2.map fun k=> (.loc k,[]))
abbrev zc0:List (C U):=[.int .u8 0,.int .u8 0,.int .u8 0,.int .u8 0,.int .u8 0,.int .u8 0,.int .u8 0,.int .u8 0]
abbrev zc1:List (C U):=[.int .i64 0,.int .i64 0,.nils,.nils,.int .i64 0,.nils,.nils,.nils,.nils,.int .i64 0,.nils]
abbrev zc2:List (C U):=[.int .i64 0,.int .i64 0,.nils,.int .i64 0,.int .i64 0,.nils,.nils,.int .i64 0,.nils,.nils,.nils,.nils,.int .i64 0,.nils]
end Go.AM.Ytpjenobkibfpcaa
namespace Go.AM.Ytpjenobkibfpcaa
open Go.AM Go.Proofs Go.Proofs.Ytpjenobkibfpcaa Go.ChangeShapes Go.WideShapes Go.RowKit
theorem own:ownKnob Try.prog.godebug=none:=by kernel_rfl
theorem Zq9:laidOutB Try.prog=true:=by kernel_rfl
theorem Zby:TreeTypes cfg:=⟨rfl,rfl,⟨_,rfl⟩,⟨_,rfl⟩,⟨_,rfl,rfl⟩,⟨_,_,rfl,rfl⟩,⟨_,_,rfl,rfl,rfl⟩,⟨_,_,rfl,rfl,rfl⟩⟩
theorem Zks:EditTypes cfg:=⟨⟨_,rfl,rfl⟩,⟨_,_,rfl,rfl⟩,⟨_,_,rfl,rfl⟩,⟨_,_,rfl,rfl⟩,⟨_,_,rfl,rfl⟩,⟨_,rfl,rfl⟩,⟨_,_,rfl,rfl⟩,rfl,⟨_,rfl,rfl⟩,⟨_,_,rfl,rfl⟩,⟨_,_,rfl,rfl⟩,⟨_,_,rfl,rfl,rfl⟩,rfl,⟨_,rfl,rfl⟩,⟨_,_,rfl,rfl⟩,rfl,rfl,⟨_,_,rfl,rfl,rfl⟩,⟨_,_,rfl,rfl,rfl⟩,⟨_,_,rfl,rfl⟩,⟨_,_,rfl,rfl,rfl⟩⟩
theorem Zqq{H:Type}{henc:TypeId × Value→H}:ZkS henc Try.prog cfg (aEl .tree) 25 inT:=Zjf Zk rfl ⟨_,_,rfl⟩ (fun _ n cs h=> Z9g Zk Zby n cs h)
theorem Zqs{H:Type}{henc:TypeId × Value→H}:ZkS henc Try.prog cfg (aEl .edit) 31 inE:=Zjf Zk rfl ⟨_,_,rfl⟩ (fun _ n cs h=> Zp7 Zk Zby Zks n cs h)
end Go.AM.Ytpjenobkibfpcaa
namespace Go.AM.Ytpjenobkibfpcaa
open Go.AM Go.Proofs Go.Proofs.Ytpjenobkibfpcaa Go.ChangeShapes Go.WideShapes Go.RowKit
def inS(s:PStep):Prop:=(IntKind.min .i64≤s.kind∧s.kind≤IntKind.max .i64)∧IntKind.min .i64≤s.at_∧s.at_≤IntKind.max .i64
theorem Zp6{H:Type}{henc:TypeId × Value→H}{w:World}{n:Nat}{cs:List Value}(h:Rdd henc Try.prog w n (cfg.elT .step) cs):∃ e:PStep,RelS cfg w.cell? cs (cfg.enc .step e)∧inS e:=by
 obtain ⟨m,rfl,hl,r0⟩:=Yw Zk (t:=cfg.elT .step) (i:=0) (off:=0) (ft:=3) (ag:=false) (zs:=[.int .i64 0]) rfl rfl h
 obtain ⟨m',e',_,r1⟩:=Yw Zk (t:=cfg.elT .step) (i:=1) (off:=1) (ft:=3) (ag:=false) (zs:=[.int .i64 0]) rfl rfl h
 cases e'
 have hl2:cs.length=2:=by rw [hl,Ja Zk (t:=cfg.elT .step) (ag:=true) (zs:=[.int .i64 0,.int .i64 0]) rfl];try rfl
 obtain ⟨a,a1,a2⟩:=Z06 Zk (k:= .i64) (n0:=0) rfl r0
 obtain ⟨b,b1,b2⟩:=Z06 Zk (k:= .i64) (n0:=0) rfl r1
 exact ⟨⟨a,b⟩,a1.glue rfl (by simp;omega) (b1.glue rfl (by simp;omega) (RelS.done (n:=2) hl2)),a2,b2⟩
theorem Zfs{H:Type}{henc:TypeId × Value→H}:ZkS henc Try.prog cfg (aSl .step) 26 (fun l=> l.length*cfg.bytes .step≤reachBytes∧∀ e∈l,inS e):=
 Zqr Zk rfl (fun _ n cs h=> Zp6 h)
theorem ZiF{l:List PStep}(h:l.length*cfg.bytes .step≤reachBytes∧∀ e∈l,inS e):∀ s∈l,isI s.kind∧isI s.at_:=fun s hs=> h.2 s hs
end Go.AM.Ytpjenobkibfpcaa
namespace Go.AM.Ytpjenobkibfpcaa
open Go.AM Go.Proofs
noncomputable section
def ZgY:ArgL (Tree × Int × Int × Unit):=(.cons (aEl .tree) (.cons (Yt .i64) (.cons (Yt .i64) .nil)))
def Z6j(a:Tree × Int × Int × Unit):Prop:=Z1n a.1∧0≤a.2.1∧a.2.1≤4611686018427387904∧-1≤a.2.2.1∧a.2.2.1≤4611686018427387904
def Zk2(a:Tree × Int × Int × Unit):Nat:=Zj a.1
def Ze9(a:Tree × Int × Int × Unit):V U:= .c (ci (ZA a.1 a.2.1 a.2.2.1))
def Z3D:Fs U:=fs ZgY (fun a=> [Z6j a]) Ze9
def ZnS:ArgL (Tree × Unit):=(.cons (aEl .tree) .nil)
def ZhY(a:Tree × Unit):Prop:=Z1n a.1
def Zrj(a:Tree × Unit):V U:= .c (.bool (decide (0≤ZA a.1 80 3000)))
def Z9Q:Fs U:=fs ZnS (fun a=> [ZhY a]) Zrj
def ZnG:ArgL (List Int × List Int × Unit):=(.cons (aSl .u64) (.cons (aSl .u64) .nil))
def ZbS(a:List Int × List Int × Unit):Prop:=a.1.length≤1000000000000
def Zea(a:List Int × List Int × Unit):V U:= .c (.bool (decide (a.1=a.2.1)))
def Z9E:Fs U:=fs ZnG (fun a=> [ZbS a]) Zea
def ZnD:ArgL (List Int × Unit):=(.cons (aSl .u64) .nil)
def Zej(a:List Int × Unit):Prop:=a.1.length≤1000000000000
def ZlD(a:List Int × Unit):V U:= .c (sU .u64 (trim a.1) .unk)
def Z9C:Fs U:=fs ZnD (fun a=> [Zej a]) ZlD
def Zjb:ArgL (List Int × Unit):=(.cons (aSl .u64) .nil)
def Zar(a:List Int × Unit):Prop:=a.1.length≤1000000000000
def ZlY(a:List Int × Unit):V U:= .c (sU .u64 a.1 .unk)
def Z6a:Fs U:=fs Zjb (fun a=> [Zar a]) ZlY
def Zj4:ArgL (List Int × List Int × Unit):=(.cons (aSl .u64) (.cons (aSl .u64) .nil))
def Zaq(a:List Int × List Int × Unit):Prop:=a.1.length≤1000000000000
def Zad(a:List Int × List Int × Unit):V U:= .c (.bool (decide (a.1=a.2.1)))
def Z67:Fs U:=fs Zj4 (fun a=> [Zaq a]) Zad
def Zj3:ArgL (Tree × Int × Unit):=(.cons (aEl .tree) (.cons (Yt .i64) .nil))
def Z7B(a:Tree × Int × Unit):Prop:=True
def ZcP(a:Tree × Int × Unit):V U:= .c (.int .u64 (YX a.1 a.2.1))
def Z0M:Fs U:=fs Zj3 (fun a=> [Z7B a]) ZcP
def ZnC:ArgL (Tree × Int × Unit):=(.cons (aEl .tree) (.cons (Yt .i64) .nil))
def Z8t(a:Tree × Int × Unit):Prop:=True
def ZhH(a:Tree × Int × Unit):V U:= .agg (enc .tree (YI a.1 a.2.1))
def Z0D:Fs U:=fs ZnC (fun a=> [Z8t a]) ZhH
def Zh4:ArgL (Tree × Unit):=(.cons (aEl .tree) .nil)
def Z0u(a:Tree × Unit):Prop:=Zj a.1≤1000000000000
def Zk5(a:Tree × Unit):Nat:=Zj a.1
def ZbN(a:Tree × Unit):V U:= .agg (enc .tree (Z6 a.1))
def Z0E:Fs U:=fs Zh4 (fun a=> [Z0u a]) ZbN
def Zh1:ArgL (Tree × Unit):=(.cons (aEl .tree) .nil)
def Z02(a:Tree × Unit):Prop:=Zj a.1≤1000000000000
def Zk3(a:Tree × Unit):Nat:=Zj a.1
def ZbM(a:Tree × Unit):V U:= .agg (enc .tree (Z6 a.1))
def Jr:Fs U:=fs Zh1 (fun a=> [Z02 a]) ZbM
def Zh6:ArgL (Tree × Tree × Unit):=(.cons (aEl .tree) (.cons (aEl .tree) .nil))
def Z2r(a:Tree × Tree × Unit):Prop:=Zj a.1≤1000000000000
def Zk6(a:Tree × Tree × Unit):Nat:=Zj a.1
def ZbO(a:Tree × Tree × Unit):V U:= .c (.bool (Yv a.1 a.2.1))
def Z1l:Fs U:=fs Zh6 (fun a=> [Z2r a]) ZbO
def Zdz:ArgL (Tree × Tree × Unit):=(.cons (aEl .tree) (.cons (aEl .tree) .nil))
def Z1y(a:Tree × Tree × Unit):Prop:=Zj a.1≤1000000000000∧Zj a.2.1≤1000000000000
def Zc1(a:Tree × Tree × Unit):Nat:=Zj a.1+Zj a.2.1
def Z5z(a:Tree × Tree × Unit):V U:= .c (.bool (Yv (Z6 a.1) (Z6 a.2.1)))
def Z0O:Fs U:=fs Zdz (fun a=> [Z1y a]) Z5z
def Zgu(N:Nat):List (FuncId × Fs U):=(78,fs ZgY (fun a=> [Z6j a,Zk2 a < N]) Ze9) ::[]
def ZpP:Zi U:=lvl [([1,2,3],[3]),([1,2,3],[3]),([1,2,3,19],[3]),([6],[]),([1,2,3,7],[3]),([1,2,3,7,28],[3]),([1,2,3,7],[3]),([1,2,3,7],[3]),([6],[])]
def Z6O(t:Tree)(d l x2 x7:Int):LSt U:=(L2 [(1,.c (ci d)),(2,.c (ci x2)),(3,.ptr (.loc 3) 0),(7,.c (ci x7))] [(.loc 3,(enc .tree t))])
abbrev A78(N:Nat)(p:List Nat):=AW (Z0 (Zgu N)) Try.f78 ZpP p
abbrev S78(N:Nat)(p:List Nat):=SW (Z0 (Zgu N)) Try.f78 ZpP p
theorem Zwq(N:Nat)(t:Tree)(d l:Int)(Q:QT)(h:let z0:=bif (d==0) then true else (decide (((((l - 1):Int) - (t.words.length:Int)):Int) < 0));((InR (l - 1))∧(InR (((l - 1):Int) - (t.words.length:Int)))∧((Tr ((!(d==0))=true))∧((d==0)=false→(!(d==0))=true)∧((z0=true→(Q .ret (L2 [(6,.c (ci (-1)))] [])))∧(z0=false→(Zh (A78 N [1,1,1,0,1,0,0]) (Z6O t d l (((l - 1):Int) - (t.words.length:Int)) 0) (xB 0 (S78 N [1,1,1,1] Q)))))))):
  A78 N [] (L2 [(0,.agg (enc .tree t)),(1,.c (ci d)),(2,.c (ci l))] []) Q:=
 Eq.mpr (by kernel_rfl) h
theorem Zoo(N:Nat)(t:Tree)(d l x2 x7:Int)(N0:NT)(Q:QT)(h:let z2:=t.kids.getD x7.toNat Tree.nil;let z1:=decide (x7 < (t.kids.length:Int));let z3:=bif z1 then (decide ((0:Int)≤x2)) else false;let z0:=Tree.mk (Tree.kind z2) (Tree.words z2) (Tree.kids z2);(Tr (z1=true))∧(Tr (z1=true))∧((z3=true→((0:Int)≤x7∧x7 < (t.kids.length:Int))∧(InR (d - 1))∧(Z6j (z0,(d - 1),x2,()))∧(Zk2 (z0,(d - 1),x2,()) < N)∧((InR (x7+1))∧(N0 (Z6O t d l (ZA z0 (d - 1) x2) (x7+1)))))∧(z3=false→(Q .ret (L2 [(6,.c (ci x2))] []))))):
  A78 N [1,1,1,0,1,0,0] (Z6O t d l x2 x7) (xT N0 (xB 0 (S78 N [1,1,1,1] Q))):=
 Eq.mpr (by kernel_rfl) h
def Zua(N:Nat)(t:Tree)(d l:Int):Prop:=AW (Z0 (Zgu N)) Try.f78 ZpP [] (Zm (ZgY.can (t,d,l,())) []) (EQ Try.f78 (Ze9 (t,d,l,())) [])
theorem Zso(hb:∀ (N:Nat) (t:Tree) (d:Int) (l:Int) (_:Unit),Z6j (t,d,l,())→Zk2 (t,d,l,()) < N+1→Zua N t d l):CT 78 Z3D:=
 ZS (μ:=Zk2) (l:=[]) Zk rfl trivial ZpP Try.func78 rfl rfl 3 (fun _=> rfl) (by decide) (fun N ⟨t,d,l,_⟩=> hb N t d l ())
def Zn6:List (FuncId × Fs U):=[(78,Z3D)]
def Zt5:Zi U:=lvl [([1],[1]),([2],[])]
abbrev A36(p:List Nat):=AW (Z0 Zn6) Try.f36 Zt5 p
theorem ZwO(t:Tree)(Q:QT)(h:let z0:=Tree.mk t.kind t.words t.kids;((Z6j (z0,80,3000,()))∧(Q .ret (L2 [(2,.c (.bool (decide ((0:Int)≤(ZA z0 80 3000)))))] [])))):
  A36 [] (L2 [(0,.agg (enc .tree t))] []) Q:=
 Eq.mpr (by kernel_rfl) h
def Zuy(t:Tree):Prop:=AW (Z0 Zn6) Try.f36 Zt5 [] (Zm (ZnS.can (t,())) []) (EQ Try.f36 (Zrj (t,())) [])
theorem ZsI(c78:CT 78 Z3D)(hb:∀ (t:Tree) (_:Unit),ZhY (t,())→Zuy t):CT 36 Z9Q:=
 Z3 (l:=[(78,Z3D)]) Zk rfl (⟨c78,trivial⟩) Zt5 Try.func36 rfl rfl 1 (fun _=> rfl) (by decide) (fun ⟨t,_⟩=> hb t ())
def Zgv:List (FuncId × Fs U):=[]
def ZpQ:Zi U:=lvl [([0,1],[]),([0,1,10],[]),([4],[]),([0,1,5],[]),([0,1,5,14],[]),([0,1,5],[]),([0,1,5,25],[]),([4],[]),([4],[])]
def Z6P(a b:List Int)(x5:Int):LSt U:=(L2 [(0,.c (sU .u64 a .unk)),(1,.c (sU .u64 b .unk)),(5,.c (ci x5))] [])
abbrev A75(p:List Nat):=AW (Z0 Zgv) Try.f75 ZpQ p
abbrev S75(p:List Nat):=SW (Z0 Zgv) Try.f75 ZpQ p
theorem Zws(a b:List Int)(Q:QT)(h:let z0:=((a.length:Int):Int) !=(b.length:Int);((z0=true→(Q .ret (L2 [(4,.c (.bool false))] [])))∧(z0=false→(Zh (A75 [1,1,0,1,0,0]) (Z6P a b 0) (xB 0 (S75 [1,1,1] Q)))))):
  A75 [] (L2 [(0,.c (sU .u64 a .unk)),(1,.c (sU .u64 b .unk))] []) Q:=
 Eq.mpr (by kernel_rfl) h
theorem Zor(a b:List Int)(x5:Int)(N0:NT)(Q:QT)(h:let z1:=decide (x5 < (a.length:Int));let z0:=((a.getD x5.toNat (0:Int)):Int) !=(b.getD x5.toNat (0:Int));((z1=true→((0:Int)≤x5∧x5 < (a.length:Int))∧((0:Int)≤x5∧x5 < (b.length:Int))∧((z0=true→(Q .ret (L2 [(4,.c (.bool false))] [])))∧(z0=false→(InR (x5+1))∧(N0 (Z6P a b (x5+1))))))∧(z1=false→(Q .ret (L2 [(4,.c (.bool true))] []))))):
  A75 [1,1,0,1,0,0] (Z6P a b x5) (xT N0 (xB 0 (S75 [1,1,1] Q))):=
 Eq.mpr (by kernel_rfl) h
def Zuc(a b:List Int):Prop:=AW (Z0 Zgv) Try.f75 ZpQ [] (Zm (ZnG.can (a,b,())) []) (EQ Try.f75 (Zea (a,b,())) [])
theorem Zsp(hb:∀ (a:List Int) (b:List Int) (_:Unit),ZbS (a,b,())→Zuc a b):CT 75 Z9E:=
 Z3 (l:=[]) Zk rfl trivial ZpQ Try.func75 rfl rfl 2 (fun _=> rfl) (by decide) (fun ⟨a,b,_⟩=> hb a b ())
def Zgs:List (FuncId × Fs U):=[]
def ZpN:Zi U:=lvl [([0],[]),([0,3],[]),([0,3,16],[]),([0,3],[]),([0,3,4],[]),([2],[])]
def Z6N(l:List Int)(x3:Int):LSt U:=(L2 [(0,.c (sU .u64 l .unk)),(3,.c (ci x3))] [])
abbrev A84(p:List Nat):=AW (Z0 Zgs) Try.f84 ZpN p
abbrev S84(p:List Nat):=SW (Z0 Zgs) Try.f84 ZpN p
theorem Zwn(l:List Int)(Q:QT)(h:(Zh (A84 [1,1,0,0,0]) (Z6N l (l.length:Int)) (xB 0 (S84 [1,1,1] Q)))):
  A84 [] (L2 [(0,.c (sU .u64 l .unk))] []) Q:=
 Eq.mpr (by kernel_rfl) h
theorem Zom(l:List Int)(x3:Int)(N0:NT)(Q:QT)(h:let z0:=decide ((0:Int) < x3);let z1:=bif z0 then (((List.getD l (Int.toNat (x3 - 1)) (0:Int)):Int)==0) else false;(Tr (z0=true))∧(z0=true→InR (x3 - 1))∧(Tr (z0=true))∧(Tr (z0=true))∧(z0=true→(0:Int)≤(x3 - 1)∧(x3 - 1) < (l.length:Int))∧(Tr (z0=true))∧(Tr (z0=true))∧(Tr (z0=true))∧((z1=true→(InR (x3 - 1))∧(N0 (Z6N l (x3 - 1))))∧(z1=false→(((0:Int)≤x3∧x3≤(l.length:Int))∧((([]:List Int).length+(List.take x3.toNat l).length)*8≤140737488355328)∧(Q .ret (L2 [(2,.c (sU .u64 (([]:List Int)++(List.take x3.toNat l)) (.own (.e 2 0))))] [])))))):
  A84 [1,1,0,0,0] (Z6N l x3) (xT N0 (xB 0 (S84 [1,1,1] Q))):=
 Eq.mpr (by kernel_rfl) h
def Zu7(l:List Int):Prop:=AW (Z0 Zgs) Try.f84 ZpN [] (Zm (ZnD.can (l,())) []) (EQ Try.f84 (ZlD (l,())) [])
theorem Zsl(hb:∀ (l:List Int) (_:Unit),Zej (l,())→Zu7 l):CT 84 Z9C:=
 Z3 (l:=[]) Zk rfl trivial ZpN Try.func84 rfl rfl 1 (fun _=> rfl) (by decide) (fun ⟨l,_⟩=> hb l ())
def ZiC:List (FuncId × Fs U):=[]
def ZmN:Zi U:=lvl [([0],[]),([0,4],[]),([2],[]),([2],[])]
abbrev Zxd(p:List Nat):=AW (Z0 ZiC) Try.f109 ZmN p
theorem Zvi(l:List Int)(Q:QT)(h:(((l=[])→(Q .ret (L2 [(2,.c (.nils))] [])))∧(True→((([]:List Int).length+l.length)*8≤140737488355328)∧(Q .ret (L2 [(2,.c (sU .u64 (([]:List Int)++l) (.own (.e 2 0))))] []))))):
  Zxd [] (L2 [(0,.c (sU .u64 l .unk))] []) Q:=
 Eq.mpr (by kernel_rfl) h
def ZqZ(l:List Int):Prop:=AW (Z0 ZiC) Try.f109 ZmN [] (Zm (Zjb.can (l,())) []) (EQ Try.f109 (ZlY (l,())) [])
theorem ZpG(hb:∀ (l:List Int) (_:Unit),Zar (l,())→ZqZ l):CT 109 Z6a:=
 Z3 (l:=[]) Zk rfl trivial ZmN Try.func109 rfl rfl 1 (fun _=> rfl) (by decide) (fun ⟨l,_⟩=> hb l ())
def Zda:List (FuncId × Fs U):=[]
def Zif:Zi U:=lvl [([0,1],[]),([0,1,10],[]),([4],[]),([0,1,12,13],[]),([0,1,12,13,14],[]),([0,1,5,12,13],[]),([0,1,12,13,24],[]),([4],[]),([0,1,12,13],[]),([4],[])]
def Z4R(a b:List Int)(x13:Int):LSt U:=(L2 [(0,.c (sU .u64 a .unk)),(1,.c (sU .u64 b .unk)),(12,.c (ci (a.length:Int))),(13,.c (ci x13))] [])
abbrev ZuM(p:List Nat):=AW (Z0 Zda) Try.f148 Zif p
abbrev Zw5(p:List Nat):=SW (Z0 Zda) Try.f148 Zif p
theorem Zv5(a b:List Int)(Q:QT)(h:let z0:=((a.length:Int):Int) !=(b.length:Int);((z0=true→(Q .ret (L2 [(4,.c (.bool false))] [])))∧(z0=false→(Zh (ZuM [1,1,0,1,0,0]) (Z4R a b 0) (xB 0 (Zw5 [1,1,1] Q)))))):
  ZuM [] (L2 [(0,.c (sU .u64 a .unk)),(1,.c (sU .u64 b .unk))] []) Q:=
 Eq.mpr (by kernel_rfl) h
theorem Zl5(a b:List Int)(x13:Int)(N0:NT)(Q:QT)(h:let z1:=decide (x13 < (a.length:Int));let z0:=((a.getD x13.toNat (0:Int)):Int) !=(b.getD x13.toNat (0:Int));((z1=true→(((0:Int)≤x13∧x13 < (a.length:Int))∧((0:Int)≤x13∧x13 < (b.length:Int))∧((z0=true→(Q .ret (L2 [(4,.c (.bool false))] [])))∧(z0=false→(InR (x13+1))∧(N0 (Z4R a b (x13+1)))))))∧(z1=false→(Q .ret (L2 [(4,.c (.bool true))] []))))):
  ZuM [1,1,0,1,0,0] (Z4R a b x13) (xT N0 (xB 0 (Zw5 [1,1,1] Q))):=
 Eq.mpr (by kernel_rfl) h
def ZqM(a b:List Int):Prop:=AW (Z0 Zda) Try.f148 Zif [] (Zm (Zj4.can (a,b,())) []) (EQ Try.f148 (Zad (a,b,())) [])
theorem Zpv(hb:∀ (a:List Int) (b:List Int) (_:Unit),Zaq (a,b,())→ZqM a b):CT 148 Z67:=
 Z3 (l:=[]) Zk rfl trivial Zif Try.func148 rfl rfl 2 (fun _=> rfl) (by decide) (fun ⟨a,b,_⟩=> hb a b ())
def Zix:List (FuncId × Fs U):=[]
def ZmI:Zi U:=lvl [([1,2],[2]),([1,2,13],[2]),([4],[]),([4],[])]
abbrev Zxc(p:List Nat):=AW (Z0 Zix) Try.f149 ZmI p
theorem Zv4(t:Tree)(i:Int)(Q:QT)(h:let z1:= !(decide (i < 0));let z0:=bif (decide (i < 0)) then true else (decide (((t.words.length:Int):Int)≤i));((Tr (z1=true))∧(Tr (z1=true))∧(Tr (z1=true))∧(Tr (z1=true))∧((decide (i < 0))=false→z1=true)∧((z0=true→(Q .ret (L2 [(4,.c (.int .u64 0))] [])))∧(z0=false→((0:Int)≤i∧i < (t.words.length:Int))∧(Q .ret (L2 [(4,.c (.int .u64 (t.words.getD i.toNat (0:Int))))] [])))))):
  Zxc [] (L2 [(0,.agg (enc .tree t)),(1,.c (ci i))] []) Q:=
 Eq.mpr (by kernel_rfl) h
def ZqL(t:Tree)(i:Int):Prop:=AW (Z0 Zix) Try.f149 ZmI [] (Zm (Zj3.can (t,i,())) []) (EQ Try.f149 (ZcP (t,i,())) [])
theorem Zpu(hb:∀ (t:Tree) (i:Int) (_:Unit),Z7B (t,i,())→ZqL t i):CT 149 Z0M:=
 Z3 (l:=[]) Zk rfl trivial ZmI Try.func149 rfl rfl 2 (fun _=> rfl) (by decide) (fun ⟨t,i,_⟩=> hb t i ())
def ZmX:List (FuncId × Fs U):=[]
def ZsV:Zi U:=lvl [([1,2,4],[2,4]),([1,2,4,13],[2,4]),([4],[4]),([4],[4])]
abbrev A91(p:List Nat):=AW (Z0 ZmX) Try.f91 ZsV p
theorem Zwk(t:Tree)(i:Int)(Q:QT)(h:let z1:= !(decide (i < 0));let z0:=bif (decide (i < 0)) then true else (decide (((t.kids.length:Int):Int)≤i));((Tr (z1=true))∧(Tr (z1=true))∧(Tr (z1=true))∧(Tr (z1=true))∧((decide (i < 0))=false→z1=true)∧((z0=true→(Q .ret (L2 [(4,.ptr (.loc 4) 0)] [(.loc 4,[ci 0,.nils,.nils])])))∧(z0=false→((0:Int)≤i∧i < (t.kids.length:Int))∧(Q .ret (L2 [(4,.ptr (.loc 4) 0)] [(.loc 4,(enc .tree (t.kids.getD i.toNat Tree.nil)))])))))):
  A91 [] (L2 [(0,.agg (enc .tree t)),(1,.c (ci i))] []) Q:=
 Eq.mpr (by kernel_rfl) h
def Zu4(t:Tree)(i:Int):Prop:=AW (Z0 ZmX) Try.f91 ZsV [] (Zm (ZnC.can (t,i,())) []) (EQ Try.f91 (ZhH (t,i,())) [])
theorem Zsj(hb:∀ (t:Tree) (i:Int) (_:Unit),Z8t (t,i,())→Zu4 t i):CT 91 Z0D:=
 Z3 (l:=[]) Zk rfl trivial ZsV Try.func91 rfl rfl 2 (fun _=> rfl) (by decide) (fun ⟨t,i,_⟩=> hb t i ())
def ZgG(N:Nat):List (FuncId × Fs U):=(45,fs Zh4 (fun a=> [Z0u a,Zk5 a < N]) ZbN) ::[(84,Z9C)]
def Zq1:Zi U:=fun i=> match i with
 | 0=> ([(1,[]),(2,[])],[(.loc 1,[]),(.loc 2,[])])
 | 1=> ([(1,[]),(2,[]),(10,[])],[(.loc 1,[]),(.loc 2,[])])
 | 2=> ([(2,[])],[(.loc 2,[])])
 | 3=> ([(1,[]),(2,[]),(3,[])],[(.loc 1,[]),(.loc 2,[])])
 | 4=> ([(1,[]),(2,[]),(3,[]),(4,[])],[(.loc 1,[]),(.loc 2,[])])
 | 5=> ([(1,[]),(2,[]),(3,[.own .tree]),(4,[]),(5,[])],[(.loc 1,[]),(.loc 2,[])])
 | 6=> ([(1,[]),(2,[]),(3,[]),(4,[]),(5,[]),(16,[])],[(.loc 1,[]),(.loc 2,[])])
 | 7=> ([(1,[]),(2,[]),(3,[.own .tree]),(4,[]),(5,[])],[(.loc 1,[]),(.loc 2,[])])
 | 8=> ([(1,[]),(2,[]),(3,[]),(4,[]),(5,[]),(6,[])],[(.loc 1,[]),(.loc 2,[]),(.loc 6,[])])
 | 9=> ([(1,[]),(2,[]),(3,[]),(4,[]),(5,[]),(6,[])],[(.loc 1,[]),(.loc 2,[]),(.loc 6,[])])
 | 10=> ([(1,[]),(2,[]),(3,[]),(4,[]),(5,[]),(31,[])],[(.loc 1,[]),(.loc 2,[])])
 | 11=> ([(1,[]),(2,[]),(3,[]),(4,[]),(5,[])],[(.loc 1,[]),(.loc 2,[])])
 | 12=> ([(1,[]),(2,[]),(3,[]),(4,[]),(36,[])],[(.loc 1,[]),(.loc 2,[])])
 | 13=> ([(2,[])],[(.loc 2,[])])
 | 14=> ([(1,[]),(2,[]),(3,[]),(7,[])],[(.loc 1,[]),(.loc 2,[])])
 | 15=> ([(1,[]),(2,[]),(3,[]),(7,[])],[(.loc 1,[]),(.loc 2,[])])
 | 16=> ([(2,[])],[(.loc 2,[])])
 | _=> ([],[])
def Z4h(t:Tree)(x4 x5:Int)(x3:List Tree):LSt U:=(L2 [(1,.ptr (.loc 1) 0),(2,.ptr (.loc 2) 0),(3,.c (sU .tree x3 (.own (.e 3 0)))),(4,.c (ci x4)),(5,.c (ci x5))] [(.loc 1,(enc .tree t)),(.loc 2,[ci 0,.nils,.nils])])
abbrev A45(N:Nat)(p:List Nat):=AW (Z0 (ZgG N)) Try.f45 Zq1 p
abbrev S45(N:Nat)(p:List Nat):=SW (Z0 (ZgG N)) Try.f45 Zq1 p
theorem ZwM(N:Nat)(t:Tree)(Q:QT)(h:(((t.kind==0)=true→(Q .ret (L2 [(2,.ptr (.loc 2) 0)] [(.loc 2,[ci 0,.nils,.nils])])))∧((t.kind==0)=false→(Zh (A45 N [1,1,1,1,0,1,0,0]) (Z4h t 0 0 []) (xB 0 (S45 N [1,1,1,1,1] Q)))))):
  A45 N [] (L2 [(0,.agg (enc .tree t))] []) Q:=
 Eq.mpr (by kernel_rfl) h
theorem ZoK(N:Nat)(t:Tree)(x4 x5:Int)(x3:List Tree)(N0:NT)(Q:QT)(h:∀ y_1,y_1=(t.kids.getD x5.toNat Tree.nil)→∀ y_2,y_2=y_1→∀ y_3,y_3=(Z6 y_2)→let z1:=decide (x5 < (t.kids.length:Int));let z0:=((Tree.kind (Z6 y_2)):Int) !=0;((z1=true→((0:Int)≤x5∧x5 < (t.kids.length:Int))∧(Z0u (y_2,()))∧(Zk5 (y_2,()) < N)∧(((x3.length+([y_3]).length)*56≤140737488355328)∧((z0=true→(InR (x5+1))∧((InR (x5+1))∧(N0 (Z4h t (x5+1) (x5+1) (x3++([y_3]))))))∧(z0=false→(InR (x5+1))∧(N0 (Z4h t x4 (x5+1) (x3++([y_3]))))))))∧(z1=false→(((t.kind==1)=true→(Zej (t.words,()))∧((0:Int)≤x4∧x4≤(x3.length:Int))∧(Q .ret (L2 [(2,.ptr (.loc 2) 0)] [(.loc 2,[ci 1,sU .u64 (trim t.words) .unk,sU .tree (List.take x4.toNat x3) .unk])])))∧((t.kind==1)=false→(((([]:List Int).length+t.words.length)*8≤140737488355328)∧(Q .ret (L2 [(2,.ptr (.loc 2) 0)] [(.loc 2,[ci t.kind,sU .u64 (([]:List Int)++t.words) (.own (.l 2 1)),sU .tree x3 (.own (.l 2 2))])])))))))):
  A45 N [1,1,1,1,0,1,0,0] (Z4h t x4 x5 x3) (xT N0 (xB 0 (S45 N [1,1,1,1,1] Q))):=
 Eq.mpr (by kernel_rfl) (h _ rfl _ (Zc _) _ (Zc _))
def Zuw(N:Nat)(t:Tree):Prop:=AW (Z0 (ZgG N)) Try.f45 Zq1 [] (Zm (Zh4.can (t,())) []) (EQ Try.f45 (ZbN (t,())) [])
theorem ZsG(c84:CT 84 Z9C)(hb:∀ (N:Nat) (t:Tree) (_:Unit),Z0u (t,())→Zk5 (t,()) < N+1→Zuw N t):CT 45 Z0E:=
 ZS (μ:=Zk5) (l:=[(84,Z9C)]) Zk rfl (⟨c84,trivial⟩) Zq1 Try.func45 rfl rfl 1 (fun _=> rfl) (by decide) (fun N ⟨t,_⟩=> hb N t ())
def Zgy(N:Nat):List (FuncId × Fs U):=(71,fs Zh1 (fun a=> [Z02 a,Zk3 a < N]) ZbM) ::[(109,Z6a)]
def ZpT:Zi U:=fun i=> match i with
 | 0=> ([(1,[]),(2,[])],[(.loc 1,[]),(.loc 2,[])])
 | 1=> ([(1,[]),(2,[]),(8,[])],[(.loc 1,[]),(.loc 2,[])])
 | 2=> ([(2,[])],[(.loc 2,[])])
 | 3=> ([(1,[]),(2,[]),(3,[])],[(.loc 1,[]),(.loc 2,[]),(.loc 3,[])])
 | 4=> ([(1,[]),(2,[]),(3,[]),(17,[]),(18,[]),(19,[])],[(.loc 1,[]),(.loc 2,[]),(.loc 3,[.any,.any,.own .tree])])
 | 5=> ([(1,[]),(2,[]),(3,[]),(17,[]),(18,[]),(19,[]),(20,[])],[(.loc 1,[]),(.loc 2,[]),(.loc 3,[])])
 | 6=> ([(1,[]),(2,[]),(3,[]),(5,[]),(17,[]),(18,[]),(19,[])],[(.loc 1,[]),(.loc 2,[]),(.loc 3,[]),(.loc 5,[])])
 | 7=> ([(1,[]),(2,[]),(3,[]),(17,[]),(18,[]),(19,[])],[(.loc 1,[]),(.loc 2,[]),(.loc 3,[])])
 | 8=> ([(1,[]),(2,[]),(3,[]),(17,[]),(18,[]),(19,[])],[(.loc 1,[]),(.loc 2,[]),(.loc 3,[.any,.any,.own .tree])])
 | 9=> ([(2,[]),(3,[]),(33,[])],[(.loc 2,[]),(.loc 3,[.any,.any,.unk .tree])])
 | 10=> ([(2,[]),(3,[]),(33,[]),(48,[])],[(.loc 2,[]),(.loc 3,[.any,.any,.unk .tree])])
 | 11=> ([(2,[]),(3,[]),(33,[])],[(.loc 2,[]),(.loc 3,[.any,.any,.unk .tree])])
 | 12=> ([(2,[]),(3,[]),(33,[]),(48,[]),(72,[])],[(.loc 2,[]),(.loc 3,[])])
 | 13=> ([(2,[]),(3,[]),(33,[]),(48,[])],[(.loc 2,[]),(.loc 3,[.any,.any,.unk .tree])])
 | 14=> ([(2,[])],[(.loc 2,[])])
 | _=> ([],[])
def Z6T(t:Tree)(x19:Int)(ml3_2:List Tree):LSt U:=(L2 [(1,.ptr (.loc 1) 0),(2,.ptr (.loc 2) 0),(3,.ptr (.loc 3) 0),(17,.c (sU .tree t.kids .unk)),(18,.c (ci (t.kids.length:Int))),(19,.c (ci x19))] [(.loc 1,(enc .tree t)),(.loc 2,[ci 0,.nils,.nils]),(.loc 3,[ci t.kind,sU .u64 t.words .unk,sU .tree ml3_2 (.own (.l 3 2))])])
def Z6S(t:Tree)(ml3_2:List Tree)(ml3_1_a:List Int):LSt U:=(L2 [(2,.ptr (.loc 2) 0),(3,.ptr (.loc 3) 0),(33,.c (.bool ((t.kind:Int)==1)))] [(.loc 2,[ci 0,.nils,.nils]),(.loc 3,[ci t.kind,sU .u64 ml3_1_a .unk,sU .tree ml3_2 .unk])])
def Z6R(t:Tree)(ml3_1_a:List Int)(ml3_2_b:List Tree):LSt U:=(L2 [(2,.ptr (.loc 2) 0),(3,.ptr (.loc 3) 0),(33,.c (.bool ((t.kind:Int)==1))),(48,.c (.bool (bif (decide ((0:Int) < (ml3_1_a.length:Int))) then (((List.getD ml3_1_a (Int.toNat (((ml3_1_a.length:Int):Int) - 1)) (0:Int)):Int)==0) else false)))] [(.loc 2,[ci 0,.nils,.nils]),(.loc 3,[ci t.kind,sU .u64 ml3_1_a .unk,sU .tree ml3_2_b .unk])])
abbrev A71(N:Nat)(p:List Nat):=AW (Z0 (Zgy N)) Try.f71 ZpT p
abbrev S71(N:Nat)(p:List Nat):=SW (Z0 (Zgy N)) Try.f71 ZpT p
theorem Zww(N:Nat)(t:Tree)(Q:QT)(h:(((t.kind==0)=true→(Q .ret (L2 [(2,.ptr (.loc 2) 0)] [(.loc 2,[ci 0,.nils,.nils])])))∧((t.kind==0)=false→(Zar (t.words,()))∧(Zh (A71 N [1,1,1,0,1,0,0]) (Z6T t 0 []) (xB 0 (S71 N [1,1,1,1] Q)))))):
  A71 N [] (L2 [(0,.agg (enc .tree t))] []) Q:=
 Eq.mpr (by kernel_rfl) h
theorem Zow(N:Nat)(t:Tree)(x19:Int)(ml3_2:List Tree)(N0:NT)(Q:QT)(h:∀ y_1,y_1=(t.kids.getD x19.toNat Tree.nil)→∀ y_2,y_2=y_1→∀ y_3,y_3=(Z6 y_2)→let z0:=decide (x19 < (t.kids.length:Int));((z0=true→((0:Int)≤x19∧x19 < (t.kids.length:Int))∧((Z02 (y_2,()))∧(Zk3 (y_2,()) < N)∧((ml3_2.length+([y_3]).length)*56≤140737488355328)∧((InR (x19+1))∧(N0 (Z6T t (x19+1) (ml3_2++([y_3])))))))∧(z0=false→(((t.kind==1)=true→Zh (A71 N [1,1,1,1,0,1,0,0,0,0]) (Z6S t ml3_2 t.words) (xB 2 (S71 N [1,1,1,1,0,1,0,1] (S71 N [1,1,1,1,1] Q))))∧((t.kind==1)=false→(Q .ret (L2 [(2,.ptr (.loc 2) 0)] [(.loc 2,[ci t.kind,sU .u64 t.words .unk,sU .tree ml3_2 .unk])]))))))):
  A71 N [1,1,1,0,1,0,0] (Z6T t x19 ml3_2) (xT N0 (xB 0 (S71 N [1,1,1,1] Q))):=
 Eq.mpr (by kernel_rfl) (h _ rfl _ (Zc _) _ (Zc _))
theorem Zov(N:Nat)(t:Tree)(ml3_2:List Tree)(ml3_1_a:List Int)(N1:NT)(Q:QT)(h:let z0:=decide ((0:Int) < (ml3_1_a.length:Int));let z1:=bif z0 then (((List.getD ml3_1_a (Int.toNat (((ml3_1_a.length:Int):Int) - 1)) (0:Int)):Int)==0) else false;(Tr (z0=true))∧(Tr (z0=true))∧(Tr (z0=true))∧(Tr (z0=true))∧(z0=true→InR (((ml3_1_a.length:Int):Int) - 1))∧(Tr (z0=true))∧(Tr (z0=true))∧(z0=true→(0:Int)≤(((ml3_1_a.length:Int):Int) - 1)∧(((ml3_1_a.length:Int):Int) - 1) < (ml3_1_a.length:Int))∧(Tr (z0=true))∧(Tr (z0=true))∧(Tr (z0=true))∧((z1=true→(InR (((ml3_1_a.length:Int):Int) - 1))∧((0:Int)≤(((ml3_1_a.length:Int):Int) - 1)∧(((ml3_1_a.length:Int):Int) - 1)≤(ml3_1_a.length:Int))∧(N1 (Z6S t ml3_2 (List.take (Int.toNat (((ml3_1_a.length:Int):Int) - 1)) ml3_1_a))))∧(z1=false→Zh (A71 N [1,1,1,1,0,1,0,1,0,0]) (Z6R t ml3_1_a ml3_2) (xB 4 (S71 N [1,1,1,1,1] Q))))):
  A71 N [1,1,1,1,0,1,0,0,0,0] (Z6S t ml3_2 ml3_1_a) (xT N1 (xB 2 (S71 N [1,1,1,1,0,1,0,1] (S71 N [1,1,1,1,1] Q)))):=
 Eq.mpr (by kernel_rfl) h
theorem Zou(N:Nat)(t:Tree)(ml3_1_a:List Int)(ml3_2_b:List Tree)(N2:NT)(Q:QT)(h:let z0:=decide ((0:Int) < (ml3_2_b.length:Int));let z1:=bif z0 then (((Tree.kind (List.getD ml3_2_b (Int.toNat (((ml3_2_b.length:Int):Int) - 1)) Tree.nil)):Int)==0) else false;(Tr (z0=true))∧(Tr (z0=true))∧(Tr (z0=true))∧(Tr (z0=true))∧(z0=true→InR (((ml3_2_b.length:Int):Int) - 1))∧(Tr (z0=true))∧(Tr (z0=true))∧(z0=true→(0:Int)≤(((ml3_2_b.length:Int):Int) - 1)∧(((ml3_2_b.length:Int):Int) - 1) < (ml3_2_b.length:Int))∧(Tr (z0=true))∧(Tr (z0=true))∧(Tr (z0=true))∧(Tr (z0=true))∧((z1=true→(InR (((ml3_2_b.length:Int):Int) - 1))∧((0:Int)≤(((ml3_2_b.length:Int):Int) - 1)∧(((ml3_2_b.length:Int):Int) - 1)≤(ml3_2_b.length:Int))∧(N2 (Z6R t ml3_1_a (List.take (Int.toNat (((ml3_2_b.length:Int):Int) - 1)) ml3_2_b))))∧(z1=false→(Q .ret (L2 [(2,.ptr (.loc 2) 0)] [(.loc 2,[ci t.kind,sU .u64 ml3_1_a .unk,sU .tree ml3_2_b .unk])]))))):
  A71 N [1,1,1,1,0,1,0,1,0,0] (Z6R t ml3_1_a ml3_2_b) (xT N2 (xB 4 (S71 N [1,1,1,1,1] Q))):=
 Eq.mpr (by kernel_rfl) h
def Zug(N:Nat)(t:Tree):Prop:=AW (Z0 (Zgy N)) Try.f71 ZpT [] (Zm (Zh1.can (t,())) []) (EQ Try.f71 (ZbM (t,())) [])
theorem Zst(ZtG:CT 109 Z6a)(hb:∀ (N:Nat) (t:Tree) (_:Unit),Z02 (t,())→Zk3 (t,()) < N+1→Zug N t):CT 71 Jr:=
 ZS (μ:=Zk3) (l:=[(109,Z6a)]) Zk rfl (⟨ZtG,trivial⟩) ZpT Try.func71 rfl rfl 1 (fun _=> rfl) (by decide) (fun N ⟨t,_⟩=> hb N t ())
def ZgJ(N:Nat):List (FuncId × Fs U):=(29,fs Zh6 (fun a=> [Z2r a,Zk6 a < N]) ZbO) ::[(75,Z9E)]
def Zq4:Zi U:=lvl [([2,3],[2,3]),([2,3,27],[2,3]),([4],[]),([2,3,5],[2,3]),([2,3,5,32],[2,3]),([2,3,5],[2,3]),([2,3,5,46],[2,3]),([4],[]),([4],[])]
def Z76(a b:Tree)(x5:Int):LSt U:=(L2 [(2,.ptr (.loc 2) 0),(3,.ptr (.loc 3) 0),(5,.c (ci x5))] [(.loc 2,(enc .tree a)),(.loc 3,(enc .tree b))])
abbrev A29(N:Nat)(p:List Nat):=AW (Z0 (ZgJ N)) Try.f29 Zq4 p
abbrev S29(N:Nat)(p:List Nat):=SW (Z0 (ZgJ N)) Try.f29 Zq4 p
theorem ZwS(N:Nat)(a b:Tree)(Q:QT)(h:let z1:=a.kind !=b.kind;let z0:=bif z1 then true else (!(decide (a.words=b.words)));let z2:=bif z0 then true else (((a.kids.length:Int):Int) !=(b.kids.length:Int));((Tr ((!z1)=true))∧(Tr ((!z1)=true))∧(Tr ((!z1)=true))∧(Tr ((!z1)=true))∧((!z1)=true→ZbS (a.words,b.words,()))∧(Tr ((!z1)=true))∧(z1=false→(!z1)=true)∧(Tr ((!z0)=true))∧(Tr ((!z0)=true))∧(Tr ((!z0)=true))∧(Tr ((!z0)=true))∧(Tr ((!z0)=true))∧(Tr ((!z0)=true))∧(z0=false→(!z0)=true)∧((z2=true→(Q .ret (L2 [(4,.c (.bool false))] [])))∧(z2=false→(Zh (A29 N [1,1,0,1,0,0]) (Z76 a b 0) (xB 0 (S29 N [1,1,1] Q))))))):
  A29 N [] (L2 [(0,.agg (enc .tree a)),(1,.agg (enc .tree b))] []) Q:=
 Eq.mpr (by kernel_rfl) h
theorem ZoP(N:Nat)(a b:Tree)(x5:Int)(N0:NT)(Q:QT)(h:∀ y_1,y_1=(a.kids.getD x5.toNat Tree.nil)→∀ y_2,y_2=(b.kids.getD x5.toNat Tree.nil)→∀ y_3,y_3=y_1→∀ y_4,y_4=y_2→let z0:=decide (x5 < (a.kids.length:Int));((z0=true→((0:Int)≤x5∧x5 < (a.kids.length:Int))∧((0:Int)≤x5∧x5 < (b.kids.length:Int))∧(Z2r (y_3,y_4,()))∧(Zk6 (y_3,y_4,()) < N)∧(((!(Yv y_3 y_4))=true→(Q .ret (L2 [(4,.c (.bool false))] [])))∧((!(Yv y_3 y_4))=false→(InR (x5+1))∧(N0 (Z76 a b (x5+1))))))∧(z0=false→(Q .ret (L2 [(4,.c (.bool true))] []))))):
  A29 N [1,1,0,1,0,0] (Z76 a b x5) (xT N0 (xB 0 (S29 N [1,1,1] Q))):=
 Eq.mpr (by kernel_rfl) (h _ rfl _ rfl _ (Zc _) _ (Zc _))
def ZuC(N:Nat)(a b:Tree):Prop:=AW (Z0 (ZgJ N)) Try.f29 Zq4 [] (Zm (Zh6.can (a,b,())) []) (EQ Try.f29 (ZbO (a,b,())) [])
theorem ZsL(c75:CT 75 Z9E)(hb:∀ (N:Nat) (a:Tree) (b:Tree) (_:Unit),Z2r (a,b,())→Zk6 (a,b,()) < N+1→ZuC N a b):CT 29 Z1l:=
 ZS (μ:=Zk6) (l:=[(75,Z9E)]) Zk rfl (⟨c75,trivial⟩) Zq4 Try.func29 rfl rfl 2 (fun _=> rfl) (by decide) (fun N ⟨a,b,_⟩=> hb N a b ())
def Zdf(N:Nat):List (FuncId × Fs U):=(106,fs Zdz (fun a=> [Z1y a,Zc1 a < N]) Z5z) ::[(148,Z67),(149,Z0M),(91,Z0D)]
def Zik:Zi U:=lvl [([2,3],[2,3]),([2,3,16],[2,3]),([4],[]),([2,3,41],[2,3]),([4],[]),([2,3,48,49],[2,3]),([2,3,48,49,50],[2,3]),([2,3,5,48,49],[2,3]),([2,3,48,49,58],[2,3]),([4],[]),([2,3,48,49],[2,3]),([2,3,66,67],[2,3]),([2,3,66,67,68],[2,3]),([2,3,6,66,67],[2,3]),([2,3,66,67,77],[2,3]),([4],[]),([2,3,66,67],[2,3]),([4],[])]
def Z4Z(a b:Tree)(x49:Int):LSt U:=(L2 [(2,.ptr (.loc 2) 0),(3,.ptr (.loc 3) 0),(48,.c (ci (if ((a.words.length:Int):Int) < (b.words.length:Int) then (b.words.length:Int) else (a.words.length:Int)))),(49,.c (ci x49))] [(.loc 2,(enc .tree a)),(.loc 3,(enc .tree b))])
def Z4Y(a b:Tree)(x67_a:Int):LSt U:=(L2 [(2,.ptr (.loc 2) 0),(3,.ptr (.loc 3) 0),(66,.c (ci (if ((a.kids.length:Int):Int) < (b.kids.length:Int) then (b.kids.length:Int) else (a.kids.length:Int)))),(67,.c (ci x67_a))] [(.loc 2,(enc .tree a)),(.loc 3,(enc .tree b))])
abbrev Zod(N:Nat)(p:List Nat):=AW (Z0 (Zdf N)) Try.f106 Zik p
abbrev Zqv(N:Nat)(p:List Nat):=SW (Z0 (Zdf N)) Try.f106 Zik p
theorem Zvl(N:Nat)(a b:Tree)(Q:QT)(h:let z3:=a.kind !=b.kind;let z4:=bif z3 then true else (a.kind==0);let z0:=((a.kids.length:Int):Int) !=(b.kids.length:Int);let z2:=bif (a.kind !=1) then (bif z0 then true else (!(decide (a.words=b.words)))) else false;let z1:=(a.kind !=1) && (!z0);((Tr ((!z3)=true))∧(Tr ((!z3)=true))∧(z3=false→(!z3)=true)∧((z4=true→(Q .ret (L2 [(4,.c (.bool (a.kind==b.kind)))] [])))∧(z4=false→(Tr ((a.kind !=1)=true))∧(Tr ((a.kind !=1)=true))∧(Tr ((a.kind !=1)=true))∧(Tr ((a.kind !=1)=true))∧(Tr ((a.kind !=1)=true))∧(Tr ((a.kind !=1)=true))∧(Tr ((a.kind !=1)=true))∧(Tr (z1=true))∧(Tr (z1=true))∧(Tr (z1=true))∧(Tr (z1=true))∧(z1=true→Zaq (a.words,b.words,()))∧(Tr (z1=true))∧((a.kind !=1)=true→(True→(a.kind !=1)=true))∧((a.kind !=1)=true→(z0=false→z1=true))∧(Tr ((a.kind !=1)=true))∧((z2=true→(Q .ret (L2 [(4,.c (.bool false))] [])))∧(z2=false→(Zh (Zod N [1,1,1,0,1,0,0]) (Z4Z a b 0) (xB 0 (Zqv N [1,1,1,1] Q))))))))):
  Zod N [] (L2 [(0,.agg (enc .tree a)),(1,.agg (enc .tree b))] []) Q:=
 Eq.mpr (by kernel_rfl) h
theorem Zlj(N:Nat)(a b:Tree)(x49:Int)(N0:NT)(Q:QT)(h:let z3:=Tree.mk b.kind b.words b.kids;let z2:=Tree.mk a.kind a.words a.kids;let z1:=((YX z2 x49):Int) !=(YX z3 x49);let z0:=decide (x49 < (if ((a.words.length:Int):Int) < (b.words.length:Int) then (b.words.length:Int) else (a.words.length:Int)));((z0=true→((Z7B (z2,x49,()))∧(Z7B (z3,x49,()))∧((z1=true→(Q .ret (L2 [(4,.c (.bool false))] [])))∧(z1=false→(InR (x49+1))∧(N0 (Z4Z a b (x49+1)))))))∧(z0=false→(Zh (Zod N [1,1,1,1,0,1,0,0]) (Z4Y a b 0) (xB 2 (Zqv N [1,1,1,1,1] Q)))))):
  Zod N [1,1,1,0,1,0,0] (Z4Z a b x49) (xT N0 (xB 0 (Zqv N [1,1,1,1] Q))):=
 Eq.mpr (by kernel_rfl) h
theorem Zli(N:Nat)(a b:Tree)(x67_a:Int)(N1:NT)(Q:QT)(h:∀ y_1,y_1=a→∀ y_2,y_2=b→∀ y_3,y_3=(YI y_1 x67_a)→∀ y_4,y_4=(YI y_2 x67_a)→let z1:= !(Yv (Z6 y_3) (Z6 y_4));let z0:=decide (x67_a < (if ((a.kids.length:Int):Int) < (b.kids.length:Int) then (b.kids.length:Int) else (a.kids.length:Int)));((z0=true→((Z8t (y_1,x67_a,()))∧(Z8t (y_2,x67_a,()))∧(Z1y (y_3,y_4,()))∧(Zc1 (y_3,y_4,()) < N)∧((z1=true→(Q .ret (L2 [(4,.c (.bool false))] [])))∧(z1=false→(InR (x67_a+1))∧(N1 (Z4Y a b (x67_a+1)))))))∧(z0=false→(Q .ret (L2 [(4,.c (.bool true))] []))))):
  Zod N [1,1,1,1,0,1,0,0] (Z4Y a b x67_a) (xT N1 (xB 2 (Zqv N [1,1,1,1,1] Q))):=
 Eq.mpr (by kernel_rfl) (h _ (Zc _) _ (Zc _) _ (Zc _) _ (Zc _))
def Zr2(N:Nat)(a b:Tree):Prop:=AW (Z0 (Zdf N)) Try.f106 Zik [] (Zm (Zdz.can (a,b,())) []) (EQ Try.f106 (Z5z (a,b,())) [])
theorem ZpH(Zty:CT 148 Z67)(Zkz:CT 149 Z0M)(c91:CT 91 Z0D)(hb:∀ (N:Nat) (a:Tree) (b:Tree) (_:Unit),Z1y (a,b,())→Zc1 (a,b,()) < N+1→Zr2 N a b):CT 106 Z0O:=
 ZS (μ:=Zc1) (l:=[(148,Z67),(149,Z0M),(91,Z0D)]) Zk rfl (⟨Zty,Zkz,c91,trivial⟩) Zik Try.func106 rfl rfl 2 (fun _=> rfl) (by decide) (fun N ⟨a,b,_⟩=> hb N a b ())
end
end Go.AM.Ytpjenobkibfpcaa
namespace Go.AM.Ytpjenobkibfpcaa
open Go.AM Go.Proofs
theorem vcU:(∀ {p q:Prop},(p→q→p∧q)=True)∧(∀ {p:Prop},(True∧p)=p)∧(∀ {p:Prop},(p∧True)=p)∧(∀ {p:Prop},(p→True)=True):=
 ⟨by intros;simp+contextual,by simp,by simp,by simp⟩
theorem Za3:∀ {ks:List Tree} {i:Nat},Z1m ks→i < ks.length→Z1n (ks.getD i Tree.nil)
 | t ::_,0,h,_=> by simp only [Z1m] at h;exact h.1
 | _ ::r,i+1,h,hi=> by simp only [Z1m] at h;exact Za3 (ks:=r) (i:=i) h.2 (by simpa using hi)
theorem Jd:∀ {ks:List Tree} {i:Nat},i < ks.length→Zj (ks.getD i Tree.nil)≤Zb ks
 | t ::_,0,_=> by simp only [Zb,List.getD_cons_zero];omega
 | t ::r,i+1,h=> by
  have:=Jd (ks:=r) (i:=i) (by simpa using h)
  simp only [Zb,List.getD_cons_succ]
  omega
mutual
theorem Yu:∀ (t:Tree) (d l:Int),-1≤ZA t d l∧ZA t d l≤max l (-1)
 | .mk _ w ks,d,l=> by
  simp only [ZA]
  split
  ·omega
  ·have:=JI ks (d - 1) (l - 1 - w.length) (by omega)
   omega
theorem JI:∀ (ks:List Tree) (d l:Int),-1≤l→-1≤Zt ks d l∧Zt ks d l≤l
 | [],d,l,h=> by simp only [Zt];omega
 | t ::r,d,l,h=> by
  simp only [Zt]
  split
  ·omega
  ·have h1:=Yu t d l
   have h2:=JI r d (ZA t d l) h1.1
   omega
end
theorem Zbm{ks:List Tree}{i:Nat}{d l:Int}(h:i < ks.length)(hl:0≤l):Zt (ks.drop i) d l=Zt (ks.drop (i+1)) d (ZA (ks.getD i Tree.nil) d l):=by
 rw [List.drop_eq_getElem_cons h]
 simp only [Zt]
 rw [if_neg (by omega)]
 simp [List.getD,h]
theorem c78:Contract Try.prog cfg 78 Z3D:=by
 refine Zso ?_
 rintro N ⟨k,ws,ks⟩ d l _ ⟨hs,h1,h2,h3,h4⟩ hN
 simp only [Z1n,Zk2,Zj] at*
 refine Zwq N _ _ _ _ ?_;(try simp only [vcT,forall_eq])
 (simp only [vcS]);(try simp only [vcT])
 try (simp only [Tree.eta,Edit.eta,Tree.kind_mk,Tree.words_mk,Tree.kids_mk])
 refine ⟨by unfold InR;omega,by unfold InR;omega,fun hc=> ?_,fun hc=> ?_⟩
 ·have e:ZA (.mk k ws ks) d l= -1:=by
   simp only [ZA]
   rw [if_pos (by omega)]
  simp only [Ze9,e]
  exact ⟨⟨rfl,⟨⟨rfl,rfl⟩,trivial⟩,trivial⟩,trivial⟩
 ·have e:ZA (.mk k ws ks) d l=Zt ks (d - 1) (l - 1 - ws.length):=by
   simp only [ZA]
   rw [if_neg (by omega)]
  simp only [Ze9,e]
  refine Za (ι:=Int × Int) (fun p=> Z6O (.mk k ws ks) d l p.1 p.2) (fun p=> 0≤p.2∧p.2≤ks.length∧-1≤p.1∧p.1≤l∧Zt (ks.drop p.2.toNat) (d - 1) p.1=Zt ks (d - 1) (l - 1 - ws.length)) (fun p=> ((ks.length:Int) - p.2).toNat) (l - 1 - ws.length,0) rfl ⟨by omega,by omega,by omega,by omega,by simp⟩ ?_
  rintro ⟨l',i⟩ ⟨h5,h6,h7,h8,h9⟩
  dsimp only at*
  refine Zoo N _ _ _ _ _ _ _ ?_;(try simp only [vcT,forall_eq])
  (simp only [vcS]);(try simp only [vcT])
  try (simp only [Tree.eta,Edit.eta,Tree.kind_mk,Tree.words_mk,Tree.kids_mk])
  refine ⟨fun hc=> ?_,fun hc=> ?_⟩
  ·have hi:i.toNat < ks.length:=by omega
   have hr:=Yu (ks.getD i.toNat Tree.nil) (d - 1) l'
   have hn:=Jd hi
   have hd:=Zbm (d:=d - 1) hi hc.2
   refine ⟨by omega,by unfold InR;omega,⟨Za3 hs.2.2 hi,by dsimp only;omega,by dsimp only;omega,by dsimp only;omega,by dsimp only;omega⟩,by simp only [Zk2];omega,by unfold InR;omega,⟨(ZA (ks.getD i.toNat Tree.nil) (d - 1) l',i+1),rfl,⟨by dsimp only;omega,by dsimp only;omega,by dsimp only;omega,by dsimp only;omega,?_⟩,by dsimp only;omega⟩⟩
   dsimp only
   rw [←h9,hd]
   congr 2
   omega
  ·have e:Zt ks (d - 1) (l - 1 - ws.length)=l':=by
    rw [←h9]
    by_cases hi:i < ks.length
    ·rw [List.drop_eq_getElem_cons (by omega)]
     simp only [Zt]
     rw [if_pos (by omega)]
    ·rw [List.drop_eq_nil_of_le (by omega)]
     simp only [Zt]
   rw [e]
   exact ⟨⟨rfl,⟨⟨rfl,rfl⟩,trivial⟩,trivial⟩,trivial⟩
theorem c36:Contract Try.prog cfg 36 Z9Q:=by
 refine ZsI c78 ?_
 intro t _ hp
 refine ZwO _ _ ?_;(try simp only [vcT,forall_eq])
 try (simp only [Tree.eta,Edit.eta,Tree.kind_mk,Tree.words_mk,Tree.kids_mk])
 refine ⟨⟨hp,by dsimp only;omega,by dsimp only;omega,by dsimp only;omega,by dsimp only;omega⟩,?_⟩
 exact ⟨⟨rfl,⟨rfl,trivial⟩,trivial⟩,trivial⟩
theorem ZtG:Contract Try.prog cfg 109 Z6a:=by
 refine ZpG ?_
 intro l _ hp
 refine Zvi _ _ ?_;(try simp only [vcT,forall_eq])
 simp only [Zar] at hp
 refine ⟨fun h=> ?_,⟨by simp only [List.length_nil];omega,?_⟩⟩
 ·subst h
  exact ⟨⟨rfl,⟨rfl,trivial⟩,trivial⟩,trivial⟩
 ·exact ⟨⟨rfl,⟨⟨rfl,trivial⟩,trivial⟩,trivial⟩,trivial⟩
theorem Z9m{a b:List Int}{i:Int}(hi:0≤i)(ha:i < a.length)(hb:i < b.length):(a.drop i.toNat=b.drop i.toNat)↔(a.getD i.toNat 0=b.getD i.toNat 0∧a.drop (i+1).toNat=b.drop (i+1).toNat):=by
 have e:(i+1).toNat=i.toNat+1:=by omega
 rw [List.drop_eq_getElem_cons (by omega),List.drop_eq_getElem_cons (l:=b) (by omega),e]
 simp only [List.cons.injEq,List.getD,List.getElem?_eq_getElem (show i.toNat < a.length by omega),List.getElem?_eq_getElem (show i.toNat < b.length by omega),Option.getD_some]
theorem c75:Contract Try.prog cfg 75 Z9E:=by
 refine Zsp ?_
 intro a b _ hp
 simp only [ZbS] at hp
 refine Zws _ _ _ ?_;(try simp only [vcT,forall_eq])
 (simp only [vcS]);(try simp only [vcT])
 refine ⟨fun hc=> ?_,fun hc=> ?_⟩
 ·have e:decide (a=b)=false:=by
   simp only [decide_eq_false_iff_not]
   rintro rfl
   omega
  simp only [Zea,e]
  exact ⟨⟨rfl,⟨rfl,trivial⟩,trivial⟩,trivial⟩
 ·have hl:a.length=b.length:=by omega
  refine Za (ι:=Int) (fun p=> Z6P a b p) (fun p=> 0≤p∧p≤a.length∧(a=b↔a.drop p.toNat=b.drop p.toNat)) (fun p=> ((a.length:Int) - p).toNat) 0 rfl ⟨by omega,by omega,by simp⟩ ?_
  rintro i ⟨h1,h2,h3⟩
  refine Zor _ _ _ _ _ ?_;(try simp only [vcT,forall_eq])
  (simp only [vcS]);(try simp only [vcT])
  refine ⟨fun hc=> ⟨by omega,by omega,fun hn=> ?_,fun he=> ⟨by unfold InR;omega,i+1,rfl,⟨by omega,by omega,?_⟩,by omega⟩⟩,fun hc=> ?_⟩
  ·have e:decide (a=b)=false:=by
    simp only [decide_eq_false_iff_not,h3]
    rw [Z9m h1 hc (by omega)]
    exact fun h=> hn h.1
   simp only [Zea,e]
   exact ⟨⟨rfl,⟨rfl,trivial⟩,trivial⟩,trivial⟩
  ·rw [h3,Z9m h1 hc (by omega)]
   exact ⟨fun h=> h.2,fun h=> ⟨by simpa using he,h⟩⟩
  ·have e:decide (a=b)=true:=by
    simp only [decide_eq_true_eq,h3]
    rw [List.drop_eq_nil_of_le (by omega),List.drop_eq_nil_of_le (by omega)]
   simp only [Zea,e]
   exact ⟨⟨rfl,⟨rfl,trivial⟩,trivial⟩,trivial⟩
theorem Zkz:Contract Try.prog cfg 149 Z0M:=by
 refine Zpu ?_
 intro t i _ hp
 refine Zv4 _ _ _ ?_;(try simp only [vcT,forall_eq])
 (simp only [vcS]);(try simp only [vcT])
 (repeat (refine And.intro (by first | omega | (unfold InR;omega) | (dsimp only;omega)) ?_))
 refine ⟨fun hc=> ?_,fun hc=> ⟨by omega,?_⟩⟩
 ·have e:YX t i=0:=by
   unfold YX
   split
   ·try rfl
   ·rw [List.getD,List.getElem?_eq_none (by omega)]
    try rfl
  simp only [ZcP,e]
  exact ⟨⟨rfl,⟨⟨rfl,rfl⟩,trivial⟩,trivial⟩,trivial⟩
 ·have e:YX t i=t.words.getD i.toNat 0:=by
   unfold YX
   rw [if_neg (by omega)]
  simp only [ZcP,e]
  exact ⟨⟨rfl,⟨⟨rfl,rfl⟩,trivial⟩,trivial⟩,trivial⟩
theorem c91:Contract Try.prog cfg 91 Z0D:=by
 refine Zsj ?_
 intro t i _ hp
 refine Zwk _ _ _ ?_;(try simp only [vcT,forall_eq])
 (simp only [vcS]);(try simp only [vcT])
 (repeat (refine And.intro (by first | omega | (unfold InR;omega) | (dsimp only;omega)) ?_))
 refine ⟨fun hc=> ?_,fun hc=> ⟨by omega,?_⟩⟩
 ·have e:YI t i=Tree.nil:=by
   unfold YI
   split
   ·try rfl
   ·rw [List.getD,List.getElem?_eq_none (by omega)]
    try rfl
  simp only [ZhH,e]
  exact ⟨⟨rfl,⟨⟨rfl,rfl⟩,⟨rfl,⟨rfl,trivial⟩⟩⟩,trivial⟩,trivial⟩
 ·have e:YI t i=t.kids.getD i.toNat Tree.nil:=by
   unfold YI
   rw [if_neg (by omega)]
  simp only [ZhH,e]
  exact ⟨⟨rfl,⟨⟨rfl,rfl⟩,⟨rfl,trivial⟩,⟨rfl,trivial⟩,trivial⟩,trivial⟩,trivial⟩
theorem Zty:Contract Try.prog cfg 148 Z67:=by
 refine Zpv ?_
 intro a b _ hp
 simp only [Zaq] at hp
 refine Zv5 _ _ _ ?_;(try simp only [vcT,forall_eq])
 (simp only [vcS]);(try simp only [vcT])
 refine ⟨fun hc=> ?_,fun hc=> ?_⟩
 ·have e:decide (a=b)=false:=by
   simp only [decide_eq_false_iff_not]
   rintro rfl
   omega
  simp only [Zad,e]
  exact ⟨⟨rfl,⟨rfl,trivial⟩,trivial⟩,trivial⟩
 ·have hl:a.length=b.length:=by omega
  refine Za (ι:=Int) (fun p=> Z4R a b p) (fun p=> 0≤p∧p≤a.length∧(a=b↔a.drop p.toNat=b.drop p.toNat)) (fun p=> ((a.length:Int) - p).toNat) 0 rfl ⟨by omega,by omega,by simp⟩ ?_
  rintro i ⟨h1,h2,h3⟩
  refine Zl5 _ _ _ _ _ ?_;(try simp only [vcT,forall_eq])
  (simp only [vcS]);(try simp only [vcT])
  refine ⟨fun hc=> ⟨by omega,by omega,fun hn=> ?_,fun he=> ⟨by unfold InR;omega,i+1,rfl,⟨by omega,by omega,?_⟩,by omega⟩⟩,fun hc=> ?_⟩
  ·have e:decide (a=b)=false:=by
    simp only [decide_eq_false_iff_not,h3]
    rw [Z9m h1 hc (by omega)]
    exact fun h=> hn h.1
   simp only [Zad,e]
   exact ⟨⟨rfl,⟨rfl,trivial⟩,trivial⟩,trivial⟩
  ·rw [h3,Z9m h1 hc (by omega)]
   exact ⟨fun h=> h.2,fun h=> ⟨by simpa using he,h⟩⟩
  ·have e:decide (a=b)=true:=by
    simp only [decide_eq_true_eq,h3]
    rw [List.drop_eq_nil_of_le (by omega),List.drop_eq_nil_of_le (by omega)]
   simp only [Zad,e]
   exact ⟨⟨rfl,⟨rfl,trivial⟩,trivial⟩,trivial⟩
theorem Zff{a b:List Tree}{i:Int}(hi:0≤i)(ha:i < a.length)(hb:i < b.length):(a.drop i.toNat=b.drop i.toNat)↔(a.getD i.toNat Tree.nil=b.getD i.toNat Tree.nil∧a.drop (i+1).toNat=b.drop (i+1).toNat):=by
 have e:(i+1).toNat=i.toNat+1:=by omega
 rw [List.drop_eq_getElem_cons (by omega),List.drop_eq_getElem_cons (l:=b) (by omega),e]
 simp only [List.cons.injEq,List.getD,List.getElem?_eq_getElem (show i.toNat < a.length by omega),List.getElem?_eq_getElem (show i.toNat < b.length by omega),Option.getD_some]
theorem J0{a b:Tree}:Yv a b=true↔a=b:=by simp [Yv]
theorem Yz{a b:Tree}:Yv a b=false↔¬a=b:=by simp [Yv]
theorem Zs:∀ (ks:List Tree),ks.length≤Zb ks
 | []=> by simp [Zb]
 | t ::r=> by
  have:=Zs r
  have:1≤Zj t:=by cases t;simp only [Zj];omega
  simp only [Zb,List.length_cons]
  omega
theorem c29:Contract Try.prog cfg 29 Z1l:=by
 refine ZsL c75 ?_
 rintro N ⟨k,ws,ks⟩ ⟨k',ws',ks'⟩ _ hp hN
 have hlen:=Zs ks
 simp only [Z2r,Zk6,Zj] at hp hN
 refine ZwS N _ _ _ ?_;(try simp only [vcT,forall_eq])
 (simp only [vcS]);(try simp only [vcT])
 try (simp only [Tree.eta,Edit.eta,Tree.kind_mk,Tree.words_mk,Tree.kids_mk])
 have p69:ZbS (ws,ws',()):=by simp only [ZbS];omega
 refine ⟨fun _=> p69,fun hc=> ?_,fun hc=> ?_⟩
 ·have e:Yv (.mk k ws ks) (.mk k' ws' ks')=false:=by
   rw [Yz]
   intro h
   cases h
   simp at hc
  simp only [ZbO,e]
  exact ⟨⟨rfl,⟨rfl,trivial⟩,trivial⟩,trivial⟩
 ·have hc':(k=k'∧ws=ws')∧ks.length=ks'.length:=⟨hc.1,by have:=hc.2;omega⟩
  obtain ⟨⟨rfl,rfl⟩,hl⟩:=hc'
  refine Za (ι:=Int) (fun p=> Z76 (.mk k ws ks) (.mk k ws ks') p) (fun p=> 0≤p∧p≤ks.length∧(Tree.mk k ws ks= .mk k ws ks'↔ks.drop p.toNat=ks'.drop p.toNat)) (fun p=> ((ks.length:Int) - p).toNat) 0 rfl ⟨by omega,by omega,by simp⟩ ?_
  rintro i ⟨h1,h2,h3⟩
  refine ZoP N _ _ _ _ _ ?_;(try simp only [vcT,forall_eq])
  (simp only [vcS]);(try simp only [vcT])
  try (simp only [Tree.eta,Edit.eta,Tree.kind_mk,Tree.words_mk,Tree.kids_mk])
  refine ⟨fun hc=> ⟨by omega,by omega,?_,?_,fun hn=> ?_,fun he=> ⟨by unfold InR;omega,i+1,rfl,⟨by omega,by omega,?_⟩,by omega⟩⟩,fun hc=> ?_⟩
  ·have:=Jd (ks:=ks) (i:=i.toNat) (by omega)
   simp only [Z2r]
   omega
  ·have:=Jd (ks:=ks) (i:=i.toNat) (by omega)
   simp only [Zk6]
   omega
  ·have e:Yv (.mk k ws ks) (.mk k ws ks')=false:=by
    rw [Yz,h3,Zff h1 hc (by omega)]
    rw [Yz] at hn
    exact fun h=> hn h.1
   simp only [ZbO,e]
   exact ⟨⟨rfl,⟨rfl,trivial⟩,trivial⟩,trivial⟩
  ·rw [h3,Zff h1 hc (by omega)]
   exact ⟨fun h=> h.2,fun h=> ⟨J0.1 he,h⟩⟩
  ·have e:Yv (.mk k ws ks) (.mk k ws ks')=true:=by
    rw [J0,h3]
    rw [List.drop_eq_nil_of_le (by omega),List.drop_eq_nil_of_le (by omega)]
   simp only [ZbO,e]
   exact ⟨⟨rfl,⟨rfl,trivial⟩,trivial⟩,trivial⟩
theorem Z7l:∀ (l:List Int),trim (l++[0])=trim l
 | []=> rfl
 | x ::r=> by
  show (match trim (r++[0]) with | []=> if x=0 then [] else [x] | y ::s=> x ::y ::s)=_
  rw [Z7l r]
  try rfl
theorem Zcy{x:Int}(hx:x≠0):∀ (l:List Int),trim (l++[x])=l++[x]
 | []=> by simp [trim,hx]
 | y ::r=> by
  show (match trim (r++[x]) with | []=> if y=0 then [] else [y] | z ::s=> y ::z ::s)=_
  rw [Zcy hx r]
  cases r <;> rfl
theorem Z7o{l:List Int}{i:Int}(h0:0 < i)(hi:i≤l.length):l.take i.toNat=l.take (i - 1).toNat++[l.getD (i - 1).toNat 0]:=by
 have e:i.toNat=(i - 1).toNat+1:=by omega
 rw [e,List.take_add_one]
 simp only [List.getD,List.getElem?_eq_getElem (show (i - 1).toNat < l.length by omega),Option.toList,Option.getD_some]
theorem c84:Contract Try.prog cfg 84 Z9C:=by
 refine Zsl ?_
 intro l _ hp
 simp only [Zej] at hp
 refine Zwn _ _ ?_;(try simp only [vcT,forall_eq])
 refine Za (ι:=Int) (fun p=> Z6N l p) (fun p=> 0≤p∧p≤l.length∧trim (l.take p.toNat)=trim l) (fun p=> p.toNat) (l.length:Int) rfl ⟨by omega,by omega,by simp⟩ ?_
 rintro i ⟨h1,h2,h3⟩
 refine Zom _ _ _ _ ?_;(try simp only [vcT,forall_eq])
 (simp only [vcS]);(try simp only [vcT])
 refine ⟨fun h=> by unfold InR;omega,fun h=> by omega,fun hc=> ⟨by unfold InR;omega,i - 1,rfl,⟨by omega,by omega,?_⟩,by omega⟩,fun hc=> ⟨by omega,?_,?_⟩⟩
 ·rw [Z7o hc.1 h2,hc.2,Z7l] at h3
  exact h3
 ·simp only [List.length_nil,List.length_take]
  omega
 ·have e:trim l=[]++l.take i.toNat:=by
   rw [←h3]
   by_cases h0:0 < i
   ·rw [Z7o h0 h2,Zcy (by rcases hc with h | h;exact absurd h0 h;exact h)]
    try rfl
   ·have:i.toNat=0:=by omega
    rw [this]
    try rfl
  simp only [ZlD,e]
  exact ⟨⟨rfl,⟨⟨rfl,trivial⟩,trivial⟩,trivial⟩,trivial⟩
theorem ZdP:∀ (l:List Int),(trim l).length≤l.length
 | []=> by simp [trim]
 | x ::r=> by
  have:=ZdP r
  simp only [trim]
  split
  ·split <;> simp
  ·rename_i h
   rw [h] at this
   simp at*
   omega
theorem Z9w:∀ (l:List Tree),Zb (ZY l)≤Zb l
 | []=> by simp [ZY]
 | x ::r=> by
  have:=Z9w r
  simp only [ZY]
  split
  ·split
   ·simp [Zb]
   ·simp [Zb]
  ·rename_i h
   rw [h] at this
   simp only [Zb] at*
   omega
mutual
theorem Ju:∀ (t:Tree),Zj (Z6 t)≤Zj t
 | .mk k w ks=> by
  have h1:=ZaD ks
  have h2:=ZdP w
  have h3:=Z9w (ZV ks)
  simp only [Z6]
  split
  ·simp only [Tree.nil,Zj,Zb,List.length_nil];omega
  ·split
   ·simp only [Zj];omega
   ·simp only [Zj];omega
theorem ZaD:∀ (ks:List Tree),Zb (ZV ks)≤Zb ks
 | []=> by simp [ZV]
 | t ::r=> by
  have h1:=Ju t
  have h2:=ZaD r
  simp only [ZV,Zb]
  omega
end
theorem Z7R:∀ (l:List Tree) (x:Tree),ZV (l++[x])=ZV l++[Z6 x]
 | [],x=> rfl
 | y ::r,x=> by simp only [List.cons_append,ZV,Z7R r x]
theorem Z08:∀ (l:List Tree),(ZV l).length=l.length
 | []=> rfl
 | y ::r=> by simp only [ZV,List.length_cons,Z08 r]
theorem Z5n{x:Tree}(hx:x.kind=0):∀ (l:List Tree),ZY (l++[x])=ZY l
 | []=> by simp [ZY,hx]
 | y ::r=> by
  show (match ZY (r++[x]) with | []=> if y.kind=0 then [] else [y] | z ::s=> y ::z ::s)=_
  rw [Z5n hx r]
  try rfl
theorem Z9v{x:Tree}(hx:x.kind≠0):∀ (l:List Tree),ZY (l++[x])=l++[x]
 | []=> by simp [ZY,hx]
 | y ::r=> by
  show (match ZY (r++[x]) with | []=> if y.kind=0 then [] else [y] | z ::s=> y ::z ::s)=_
  rw [Z9v hx r]
  cases r <;> rfl
theorem Z5o{l:List Tree}{i:Int}(h0:0≤i)(hi:i < l.length):l.take (i+1).toNat=l.take i.toNat++[l.getD i.toNat Tree.nil]:=by
 have e:(i+1).toNat=i.toNat+1:=by omega
 rw [e,List.take_add_one]
 simp only [List.getD,List.getElem?_eq_getElem (show i.toNat < l.length by omega),Option.toList,Option.getD_some]
theorem c45:Contract Try.prog cfg 45 Z0E:=by
 refine ZsG c84 ?_
 rintro N ⟨k,ws,ks⟩ _ hp hN
 have hlen:=Zs ks
 simp only [Z0u,Zk5,Zj] at hp hN
 refine ZwM N _ _ ?_;(try simp only [vcT,forall_eq])
 (simp only [vcS]);(try simp only [vcT])
 try (simp only [Tree.eta,Edit.eta,Tree.kind_mk,Tree.words_mk,Tree.kids_mk])
 refine ⟨fun hc=> ?_,fun hc0=> ?_⟩
 ·have e:Z6 (.mk k ws ks)=Tree.nil:=by simp [Z6,hc]
  simp only [ZbN,e]
  exact ⟨⟨rfl,⟨⟨rfl,rfl⟩,⟨rfl,⟨rfl,trivial⟩⟩⟩,trivial⟩,trivial⟩
 ·refine Za (ι:=Int × Int × List Tree) (fun p=> Z4h (.mk k ws ks) p.1 p.2.1 p.2.2) (fun p=> 0≤p.2.1∧p.2.1≤ks.length∧0≤p.1∧p.1≤p.2.1∧p.2.2=ZV (ks.take p.2.1.toNat)∧ZY (ZV (ks.take p.2.1.toNat))=p.2.2.take p.1.toNat) (fun p=> ((ks.length:Int) - p.2.1).toNat) (0,0,[]) rfl ⟨by dsimp only;omega,by dsimp only;omega,by dsimp only;omega,by dsimp only;omega,rfl,rfl⟩ ?_
  rintro ⟨last,i,l⟩ ⟨h1,h2,h3,h4,h5,h6⟩
  dsimp only at*
  have hl:l.length=i.toNat:=by rw [h5,Z08,List.length_take];omega
  refine ZoK N _ _ _ _ _ _ ?_;(try simp only [vcT,forall_eq])
  (simp only [vcS]);(try simp only [vcT])
  try (simp only [Tree.eta,Edit.eta,Tree.kind_mk,Tree.words_mk,Tree.kids_mk])
  refine ⟨fun hc=> ?_,fun hc=> ⟨fun h1=> ⟨?_,by omega,?_⟩,fun hk=> ⟨?_,?_⟩⟩⟩
  ·have hm:=Jd (ks:=ks) (i:=i.toNat) (by omega)
   have hnx:ZV (ks.take (i+1).toNat)=l++[Z6 (ks.getD i.toNat Tree.nil)]:=by rw [Z5o h1 hc,Z7R,h5]
   refine ⟨by omega,by simp only [Z0u];omega,by simp only [Zk5];omega,by simp only [List.length_cons,List.length_nil];omega,fun hk=> ⟨by unfold InR;omega,by unfold InR;omega,(i+1,i+1,_),rfl,⟨by dsimp only;omega,by dsimp only;omega,by dsimp only;omega,by dsimp only;omega,hnx.symm,?_⟩,by dsimp only;omega⟩,fun hk=> ⟨by unfold InR;omega,(last,i+1,_),rfl,⟨by dsimp only;omega,by dsimp only;omega,by dsimp only;omega,by dsimp only;omega,hnx.symm,?_⟩,by dsimp only;omega⟩⟩
   ·dsimp only
    rw [hnx,Z9v hk,List.take_of_length_le (by simp;omega)]
   ·dsimp only
    rw [hnx,Z5n hk,List.take_append_of_le_length (by omega),←h6,h5]
  ·simp only [Zej];omega
  ·have hi:ks.take i.toNat=ks:=List.take_of_length_le (by omega)
   rw [hi] at h5 h6
   have e:Z6 (.mk k ws ks)= .mk 1 (trim ws) (l.take last.toNat):=by
    subst h1
    simp only [Z6,←h6]
    try rfl
   simp only [ZbN,e]
   exact ⟨⟨rfl,⟨⟨rfl,rfl⟩,⟨rfl,trivial⟩,⟨rfl,trivial⟩,trivial⟩,trivial⟩,trivial⟩
  ·simp only [List.length_nil];omega
  ·have hi:ks.take i.toNat=ks:=List.take_of_length_le (by omega)
   rw [hi] at h5
   have e:Z6 (.mk k ws ks)= .mk k ([]++ws) l:=by
    simp only [Z6,if_neg hc0,if_neg hk,h5]
    try rfl
   simp only [ZbN,e]
   exact ⟨⟨rfl,⟨⟨rfl,rfl⟩,⟨rfl,trivial⟩,⟨rfl,trivial⟩,trivial⟩,trivial⟩,trivial⟩
theorem Zip{l:List Int}(h0:0 < (l.length:Int)):l=l.take ((l.length:Int) - 1).toNat++[l.getD ((l.length:Int) - 1).toNat 0]:=by
 have:=Z7o h0 (Int.le_refl _)
 rw [List.take_of_length_le (by omega)] at this
 exact this
theorem Zf2{l:List Tree}(h0:0 < (l.length:Int)):l=l.take ((l.length:Int) - 1).toNat++[l.getD ((l.length:Int) - 1).toNat Tree.nil]:=by
 have:=Z5o (l:=l) (i:=(l.length:Int) - 1) (by omega) (by omega)
 rw [List.take_of_length_le (by omega)] at this
 exact this
theorem Zjz{l:List Int}(h0:0 < (l.length:Int))(hz:l.getD ((l.length:Int) - 1).toNat 0=0):trim (l.take ((l.length:Int) - 1).toNat)=trim l:=by
 have e:=Z7l (l.take ((l.length:Int) - 1).toNat)
 have h:=Zip h0
 rw [hz] at h
 rw [←h] at e
 exact e.symm
theorem ZjB{l:List Int}(h:¬0 < (l.length:Int)∨¬l.getD ((l.length:Int) - 1).toNat 0=0):trim l=l:=by
 by_cases h0:0 < (l.length:Int)
 ·have e:=Zcy (x:=l.getD ((l.length:Int) - 1).toNat 0) (by rcases h with h | h;exact absurd h0 h;exact h) (l.take ((l.length:Int) - 1).toNat)
  rw [←Zip h0] at e
  exact e
 ·have:l=[]:=List.eq_nil_of_length_eq_zero (by omega)
  subst this
  try rfl
theorem ZfA{l:List Tree}(h0:0 < (l.length:Int))(hz:(l.getD ((l.length:Int) - 1).toNat Tree.nil).kind=0):ZY (l.take ((l.length:Int) - 1).toNat)=ZY l:=by
 have e:=Z5n hz (l.take ((l.length:Int) - 1).toNat)
 rw [←Zf2 h0] at e
 exact e.symm
theorem ZfC{l:List Tree}(h:¬0 < (l.length:Int)∨¬(l.getD ((l.length:Int) - 1).toNat Tree.nil).kind=0):ZY l=l:=by
 by_cases h0:0 < (l.length:Int)
 ·have e:=Z9v (x:=l.getD ((l.length:Int) - 1).toNat Tree.nil) (by rcases h with h | h;exact absurd h0 h;exact h) (l.take ((l.length:Int) - 1).toNat)
  rw [←Zf2 h0] at e
  exact e
 ·have:l=[]:=List.eq_nil_of_length_eq_zero (by omega)
  subst this
  try rfl
theorem c71:Contract Try.prog cfg 71 Jr:=by
 refine Zst ZtG ?_
 rintro N ⟨k,ws,ks⟩ _ hp hN
 have hlen:=Zs ks
 simp only [Z02,Zk3,Zj] at hp hN
 refine Zww N _ _ ?_;(try simp only [vcT,forall_eq])
 (simp only [vcS]);(try simp only [vcT])
 try (simp only [Tree.eta,Edit.eta,Tree.kind_mk,Tree.words_mk,Tree.kids_mk])
 refine ⟨fun hc=> ?_,fun hc0=> ⟨by simp only [Zar];omega,?_⟩⟩
 ·have e:Z6 (.mk k ws ks)=Tree.nil:=by simp [Z6,hc]
  simp only [ZbM,e]
  exact ⟨⟨rfl,⟨⟨rfl,rfl⟩,⟨rfl,⟨rfl,trivial⟩⟩⟩,trivial⟩,trivial⟩
 ·refine Za (ι:=Int × List Tree) (fun p=> Z6T (.mk k ws ks) p.1 p.2) (fun p=> 0≤p.1∧p.1≤ks.length∧p.2=ZV (ks.take p.1.toNat)) (fun p=> ((ks.length:Int) - p.1).toNat) (0,[]) rfl ⟨by dsimp only;omega,by dsimp only;omega,rfl⟩ ?_
  rintro ⟨i,l⟩ ⟨h1,h2,h5⟩
  dsimp only at*
  have hl:l.length=i.toNat:=by rw [h5,Z08,List.length_take];omega
  refine Zow N _ _ _ _ _ ?_;(try simp only [vcT,forall_eq])
  (simp only [vcS]);(try simp only [vcT])
  try (simp only [Tree.eta,Edit.eta,Tree.kind_mk,Tree.words_mk,Tree.kids_mk])
  refine ⟨fun hc=> ?_,fun hc=> ⟨fun hk=> ?_,fun hk=> ?_⟩⟩
  ·have hm:=Jd (ks:=ks) (i:=i.toNat) (by omega)
   have hnx:ZV (ks.take (i+1).toNat)=l++[Z6 (ks.getD i.toNat Tree.nil)]:=by rw [Z5o h1 hc,Z7R,h5]
   exact ⟨by omega,by simp only [Z02];omega,by simp only [Zk3];omega,by simp only [List.length_cons,List.length_nil];omega,by unfold InR;omega,(i+1,_),rfl,⟨by dsimp only;omega,by dsimp only;omega,hnx.symm⟩,by dsimp only;omega⟩
  ·have hi:ks.take i.toNat=ks:=List.take_of_length_le (by omega)
   rw [hi] at h5
   refine Za (ι:=List Int) (fun p=> Z6S (.mk k ws ks) l p) (fun p=> p.length≤ws.length∧trim p=trim ws) (fun p=> p.length) ws rfl ⟨by omega,rfl⟩ ?_
   rintro w ⟨h6,h7⟩
   refine Zov N _ _ _ _ _ ?_;(try simp only [vcT,forall_eq])
   (simp only [vcS]);(try simp only [vcT])
   refine ⟨fun h=> by unfold InR;omega,fun h=> by omega,fun hc=> ⟨by unfold InR;omega,by omega,_,rfl,⟨by rw [List.length_take];omega,?_⟩,by rw [List.length_take];omega⟩,fun hc=> ?_⟩
   ·rw [Zjz hc.1 hc.2,h7]
   ·have hw:w=trim ws:=by rw [←h7,ZjB hc]
    refine Za (ι:=List Tree) (fun p=> Z6R (.mk k ws ks) w p) (fun p=> p.length≤l.length∧ZY p=ZY l) (fun p=> p.length) l rfl ⟨by omega,rfl⟩ ?_
    rintro q ⟨h8,h9⟩
    refine Zou N _ _ _ _ _ ?_;(try simp only [vcT,forall_eq])
    (simp only [vcS]);(try simp only [vcT])
    refine ⟨fun h=> by unfold InR;omega,fun h=> by omega,fun hc=> ⟨by unfold InR;omega,by omega,_,rfl,⟨by rw [List.length_take];omega,?_⟩,by rw [List.length_take];omega⟩,fun hc=> ?_⟩
    ·rw [ZfA hc.1 hc.2,h9]
    ·have hq:q=ZY (ZV ks):=by rw [←h5,←h9,ZfC hc]
     have e:Z6 (.mk k ws ks)= .mk k w q:=by
      subst hk
      simp only [Z6,hw,hq]
      try rfl
     simp only [ZbM,e]
     exact ⟨⟨rfl,⟨⟨rfl,rfl⟩,⟨rfl,trivial⟩,⟨rfl,trivial⟩,trivial⟩,trivial⟩,trivial⟩
  ·have hi:ks.take i.toNat=ks:=List.take_of_length_le (by omega)
   rw [hi] at h5
   have e:Z6 (.mk k ws ks)= .mk k ws l:=by simp only [Z6,if_neg hc0,if_neg hk,h5]
   simp only [ZbM,e]
   exact ⟨⟨rfl,⟨⟨rfl,rfl⟩,⟨rfl,trivial⟩,⟨rfl,trivial⟩,trivial⟩,trivial⟩,trivial⟩
end Go.AM.Ytpjenobkibfpcaa
