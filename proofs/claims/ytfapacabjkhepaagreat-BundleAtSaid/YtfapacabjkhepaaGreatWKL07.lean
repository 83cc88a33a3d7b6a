import Derived.Test.YtfapacabjkhepaaGreatWmZ
import Derived.Test.YtfapacabjkhepaaGreatChecked
import Derived.Test.YtfapacabjkhepaaGreatRows
import Derived.Test.YtfapacabjkhepaaGreatWmX
import Derived.Test.YtfapacabjkhepaaGreatWmXE
import Derived.ProofKit
import Derived.Test.YtfapacabjkhepaaGreatWKD07
set_option linter.unusedSimpArgs false
set_option linter.unusedVariables false
namespace Go.AM.YtfapacabjkhepaaGreat
open Go.AM Go.Proofs
def el:Ty->TypeId
 | .u64=> 64
 | .u8=> 5
 | .int=> 3
 | .tree=> 25
 | .wedit=> 66
 | .edit=> 40
 | .kid=> 72
 | .op=> 74
 | .piece=> 188
 | .unit=> 203
 | .pair=> 205
 | .bundle=> 31
 | .rbundle=> 28
def tb:Tables U:=
 {el:=el
  sl:=[(22,.u64),(23,.tree),(26,.edit),(36,.wedit),(37,.kid),(38,.op),(154,.u8),(184,.piece),(191,.int),(197,.pair),(200,.unit)]
  var:=[(2,false,[.int .i64 0]),
   (3,false,[.int .i64 0]),
   (4,false,[.bool false]),
   (5,false,[.int .u8 0]),
   (6,false,[.int .u8 0]),
   (7,true,[.int .i64 0,.int .i64 0,.bool false,.int .u8 0]),
   (8,true,[.int .i64 0,.int .i64 0,.bool false,.int .u8 0]),
   (12,false,[.int .u64 0]),
   (15,false,[.nilp]),
   (16,false,[.nilp]),
   (17,false,[.nilp]),
   (18,true,[.nilp]),
   (19,true,[.nilp]),
   (21,false,[.int .i32 0]),
   (22,false,[.nils]),
   (23,false,[.nils]),
   (24,true,[.int .i64 0,.nils,.nils]),
   (25,true,[.int .i64 0,.nils,.nils]),
   (26,false,[.nils]),
   (27,true,[.int .i64 0,.nils,.nils,.nils]),
   (28,true,[.int .i64 0,.nils,.nils,.nils]),
   (31,true,[.int .i64 0,.nils,.nils,.nils]),
   (36,false,[.nils]),
   (37,false,[.nils]),
   (38,false,[.nils]),
   (39,true,[.int .i64 0,.int .i64 0,.nils,.nils,.int .i64 0,.nils,.nils,.nils,.nils,.int .i64 0,.nils]),
   (40,true,[.int .i64 0,.int .i64 0,.nils,.nils,.int .i64 0,.nils,.nils,.nils,.nils,.int .i64 0,.nils]),
   (57,false,[.int .i64 0]),
   (64,false,[.int .u64 0]),
   (65,true,[.int .i64 0,.int .u8 0,.int .u64 0,.int .u64 0]),
   (66,true,[.int .i64 0,.int .u8 0,.int .u64 0,.int .u64 0]),
   (71,true,[.int .i64 0,.int .i64 0,.int .i64 0,.nils,.nils,.int .i64 0,.nils,.nils,.nils,.nils,.int .i64 0,.nils]),
   (72,true,[.int .i64 0,.int .i64 0,.int .i64 0,.nils,.nils,.int .i64 0,.nils,.nils,.nils,.nils,.int .i64 0,.nils]),
   (73,true,[.int .i64 0,.int .i64 0,.nils,.int .i64 0,.int .i64 0,.nils,.nils,.int .i64 0,.nils,.nils,.nils,.nils,.int .i64 0,.nils]),
   (74,true,[.int .i64 0,.int .i64 0,.nils,.int .i64 0,.int .i64 0,.nils,.nils,.int .i64 0,.nils,.nils,.nils,.nils,.int .i64 0,.nils]),
   (84,false,[.nilp]),
   (86,false,[.nils]),
   (87,true,[.int .i64 0,.int .i64 0,.int .i64 0,.int .i64 0]),
   (88,true,[.int .i64 0,.int .i64 0,.int .i64 0,.int .i64 0]),
   (108,false,[.nilp]),
   (109,true,[.nils]),
   (110,true,[.nils]),
   (113,true,[.nilp,.int .i64 0,.int .i64 0,.int .i64 0,.int .i64 0,.int .i64 0,.int .i64 0,.int .u64 0]),
   (114,true,[.nilp,.int .i64 0,.int .i64 0,.int .i64 0,.int .i64 0,.int .i64 0,.int .i64 0,.int .u64 0]),
   (117,false,[.nilp]),
   (118,true,[.int .i64 0,.int .i64 0]),
   (119,true,[.int .i64 0,.int .i64 0]),
   (121,true,[.nils,.int .i64 0,.int .i64 0,.int .i64 0]),
   (122,true,[.nils,.int .i64 0,.int .i64 0,.int .i64 0]),
   (129,false,[.nilp]),
   (130,true,[.nils,.nils,.nils]),
   (131,true,[.nils,.nils,.nils]),
   (134,false,[.nilp]),
   (141,true,[.int .i64 0,.int .i64 0,.int .i64 0,.int .i64 0,.int .i64 0,.int .i64 0,.int .i64 0,.bool false]),
   (142,true,[.int .i64 0,.int .i64 0,.int .i64 0,.int .i64 0,.int .i64 0,.int .i64 0,.int .i64 0,.bool false]),
   (150,true,[.int .u8 0,.int .u8 0,.int .u8 0,.int .u8 0,.int .u8 0,.int .u8 0,.int .u8 0,.int .u8 0]),
   (154,false,[.nils]),
   (169,true,[.int .i64 0,.int .i64 0,.int .i64 0,.int .i64 0,.int .i64 0,.int .i64 0,.int .i64 0,.bool false,.int .i64 0,.int .i64 0]),
   (170,true,[.int .i64 0,.int .i64 0,.int .i64 0,.int .i64 0,.int .i64 0,.int .i64 0,.int .i64 0,.bool false,.int .i64 0,.int .i64 0]),
   (184,false,[.nils]),
   (187,true,[.int .i64 0,.int .i64 0,.int .i64 0,.nils,.int .i64 0,.int .i64 0,.nils,.nils,.int .i64 0,.nils,.nils,.nils,.nils,.int .i64 0,.nils,.int .i64 0,.int .i64 0,.nils,.int .i64 0,.int .i64 0,.nils,.nils,.int .i64 0,.nils,.nils,.nils,.nils,.int .i64 0,.nils]),
   (188,true,[.int .i64 0,.int .i64 0,.int .i64 0,.nils,.int .i64 0,.int .i64 0,.nils,.nils,.int .i64 0,.nils,.nils,.nils,.nils,.int .i64 0,.nils,.int .i64 0,.int .i64 0,.nils,.int .i64 0,.int .i64 0,.nils,.nils,.int .i64 0,.nils,.nils,.nils,.nils,.int .i64 0,.nils]),
   (191,false,[.nils]),
   (197,false,[.nils]),
   (200,false,[.nils]),
   (202,true,[.int .i64 0,.int .i64 0,.int .i64 0,.nils,.nils,.int .i64 0,.int .i64 0,.nils,.nils,.int .i64 0,.nils,.nils,.nils,.nils,.int .i64 0,.nils,.bool false]),
   (203,true,[.int .i64 0,.int .i64 0,.int .i64 0,.nils,.nils,.int .i64 0,.int .i64 0,.nils,.nils,.int .i64 0,.nils,.nils,.nils,.nils,.int .i64 0,.nils,.bool false]),
   (204,true,[.int .i64 0,.int .i64 0,.int .i64 0,.int .i64 0,.nils,.nils,.int .i64 0,.int .i64 0,.nils,.nils,.int .i64 0,.nils,.nils,.nils,.nils,.int .i64 0,.nils,.bool false,.int .i64 0,.int .i64 0,.int .i64 0,.nils,.nils,.int .i64 0,.int .i64 0,.nils,.nils,.int .i64 0,.nils,.nils,.nils,.nils,.int .i64 0,.nils,.bool false]),
   (205,true,[.int .i64 0,.int .i64 0,.int .i64 0,.int .i64 0,.nils,.nils,.int .i64 0,.int .i64 0,.nils,.nils,.int .i64 0,.nils,.nils,.nils,.nils,.int .i64 0,.nils,.bool false,.int .i64 0,.int .i64 0,.int .i64 0,.nils,.nils,.int .i64 0,.int .i64 0,.nils,.nils,.int .i64 0,.nils,.nils,.nils,.nils,.int .i64 0,.nils,.bool false]),
   (210,false,[.int .u64 0]),
   (212,true,[.int .i64 0,.int .i64 0,.int .i64 0,.int .i64 0,.int .i64 0,.int .i64 0]),
   (218,false,[.nilp]),
   (219,true,[.nils,.int .i64 0]),
   (220,true,[.nils,.int .i64 0]),
   (222,false,[.int .u32 0]),
   (230,true,[.int .i64 0,.int .i64 0,.int .i64 0,.int .i64 0,.int .i64 0,.int .i64 0,.int .i64 0]),
   (237,false,[.int .u8 0]),
   (238,false,[.int .u8 0]),
   (240,false,[.nilp]),
   (241,false,[.int .i32 0]),
   (242,false,[.int .i32 0])]
  fld:=[(7,0,0,2),(7,1,1,3),(7,2,2,4),(7,3,3,6),(8,0,0,2),(8,1,1,3),(8,2,2,4),(8,3,3,6),(18,0,0,17),(19,0,0,17),(24,0,0,3),(24,1,1,22),(24,2,2,23),(25,0,0,3),(25,1,1,22),(25,2,2,23),(27,0,0,25),(27,1,3,26),(28,0,0,25),(28,1,3,26),(31,0,0,25),(31,1,3,26),(39,0,0,3),(39,1,1,25),(39,2,4,25),(39,3,7,36),(39,4,8,37),(39,5,9,3),(39,6,10,38),(40,0,0,3),(40,1,1,25),(40,2,4,25),(40,3,7,36),(40,4,8,37),(40,5,9,3),(40,6,10,38),(65,0,0,3),(65,1,1,5),(65,2,2,64),(65,3,3,64),(66,0,0,3),(66,1,1,5),(66,2,2,64),(66,3,3,64),(71,0,0,3),(71,1,1,40),(72,0,0,3),(72,1,1,40),(73,0,0,3),(73,1,1,3),(73,2,2,23),(73,3,3,40),(74,0,0,3),(74,1,1,3),(74,2,2,23),(74,3,3,40),(87,0,0,3),(87,1,1,3),(87,2,2,3),(87,3,3,3),(88,0,0,3),(88,1,1,3),(88,2,2,3),(88,3,3,3),(109,0,0,22),(110,0,0,22),(113,0,0,84),(113,1,1,3),(113,2,2,3),(113,3,3,3),(113,4,4,3),(113,5,5,3),(113,6,6,3),(113,7,7,64),(114,0,0,84),(114,1,1,3),(114,2,2,3),(114,3,3,3),(114,4,4,3),(114,5,5,3),(114,6,6,3),(114,7,7,64),(118,0,0,3),(118,1,1,3),(119,0,0,3),(119,1,1,3),(121,0,0,86),(121,1,1,3),(121,2,2,3),(121,3,3,3),(122,0,0,86),(122,1,1,3),(122,2,2,3),(122,3,3,3),(130,0,0,38),(130,1,1,23),(130,2,2,23),(131,0,0,38),(131,1,1,23),(131,2,2,23),(141,0,0,3),(141,1,1,3),(141,2,2,3),(141,3,3,3),(141,4,4,3),(141,5,5,3),(141,6,6,3),(141,7,7,4),(142,0,0,3),(142,1,1,3),(142,2,2,3),(142,3,3,3),(142,4,4,3),(142,5,5,3),(142,6,6,3),(142,7,7,4),(169,0,0,142),(169,1,8,3),(169,2,9,3),(170,0,0,142),(170,1,8,3),(170,2,9,3),(187,0,0,3),(187,1,1,74),(187,2,15,74),(188,0,0,3),(188,1,1,74),(188,2,15,74),(202,0,0,3),(202,1,1,3),(202,2,2,25),(202,3,5,40),(202,4,16,4),(203,0,0,3),(203,1,1,3),(203,2,2,25),(203,3,5,40),(203,4,16,4),(204,0,0,3),(204,1,1,203),(204,2,18,203),(205,0,0,3),(205,1,1,203),(205,2,18,203),(219,0,0,38),(219,1,1,3),(220,0,0,38),(220,1,1,3)]
  arr:=[(150,8,5),(212,6,3),(230,7,3)]
  eqs:=[7,8,65,66,87,88,118,119,141,142] }
def cfg:Cfg U:=tb.cfg K
theorem ZHy:tb.var.all (ZyA Tryz.prog)=true:=V4
theorem ZJC:tb.sl.all (slB Tryz.prog tb.el)=true:=V4
theorem ZHX:tb.fld.all (ZEe Tryz.prog)=true:=V4
theorem ZI4:tb.arr.all (ZF7 Tryz.prog)=true:=V4
theorem ZJD:∀ t,elB Tryz.prog K tb t=true:=by
 intro t
 cases t
 .kernel_rfl
 .kernel_rfl
 .kernel_rfl
 .kernel_rfl
 .kernel_rfl
 .kernel_rfl
 .kernel_rfl
 .kernel_rfl
 .kernel_rfl
 .kernel_rfl
 .kernel_rfl
 .kernel_rfl
 .kernel_rfl
theorem Zi:CfgOk Tryz.prog cfg:=Zrg ZK1 ZHy ZJC ZHX ZI4 ZJD V4 V4
abbrev sU(T:Ty)(l:List (El T))(t:Tail):C U:= .slice (U:=U) T l t
noncomputable abbrev AW(K:Known U)(f:Func)(lv:Zd U)(p:List Nat):=awp cfg K (Z09 cfg K) f.ntmps lv (cd f p)
noncomputable abbrev SW(K:Known U)(f:Func)(lv:Zd U)(p:List Nat):=ZHz cfg K (Z09 cfg K) f.ntmps lv (cd f p)
abbrev EQ(f:Func):=Y2 cfg f.ntmps f.results.toList
abbrev QT:=AExit->LSt U->Prop
abbrev NT:=LSt U->Prop
abbrev CT(k:FuncId)(s:Fs U):Prop:=Contract Tryz.prog cfg k s
abbrev xB:=@AExit.inBlock U
abbrev xT:=@AExit.then U
abbrev ci(x:Int):C U:= .int .i64 x
abbrev L2(e:List (Nat × V U))(m:List (Name × List (C U))):LSt U:=⟨e,m,[]⟩
abbrev pL(n:Nat):Nat × V U:=(n,.ptr (.loc n) 0)
abbrev pB(n:Nat)(b:Bool):Nat × V U:=(n,.c (.bool b))
abbrev pI(n:Nat)(x:Int):Nat × V U:=(n,.c (.int .i64 x))
def lvl(l:List (List Nat × List Nat)):Zd U:=fun i=> ((l.getD i ([],[])).1.map fun k=> (k,[]),(l.getD i ([],[])).2.map fun k=> (.loc k,[]))
instance (n:Nat):OfNat (Nat × List (Sk U)) n:=⟨(n,[])⟩
instance (n:Nat):OfNat (Name × List (Sk U)) n:=⟨(.loc n,[])⟩
abbrev an(n:Nat)(l:List (Sk U)):List (Sk U):=List.replicate n .any++l
def lvk(l:List (List (Nat × List (Sk U)) × List (Name × List (Sk U)))):Zd U:=fun i=> l.getD i ([],[])
abbrev zc0:List (C U):=[.int .u8 0,.int .u8 0,.int .u8 0,.int .u8 0,.int .u8 0,.int .u8 0,.int .u8 0,.int .u8 0]
abbrev zc1:List (C U):=[.int .i64 0,.int .i64 0,.nils,.nils,.int .i64 0,.nils,.nils,.nils,.nils,.int .i64 0,.nils]
abbrev zc2:List (C U):=[.int .i64 0,.int .i64 0,.nils,.int .i64 0,.int .i64 0,.nils,.nils,.int .i64 0,.nils,.nils,.nils,.nils,.int .i64 0,.nils]
end Go.AM.YtfapacabjkhepaaGreat
namespace Go.AM.YtfapacabjkhepaaGreat
open Go.AM Go.Proofs Go.Proofs.YtfapacabjkhepaaGreat Go.ChangeShapes Go.WideShapes Go.RowKit
theorem own:ownKnob Tryz.prog.godebug=none:=V4
theorem ZzX:laidOutB Tryz.prog=true:=V4
theorem Zbv:TreeTypes cfg:=⟨rfl,rfl,⟨_,rfl⟩,⟨_,rfl⟩,⟨_,rfl,rfl⟩,⟨_,_,rfl,rfl⟩,⟨_,_,rfl,rfl,rfl⟩,⟨_,_,rfl,rfl,rfl⟩⟩
theorem Zsb:EditTypes cfg:=⟨⟨_,rfl,rfl⟩,⟨_,_,rfl,rfl⟩,⟨_,_,rfl,rfl⟩,⟨_,_,rfl,rfl⟩,⟨_,_,rfl,rfl⟩,⟨_,rfl,rfl⟩,⟨_,_,rfl,rfl⟩,rfl,⟨_,rfl,rfl⟩,⟨_,_,rfl,rfl⟩,⟨_,_,rfl,rfl⟩,⟨_,_,rfl,rfl,rfl⟩,rfl,⟨_,rfl,rfl⟩,⟨_,_,rfl,rfl⟩,rfl,rfl,⟨_,_,rfl,rfl,rfl⟩,⟨_,_,rfl,rfl,rfl⟩,⟨_,_,rfl,rfl⟩,⟨_,_,rfl,rfl,rfl⟩⟩
theorem ZCK{H:Type}{henc:TypeId × Value->H}{w:World}{n:Nat}{cs:List Value}(h:Rdd henc Tryz.prog w n (cfg.elT .rbundle) cs):
  ∃ e:Bnd,RelS cfg w.cell? cs (cfg.enc .rbundle e)/\inT e.first/\e.log.length*cfg.bytes .edit<=reachBytes/\∀ x∈e.log,inE x:=by
 obtain ⟨tz,htz,htzl⟩:=Zbv.var
 obtain ⟨m,rfl,hl,r0⟩:=J7 Zi (t:=cfg.elT .rbundle) (i:=0) (off:=0) (ft:=cfg.elT .tree) rfl htz h
 obtain ⟨m',e',_,r1⟩:=J7 Zi (t:=cfg.elT .rbundle) (i:=1) (off:=3) (ft:=26) (ag:=false) (zs:=[.nils]) rfl rfl h
 cases e'
 have hl2:cs.length=4:=by rw [hl,Z0a Zi (t:=cfg.elT .rbundle) (ag:=true) rfl];try rfl
 obtain ⟨a,a1,a2⟩:=ZdU Zi Zbv _ _ r0
 obtain ⟨l,p1,p2,p3⟩:=Zfj Zi (S:= .edit) rfl (fun m _ cs h=> ZyJ Zi Zbv Zsb m cs h) r1
 rw [htzl] at a1
 exact ⟨⟨a,l⟩,a1.glue rfl YL (p1.glue rfl (by simp;omega) (RelS.done (n:=4) hl2)),a2,p2,p3⟩
theorem Zo5{H:Type}{henc:TypeId × Value->H}:ZxB henc Tryz.prog cfg (aEl .rbundle) 28 (fun e=> inT e.first/\e.log.length*cfg.bytes .edit<=reachBytes/\∀ x∈e.log,inE x):=
 ZAf Zi rfl ⟨_,_,rfl⟩ (fun _ n cs h=> ZCK h)
theorem Zxn{H:Type}{henc:TypeId × Value->H}:ZxB henc Tryz.prog cfg (Ya .i64) 3 (fun z=> IntKind.min .i64<=z/\z<=IntKind.max .i64):=Zxm Zi (n0:=0) rfl
end Go.AM.YtfapacabjkhepaaGreat
namespace Go.AM.YtfapacabjkhepaaGreat
open Go.AM Go.Proofs
noncomputable section
def ZnX:ArgL (Tree × Int × Int × Unit):=(.cons (aEl .tree) (.cons (Ya .i64) (.cons (Ya .i64) .nil)))
def Z9Y(a:Tree × Int × Int × Unit):Prop:=Z3z a.1/\0<=a.2.1/\a.2.1<=4611686018427387904/\-1<=a.2.2.1/\a.2.2.1<=4611686018427387904
def ZrK(a:Tree × Int × Int × Unit):Nat:=Zm a.1
def ZkA(a:Tree × Int × Int × Unit):V U:= .c (ci (ZJ a.1 a.2.1 a.2.2.1))
def Z61:Fs U:=fs ZnX (fun a=> [Z9Y a]) ZkA
def Zxh:ArgL (Tree × Unit):=(.cons (aEl .tree) .nil)
def ZuE(a:Tree × Unit):Prop:=Z3z a.1
def ZBG(a:Tree × Unit):V U:= .c (.bool (decide (0<=ZJ a.1 80 3000)))
def ZeN:Fs U:=fs Zxh (fun a=> [ZuE a]) ZBG
def Zxf:ArgL (List Int × List Int × Unit):=(.cons (aSl .u64) (.cons (aSl .u64) .nil))
def Zhv(a:List Int × List Int × Unit):Prop:=a.1.length<=1000000000000
def ZkB(a:List Int × List Int × Unit):V U:= .c (.bool (decide (a.1=a.2.1)))
def ZeM:Fs U:=fs Zxf (fun a=> [Zhv a]) ZkB
def ZwZ:ArgL (List Int × Unit):=(.cons (aSl .u64) .nil)
def ZkM(a:List Int × Unit):Prop:=a.1.length<=1000000000000
def ZtQ(a:List Int × Unit):V U:= .c (sU .u64 (trim a.1) .unk)
def ZeA:Fs U:=fs ZwZ (fun a=> [ZkM a]) ZtQ
def ZBx(a:List Int × Unit):V U:= .c (sU .u64 a.1 .unk)
def ZeB:Fs U:=fs ZwZ (fun a=> [ZkM a]) ZBx
def ZwV:ArgL (Tree × Int × Unit):=(.cons (aEl .tree) (.cons (Ya .i64) .nil))
def Zhr(a:Tree × Int × Unit):Prop:=True
def ZoN(a:Tree × Int × Unit):V U:= .c (.int .u64 (YE a.1 a.2.1))
def Z54:Fs U:=fs ZwV (fun a=> [Zhr a]) ZoN
def ZoU(a:Tree × Int × Unit):V U:= .agg (enc .tree (JD a.1 a.2.1))
def Z57:Fs U:=fs ZwV (fun a=> [Zhr a]) ZoU
def JK(a:Tree × Unit):Prop:=Zm a.1<=1000000000000
def ZrM(a:Tree × Unit):Nat:=Zm a.1
def Zhl(a:Tree × Unit):V U:= .agg (enc .tree (Z5 a.1))
def JF:Fs U:=fs Zxh (fun a=> [JK a]) Zhl
def Zo4:ArgL (Tree × Tree × Unit):=(.cons (aEl .tree) (.cons (aEl .tree) .nil))
def Z2i(a:Tree × Tree × Unit):Prop:=Zm a.1<=1000000000000
def ZrO(a:Tree × Tree × Unit):Nat:=Zm a.1
def Zhn(a:Tree × Tree × Unit):V U:= .c (.bool (YM a.1 a.2.1))
def Z14:Fs U:=fs Zo4 (fun a=> [Z2i a]) Zhn
def Z6e(a:Tree × Tree × Unit):Prop:=Zm a.1<=1000000000000/\Zm a.2.1<=1000000000000
def ZrL(a:Tree × Tree × Unit):Nat:=Zm a.1+Zm a.2.1
def Zf8(a:Tree × Tree × Unit):V U:= .c (.bool (YM (Z5 a.1) (Z5 a.2.1)))
def Z0i:Fs U:=fs Zo4 (fun a=> [Z6e a]) Zf8
def Znp(N:Nat):List (FuncId × Fs U):=(50,fs ZnX (fun a=> [Z9Y a,ZrK a < N]) ZkA) ::[]
def ZzG:Zd U:=lvl [([1,2,3],[3]),([1,2,3],[3]),([1,2,3,19],[3]),([6],[]),([1,2,3,7],[3]),([1,2,3,7,28],[3]),([1,2,3,7],[3]),([1,2,3,7],[3]),([6],[])]
def ZaR(t:Tree)(d l x2 x7:Int):LSt U:=(L2 [pI 1 d,pI 2 x2,pL 3,pI 7 x7] [(.loc 3,(enc .tree t))])
abbrev A50(N:Nat)(p:List Nat):=AW (Z1 (Znp N)) Tryz.f50 ZzG p
abbrev S50(N:Nat)(p:List Nat):=SW (Z1 (Znp N)) Tryz.f50 ZzG p
theorem ZJ5(N:Nat)(t:Tree)(d l:Int)(Q:QT)(h:((InR (l - 1))/\(InR (((l - 1):Int) - (t.words.length:Int)))/\((Tt (!(d==0)))/\((d==0)=false->(!(d==0))=true)/\(iB (bif (d==0) then true else (decide (((((l - 1):Int) - (t.words.length:Int)):Int) < 0))) ((Q .ret (L2 [pI 6 (-1)] []))) ((Zj (A50 N [1,1,1,0,1,0,0]) (ZaR t d l (((l - 1):Int) - (t.words.length:Int)) 0) (xB 0 (S50 N [1,1,1,1] Q)))))))):
  A50 N [] (L2 [(0,.agg (enc .tree t)),pI 1 d,pI 2 l] []) Q:=
 Eq.mpr V4 h
theorem Zyb(N:Nat)(t:Tree)(d l x2 x7:Int)(N0:NT)(Q:QT)(h:let z2:=t.kids.getD x7.toNat Tree.nil;let z1:=decide (x7 < (t.kids.length:Int));let z0:=Tree.mk (Tree.kind z2) (Tree.words z2) (Tree.kids z2);(Tt z1)/\(Tt z1)/\(iB (bif z1 then (decide ((0:Int)<=x2)) else false) (((0:Int)<=x7/\x7 < (t.kids.length:Int))/\(InR (d - 1))/\(Z9Y (z0,(d - 1),x2,()))/\(ZrK (z0,(d - 1),x2,()) < N)/\((InR (x7+1))/\(N0 (ZaR t d l (ZJ z0 (d - 1) x2) (x7+1))))) ((Q .ret (L2 [pI 6 x2] []))))):
  A50 N [1,1,1,0,1,0,0] (ZaR t d l x2 x7) (xT N0 (xB 0 (S50 N [1,1,1,1] Q))):=
 Eq.mpr V4 h
def ZFX(N:Nat)(t:Tree)(d l:Int):Prop:=AW (Z1 (Znp N)) Tryz.f50 ZzG [] (Zg (ZnX.can (t,d,l,())) []) (EQ Tryz.f50 (ZkA (t,d,l,())) [])
theorem ZDh(hb:∀ (N:Nat) (t:Tree) (d:Int) (l:Int) (_:Unit),Z9Y (t,d,l,())->ZrK (t,d,l,()) < N+1->ZFX N t d l):CT 50 Z61:=
 Yi (μ:=ZrK) (l:=[]) Zi rfl trivial ZzG Tryz.func50 rfl rfl 3 (fun _=> rfl) V2 (fun N ⟨t,d,l,_⟩=> hb N t d l ())
def Zwb:List (FuncId × Fs U):=[(50,Z61)]
def ZE4:Zd U:=lvl [([1],[1]),([2],[])]
abbrev A22(p:List Nat):=AW (Z1 Zwb) Tryz.f22 ZE4 p
theorem ZJr(t:Tree)(Q:QT)(h:let z0:=Tree.mk t.kind t.words t.kids;((Z9Y (z0,80,3000,()))/\(Q .ret (L2 [(2,.c (.bool (decide ((0:Int)<=(ZJ z0 80 3000)))))] [])))):
  A22 [] (L2 [(0,.agg (enc .tree t))] []) Q:=
 Eq.mpr V4 h
def ZGj(t:Tree):Prop:=AW (Z1 Zwb) Tryz.f22 ZE4 [] (Zg (Zxh.can (t,())) []) (EQ Tryz.f22 (ZBG (t,())) [])
theorem ZDz(c50:CT 50 Z61)(hb:∀ (t:Tree) (_:Unit),ZuE (t,())->ZGj t):CT 22 ZeN:=
 Z2 (l:=[(50,Z61)]) Zi rfl (⟨c50,trivial⟩) ZE4 Tryz.func22 rfl rfl 1 (fun _=> rfl) V2 (fun ⟨t,_⟩=> hb t ())
def Znz:List (FuncId × Fs U):=[]
def ZzQ:Zd U:=lvl [([0,1],[]),([0,1,10],[]),([4],[]),([0,1,5],[]),([0,1,5,14],[]),([0,1,5],[]),([0,1,5,25],[]),([4],[]),([4],[])]
def Zb8(a b:List Int)(x5:Int):LSt U:=(L2 [(0,.c (sU .u64 a .unk)),(1,.c (sU .u64 b .unk)),pI 5 x5] [])
abbrev A26(p:List Nat):=AW (Z1 Znz) Tryz.f26 ZzQ p
abbrev S26(p:List Nat):=SW (Z1 Znz) Tryz.f26 ZzQ p
theorem ZJp(a b:List Int)(Q:QT)(h:(iB (((a.length:Int):Int) !=(b.length:Int)) ((Q .ret (L2 [pB 4 false] []))) ((Zj (A26 [1,1,0,1,0,0]) (Zb8 a b 0) (xB 0 (S26 [1,1,1] Q)))))):
  A26 [] (L2 [(0,.c (sU .u64 a .unk)),(1,.c (sU .u64 b .unk))] []) Q:=
 Eq.mpr V4 h
theorem Zyt(a b:List Int)(x5:Int)(N0:NT)(Q:QT)(h:(iB (decide (x5 < (a.length:Int))) (((0:Int)<=x5/\x5 < (a.length:Int))/\((0:Int)<=x5/\x5 < (b.length:Int))/\(iB (((a.getD x5.toNat (0:Int)):Int) !=(b.getD x5.toNat (0:Int))) ((Q .ret (L2 [pB 4 false] []))) ((InR (x5+1))/\(N0 (Zb8 a b (x5+1)))))) ((Q .ret (L2 [pB 4 true] []))))):
  A26 [1,1,0,1,0,0] (Zb8 a b x5) (xT N0 (xB 0 (S26 [1,1,1] Q))):=
 Eq.mpr V4 h
def ZGh(a b:List Int):Prop:=AW (Z1 Znz) Tryz.f26 ZzQ [] (Zg (Zxf.can (a,b,())) []) (EQ Tryz.f26 (ZkB (a,b,())) [])
theorem ZDx(hb:∀ (a:List Int) (b:List Int) (_:Unit),Zhv (a,b,())->ZGh a b):CT 26 ZeM:=
 Z2 (l:=[]) Zi rfl trivial ZzQ Tryz.func26 rfl rfl 2 (fun _=> rfl) V2 (fun ⟨a,b,_⟩=> hb a b ())
def ZzC:Zd U:=lvl [([0],[]),([0,3],[]),([0,3,16],[]),([0,3],[]),([0,3,4],[]),([2],[])]
def ZaI(l:List Int)(x3:Int):LSt U:=(L2 [(0,.c (sU .u64 l .unk)),pI 3 x3] [])
abbrev A65(p:List Nat):=AW (Z1 Znz) Tryz.f65 ZzC p
abbrev S65(p:List Nat):=SW (Z1 Znz) Tryz.f65 ZzC p
theorem ZIV(l:List Int)(Q:QT)(h:(Zj (A65 [1,1,0,0,0]) (ZaI l (l.length:Int)) (xB 0 (S65 [1,1,1] Q)))):
  A65 [] (L2 [(0,.c (sU .u64 l .unk))] []) Q:=
 Eq.mpr V4 h
theorem ZxZ(l:List Int)(x3:Int)(N0:NT)(Q:QT)(h:let z0:=decide ((0:Int) < x3);(Tt z0)/\(z0=true->InR (x3 - 1))/\(Tt z0)/\(Tt z0)/\(z0=true->(0:Int)<=(x3 - 1)/\(x3 - 1) < (l.length:Int))/\(Tt z0)/\(Tt z0)/\(Tt z0)/\(iB (bif z0 then (((List.getD l (Int.toNat (x3 - 1)) (0:Int)):Int)==0) else false) ((InR (x3 - 1))/\(N0 (ZaI l (x3 - 1)))) ((((0:Int)<=x3/\x3<=(l.length:Int))/\((([]:List Int).length+(List.take x3.toNat l).length)*8<=140737488355328)/\(Q .ret (L2 [(2,.c (sU .u64 (([]:List Int)++(List.take x3.toNat l)) (.own (.e 2 0))))] [])))))):
  A65 [1,1,0,0,0] (ZaI l x3) (xT N0 (xB 0 (S65 [1,1,1] Q))):=
 Eq.mpr V4 h
def ZFN(l:List Int):Prop:=AW (Z1 Znz) Tryz.f65 ZzC [] (Zg (ZwZ.can (l,())) []) (EQ Tryz.f65 (ZtQ (l,())) [])
theorem ZDa(hb:∀ (l:List Int) (_:Unit),ZkM (l,())->ZFN l):CT 65 ZeA:=
 Z2 (l:=[]) Zi rfl trivial ZzC Tryz.func65 rfl rfl 1 (fun _=> rfl) V2 (fun ⟨l,_⟩=> hb l ())
def ZDQ:Zd U:=lvl [([0],[]),([0,4],[]),([2],[]),([2],[])]
abbrev A64(p:List Nat):=AW (Z1 Znz) Tryz.f64 ZDQ p
theorem ZIW(l:List Int)(Q:QT)(h:(((l=[])->(Q .ret (L2 [(2,.c (.nils))] [])))/\(True->((([]:List Int).length+l.length)*8<=140737488355328)/\(Q .ret (L2 [(2,.c (sU .u64 (([]:List Int)++l) (.own (.e 2 0))))] []))))):
  A64 [] (L2 [(0,.c (sU .u64 l .unk))] []) Q:=
 Eq.mpr V4 h
def ZFO(l:List Int):Prop:=AW (Z1 Znz) Tryz.f64 ZDQ [] (Zg (ZwZ.can (l,())) []) (EQ Tryz.f64 (ZBx (l,())) [])
theorem ZDb(hb:∀ (l:List Int) (_:Unit),ZkM (l,())->ZFO l):CT 64 ZeB:=
 Z2 (l:=[]) Zi rfl trivial ZDQ Tryz.func64 rfl rfl 1 (fun _=> rfl) V2 (fun ⟨l,_⟩=> hb l ())
def Zzz:Zd U:=lvl [([0,1],[]),([0,1,10],[]),([4],[]),([0,1,12,13],[]),([0,1,12,13,14],[]),([0,1,5,12,13],[]),([0,1,12,13,24],[]),([4],[]),([0,1,12,13],[]),([4],[])]
def ZaC(a b:List Int)(x13:Int):LSt U:=(L2 [(0,.c (sU .u64 a .unk)),(1,.c (sU .u64 b .unk)),pI 12 (a.length:Int),pI 13 x13] [])
abbrev A80(p:List Nat):=AW (Z1 Znz) Tryz.f80 Zzz p
abbrev S80(p:List Nat):=SW (Z1 Znz) Tryz.f80 Zzz p
theorem ZIM(a b:List Int)(Q:QT)(h:(iB (((a.length:Int):Int) !=(b.length:Int)) ((Q .ret (L2 [pB 4 false] []))) ((Zj (A80 [1,1,0,1,0,0]) (ZaC a b 0) (xB 0 (S80 [1,1,1] Q)))))):
  A80 [] (L2 [(0,.c (sU .u64 a .unk)),(1,.c (sU .u64 b .unk))] []) Q:=
 Eq.mpr V4 h
theorem ZxL(a b:List Int)(x13:Int)(N0:NT)(Q:QT)(h:(iB (decide (x13 < (a.length:Int))) ((((0:Int)<=x13/\x13 < (a.length:Int))/\((0:Int)<=x13/\x13 < (b.length:Int))/\(iB (((a.getD x13.toNat (0:Int)):Int) !=(b.getD x13.toNat (0:Int))) ((Q .ret (L2 [pB 4 false] []))) ((InR (x13+1))/\(N0 (ZaC a b (x13+1))))))) ((Q .ret (L2 [pB 4 true] []))))):
  A80 [1,1,0,1,0,0] (ZaC a b x13) (xT N0 (xB 0 (S80 [1,1,1] Q))):=
 Eq.mpr V4 h
def ZFE(a b:List Int):Prop:=AW (Z1 Znz) Tryz.f80 Zzz [] (Zg (Zxf.can (a,b,())) []) (EQ Tryz.f80 (ZkB (a,b,())) [])
theorem ZD6(hb:∀ (a:List Int) (b:List Int) (_:Unit),Zhv (a,b,())->ZFE a b):CT 80 ZeM:=
 Z2 (l:=[]) Zi rfl trivial Zzz Tryz.func80 rfl rfl 2 (fun _=> rfl) V2 (fun ⟨a,b,_⟩=> hb a b ())
def ZDN:Zd U:=lvl [([1,2],[2]),([1,2,13],[2]),([4],[]),([4],[])]
abbrev A81(p:List Nat):=AW (Z1 Znz) Tryz.f81 ZDN p
theorem ZIL(t:Tree)(i:Int)(Q:QT)(h:let z0:= !(decide (i < 0));((Tt z0)/\(Tt z0)/\(Tt z0)/\(Tt z0)/\((decide (i < 0))=false->z0=true)/\(iB (bif (decide (i < 0)) then true else (decide (((t.words.length:Int):Int)<=i))) ((Q .ret (L2 [(4,.c (.int .u64 0))] []))) (((0:Int)<=i/\i < (t.words.length:Int))/\(Q .ret (L2 [(4,.c (.int .u64 (t.words.getD i.toNat (0:Int))))] [])))))):
  A81 [] (L2 [(0,.agg (enc .tree t)),pI 1 i] []) Q:=
 Eq.mpr V4 h
def ZFD(t:Tree)(i:Int):Prop:=AW (Z1 Znz) Tryz.f81 ZDN [] (Zg (ZwV.can (t,i,())) []) (EQ Tryz.f81 (ZoN (t,i,())) [])
theorem ZD5(hb:∀ (t:Tree) (i:Int) (_:Unit),Zhr (t,i,())->ZFD t i):CT 81 Z54:=
 Z2 (l:=[]) Zi rfl trivial ZDN Tryz.func81 rfl rfl 2 (fun _=> rfl) V2 (fun ⟨t,i,_⟩=> hb t i ())
def ZDV:Zd U:=lvl [([1,2,4],[2,4]),([1,2,4,13],[2,4]),([4],[4]),([4],[4])]
abbrev A45(p:List Nat):=AW (Z1 Znz) Tryz.f45 ZDV p
theorem ZJ8(t:Tree)(i:Int)(Q:QT)(h:let z0:= !(decide (i < 0));((Tt z0)/\(Tt z0)/\(Tt z0)/\(Tt z0)/\((decide (i < 0))=false->z0=true)/\(iB (bif (decide (i < 0)) then true else (decide (((t.kids.length:Int):Int)<=i))) ((Q .ret (L2 [pL 4] [(.loc 4,[ci 0,.nils,.nils])]))) (((0:Int)<=i/\i < (t.kids.length:Int))/\(Q .ret (L2 [pL 4] [(.loc 4,(enc .tree (t.kids.getD i.toNat Tree.nil)))])))))):
  A45 [] (L2 [(0,.agg (enc .tree t)),pI 1 i] []) Q:=
 Eq.mpr V4 h
def ZG0(t:Tree)(i:Int):Prop:=AW (Z1 Znz) Tryz.f45 ZDV [] (Zg (ZwV.can (t,i,())) []) (EQ Tryz.f45 (ZoU (t,i,())) [])
theorem ZDk(hb:∀ (t:Tree) (i:Int) (_:Unit),Zhr (t,i,())->ZG0 t i):CT 45 Z57:=
 Z2 (l:=[]) Zi rfl trivial ZDV Tryz.func45 rfl rfl 2 (fun _=> rfl) V2 (fun ⟨t,i,_⟩=> hb t i ())
def Znv(N:Nat):List (FuncId × Fs U):=(34,fs Zxh (fun a=> [JK a,ZrM a < N]) Zhl) ::[(65,ZeA)]
def ZzM:Zd U:=lvk [([1,2],[1,2]),([1,2,10],[1,2]),([2],[2]),([1,2,3],[1,2]),([1,2,3,4],[1,2]),([1,2,(3,[.own .tree]),4,5],[1,2]),([1,2,3,4,5,16],[1,2]),([1,2,(3,[.own .tree]),4,5],[1,2]),([1,2,3,4,5,6],[1,2,6]),([1,2,3,4,5,6],[1,2,6]),([1,2,3,4,5,31],[1,2]),([1,2,3,4,5],[1,2]),([1,2,3,4,36],[1,2]),([2],[2]),([1,2,3,7],[1,2]),([1,2,3,7],[1,2]),([2],[2])]
def Z6H(t:Tree)(x4 x5:Int)(x3:List Tree):LSt U:=(L2 [pL 1,pL 2,(3,.c (sU .tree x3 (.own (.e 3 0)))),pI 4 x4,pI 5 x5] [(.loc 1,(enc .tree t)),(.loc 2,[ci 0,.nils,.nils])])
abbrev A34(N:Nat)(p:List Nat):=AW (Z1 (Znv N)) Tryz.f34 ZzM p
abbrev S34(N:Nat)(p:List Nat):=SW (Z1 (Znv N)) Tryz.f34 ZzM p
theorem ZJh(N:Nat)(t:Tree)(Q:QT)(h:(iB (t.kind==0) ((Q .ret (L2 [pL 2] [(.loc 2,[ci 0,.nils,.nils])]))) ((Zj (A34 N [1,1,1,1,0,1,0,0]) (Z6H t 0 0 []) (xB 0 (S34 N [1,1,1,1,1] Q)))))):
  A34 N [] (L2 [(0,.agg (enc .tree t))] []) Q:=
 Eq.mpr V4 h
theorem Zyk(N:Nat)(t:Tree)(x4 x5:Int)(x3:List Tree)(N0:NT)(Q:QT)(h:∀ y_1,y_1=(t.kids.getD x5.toNat Tree.nil)->∀ y_2,y_2=y_1->∀ y_3,y_3=(Z5 y_2)->(iB (decide (x5 < (t.kids.length:Int))) (((0:Int)<=x5/\x5 < (t.kids.length:Int))/\(JK (y_2,()))/\(ZrM (y_2,()) < N)/\(((x3.length+([y_3]).length)*56<=140737488355328)/\(iB (((Tree.kind (Z5 y_2)):Int) !=0) ((InR (x5+1))/\((InR (x5+1))/\(N0 (Z6H t (x5+1) (x5+1) (x3++([y_3])))))) ((InR (x5+1))/\(N0 (Z6H t x4 (x5+1) (x3++([y_3])))))))) ((iB (t.kind==1) ((ZkM (t.words,()))/\((0:Int)<=x4/\x4<=(x3.length:Int))/\(Q .ret (L2 [pL 2] [(.loc 2,[ci 1,sU .u64 (trim t.words) .unk,sU .tree (List.take x4.toNat x3) .unk])]))) ((((([]:List Int).length+t.words.length)*8<=140737488355328)/\(Q .ret (L2 [pL 2] [(.loc 2,[ci t.kind,sU .u64 (([]:List Int)++t.words) (.own (.l 2 1)),sU .tree x3 (.own (.l 2 2))])])))))))):
  A34 N [1,1,1,1,0,1,0,0] (Z6H t x4 x5 x3) (xT N0 (xB 0 (S34 N [1,1,1,1,1] Q))):=
 Eq.mpr V4 (h _ rfl _ (Za _) _ (Za _))
def ZG9(N:Nat)(t:Tree):Prop:=AW (Z1 (Znv N)) Tryz.f34 ZzM [] (Zg (Zxh.can (t,())) []) (EQ Tryz.f34 (Zhl (t,())) [])
theorem ZDq(c65:CT 65 ZeA)(hb:∀ (N:Nat) (t:Tree) (_:Unit),JK (t,())->ZrM (t,()) < N+1->ZG9 N t):CT 34 JF:=
 Yi (μ:=ZrM) (l:=[(65,ZeA)]) Zi rfl (⟨c65,trivial⟩) ZzM Tryz.func34 rfl rfl 1 (fun _=> rfl) V2 (fun N ⟨t,_⟩=> hb N t ())
def Znw(N:Nat):List (FuncId × Fs U):=(33,fs Zxh (fun a=> [JK a,ZrM a < N]) Zhl) ::[(64,ZeB)]
def ZzN:Zd U:=lvk [([1,2],[1,2]),([1,2,8],[1,2]),([2],[2]),([1,2,3],[1,2,3]),([1,2,3,17,18,19],[1,2,((.loc 3),[.any,.any,.own .tree])]),([1,2,3,17,18,19,20],[1,2,3]),([1,2,3,5,17,18,19],[1,2,3,5]),([1,2,3,17,18,19],[1,2,3]),([1,2,3,17,18,19],[1,2,((.loc 3),[.any,.any,.own .tree])]),([2,3,33],[2,((.loc 3),[.any,.any,.unk .tree])]),([2,3,33,48],[2,((.loc 3),[.any,.any,.unk .tree])]),([2,3,33],[2,((.loc 3),[.any,.any,.unk .tree])]),([2,3,33,48,72],[2,3]),([2,3,33,48],[2,((.loc 3),[.any,.any,.unk .tree])]),([2],[2])]
def Zb2(t:Tree)(x19:Int)(ml3_2:List Tree):LSt U:=(L2 [pL 1,pL 2,pL 3,(17,.c (sU .tree t.kids .unk)),pI 18 (t.kids.length:Int),pI 19 x19] [(.loc 1,(enc .tree t)),(.loc 2,[ci 0,.nils,.nils]),(.loc 3,[ci t.kind,sU .u64 t.words .unk,sU .tree ml3_2 (.own (.l 3 2))])])
def Zb1(t:Tree)(ml3_2:List Tree)(ml3_1_a:List Int):LSt U:=(L2 [pL 2,pL 3,pB 33 ((t.kind:Int)==1)] [(.loc 2,[ci 0,.nils,.nils]),(.loc 3,[ci t.kind,sU .u64 ml3_1_a .unk,sU .tree ml3_2 .unk])])
def Zb0(t:Tree)(ml3_1_a:List Int)(ml3_2_b:List Tree):LSt U:=(L2 [pL 2,pL 3,pB 33 ((t.kind:Int)==1),(48,.c (.bool (bif (decide ((0:Int) < (ml3_1_a.length:Int))) then (((List.getD ml3_1_a (Int.toNat (((ml3_1_a.length:Int):Int) - 1)) (0:Int)):Int)==0) else false)))] [(.loc 2,[ci 0,.nils,.nils]),(.loc 3,[ci t.kind,sU .u64 ml3_1_a .unk,sU .tree ml3_2_b .unk])])
abbrev A33(N:Nat)(p:List Nat):=AW (Z1 (Znw N)) Tryz.f33 ZzN p
abbrev S33(N:Nat)(p:List Nat):=SW (Z1 (Znw N)) Tryz.f33 ZzN p
theorem ZJi(N:Nat)(t:Tree)(Q:QT)(h:(iB (t.kind==0) ((Q .ret (L2 [pL 2] [(.loc 2,[ci 0,.nils,.nils])]))) ((ZkM (t.words,()))/\(Zj (A33 N [1,1,1,0,1,0,0]) (Zb2 t 0 []) (xB 0 (S33 N [1,1,1,1] Q)))))):
  A33 N [] (L2 [(0,.agg (enc .tree t))] []) Q:=
 Eq.mpr V4 h
theorem Zyn(N:Nat)(t:Tree)(x19:Int)(ml3_2:List Tree)(N0:NT)(Q:QT)(h:∀ y_1,y_1=(t.kids.getD x19.toNat Tree.nil)->∀ y_2,y_2=y_1->∀ y_3,y_3=(Z5 y_2)->(iB (decide (x19 < (t.kids.length:Int))) (((0:Int)<=x19/\x19 < (t.kids.length:Int))/\((JK (y_2,()))/\(ZrM (y_2,()) < N)/\((ml3_2.length+([y_3]).length)*56<=140737488355328)/\((InR (x19+1))/\(N0 (Zb2 t (x19+1) (ml3_2++([y_3]))))))) ((iB (t.kind==1) (Zj (A33 N [1,1,1,1,0,1,0,0,0,0]) (Zb1 t ml3_2 t.words) (xB 2 (S33 N [1,1,1,1,0,1,0,1] (S33 N [1,1,1,1,1] Q)))) ((Q .ret (L2 [pL 2] [(.loc 2,[ci t.kind,sU .u64 t.words .unk,sU .tree ml3_2 .unk])]))))))):
  A33 N [1,1,1,0,1,0,0] (Zb2 t x19 ml3_2) (xT N0 (xB 0 (S33 N [1,1,1,1] Q))):=
 Eq.mpr V4 (h _ rfl _ (Za _) _ (Za _))
theorem Zym(N:Nat)(t:Tree)(ml3_2:List Tree)(ml3_1_a:List Int)(N1:NT)(Q:QT)(h:let z0:=decide ((0:Int) < (ml3_1_a.length:Int));(Tt z0)/\(Tt z0)/\(Tt z0)/\(Tt z0)/\(z0=true->InR (((ml3_1_a.length:Int):Int) - 1))/\(Tt z0)/\(Tt z0)/\(z0=true->(0:Int)<=(((ml3_1_a.length:Int):Int) - 1)/\(((ml3_1_a.length:Int):Int) - 1) < (ml3_1_a.length:Int))/\(Tt z0)/\(Tt z0)/\(Tt z0)/\(iB (bif z0 then (((List.getD ml3_1_a (Int.toNat (((ml3_1_a.length:Int):Int) - 1)) (0:Int)):Int)==0) else false) ((InR (((ml3_1_a.length:Int):Int) - 1))/\((0:Int)<=(((ml3_1_a.length:Int):Int) - 1)/\(((ml3_1_a.length:Int):Int) - 1)<=(ml3_1_a.length:Int))/\(N1 (Zb1 t ml3_2 (List.take (Int.toNat (((ml3_1_a.length:Int):Int) - 1)) ml3_1_a)))) (Zj (A33 N [1,1,1,1,0,1,0,1,0,0]) (Zb0 t ml3_1_a ml3_2) (xB 4 (S33 N [1,1,1,1,1] Q))))):
  A33 N [1,1,1,1,0,1,0,0,0,0] (Zb1 t ml3_2 ml3_1_a) (xT N1 (xB 2 (S33 N [1,1,1,1,0,1,0,1] (S33 N [1,1,1,1,1] Q)))):=
 Eq.mpr V4 h
theorem Zyl(N:Nat)(t:Tree)(ml3_1_a:List Int)(ml3_2_b:List Tree)(N2:NT)(Q:QT)(h:let z0:=decide ((0:Int) < (ml3_2_b.length:Int));(Tt z0)/\(Tt z0)/\(Tt z0)/\(Tt z0)/\(z0=true->InR (((ml3_2_b.length:Int):Int) - 1))/\(Tt z0)/\(Tt z0)/\(z0=true->(0:Int)<=(((ml3_2_b.length:Int):Int) - 1)/\(((ml3_2_b.length:Int):Int) - 1) < (ml3_2_b.length:Int))/\(Tt z0)/\(Tt z0)/\(Tt z0)/\(Tt z0)/\(iB (bif z0 then (((Tree.kind (List.getD ml3_2_b (Int.toNat (((ml3_2_b.length:Int):Int) - 1)) Tree.nil)):Int)==0) else false) ((InR (((ml3_2_b.length:Int):Int) - 1))/\((0:Int)<=(((ml3_2_b.length:Int):Int) - 1)/\(((ml3_2_b.length:Int):Int) - 1)<=(ml3_2_b.length:Int))/\(N2 (Zb0 t ml3_1_a (List.take (Int.toNat (((ml3_2_b.length:Int):Int) - 1)) ml3_2_b)))) ((Q .ret (L2 [pL 2] [(.loc 2,[ci t.kind,sU .u64 ml3_1_a .unk,sU .tree ml3_2_b .unk])]))))):
  A33 N [1,1,1,1,0,1,0,1,0,0] (Zb0 t ml3_1_a ml3_2_b) (xT N2 (xB 4 (S33 N [1,1,1,1,1] Q))):=
 Eq.mpr V4 h
def ZGa(N:Nat)(t:Tree):Prop:=AW (Z1 (Znw N)) Tryz.f33 ZzN [] (Zg (Zxh.can (t,())) []) (EQ Tryz.f33 (Zhl (t,())) [])
theorem ZDr(c64:CT 64 ZeB)(hb:∀ (N:Nat) (t:Tree) (_:Unit),JK (t,())->ZrM (t,()) < N+1->ZGa N t):CT 33 JF:=
 Yi (μ:=ZrM) (l:=[(64,ZeB)]) Zi rfl (⟨c64,trivial⟩) ZzN Tryz.func33 rfl rfl 1 (fun _=> rfl) V2 (fun N ⟨t,_⟩=> hb N t ())
def ZnC(N:Nat):List (FuncId × Fs U):=(11,fs Zo4 (fun a=> [Z2i a,ZrO a < N]) Zhn) ::[(26,ZeM)]
def ZzT:Zd U:=lvl [([2,3],[2,3]),([2,3,27],[2,3]),([4],[]),([2,3,5],[2,3]),([2,3,5,32],[2,3]),([2,3,5],[2,3]),([2,3,5,46],[2,3]),([4],[]),([4],[])]
def Zbd(a b:Tree)(x5:Int):LSt U:=(L2 [pL 2,pL 3,pI 5 x5] [(.loc 2,(enc .tree a)),(.loc 3,(enc .tree b))])
abbrev A11(N:Nat)(p:List Nat):=AW (Z1 (ZnC N)) Tryz.f11 ZzT p
abbrev S11(N:Nat)(p:List Nat):=SW (Z1 (ZnC N)) Tryz.f11 ZzT p
theorem ZJx(N:Nat)(a b:Tree)(Q:QT)(h:let z1:=a.kind !=b.kind;let z0:=bif z1 then true else (!(decide (a.words=b.words)));((Tt (!z1))/\(Tt (!z1))/\(Tt (!z1))/\(Tt (!z1))/\((!z1)=true->Zhv (a.words,b.words,()))/\(Tt (!z1))/\(z1=false->(!z1)=true)/\(Tt (!z0))/\(Tt (!z0))/\(Tt (!z0))/\(Tt (!z0))/\(Tt (!z0))/\(Tt (!z0))/\(z0=false->(!z0)=true)/\(iB (bif z0 then true else (((a.kids.length:Int):Int) !=(b.kids.length:Int))) ((Q .ret (L2 [pB 4 false] []))) ((Zj (A11 N [1,1,0,1,0,0]) (Zbd a b 0) (xB 0 (S11 N [1,1,1] Q))))))):
  A11 N [] (L2 [(0,.agg (enc .tree a)),(1,.agg (enc .tree b))] []) Q:=
 Eq.mpr V4 h
theorem Zyy(N:Nat)(a b:Tree)(x5:Int)(N0:NT)(Q:QT)(h:∀ y_1,y_1=(a.kids.getD x5.toNat Tree.nil)->∀ y_2,y_2=(b.kids.getD x5.toNat Tree.nil)->∀ y_3,y_3=y_1->∀ y_4,y_4=y_2->(iB (decide (x5 < (a.kids.length:Int))) (((0:Int)<=x5/\x5 < (a.kids.length:Int))/\((0:Int)<=x5/\x5 < (b.kids.length:Int))/\(Z2i (y_3,y_4,()))/\(ZrO (y_3,y_4,()) < N)/\(iB (!(YM y_3 y_4)) ((Q .ret (L2 [pB 4 false] []))) ((InR (x5+1))/\(N0 (Zbd a b (x5+1)))))) ((Q .ret (L2 [pB 4 true] []))))):
  A11 N [1,1,0,1,0,0] (Zbd a b x5) (xT N0 (xB 0 (S11 N [1,1,1] Q))):=
 Eq.mpr V4 (h _ rfl _ rfl _ (Za _) _ (Za _))
def ZGp(N:Nat)(a b:Tree):Prop:=AW (Z1 (ZnC N)) Tryz.f11 ZzT [] (Zg (Zo4.can (a,b,())) []) (EQ Tryz.f11 (Zhn (a,b,())) [])
theorem ZDF(c26:CT 26 ZeM)(hb:∀ (N:Nat) (a:Tree) (b:Tree) (_:Unit),Z2i (a,b,())->ZrO (a,b,()) < N+1->ZGp N a b):CT 11 Z14:=
 Yi (μ:=ZrO) (l:=[(26,ZeM)]) Zi rfl (⟨c26,trivial⟩) ZzT Tryz.func11 rfl rfl 2 (fun _=> rfl) V2 (fun N ⟨a,b,_⟩=> hb N a b ())
def Znr(N:Nat):List (FuncId × Fs U):=(47,fs Zo4 (fun a=> [Z6e a,ZrL a < N]) Zf8) ::[(80,ZeM),(81,Z54),(45,Z57)]
def ZzI:Zd U:=lvl [([2,3],[2,3]),([2,3,16],[2,3]),([4],[]),([2,3,41],[2,3]),([4],[]),([2,3,48,49],[2,3]),([2,3,48,49,50],[2,3]),([2,3,5,48,49],[2,3]),([2,3,48,49,58],[2,3]),([4],[]),([2,3,48,49],[2,3]),([2,3,66,67],[2,3]),([2,3,66,67,68],[2,3]),([2,3,6,66,67],[2,3]),([2,3,66,67,77],[2,3]),([4],[]),([2,3,66,67],[2,3]),([4],[])]
def ZaU(a b:Tree)(x49:Int):LSt U:=(L2 [pL 2,pL 3,pI 48 (if ((a.words.length:Int):Int) < (b.words.length:Int) then (b.words.length:Int) else (a.words.length:Int)),pI 49 x49] [(.loc 2,(enc .tree a)),(.loc 3,(enc .tree b))])
def ZaT(a b:Tree)(x67_a:Int):LSt U:=(L2 [pL 2,pL 3,pI 66 (if ((a.kids.length:Int):Int) < (b.kids.length:Int) then (b.kids.length:Int) else (a.kids.length:Int)),pI 67 x67_a] [(.loc 2,(enc .tree a)),(.loc 3,(enc .tree b))])
abbrev A47(N:Nat)(p:List Nat):=AW (Z1 (Znr N)) Tryz.f47 ZzI p
abbrev S47(N:Nat)(p:List Nat):=SW (Z1 (Znr N)) Tryz.f47 ZzI p
theorem ZJ7(N:Nat)(a b:Tree)(Q:QT)(h:let z2:=a.kind !=b.kind;let z1:=((a.kids.length:Int):Int) !=(b.kids.length:Int);let z0:=(a.kind !=1) && (!z1);((Tt (!z2))/\(Tt (!z2))/\(z2=false->(!z2)=true)/\(iB (bif z2 then true else (a.kind==0)) ((Q .ret (L2 [pB 4 (a.kind==b.kind)] []))) ((Tt (a.kind !=1))/\(Tt (a.kind !=1))/\(Tt (a.kind !=1))/\(Tt (a.kind !=1))/\(Tt (a.kind !=1))/\(Tt (a.kind !=1))/\(Tt (a.kind !=1))/\(Tt z0)/\(Tt z0)/\(Tt z0)/\(Tt z0)/\(z0=true->Zhv (a.words,b.words,()))/\(Tt z0)/\((a.kind !=1)=true->(True->(a.kind !=1)=true))/\((a.kind !=1)=true->(z1=false->z0=true))/\(Tt (a.kind !=1))/\(iB (bif (a.kind !=1) then (bif z1 then true else (!(decide (a.words=b.words)))) else false) ((Q .ret (L2 [pB 4 false] []))) ((Zj (A47 N [1,1,1,0,1,0,0]) (ZaU a b 0) (xB 0 (S47 N [1,1,1,1] Q))))))))):
  A47 N [] (L2 [(0,.agg (enc .tree a)),(1,.agg (enc .tree b))] []) Q:=
 Eq.mpr V4 h
theorem Zye(N:Nat)(a b:Tree)(x49:Int)(N0:NT)(Q:QT)(h:let z1:=Tree.mk b.kind b.words b.kids;let z0:=Tree.mk a.kind a.words a.kids;(iB (decide (x49 < (if ((a.words.length:Int):Int) < (b.words.length:Int) then (b.words.length:Int) else (a.words.length:Int)))) (((Zhr (z0,x49,()))/\(Zhr (z1,x49,()))/\(iB (((YE z0 x49):Int) !=(YE z1 x49)) ((Q .ret (L2 [pB 4 false] []))) ((InR (x49+1))/\(N0 (ZaU a b (x49+1))))))) ((Zj (A47 N [1,1,1,1,0,1,0,0]) (ZaT a b 0) (xB 2 (S47 N [1,1,1,1,1] Q)))))):
  A47 N [1,1,1,0,1,0,0] (ZaU a b x49) (xT N0 (xB 0 (S47 N [1,1,1,1] Q))):=
 Eq.mpr V4 h
theorem Zyd(N:Nat)(a b:Tree)(x67_a:Int)(N1:NT)(Q:QT)(h:∀ y_1,y_1=a->∀ y_2,y_2=b->∀ y_3,y_3=(JD y_1 x67_a)->∀ y_4,y_4=(JD y_2 x67_a)->(iB (decide (x67_a < (if ((a.kids.length:Int):Int) < (b.kids.length:Int) then (b.kids.length:Int) else (a.kids.length:Int)))) (((Zhr (y_1,x67_a,()))/\(Zhr (y_2,x67_a,()))/\(Z6e (y_3,y_4,()))/\(ZrL (y_3,y_4,()) < N)/\(iB (!(YM (Z5 y_3) (Z5 y_4))) ((Q .ret (L2 [pB 4 false] []))) ((InR (x67_a+1))/\(N1 (ZaT a b (x67_a+1))))))) ((Q .ret (L2 [pB 4 true] []))))):
  A47 N [1,1,1,1,0,1,0,0] (ZaT a b x67_a) (xT N1 (xB 2 (S47 N [1,1,1,1,1] Q))):=
 Eq.mpr V4 (h _ (Za _) _ (Za _) _ (Za _) _ (Za _))
def ZFZ(N:Nat)(a b:Tree):Prop:=AW (Z1 (Znr N)) Tryz.f47 ZzI [] (Zg (Zo4.can (a,b,())) []) (EQ Tryz.f47 (Zf8 (a,b,())) [])
theorem ZDj(c80:CT 80 ZeM)(c81:CT 81 Z54)(c45:CT 45 Z57)(hb:∀ (N:Nat) (a:Tree) (b:Tree) (_:Unit),Z6e (a,b,())->ZrL (a,b,()) < N+1->ZFZ N a b):CT 47 Z0i:=
 Yi (μ:=ZrL) (l:=[(80,ZeM),(81,Z54),(45,Z57)]) Zi rfl (⟨c80,c81,c45,trivial⟩) ZzI Tryz.func47 rfl rfl 2 (fun _=> rfl) V2 (fun N ⟨a,b,_⟩=> hb N a b ())
def Zwa:List (FuncId × Fs U):=[(34,JF),(11,Z14)]
def ZE3:Zd U:=lvl [([2,3],[2,3]),([4],[])]
abbrev A25(p:List Nat):=AW (Z1 Zwa) Tryz.f25 ZE3 p
theorem ZJq(a b:Tree)(Q:QT)(h:let z5:=Tree.mk a.kind a.words a.kids;let z4:=Tree.mk b.kind b.words b.kids;let z1:=Z5 z4;let z3:=Tree.mk (Tree.kind z1) (Tree.words z1) (Tree.kids z1);let z0:=Z5 z5;let z2:=Tree.mk (Tree.kind z0) (Tree.words z0) (Tree.kids z0);((JK (z5,()))/\(JK (z4,()))/\(Z2i (z2,z3,()))/\(Q .ret (L2 [(4,.c (.bool (YM z2 z3)))] [])))):
  A25 [] (L2 [(0,.agg (enc .tree a)),(1,.agg (enc .tree b))] []) Q:=
 Eq.mpr V4 h
def ZGi(a b:Tree):Prop:=AW (Z1 Zwa) Tryz.f25 ZE3 [] (Zg (Zo4.can (a,b,())) []) (EQ Tryz.f25 (Zf8 (a,b,())) [])
theorem ZDy(c34:CT 34 JF)(c11:CT 11 Z14)(hb:∀ (a:Tree) (b:Tree) (_:Unit),Z6e (a,b,())->ZGi a b):CT 25 Z0i:=
 Z2 (l:=[(34,JF),(11,Z14)]) Zi rfl (⟨c34,c11,trivial⟩) ZE3 Tryz.func25 rfl rfl 2 (fun _=> rfl) V2 (fun ⟨a,b,_⟩=> hb a b ())
end
theorem vcU:(∀ {p q:Prop},(p->q->p/\q)=True)/\(∀ {p:Prop},(True/\p)=p)/\(∀ {p:Prop},(p/\True)=p)/\(∀ {p:Prop},(p->True)=True):=
 ⟨by grind,by simp,by simp,by simp⟩
theorem ZeU:∀ {ks:List Tree} {i:Nat},Z3U ks->i < ks.length->Z3z (ks.getD i Tree.nil)
 | t ::_,0,h,_=> by simp only [Z3U] at h;exact h.1
 | _ ::r,i+1,h,hi=> by simp only [Z3U] at h;exact ZeU (ks:=r) (i:=i) h.2 (by simpa using hi)
theorem Z0e:∀ {ks:List Tree} {i:Nat},i < ks.length->Zm (ks.getD i Tree.nil)<=Zk ks
 | t ::_,0,_=> by simp only [Zk,Qp];omega
 | t ::r,i+1,h=> by
  have:=Z0e (ks:=r) (i:=i) (by simpa using h)
  simp only [Zk,List.getD_cons_succ]
  omega
mutual
theorem YV:∀ (t:Tree) (d l:Int),-1<=ZJ t d l/\ZJ t d l<=max l (-1)
 | .mk _ w ks,d,l=> by
  simp only [ZJ]
  split
  .omega
  .have:=Z15 ks (d - 1) (l - 1 - w.length) YL
   omega
theorem Z15:∀ (ks:List Tree) (d l:Int),-1<=l->-1<=ZA ks d l/\ZA ks d l<=l
 | [],d,l,h=> by simp only [ZA];omega
 | t ::r,d,l,h=> by
  simp only [ZA]
  split
  .omega
  .have h1:=YV t d l
   have h2:=Z15 r d (ZJ t d l) h1.1
   omega
end
theorem ZgH{ks:List Tree}{i:Nat}{d l:Int}(h:i < ks.length)(hl:0<=l):ZA (ks.drop i) d l=ZA (ks.drop (i+1)) d (ZJ (ks.getD i Tree.nil) d l):=by
 rw [QL h]
 simp only [ZA]
 grind
theorem c50:Contract Tryz.prog cfg 50 Z61:=by
 refine ZDh ?_
 rintro N ⟨k,ws,ks⟩ d l _ ⟨hs,h1,h2,h3,h4⟩ hN
 simp only [Z3z,ZrK,Zm] at*
 refine ZJ5 N _ _ _ _ ?_;(try simp only [iB,vcT,forall_eq])
 (simp only [iB,vcS]);(try simp only [iB,vcT])
 try (simp only [Tree.eta,Edit.eta,Tree.kind_mk,Tree.words_mk,Tree.kids_mk])
 refine ⟨V3,V3,fun hc=> ?_,fun hc=> ?_⟩
 .have e:ZJ (.mk k ws ks) d l= -1:=by
   simp only [ZJ]
   omega
  simp only [ZkA,e]
  exact ⟨⟨rfl,⟨⟨rfl,rfl⟩,trivial⟩,trivial⟩,trivial⟩
 .have e:ZJ (.mk k ws ks) d l=ZA ks (d - 1) (l - 1 - ws.length):=by
   simp only [ZJ]
   omega
  simp only [ZkA,e]
  refine Z4 (ι:=Int × Int) (fun p=> ZaR (.mk k ws ks) d l p.1 p.2) (fun p=> 0<=p.2/\p.2<=ks.length/\-1<=p.1/\p.1<=l/\ZA (ks.drop p.2.toNat) (d - 1) p.1=ZA ks (d - 1) (l - 1 - ws.length)) (fun p=> ((ks.length:Int) - p.2).toNat) (l - 1 - ws.length,0) rfl ⟨YL,YL,YL,YL,by simp⟩ ?_
  rintro ⟨l',i⟩ ⟨h5,h6,h7,h8,h9⟩
  dsimp only at*
  refine Zyb N _ _ _ _ _ _ _ ?_;(try simp only [iB,vcT,forall_eq])
  (simp only [iB,vcS]);(try simp only [iB,vcT])
  try (simp only [Tree.eta,Edit.eta,Tree.kind_mk,Tree.words_mk,Tree.kids_mk])
  refine ⟨fun hc=> ?_,fun hc=> ?_⟩
  .have hi:i.toNat < ks.length:=YL
   have hr:=YV (ks.getD i.toNat Tree.nil) (d - 1) l'
   have hn:=Z0e hi
   have hd:=ZgH (d:=d - 1) hi hc.2
   refine ⟨YL,V3,⟨ZeU hs.2.2 hi,by grind,by grind,YL,by grind⟩,by simp only [ZrK];omega,V3,⟨(ZJ (ks.getD i.toNat Tree.nil) (d - 1) l',i+1),rfl,⟨YL,YL,YL,YL,?_⟩,YL⟩⟩
   grind
  .have e:ZA ks (d - 1) (l - 1 - ws.length)=l':=by
    rw [<-h9]
    by_cases hi:i < ks.length
    .rw [QL YL]
     simp only [ZA]
     omega
    .rw [QA YL]
     try rfl
   rw [e]
   trivial
theorem c22:Contract Tryz.prog cfg 22 ZeN:=by
 refine ZDz c50 ?_
 intro t _ hp
 refine ZJr _ _ ?_;(try simp only [iB,vcT,forall_eq])
 try (simp only [Tree.eta,Edit.eta,Tree.kind_mk,Tree.words_mk,Tree.kids_mk])
 refine ⟨⟨hp,by grind,by grind,by grind,by grind⟩,?_⟩
 trivial
theorem c64:Contract Tryz.prog cfg 64 ZeB:=by
 refine ZDb ?_
 intro l _ hp
 refine ZIW _ _ ?_;(try simp only [iB,vcT,forall_eq])
 simp only [ZkM] at hp
 refine ⟨fun h=> ?_,⟨by simp only [Qj];omega,?_⟩⟩
 .subst h
  exact ⟨⟨rfl,⟨rfl,trivial⟩,trivial⟩,trivial⟩
 .exact ⟨⟨rfl,⟨⟨rfl,trivial⟩,trivial⟩,trivial⟩,trivial⟩
theorem Ze2{a b:List Int}{i:Int}(hi:0<=i)(ha:i < a.length)(hb:i < b.length):(a.drop i.toNat=b.drop i.toNat)↔(a.getD i.toNat 0=b.getD i.toNat 0/\a.drop (i+1).toNat=b.drop (i+1).toNat):=by
 have e:(i+1).toNat=i.toNat+1:=YL
 rw [QL YL,QL (l:=b) YL,e]
 simp only [List.cons.injEq,List.getD,Q4 (show i.toNat < a.length by omega),Q4 (show i.toNat < b.length by omega),Xg]
theorem c26:Contract Tryz.prog cfg 26 ZeM:=by
 refine ZDx ?_
 intro a b _ hp
 simp only [Zhv] at hp
 refine ZJp _ _ _ ?_;(try simp only [iB,vcT,forall_eq])
 (simp only [iB,vcS]);(try simp only [iB,vcT])
 refine ⟨fun hc=> ?_,fun hc=> ?_⟩
 .have e:decide (a=b)=false:=by
   simp only [decide_eq_false_iff_not]
   rintro rfl
   omega
  simp only [ZkB,e]
  exact ⟨⟨rfl,⟨rfl,trivial⟩,trivial⟩,trivial⟩
 .have hl:a.length=b.length:=YL
  refine Z4 (ι:=Int) (fun p=> Zb8 a b p) (fun p=> 0<=p/\p<=a.length/\(a=b↔a.drop p.toNat=b.drop p.toNat)) (fun p=> ((a.length:Int) - p).toNat) 0 rfl ⟨YL,YL,by simp⟩ ?_
  rintro i ⟨h1,h2,h3⟩
  refine Zyt _ _ _ _ _ ?_;(try simp only [iB,vcT,forall_eq])
  (simp only [iB,vcS]);(try simp only [iB,vcT])
  refine ⟨fun hc=> ⟨YL,YL,fun hn=> ?_,fun he=> ⟨V3,i+1,rfl,⟨YL,YL,?_⟩,YL⟩⟩,fun hc=> ?_⟩
  .have e:decide (a=b)=false:=by
    simp only [decide_eq_false_iff_not,h3]
    rw [Ze2 h1 hc YL]
    exact fun h=> hn h.1
   simp only [ZkB,e]
   exact ⟨⟨rfl,⟨rfl,trivial⟩,trivial⟩,trivial⟩
  .rw [h3,Ze2 h1 hc YL]
   exact ⟨fun h=> h.2,fun h=> ⟨by simpa using he,h⟩⟩
  .have e:decide (a=b)=true:=by
    simp only [decide_eq_true_eq,h3]
    rw [QA YL,QA YL]
   simp only [ZkB,e]
   exact ⟨⟨rfl,⟨rfl,trivial⟩,trivial⟩,trivial⟩
theorem c81:Contract Tryz.prog cfg 81 Z54:=by
 refine ZD5 ?_
 intro t i _ hp
 refine ZIL _ _ _ ?_;(try simp only [iB,vcT,forall_eq])
 (simp only [iB,vcS]);(try simp only [iB,vcT])
 (repeat (refine And.intro (by first | omega | (unfold InR;omega) | (dsimp only;omega)) ?_))
 refine ⟨fun hc=> ?_,fun hc=> ⟨YL,?_⟩⟩
 .have e:YE t i=0:=by
   unfold YE
   split
   .try rfl
   .grind
  simp only [ZoN,e]
  exact ⟨⟨rfl,⟨⟨rfl,rfl⟩,trivial⟩,trivial⟩,trivial⟩
 .have e:YE t i=t.words.getD i.toNat 0:=by
   unfold YE
   omega
  simp only [ZoN,e]
  exact ⟨⟨rfl,⟨⟨rfl,rfl⟩,trivial⟩,trivial⟩,trivial⟩
theorem c45:Contract Tryz.prog cfg 45 Z57:=by
 refine ZDk ?_
 intro t i _ hp
 refine ZJ8 _ _ _ ?_;(try simp only [iB,vcT,forall_eq])
 (simp only [iB,vcS]);(try simp only [iB,vcT])
 (repeat (refine And.intro (by first | omega | (unfold InR;omega) | (dsimp only;omega)) ?_))
 refine ⟨fun hc=> ?_,fun hc=> ⟨YL,?_⟩⟩
 .have e:JD t i=Tree.nil:=by
   unfold JD
   split
   .try rfl
   .grind
  simp only [ZoU,e]
  exact ⟨⟨rfl,⟨⟨rfl,rfl⟩,⟨rfl,⟨rfl,trivial⟩⟩⟩,trivial⟩,trivial⟩
 .have e:JD t i=t.kids.getD i.toNat Tree.nil:=by
   unfold JD
   grind
  simp only [ZoU,e]
  exact ⟨⟨rfl,⟨⟨rfl,rfl⟩,⟨rfl,trivial⟩,⟨rfl,trivial⟩,trivial⟩,trivial⟩,trivial⟩
theorem c80:Contract Tryz.prog cfg 80 ZeM:=by
 refine ZD6 ?_
 intro a b _ hp
 simp only [Zhv] at hp
 refine ZIM _ _ _ ?_;(try simp only [iB,vcT,forall_eq])
 (simp only [iB,vcS]);(try simp only [iB,vcT])
 refine ⟨fun hc=> ?_,fun hc=> ?_⟩
 .have e:decide (a=b)=false:=by
   simp only [decide_eq_false_iff_not]
   rintro rfl
   omega
  simp only [ZkB,e]
  exact ⟨⟨rfl,⟨rfl,trivial⟩,trivial⟩,trivial⟩
 .have hl:a.length=b.length:=YL
  refine Z4 (ι:=Int) (fun p=> ZaC a b p) (fun p=> 0<=p/\p<=a.length/\(a=b↔a.drop p.toNat=b.drop p.toNat)) (fun p=> ((a.length:Int) - p).toNat) 0 rfl ⟨YL,YL,by simp⟩ ?_
  rintro i ⟨h1,h2,h3⟩
  refine ZxL _ _ _ _ _ ?_;(try simp only [iB,vcT,forall_eq])
  (simp only [iB,vcS]);(try simp only [iB,vcT])
  refine ⟨fun hc=> ⟨YL,YL,fun hn=> ?_,fun he=> ⟨V3,i+1,rfl,⟨YL,YL,?_⟩,YL⟩⟩,fun hc=> ?_⟩
  .have e:decide (a=b)=false:=by
    simp only [decide_eq_false_iff_not,h3]
    rw [Ze2 h1 hc YL]
    exact fun h=> hn h.1
   simp only [ZkB,e]
   exact ⟨⟨rfl,⟨rfl,trivial⟩,trivial⟩,trivial⟩
  .rw [h3,Ze2 h1 hc YL]
   exact ⟨fun h=> h.2,fun h=> ⟨by simpa using he,h⟩⟩
  .have e:decide (a=b)=true:=by
    simp only [decide_eq_true_eq,h3]
    rw [QA YL,QA YL]
   simp only [ZkB,e]
   exact ⟨⟨rfl,⟨rfl,trivial⟩,trivial⟩,trivial⟩
theorem ZlI{a b:List Tree}{i:Int}(hi:0<=i)(ha:i < a.length)(hb:i < b.length):(a.drop i.toNat=b.drop i.toNat)↔(a.getD i.toNat Tree.nil=b.getD i.toNat Tree.nil/\a.drop (i+1).toNat=b.drop (i+1).toNat):=by
 have e:(i+1).toNat=i.toNat+1:=YL
 rw [QL YL,QL (l:=b) YL,e]
 simp only [List.cons.injEq,List.getD,Q4 (show i.toNat < a.length by omega),Q4 (show i.toNat < b.length by omega),Xg]
theorem Yu{a b:Tree}:YM a b=true↔a=b:=by simp [YM]
theorem YG{a b:Tree}:YM a b=false↔¬a=b:=by simp [YM]
theorem Zv:∀ (ks:List Tree),ks.length<=Zk ks
 | []=> by simp [Zk]
 | t ::r=> by
  have:=Zv r
  have:1<=Zm t:=by cases t;simp only [Zm];omega
  simp only [Zk,Q7]
  omega
theorem c11:Contract Tryz.prog cfg 11 Z14:=by
 refine ZDF c26 ?_
 rintro N ⟨k,ws,ks⟩ ⟨k',ws',ks'⟩ _ hp hN
 have hlen:=Zv ks
 simp only [Z2i,ZrO,Zm] at hp hN
 refine ZJx N _ _ _ ?_;(try simp only [iB,vcT,forall_eq])
 (simp only [iB,vcS]);(try simp only [iB,vcT])
 try (simp only [Tree.eta,Edit.eta,Tree.kind_mk,Tree.words_mk,Tree.kids_mk])
 have p69:Zhv (ws,ws',()):=by simp only [Zhv];omega
 refine ⟨fun _=> p69,fun hc=> ?_,fun hc=> ?_⟩
 .have e:YM (.mk k ws ks) (.mk k' ws' ks')=false:=by
   rw [YG]
   intro h
   cases h
   simp at hc
  simp only [Zhn,e]
  exact ⟨⟨rfl,⟨rfl,trivial⟩,trivial⟩,trivial⟩
 .have hc':(k=k'/\ws=ws')/\ks.length=ks'.length:=⟨hc.1,YL⟩
  obtain ⟨⟨rfl,rfl⟩,hl⟩:=hc'
  refine Z4 (ι:=Int) (fun p=> Zbd (.mk k ws ks) (.mk k ws ks') p) (fun p=> 0<=p/\p<=ks.length/\(Tree.mk k ws ks= .mk k ws ks'↔ks.drop p.toNat=ks'.drop p.toNat)) (fun p=> ((ks.length:Int) - p).toNat) 0 rfl ⟨YL,YL,by simp⟩ ?_
  rintro i ⟨h1,h2,h3⟩
  refine Zyy N _ _ _ _ _ ?_;(try simp only [iB,vcT,forall_eq])
  (simp only [iB,vcS]);(try simp only [iB,vcT])
  try (simp only [Tree.eta,Edit.eta,Tree.kind_mk,Tree.words_mk,Tree.kids_mk])
  refine ⟨fun hc=> ⟨YL,YL,?_,?_,fun hn=> ?_,fun he=> ⟨V3,i+1,rfl,⟨YL,YL,?_⟩,YL⟩⟩,fun hc=> ?_⟩
  .have:=Z0e (ks:=ks) (i:=i.toNat) YL
   simp only [Z2i]
   omega
  .have:=Z0e (ks:=ks) (i:=i.toNat) YL
   simp only [ZrO]
   omega
  .have e:YM (.mk k ws ks) (.mk k ws ks')=false:=by
    rw [YG,h3,ZlI h1 hc YL]
    rw [YG] at hn
    exact fun h=> hn h.1
   simp only [Zhn,e]
   exact ⟨⟨rfl,⟨rfl,trivial⟩,trivial⟩,trivial⟩
  .rw [h3,ZlI h1 hc YL]
   exact ⟨fun h=> h.2,fun h=> ⟨Yu.1 he,h⟩⟩
  .have e:YM (.mk k ws ks) (.mk k ws ks')=true:=by
    rw [Yu,h3]
    rw [QA YL,QA YL]
   simp only [Zhn,e]
   exact ⟨⟨rfl,⟨rfl,trivial⟩,trivial⟩,trivial⟩
theorem Zbs:∀ (l:List Int),trim (l++[0])=trim l
 | []=> rfl
 | x ::r=> by
  show (match trim (r++[0]) with | []=> if x=0 then [] else [x] | y ::s=> x ::y ::s)=_
  rw [Zbs r]
  try rfl
theorem Zih{x:Int}(hx:x≠0):∀ (l:List Int),trim (l++[x])=l++[x]
 | []=> by simp [trim,hx]
 | y ::r=> by
  show (match trim (r++[x]) with | []=> if y=0 then [] else [y] | z ::s=> y ::z ::s)=_
  rw [Zih hx r]
  cases r <;> rfl
theorem Zbx{l:List Int}{i:Int}(h0:0 < i)(hi:i<=l.length):l.take i.toNat=l.take (i - 1).toNat++[l.getD (i - 1).toNat 0]:=by
 have e:i.toNat=(i - 1).toNat+1:=YL
 rw [e,XJ]
 simp only [List.getD,Q4 (show (i - 1).toNat < l.length by omega),Option.toList,Xg]
theorem c65:Contract Tryz.prog cfg 65 ZeA:=by
 refine ZDa ?_
 intro l _ hp
 simp only [ZkM] at hp
 refine ZIV _ _ ?_;(try simp only [iB,vcT,forall_eq])
 refine Z4 (ι:=Int) (fun p=> ZaI l p) (fun p=> 0<=p/\p<=l.length/\trim (l.take p.toNat)=trim l) (fun p=> p.toNat) (l.length:Int) rfl ⟨YL,YL,by simp⟩ ?_
 rintro i ⟨h1,h2,h3⟩
 refine ZxZ _ _ _ _ ?_;(try simp only [iB,vcT,forall_eq])
 (simp only [iB,vcS]);(try simp only [iB,vcT])
 refine ⟨fun h=> by unfold InR;omega,fun h=> by omega,fun hc=> ⟨V3,i - 1,rfl,⟨YL,YL,?_⟩,YL⟩,fun hc=> ⟨YL,?_,?_⟩⟩
 .rw [Zbx hc.1 h2,hc.2,Zbs] at h3
  exact h3
 .simp only [Qj,Qn]
  omega
 .have e:trim l=[]++l.take i.toNat:=by
   rw [<-h3]
   by_cases h0:0 < i
   .rw [Zbx h0 h2,Zih YL]
    try rfl
   .have:i.toNat=0:=YL
    rw [this]
    try rfl
  simp only [ZtQ,e]
  exact ⟨⟨rfl,⟨⟨rfl,trivial⟩,trivial⟩,trivial⟩,trivial⟩
theorem Zk4:∀ (l:List Int),(trim l).length<=l.length
 | []=> by simp [trim]
 | x ::r=> by
  have:=Zk4 r
  simp only [trim]
  grind
theorem Zem:∀ (l:List Tree),Zk (Yh l)<=Zk l
 | []=> by simp [Yh]
 | x ::r=> by
  have:=Zem r
  simp only [Yh]
  split
  .split
   .simp [Zk]
   .simp [Zk]
  .rename_i h
   rw [h] at this
   simp only [Zk] at*
   omega
mutual
theorem ZK:∀ (t:Tree),Zm (Z5 t)<=Zm t
 | .mk k w ks=> by
  have h1:=ZfP ks
  have h2:=Zk4 w
  have h3:=Zem (Yk ks)
  simp only [Z5]
  split
  .simp only [Tree.nil,Zm,Zk,Qj];omega
  .split
   .simp only [Zm];omega
   .simp only [Zm];omega
theorem ZfP:∀ (ks:List Tree),Zk (Yk ks)<=Zk ks
 | []=> by simp [Yk]
 | t ::r=> by
  have h1:=ZK t
  have h2:=ZfP r
  simp only [Yk,Zk]
  omega
end
theorem ZbZ:∀ (l:List Tree) (x:Tree),Yk (l++[x])=Yk l++[Z5 x]
 | [],x=> rfl
 | y ::r,x=> by simp only [Qk,Yk,ZbZ r x]
theorem Z1B:∀ (l:List Tree),(Yk l).length=l.length
 | []=> rfl
 | y ::r=> by simp only [Yk,Q7,Z1B r]
theorem Z8z{x:Tree}(hx:x.kind=0):∀ (l:List Tree),Yh (l++[x])=Yh l
 | []=> by simp [Yh,hx]
 | y ::r=> by
  show (match Yh (r++[x]) with | []=> if y.kind=0 then [] else [y] | z ::s=> y ::z ::s)=_
  rw [Z8z hx r]
  try rfl
theorem Zel{x:Tree}(hx:x.kind≠0):∀ (l:List Tree),Yh (l++[x])=l++[x]
 | []=> by simp [Yh,hx]
 | y ::r=> by
  show (match Yh (r++[x]) with | []=> if y.kind=0 then [] else [y] | z ::s=> y ::z ::s)=_
  rw [Zel hx r]
  cases r <;> rfl
theorem Z8A{l:List Tree}{i:Int}(h0:0<=i)(hi:i < l.length):l.take (i+1).toNat=l.take i.toNat++[l.getD i.toNat Tree.nil]:=by
 have e:(i+1).toNat=i.toNat+1:=YL
 simp_all
theorem c34:Contract Tryz.prog cfg 34 JF:=by
 refine ZDq c65 ?_
 rintro N ⟨k,ws,ks⟩ _ hp hN
 have hlen:=Zv ks
 simp only [JK,ZrM,Zm] at hp hN
 refine ZJh N _ _ ?_;(try simp only [iB,vcT,forall_eq])
 (simp only [iB,vcS]);(try simp only [iB,vcT])
 try (simp only [Tree.eta,Edit.eta,Tree.kind_mk,Tree.words_mk,Tree.kids_mk])
 refine ⟨fun hc=> ?_,fun hc0=> ?_⟩
 .have e:Z5 (.mk k ws ks)=Tree.nil:=by simp [Z5,hc]
  simp only [Zhl,e]
  exact ⟨⟨rfl,⟨⟨rfl,rfl⟩,⟨rfl,⟨rfl,trivial⟩⟩⟩,trivial⟩,trivial⟩
 .refine Z4 (ι:=Int × Int × List Tree) (fun p=> Z6H (.mk k ws ks) p.1 p.2.1 p.2.2) (fun p=> 0<=p.2.1/\p.2.1<=ks.length/\0<=p.1/\p.1<=p.2.1/\p.2.2=Yk (ks.take p.2.1.toNat)/\Yh (Yk (ks.take p.2.1.toNat))=p.2.2.take p.1.toNat) (fun p=> ((ks.length:Int) - p.2.1).toNat) (0,0,[]) rfl ⟨by grind,by grind,YL,by grind,rfl,rfl⟩ ?_
  rintro ⟨last,i,l⟩ ⟨h1,h2,h3,h4,h5,h6⟩
  dsimp only at*
  have hl:l.length=i.toNat:=by rw [h5,Z1B,Qn];omega
  refine Zyk N _ _ _ _ _ _ ?_;(try simp only [iB,vcT,forall_eq])
  (simp only [iB,vcS]);(try simp only [iB,vcT])
  try (simp only [Tree.eta,Edit.eta,Tree.kind_mk,Tree.words_mk,Tree.kids_mk])
  refine ⟨fun hc=> ?_,fun hc=> ⟨fun h1=> ⟨?_,YL,?_⟩,fun hk=> ⟨?_,?_⟩⟩⟩
  .have hm:=Z0e (ks:=ks) (i:=i.toNat) YL
   have hnx:Yk (ks.take (i+1).toNat)=l++[Z5 (ks.getD i.toNat Tree.nil)]:=by rw [Z8A h1 hc,ZbZ,h5]
   refine ⟨YL,by simp only [JK];omega,by simp only [ZrM];omega,by simp only [Q7,Qj];omega,fun hk=> ⟨V3,V3,(i+1,i+1,_),rfl,⟨by grind,by grind,YL,by grind,hnx.symm,?_⟩,by grind⟩,fun hk=> ⟨V3,(last,i+1,_),rfl,⟨by grind,by grind,YL,by grind,hnx.symm,?_⟩,by grind⟩⟩
   .dsimp only
    rw [hnx,Zel hk,Ql (by simp;omega)]
   .dsimp only
    rw [hnx,Z8z hk,List.take_append_of_le_length YL,<-h6,h5]
  .simp only [ZkM];omega
  .have hi:ks.take i.toNat=ks:=Ql YL
   rw [hi] at h5 h6
   have e:Z5 (.mk k ws ks)= .mk 1 (trim ws) (l.take last.toNat):=by
    subst h1
    simp only [Z5,<-h6]
    try rfl
   simp only [Zhl,e]
   exact ⟨⟨rfl,⟨⟨rfl,rfl⟩,⟨rfl,trivial⟩,⟨rfl,trivial⟩,trivial⟩,trivial⟩,trivial⟩
  .grind
  .have hi:ks.take i.toNat=ks:=Ql YL
   rw [hi] at h5
   have e:Z5 (.mk k ws ks)= .mk k ([]++ws) l:=by
    simp only [Z5,if_neg hc0,if_neg hk,h5]
    try rfl
   simp only [Zhl,e]
   exact ⟨⟨rfl,⟨⟨rfl,rfl⟩,⟨rfl,trivial⟩,⟨rfl,trivial⟩,trivial⟩,trivial⟩,trivial⟩
theorem c25:Contract Tryz.prog cfg 25 Z0i:=by
 refine ZDy c34 c11 ?_
 intro a b _ hp
 have h1:=ZK a
 simp only [Z6e] at hp
 refine ZJq _ _ _ ?_;(try simp only [iB,vcT,forall_eq])
 try (simp only [Tree.eta,Edit.eta,Tree.kind_mk,Tree.words_mk,Tree.kids_mk])
 refine ⟨hp.1,hp.2,?_,?_⟩
 .simp only [Z2i];omega
 trivial
theorem ZpI{l:List Int}(h0:0 < (l.length:Int)):l=l.take ((l.length:Int) - 1).toNat++[l.getD ((l.length:Int) - 1).toNat 0]:=by
 have:=Zbx h0 (Xe _)
 rw [Ql YL] at this
 exact this
theorem Zlq{l:List Tree}(h0:0 < (l.length:Int)):l=l.take ((l.length:Int) - 1).toNat++[l.getD ((l.length:Int) - 1).toNat Tree.nil]:=by
 have:=Z8A (l:=l) (i:=(l.length:Int) - 1) YL YL
 rw [Ql YL] at this
 exact this
theorem Zrc{l:List Int}(h0:0 < (l.length:Int))(hz:l.getD ((l.length:Int) - 1).toNat 0=0):trim (l.take ((l.length:Int) - 1).toNat)=trim l:=by
 have e:=Zbs (l.take ((l.length:Int) - 1).toNat)
 have h:=ZpI h0
 grind
theorem Zre{l:List Int}(h:¬0 < (l.length:Int)\/¬l.getD ((l.length:Int) - 1).toNat 0=0):trim l=l:=by
 by_cases h0:0 < (l.length:Int)
 .have e:=Zih (x:=l.getD ((l.length:Int) - 1).toNat 0) YL (l.take ((l.length:Int) - 1).toNat)
  rw [<-ZpI h0] at e
  exact e
 .have:l=[]:=Q1 YL
  subst this
  try rfl
theorem Zme{l:List Tree}(h0:0 < (l.length:Int))(hz:(l.getD ((l.length:Int) - 1).toNat Tree.nil).kind=0):Yh (l.take ((l.length:Int) - 1).toNat)=Yh l:=by
 have e:=Z8z hz (l.take ((l.length:Int) - 1).toNat)
 rw [<-Zlq h0] at e
 exact e.symm
theorem Zmg{l:List Tree}(h:¬0 < (l.length:Int)\/¬(l.getD ((l.length:Int) - 1).toNat Tree.nil).kind=0):Yh l=l:=by
 by_cases h0:0 < (l.length:Int)
 .have e:=Zel (x:=l.getD ((l.length:Int) - 1).toNat Tree.nil) YL (l.take ((l.length:Int) - 1).toNat)
  rw [<-Zlq h0] at e
  exact e
 .have:l=[]:=Q1 YL
  subst this
  try rfl
theorem c33:Contract Tryz.prog cfg 33 JF:=by
 refine ZDr c64 ?_
 rintro N ⟨k,ws,ks⟩ _ hp hN
 have hlen:=Zv ks
 simp only [JK,ZrM,Zm] at hp hN
 refine ZJi N _ _ ?_;(try simp only [iB,vcT,forall_eq])
 (simp only [iB,vcS]);(try simp only [iB,vcT])
 try (simp only [Tree.eta,Edit.eta,Tree.kind_mk,Tree.words_mk,Tree.kids_mk])
 refine ⟨fun hc=> ?_,fun hc0=> ⟨by simp only [ZkM];omega,?_⟩⟩
 .have e:Z5 (.mk k ws ks)=Tree.nil:=by simp [Z5,hc]
  simp only [Zhl,e]
  exact ⟨⟨rfl,⟨⟨rfl,rfl⟩,⟨rfl,⟨rfl,trivial⟩⟩⟩,trivial⟩,trivial⟩
 .refine Z4 (ι:=Int × List Tree) (fun p=> Zb2 (.mk k ws ks) p.1 p.2) (fun p=> 0<=p.1/\p.1<=ks.length/\p.2=Yk (ks.take p.1.toNat)) (fun p=> ((ks.length:Int) - p.1).toNat) (0,[]) rfl ⟨YL,YL,rfl⟩ ?_
  rintro ⟨i,l⟩ ⟨h1,h2,h5⟩
  dsimp only at*
  have hl:l.length=i.toNat:=by rw [h5,Z1B,Qn];omega
  refine Zyn N _ _ _ _ _ ?_;(try simp only [iB,vcT,forall_eq])
  (simp only [iB,vcS]);(try simp only [iB,vcT])
  try (simp only [Tree.eta,Edit.eta,Tree.kind_mk,Tree.words_mk,Tree.kids_mk])
  refine ⟨fun hc=> ?_,fun hc=> ⟨fun hk=> ?_,fun hk=> ?_⟩⟩
  .have hm:=Z0e (ks:=ks) (i:=i.toNat) YL
   have hnx:Yk (ks.take (i+1).toNat)=l++[Z5 (ks.getD i.toNat Tree.nil)]:=by rw [Z8A h1 hc,ZbZ,h5]
   exact ⟨YL,by simp only [JK];omega,by simp only [ZrM];omega,by simp only [Q7,Qj];omega,V3,(i+1,_),rfl,⟨YL,YL,hnx.symm⟩,YL⟩
  .have hi:ks.take i.toNat=ks:=Ql YL
   rw [hi] at h5
   refine Z4 (ι:=List Int) (fun p=> Zb1 (.mk k ws ks) l p) (fun p=> p.length<=ws.length/\trim p=trim ws) (fun p=> p.length) ws rfl ⟨YL,rfl⟩ ?_
   rintro w ⟨h6,h7⟩
   refine Zym N _ _ _ _ _ ?_;(try simp only [iB,vcT,forall_eq])
   (simp only [iB,vcS]);(try simp only [iB,vcT])
   refine ⟨fun h=> by unfold InR;omega,fun h=> by omega,fun hc=> ⟨V3,YL,_,rfl,⟨by rw [List.length_take];omega,?_⟩,by rw [List.length_take];omega⟩,fun hc=> ?_⟩
   .rw [Zrc hc.1 hc.2,h7]
   .have hw:w=trim ws:=by rw [<-h7,Zre hc]
    refine Z4 (ι:=List Tree) (fun p=> Zb0 (.mk k ws ks) w p) (fun p=> p.length<=l.length/\Yh p=Yh l) (fun p=> p.length) l rfl ⟨YL,rfl⟩ ?_
    rintro q ⟨h8,h9⟩
    refine Zyl N _ _ _ _ _ ?_;(try simp only [iB,vcT,forall_eq])
    (simp only [iB,vcS]);(try simp only [iB,vcT])
    refine ⟨fun h=> by unfold InR;omega,fun h=> by omega,fun hc=> ⟨V3,YL,_,rfl,⟨by rw [List.length_take];omega,?_⟩,by rw [List.length_take];omega⟩,fun hc=> ?_⟩
    .rw [Zme hc.1 hc.2,h9]
    .have hq:q=Yh (Yk ks):=by rw [<-h5,<-h9,Zmg hc]
     have e:Z5 (.mk k ws ks)= .mk k w q:=by
      subst hk
      simp only [Z5,hw,hq]
      try rfl
     simp only [Zhl,e]
     trivial
  .have hi:ks.take i.toNat=ks:=Ql YL
   rw [hi] at h5
   have e:Z5 (.mk k ws ks)= .mk k ws l:=by simp only [Z5,if_neg hc0,if_neg hk,h5]
   simp only [Zhl,e]
   trivial
noncomputable section
def ZwU:ArgL (Int × Unit):=(.cons (Ya .i64) .nil)
def Zuz(a:Int × Unit):Prop:=True
def ZBw(a:Int × Unit):V U:= .c (ci (wd a.1))
def Zeu:Fs U:=fs ZwU (fun a=> [Zuz a]) ZBw
def Zx4:ArgL (Int × Int × Unit):=(.cons (Ya .i64) (.cons (Ya .u64) .nil))
def Zpa(a:Int × Int × Unit):Prop:=0<=a.2.1/\a.2.1 < 18446744073709551616
def ZBA(a:Int × Int × Unit):V U:= .c (.bool (Zjp a.1 a.2.1))
def ZeF:Fs U:=fs Zx4 (fun a=> [Zpa a]) ZBA
def Zms(a:Int × Unit):V U:= .tup [(false,[ci (if wd a.1 < 0 then 0 else wd a.1)]),(false,[.bool (decide (0<=wd a.1))])]
def Z9C:Fs U:=fs ZwU (fun a=> [Zuz a]) Zms
def ZBt(a:Int × Unit):V U:= .c (.bool (decide (2<=a.1/\a.1<=9)))
def Z3S:Fs U:=fs ZwU (fun a=> [Zuz a]) ZBt
def Zuj(a:Int × Unit):V U:= .c (.bool (decide (2<=a.1/\a.1<=7)))
def Z3y:Fs U:=fs ZwU (fun a=> [Zuz a]) Zuj
def ZwQ:ArgL (Int × Tree × Unit):=(.cons (Ya .i64) (.cons (aEl .tree) .nil))
def Zp7(a:Int × Tree × Unit):Prop:=rng a.2.1
def ZBs(a:Int × Tree × Unit):V U:= .c (.bool (Z0L a.1 a.2.1))
def Zet:Fs U:=fs ZwQ (fun a=> [Zp7 a]) ZBs
def ZcX(a:Tree × Int × Unit):Prop:=Zm a.1<=20000000000/\rng a.1/\0<=a.2.1/\a.2.1<=1000
def Zl7(a:Tree × Int × Unit):Nat:=Zm a.1
def ZoR(a:Tree × Int × Unit):V U:= .c (.bool (Ze a.1 a.2.1))
def ZeD:Fs U:=fs ZwV (fun a=> [ZcX a]) ZoR
def Zhu(a:Tree × Unit):Prop:=Zm a.1<=20000000000/\rng a.1
def ZBD(a:Tree × Unit):V U:= .c (.bool (Ze a.1 64))
def Z31:Fs U:=fs Zxh (fun a=> [Zhu a]) ZBD
def ZDM:Zd U:=lvl [([0],[]),([3],[]),([3,4],[]),([2],[]),([3,6],[]),([2],[]),([3,8],[]),([2],[]),([3,10],[]),([2],[]),([3,12],[]),([2],[]),([14],[]),([2],[]),([2],[])]
abbrev A83(p:List Nat):=AW (Z1 Znz) Tryz.f83 ZDM p
theorem ZIK(c:Int)(Q:QT)(h:(iB (c==0) ((Q .ret (L2 [pI 2 0] []))) ((iB (c==1) ((Q .ret (L2 [pI 2 1] []))) ((iB (c==2) ((Q .ret (L2 [pI 2 8] []))) ((iB (c==3) ((Q .ret (L2 [pI 2 16] []))) ((iB (c==4) ((Q .ret (L2 [pI 2 32] []))) ((iB (c==5) ((Q .ret (L2 [pI 2 64] []))) ((Q .ret (L2 [pI 2 (-1)] []))))))))))))))):
  A83 [] (L2 [pI 0 c] []) Q:=
 Eq.mpr V4 h
def ZFC(c:Int):Prop:=AW (Z1 Znz) Tryz.f83 ZDM [] (Zg (ZwU.can (c,())) []) (EQ Tryz.f83 (ZBw (c,())) [])
theorem ZD4(hb:∀ (c:Int) (_:Unit),Zuz (c,())->ZFC c):CT 83 Zeu:=
 Z2 (l:=[]) Zi rfl trivial ZDM Tryz.func83 rfl rfl 1 (fun _=> rfl) V2 (fun ⟨c,_⟩=> hb c ())
def Znq:List (FuncId × Fs U):=[(83,Zeu)]
def ZzH:Zd U:=lvl [([0,1],[]),([1,5],[]),([1,5,10],[]),([4],[]),([1,5,6],[]),([1,5,6,13],[]),([1,5,6],[]),([1,5,6],[]),([4],[])]
def ZaS(c n x1 x6:Int):LSt U:=(L2 [(1,.c (.int .u64 x1)),pI 5 (wd c),pI 6 x6] [])
abbrev A49(p:List Nat):=AW (Z1 Znq) Tryz.f49 ZzH p
abbrev S49(p:List Nat):=SW (Z1 Znq) Tryz.f49 ZzH p
theorem ZJ6(c n:Int)(Q:QT)(h:((Zuz (c,()))/\(iB (decide (((wd c):Int) < 0)) ((Q .ret (L2 [pB 4 false] []))) ((Zj (A49 [1,1,1,0,1,0,0]) (ZaS c n n 0) (xB 0 (S49 [1,1,1,1] Q))))))):
  A49 [] (L2 [pI 0 c,(1,.c (.int .u64 n))] []) Q:=
 Eq.mpr V4 h
theorem Zyc(c n x1 x6:Int)(N0:NT)(Q:QT)(h:(iB (decide (x6 < (wd c))) (((2:Int)≠0)/\((InR (x6+1))/\(N0 (ZaS c n (IntKind.wrap .u64 (Int.tdiv x1 2)) (x6+1))))) ((Q .ret (L2 [pB 4 (x1==0)] []))))):
  A49 [1,1,1,0,1,0,0] (ZaS c n x1 x6) (xT N0 (xB 0 (S49 [1,1,1,1] Q))):=
 Eq.mpr V4 h
def ZFY(c n:Int):Prop:=AW (Z1 Znq) Tryz.f49 ZzH [] (Zg (Zx4.can (c,n,())) []) (EQ Tryz.f49 (ZBA (c,n,())) [])
theorem ZDi(c83:CT 83 Zeu)(hb:∀ (c:Int) (n:Int) (_:Unit),Zpa (c,n,())->ZFY c n):CT 49 ZeF:=
 Z2 (l:=[(83,Zeu)]) Zi rfl (⟨c83,trivial⟩) ZzH Tryz.func49 rfl rfl 2 (fun _=> rfl) V2 (fun ⟨c,n,_⟩=> hb c n ())
def Zvo:Zd U:=lvl [([0],[]),([0,4],[4]),([0,4,11],[4]),([2,3],[]),([2,3],[])]
abbrev ZKd(p:List Nat):=AW (Z1 Znz) Tryz.f150 Zvo p
theorem ZH5(c:Int)(Q:QT)(h:((Tt (!(decide (c < 0))))/\((decide (c < 0))=false->(!(decide (c < 0)))=true)/\(iB (bif (decide (c < 0)) then true else (decide ((6:Int)<=c))) ((Q .ret (L2 [pI 2 0,pB 3 false] []))) (((0:Int)<=c/\c < ((6:Nat):Int))/\(Q .ret (L2 [pI 2 (List.getD [0,1,8,16,32,64] c.toNat 0),pB 3 true] [])))))):
  ZKd [] (L2 [pI 0 c] []) Q:=
 Eq.mpr V4 h
def ZAT(c:Int):Prop:=AW (Z1 Znz) Tryz.f150 Zvo [] (Zg (ZwU.can (c,())) []) (EQ Tryz.f150 (Zms (c,())) [])
theorem Zzf(hb:∀ (c:Int) (_:Unit),Zuz (c,())->ZAT c):CT 150 Z9C:=
 Z2 (l:=[]) Zi rfl trivial Zvo Tryz.func150 rfl rfl 1 (fun _=> rfl) V2 (fun ⟨c,_⟩=> hb c ())
def Zq6:List (FuncId × Fs U):=[(150,Z9C)]
def Zvv:Zd U:=lvl [([0,1],[]),([1,5,6],[]),([4],[])]
abbrev ZKh(p:List Nat):=AW (Z1 Zq6) Tryz.f134 Zvv p
theorem ZHi(c n:Int)(Q:QT)(h:let z2:=((if wd c < 0 then 0 else wd c):Int)==64;let z1:=decide (0<=wd c);let z0:=z1 && (!z2);((Zuz (c,()))/\((Tt z1)/\(Tt z1)/\(Tt z0)/\(Tt z0)/\(z0=true->(0:Int)<=(if wd c < 0 then 0 else wd c))/\(Tt z0)/\(z1=true->(True->z1=true))/\(z1=true->(z2=false->z0=true))/\(Tt z1)/\(Q .ret (L2 [(4,.c (.bool (bif z1 then (bif z2 then true else (((Int.fdiv n (2 ^ (min (Int.toNat (if wd c < 0 then 0 else wd c)) (IntKind.bits .u64)))):Int)==0)) else false)))] []))))):
  ZKh [] (L2 [pI 0 c,(1,.c (.int .u64 n))] []) Q:=
 Eq.mpr V4 h
def ZB6(c n:Int):Prop:=AW (Z1 Zq6) Tryz.f134 Zvv [] (Zg (Zx4.can (c,n,())) []) (EQ Tryz.f134 (ZBA (c,n,())) [])
theorem Zzn(ZEC:CT 150 Z9C)(hb:∀ (c:Int) (n:Int) (_:Unit),Zpa (c,n,())->ZB6 c n):CT 134 ZeF:=
 Z2 (l:=[(150,Z9C)]) Zi rfl (⟨ZEC,trivial⟩) Zvv Tryz.func134 rfl rfl 2 (fun _=> rfl) V2 (fun ⟨c,n,_⟩=> hb c n ())
def ZDK:Zd U:=lvl [([0],[]),([2],[])]
abbrev A93(p:List Nat):=AW (Z1 Znz) Tryz.f93 ZDK p
theorem ZIH(k:Int)(Q:QT)(h:let z0:=decide ((2:Int)<=k);((Tt z0)/\(Tt z0)/\(Q .ret (L2 [(2,.c (.bool (bif z0 then (decide (k<=9)) else false)))] [])))):
  A93 [] (L2 [pI 0 k] []) Q:=
 Eq.mpr V4 h
def ZFz(k:Int):Prop:=AW (Z1 Znz) Tryz.f93 ZDK [] (Zg (ZwU.can (k,())) []) (EQ Tryz.f93 (ZBt (k,())) [])
theorem ZD1(hb:∀ (k:Int) (_:Unit),Zuz (k,())->ZFz k):CT 93 Z3S:=
 Z2 (l:=[]) Zi rfl trivial ZDK Tryz.func93 rfl rfl 1 (fun _=> rfl) V2 (fun ⟨k,_⟩=> hb k ())
abbrev ZKi(p:List Nat):=AW (Z1 Znz) Tryz.f128 ZDK p
theorem ZHm(k:Int)(Q:QT)(h:let z0:=decide ((2:Int)<=k);((Tt z0)/\(Tt z0)/\(Q .ret (L2 [(2,.c (.bool (bif z0 then (decide (k<=7)) else false)))] [])))):
  ZKi [] (L2 [pI 0 k] []) Q:=
 Eq.mpr V4 h
def ZBa(k:Int):Prop:=AW (Z1 Znz) Tryz.f128 ZDK [] (Zg (ZwU.can (k,())) []) (EQ Tryz.f128 (Zuj (k,())) [])
theorem Zzr(hb:∀ (k:Int) (_:Unit),Zuz (k,())->ZBa k):CT 128 Z3y:=
 Z2 (l:=[]) Zi rfl trivial ZDK Tryz.func128 rfl rfl 1 (fun _=> rfl) V2 (fun ⟨k,_⟩=> hb k ())
def ZvR:List (FuncId × Fs U):=[(128,Z3y),(134,ZeF)]
def ZDJ:Zd U:=lvl [([0,3],[3]),([0,3,5],[3]),([4],[]),([3,32],[3]),([4],[]),([4],[])]
abbrev A94(p:List Nat):=AW (Z1 ZvR) Tryz.f94 ZDJ p
theorem ZIG(l:Int)(t:Tree)(Q:QT)(h:let z2:=List.getD t.words (Int.toNat 0) (0:Int);let z1:=bif (t.kind==10) then (((t.kids.length:Int):Int)==0) else false;let z0:=bif z1 then (((t.words.length:Int):Int)==1) else false;((Zuz (l,()))/\(iB (decide (2<=l/\l<=7)) ((Tt (t.kind==10))/\(Tt (t.kind==10))/\(Tt (t.kind==10))/\(Tt (t.kind==10))/\(Tt z1)/\(Tt z1)/\(Tt z1)/\(Tt z1)/\(Tt z0)/\(z0=true->InR (l - 2))/\(Tt z0)/\(Tt z0)/\(z0=true->(0:Int)<=0/\0 < (t.words.length:Int))/\(Tt z0)/\(Tt z0)/\(Tt z0)/\(z0=true->Zpa ((l - 2),z2,()))/\(Tt z0)/\(Q .ret (L2 [(4,.c (.bool (bif z0 then (Zjp (l - 2) z2) else false)))] []))) ((iB (l==9) ((Q .ret (L2 [pB 4 (t.kind==1)] []))) ((Q .ret (L2 [pB 4 (t.kind !=10)] [])))))))):
  A94 [] (L2 [pI 0 l,(1,.agg (enc .tree t))] []) Q:=
 Eq.mpr V4 h
def ZFy(l:Int)(t:Tree):Prop:=AW (Z1 ZvR) Tryz.f94 ZDJ [] (Zg (ZwQ.can (l,t,())) []) (EQ Tryz.f94 (ZBs (l,t,())) [])
theorem ZD0(Zso:CT 128 Z3y)(ZEJ:CT 134 ZeF)(hb:∀ (l:Int) (t:Tree) (_:Unit),Zp7 (l,t,())->ZFy l t):CT 94 Zet:=
 Z2 (l:=[(128,Z3y),(134,ZeF)]) Zi rfl (⟨Zso,ZEJ,trivial⟩) ZDJ Tryz.func94 rfl rfl 2 (fun _=> rfl) V2 (fun ⟨l,t,_⟩=> hb l t ())
def Z9a(N:Nat):List (FuncId × Fs U):=(61,fs ZwV (fun a=> [ZcX a,Zl7 a < N]) ZoR) ::[(93,Z3S),(94,Zet)]
def ZrW:Zd U:=lvl [([1,2],[2]),([1,2,8],[2]),([4],[]),([1,2,22],[2]),([4],[]),([1,2,36],[2]),([4],[]),([1,2,39],[2]),([1,2,52],[2]),([4],[]),([1,2,53],[2]),([4],[]),([1,2,71,72,73],[2]),([1,2,71,72,73,74],[2]),([1,2,6,71,72,73],[2,6]),([1,2,6,7,71,72,73],[2,6]),([1,2,6,7,71,72,73,82],[2,6]),([1,2,6,7,71,72,73],[2,6]),([1,2,71,72,73,95],[2]),([4],[]),([1,2,71,72,73],[2]),([4],[])]
def Z4H(t:Tree)(d x73:Int):LSt U:=(L2 [pI 1 d,pL 2,(71,.c (sU .tree t.kids .unk)),pI 72 (t.kids.length:Int),pI 73 x73] [(.loc 2,(enc .tree t))])
abbrev A61(N:Nat)(p:List Nat):=AW (Z1 (Z9a N)) Tryz.f61 ZrW p
abbrev S61(N:Nat)(p:List Nat):=SW (Z1 (Z9a N)) Tryz.f61 ZrW p
theorem ZIZ(N:Nat)(t:Tree)(d:Int)(Q:QT)(h:let z7:=((t.kids.length:Int):Int)==0;let z6:=(Q .ret (L2 [pB 4 false] []));let z5:=(Zj (A61 N [1,1,0,1,0,0]) (Z4H t d 0) (xB 1 (S61 N [1,1,1] Q)));let z4:=((t.words.length:Int):Int)==1;let z3:=((t.words.length:Int):Int)==0;let z2:= !(decide (2<=t.kind/\t.kind<=9));let z1:=decide ((65536:Int)<=(t.words.length:Int));let z0:=bif z2 then true else (decide ((0:Int) < (t.words.length:Int)));(iB (t.kind==0) ((Tt z3)/\(Tt z3)/\(Tt z3)/\(Tt z3)/\(Q .ret (L2 [(4,.c (.bool (bif z3 then z7 else false)))] []))) ((iB (t.kind==10) ((Tt z4)/\(Tt z4)/\(Tt z4)/\(Tt z4)/\(Q .ret (L2 [(4,.c (.bool (bif z4 then z7 else false)))] []))) ((iB (d==0) z6 ((iB (t.kind==1) ((Tt (!z1))/\(Tt (!z1))/\(Tt (!z1))/\(z1=false->(!z1)=true)/\(iB (bif z1 then true else (decide ((65536:Int)<=(t.kids.length:Int)))) z6 z5)) ((Zuz (t.kind,()))/\(Tt (!z2))/\(Tt (!z2))/\(Tt (!z2))/\(z2=false->(!z2)=true)/\(Tt (!z0))/\(Tt (!z0))/\(Tt (!z0))/\(z0=false->(!z0)=true)/\(iB (bif z0 then true else (decide ((1048576:Int)<=(t.kids.length:Int)))) z6 z5)))))))))):
  A61 N [] (L2 [(0,.agg (enc .tree t)),pI 1 d] []) Q:=
 Eq.mpr V4 h
theorem Zy0(N:Nat)(t:Tree)(d x73:Int)(N0:NT)(Q:QT)(h:∀ y_1,y_1=(t.kids.getD x73.toNat Tree.nil)->∀ y_2,y_2=y_1->let z2:=(Q .ret (L2 [pB 4 false] []));let z1:= !(y_1.kind !=10);let z0:= !(Z0L t.kind y_2);(iB (decide (x73 < (t.kids.length:Int))) (((0:Int)<=x73/\x73 < (t.kids.length:Int))/\(iB (t.kind !=1) ((Zp7 (t.kind,y_2,()))/\((Tt (!z0))/\((!z0)=true->InR (d - 1))/\(Tt (!z0))/\(Tt (!z0))/\((!z0)=true->ZcX (y_2,(d - 1),()))/\((!z0)=true->Zl7 (y_2,(d - 1),()) < N)/\(Tt (!z0))/\(z0=false->(!z0)=true)/\(iB (bif z0 then true else (!(Ze y_2 (d - 1)))) z2 ((InR (x73+1))/\(N0 (Z4H t d (x73+1))))))) ((Tt (!z1))/\((!z1)=true->InR (d - 1))/\(Tt (!z1))/\(Tt (!z1))/\((!z1)=true->ZcX (y_2,(d - 1),()))/\((!z1)=true->Zl7 (y_2,(d - 1),()) < N)/\(Tt (!z1))/\(z1=false->(!z1)=true)/\(iB (bif z1 then true else (!(Ze y_2 (d - 1)))) z2 ((InR (x73+1))/\(N0 (Z4H t d (x73+1)))))))) ((Q .ret (L2 [pB 4 true] []))))):
  A61 N [1,1,0,1,0,0] (Z4H t d x73) (xT N0 (xB 1 (S61 N [1,1,1] Q))):=
 Eq.mpr V4 (h _ rfl _ (Za _))
def ZFR(N:Nat)(t:Tree)(d:Int):Prop:=AW (Z1 (Z9a N)) Tryz.f61 ZrW [] (Zg (ZwV.can (t,d,())) []) (EQ Tryz.f61 (ZoR (t,d,())) [])
theorem ZDc(c93:CT 93 Z3S)(c94:CT 94 Zet)(hb:∀ (N:Nat) (t:Tree) (d:Int) (_:Unit),ZcX (t,d,())->Zl7 (t,d,()) < N+1->ZFR N t d):CT 61 ZeD:=
 Yi (μ:=Zl7) (l:=[(93,Z3S),(94,Zet)]) Zi rfl (⟨c93,c94,trivial⟩) ZrW Tryz.func61 rfl rfl 2 (fun _=> rfl) V2 (fun N ⟨t,d,_⟩=> hb N t d ())
def Zw8:List (FuncId × Fs U):=[(61,ZeD)]
abbrev A30(p:List Nat):=AW (Z1 Zw8) Tryz.f30 ZE4 p
theorem ZJl(t:Tree)(Q:QT)(h:let z0:=Tree.mk t.kind t.words t.kids;((ZcX (z0,64,()))/\(Q .ret (L2 [pB 2 (Ze z0 64)] [])))):
  A30 [] (L2 [(0,.agg (enc .tree t))] []) Q:=
 Eq.mpr V4 h
def ZGd(t:Tree):Prop:=AW (Z1 Zw8) Tryz.f30 ZE4 [] (Zg (Zxh.can (t,())) []) (EQ Tryz.f30 (ZBD (t,())) [])
theorem ZDu(c61:CT 61 ZeD)(hb:∀ (t:Tree) (_:Unit),Zhu (t,())->ZGd t):CT 30 Z31:=
 Z2 (l:=[(61,ZeD)]) Zi rfl (⟨c61,trivial⟩) ZE4 Tryz.func30 rfl rfl 1 (fun _=> rfl) V2 (fun ⟨t,_⟩=> hb t ())
def ZnA(N:Nat):List (FuncId × Fs U):=(20,fs ZwV (fun a=> [ZcX a,Zl7 a < N]) ZoR) ::[(49,ZeF)]
def ZzR:Zd U:=lvl [([1,2],[2]),([1,2,10],[2]),([4],[]),([1,2,23],[2]),([4],[]),([1,2,68],[2]),([4],[]),([1,2,77],[2]),([4],[]),([1,2,5],[2]),([1,2,5,82],[2]),([1,2,5],[2]),([1,2,5,6],[2,6]),([1,2,5,6,94],[2,6]),([4],[]),([1,2,5,6,7],[2,6]),([1,2,5,131],[2]),([4],[]),([4],[])]
def Zb9(t:Tree)(d x5:Int):LSt U:=(L2 [pI 1 d,pL 2,pI 5 x5] [(.loc 2,(enc .tree t))])
abbrev A20(N:Nat)(p:List Nat):=AW (Z1 (ZnA N)) Tryz.f20 ZzR p
abbrev S20(N:Nat)(p:List Nat):=SW (Z1 (ZnA N)) Tryz.f20 ZzR p
theorem ZJs(N:Nat)(t:Tree)(d:Int)(Q:QT)(h:let z10:=(Q .ret (L2 [pB 4 false] []));let z9:=((t.kids.length:Int):Int)==0;let z7:=decide (t.kind < 0);let z6:=decide ((1:Int) < t.kind);let z5:=((t.words.length:Int):Int)==1;let z4:=((t.words.length:Int):Int)==0;let z1:=bif z7 then true else (decide ((10:Int) < t.kind));let z3:=bif z1 then true else (d==0);let z0:=bif z3 then true else (decide ((65536:Int)<=(t.words.length:Int)));let z8:=(!z0) && (t.kind==1);let z2:=bif z0 then true else (bif (t.kind==1) then (decide ((65536:Int)<=(t.kids.length:Int))) else false);(iB (t.kind==0) ((Tt z4)/\(Tt z4)/\(Tt z4)/\(Tt z4)/\(Q .ret (L2 [(4,.c (.bool (bif z4 then z9 else false)))] []))) ((iB (t.kind==10) ((Tt z5)/\(Tt z5)/\(Tt z5)/\(Tt z5)/\(Q .ret (L2 [(4,.c (.bool (bif z5 then z9 else false)))] []))) ((Tt (!z7))/\(Tt (!z7))/\(z7=false->(!z7)=true)/\(Tt (!z1))/\(z1=false->(!z1)=true)/\(Tt (!z3))/\(Tt (!z3))/\(Tt (!z3))/\(z3=false->(!z3)=true)/\(Tt (!z0))/\(Tt (!z0))/\(Tt (!z0))/\(Tt z8)/\(Tt z8)/\(Tt z8)/\((!z0)=true->(True->(!z0)=true))/\((!z0)=true->((t.kind==1)=true->z8=true))/\(z0=false->(!z0)=true)/\(Tt (!z2))/\(Tt (!z2))/\(Tt (!z2))/\(z2=false->(!z2)=true)/\(iB (bif z2 then true else (decide ((1048576:Int)<=(t.kids.length:Int)))) z10 ((Tt z6)/\(Tt z6)/\(Tt z6)/\(Tt z6)/\(iB (bif z6 then (decide ((0:Int) < (t.words.length:Int))) else false) z10 ((Zj (A20 N [1,1,1,1,1,0,1,0,0]) (Zb9 t d 0) (xB 0 (S20 N [1,1,1,1,1,1] Q)))))))))))):
  A20 N [] (L2 [(0,.agg (enc .tree t)),pI 1 d] []) Q:=
 Eq.mpr V4 h
theorem Zyu(N:Nat)(t:Tree)(d x5:Int)(N0:NT)(Q:QT)(h:∀ y_1,y_1=(t.kids.getD x5.toNat Tree.nil)->∀ y_2,y_2=y_1->∀ y_3,y_3=(List.getD y_1.words (Int.toNat 0) (0:Int))->let z5:=(Q .ret (L2 [pB 4 false] []));let z3:=decide ((2:Int)<=t.kind);let z0:=bif z3 then (decide (t.kind<=7)) else false;let z2:=z0 !=(y_1.kind==10);let z4:=(!z2) && (t.kind==9);let z1:=bif z2 then true else (bif (t.kind==9) then (y_1.kind !=1) else false);(iB (decide (x5 < (t.kids.length:Int))) (((0:Int)<=x5/\x5 < (t.kids.length:Int))/\((InR (d - 1))/\(ZcX (y_2,(d - 1),()))/\(Zl7 (y_2,(d - 1),()) < N)/\(iB (!(Ze y_2 (d - 1))) z5 ((Tt z3)/\(Tt z3)/\(Tt z3)/\((Tt (!z2))/\(Tt (!z2))/\(Tt (!z2))/\(Tt z4)/\(Tt z4)/\((!z2)=true->(True->(!z2)=true))/\((!z2)=true->((t.kind==9)=true->z4=true))/\(z2=false->(!z2)=true)/\(Tt (!z1))/\(Tt ((!z1) && z0))/\(Tt ((!z1) && z0))/\(((!z1) && z0)=true->InR (t.kind - 2))/\(Tt ((!z1) && z0))/\(Tt ((!z1) && z0))/\(((!z1) && z0)=true->(0:Int)<=0/\0 < (y_1.words.length:Int))/\(Tt ((!z1) && z0))/\(Tt ((!z1) && z0))/\(Tt ((!z1) && z0))/\(((!z1) && z0)=true->Zpa ((t.kind - 2),y_3,()))/\(Tt ((!z1) && z0))/\((!z1)=true->(True->(!z1)=true))/\((!z1)=true->(z0=true->((!z1) && z0)=true))/\(z1=false->(!z1)=true)/\(iB (bif z1 then true else (bif z0 then (!(Zjp (t.kind - 2) y_3)) else false)) z5 ((InR (x5+1))/\(N0 (Zb9 t d (x5+1)))))))))) ((Q .ret (L2 [pB 4 true] []))))):
  A20 N [1,1,1,1,1,0,1,0,0] (Zb9 t d x5) (xT N0 (xB 0 (S20 N [1,1,1,1,1,1] Q))):=
 Eq.mpr V4 (h _ rfl _ (Za _) _ rfl)
def ZGk(N:Nat)(t:Tree)(d:Int):Prop:=AW (Z1 (ZnA N)) Tryz.f20 ZzR [] (Zg (ZwV.can (t,d,())) []) (EQ Tryz.f20 (ZoR (t,d,())) [])
theorem ZDA(c49:CT 49 ZeF)(hb:∀ (N:Nat) (t:Tree) (d:Int) (_:Unit),ZcX (t,d,())->Zl7 (t,d,()) < N+1->ZGk N t d):CT 20 ZeD:=
 Yi (μ:=Zl7) (l:=[(49,ZeF)]) Zi rfl (⟨c49,trivial⟩) ZzR Tryz.func20 rfl rfl 2 (fun _=> rfl) V2 (fun N ⟨t,d,_⟩=> hb N t d ())
end
theorem Z51:∀ (l:List Int),trim l=[]↔∀ i:Nat,l.getD i 0=0
 | []=> by simp [trim]
 | x ::r=> by
  have ih:=Z51 r
  constructor
  .intro h i
   simp only [trim] at h
   split at h
   .rename_i hr
    split at h
    .cases i with
     | zero=> simpa
     | succ i=> simp_all
    .cases h
   .cases h
  .intro h
   have h0:=h 0
   have hr:trim r=[]:=ih.2 fun i=> by simpa using h (i+1)
   simp only [trim,hr]
   grind
theorem Z2I(x:Int)(r:List Int):trim (x ::r)=if trim r=[]/\x=0 then [] else x ::trim r:=by
 simp only [trim]
 grind
theorem ZcB:∀ (a b:List Int),trim a=trim b↔∀ i:Nat,a.getD i 0=b.getD i 0
 | [],b=> by
  rw [show trim []=[] from rfl,eq_comm,Z51]
  simp [eq_comm]
 | x ::r,[]=> by
  rw [show trim []=[] from rfl,Z51]
  simp
 | x ::r,y ::s=> by
  have ih:=ZcB r s
  constructor
  .intro h i
   have key:x=y/\trim r=trim s:=by
    rw [Z2I,Z2I] at h
    grind
   cases i with
   | zero=> grind
   | succ i=> simp_all
  .intro h
   have h0:x=y:=by simpa using h 0
   have hr:trim r=trim s:=ih.2 fun i=> by simpa using h (i+1)
   rw [Z2I,Z2I,h0,hr]
def ZAq(l:List Tree):Prop:=∀ x∈l,x.kind=0->x=Tree.nil
theorem Z00(x:Tree)(r:List Tree):Yh (x ::r)=if Yh r=[]/\x.kind=0 then [] else x ::Yh r:=by
 simp only [Yh]
 grind
theorem Z3Q:∀ (l:List Tree),ZAq l->(Yh l=[]↔∀ i:Nat,l.getD i Tree.nil=Tree.nil)
 | [],_=> by simp [Yh]
 | x ::r,hn=> by
  have ih:=Z3Q r (fun y hy=> hn y (Q0 _ hy))
  have hx:=hn x (Q3 ..)
  rw [Z00]
  constructor
  .intro h i
   split at h
   .rename_i hc
    cases i with
    | zero=> grind
    | succ i=> simp_all
   .cases h
  .intro h
   have h0:x=Tree.nil:=by simpa using h 0
   have hr:Yh r=[]:=ih.2 fun i=> by simpa using h (i+1)
   rw [if_pos ⟨hr,by rw [h0];rfl⟩]
theorem Z9n:∀ (a b:List Tree),ZAq a->ZAq b->(Yh a=Yh b↔∀ i:Nat,a.getD i Tree.nil=b.getD i Tree.nil)
 | [],b,_,hb=> by
  rw [show Yh []=[] from rfl,eq_comm,Z3Q b hb]
  simp [eq_comm]
 | x ::r,[],ha,_=> by
  rw [show Yh []=[] from rfl,Z3Q _ ha]
  simp
 | x ::r,y ::s,ha,hb=> by
  have ih:=Z9n r s (fun y hy=> ha y (Q0 _ hy)) (fun y hy=> hb y (Q0 _ hy))
  have hx:=ha x (Q3 ..)
  have hy:=hb y (Q3 ..)
  constructor
  .intro h i
   have key:x=y/\Yh r=Yh s:=by
    rw [Z00,Z00] at h
    split at h <;> split at h
    .grind
    .cases h
    .cases h
    .simpa using h
   cases i with
   | zero=> grind
   | succ i=> simp_all
  .intro h
   have h0:x=y:=by simpa using h 0
   have hr:Yh r=Yh s:=ih.2 fun i=> by simpa using h (i+1)
   rw [Z00,Z00,h0,hr]
theorem ZrH:Z5 Tree.nil=Tree.nil:=by rfl
theorem Z92(t:Tree):(Z5 t).kind=t.kind:=by
 obtain ⟨k,w,ks⟩:=t
 simp only [Z5]
 split
 .rename_i h;simp [h,Tree.nil]
 .split
  .rename_i h;simp [h]
  .try rfl
theorem Z94:∀ (l:List Tree),ZAq (Yk l)
 | []=> by intro x hx;trivial
 | t ::r=> by
  intro x hx hk
  simp only [Yk,Q9] at hx
  rcases hx with rfl | hx
  .rw [Z92] at hk
   obtain ⟨k,w,ks⟩:=t
   simp only [Tree.kind_mk] at hk
   simp [Z5,hk]
  .exact Z94 r x hx hk
theorem Z0H:∀ (l:List Tree) (i:Nat),(Yk l).getD i Tree.nil=Z5 (l.getD i Tree.nil)
 | [],i=> by rfl
 | t ::r,0=> by simp [Yk]
 | t ::r,i+1=> by simpa [Yk] using Z0H r i
theorem Zae(a b:List Tree):Yk a=Yk b↔a.length=b.length/\∀ i:Nat,Z5 (a.getD i Tree.nil)=Z5 (b.getD i Tree.nil):=by
 constructor
 .intro h
  refine ⟨by rw [<-Z1B a,h,Z1B],fun i=> ?_⟩
  rw [<-Z0H,h,Z0H]
 .rintro ⟨hl,h⟩
  apply K0 (by rw [Z1B,Z1B,hl])
  intro i h1 h2
  have:=h i
  rw [<-Z0H,<-Z0H] at this
  grind
theorem YS(a b:Tree):Z5 a=Z5 b↔a.kind=b.kind/\(a.kind=0\/(if a.kind=1 then (∀ i:Nat,a.words.getD i 0=b.words.getD i 0) else a.words=b.words/\a.kids.length=b.kids.length)/\∀ i:Nat,Z5 (a.kids.getD i Tree.nil)=Z5 (b.kids.getD i Tree.nil)):=by
 obtain ⟨k,w,ks⟩:=a
 obtain ⟨k',w',ks'⟩:=b
 show _↔k=k'/\(k=0\/(if k=1 then (∀ i:Nat,w.getD i 0=w'.getD i 0) else w=w'/\ks.length=ks'.length)/\∀ i:Nat,Z5 (ks.getD i Tree.nil)=Z5 (ks'.getD i Tree.nil))
 by_cases hk:k=k'
 .subst hk
  simp only [true_and]
  by_cases h0:k=0
  .simp [Z5,h0]
  .by_cases h1:k=1
   .subst h1
    simp only [Z5,if_neg h0,if_true,Tree.mk.injEq,true_and,ZcB,Z9n _ _ (Z94 _) (Z94 _),Z0H]
    simp
   .simp only [Z5,if_neg h0,if_neg h1,Tree.mk.injEq,true_and,Zae]
    grind
 .simp only [hk,false_and,iff_false]
  intro h
  have:=congrArg Tree.kind h
  rw [Z92,Z92] at this
  exact hk this
theorem ZjY{a b:Tree}(h:Z5 a=Z5 b)(h0:a.kind≠0)(i:Nat):a.words.getD i 0=b.words.getD i 0:=by
 obtain ⟨_,h2⟩:=(YS a b).1 h
 grind
theorem ZnE{a b:Tree}(h:Z5 a=Z5 b)(h0:a.kind≠0)(i:Nat):Z5 (a.kids.getD i Tree.nil)=Z5 (b.kids.getD i Tree.nil):=by
 obtain ⟨_,h2⟩:=(YS a b).1 h
 grind
theorem Zgd(t:Tree)(i:Int):Zm (JD t i)<=Zm t/\(i < t.kids.length->0<=i->Zm (JD t i) < Zm t):=by
 obtain ⟨k,w,ks⟩:=t
 unfold JD
 have h1:Zm Tree.nil=1:=rfl
 split
 .simp only [h1,Zm];omega
 .simp only [Tree.kids_mk]
  by_cases hi:i.toNat < ks.length
  .have:=Z0e hi
   simp only [Zm];omega
  .rw [List.getD,QN YL]
   simp only [Option.getD_none,h1,Zm];omega
theorem c47:Contract Tryz.prog cfg 47 Z0i:=by
 refine ZDj c80 c81 c45 ?_
 rintro N a b _ hp hN
 have la:a.words.length+a.kids.length < Zm a:=by obtain ⟨k,w,ks⟩:=a;have:=Zv ks;simp only [Zm,Tree.words_mk,Tree.kids_mk];omega
 have lb:b.words.length+b.kids.length < Zm b:=by obtain ⟨k,w,ks⟩:=b;have:=Zv ks;simp only [Zm,Tree.words_mk,Tree.kids_mk];omega
 simp only [Z6e,ZrL] at hp hN
 have no:¬Z5 a=Z5 b->Y2 cfg Tryz.f47.ntmps Tryz.f47.results.toList (Zf8 (a,b,())) [] .ret (⟨[(4,.c (.bool false))],[],[]⟩:LSt U):=by
  intro h
  have e:YM (Z5 a) (Z5 b)=false:=YG.2 h
  simp only [Zf8,e]
  exact ⟨⟨rfl,⟨rfl,trivial⟩,trivial⟩,trivial⟩
 refine ZJ7 N _ _ _ ?_;(try simp only [iB,vcT,forall_eq])
 (simp only [iB,vcS]);(try simp only [iB,vcT])
 refine ⟨fun hc=> ?_,fun hc=> ?_⟩
 .have e:YM (Z5 a) (Z5 b)=(a.kind==b.kind):=by
   by_cases hk:a.kind=b.kind
   .have h0:a.kind=0:=by rcases hc with h | h;exact absurd hk h;exact h
    rw [Yu.2 ((YS a b).2 ⟨hk,.inl h0⟩)]
    simp [hk]
   .rw [YG.2 (fun h=> hk ((YS a b).1 h).1)]
    simp [hk]
  simp only [Zf8,e]
  exact ⟨⟨rfl,⟨rfl,trivial⟩,trivial⟩,trivial⟩
 .refine ⟨fun _=> by simp only [Zhv];omega,fun h h'=> ⟨h,h'⟩,fun hd=> no ?_,fun hd=> ?_⟩
  .intro h
   obtain ⟨_,h2⟩:=(YS a b).1 h
   grind
  .refine Z4 (ι:=Int) (fun p=> ZaU a b p) (fun p=> 0<=p/\p<=2000000000000/\∀ j:Nat,j < p.toNat->a.words.getD j 0=b.words.getD j 0) (fun p=> (2000000000000 - p).toNat) 0 rfl ⟨YL,YL,fun j hj=> by simp at hj⟩ ?_
   rintro i ⟨h1,h2,h3⟩
   refine Zye N _ _ _ _ _ ?_;(try simp only [iB,vcT,forall_eq])
   (simp only [iB,vcS]);(try simp only [iB,vcT])
   have wa:∀ t:Tree,YE t i=t.words.getD i.toNat 0:=fun t=> by unfold YE;omega
   refine ⟨fun hi=> ⟨trivial,trivial,fun hn=> no fun h=> hn ?_,fun he=> ⟨?_,?_⟩⟩,fun hi=> ?_⟩
   .rw [wa,wa]
    exact ZjY h hc.2 _
   .unfold InR;omega
   .refine ⟨i+1,rfl,⟨YL,YL,fun j hj=> ?_⟩,YL⟩
    by_cases hj':j < i.toNat
    .exact h3 j hj'
    .have:j=i.toNat:=YL
     simp_all
   .have hw:∀ j:Nat,a.words.getD j 0=b.words.getD j 0:=fun j=> by
     grind
    refine Z4 (ι:=Int) (fun p=> ZaT a b p) (fun p=> 0<=p/\p<=2000000000000/\∀ j:Nat,j < p.toNat->Z5 (a.kids.getD j Tree.nil)=Z5 (b.kids.getD j Tree.nil)) (fun p=> (2000000000000 - p).toNat) 0 rfl ⟨YL,YL,fun j hj=> by simp at hj⟩ ?_
    rintro q ⟨h5,h6,h7⟩
    refine Zyd N _ _ _ _ _ ?_;(try simp only [iB,vcT,forall_eq])
    (simp only [iB,vcS]);(try simp only [iB,vcT])
    have ka:∀ t:Tree,JD t q=t.kids.getD q.toNat Tree.nil:=fun t=> by unfold JD;grind
    have ma:=Zgd a q
    have mb:=Zgd b q
    try (simp only [Tree.eta,Edit.eta,Tree.kind_mk,Tree.words_mk,Tree.kids_mk])
    refine ⟨fun hq=> ⟨trivial,trivial,?_,?_,fun hn=> no fun h=> ?_,fun he=> ⟨?_,?_⟩⟩,fun hq=> ?_⟩
    .simp only [Z6e];omega
    .simp only [ZrL];omega
    .rw [YG] at hn
     apply hn
     rw [ka,ka]
     exact ZnE h hc.2 _
    .unfold InR;omega
    .refine ⟨q+1,rfl,⟨YL,YL,fun j hj=> ?_⟩,YL⟩
     by_cases hj':j < q.toNat
     .exact h7 j hj'
     .have:j=q.toNat:=YL
      rw [this,<-ka,<-ka]
      exact Yu.1 he
    .have hk:∀ j:Nat,Z5 (a.kids.getD j Tree.nil)=Z5 (b.kids.getD j Tree.nil):=fun j=> by
      grind
     have e:YM (Z5 a) (Z5 b)=true:=by
      rw [Yu,YS]
      refine ⟨hc.1,.inr ⟨?_,hk⟩⟩
      split
      .exact hw
      .grind
     simp only [Zf8,e]
     trivial
mutual
theorem Z2q:∀ (t:Tree) (d l:Int),0<=ZJ t d l->(Zm t:Int)+ZJ t d l<=l
 | .mk _ w ks,d,l,h=> by
  simp only [ZJ] at h ⊢
  split at h
  .omega
  .rename_i hc
   rw [if_neg hc]
   have:=Z3W ks (d - 1) (l - 1 - w.length) h
   simp only [Zm]
   omega
theorem Z3W:∀ (ks:List Tree) (d l:Int),0<=ZA ks d l->(Zk ks:Int)+ZA ks d l<=l
 | [],d,l,h=> by simp [ZA,Zk]
 | t ::r,d,l,h=> by
  simp only [ZA] at h ⊢
  split at h
  .omega
  .rename_i hc
   rw [if_neg hc]
   have h1:=Z3W r d (ZJ t d l) h
   have h3:=(Z15 r d (ZJ t d l) (YV t d l).1).2
   have h2:=Z2q t d l YL
   simp only [Zk]
   omega
end
end Go.AM.YtfapacabjkhepaaGreat
