import Derived.Test.YtpjenobkibfpcaaCmZ
import Derived.Test.YtpjenobkibfpcaaChecked
import Derived.Test.YtpjenobkibfpcaaRows
import Derived.Test.YtpjenobkibfpcaaCmX
import Derived.Test.YtpjenobkibfpcaaCmXE
import Derived.ProofKit
import Derived.Test.YtpjenobkibfpcaaKD07
set_option linter.unusedSimpArgs false
set_option linter.unusedVariables false
namespace Go.AM.Ytpjenobkibfpcaa
open Go.AM Go.Proofs
def el:Ty→TypeId
 | .u64=> 40
 | .u8=> 5
 | .int=> 3
 | .tree=> 25
 | .wedit=> 42
 | .edit=> 31
 | .kid=> 84
 | .op=> 82
 | .piece=> 150
 | .unit=> 164
 | .pair=> 166
 | .step=> 58
 | .deed=> 70
def tb:Tables U:=
 {el:=el
  sl:=[(22,.u64),(23,.tree),(26,.step),(27,.wedit),(28,.kid),(29,.op),(64,.edit),(94,.u8),(146,.piece),(153,.int),(158,.pair),(161,.unit)]
  var:=[(2,false,[.int .i64 0]),
   (3,false,[.int .i64 0]),
   (4,false,[.bool false]),
   (5,false,[.int .u8 0]),
   (6,false,[.int .u8 0]),
   (7,true,[.int .i64 0,.int .i64 0,.bool false,.int .u8 0]),
   (8,true,[.int .i64 0,.int .i64 0,.bool false,.int .u8 0]),
   (12,false,[.int .u64 0]),
   (15,false,[.nilp]),
   (16,false,[.nilp]),
   (17,false,[.nilp]),
   (18,true,[.nilp]),
   (19,true,[.nilp]),
   (21,false,[.int .i32 0]),
   (22,false,[.nils]),
   (23,false,[.nils]),
   (24,true,[.int .i64 0,.nils,.nils]),
   (25,true,[.int .i64 0,.nils,.nils]),
   (26,false,[.nils]),
   (27,false,[.nils]),
   (28,false,[.nils]),
   (29,false,[.nils]),
   (30,true,[.int .i64 0,.int .i64 0,.nils,.nils,.int .i64 0,.nils,.nils,.nils,.nils,.int .i64 0,.nils]),
   (31,true,[.int .i64 0,.int .i64 0,.nils,.nils,.int .i64 0,.nils,.nils,.nils,.nils,.int .i64 0,.nils]),
   (40,false,[.int .u64 0]),
   (41,true,[.int .i64 0,.int .u8 0,.int .u64 0,.int .u64 0]),
   (42,true,[.int .i64 0,.int .u8 0,.int .u64 0,.int .u64 0]),
   (57,true,[.int .i64 0,.int .i64 0]),
   (58,true,[.int .i64 0,.int .i64 0]),
   (60,false,[.int .i64 0]),
   (64,false,[.nils]),
   (66,false,[.nilp]),
   (69,true,[.int .i64 0,.int .i64 0,.int .i64 0,.int .i64 0,.nils,.nils,.int .i64 0,.nils,.nils,.nils,.nils,.int .i64 0,.nils]),
   (70,true,[.int .i64 0,.int .i64 0,.int .i64 0,.int .i64 0,.nils,.nils,.int .i64 0,.nils,.nils,.nils,.nils,.int .i64 0,.nils]),
   (81,true,[.int .i64 0,.int .i64 0,.nils,.int .i64 0,.int .i64 0,.nils,.nils,.int .i64 0,.nils,.nils,.nils,.nils,.int .i64 0,.nils]),
   (82,true,[.int .i64 0,.int .i64 0,.nils,.int .i64 0,.int .i64 0,.nils,.nils,.int .i64 0,.nils,.nils,.nils,.nils,.int .i64 0,.nils]),
   (83,true,[.int .i64 0,.int .i64 0,.int .i64 0,.nils,.nils,.int .i64 0,.nils,.nils,.nils,.nils,.int .i64 0,.nils]),
   (84,true,[.int .i64 0,.int .i64 0,.int .i64 0,.nils,.nils,.int .i64 0,.nils,.nils,.nils,.nils,.int .i64 0,.nils]),
   (90,true,[.int .u8 0,.int .u8 0,.int .u8 0,.int .u8 0,.int .u8 0,.int .u8 0,.int .u8 0,.int .u8 0]),
   (94,false,[.nils]),
   (101,false,[.nilp]),
   (102,true,[.bool false,.bool false]),
   (103,true,[.bool false,.bool false]),
   (108,true,[.int .i64 0,.nils,.nils,.nils,.nils]),
   (109,true,[.int .i64 0,.nils,.nils,.nils,.nils]),
   (135,false,[.nilp]),
   (136,true,[.nils,.nils,.nils]),
   (137,true,[.nils,.nils,.nils]),
   (140,false,[.nilp]),
   (146,false,[.nils]),
   (149,true,[.int .i64 0,.int .i64 0,.int .i64 0,.nils,.int .i64 0,.int .i64 0,.nils,.nils,.int .i64 0,.nils,.nils,.nils,.nils,.int .i64 0,.nils,.int .i64 0,.int .i64 0,.nils,.int .i64 0,.int .i64 0,.nils,.nils,.int .i64 0,.nils,.nils,.nils,.nils,.int .i64 0,.nils]),
   (150,true,[.int .i64 0,.int .i64 0,.int .i64 0,.nils,.int .i64 0,.int .i64 0,.nils,.nils,.int .i64 0,.nils,.nils,.nils,.nils,.int .i64 0,.nils,.int .i64 0,.int .i64 0,.nils,.int .i64 0,.int .i64 0,.nils,.nils,.int .i64 0,.nils,.nils,.nils,.nils,.int .i64 0,.nils]),
   (153,false,[.nils]),
   (158,false,[.nils]),
   (161,false,[.nils]),
   (163,true,[.int .i64 0,.int .i64 0,.int .i64 0,.nils,.nils,.int .i64 0,.int .i64 0,.nils,.nils,.int .i64 0,.nils,.nils,.nils,.nils,.int .i64 0,.nils,.bool false]),
   (164,true,[.int .i64 0,.int .i64 0,.int .i64 0,.nils,.nils,.int .i64 0,.int .i64 0,.nils,.nils,.int .i64 0,.nils,.nils,.nils,.nils,.int .i64 0,.nils,.bool false]),
   (165,true,[.int .i64 0,.int .i64 0,.int .i64 0,.int .i64 0,.nils,.nils,.int .i64 0,.int .i64 0,.nils,.nils,.int .i64 0,.nils,.nils,.nils,.nils,.int .i64 0,.nils,.bool false,.int .i64 0,.int .i64 0,.int .i64 0,.nils,.nils,.int .i64 0,.int .i64 0,.nils,.nils,.int .i64 0,.nils,.nils,.nils,.nils,.int .i64 0,.nils,.bool false]),
   (166,true,[.int .i64 0,.int .i64 0,.int .i64 0,.int .i64 0,.nils,.nils,.int .i64 0,.int .i64 0,.nils,.nils,.int .i64 0,.nils,.nils,.nils,.nils,.int .i64 0,.nils,.bool false,.int .i64 0,.int .i64 0,.int .i64 0,.nils,.nils,.int .i64 0,.int .i64 0,.nils,.nils,.int .i64 0,.nils,.nils,.nils,.nils,.int .i64 0,.nils,.bool false]),
   (176,false,[.nilp]),
   (177,true,[.nilp,.nils,.nils,.nils,.nils]),
   (178,true,[.nilp,.nils,.nils,.nils,.nils]),
   (186,false,[.nilp]),
   (187,true,[.nils,.int .i64 0]),
   (188,true,[.nils,.int .i64 0]),
   (206,true,[.int .i64 0,.int .i64 0,.int .i64 0,.int .i64 0,.int .i64 0,.int .i64 0]),
   (214,false,[.int .u32 0]),
   (215,false,[.int .u8 0]),
   (216,false,[.int .u8 0]),
   (218,false,[.nilp]),
   (219,false,[.int .i32 0]),
   (220,false,[.int .i32 0])]
  fld:=[(7,0,0,2),(7,1,1,3),(7,2,2,4),(7,3,3,6),(8,0,0,2),(8,1,1,3),(8,2,2,4),(8,3,3,6),(18,0,0,17),(19,0,0,17),(24,0,0,3),(24,1,1,22),(24,2,2,23),(25,0,0,3),(25,1,1,22),(25,2,2,23),(30,0,0,3),(30,1,1,25),(30,2,4,25),(30,3,7,27),(30,4,8,28),(30,5,9,3),(30,6,10,29),(31,0,0,3),(31,1,1,25),(31,2,4,25),(31,3,7,27),(31,4,8,28),(31,5,9,3),(31,6,10,29),(41,0,0,3),(41,1,1,5),(41,2,2,40),(41,3,3,40),(42,0,0,3),(42,1,1,5),(42,2,2,40),(42,3,3,40),(57,0,0,3),(57,1,1,3),(58,0,0,3),(58,1,1,3),(69,0,0,3),(69,1,1,3),(69,2,2,31),(70,0,0,3),(70,1,1,3),(70,2,2,31),(81,0,0,3),(81,1,1,3),(81,2,2,23),(81,3,3,31),(82,0,0,3),(82,1,1,3),(82,2,2,23),(82,3,3,31),(83,0,0,3),(83,1,1,31),(84,0,0,3),(84,1,1,31),(102,0,0,4),(102,1,1,4),(103,0,0,4),(103,1,1,4),(108,0,0,25),(108,1,3,64),(108,2,4,64),(109,0,0,25),(109,1,3,64),(109,2,4,64),(136,0,0,29),(136,1,1,23),(136,2,2,23),(137,0,0,29),(137,1,1,23),(137,2,2,23),(149,0,0,3),(149,1,1,82),(149,2,15,82),(150,0,0,3),(150,1,1,82),(150,2,15,82),(163,0,0,3),(163,1,1,3),(163,2,2,25),(163,3,5,31),(163,4,16,4),(164,0,0,3),(164,1,1,3),(164,2,2,25),(164,3,5,31),(164,4,16,4),(165,0,0,3),(165,1,1,164),(165,2,18,164),(166,0,0,3),(166,1,1,164),(166,2,18,164),(177,0,0,101),(177,1,1,29),(177,2,2,29),(177,3,3,23),(177,4,4,23),(178,0,0,101),(178,1,1,29),(178,2,2,29),(178,3,3,23),(178,4,4,23),(187,0,0,29),(187,1,1,3),(188,0,0,29),(188,1,1,3)]
  arr:=[(90,8,5),(206,6,3)]
  eqs:=[41,42,57,58] }
def cfg:Cfg U:=tb.cfg K
theorem ZsF:tb.var.all (ZmJ Try.prog)=true:=by kernel_rfl
theorem Zu7:tb.sl.all (slB Try.prog tb.el)=true:=by kernel_rfl
theorem ZsU:tb.fld.all (ZqI Try.prog)=true:=by kernel_rfl
theorem ZsZ:tb.arr.all (Zrf Try.prog)=true:=by kernel_rfl
theorem Zu9:∀ t,elB Try.prog K tb t=true:=by
 intro t
 cases t
 ·kernel_rfl
 ·kernel_rfl
 ·kernel_rfl
 ·kernel_rfl
 ·kernel_rfl
 ·kernel_rfl
 ·kernel_rfl
 ·kernel_rfl
 ·kernel_rfl
 ·kernel_rfl
 ·kernel_rfl
 ·kernel_rfl
 ·kernel_rfl
theorem Zk:CfgOk Try.prog cfg:=ZhN Zuf ZsF Zu7 ZsU ZsZ Zu9 (by kernel_rfl) (by kernel_rfl)
abbrev sU(T:Ty)(l:List (El T))(t:Tail):C U:= .slice (U:=U) T l t
noncomputable abbrev AW(K:Known U)(f:Func)(lv:Zh U)(p:List Nat):=awp cfg K (ZA cfg K) f.ntmps lv (cd f p)
noncomputable abbrev SW(K:Known U)(f:Func)(lv:Zh U)(p:List Nat):=Z6y cfg K (ZA cfg K) f.ntmps lv (cd f p)
abbrev EQ(f:Func):=J6 cfg f.ntmps f.results.toList
abbrev QT:=AExit→LSt U→Prop
abbrev NT:=LSt U→Prop
abbrev CT(k:FuncId)(s:Fs U):Prop:=Contract Try.prog cfg k s
abbrev xB:=@AExit.inBlock U
abbrev xT:=@AExit.then U
abbrev ci(x:Int):C U:= .int .i64 x
abbrev L2(e:List (Nat × V U))(m:List (Name × List (C U))):LSt U:=⟨e,m,[]⟩
def lvl(l:List (List Nat × List Nat)):Zh U:=fun i=> ((l.getD i ([],[])).1.map fun k=> (k,[]),(l.getD i ([],[])).2.map fun k=> (.loc k,[]))
abbrev zc0:List (C U):=[.int .u8 0,.int .u8 0,.int .u8 0,.int .u8 0,.int .u8 0,.int .u8 0,.int .u8 0,.int .u8 0]
abbrev zc1:List (C U):=[.int .i64 0,.int .i64 0,.nils,.nils,.int .i64 0,.nils,.nils,.nils,.nils,.int .i64 0,.nils]
abbrev zc2:List (C U):=[.int .i64 0,.int .i64 0,.nils,.int .i64 0,.int .i64 0,.nils,.nils,.int .i64 0,.nils,.nils,.nils,.nils,.int .i64 0,.nils]
end Go.AM.Ytpjenobkibfpcaa
namespace Go.AM.Ytpjenobkibfpcaa
open Go.AM Go.Proofs Go.Proofs.Ytpjenobkibfpcaa Go.ChangeShapes Go.WideShapes Go.RowKit
theorem own:ownKnob Try.prog.godebug=none:=by kernel_rfl
theorem ZnO:laidOutB Try.prog=true:=by kernel_rfl
theorem Zaq:TreeTypes cfg:=⟨rfl,rfl,⟨_,rfl⟩,⟨_,rfl⟩,⟨_,rfl,rfl⟩,⟨_,_,rfl,rfl⟩,⟨_,_,rfl,rfl,rfl⟩,⟨_,_,rfl,rfl,rfl⟩⟩
theorem Ziy:EditTypes cfg:=⟨⟨_,rfl,rfl⟩,⟨_,_,rfl,rfl⟩,⟨_,_,rfl,rfl⟩,⟨_,_,rfl,rfl⟩,⟨_,_,rfl,rfl⟩,⟨_,rfl,rfl⟩,⟨_,_,rfl,rfl⟩,rfl,⟨_,rfl,rfl⟩,⟨_,_,rfl,rfl⟩,⟨_,_,rfl,rfl⟩,⟨_,_,rfl,rfl,rfl⟩,rfl,⟨_,rfl,rfl⟩,⟨_,_,rfl,rfl⟩,rfl,rfl,⟨_,_,rfl,rfl,rfl⟩,⟨_,_,rfl,rfl,rfl⟩,⟨_,_,rfl,rfl⟩,⟨_,_,rfl,rfl,rfl⟩⟩
theorem Zo3{H:Type}{henc:TypeId × Value→H}:ZiY henc Try.prog cfg (aEl .tree) 25 inT:=Zhs Zk rfl ⟨_,_,rfl⟩ (fun _ n cs h=> Z8j Zk Zaq n cs h)
theorem Zo5{H:Type}{henc:TypeId × Value→H}:ZiY henc Try.prog cfg (aEl .edit) 31 inE:=Zhs Zk rfl ⟨_,_,rfl⟩ (fun _ n cs h=> ZmS Zk Zaq Ziy n cs h)
end Go.AM.Ytpjenobkibfpcaa
namespace Go.AM.Ytpjenobkibfpcaa
open Go.AM Go.Proofs Go.Proofs.Ytpjenobkibfpcaa Go.ChangeShapes Go.WideShapes Go.RowKit
def inS(s:PStep):Prop:=(IntKind.min .i64≤s.kind∧s.kind≤IntKind.max .i64)∧IntKind.min .i64≤s.at_∧s.at_≤IntKind.max .i64
theorem ZmR{H:Type}{henc:TypeId × Value→H}{w:World}{n:Nat}{cs:List Value}(h:Rdd henc Try.prog w n (cfg.elT .step) cs):∃ e:PStep,RelS cfg w.cell? cs (cfg.enc .step e)∧inS e:=by
 obtain ⟨m,rfl,hl,r0⟩:=Yj Zk (t:=cfg.elT .step) (i:=0) (off:=0) (ft:=3) (ag:=false) (zs:=[.int .i64 0]) rfl rfl h
 obtain ⟨m',e',_,r1⟩:=Yj Zk (t:=cfg.elT .step) (i:=1) (off:=1) (ft:=3) (ag:=false) (zs:=[.int .i64 0]) rfl rfl h
 cases e'
 have hl2:cs.length=2:=by rw [hl,YV Zk (t:=cfg.elT .step) (ag:=true) (zs:=[.int .i64 0,.int .i64 0]) rfl];try rfl
 obtain ⟨a,a1,a2⟩:=JP Zk (k:= .i64) (n0:=0) rfl r0
 obtain ⟨b,b1,b2⟩:=JP Zk (k:= .i64) (n0:=0) rfl r1
 exact ⟨⟨a,b⟩,a1.glue rfl (by simp;omega) (b1.glue rfl (by simp;omega) (RelS.done (n:=2) hl2)),a2,b2⟩
theorem ZlY{H:Type}{henc:TypeId × Value→H}:ZiY henc Try.prog cfg (aSl .step) 26 (fun l=> l.length*cfg.bytes .step≤reachBytes∧∀ e∈l,inS e):=
 Zo4 Zk rfl (fun _ n cs h=> ZmR h)
theorem ZnR{l:List PStep}(h:l.length*cfg.bytes .step≤reachBytes∧∀ e∈l,inS e):∀ s∈l,isI s.kind∧isI s.at_:=fun s hs=> h.2 s hs
end Go.AM.Ytpjenobkibfpcaa
namespace Go.AM.Ytpjenobkibfpcaa
open Go.AM Go.Proofs
noncomputable section
def Zfo:ArgL (Tree × Int × Int × Unit):=(.cons (aEl .tree) (.cons (Yk .i64) (.cons (Yk .i64) .nil)))
def Z5s(a:Tree × Int × Int × Unit):Prop:=Z0Y a.1∧0≤a.2.1∧a.2.1≤4611686018427387904∧-1≤a.2.2.1∧a.2.2.1≤4611686018427387904
def Zia(a:Tree × Int × Int × Unit):Nat:=Zg a.1
def ZcR(a:Tree × Int × Int × Unit):V U:= .c (ci (Zw a.1 a.2.1 a.2.2.1))
def Z30:Fs U:=fs Zfo (fun a=> [Z5s a]) ZcR
def ZlR:ArgL (Tree × Unit):=(.cons (aEl .tree) .nil)
def Zgi(a:Tree × Unit):Prop:=Z0Y a.1
def ZoT(a:Tree × Unit):V U:= .c (.bool (decide (0≤Zw a.1 80 3000)))
def Z8R:Fs U:=fs ZlR (fun a=> [Zgi a]) ZoT
def ZlG:ArgL (List Int × List Int × Unit):=(.cons (aSl .u64) (.cons (aSl .u64) .nil))
def ZaK(a:List Int × List Int × Unit):Prop:=a.1.length≤1000000000000
def ZcS(a:List Int × List Int × Unit):V U:= .c (.bool (decide (a.1=a.2.1)))
def Z8F:Fs U:=fs ZlG (fun a=> [ZaK a]) ZcS
def ZlD:ArgL (List Int × Unit):=(.cons (aSl .u64) .nil)
def ZcZ(a:List Int × Unit):Prop:=a.1.length≤1000000000000
def ZjE(a:List Int × Unit):V U:= .c (sU .u64 (trim a.1) .unk)
def Z8D:Fs U:=fs ZlD (fun a=> [ZcZ a]) ZjE
def Zho:ArgL (List Int × Unit):=(.cons (aSl .u64) .nil)
def Z9p(a:List Int × Unit):Prop:=a.1.length≤1000000000000
def ZjY(a:List Int × Unit):V U:= .c (sU .u64 a.1 .unk)
def Z5l:Fs U:=fs Zho (fun a=> [Z9p a]) ZjY
def Zhi:ArgL (List Int × List Int × Unit):=(.cons (aSl .u64) (.cons (aSl .u64) .nil))
def Z9o(a:List Int × List Int × Unit):Prop:=a.1.length≤1000000000000
def Z9b(a:List Int × List Int × Unit):V U:= .c (.bool (decide (a.1=a.2.1)))
def Z5i:Fs U:=fs Zhi (fun a=> [Z9o a]) Z9b
def Zhh:ArgL (Tree × Int × Unit):=(.cons (aEl .tree) (.cons (Yk .i64) .nil))
def Z6E(a:Tree × Int × Unit):Prop:=True
def ZbB(a:Tree × Int × Unit):V U:= .c (.int .u64 (YI a.1 a.2.1))
def Z0r:Fs U:=fs Zhh (fun a=> [Z6E a]) ZbB
def ZlC:ArgL (Tree × Int × Unit):=(.cons (aEl .tree) (.cons (Yk .i64) .nil))
def Z7v(a:Tree × Int × Unit):Prop:=True
def Zg3(a:Tree × Int × Unit):V U:= .agg (enc .tree (Yu a.1 a.2.1))
def Z0l:Fs U:=fs ZlC (fun a=> [Z7v a]) Zg3
def Zfu:ArgL (Tree × Unit):=(.cons (aEl .tree) .nil)
def Z7w(a:Tree × Unit):Prop:=Zg a.1≤1000000000000
def Zid(a:Tree × Unit):Nat:=Zg a.1
def ZaF(a:Tree × Unit):V U:= .agg (enc .tree (Z5 a.1))
def Z8Q:Fs U:=fs Zfu (fun a=> [Z7w a]) ZaF
def Zfr:ArgL (Tree × Unit):=(.cons (aEl .tree) .nil)
def JJ(a:Tree × Unit):Prop:=Zg a.1≤1000000000000
def Zib(a:Tree × Unit):Nat:=Zg a.1
def ZaE(a:Tree × Unit):V U:= .agg (enc .tree (Z5 a.1))
def J9:Fs U:=fs Zfr (fun a=> [JJ a]) ZaE
def Zfw:ArgL (Tree × Tree × Unit):=(.cons (aEl .tree) (.cons (aEl .tree) .nil))
def Z9h(a:Tree × Tree × Unit):Prop:=Zg a.1≤1000000000000
def Zie(a:Tree × Tree × Unit):Nat:=Zg a.1
def ZaG(a:Tree × Tree × Unit):V U:= .c (.bool (Yr a.1 a.2.1))
def Z8S:Fs U:=fs Zfw (fun a=> [Z9h a]) ZaG
def Zcn:ArgL (Tree × Tree × Unit):=(.cons (aEl .tree) (.cons (aEl .tree) .nil))
def Z18(a:Tree × Tree × Unit):Prop:=Zg a.1≤1000000000000∧Zg a.2.1≤1000000000000
def ZaS(a:Tree × Tree × Unit):Nat:=Zg a.1+Zg a.2.1
def Z4N(a:Tree × Tree × Unit):V U:= .c (.bool (Yr (Z5 a.1) (Z5 a.2.1)))
def Z0t:Fs U:=fs Zcn (fun a=> [Z18 a]) Z4N
def ZeZ(N:Nat):List (FuncId × Fs U):=(78,fs Zfo (fun a=> [Z5s a,Zia a < N]) ZcR) ::[]
def Zny:Zh U:=lvl [([1,2,3],[3]),([1,2,3],[3]),([1,2,3,19],[3]),([6],[]),([1,2,3,7],[3]),([1,2,3,7,28],[3]),([1,2,3,7],[3]),([1,2,3,7],[3]),([6],[])]
def Z5V(t:Tree)(d l x2 x7:Int):LSt U:=(L2 [(1,.c (ci d)),(2,.c (ci x2)),(3,.ptr (.loc 3) 0),(7,.c (ci x7))] [(.loc 3,(enc .tree t))])
abbrev A78(N:Nat)(p:List Nat):=AW (Z0 (ZeZ N)) Try.f78 Zny p
abbrev S78(N:Nat)(p:List Nat):=SW (Z0 (ZeZ N)) Try.f78 Zny p
theorem ZtB(N:Nat)(t:Tree)(d l:Int)(Q:QT)(h:let z0:=bif (d==0) then true else (decide (((((l - 1):Int) - (t.words.length:Int)):Int) < 0));((InR (l - 1))∧(InR (((l - 1):Int) - (t.words.length:Int)))∧((Tr ((!(d==0))=true))∧((d==0)=false→(!(d==0))=true)∧((z0=true→(Q .ret (L2 [(6,.c (ci (-1)))] [])))∧(z0=false→(Zj (A78 N [1,1,1,0,1,0,0]) (Z5V t d l (((l - 1):Int) - (t.words.length:Int)) 0) (xB 0 (S78 N [1,1,1,1] Q)))))))):
  A78 N [] (L2 [(0,.agg (enc .tree t)),(1,.c (ci d)),(2,.c (ci l))] []) Q:=
 Eq.mpr (by kernel_rfl) h
theorem Zmj(N:Nat)(t:Tree)(d l x2 x7:Int)(N0:NT)(Q:QT)(h:let z2:=t.kids.getD x7.toNat Tree.nil;let z1:=decide (x7 < (t.kids.length:Int));let z3:=bif z1 then (decide ((0:Int)≤x2)) else false;let z0:=Tree.mk (Tree.kind z2) (Tree.words z2) (Tree.kids z2);(Tr (z1=true))∧(Tr (z1=true))∧((z3=true→((0:Int)≤x7∧x7 < (t.kids.length:Int))∧(InR (d - 1))∧(Z5s (z0,(d - 1),x2,()))∧(Zia (z0,(d - 1),x2,()) < N)∧((InR (x7+1))∧(N0 (Z5V t d l (Zw z0 (d - 1) x2) (x7+1)))))∧(z3=false→(Q .ret (L2 [(6,.c (ci x2))] []))))):
  A78 N [1,1,1,0,1,0,0] (Z5V t d l x2 x7) (xT N0 (xB 0 (S78 N [1,1,1,1] Q))):=
 Eq.mpr (by kernel_rfl) h
def Zry(N:Nat)(t:Tree)(d l:Int):Prop:=AW (Z0 (ZeZ N)) Try.f78 Zny [] (Zl (Zfo.can (t,d,l,())) []) (EQ Try.f78 (ZcR (t,d,l,())) [])
theorem ZpT(hb:∀ (N:Nat) (t:Tree) (d:Int) (l:Int) (_:Unit),Z5s (t,d,l,())→Zia (t,d,l,()) < N+1→Zry N t d l):CT 78 Z30:=
 ZT (μ:=Zia) (l:=[]) Zk rfl trivial Zny Try.func78 rfl rfl 3 (fun _=> rfl) (by decide) (fun N ⟨t,d,l,_⟩=> hb N t d l ())
def Zl7:List (FuncId × Fs U):=[(78,Z30)]
def Zqw:Zh U:=lvl [([1],[1]),([2],[])]
abbrev A36(p:List Nat):=AW (Z0 Zl7) Try.f36 Zqw p
theorem ZtX(t:Tree)(Q:QT)(h:let z0:=Tree.mk t.kind t.words t.kids;((Z5s (z0,80,3000,()))∧(Q .ret (L2 [(2,.c (.bool (decide ((0:Int)≤(Zw z0 80 3000)))))] [])))):
  A36 [] (L2 [(0,.agg (enc .tree t))] []) Q:=
 Eq.mpr (by kernel_rfl) h
def ZrU(t:Tree):Prop:=AW (Z0 Zl7) Try.f36 Zqw [] (Zl (ZlR.can (t,())) []) (EQ Try.f36 (ZoT (t,())) [])
theorem Zqc(c78:CT 78 Z30)(hb:∀ (t:Tree) (_:Unit),Zgi (t,())→ZrU t):CT 36 Z8R:=
 Z4 (l:=[(78,Z30)]) Zk rfl (⟨c78,trivial⟩) Zqw Try.func36 rfl rfl 1 (fun _=> rfl) (by decide) (fun ⟨t,_⟩=> hb t ())
def Zf0:List (FuncId × Fs U):=[]
def Znz:Zh U:=lvl [([0,1],[]),([0,1,10],[]),([4],[]),([0,1,5],[]),([0,1,5,14],[]),([0,1,5],[]),([0,1,5,25],[]),([4],[]),([4],[])]
def Z5W(a b:List Int)(x5:Int):LSt U:=(L2 [(0,.c (sU .u64 a .unk)),(1,.c (sU .u64 b .unk)),(5,.c (ci x5))] [])
abbrev A75(p:List Nat):=AW (Z0 Zf0) Try.f75 Znz p
abbrev S75(p:List Nat):=SW (Z0 Zf0) Try.f75 Znz p
theorem ZtC(a b:List Int)(Q:QT)(h:let z0:=((a.length:Int):Int) !=(b.length:Int);((z0=true→(Q .ret (L2 [(4,.c (.bool false))] [])))∧(z0=false→(Zj (A75 [1,1,0,1,0,0]) (Z5W a b 0) (xB 0 (S75 [1,1,1] Q)))))):
  A75 [] (L2 [(0,.c (sU .u64 a .unk)),(1,.c (sU .u64 b .unk))] []) Q:=
 Eq.mpr (by kernel_rfl) h
theorem Zmk(a b:List Int)(x5:Int)(N0:NT)(Q:QT)(h:let z1:=decide (x5 < (a.length:Int));let z0:=((a.getD x5.toNat (0:Int)):Int) !=(b.getD x5.toNat (0:Int));((z1=true→((0:Int)≤x5∧x5 < (a.length:Int))∧((0:Int)≤x5∧x5 < (b.length:Int))∧((z0=true→(Q .ret (L2 [(4,.c (.bool false))] [])))∧(z0=false→(InR (x5+1))∧(N0 (Z5W a b (x5+1))))))∧(z1=false→(Q .ret (L2 [(4,.c (.bool true))] []))))):
  A75 [1,1,0,1,0,0] (Z5W a b x5) (xT N0 (xB 0 (S75 [1,1,1] Q))):=
 Eq.mpr (by kernel_rfl) h
def Zrz(a b:List Int):Prop:=AW (Z0 Zf0) Try.f75 Znz [] (Zl (ZlG.can (a,b,())) []) (EQ Try.f75 (ZcS (a,b,())) [])
theorem ZpU(hb:∀ (a:List Int) (b:List Int) (_:Unit),ZaK (a,b,())→Zrz a b):CT 75 Z8F:=
 Z4 (l:=[]) Zk rfl trivial Znz Try.func75 rfl rfl 2 (fun _=> rfl) (by decide) (fun ⟨a,b,_⟩=> hb a b ())
def ZeX:List (FuncId × Fs U):=[]
def Znw:Zh U:=lvl [([0],[]),([0,3],[]),([0,3,16],[]),([0,3],[]),([0,3,4],[]),([2],[])]
def Z5U(l:List Int)(x3:Int):LSt U:=(L2 [(0,.c (sU .u64 l .unk)),(3,.c (ci x3))] [])
abbrev A84(p:List Nat):=AW (Z0 ZeX) Try.f84 Znw p
abbrev S84(p:List Nat):=SW (Z0 ZeX) Try.f84 Znw p
theorem Zty(l:List Int)(Q:QT)(h:(Zj (A84 [1,1,0,0,0]) (Z5U l (l.length:Int)) (xB 0 (S84 [1,1,1] Q)))):
  A84 [] (L2 [(0,.c (sU .u64 l .unk))] []) Q:=
 Eq.mpr (by kernel_rfl) h
theorem Zmh(l:List Int)(x3:Int)(N0:NT)(Q:QT)(h:let z0:=decide ((0:Int) < x3);let z1:=bif z0 then (((List.getD l (Int.toNat (x3 - 1)) (0:Int)):Int)==0) else false;(Tr (z0=true))∧(z0=true→InR (x3 - 1))∧(Tr (z0=true))∧(Tr (z0=true))∧(z0=true→(0:Int)≤(x3 - 1)∧(x3 - 1) < (l.length:Int))∧(Tr (z0=true))∧(Tr (z0=true))∧(Tr (z0=true))∧((z1=true→(InR (x3 - 1))∧(N0 (Z5U l (x3 - 1))))∧(z1=false→(((0:Int)≤x3∧x3≤(l.length:Int))∧((([]:List Int).length+(List.take x3.toNat l).length)*8≤140737488355328)∧(Q .ret (L2 [(2,.c (sU .u64 (([]:List Int)++(List.take x3.toNat l)) (.own (.e 2 0))))] [])))))):
  A84 [1,1,0,0,0] (Z5U l x3) (xT N0 (xB 0 (S84 [1,1,1] Q))):=
 Eq.mpr (by kernel_rfl) h
def Zrv(l:List Int):Prop:=AW (Z0 ZeX) Try.f84 Znw [] (Zl (ZlD.can (l,())) []) (EQ Try.f84 (ZjE (l,())) [])
theorem ZpQ(hb:∀ (l:List Int) (_:Unit),ZcZ (l,())→Zrv l):CT 84 Z8D:=
 Z4 (l:=[]) Zk rfl trivial Znw Try.func84 rfl rfl 1 (fun _=> rfl) (by decide) (fun ⟨l,_⟩=> hb l ())
def ZgU:List (FuncId × Fs U):=[]
def ZkP:Zh U:=lvl [([0],[]),([0,4],[]),([2],[]),([2],[])]
abbrev Zui(p:List Nat):=AW (Z0 ZgU) Try.f109 ZkP p
theorem Zsy(l:List Int)(Q:QT)(h:(((l=[])→(Q .ret (L2 [(2,.c (.nils))] [])))∧(True→((([]:List Int).length+l.length)*8≤140737488355328)∧(Q .ret (L2 [(2,.c (sU .u64 (([]:List Int)++l) (.own (.e 2 0))))] []))))):
  Zui [] (L2 [(0,.c (sU .u64 l .unk))] []) Q:=
 Eq.mpr (by kernel_rfl) h
def ZoA(l:List Int):Prop:=AW (Z0 ZgU) Try.f109 ZkP [] (Zl (Zho.can (l,())) []) (EQ Try.f109 (ZjY (l,())) [])
theorem Znp(hb:∀ (l:List Int) (_:Unit),Z9p (l,())→ZoA l):CT 109 Z5l:=
 Z4 (l:=[]) Zk rfl trivial ZkP Try.func109 rfl rfl 1 (fun _=> rfl) (by decide) (fun ⟨l,_⟩=> hb l ())
def ZbV:List (FuncId × Fs U):=[]
def Zgx:Zh U:=lvl [([0,1],[]),([0,1,10],[]),([4],[]),([0,1,12,13],[]),([0,1,12,13,14],[]),([0,1,5,12,13],[]),([0,1,12,13,24],[]),([4],[]),([0,1,12,13],[]),([4],[])]
def Z43(a b:List Int)(x13:Int):LSt U:=(L2 [(0,.c (sU .u64 a .unk)),(1,.c (sU .u64 b .unk)),(12,.c (ci (a.length:Int))),(13,.c (ci x13))] [])
abbrev Zs4(p:List Nat):=AW (Z0 ZbV) Try.f148 Zgx p
abbrev Zti(p:List Nat):=SW (Z0 ZbV) Try.f148 Zgx p
theorem Zsm(a b:List Int)(Q:QT)(h:let z0:=((a.length:Int):Int) !=(b.length:Int);((z0=true→(Q .ret (L2 [(4,.c (.bool false))] [])))∧(z0=false→(Zj (Zs4 [1,1,0,1,0,0]) (Z43 a b 0) (xB 0 (Zti [1,1,1] Q)))))):
  Zs4 [] (L2 [(0,.c (sU .u64 a .unk)),(1,.c (sU .u64 b .unk))] []) Q:=
 Eq.mpr (by kernel_rfl) h
theorem Zja(a b:List Int)(x13:Int)(N0:NT)(Q:QT)(h:let z1:=decide (x13 < (a.length:Int));let z0:=((a.getD x13.toNat (0:Int)):Int) !=(b.getD x13.toNat (0:Int));((z1=true→(((0:Int)≤x13∧x13 < (a.length:Int))∧((0:Int)≤x13∧x13 < (b.length:Int))∧((z0=true→(Q .ret (L2 [(4,.c (.bool false))] [])))∧(z0=false→(InR (x13+1))∧(N0 (Z43 a b (x13+1)))))))∧(z1=false→(Q .ret (L2 [(4,.c (.bool true))] []))))):
  Zs4 [1,1,0,1,0,0] (Z43 a b x13) (xT N0 (xB 0 (Zti [1,1,1] Q))):=
 Eq.mpr (by kernel_rfl) h
def Zoo(a b:List Int):Prop:=AW (Z0 ZbV) Try.f148 Zgx [] (Zl (Zhi.can (a,b,())) []) (EQ Try.f148 (Z9b (a,b,())) [])
theorem Znf(hb:∀ (a:List Int) (b:List Int) (_:Unit),Z9o (a,b,())→Zoo a b):CT 148 Z5i:=
 Z4 (l:=[]) Zk rfl trivial Zgx Try.func148 rfl rfl 2 (fun _=> rfl) (by decide) (fun ⟨a,b,_⟩=> hb a b ())
def ZgP:List (FuncId × Fs U):=[]
def ZkK:Zh U:=lvl [([1,2],[2]),([1,2,13],[2]),([4],[]),([4],[])]
abbrev Zuh(p:List Nat):=AW (Z0 ZgP) Try.f149 ZkK p
theorem Zsl(t:Tree)(i:Int)(Q:QT)(h:let z1:= !(decide (i < 0));let z0:=bif (decide (i < 0)) then true else (decide (((t.words.length:Int):Int)≤i));((Tr (z1=true))∧(Tr (z1=true))∧(Tr (z1=true))∧(Tr (z1=true))∧((decide (i < 0))=false→z1=true)∧((z0=true→(Q .ret (L2 [(4,.c (.int .u64 0))] [])))∧(z0=false→((0:Int)≤i∧i < (t.words.length:Int))∧(Q .ret (L2 [(4,.c (.int .u64 (t.words.getD i.toNat (0:Int))))] [])))))):
  Zuh [] (L2 [(0,.agg (enc .tree t)),(1,.c (ci i))] []) Q:=
 Eq.mpr (by kernel_rfl) h
def Zon(t:Tree)(i:Int):Prop:=AW (Z0 ZgP) Try.f149 ZkK [] (Zl (Zhh.can (t,i,())) []) (EQ Try.f149 (ZbB (t,i,())) [])
theorem Zne(hb:∀ (t:Tree) (i:Int) (_:Unit),Z6E (t,i,())→Zon t i):CT 149 Z0r:=
 Z4 (l:=[]) Zk rfl trivial ZkK Try.func149 rfl rfl 2 (fun _=> rfl) (by decide) (fun ⟨t,i,_⟩=> hb t i ())
def ZkZ:List (FuncId × Fs U):=[]
def Zqm:Zh U:=lvl [([1,2,4],[2,4]),([1,2,4,13],[2,4]),([4],[4]),([4],[4])]
abbrev A91(p:List Nat):=AW (Z0 ZkZ) Try.f91 Zqm p
theorem Ztv(t:Tree)(i:Int)(Q:QT)(h:let z1:= !(decide (i < 0));let z0:=bif (decide (i < 0)) then true else (decide (((t.kids.length:Int):Int)≤i));((Tr (z1=true))∧(Tr (z1=true))∧(Tr (z1=true))∧(Tr (z1=true))∧((decide (i < 0))=false→z1=true)∧((z0=true→(Q .ret (L2 [(4,.ptr (.loc 4) 0)] [(.loc 4,[ci 0,.nils,.nils])])))∧(z0=false→((0:Int)≤i∧i < (t.kids.length:Int))∧(Q .ret (L2 [(4,.ptr (.loc 4) 0)] [(.loc 4,(enc .tree (t.kids.getD i.toNat Tree.nil)))])))))):
  A91 [] (L2 [(0,.agg (enc .tree t)),(1,.c (ci i))] []) Q:=
 Eq.mpr (by kernel_rfl) h
def Zrs(t:Tree)(i:Int):Prop:=AW (Z0 ZkZ) Try.f91 Zqm [] (Zl (ZlC.can (t,i,())) []) (EQ Try.f91 (Zg3 (t,i,())) [])
theorem ZpO(hb:∀ (t:Tree) (i:Int) (_:Unit),Z7v (t,i,())→Zrs t i):CT 91 Z0l:=
 Z4 (l:=[]) Zk rfl trivial Zqm Try.func91 rfl rfl 2 (fun _=> rfl) (by decide) (fun ⟨t,i,_⟩=> hb t i ())
def Zfa(N:Nat):List (FuncId × Fs U):=(45,fs Zfu (fun a=> [Z7w a,Zid a < N]) ZaF) ::[(84,Z8D)]
def ZnJ:Zh U:=fun i=> match i with
 | 0=> ([(1,[]),(2,[])],[(.loc 1,[]),(.loc 2,[])])
 | 1=> ([(1,[]),(2,[]),(10,[])],[(.loc 1,[]),(.loc 2,[])])
 | 2=> ([(2,[])],[(.loc 2,[])])
 | 3=> ([(1,[]),(2,[]),(3,[])],[(.loc 1,[]),(.loc 2,[])])
 | 4=> ([(1,[]),(2,[]),(3,[]),(4,[])],[(.loc 1,[]),(.loc 2,[])])
 | 5=> ([(1,[]),(2,[]),(3,[.own .tree]),(4,[]),(5,[])],[(.loc 1,[]),(.loc 2,[])])
 | 6=> ([(1,[]),(2,[]),(3,[]),(4,[]),(5,[]),(16,[])],[(.loc 1,[]),(.loc 2,[])])
 | 7=> ([(1,[]),(2,[]),(3,[.own .tree]),(4,[]),(5,[])],[(.loc 1,[]),(.loc 2,[])])
 | 8=> ([(1,[]),(2,[]),(3,[]),(4,[]),(5,[]),(6,[])],[(.loc 1,[]),(.loc 2,[]),(.loc 6,[])])
 | 9=> ([(1,[]),(2,[]),(3,[]),(4,[]),(5,[]),(6,[])],[(.loc 1,[]),(.loc 2,[]),(.loc 6,[])])
 | 10=> ([(1,[]),(2,[]),(3,[]),(4,[]),(5,[]),(31,[])],[(.loc 1,[]),(.loc 2,[])])
 | 11=> ([(1,[]),(2,[]),(3,[]),(4,[]),(5,[])],[(.loc 1,[]),(.loc 2,[])])
 | 12=> ([(1,[]),(2,[]),(3,[]),(4,[]),(36,[])],[(.loc 1,[]),(.loc 2,[])])
 | 13=> ([(2,[])],[(.loc 2,[])])
 | 14=> ([(1,[]),(2,[]),(3,[]),(7,[])],[(.loc 1,[]),(.loc 2,[])])
 | 15=> ([(1,[]),(2,[]),(3,[]),(7,[])],[(.loc 1,[]),(.loc 2,[])])
 | 16=> ([(2,[])],[(.loc 2,[])])
 | _=> ([],[])
def Z3w(t:Tree)(x4 x5:Int)(x3:List Tree):LSt U:=(L2 [(1,.ptr (.loc 1) 0),(2,.ptr (.loc 2) 0),(3,.c (sU .tree x3 (.own (.e 3 0)))),(4,.c (ci x4)),(5,.c (ci x5))] [(.loc 1,(enc .tree t)),(.loc 2,[ci 0,.nils,.nils])])
abbrev A45(N:Nat)(p:List Nat):=AW (Z0 (Zfa N)) Try.f45 ZnJ p
abbrev S45(N:Nat)(p:List Nat):=SW (Z0 (Zfa N)) Try.f45 ZnJ p
theorem ZtV(N:Nat)(t:Tree)(Q:QT)(h:(((t.kind==0)=true→(Q .ret (L2 [(2,.ptr (.loc 2) 0)] [(.loc 2,[ci 0,.nils,.nils])])))∧((t.kind==0)=false→(Zj (A45 N [1,1,1,1,0,1,0,0]) (Z3w t 0 0 []) (xB 0 (S45 N [1,1,1,1,1] Q)))))):
  A45 N [] (L2 [(0,.agg (enc .tree t))] []) Q:=
 Eq.mpr (by kernel_rfl) h
theorem ZmC(N:Nat)(t:Tree)(x4 x5:Int)(x3:List Tree)(N0:NT)(Q:QT)(h:∀ y_1,y_1=(t.kids.getD x5.toNat Tree.nil)→∀ y_2,y_2=y_1→∀ y_3,y_3=(Z5 y_2)→let z1:=decide (x5 < (t.kids.length:Int));let z0:=((Tree.kind (Z5 y_2)):Int) !=0;((z1=true→((0:Int)≤x5∧x5 < (t.kids.length:Int))∧(Z7w (y_2,()))∧(Zid (y_2,()) < N)∧(((x3.length+([y_3]).length)*56≤140737488355328)∧((z0=true→(InR (x5+1))∧((InR (x5+1))∧(N0 (Z3w t (x5+1) (x5+1) (x3++([y_3]))))))∧(z0=false→(InR (x5+1))∧(N0 (Z3w t x4 (x5+1) (x3++([y_3]))))))))∧(z1=false→(((t.kind==1)=true→(ZcZ (t.words,()))∧((0:Int)≤x4∧x4≤(x3.length:Int))∧(Q .ret (L2 [(2,.ptr (.loc 2) 0)] [(.loc 2,[ci 1,sU .u64 (trim t.words) .unk,sU .tree (List.take x4.toNat x3) .unk])])))∧((t.kind==1)=false→(((([]:List Int).length+t.words.length)*8≤140737488355328)∧(Q .ret (L2 [(2,.ptr (.loc 2) 0)] [(.loc 2,[ci t.kind,sU .u64 (([]:List Int)++t.words) (.own (.l 2 1)),sU .tree x3 (.own (.l 2 2))])])))))))):
  A45 N [1,1,1,1,0,1,0,0] (Z3w t x4 x5 x3) (xT N0 (xB 0 (S45 N [1,1,1,1,1] Q))):=
 Eq.mpr (by kernel_rfl) (h _ rfl _ (Zb _) _ (Zb _))
def ZrS(N:Nat)(t:Tree):Prop:=AW (Z0 (Zfa N)) Try.f45 ZnJ [] (Zl (Zfu.can (t,())) []) (EQ Try.f45 (ZaF (t,())) [])
theorem Zqa(c84:CT 84 Z8D)(hb:∀ (N:Nat) (t:Tree) (_:Unit),Z7w (t,())→Zid (t,()) < N+1→ZrS N t):CT 45 Z8Q:=
 ZT (μ:=Zid) (l:=[(84,Z8D)]) Zk rfl (⟨c84,trivial⟩) ZnJ Try.func45 rfl rfl 1 (fun _=> rfl) (by decide) (fun N ⟨t,_⟩=> hb N t ())
def Zf3(N:Nat):List (FuncId × Fs U):=(71,fs Zfr (fun a=> [JJ a,Zib a < N]) ZaE) ::[(109,Z5l)]
def ZnC:Zh U:=fun i=> match i with
 | 0=> ([(1,[]),(2,[])],[(.loc 1,[]),(.loc 2,[])])
 | 1=> ([(1,[]),(2,[]),(8,[])],[(.loc 1,[]),(.loc 2,[])])
 | 2=> ([(2,[])],[(.loc 2,[])])
 | 3=> ([(1,[]),(2,[]),(3,[])],[(.loc 1,[]),(.loc 2,[]),(.loc 3,[])])
 | 4=> ([(1,[]),(2,[]),(3,[]),(17,[]),(18,[]),(19,[])],[(.loc 1,[]),(.loc 2,[]),(.loc 3,[.any,.any,.own .tree])])
 | 5=> ([(1,[]),(2,[]),(3,[]),(17,[]),(18,[]),(19,[]),(20,[])],[(.loc 1,[]),(.loc 2,[]),(.loc 3,[])])
 | 6=> ([(1,[]),(2,[]),(3,[]),(5,[]),(17,[]),(18,[]),(19,[])],[(.loc 1,[]),(.loc 2,[]),(.loc 3,[]),(.loc 5,[])])
 | 7=> ([(1,[]),(2,[]),(3,[]),(17,[]),(18,[]),(19,[])],[(.loc 1,[]),(.loc 2,[]),(.loc 3,[])])
 | 8=> ([(1,[]),(2,[]),(3,[]),(17,[]),(18,[]),(19,[])],[(.loc 1,[]),(.loc 2,[]),(.loc 3,[.any,.any,.own .tree])])
 | 9=> ([(2,[]),(3,[]),(33,[])],[(.loc 2,[]),(.loc 3,[.any,.any,.unk .tree])])
 | 10=> ([(2,[]),(3,[]),(33,[]),(48,[])],[(.loc 2,[]),(.loc 3,[.any,.any,.unk .tree])])
 | 11=> ([(2,[]),(3,[]),(33,[])],[(.loc 2,[]),(.loc 3,[.any,.any,.unk .tree])])
 | 12=> ([(2,[]),(3,[]),(33,[]),(48,[]),(72,[])],[(.loc 2,[]),(.loc 3,[])])
 | 13=> ([(2,[]),(3,[]),(33,[]),(48,[])],[(.loc 2,[]),(.loc 3,[.any,.any,.unk .tree])])
 | 14=> ([(2,[])],[(.loc 2,[])])
 | _=> ([],[])
def Z60(t:Tree)(x19:Int)(ml3_2:List Tree):LSt U:=(L2 [(1,.ptr (.loc 1) 0),(2,.ptr (.loc 2) 0),(3,.ptr (.loc 3) 0),(17,.c (sU .tree t.kids .unk)),(18,.c (ci (t.kids.length:Int))),(19,.c (ci x19))] [(.loc 1,(enc .tree t)),(.loc 2,[ci 0,.nils,.nils]),(.loc 3,[ci t.kind,sU .u64 t.words .unk,sU .tree ml3_2 (.own (.l 3 2))])])
def Z5Z(t:Tree)(ml3_2:List Tree)(ml3_1_a:List Int):LSt U:=(L2 [(2,.ptr (.loc 2) 0),(3,.ptr (.loc 3) 0),(33,.c (.bool ((t.kind:Int)==1)))] [(.loc 2,[ci 0,.nils,.nils]),(.loc 3,[ci t.kind,sU .u64 ml3_1_a .unk,sU .tree ml3_2 .unk])])
def Z5Y(t:Tree)(ml3_1_a:List Int)(ml3_2_b:List Tree):LSt U:=(L2 [(2,.ptr (.loc 2) 0),(3,.ptr (.loc 3) 0),(33,.c (.bool ((t.kind:Int)==1))),(48,.c (.bool (bif (decide ((0:Int) < (ml3_1_a.length:Int))) then (((List.getD ml3_1_a (Int.toNat (((ml3_1_a.length:Int):Int) - 1)) (0:Int)):Int)==0) else false)))] [(.loc 2,[ci 0,.nils,.nils]),(.loc 3,[ci t.kind,sU .u64 ml3_1_a .unk,sU .tree ml3_2_b .unk])])
abbrev A71(N:Nat)(p:List Nat):=AW (Z0 (Zf3 N)) Try.f71 ZnC p
abbrev S71(N:Nat)(p:List Nat):=SW (Z0 (Zf3 N)) Try.f71 ZnC p
theorem ZtG(N:Nat)(t:Tree)(Q:QT)(h:(((t.kind==0)=true→(Q .ret (L2 [(2,.ptr (.loc 2) 0)] [(.loc 2,[ci 0,.nils,.nils])])))∧((t.kind==0)=false→(Z9p (t.words,()))∧(Zj (A71 N [1,1,1,0,1,0,0]) (Z60 t 0 []) (xB 0 (S71 N [1,1,1,1] Q)))))):
  A71 N [] (L2 [(0,.agg (enc .tree t))] []) Q:=
 Eq.mpr (by kernel_rfl) h
theorem Zmp(N:Nat)(t:Tree)(x19:Int)(ml3_2:List Tree)(N0:NT)(Q:QT)(h:∀ y_1,y_1=(t.kids.getD x19.toNat Tree.nil)→∀ y_2,y_2=y_1→∀ y_3,y_3=(Z5 y_2)→let z0:=decide (x19 < (t.kids.length:Int));((z0=true→((0:Int)≤x19∧x19 < (t.kids.length:Int))∧((JJ (y_2,()))∧(Zib (y_2,()) < N)∧((ml3_2.length+([y_3]).length)*56≤140737488355328)∧((InR (x19+1))∧(N0 (Z60 t (x19+1) (ml3_2++([y_3])))))))∧(z0=false→(((t.kind==1)=true→Zj (A71 N [1,1,1,1,0,1,0,0,0,0]) (Z5Z t ml3_2 t.words) (xB 2 (S71 N [1,1,1,1,0,1,0,1] (S71 N [1,1,1,1,1] Q))))∧((t.kind==1)=false→(Q .ret (L2 [(2,.ptr (.loc 2) 0)] [(.loc 2,[ci t.kind,sU .u64 t.words .unk,sU .tree ml3_2 .unk])]))))))):
  A71 N [1,1,1,0,1,0,0] (Z60 t x19 ml3_2) (xT N0 (xB 0 (S71 N [1,1,1,1] Q))):=
 Eq.mpr (by kernel_rfl) (h _ rfl _ (Zb _) _ (Zb _))
theorem Zmo(N:Nat)(t:Tree)(ml3_2:List Tree)(ml3_1_a:List Int)(N1:NT)(Q:QT)(h:let z0:=decide ((0:Int) < (ml3_1_a.length:Int));let z1:=bif z0 then (((List.getD ml3_1_a (Int.toNat (((ml3_1_a.length:Int):Int) - 1)) (0:Int)):Int)==0) else false;(Tr (z0=true))∧(Tr (z0=true))∧(Tr (z0=true))∧(Tr (z0=true))∧(z0=true→InR (((ml3_1_a.length:Int):Int) - 1))∧(Tr (z0=true))∧(Tr (z0=true))∧(z0=true→(0:Int)≤(((ml3_1_a.length:Int):Int) - 1)∧(((ml3_1_a.length:Int):Int) - 1) < (ml3_1_a.length:Int))∧(Tr (z0=true))∧(Tr (z0=true))∧(Tr (z0=true))∧((z1=true→(InR (((ml3_1_a.length:Int):Int) - 1))∧((0:Int)≤(((ml3_1_a.length:Int):Int) - 1)∧(((ml3_1_a.length:Int):Int) - 1)≤(ml3_1_a.length:Int))∧(N1 (Z5Z t ml3_2 (List.take (Int.toNat (((ml3_1_a.length:Int):Int) - 1)) ml3_1_a))))∧(z1=false→Zj (A71 N [1,1,1,1,0,1,0,1,0,0]) (Z5Y t ml3_1_a ml3_2) (xB 4 (S71 N [1,1,1,1,1] Q))))):
  A71 N [1,1,1,1,0,1,0,0,0,0] (Z5Z t ml3_2 ml3_1_a) (xT N1 (xB 2 (S71 N [1,1,1,1,0,1,0,1] (S71 N [1,1,1,1,1] Q)))):=
 Eq.mpr (by kernel_rfl) h
theorem Zmn(N:Nat)(t:Tree)(ml3_1_a:List Int)(ml3_2_b:List Tree)(N2:NT)(Q:QT)(h:let z0:=decide ((0:Int) < (ml3_2_b.length:Int));let z1:=bif z0 then (((Tree.kind (List.getD ml3_2_b (Int.toNat (((ml3_2_b.length:Int):Int) - 1)) Tree.nil)):Int)==0) else false;(Tr (z0=true))∧(Tr (z0=true))∧(Tr (z0=true))∧(Tr (z0=true))∧(z0=true→InR (((ml3_2_b.length:Int):Int) - 1))∧(Tr (z0=true))∧(Tr (z0=true))∧(z0=true→(0:Int)≤(((ml3_2_b.length:Int):Int) - 1)∧(((ml3_2_b.length:Int):Int) - 1) < (ml3_2_b.length:Int))∧(Tr (z0=true))∧(Tr (z0=true))∧(Tr (z0=true))∧(Tr (z0=true))∧((z1=true→(InR (((ml3_2_b.length:Int):Int) - 1))∧((0:Int)≤(((ml3_2_b.length:Int):Int) - 1)∧(((ml3_2_b.length:Int):Int) - 1)≤(ml3_2_b.length:Int))∧(N2 (Z5Y t ml3_1_a (List.take (Int.toNat (((ml3_2_b.length:Int):Int) - 1)) ml3_2_b))))∧(z1=false→(Q .ret (L2 [(2,.ptr (.loc 2) 0)] [(.loc 2,[ci t.kind,sU .u64 ml3_1_a .unk,sU .tree ml3_2_b .unk])]))))):
  A71 N [1,1,1,1,0,1,0,1,0,0] (Z5Y t ml3_1_a ml3_2_b) (xT N2 (xB 4 (S71 N [1,1,1,1,1] Q))):=
 Eq.mpr (by kernel_rfl) h
def ZrD(N:Nat)(t:Tree):Prop:=AW (Z0 (Zf3 N)) Try.f71 ZnC [] (Zl (Zfr.can (t,())) []) (EQ Try.f71 (ZaE (t,())) [])
theorem ZpY(Zr4:CT 109 Z5l)(hb:∀ (N:Nat) (t:Tree) (_:Unit),JJ (t,())→Zib (t,()) < N+1→ZrD N t):CT 71 J9:=
 ZT (μ:=Zib) (l:=[(109,Z5l)]) Zk rfl (⟨Zr4,trivial⟩) ZnC Try.func71 rfl rfl 1 (fun _=> rfl) (by decide) (fun N ⟨t,_⟩=> hb N t ())
def Zfb(N:Nat):List (FuncId × Fs U):=(29,fs Zfw (fun a=> [Z9h a,Zie a < N]) ZaG) ::[(75,Z8F)]
def ZnK:Zh U:=lvl [([2,3],[2,3]),([2,3,27],[2,3]),([4],[]),([2,3,5],[2,3]),([2,3,5,32],[2,3]),([2,3,5],[2,3]),([2,3,5,46],[2,3]),([4],[]),([4],[])]
def Z6a(a b:Tree)(x5:Int):LSt U:=(L2 [(2,.ptr (.loc 2) 0),(3,.ptr (.loc 3) 0),(5,.c (ci x5))] [(.loc 2,(enc .tree a)),(.loc 3,(enc .tree b))])
abbrev A29(N:Nat)(p:List Nat):=AW (Z0 (Zfb N)) Try.f29 ZnK p
abbrev S29(N:Nat)(p:List Nat):=SW (Z0 (Zfb N)) Try.f29 ZnK p
theorem ZtY(N:Nat)(a b:Tree)(Q:QT)(h:let z1:=a.kind !=b.kind;let z0:=bif z1 then true else (!(decide (a.words=b.words)));let z2:=bif z0 then true else (((a.kids.length:Int):Int) !=(b.kids.length:Int));((Tr ((!z1)=true))∧(Tr ((!z1)=true))∧(Tr ((!z1)=true))∧(Tr ((!z1)=true))∧((!z1)=true→ZaK (a.words,b.words,()))∧(Tr ((!z1)=true))∧(z1=false→(!z1)=true)∧(Tr ((!z0)=true))∧(Tr ((!z0)=true))∧(Tr ((!z0)=true))∧(Tr ((!z0)=true))∧(Tr ((!z0)=true))∧(Tr ((!z0)=true))∧(z0=false→(!z0)=true)∧((z2=true→(Q .ret (L2 [(4,.c (.bool false))] [])))∧(z2=false→(Zj (A29 N [1,1,0,1,0,0]) (Z6a a b 0) (xB 0 (S29 N [1,1,1] Q))))))):
  A29 N [] (L2 [(0,.agg (enc .tree a)),(1,.agg (enc .tree b))] []) Q:=
 Eq.mpr (by kernel_rfl) h
theorem ZmE(N:Nat)(a b:Tree)(x5:Int)(N0:NT)(Q:QT)(h:∀ y_1,y_1=(a.kids.getD x5.toNat Tree.nil)→∀ y_2,y_2=(b.kids.getD x5.toNat Tree.nil)→∀ y_3,y_3=y_1→∀ y_4,y_4=y_2→let z0:=decide (x5 < (a.kids.length:Int));((z0=true→((0:Int)≤x5∧x5 < (a.kids.length:Int))∧((0:Int)≤x5∧x5 < (b.kids.length:Int))∧(Z9h (y_3,y_4,()))∧(Zie (y_3,y_4,()) < N)∧(((!(Yr y_3 y_4))=true→(Q .ret (L2 [(4,.c (.bool false))] [])))∧((!(Yr y_3 y_4))=false→(InR (x5+1))∧(N0 (Z6a a b (x5+1))))))∧(z0=false→(Q .ret (L2 [(4,.c (.bool true))] []))))):
  A29 N [1,1,0,1,0,0] (Z6a a b x5) (xT N0 (xB 0 (S29 N [1,1,1] Q))):=
 Eq.mpr (by kernel_rfl) (h _ rfl _ rfl _ (Zb _) _ (Zb _))
def ZrV(N:Nat)(a b:Tree):Prop:=AW (Z0 (Zfb N)) Try.f29 ZnK [] (Zl (Zfw.can (a,b,())) []) (EQ Try.f29 (ZaG (a,b,())) [])
theorem Zqd(c75:CT 75 Z8F)(hb:∀ (N:Nat) (a:Tree) (b:Tree) (_:Unit),Z9h (a,b,())→Zie (a,b,()) < N+1→ZrV N a b):CT 29 Z8S:=
 ZT (μ:=Zie) (l:=[(75,Z8F)]) Zk rfl (⟨c75,trivial⟩) ZnK Try.func29 rfl rfl 2 (fun _=> rfl) (by decide) (fun N ⟨a,b,_⟩=> hb N a b ())
def Zc0(N:Nat):List (FuncId × Fs U):=(106,fs Zcn (fun a=> [Z18 a,ZaS a < N]) Z4N) ::[(148,Z5i),(149,Z0r),(91,Z0l)]
def ZgC:Zh U:=lvl [([2,3],[2,3]),([2,3,16],[2,3]),([4],[]),([2,3,41],[2,3]),([4],[]),([2,3,48,49],[2,3]),([2,3,48,49,50],[2,3]),([2,3,5,48,49],[2,3]),([2,3,48,49,58],[2,3]),([4],[]),([2,3,48,49],[2,3]),([2,3,66,67],[2,3]),([2,3,66,67,68],[2,3]),([2,3,6,66,67],[2,3]),([2,3,66,67,77],[2,3]),([4],[]),([2,3,66,67],[2,3]),([4],[])]
def Z4b(a b:Tree)(x49:Int):LSt U:=(L2 [(2,.ptr (.loc 2) 0),(3,.ptr (.loc 3) 0),(48,.c (ci (if ((a.words.length:Int):Int) < (b.words.length:Int) then (b.words.length:Int) else (a.words.length:Int)))),(49,.c (ci x49))] [(.loc 2,(enc .tree a)),(.loc 3,(enc .tree b))])
def Z4a(a b:Tree)(x67_a:Int):LSt U:=(L2 [(2,.ptr (.loc 2) 0),(3,.ptr (.loc 3) 0),(66,.c (ci (if ((a.kids.length:Int):Int) < (b.kids.length:Int) then (b.kids.length:Int) else (a.kids.length:Int)))),(67,.c (ci x67_a))] [(.loc 2,(enc .tree a)),(.loc 3,(enc .tree b))])
abbrev Zm8(N:Nat)(p:List Nat):=AW (Z0 (Zc0 N)) Try.f106 ZgC p
abbrev Zo8(N:Nat)(p:List Nat):=SW (Z0 (Zc0 N)) Try.f106 ZgC p
theorem ZsB(N:Nat)(a b:Tree)(Q:QT)(h:let z3:=a.kind !=b.kind;let z4:=bif z3 then true else (a.kind==0);let z0:=((a.kids.length:Int):Int) !=(b.kids.length:Int);let z2:=bif (a.kind !=1) then (bif z0 then true else (!(decide (a.words=b.words)))) else false;let z1:=(a.kind !=1) && (!z0);((Tr ((!z3)=true))∧(Tr ((!z3)=true))∧(z3=false→(!z3)=true)∧((z4=true→(Q .ret (L2 [(4,.c (.bool (a.kind==b.kind)))] [])))∧(z4=false→(Tr ((a.kind !=1)=true))∧(Tr ((a.kind !=1)=true))∧(Tr ((a.kind !=1)=true))∧(Tr ((a.kind !=1)=true))∧(Tr ((a.kind !=1)=true))∧(Tr ((a.kind !=1)=true))∧(Tr ((a.kind !=1)=true))∧(Tr (z1=true))∧(Tr (z1=true))∧(Tr (z1=true))∧(Tr (z1=true))∧(z1=true→Z9o (a.words,b.words,()))∧(Tr (z1=true))∧((a.kind !=1)=true→(True→(a.kind !=1)=true))∧((a.kind !=1)=true→(z0=false→z1=true))∧(Tr ((a.kind !=1)=true))∧((z2=true→(Q .ret (L2 [(4,.c (.bool false))] [])))∧(z2=false→(Zj (Zm8 N [1,1,1,0,1,0,0]) (Z4b a b 0) (xB 0 (Zo8 N [1,1,1,1] Q))))))))):
  Zm8 N [] (L2 [(0,.agg (enc .tree a)),(1,.agg (enc .tree b))] []) Q:=
 Eq.mpr (by kernel_rfl) h
theorem Zjn(N:Nat)(a b:Tree)(x49:Int)(N0:NT)(Q:QT)(h:let z3:=Tree.mk b.kind b.words b.kids;let z2:=Tree.mk a.kind a.words a.kids;let z1:=((YI z2 x49):Int) !=(YI z3 x49);let z0:=decide (x49 < (if ((a.words.length:Int):Int) < (b.words.length:Int) then (b.words.length:Int) else (a.words.length:Int)));((z0=true→((Z6E (z2,x49,()))∧(Z6E (z3,x49,()))∧((z1=true→(Q .ret (L2 [(4,.c (.bool false))] [])))∧(z1=false→(InR (x49+1))∧(N0 (Z4b a b (x49+1)))))))∧(z0=false→(Zj (Zm8 N [1,1,1,1,0,1,0,0]) (Z4a a b 0) (xB 2 (Zo8 N [1,1,1,1,1] Q)))))):
  Zm8 N [1,1,1,0,1,0,0] (Z4b a b x49) (xT N0 (xB 0 (Zo8 N [1,1,1,1] Q))):=
 Eq.mpr (by kernel_rfl) h
theorem Zjm(N:Nat)(a b:Tree)(x67_a:Int)(N1:NT)(Q:QT)(h:∀ y_1,y_1=a→∀ y_2,y_2=b→∀ y_3,y_3=(Yu y_1 x67_a)→∀ y_4,y_4=(Yu y_2 x67_a)→let z1:= !(Yr (Z5 y_3) (Z5 y_4));let z0:=decide (x67_a < (if ((a.kids.length:Int):Int) < (b.kids.length:Int) then (b.kids.length:Int) else (a.kids.length:Int)));((z0=true→((Z7v (y_1,x67_a,()))∧(Z7v (y_2,x67_a,()))∧(Z18 (y_3,y_4,()))∧(ZaS (y_3,y_4,()) < N)∧((z1=true→(Q .ret (L2 [(4,.c (.bool false))] [])))∧(z1=false→(InR (x67_a+1))∧(N1 (Z4a a b (x67_a+1)))))))∧(z0=false→(Q .ret (L2 [(4,.c (.bool true))] []))))):
  Zm8 N [1,1,1,1,0,1,0,0] (Z4a a b x67_a) (xT N1 (xB 2 (Zo8 N [1,1,1,1,1] Q))):=
 Eq.mpr (by kernel_rfl) (h _ (Zb _) _ (Zb _) _ (Zb _) _ (Zb _))
def ZoD(N:Nat)(a b:Tree):Prop:=AW (Z0 (Zc0 N)) Try.f106 ZgC [] (Zl (Zcn.can (a,b,())) []) (EQ Try.f106 (Z4N (a,b,())) [])
theorem Znq(ZqX:CT 148 Z5i)(ZiF:CT 149 Z0r)(c91:CT 91 Z0l)(hb:∀ (N:Nat) (a:Tree) (b:Tree) (_:Unit),Z18 (a,b,())→ZaS (a,b,()) < N+1→ZoD N a b):CT 106 Z0t:=
 ZT (μ:=ZaS) (l:=[(148,Z5i),(149,Z0r),(91,Z0l)]) Zk rfl (⟨ZqX,ZiF,c91,trivial⟩) ZgC Try.func106 rfl rfl 2 (fun _=> rfl) (by decide) (fun N ⟨a,b,_⟩=> hb N a b ())
end
end Go.AM.Ytpjenobkibfpcaa
namespace Go.AM.Ytpjenobkibfpcaa
open Go.AM Go.Proofs
theorem vcU:(∀ {p q:Prop},(p→q→p∧q)=True)∧(∀ {p:Prop},(True∧p)=p)∧(∀ {p:Prop},(p∧True)=p)∧(∀ {p:Prop},(p→True)=True):=
 ⟨by intros;simp+contextual,by simp,by simp,by simp⟩
theorem Z92:∀ {ks:List Tree} {i:Nat},Z0X ks→i < ks.length→Z0Y (ks.getD i Tree.nil)
 | t ::_,0,h,_=> by simp only [Z0X] at h;exact h.1
 | _ ::r,i+1,h,hi=> by simp only [Z0X] at h;exact Z92 (ks:=r) (i:=i) h.2 (by simpa using hi)
theorem YY:∀ {ks:List Tree} {i:Nat},i < ks.length→Zg (ks.getD i Tree.nil)≤Za ks
 | t ::_,0,_=> by simp only [Za,List.getD_cons_zero];omega
 | t ::r,i+1,h=> by
  have:=YY (ks:=r) (i:=i) (by simpa using h)
  simp only [Za,List.getD_cons_succ]
  omega
mutual
theorem Yd:∀ (t:Tree) (d l:Int),-1≤Zw t d l∧Zw t d l≤max l (-1)
 | .mk _ w ks,d,l=> by
  simp only [Zw]
  split
  ·omega
  ·have:=Jo ks (d - 1) (l - 1 - w.length) (by omega)
   omega
theorem Jo:∀ (ks:List Tree) (d l:Int),-1≤l→-1≤Zq ks d l∧Zq ks d l≤l
 | [],d,l,h=> by simp only [Zq];omega
 | t ::r,d,l,h=> by
  simp only [Zq]
  split
  ·omega
  ·have h1:=Yd t d l
   have h2:=Jo r d (Zw t d l) h1.1
   omega
end
theorem Zaf{ks:List Tree}{i:Nat}{d l:Int}(h:i < ks.length)(hl:0≤l):Zq (ks.drop i) d l=Zq (ks.drop (i+1)) d (Zw (ks.getD i Tree.nil) d l):=by
 rw [List.drop_eq_getElem_cons h]
 simp only [Zq]
 rw [if_neg (by omega)]
 simp [List.getD,h]
theorem c78:Contract Try.prog cfg 78 Z30:=by
 refine ZpT ?_
 rintro N ⟨k,ws,ks⟩ d l _ ⟨hs,h1,h2,h3,h4⟩ hN
 simp only [Z0Y,Zia,Zg] at*
 refine ZtB N _ _ _ _ ?_;(try simp only [vcT,forall_eq])
 (simp only [vcS]);(try simp only [vcT])
 try (simp only [Tree.eta,Edit.eta,Tree.kind_mk,Tree.words_mk,Tree.kids_mk])
 refine ⟨by unfold InR;omega,by unfold InR;omega,fun hc=> ?_,fun hc=> ?_⟩
 ·have e:Zw (.mk k ws ks) d l= -1:=by
   simp only [Zw]
   rw [if_pos (by omega)]
  simp only [ZcR,e]
  exact ⟨⟨rfl,⟨⟨rfl,rfl⟩,trivial⟩,trivial⟩,trivial⟩
 ·have e:Zw (.mk k ws ks) d l=Zq ks (d - 1) (l - 1 - ws.length):=by
   simp only [Zw]
   rw [if_neg (by omega)]
  simp only [ZcR,e]
  refine Zc (ι:=Int × Int) (fun p=> Z5V (.mk k ws ks) d l p.1 p.2) (fun p=> 0≤p.2∧p.2≤ks.length∧-1≤p.1∧p.1≤l∧Zq (ks.drop p.2.toNat) (d - 1) p.1=Zq ks (d - 1) (l - 1 - ws.length)) (fun p=> ((ks.length:Int) - p.2).toNat) (l - 1 - ws.length,0) rfl ⟨by omega,by omega,by omega,by omega,by simp⟩ ?_
  rintro ⟨l',i⟩ ⟨h5,h6,h7,h8,h9⟩
  dsimp only at*
  refine Zmj N _ _ _ _ _ _ _ ?_;(try simp only [vcT,forall_eq])
  (simp only [vcS]);(try simp only [vcT])
  try (simp only [Tree.eta,Edit.eta,Tree.kind_mk,Tree.words_mk,Tree.kids_mk])
  refine ⟨fun hc=> ?_,fun hc=> ?_⟩
  ·have hi:i.toNat < ks.length:=by omega
   have hr:=Yd (ks.getD i.toNat Tree.nil) (d - 1) l'
   have hn:=YY hi
   have hd:=Zaf (d:=d - 1) hi hc.2
   refine ⟨by omega,by unfold InR;omega,⟨Z92 hs.2.2 hi,by dsimp only;omega,by dsimp only;omega,by dsimp only;omega,by dsimp only;omega⟩,by simp only [Zia];omega,by unfold InR;omega,⟨(Zw (ks.getD i.toNat Tree.nil) (d - 1) l',i+1),rfl,⟨by dsimp only;omega,by dsimp only;omega,by dsimp only;omega,by dsimp only;omega,?_⟩,by dsimp only;omega⟩⟩
   dsimp only
   rw [←h9,hd]
   congr 2
   omega
  ·have e:Zq ks (d - 1) (l - 1 - ws.length)=l':=by
    rw [←h9]
    by_cases hi:i < ks.length
    ·rw [List.drop_eq_getElem_cons (by omega)]
     simp only [Zq]
     rw [if_pos (by omega)]
    ·rw [List.drop_eq_nil_of_le (by omega)]
     simp only [Zq]
   rw [e]
   exact ⟨⟨rfl,⟨⟨rfl,rfl⟩,trivial⟩,trivial⟩,trivial⟩
theorem c36:Contract Try.prog cfg 36 Z8R:=by
 refine Zqc c78 ?_
 intro t _ hp
 refine ZtX _ _ ?_;(try simp only [vcT,forall_eq])
 try (simp only [Tree.eta,Edit.eta,Tree.kind_mk,Tree.words_mk,Tree.kids_mk])
 refine ⟨⟨hp,by dsimp only;omega,by dsimp only;omega,by dsimp only;omega,by dsimp only;omega⟩,?_⟩
 exact ⟨⟨rfl,⟨rfl,trivial⟩,trivial⟩,trivial⟩
theorem Zr4:Contract Try.prog cfg 109 Z5l:=by
 refine Znp ?_
 intro l _ hp
 refine Zsy _ _ ?_;(try simp only [vcT,forall_eq])
 simp only [Z9p] at hp
 refine ⟨fun h=> ?_,⟨by simp only [List.length_nil];omega,?_⟩⟩
 ·subst h
  exact ⟨⟨rfl,⟨rfl,trivial⟩,trivial⟩,trivial⟩
 ·exact ⟨⟨rfl,⟨⟨rfl,trivial⟩,trivial⟩,trivial⟩,trivial⟩
theorem Z8o{a b:List Int}{i:Int}(hi:0≤i)(ha:i < a.length)(hb:i < b.length):(a.drop i.toNat=b.drop i.toNat)↔(a.getD i.toNat 0=b.getD i.toNat 0∧a.drop (i+1).toNat=b.drop (i+1).toNat):=by
 have e:(i+1).toNat=i.toNat+1:=by omega
 rw [List.drop_eq_getElem_cons (by omega),List.drop_eq_getElem_cons (l:=b) (by omega),e]
 simp only [List.cons.injEq,List.getD,List.getElem?_eq_getElem (show i.toNat < a.length by omega),List.getElem?_eq_getElem (show i.toNat < b.length by omega),Option.getD_some]
theorem c75:Contract Try.prog cfg 75 Z8F:=by
 refine ZpU ?_
 intro a b _ hp
 simp only [ZaK] at hp
 refine ZtC _ _ _ ?_;(try simp only [vcT,forall_eq])
 (simp only [vcS]);(try simp only [vcT])
 refine ⟨fun hc=> ?_,fun hc=> ?_⟩
 ·have e:decide (a=b)=false:=by
   simp only [decide_eq_false_iff_not]
   rintro rfl
   omega
  simp only [ZcS,e]
  exact ⟨⟨rfl,⟨rfl,trivial⟩,trivial⟩,trivial⟩
 ·have hl:a.length=b.length:=by omega
  refine Zc (ι:=Int) (fun p=> Z5W a b p) (fun p=> 0≤p∧p≤a.length∧(a=b↔a.drop p.toNat=b.drop p.toNat)) (fun p=> ((a.length:Int) - p).toNat) 0 rfl ⟨by omega,by omega,by simp⟩ ?_
  rintro i ⟨h1,h2,h3⟩
  refine Zmk _ _ _ _ _ ?_;(try simp only [vcT,forall_eq])
  (simp only [vcS]);(try simp only [vcT])
  refine ⟨fun hc=> ⟨by omega,by omega,fun hn=> ?_,fun he=> ⟨by unfold InR;omega,i+1,rfl,⟨by omega,by omega,?_⟩,by omega⟩⟩,fun hc=> ?_⟩
  ·have e:decide (a=b)=false:=by
    simp only [decide_eq_false_iff_not,h3]
    rw [Z8o h1 hc (by omega)]
    exact fun h=> hn h.1
   simp only [ZcS,e]
   exact ⟨⟨rfl,⟨rfl,trivial⟩,trivial⟩,trivial⟩
  ·rw [h3,Z8o h1 hc (by omega)]
   exact ⟨fun h=> h.2,fun h=> ⟨by simpa using he,h⟩⟩
  ·have e:decide (a=b)=true:=by
    simp only [decide_eq_true_eq,h3]
    rw [List.drop_eq_nil_of_le (by omega),List.drop_eq_nil_of_le (by omega)]
   simp only [ZcS,e]
   exact ⟨⟨rfl,⟨rfl,trivial⟩,trivial⟩,trivial⟩
theorem ZiF:Contract Try.prog cfg 149 Z0r:=by
 refine Zne ?_
 intro t i _ hp
 refine Zsl _ _ _ ?_;(try simp only [vcT,forall_eq])
 (simp only [vcS]);(try simp only [vcT])
 (repeat (refine And.intro (by first | omega | (unfold InR;omega) | (dsimp only;omega)) ?_))
 refine ⟨fun hc=> ?_,fun hc=> ⟨by omega,?_⟩⟩
 ·have e:YI t i=0:=by
   unfold YI
   split
   ·try rfl
   ·rw [List.getD,List.getElem?_eq_none (by omega)]
    try rfl
  simp only [ZbB,e]
  exact ⟨⟨rfl,⟨⟨rfl,rfl⟩,trivial⟩,trivial⟩,trivial⟩
 ·have e:YI t i=t.words.getD i.toNat 0:=by
   unfold YI
   rw [if_neg (by omega)]
  simp only [ZbB,e]
  exact ⟨⟨rfl,⟨⟨rfl,rfl⟩,trivial⟩,trivial⟩,trivial⟩
theorem c91:Contract Try.prog cfg 91 Z0l:=by
 refine ZpO ?_
 intro t i _ hp
 refine Ztv _ _ _ ?_;(try simp only [vcT,forall_eq])
 (simp only [vcS]);(try simp only [vcT])
 (repeat (refine And.intro (by first | omega | (unfold InR;omega) | (dsimp only;omega)) ?_))
 refine ⟨fun hc=> ?_,fun hc=> ⟨by omega,?_⟩⟩
 ·have e:Yu t i=Tree.nil:=by
   unfold Yu
   split
   ·try rfl
   ·rw [List.getD,List.getElem?_eq_none (by omega)]
    try rfl
  simp only [Zg3,e]
  exact ⟨⟨rfl,⟨⟨rfl,rfl⟩,⟨rfl,⟨rfl,trivial⟩⟩⟩,trivial⟩,trivial⟩
 ·have e:Yu t i=t.kids.getD i.toNat Tree.nil:=by
   unfold Yu
   rw [if_neg (by omega)]
  simp only [Zg3,e]
  exact ⟨⟨rfl,⟨⟨rfl,rfl⟩,⟨rfl,trivial⟩,⟨rfl,trivial⟩,trivial⟩,trivial⟩,trivial⟩
theorem ZqX:Contract Try.prog cfg 148 Z5i:=by
 refine Znf ?_
 intro a b _ hp
 simp only [Z9o] at hp
 refine Zsm _ _ _ ?_;(try simp only [vcT,forall_eq])
 (simp only [vcS]);(try simp only [vcT])
 refine ⟨fun hc=> ?_,fun hc=> ?_⟩
 ·have e:decide (a=b)=false:=by
   simp only [decide_eq_false_iff_not]
   rintro rfl
   omega
  simp only [Z9b,e]
  exact ⟨⟨rfl,⟨rfl,trivial⟩,trivial⟩,trivial⟩
 ·have hl:a.length=b.length:=by omega
  refine Zc (ι:=Int) (fun p=> Z43 a b p) (fun p=> 0≤p∧p≤a.length∧(a=b↔a.drop p.toNat=b.drop p.toNat)) (fun p=> ((a.length:Int) - p).toNat) 0 rfl ⟨by omega,by omega,by simp⟩ ?_
  rintro i ⟨h1,h2,h3⟩
  refine Zja _ _ _ _ _ ?_;(try simp only [vcT,forall_eq])
  (simp only [vcS]);(try simp only [vcT])
  refine ⟨fun hc=> ⟨by omega,by omega,fun hn=> ?_,fun he=> ⟨by unfold InR;omega,i+1,rfl,⟨by omega,by omega,?_⟩,by omega⟩⟩,fun hc=> ?_⟩
  ·have e:decide (a=b)=false:=by
    simp only [decide_eq_false_iff_not,h3]
    rw [Z8o h1 hc (by omega)]
    exact fun h=> hn h.1
   simp only [Z9b,e]
   exact ⟨⟨rfl,⟨rfl,trivial⟩,trivial⟩,trivial⟩
  ·rw [h3,Z8o h1 hc (by omega)]
   exact ⟨fun h=> h.2,fun h=> ⟨by simpa using he,h⟩⟩
  ·have e:decide (a=b)=true:=by
    simp only [decide_eq_true_eq,h3]
    rw [List.drop_eq_nil_of_le (by omega),List.drop_eq_nil_of_le (by omega)]
   simp only [Z9b,e]
   exact ⟨⟨rfl,⟨rfl,trivial⟩,trivial⟩,trivial⟩
theorem ZdQ{a b:List Tree}{i:Int}(hi:0≤i)(ha:i < a.length)(hb:i < b.length):(a.drop i.toNat=b.drop i.toNat)↔(a.getD i.toNat Tree.nil=b.getD i.toNat Tree.nil∧a.drop (i+1).toNat=b.drop (i+1).toNat):=by
 have e:(i+1).toNat=i.toNat+1:=by omega
 rw [List.drop_eq_getElem_cons (by omega),List.drop_eq_getElem_cons (l:=b) (by omega),e]
 simp only [List.cons.injEq,List.getD,List.getElem?_eq_getElem (show i.toNat < a.length by omega),List.getElem?_eq_getElem (show i.toNat < b.length by omega),Option.getD_some]
theorem JN{a b:Tree}:Yr a b=true↔a=b:=by simp [Yr]
theorem YK{a b:Tree}:Yr a b=false↔¬a=b:=by simp [Yr]
theorem Zr:∀ (ks:List Tree),ks.length≤Za ks
 | []=> by simp [Za]
 | t ::r=> by
  have:=Zr r
  have:1≤Zg t:=by cases t;simp only [Zg];omega
  simp only [Za,List.length_cons]
  omega
theorem c29:Contract Try.prog cfg 29 Z8S:=by
 refine Zqd c75 ?_
 rintro N ⟨k,ws,ks⟩ ⟨k',ws',ks'⟩ _ hp hN
 have hlen:=Zr ks
 simp only [Z9h,Zie,Zg] at hp hN
 refine ZtY N _ _ _ ?_;(try simp only [vcT,forall_eq])
 (simp only [vcS]);(try simp only [vcT])
 try (simp only [Tree.eta,Edit.eta,Tree.kind_mk,Tree.words_mk,Tree.kids_mk])
 have p69:ZaK (ws,ws',()):=by simp only [ZaK];omega
 refine ⟨fun _=> p69,fun hc=> ?_,fun hc=> ?_⟩
 ·have e:Yr (.mk k ws ks) (.mk k' ws' ks')=false:=by
   rw [YK]
   intro h
   cases h
   simp at hc
  simp only [ZaG,e]
  exact ⟨⟨rfl,⟨rfl,trivial⟩,trivial⟩,trivial⟩
 ·have hc':(k=k'∧ws=ws')∧ks.length=ks'.length:=⟨hc.1,by have:=hc.2;omega⟩
  obtain ⟨⟨rfl,rfl⟩,hl⟩:=hc'
  refine Zc (ι:=Int) (fun p=> Z6a (.mk k ws ks) (.mk k ws ks') p) (fun p=> 0≤p∧p≤ks.length∧(Tree.mk k ws ks= .mk k ws ks'↔ks.drop p.toNat=ks'.drop p.toNat)) (fun p=> ((ks.length:Int) - p).toNat) 0 rfl ⟨by omega,by omega,by simp⟩ ?_
  rintro i ⟨h1,h2,h3⟩
  refine ZmE N _ _ _ _ _ ?_;(try simp only [vcT,forall_eq])
  (simp only [vcS]);(try simp only [vcT])
  try (simp only [Tree.eta,Edit.eta,Tree.kind_mk,Tree.words_mk,Tree.kids_mk])
  refine ⟨fun hc=> ⟨by omega,by omega,?_,?_,fun hn=> ?_,fun he=> ⟨by unfold InR;omega,i+1,rfl,⟨by omega,by omega,?_⟩,by omega⟩⟩,fun hc=> ?_⟩
  ·have:=YY (ks:=ks) (i:=i.toNat) (by omega)
   simp only [Z9h]
   omega
  ·have:=YY (ks:=ks) (i:=i.toNat) (by omega)
   simp only [Zie]
   omega
  ·have e:Yr (.mk k ws ks) (.mk k ws ks')=false:=by
    rw [YK,h3,ZdQ h1 hc (by omega)]
    rw [YK] at hn
    exact fun h=> hn h.1
   simp only [ZaG,e]
   exact ⟨⟨rfl,⟨rfl,trivial⟩,trivial⟩,trivial⟩
  ·rw [h3,ZdQ h1 hc (by omega)]
   exact ⟨fun h=> h.2,fun h=> ⟨JN.1 he,h⟩⟩
  ·have e:Yr (.mk k ws ks) (.mk k ws ks')=true:=by
    rw [JN,h3]
    rw [List.drop_eq_nil_of_le (by omega),List.drop_eq_nil_of_le (by omega)]
   simp only [ZaG,e]
   exact ⟨⟨rfl,⟨rfl,trivial⟩,trivial⟩,trivial⟩
theorem Z6q:∀ (l:List Int),trim (l++[0])=trim l
 | []=> rfl
 | x ::r=> by
  show (match trim (r++[0]) with | []=> if x=0 then [] else [x] | y ::s=> x ::y ::s)=_
  rw [Z6q r]
  try rfl
theorem Zbj{x:Int}(hx:x≠0):∀ (l:List Int),trim (l++[x])=l++[x]
 | []=> by simp [trim,hx]
 | y ::r=> by
  show (match trim (r++[x]) with | []=> if y=0 then [] else [y] | z ::s=> y ::z ::s)=_
  rw [Zbj hx r]
  cases r <;> rfl
theorem Z6t{l:List Int}{i:Int}(h0:0 < i)(hi:i≤l.length):l.take i.toNat=l.take (i - 1).toNat++[l.getD (i - 1).toNat 0]:=by
 have e:i.toNat=(i - 1).toNat+1:=by omega
 rw [e,List.take_add_one]
 simp only [List.getD,List.getElem?_eq_getElem (show (i - 1).toNat < l.length by omega),Option.toList,Option.getD_some]
theorem c84:Contract Try.prog cfg 84 Z8D:=by
 refine ZpQ ?_
 intro l _ hp
 simp only [ZcZ] at hp
 refine Zty _ _ ?_;(try simp only [vcT,forall_eq])
 refine Zc (ι:=Int) (fun p=> Z5U l p) (fun p=> 0≤p∧p≤l.length∧trim (l.take p.toNat)=trim l) (fun p=> p.toNat) (l.length:Int) rfl ⟨by omega,by omega,by simp⟩ ?_
 rintro i ⟨h1,h2,h3⟩
 refine Zmh _ _ _ _ ?_;(try simp only [vcT,forall_eq])
 (simp only [vcS]);(try simp only [vcT])
 refine ⟨fun h=> by unfold InR;omega,fun h=> by omega,fun hc=> ⟨by unfold InR;omega,i - 1,rfl,⟨by omega,by omega,?_⟩,by omega⟩,fun hc=> ⟨by omega,?_,?_⟩⟩
 ·rw [Z6t hc.1 h2,hc.2,Z6q] at h3
  exact h3
 ·simp only [List.length_nil,List.length_take]
  omega
 ·have e:trim l=[]++l.take i.toNat:=by
   rw [←h3]
   by_cases h0:0 < i
   ·rw [Z6t h0 h2,Zbj (by rcases hc with h | h;exact absurd h0 h;exact h)]
    try rfl
   ·have:i.toNat=0:=by omega
    rw [this]
    try rfl
  simp only [ZjE,e]
  exact ⟨⟨rfl,⟨⟨rfl,trivial⟩,trivial⟩,trivial⟩,trivial⟩
theorem ZcA:∀ (l:List Int),(trim l).length≤l.length
 | []=> by simp [trim]
 | x ::r=> by
  have:=ZcA r
  simp only [trim]
  split
  ·split <;> simp
  ·rename_i h
   rw [h] at this
   simp at*
   omega
theorem Z8x:∀ (l:List Tree),Za (ZP l)≤Za l
 | []=> by simp [ZP]
 | x ::r=> by
  have:=Z8x r
  simp only [ZP]
  split
  ·split
   ·simp [Za]
   ·simp [Za]
  ·rename_i h
   rw [h] at this
   simp only [Za] at*
   omega
mutual
theorem Jc:∀ (t:Tree),Zg (Z5 t)≤Zg t
 | .mk k w ks=> by
  have h1:=Z9y ks
  have h2:=ZcA w
  have h3:=Z8x (ZN ks)
  simp only [Z5]
  split
  ·simp only [Tree.nil,Zg,Za,List.length_nil];omega
  ·split
   ·simp only [Zg];omega
   ·simp only [Zg];omega
theorem Z9y:∀ (ks:List Tree),Za (ZN ks)≤Za ks
 | []=> by simp [ZN]
 | t ::r=> by
  have h1:=Jc t
  have h2:=Z9y r
  simp only [ZN,Za]
  omega
end
theorem Z6R:∀ (l:List Tree) (x:Tree),ZN (l++[x])=ZN l++[Z5 x]
 | [],x=> rfl
 | y ::r,x=> by simp only [List.cons_append,ZN,Z6R r x]
theorem JR:∀ (l:List Tree),(ZN l).length=l.length
 | []=> rfl
 | y ::r=> by simp only [ZN,List.length_cons,JR r]
theorem Z4z{x:Tree}(hx:x.kind=0):∀ (l:List Tree),ZP (l++[x])=ZP l
 | []=> by simp [ZP,hx]
 | y ::r=> by
  show (match ZP (r++[x]) with | []=> if y.kind=0 then [] else [y] | z ::s=> y ::z ::s)=_
  rw [Z4z hx r]
  try rfl
theorem Z8w{x:Tree}(hx:x.kind≠0):∀ (l:List Tree),ZP (l++[x])=l++[x]
 | []=> by simp [ZP,hx]
 | y ::r=> by
  show (match ZP (r++[x]) with | []=> if y.kind=0 then [] else [y] | z ::s=> y ::z ::s)=_
  rw [Z8w hx r]
  cases r <;> rfl
theorem Z4A{l:List Tree}{i:Int}(h0:0≤i)(hi:i < l.length):l.take (i+1).toNat=l.take i.toNat++[l.getD i.toNat Tree.nil]:=by
 have e:(i+1).toNat=i.toNat+1:=by omega
 rw [e,List.take_add_one]
 simp only [List.getD,List.getElem?_eq_getElem (show i.toNat < l.length by omega),Option.toList,Option.getD_some]
theorem c45:Contract Try.prog cfg 45 Z8Q:=by
 refine Zqa c84 ?_
 rintro N ⟨k,ws,ks⟩ _ hp hN
 have hlen:=Zr ks
 simp only [Z7w,Zid,Zg] at hp hN
 refine ZtV N _ _ ?_;(try simp only [vcT,forall_eq])
 (simp only [vcS]);(try simp only [vcT])
 try (simp only [Tree.eta,Edit.eta,Tree.kind_mk,Tree.words_mk,Tree.kids_mk])
 refine ⟨fun hc=> ?_,fun hc0=> ?_⟩
 ·have e:Z5 (.mk k ws ks)=Tree.nil:=by simp [Z5,hc]
  simp only [ZaF,e]
  exact ⟨⟨rfl,⟨⟨rfl,rfl⟩,⟨rfl,⟨rfl,trivial⟩⟩⟩,trivial⟩,trivial⟩
 ·refine Zc (ι:=Int × Int × List Tree) (fun p=> Z3w (.mk k ws ks) p.1 p.2.1 p.2.2) (fun p=> 0≤p.2.1∧p.2.1≤ks.length∧0≤p.1∧p.1≤p.2.1∧p.2.2=ZN (ks.take p.2.1.toNat)∧ZP (ZN (ks.take p.2.1.toNat))=p.2.2.take p.1.toNat) (fun p=> ((ks.length:Int) - p.2.1).toNat) (0,0,[]) rfl ⟨by dsimp only;omega,by dsimp only;omega,by dsimp only;omega,by dsimp only;omega,rfl,rfl⟩ ?_
  rintro ⟨last,i,l⟩ ⟨h1,h2,h3,h4,h5,h6⟩
  dsimp only at*
  have hl:l.length=i.toNat:=by rw [h5,JR,List.length_take];omega
  refine ZmC N _ _ _ _ _ _ ?_;(try simp only [vcT,forall_eq])
  (simp only [vcS]);(try simp only [vcT])
  try (simp only [Tree.eta,Edit.eta,Tree.kind_mk,Tree.words_mk,Tree.kids_mk])
  refine ⟨fun hc=> ?_,fun hc=> ⟨fun h1=> ⟨?_,by omega,?_⟩,fun hk=> ⟨?_,?_⟩⟩⟩
  ·have hm:=YY (ks:=ks) (i:=i.toNat) (by omega)
   have hnx:ZN (ks.take (i+1).toNat)=l++[Z5 (ks.getD i.toNat Tree.nil)]:=by rw [Z4A h1 hc,Z6R,h5]
   refine ⟨by omega,by simp only [Z7w];omega,by simp only [Zid];omega,by simp only [List.length_cons,List.length_nil];omega,fun hk=> ⟨by unfold InR;omega,by unfold InR;omega,(i+1,i+1,_),rfl,⟨by dsimp only;omega,by dsimp only;omega,by dsimp only;omega,by dsimp only;omega,hnx.symm,?_⟩,by dsimp only;omega⟩,fun hk=> ⟨by unfold InR;omega,(last,i+1,_),rfl,⟨by dsimp only;omega,by dsimp only;omega,by dsimp only;omega,by dsimp only;omega,hnx.symm,?_⟩,by dsimp only;omega⟩⟩
   ·dsimp only
    rw [hnx,Z8w hk,List.take_of_length_le (by simp;omega)]
   ·dsimp only
    rw [hnx,Z4z hk,List.take_append_of_le_length (by omega),←h6,h5]
  ·simp only [ZcZ];omega
  ·have hi:ks.take i.toNat=ks:=List.take_of_length_le (by omega)
   rw [hi] at h5 h6
   have e:Z5 (.mk k ws ks)= .mk 1 (trim ws) (l.take last.toNat):=by
    subst h1
    simp only [Z5,←h6]
    try rfl
   simp only [ZaF,e]
   exact ⟨⟨rfl,⟨⟨rfl,rfl⟩,⟨rfl,trivial⟩,⟨rfl,trivial⟩,trivial⟩,trivial⟩,trivial⟩
  ·simp only [List.length_nil];omega
  ·have hi:ks.take i.toNat=ks:=List.take_of_length_le (by omega)
   rw [hi] at h5
   have e:Z5 (.mk k ws ks)= .mk k ([]++ws) l:=by
    simp only [Z5,if_neg hc0,if_neg hk,h5]
    try rfl
   simp only [ZaF,e]
   exact ⟨⟨rfl,⟨⟨rfl,rfl⟩,⟨rfl,trivial⟩,⟨rfl,trivial⟩,trivial⟩,trivial⟩,trivial⟩
theorem ZgH{l:List Int}(h0:0 < (l.length:Int)):l=l.take ((l.length:Int) - 1).toNat++[l.getD ((l.length:Int) - 1).toNat 0]:=by
 have:=Z6t h0 (Int.le_refl _)
 rw [List.take_of_length_le (by omega)] at this
 exact this
theorem ZdD{l:List Tree}(h0:0 < (l.length:Int)):l=l.take ((l.length:Int) - 1).toNat++[l.getD ((l.length:Int) - 1).toNat Tree.nil]:=by
 have:=Z4A (l:=l) (i:=(l.length:Int) - 1) (by omega) (by omega)
 rw [List.take_of_length_le (by omega)] at this
 exact this
theorem ZhJ{l:List Int}(h0:0 < (l.length:Int))(hz:l.getD ((l.length:Int) - 1).toNat 0=0):trim (l.take ((l.length:Int) - 1).toNat)=trim l:=by
 have e:=Z6q (l.take ((l.length:Int) - 1).toNat)
 have h:=ZgH h0
 rw [hz] at h
 rw [←h] at e
 exact e.symm
theorem ZhL{l:List Int}(h:¬0 < (l.length:Int)∨¬l.getD ((l.length:Int) - 1).toNat 0=0):trim l=l:=by
 by_cases h0:0 < (l.length:Int)
 ·have e:=Zbj (x:=l.getD ((l.length:Int) - 1).toNat 0) (by rcases h with h | h;exact absurd h0 h;exact h) (l.take ((l.length:Int) - 1).toNat)
  rw [←ZgH h0] at e
  exact e
 ·have:l=[]:=List.eq_nil_of_length_eq_zero (by omega)
  subst this
  try rfl
theorem Zea{l:List Tree}(h0:0 < (l.length:Int))(hz:(l.getD ((l.length:Int) - 1).toNat Tree.nil).kind=0):ZP (l.take ((l.length:Int) - 1).toNat)=ZP l:=by
 have e:=Z4z hz (l.take ((l.length:Int) - 1).toNat)
 rw [←ZdD h0] at e
 exact e.symm
theorem Zec{l:List Tree}(h:¬0 < (l.length:Int)∨¬(l.getD ((l.length:Int) - 1).toNat Tree.nil).kind=0):ZP l=l:=by
 by_cases h0:0 < (l.length:Int)
 ·have e:=Z8w (x:=l.getD ((l.length:Int) - 1).toNat Tree.nil) (by rcases h with h | h;exact absurd h0 h;exact h) (l.take ((l.length:Int) - 1).toNat)
  rw [←ZdD h0] at e
  exact e
 ·have:l=[]:=List.eq_nil_of_length_eq_zero (by omega)
  subst this
  try rfl
theorem c71:Contract Try.prog cfg 71 J9:=by
 refine ZpY Zr4 ?_
 rintro N ⟨k,ws,ks⟩ _ hp hN
 have hlen:=Zr ks
 simp only [JJ,Zib,Zg] at hp hN
 refine ZtG N _ _ ?_;(try simp only [vcT,forall_eq])
 (simp only [vcS]);(try simp only [vcT])
 try (simp only [Tree.eta,Edit.eta,Tree.kind_mk,Tree.words_mk,Tree.kids_mk])
 refine ⟨fun hc=> ?_,fun hc0=> ⟨by simp only [Z9p];omega,?_⟩⟩
 ·have e:Z5 (.mk k ws ks)=Tree.nil:=by simp [Z5,hc]
  simp only [ZaE,e]
  exact ⟨⟨rfl,⟨⟨rfl,rfl⟩,⟨rfl,⟨rfl,trivial⟩⟩⟩,trivial⟩,trivial⟩
 ·refine Zc (ι:=Int × List Tree) (fun p=> Z60 (.mk k ws ks) p.1 p.2) (fun p=> 0≤p.1∧p.1≤ks.length∧p.2=ZN (ks.take p.1.toNat)) (fun p=> ((ks.length:Int) - p.1).toNat) (0,[]) rfl ⟨by dsimp only;omega,by dsimp only;omega,rfl⟩ ?_
  rintro ⟨i,l⟩ ⟨h1,h2,h5⟩
  dsimp only at*
  have hl:l.length=i.toNat:=by rw [h5,JR,List.length_take];omega
  refine Zmp N _ _ _ _ _ ?_;(try simp only [vcT,forall_eq])
  (simp only [vcS]);(try simp only [vcT])
  try (simp only [Tree.eta,Edit.eta,Tree.kind_mk,Tree.words_mk,Tree.kids_mk])
  refine ⟨fun hc=> ?_,fun hc=> ⟨fun hk=> ?_,fun hk=> ?_⟩⟩
  ·have hm:=YY (ks:=ks) (i:=i.toNat) (by omega)
   have hnx:ZN (ks.take (i+1).toNat)=l++[Z5 (ks.getD i.toNat Tree.nil)]:=by rw [Z4A h1 hc,Z6R,h5]
   exact ⟨by omega,by simp only [JJ];omega,by simp only [Zib];omega,by simp only [List.length_cons,List.length_nil];omega,by unfold InR;omega,(i+1,_),rfl,⟨by dsimp only;omega,by dsimp only;omega,hnx.symm⟩,by dsimp only;omega⟩
  ·have hi:ks.take i.toNat=ks:=List.take_of_length_le (by omega)
   rw [hi] at h5
   refine Zc (ι:=List Int) (fun p=> Z5Z (.mk k ws ks) l p) (fun p=> p.length≤ws.length∧trim p=trim ws) (fun p=> p.length) ws rfl ⟨by omega,rfl⟩ ?_
   rintro w ⟨h6,h7⟩
   refine Zmo N _ _ _ _ _ ?_;(try simp only [vcT,forall_eq])
   (simp only [vcS]);(try simp only [vcT])
   refine ⟨fun h=> by unfold InR;omega,fun h=> by omega,fun hc=> ⟨by unfold InR;omega,by omega,_,rfl,⟨by rw [List.length_take];omega,?_⟩,by rw [List.length_take];omega⟩,fun hc=> ?_⟩
   ·rw [ZhJ hc.1 hc.2,h7]
   ·have hw:w=trim ws:=by rw [←h7,ZhL hc]
    refine Zc (ι:=List Tree) (fun p=> Z5Y (.mk k ws ks) w p) (fun p=> p.length≤l.length∧ZP p=ZP l) (fun p=> p.length) l rfl ⟨by omega,rfl⟩ ?_
    rintro q ⟨h8,h9⟩
    refine Zmn N _ _ _ _ _ ?_;(try simp only [vcT,forall_eq])
    (simp only [vcS]);(try simp only [vcT])
    refine ⟨fun h=> by unfold InR;omega,fun h=> by omega,fun hc=> ⟨by unfold InR;omega,by omega,_,rfl,⟨by rw [List.length_take];omega,?_⟩,by rw [List.length_take];omega⟩,fun hc=> ?_⟩
    ·rw [Zea hc.1 hc.2,h9]
    ·have hq:q=ZP (ZN ks):=by rw [←h5,←h9,Zec hc]
     have e:Z5 (.mk k ws ks)= .mk k w q:=by
      subst hk
      simp only [Z5,hw,hq]
      try rfl
     simp only [ZaE,e]
     exact ⟨⟨rfl,⟨⟨rfl,rfl⟩,⟨rfl,trivial⟩,⟨rfl,trivial⟩,trivial⟩,trivial⟩,trivial⟩
  ·have hi:ks.take i.toNat=ks:=List.take_of_length_le (by omega)
   rw [hi] at h5
   have e:Z5 (.mk k ws ks)= .mk k ws l:=by simp only [Z5,if_neg hc0,if_neg hk,h5]
   simp only [ZaE,e]
   exact ⟨⟨rfl,⟨⟨rfl,rfl⟩,⟨rfl,trivial⟩,⟨rfl,trivial⟩,trivial⟩,trivial⟩,trivial⟩
end Go.AM.Ytpjenobkibfpcaa
