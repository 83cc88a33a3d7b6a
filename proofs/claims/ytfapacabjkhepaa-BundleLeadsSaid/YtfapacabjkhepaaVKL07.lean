import Derived.Test.YtfapacabjkhepaaVmZ
import Derived.Test.YtfapacabjkhepaaChecked
import Derived.Test.YtfapacabjkhepaaRows
import Derived.Test.YtfapacabjkhepaaVmX
import Derived.Test.YtfapacabjkhepaaVmXE
import Derived.ProofKit
import Derived.Test.YtfapacabjkhepaaVKD07
set_option linter.unusedSimpArgs false
set_option linter.unusedVariables false
namespace Go.AM.Ytfapacabjkhepaa
open Go.AM Go.Proofs
def el:Ty->TypeId
 | .u64=> 48
 | .u8=> 5
 | .int=> 3
 | .tree=> 25
 | .wedit=> 50
 | .edit=> 39
 | .kid=> 60
 | .op=> 63
 | .piece=> 113
 | .bundle=> 33
 | .rbundle=> 28
def tb:Tables U:=
 {el:=el
  sl:=[(22,.u64),(23,.tree),(26,.edit),(35,.wedit),(36,.kid),(37,.op),(85,.u8),(109,.piece)]
  var:=[(2,false,[.int .i64 0]),
   (3,false,[.int .i64 0]),
   (4,false,[.bool false]),
   (5,false,[.int .u8 0]),
   (6,false,[.int .u8 0]),
   (7,true,[.int .i64 0,.int .i64 0,.bool false,.int .u8 0]),
   (8,true,[.int .i64 0,.int .i64 0,.bool false,.int .u8 0]),
   (12,false,[.int .u64 0]),
   (15,false,[.nilp]),
   (16,false,[.nilp]),
   (17,false,[.nilp]),
   (18,true,[.nilp]),
   (19,true,[.nilp]),
   (21,false,[.int .i32 0]),
   (22,false,[.nils]),
   (23,false,[.nils]),
   (24,true,[.int .i64 0,.nils,.nils]),
   (25,true,[.int .i64 0,.nils,.nils]),
   (26,false,[.nils]),
   (27,true,[.int .i64 0,.nils,.nils,.nils]),
   (28,true,[.int .i64 0,.nils,.nils,.nils]),
   (33,true,[.int .i64 0,.nils,.nils,.nils]),
   (35,false,[.nils]),
   (36,false,[.nils]),
   (37,false,[.nils]),
   (38,true,[.int .i64 0,.int .i64 0,.nils,.nils,.int .i64 0,.nils,.nils,.nils,.nils,.int .i64 0,.nils]),
   (39,true,[.int .i64 0,.int .i64 0,.nils,.nils,.int .i64 0,.nils,.nils,.nils,.nils,.int .i64 0,.nils]),
   (48,false,[.int .u64 0]),
   (49,true,[.int .i64 0,.int .u8 0,.int .u64 0,.int .u64 0]),
   (50,true,[.int .i64 0,.int .u8 0,.int .u64 0,.int .u64 0]),
   (59,true,[.int .i64 0,.int .i64 0,.int .i64 0,.nils,.nils,.int .i64 0,.nils,.nils,.nils,.nils,.int .i64 0,.nils]),
   (60,true,[.int .i64 0,.int .i64 0,.int .i64 0,.nils,.nils,.int .i64 0,.nils,.nils,.nils,.nils,.int .i64 0,.nils]),
   (62,true,[.int .i64 0,.int .i64 0,.nils,.int .i64 0,.int .i64 0,.nils,.nils,.int .i64 0,.nils,.nils,.nils,.nils,.int .i64 0,.nils]),
   (63,true,[.int .i64 0,.int .i64 0,.nils,.int .i64 0,.int .i64 0,.nils,.nils,.int .i64 0,.nils,.nils,.nils,.nils,.int .i64 0,.nils]),
   (81,true,[.int .u8 0,.int .u8 0,.int .u8 0,.int .u8 0,.int .u8 0,.int .u8 0,.int .u8 0,.int .u8 0]),
   (85,false,[.nils]),
   (92,false,[.nilp]),
   (93,true,[.nils,.nils,.nils]),
   (94,true,[.nils,.nils,.nils]),
   (97,false,[.nilp]),
   (109,false,[.nils]),
   (112,true,[.int .i64 0,.int .i64 0,.int .i64 0,.nils,.int .i64 0,.int .i64 0,.nils,.nils,.int .i64 0,.nils,.nils,.nils,.nils,.int .i64 0,.nils,.int .i64 0,.int .i64 0,.nils,.int .i64 0,.int .i64 0,.nils,.nils,.int .i64 0,.nils,.nils,.nils,.nils,.int .i64 0,.nils]),
   (113,true,[.int .i64 0,.int .i64 0,.int .i64 0,.nils,.int .i64 0,.int .i64 0,.nils,.nils,.int .i64 0,.nils,.nils,.nils,.nils,.int .i64 0,.nils,.int .i64 0,.int .i64 0,.nils,.int .i64 0,.int .i64 0,.nils,.nils,.int .i64 0,.nils,.nils,.nils,.nils,.int .i64 0,.nils]),
   (116,true,[.int .i64 0,.int .i64 0,.int .i64 0,.int .i64 0,.int .i64 0,.int .i64 0]),
   (121,false,[.nilp]),
   (122,true,[.nils,.int .i64 0]),
   (123,true,[.nils,.int .i64 0]),
   (133,false,[.int .u32 0]),
   (134,false,[.int .u8 0]),
   (135,false,[.int .u8 0]),
   (137,false,[.nilp]),
   (138,false,[.int .i32 0]),
   (139,false,[.int .i32 0])]
  fld:=[(7,0,0,2),(7,1,1,3),(7,2,2,4),(7,3,3,6),(8,0,0,2),(8,1,1,3),(8,2,2,4),(8,3,3,6),(18,0,0,17),(19,0,0,17),(24,0,0,3),(24,1,1,22),(24,2,2,23),(25,0,0,3),(25,1,1,22),(25,2,2,23),(27,0,0,25),(27,1,3,26),(28,0,0,25),(28,1,3,26),(33,0,0,25),(33,1,3,26),(38,0,0,3),(38,1,1,25),(38,2,4,25),(38,3,7,35),(38,4,8,36),(38,5,9,3),(38,6,10,37),(39,0,0,3),(39,1,1,25),(39,2,4,25),(39,3,7,35),(39,4,8,36),(39,5,9,3),(39,6,10,37),(49,0,0,3),(49,1,1,5),(49,2,2,48),(49,3,3,48),(50,0,0,3),(50,1,1,5),(50,2,2,48),(50,3,3,48),(59,0,0,3),(59,1,1,39),(60,0,0,3),(60,1,1,39),(62,0,0,3),(62,1,1,3),(62,2,2,23),(62,3,3,39),(63,0,0,3),(63,1,1,3),(63,2,2,23),(63,3,3,39),(93,0,0,37),(93,1,1,23),(93,2,2,23),(94,0,0,37),(94,1,1,23),(94,2,2,23),(112,0,0,3),(112,1,1,63),(112,2,15,63),(113,0,0,3),(113,1,1,63),(113,2,15,63),(122,0,0,37),(122,1,1,3),(123,0,0,37),(123,1,1,3)]
  arr:=[(81,8,5),(116,6,3)]
  eqs:=[7,8,49,50] }
def cfg:Cfg U:=tb.cfg K
theorem Zza:tb.var.all (Zsw Try.prog)=true:=V5
theorem ZBF:tb.sl.all (slB Try.prog tb.el)=true:=V5
theorem ZzE:tb.fld.all (Zxq Try.prog)=true:=V5
theorem ZzJ:tb.arr.all (Zxw Try.prog)=true:=V5
theorem ZBG:∀ t,elB Try.prog K tb t=true:=by
 intro t
 cases t
 .kernel_rfl
 .kernel_rfl
 .kernel_rfl
 .kernel_rfl
 .kernel_rfl
 .kernel_rfl
 .kernel_rfl
 .kernel_rfl
 .kernel_rfl
 .kernel_rfl
 .kernel_rfl
theorem Zk:CfgOk Try.prog cfg:=Zm1 ZBL Zza ZBF ZzE ZzJ ZBG V5 V5
abbrev sU(T:Ty)(l:List (El T))(t:Tail):C U:= .slice (U:=U) T l t
noncomputable abbrev AW(K:Known U)(f:Func)(lv:Ze U)(p:List Nat):=awp cfg K (ZV cfg K) f.ntmps lv (cd f p)
noncomputable abbrev SW(K:Known U)(f:Func)(lv:Ze U)(p:List Nat):=Zcb cfg K (ZV cfg K) f.ntmps lv (cd f p)
abbrev EQ(f:Func):=Yv cfg f.ntmps f.results.toList
abbrev QT:=AExit->LSt U->Prop
abbrev NT:=LSt U->Prop
abbrev CT(k:FuncId)(s:Fs U):Prop:=Contract Try.prog cfg k s
abbrev xB:=@AExit.inBlock U
abbrev xT:=@AExit.then U
abbrev ci(x:Int):C U:= .int .i64 x
abbrev L2(e:List (Nat × V U))(m:List (Name × List (C U))):LSt U:=⟨e,m,[]⟩
abbrev pL(n:Nat):Nat × V U:=(n,.ptr (.loc n) 0)
abbrev pB(n:Nat)(b:Bool):Nat × V U:=(n,.c (.bool b))
abbrev pI(n:Nat)(x:Int):Nat × V U:=(n,.c (.int .i64 x))
def lvl(l:List (List Nat × List Nat)):Ze U:=fun i=> ((l.getD i ([],[])).1.map fun k=> (k,[]),(l.getD i ([],[])).2.map fun k=> (.loc k,[]))
instance (n:Nat):OfNat (Nat × List (Sk U)) n:=⟨(n,[])⟩
instance (n:Nat):OfNat (Name × List (Sk U)) n:=⟨(.loc n,[])⟩
abbrev an(n:Nat)(l:List (Sk U)):List (Sk U):=List.replicate n .any++l
def lvk(l:List (List (Nat × List (Sk U)) × List (Name × List (Sk U)))):Ze U:=fun i=> l.getD i ([],[])
abbrev zc0:List (C U):=[.int .u8 0,.int .u8 0,.int .u8 0,.int .u8 0,.int .u8 0,.int .u8 0,.int .u8 0,.int .u8 0]
abbrev zc1:List (C U):=[.int .i64 0,.int .i64 0,.nils,.nils,.int .i64 0,.nils,.nils,.nils,.nils,.int .i64 0,.nils]
abbrev zc2:List (C U):=[.int .i64 0,.int .i64 0,.nils,.int .i64 0,.int .i64 0,.nils,.nils,.int .i64 0,.nils,.nils,.nils,.nils,.int .i64 0,.nils]
end Go.AM.Ytfapacabjkhepaa
namespace Go.AM.Ytfapacabjkhepaa
open Go.AM Go.Proofs Go.Proofs.Ytfapacabjkhepaa Go.ChangeShapes Go.WideShapes Go.RowKit
theorem own:ownKnob Try.prog.godebug=none:=V5
theorem Ztn:laidOutB Try.prog=true:=V5
theorem Z94:TreeTypes cfg:=⟨rfl,rfl,⟨_,rfl⟩,⟨_,rfl⟩,⟨_,rfl,rfl⟩,⟨_,_,rfl,rfl⟩,⟨_,_,rfl,rfl,rfl⟩,⟨_,_,rfl,rfl,rfl⟩⟩
theorem ZmZ:EditTypes cfg:=⟨⟨_,rfl,rfl⟩,⟨_,_,rfl,rfl⟩,⟨_,_,rfl,rfl⟩,⟨_,_,rfl,rfl⟩,⟨_,_,rfl,rfl⟩,⟨_,rfl,rfl⟩,⟨_,_,rfl,rfl⟩,rfl,⟨_,rfl,rfl⟩,⟨_,_,rfl,rfl⟩,⟨_,_,rfl,rfl⟩,⟨_,_,rfl,rfl,rfl⟩,rfl,⟨_,rfl,rfl⟩,⟨_,_,rfl,rfl⟩,rfl,rfl,⟨_,_,rfl,rfl,rfl⟩,⟨_,_,rfl,rfl,rfl⟩,⟨_,_,rfl,rfl⟩,⟨_,_,rfl,rfl,rfl⟩⟩
theorem Zvg{H:Type}{henc:TypeId × Value->H}{w:World}{n:Nat}{cs:List Value}(h:Rdd henc Try.prog w n (cfg.elT .rbundle) cs):
  ∃ e:Bnd,RelS cfg w.cell? cs (cfg.enc .rbundle e)/\inT e.first/\e.log.length*cfg.bytes .edit<=reachBytes/\∀ x∈e.log,inE x:=by
 obtain ⟨tz,htz,htzl⟩:=Z94.var
 obtain ⟨m,rfl,hl,r0⟩:=J4 Zk (t:=cfg.elT .rbundle) (i:=0) (off:=0) (ft:=cfg.elT .tree) rfl htz h
 obtain ⟨m',e',_,r1⟩:=J4 Zk (t:=cfg.elT .rbundle) (i:=1) (off:=3) (ft:=26) (ag:=false) (zs:=[.nils]) rfl rfl h
 cases e'
 have hl2:cs.length=4:=by rw [hl,Z06 Zk (t:=cfg.elT .rbundle) (ag:=true) rfl];try rfl
 obtain ⟨a,a1,a2⟩:=Zbe Zk Z94 _ _ r0
 obtain ⟨l,p1,p2,p3⟩:=Zct Zk (S:= .edit) rfl (fun m _ cs h=> ZsF Zk Z94 ZmZ m cs h) r1
 rw [htzl] at a1
 exact ⟨⟨a,l⟩,a1.glue rfl V0 (p1.glue rfl (by simp;omega) (RelS.done (n:=4) hl2)),a2,p2,p3⟩
theorem Zki{H:Type}{henc:TypeId × Value->H}:Zrr henc Try.prog cfg (aEl .rbundle) 28 (fun e=> inT e.first/\e.log.length*cfg.bytes .edit<=reachBytes/\∀ x∈e.log,inE x):=
 ZtH Zk rfl ⟨_,_,rfl⟩ (fun _ n cs h=> Zvg h)
theorem ZuR{H:Type}{henc:TypeId × Value->H}:Zrr henc Try.prog cfg (Yu .u8) 5 (fun z=> IntKind.min .u8<=z/\z<=IntKind.max .u8):=Zr7 Zk (n0:=0) rfl
end Go.AM.Ytfapacabjkhepaa
namespace Go.AM.Ytfapacabjkhepaa
open Go.AM Go.Proofs
noncomputable section
def Zkc:ArgL (Tree × Int × Int × Unit):=(.cons (aEl .tree) (.cons (Yu .i64) (.cons (Yu .i64) .nil)))
def Z7M(a:Tree × Int × Int × Unit):Prop:=Z23 a.1/\0<=a.2.1/\a.2.1<=4611686018427387904/\-1<=a.2.2.1/\a.2.2.1<=4611686018427387904
def Zmv(a:Tree × Int × Int × Unit):Nat:=Zn a.1
def ZgX(a:Tree × Int × Int × Unit):V U:= .c (ci (ZF a.1 a.2.1 a.2.2.1))
def Z4R:Fs U:=fs Zkc (fun a=> [Z7M a]) ZgX
def Zr5:ArgL (Tree × Unit):=(.cons (aEl .tree) .nil)
def Zlh(a:Tree × Unit):Prop:=Z23 a.1
def Zup(a:Tree × Unit):V U:= .c (.bool (decide (0<=ZF a.1 80 3000)))
def Z4W:Fs U:=fs Zr5 (fun a=> [Zlh a]) Zup
def ZqY:ArgL (List Int × List Int × Unit):=(.cons (aSl .u64) (.cons (aSl .u64) .nil))
def Zet(a:List Int × List Int × Unit):Prop:=a.1.length<=1000000000000
def ZgW(a:List Int × List Int × Unit):V U:= .c (.bool (decide (a.1=a.2.1)))
def ZbZ:Fs U:=fs ZqY (fun a=> [Zet a]) ZgW
def ZqT:ArgL (List Int × Unit):=(.cons (aSl .u64) .nil)
def Zhf(a:List Int × Unit):Prop:=a.1.length<=1000000000000
def Zo4(a:List Int × Unit):V U:= .c (sU .u64 (trim a.1) .unk)
def ZbW:Fs U:=fs ZqT (fun a=> [Zhf a]) Zo4
def Zuh(a:List Int × Unit):V U:= .c (sU .u64 a.1 .unk)
def ZbT:Fs U:=fs ZqT (fun a=> [Zhf a]) Zuh
def ZqE:ArgL (Tree × Int × Unit):=(.cons (aEl .tree) (.cons (Yu .i64) .nil))
def Zep(a:Tree × Int × Unit):Prop:=True
def ZkS(a:Tree × Int × Unit):V U:= .c (.int .u64 (Yy a.1 a.2.1))
def Z48:Fs U:=fs ZqE (fun a=> [Zep a]) ZkS
def ZkR(a:Tree × Int × Unit):V U:= .agg (enc .tree (Jt a.1 a.2.1))
def Z47:Fs U:=fs ZqE (fun a=> [Zep a]) ZkR
def Z0P(a:Tree × Unit):Prop:=Zn a.1<=1000000000000
def Zmx(a:Tree × Unit):Nat:=Zn a.1
def Zee(a:Tree × Unit):V U:= .agg (enc .tree (Z1 a.1))
def Z1y:Fs U:=fs Zr5 (fun a=> [Z0P a]) Zee
def Zkh:ArgL (Tree × Tree × Unit):=(.cons (aEl .tree) (.cons (aEl .tree) .nil))
def Z6o(a:Tree × Tree × Unit):Prop:=Zn a.1<=1000000000000
def Zmy(a:Tree × Tree × Unit):Nat:=Zn a.1
def Zef(a:Tree × Tree × Unit):V U:= .c (.bool (Yp a.1 a.2.1))
def Z4V:Fs U:=fs Zkh (fun a=> [Z6o a]) Zef
def Z4G(a:Tree × Tree × Unit):Prop:=Zn a.1<=1000000000000/\Zn a.2.1<=1000000000000
def Zmt(a:Tree × Tree × Unit):Nat:=Zn a.1+Zn a.2.1
def Zcn(a:Tree × Tree × Unit):V U:= .c (.bool (Yp (Z1 a.1) (Z1 a.2.1)))
def Z0g:Fs U:=fs Zkh (fun a=> [Z4G a]) Zcn
def ZjF(N:Nat):List (FuncId × Fs U):=(25,fs Zkc (fun a=> [Z7M a,Zmv a < N]) ZgX) ::[]
def Zte:Ze U:=lvl [([1,2,3],[3]),([1,2,3],[3]),([1,2,3,19],[3]),([6],[]),([1,2,3,7],[3]),([1,2,3,7,28],[3]),([1,2,3,7],[3]),([1,2,3,7],[3]),([6],[])]
def Z8x(t:Tree)(d l x2 x7:Int):LSt U:=(L2 [pI 1 d,pI 2 x2,pL 3,pI 7 x7] [(.loc 3,(enc .tree t))])
abbrev A25(N:Nat)(p:List Nat):=AW (Z2 (ZjF N)) Try.f25 Zte p
abbrev S25(N:Nat)(p:List Nat):=SW (Z2 (ZjF N)) Try.f25 Zte p
theorem ZBp(N:Nat)(t:Tree)(d l:Int)(Q:QT)(h:((InR (l - 1))/\(InR (((l - 1):Int) - (t.words.length:Int)))/\((Tt (!(d==0)))/\((d==0)=false->(!(d==0))=true)/\(iB (bif (d==0) then true else (decide (((((l - 1):Int) - (t.words.length:Int)):Int) < 0))) ((Q .ret (L2 [pI 6 (-1)] []))) ((Zi (A25 N [1,1,1,0,1,0,0]) (Z8x t d l (((l - 1):Int) - (t.words.length:Int)) 0) (xB 0 (S25 N [1,1,1,1] Q)))))))):
  A25 N [] (L2 [(0,.agg (enc .tree t)),pI 1 d,pI 2 l] []) Q:=
 Eq.mpr V5 h
theorem Zsj(N:Nat)(t:Tree)(d l x2 x7:Int)(N0:NT)(Q:QT)(h:let z2:=t.kids.getD x7.toNat Tree.nil;let z1:=decide (x7 < (t.kids.length:Int));let z0:=Tree.mk (Tree.kind z2) (Tree.words z2) (Tree.kids z2);(Tt z1)/\(Tt z1)/\(iB (bif z1 then (decide ((0:Int)<=x2)) else false) (((0:Int)<=x7/\x7 < (t.kids.length:Int))/\(InR (d - 1))/\(Z7M (z0,(d - 1),x2,()))/\(Zmv (z0,(d - 1),x2,()) < N)/\((InR (x7+1))/\(N0 (Z8x t d l (ZF z0 (d - 1) x2) (x7+1))))) ((Q .ret (L2 [pI 6 x2] []))))):
  A25 N [1,1,1,0,1,0,0] (Z8x t d l x2 x7) (xT N0 (xB 0 (S25 N [1,1,1,1] Q))):=
 Eq.mpr V5 h
def ZyR(N:Nat)(t:Tree)(d l:Int):Prop:=AW (Z2 (ZjF N)) Try.f25 Zte [] (Zj (Zkc.can (t,d,l,())) []) (EQ Try.f25 (ZgX (t,d,l,())) [])
theorem Zwj(hb:∀ (N:Nat) (t:Tree) (d:Int) (l:Int) (_:Unit),Z7M (t,d,l,())->Zmv (t,d,l,()) < N+1->ZyR N t d l):CT 25 Z4R:=
 YO (μ:=Zmv) (l:=[]) Zk rfl trivial Zte Try.func25 rfl rfl 3 (fun _=> rfl) V2 (fun N ⟨t,d,l,_⟩=> hb N t d l ())
def ZpP:List (FuncId × Fs U):=[(25,Z4R)]
def Zxi:Ze U:=lvl [([1],[1]),([2],[])]
abbrev A11(p:List Nat):=AW (Z2 ZpP) Try.f11 Zxi p
theorem ZBD(t:Tree)(Q:QT)(h:let z0:=Tree.mk t.kind t.words t.kids;((Z7M (z0,80,3000,()))/\(Q .ret (L2 [(2,.c (.bool (decide ((0:Int)<=(ZF z0 80 3000)))))] [])))):
  A11 [] (L2 [(0,.agg (enc .tree t))] []) Q:=
 Eq.mpr V5 h
def Zz5(t:Tree):Prop:=AW (Z2 ZpP) Try.f11 Zxi [] (Zj (Zr5.can (t,())) []) (EQ Try.f11 (Zup (t,())) [])
theorem Zwv(c25:CT 25 Z4R)(hb:∀ (t:Tree) (_:Unit),Zlh (t,())->Zz5 t):CT 11 Z4W:=
 Z3 (l:=[(25,Z4R)]) Zk rfl (⟨c25,trivial⟩) Zxi Try.func11 rfl rfl 1 (fun _=> rfl) V2 (fun ⟨t,_⟩=> hb t ())
def ZjE:List (FuncId × Fs U):=[]
def Ztd:Ze U:=lvl [([0,1],[]),([0,1,10],[]),([4],[]),([0,1,5],[]),([0,1,5,14],[]),([0,1,5],[]),([0,1,5,25],[]),([4],[]),([4],[])]
def Z8w(a b:List Int)(x5:Int):LSt U:=(L2 [(0,.c (sU .u64 a .unk)),(1,.c (sU .u64 b .unk)),pI 5 x5] [])
abbrev A27(p:List Nat):=AW (Z2 ZjE) Try.f27 Ztd p
abbrev S27(p:List Nat):=SW (Z2 ZjE) Try.f27 Ztd p
theorem ZBn(a b:List Int)(Q:QT)(h:(iB (((a.length:Int):Int) !=(b.length:Int)) ((Q .ret (L2 [pB 4 false] []))) ((Zi (A27 [1,1,0,1,0,0]) (Z8w a b 0) (xB 0 (S27 [1,1,1] Q)))))):
  A27 [] (L2 [(0,.c (sU .u64 a .unk)),(1,.c (sU .u64 b .unk))] []) Q:=
 Eq.mpr V5 h
theorem Zsi(a b:List Int)(x5:Int)(N0:NT)(Q:QT)(h:(iB (decide (x5 < (a.length:Int))) (((0:Int)<=x5/\x5 < (a.length:Int))/\((0:Int)<=x5/\x5 < (b.length:Int))/\(iB (((a.getD x5.toNat (0:Int)):Int) !=(b.getD x5.toNat (0:Int))) ((Q .ret (L2 [pB 4 false] []))) ((InR (x5+1))/\(N0 (Z8w a b (x5+1)))))) ((Q .ret (L2 [pB 4 true] []))))):
  A27 [1,1,0,1,0,0] (Z8w a b x5) (xT N0 (xB 0 (S27 [1,1,1] Q))):=
 Eq.mpr V5 h
def ZyP(a b:List Int):Prop:=AW (Z2 ZjE) Try.f27 Ztd [] (Zj (ZqY.can (a,b,())) []) (EQ Try.f27 (ZgW (a,b,())) [])
theorem Zwi(hb:∀ (a:List Int) (b:List Int) (_:Unit),Zet (a,b,())->ZyP a b):CT 27 ZbZ:=
 Z3 (l:=[]) Zk rfl trivial Ztd Try.func27 rfl rfl 2 (fun _=> rfl) V2 (fun ⟨a,b,_⟩=> hb a b ())
def Zt8:Ze U:=lvl [([0],[]),([0,3],[]),([0,3,16],[]),([0,3],[]),([0,3,4],[]),([2],[])]
def Z8m(l:List Int)(x3:Int):LSt U:=(L2 [(0,.c (sU .u64 l .unk)),pI 3 x3] [])
abbrev A34(p:List Nat):=AW (Z2 ZjE) Try.f34 Zt8 p
abbrev S34(p:List Nat):=SW (Z2 ZjE) Try.f34 Zt8 p
theorem ZBg(l:List Int)(Q:QT)(h:(Zi (A34 [1,1,0,0,0]) (Z8m l (l.length:Int)) (xB 0 (S34 [1,1,1] Q)))):
  A34 [] (L2 [(0,.c (sU .u64 l .unk))] []) Q:=
 Eq.mpr V5 h
theorem Zs6(l:List Int)(x3:Int)(N0:NT)(Q:QT)(h:let z0:=decide ((0:Int) < x3);(Tt z0)/\(z0=true->InR (x3 - 1))/\(Tt z0)/\(Tt z0)/\(z0=true->(0:Int)<=(x3 - 1)/\(x3 - 1) < (l.length:Int))/\(Tt z0)/\(Tt z0)/\(Tt z0)/\(iB (bif z0 then (((List.getD l (Int.toNat (x3 - 1)) (0:Int)):Int)==0) else false) ((InR (x3 - 1))/\(N0 (Z8m l (x3 - 1)))) ((((0:Int)<=x3/\x3<=(l.length:Int))/\((([]:List Int).length+(List.take x3.toNat l).length)*8<=140737488355328)/\(Q .ret (L2 [(2,.c (sU .u64 (([]:List Int)++(List.take x3.toNat l)) (.own (.e 2 0))))] [])))))):
  A34 [1,1,0,0,0] (Z8m l x3) (xT N0 (xB 0 (S34 [1,1,1] Q))):=
 Eq.mpr V5 h
def ZyI(l:List Int):Prop:=AW (Z2 ZjE) Try.f34 Zt8 [] (Zj (ZqT.can (l,())) []) (EQ Try.f34 (Zo4 (l,())) [])
theorem Zwc(hb:∀ (l:List Int) (_:Unit),Zhf (l,())->ZyI l):CT 34 ZbW:=
 Z3 (l:=[]) Zk rfl trivial Zt8 Try.func34 rfl rfl 1 (fun _=> rfl) V2 (fun ⟨l,_⟩=> hb l ())
def Zx6:Ze U:=lvl [([0],[]),([0,4],[]),([2],[]),([2],[])]
abbrev A40(p:List Nat):=AW (Z2 ZjE) Try.f40 Zx6 p
theorem ZBa(l:List Int)(Q:QT)(h:(((l=[])->(Q .ret (L2 [(2,.c (.nils))] [])))/\(True->((([]:List Int).length+l.length)*8<=140737488355328)/\(Q .ret (L2 [(2,.c (sU .u64 (([]:List Int)++l) (.own (.e 2 0))))] []))))):
  A40 [] (L2 [(0,.c (sU .u64 l .unk))] []) Q:=
 Eq.mpr V5 h
def ZyC(l:List Int):Prop:=AW (Z2 ZjE) Try.f40 Zx6 [] (Zj (ZqT.can (l,())) []) (EQ Try.f40 (Zuh (l,())) [])
theorem Zw9(hb:∀ (l:List Int) (_:Unit),Zhf (l,())->ZyC l):CT 40 ZbT:=
 Z3 (l:=[]) Zk rfl trivial Zx6 Try.func40 rfl rfl 1 (fun _=> rfl) V2 (fun ⟨l,_⟩=> hb l ())
def Zt1:Ze U:=lvl [([0,1],[]),([0,1,10],[]),([4],[]),([0,1,12,13],[]),([0,1,12,13,14],[]),([0,1,5,12,13],[]),([0,1,12,13,24],[]),([4],[]),([0,1,12,13],[]),([4],[])]
def Z8e(a b:List Int)(x13:Int):LSt U:=(L2 [(0,.c (sU .u64 a .unk)),(1,.c (sU .u64 b .unk)),pI 12 (a.length:Int),pI 13 x13] [])
abbrev A62(p:List Nat):=AW (Z2 ZjE) Try.f62 Zt1 p
abbrev S62(p:List Nat):=SW (Z2 ZjE) Try.f62 Zt1 p
theorem ZAO(a b:List Int)(Q:QT)(h:(iB (((a.length:Int):Int) !=(b.length:Int)) ((Q .ret (L2 [pB 4 false] []))) ((Zi (A62 [1,1,0,1,0,0]) (Z8e a b 0) (xB 0 (S62 [1,1,1] Q)))))):
  A62 [] (L2 [(0,.c (sU .u64 a .unk)),(1,.c (sU .u64 b .unk))] []) Q:=
 Eq.mpr V5 h
theorem ZrK(a b:List Int)(x13:Int)(N0:NT)(Q:QT)(h:(iB (decide (x13 < (a.length:Int))) ((((0:Int)<=x13/\x13 < (a.length:Int))/\((0:Int)<=x13/\x13 < (b.length:Int))/\(iB (((a.getD x13.toNat (0:Int)):Int) !=(b.getD x13.toNat (0:Int))) ((Q .ret (L2 [pB 4 false] []))) ((InR (x13+1))/\(N0 (Z8e a b (x13+1))))))) ((Q .ret (L2 [pB 4 true] []))))):
  A62 [1,1,0,1,0,0] (Z8e a b x13) (xT N0 (xB 0 (S62 [1,1,1] Q))):=
 Eq.mpr V5 h
def Zyg(a b:List Int):Prop:=AW (Z2 ZjE) Try.f62 Zt1 [] (Zj (ZqY.can (a,b,())) []) (EQ Try.f62 (ZgW (a,b,())) [])
theorem ZvW(hb:∀ (a:List Int) (b:List Int) (_:Unit),Zet (a,b,())->Zyg a b):CT 62 ZbZ:=
 Z3 (l:=[]) Zk rfl trivial Zt1 Try.func62 rfl rfl 2 (fun _=> rfl) V2 (fun ⟨a,b,_⟩=> hb a b ())
def ZwU:Ze U:=lvl [([1,2],[2]),([1,2,13],[2]),([4],[]),([4],[])]
abbrev A63(p:List Nat):=AW (Z2 ZjE) Try.f63 ZwU p
theorem ZAN(t:Tree)(i:Int)(Q:QT)(h:let z0:= !(decide (i < 0));((Tt z0)/\(Tt z0)/\(Tt z0)/\(Tt z0)/\((decide (i < 0))=false->z0=true)/\(iB (bif (decide (i < 0)) then true else (decide (((t.words.length:Int):Int)<=i))) ((Q .ret (L2 [(4,.c (.int .u64 0))] []))) (((0:Int)<=i/\i < (t.words.length:Int))/\(Q .ret (L2 [(4,.c (.int .u64 (t.words.getD i.toNat (0:Int))))] [])))))):
  A63 [] (L2 [(0,.agg (enc .tree t)),pI 1 i] []) Q:=
 Eq.mpr V5 h
def Zyf(t:Tree)(i:Int):Prop:=AW (Z2 ZjE) Try.f63 ZwU [] (Zj (ZqE.can (t,i,())) []) (EQ Try.f63 (ZkS (t,i,())) [])
theorem ZvV(hb:∀ (t:Tree) (i:Int) (_:Unit),Zep (t,i,())->Zyf t i):CT 63 Z48:=
 Z3 (l:=[]) Zk rfl trivial ZwU Try.func63 rfl rfl 2 (fun _=> rfl) V2 (fun ⟨t,i,_⟩=> hb t i ())
def ZwT:Ze U:=lvl [([1,2,4],[2,4]),([1,2,4,13],[2,4]),([4],[4]),([4],[4])]
abbrev A64(p:List Nat):=AW (Z2 ZjE) Try.f64 ZwT p
theorem ZAM(t:Tree)(i:Int)(Q:QT)(h:let z0:= !(decide (i < 0));((Tt z0)/\(Tt z0)/\(Tt z0)/\(Tt z0)/\((decide (i < 0))=false->z0=true)/\(iB (bif (decide (i < 0)) then true else (decide (((t.kids.length:Int):Int)<=i))) ((Q .ret (L2 [pL 4] [(.loc 4,[ci 0,.nils,.nils])]))) (((0:Int)<=i/\i < (t.kids.length:Int))/\(Q .ret (L2 [pL 4] [(.loc 4,(enc .tree (t.kids.getD i.toNat Tree.nil)))])))))):
  A64 [] (L2 [(0,.agg (enc .tree t)),pI 1 i] []) Q:=
 Eq.mpr V5 h
def Zye(t:Tree)(i:Int):Prop:=AW (Z2 ZjE) Try.f64 ZwT [] (Zj (ZqE.can (t,i,())) []) (EQ Try.f64 (ZkR (t,i,())) [])
theorem ZvU(hb:∀ (t:Tree) (i:Int) (_:Unit),Zep (t,i,())->Zye t i):CT 64 Z47:=
 Z3 (l:=[]) Zk rfl trivial ZwT Try.func64 rfl rfl 2 (fun _=> rfl) V2 (fun ⟨t,i,_⟩=> hb t i ())
def ZjI(N:Nat):List (FuncId × Fs U):=(18,fs Zr5 (fun a=> [Z0P a,Zmx a < N]) Zee) ::[(34,ZbW)]
def Zth:Ze U:=lvk [([1,2],[1,2]),([1,2,10],[1,2]),([2],[2]),([1,2,3],[1,2]),([1,2,3,4],[1,2]),([1,2,(3,[.own .tree]),4,5],[1,2]),([1,2,3,4,5,16],[1,2]),([1,2,(3,[.own .tree]),4,5],[1,2]),([1,2,3,4,5,6],[1,2,6]),([1,2,3,4,5,6],[1,2,6]),([1,2,3,4,5,31],[1,2]),([1,2,3,4,5],[1,2]),([1,2,3,4,36],[1,2]),([2],[2]),([1,2,3,7],[1,2]),([1,2,3,7],[1,2]),([2],[2])]
def Z5B(t:Tree)(x4 x5:Int)(x3:List Tree):LSt U:=(L2 [pL 1,pL 2,(3,.c (sU .tree x3 (.own (.e 3 0)))),pI 4 x4,pI 5 x5] [(.loc 1,(enc .tree t)),(.loc 2,[ci 0,.nils,.nils])])
abbrev A18(N:Nat)(p:List Nat):=AW (Z2 (ZjI N)) Try.f18 Zth p
abbrev S18(N:Nat)(p:List Nat):=SW (Z2 (ZjI N)) Try.f18 Zth p
theorem ZBw(N:Nat)(t:Tree)(Q:QT)(h:(iB (t.kind==0) ((Q .ret (L2 [pL 2] [(.loc 2,[ci 0,.nils,.nils])]))) ((Zi (A18 N [1,1,1,1,0,1,0,0]) (Z5B t 0 0 []) (xB 0 (S18 N [1,1,1,1,1] Q)))))):
  A18 N [] (L2 [(0,.agg (enc .tree t))] []) Q:=
 Eq.mpr V5 h
theorem Zso(N:Nat)(t:Tree)(x4 x5:Int)(x3:List Tree)(N0:NT)(Q:QT)(h:∀ y_1,y_1=(t.kids.getD x5.toNat Tree.nil)->∀ y_2,y_2=y_1->∀ y_3,y_3=(Z1 y_2)->(iB (decide (x5 < (t.kids.length:Int))) (((0:Int)<=x5/\x5 < (t.kids.length:Int))/\(Z0P (y_2,()))/\(Zmx (y_2,()) < N)/\(((x3.length+([y_3]).length)*56<=140737488355328)/\(iB (((Tree.kind (Z1 y_2)):Int) !=0) ((InR (x5+1))/\((InR (x5+1))/\(N0 (Z5B t (x5+1) (x5+1) (x3++([y_3])))))) ((InR (x5+1))/\(N0 (Z5B t x4 (x5+1) (x3++([y_3])))))))) ((iB (t.kind==1) ((Zhf (t.words,()))/\((0:Int)<=x4/\x4<=(x3.length:Int))/\(Q .ret (L2 [pL 2] [(.loc 2,[ci 1,sU .u64 (trim t.words) .unk,sU .tree (List.take x4.toNat x3) .unk])]))) ((((([]:List Int).length+t.words.length)*8<=140737488355328)/\(Q .ret (L2 [pL 2] [(.loc 2,[ci t.kind,sU .u64 (([]:List Int)++t.words) (.own (.l 2 1)),sU .tree x3 (.own (.l 2 2))])])))))))):
  A18 N [1,1,1,1,0,1,0,0] (Z5B t x4 x5 x3) (xT N0 (xB 0 (S18 N [1,1,1,1,1] Q))):=
 Eq.mpr V5 (h _ rfl _ (Za _) _ (Za _))
def ZyY(N:Nat)(t:Tree):Prop:=AW (Z2 (ZjI N)) Try.f18 Zth [] (Zj (Zr5.can (t,())) []) (EQ Try.f18 (Zee (t,())) [])
theorem Zwp(c34:CT 34 ZbW)(hb:∀ (N:Nat) (t:Tree) (_:Unit),Z0P (t,())->Zmx (t,()) < N+1->ZyY N t):CT 18 Z1y:=
 YO (μ:=Zmx) (l:=[(34,ZbW)]) Zk rfl (⟨c34,trivial⟩) Zth Try.func18 rfl rfl 1 (fun _=> rfl) V2 (fun N ⟨t,_⟩=> hb N t ())
def ZjH(N:Nat):List (FuncId × Fs U):=(22,fs Zr5 (fun a=> [Z0P a,Zmx a < N]) Zee) ::[(40,ZbT)]
def Ztg:Ze U:=lvk [([1,2],[1,2]),([1,2,8],[1,2]),([2],[2]),([1,2,3],[1,2,3]),([1,2,3,17,18,19],[1,2,((.loc 3),[.any,.any,.own .tree])]),([1,2,3,17,18,19,20],[1,2,3]),([1,2,3,5,17,18,19],[1,2,3,5]),([1,2,3,17,18,19],[1,2,3]),([1,2,3,17,18,19],[1,2,((.loc 3),[.any,.any,.own .tree])]),([2,3,33],[2,((.loc 3),[.any,.any,.unk .tree])]),([2,3,33,48],[2,((.loc 3),[.any,.any,.unk .tree])]),([2,3,33],[2,((.loc 3),[.any,.any,.unk .tree])]),([2,3,33,48,72],[2,3]),([2,3,33,48],[2,((.loc 3),[.any,.any,.unk .tree])]),([2],[2])]
def Z8B(t:Tree)(x19:Int)(ml3_2:List Tree):LSt U:=(L2 [pL 1,pL 2,pL 3,(17,.c (sU .tree t.kids .unk)),pI 18 (t.kids.length:Int),pI 19 x19] [(.loc 1,(enc .tree t)),(.loc 2,[ci 0,.nils,.nils]),(.loc 3,[ci t.kind,sU .u64 t.words .unk,sU .tree ml3_2 (.own (.l 3 2))])])
def Z8A(t:Tree)(ml3_2:List Tree)(ml3_1_a:List Int):LSt U:=(L2 [pL 2,pL 3,pB 33 ((t.kind:Int)==1)] [(.loc 2,[ci 0,.nils,.nils]),(.loc 3,[ci t.kind,sU .u64 ml3_1_a .unk,sU .tree ml3_2 .unk])])
def Z8z(t:Tree)(ml3_1_a:List Int)(ml3_2_b:List Tree):LSt U:=(L2 [pL 2,pL 3,pB 33 ((t.kind:Int)==1),(48,.c (.bool (bif (decide ((0:Int) < (ml3_1_a.length:Int))) then (((List.getD ml3_1_a (Int.toNat (((ml3_1_a.length:Int):Int) - 1)) (0:Int)):Int)==0) else false)))] [(.loc 2,[ci 0,.nils,.nils]),(.loc 3,[ci t.kind,sU .u64 ml3_1_a .unk,sU .tree ml3_2_b .unk])])
abbrev A22(N:Nat)(p:List Nat):=AW (Z2 (ZjH N)) Try.f22 Ztg p
abbrev S22(N:Nat)(p:List Nat):=SW (Z2 (ZjH N)) Try.f22 Ztg p
theorem ZBs(N:Nat)(t:Tree)(Q:QT)(h:(iB (t.kind==0) ((Q .ret (L2 [pL 2] [(.loc 2,[ci 0,.nils,.nils])]))) ((Zhf (t.words,()))/\(Zi (A22 N [1,1,1,0,1,0,0]) (Z8B t 0 []) (xB 0 (S22 N [1,1,1,1] Q)))))):
  A22 N [] (L2 [(0,.agg (enc .tree t))] []) Q:=
 Eq.mpr V5 h
theorem Zsn(N:Nat)(t:Tree)(x19:Int)(ml3_2:List Tree)(N0:NT)(Q:QT)(h:∀ y_1,y_1=(t.kids.getD x19.toNat Tree.nil)->∀ y_2,y_2=y_1->∀ y_3,y_3=(Z1 y_2)->(iB (decide (x19 < (t.kids.length:Int))) (((0:Int)<=x19/\x19 < (t.kids.length:Int))/\((Z0P (y_2,()))/\(Zmx (y_2,()) < N)/\((ml3_2.length+([y_3]).length)*56<=140737488355328)/\((InR (x19+1))/\(N0 (Z8B t (x19+1) (ml3_2++([y_3]))))))) ((iB (t.kind==1) (Zi (A22 N [1,1,1,1,0,1,0,0,0,0]) (Z8A t ml3_2 t.words) (xB 2 (S22 N [1,1,1,1,0,1,0,1] (S22 N [1,1,1,1,1] Q)))) ((Q .ret (L2 [pL 2] [(.loc 2,[ci t.kind,sU .u64 t.words .unk,sU .tree ml3_2 .unk])]))))))):
  A22 N [1,1,1,0,1,0,0] (Z8B t x19 ml3_2) (xT N0 (xB 0 (S22 N [1,1,1,1] Q))):=
 Eq.mpr V5 (h _ rfl _ (Za _) _ (Za _))
theorem Zsm(N:Nat)(t:Tree)(ml3_2:List Tree)(ml3_1_a:List Int)(N1:NT)(Q:QT)(h:let z0:=decide ((0:Int) < (ml3_1_a.length:Int));(Tt z0)/\(Tt z0)/\(Tt z0)/\(Tt z0)/\(z0=true->InR (((ml3_1_a.length:Int):Int) - 1))/\(Tt z0)/\(Tt z0)/\(z0=true->(0:Int)<=(((ml3_1_a.length:Int):Int) - 1)/\(((ml3_1_a.length:Int):Int) - 1) < (ml3_1_a.length:Int))/\(Tt z0)/\(Tt z0)/\(Tt z0)/\(iB (bif z0 then (((List.getD ml3_1_a (Int.toNat (((ml3_1_a.length:Int):Int) - 1)) (0:Int)):Int)==0) else false) ((InR (((ml3_1_a.length:Int):Int) - 1))/\((0:Int)<=(((ml3_1_a.length:Int):Int) - 1)/\(((ml3_1_a.length:Int):Int) - 1)<=(ml3_1_a.length:Int))/\(N1 (Z8A t ml3_2 (List.take (Int.toNat (((ml3_1_a.length:Int):Int) - 1)) ml3_1_a)))) (Zi (A22 N [1,1,1,1,0,1,0,1,0,0]) (Z8z t ml3_1_a ml3_2) (xB 4 (S22 N [1,1,1,1,1] Q))))):
  A22 N [1,1,1,1,0,1,0,0,0,0] (Z8A t ml3_2 ml3_1_a) (xT N1 (xB 2 (S22 N [1,1,1,1,0,1,0,1] (S22 N [1,1,1,1,1] Q)))):=
 Eq.mpr V5 h
theorem Zsl(N:Nat)(t:Tree)(ml3_1_a:List Int)(ml3_2_b:List Tree)(N2:NT)(Q:QT)(h:let z0:=decide ((0:Int) < (ml3_2_b.length:Int));(Tt z0)/\(Tt z0)/\(Tt z0)/\(Tt z0)/\(z0=true->InR (((ml3_2_b.length:Int):Int) - 1))/\(Tt z0)/\(Tt z0)/\(z0=true->(0:Int)<=(((ml3_2_b.length:Int):Int) - 1)/\(((ml3_2_b.length:Int):Int) - 1) < (ml3_2_b.length:Int))/\(Tt z0)/\(Tt z0)/\(Tt z0)/\(Tt z0)/\(iB (bif z0 then (((Tree.kind (List.getD ml3_2_b (Int.toNat (((ml3_2_b.length:Int):Int) - 1)) Tree.nil)):Int)==0) else false) ((InR (((ml3_2_b.length:Int):Int) - 1))/\((0:Int)<=(((ml3_2_b.length:Int):Int) - 1)/\(((ml3_2_b.length:Int):Int) - 1)<=(ml3_2_b.length:Int))/\(N2 (Z8z t ml3_1_a (List.take (Int.toNat (((ml3_2_b.length:Int):Int) - 1)) ml3_2_b)))) ((Q .ret (L2 [pL 2] [(.loc 2,[ci t.kind,sU .u64 ml3_1_a .unk,sU .tree ml3_2_b .unk])]))))):
  A22 N [1,1,1,1,0,1,0,1,0,0] (Z8z t ml3_1_a ml3_2_b) (xT N2 (xB 4 (S22 N [1,1,1,1,1] Q))):=
 Eq.mpr V5 h
def ZyU(N:Nat)(t:Tree):Prop:=AW (Z2 (ZjH N)) Try.f22 Ztg [] (Zj (Zr5.can (t,())) []) (EQ Try.f22 (Zee (t,())) [])
theorem Zwm(c40:CT 40 ZbT)(hb:∀ (N:Nat) (t:Tree) (_:Unit),Z0P (t,())->Zmx (t,()) < N+1->ZyU N t):CT 22 Z1y:=
 YO (μ:=Zmx) (l:=[(40,ZbT)]) Zk rfl (⟨c40,trivial⟩) Ztg Try.func22 rfl rfl 1 (fun _=> rfl) V2 (fun N ⟨t,_⟩=> hb N t ())
def ZjM(N:Nat):List (FuncId × Fs U):=(13,fs Zkh (fun a=> [Z6o a,Zmy a < N]) Zef) ::[(27,ZbZ)]
def Ztl:Ze U:=lvl [([2,3],[2,3]),([2,3,27],[2,3]),([4],[]),([2,3,5],[2,3]),([2,3,5,32],[2,3]),([2,3,5],[2,3]),([2,3,5,46],[2,3]),([4],[]),([4],[])]
def Z8I(a b:Tree)(x5:Int):LSt U:=(L2 [pL 2,pL 3,pI 5 x5] [(.loc 2,(enc .tree a)),(.loc 3,(enc .tree b))])
abbrev A13(N:Nat)(p:List Nat):=AW (Z2 (ZjM N)) Try.f13 Ztl p
abbrev S13(N:Nat)(p:List Nat):=SW (Z2 (ZjM N)) Try.f13 Ztl p
theorem ZBB(N:Nat)(a b:Tree)(Q:QT)(h:let z1:=a.kind !=b.kind;let z0:=bif z1 then true else (!(decide (a.words=b.words)));((Tt (!z1))/\(Tt (!z1))/\(Tt (!z1))/\(Tt (!z1))/\((!z1)=true->Zet (a.words,b.words,()))/\(Tt (!z1))/\(z1=false->(!z1)=true)/\(Tt (!z0))/\(Tt (!z0))/\(Tt (!z0))/\(Tt (!z0))/\(Tt (!z0))/\(Tt (!z0))/\(z0=false->(!z0)=true)/\(iB (bif z0 then true else (((a.kids.length:Int):Int) !=(b.kids.length:Int))) ((Q .ret (L2 [pB 4 false] []))) ((Zi (A13 N [1,1,0,1,0,0]) (Z8I a b 0) (xB 0 (S13 N [1,1,1] Q))))))):
  A13 N [] (L2 [(0,.agg (enc .tree a)),(1,.agg (enc .tree b))] []) Q:=
 Eq.mpr V5 h
theorem Zsv(N:Nat)(a b:Tree)(x5:Int)(N0:NT)(Q:QT)(h:∀ y_1,y_1=(a.kids.getD x5.toNat Tree.nil)->∀ y_2,y_2=(b.kids.getD x5.toNat Tree.nil)->∀ y_3,y_3=y_1->∀ y_4,y_4=y_2->(iB (decide (x5 < (a.kids.length:Int))) (((0:Int)<=x5/\x5 < (a.kids.length:Int))/\((0:Int)<=x5/\x5 < (b.kids.length:Int))/\(Z6o (y_3,y_4,()))/\(Zmy (y_3,y_4,()) < N)/\(iB (!(Yp y_3 y_4)) ((Q .ret (L2 [pB 4 false] []))) ((InR (x5+1))/\(N0 (Z8I a b (x5+1)))))) ((Q .ret (L2 [pB 4 true] []))))):
  A13 N [1,1,0,1,0,0] (Z8I a b x5) (xT N0 (xB 0 (S13 N [1,1,1] Q))):=
 Eq.mpr V5 (h _ rfl _ rfl _ (Za _) _ (Za _))
def Zz3(N:Nat)(a b:Tree):Prop:=AW (Z2 (ZjM N)) Try.f13 Ztl [] (Zj (Zkh.can (a,b,())) []) (EQ Try.f13 (Zef (a,b,())) [])
theorem Zwt(c27:CT 27 ZbZ)(hb:∀ (N:Nat) (a:Tree) (b:Tree) (_:Unit),Z6o (a,b,())->Zmy (a,b,()) < N+1->Zz3 N a b):CT 13 Z4V:=
 YO (μ:=Zmy) (l:=[(27,ZbZ)]) Zk rfl (⟨c27,trivial⟩) Ztl Try.func13 rfl rfl 2 (fun _=> rfl) V2 (fun N ⟨a,b,_⟩=> hb N a b ())
def Zjw(N:Nat):List (FuncId × Fs U):=(44,fs Zkh (fun a=> [Z4G a,Zmt a < N]) Zcn) ::[(62,ZbZ),(63,Z48),(64,Z47)]
def Zt5:Ze U:=lvl [([2,3],[2,3]),([2,3,16],[2,3]),([4],[]),([2,3,41],[2,3]),([4],[]),([2,3,48,49],[2,3]),([2,3,48,49,50],[2,3]),([2,3,5,48,49],[2,3]),([2,3,48,49,58],[2,3]),([4],[]),([2,3,48,49],[2,3]),([2,3,66,67],[2,3]),([2,3,66,67,68],[2,3]),([2,3,6,66,67],[2,3]),([2,3,66,67,77],[2,3]),([4],[]),([2,3,66,67],[2,3]),([4],[])]
def Z8l(a b:Tree)(x49:Int):LSt U:=(L2 [pL 2,pL 3,pI 48 (if ((a.words.length:Int):Int) < (b.words.length:Int) then (b.words.length:Int) else (a.words.length:Int)),pI 49 x49] [(.loc 2,(enc .tree a)),(.loc 3,(enc .tree b))])
def Z8k(a b:Tree)(x67_a:Int):LSt U:=(L2 [pL 2,pL 3,pI 66 (if ((a.kids.length:Int):Int) < (b.kids.length:Int) then (b.kids.length:Int) else (a.kids.length:Int)),pI 67 x67_a] [(.loc 2,(enc .tree a)),(.loc 3,(enc .tree b))])
abbrev A44(N:Nat)(p:List Nat):=AW (Z2 (Zjw N)) Try.f44 Zt5 p
abbrev S44(N:Nat)(p:List Nat):=SW (Z2 (Zjw N)) Try.f44 Zt5 p
theorem ZB6(N:Nat)(a b:Tree)(Q:QT)(h:let z2:=a.kind !=b.kind;let z1:=((a.kids.length:Int):Int) !=(b.kids.length:Int);let z0:=(a.kind !=1) && (!z1);((Tt (!z2))/\(Tt (!z2))/\(z2=false->(!z2)=true)/\(iB (bif z2 then true else (a.kind==0)) ((Q .ret (L2 [pB 4 (a.kind==b.kind)] []))) ((Tt (a.kind !=1))/\(Tt (a.kind !=1))/\(Tt (a.kind !=1))/\(Tt (a.kind !=1))/\(Tt (a.kind !=1))/\(Tt (a.kind !=1))/\(Tt (a.kind !=1))/\(Tt z0)/\(Tt z0)/\(Tt z0)/\(Tt z0)/\(z0=true->Zet (a.words,b.words,()))/\(Tt z0)/\((a.kind !=1)=true->(True->(a.kind !=1)=true))/\((a.kind !=1)=true->(z1=false->z0=true))/\(Tt (a.kind !=1))/\(iB (bif (a.kind !=1) then (bif z1 then true else (!(decide (a.words=b.words)))) else false) ((Q .ret (L2 [pB 4 false] []))) ((Zi (A44 N [1,1,1,0,1,0,0]) (Z8l a b 0) (xB 0 (S44 N [1,1,1,1] Q))))))))):
  A44 N [] (L2 [(0,.agg (enc .tree a)),(1,.agg (enc .tree b))] []) Q:=
 Eq.mpr V5 h
theorem ZrX(N:Nat)(a b:Tree)(x49:Int)(N0:NT)(Q:QT)(h:let z1:=Tree.mk b.kind b.words b.kids;let z0:=Tree.mk a.kind a.words a.kids;(iB (decide (x49 < (if ((a.words.length:Int):Int) < (b.words.length:Int) then (b.words.length:Int) else (a.words.length:Int)))) (((Zep (z0,x49,()))/\(Zep (z1,x49,()))/\(iB (((Yy z0 x49):Int) !=(Yy z1 x49)) ((Q .ret (L2 [pB 4 false] []))) ((InR (x49+1))/\(N0 (Z8l a b (x49+1))))))) ((Zi (A44 N [1,1,1,1,0,1,0,0]) (Z8k a b 0) (xB 2 (S44 N [1,1,1,1,1] Q)))))):
  A44 N [1,1,1,0,1,0,0] (Z8l a b x49) (xT N0 (xB 0 (S44 N [1,1,1,1] Q))):=
 Eq.mpr V5 h
theorem ZrW(N:Nat)(a b:Tree)(x67_a:Int)(N1:NT)(Q:QT)(h:∀ y_1,y_1=a->∀ y_2,y_2=b->∀ y_3,y_3=(Jt y_1 x67_a)->∀ y_4,y_4=(Jt y_2 x67_a)->(iB (decide (x67_a < (if ((a.kids.length:Int):Int) < (b.kids.length:Int) then (b.kids.length:Int) else (a.kids.length:Int)))) (((Zep (y_1,x67_a,()))/\(Zep (y_2,x67_a,()))/\(Z4G (y_3,y_4,()))/\(Zmt (y_3,y_4,()) < N)/\(iB (!(Yp (Z1 y_3) (Z1 y_4))) ((Q .ret (L2 [pB 4 false] []))) ((InR (x67_a+1))/\(N1 (Z8k a b (x67_a+1))))))) ((Q .ret (L2 [pB 4 true] []))))):
  A44 N [1,1,1,1,0,1,0,0] (Z8k a b x67_a) (xT N1 (xB 2 (S44 N [1,1,1,1,1] Q))):=
 Eq.mpr V5 (h _ (Za _) _ (Za _) _ (Za _) _ (Za _))
def Zyy(N:Nat)(a b:Tree):Prop:=AW (Z2 (Zjw N)) Try.f44 Zt5 [] (Zj (Zkh.can (a,b,())) []) (EQ Try.f44 (Zcn (a,b,())) [])
theorem Zw7(c62:CT 62 ZbZ)(c63:CT 63 Z48)(c64:CT 64 Z47)(hb:∀ (N:Nat) (a:Tree) (b:Tree) (_:Unit),Z4G (a,b,())->Zmt (a,b,()) < N+1->Zyy N a b):CT 44 Z0g:=
 YO (μ:=Zmt) (l:=[(62,ZbZ),(63,Z48),(64,Z47)]) Zk rfl (⟨c62,c63,c64,trivial⟩) Zt5 Try.func44 rfl rfl 2 (fun _=> rfl) V2 (fun N ⟨a,b,_⟩=> hb N a b ())
def ZpH:List (FuncId × Fs U):=[(18,Z1y),(13,Z4V)]
def Zx8:Ze U:=lvl [([2,3],[2,3]),([4],[])]
abbrev A35(p:List Nat):=AW (Z2 ZpH) Try.f35 Zx8 p
theorem ZBf(a b:Tree)(Q:QT)(h:let z5:=Tree.mk a.kind a.words a.kids;let z4:=Tree.mk b.kind b.words b.kids;let z1:=Z1 z4;let z3:=Tree.mk (Tree.kind z1) (Tree.words z1) (Tree.kids z1);let z0:=Z1 z5;let z2:=Tree.mk (Tree.kind z0) (Tree.words z0) (Tree.kids z0);((Z0P (z5,()))/\(Z0P (z4,()))/\(Z6o (z2,z3,()))/\(Q .ret (L2 [(4,.c (.bool (Yp z2 z3)))] [])))):
  A35 [] (L2 [(0,.agg (enc .tree a)),(1,.agg (enc .tree b))] []) Q:=
 Eq.mpr V5 h
def ZyH(a b:Tree):Prop:=AW (Z2 ZpH) Try.f35 Zx8 [] (Zj (Zkh.can (a,b,())) []) (EQ Try.f35 (Zcn (a,b,())) [])
theorem Zwb(c18:CT 18 Z1y)(c13:CT 13 Z4V)(hb:∀ (a:Tree) (b:Tree) (_:Unit),Z4G (a,b,())->ZyH a b):CT 35 Z0g:=
 Z3 (l:=[(18,Z1y),(13,Z4V)]) Zk rfl (⟨c18,c13,trivial⟩) Zx8 Try.func35 rfl rfl 2 (fun _=> rfl) V2 (fun ⟨a,b,_⟩=> hb a b ())
end
theorem vcU:(∀ {p q:Prop},(p->q->p/\q)=True)/\(∀ {p:Prop},(True/\p)=p)/\(∀ {p:Prop},(p/\True)=p)/\(∀ {p:Prop},(p->True)=True):=
 ⟨by intros;simp+contextual,by simp,by simp,by simp⟩
theorem Zc8:∀ {ks:List Tree} {i:Nat},Z22 ks->i < ks.length->Z23 (ks.getD i Tree.nil)
 | t ::_,0,h,_=> by simp only [Z22] at h;exact h.1
 | _ ::r,i+1,h,hi=> by simp only [Z22] at h;exact Zc8 (ks:=r) (i:=i) h.2 (by simpa using hi)
theorem Z0a:∀ {ks:List Tree} {i:Nat},i < ks.length->Zn (ks.getD i Tree.nil)<=Zl ks
 | t ::_,0,_=> by simp only [Zl,Qt];omega
 | t ::r,i+1,h=> by
  have:=Z0a (ks:=r) (i:=i) (by simpa using h)
  simp only [Zl,XX]
  omega
mutual
theorem YR:∀ (t:Tree) (d l:Int),-1<=ZF t d l/\ZF t d l<=max l (-1)
 | .mk _ w ks,d,l=> by
  simp only [ZF]
  split
  .omega
  .have:=Z0M ks (d - 1) (l - 1 - w.length) V0
   omega
theorem Z0M:∀ (ks:List Tree) (d l:Int),-1<=l->-1<=Zy ks d l/\Zy ks d l<=l
 | [],d,l,h=> by simp only [Zy];omega
 | t ::r,d,l,h=> by
  simp only [Zy]
  split
  .omega
  .have h1:=YR t d l
   have h2:=Z0M r d (ZF t d l) h1.1
   omega
end
theorem Zdu{ks:List Tree}{i:Nat}{d l:Int}(h:i < ks.length)(hl:0<=l):Zy (ks.drop i) d l=Zy (ks.drop (i+1)) d (ZF (ks.getD i Tree.nil) d l):=by
 rw [QL h]
 simp only [Zy]
 rw [JI]
 simp [List.getD,h]
theorem c25:Contract Try.prog cfg 25 Z4R:=by
 refine Zwj ?_
 rintro N ⟨k,ws,ks⟩ d l _ ⟨hs,h1,h2,h3,h4⟩ hN
 simp only [Z23,Zmv,Zn] at*
 refine ZBp N _ _ _ _ ?_;(try simp only [iB,vcT,forall_eq])
 (simp only [iB,vcS]);(try simp only [iB,vcT])
 try (simp only [Tree.eta,Edit.eta,Tree.kind_mk,Tree.words_mk,Tree.kids_mk])
 refine ⟨V4,V4,fun hc=> ?_,fun hc=> ?_⟩
 .have e:ZF (.mk k ws ks) d l= -1:=by
   simp only [ZF]
   rw [V1]
  simp only [ZgX,e]
  exact ⟨⟨rfl,⟨⟨rfl,rfl⟩,trivial⟩,trivial⟩,trivial⟩
 .have e:ZF (.mk k ws ks) d l=Zy ks (d - 1) (l - 1 - ws.length):=by
   simp only [ZF]
   rw [JI]
  simp only [ZgX,e]
  refine Zb (ι:=Int × Int) (fun p=> Z8x (.mk k ws ks) d l p.1 p.2) (fun p=> 0<=p.2/\p.2<=ks.length/\-1<=p.1/\p.1<=l/\Zy (ks.drop p.2.toNat) (d - 1) p.1=Zy ks (d - 1) (l - 1 - ws.length)) (fun p=> ((ks.length:Int) - p.2).toNat) (l - 1 - ws.length,0) rfl ⟨V0,V0,V0,V0,by simp⟩ ?_
  rintro ⟨l',i⟩ ⟨h5,h6,h7,h8,h9⟩
  dsimp only at*
  refine Zsj N _ _ _ _ _ _ _ ?_;(try simp only [iB,vcT,forall_eq])
  (simp only [iB,vcS]);(try simp only [iB,vcT])
  try (simp only [Tree.eta,Edit.eta,Tree.kind_mk,Tree.words_mk,Tree.kids_mk])
  refine ⟨fun hc=> ?_,fun hc=> ?_⟩
  .have hi:i.toNat < ks.length:=V0
   have hr:=YR (ks.getD i.toNat Tree.nil) (d - 1) l'
   have hn:=Z0a hi
   have hd:=Zdu (d:=d - 1) hi hc.2
   refine ⟨V0,V4,⟨Zc8 hs.2.2 hi,V3,V3,V3,V3⟩,by simp only [Zmv];omega,V4,⟨(ZF (ks.getD i.toNat Tree.nil) (d - 1) l',i+1),rfl,⟨V3,V3,V3,V3,?_⟩,V3⟩⟩
   dsimp only
   rw [<-h9,hd]
   congr 2
   omega
  .have e:Zy ks (d - 1) (l - 1 - ws.length)=l':=by
    rw [<-h9]
    by_cases hi:i < ks.length
    .rw [QL V0]
     simp only [Zy]
     rw [V1]
    .rw [QB V0]
     simp only [Zy]
   rw [e]
   exact ⟨⟨rfl,⟨⟨rfl,rfl⟩,trivial⟩,trivial⟩,trivial⟩
theorem c11:Contract Try.prog cfg 11 Z4W:=by
 refine Zwv c25 ?_
 intro t _ hp
 refine ZBD _ _ ?_;(try simp only [iB,vcT,forall_eq])
 try (simp only [Tree.eta,Edit.eta,Tree.kind_mk,Tree.words_mk,Tree.kids_mk])
 refine ⟨⟨hp,V3,V3,V3,V3⟩,?_⟩
 exact ⟨⟨rfl,⟨rfl,trivial⟩,trivial⟩,trivial⟩
theorem c40:Contract Try.prog cfg 40 ZbT:=by
 refine Zw9 ?_
 intro l _ hp
 refine ZBa _ _ ?_;(try simp only [iB,vcT,forall_eq])
 simp only [Zhf] at hp
 refine ⟨fun h=> ?_,⟨by simp only [Qn];omega,?_⟩⟩
 .subst h
  exact ⟨⟨rfl,⟨rfl,trivial⟩,trivial⟩,trivial⟩
 .exact ⟨⟨rfl,⟨⟨rfl,trivial⟩,trivial⟩,trivial⟩,trivial⟩
theorem Zbn{a b:List Int}{i:Int}(hi:0<=i)(ha:i < a.length)(hb:i < b.length):(a.drop i.toNat=b.drop i.toNat)↔(a.getD i.toNat 0=b.getD i.toNat 0/\a.drop (i+1).toNat=b.drop (i+1).toNat):=by
 have e:(i+1).toNat=i.toNat+1:=V0
 rw [QL V0,QL (l:=b) V0,e]
 simp only [List.cons.injEq,List.getD,Q2 (show i.toNat < a.length by omega),Q2 (show i.toNat < b.length by omega),QW]
theorem c27:Contract Try.prog cfg 27 ZbZ:=by
 refine Zwi ?_
 intro a b _ hp
 simp only [Zet] at hp
 refine ZBn _ _ _ ?_;(try simp only [iB,vcT,forall_eq])
 (simp only [iB,vcS]);(try simp only [iB,vcT])
 refine ⟨fun hc=> ?_,fun hc=> ?_⟩
 .have e:decide (a=b)=false:=by
   simp only [decide_eq_false_iff_not]
   rintro rfl
   omega
  simp only [ZgW,e]
  exact ⟨⟨rfl,⟨rfl,trivial⟩,trivial⟩,trivial⟩
 .have hl:a.length=b.length:=V0
  refine Zb (ι:=Int) (fun p=> Z8w a b p) (fun p=> 0<=p/\p<=a.length/\(a=b↔a.drop p.toNat=b.drop p.toNat)) (fun p=> ((a.length:Int) - p).toNat) 0 rfl ⟨V0,V0,by simp⟩ ?_
  rintro i ⟨h1,h2,h3⟩
  refine Zsi _ _ _ _ _ ?_;(try simp only [iB,vcT,forall_eq])
  (simp only [iB,vcS]);(try simp only [iB,vcT])
  refine ⟨fun hc=> ⟨V0,V0,fun hn=> ?_,fun he=> ⟨V4,i+1,rfl,⟨V0,V0,?_⟩,V0⟩⟩,fun hc=> ?_⟩
  .have e:decide (a=b)=false:=by
    simp only [decide_eq_false_iff_not,h3]
    rw [Zbn h1 hc V0]
    exact fun h=> hn h.1
   simp only [ZgW,e]
   exact ⟨⟨rfl,⟨rfl,trivial⟩,trivial⟩,trivial⟩
  .rw [h3,Zbn h1 hc V0]
   exact ⟨fun h=> h.2,fun h=> ⟨by simpa using he,h⟩⟩
  .have e:decide (a=b)=true:=by
    simp only [decide_eq_true_eq,h3]
    rw [QB V0,QB V0]
   simp only [ZgW,e]
   exact ⟨⟨rfl,⟨rfl,trivial⟩,trivial⟩,trivial⟩
theorem c63:Contract Try.prog cfg 63 Z48:=by
 refine ZvV ?_
 intro t i _ hp
 refine ZAN _ _ _ ?_;(try simp only [iB,vcT,forall_eq])
 (simp only [iB,vcS]);(try simp only [iB,vcT])
 (repeat (refine And.intro (by first | omega | (unfold InR;omega) | (dsimp only;omega)) ?_))
 refine ⟨fun hc=> ?_,fun hc=> ⟨V0,?_⟩⟩
 .have e:Yy t i=0:=by
   unfold Yy
   split
   .try rfl
   .rw [List.getD,Qq V0]
    try rfl
  simp only [ZkS,e]
  exact ⟨⟨rfl,⟨⟨rfl,rfl⟩,trivial⟩,trivial⟩,trivial⟩
 .have e:Yy t i=t.words.getD i.toNat 0:=by
   unfold Yy
   rw [JI]
  simp only [ZkS,e]
  exact ⟨⟨rfl,⟨⟨rfl,rfl⟩,trivial⟩,trivial⟩,trivial⟩
theorem c64:Contract Try.prog cfg 64 Z47:=by
 refine ZvU ?_
 intro t i _ hp
 refine ZAM _ _ _ ?_;(try simp only [iB,vcT,forall_eq])
 (simp only [iB,vcS]);(try simp only [iB,vcT])
 (repeat (refine And.intro (by first | omega | (unfold InR;omega) | (dsimp only;omega)) ?_))
 refine ⟨fun hc=> ?_,fun hc=> ⟨V0,?_⟩⟩
 .have e:Jt t i=Tree.nil:=by
   unfold Jt
   split
   .try rfl
   .rw [List.getD,Qq V0]
    try rfl
  simp only [ZkR,e]
  exact ⟨⟨rfl,⟨⟨rfl,rfl⟩,⟨rfl,⟨rfl,trivial⟩⟩⟩,trivial⟩,trivial⟩
 .have e:Jt t i=t.kids.getD i.toNat Tree.nil:=by
   unfold Jt
   rw [JI]
  simp only [ZkR,e]
  exact ⟨⟨rfl,⟨⟨rfl,rfl⟩,⟨rfl,trivial⟩,⟨rfl,trivial⟩,trivial⟩,trivial⟩,trivial⟩
theorem c62:Contract Try.prog cfg 62 ZbZ:=by
 refine ZvW ?_
 intro a b _ hp
 simp only [Zet] at hp
 refine ZAO _ _ _ ?_;(try simp only [iB,vcT,forall_eq])
 (simp only [iB,vcS]);(try simp only [iB,vcT])
 refine ⟨fun hc=> ?_,fun hc=> ?_⟩
 .have e:decide (a=b)=false:=by
   simp only [decide_eq_false_iff_not]
   rintro rfl
   omega
  simp only [ZgW,e]
  exact ⟨⟨rfl,⟨rfl,trivial⟩,trivial⟩,trivial⟩
 .have hl:a.length=b.length:=V0
  refine Zb (ι:=Int) (fun p=> Z8e a b p) (fun p=> 0<=p/\p<=a.length/\(a=b↔a.drop p.toNat=b.drop p.toNat)) (fun p=> ((a.length:Int) - p).toNat) 0 rfl ⟨V0,V0,by simp⟩ ?_
  rintro i ⟨h1,h2,h3⟩
  refine ZrK _ _ _ _ _ ?_;(try simp only [iB,vcT,forall_eq])
  (simp only [iB,vcS]);(try simp only [iB,vcT])
  refine ⟨fun hc=> ⟨V0,V0,fun hn=> ?_,fun he=> ⟨V4,i+1,rfl,⟨V0,V0,?_⟩,V0⟩⟩,fun hc=> ?_⟩
  .have e:decide (a=b)=false:=by
    simp only [decide_eq_false_iff_not,h3]
    rw [Zbn h1 hc V0]
    exact fun h=> hn h.1
   simp only [ZgW,e]
   exact ⟨⟨rfl,⟨rfl,trivial⟩,trivial⟩,trivial⟩
  .rw [h3,Zbn h1 hc V0]
   exact ⟨fun h=> h.2,fun h=> ⟨by simpa using he,h⟩⟩
  .have e:decide (a=b)=true:=by
    simp only [decide_eq_true_eq,h3]
    rw [QB V0,QB V0]
   simp only [ZgW,e]
   exact ⟨⟨rfl,⟨rfl,trivial⟩,trivial⟩,trivial⟩
theorem Zi5{a b:List Tree}{i:Int}(hi:0<=i)(ha:i < a.length)(hb:i < b.length):(a.drop i.toNat=b.drop i.toNat)↔(a.getD i.toNat Tree.nil=b.getD i.toNat Tree.nil/\a.drop (i+1).toNat=b.drop (i+1).toNat):=by
 have e:(i+1).toNat=i.toNat+1:=V0
 rw [QL V0,QL (l:=b) V0,e]
 simp only [List.cons.injEq,List.getD,Q2 (show i.toNat < a.length by omega),Q2 (show i.toNat < b.length by omega),QW]
theorem Yk{a b:Tree}:Yp a b=true↔a=b:=by simp [Yp]
theorem J8{a b:Tree}:Yp a b=false↔¬a=b:=by simp [Yp]
theorem Zw:∀ (ks:List Tree),ks.length<=Zl ks
 | []=> by simp [Zl]
 | t ::r=> by
  have:=Zw r
  have:1<=Zn t:=by cases t;simp only [Zn];omega
  simp only [Zl,Q7]
  omega
theorem c13:Contract Try.prog cfg 13 Z4V:=by
 refine Zwt c27 ?_
 rintro N ⟨k,ws,ks⟩ ⟨k',ws',ks'⟩ _ hp hN
 have hlen:=Zw ks
 simp only [Z6o,Zmy,Zn] at hp hN
 refine ZBB N _ _ _ ?_;(try simp only [iB,vcT,forall_eq])
 (simp only [iB,vcS]);(try simp only [iB,vcT])
 try (simp only [Tree.eta,Edit.eta,Tree.kind_mk,Tree.words_mk,Tree.kids_mk])
 have p69:Zet (ws,ws',()):=by simp only [Zet];omega
 refine ⟨fun _=> p69,fun hc=> ?_,fun hc=> ?_⟩
 .have e:Yp (.mk k ws ks) (.mk k' ws' ks')=false:=by
   rw [J8]
   intro h
   cases h
   simp at hc
  simp only [Zef,e]
  exact ⟨⟨rfl,⟨rfl,trivial⟩,trivial⟩,trivial⟩
 .have hc':(k=k'/\ws=ws')/\ks.length=ks'.length:=⟨hc.1,by have:=hc.2;omega⟩
  obtain ⟨⟨rfl,rfl⟩,hl⟩:=hc'
  refine Zb (ι:=Int) (fun p=> Z8I (.mk k ws ks) (.mk k ws ks') p) (fun p=> 0<=p/\p<=ks.length/\(Tree.mk k ws ks= .mk k ws ks'↔ks.drop p.toNat=ks'.drop p.toNat)) (fun p=> ((ks.length:Int) - p).toNat) 0 rfl ⟨V0,V0,by simp⟩ ?_
  rintro i ⟨h1,h2,h3⟩
  refine Zsv N _ _ _ _ _ ?_;(try simp only [iB,vcT,forall_eq])
  (simp only [iB,vcS]);(try simp only [iB,vcT])
  try (simp only [Tree.eta,Edit.eta,Tree.kind_mk,Tree.words_mk,Tree.kids_mk])
  refine ⟨fun hc=> ⟨V0,V0,?_,?_,fun hn=> ?_,fun he=> ⟨V4,i+1,rfl,⟨V0,V0,?_⟩,V0⟩⟩,fun hc=> ?_⟩
  .have:=Z0a (ks:=ks) (i:=i.toNat) V0
   simp only [Z6o]
   omega
  .have:=Z0a (ks:=ks) (i:=i.toNat) V0
   simp only [Zmy]
   omega
  .have e:Yp (.mk k ws ks) (.mk k ws ks')=false:=by
    rw [J8,h3,Zi5 h1 hc V0]
    rw [J8] at hn
    exact fun h=> hn h.1
   simp only [Zef,e]
   exact ⟨⟨rfl,⟨rfl,trivial⟩,trivial⟩,trivial⟩
  .rw [h3,Zi5 h1 hc V0]
   exact ⟨fun h=> h.2,fun h=> ⟨Yk.1 he,h⟩⟩
  .have e:Yp (.mk k ws ks) (.mk k ws ks')=true:=by
    rw [Yk,h3]
    rw [QB V0,QB V0]
   simp only [Zef,e]
   exact ⟨⟨rfl,⟨rfl,trivial⟩,trivial⟩,trivial⟩
theorem Z91:∀ (l:List Int),trim (l++[0])=trim l
 | []=> rfl
 | x ::r=> by
  show (match trim (r++[0]) with | []=> if x=0 then [] else [x] | y ::s=> x ::y ::s)=_
  rw [Z91 r]
  try rfl
theorem Zf8{x:Int}(hx:x≠0):∀ (l:List Int),trim (l++[x])=l++[x]
 | []=> by simp [trim,hx]
 | y ::r=> by
  show (match trim (r++[x]) with | []=> if y=0 then [] else [y] | z ::s=> y ::z ::s)=_
  rw [Zf8 hx r]
  cases r <;> rfl
theorem Z95{l:List Int}{i:Int}(h0:0 < i)(hi:i<=l.length):l.take i.toNat=l.take (i - 1).toNat++[l.getD (i - 1).toNat 0]:=by
 have e:i.toNat=(i - 1).toNat+1:=V0
 rw [e,Xn]
 simp only [List.getD,Q2 (show (i - 1).toNat < l.length by omega),Option.toList,QW]
theorem c34:Contract Try.prog cfg 34 ZbW:=by
 refine Zwc ?_
 intro l _ hp
 simp only [Zhf] at hp
 refine ZBg _ _ ?_;(try simp only [iB,vcT,forall_eq])
 refine Zb (ι:=Int) (fun p=> Z8m l p) (fun p=> 0<=p/\p<=l.length/\trim (l.take p.toNat)=trim l) (fun p=> p.toNat) (l.length:Int) rfl ⟨V0,V0,by simp⟩ ?_
 rintro i ⟨h1,h2,h3⟩
 refine Zs6 _ _ _ _ ?_;(try simp only [iB,vcT,forall_eq])
 (simp only [iB,vcS]);(try simp only [iB,vcT])
 refine ⟨fun h=> by unfold InR;omega,fun h=> by omega,fun hc=> ⟨V4,i - 1,rfl,⟨V0,V0,?_⟩,V0⟩,fun hc=> ⟨V0,?_,?_⟩⟩
 .rw [Z95 hc.1 h2,hc.2,Z91] at h3
  exact h3
 .simp only [Qn,Qj]
  omega
 .have e:trim l=[]++l.take i.toNat:=by
   rw [<-h3]
   by_cases h0:0 < i
   .rw [Z95 h0 h2,Zf8 (by rcases hc with h | h;exact absurd h0 h;exact h)]
    try rfl
   .have:i.toNat=0:=V0
    rw [this]
    try rfl
  simp only [Zo4,e]
  exact ⟨⟨rfl,⟨⟨rfl,trivial⟩,trivial⟩,trivial⟩,trivial⟩
theorem Zgr:∀ (l:List Int),(trim l).length<=l.length
 | []=> by simp [trim]
 | x ::r=> by
  have:=Zgr r
  simp only [trim]
  split
  .split <;> simp
  .rename_i h
   rw [h] at this
   simp at*
   omega
theorem Zbv:∀ (l:List Tree),Zl (Yh l)<=Zl l
 | []=> by simp [Yh]
 | x ::r=> by
  have:=Zbv r
  simp only [Yh]
  split
  .split
   .simp [Zl]
   .simp [Zl]
  .rename_i h
   rw [h] at this
   simp only [Zl] at*
   omega
mutual
theorem Yt:∀ (t:Tree),Zn (Z1 t)<=Zn t
 | .mk k w ks=> by
  have h1:=ZcK ks
  have h2:=Zgr w
  have h3:=Zbv (Yf ks)
  simp only [Z1]
  split
  .simp only [Tree.nil,Zn,Zl,Qn];omega
  .split
   .simp only [Zn];omega
   .simp only [Zn];omega
theorem ZcK:∀ (ks:List Tree),Zl (Yf ks)<=Zl ks
 | []=> by simp [Yf]
 | t ::r=> by
  have h1:=Yt t
  have h2:=ZcK r
  simp only [Yf,Zl]
  omega
end
theorem Z9v:∀ (l:List Tree) (x:Tree),Yf (l++[x])=Yf l++[Z1 x]
 | [],x=> rfl
 | y ::r,x=> by simp only [Qw,Yf,Z9v r x]
theorem Z18:∀ (l:List Tree),(Yf l).length=l.length
 | []=> rfl
 | y ::r=> by simp only [Yf,Q7,Z18 r]
theorem Z6A{x:Tree}(hx:x.kind=0):∀ (l:List Tree),Yh (l++[x])=Yh l
 | []=> by simp [Yh,hx]
 | y ::r=> by
  show (match Yh (r++[x]) with | []=> if y.kind=0 then [] else [y] | z ::s=> y ::z ::s)=_
  rw [Z6A hx r]
  try rfl
theorem Zbu{x:Tree}(hx:x.kind≠0):∀ (l:List Tree),Yh (l++[x])=l++[x]
 | []=> by simp [Yh,hx]
 | y ::r=> by
  show (match Yh (r++[x]) with | []=> if y.kind=0 then [] else [y] | z ::s=> y ::z ::s)=_
  rw [Zbu hx r]
  cases r <;> rfl
theorem Z6B{l:List Tree}{i:Int}(h0:0<=i)(hi:i < l.length):l.take (i+1).toNat=l.take i.toNat++[l.getD i.toNat Tree.nil]:=by
 have e:(i+1).toNat=i.toNat+1:=V0
 rw [e,Xn]
 simp only [List.getD,Q2 (show i.toNat < l.length by omega),Option.toList,QW]
theorem c18:Contract Try.prog cfg 18 Z1y:=by
 refine Zwp c34 ?_
 rintro N ⟨k,ws,ks⟩ _ hp hN
 have hlen:=Zw ks
 simp only [Z0P,Zmx,Zn] at hp hN
 refine ZBw N _ _ ?_;(try simp only [iB,vcT,forall_eq])
 (simp only [iB,vcS]);(try simp only [iB,vcT])
 try (simp only [Tree.eta,Edit.eta,Tree.kind_mk,Tree.words_mk,Tree.kids_mk])
 refine ⟨fun hc=> ?_,fun hc0=> ?_⟩
 .have e:Z1 (.mk k ws ks)=Tree.nil:=by simp [Z1,hc]
  simp only [Zee,e]
  exact ⟨⟨rfl,⟨⟨rfl,rfl⟩,⟨rfl,⟨rfl,trivial⟩⟩⟩,trivial⟩,trivial⟩
 .refine Zb (ι:=Int × Int × List Tree) (fun p=> Z5B (.mk k ws ks) p.1 p.2.1 p.2.2) (fun p=> 0<=p.2.1/\p.2.1<=ks.length/\0<=p.1/\p.1<=p.2.1/\p.2.2=Yf (ks.take p.2.1.toNat)/\Yh (Yf (ks.take p.2.1.toNat))=p.2.2.take p.1.toNat) (fun p=> ((ks.length:Int) - p.2.1).toNat) (0,0,[]) rfl ⟨V3,V3,V3,V3,rfl,rfl⟩ ?_
  rintro ⟨last,i,l⟩ ⟨h1,h2,h3,h4,h5,h6⟩
  dsimp only at*
  have hl:l.length=i.toNat:=by rw [h5,Z18,Qj];omega
  refine Zso N _ _ _ _ _ _ ?_;(try simp only [iB,vcT,forall_eq])
  (simp only [iB,vcS]);(try simp only [iB,vcT])
  try (simp only [Tree.eta,Edit.eta,Tree.kind_mk,Tree.words_mk,Tree.kids_mk])
  refine ⟨fun hc=> ?_,fun hc=> ⟨fun h1=> ⟨?_,V0,?_⟩,fun hk=> ⟨?_,?_⟩⟩⟩
  .have hm:=Z0a (ks:=ks) (i:=i.toNat) V0
   have hnx:Yf (ks.take (i+1).toNat)=l++[Z1 (ks.getD i.toNat Tree.nil)]:=by rw [Z6B h1 hc,Z9v,h5]
   refine ⟨V0,by simp only [Z0P];omega,by simp only [Zmx];omega,by simp only [Q7,Qn];omega,fun hk=> ⟨V4,V4,(i+1,i+1,_),rfl,⟨V3,V3,V3,V3,hnx.symm,?_⟩,V3⟩,fun hk=> ⟨V4,(last,i+1,_),rfl,⟨V3,V3,V3,V3,hnx.symm,?_⟩,V3⟩⟩
   .dsimp only
    rw [hnx,Zbu hk,Qr (by simp;omega)]
   .dsimp only
    rw [hnx,Z6A hk,List.take_append_of_le_length V0,<-h6,h5]
  .simp only [Zhf];omega
  .have hi:ks.take i.toNat=ks:=Qr V0
   rw [hi] at h5 h6
   have e:Z1 (.mk k ws ks)= .mk 1 (trim ws) (l.take last.toNat):=by
    subst h1
    simp only [Z1,<-h6]
    try rfl
   simp only [Zee,e]
   exact ⟨⟨rfl,⟨⟨rfl,rfl⟩,⟨rfl,trivial⟩,⟨rfl,trivial⟩,trivial⟩,trivial⟩,trivial⟩
  .simp only [Qn];omega
  .have hi:ks.take i.toNat=ks:=Qr V0
   rw [hi] at h5
   have e:Z1 (.mk k ws ks)= .mk k ([]++ws) l:=by
    simp only [Z1,if_neg hc0,if_neg hk,h5]
    try rfl
   simp only [Zee,e]
   exact ⟨⟨rfl,⟨⟨rfl,rfl⟩,⟨rfl,trivial⟩,⟨rfl,trivial⟩,trivial⟩,trivial⟩,trivial⟩
theorem c35:Contract Try.prog cfg 35 Z0g:=by
 refine Zwb c18 c13 ?_
 intro a b _ hp
 have h1:=Yt a
 simp only [Z4G] at hp
 refine ZBf _ _ _ ?_;(try simp only [iB,vcT,forall_eq])
 try (simp only [Tree.eta,Edit.eta,Tree.kind_mk,Tree.words_mk,Tree.kids_mk])
 refine ⟨hp.1,hp.2,?_,?_⟩
 .simp only [Z6o];omega
 .exact ⟨⟨rfl,⟨rfl,trivial⟩,trivial⟩,trivial⟩
theorem Zlt{l:List Int}(h0:0 < (l.length:Int)):l=l.take ((l.length:Int) - 1).toNat++[l.getD ((l.length:Int) - 1).toNat 0]:=by
 have:=Z95 h0 (Xg _)
 rw [Qr V0] at this
 exact this
theorem ZhP{l:List Tree}(h0:0 < (l.length:Int)):l=l.take ((l.length:Int) - 1).toNat++[l.getD ((l.length:Int) - 1).toNat Tree.nil]:=by
 have:=Z6B (l:=l) (i:=(l.length:Int) - 1) V0 V0
 rw [Qr V0] at this
 exact this
theorem ZlX{l:List Int}(h0:0 < (l.length:Int))(hz:l.getD ((l.length:Int) - 1).toNat 0=0):trim (l.take ((l.length:Int) - 1).toNat)=trim l:=by
 have e:=Z91 (l.take ((l.length:Int) - 1).toNat)
 have h:=Zlt h0
 rw [hz] at h
 rw [<-h] at e
 exact e.symm
theorem ZlZ{l:List Int}(h:¬0 < (l.length:Int)\/¬l.getD ((l.length:Int) - 1).toNat 0=0):trim l=l:=by
 by_cases h0:0 < (l.length:Int)
 .have e:=Zf8 (x:=l.getD ((l.length:Int) - 1).toNat 0) (by rcases h with h | h;exact absurd h0 h;exact h) (l.take ((l.length:Int) - 1).toNat)
  rw [<-Zlt h0] at e
  exact e
 .have:l=[]:=Q3 V0
  subst this
  try rfl
theorem Ziv{l:List Tree}(h0:0 < (l.length:Int))(hz:(l.getD ((l.length:Int) - 1).toNat Tree.nil).kind=0):Yh (l.take ((l.length:Int) - 1).toNat)=Yh l:=by
 have e:=Z6A hz (l.take ((l.length:Int) - 1).toNat)
 rw [<-ZhP h0] at e
 exact e.symm
theorem Zix{l:List Tree}(h:¬0 < (l.length:Int)\/¬(l.getD ((l.length:Int) - 1).toNat Tree.nil).kind=0):Yh l=l:=by
 by_cases h0:0 < (l.length:Int)
 .have e:=Zbu (x:=l.getD ((l.length:Int) - 1).toNat Tree.nil) (by rcases h with h | h;exact absurd h0 h;exact h) (l.take ((l.length:Int) - 1).toNat)
  rw [<-ZhP h0] at e
  exact e
 .have:l=[]:=Q3 V0
  subst this
  try rfl
theorem c22:Contract Try.prog cfg 22 Z1y:=by
 refine Zwm c40 ?_
 rintro N ⟨k,ws,ks⟩ _ hp hN
 have hlen:=Zw ks
 simp only [Z0P,Zmx,Zn] at hp hN
 refine ZBs N _ _ ?_;(try simp only [iB,vcT,forall_eq])
 (simp only [iB,vcS]);(try simp only [iB,vcT])
 try (simp only [Tree.eta,Edit.eta,Tree.kind_mk,Tree.words_mk,Tree.kids_mk])
 refine ⟨fun hc=> ?_,fun hc0=> ⟨by simp only [Zhf];omega,?_⟩⟩
 .have e:Z1 (.mk k ws ks)=Tree.nil:=by simp [Z1,hc]
  simp only [Zee,e]
  exact ⟨⟨rfl,⟨⟨rfl,rfl⟩,⟨rfl,⟨rfl,trivial⟩⟩⟩,trivial⟩,trivial⟩
 .refine Zb (ι:=Int × List Tree) (fun p=> Z8B (.mk k ws ks) p.1 p.2) (fun p=> 0<=p.1/\p.1<=ks.length/\p.2=Yf (ks.take p.1.toNat)) (fun p=> ((ks.length:Int) - p.1).toNat) (0,[]) rfl ⟨V3,V3,rfl⟩ ?_
  rintro ⟨i,l⟩ ⟨h1,h2,h5⟩
  dsimp only at*
  have hl:l.length=i.toNat:=by rw [h5,Z18,Qj];omega
  refine Zsn N _ _ _ _ _ ?_;(try simp only [iB,vcT,forall_eq])
  (simp only [iB,vcS]);(try simp only [iB,vcT])
  try (simp only [Tree.eta,Edit.eta,Tree.kind_mk,Tree.words_mk,Tree.kids_mk])
  refine ⟨fun hc=> ?_,fun hc=> ⟨fun hk=> ?_,fun hk=> ?_⟩⟩
  .have hm:=Z0a (ks:=ks) (i:=i.toNat) V0
   have hnx:Yf (ks.take (i+1).toNat)=l++[Z1 (ks.getD i.toNat Tree.nil)]:=by rw [Z6B h1 hc,Z9v,h5]
   exact ⟨V0,by simp only [Z0P];omega,by simp only [Zmx];omega,by simp only [Q7,Qn];omega,V4,(i+1,_),rfl,⟨V3,V3,hnx.symm⟩,V3⟩
  .have hi:ks.take i.toNat=ks:=Qr V0
   rw [hi] at h5
   refine Zb (ι:=List Int) (fun p=> Z8A (.mk k ws ks) l p) (fun p=> p.length<=ws.length/\trim p=trim ws) (fun p=> p.length) ws rfl ⟨V0,rfl⟩ ?_
   rintro w ⟨h6,h7⟩
   refine Zsm N _ _ _ _ _ ?_;(try simp only [iB,vcT,forall_eq])
   (simp only [iB,vcS]);(try simp only [iB,vcT])
   refine ⟨fun h=> by unfold InR;omega,fun h=> by omega,fun hc=> ⟨V4,V0,_,rfl,⟨by rw [List.length_take];omega,?_⟩,by rw [List.length_take];omega⟩,fun hc=> ?_⟩
   .rw [ZlX hc.1 hc.2,h7]
   .have hw:w=trim ws:=by rw [<-h7,ZlZ hc]
    refine Zb (ι:=List Tree) (fun p=> Z8z (.mk k ws ks) w p) (fun p=> p.length<=l.length/\Yh p=Yh l) (fun p=> p.length) l rfl ⟨V0,rfl⟩ ?_
    rintro q ⟨h8,h9⟩
    refine Zsl N _ _ _ _ _ ?_;(try simp only [iB,vcT,forall_eq])
    (simp only [iB,vcS]);(try simp only [iB,vcT])
    refine ⟨fun h=> by unfold InR;omega,fun h=> by omega,fun hc=> ⟨V4,V0,_,rfl,⟨by rw [List.length_take];omega,?_⟩,by rw [List.length_take];omega⟩,fun hc=> ?_⟩
    .rw [Ziv hc.1 hc.2,h9]
    .have hq:q=Yh (Yf ks):=by rw [<-h5,<-h9,Zix hc]
     have e:Z1 (.mk k ws ks)= .mk k w q:=by
      subst hk
      simp only [Z1,hw,hq]
      try rfl
     simp only [Zee,e]
     exact ⟨⟨rfl,⟨⟨rfl,rfl⟩,⟨rfl,trivial⟩,⟨rfl,trivial⟩,trivial⟩,trivial⟩,trivial⟩
  .have hi:ks.take i.toNat=ks:=Qr V0
   rw [hi] at h5
   have e:Z1 (.mk k ws ks)= .mk k ws l:=by simp only [Z1,if_neg hc0,if_neg hk,h5]
   simp only [Zee,e]
   exact ⟨⟨rfl,⟨⟨rfl,rfl⟩,⟨rfl,trivial⟩,⟨rfl,trivial⟩,trivial⟩,trivial⟩,trivial⟩
noncomputable section
def ZqN:ArgL (Int × Unit):=(.cons (Yu .i64) .nil)
def Zoq(a:Int × Unit):Prop:=True
def Zue(a:Int × Unit):V U:= .c (ci (wd a.1))
def ZbQ:Fs U:=fs ZqN (fun a=> [Zoq a]) Zue
def ZqU:ArgL (Int × Int × Unit):=(.cons (Yu .i64) (.cons (Yu .u64) .nil))
def Zld(a:Int × Int × Unit):Prop:=0<=a.2.1/\a.2.1 < 18446744073709551616
def Zuj(a:Int × Int × Unit):V U:= .c (.bool (ZfV a.1 a.2.1))
def ZbX:Fs U:=fs ZqU (fun a=> [Zld a]) Zuj
def Zo0(a:Int × Unit):V U:= .tup [(false,[ci (if wd a.1 < 0 then 0 else wd a.1)]),(false,[.bool (decide (0<=wd a.1))])]
def ZbH:Fs U:=fs ZqN (fun a=> [Zoq a]) Zo0
def Zuc(a:Int × Unit):V U:= .c (.bool (decide (2<=a.1/\a.1<=9)))
def Z2T:Fs U:=fs ZqN (fun a=> [Zoq a]) Zuc
def Zu3(a:Int × Unit):V U:= .c (.bool (decide (2<=a.1/\a.1<=7)))
def Z4Q:Fs U:=fs ZqN (fun a=> [Zoq a]) Zu3
def ZqJ:ArgL (Int × Tree × Unit):=(.cons (Yu .i64) (.cons (aEl .tree) .nil))
def Zlc(a:Int × Tree × Unit):Prop:=rng a.2.1
def Zub(a:Int × Tree × Unit):V U:= .c (.bool (Z0r a.1 a.2.1))
def ZbP:Fs U:=fs ZqJ (fun a=> [Zlc a]) Zub
def Zar(a:Tree × Int × Unit):Prop:=Zn a.1<=20000000000/\rng a.1/\0<=a.2.1/\a.2.1<=1000
def Zhy(a:Tree × Int × Unit):Nat:=Zn a.1
def ZkU(a:Tree × Int × Unit):V U:= .c (.bool (Z9 a.1 a.2.1))
def ZbV:Fs U:=fs ZqE (fun a=> [Zar a]) ZkU
def Zcy(a:Tree × Unit):Prop:=Zn a.1<=20000000000/\rng a.1
def Zun(a:Tree × Unit):V U:= .c (.bool (Z9 a.1 64))
def Z1Z:Fs U:=fs Zr5 (fun a=> [Zcy a]) Zun
def Zx3:Ze U:=lvl [([0],[]),([3],[]),([3,4],[]),([2],[]),([3,6],[]),([2],[]),([3,8],[]),([2],[]),([3,10],[]),([2],[]),([3,12],[]),([2],[]),([14],[]),([2],[]),([2],[])]
abbrev A49(p:List Nat):=AW (Z2 ZjE) Try.f49 Zx3 p
theorem ZB1(c:Int)(Q:QT)(h:(iB (c==0) ((Q .ret (L2 [pI 2 0] []))) ((iB (c==1) ((Q .ret (L2 [pI 2 1] []))) ((iB (c==2) ((Q .ret (L2 [pI 2 8] []))) ((iB (c==3) ((Q .ret (L2 [pI 2 16] []))) ((iB (c==4) ((Q .ret (L2 [pI 2 32] []))) ((iB (c==5) ((Q .ret (L2 [pI 2 64] []))) ((Q .ret (L2 [pI 2 (-1)] []))))))))))))))):
  A49 [] (L2 [pI 0 c] []) Q:=
 Eq.mpr V5 h
def Zyt(c:Int):Prop:=AW (Z2 ZjE) Try.f49 Zx3 [] (Zj (ZqN.can (c,())) []) (EQ Try.f49 (Zue (c,())) [])
theorem Zw4(hb:∀ (c:Int) (_:Unit),Zoq (c,())->Zyt c):CT 49 ZbQ:=
 Z3 (l:=[]) Zk rfl trivial Zx3 Try.func49 rfl rfl 1 (fun _=> rfl) V2 (fun ⟨c,_⟩=> hb c ())
def ZjA:List (FuncId × Fs U):=[(49,ZbQ)]
def Zt9:Ze U:=lvl [([0,1],[]),([1,5],[]),([1,5,10],[]),([4],[]),([1,5,6],[]),([1,5,6,13],[]),([1,5,6],[]),([1,5,6],[]),([4],[])]
def Z8n(c n x1 x6:Int):LSt U:=(L2 [(1,.c (.int .u64 x1)),pI 5 (wd c),pI 6 x6] [])
abbrev A33(p:List Nat):=AW (Z2 ZjA) Try.f33 Zt9 p
abbrev S33(p:List Nat):=SW (Z2 ZjA) Try.f33 Zt9 p
theorem ZBh(c n:Int)(Q:QT)(h:((Zoq (c,()))/\(iB (decide (((wd c):Int) < 0)) ((Q .ret (L2 [pB 4 false] []))) ((Zi (A33 [1,1,1,0,1,0,0]) (Z8n c n n 0) (xB 0 (S33 [1,1,1,1] Q))))))):
  A33 [] (L2 [pI 0 c,(1,.c (.int .u64 n))] []) Q:=
 Eq.mpr V5 h
theorem Zs7(c n x1 x6:Int)(N0:NT)(Q:QT)(h:(iB (decide (x6 < (wd c))) (((2:Int)≠0)/\((InR (x6+1))/\(N0 (Z8n c n (IntKind.wrap .u64 (Int.tdiv x1 2)) (x6+1))))) ((Q .ret (L2 [pB 4 (x1==0)] []))))):
  A33 [1,1,1,0,1,0,0] (Z8n c n x1 x6) (xT N0 (xB 0 (S33 [1,1,1,1] Q))):=
 Eq.mpr V5 h
def ZyJ(c n:Int):Prop:=AW (Z2 ZjA) Try.f33 Zt9 [] (Zj (ZqU.can (c,n,())) []) (EQ Try.f33 (Zuj (c,n,())) [])
theorem Zwd(c49:CT 49 ZbQ)(hb:∀ (c:Int) (n:Int) (_:Unit),Zld (c,n,())->ZyJ c n):CT 33 ZbX:=
 Z3 (l:=[(49,ZbQ)]) Zk rfl (⟨c49,trivial⟩) Zt9 Try.func33 rfl rfl 2 (fun _=> rfl) V2 (fun ⟨c,n,_⟩=> hb c n ())
def ZwI:Ze U:=lvl [([0],[]),([0,4],[4]),([0,4,11],[4]),([2,3],[]),([2,3],[])]
abbrev A84(p:List Nat):=AW (Z2 ZjE) Try.f84 ZwI p
theorem ZAt(c:Int)(Q:QT)(h:((Tt (!(decide (c < 0))))/\((decide (c < 0))=false->(!(decide (c < 0)))=true)/\(iB (bif (decide (c < 0)) then true else (decide ((6:Int)<=c))) ((Q .ret (L2 [pI 2 0,pB 3 false] []))) (((0:Int)<=c/\c < ((6:Nat):Int))/\(Q .ret (L2 [pI 2 (List.getD [0,1,8,16,32,64] c.toNat 0),pB 3 true] [])))))):
  A84 [] (L2 [pI 0 c] []) Q:=
 Eq.mpr V5 h
def ZxV(c:Int):Prop:=AW (Z2 ZjE) Try.f84 ZwI [] (Zj (ZqN.can (c,())) []) (EQ Try.f84 (Zo0 (c,())) [])
theorem ZvE(hb:∀ (c:Int) (_:Unit),Zoq (c,())->ZxV c):CT 84 ZbH:=
 Z3 (l:=[]) Zk rfl trivial ZwI Try.func84 rfl rfl 1 (fun _=> rfl) V2 (fun ⟨c,_⟩=> hb c ())
def Zpo:List (FuncId × Fs U):=[(84,ZbH)]
def ZwP:Ze U:=lvl [([0,1],[]),([1,5,6],[]),([4],[])]
abbrev A72(p:List Nat):=AW (Z2 Zpo) Try.f72 ZwP p
theorem ZAE(c n:Int)(Q:QT)(h:let z2:=((if wd c < 0 then 0 else wd c):Int)==64;let z1:=decide (0<=wd c);let z0:=z1 && (!z2);((Zoq (c,()))/\((Tt z1)/\(Tt z1)/\(Tt z0)/\(Tt z0)/\(z0=true->(0:Int)<=(if wd c < 0 then 0 else wd c))/\(Tt z0)/\(z1=true->(True->z1=true))/\(z1=true->(z2=false->z0=true))/\(Tt z1)/\(Q .ret (L2 [(4,.c (.bool (bif z1 then (bif z2 then true else (((Int.fdiv n (2 ^ (min (Int.toNat (if wd c < 0 then 0 else wd c)) (IntKind.bits .u64)))):Int)==0)) else false)))] []))))):
  A72 [] (L2 [pI 0 c,(1,.c (.int .u64 n))] []) Q:=
 Eq.mpr V5 h
def Zy6(c n:Int):Prop:=AW (Z2 Zpo) Try.f72 ZwP [] (Zj (ZqU.can (c,n,())) []) (EQ Try.f72 (Zuj (c,n,())) [])
theorem ZvM(c84:CT 84 ZbH)(hb:∀ (c:Int) (n:Int) (_:Unit),Zld (c,n,())->Zy6 c n):CT 72 ZbX:=
 Z3 (l:=[(84,ZbH)]) Zk rfl (⟨c84,trivial⟩) ZwP Try.func72 rfl rfl 2 (fun _=> rfl) V2 (fun ⟨c,n,_⟩=> hb c n ())
def Zx0:Ze U:=lvl [([0],[]),([2],[])]
abbrev A52(p:List Nat):=AW (Z2 ZjE) Try.f52 Zx0 p
theorem ZAY(k:Int)(Q:QT)(h:let z0:=decide ((2:Int)<=k);((Tt z0)/\(Tt z0)/\(Q .ret (L2 [(2,.c (.bool (bif z0 then (decide (k<=9)) else false)))] [])))):
  A52 [] (L2 [pI 0 k] []) Q:=
 Eq.mpr V5 h
def Zyq(k:Int):Prop:=AW (Z2 ZjE) Try.f52 Zx0 [] (Zj (ZqN.can (k,())) []) (EQ Try.f52 (Zuc (k,())) [])
theorem Zw1(hb:∀ (k:Int) (_:Unit),Zoq (k,())->Zyq k):CT 52 Z2T:=
 Z3 (l:=[]) Zk rfl trivial Zx0 Try.func52 rfl rfl 1 (fun _=> rfl) V2 (fun ⟨k,_⟩=> hb k ())
abbrev A71(p:List Nat):=AW (Z2 ZjE) Try.f71 Zx0 p
theorem ZAF(k:Int)(Q:QT)(h:let z0:=decide ((2:Int)<=k);((Tt z0)/\(Tt z0)/\(Q .ret (L2 [(2,.c (.bool (bif z0 then (decide (k<=7)) else false)))] [])))):
  A71 [] (L2 [pI 0 k] []) Q:=
 Eq.mpr V5 h
def Zy7(k:Int):Prop:=AW (Z2 ZjE) Try.f71 Zx0 [] (Zj (ZqN.can (k,())) []) (EQ Try.f71 (Zu3 (k,())) [])
theorem ZvN(hb:∀ (k:Int) (_:Unit),Zoq (k,())->Zy7 k):CT 71 Z4Q:=
 Z3 (l:=[]) Zk rfl trivial Zx0 Try.func71 rfl rfl 1 (fun _=> rfl) V2 (fun ⟨k,_⟩=> hb k ())
def Zpy:List (FuncId × Fs U):=[(71,Z4Q),(72,ZbX)]
def ZwZ:Ze U:=lvl [([0,3],[3]),([0,3,5],[3]),([4],[]),([3,32],[3]),([4],[]),([4],[])]
abbrev A53(p:List Nat):=AW (Z2 Zpy) Try.f53 ZwZ p
theorem ZAX(l:Int)(t:Tree)(Q:QT)(h:let z2:=List.getD t.words (Int.toNat 0) (0:Int);let z1:=bif (t.kind==10) then (((t.kids.length:Int):Int)==0) else false;let z0:=bif z1 then (((t.words.length:Int):Int)==1) else false;((Zoq (l,()))/\(iB (decide (2<=l/\l<=7)) ((Tt (t.kind==10))/\(Tt (t.kind==10))/\(Tt (t.kind==10))/\(Tt (t.kind==10))/\(Tt z1)/\(Tt z1)/\(Tt z1)/\(Tt z1)/\(Tt z0)/\(z0=true->InR (l - 2))/\(Tt z0)/\(Tt z0)/\(z0=true->(0:Int)<=0/\0 < (t.words.length:Int))/\(Tt z0)/\(Tt z0)/\(Tt z0)/\(z0=true->Zld ((l - 2),z2,()))/\(Tt z0)/\(Q .ret (L2 [(4,.c (.bool (bif z0 then (ZfV (l - 2) z2) else false)))] []))) ((iB (l==9) ((Q .ret (L2 [pB 4 (t.kind==1)] []))) ((Q .ret (L2 [pB 4 (t.kind !=10)] [])))))))):
  A53 [] (L2 [pI 0 l,(1,.agg (enc .tree t))] []) Q:=
 Eq.mpr V5 h
def Zyp(l:Int)(t:Tree):Prop:=AW (Z2 Zpy) Try.f53 ZwZ [] (Zj (ZqJ.can (l,t,())) []) (EQ Try.f53 (Zub (l,t,())) [])
theorem Zw0(c71:CT 71 Z4Q)(c72:CT 72 ZbX)(hb:∀ (l:Int) (t:Tree) (_:Unit),Zlc (l,t,())->Zyp l t):CT 53 ZbP:=
 Z3 (l:=[(71,Z4Q),(72,ZbX)]) Zk rfl (⟨c71,c72,trivial⟩) ZwZ Try.func53 rfl rfl 2 (fun _=> rfl) V2 (fun ⟨l,t,_⟩=> hb l t ())
def Z78(N:Nat):List (FuncId × Fs U):=(38,fs ZqE (fun a=> [Zar a,Zhy a < N]) ZkU) ::[(52,Z2T),(53,ZbP)]
def ZmI:Ze U:=lvl [([1,2],[2]),([1,2,8],[2]),([4],[]),([1,2,22],[2]),([4],[]),([1,2,36],[2]),([4],[]),([1,2,39],[2]),([1,2,52],[2]),([4],[]),([1,2,53],[2]),([4],[]),([1,2,71,72,73],[2]),([1,2,71,72,73,74],[2]),([1,2,6,71,72,73],[2,6]),([1,2,6,7,71,72,73],[2,6]),([1,2,6,7,71,72,73,82],[2,6]),([1,2,6,7,71,72,73],[2,6]),([1,2,71,72,73,95],[2]),([4],[]),([1,2,71,72,73],[2]),([4],[])]
def Z3M(t:Tree)(d x73:Int):LSt U:=(L2 [pI 1 d,pL 2,(71,.c (sU .tree t.kids .unk)),pI 72 (t.kids.length:Int),pI 73 x73] [(.loc 2,(enc .tree t))])
abbrev A38(N:Nat)(p:List Nat):=AW (Z2 (Z78 N)) Try.f38 ZmI p
abbrev S38(N:Nat)(p:List Nat):=SW (Z2 (Z78 N)) Try.f38 ZmI p
theorem ZBc(N:Nat)(t:Tree)(d:Int)(Q:QT)(h:let z7:=((t.kids.length:Int):Int)==0;let z6:=(Q .ret (L2 [pB 4 false] []));let z5:=(Zi (A38 N [1,1,0,1,0,0]) (Z3M t d 0) (xB 1 (S38 N [1,1,1] Q)));let z4:=((t.words.length:Int):Int)==1;let z3:=((t.words.length:Int):Int)==0;let z2:= !(decide (2<=t.kind/\t.kind<=9));let z1:=decide ((65536:Int)<=(t.words.length:Int));let z0:=bif z2 then true else (decide ((0:Int) < (t.words.length:Int)));(iB (t.kind==0) ((Tt z3)/\(Tt z3)/\(Tt z3)/\(Tt z3)/\(Q .ret (L2 [(4,.c (.bool (bif z3 then z7 else false)))] []))) ((iB (t.kind==10) ((Tt z4)/\(Tt z4)/\(Tt z4)/\(Tt z4)/\(Q .ret (L2 [(4,.c (.bool (bif z4 then z7 else false)))] []))) ((iB (d==0) z6 ((iB (t.kind==1) ((Tt (!z1))/\(Tt (!z1))/\(Tt (!z1))/\(z1=false->(!z1)=true)/\(iB (bif z1 then true else (decide ((65536:Int)<=(t.kids.length:Int)))) z6 z5)) ((Zoq (t.kind,()))/\(Tt (!z2))/\(Tt (!z2))/\(Tt (!z2))/\(z2=false->(!z2)=true)/\(Tt (!z0))/\(Tt (!z0))/\(Tt (!z0))/\(z0=false->(!z0)=true)/\(iB (bif z0 then true else (decide ((1048576:Int)<=(t.kids.length:Int)))) z6 z5)))))))))):
  A38 N [] (L2 [(0,.agg (enc .tree t)),pI 1 d] []) Q:=
 Eq.mpr V5 h
theorem Zs2(N:Nat)(t:Tree)(d x73:Int)(N0:NT)(Q:QT)(h:∀ y_1,y_1=(t.kids.getD x73.toNat Tree.nil)->∀ y_2,y_2=y_1->let z2:=(Q .ret (L2 [pB 4 false] []));let z1:= !(y_1.kind !=10);let z0:= !(Z0r t.kind y_2);(iB (decide (x73 < (t.kids.length:Int))) (((0:Int)<=x73/\x73 < (t.kids.length:Int))/\(iB (t.kind !=1) ((Zlc (t.kind,y_2,()))/\((Tt (!z0))/\((!z0)=true->InR (d - 1))/\(Tt (!z0))/\(Tt (!z0))/\((!z0)=true->Zar (y_2,(d - 1),()))/\((!z0)=true->Zhy (y_2,(d - 1),()) < N)/\(Tt (!z0))/\(z0=false->(!z0)=true)/\(iB (bif z0 then true else (!(Z9 y_2 (d - 1)))) z2 ((InR (x73+1))/\(N0 (Z3M t d (x73+1))))))) ((Tt (!z1))/\((!z1)=true->InR (d - 1))/\(Tt (!z1))/\(Tt (!z1))/\((!z1)=true->Zar (y_2,(d - 1),()))/\((!z1)=true->Zhy (y_2,(d - 1),()) < N)/\(Tt (!z1))/\(z1=false->(!z1)=true)/\(iB (bif z1 then true else (!(Z9 y_2 (d - 1)))) z2 ((InR (x73+1))/\(N0 (Z3M t d (x73+1)))))))) ((Q .ret (L2 [pB 4 true] []))))):
  A38 N [1,1,0,1,0,0] (Z3M t d x73) (xT N0 (xB 1 (S38 N [1,1,1] Q))):=
 Eq.mpr V5 (h _ rfl _ (Za _))
def ZyE(N:Nat)(t:Tree)(d:Int):Prop:=AW (Z2 (Z78 N)) Try.f38 ZmI [] (Zj (ZqE.can (t,d,())) []) (EQ Try.f38 (ZkU (t,d,())) [])
theorem Zwa(c52:CT 52 Z2T)(c53:CT 53 ZbP)(hb:∀ (N:Nat) (t:Tree) (d:Int) (_:Unit),Zar (t,d,())->Zhy (t,d,()) < N+1->ZyE N t d):CT 38 ZbV:=
 YO (μ:=Zhy) (l:=[(52,Z2T),(53,ZbP)]) Zk rfl (⟨c52,c53,trivial⟩) ZmI Try.func38 rfl rfl 2 (fun _=> rfl) V2 (fun N ⟨t,d,_⟩=> hb N t d ())
def ZpM:List (FuncId × Fs U):=[(38,ZbV)]
abbrev A20(p:List Nat):=AW (Z2 ZpM) Try.f20 Zxi p
theorem ZBu(t:Tree)(Q:QT)(h:let z0:=Tree.mk t.kind t.words t.kids;((Zar (z0,64,()))/\(Q .ret (L2 [pB 2 (Z9 z0 64)] [])))):
  A20 [] (L2 [(0,.agg (enc .tree t))] []) Q:=
 Eq.mpr V5 h
def ZyW(t:Tree):Prop:=AW (Z2 ZpM) Try.f20 Zxi [] (Zj (Zr5.can (t,())) []) (EQ Try.f20 (Zun (t,())) [])
theorem Zwo(c38:CT 38 ZbV)(hb:∀ (t:Tree) (_:Unit),Zcy (t,())->ZyW t):CT 20 Z1Z:=
 Z3 (l:=[(38,ZbV)]) Zk rfl (⟨c38,trivial⟩) Zxi Try.func20 rfl rfl 1 (fun _=> rfl) V2 (fun ⟨t,_⟩=> hb t ())
def ZjJ(N:Nat):List (FuncId × Fs U):=(17,fs ZqE (fun a=> [Zar a,Zhy a < N]) ZkU) ::[(33,ZbX)]
def Zti:Ze U:=lvl [([1,2],[2]),([1,2,10],[2]),([4],[]),([1,2,23],[2]),([4],[]),([1,2,68],[2]),([4],[]),([1,2,77],[2]),([4],[]),([1,2,5],[2]),([1,2,5,82],[2]),([1,2,5],[2]),([1,2,5,6],[2,6]),([1,2,5,6,94],[2,6]),([4],[]),([1,2,5,6,7],[2,6]),([1,2,5,131],[2]),([4],[]),([4],[])]
def Z8C(t:Tree)(d x5:Int):LSt U:=(L2 [pI 1 d,pL 2,pI 5 x5] [(.loc 2,(enc .tree t))])
abbrev A17(N:Nat)(p:List Nat):=AW (Z2 (ZjJ N)) Try.f17 Zti p
abbrev S17(N:Nat)(p:List Nat):=SW (Z2 (ZjJ N)) Try.f17 Zti p
theorem ZBx(N:Nat)(t:Tree)(d:Int)(Q:QT)(h:let z10:=(Q .ret (L2 [pB 4 false] []));let z9:=((t.kids.length:Int):Int)==0;let z7:=decide (t.kind < 0);let z6:=decide ((1:Int) < t.kind);let z5:=((t.words.length:Int):Int)==1;let z4:=((t.words.length:Int):Int)==0;let z1:=bif z7 then true else (decide ((10:Int) < t.kind));let z3:=bif z1 then true else (d==0);let z0:=bif z3 then true else (decide ((65536:Int)<=(t.words.length:Int)));let z8:=(!z0) && (t.kind==1);let z2:=bif z0 then true else (bif (t.kind==1) then (decide ((65536:Int)<=(t.kids.length:Int))) else false);(iB (t.kind==0) ((Tt z4)/\(Tt z4)/\(Tt z4)/\(Tt z4)/\(Q .ret (L2 [(4,.c (.bool (bif z4 then z9 else false)))] []))) ((iB (t.kind==10) ((Tt z5)/\(Tt z5)/\(Tt z5)/\(Tt z5)/\(Q .ret (L2 [(4,.c (.bool (bif z5 then z9 else false)))] []))) ((Tt (!z7))/\(Tt (!z7))/\(z7=false->(!z7)=true)/\(Tt (!z1))/\(z1=false->(!z1)=true)/\(Tt (!z3))/\(Tt (!z3))/\(Tt (!z3))/\(z3=false->(!z3)=true)/\(Tt (!z0))/\(Tt (!z0))/\(Tt (!z0))/\(Tt z8)/\(Tt z8)/\(Tt z8)/\((!z0)=true->(True->(!z0)=true))/\((!z0)=true->((t.kind==1)=true->z8=true))/\(z0=false->(!z0)=true)/\(Tt (!z2))/\(Tt (!z2))/\(Tt (!z2))/\(z2=false->(!z2)=true)/\(iB (bif z2 then true else (decide ((1048576:Int)<=(t.kids.length:Int)))) z10 ((Tt z6)/\(Tt z6)/\(Tt z6)/\(Tt z6)/\(iB (bif z6 then (decide ((0:Int) < (t.words.length:Int))) else false) z10 ((Zi (A17 N [1,1,1,1,1,0,1,0,0]) (Z8C t d 0) (xB 0 (S17 N [1,1,1,1,1,1] Q)))))))))))):
  A17 N [] (L2 [(0,.agg (enc .tree t)),pI 1 d] []) Q:=
 Eq.mpr V5 h
theorem Zsp(N:Nat)(t:Tree)(d x5:Int)(N0:NT)(Q:QT)(h:∀ y_1,y_1=(t.kids.getD x5.toNat Tree.nil)->∀ y_2,y_2=y_1->∀ y_3,y_3=(List.getD y_1.words (Int.toNat 0) (0:Int))->let z5:=(Q .ret (L2 [pB 4 false] []));let z3:=decide ((2:Int)<=t.kind);let z0:=bif z3 then (decide (t.kind<=7)) else false;let z2:=z0 !=(y_1.kind==10);let z4:=(!z2) && (t.kind==9);let z1:=bif z2 then true else (bif (t.kind==9) then (y_1.kind !=1) else false);(iB (decide (x5 < (t.kids.length:Int))) (((0:Int)<=x5/\x5 < (t.kids.length:Int))/\((InR (d - 1))/\(Zar (y_2,(d - 1),()))/\(Zhy (y_2,(d - 1),()) < N)/\(iB (!(Z9 y_2 (d - 1))) z5 ((Tt z3)/\(Tt z3)/\(Tt z3)/\((Tt (!z2))/\(Tt (!z2))/\(Tt (!z2))/\(Tt z4)/\(Tt z4)/\((!z2)=true->(True->(!z2)=true))/\((!z2)=true->((t.kind==9)=true->z4=true))/\(z2=false->(!z2)=true)/\(Tt (!z1))/\(Tt ((!z1) && z0))/\(Tt ((!z1) && z0))/\(((!z1) && z0)=true->InR (t.kind - 2))/\(Tt ((!z1) && z0))/\(Tt ((!z1) && z0))/\(((!z1) && z0)=true->(0:Int)<=0/\0 < (y_1.words.length:Int))/\(Tt ((!z1) && z0))/\(Tt ((!z1) && z0))/\(Tt ((!z1) && z0))/\(((!z1) && z0)=true->Zld ((t.kind - 2),y_3,()))/\(Tt ((!z1) && z0))/\((!z1)=true->(True->(!z1)=true))/\((!z1)=true->(z0=true->((!z1) && z0)=true))/\(z1=false->(!z1)=true)/\(iB (bif z1 then true else (bif z0 then (!(ZfV (t.kind - 2) y_3)) else false)) z5 ((InR (x5+1))/\(N0 (Z8C t d (x5+1)))))))))) ((Q .ret (L2 [pB 4 true] []))))):
  A17 N [1,1,1,1,1,0,1,0,0] (Z8C t d x5) (xT N0 (xB 0 (S17 N [1,1,1,1,1,1] Q))):=
 Eq.mpr V5 (h _ rfl _ (Za _) _ rfl)
def ZyZ(N:Nat)(t:Tree)(d:Int):Prop:=AW (Z2 (ZjJ N)) Try.f17 Zti [] (Zj (ZqE.can (t,d,())) []) (EQ Try.f17 (ZkU (t,d,())) [])
theorem Zwq(c33:CT 33 ZbX)(hb:∀ (N:Nat) (t:Tree) (d:Int) (_:Unit),Zar (t,d,())->Zhy (t,d,()) < N+1->ZyZ N t d):CT 17 ZbV:=
 YO (μ:=Zhy) (l:=[(33,ZbX)]) Zk rfl (⟨c33,trivial⟩) Zti Try.func17 rfl rfl 2 (fun _=> rfl) V2 (fun N ⟨t,d,_⟩=> hb N t d ())
end
theorem Z40:∀ (l:List Int),trim l=[]↔∀ i:Nat,l.getD i 0=0
 | []=> by simp [trim]
 | x ::r=> by
  have ih:=Z40 r
  constructor
  .intro h i
   simp only [trim] at h
   split at h
   .rename_i hr
    split at h
    .cases i with
     | zero=> simpa
     | succ i=> simpa using (ih.1 hr) i
    .cases h
   .cases h
  .intro h
   have h0:=h 0
   have hr:trim r=[]:=ih.2 fun i=> by simpa using h (i+1)
   simp only [trim,hr]
   simp at h0
   simp [h0]
theorem Z1R(x:Int)(r:List Int):trim (x ::r)=if trim r=[]/\x=0 then [] else x ::trim r:=by
 simp only [trim]
 split
 .rename_i h
  simp only [h]
  split <;> simp_all
 .rename_i h
  simp [h]
theorem Za2:∀ (a b:List Int),trim a=trim b↔∀ i:Nat,a.getD i 0=b.getD i 0
 | [],b=> by
  rw [show trim []=[] from rfl,eq_comm,Z40]
  simp [eq_comm]
 | x ::r,[]=> by
  rw [show trim []=[] from rfl,Z40]
  simp
 | x ::r,y ::s=> by
  have ih:=Za2 r s
  constructor
  .intro h i
   have key:x=y/\trim r=trim s:=by
    rw [Z1R,Z1R] at h
    split at h <;> split at h <;> simp_all
   cases i with
   | zero=> simpa using key.1
   | succ i=> simpa using ih.1 key.2 i
  .intro h
   have h0:x=y:=by simpa using h 0
   have hr:trim r=trim s:=ih.2 fun i=> by simpa using h (i+1)
   rw [Z1R,Z1R,h0,hr]
def ZtK(l:List Tree):Prop:=∀ x∈l,x.kind=0->x=Tree.nil
theorem JT(x:Tree)(r:List Tree):Yh (x ::r)=if Yh r=[]/\x.kind=0 then [] else x ::Yh r:=by
 simp only [Yh]
 split
 .rename_i h
  simp only [h]
  split <;> simp_all
 .rename_i h
  simp [h]
theorem Z2R:∀ (l:List Tree),ZtK l->(Yh l=[]↔∀ i:Nat,l.getD i Tree.nil=Tree.nil)
 | [],_=> by simp [Yh]
 | x ::r,hn=> by
  have ih:=Z2R r (fun y hy=> hn y (Q0 _ hy))
  have hx:=hn x (Q4 ..)
  rw [JT]
  constructor
  .intro h i
   split at h
   .rename_i hc
    cases i with
    | zero=> simpa using hx hc.2
    | succ i=> simpa using (ih.1 hc.1) i
   .cases h
  .intro h
   have h0:x=Tree.nil:=by simpa using h 0
   have hr:Yh r=[]:=ih.2 fun i=> by simpa using h (i+1)
   rw [if_pos ⟨hr,by rw [h0];rfl⟩]
theorem Z7l:∀ (a b:List Tree),ZtK a->ZtK b->(Yh a=Yh b↔∀ i:Nat,a.getD i Tree.nil=b.getD i Tree.nil)
 | [],b,_,hb=> by
  rw [show Yh []=[] from rfl,eq_comm,Z2R b hb]
  simp [eq_comm]
 | x ::r,[],ha,_=> by
  rw [show Yh []=[] from rfl,Z2R _ ha]
  simp
 | x ::r,y ::s,ha,hb=> by
  have ih:=Z7l r s (fun y hy=> ha y (Q0 _ hy)) (fun y hy=> hb y (Q0 _ hy))
  have hx:=ha x (Q4 ..)
  have hy:=hb y (Q4 ..)
  constructor
  .intro h i
   have key:x=y/\Yh r=Yh s:=by
    rw [JT,JT] at h
    split at h <;> split at h
    .rename_i h1 h2
     exact ⟨(hx h1.2).trans (hy h2.2).symm,h1.1.trans h2.1.symm⟩
    .cases h
    .cases h
    .simpa using h
   cases i with
   | zero=> simpa using key.1
   | succ i=> simpa using ih.1 key.2 i
  .intro h
   have h0:x=y:=by simpa using h 0
   have hr:Yh r=Yh s:=ih.2 fun i=> by simpa using h (i+1)
   rw [JT,JT,h0,hr]
theorem Zex:Z1 Tree.nil=Tree.nil:=by simp [Tree.nil,Z1]
theorem Z71(t:Tree):(Z1 t).kind=t.kind:=by
 obtain ⟨k,w,ks⟩:=t
 simp only [Z1]
 split
 .rename_i h;simp [h,Tree.nil]
 .split
  .rename_i h;simp [h]
  .try rfl
theorem Z73:∀ (l:List Tree),ZtK (Yf l)
 | []=> by intro x hx;simp [Yf] at hx
 | t ::r=> by
  intro x hx hk
  simp only [Yf,Q6] at hx
  rcases hx with rfl | hx
  .rw [Z71] at hk
   obtain ⟨k,w,ks⟩:=t
   simp only [Tree.kind_mk] at hk
   simp [Z1,hk]
  .exact Z73 r x hx hk
theorem Z0B:∀ (l:List Tree) (i:Nat),(Yf l).getD i Tree.nil=Z1 (l.getD i Tree.nil)
 | [],i=> by simp [Yf,Zex]
 | t ::r,0=> by simp [Yf]
 | t ::r,i+1=> by simpa [Yf] using Z0B r i
theorem Z7X(a b:List Tree):Yf a=Yf b↔a.length=b.length/\∀ i:Nat,Z1 (a.getD i Tree.nil)=Z1 (b.getD i Tree.nil):=by
 constructor
 .intro h
  refine ⟨by rw [<-Z18 a,h,Z18],fun i=> ?_⟩
  rw [<-Z0B,h,Z0B]
 .rintro ⟨hl,h⟩
  apply List.ext_getElem (by rw [Z18,Z18,hl])
  intro i h1 h2
  have:=h i
  rw [<-Z0B,<-Z0B] at this
  simpa [List.getD,h1,h2] using this
theorem YM(a b:Tree):Z1 a=Z1 b↔a.kind=b.kind/\(a.kind=0\/(if a.kind=1 then (∀ i:Nat,a.words.getD i 0=b.words.getD i 0) else a.words=b.words/\a.kids.length=b.kids.length)/\∀ i:Nat,Z1 (a.kids.getD i Tree.nil)=Z1 (b.kids.getD i Tree.nil)):=by
 obtain ⟨k,w,ks⟩:=a
 obtain ⟨k',w',ks'⟩:=b
 show _↔k=k'/\(k=0\/(if k=1 then (∀ i:Nat,w.getD i 0=w'.getD i 0) else w=w'/\ks.length=ks'.length)/\∀ i:Nat,Z1 (ks.getD i Tree.nil)=Z1 (ks'.getD i Tree.nil))
 by_cases hk:k=k'
 .subst hk
  simp only [true_and]
  by_cases h0:k=0
  .simp [Z1,h0]
  .by_cases h1:k=1
   .subst h1
    simp only [Z1,if_neg h0,if_true,Tree.mk.injEq,true_and,Za2,Z7l _ _ (Z73 _) (Z73 _),Z0B]
    simp
   .simp only [Z1,if_neg h0,if_neg h1,Tree.mk.injEq,true_and,Z7X]
    constructor
    .rintro ⟨h2,h3,h4⟩;exact .inr ⟨⟨h2,h3⟩,h4⟩
    .rintro (h | ⟨⟨h2,h3⟩,h4⟩)
     .exact absurd h h0
     .exact ⟨h2,h3,h4⟩
 .simp only [hk,false_and,iff_false]
  intro h
  have:=congrArg Tree.kind h
  rw [Z71,Z71] at this
  exact hk this
theorem Zgn{a b:Tree}(h:Z1 a=Z1 b)(h0:a.kind≠0)(i:Nat):a.words.getD i 0=b.words.getD i 0:=by
 obtain ⟨_,h2⟩:=(YM a b).1 h
 rcases h2 with h2 | ⟨h2,_⟩
 .exact absurd h2 h0
 .split at h2
  .exact h2 i
  .rw [h2.1]
theorem ZjN{a b:Tree}(h:Z1 a=Z1 b)(h0:a.kind≠0)(i:Nat):Z1 (a.kids.getD i Tree.nil)=Z1 (b.kids.getD i Tree.nil):=by
 obtain ⟨_,h2⟩:=(YM a b).1 h
 rcases h2 with h2 | ⟨_,h2⟩
 .exact absurd h2 h0
 .exact h2 i
theorem ZcZ(t:Tree)(i:Int):Zn (Jt t i)<=Zn t/\(i < t.kids.length->0<=i->Zn (Jt t i) < Zn t):=by
 obtain ⟨k,w,ks⟩:=t
 unfold Jt
 have h1:Zn Tree.nil=1:=by simp [Tree.nil,Zn,Zl]
 split
 .simp only [h1,Zn];omega
 .simp only [Tree.kids_mk]
  by_cases hi:i.toNat < ks.length
  .have:=Z0a hi
   simp only [Zn];omega
  .rw [List.getD,Qq V0]
   simp only [Option.getD_none,h1,Zn];omega
theorem c44:Contract Try.prog cfg 44 Z0g:=by
 refine Zw7 c62 c63 c64 ?_
 rintro N a b _ hp hN
 have la:a.words.length+a.kids.length < Zn a:=by obtain ⟨k,w,ks⟩:=a;have:=Zw ks;simp only [Zn,Tree.words_mk,Tree.kids_mk];omega
 have lb:b.words.length+b.kids.length < Zn b:=by obtain ⟨k,w,ks⟩:=b;have:=Zw ks;simp only [Zn,Tree.words_mk,Tree.kids_mk];omega
 simp only [Z4G,Zmt] at hp hN
 have no:¬Z1 a=Z1 b->Yv cfg Try.f44.ntmps Try.f44.results.toList (Zcn (a,b,())) [] .ret (⟨[(4,.c (.bool false))],[],[]⟩:LSt U):=by
  intro h
  have e:Yp (Z1 a) (Z1 b)=false:=J8.2 h
  simp only [Zcn,e]
  exact ⟨⟨rfl,⟨rfl,trivial⟩,trivial⟩,trivial⟩
 refine ZB6 N _ _ _ ?_;(try simp only [iB,vcT,forall_eq])
 (simp only [iB,vcS]);(try simp only [iB,vcT])
 refine ⟨fun hc=> ?_,fun hc=> ?_⟩
 .have e:Yp (Z1 a) (Z1 b)=(a.kind==b.kind):=by
   by_cases hk:a.kind=b.kind
   .have h0:a.kind=0:=by rcases hc with h | h;exact absurd hk h;exact h
    rw [Yk.2 ((YM a b).2 ⟨hk,.inl h0⟩)]
    simp [hk]
   .rw [J8.2 (fun h=> hk ((YM a b).1 h).1)]
    simp [hk]
  simp only [Zcn,e]
  exact ⟨⟨rfl,⟨rfl,trivial⟩,trivial⟩,trivial⟩
 .refine ⟨fun _=> by simp only [Zet];omega,fun h h'=> ⟨h,h'⟩,fun hd=> no ?_,fun hd=> ?_⟩
  .intro h
   obtain ⟨_,h2⟩:=(YM a b).1 h
   rcases h2 with h2 | ⟨h2,_⟩
   .exact hc.2 h2
   .rw [if_neg hd.1] at h2
    rcases hd.2 with h3 | h3
    .exact h3 V0
    .exact h3 h2.1
  .refine Zb (ι:=Int) (fun p=> Z8l a b p) (fun p=> 0<=p/\p<=2000000000000/\∀ j:Nat,j < p.toNat->a.words.getD j 0=b.words.getD j 0) (fun p=> (2000000000000 - p).toNat) 0 rfl ⟨V0,V0,fun j hj=> by simp at hj⟩ ?_
   rintro i ⟨h1,h2,h3⟩
   refine ZrX N _ _ _ _ _ ?_;(try simp only [iB,vcT,forall_eq])
   (simp only [iB,vcS]);(try simp only [iB,vcT])
   have wa:∀ t:Tree,Yy t i=t.words.getD i.toNat 0:=fun t=> by unfold Yy;rw [JI]
   refine ⟨fun hi=> ⟨trivial,trivial,fun hn=> no fun h=> hn ?_,fun he=> ⟨?_,?_⟩⟩,fun hi=> ?_⟩
   .rw [wa,wa]
    exact Zgn h hc.2 _
   .unfold InR;split at hi <;> omega
   .refine ⟨i+1,rfl,⟨V0,by split at hi <;> omega,fun j hj=> ?_⟩,by split at hi <;> omega⟩
    by_cases hj':j < i.toNat
    .exact h3 j hj'
    .have:j=i.toNat:=V0
     rw [this,<-wa,<-wa]
     exact he
   .have hw:∀ j:Nat,a.words.getD j 0=b.words.getD j 0:=fun j=> by
     by_cases hj:j < i.toNat
     .exact h3 j hj
     .split at hi <;> rw [List.getD,List.getD,Qq V0,Qq V0]
    refine Zb (ι:=Int) (fun p=> Z8k a b p) (fun p=> 0<=p/\p<=2000000000000/\∀ j:Nat,j < p.toNat->Z1 (a.kids.getD j Tree.nil)=Z1 (b.kids.getD j Tree.nil)) (fun p=> (2000000000000 - p).toNat) 0 rfl ⟨V0,V0,fun j hj=> by simp at hj⟩ ?_
    rintro q ⟨h5,h6,h7⟩
    refine ZrW N _ _ _ _ _ ?_;(try simp only [iB,vcT,forall_eq])
    (simp only [iB,vcS]);(try simp only [iB,vcT])
    have ka:∀ t:Tree,Jt t q=t.kids.getD q.toNat Tree.nil:=fun t=> by unfold Jt;rw [JI]
    have ma:=ZcZ a q
    have mb:=ZcZ b q
    try (simp only [Tree.eta,Edit.eta,Tree.kind_mk,Tree.words_mk,Tree.kids_mk])
    refine ⟨fun hq=> ⟨trivial,trivial,?_,?_,fun hn=> no fun h=> ?_,fun he=> ⟨?_,?_⟩⟩,fun hq=> ?_⟩
    .simp only [Z4G];omega
    .simp only [Zmt];split at hq <;> omega
    .rw [J8] at hn
     apply hn
     rw [ka,ka]
     exact ZjN h hc.2 _
    .unfold InR;split at hq <;> omega
    .refine ⟨q+1,rfl,⟨V0,by split at hq <;> omega,fun j hj=> ?_⟩,by split at hq <;> omega⟩
     by_cases hj':j < q.toNat
     .exact h7 j hj'
     .have:j=q.toNat:=V0
      rw [this,<-ka,<-ka]
      exact Yk.1 he
    .have hk:∀ j:Nat,Z1 (a.kids.getD j Tree.nil)=Z1 (b.kids.getD j Tree.nil):=fun j=> by
      by_cases hj:j < q.toNat
      .exact h7 j hj
      .split at hq <;> rw [List.getD,List.getD,Qq V0,Qq V0]
     have e:Yp (Z1 a) (Z1 b)=true:=by
      rw [Yk,YM]
      refine ⟨hc.1,.inr ⟨?_,hk⟩⟩
      split
      .exact hw
      .rename_i h1
       rcases hd with hd | hd
       .exact absurd hd h1
       .exact ⟨hd.2,by have:=hd.1;omega⟩
     simp only [Zcn,e]
     exact ⟨⟨rfl,⟨rfl,trivial⟩,trivial⟩,trivial⟩
mutual
theorem Z1J:∀ (t:Tree) (d l:Int),0<=ZF t d l->(Zn t:Int)+ZF t d l<=l
 | .mk _ w ks,d,l,h=> by
  simp only [ZF] at h ⊢
  split at h
  .omega
  .rename_i hc
   rw [if_neg hc]
   have:=Z2U ks (d - 1) (l - 1 - w.length) h
   simp only [Zn]
   omega
theorem Z2U:∀ (ks:List Tree) (d l:Int),0<=Zy ks d l->(Zl ks:Int)+Zy ks d l<=l
 | [],d,l,h=> by simp [Zy,Zl]
 | t ::r,d,l,h=> by
  simp only [Zy] at h ⊢
  split at h
  .omega
  .rename_i hc
   rw [if_neg hc]
   have h1:=Z2U r d (ZF t d l) h
   have h3:=(Z0M r d (ZF t d l) (YR t d l).1).2
   have h2:=Z1J t d l V0
   simp only [Zl]
   omega
end
end Go.AM.Ytfapacabjkhepaa
