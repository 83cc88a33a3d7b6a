import Derived.Test.YtnfbomhidainjaaGreatOD4
import Derived.Sort.AssemblyPlain
import Derived.Lib.BitFns
import Derived.Shelf.SlSortCmp.WholeK
import Derived.Shelf.SlicesG.Cmp
import Derived.Ground.SlsfProg
import Derived.Ground.SlgcProg
set_option linter.unusedSimpArgs false
set_option linter.unusedVariables false
namespace Go.AM.YtnfbomhidainjaaGreat
open Go.AM Go.Proofs
noncomputable section
def ZmR(a:Tree × Tree × Unit):Prop:=mass a.1<=1000000/\mass a.2.1<=1000000
def Zu3(a:Tree × Tree × Unit):V U:= .c (ci (JQ a.1 a.2.1))
def ZcT:Fs U:=fs Zol (fun a=> [ZmR a]) Zu3
def ZqM:ArgL (Int × List Tree × Unit):=(.cons (Y6 .i64) (.cons (aSl .tree) .nil))
def Zio(a:Int × List Tree × Unit):Prop:=True
def Zic(a:Int × List Tree × Unit):V U:= .c (sU .op (ZT a.1 a.2.1) .unk)
def Z3e:Fs U:=fs ZqM (fun a=> [Zio a]) Zic
def Zkr(a:List Tree × Unit):Prop:=True
def ZBo(a:List Tree × Unit):V U:= .c (sU .op (ZT 2 a.1) .unk)
def ZhM:Fs U:=fs ZwX (fun a=> [Zkr a]) ZBo
def ZBn(a:List Tree × Unit):V U:= .c (sU .op (ZT 1 a.1) .unk)
def ZhL:Fs U:=fs ZwX (fun a=> [Zkr a]) ZBn
def Zoe:ArgM ((List Tree × Unit) × List Tree × Unit):=(.obj 0 (.cons (Z4z .tree 0 0) .nil) (.cons (aSl .tree) .nil))
def Zph(a:(List Tree × Unit) × List Tree × Unit):Prop:=Z6 a.1.1+Z6 a.2.1<=10000000
def ZtA(a:(List Tree × Unit) × List Tree × Unit):V U:= .c (sU .int ((ofF a.1.1 a.2.1).2) .unk)
def Zmr(a:(List Tree × Unit) × List Tree × Unit):List (List (C U)):=[[sU .tree ((ofF a.1.1 a.2.1).1) (.own (.x 0 0))]]
def ZhO:Fs U:=fsX Zoe (fun a=> [Zph a]) ZtA Zmr
def ZqP:ArgL (Int × Unit):=(.cons (Y6 .u64) .nil)
def ZmV(a:Int × Unit):Prop:=(0<=a.1/\a.1 < 18446744073709551616)
def Zmv(a:Int × Unit):V U:= .agg (zb8 Zl a.1)
def Z8U:Fs U:=fs ZqP (fun a=> [ZmV a]) Zmv
def ZwU:ArgL (Int × Int × Unit):=(.cons (Y6 .u64) (.cons (Y6 .u64) .nil))
def Zuk(a:Int × Int × Unit):Prop:=(0<=a.1/\a.1 < 18446744073709551616)/\(0<=a.2.1/\a.2.1 < 18446744073709551616)
def ZBr(a:Int × Int × Unit):V U:= .c (.int .u8 (ZW a.1 a.2.1))
def ZdF:Fs U:=fs ZwU (fun a=> [Zuk a]) ZBr
def ZpJ:Zb U:=lvl [([2,3],[2,3]),([2,3,22],[2,3]),([4],[]),([2,3,5],[2,3]),([2,3,5,29,30],[2,3]),([2,3,5,29,30,31],[2,3]),([2,3,5,6,29,30],[2,3]),([2,3,5,29,30,43],[2,3]),([2,3,5,29,30],[2,3]),([2,3,5,29,30],[2,3]),([2,3,5,53,54],[2,3]),([2,3,5,53,54,55],[2,3]),([2,3,5,7,53,54],[2,3]),([2,3,5,53,54,67],[2,3]),([2,3,5,53,54],[2,3]),([2,3,5,53,54],[2,3]),([4],[])]
def Z4p(a b:Tree)(x5 d:Int):LSt U:=(L2 [pL 2,pL 3,pI 5 x5,pI 29 (if ((b.words.length:Int):Int) < (a.words.length:Int) then (b.words.length:Int) else (a.words.length:Int)),pI 30 d] [(.loc 2,(enc .tree a)),(.loc 3,(enc .tree b))])
def Z4o(a b:Tree)(aa d:Int):LSt U:=(L2 [pL 2,pL 3,pI 5 aa,pI 53 (if ((b.kids.length:Int):Int) < (a.kids.length:Int) then (b.kids.length:Int) else (a.kids.length:Int)),pI 54 d] [(.loc 2,(enc .tree a)),(.loc 3,(enc .tree b))])
abbrev ZxH(p:List Nat):=AW (Z1 Zbd) Tryz.f107 ZpJ p
abbrev ZAE(p:List Nat):=SW (Z1 Zbd) Tryz.f107 ZpJ p
theorem ZGW(a b:Tree)(Q:QT)(h:let z1:=a.kind !=b.kind;let z0:=bif z1 then true else (a.kind==0);((Tt (!z1))/\(Tt (!z1))/\(z1=false->(!z1)=true)/\(Tt (!z0))/\(Tt (!z0))/\(z0=false->(!z0)=true)/\(iB (bif z0 then true else (a.kind==10)) ((Q .ret (L2 [pI 4 0] []))) ((Zk (ZxH [1,1,1,0,1,0,0]) (Z4p a b 1 0) (xB 0 (ZAE [1,1,1,1] Q))))))):
  ZxH [] (L2 [(0,.agg (enc .tree a)),(1,.agg (enc .tree b))] []) Q:=
 (Eq.mpr V5 h:)
theorem ZsU(a b:Tree)(x5 d:Int)(N0:NT)(Q:QT)(h:(iB (decide (d < (if ((b.words.length:Int):Int) < (a.words.length:Int) then (b.words.length:Int) else (a.words.length:Int)))) ((((0:Int)<=d/\d < (a.words.length:Int))/\((0:Int)<=d/\d < (b.words.length:Int))/\(iB (((a.words.getD d.toNat (0:Int)):Int)==(b.words.getD d.toNat (0:Int))) ((InR (x5+1))/\((InR (d+1))/\(N0 (Z4p a b (x5+1) (d+1))))) ((InR (d+1))/\(N0 (Z4p a b x5 (d+1))))))) ((Zk (ZxH [1,1,1,1,0,1,0,0]) (Z4o a b x5 0) (xB 2 (ZAE [1,1,1,1,1] Q)))))):
  ZxH [1,1,1,0,1,0,0] (Z4p a b x5 d) (xT N0 (xB 0 (ZAE [1,1,1,1] Q))):=
 (Eq.mpr V5 h:)
theorem ZsT(a b:Tree)(aa d:Int)(N1:NT)(Q:QT)(h:∀ ah,ah=(a.kids.getD d.toNat Tree.nil)->∀ af,af=(b.kids.getD d.toNat Tree.nil)->∀ ae,ae=ah->∀ ab,ab=af->(iB (decide (d < (if ((b.kids.length:Int):Int) < (a.kids.length:Int) then (b.kids.length:Int) else (a.kids.length:Int)))) ((((0:Int)<=d/\d < (a.kids.length:Int))/\((0:Int)<=d/\d < (b.kids.length:Int))/\(Z2M (ae,ab,()))/\(iB (ZU (Z0 ae) (Z0 ab)) ((InR (aa+1))/\((InR (d+1))/\(N1 (Z4o a b (aa+1) (d+1))))) ((InR (d+1))/\(N1 (Z4o a b aa (d+1))))))) ((Q .ret (L2 [pI 4 aa] []))))):
  ZxH [1,1,1,1,0,1,0,0] (Z4o a b aa d) (xT N1 (xB 2 (ZAE [1,1,1,1,1] Q))):=
 (Eq.mpr V5 (h _ rfl _ rfl _ (Z3 _) _ (Z3 _)):)
abbrev ZB3(a b:Tree):Prop:=AW (Z1 Zbd) Tryz.f107 ZpJ [] (Zf (Zol.can (a,b,())) []) (EQ Tryz.f107 (Zu3 (a,b,())) [])
theorem ZzC(c38:CT 38 Yw)(hb:∀ (a:Tree) (b:Tree) (_:Unit),ZmR (a,b,())->ZB3 a b):CT 107 ZcT:=
 Z2 (l:=[(38,Yw)]) Zd rfl (⟨c38,trivial⟩) ZpJ Tryz.func107 rfl rfl 2 (fun _=> rfl) V2 (fun ⟨a,b,_⟩=> hb a b ())
def Zvk:Zb U:=lvl [([0,1],[]),([0,1,7],[]),([4],[]),([4],[])]
abbrev ZJQ(p:List Nat):=AW (Z1 ZnF) Tryz.f106 Zvk p
theorem ZGX(kind:Int)(l:List Tree)(Q:QT)(h:(iB (((l.length:Int):Int)==0) ((Q .ret (L2 [(4,.c (.nils))] []))) ((Q .ret (L2 [(4,.c (sU .op ([(OpOf.mk kind 0 l (Edit.mk 0 (Tree.mk 0 [] []) (Tree.mk 0 [] []) [] [] 0 []))]) .full))] []))))):
  ZJQ [] (L2 [pI 0 kind,(1,.c (sU .tree l .unk))] []) Q:=
 (Eq.mpr V5 h:)
abbrev ZB4(kind:Int)(l:List Tree):Prop:=AW (Z1 ZnF) Tryz.f106 Zvk [] (Zf (ZqM.can (kind,l,())) []) (EQ Tryz.f106 (Zic (kind,l,())) [])
theorem ZzD(hb:∀ (kind:Int) (l:List Tree) (_:Unit),Zio (kind,l,())->ZB4 kind l):CT 106 Z3e:=
 Z2 (l:=[]) Zd rfl trivial Zvk Tryz.func106 rfl rfl 2 (fun _=> rfl) V2 (fun ⟨kind,l,_⟩=> hb kind l ())
def ZvH:List (FuncId × Fs U):=[(106,Z3e)]
abbrev A86(p:List Nat):=AW (Z1 ZvH) Tryz.f86 ZE9 p
theorem ZIu(l:List Tree)(Q:QT)(h:((Zio (2,l,()))/\(Q .ret (L2 [(2,.c (sU .op (ZT 2 l) .unk))] [])))):
  A86 [] (L2 [(0,.c (sU .tree l .unk))] []) Q:=
 (Eq.mpr V5 h:)
abbrev ZFm(l:List Tree):Prop:=AW (Z1 ZvH) Tryz.f86 ZE9 [] (Zf (ZwX.can (l,())) []) (EQ Tryz.f86 (ZBo (l,())) [])
theorem ZCU(Zsd:CT 106 Z3e)(hb:∀ (l:List Tree) (_:Unit),Zkr (l,())->ZFm l):CT 86 ZhM:=
 Z2 (l:=[(106,Z3e)]) Zd rfl (⟨Zsd,trivial⟩) ZE9 Tryz.func86 rfl rfl 1 (fun _=> rfl) V2 (fun ⟨l,_⟩=> hb l ())
abbrev A88(p:List Nat):=AW (Z1 ZvH) Tryz.f88 ZE9 p
theorem ZIs(l:List Tree)(Q:QT)(h:((Zio (1,l,()))/\(Q .ret (L2 [(2,.c (sU .op (ZT 1 l) .unk))] [])))):
  A88 [] (L2 [(0,.c (sU .tree l .unk))] []) Q:=
 (Eq.mpr V5 h:)
abbrev ZFk(l:List Tree):Prop:=AW (Z1 ZvH) Tryz.f88 ZE9 [] (Zf (ZwX.can (l,())) []) (EQ Tryz.f88 (ZBn (l,())) [])
theorem ZCT(Zsd:CT 106 Z3e)(hb:∀ (l:List Tree) (_:Unit),Zkr (l,())->ZFk l):CT 88 ZhL:=
 Z2 (l:=[(106,Z3e)]) Zd rfl (⟨Zsd,trivial⟩) ZE9 Tryz.func88 rfl rfl 1 (fun _=> rfl) V2 (fun ⟨l,_⟩=> hb l ())
def ZzR:Zb U:=lvk [([0,1],[((.x 0),[])]),([0,1,5],[((.x 0),[])]),([0,(5,[.own .int]),10,11,12],[((.x 0),[])]),([0,5,10,11,12,13],[((.x 0),[])]),([0,5,7,10,11,12],[7,((.x 0),[])]),([0,5,7,10,11,12,(19,[.unk .tree]),20,21],[7,((.x 0),[])]),([0,5,7,10,11,12,(19,[.unk .tree]),20,21,22],[7,((.x 0),[])]),([0,5,7,8,9,10,11,12,(19,[.unk .tree]),20,21],[7,9,((.x 0),[])]),([0,5,7,8,10,11,12,(19,[.unk .tree]),20,21,28],[7,((.x 0),[])]),([0,5,10,11,12],[((.x 0),[])]),([0,5,7,10,11,12,(19,[.unk .tree]),20,21],[7,((.x 0),[])]),([0,5,7,10,11,12],[7,((.x 0),[])]),([0,5,10,11,12],[((.x 0),[])]),([0,(5,[.own .int]),10,11,12],[((.x 0),[])]),([4],[((.x 0),[])])]
def Z6f(known l:List Tree)(d:Int)(mx0_0:List Tree)(x5:List Int):LSt U:=(L2 [(0,.ptr (.x 0) 0),(5,.c (sU .int x5 (.own (.e 5 0)))),(10,.c (sU .tree l .unk)),pI 11 (l.length:Int),pI 12 d] [(.x 0,[sU .tree mx0_0 (.own (.x 0 0))])])
def Z9M(known l:List Tree)(aa:Int)(mx0_0:List Tree)(x5:List Int)(d:Int):LSt U:=(L2 [(0,.ptr (.x 0) 0),(5,.c (sU .int x5 (.own (.e 5 0)))),pL 7,(10,.c (sU .tree l .unk)),pI 11 (l.length:Int),pI 12 aa,(19,.c (sU .tree mx0_0 .unk)),pI 20 (mx0_0.length:Int),pI 21 d] [(.loc 7,(enc .tree (l.getD aa.toNat Tree.nil))),(.x 0,[sU .tree mx0_0 (.own (.x 0 0))])])
abbrev A66(p:List Nat):=AW (Z1 Zbd) Tryz.f66 ZzR p
abbrev S66(p:List Nat):=SW (Z1 Zbd) Tryz.f66 ZzR p
theorem ZIJ(known l:List Tree)(Q:QT)(h:(Zk (A66 [1,0,1,1,0,1,0,0]) (Z6f known l 0 known []) (xB 0 (S66 [1,0,1,1,1] Q)))):
  A66 [] (L2 [(0,.ptr (.x 0) 0),(1,.c (sU .tree l .unk))] [(.x 0,[sU .tree known (.own (.x 0 0))])]) Q:=
 (Eq.mpr V5 h:)
theorem Zy4(known l:List Tree)(d:Int)(mx0_0:List Tree)(x5:List Int)(N0:NT)(Q:QT)(h:(iB (decide (d < (l.length:Int))) (((0:Int)<=d/\d < (l.length:Int))/\(Zk (A66 [1,0,1,1,0,1,0,0,1,1,0,0,1,0,1,0,0]) (Z9M known l d mx0_0 x5 0) (xB 2 (S66 [1,0,1,1,0,1,0,0,1,1,0,0,1,1] (xB 1 (S66 [1,0,1,1,0,1,0,0,1,1,1] (xT N0 (xB 0 (S66 [1,0,1,1,1] Q))))))))) ((Q .ret (L2 [(4,.c (sU .int x5 (.own (.e 4 0))))] [(.x 0,[sU .tree mx0_0 (.own (.x 0 0))])]))))):
  A66 [1,0,1,1,0,1,0,0] (Z6f known l d mx0_0 x5) (xT N0 (xB 0 (S66 [1,0,1,1,1] Q))):=
 (Eq.mpr V5 h:)
theorem Zy3(known l:List Tree)(aa:Int)(mx0_0:List Tree)(x5:List Int)(d:Int)(N1 N0:NT)(Q:QT)(h:∀ ai,ai=(l.getD aa.toNat Tree.nil)->∀ ah,ah=(mx0_0.getD d.toNat Tree.nil)->∀ ab,ab=ai->∀ ae,ae=ah->(iB (decide (d < (mx0_0.length:Int))) (((0:Int)<=d/\d < (mx0_0.length:Int))/\((Z2M (ae,ab,()))/\(iB (ZU (Z0 ae) (Z0 ab)) (((x5.length+([d]).length)*8<=140737488355328)/\((InR (aa+1))/\(N0 (Z6f known l (aa+1) mx0_0 (x5++([d])))))) ((InR (d+1))/\(N1 (Z9M known l aa mx0_0 x5 (d+1))))))) (((x5.length+([(mx0_0.length:Int)]).length)*8<=140737488355328)/\(((mx0_0.length+([(Tree.mk 0 [] [])]).length)*56<=140737488355328)/\((0:Int)<=(mx0_0.length:Int)/\(mx0_0.length:Int) < ((mx0_0++([(Tree.mk 0 [] [])])).length:Int))/\(mx0_0.length<=(Int.toNat (mx0_0.length:Int)))/\((InR (aa+1))/\(N0 (Z6f known l (aa+1) (List.set (mx0_0++([(Tree.mk 0 [] [])])) (Int.toNat (mx0_0.length:Int)) ab) (x5++([(mx0_0.length:Int)]))))))))):
  A66 [1,0,1,1,0,1,0,0,1,1,0,0,1,0,1,0,0] (Z9M known l aa mx0_0 x5 d) (xT N1 (xB 2 (S66 [1,0,1,1,0,1,0,0,1,1,0,0,1,1] (xB 1 (S66 [1,0,1,1,0,1,0,0,1,1,1] (xT N0 (xB 0 (S66 [1,0,1,1,1] Q)))))))):=
 (Eq.mpr V5 (h _ rfl _ rfl _ (Z3 _) _ (Z3 _)):)
abbrev ZFB(known l:List Tree):Prop:=AW (Z1 Zbd) Tryz.f66 ZzR [] (Zf (Zoe.can ((known,()),l,())) (Zoe.canX ((known,()),l,()))) (EQ Tryz.f66 (ZtA ((known,()),l,())) (Zmr ((known,()),l,())))
theorem ZD8(c38:CT 38 Yw)(hb:∀ (d:List Tree) (l:List Tree) (_:Unit),Zph ((d,()),l,())->ZFB d l):CT 66 ZhO:=
 ZN (l:=[(38,Yw)]) Zd rfl (⟨c38,trivial⟩) ZzR Tryz.func66 rfl rfl 2 (fun _=> rfl) V2 (fun ⟨⟨d,_⟩,l,_⟩=> hb d l ())
def ZpM:Zb U:=lvl [([0,2],[2]),([0,2,3],[2,3]),([0,2,3,5],[2,3]),([0,2,3,5,6],[2,3]),([0,2,3,4,5],[2,3]),([0,2,3,5],[2,3]),([0,2,3,5],[2,3]),([2],[2])]
def Z4r(w x5 ai aa ab ae af ah d aj:Int):LSt U:=(L2 [(0,.c (.int .u64 w)),pL 2,pL 3,pI 5 x5] [(.loc 2,zc2),(.loc 3,(zi8 [ai,aa,ab,ae,af,ah,d,aj]))])
abbrev ZGw(p:List Nat):=AW (Z1 ZnF) Tryz.f101 ZpM p
abbrev ZHT(p:List Nat):=SW (Z1 ZnF) Tryz.f101 ZpM p
theorem ZH2(w:Int)(Q:QT)(h:(Zk (ZGw [1,1,0,1,0,0]) (Z4r w 0 0 0 0 0 0 0 0 0) (xB 0 (ZHT [1,1,1] Q)))):
  ZGw [] (L2 [(0,.c (.int .u64 w))] []) Q:=
 (Eq.mpr V5 h:)
theorem ZsX(w d aj ab ae af ah ai aa ak:Int)(N0:NT)(Q:QT)(h:let z0:=IntKind.wrap .u8 (Int.fdiv w (2 ^ (min (Int.toNat ((8:Int)*d)) (IntKind.bits .u64))));(iB (decide (d < 8)) (((InR ((8:Int)*d))/\((0:Int)<=((8:Int)*d))/\((0:Int)<=d/\d < ((8:Nat):Int))/\((InR (d+1))/\(N0 (Z4r w (d+1) (JL d 0 z0 aj) (JL d 1 z0 ab) (JL d 2 z0 ae) (JL d 3 z0 af) (JL d 4 z0 ah) (JL d 5 z0 ai) (JL d 6 z0 aa) (JL d 7 z0 ak)))))) ((Q .ret (L2 [pL 2] [(.loc 2,(zi8 [aj,ab,ae,af,ah,ai,aa,ak]))]))))):
  ZGw [1,1,0,1,0,0] (Z4r w d aj ab ae af ah ai aa ak) (xT N0 (xB 0 (ZHT [1,1,1] Q))):=
 (Eq.mpr V5 h:)
abbrev ZB9(w:Int):Prop:=AW (Z1 ZnF) Tryz.f101 ZpM [] (Zf (ZqP.can (w,())) []) (EQ Tryz.f101 (Zmv (w,())) [])
theorem ZzI(hb:∀ (w:Int) (_:Unit),ZmV (w,())->ZB9 w):CT 101 Z8U:=
 Z2 (l:=[]) Zd rfl trivial ZpM Tryz.func101 rfl rfl 1 (fun _=> rfl) V2 (fun ⟨w,_⟩=> hb w ())
def Zno:List (FuncId × Fs U):=[(101,Z8U)]
def ZzN:Zb U:=lvl [([0,1],[]),([0,1,5],[]),([5,11,12],[]),([5,11,12,13],[]),([5,6,7,11,12],[]),([5,6,11,12,17],[]),([5,11,12],[]),([5,11,12],[]),([4],[])]
def Z6d(a b x5 d:Int):LSt U:=(L2 [(5,.c (.int .u8 x5)),(11,.agg (zb8 Zl (IntKind.wrap .u64 (BitVec.ofInt (IntKind.bits .u64) a ^^^ BitVec.ofInt (IntKind.bits .u64) b).toNat))),pI 12 d] [])
abbrev A81(p:List Nat):=AW (Z1 Zno) Tryz.f81 ZzN p
abbrev S81(p:List Nat):=SW (Z1 Zno) Tryz.f81 ZzN p
theorem ZIz(a b:Int)(Q:QT)(h:((ZmV ((IntKind.wrap .u64 (BitVec.ofInt (IntKind.bits .u64) a ^^^ BitVec.ofInt (IntKind.bits .u64) b).toNat),()))/\(Zk (A81 [1,1,0,1,0,0]) (Z6d a b 0 0) (xB 0 (S81 [1,1,1] Q))))):
  A81 [] (L2 [(0,.c (.int .u64 a)),(1,.c (.int .u64 b))] []) Q:=
 (Eq.mpr V5 h:)
theorem ZxW(a b x5 d:Int)(N0:NT)(Q:QT)(h:∀ aa,aa=(BitVec.ofInt (IntKind.bits .u64) a ^^^ BitVec.ofInt (IntKind.bits .u64) b)->let z1:=IntKind.bits .u8;let z0:=IntKind.wrap .u64 aa.toNat;(iB (decide (d < 8)) (((0:Int)<=d/\d < ((8:Nat):Int))/\(iB (((List.getD [Zl z0 0,Zl z0 1,Zl z0 2,Zl z0 3,Zl z0 4,Zl z0 5,Zl z0 6,Zl z0 7] d.toNat 0):Int) !=0) (((0:Int)<=d)/\((InR (d+1))/\(N0 (Z6d a b (IntKind.wrap .u8 (BitVec.ofInt z1 x5 ||| BitVec.ofInt z1 (IntKind.wrap .u8 ((1:Int)*2 ^ (min d.toNat z1)))).toNat) (d+1))))) ((InR (d+1))/\(N0 (Z6d a b x5 (d+1)))))) ((Q .ret (L2 [(4,.c (.int .u8 x5))] []))))):
  A81 [1,1,0,1,0,0] (Z6d a b x5 d) (xT N0 (xB 0 (S81 [1,1,1] Q))):=
 (Eq.mpr V5 (h _ rfl):)
abbrev ZFr(a b:Int):Prop:=AW (Z1 Zno) Tryz.f81 ZzN [] (Zf (ZwU.can (a,b,())) []) (EQ Tryz.f81 (ZBr (a,b,())) [])
theorem ZCZ(ZEY:CT 101 Z8U)(hb:∀ (a:Int) (b:Int) (_:Unit),Zuk (a,b,())->ZFr a b):CT 81 ZdF:=
 Z2 (l:=[(101,Z8U)]) Zd rfl (⟨ZEY,trivial⟩) ZzN Tryz.func81 rfl rfl 2 (fun _=> rfl) V2 (fun ⟨a,b,_⟩=> hb a b ())
end
theorem ZAt(a b:List Int)(i:Nat)(h1:i < a.length)(h2:i < b.length):ZiX (a.drop i) (b.drop i)=(if a.getD i 0=b.getD i 0 then 1 else 0)+ZiX (a.drop (i+1)) (b.drop (i+1)):=by
 rw [Z4s h1 0,Z4s h2 0,ZiX]
theorem ZwA(a b:List Int)(h:a=[]\/b=[]):ZiX a b=0:=by rcases h with rfl | rfl <;> cases ‹List Int› <;> rfl
theorem ZAs(a b:List Tree)(i:Nat)(h1:i < a.length)(h2:i < b.length):ZiW (a.drop i) (b.drop i)=(if ZU (Z0 (a.getD i Tree.nil)) (Z0 (b.getD i Tree.nil))=true then 1 else 0)+ZiW (a.drop (i+1)) (b.drop (i+1)):=by
 rw [Z4s h1 Tree.nil,Z4s h2 Tree.nil,ZiW]
theorem Zwz(a b:List Tree)(h:a=[]\/b=[]):ZiW a b=0:=by rcases h with rfl | rfl <;> cases ‹List Tree› <;> rfl
theorem Z2C:∀ l:List Tree,l.length<=Z6 l
 | []=> by simp
 | x ::r=> by have:=ZM x;have:=Z2C r;simp only [Z6,Qd];omega
theorem Jt(t:Tree):Z6 t.kids+t.words.length+1<=mass t:=by
 obtain ⟨k,w,ks⟩:=t
 simp only [mass]
 show Z6 ks+w.length+1<=_
 omega
theorem Z27(t:Tree):t.kids.length+t.words.length < mass t+1:=by
 have:=Jt t
 have:=Z2C t.kids
 omega
theorem ZEU:Contract Tryz.prog cfg 107 ZcT:=by
 refine ZzC c38 ?_
 intro a b _ hp
 obtain ⟨h1,h2⟩:=hp
 dsimp only at h1 h2
 have l1:=Z27 a
 have l2:=Z27 b
 refine ZGW _ _ _ ?_
 (simp only [iB,vcT,vcS])
 refine ⟨fun h=> ZE rfl ?_,fun h=> ?_⟩
 .simp only [JQ];rw [Yz]
 have e0:JQ a b=1+ZiX a.words b.words+ZiW a.kids b.kids:=by simp only [JQ];rw [Yo]
 refine Z8 (ι:=Int × Int) (fun s=> Z4p a b s.1 s.2) (fun s=> (0<=s.2/\s.2<=a.words.length/\s.2<=b.words.length)/\(0<=s.1/\s.1<=1+s.2)/\s.1+ZiX (a.words.drop s.2.toNat) (b.words.drop s.2.toNat)=1+ZiX a.words b.words) (fun s=> ((a.words.length:Int) - s.2).toNat) (1,0) rfl ⟨⟨V0,V0,V0⟩,⟨V0,V0⟩,by simp⟩ ?_
 rintro ⟨n,i⟩ ⟨⟨f1,f2,f3⟩,f4,f5⟩
 dsimp only at f1 f2 f3 f4 f5
 refine ZsU _ _ _ _ _ _ ?_
 rw [show (if (b.words.length:Int) < a.words.length then (b.words.length:Int) else a.words.length)=min (a.words.length:Int) b.words.length by omega]
 (simp only [iB,vcT,vcS])
 refine ⟨fun hi=> ?_,fun hi=> ?_⟩
 .rw [ZAt _ _ _ V0 V0,show i.toNat+1=(i+1).toNat by omega] at f5
  refine ⟨⟨f1,V0⟩,⟨f1,V0⟩,fun d=> ?_,fun d=> ?_⟩
  .rw [if_pos d] at f5
   exact ⟨V4,V4,(n+1,i+1),rfl,⟨⟨V3,V3,V3⟩,⟨V3,V3⟩,V3⟩,V3⟩
  .rw [if_neg d] at f5
   exact ⟨V4,(n,i+1),rfl,⟨⟨V3,V3,V3⟩,⟨V3,V3⟩,V3⟩,V3⟩
 rw [ZwA _ _ (by rw [Xz,Xz];omega)] at f5
 refine Z8 (ι:=Int × Int) (fun s=> Z4o a b s.1 s.2) (fun s=> (0<=s.2/\s.2<=a.kids.length/\s.2<=b.kids.length)/\(0<=s.1/\s.1<=n+s.2)/\s.1+ZiW (a.kids.drop s.2.toNat) (b.kids.drop s.2.toNat)=n+ZiW a.kids b.kids) (fun s=> ((a.kids.length:Int) - s.2).toNat) (n,0) rfl ⟨⟨V0,V0,V0⟩,⟨V0,V0⟩,by simp⟩ ?_
 rintro ⟨m,j⟩ ⟨⟨g1,g2,g3⟩,g4,g5⟩
 dsimp only at g1 g2 g3 g4 g5
 refine ZsT _ _ _ _ _ _ ?_
 rw [show (if (b.kids.length:Int) < a.kids.length then (b.kids.length:Int) else a.kids.length)=min (a.kids.length:Int) b.kids.length by omega]
 rintro y1 rfl y2 rfl y3 rfl y4 rfl
 (simp only [iB,vcT,vcS])
 refine ⟨fun hi=> ?_,fun hi=> ?_⟩
 .rw [ZAs _ _ _ V0 V0,show j.toNat+1=(j+1).toNat by omega] at g5
  have q1:=Y3 (Zi (l:=a.kids) (i:=j.toNat) V0 Tree.nil)
  have q2:=Y3 (Zi (l:=b.kids) (i:=j.toNat) V0 Tree.nil)
  have q3:=Jt a
  have q4:=Jt b
  refine ⟨⟨g1,V0⟩,⟨g1,V0⟩,⟨V3,V3⟩,fun d=> ?_,fun d=> ?_⟩
  .rw [if_pos d] at g5
   exact ⟨V4,V4,(m+1,j+1),rfl,⟨⟨V3,V3,V3⟩,⟨V3,V3⟩,V3⟩,V3⟩
  .rw [if_neg (by rw [d];decide)] at g5
   exact ⟨V4,(m,j+1),rfl,⟨⟨V3,V3,V3⟩,⟨V3,V3⟩,V3⟩,V3⟩
 .rw [Zwz _ _ (by rw [Xz,Xz];omega)] at g5
  exact ZE rfl (by show _=JQ a b;omega)
theorem Zsd:Contract Tryz.prog cfg 106 Z3e:=by
 refine ZzD ?_
 intro kind l _ _
 refine ZGX _ _ _ ?_
 (simp only [iB,vcT,vcS])
 refine ⟨fun h=> ?_,fun h=> ?_⟩
 .have e:ZT kind l=[]:=by simp only [ZT];rw [Yz]
  simp only [Zic,e]
  exact V1
 .have e:ZT kind l=[⟨kind,0,l,Edit.nil⟩]:=by simp only [ZT];rw [Yo]
  simp only [Zic,e]
  exact V1
theorem c86:Contract Tryz.prog cfg 86 ZhM:=by
 refine ZCU Zsd ?_
 intro l _ _
 refine ZIu _ _ ⟨trivial,?_⟩
 exact V1
theorem c88:Contract Tryz.prog cfg 88 ZhL:=by
 refine ZCT Zsd ?_
 intro l _ _
 refine ZIs _ _ ⟨trivial,?_⟩
 exact V1
theorem Zlc(t:Tree):∀ l:List Tree,-1<=Z37 t l/\Z37 t l < l.length
 | []=> by simp [Z37]
 | q ::r=> by
  have:=Zlc t r
  simp only [Z37,Qd]
  grind
theorem c66:Contract Tryz.prog cfg 66 ZhO:=by
 refine ZD8 c38 ?_
 intro d l _ hp
 have hp:Z6 d+Z6 l<=10000000:=hp
 have hl:=Z2C l
 refine ZIJ _ _ _ ?_
 refine Z8 (ι:=Int × List Tree × List Int) (fun s=> Z6f d l s.1 s.2.1 s.2.2) (fun s=> (0<=s.1/\s.1<=l.length)/\(Z6 s.2.1+Z6 (l.drop s.1.toNat)<=10000000/\(s.2.2.length:Int)=s.1)/\ofF d l=(l.drop s.1.toNat).foldl ofS s.2) (fun s=> ((l.length:Int) - s.1).toNat) (0,d,[]) rfl ⟨⟨V0,V0⟩,⟨by simpa using hp,rfl⟩,by simp [ofF]⟩ ?_
 rintro ⟨i,kn,out⟩ ⟨⟨f1,f2⟩,⟨f3,f4⟩,f5⟩
 dsimp only at f1 f2 f3 f4 f5
 have hk:=Z2C kn
 refine Zy4 _ _ _ _ _ _ _ ?_
 (simp only [iB,vcT,vcS])
 refine ⟨fun hi=> ⟨⟨f1,hi⟩,?_⟩,fun hi=> ?_⟩
 .rw [Jj f1 hi Tree.nil,X8] at f5
  rw [Jj f1 hi Tree.nil,Z6] at f3
  refine Z8 (ι:=Int) (fun j=> Z9M d l i kn out j) (fun j=> (0<=j/\j<=kn.length)/\Z37 (l.getD i.toNat Tree.nil) kn=if Z37 (l.getD i.toNat Tree.nil) (kn.drop j.toNat)= -1 then -1 else Z37 (l.getD i.toNat Tree.nil) (kn.drop j.toNat)+j) (fun j=> ((kn.length:Int) - j).toNat) 0 rfl ⟨⟨V0,V0⟩,by simp⟩ ?_
  rintro j ⟨⟨g1,g2⟩,g3⟩
  refine Zy3 _ _ _ _ _ _ _ _ _ ?_
  rintro y1 rfl y2 rfl y3 rfl y4 rfl
  (simp only [iB,vcT,vcS])
  refine ⟨fun hj=> ?_,fun hj=> ?_⟩
  .rw [Jj g1 hj Tree.nil,Z37] at g3
   have q:=Y3 (Zi (l:=kn) (i:=j.toNat) V0 Tree.nil)
   refine ⟨⟨g1,hj⟩,⟨V3,V3⟩,fun he=> ?_,fun he=> ?_⟩
   .rw [if_pos he,if_neg V2] at g3
    have e:Z37 (l.getD i.toNat Tree.nil) kn=j:=V0
    refine ⟨by simp;omega,V4,(i+1,kn,out++[j]),rfl,⟨⟨V3,V3⟩,⟨V3,by simp;omega⟩,?_⟩,V3⟩
    rw [f5,ofS,e,Yo]
   .simp only [he,X4,if_false] at g3
    have e:=Zlc (l.getD i.toNat Tree.nil) (kn.drop (j+1).toNat)
    refine ⟨V4,j+1,rfl,⟨⟨V0,V0⟩,?_⟩,V0⟩
    rw [g3]
    by_cases hA:Z37 (l.getD i.toNat Tree.nil) (kn.drop (j+1).toNat)= -1
    .simp only [hA,if_true]
    .simp only [if_neg hA]
     rw [Yo]
     omega
  .rw [Qe V0] at g3
   have e:Z37 (l.getD i.toNat Tree.nil) kn= -1:=g3
   have e2:(kn++[Tree.mk 0 [] []]).set (Int.toNat (kn.length:Int)) (l.getD i.toNat Tree.nil)=kn++[l.getD i.toNat Tree.nil]:=by simp
   rw [e2]
   refine ⟨by simp;omega,by simp;omega,⟨V0,by simp;omega⟩,by simp,V4,(i+1,_,_),rfl,⟨⟨V3,V3⟩,⟨by dsimp only;rw [Z46,Z6,Z6];omega,by simp;omega⟩,?_⟩,V3⟩
   rw [f5,ofS,e,if_pos rfl]
 .rw [Qe V0] at f5
  have e:ofF d l=(kn,out):=f5
  simp only [ZtA,Zmr,e]
  exact V1
theorem ZEY:Contract Tryz.prog cfg 101 Z8U:=by
 refine ZzI ?_
 intro w _ hp
 have hp:0<=w/\w < 18446744073709551616:=hp
 refine ZH2 _ _ ?_
 refine Z8 (ι:=Int) (fun i=> Z4r w i (if ((0:Nat):Int) < i then Zl w 0 else 0) (if ((1:Nat):Int) < i then Zl w 1 else 0) (if ((2:Nat):Int) < i then Zl w 2 else 0) (if ((3:Nat):Int) < i then Zl w 3 else 0)
  (if ((4:Nat):Int) < i then Zl w 4 else 0) (if ((5:Nat):Int) < i then Zl w 5 else 0) (if ((6:Nat):Int) < i then Zl w 6 else 0) (if ((7:Nat):Int) < i then Zl w 7 else 0)) (fun i=> 0<=i/\i<=8) (fun i=> (8 - i).toNat) 0 ?_ ⟨V0,V0⟩ ?_
 .simp [Z4r]
 rintro i ⟨d,h2⟩
 refine ZsX _ _ _ _ _ _ _ _ _ _ _ _ ?_
 (simp only [iB,vcT,vcS])
 refine ⟨fun hc=> ⟨V4,V0,⟨d,V0⟩,V4,i+1,?_,⟨V0,V0⟩,V0⟩,fun hc=> ?_⟩
 .have e2:IntKind.wrap .u8 (Int.fdiv w (2 ^ (min (Int.toNat (8*i)) (IntKind.bits .u64))))=Zl w i.toNat:=by
   have e:min (Int.toNat (8*i)) (IntKind.bits .u64)=8*i.toNat:=by simp [IntKind.bits];omega
   rw [e,Int.fdiv_eq_ediv_of_nonneg _ (Int.le_of_lt (K1 V0)),Zl,show (256:Int)=2 ^ 8 by rfl,<-Int.pow_mul]
   simp [IntKind.wrap,IntKind.signed,IntKind.bits]
  have st:∀ j:Nat,JL i j (IntKind.wrap .u8 (Int.fdiv w (2 ^ (min (Int.toNat (8*i)) (IntKind.bits .u64))))) (if (j:Int) < i then Zl w j else 0)=if (j:Int) < i+1 then Zl w j else 0:=fun j=> ZAz (F:=Zl w) (G:=fun _=> 0) d e2
  grind
 .have:i=8:=V0
  subst this
  simp only [Zmv]
  exact ⟨⟨rfl,⟨⟨rfl,rfl⟩,⟨rfl,rfl⟩,⟨rfl,rfl⟩,⟨rfl,rfl⟩,⟨rfl,rfl⟩,⟨rfl,rfl⟩,⟨rfl,rfl⟩,⟨rfl,rfl⟩,trivial⟩,trivial⟩,trivial⟩
theorem ZCB:∀ n:Fin 256,∀ i:Fin 8,n.1 < 2 ^ i.1->IntKind.wrap .u8 (BitVec.ofInt (IntKind.bits .u8) (n.1:Int) ||| BitVec.ofInt (IntKind.bits .u8) (IntKind.wrap .u8 (1*2 ^ (min (Int.toNat (i.1:Int)) (IntKind.bits .u8))))).toNat=(n.1:Int)+2 ^ i.1:=by decide+kernel
theorem ZhF(x:Int):∀ i:Nat,0<=Z7g x i/\Z7g x i < 2 ^ i
 | 0=> by simp [Z7g]
 | i+1=> by
  have:=ZhF x i
  have h2:(2:Int) ^ (i+1)=2 ^ i+2 ^ i:=by rw [Int.pow_succ];omega
  have d:(0:Int) < 2 ^ i:=K1 V0
  simp only [Z7g]
  split <;> omega
theorem Zfp(x:Int)(i:Nat)(h:i < 8):[Zl x 0,Zl x 1,Zl x 2,Zl x 3,Zl x 4,Zl x 5,Zl x 6,Zl x 7].getD i 0=Zl x i:=by
 match i,h with
 | 0,_=> rfl
 | 1,_=> rfl
 | 2,_=> rfl
 | 3,_=> rfl
 | 4,_=> rfl
 | 5,_=> rfl
 | 6,_=> rfl
 | 7,_=> rfl
theorem c81:Contract Tryz.prog cfg 81 ZdF:=by
 refine ZCZ ZEY ?_
 intro a b _ hp
 refine ZIz _ _ _ ⟨?_,?_⟩
 .show (0:Int)<=_/\_
  simp [IntKind.wrap,IntKind.signed,IntKind.bits]
  omega
 refine Z8 (ι:=Nat) (fun i=> Z6d a b (Z7g (Zdi a b) i) i) (fun i=> i<=8) (fun i=> 8 - i) 0 rfl V0 ?_
 intro i hi
 refine ZxW _ _ _ _ _ _ ?_
 rintro y1 rfl
 have e:IntKind.wrap .u64 (BitVec.ofInt (IntKind.bits .u64) a ^^^ BitVec.ofInt (IntKind.bits .u64) b).toNat=Zdi a b:=rfl
 rw [e]
 (simp only [iB,vcT,vcS])
 refine ⟨fun hc=> ⟨⟨V0,V0⟩,fun d=> ?_,fun d=> ?_⟩,fun hc=> ?_⟩
 .rw [QU,Zfp _ _ V0] at d
  have hu:=ZhF (Zdi a b) i
  obtain ⟨n,hn⟩:=QD hu.1
  have h8:(2:Nat) ^ i<=2 ^ 8:=Nat.pow_le_pow_right V0 V0
  have h9:n < 2 ^ i:=by have:=hu.2;rw [hn] at this;exact_mod_cast this
  have h:=ZCB ⟨n,V0⟩ ⟨i,V0⟩ h9
  refine ⟨V0,V4,i+1,?_,V0,V0⟩
  simp only at h
  rw [hn,h]
  have e2:Z7g (Zdi a b) (i+1)=(n:Int)+2 ^ i:=by rw [Z7g,if_neg d,hn]
  rw [e2]
  try rfl
 .rw [QU,Zfp _ _ V0] at d
  refine ⟨V4,i+1,?_,V0,V0⟩
  have e2:Z7g (Zdi a b) (i+1)=Z7g (Zdi a b) i:=by rw [Z7g,if_pos (by simpa using d)];omega
  rw [e2]
  try rfl
 .have:i=8:=V0
  subst this
  exact V1
instance instTwo:Inhabited Two:=⟨⟨0,0⟩⟩
theorem Zeu(l:List Three):(Z0c l).1.length=l.length - 1:=by simp [Z0c,Z16,Z79,YJ]
noncomputable section
def ZhW(i:Int):List Int->Int->List Three->List Three
 | [],_,r=> r
 | n ::l,j,r=> ZhW i l (j+1) (if (0 < n/\i < 16)/\j < 16 then ZbV r ⟨⟨i,j⟩,n⟩ else r)
def Z5w:List (List Int)->Int->List Three->List Three
 | [],_,r=> r
 | l ::t,i,r=> Z5w t (i+1) (ZhW i l 0 r)
def Z2i(r:List Three)(out:List Two):List Two:=
 if r.length=0 then out else Z2i (Z0c r).1 (if out.any (JU (Z0c r).2.p)=true then out else out++[(Z0c r).2.p])
termination_by r.length
decreasing_by rw [Zeu];omega
def ZfR(p q:Two):Int:=Z8i p.i q.i
def J0(l:List Two):List Two:=(Go.Sort.pdq (fun p q=> decide (ZfR p q < 0)) l.toArray 0 l.toArray.size (Go.Lib.bitLen l.toArray.size) true true).toList
def Z07(l:List (List Int)):List Two:=J0 (Z2i (Z5w l 0 []) [])
def Z0e(a b:Tree):Nat->Int->List WEdit
 | 0,_=> []
 | n+1,i=> (if ZW (Zm a i) (Zm b i)=0 then [] else [Z38 i (Zm a i) (Zm b i)])++Z0e a b n (i+1)
def Z0a(one:Tree->Tree->Edit)(a b:Tree):Nat->Int->List Kid
 | 0,_=> []
 | n+1,i=> (if (one (Zr a i) (Zr b i)).kind=0 then [] else [⟨i,one (Zr a i) (Zr b i)⟩])++Z0a one a b n (i+1)
def Jy(one:Tree->Tree->Edit)(a b:Tree):Edit:=
 .mk 2 Tree.nil Tree.nil (Z0e a b (max a.words.length b.words.length) 0) (Z0a one a b (max a.kids.length b.kids.length) 0) 0 []
def ZfN(l:List Tree)(i j:Int):List Tree:=(l.take j.toNat).drop i.toNat
def Jr(mk:Tree->Tree->Op)(old now:List Tree):List Two->Int->Int->List Op
 | [],i,j=> ZT 1 (old.drop i.toNat)++ZT 2 (now.drop j.toNat)
 | p ::r,i,j=> (ZT 1 (ZfN old i p.i)++ZT 2 (ZfN now j p.j))++mk (old.getD p.i.toNat Tree.nil) (now.getD p.j.toNat Tree.nil) ::Jr mk old now r (p.i+1) (p.j+1)
def ZI(old now:List Tree):List (List Int):=old.map fun x=> now.map (JQ x)
def Z3O(mk:Tree->Tree->Op)(old now:List Tree):List Op:=Jr mk old now (Z07 (ZI old now)) 0 0
def YM(gap:List Tree->List Tree->List Op):List SStep->List Tree->List Tree->List Op
 | [],_,_=> []
 | s ::r,old,now=>
  if s.kind=0 then ⟨0,s.n,[],Edit.nil⟩ ::YM gap r (old.drop s.n.toNat) (now.drop s.n.toNat)
  else if s.kind=2 then ZT 2 (now.take s.n.toNat)++YM gap r old (now.drop s.n.toNat)
  else match r with
   | []=> ZT 1 (old.take s.n.toNat)
   | t ::r'=> if t.kind=2 then gap (old.take s.n.toNat) (now.take t.n.toNat)++YM gap r' (old.drop s.n.toNat) (now.drop t.n.toNat)
    else ZT 1 (old.take s.n.toNat)++YM gap (t ::r') (old.drop s.n.toNat) now
def Z1g(a b:Tree)(most:Int):List SStep:=
 if (Z5y (ofF [] a.kids).2 (ofF (ofF [] a.kids).1 b.kids).2 most).2=true then (Z5y (ofF [] a.kids).2 (ofF (ofF [] a.kids).1 b.kids).2 most).1
 else Z5u [⟨1,a.kids.length⟩,⟨2,b.kids.length⟩]
def Z2k(mk:Tree->Tree->Op)(most:Int)(a b:Tree):Edit:= .mk 3 Tree.nil Tree.nil [] [] a.kind (YM (Z3O mk) (Z1g a b most) a.kids b.kids)
def Z17(e:Edit):Op:=⟨3,0,[],e⟩
def Z4v(desc:Edit->Op)(most:Int):Nat->Tree->Tree->Edit
 | 0,_,_=> Edit.nil
 | n+1,a,b=>
  if ZU (Z0 a) (Z0 b)=true then Edit.nil
  else if a.kind=1/\b.kind=1 then Jy (Z4v desc most n) a b
  else if a.kind=b.kind/\2<=a.kind/\a.kind<=9 then Z2k (fun x y=> desc (Z4v desc most n x y)) most a b
  else .mk 1 a b [] [] 0 []
def Z18(most:Int)(a b:Tree):Edit:=Z4v Z17 most (mass a+mass b) a b
end
end Go.AM.YtnfbomhidainjaaGreat
namespace Go.Proofs
open Go.Shelf Go.RowKit Go.Lib Go.Sort Go.AM
def Tryz.sortTwo_ren:Go.Shelf.Ren:=⟨fun | 6=> 119 | 15=> 126 | 14=> 125 | 28=> 136 | 29=> 137 | 20=> 128 | 21=> 129 | 22=> 130 | 23=> 131 | 24=> 132 | 25=> 133 | 26=> 134 | 27=> 135 | 46=> 138 | 47=> 139 | 48=> 140 | 49=> 141 | 50=> 142 | 57=> 143 | n=> n,fun | 22=> 167 | 24=> 170 | 25=> 188 | 3=> 3 | 39=> 198 | 0=> 0 | 53=> 208 | 55=> 47 | 4=> 4 | 46=> 202 | 45=> 201 | 50=> 134 | 5=> 5 | 9=> 9 | 66=> 210 | 70=> 214 | 76=> 216 | 77=> 62 | n=> n,fun | n=> n⟩
theorem Tryz.sortTwo:Go.Proofs.SlLaysF0.n6 Tryz.prog Tryz.sortTwo_ren:={
 mixed:=V5
 f6:=⟨Tryz.f119.name,V2,Tryz.func119.trans (congrArg some V5)⟩
 f14:=⟨Tryz.f125.name,V2,Tryz.func125.trans (congrArg some V5)⟩
 f15:=Tryz.func126.trans (congrArg some V5)
 f20:=⟨Tryz.f128.name,V2,Tryz.func128.trans (congrArg some V5)⟩
 f21:=⟨Tryz.f129.name,V2,Tryz.func129.trans (congrArg some V5)⟩
 f22:=⟨Tryz.f130.name,V2,Tryz.func130.trans (congrArg some V5)⟩
 f23:=⟨Tryz.f131.name,V2,Tryz.func131.trans (congrArg some V5)⟩
 f24:=⟨Tryz.f132.name,V2,Tryz.func132.trans (congrArg some V5)⟩
 f25:=⟨Tryz.f133.name,V2,Tryz.func133.trans (congrArg some V5)⟩
 f26:=⟨Tryz.f134.name,V2,Tryz.func134.trans (congrArg some V5)⟩
 f27:=⟨Tryz.f135.name,V2,Tryz.func135.trans (congrArg some V5)⟩
 f28:=Tryz.func136.trans (congrArg some V5)
 f29:=Tryz.func137.trans (congrArg some V5)
 f46:=⟨Tryz.f138.name,V2,Tryz.func138.trans (congrArg some V5)⟩
 f47:=Tryz.func139.trans (congrArg some V5)
 f48:=Tryz.func140.trans (congrArg some V5)
 f49:=⟨Tryz.f141.name,V2,Tryz.func141.trans (congrArg some V5)⟩
 f50:=⟨Tryz.f142.name,V2,Tryz.func142.trans (congrArg some V5)⟩
 f57:=⟨Tryz.f143.name,V2,Tryz.func143.trans (congrArg some V5)⟩
 t0:=Tryz.underlying0
 a0:=Tryz.isAgg0
 z0:=Tryz.sizeOf0
 v0:=Tryz.zeroValue0
 t3:=Tryz.underlying3
 a3:=Tryz.isAgg3
 z3:=Tryz.sizeOf3
 v3:=Tryz.zeroValue3
 t4:=Tryz.underlying4
 a4:=Tryz.isAgg4
 z4:=Tryz.sizeOf4
 v4:=Tryz.zeroValue4
 t5:=Tryz.underlying5
 a5:=Tryz.isAgg5
 z5:=Tryz.sizeOf5
 v5:=Tryz.zeroValue5
 t9:=Tryz.underlying9
 a9:=Tryz.isAgg9
 z9:=Tryz.sizeOf9
 v9:=Tryz.zeroValue9
 t22:=Tryz.underlying167
 a22:=Tryz.isAgg167
 z22:=Tryz.sizeOf167
 v22:=Tryz.zeroValue167
 t25:=Tryz.underlying188
 a25:=Tryz.isAgg188
 z25:=Tryz.sizeOf188
 v25:=Tryz.zeroValue188
 t39:=Tryz.underlying198
 a39:=Tryz.isAgg198
 z39:=Tryz.sizeOf198
 v39:=Tryz.zeroValue198
 t45:=Tryz.underlying201
 a45:=Tryz.isAgg201
 z45:=Tryz.sizeOf201
 v45:=Tryz.zeroValue201
 t46:=Tryz.underlying202
 a46:=Tryz.isAgg202
 z46:=Tryz.sizeOf202
 v46:=Tryz.zeroValue202
 t50:=Tryz.underlying134
 a50:=Tryz.isAgg134
 z50:=Tryz.sizeOf134
 v50:=Tryz.zeroValue134
 t53:=Tryz.underlying208
 a53:=Tryz.isAgg208
 z53:=Tryz.sizeOf208
 v53:=Tryz.zeroValue208
 t55:=Tryz.underlying47
 a55:=Tryz.isAgg47
 z55:=Tryz.sizeOf47
 v55:=Tryz.zeroValue47
 t66:=Tryz.underlying210
 a66:=Tryz.isAgg210
 z66:=Tryz.sizeOf210
 v66:=Tryz.zeroValue210
 t70:=Tryz.underlying214
 a70:=Tryz.isAgg214
 z70:=Tryz.sizeOf214
 v70:=Tryz.zeroValue214
 t76:=Tryz.underlying216
 a76:=Tryz.isAgg216
 z76:=Tryz.sizeOf216
 v76:=Tryz.zeroValue216
 t77:=Tryz.underlying62
 a77:=Tryz.isAgg62
 z77:=Tryz.sizeOf62
 v77:=Tryz.zeroValue62 }
def Tryz.cmpInt_ren:Go.Shelf.Ren:=⟨fun | 5=> 121 | 7=> 127 | n=> n,fun | 22=> 3 | 3=> 3 | 4=> 4 | n=> n,fun | n=> n⟩
theorem Tryz.cmpInt:Go.Proofs.SlLaysC2.n5 Tryz.prog Tryz.cmpInt_ren:={
 mixed:=V5
 f5:=⟨Tryz.f121.name,V2,Tryz.func121.trans (congrArg some V5)⟩
 f7:=⟨Tryz.f127.name,V2,Tryz.func127.trans (congrArg some V5)⟩
 t3:=Tryz.underlying3
 a3:=Tryz.isAgg3
 z3:=Tryz.sizeOf3
 v3:=Tryz.zeroValue3
 t4:=Tryz.underlying4
 a4:=Tryz.isAgg4
 z4:=Tryz.sizeOf4
 v4:=Tryz.zeroValue4
 t22:=Tryz.underlying3
 a22:=Tryz.isAgg3
 z22:=Tryz.sizeOf3
 v22:=Tryz.zeroValue3 }
def Tryz.encTwo(x:Go.AM.Two):List Value:=[.int .i64 x.i,.int .i64 x.j]
set_option maxHeartbeats 1000000 in
theorem Tryz.closure120(x y:Go.AM.Two)(W:World):Calls Tryz.prog 120 #[.agg #[.int .i64 x.i,.int .i64 x.j],.agg #[.int .i64 y.i,.int .i64 y.j]] W fun e w'=> e= .returned (.int .i64 (Lib.compareInt x.i y.i))/\∃ q os',w'=grow (W.drewN q) os':=by
 have d:=fun W'=> AnyG.cmp_Compare_int Tryz.cmpInt x.i y.i W'
 change ∀ W',Calls Tryz.prog 121 _ _ _ at d
 generalize Lib.compareInt x.i y.i=r at d ⊢
 go_enter Tryz.func120,Tryz.ntmps120
 go_wp2_with (go_at_call 121;refine (d _).mono ?_;rintro e w' ⟨rfl,rfl⟩)
 go_ret
 exact ⟨rfl,0,_,by rw [alloc_eq_grow,alloc_eq_grow,grow_grow];rfl⟩
theorem Tryz.cmpLays120(blk off size:Nat)(w:World):CmpLays Tryz.prog 120 #[] Tryz.encTwo 2 (fun x y=> Lib.compareInt x.i y.i) blk off size w:=
 fun _ _ _ _ x y=> Tryz.closure120 x y _
theorem Tryz.bits126(w:World):Calls Tryz.prog 126 #[.int .u64 0] w fun e d=> e= .returned (.int .i64 0)/\d=w:=by
 refine Any.bits_Len (SlLaysF0.n15.bits (P:=Tryz.prog) (ρ:=Tryz.sortTwo_ren) { Tryz.sortTwo with }) 0 w ?_ ?_ <;> omega
end Go.Proofs
namespace Go.AM.YtnfbomhidainjaaGreat
open Go.AM Go.Proofs
noncomputable section
def Zqy:ArgL (List Two × Int × Int × Unit × Unit):=(.cons (aSl .two) (.cons (Y6 .i64) (.cons (Y6 .i64) (.cons (aFn 120) .nil))))
def ZmJ(a:List Two × Int × Int × Unit × Unit):Prop:=(a.2.1=0)/\a.2.2.1=0
def ZtO(a:List Two × Int × Int × Unit × Unit):V U:= .tup []
def Z8A:Fs U:=fs Zqy (fun a=> [ZmJ a]) ZtO
def Zut(a:Int × Unit):Prop:=a.1=0
def ZCs(a:Int × Unit):V U:= .c (ci 0)
def Z8C:Fs U:=fs ZqP (fun a=> [Zut a]) ZCs
def ZqB:ArgL (List Two × Int × Int × Int × Unit × Unit):=(.cons (aSl .two) (.cons (Y6 .i64) (.cons (Y6 .i64) (.cons (Y6 .i64) (.cons (aFn 120) .nil)))))
def ZmK(a:List Two × Int × Int × Int × Unit × Unit):Prop:=(a.2.1=0)/\a.2.2.1=0
def ZtQ(a:List Two × Int × Int × Int × Unit × Unit):V U:= .tup []
def Z8D:Fs U:=fs ZqB (fun a=> [ZmK a]) ZtQ
def ZlJ:ArgL (List Two × Unit × Unit):=(.cons (aSl .two) (.cons (aFn 120) .nil))
def Zpp(a:List Two × Unit × Unit):Prop:=(a.1)=[]
def Zp5(a:List Two × Unit × Unit):V U:= .tup []
def ZjM:Fs U:=fs ZlJ (fun a=> [Zpp a]) Zp5
def Zv9:Zb U:=lvl [([0,1,2,3,8],[]),([0,1,2,3,8,14],[]),([0,1,2,3,8],[]),([0,1,2,3,8,9],[]),([0,1,2,3,8,9,34],[]),([0,1,2,3,8,9],[]),([0,1,2,3,8,9],[])]
def Zbl(s:List Two)(a b:Int)(f:Unit):LSt U:=(L2 [(0,.c (sU .two s .unk)),pI 1 a,pI 2 b,(3,.fn 120),pI 8 ((a:Int)+1)] [])
abbrev ZBb(p:List Nat):=AW (Z1 ZnF) Tryz.f128 Zv9 p
theorem ZGF(s:List Two)(a b:Int)(f:Unit)(Q:QT)(h:(InR (a+1))/\(Zk (ZBb [1,0,0]) (Zbl s a b f) (xB 0 Q))):
  ZBb [] (L2 [(0,.c (sU .two s .unk)),pI 1 a,pI 2 b,(3,.fn 120)] []) Q:=
 (Eq.mpr V5 h:)
theorem ZsG(s:List Two)(a b:Int)(f:Unit)(N0:NT)(Q:QT)(h:let z1:=decide (((a+1):Int) < b);let z0:=L2 [(0,.c (sU .two s .unk)),pI 1 a,pI 2 b,(3,.fn 120),pI 8 (a+1),(14,.c (.bool z1))] [];(iB z1 (ZBb [1,0,0,1] z0 (xT N0 (xB 0 Q))) (Q .normal z0))):
  ZBb [1,0,0] (Zbl s a b f) (xT N0 (xB 0 Q)):=
 (Eq.mpr V5 h:)
abbrev ZAM(s:List Two)(a b:Int)(f:Unit):Prop:=AW (Z1 ZnF) Tryz.f128 Zv9 [] (Zf (Zqy.can (s,a,b,f,())) []) (EQ Tryz.f128 (ZtO (s,a,b,f,())) [])
theorem Zzl(hb:∀ (s:List Two) (a:Int) (b:Int) (f:Unit) (_:Unit),ZmJ (s,a,b,f,())->ZAM s a b f):CT 128 Z8A:=
 Z2 (l:=[]) Zd rfl trivial Zv9 Tryz.func128 rfl rfl 4 (fun _=> rfl) V2 (fun ⟨s,a,b,f,_⟩=> hb s a b f ())
def Zq0:List (FuncId × Fs U):=[(128,Z8A)]
def Zvb:Zb U:=lvl [([0,1,2,3,4,10],[]),([0,1,2,3,4,10,11],[]),([0,1,2,3,4,10,11,12],[]),([0,1,2,3,4,10,11,12,25],[]),([],[]),([0,1,2,3,4,10,11,12,32],[]),([],[]),([0,1,2,3,4,10,11,12,39],[]),([0,1,2,3,4,10,11,12],[]),([0,1,2,3,4,10,11,12],[]),([0,1,2,3,4,10,11,12,13,14],[]),([0,1,2,3,4,10,11,12,13,14,56],[]),([0,1,2,3,4,10,11,12,13],[]),([0,1,2,3,4,10,11,12,13],[]),([0,1,2,3,4,10,11,12,13,14],[]),([0,1,2,3,4,10,11,12,13,75],[]),([0,1,2,3,4,10,11,12,13,80],[]),([0,1,2,3,4,10,11,12,13,97],[]),([0,2,3,4,10,11,15],[]),([0,1,2,3,4,10,11],[]),([0,1,2,3,4,12,16,17],[]),([0,1,2,3,4,11,12,16],[]),([0,1,2,3,4,11,12,16,18,19],[]),([0,1,2,3,4,11,16,18,19,20],[]),([0,1,2,3,4,11,16,18,19,20,125],[]),([0,1,2,3,4,10,11,16],[]),([0,2,3,4,10,11,16],[]),([0,1,2,3,4,10,11],[]),([0,1,2,3,4,10,11,16],[]),([0,1,3,4,10,11,16],[]),([0,1,2,3,4,10,11],[])]
def Zbm(s:List Two)(a b limit:Int)(f:Unit):LSt U:=(L2 [(0,.c (sU .two s .unk)),pI 1 a,pI 2 b,pI 3 limit,(4,.fn 120),pB 10 true,pB 11 true] [])
abbrev ZBc(p:List Nat):=AW (Z1 Zq0) Tryz.f125 Zvb p
theorem ZGH(s:List Two)(a b limit:Int)(f:Unit)(Q:QT)(h:(Zk (ZBc [1,1,0,0]) (Zbm s a b limit f) (xB 0 Q))):
  ZBc [] (L2 [(0,.c (sU .two s .unk)),pI 1 a,pI 2 b,pI 3 limit,(4,.fn 120)] []) Q:=
 (Eq.mpr V5 h:)
theorem ZsH(s:List Two)(a b limit:Int)(f:Unit)(N0:NT)(Q:QT)(h:let z0:=decide (((b - a):Int)<=12);(InR (b - a))/\(iB z0 ((ZmJ (s,a,b,(),()))/\(Q .ret (L2 [] []))) (ZBc [1,1,0,0,0,1,1] (L2 [(0,.c (sU .two s .unk)),pI 1 a,pI 2 b,pI 3 limit,(4,.fn 120),pB 10 true,pB 11 true,pI 12 (b - a),(25,.c (.bool z0))] []) (xB 1 (xT N0 (xB 0 Q)))))):
  ZBc [1,1,0,0] (Zbm s a b limit f) (xT N0 (xB 0 Q)):=
 (Eq.mpr V5 h:)
abbrev ZAO(s:List Two)(a b limit:Int)(f:Unit):Prop:=AW (Z1 Zq0) Tryz.f125 Zvb [] (Zf (ZqB.can (s,a,b,limit,f,())) []) (EQ Tryz.f125 (ZtQ (s,a,b,limit,f,())) [])
theorem Zzn(ZEC:CT 128 Z8A)(hb:∀ (s:List Two) (a:Int) (b:Int) (d:Int) (f:Unit) (_:Unit),ZmK (s,a,b,d,f,())->ZAO s a b d f):CT 125 Z8D:=
 Z2 (l:=[(128,Z8A)]) Zd rfl (⟨ZEC,trivial⟩) Zvb Tryz.func125 rfl rfl 5 (fun _=> rfl) V2 (fun ⟨s,a,b,d,f,_⟩=> hb s a b d f ())
def Zl5:List (FuncId × Fs U):=[(125,Z8D),(126,Z8C)]
def Znd:Zb U:=lvl [([0,1,4],[]),([],[])]
abbrev ZIi(p:List Nat):=AW (Z1 Zl5) Tryz.f119 Znd p
theorem ZCk(s:List Two)(f:Unit)(Q:QT)(h:((Zut ((IntKind.wrap .u64 (s.length:Int)),()))/\(ZmK (s,0,(s.length:Int),0,(),()))/\(Q .normal (L2 [] [])))):
  ZIi [] (L2 [(0,.c (sU .two s .unk)),(1,.fn 120)] []) Q:=
 (Eq.mpr V5 h:)
abbrev ZxB(s:List Two)(f:Unit):Prop:=AW (Z1 Zl5) Tryz.f119 Znd [] (Zf (ZlJ.can (s,f,())) []) (EQ Tryz.f119 (Zp5 (s,f,())) [])
theorem ZuZ(ZEF:CT 125 Z8D)(ZEE:CT 126 Z8C)(hb:∀ (s:List Two) (f:Unit) (_:Unit),Zpp (s,f,())->ZxB s f):CT 119 ZjM:=
 Z2 (l:=[(125,Z8D),(126,Z8C)]) Zd rfl (⟨ZEF,ZEE,trivial⟩) Znd Tryz.func119 rfl rfl 2 (fun _=> rfl) V2 (fun ⟨s,f,_⟩=> hb s f ())
end
theorem ZEC:Contract Tryz.prog cfg 128 Z8A:=by
 refine Zzl ?_
 intro s a b f _ hp
 obtain ⟨d,h2⟩:=hp
 dsimp only at d h2
 subst d
 refine ZGF s 0 b f _ ⟨V4,?_⟩
 refine Z8 (ι:=Unit) (fun _=> Zbl s 0 b f) (fun _=> True) (fun _=> 0) () rfl trivial ?_
 intro _ _
 refine ZsG s 0 b f _ _ ⟨fun h=> ?_,fun h=> ?_⟩
 .simp at h;omega
 ·exact V1
theorem ZEF:Contract Tryz.prog cfg 125 Z8D:=by
 refine Zzn ZEC ?_
 intro s a b d f _ hp
 obtain ⟨h1,h2⟩:=hp
 dsimp only at h1 h2
 refine ZGH s a b d f _ ?_
 refine Z8 (ι:=Unit) (fun _=> Zbm s a b d f) (fun _=> True) (fun _=> 0) () rfl trivial ?_
 intro _ _
 refine ZsH s a b d f _ _ ⟨V4,fun h=> ⟨⟨h1,h2⟩,?_⟩,fun h=> ?_⟩
 ·exact V1
 .simp at h;omega
theorem ZEE:Contract Tryz.prog cfg 126 Z8C:=by
 refine Jk ⟨_,Tryz.func126,rfl,rfl⟩ rfl ?_
 intro args X ps r X' hs af hX w g vs hE
 unfold Z8C fs at hs
 simp only at hs
 split at hs
 case h_2=> cases hs
 split at hs
 case h_2=> cases hs
 rename_i a ha
 cases hs
 have h0:a.1=0:=af.1
 obtain ⟨hl,hb⟩:=ZqP.ok cfg rfl args a ha
 match args,vs,hl,hE with
 | [x],[v],_,hE=>
  have hx:=hb 0 x _ rfl rfl
  have hv:=hx g _ v (hE.args 0 v x rfl rfl)
  have e:v= .int .u64 0:=by
   have:=hv.1
   rw [h0] at this
   cases this
   try rfl
  subst e
  refine Calls.mono (Tryz.bits126 w) ?_
  rintro e w' ⟨rfl,rfl⟩
  refine ⟨_,⟨g.m,fun a=> match g.tag a with | some (.outer t)=> some (.outer t) | _=> none,g.ad,g.bs⟩,rfl,?_⟩
  refine ⟨⟨fun a v hv=> ?_,fun a t d=> ?_⟩,⟨⟨rfl,rfl,rfl,Qg _⟩,fun _=> rfl,fun _ _ h=> h,fun a t d=> ?_,fun a t d=> ?_,fun b hb ah=> ⟨rfl,fun o s=> ?_⟩,fun _ _=> rfl⟩,fun a t d=> ?_,fun _ _=> rfl,⟨.int _ _,trivial⟩,fun k cs hk=> by simp at hk,fun t x hx=> by cases hx⟩
  .have:=hE.inv.im a v hv
   exact ⟨this.1,by simp only [this.2]⟩
  .dsimp only at d
   split at d
   .rename_i h
    exact hE.inv.it a _ h
   .cases d
  .have d:g.tag a=some (.outer t):=d
   exact ⟨by simp only [d],rfl⟩
  .dsimp only at d
   split at d
   .rename_i h
    cases d
    exact h
   .cases d
  .show _=g.tag _
   dsimp only
   cases h:g.tag ⟨b,o,s⟩ with
   | none=> rfl
   | some t=>
    obtain ⟨t',rfl⟩:=ah o s t h
    try rfl
  .dsimp only at d
   split at d
   .cases d;exact .inl ⟨_,rfl⟩
   .cases d
theorem ZHC:Contract Tryz.prog cfg 119 ZjM:=by
 refine ZuZ ZEF ZEE ?_
 intro s f _ d
 have d:s=[]:=d
 subst d
 refine ZCk [] f _ ⟨rfl,⟨rfl,rfl⟩,?_⟩
 exact V1
theorem Zox:Go.Sort.SWO (fun p q:Two=> decide (ZfR p q < 0)) where
 irrefl x:=by simp [ZfR,Z8i]
 trans x y z h1 h2:=by simp only [ZfR,Z8i,decide_eq_true_eq] at*;grind
 ntrans x y z h1 h2:=by simp only [ZfR,Z8i,decide_eq_false_iff_not] at*;grind
theorem ZaE(l:List Two):(J0 l).length=l.length/\(J0 l).Perm l/\∀ i j,i < j->j < l.length->¬((J0 l).getD j ⟨0,0⟩).i < ((J0 l).getD i ⟨0,0⟩).i:=by
 have h:=Go.Sort.pdq_sorts (fun p q:Two=> decide (ZfR p q < 0)) Zox l.toArray 0 l.toArray.size (Go.Lib.bitLen l.toArray.size) true true (X6 _) (Qg _) (Or.inl rfl)
 have e0:J0 l=(Go.Sort.pdq (fun p q:Two=> decide (ZfR p q < 0)) l.toArray 0 l.toArray.size (Go.Lib.bitLen l.toArray.size) true true).toList:=rfl
 rw [e0]
 generalize Go.Sort.pdq (fun p q:Two=> decide (ZfR p q < 0)) l.toArray 0 l.toArray.size (Go.Lib.bitLen l.toArray.size) true true=D at h
 obtain ⟨⟨h1,_,h2⟩,h3⟩:=h
 refine ⟨by simpa using h1,?_,fun i j ab hj=> ?_⟩
 .rw [K4 (by rw [h1];exact Qg _),K4 (Qg _)] at h2
  simpa using h2
 .have:=h3 i j (X6 _) ab (by simpa using hj)
  have e:∀ k,k < l.length->D.toList.getD k ⟨0,0⟩=D[k]! :=by
   intro k hk
   have d:k < D.size:=by rw [h1];simpa using hk
   rw [getElem!_pos _ k d,Q6,Xy,QC d]
   try rfl
  rw [e i V0,e j hj]
  have:=of_decide_eq_false this
  intro hc
  refine this ?_
  show (if _ then _ else _) < (0:Int)
  rw [if_pos hc]
  decide
theorem ZAk(w:World)(n blk off:Nat)(F:Array Value)(os:Array Obj)(hF:0 < F.size)(hb:blk < w.heap.size):Evo w (Go.Sort.grow (Go.Sort.putRow id (Go.Sort.ahead w n) blk off F) os) (fun c=> ∃ j,j < F.size/\c=⟨blk,off+j,none⟩):=by
 have af:(Go.Sort.putRow id (Go.Sort.ahead w n) blk off F).heap.size=w.heap.size:=Go.Sort.size_putRow id (Go.Sort.ahead w n) blk off F
 have hc:∀ a,a.block < w.heap.size->(Go.Sort.grow (Go.Sort.putRow id (Go.Sort.ahead w n) blk off F) os).cell? a=(Go.Sort.putRow id (Go.Sort.ahead w n) blk off F).cell? a:=fun a ha=> Go.Sort.cell?_grow _ _ _ (by rw [af];exact ha)
 have ai:∀ a v,w.cell? a=some v->a.block < w.heap.size:=by
  intro a v h
  unfold World.cell? at h
  cases hh:w.heap[a.block]? with
  | none=> rw [hh] at h;cases h
  | some o=> exact (QE.1 hh).1
 refine ⟨⟨rfl,rfl,rfl,by rw [Go.Sort.size_grow,af];omega⟩,fun a ha hs=> ?_,fun a ha=> ?_,fun a v hv=> ?_,fun b ak hs=> ?_⟩
 .rw [hc a ha]
  by_cases d:a.spot=none
  .obtain ⟨ab,ao,sp⟩:=a
   dsimp only at d
   subst d
   refine Go.Sort.cell?_putRow_other id (Go.Sort.ahead w n) blk off F _ ?_
   by_cases h1:ab=blk
   .subst h1
    dsimp only
    rcases Xw ao off with h | h
    .exact .inr (.inl h)
    .refine .inr (.inr (Nat.le_of_not_lt fun h3=> hs ⟨ao - off,V0,?_⟩))
     rw [show off+(ao - off)=ao by omega]
   .exact .inl h1
  .have hn:∀ W:World,W.cell? a=none:=by
    intro W
    unfold World.cell?
    cases W.heap[a.block]? with
    | none=> rfl
    | some o=> cases o <;> simp [Option.isSome_iff_ne_none,d]
   rw [hn,hn]
 .rw [Go.Sort.frozen?_grow _ _ _ (by rw [af];exact ha),Go.Sort.frozen?_putRow]
  try rfl
 .have ha:=ai a v hv
  rw [hc a ha]
  unfold World.cell? at hv
  cases hh:w.heap[a.block]? with
  | none=> rw [hh] at hv;cases hv
  | some o=>
   rw [hh] at hv
   cases o with
   | cells c e fr=>
    dsimp only at hv
    split at hv
    .cases hv
    .rename_i d
     have ah:(Go.Sort.ahead w n).heap[a.block]?=some (.cells c e fr):=hh
     have ar:=(QE.1 hv).1
     by_cases hbk:blk=a.block
     .have e1:(Go.Sort.putRow id (Go.Sort.ahead w n) blk off F).heap[a.block]?=some (.cells (Go.Sort.putCells id off F c) e fr):=by
       unfold Go.Sort.putRow Go.Sort.mapBlock
       rw [XQ,if_pos hbk,ah]
       try rfl
      have h3:a.off < (Go.Sort.putCells id off F c).size:=by simpa [Go.Sort.putCells] using ar
      unfold World.cell?
      rw [e1]
      dsimp only
      rw [if_neg d]
      exact ⟨_,QC h3⟩
     .have e1:(Go.Sort.putRow id (Go.Sort.ahead w n) blk off F).heap[a.block]?=some (.cells c e fr):=by
       unfold Go.Sort.putRow Go.Sort.mapBlock
       rw [XQ,if_neg hbk,ah]
      unfold World.cell?
      rw [e1]
      dsimp only
      rw [if_neg d]
      exact ⟨v,hv⟩
   | _=> cases hv
 .have am:blk≠b:=fun e=> hs off none ⟨0,hF,by rw [e];rfl⟩
  unfold Go.Sort.grow Go.Sort.putRow Go.Sort.mapBlock
  dsimp only
  rw [Array.getElem?_append_left (by simpa using ak),Array.getElem?_modify,if_neg am]
  try rfl
theorem ZF1:∀ w,(isAgg 170).run Tryz.prog w= .ok true w:=fun w=> (Z1S Zd (t:=170) rfl w).2.1
theorem ZyE:∀ w,(Go.sizeOf 170).run Tryz.prog w= .ok 2 w:=fun w=> (Z1S Zd (t:=170) rfl w).1
theorem Zlh(d:Array Two)(j:Nat)(hj:j < d.size*2):(Go.Sort.flatK Tryz.encTwo 2 d)[j]! = .int .i64 (if j % 2=0 then (d[j / 2]!).i else (d[j / 2]!).j):=by
 rw [Go.Sort.get_flatK _ _ _ _ hj]
 have:j % 2=0\/j % 2=1:=V0
 rcases this with h | h <;> simp [h,Tryz.encTwo]
theorem ZjQ{m:Addr->Option Value}{l:List Two}{vs:List Value}(h:ZqT cfg m .two l vs)(j:Nat)(hj:j < l.length*2):vs[j]?=some (.int .i64 (if j % 2=0 then (l.getD (j / 2) ⟨0,0⟩).i else (l.getD (j / 2) ⟨0,0⟩).j)):=by
 have ab:j / 2 < l.length:=V0
 have hx:l[j / 2]?=some (l.getD (j / 2) ⟨0,0⟩):=by rw [Q6,Q0 ab];try rfl
 have hd:j=j / 2*2+j % 2:=V0
 have:j % 2=0\/j % 2=1:=V0
 rcases this with h1 | h1
 .obtain ⟨u,d,h3⟩:=h.2 (j / 2) _ hx 0 (.int .i64 (l.getD (j / 2) ⟨0,0⟩).i) rfl
  cases h3
  rw [if_pos h1]
  have e:j / 2*cfg.sz .two+0=j:=by show j / 2*2+0=j;omega
  rwa [e] at d
 .obtain ⟨u,d,h3⟩:=h.2 (j / 2) _ hx 1 (.int .i64 (l.getD (j / 2) ⟨0,0⟩).j) rfl
  cases h3
  rw [Yo]
  have e:j / 2*cfg.sz .two+1=j:=by show j / 2*2+1=j;omega
  rwa [e] at d
theorem ZyD:ZqU Tryz.prog cfg 119 ⟨120,.two,J0⟩:=by
 intro w m l b aq vs ae aw a1 ay am
 dsimp only at l ae a1 ay ⊢
 have bg:vs.length=l.length*2:=ae.1
 by_cases hl:l=[]
 .subst hl
  have hE:Entry cfg w ⟨w.cell?,fun _=> none,fun _=> ⟨0,0,none⟩,fun _=> none⟩ [.slice b 0 aq,.func (.func 120) #[] #[]] [.c (.slice (U:=U) .two [] .unk),.fn 120] [] []:=by
   refine ⟨⟨fun a v hv=> ⟨hv,rfl⟩,fun a t ht=> by cases ht⟩,fun a t ht=> (by cases ht),rfl,fun j v x hv hx=> ?_,fun k cs hk=> by simp at hk,fun t _=> rfl,fun t x hx=> by cases hx⟩
   match j,hv,hx with
   | 0,hv,hx=>
    cases hv;cases hx
    refine ⟨?_,trivial⟩
    cases b with
    | none=>
     obtain ⟨_,rfl⟩:=aw rfl
     exact .snil _ _
    | some a=> exact .slice _ _ _ a 0 aq (fun _ _=> undef) rfl (X6 _) (fun i x hx=> by simp at hx) (fun i x hx=> by simp at hx)
   | 1,hv,hx=> cases hv;cases hx;rfl
   | n+2,hv,hx=> simp at hv
  have hc:=ZHC.2.1 [.c (.slice (U:=U) .two [] .unk),.fn 120] [] [] _ _ _ _ rfl ⟨rfl,trivial⟩ (by simp) w _ _ hE
  refine Calls.mono hc ?_
  rintro e w' ⟨v,g',rfl,L⟩
  have hs:(J0 []).length=0:=(ZaE []).1
  have az:∀ b,b < w.heap.size->w'.heap[b]?=w.heap[b]?:=fun b hb=> (L.fr.clean b hb (fun o s t ht=> by cases ht)).1
  have a8:∀ a:Addr,a.block < w.heap.size->w'.cell? a=w.cell? a:=fun a ha=> by unfold World.cell?;rw [az _ ha]
  refine ⟨⟨v,rfl⟩,hs,[],⟨by simp [hs],fun i x hx=> by rw [Q1 hs] at hx;simp at hx⟩,⟨L.fr.stay,fun a ha _=> a8 a ha,L.fr.frz,fun a v hv=> ⟨v,?_⟩,fun b hb _=> az b hb⟩,fun a _ j u hu=> by simp at hu⟩
  exact (L.inv.im a v (L.fr.mono a v hv)).1
 .have bk:0 < l.length:=by cases l;exact absurd rfl hl;simp
  cases b with
  | none=> exact absurd (aw rfl).1 hl
  | some a=>
   have h0:=ZjQ ae 0 V0
   have af:=(am a rfl 0 _ h0).1
   have bh:a.spot=none/\a.block < w.heap.size:=by
    have e:a.add 0=a:=rfl
    rw [e] at af
    unfold World.cell? at af
    cases hh:w.heap[a.block]? with
    | none=> rw [hh] at af;cases af
    | some o=>
     rw [hh] at af
     refine ⟨?_,(QE.1 hh).1⟩
     cases o with
     | cells c e fr=>
      dsimp only at af
      split at af
      .cases af
      .rename_i h;simpa using h
     | _=> cases af
   obtain ⟨aa,d,sp⟩:=a
   obtain ⟨rfl,ai⟩:=bh
   dsimp only at ai
   have ak:∀ j,(Addr.add ⟨aa,d,none⟩ j)=⟨aa,d+j,none⟩:=fun j=> by
    unfold Addr.add
    split
    .rename_i h;subst h;rfl
    .try rfl
   have hH:Go.Sort.HoldsK Tryz.encTwo 2 w aa d l.toArray:=by
    intro j hj
    have hj:j < l.length*2:=by simpa using hj
    have:=am ⟨aa,d,none⟩ rfl j _ (ZjQ ae j hj)
    rw [ak] at this
    refine ⟨?_,this.2⟩
    rw [this.1]
    show _=some ((Go.Sort.flatK Tryz.encTwo 2 l.toArray)[j]!)
    rw [Zlh _ _ (by simpa using hj)]
    have ab:j / 2 < l.length:=V0
    have e:l.toArray[j / 2]! =l.getD (j / 2) ⟨0,0⟩:=by rw [getElem!_pos _ _ (by simpa using ab)];simp [List.getD_eq_getElem?_getD,List.getElem?_eq_getElem ab]
    rw [e]
   have eg:∀ args w,(callFunc 120 args).run Tryz.prog w= .ok (.enter 120 args) w:=enters_of Tryz.func120 V5 rfl
   have ax:Go.Sort.SWO (ltOf fun x y:Two=> Go.Lib.compareInt x.i y.i):=by
    have e:(ltOf fun x y:Two=> Go.Lib.compareInt x.i y.i)=fun p q:Two=> decide (ZfR p q < 0):=rfl
    rw [e];exact Zox
   have ao:=AnyQ.slices_SortFunc_eq Tryz.sortTwo 2 ZF1 ZyE Tryz.encTwo (fun _=> rfl) (fun x v hv=> by simp [Tryz.encTwo] at hv;rcases hv with rfl | rfl <;> rfl) (fun x y=> Go.Lib.compareInt x.i y.i) ax 120 #[] aa d aq l.toArray w eg (Tryz.cmpLays120 aa d _ w) hH ai (by simp;omega)
   have a2:l.toArray.size=l.length:=by simp
   rw [a2] at ao
   refine Calls.mono ao ?_
   rintro e w' ⟨rfl,n,os,rfl⟩
   have al:=ZaE l
   have e0:J0 l=(Go.Sort.pdq (fun p q:Two=> decide (ZfR p q < 0)) l.toArray 0 l.toArray.size (Go.Lib.bitLen l.toArray.size) true true).toList:=rfl
   rw [a2] at e0
   have e1:Go.Sort.pdq (ltOf fun x y:Two=> Go.Lib.compareInt x.i y.i) l.toArray 0 l.length (Go.Lib.bitLen l.length) true true=(J0 l).toArray:=by rw [e0];simp;rfl
   rw [e1]
   refine ⟨⟨_,rfl⟩,al.1,(Go.Sort.flatK Tryz.encTwo 2 (J0 l).toArray).toList,⟨by simp;rfl,fun i x hx j c hc=> ?_⟩,?_,fun a ha j u hu=> ?_⟩
   .have hi:i < (J0 l).length:=(Q4.1 hx).1
    have hj:j < 2:=by
     have:=(Q4.1 hc).1
     exact this
    have ab:i*2+j < (J0 l).toArray.size*2:=by simp;omega
    have bf:(J0 l).toArray[i]! =x:=by rw [getElem!_pos _ _ (by simpa using hi)];simpa [List.getElem?_eq_getElem hi] using hx
    have hf:=Zlh (J0 l).toArray (i*2+j) ab
    rw [show (i*2+j) / 2=i by omega,show (i*2+j) % 2=j by omega,bf] at hf
    have hg:(Go.Sort.flatK Tryz.encTwo 2 (J0 l).toArray).toList[i*cfg.sz .two+j]?=some (.int .i64 (if j=0 then x.i else x.j)):=by
     show (Go.Sort.flatK Tryz.encTwo 2 (J0 l).toArray).toList[i*2+j]?=_
     rw [Xy,<-hf,getElem!_pos _ _ (by simpa using ab)]
     exact QC _
    refine ⟨_,hg,?_⟩
    match j,hj,hc with
    | 0,_,hc=> cases hc;exact .int _ _
    | 1,_,hc=> cases hc;exact .int _ _
   .have hF:(Go.Sort.flatK Tryz.encTwo 2 (J0 l).toArray).size=vs.length:=by simp [al.1,bg]
    have a7:=ZAk w n aa d (Go.Sort.flatK Tryz.encTwo 2 (J0 l).toArray) os (by rw [hF];omega) ai
    have e:(fun c=> ∃ j,j < (Go.Sort.flatK Tryz.encTwo 2 (J0 l).toArray).size/\c=(⟨aa,d+j,none⟩:Addr))=fun c=> ∃ a j,some (⟨aa,d,none⟩:Addr)=some a/\j < vs.length/\c=a.add j:=by
     funext c
     rw [hF]
     refine propext ⟨fun ⟨j,h1,h2⟩=> ⟨_,j,rfl,h1,by rw [ak];exact h2⟩,fun ⟨a,j,h1,h2,h3⟩=> ⟨j,h2,?_⟩⟩
     cases h1
     rw [h3,ak]
    rw [<-e]
    exact a7
   .cases ha
    have bd:Go.Sort.HoldsK Tryz.encTwo 2 (sortWorldK Tryz.encTwo 2 w aa d n (J0 l).toArray os) aa d (J0 l).toArray:=holdsK_sortWorldK_c Tryz.encTwo 2 w aa d l.toArray (J0 l).toArray n os hH ai (by simp [al.1])
    have ab:j < (Go.Sort.flatK Tryz.encTwo 2 (J0 l).toArray).size:=by simpa using (List.getElem?_eq_some_iff.1 hu).1
    have:=(bd j ab).1
    rw [ak,this]
    rw [Xy,QC ab] at hu
    rw [getElem!_pos (Go.Sort.flatK Tryz.encTwo 2 (J0 l).toArray) j ab]
    exact hu
def Z8I:Fs U:={ wr:=true,inp:=some ⟨120,.two,J0⟩,fn:=fun _ _=> none }
theorem ZEK:Contract Tryz.prog cfg 119 Z8I:=by
 refine ⟨⟨_,Tryz.func119,rfl,rfl⟩,fun args X L ps r X' L' d=> ?_,fun i hi=> ?_⟩
 .simp only [Z8I,Zcx] at d
  split at d <;> cases d
 .cases hi
  exact ZyD
noncomputable section
def ZqK:ArgL (List (List Int) × Unit):=(.cons (aSl .irow) .nil)
def ZmQ(a:List (List Int) × Unit):Prop:=(a.1).length<=1000000/\∀ l∈a.1,l.length<=1000000
def Zib(a:List (List Int) × Unit):V U:= .c (sU .two (Z07 a.1) .unk)
def ZcS:Fs U:=fs ZqK (fun a=> [ZmQ a]) Zib
def Zx0:ArgL (Int × Int × Int × Unit):=(.cons (Y6 .i64) (.cons (Y6 .u64) (.cons (Y6 .u64) .nil)))
def Zum(a:Int × Int × Int × Unit):Prop:=(0<=a.2.1/\a.2.1 < 18446744073709551616)/\(0<=a.2.2.1/\a.2.2.1 < 18446744073709551616)
def Zp0(a:Int × Int × Int × Unit):V U:= .tup [(true,(enc .wedit (if ZW a.2.1 a.2.2.1=0 then WEdit.mk 0 0 0 0 else Z38 a.1 a.2.1 a.2.2.1))),(false,[.bool (decide (ZW a.2.1 a.2.2.1≠0))])]
def ZhP:Fs U:=fs Zx0 (fun a=> [Zum a]) Zp0
def ZiI:List (FuncId × Fs U):=[(114,Z8M),(116,Z8L),(115,Z1d.lend),(117,Z8K.lend),(119,Z8I)]
def ZpI:Zb U:=lvk [([0],[]),([0,3],[((.loc 11),[.wr .three])]),([3,12,13,14],[((.loc 11),[.wr .three])]),([3,12,13,14,15],[((.loc 11),[.wr .three])]),([3,4,5,12,13,14],[((.loc 11),[.wr .three])]),([3,4,12,13,14,19,20,21],[((.loc 11),[.wr .three])]),([3,4,12,13,14,19,20,21,22],[((.loc 11),[.wr .three])]),([3,4,6,7,12,13,14,19,20,21],[((.loc 11),[.wr .three])]),([3,4,6,7,12,13,14,19,20,21,35],[((.loc 11),[.wr .three])]),([3,4,12,13,14,19,20,21],[((.loc 11),[.wr .three])]),([3,4,12,13,14,19,20,21],[((.loc 11),[.wr .three])]),([3,12,13,14],[((.loc 11),[.wr .three])]),([3,(8,[.wr .two])],[((.loc 11),[.wr .three])]),([3,(8,[.wr .two]),51],[((.loc 11),[.wr .three])]),([3,(8,[.wr .two]),9],[9,((.loc 11),[.wr .three])]),([3,(8,[.wr .two]),9,61],[9,((.loc 11),[.wr .three])]),([3,(8,[.wr .two])],[((.loc 11),[.wr .three])]),([(8,[.wr .two])],[]),([2],[])]
def Z73(scores:List (List Int))(aa:Int)(d:List Three):LSt U:=(⟨[(3,.ptr (.loc 11) 0),(12,.c (sU .irow scores .unk)),pI 13 (scores.length:Int),pI 14 aa],[(.loc 11,[.mref (.l 11 0)])],[(.l 11 0,LC.mk (U:=U) .three d 0)]⟩:LSt U)
def Z4n(scores:List (List Int))(aa ab:Int)(d:List Three):LSt U:=(⟨[(3,.ptr (.loc 11) 0),pI 4 aa,(12,.c (sU .irow scores .unk)),pI 13 (scores.length:Int),pI 14 aa,(19,.c (sU .int (scores.getD aa.toNat ([]:List Int)) .unk)),pI 20 ((scores.getD aa.toNat ([]:List Int)).length:Int),pI 21 ab],[(.loc 11,[.mref (.l 11 0)])],[(.l 11 0,LC.mk (U:=U) .three d 0)]⟩:LSt U)
def Z4m(scores:List (List Int))(aa:List Two)(d:List Three):LSt U:=(⟨[(3,.ptr (.loc 11) 0),(8,.c (.mref (.e 8 0)))],[(.loc 11,[.mref (.l 11 0)])],[(.e 8 0,LC.mk (U:=U) .two aa 0),(.l 11 0,LC.mk (U:=U) .three d 0)]⟩:LSt U)
def Z72(scores:List (List Int))(aa:List Two)(ah:Bool)(af ae ab:Int)(d:List Three):LSt U:=(⟨[(3,.ptr (.loc 11) 0),(8,.c (.mref (.e 8 0))),pL 9,pB 61 ah],[(.loc 9,[ci af,ci ae,ci ab]),(.loc 11,[.mref (.l 11 0)])],[(.e 8 0,LC.mk (U:=U) .two aa 0),(.l 11 0,LC.mk (U:=U) .three d 0)]⟩:LSt U)
abbrev ZlV(p:List Nat):=AW (Z0L ZiI) Tryz.f108 ZpI p
abbrev Zjr(p:List Nat):=SW (Z0L ZiI) Tryz.f108 ZpI p
theorem ZGV(scores:List (List Int))(Q:QT)(h:(Zk (ZlV [1,1,0,1,0,0]) (Z73 scores 0 []) (xB 0 (Zjr [1,1,1] Q)))):
  ZlV [] (L2 [(0,.c (sU .irow scores .unk))] []) Q:=
 (Eq.mpr V5 h:)
theorem ZsS(scores:List (List Int))(aa:Int)(d:List Three)(N0:NT)(Q:QT)(h:(iB (decide (aa < (scores.length:Int))) (((0:Int)<=aa/\aa < (scores.length:Int))/\(Zk (ZlV [1,1,0,1,0,0,1,1,0,0,1,1,0,0]) (Z4n scores aa 0 d) (xB 2 (xB 1 (Zjr [1,1,0,1,0,0,1,1,1] (xT N0 (xB 0 (Zjr [1,1,1] Q)))))))) ((Zk (ZlV [1,1,1,1,0,0,0]) (Z4m scores [] d) (xB 4 (Zjr [1,1,1,1,1] Q)))))):
  ZlV [1,1,0,1,0,0] (Z73 scores aa d) (xT N0 (xB 0 (Zjr [1,1,1] Q))):=
 (Eq.mpr V5 h:)
theorem ZsR(scores:List (List Int))(ab aa:Int)(d:List Three)(N1 N0:NT)(Q:QT)(h:let z2:=scores.getD ab.toNat ([]:List Int);let z0:=List.getD z2 aa.toNat (0:Int);let z4:=Three.mk (Two.mk ab aa) z0;let z3:=decide ((0:Int) < z0);let z1:=bif z3 then (decide (ab < 16)) else false;(iB (decide (aa < (z2.length:Int))) (((0:Int)<=aa/\aa < (z2.length:Int))/\((Tt z3)/\(Tt z3)/\(Tt z1)/\(Tt z1)/\(iB (bif z1 then (decide (aa < 16)) else false) ((ZmP ((d,()),z4,()))/\((InR (aa+1))/\(N1 (Z4n scores ab (aa+1) (ZbV d z4))))) ((InR (aa+1))/\(N1 (Z4n scores ab (aa+1) d)))))) ((InR (ab+1))/\(N0 (Z73 scores (ab+1) d))))):
  ZlV [1,1,0,1,0,0,1,1,0,0,1,1,0,0] (Z4n scores ab aa d) (xT N1 (xB 2 (xB 1 (Zjr [1,1,0,1,0,0,1,1,1] (xT N0 (xB 0 (Zjr [1,1,1] Q))))))):=
 (Eq.mpr V5 h:)
theorem ZsQ(scores:List (List Int))(aa:List Two)(d:List Three)(N2:NT)(Q:QT)(h:let z1:=Three.p ((Z0c d).2);let z0:=Two.mk (Two.i z1) (Two.j z1);(ZaS (d,()))/\(iB (decide ((0:Int) < (d.length:Int))) ((ZmI ((d,()),()))/\((ZmL (aa,z0,()))/\(iB (!(aa.any (JU z0))) (((aa.length+([z0]).length)*16<=140737488355328)/\(N2 (Z4m scores (aa++([z0])) ((Z0c d).1)))) (N2 (Z72 scores aa (!(aa.any (JU z0))) (Two.i z1) (Two.j z1) (Three.score ((Z0c d).2)) ((Z0c d).1)))))) (((0:Nat)=0)/\(aa.length<=1000000000)/\(Q .ret (L2 [(2,.c (sU .two (J0 aa) (.own (.e 2 0))))] []))))):
  ZlV [1,1,1,1,0,0,0] (Z4m scores aa d) (xT N2 (xB 4 (Zjr [1,1,1,1,1] Q))):=
 (Eq.mpr V5 h:)
theorem ZsP(scores:List (List Int))(aa:List Two)(ah:Bool)(af ae ab:Int)(d:List Three)(N2:NT)(Q:QT)(h:let z1:=Three.p ((Z0c d).2);let z0:=Two.mk (Two.i z1) (Two.j z1);(ZaS (d,()))/\(iB (decide ((0:Int) < (d.length:Int))) ((ZmI ((d,()),()))/\((ZmL (aa,z0,()))/\(iB (!(aa.any (JU z0))) (((aa.length+([z0]).length)*16<=140737488355328)/\(N2 (Z4m scores (aa++([z0])) ((Z0c d).1)))) (N2 (Z72 scores aa (!(aa.any (JU z0))) (Two.i z1) (Two.j z1) (Three.score ((Z0c d).2)) ((Z0c d).1)))))) (((0:Nat)=0)/\(aa.length<=1000000000)/\(Q .ret (L2 [(2,.c (sU .two (J0 aa) (.own (.e 2 0))))] []))))):
  ZlV [1,1,1,1,0,0,0] (Z72 scores aa ah af ae ab d) (xT N2 (xB 4 (Zjr [1,1,1,1,1] Q))):=
 (Eq.mpr V5 h:)
abbrev ZB2(scores:List (List Int)):Prop:=AW (Z0L ZiI) Tryz.f108 ZpI [] (Zf (ZqK.can (scores,())) []) (EQ Tryz.f108 (Zib (scores,())) [])
theorem ZzB(ZEO:CT 114 Z8M)(ZEN:CT 116 Z8L)(ZiZ:CT 115 Z1d)(ZEM:CT 117 Z8K)(ZEK:CT 119 Z8I)(hb:∀ (d:List (List Int)) (_:Unit),ZmQ (d,())->ZB2 d):CT 108 ZcS:=
 Z1o (l:=[(114,Z8M),(116,Z8L),(115,Z1d.lend),(117,Z8K.lend),(119,Z8I)]) Zd rfl (⟨ZEO,ZEN,ZiZ.lend,ZEM.lend,ZEK,trivial⟩) ZpI Tryz.func108 rfl rfl 1 (fun _=> rfl) V2 (fun ⟨d,_⟩=> hb d ())
def ZvQ:List (FuncId × Fs U):=[(81,ZdF),(71,Z0P)]
def ZDU:Zb U:=lvl [([0,1,2,6],[6]),([0,1,2,6,8],[6]),([0,1,2,6,8,13],[6]),([6,7],[6]),([6,7],[6])]
abbrev A65(p:List Nat):=AW (Z1 ZvQ) Tryz.f65 ZDU p
theorem ZIK(at_ a b:Int)(Q:QT)(h:((Zuk (a,b,()))/\(iB (((ZW a b):Int)==0) ((Q .ret (L2 [pL 6,pB 7 false] [(.loc 6,[ci 0,.int .u8 0,.int .u64 0,.int .u64 0])]))) ((JE (0,a,(ZW a b),()))/\(JE (0,b,(ZW a b),()))/\(Q .ret (L2 [pL 6,pB 7 true] [(.loc 6,[ci at_,.int .u8 (ZW a b),.int .u64 (mix 0 a (ZW a b)),.int .u64 (mix 0 b (ZW a b))])])))))):
  A65 [] (L2 [pI 0 at_,(1,.c (.int .u64 a)),(2,.c (.int .u64 b))] []) Q:=
 (Eq.mpr V5 h:)
abbrev ZFC(at_ a b:Int):Prop:=AW (Z1 ZvQ) Tryz.f65 ZDU [] (Zf (Zx0.can (at_,a,b,())) []) (EQ Tryz.f65 (Zp0 (at_,a,b,())) [])
theorem ZD9(c81:CT 81 ZdF)(c71:CT 71 Z0P)(hb:∀ (at_:Int) (a:Int) (b:Int) (_:Unit),Zum (at_,a,b,())->ZFC at_ a b):CT 65 ZhP:=
 Z2 (l:=[(81,ZdF),(71,Z0P)]) Zd rfl (⟨c81,c71,trivial⟩) ZDU Tryz.func65 rfl rfl 3 (fun _=> rfl) V2 (fun ⟨at_,a,b,_⟩=> hb at_ a b ())
end
theorem Zrk(l:List Three)(x:Three):(ZbV l x).length=l.length+1:=by simp [ZbV,upR,Zov]
theorem ZET:Contract Tryz.prog cfg 108 ZcS:=by
 refine ZzB ZEO ZEN ZiZ.lend ZEM.lend ZEK ?_
 intro aa _ hp
 obtain ⟨h1,h2⟩:=hp
 dsimp only at h1 h2
 refine ZGV _ _ ?_
 refine Z8 (ι:=Int × List Three) (fun s=> Z73 aa s.1 s.2) (fun s=> (0<=s.1/\s.1<=aa.length)/\((s.1 < 16->(s.2.length:Int)<=16*s.1)/\s.2.length<=256)/\Z5w aa 0 []=Z5w (aa.drop s.1.toNat) s.1 s.2) (fun s=> ((aa.length:Int) - s.1).toNat) (0,[]) rfl ⟨⟨V0,V0⟩,⟨by simp,by simp⟩,by simp⟩ ?_
 rintro ⟨i,r⟩ ⟨⟨f1,f2⟩,⟨f3,ah⟩,f4⟩
 dsimp only at f1 f2 f3 ah f4
 refine ZsS _ _ _ _ _ ?_
 (simp only [iB,vcT,vcS])
 refine ⟨fun hi=> ⟨⟨f1,hi⟩,?_⟩,fun hi=> ?_⟩
 .have hl:(aa.getD i.toNat []).length<=1000000:=h2 _ (Zi V0 _)
  rw [Jj f1 hi ([]:List Int),Z5w] at f4
  generalize hL:aa.getD i.toNat []=L at*
  refine Z8 (ι:=Int × List Three) (fun s=> Z4n aa i s.1 s.2) (fun s=> (0<=s.1/\s.1<=L.length)/\((i < 16->(s.2.length:Int)<=16*i+min s.1 16)/\s.2.length<=256)/\ZhW i L 0 r=ZhW i (L.drop s.1.toNat) s.1 s.2) (fun s=> ((L.length:Int) - s.1).toNat) (0,r) rfl ⟨⟨V0,V3⟩,⟨V3,ah⟩,by simp⟩ ?_
  rintro ⟨j,q⟩ ⟨⟨g1,g2⟩,⟨g3,aj⟩,g4⟩
  dsimp only at g1 g2 g3 aj g4
  refine ZsR _ _ _ _ _ _ _ ?_
  rw [hL]
  (simp only [iB,vcT,vcS])
  refine ⟨fun hj=> ?_,fun hj=> ?_⟩
  .rw [Jj g1 hj (0:Int),ZhW] at g4
   refine ⟨⟨g1,hj⟩,fun he=> ?_,fun he=> ?_⟩
   .rw [if_pos he] at g4
    have hp:=Zrk q ⟨⟨i,j⟩,L.getD j.toNat 0⟩
    exact ⟨by show q.length < _;omega,V4,(j+1,ZbV q ⟨⟨i,j⟩,L.getD j.toNat 0⟩),rfl,⟨⟨V3,V3⟩,⟨by dsimp only;rw [hp];omega,by dsimp only;rw [hp];omega⟩,g4⟩,V3⟩
   .rw [Yo] at g4
    exact ⟨V4,(j+1,_),rfl,⟨⟨V3,V3⟩,⟨V3,aj⟩,g4⟩,V3⟩
  .rw [Qe V0,ZhW] at g4
   rw [g4] at f4
   exact ⟨V4,(i+1,q),rfl,⟨⟨V3,V3⟩,⟨V3,aj⟩,f4⟩,V3⟩
 rw [Qe V0,Z5w] at f4
 refine Z8 (ι:=Option (Bool × Int × Int × Int) × List Two × List Three) (fun s=> match s.1 with | none=> Z4m aa s.2.1 s.2.2 | some d=> Z72 aa s.2.1 d.1 d.2.1 d.2.2.1 d.2.2.2 s.2.2) (fun s=> s.2.1.length+s.2.2.length<=256/\Z2i r []=Z2i s.2.2 s.2.1) (fun s=> s.2.2.length) (none,[],r) rfl ⟨by simpa using ah,rfl⟩ ?_
 rintro ⟨d,out,q⟩ ⟨g1,g2⟩
 dsimp only at g1 g2
 have hp:=Zeu q
 cases d with
 | none=>
  refine ZsQ _ _ _ _ _ ?_
  (simp only [iB,vcT,vcS])
  refine ⟨trivial,fun hq=> ⟨⟨V3,V3⟩,by show out.length<=_;omega,fun ha=> ?_,fun ha=> ?_⟩,fun hq=> ⟨V0,?_⟩⟩
  .rw [Z2i.eq_1 q out,Yo] at g2
   rw [if_neg (by intro h;have h:out.any (JU ⟨(Z0c q).2.p.i,(Z0c q).2.p.j⟩)=true:=h;rw [ha] at h;cases h)] at g2
   exact ⟨by simp;omega,(none,out++[(Z0c q).2.p],(Z0c q).1),rfl,⟨by simp;omega,g2⟩,V3⟩
  .rw [Z2i.eq_1 q out,Yo,if_pos ha] at g2
   exact ⟨(some (_,(Z0c q).2.p.i,(Z0c q).2.p.j,(Z0c q).2.score),out,(Z0c q).1),rfl,⟨V3,g2⟩,V3⟩
  .rw [Z2i.eq_1 q out,Yz] at g2
   have e:Z07 aa=J0 out:=by rw [Z07,f4,g2]
   simp only [Zib,e]
   exact V1
 | some d=>
  refine ZsP _ _ _ _ _ _ _ _ _ ?_
  (simp only [iB,vcT,vcS])
  refine ⟨trivial,fun hq=> ⟨⟨V3,V3⟩,by show out.length<=_;omega,fun ha=> ?_,fun ha=> ?_⟩,fun hq=> ⟨V0,?_⟩⟩
  .rw [Z2i.eq_1 q out,Yo] at g2
   rw [if_neg (by intro h;have h:out.any (JU ⟨(Z0c q).2.p.i,(Z0c q).2.p.j⟩)=true:=h;rw [ha] at h;cases h)] at g2
   exact ⟨by simp;omega,(none,out++[(Z0c q).2.p],(Z0c q).1),rfl,⟨by simp;omega,g2⟩,V3⟩
  .rw [Z2i.eq_1 q out,Yo,if_pos ha] at g2
   exact ⟨(some (_,(Z0c q).2.p.i,(Z0c q).2.p.j,(Z0c q).2.score),out,(Z0c q).1),rfl,⟨V3,g2⟩,V3⟩
  .rw [Z2i.eq_1 q out,Yz] at g2
   have e:Z07 aa=J0 out:=by rw [Z07,f4,g2]
   simp only [Zib,e]
   exact V1
theorem c65:Contract Tryz.prog cfg 65 ZhP:=by
 refine ZD9 c81 c71 ?_
 intro at_ a b _ d
 have hu:0<=ZW a b/\ZW a b < 256:=ZhF _ 8
 refine ZIK _ _ _ _ ?_
 (simp only [iB,vcT,vcS])
 refine ⟨d,fun h=> ?_,fun h=> ⟨⟨⟨V0,V0⟩,d.1,hu⟩,⟨⟨V0,V0⟩,d.2,hu⟩,?_⟩⟩
 .simp only [Zp0,h]
  exact V1
 .have e:decide (ZW a b≠0)=true:=decide_eq_true h
  simp only [Zp0,Z38,if_neg h,e]
  exact V1
def Jw:List SStep->List Int->List Int->Prop
 | [],x,y=> x=[]/\y=[]
 | s ::r,x,y=> 1<=s.n/\((s.kind=0/\s.n<=x.length/\s.n<=y.length/\x.take s.n.toNat=y.take s.n.toNat/\Jw r (x.drop s.n.toNat) (y.drop s.n.toNat))\/
  (s.kind=1/\s.n<=x.length/\Jw r (x.drop s.n.toNat) y)\/(s.kind=2/\s.n<=y.length/\Jw r x (y.drop s.n.toNat)))
theorem Z2D:∀ {l m:List SStep} {x y u v:List Int},Jw l x y->Jw m u v->Jw (l++m) (x++u) (y++v)
 | [],m,x,y,u,v,⟨h1,h2⟩,h=> by subst h1;subst h2;exact h
 | s ::r,m,x,y,u,v,h1,h=> by
  obtain ⟨g,h1⟩:=h1
  refine ⟨g,?_⟩
  rcases h1 with ⟨k,a,b,c,d⟩ | ⟨k,a,d⟩ | ⟨k,b,d⟩
  .refine .inl ⟨k,by simp;omega,by simp;omega,?_,?_⟩
   .rw [Xv V0,Xv V0,c]
   .rw [Xi V0,Xi V0]
    exact Z2D d h
  .refine .inr (.inl ⟨k,by simp;omega,?_⟩)
   rw [Xi V0]
   exact Z2D d h
  .refine .inr (.inr ⟨k,by simp;omega,?_⟩)
   rw [Xi V0]
   exact Z2D d h
theorem Zni{z:List Int}{n:Int}(h:0 < n)(e:(z.length:Int)=n):Jw [⟨0,n⟩] z z:=⟨V3,.inl ⟨rfl,V3,V3,rfl,by simp;omega,by simp;omega⟩⟩
theorem ZrO{z:List Int}{n:Int}(h:0 < n)(e:(z.length:Int)=n):Jw [⟨1,n⟩] z []:=⟨V3,.inr (.inl ⟨rfl,V3,by simp;omega,rfl⟩)⟩
theorem ZrN{z:List Int}{n:Int}(h:0 < n)(e:(z.length:Int)=n):Jw [⟨2,n⟩] [] z:=⟨V3,.inr (.inr ⟨rfl,V3,rfl,by simp;omega⟩)⟩
theorem Z4C{l m:List SStep}{x y z:List Int}{n:Int}(e:(z.length:Int)=n)(hm:m=YI l 0 n)(h:Jw l x y):Jw m (x++z) (y++z):=by
 subst hm
 unfold YI
 split
 .exact Z2D h (Zni ‹_› e)
 .have:z=[]:=Q1 V0
  simpa [this] using h
theorem Z6z{l m:List SStep}{x y z:List Int}{n:Int}(e:(z.length:Int)=n)(hm:m=YI l 1 n)(h:Jw l x y):Jw m (x++z) y:=by
 subst hm
 unfold YI
 split
 .have:=Z2D h (ZrO ‹_› e)
  simpa using this
 .have:z=[]:=Q1 V0
  simpa [this] using h
theorem Z33{l m:List SStep}{x y z:List Int}{n:Int}(e:(z.length:Int)=n)(hm:m=YI l 2 n)(h:Jw l x y):Jw m x (y++z):=by
 subst hm
 unfold YI
 split
 .have:=Z2D h (ZrN ‹_› e)
  simpa using this
 .have:z=[]:=Q1 V0
  simpa [this] using h
theorem Zqi(x:Int):∀ {b:List Int},Z0d x b≠-1->b=b.take (Z0d x b).toNat++[x]++b.drop ((Z0d x b).toNat+1)
 | [],h=> by simp [Z0d] at h
 | y ::r,h=> by
  by_cases hx:x=y
  .simp [Z0d,hx]
  .have d:Z0d x r≠-1:=fun e=> h (by simp [Z0d,hx,e])
   have:=Zqi x d
   have h0:=Z9C x r
   have e:Z0d x (y ::r)=Z0d x r+1:=by simp [Z0d,hx,d]
   rw [e,show (Z0d x r+1).toNat=(Z0d x r).toNat+1 by omega]
   simp only [List.take_succ_cons,X2,Qp]
   exact congrArg _ this
theorem ZmX{l:List SStep}{u v:List Int}(x:Int)(b:List Int)(h:Jw l u v):Jw (ZfF l x b) (u++[x]) (v++b):=by
 unfold ZfF
 split
 .have d:=Z6z (z:=[x]) (n:=1) rfl rfl h
  exact Z33 rfl rfl d
 .rename_i hi
  have h0:=Z9C x b
  have e:=Zqi x hi
  have d:=Z33 (z:=b.take (Z0d x b).toNat) (n:=Z0d x b) (by simp;omega) rfl h
  have h2:=Z4C (z:=[x]) (n:=1) rfl rfl d
  have h3:=Z33 (z:=b.drop ((Z0d x b).toNat+1)) (n:=b.length - Z0d x b - 1) (by simp;omega) rfl h2
  have e2:v++b=v++b.take (Z0d x b).toNat++[x]++b.drop ((Z0d x b).toNat+1):=by rw [Qb,Qb,<-Qb (b.take _),<-e]
  rw [e2]
  exact h3
theorem Z6o(l:List SStep)(a b:List Int):∀ {u v:List Int},Jw l u v->Jw (Z0q l a b) (u++a) (v++b):=by
 intro u v h
 rw [Z0q]
 split
 .exact Z33 rfl rfl (Z6z rfl rfl h)
 .split
  .have e:a=[a.getD 0 0]:=by
    match a with
    | [x]=> rfl
   have:=ZmX (a.getD 0 0) b h
   rwa [<-e] at this
  .have h1:=Z6o l (a.take (a.length / 2)) (b.take (Z1B a b (a.length / 2:Nat)).toNat) h
   have d:=Z6o _ (a.drop (a.length / 2)) (b.drop (Z1B a b (a.length / 2:Nat)).toNat) h1
   simpa only [Qb,Ql] using d
termination_by a.length
decreasing_by all_goals (simp;omega)
def GsL(s:Gs)(x y:List Int):Prop:=∃ xo yo z xd yi:List Int,Jw s.1 xo yo/\x=xo++z++xd/\y=yo++z++yi/\(z.length:Int)=s.2.1/\(xd.length:Int)=s.2.2.1/\(yi.length:Int)=s.2.2.2/\(z=[]\/xd=[]/\yi=[])
theorem Zqk(o:List SStep)(k d i:Int):Yt (o,k,d,i) [0]=(YI o 0 k,0,d,i):=rfl
theorem Zwj(o:List SStep)(k d i:Int):Yt (o,k,d,i) [1,2]=(YI (YI o 1 d) 2 i,k,0,0):=rfl
theorem Zh1(o:List SStep)(k d i:Int):(Yt (o,k,d,i) [0,1,2]).1=YI (YI (YI o 0 k) 1 d) 2 i:=rfl
theorem Zm7{s:Gs}{x y w:List Int}{n:Int}(h:GsL s x y)(hw:(w.length:Int)=n)(h1:1<=n)(h2:n<=1048576):GsL (Z0i s ⟨0,n⟩) (x++w) (y++w):=by
 obtain ⟨o,k,d,i⟩:=s
 obtain ⟨xo,yo,z,xd,yi,g1,rfl,rfl,g2,g3,g4,g5⟩:=h
 dsimp only at g1 g2 g3 g4
 have e:Z0i (o,k,d,i) ⟨0,n⟩=(YI (YI o 1 d) 2 i,k+n,0,0):=by
  unfold Z0i
  rw [if_neg (by simp [Z3I];omega),if_pos rfl,Zwj]
  try rfl
 rw [e]
 rcases g5 with rfl | ⟨rfl,rfl⟩
 .refine ⟨xo++xd,yo++yi,w,[],[],Z33 g4 rfl (Z6z g3 rfl g1),by simp,by simp,by simp at g2 ⊢;omega,rfl,rfl,.inr ⟨rfl,rfl⟩⟩
 .have e1:d=0:=by simpa using g3.symm
  have e2:i=0:=by simpa using g4.symm
  subst e1;subst e2
  exact ⟨xo,yo,z++w,[],[],g1,by simp,by simp,by simp;omega,rfl,rfl,.inr ⟨rfl,rfl⟩⟩
theorem Zg8{s:Gs}{x y w:List Int}{n:Int}(h:GsL s x y)(hw:(w.length:Int)=n)(h1:1<=n)(h2:n<=1048576):GsL (Z0i s ⟨1,n⟩) (x++w) y:=by
 obtain ⟨o,k,d,i⟩:=s
 obtain ⟨xo,yo,z,xd,yi,g1,rfl,rfl,g2,g3,g4,g5⟩:=h
 dsimp only at g1 g2 g3 g4
 have e:Z0i (o,k,d,i) ⟨1,n⟩=(YI o 0 k,0,d+n,i):=by
  unfold Z0i
  rw [if_neg (by simp [Z3I];omega),if_neg (by simp),Zqk]
  try rfl
 rw [e]
 exact ⟨xo++z,yo++z,[],xd++w,yi,Z4C g2 rfl g1,by simp,by simp,rfl,by simp;omega,g4,.inl rfl⟩
theorem Zg7{s:Gs}{x y w:List Int}{n:Int}(h:GsL s x y)(hw:(w.length:Int)=n)(h1:1<=n)(h2:n<=1048576):GsL (Z0i s ⟨2,n⟩) x (y++w):=by
 obtain ⟨o,k,d,i⟩:=s
 obtain ⟨xo,yo,z,xd,yi,g1,rfl,rfl,g2,g3,g4,g5⟩:=h
 dsimp only at g1 g2 g3 g4
 have e:Z0i (o,k,d,i) ⟨2,n⟩=(YI o 0 k,0,d,i+n):=by
  unfold Z0i
  rw [if_neg (by simp [Z3I];omega),if_neg (by simp),Zqk]
  try rfl
 rw [e]
 exact ⟨xo++z,yo++z,[],xd,yi++w,Z4C g2 rfl g1,by simp,by simp,rfl,g3,by simp;omega,.inl rfl⟩
theorem Z3c:∀ {l:List SStep} {s:Gs} {x y u v:List Int},Jw l u v->u.length<=1048576->v.length<=1048576->GsL s x y->GsL (l.foldl Z0i s) (x++u) (y++v)
 | [],s,x,y,u,v,⟨h1,h2⟩,_,_,h=> by subst h1;subst h2;simpa using h
 | ⟨k,n⟩ ::r,s,x,y,u,v,⟨h1,h2⟩,hu,hv,h=> by
  dsimp only at h1 h2
  rw [X8]
  rcases h2 with ⟨rfl,a,b,c,d⟩ | ⟨rfl,a,d⟩ | ⟨rfl,b,d⟩
  .have g:=Zm7 (w:=u.take n.toNat) (n:=n) h (by simp;omega) h1 V0
   have:=Z3c d (by simp;omega) (by simp;omega) g
   rw [Qb,Qb,Ql,c,Ql] at this
   exact this
  .have g:=Zg8 (w:=u.take n.toNat) (n:=n) h (by simp;omega) h1 V0
   have:=Z3c d (by simp;omega) hv g
   rw [Qb,Ql] at this
   exact this
  .have g:=Zg7 (w:=v.take n.toNat) (n:=n) h (by simp;omega) h1 V0
   have:=Z3c d hu (by simp;omega) g
   rw [Qb y,Ql] at this
   exact this
theorem ZkM{l:List SStep}{x y:List Int}(h:Jw l x y)(hx:x.length<=1048576)(hy:y.length<=1048576):Jw (Z5u l) x y:=by
 have h0:GsL ([],0,0,0) [] []:=⟨[],[],[],[],[],⟨rfl,rfl⟩,rfl,rfl,rfl,rfl,rfl,.inl rfl⟩
 have:=Z3c h hx hy h0
 unfold Z5u
 generalize l.foldl Z0i ([],0,0,0)=s at this ⊢
 obtain ⟨o,k,d,i⟩:=s
 obtain ⟨xo,yo,z,xd,yi,g1,e1,e2,g2,g3,g4,g5⟩:=this
 rw [Zh1]
 rw [Qn] at e1 e2
 rw [e1,e2]
 exact Z33 g4 rfl (Z6z g3 rfl (Z4C g2 rfl g1))
theorem Zlw{a b:List Int}{most:Int}(h:(Z5y a b most).2=true)(ha:a.length<=1048576)(hb:b.length<=1048576):Jw (Z5y a b most).1 a b:=by
 unfold Z5y at h ⊢
 split
 .have:=Z6o [] a b (u:=[]) (v:=[]) ⟨rfl,rfl⟩
  exact ZkM (by simpa using this) ha hb
 .rename_i d
  rw [if_neg d] at h
  cases h
theorem Zsl(a b:List Int)(ha:a.length<=1048576)(hb:b.length<=1048576):Jw (Z5u [⟨1,a.length⟩,⟨2,b.length⟩]) a b:=by
 have h0:GsL ([],0,0,0) [] []:=⟨[],[],[],[],[],⟨rfl,rfl⟩,rfl,rfl,rfl,rfl,rfl,.inl rfl⟩
 have st:∀ (k:Int) (s:Gs),Z0i s ⟨k,0⟩=s:=fun k s=> by unfold Z0i;rw [if_pos (by simp [Z3I])]
 have h1:GsL (Z0i ([],0,0,0) ⟨1,a.length⟩) ([]++a) []:=by
  by_cases e:a.length=0
  .rw [e];have e2:=Q1 e;subst e2;exact (st 1 _).symm▸h0
  .exact Zg8 h0 rfl V0 V0
 have h2:GsL (Z0i (Z0i ([],0,0,0) ⟨1,a.length⟩) ⟨2,b.length⟩) ([]++a) ([]++b):=by
  by_cases e:b.length=0
  .rw [e];have e2:=Q1 e;subst e2;exact (st 2 _).symm▸h1
  .exact Zg7 h1 rfl V0 V0
 unfold Z5u
 rw [X8,X8,List.foldl_nil]
 generalize Z0i (Z0i ([],0,0,0) ⟨1,a.length⟩) ⟨2,b.length⟩=s at h2 ⊢
 obtain ⟨o,k,d,i⟩:=s
 obtain ⟨xo,yo,z,xd,yi,g1,e1,e2,g2,g3,g4,g5⟩:=h2
 rw [Zh1]
 rw [Qn] at e1 e2
 rw [e1,e2]
 exact Z33 g4 rfl (Z6z g3 rfl (Z4C g2 rfl g1))
def ZcO:List SStep->Int->Int->Prop
 | [],_,_=> True
 | s ::r,n,m=> 1<=s.n/\((s.kind=0/\s.n<=n/\s.n<=m/\ZcO r (n - s.n) (m - s.n))\/(s.kind=1/\s.n<=n/\ZcO r (n - s.n) m)\/(s.kind=2/\s.n<=m/\ZcO r n (m - s.n)))
theorem Z6U:∀ {l:List SStep} {x y:List Int},Jw l x y->ZcO l x.length y.length
 | [],_,_,_=> trivial
 | s ::r,x,y,⟨h1,h2⟩=> by
  refine ⟨h1,?_⟩
  rcases h2 with ⟨k,a,b,_,d⟩ | ⟨k,a,d⟩ | ⟨k,b,d⟩
  .have:=Z6U d
   rw [Qx,Qx,show ((x.length - s.n.toNat:Nat):Int)=x.length - s.n by omega,show ((y.length - s.n.toNat:Nat):Int)=y.length - s.n by omega] at this
   exact .inl ⟨k,a,b,this⟩
  .have:=Z6U d
   rw [Qx,show ((x.length - s.n.toNat:Nat):Int)=x.length - s.n by omega] at this
   exact .inr (.inl ⟨k,a,this⟩)
  .have:=Z6U d
   rw [Qx,show ((y.length - s.n.toNat:Nat):Int)=y.length - s.n by omega] at this
   exact .inr (.inr ⟨k,b,this⟩)
theorem Zd4:∀ {l:List SStep} {n m:Int},0<=n->0<=m->ZcO l n m->(l.length:Int)<=n+m
 | [],n,m,h0,h1,_=> by simp;omega
 | s ::r,n,m,h0,h1,⟨h2,h3⟩=> by
  rw [Qd]
  rcases h3 with ⟨k,a,b,d⟩ | ⟨k,a,d⟩ | ⟨k,b,d⟩
  .have:=Zd4 V0 V0 d;omega
  .have:=Zd4 V0 h1 d;omega
  .have:=Zd4 h0 V0 d;omega
theorem Zz6(s:List Tree × List Int)(t:Tree):(ofS s t).2.length=s.2.length+1:=by unfold ofS;split <;> simp
theorem Z6K(known l:List Tree):(ofF known l).2.length=l.length:=by
 have:∀ (l:List Tree) (s:List Tree × List Int),(l.foldl ofS s).2.length=s.2.length+l.length:=by
  intro l
  induction l with
  | nil=> intro s;simp
  | cons t r ih=> intro s;rw [X8,ih,Zz6,Qd];omega
 simpa [ofF] using this l (known,[])
theorem Z8W(a b:Tree)(most:Int)(ha:a.kids.length<=1048576)(hb:b.kids.length<=1048576):Jw (Z1g a b most) (ofF [] a.kids).2 (ofF (ofF [] a.kids).1 b.kids).2:=by
 have h1:=Z6K [] a.kids
 have d:=Z6K (ofF [] a.kids).1 b.kids
 unfold Z1g
 split
 .exact Zlw ‹_› V0 V0
 .have:=Zsl (ofF [] a.kids).2 (ofF (ofF [] a.kids).1 b.kids).2 V0 V0
  rwa [h1,d] at this
theorem Zmc(a b:Tree)(most:Int)(ha:a.kids.length<=1048576)(hb:b.kids.length<=1048576):ZcO (Z1g a b most) a.kids.length b.kids.length:=by
 have:=Z6U (Z8W a b most ha hb)
 rwa [Z6K,Z6K] at this
theorem Zaw{P:Three->Prop}{l:List Three}{i j:Int}(h:∀ x∈l,P x)(h1:0<=i/\i < l.length)(h2:0<=j/\j < l.length):∀ x∈Z19 l i j,P x:=by
 intro x d
 unfold Z19 at d
 have a1:=h _ (Zi (l:=l) (i:=i.toNat) V0 Z1A)
 have a2:=h _ (Zi (l:=l) (i:=j.toNat) V0 Z1A)
 rcases XE d with d | rfl
 .rcases XE d with d | rfl
  .exact h x d
  .exact a2
 .exact a1
theorem Zow{P:Three->Prop}:∀ (n:Nat) (l:List Three) (j:Int),(∀ x∈l,P x)->0<=j->j < l.length->∀ x∈upF n l j,P x
 | 0,l,j,h,_,_=> by simpa [upF] using h
 | n+1,l,j,h,h1,h2=> by
  rw [upF]
  split
  .exact h
  .rename_i hc
   have e:0 < j->(j - 1).tdiv 2=(j - 1) / 2:=fun d=> Xf V0
   have d:0 < j:=by
    by_cases hz:j=0
    .subst hz;exact absurd (.inl rfl) hc
    .omega
   have e:=e d
   refine Zow n _ _ (Zaw h (by rw [e];omega) ⟨h1,h2⟩) (by rw [e];omega) (by rw [YJ,e];omega)
theorem Zha{P:Three->Prop}:∀ (k:Nat) (l:List Three) (i n:Int),(∀ x∈l,P x)->0<=i->n<=l.length->∀ x∈(Z31 k l i n).1,P x
 | 0,l,i,n,h,_,_=> by simpa [Z31] using h
 | k+1,l,i,n,h,h1,h2=> by
  rw [Z31]
  split
  .split
   .exact h
   .have d:2*i+1<=Z9A l i n/\Z9A l i n < n:=by unfold Z9A;split <;> omega
    exact Zha k _ _ _ (Zaw h V0 V0) V0 (by rw [YJ];exact h2)
  .exact h
theorem Zrl{P:Three->Prop}{l:List Three}{x:Three}(h:∀ x∈l,P x)(hx:P x):∀ y∈ZbV l x,P y:=by
 unfold ZbV upR
 refine Zow _ _ _ (fun y d=> ?_) V0 (by simp;omega)
 rcases Qj.1 d with d | d
 .exact h y d
 .cases Q7.1 d;exact hx
theorem Zuu{P:Three->Prop}{l:List Three}(h:∀ x∈l,P x)(hl:0 < l.length):(∀ y∈(Z0c l).1,P y)/\P (Z0c l).2:=by
 have d:∀ x∈(Z16 (Z19 l 0 ((l.length:Int) - 1)) 0 ((l.length:Int) - 1)).1,P x:=by
  unfold Z16
  exact Zha _ _ _ _ (Zaw h V0 V0) V0 (by rw [YJ];omega)
 refine ⟨fun y hy=> d y (QR hy),?_⟩
 exact d _ (Zi (by simp [Z16,Z79,YJ];omega) Z1A)
def NoX(p q:Two):Prop:=(p.i < q.i/\p.j < q.j)\/(q.i < p.i/\q.j < p.j)
theorem ZCJ{p q:Two}(h:JU p q=false):NoX p q:=by
 unfold JU at h
 simp at h
 unfold NoX
 by_cases h1:p.i < q.i/\p.j < q.j
 .exact .inl h1
 .exact .inr (h V0)
theorem ZkO{p q:Two}(h:NoX p q):NoX q p:=h.symm
theorem Zg5{P:Two->Prop}:∀ (n:Nat) (r:List Three) (out:List Two),r.length=n->(∀ x∈r,P x.p)->(∀ p∈out,P p)->out.Pairwise NoX->(∀ p∈Z2i r out,P p)/\(Z2i r out).Pairwise NoX
 | 0,r,out,hn,_,h2,h3=> by rw [Z2i,if_pos hn];exact ⟨h2,h3⟩
 | n+1,r,out,hn,h1,h2,h3=> by
  rw [Z2i,Yo]
  have hp:=Zuu h1 V0
  refine Zg5 n _ _ (by rw [Zeu];omega) hp.1 ?_ ?_
  .split
   .exact h2
   .intro p d
    rcases Qj.1 d with h | h
    .exact h2 p h
    .cases Q7.1 h;exact hp.2
  .split
   .exact h3
   .rename_i hc
    refine XV.2 ⟨h3,List.pairwise_singleton _ _,fun p d q hq=> ?_⟩
    cases Q7.1 hq
    refine ZkO (ZCJ ?_)
    simp only [Kg,List.any_eq_false] at hc
    simpa using hc p d
theorem ZjR{P:Three->Prop}(i:Int):∀ (l:List Int) (j:Int) (r:List Three),(∀ x∈r,P x)->(∀ k:Nat,k < l.length->0 < l.getD k 0->P ⟨⟨i,j+k⟩,l.getD k 0⟩)->∀ x∈ZhW i l j r,P x
 | [],j,r,h,_=> by simpa [ZhW] using h
 | n ::l,j,r,h,h2=> by
  rw [ZhW]
  refine ZjR i l (j+1) _ ?_ fun k d hp=> ?_
  .split
   .rename_i hc
    have:=h2 0 (by simp) (by simpa using hc.1.1)
    exact Zrl h (by simpa using this)
   .exact h
  .have:=h2 (k+1) (by simpa using d) (by simpa using hp)
   simp only [XB] at this
   rwa [show j+1+(k:Int)=j+((k+1:Nat):Int) by omega]
theorem Zh0{P:Three->Prop}:∀ (l:List (List Int)) (i:Int) (r:List Three),(∀ x∈r,P x)->(∀ h k:Nat,h < l.length->k < (l.getD h []).length->0 < (l.getD h []).getD k 0->P ⟨⟨i+h,k⟩,(l.getD h []).getD k 0⟩)->∀ x∈Z5w l i r,P x
 | [],i,r,h,_=> by simpa [Z5w] using h
 | a ::l,i,r,h,h2=> by
  rw [Z5w]
  refine Zh0 l (i+1) _ (ZjR i a 0 r h fun k d hp=> ?_) fun g k hg d hp=> ?_
  .have:=h2 0 k (by simp) (by simpa using d) (by simpa using hp)
   simpa using this
  .have:=h2 (g+1) k (by simpa using hg) (by simpa using d) (by simpa using hp)
   simp only [XB] at this
   rwa [show i+1+(g:Int)=i+((g+1:Nat):Int) by omega]
def ZlS(old now:List Tree)(p:Two):Prop:=(0<=p.i/\p.i < old.length)/\(0<=p.j/\p.j < now.length)/\0 < JQ (old.getD p.i.toNat Tree.nil) (now.getD p.j.toNat Tree.nil)
def Z7f:List Two->Int->Int->Int->Int->Prop
 | [],i,j,n,m=> i<=n/\j<=m
 | p ::r,i,j,n,m=> (i<=p.i/\p.i < n)/\(j<=p.j/\p.j < m)/\Z7f r (p.i+1) (p.j+1) n m
theorem ZeA{n m:Int}:∀ {l:List Two} {i j:Int},i<=n->j<=m->l.Pairwise (fun p q=> p.i < q.i/\p.j < q.j)->(∀ p∈l,(i<=p.i/\p.i < n)/\j<=p.j/\p.j < m)->Z7f l i j n m
 | [],i,j,h1,h2,_,_=> ⟨h1,h2⟩
 | p ::r,i,j,h1,h2,h3,h4=> by
  rw [K2] at h3
  have hp:=h4 p (Q5 ..)
  refine ⟨hp.1,hp.2,ZeA V0 V0 h3.2 fun q d=> ?_⟩
  have h5:=h3.1 q d
  have h6:=h4 q (Q3 _ d)
  omega
theorem ZcZ(old now:List Tree):(∀ p∈Z07 (ZI old now),ZlS old now p)/\Z7f (Z07 (ZI old now)) 0 0 old.length now.length:=by
 have hh:=Zh0 (P:=fun x=> ZlS old now x.p) (ZI old now) 0 [] (by simp) (fun h k h1 h2 d=> by
  simp only [ZI,QX] at h1
  have e1:(ZI old now).getD h []=now.map (JQ (old.getD h Tree.nil)):=by
   simp [ZI,Q6,Qv,Q0 h1]
  rw [e1] at h2 d
  rw [QX] at h2
  have e2:(now.map (JQ (old.getD h Tree.nil))).getD k 0=JQ (old.getD h Tree.nil) (now.getD k Tree.nil):=by
   simp [Q6,Qv,Q0 h2]
  rw [e2] at d
  refine ⟨⟨V3,V3⟩,⟨V3,V3⟩,?_⟩
  simpa using d)
 have ht:=Zg5 (P:=ZlS old now) _ (Z5w (ZI old now) 0 []) [] rfl hh (by simp) List.Pairwise.nil
 have hs:=ZaE (Z2i (Z5w (ZI old now) 0 []) [])
 have h1:∀ p∈Z07 (ZI old now),ZlS old now p:=fun p hp=> ht.1 p ((hs.2.1.mem_iff).1 hp)
 have h2:(Z07 (ZI old now)).Pairwise NoX:=(hs.2.1.pairwise_iff ZkO).2 ht.2
 refine ⟨h1,ZeA V0 V0 ?_ fun p hp=> ⟨(h1 p hp).1,(h1 p hp).2.1⟩⟩
 rw [List.pairwise_iff_getElem] at h2 ⊢
 intro i j hi hj ae
 have d:=h2 i j hi hj ae
 have h4:=hs.2.2 i j ae (by have e:(Z07 (ZI old now)).length=_:=hs.1;omega)
 have e:∀ k (hk:k < (Z07 (ZI old now)).length),(J0 (Z2i (Z5w (ZI old now) 0 []) [])).getD k ⟨0,0⟩=(Z07 (ZI old now))[k]:=fun k hk=> by
  rw [Q6]
  show ((Z07 (ZI old now))[k]?).getD _=_
  rw [Q0 hk]
  try rfl
 rw [e i hi,e j hj] at h4
 rcases d with d | d
 .exact d
 .exact absurd d.1 h4
theorem Zqe(t:Tree)(i:Int):mass (Zr t i)<=mass t/\(0<=i->i < t.kids.length->mass (Zr t i)+1<=mass t):=by
 have d:=Jt t
 unfold Zr
 split
 .exact ⟨ZM t,fun h=> by omega⟩
 .by_cases h:i.toNat < t.kids.length
  .have:=Y3 (Zi (l:=t.kids) h Tree.nil)
   omega
  .have e:t.kids.getD i.toNat Tree.nil=Tree.nil:=by rw [Q6,Qu V0];try rfl
   rw [e]
   exact ⟨ZM t,fun _ _=> by omega⟩
theorem Z6V{a b:Tree}{i:Int}(h0:0<=i)(h:i < (a.kids.length:Int)\/i < (b.kids.length:Int)):mass (Zr a i)+mass (Zr b i)+1<=mass a+mass b:=by
 have h1:=Zqe a i
 have d:=Zqe b i
 rcases h with h | h
 .have:=h1.2 h0 h;omega
 .have:=d.2 h0 h;omega
theorem Zcm{f g:Tree->Tree->Edit}{a b:Tree}:∀ (n:Nat) (i:Int),0<=i->(∀ j,0<=j->j < i+n->f (Zr a j) (Zr b j)=g (Zr a j) (Zr b j))->Z0a f a b n i=Z0a g a b n i
 | 0,_,_,_=> rfl
 | n+1,i,h0,h=> by
  rw [Z0a,Z0a,h i h0 V0,Zcm n (i+1) V0 fun j d h2=> h j d V0]
theorem Z7j{f g:Tree->Tree->Edit}{a b:Tree}(h:∀ j:Int,0<=j->(j < a.kids.length\/j < b.kids.length)->f (Zr a j) (Zr b j)=g (Zr a j) (Zr b j)):Jy f a b=Jy g a b:=by
 unfold Jy
 rw [Zcm _ 0 V0 fun j d h2=> h j d V0]
theorem Z9e{f g:Tree->Tree->Op}{old now:List Tree}(h:∀ x∈old,∀ y∈now,f x y=g x y):∀ (l:List Two) (i j:Int),(∀ p∈l,ZlS old now p)->Jr f old now l i j=Jr g old now l i j
 | [],_,_,_=> rfl
 | p ::r,i,j,hp=> by
  have d:=hp p (Q5 ..)
  rw [Jr,Jr,Z9e h r _ _ fun q hq=> hp q (Q3 _ hq),h _ (Zi (by have:=d.1;omega) _) _ (Zi (by have:=d.2.1;omega) _)]
theorem ZnN{f g:Tree->Tree->Op}{old now:List Tree}(h:∀ x∈old,∀ y∈now,f x y=g x y):Z3O f old now=Z3O g old now:=
 Z9e h _ _ _ (ZcZ old now).1
theorem Z0J(gap:List Tree->List Tree->List Op)(s:SStep)(old now:List Tree):YM gap [s] old now=
  if s.kind=0 then [⟨0,s.n,[],Edit.nil⟩] else if s.kind=2 then ZT 2 (now.take s.n.toNat)++[] else ZT 1 (old.take s.n.toNat):=by
 rw [YM,YM,YM]
theorem JY(gap:List Tree->List Tree->List Op)(s t:SStep)(r:List SStep)(old now:List Tree):YM gap (s ::t ::r) old now=
  if s.kind=0 then ⟨0,s.n,[],Edit.nil⟩ ::YM gap (t ::r) (old.drop s.n.toNat) (now.drop s.n.toNat)
  else if s.kind=2 then ZT 2 (now.take s.n.toNat)++YM gap (t ::r) old (now.drop s.n.toNat)
  else if t.kind=2 then gap (old.take s.n.toNat) (now.take t.n.toNat)++YM gap r (old.drop s.n.toNat) (now.drop t.n.toNat)
  else ZT 1 (old.take s.n.toNat)++YM gap (t ::r) (old.drop s.n.toNat) now:=by
 rw [YM]
theorem ZmW{f g:List Tree->List Tree->List Op}:∀ (n:Nat) (l:List SStep) (old now:List Tree),l.length=n->(∀ u v:List Tree,(∀ x∈u,x∈old)->(∀ y∈v,y∈now)->f u v=g u v)->YM f l old now=YM g l old now:=by
 intro n
 induction n using Nat.strongRecOn with
 | ind n ih=>
  intro l old now hn h
  have d:∀ (k m:Nat) (u v:List Tree),(∀ x∈u,x∈old.drop k)->(∀ y∈v,y∈now.drop m)->f u v=g u v:=fun k m u v h1 h2=> h u v (fun x hx=> Qm (h1 x hx)) (fun y hy=> Qm (h2 y hy))
  have aa:∀ (k:Nat) (u v:List Tree),(∀ x∈u,x∈old.drop k)->(∀ y∈v,y∈now)->f u v=g u v:=fun k u v h1 h2=> h u v (fun x hx=> Qm (h1 x hx)) h2
  have ab:∀ (m:Nat) (u v:List Tree),(∀ x∈u,x∈old)->(∀ y∈v,y∈now.drop m)->f u v=g u v:=fun m u v h1 h2=> h u v h1 (fun y hy=> Qm (h2 y hy))
  match l,hn with
  | [],_=> rfl
  | [s],hn=> rw [Z0J,Z0J]
  | s ::t ::r,hn=>
   simp only [Qd] at hn
   rw [JY,JY]
   split
   .rw [ih (t ::r).length (by simp;omega) (t ::r) _ _ rfl (d _ _)]
   .split
    .rw [ih (t ::r).length (by simp;omega) (t ::r) _ _ rfl (ab _)]
    .split
     .rw [ih _ V0 r _ _ rfl (d _ _),h _ _ (fun x hx=> QR hx) (fun y hy=> QR hy)]
     .rw [ih (t ::r).length (by simp;omega) (t ::r) _ _ rfl (aa _)]
theorem Zcl{f g:Tree->Tree->Op}{most:Int}{a b:Tree}(h:∀ x∈a.kids,∀ y∈b.kids,f x y=g x y):Z2k f most a b=Z2k g most a b:=by
 unfold Z2k
 rw [ZmW _ _ _ _ rfl fun u v h1 d=> ZnN fun x hx y hy=> h x (h1 x hx) y (d y hy)]
theorem Zbi{t x:Tree}(h:x∈t.kids):mass x+1<=mass t:=by
 have:=Y3 h
 have:=Jt t
 omega
theorem Zfj(desc:Edit->Op)(most:Int):∀ (n m:Nat) (a b:Tree),mass a+mass b<=n->mass a+mass b<=m->Z4v desc most n a b=Z4v desc most m a b:=by
 intro n
 induction n with
 | zero=> intro m a b h;have:=ZM a;omega
 | succ n ih=>
  intro m a b h1 d
  match m,d with
  | 0,d=> have:=ZM a;omega
  | m+1,d=>
   rw [Z4v,Z4v]
   split
   .try rfl
   .split
    .exact Z7j fun j h0 hj=> by have:=Z6V h0 hj;exact ih m _ _ V0 V0
    .split
     .exact Zcl fun x hx y hy=> by have h3:=Zbi hx;have h4:=Zbi hy;show desc _=desc _;rw [ih m x y V0 V0]
     .try rfl
noncomputable def ZeC(desc:Edit->Op)(most:Int)(a b:Tree):Edit:=Z4v desc most (mass a+mass b) a b
theorem Zpv(desc:Edit->Op)(most:Int)(a b:Tree):ZeC desc most a b=if ZU (Z0 a) (Z0 b)=true then Edit.nil
  else if a.kind=1/\b.kind=1 then Jy (ZeC desc most) a b
  else if a.kind=b.kind/\2<=a.kind/\a.kind<=9 then Z2k (fun x y=> desc (ZeC desc most x y)) most a b
  else .mk 1 a b [] [] 0 []:=by
 have e:mass a+mass b=(mass a+mass b - 1)+1:=by have:=ZM a;omega
 unfold ZeC
 rw [e,Z4v]
 split
 .try rfl
 .split
  .exact Z7j fun j d hj=> by have:=Z6V d hj;exact Zfj _ _ _ _ _ _ V0 (Qg _)
  .split
   .exact Zcl fun x hx y hy=> by have h3:=Zbi hx;have h4:=Zbi hy;show desc _=desc _;rw [Zfj desc most _ (mass x+mass y) x y V0 (Qg _)]
   .try rfl
theorem Zd1(most:Int)(a b:Tree):Z18 most a b=if ZU (Z0 a) (Z0 b)=true then Edit.nil
  else if a.kind=1/\b.kind=1 then Jy (Z18 most) a b
  else if a.kind=b.kind/\2<=a.kind/\a.kind<=9 then Z2k (fun x y=> Z17 (Z18 most x y)) most a b
  else .mk 1 a b [] [] 0 []:=Zpv Z17 most a b
noncomputable section
def Z0f:WEdit:=WEdit.mk 0 0 0 0
def Z1u(o:Tree)(at_:List PStep)(a b:WEdit)(i:Int)(s:List Int × List Conflict):List Int × List Conflict:=
 if mix 0 a.new (ZcN a.mask b.mask)=mix 0 b.new (ZcN a.mask b.mask) then (ZH 0 s.1 i.toNat (mix (mix (Zm o i) a.new a.mask) b.new b.mask),s.2)
 else (s.1,s.2++[Conflict.mk (at_++[PStep.mk 1 i]) (Z0 (.mk 1 [Zm o i] [])) (Z0 (.mk 1 [mix (Zm o i) a.new a.mask] [])) (Z0 (.mk 1 [mix (Zm o i) b.new b.mask] []))])
def ZV(o:Tree)(at_:List PStep):Nat->List WEdit->List WEdit->List Int × List Conflict->List Int × List Conflict
 | 0,_,_,s=> s
 | n+1,p,q,s=>
  if p.length=0/\q.length=0 then s
  else if q.length=0\/(0 < p.length/\(p.getD 0 Z0f).at_ < (q.getD 0 Z0f).at_) then ZV o at_ n (p.drop 1) q (Z1u o at_ (p.getD 0 Z0f) Z0f (p.getD 0 Z0f).at_ s)
  else if p.length=0\/(q.getD 0 Z0f).at_ < (p.getD 0 Z0f).at_ then ZV o at_ n p (q.drop 1) (Z1u o at_ Z0f (q.getD 0 Z0f) (q.getD 0 Z0f).at_ s)
  else ZV o at_ n (p.drop 1) (q.drop 1) (Z1u o at_ (p.getD 0 Z0f) (q.getD 0 Z0f) (p.getD 0 Z0f).at_ s)
def Jf(o:Tree)(at_:List PStep)(p q:Edit)(cs:List Conflict):Tree × List Conflict:=
 (.mk 1 (ZV o at_ (p.words.length+q.words.length) p.words q.words (o.words,cs)).1 [],(ZV o at_ (p.words.length+q.words.length) p.words q.words (o.words,cs)).2)
def OkM(o:Tree)(p:Edit):Prop:=(Zc p<=1000/\Yi p/\∃ d,Z7 p d=true)/\(mass o<=1000/\rng o/\o.kids=[])/\(p.kind=2/\p.kids=[])/\(∀ w∈p.words,J7 w/\0<=w.at_/\w.at_<=65534)/\(doE false p o).isSome=true
def Y2(most:Int)(a b:Tree):Edit:=Zv (Z18 most (Z0 a) (Z0 b))
def Z2m(t:Tree):Bool:=decide (0<=Yu t 70 400) && Zh t 64 && decide (t.kind≠10)
end
noncomputable section
def Zjc:ArgL (Tree × Tree × Int × Unit):=(.cons (aEl .tree) (.cons (aEl .tree) (.cons (Y6 .i64) .nil)))
def ZbY(a:Tree × Tree × Int × Unit):Prop:=(mass a.1+mass a.2.1<=1000000/\rng a.1/\rng a.2.1)
def ZuR(a:Tree × Tree × Int × Unit):Nat:=8*(mass a.1+mass a.2.1)+3
def ZbT(a:Tree × Tree × Int × Unit):V U:= .agg (enc .edit (Z18 a.2.2.1 a.1 a.2.1))
def ZaC:Fs U:=fs Zjc (fun a=> [ZbY a]) ZbT
def Zzb(a:Tree × Tree × Int × Unit):Nat:=8*(mass a.1+mass a.2.1)+2
def Zka(a:Tree × Tree × Int × Unit):V U:= .agg (enc .edit (Jy (Z18 a.2.2.1) a.1 a.2.1))
def Zte:Fs U:=fs Zjc (fun a=> [ZbY a]) Zka
def Zgw(a:Tree × Tree × Int × Unit):V U:= .agg (enc .edit (Z2k (fun x y=> Z17 (Z18 a.2.2.1 x y)) a.2.2.1 a.1 a.2.1))
def Ztd:Fs U:=fs Zjc (fun a=> [ZbY a]) Zgw
def Zj3:ArgL (List SStep × Tree × Tree × Int × Unit):=(.cons (aSl .sstep) (.cons (aEl .tree) (.cons (aEl .tree) (.cons (Y6 .i64) .nil))))
def ZgH(a:List SStep × Tree × Tree × Int × Unit):Prop:=(mass a.2.1+mass a.2.2.1<=1000000/\rng a.2.1/\rng a.2.2.1)/\ZcO a.1 (a.2.1.kids.length:Int) (a.2.2.1.kids.length:Int)
def ZuQ(a:List SStep × Tree × Tree × Int × Unit):Nat:=8*(mass a.2.1+mass a.2.2.1)+1
def Zk8(a:List SStep × Tree × Tree × Int × Unit):V U:= .c (sU .op (YM (Z3O (fun x y=> Z17 (Z18 a.2.2.2.1 x y))) a.1 a.2.1.kids a.2.2.1.kids) .unk)
def Zt6:Fs U:=fs Zj3 (fun a=> [ZgH a]) Zk8
def Zj1:ArgL (Int × List Tree × List Tree × Int × Unit):=(.cons (Y6 .i64) (.cons (aSl .tree) (.cons (aSl .tree) (.cons (Y6 .i64) .nil))))
def Zkq(a:Int × List Tree × List Tree × Int × Unit):Prop:=(Z6 a.2.1+Z6 a.2.2.1<=1000000/\Yd a.2.1/\Yd a.2.2.1)
def Zz9(a:Int × List Tree × List Tree × Int × Unit):Nat:=8*(Z6 a.2.1+Z6 a.2.2.1)+4
def Zk6(a:Int × List Tree × List Tree × Int × Unit):V U:= .c (sU .op (Z3O (fun x y=> Z17 (Z18 a.2.2.2.1 x y)) a.2.1 a.2.2.1) .unk)
def Zt5:Fs U:=fs Zj1 (fun a=> [Zkq a]) Zk6
def Z2f(N:Nat):List (FuncId × Fs U):=(21,fs Zjc (fun a=> [ZbY a,ZuR a < N]) ZbT) ::(39,fs Zjc (fun a=> [ZbY a,Zzb a < N]) Zka) ::(41,fs Zjc (fun a=> [ZbY a,Zzb a < N]) Zgw) ::(69,fs Zj3 (fun a=> [ZgH a,ZuQ a < N]) Zk8) ::(87,fs Zj1 (fun a=> [Zkq a,Zz9 a < N]) Zk6) ::[(38,Yw),(40,ZhQ),(63,Z1b),(64,Z1a),(65,ZhP),(66,ZhO),(67,ZhN),(68,Z7I),(86,ZhM),(88,ZhL),(107,ZcT),(108,ZcS)]
def ZEe:Zb U:=lvl [([2,3,4,6],[3,4,6]),([2,3,4,6,7],[3,4,6]),([6],[6]),([2,3,4,6,12],[3,4,6]),([6],[6]),([2,3,4,6,25],[3,4,6]),([6],[6]),([6],[6])]
abbrev A21(N:Nat)(p:List Nat):=AW (Z1 (Z2f N)) Tryz.f21 ZEe p
theorem ZJl(N:Nat)(a b:Tree)(most:Int)(Q:QT)(h:∀ aa,aa=a->∀ d,d=b->let z0:=a.kind==b.kind;((Z2M (aa,d,()))/\(iB (ZU (Z0 aa) (Z0 d)) ((Q .ret (L2 [pL 6] [(.loc 6,zc0)]))) ((Tt (a.kind==1))/\(Tt (a.kind==1))/\(Tt (a.kind==1))/\(iB (bif (a.kind==1) then (b.kind==1) else false) ((ZbY (aa,d,most,()))/\(Zzb (aa,d,most,()) < N)/\(Q .ret (L2 [pL 6] [(.loc 6,(enc .edit (Jy (Z18 most) aa d)))]))) ((Tt z0)/\(Tt z0)/\(z0=true->Zuq (a.kind,()))/\(Tt z0)/\(iB (bif z0 then (decide (2<=a.kind/\a.kind<=9)) else false) ((ZbY (aa,d,most,()))/\(Zzb (aa,d,most,()) < N)/\(Q .ret (L2 [pL 6] [(.loc 6,(enc .edit (Z2k (fun x y=> Z17 (Z18 most x y)) most aa d)))]))) ((Q .ret (L2 [pL 6] [(.loc 6,([ci 1]++enc .tree a++enc .tree b++[.nils,.nils,ci 0,.nils]))])))))))))):
  A21 N [] (L2 [(0,.agg (enc .tree a)),(1,.agg (enc .tree b)),pI 2 most] []) Q:=
 (Eq.mpr V5 (h _ (Z3 _) _ (Z3 _)):)
abbrev ZGd(N:Nat)(a b:Tree)(most:Int):Prop:=AW (Z1 (Z2f N)) Tryz.f21 ZEe [] (Zf (Zjc.can (a,b,most,())) []) (EQ Tryz.f21 (ZbT (a,b,most,())) [])
abbrev ZI9:Prop:=∀ (N:Nat) (a:Tree) (b:Tree) (most:Int) (_:Unit),ZbY (a,b,most,())->ZuR (a,b,most,()) < N+1->ZGd N a b most
def Znz(N:Nat):List (FuncId × Fs U):=Z2f N
def ZzY:Zb U:=lvk [([2,3,4,6],[3,4,6]),([2,3,4,6,7],[3,4,6,7]),([2,3,4,6,7,20,21],[3,4,6,((.loc 7),(an 7 [.own .wedit]))]),([2,3,4,6,7,20,21,22],[3,4,6,7]),([2,3,4,6,7,8,20,21],[3,4,6,7]),([2,3,4,6,7,9,10,20,21],[3,4,6,7,9]),([2,3,4,6,7,9,20,21,35],[3,4,6,7,9]),([2,3,4,6,7,20,21],[3,4,6,7]),([2,3,4,6,7,20,21],[3,4,6,((.loc 7),(an 7 [.own .wedit]))]),([2,3,4,6,7,49,50],[3,4,6,((.loc 7),(an 8 [.own .kid]))]),([2,3,4,6,7,49,50,51],[3,4,6,7]),([2,3,4,6,7,11,49,50],[3,4,6,7]),([2,3,4,6,7,11,12,49,50],[3,4,6,7,12]),([2,3,4,6,7,11,12,49,50,63],[3,4,6,7,12]),([2,3,4,6,7,49,50],[3,4,6,7]),([2,3,4,6,7,49,50],[3,4,6,((.loc 7),(an 8 [.own .kid]))]),([6],[6])]
def Z6h(a b:Tree)(most aa:Int)(d:List WEdit):LSt U:=(L2 [pI 2 most,pL 3,pL 4,pL 6,pL 7,pI 20 (if ((a.words.length:Int):Int) < (b.words.length:Int) then (b.words.length:Int) else (a.words.length:Int)),pI 21 aa] [(.loc 3,(enc .tree a)),(.loc 4,(enc .tree b)),(.loc 6,zc0),(.loc 7,[ci 2,ci 0,.nils,.nils,ci 0,.nils,.nils,sU .wedit d (.own (.l 7 7)),.nils,ci 0,.nils])])
def Z6g(a b:Tree)(most:Int)(aa:List WEdit)(ab:Int)(d:List Kid):LSt U:=(L2 [pI 2 most,pL 3,pL 4,pL 6,pL 7,pI 49 (if ((a.kids.length:Int):Int) < (b.kids.length:Int) then (b.kids.length:Int) else (a.kids.length:Int)),pI 50 ab] [(.loc 3,(enc .tree a)),(.loc 4,(enc .tree b)),(.loc 6,zc0),(.loc 7,[ci 2,ci 0,.nils,.nils,ci 0,.nils,.nils,sU .wedit aa (.own (.l 7 7)),sU .kid d (.own (.l 7 8)),ci 0,.nils])])
abbrev A39(N:Nat)(p:List Nat):=AW (Z1 (Znz N)) Tryz.f39 ZzY p
abbrev S39(N:Nat)(p:List Nat):=SW (Z1 (Znz N)) Tryz.f39 ZzY p
theorem ZJ7(N:Nat)(a b:Tree)(most:Int)(Q:QT)(h:(Zk (A39 N [1,1,0,1,0,0]) (Z6h a b most 0 []) (xB 0 (S39 N [1,1,1] Q)))):
  A39 N [] (L2 [(0,.agg (enc .tree a)),(1,.agg (enc .tree b)),pI 2 most] []) Q:=
 (Eq.mpr V5 h:)
theorem Zyh(N:Nat)(a b:Tree)(most d:Int)(aa:List WEdit)(N0:NT)(Q:QT)(h:∀ ae,ae=a->∀ ab,ab=b->∀ af,af=(if ZW (Zm ae d) (Zm ab d)=0 then WEdit.mk 0 0 0 0 else Z38 d (Zm ae d) (Zm ab d))->(iB (decide (d < (if ((a.words.length:Int):Int) < (b.words.length:Int) then (b.words.length:Int) else (a.words.length:Int)))) (((Z5W (ae,d,()))/\(Z5W (ab,d,()))/\(Zum (d,(Zm ae d),(Zm ab d),()))/\(iB (decide (ZW (Zm ae d) (Zm ab d)≠0)) (((aa.length+([af]).length)*32<=140737488355328)/\((InR (d+1))/\(N0 (Z6h a b most (d+1) (aa++([af])))))) ((InR (d+1))/\(N0 (Z6h a b most (d+1) aa)))))) ((Zk (A39 N [1,1,1,0,1,0,0]) (Z6g a b most aa 0 []) (xB 2 (S39 N [1,1,1,1] Q)))))):
  A39 N [1,1,0,1,0,0] (Z6h a b most d aa) (xT N0 (xB 0 (S39 N [1,1,1] Q))):=
 (Eq.mpr V5 (h _ (Z3 _) _ (Z3 _) _ (Z4S _)):)
theorem Zyg(N:Nat)(a b:Tree)(most:Int)(ab:List WEdit)(d:Int)(aa:List Kid)(N1:NT)(Q:QT)(h:∀ aj,aj=a->∀ ah,ah=b->∀ af,af=(Zr aj d)->∀ ae,ae=(Zr ah d)->∀ ai,ai=(Z18 most af ae)->(iB (decide (d < (if ((a.kids.length:Int):Int) < (b.kids.length:Int) then (b.kids.length:Int) else (a.kids.length:Int)))) (((Z5W (aj,d,()))/\(Z5W (ah,d,()))/\(ZbY (af,ae,most,()))/\(ZuR (af,ae,most,()) < N)/\(iB (((Edit.kind (Z18 most af ae)):Int) !=0) (((aa.length+([(KidOf.mk d ai)]).length)*208<=140737488355328)/\((InR (d+1))/\(N1 (Z6g a b most ab (d+1) (aa++([(KidOf.mk d ai)])))))) ((InR (d+1))/\(N1 (Z6g a b most ab (d+1) aa)))))) ((Q .ret (L2 [pL 6] [(.loc 6,[ci 2,ci 0,.nils,.nils,ci 0,.nils,.nils,sU .wedit ab (.own (.l 6 7)),sU .kid aa (.own (.l 6 8)),ci 0,.nils])]))))):
  A39 N [1,1,1,0,1,0,0] (Z6g a b most ab d aa) (xT N1 (xB 2 (S39 N [1,1,1,1] Q))):=
 (Eq.mpr V5 (h _ (Z3 _) _ (Z3 _) _ (Z3 _) _ (Z3 _) _ (Zg _)):)
abbrev ZFZ(N:Nat)(a b:Tree)(most:Int):Prop:=AW (Z1 (Znz N)) Tryz.f39 ZzY [] (Zf (Zjc.can (a,b,most,())) []) (EQ Tryz.f39 (Zka (a,b,most,())) [])
abbrev ZI3:Prop:=∀ (N:Nat) (a:Tree) (b:Tree) (most:Int) (_:Unit),ZbY (a,b,most,())->Zzb (a,b,most,()) < N+1->ZFZ N a b most
def ZE8:Zb U:=lvl [([2,3,4,6],[3,4,6]),([2,3,4,6,7],[3,4,6,12]),([2,3,4,6,7,8],[3,4,6,12]),([2,3,4,6,9,10],[3,4,6]),([2,3,4,6,9,28],[3,4,6]),([2,3,4,6,9],[3,4,6]),([6],[6])]
abbrev A41(N:Nat)(p:List Nat):=AW (Z1 (Znz N)) Tryz.f41 ZE8 p
theorem ZJ5(N:Nat)(a b:Tree)(most:Int)(Q:QT)(h:∀ aa,aa=a->∀ d,d=b->∀ af,af=(ofF ((ofF ([]:List Tree) a.kids).1) b.kids)->∀ ae,ae=(Z5u ([(SStep.mk 1 (a.kids.length:Int)),(SStep.mk 2 (b.kids.length:Int))]))->∀ ab,ab=(Z5y ((ofF ([]:List Tree) a.kids).2) (af.2) most)->((Zph ((([]:List Tree),()),a.kids,()))/\((Zph ((((ofF ([]:List Tree) a.kids).1),()),b.kids,()))/\(Zuj (((ofF ([]:List Tree) a.kids).2),(af.2),most,()))/\(iB (!(ab.2)) ((Zpg (([(SStep.mk 1 (a.kids.length:Int)),(SStep.mk 2 (b.kids.length:Int))]),()))/\((ZgH (ae,aa,d,most,()))/\(ZuQ (ae,aa,d,most,()) < N)/\(Q .ret (L2 [pL 6] [(.loc 6,[ci 3,ci 0,.nils,.nils,ci 0,.nils,.nils,.nils,.nils,ci a.kind,sU .op (YM (Z3O (fun x y=> Z17 (Z18 most x y))) ae aa.kids d.kids) .unk])])))) ((ZgH ((ab.1),aa,d,most,()))/\(ZuQ ((ab.1),aa,d,most,()) < N)/\(Q .ret (L2 [pL 6] [(.loc 6,[ci 3,ci 0,.nils,.nils,ci 0,.nils,.nils,.nils,.nils,ci a.kind,sU .op (YM (Z3O (fun x y=> Z17 (Z18 most x y))) (ab.1) aa.kids d.kids) .unk])]))))))):
  A41 N [] (L2 [(0,.agg (enc .tree a)),(1,.agg (enc .tree b)),pI 2 most] []) Q:=
 (Eq.mpr V5 (h _ (Z3 _) _ (Z3 _) _ rfl _ rfl _ rfl):)
abbrev ZFX(N:Nat)(a b:Tree)(most:Int):Prop:=AW (Z1 (Znz N)) Tryz.f41 ZE8 [] (Zf (Zjc.can (a,b,most,())) []) (EQ Tryz.f41 (Zgw (a,b,most,())) [])
abbrev ZI2:Prop:=∀ (N:Nat) (a:Tree) (b:Tree) (most:Int) (_:Unit),ZbY (a,b,most,())->Zzb (a,b,most,()) < N+1->ZFX N a b most
def ZzP:Zb U:=lvk [([0,3,5,6],[5,6]),([0,3,5,6,9],[5,6]),([0,3,5,9,10,11],[5]),([0,3,5,(9,[.own .op]),10,11,12],[5]),([0,3,5,9,10,11,12,22],[5]),([0,3,5,(9,[.own .op]),10,11,12],[5]),([0,3,5,9,10,11,12,13],[5]),([0,3,5,9,10,11,12],[5]),([0,3,5,9,10,11,12,13,39],[5]),([0,3,5,9,10,11,12],[5]),([0,3,5,9,10,11,12,13,57],[5]),([0,3,5,9,10,11,12],[5]),([0,3,5,9,10,11,12,13,73],[5]),([0,3,5,9,10,11,12,13,14],[5]),([0,3,5,9,10,11,12,13,14],[5]),([0,3,5,9,10,11,12],[5]),([0,3,5,9,10,11,12],[5]),([8],[])]
def Z2Z(l:List SStep)(a b:Tree)(most:Int)(d aa:List Tree)(ab:Int)(x9:List Op):LSt U:=(L2 [(0,.c (sU .sstep l .unk)),pI 3 most,pL 5,(9,.c (sU .op x9 (.own (.e 9 0)))),(10,.c (sU .tree d .unk)),(11,.c (sU .tree aa .unk)),pI 12 ab] [(.loc 5,(enc .tree a))])
abbrev A69(N:Nat)(p:List Nat):=AW (Z1 (Znz N)) Tryz.f69 ZzP p
abbrev S69(N:Nat)(p:List Nat):=SW (Z1 (Znz N)) Tryz.f69 ZzP p
theorem ZIG(N:Nat)(l:List SStep)(a b:Tree)(most:Int)(Q:QT)(h:(Zk (A69 N [1,1,1,0,1,0,0]) (Z2Z l a b most a.kids b.kids 0 []) (xB 0 (S69 N [1,1,1,1] Q)))):
  A69 N [] (L2 [(0,.c (sU .sstep l .unk)),(1,.agg (enc .tree a)),(2,.agg (enc .tree b)),pI 3 most] []) Q:=
 (Eq.mpr V5 h:)
theorem Zy1(N:Nat)(l:List SStep)(a b:Tree)(most:Int)(ae ab:List Tree)(d:Int)(x9:List Op)(N0:NT)(Q:QT)(h:∀ aa,aa=(l.getD d.toNat (SStep.mk 0 0))->∀ af,af=(List.getD l (Int.toNat (d+1)) (SStep.mk 0 0))->let z6:=List.drop (Int.toNat (SStep.n aa)) ab;let z5:=Edit.mk 0 (Tree.mk 0 [] []) (Tree.mk 0 [] []) [] [] 0 [];let z4:=List.take (Int.toNat (SStep.n aa)) ab;let z3:=List.drop (Int.toNat (SStep.n aa)) ae;let z2:=List.take (Int.toNat (SStep.n af)) ab;let z1:=List.take (Int.toNat (SStep.n aa)) ae;let z0:=decide (((d+1):Int) < (l.length:Int));(iB (decide (d < (l.length:Int))) (((0:Int)<=d/\d < (l.length:Int))/\(((0:Int)<=d/\d < (l.length:Int))/\(iB (((SStep.kind aa):Int)==0) (((x9.length+([(OpOf.mk 0 (SStep.n aa) [] z5)]).length)*240<=140737488355328)/\((0:Int)<=(SStep.n aa)/\(SStep.n aa)<=(ae.length:Int))/\((0:Int)<=(SStep.n aa)/\(SStep.n aa)<=(ab.length:Int))/\((InR (d+1))/\(N0 (Z2Z l a b most z3 z6 (d+1) (x9++([(OpOf.mk 0 (SStep.n aa) [] z5)])))))) (((0:Int)<=d/\d < (l.length:Int))/\(iB (((SStep.kind aa):Int)==2) (((0:Int)<=(SStep.n aa)/\(SStep.n aa)<=(ab.length:Int))/\(Zkr (z4,()))/\((x9.length+(ZT 2 z4).length)*240<=140737488355328)/\((0:Int)<=(SStep.n aa)/\(SStep.n aa)<=(ab.length:Int))/\((InR (d+1))/\(N0 (Z2Z l a b most ae z6 (d+1) (x9++(ZT 2 z4)))))) ((InR (d+1))/\(Tt z0)/\(z0=true->InR (d+1))/\(Tt z0)/\(Tt z0)/\(z0=true->(0:Int)<=(d+1)/\(d+1) < (l.length:Int))/\(Tt z0)/\(Tt z0)/\(Tt z0)/\(Tt z0)/\(iB (bif z0 then (((SStep.kind af):Int)==2) else false) ((InR (d+1))/\((0:Int)<=(d+1)/\(d+1) < (l.length:Int))/\(((0:Int)<=(SStep.n aa)/\(SStep.n aa)<=(ae.length:Int))/\((0:Int)<=(SStep.n af)/\(SStep.n af)<=(ab.length:Int))/\(Zkq (a.kind,z1,z2,most,()))/\(Zz9 (a.kind,z1,z2,most,()) < N)/\((x9.length+(Z3O (fun x y=> Z17 (Z18 most x y)) z1 z2).length)*240<=140737488355328)/\(((0:Int)<=(SStep.n aa)/\(SStep.n aa)<=(ae.length:Int))/\((0:Int)<=(SStep.n af)/\(SStep.n af)<=(ab.length:Int))/\((InR (d+1))/\((InR (((d+1):Int)+1))/\(N0 (Z2Z l a b most z3 (List.drop (Int.toNat (SStep.n af)) ab) (((d+1):Int)+1) (x9++(Z3O (fun x y=> Z17 (Z18 most x y)) z1 z2))))))))) (((0:Int)<=(SStep.n aa)/\(SStep.n aa)<=(ae.length:Int))/\(Zkr (z1,()))/\((x9.length+(ZT 1 z1).length)*240<=140737488355328)/\((0:Int)<=(SStep.n aa)/\(SStep.n aa)<=(ae.length:Int))/\((InR (d+1))/\(N0 (Z2Z l a b most z3 ab (d+1) (x9++(ZT 1 z1))))))))))))) ((Q .ret (L2 [(8,.c (sU .op x9 (.own (.e 8 0))))] []))))):
  A69 N [1,1,1,0,1,0,0] (Z2Z l a b most ae ab d x9) (xT N0 (xB 0 (S69 N [1,1,1,1] Q))):=
 (Eq.mpr V5 (h _ rfl _ rfl):)
abbrev ZFy(N:Nat)(l:List SStep)(a b:Tree)(most:Int):Prop:=AW (Z1 (Znz N)) Tryz.f69 ZzP [] (Zf (Zj3.can (l,a,b,most,())) []) (EQ Tryz.f69 (Zk8 (l,a,b,most,())) [])
abbrev ZHV:Prop:=∀ (N:Nat) (l:List SStep) (a:Tree) (b:Tree) (most:Int) (_:Unit),ZgH (l,a,b,most,())->ZuQ (l,a,b,most,()) < N+1->ZFy N l a b most
def ZzL:Zb U:=lvk [([1,2,3],[]),([1,2,3,9],[]),([1,2,3,(9,[.own .irow]),20,21,22],[]),([1,2,3,9,20,21,22,23],[]),([1,2,3,9,11,20,21,22],[11]),([1,2,3,9,11,12,20,21,22],[11]),([1,2,3,9,11,(12,[.own .int]),20,21,22,26,27,28],[11]),([1,2,3,9,11,12,20,21,22,26,27,28,29],[11]),([1,2,3,9,11,12,14,20,21,22,26,27,28],[11,14]),([1,2,3,9,11,12,20,21,22,26,27,28],[11]),([1,2,3,9,11,(12,[.own .int]),20,21,22,26,27,28],[11]),([1,2,3,9,20,21,22],[]),([1,2,3,(9,[.own .irow]),20,21,22],[]),([1,2,3,9,15],[]),([1,2,3,9,15,16,17],[]),([1,2,3,(15,[.own .op]),16,17,45,46,47],[]),([1,2,3,15,16,17,45,46,47,48],[]),([1,2,3,15,16,17,19,45,46,47],[19]),([1,2,3,15,19,45,46,47],[19]),([1,2,3,15,19,45,46,47],[19]),([1,2,3,15,16,17,45,46,47],[]),([1,2,3,(15,[.own .op]),16,17,45,46,47],[]),([8],[])]
def Z9F(list:Int)(old now:List Tree)(most d:Int)(x9:List (List Int)):LSt U:=(L2 [(1,.c (sU .tree old .unk)),(2,.c (sU .tree now .unk)),pI 3 most,(9,.c (sU .irow x9 (.own (.e 9 0)))),(20,.c (sU .tree old .unk)),pI 21 (old.length:Int),pI 22 d] [])
def Z9E(list:Int)(old now:List Tree)(most ab:Int)(x9:List (List Int))(d:Int)(aa:List Int):LSt U:=(L2 [(1,.c (sU .tree old .unk)),(2,.c (sU .tree now .unk)),pI 3 most,(9,.c (sU .irow x9 (.own (.e 9 0)))),pL 11,(12,.c (sU .int aa (.own (.e 12 0)))),(20,.c (sU .tree old .unk)),pI 21 (old.length:Int),pI 22 ab,(26,.c (sU .tree now .unk)),pI 27 (now.length:Int),pI 28 d] [(.loc 11,(enc .tree (old.getD ab.toNat Tree.nil)))])
def Z9D(list:Int)(old now:List Tree)(most:Int)(x9:List (List Int))(ab aa ae:Int)(d:List Op):LSt U:=(L2 [(1,.c (sU .tree old .unk)),(2,.c (sU .tree now .unk)),pI 3 most,(15,.c (sU .op d (.own (.e 15 0)))),pI 16 ab,pI 17 aa,(45,.c (sU .two (Z07 x9) .unk)),pI 46 ((Z07 x9).length:Int),pI 47 ae] [])
abbrev A87(N:Nat)(p:List Nat):=AW (Z1 (Znz N)) Tryz.f87 ZzL p
abbrev S87(N:Nat)(p:List Nat):=SW (Z1 (Znz N)) Tryz.f87 ZzL p
theorem ZIt(N:Nat)(list:Int)(old now:List Tree)(most:Int)(Q:QT)(h:(Zk (A87 N [1,1,0,1,0,0]) (Z9F list old now most 0 []) (xB 0 (S87 N [1,1,1] Q)))):
  A87 N [] (L2 [pI 0 list,(1,.c (sU .tree old .unk)),(2,.c (sU .tree now .unk)),pI 3 most] []) Q:=
 (Eq.mpr V5 h:)
theorem ZxR(N:Nat)(list:Int)(old now:List Tree)(most d:Int)(x9:List (List Int))(N0:NT)(Q:QT)(h:(iB (decide (d < (old.length:Int))) (((0:Int)<=d/\d < (old.length:Int))/\(Zk (A87 N [1,1,0,1,0,0,1,1,0,0,1,1,0,1,0,0]) (Z9E list old now most d x9 0 []) (xB 2 (S87 N [1,1,0,1,0,0,1,1,0,0,1,1,1] (xB 1 (S87 N [1,1,0,1,0,0,1,1,1] (xT N0 (xB 0 (S87 N [1,1,1] Q))))))))) (((ZmQ (x9,()))/\(Zk (A87 N [1,1,1,1,1,0,1,0,0]) (Z9D list old now most x9 0 0 0 []) (xB 4 (S87 N [1,1,1,1,1,1] Q))))))):
  A87 N [1,1,0,1,0,0] (Z9F list old now most d x9) (xT N0 (xB 0 (S87 N [1,1,1] Q))):=
 (Eq.mpr V5 h:)
theorem ZxQ(N:Nat)(list:Int)(old now:List Tree)(most ab:Int)(x9:List (List Int))(d:Int)(aa:List Int)(N1 N0:NT)(Q:QT)(h:let z3:=old.getD ab.toNat Tree.nil;let z2:=now.getD d.toNat Tree.nil;let z1:=Tree.mk (Tree.kind z3) (Tree.words z3) (Tree.kids z3);let z0:=Tree.mk (Tree.kind z2) (Tree.words z2) (Tree.kids z2);(iB (decide (d < (now.length:Int))) (((0:Int)<=d/\d < (now.length:Int))/\((ZmR (z1,z0,()))/\((aa.length+([JQ z1 z0]).length)*8<=140737488355328)/\((InR (d+1))/\(N1 (Z9E list old now most ab x9 (d+1) (aa++([JQ z1 z0]))))))) (((x9.length+([aa]).length)*24<=140737488355328)/\((InR (ab+1))/\(N0 (Z9F list old now most (ab+1) (x9++([aa])))))))):
  A87 N [1,1,0,1,0,0,1,1,0,0,1,1,0,1,0,0] (Z9E list old now most ab x9 d aa) (xT N1 (xB 2 (S87 N [1,1,0,1,0,0,1,1,0,0,1,1,1] (xB 1 (S87 N [1,1,0,1,0,0,1,1,1] (xT N0 (xB 0 (S87 N [1,1,1] Q)))))))):=
 (Eq.mpr V5 h:)
theorem ZxP(N:Nat)(list:Int)(old now:List Tree)(most:Int)(x9:List (List Int))(ae ab af:Int)(d:List Op)(N2:NT)(Q:QT)(h:∀ aa,aa=(List.getD (Z07 x9) af.toNat (Two.mk 0 0))->∀ am,am=(List.getD now (Int.toNat (Two.j aa)) Tree.nil)->∀ aq,aq=(List.getD old (Int.toNat (Two.i aa)) Tree.nil)->∀ ah,ah=(List.drop ae.toNat (List.take (Int.toNat (Two.i aa)) old))->∀ ai,ai=(List.drop ab.toNat (List.take (Int.toNat (Two.j aa)) now))->∀ aj,aj=am->∀ ak,ak=aq->∀ al,al=(Z18 most ak aj)->let z1:=List.drop ab.toNat now;let z0:=List.drop ae.toNat old;(iB (decide (af < ((Z07 x9).length:Int))) (((0:Int)<=af/\af < ((Z07 x9).length:Int))/\(((0:Int)<=ae/\ae<=(Two.i aa)/\(Two.i aa)<=(old.length:Int))/\(Zkr (ah,()))/\((d.length+(ZT 1 ah).length)*240<=140737488355328)/\((0:Int)<=ab/\ab<=(Two.j aa)/\(Two.j aa)<=(now.length:Int))/\(Zkr (ai,()))/\(((d++(ZT 1 ah)).length+(ZT 2 ai).length)*240<=140737488355328)/\(((0:Int)<=(Two.i aa)/\(Two.i aa) < (old.length:Int))/\((0:Int)<=(Two.j aa)/\(Two.j aa) < (now.length:Int))/\(ZbY (ak,aj,most,()))/\(ZuR (ak,aj,most,()) < N)/\((((d++(ZT 1 ah))++(ZT 2 ai)).length+([(OpOf.mk 3 0 [] al)]).length)*240<=140737488355328)/\((InR (((Two.i aa):Int)+1))/\(InR (((Two.j aa):Int)+1))/\((InR (af+1))/\(N2 (Z9D list old now most x9 (((Two.i aa):Int)+1) (((Two.j aa):Int)+1) (af+1) (((d++(ZT 1 ah))++(ZT 2 ai))++([(OpOf.mk 3 0 [] al)]))))))))) (((0:Int)<=ae/\ae<=(old.length:Int))/\(Zkr (z0,()))/\((d.length+(ZT 1 z0).length)*240<=140737488355328)/\((0:Int)<=ab/\ab<=(now.length:Int))/\(Zkr (z1,()))/\(((d++(ZT 1 z0)).length+(ZT 2 z1).length)*240<=140737488355328)/\(Q .ret (L2 [(8,.c (sU .op ((d++(ZT 1 z0))++(ZT 2 z1)) (.own (.e 8 0))))] []))))):
  A87 N [1,1,1,1,1,0,1,0,0] (Z9D list old now most x9 ae ab af d) (xT N2 (xB 4 (S87 N [1,1,1,1,1,1] Q))):=
 (Eq.mpr V5 (h _ rfl _ rfl _ rfl _ rfl _ rfl _ (Z3 _) _ (Z3 _) _ (Zg _)):)
abbrev ZFl(N:Nat)(list:Int)(old now:List Tree)(most:Int):Prop:=AW (Z1 (Znz N)) Tryz.f87 ZzL [] (Zf (Zj1.can (list,old,now,most,())) []) (EQ Tryz.f87 (Zk6 (list,old,now,most,())) [])
abbrev ZHU:Prop:=∀ (N:Nat) (list:Int) (old:List Tree) (now:List Tree) (most:Int) (_:Unit),Zkq (list,old,now,most,())->Zz9 (list,old,now,most,()) < N+1->ZFl N list old now most
theorem Zzd(c38:CT 38 Yw)(c40:CT 40 ZhQ)(c63:CT 63 Z1b)(c64:CT 64 Z1a)(c65:CT 65 ZhP)(c66:CT 66 ZhO)(c67:CT 67 ZhN)(c68:CT 68 Z7I)(c86:CT 86 ZhM)(c88:CT 88 ZhL)(ZEU:CT 107 ZcT)(ZET:CT 108 ZcS)(b21:ZI9)(b39:ZI3)(b41:ZI2)(b69:ZHV)(b87:ZHU):
  CT 21 ZaC/\CT 39 Zte/\CT 41 Ztd/\CT 69 Zt6/\CT 87 Zt5:=by
 have ah:FK 21:=⟨Tryz.f21,Tryz.func21,rfl,rfl⟩
 have aj:FK 39:=⟨Tryz.f39,Tryz.func39,rfl,rfl⟩
 have ai:FK 41:=⟨Tryz.f41,Tryz.func41,rfl,rfl⟩
 have ab:FK 69:=⟨Tryz.f69,Tryz.func69,rfl,rfl⟩
 have ae:FK 87:=⟨Tryz.f87,Tryz.func87,rfl,rfl⟩
 have aa:∀ N,CT 21 (fs Zjc (fun a=> [ZbY a,ZuR a < N]) ZbT)/\CT 39 (fs Zjc (fun a=> [ZbY a,Zzb a < N]) Zka)/\CT 41 (fs Zjc (fun a=> [ZbY a,Zzb a < N]) Zgw)/\CT 69 (fs Zj3 (fun a=> [ZgH a,ZuQ a < N]) Zk8)/\CT 87 (fs Zj1 (fun a=> [Zkq a,Zz9 a < N]) Zk6):=by
  intro N
  induction N with
  | zero=> exact ⟨Jz ah,Jz aj,Jz ai,Jz ab,Jz ae⟩
  | succ N ih=>
   have kn:=Z0w (l:=Z2f N) ⟨ih.1,ih.2.1,ih.2.2.1,ih.2.2.2.1,ih.2.2.2.2,c38,c40,c63,c64,c65,c66,c67,c68,c86,c88,ZEU,ZET,trivial⟩
   exact ⟨Zw (Γ:=Z1 (Z2f N)) Zd rfl kn ZEe Tryz.func21 rfl rfl (fun a=> by show 3<=_;decide) (fun ⟨a,b,d,_⟩ h=> b21 N a b d () h.1 h.2.1),
    Zw (Γ:=Z1 (Z2f N)) Zd rfl kn ZzY Tryz.func39 rfl rfl (fun a=> by show 3<=_;decide) (fun ⟨a,b,d,_⟩ h=> b39 N a b d () h.1 h.2.1),
    Zw (Γ:=Z1 (Z2f N)) Zd rfl kn ZE8 Tryz.func41 rfl rfl (fun a=> by show 3<=_;decide) (fun ⟨a,b,d,_⟩ h=> b41 N a b d () h.1 h.2.1),
    Zw (Γ:=Z1 (Z2f N)) Zd rfl kn ZzP Tryz.func69 rfl rfl (fun a=> by show 4<=_;decide) (fun ⟨l,a,b,d,_⟩ h=> b69 N l a b d () h.1 h.2.1),
    Zw (Γ:=Z1 (Z2f N)) Zd rfl kn ZzL Tryz.func87 rfl rfl (fun a=> by show 4<=_;decide) (fun ⟨list,old,ak,d,_⟩ h=> b87 N list old ak d () h.1 h.2.1)⟩
 exact ⟨JA ah fun N=> (aa N).1,JA aj fun N=> (aa N).2.1,JA ai fun N=> (aa N).2.2.1,JA ab fun N=> (aa N).2.2.2.1,JA ae fun N=> (aa N).2.2.2.2⟩
end
theorem b21:ZI9:=by
 intro N a b d _ hp hN
 obtain ⟨h1,h2,h3⟩:=hp
 dsimp only at h1 h2 h3
 have hN:8*(mass a+mass b)+3 < N+1:=hN
 refine ZJl _ _ _ _ _ ?_
 rintro y1 rfl y2 rfl
 have e:=Zd1 d y1 y2
 (simp only [iB,vcT,vcS])
 refine ⟨⟨V3,V3⟩,fun hs=> ?_,fun hs=> ⟨fun hk=> ?_,fun hk=> ⟨fun _=> trivial,fun hl=> ?_,fun hl=> ?_⟩⟩⟩
 .rw [if_pos hs] at e
  simp only [ZbT,e]
  exact V1
 .rw [if_neg (by rw [hs];decide),if_pos hk] at e
  refine ⟨⟨h1,h2,h3⟩,by show 8*(mass y1+mass y2)+2 < N;omega,?_⟩
  simp only [ZbT,e]
  exact V1
 .rw [if_neg (by rw [hs];decide),Yo,Yz] at e
  refine ⟨⟨h1,h2,h3⟩,by show 8*(mass y1+mass y2)+2 < N;omega,?_⟩
  simp only [ZbT,e]
  exact V1
 .rw [if_neg (by rw [hs];decide),Yo,Yo] at e
  simp only [ZbT,e]
  exact V1
theorem Zgh{t:Tree}(h:rng t)(i:Int):rng (Zr t i):=by
 unfold Zr
 split
 .exact ⟨⟨V2,V2⟩,by simp,trivial⟩
 .obtain ⟨k,w,ks⟩:=t
  exact ZhX h.2.2 _
theorem Ze8{t:Tree}(h:rng t)(i:Int):0<=Zm t i/\Zm t i < 18446744073709551616:=by
 unfold Zm
 split
 .omega
 .obtain ⟨k,w,ks⟩:=t
  show 0<=w.getD i.toNat 0/\w.getD i.toNat 0 < _
  by_cases hi:i.toNat < w.length
  .exact h.2.1 _ (Zi hi 0)
  .rw [Q6,Qu V0]
   exact ⟨V2,V2⟩
theorem b39:ZI3:=by
 intro N a b d _ hp hN
 obtain ⟨h1,h2,h3⟩:=hp
 dsimp only at h1 h2 h3
 have hN:8*(mass a+mass b)+2 < N+1:=hN
 have l1:=Z27 a
 have l2:=Z27 b
 refine ZJ7 _ _ _ _ _ ?_
 obtain ⟨M,hM⟩:∃ M,M=max a.words.length b.words.length:=⟨_,rfl⟩
 obtain ⟨K,hK⟩:∃ K,K=max a.kids.length b.kids.length:=⟨_,rfl⟩
 have eM:(if (a.words.length:Int) < b.words.length then (b.words.length:Int) else a.words.length)=M:=V0
 have eK:(if (a.kids.length:Int) < b.kids.length then (b.kids.length:Int) else a.kids.length)=K:=V0
 refine Z8 (ι:=Int × List WEdit) (fun s=> Z6h a b d s.1 s.2) (fun s=> (0<=s.1/\s.1<=M)/\(s.2.length:Int)<=s.1/\Z0e a b M 0=s.2++Z0e a b ((M:Int) - s.1).toNat s.1) (fun s=> ((M:Int) - s.1).toNat) (0,[]) rfl ⟨⟨V0,V0⟩,by simp,by simp⟩ ?_
 rintro ⟨i,ws⟩ ⟨⟨f1,f2⟩,f3,f4⟩
 dsimp only at f1 f2 f3 f4
 refine Zyh _ _ _ _ _ _ _ _ ?_
 rintro y1 rfl y2 rfl y3 aj
 rw [eM]
 (simp only [iB,vcT,vcS])
 refine ⟨fun hi=> ?_,fun hi=> ?_⟩
 .rw [show ((M:Int) - i).toNat=((M:Int) - (i+1)).toNat+1 by omega,Z0e] at f4
  refine ⟨trivial,trivial,⟨Ze8 h2 _,Ze8 h3 _⟩,fun hu=> ?_,fun hu=> ?_⟩
  .rw [if_neg hu] at aj
   rw [if_neg hu,<-aj,<-Qb] at f4
   exact ⟨by simp;omega,V4,(i+1,ws++[y3]),rfl,⟨⟨V3,V3⟩,by simp;omega,f4⟩,V3⟩
  .rw [if_pos (Decidable.not_not.1 hu),Qn] at f4
   exact ⟨V4,(i+1,ws),rfl,⟨⟨V3,V3⟩,V3,f4⟩,V3⟩
 rw [show ((M:Int) - i).toNat=0 by omega,Z0e,Qh] at f4
 refine Z8 (ι:=Int × List Kid) (fun s=> Z6g y1 y2 d ws s.1 s.2) (fun s=> (0<=s.1/\s.1<=K)/\(s.2.length:Int)<=s.1/\Z0a (Z18 d) y1 y2 K 0=s.2++Z0a (Z18 d) y1 y2 ((K:Int) - s.1).toNat s.1) (fun s=> ((K:Int) - s.1).toNat) (0,[]) rfl ⟨⟨V0,V0⟩,by simp,by simp⟩ ?_
 rintro ⟨j,ks⟩ ⟨⟨g1,g2⟩,g3,g4⟩
 dsimp only at g1 g2 g3 g4
 refine Zyg _ _ _ _ _ _ _ _ _ ?_
 rintro z1 rfl z2 rfl z3 ai z4 ah z5 af
 rw [eK]
 (simp only [iB,vcT,vcS])
 refine ⟨fun hj=> ?_,fun hj=> ?_⟩
 .rw [show ((K:Int) - j).toNat=((K:Int) - (j+1)).toNat+1 by omega,Z0a,<-ai,<-ah,<-af] at g4
  have hm:=Z6V (a:=z1) (b:=z2) g1 V0
  rw [<-ai,<-ah] at hm
  refine ⟨trivial,trivial,⟨V3,by rw [ai];exact Zgh h2 _,by rw [ah];exact Zgh h3 _⟩,by show 8*(mass z3+mass z4)+3 < N;omega,fun hu=> ?_,fun hu=> ?_⟩
  .rw [<-af] at hu
   rw [if_neg hu,<-Qb] at g4
   exact ⟨by simp;omega,V4,(j+1,ks++[⟨j,z5⟩]),rfl,⟨⟨V3,V3⟩,by simp;omega,g4⟩,V3⟩
  .rw [<-af] at hu
   rw [if_pos hu,Qn] at g4
   exact ⟨V4,(j+1,ks),rfl,⟨⟨V3,V3⟩,V3,g4⟩,V3⟩
 .rw [show ((K:Int) - j).toNat=0 by omega,Z0a,Qh] at g4
  have e:Jy (Z18 d) z1 z2= .mk 2 Tree.nil Tree.nil ws ks 0 []:=by rw [Jy,<-hM,<-hK,f4,g4]
  simp only [Zka,e]
  exact V1
theorem ZuH(known l:List Tree):Z6 (ofF known l).1<=Z6 known+Z6 l:=by
 have:∀ (l:List Tree) (s:List Tree × List Int),Z6 (l.foldl ofS s).1<=Z6 s.1+Z6 l:=by
  intro l
  induction l with
  | nil=> intro s;simp
  | cons t r ih=>
   intro s
   rw [X8]
   have d:=ih (ofS s t)
   have h2:Z6 (ofS s t).1<=Z6 s.1+mass t:=by
    unfold ofS
    split
    .rw [Z46,Z6,Z6];omega
    .dsimp only;omega
   rw [Z6]
   omega
 exact this l (known,[])
theorem b41:ZI2:=by
 intro N a b d _ hp hN
 obtain ⟨h1,h2,h3⟩:=hp
 dsimp only at h1 h2 h3
 have hN:8*(mass a+mass b)+2 < N+1:=hN
 have l1:=Z27 a
 have l2:=Z27 b
 have m1:=Jt a
 have m2:=Jt b
 have m3:=ZuH [] a.kids
 have m4:=Z6K [] a.kids
 have m5:=Z6K (ofF [] a.kids).1 b.kids
 rw [show Z6 []=0 from rfl] at m3
 have hf:=Zmc a b d V0 V0
 refine ZJ5 _ _ _ _ _ ?_
 rintro y1 rfl y2 rfl y3 rfl y4 ak y5 ab
 (simp only [iB,vcT,vcS])
 refine ⟨by show Z6 []+Z6 y1.kids<=_;rw [show Z6 []=0 from rfl];omega,by show Z6 (ofF [] y1.kids).1+Z6 y2.kids<=_;omega,⟨V3,V3⟩,fun hd=> ?_,fun hd=> ?_⟩
 .have e:Z1g y1 y2 d=y4:=by
   unfold Z1g
   rw [<-ab,if_neg (by rw [hd];decide),ak]
  rw [e] at hf
  refine ⟨by show List.length _<=_;simp,⟨⟨h1,h2,h3⟩,hf⟩,by show 8*(mass y1+mass y2)+1 < N;omega,?_⟩
  simp only [Zgw,Z2k,e]
  exact V1
 .have e:Z1g y1 y2 d=y5.1:=by
   unfold Z1g
   rw [<-ab,if_pos hd]
  rw [e] at hf
  refine ⟨⟨⟨h1,h2,h3⟩,hf⟩,by show 8*(mass y1+mass y2)+1 < N;omega,?_⟩
  simp only [Zgw,Z2k,e]
  exact V1
theorem Z01(k:Int)(l:List Tree):(ZT k l).length<=1:=by unfold ZT;split <;> simp
theorem Zez(f:Tree->Tree->Op)(old now:List Tree):∀ (l:List Two) (i j:Int),(Jr f old now l i j).length<=3*l.length+2
 | [],i,j=> by have:=Z01 1 (old.drop i.toNat);have:=Z01 2 (now.drop j.toNat);simp only [Jr,Q8,Qr];omega
 | p ::r,i,j=> by
  have:=Zez f old now r (p.i+1) (p.j+1)
  have:=Z01 1 (ZfN old i p.i)
  have:=Z01 2 (ZfN now j p.j)
  simp only [Jr,Q8,Qd]
  omega
theorem Z5Y{n m:Int}:∀ {l:List Two} {i j:Int},Z7f l i j n m->(l.length:Int)<=n - i
 | [],i,j,h=> by have:=h.1;simp;omega
 | p ::r,i,j,h=> by have:=Z5Y h.2.2;have:=h.1;simp only [Qd];omega
theorem Zwg(f:Tree->Tree->Op)(old now:List Tree):(Z3O f old now).length<=3*old.length+2:=by
 have h1:=Zez f old now (Z07 (ZI old now)) 0 0
 have d:=Z5Y (ZcZ old now).2
 unfold Z3O
 omega
theorem ZCE{gap:List Tree->List Tree->List Op}{s:SStep}(h:s.kind=0)(r:List SStep)(old now:List Tree):YM gap (s ::r) old now=⟨0,s.n,[],Edit.nil⟩ ::YM gap r (old.drop s.n.toNat) (now.drop s.n.toNat):=by
 cases r with
 | nil=> rw [Z0J,if_pos h,YM]
 | cons t r=> rw [JY,if_pos h]
theorem ZCC{gap:List Tree->List Tree->List Op}{s:SStep}(h:s.kind=2)(r:List SStep)(old now:List Tree):YM gap (s ::r) old now=ZT 2 (now.take s.n.toNat)++YM gap r old (now.drop s.n.toNat):=by
 cases r with
 | nil=> rw [Z0J,Yo,if_pos h,YM]
 | cons t r=> rw [JY,Yo,if_pos h]
theorem Zz1{gap:List Tree->List Tree->List Op}{s t:SStep}(h:s.kind=1)(ht:t.kind=2)(r:List SStep)(old now:List Tree):YM gap (s ::t ::r) old now=gap (old.take s.n.toNat) (now.take t.n.toNat)++YM gap r (old.drop s.n.toNat) (now.drop t.n.toNat):=by
 rw [JY,Yo,Yo,if_pos ht]
theorem ZCD{gap:List Tree->List Tree->List Op}{s:SStep}(h:s.kind=1)(r:List SStep)(hr:∀ t r',r=t ::r'->t.kind≠2)(old now:List Tree):YM gap (s ::r) old now=ZT 1 (old.take s.n.toNat)++YM gap r (old.drop s.n.toNat) now:=by
 cases r with
 | nil=> rw [Z0J,Yo,Yo,YM,Qh]
 | cons t r=> rw [JY,Yo,Yo,if_neg (hr t r rfl)]
theorem Zgm{ks:List Tree}(h:Yd ks)(n:Nat):Yd (ks.take n):=Z6C fun _ d=> J2 h (QR d)
theorem b69:ZHV:=by
 intro N l a b ab _ hp hN
 obtain ⟨⟨h1,h2,h3⟩,h4⟩:=hp
 dsimp only at h1 h2 h3 h4
 have hN:8*(mass a+mass b)+1 < N+1:=hN
 have l1:=Z27 a
 have l2:=Z27 b
 have m1:=Jt a
 have m2:=Jt b
 have a1:=Zd4 V0 V0 h4
 refine ZIG _ _ _ _ _ _ ?_
 refine Z8 (ι:=Int × List Tree × List Tree × List Op) (fun s=> Z2Z l a b ab s.2.1 s.2.2.1 s.1 s.2.2.2) (fun s=> (0<=s.1/\s.1<=l.length)/\(Z6 s.2.1<=Z6 a.kids/\Z6 s.2.2.1<=Z6 b.kids/\Yd s.2.1/\Yd s.2.2.1)/\ZcO (l.drop s.1.toNat) s.2.1.length s.2.2.1.length/\(s.2.2.2.length+5*(s.2.1.length+s.2.2.1.length)<=5*(a.kids.length+b.kids.length))/\
  YM (Z3O fun x y=> Z17 (Z18 ab x y)) l a.kids b.kids=s.2.2.2++YM (Z3O fun x y=> Z17 (Z18 ab x y)) (l.drop s.1.toNat) s.2.1 s.2.2.1) (fun s=> ((l.length:Int) - s.1).toNat) (0,a.kids,b.kids,[]) rfl ⟨⟨V0,V3⟩,⟨Nat.le_refl _,Nat.le_refl _,(ZhZ h2).2.2,(ZhZ h3).2.2⟩,by simpa using h4,by simp,by simp⟩ ?_
 rintro ⟨i,u,v,out⟩ ⟨⟨f1,f2⟩,⟨f3,f4,f5,f6⟩,f7,f8,f9⟩
 dsimp only at f1 f2 f3 f4 f5 f6 f7 f8 f9
 refine Zy1 _ _ _ _ _ _ _ _ _ _ _ ?_
 rintro d ax y2 au
 (simp only [iB,vcT,vcS])
 refine ⟨fun hi=> ?_,fun hi=> ?_⟩
 .rw [Jj f1 hi (SStep.mk 0 0),<-ax] at f7 f9
  have fd:=fun (n:Int) (h0:0<=n) (w:List Tree) (h:n<=w.length)=> (show ((w.drop n.toNat).length:Int)=w.length - n by rw [Qx];omega)
  obtain ⟨n1,f7⟩:=f7
  refine ⟨⟨f1,hi⟩,⟨f1,hi⟩,fun hk=> ?_,fun hk=> ⟨⟨f1,hi⟩,fun ar=> ?_,fun ar=> ?_⟩⟩
  .have f7:d.n<=u.length/\d.n<=v.length/\ZcO (l.drop (i+1).toNat) (u.length - d.n) (v.length - d.n):=by
    rcases f7 with ⟨_,h⟩ | ⟨h,_⟩ | ⟨h,_⟩
    .exact h
    .omega
    .omega
   obtain ⟨q1,q2,q3⟩:=f7
   rw [ZCE hk] at f9
   have d1:=fd d.n V0 u q1
   have d2:=fd d.n V0 v q2
   rw [<-d1,<-d2] at q3
   refine ⟨by simp;omega,⟨V0,q1⟩,⟨V0,q2⟩,V4,(i+1,_,_,_),rfl,⟨⟨V3,V3⟩,⟨Nat.le_trans (J4 _ _) f3,Nat.le_trans (J4 _ _) f4,Jb f5 _,Jb f6 _⟩,q3,by simp only [List.length_append,List.length_singleton];omega,?_⟩,V3⟩
   rw [f9,Qb]
   try rfl
  .have f7:d.n<=v.length/\ZcO (l.drop (i+1).toNat) u.length (v.length - d.n):=by
    rcases f7 with ⟨h,_⟩ | ⟨h,_⟩ | ⟨_,h⟩
    .omega
    .omega
    .exact h
   obtain ⟨q1,q3⟩:=f7
   rw [ZCC ar] at f9
   have d1:=fd d.n V0 v q1
   rw [<-d1] at q3
   have hs:=Z01 2 (v.take d.n.toNat)
   refine ⟨⟨V0,q1⟩,trivial,V0,⟨V0,q1⟩,V4,(i+1,u,_,_),rfl,⟨⟨V3,V3⟩,⟨f3,Nat.le_trans (J4 _ _) f4,f5,Jb f6 _⟩,q3,by simp only [List.length_append];omega,?_⟩,V3⟩
   rw [f9,Qb]
  .have f7:d.kind=1/\d.n<=u.length/\ZcO (l.drop (i+1).toNat) (u.length - d.n) v.length:=by
    rcases f7 with ⟨h,_⟩ | h | ⟨h,_⟩
    .omega
    .exact h
    .omega
   obtain ⟨k1,q1,q3⟩:=f7
   have d1:=fd d.n V0 u q1
   refine ⟨V4,fun _=> by unfold InR;omega,fun h=> ⟨V0,h⟩,fun h=> ?_,fun h=> ?_⟩
   .obtain ⟨ah,k2⟩:=h
    rw [Jj V0 ah (SStep.mk 0 0),<-au] at f9 q3
    obtain ⟨n2,q3⟩:=q3
    have q3:y2.n<=v.length/\ZcO (l.drop (i+1+1).toNat) (u.length - d.n) (v.length - y2.n):=by
     rcases q3 with ⟨h,_⟩ | ⟨h,_⟩ | ⟨_,h⟩
     .omega
     .omega
     .exact h
    obtain ⟨q2,q3⟩:=q3
    have d2:=fd y2.n V0 v q2
    rw [<-d1,<-d2] at q3
    rw [Zz1 k1 k2] at f9
    have hg:=Zwg (fun x y=> Z17 (Z18 ab x y)) (u.take d.n.toNat) (v.take y2.n.toNat)
    rw [Qq] at hg
    have e1:=Z4Z d.n.toNat u
    have e2:=Z4Z y2.n.toNat v
    refine ⟨V4,⟨V0,ah⟩,⟨V0,q1⟩,⟨V0,q2⟩,⟨V3,Zgm f5 _,Zgm f6 _⟩,by show 8*(Z6 (u.take d.n.toNat)+Z6 (v.take y2.n.toNat))+4 < N;omega,V0,⟨V0,q1⟩,⟨V0,q2⟩,V4,V4,(i+1+1,_,_,_),rfl,⟨⟨V3,V3⟩,⟨Nat.le_trans (J4 _ _) f3,Nat.le_trans (J4 _ _) f4,Jb f5 _,Jb f6 _⟩,q3,by simp only [List.length_append];omega,?_⟩,V3⟩
    rw [f9,Qb]
   .rw [ZCD k1 _ (fun t r' ht=> ?_)] at f9
    .rw [<-d1] at q3
     have hs:=Z01 1 (u.take d.n.toNat)
     refine ⟨⟨V0,q1⟩,trivial,V0,⟨V0,q1⟩,V4,(i+1,_,v,_),rfl,⟨⟨V3,V3⟩,⟨Nat.le_trans (J4 _ _) f3,f4,Jb f5 _,f6⟩,q3,by simp only [List.length_append];omega,?_⟩,V3⟩
     rw [f9,Qb]
    .by_cases ah:i+1 < l.length
     .rw [Jj V0 ah (SStep.mk 0 0),<-au] at ht
      cases ht
      omega
     .rw [Qe V0] at ht
      cases ht
 .rw [Qe V0,YM,Qh] at f9
  simp only [Zk8,f9]
  exact V1
theorem ZjO(old now:List Tree)(i:Nat)(hi:i < old.length):ZI (old.take (i+1)) now=ZI (old.take i) now++[now.map (JQ (old.getD i Tree.nil))]:=by
 unfold ZI
 rw [List.take_add_one,X7,Q6,Q0 hi]
 try rfl
theorem b87:ZHU:=by
 intro N list old now d _ hp hN
 obtain ⟨h1,h2,h3⟩:=hp
 dsimp only at h1 h2 h3
 have hN:8*(Z6 old+Z6 now)+4 < N+1:=hN
 have l1:=Z2C old
 have l2:=Z2C now
 refine ZIt _ _ _ _ _ _ ?_
 refine Z8 (ι:=Int × List (List Int)) (fun s=> Z9F list old now d s.1 s.2) (fun s=> (0<=s.1/\s.1<=old.length)/\s.2=ZI (old.take s.1.toNat) now) (fun s=> ((old.length:Int) - s.1).toNat) (0,[]) rfl ⟨⟨V0,V0⟩,by simp [ZI]⟩ ?_
 rintro ⟨i,sc⟩ ⟨⟨f1,f2⟩,f3⟩
 dsimp only at f1 f2 f3
 refine ZxR _ _ _ _ _ _ _ _ _ ?_
 (simp only [iB,vcT,vcS])
 refine ⟨fun hi=> ⟨⟨f1,hi⟩,?_⟩,fun hi=> ?_⟩
 .have q1:=Y3 (Zi (l:=old) (i:=i.toNat) V0 Tree.nil)
  refine Z8 (ι:=Int × List Int) (fun s=> Z9E list old now d i sc s.1 s.2) (fun s=> (0<=s.1/\s.1<=now.length)/\s.2=(now.take s.1.toNat).map (JQ (old.getD i.toNat Tree.nil))) (fun s=> ((now.length:Int) - s.1).toNat) (0,[]) rfl ⟨⟨V0,V0⟩,by simp⟩ ?_
  rintro ⟨j,aj⟩ ⟨⟨g1,g2⟩,g3⟩
  dsimp only at g1 g2 g3
  refine ZxQ _ _ _ _ _ _ _ _ _ _ _ _ ?_
  simp only [Tree.eta]
  (simp only [iB,vcT,vcS])
  have hr:aj.length<=now.length:=by rw [g3];simp;omega
  refine ⟨fun hj=> ?_,fun hj=> ?_⟩
  .have q2:=Y3 (Zi (l:=now) (i:=j.toNat) V0 Tree.nil)
   refine ⟨⟨g1,hj⟩,⟨V3,V3⟩,by simp;omega,V4,(j+1,_),rfl,⟨⟨V3,V3⟩,?_⟩,V3⟩
   dsimp only
   rw [ZBe g1 hj Tree.nil,X7,<-g3]
   try rfl
  .have e:aj=now.map (JQ (old.getD i.toNat Tree.nil)):=by rw [g3,Qs V0]
   have hs:sc.length<=old.length:=by rw [f3];simp [ZI];omega
   refine ⟨by simp;omega,V4,(i+1,_),rfl,⟨⟨V3,V3⟩,?_⟩,V3⟩
   dsimp only
   rw [show (i+1).toNat=i.toNat+1 by omega,ZjO old now i.toNat V0,f3,e]
 have e:sc=ZI old now:=by rw [f3,Qs V0]
 subst e
 obtain ⟨w1,w2⟩:=ZcZ old now
 have w3:=Z5Y w2
 refine ⟨⟨by simp [ZI];omega,fun l hl=> by simp only [ZI,Xo] at hl;obtain ⟨x,_,rfl⟩:=hl;simp;omega⟩,?_⟩
 refine Z8 (ι:=Int × Int × Int × List Op) (fun s=> Z9D list old now d (ZI old now) s.2.1 s.2.2.1 s.1 s.2.2.2) (fun s=> (0<=s.1/\s.1<=(Z07 (ZI old now)).length)/\(0<=s.2.1/\0<=s.2.2.1/\Z7f ((Z07 (ZI old now)).drop s.1.toNat) s.2.1 s.2.2.1 old.length now.length)/\(s.2.2.2.length:Int)<=3*s.1/\
  Z3O (fun x y=> Z17 (Z18 d x y)) old now=s.2.2.2++Jr (fun x y=> Z17 (Z18 d x y)) old now ((Z07 (ZI old now)).drop s.1.toNat) s.2.1 s.2.2.1) (fun s=> (((Z07 (ZI old now)).length:Int) - s.1).toNat) (0,0,0,[]) rfl ⟨⟨V0,V0⟩,⟨Xe 0,Xe 0,by simpa using w2⟩,by simp,by simp [Z3O]⟩ ?_
 rintro ⟨k,i,j,out⟩ ⟨⟨g1,g2⟩,⟨g3,g4,g5⟩,g6,g7⟩
 dsimp only at g1 g2 g3 g4 g5 g6 g7
 refine ZxP _ _ _ _ _ _ _ _ _ _ _ _ ?_
 rintro y1 ar y2 ai y3 ah y4 ay y5 aq y6 rfl y7 rfl y8 au
 (simp only [iB,vcT,vcS])
 refine ⟨fun hk=> ?_,fun hk=> ?_⟩
 .rw [Jj g1 hk (Two.mk 0 0),<-ar] at g5 g7
  obtain ⟨⟨p1,p2⟩,⟨p3,p4⟩,g5⟩:=g5
  rw [Jr] at g7
  have q1:mass y7<=Z6 old:=by rw [ah];exact Y3 (Zi V0 Tree.nil)
  have q2:mass y6<=Z6 now:=by rw [ai];exact Y3 (Zi V0 Tree.nil)
  have q3:rng y7:=by rw [ah];exact J2 h2 (Zi V0 Tree.nil)
  have q4:rng y6:=by rw [ai];exact J2 h3 (Zi V0 Tree.nil)
  have s1:=Z01 1 y4
  have s2:=Z01 2 y5
  refine ⟨⟨g1,hk⟩,⟨g3,p1,V0⟩,trivial,V0,⟨g4,p3,V0⟩,trivial,by simp only [Q8];omega,⟨V0,p2⟩,⟨V0,p4⟩,⟨V3,q3,q4⟩,by show 8*(mass y7+mass y6)+3 < N;omega,by simp only [List.length_append,List.length_singleton];omega,V4,V4,V4,(k+1,y1.i+1,y1.j+1,_),rfl,⟨⟨V3,V3⟩,⟨V3,V3,g5⟩,by simp only [List.length_append,List.length_singleton];omega,?_⟩,V3⟩
  rw [g7]
  dsimp only
  rw [<-ai,<-ah,<-au,show ZfN old i y1.i=y4 from ay.symm,show ZfN now j y1.j=y5 from aq.symm]
  simp only [Qb,Qp,Qn]
  try rfl
 .rw [Qe V0] at g5 g7
  rw [Jr] at g7
  have s1:=Z01 1 (old.drop i.toNat)
  have s2:=Z01 2 (now.drop j.toNat)
  refine ⟨⟨g3,g5.1⟩,trivial,V0,⟨g4,g5.2⟩,trivial,by simp only [Q8];omega,?_⟩
  rw [<-Qb] at g7
  simp only [Zk6,g7]
  exact V1
theorem ZHB:Contract Tryz.prog cfg 21 ZaC/\Contract Tryz.prog cfg 39 Zte/\Contract Tryz.prog cfg 41 Ztd/\Contract Tryz.prog cfg 69 Zt6/\Contract Tryz.prog cfg 87 Zt5:=Zzd c38 c40 c63 c64 c65 c66 c67 c68 c86 c88 ZEU ZET b21 b39 b41 b69 b87
theorem c21:Contract Tryz.prog cfg 21 ZaC:=ZHB.1
end Go.AM.YtnfbomhidainjaaGreat
