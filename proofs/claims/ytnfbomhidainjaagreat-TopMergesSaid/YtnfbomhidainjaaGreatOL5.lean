import Derived.Test.YtnfbomhidainjaaGreatOD4
import Derived.Sort.AssemblyPlain
import Derived.Lib.BitFns
import Derived.Shelf.SlSortCmp.WholeK
import Derived.Shelf.SlicesG.Cmp
import Derived.Ground.SlsfProg
import Derived.Ground.SlgcProg
import Derived.Test.YtnfbomhidainjaaGreatTCL25k
set_option linter.unusedSimpArgs false
set_option linter.unusedVariables false
namespace Go.AM.YtnfbomhidainjaaGreat
open Go.AM Go.Proofs
noncomputable section
def Zpb(a:Tree×Tree×Unit):Prop:=mass a.1<=1000000/\mass a.2.1<=1000000
def ZwR(a:Tree×Tree×Unit):V U:=.c (ci (JE a.1 a.2.1))
def Zek:Fs U:=fs ZqY (λa=>[Zpb a]) ZwR
def Ztt:ArgL (Int×List Tree×Unit):=(.cons (ZR .i64) (.cons (aSl .tree) .nil))
def Zki(a:Int×List Tree×Unit):Prop:=True
def Zk8(a:Int×List Tree×Unit):V U:=.c (sU .op (ZW a.1 a.2.1) .unk)
def Z3B:Fs U:=fs Ztt (λa=>[Zki a]) Zk8
def ZmB(a:List Tree×Unit):Prop:=True
def ZEZ(a:List Tree×Unit):V U:=.c (sU .op (ZW 2 a.1) .unk)
def ZjH:Fs U:=fs ZA3 (λa=>[ZmB a]) ZEZ
def ZEY(a:List Tree×Unit):V U:=.c (sU .op (ZW 1 a.1) .unk)
def ZjG:Fs U:=fs ZA3 (λa=>[ZmB a]) ZEY
def ZqS:ArgM ((List Tree×Unit)×List Tree×Unit):=(.obj 0 (.cons (Z2B .tree 0 0) .nil) (.cons (aSl .tree) .nil))
def Zs0(a:(List Tree×Unit)×List Tree×Unit):Prop:=Z5 a.1.1+Z5 a.2.1<=10000000
def Zwq(a:(List Tree×Unit)×List Tree×Unit):V U:=.c (sU .int ((ofF a.1.1 a.2.1).2) .unk)
def ZoL(a:(List Tree×Unit)×List Tree×Unit):List (List (C U)):=[[sU .tree ((ofF a.1.1 a.2.1).1) (.own (.x 0 0))]]
def ZjK:Fs U:=fsX ZqS (λa=>[Zs0 a]) Zwq ZoL
def Zpf(a:Int×Unit):Prop:=(0<=a.1/\a.1<18446744073709551616)
def Z9S:Fs U:=fs ZzZ (λa=>[Zpf a]) Zwo
def ZzW:ArgL (Int×Int×Unit):=(.cons (ZR .u64) (.cons (ZR .u64) .nil))
def Zx9(a:Int×Int×Unit):Prop:=(0<=a.1/\a.1<18446744073709551616)/\(0<=a.2.1/\a.2.1<18446744073709551616)
def ZF2(a:Int×Int×Unit):V U:=.c (.int .u8 (Y7 a.1 a.2.1))
def Zf9:Fs U:=fs ZzW (λa=>[Zx9 a]) ZF2
def Zso:Za U:=lvl [([2,3],[2,3]),([2,3,22],[2,3]),([4],[]),([2,3,5],[2,3]),([2,3,5,29,30],[2,3]),([2,3,5,29,30,31],[2,3]),([2,3,5,6,29,30],[2,3]),([2,3,5,29,30,43],[2,3]),([2,3,5,29,30],[2,3]),([2,3,5,29,30],[2,3]),([2,3,5,53,54],[2,3]),([2,3,5,53,54,55],[2,3]),([2,3,5,7,53,54],[2,3]),([2,3,5,53,54,67],[2,3]),([2,3,5,53,54],[2,3]),([2,3,5,53,54],[2,3]),([4],[])]
def Z4X(a b:Tree)(x5 d:Int):LSt U:=(L2 [pL 2,pL 3,pI 5 x5,pI 29 (if((b.words.length:Int):Int)<(a.words.length:Int)then(b.words.length:Int)else(a.words.length:Int)),pI 30 d] [(.loc 2,(enc .tree a)),(.loc 3,(enc .tree b))])
def Z4W(a b:Tree)(aa d:Int):LSt U:=(L2 [pL 2,pL 3,pI 5 aa,pI 53 (if((b.kids.length:Int):Int)<(a.kids.length:Int)then(b.kids.length:Int)else(a.kids.length:Int)),pI 54 d] [(.loc 2,(enc .tree a)),(.loc 3,(enc .tree b))])
abbrev ZAZ(p:List Nat):=AW (Z2 ZcF) Tryz.f107 Zso p
abbrev ZEc(p:List Nat):=SW (Z2 ZcF) Tryz.f107 Zso p
theorem ZLj(a b:Tree)(Q:QT)(h:let z1:=a.kind !=b.kind;let z0:=bif z1 then true else(a.kind==0);((Tt (!z1))/\(Tt (!z1))/\(z1=false->(!z1)=true)/\(Tt (!z0))/\(Tt (!z0))/\(z0=false->(!z0)=true)/\(iB (bif z0 then true else(a.kind==10)) ((Q .ret (L2 [pI 4 0] []))) ((Zk (ZAZ [1,1,1,0,1,0,0]) (Z4X a b 1 0) (xB 0 (ZEc [1,1,1,1] Q))))))):ZAZ [] (L2 [(0,.agg (enc .tree a)),(1,.agg (enc .tree b))] []) Q:=(Eq.mpr V3 h:)
theorem ZvK(a b:Tree)(x5 d:Int)(N0:NT)(Q:QT)(h:(iB (decide (d<(if((b.words.length:Int):Int)<(a.words.length:Int)then(b.words.length:Int)else(a.words.length:Int)))) ((((0:Int)<=d/\d<(a.words.length:Int))/\((0:Int)<=d/\d<(b.words.length:Int))/\(iB (((a.words.getD d.toNat (0:Int)):Int)==(b.words.getD d.toNat (0:Int))) ((InR (x5+1))/\((InR (d+1))/\(N0 (Z4X a b (x5+1) (d+1))))) ((InR (d+1))/\(N0 (Z4X a b x5 (d+1))))))) ((Zk (ZAZ [1,1,1,1,0,1,0,0]) (Z4W a b x5 0) (xB 2 (ZEc [1,1,1,1,1] Q)))))):ZAZ [1,1,1,0,1,0,0] (Z4X a b x5 d) (xT N0 (xB 0 (ZEc [1,1,1,1] Q))):=(Eq.mpr V3 h:)
theorem ZvJ(a b:Tree)(aa d:Int)(N1:NT)(Q:QT)(h:∀af,af=(a.kids.getD d.toNat Tree.nil)->∀ah,ah=(b.kids.getD d.toNat Tree.nil)->∀ae,ae=af->∀ab,ab=ah->(iB (decide (d<(if((b.kids.length:Int):Int)<(a.kids.length:Int)then(b.kids.length:Int)else(a.kids.length:Int)))) ((((0:Int)<=d/\d<(a.kids.length:Int))/\((0:Int)<=d/\d<(b.kids.length:Int))/\(Z2J (ae,ab,()))/\(iB (ZN (Z0 ae) (Z0 ab)) ((InR (aa+1))/\((InR (d+1))/\(N1 (Z4W a b (aa+1) (d+1))))) ((InR (d+1))/\(N1 (Z4W a b aa (d+1))))))) ((Q .ret (L2 [pI 4 aa] []))))):ZAZ [1,1,1,1,0,1,0,0] (Z4W a b aa d) (xT N1 (xB 2 (ZEc [1,1,1,1,1] Q))):=(Eq.mpr V3 (h _ rfl _ rfl _ (Z3 _) _ (Z3 _)):)
abbrev ZED(a b:Tree):Prop:=AW (Z2 ZcF) Tryz.f107 Zso [] (Zg (ZqY.can (a,b,())) []) (EQ Tryz.f107 (ZwR (a,b,())) [])
theorem ZD6(c38:CT 38 Ys)(hb:∀(a:Tree)(b:Tree)(_:Unit),Zpb (a,b,())->ZED a b):CT 107 Zek:=Z1 (l:=[(38,Ys)]) Zf rfl (⟨c38,trivial⟩) Zso Tryz.func107 rfl rfl 2 (λ_=>rfl) V0 (λ⟨a,b,_⟩=>hb a b ())
def Zye:Za U:=lvl [([0,1],[]),([0,1,7],[]),([4],[]),([4],[])]
abbrev ZOp(p:List Nat):=AW (Z2 Zqj) Tryz.f106 Zye p
theorem ZLk(kind:Int)(l:List Tree)(Q:QT)(h:(iB (((l.length:Int):Int)==0) ((Q .ret (L2 [(4,.c (.nils))] []))) ((Q .ret (L2 [(4,.c (sU .op ([(OpOf.mk kind 0 l (Edit.mk 0 (Tree.mk 0 [] []) (Tree.mk 0 [] []) [] [] 0 []))]) .full))] []))))):ZOp [] (L2 [pI 0 kind,(1,.c (sU .tree l .unk))] []) Q:=(Eq.mpr V3 h:)
abbrev ZEE(kind:Int)(l:List Tree):Prop:=AW (Z2 Zqj) Tryz.f106 Zye [] (Zg (Ztt.can (kind,l,())) []) (EQ Tryz.f106 (Zk8 (kind,l,())) [])
theorem ZD7(hb:∀(kind:Int)(l:List Tree)(_:Unit),Zki (kind,l,())->ZEE kind l):CT 106 Z3B:=Z1 (l:=[]) Zf rfl trivial Zye Tryz.func106 rfl rfl 2 (λ_=>rfl) V0 (λ⟨kind,l,_⟩=>hb kind l ())
def ZyE:List (FuncId×Fs U):=[(106,Z3B)]
abbrev A86(p:List Nat):=AW (Z2 ZyE) Tryz.f86 ZI9 p
theorem ZMW(l:List Tree)(Q:QT)(h:((Zki (2,l,()))/\(Q .ret (L2 [(2,.c (sU .op (ZW 2 l) .unk))] [])))):A86 [] (L2 [(0,.c (sU .tree l .unk))] []) Q:=(Eq.mpr V3 h:)
abbrev ZJC(l:List Tree):Prop:=AW (Z2 ZyE) Tryz.f86 ZI9 [] (Zg (ZA3.can (l,())) []) (EQ Tryz.f86 (ZEZ (l,())) [])
theorem ZGM(Zv4:CT 106 Z3B)(hb:∀(l:List Tree)(_:Unit),ZmB (l,())->ZJC l):CT 86 ZjH:=Z1 (l:=[(106,Z3B)]) Zf rfl (⟨Zv4,trivial⟩) ZI9 Tryz.func86 rfl rfl 1 (λ_=>rfl) V0 (λ⟨l,_⟩=>hb l ())
abbrev A88(p:List Nat):=AW (Z2 ZyE) Tryz.f88 ZI9 p
theorem ZMU(l:List Tree)(Q:QT)(h:((Zki (1,l,()))/\(Q .ret (L2 [(2,.c (sU .op (ZW 1 l) .unk))] [])))):A88 [] (L2 [(0,.c (sU .tree l .unk))] []) Q:=(Eq.mpr V3 h:)
abbrev ZJA(l:List Tree):Prop:=AW (Z2 ZyE) Tryz.f88 ZI9 [] (Zg (ZA3.can (l,())) []) (EQ Tryz.f88 (ZEY (l,())) [])
theorem ZGL(Zv4:CT 106 Z3B)(hb:∀(l:List Tree)(_:Unit),ZmB (l,())->ZJA l):CT 88 ZjG:=Z1 (l:=[(106,Z3B)]) Zf rfl (⟨Zv4,trivial⟩) ZI9 Tryz.func88 rfl rfl 1 (λ_=>rfl) V0 (λ⟨l,_⟩=>hb l ())
def ZDo:Za U:=lvk [([0,1],[((.x 0),[])]),([0,1,5],[((.x 0),[])]),([0,(5,[.own .int]),10,11,12],[((.x 0),[])]),([0,5,10,11,12,13],[((.x 0),[])]),([0,5,7,10,11,12],[7,((.x 0),[])]),([0,5,7,10,11,12,(19,[.unk .tree]),20,21],[7,((.x 0),[])]),([0,5,7,10,11,12,(19,[.unk .tree]),20,21,22],[7,((.x 0),[])]),([0,5,7,8,9,10,11,12,(19,[.unk .tree]),20,21],[7,9,((.x 0),[])]),([0,5,7,8,10,11,12,(19,[.unk .tree]),20,21,28],[7,((.x 0),[])]),([0,5,10,11,12],[((.x 0),[])]),([0,5,7,10,11,12,(19,[.unk .tree]),20,21],[7,((.x 0),[])]),([0,5,7,10,11,12],[7,((.x 0),[])]),([0,5,10,11,12],[((.x 0),[])]),([0,(5,[.own .int]),10,11,12],[((.x 0),[])]),([4],[((.x 0),[])])]
def Z70(known l:List Tree)(d:Int)(mx0_0:List Tree)(x5:List Int):LSt U:=(L2 [(0,.ptr (.x 0) 0),(5,.c (sU .int x5 (.own (.e 5 0)))),(10,.c (sU .tree l .unk)),pI 11 (l.length:Int),pI 12 d] [(.x 0,[sU .tree mx0_0 (.own (.x 0 0))])])
def ZaW(known l:List Tree)(aa:Int)(mx0_0:List Tree)(x5:List Int)(d:Int):LSt U:=(L2 [(0,.ptr (.x 0) 0),(5,.c (sU .int x5 (.own (.e 5 0)))),pL 7,(10,.c (sU .tree l .unk)),pI 11 (l.length:Int),pI 12 aa,(19,.c (sU .tree mx0_0 .unk)),pI 20 (mx0_0.length:Int),pI 21 d] [(.loc 7,(enc .tree (l.getD aa.toNat Tree.nil))),(.x 0,[sU .tree mx0_0 (.own (.x 0 0))])])
abbrev A66(p:List Nat):=AW (Z2 ZcF) Tryz.f66 ZDo p
abbrev S66(p:List Nat):=SW (Z2 ZcF) Tryz.f66 ZDo p
theorem ZNe(known l:List Tree)(Q:QT)(h:(Zk (A66 [1,0,1,1,0,1,0,0]) (Z70 known l 0 known []) (xB 0 (S66 [1,0,1,1,1] Q)))):A66 [] (L2 [(0,.ptr (.x 0) 0),(1,.c (sU .tree l .unk))] [(.x 0,[sU .tree known (.own (.x 0 0))])]) Q:=(Eq.mpr V3 h:)
theorem ZBo(known l:List Tree)(d:Int)(mx0_0:List Tree)(x5:List Int)(N0:NT)(Q:QT)(h:(iB (decide (d<(l.length:Int))) (((0:Int)<=d/\d<(l.length:Int))/\(Zk (A66 [1,0,1,1,0,1,0,0,1,1,0,0,1,0,1,0,0]) (ZaW known l d mx0_0 x5 0) (xB 2 (S66 [1,0,1,1,0,1,0,0,1,1,0,0,1,1] (xB 1 (S66 [1,0,1,1,0,1,0,0,1,1,1] (xT N0 (xB 0 (S66 [1,0,1,1,1] Q))))))))) ((Q .ret (L2 [(4,.c (sU .int x5 (.own (.e 4 0))))] [(.x 0,[sU .tree mx0_0 (.own (.x 0 0))])]))))):A66 [1,0,1,1,0,1,0,0] (Z70 known l d mx0_0 x5) (xT N0 (xB 0 (S66 [1,0,1,1,1] Q))):=(Eq.mpr V3 h:)
theorem ZBn(known l:List Tree)(aa:Int)(mx0_0:List Tree)(x5:List Int)(d:Int)(N1 N0:NT)(Q:QT)(h:∀ah,ah=(l.getD aa.toNat Tree.nil)->∀ai,ai=(mx0_0.getD d.toNat Tree.nil)->∀ab,ab=ah->∀ae,ae=ai->(iB (decide (d<(mx0_0.length:Int))) (((0:Int)<=d/\d<(mx0_0.length:Int))/\((Z2J (ae,ab,()))/\(iB (ZN (Z0 ae) (Z0 ab)) (((x5.length+([d]).length)*8<=140737488355328)/\((InR (aa+1))/\(N0 (Z70 known l (aa+1) mx0_0 (x5++([d])))))) ((InR (d+1))/\(N1 (ZaW known l aa mx0_0 x5 (d+1))))))) (((x5.length+([(mx0_0.length:Int)]).length)*8<=140737488355328)/\(((mx0_0.length+([(Tree.mk 0 [] [])]).length)*56<=140737488355328)/\((0:Int)<=(mx0_0.length:Int)/\(mx0_0.length:Int)<((mx0_0++([(Tree.mk 0 [] [])])).length:Int))/\(mx0_0.length<=(Int.toNat (mx0_0.length:Int)))/\((InR (aa+1))/\(N0 (Z70 known l (aa+1) (List.set (mx0_0++([(Tree.mk 0 [] [])])) (Int.toNat (mx0_0.length:Int)) ab) (x5++([(mx0_0.length:Int)]))))))))):A66 [1,0,1,1,0,1,0,0,1,1,0,0,1,0,1,0,0] (ZaW known l aa mx0_0 x5 d) (xT N1 (xB 2 (S66 [1,0,1,1,0,1,0,0,1,1,0,0,1,1] (xB 1 (S66 [1,0,1,1,0,1,0,0,1,1,1] (xT N0 (xB 0 (S66 [1,0,1,1,1] Q)))))))):=(Eq.mpr V3 (h _ rfl _ rfl _ (Z3 _) _ (Z3 _)):)
abbrev ZJU(known l:List Tree):Prop:=AW (Z2 ZcF) Tryz.f66 ZDo [] (Zg (ZqS.can ((known,()),l,())) (ZqS.canX ((known,()),l,()))) (EQ Tryz.f66 (Zwq ((known,()),l,())) (ZoL ((known,()),l,())))
theorem ZH3(c38:CT 38 Ys)(hb:∀(d:List Tree)(l:List Tree)(_:Unit),Zs0 ((d,()),l,())->ZJU d l):CT 66 ZjK:=Y9 (l:=[(38,Ys)]) Zf rfl (⟨c38,trivial⟩) ZDo Tryz.func66 rfl rfl 2 (λ_=>rfl) V0 (λ⟨⟨d,_⟩,l,_⟩=>hb d l ())
def Zsr:Za U:=lvl [([0,2],[2]),([0,2,3],[2,3]),([0,2,3,5],[2,3]),([0,2,3,5,6],[2,3]),([0,2,3,4,5],[2,3]),([0,2,3,5],[2,3]),([0,2,3,5],[2,3]),([2],[2])]
def Z4Z(w x5 aa ab ai ae aj ah d af:Int):LSt U:=(L2 [(0,.c (.int .u64 w)),pL 2,pL 3,pI 5 x5] [(.loc 2,zc0),(.loc 3,(zi8 [aa,ab,ai,ae,aj,ah,d,af]))])
abbrev ZKT(p:List Nat):=AW (Z2 Zqj) Tryz.f101 Zsr p
abbrev ZMc(p:List Nat):=SW (Z2 Zqj) Tryz.f101 Zsr p
theorem ZLp(w:Int)(Q:QT)(h:(Zk (ZKT [1,1,0,1,0,0]) (Z4Z w 0 0 0 0 0 0 0 0 0) (xB 0 (ZMc [1,1,1] Q)))):ZKT [] (L2 [(0,.c (.int .u64 w))] []) Q:=(Eq.mpr V3 h:)
theorem ZvN(w d ab ae aj af ak ai aa ah:Int)(N0:NT)(Q:QT)(h:let z0:=IntKind.wrap .u8 (Int.fdiv w (2^(min (Int.toNat ((8:Int)*d)) (IntKind.bits .u64))));(iB (decide (d<8)) (((InR ((8:Int)*d))/\((0:Int)<=((8:Int)*d))/\((0:Int)<=d/\d<((8:Nat):Int))/\((InR (d+1))/\(N0 (Z4Z w (d+1) (Yv d 0 z0 ab) (Yv d 1 z0 ae) (Yv d 2 z0 aj) (Yv d 3 z0 af) (Yv d 4 z0 ak) (Yv d 5 z0 ai) (Yv d 6 z0 aa) (Yv d 7 z0 ah)))))) ((Q .ret (L2 [pL 2] [(.loc 2,(zi8 [ab,ae,aj,af,ak,ai,aa,ah]))]))))):ZKT [1,1,0,1,0,0] (Z4Z w d ab ae aj af ak ai aa ah) (xT N0 (xB 0 (ZMc [1,1,1] Q))):=(Eq.mpr V3 h:)
abbrev ZEJ(w:Int):Prop:=AW (Z2 Zqj) Tryz.f101 Zsr [] (Zg (ZzZ.can (w,())) []) (EQ Tryz.f101 (Zwo (w,())) [])
theorem ZDc(hb:∀(w:Int)(_:Unit),Zpf (w,())->ZEJ w):CT 101 Z9S:=Z1 (l:=[]) Zf rfl trivial Zsr Tryz.func101 rfl rfl 1 (λ_=>rfl) V0 (λ⟨w,_⟩=>hb w ())
def ZpX:List (FuncId×Fs U):=[(101,Z9S)]
def ZDi:Za U:=lvl [([0,1],[]),([0,1,5],[]),([5,11,12],[]),([5,11,12,13],[]),([5,6,7,11,12],[]),([5,6,11,12,17],[]),([5,11,12],[]),([5,11,12],[]),([4],[])]
def Z6Y(a b x5 d:Int):LSt U:=(L2 [(5,.c (.int .u8 x5)),(11,.agg (zb8 Zd (IntKind.wrap .u64 (BitVec.ofInt (IntKind.bits .u64) a^^^BitVec.ofInt (IntKind.bits .u64) b).toNat))),pI 12 d] [])
abbrev A81(p:List Nat):=AW (Z2 ZpX) Tryz.f81 ZDi p
abbrev S81(p:List Nat):=SW (Z2 ZpX) Tryz.f81 ZDi p
theorem ZN1(a b:Int)(Q:QT)(h:((Zpf ((IntKind.wrap .u64 (BitVec.ofInt (IntKind.bits .u64) a^^^BitVec.ofInt (IntKind.bits .u64) b).toNat),()))/\(Zk (A81 [1,1,0,1,0,0]) (Z6Y a b 0 0) (xB 0 (S81 [1,1,1] Q))))):A81 [] (L2 [(0,.c (.int .u64 a)),(1,.c (.int .u64 b))] []) Q:=(Eq.mpr V3 h:)
theorem ZBf(a b x5 d:Int)(N0:NT)(Q:QT)(h:∀aa,aa=(BitVec.ofInt (IntKind.bits .u64) a^^^BitVec.ofInt (IntKind.bits .u64) b)->let z1:=IntKind.bits .u8;let z0:=IntKind.wrap .u64 aa.toNat;(iB (decide (d<8)) (((0:Int)<=d/\d<((8:Nat):Int))/\(iB (((List.getD [Zd z0 0,Zd z0 1,Zd z0 2,Zd z0 3,Zd z0 4,Zd z0 5,Zd z0 6,Zd z0 7] d.toNat 0):Int)!=0) (((0:Int)<=d)/\((InR (d+1))/\(N0 (Z6Y a b (IntKind.wrap .u8 (BitVec.ofInt z1 x5|||BitVec.ofInt z1 (IntKind.wrap .u8 ((1:Int)*2^(min d.toNat z1)))).toNat) (d+1))))) ((InR (d+1))/\(N0 (Z6Y a b x5 (d+1)))))) ((Q .ret (L2 [(4,.c (.int .u8 x5))] []))))):A81 [1,1,0,1,0,0] (Z6Y a b x5 d) (xT N0 (xB 0 (S81 [1,1,1] Q))):=(Eq.mpr V3 (h _ rfl):)
abbrev ZJH(a b:Int):Prop:=AW (Z2 ZpX) Tryz.f81 ZDi [] (Zg (ZzW.can (a,b,())) []) (EQ Tryz.f81 (ZF2 (a,b,())) [])
theorem ZGR(ZJ5:CT 101 Z9S)(hb:∀(a:Int)(b:Int)(_:Unit),Zx9 (a,b,())->ZJH a b):CT 81 Zf9:=Z1 (l:=[(101,Z9S)]) Zf rfl (⟨ZJ5,trivial⟩) ZDi Tryz.func81 rfl rfl 2 (λ_=>rfl) V0 (λ⟨a,b,_⟩=>hb a b ())
end
theorem ZE2(a b:List Int)(i:Nat)(h1:i<a.length)(h2:i<b.length):Zl3 (a.drop i) (b.drop i)=(if a.getD i 0=b.getD i 0 then 1 else 0)+Zl3 (a.drop (i+1)) (b.drop (i+1)):=by rw[Z50 h1 0,Z50 h2 0,Zl3]
theorem Zzw(a b:List Int)(h:a=[]\/b=[]):Zl3 a b=0:=by rcases h with rfl|rfl<;>cases‹List Int›<;>rfl
theorem ZE1(a b:List Tree)(i:Nat)(h1:i<a.length)(h2:i<b.length):Zl2 (a.drop i) (b.drop i)=(if ZN (Z0 (a.getD i Tree.nil)) (Z0 (b.getD i Tree.nil))=true then 1 else 0)+Zl2 (a.drop (i+1)) (b.drop (i+1)):=by rw[Z50 h1 Tree.nil,Z50 h2 Tree.nil,Zl2]
theorem Zzv(a b:List Tree)(h:a=[]\/b=[]):Zl2 a b=0:=by rcases h with rfl|rfl<;>cases‹List Tree›<;>rfl
theorem Z2Y:∀l:List Tree,l.length<=Z5 l|[]=>by simp|x::r=>by have:=Zv x;have:=Z2Y r;simp only[Z5,Qa];omega
theorem YU(t:Tree):Z5 t.kids+t.words.length+1<=mass t:=by obtain⟨k,w,ks⟩:=t;simp only[mass];show Z5 ks+w.length+1<=_;omega
theorem Z2w(t:Tree):t.kids.length+t.words.length<mass t+1:=by have:=YU t;have:=Z2Y t.kids;omega
theorem ZJ1:Contract Tryz.prog cfg 107 Zek:=by
 refine ZD6 c38 ?_;intro a b _ hp;obtain⟨h1,h2⟩:=hp;dsimp only at h1 h2;have l1:=Z2w a;have l2:=Z2w b;refine ZLj _ _ _ ?_;(simp only[iB,vcT,vcS]);refine⟨λh=>ZJ rfl ?_,λh=>?_⟩;.simp only[JE];rw[Y3]
 have e0:JE a b=1+Zl3 a.words b.words+Zl2 a.kids b.kids:=by simp only[JE];rw[JH]
 refine Z6 (ι:=Int×Int) (λs=>Z4X a b s.1 s.2) (λs=>(0<=s.2/\s.2<=a.words.length/\s.2<=b.words.length)/\(0<=s.1/\s.1<=1+s.2)/\s.1+Zl3 (a.words.drop s.2.toNat) (b.words.drop s.2.toNat)=1+Zl3 a.words b.words) (λs=>((a.words.length:Int)-s.2).toNat) (1,0) rfl ⟨⟨Yp,Yp,Yp⟩,⟨Yp,Yp⟩,by simp⟩ ?_;rintro⟨n,i⟩⟨⟨f1,f2,f3⟩,f4,f5⟩;dsimp only at f1 f2 f3 f4 f5;refine ZvK _ _ _ _ _ _ ?_;rw[show(if(b.words.length:Int)<a.words.length then(b.words.length:Int)else a.words.length)=min (a.words.length:Int) b.words.length by omega];(simp only[iB,vcT,vcS]);refine⟨λhi=>?_,λhi=>?_⟩
 .rw[ZE2 _ _ _ Yp Yp,show i.toNat+1=(i+1).toNat by omega]at f5;refine⟨⟨f1,Yp⟩,⟨f1,Yp⟩,λd=>?_,λd=>?_⟩;.rw[if_pos d]at f5;exact⟨V2,V2,(n+1,i+1),rfl,⟨⟨V1,V1,V1⟩,⟨V1,V1⟩,V1⟩,V1⟩
  .rw[if_neg d]at f5;exact⟨V2,(n,i+1),rfl,⟨⟨V1,V1,V1⟩,⟨V1,V1⟩,V1⟩,V1⟩
 rw[Zzw _ _ (by rw[XG,XG];omega)]at f5;refine Z6 (ι:=Int×Int) (λs=>Z4W a b s.1 s.2) (λs=>(0<=s.2/\s.2<=a.kids.length/\s.2<=b.kids.length)/\(0<=s.1/\s.1<=n+s.2)/\s.1+Zl2 (a.kids.drop s.2.toNat) (b.kids.drop s.2.toNat)=n+Zl2 a.kids b.kids) (λs=>((a.kids.length:Int)-s.2).toNat) (n,0) rfl ⟨⟨Yp,Yp,Yp⟩,⟨Yp,Yp⟩,by simp⟩ ?_;rintro⟨m,j⟩⟨⟨g1,g2,g3⟩,g4,g5⟩;dsimp only at g1 g2 g3 g4 g5;refine ZvJ _ _ _ _ _ _ ?_;rw[show(if(b.kids.length:Int)<a.kids.length then(b.kids.length:Int)else a.kids.length)=min (a.kids.length:Int) b.kids.length by omega];rintro y1 rfl y2 rfl y3 rfl y4 rfl;(simp only[iB,vcT,vcS]);refine⟨λhi=>?_,λhi=>?_⟩
 .rw[ZE1 _ _ _ Yp Yp,show j.toNat+1=(j+1).toNat by omega]at g5;have q1:=ZS (Ze (l:=a.kids) (i:=j.toNat) Yp Tree.nil);have q2:=ZS (Ze (l:=b.kids) (i:=j.toNat) Yp Tree.nil);have q3:=YU a;have q4:=YU b;refine⟨⟨g1,Yp⟩,⟨g1,Yp⟩,⟨V1,V1⟩,λd=>?_,λd=>?_⟩;.rw[if_pos d]at g5;exact⟨V2,V2,(m+1,j+1),rfl,⟨⟨V1,V1,V1⟩,⟨V1,V1⟩,V1⟩,V1⟩
  .rw[if_neg (by rw[d];decide)]at g5;exact⟨V2,(m,j+1),rfl,⟨⟨V1,V1,V1⟩,⟨V1,V1⟩,V1⟩,V1⟩
 .rw[Zzv _ _ (by rw[XG,XG];omega)]at g5;exact ZJ rfl (by show _=JE a b;omega)
theorem Zv4:Contract Tryz.prog cfg 106 Z3B:=by
 refine ZD7 ?_;intro kind l _ _;refine ZLk _ _ _ ?_;(simp only[iB,vcT,vcS]);refine⟨λh=>?_,λh=>?_⟩
 .have e:ZW kind l=[]:=by simp only[ZW];rw[Y3]
  simp only[Zk8,e];exact YH
 .have e:ZW kind l=[⟨kind,0,l,Edit.nil⟩]:=by simp only[ZW];rw[JH]
  simp only[Zk8,e];exact YH
theorem c86:Contract Tryz.prog cfg 86 ZjH:=by refine ZGM Zv4 ?_;intro l _ _;refine ZMW _ _ ⟨trivial,?_⟩;exact YH
theorem c88:Contract Tryz.prog cfg 88 ZjG:=by refine ZGL Zv4 ?_;intro l _ _;refine ZMU _ _ ⟨trivial,?_⟩;exact YH
theorem Znw(t:Tree):∀l:List Tree,-1<=Z3v t l/\Z3v t l<l.length|[]=>by simp[Z3v]|q::r=>by have:=Znw t r;simp only[Z3v,Qa];grind
theorem c66:Contract Tryz.prog cfg 66 ZjK:=by
 refine ZH3 c38 ?_;intro d l _ hp;have hp:Z5 d+Z5 l<=10000000:=hp;have hl:=Z2Y l;refine ZNe _ _ _ ?_;refine Z6 (ι:=Int×List Tree×List Int) (λs=>Z70 d l s.1 s.2.1 s.2.2) (λs=>(0<=s.1/\s.1<=l.length)/\(Z5 s.2.1+Z5 (l.drop s.1.toNat)<=10000000/\(s.2.2.length:Int)=s.1)/\ofF d l=(l.drop s.1.toNat).foldl ofS s.2) (λs=>((l.length:Int)-s.1).toNat) (0,d,[]) rfl ⟨⟨Yp,Yp⟩,⟨by simpa using hp,rfl⟩,by simp[ofF]⟩ ?_;rintro⟨i,kn,out⟩⟨⟨f1,f2⟩,⟨f3,f4⟩,f5⟩;dsimp only at f1 f2 f3 f4 f5;have hk:=Z2Y kn;refine ZBo _ _ _ _ _ _ _ ?_;(simp only[iB,vcT,vcS]);refine⟨λhi=>⟨⟨f1,hi⟩,?_⟩,λhi=>?_⟩
 .rw[Yu f1 hi Tree.nil,QV]at f5;rw[Yu f1 hi Tree.nil,Z5]at f3;refine Z6 (ι:=Int) (λj=>ZaW d l i kn out j) (λj=>(0<=j/\j<=kn.length)/\Z3v (l.getD i.toNat Tree.nil) kn=if Z3v (l.getD i.toNat Tree.nil) (kn.drop j.toNat)=-1 then-1 else Z3v (l.getD i.toNat Tree.nil) (kn.drop j.toNat)+j) (λj=>((kn.length:Int)-j).toNat) 0 rfl ⟨⟨Yp,Yp⟩,by simp⟩ ?_;rintro j⟨⟨g1,g2⟩,g3⟩;refine ZBn _ _ _ _ _ _ _ _ _ ?_;rintro y1 rfl y2 rfl y3 rfl y4 rfl;(simp only[iB,vcT,vcS]);refine⟨λhj=>?_,λhj=>?_⟩
  .rw[Yu g1 hj Tree.nil,Z3v]at g3;have q:=ZS (Ze (l:=kn) (i:=j.toNat) Yp Tree.nil);refine⟨⟨g1,hj⟩,⟨V1,V1⟩,λhe=>?_,λhe=>?_⟩;.rw[if_pos he,if_neg V0]at g3;have e:Z3v (l.getD i.toNat Tree.nil) kn=j:=Yp;refine⟨by simp;omega,V2,(i+1,kn,out++[j]),rfl,⟨⟨V1,V1⟩,⟨V1,by simp;omega⟩,?_⟩,V1⟩;rw[f5,ofS,e,JH]
   .simp only[he,X9,if_false]at g3;have e:=Znw (l.getD i.toNat Tree.nil) (kn.drop (j+1).toNat);refine⟨V2,j+1,rfl,⟨⟨Yp,Yp⟩,?_⟩,Yp⟩;rw[g3];by_cases hA:Z3v (l.getD i.toNat Tree.nil) (kn.drop (j+1).toNat)=-1;.simp only[hA,if_true]
    .simp only[if_neg hA];rw[JH];omega
  .rw[Qb Yp]at g3;have e:Z3v (l.getD i.toNat Tree.nil) kn=-1:=g3;have e2:(kn++[Tree.mk 0 [] []]).set (Int.toNat (kn.length:Int)) (l.getD i.toNat Tree.nil)=kn++[l.getD i.toNat Tree.nil]:=by simp
   rw[e2];refine⟨by simp;omega,by simp;omega,⟨Yp,by simp;omega⟩,by simp,V2,(i+1,_,_),rfl,⟨⟨V1,V1⟩,⟨by dsimp only;rw[Z4A,Z5,Z5];omega,by simp;omega⟩,?_⟩,V1⟩;rw[f5,ofS,e,if_pos rfl]
 .rw[Qb Yp]at f5;have e:ofF d l=(kn,out):=f5;simp only[Zwq,ZoL,e];exact YH
theorem ZJ5:Contract Tryz.prog cfg 101 Z9S:=by
 refine ZDc ?_;intro w _ d;have d:0<=w/\w<18446744073709551616:=d;refine ZLp _ _ ?_;refine Z6 (ι:=Int) (λi=>Z4Z w i (if((0:Nat):Int)<i then Zd w 0 else 0) (if((1:Nat):Int)<i then Zd w 1 else 0) (if((2:Nat):Int)<i then Zd w 2 else 0) (if((3:Nat):Int)<i then Zd w 3 else 0) (if((4:Nat):Int)<i then Zd w 4 else 0) (if((5:Nat):Int)<i then Zd w 5 else 0) (if((6:Nat):Int)<i then Zd w 6 else 0) (if((7:Nat):Int)<i then Zd w 7 else 0)) (λi=>0<=i/\i<=8) (λi=>(8-i).toNat) 0 ?_ ⟨Yp,Yp⟩ ?_;.simp[Z4Z]
 rintro i⟨h1,h2⟩;refine ZvN _ _ _ _ _ _ _ _ _ _ _ _ ?_;(simp only[iB,vcT,vcS]);refine⟨λhc=>⟨V2,Yp,⟨h1,Yp⟩,V2,i+1,?_,⟨Yp,Yp⟩,Yp⟩,λhc=>?_⟩
 .have e2:IntKind.wrap .u8 (Int.fdiv w (2^(min (Int.toNat (8*i)) (IntKind.bits .u64))))=Zd w i.toNat:=by
   have e:min (Int.toNat (8*i)) (IntKind.bits .u64)=8*i.toNat:=by simp[IntKind.bits];omega
   rw[e,Int.fdiv_eq_ediv_of_nonneg _ (XP (Xp Yp)),Zd,show(256:Int)=2^8 by rfl,<-Int.pow_mul];simp[IntKind.wrap,IntKind.signed,IntKind.bits]
  have st:∀j:Nat,Yv i j (IntKind.wrap .u8 (Int.fdiv w (2^(min (Int.toNat (8*i)) (IntKind.bits .u64))))) (if(j:Int)<i then Zd w j else 0)=if(j:Int)<i+1 then Zd w j else 0:=λj=>Zlu (F:=Zd w) (G:=λ_=>0) h1 e2;grind
 .have:i=8:=Yp;subst this;simp only[Zwo];exact⟨⟨rfl,⟨⟨rfl,rfl⟩,⟨rfl,rfl⟩,⟨rfl,rfl⟩,⟨rfl,rfl⟩,⟨rfl,rfl⟩,⟨rfl,rfl⟩,⟨rfl,rfl⟩,⟨rfl,rfl⟩,trivial⟩,trivial⟩,trivial⟩
theorem ZGn:∀n:Fin 256,∀i:Fin 8,n.1<2^i.1->IntKind.wrap .u8 (BitVec.ofInt (IntKind.bits .u8) (n.1:Int)|||BitVec.ofInt (IntKind.bits .u8) (IntKind.wrap .u8 (1*2^(min (Int.toNat (i.1:Int)) (IntKind.bits .u8))))).toNat=(n.1:Int)+2^i.1:=by decide+kernel
theorem Zjw(x:Int):∀i:Nat,0<=Z8b x i/\Z8b x i<2^i
 |0=>by simp[Z8b]|i+1=>by
  have:=Zjw x i;have d:(2:Int)^(i+1)=2^i+2^i:=by rw[XO];omega
  have h3:(0:Int)<2^i:=Xp Yp;simp only[Z8b];split<;>omega
theorem Zh1(x:Int)(i:Nat)(h:i<8):[Zd x 0,Zd x 1,Zd x 2,Zd x 3,Zd x 4,Zd x 5,Zd x 6,Zd x 7].getD i 0=Zd x i:=by match i,h with|0,_=>rfl|1,_=>rfl|2,_=>rfl|3,_=>rfl|4,_=>rfl|5,_=>rfl|6,_=>rfl|7,_=>rfl
theorem c81:Contract Tryz.prog cfg 81 Zf9:=by
 refine ZGR ZJ5 ?_;intro a b _ hp;refine ZN1 _ _ _ ⟨?_,?_⟩
 .show(0:Int)<=_/\_;simp[IntKind.wrap,IntKind.signed,IntKind.bits];omega
 refine Z6 (ι:=Nat) (λi=>Z6Y a b (Z8b (ZeK a b) i) i) (λi=>i<=8) (λi=>8-i) 0 rfl Yp ?_;intro i hi;refine ZBf _ _ _ _ _ _ ?_;rintro y1 rfl;have e:IntKind.wrap .u64 (BitVec.ofInt (IntKind.bits .u64) a^^^BitVec.ofInt (IntKind.bits .u64) b).toNat=ZeK a b:=rfl;rw[e];(simp only[iB,vcT,vcS]);refine⟨λhc=>⟨⟨Yp,Yp⟩,λd=>?_,λd=>?_⟩,λhc=>?_⟩
 .rw[X3,Zh1 _ _ Yp]at d;have hu:=Zjw (ZeK a b) i;obtain⟨n,hn⟩:=QH hu.1;have h8:(2:Nat)^i<=2^8:=Nat.pow_le_pow_right Yp Yp;have h9:n<2^i:=by have:=hu.2;rw[hn]at this;exact_mod_cast this
  have h:=ZGn ⟨n,Yp⟩ ⟨i,Yp⟩ h9;refine⟨Yp,V2,i+1,?_,Yp,Yp⟩;simp only at h;rw[hn,h];have e2:Z8b (ZeK a b) (i+1)=(n:Int)+2^i:=by rw[Z8b,if_neg d,hn]
  rw[e2];try rfl
 .rw[X3,Zh1 _ _ Yp]at d;refine⟨V2,i+1,?_,Yp,Yp⟩;have e2:Z8b (ZeK a b) (i+1)=Z8b (ZeK a b) i:=by rw[Z8b,if_pos (by simpa using d)];omega
  rw[e2];try rfl
 .have:i=8:=Yp;subst this;exact YH
instance instTwo:Inhabited Two:=⟨⟨0,0⟩⟩
theorem ZfZ(l:List Three):(Z0m l).1.length=l.length-1:=by simp[Z0m,Z1q,Z83,YR]
noncomputable section
def ZjR(i:Int):List Int->Int->List Three->List Three|[],_,r=>r|n::l,j,r=>ZjR i l (j+1) (if(0<n/\i<16)/\j<16 then Zdl r ⟨⟨i,j⟩,n⟩else r)
def Z63:List (List Int)->Int->List Three->List Three|[],_,r=>r|l::t,i,r=>Z63 t (i+1) (ZjR i l 0 r)
def Z2I(r:List Three)(out:List Two):List Two:=if r.length=0 then out else Z2I (Z0m r).1 (if out.any (JX (Z0m r).2.p)=true then out else out++[(Z0m r).2.p])termination_by r.length decreasing_by rw[ZfZ];omega
def Zhx(p q:Two):Int:=Z9h p.i q.i
def J5(l:List Two):List Two:=(Go.Sort.pdq (λp q=>decide (Zhx p q<0)) l.toArray 0 l.toArray.size (Go.Lib.bitLen l.toArray.size) true true).toList
def Z0f(l:List (List Int)):List Two:=J5 (Z2I (Z63 l 0 []) [])
def Z0o(a b:Tree):Nat->Int->List WEdit|0,_=>[]|n+1,i=>(if Y7 (Zs a i) (Zs b i)=0 then[]else[Z3w i (Zs a i) (Zs b i)])++Z0o a b n (i+1)
def Z0k(one:Tree->Tree->Edit)(a b:Tree):Nat->Int->List Kid|0,_=>[]|n+1,i=>(if(one (Zo a i) (Zo b i)).kind=0 then[]else[⟨i,one (Zo a i) (Zo b i)⟩])++Z0k one a b n (i+1)
def Jz(one:Tree->Tree->Edit)(a b:Tree):Edit:=.mk 2 Tree.nil Tree.nil (Z0o a b (max a.words.length b.words.length) 0) (Z0k one a b (max a.kids.length b.kids.length) 0) 0 []
def Zht(l:List Tree)(i j:Int):List Tree:=(l.take j.toNat).drop i.toNat
def YY(mk:Tree->Tree->Op)(old now:List Tree):List Two->Int->Int->List Op|[],i,j=>ZW 1 (old.drop i.toNat)++ZW 2 (now.drop j.toNat)|p::r,i,j=>(ZW 1 (Zht old i p.i)++ZW 2 (Zht now j p.j))++mk (old.getD p.i.toNat Tree.nil) (now.getD p.j.toNat Tree.nil)::YY mk old now r (p.i+1) (p.j+1)
def ZU(old now:List Tree):List (List Int):=old.map λx=>now.map (JE x)
def Z3k(mk:Tree->Tree->Op)(old now:List Tree):List Op:=YY mk old now (Z0f (ZU old now)) 0 0
def YM(gap:List Tree->List Tree->List Op):List SStep->List Tree->List Tree->List Op|[],_,_=>[]|s::r,old,now=>if s.kind=0 then⟨0,s.n,[],Edit.nil⟩::YM gap r (old.drop s.n.toNat) (now.drop s.n.toNat)else if s.kind=2 then ZW 2 (now.take s.n.toNat)++YM gap r old (now.drop s.n.toNat)else match r with|[]=>ZW 1 (old.take s.n.toNat)|t::r'=>if t.kind=2 then gap (old.take s.n.toNat) (now.take t.n.toNat)++YM gap r' (old.drop s.n.toNat) (now.drop t.n.toNat)else ZW 1 (old.take s.n.toNat)++YM gap (t::r') (old.drop s.n.toNat) now
def Z1B(a b:Tree)(most:Int):List SStep:=if(Z65 (ofF [] a.kids).2 (ofF (ofF [] a.kids).1 b.kids).2 most).2=true then(Z65 (ofF [] a.kids).2 (ofF (ofF [] a.kids).1 b.kids).2 most).1 else Z61 [⟨1,a.kids.length⟩,⟨2,b.kids.length⟩]
def Z2v(mk:Tree->Tree->Op)(most:Int)(a b:Tree):Edit:=.mk 3 Tree.nil Tree.nil [] [] a.kind (YM (Z3k mk) (Z1B a b most) a.kids b.kids)
def Z1r(e:Edit):Op:=⟨3,0,[],e⟩
def Z52(desc:Edit->Op)(most:Int):Nat->Tree->Tree->Edit|0,_,_=>Edit.nil|n+1,a,b=>if ZN (Z0 a) (Z0 b)=true then Edit.nil else if a.kind=1/\b.kind=1 then Jz (Z52 desc most n) a b else if a.kind=b.kind/\2<=a.kind/\a.kind<=9 then Z2v (λx y=>desc (Z52 desc most n x y)) most a b else .mk 1 a b [] [] 0 []
def Z1s(most:Int)(a b:Tree):Edit:=Z52 Z1r most (mass a+mass b) a b
end
end Go.AM.YtnfbomhidainjaaGreat
namespace Go.Proofs
open Go.Shelf Go.RowKit Go.Lib Go.Sort Go.AM
def Tryz.sortTwo_ren:Go.Shelf.Ren:=⟨λ|6=>119|15=>126|14=>125|28=>136|29=>137|20=>128|21=>129|22=>130|23=>131|24=>132|25=>133|26=>134|27=>135|46=>138|47=>139|48=>140|49=>141|50=>142|57=>143|n=>n,λ|22=>167|24=>170|25=>188|3=>3|39=>198|0=>0|53=>208|55=>47|4=>4|46=>202|45=>201|50=>134|5=>5|9=>9|66=>210|70=>214|76=>216|77=>62|n=>n,λ|n=>n⟩
theorem Tryz.sortTwo:Go.Proofs.SlLaysF0.n6 Tryz.prog Tryz.sortTwo_ren:={
 mixed:=V3
 f6:=⟨Tryz.f119.name,V0,Tryz.func119.trans (congrArg some V3)⟩
 f14:=⟨Tryz.f125.name,V0,Tryz.func125.trans (congrArg some V3)⟩
 f15:=Tryz.func126.trans (congrArg some V3)
 f20:=⟨Tryz.f128.name,V0,Tryz.func128.trans (congrArg some V3)⟩
 f21:=⟨Tryz.f129.name,V0,Tryz.func129.trans (congrArg some V3)⟩
 f22:=⟨Tryz.f130.name,V0,Tryz.func130.trans (congrArg some V3)⟩
 f23:=⟨Tryz.f131.name,V0,Tryz.func131.trans (congrArg some V3)⟩
 f24:=⟨Tryz.f132.name,V0,Tryz.func132.trans (congrArg some V3)⟩
 f25:=⟨Tryz.f133.name,V0,Tryz.func133.trans (congrArg some V3)⟩
 f26:=⟨Tryz.f134.name,V0,Tryz.func134.trans (congrArg some V3)⟩
 f27:=⟨Tryz.f135.name,V0,Tryz.func135.trans (congrArg some V3)⟩
 f28:=Tryz.func136.trans (congrArg some V3)
 f29:=Tryz.func137.trans (congrArg some V3)
 f46:=⟨Tryz.f138.name,V0,Tryz.func138.trans (congrArg some V3)⟩
 f47:=Tryz.func139.trans (congrArg some V3)
 f48:=Tryz.func140.trans (congrArg some V3)
 f49:=⟨Tryz.f141.name,V0,Tryz.func141.trans (congrArg some V3)⟩
 f50:=⟨Tryz.f142.name,V0,Tryz.func142.trans (congrArg some V3)⟩
 f57:=⟨Tryz.f143.name,V0,Tryz.func143.trans (congrArg some V3)⟩
 t0:=Tryz.underlying0
 a0:=Tryz.isAgg0
 z0:=Tryz.sizeOf0
 v0:=Tryz.zeroValue0
 t3:=Tryz.underlying3
 a3:=Tryz.isAgg3
 z3:=Tryz.sizeOf3
 v3:=Tryz.zeroValue3
 t4:=Tryz.underlying4
 a4:=Tryz.isAgg4
 z4:=Tryz.sizeOf4
 v4:=Tryz.zeroValue4
 t5:=Tryz.underlying5
 a5:=Tryz.isAgg5
 z5:=Tryz.sizeOf5
 v5:=Tryz.zeroValue5
 t9:=Tryz.underlying9
 a9:=Tryz.isAgg9
 z9:=Tryz.sizeOf9
 v9:=Tryz.zeroValue9
 t22:=Tryz.underlying167
 a22:=Tryz.isAgg167
 z22:=Tryz.sizeOf167
 v22:=Tryz.zeroValue167
 t25:=Tryz.underlying188
 a25:=Tryz.isAgg188
 z25:=Tryz.sizeOf188
 v25:=Tryz.zeroValue188
 t39:=Tryz.underlying198
 a39:=Tryz.isAgg198
 z39:=Tryz.sizeOf198
 v39:=Tryz.zeroValue198
 t45:=Tryz.underlying201
 a45:=Tryz.isAgg201
 z45:=Tryz.sizeOf201
 v45:=Tryz.zeroValue201
 t46:=Tryz.underlying202
 a46:=Tryz.isAgg202
 z46:=Tryz.sizeOf202
 v46:=Tryz.zeroValue202
 t50:=Tryz.underlying134
 a50:=Tryz.isAgg134
 z50:=Tryz.sizeOf134
 v50:=Tryz.zeroValue134
 t53:=Tryz.underlying208
 a53:=Tryz.isAgg208
 z53:=Tryz.sizeOf208
 v53:=Tryz.zeroValue208
 t55:=Tryz.underlying47
 a55:=Tryz.isAgg47
 z55:=Tryz.sizeOf47
 v55:=Tryz.zeroValue47
 t66:=Tryz.underlying210
 a66:=Tryz.isAgg210
 z66:=Tryz.sizeOf210
 v66:=Tryz.zeroValue210
 t70:=Tryz.underlying214
 a70:=Tryz.isAgg214
 z70:=Tryz.sizeOf214
 v70:=Tryz.zeroValue214
 t76:=Tryz.underlying216
 a76:=Tryz.isAgg216
 z76:=Tryz.sizeOf216
 v76:=Tryz.zeroValue216
 t77:=Tryz.underlying62
 a77:=Tryz.isAgg62
 z77:=Tryz.sizeOf62
 v77:=Tryz.zeroValue62}
def Tryz.cmpInt_ren:Go.Shelf.Ren:=⟨λ|5=>121|7=>127|n=>n,λ|22=>3|3=>3|4=>4|n=>n,λ|n=>n⟩
theorem Tryz.cmpInt:Go.Proofs.SlLaysC2.n5 Tryz.prog Tryz.cmpInt_ren:={
 mixed:=V3
 f5:=⟨Tryz.f121.name,V0,Tryz.func121.trans (congrArg some V3)⟩
 f7:=⟨Tryz.f127.name,V0,Tryz.func127.trans (congrArg some V3)⟩
 t3:=Tryz.underlying3
 a3:=Tryz.isAgg3
 z3:=Tryz.sizeOf3
 v3:=Tryz.zeroValue3
 t4:=Tryz.underlying4
 a4:=Tryz.isAgg4
 z4:=Tryz.sizeOf4
 v4:=Tryz.zeroValue4
 t22:=Tryz.underlying3
 a22:=Tryz.isAgg3
 z22:=Tryz.sizeOf3
 v22:=Tryz.zeroValue3}
def Tryz.encTwo(x:Go.AM.Two):List Value:=[.int .i64 x.i,.int .i64 x.j]
set_option maxHeartbeats 1000000 in theorem Tryz.closure120(x y:Go.AM.Two)(W:World):Calls Tryz.prog 120 #[.agg #[.int .i64 x.i,.int .i64 x.j],.agg #[.int .i64 y.i,.int .i64 y.j]] W λe w'=>e=.returned (.int .i64 (Lib.compareInt x.i y.i))/\∃q os',w'=grow (W.drewN q) os':=by have d:=λW'=>AnyG.cmp_Compare_int Tryz.cmpInt x.i y.i W';change∀W',Calls Tryz.prog 121 _ _ _ at d;generalize Lib.compareInt x.i y.i=r at d⊢;go_enter Tryz.func120,Tryz.ntmps120;go_wp2_with(go_at_call 121;refine(d _).mono ?_;rintro e w'⟨rfl,rfl⟩);go_ret;exact⟨rfl,0,_,by rw[alloc_eq_grow,alloc_eq_grow,grow_grow];rfl⟩
theorem Tryz.cmpLays120(blk off size:Nat)(w:World):CmpLays Tryz.prog 120 #[] Tryz.encTwo 2 (λx y=>Lib.compareInt x.i y.i) blk off size w:=λ_ _ _ _ x y=>Tryz.closure120 x y _
theorem Tryz.bits126(w:World):Calls Tryz.prog 126 #[.int .u64 0] w λe d=>e=.returned (.int .i64 0)/\d=w:=by refine Any.bits_Len (SlLaysF0.n15.bits (P:=Tryz.prog) (ρ:=Tryz.sortTwo_ren) {Tryz.sortTwo with}) 0 w ?_ ?_<;>omega
end Go.Proofs
namespace Go.AM.YtnfbomhidainjaaGreat
open Go.AM Go.Proofs
noncomputable section
def Ztf:ArgL (List Two×Int×Int×Unit×Unit):=(.cons (aSl .two) (.cons (ZR .i64) (.cons (ZR .i64) (.cons (aFn 120) .nil))))
def Zp3(a:List Two×Int×Int×Unit×Unit):Prop:=(a.2.1=0)/\a.2.2.1=0
def ZwC(a:List Two×Int×Int×Unit×Unit):V U:=.tup []
def Z9x:Fs U:=fs Ztf (λa=>[Zp3 a]) ZwC
def Zxk(a:Int×Unit):Prop:=a.1=0
def ZGd(a:Int×Unit):V U:=.c (ci 0)
def Z9z:Fs U:=fs ZzZ (λa=>[Zxk a]) ZGd
def Zti:ArgL (List Two×Int×Int×Int×Unit×Unit):=(.cons (aSl .two) (.cons (ZR .i64) (.cons (ZR .i64) (.cons (ZR .i64) (.cons (aFn 120) .nil)))))
def Zp4(a:List Two×Int×Int×Int×Unit×Unit):Prop:=(a.2.1=0)/\a.2.2.1=0
def ZwE(a:List Two×Int×Int×Int×Unit×Unit):V U:=.tup []
def Z9A:Fs U:=fs Zti (λa=>[Zp4 a]) ZwE
def Zo5:ArgL (List Two×Unit×Unit):=(.cons (aSl .two) (.cons (aFn 120) .nil))
def Zs5(a:List Two×Unit×Unit):Prop:=(a.1)=[]
def ZrP(a:List Two×Unit×Unit):V U:=.tup []
def ZlS:Fs U:=fs Zo5 (λa=>[Zs5 a]) ZrP
def Zy3:Za U:=lvl [([0,1,2,3,8],[]),([0,1,2,3,8,14],[]),([0,1,2,3,8],[]),([0,1,2,3,8,9],[]),([0,1,2,3,8,9,34],[]),([0,1,2,3,8,9],[]),([0,1,2,3,8,9],[])]
def ZcN(s:List Two)(a b:Int)(f:Unit):LSt U:=(L2 [(0,.c (sU .two s .unk)),pI 1 a,pI 2 b,(3,.fn 120),pI 8 ((a:Int)+1)] [])
abbrev ZEL(p:List Nat):=AW (Z2 Zqj) Tryz.f128 Zy3 p
theorem ZL2(s:List Two)(a b:Int)(f:Unit)(Q:QT)(h:(InR (a+1))/\(Zk (ZEL [1,0,0]) (ZcN s a b f) (xB 0 Q))):ZEL [] (L2 [(0,.c (sU .two s .unk)),pI 1 a,pI 2 b,(3,.fn 120)] []) Q:=(Eq.mpr V3 h:)
theorem Zvw(s:List Two)(a b:Int)(f:Unit)(N0:NT)(Q:QT)(h:let z1:=decide (((a+1):Int)<b);let z0:=L2 [(0,.c (sU .two s .unk)),pI 1 a,pI 2 b,(3,.fn 120),pI 8 (a+1),(14,.c (.bool z1))] [];(iB z1 (ZEL [1,0,0,1] z0 (xT N0 (xB 0 Q))) (Q .normal z0))):ZEL [1,0,0] (ZcN s a b f) (xT N0 (xB 0 Q)):=(Eq.mpr V3 h:)
abbrev ZEm(s:List Two)(a b:Int)(f:Unit):Prop:=AW (Z2 Zqj) Tryz.f128 Zy3 [] (Zg (Ztf.can (s,a,b,f,())) []) (EQ Tryz.f128 (ZwC (s,a,b,f,())) [])
theorem ZCP(hb:∀(s:List Two)(a:Int)(b:Int)(f:Unit)(_:Unit),Zp3 (s,a,b,f,())->ZEm s a b f):CT 128 Z9x:=Z1 (l:=[]) Zf rfl trivial Zy3 Tryz.func128 rfl rfl 4 (λ_=>rfl) V0 (λ⟨s,a,b,f,_⟩=>hb s a b f ())
def ZsF:List (FuncId×Fs U):=[(128,Z9x)]
def Zy5:Za U:=lvl [([0,1,2,3,4,10],[]),([0,1,2,3,4,10,11],[]),([0,1,2,3,4,10,11,12],[]),([0,1,2,3,4,10,11,12,25],[]),([],[]),([0,1,2,3,4,10,11,12,32],[]),([],[]),([0,1,2,3,4,10,11,12,39],[]),([0,1,2,3,4,10,11,12],[]),([0,1,2,3,4,10,11,12],[]),([0,1,2,3,4,10,11,12,13,14],[]),([0,1,2,3,4,10,11,12,13,14,56],[]),([0,1,2,3,4,10,11,12,13],[]),([0,1,2,3,4,10,11,12,13],[]),([0,1,2,3,4,10,11,12,13,14],[]),([0,1,2,3,4,10,11,12,13,75],[]),([0,1,2,3,4,10,11,12,13,80],[]),([0,1,2,3,4,10,11,12,13,97],[]),([0,2,3,4,10,11,15],[]),([0,1,2,3,4,10,11],[]),([0,1,2,3,4,12,16,17],[]),([0,1,2,3,4,11,12,16],[]),([0,1,2,3,4,11,12,16,18,19],[]),([0,1,2,3,4,11,16,18,19,20],[]),([0,1,2,3,4,11,16,18,19,20,125],[]),([0,1,2,3,4,10,11,16],[]),([0,2,3,4,10,11,16],[]),([0,1,2,3,4,10,11],[]),([0,1,2,3,4,10,11,16],[]),([0,1,3,4,10,11,16],[]),([0,1,2,3,4,10,11],[])]
def ZcO(s:List Two)(a b limit:Int)(f:Unit):LSt U:=(L2 [(0,.c (sU .two s .unk)),pI 1 a,pI 2 b,pI 3 limit,(4,.fn 120),pB 10 true,pB 11 true] [])
abbrev ZEM(p:List Nat):=AW (Z2 ZsF) Tryz.f125 Zy5 p
theorem ZL4(s:List Two)(a b limit:Int)(f:Unit)(Q:QT)(h:(Zk (ZEM [1,1,0,0]) (ZcO s a b limit f) (xB 0 Q))):ZEM [] (L2 [(0,.c (sU .two s .unk)),pI 1 a,pI 2 b,pI 3 limit,(4,.fn 120)] []) Q:=(Eq.mpr V3 h:)
theorem Zvx(s:List Two)(a b limit:Int)(f:Unit)(N0:NT)(Q:QT)(h:let z0:=decide (((b-a):Int)<=12);(InR (b-a))/\(iB z0 ((Zp3 (s,a,b,(),()))/\(Q .ret (L2 [] []))) (ZEM [1,1,0,0,0,1,1] (L2 [(0,.c (sU .two s .unk)),pI 1 a,pI 2 b,pI 3 limit,(4,.fn 120),pB 10 true,pB 11 true,pI 12 (b-a),(25,.c (.bool z0))] []) (xB 1 (xT N0 (xB 0 Q)))))):ZEM [1,1,0,0] (ZcO s a b limit f) (xT N0 (xB 0 Q)):=(Eq.mpr V3 h:)
abbrev ZEo(s:List Two)(a b limit:Int)(f:Unit):Prop:=AW (Z2 ZsF) Tryz.f125 Zy5 [] (Zg (Zti.can (s,a,b,limit,f,())) []) (EQ Tryz.f125 (ZwE (s,a,b,limit,f,())) [])
theorem ZCR(ZII:CT 128 Z9x)(hb:∀(s:List Two)(a:Int)(b:Int)(d:Int)(f:Unit)(_:Unit),Zp4 (s,a,b,d,f,())->ZEo s a b d f):CT 125 Z9A:=Z1 (l:=[(128,Z9x)]) Zf rfl (⟨ZII,trivial⟩) Zy5 Tryz.func125 rfl rfl 5 (λ_=>rfl) V0 (λ⟨s,a,b,d,f,_⟩=>hb s a b d f ())
def Znn:List (FuncId×Fs U):=[(125,Z9A),(126,Z9z)]
def ZpJ:Za U:=lvl [([0,1,4],[]),([],[])]
abbrev ZMH(p:List Nat):=AW (Z2 Znn) Tryz.f119 ZpJ p
theorem ZG4(s:List Two)(f:Unit)(Q:QT)(h:((Zxk ((IntKind.wrap .u64 (s.length:Int)),()))/\(Zp4 (s,0,(s.length:Int),0,(),()))/\(Q .normal (L2 [] [])))):ZMH [] (L2 [(0,.c (sU .two s .unk)),(1,.fn 120)] []) Q:=(Eq.mpr V3 h:)
abbrev ZAT(s:List Two)(f:Unit):Prop:=AW (Z2 Znn) Tryz.f119 ZpJ [] (Zg (Zo5.can (s,f,())) []) (EQ Tryz.f119 (ZrP (s,f,())) [])
theorem ZxT(ZIL:CT 125 Z9A)(ZIK:CT 126 Z9z)(hb:∀(s:List Two)(f:Unit)(_:Unit),Zs5 (s,f,())->ZAT s f):CT 119 ZlS:=Z1 (l:=[(125,Z9A),(126,Z9z)]) Zf rfl (⟨ZIL,ZIK,trivial⟩) ZpJ Tryz.func119 rfl rfl 2 (λ_=>rfl) V0 (λ⟨s,f,_⟩=>hb s f ())
end
theorem ZII:Contract Tryz.prog cfg 128 Z9x:=by
 refine ZCP ?_;intro s a b f _ hp;obtain⟨d,h2⟩:=hp;dsimp only at d h2;subst d;refine ZL2 s 0 b f _ ⟨V2,?_⟩;refine Z6 (ι:=Unit) (λ_=>ZcN s 0 b f) (λ_=>True) (λ_=>0) () rfl trivial ?_;intro _ _;refine Zvw s 0 b f _ _ ⟨λh=>?_,λh=>?_⟩;.simp at h;omega
 ·exact YH
theorem ZIL:Contract Tryz.prog cfg 125 Z9A:=by
 refine ZCR ZII ?_;intro s a b d f _ hp;obtain⟨h1,h2⟩:=hp;dsimp only at h1 h2;refine ZL4 s a b d f _ ?_;refine Z6 (ι:=Unit) (λ_=>ZcO s a b d f) (λ_=>True) (λ_=>0) () rfl trivial ?_;intro _ _;refine Zvx s a b d f _ _ ⟨V2,λh=>⟨⟨h1,h2⟩,?_⟩,λh=>?_⟩;·exact YH
 .simp at h;omega
theorem ZIK:Contract Tryz.prog cfg 126 Z9z:=by
 refine Jp ⟨_,Tryz.func126,rfl,rfl⟩ rfl ?_;intro args X ps r X' hs ai hX w g vs hE;unfold Z9z fs at hs;simp only at hs;split at hs;case h_2=>cases hs
 split at hs;case h_2=>cases hs
 rename_i a ha;cases hs;have h0:a.1=0:=ai.1;obtain⟨hl,hb⟩:=ZzZ.ok cfg rfl args a ha;match args,vs,hl,hE with
 |[x],[v],_,hE=>
  have hx:=hb 0 x _ rfl rfl;have hv:=hx g _ v (hE.args 0 v x rfl rfl);have e:v=.int .u64 0:=by
   have:=hv.1;rw[h0]at this;cases this;try rfl
  subst e;refine Calls.mono (Tryz.bits126 w) ?_;rintro e w'⟨rfl,rfl⟩;refine⟨_,⟨g.m,λa=>match g.tag a with|some (.outer t)=>some (.outer t)|_=>none,g.ad,g.bs⟩,rfl,?_⟩;refine⟨⟨λa v hv=>?_,λa t d=>?_⟩,⟨⟨rfl,rfl,rfl,Qc _⟩,λ_=>rfl,λ_ _ h=>h,λa t d=>?_,λa t d=>?_,λb hb ah=>⟨rfl,λo s=>?_⟩,λ_ _=>rfl⟩,λa t d=>?_,λ_ _=>rfl,⟨.int _ _,trivial⟩,λk cs hk=>by simp at hk,λt x hx=>by cases hx⟩;.have:=hE.inv.im a v hv;exact⟨this.1,by simp only[this.2]⟩
  .dsimp only at d;split at d;.rename_i h;exact hE.inv.it a _ h
   .cases d
  .have d:g.tag a=some (.outer t):=d;exact⟨by simp only[d],rfl⟩
  .dsimp only at d;split at d;.rename_i h;cases d;exact h
   .cases d
  .show _=g.tag _;dsimp only;cases h:g.tag ⟨b,o,s⟩with|none=>rfl|some t=>obtain⟨t',rfl⟩:=ah o s t h;try rfl
  .dsimp only at d;split at d;.cases d;exact .inl ⟨_,rfl⟩
   .cases d
theorem ZLV:Contract Tryz.prog cfg 119 ZlS:=by refine ZxT ZIL ZIK ?_;intro s f _ d;have d:s=[]:=d;subst d;refine ZG4 [] f _ ⟨rfl,⟨rfl,rfl⟩,?_⟩;exact YH
theorem Zrb:Go.Sort.SWO (λp q:Two=>decide (Zhx p q<0))where
 irrefl x:=by simp[Zhx,Z9h]
 trans x y z h1 h2:=by simp only[Zhx,Z9h,decide_eq_true_eq]at*;grind
 ntrans x y z h1 h2:=by simp only[Zhx,Z9h,decide_eq_false_iff_not]at*;grind
theorem Zc9(l:List Two):(J5 l).length=l.length/\(J5 l).Perm l/\∀i j,i<j->j<l.length->¬((J5 l).getD j ⟨0,0⟩).i<((J5 l).getD i ⟨0,0⟩).i:=by
 have h:=Go.Sort.pdq_sorts (λp q:Two=>decide (Zhx p q<0)) Zrb l.toArray 0 l.toArray.size (Go.Lib.bitLen l.toArray.size) true true (QI _) (Qc _) (Or.inl rfl);have e0:J5 l=(Go.Sort.pdq (λp q:Two=>decide (Zhx p q<0)) l.toArray 0 l.toArray.size (Go.Lib.bitLen l.toArray.size) true true).toList:=rfl;rw[e0];generalize Go.Sort.pdq (λp q:Two=>decide (Zhx p q<0)) l.toArray 0 l.toArray.size (Go.Lib.bitLen l.toArray.size) true true=D at h;obtain⟨⟨h1,_,h2⟩,h3⟩:=h;refine⟨by simpa using h1,?_,λi j ab hj=>?_⟩;.rw[Kj (by rw[h1];exact Qc _),Kj (Qc _)]at h2;simpa using h2
 .have:=h3 i j (QI _) ab (by simpa using hj);have e:∀k,k<l.length->D.toList.getD k ⟨0,0⟩=D[k]!:=by
   intro k hk;have d:k<D.size:=by rw[h1];simpa using hk
   rw[getElem!_pos _ k d,Q6,XF,QG d];try rfl
  rw[e i Yp,e j hj];have:=of_decide_eq_false this;intro hc;refine this ?_;show(if _ then _ else _)<(0:Int);rw[if_pos hc];decide
theorem ZDU(w:World)(n blk off:Nat)(F:Array Value)(os:Array Obj)(hF:0<F.size)(hb:blk<w.heap.size):Evo w (Go.Sort.grow (Go.Sort.putRow id (Go.Sort.ahead w n) blk off F) os) (λc=>∃j,j<F.size/\c=⟨blk,off+j,none⟩):=by
 have ae:(Go.Sort.putRow id (Go.Sort.ahead w n) blk off F).heap.size=w.heap.size:=Go.Sort.size_putRow id (Go.Sort.ahead w n) blk off F;have hc:∀a,a.block<w.heap.size->(Go.Sort.grow (Go.Sort.putRow id (Go.Sort.ahead w n) blk off F) os).cell? a=(Go.Sort.putRow id (Go.Sort.ahead w n) blk off F).cell? a:=λa ha=>Go.Sort.cell?_grow _ _ _ (by rw[ae];exact ha);have ah:∀a v,w.cell? a=some v->a.block<w.heap.size:=by intro a v h;unfold World.cell? at h;cases hh:w.heap[a.block]? with|none=>rw[hh]at h;cases h|some o=>exact(QJ.1 hh).1
 refine⟨⟨rfl,rfl,rfl,by rw[Go.Sort.size_grow,ae];omega⟩,λa ha hs=>?_,λa ha=>?_,λa v hv=>?_,λb ar hs=>?_⟩
 .rw[hc a ha];by_cases d:a.spot=none
  .obtain⟨ab,ao,sp⟩:=a;dsimp only at d;subst d;refine Go.Sort.cell?_putRow_other id (Go.Sort.ahead w n) blk off F _ ?_;by_cases h1:ab=blk
   .subst h1;dsimp only;rcases XC ao off with h|h;.exact .inr (.inl h)
    .refine .inr (.inr (Nat.le_of_not_lt λh3=>hs ⟨ao-off,Yp,?_⟩));rw[show off+(ao-off)=ao by omega]
   .exact .inl h1
  .have hn:∀W:World,W.cell? a=none:=by
    intro W;unfold World.cell?;cases W.heap[a.block]? with
    |none=>rfl|some o=>cases o<;>simp[Option.isSome_iff_ne_none,d]
   rw[hn,hn]
 .rw[Go.Sort.frozen?_grow _ _ _ (by rw[ae];exact ha),Go.Sort.frozen?_putRow];try rfl
 .have ha:=ah a v hv;rw[hc a ha];unfold World.cell? at hv;cases hh:w.heap[a.block]? with
  |none=>rw[hh]at hv;cases hv|some o=>rw[hh]at hv;cases o with
   |cells c e fr=>
    dsimp only at hv;split at hv;.cases hv
    .rename_i d;have ai:(Go.Sort.ahead w n).heap[a.block]?=some (.cells c e fr):=hh;have aq:=(QJ.1 hv).1;by_cases hbk:blk=a.block
     .have e1:(Go.Sort.putRow id (Go.Sort.ahead w n) blk off F).heap[a.block]?=some (.cells (Go.Sort.putCells id off F c) e fr):=by unfold Go.Sort.putRow Go.Sort.mapBlock;rw[K5,if_pos hbk,ai];try rfl
      have h3:a.off<(Go.Sort.putCells id off F c).size:=by simpa[Go.Sort.putCells]using aq
      unfold World.cell?;rw[e1];dsimp only;rw[if_neg d];exact⟨_,QG h3⟩
     .have e1:(Go.Sort.putRow id (Go.Sort.ahead w n) blk off F).heap[a.block]?=some (.cells c e fr):=by unfold Go.Sort.putRow Go.Sort.mapBlock;rw[K5,if_neg hbk,ai]
      unfold World.cell?;rw[e1];dsimp only;rw[if_neg d];exact⟨v,hv⟩|_=>cases hv
 .have al:blk≠b:=λe=>hs off none ⟨0,hF,by rw[e];rfl⟩;unfold Go.Sort.grow Go.Sort.putRow Go.Sort.mapBlock;dsimp only;rw[Array.getElem?_append_left (by simpa using ar),Array.getElem?_modify,if_neg al];try rfl
theorem ZJ8:∀w,(isAgg 170).run Tryz.prog w=.ok true w:=λw=>(Z2f Zf (t:=170) rfl w).2.1
theorem ZCc:∀w,(Go.sizeOf 170).run Tryz.prog w=.ok 2 w:=λw=>(Z2f Zf (t:=170) rfl w).1
theorem ZnB(d:Array Two)(j:Nat)(hj:j<d.size*2):(Go.Sort.flatK Tryz.encTwo 2 d)[j]! =.int .i64 (if j%2=0 then(d[j/2]!).i else(d[j/2]!).j):=by rw[Go.Sort.get_flatK _ _ _ _ hj];have:j%2=0\/j%2=1:=Yp;rcases this with h|h<;>simp[h,Tryz.encTwo]
theorem ZlX{m:Addr->Option Value}{l:List Two}{vs:List Value}(h:ZtD cfg m .two l vs)(j:Nat)(hj:j<l.length*2):vs[j]?=some (.int .i64 (if j%2=0 then(l.getD (j/2) ⟨0,0⟩).i else(l.getD (j/2) ⟨0,0⟩).j)):=by
 have d:j/2<l.length:=Yp;have hx:l[j/2]?=some (l.getD (j/2) ⟨0,0⟩):=by rw[Q6,Q1 d];try rfl
 have hd:j=j/2*2+j%2:=Yp;have:j%2=0\/j%2=1:=Yp;rcases this with h1|h1
 .obtain⟨u,h2,h3⟩:=h.2 (j/2) _ hx 0 (.int .i64 (l.getD (j/2) ⟨0,0⟩).i) rfl;cases h3;rw[if_pos h1];have e:j/2*cfg.sz .two+0=j:=by show j/2*2+0=j;omega
  rwa[e]at h2
 .obtain⟨u,h2,h3⟩:=h.2 (j/2) _ hx 1 (.int .i64 (l.getD (j/2) ⟨0,0⟩).j) rfl;cases h3;rw[JH];have e:j/2*cfg.sz .two+1=j:=by show j/2*2+1=j;omega
  rwa[e]at h2
theorem ZCb:Zoe Tryz.prog cfg 119 ⟨120,.two,J5,none⟩:=by
 intro w m l b aq vs ab av au ax am;dsimp only at l ab au ax⊢;have a7:vs.length=l.length*2:=ab.1;by_cases hl:l=[]
 .subst hl;have hE:Entry cfg w ⟨w.cell?,λ_=>none,λ_=>⟨0,0,none⟩,λ_=>none⟩ [.slice b 0 aq,.func (.func 120) #[] #[]] [.c (.slice (U:=U) .two [] .unk),.fn 120] [] []:=by
   refine⟨⟨λa v hv=>⟨hv,rfl⟩,λa t ht=>by cases ht⟩,λa t ht=>(by cases ht),rfl,λj v x hv hx=>?_,λk cs hk=>by simp at hk,λt _=>rfl,λt x hx=>by cases hx⟩;match j,hv,hx with
   |0,hv,hx=>
    cases hv;cases hx;refine⟨?_,trivial⟩;cases b with
    |none=>obtain⟨_,rfl⟩:=av rfl;exact .snil _ _|some a=>exact .slice _ _ _ a 0 aq (λ_ _=>undef) rfl (QI _) (λi x hx=>by simp at hx) (λi x hx=>by simp at hx)
   |1,hv,hx=>cases hv;cases hx;rfl|n+2,hv,hx=>simp at hv
  have hc:=ZLV.2.1 [.c (.slice (U:=U) .two [] .unk),.fn 120] [] [] _ _ _ _ rfl ⟨rfl,trivial⟩ (by simp) w _ _ hE;refine Calls.mono hc ?_;rintro e w'⟨v,g',rfl,L⟩;have hs:(J5 []).length=0:=(Zc9 []).1;have a2:∀b,b<w.heap.size->w'.heap[b]?=w.heap[b]?:=λb hb=>(L.fr.clean b hb (λo s t ht=>by cases ht)).1;have bc:∀a:Addr,a.block<w.heap.size->w'.cell? a=w.cell? a:=λa ha=>by unfold World.cell?;rw[a2 _ ha]
  refine⟨⟨v,rfl⟩,hs,[],⟨by simp[hs],λi x hx=>by rw[Q0 hs]at hx;simp at hx⟩,⟨L.fr.stay,λa ha _=>bc a ha,L.fr.frz,λa v hv=>⟨v,?_⟩,λb hb _=>a2 b hb⟩,λa _ j u hu=>by simp at hu⟩;exact(L.inv.im a v (L.fr.mono a v hv)).1
 .have bk:0<l.length:=by cases l;exact absurd rfl hl;simp
  cases b with
  |none=>exact absurd (av rfl).1 hl|some a=>
   have h0:=ZlX ab 0 Yp;have ae:=(am a rfl 0 _ h0).1;have bb:a.spot=none/\a.block<w.heap.size:=by
    have e:a.add 0=a:=rfl;rw[e]at ae;unfold World.cell? at ae;cases hh:w.heap[a.block]? with
    |none=>rw[hh]at ae;cases ae|some o=>
     rw[hh]at ae;refine⟨?_,(QJ.1 hh).1⟩;cases o with
     |cells c e fr=>
      dsimp only at ae;split at ae;.cases ae
      .rename_i h;simpa using h|_=>cases ae
   obtain⟨d,aa,sp⟩:=a;obtain⟨rfl,ai⟩:=bb;dsimp only at ai;have ak:∀j,(Addr.add ⟨d,aa,none⟩ j)=⟨d,aa+j,none⟩:=λj=>by
    unfold Addr.add;split;.rename_i h;subst h;rfl
    .try rfl
   have hH:Go.Sort.HoldsK Tryz.encTwo 2 w d aa l.toArray:=by
    intro j hj;have hj:j<l.length*2:=by simpa using hj
    have:=am ⟨d,aa,none⟩ rfl j _ (ZlX ab j hj);rw[ak]at this;refine⟨?_,this.2⟩;rw[this.1];show _=some ((Go.Sort.flatK Tryz.encTwo 2 l.toArray)[j]!);rw[ZnB _ _ (by simpa using hj)];have af:j/2<l.length:=Yp;have e:l.toArray[j/2]! =l.getD (j/2) ⟨0,0⟩:=by rw[getElem!_pos _ _ (by simpa using af)];simp[List.getD_eq_getElem?_getD,List.getElem?_eq_getElem af]
    rw[e]
   have eg:∀args w,(callFunc 120 args).run Tryz.prog w=.ok (.enter 120 args) w:=enters_of Tryz.func120 V3 rfl;have a1:Go.Sort.SWO (ltOf λx y:Two=>Go.Lib.compareInt x.i y.i):=by have e:(ltOf λx y:Two=>Go.Lib.compareInt x.i y.i)=λp q:Two=>decide (Zhx p q<0):=rfl;rw[e];exact Zrb
   have ao:=AnyQ.slices_SortFunc_eq Tryz.sortTwo 2 ZJ8 ZCc Tryz.encTwo (λ_=>rfl) (λx v hv=>by simp[Tryz.encTwo]at hv;rcases hv with rfl|rfl<;>rfl) (λx y=>Go.Lib.compareInt x.i y.i) a1 120 #[] d aa aq l.toArray w eg (Tryz.cmpLays120 d aa _ w) hH ai (by simp;omega);have aw:l.toArray.size=l.length:=by simp
   rw[aw]at ao;refine Calls.mono ao ?_;rintro e w'⟨rfl,n,os,rfl⟩;have al:=Zc9 l;have e0:J5 l=(Go.Sort.pdq (λp q:Two=>decide (Zhx p q<0)) l.toArray 0 l.toArray.size (Go.Lib.bitLen l.toArray.size) true true).toList:=rfl;rw[aw]at e0;have e1:Go.Sort.pdq (ltOf λx y:Two=>Go.Lib.compareInt x.i y.i) l.toArray 0 l.length (Go.Lib.bitLen l.length) true true=(J5 l).toArray:=by rw[e0];simp;rfl
   rw[e1];refine⟨⟨_,rfl⟩,al.1,(Go.Sort.flatK Tryz.encTwo 2 (J5 l).toArray).toList,⟨by simp;rfl,λi x hx j c hc=>?_⟩,?_,λa ha j u hu=>?_⟩
   .have hi:i<(J5 l).length:=(Q4.1 hx).1;have hj:j<2:=by
     have:=(Q4.1 hc).1;exact this
    have af:i*2+j<(J5 l).toArray.size*2:=by simp;omega
    have bg:(J5 l).toArray[i]! =x:=by rw[getElem!_pos _ _ (by simpa using hi)];simpa[List.getElem?_eq_getElem hi]using hx
    have hf:=ZnB (J5 l).toArray (i*2+j) af;rw[show(i*2+j)/2=i by omega,show(i*2+j)%2=j by omega,bg]at hf;have hg:(Go.Sort.flatK Tryz.encTwo 2 (J5 l).toArray).toList[i*cfg.sz .two+j]?=some (.int .i64 (if j=0 then x.i else x.j)):=by show(Go.Sort.flatK Tryz.encTwo 2 (J5 l).toArray).toList[i*2+j]?=_;rw[XF,<-hf,getElem!_pos _ _ (by simpa using af)];exact QG _
    refine⟨_,hg,?_⟩;match j,hj,hc with|0,_,hc=>cases hc;exact .int _ _|1,_,hc=>cases hc;exact .int _ _
   .have hF:(Go.Sort.flatK Tryz.encTwo 2 (J5 l).toArray).size=vs.length:=by simp[al.1,a7]
    have bi:=ZDU w n d aa (Go.Sort.flatK Tryz.encTwo 2 (J5 l).toArray) os (by rw[hF];omega) ai;have e:(λc=>∃j,j<(Go.Sort.flatK Tryz.encTwo 2 (J5 l).toArray).size/\c=(⟨d,aa+j,none⟩:Addr))=λc=>∃a j,some (⟨d,aa,none⟩:Addr)=some a/\j<vs.length/\c=a.add j:=by funext c;rw[hF];refine propext ⟨λ⟨j,h1,h2⟩=>⟨_,j,rfl,h1,by rw[ak];exact h2⟩,λ⟨a,j,h1,h2,h3⟩=>⟨j,h2,?_⟩⟩;cases h1;rw[h3,ak]
    rw[<-e];exact bi
   .cases ha;have be:Go.Sort.HoldsK Tryz.encTwo 2 (sortWorldK Tryz.encTwo 2 w d aa n (J5 l).toArray os) d aa (J5 l).toArray:=holdsK_sortWorldK_c Tryz.encTwo 2 w d aa l.toArray (J5 l).toArray n os hH ai (by simp[al.1]);have af:j<(Go.Sort.flatK Tryz.encTwo 2 (J5 l).toArray).size:=by simpa using(List.getElem?_eq_some_iff.1 hu).1
    have:=(be j af).1;rw[ak,this];rw[XF,QG af]at hu;rw[getElem!_pos (Go.Sort.flatK Tryz.encTwo 2 (J5 l).toArray) j af];exact hu
def Z9F:Fs U:={wr:=true,inp:=some ⟨120,.two,J5,none⟩,fn:=λ_ _=>none}
theorem ZIQ:Contract Tryz.prog cfg 119 Z9F:=by
 refine⟨⟨_,Tryz.func119,rfl,rfl⟩,λargs X L ps r X' L' d=>?_,λi hi=>?_⟩
 .simp only[Z9F,ZbF]at d;split at d<;>cases d
 .cases hi;exact⟨λ_=>ZCb,λk h=>nomatch h⟩
noncomputable section
def Ztr:ArgL (List (List Int)×Unit):=(.cons (aSl .irow) .nil)
def Zpa(a:List (List Int)×Unit):Prop:=(a.1).length<=1000000/\∀l∈a.1,l.length<=1000000
def Zk7(a:List (List Int)×Unit):V U:=.c (sU .two (Z0f a.1) .unk)
def Zej:Fs U:=fs Ztr (λa=>[Zpa a]) Zk7
def ZA6:ArgL (Int×Int×Int×Unit):=(.cons (ZR .i64) (.cons (ZR .u64) (.cons (ZR .u64) .nil)))
def Zxc(a:Int×Int×Int×Unit):Prop:=(0<=a.2.1/\a.2.1<18446744073709551616)/\(0<=a.2.2.1/\a.2.2.1<18446744073709551616)
def ZrH(a:Int×Int×Int×Unit):V U:=.tup [(true,(enc .wedit (if Y7 a.2.1 a.2.2.1=0 then WEdit.mk 0 0 0 0 else Z3w a.1 a.2.1 a.2.2.1))),(false,[.bool (decide (Y7 a.2.1 a.2.2.1≠0))])]
def ZjL:Fs U:=fs ZA6 (λa=>[Zxc a]) ZrH
def ZkJ:List (FuncId×Fs U):=[(114,Z9J),(116,Z9I),(115,Z1x.lend),(117,Z9H.lend),(119,Z9F)]
def Zsn:Za U:=lvk [([0],[]),([0,3],[((.loc 11),[.wr .three])]),([3,12,13,14],[((.loc 11),[.wr .three])]),([3,12,13,14,15],[((.loc 11),[.wr .three])]),([3,4,5,12,13,14],[((.loc 11),[.wr .three])]),([3,4,12,13,14,19,20,21],[((.loc 11),[.wr .three])]),([3,4,12,13,14,19,20,21,22],[((.loc 11),[.wr .three])]),([3,4,6,7,12,13,14,19,20,21],[((.loc 11),[.wr .three])]),([3,4,6,7,12,13,14,19,20,21,35],[((.loc 11),[.wr .three])]),([3,4,12,13,14,19,20,21],[((.loc 11),[.wr .three])]),([3,4,12,13,14,19,20,21],[((.loc 11),[.wr .three])]),([3,12,13,14],[((.loc 11),[.wr .three])]),([3,(8,[.wr .two])],[((.loc 11),[.wr .three])]),([3,(8,[.wr .two]),51],[((.loc 11),[.wr .three])]),([3,(8,[.wr .two]),9],[9,((.loc 11),[.wr .three])]),([3,(8,[.wr .two]),9,61],[9,((.loc 11),[.wr .three])]),([3,(8,[.wr .two])],[((.loc 11),[.wr .three])]),([(8,[.wr .two])],[]),([2],[])]
def Z7V(scores:List (List Int))(aa:Int)(d:List Three):LSt U:=(⟨[(3,.ptr (.loc 11) 0),(12,.c (sU .irow scores .unk)),pI 13 (scores.length:Int),pI 14 aa],[(.loc 11,[.mref (.l 11 0)])],[(.l 11 0,LC.mk (U:=U) .three d 0)]⟩:LSt U)
def Z4V(scores:List (List Int))(aa ab:Int)(d:List Three):LSt U:=(⟨[(3,.ptr (.loc 11) 0),pI 4 aa,(12,.c (sU .irow scores .unk)),pI 13 (scores.length:Int),pI 14 aa,(19,.c (sU .int (scores.getD aa.toNat ([]:List Int)) .unk)),pI 20 ((scores.getD aa.toNat ([]:List Int)).length:Int),pI 21 ab],[(.loc 11,[.mref (.l 11 0)])],[(.l 11 0,LC.mk (U:=U) .three d 0)]⟩:LSt U)
def Z4U(scores:List (List Int))(aa:List Two)(d:List Three):LSt U:=(⟨[(3,.ptr (.loc 11) 0),(8,.c (.mref (.e 8 0)))],[(.loc 11,[.mref (.l 11 0)])],[(.e 8 0,LC.mk (U:=U) .two aa 0),(.l 11 0,LC.mk (U:=U) .three d 0)]⟩:LSt U)
def Z7U(scores:List (List Int))(aa:List Two)(ah:Bool)(af ae ab:Int)(d:List Three):LSt U:=(⟨[(3,.ptr (.loc 11) 0),(8,.c (.mref (.e 8 0))),pL 9,pB 61 ah],[(.loc 9,[ci af,ci ae,ci ab]),(.loc 11,[.mref (.l 11 0)])],[(.e 8 0,LC.mk (U:=U) .two aa 0),(.l 11 0,LC.mk (U:=U) .three d 0)]⟩:LSt U)
abbrev Zoi(p:List Nat):=AW (Z0Z ZkJ) Tryz.f108 Zsn p
abbrev ZlA(p:List Nat):=SW (Z0Z ZkJ) Tryz.f108 Zsn p
theorem ZLi(scores:List (List Int))(Q:QT)(h:(Zk (Zoi [1,1,0,1,0,0]) (Z7V scores 0 []) (xB 0 (ZlA [1,1,1] Q)))):Zoi [] (L2 [(0,.c (sU .irow scores .unk))] []) Q:=(Eq.mpr V3 h:)
theorem ZvI(scores:List (List Int))(aa:Int)(d:List Three)(N0:NT)(Q:QT)(h:(iB (decide (aa<(scores.length:Int))) (((0:Int)<=aa/\aa<(scores.length:Int))/\(Zk (Zoi [1,1,0,1,0,0,1,1,0,0,1,1,0,0]) (Z4V scores aa 0 d) (xB 2 (xB 1 (ZlA [1,1,0,1,0,0,1,1,1] (xT N0 (xB 0 (ZlA [1,1,1] Q)))))))) ((Zk (Zoi [1,1,1,1,0,0,0]) (Z4U scores [] d) (xB 4 (ZlA [1,1,1,1,1] Q)))))):Zoi [1,1,0,1,0,0] (Z7V scores aa d) (xT N0 (xB 0 (ZlA [1,1,1] Q))):=(Eq.mpr V3 h:)
theorem ZvH(scores:List (List Int))(ab aa:Int)(d:List Three)(N1 N0:NT)(Q:QT)(h:let z2:=scores.getD ab.toNat ([]:List Int);let z0:=List.getD z2 aa.toNat (0:Int);let z4:=Three.mk (Two.mk ab aa) z0;let z3:=decide ((0:Int)<z0);let z1:=bif z3 then(decide (ab<16))else false;(iB (decide (aa<(z2.length:Int))) (((0:Int)<=aa/\aa<(z2.length:Int))/\((Tt z3)/\(Tt z3)/\(Tt z1)/\(Tt z1)/\(iB (bif z1 then(decide (aa<16))else false) ((Zp9 ((d,()),z4,()))/\((InR (aa+1))/\(N1 (Z4V scores ab (aa+1) (Zdl d z4))))) ((InR (aa+1))/\(N1 (Z4V scores ab (aa+1) d)))))) ((InR (ab+1))/\(N0 (Z7V scores (ab+1) d))))):Zoi [1,1,0,1,0,0,1,1,0,0,1,1,0,0] (Z4V scores ab aa d) (xT N1 (xB 2 (xB 1 (ZlA [1,1,0,1,0,0,1,1,1] (xT N0 (xB 0 (ZlA [1,1,1] Q))))))):=(Eq.mpr V3 h:)
theorem ZvG(scores:List (List Int))(aa:List Two)(d:List Three)(N2:NT)(Q:QT)(h:let z1:=Three.p ((Z0m d).2);let z0:=Two.mk (Two.i z1) (Two.j z1);(Zcl (d,()))/\(iB (decide ((0:Int)<(d.length:Int))) ((Zp2 ((d,()),()))/\((Zp5 (aa,z0,()))/\(iB (!(aa.any (JX z0))) (((aa.length+([z0]).length)*16<=140737488355328)/\(N2 (Z4U scores (aa++([z0])) ((Z0m d).1)))) (N2 (Z7U scores aa (!(aa.any (JX z0))) (Two.i z1) (Two.j z1) (Three.score ((Z0m d).2)) ((Z0m d).1)))))) (((0:Nat)=0)/\(aa.length<=1000000000)/\(Q .ret (L2 [(2,.c (sU .two (J5 aa) (.own (.e 2 0))))] []))))):Zoi [1,1,1,1,0,0,0] (Z4U scores aa d) (xT N2 (xB 4 (ZlA [1,1,1,1,1] Q))):=(Eq.mpr V3 h:)
theorem ZvF(scores:List (List Int))(aa:List Two)(ah:Bool)(af ae ab:Int)(d:List Three)(N2:NT)(Q:QT)(h:let z1:=Three.p ((Z0m d).2);let z0:=Two.mk (Two.i z1) (Two.j z1);(Zcl (d,()))/\(iB (decide ((0:Int)<(d.length:Int))) ((Zp2 ((d,()),()))/\((Zp5 (aa,z0,()))/\(iB (!(aa.any (JX z0))) (((aa.length+([z0]).length)*16<=140737488355328)/\(N2 (Z4U scores (aa++([z0])) ((Z0m d).1)))) (N2 (Z7U scores aa (!(aa.any (JX z0))) (Two.i z1) (Two.j z1) (Three.score ((Z0m d).2)) ((Z0m d).1)))))) (((0:Nat)=0)/\(aa.length<=1000000000)/\(Q .ret (L2 [(2,.c (sU .two (J5 aa) (.own (.e 2 0))))] []))))):Zoi [1,1,1,1,0,0,0] (Z7U scores aa ah af ae ab d) (xT N2 (xB 4 (ZlA [1,1,1,1,1] Q))):=(Eq.mpr V3 h:)
abbrev ZEC(scores:List (List Int)):Prop:=AW (Z0Z ZkJ) Tryz.f108 Zsn [] (Zg (Ztr.can (scores,())) []) (EQ Tryz.f108 (Zk7 (scores,())) [])
theorem ZD5(ZIU:CT 114 Z9J)(ZIT:CT 116 Z9I)(Zl6:CT 115 Z1x)(ZIS:CT 117 Z9H)(ZIQ:CT 119 Z9F)(hb:∀(d:List (List Int))(_:Unit),Zpa (d,())->ZEC d):CT 108 Zej:=Z1K (l:=[(114,Z9J),(116,Z9I),(115,Z1x.lend),(117,Z9H.lend),(119,Z9F)]) Zf rfl (⟨ZIU,ZIT,Zl6.lend,ZIS.lend,ZIQ,trivial⟩) Zsn Tryz.func108 rfl rfl 1 (λ_=>rfl) V0 (λ⟨d,_⟩=>hb d ())
def ZyO:List (FuncId×Fs U):=[(81,Zf9),(71,Zfi)]
def ZHU:Za U:=lvl [([0,1,2,6],[6]),([0,1,2,6,8],[6]),([0,1,2,6,8,13],[6]),([6,7],[6]),([6,7],[6])]
abbrev A65(p:List Nat):=AW (Z2 ZyO) Tryz.f65 ZHU p
theorem ZNf(at_ a b:Int)(Q:QT)(h:((Zx9 (a,b,()))/\(iB (((Y7 a b):Int)==0) ((Q .ret (L2 [pL 6,pB 7 false] [(.loc 6,[ci 0,.int .u8 0,.int .u64 0,.int .u64 0])]))) ((Zs1 (0,a,(Y7 a b),()))/\(Zs1 (0,b,(Y7 a b),()))/\(Q .ret (L2 [pL 6,pB 7 true] [(.loc 6,[ci at_,.int .u8 (Y7 a b),.int .u64 (mix 0 a (Y7 a b)),.int .u64 (mix 0 b (Y7 a b))])])))))):A65 [] (L2 [pI 0 at_,(1,.c (.int .u64 a)),(2,.c (.int .u64 b))] []) Q:=(Eq.mpr V3 h:)
abbrev ZJV(at_ a b:Int):Prop:=AW (Z2 ZyO) Tryz.f65 ZHU [] (Zg (ZA6.can (at_,a,b,())) []) (EQ Tryz.f65 (ZrH (at_,a,b,())) [])
theorem ZH4(c81:CT 81 Zf9)(c71:CT 71 Zfi)(hb:∀(at_:Int)(a:Int)(b:Int)(_:Unit),Zxc (at_,a,b,())->ZJV at_ a b):CT 65 ZjL:=Z1 (l:=[(81,Zf9),(71,Zfi)]) Zf rfl (⟨c81,c71,trivial⟩) ZHU Tryz.func65 rfl rfl 3 (λ_=>rfl) V0 (λ⟨at_,a,b,_⟩=>hb at_ a b ())
end
theorem Zu8(l:List Three)(x:Three):(Zdl l x).length=l.length+1:=by simp[Zdl,upR,Zr9]
theorem ZJ0:Contract Tryz.prog cfg 108 Zej:=by
 refine ZD5 ZIU ZIT Zl6.lend ZIS.lend ZIQ ?_;intro aa _ hp;obtain⟨h1,h2⟩:=hp;dsimp only at h1 h2;refine ZLi _ _ ?_;refine Z6 (ι:=Int×List Three) (λs=>Z7V aa s.1 s.2) (λs=>(0<=s.1/\s.1<=aa.length)/\((s.1<16->(s.2.length:Int)<=16*s.1)/\s.2.length<=256)/\Z63 aa 0 []=Z63 (aa.drop s.1.toNat) s.1 s.2) (λs=>((aa.length:Int)-s.1).toNat) (0,[]) rfl ⟨⟨Yp,Yp⟩,⟨by simp,by simp⟩,by simp⟩ ?_;rintro⟨i,r⟩⟨⟨f1,f2⟩,⟨f3,ah⟩,f4⟩;dsimp only at f1 f2 f3 ah f4;refine ZvI _ _ _ _ _ ?_;(simp only[iB,vcT,vcS]);refine⟨λhi=>⟨⟨f1,hi⟩,?_⟩,λhi=>?_⟩
 .have hl:(aa.getD i.toNat []).length<=1000000:=h2 _ (Ze Yp _);rw[Yu f1 hi ([]:List Int),Z63]at f4;generalize hL:aa.getD i.toNat []=L at*;refine Z6 (ι:=Int×List Three) (λs=>Z4V aa i s.1 s.2) (λs=>(0<=s.1/\s.1<=L.length)/\((i<16->(s.2.length:Int)<=16*i+min s.1 16)/\s.2.length<=256)/\ZjR i L 0 r=ZjR i (L.drop s.1.toNat) s.1 s.2) (λs=>((L.length:Int)-s.1).toNat) (0,r) rfl ⟨⟨Yp,V1⟩,⟨V1,ah⟩,by simp⟩ ?_;rintro⟨j,q⟩⟨⟨g1,g2⟩,⟨g3,ai⟩,g4⟩;dsimp only at g1 g2 g3 ai g4;refine ZvH _ _ _ _ _ _ _ ?_;rw[hL];(simp only[iB,vcT,vcS]);refine⟨λhj=>?_,λhj=>?_⟩
  .rw[Yu g1 hj (0:Int),ZjR]at g4;refine⟨⟨g1,hj⟩,λhe=>?_,λhe=>?_⟩;.rw[if_pos he]at g4;have hp:=Zu8 q ⟨⟨i,j⟩,L.getD j.toNat 0⟩;exact⟨by show q.length<_;omega,V2,(j+1,Zdl q ⟨⟨i,j⟩,L.getD j.toNat 0⟩),rfl,⟨⟨V1,V1⟩,⟨by dsimp only;rw[hp];omega,by dsimp only;rw[hp];omega⟩,g4⟩,V1⟩
   .rw[JH]at g4;exact⟨V2,(j+1,_),rfl,⟨⟨V1,V1⟩,⟨V1,ai⟩,g4⟩,V1⟩
  .rw[Qb Yp,ZjR]at g4;rw[g4]at f4;exact⟨V2,(i+1,q),rfl,⟨⟨V1,V1⟩,⟨V1,ai⟩,f4⟩,V1⟩
 rw[Qb Yp,Z63]at f4;refine Z6 (ι:=Option (Bool×Int×Int×Int)×List Two×List Three) (λs=>match s.1 with|none=>Z4U aa s.2.1 s.2.2|some d=>Z7U aa s.2.1 d.1 d.2.1 d.2.2.1 d.2.2.2 s.2.2) (λs=>s.2.1.length+s.2.2.length<=256/\Z2I r []=Z2I s.2.2 s.2.1) (λs=>s.2.2.length) (none,[],r) rfl ⟨by simpa using ah,rfl⟩ ?_;rintro⟨d,out,q⟩⟨g1,g2⟩;dsimp only at g1 g2;have hp:=ZfZ q;cases d with
 |none=>
  refine ZvG _ _ _ _ _ ?_;(simp only[iB,vcT,vcS]);refine⟨trivial,λhq=>⟨⟨V1,V1⟩,by show out.length<=_;omega,λha=>?_,λha=>?_⟩,λhq=>⟨Yp,?_⟩⟩
  .rw[Z2I.eq_1 q out,JH]at g2;rw[if_neg (by intro h;have h:out.any (JX ⟨(Z0m q).2.p.i,(Z0m q).2.p.j⟩)=true:=h;rw[ha]at h;cases h)]at g2;exact⟨by simp;omega,(none,out++[(Z0m q).2.p],(Z0m q).1),rfl,⟨by simp;omega,g2⟩,V1⟩
  .rw[Z2I.eq_1 q out,JH,if_pos ha]at g2;exact⟨(some (_,(Z0m q).2.p.i,(Z0m q).2.p.j,(Z0m q).2.score),out,(Z0m q).1),rfl,⟨V1,g2⟩,V1⟩
  .rw[Z2I.eq_1 q out,Y3]at g2;have e:Z0f aa=J5 out:=by rw[Z0f,f4,g2]
   simp only[Zk7,e];exact YH|some d=>
  refine ZvF _ _ _ _ _ _ _ _ _ ?_;(simp only[iB,vcT,vcS]);refine⟨trivial,λhq=>⟨⟨V1,V1⟩,by show out.length<=_;omega,λha=>?_,λha=>?_⟩,λhq=>⟨Yp,?_⟩⟩;.rw[Z2I.eq_1 q out,JH]at g2;rw[if_neg (by intro h;have h:out.any (JX ⟨(Z0m q).2.p.i,(Z0m q).2.p.j⟩)=true:=h;rw[ha]at h;cases h)]at g2;exact⟨by simp;omega,(none,out++[(Z0m q).2.p],(Z0m q).1),rfl,⟨by simp;omega,g2⟩,V1⟩
  .rw[Z2I.eq_1 q out,JH,if_pos ha]at g2;exact⟨(some (_,(Z0m q).2.p.i,(Z0m q).2.p.j,(Z0m q).2.score),out,(Z0m q).1),rfl,⟨V1,g2⟩,V1⟩
  .rw[Z2I.eq_1 q out,Y3]at g2;have e:Z0f aa=J5 out:=by rw[Z0f,f4,g2]
   simp only[Zk7,e];exact YH
theorem c65:Contract Tryz.prog cfg 65 ZjL:=by
 refine ZH4 c81 c71 ?_;intro at_ a b _ d;have hu:0<=Y7 a b/\Y7 a b<256:=Zjw _ 8;refine ZNf _ _ _ _ ?_;(simp only[iB,vcT,vcS]);refine⟨d,λh=>?_,λh=>⟨⟨⟨Yp,Yp⟩,d.1,hu⟩,⟨⟨Yp,Yp⟩,d.2,hu⟩,?_⟩⟩;.simp only[ZrH,h];exact YH
 .have e:decide (Y7 a b≠0)=true:=decide_eq_true h;simp only[ZrH,Z3w,if_neg h,e];exact YH
def Jy:List SStep->List Int->List Int->Prop|[],x,y=>x=[]/\y=[]|s::r,x,y=>1<=s.n/\((s.kind=0/\s.n<=x.length/\s.n<=y.length/\x.take s.n.toNat=y.take s.n.toNat/\Jy r (x.drop s.n.toNat) (y.drop s.n.toNat))\/(s.kind=1/\s.n<=x.length/\Jy r (x.drop s.n.toNat) y)\/(s.kind=2/\s.n<=y.length/\Jy r x (y.drop s.n.toNat)))
theorem Z2Z:∀{l m:List SStep}{x y u v:List Int},Jy l x y->Jy m u v->Jy (l++m) (x++u) (y++v)
 |[],m,x,y,u,v,⟨h1,h2⟩,h=>by subst h1;subst h2;exact h|s::r,m,x,y,u,v,h1,h=>by
  obtain⟨g,h1⟩:=h1;refine⟨g,?_⟩;rcases h1 with⟨k,a,b,c,d⟩|⟨k,a,d⟩|⟨k,b,d⟩
  .refine .inl ⟨k,by simp;omega,by simp;omega,?_,?_⟩;.rw[XB Yp,XB Yp,c]
   .rw[Xj Yp,Xj Yp];exact Z2Z d h
  .refine .inr (.inl ⟨k,by simp;omega,?_⟩);rw[Xj Yp];exact Z2Z d h
  .refine .inr (.inr ⟨k,by simp;omega,?_⟩);rw[Xj Yp];exact Z2Z d h
theorem ZpQ{z:List Int}{n:Int}(h:0<n)(e:(z.length:Int)=n):Jy [⟨0,n⟩] z z:=⟨V1,.inl ⟨rfl,V1,V1,rfl,by simp;omega,by simp;omega⟩⟩
theorem ZuF{z:List Int}{n:Int}(h:0<n)(e:(z.length:Int)=n):Jy [⟨1,n⟩] z []:=⟨V1,.inr (.inl ⟨rfl,V1,by simp;omega,rfl⟩)⟩
theorem ZuE{z:List Int}{n:Int}(h:0<n)(e:(z.length:Int)=n):Jy [⟨2,n⟩] [] z:=⟨V1,.inr (.inr ⟨rfl,V1,rfl,by simp;omega⟩)⟩
theorem Z57{l m:List SStep}{x y z:List Int}{n:Int}(e:(z.length:Int)=n)(hm:m=YQ l 0 n)(h:Jy l x y):Jy m (x++z) (y++z):=by
 subst hm;unfold YQ;split;.exact Z2Z h (ZpQ ‹_› e)
 .have:z=[]:=Q0 Yp;simpa[this]using h
theorem Z7q{l m:List SStep}{x y z:List Int}{n:Int}(e:(z.length:Int)=n)(hm:m=YQ l 1 n)(h:Jy l x y):Jy m (x++z) y:=by
 subst hm;unfold YQ;split
 .have:=Z2Z h (ZuF ‹_› e);simpa using this
 .have:z=[]:=Q0 Yp;simpa[this]using h
theorem Z3r{l m:List SStep}{x y z:List Int}{n:Int}(e:(z.length:Int)=n)(hm:m=YQ l 2 n)(h:Jy l x y):Jy m x (y++z):=by
 subst hm;unfold YQ;split
 .have:=Z2Z h (ZuE ‹_› e);simpa using this
 .have:z=[]:=Q0 Yp;simpa[this]using h
theorem Zt0(x:Int):∀{b:List Int},Z0n x b≠-1->b=b.take (Z0n x b).toNat++[x]++b.drop ((Z0n x b).toNat+1)
 |[],h=>by simp[Z0n]at h|y::r,h=>by
  by_cases hx:x=y;.simp[Z0n,hx]
  .have d:Z0n x r≠-1:=λe=>h (by simp[Z0n,hx,e]);have:=Zt0 x d;have h0:=ZaK x r;have e:Z0n x (y::r)=Z0n x r+1:=by simp[Z0n,hx,d]
   rw[e,show(Z0n x r+1).toNat=(Z0n x r).toNat+1 by omega];simp only[Kf,Qw,Qo];exact congrArg _ this
theorem Zpj{l:List SStep}{u v:List Int}(x:Int)(b:List Int)(h:Jy l u v):Jy (Zhk l x b) (u++[x]) (v++b):=by
 unfold Zhk;split;.have d:=Z7q (z:=[x]) (n:=1) rfl rfl h;exact Z3r rfl rfl d
 .rename_i hi;have h0:=ZaK x b;have e:=Zt0 x hi;have d:=Z3r (z:=b.take (Z0n x b).toNat) (n:=Z0n x b) (by simp;omega) rfl h;have h2:=Z57 (z:=[x]) (n:=1) rfl rfl d;have h3:=Z3r (z:=b.drop ((Z0n x b).toNat+1)) (n:=b.length-Z0n x b-1) (by simp;omega) rfl h2;have e2:v++b=v++b.take (Z0n x b).toNat++[x]++b.drop ((Z0n x b).toNat+1):=by rw[Q7,Q7,<-Q7 (b.take _),<-e]
  rw[e2];exact h3
theorem Z79(l:List SStep)(a b:List Int):∀{u v:List Int},Jy l u v->Jy (Z0C l a b) (u++a) (v++b):=by
 intro u v h;rw[Z0C];split;.exact Z3r rfl rfl (Z7q rfl rfl h)
 .split
  .have e:a=[a.getD 0 0]:=by match a with|[x]=>rfl
   have:=Zpj (a.getD 0 0) b h;rwa[<-e]at this
  .have d:=Z79 l (a.take (a.length/2)) (b.take (Z1W a b (a.length/2:Nat)).toNat) h;have h2:=Z79 _ (a.drop (a.length/2)) (b.drop (Z1W a b (a.length/2:Nat)).toNat) d;simpa only[Q7,Qs]using h2 termination_by a.length decreasing_by all_goals(simp;omega)
def GsL(s:Gs)(x y:List Int):Prop:=∃xo yo z xd yi:List Int,Jy s.1 xo yo/\x=xo++z++xd/\y=yo++z++yi/\(z.length:Int)=s.2.1/\(xd.length:Int)=s.2.2.1/\(yi.length:Int)=s.2.2.2/\(z=[]\/xd=[]/\yi=[])
theorem Zt3(o:List SStep)(k d i:Int):Yz (o,k,d,i) [0]=(YQ o 0 k,0,d,i):=rfl
theorem Zzk(o:List SStep)(k d i:Int):Yz (o,k,d,i) [1,2]=(YQ (YQ o 1 d) 2 i,k,0,0):=rfl
theorem ZiO(o:List SStep)(k d i:Int):(Yz (o,k,d,i) [0,1,2]).1=YQ (YQ (YQ o 0 k) 1 d) 2 i:=rfl
theorem Zou{s:Gs}{x y w:List Int}{n:Int}(h:GsL s x y)(hw:(w.length:Int)=n)(h1:1<=n)(h2:n<=1048576):GsL (Z0r s ⟨0,n⟩) (x++w) (y++w):=by
 obtain⟨o,k,d,i⟩:=s;obtain⟨xo,yo,z,xd,yi,g1,rfl,rfl,g2,g3,g4,g5⟩:=h;dsimp only at g1 g2 g3 g4;have e:Z0r (o,k,d,i) ⟨0,n⟩=(YQ (YQ o 1 d) 2 i,k+n,0,0):=by
  unfold Z0r;rw[if_neg (by simp[Z4a];omega),if_pos rfl,Zzk];try rfl
 rw[e];rcases g5 with rfl|⟨rfl,rfl⟩;.refine⟨xo++xd,yo++yi,w,[],[],Z3r g4 rfl (Z7q g3 rfl g1),by simp,by simp,by simp at g2⊢;omega,rfl,rfl,.inr ⟨rfl,rfl⟩⟩
 .have e1:d=0:=by simpa using g3.symm
  have e2:i=0:=by simpa using g4.symm
  subst e1;subst e2;exact⟨xo,yo,z++w,[],[],g1,by simp,by simp,by simp;omega,rfl,rfl,.inr ⟨rfl,rfl⟩⟩
theorem ZhO{s:Gs}{x y w:List Int}{n:Int}(h:GsL s x y)(hw:(w.length:Int)=n)(h1:1<=n)(h2:n<=1048576):GsL (Z0r s ⟨1,n⟩) (x++w) y:=by
 obtain⟨o,k,d,i⟩:=s;obtain⟨xo,yo,z,xd,yi,g1,rfl,rfl,g2,g3,g4,g5⟩:=h;dsimp only at g1 g2 g3 g4;have e:Z0r (o,k,d,i) ⟨1,n⟩=(YQ o 0 k,0,d+n,i):=by
  unfold Z0r;rw[if_neg (by simp[Z4a];omega),if_neg (by simp),Zt3];try rfl
 rw[e];exact⟨xo++z,yo++z,[],xd++w,yi,Z57 g2 rfl g1,by simp,by simp,rfl,by simp;omega,g4,.inl rfl⟩
theorem ZhN{s:Gs}{x y w:List Int}{n:Int}(h:GsL s x y)(hw:(w.length:Int)=n)(h1:1<=n)(h2:n<=1048576):GsL (Z0r s ⟨2,n⟩) x (y++w):=by
 obtain⟨o,k,d,i⟩:=s;obtain⟨xo,yo,z,xd,yi,g1,rfl,rfl,g2,g3,g4,g5⟩:=h;dsimp only at g1 g2 g3 g4;have e:Z0r (o,k,d,i) ⟨2,n⟩=(YQ o 0 k,0,d,i+n):=by
  unfold Z0r;rw[if_neg (by simp[Z4a];omega),if_neg (by simp),Zt3];try rfl
 rw[e];exact⟨xo++z,yo++z,[],xd,yi++w,Z57 g2 rfl g1,by simp,by simp,rfl,g3,by simp;omega,.inl rfl⟩
theorem Z3z:∀{l:List SStep}{s:Gs}{x y u v:List Int},Jy l u v->u.length<=1048576->v.length<=1048576->GsL s x y->GsL (l.foldl Z0r s) (x++u) (y++v)
 |[],s,x,y,u,v,⟨h1,h2⟩,_,_,h=>by subst h1;subst h2;simpa using h|⟨k,n⟩::r,s,x,y,u,v,⟨h1,h2⟩,hu,hv,h=>by
  dsimp only at h1 h2;rw[QV];rcases h2 with⟨rfl,a,b,c,d⟩|⟨rfl,a,d⟩|⟨rfl,b,d⟩;.have g:=Zou (w:=u.take n.toNat) (n:=n) h (by simp;omega) h1 Yp;have:=Z3z d (by simp;omega) (by simp;omega) g;rw[Q7,Q7,Qs,c,Qs]at this;exact this
  .have g:=ZhO (w:=u.take n.toNat) (n:=n) h (by simp;omega) h1 Yp;have:=Z3z d (by simp;omega) hv g;rw[Q7,Qs]at this;exact this
  .have g:=ZhN (w:=v.take n.toNat) (n:=n) h (by simp;omega) h1 Yp;have:=Z3z d hu (by simp;omega) g;rw[Q7 y,Qs]at this;exact this
theorem ZmY{l:List SStep}{x y:List Int}(h:Jy l x y)(hx:x.length<=1048576)(hy:y.length<=1048576):Jy (Z61 l) x y:=by have h0:GsL ([],0,0,0) [] []:=⟨[],[],[],[],[],⟨rfl,rfl⟩,rfl,rfl,rfl,rfl,rfl,.inl rfl⟩;have:=Z3z h hx hy h0;unfold Z61;generalize l.foldl Z0r ([],0,0,0)=s at this⊢;obtain⟨o,k,d,i⟩:=s;obtain⟨xo,yo,z,xd,yi,g1,e1,e2,g2,g3,g4,g5⟩:=this;rw[ZiO];rw[Qh]at e1 e2;rw[e1,e2];exact Z3r g4 rfl (Z7q g3 rfl (Z57 g2 rfl g1))
theorem ZnP{a b:List Int}{most:Int}(h:(Z65 a b most).2=true)(ha:a.length<=1048576)(hb:b.length<=1048576):Jy (Z65 a b most).1 a b:=by
 unfold Z65 at h⊢;split
 .have:=Z79 [] a b (u:=[]) (v:=[]) ⟨rfl,rfl⟩;exact ZmY (by simpa using this) ha hb
 .rename_i d;rw[if_neg d]at h;cases h
theorem Zvc(a b:List Int)(ha:a.length<=1048576)(hb:b.length<=1048576):Jy (Z61 [⟨1,a.length⟩,⟨2,b.length⟩]) a b:=by
 have h0:GsL ([],0,0,0) [] []:=⟨[],[],[],[],[],⟨rfl,rfl⟩,rfl,rfl,rfl,rfl,rfl,.inl rfl⟩;have st:∀(k:Int)(s:Gs),Z0r s ⟨k,0⟩=s:=λk s=>by unfold Z0r;rw[if_pos (by simp[Z4a])]
 have h1:GsL (Z0r ([],0,0,0) ⟨1,a.length⟩) ([]++a) []:=by
  by_cases e:a.length=0;.rw[e];have e2:=Q0 e;subst e2;exact(st 1 _).symm▸h0
  .exact ZhO h0 rfl Yp Yp
 have h2:GsL (Z0r (Z0r ([],0,0,0) ⟨1,a.length⟩) ⟨2,b.length⟩) ([]++a) ([]++b):=by
  by_cases e:b.length=0;.rw[e];have e2:=Q0 e;subst e2;exact(st 2 _).symm▸h1
  .exact ZhN h1 rfl Yp Yp
 unfold Z61;rw[QV,QV,List.foldl_nil];generalize Z0r (Z0r ([],0,0,0) ⟨1,a.length⟩) ⟨2,b.length⟩=s at h2⊢;obtain⟨o,k,d,i⟩:=s;obtain⟨xo,yo,z,xd,yi,g1,e1,e2,g2,g3,g4,g5⟩:=h2;rw[ZiO];rw[Qh]at e1 e2;rw[e1,e2];exact Z3r g4 rfl (Z7q g3 rfl (Z57 g2 rfl g1))
def Zef:List SStep->Int->Int->Prop|[],_,_=>True|s::r,n,m=>1<=s.n/\((s.kind=0/\s.n<=n/\s.n<=m/\Zef r (n-s.n) (m-s.n))\/(s.kind=1/\s.n<=n/\Zef r (n-s.n) m)\/(s.kind=2/\s.n<=m/\Zef r n (m-s.n)))
theorem Z7M:∀{l:List SStep}{x y:List Int},Jy l x y->Zef l x.length y.length
 |[],_,_,_=>trivial|s::r,x,y,⟨h1,h2⟩=>by
  refine⟨h1,?_⟩;rcases h2 with⟨k,a,b,_,d⟩|⟨k,a,d⟩|⟨k,b,d⟩
  .have:=Z7M d;rw[Qt,Qt,show((x.length-s.n.toNat:Nat):Int)=x.length-s.n by omega,show((y.length-s.n.toNat:Nat):Int)=y.length-s.n by omega]at this;exact .inl ⟨k,a,b,this⟩
  .have:=Z7M d;rw[Qt,show((x.length-s.n.toNat:Nat):Int)=x.length-s.n by omega]at this;exact .inr (.inl ⟨k,a,this⟩)
  .have:=Z7M d;rw[Qt,show((y.length-s.n.toNat:Nat):Int)=y.length-s.n by omega]at this;exact .inr (.inr ⟨k,b,this⟩)
theorem Zev:∀{l:List SStep}{n m:Int},0<=n->0<=m->Zef l n m->(l.length:Int)<=n+m
 |[],n,m,h0,h1,_=>by simp;omega|s::r,n,m,h0,h1,⟨h2,h3⟩=>by
  rw[Qa];rcases h3 with⟨k,a,b,d⟩|⟨k,a,d⟩|⟨k,b,d⟩;.have:=Zev Yp Yp d;omega
  .have:=Zev Yp h1 d;omega
  .have:=Zev h0 Yp d;omega
theorem ZCz(s:List Tree×List Int)(t:Tree):(ofS s t).2.length=s.2.length+1:=by unfold ofS;split<;>simp
theorem Z7C(known l:List Tree):(ofF known l).2.length=l.length:=by
 have:∀(l:List Tree)(s:List Tree×List Int),(l.foldl ofS s).2.length=s.2.length+l.length:=by
  intro l;induction l with
  |nil=>intro s;simp|cons t r ih=>intro s;rw[QV,ih,ZCz,Qa];omega
 simpa[ofF]using this l (known,[])
theorem Z9V(a b:Tree)(most:Int)(ha:a.kids.length<=1048576)(hb:b.kids.length<=1048576):Jy (Z1B a b most) (ofF [] a.kids).2 (ofF (ofF [] a.kids).1 b.kids).2:=by
 have d:=Z7C [] a.kids;have h2:=Z7C (ofF [] a.kids).1 b.kids;unfold Z1B;split;.exact ZnP ‹_› Yp Yp
 .have:=Zvc (ofF [] a.kids).2 (ofF (ofF [] a.kids).1 b.kids).2 Yp Yp;rwa[d,h2]at this
theorem ZoB(a b:Tree)(most:Int)(ha:a.kids.length<=1048576)(hb:b.kids.length<=1048576):Zef (Z1B a b most) a.kids.length b.kids.length:=by have:=Z7M (Z9V a b most ha hb);rwa[Z7C,Z7C]at this
theorem ZbY{P:Three->Prop}{l:List Three}{i j:Int}(h:∀x∈l,P x)(h1:0<=i/\i<l.length)(h2:0<=j/\j<l.length):∀x∈Z1u l i j,P x:=by
 intro x d;unfold Z1u at d;have a1:=h _ (Ze (l:=l) (i:=i.toNat) Yp Z1V);have a2:=h _ (Ze (l:=l) (i:=j.toNat) Yp Z1V);rcases Xw d with d|rfl
 .rcases Xw d with d|rfl;.exact h x d
  .exact a2
 .exact a1
theorem Zra{P:Three->Prop}:∀(n:Nat)(l:List Three)(j:Int),(∀x∈l,P x)->0<=j->j<l.length->∀x∈upF n l j,P x
 |0,l,j,h,_,_=>by simpa[upF]using h|n+1,l,j,h,h1,h2=>by
  rw[upF];split;.exact h
  .rename_i hc;have e:0<j->(j-1).tdiv 2=(j-1)/2:=λd=>X8 Yp;have d:0<j:=by
    by_cases hz:j=0;.subst hz;exact absurd (.inl rfl) hc
    .omega
   have e:=e d;refine Zra n _ _ (ZbY h (by rw[e];omega) ⟨h1,h2⟩) (by rw[e];omega) (by rw[YR,e];omega)
theorem ZiX{P:Three->Prop}:∀(k:Nat)(l:List Three)(i n:Int),(∀x∈l,P x)->0<=i->n<=l.length->∀x∈(Z3l k l i n).1,P x
 |0,l,i,n,h,_,_=>by simpa[Z3l]using h|k+1,l,i,n,h,h1,h2=>by
  rw[Z3l];split
  .split;.exact h
   .have d:2*i+1<=ZaI l i n/\ZaI l i n<n:=by unfold ZaI;split<;>omega
    exact ZiX k _ _ _ (ZbY h Yp Yp) Yp (by rw[YR];exact h2)
  .exact h
theorem Zu9{P:Three->Prop}{l:List Three}{x:Three}(h:∀x∈l,P x)(hx:P x):∀y∈Zdl l x,P y:=by
 unfold Zdl upR;refine Zra _ _ _ (λy d=>?_) Yp (by simp;omega);rcases Qf.1 d with d|d;.exact h y d
 .cases Qd.1 d;exact hx
theorem Zxl{P:Three->Prop}{l:List Three}(h:∀x∈l,P x)(hl:0<l.length):(∀y∈(Z0m l).1,P y)/\P (Z0m l).2:=by
 have d:∀x∈(Z1q (Z1u l 0 ((l.length:Int)-1)) 0 ((l.length:Int)-1)).1,P x:=by unfold Z1q;exact ZiX _ _ _ _ (ZbY h Yp Yp) Yp (by rw[YR];omega)
 refine⟨λy hy=>d y (QR hy),?_⟩;exact d _ (Ze (by simp[Z1q,Z83,YR];omega) Z1V)
def NoX(p q:Two):Prop:=(p.i<q.i/\p.j<q.j)\/(q.i<p.i/\q.j<p.j)
theorem ZGx{p q:Two}(h:JX p q=false):NoX p q:=by
 unfold JX at h;simp at h;unfold NoX;by_cases h1:p.i<q.i/\p.j<q.j;.exact .inl h1
 .exact .inr (h Yp)
theorem Zn0{p q:Two}(h:NoX p q):NoX q p:=h.symm
theorem ZhL{P:Two->Prop}:∀(n:Nat)(r:List Three)(out:List Two),r.length=n->(∀x∈r,P x.p)->(∀p∈out,P p)->out.Pairwise NoX->(∀p∈Z2I r out,P p)/\(Z2I r out).Pairwise NoX
 |0,r,out,hn,_,h2,h3=>by rw[Z2I,if_pos hn];exact⟨h2,h3⟩|n+1,r,out,hn,h1,h2,h3=>by
  rw[Z2I,JH];have hp:=Zxl h1 Yp;refine ZhL n _ _ (by rw[ZfZ];omega) hp.1 ?_ ?_
  .split;.exact h2
   .intro p d;rcases Qf.1 d with h|h;.exact h2 p h
    .cases Qd.1 h;exact hp.2
  .split;.exact h3
   .rename_i hc;refine K8.2 ⟨h3,List.pairwise_singleton _ _,λp d q hq=>?_⟩;cases Qd.1 hq;refine Zn0 (ZGx ?_);simp only[Kw,List.any_eq_false]at hc;simpa using hc p d
theorem ZlY{P:Three->Prop}(i:Int):∀(l:List Int)(j:Int)(r:List Three),(∀x∈r,P x)->(∀k:Nat,k<l.length->0<l.getD k 0->P ⟨⟨i,j+k⟩,l.getD k 0⟩)->∀x∈ZjR i l j r,P x
 |[],j,r,h,_=>by simpa[ZjR]using h|n::l,j,r,h,h2=>by
  rw[ZjR];refine ZlY i l (j+1) _ ?_ λk hk d=>?_
  .split;.rename_i hc;have:=h2 0 (by simp) (by simpa using hc.1.1);exact Zu9 h (by simpa using this)
   .exact h
  .have:=h2 (k+1) (by simpa using hk) (by simpa using d);simp only[XI]at this;rwa[show j+1+(k:Int)=j+((k+1:Nat):Int)by omega]
theorem ZiM{P:Three->Prop}:∀(l:List (List Int))(i:Int)(r:List Three),(∀x∈r,P x)->(∀h k:Nat,h<l.length->k<(l.getD h []).length->0<(l.getD h []).getD k 0->P ⟨⟨i+h,k⟩,(l.getD h []).getD k 0⟩)->∀x∈Z63 l i r,P x
 |[],i,r,h,_=>by simpa[Z63]using h|a::l,i,r,h,h2=>by
  rw[Z63];refine ZiM l (i+1) _ (ZlY i a 0 r h λk hk d=>?_) λg k hg hk d=>?_;.have:=h2 0 k (by simp) (by simpa using hk) (by simpa using d);simpa using this
  .have:=h2 (g+1) k (by simpa using hg) (by simpa using hk) (by simpa using d);simp only[XI]at this;rwa[show i+1+(g:Int)=i+((g+1:Nat):Int)by omega]
def Zjo(old now:List Tree)(p:Two):Prop:=(0<=p.i/\p.i<old.length)/\(0<=p.j/\p.j<now.length)/\0<JE (old.getD p.i.toNat Tree.nil) (now.getD p.j.toNat Tree.nil)
def Z8a:List Two->Int->Int->Int->Int->Prop|[],i,j,n,m=>i<=n/\j<=m|p::r,i,j,n,m=>(i<=p.i/\p.i<n)/\(j<=p.j/\p.j<m)/\Z8a r (p.i+1) (p.j+1) n m
theorem Zg3{n m:Int}:∀{l:List Two}{i j:Int},i<=n->j<=m->l.Pairwise (λp q=>p.i<q.i/\p.j<q.j)->(∀p∈l,(i<=p.i/\p.i<n)/\j<=p.j/\p.j<m)->Z8a l i j n m|[],i,j,h1,h2,_,_=>⟨h1,h2⟩|p::r,i,j,h1,h2,h3,h4=>by rw[Kh]at h3;have d:=h4 p (Q5 ..);refine⟨d.1,d.2,Zg3 Yp Yp h3.2 λq hq=>?_⟩;have h5:=h3.1 q hq;have h6:=h4 q (Q3 _ hq);omega
theorem Zal(old now:List Tree):(∀p∈Z0f (ZU old now),Zjo old now p)/\Z8a (Z0f (ZU old now)) 0 0 old.length now.length:=by
 have hh:=ZiM (P:=λx=>Zjo old now x.p) (ZU old now) 0 [] (by simp) (λh k h1 h2 d=>by
  simp only[ZU,X6]at h1;have e1:(ZU old now).getD h []=now.map (JE (old.getD h Tree.nil)):=by simp[ZU,Q6,Qz,Q1 h1]
  rw[e1]at h2 d;rw[X6]at h2;have e2:(now.map (JE (old.getD h Tree.nil))).getD k 0=JE (old.getD h Tree.nil) (now.getD k Tree.nil):=by simp[Q6,Qz,Q1 h2]
  rw[e2]at d;refine⟨⟨V1,V1⟩,⟨V1,V1⟩,?_⟩;simpa using d);have ht:=ZhL (P:=Zjo old now) _ (Z63 (ZU old now) 0 []) [] rfl hh (by simp) List.Pairwise.nil;have hs:=Zc9 (Z2I (Z63 (ZU old now) 0 []) []);have h1:∀p∈Z0f (ZU old now),Zjo old now p:=λp hp=>ht.1 p ((hs.2.1.mem_iff).1 hp);have h2:(Z0f (ZU old now)).Pairwise NoX:=(hs.2.1.pairwise_iff Zn0).2 ht.2;refine⟨h1,Zg3 Yp Yp ?_ λp hp=>⟨(h1 p hp).1,(h1 p hp).2.1⟩⟩;rw[List.pairwise_iff_getElem]at h2⊢;intro i j hi hj ae;have d:=h2 i j hi hj ae;have h4:=hs.2.2 i j ae (by have e:(Z0f (ZU old now)).length=_:=hs.1;omega);have e:∀k(hk:k<(Z0f (ZU old now)).length),(J5 (Z2I (Z63 (ZU old now) 0 []) [])).getD k ⟨0,0⟩=(Z0f (ZU old now))[k]:=λk hk=>by rw[Q6];show((Z0f (ZU old now))[k]?).getD _=_;rw[Q1 hk];try rfl
 rw[e i hi,e j hj]at h4;rcases d with d|d;.exact d
 .exact absurd d.1 h4
theorem ZkO(t:Tree)(i:Int):mass (Zo t i)<=mass t/\(0<=i->i<t.kids.length->mass (Zo t i)+1<=mass t):=by
 have d:=YU t;unfold Zo;split;.exact⟨Zv t,λh=>by omega⟩
 .by_cases h:i.toNat<t.kids.length;.have:=ZS (Ze (l:=t.kids) h Tree.nil);omega
  .have e:t.kids.getD i.toNat Tree.nil=Tree.nil:=by rw[Q6,Qq Yp];try rfl
   rw[e];exact⟨Zv t,λ_ _=>by omega⟩
theorem Z4J{a b:Tree}{i:Int}(h0:0<=i)(h:i<(a.kids.length:Int)\/i<(b.kids.length:Int)):mass (Zo a i)+mass (Zo b i)+1<=mass a+mass b:=by
 have d:=ZkO a i;have h2:=ZkO b i;rcases h with h|h;.have:=d.2 h0 h;omega
 .have:=h2.2 h0 h;omega
theorem ZdN{f g:Tree->Tree->Edit}{a b:Tree}:∀(n:Nat)(i:Int),0<=i->(∀j,0<=j->j<i+n->f (Zo a j) (Zo b j)=g (Zo a j) (Zo b j))->Z0k f a b n i=Z0k g a b n i|0,_,_,_=>rfl|n+1,i,h0,h=>by rw[Z0k,Z0k,h i h0 Yp,ZdN n (i+1) Yp λj d h2=>h j d Yp]
theorem Z8e{f g:Tree->Tree->Edit}{a b:Tree}(h:∀j:Int,0<=j->(j<a.kids.length\/j<b.kids.length)->f (Zo a j) (Zo b j)=g (Zo a j) (Zo b j)):Jz f a b=Jz g a b:=by unfold Jz;rw[ZdN _ 0 Yp λj d h2=>h j d Yp]
theorem Zan{f g:Tree->Tree->Op}{old now:List Tree}(h:∀x∈old,∀y∈now,f x y=g x y):∀(l:List Two)(i j:Int),(∀p∈l,Zjo old now p)->YY f old now l i j=YY g old now l i j|[],_,_,_=>rfl|p::r,i,j,hp=>by have d:=hp p (Q5 ..);rw[YY,YY,Zan h r _ _ λq hq=>hp q (Q3 _ hq),h _ (Ze (by have:=d.1;omega) _) _ (Ze (by have:=d.2.1;omega) _)]
theorem Zqu{f g:Tree->Tree->Op}{old now:List Tree}(h:∀x∈old,∀y∈now,f x y=g x y):Z3k f old now=Z3k g old now:=Zan h _ _ _ (Zal old now).1
theorem Z0x(gap:List Tree->List Tree->List Op)(s:SStep)(old now:List Tree):YM gap [s] old now=if s.kind=0 then[⟨0,s.n,[],Edit.nil⟩]else if s.kind=2 then ZW 2 (now.take s.n.toNat)++[]else ZW 1 (old.take s.n.toNat):=by rw[YM,YM,YM]
theorem JI(gap:List Tree->List Tree->List Op)(s t:SStep)(r:List SStep)(old now:List Tree):YM gap (s::t::r) old now=if s.kind=0 then⟨0,s.n,[],Edit.nil⟩::YM gap (t::r) (old.drop s.n.toNat) (now.drop s.n.toNat)else if s.kind=2 then ZW 2 (now.take s.n.toNat)++YM gap (t::r) old (now.drop s.n.toNat)else if t.kind=2 then gap (old.take s.n.toNat) (now.take t.n.toNat)++YM gap r (old.drop s.n.toNat) (now.drop t.n.toNat)else ZW 1 (old.take s.n.toNat)++YM gap (t::r) (old.drop s.n.toNat) now:=by rw[YM]
theorem Zpi{f g:List Tree->List Tree->List Op}:∀(n:Nat)(l:List SStep)(old now:List Tree),l.length=n->(∀u v:List Tree,(∀x∈u,x∈old)->(∀y∈v,y∈now)->f u v=g u v)->YM f l old now=YM g l old now:=by intro n;induction n using Nat.strongRecOn with|ind n ih=>
  intro l old now hn h;have d:∀(k m:Nat)(u v:List Tree),(∀x∈u,x∈old.drop k)->(∀y∈v,y∈now.drop m)->f u v=g u v:=λk m u v h1 h2=>h u v (λx hx=>Ql (h1 x hx)) (λy hy=>Ql (h2 y hy));have ai:∀(k:Nat)(u v:List Tree),(∀x∈u,x∈old.drop k)->(∀y∈v,y∈now)->f u v=g u v:=λk u v h1 h2=>h u v (λx hx=>Ql (h1 x hx)) h2;have ae:∀(m:Nat)(u v:List Tree),(∀x∈u,x∈old)->(∀y∈v,y∈now.drop m)->f u v=g u v:=λm u v h1 h2=>h u v h1 (λy hy=>Ql (h2 y hy));match l,hn with
  |[],_=>rfl|[s],hn=>rw[Z0x,Z0x]|s::t::r,hn=>
   simp only[Qa]at hn;rw[JI,JI];split;.rw[ih (t::r).length (by simp;omega) (t::r) _ _ rfl (d _ _)]
   .split;.rw[ih (t::r).length (by simp;omega) (t::r) _ _ rfl (ae _)]
    .split;.rw[ih _ Yp r _ _ rfl (d _ _),h _ _ (λx hx=>QR hx) (λy hy=>QR hy)]
     .rw[ih (t::r).length (by simp;omega) (t::r) _ _ rfl (ai _)]
theorem ZdL{f g:Tree->Tree->Op}{most:Int}{a b:Tree}(h:∀x∈a.kids,∀y∈b.kids,f x y=g x y):Z2v f most a b=Z2v g most a b:=by unfold Z2v;rw[Zpi _ _ _ _ rfl λu v d h2=>Zqu λx hx y hy=>h x (d x hx) y (h2 y hy)]
theorem Z6V{t x:Tree}(h:x∈t.kids):mass x+1<=mass t:=by have:=ZS h;have:=YU t;omega
theorem ZgV(desc:Edit->Op)(most:Int):∀(n m:Nat)(a b:Tree),mass a+mass b<=n->mass a+mass b<=m->Z52 desc most n a b=Z52 desc most m a b:=by
 intro n;induction n with
 |zero=>intro m a b h;have:=Zv a;omega|succ n ih=>intro m a b h1 d;match m,d with
  |0,d=>have:=Zv a;omega|m+1,d=>
   rw[Z52,Z52];split;.try rfl
   .split;.exact Z8e λj h0 hj=>by have:=Z4J h0 hj;exact ih m _ _ Yp Yp
    .split;.exact ZdL λx hx y hy=>by have h3:=Z6V hx;have h4:=Z6V hy;show desc _=desc _;rw[ih m x y Yp Yp]
     .try rfl
noncomputable def Z4e(desc:Edit->Op)(most:Int)(a b:Tree):Edit:=Z52 desc most (mass a+mass b) a b
theorem Zkm(desc:Edit->Op)(most:Int)(a b:Tree):Z4e desc most a b=if ZN (Z0 a) (Z0 b)=true then Edit.nil else if a.kind=1/\b.kind=1 then Jz (Z4e desc most) a b else if a.kind=b.kind/\2<=a.kind/\a.kind<=9 then Z2v (λx y=>desc (Z4e desc most x y)) most a b else .mk 1 a b [] [] 0 []:=by
 have e:mass a+mass b=(mass a+mass b-1)+1:=by have:=Zv a;omega
 unfold Z4e;rw[e,Z52];split;.try rfl
 .split;.exact Z8e λj d hj=>by have:=Z4J d hj;exact ZgV _ _ _ _ _ _ Yp (Qc _)
  .split;.exact ZdL λx hx y hy=>by have h3:=Z6V hx;have h4:=Z6V hy;show desc _=desc _;rw[ZgV desc most _ (mass x+mass y) x y Yp (Qc _)]
   .try rfl
theorem Zaq(most:Int)(a b:Tree):Z1s most a b=if ZN (Z0 a) (Z0 b)=true then Edit.nil else if a.kind=1/\b.kind=1 then Jz (Z1s most) a b else if a.kind=b.kind/\2<=a.kind/\a.kind<=9 then Z2v (λx y=>Z1r (Z1s most x y)) most a b else .mk 1 a b [] [] 0 []:=Zkm Z1r most a b
noncomputable section
def Ym:WEdit:=WEdit.mk 0 0 0 0
def JD(o:Tree)(at_:List PStep)(a b:WEdit)(i:Int)(s:List Int×List Conflict):List Int×List Conflict:=if mix 0 a.new (ZhB a.mask b.mask)=mix 0 b.new (ZhB a.mask b.mask)then(ZK 0 s.1 i.toNat (mix (mix (Zs o i) a.new a.mask) b.new b.mask),s.2)else(s.1,s.2++[Conflict.mk (at_++[PStep.mk 1 i]) (Z0 (.mk 1 [Zs o i] [])) (Z0 (.mk 1 [mix (Zs o i) a.new a.mask] [])) (Z0 (.mk 1 [mix (Zs o i) b.new b.mask] []))])
def ZC(o:Tree)(at_:List PStep):Nat->List WEdit->List WEdit->List Int×List Conflict->List Int×List Conflict|0,_,_,s=>s|n+1,p,q,s=>if p.length=0/\q.length=0 then s else if q.length=0\/(0<p.length/\(p.getD 0 Ym).at_<(q.getD 0 Ym).at_)then ZC o at_ n (p.drop 1) q (JD o at_ (p.getD 0 Ym) Ym (p.getD 0 Ym).at_ s)else if p.length=0\/(q.getD 0 Ym).at_<(p.getD 0 Ym).at_ then ZC o at_ n p (q.drop 1) (JD o at_ Ym (q.getD 0 Ym) (q.getD 0 Ym).at_ s)else ZC o at_ n (p.drop 1) (q.drop 1) (JD o at_ (p.getD 0 Ym) (q.getD 0 Ym) (p.getD 0 Ym).at_ s)
def Jb(most:Int)(a b:Tree):Edit:=ZM (Z1s most (Z0 a) (Z0 b))
def Z12(t:Tree):Bool:=decide (0<=YA t 70 400)&&Zb t 64&&decide (t.kind≠10)
end
structure Sd where
 next:Int
 out:List Tree
 mine:List Tree
 hers:List Tree
 cs:List Conflict
noncomputable section
def YX(e:Edit)(t:Tree):Tree:=Z1m ((doE false e t).map Z0)
def YW:List Kid->Int->Edit|[],_=>Edit.nil|k::r,i=>if k.at_=i then k.e else YW r i
abbrev Bo:=List PStep->Tree->Edit->Edit->List Conflict->Tree×List Conflict
def Z0z(f:Bo)(at_:List PStep)(o:Tree)(p q:List Kid):Nat->Int->List Tree->List Conflict->List Tree×List Conflict|0,_,out,cs=>(out,cs)|n+1,i,out,cs=>Z0z f at_ o p q n (i+1) (out++[(f (at_++[PStep.mk 0 i]) (Zo o i) (YW p i) (YW q i) cs).1]) (f (at_++[PStep.mk 0 i]) (Zo o i) (YW p i) (YW q i) cs).2
def Jn(l:List Kid)(n:Int):Int:=if 0<l.length then max n ((l.getD (l.length-1) (KidOf.mk 0 Edit.nil)).at_+1)else n
def Yd(o:Tree)(p q:List Kid):Int:=Jn q (Jn p o.kids.length)
def Z9s(f:Bo):Bo:=λat_ o p q cs=>(.mk 1 (ZC o at_ (p.words.length+q.words.length) p.words q.words (o.words,cs)).1 (Z0z f at_ o p.kids q.kids (Yd o p.kids q.kids).toNat 0 [] (ZC o at_ (p.words.length+q.words.length) p.words q.words (o.words,cs)).2).1,(Z0z f at_ o p.kids q.kids (Yd o p.kids q.kids).toNat 0 [] (ZC o at_ (p.words.length+q.words.length) p.words q.words (o.words,cs)).2).2)
def JW(at_:List PStep)(o:Tree)(s:Sd):Sd:=if s.mine.length=0\/eqX (Z7 s.mine) (Z7 s.hers)=true then⟨s.next,s.out++s.hers,[],[],s.cs⟩else if s.hers.length=0 then⟨s.next,s.out++s.mine,[],[],s.cs⟩else⟨s.next,s.out,[],[],s.cs++[Conflict.mk (at_++[PStep.mk 2 s.next]) (Z0 (.mk o.kind [] [])) (Z0 (.mk o.kind [] s.mine)) (Z0 (.mk o.kind [] s.hers))]⟩
def J2(f:Bo)(at_:List PStep)(o:Tree)(p q:Op)(s:Sd):Sd:=if p.kind=1/\q.kind=3 then⟨s.next+1,s.out++[o.kids.getD s.next.toNat Tree.nil],s.mine,s.hers,s.cs++[Conflict.mk (at_++[PStep.mk 0 s.next]) (Z0 (o.kids.getD s.next.toNat Tree.nil)) (Z0 Tree.nil) (Z0 (YX q.e (o.kids.getD s.next.toNat Tree.nil)))]⟩else if p.kind=3/\q.kind=1 then⟨s.next+1,s.out++[o.kids.getD s.next.toNat Tree.nil],s.mine,s.hers,s.cs++[Conflict.mk (at_++[PStep.mk 0 s.next]) (Z0 (o.kids.getD s.next.toNat Tree.nil)) (Z0 (YX p.e (o.kids.getD s.next.toNat Tree.nil))) (Z0 Tree.nil)]⟩else if p.kind=1\/q.kind=1 then⟨s.next+1,s.out,s.mine,s.hers,s.cs⟩else⟨s.next+1,s.out++[(f (at_++[PStep.mk 0 s.next]) (o.kids.getD s.next.toNat Tree.nil) p.e q.e s.cs).1],s.mine,s.hers,(f (at_++[PStep.mk 0 s.next]) (o.kids.getD s.next.toNat Tree.nil) p.e q.e s.cs).2⟩
def Z0F(g:Sd->Sd):Nat->Sd->Sd|0,s=>s|n+1,s=>Z0F g n (g s)
def Zm(f:Bo)(at_:List PStep)(o:Tree)(s:Sd)(x:Piece):Sd:=if x.of=1 then⟨s.next,s.out,s.mine++x.p.l,s.hers,s.cs⟩else if x.of=2 then⟨s.next,s.out,s.mine,s.hers++x.q.l,s.cs⟩else Z0F (J2 f at_ o x.p x.q) (max (x.p.n+x.p.l.length) 1).toNat (JW at_ o s)
def Zhp(f:Bo)(at_:List PStep)(o:Tree)(p q:Edit)(cs:List Conflict):Sd:=JW at_ o ((Zl 2 2 p.ops q.ops []).1.foldl (Zm f at_ o) ⟨0,[],[],[],cs⟩)
def ZaE(f:Bo):Bo:=λat_ o p q cs=>(.mk o.kind [] (Zhp f at_ o p q cs).out,(Zhp f at_ o p q cs).cs)
def Z0e(f:Bo):Bo:=λat_ o p q cs=>if p.kind=0 then(YX q o,cs)else if q.kind=0 then(YX p o,cs)else if p.kind=2/\q.kind=2 then Z9s f at_ o p q cs else if p.kind=3/\q.kind=3 then ZaE f at_ o p q cs else if ZN (Z0 (YX p o)) (Z0 (YX q o))=true then(YX p o,cs)else(o,cs++[Conflict.mk at_ (Z0 o) (Z0 (YX p o)) (Z0 (YX q o))])
def muM(e:Edit):Nat:=if e.kind=0 then 0 else Zi e
def ZbL:Nat->Bo|0=>λ_ o _ _ cs=>(o,cs)|n+1=>Z0e (ZbL n)
def ZY:Bo:=λat_ o p q cs=>ZbL (muM p+muM q+1) at_ o p q cs
end
theorem ZMJ(x y i:Nat):(x^^^y)/256^i%256=0↔x/256^i%256=y/256^i%256:=by
 have e:256^i=2^(8*i):=by rw[Nat.pow_mul]
 rw[e,<-XJ,<-XJ,<-XJ,Nat.shiftRight_xor_distrib,show 256=2^8 from rfl,Nat.xor_mod_two_pow];generalize x>>>(8*i)%2^8=u;generalize y>>>(8*i)%2^8=v;constructor
 .intro h;have:u^^^v^^^v=v:=by rw[h];simp
  rwa[Nat.xor_assoc,Nat.xor_self,Nat.xor_zero]at this
 .intro h;rw[h,Nat.xor_self]
theorem ZO5(c:Nat->Prop)[DecidablePred c](f:Nat->Int)(h0:f 0=0)(hs:∀n,f (n+1)=f n+(if c n then 0 else 2^n))(i:Nat):∀n:Nat,(0<=f n/\f n<2^n)/\(f n/2^i%2=1↔(i<n/\¬c i)):=by intro n;induction n with
 |zero=>rw[h0];simp|succ n d=>
  obtain⟨⟨a,b⟩,d⟩:=d;have p:(0:Int)<2^n:=Xp V0;have q:(0:Int)<2^i:=Xp V0;have e2:(2:Int)^(n+1)=2^n*2:=XO ..;rw[hs];by_cases h:c n
  .rw[if_pos h,Int.add_zero];refine⟨⟨a,Yp⟩,d.trans ?_⟩;constructor;.rintro⟨x,y⟩;exact⟨Yp,y⟩
   .rintro⟨x,y⟩;by_cases hi:i=n;.subst hi;exact absurd h y
    .exact⟨Yp,y⟩
  .rw[if_neg h];refine⟨⟨Yp,Yp⟩,?_⟩;rcases Nat.lt_trichotomy i n with hi|hi|hi
   .obtain⟨k,rfl⟩:∃k,n=i+1+k:=⟨n-(i+1),Yp⟩;have e:(2:Int)^(i+1+k)=2^i*(2*2^k):=by rw[Int.pow_add,XO,Int.mul_assoc]
    rw[e,Int.add_mul_ediv_left _ _ Yp,Int.add_mul_emod_self_left,d];constructor;.rintro⟨x,y⟩;exact⟨Yp,y⟩
    .rintro⟨x,y⟩;exact⟨Yp,y⟩
   .subst hi;have e:(f i+2^i)/2^i=1:=by
     have:f i+2^i=f i+2^i*1:=Yp;rw[this,Int.add_mul_ediv_left _ _ Yp,Int.ediv_eq_zero_of_lt a b];try rfl
    rw[e];simp[h]
   .obtain⟨k,rfl⟩:∃k,i=n+1+k:=⟨i-(n+1),Yp⟩;have p2:(2:Int)^(n+1)<=2^(n+1+k):=by rw[Int.pow_add 2 (n+1) k];have:(0:Int)<2^k:=Xp V0;have h3:=Int.mul_le_mul_of_nonneg_left (a:=1) (b:=2^k) (c:=2^(n+1)) Yp Yp;rwa[Int.mul_one]at h3
    rw[Int.ediv_eq_zero_of_lt Yp Yp];simp;omega
theorem Zh3(n i:Nat):Zd (n:Int) i=((n/256^i%256:Nat):Int):=by unfold Zd;rw[Kt,Ku,Kx];try rfl
theorem Zvp{x y:Nat}(hx:x<2^64)(hy:y<2^64):ZeK x y=((x^^^y:Nat):Int):=by
 have e:((BitVec.ofInt 64 (x:Int)^^^BitVec.ofInt 64 (y:Int)).toNat)=(x^^^y):=by rw[BitVec.toNat_xor,BitVec.toNat_ofInt,BitVec.toNat_ofInt];congr 1<;>omega
 have h:=Nat.xor_lt_two_pow hx hy;have d:ZeK x y=IntKind.wrap .u64 (((BitVec.ofInt 64 (x:Int)^^^BitVec.ofInt 64 (y:Int)).toNat:Nat):Int):=rfl;rw[d,e];exact Int.emod_eq_of_lt Yp (by show _<(18446744073709551616:Int);omega)
theorem Zvo{a b:Int}(ha:isW a)(hb:isW b)(i:Nat):Zd (ZeK a b) i=0↔Zd a i=Zd b i:=by obtain⟨a0,a1⟩:=ha;obtain⟨d,b1⟩:=hb;obtain⟨x,rfl⟩:=QH a0;obtain⟨y,rfl⟩:=QH d;rw[Zvp Yp Yp,Zh3,Zh3,Zh3];have:=ZMJ x y i;omega
theorem ZhE(x:Int)(i:Nat):(0<=Z8b x 8/\Z8b x 8<256)/\(Z04 (Z8b x 8) (i:Int)=true↔i<8/\Zd x i≠0):=by have h:=ZO5 (λn=>Zd x n=0) (Z8b x) rfl (λn=>rfl) i 8;refine⟨h.1,?_⟩;unfold Z04;rw[decide_eq_true_eq];exact h.2
theorem ZtO(a b:Int):0<=Y7 a b/\Y7 a b<256:=(ZhE _ 0).1
theorem Z9o{a b:Int}(ha:isW a)(hb:isW b){i:Nat}(h:i<8):Z04 (Y7 a b) (i:Int)=true↔Zd a i≠Zd b i:=by
 have h1:=(ZhE (ZeK a b) i).2;have d:=Zvo ha hb i;unfold Y7;rw[h1];constructor;.exact λx e=>x.2 (d.2 e)
 .exact λx=>⟨h,λe=>x (d.1 e)⟩
theorem ZlH{a b:Int}(ha:isW a)(hb:isW b)(h:Y7 a b=0):a=b:=by
 refine Zh2 ha hb λi d=>?_;by_cases e:Zd a i=Zd b i;.exact e
 .have:=(Z9o ha hb d).2 e;rw[h]at this;simp[Z04]at this
theorem Zpq{a b:Int}(ha:isW a)(hb:isW b):mix a (mix 0 b (Y7 a b)) (Y7 a b)=b:=by refine Zh2 (Z25 _ _ _) hb λi d=>?_;have h:=Z9o ha hb d;rw[Z97 d,Z97 d];grind
theorem Zdy(a m:Int):Yr (mix 0 a m) m=true:=by refine ZbT λi d hn=>?_;rw[Z97 d,hn];exact ZzC i
theorem Zvs(i a b:Int):Yr (Z3w i a b).old (Z3w i a b).mask=true/\Yr (Z3w i a b).new (Z3w i a b).mask=true:=⟨Zdy _ _,Zdy _ _⟩
theorem ZtG{i:Int}(h:InR i)(a b:Int):JT (Z3w i a b):=⟨h,ZtO _ _,Z25 _ _ _,Z25 _ _ _⟩
theorem Z8I{t:Tree}(h:rng t):∀x∈t.words,isW x:=by cases t;exact h.2.1
theorem ZhV{t:Tree}(h:rng t):ZV t.kids:=by cases t;exact h.2.2
theorem Z2V:∀{l:List Tree},ZV l->∀t∈l,rng t
 |a::r,h,t,ht=>by
  rcases Q9.1 ht with rfl|ht;.exact h.1
  .exact Z2V h.2 t ht
theorem Z6m:∀{l:List Tree},(∀t∈l,rng t)->ZV l|[],_=>trivial|a::r,h=>⟨h a Q5,Z6m λt d=>h t (Q3 _ d)⟩
theorem Zcb:rng Tree.nil:=by trivial
theorem Zzf:isW 0:=by unfold isW;omega
theorem ZeP{t:Tree}(h:rng t)(i:Int):isW (Zs t i):=by
 have d:=Z8I h;unfold Zs;split;.exact Zzf
 .by_cases hi:i.toNat<t.words.length;.exact d _ (Ze hi 0)
  .rw[Q6,Qq Yp];exact Zzf
theorem ZbS{a b:Tree}(ra:rng a)(rb:rng b):∀(n:Nat)(i:Int)(out:List Int),0<=i->(∀j:Nat,(j:Int)<i->out.getD j 0=b.words.getD j 0)->(∀j:Nat,i<=j->out.getD j 0=a.words.getD j 0)->(∀j:Nat,i+n<=j->a.words.getD j 0=b.words.getD j 0)->∃r,wsD a.words (Z0o a b n i) out=some r/\Zvk r b.words
 |0,i,out,_,h1,h2,h3=>by
  refine⟨out,rfl,λj=>?_⟩;by_cases h:(j:Int)<i;.exact h1 j h
  .rw[h2 j Yp,h3 j Yp]|n+1,i,out,h0,h1,h2,h3=>by
  have wa:=ZeP ra i;have wb:=ZeP rb i;rw[Z0o];have ei:∀j:Nat,(j:Int)<i+1->¬(j:Int)<i->j=i.toNat:=λj _ _=>by omega
  split
  .rename_i hu;have e:=ZlH wa wb hu;rw[Z1R a h0,Z1R b h0]at e;rw[Qh];refine ZbS ra rb n (i+1) out Yp (λj d=>?_) (λj d=>h2 j Yp) (λj d=>h3 j Yp);by_cases h:(j:Int)<i;.exact h1 j h
   .rw[h2 j Yp,ei j d h,e]
  .rw[Qo,Qh,wsD];have e1:(Z3w i (Zs a i) (Zs b i)).at_=i:=rfl;have e2:(Z3w i (Zs a i) (Zs b i)).mask=Y7 (Zs a i) (Zs b i):=rfl;have e3:(Z3w i (Zs a i) (Zs b i)).old=mix 0 (Zs a i) (Y7 (Zs a i) (Zs b i)):=rfl;have e4:(Z3w i (Zs a i) (Zs b i)).new=mix 0 (Zs b i) (Y7 (Zs a i) (Zs b i)):=rfl;rw[e1,e2,e3,e4,<-Z1R a h0,if_pos rfl,Zpq wa wb];refine ZbS ra rb n (i+1) _ Yp (λj d=>?_) (λj d=>?_) (λj d=>h3 j Yp)
   .rw[YJ];by_cases h:(j:Int)<i;.rw[JH,h1 j h]
    .rw[if_pos (ei j d h),Z1R b h0,ei j d h]
   .rw[YJ,JH,h2 j Yp]
theorem Z8x{a b:Tree}:∀(n:Nat)(i last:Int),last<i->asc WEdit.at_ last (Z0o a b n i)
 |0,_,_,_=>trivial|n+1,i,last,h=>by
  rw[Z0o];split;.exact Z8x n (i+1) last Yp
  .exact⟨h,Z8x n (i+1) i Yp⟩
theorem ZeO(a b:Tree):∀(n:Nat)(i:Int),(Z0o a b n i).length<=n|0,_=>Qc _|n+1,i=>by have:=ZeO a b n (i+1);rw[Z0o];split<;>simp<;>omega
theorem Z8w{a b:Tree}:∀{n:Nat}{i:Int}{w:WEdit},w∈Z0o a b n i->∃j:Int,i<=j/\j<i+n/\w=Z3w j (Zs a j) (Zs b j)/\w.mask≠0
 |0,_,_,h=>by cases h|n+1,i,w,h=>by
  rw[Z0o]at h;rcases Qf.1 h with h|h
  .split at h;.cases h
   .rename_i hu;rw[Qd]at h;subst h;exact⟨i,Yp,Yp,rfl,hu⟩
  .obtain⟨j,h1,h2,d⟩:=Z8w h;exact⟨j,Yp,Yp,d⟩
theorem Zjs{a b:Tree}{n:Nat}(hn:n<=65535):Ye (-1) (Z0o a b n 0)=true/\∀w∈Z0o a b n 0,JT w:=by
 refine⟨Z8v (Z8x n 0 (-1) Yp) λw d=>?_,λw d=>?_⟩;.obtain⟨j,h1,h2,rfl,h3⟩:=Z8w d;exact⟨by show j<=65534;omega,h3,Zvs _ _ _⟩
 .obtain⟨j,h1,h2,rfl,h3⟩:=Z8w d;exact ZtG V2 _ _
def wt(t:Tree):Nat:=if t.kind=0 then 0 else mass t
theorem ZlB(t:Tree):wt t<=mass t:=by unfold wt;split<;>omega
theorem Zr4{t:Tree}(h:t.kind≠0):wt t=mass t:=if_neg h
structure To(e:Edit)(a b:Tree):Prop where
 r:Z8 e (-1)=true
 g:YF e
 do_:∃u,doE false e a=some u/\Eqv u b
 s:e.kind=0->e=Edit.nil
 m:e.kind≠0->Zi e+1<=5*(wt a+wt b)
def wtK:List Tree->Nat|[]=>0|t::r=>wt t+wtK r
theorem Zoj:∀l:List Tree,wtK l<=Z5 l|[]=>Qc _|t::r=>by have:=ZlB t;have:=Zoj r;simp only[wtK,Z5];omega
theorem Zgw{f:Tree->Tree->Edit}{a b:Tree}:∀(n:Nat)(i:Int)(out:List Tree),0<=i->(∀j:Int,i<=j->j<i+n->To (f (Zo a j) (Zo b j)) (Zo a j) (Zo b j))->(∀j:Nat,(j:Int)<i->Eqv (out.getD j Tree.nil) (b.kids.getD j Tree.nil))->(∀j:Nat,i<=j->out.getD j Tree.nil=a.kids.getD j Tree.nil)->(∀j:Nat,i+n<=j->a.kids.getD j Tree.nil=b.kids.getD j Tree.nil)->∃r,Z0c false a.kids (Z0k f a b n i) out=some r/\Zr2 r b.kids
 |0,i,out,_,_,h1,h2,h3=>by
  refine⟨out,rfl,λj=>?_⟩;by_cases h:(j:Int)<i;.exact h1 j h
  .rw[h2 j Yp,h3 j Yp];exact rfl|n+1,i,out,h0,H,h1,h2,h3=>by
  obtain⟨u,hu,hq⟩:=(H i Yp Yp).do_;have ei:∀j:Nat,(j:Int)<i+1->¬(j:Int)<i->j=i.toNat:=λj _ _=>by omega
  have H':∀j:Int,i+1<=j->j<i+1+n->To (f (Zo a j) (Zo b j)) (Zo a j) (Zo b j):=λj x y=>H j Yp Yp;rw[Z0k];split
  .rename_i hk;rw[Jj,Y1,if_pos hk]at hu;rw[Qh];refine Zgw n (i+1) out Yp H' (λj d=>?_) (λj d=>h2 j Yp) (λj d=>h3 j Yp);by_cases h:(j:Int)<i;.exact h1 j h
   .rw[h2 j Yp,ei j d h,<-Jl a h0,<-Jl b h0,Option.some.inj hu];exact hq
  .rw[Qo,Qh,Z0c,Z7e];dsimp only;rw[<-Jl a h0,hu,Qr];refine Zgw n (i+1) _ Yp H' (λj d=>?_) (λj d=>?_) (λj d=>h3 j Yp)
   .rw[YJ];by_cases h:(j:Int)<i;.rw[JH];exact h1 j h
    .rw[if_pos (ei j d h),ei j d h,<-Jl b h0];exact hq
   .rw[YJ,JH,h2 j Yp]
theorem ZlC(l:List Tree)(i:Nat):wtK (l.drop i)=wt (l.getD i Tree.nil)+wtK (l.drop (i+1)):=by
 by_cases h:i<l.length;.rw[QD h,Q6,Q1 h];try rfl
 .rw[Qb Yp,Qb Yp,Q6,Qq Yp];try rfl
theorem Zgv{f:Tree->Tree->Edit}{a b:Tree}:∀(n:Nat)(i:Int),0<=i->(∀j:Int,i<=j->j<i+n->To (f (Zo a j) (Zo b j)) (Zo a j) (Zo b j))->Zr (Z0k f a b n i)<=5*(wtK (a.kids.drop i.toNat)+wtK (b.kids.drop i.toNat))
 |0,_,_,_=>QI _|n+1,i,h0,H=>by
  have d:=Zgv n (i+1) Yp λj x y=>H j Yp Yp;have h2:=(H i Yp Yp).m;rw[ZlC,ZlC b.kids,<-Jl a h0,<-Jl b h0];rw[show(i+1).toNat=i.toNat+1 by omega]at d;rw[Z0k];split;.rw[Qh];omega
  .rename_i hk;have:=h2 hk;rw[Qo,Qh,Zr,Yg];omega
theorem ZcK{f:Tree->Tree->Edit}{a b:Tree}:∀(n:Nat)(i last:Int),last<i->asc KidOf.at_ last (Z0k f a b n i)
 |0,_,_,_=>trivial|n+1,i,last,h=>by
  rw[Z0k];split;.exact ZcK n (i+1) last Yp
  .exact⟨h,ZcK n (i+1) i Yp⟩
theorem ZcJ{f:Tree->Tree->Edit}{a b:Tree}:∀{n:Nat}{i:Int}{k:Kid},k∈Z0k f a b n i->∃j:Int,i<=j/\j<i+n/\k=⟨j,f (Zo a j) (Zo b j)⟩/\k.e.kind≠0
 |0,_,_,h=>by cases h|n+1,i,w,h=>by
  rw[Z0k]at h;rcases Qf.1 h with h|h
  .split at h;.cases h
   .rename_i hu;rw[Qd]at h;subst h;exact⟨i,Yp,Yp,rfl,hu⟩
  .obtain⟨j,h1,h2,d⟩:=ZcJ h;exact⟨j,Yp,Yp,d⟩
theorem Zos{f:Tree->Tree->Edit}{a b:Tree}(ka:a.kind=1)(kb:b.kind=1)(ra:Zb a (-1)=true)(rb:Zb b (-1)=true)(ga:rng a)(gb:rng b)(H:∀j:Int,0<=j->(j<a.kids.length\/j<b.kids.length)->To (f (Zo a j) (Zo b j)) (Zo a j) (Zo b j)):To (Jz f a b) a b:=by
 have pa:=(J4 ra Yp Yp).1 ka;have pb:=(J4 rb Yp Yp).1 kb;have hw:=Zjs (a:=a) (b:=b) (n:=max a.words.length b.words.length) Yp;have H':∀j:Int,0<=j->j<0+(max a.kids.length b.kids.length:Nat)->To (f (Zo a j) (Zo b j)) (Zo a j) (Zo b j):=λj d h2=>H j d Yp;have hk:∀k∈Z0k f a b (max a.kids.length b.kids.length) 0,(k.at_<=65534/\k.e.kind≠0/\Z8 k.e (-2)=true)/\InR k.at_/\YF k.e:=by intro k hk;obtain⟨j,d,h2,rfl,h3⟩:=ZcJ hk;have ht:=H' j d h2;exact⟨⟨by show j<=65534;omega,h3,YT _ _ _ V0 ht.r⟩,by show InR j;unfold InR;omega,ht.g⟩
 refine⟨Zi6 hw.1 (Z8Q (ZcK _ 0 (-1) Yp) λk hq=>(hk k hq).1),?_,?_,λh=>absurd (show(2:Int)=0 from h) V0,λ_=>?_⟩;.exact⟨Yc V0 V0,Zcb,Zcb,hw.2,Yc V0 V0,ZfC λk hq=>(hk k hq).2,trivial⟩
 .obtain⟨w,d,h2⟩:=ZbS ga gb (max a.words.length b.words.length) 0 a.words Yp (λj hj=>by omega) (λj _=>rfl) (λj hj=>by rw[Q6,Q6,Qq Yp,Qq Yp]);obtain⟨k,h3,h4⟩:=Zgw (max a.kids.length b.kids.length) 0 a.kids Yp H' (λj hj=>by omega) (λj _=>rfl) (λj hj=>by rw[Q6,Q6,Qq Yp,Qq Yp]);refine⟨.mk 1 w k,?_,?_⟩;.rw[Jj,Y1];simp only[Jz];change(if(2:Int)=0 then _ else if(2:Int)=1 then _ else if(2:Int)=2 then(if a.kind=1 then(wsD a.words (Z0o a b (max a.words.length b.words.length) 0) a.words).bind λx=>(Z0c false a.kids (Z0k f a b (max a.kids.length b.kids.length) 0) a.kids).map λy=>Tree.mk 1 x y else none)else _)=_;rw[if_neg V0,if_neg V0,if_pos rfl,if_pos ka,d,Qr,h3,Qk]
  .exact(Z5H rfl kb).2 ⟨h2,h4⟩
 .have d:=Zgv _ 0 Yp H';have h2:=ZeO a b (max a.words.length b.words.length) 0;have h3:=Zoj a.kids;have h4:=Zoj b.kids;rw[Zr4 Yp,Zr4 Yp];simp only[Jz,Zi,XE,QC]at d⊢;have h5:mass a=1+a.words.length+Z5 a.kids:=by cases a;rfl
  have h6:mass b=1+b.words.length+Z5 b.kids:=by cases b;rfl
  have h7:mass Tree.nil=1:=rfl;simp only[Zh,Qm];omega
def Jd(e:Edit):Op:=if e.kind=0 then⟨0,1,[],e⟩else Z1r e
structure ToL(list:Int)(os:List Op)(u v:List Tree):Prop where
 r:∀o∈os,Z9 list o (-2)=true
 g:∀o∈os,Yt o
 la:∀z:Int,0<=z->z<=1048576->Z1H os z=min (z+u.length) 1048576
 lb:∀z:Int,0<=z->z<=1048576->Z1G os z=min (z+v.length) 1048576
 m:Zh os+os.length<=5*(Z5 u+Z5 v)do_:∀rest out:List Tree,∃w,Y6 false os (u++rest) out=some (out++w,rest)/\EqvL w v
theorem Zng:∀(a b:List Op)(z:Int),Z1H (a++b) z=Z1H b (Z1H a z)|[],_,_=>rfl|o::r,b,z=>by rw[Qo,Z1H,Z1H,Zng r b]
theorem Znf:∀(a b:List Op)(z:Int),Z1G (a++b) z=Z1G b (Z1G a z)|[],_,_=>rfl|o::r,b,z=>by rw[Qo,Z1G,Z1G,Znf r b]
theorem EqvL.app{a b c d:List Tree}(h:EqvL a b)(hx:EqvL c d):EqvL (a++c) (b++d):=Z23 h hx
theorem ZdD:∀a b:List Op,Zh (a++b)=Zh a+Zh b|[],b=>(QQ _).symm|o::r,b=>by rw[Qo,Zh,Zh,ZdD r b,Kl]
theorem Z5w:∀a b:List Tree,Z5 (a++b)=Z5 a+Z5 b|[],b=>(QQ _).symm|o::r,b=>by rw[Qo,Z5,Z5,Z5w r b,Kl]
theorem Yl:∀l:List Tree,l.length<=Z5 l|[]=>Qc _|t::r=>by have:=Zv t;have:=Yl r;simp only[Z5,Qa];omega
theorem Z5u(o:Op):Zh [o]=Z5 o.l+Zi o.e:=by cases o;rfl
theorem Zcz:Zi Edit.nil=3:=rfl
theorem ToL.nil(list:Int):ToL list [] [] []:=
 {r:=λ_ h=>(nomatch h),g:=λ_ h=>(nomatch h),la:=λz h1 h2=>by show z=min (z+(0:Nat)) 1048576;omega,lb:=λz h1 h2=>by show z=min (z+(0:Nat)) 1048576;omega
  m:=QI _,do_:=λd out=>⟨[],by rw[Y6,Qi];rfl,rfl⟩}
theorem ToL.app{list:Int}{os ps:List Op}{u v u' v':List Tree}(h:ToL list os u v)(k:ToL list ps u' v'):ToL list (os++ps) (u++u') (v++v'):=by
 refine⟨λo ho=>(Qf.1 ho).elim (h.r o) (k.r o),λo ho=>(Qf.1 ho).elim (h.g o) (k.g o),λz h1 h2=>?_,λz h1 h2=>?_,?_,λd out=>?_⟩;.have e1:=h.la z h1 h2;rw[Zng,e1,k.la _ Yp Yp,Q8];omega
 .have e1:=h.lb z h1 h2;rw[Znf,e1,k.lb _ Yp Yp,Q8];omega
 .have:=h.m;have:=k.m;rw[ZdD,Z5w,Z5w,Q8];omega
 .obtain⟨w,h1,h2⟩:=h.do_ (u'++d) out;obtain⟨x,k1,k2⟩:=k.do_ d (out++w);refine⟨w++x,?_,h2.app k2⟩;rw[Z3n,Q7,h1,Qr];dsimp only;rw[k1,Q7]
structure KidQ(list:Int)(t:Tree):Prop where
 b:Z0P list t=true
 r:Zb t (-1)=true
 g:rng t
theorem Zd8{list:Int}(hl:2<=list/\list<=9){l:List Tree}(h:∀t∈l,KidQ list t):Yy (-1) list l=true:=Z1U λt d=>Zcc hl (h t d).b (h t d).r
theorem ZIq{n:Int}(h0:0<=n)(h:n<=1048576):InR n:=V2
theorem Z9Z:YF Edit.nil:=⟨Yc V0 V0,Zcb,Zcb,by simp,Yc V0 V0,trivial,trivial⟩
theorem Z8C{list:Int}(hl:2<=list/\list<=9){l:List Tree}(h:∀t∈l,KidQ list t):ToL list (ZW 1 l) l []:=by
 unfold ZW;split
 .rename_i e;rw[Q0 e];exact ToL.nil list
 .rename_i e;have e':l≠[]:=λx=>e (by rw[x];rfl);refine⟨λo ho=>?_,λo ho=>?_,λz h1 h2=>?_,λz h1 h2=>?_,?_,λd out=>⟨[],?_,rfl⟩⟩
  .rw[Qd]at ho;subst ho;exact Z4v (.inl rfl) (by rw[Z9f V0];exact Zd8 hl h) e'
  .rw[Qd]at ho;subst ho;exact⟨Yc V0 V0,Yc V0 V0,Z6m λt ht=>(h t ht).g,Z9Z⟩
  .simp[Z1H,Z4]
  .simp[Z1G]
  .have:=Yl l;have:=XH.2 e';rw[Z5u];dsimp only;rw[Zcz];simp only[Qp,Z5];omega
  .have hg:Z05 l (l++d)=true:=(Z30 l _).2 ⟨by simp,by simp⟩;rw[Z3m,Yo];dsimp only;rw[if_neg V0,if_pos rfl,if_pos hg];simp
theorem Z8D{list:Int}(hl:2<=list/\list<=9){l:List Tree}(h:∀t∈l,KidQ list t):ToL list (ZW 2 l) [] l:=by
 unfold ZW;split
 .rename_i e;rw[Q0 e];exact ToL.nil list
 .rename_i e;have e':l≠[]:=λx=>e (by rw[x];rfl);refine⟨λo d=>?_,λo d=>?_,λz h1 h2=>?_,λz h1 h2=>?_,?_,λab out=>⟨l,?_,rfl⟩⟩
  .rw[Qd]at d;subst d;exact Z4v (.inr rfl) (by rw[Z9f V0];exact Zd8 hl h) e'
  .rw[Qd]at d;subst d;exact⟨Yc V0 V0,Yc V0 V0,Z6m λt ht=>(h t ht).g,Z9Z⟩
  .simp[Z1H]
  .simp[Z1G,Z4]
  .have:=Yl l;have:=XH.2 e';rw[Z5u];dsimp only;rw[Zcz];simp only[Qp,Z5];omega
  .rw[Z3m,Yo];dsimp only;rw[if_neg V0,if_neg V0,if_pos rfl];try rfl
theorem ZsW(list:Int){u v:List Tree}{n:Int}(h1:1<=n)(h2:n<=1048576)(hu:(u.length:Int)=n)(h:EqvL u v):ToL list [⟨0,n,[],Edit.nil⟩] u v:=by
 have hv:=h.len;refine⟨λo d=>?_,λo d=>?_,λz h1 h2=>?_,λz h1 h2=>?_,?_,λae out=>⟨u,?_,h⟩⟩;.rw[Qd]at d;subst d;exact Zsa h1 h2 _
 .rw[Qd]at d;subst d;exact⟨Yc V0 V0,ZIq Yp h2,trivial,Z9Z⟩
 .simp[Z1H,Z4];omega
 .simp[Z1G,Z4];omega
 .have:=Yl u;rw[Z5u];dsimp only;rw[Zcz];simp only[Qp,Z5];omega
 .rw[Z3m,Yo];dsimp only;have e:n.toNat=u.length:=Yp;rw[if_pos rfl,e,if_pos (by simp)];simp
theorem ZDQ{list:Int}(hl:7<list){e:Edit}{x y:Tree}(h:To e x y)(hw:e.kind≠0->Wl list e):ToL list [Jd e] [x] [y]:=by
 obtain⟨u,hd,hq⟩:=h.do_;by_cases hk:e.kind=0
 .have e1:Jd e=⟨0,1,[],Edit.nil⟩:=by unfold Jd;rw[if_pos hk,h.s hk]
  rw[Jj,Y1,if_pos hk]at hd;rw[e1];refine ZsW list V0 V0 rfl ?_;rw[Option.some.inj hd];exact Z22.2 hq
 .have e1:Jd e=⟨3,0,[],e⟩:=by unfold Jd;rw[if_neg hk];try rfl
  rw[e1];refine⟨λo ho=>?_,λo ho=>?_,λz h1 h2=>?_,λz h1 h2=>?_,?_,λd out=>⟨[u],?_,Z22.2 hq⟩⟩;.rw[Qd]at ho;subst ho;exact Zkk (YT _ _ _ V0 h.r) hk hl (hw hk)
  .rw[Qd]at ho;subst ho;exact⟨Yc V0 V0,Yc V0 V0,trivial,h.g⟩
  .simp[Z1H,Z4]
  .simp[Z1G,Z4]
  .have h1:=h.m hk;have:=ZlB x;have:=ZlB y;rw[Z5u];simp only[Qp,Z5];omega
  .rw[Z3m,Yo];dsimp only;rw[if_neg V0,if_neg V0,if_neg V0,if_neg (by simp)];have e2:([x]++d).getD 0 Tree.nil=x:=rfl;rw[e2,hd];try rfl
theorem Zez{l:List Tree}{i j:Int}:∀t∈Zht l i j,t∈l:=λt d=>QR (Ql d)
theorem ZnK{l:List Tree}{i p:Int}(h0:0<=i)(h1:i<=p)(h2:p<l.length):l.drop i.toNat=Zht l i p++([l.getD p.toNat Tree.nil]++l.drop (p+1).toNat):=by
 obtain⟨a,rfl⟩:=QH h0;obtain⟨c,rfl⟩:=QH (show 0<=p by omega);have hc:c<l.length:=Yp;have e:l.drop c=[l.getD c Tree.nil]++l.drop (c+1):=by rw[QD hc,Q6,Q1 hc];try rfl
 show l.drop a=(l.take c).drop a++([l.getD c Tree.nil]++l.drop (c+1));rw[<-e,List.drop_take];have d:l.drop c=(l.drop a).drop (c-a):=by rw[XR];congr 1;omega
 rw[d,Qs]
theorem Zix{list:Int}(hl:2<=list/\list<=9){mk:Tree->Tree->Op}{old now:List Tree}(ho:∀t∈old,KidQ list t)(hn:∀t∈now,KidQ list t):∀(l:List Two)(i j:Int),0<=i->0<=j->Z8a l i j old.length now.length->(∀p∈l,ToL list [mk (old.getD p.i.toNat Tree.nil) (now.getD p.j.toNat Tree.nil)] [old.getD p.i.toNat Tree.nil] [now.getD p.j.toNat Tree.nil])->ToL list (YY mk old now l i j) (old.drop i.toNat) (now.drop j.toNat)|[],i,j,_,_,_,_=>by rw[YY];have h:=(Z8C hl (l:=old.drop i.toNat) λt d=>ho t (Ql d)).app (Z8D hl (l:=now.drop j.toNat) λt d=>hn t (Ql d));rwa[Qi,Qh]at h|p::r,i,j,hi,hj,⟨h1,h2,h3⟩,hp=>by rw[YY,ZnK hi h1.1 h1.2,ZnK hj h2.1 h2.2];have h:=(Z8C hl (l:=Zht old i p.i) λt d=>ho t (Zez t d)).app (Z8D hl (l:=Zht now j p.j) λt d=>hn t (Zez t d));rw[Qi,Qh]at h;exact h.app ((hp p Q5).app (Zix hl ho hn r (p.i+1) (p.j+1) Yp Yp h3 λq hq=>hp q (Q3 _ hq)))
def Cls(x y:List Int)(old now:List Tree):Prop:=x.length=old.length/\y.length=now.length/\∀i j:Nat,i<x.length->j<y.length->x.getD i 0=y.getD j 0->Eqv (old.getD i Tree.nil) (now.getD j Tree.nil)
theorem Cls.drop{x y:List Int}{old now:List Tree}(h:Cls x y old now)(n m:Nat):Cls (x.drop n) (y.drop m) (old.drop n) (now.drop m):=by obtain⟨d,h2,h3⟩:=h;refine⟨by simp[d],by simp[h2],λi j hi hj e=>?_⟩;rw[Qt]at hi hj;have:=h3 (n+i) (m+j) Yp Yp;simp only[Q6,Qy]at e this⊢;exact this e
theorem Zt5:∀{a b:List Tree},a.length=b.length->(∀i,i<a.length->Eqv (a.getD i Tree.nil) (b.getD i Tree.nil))->EqvL a b|[],[],_,_=>rfl|x::r,y::s,hl,h=>by have d:=h 0 (by simp);have h2:=Zt5 (a:=r) (b:=s) (by simpa using hl) λi hi=>h (i+1) (by simpa using hi);exact EqvL.app (a:=[x]) (b:=[y]) (Z22.2 d) h2
theorem Cls.keep{x y:List Int}{old now:List Tree}(h:Cls x y old now){n:Nat}(hx:n<=x.length)(hy:n<=y.length)(e:x.take n=y.take n):EqvL (old.take n) (now.take n):=by
 obtain⟨h1,h2,h3⟩:=h;refine Zt5 (by simp;omega) λi hi=>?_;rw[Qu]at hi;have d:x.getD i 0=y.getD i 0:=by
  have:=congrArg (λl=>l.getD i 0) e;simp only[Q6,QZ]at this⊢;rwa[Y3,Y3]at this
 have:=h3 i i Yp Yp d;simp only[Q6,QZ]at this⊢;rwa[Y3,Y3]
theorem ZsZ(t:Tree):∀l:List Tree,Z3v t l=-1\/(0<=Z3v t l/\Z3v t l<l.length/\Eqv (l.getD (Z3v t l).toNat Tree.nil) t)
 |[]=>.inl rfl|k::r=>by
  rw[Z3v];split;.rename_i h;exact .inr ⟨V0,by simp,YS.1 h⟩
  .rcases ZsZ t r with h|⟨h1,h2,h3⟩;.rw[if_pos h];exact .inl rfl
   .rw[JH];refine .inr ⟨Yp,by simp;omega,?_⟩;rw[show(Z3v t r+1).toNat=(Z3v t r).toNat+1 by omega];exact h3
structure Num(known:List Tree)(x:List Int)(l:List Tree):Prop where
 n:x.length=l.length
 h:∀i,i<l.length->(0<=x.getD i 0/\x.getD i 0<known.length)/\Eqv (known.getD (x.getD i 0).toNat Tree.nil) (l.getD i Tree.nil)
theorem Num.more{known:List Tree}{x:List Int}{l:List Tree}(h:Num known x l)(m:List Tree):Num (known++m) x l:=by refine⟨h.n,λi hi=>?_⟩;obtain⟨⟨d,h2⟩,h3⟩:=h.h i hi;refine⟨⟨d,by rw[Q8];omega⟩,?_⟩;rw[Q6,QB Yp,<-Q6];exact h3
theorem Num.snoc{known:List Tree}{x:List Int}{l:List Tree}(h:Num known x l){n:Int}{t:Tree}(h0:0<=n/\n<known.length)(hq:Eqv (known.getD n.toNat Tree.nil) t):Num known (x++[n]) (l++[t]):=by
 refine⟨by simp[h.n],λi hi=>?_⟩;rw[Q8,Qp]at hi;by_cases hl:i<l.length
 .have:=h.h i hl;have e:=h.n;simp only[Q6]at this⊢;rwa[QB Yp,QB Yp]
 .have e:=h.n;have d:i=l.length:=Yp;subst d;simp only[Q6]at hq⊢;rw[Qv Yp,Qv Yp,e];simp only[Kq,Xl,Xf];exact⟨h0,hq⟩
theorem ZCy{known:List Tree}{x:List Int}{l:List Tree}(h:Num known x l)(t:Tree):∃m,(ofS (known,x) t).1=known++m/\Num (known++m) (ofS (known,x) t).2 (l++[t]):=by
 unfold ofS;rcases ZsZ t known with e|⟨h1,h2,h3⟩
 .rw[if_pos e];refine⟨[t],rfl,(h.more [t]).snoc ⟨Yp,by simp;omega⟩ ?_⟩;rw[show((known.length:Int)).toNat=known.length by omega,Q6,Qv Yp];simp only[Kq,Xl,Xf];exact rfl
 .rw[if_neg V1];refine⟨[],(Qi _).symm,?_⟩;rw[Qi];exact h.snoc ⟨h1,h2⟩ h3
theorem Zas:∀(l k:List Tree)(known:List Tree)(x:List Int),Num known x k->∃m,(l.foldl ofS (known,x)).1=known++m/\Num (known++m) (l.foldl ofS (known,x)).2 (k++l)
 |[],k,known,x,h=>⟨[],(Qi _).symm,by rw[Qi,Qi];exact h⟩|t::r,k,known,x,h=>by
  obtain⟨m,h1,h2⟩:=ZCy h t;rw[QV];have e:ofS (known,x) t=(known++m,(ofS (known,x) t).2):=by rw[<-h1]
  obtain⟨m',h3,d⟩:=Zas r (k++[t]) (known++m) _ h2;rw[e];refine⟨m++m',?_,?_⟩;.rw[h3,Q7]
  .rw[Q7 k [t] r]at d;rw[<-Q7];exact d
theorem Zsc(known l:List Tree):∃m,(ofF known l).1=known++m/\Num (known++m) (ofF known l).2 l:=Zas l [] known [] ⟨rfl,λi d=>by cases d⟩
theorem ZIB(a b:List Tree):Cls (ofF [] a).2 (ofF (ofF [] a).1 b).2 a b:=by obtain⟨m,h1,d⟩:=Zsc [] a;obtain⟨m',h3,h4⟩:=Zsc (ofF [] a).1 b;rw[<-h1]at d;have d:=d.more m';refine⟨d.n,h4.n,λi j hi hj e=>?_⟩;rw[d.n]at hi;rw[h4.n]at hj;have h5:=(d.h i hi).2;have h6:=(h4.h j hj).2;rw[<-e]at h6;exact Xm (Eq.symm h5) h6
theorem ZCt{list:Int}(hl:2<=list/\list<=9){gap:List Tree->List Tree->List Op}:∀(n:Nat)(l:List SStep)(x y:List Int)(old now:List Tree),l.length=n->x.length<=1048576->Jy l x y->Cls x y old now->(∀t∈old,KidQ list t)->(∀t∈now,KidQ list t)->(∀u v:List Tree,(∀t∈u,t∈old)->(∀t∈v,t∈now)->ToL list (gap u v) u v)->ToL list (YM gap l old now) old now:=by intro n;induction n using Nat.strongRecOn with|ind n ih=>
  intro l x y old now hn hx hL hC ho hw hg;have dr:∀(l:List Tree)(k:Nat),(∀t∈l,KidQ list t)->∀t∈l.drop k,KidQ list t:=λl k h t ht=>h t (Ql ht);have tk:∀(l:List Tree)(k:Nat),(∀t∈l,KidQ list t)->∀t∈l.take k,KidQ list t:=λl k h t ht=>h t (QR ht);have ak:∀(i j:Nat)(u v:List Tree),(∀t∈u,t∈old.drop i)->(∀t∈v,t∈now.drop j)->ToL list (gap u v) u v:=λi j u v h1 h2=>hg u v (λt ht=>Ql (h1 t ht)) (λt ht=>Ql (h2 t ht));have ar:∀(l:List Tree)(k:Nat),l=l.take k++l.drop k:=λl k=>(Qs k l).symm;match l,hn with
  |[],_=>
   obtain⟨h1,h2⟩:=hL;obtain⟨c1,c2,_⟩:=hC;rw[h1]at c1;rw[h2]at c2;rw[Q0 c1.symm,Q0 c2.symm];exact ToL.nil list|s::r,hn=>
   obtain⟨h1,h2⟩:=hL;have c:=hC;obtain⟨c1,c2,_⟩:=c;simp only[Qa]at hn;rcases h2 with⟨k,a,b,e,d⟩|⟨k,a,d⟩|⟨k,b,d⟩
   .have e1:YM gap (s::r) old now=[⟨0,s.n,[],Edit.nil⟩]++YM gap r (old.drop s.n.toNat) (now.drop s.n.toNat):=by cases r with|nil=>rw[Z0x,if_pos k,YM];try rfl|cons t r=>rw[JI,if_pos k];try rfl
    rw[e1];have h:=(ZsW list h1 Yp (by simp;omega) (hC.keep (n:=s.n.toNat) Yp Yp e)).app (ih r.length Yp r _ _ _ _ rfl (by simp;omega) d (hC.drop s.n.toNat s.n.toNat) (dr _ _ ho) (dr _ _ hw) (ak _ _));rwa[Qs,Qs]at h
   .have sg:=Z8C hl (tk _ s.n.toNat ho);by_cases ht:∃t r',r=t::r'/\t.kind=2
    .obtain⟨t,r',rfl,kt⟩:=ht;rw[JI,JH,JH,if_pos kt];obtain⟨g1,g2⟩:=d;rcases g2 with⟨k',_⟩|⟨k',_⟩|⟨_,b',d'⟩;.omega
     .omega
     simp only[Qa]at hn;have h:=(hg (old.take s.n.toNat) (now.take t.n.toNat) (λq hq=>QR hq) (λq hq=>QR hq)).app (ih r'.length Yp r' _ _ _ _ rfl (by simp;omega) d' (hC.drop s.n.toNat t.n.toNat) (dr _ _ ho) (dr _ _ hw) (ak _ _));rwa[Qs,Qs]at h
    .have e1:YM gap (s::r) old now=ZW 1 (old.take s.n.toNat)++YM gap r (old.drop s.n.toNat) now:=by cases r with|nil=>rw[Z0x,JH,JH,YM,Qi]|cons t r=>rw[JI,JH,JH,if_neg (λh=>ht ⟨t,r,rfl,h⟩)]
     rw[e1];have h:=sg.app (ih r.length Yp r _ _ _ _ rfl (by simp;omega) d (hC.drop s.n.toNat 0) (dr _ _ ho) hw λu v h1 h2=>hg u v (λt ht=>Ql (h1 t ht)) h2);rwa[Qs,Qh]at h
   .have e1:YM gap (s::r) old now=ZW 2 (now.take s.n.toNat)++YM gap r old (now.drop s.n.toNat):=by cases r with|nil=>rw[Z0x,JH,if_pos k,YM]|cons t r=>rw[JI,JH,if_pos k]
    rw[e1];have h:=(Z8D hl (tk _ s.n.toNat hw)).app (ih r.length Yp r _ _ _ _ rfl hx d (hC.drop 0 s.n.toNat) ho (dr _ _ hw) λu v h1 h2=>hg u v h1 (λt ht=>Ql (h2 t ht)));rwa[Qs,Qh]at h
end Go.AM.YtnfbomhidainjaaGreat
