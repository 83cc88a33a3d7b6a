import Derived.Test.YtfapacabjkhepaaGreatWKL22m
import Derived.Test.YtfapacabjkhepaaGreatWKB23b
import Derived.Test.YtfapacabjkhepaaGreatWCL25g
import Derived.Test.YtfapacabjkhepaaGreatWKD22
import Derived.Test.YtfapacabjkhepaaGreatWCL25l
set_option linter.unusedSimpArgs false
set_option linter.unusedVariables false
namespace Go.AM.YtfapacabjkhepaaGreat
open Go.AM Go.Proofs
noncomputable section
def ZoQ(a:Edit × Edit × Unit):V U:= .tup [(true,(enc .edit ((Z1e a.1 a.2.1).1))),(false,[.bool ((Z1e a.1 a.2.1).2)])]
def Zez:Fs U:=fs Zo3 (fun a=> [Z2b a]) ZoQ
def ZmE(a:WEdit × WEdit × Unit):Prop:=wOk a.1/\wOk a.2.1
def Z5d:Fs U:=fs ZqF (fun a=> [ZmE a]) ZiG
def ZqB:ArgL (List WEdit × Int × Unit):=(.cons (aSl .wedit) (.cons (Ya .i64) .nil))
def ZiP(a:List WEdit × Int × Unit):Prop:=(a.1).length<=1000000
def ZiF(a:List WEdit × Int × Unit):V U:= .tup [(true,(enc .wedit ((Z1D a.1 a.2.1).getD (WEdit.mk 0 0 0 0)))),(false,[.bool ((Z1D a.1 a.2.1).isSome)])]
def Z5e:Fs U:=fs ZqB (fun a=> [ZiP a]) ZiF
def ZbO(a:List Kid × Int × Unit):Prop:=(a.1).length<=1000000
def ZiD(a:List Kid × Int × Unit):V U:= .agg (enc .edit (JA a.1 a.2.1))
def Z5c:Fs U:=fs Z9f (fun a=> [ZbO a]) ZiD
def Zqv:ArgL (List Int × List Int × Unit):=(.cons (aSl .int) (.cons (aSl .int) .nil))
def ZiM(a:List Int × List Int × Unit):Prop:=(a.1).length<=1000000/\(a.2.1).length<=1000000
def Zmp(a:List Int × List Int × Unit):V U:= .c (sU .int (Ye a.1 a.2.1) .unk)
def Z9u:Fs U:=fs Zqv (fun a=> [ZiM a]) Zmp
def ZmF(a:Edit × Edit × Unit):Prop:=((a.1).words.length<=1000000/\(a.1).kids.length<=1000000)/\(a.2.1).words.length<=1000000/\(a.2.1).kids.length<=1000000
def Zu0(a:Edit × Edit × Unit):V U:= .tup [(false,[sU .int (Ye ((a.1).words.map WEdit.at_) ((a.2.1).words.map WEdit.at_)) .unk]),(false,[sU .int (Ye ((a.1).kids.map KidOf.at_) ((a.2.1).kids.map KidOf.at_)) .unk])]
def Z5f:Fs U:=fs Zo3 (fun a=> [ZmF a]) Zu0
def Zd5(a:Edit × Edit × Unit):Nat:=8*(Z8 a.1+Z8 a.2.1)+1
def Z5p(a:Edit × Edit × Unit):V U:= .tup [(true,(enc .edit ((YX a.1 a.2.1).1))),(false,[.bool ((YX a.1 a.2.1).2)])]
def Z73:Fs U:=fs Zo3 (fun a=> [Z2b a]) Z5p
def Z6j(a:Edit × Edit × Unit):Prop:=Edit.kind a.1=2/\Edit.kind a.2.1=2/\Ym a.1/\Ym a.2.1
def Z5n(a:Edit × Edit × Unit):V U:= .tup [(true,(enc .edit ((ZgL a.1 a.2.1).1))),(false,[.bool ((ZgL a.1 a.2.1).2)])]
def Zov:Fs U:=fs Zo3 (fun a=> [Z6j a]) Z5n
def Z6i(a:Edit × Edit × Unit):Prop:=Edit.kind a.1=3/\Edit.kind a.2.1=3/\Ym a.1/\Ym a.2.1
def Z5m(a:Edit × Edit × Unit):V U:= .tup [(true,(enc .edit ((ZgM a.1 a.2.1).1))),(false,[.bool ((ZgM a.1 a.2.1).2)])]
def Zou:Fs U:=fs Zo3 (fun a=> [Z6i a]) Z5m
def Z5I:ArgL (AUnit × AUnit × Unit):=(.cons (aEl .unit) (.cons (aEl .unit) .nil))
def Z6h(a:AUnit × AUnit × Unit):Prop:=(uOk a.1/\uOk a.2.1)/\AUnit.kind a.1≠1/\AUnit.kind a.2.1≠2
def ZfS(a:AUnit × AUnit × Unit):Nat:=8*(Z8 a.1.e+Z8 a.2.1.e)+2
def Z5l(a:AUnit × AUnit × Unit):V U:= .tup [(false,[sU .op ((JJ YX a.1 a.2.1).1) .unk]),(false,[.bool ((JJ YX a.1 a.2.1).2)])]
def Zoq:Fs U:=fs Z5I (fun a=> [Z6h a]) Z5l
def ZvY:List (FuncId × Fs U):=[(104,Z74),(42,Z2Z)]
abbrev A68(p:List Nat):=AW (Z1 ZvY) Tryz.f68 ZDZ p
theorem ZIS(p q:Edit)(Q:QT)(h:∀ y_1,y_1=p->∀ y_2,y_2=q->∀ y_3,y_3=((Yy y_1 y_2).1)->((Z2b (y_1,y_2,()))/\(iB (!((Yy y_1 y_2).2)) ((Q .ret (L2 [pL 4,pB 5 false] [(.loc 4,zc1)]))) ((Z3H (y_3,()))/\(Q .ret (L2 [pL 4,pB 5 true] [(.loc 4,(enc .edit (Zz y_3)))])))))):
  A68 [] (L2 [(0,.agg (enc .edit p)),(1,.agg (enc .edit q))] []) Q:=
 Eq.mpr V4 (h _ (Z7 _) _ (Z7 _) _ (Z7 _))
def ZFK(p q:Edit):Prop:=AW (Z1 ZvY) Tryz.f68 ZDZ [] (Zg (Zo3.can (p,q,())) []) (EQ Tryz.f68 (ZoQ (p,q,())) [])
theorem ZD9(ZEN:CT 104 Z74)(c42:CT 42 Z2Z)(hb:∀ (p:Edit) (q:Edit) (_:Unit),Z2b (p,q,())->ZFK p q):CT 68 Zez:=
 Z2 (l:=[(104,Z74),(42,Z2Z)]) Zi rfl (⟨ZEN,c42,trivial⟩) ZDZ Tryz.func68 rfl rfl 2 (fun _=> rfl) V2 (fun ⟨p,q,_⟩=> hb p q ())
def Zpr:Zd U:=lvl [([2,3,4],[2,3,4]),([2,3,4,6],[2,3,4,6]),([2,3,4,6,7,8,9,10],[2,3,4,6,7,8,9,10]),([2,3,4,6,7,8,9,10,11],[2,3,4,6,7,8,9,10]),([2,3,4,6,7,8,9,10,11,12],[2,3,4,6,7,8,9,10]),([2,3,4,6,7,8,9,10,11,12,13,14],[2,3,4,6,7,8,9,10,13,14]),([2,3,4,6,7,8,9,10,11,12,13,14,15],[2,3,4,6,7,8,9,10,13,14]),([2,3,4,6,7,8,9,10,11,12,13,14,15,34],[2,3,4,6,7,8,9,10,13,14]),([2,3,4,6,7,8,9,10,11,12,13,14,15],[2,3,4,6,7,8,9,10,13,14]),([2,3,4,6,7,8,9,10,11,12,13,14,15,16,17],[2,3,4,6,7,8,9,10,13,14]),([2,3,4,6,7,8,9,10,11,12,13,14,15,16,17,57],[2,3,4,6,7,8,9,10,13,14]),([4,5],[4]),([2,3,4,6,7,8,9,10,11,12,13,14,15,16,17,62],[2,3,4,6,7,8,9,10,13,14]),([2,3,4,6,7,8,9,10,11,12,13,14,15,16,17,62],[2,3,4,6,7,8,9,10,13,14]),([2,3,4,6,7,8,9,10,11,12,13,14,15,16,17],[2,3,4,6,7,8,9,10,13,14]),([2,3,4,6,7,8,9,10,11,12,13,14,15,16,17,68],[2,3,4,6,7,8,9,10,13,14]),([2,3,4,6,7,8,9,10,11,12,13,14,15,16,17],[2,3,4,6,7,8,9,10,13,14]),([2,3,4,6,7,8,9,10,11,12,13,14,15,16,17,68],[2,3,4,6,7,8,9,10,13,14]),([2,3,4,6,7,8,9,10,11,12,13,14,15,16,17,79],[2,3,4,6,7,8,9,10,13,14]),([2,3,4,6,7,8,9,10,11,12,13,14,15,16,17,79],[2,3,4,6,7,8,9,10,13,14]),([2,3,4,6,7,8,9,10,11,12,13,14,15,89],[2,3,4,6,7,8,9,10,13,14]),([2,3,4,6,7,8,9,10,11,12,13,14,15,89],[2,3,4,6,7,8,9,10,13,14]),([4,6,13,14],[4,6,13,14]),([4,6,14],[4,6,14]),([4,6],[4,6]),([4,5],[4])]
def Z0Z(p q:WEdit)(x11 x12 x15 ml13_0 ml13_1 ml13_2 ml13_3 ml13_4 ml13_5 ml13_6 ml13_7 ml14_0 ml14_1 ml14_2 ml14_3 ml14_4 ml14_5 ml14_6 ml14_7:Int):LSt U:=(L2 [pL 2,pL 3,pL 4,pL 6,pL 7,pL 8,pL 9,pL 10,pI 11 x11,pI 12 x12,pL 13,pL 14,pI 15 x15] [(.loc 2,(enc .wedit p)),(.loc 3,(enc .wedit q)),(.loc 4,[ci 0,.int .u8 0,.int .u64 0,.int .u64 0]),(.loc 6,[ci p.at_,.int .u8 0,.int .u64 0,.int .u64 0]),(.loc 7,[.int .u8 (Z0 p.old 0),.int .u8 (Z0 p.old 1),.int .u8 (Z0 p.old 2),.int .u8 (Z0 p.old 3),.int .u8 (Z0 p.old 4),.int .u8 (Z0 p.old 5),.int .u8 (Z0 p.old 6),.int .u8 (Z0 p.old 7)]),(.loc 8,[.int .u8 (Z0 p.new 0),.int .u8 (Z0 p.new 1),.int .u8 (Z0 p.new 2),.int .u8 (Z0 p.new 3),.int .u8 (Z0 p.new 4),.int .u8 (Z0 p.new 5),.int .u8 (Z0 p.new 6),.int .u8 (Z0 p.new 7)]),(.loc 9,[.int .u8 (Z0 q.old 0),.int .u8 (Z0 q.old 1),.int .u8 (Z0 q.old 2),.int .u8 (Z0 q.old 3),.int .u8 (Z0 q.old 4),.int .u8 (Z0 q.old 5),.int .u8 (Z0 q.old 6),.int .u8 (Z0 q.old 7)]),(.loc 10,[.int .u8 (Z0 q.new 0),.int .u8 (Z0 q.new 1),.int .u8 (Z0 q.new 2),.int .u8 (Z0 q.new 3),.int .u8 (Z0 q.new 4),.int .u8 (Z0 q.new 5),.int .u8 (Z0 q.new 6),.int .u8 (Z0 q.new 7)]),(.loc 13,[.int .u8 ml13_0,.int .u8 ml13_1,.int .u8 ml13_2,.int .u8 ml13_3,.int .u8 ml13_4,.int .u8 ml13_5,.int .u8 ml13_6,.int .u8 ml13_7]),(.loc 14,[.int .u8 ml14_0,.int .u8 ml14_1,.int .u8 ml14_2,.int .u8 ml14_3,.int .u8 ml14_4,.int .u8 ml14_5,.int .u8 ml14_6,.int .u8 ml14_7])])
def Z7D(p q:WEdit)(x11 x15 ml13_0 ml13_1 ml13_2 ml13_3 ml13_4 ml13_5 ml13_6 ml13_7 ml14_0 ml14_1 ml14_2 ml14_3 ml14_4 ml14_5 ml14_6 ml14_7 x12_a:Int):LSt U:=(L2 [pL 2,pL 3,pL 4,pL 6,pL 7,pL 8,pL 9,pL 10,pI 11 x11,pI 12 x12_a,pL 13,pL 14,pI 15 x15,pB 16 (ZB p.mask x15),pB 17 (ZB q.mask x15),pB 62 (bif (ZB p.mask x15) then true else (ZB q.mask x15))] [(.loc 2,(enc .wedit p)),(.loc 3,(enc .wedit q)),(.loc 4,[ci 0,.int .u8 0,.int .u64 0,.int .u64 0]),(.loc 6,[ci p.at_,.int .u8 0,.int .u64 0,.int .u64 0]),(.loc 7,[.int .u8 (Z0 p.old 0),.int .u8 (Z0 p.old 1),.int .u8 (Z0 p.old 2),.int .u8 (Z0 p.old 3),.int .u8 (Z0 p.old 4),.int .u8 (Z0 p.old 5),.int .u8 (Z0 p.old 6),.int .u8 (Z0 p.old 7)]),(.loc 8,[.int .u8 (Z0 p.new 0),.int .u8 (Z0 p.new 1),.int .u8 (Z0 p.new 2),.int .u8 (Z0 p.new 3),.int .u8 (Z0 p.new 4),.int .u8 (Z0 p.new 5),.int .u8 (Z0 p.new 6),.int .u8 (Z0 p.new 7)]),(.loc 9,[.int .u8 (Z0 q.old 0),.int .u8 (Z0 q.old 1),.int .u8 (Z0 q.old 2),.int .u8 (Z0 q.old 3),.int .u8 (Z0 q.old 4),.int .u8 (Z0 q.old 5),.int .u8 (Z0 q.old 6),.int .u8 (Z0 q.old 7)]),(.loc 10,[.int .u8 (Z0 q.new 0),.int .u8 (Z0 q.new 1),.int .u8 (Z0 q.new 2),.int .u8 (Z0 q.new 3),.int .u8 (Z0 q.new 4),.int .u8 (Z0 q.new 5),.int .u8 (Z0 q.new 6),.int .u8 (Z0 q.new 7)]),(.loc 13,[.int .u8 ml13_0,.int .u8 ml13_1,.int .u8 ml13_2,.int .u8 ml13_3,.int .u8 ml13_4,.int .u8 ml13_5,.int .u8 ml13_6,.int .u8 ml13_7]),(.loc 14,[.int .u8 ml14_0,.int .u8 ml14_1,.int .u8 ml14_2,.int .u8 ml14_3,.int .u8 ml14_4,.int .u8 ml14_5,.int .u8 ml14_6,.int .u8 ml14_7])])
def Zci(p q:WEdit)(x11 x15 x12_a:Int)(v68_b:V U)(ml13_0_b ml13_1_b ml13_2_b ml13_3_b ml13_4_b ml13_5_b ml13_6_b ml13_7_b ml14_0_b ml14_1_b ml14_2_b ml14_3_b ml14_4_b ml14_5_b ml14_6_b ml14_7_b:Int):LSt U:=(L2 [pL 2,pL 3,pL 4,pL 6,pL 7,pL 8,pL 9,pL 10,pI 11 ((2:Int)*x11),pI 12 x12_a,pL 13,pL 14,pI 15 x15,pB 16 (ZB p.mask x15),pB 17 (ZB q.mask x15),(68,v68_b)] [(.loc 2,(enc .wedit p)),(.loc 3,(enc .wedit q)),(.loc 4,[ci 0,.int .u8 0,.int .u64 0,.int .u64 0]),(.loc 6,[ci p.at_,.int .u8 0,.int .u64 0,.int .u64 0]),(.loc 7,[.int .u8 (Z0 p.old 0),.int .u8 (Z0 p.old 1),.int .u8 (Z0 p.old 2),.int .u8 (Z0 p.old 3),.int .u8 (Z0 p.old 4),.int .u8 (Z0 p.old 5),.int .u8 (Z0 p.old 6),.int .u8 (Z0 p.old 7)]),(.loc 8,[.int .u8 (Z0 p.new 0),.int .u8 (Z0 p.new 1),.int .u8 (Z0 p.new 2),.int .u8 (Z0 p.new 3),.int .u8 (Z0 p.new 4),.int .u8 (Z0 p.new 5),.int .u8 (Z0 p.new 6),.int .u8 (Z0 p.new 7)]),(.loc 9,[.int .u8 (Z0 q.old 0),.int .u8 (Z0 q.old 1),.int .u8 (Z0 q.old 2),.int .u8 (Z0 q.old 3),.int .u8 (Z0 q.old 4),.int .u8 (Z0 q.old 5),.int .u8 (Z0 q.old 6),.int .u8 (Z0 q.old 7)]),(.loc 10,[.int .u8 (Z0 q.new 0),.int .u8 (Z0 q.new 1),.int .u8 (Z0 q.new 2),.int .u8 (Z0 q.new 3),.int .u8 (Z0 q.new 4),.int .u8 (Z0 q.new 5),.int .u8 (Z0 q.new 6),.int .u8 (Z0 q.new 7)]),(.loc 13,[.int .u8 ml13_0_b,.int .u8 ml13_1_b,.int .u8 ml13_2_b,.int .u8 ml13_3_b,.int .u8 ml13_4_b,.int .u8 ml13_5_b,.int .u8 ml13_6_b,.int .u8 ml13_7_b]),(.loc 14,[.int .u8 ml14_0_b,.int .u8 ml14_1_b,.int .u8 ml14_2_b,.int .u8 ml14_3_b,.int .u8 ml14_4_b,.int .u8 ml14_5_b,.int .u8 ml14_6_b,.int .u8 ml14_7_b])])
def Zch(p q:WEdit)(x11 x15 x12_a ml14_0_b ml14_1_b ml14_2_b ml14_3_b ml14_4_b ml14_5_b ml14_6_b ml14_7_b ml13_0_c ml13_1_c ml13_2_c ml13_3_c ml13_4_c ml13_5_c ml13_6_c ml13_7_c:Int):LSt U:=(L2 [pL 2,pL 3,pL 4,pL 6,pL 7,pL 8,pL 9,pL 10,pI 11 ((2:Int)*x11),pI 12 x12_a,pL 13,pL 14,pI 15 x15,pB 16 (ZB p.mask x15),pB 17 (ZB q.mask x15),pB 79 (ZB p.mask x15)] [(.loc 2,(enc .wedit p)),(.loc 3,(enc .wedit q)),(.loc 4,[ci 0,.int .u8 0,.int .u64 0,.int .u64 0]),(.loc 6,[ci p.at_,.int .u8 0,.int .u64 0,.int .u64 0]),(.loc 7,[.int .u8 (Z0 p.old 0),.int .u8 (Z0 p.old 1),.int .u8 (Z0 p.old 2),.int .u8 (Z0 p.old 3),.int .u8 (Z0 p.old 4),.int .u8 (Z0 p.old 5),.int .u8 (Z0 p.old 6),.int .u8 (Z0 p.old 7)]),(.loc 8,[.int .u8 (Z0 p.new 0),.int .u8 (Z0 p.new 1),.int .u8 (Z0 p.new 2),.int .u8 (Z0 p.new 3),.int .u8 (Z0 p.new 4),.int .u8 (Z0 p.new 5),.int .u8 (Z0 p.new 6),.int .u8 (Z0 p.new 7)]),(.loc 9,[.int .u8 (Z0 q.old 0),.int .u8 (Z0 q.old 1),.int .u8 (Z0 q.old 2),.int .u8 (Z0 q.old 3),.int .u8 (Z0 q.old 4),.int .u8 (Z0 q.old 5),.int .u8 (Z0 q.old 6),.int .u8 (Z0 q.old 7)]),(.loc 10,[.int .u8 (Z0 q.new 0),.int .u8 (Z0 q.new 1),.int .u8 (Z0 q.new 2),.int .u8 (Z0 q.new 3),.int .u8 (Z0 q.new 4),.int .u8 (Z0 q.new 5),.int .u8 (Z0 q.new 6),.int .u8 (Z0 q.new 7)]),(.loc 13,[.int .u8 ml13_0_c,.int .u8 ml13_1_c,.int .u8 ml13_2_c,.int .u8 ml13_3_c,.int .u8 ml13_4_c,.int .u8 ml13_5_c,.int .u8 ml13_6_c,.int .u8 ml13_7_c]),(.loc 14,[.int .u8 ml14_0_b,.int .u8 ml14_1_b,.int .u8 ml14_2_b,.int .u8 ml14_3_b,.int .u8 ml14_4_b,.int .u8 ml14_5_b,.int .u8 ml14_6_b,.int .u8 ml14_7_b])])
def Zcg(p q:WEdit)(x11 x15 x12_a ml13_0_c ml13_1_c ml13_2_c ml13_3_c ml13_4_c ml13_5_c ml13_6_c ml13_7_c ml14_0_d ml14_1_d ml14_2_d ml14_3_d ml14_4_d ml14_5_d ml14_6_d ml14_7_d:Int):LSt U:=(L2 [pL 2,pL 3,pL 4,pL 6,pL 7,pL 8,pL 9,pL 10,pI 11 ((2:Int)*x11),pI 12 x12_a,pL 13,pL 14,pI 15 x15,pB 89 (bif (ZB p.mask x15) then (!(ZB q.mask x15)) else false)] [(.loc 2,(enc .wedit p)),(.loc 3,(enc .wedit q)),(.loc 4,[ci 0,.int .u8 0,.int .u64 0,.int .u64 0]),(.loc 6,[ci p.at_,.int .u8 0,.int .u64 0,.int .u64 0]),(.loc 7,[.int .u8 (Z0 p.old 0),.int .u8 (Z0 p.old 1),.int .u8 (Z0 p.old 2),.int .u8 (Z0 p.old 3),.int .u8 (Z0 p.old 4),.int .u8 (Z0 p.old 5),.int .u8 (Z0 p.old 6),.int .u8 (Z0 p.old 7)]),(.loc 8,[.int .u8 (Z0 p.new 0),.int .u8 (Z0 p.new 1),.int .u8 (Z0 p.new 2),.int .u8 (Z0 p.new 3),.int .u8 (Z0 p.new 4),.int .u8 (Z0 p.new 5),.int .u8 (Z0 p.new 6),.int .u8 (Z0 p.new 7)]),(.loc 9,[.int .u8 (Z0 q.old 0),.int .u8 (Z0 q.old 1),.int .u8 (Z0 q.old 2),.int .u8 (Z0 q.old 3),.int .u8 (Z0 q.old 4),.int .u8 (Z0 q.old 5),.int .u8 (Z0 q.old 6),.int .u8 (Z0 q.old 7)]),(.loc 10,[.int .u8 (Z0 q.new 0),.int .u8 (Z0 q.new 1),.int .u8 (Z0 q.new 2),.int .u8 (Z0 q.new 3),.int .u8 (Z0 q.new 4),.int .u8 (Z0 q.new 5),.int .u8 (Z0 q.new 6),.int .u8 (Z0 q.new 7)]),(.loc 13,[.int .u8 ml13_0_c,.int .u8 ml13_1_c,.int .u8 ml13_2_c,.int .u8 ml13_3_c,.int .u8 ml13_4_c,.int .u8 ml13_5_c,.int .u8 ml13_6_c,.int .u8 ml13_7_c]),(.loc 14,[.int .u8 ml14_0_d,.int .u8 ml14_1_d,.int .u8 ml14_2_d,.int .u8 ml14_3_d,.int .u8 ml14_4_d,.int .u8 ml14_5_d,.int .u8 ml14_6_d,.int .u8 ml14_7_d])])
abbrev Z88(p:List Nat):=AW (Z1 Znh) Tryz.f172 Zpr p
abbrev Z5T(p:List Nat):=SW (Z1 Znh) Tryz.f172 Zpr p
theorem ZGP(p q:WEdit)(Q:QT)(h:((Z5u (p.old,()))/\(Z5u (p.new,()))/\(Z5u (q.old,()))/\(Z5u (q.new,()))/\(Zj (Z88 [1,1,1,1,1,1,0,1,0,0]) (Z0Z p q 1 0 0 0 0 0 0 0 0 0 0 0 0 0 0 0 0 0 0) (xB 0 (Z5T [1,1,1,1,1,1,1] Q))))):
  Z88 [] (L2 [(0,.agg (enc .wedit p)),(1,.agg (enc .wedit q))] []) Q:=
 Eq.mpr V4 h
theorem ZsV(p q:WEdit)(x11 x12 x15 ml13_0 ml13_1 ml13_2 ml13_3 ml13_4 ml13_5 ml13_6 ml13_7 ml14_0 ml14_1 ml14_2 ml14_3 ml14_4 ml14_5 ml14_6 ml14_7:Int)(N0:NT)(Q:QT)(h:let z2:=ZB p.mask x15;let z1:=xB 1 (Z5T [1,1,1,1,1,1,0,1,0,0,1,1] (xT N0 (xB 0 (Z5T [1,1,1,1,1,1,1] Q))));let z0:=bif z2 then (ZB q.mask x15) else false;(iB (decide (x15 < 8)) ((ZbR (p.mask,x15,()))/\(ZbR (q.mask,x15,()))/\((Tt z2)/\(Tt z0)/\(z0=true->(0:Int)<=x15/\x15 < ((8:Nat):Int))/\(Tt z0)/\(Tt z0)/\(z0=true->(0:Int)<=x15/\x15 < ((8:Nat):Int))/\(Tt z0)/\(Tt z0)/\(Tt z0)/\(Tt z0)/\(iB (bif z0 then (((List.getD [Z0 p.new 0,Z0 p.new 1,Z0 p.new 2,Z0 p.new 3,Z0 p.new 4,Z0 p.new 5,Z0 p.new 6,Z0 p.new 7] x15.toNat 0):Int) !=(List.getD [Z0 q.old 0,Z0 q.old 1,Z0 q.old 2,Z0 q.old 3,Z0 q.old 4,Z0 q.old 5,Z0 q.old 6,Z0 q.old 7] x15.toNat 0)) else false) ((Q .ret (L2 [pL 4,pB 5 false] [(.loc 4,[ci 0,.int .u8 0,.int .u64 0,.int .u64 0])]))) ((z2=false->(!z2)=true)/\(iB (bif z2 then true else (ZB q.mask x15)) ((InR (x12+x11))/\(Z88 [1,1,1,1,1,1,0,1,0,0,1,0,0,1,1,1] (Z7D p q x11 x15 ml13_0 ml13_1 ml13_2 ml13_3 ml13_4 ml13_5 ml13_6 ml13_7 ml14_0 ml14_1 ml14_2 ml14_3 ml14_4 ml14_5 ml14_6 ml14_7 (x12+x11)) z1)) (Z88 [1,1,1,1,1,1,0,1,0,0,1,0,0,1,1,1] (Z7D p q x11 x15 ml13_0 ml13_1 ml13_2 ml13_3 ml13_4 ml13_5 ml13_6 ml13_7 ml14_0 ml14_1 ml14_2 ml14_3 ml14_4 ml14_5 ml14_6 ml14_7 x12) z1)))))) (((ZfB (([ml13_0,ml13_1,ml13_2,ml13_3,ml13_4,ml13_5,ml13_6,ml13_7]),0,()))/\((ZfB (([ml14_0,ml14_1,ml14_2,ml14_3,ml14_4,ml14_5,ml14_6,ml14_7]),0,()))/\(Q .ret (L2 [pL 4,pB 5 true] [(.loc 4,[ci p.at_,.int .u8 (IntKind.wrap .u8 x12),.int .u64 (of8 (fun i=> ([ml13_0,ml13_1,ml13_2,ml13_3,ml13_4,ml13_5,ml13_6,ml13_7]).getD i 0)),.int .u64 (of8 (fun i=> ([ml14_0,ml14_1,ml14_2,ml14_3,ml14_4,ml14_5,ml14_6,ml14_7]).getD i 0))])]))))))):
  Z88 [1,1,1,1,1,1,0,1,0,0] (Z0Z p q x11 x12 x15 ml13_0 ml13_1 ml13_2 ml13_3 ml13_4 ml13_5 ml13_6 ml13_7 ml14_0 ml14_1 ml14_2 ml14_3 ml14_4 ml14_5 ml14_6 ml14_7) (xT N0 (xB 0 (Z5T [1,1,1,1,1,1,1] Q))):=
 Eq.mpr V4 h
theorem ZsW(p q:WEdit)(x11 x15 ml13_0 ml13_1 ml13_2 ml13_3 ml13_4 ml13_5 ml13_6 ml13_7 ml14_0 ml14_1 ml14_2 ml14_3 ml14_4 ml14_5 ml14_6 ml14_7 x12_a:Int)(N0:NT)(Q:QT)(h:∀ y_1,y_1=(List.getD [Z0 q.new 0,Z0 q.new 1,Z0 q.new 2,Z0 q.new 3,Z0 q.new 4,Z0 q.new 5,Z0 q.new 6,Z0 q.new 7] x15.toNat 0)->∀ y_2,y_2=(List.getD [Z0 q.old 0,Z0 q.old 1,Z0 q.old 2,Z0 q.old 3,Z0 q.old 4,Z0 q.old 5,Z0 q.old 6,Z0 q.old 7] x15.toNat 0)->let z0:=xB 1 (Z5T [1,1,1,1,1,1,0,1,0,0,1,1] (xT N0 (xB 0 (Z5T [1,1,1,1,1,1,1] Q))));(InR ((2:Int)*x11))/\(iB (ZB q.mask x15) (((0:Int)<=x15/\x15 < ((8:Nat):Int))/\((0:Int)<=x15/\x15 < ((8:Nat):Int))/\(((0:Int)<=x15/\x15 < ((8:Nat):Int))/\((0:Int)<=x15/\x15 < ((8:Nat):Int))/\(Z88 [1,1,1,1,1,1,0,1,0,0,1,0,0,1,1,1,1,1] (Zci p q x11 x15 x12_a .junk (Yf x15 0 y_2 ml13_0) (Yf x15 1 y_2 ml13_1) (Yf x15 2 y_2 ml13_2) (Yf x15 3 y_2 ml13_3) (Yf x15 4 y_2 ml13_4) (Yf x15 5 y_2 ml13_5) (Yf x15 6 y_2 ml13_6) (Yf x15 7 y_2 ml13_7) (Yf x15 0 y_1 ml14_0) (Yf x15 1 y_1 ml14_1) (Yf x15 2 y_1 ml14_2) (Yf x15 3 y_1 ml14_3) (Yf x15 4 y_1 ml14_4) (Yf x15 5 y_1 ml14_5) (Yf x15 6 y_1 ml14_6) (Yf x15 7 y_1 ml14_7)) z0))) (Z88 [1,1,1,1,1,1,0,1,0,0,1,0,0,1,1,1,1,1] (Zci p q x11 x15 x12_a (.c (.bool (ZB q.mask x15))) ml13_0 ml13_1 ml13_2 ml13_3 ml13_4 ml13_5 ml13_6 ml13_7 ml14_0 ml14_1 ml14_2 ml14_3 ml14_4 ml14_5 ml14_6 ml14_7) z0))):
  Z88 [1,1,1,1,1,1,0,1,0,0,1,0,0,1,1,1] (Z7D p q x11 x15 ml13_0 ml13_1 ml13_2 ml13_3 ml13_4 ml13_5 ml13_6 ml13_7 ml14_0 ml14_1 ml14_2 ml14_3 ml14_4 ml14_5 ml14_6 ml14_7 x12_a) (xB 1 (Z5T [1,1,1,1,1,1,0,1,0,0,1,1] (xT N0 (xB 0 (Z5T [1,1,1,1,1,1,1] Q))))):=
 Eq.mpr V4 (h _ rfl _ rfl)
theorem ZjZ(p q:WEdit)(x11 x15 x12_a:Int)(v68_b:V U)(ml13_0_b ml13_1_b ml13_2_b ml13_3_b ml13_4_b ml13_5_b ml13_6_b ml13_7_b ml14_0_b ml14_1_b ml14_2_b ml14_3_b ml14_4_b ml14_5_b ml14_6_b ml14_7_b:Int)(N0:NT)(Q:QT)(h:∀ y_1,y_1=(List.getD [Z0 p.old 0,Z0 p.old 1,Z0 p.old 2,Z0 p.old 3,Z0 p.old 4,Z0 p.old 5,Z0 p.old 6,Z0 p.old 7] x15.toNat 0)->let z0:=xB 1 (Z5T [1,1,1,1,1,1,0,1,0,0,1,1] (xT N0 (xB 0 (Z5T [1,1,1,1,1,1,1] Q))));(iB (ZB p.mask x15) (((0:Int)<=x15/\x15 < ((8:Nat):Int))/\((0:Int)<=x15/\x15 < ((8:Nat):Int))/\(Z88 [1,1,1,1,1,1,0,1,0,0,1,0,0,1,1,1,1,1,1] (Zch p q x11 x15 x12_a ml14_0_b ml14_1_b ml14_2_b ml14_3_b ml14_4_b ml14_5_b ml14_6_b ml14_7_b (Yf x15 0 y_1 ml13_0_b) (Yf x15 1 y_1 ml13_1_b) (Yf x15 2 y_1 ml13_2_b) (Yf x15 3 y_1 ml13_3_b) (Yf x15 4 y_1 ml13_4_b) (Yf x15 5 y_1 ml13_5_b) (Yf x15 6 y_1 ml13_6_b) (Yf x15 7 y_1 ml13_7_b)) z0)) (Z88 [1,1,1,1,1,1,0,1,0,0,1,0,0,1,1,1,1,1,1] (Zch p q x11 x15 x12_a ml14_0_b ml14_1_b ml14_2_b ml14_3_b ml14_4_b ml14_5_b ml14_6_b ml14_7_b ml13_0_b ml13_1_b ml13_2_b ml13_3_b ml13_4_b ml13_5_b ml13_6_b ml13_7_b) z0))):
  Z88 [1,1,1,1,1,1,0,1,0,0,1,0,0,1,1,1,1,1] (Zci p q x11 x15 x12_a v68_b ml13_0_b ml13_1_b ml13_2_b ml13_3_b ml13_4_b ml13_5_b ml13_6_b ml13_7_b ml14_0_b ml14_1_b ml14_2_b ml14_3_b ml14_4_b ml14_5_b ml14_6_b ml14_7_b) (xB 1 (Z5T [1,1,1,1,1,1,0,1,0,0,1,1] (xT N0 (xB 0 (Z5T [1,1,1,1,1,1,1] Q))))):=
 Eq.mpr V4 (h _ rfl)
theorem Z9m(p q:WEdit)(x11 x15 x12_a ml14_0_b ml14_1_b ml14_2_b ml14_3_b ml14_4_b ml14_5_b ml14_6_b ml14_7_b ml13_0_c ml13_1_c ml13_2_c ml13_3_c ml13_4_c ml13_5_c ml13_6_c ml13_7_c:Int)(N0:NT)(Q:QT)(h:∀ y_1,y_1=(List.getD [Z0 p.new 0,Z0 p.new 1,Z0 p.new 2,Z0 p.new 3,Z0 p.new 4,Z0 p.new 5,Z0 p.new 6,Z0 p.new 7] x15.toNat 0)->let z1:=ZB p.mask x15;let z0:=xT N0 (xB 0 (Z5T [1,1,1,1,1,1,1] Q));(Tt z1)/\(Tt z1)/\(iB (bif z1 then (!(ZB q.mask x15)) else false) (((0:Int)<=x15/\x15 < ((8:Nat):Int))/\((0:Int)<=x15/\x15 < ((8:Nat):Int))/\(Z88 [1,1,1,1,1,1,0,1,0,0,1,1] (Zcg p q x11 x15 x12_a ml13_0_c ml13_1_c ml13_2_c ml13_3_c ml13_4_c ml13_5_c ml13_6_c ml13_7_c (Yf x15 0 y_1 ml14_0_b) (Yf x15 1 y_1 ml14_1_b) (Yf x15 2 y_1 ml14_2_b) (Yf x15 3 y_1 ml14_3_b) (Yf x15 4 y_1 ml14_4_b) (Yf x15 5 y_1 ml14_5_b) (Yf x15 6 y_1 ml14_6_b) (Yf x15 7 y_1 ml14_7_b)) z0)) (Z88 [1,1,1,1,1,1,0,1,0,0,1,1] (Zcg p q x11 x15 x12_a ml13_0_c ml13_1_c ml13_2_c ml13_3_c ml13_4_c ml13_5_c ml13_6_c ml13_7_c ml14_0_b ml14_1_b ml14_2_b ml14_3_b ml14_4_b ml14_5_b ml14_6_b ml14_7_b) z0))):
  Z88 [1,1,1,1,1,1,0,1,0,0,1,0,0,1,1,1,1,1,1] (Zch p q x11 x15 x12_a ml14_0_b ml14_1_b ml14_2_b ml14_3_b ml14_4_b ml14_5_b ml14_6_b ml14_7_b ml13_0_c ml13_1_c ml13_2_c ml13_3_c ml13_4_c ml13_5_c ml13_6_c ml13_7_c) (xB 1 (Z5T [1,1,1,1,1,1,0,1,0,0,1,1] (xT N0 (xB 0 (Z5T [1,1,1,1,1,1,1] Q))))):=
 Eq.mpr V4 (h _ rfl)
theorem Z9l(p q:WEdit)(x11 x15 x12_a ml13_0_c ml13_1_c ml13_2_c ml13_3_c ml13_4_c ml13_5_c ml13_6_c ml13_7_c ml14_0_d ml14_1_d ml14_2_d ml14_3_d ml14_4_d ml14_5_d ml14_6_d ml14_7_d:Int)(N0:NT)(Q:QT)(h:(InR (x15+1))/\(N0 (Z0Z p q ((2:Int)*x11) x12_a (x15+1) ml13_0_c ml13_1_c ml13_2_c ml13_3_c ml13_4_c ml13_5_c ml13_6_c ml13_7_c ml14_0_d ml14_1_d ml14_2_d ml14_3_d ml14_4_d ml14_5_d ml14_6_d ml14_7_d))):
  Z88 [1,1,1,1,1,1,0,1,0,0,1,1] (Zcg p q x11 x15 x12_a ml13_0_c ml13_1_c ml13_2_c ml13_3_c ml13_4_c ml13_5_c ml13_6_c ml13_7_c ml14_0_d ml14_1_d ml14_2_d ml14_3_d ml14_4_d ml14_5_d ml14_6_d ml14_7_d) (xT N0 (xB 0 (Z5T [1,1,1,1,1,1,1] Q))):=
 Eq.mpr V4 h
def ZAD(p q:WEdit):Prop:=AW (Z1 Znh) Tryz.f172 Zpr [] (Zg (ZqF.can (p,q,())) []) (EQ Tryz.f172 (ZiG (p,q,())) [])
theorem Zz2(Zsn:CT 131 Z3x)(Zsm:CT 132 Z3w)(Zsl:CT 133 Z3v)(hb:∀ (p:WEdit) (q:WEdit) (_:Unit),ZmE (p,q,())->ZAD p q):CT 172 Z5d:=
 Z2 (l:=[(131,Z3x),(132,Z3w),(133,Z3v)]) Zi rfl (⟨Zsn,Zsm,Zsl,trivial⟩) Zpr Tryz.func172 rfl rfl 2 (fun _=> rfl) V2 (fun ⟨p,q,_⟩=> hb p q ())
def Zps:Zd U:=lvl [([0,1,4],[4]),([0,1,4,6],[4]),([0,1,4,6,10],[4]),([0,1,4,6],[4]),([0,1,4,6,19],[4]),([4,5],[4]),([4,5],[4])]
def Z7E(l:List WEdit)(at_ x6:Int):LSt U:=(L2 [(0,.c (sU .wedit l .unk)),pI 1 at_,pL 4,pI 6 x6] [(.loc 4,[ci 0,.int .u8 0,.int .u64 0,.int .u64 0])])
abbrev ZGu(p:List Nat):=AW (Z1 Znz) Tryz.f171 Zps p
abbrev ZIa(p:List Nat):=SW (Z1 Znz) Tryz.f171 Zps p
theorem ZGQ(l:List WEdit)(at_:Int)(Q:QT)(h:(Zj (ZGu [1,0,1,0,0]) (Z7E l at_ 0) (xB 0 (ZIa [1,1] Q)))):
  ZGu [] (L2 [(0,.c (sU .wedit l .unk)),pI 1 at_] []) Q:=
 Eq.mpr V4 h
theorem ZsX(l:List WEdit)(at_ x6:Int)(N0:NT)(Q:QT)(h:let z0:=l.getD x6.toNat (WEdit.mk 0 0 0 0);(iB (decide (x6 < (l.length:Int))) (((0:Int)<=x6/\x6 < (l.length:Int))/\(iB (((WEdit.at_ z0):Int)==at_) (((0:Int)<=x6/\x6 < (l.length:Int))/\(Q .ret (L2 [pL 4,pB 5 true] [(.loc 4,(enc .wedit z0))]))) ((InR (x6+1))/\(N0 (Z7E l at_ (x6+1)))))) ((Q .ret (L2 [pL 4,pB 5 false] [(.loc 4,[ci 0,.int .u8 0,.int .u64 0,.int .u64 0])]))))):
  ZGu [1,0,1,0,0] (Z7E l at_ x6) (xT N0 (xB 0 (ZIa [1,1] Q))):=
 Eq.mpr V4 h
def ZAE(l:List WEdit)(at_:Int):Prop:=AW (Z1 Znz) Tryz.f171 Zps [] (Zg (ZqB.can (l,at_,())) []) (EQ Tryz.f171 (ZiF (l,at_,())) [])
theorem Zz3(hb:∀ (l:List WEdit) (at_:Int) (_:Unit),ZiP (l,at_,())->ZAE l at_):CT 171 Z5e:=
 Z2 (l:=[]) Zi rfl trivial Zps Tryz.func171 rfl rfl 2 (fun _=> rfl) V2 (fun ⟨l,at_,_⟩=> hb l at_ ())
def Zpq:Zd U:=lvl [([0,1,4],[4]),([0,1,4,5],[4]),([0,1,4,5,9],[4]),([0,1,4,5],[4]),([0,1,4,5,18],[4]),([4],[4]),([4],[4])]
def Z7C(l:List Kid)(at_ x5:Int):LSt U:=(L2 [(0,.c (sU .kid l .unk)),pI 1 at_,pL 4,pI 5 x5] [(.loc 4,zc1)])
abbrev ZGt(p:List Nat):=AW (Z1 Znz) Tryz.f173 Zpq p
abbrev ZI9(p:List Nat):=SW (Z1 Znz) Tryz.f173 Zpq p
theorem ZGO(l:List Kid)(at_:Int)(Q:QT)(h:(Zj (ZGt [1,0,1,0,0]) (Z7C l at_ 0) (xB 0 (ZI9 [1,1] Q)))):
  ZGt [] (L2 [(0,.c (sU .kid l .unk)),pI 1 at_] []) Q:=
 Eq.mpr V4 h
theorem ZsU(l:List Kid)(at_ x5:Int)(N0:NT)(Q:QT)(h:let z0:=l.getD x5.toNat (KidOf.mk 0 Edit.nil);(iB (decide (x5 < (l.length:Int))) (((0:Int)<=x5/\x5 < (l.length:Int))/\(iB (((KidOf.at_ z0):Int)==at_) (((0:Int)<=x5/\x5 < (l.length:Int))/\(Q .ret (L2 [pL 4] [(.loc 4,(enc .edit (KidOf.e z0)))]))) ((InR (x5+1))/\(N0 (Z7C l at_ (x5+1)))))) ((Q .ret (L2 [pL 4] [(.loc 4,zc1)]))))):
  ZGt [1,0,1,0,0] (Z7C l at_ x5) (xT N0 (xB 0 (ZI9 [1,1] Q))):=
 Eq.mpr V4 h
def ZAC(l:List Kid)(at_:Int):Prop:=AW (Z1 Znz) Tryz.f173 Zpq [] (Zg (Z9f.can (l,at_,())) []) (EQ Tryz.f173 (ZiD (l,at_,())) [])
theorem Zz1(hb:∀ (l:List Kid) (at_:Int) (_:Unit),ZbO (l,at_,())->ZAC l at_):CT 173 Z5c:=
 Z2 (l:=[]) Zi rfl trivial Zpq Tryz.func173 rfl rfl 2 (fun _=> rfl) V2 (fun ⟨l,at_,_⟩=> hb l at_ ())
def Zpn:Zd U:=lvk [([0,1],[]),([0,1,5],[]),([0,1,(5,[.own .int]),6,7],[]),([0,1,5,6,7,18],[]),([0,1,5,6,7],[]),([0,1,5,6,7,8],[]),([0,1,5,6,7,23],[]),([0,1,5,6,7,8],[]),([0,1,5,6,7,8,60],[]),([0,1,5,6,7,8,60],[]),([0,1,5,6,7,8,74],[]),([0,1,5,6,7,8,74],[]),([0,1,(5,[.own .int]),6,7],[]),([4],[])]
def Z1E(a b:List Int)(x6 x7:Int)(x5:List Int):LSt U:=(L2 [(0,.c (sU .int a .unk)),(1,.c (sU .int b .unk)),(5,.c (sU .int x5 (.own (.e 5 0)))),pI 6 x6,pI 7 x7] [])
def Z7y(a b:List Int)(x6 x7:Int)(x5:List Int)(x8_a:Int):LSt U:=(L2 [(0,.c (sU .int a .unk)),(1,.c (sU .int b .unk)),(5,.c (sU .int x5 (.own (.e 5 0)))),pI 6 x6,pI 7 x7,pI 8 x8_a] [])
def Z7x(a b:List Int)(x6 x7:Int)(x5:List Int)(x8_a x6_b:Int):LSt U:=(L2 [(0,.c (sU .int a .unk)),(1,.c (sU .int b .unk)),(5,.c (sU .int x5 (.own (.e 5 0)))),pI 6 x6_b,pI 7 x7,pI 8 x8_a,(60,.c (.bool (bif (decide ((x6:Int) < (a.length:Int))) then (((a.getD x6.toNat (0:Int)):Int)==x8_a) else false)))] [])
def Z7w(a b:List Int)(x7:Int)(x5:List Int)(x8_a x6_b x7_c:Int):LSt U:=(L2 [(0,.c (sU .int a .unk)),(1,.c (sU .int b .unk)),(5,.c (sU .int x5 (.own (.e 5 0)))),pI 6 x6_b,pI 7 x7_c,pI 8 x8_a,(74,.c (.bool (bif (decide ((x7:Int) < (b.length:Int))) then (((b.getD x7.toNat (0:Int)):Int)==x8_a) else false)))] [])
abbrev Z9i(p:List Nat):=AW (Z1 Znz) Tryz.f188 Zpn p
abbrev ZgE(p:List Nat):=SW (Z1 Znz) Tryz.f188 Zpn p
theorem ZGH(a b:List Int)(Q:QT)(h:(Zj (Z9i [1,1,1,0,0,0]) (Z1E a b 0 0 []) (xB 0 (ZgE [1,1,1,1] Q)))):
  Z9i [] (L2 [(0,.c (sU .int a .unk)),(1,.c (sU .int b .unk))] []) Q:=
 Eq.mpr V4 h
theorem ZsK(a b:List Int)(x6 x7:Int)(x5:List Int)(N0:NT)(Q:QT)(h:∀ y_1,y_1=(a.getD x6.toNat (0:Int))->∀ y_2,y_2=(b.getD x7.toNat (0:Int))->let z3:=xB 1 (xT N0 (xB 0 (ZgE [1,1,1,1] Q)));let z2:=decide (x6 < (a.length:Int));let z1:=decide (((b.length:Int):Int)<=x7);let z0:=(!z1) && z2;(Tt (!z2))/\(Tt (!z2))/\(Tt (!z2))/\(z2=false->(!z2)=true)/\(iB (bif z2 then true else (decide (x7 < (b.length:Int)))) (((Tt (!z1))/\(Tt (!z1))/\(Tt (!z1))/\(Tt (!z1))/\(Tt z0)/\(Tt z0)/\(z0=true->(0:Int)<=x6/\x6 < (a.length:Int))/\(Tt z0)/\(Tt z0)/\(Tt z0)/\(z0=true->(0:Int)<=x7/\x7 < (b.length:Int))/\(Tt z0)/\(Tt z0)/\(Tt z0)/\((!z1)=true->(True->(!z1)=true))/\((!z1)=true->(z2=true->z0=true))/\(z1=false->(!z1)=true)/\(iB (bif z1 then true else (bif z2 then (decide (y_1 < y_2)) else false)) (((0:Int)<=x6/\x6 < (a.length:Int))/\(Z9i [1,1,1,0,0,0,1,0,1,1] (Z7y a b x6 x7 x5 y_1) z3)) (((0:Int)<=x7/\x7 < (b.length:Int))/\(Z9i [1,1,1,0,0,0,1,0,1,1] (Z7y a b x6 x7 x5 y_2) z3))))) ((Q .ret (L2 [(4,.c (sU .int x5 (.own (.e 4 0))))] []))))):
  Z9i [1,1,1,0,0,0] (Z1E a b x6 x7 x5) (xT N0 (xB 0 (ZgE [1,1,1,1] Q))):=
 Eq.mpr V4 (h _ rfl _ rfl)
theorem ZsN(a b:List Int)(x6 x7:Int)(x5:List Int)(x8_a:Int)(N0:NT)(Q:QT)(h:let z1:=xB 1 (xT N0 (xB 0 (ZgE [1,1,1,1] Q)));let z0:=decide (x6 < (a.length:Int));(Tt z0)/\(Tt z0)/\(z0=true->(0:Int)<=x6/\x6 < (a.length:Int))/\(Tt z0)/\(Tt z0)/\(Tt z0)/\(Tt z0)/\(iB (bif z0 then (((a.getD x6.toNat (0:Int)):Int)==x8_a) else false) ((InR (x6+1))/\(Z9i [1,1,1,0,0,0,1,0,1,1,1] (Z7x a b x6 x7 x5 x8_a (x6+1)) z1)) (Z9i [1,1,1,0,0,0,1,0,1,1,1] (Z7x a b x6 x7 x5 x8_a x6) z1))):
  Z9i [1,1,1,0,0,0,1,0,1,1] (Z7y a b x6 x7 x5 x8_a) (xB 1 (xT N0 (xB 0 (ZgE [1,1,1,1] Q)))):=
 Eq.mpr V4 h
theorem ZsM(a b:List Int)(x6 x7:Int)(x5:List Int)(x8_a x6_b:Int)(N0:NT)(Q:QT)(h:let z1:=xB 1 (xT N0 (xB 0 (ZgE [1,1,1,1] Q)));let z0:=decide (x7 < (b.length:Int));(Tt z0)/\(Tt z0)/\(z0=true->(0:Int)<=x7/\x7 < (b.length:Int))/\(Tt z0)/\(Tt z0)/\(Tt z0)/\(Tt z0)/\(iB (bif z0 then (((b.getD x7.toNat (0:Int)):Int)==x8_a) else false) ((InR (x7+1))/\(Z9i [1,1,1,0,0,0,1,0,1,1,1,1] (Z7w a b x7 x5 x8_a x6_b (x7+1)) z1)) (Z9i [1,1,1,0,0,0,1,0,1,1,1,1] (Z7w a b x7 x5 x8_a x6_b x7) z1))):
  Z9i [1,1,1,0,0,0,1,0,1,1,1] (Z7x a b x6 x7 x5 x8_a x6_b) (xB 1 (xT N0 (xB 0 (ZgE [1,1,1,1] Q)))):=
 Eq.mpr V4 h
theorem ZsL(a b:List Int)(x7:Int)(x5:List Int)(x8_a x6_b x7_c:Int)(N0:NT)(Q:QT)(h:((x5.length+([x8_a]).length)*8<=140737488355328)/\(N0 (Z1E a b x6_b x7_c (x5++([x8_a]))))):
  Z9i [1,1,1,0,0,0,1,0,1,1,1,1] (Z7w a b x7 x5 x8_a x6_b x7_c) (xB 1 (xT N0 (xB 0 (ZgE [1,1,1,1] Q)))):=
 Eq.mpr V4 h
def ZAv(a b:List Int):Prop:=AW (Z1 Znz) Tryz.f188 Zpn [] (Zg (Zqv.can (a,b,())) []) (EQ Tryz.f188 (Zmp (a,b,())) [])
theorem ZyV(hb:∀ (a:List Int) (b:List Int) (_:Unit),ZiM (a,b,())->ZAv a b):CT 188 Z9u:=
 Z2 (l:=[]) Zi rfl trivial Zpn Tryz.func188 rfl rfl 2 (fun _=> rfl) V2 (fun ⟨a,b,_⟩=> hb a b ())
def Zjc:List (FuncId × Fs U):=[(188,Z9u)]
def Zpt:Zd U:=lvk [([2,3],[2,3]),([2,3,6,7,8,9],[2,3]),([2,3,(6,[.own .int]),7,8,9,10],[2,3]),([2,3,6,7,8,9,10,18],[2,3]),([2,3,(6,[.own .int]),7,8,9,10],[2,3]),([2,3,6,7,8,9,10],[2,3]),([2,3,6,(7,[.own .int]),8,9,11],[2,3]),([2,3,6,7,8,9,11,34],[2,3]),([2,3,6,(7,[.own .int]),8,9,11],[2,3]),([2,3,6,7,8,9,11],[2,3]),([2,3,6,7,(8,[.own .int]),9,12],[2,3]),([2,3,6,7,8,9,12,50],[2,3]),([2,3,6,7,(8,[.own .int]),9,12],[2,3]),([2,3,6,7,8,9,12],[2,3]),([3,6,7,8,(9,[.own .int]),13],[3]),([3,6,7,8,9,13,66],[3]),([3,6,7,8,(9,[.own .int]),13],[3]),([3,6,7,8,9,13],[3]),([4,5],[])]
def Z7I(p q:Edit)(x10:Int)(x6:List Int):LSt U:=(L2 [pL 2,pL 3,(6,.c (sU .int x6 (.own (.e 6 0)))),(7,.c (.nils)),(8,.c (.nils)),(9,.c (.nils)),pI 10 x10] [(.loc 2,(enc .edit p)),(.loc 3,(enc .edit q))])
def Z7H(p q:Edit)(x6:List Int)(x11_a:Int)(x7_a:List Int):LSt U:=(L2 [pL 2,pL 3,(6,.c (sU .int x6 (.own (.e 6 0)))),(7,.c (sU .int x7_a (.own (.e 7 0)))),(8,.c (.nils)),(9,.c (.nils)),pI 11 x11_a] [(.loc 2,(enc .edit p)),(.loc 3,(enc .edit q))])
def Z7G(p q:Edit)(x6 x7_a:List Int)(x12_b:Int)(x8_b:List Int):LSt U:=(L2 [pL 2,pL 3,(6,.c (sU .int x6 (.own (.e 6 0)))),(7,.c (sU .int x7_a (.own (.e 7 0)))),(8,.c (sU .int x8_b (.own (.e 8 0)))),(9,.c (.nils)),pI 12 x12_b] [(.loc 2,(enc .edit p)),(.loc 3,(enc .edit q))])
def Z7F(p q:Edit)(x6 x7_a x8_b:List Int)(x13_c:Int)(x9_c:List Int):LSt U:=(L2 [pL 3,(6,.c (sU .int x6 (.own (.e 6 0)))),(7,.c (sU .int x7_a (.own (.e 7 0)))),(8,.c (sU .int x8_b (.own (.e 8 0)))),(9,.c (sU .int x9_c (.own (.e 9 0)))),pI 13 x13_c] [(.loc 3,(enc .edit q))])
abbrev ZjV(p:List Nat):=AW (Z1 Zjc) Tryz.f170 Zpt p
abbrev Zm6(p:List Nat):=SW (Z1 Zjc) Tryz.f170 Zpt p
theorem ZGR(p q:Edit)(Q:QT)(h:(Zj (ZjV [1,1,0,1,0,0]) (Z7I p q 0 []) (xB 0 (Zm6 [1,1,1] Q)))):
  ZjV [] (L2 [(0,.agg (enc .edit p)),(1,.agg (enc .edit q))] []) Q:=
 Eq.mpr V4 h
theorem Zt1(p q:Edit)(x10:Int)(x6:List Int)(N0:NT)(Q:QT)(h:let z0:=p.words.getD x10.toNat (WEdit.mk 0 0 0 0);(iB (decide (x10 < (p.words.length:Int))) (((0:Int)<=x10/\x10 < (p.words.length:Int))/\((x6.length+([WEdit.at_ z0]).length)*8<=140737488355328)/\((InR (x10+1))/\(N0 (Z7I p q (x10+1) (x6++([WEdit.at_ z0])))))) ((Zj (ZjV [1,1,1,0,1,0,0]) (Z7H p q x6 0 []) (xB 2 (Zm6 [1,1,1,1] Q)))))):
  ZjV [1,1,0,1,0,0] (Z7I p q x10 x6) (xT N0 (xB 0 (Zm6 [1,1,1] Q))):=
 Eq.mpr V4 h
theorem Zt0(p q:Edit)(x6:List Int)(x11_a:Int)(x7_a:List Int)(N1:NT)(Q:QT)(h:let z0:=q.words.getD x11_a.toNat (WEdit.mk 0 0 0 0);(iB (decide (x11_a < (q.words.length:Int))) (((0:Int)<=x11_a/\x11_a < (q.words.length:Int))/\((x7_a.length+([WEdit.at_ z0]).length)*8<=140737488355328)/\((InR (x11_a+1))/\(N1 (Z7H p q x6 (x11_a+1) (x7_a++([WEdit.at_ z0])))))) ((Zj (ZjV [1,1,1,1,0,1,0,0]) (Z7G p q x6 x7_a 0 []) (xB 4 (Zm6 [1,1,1,1,1] Q)))))):
  ZjV [1,1,1,0,1,0,0] (Z7H p q x6 x11_a x7_a) (xT N1 (xB 2 (Zm6 [1,1,1,1] Q))):=
 Eq.mpr V4 h
theorem ZsZ(p q:Edit)(x6 x7_a:List Int)(x12_b:Int)(x8_b:List Int)(N2:NT)(Q:QT)(h:let z0:=p.kids.getD x12_b.toNat (KidOf.mk 0 Edit.nil);(iB (decide (x12_b < (p.kids.length:Int))) (((0:Int)<=x12_b/\x12_b < (p.kids.length:Int))/\((x8_b.length+([KidOf.at_ z0]).length)*8<=140737488355328)/\((InR (x12_b+1))/\(N2 (Z7G p q x6 x7_a (x12_b+1) (x8_b++([KidOf.at_ z0])))))) ((Zj (ZjV [1,1,1,1,1,0,1,0,0]) (Z7F p q x6 x7_a x8_b 0 []) (xB 6 (Zm6 [1,1,1,1,1,1] Q)))))):
  ZjV [1,1,1,1,0,1,0,0] (Z7G p q x6 x7_a x12_b x8_b) (xT N2 (xB 4 (Zm6 [1,1,1,1,1] Q))):=
 Eq.mpr V4 h
theorem ZsY(p q:Edit)(x6 x7_a x8_b:List Int)(x13_c:Int)(x9_c:List Int)(N3:NT)(Q:QT)(h:let z0:=q.kids.getD x13_c.toNat (KidOf.mk 0 Edit.nil);(iB (decide (x13_c < (q.kids.length:Int))) (((0:Int)<=x13_c/\x13_c < (q.kids.length:Int))/\((x9_c.length+([KidOf.at_ z0]).length)*8<=140737488355328)/\((InR (x13_c+1))/\(N3 (Z7F p q x6 x7_a x8_b (x13_c+1) (x9_c++([KidOf.at_ z0])))))) ((ZiM (x6,x7_a,()))/\(ZiM (x8_b,x9_c,()))/\(Q .ret (L2 [(4,.c (sU .int (Ye x6 x7_a) .unk)),(5,.c (sU .int (Ye x8_b x9_c) .unk))] []))))):
  ZjV [1,1,1,1,1,0,1,0,0] (Z7F p q x6 x7_a x8_b x13_c x9_c) (xT N3 (xB 6 (Zm6 [1,1,1,1,1,1] Q))):=
 Eq.mpr V4 h
def ZAF(p q:Edit):Prop:=AW (Z1 Zjc) Tryz.f170 Zpt [] (Zg (Zo3.can (p,q,())) []) (EQ Tryz.f170 (Zu0 (p,q,())) [])
theorem Zz4(ZEj:CT 188 Z9u)(hb:∀ (p:Edit) (q:Edit) (_:Unit),ZmF (p,q,())->ZAF p q):CT 170 Z5f:=
 Z2 (l:=[(188,Z9u)]) Zi rfl (⟨ZEj,trivial⟩) Zpt Tryz.func170 rfl rfl 2 (fun _=> rfl) V2 (fun ⟨p,q,_⟩=> hb p q ())
def Z5z(N:Nat):List (FuncId × Fs U):=(106,fs Zo3 (fun a=> [Z2b a,Zd5 a < N]) Z5p) ::(144,fs Zo3 (fun a=> [Z6j a,Z8o a < N]) Z5n) ::(145,fs Zo3 (fun a=> [Z6i a,Z8o a < N]) Z5m) ::(177,fs Z5I (fun a=> [Z6h a,ZfS a < N]) Z5l) ::[(35,Z30),(39,Z25),(170,Z5f),(171,Z5e),(173,Z5c),(172,Z5d),(175,Z5a),(174,Z5b),(176,Z59),(25,Z0i)]
def Zvz:Zd U:=lvl [([2,3,4],[2,3,4]),([2,3,4,10],[2,3,4]),([4,5],[4]),([2,3,4,15],[2,3,4]),([4,5],[4]),([2,3,4,20],[2,3,4]),([2,4,6,7],[2,4,6]),([4,5],[4]),([2,3,4,36],[2,3,4]),([3,4,8,9],[3,4,8]),([4,5],[4]),([2,3,4,53],[2,3,4]),([4,5],[4]),([2,3,4,60],[2,3,4]),([4,5],[4]),([4,5],[4])]
abbrev ZKj(N:Nat)(p:List Nat):=AW (Z1 (Z5z N)) Tryz.f106 Zvz p
theorem ZHr(N:Nat)(p q:Edit)(Q:QT)(h:∀ y_1,y_1=p->∀ y_2,y_2=q->∀ y_3,y_3=(p.new)->∀ y_4,y_4=(q.old)->∀ y_5,y_5=(Zz (Zs y_1))->(iB (p.kind==0) ((Q .ret (L2 [pL 4,pB 5 true] [(.loc 4,(enc .edit q))]))) ((iB (q.kind==0) ((Q .ret (L2 [pL 4,pB 5 true] [(.loc 4,(enc .edit p))]))) ((iB (p.kind==1) ((Z4o (y_2,y_3,()))/\(Q .ret (L2 [pL 4,pB 5 ((doE true y_2 y_3).isSome)] [(.loc 4,([ci 1]++enc .tree p.old++enc .tree (Yc (doE true y_2 y_3))++[.nils,.nils,ci 0,.nils]))]))) ((iB (q.kind==1) ((Z3H (y_1,()))/\(Z4o (y_5,y_4,()))/\(Q .ret (L2 [pL 4,pB 5 ((doE true y_5 y_4).isSome)] [(.loc 4,([ci 1]++enc .tree (Yc (doE true y_5 y_4))++enc .tree q.new++[.nils,.nils,ci 0,.nils]))]))) ((iB (p.kind !=q.kind) ((Q .ret (L2 [pL 4,pB 5 false] [(.loc 4,zc1)]))) ((iB (p.kind==2) ((Z6j (y_1,y_2,()))/\(Z8o (y_1,y_2,()) < N)/\(Q .ret (L2 [pL 4,pB 5 ((ZgL y_1 y_2).2)] [(.loc 4,(enc .edit ((ZgL y_1 y_2).1)))]))) ((Z6i (y_1,y_2,()))/\(Z8o (y_1,y_2,()) < N)/\(Q .ret (L2 [pL 4,pB 5 ((ZgM y_1 y_2).2)] [(.loc 4,(enc .edit ((ZgM y_1 y_2).1)))]))))))))))))))):
  ZKj N [] (L2 [(0,.agg (enc .edit p)),(1,.agg (enc .edit q))] []) Q:=
 Eq.mpr V4 (h _ (Z7 _) _ (Z7 _) _ (Za _) _ (Za _) _ (Z7 _))
def ZBf(N:Nat)(p q:Edit):Prop:=AW (Z1 (Z5z N)) Tryz.f106 Zvz [] (Zg (Zo3.can (p,q,())) []) (EQ Tryz.f106 (Z5p (p,q,())) [])
abbrev ZCm:Prop:=∀ (N:Nat) (p:Edit) (q:Edit) (_:Unit),Z2b (p,q,())->Zd5 (p,q,()) < N+1->ZBf N p q
def Zpy:Zd U:=lvk [([2,3,4],[2,3,4]),([2,3,4,6],[2,3,4,6]),([2,3,4,6,7,8],[2,3,4,6]),([2,3,4,6,7,8,9],[2,3,4,((.loc 6),(an 7 [.own .wedit]))]),([2,3,4,6,7,8,9,29],[2,3,4,6]),([2,3,4,6,7,8,9],[2,3,4,((.loc 6),(an 7 [.own .wedit]))]),([2,3,4,6,7,8,9,10,11],[2,3,4,6,10]),([2,3,4,6,7,8,9,10,11,12,13],[2,3,4,6,10,12]),([2,3,4,6,7,8,9,14,15],[2,3,4,6,14]),([2,3,4,6,7,8,9,14,59],[2,3,4,6,14]),([4,5],[4]),([2,3,4,6,7,8,9],[2,3,4,6]),([2,3,4,6,7,8,9,10,11,12,67],[2,3,4,6,10,12]),([2,3,4,6,7,8,9],[2,3,4,6]),([2,3,4,6,7,8,9,10,12,76],[2,3,4,6,10,12]),([2,3,4,6,7,8,9],[2,3,4,6]),([2,3,4,6,8,16],[2,3,4,((.loc 6),(an 8 [.own .kid]))]),([2,3,4,6,8,16,88],[2,3,4,6]),([2,3,4,6,8,16],[2,3,4,((.loc 6),(an 8 [.own .kid]))]),([2,3,4,6,8,16,17,18],[2,3,4,6,17]),([2,3,4,6,8,16,17,110],[2,3,4,6,17]),([4,5],[4]),([2,3,4,6,8,16],[2,3,4,6]),([4,5],[4])]
def Z1G(p q:Edit)(x9:Int)(ml6_7:List WEdit):LSt U:=(L2 [pL 2,pL 3,pL 4,pL 6,(7,.c (sU .int (Ye ((Edit.mk p.kind (Tree.mk p.old.kind p.old.words p.old.kids) (Tree.mk p.new.kind p.new.words p.new.kids) p.words p.kids p.list p.ops).words.map WEdit.at_) ((Edit.mk q.kind (Tree.mk q.old.kind q.old.words q.old.kids) (Tree.mk q.new.kind q.new.words q.new.kids) q.words q.kids q.list q.ops).words.map WEdit.at_)) .unk)),(8,.c (sU .int (Ye ((Edit.mk p.kind (Tree.mk p.old.kind p.old.words p.old.kids) (Tree.mk p.new.kind p.new.words p.new.kids) p.words p.kids p.list p.ops).kids.map KidOf.at_) ((Edit.mk q.kind (Tree.mk q.old.kind q.old.words q.old.kids) (Tree.mk q.new.kind q.new.words q.new.kids) q.words q.kids q.list q.ops).kids.map KidOf.at_)) .unk)),pI 9 x9] [(.loc 2,(enc .edit p)),(.loc 3,(enc .edit q)),(.loc 4,zc1),(.loc 6,[ci 2,ci 0,.nils,.nils,ci 0,.nils,.nils,sU .wedit ml6_7 (.own (.l 6 7)),.nils,ci 0,.nils])])
def Z4L(p q:Edit)(x9:Int)(ml6_7_a:List WEdit):LSt U:=(L2 [pL 2,pL 3,pL 4,pL 6,(7,.c (sU .int (Ye ((Edit.mk p.kind (Tree.mk p.old.kind p.old.words p.old.kids) (Tree.mk p.new.kind p.new.words p.new.kids) p.words p.kids p.list p.ops).words.map WEdit.at_) ((Edit.mk q.kind (Tree.mk q.old.kind q.old.words q.old.kids) (Tree.mk q.new.kind q.new.words q.new.kids) q.words q.kids q.list q.ops).words.map WEdit.at_)) .unk)),(8,.c (sU .int (Ye ((Edit.mk p.kind (Tree.mk p.old.kind p.old.words p.old.kids) (Tree.mk p.new.kind p.new.words p.new.kids) p.words p.kids p.list p.ops).kids.map KidOf.at_) ((Edit.mk q.kind (Tree.mk q.old.kind q.old.words q.old.kids) (Tree.mk q.new.kind q.new.words q.new.kids) q.words q.kids q.list q.ops).kids.map KidOf.at_)) .unk)),pI 9 x9] [(.loc 2,(enc .edit p)),(.loc 3,(enc .edit q)),(.loc 4,zc1),(.loc 6,[ci 2,ci 0,.nils,.nils,ci 0,.nils,.nils,sU .wedit ml6_7_a (.own (.l 6 7)),.nils,ci 0,.nils])])
def Z7L(p q:Edit)(ml6_7:List WEdit)(x16_b:Int)(ml6_8_b:List Kid):LSt U:=(L2 [pL 2,pL 3,pL 4,pL 6,(8,.c (sU .int (Ye ((Edit.mk p.kind (Tree.mk p.old.kind p.old.words p.old.kids) (Tree.mk p.new.kind p.new.words p.new.kids) p.words p.kids p.list p.ops).kids.map KidOf.at_) ((Edit.mk q.kind (Tree.mk q.old.kind q.old.words q.old.kids) (Tree.mk q.new.kind q.new.words q.new.kids) q.words q.kids q.list q.ops).kids.map KidOf.at_)) .unk)),pI 16 x16_b] [(.loc 2,(enc .edit p)),(.loc 3,(enc .edit q)),(.loc 4,zc1),(.loc 6,[ci 2,ci 0,.nils,.nils,ci 0,.nils,.nils,sU .wedit ml6_7 (.own (.l 6 7)),sU .kid ml6_8_b (.own (.l 6 8)),ci 0,.nils])])
abbrev ZgZ(N:Nat)(p:List Nat):=AW (Z1 (Z5z N)) Tryz.f144 Zpy p
abbrev Zo7(N:Nat)(p:List Nat):=SW (Z1 (Z5z N)) Tryz.f144 Zpy p
theorem ZH8(N:Nat)(p q:Edit)(Q:QT)(h:((ZmF ((Edit.mk p.kind (Tree.mk p.old.kind p.old.words p.old.kids) (Tree.mk p.new.kind p.new.words p.new.kids) p.words p.kids p.list p.ops),(Edit.mk q.kind (Tree.mk q.old.kind q.old.words q.old.kids) (Tree.mk q.new.kind q.new.words q.new.kids) q.words q.kids q.list q.ops),()))/\(Zj (ZgZ N [1,1,1,0,1,0,0]) (Z1G p q 0 []) (xB 0 (Zo7 N [1,1,1,1] Q))))):
  ZgZ N [] (L2 [(0,.agg (enc .edit p)),(1,.agg (enc .edit q))] []) Q:=
 Eq.mpr V4 h
theorem Zta(N:Nat)(p q:Edit)(x9:Int)(ml6_7:List WEdit)(N0:NT)(Q:QT)(h:∀ y_1,y_1=p->∀ y_2,y_2=q->∀ y_3,y_3=(Ye (y_1.words.map WEdit.at_) (y_2.words.map WEdit.at_))->∀ y_4,y_4=(y_3.getD x9.toNat (0:Int))->∀ y_5,y_5=((Z1D p.words y_4).getD (WEdit.mk 0 0 0 0))->∀ y_6,y_6=((Z1D q.words y_4).getD (WEdit.mk 0 0 0 0))->∀ y_7,y_7=((Jh y_5 y_6).1)->let z0:=xT N0 (xB 0 (Zo7 N [1,1,1,1] Q));(iB (decide (x9 < (y_3.length:Int))) (((0:Int)<=x9/\x9 < (y_3.length:Int))/\(ZiP (p.words,y_4,()))/\(((0:Int)<=x9/\x9 < (y_3.length:Int))/\(ZiP (q.words,y_4,()))/\(iB (!((Z1D q.words y_4).isSome)) (((ml6_7.length+([y_5]).length)*32<=140737488355328)/\(ZgZ N [1,1,1,0,1,0,0,1,1] (Z4L p q x9 (ml6_7++([y_5]))) z0)) ((iB (!((Z1D p.words y_4).isSome)) (((ml6_7.length+([y_6]).length)*32<=140737488355328)/\(ZgZ N [1,1,1,0,1,0,0,1,1] (Z4L p q x9 (ml6_7++([y_6]))) z0)) ((ZmE (y_5,y_6,()))/\(iB (!((Jh y_5 y_6).2)) ((Q .ret (L2 [pL 4,pB 5 false] [(.loc 4,zc1)]))) (((ml6_7.length+([y_7]).length)*32<=140737488355328)/\(ZgZ N [1,1,1,0,1,0,0,1,1] (Z4L p q x9 (ml6_7++([y_7]))) z0))))))))) ((Zj (ZgZ N [1,1,1,1,0,1,0,0]) (Z7L p q ml6_7 0 []) (xB 3 (Zo7 N [1,1,1,1,1] Q)))))):
  ZgZ N [1,1,1,0,1,0,0] (Z1G p q x9 ml6_7) (xT N0 (xB 0 (Zo7 N [1,1,1,1] Q))):=
 Eq.mpr V4 (h _ (Z7 _) _ (Z7 _) _ rfl _ rfl _ (Z1y _) _ (Z1y _) _ (Z1y _))
theorem Ztb(N:Nat)(p q:Edit)(x9:Int)(ml6_7_a:List WEdit)(N0:NT)(Q:QT)(h:(InR (x9+1))/\(N0 (Z1G p q (x9+1) ml6_7_a))):
  ZgZ N [1,1,1,0,1,0,0,1,1] (Z4L p q x9 ml6_7_a) (xT N0 (xB 0 (Zo7 N [1,1,1,1] Q))):=
 Eq.mpr V4 h
theorem Zt9(N:Nat)(p q:Edit)(ml6_7:List WEdit)(x16_b:Int)(ml6_8_b:List Kid)(N2:NT)(Q:QT)(h:∀ y_1,y_1=p->∀ y_2,y_2=q->∀ y_3,y_3=(Ye (y_1.kids.map KidOf.at_) (y_2.kids.map KidOf.at_))->∀ y_4,y_4=(y_3.getD x16_b.toNat (0:Int))->∀ y_5,y_5=(JA p.kids y_4)->∀ y_6,y_6=(JA q.kids y_4)->∀ y_7,y_7=((YX y_5 y_6).1)->(iB (decide (x16_b < (y_3.length:Int))) (((0:Int)<=x16_b/\x16_b < (y_3.length:Int))/\(ZbO (p.kids,y_4,()))/\((0:Int)<=x16_b/\x16_b < (y_3.length:Int))/\(ZbO (q.kids,y_4,()))/\(Z2b (y_5,y_6,()))/\(Zd5 (y_5,y_6,()) < N)/\(iB (!((YX y_5 y_6).2)) ((Q .ret (L2 [pL 4,pB 5 false] [(.loc 4,zc1)]))) (((0:Int)<=x16_b/\x16_b < (y_3.length:Int))/\((ml6_8_b.length+([(KidOf.mk y_4 y_7)]).length)*208<=140737488355328)/\((InR (x16_b+1))/\(N2 (Z7L p q ml6_7 (x16_b+1) (ml6_8_b++([(KidOf.mk y_4 y_7)])))))))) ((Q .ret (L2 [pL 4,pB 5 true] [(.loc 4,[ci 2,ci 0,.nils,.nils,ci 0,.nils,.nils,sU .wedit ml6_7 (.own (.l 4 7)),sU .kid ml6_8_b (.own (.l 4 8)),ci 0,.nils])]))))):
  ZgZ N [1,1,1,1,0,1,0,0] (Z7L p q ml6_7 x16_b ml6_8_b) (xT N2 (xB 3 (Zo7 N [1,1,1,1,1] Q))):=
 Eq.mpr V4 (h _ (Z7 _) _ (Z7 _) _ rfl _ rfl _ (Z7 _) _ (Z7 _) _ (Z7 _))
def ZAW(N:Nat)(p q:Edit):Prop:=AW (Z1 (Z5z N)) Tryz.f144 Zpy [] (Zg (Zo3.can (p,q,())) []) (EQ Tryz.f144 (Z5n (p,q,())) [])
abbrev ZCi:Prop:=∀ (N:Nat) (p:Edit) (q:Edit) (_:Unit),Z6j (p,q,())->Z8o (p,q,()) < N+1->ZAW N p q
def Zpx:Zd U:=lvk [([2,3,4],[2,3,4]),([2,3,4,6,7],[2,3,4]),([2,4,6,30],[2,4]),([4,5],[4]),([4,6,8],[4,8]),([4,6,8,9],[4,((.loc 8),(an 10 [.own .op]))]),([4,6,8,9,38],[4,8]),([4,6,8,9],[4,((.loc 8),(an 10 [.own .op]))]),([4,6,8,9,45],[4,8]),([4,6,8,9,10,11],[4,8]),([4,6,8,9,10,61],[4,8]),([4,5],[4]),([4,6,8,9],[4,8]),([4,6,8,9,45,68],[4,8]),([4,6,8,9],[4,8]),([4,6,8,9,81],[4,8]),([4,6,8,9],[4,8]),([4,5],[4])]
def Z1F(p q:Edit)(x9:Int)(ml8_10:List Op):LSt U:=(L2 [pL 4,(6,.c (sU .pair ((ZX (ZE 0 1 p.ops) (ZE 0 2 q.ops) []).1) .unk)),pL 8,pI 9 x9] [(.loc 4,zc1),(.loc 8,[ci 3,ci 0,.nils,.nils,ci 0,.nils,.nils,.nils,.nils,ci p.list,sU .op ml8_10 (.own (.l 8 10))])])
def Z4K(p q:Edit)(x9:Int)(ml8_10_a:List Op):LSt U:=(L2 [pL 4,(6,.c (sU .pair ((ZX (ZE 0 1 p.ops) (ZE 0 2 q.ops) []).1) .unk)),pL 8,pI 9 x9] [(.loc 4,zc1),(.loc 8,[ci 3,ci 0,.nils,.nils,ci 0,.nils,.nils,.nils,.nils,ci p.list,sU .op ml8_10_a (.own (.l 8 10))])])
abbrev Zm8(N:Nat)(p:List Nat):=AW (Z1 (Z5z N)) Tryz.f145 Zpx p
abbrev Zxt(N:Nat)(p:List Nat):=SW (Z1 (Z5z N)) Tryz.f145 Zpx p
theorem ZH7(N:Nat)(p q:Edit)(Q:QT)(h:let z0:= !((ZX (ZE 0 1 p.ops) (ZE 0 2 q.ops) []).2);((Zft (p.ops,1,()))/\(Zft (q.ops,2,()))/\(ZiO ((ZE 0 1 p.ops),(ZE 0 2 q.ops),()))/\((Tt (!z0))/\(Tt (!z0))/\(Tt (!z0))/\(Tt (!z0))/\(z0=false->(!z0)=true)/\(iB (bif z0 then true else (p.list !=q.list)) ((Q .ret (L2 [pL 4,pB 5 false] [(.loc 4,zc1)]))) ((Zj (Zm8 N [1,1,1,1,0,1,0,0]) (Z1F p q 0 []) (xB 0 (Zxt N [1,1,1,1,1] Q)))))))):
  Zm8 N [] (L2 [(0,.agg (enc .edit p)),(1,.agg (enc .edit q))] []) Q:=
 Eq.mpr V4 h
theorem Zt7(N:Nat)(p q:Edit)(x9:Int)(ml8_10:List Op)(N0:NT)(Q:QT)(h:∀ y_1,y_1=(ZX (ZE 0 1 p.ops) (ZE 0 2 q.ops) [])->∀ y_2,y_2=(List.getD (y_1.1) x9.toNat (APair.mk 0 AUnit.nil AUnit.nil))->∀ y_3,y_3=(y_2.p)->∀ y_4,y_4=(y_2.q)->∀ y_5,y_5=(opU y_3)->∀ y_6,y_6=(opU y_4)->let z1:=JJ YX y_3 y_4;let z0:=xT N0 (xB 0 (Zxt N [1,1,1,1,1] Q));(iB (decide (x9 < ((y_1.1).length:Int))) (((0:Int)<=x9/\x9 < ((y_1.1).length:Int))/\(iB (y_2.of==1) (((0:Int)<=x9/\x9 < ((y_1.1).length:Int))/\(ZbN (y_3,()))/\((ml8_10.length+([y_5]).length)*240<=140737488355328)/\(Zm8 N [1,1,1,1,0,1,0,0,1,1] (Z4K p q x9 (ml8_10++([y_5]))) z0)) ((iB (y_2.of==2) (((0:Int)<=x9/\x9 < ((y_1.1).length:Int))/\(ZbN (y_4,()))/\((ml8_10.length+([y_6]).length)*240<=140737488355328)/\(Zm8 N [1,1,1,1,0,1,0,0,1,1] (Z4K p q x9 (ml8_10++([y_6]))) z0)) (((0:Int)<=x9/\x9 < ((y_1.1).length:Int))/\((0:Int)<=x9/\x9 < ((y_1.1).length:Int))/\(Z6h (y_3,y_4,()))/\(ZfS (y_3,y_4,()) < N)/\(iB (!(z1.2)) ((Q .ret (L2 [pL 4,pB 5 false] [(.loc 4,zc1)]))) (((ml8_10.length+(z1.1).length)*240<=140737488355328)/\(Zm8 N [1,1,1,1,0,1,0,0,1,1] (Z4K p q x9 (ml8_10++(z1.1))) z0)))))))) ((Q .ret (L2 [pL 4,pB 5 true] [(.loc 4,[ci 3,ci 0,.nils,.nils,ci 0,.nils,.nils,.nils,.nils,ci p.list,sU .op ml8_10 (.own (.l 4 10))])]))))):
  Zm8 N [1,1,1,1,0,1,0,0] (Z1F p q x9 ml8_10) (xT N0 (xB 0 (Zxt N [1,1,1,1,1] Q))):=
 Eq.mpr V4 (h _ rfl _ rfl _ (Z0U _) _ (Z0U _) _ (YP _) _ (YP _))
theorem Zt8(N:Nat)(p q:Edit)(x9:Int)(ml8_10_a:List Op)(N0:NT)(Q:QT)(h:(InR (x9+1))/\(N0 (Z1F p q (x9+1) ml8_10_a))):
  Zm8 N [1,1,1,1,0,1,0,0,1,1] (Z4K p q x9 ml8_10_a) (xT N0 (xB 0 (Zxt N [1,1,1,1,1] Q))):=
 Eq.mpr V4 h
def ZAV(N:Nat)(p q:Edit):Prop:=AW (Z1 (Z5z N)) Tryz.f145 Zpx [] (Zg (Zo3.can (p,q,())) []) (EQ Tryz.f145 (Z5m (p,q,())) [])
abbrev ZCh:Prop:=∀ (N:Nat) (p:Edit) (q:Edit) (_:Unit),Z6i (p,q,())->Z8o (p,q,()) < N+1->ZAV N p q
def Zvd:Zd U:=lvl [([2,3],[2,3]),([2,3,14],[2,3]),([4,5],[]),([2,3,20],[2,3]),([4,5],[]),([2,3,31],[2,3]),([4,5],[]),([2,3,39],[2,3]),([6,7],[6]),([4,5],[]),([2,3,55],[2,3]),([8,9],[8]),([4,5],[]),([10,11],[10]),([4,5],[])]
abbrev ZK6(N:Nat)(p:List Nat):=AW (Z1 (Z5z N)) Tryz.f177 Zvd p
theorem ZGK(N:Nat)(p q:AUnit)(Q:QT)(h:∀ y_1,y_1=p->∀ y_2,y_2=q->∀ y_3,y_3=(p.e)->∀ y_4,y_4=(q.e)->∀ y_5,y_5=(p.t)->∀ y_6,y_6=(q.t)->∀ y_7,y_7=(opU y_1)->∀ y_8,y_8=(opU y_2)->∀ y_9,y_9=((YX y_3 y_4).1)->∀ y_10,y_10=(Zz (Zs y_3))->∀ y_11,y_11=(Yc (doE true y_4 y_5))->∀ y_12,y_12=(Yc (doE true y_10 y_6))->let z0:=Edit.mk 0 (Tree.mk 0 [] []) (Tree.mk 0 [] []) [] [] 0 [];(iB (q.kind==0) ((ZbN (y_1,()))/\(Q .ret (L2 [(4,.c (sU .op ([y_7]) .full)),pB 5 true] []))) ((iB (p.kind==0) ((ZbN (y_2,()))/\(Q .ret (L2 [(4,.c (sU .op ([y_8]) .full)),pB 5 true] []))) ((Tt (p.kind==2))/\(Tt (p.kind==2))/\(Tt (p.kind==2))/\(iB (bif (p.kind==2) then (q.kind==1) else false) ((Z6e (y_5,y_6,()))/\(Q .ret (L2 [(4,.c (.nils)),pB 5 (YM (Z5 y_5) (Z5 y_6))] []))) ((iB (p.kind==2) ((Z4o (y_4,y_5,()))/\(Q .ret (L2 [(4,.c (sU .op ([(OpOf.mk 2 0 ([y_11]) z0)]) .full)),pB 5 ((doE true y_4 y_5).isSome)] []))) ((iB (q.kind==1) ((Z3H (y_3,()))/\(Z4o (y_10,y_6,()))/\(Q .ret (L2 [(4,.c (sU .op ([(OpOf.mk 1 0 ([y_12]) z0)]) .full)),pB 5 ((doE true y_10 y_6).isSome)] []))) ((Z2b (y_3,y_4,()))/\(Zd5 (y_3,y_4,()) < N)/\(Q .ret (L2 [(4,.c (sU .op ([(OpOf.mk 3 0 [] y_9)]) .full)),pB 5 ((YX y_3 y_4).2)] []))))))))))))):
  ZK6 N [] (L2 [(0,.agg (enc .unit p)),(1,.agg (enc .unit q))] []) Q:=
 Eq.mpr V4 (h _ (Z0U _) _ (Z0U _) _ (Z7 _) _ (Z7 _) _ (Za _) _ (Za _) _ (YP _) _ (YP _) _ (Z7 _) _ (Z7 _) _ (Za _) _ (Za _))
def ZAy(N:Nat)(p q:AUnit):Prop:=AW (Z1 (Z5z N)) Tryz.f177 Zvd [] (Zg (Z5I.can (p,q,())) []) (EQ Tryz.f177 (Z5l (p,q,())) [])
abbrev ZCd:Prop:=∀ (N:Nat) (p:AUnit) (q:AUnit) (_:Unit),Z6h (p,q,())->ZfS (p,q,()) < N+1->ZAy N p q
theorem Zv5(c35:CT 35 Z30)(c39:CT 39 Z25)(ZEr:CT 170 Z5f)(ZEq:CT 171 Z5e)(ZEo:CT 173 Z5c)(ZEp:CT 172 Z5d)(ZEm:CT 175 Z5a)(ZEn:CT 174 Z5b)(ZEl:CT 176 Z59)(c25:CT 25 Z0i)(ZF2:ZCm)(ZEY:ZCi)(ZEX:ZCh)(ZET:ZCd):
  CT 106 Z73/\CT 144 Zov/\CT 145 Zou/\CT 177 Zoq:=by
 have h61 : ∃ fn, Tryz.prog.funcs[(106 : FuncId)]? = some fn ∧ fn.body.isSome = true ∧ (fn.name == "runtime.NumGoroutine") = false := ⟨Tryz.f106, Tryz.func106, rfl, rfl⟩
 have h101 : ∃ fn, Tryz.prog.funcs[(144 : FuncId)]? = some fn ∧ fn.body.isSome = true ∧ (fn.name == "runtime.NumGoroutine") = false := ⟨Tryz.f144, Tryz.func144, rfl, rfl⟩
 have h102 : ∃ fn, Tryz.prog.funcs[(145 : FuncId)]? = some fn ∧ fn.body.isSome = true ∧ (fn.name == "runtime.NumGoroutine") = false := ⟨Tryz.f145, Tryz.func145, rfl, rfl⟩
 have h147 : ∃ fn, Tryz.prog.funcs[(177 : FuncId)]? = some fn ∧ fn.body.isSome = true ∧ (fn.name == "runtime.NumGoroutine") = false := ⟨Tryz.f177, Tryz.func177, rfl, rfl⟩
 have key:∀ N,CT 106 (fs Zo3 (fun a=> [Z2b a,Zd5 a < N]) Z5p)/\CT 144 (fs Zo3 (fun a=> [Z6j a,Z8o a < N]) Z5n)/\CT 145 (fs Zo3 (fun a=> [Z6i a,Z8o a < N]) Z5m)/\CT 177 (fs Z5I (fun a=> [Z6h a,ZfS a < N]) Z5l):=by
  intro N
  induction N with
  | zero=> exact ⟨Yo h61,Yo h101,Yo h102,Yo h147⟩
  | succ N ih=>
   have kn:=JV (l:=Z5z N) ⟨ih.1,ih.2.1,ih.2.2.1,ih.2.2.2,c35,c39,ZEr,ZEq,ZEo,ZEp,ZEm,ZEn,ZEl,c25,trivial⟩
   exact ⟨Zr (Γ:=Z1 (Z5z N)) Zi rfl kn Zvz Tryz.func106 rfl rfl (fun a=> by show 2<=_;decide) (fun ⟨p,q,_⟩ h=> ZF2 N p q () h.1 h.2.1),
    Zr (Γ:=Z1 (Z5z N)) Zi rfl kn Zpy Tryz.func144 rfl rfl (fun a=> by show 2<=_;decide) (fun ⟨p,q,_⟩ h=> ZEY N p q () h.1 h.2.1),
    Zr (Γ:=Z1 (Z5z N)) Zi rfl kn Zpx Tryz.func145 rfl rfl (fun a=> by show 2<=_;decide) (fun ⟨p,q,_⟩ h=> ZEX N p q () h.1 h.2.1),
    Zr (Γ:=Z1 (Z5z N)) Zi rfl kn Zvd Tryz.func177 rfl rfl (fun a=> by show 2<=_;decide) (fun ⟨p,q,_⟩ h=> ZET N p q () h.1 h.2.1)⟩
 exact ⟨Yp h61 fun N=> (key N).1,Yp h101 fun N=> (key N).2.1,Yp h102 fun N=> (key N).2.2.1,Yp h147 fun N=> (key N).2.2.2⟩
end
theorem Z7g{e:Edit}(h:Ym e):Wk e:=by obtain ⟨d,hr⟩:=h.2.2;exact .of hr h.2.1
theorem Zcp{p q:Edit}(hp:Ym p)(hq:Ym q):ComWk True (Yy p q) p q:=ZEg _ p q (Q8 _) (Z7g hp) (Z7g hq)
theorem ZA8{p q:Edit}(hp:Ym p)(hq:Ym q)(h:(Yy p q).2=true):Z3H ((Yy p q).1,()):=by
 have H:=Zcp hp hq
 have:=H.ct trivial h
 have:=Zas (Yy p q).1
 have:=hp.1
 have:=hq.1
 exact ⟨by grind,-1,(H.wk h).r⟩
theorem c68:Contract Tryz.prog cfg 68 Zez:=by
 refine ZD9 ZEN ZnQ.1 ?_
 intro p q _ hp
 refine ZIS _ _ _ ?_
 intro y1 h1 y2 h2 y3 h3
 subst h1 h2
 (simp only [iB,vcT,vcS])
 refine ⟨hp,fun hc=> ?_,fun hc=> ?_⟩
 .refine Y5 (r':= .tup [(true,enc .edit Edit.nil),(false,[.bool false])]) ?_ JR
  simp only [ZoQ,Z1e]
  rw [if_neg (by grind)]
  try rfl
 .refine ⟨by rw [h3];exact ZA8 hp.1 hp.2 hc,Y5 (r':= .tup [(true,enc .edit (Zz y3)),(false,[.bool true])]) ?_ JR⟩
  simp only [ZoQ,Z1e]
  rw [if_pos hc,h3]
  try rfl
theorem ZbV{f g:Nat->Int}(h:∀ i,i < 8->f i=g i):of8 f=of8 g:=by
 unfold of8
 grind
theorem Zgx{p q:WEdit}(rp:Z28 p)(rq:Z28 q):Z6T p q=true↔∀ i:Nat,i < 8->ZB p.mask (i:Int)=true->ZB q.mask (i:Int)=true->Z0 p.new i=Z0 q.old i:=by
 obtain ⟨_,h⟩:=Zr1 rp.2.1 rq.2.1
 unfold Z6T
 rw [decide_eq_true_eq]
 constructor
 .intro e i hi h1 h2
  have:=congrArg (fun w=> Z0 w i) e
  simp only [ZmV hi] at this
  grind
 .intro e
  refine ZbV fun i hi=> ?_
  unfold Je
  grind
theorem ZwK{m i:Int}(h0:0<=m)(hi:0<=i)(h8:i < 8):m % 2 ^ (i+1).toNat=m % 2 ^ i.toNat+if ZB m i=true then 2 ^ i.toNat else 0:=by
 have e:ZB m i=decide (m / 2 ^ i.toNat % 2=1):=rfl
 rw [e]
 simp only [decide_eq_true_eq]
 have:i=0\/i=1\/i=2\/i=3\/i=4\/i=5\/i=6\/i=7:=YL
 grind
theorem ZAc{i:Int}(hi:0<=i):(2:Int)*2 ^ i.toNat=2 ^ (i+1).toNat:=by
 rw [show (i+1).toNat=i.toNat+1 by omega,K1,Int.mul_comm]
theorem ZEQ{i:Int}(h0:0<=i)(hi:i<=8):(1:Int)<=2 ^ i.toNat/\(2:Int) ^ i.toNat<=256:=by
 have:i=0\/i=1\/i=2\/i=3\/i=4\/i=5\/i=6\/i=7\/i=8:=YL
 rcases this with rfl | rfl | rfl | rfl | rfl | rfl | rfl | rfl | rfl <;> simp
def YA(p q:WEdit)(j:Nat):Int:=if ZB p.mask (j:Int)=true then Z0 p.old j else if ZB q.mask (j:Int)=true then Z0 q.old j else 0
def YB(p q:WEdit)(j:Nat):Int:=if ZB q.mask (j:Int)=true then Z0 q.new j else if ZB p.mask (j:Int)=true then Z0 p.new j else 0
set_option maxHeartbeats 1000000 in
theorem ZEp:Contract Tryz.prog cfg 172 Z5d:=by
 refine Zz2 Zsn Zsm Zsl ?_
 intro p q _ hp
 obtain ⟨⟨rp,op,np⟩,rq,oq,nq⟩:=hp
 dsimp only at rp op np rq oq nq
 obtain ⟨om,ob⟩:=ZuN rp.2.1 rq.2.1
 refine ZGP _ _ _ ?_
 refine ⟨rp.2.2.1,rp.2.2.2,rq.2.2.1,rq.2.2.2,?_⟩
 let st:=fun (F:Nat->Int) (i:Int) (j:Nat)=> if (j:Int) < i then F j else 0
 refine Z4 (ι:=Int) (fun i=> Z0Z p q (2 ^ i.toNat) (orM p.mask q.mask % 2 ^ i.toNat) i (st (YA p q) i 0) (st (YA p q) i 1) (st (YA p q) i 2) (st (YA p q) i 3) (st (YA p q) i 4) (st (YA p q) i 5) (st (YA p q) i 6) (st (YA p q) i 7)
  (st (YB p q) i 0) (st (YB p q) i 1) (st (YB p q) i 2) (st (YB p q) i 3) (st (YB p q) i 4) (st (YB p q) i 5) (st (YB p q) i 6) (st (YB p q) i 7))
  (fun i=> (0<=i/\i<=8)/\∀ j:Nat,(j:Int) < i->ZB p.mask (j:Int)=true->ZB q.mask (j:Int)=true->Z0 p.new j=Z0 q.old j) (fun i=> (8 - i).toNat) 0 ?_ ⟨⟨YL,YL⟩,fun j hj=> by omega⟩ ?_
 .simp [Z0Z,st]
 rintro i ⟨⟨h1,h2⟩,hok⟩
 have bs:=ZwK (m:=orM p.mask q.mask) om.1 h1
 have bp:=ZAc h1
 have bl:=ZEQ h1 h2
 have orb:ZB (orM p.mask q.mask) i=(ZB p.mask i || ZB q.mask i):=by
  have:=ob i.toNat
  rwa [show ((i.toNat:Nat):Int)=i by omega] at this
 refine ZsV _ _ _ _ _ _ _ _ _ _ _ _ _ _ _ _ _ _ _ _ _ _ _ ?_
 have f1:∀ (F:Nat->Int) (v:Int),v=F i.toNat->∀ j:Nat,Yf i j v (st F i j)=st F (i+1) j:=fun F v hv j=> ZjQ (F:=F) (G:=fun _=> 0) h1 hv
 have f2:∀ (F:Nat->Int),F i.toNat=0->∀ j:Nat,st F i j=st F (i+1) j:=fun F hv j=> ZA1 (F:=F) (G:=fun _=> 0) hv h1
 have f3:∀ (v w x:Int) (j:Nat),Yf i j v (Yf i j w x)=Yf i j v x:=fun v w x j=> by unfold Yf;split <;> rfl
 have gd:∀ w:Int,i < 8->List.getD [Z0 w 0,Z0 w 1,Z0 w 2,Z0 w 3,Z0 w 4,Z0 w 5,Z0 w 6,Z0 w 7] i.toNat 0=Z0 w i.toNat:=fun w h=> Zqe (Z0 w) YL
 have ie:((i.toNat:Nat):Int)=i:=YL
 have tl:∀ (m:Int) (N0:LSt U->Prop) (Q:AExit->LSt U->Prop),i < 8->N0 (Z0Z p q (2*2 ^ i.toNat) m (i+1) (st (YA p q) (i+1) 0) (st (YA p q) (i+1) 1) (st (YA p q) (i+1) 2) (st (YA p q) (i+1) 3) (st (YA p q) (i+1) 4) (st (YA p q) (i+1) 5) (st (YA p q) (i+1) 6) (st (YA p q) (i+1) 7) (st (YB p q) (i+1) 0) (st (YB p q) (i+1) 1) (st (YB p q) (i+1) 2) (st (YB p q) (i+1) 3) (st (YB p q) (i+1) 4) (st (YB p q) (i+1) 5) (st (YB p q) (i+1) 6) (st (YB p q) (i+1) 7))->
   Z88 [1,1,1,1,1,1,0,1,0,0,1,0,0,1,1,1] (Z7D p q (2 ^ i.toNat) i (st (YA p q) i 0) (st (YA p q) i 1) (st (YA p q) i 2) (st (YA p q) i 3) (st (YA p q) i 4) (st (YA p q) i 5) (st (YA p q) i 6) (st (YA p q) i 7) (st (YB p q) i 0) (st (YB p q) i 1) (st (YB p q) i 2) (st (YB p q) i 3) (st (YB p q) i 4) (st (YB p q) i 5) (st (YB p q) i 6) (st (YB p q) i 7) m) (AExit.inBlock 1 (Z5T [1,1,1,1,1,1,0,1,0,0,1,1] (AExit.then N0 (AExit.inBlock 0 (Z5T [1,1,1,1,1,1,1] Q))))):=by
  intro m N0 Q h8 hN
  refine ZsW _ _ _ _ _ _ _ _ _ _ _ _ _ _ _ _ _ _ _ _ _ _ _ ?_
  intro y1 hy1 y2 hy2
  rw [gd _ h8] at hy1 hy2
  subst hy1 hy2
  have ir:InR (2*2 ^ i.toNat):=V3
  have ir2:InR (i+1):=V3
  have rg:(0:Int)<=i/\i < ((8:Nat):Int):=⟨h1,YL⟩
  have wo:YA p q i.toNat=if ZB p.mask i=true then Z0 p.old i.toNat else if ZB q.mask i=true then Z0 q.old i.toNat else 0:=rfl
  have wn:YB p q i.toNat=if ZB q.mask i=true then Z0 q.new i.toNat else if ZB p.mask i=true then Z0 p.new i.toNat else 0:=rfl
  refine ⟨ir,fun hY=> ⟨rg,rg,rg,rg,?_⟩,fun hY=> ?_⟩
  .rw [if_pos hY] at wn
   refine ZjZ _ _ _ _ _ _ _ _ _ _ _ _ _ _ _ _ _ _ _ _ _ _ _ _ ?_
   intro y1 hy1
   rw [gd _ h8] at hy1
   subst hy1
   refine ⟨fun hX=> ⟨rg,rg,?_⟩,fun hX=> ?_⟩
   .rw [if_pos hX] at wo
    refine Z9m _ _ _ _ _ _ _ _ _ _ _ _ _ _ _ _ _ _ _ _ _ _ _ ?_
    intro y1 hy1
    refine ⟨fun h=> h,fun h=> h,fun hZ=> ?_,fun hZ=> ?_⟩
    .grind
    .refine Z9l _ _ _ _ _ _ _ _ _ _ _ _ _ _ _ _ _ _ _ _ _ _ _ ⟨ir2,?_⟩
     rw [f3 _ _ _ 0,f3 _ _ _ 1,f3 _ _ _ 2,f3 _ _ _ 3,f3 _ _ _ 4,f3 _ _ _ 5,f3 _ _ _ 6,f3 _ _ _ 7]
     rw [f1 _ _ wo.symm 0,f1 _ _ wo.symm 1,f1 _ _ wo.symm 2,f1 _ _ wo.symm 3,f1 _ _ wo.symm 4,f1 _ _ wo.symm 5,f1 _ _ wo.symm 6,f1 _ _ wo.symm 7]
     rw [f1 _ _ wn.symm 0,f1 _ _ wn.symm 1,f1 _ _ wn.symm 2,f1 _ _ wn.symm 3,f1 _ _ wn.symm 4,f1 _ _ wn.symm 5,f1 _ _ wn.symm 6,f1 _ _ wn.symm 7]
     exact hN
   .rw [if_neg (by grind),if_pos hY] at wo
    refine Z9m _ _ _ _ _ _ _ _ _ _ _ _ _ _ _ _ _ _ _ _ _ _ _ ?_
    intro y1 hy1
    refine ⟨fun h=> h,fun h=> h,fun hZ=> ?_,fun hZ=> ?_⟩
    .rw [hX] at hZ;cases hZ
    .refine Z9l _ _ _ _ _ _ _ _ _ _ _ _ _ _ _ _ _ _ _ _ _ _ _ ⟨ir2,?_⟩
     rw [f1 _ _ wo.symm 0,f1 _ _ wo.symm 1,f1 _ _ wo.symm 2,f1 _ _ wo.symm 3,f1 _ _ wo.symm 4,f1 _ _ wo.symm 5,f1 _ _ wo.symm 6,f1 _ _ wo.symm 7]
     rw [f1 _ _ wn.symm 0,f1 _ _ wn.symm 1,f1 _ _ wn.symm 2,f1 _ _ wn.symm 3,f1 _ _ wn.symm 4,f1 _ _ wn.symm 5,f1 _ _ wn.symm 6,f1 _ _ wn.symm 7]
     exact hN
  .rw [if_neg (by grind)] at wn
   refine ZjZ _ _ _ _ _ _ _ _ _ _ _ _ _ _ _ _ _ _ _ _ _ _ _ _ ?_
   intro y1 hy1
   rw [gd _ h8] at hy1
   subst hy1
   refine ⟨fun hX=> ⟨rg,rg,?_⟩,fun hX=> ?_⟩
   .rw [if_pos hX] at wo wn
    refine Z9m _ _ _ _ _ _ _ _ _ _ _ _ _ _ _ _ _ _ _ _ _ _ _ ?_
    intro y1 hy1
    rw [gd _ h8] at hy1
    subst hy1
    refine ⟨fun h=> h,fun h=> h,fun hZ=> ⟨rg,rg,?_⟩,fun hZ=> ?_⟩
    .refine Z9l _ _ _ _ _ _ _ _ _ _ _ _ _ _ _ _ _ _ _ _ _ _ _ ⟨ir2,?_⟩
     rw [f1 _ _ wo.symm 0,f1 _ _ wo.symm 1,f1 _ _ wo.symm 2,f1 _ _ wo.symm 3,f1 _ _ wo.symm 4,f1 _ _ wo.symm 5,f1 _ _ wo.symm 6,f1 _ _ wo.symm 7]
     rw [f1 _ _ wn.symm 0,f1 _ _ wn.symm 1,f1 _ _ wn.symm 2,f1 _ _ wn.symm 3,f1 _ _ wn.symm 4,f1 _ _ wn.symm 5,f1 _ _ wn.symm 6,f1 _ _ wn.symm 7]
     exact hN
    grind
   .rw [if_neg (by grind)] at wo wn
    rw [if_neg (by grind)] at wo
    refine Z9m _ _ _ _ _ _ _ _ _ _ _ _ _ _ _ _ _ _ _ _ _ _ _ ?_
    intro y1 hy1
    refine ⟨fun h=> h,fun h=> h,fun hZ=> ?_,fun hZ=> ?_⟩
    .rw [hX] at hZ;cases hZ
    .refine Z9l _ _ _ _ _ _ _ _ _ _ _ _ _ _ _ _ _ _ _ _ _ _ _ ⟨ir2,?_⟩
     simp_all
 have ext:i < 8->(ZB p.mask i=true->ZB q.mask i=true->Z0 p.new i.toNat=Z0 q.old i.toNat)->∀ j:Nat,(j:Int) < i+1->ZB p.mask (j:Int)=true->ZB q.mask (j:Int)=true->Z0 p.new j=Z0 q.old j:=by
  intro h8 h j hj hx hy
  by_cases hji:(j:Int) < i
  .simp_all
  .have:(j:Int)=i:=YL
   have hj':j=i.toNat:=YL
   grind
 (simp only [iB,vcT,vcS])
 refine ⟨fun h8=> ⟨⟨rp.2.1,h1,YL⟩,⟨rq.2.1,h1,YL⟩,fun _=> ⟨h1,YL⟩,fun _=> ⟨h1,YL⟩,fun hne=> ?_,fun hk=> ?_⟩,fun h8=> ?_⟩
 .rw [gd _ h8,gd _ h8] at hne
  have hc:Z6T p q=false:=by
   rw [<-Xj,Zgx rp rq]
   intro h
   have:=h i.toNat YL (by grind) (by grind)
   exact hne.2 this
  refine Y5 (r':= .tup [(true,enc .wedit (⟨0,0,0,0⟩:WEdit)),(false,[.bool false])]) ?_ JR
  simp only [ZiG,Jh]
  rw [hc]
  try rfl
 .rw [gd _ h8,gd _ h8] at hk
  have hk':ZB p.mask i=true->ZB q.mask i=true->Z0 p.new i.toNat=Z0 q.old i.toNat:=by
   intro hx hy
   rcases hk with (h | h) | h
   .rw [hx] at h;cases h
   .rw [hy] at h;cases h
   .exact h
  have fin:∀ m:Int,m=orM p.mask q.mask % 2 ^ (i+1).toNat->∃ j:Int,Z0Z p q (2*2 ^ i.toNat) m (i+1) (st (YA p q) (i+1) 0) (st (YA p q) (i+1) 1) (st (YA p q) (i+1) 2) (st (YA p q) (i+1) 3) (st (YA p q) (i+1) 4) (st (YA p q) (i+1) 5) (st (YA p q) (i+1) 6) (st (YA p q) (i+1) 7) (st (YB p q) (i+1) 0) (st (YB p q) (i+1) 1) (st (YB p q) (i+1) 2) (st (YB p q) (i+1) 3) (st (YB p q) (i+1) 4) (st (YB p q) (i+1) 5) (st (YB p q) (i+1) 6) (st (YB p q) (i+1) 7)=
    Z0Z p q (2 ^ j.toNat) (orM p.mask q.mask % 2 ^ j.toNat) j (st (YA p q) j 0) (st (YA p q) j 1) (st (YA p q) j 2) (st (YA p q) j 3) (st (YA p q) j 4) (st (YA p q) j 5) (st (YA p q) j 6) (st (YA p q) j 7) (st (YB p q) j 0) (st (YB p q) j 1) (st (YB p q) j 2) (st (YB p q) j 3) (st (YB p q) j 4) (st (YB p q) j 5) (st (YB p q) j 6) (st (YB p q) j 7)/\((0<=j/\j<=8)/\∀ k:Nat,(k:Int) < j->ZB p.mask (k:Int)=true->ZB q.mask (k:Int)=true->Z0 p.new k=Z0 q.old k)/\(8 - j).toNat < (8 - i).toNat:=by
   intro m hm
   refine ⟨i+1,?_,⟨⟨YL,YL⟩,ext h8 hk'⟩,YL⟩
   rw [bp,hm]
  have bm:0<=orM p.mask q.mask % 2 ^ i.toNat/\orM p.mask q.mask % 2 ^ i.toNat < 2 ^ i.toNat:=⟨Int.emod_nonneg _ YL,Int.emod_lt_of_pos _ YL⟩
  refine ⟨fun hor=> ⟨V3,tl _ _ _ h8 (fin _ ?_)⟩,fun hno=> tl _ _ _ h8 (fin _ ?_)⟩
  .simp_all
  simp_all
 .have h8:i=8:=YL
  subst h8
  have by_:∀ (w:Int) (j:Nat),0<=Z0 w j/\Z0 w j < 256:=fun w j=> Z0f w j
  have z:(0:Int)<=0/\(0:Int) < 256:=V2
  have ro:∀ j,0<=YA p q j/\YA p q j < 256:=fun j=> by unfold YA;grind
  have rn:∀ j,0<=YB p q j/\YB p q j < 256:=fun j=> by unfold YB;grind
  have all:∀ (F:Nat->Int),(∀ j,0<=F j/\F j < 256)->∀ x∈[st F 8 0,st F 8 1,st F 8 2,st F 8 3,st F 8 4,st F 8 5,st F 8 6,st F 8 7],0<=x/\x < 256:=by
   intro F hF x hx
   simp only [st] at hx
   simp at hx
   grind
  have hc:Z6T p q=true:=(Zgx rp rq).2 fun j hj=> hok j YL
  refine ⟨⟨rfl,rfl,all _ ro⟩,⟨rfl,rfl,all _ rn⟩,?_⟩
  have e1:(of8 fun j=> [st (YA p q) 8 0,st (YA p q) 8 1,st (YA p q) 8 2,st (YA p q) 8 3,st (YA p q) 8 4,st (YA p q) 8 5,st (YA p q) 8 6,st (YA p q) 8 7].getD j 0)=mix q.old p.old p.mask:=by
   refine ZbV fun j hj=> ?_
   rw [Zqe (st (YA p q) 8) hj]
   simp only [st]
   rw [V1]
   unfold YA Je
   split
   .try rfl
   .split
    .try rfl
    .rename_i hn;exact (Z3r oq hj (by simpa using hn)).symm
  have e2:(of8 fun j=> [st (YB p q) 8 0,st (YB p q) 8 1,st (YB p q) 8 2,st (YB p q) 8 3,st (YB p q) 8 4,st (YB p q) 8 5,st (YB p q) 8 6,st (YB p q) 8 7].getD j 0)=mix p.new q.new q.mask:=by
   refine ZbV fun j hj=> ?_
   rw [Zqe (st (YB p q) 8) hj]
   simp only [st]
   rw [V1]
   unfold YB Je
   split
   .try rfl
   .split
    .try rfl
    .rename_i hn;exact (Z3r np hj (by simpa using hn)).symm
  have e3:IntKind.u8.wrap (orM p.mask q.mask % 2 ^ (8:Int).toNat)=orM p.mask q.mask:=by
   rw [show (2:Int) ^ (8:Int).toNat=256 from rfl,Int.emod_eq_of_lt om.1 om.2]
   exact Z9j om.1 om.2
  rw [e1,e2,e3]
  refine Y5 (r':= .tup [(true,enc .wedit (⟨p.at_,orM p.mask q.mask,mix q.old p.old p.mask,mix p.new q.new q.mask⟩:WEdit)),(false,[.bool true])]) ?_ JR
  simp only [ZiG,Jh]
  rw [hc]
  try rfl
theorem Zs4(a:WEdit)(r:List WEdit)(n:Int):Z1D (a ::r) n=if a.at_=n then some a else Z1D r n:=by
 unfold Z1D
 grind
theorem Zs5(a:Kid)(r:List Kid)(n:Int):JA (a ::r) n=if a.at_=n then a.e else JA r n:=by
 unfold JA
 grind
theorem ZEq:Contract Tryz.prog cfg 171 Z5e:=by
 refine Zz3 ?_
 intro l a _ hp
 have hp:l.length<=1000000:=hp
 refine ZGQ _ _ _ ?_
 refine Z4 (ι:=Int) (fun i=> Z7E l a i) (fun i=> 0<=i/\i<=l.length/\Z1D l a=Z1D (l.drop i.toNat) a) (fun i=> ((l.length:Int) - i).toNat) 0 rfl ⟨YL,YL,by simp⟩ ?_
 rintro i ⟨f1,f2,f3⟩
 refine ZsX _ _ _ _ _ ?_
 (simp only [iB,vcT,vcS])
 refine ⟨fun hi=> ?_,fun hi=> ?_⟩
 .rw [ZH f1 hi ⟨0,0,0,0⟩,Zs4] at f3
  generalize hw:l.getD i.toNat ⟨0,0,0,0⟩=w at*
  refine ⟨⟨f1,hi⟩,fun he=> ⟨⟨f1,hi⟩,?_⟩,fun he=> ⟨V3,i+1,rfl,⟨YL,YL,by grind⟩,YL⟩⟩
  rw [if_pos he] at f3
  refine Y5 (r':= .tup [(true,enc .wedit w),(false,[.bool true])]) ?_ JR
  simp only [ZiF,f3]
  try rfl
 .rw [Q6 YL] at f3
  refine Y5 (r':= .tup [(true,enc .wedit (⟨0,0,0,0⟩:WEdit)),(false,[.bool false])]) ?_ JR
  simp only [ZiF,f3]
  try rfl
theorem ZEo:Contract Tryz.prog cfg 173 Z5c:=by
 refine Zz1 ?_
 intro l a _ hp
 have hp:l.length<=1000000:=hp
 refine ZGO _ _ _ ?_
 refine Z4 (ι:=Int) (fun i=> Z7C l a i) (fun i=> 0<=i/\i<=l.length/\JA l a=JA (l.drop i.toNat) a) (fun i=> ((l.length:Int) - i).toNat) 0 rfl ⟨YL,YL,by simp⟩ ?_
 rintro i ⟨f1,f2,f3⟩
 refine ZsU _ _ _ _ _ ?_
 (simp only [iB,vcT,vcS])
 refine ⟨fun hi=> ?_,fun hi=> ?_⟩
 .rw [ZH f1 hi ⟨0,Edit.nil⟩,Zs5] at f3
  generalize hw:l.getD i.toNat ⟨0,Edit.nil⟩=w at*
  refine ⟨⟨f1,hi⟩,fun he=> ⟨⟨f1,hi⟩,?_⟩,fun he=> ⟨V3,i+1,rfl,⟨YL,YL,by grind⟩,YL⟩⟩
  rw [if_pos he] at f3
  refine Y5 (r':= .agg (enc .edit w.e)) ?_ JR
  simp only [ZiD,f3]
  try rfl
 .rw [Q6 YL] at f3
  refine Y5 (r':= .agg (enc .edit Edit.nil)) ?_ JR
  simp only [ZiD,f3]
  try rfl
theorem ZEj:Contract Tryz.prog cfg 188 Z9u:=by
 refine ZyV ?_
 intro a b _ hp
 obtain ⟨la,lb⟩:=hp
 dsimp only at la lb
 refine ZGH _ _ _ ?_
 refine Z4 (ι:=Int × Int × List Int) (fun s=> Z1E a b s.1 s.2.1 s.2.2) (fun s=> (0<=s.1/\s.1<=a.length)/\(0<=s.2.1/\s.2.1<=b.length)/\Ye a b=s.2.2++Ye (a.drop s.1.toNat) (b.drop s.2.1.toNat)/\(s.2.2.length:Int)<=s.1+s.2.1)
  (fun s=> ((a.length:Int) - s.1+(b.length - s.2.1)).toNat) (0,0,[]) rfl ⟨by simp,by simp,by simp,by simp⟩ ?_
 rintro ⟨i,j,o⟩ ⟨⟨i0,i1⟩,⟨j0,j1⟩,f3,f4⟩
 dsimp only at i0 i1 j0 j1 f3 f4
 refine ZsK _ _ _ _ _ _ _ ?_
 intro y1 h1 y2 h2
 (simp only [iB,vcT,vcS])
 have step:∀ (n i' j':Int) (N0:LSt U->Prop) (Q:AExit->LSt U->Prop),i'=(if i < a.length/\a.getD i.toNat 0=n then i+1 else i)->j'=(if j < b.length/\b.getD j.toNat 0=n then j+1 else j)->N0 (Z1E a b i' j' (o++[n]))->
   Z9i [1,1,1,0,0,0,1,0,1,1] (Z7y a b i j o n) (AExit.inBlock 1 (AExit.then N0 (AExit.inBlock 0 (ZgE [1,1,1,1] Q)))):=by
  intro n i' j' N0 Q hi' hj' hN
  have fin:∀ (x y:Int),x=i'->y=j'->Z9i [1,1,1,0,0,0,1,0,1,1,1,1] (Z7w a b j o n x y) (AExit.inBlock 1 (AExit.then N0 (AExit.inBlock 0 (ZgE [1,1,1,1] Q)))):=by
   rintro x y rfl rfl
   exact ZsL _ _ _ _ _ _ _ _ _ ⟨by grind,hN⟩
  have two:∀ (x:Int),x=i'->Z9i [1,1,1,0,0,0,1,0,1,1,1] (Z7x a b i j o n x) (AExit.inBlock 1 (AExit.then N0 (AExit.inBlock 0 (ZgE [1,1,1,1] Q)))):=by
   intro x hx
   refine ZsM _ _ _ _ _ _ _ _ _ ?_
   (simp only [iB,vcT,vcS])
   refine ⟨fun h=> ⟨j0,h⟩,fun h=> ⟨V3,fin _ _ hx YL⟩,fun h=> fin _ _ hx YL⟩
  refine ZsN _ _ _ _ _ _ _ _ ?_
  (simp only [iB,vcT,vcS])
  refine ⟨fun h=> ⟨i0,h⟩,fun h=> ⟨V3,two _ YL⟩,fun h=> two _ YL⟩
 have next:∀ (n i' j':Int),i<=i'->j<=j'->i'<=a.length->j'<=b.length->i+j < i'+j'->Ye (a.drop i.toNat) (b.drop j.toNat)=n ::Ye (a.drop i'.toNat) (b.drop j'.toNat)->
   ∃ s:Int × Int × List Int,Z1E a b i' j' (o++[n])=Z1E a b s.1 s.2.1 s.2.2/\((0<=s.1/\s.1<=a.length)/\(0<=s.2.1/\s.2.1<=b.length)/\Ye a b=s.2.2++Ye (a.drop s.1.toNat) (b.drop s.2.1.toNat)/\(s.2.2.length:Int)<=s.1+s.2.1)/\
    ((a.length:Int) - s.1+(b.length - s.2.1)).toNat < ((a.length:Int) - i+(b.length - j)).toNat:=by
  intro n i' j' a1 a2 a3 a4 a5 a6
  refine ⟨(i',j',o++[n]),rfl,⟨⟨YL,a3⟩,⟨by grind,a4⟩,?_,by grind⟩,V5⟩
  rw [f3,a6];simp
 refine ⟨fun hne=> ⟨fun h=> ⟨i0,h.2⟩,fun h=> ⟨j0,YL⟩,fun h1 h2=> ⟨h1,h2⟩,fun hA=> ?_,fun hB=> ?_⟩,fun hE=> ?_⟩
 .have hi:i < a.length:=YL
  refine ⟨⟨i0,hi⟩,step y1 (i+1) j _ _ (by grind) (by rw [if_neg];grind) (next _ _ _ YL YL YL j1 YL ?_)⟩
  rw [ZH i0 hi 0,<-h1]
  by_cases hj:j < b.length
  .rw [ZH j0 hj 0,<-h2,Ye,V1]
  .rw [Q6 (l:=b) YL,Z3b,Z3b]
 .have hj:j < b.length:=YL
  refine ⟨⟨j0,hj⟩,?_⟩
  by_cases he:i < a.length/\y1=y2
  .refine step y2 (i+1) (j+1) _ _ (by grind) (by grind) (next _ _ _ YL YL YL YL YL ?_)
   rw [ZH i0 he.1 0,ZH j0 hj 0,<-h1,<-h2,Ye,V0,V0,he.2]
  .refine step y2 i (j+1) _ _ (by grind) (by grind) (next _ _ _ YL YL YL YL YL ?_)
   rw [ZH j0 hj 0,<-h2]
   by_cases hi:i < a.length
   .rw [ZH i0 hi 0,<-h1,Ye,V0,V1]
   .rw [Q6 (l:=a) YL,Ye,Ye]
 .rw [Q6 (l:=a) YL,Q6 (l:=b) YL,Ye,Qs] at f3
  refine Y5 (r':= .c (.slice (U:=U) .int o .unk)) ?_ JR
  simp only [Zmp,f3]
theorem Z9q{α β:Type}{f:α->β}{l:List α}{i:Int}(h0:0<=i)(h:i < l.length)(d:α):(l.take i.toNat).map f++[f (l.getD i.toNat d)]=(l.take (i+1).toNat).map f:=by
 rw [show (i+1).toNat=i.toNat+1 by omega,Zbw YL d,Xy];try rfl
theorem ZEr:Contract Tryz.prog cfg 170 Z5f:=by
 refine Zz4 ZEj ?_
 intro p q _ hp
 obtain ⟨⟨p1,p2⟩,q1,q2⟩:=hp
 dsimp only at p1 p2 q1 q2
 refine ZGR _ _ _ ?_
 have e0:∀ {α β:Type} (l:List α) (f:α->β),(l.take (0:Int).toNat).map f=[]:=fun l f=> by simp
 refine Z4 (ι:=Int) (fun i=> Z7I p q i ((p.words.take i.toNat).map WEdit.at_)) (fun i=> 0<=i/\i<=p.words.length) (fun i=> ((p.words.length:Int) - i).toNat) 0 rfl ⟨YL,YL⟩ ?_
 rintro i ⟨i0,i1⟩
 refine Zt1 _ _ _ _ _ _ ?_
 (simp only [iB,vcT,vcS])
 refine ⟨fun hi=> ⟨⟨i0,hi⟩,by grind,V3,i+1,by rw [Z9q i0 hi],⟨YL,YL⟩,YL⟩,fun hi=> ?_⟩
 rw [Ql (l:=p.words) (i:=i.toNat) YL]
 refine Z4 (ι:=Int) (fun i=> Z7H p q (p.words.map WEdit.at_) i ((q.words.take i.toNat).map WEdit.at_)) (fun i=> 0<=i/\i<=q.words.length) (fun i=> ((q.words.length:Int) - i).toNat) 0 rfl ⟨YL,YL⟩ ?_
 rintro j ⟨j0,j1⟩
 refine Zt0 _ _ _ _ _ _ _ ?_
 (simp only [iB,vcT,vcS])
 refine ⟨fun hj=> ⟨⟨j0,hj⟩,by grind,V3,j+1,by rw [Z9q j0 hj],⟨YL,YL⟩,YL⟩,fun hj=> ?_⟩
 rw [Ql (l:=q.words) (i:=j.toNat) YL]
 refine Z4 (ι:=Int) (fun i=> Z7G p q (p.words.map WEdit.at_) (q.words.map WEdit.at_) i ((p.kids.take i.toNat).map KidOf.at_)) (fun i=> 0<=i/\i<=p.kids.length) (fun i=> ((p.kids.length:Int) - i).toNat) 0 rfl ⟨YL,YL⟩ ?_
 rintro k ⟨k0,k1⟩
 refine ZsZ _ _ _ _ _ _ _ _ ?_
 (simp only [iB,vcT,vcS])
 refine ⟨fun hk=> ⟨⟨k0,hk⟩,by grind,V3,k+1,by rw [Z9q k0 hk],⟨YL,YL⟩,YL⟩,fun hk=> ?_⟩
 rw [Ql (l:=p.kids) (i:=k.toNat) YL]
 refine Z4 (ι:=Int) (fun i=> Z7F p q (p.words.map WEdit.at_) (q.words.map WEdit.at_) (p.kids.map KidOf.at_) i ((q.kids.take i.toNat).map KidOf.at_)) (fun i=> 0<=i/\i<=q.kids.length) (fun i=> ((q.kids.length:Int) - i).toNat) 0 rfl ⟨YL,YL⟩ ?_
 rintro m ⟨m0,m1⟩
 refine ZsY _ _ _ _ _ _ _ _ _ ?_
 (simp only [iB,vcT,vcS])
 refine ⟨fun hm=> ⟨⟨m0,hm⟩,by grind,V3,m+1,by rw [Z9q m0 hm],⟨YL,YL⟩,YL⟩,fun hm=> ?_⟩
 rw [Ql (l:=q.kids) (i:=m.toNat) YL]
 exact ⟨⟨by simpa using p1,by simpa using q1⟩,⟨by simpa using p2,by simpa using q2⟩,JR⟩
theorem kids_sum:∀ {l:List Op},(∀ o∈l,ZQ o)->Z47 l<=Ju l+JE l
 | [],_=> by trivial
 | o ::r,h=> by
  have h1:=ZY (h o Q3)
  have h2:=kids_sum fun x hx=> h x (Q0 _ hx)
  simp only [Z47,Ju,JE]
  omega
theorem Zhf{e:Edit}{d:Int}(h:Z9 e d=true):Ju e.ops < 1048576/\JE e.ops < 1048576:=by
 have R:=Zo h
 have ok:∀ o∈e.ops,0<=Z3 o:=fun o ho=> YR (ZO h o ho)
 have a:=Z0w e.ops 0 ok V2 V2
 have b:=Z0v e.ops 0 ok V2 V2
 have:=R.len
 omega
theorem Z7Z{e:Edit}{t:Tree}(h:Ym e)(hm:Zm t<=100000000000)(ht:rng t):Z4o (e,t,()):=by
 have:=Yj h
 have:=h.1
 exact ⟨⟨by grind,h.2⟩,by grind,ht⟩
theorem Zk3{e:Edit}(h:Ym e):Z3H (e,()):=by
 have:=Yj h
 exact ⟨by grind,h.2.2⟩
theorem Z4n:Ym Edit.nil:=by
 refine ⟨V2,?_,1,Z4v⟩
 exact ⟨J1 V2 V2,J8,J8,by grind,J1 V2 V2,trivial,trivial⟩
theorem ZF2:ZCm:=by
 intro N p q _ hp hN
 obtain ⟨op,oq⟩:=hp
 dsimp only at op oq
 have hN':8*(Z8 p+Z8 q)+1 < N+1:=hN
 obtain ⟨dp,rp⟩:=op.2.2
 obtain ⟨dq,rq⟩:=oq.2.2
 have hst:=Zru rp rq
 unfold Ja at hst
 have gp:=ZU op.2.1
 have gq:=ZU oq.2.1
 have cp:=Jz p;have cq:=Jz q;have cp':=op.1;have cq':=oq.1
 have fin:∀ {X:Edit} {b:Bool} {s:LSt U},YX p q=(X,b)->Y2 cfg Tryz.f106.ntmps Tryz.f106.results.toList (.tup [(true,enc .edit X),(false,[.bool b])]) [] .ret s->Y2 cfg Tryz.f106.ntmps Tryz.f106.results.toList (Z5p (p,q,())) [] .ret s:=by
  intro X b s h hs
  refine Y5 ?_ hs
  simp only [Z5p]
  rw [h]
  try rfl
 refine ZHr N p q _ ?_
 intro y1 h1 y2 h2 y3 h3 y4 h4 y5 h5
 replace h1:=h1.symm;replace h2:=h2.symm;replace h3:=h3.symm;replace h4:=h4.symm
 subst h1 h2 h3 h4
 (simp only [iB,vcT,vcS])
 refine ⟨fun p0=> fin (by rw [hst,if_pos p0]) JR,fun p0=> ?_⟩
 rw [if_neg p0] at hst
 refine ⟨fun q0=> fin (by rw [hst,if_pos q0]) JR,fun q0=> ?_⟩
 rw [if_neg q0] at hst
 refine ⟨fun p1=> ⟨Z7Z oq YL gp.2.1,fin (by rw [hst,if_pos p1]) JR⟩,fun p1=> ?_⟩
 rw [if_neg p1] at hst
 refine ⟨fun q1=> ⟨Zk3 op,by rw [h5];exact Z7Z (Z50 op).2 YL gq.1,fin (by rw [hst,if_pos q1,<-h5]) JR⟩,fun q1=> ?_⟩
 rw [if_neg q1] at hst
 refine ⟨fun hk=> fin (by rw [hst,if_pos hk]) JR,fun hk=> ?_⟩
 rw [V0] at hst
 refine ⟨fun p2=> ?_,fun p2=> ?_⟩
 .rw [if_pos p2] at hst
  refine ⟨⟨p2,V5,op,oq⟩,by show 8*(Z8 p+Z8 q) < N;omega,fin (X:=(ZgL p q).1) (b:=(ZgL p q).2) hst JR⟩
 .rw [if_neg p2] at hst
  have:=(Zo rp).kind
  refine ⟨⟨V5,V5,op,oq⟩,by show 8*(Z8 p+Z8 q) < N;omega,fin (X:=(ZgM p q).1) (b:=(ZgM p q).2) hst JR⟩
theorem Zob{e:Edit}(h:Ym e)(n:Int):∀ w,Z1D e.words n=some w->wOk w:=by
 intro w hw
 obtain ⟨d,hr⟩:=h.2.2
 have hm:=List.mem_of_find?_eq_some hw
 have a:=JB (Zo hr).words w hm
 exact ⟨(ZU h.2.1).2.2.1 w hm,a.2.2.2.1,a.2.2.2.2⟩
theorem Zwf{e:Edit}(h:Ym e)(n:Int):Ym (JA e.kids n):=by
 rcases Z6D e.kids n with ⟨a,_⟩ | ⟨k,hk,a⟩
 .rw [a];exact Z4n
 .rw [a]
  obtain ⟨d,hr⟩:=h.2.2
  have c:=Zbl hk
  have:=Jz e
  have:=h.1
  exact ⟨YL,(YK (ZU h.2.1).2.2.2.1 hk).2,_,(Zq (Zo hr).kids k hk).2⟩
theorem ZEY:ZCi:=by
 intro N p q _ hp hN
 obtain ⟨k2,l2,op,oq⟩:=hp
 dsimp only at k2 l2 op oq
 have hN':8*(Z8 p+Z8 q) < N+1:=hN
 obtain ⟨dp,rp⟩:=op.2.2
 obtain ⟨dq,rq⟩:=oq.2.2
 have cp:=Jz p;have cq:=Jz q;have cp':=op.1;have cq':=oq.1
 have kl:=fun l=> Z4x l
 have wl1:p.words.length<=1000000/\q.words.length<=1000000:=⟨YL,YL⟩
 have kn:∀ l:List Kid,65600*l.length<=Z0o l:=by
  intro l
  induction l with
  | nil=> simp
  | cons a r ih=> simp only [Q7,Z0o,Z23];omega
 have kl1:=kn p.kids
 have kl2:=kn q.kids
 have nl:∀ a b:List Int,(Ye a b).length<=a.length+b.length:=by
  intro a b
  have:∀ (k:Nat) (a b:List Int),a.length+b.length<=k->(Ye a b).length<=a.length+b.length:=by
   intro k
   induction k with
   | zero=>
    intro a b h
    have e1:a=[]:=Q1 YL
    have e2:b=[]:=Q1 YL
    subst e1 e2
    rw [Ye];simp
   | succ k ih=>
    intro a b h
    match a,b with
    | [],b=> rw [Ye];simp
    | x ::a,[]=> rw [Z3b];simp
    | x ::a,y ::b=>
     simp only [Q7] at h
     rw [Ye]
     grind
  exact this _ a b (Q8 _)
 generalize hw:Ye (p.words.map WEdit.at_) (q.words.map WEdit.at_)=wn
 generalize hk:Ye (p.kids.map KidOf.at_) (q.kids.map KidOf.at_)=kn'
 have wnl:wn.length<=2000000:=by rw [<-hw];have:=nl (p.words.map WEdit.at_) (q.words.map WEdit.at_);simp only [QC] at this;omega
 have knl:kn'.length<=2000000:=by rw [<-hk];have:=nl (p.kids.map KidOf.at_) (q.kids.map KidOf.at_);simp only [QC] at this;omega
 have fin:∀ {X:Edit} {b:Bool} {s:LSt U},ZgL p q=(X,b)->Y2 cfg Tryz.f144.ntmps Tryz.f144.results.toList (.tup [(true,enc .edit X),(false,[.bool b])]) [] .ret s->Y2 cfg Tryz.f144.ntmps Tryz.f144.results.toList (Z5n (p,q,())) [] .ret s:=by
  intro X b s h hs
  refine Y5 ?_ hs
  simp only [Z5n]
  rw [h]
  try rfl
 refine ZH8 N p q _ ?_
 have kl3:p.kids.length<=1000000/\q.kids.length<=1000000:=⟨YL,YL⟩
 refine ⟨⟨⟨wl1.1,kl3.1⟩,wl1.2,kl3.2⟩,?_⟩
 refine Z4 (ι:=Int × List WEdit) (fun s=> Z1G p q s.1 s.2) (fun s=> (0<=s.1/\s.1<=wn.length)/\Jw p.words q.words wn=(Jw p.words q.words (wn.drop s.1.toNat)).map (s.2++·)/\(s.2.length:Int)<=s.1) (fun s=> ((wn.length:Int) - s.1).toNat) (0,[]) rfl ⟨by simp,by simp,by simp⟩ ?_
 rintro ⟨i,out⟩ ⟨⟨i0,i1⟩,f3,f4⟩
 dsimp only at i0 i1 f3 f4
 refine Zta N p q _ _ _ _ ?_
 intro y1 h1 y2 h2 y3 h3 y4 h4 y5 h5 y6 h6 y7 h7
 subst h1 h2
 rw [hw] at h3
 subst h3
 (simp only [iB,vcT,vcS])
 refine ⟨fun hi=> ?_,fun hi=> ?_⟩
 .have hd:y3.drop i.toNat=y4 ::y3.drop (i+1).toNat:=by rw [h4];exact ZH i0 hi 0
  rw [hd,Jw] at f3
  have go:∀ (w:WEdit) (N0:LSt U->Prop) (Q:AExit->LSt U->Prop),N0 (Z1G y1 y2 (i+1) (out++[w]))->ZgZ N [1,1,1,0,1,0,0,1,1] (Z4L y1 y2 i (out++[w])) (AExit.then N0 (AExit.inBlock 0 (Zo7 N [1,1,1,1] Q))):=by
   intro w N0 Q h
   exact Ztb N _ _ _ _ _ _ ⟨V3,h⟩
  have nx:∀ w:WEdit,Jw y1.words y2.words y3=(Jw y1.words y2.words (y3.drop (i+1).toNat)).map ((out++[w])++·)->∃ j:Int × List WEdit,Z1G y1 y2 (i+1) (out++[w])=Z1G y1 y2 j.1 j.2/\((0<=j.1/\j.1<=y3.length)/\Jw y1.words y2.words y3=(Jw y1.words y2.words (y3.drop j.1.toNat)).map (j.2++·)/\(j.2.length:Int)<=j.1)/\((y3.length:Int) - j.1).toNat < ((y3.length:Int) - i).toNat:=by
   intro w hw'
   exact ⟨(i+1,out++[w]),rfl,⟨⟨YL,YL⟩,hw',by grind⟩,YL⟩
  have cat:∀ (w:WEdit) (o:Option (List WEdit)),(o.map (w ::·)).map (out++·)=o.map ((out++[w])++·):=fun w o=> by cases o <;> simp
  have rm:out.length+1<=3000000:=YL
  refine ⟨⟨i0,hi⟩,wl1.1,⟨i0,hi⟩,wl1.2,fun hb=> ⟨by grind,go _ _ _ (nx _ ?_)⟩,fun hb=> ⟨fun ha=> ⟨by grind,go _ _ _ (nx _ ?_)⟩,fun ha=> ?_⟩⟩
  .grind
  .grind
  .obtain ⟨y,hy⟩:=Qv.1 hb
   obtain ⟨x,hx⟩:=Qv.1 ha
   rw [hy] at h6
   rw [hx] at h5
   have h5:y5=x:=h5
   have h6:y6=y:=h6
   subst h5 h6
   rw [hx,hy] at f3
   dsimp only at f3
   refine ⟨⟨Zob op y4 _ hx,Zob oq y4 _ hy⟩,fun hc=> fin (X:=Edit.nil) (b:=false) ?_ JR,fun hc=> ⟨by grind,go _ _ _ (nx _ ?_)⟩⟩
   .rw [if_neg (by grind)] at f3
    unfold ZgL
    grind
   grind
 .rw [Q6 YL,Jw] at f3
  have f3:Jw y1.words y2.words y3=some out:=by rw [f3];simp
  refine Z4 (ι:=Int × List Kid) (fun s=> Z7L y1 y2 out s.1 s.2) (fun s=> (0<=s.1/\s.1<=kn'.length)/\Jb YX y1.kids y2.kids kn'=(Jb YX y1.kids y2.kids (kn'.drop s.1.toNat)).map (s.2++·)/\(s.2.length:Int)<=s.1) (fun s=> ((kn'.length:Int) - s.1).toNat) (0,[]) rfl ⟨by simp,by simp,by simp⟩ ?_
  rintro ⟨j,ks⟩ ⟨⟨j0,j1⟩,g3,g4⟩
  dsimp only at j0 j1 g3 g4
  refine Zt9 N y1 y2 _ _ _ _ _ ?_
  intro z1 q1 z2 q2 z3 q3 z4 q4 z5 q5 z6 q6 z7 q7
  subst q1 q2
  rw [hk] at q3
  subst q3
  (simp only [iB,vcT,vcS])
  refine ⟨fun hj=> ?_,fun hj=> ?_⟩
  .have hd:z3.drop j.toNat=z4 ::z3.drop (j+1).toNat:=by rw [q4];exact ZH j0 hj 0
   rw [hd,Jb] at g3
   have hmem:z4∈z3:=by rw [q4];exact Zf YL _
   rw [<-hk] at hmem
   obtain ⟨m1,_,_⟩:=Zlu rp rq hmem
   rw [<-q5,<-q6] at g3 m1
   refine ⟨⟨j0,hj⟩,by dsimp only [ZbO];omega,⟨j0,hj⟩,by dsimp only [ZbO];omega,⟨by rw [q5];exact Zwf op z4,by rw [q6];exact Zwf oq z4⟩,by show 8*(Z8 z5+Z8 z6)+1 < N;omega,fun hc=> fin (X:=Edit.nil) (b:=false) ?_ JR,fun hc=> ⟨⟨j0,hj⟩,by grind,V3,(j+1,ks++[⟨z4,z7⟩]),rfl,⟨⟨YL,YL⟩,?_,by grind⟩,YL⟩⟩
   .rw [if_neg (by grind)] at g3
    unfold ZgL
    grind
   .rw [if_pos hc] at g3
    rw [g3,<-q7]
    cases Jb YX z1.kids z2.kids (z3.drop (j+1).toNat) <;> simp
  .rw [Q6 YL,Jb] at g3
   have g3:Jb YX z1.kids z2.kids z3=some ks:=by rw [g3];simp
   refine fin (X:= .mk 2 Tree.nil Tree.nil out ks 0 []) (b:=true) ?_ JR
   unfold ZgL
   grind
theorem Zok{e:Edit}(h:Ym e){o:Op}(ho:o∈e.ops){a:Int}{u:AUnit}(hu:UnitOf o a u):uOk u:=by
 obtain ⟨d,hr⟩:=h.2.2
 have hk:=YQ (ZO hr o ho)
 have c:=Z6Q ho
 have ce:=Jz e
 have h1:=h.1
 have g:=Jr (JN (ZU h.2.1).2.2.2.2 ho)
 have R:=rightOs_mem (Zo hr).ops ho
 refine ⟨by rw [hu.kind];rcases hk with k | k | k | k <;> omega,?_,?_,fun h3=> ?_⟩
 .rcases hu.t with e | e
  .rw [e];decide
  .have:=Yx e;omega
 .rcases hu.t with e | e
  .rw [e];exact J8
  .exact YZ g.2.2.1 e
 .rw [hu.into h3]
  exact ⟨YL,g.2.2.2,_,Jo R (by rw [<-hu.kind];exact h3)⟩
theorem ZrB:∀ (k:Nat) (P Q:List AUnit) (out:List APair),P.length+Q.length<=k->(ZX P Q out).1.length<=out.length+P.length+Q.length:=by
 intro k
 induction k with
 | zero=>
  intro P Q out hk
  have e1:P=[]:=Q1 YL
  have e2:Q=[]:=Q1 YL
  subst e1 e2
  rw [ZX,dif_neg (by simp [alo]),dif_neg (by simp [alo]),dif_pos (by simp),if_pos rfl];simp
 | succ k ih=>
  intro P Q out hk
  rw [ZX]
  by_cases h1:alo P=true
  .rw [dif_pos h1]
   have hl:=(of_decide_eq_true h1).1
   grind
  .rw [dif_neg h1]
   by_cases h2:alo Q=true
   .rw [dif_pos h2]
    have hl:=(of_decide_eq_true h2).1
    grind
   grind
noncomputable def rp_(x:APair):List Op × Bool:=rp YX x
theorem ZEX:ZCh:=by
 intro N p q _ hp hN
 obtain ⟨k3,l3,op,oq⟩:=hp
 dsimp only at k3 l3 op oq
 have hN':8*(Z8 p+Z8 q) < N+1:=hN
 obtain ⟨dp,hrp⟩:=op.2.2
 obtain ⟨dq,hrq⟩:=oq.2.2
 have cp:=Jz p;have cq:=Jz q;have cp':=op.1;have cq':=oq.1
 have okp:=ZO hrp
 have okq:=ZO hrq
 have s1:=Zhf hrp
 have s2:=Zhf hrq
 have n1:=kids_sum okp
 have n2:=kids_sum okq
 have u1:=Z4Z 1 p.ops 0 okp
 have u2:=Z4Z 2 q.ops 0 okq
 have m1:=Z1C p.ops
 have m2:=Z1C q.ops
 have fin:∀ {X:Edit} {b:Bool} {s:LSt U},ZgM p q=(X,b)->Y2 cfg Tryz.f145.ntmps Tryz.f145.results.toList (.tup [(true,enc .edit X),(false,[.bool b])]) [] .ret s->Y2 cfg Tryz.f145.ntmps Tryz.f145.results.toList (Z5m (p,q,())) [] .ret s:=by
  intro X b s h hs
  refine Y5 ?_ hs
  simp only [Z5m]
  rw [h]
  try rfl
 refine ZH7 N p q _ ?_
 (simp only [iB,vcT,vcS])
 have hl1:((ZE 0 1 p.ops).length:Int)<=120000000000:=YL
 have hl2:((ZE 0 2 q.ops).length:Int)<=120000000000:=YL
 have mo1:Zn p.ops<=20000000000:=YL
 have mo2:Zn q.ops<=20000000000:=YL
 refine ⟨⟨⟨okp,mo1⟩,V5⟩,⟨⟨okq,mo2⟩,V5⟩,⟨V5,V5⟩,fun hb=> ?_,fun hb=> ?_⟩
 .refine fin (X:=Edit.nil) (b:=false) ?_ JR
  unfold ZgM Z3G
  by_cases hl:p.list=q.list
  .rw [V0,if_neg]
   rcases hb with h | h
   .rw [h];decide
   .exact absurd hl h
  .rw [if_pos hl]
 .have hL:ZgM p q=match Yb YX (ZX (ZE 0 1 p.ops) (ZE 0 2 q.ops) []).1 with
    | some l=> (.mk 3 Tree.nil Tree.nil [] [] p.list l,true)
    | none=> (Edit.nil,false):=by
   unfold ZgM Z3G
   rw [V0,if_pos hb.1]
   cases Yb YX (ZX (ZE 0 1 p.ops) (ZE 0 2 q.ops) []).1 <;> rfl
  have pm:=Zhw _ (ZE 0 1 p.ops) (ZE 0 2 q.ops) [] (Q8 _)
  have pl:=ZrB _ (ZE 0 1 p.ops) (ZE 0 2 q.ops) [] (Q8 _)
  generalize hps:ZX (ZE 0 1 p.ops) (ZE 0 2 q.ops) []=ps at*
  have pl:ps.1.length<=8000000:=by simp only [Qj] at pl;omega
  refine Z4 (ι:=Int × List Op) (fun s=> Z1F p q s.1 s.2) (fun s=> (0<=s.1/\s.1<=ps.1.length)/\Yb YX ps.1=(Yb YX (ps.1.drop s.1.toNat)).map (s.2++·)/\(s.2.length:Int)<=s.1) (fun s=> ((ps.1.length:Int) - s.1).toNat) (0,[]) rfl ⟨by simp,by simp,by simp⟩ ?_
  rintro ⟨i,out⟩ ⟨⟨i0,i1⟩,f3,f4⟩
  dsimp only at i0 i1 f3 f4
  refine Zt7 N p q _ _ _ _ ?_
  intro y1 h1 y2 h2 y3 h3 y4 h4 y5 h5 y6 h6
  rw [hps] at h1
  subst h1
  (simp only [iB,vcT,vcS])
  refine ⟨fun hi=> ?_,fun hi=> ?_⟩
  .have hd:y1.1.drop i.toNat=y2 ::y1.1.drop (i+1).toNat:=by rw [h2];exact ZH i0 hi _
   rw [hd,JH] at f3
   have hmem:y2∈y1.1:=by rw [h2];exact Zf YL _
   have pmx:=pm y2 hmem
   have go:∀ (w:List Op) (N0:LSt U->Prop) (Q:AExit->LSt U->Prop),N0 (Z1F p q (i+1) (out++w))->Zm8 N [1,1,1,1,0,1,0,0,1,1] (Z4K p q i (out++w)) (AExit.then N0 (AExit.inBlock 0 (Zxt N [1,1,1,1,1] Q))):=by
    intro w N0 Q h
    exact Zt8 N _ _ _ _ _ _ ⟨V3,h⟩
   have nx:∀ w:List Op,w.length<=1->Yb YX y1.1=(Yb YX (y1.1.drop (i+1).toNat)).map ((out++w)++·)->∃ j:Int × List Op,Z1F p q (i+1) (out++w)=Z1F p q j.1 j.2/\((0<=j.1/\j.1<=y1.1.length)/\Yb YX y1.1=(Yb YX (y1.1.drop j.1.toNat)).map (j.2++·)/\(j.2.length:Int)<=j.1)/\((y1.1.length:Int) - j.1).toNat < ((y1.1.length:Int) - i).toNat:=by
    intro w hw1 hw'
    exact ⟨(i+1,out++w),rfl,⟨⟨V5,V5⟩,hw',by simp only [List.length_append];omega⟩,V5⟩
   have cat:∀ (w:List Op) (o:Option (List Op)),(o.map (w++·)).map (out++·)=o.map ((out++w)++·):=fun w o=> by cases o <;> simp
   refine ⟨⟨i0,hi⟩,fun c1=> ?_,fun c1=> ⟨fun c2=> ?_,fun c2=> ?_⟩⟩
   .have e:rp_ y2=([y5],true):=by unfold rp_ rp;rw [if_pos c1,<-h3,<-h5]
    rw [show rp YX y2=([y5],true) from e] at f3
    exact ⟨⟨i0,hi⟩,trivial,by simp only [Q7,Qj];omega,go _ _ _ (nx _ (by simp) (by rw [f3];exact cat _ _))⟩
   .have e:rp_ y2=([y6],true):=by unfold rp_ rp;rw [if_neg c1,if_pos c2,<-h4,<-h6]
    rw [show rp YX y2=([y6],true) from e] at f3
    exact ⟨⟨i0,hi⟩,trivial,by simp only [Q7,Qj];omega,go _ _ _ (nx _ (by simp) (by rw [f3];exact cat _ _))⟩
   .have e:rp_ y2=JJ YX y3 y4:=by unfold rp_ rp;rw [if_neg c1,if_neg c2,<-h3,<-h4]
    rw [show rp YX y2=JJ YX y3 y4 from e] at f3
    rcases pmx with m | ⟨_,⟨m1,a1⟩,m2,a2⟩ | ⟨m,_⟩ | ⟨m,_⟩
    .cases m
    .rw [<-h3] at m1 a1
     rw [<-h4] at m2 a2
     obtain ⟨o1,ho1,uo1⟩:=Z4d okp m1
     obtain ⟨o2,ho2,uo2⟩:=Z4d okq m2
     have w1:=(Z6U hrp ho1 uo1).1
     have w2:=(Z6U hrq ho2 uo2).1
     have ul:(JJ YX y3 y4).1.length<=1:=by
      unfold JJ
      split
      .simp
      .split
       .simp
       .split
        .simp
        .split
         .simp
         .split <;> simp
     refine ⟨⟨i0,hi⟩,⟨i0,hi⟩,⟨⟨Zok op ho1 uo1,Zok oq ho2 uo2⟩,fun h=> ?_,fun h=> ?_⟩,by show 8*(Z8 y3.e+Z8 y4.e)+2 < N;omega,fun hc=> fin (X:=Edit.nil) (b:=false) ?_ JR,fun hc=> ⟨YL,go _ _ _ (nx _ ul ?_)⟩⟩
     .have h:y3.kind=1:=h
      have:=uo1.alone (.inl h)
      rw [a1,decide_eq_true h] at this;cases this
     .have h:y4.kind=2:=h
      have:=uo2.alone (.inr h)
      rw [a2,decide_eq_true h] at this;cases this
     .rw [if_neg (by rw [hc];decide)] at f3
      rw [hL,f3]
      try rfl
     .rw [f3,if_pos hc]
      exact cat _ _
    .exact absurd m c1
    .exact absurd m c2
  .rw [Q6 YL,Yb] at f3
   have f3:Yb YX y1.1=some out:=by rw [f3];simp
   refine fin (X:= .mk 3 Tree.nil Tree.nil [] [] p.list out) (b:=true) ?_ JR
   rw [hL,f3]
theorem ZET:ZCd:=by
 intro N p q _ hp hN
 obtain ⟨⟨op,oq⟩,np,nq⟩:=hp
 dsimp only at op oq np nq
 have hN':8*(Z8 p.e+Z8 q.e)+2 < N+1:=hN
 obtain ⟨kp,mp,gp,rp⟩:=op
 obtain ⟨kq,mq,gq,rq⟩:=oq
 have fin:∀ {l:List Op} {b:Bool} {s:LSt U},JJ YX p q=(l,b)->Y2 cfg Tryz.f177.ntmps Tryz.f177.results.toList (.tup [(false,[.slice (U:=U) .op l .unk]),(false,[.bool b])]) [] .ret s->Y2 cfg Tryz.f177.ntmps Tryz.f177.results.toList (Z5l (p,q,())) [] .ret s:=by
  intro l b s h hs
  refine Y5 ?_ hs
  simp only [Z5l]
  rw [h]
 have hu:=JJ.eq_1 YX p q
 refine ZGK N p q _ ?_
 intro y1 h1 y2 h2 y3 h3 y4 h4 y5 h5 y6 h6 y7 h7 y8 h8 y9 h9 y10 h10 y11 h11 y12 h12
 replace h1:=h1.symm;replace h2:=h2.symm
 subst h1 h2
 (simp only [iB,vcT,vcS])
 refine ⟨fun q0=> ⟨trivial,fin (by rw [hu,if_pos q0,<-h7]) JR⟩,fun q0=> ?_⟩
 rw [if_neg q0] at hu
 refine ⟨fun p0=> ⟨trivial,fin (by rw [hu,if_pos p0,<-h8]) JR⟩,fun p0=> ?_⟩
 rw [if_neg p0] at hu
 refine ⟨fun c=> ⟨⟨by rw [h5];dsimp only;omega,by rw [h6];dsimp only;omega⟩,fin (by rw [hu,if_pos c,<-h5,<-h6]) JR⟩,fun c=> ?_⟩
 rw [V0] at hu
 refine ⟨fun p2=> ?_,fun p2=> ?_⟩
 .rw [if_pos p2,<-h4,<-h5,<-h11] at hu
  have hq3:q.kind=3:=YL
  exact ⟨by rw [h4,h5];exact Z7Z (rq hq3) YL gp,fin hu JR⟩
 rw [if_neg p2] at hu
 have hp3:p.kind=3:=YL
 refine ⟨fun q1=> ?_,fun q1=> ?_⟩
 .rw [if_pos q1,<-h3,<-h6,<-h10,<-h12] at hu
  exact ⟨by rw [h3];exact Zk3 (rp hp3),by rw [h10,h3,h6];exact Z7Z (Z50 (rp hp3)).2 YL gq,fin hu JR⟩
 .rw [if_neg q1,<-h3,<-h4,<-h9] at hu
  have hq3:q.kind=3:=YL
  exact ⟨⟨by rw [h3];exact rp hp3,by rw [h4];exact rq hq3⟩,by rw [h3,h4];show 8*(Z8 p.e+Z8 q.e)+1 < N;omega,fin hu JR⟩
theorem ZI1:Contract Tryz.prog cfg 106 Z73/\Contract Tryz.prog cfg 144 Zov/\Contract Tryz.prog cfg 145 Zou/\Contract Tryz.prog cfg 177 Zoq:=
 Zv5 c35 c39 ZEr ZEq ZEo ZEp ZEm ZEn ZEl c25 ZF2 ZEY ZEX ZET
theorem ZEM:Contract Tryz.prog cfg 106 Z73:=ZI1.1
end Go.AM.YtfapacabjkhepaaGreat
