import Derived.Test.YtfapacabjkhepaaGreatWKG21a
import Derived.Test.YtfapacabjkhepaaGreatWCL25g
import Derived.Test.YtfapacabjkhepaaGreatWKL22m
set_option linter.unusedSimpArgs false
set_option linter.unusedVariables false
namespace Go.AM.YtfapacabjkhepaaGreat
open Go.AM Go.Proofs
noncomputable section
def ZoX(a:Edit × Tree × Unit):V U:= .tup [(true,(enc .tree (Yc ((doE false a.1 a.2.1).map Z5)))),(false,[.bool ((doE false a.1 a.2.1).isSome)])]
def Z26:Fs U:=fs Zcw (fun a=> [Z4o a]) ZoX
def ZfE(a:Tree × Int × Unit):Prop:=0<=a.2.1
def Z76:Fs U:=fs ZwV (fun a=> [ZfE a]) ZoN
def Z75:Fs U:=fs ZwV (fun a=> [ZfE a]) ZoU
def Z8e(a:Edit × Tree × Unit):V U:= .tup [(true,(enc .tree (Yc (doE true a.1 a.2.1)))),(false,[.bool ((doE true a.1 a.2.1).isSome)])]
def Z30:Fs U:=fs Zcw (fun a=> [Z4o a]) Z8e
def Z8d(a:Edit × Tree × Unit):V U:= .tup [(true,(enc .tree (Yc (Z2X true a.1 a.2.1)))),(false,[.bool ((Z2X true a.1 a.2.1).isSome)])]
def ZtG:Fs U:=fs Zcw (fun a=> [Z5w a]) Z8d
def Z9T(a:Edit × Tree × Unit):V U:= .tup [(true,(enc .tree (Zj4 a.1 (Z0u true a.1 a.2.1)))),(false,[.bool ((Z2z (Z0u true a.1 a.2.1)).isSome)])]
def ZtF:Fs U:=fs Zcw (fun a=> [Z5v a]) Z9T
def Zw6:List (FuncId × Fs U):=[(33,JF),(63,ZbC)]
def ZDZ:Zd U:=lvl [([2,3,4],[2,3,4]),([4,6,7],[4,6]),([4,6,15],[4,6]),([4,5],[4]),([4,5],[4])]
abbrev A32(p:List Nat):=AW (Z1 Zw6) Tryz.f32 ZDZ p
theorem ZJj(e:Edit)(t:Tree)(Q:QT)(h:∀ y_1,y_1=e->∀ y_2,y_2=t->∀ y_3,y_3=(ZdD y_1 y_2)->((Z4o (y_1,y_2,()))/\(iB (!((doE false y_1 y_2).isSome)) ((Q .ret (L2 [pL 4,pB 5 false] [(.loc 4,[ci 0,.nils,.nils])]))) ((JK (y_3,()))/\(Q .ret (L2 [pL 4,pB 5 true] [(.loc 4,(enc .tree (Z5 y_3)))])))))):
  A32 [] (L2 [(0,.agg (enc .edit e)),(1,.agg (enc .tree t))] []) Q:=
 Eq.mpr V4 (h _ (Z7 _) _ (Za _) _ (Za _))
def ZGb(e:Edit)(t:Tree):Prop:=AW (Z1 Zw6) Tryz.f32 ZDZ [] (Zg (Zcw.can (e,t,())) []) (EQ Tryz.f32 (ZoX (e,t,())) [])
theorem ZDs(c33:CT 33 JF)(c63:CT 63 ZbC)(hb:∀ (e:Edit) (t:Tree) (_:Unit),Z4o (e,t,())->ZGb e t):CT 32 Z26:=
 Z2 (l:=[(33,JF),(63,ZbC)]) Zi rfl (⟨c33,c63,trivial⟩) ZDZ Tryz.func32 rfl rfl 2 (fun _=> rfl) V2 (fun ⟨e,t,_⟩=> hb e t ())
def ZvD:Zd U:=lvl [([1,2],[2]),([1,2,9],[2]),([4],[]),([4],[])]
abbrev ZKm(p:List Nat):=AW (Z1 Znz) Tryz.f102 ZvD p
theorem ZHv(t:Tree)(i:Int)(Q:QT)(h:(iB (decide (i < (t.words.length:Int))) (((0:Int)<=i/\i < (t.words.length:Int))/\(Q .ret (L2 [(4,.c (.int .u64 (t.words.getD i.toNat (0:Int))))] []))) ((Q .ret (L2 [(4,.c (.int .u64 0))] []))))):
  ZKm [] (L2 [(0,.agg (enc .tree t)),pI 1 i] []) Q:=
 Eq.mpr V4 h
def ZBj(t:Tree)(i:Int):Prop:=AW (Z1 Znz) Tryz.f102 ZvD [] (Zg (ZwV.can (t,i,())) []) (EQ Tryz.f102 (ZoN (t,i,())) [])
theorem Zzx(hb:∀ (t:Tree) (i:Int) (_:Unit),ZfE (t,i,())->ZBj t i):CT 102 Z76:=
 Z2 (l:=[]) Zi rfl trivial ZvD Tryz.func102 rfl rfl 2 (fun _=> rfl) V2 (fun ⟨t,i,_⟩=> hb t i ())
def ZvC:Zd U:=lvl [([1,2,4],[2,4]),([1,2,4,9],[2,4]),([4],[4]),([4],[4])]
abbrev ZKl(p:List Nat):=AW (Z1 Znz) Tryz.f103 ZvC p
theorem ZHu(t:Tree)(i:Int)(Q:QT)(h:(iB (decide (i < (t.kids.length:Int))) (((0:Int)<=i/\i < (t.kids.length:Int))/\(Q .ret (L2 [pL 4] [(.loc 4,(enc .tree (t.kids.getD i.toNat Tree.nil)))]))) ((Q .ret (L2 [pL 4] [(.loc 4,[ci 0,.nils,.nils])]))))):
  ZKl [] (L2 [(0,.agg (enc .tree t)),pI 1 i] []) Q:=
 Eq.mpr V4 h
def ZBi(t:Tree)(i:Int):Prop:=AW (Z1 Znz) Tryz.f103 ZvC [] (Zg (ZwV.can (t,i,())) []) (EQ Tryz.f103 (ZoU (t,i,())) [])
theorem Zzw(hb:∀ (t:Tree) (i:Int) (_:Unit),ZfE (t,i,())->ZBi t i):CT 103 Z75:=
 Z2 (l:=[]) Zi rfl trivial ZvC Tryz.func103 rfl rfl 2 (fun _=> rfl) V2 (fun ⟨t,i,_⟩=> hb t i ())
def Zcc(N:Nat):List (FuncId × Fs U):=(35,fs Zcw (fun a=> [Z4o a,ZgO a < N]) Z8e) ::(66,fs Zcw (fun a=> [Z5w a,Zd7 a < N]) Z8d) ::(67,fs Zcw (fun a=> [Z5v a,Zd7 a < N]) Z9T) ::[(34,JF),(25,Z0i),(102,Z76),(91,Z53),(103,Z75)]
def ZDY:Zd U:=lvl [([2,3,4],[2,3,4]),([2,3,4,6],[2,3,4,6]),([2,3,4,6,10],[2,3,4,6]),([4,6,7],[4,6]),([2,3,4,6,10,11],[2,3,4,6]),([4,6,7],[4,6]),([2,3,4,6,10,13],[2,3,4,6]),([2,3,4,6],[2,3,4,6]),([4,6,7],[4,6]),([2,3,4,6,10,21],[2,3,4,6]),([4,6,7],[4,6]),([2,3,4,6,29],[2,3,4,6]),([4,6,7],[4,6]),([4,6,38],[4,6]),([4,5],[4]),([4,5],[4])]
abbrev A35(N:Nat)(p:List Nat):=AW (Z1 (Zcc N)) Tryz.f35 ZDY p
theorem ZJg(N:Nat)(e:Edit)(t:Tree)(Q:QT)(h:∀ y_1,y_1=e->∀ y_2,y_2=t->∀ y_3,y_3=(e.new)->∀ y_4,y_4=(e.old)->∀ y_5,y_5=(Yc (Z2X true y_1 y_2))->∀ y_6,y_6=(Zj4 y_1 (Z0u true y_1 y_2))->let z1:=Q .ret (L2 [pL 4,pB 5 true] [(.loc 4,(enc .tree (Z5 y_2)))]);let z0:=(Q .ret (L2 [pL 4,pB 5 false] [(.loc 4,[ci 0,.nils,.nils])]));(iB (e.kind==0) ((iB (!true) z0 ((JK (y_2,()))/\z1))) ((iB (e.kind==1) (((Z6e (y_4,y_2,()))/\(iB (!(YM (Z5 y_4) (Z5 y_2))) z0 ((JK (y_3,()))/\(Q .ret (L2 [pL 4,pB 5 true] [(.loc 4,(enc .tree (Z5 y_3)))])))))) ((iB (e.kind==2) ((Z5w (y_1,y_2,()))/\(Zd7 (y_1,y_2,()) < N)/\(iB (!((Z2X true y_1 y_2).isSome)) z0 ((JK (y_5,()))/\(Q .ret (L2 [pL 4,pB 5 true] [(.loc 4,(enc .tree (Z5 y_5)))]))))) ((iB (e.kind==3) ((Z5v (y_1,y_2,()))/\(Zd7 (y_1,y_2,()) < N)/\(iB (!((Z2z (Z0u true y_1 y_2)).isSome)) z0 ((JK (y_6,()))/\(Q .ret (L2 [pL 4,pB 5 true] [(.loc 4,(enc .tree (Z5 y_6)))]))))) ((iB (!false) z0 ((JK (y_2,()))/\z1))))))))))):
  A35 N [] (L2 [(0,.agg (enc .edit e)),(1,.agg (enc .tree t))] []) Q:=
 Eq.mpr V4 (h _ (Z7 _) _ (Za _) _ (Za _) _ (Za _) _ (Za _) _ (Za _))
def ZG8(N:Nat)(e:Edit)(t:Tree):Prop:=AW (Z1 (Zcc N)) Tryz.f35 ZDY [] (Zg (Zcw.can (e,t,())) []) (EQ Tryz.f35 (Z8e (e,t,())) [])
abbrev ZIt:Prop:=∀ (N:Nat) (e:Edit) (t:Tree) (_:Unit),Z4o (e,t,())->ZgO (e,t,()) < N+1->ZG8 N e t
def ZzB:Zd U:=lvk [([2,3,4],[2,3,4]),([2,3,4,21],[2,3,4]),([4,5],[4]),([2,3,4,6],[2,3,4,6]),([2,3,4,6,7,8],[2,3,4,6]),([2,3,4,6,7,8,9],[2,3,4,6]),([2,3,4,6,7,8,9,45],[2,3,4,6]),([2,3,4,6,7,8],[2,3,4,6]),([2,3,4,6,7,8,10],[2,3,4,6]),([2,3,4,6,7,8,10,69],[2,3,4,6]),([2,3,4,6,7,8],[2,3,4,6]),([2,3,4,6,7,8,11],[2,3,4,6]),([2,3,4,6,7,8,11,12],[2,3,4,((.loc 6),[.any,.own .u64])]),([2,3,4,6,7,8,11,12,80],[2,3,4,6]),([2,3,4,6,7,8,11,12],[2,3,4,((.loc 6),[.any,.own .u64])]),([2,3,4,6,7,8,11,12,13],[2,3,4,6]),([2,3,4,6,7,8,11,12,13,100],[2,3,4,6]),([2,3,4,6,7,8,11,12,13,14],[2,3,4,6,14]),([2,3,4,6,7,8,11,12,13,14,112],[2,3,4,6,14]),([4,5],[4]),([2,3,4,6,7,8,11,12,13],[2,3,4,6]),([2,3,4,6,7,8,11,12,13],[2,3,4,6]),([2,3,4,6,7,8,11,12],[2,3,4,6]),([2,3,4,6,8,11],[2,3,4,6]),([2,3,4,6,8,11,15],[2,3,4,((.loc 6),[.any,.any,.own .tree])]),([2,3,4,6,8,11,15,130],[2,3,4,6]),([2,3,4,6,8,11,15],[2,3,4,((.loc 6),[.any,.any,.own .tree])]),([2,3,4,6,8,11,15,16],[2,3,4,6,16]),([2,3,4,6,8,11,15,16,150],[2,3,4,6,16]),([2,3,4,6,8,11,15,16,17,18],[2,3,4,6,16,17]),([2,3,4,6,8,11,15,16,17,163],[2,3,4,6,16,17]),([4,5],[4]),([2,3,4,6,8,11,15,16],[2,3,4,6,16]),([2,3,4,6,8,11,15,16],[2,3,4,6,16]),([2,3,4,6,8,11,15],[2,3,4,6]),([4,5],[4])]
def Z1b(e:Edit)(t:Tree)(x8 x7 x11 x12:Int)(ml6_1:List Int):LSt U:=(L2 [pL 2,pL 3,pL 4,pL 6,pI 7 x7,pI 8 x8,pI 11 x11,pI 12 x12] [(.loc 2,(enc .edit e)),(.loc 3,(enc .tree t)),(.loc 4,[ci 0,.nils,.nils]),(.loc 6,[ci 1,sU .u64 ml6_1 (.own (.l 6 1)),.nils])])
def Z6F(e:Edit)(t:Tree)(x8:Int)(ml6_1:List Int)(x11_a x15_a:Int)(ml6_2_a:List Tree):LSt U:=(L2 [pL 2,pL 3,pL 4,pL 6,pI 8 x8,pI 11 x11_a,pI 15 x15_a] [(.loc 2,(enc .edit e)),(.loc 3,(enc .tree t)),(.loc 4,[ci 0,.nils,.nils]),(.loc 6,[ci 1,sU .u64 ml6_1 (.own (.l 6 1)),sU .tree ml6_2_a (.own (.l 6 2))])])
abbrev A66(N:Nat)(p:List Nat):=AW (Z1 (Zcc N)) Tryz.f66 ZzB p
abbrev S66(N:Nat)(p:List Nat):=SW (Z1 (Zcc N)) Tryz.f66 ZzB p
theorem ZIU(N:Nat)(e:Edit)(t:Tree)(Q:QT)(h:∀ y_1,y_1=(List.getD e.words (Int.toNat (((e.words.length:Int):Int) - 1)) (WEdit.mk 0 0 0 0))->∀ y_2,y_2=(List.getD e.kids (Int.toNat (((e.kids.length:Int):Int) - 1)) (KidOf.mk 0 Edit.nil))->let z5:=InR (((e.kids.length:Int):Int) - 1);let z3:=xB 0 (S66 N [1,1,1,1,1,1,1,1] Q);let z2:=A66 N [1,1,1,1,1,1,1,0,1,0,0];let z1:=decide ((0:Int) < (e.words.length:Int));let z0:=decide ((0:Int) < (e.kids.length:Int));let z4:=bif z0 then (decide (((t.kids.length:Int):Int)<=y_2.at_)) else false;(iB (t.kind !=1) ((Q .ret (L2 [pL 4,pB 5 false] [(.loc 4,[ci 0,.nils,.nils])]))) (((Tt z1)/\(Tt z1)/\(z1=true->InR (((e.words.length:Int):Int) - 1))/\(Tt z1)/\(Tt z1)/\(z1=true->(0:Int)<=(((e.words.length:Int):Int) - 1)/\(((e.words.length:Int):Int) - 1) < (e.words.length:Int))/\(Tt z1)/\(Tt z1)/\(Tt z1)/\(Tt z1)/\(Tt z1)/\(iB (bif z1 then (decide (((t.words.length:Int):Int)<=y_1.at_)) else false) ((InR (((e.words.length:Int):Int) - 1))/\((0:Int)<=(((e.words.length:Int):Int) - 1)/\(((e.words.length:Int):Int) - 1) < (e.words.length:Int))/\(InR (y_1.at_+1))/\((Tt z0)/\(Tt z0)/\(z0=true->InR (((e.kids.length:Int):Int) - 1))/\(Tt z0)/\(Tt z0)/\(z0=true->(0:Int)<=(((e.kids.length:Int):Int) - 1)/\(((e.kids.length:Int):Int) - 1) < (e.kids.length:Int))/\(Tt z0)/\(Tt z0)/\(Tt z0)/\(Tt z0)/\(Tt z0)/\(iB z4 (z5/\((0:Int)<=(((e.kids.length:Int):Int) - 1)/\(((e.kids.length:Int):Int) - 1) < (e.kids.length:Int))/\(InR (y_2.at_+1))/\(Zj z2 (Z1b e t (y_2.at_+1) (y_1.at_+1) 0 0 []) z3)) ((Zj z2 (Z1b e t (t.kids.length:Int) (y_1.at_+1) 0 0 []) z3))))) (((Tt z0)/\(Tt z0)/\(z0=true->InR (((e.kids.length:Int):Int) - 1))/\(Tt z0)/\(Tt z0)/\(z0=true->(0:Int)<=(((e.kids.length:Int):Int) - 1)/\(((e.kids.length:Int):Int) - 1) < (e.kids.length:Int))/\(Tt z0)/\(Tt z0)/\(Tt z0)/\(Tt z0)/\(Tt z0)/\(iB z4 (z5/\((0:Int)<=(((e.kids.length:Int):Int) - 1)/\(((e.kids.length:Int):Int) - 1) < (e.kids.length:Int))/\(InR (y_2.at_+1))/\(Zj z2 (Z1b e t (y_2.at_+1) (t.words.length:Int) 0 0 []) z3)) ((Zj z2 (Z1b e t (t.kids.length:Int) (t.words.length:Int) 0 0 []) z3)))))))))):
  A66 N [] (L2 [(0,.agg (enc .edit e)),(1,.agg (enc .tree t))] []) Q:=
 Eq.mpr V4 (h _ rfl _ rfl)
theorem ZxY(N:Nat)(e:Edit)(t:Tree)(x8 x7 x11 x12:Int)(ml6_1:List Int)(N0:NT)(Q:QT)(h:∀ y_1,y_1=t->∀ y_2,y_2=(e.words.getD x11.toNat (WEdit.mk 0 0 0 0))->let z0:=decide (x11 < (e.words.length:Int));(iB (decide (x12 < x7)) ((ZfE (y_1,x12,()))/\((Tt z0)/\(Tt z0)/\(Tt z0)/\(z0=true->(0:Int)<=x11/\x11 < (e.words.length:Int))/\(Tt z0)/\(Tt z0)/\(Tt z0)/\(Tt z0)/\(Tt z0)/\(iB (bif z0 then (y_2.at_==x12) else false) (((0:Int)<=x11/\x11 < (e.words.length:Int))/\((ZcW (0,(YE y_1 x12),y_2.mask,()))/\(iB (((mix 0 (YE y_1 x12) y_2.mask):Int) !=y_2.old) ((Q .ret (L2 [pL 4,pB 5 false] [(.loc 4,[ci 0,.nils,.nils])]))) ((ZcW ((YE y_1 x12),y_2.new,y_2.mask,()))/\((InR (x11+1))/\(((ml6_1.length+([mix (YE y_1 x12) y_2.new y_2.mask]).length)*8<=140737488355328)/\((InR (x12+1))/\(N0 (Z1b e t x8 x7 (x11+1) (x12+1) (ml6_1++([mix (YE y_1 x12) y_2.new y_2.mask]))))))))))) (((ml6_1.length+([YE y_1 x12]).length)*8<=140737488355328)/\((InR (x12+1))/\(N0 (Z1b e t x8 x7 x11 (x12+1) (ml6_1++([YE y_1 x12]))))))))) ((Zj (A66 N [1,1,1,1,1,1,1,1,1,0,1,0,0]) (Z6F e t x8 ml6_1 0 0 []) (xB 2 (S66 N [1,1,1,1,1,1,1,1,1,1] Q)))))):
  A66 N [1,1,1,1,1,1,1,0,1,0,0] (Z1b e t x8 x7 x11 x12 ml6_1) (xT N0 (xB 0 (S66 N [1,1,1,1,1,1,1,1] Q))):=
 Eq.mpr V4 (h _ (Za _) _ rfl)
theorem ZxX(N:Nat)(e:Edit)(t:Tree)(x8:Int)(ml6_1:List Int)(x11_a x15_a:Int)(ml6_2_a:List Tree)(N1:NT)(Q:QT)(h:∀ y_1,y_1=t->∀ y_2,y_2=(e.kids.getD x11_a.toNat (KidOf.mk 0 Edit.nil))->∀ y_3,y_3=(y_2.e)->∀ y_4,y_4=(JD y_1 x15_a)->∀ y_5,y_5=(Yc (doE true y_3 y_4))->let z0:=decide (x11_a < (e.kids.length:Int));(iB (decide (x15_a < x8)) ((ZfE (y_1,x15_a,()))/\((Tt z0)/\(Tt z0)/\(Tt z0)/\(z0=true->(0:Int)<=x11_a/\x11_a < (e.kids.length:Int))/\(Tt z0)/\(Tt z0)/\(Tt z0)/\(Tt z0)/\(Tt z0)/\(iB (bif z0 then (y_2.at_==x15_a) else false) (((0:Int)<=x11_a/\x11_a < (e.kids.length:Int))/\(Z4o (y_3,y_4,()))/\(ZgO (y_3,y_4,()) < N)/\(iB (!((doE true y_3 y_4).isSome)) ((Q .ret (L2 [pL 4,pB 5 false] [(.loc 4,[ci 0,.nils,.nils])]))) (((InR (x11_a+1))/\(((ml6_2_a.length+([y_5]).length)*56<=140737488355328)/\((InR (x15_a+1))/\(N1 (Z6F e t x8 ml6_1 (x11_a+1) (x15_a+1) (ml6_2_a++([y_5])))))))))) (((ml6_2_a.length+([y_4]).length)*56<=140737488355328)/\((InR (x15_a+1))/\(N1 (Z6F e t x8 ml6_1 x11_a (x15_a+1) (ml6_2_a++([y_4]))))))))) ((Q .ret (L2 [pL 4,pB 5 true] [(.loc 4,[ci 1,sU .u64 ml6_1 (.own (.l 4 1)),sU .tree ml6_2_a (.own (.l 4 2))])]))))):
  A66 N [1,1,1,1,1,1,1,1,1,0,1,0,0] (Z6F e t x8 ml6_1 x11_a x15_a ml6_2_a) (xT N1 (xB 2 (S66 N [1,1,1,1,1,1,1,1,1,1] Q))):=
 Eq.mpr V4 (h _ (Za _) _ rfl _ (Z7 _) _ (Za _) _ (Za _))
def ZFM(N:Nat)(e:Edit)(t:Tree):Prop:=AW (Z1 (Zcc N)) Tryz.f66 ZzB [] (Zg (Zcw.can (e,t,())) []) (EQ Tryz.f66 (Z8d (e,t,())) [])
abbrev ZIn:Prop:=∀ (N:Nat) (e:Edit) (t:Tree) (_:Unit),Z5w (e,t,())->Zd7 (e,t,()) < N+1->ZFM N e t
def ZzA:Zd U:=lvk [([2,3,4],[2,3,4]),([2,3,4,18],[2,3,4]),([4,5],[4]),([2,3,4,6],[2,3,4,6]),([2,3,4,6,7],[2,3,4,6]),([2,3,4,6,7,8],[2,3,4,((.loc 6),[.any,.any,.own .tree])]),([2,3,4,6,7,8,27],[2,3,4,6]),([2,3,4,6,7,8],[2,3,4,((.loc 6),[.any,.any,.own .tree])]),([2,3,4,6,7,8,9],[2,3,4,6,9]),([2,3,4,6,7,8,9,10],[2,3,4,((.loc 6),[.any,.any,.own .tree]),9]),([2,3,4,6,7,8,9,10,43],[2,3,4,6,9]),([2,3,4,6,7,8,9,10],[2,3,4,((.loc 6),[.any,.any,.own .tree]),9]),([2,3,4,6,7,8,9,10,50],[2,3,4,6,9]),([4,5],[4]),([2,3,4,6,7,8,9,10],[2,3,4,6,9]),([2,3,4,6,7,8,9,10],[2,3,4,6,9]),([2,3,4,6,7,8,9,11],[2,3,4,((.loc 6),[.any,.any,.own .tree]),9]),([2,3,4,6,7,8,9,11,68],[2,3,4,6,9]),([2,3,4,6,7,8,9,11],[2,3,4,((.loc 6),[.any,.any,.own .tree]),9]),([2,3,4,6,7,8,9,11,73],[2,3,4,6,9]),([2,3,4,6,7,8,9,11],[2,3,4,6,9]),([2,3,4,6,7,8,9,11,102],[2,3,4,6,9]),([4,5],[4]),([2,3,4,6,7,8,9,11],[2,3,4,6,9]),([2,3,4,6,7,8,9,108],[2,3,4,6,9]),([2,3,4,6,7,8,9,113],[2,3,4,6,9]),([4,5],[4]),([2,3,4,6,7,8,12,13],[2,3,4,6,12]),([2,3,4,6,7,8,12,127],[2,3,4,6,12]),([4,5],[4]),([2,3,4,6,7,8],[2,3,4,6]),([2,3,4,6,7,8],[2,3,4,6]),([4,5],[4])]
def Z3i(e:Edit)(t:Tree)(x7 x8:Int)(ml6_2:List Tree):LSt U:=(L2 [pL 2,pL 3,pL 4,pL 6,pI 7 x7,pI 8 x8] [(.loc 2,(enc .edit e)),(.loc 3,(enc .tree t)),(.loc 4,[ci 0,.nils,.nils]),(.loc 6,[ci t.kind,.nils,sU .tree ml6_2 (.own (.l 6 2))])])
def Z3h(e:Edit)(t:Tree)(x8 x7_a x10_a:Int)(ml6_2_a:List Tree):LSt U:=(L2 [pL 2,pL 3,pL 4,pL 6,pI 7 x7_a,pI 8 x8,pL 9,pI 10 x10_a] [(.loc 2,(enc .edit e)),(.loc 3,(enc .tree t)),(.loc 4,[ci 0,.nils,.nils]),(.loc 6,[ci t.kind,.nils,sU .tree ml6_2_a (.own (.l 6 2))]),(.loc 9,(enc .op (e.ops.getD x8.toNat Op.nil)))])
def Z21(e:Edit)(t:Tree)(x8 x11_b x7_b:Int)(ml6_2_b:List Tree):LSt U:=(L2 [pL 2,pL 3,pL 4,pL 6,pI 7 x7_b,pI 8 x8,pL 9,pI 11 x11_b] [(.loc 2,(enc .edit e)),(.loc 3,(enc .tree t)),(.loc 4,[ci 0,.nils,.nils]),(.loc 6,[ci t.kind,.nils,sU .tree ml6_2_b (.own (.l 6 2))]),(.loc 9,(enc .op (e.ops.getD x8.toNat Op.nil)))])
abbrev A67(N:Nat)(p:List Nat):=AW (Z1 (Zcc N)) Tryz.f67 ZzA p
abbrev S67(N:Nat)(p:List Nat):=SW (Z1 (Zcc N)) Tryz.f67 ZzA p
theorem ZIT(N:Nat)(e:Edit)(t:Tree)(Q:QT)(h:(iB (t.kind !=e.list) ((Q .ret (L2 [pL 4,pB 5 false] [(.loc 4,[ci 0,.nils,.nils])]))) ((Zj (A67 N [1,1,1,1,0,1,0,0]) (Z3i e t 0 0 []) (xB 0 (S67 N [1,1,1,1,1] Q)))))):
  A67 N [] (L2 [(0,.agg (enc .edit e)),(1,.agg (enc .tree t))] []) Q:=
 Eq.mpr V4 h
theorem ZxW(N:Nat)(e:Edit)(t:Tree)(x7 x8:Int)(ml6_2:List Tree)(N0:NT)(Q:QT)(h:(iB (decide (x8 < (e.ops.length:Int))) (((0:Int)<=x8/\x8 < (e.ops.length:Int))/\(Zj (A67 N [1,1,1,1,0,1,0,0,1,0,0,1,0,1,0,0]) (Z3h e t x8 x7 0 ml6_2) (xB 2 (S67 N [1,1,1,1,0,1,0,0,1,0,0,1,1] (xB 1 (S67 N [1,1,1,1,0,1,0,0,1,1] (xT N0 (xB 0 (S67 N [1,1,1,1,1] Q))))))))) ((Q .ret (L2 [pL 4,pB 5 (x7==(t.kids.length:Int))] [(.loc 4,[ci t.kind,.nils,sU .tree ml6_2 (.own (.l 4 2))])]))))):
  A67 N [1,1,1,1,0,1,0,0] (Z3i e t x7 x8 ml6_2) (xT N0 (xB 0 (S67 N [1,1,1,1,1] Q))):=
 Eq.mpr V4 h
theorem ZdM(N:Nat)(e:Edit)(t:Tree)(x8 x7_a x10_a:Int)(ml6_2_a:List Tree)(N1 N0:NT)(Q:QT)(h:∀ y_1,y_1=(e.ops.getD x8.toNat Op.nil)->∀ y_2,y_2=(t.kids.getD x7_a.toNat Tree.nil)->let z0:=decide (x10_a < y_1.n);(Tt z0)/\(Tt z0)/\(Tt z0)/\(iB (bif z0 then (y_1.kind==0) else false) ((iB (decide (((t.kids.length:Int):Int)<=x7_a)) ((Q .ret (L2 [pL 4,pB 5 false] [(.loc 4,[ci 0,.nils,.nils])]))) (((0:Int)<=x7_a/\x7_a < (t.kids.length:Int))/\((ml6_2_a.length+([y_2]).length)*56<=140737488355328)/\((InR (x7_a+1))/\((InR (x10_a+1))/\(N1 (Z3h e t x8 (x7_a+1) (x10_a+1) (ml6_2_a++([y_2]))))))))) ((Zj (A67 N [1,1,1,1,0,1,0,0,1,0,0,1,1,0,1,0,0]) (Z21 e t x8 0 x7_a ml6_2_a) (xB 4 (S67 N [1,1,1,1,0,1,0,0,1,0,0,1,1,1] (xB 1 (S67 N [1,1,1,1,0,1,0,0,1,1] (xT N0 (xB 0 (S67 N [1,1,1,1,1] Q))))))))))):
  A67 N [1,1,1,1,0,1,0,0,1,0,0,1,0,1,0,0] (Z3h e t x8 x7_a x10_a ml6_2_a) (xT N1 (xB 2 (S67 N [1,1,1,1,0,1,0,0,1,0,0,1,1] (xB 1 (S67 N [1,1,1,1,0,1,0,0,1,1] (xT N0 (xB 0 (S67 N [1,1,1,1,1] Q)))))))):=
 Eq.mpr V4 (h _ rfl _ (Za _))
theorem ZdL(N:Nat)(e:Edit)(t:Tree)(x8 x11_b x7_b:Int)(ml6_2_b:List Tree)(N2 N0:NT)(Q:QT)(h:∀ y_1,y_1=(e.ops.getD x8.toNat Op.nil)->∀ y_2,y_2=(t.kids.getD x7_b.toNat Tree.nil)->∀ y_3,y_3=y_2->∀ y_4,y_4=(y_1.e)->∀ y_5,y_5=(y_1.l.getD x11_b.toNat Tree.nil)->∀ y_6,y_6=y_5->∀ y_7,y_7=(Yc (doE true y_4 y_3))->let z1:=(Q .ret (L2 [pL 4,pB 5 false] [(.loc 4,[ci 0,.nils,.nils])]));let z0:=decide (((t.kids.length:Int):Int)<=x7_b);(iB (decide (x11_b < (y_1.l.length:Int))) ((iB (y_1.kind==2) (((0:Int)<=x11_b/\x11_b < (y_1.l.length:Int))/\((ml6_2_b.length+([y_6]).length)*56<=140737488355328)/\((InR (x11_b+1))/\(N2 (Z21 e t x8 (x11_b+1) x7_b (ml6_2_b++([y_6])))))) ((Tt (!z0))/\(Tt (!z0))/\(Tt (!z0))/\((!z0)=true->(0:Int)<=x7_b/\x7_b < (t.kids.length:Int))/\(Tt (!z0))/\(Tt (!z0))/\(Tt (!z0))/\(Tt (!z0))/\((!z0)=true->(0:Int)<=x11_b/\x11_b < (y_1.l.length:Int))/\(Tt (!z0))/\(Tt (!z0))/\(Tt (!z0))/\((!z0)=true->Z6e (y_3,y_6,()))/\(Tt (!z0))/\(z0=false->(!z0)=true)/\(iB (bif z0 then true else (!(YM (Z5 y_3) (Z5 y_6)))) z1 ((InR (x7_b+1))/\((InR (x11_b+1))/\(N2 (Z21 e t x8 (x11_b+1) (x7_b+1) ml6_2_b)))))))) ((iB (y_1.kind==3) ((iB z0 z1 (((0:Int)<=x7_b/\x7_b < (t.kids.length:Int))/\(Z4o (y_4,y_3,()))/\(ZgO (y_4,y_3,()) < N)/\(iB (!((doE true y_4 y_3).isSome)) z1 (((ml6_2_b.length+([y_7]).length)*56<=140737488355328)/\((InR (x7_b+1))/\((InR (x8+1))/\(N0 (Z3i e t (x7_b+1) (x8+1) (ml6_2_b++([y_7]))))))))))) ((InR (x8+1))/\(N0 (Z3i e t x7_b (x8+1) ml6_2_b))))))):
  A67 N [1,1,1,1,0,1,0,0,1,0,0,1,1,0,1,0,0] (Z21 e t x8 x11_b x7_b ml6_2_b) (xT N2 (xB 4 (S67 N [1,1,1,1,0,1,0,0,1,0,0,1,1,1] (xB 1 (S67 N [1,1,1,1,0,1,0,0,1,1] (xT N0 (xB 0 (S67 N [1,1,1,1,1] Q)))))))):=
 Eq.mpr V4 (h _ rfl _ rfl _ (Za _) _ (Z7 _) _ rfl _ (Za _) _ (Za _))
def ZFL(N:Nat)(e:Edit)(t:Tree):Prop:=AW (Z1 (Zcc N)) Tryz.f67 ZzA [] (Zg (Zcw.can (e,t,())) []) (EQ Tryz.f67 (Z9T (e,t,())) [])
abbrev ZIm:Prop:=∀ (N:Nat) (e:Edit) (t:Tree) (_:Unit),Z5v (e,t,())->Zd7 (e,t,()) < N+1->ZFL N e t
theorem ZyQ(c34:CT 34 JF)(c25:CT 25 Z0i)(ZEP:CT 102 Z76)(c91:CT 91 Z53)(ZEO:CT 103 Z75)(b35:ZIt)(b66:ZIn)(b67:ZIm):
  CT 35 Z30/\CT 66 ZtG/\CT 67 ZtF:=by
 have h53 : ∃ fn, Tryz.prog.funcs[(35 : FuncId)]? = some fn ∧ fn.body.isSome = true ∧ (fn.name == "runtime.NumGoroutine") = false := ⟨Tryz.f35, Tryz.func35, rfl, rfl⟩
 have h83 : ∃ fn, Tryz.prog.funcs[(66 : FuncId)]? = some fn ∧ fn.body.isSome = true ∧ (fn.name == "runtime.NumGoroutine") = false := ⟨Tryz.f66, Tryz.func66, rfl, rfl⟩
 have h84 : ∃ fn, Tryz.prog.funcs[(67 : FuncId)]? = some fn ∧ fn.body.isSome = true ∧ (fn.name == "runtime.NumGoroutine") = false := ⟨Tryz.f67, Tryz.func67, rfl, rfl⟩
 have key:∀ N,CT 35 (fs Zcw (fun a=> [Z4o a,ZgO a < N]) Z8e)/\CT 66 (fs Zcw (fun a=> [Z5w a,Zd7 a < N]) Z8d)/\CT 67 (fs Zcw (fun a=> [Z5v a,Zd7 a < N]) Z9T):=by
  intro N
  induction N with
  | zero=> exact ⟨Yo h53,Yo h83,Yo h84⟩
  | succ N ih=>
   have kn:=JV (l:=Zcc N) ⟨ih.1,ih.2.1,ih.2.2,c34,c25,ZEP,c91,ZEO,trivial⟩
   exact ⟨Zr (Γ:=Z1 (Zcc N)) Zi rfl kn ZDY Tryz.func35 rfl rfl (fun a=> by show 2<=_;decide) (fun ⟨e,t,_⟩ h=> b35 N e t () h.1 h.2.1),
    Zr (Γ:=Z1 (Zcc N)) Zi rfl kn ZzB Tryz.func66 rfl rfl (fun a=> by show 2<=_;decide) (fun ⟨e,t,_⟩ h=> b66 N e t () h.1 h.2.1),
    Zr (Γ:=Z1 (Zcc N)) Zi rfl kn ZzA Tryz.func67 rfl rfl (fun a=> by show 2<=_;decide) (fun ⟨e,t,_⟩ h=> b67 N e t () h.1 h.2.1)⟩
 exact ⟨Yp h53 fun N=> (key N).1,Yp h83 fun N=> (key N).2.1,Yp h84 fun N=> (key N).2.2⟩
end
theorem ZwH:Contract Tryz.prog cfg 64 Z4i:=by
 refine Zv6 ?_
 intro l _ hp
 simp only [ZkM] at hp
 refine ZCy _ _ ⟨fun h=> ?_,fun _=> ⟨by simp only [Qj];omega,?_⟩⟩
 .subst h
  simp only [Z9S]
  exact JR
 .simp only [Z9S]
  exact JR
theorem ZEG:Contract Tryz.prog cfg 139 Z70:=by
 refine Zzj ?_
 intro l _ hp
 simp only [Zfz] at hp
 refine ZHd _ _ ⟨fun h=> ?_,fun _=> ⟨by simp only [Qj];omega,?_⟩⟩
 .subst h
  simp only [ZdT]
  exact JR
 .simp only [ZdT]
  exact JR
theorem Zh7{α:Type}(z:α){l:List α}{i:Nat}(h:i < l.length)(x:α):Y7 z l i x=l.set i x:=by
 simp only [Y7];rw [show i+1 - l.length=0 by omega];simp
theorem ZcF{α:Type}(z:α){l:List α}{i:Nat}(h:l.length<=i)(x:α):Y7 z (l++[z]) i x=Y7 z l i x:=by
 simp only [Y7,Qd,Qw,Qb]
 rw [show i+1 - l.length=(i+1 - (l.length+1))+1 by omega,Xw]
 try rfl
theorem Zv1(t:Tree):t.words.length+Zk t.kids+1=Zm t:=by obtain ⟨k,w,ks⟩:=t;simp only [Zm,Tree.words_mk,Tree.kids_mk];omega
theorem Ziq{t:Tree}(h:rng t):InR t.kind/\(∀ x∈t.words,isW x)/\Yl t.kids:=by obtain ⟨k,w,ks⟩:=t;exact h
theorem ZdQ{ks:List Tree}(h:Yl ks)(i:Nat):rng (ks.getD i Tree.nil):=by
 by_cases hi:i < ks.length
 .exact YZ h (Zf hi _)
 .rw [Qh,QN YL]
  trivial
theorem Z4w(ks:List Tree)(i:Nat):Zm (ks.getD i Tree.nil)<=Zk ks+1:=by
 by_cases hi:i < ks.length
 .have:=Yx (Zf hi Tree.nil);omega
 .rw [Qh,QN YL]
  simp [Tree.nil,Zm,Zk]
theorem Zcd(t:Tree){i:Int}(h:0<=i):JD t i=t.kids.getD i.toNat Tree.nil:=by unfold JD;grind
theorem Z4Y(t:Tree){i:Int}(h:0<=i):YE t i=t.words.getD i.toNat 0:=by unfold YE;omega
theorem Zoc{l:List Int}(h:∀ x∈l,isW x)(i:Nat):isW (l.getD i 0):=by
 by_cases hi:i < l.length
 .grind
 .rw [Qh,QN YL];trivial
theorem b63:ZIo:=by
 intro N e t _ hp hN
 simp only [Z4o,ZgO] at hp hN
 obtain ⟨⟨p1,p2,d,p3⟩,p4,p5⟩:=hp
 have h1:=ZT e
 have h2:=Z2s p2
 have hd:=Z1K false e t
 rw [Z0c] at hd
 refine ZIX _ _ _ _ ?_
 rintro y1 hy1 y2 hy2 y3 hy3
 subst hy1 hy2 hy3
 (simp only [iB,vcT,vcS])
 refine ⟨fun hk=> ?_,fun hk=> ⟨fun hk1=> ⟨by simp only [Z6e];omega,?_⟩,fun hk1=> ⟨fun hk2=> ⟨by simp only [Z5w];grind,by simp only [Zd7];omega,?_⟩,fun hk2=> ⟨fun hk3=> ⟨by simp only [Z5v];grind,by simp only [Zd7];omega,?_⟩,fun hk3=> ?_⟩⟩⟩⟩
 .rw [if_pos hk] at hd
  simp only [Z6a,ZdD,if_pos hk,hd]
  exact JR
 .rw [if_neg hk,if_pos hk1] at hd
  simp only [Z6a,ZdD,if_neg hk,if_pos hk1,hd]
  cases YM (Z5 y1.old) (Z5 y2) <;> (repeat' (first | exact trivial | exact rfl | apply And.intro))
 .rw [if_neg hk,if_neg hk1,if_pos hk2] at hd
  simp only [Z6a,ZdD,if_neg hk,if_neg hk1,if_pos hk2,hd]
  exact JR
 .rw [if_neg hk,if_neg hk1,if_neg hk2,if_pos hk3] at hd
  simp only [Z6a,ZdD,if_neg hk,if_neg hk1,if_neg hk2,if_pos hk3,hd]
  have e2:(if y2.kind=y1.list then (Z2z (J5 false y1.ops y2.kids [])).map fun b=> Tree.mk y1.list [] b else none).isSome=(Z2z (Z0u false y1 y2)).isSome:=by
   unfold Z0u
   split
   .grind
   .try rfl
  rw [e2]
  exact JR
 .rw [if_neg hk,if_neg hk1,if_neg hk2,if_neg hk3] at hd
  simp only [Z6a,ZdD,if_neg hk,if_neg hk1,if_neg hk2,if_neg hk3,hd]
  exact JR
theorem ZF5:ZCq:=by
 intro N e t _ hp hN
 simp only [Z5w,Zd7] at hp hN
 obtain ⟨k2,⟨p1,p2,d,p3⟩,p4,p5⟩:=hp
 have h1:=ZT e
 have h2:=Y1 e.kids
 have h3:=Zv1 t
 have h4:=Zv t.kids
 have r2:=Z2s p2
 have rt:=Ziq p5
 have ri:=Zo p3
 refine ZHx _ _ _ _ ?_
 (simp only [iB,vcT,vcS])
 have no:Z2X false e t=none->Y2 cfg Tryz.f100.ntmps Tryz.f100.results.toList (Z5r (e,t,())) [] .ret (⟨[(4,.ptr (.loc 4) 0),(5,.c (.bool false))],[((.loc 4),[.int .i64 0,.nils,.nils])],[]⟩:LSt U):=by
  intro hs
  simp only [Z5r,hs]
  exact JR
 refine ⟨fun hk=> no (by unfold Z2X;rw [if_neg hk]),fun hk=> ?_⟩
 have hk:t.kind=1:=by simpa using hk
 refine ⟨by simp only [ZkM];omega,by simp only [Zfz];omega,?_⟩
 refine Z4 (ι:=Int × List Int) (fun s=> Z7U e t s.1 s.2) (fun s=> 0<=s.1/\s.1<=e.words.length/\wsD t.words (e.words.drop s.1.toNat) s.2=wsD t.words e.words t.words/\s.2.length<=t.words.length+65536) (fun s=> ((e.words.length:Int) - s.1).toNat) (0,t.words) rfl ⟨by simp,by simp,by simp,by simp⟩ ?_
 rintro ⟨i,out⟩ ⟨f1,f2,f3,f4⟩
 dsimp only at f1 f2 f3 f4
 refine Ztr _ _ _ _ _ _ _ ?_
 rintro y1 hy1 y2 hy2
 subst hy1
 (simp only [iB,vcT,vcS])
 refine ⟨fun hi=> ?_,fun hi=> ?_⟩
 .have hmem:=Zf (l:=e.words) (i:=i.toNat) YL (WEdit.mk 0 0 0 0)
  rw [ZH f1 hi (WEdit.mk 0 0 0 0),<-hy2] at f3
  rw [<-hy2] at hmem
  have hw:=JB ri.words y2 hmem
  obtain ⟨g1,g2,g3,g4⟩:=r2.2.2.2.1 y2 hmem
  have hat:YE y1 y2.at_=y1.words.getD y2.at_.toNat 0:=Z4Y y1 YL
  have hwi:=Zoc rt.2.1 y2.at_.toNat
  rw [wsD] at f3
  rw [hat]
  unfold isW at g3 g4 hwi
  refine ⟨⟨f1,hi⟩,by simp only [Zhr],by simp only [ZcW];omega,fun hne=> no ?_,fun heq=> ?_⟩
  .rw [if_neg hne] at f3
   unfold Z2X
   rw [if_pos hk,<-f3]
   try rfl
  .have heq:mix 0 (y1.words.getD y2.at_.toNat 0) y2.mask=y2.old:=by simpa using heq
   rw [if_pos heq] at f3
   refine Z4 (ι:=List Int) (fun s=> Z7T e y1 i s) (fun s=> (∀ v,Y7 0 s y2.at_.toNat v=Y7 0 out y2.at_.toNat v)/\s.length<=y1.words.length+65536) (fun s=> (y2.at_+1 - s.length).toNat) out rfl ⟨fun v=> rfl,f4⟩ ?_
   rintro s ⟨q1,q2⟩
   refine Ztq _ _ _ _ _ _ _ _ ?_
   (simp only [Tree.eta,Edit.eta,Tree.kind_mk,Tree.words_mk,Tree.kids_mk])
   rw [<-hy2,hat]
   (simp only [iB,vcT,vcS])
   refine ⟨fun hl=> ⟨by simp;omega,s++[0],rfl,⟨fun v=> ?_,by simp;omega⟩,by simp;omega⟩,fun hl=> ?_⟩
   .rw [ZcF 0 YL,q1]
   .have hl:y2.at_ < s.length:=YL
    refine ⟨by simp only [ZcW];omega,YL,YL,V3,(i+1,s.set y2.at_.toNat (mix (y1.words.getD y2.at_.toNat 0) y2.new y2.mask)),rfl,⟨V5,V5,?_,by simp only [List.length_set];omega⟩,V5⟩
    dsimp only
    rw [<-f3,<-Zh7 0 YL,q1]
 .rw [Q6 YL,wsD] at f3
  refine Z4 (ι:=Int × List Tree) (fun s=> Z7S e y1 out s.1 s.2) (fun s=> 0<=s.1/\s.1<=e.kids.length/\Z11 false y1.kids (e.kids.drop s.1.toNat) s.2=Z11 false y1.kids e.kids y1.kids/\s.2.length<=y1.kids.length+65536) (fun s=> ((e.kids.length:Int) - s.1).toNat) (0,y1.kids) rfl ⟨by simp,by simp,by simp,by simp⟩ ?_
  rintro ⟨j,ks⟩ ⟨e1,e2,e3,e4⟩
  dsimp only at e1 e2 e3 e4
  refine Ztp _ _ _ _ _ _ _ _ ?_
  rintro y1 hy1 y2 hy2 y3 hy3 y4 hy4
  subst hy1
  (simp only [iB,vcT,vcS])
  refine ⟨fun hj=> ?_,fun hj=> ?_⟩
  .have hmem:=Zf (l:=e.kids) (i:=j.toNat) YL (KidOf.mk 0 Edit.nil)
   rw [ZH e1 hj (KidOf.mk 0 Edit.nil),<-hy2] at e3
   rw [<-hy2] at hmem
   have hk2:=Zq ri.kids y2 hmem
   have hm:=Yw hmem
   have hct:=Zbl hmem
   have hca:=Jz e
   have hr:=(YK r2.2.2.2.2.2.1 hmem).2
   have hat:JD y1 y2.at_=y1.kids.getD y2.at_.toNat Tree.nil:=Zcd y1 YL
   rw [hat] at hy4
   have hm4:=Z4w y1.kids y2.at_.toNat
   have hr4:=ZdQ rt.2.2 y2.at_.toNat
   rw [Z11,Zgq,<-hy4,<-hy3] at e3
   rw [<-hy4] at hm4 hr4
   rw [<-hy3] at hm hr hk2 hct
   refine ⟨⟨e1,hj⟩,by simp only [Zhr],by simp only [Z4o];exact ⟨⟨YL,hr,_,hk2.2⟩,YL,hr4⟩,by simp only [ZgO];omega,fun hne=> no ?_,fun heq=> ?_⟩
   .have hne:doE false y3 y4=none:=by simpa using hne
    rw [hne] at e3
    unfold Z2X
    rw [if_pos hk,<-f3,<-e3]
    try rfl
   .obtain ⟨u,hu⟩:=Qv.1 heq
    rw [hu,Qm] at e3
    refine Z4 (ι:=List Tree) (fun s=> Z7R e y1 out j s) (fun s=> (∀ v,Y7 Tree.nil s y2.at_.toNat v=Y7 Tree.nil ks y2.at_.toNat v)/\s.length<=y1.kids.length+65536) (fun s=> (y2.at_+1 - s.length).toNat) ks rfl ⟨fun v=> rfl,e4⟩ ?_
    rintro s ⟨q1,q2⟩
    refine Zto _ _ _ _ _ _ _ _ _ ?_
    rintro z1 hz1 z2 hz2 z3 hz3 z4 hz4 z5 hz5
    rw [<-hy2] at hz2
    subst hz1 hz2
    rw [<-hy3] at hz3
    subst hz3
    rw [hat,<-hy4] at hz4
    subst hz4
    rw [ZbS hu] at hz5
    subst hz5
    (simp only [iB,vcT,vcS])
    refine ⟨fun hl=> ⟨by simp;omega,s++[Tree.nil],rfl,⟨fun v=> ?_,by simp;omega⟩,by simp;omega⟩,fun hl=> ?_⟩
    .rw [ZcF Tree.nil YL,q1]
    .have hl:z2.at_ < s.length:=YL
     refine ⟨YL,YL,V3,(j+1,s.set z2.at_.toNat z5),rfl,⟨V5,V5,?_,by simp only [List.length_set];omega⟩,V5⟩
     dsimp only
     rw [<-e3,<-Zh7 Tree.nil YL,q1]
  .rw [Q6 YL,Z11] at e3
   have hs:Z2X false e y1=some (.mk 1 out ks):=by
    unfold Z2X
    rw [if_pos hk,<-f3,<-e3]
    try rfl
   simp only [Z5r,hs]
   exact JR
theorem ZhU(r:Bool)(o:Op)(s:List Op)(rest out:List Tree):J5 r (o ::s) rest out=(Z9c r o rest out).bind fun x=> J5 r s x.2 x.1:=by rw [J5]
theorem Z2J{ks:List Tree}(h:Yl ks)(n:Nat):Yl (ks.drop n):=by
 induction n generalizing ks with
 | zero=> exact h
 | succ n ih=> cases ks with
  | nil=> exact h
  | cons a r=> exact ih h.2
theorem ZF4:ZCp:=by
 intro N e t _ hp hN
 simp only [Z5v,Zd7] at hp hN
 obtain ⟨k3,⟨p1,p2,d,p3⟩,p4,p5⟩:=hp
 have h1:=ZT e
 have h2:=ZF e.ops
 have h3:=Zv1 t
 have h4:=Zv t.kids
 have r2:=Z2s p2
 have rt:=Ziq p5
 have ri:=Zo p3
 refine ZHw _ _ _ _ ?_
 (simp only [iB,vcT,vcS])
 have no:Z0u false e t=none->Y2 cfg Tryz.f101.ntmps Tryz.f101.results.toList (Z5q (e,t,())) [] .ret (⟨[(4,.ptr (.loc 4) 0),(5,.c (.bool false))],[((.loc 4),[.int .i64 0,.nils,.nils])],[]⟩:LSt U):=by
  intro hs
  simp only [Z5q,hs]
  exact JR
 refine ⟨fun hk=> no (by unfold Z0u;rw [if_neg hk]),fun hk=> ?_⟩
 have hk:t.kind=e.list:=by simpa using hk
 have hl0:Z0u false e t=J5 false e.ops t.kids []:=by unfold Z0u;rw [if_pos hk]
 refine Z4 (ι:=Int × List Tree × List Tree) (fun s=> Z1I e t s.1 s.2.2 s.2.1)
  (fun s=> 0<=s.1/\s.1<=e.ops.length/\J5 false (e.ops.drop s.1.toNat) s.2.2 s.2.1=Z0u false e t/\s.2.1.length+s.2.2.length+Zn (e.ops.drop s.1.toNat)<=t.kids.length+Zn e.ops/\Zk s.2.2<=Zk t.kids/\Yl s.2.2)
  (fun s=> ((e.ops.length:Int) - s.1).toNat) (0,[],t.kids) rfl ⟨by simp,by simp,by simp [hl0],by simp,by simp,rt.2.2⟩ ?_
 rintro ⟨i,out,rest⟩ ⟨f1,f2,f3,f4,f5,f6⟩
 dsimp only at f1 f2 f3 f4 f5 f6
 refine Ztm _ _ _ _ _ _ _ _ ?_
 rintro y1 hy1
 (simp only [iB,vcT,vcS])
 refine ⟨fun hi=> ?_,fun hi=> ?_⟩
 .have hmem:=Zf (l:=e.ops) (i:=i.toNat) YL Op.nil
  rw [ZH f1 hi Op.nil,<-hy1] at f3 f4
  rw [<-hy1] at hmem
  have hr:=Go.AM.rightOs_mem ri.ops y1 hmem
  have hm:=ZI hmem
  have hct:=Z6Q hmem
  have hca:=Jz e
  have hme:=ZG y1
  have hro:=Jr (JN r2.2.2.2.2.2.2 hmem)
  have hml:=Zv y1.l
  simp only [Zn] at f4
  rw [ZhU,Z5E] at f3
  have go:∀ (x:List Tree) (m:List Tree) (v:V U) N0 Q',J5 false (e.ops.drop (i+1).toNat) x m=Z0u false e t->m.length+x.length+Zn (e.ops.drop (i+1).toNat)<=t.kids.length+Zn e.ops->Zk x<=Zk t.kids->Yl x->
    (∀ s2,s2=Z1I e t (i+1) x m->N0 s2)->Zcz N [1,1,1,1,0,1,0,0,1,1,1] (Z2U e t i x m v) (AExit.then N0 (AExit.inBlock 0 (ZjU N [1,1,1,1,1] Q'))):=by
   intro x m v N0 Q' a1 a2 a3 a4 a5
   exact Ztn _ _ _ _ _ _ _ _ _ ⟨V3,a5 _ rfl⟩
  have fin:∀ (x m:List Tree),J5 false (e.ops.drop (i+1).toNat) x m=Z0u false e t->m.length+x.length+Zn (e.ops.drop (i+1).toNat)<=t.kids.length+Zn e.ops->Zk x<=Zk t.kids->Yl x->∀ s2,s2=Z1I e t (i+1) x m->
    ∃ j:Int × List Tree × List Tree,s2=Z1I e t j.1 j.2.2 j.2.1/\(0<=j.1/\j.1<=e.ops.length/\J5 false (e.ops.drop j.1.toNat) j.2.2 j.2.1=Z0u false e t/\j.2.1.length+j.2.2.length+Zn (e.ops.drop j.1.toNat)<=t.kids.length+Zn e.ops/\Zk j.2.2<=Zk t.kids/\Yl j.2.2)/\((e.ops.length:Int) - j.1).toNat < ((e.ops.length:Int) - i).toNat:=by
   rintro x m a1 a2 a3 a4 _ rfl
   exact ⟨(i+1,m,x),rfl,⟨V5,V5,a1,a2,a3,a4⟩,V5⟩
  have r1:=Y0 hr
  have ht:∀ n:Nat,(rest.take n).length<=rest.length/\(rest.take n).length+(rest.drop n).length=rest.length:=by
   intro n
   simp only [Qn,QF];omega
  refine ⟨⟨f1,hi⟩,fun hk2=> ⟨YL,?_⟩,fun hk2=> ⟨fun hk1=> ?_,fun hk1=> ⟨fun hk3=> ?_,fun hk3=> ?_⟩⟩⟩
  .rw [V0,V0,if_pos hk2,Qm] at f3
   exact go _ _ _ _ _ f3 (by simp only [Qd];omega) f5 f6 (fin _ _ f3 (by simp only [Qd];omega) f5 f6)
  .refine Zec _ _ _ _ _ _ _ _ _ _ ?_
   rintro z1 hz1 z2 hz2 z3 hz3 z4 hz4 z5 hz5 z6 hz6
   rw [<-hy1] at hz1
   subst hz1
   rw [V0,if_pos hk1] at f3
   (simp only [iB,vcT,vcS])
   rw [X7] at hz5
   rw [X7]
   refine ⟨fun hs=> no ?_,fun hs=> ⟨YL,YL,fun h=> by omega,fun _=> ⟨fun _=> ⟨?_,fun hq=> no ?_,fun hq=> ?_⟩,fun h=> absurd hk1 h⟩⟩⟩
   .have:Z22 z1.l rest=false:=by unfold Z22;rw [decide_eq_false YL];try rfl
    rw [this,if_neg (by simp)] at f3
    exact f3.symm
   .have:=Zg1 z1.l.length rest
    simp only [Zfy];omega
   .have:Z22 z1.l rest=false:=by unfold Z22;rw [<-hz5,hq];simp
    rw [this,if_neg (by simp)] at f3
    exact f3.symm
   .have:Z22 z1.l rest=true:=by unfold Z22;rw [<-hz5,hq,decide_eq_true YL];try rfl
    rw [this,if_pos rfl,Qm] at f3
    have hd:=Z3c z1.l.length rest
    have ht1:=ht z1.l.length
    exact go _ _ _ _ _ f3 YL YL (Z2J f6 _) (fin _ _ f3 YL YL (Z2J f6 _))
  .refine Zec _ _ _ _ _ _ _ _ _ _ ?_
   rintro z1 hz1 z2 hz2 z3 hz3 z4 hz4 z5 hz5 z6 hz6
   rw [<-hy1] at hz1
   subst hz1
   rw [V0,if_neg hk1,if_neg hk2] at f3
   (simp only [iB,vcT,vcS])
   rw [show Int.toNat 1=1 from rfl]
   refine ⟨fun hs=> no ?_,fun hs=> ⟨YL,YL,fun h=> by omega,fun _=> ⟨fun h=> absurd h hk1,fun _=> ?_⟩⟩⟩
   .rw [V1] at f3
    exact f3.symm
   .have hz:z3=rest.getD 0 Tree.nil:=by
     rw [hz3,hz2]
     cases rest with
     | nil=> rfl
     | cons a r=> rfl
    rw [V0,<-hz,<-hz4] at f3
    have hm3:=Z4w rest 0
    have hr3:=ZdQ f6 0
    rw [<-hz] at hm3 hr3
    have hre:=Jo hr hk3
    rw [<-hz4] at hre hme hro hct
    refine ⟨?_,by simp only [Z4o];exact ⟨⟨YL,hro.2.2.2,_,hre⟩,YL,hr3⟩,by simp only [ZgO];omega,fun hne=> no ?_,fun heq=> ?_⟩
    .simp only [Qn];omega
    .have hne:doE false z4 z3=none:=by simpa using hne
     rw [hne] at f3
     exact f3.symm
    .obtain ⟨u,hu⟩:=Qv.1 heq
     rw [ZbS hu] at hz6
     subst hz6
     rw [hu,Qf,Qm] at f3
     have hd:=Z3c 1 rest
     have ht1:=ht 1
     have ht2:(rest.take 1).length=1:=by simp only [Qn];omega
     refine ⟨by simp only [Qw];omega,?_⟩
     exact go _ _ _ _ _ f3 (by simp only [Qd,Qw];omega) YL (Z2J f6 _) (fin _ _ f3 (by simp only [Qd,Qw];omega) YL (Z2J f6 _))
  .have hk0:y1.kind=0:=by cases r1 <;> first | rfl | (exfalso;simp at hk1 hk2 hk3)
   refine Zec _ _ _ _ _ _ _ _ _ _ ?_
   rintro z1 hz1 z2 hz2 z3 hz3 z4 hz4 z5 hz5 z6 hz6
   rw [<-hy1] at hz1
   subst hz1
   rw [if_pos hk0] at f3
   have hn:1<=z1.n/\z1.n<=1048576:=by cases r1 <;> first | (constructor <;> assumption) | (exfalso;simp at hk1 hk2 hk3 hk0)
   (simp only [iB,vcT,vcS])
   refine ⟨fun hs=> no ?_,fun hs=> ⟨YL,YL,fun _=> ⟨?_,?_⟩,fun h=> absurd hk0 h⟩⟩
   .rw [V0] at f3
    exact f3.symm
   .have:=(ht z1.n.toNat).1
    omega
   .rw [V1,Qm] at f3
    have hd:=Z3c z1.n.toNat rest
    have ht1:=ht z1.n.toNat
    exact go _ _ _ _ _ f3 (by simp only [Qd];omega) YL (Z2J f6 _) (fin _ _ f3 (by simp only [Qd];omega) YL (Z2J f6 _))
 .rw [Q6 YL,J5] at f3
  simp only [Z5q,<-f3,Zj4,Z2z,Qm,hk]
  by_cases hr:rest.length=0
  .rw [if_pos hr,hr]
   exact JR
  .rw [if_neg hr,show ((rest.length:Int)==0)=false by rw [beq_eq_false_iff_ne];omega]
   exact JR
theorem ZJF:Contract Tryz.prog cfg 63 ZbC/\Contract Tryz.prog cfg 100 ZoB/\Contract Tryz.prog cfg 101 ZoA:=ZyO c47 c81 c45 ZEF ZEG Zjy ZwH b63 ZF5 ZF4
theorem c63:Contract Tryz.prog cfg 63 ZbC:=ZJF.1
theorem Zwv{r:Bool}{e:Edit}{t u:Tree}(hr:∃ d,Z9 e d=true)(ht:Zm t+ctE e<=200000000000)(h:doE r e t=some u):Zm u<=1000000000000:=by
 obtain ⟨d,hr⟩:=hr
 have:=Z1O r e d t u hr h
 omega
theorem c32:Contract Tryz.prog cfg 32 Z26:=by
 refine ZDs c33 c63 ?_
 intro e t _ hp
 simp only [Z4o] at hp
 refine ZJj _ _ _ ?_
 rintro y1 hy1 y2 hy2 y3 hy3
 subst hy1 hy2
 (simp only [iB,vcT,vcS])
 refine ⟨by simp only [Z4o];exact hp,fun hn=> ?_,fun hs=> ?_⟩
 .have hn:doE false y1 y2=none:=by simpa using hn
  simp only [ZoX,hn]
  exact JR
 .obtain ⟨u,hu⟩:=Qv.1 hs
  rw [ZbS hu] at hy3
  subst hy3
  have:=Zwv hp.1.2.2 hp.2.1 hu
  refine ⟨by simp only [JK];exact this,?_⟩
  simp only [ZoX,hu]
  exact JR
theorem ZEP:Contract Tryz.prog cfg 102 Z76:=by
 refine Zzx ?_
 intro t i _ hp
 simp only [ZfE] at hp
 refine ZHv _ _ _ ?_
 (simp only [iB,vcT,vcS])
 refine ⟨fun h=> ⟨⟨hp,h⟩,Ys rfl (Z4Y t hp).symm⟩,fun h=> Ys rfl ?_⟩
 rw [Z4Y t hp,Qh,QN YL]
 try rfl
theorem ZEO:Contract Tryz.prog cfg 103 Z75:=by
 refine Zzw ?_
 intro t i _ hp
 simp only [ZfE] at hp
 have hk:=Zcd t hp
 refine ZHu _ _ _ ?_
 (simp only [iB,vcT,vcS])
 simp only [ZoU,hk]
 refine ⟨fun h=> ⟨⟨hp,h⟩,?_⟩,fun h=> ?_⟩
 ·exact JR
 .rw [Qh,QN YL]
  exact JR
theorem ZvE{r:Bool}{e:Edit}{t:Tree}{l:List Tree}(h:Z2z (Z0u r e t)=some l):Zj4 e (Z0u r e t)= .mk e.list [] l:=by
 unfold Z2z at h
 obtain ⟨x,hx,hy⟩:=Qt.1 h
 rw [hx]
 split at hy
 .cases hy;rfl
 .cases hy
theorem b35:ZIt:=by
 intro N e t _ hp hN
 simp only [Z4o,ZgO] at hp hN
 obtain ⟨⟨p1,p2,d,p3⟩,p4,p5⟩:=hp
 have h1:=ZT e
 have ri:=Zo p3
 have hd:=Ze3 true e t
 have hm:=Zaq true e d t
 refine ZJg _ _ _ _ ?_
 rintro y1 hy1 y2 hy2 y3 hy3 y4 hy4 y5 hy5 y6 hy6
 subst hy1 hy2 hy3 hy4
 (simp only [iB,vcT,vcS])
 simp only [iB,vcF]
 have big:∀ v,ZmC true y1 y2=some v->Zm v<=1000000000000:=fun v hv=> by grind
 have no:ZmC true y1 y2=none->Y2 cfg Tryz.f35.ntmps Tryz.f35.results.toList (Z8e (y1,y2,())) [] .ret (⟨[(4,.ptr (.loc 4) 0),(5,.c (.bool false))],[((.loc 4),[.int .i64 0,.nils,.nils])],[]⟩:LSt U):=by
  intro h
  rw [h] at hd
  simp only [Z8e,hd]
  exact JR
 have yes:∀ v,ZmC true y1 y2=some v->Y2 cfg Tryz.f35.ntmps Tryz.f35.results.toList (Z8e (y1,y2,())) [] .ret (⟨[(4,.ptr (.loc 4) 0),(5,.c (.bool true))],[((.loc 4),[.int .i64 (Tree.kind (Z5 v)),.slice (U:=U) .u64 (Tree.words (Z5 v)) .unk,.slice (U:=U) .tree (Tree.kids (Z5 v)) .unk])],[]⟩:LSt U):=by
  intro v h
  rw [h] at hd
  simp only [Z8e,hd]
  exact JR
 unfold ZmC at big no yes
 refine ⟨fun hk=> ?_,fun hk=> ⟨fun hk1=> ?_,fun hk1=> ⟨fun hk2=> ?_,fun hk2=> ⟨fun hk3=> ?_,fun hk3=> ?_⟩⟩⟩⟩
 .rw [if_pos hk] at big no yes
  exact ⟨by simp only [JK];omega,yes _ rfl⟩
 .rw [if_neg hk,if_pos hk1] at big no yes
  refine ⟨by simp only [Z6e];omega,fun hs=> no (by rw [hs];rfl),fun hs=> ?_⟩
  rw [if_pos hs] at big yes
  exact ⟨by simp only [JK];omega,yes _ rfl⟩
 .rw [if_neg hk,if_neg hk1,if_pos hk2] at big no yes
  refine ⟨by simp only [Z5w];grind,by simp only [Zd7];omega,fun hs=> no ?_,fun hs=> ?_⟩
  .have hs:Z2X true y1 y2=none:=by simpa using hs
   exact hs
  .obtain ⟨u,hu⟩:=Qv.1 hs
   have e5:y5=u:=by rw [hy5,hu];try rfl
   subst e5
   exact ⟨by simp only [JK];exact big _ hu,yes _ hu⟩
 .rw [if_neg hk,if_neg hk1,if_neg hk2,if_pos hk3] at big no yes
  have e2:∀ o,Z2z (Z0u true y1 y2)=o->(if y2.kind=y1.list then (Z2z (J5 true y1.ops y2.kids [])).map fun b=> Tree.mk y1.list [] b else none)=o.map fun b=> Tree.mk y1.list [] b:=by
   intro o ho
   unfold Z0u at ho
   split
   .grind
   .rename_i h;rw [if_neg h] at ho;rw [<-ho];try rfl
  refine ⟨by simp only [Z5v];grind,by simp only [Zd7];omega,fun hs=> no ?_,fun hs=> ?_⟩
  .simp_all
  .obtain ⟨l,hl⟩:=Qv.1 hs
   have e6:y6= .mk y1.list [] l:=by rw [hy6,ZvE hl]
   subst e6
   have e3:=e2 _ hl
   exact ⟨by simp only [JK];exact big _ e3,yes _ e3⟩
 grind
theorem b66:ZIn:=by
 intro N e t _ hp hN
 simp only [Z5w,Zd7] at hp hN
 obtain ⟨k2,⟨p1,p2,d,p3⟩,p4,p5⟩:=hp
 have h1:=ZT e
 have h2:=Y1 e.kids
 have h3:=ZmZ t
 have h4:=Zv t.kids
 have r2:=Z2s p2
 have rt:=Ziq p5
 have ri:=Zo p3
 have no:Z2X true e t=none->Y2 cfg Tryz.f66.ntmps Tryz.f66.results.toList (Z8d (e,t,())) [] .ret (⟨[(4,.ptr (.loc 4) 0),(5,.c (.bool false))],[((.loc 4),[.int .i64 0,.nils,.nils])],[]⟩:LSt U):=by
  intro hs
  simp only [Z8d,hs]
  exact JR
 refine ZIU _ _ _ _ ?_
 rintro y1 hy1 y2 hy2
 (simp only [iB,vcT,vcS])
 refine ⟨fun hk=> no (by unfold Z2X;rw [if_neg hk]),fun hk=> ?_⟩
 have hk:t.kind=1:=by simpa using hk
 rw [show Int.toNat ((e.words.length:Int) - 1)=e.words.length - 1 by omega] at hy1
 rw [show Int.toNat ((e.kids.length:Int) - 1)=e.kids.length - 1 by omega] at hy2
 have wm:0 < e.words.length->y1∈e.words:=fun h=> by rw [hy1];exact Zf YL _
 have km:0 < e.kids.length->y2∈e.kids:=fun h=> by rw [hy2];exact Zf YL _
 have wr:0 < e.words.length->0<=y1.at_/\y1.at_<=65534:=fun h=> by have:=JB ri.words y1 (wm h);omega
 have kr:0 < e.kids.length->0<=y2.at_/\y2.at_<=65534:=fun h=> by have:=Zq ri.kids y2 (km h);omega
 have go:∀ n m:Int,n=(if 0 < e.words.length/\(t.words.length:Int)<=y1.at_ then y1.at_+1 else (t.words.length:Int))->m=(if 0 < e.kids.length/\(t.kids.length:Int)<=y2.at_ then y2.at_+1 else (t.kids.length:Int))->
   Zj (A66 N [1,1,1,1,1,1,1,0,1,0,0]) (Z1b e t m n 0 0 []) (AExit.inBlock 0 (S66 N [1,1,1,1,1,1,1,1] (Y2 cfg Tryz.f66.ntmps Tryz.f66.results.toList (Z8d (e,t,())) []))):=by
  intro n m hn hm
  have ln:n<=t.words.length+65536:=by
   rw [hn];split
   .rename_i h;have:=wr h.1;omega
   .omega
  have lm:m<=t.kids.length+65536:=by
   rw [hm];split
   .rename_i h;have:=kr h.1;omega
   .omega
  rw [hy1] at hn
  rw [hy2] at hm
  have i0:=Mg.init (z:=0) (f:=fun w=> if mix 0 (t.words.getD w.at_.toNat 0) w.mask=w.old then some (mix (t.words.getD w.at_.toNat 0) w.new w.mask) else none) (WEdit.mk 0 0 0 0) (Z0O ri.words) hn
  have j0:=Mg.init (z:=Tree.nil) (f:=Z1p true t.kids) (KidOf.mk 0 Edit.nil) (Z20 ri.kids) hm
  refine Z4 (ι:=Int × Int × List Int) (fun s=> Z1b e t m n s.1 s.2.1 s.2.2) (fun s=> Mg 0 (fun w=> if mix 0 (t.words.getD w.at_.toNat 0) w.mask=w.old then some (mix (t.words.getD w.at_.toNat 0) w.new w.mask) else none) WEdit.at_ t.words e.words n s.1 s.2.1 s.2.2) (fun s=> (n - s.2.1).toNat) (0,0,[]) rfl i0 ?_
  rintro ⟨a,i,out⟩ hI
  dsimp only at hI
  have q1:=hI.i0;have q2:=hI.a0;have q3:=hI.len
  refine ZxY _ _ _ _ _ _ _ _ _ _ ?_
  rintro z1 hz1 z2 hz2
  subst hz1
  have hw:YE z1 i=z1.words.getD i.toNat 0:=Z4Y z1 YL
  have hwi:=Zoc rt.2.1 i.toNat
  rw [hw]
  unfold isW at hwi
  (simp only [iB,vcT,vcS])
  refine ⟨fun hi=> ⟨by simp only [ZfE];omega,fun h=> ⟨YL,h⟩,fun hg=> ⟨⟨YL,hg.1⟩,?_⟩,fun hg=> ⟨by simp only [Qw];omega,V3,(a,i+1,out++[z1.words.getD i.toNat 0]),rfl,?_,V5⟩⟩,fun hi=> ?_⟩
  .have hmem:z2∈e.words:=by rw [hz2];exact Zf YL _
   obtain ⟨g1,g2,g3,g4⟩:=r2.2.2.2.1 z2 hmem
   unfold isW at g3 g4
   have hf:∀ v,(if mix 0 (z1.words.getD z2.at_.toNat 0) z2.mask=z2.old then some (mix (z1.words.getD z2.at_.toNat 0) z2.new z2.mask) else none)=v->(fun w:WEdit=> if mix 0 (z1.words.getD w.at_.toNat 0) w.mask=w.old then some (mix (z1.words.getD w.at_.toNat 0) w.new w.mask) else none) (e.words.getD a.toNat (WEdit.mk 0 0 0 0))=v:=by
    intro v hv;rw [<-hz2];exact hv
   rw [hg.2] at hf
   refine ⟨by simp only [ZcW];omega,fun hne=> no ?_,fun heq=> ?_⟩
   .have:=hI.none (WEdit.mk 0 0 0 0) hg.1 (hf _ (if_neg hne))
    unfold Z2X
    rw [if_pos hk,Zm9,this]
    try rfl
   .have heq:mix 0 (z1.words.getD i.toNat 0) z2.mask=z2.old:=by simpa using heq
    have:=hI.edit (WEdit.mk 0 0 0 0) hi hg.1 (by rw [<-hz2];exact hg.2) (hf _ (if_pos heq))
    exact ⟨by simp only [ZcW];omega,V3,by simp only [List.length_singleton];omega,V3,(a+1,i+1,out++[mix (z1.words.getD i.toNat 0) z2.new z2.mask]),rfl,this,V5⟩
  .refine hI.plain (WEdit.mk 0 0 0 0) hi (fun h=> ?_)
   rw [<-hz2] at h
   rcases hg with hg | hg
   .exact hg h.1
   .exact hg h.2
  .have hws:=hI.fin hi
   rw [<-Zm9] at hws
   refine Z4 (ι:=Int × Int × List Tree) (fun s=> Z6F e z1 m out s.1 s.2.1 s.2.2) (fun s=> Mg Tree.nil (Z1p true z1.kids) KidOf.at_ z1.kids e.kids m s.1 s.2.1 s.2.2) (fun s=> (m - s.2.1).toNat) (0,0,[]) rfl j0 ?_
   rintro ⟨b,j,ks⟩ hJ
   dsimp only at hJ
   have w1:=hJ.i0;have w2:=hJ.a0;have w3:=hJ.len
   refine ZxX _ _ _ _ _ _ _ _ _ _ ?_
   rintro x1 hx1 x2 hx2 x4 hx4 x5 hx5 x6 hx6
   subst hx1
   have hkid:JD x1 j=x1.kids.getD j.toNat Tree.nil:=Zcd x1 YL
   rw [hkid] at hx5
   (simp only [iB,vcT,vcS])
   refine ⟨fun hj=> ⟨by simp only [ZfE];omega,fun h=> ⟨YL,h⟩,fun hg=> ⟨⟨YL,hg.1⟩,?_⟩,fun hg=> ⟨by simp only [Qw];omega,V3,(b,j+1,ks++[x5]),rfl,?_,V5⟩⟩,fun hj=> ?_⟩
   .have hmem:x2∈e.kids:=by rw [hx2];exact Zf YL _
    have hk2:=Zq ri.kids x2 hmem
    have hm:=Yw hmem
    have hct:=Zbl hmem
    have hca:=Jz e
    have hr:=(YK r2.2.2.2.2.2.1 hmem).2
    have hm5:=Z4w x1.kids j.toNat
    have hr5:=ZdQ rt.2.2 j.toNat
    rw [<-hx5] at hm5 hr5
    rw [<-hx4] at hm hr hk2 hct
    have hf:∀ v,doE true x4 x5=v->Z1p true x1.kids (e.kids.getD b.toNat (KidOf.mk 0 Edit.nil))=v:=by
     intro v hv
     rw [<-hx2,Zgq,hg.2,<-hx5,<-hx4];exact hv
    refine ⟨by simp only [Z4o];exact ⟨⟨YL,hr,_,hk2.2⟩,YL,hr5⟩,by simp only [ZgO];omega,fun hne=> no ?_,fun heq=> ?_⟩
    .have hne:doE true x4 x5=none:=by simpa using hne
     have:=hJ.none (KidOf.mk 0 Edit.nil) hg.1 (hf _ hne)
     unfold Z2X
     rw [if_pos hk,hws,Qm,Zjr,this]
     try rfl
    .obtain ⟨u,hu⟩:=Qv.1 heq
     have:=hJ.edit (KidOf.mk 0 Edit.nil) hj hg.1 (by rw [<-hx2];exact hg.2) (hf _ hu)
     rw [hu] at hx6
     have e6:x6=u:=hx6
     subst e6
     exact ⟨V3,by simp only [List.length_singleton];omega,V3,(b+1,j+1,ks++[x6]),rfl,this,V5⟩
   .rw [hx5]
    refine hJ.plain (KidOf.mk 0 Edit.nil) hj (fun h=> ?_)
    rw [<-hx2] at h
    rcases hg with hg | hg
    .exact hg h.1
    .exact hg h.2
   .have hks:=hJ.fin hj
    rw [<-Zjr] at hks
    have hs:Z2X true e x1=some (.mk 1 out ks):=by
     unfold Z2X
     rw [if_pos hk,hws,Qm,hks]
     try rfl
    simp only [Z8d,hs]
    exact JR
 have kk:∀ n:Int,n=(if 0 < e.words.length/\(t.words.length:Int)<=y1.at_ then y1.at_+1 else (t.words.length:Int))->_:=fun n hn=>
  And.intro (fun (_:(0:Int) < e.kids.length)=> show InR ((e.kids.length:Int) - 1) by unfold InR;omega) (And.intro (fun (_:(0:Int) < e.kids.length)=> show (0:Int)<=(e.kids.length:Int) - 1/\(e.kids.length:Int) - 1 < e.kids.length by omega) (And.intro
   (fun (h:(0:Int) < e.kids.length/\(t.kids.length:Int)<=y2.at_)=> And.intro (show InR ((e.kids.length:Int) - 1) by unfold InR;omega) (And.intro (show (0:Int)<=(e.kids.length:Int) - 1/\(e.kids.length:Int) - 1 < e.kids.length by omega) (And.intro (show InR (y2.at_+1) by have:=kr YL;unfold InR;omega) (go n (y2.at_+1) hn (by rw [if_pos ⟨YL,h.2⟩])))))
   (fun (h:¬(0:Int) < e.kids.length\/¬(t.kids.length:Int)<=y2.at_)=> go n t.kids.length hn (by rw [V0]))))
 refine ⟨fun _=> by unfold InR;omega,fun _=> by omega,fun hw=> ⟨V3,YL,by have:=wr YL;unfold InR;omega,kk _ (by rw [if_pos ⟨YL,hw.2⟩])⟩,fun hw=> kk _ (by rw [V0])⟩
theorem ZgJ{list:Int}{o:Op}{d:Int}(h:Zc list o d=true):(o.kind=0/\(1<=o.n/\o.n<=1048576)/\o.l=[])\/(o.kind=1/\o.n=0)\/(o.kind=2/\o.n=0)\/(o.kind=3/\o.n=0/\o.l=[]/\Z9 o.e d=true):=by
 have r:=Y0 h
 cases r with
 | keep n h1 h2=> grind
 | gone=> grind
 | come=> grind
 | into e h1=> grind
theorem Zh6{α:Type}{l:List α}{n:Nat}(h:n < l.length)(d:α):l.take (n+1)=l.take n++[l.getD n d]:=by
 simp_all
theorem Zgn{α:Type}(l:List α)(m n:Nat)(d:α):(l.drop m).getD n d=l.getD (m+n) d:=by
 grind
theorem b67:ZIm:=by
 intro N e t _ hp hN
 simp only [Z5v,Zd7] at hp hN
 obtain ⟨k3,⟨p1,p2,d,p3⟩,p4,p5⟩:=hp
 have h1:=ZT e
 have h2:=ZF e.ops
 have h3:=ZmZ t
 have h4:=Zv t.kids
 have r2:=Z2s p2
 have rt:=Ziq p5
 have ri:=Zo p3
 refine ZIT _ _ _ _ ?_
 (simp only [iB,vcT,vcS])
 have no:Z0u true e t=none->Y2 cfg Tryz.f67.ntmps Tryz.f67.results.toList (Z9T (e,t,())) [] .ret (⟨[(4,.ptr (.loc 4) 0),(5,.c (.bool false))],[((.loc 4),[.int .i64 0,.nils,.nils])],[]⟩:LSt U):=by
  intro hs
  simp only [Z9T,hs]
  exact JR
 refine ⟨fun hk=> no (by unfold Z0u;rw [if_neg hk]),fun hk=> ?_⟩
 have hk:t.kind=e.list:=by simpa using hk
 have hl0:Z0u true e t=J5 true e.ops t.kids []:=by unfold Z0u;rw [if_pos hk]
 refine Z4 (ι:=Int × Int × List Tree) (fun s=> Z3i e t s.1 s.2.1 s.2.2)
  (fun s=> (0<=s.1/\s.1<=t.kids.length)/\(0<=s.2.1/\s.2.1<=e.ops.length)/\J5 true (e.ops.drop s.2.1.toNat) (t.kids.drop s.1.toNat) s.2.2=Z0u true e t/\(s.2.2.length:Int)+(t.kids.length - s.1)+Zn (e.ops.drop s.2.1.toNat)<=t.kids.length+Zn e.ops)
  (fun s=> ((e.ops.length:Int) - s.2.1).toNat) (0,0,[]) rfl ⟨by simp,by simp,by simp [hl0],by simp⟩ ?_
 rintro ⟨at_,i,out⟩ ⟨⟨a1,a2⟩,⟨f1,f2⟩,f3,f4⟩
 dsimp only at a1 a2 f1 f2 f3 f4
 refine ZxW _ _ _ _ _ _ _ _ ?_
 (simp only [iB,vcT,vcS])
 refine ⟨fun hi=> ⟨⟨f1,hi⟩,?_⟩,fun hi=> ?_⟩
 .have hmem:=Zf (l:=e.ops) (i:=i.toNat) YL Op.nil
  rw [ZH f1 hi Op.nil] at f3 f4
  have fin:∀ (a:Int) (m:List Tree),(0<=a/\a<=t.kids.length)->J5 true (e.ops.drop (i+1).toNat) (t.kids.drop a.toNat) m=Z0u true e t->(m.length:Int)+(t.kids.length - a)+Zn (e.ops.drop (i+1).toNat)<=t.kids.length+Zn e.ops->∀ s2,s2=Z3i e t a (i+1) m->
    ∃ j:Int × Int × List Tree,s2=Z3i e t j.1 j.2.1 j.2.2/\((0<=j.1/\j.1<=t.kids.length)/\(0<=j.2.1/\j.2.1<=e.ops.length)/\J5 true (e.ops.drop j.2.1.toNat) (t.kids.drop j.1.toNat) j.2.2=Z0u true e t/\(j.2.2.length:Int)+(t.kids.length - j.1)+Zn (e.ops.drop j.2.1.toNat)<=t.kids.length+Zn e.ops)/\((e.ops.length:Int) - j.2.1).toNat < ((e.ops.length:Int) - i).toNat:=by
   rintro a m b1 b2 b3 _ rfl
   exact ⟨(a,i+1,m),rfl,⟨b1,⟨V5,V5⟩,b2,b3⟩,V5⟩
  generalize hy:e.ops.getD i.toNat Op.nil=y1 at*
  have hr:=Go.AM.rightOs_mem ri.ops y1 hmem
  have hm:=ZI hmem
  have hct:=Z6Q hmem
  have hca:=Jz e
  have hme:=ZG y1
  have hro:=Jr (JN r2.2.2.2.2.2.2 hmem)
  have hml:=Zv y1.l
  simp only [Zn] at f4
  rw [ZhU,Z5E] at f3
  have hrest:(t.kids.drop at_.toNat).length=t.kids.length - at_.toNat:=QF ..
  rcases ZgJ hr with ⟨k0,hn,hl⟩ | ⟨k1,hn⟩ | ⟨k2,hn⟩ | ⟨k3',hn,hl,hre⟩
  ·-- kids are kept
   rw [if_pos k0] at f3
   refine Z4 (ι:=Int × Int × List Tree) (fun s=> Z3h e t i s.1 s.2.1 s.2.2) (fun s=> (0<=s.2.1/\s.2.1<=y1.n)/\s.1=at_+s.2.1/\s.1<=t.kids.length/\s.2.2=out++(t.kids.drop at_.toNat).take s.2.1.toNat) (fun s=> (y1.n - s.2.1).toNat) (at_,0,out) rfl ⟨by simp;omega,by simp,by simp;omega,by simp⟩ ?_
   rintro ⟨a,q,m⟩ ⟨⟨c1,c2⟩,c3,c4,c5⟩
   dsimp only at c1 c2 c3 c4 c5
   refine ZdM _ _ _ _ _ _ _ _ _ _ ?_
   rintro z1 hz1 z2 hz2
   rw [hy] at hz1
   subst hz1
   (simp only [iB,vcT,vcS])
   have hlen:(m.length:Int)<=out.length+q:=by rw [c5];simp only [Qd,Qn];omega
   refine ⟨fun hg=> ⟨fun hx=> no ?_,fun hx=> ⟨YL,by simp only [Qw];omega,V3,V3,(a+1,q+1,m++[z2]),rfl,⟨V5,V5,V5,?_⟩,V5⟩⟩,fun hg=> ?_⟩
   .rw [V0] at f3
    exact f3.symm
   .dsimp only
    rw [show (q+1).toNat=q.toNat+1 by omega,Zh6 YL Tree.nil,Zgn,show at_.toNat+q.toNat=a.toNat by omega,<-hz2,c5,Qb]
   .have hq:q=z1.n:=YL
    subst hq
    rw [V1,Qm,XG,show at_.toNat+z1.n.toNat=a.toNat by omega,<-c5] at f3
    dsimp only at f3
    refine Z4 (ι:=Unit) (fun _=> Z21 e t i 0 a m) (fun _=> True) (fun _=> 0) () rfl trivial ?_
    intro _ _
    refine ZdL _ _ _ _ _ _ _ _ _ _ ?_
    rintro w1 hw1 w2 hw2 w3 hw3 w4 hw4 w5 hw5 w6 hw6 w7 hw7
    rw [hy] at hw1
    subst hw1
    rw [hl]
    (simp only [iB,vcT,vcS])
    exact ⟨fun h=> absurd h (by simp),fun _=> ⟨fun h=> absurd h YL,fun _=> ⟨V3,fin _ _ YL f3 YL _ rfl⟩⟩⟩
  ·-- kids are gone
   rw [V0,if_pos k1] at f3
   refine Z4 (ι:=Unit) (fun _=> Z3h e t i at_ 0 out) (fun _=> True) (fun _=> 0) () rfl trivial ?_
   intro _ _
   refine ZdM _ _ _ _ _ _ _ _ _ _ ?_
   rintro z1 hz1 z2 hz2
   rw [hy] at hz1
   subst hz1
   (simp only [iB,vcT,vcS])
   refine ⟨fun hg=> absurd hg.1 YL,fun _=> ?_⟩
   refine Z4 (ι:=Int × Int) (fun s=> Z21 e t i s.1 s.2 out) (fun s=> (0<=s.1/\s.1<=z1.l.length)/\s.2=at_+s.1/\s.2<=t.kids.length/\∀ j:Nat,(j:Int) < s.1->Z5 (t.kids.getD (at_.toNat+j) Tree.nil)=Z5 (z1.l.getD j Tree.nil)) (fun s=> ((z1.l.length:Int) - s.1).toNat) (0,at_) rfl ⟨by simp,by simp,by simp;omega,fun j hj=> by simp at hj;omega⟩ ?_
   rintro ⟨q,a⟩ ⟨⟨c1,c2⟩,c3,c4,c5⟩
   dsimp only at c1 c2 c3 c4 c5
   refine ZdL _ _ _ _ _ _ _ _ _ _ ?_
   rintro w1 hw1 w2 hw2 w3 hw3 w4 hw4 w5 hw5 w6 hw6 w7 hw7
   rw [hy] at hw1
   subst hw1 hw3 hw6
   (simp only [iB,vcT,vcS])
   have bad:Z22 w1.l (t.kids.drop at_.toNat)=false->Z0u true e t=none:=by
    intro h
    rw [h,if_neg (by simp)] at f3
    exact f3.symm
   have m2:=Z4w t.kids a.toNat
   have m5:=Z4w w1.l q.toNat
   rw [<-hw2] at m2
   rw [<-hw5] at m5
   refine ⟨fun hq=> ⟨fun h=> absurd h YL,fun _=> ⟨fun _=> by omega,fun _=> by omega,fun _=> by simp only [Z6e];omega,fun h=> no (bad ?_),fun h=> ⟨V3,V3,(q+1,a+1),rfl,⟨V5,V5,V5,fun j hj=> ?_⟩,V5⟩⟩⟩,fun hq=> ⟨fun h=> absurd h YL,fun _=> ⟨V3,?_⟩⟩⟩
   .unfold Z22
    by_cases hx:w1.l.length<=(t.kids.drop at_.toNat).length
    .rw [decide_eq_true hx,QX]
     refine Z48 fun hh=> ?_
     have h3:YM (Z5 w3) (Z5 w6)=false:=by
      rcases h with h | h
      .omega
      .exact h
     rw [YG] at h3
     apply h3
     have:=Z6J (d:=Tree.nil) hh q.toNat
     rw [hw2,hw5,this,Qh,Qh,QW,V1,Qu,show at_.toNat+q.toNat=a.toNat by omega]
    .rw [decide_eq_false hx];try rfl
   .by_cases hj2:(j:Int) < q
    .exact c5 j hj2
    .have e1:at_.toNat+j=a.toNat:=by dsimp only at hj;omega
     have e2:j=q.toNat:=by dsimp only at hj;omega
     rw [e1,e2,<-hw2,<-hw5]
     exact Yu.1 h.2
   .have hq:q=w1.l.length:=YL
    subst hq
    have Z5C:Z22 w1.l (t.kids.drop at_.toNat)=true:=by
     unfold Z22
     rw [decide_eq_true YL,QX,JI]
     refine Zdd Tree.nil (by rw [Qn];omega) fun j hj=> ?_
     rw [<-c5 j YL,Qh,Qh,QW,if_pos hj,Qu]
    rw [Z5C,if_pos rfl,Qm,XG,show at_.toNat+w1.l.length=a.toNat by omega] at f3
    dsimp only at f3
    exact fin _ _ YL f3 YL _ rfl
  ·-- kids come
   rw [V0,V0,if_pos k2,Qm] at f3
   refine Z4 (ι:=Unit) (fun _=> Z3h e t i at_ 0 out) (fun _=> True) (fun _=> 0) () rfl trivial ?_
   intro _ _
   refine ZdM _ _ _ _ _ _ _ _ _ _ ?_
   rintro z1 hz1 z2 hz2
   rw [hy] at hz1
   subst hz1
   (simp only [iB,vcT,vcS])
   refine ⟨fun hg=> absurd hg.1 YL,fun _=> ?_⟩
   refine Z4 (ι:=Int × List Tree) (fun s=> Z21 e t i s.1 at_ s.2) (fun s=> (0<=s.1/\s.1<=z1.l.length)/\s.2=out++z1.l.take s.1.toNat) (fun s=> ((z1.l.length:Int) - s.1).toNat) (0,out) rfl ⟨by simp,by simp⟩ ?_
   rintro ⟨q,m⟩ ⟨⟨c1,c2⟩,c5⟩
   dsimp only at c1 c2 c5
   refine ZdL _ _ _ _ _ _ _ _ _ _ ?_
   rintro w1 hw1 w2 hw2 w3 hw3 w4 hw4 w5 hw5 w6 hw6 w7 hw7
   rw [hy] at hw1
   subst hw1 hw6
   (simp only [iB,vcT,vcS])
   have hlen:(m.length:Int)<=out.length+q:=by rw [c5];simp only [Qd,Qn];omega
   refine ⟨fun hq=> ⟨fun _=> ⟨YL,by simp only [Qw];omega,V3,(q+1,m++[w6]),rfl,⟨V5,?_⟩,V5⟩,fun h=> absurd k2 h⟩,fun hq=> ⟨fun h=> absurd h YL,fun _=> ⟨V3,?_⟩⟩⟩
   .dsimp only
    rw [show (q+1).toNat=q.toNat+1 by omega,Zh6 YL Tree.nil,<-hw5,c5,Qb]
   .rw [show q.toNat=w1.l.length by omega,List.take_length] at c5
    rw [<-c5] at f3
    dsimp only at f3
    exact fin _ _ YL f3 YL _ rfl
  ·-- what is within a kid
   rw [V0,V0,V0] at f3
   refine Z4 (ι:=Unit) (fun _=> Z3h e t i at_ 0 out) (fun _=> True) (fun _=> 0) () rfl trivial ?_
   intro _ _
   refine ZdM _ _ _ _ _ _ _ _ _ _ ?_
   rintro z1 hz1 z2 hz2
   rw [hy] at hz1
   subst hz1
   (simp only [iB,vcT,vcS])
   refine ⟨fun hg=> absurd hg.1 YL,fun _=> ?_⟩
   refine Z4 (ι:=Unit) (fun _=> Z21 e t i 0 at_ out) (fun _=> True) (fun _=> 0) () rfl trivial ?_
   intro _ _
   refine ZdL _ _ _ _ _ _ _ _ _ _ ?_
   rintro w1 hw1 w2 hw2 w3 hw3 w4 hw4 w5 hw5 w6 hw6 w7 hw7
   rw [hy] at hw1
   subst hw1 hw3
   rw [hl]
   (simp only [iB,vcT,vcS])
   have hz:w3=(t.kids.drop at_.toNat).getD 0 Tree.nil:=by rw [Zgn,XD];exact hw2
   have m2:=Z4w t.kids at_.toNat
   have g2:=ZdQ rt.2.2 at_.toNat
   rw [<-hw2] at m2 g2
   rw [<-hw4] at hre hme hro hct
   refine ⟨fun h=> absurd h (by simp),fun _=> ⟨fun _=> ⟨fun hx=> no ?_,fun hx=> ⟨YL,by simp only [Z4o];exact ⟨⟨YL,hro.2.2.2,_,hre⟩,YL,g2⟩,by simp only [ZgO];omega,fun hne=> no ?_,fun heq=> ?_⟩⟩,fun h=> absurd k3' h⟩⟩
   .rw [V1] at f3
    exact f3.symm
   .rw [V0,<-hz,<-hw4] at f3
    have hne:doE true w4 w3=none:=by simpa using hne
    rw [hne] at f3
    exact f3.symm
   .obtain ⟨u,hu⟩:=Qv.1 heq
    rw [hu] at hw7
    have e7:w7=u:=hw7
    subst e7
    rw [V0,<-hz,<-hw4,hu,Qf,Qm,XG,show at_.toNat+1=(at_+1).toNat by omega] at f3
    dsimp only at f3
    exact ⟨by simp only [Qw];omega,V3,V3,fin _ _ YL f3 (by simp only [List.length_append,List.length_singleton];omega) _ rfl⟩
 .rw [Q6 YL,J5] at f3
  simp only [Z9T,<-f3,Zj4,Z2z,Qm,hk]
  by_cases hr:at_=t.kids.length
  .rw [if_pos (by rw [QF];omega),hr]
   simp only [beq_self_eq_true]
   exact JR
  .rw [if_neg (by rw [QF];omega),show (at_==(t.kids.length:Int))=false by rw [beq_eq_false_iff_ne];omega]
   exact JR
theorem ZJH:Contract Tryz.prog cfg 35 Z30/\Contract Tryz.prog cfg 66 ZtG/\Contract Tryz.prog cfg 67 ZtF:=ZyQ c34 c25 ZEP c91 ZEO b35 b66 b67
theorem c35:Contract Tryz.prog cfg 35 Z30:=ZJH.1
noncomputable section
def Ze5:ArgM ((List Op × List Tree × List Tree × Unit) × Unit):=(.obj 0 (.cons (cWr .op 0 0) (.cons (ZlR .tree 0 1) (.cons (ZlR .tree 0 2) .nil))) .nil)
def Z6k(a:(List Op × List Tree × List Tree × Unit) × Unit):Prop:=(a.1.1).length<=200000000000/\(a.1.2.1).length<=200000000000/\(a.1.2.2.1).length<=200000000000
def ZbH(a:(List Op × List Tree × List Tree × Unit) × Unit):V U:= .tup []
def Z7e(a:(List Op × List Tree × List Tree × Unit) × Unit):List (List (C U)):=[[.mref (.x 0 0),sU .tree ((Zl (Wst.mk a.1.1 a.1.2.1 a.1.2.2.1)).gone) (.own (.x 0 1)),sU .tree ((Zl (Wst.mk a.1.1 a.1.2.1 a.1.2.2.1)).brought) (.own (.x 0 2))]]
def Z7f(a:(List Op × List Tree × List Tree × Unit) × Unit):List (Tok × LC U):=[(.x 0 0,LC.mk (U:=U) .op ((Zl (Wst.mk a.1.1 a.1.2.1 a.1.2.2.1)).out) 0)]
def Z2p:Fs U:=ZnI Ze5 (fun a=> [Z6k a]) ZbH Z7e Z7f
def Ze7:ArgM ((List Op × List Tree × List Tree × Unit) × Int × Unit):=(.obj 0 (.cons (cWr .op 0 0) (.cons (ZlR .tree 0 1) (.cons (ZlR .tree 0 2) .nil))) (.cons (Ya .i64) .nil))
def Z8T(a:(List Op × List Tree × List Tree × Unit) × Int × Unit):Prop:=(a.1.1).length<=200000000000/\(a.1.2.1).length<=200000000000/\(a.1.2.2.1).length<=200000000000/\(∀ o∈a.1.1,0<=o.n/\o.n<=100000000000000000)/\0<=a.2.1/\a.2.1<=1048576
def Zmv(a:(List Op × List Tree × List Tree × Unit) × Int × Unit):V U:= .tup []
def Ziy(a:(List Op × List Tree × List Tree × Unit) × Int × Unit):List (List (C U)):=[[.mref (.x 0 0),sU .tree ((Yd (Wst.mk a.1.1 a.1.2.1 a.1.2.2.1) a.2.1).gone) (.own (.x 0 1)),sU .tree ((Yd (Wst.mk a.1.1 a.1.2.1 a.1.2.2.1) a.2.1).brought) (.own (.x 0 2))]]
def Ziz(a:(List Op × List Tree × List Tree × Unit) × Int × Unit):List (Tok × LC U):=[(.x 0 0,LC.mk (U:=U) .op ((Yd (Wst.mk a.1.1 a.1.2.1 a.1.2.2.1) a.2.1).out) 0)]
def Z72:Fs U:=ZnI Ze7 (fun a=> [Z8T a]) Zmv Ziy Ziz
def Ze6:ArgM ((List Op × List Tree × List Tree × Unit) × List Tree × Unit):=(.objAt 0 1 (.cons (cWr .op 0 0) (.cons (ZlR .tree 0 1) (.cons (ZlR .tree 0 2) .nil))) (.cons (aSl .tree) .nil))
def ZfC(a:(List Op × List Tree × List Tree × Unit) × List Tree × Unit):Prop:=(a.1.1).length<=200000000000/\(a.1.2.1).length<=200000000000/\(a.1.2.2.1).length<=200000000000/\Zk a.2.1<=20000000000
def Zuk(a:(List Op × List Tree × List Tree × Unit) × List Tree × Unit):V U:= .tup []
def ZoL(a:(List Op × List Tree × List Tree × Unit) × List Tree × Unit):List (List (C U)):=[[.mref (.x 0 0),sU .tree ((Wst.mk a.1.1 (a.1.2.1++Zb a.2.1) a.1.2.2.1).gone) (.own (.x 0 1)),sU .tree ((Wst.mk a.1.1 (a.1.2.1++Zb a.2.1) a.1.2.2.1).brought) (.own (.x 0 2))]]
def ZoM(a:(List Op × List Tree × List Tree × Unit) × List Tree × Unit):List (Tok × LC U):=[(.x 0 0,LC.mk (U:=U) .op ((Wst.mk a.1.1 (a.1.2.1++Zb a.2.1) a.1.2.2.1).out) 0)]
def Zik:Fs U:=ZnI Ze6 (fun a=> [ZfC a]) Zuk ZoL ZoM
def Zbo:ArgM ((List Op × List Tree × List Tree × Unit) × List Tree × Unit):=(.objAt 0 2 (.cons (cWr .op 0 0) (.cons (ZlR .tree 0 1) (.cons (ZlR .tree 0 2) .nil))) (.cons (aSl .tree) .nil))
def Zkv(a:(List Op × List Tree × List Tree × Unit) × List Tree × Unit):List (List (C U)):=[[.mref (.x 0 0),sU .tree ((Wst.mk a.1.1 a.1.2.1 (a.1.2.2.1++Zb a.2.1)).gone) (.own (.x 0 1)),sU .tree ((Wst.mk a.1.1 a.1.2.1 (a.1.2.2.1++Zb a.2.1)).brought) (.own (.x 0 2))]]
def Zkw(a:(List Op × List Tree × List Tree × Unit) × List Tree × Unit):List (Tok × LC U):=[(.x 0 0,LC.mk (U:=U) .op ((Wst.mk a.1.1 a.1.2.1 (a.1.2.2.1++Zb a.2.1)).out) 0)]
def ZeR:Fs U:=ZnI Zbo (fun a=> [ZfC a]) Zuk Zkv Zkw
def Za0(a:Int × Edit × Unit):Prop:=a.2.1.words.length<=20000000000/\a.2.1.kids.length<=20000000000
def Zp0(a:Int × Edit × Unit):V U:= .c (.bool (Zds a.1 a.2.1))
def Z4h:Fs U:=fs ZqI (fun a=> [Za0 a]) Zp0
def Z4g:Fs U:=fs ZqI (fun a=> [ZmJ a]) Zp0
def Zvx:Zd U:=lvk [([0,7],[((.x 0),[.wr .op])]),([0],[((.x 0),[.wr .op])]),([0,28],[((.x 0),[.wr .op])]),([0],[((.x 0),[.wr .op])]),([],[((.x 0),[.wr .op])])]
abbrev ZJX(wo:List Op)(wg wb:List Tree)(Q:QT):=AW (Z1 Znz) Tryz.f110 Zvx [] (⟨[(0,.ptr (.x 0) 0)],[(.x 0,[.mref (.x 0 0),sU .tree wg (.own (.x 0 1)),sU .tree wb (.own (.x 0 2))])],[(.x 0 0,LC.mk (U:=U) .op wo 0)]⟩:LSt U) Q
theorem ZHo(wo:List Op)(wg wb:List Tree)(Q:QT)(h:∀ y_1,y_1=(Edit.mk 0 (Tree.mk 0 [] []) (Tree.mk 0 [] []) [] [] 0 [])->∀ y_2,y_2=(List.set (wo++([(OpOf.mk 0 0 [] y_1:Op)])) (Int.toNat (wo.length:Int)) (OpOf.mk 1 0 wg y_1:Op))->let z0:=decide ((0:Int) < (wb.length:Int));iB (decide ((0:Int) < (wg.length:Int))) (((wo.length+([(OpOf.mk 0 0 [] y_1:Op)]).length)*240<=140737488355328)/\((0:Int)<=(wo.length:Int)/\(wo.length:Int) < ((wo++([(OpOf.mk 0 0 [] y_1:Op)])).length:Int))/\((0:Nat)<=(Int.toNat (wo.length:Int)))/\(iB z0 (((y_2.length+([(OpOf.mk 0 0 [] y_1:Op)]).length)*240<=140737488355328)/\((0:Int)<=(y_2.length:Int)/\(y_2.length:Int) < ((y_2++([(OpOf.mk 0 0 [] y_1:Op)])).length:Int))/\((0:Nat)<=(Int.toNat (y_2.length:Int)))/\(Q .normal (⟨[],[(.x 0,[.mref (.x 0 0),.nils,.nils])],[(.x 0 0,LC.mk (U:=U) .op (List.set (y_2++([(OpOf.mk 0 0 [] y_1:Op)])) (Int.toNat (y_2.length:Int)) (OpOf.mk 2 0 wb y_1:Op)) 0)]⟩:LSt U))) (Q .normal (⟨[],[(.x 0,[.mref (.x 0 0),.nils,.nils])],[(.x 0 0,LC.mk (U:=U) .op y_2 0)]⟩:LSt U)))) (iB z0 (((wo.length+([(OpOf.mk 0 0 [] y_1:Op)]).length)*240<=140737488355328)/\((0:Int)<=(wo.length:Int)/\(wo.length:Int) < ((wo++([(OpOf.mk 0 0 [] y_1:Op)])).length:Int))/\((0:Nat)<=(Int.toNat (wo.length:Int)))/\(Q .normal (⟨[],[(.x 0,[.mref (.x 0 0),.nils,.nils])],[(.x 0 0,LC.mk (U:=U) .op (List.set (wo++([(OpOf.mk 0 0 [] y_1:Op)])) (Int.toNat (wo.length:Int)) (OpOf.mk 2 0 wb y_1:Op)) 0)]⟩:LSt U))) (Q .normal (⟨[],[(.x 0,[.mref (.x 0 0),.nils,.nils])],[(.x 0 0,LC.mk (U:=U) .op wo 0)]⟩:LSt U)))):
  ZJX wo wg wb Q:=
 Eq.mpr V4 (h _ rfl _ rfl)
def ZBc(wo:List Op)(wg wb:List Tree):Prop:=AW (Z1 Znz) Tryz.f110 Zvx [] (Z1d (Ze5.can ((wo,wg,wb,()),())) (Ze5.canX ((wo,wg,wb,()),())) (Ze5.canL ((wo,wg,wb,()),()))) (Z4a cfg Tryz.f110.ntmps Tryz.f110.results.toList (ZbH ((wo,wg,wb,()),())) (Z7e ((wo,wg,wb,()),())) (Z7f ((wo,wg,wb,()),())))
theorem Zzt(hb:∀ (wo:List Op) (wg:List Tree) (wb:List Tree) (_:Unit),Z6k ((wo,wg,wb,()),())->ZBc wo wg wb):CT 110 Z2p:=
 Z0C (l:=[]) Zi rfl trivial Zvx Tryz.func110 rfl rfl 1 (fun _=> rfl) V2 (fun ⟨⟨wo,wg,wb,_⟩,_⟩=> hb wo wg wb ())
def Zq9:List (FuncId × Fs U):=[(110,Z2p)]
def Zvy:Zd U:=lvk [([0,1],[((.x 0),[.wr .op])]),([0,1,4],[((.x 0),[.wr .op])]),([0,1,4,25],[((.x 0),[.wr .op])]),([],[((.x 0),[.wr .op])]),([],[((.x 0),[.wr .op])])]
abbrev ZJZ(wo:List Op)(wg wb:List Tree)(n:Int)(Q:QT):=AW (Z1 Zq9) Tryz.f107 Zvy [] (⟨[(0,.ptr (.x 0) 0),pI 1 n],[(.x 0,[.mref (.x 0 0),sU .tree wg (.own (.x 0 1)),sU .tree wb (.own (.x 0 2))])],[(.x 0 0,LC.mk (U:=U) .op wo 0)]⟩:LSt U) Q
theorem ZHq(wo:List Op)(wg wb:List Tree)(n:Int)(Q:QT)(h:∀ y_1,y_1=(Edit.mk 0 (Tree.mk 0 [] []) (Tree.mk 0 [] []) [] [] 0 [])->∀ y_2,y_2=(Int.toNat (((((Zl (Wst.mk wo wg wb)).out).length:Int):Int) - 1))->∀ y_3,y_3=(List.getD ((Zl (Wst.mk wo wg wb)).out) y_2 Op.nil)->∀ y_4,y_4=(y_3.e)->let z1:=Zl (Wst.mk wo wg wb);let z0:=decide ((0:Int)<=((((z1.out).length:Int):Int) - 1));((Z6k ((wo,wg,wb,()),()))/\((InR ((((z1.out).length:Int):Int) - 1))/\((Tt z0)/\(Tt z0)/\(Tt z0)/\(Tt z0)/\(Tt z0)/\(z0=true->(0:Int)<=((((z1.out).length:Int):Int) - 1)/\((((z1.out).length:Int):Int) - 1) < ((z1.out).length:Int))/\(Tt z0)/\(Tt z0)/\(Tt z0)/\(Tt z0)/\(iB (bif z0 then (y_3.kind==0) else false) (((0:Int)<=((((z1.out).length:Int):Int) - 1)/\((((z1.out).length:Int):Int) - 1) < ((z1.out).length:Int))/\(InR (y_3.n+n))/\((0:Int)<=((((z1.out).length:Int):Int) - 1)/\((((z1.out).length:Int):Int) - 1) < ((z1.out).length:Int))/\((0:Nat)<=y_2)/\(Q .ret (⟨[],[(.x 0,[.mref (.x 0 0),sU .tree (z1.gone) (.own (.x 0 1)),sU .tree (z1.brought) (.own (.x 0 2))])],[(.x 0 0,LC.mk (U:=U) .op (List.set (z1.out) y_2 (OpOf.mk y_3.kind (y_3.n+n) y_3.l y_4:Op)) 0)]⟩:LSt U))) ((((z1.out).length+([(OpOf.mk 0 0 [] y_1:Op)]).length)*240<=140737488355328)/\((0:Int)<=((z1.out).length:Int)/\((z1.out).length:Int) < (((z1.out)++([(OpOf.mk 0 0 [] y_1:Op)])).length:Int))/\((0:Nat)<=(Int.toNat ((z1.out).length:Int)))/\(Q .normal (⟨[],[(.x 0,[.mref (.x 0 0),sU .tree (z1.gone) (.own (.x 0 1)),sU .tree (z1.brought) (.own (.x 0 2))])],[(.x 0 0,LC.mk (U:=U) .op (List.set ((z1.out)++([(OpOf.mk 0 0 [] y_1:Op)])) (Int.toNat ((z1.out).length:Int)) (OpOf.mk 0 n [] y_1:Op)) 0)]⟩:LSt U)))))))):
  ZJZ wo wg wb n Q:=
 Eq.mpr V4 (h _ rfl _ rfl _ rfl _ (Z7 _))
def ZBe(wo:List Op)(wg wb:List Tree)(n:Int):Prop:=AW (Z1 Zq9) Tryz.f107 Zvy [] (Z1d (Ze7.can ((wo,wg,wb,()),n,())) (Ze7.canX ((wo,wg,wb,()),n,())) (Ze7.canL ((wo,wg,wb,()),n,()))) (Z4a cfg Tryz.f107.ntmps Tryz.f107.results.toList (Zmv ((wo,wg,wb,()),n,())) (Ziy ((wo,wg,wb,()),n,())) (Ziz ((wo,wg,wb,()),n,())))
theorem Zzv(Zsp:CT 110 Z2p)(hb:∀ (wo:List Op) (wg:List Tree) (wb:List Tree) (n:Int) (_:Unit),Z8T ((wo,wg,wb,()),n,())->ZBe wo wg wb n):CT 107 Z72:=
 Z0C (l:=[(110,Z2p)]) Zi rfl (⟨Zsp,trivial⟩) Zvy Tryz.func107 rfl rfl 2 (fun _=> rfl) V2 (fun ⟨⟨wo,wg,wb,_⟩,n,_⟩=> hb wo wg wb n ())
def ZdY:List (FuncId × Fs U):=[(33,JF)]
def Zli:Zd U:=lvk [([0,6,7,8],[((.x 0),[.wr .op])]),([0,6,7,8,9],[((.x 0),[.wr .op])]),([0,5,6,7,8],[5,((.x 0),[.wr .op])]),([0,6,7,8],[((.x 0),[.wr .op])]),([0,6,7,8],[((.x 0),[.wr .op])])]
def Z7P(wo:List Op)(wg wb l:List Tree)(x8:Int)(mx0_1:List Tree):LSt U:=(⟨[(0,.ptr (.x 0) 1),(6,.c (sU .tree l .unk)),pI 7 (l.length:Int),pI 8 x8],[(.x 0,[.mref (.x 0 0),sU .tree mx0_1 (.own (.x 0 1)),sU .tree wb (.own (.x 0 2))])],[(.x 0 0,LC.mk (U:=U) .op wo 0)]⟩:LSt U)
abbrev ZJY(wo:List Op)(wg wb l:List Tree)(Q:QT):=AW (Z1 ZdY) Tryz.f108 Zli [] (⟨[(0,.ptr (.x 0) 1),(1,.c (sU .tree l .unk))],[(.x 0,[.mref (.x 0 0),sU .tree wg (.own (.x 0 1)),sU .tree wb (.own (.x 0 2))])],[(.x 0 0,LC.mk (U:=U) .op wo 0)]⟩:LSt U) Q
theorem ZHp(wo:List Op)(wg wb l:List Tree)(Q:QT)(h:Zj (AW (Z1 ZdY) Tryz.f108 Zli [1,0,0]) (Z7P wo wg wb l 0 wg) (xB 0 Q)):
  ZJY wo wg wb l Q:=
 Eq.mpr V4 h
abbrev ZAo(wo:List Op)(wg wb l:List Tree)(x8:Int)(mx0_1:List Tree)(N0:NT)(Q:QT):=AW (Z1 ZdY) Tryz.f108 Zli [1,0,0] (Z7P wo wg wb l x8 mx0_1) (xT N0 (xB 0 Q))
theorem Ztl(wo:List Op)(wg wb l:List Tree)(x8:Int)(mx0_1:List Tree)(N0:NT)(Q:QT)(h:let z2:=decide (x8 < (l.length:Int));let z1:=l.getD x8.toNat Tree.nil;let z0:=Tree.mk (Tree.kind z1) (Tree.words z1) (Tree.kids z1);iB z2 (((0:Int)<=x8/\x8 < (l.length:Int))/\((JK (z0,()))/\((mx0_1.length+([(Tree.mk 0 [] [])]).length)*56<=140737488355328)/\((0:Int)<=(mx0_1.length:Int)/\(mx0_1.length:Int) < ((mx0_1++([(Tree.mk 0 [] [])])).length:Int))/\(mx0_1.length<=(Int.toNat (mx0_1.length:Int)))/\((InR (x8+1))/\(N0 (Z7P wo wg wb l (x8+1) (List.set (mx0_1++([(Tree.mk 0 [] [])])) (Int.toNat (mx0_1.length:Int)) (Tree.mk (Tree.kind (Z5 z0)) (Tree.words (Z5 z0)) (Tree.kids (Z5 z0))))))))) (Q .normal (⟨[(0,.ptr (.x 0) 1),(6,.c (sU .tree l .unk)),pI 7 (l.length:Int),pI 8 x8,pB 9 z2],[(.x 0,[.mref (.x 0 0),sU .tree mx0_1 (.own (.x 0 1)),sU .tree wb (.own (.x 0 2))])],[(.x 0 0,LC.mk (U:=U) .op wo 0)]⟩:LSt U))):
  ZAo wo wg wb l x8 mx0_1 N0 Q:=
 Eq.mpr V4 h
def ZBd(wo:List Op)(wg wb l:List Tree):Prop:=AW (Z1 ZdY) Tryz.f108 Zli [] (Z1d (Ze6.can ((wo,wg,wb,()),l,())) (Ze6.canX ((wo,wg,wb,()),l,())) (Ze6.canL ((wo,wg,wb,()),l,()))) (Z4a cfg Tryz.f108.ntmps Tryz.f108.results.toList (Zuk ((wo,wg,wb,()),l,())) (ZoL ((wo,wg,wb,()),l,())) (ZoM ((wo,wg,wb,()),l,())))
theorem Zzu(c33:CT 33 JF)(hb:∀ (wo:List Op) (wg:List Tree) (wb:List Tree) (l:List Tree) (_:Unit),ZfC ((wo,wg,wb,()),l,())->ZBd wo wg wb l):CT 108 Zik:=
 Z0C (l:=[(33,JF)]) Zi rfl (⟨c33,trivial⟩) Zli Tryz.func108 rfl rfl 2 (fun _=> rfl) V2 (fun ⟨⟨wo,wg,wb,_⟩,l,_⟩=> hb wo wg wb l ())
def Z5A(wo:List Op)(wg wb l:List Tree)(x8:Int)(mx0_2:List Tree):LSt U:=(⟨[(0,.ptr (.x 0) 2),(6,.c (sU .tree l .unk)),pI 7 (l.length:Int),pI 8 x8],[(.x 0,[.mref (.x 0 0),sU .tree wg (.own (.x 0 1)),sU .tree mx0_2 (.own (.x 0 2))])],[(.x 0 0,LC.mk (U:=U) .op wo 0)]⟩:LSt U)
abbrev ZI7(wo:List Op)(wg wb l:List Tree)(Q:QT):=AW (Z1 ZdY) Tryz.f108 Zli [] (⟨[(0,.ptr (.x 0) 2),(1,.c (sU .tree l .unk))],[(.x 0,[.mref (.x 0 0),sU .tree wg (.own (.x 0 1)),sU .tree wb (.own (.x 0 2))])],[(.x 0 0,LC.mk (U:=U) .op wo 0)]⟩:LSt U) Q
theorem ZCx(wo:List Op)(wg wb l:List Tree)(Q:QT)(h:Zj (AW (Z1 ZdY) Tryz.f108 Zli [1,0,0]) (Z5A wo wg wb l 0 wb) (xB 0 Q)):
  ZI7 wo wg wb l Q:=
 Eq.mpr V4 h
abbrev Zxs(wo:List Op)(wg wb l:List Tree)(x8:Int)(mx0_2:List Tree)(N0:NT)(Q:QT):=AW (Z1 ZdY) Tryz.f108 Zli [1,0,0] (Z5A wo wg wb l x8 mx0_2) (xT N0 (xB 0 Q))
theorem Zra(wo:List Op)(wg wb l:List Tree)(x8:Int)(mx0_2:List Tree)(N0:NT)(Q:QT)(h:let z2:=decide (x8 < (l.length:Int));let z1:=l.getD x8.toNat Tree.nil;let z0:=Tree.mk (Tree.kind z1) (Tree.words z1) (Tree.kids z1);iB z2 (((0:Int)<=x8/\x8 < (l.length:Int))/\((JK (z0,()))/\((mx0_2.length+([(Tree.mk 0 [] [])]).length)*56<=140737488355328)/\((0:Int)<=(mx0_2.length:Int)/\(mx0_2.length:Int) < ((mx0_2++([(Tree.mk 0 [] [])])).length:Int))/\(mx0_2.length<=(Int.toNat (mx0_2.length:Int)))/\((InR (x8+1))/\(N0 (Z5A wo wg wb l (x8+1) (List.set (mx0_2++([(Tree.mk 0 [] [])])) (Int.toNat (mx0_2.length:Int)) (Tree.mk (Tree.kind (Z5 z0)) (Tree.words (Z5 z0)) (Tree.kids (Z5 z0))))))))) (Q .normal (⟨[(0,.ptr (.x 0) 2),(6,.c (sU .tree l .unk)),pI 7 (l.length:Int),pI 8 x8,pB 9 z2],[(.x 0,[.mref (.x 0 0),sU .tree wg (.own (.x 0 1)),sU .tree mx0_2 (.own (.x 0 2))])],[(.x 0 0,LC.mk (U:=U) .op wo 0)]⟩:LSt U))):
  Zxs wo wg wb l x8 mx0_2 N0 Q:=
 Eq.mpr V4 h
def Zxz(wo:List Op)(wg wb l:List Tree):Prop:=AW (Z1 ZdY) Tryz.f108 Zli [] (Z1d (Zbo.can ((wo,wg,wb,()),l,())) (Zbo.canX ((wo,wg,wb,()),l,())) (Zbo.canL ((wo,wg,wb,()),l,()))) (Z4a cfg Tryz.f108.ntmps Tryz.f108.results.toList (Zuk ((wo,wg,wb,()),l,())) (Zkv ((wo,wg,wb,()),l,())) (Zkw ((wo,wg,wb,()),l,())))
theorem Zv4(c33:CT 33 JF)(hb:∀ (wo:List Op) (wg:List Tree) (wb:List Tree) (l:List Tree) (_:Unit),ZfC ((wo,wg,wb,()),l,())->Zxz wo wg wb l):CT 108 ZeR:=
 Z0C (l:=[(33,JF)]) Zi rfl (⟨c33,trivial⟩) Zli Tryz.func108 rfl rfl 2 (fun _=> rfl) V2 (fun ⟨⟨wo,wg,wb,_⟩,l,_⟩=> hb wo wg wb l ())
abbrev ZI6(list:Int)(e:Edit)(Q:QT):=AW (Z1 Znz) Tryz.f109 Zvl [] (L2 [pI 0 list,(1,.agg (enc .edit e))] []) Q
theorem ZCw(list:Int)(e:Edit)(Q:QT)(h:let z2:=(!(e.kind==0)) && (list==9);let z1:=bif (list==9) then (e.kind==2) else false;let z0:=(!(e.kind==0)) && z1;((Tt (!(e.kind==0)))/\(Tt (!(e.kind==0)))/\(Tt z2)/\(Tt z2)/\((!(e.kind==0))=true->(True->(!(e.kind==0))=true))/\((!(e.kind==0))=true->((list==9)=true->z2=true))/\(Tt (!(e.kind==0)))/\(Tt z0)/\(Tt z0)/\(Tt z0)/\(Tt z0)/\(Tt z0)/\(Tt z0)/\(z0=true->InR (((e.words.length:Int):Int)+(e.kids.length:Int)))/\(Tt z0)/\((!(e.kind==0))=true->(True->(!(e.kind==0))=true))/\((!(e.kind==0))=true->(z1=true->z0=true))/\((e.kind==0)=false->(!(e.kind==0))=true)/\(Q .ret (L2 [(4,.c (.bool (bif (e.kind==0) then true else (bif z1 then (((((e.words.length:Int):Int)+(e.kids.length:Int)):Int)==0) else false))))] [])))):
  ZI6 list e Q:=
 Eq.mpr V4 h
def Zxy(list:Int)(e:Edit):Prop:=AW (Z1 Znz) Tryz.f109 Zvl [] (Zg (ZqI.can (list,e,())) []) (EQ Tryz.f109 (Zp0 (list,e,())) [])
theorem Zv3(hb:∀ (list:Int) (e:Edit) (_:Unit),Za0 (list,e,())->Zxy list e):CT 109 Z4h:=
 Z2 (l:=[]) Zi rfl trivial Zvl Tryz.func109 rfl rfl 2 (fun _=> rfl) V2 (fun ⟨list,e,_⟩=> hb list e ())
abbrev ZI5(list:Int)(e:Edit)(Q:QT):=AW (Z1 Znz) Tryz.f112 Zvl [] (L2 [pI 0 list,(1,.agg (enc .edit e))] []) Q
theorem ZCv(list:Int)(e:Edit)(Q:QT)(h:let z4:=(!(e.kind==0)) && (e.kind==2);let z1:=bif (e.kind==2) then (list==9) else false;let z2:=(!(e.kind==0)) && z1;let z0:=bif z1 then (((e.words.length:Int):Int)==0) else false;let z3:=(!(e.kind==0)) && z0;((Tt (!(e.kind==0)))/\(Tt (!(e.kind==0)))/\(Tt (!(e.kind==0)))/\(Tt z4)/\((!(e.kind==0))=true->(True->(!(e.kind==0))=true))/\((!(e.kind==0))=true->((e.kind==2)=true->z4=true))/\(Tt (!(e.kind==0)))/\(Tt z2)/\(Tt z2)/\(Tt z2)/\((!(e.kind==0))=true->(True->(!(e.kind==0))=true))/\((!(e.kind==0))=true->(z1=true->z2=true))/\(Tt (!(e.kind==0)))/\(Tt z3)/\(Tt z3)/\(Tt z3)/\((!(e.kind==0))=true->(True->(!(e.kind==0))=true))/\((!(e.kind==0))=true->(z0=true->z3=true))/\((e.kind==0)=false->(!(e.kind==0))=true)/\(Q .ret (L2 [(4,.c (.bool (bif (e.kind==0) then true else (bif z0 then (((e.kids.length:Int):Int)==0) else false))))] [])))):
  ZI5 list e Q:=
 Eq.mpr V4 h
def Zxx(list:Int)(e:Edit):Prop:=AW (Z1 Znz) Tryz.f112 Zvl [] (Zg (ZqI.can (list,e,())) []) (EQ Tryz.f112 (Zp0 (list,e,())) [])
theorem Zv2(hb:∀ (list:Int) (e:Edit) (_:Unit),ZmJ (list,e,())->Zxx list e):CT 112 Z4g:=
 Z2 (l:=[]) Zi rfl trivial Zvl Tryz.func112 rfl rfl 2 (fun _=> rfl) V2 (fun ⟨list,e,_⟩=> hb list e ())
end
theorem Z33{α:Type}(l:List α)(z x:α):(l++[z]).set (Int.toNat (l.length:Int)) x=l++[x]:=by
 simp_all
theorem Z6C:∀ (F:List Op) (n:Int),Jx F n=if F.length≠0/\(F.getD (F.length - 1) Op.nil).kind=0 then F.set (F.length - 1) ⟨(F.getD (F.length - 1) Op.nil).kind,(F.getD (F.length - 1) Op.nil).n+n,(F.getD (F.length - 1) Op.nil).l,(F.getD (F.length - 1) Op.nil).e⟩ else F++[⟨0,n,[],Edit.nil⟩]
 | [],n=> by simp [Jx]
 | [o],n=> by simp [Jx]
 | o ::p ::r,n=> by
  have ih:=Z6C (p ::r) n
  have e:(o ::p ::r).length - 1=((p ::r).length - 1)+1:=by simp
  rw [Jx,ih,e]
  grind
theorem Z7W(s:Wst):(Zl s).out.length<=s.out.length+2:=by
 simp only [Zl,Z0M]
 grind
theorem Z7V(s:Wst):∀ o∈(Zl s).out,o∈s.out\/o.n=0:=by
 intro o ho
 simp only [Zl,Z0M,Qi] at ho
 grind
theorem Zsp:Contract Tryz.prog cfg 110 Z2p:=by
 refine Zzt ?_
 intro wo wg wb _ hp
 simp only [Z6k] at hp
 refine ZHo wo wg wb _ ?_
 rintro y1 hy1 y2 hy2
 have hy:y1=Edit.nil:=hy1
 subst hy
 rw [Z33] at hy2
 subst hy2
 (simp only [iB,vcS])
 refine ⟨fun h1=> ⟨by simp;omega,by simp;omega,YL,fun h2=> ⟨by simp;omega,by simp;omega,YL,?_⟩,fun h2=> ?_⟩,fun h1=> ⟨fun h2=> ⟨by simp;omega,by simp;omega,YL,?_⟩,fun h2=> ?_⟩⟩
 .rw [Z33]
  have e:Zl ⟨wo,wg,wb⟩=⟨wo++[⟨1,0,wg,Edit.nil⟩]++[⟨2,0,wb,Edit.nil⟩],[],[]⟩:=by
   simp only [Zl,Z0M];rw [V0,V0];simp
  simp only [ZbH,Z7e,Z7f,e]
  exact JR
 .have e:Zl ⟨wo,wg,wb⟩=⟨wo++[⟨1,0,wg,Edit.nil⟩],[],[]⟩:=by
   simp only [Zl,Z0M];rw [V0,V1];simp
  simp only [ZbH,Z7e,Z7f,e]
  exact JR
 .rw [Z33]
  have e:Zl ⟨wo,wg,wb⟩=⟨wo++[⟨2,0,wb,Edit.nil⟩],[],[]⟩:=by
   simp only [Zl,Z0M];rw [V1,V0];simp
  simp only [ZbH,Z7e,Z7f,e]
  exact JR
 .have e:Zl ⟨wo,wg,wb⟩=⟨wo,[],[]⟩:=by
   simp only [Zl,Z0M];rw [V1,V1];simp
  simp only [ZbH,Z7e,Z7f,e]
  exact JR
theorem ZEL:Contract Tryz.prog cfg 107 Z72:=by
 refine Zzv Zsp ?_
 intro wo wg wb n _ hp
 simp only [Z8T] at hp
 obtain ⟨p1,p2,p3,p4,p5,p6⟩:=hp
 have hfl:=Z7W ⟨wo,wg,wb⟩
 have hfm:=Z7V ⟨wo,wg,wb⟩
 have hg:(Zl ⟨wo,wg,wb⟩).gone=[]:=rfl
 have hb:(Zl ⟨wo,wg,wb⟩).brought=[]:=rfl
 have hk:=Z6C (Zl ⟨wo,wg,wb⟩).out n
 have hkw:Yd ⟨wo,wg,wb⟩ n=⟨Jx (Zl ⟨wo,wg,wb⟩).out n,[],[]⟩:=rfl
 refine ZHq wo wg wb n _ ?_
 simp only [hg,hb,Zmv,Ziy,Ziz,hkw]
 generalize (Zl ⟨wo,wg,wb⟩).out=F at*
 simp only at hfl hfm
 rintro y1 hy1 y2 hy2 y3 hy3 y4 hy4
 have hy:y1=Edit.nil:=hy1
 subst hy
 have e2:y2=F.length - 1:=YL
 subst e2
 rw [<-hy3,<-hy4] at hk
 simp only [iB,vcT,vcS,aiT,true_and]
 refine ⟨by simp only [Z6k];exact ⟨p1,p2,p3⟩,V3,fun h=> ⟨h,YL⟩,fun h=> ?_,fun h=> ?_⟩
 .have hy3n:0<=y3.n/\y3.n<=100000000000000000:=by
   have hm:y3∈F:=by rw [hy3];exact Zf YL _
   rcases hfm y3 hm with h1 | h1
   .exact p4 y3 h1
   .omega
  rw [if_pos ⟨YL,h.2⟩] at hk
  rw [hk]
  refine ⟨YL,V3,YL,YL,?_⟩
  exact JR
 .rw [V0] at hk
  rw [hk,Z33]
  refine ⟨by simp;omega,by simp;omega,YL,?_⟩
  exact JR
theorem ZJI:Contract Tryz.prog cfg 108 Zik:=by
 refine Zzu c33 ?_
 intro wo wg wb l _ hp
 simp only [ZfC] at hp
 obtain ⟨p1,p2,p3,p4⟩:=hp
 have hl:=Zv l
 refine ZHp _ _ _ _ _ ?_
 refine Z4 (ι:=Int × List Tree) (fun s=> Z7P wo wg wb l s.1 s.2) (fun s=> 0<=s.1/\s.1<=l.length/\s.2.length=wg.length+s.1/\s.2++Zb (l.drop s.1.toNat)=wg++Zb l) (fun s=> ((l.length:Int) - s.1).toNat) (0,wg) rfl ⟨by simp,by simp,by simp,by simp⟩ ?_
 rintro ⟨i,out⟩ ⟨h1,h2,h3,h4⟩
 dsimp only at h1 h2 h3 h4
 refine Ztl _ _ _ _ _ _ _ _ ?_
 (simp only [iB,vcS])
 (simp only [Tree.eta,Edit.eta,Tree.kind_mk,Tree.words_mk,Tree.kids_mk])
 refine ⟨fun hi=> ?_,fun hi=> ?_⟩
 .have hm:=Yx (Zf (l:=l) (i:=i.toNat) YL Tree.nil)
  rw [ZH h1 hi Tree.nil] at h4
  simp only [Zb,Qo] at h4
  rw [Z33]
  refine ⟨⟨h1,hi⟩,by simp only [JK];omega,by simp;omega,by simp;omega,YL,V3,(i+1,out++[Z5 (l.getD i.toNat Tree.nil)]),rfl,⟨V5,V5,by simp;omega,?_⟩,V5⟩
  simp only [Qb,Qk,Qq]
  exact h4
 .rw [Q6 YL] at h4
  simp only [Zb,QQ,Qs] at h4
  rw [h4]
  exact JR
theorem ZI0:Contract Tryz.prog cfg 108 ZeR:=by
 refine Zv4 c33 ?_
 intro wo wg wb l _ hp
 simp only [ZfC] at hp
 obtain ⟨p1,p2,p3,p4⟩:=hp
 have hl:=Zv l
 refine ZCx _ _ _ _ _ ?_
 refine Z4 (ι:=Int × List Tree) (fun s=> Z5A wo wg wb l s.1 s.2) (fun s=> 0<=s.1/\s.1<=l.length/\s.2.length=wb.length+s.1/\s.2++Zb (l.drop s.1.toNat)=wb++Zb l) (fun s=> ((l.length:Int) - s.1).toNat) (0,wb) rfl ⟨by simp,by simp,by simp,by simp⟩ ?_
 rintro ⟨i,out⟩ ⟨h1,h2,h3,h4⟩
 dsimp only at h1 h2 h3 h4
 refine Zra _ _ _ _ _ _ _ _ ?_
 (simp only [iB,vcS])
 (simp only [Tree.eta,Edit.eta,Tree.kind_mk,Tree.words_mk,Tree.kids_mk])
 refine ⟨fun hi=> ?_,fun hi=> ?_⟩
 .have hm:=Yx (Zf (l:=l) (i:=i.toNat) YL Tree.nil)
  rw [ZH h1 hi Tree.nil] at h4
  simp only [Zb,Qo] at h4
  rw [Z33]
  refine ⟨⟨h1,hi⟩,by simp only [JK];omega,by simp;omega,by simp;omega,YL,V3,(i+1,out++[Z5 (l.getD i.toNat Tree.nil)]),rfl,⟨V5,V5,by simp;omega,?_⟩,V5⟩
  simp only [Qb,Qk,Qq]
  exact h4
 .rw [Q6 YL] at h4
  simp only [Zb,QQ,Qs] at h4
  rw [h4]
  exact JR
theorem ZwG:Contract Tryz.prog cfg 109 Z4h:=by
 refine Zv3 ?_
 intro list e _ hp
 simp only [Za0] at hp
 refine ZCw _ _ _ ?_
 simp only [iB,vcT,vcS,aiT,true_and]
 refine ⟨fun _=> by unfold InR;grind,Z6 rfl ?_⟩
 rw [Qr]
 simp only [Zds]
 grind
theorem ZwF:Contract Tryz.prog cfg 112 Z4g:=by
 refine Zv2 ?_
 intro list e _ hp
 refine ZCv _ _ _ ?_
 simp only [iB,vcT,vcS,aiT,true_and]
 refine Z6 rfl ?_
 rw [Qr]
 simp only [Zds]
 grind
noncomputable def Z63:Fs U:=ZEd Zik ZeR
theorem ZwD:Contract Tryz.prog cfg 108 Z63:=ZlP ZJI ZI0
end Go.AM.YtfapacabjkhepaaGreat
