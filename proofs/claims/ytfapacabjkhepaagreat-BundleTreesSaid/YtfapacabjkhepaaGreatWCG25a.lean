import Derived.Test.YtfapacabjkhepaaGreatWKG21a
import Derived.Test.YtfapacabjkhepaaGreatWCL25b
import Derived.Test.YtfapacabjkhepaaGreatWKD20w
set_option linter.unusedSimpArgs false
set_option linter.unusedVariables false
namespace Go.AM.YtfapacabjkhepaaGreat
open Go.AM Go.Proofs
noncomputable section
def ZnF(a:Edit × Tree × Unit):V U:= .tup [(true,(enc .tree (Jn ((doE false a.1 a.2.1).map Z3)))),(false,[.bool ((doE false a.1 a.2.1).isSome)])]
def Z1H:Fs U:=fs Zbk (fun a=> [Z3O a]) ZnF
def Zei(a:Tree × Int × Unit):Prop:=0<=a.2.1
def Z64:Fs U:=fs Zvf (fun a=> [Zei a]) Znt
def Z63:Fs U:=fs Zvf (fun a=> [Zei a]) ZnC
def Z75(a:Edit × Tree × Unit):V U:= .tup [(true,(enc .tree (Jn (doE true a.1 a.2.1)))),(false,[.bool ((doE true a.1 a.2.1).isSome)])]
def ZaA:Fs U:=fs Zbk (fun a=> [Z3O a]) Z75
def Z74(a:Edit × Tree × Unit):V U:= .tup [(true,(enc .tree (Jn (Z2q true a.1 a.2.1)))),(false,[.bool ((Z2q true a.1 a.2.1).isSome)])]
def ZrT:Fs U:=fs Zbk (fun a=> [Z4z a]) Z74
def Z8H(a:Edit × Tree × Unit):V U:= .tup [(true,(enc .tree (ZhQ a.1 (Z0m true a.1 a.2.1)))),(false,[.bool ((Z25 (Z0m true a.1 a.2.1)).isSome)])]
def ZrS:Fs U:=fs Zbk (fun a=> [Z4y a]) Z8H
def Zut:List (FuncId × Fs U):=[(33,Jr),(63,Zay)]
def ZCT:Zg U:=lvl [([2,3,4],[2,3,4]),([4,6,7],[4,6]),([4,6,15],[4,6]),([4,5],[4]),([4,5],[4])]
abbrev A32(p:List Nat):=AW (Z2 Zut) Tryz.f32 ZCT p
theorem ZIj(e:Edit)(t:Tree)(Q:QT)(h:∀ s,s=e->∀ d,d=t->∀ u,u=(Zcl s d)->((Z3O (s,d,()))/\(iB (!((doE false s d).isSome)) ((Q .ret (L2 [pL 4,pB 5 false] [(.loc 4,[ci 0,.nils,.nils])]))) ((Jv (u,()))/\(Q .ret (L2 [pL 4,pB 5 true] [(.loc 4,(enc .tree (Z3 u)))])))))):
  A32 [] (L2 [(0,.agg (enc .edit e)),(1,.agg (enc .tree t))] []) Q:=
 Eq.mpr V5 (h _ (Z8 _) _ (Z0 _) _ (Z0 _))
def ZF3(e:Edit)(t:Tree):Prop:=AW (Z2 Zut) Tryz.f32 ZCT [] (Zi (Zbk.can (e,t,())) []) (EQ Tryz.f32 (ZnF (e,t,())) [])
theorem ZCd(c33:CT 33 Jr)(c63:CT 63 Zay)(hb:∀ (e:Edit) (t:Tree) (_:Unit),Z3O (e,t,())->ZF3 e t):CT 32 Z1H:=
 Z1 (l:=[(33,Jr),(63,Zay)]) Zk rfl (⟨c33,c63,trivial⟩) ZCT Tryz.func32 rfl rfl 2 (fun _=> rfl) V2 (fun ⟨e,t,_⟩=> hb e t ())
def ZtV:Zg U:=lvl [([1,2],[2]),([1,2,9],[2]),([4],[]),([4],[])]
abbrev ZJp(p:List Nat):=AW (Z2 Zmg) Tryz.f102 ZtV p
theorem ZGg(t:Tree)(i:Int)(Q:QT)(h:(iB (decide (i < (t.words.length:Int))) (((0:Int)<=i/\i < (t.words.length:Int))/\(Q .ret (L2 [(4,.c (.int .u64 (t.words.getD i.toNat (0:Int))))] []))) ((Q .ret (L2 [(4,.c (.int .u64 0))] []))))):
  ZJp [] (L2 [(0,.agg (enc .tree t)),pI 1 i] []) Q:=
 Eq.mpr V5 h
def ZzV(t:Tree)(i:Int):Prop:=AW (Z2 Zmg) Tryz.f102 ZtV [] (Zi (Zvf.can (t,i,())) []) (EQ Tryz.f102 (Znt (t,i,())) [])
theorem Zy6(hb:∀ (t:Tree) (i:Int) (_:Unit),Zei (t,i,())->ZzV t i):CT 102 Z64:=
 Z1 (l:=[]) Zk rfl trivial ZtV Tryz.func102 rfl rfl 2 (fun _=> rfl) V2 (fun ⟨t,i,_⟩=> hb t i ())
def ZtU:Zg U:=lvl [([1,2,4],[2,4]),([1,2,4,9],[2,4]),([4],[4]),([4],[4])]
abbrev ZJo(p:List Nat):=AW (Z2 Zmg) Tryz.f103 ZtU p
theorem ZGf(t:Tree)(i:Int)(Q:QT)(h:(iB (decide (i < (t.kids.length:Int))) (((0:Int)<=i/\i < (t.kids.length:Int))/\(Q .ret (L2 [pL 4] [(.loc 4,(enc .tree (t.kids.getD i.toNat Tree.nil)))]))) ((Q .ret (L2 [pL 4] [(.loc 4,[ci 0,.nils,.nils])]))))):
  ZJo [] (L2 [(0,.agg (enc .tree t)),pI 1 i] []) Q:=
 Eq.mpr V5 h
def ZzU(t:Tree)(i:Int):Prop:=AW (Z2 Zmg) Tryz.f103 ZtU [] (Zi (Zvf.can (t,i,())) []) (EQ Tryz.f103 (ZnC (t,i,())) [])
theorem Zy5(hb:∀ (t:Tree) (i:Int) (_:Unit),Zei (t,i,())->ZzU t i):CT 103 Z63:=
 Z1 (l:=[]) Zk rfl trivial ZtU Tryz.func103 rfl rfl 2 (fun _=> rfl) V2 (fun ⟨t,i,_⟩=> hb t i ())
def Zb4(N:Nat):List (FuncId × Fs U):=(35,fs Zbk (fun a=> [Z3O a,Zfy a < N]) Z75) ::(66,fs Zbk (fun a=> [Z4z a,ZbQ a < N]) Z74) ::(67,fs Zbk (fun a=> [Z4y a,ZbQ a < N]) Z8H) ::[(34,Jr),(25,YX),(102,Z64),(91,Z4m),(103,Z63)]
def ZCS:Zg U:=lvl [([2,3,4],[2,3,4]),([2,3,4,6],[2,3,4,6]),([2,3,4,6,10],[2,3,4,6]),([4,6,7],[4,6]),([2,3,4,6,10,11],[2,3,4,6]),([4,6,7],[4,6]),([2,3,4,6,10,13],[2,3,4,6]),([2,3,4,6],[2,3,4,6]),([4,6,7],[4,6]),([2,3,4,6,10,21],[2,3,4,6]),([4,6,7],[4,6]),([2,3,4,6,29],[2,3,4,6]),([4,6,7],[4,6]),([4,6,38],[4,6]),([4,5],[4]),([4,5],[4])]
abbrev A35(N:Nat)(p:List Nat):=AW (Z2 (Zb4 N)) Tryz.f35 ZCS p
theorem ZIg(N:Nat)(e:Edit)(t:Tree)(Q:QT)(h:∀ s,s=e->∀ d,d=t->∀ aa,aa=(e.new)->∀ ae,ae=(e.old)->∀ u,u=(Jn (Z2q true s d))->∀ ab,ab=(ZhQ s (Z0m true s d))->let z1:=Q .ret (L2 [pL 4,pB 5 true] [(.loc 4,(enc .tree (Z3 d)))]);let z0:=(Q .ret (L2 [pL 4,pB 5 false] [(.loc 4,[ci 0,.nils,.nils])]));(iB (e.kind==0) ((iB (!true) z0 ((Jv (d,()))/\z1))) ((iB (e.kind==1) (((Z39 (ae,d,()))/\(iB (!(Yd (Z3 ae) (Z3 d))) z0 ((Jv (aa,()))/\(Q .ret (L2 [pL 4,pB 5 true] [(.loc 4,(enc .tree (Z3 aa)))])))))) ((iB (e.kind==2) ((Z4z (s,d,()))/\(ZbQ (s,d,()) < N)/\(iB (!((Z2q true s d).isSome)) z0 ((Jv (u,()))/\(Q .ret (L2 [pL 4,pB 5 true] [(.loc 4,(enc .tree (Z3 u)))]))))) ((iB (e.kind==3) ((Z4y (s,d,()))/\(ZbQ (s,d,()) < N)/\(iB (!((Z25 (Z0m true s d)).isSome)) z0 ((Jv (ab,()))/\(Q .ret (L2 [pL 4,pB 5 true] [(.loc 4,(enc .tree (Z3 ab)))]))))) ((iB (!false) z0 ((Jv (d,()))/\z1))))))))))):
  A35 N [] (L2 [(0,.agg (enc .edit e)),(1,.agg (enc .tree t))] []) Q:=
 Eq.mpr V5 (h _ (Z8 _) _ (Z0 _) _ (Z0 _) _ (Z0 _) _ (Z0 _) _ (Z0 _))
def ZF0(N:Nat)(e:Edit)(t:Tree):Prop:=AW (Z2 (Zb4 N)) Tryz.f35 ZCS [] (Zi (Zbk.can (e,t,())) []) (EQ Tryz.f35 (Z75 (e,t,())) [])
abbrev ZHm:Prop:=∀ (N:Nat) (e:Edit) (t:Tree) (_:Unit),Z3O (e,t,())->Zfy (e,t,()) < N+1->ZF0 N e t
def Zyc:Zg U:=lvk [([2,3,4],[2,3,4]),([2,3,4,21],[2,3,4]),([4,5],[4]),([2,3,4,6],[2,3,4,6]),([2,3,4,6,7,8],[2,3,4,6]),([2,3,4,6,7,8,9],[2,3,4,6]),([2,3,4,6,7,8,9,45],[2,3,4,6]),([2,3,4,6,7,8],[2,3,4,6]),([2,3,4,6,7,8,10],[2,3,4,6]),([2,3,4,6,7,8,10,69],[2,3,4,6]),([2,3,4,6,7,8],[2,3,4,6]),([2,3,4,6,7,8,11],[2,3,4,6]),([2,3,4,6,7,8,11,12],[2,3,4,((.loc 6),[.any,.own .u64])]),([2,3,4,6,7,8,11,12,80],[2,3,4,6]),([2,3,4,6,7,8,11,12],[2,3,4,((.loc 6),[.any,.own .u64])]),([2,3,4,6,7,8,11,12,13],[2,3,4,6]),([2,3,4,6,7,8,11,12,13,100],[2,3,4,6]),([2,3,4,6,7,8,11,12,13,14],[2,3,4,6,14]),([2,3,4,6,7,8,11,12,13,14,112],[2,3,4,6,14]),([4,5],[4]),([2,3,4,6,7,8,11,12,13],[2,3,4,6]),([2,3,4,6,7,8,11,12,13],[2,3,4,6]),([2,3,4,6,7,8,11,12],[2,3,4,6]),([2,3,4,6,8,11],[2,3,4,6]),([2,3,4,6,8,11,15],[2,3,4,((.loc 6),[.any,.any,.own .tree])]),([2,3,4,6,8,11,15,130],[2,3,4,6]),([2,3,4,6,8,11,15],[2,3,4,((.loc 6),[.any,.any,.own .tree])]),([2,3,4,6,8,11,15,16],[2,3,4,6,16]),([2,3,4,6,8,11,15,16,150],[2,3,4,6,16]),([2,3,4,6,8,11,15,16,17,18],[2,3,4,6,16,17]),([2,3,4,6,8,11,15,16,17,163],[2,3,4,6,16,17]),([4,5],[4]),([2,3,4,6,8,11,15,16],[2,3,4,6,16]),([2,3,4,6,8,11,15,16],[2,3,4,6,16]),([2,3,4,6,8,11,15],[2,3,4,6]),([4,5],[4])]
def Z0U(e:Edit)(t:Tree)(u x7 h s:Int)(d:List Int):LSt U:=(L2 [pL 2,pL 3,pL 4,pL 6,pI 7 x7,pI 8 u,pI 11 h,pI 12 s] [(.loc 2,(enc .edit e)),(.loc 3,(enc .tree t)),(.loc 4,[ci 0,.nils,.nils]),(.loc 6,[ci 1,sU .u64 d (.own (.l 6 1)),.nils])])
def Z5F(e:Edit)(t:Tree)(x8:Int)(u:List Int)(s h:Int)(d:List Tree):LSt U:=(L2 [pL 2,pL 3,pL 4,pL 6,pI 8 x8,pI 11 s,pI 15 h] [(.loc 2,(enc .edit e)),(.loc 3,(enc .tree t)),(.loc 4,[ci 0,.nils,.nils]),(.loc 6,[ci 1,sU .u64 u (.own (.l 6 1)),sU .tree d (.own (.l 6 2))])])
abbrev A66(N:Nat)(p:List Nat):=AW (Z2 (Zb4 N)) Tryz.f66 Zyc p
abbrev S66(N:Nat)(p:List Nat):=SW (Z2 (Zb4 N)) Tryz.f66 Zyc p
theorem ZHS(N:Nat)(e:Edit)(t:Tree)(Q:QT)(h:∀ s,s=(List.getD e.words (Int.toNat (((e.words.length:Int):Int) - 1)) (WEdit.mk 0 0 0 0))->∀ d,d=(List.getD e.kids (Int.toNat (((e.kids.length:Int):Int) - 1)) (KidOf.mk 0 Edit.nil))->let z5:=InR (((e.kids.length:Int):Int) - 1);let z3:=xB 0 (S66 N [1,1,1,1,1,1,1,1] Q);let z2:=A66 N [1,1,1,1,1,1,1,0,1,0,0];let z1:=decide ((0:Int) < (e.words.length:Int));let z0:=decide ((0:Int) < (e.kids.length:Int));let z4:=bif z0 then (decide (((t.kids.length:Int):Int)<=d.at_)) else false;(iB (t.kind !=1) ((Q .ret (L2 [pL 4,pB 5 false] [(.loc 4,[ci 0,.nils,.nils])]))) (((Tt z1)/\(Tt z1)/\(z1=true->InR (((e.words.length:Int):Int) - 1))/\(Tt z1)/\(Tt z1)/\(z1=true->(0:Int)<=(((e.words.length:Int):Int) - 1)/\(((e.words.length:Int):Int) - 1) < (e.words.length:Int))/\(Tt z1)/\(Tt z1)/\(Tt z1)/\(Tt z1)/\(Tt z1)/\(iB (bif z1 then (decide (((t.words.length:Int):Int)<=s.at_)) else false) ((InR (((e.words.length:Int):Int) - 1))/\((0:Int)<=(((e.words.length:Int):Int) - 1)/\(((e.words.length:Int):Int) - 1) < (e.words.length:Int))/\(InR (s.at_+1))/\((Tt z0)/\(Tt z0)/\(z0=true->InR (((e.kids.length:Int):Int) - 1))/\(Tt z0)/\(Tt z0)/\(z0=true->(0:Int)<=(((e.kids.length:Int):Int) - 1)/\(((e.kids.length:Int):Int) - 1) < (e.kids.length:Int))/\(Tt z0)/\(Tt z0)/\(Tt z0)/\(Tt z0)/\(Tt z0)/\(iB z4 (z5/\((0:Int)<=(((e.kids.length:Int):Int) - 1)/\(((e.kids.length:Int):Int) - 1) < (e.kids.length:Int))/\(InR (d.at_+1))/\(Zl z2 (Z0U e t (d.at_+1) (s.at_+1) 0 0 []) z3)) ((Zl z2 (Z0U e t (t.kids.length:Int) (s.at_+1) 0 0 []) z3))))) (((Tt z0)/\(Tt z0)/\(z0=true->InR (((e.kids.length:Int):Int) - 1))/\(Tt z0)/\(Tt z0)/\(z0=true->(0:Int)<=(((e.kids.length:Int):Int) - 1)/\(((e.kids.length:Int):Int) - 1) < (e.kids.length:Int))/\(Tt z0)/\(Tt z0)/\(Tt z0)/\(Tt z0)/\(Tt z0)/\(iB z4 (z5/\((0:Int)<=(((e.kids.length:Int):Int) - 1)/\(((e.kids.length:Int):Int) - 1) < (e.kids.length:Int))/\(InR (d.at_+1))/\(Zl z2 (Z0U e t (d.at_+1) (t.words.length:Int) 0 0 []) z3)) ((Zl z2 (Z0U e t (t.kids.length:Int) (t.words.length:Int) 0 0 []) z3)))))))))):
  A66 N [] (L2 [(0,.agg (enc .edit e)),(1,.agg (enc .tree t))] []) Q:=
 Eq.mpr V5 (h _ rfl _ rfl)
theorem Zwm(N:Nat)(e:Edit)(t:Tree)(x8 x7 aa d:Int)(s:List Int)(N0:NT)(Q:QT)(h:∀ ab,ab=t->∀ u,u=(e.words.getD aa.toNat (WEdit.mk 0 0 0 0))->let z0:=decide (aa < (e.words.length:Int));(iB (decide (d < x7)) ((Zei (ab,d,()))/\((Tt z0)/\(Tt z0)/\(Tt z0)/\(z0=true->(0:Int)<=aa/\aa < (e.words.length:Int))/\(Tt z0)/\(Tt z0)/\(Tt z0)/\(Tt z0)/\(Tt z0)/\(iB (bif z0 then (u.at_==d) else false) (((0:Int)<=aa/\aa < (e.words.length:Int))/\((ZbG (0,(Zw ab d),u.mask,()))/\(iB (((mix 0 (Zw ab d) u.mask):Int) !=u.old) ((Q .ret (L2 [pL 4,pB 5 false] [(.loc 4,[ci 0,.nils,.nils])]))) ((ZbG ((Zw ab d),u.new,u.mask,()))/\((InR (aa+1))/\(((s.length+([mix (Zw ab d) u.new u.mask]).length)*8<=140737488355328)/\((InR (d+1))/\(N0 (Z0U e t x8 x7 (aa+1) (d+1) (s++([mix (Zw ab d) u.new u.mask]))))))))))) (((s.length+([Zw ab d]).length)*8<=140737488355328)/\((InR (d+1))/\(N0 (Z0U e t x8 x7 aa (d+1) (s++([Zw ab d]))))))))) ((Zl (A66 N [1,1,1,1,1,1,1,1,1,0,1,0,0]) (Z5F e t x8 s 0 0 []) (xB 2 (S66 N [1,1,1,1,1,1,1,1,1,1] Q)))))):
  A66 N [1,1,1,1,1,1,1,0,1,0,0] (Z0U e t x8 x7 aa d s) (xT N0 (xB 0 (S66 N [1,1,1,1,1,1,1,1] Q))):=
 Eq.mpr V5 (h _ (Z0 _) _ rfl)
theorem Zwl(N:Nat)(e:Edit)(t:Tree)(x8:Int)(aa:List Int)(d u:Int)(s:List Tree)(N1:NT)(Q:QT)(h:∀ ai,ai=t->∀ ah,ah=(e.kids.getD d.toNat (KidOf.mk 0 Edit.nil))->∀ ae,ae=(ah.e)->∀ ab,ab=(ZI ai u)->∀ af,af=(Jn (doE true ae ab))->let z0:=decide (d < (e.kids.length:Int));(iB (decide (u < x8)) ((Zei (ai,u,()))/\((Tt z0)/\(Tt z0)/\(Tt z0)/\(z0=true->(0:Int)<=d/\d < (e.kids.length:Int))/\(Tt z0)/\(Tt z0)/\(Tt z0)/\(Tt z0)/\(Tt z0)/\(iB (bif z0 then (ah.at_==u) else false) (((0:Int)<=d/\d < (e.kids.length:Int))/\(Z3O (ae,ab,()))/\(Zfy (ae,ab,()) < N)/\(iB (!((doE true ae ab).isSome)) ((Q .ret (L2 [pL 4,pB 5 false] [(.loc 4,[ci 0,.nils,.nils])]))) (((InR (d+1))/\(((s.length+([af]).length)*56<=140737488355328)/\((InR (u+1))/\(N1 (Z5F e t x8 aa (d+1) (u+1) (s++([af])))))))))) (((s.length+([ab]).length)*56<=140737488355328)/\((InR (u+1))/\(N1 (Z5F e t x8 aa d (u+1) (s++([ab]))))))))) ((Q .ret (L2 [pL 4,pB 5 true] [(.loc 4,[ci 1,sU .u64 aa (.own (.l 4 1)),sU .tree s (.own (.l 4 2))])]))))):
  A66 N [1,1,1,1,1,1,1,1,1,0,1,0,0] (Z5F e t x8 aa d u s) (xT N1 (xB 2 (S66 N [1,1,1,1,1,1,1,1,1,1] Q))):=
 Eq.mpr V5 (h _ (Z0 _) _ rfl _ (Z8 _) _ (Z0 _) _ (Z0 _))
def ZEC(N:Nat)(e:Edit)(t:Tree):Prop:=AW (Z2 (Zb4 N)) Tryz.f66 Zyc [] (Zi (Zbk.can (e,t,())) []) (EQ Tryz.f66 (Z74 (e,t,())) [])
abbrev ZHf:Prop:=∀ (N:Nat) (e:Edit) (t:Tree) (_:Unit),Z4z (e,t,())->ZbQ (e,t,()) < N+1->ZEC N e t
def Zyb:Zg U:=lvk [([2,3,4],[2,3,4]),([2,3,4,18],[2,3,4]),([4,5],[4]),([2,3,4,6],[2,3,4,6]),([2,3,4,6,7],[2,3,4,6]),([2,3,4,6,7,8],[2,3,4,((.loc 6),[.any,.any,.own .tree])]),([2,3,4,6,7,8,27],[2,3,4,6]),([2,3,4,6,7,8],[2,3,4,((.loc 6),[.any,.any,.own .tree])]),([2,3,4,6,7,8,9],[2,3,4,6,9]),([2,3,4,6,7,8,9,10],[2,3,4,((.loc 6),[.any,.any,.own .tree]),9]),([2,3,4,6,7,8,9,10,43],[2,3,4,6,9]),([2,3,4,6,7,8,9,10],[2,3,4,((.loc 6),[.any,.any,.own .tree]),9]),([2,3,4,6,7,8,9,10,50],[2,3,4,6,9]),([4,5],[4]),([2,3,4,6,7,8,9,10],[2,3,4,6,9]),([2,3,4,6,7,8,9,10],[2,3,4,6,9]),([2,3,4,6,7,8,9,11],[2,3,4,((.loc 6),[.any,.any,.own .tree]),9]),([2,3,4,6,7,8,9,11,68],[2,3,4,6,9]),([2,3,4,6,7,8,9,11],[2,3,4,((.loc 6),[.any,.any,.own .tree]),9]),([2,3,4,6,7,8,9,11,73],[2,3,4,6,9]),([2,3,4,6,7,8,9,11],[2,3,4,6,9]),([2,3,4,6,7,8,9,11,102],[2,3,4,6,9]),([4,5],[4]),([2,3,4,6,7,8,9,11],[2,3,4,6,9]),([2,3,4,6,7,8,9,108],[2,3,4,6,9]),([2,3,4,6,7,8,9,113],[2,3,4,6,9]),([4,5],[4]),([2,3,4,6,7,8,12,13],[2,3,4,6,12]),([2,3,4,6,7,8,12,127],[2,3,4,6,12]),([4,5],[4]),([2,3,4,6,7,8],[2,3,4,6]),([2,3,4,6,7,8],[2,3,4,6]),([4,5],[4])]
def Z2N(e:Edit)(t:Tree)(s h:Int)(d:List Tree):LSt U:=(L2 [pL 2,pL 3,pL 4,pL 6,pI 7 s,pI 8 h] [(.loc 2,(enc .edit e)),(.loc 3,(enc .tree t)),(.loc 4,[ci 0,.nils,.nils]),(.loc 6,[ci t.kind,.nils,sU .tree d (.own (.l 6 2))])])
def Z2M(e:Edit)(t:Tree)(u s h:Int)(d:List Tree):LSt U:=(L2 [pL 2,pL 3,pL 4,pL 6,pI 7 s,pI 8 u,pL 9,pI 10 h] [(.loc 2,(enc .edit e)),(.loc 3,(enc .tree t)),(.loc 4,[ci 0,.nils,.nils]),(.loc 6,[ci t.kind,.nils,sU .tree d (.own (.l 6 2))]),(.loc 9,(enc .op (e.ops.getD u.toNat Op.nil)))])
def Z1D(e:Edit)(t:Tree)(u h s:Int)(d:List Tree):LSt U:=(L2 [pL 2,pL 3,pL 4,pL 6,pI 7 s,pI 8 u,pL 9,pI 11 h] [(.loc 2,(enc .edit e)),(.loc 3,(enc .tree t)),(.loc 4,[ci 0,.nils,.nils]),(.loc 6,[ci t.kind,.nils,sU .tree d (.own (.l 6 2))]),(.loc 9,(enc .op (e.ops.getD u.toNat Op.nil)))])
abbrev A67(N:Nat)(p:List Nat):=AW (Z2 (Zb4 N)) Tryz.f67 Zyb p
abbrev S67(N:Nat)(p:List Nat):=SW (Z2 (Zb4 N)) Tryz.f67 Zyb p
theorem ZHR(N:Nat)(e:Edit)(t:Tree)(Q:QT)(h:(iB (t.kind !=e.list) ((Q .ret (L2 [pL 4,pB 5 false] [(.loc 4,[ci 0,.nils,.nils])]))) ((Zl (A67 N [1,1,1,1,0,1,0,0]) (Z2N e t 0 0 []) (xB 0 (S67 N [1,1,1,1,1] Q)))))):
  A67 N [] (L2 [(0,.agg (enc .edit e)),(1,.agg (enc .tree t))] []) Q:=
 Eq.mpr V5 h
theorem Zwk(N:Nat)(e:Edit)(t:Tree)(u s:Int)(d:List Tree)(N0:NT)(Q:QT)(h:(iB (decide (s < (e.ops.length:Int))) (((0:Int)<=s/\s < (e.ops.length:Int))/\(Zl (A67 N [1,1,1,1,0,1,0,0,1,0,0,1,0,1,0,0]) (Z2M e t s u 0 d) (xB 2 (S67 N [1,1,1,1,0,1,0,0,1,0,0,1,1] (xB 1 (S67 N [1,1,1,1,0,1,0,0,1,1] (xT N0 (xB 0 (S67 N [1,1,1,1,1] Q))))))))) ((Q .ret (L2 [pL 4,pB 5 (u==(t.kids.length:Int))] [(.loc 4,[ci t.kind,.nils,sU .tree d (.own (.l 4 2))])]))))):
  A67 N [1,1,1,1,0,1,0,0] (Z2N e t u s d) (xT N0 (xB 0 (S67 N [1,1,1,1,1] Q))):=
 Eq.mpr V5 h
theorem Zct(N:Nat)(e:Edit)(t:Tree)(x8 s u:Int)(d:List Tree)(N1 N0:NT)(Q:QT)(h:∀ ab,ab=(e.ops.getD x8.toNat Op.nil)->∀ aa,aa=(t.kids.getD s.toNat Tree.nil)->let z0:=decide (u < ab.n);(Tt z0)/\(Tt z0)/\(Tt z0)/\(iB (bif z0 then (ab.kind==0) else false) ((iB (decide (((t.kids.length:Int):Int)<=s)) ((Q .ret (L2 [pL 4,pB 5 false] [(.loc 4,[ci 0,.nils,.nils])]))) (((0:Int)<=s/\s < (t.kids.length:Int))/\((d.length+([aa]).length)*56<=140737488355328)/\((InR (s+1))/\((InR (u+1))/\(N1 (Z2M e t x8 (s+1) (u+1) (d++([aa]))))))))) ((Zl (A67 N [1,1,1,1,0,1,0,0,1,0,0,1,1,0,1,0,0]) (Z1D e t x8 0 s d) (xB 4 (S67 N [1,1,1,1,0,1,0,0,1,0,0,1,1,1] (xB 1 (S67 N [1,1,1,1,0,1,0,0,1,1] (xT N0 (xB 0 (S67 N [1,1,1,1,1] Q))))))))))):
  A67 N [1,1,1,1,0,1,0,0,1,0,0,1,0,1,0,0] (Z2M e t x8 s u d) (xT N1 (xB 2 (S67 N [1,1,1,1,0,1,0,0,1,0,0,1,1] (xB 1 (S67 N [1,1,1,1,0,1,0,0,1,1] (xT N0 (xB 0 (S67 N [1,1,1,1,1] Q)))))))):=
 Eq.mpr V5 (h _ rfl _ (Z0 _))
theorem Zcs(N:Nat)(e:Edit)(t:Tree)(x8 s u:Int)(d:List Tree)(N2 N0:NT)(Q:QT)(h:∀ aa,aa=(e.ops.getD x8.toNat Op.nil)->∀ ak,ak=(t.kids.getD u.toNat Tree.nil)->∀ ab,ab=ak->∀ af,af=(aa.e)->∀ aj,aj=(aa.l.getD s.toNat Tree.nil)->∀ ae,ae=aj->∀ ai,ai=(Jn (doE true af ab))->let z1:=(Q .ret (L2 [pL 4,pB 5 false] [(.loc 4,[ci 0,.nils,.nils])]));let z0:=decide (((t.kids.length:Int):Int)<=u);(iB (decide (s < (aa.l.length:Int))) ((iB (aa.kind==2) (((0:Int)<=s/\s < (aa.l.length:Int))/\((d.length+([ae]).length)*56<=140737488355328)/\((InR (s+1))/\(N2 (Z1D e t x8 (s+1) u (d++([ae])))))) ((Tt (!z0))/\(Tt (!z0))/\(Tt (!z0))/\((!z0)=true->(0:Int)<=u/\u < (t.kids.length:Int))/\(Tt (!z0))/\(Tt (!z0))/\(Tt (!z0))/\(Tt (!z0))/\((!z0)=true->(0:Int)<=s/\s < (aa.l.length:Int))/\(Tt (!z0))/\(Tt (!z0))/\(Tt (!z0))/\((!z0)=true->Z39 (ab,ae,()))/\(Tt (!z0))/\(z0=false->(!z0)=true)/\(iB (bif z0 then true else (!(Yd (Z3 ab) (Z3 ae)))) z1 ((InR (u+1))/\((InR (s+1))/\(N2 (Z1D e t x8 (s+1) (u+1) d)))))))) ((iB (aa.kind==3) ((iB z0 z1 (((0:Int)<=u/\u < (t.kids.length:Int))/\(Z3O (af,ab,()))/\(Zfy (af,ab,()) < N)/\(iB (!((doE true af ab).isSome)) z1 (((d.length+([ai]).length)*56<=140737488355328)/\((InR (u+1))/\((InR (x8+1))/\(N0 (Z2N e t (u+1) (x8+1) (d++([ai]))))))))))) ((InR (x8+1))/\(N0 (Z2N e t u (x8+1) d))))))):
  A67 N [1,1,1,1,0,1,0,0,1,0,0,1,1,0,1,0,0] (Z1D e t x8 s u d) (xT N2 (xB 4 (S67 N [1,1,1,1,0,1,0,0,1,0,0,1,1,1] (xB 1 (S67 N [1,1,1,1,0,1,0,0,1,1] (xT N0 (xB 0 (S67 N [1,1,1,1,1] Q)))))))):=
 Eq.mpr V5 (h _ rfl _ rfl _ (Z0 _) _ (Z8 _) _ rfl _ (Z0 _) _ (Z0 _))
def ZEB(N:Nat)(e:Edit)(t:Tree):Prop:=AW (Z2 (Zb4 N)) Tryz.f67 Zyb [] (Zi (Zbk.can (e,t,())) []) (EQ Tryz.f67 (Z8H (e,t,())) [])
abbrev ZHe:Prop:=∀ (N:Nat) (e:Edit) (t:Tree) (_:Unit),Z4y (e,t,())->ZbQ (e,t,()) < N+1->ZEB N e t
theorem Zxu(c34:CT 34 Jr)(c25:CT 25 YX)(ZDG:CT 102 Z64)(c91:CT 91 Z4m)(ZDF:CT 103 Z63)(b35:ZHm)(b66:ZHf)(b67:ZHe):
  CT 35 ZaA/\CT 66 ZrT/\CT 67 ZrS:=by
 have aa:FK 35:=⟨Tryz.f35,Tryz.func35,rfl,rfl⟩
 have u:FK 66:=⟨Tryz.f66,Tryz.func66,rfl,rfl⟩
 have s:FK 67:=⟨Tryz.f67,Tryz.func67,rfl,rfl⟩
 have d:∀ N,CT 35 (fs Zbk (fun a=> [Z3O a,Zfy a < N]) Z75)/\CT 66 (fs Zbk (fun a=> [Z4z a,ZbQ a < N]) Z74)/\CT 67 (fs Zbk (fun a=> [Z4y a,ZbQ a < N]) Z8H):=by
  intro N
  induction N with
  | zero=> exact ⟨YQ aa,YQ u,YQ s⟩
  | succ N ih=>
   have kn:=Z03 (l:=Zb4 N) ⟨ih.1,ih.2.1,ih.2.2,c34,c25,ZDG,c91,ZDF,trivial⟩
   exact ⟨ZC (Γ:=Z2 (Zb4 N)) Zk rfl kn ZCS Tryz.func35 rfl rfl (fun a=> by show 2<=_;decide) (fun ⟨e,t,_⟩ h=> b35 N e t () h.1 h.2.1),
    ZC (Γ:=Z2 (Zb4 N)) Zk rfl kn Zyc Tryz.func66 rfl rfl (fun a=> by show 2<=_;decide) (fun ⟨e,t,_⟩ h=> b66 N e t () h.1 h.2.1),
    ZC (Γ:=Z2 (Zb4 N)) Zk rfl kn Zyb Tryz.func67 rfl rfl (fun a=> by show 2<=_;decide) (fun ⟨e,t,_⟩ h=> b67 N e t () h.1 h.2.1)⟩
 exact ⟨YR aa fun N=> (d N).1,YR u fun N=> (d N).2.1,YR s fun N=> (d N).2.2⟩
end
theorem Zv3:Contract Tryz.prog cfg 64 Z3I:=by
 refine Ztn ?_
 intro l _ d
 simp only [Zjt] at d
 refine ZBb _ _ ⟨fun h=> ?_,fun _=> ⟨by simp only [Qj];omega,?_⟩⟩
 .subst h
  simp only [Z8G]
  exact V1
 .simp only [Z8G]
  exact V1
theorem ZDs:Contract Tryz.prog cfg 139 Z5Z:=by
 refine ZxP ?_
 intro l _ d
 simp only [Zed] at d
 refine ZFV _ _ ⟨fun h=> ?_,fun _=> ⟨by simp only [Qj];omega,?_⟩⟩
 .subst h
  simp only [ZcA]
  exact V1
 .simp only [ZcA]
  exact V1
theorem ZfV{α:Type}(z:α){l:List α}{i:Nat}(h:i < l.length)(x:α):Y4 z l i x=l.set i x:=by
 simp only [Y4];rw [show i+1 - l.length=0 by omega];simp
theorem Zbu{α:Type}(z:α){l:List α}{i:Nat}(h:l.length<=i)(x:α):Y4 z (l++[z]) i x=Y4 z l i x:=by
 simp only [Y4,Qa,Q8,Ql]
 rw [show i+1 - l.length=(i+1 - (l.length+1))+1 by omega,XU]
 try rfl
theorem Ztj(t:Tree):t.words.length+Ze t.kids+1=Zh t:=by obtain ⟨k,w,ks⟩:=t;simp only [Zh,Tree.words_mk,Tree.kids_mk];omega
theorem Zhe{t:Tree}(h:rng t):InR t.kind/\(∀ x∈t.words,isW x)/\Ya t.kids:=by obtain ⟨k,w,ks⟩:=t;exact h
theorem Zcx{ks:List Tree}(h:Ya ks)(i:Nat):rng (ks.getD i Tree.nil):=by
 by_cases hi:i < ks.length
 .exact Jh h (Zb hi _)
 .rw [Q9,Qp V0]
  trivial
theorem Z3T(ks:List Tree)(i:Nat):Zh (ks.getD i Tree.nil)<=Ze ks+1:=by
 by_cases hi:i < ks.length
 .have:=Y2 (Zb hi Tree.nil);omega
 .rw [Q9,Qp V0]
  simp [Tree.nil,Zh,Ze]
theorem Zb5(t:Tree){i:Int}(h:0<=i):ZI t i=t.kids.getD i.toNat Tree.nil:=by unfold ZI;grind
theorem Z4j(t:Tree){i:Int}(h:0<=i):Zw t i=t.words.getD i.toNat 0:=by unfold Zw;omega
theorem ZmZ{l:List Int}(h:∀ x∈l,isW x)(i:Nat):isW (l.getD i 0):=by
 by_cases hi:i < l.length
 .grind
 .rw [Q9,Qp V0];trivial
theorem b63:ZHg:=by
 intro N e t _ hp hN
 simp only [Z3O,Zfy] at hp hN
 obtain ⟨⟨p1,p2,d,p3⟩,p4,p5⟩:=hp
 have h1:=ZY e
 have h2:=Z1Y p2
 have u:=Z0X false e t
 rw [Jj] at u
 refine ZHV _ _ _ _ ?_
 rintro y1 ah y2 ai y3 aj
 subst ah ai aj
 (simp only [iB,vcT,vcS])
 refine ⟨fun hk=> ?_,fun hk=> ⟨fun h=> ⟨by simp only [Z39];omega,?_⟩,fun h=> ⟨fun s=> ⟨by simp only [Z4z];grind,by simp only [ZbQ];omega,?_⟩,fun s=> ⟨fun ab=> ⟨by simp only [Z4y];grind,by simp only [ZbQ];omega,?_⟩,fun ab=> ?_⟩⟩⟩⟩
 .rw [if_pos hk] at u
  simp only [Z5d,Zcl,if_pos hk,u]
  exact V1
 .rw [if_neg hk,if_pos h] at u
  simp only [Z5d,Zcl,if_neg hk,if_pos h,u]
  cases Yd (Z3 y1.old) (Z3 y2) <;> (repeat' (first | exact trivial | exact rfl | apply And.intro))
 .rw [if_neg hk,if_neg h,if_pos s] at u
  simp only [Z5d,Zcl,if_neg hk,if_neg h,if_pos s,u]
  exact V1
 .rw [if_neg hk,if_neg h,if_neg s,if_pos ab] at u
  simp only [Z5d,Zcl,if_neg hk,if_neg h,if_neg s,if_pos ab,u]
  have e2:(if y2.kind=y1.list then (Z25 (ZR false y1.ops y2.kids [])).map fun b=> Tree.mk y1.list [] b else none).isSome=(Z25 (Z0m false y1 y2)).isSome:=by
   unfold Z0m
   split
   .grind
   .try rfl
  rw [e2]
  exact V1
 .rw [if_neg hk,if_neg h,if_neg s,if_neg ab] at u
  simp only [Z5d,Zcl,if_neg hk,if_neg h,if_neg s,if_neg ab,u]
  exact V1
theorem ZDS:ZB4:=by
 intro N e t _ hp hN
 simp only [Z4z,ZbQ] at hp hN
 obtain ⟨k2,⟨p1,p2,d,p3⟩,p4,p5⟩:=hp
 have h1:=ZY e
 have h2:=ZW e.kids
 have h3:=Ztj t
 have h4:=Zs t.kids
 have r2:=Z1Y p2
 have rt:=Zhe p5
 have ri:=ZH p3
 refine ZGi _ _ _ _ ?_
 (simp only [iB,vcT,vcS])
 have no:Z2q false e t=none->ZF cfg Tryz.f100.ntmps Tryz.f100.results.toList (Z4v (e,t,())) [] .ret (⟨[(4,.ptr (.loc 4) 0),(5,.c (.bool false))],[((.loc 4),[.int .i64 0,.nils,.nils])],[]⟩:LSt U):=by
  intro hs
  simp only [Z4v,hs]
  exact V1
 refine ⟨fun hk=> no (by unfold Z2q;rw [if_neg hk]),fun hk=> ?_⟩
 have hk:t.kind=1:=by simpa using hk
 refine ⟨by simp only [Zjt];omega,by simp only [Zed];omega,?_⟩
 refine Z4 (ι:=Int × List Int) (fun s=> Z6M e t s.1 s.2) (fun s=> 0<=s.1/\s.1<=e.words.length/\wsD t.words (e.words.drop s.1.toNat) s.2=wsD t.words e.words t.words/\s.2.length<=t.words.length+65536) (fun s=> ((e.words.length:Int) - s.1).toNat) (0,t.words) rfl ⟨by simp,by simp,by simp,by simp⟩ ?_
 rintro ⟨i,out⟩ ⟨f1,f2,f3,f4⟩
 dsimp only at f1 f2 f3 f4
 refine ZrJ _ _ _ _ _ _ _ ?_
 rintro y1 al y2 ae
 subst al
 (simp only [iB,vcT,vcS])
 refine ⟨fun hi=> ?_,fun hi=> ?_⟩
 .have h:=Zb (l:=e.words) (i:=i.toNat) V0 (WEdit.mk 0 0 0 0)
  rw [Y1 f1 hi (WEdit.mk 0 0 0 0),<-ae] at f3
  rw [<-ae] at h
  have hw:=Yw ri.words y2 h
  obtain ⟨g1,g2,g3,g4⟩:=r2.2.2.2.1 y2 h
  have ah:Zw y1 y2.at_=y1.words.getD y2.at_.toNat 0:=Z4j y1 V0
  have a7:=ZmZ rt.2.1 y2.at_.toNat
  rw [wsD] at f3
  rw [ah]
  unfold isW at g3 g4 a7
  refine ⟨⟨f1,hi⟩,by simp only [Z4O],by simp only [ZbG];omega,fun ai=> no ?_,fun af=> ?_⟩
  .rw [if_neg ai] at f3
   unfold Z2q
   rw [if_pos hk,<-f3]
   try rfl
  .have af:mix 0 (y1.words.getD y2.at_.toNat 0) y2.mask=y2.old:=by simpa using af
   rw [if_pos af] at f3
   refine Z4 (ι:=List Int) (fun s=> Z6L e y1 i s) (fun s=> (∀ v,Y4 0 s y2.at_.toNat v=Y4 0 out y2.at_.toNat v)/\s.length<=y1.words.length+65536) (fun s=> (y2.at_+1 - s.length).toNat) out rfl ⟨fun v=> rfl,f4⟩ ?_
   rintro s ⟨q1,q2⟩
   refine ZrI _ _ _ _ _ _ _ _ ?_
   (simp only [vE])
   rw [<-ae,ah]
   (simp only [iB,vcT,vcS])
   refine ⟨fun hl=> ⟨by simp;omega,s++[0],rfl,⟨fun v=> ?_,by simp;omega⟩,by simp;omega⟩,fun hl=> ?_⟩
   .rw [Zbu 0 V0,q1]
   .have hl:y2.at_ < s.length:=V0
    refine ⟨by simp only [ZbG];omega,V0,V0,V4,(i+1,s.set y2.at_.toNat (mix (y1.words.getD y2.at_.toNat 0) y2.new y2.mask)),rfl,⟨V3,V3,?_,by simp only [List.length_set];omega⟩,V3⟩
    dsimp only
    rw [<-f3,<-ZfV 0 V0,q1]
 .rw [Q6 V0,wsD] at f3
  refine Z4 (ι:=Int × List Tree) (fun s=> Z6K e y1 out s.1 s.2) (fun s=> 0<=s.1/\s.1<=e.kids.length/\JV false y1.kids (e.kids.drop s.1.toNat) s.2=JV false y1.kids e.kids y1.kids/\s.2.length<=y1.kids.length+65536) (fun s=> ((e.kids.length:Int) - s.1).toNat) (0,y1.kids) rfl ⟨by simp,by simp,by simp,by simp⟩ ?_
  rintro ⟨j,ks⟩ ⟨e1,e2,e3,e4⟩
  dsimp only at e1 e2 e3 e4
  refine ZrH _ _ _ _ _ _ _ _ ?_
  rintro y1 al y2 ae y3 ao y4 ak
  subst al
  (simp only [iB,vcT,vcS])
  refine ⟨fun hj=> ?_,fun hj=> ?_⟩
  .have h:=Zb (l:=e.kids) (i:=j.toNat) V0 (KidOf.mk 0 Edit.nil)
   rw [Y1 e1 hj (KidOf.mk 0 Edit.nil),<-ae] at e3
   rw [<-ae] at h
   have ar:=ZP ri.kids y2 h
   have hm:=YE h
   have a5:=Zfc h
   have bl:=Z2R e
   have hr:=(Yq r2.2.2.2.2.2.1 h).2
   have ah:ZI y1 y2.at_=y1.kids.getD y2.at_.toNat Tree.nil:=Zb5 y1 V0
   rw [ah] at ak
   have a4:=Z3T y1.kids y2.at_.toNat
   have ax:=Zcx rt.2.2 y2.at_.toNat
   rw [JV,Zf6,<-ak,<-ao] at e3
   rw [<-ak] at a4 ax
   rw [<-ao] at hm hr ar a5
   refine ⟨⟨e1,hj⟩,by simp only [Z4O],by simp only [Z3O];exact ⟨⟨V0,hr,_,ar.2⟩,V0,ax⟩,by simp only [Zfy];omega,fun ai=> no ?_,fun af=> ?_⟩
   .have ai:doE false y3 y4=none:=by simpa using ai
    rw [ai] at e3
    unfold Z2q
    rw [if_pos hk,<-f3,<-e3]
    try rfl
   .obtain ⟨u,hu⟩:=Qy.1 af
    rw [hu,Qg] at e3
    refine Z4 (ι:=List Tree) (fun s=> Z6J e y1 out j s) (fun s=> (∀ v,Y4 Tree.nil s y2.at_.toNat v=Y4 Tree.nil ks y2.at_.toNat v)/\s.length<=y1.kids.length+65536) (fun s=> (y2.at_+1 - s.length).toNat) ks rfl ⟨fun v=> rfl,e4⟩ ?_
    rintro s ⟨q1,q2⟩
    refine ZrG _ _ _ _ _ _ _ _ _ ?_
    rintro z1 a2 z2 ay z3 av z4 aw z5 au
    rw [<-ae] at ay
    subst a2 ay
    rw [<-ao] at av
    subst av
    rw [ah,<-ak] at aw
    subst aw
    rw [ZaM hu] at au
    subst au
    (simp only [iB,vcT,vcS])
    refine ⟨fun hl=> ⟨by simp;omega,s++[Tree.nil],rfl,⟨fun v=> ?_,by simp;omega⟩,by simp;omega⟩,fun hl=> ?_⟩
    .rw [Zbu Tree.nil V0,q1]
    .have hl:z2.at_ < s.length:=V0
     refine ⟨V0,V0,V4,(j+1,s.set z2.at_.toNat z5),rfl,⟨V3,V3,?_,by simp only [List.length_set];omega⟩,V3⟩
     dsimp only
     rw [<-e3,<-ZfV Tree.nil V0,q1]
  .rw [Q6 V0,JV] at e3
   have hs:Z2q false e y1=some (.mk 1 out ks):=by
    unfold Z2q
    rw [if_pos hk,<-f3,<-e3]
    try rfl
   simp only [Z4v,hs]
   exact V1
theorem ZgH(r:Bool)(o:Op)(s:List Op)(rest out:List Tree):ZR r (o ::s) rest out=(Z2P r o rest out).bind fun x=> ZR r s x.2 x.1:=by rw [ZR]
theorem Z2g{ks:List Tree}(h:Ya ks)(n:Nat):Ya (ks.drop n):=by
 induction n generalizing ks with
 | zero=> exact h
 | succ n ih=> cases ks with
  | nil=> exact h
  | cons a r=> exact ih h.2
theorem ZDR:ZB3:=by
 intro N e t _ hp hN
 simp only [Z4y,ZbQ] at hp hN
 obtain ⟨k3,⟨p1,p2,d,p3⟩,p4,p5⟩:=hp
 have h1:=ZY e
 have h2:=ZM e.ops
 have h3:=Ztj t
 have h4:=Zs t.kids
 have r2:=Z1Y p2
 have rt:=Zhe p5
 have ri:=ZH p3
 refine ZGh _ _ _ _ ?_
 (simp only [iB,vcT,vcS])
 have no:Z0m false e t=none->ZF cfg Tryz.f101.ntmps Tryz.f101.results.toList (Z4u (e,t,())) [] .ret (⟨[(4,.ptr (.loc 4) 0),(5,.c (.bool false))],[((.loc 4),[.int .i64 0,.nils,.nils])],[]⟩:LSt U):=by
  intro hs
  simp only [Z4u,hs]
  exact V1
 refine ⟨fun hk=> no (by unfold Z0m;rw [if_neg hk]),fun hk=> ?_⟩
 have hk:t.kind=e.list:=by simpa using hk
 have bi:Z0m false e t=ZR false e.ops t.kids []:=by unfold Z0m;rw [if_pos hk]
 refine Z4 (ι:=Int × List Tree × List Tree) (fun s=> Z1l e t s.1 s.2.2 s.2.1)
  (fun s=> 0<=s.1/\s.1<=e.ops.length/\ZR false (e.ops.drop s.1.toNat) s.2.2 s.2.1=Z0m false e t/\s.2.1.length+s.2.2.length+Zj (e.ops.drop s.1.toNat)<=t.kids.length+Zj e.ops/\Ze s.2.2<=Ze t.kids/\Ya s.2.2)
  (fun s=> ((e.ops.length:Int) - s.1).toNat) (0,[],t.kids) rfl ⟨by simp,by simp,by simp [bi],by simp,by simp,rt.2.2⟩ ?_
 rintro ⟨i,out,aa⟩ ⟨f1,f2,f3,f4,f5,f6⟩
 dsimp only at f1 f2 f3 f4 f5 f6
 refine ZrE _ _ _ _ _ _ _ _ ?_
 rintro y1 aj
 (simp only [iB,vcT,vcS])
 refine ⟨fun hi=> ?_,fun hi=> ?_⟩
 .have af:=Zb (l:=e.ops) (i:=i.toNat) V0 Op.nil
  rw [Y1 f1 hi Op.nil,<-aj] at f3 f4
  rw [<-aj] at af
  have hr:=Go.AM.rightOs_mem ri.ops y1 af
  have hm:=ZL af
  have bo:=Zam af
  have b7:=Z2R e
  have bm:=ZG y1
  have a8:=J4 (J0 r2.2.2.2.2.2.2 af)
  have b6:=Zs y1.l
  simp only [Zj] at f4
  rw [ZgH,Yu] at f3
  have go:∀ (x:List Tree) (m:List Tree) (v:V U) N0 Q',ZR false (e.ops.drop (i+1).toNat) x m=Z0m false e t->m.length+x.length+Zj (e.ops.drop (i+1).toNat)<=t.kids.length+Zj e.ops->Ze x<=Ze t.kids->Ya x->
    (∀ s2,s2=Z1l e t (i+1) x m->N0 s2)->Zbm N [1,1,1,1,0,1,0,0,1,1,1] (Z2n e t i x m v) (AExit.then N0 (AExit.inBlock 0 (ZiB N [1,1,1,1,1] Q'))):=by
   intro x m v N0 Q' a1 a2 a3 a4 a5
   exact ZrF _ _ _ _ _ _ _ _ _ ⟨V4,a5 _ rfl⟩
  have fin:∀ (x m:List Tree),ZR false (e.ops.drop (i+1).toNat) x m=Z0m false e t->m.length+x.length+Zj (e.ops.drop (i+1).toNat)<=t.kids.length+Zj e.ops->Ze x<=Ze t.kids->Ya x->∀ s2,s2=Z1l e t (i+1) x m->
    ∃ j:Int × List Tree × List Tree,s2=Z1l e t j.1 j.2.2 j.2.1/\(0<=j.1/\j.1<=e.ops.length/\ZR false (e.ops.drop j.1.toNat) j.2.2 j.2.1=Z0m false e t/\j.2.1.length+j.2.2.length+Zj (e.ops.drop j.1.toNat)<=t.kids.length+Zj e.ops/\Ze j.2.2<=Ze t.kids/\Ya j.2.2)/\((e.ops.length:Int) - j.1).toNat < ((e.ops.length:Int) - i).toNat:=by
   rintro x m a1 a2 a3 a4 _ rfl
   exact ⟨(i+1,m,x),rfl,⟨V3,V3,a1,a2,a3,a4⟩,V3⟩
  have r1:=ZJ hr
  have ht:∀ n:Nat,(aa.take n).length<=aa.length/\(aa.take n).length+(aa.drop n).length=aa.length:=by
   intro n
   simp only [Qm,QY];omega
  refine ⟨⟨f1,hi⟩,fun ak=> ⟨V0,?_⟩,fun ak=> ⟨fun ah=> ?_,fun ah=> ⟨fun ao=> ?_,fun ao=> ?_⟩⟩⟩
  .rw [JC,JC,if_pos ak,Qg] at f3
   exact go _ _ _ _ _ f3 (by simp only [Qa];omega) f5 f6 (fin _ _ f3 (by simp only [Qa];omega) f5 f6)
  .refine ZcS _ _ _ _ _ _ _ _ _ _ ?_
   rintro z1 ae z2 ay z3 aw z4 aq z5 al z6 ar
   rw [<-aj] at ae
   subst ae
   rw [JC,if_pos ah] at f3
   (simp only [iB,vcT,vcS])
   rw [QR] at al
   rw [QR]
   refine ⟨fun hs=> no ?_,fun hs=> ⟨V0,V0,fun h=> by omega,fun _=> ⟨fun _=> ⟨?_,fun hq=> no ?_,fun hq=> ?_⟩,fun h=> absurd ah h⟩⟩⟩
   .have:Je z1.l aa=false:=by unfold Je;rw [decide_eq_false V0];try rfl
    rw [this,if_neg (by simp)] at f3
    exact f3.symm
   .have:=ZeI z1.l.length aa
    simp only [Zec];omega
   .have:Je z1.l aa=false:=by unfold Je;rw [<-al,hq];simp
    rw [this,if_neg (by simp)] at f3
    exact f3.symm
   .have:Je z1.l aa=true:=by unfold Je;rw [<-al,hq,decide_eq_true V0];try rfl
    rw [this,if_pos rfl,Qg] at f3
    have hd:=Z2G z1.l.length aa
    have ba:=ht z1.l.length
    exact go _ _ _ _ _ f3 V0 V0 (Z2g f6 _) (fin _ _ f3 V0 V0 (Z2g f6 _))
  .refine ZcS _ _ _ _ _ _ _ _ _ _ ?_
   rintro z1 ae z2 ay z3 aw z4 aq z5 al z6 ar
   rw [<-aj] at ae
   subst ae
   rw [JC,if_neg ah,if_neg ak] at f3
   (simp only [iB,vcT,vcS])
   rw [show Int.toNat 1=1 from rfl]
   refine ⟨fun hs=> no ?_,fun hs=> ⟨V0,V0,fun h=> by omega,fun _=> ⟨fun h=> absurd h ah,fun _=> ?_⟩⟩⟩
   .rw [YC] at f3
    exact f3.symm
   .have hz:z3=aa.getD 0 Tree.nil:=by
     rw [aw,ay]
     cases aa with
     | nil=> rfl
     | cons a r=> rfl
    rw [JC,<-hz,<-aq] at f3
    have bl:=Z3T aa 0
    have a9:=Zcx f6 0
    rw [<-hz] at bl a9
    have bb:=Z0w hr ao
    rw [<-aq] at bb bm a8 bo
    refine ⟨?_,by simp only [Z3O];exact ⟨⟨V0,a8.2.2.2,_,bb⟩,V0,a9⟩,by simp only [Zfy];omega,fun av=> no ?_,fun bj=> ?_⟩
    .simp only [Qm];omega
    .have av:doE false z4 z3=none:=by simpa using av
     rw [av] at f3
     exact f3.symm
    .obtain ⟨u,hu⟩:=Qy.1 bj
     rw [ZaM hu] at ar
     subst ar
     rw [hu,Qf,Qg] at f3
     have hd:=Z2G 1 aa
     have ba:=ht 1
     have cb:(aa.take 1).length=1:=by simp only [Qm];omega
     refine ⟨by simp only [Q8];omega,?_⟩
     exact go _ _ _ _ _ f3 (by simp only [Qa,Q8];omega) V0 (Z2g f6 _) (fin _ _ f3 (by simp only [Qa,Q8];omega) V0 (Z2g f6 _))
  .have ax:y1.kind=0:=by cases r1 <;> first | rfl | (exfalso;simp at ah ak ao)
   refine ZcS _ _ _ _ _ _ _ _ _ _ ?_
   rintro z1 ae z2 ay z3 aw z4 aq z5 al z6 ar
   rw [<-aj] at ae
   subst ae
   rw [if_pos ax] at f3
   have hn:1<=z1.n/\z1.n<=1048576:=by cases r1 <;> first | (constructor <;> assumption) | (exfalso;simp at ah ak ao ax)
   (simp only [iB,vcT,vcS])
   refine ⟨fun hs=> no ?_,fun hs=> ⟨V0,V0,fun _=> ⟨?_,?_⟩,fun h=> absurd ax h⟩⟩
   .rw [JC] at f3
    exact f3.symm
   .have:=(ht z1.n.toNat).1
    omega
   .rw [YC,Qg] at f3
    have hd:=Z2G z1.n.toNat aa
    have ba:=ht z1.n.toNat
    exact go _ _ _ _ _ f3 (by simp only [Qa];omega) V0 (Z2g f6 _) (fin _ _ f3 (by simp only [Qa];omega) V0 (Z2g f6 _))
 .rw [Q6 V0,ZR] at f3
  simp only [Z4u,<-f3,ZhQ,Z25,Qg,hk]
  by_cases hr:aa.length=0
  .rw [if_pos hr,hr]
   exact V1
  .rw [if_neg hr,show ((aa.length:Int)==0)=false by rw [beq_eq_false_iff_ne];omega]
   exact V1
theorem ZIG:Contract Tryz.prog cfg 63 Zay/\Contract Tryz.prog cfg 100 Znf/\Contract Tryz.prog cfg 101 Zne:=Zxs c47 c81 c45 ZDr ZDs Zif Zv3 b63 ZDS ZDR
theorem c63:Contract Tryz.prog cfg 63 Zay:=ZIG.1
theorem ZuT{r:Bool}{e:Edit}{t u:Tree}(s:∃ d,Z6 e d=true)(ht:Zh t+ctE e<=200000000000)(h:doE r e t=some u):Zh u<=1000000000000:=by
 obtain ⟨d,s⟩:=s
 have:=Z6r r e d t u s h
 omega
theorem c32:Contract Tryz.prog cfg 32 Z1H:=by
 refine ZCd c33 c63 ?_
 intro e t _ h
 simp only [Z3O] at h
 refine ZIj _ _ _ ?_
 rintro y1 ae y2 s y3 d
 subst ae s
 (simp only [iB,vcT,vcS])
 refine ⟨by simp only [Z3O];exact h,fun hn=> ?_,fun hs=> ?_⟩
 .have hn:doE false y1 y2=none:=by simpa using hn
  simp only [ZnF,hn]
  exact V1
 .obtain ⟨u,hu⟩:=Qy.1 hs
  rw [ZaM hu] at d
  subst d
  have:=ZuT h.1.2.2 h.2.1 hu
  refine ⟨by simp only [Jv];exact this,?_⟩
  simp only [ZnF,hu]
  exact V1
theorem ZDG:Contract Tryz.prog cfg 102 Z64:=by
 refine Zy6 ?_
 intro t i _ d
 simp only [Zei] at d
 refine ZGg _ _ _ ?_
 (simp only [iB,vcT,vcS])
 refine ⟨fun h=> ⟨⟨d,h⟩,Y3 rfl (Z4j t d).symm⟩,fun h=> Y3 rfl ?_⟩
 rw [Z4j t d,Q9,Qp V0]
 try rfl
theorem ZDF:Contract Tryz.prog cfg 103 Z63:=by
 refine Zy5 ?_
 intro t i _ d
 simp only [Zei] at d
 have s:=Zb5 t d
 refine ZGf _ _ _ ?_
 (simp only [iB,vcT,vcS])
 simp only [ZnC,s]
 refine ⟨fun h=> ⟨⟨d,h⟩,?_⟩,fun h=> ?_⟩
 ·exact V1
 .rw [Q9,Qp V0]
  exact V1
theorem ZtW{r:Bool}{e:Edit}{t:Tree}{l:List Tree}(h:Z25 (Z0m r e t)=some l):ZhQ e (Z0m r e t)= .mk e.list [] l:=by
 unfold Z25 at h
 obtain ⟨x,s,d⟩:=Qo.1 h
 rw [s]
 split at d
 .cases d;rfl
 .cases d
theorem b35:ZHm:=by
 intro N e t _ hp hN
 simp only [Z3O,Zfy] at hp hN
 obtain ⟨⟨p1,p2,d,p3⟩,p4,p5⟩:=hp
 have h1:=ZY e
 have ri:=ZH p3
 have hd:=Z6P true e t
 have hm:=Z9b true e d t
 refine ZIg _ _ _ _ ?_
 rintro y1 aq y2 au y3 ax y4 ar y5 aw y6 ao
 subst aq au ax ar
 (simp only [iB,vcT,vcS])
 simp only [iB,vcF]
 have aa:∀ v,Zfw true y1 y2=some v->Zh v<=1000000000000:=fun v hv=> by grind
 have no:Zfw true y1 y2=none->ZF cfg Tryz.f35.ntmps Tryz.f35.results.toList (Z75 (y1,y2,())) [] .ret (⟨[(4,.ptr (.loc 4) 0),(5,.c (.bool false))],[((.loc 4),[.int .i64 0,.nils,.nils])],[]⟩:LSt U):=by
  intro h
  rw [h] at hd
  simp only [Z75,hd]
  exact V1
 have s:∀ v,Zfw true y1 y2=some v->ZF cfg Tryz.f35.ntmps Tryz.f35.results.toList (Z75 (y1,y2,())) [] .ret (⟨[(4,.ptr (.loc 4) 0),(5,.c (.bool true))],[((.loc 4),[.int .i64 (Tree.kind (Z3 v)),.slice (U:=U) .u64 (Tree.words (Z3 v)) .unk,.slice (U:=U) .tree (Tree.kids (Z3 v)) .unk])],[]⟩:LSt U):=by
  intro v h
  rw [h] at hd
  simp only [Z75,hd]
  exact V1
 unfold Zfw at aa no s
 refine ⟨fun hk=> ?_,fun hk=> ⟨fun af=> ?_,fun af=> ⟨fun aj=> ?_,fun aj=> ⟨fun al=> ?_,fun al=> ?_⟩⟩⟩⟩
 .rw [if_pos hk] at aa no s
  exact ⟨by simp only [Jv];omega,s _ rfl⟩
 .rw [if_neg hk,if_pos af] at aa no s
  refine ⟨by simp only [Z39];omega,fun hs=> no (by rw [hs];rfl),fun hs=> ?_⟩
  rw [if_pos hs] at aa s
  exact ⟨by simp only [Jv];omega,s _ rfl⟩
 .rw [if_neg hk,if_neg af,if_pos aj] at aa no s
  refine ⟨by simp only [Z4z];grind,by simp only [ZbQ];omega,fun hs=> no ?_,fun hs=> ?_⟩
  .have hs:Z2q true y1 y2=none:=by simpa using hs
   exact hs
  .obtain ⟨u,hu⟩:=Qy.1 hs
   have e5:y5=u:=by rw [aw,hu];try rfl
   subst e5
   exact ⟨by simp only [Jv];exact aa _ hu,s _ hu⟩
 .rw [if_neg hk,if_neg af,if_neg aj,if_pos al] at aa no s
  have e2:∀ o,Z25 (Z0m true y1 y2)=o->(if y2.kind=y1.list then (Z25 (ZR true y1.ops y2.kids [])).map fun b=> Tree.mk y1.list [] b else none)=o.map fun b=> Tree.mk y1.list [] b:=by
   intro o ho
   unfold Z0m at ho
   split
   .grind
   .rename_i h;rw [if_neg h] at ho;rw [<-ho];try rfl
  refine ⟨by simp only [Z4y];grind,by simp only [ZbQ];omega,fun hs=> no ?_,fun hs=> ?_⟩
  .simp_all
  .obtain ⟨l,hl⟩:=Qy.1 hs
   have e6:y6= .mk y1.list [] l:=by rw [ao,ZtW hl]
   subst e6
   have e3:=e2 _ hl
   exact ⟨by simp only [Jv];exact aa _ e3,s _ e3⟩
 grind
theorem b66:ZHf:=by
 intro N e t _ hp hN
 simp only [Z4z,ZbQ] at hp hN
 obtain ⟨k2,⟨p1,p2,d,p3⟩,p4,p5⟩:=hp
 have h1:=ZY e
 have h2:=ZW e.kids
 have h3:=ZlD t
 have h4:=Zs t.kids
 have r2:=Z1Y p2
 have rt:=Zhe p5
 have ri:=ZH p3
 have no:Z2q true e t=none->ZF cfg Tryz.f66.ntmps Tryz.f66.results.toList (Z74 (e,t,())) [] .ret (⟨[(4,.ptr (.loc 4) 0),(5,.c (.bool false))],[((.loc 4),[.int .i64 0,.nils,.nils])],[]⟩:LSt U):=by
  intro hs
  simp only [Z74,hs]
  exact V1
 refine ZHS _ _ _ _ ?_
 rintro y1 au y2 aw
 (simp only [iB,vcT,vcS])
 refine ⟨fun hk=> no (by unfold Z2q;rw [if_neg hk]),fun hk=> ?_⟩
 have hk:t.kind=1:=by simpa using hk
 rw [show Int.toNat ((e.words.length:Int) - 1)=e.words.length - 1 by omega] at au
 rw [show Int.toNat ((e.kids.length:Int) - 1)=e.kids.length - 1 by omega] at aw
 have wm:0 < e.words.length->y1∈e.words:=fun h=> by rw [au];exact Zb V0 _
 have km:0 < e.kids.length->y2∈e.kids:=fun h=> by rw [aw];exact Zb V0 _
 have wr:0 < e.words.length->0<=y1.at_/\y1.at_<=65534:=fun h=> by have:=Yw ri.words y1 (wm h);omega
 have kr:0 < e.kids.length->0<=y2.at_/\y2.at_<=65534:=fun h=> by have:=ZP ri.kids y2 (km h);omega
 have go:∀ n m:Int,n=(if 0 < e.words.length/\(t.words.length:Int)<=y1.at_ then y1.at_+1 else (t.words.length:Int))->m=(if 0 < e.kids.length/\(t.kids.length:Int)<=y2.at_ then y2.at_+1 else (t.kids.length:Int))->
   Zl (A66 N [1,1,1,1,1,1,1,0,1,0,0]) (Z0U e t m n 0 0 []) (AExit.inBlock 0 (S66 N [1,1,1,1,1,1,1,1] (ZF cfg Tryz.f66.ntmps Tryz.f66.results.toList (Z74 (e,t,())) []))):=by
  intro n m hn hm
  have ln:n<=t.words.length+65536:=by
   rw [hn];split
   .rename_i h;have:=wr h.1;omega
   .omega
  have lm:m<=t.kids.length+65536:=by
   rw [hm];split
   .rename_i h;have:=kr h.1;omega
   .omega
  rw [au] at hn
  rw [aw] at hm
  have i0:=Mg.init (z:=0) (f:=fun w=> if mix 0 (t.words.getD w.at_.toNat 0) w.mask=w.old then some (mix (t.words.getD w.at_.toNat 0) w.new w.mask) else none) (WEdit.mk 0 0 0 0) (Z5V ri.words) hn
  have j0:=Mg.init (z:=Tree.nil) (f:=Z08 true t.kids) (KidOf.mk 0 Edit.nil) (Z9l ri.kids) hm
  refine Z4 (ι:=Int × Int × List Int) (fun s=> Z0U e t m n s.1 s.2.1 s.2.2) (fun s=> Mg 0 (fun w=> if mix 0 (t.words.getD w.at_.toNat 0) w.mask=w.old then some (mix (t.words.getD w.at_.toNat 0) w.new w.mask) else none) WEdit.at_ t.words e.words n s.1 s.2.1 s.2.2) (fun s=> (n - s.2.1).toNat) (0,0,[]) rfl i0 ?_
  rintro ⟨a,i,out⟩ hI
  dsimp only at hI
  have q1:=hI.i0;have q2:=hI.a0;have q3:=hI.len
  refine Zwm _ _ _ _ _ _ _ _ _ _ ?_
  rintro z1 be z2 am
  subst be
  have hw:Zw z1 i=z1.words.getD i.toNat 0:=Z4j z1 V0
  have bk:=ZmZ rt.2.1 i.toNat
  rw [hw]
  unfold isW at bk
  (simp only [iB,vcT,vcS])
  refine ⟨fun hi=> ⟨by simp only [Zei];omega,fun h=> ⟨V0,h⟩,fun hg=> ⟨⟨V0,hg.1⟩,?_⟩,fun hg=> ⟨by simp only [Q8];omega,V4,(a,i+1,out++[z1.words.getD i.toNat 0]),rfl,?_,V3⟩⟩,fun hi=> ?_⟩
  .have ab:z2∈e.words:=by rw [am];exact Zb V0 _
   obtain ⟨g1,g2,g3,g4⟩:=r2.2.2.2.1 z2 ab
   unfold isW at g3 g4
   have hf:∀ v,(if mix 0 (z1.words.getD z2.at_.toNat 0) z2.mask=z2.old then some (mix (z1.words.getD z2.at_.toNat 0) z2.new z2.mask) else none)=v->(fun w:WEdit=> if mix 0 (z1.words.getD w.at_.toNat 0) w.mask=w.old then some (mix (z1.words.getD w.at_.toNat 0) w.new w.mask) else none) (e.words.getD a.toNat (WEdit.mk 0 0 0 0))=v:=by
    intro v hv;rw [<-am];exact hv
   rw [hg.2] at hf
   refine ⟨by simp only [ZbG];omega,fun ai=> no ?_,fun ah=> ?_⟩
   .have:=hI.none (WEdit.mk 0 0 0 0) hg.1 (hf _ (if_neg ai))
    unfold Z2q
    rw [if_pos hk,ZkP,this]
    try rfl
   .have ah:mix 0 (z1.words.getD i.toNat 0) z2.mask=z2.old:=by simpa using ah
    have:=hI.edit (WEdit.mk 0 0 0 0) hi hg.1 (by rw [<-am];exact hg.2) (hf _ (if_pos ah))
    exact ⟨by simp only [ZbG];omega,V4,by simp only [List.length_singleton];omega,V4,(a+1,i+1,out++[mix (z1.words.getD i.toNat 0) z2.new z2.mask]),rfl,this,V3⟩
  .refine hI.plain (WEdit.mk 0 0 0 0) hi (fun h=> ?_)
   rw [<-am] at h
   rcases hg with hg | hg
   .exact hg h.1
   .exact hg h.2
  .have av:=hI.fin hi
   rw [<-ZkP] at av
   refine Z4 (ι:=Int × Int × List Tree) (fun s=> Z5F e z1 m out s.1 s.2.1 s.2.2) (fun s=> Mg Tree.nil (Z08 true z1.kids) KidOf.at_ z1.kids e.kids m s.1 s.2.1 s.2.2) (fun s=> (m - s.2.1).toNat) (0,0,[]) rfl j0 ?_
   rintro ⟨b,j,ks⟩ hJ
   dsimp only at hJ
   have w1:=hJ.i0;have w2:=hJ.a0;have w3:=hJ.len
   refine Zwl _ _ _ _ _ _ _ _ _ _ ?_
   rintro x1 bg x2 ak x4 a2 x5 al x6 a1
   subst bg
   have a8:ZI x1 j=x1.kids.getD j.toNat Tree.nil:=Zb5 x1 V0
   rw [a8] at al
   (simp only [iB,vcT,vcS])
   refine ⟨fun hj=> ⟨by simp only [Zei];omega,fun h=> ⟨V0,h⟩,fun hg=> ⟨⟨V0,hg.1⟩,?_⟩,fun hg=> ⟨by simp only [Q8];omega,V4,(b,j+1,ks++[x5]),rfl,?_,V3⟩⟩,fun hj=> ?_⟩
   .have ab:x2∈e.kids:=by rw [ak];exact Zb V0 _
    have a6:=ZP ri.kids x2 ab
    have hm:=YE ab
    have bi:=Zfc ab
    have b1:=Z2R e
    have hr:=(Yq r2.2.2.2.2.2.1 ab).2
    have bc:=Z3T x1.kids j.toNat
    have a4:=Zcx rt.2.2 j.toNat
    rw [<-al] at bc a4
    rw [<-a2] at hm hr a6 bi
    have hf:∀ v,doE true x4 x5=v->Z08 true x1.kids (e.kids.getD b.toNat (KidOf.mk 0 Edit.nil))=v:=by
     intro v hv
     rw [<-ak,Zf6,hg.2,<-al,<-a2];exact hv
    refine ⟨by simp only [Z3O];exact ⟨⟨V0,hr,_,a6.2⟩,V0,a4⟩,by simp only [Zfy];omega,fun ai=> no ?_,fun ah=> ?_⟩
    .have ai:doE true x4 x5=none:=by simpa using ai
     have:=hJ.none (KidOf.mk 0 Edit.nil) hg.1 (hf _ ai)
     unfold Z2q
     rw [if_pos hk,av,Qg,Zi6,this]
     try rfl
    .obtain ⟨u,hu⟩:=Qy.1 ah
     have:=hJ.edit (KidOf.mk 0 Edit.nil) hj hg.1 (by rw [<-ak];exact hg.2) (hf _ hu)
     rw [hu] at a1
     have e6:x6=u:=a1
     subst e6
     exact ⟨V4,by simp only [List.length_singleton];omega,V4,(b+1,j+1,ks++[x6]),rfl,this,V3⟩
   .rw [al]
    refine hJ.plain (KidOf.mk 0 Edit.nil) hj (fun h=> ?_)
    rw [<-ak] at h
    rcases hg with hg | hg
    .exact hg h.1
    .exact hg h.2
   .have a5:=hJ.fin hj
    rw [<-Zi6] at a5
    have hs:Z2q true e x1=some (.mk 1 out ks):=by
     unfold Z2q
     rw [if_pos hk,av,Qg,a5]
     try rfl
    simp only [Z74,hs]
    exact V1
 have kk:∀ n:Int,n=(if 0 < e.words.length/\(t.words.length:Int)<=y1.at_ then y1.at_+1 else (t.words.length:Int))->_:=fun n hn=>
  And.intro (fun (_:(0:Int) < e.kids.length)=> show InR ((e.kids.length:Int) - 1) by unfold InR;omega) (And.intro (fun (_:(0:Int) < e.kids.length)=> show (0:Int)<=(e.kids.length:Int) - 1/\(e.kids.length:Int) - 1 < e.kids.length by omega) (And.intro
   (fun (h:(0:Int) < e.kids.length/\(t.kids.length:Int)<=y2.at_)=> And.intro (show InR ((e.kids.length:Int) - 1) by unfold InR;omega) (And.intro (show (0:Int)<=(e.kids.length:Int) - 1/\(e.kids.length:Int) - 1 < e.kids.length by omega) (And.intro (show InR (y2.at_+1) by have:=kr V0;unfold InR;omega) (go n (y2.at_+1) hn (by rw [if_pos ⟨V0,h.2⟩])))))
   (fun (h:¬(0:Int) < e.kids.length\/¬(t.kids.length:Int)<=y2.at_)=> go n t.kids.length hn (by rw [JC]))))
 refine ⟨fun _=> by unfold InR;omega,fun _=> by omega,fun hw=> ⟨V4,V0,by have:=wr V0;unfold InR;omega,kk _ (by rw [if_pos ⟨V0,hw.2⟩])⟩,fun hw=> kk _ (by rw [JC])⟩
theorem Zft{list:Int}{o:Op}{d:Int}(h:Zf list o d=true):(o.kind=0/\(1<=o.n/\o.n<=1048576)/\o.l=[])\/(o.kind=1/\o.n=0)\/(o.kind=2/\o.n=0)\/(o.kind=3/\o.n=0/\o.l=[]/\Z6 o.e d=true):=by
 have r:=ZJ h
 cases r with
 | keep n h1 h2=> grind
 | gone=> grind
 | come=> grind
 | into e h1=> grind
theorem ZfR{α:Type}{l:List α}{n:Nat}(h:n < l.length)(d:α):l.take (n+1)=l.take n++[l.getD n d]:=by
 simp_all
theorem Zf2{α:Type}(l:List α)(m n:Nat)(d:α):(l.drop m).getD n d=l.getD (m+n) d:=by
 grind
theorem b67:ZHe:=by
 intro N e t _ hp hN
 simp only [Z4y,ZbQ] at hp hN
 obtain ⟨k3,⟨p1,p2,d,p3⟩,p4,p5⟩:=hp
 have h1:=ZY e
 have h2:=ZM e.ops
 have h3:=ZlD t
 have h4:=Zs t.kids
 have r2:=Z1Y p2
 have rt:=Zhe p5
 have ri:=ZH p3
 refine ZHR _ _ _ _ ?_
 (simp only [iB,vcT,vcS])
 have no:Z0m true e t=none->ZF cfg Tryz.f67.ntmps Tryz.f67.results.toList (Z8H (e,t,())) [] .ret (⟨[(4,.ptr (.loc 4) 0),(5,.c (.bool false))],[((.loc 4),[.int .i64 0,.nils,.nils])],[]⟩:LSt U):=by
  intro hs
  simp only [Z8H,hs]
  exact V1
 refine ⟨fun hk=> no (by unfold Z0m;rw [if_neg hk]),fun hk=> ?_⟩
 have hk:t.kind=e.list:=by simpa using hk
 have bg:Z0m true e t=ZR true e.ops t.kids []:=by unfold Z0m;rw [if_pos hk]
 refine Z4 (ι:=Int × Int × List Tree) (fun s=> Z2N e t s.1 s.2.1 s.2.2)
  (fun s=> (0<=s.1/\s.1<=t.kids.length)/\(0<=s.2.1/\s.2.1<=e.ops.length)/\ZR true (e.ops.drop s.2.1.toNat) (t.kids.drop s.1.toNat) s.2.2=Z0m true e t/\(s.2.2.length:Int)+(t.kids.length - s.1)+Zj (e.ops.drop s.2.1.toNat)<=t.kids.length+Zj e.ops)
  (fun s=> ((e.ops.length:Int) - s.2.1).toNat) (0,0,[]) rfl ⟨by simp,by simp,by simp [bg],by simp⟩ ?_
 rintro ⟨at_,i,out⟩ ⟨⟨a1,a2⟩,⟨f1,f2⟩,f3,f4⟩
 dsimp only at a1 a2 f1 f2 f3 f4
 refine Zwk _ _ _ _ _ _ _ _ ?_
 (simp only [iB,vcT,vcS])
 refine ⟨fun hi=> ⟨⟨f1,hi⟩,?_⟩,fun hi=> ?_⟩
 .have aj:=Zb (l:=e.ops) (i:=i.toNat) V0 Op.nil
  rw [Y1 f1 hi Op.nil] at f3 f4
  have fin:∀ (a:Int) (m:List Tree),(0<=a/\a<=t.kids.length)->ZR true (e.ops.drop (i+1).toNat) (t.kids.drop a.toNat) m=Z0m true e t->(m.length:Int)+(t.kids.length - a)+Zj (e.ops.drop (i+1).toNat)<=t.kids.length+Zj e.ops->∀ s2,s2=Z2N e t a (i+1) m->
    ∃ j:Int × Int × List Tree,s2=Z2N e t j.1 j.2.1 j.2.2/\((0<=j.1/\j.1<=t.kids.length)/\(0<=j.2.1/\j.2.1<=e.ops.length)/\ZR true (e.ops.drop j.2.1.toNat) (t.kids.drop j.1.toNat) j.2.2=Z0m true e t/\(j.2.2.length:Int)+(t.kids.length - j.1)+Zj (e.ops.drop j.2.1.toNat)<=t.kids.length+Zj e.ops)/\((e.ops.length:Int) - j.2.1).toNat < ((e.ops.length:Int) - i).toNat:=by
   rintro a m b1 b2 b3 _ rfl
   exact ⟨(a,i+1,m),rfl,⟨b1,⟨V3,V3⟩,b2,b3⟩,V3⟩
  generalize hy:e.ops.getD i.toNat Op.nil=y1 at*
  have hr:=Go.AM.rightOs_mem ri.ops y1 aj
  have hm:=ZL aj
  have bm:=Zam aj
  have b6:=Z2R e
  have bj:=ZG y1
  have a3:=J4 (J0 r2.2.2.2.2.2.2 aj)
  have b4:=Zs y1.l
  simp only [Zj] at f4
  rw [ZgH,Yu] at f3
  have bn:(t.kids.drop at_.toNat).length=t.kids.length - at_.toNat:=QY ..
  rcases Zft hr with ⟨k0,hn,hl⟩ | ⟨k1,hn⟩ | ⟨k2,hn⟩ | ⟨k3',hn,hl,hre⟩
  ·-- kids are kept
   rw [if_pos k0] at f3
   refine Z4 (ι:=Int × Int × List Tree) (fun s=> Z2M e t i s.1 s.2.1 s.2.2) (fun s=> (0<=s.2.1/\s.2.1<=y1.n)/\s.1=at_+s.2.1/\s.1<=t.kids.length/\s.2.2=out++(t.kids.drop at_.toNat).take s.2.1.toNat) (fun s=> (y1.n - s.2.1).toNat) (at_,0,out) rfl ⟨by simp;omega,by simp,by simp;omega,by simp⟩ ?_
   rintro ⟨a,q,m⟩ ⟨⟨c1,c2⟩,c3,c4,c5⟩
   dsimp only at c1 c2 c3 c4 c5
   refine Zct _ _ _ _ _ _ _ _ _ _ ?_
   rintro z1 ab z2 ar
   rw [hy] at ab
   subst ab
   (simp only [iB,vcT,vcS])
   have a6:(m.length:Int)<=out.length+q:=by rw [c5];simp only [Qa,Qm];omega
   refine ⟨fun hg=> ⟨fun hx=> no ?_,fun hx=> ⟨V0,by simp only [Q8];omega,V4,V4,(a+1,q+1,m++[z2]),rfl,⟨V3,V3,V3,?_⟩,V3⟩⟩,fun hg=> ?_⟩
   .rw [JC] at f3
    exact f3.symm
   .dsimp only
    rw [show (q+1).toNat=q.toNat+1 by omega,ZfR V0 Tree.nil,Zf2,show at_.toNat+q.toNat=a.toNat by omega,<-ar,c5,Ql]
   .have hq:q=z1.n:=V0
    subst hq
    rw [YC,Qg,Xx,show at_.toNat+z1.n.toNat=a.toNat by omega,<-c5] at f3
    dsimp only at f3
    refine Z4 (ι:=Unit) (fun _=> Z1D e t i 0 a m) (fun _=> True) (fun _=> 0) () rfl trivial ?_
    intro _ _
    refine Zcs _ _ _ _ _ _ _ _ _ _ ?_
    rintro w1 ae w2 af w3 am w4 ak w5 ah w6 al w7 ao
    rw [hy] at ae
    subst ae
    rw [hl]
    (simp only [iB,vcT,vcS])
    exact ⟨fun h=> absurd h (by simp),fun _=> ⟨fun h=> absurd h V0,fun _=> ⟨V4,fin _ _ V0 f3 V0 _ rfl⟩⟩⟩
  ·-- kids are gone
   rw [JC,if_pos k1] at f3
   refine Z4 (ι:=Unit) (fun _=> Z2M e t i at_ 0 out) (fun _=> True) (fun _=> 0) () rfl trivial ?_
   intro _ _
   refine Zct _ _ _ _ _ _ _ _ _ _ ?_
   rintro z1 ab z2 ar
   rw [hy] at ab
   subst ab
   (simp only [iB,vcT,vcS])
   refine ⟨fun hg=> absurd hg.1 V0,fun _=> ?_⟩
   refine Z4 (ι:=Int × Int) (fun s=> Z1D e t i s.1 s.2 out) (fun s=> (0<=s.1/\s.1<=z1.l.length)/\s.2=at_+s.1/\s.2<=t.kids.length/\∀ j:Nat,(j:Int) < s.1->Z3 (t.kids.getD (at_.toNat+j) Tree.nil)=Z3 (z1.l.getD j Tree.nil)) (fun s=> ((z1.l.length:Int) - s.1).toNat) (0,at_) rfl ⟨by simp,by simp,by simp;omega,fun j hj=> by simp at hj;omega⟩ ?_
   rintro ⟨q,a⟩ ⟨⟨c1,c2⟩,c3,c4,c5⟩
   dsimp only at c1 c2 c3 c4 c5
   refine Zcs _ _ _ _ _ _ _ _ _ _ ?_
   rintro w1 ae w2 af w3 am w4 ak w5 ah w6 al w7 ao
   rw [hy] at ae
   subst ae am al
   (simp only [iB,vcT,vcS])
   have be:Je w1.l (t.kids.drop at_.toNat)=false->Z0m true e t=none:=by
    intro h
    rw [h,if_neg (by simp)] at f3
    exact f3.symm
   have m2:=Z3T t.kids a.toNat
   have m5:=Z3T w1.l q.toNat
   rw [<-af] at m2
   rw [<-ah] at m5
   refine ⟨fun hq=> ⟨fun h=> absurd h V0,fun _=> ⟨fun _=> by omega,fun _=> by omega,fun _=> by simp only [Z39];omega,fun h=> no (be ?_),fun h=> ⟨V4,V4,(q+1,a+1),rfl,⟨V3,V3,V3,fun j hj=> ?_⟩,V3⟩⟩⟩,fun hq=> ⟨fun h=> absurd h V0,fun _=> ⟨V4,?_⟩⟩⟩
   .unfold Je
    by_cases hx:w1.l.length<=(t.kids.drop at_.toNat).length
    .rw [decide_eq_true hx,QK]
     refine Z3A fun hh=> ?_
     have h3:Yd (Z3 w3) (Z3 w6)=false:=by
      rcases h with h | h
      .omega
      .exact h
     rw [Yy] at h3
     apply h3
     have:=Z5K (d:=Tree.nil) hh q.toNat
     rw [af,ah,this,Q9,Q9,QP,YC,Qq,show at_.toNat+q.toNat=a.toNat by omega]
    .rw [decide_eq_false hx];try rfl
   .by_cases hj2:(j:Int) < q
    .exact c5 j hj2
    .have e1:at_.toNat+j=a.toNat:=by dsimp only at hj;omega
     have e2:j=q.toNat:=by dsimp only at hj;omega
     rw [e1,e2,<-af,<-ah]
     exact Yh.1 h.2
   .have hq:q=w1.l.length:=V0
    subst hq
    have Z4E:Je w1.l (t.kids.drop at_.toNat)=true:=by
     unfold Je
     rw [decide_eq_true V0,QK,Z0r]
     refine ZbX Tree.nil (by rw [Qm];omega) fun j hj=> ?_
     rw [<-c5 j V0,Q9,Q9,QP,if_pos hj,Qq]
    rw [Z4E,if_pos rfl,Qg,Xx,show at_.toNat+w1.l.length=a.toNat by omega] at f3
    dsimp only at f3
    exact fin _ _ V0 f3 V0 _ rfl
  ·-- kids come
   rw [JC,JC,if_pos k2,Qg] at f3
   refine Z4 (ι:=Unit) (fun _=> Z2M e t i at_ 0 out) (fun _=> True) (fun _=> 0) () rfl trivial ?_
   intro _ _
   refine Zct _ _ _ _ _ _ _ _ _ _ ?_
   rintro z1 ab z2 ar
   rw [hy] at ab
   subst ab
   (simp only [iB,vcT,vcS])
   refine ⟨fun hg=> absurd hg.1 V0,fun _=> ?_⟩
   refine Z4 (ι:=Int × List Tree) (fun s=> Z1D e t i s.1 at_ s.2) (fun s=> (0<=s.1/\s.1<=z1.l.length)/\s.2=out++z1.l.take s.1.toNat) (fun s=> ((z1.l.length:Int) - s.1).toNat) (0,out) rfl ⟨by simp,by simp⟩ ?_
   rintro ⟨q,m⟩ ⟨⟨c1,c2⟩,c5⟩
   dsimp only at c1 c2 c5
   refine Zcs _ _ _ _ _ _ _ _ _ _ ?_
   rintro w1 ae w2 af w3 am w4 ak w5 ah w6 al w7 ao
   rw [hy] at ae
   subst ae al
   (simp only [iB,vcT,vcS])
   have a6:(m.length:Int)<=out.length+q:=by rw [c5];simp only [Qa,Qm];omega
   refine ⟨fun hq=> ⟨fun _=> ⟨V0,by simp only [Q8];omega,V4,(q+1,m++[w6]),rfl,⟨V3,?_⟩,V3⟩,fun h=> absurd k2 h⟩,fun hq=> ⟨fun h=> absurd h V0,fun _=> ⟨V4,?_⟩⟩⟩
   .dsimp only
    rw [show (q+1).toNat=q.toNat+1 by omega,ZfR V0 Tree.nil,<-ah,c5,Ql]
   .rw [show q.toNat=w1.l.length by omega,K0] at c5
    rw [<-c5] at f3
    dsimp only at f3
    exact fin _ _ V0 f3 V0 _ rfl
  ·-- what is within a kid
   rw [JC,JC,JC] at f3
   refine Z4 (ι:=Unit) (fun _=> Z2M e t i at_ 0 out) (fun _=> True) (fun _=> 0) () rfl trivial ?_
   intro _ _
   refine Zct _ _ _ _ _ _ _ _ _ _ ?_
   rintro z1 ab z2 ar
   rw [hy] at ab
   subst ab
   (simp only [iB,vcT,vcS])
   refine ⟨fun hg=> absurd hg.1 V0,fun _=> ?_⟩
   refine Z4 (ι:=Unit) (fun _=> Z1D e t i 0 at_ out) (fun _=> True) (fun _=> 0) () rfl trivial ?_
   intro _ _
   refine Zcs _ _ _ _ _ _ _ _ _ _ ?_
   rintro w1 ae w2 af w3 am w4 ak w5 ah w6 al w7 ao
   rw [hy] at ae
   subst ae am
   rw [hl]
   (simp only [iB,vcT,vcS])
   have hz:w3=(t.kids.drop at_.toNat).getD 0 Tree.nil:=by rw [Zf2,XE];exact af
   have m2:=Z3T t.kids at_.toNat
   have g2:=Zcx rt.2.2 at_.toNat
   rw [<-af] at m2 g2
   rw [<-ak] at hre bj a3 bm
   refine ⟨fun h=> absurd h (by simp),fun _=> ⟨fun _=> ⟨fun hx=> no ?_,fun hx=> ⟨V0,by simp only [Z3O];exact ⟨⟨V0,a3.2.2.2,_,hre⟩,V0,g2⟩,by simp only [Zfy];omega,fun av=> no ?_,fun bh=> ?_⟩⟩,fun h=> absurd k3' h⟩⟩
   .rw [YC] at f3
    exact f3.symm
   .rw [JC,<-hz,<-ak] at f3
    have av:doE true w4 w3=none:=by simpa using av
    rw [av] at f3
    exact f3.symm
   .obtain ⟨u,hu⟩:=Qy.1 bh
    rw [hu] at ao
    have e7:w7=u:=ao
    subst e7
    rw [JC,<-hz,<-ak,hu,Qf,Qg,Xx,show at_.toNat+1=(at_+1).toNat by omega] at f3
    dsimp only at f3
    exact ⟨by simp only [Q8];omega,V4,V4,fin _ _ V0 f3 (by simp only [List.length_append,List.length_singleton];omega) _ rfl⟩
 .rw [Q6 V0,ZR] at f3
  simp only [Z8H,<-f3,ZhQ,Z25,Qg,hk]
  by_cases hr:at_=t.kids.length
  .rw [if_pos (by rw [QY];omega),hr]
   simp only [beq_self_eq_true]
   exact V1
  .rw [if_neg (by rw [QY];omega),show (at_==(t.kids.length:Int))=false by rw [beq_eq_false_iff_ne];omega]
   exact V1
theorem ZII:Contract Tryz.prog cfg 35 ZaA/\Contract Tryz.prog cfg 66 ZrT/\Contract Tryz.prog cfg 67 ZrS:=Zxu c34 c25 ZDG c91 ZDF b35 b66 b67
theorem c35:Contract Tryz.prog cfg 35 ZaA:=ZII.1
noncomputable section
def ZcK:ArgM ((List Op × List Tree × List Tree × Unit) × Unit):=(.obj 0 (.cons (cWr .op 0 0) (.cons (ZkF .tree 0 1) (.cons (ZkF .tree 0 2) .nil))) .nil)
def Z5k(a:(List Op × List Tree × List Tree × Unit) × Unit):Prop:=(a.1.1).length<=200000000000/\(a.1.2.1).length<=200000000000/\(a.1.2.2.1).length<=200000000000
def ZaF(a:(List Op × List Tree × List Tree × Unit) × Unit):V U:= .tup []
def Z6b(a:(List Op × List Tree × List Tree × Unit) × Unit):List (List (C U)):=[[.mref (.x 0 0),sU .tree ((Zc (Wst.mk a.1.1 a.1.2.1 a.1.2.2.1)).gone) (.own (.x 0 1)),sU .tree ((Zc (Wst.mk a.1.1 a.1.2.1 a.1.2.2.1)).brought) (.own (.x 0 2))]]
def Z6c(a:(List Op × List Tree × List Tree × Unit) × Unit):List (Tok × LC U):=[(.x 0 0,LC.mk (U:=U) .op ((Zc (Wst.mk a.1.1 a.1.2.1 a.1.2.2.1)).out) 0)]
def Z1W:Fs U:=Zmu ZcK (fun a=> [Z5k a]) ZaF Z6b Z6c
def ZcM:ArgM ((List Op × List Tree × List Tree × Unit) × Int × Unit):=(.obj 0 (.cons (cWr .op 0 0) (.cons (ZkF .tree 0 1) (.cons (ZkF .tree 0 2) .nil))) (.cons (Yc .i64) .nil))
def Z7J(a:(List Op × List Tree × List Tree × Unit) × Int × Unit):Prop:=(a.1.1).length<=200000000000/\(a.1.2.1).length<=200000000000/\(a.1.2.2.1).length<=200000000000/\(∀ o∈a.1.1,0<=o.n/\o.n<=100000000000000000)/\0<=a.2.1/\a.2.1<=1048576
def Zld(a:(List Op × List Tree × List Tree × Unit) × Int × Unit):V U:= .tup []
def Zhm(a:(List Op × List Tree × List Tree × Unit) × Int × Unit):List (List (C U)):=[[.mref (.x 0 0),sU .tree ((Y7 (Wst.mk a.1.1 a.1.2.1 a.1.2.2.1) a.2.1).gone) (.own (.x 0 1)),sU .tree ((Y7 (Wst.mk a.1.1 a.1.2.1 a.1.2.2.1) a.2.1).brought) (.own (.x 0 2))]]
def Zhn(a:(List Op × List Tree × List Tree × Unit) × Int × Unit):List (Tok × LC U):=[(.x 0 0,LC.mk (U:=U) .op ((Y7 (Wst.mk a.1.1 a.1.2.1 a.1.2.2.1) a.2.1).out) 0)]
def Z61:Fs U:=Zmu ZcM (fun a=> [Z7J a]) Zld Zhm Zhn
def ZcL:ArgM ((List Op × List Tree × List Tree × Unit) × List Tree × Unit):=(.objAt 0 1 (.cons (cWr .op 0 0) (.cons (ZkF .tree 0 1) (.cons (ZkF .tree 0 2) .nil))) (.cons (aSl .tree) .nil))
def Zeg(a:(List Op × List Tree × List Tree × Unit) × List Tree × Unit):Prop:=(a.1.1).length<=200000000000/\(a.1.2.1).length<=200000000000/\(a.1.2.2.1).length<=200000000000/\Ze a.2.1<=20000000000
def ZsA(a:(List Op × List Tree × List Tree × Unit) × List Tree × Unit):V U:= .tup []
def Znr(a:(List Op × List Tree × List Tree × Unit) × List Tree × Unit):List (List (C U)):=[[.mref (.x 0 0),sU .tree ((Wst.mk a.1.1 (a.1.2.1++Z9 a.2.1) a.1.2.2.1).gone) (.own (.x 0 1)),sU .tree ((Wst.mk a.1.1 (a.1.2.1++Z9 a.2.1) a.1.2.2.1).brought) (.own (.x 0 2))]]
def Zns(a:(List Op × List Tree × List Tree × Unit) × List Tree × Unit):List (Tok × LC U):=[(.x 0 0,LC.mk (U:=U) .op ((Wst.mk a.1.1 (a.1.2.1++Z9 a.2.1) a.1.2.2.1).out) 0)]
def Zh7:Fs U:=Zmu ZcL (fun a=> [Zeg a]) ZsA Znr Zns
def Zao:ArgM ((List Op × List Tree × List Tree × Unit) × List Tree × Unit):=(.objAt 0 2 (.cons (cWr .op 0 0) (.cons (ZkF .tree 0 1) (.cons (ZkF .tree 0 2) .nil))) (.cons (aSl .tree) .nil))
def Zj5(a:(List Op × List Tree × List Tree × Unit) × List Tree × Unit):List (List (C U)):=[[.mref (.x 0 0),sU .tree ((Wst.mk a.1.1 a.1.2.1 (a.1.2.2.1++Z9 a.2.1)).gone) (.own (.x 0 1)),sU .tree ((Wst.mk a.1.1 a.1.2.1 (a.1.2.2.1++Z9 a.2.1)).brought) (.own (.x 0 2))]]
def Zj6(a:(List Op × List Tree × List Tree × Unit) × List Tree × Unit):List (Tok × LC U):=[(.x 0 0,LC.mk (U:=U) .op ((Wst.mk a.1.1 a.1.2.1 (a.1.2.2.1++Z9 a.2.1)).out) 0)]
def Zdz:Fs U:=Zmu Zao (fun a=> [Zeg a]) ZsA Zj5 Zj6
def Z8Q(a:Int × Edit × Unit):Prop:=a.2.1.words.length<=20000000000/\a.2.1.kids.length<=20000000000
def ZnI(a:Int × Edit × Unit):V U:= .c (.bool (Z5D a.1 a.2.1))
def Z3H:Fs U:=fs Zpd (fun a=> [Z8Q a]) ZnI
def Z3G:Fs U:=fs Zpd (fun a=> [Zlp a]) ZnI
def ZtQ:Zg U:=lvk [([0,7],[((.x 0),[.wr .op])]),([0],[((.x 0),[.wr .op])]),([0,28],[((.x 0),[.wr .op])]),([0],[((.x 0),[.wr .op])]),([],[((.x 0),[.wr .op])])]
abbrev ZIZ(wo:List Op)(wg wb:List Tree)(Q:QT):=AW (Z2 Zmg) Tryz.f110 ZtQ [] (⟨[(0,.ptr (.x 0) 0)],[(.x 0,[.mref (.x 0 0),sU .tree wg (.own (.x 0 1)),sU .tree wb (.own (.x 0 2))])],[(.x 0 0,LC.mk (U:=U) .op wo 0)]⟩:LSt U) Q
theorem ZGa(wo:List Op)(wg wb:List Tree)(Q:QT)(h:∀ d,d=(Edit.mk 0 (Tree.mk 0 [] []) (Tree.mk 0 [] []) [] [] 0 [])->∀ s,s=(List.set (wo++([(OpOf.mk 0 0 [] d:Op)])) (Int.toNat (wo.length:Int)) (OpOf.mk 1 0 wg d:Op))->let z0:=decide ((0:Int) < (wb.length:Int));iB (decide ((0:Int) < (wg.length:Int))) (((wo.length+([(OpOf.mk 0 0 [] d:Op)]).length)*240<=140737488355328)/\((0:Int)<=(wo.length:Int)/\(wo.length:Int) < ((wo++([(OpOf.mk 0 0 [] d:Op)])).length:Int))/\((0:Nat)<=(Int.toNat (wo.length:Int)))/\(iB z0 (((s.length+([(OpOf.mk 0 0 [] d:Op)]).length)*240<=140737488355328)/\((0:Int)<=(s.length:Int)/\(s.length:Int) < ((s++([(OpOf.mk 0 0 [] d:Op)])).length:Int))/\((0:Nat)<=(Int.toNat (s.length:Int)))/\(Q .normal (⟨[],[(.x 0,[.mref (.x 0 0),.nils,.nils])],[(.x 0 0,LC.mk (U:=U) .op (List.set (s++([(OpOf.mk 0 0 [] d:Op)])) (Int.toNat (s.length:Int)) (OpOf.mk 2 0 wb d:Op)) 0)]⟩:LSt U))) (Q .normal (⟨[],[(.x 0,[.mref (.x 0 0),.nils,.nils])],[(.x 0 0,LC.mk (U:=U) .op s 0)]⟩:LSt U)))) (iB z0 (((wo.length+([(OpOf.mk 0 0 [] d:Op)]).length)*240<=140737488355328)/\((0:Int)<=(wo.length:Int)/\(wo.length:Int) < ((wo++([(OpOf.mk 0 0 [] d:Op)])).length:Int))/\((0:Nat)<=(Int.toNat (wo.length:Int)))/\(Q .normal (⟨[],[(.x 0,[.mref (.x 0 0),.nils,.nils])],[(.x 0 0,LC.mk (U:=U) .op (List.set (wo++([(OpOf.mk 0 0 [] d:Op)])) (Int.toNat (wo.length:Int)) (OpOf.mk 2 0 wb d:Op)) 0)]⟩:LSt U))) (Q .normal (⟨[],[(.x 0,[.mref (.x 0 0),.nils,.nils])],[(.x 0 0,LC.mk (U:=U) .op wo 0)]⟩:LSt U)))):
  ZIZ wo wg wb Q:=
 Eq.mpr V5 (h _ rfl _ rfl)
def ZzP(wo:List Op)(wg wb:List Tree):Prop:=AW (Z2 Zmg) Tryz.f110 ZtQ [] (Z0W (ZcK.can ((wo,wg,wb,()),())) (ZcK.canX ((wo,wg,wb,()),())) (ZcK.canL ((wo,wg,wb,()),()))) (Z3B cfg Tryz.f110.ntmps Tryz.f110.results.toList (ZaF ((wo,wg,wb,()),())) (Z6b ((wo,wg,wb,()),())) (Z6c ((wo,wg,wb,()),())))
theorem Zy2(hb:∀ (h:List Op) (s:List Tree) (d:List Tree) (_:Unit),Z5k ((h,s,d,()),())->ZzP h s d):CT 110 Z1W:=
 Z0s (l:=[]) Zk rfl trivial ZtQ Tryz.func110 rfl rfl 1 (fun _=> rfl) V2 (fun ⟨⟨h,s,d,_⟩,_⟩=> hb h s d ())
def ZoN:List (FuncId × Fs U):=[(110,Z1W)]
def ZtR:Zg U:=lvk [([0,1],[((.x 0),[.wr .op])]),([0,1,4],[((.x 0),[.wr .op])]),([0,1,4,25],[((.x 0),[.wr .op])]),([],[((.x 0),[.wr .op])]),([],[((.x 0),[.wr .op])])]
abbrev ZJ1(wo:List Op)(wg wb:List Tree)(n:Int)(Q:QT):=AW (Z2 ZoN) Tryz.f107 ZtR [] (⟨[(0,.ptr (.x 0) 0),pI 1 n],[(.x 0,[.mref (.x 0 0),sU .tree wg (.own (.x 0 1)),sU .tree wb (.own (.x 0 2))])],[(.x 0 0,LC.mk (U:=U) .op wo 0)]⟩:LSt U) Q
theorem ZGc(wo:List Op)(wg wb:List Tree)(n:Int)(Q:QT)(h:∀ s,s=(Edit.mk 0 (Tree.mk 0 [] []) (Tree.mk 0 [] []) [] [] 0 [])->∀ u,u=(Int.toNat (((((Zc (Wst.mk wo wg wb)).out).length:Int):Int) - 1))->∀ d,d=(List.getD ((Zc (Wst.mk wo wg wb)).out) u Op.nil)->∀ aa,aa=(d.e)->let z1:=Zc (Wst.mk wo wg wb);let z0:=decide ((0:Int)<=((((z1.out).length:Int):Int) - 1));((Z5k ((wo,wg,wb,()),()))/\((InR ((((z1.out).length:Int):Int) - 1))/\((Tt z0)/\(Tt z0)/\(Tt z0)/\(Tt z0)/\(Tt z0)/\(z0=true->(0:Int)<=((((z1.out).length:Int):Int) - 1)/\((((z1.out).length:Int):Int) - 1) < ((z1.out).length:Int))/\(Tt z0)/\(Tt z0)/\(Tt z0)/\(Tt z0)/\(iB (bif z0 then (d.kind==0) else false) (((0:Int)<=((((z1.out).length:Int):Int) - 1)/\((((z1.out).length:Int):Int) - 1) < ((z1.out).length:Int))/\(InR (d.n+n))/\((0:Int)<=((((z1.out).length:Int):Int) - 1)/\((((z1.out).length:Int):Int) - 1) < ((z1.out).length:Int))/\((0:Nat)<=u)/\(Q .ret (⟨[],[(.x 0,[.mref (.x 0 0),sU .tree (z1.gone) (.own (.x 0 1)),sU .tree (z1.brought) (.own (.x 0 2))])],[(.x 0 0,LC.mk (U:=U) .op (List.set (z1.out) u (OpOf.mk d.kind (d.n+n) d.l aa:Op)) 0)]⟩:LSt U))) ((((z1.out).length+([(OpOf.mk 0 0 [] s:Op)]).length)*240<=140737488355328)/\((0:Int)<=((z1.out).length:Int)/\((z1.out).length:Int) < (((z1.out)++([(OpOf.mk 0 0 [] s:Op)])).length:Int))/\((0:Nat)<=(Int.toNat ((z1.out).length:Int)))/\(Q .normal (⟨[],[(.x 0,[.mref (.x 0 0),sU .tree (z1.gone) (.own (.x 0 1)),sU .tree (z1.brought) (.own (.x 0 2))])],[(.x 0 0,LC.mk (U:=U) .op (List.set ((z1.out)++([(OpOf.mk 0 0 [] s:Op)])) (Int.toNat ((z1.out).length:Int)) (OpOf.mk 0 n [] s:Op)) 0)]⟩:LSt U)))))))):
  ZJ1 wo wg wb n Q:=
 Eq.mpr V5 (h _ rfl _ rfl _ rfl _ (Z8 _))
def ZzR(wo:List Op)(wg wb:List Tree)(n:Int):Prop:=AW (Z2 ZoN) Tryz.f107 ZtR [] (Z0W (ZcM.can ((wo,wg,wb,()),n,())) (ZcM.canX ((wo,wg,wb,()),n,())) (ZcM.canL ((wo,wg,wb,()),n,()))) (Z3B cfg Tryz.f107.ntmps Tryz.f107.results.toList (Zld ((wo,wg,wb,()),n,())) (Zhm ((wo,wg,wb,()),n,())) (Zhn ((wo,wg,wb,()),n,())))
theorem Zy4(ZqY:CT 110 Z1W)(hb:∀ (h:List Op) (s:List Tree) (d:List Tree) (n:Int) (_:Unit),Z7J ((h,s,d,()),n,())->ZzR h s d n):CT 107 Z61:=
 Z0s (l:=[(110,Z1W)]) Zk rfl (⟨ZqY,trivial⟩) ZtR Tryz.func107 rfl rfl 2 (fun _=> rfl) V2 (fun ⟨⟨h,s,d,_⟩,n,_⟩=> hb h s d n ())
def ZcE:List (FuncId × Fs U):=[(33,Jr)]
def Zk8:Zg U:=lvk [([0,6,7,8],[((.x 0),[.wr .op])]),([0,6,7,8,9],[((.x 0),[.wr .op])]),([0,5,6,7,8],[5,((.x 0),[.wr .op])]),([0,6,7,8],[((.x 0),[.wr .op])]),([0,6,7,8],[((.x 0),[.wr .op])])]
def Z6H(wo:List Op)(wg wb l:List Tree)(d:Int)(mx0_1:List Tree):LSt U:=(⟨[(0,.ptr (.x 0) 1),(6,.c (sU .tree l .unk)),pI 7 (l.length:Int),pI 8 d],[(.x 0,[.mref (.x 0 0),sU .tree mx0_1 (.own (.x 0 1)),sU .tree wb (.own (.x 0 2))])],[(.x 0 0,LC.mk (U:=U) .op wo 0)]⟩:LSt U)
abbrev ZJ0(wo:List Op)(wg wb l:List Tree)(Q:QT):=AW (Z2 ZcE) Tryz.f108 Zk8 [] (⟨[(0,.ptr (.x 0) 1),(1,.c (sU .tree l .unk))],[(.x 0,[.mref (.x 0 0),sU .tree wg (.own (.x 0 1)),sU .tree wb (.own (.x 0 2))])],[(.x 0 0,LC.mk (U:=U) .op wo 0)]⟩:LSt U) Q
theorem ZGb(wo:List Op)(wg wb l:List Tree)(Q:QT)(h:Zl (AW (Z2 ZcE) Tryz.f108 Zk8 [1,0,0]) (Z6H wo wg wb l 0 wg) (xB 0 Q)):
  ZJ0 wo wg wb l Q:=
 Eq.mpr V5 h
abbrev Zz8(wo:List Op)(wg wb l:List Tree)(d:Int)(mx0_1:List Tree)(N0:NT)(Q:QT):=AW (Z2 ZcE) Tryz.f108 Zk8 [1,0,0] (Z6H wo wg wb l d mx0_1) (xT N0 (xB 0 Q))
theorem ZrD(wo:List Op)(wg wb l:List Tree)(d:Int)(mx0_1:List Tree)(N0:NT)(Q:QT)(h:let z2:=decide (d < (l.length:Int));let z1:=l.getD d.toNat Tree.nil;let z0:=Tree.mk (Tree.kind z1) (Tree.words z1) (Tree.kids z1);iB z2 (((0:Int)<=d/\d < (l.length:Int))/\((Jv (z0,()))/\((mx0_1.length+([(Tree.mk 0 [] [])]).length)*56<=140737488355328)/\((0:Int)<=(mx0_1.length:Int)/\(mx0_1.length:Int) < ((mx0_1++([(Tree.mk 0 [] [])])).length:Int))/\(mx0_1.length<=(Int.toNat (mx0_1.length:Int)))/\((InR (d+1))/\(N0 (Z6H wo wg wb l (d+1) (List.set (mx0_1++([(Tree.mk 0 [] [])])) (Int.toNat (mx0_1.length:Int)) (Tree.mk (Tree.kind (Z3 z0)) (Tree.words (Z3 z0)) (Tree.kids (Z3 z0))))))))) (Q .normal (⟨[(0,.ptr (.x 0) 1),(6,.c (sU .tree l .unk)),pI 7 (l.length:Int),pI 8 d,pB 9 z2],[(.x 0,[.mref (.x 0 0),sU .tree mx0_1 (.own (.x 0 1)),sU .tree wb (.own (.x 0 2))])],[(.x 0 0,LC.mk (U:=U) .op wo 0)]⟩:LSt U))):
  Zz8 wo wg wb l d mx0_1 N0 Q:=
 Eq.mpr V5 h
def ZzQ(wo:List Op)(wg wb l:List Tree):Prop:=AW (Z2 ZcE) Tryz.f108 Zk8 [] (Z0W (ZcL.can ((wo,wg,wb,()),l,())) (ZcL.canX ((wo,wg,wb,()),l,())) (ZcL.canL ((wo,wg,wb,()),l,()))) (Z3B cfg Tryz.f108.ntmps Tryz.f108.results.toList (ZsA ((wo,wg,wb,()),l,())) (Znr ((wo,wg,wb,()),l,())) (Zns ((wo,wg,wb,()),l,())))
theorem Zy3(c33:CT 33 Jr)(hb:∀ (h:List Op) (s:List Tree) (d:List Tree) (l:List Tree) (_:Unit),Zeg ((h,s,d,()),l,())->ZzQ h s d l):CT 108 Zh7:=
 Z0s (l:=[(33,Jr)]) Zk rfl (⟨c33,trivial⟩) Zk8 Tryz.func108 rfl rfl 2 (fun _=> rfl) V2 (fun ⟨⟨h,s,d,_⟩,l,_⟩=> hb h s d l ())
def Z4C(wo:List Op)(wg wb l:List Tree)(d:Int)(mx0_2:List Tree):LSt U:=(⟨[(0,.ptr (.x 0) 2),(6,.c (sU .tree l .unk)),pI 7 (l.length:Int),pI 8 d],[(.x 0,[.mref (.x 0 0),sU .tree wg (.own (.x 0 1)),sU .tree mx0_2 (.own (.x 0 2))])],[(.x 0 0,LC.mk (U:=U) .op wo 0)]⟩:LSt U)
abbrev ZH0(wo:List Op)(wg wb l:List Tree)(Q:QT):=AW (Z2 ZcE) Tryz.f108 Zk8 [] (⟨[(0,.ptr (.x 0) 2),(1,.c (sU .tree l .unk))],[(.x 0,[.mref (.x 0 0),sU .tree wg (.own (.x 0 1)),sU .tree wb (.own (.x 0 2))])],[(.x 0 0,LC.mk (U:=U) .op wo 0)]⟩:LSt U) Q
theorem ZBa(wo:List Op)(wg wb l:List Tree)(Q:QT)(h:Zl (AW (Z2 ZcE) Tryz.f108 Zk8 [1,0,0]) (Z4C wo wg wb l 0 wb) (xB 0 Q)):
  ZH0 wo wg wb l Q:=
 Eq.mpr V5 h
abbrev ZvP(wo:List Op)(wg wb l:List Tree)(d:Int)(mx0_2:List Tree)(N0:NT)(Q:QT):=AW (Z2 ZcE) Tryz.f108 Zk8 [1,0,0] (Z4C wo wg wb l d mx0_2) (xT N0 (xB 0 Q))
theorem ZpJ(wo:List Op)(wg wb l:List Tree)(d:Int)(mx0_2:List Tree)(N0:NT)(Q:QT)(h:let z2:=decide (d < (l.length:Int));let z1:=l.getD d.toNat Tree.nil;let z0:=Tree.mk (Tree.kind z1) (Tree.words z1) (Tree.kids z1);iB z2 (((0:Int)<=d/\d < (l.length:Int))/\((Jv (z0,()))/\((mx0_2.length+([(Tree.mk 0 [] [])]).length)*56<=140737488355328)/\((0:Int)<=(mx0_2.length:Int)/\(mx0_2.length:Int) < ((mx0_2++([(Tree.mk 0 [] [])])).length:Int))/\(mx0_2.length<=(Int.toNat (mx0_2.length:Int)))/\((InR (d+1))/\(N0 (Z4C wo wg wb l (d+1) (List.set (mx0_2++([(Tree.mk 0 [] [])])) (Int.toNat (mx0_2.length:Int)) (Tree.mk (Tree.kind (Z3 z0)) (Tree.words (Z3 z0)) (Tree.kids (Z3 z0))))))))) (Q .normal (⟨[(0,.ptr (.x 0) 2),(6,.c (sU .tree l .unk)),pI 7 (l.length:Int),pI 8 d,pB 9 z2],[(.x 0,[.mref (.x 0 0),sU .tree wg (.own (.x 0 1)),sU .tree mx0_2 (.own (.x 0 2))])],[(.x 0 0,LC.mk (U:=U) .op wo 0)]⟩:LSt U))):
  ZvP wo wg wb l d mx0_2 N0 Q:=
 Eq.mpr V5 h
def ZvW(wo:List Op)(wg wb l:List Tree):Prop:=AW (Z2 ZcE) Tryz.f108 Zk8 [] (Z0W (Zao.can ((wo,wg,wb,()),l,())) (Zao.canX ((wo,wg,wb,()),l,())) (Zao.canL ((wo,wg,wb,()),l,()))) (Z3B cfg Tryz.f108.ntmps Tryz.f108.results.toList (ZsA ((wo,wg,wb,()),l,())) (Zj5 ((wo,wg,wb,()),l,())) (Zj6 ((wo,wg,wb,()),l,())))
theorem Ztm(c33:CT 33 Jr)(hb:∀ (h:List Op) (s:List Tree) (d:List Tree) (l:List Tree) (_:Unit),Zeg ((h,s,d,()),l,())->ZvW h s d l):CT 108 Zdz:=
 Z0s (l:=[(33,Jr)]) Zk rfl (⟨c33,trivial⟩) Zk8 Tryz.func108 rfl rfl 2 (fun _=> rfl) V2 (fun ⟨⟨h,s,d,_⟩,l,_⟩=> hb h s d l ())
abbrev ZGZ(list:Int)(e:Edit)(Q:QT):=AW (Z2 Zmg) Tryz.f109 ZtA [] (L2 [pI 0 list,(1,.agg (enc .edit e))] []) Q
theorem ZB9(list:Int)(e:Edit)(Q:QT)(h:let z2:=(!(e.kind==0)) && (list==9);let z1:=bif (list==9) then (e.kind==2) else false;let z0:=(!(e.kind==0)) && z1;((Tt (!(e.kind==0)))/\(Tt (!(e.kind==0)))/\(Tt z2)/\(Tt z2)/\((!(e.kind==0))=true->(True->(!(e.kind==0))=true))/\((!(e.kind==0))=true->((list==9)=true->z2=true))/\(Tt (!(e.kind==0)))/\(Tt z0)/\(Tt z0)/\(Tt z0)/\(Tt z0)/\(Tt z0)/\(Tt z0)/\(z0=true->InR (((e.words.length:Int):Int)+(e.kids.length:Int)))/\(Tt z0)/\((!(e.kind==0))=true->(True->(!(e.kind==0))=true))/\((!(e.kind==0))=true->(z1=true->z0=true))/\((e.kind==0)=false->(!(e.kind==0))=true)/\(Q .ret (L2 [(4,.c (.bool (bif (e.kind==0) then true else (bif z1 then (((((e.words.length:Int):Int)+(e.kids.length:Int)):Int)==0) else false))))] [])))):
  ZGZ list e Q:=
 Eq.mpr V5 h
def ZvV(list:Int)(e:Edit):Prop:=AW (Z2 Zmg) Tryz.f109 ZtA [] (Zi (Zpd.can (list,e,())) []) (EQ Tryz.f109 (ZnI (list,e,())) [])
theorem Ztl(hb:∀ (list:Int) (e:Edit) (_:Unit),Z8Q (list,e,())->ZvV list e):CT 109 Z3H:=
 Z1 (l:=[]) Zk rfl trivial ZtA Tryz.func109 rfl rfl 2 (fun _=> rfl) V2 (fun ⟨list,e,_⟩=> hb list e ())
abbrev ZGY(list:Int)(e:Edit)(Q:QT):=AW (Z2 Zmg) Tryz.f112 ZtA [] (L2 [pI 0 list,(1,.agg (enc .edit e))] []) Q
theorem ZB8(list:Int)(e:Edit)(Q:QT)(h:let z4:=(!(e.kind==0)) && (e.kind==2);let z1:=bif (e.kind==2) then (list==9) else false;let z2:=(!(e.kind==0)) && z1;let z0:=bif z1 then (((e.words.length:Int):Int)==0) else false;let z3:=(!(e.kind==0)) && z0;((Tt (!(e.kind==0)))/\(Tt (!(e.kind==0)))/\(Tt (!(e.kind==0)))/\(Tt z4)/\((!(e.kind==0))=true->(True->(!(e.kind==0))=true))/\((!(e.kind==0))=true->((e.kind==2)=true->z4=true))/\(Tt (!(e.kind==0)))/\(Tt z2)/\(Tt z2)/\(Tt z2)/\((!(e.kind==0))=true->(True->(!(e.kind==0))=true))/\((!(e.kind==0))=true->(z1=true->z2=true))/\(Tt (!(e.kind==0)))/\(Tt z3)/\(Tt z3)/\(Tt z3)/\((!(e.kind==0))=true->(True->(!(e.kind==0))=true))/\((!(e.kind==0))=true->(z0=true->z3=true))/\((e.kind==0)=false->(!(e.kind==0))=true)/\(Q .ret (L2 [(4,.c (.bool (bif (e.kind==0) then true else (bif z0 then (((e.kids.length:Int):Int)==0) else false))))] [])))):
  ZGY list e Q:=
 Eq.mpr V5 h
def ZvU(list:Int)(e:Edit):Prop:=AW (Z2 Zmg) Tryz.f112 ZtA [] (Zi (Zpd.can (list,e,())) []) (EQ Tryz.f112 (ZnI (list,e,())) [])
theorem Ztk(hb:∀ (list:Int) (e:Edit) (_:Unit),Zlp (list,e,())->ZvU list e):CT 112 Z3G:=
 Z1 (l:=[]) Zk rfl trivial ZtA Tryz.func112 rfl rfl 2 (fun _=> rfl) V2 (fun ⟨list,e,_⟩=> hb list e ())
end
theorem Z2u{α:Type}(l:List α)(z x:α):(l++[z]).set (Int.toNat (l.length:Int)) x=l++[x]:=by
 simp_all
theorem Z5B:∀ (F:List Op) (n:Int),YA F n=if F.length≠0/\(F.getD (F.length - 1) Op.nil).kind=0 then F.set (F.length - 1) ⟨(F.getD (F.length - 1) Op.nil).kind,(F.getD (F.length - 1) Op.nil).n+n,(F.getD (F.length - 1) Op.nil).l,(F.getD (F.length - 1) Op.nil).e⟩ else F++[⟨0,n,[],Edit.nil⟩]
 | [],n=> by simp [YA]
 | [o],n=> by simp [YA]
 | o ::p ::r,n=> by
  have d:=Z5B (p ::r) n
  have e:(o ::p ::r).length - 1=((p ::r).length - 1)+1:=by simp
  rw [YA,d,e]
  grind
theorem Z6O(s:Wst):(Zc s).out.length<=s.out.length+2:=by
 simp only [Zc,Jk]
 grind
theorem Z6N(s:Wst):∀ o∈(Zc s).out,o∈s.out\/o.n=0:=by
 intro o d
 simp only [Zc,Jk,Qk] at d
 grind
theorem ZqY:Contract Tryz.prog cfg 110 Z1W:=by
 refine Zy2 ?_
 intro d s h _ hp
 simp only [Z5k] at hp
 refine ZGa d s h _ ?_
 rintro y1 ab y2 u
 have hy:y1=Edit.nil:=ab
 subst hy
 rw [Z2u] at u
 subst u
 (simp only [iB,vcS])
 refine ⟨fun h1=> ⟨by simp;omega,by simp;omega,V0,fun h2=> ⟨by simp;omega,by simp;omega,V0,?_⟩,fun h2=> ?_⟩,fun h1=> ⟨fun h2=> ⟨by simp;omega,by simp;omega,V0,?_⟩,fun h2=> ?_⟩⟩
 .rw [Z2u]
  have e:Zc ⟨d,s,h⟩=⟨d++[⟨1,0,s,Edit.nil⟩]++[⟨2,0,h,Edit.nil⟩],[],[]⟩:=by
   simp only [Zc,Jk];rw [JC,JC];simp
  simp only [ZaF,Z6b,Z6c,e]
  exact V1
 .have e:Zc ⟨d,s,h⟩=⟨d++[⟨1,0,s,Edit.nil⟩],[],[]⟩:=by
   simp only [Zc,Jk];rw [JC,YC];simp
  simp only [ZaF,Z6b,Z6c,e]
  exact V1
 .rw [Z2u]
  have e:Zc ⟨d,s,h⟩=⟨d++[⟨2,0,h,Edit.nil⟩],[],[]⟩:=by
   simp only [Zc,Jk];rw [YC,JC];simp
  simp only [ZaF,Z6b,Z6c,e]
  exact V1
 .have e:Zc ⟨d,s,h⟩=⟨d,[],[]⟩:=by
   simp only [Zc,Jk];rw [YC,YC];simp
  simp only [ZaF,Z6b,Z6c,e]
  exact V1
theorem ZDD:Contract Tryz.prog cfg 107 Z61:=by
 refine Zy4 ZqY ?_
 intro u s d n _ hp
 simp only [Z7J] at hp
 obtain ⟨p1,p2,p3,p4,p5,p6⟩:=hp
 have aj:=Z6O ⟨u,s,d⟩
 have ae:=Z6N ⟨u,s,d⟩
 have hg:(Zc ⟨u,s,d⟩).gone=[]:=rfl
 have hb:(Zc ⟨u,s,d⟩).brought=[]:=rfl
 have hk:=Z5B (Zc ⟨u,s,d⟩).out n
 have ak:Y7 ⟨u,s,d⟩ n=⟨YA (Zc ⟨u,s,d⟩).out n,[],[]⟩:=rfl
 refine ZGc u s d n _ ?_
 simp only [hg,hb,Zld,Zhm,Zhn,ak]
 generalize (Zc ⟨u,s,d⟩).out=F at*
 simp only at aj ae
 rintro y1 ah y2 aw y3 af y4 ai
 have hy:y1=Edit.nil:=ah
 subst hy
 have e2:y2=F.length - 1:=V0
 subst e2
 rw [<-af,<-ai] at hk
 simp only [iB,vcT,vcS,aiT,true_and]
 refine ⟨by simp only [Z5k];exact ⟨p1,p2,p3⟩,V4,fun h=> ⟨h,V0⟩,fun h=> ?_,fun h=> ?_⟩
 .have am:0<=y3.n/\y3.n<=100000000000000000:=by
   have hm:y3∈F:=by rw [af];exact Zb V0 _
   rcases ae y3 hm with h1 | h1
   .exact p4 y3 h1
   .omega
  rw [if_pos ⟨V0,h.2⟩] at hk
  rw [hk]
  refine ⟨V0,V4,V0,V0,?_⟩
  exact V1
 .rw [JC] at hk
  rw [hk,Z2u]
  refine ⟨by simp;omega,by simp;omega,V0,?_⟩
  exact V1
theorem ZIJ:Contract Tryz.prog cfg 108 Zh7:=by
 refine Zy3 c33 ?_
 intro wo h wb l _ hp
 simp only [Zeg] at hp
 obtain ⟨p1,p2,p3,p4⟩:=hp
 have hl:=Zs l
 refine ZGb _ _ _ _ _ ?_
 refine Z4 (ι:=Int × List Tree) (fun s=> Z6H wo h wb l s.1 s.2) (fun s=> 0<=s.1/\s.1<=l.length/\s.2.length=h.length+s.1/\s.2++Z9 (l.drop s.1.toNat)=h++Z9 l) (fun s=> ((l.length:Int) - s.1).toNat) (0,h) rfl ⟨by simp,by simp,by simp,by simp⟩ ?_
 rintro ⟨i,out⟩ ⟨h1,h2,h3,d⟩
 dsimp only at h1 h2 h3 d
 refine ZrD _ _ _ _ _ _ _ _ ?_
 (simp only [iB,vcS])
 (simp only [vE])
 refine ⟨fun u=> ?_,fun u=> ?_⟩
 .have hm:=Y2 (Zb (l:=l) (i:=i.toNat) V0 Tree.nil)
  rw [Y1 h1 u Tree.nil] at d
  simp only [Z9,QD] at d
  rw [Z2u]
  refine ⟨⟨h1,u⟩,by simp only [Jv];omega,by simp;omega,by simp;omega,V0,V4,(i+1,out++[Z3 (l.getD i.toNat Tree.nil)]),rfl,⟨V3,V3,by simp;omega,?_⟩,V3⟩
  simp only [Ql,Qt,QI]
  exact d
 .rw [Q6 V0] at d
  simp only [Z9,Xe,Qr] at d
  rw [d]
  exact V1
theorem ZGU:Contract Tryz.prog cfg 108 Zdz:=by
 refine Ztm c33 ?_
 intro wo wg h l _ hp
 simp only [Zeg] at hp
 obtain ⟨p1,p2,p3,p4⟩:=hp
 have hl:=Zs l
 refine ZBa _ _ _ _ _ ?_
 refine Z4 (ι:=Int × List Tree) (fun s=> Z4C wo wg h l s.1 s.2) (fun s=> 0<=s.1/\s.1<=l.length/\s.2.length=h.length+s.1/\s.2++Z9 (l.drop s.1.toNat)=h++Z9 l) (fun s=> ((l.length:Int) - s.1).toNat) (0,h) rfl ⟨by simp,by simp,by simp,by simp⟩ ?_
 rintro ⟨i,out⟩ ⟨h1,h2,h3,d⟩
 dsimp only at h1 h2 h3 d
 refine ZpJ _ _ _ _ _ _ _ _ ?_
 (simp only [iB,vcS])
 (simp only [vE])
 refine ⟨fun u=> ?_,fun u=> ?_⟩
 .have hm:=Y2 (Zb (l:=l) (i:=i.toNat) V0 Tree.nil)
  rw [Y1 h1 u Tree.nil] at d
  simp only [Z9,QD] at d
  rw [Z2u]
  refine ⟨⟨h1,u⟩,by simp only [Jv];omega,by simp;omega,by simp;omega,V0,V4,(i+1,out++[Z3 (l.getD i.toNat Tree.nil)]),rfl,⟨V3,V3,by simp;omega,?_⟩,V3⟩
  simp only [Ql,Qt,QI]
  exact d
 .rw [Q6 V0] at d
  simp only [Z9,Xe,Qr] at d
  rw [d]
  exact V1
theorem Zv2:Contract Tryz.prog cfg 109 Z3H:=by
 refine Ztl ?_
 intro list e _ d
 simp only [Z8Q] at d
 refine ZB9 _ _ _ ?_
 simp only [iB,vcT,vcS,aiT,true_and]
 refine ⟨fun _=> by unfold InR;grind,Z5 rfl ?_⟩
 rw [Qn]
 simp only [Z5D]
 grind
theorem Zv1:Contract Tryz.prog cfg 112 Z3G:=by
 refine Ztk ?_
 intro list e _ d
 refine ZB8 _ _ _ ?_
 simp only [iB,vcT,vcS,aiT,true_and]
 refine Z5 rfl ?_
 rw [Qn]
 simp only [Z5D]
 grind
noncomputable def Z53:Fs U:=ZD6 Zh7 Zdz
theorem ZuZ:Contract Tryz.prog cfg 108 Z53:=ZkD ZIJ ZGU
noncomputable section
def Z1O(a:Edit × Unit):Prop:=Zd a.1<=20000000000/\∃ d,Z6 a.1 d=true
def ZbF(a:Edit × Unit):V U:= .agg (enc .edit (Zq a.1))
def JK:Fs U:=fs Zvc (fun a=> [Z1O a]) ZbF
def Zih:ArgL (Int × List Op × Unit):=(.cons (Yc .i64) (.cons (aSl .op) .nil))
def Ze2(a:Int × List Op × Unit):Prop:=Zj a.2.1<=20000000000/\∀ o∈a.2.1,∃ d,Zf a.1 o d=true
def Zly(a:Int × List Op × Unit):Nat:=2*Zj a.2.1+1
def Zj9(a:Int × List Op × Unit):V U:= .c (sU .op ((Zc (Zv a.1 a.2.1 (Wst.mk [] [] []))).out) .unk)
def ZrQ:Fs U:=fs Zih (fun a=> [Ze2 a]) Zj9
def Zb3(N:Nat):List (FuncId × Fs U):=(42,fs Zvc (fun a=> [Z1O a,ZhJ a < N]) ZbF) ::(76,fs Zih (fun a=> [Ze2 a,Zly a < N]) Zj9) ::[(33,Jr),(109,Z3H),(107,Z61),(110,Z1W),(108,Z53)]
def ZlL:Zg U:=lvk [([1,2],[1,2]),([1,2,3],[1,2,3]),([1,2,3,12],[1,2,3]),([1,2,3,12,13],[1,2,3]),([2,3],[2,3]),([1,2,3,12,23],[1,2,3]),([1,2,3],[1,2,3]),([2,3,32,33,34],[2,((.loc 3),(an 8 [.own .kid]))]),([2,3,32,33,34,35],[2,3]),([2,3,5,32,33,34],[2,3,5]),([2,3,32,33,34],[2,3]),([2,3,32,33,34],[2,((.loc 3),(an 8 [.own .kid]))]),([1,2,3,50],[1,2,3]),([2,3],[2,3]),([2],[2])]
def Z9P(e:Edit)(h:Int)(d:List Kid):LSt U:=(L2 [pL 2,pL 3,(32,.c (sU .kid e.kids .unk)),pI 33 (e.kids.length:Int),pI 34 h] [(.loc 2,zc1),(.loc 3,[ci e.kind,ci 0,.nils,.nils,ci 0,.nils,.nils,sU .wedit (([]:List WEdit)++e.words) (.own (.l 3 7)),sU .kid d (.own (.l 3 8)),ci e.list,.nils])])
abbrev W42(N:Nat)(e:Edit)(Q:QT):=AW (Z2 (Zb3 N)) Tryz.f42 ZlL [] (L2 [(0,.agg (enc .edit e))] []) Q
theorem ZIb(N:Nat)(e:Edit)(Q:QT)(h:let z1:=Tree.mk e.new.kind e.new.words e.new.kids;let z0:=Tree.mk e.old.kind e.old.words e.old.kids;iB (e.kind==1) ((Jv (z0,()))/\(Jv (z1,()))/\(Q .ret (L2 [pL 2] [(.loc 2,([ci e.kind]++enc .tree (Z3 z0)++enc .tree (Z3 z1)++[.nils,.nils,ci e.list,.nils]))]))) (iB (e.kind==2) (((([]:List WEdit).length+e.words.length)*32<=140737488355328)/\(Zl (AW (Z2 (Zb3 N)) Tryz.f42 ZlL [1,1,0,1,0,1,1,1,0,1,1,0,0]) (Z9P e 0 []) (xB 1 (xB 0 (SW (Z2 (Zb3 N)) Tryz.f42 ZlL [1,1,1] Q))))) (iB (e.kind==3) ((Ze2 (e.list,e.ops,()))/\(Zly (e.list,e.ops,()) < N)/\(Q .ret (L2 [pL 2] [(.loc 2,[ci e.kind,ci 0,.nils,.nils,ci 0,.nils,.nils,.nils,.nils,ci e.list,sU .op ((Zc (Zv e.list e.ops (Wst.mk [] [] []))).out) .unk])]))) (Q .ret (L2 [pL 2] [(.loc 2,[ci e.kind,ci 0,.nils,.nils,ci 0,.nils,.nils,.nils,.nils,ci e.list,.nils])]))))):
  W42 N e Q:=
 Eq.mpr V5 h
abbrev ZEa(N:Nat)(e:Edit)(h:Int)(d:List Kid)(N0:NT)(Q:QT):=AW (Z2 (Zb3 N)) Tryz.f42 ZlL [1,1,0,1,0,1,1,1,0,1,1,0,0] (Z9P e h d) (xT N0 (xB 1 (xB 0 (SW (Z2 (Zb3 N)) Tryz.f42 ZlL [1,1,1] Q))))
theorem ZwI(N:Nat)(e:Edit)(s:Int)(d:List Kid)(N0:NT)(Q:QT)(h:∀ aa,aa=(e.kids.getD s.toNat (KidOf.mk 0 Edit.nil))->∀ u,u=(aa.e)->∀ ab,ab=(Zq u)->iB (decide (s < (e.kids.length:Int))) (((0:Int)<=s/\s < (e.kids.length:Int))/\((Z1O (u,()))/\(ZhJ (u,()) < N)/\((d.length+([(KidOf.mk aa.at_ ab:Kid)]).length)*208<=140737488355328)/\((InR (s+1))/\(N0 (Z9P e (s+1) (d++([(KidOf.mk aa.at_ ab:Kid)]))))))) (Q .ret (L2 [pL 2] [(.loc 2,[ci e.kind,ci 0,.nils,.nils,ci 0,.nils,.nils,sU .wedit (([]:List WEdit)++e.words) (.own (.l 2 7)),sU .kid d (.own (.l 2 8)),ci e.list,.nils])]))):
  ZEa N e s d N0 Q:=
 Eq.mpr V5 (h _ rfl _ (Z8 _) _ (Z8 _))
def ZEV(N:Nat)(e:Edit):Prop:=AW (Z2 (Zb3 N)) Tryz.f42 ZlL [] (Zi (Zvc.can (e,())) []) (EQ Tryz.f42 (ZbF (e,())) [])
abbrev ZHk:Prop:=∀ (N:Nat) (e:Edit) (_:Unit),Z1O (e,())->ZhJ (e,()) < N+1->ZEV N e
def ZlK:Zg U:=lvk [([0,1],[]),([0,1,5],[((.loc 10),[.wr .op])]),([0,5,11,12,13],[((.loc 10),[.wr .op,.own .tree,.own .tree])]),([0,5,11,12,13,14],[((.loc 10),[.wr .op])]),([0,5,7,11,12,13],[7,((.loc 10),[.wr .op])]),([0,5,7,11,12,13,18],[7,((.loc 10),[.wr .op])]),([0,5,7,11,12,13,18,19],[7,((.loc 10),[.wr .op])]),([0,5,11,12,13],[((.loc 10),[.wr .op])]),([0,5,7,11,12,13,18,25],[7,((.loc 10),[.wr .op])]),([0,5,11,12,13],[((.loc 10),[.wr .op])]),([0,5,7,11,12,13,18,33],[7,((.loc 10),[.wr .op])]),([0,5,11,12,13],[((.loc 10),[.wr .op])]),([0,5,7,11,12,13,41],[7,((.loc 10),[.wr .op])]),([0,5,8,11,12,13],[8,((.loc 10),[.wr .op])]),([0,5,8,11,12,13,48],[8,((.loc 10),[.wr .op])]),([0,5,11,12,13],[((.loc 10),[.wr .op])]),([0,5,8,11,12,13],[8,((.loc 10),[.wr .op])]),([0,5,11,12,13],[((.loc 10),[.wr .op])]),([0,5,11,12,13],[((.loc 10),[.wr .op,.own .tree,.own .tree])]),([5],[((.loc 10),[.wr .op])]),([4],[])]
def JT(list:Int)(l:List Op)(u:Int)(d:List Op)(s h:List Tree):LSt U:=(⟨[pI 0 list,(5,.ptr (.loc 10) 0),(11,.c (sU .op l .unk)),pI 12 (l.length:Int),pI 13 u],[(.loc 10,[.mref (.l 10 0),sU .tree s (.own (.l 10 1)),sU .tree h (.own (.l 10 2))])],[(.l 10 0,LC.mk (U:=U) .op d 0)]⟩:LSt U)
abbrev W76(N:Nat)(list:Int)(l:List Op)(Q:QT):=AW (Z2 (Zb3 N)) Tryz.f76 ZlK [] (L2 [pI 0 list,(1,.c (sU .op l .unk))] []) Q
theorem ZHK(N:Nat)(list:Int)(l:List Op)(Q:QT)(h:Zl (AW (Z2 (Zb3 N)) Tryz.f76 ZlK [1,1,0,1,0,0]) (JT list l 0 [] [] []) (xB 0 (SW (Z2 (Zb3 N)) Tryz.f76 ZlK [1,1,1] Q))):
  W76 N list l Q:=
 Eq.mpr V5 h
abbrev ZDZ(N:Nat)(list:Int)(l:List Op)(u:Int)(d:List Op)(s h:List Tree)(N0:NT)(Q:QT):=AW (Z2 (Zb3 N)) Tryz.f76 ZlK [1,1,0,1,0,0] (JT list l u d s h) (xT N0 (xB 0 (SW (Z2 (Zb3 N)) Tryz.f76 ZlK [1,1,1] Q)))
theorem Zwg(N:Nat)(list:Int)(l:List Op)(aa:Int)(d:List Op)(s u:List Tree)(N0:NT)(Q:QT)(h:∀ ab,ab=(l.getD aa.toNat Op.nil)->∀ af,af=(Edit.mk 0 (Tree.mk 0 [] []) (Tree.mk 0 [] []) [] [] 0 [])->∀ ai,ai=(Int.toNat (((Zc (Wst.mk d s u)).out).length:Int))->∀ ah,ah=(ab.e)->∀ ae,ae=(Zq ah)->let z3:=Z5k ((d,s,u,()),());let z2:=Wst.mk d s (u++Z9 ab.l);let z1:=Wst.mk d (s++Z9 ab.l) u;let z0:=Wst.mk d s u;iB (decide (aa < (l.length:Int))) (((0:Int)<=aa/\aa < (l.length:Int))/\(iB (ab.kind==0) ((Z7J ((d,s,u,()),ab.n,()))/\((InR (aa+1))/\(N0 (JT list l (aa+1) ((Y7 z0 ab.n).out) ((Y7 z0 ab.n).gone) ((Y7 z0 ab.n).brought))))) (iB (ab.kind==1) ((Zeg ((d,s,u,()),ab.l,()))/\((InR (aa+1))/\(N0 (JT list l (aa+1) (z1.out) (z1.gone) (z1.brought))))) (iB (ab.kind==2) ((Zeg ((d,s,u,()),ab.l,()))/\((InR (aa+1))/\(N0 (JT list l (aa+1) (z2.out) (z2.gone) (z2.brought))))) (iB (ab.kind==3) ((Z1O (ah,()))/\(ZhJ (ah,()) < N)/\((Z8Q (list,ae,()))/\(iB (Z5D list ae) ((Z7J ((d,s,u,()),1,()))/\((InR (aa+1))/\(N0 (JT list l (aa+1) ((Y7 z0 1).out) ((Y7 z0 1).gone) ((Y7 z0 1).brought))))) (z3/\(((((Zc z0).out).length+([(OpOf.mk 0 0 [] af:Op)]).length)*240<=140737488355328)/\((0:Int)<=(((Zc z0).out).length:Int)/\(((Zc z0).out).length:Int) < ((((Zc z0).out)++([(OpOf.mk 0 0 [] af:Op)])).length:Int))/\((0:Nat)<=ai)/\((InR (aa+1))/\(N0 (JT list l (aa+1) (List.set (((Zc z0).out)++([(OpOf.mk 0 0 [] af:Op)])) ai (OpOf.mk 3 0 [] ae:Op)) ((Zc z0).gone) ((Zc z0).brought))))))))) ((InR (aa+1))/\(N0 (JT list l (aa+1) d s u)))))))) (z3/\(Q .ret (L2 [(4,.c (sU .op ((Zc z0).out) (.own (.e 4 0))))] [])))):
  ZDZ N list l aa d s u N0 Q:=
 Eq.mpr V5 (h _ rfl _ rfl _ rfl _ (Z8 _) _ (Z8 _))
def ZEu(N:Nat)(list:Int)(l:List Op):Prop:=AW (Z2 (Zb3 N)) Tryz.f76 ZlK [] (Zi (Zih.can (list,l,())) []) (EQ Tryz.f76 (Zj9 (list,l,())) [])
abbrev ZHb:Prop:=∀ (N:Nat) (list:Int) (l:List Op) (_:Unit),Ze2 (list,l,())->Zly (list,l,()) < N+1->ZEu N list l
theorem Zqx(c33:CT 33 Jr)(Zv2:CT 109 Z3H)(ZDD:CT 107 Z61)(ZqY:CT 110 Z1W)(ZuZ:CT 108 Z53)(ha:ZHk)(hb:ZHb):CT 42 JK/\CT 76 ZrQ:=
 JA (μA:=ZhJ) (μB:=Zly) (l:=[(33,Jr),(109,Z3H),(107,Z61),(110,Z1W),(108,Z53)]) Zk rfl (⟨c33,Zv2,ZDD,ZqY,ZuZ,trivial⟩) ZlL ZlK Tryz.func42 Tryz.func76 rfl rfl rfl rfl 1 2 (fun _=> rfl) (fun _=> rfl) V2 V2 (fun N ⟨e,_⟩=> ha N e ()) (fun N ⟨list,l,_⟩=> hb N list l ())
end
theorem ZqH(s:Wst)(n:Int):(Y7 s n).out.length<=s.out.length+3:=by
 have h:=Z6O s
 simp only [Y7]
 rw [Z5B]
 grind
theorem ZyH{s:Wst}{n B K:Int}(hB:0<=B)(hn:0<=n/\n<=K)(h:∀ o∈s.out,0<=o.n/\o.n<=B):∀ o∈(Y7 s n).out,0<=o.n/\o.n<=B+K:=by
 have u:∀ o∈(Zc s).out,0<=o.n/\o.n<=B:=by
  intro o d
  rcases Z6N s o d with h1 | h1
  .exact h o h1
  .omega
 intro o d
 simp only [Y7] at d
 rw [Z5B] at d
 grind
theorem Zet:∀ (l:List Kid),(Jd l).length=l.length
 | []=> rfl
 | k ::r=> by simp [Jd,Zet r]
theorem Zlv(e:Edit):(Zq e).words.length<=e.words.length/\(Zq e).kids.length<=e.kids.length:=by
 rw [Z6k]
 split
 .simp
 .split
  .simp [Zet]
  .split <;> simp
theorem Z8B{list:Int}{o:Op}{d:Int}(h:Zf list o d=true)(hk:o.kind=0):1<=o.n/\o.n<=1048576:=by
 obtain ⟨k,n,l,e⟩:=o
 simp only at hk
 subst hk
 simp [Zf] at h
 grind
theorem Z8C{list:Int}{o:Op}{d:Int}(h:Zf list o d=true)(hk:o.kind=3):Z6 o.e d=true:=by
 obtain ⟨k,n,l,e⟩:=o
 simp only at hk
 subst hk
 simp [Zf] at h
 exact h.2.1.2
theorem ZgC{e:Edit}{d:Int}(h:Z6 e d=true)(hk:e.kind=2):∀ k∈e.kids,∃ d,Z6 k.e d=true:=by
 obtain ⟨k,o,n,w,ks,l,os⟩:=e
 change k=2 at hk
 subst hk
 have u:∃ d s,Zz s ks d=true:=by
  unfold Z6 at h
  split at h
  .cases h
  .grind
 obtain ⟨d',s,u⟩:=u
 change ∀ k∈ks,_
 clear h
 induction ks generalizing s with
 | nil=> grind
 | cons a r ih=>
  simp only [Zz,Q0] at u
  intro k hk
  rcases Q7.1 hk with rfl | hk
  .obtain ⟨a,e⟩:=k
   simp only [YM,Q0] at u
   grind
  grind
theorem ZjG{e:Edit}{d:Int}(h:Z6 e d=true)(hk:e.kind=3):∀ o∈e.ops,∃ d,Zf e.list o d=true:=by
 obtain ⟨k,o,n,w,ks,l,os⟩:=e
 change k=3 at hk
 subst hk
 have s:∃ d,Zy l os d=true:=by
  unfold Z6 at h
  split at h
  .cases h
  .grind
 obtain ⟨u,s⟩:=s
 change ∀ o∈os,∃ d,Zf l o d=true
 clear h
 induction os with
 | nil=> grind
 | cons a r ih=>
  simp only [Zy,Q0] at s
  grind
theorem b76:ZHb:=by
 intro N list l _ hp hN
 simp only [Ze2,Zly] at hp hN
 obtain ⟨p1,p3⟩:=hp
 have hl:=ZM l
 refine ZHK _ _ _ _ ?_
 refine Z4 (ι:=Int × Wst) (fun s=> JT list l s.1 s.2.out s.2.gone s.2.brought)
  (fun s=> 0<=s.1/\s.1<=l.length/\Zv list (l.drop s.1.toNat) s.2=Zv list l ⟨[],[],[]⟩/\s.2.out.length<=3*s.1/\s.2.gone.length+s.2.brought.length+Zj (l.drop s.1.toNat)<=Zj l/\∀ o∈s.2.out,0<=o.n/\o.n<=s.1*1048576)
  (fun s=> ((l.length:Int) - s.1).toNat) (0,⟨[],[],[]⟩) rfl ⟨by simp,by simp,by simp,by simp,by simp,by simp⟩ ?_
 rintro ⟨i,s⟩ ⟨g1,g2,h,g4,g5,g6⟩
 dsimp only at g1 g2 h g4 g5 g6
 refine Zwg _ _ _ _ _ _ _ _ _ ?_
 rintro y1 ar y2 aw y3 ak y4 ah y5 aj
 have hy:y2=Edit.nil:=aw
 subst hy
 have es:Wst.mk s.out s.gone s.brought=s:=rfl
 simp only [es] at ak ⊢
 (simp only [iB,vcS])
 refine ⟨fun hi=> ?_,fun hi=> ?_⟩
 .have af:=Zb (l:=l) (i:=i.toNat) V0 Op.nil
  have hm:=ZL af
  have hr:=p3 _ af
  rw [Y1 g1 hi Op.nil] at h g5
  rw [<-ar] at h g5 hm hr
  have av:=ZG y1
  simp only [Zv,YO,Zj] at h g5
  rw [<-ah,<-aj] at h
  obtain ⟨d,al⟩:=hr
  have bc:=Z6O s
  have hP:∀ n:Int,0<=n/\n<=1048576->Z7J ((s.out,s.gone,s.brought,()),n,()):=by
   intro n hn
   simp only [Z7J]
   refine ⟨V0,V0,V0,fun o u=> ?_,V0,V0⟩
   have:=g6 o u
   constructor
   .omega
   .have:i*1048576<=20000000000*1048576:=V0
    omega
  have hK:∀ n:Int,0<=n/\n<=1048576->Zv list (l.drop (i+1).toNat) (Y7 s n)=Zv list l ⟨[],[],[]⟩->
    (∃ j:Int × Wst,JT list l (i+1) (Y7 s n).out (Y7 s n).gone (Y7 s n).brought=JT list l j.1 j.2.out j.2.gone j.2.brought/\(0<=j.1/\j.1<=l.length/\Zv list (l.drop j.1.toNat) j.2=Zv list l ⟨[],[],[]⟩/\j.2.out.length<=3*j.1/\j.2.gone.length+j.2.brought.length+Zj (l.drop j.1.toNat)<=Zj l/\∀ o∈j.2.out,0<=o.n/\o.n<=j.1*1048576)/\((l.length:Int) - j.1).toNat < ((l.length:Int) - i).toNat):=by
   intro n hn he
   have h1:=ZqH s n
   have h2:=ZyH (s:=s) (n:=n) (B:=i*1048576) (K:=1048576) V0 hn g6
   refine ⟨(i+1,Y7 s n),rfl,⟨V0,V0,he,by grind,by simp only [Y7,Qj];omega,fun o u=> ?_⟩,V0⟩
   have:=h2 o u
   dsimp only
   omega
  refine ⟨⟨g1,hi⟩,fun hk=> ?_,fun hk=> ⟨fun aa=> ?_,fun aa=> ⟨fun ae=> ?_,fun ae=> ⟨fun ab=> ?_,fun ab=> ?_⟩⟩⟩⟩
  .rw [if_pos hk] at h
   have h1:=Z8B al hk
   exact ⟨hP _ V0,V4,hK _ V0 h⟩
  .rw [if_neg hk,if_pos aa] at h
   refine ⟨by simp only [Zeg];omega,V4,(i+1,⟨s.out,s.gone++Z9 y1.l,s.brought⟩),rfl,⟨V0,V0,h,by grind,?_,fun o u=> ?_⟩,V0⟩
   .have:=Zs y1.l
    simp only [Qa,Z9,X5];omega
   grind
  .rw [if_neg hk,if_neg aa,if_pos ae] at h
   refine ⟨by simp only [Zeg];omega,V4,(i+1,⟨s.out,s.gone,s.brought++Z9 y1.l⟩),rfl,⟨V0,V0,h,by grind,?_,fun o u=> ?_⟩,V0⟩
   .have:=Zs y1.l
    simp only [Qa,Z9,X5];omega
   .have:=g6 o u
    dsimp only;omega
  .rw [if_neg hk,if_neg aa,if_neg ae,if_pos ab] at h
   have au:=Z8C al ab
   rw [<-ah] at au
   have hw:=Zlv y4
   rw [<-aj] at hw
   have h1:=ZY y4
   have h2:=ZW y4.kids
   have ba:Zd y4<=Zx y1:=by rw [av,ah];omega
   refine ⟨by simp only [Z1O];grind,by simp only [ZhJ];omega,by simp only [Z8Q];omega,fun hq=> ?_,fun hq=> ?_⟩
   .rw [if_pos hq] at h
    exact ⟨hP 1 V0,V4,hK 1 V0 h⟩
   .rw [if_neg (by rw [hq];simp)] at h
    rw [ak,Z2u]
    refine ⟨by simp only [Z5k];omega,by grind,by grind,V0,V4,(i+1,⟨(Zc s).out++[⟨3,0,[],y5⟩],[],[]⟩),rfl,⟨V0,V0,h,by simp;omega,by simp;omega,fun o u=> ?_⟩,V0⟩
    dsimp only at u ⊢
    rcases Qk.1 u with u | u
    .rcases Z6N s o u with h5 | h5
     .grind
     .omega
    grind
  .rw [if_neg hk,if_neg aa,if_neg ae,if_neg ab] at h
   refine ⟨V4,(i+1,s),rfl,⟨V0,V0,h,by grind,by grind,fun o u=> ?_⟩,V0⟩
   grind
 .rw [Q6 V0] at h
  simp only [Zv] at h
  refine ⟨by simp only [Z5k];omega,?_⟩
  simp only [Zj9]
  rw [<-h]
  exact V1
theorem b42:ZHk:=by
 intro N e _ hp hN
 simp only [Z1O,ZhJ] at hp hN
 obtain ⟨p1,d,p3⟩:=hp
 have h1:=ZY e
 have h2:=ZW e.kids
 have h3:=ZM e.ops
 have ha:=Z6k e
 refine ZIb _ _ _ ?_
 (simp only [iB,vcS])
 (simp only [vE])
 refine ⟨fun hk=> ⟨by simp only [Jv];omega,by simp only [Jv];omega,?_⟩,fun hk=> ⟨fun h=> ⟨by simp;omega,?_⟩,fun h=> ⟨fun u=> ⟨?_,by simp only [Zly];omega,?_⟩,fun u=> ?_⟩⟩⟩
 .rw [if_pos hk] at ha
  simp only [ZbF,ha]
  exact V1
 .rw [if_neg hk,if_pos h] at ha
  refine Z4 (ι:=Int × List Kid) (fun s=> Z9P e s.1 s.2) (fun s=> 0<=s.1/\s.1<=e.kids.length/\s.2.length=s.1/\s.2++Jd (e.kids.drop s.1.toNat)=Jd e.kids) (fun s=> ((e.kids.length:Int) - s.1).toNat) (0,[]) rfl ⟨by simp,by simp,by simp,by simp⟩ ?_
  rintro ⟨j,ks⟩ ⟨f1,f2,f3,f4⟩
  dsimp only at f1 f2 f3 f4
  refine ZwI _ _ _ _ _ _ ?_
  rintro y1 ah y2 aj y3 ak
  (simp only [iB,vcS])
  refine ⟨fun hj=> ?_,fun hj=> ?_⟩
  .have ae:=Zb (l:=e.kids) (i:=j.toNat) V0 (KidOf.mk 0 Edit.nil)
   have hm:=YE ae
   have hr:=ZgC p3 h _ ae
   rw [Y1 f1 hj (KidOf.mk 0 Edit.nil)] at f4
   rw [<-ah] at f4 hm hr
   simp only [Jd,ZaQ] at f4
   rw [<-aj] at f4 hm hr
   rw [<-ak] at f4
   refine ⟨⟨f1,hj⟩,by simp only [Z1O];grind,by simp only [ZhJ];omega,by simp;omega,V4,(j+1,ks++[⟨y1.at_,y3⟩]),rfl,⟨V0,V0,by simp;omega,?_⟩,V0⟩
   grind
  .rw [Q6 V0] at f4
   simp only [Jd,Qr] at f4
   rw [f4]
   simp only [ZbF,ha]
   exact V1
 .simp only [Ze2]
  exact ⟨V0,fun o ho=> ZjG p3 u o ho⟩
 .rw [if_neg hk,if_neg h,if_pos u] at ha
  simp only [ZbF,ha]
  exact V1
 .rw [if_neg hk,if_neg h,if_neg u] at ha
  simp only [ZbF,ha]
  exact V1
theorem Zff:Contract Tryz.prog cfg 42 JK/\Contract Tryz.prog cfg 76 ZrQ:=Zqx c33 Zv2 ZDD ZqY ZuZ b42 b76
noncomputable section
def Z5A(N:Nat):List (FuncId × Fs U):=(44,fs Zvc (fun a=> [Z1O a,ZhJ a < N]) ZbF) ::(78,fs Zih (fun a=> [Ze2 a,Zly a < N]) Zj9) ::[(34,Jr),(111,Z60),(112,Z3G)]
def ZhP:Zg U:=lvk [([1,2],[1,2]),([1,2,6],[1,2]),([1,2,6,7],[1,2]),([2],[2]),([1,2,6,16],[1,2]),([1,2,3],[1,2,3]),([1,2,3],[1,2,3]),([1,2,3,4],[1,2,((.loc 3),(an 8 [.own .kid]))]),([1,2,3,4,29],[1,2,3]),([1,2,3,4],[1,2,((.loc 3),(an 8 [.own .kid]))]),([1,2,3,4],[1,2,3]),([2],[2]),([1,2,52],[1,2]),([2],[2]),([2],[2])]
def Z9K(e:Edit)(h:Int)(d:List Kid):LSt U:=(L2 [pL 1,pL 2,pL 3,pI 4 h] [(.loc 1,(enc .edit e)),(.loc 2,zc1),(.loc 3,[ci 2,ci 0,.nils,.nils,ci 0,.nils,.nils,sU .wedit (([]:List WEdit)++e.words) (.own (.l 3 7)),sU .kid d (.own (.l 3 8)),ci 0,.nils])])
abbrev W44(N:Nat)(e:Edit)(Q:QT):=AW (Z2 (Z5A N)) Tryz.f44 ZhP [] (L2 [(0,.agg (enc .edit e))] []) Q
theorem ZI9(N:Nat)(e:Edit)(Q:QT)(h:let z1:=Tree.mk e.new.kind e.new.words e.new.kids;let z0:=Tree.mk e.old.kind e.old.words e.old.kids;iB (e.kind==1) ((Jv (z0,()))/\(Jv (z1,()))/\(Q .ret (L2 [pL 2] [(.loc 2,([ci 1]++enc .tree (Z3 z0)++enc .tree (Z3 z1)++[.nils,.nils,ci 0,.nils]))]))) (iB (e.kind==2) (((([]:List WEdit).length+e.words.length)*32<=140737488355328)/\(Zl (AW (Z2 (Z5A N)) Tryz.f44 ZhP [1,0,1,0,1,1,1,0,1,1,0,1,0,0]) (Z9K e 0 []) (xB 1 (SW (Z2 (Z5A N)) Tryz.f44 ZhP [1,0,1,0,1,1,1,0,1,1,1] (xB 0 (SW (Z2 (Z5A N)) Tryz.f44 ZhP [1,1] Q)))))) (iB (e.kind==3) ((Ze2 (e.list,e.ops,()))/\(Zly (e.list,e.ops,()) < N)/\(Q .ret (L2 [pL 2] [(.loc 2,[ci 3,ci 0,.nils,.nils,ci 0,.nils,.nils,.nils,.nils,ci e.list,sU .op ((Zc (Zv e.list e.ops (Wst.mk [] [] []))).out) .unk])]))) (Q .ret (L2 [pL 2] [(.loc 2,zc1)]))))):
  W44 N e Q:=
 Eq.mpr V5 h
abbrev ZE9(N:Nat)(e:Edit)(h:Int)(d:List Kid)(N0:NT)(Q:QT):=AW (Z2 (Z5A N)) Tryz.f44 ZhP [1,0,1,0,1,1,1,0,1,1,0,1,0,0] (Z9K e h d) (xT N0 (xB 1 (SW (Z2 (Z5A N)) Tryz.f44 ZhP [1,0,1,0,1,1,1,0,1,1,1] (xB 0 (SW (Z2 (Z5A N)) Tryz.f44 ZhP [1,1] Q)))))
theorem ZwD(N:Nat)(e:Edit)(s:Int)(d:List Kid)(N0:NT)(Q:QT)(h:∀ aa,aa=(e.kids.getD s.toNat (KidOf.mk 0 Edit.nil))->∀ u,u=(aa.e)->∀ ab,ab=(Zq u)->iB (decide (s < (e.kids.length:Int))) (((0:Int)<=s/\s < (e.kids.length:Int))/\((0:Int)<=s/\s < (e.kids.length:Int))/\(Z1O (u,()))/\(ZhJ (u,()) < N)/\((d.length+([(KidOf.mk aa.at_ ab:Kid)]).length)*208<=140737488355328)/\((InR (s+1))/\(N0 (Z9K e (s+1) (d++([(KidOf.mk aa.at_ ab:Kid)])))))) (Q .ret (L2 [pL 2] [(.loc 2,[ci 2,ci 0,.nils,.nils,ci 0,.nils,.nils,sU .wedit (([]:List WEdit)++e.words) (.own (.l 2 7)),sU .kid d (.own (.l 2 8)),ci 0,.nils])]))):
  ZE9 N e s d N0 Q:=
 Eq.mpr V5 (h _ rfl _ (Z8 _) _ (Z8 _))
def ZET(N:Nat)(e:Edit):Prop:=AW (Z2 (Z5A N)) Tryz.f44 ZhP [] (Zi (Zvc.can (e,())) []) (EQ Tryz.f44 (ZbF (e,())) [])
abbrev ZHj:Prop:=∀ (N:Nat) (e:Edit) (_:Unit),Z1O (e,())->ZhJ (e,()) < N+1->ZET N e
def Z6Y:Zg U:=lvk [([0,1],[]),([0,1,(5,[.wr .op])],[]),([0,1,(5,[.wr .op]),6],[]),([0,1,(5,[.wr .op]),6,16],[]),([0,1,(5,[.wr .op]),6],[]),([0,1,(5,[.wr .op]),6,7,8],[]),([0,1,(5,[.wr .op]),7,8,9],[]),([0,1,(5,[.wr .op]),7,8,9,33],[]),([0,1,(5,[.wr .op]),8,9],[]),([0,1,(5,[.wr .op]),8,9,41],[]),([0,1,(5,[.wr .op]),8,9,41],[]),([0,1,(5,[.wr .op]),6],[]),([0,1,(5,[.wr .op]),6,51],[]),([4],[]),([0,1,(5,[.wr .op]),6,11],[11]),([0,1,(5,[.wr .op]),6,11,64],[11]),([0,1,(5,[.wr .op]),6,11],[11]),([0,1,(5,[.wr .op]),6,11,75],[11]),([0,1,(5,[.wr .op]),6,11],[11]),([0,1,(5,[.wr .op]),6,11,12],[11]),([0,1,(5,[.wr .op]),6,11,12,94],[11]),([0,1,(5,[.wr .op]),6],[]),([0,1,(5,[.wr .op]),6],[]),([4],[])]
def J8(list:Int)(l:List Op)(d:Int)(re_5_0:List Op):LSt U:=(⟨[pI 0 list,(1,.c (sU .op l .unk)),(5,.c (.mref (.e 5 0))),pI 6 d],[],[(.e 5 0,LC.mk (U:=U) .op re_5_0 0)]⟩:LSt U)
def Z5E(list:Int)(l:List Op)(h:Int)(d:List Op):LSt U:=(⟨[pI 0 list,(1,.c (sU .op l .unk)),(5,.c (.mref (.e 5 0))),pI 8 (h+YJ (l.drop h.toNat)),(9,.c (sU .tree (Z0V 2 (l.drop h.toNat)) .unk)),(41,.c (.bool (decide ((0:Int) < ((Z0V 2 (l.drop h.toNat)).length:Int)))))],[],[(.e 5 0,LC.mk (U:=U) .op d 0)]⟩:LSt U)
abbrev W78(N:Nat)(list:Int)(l:List Op)(Q:QT):=AW (Z2 (Z5A N)) Tryz.f78 Z6Y [] (L2 [pI 0 list,(1,.c (sU .op l .unk))] []) Q
theorem ZHI(N:Nat)(list:Int)(l:List Op)(Q:QT)(h:Zl (AW (Z2 (Z5A N)) Tryz.f78 Z6Y [1,1,0,1,0,0]) (J8 list l 0 []) (xB 0 (SW (Z2 (Z5A N)) Tryz.f78 Z6Y [1,1,1] Q))):
  W78 N list l Q:=
 Eq.mpr V5 h
abbrev ZDY(N:Nat)(list:Int)(l:List Op)(d:Int)(re_5_0:List Op)(N0:NT)(Q:QT):=AW (Z2 (Z5A N)) Tryz.f78 Z6Y [1,1,0,1,0,0] (J8 list l d re_5_0) (xT N0 (xB 0 (SW (Z2 (Z5A N)) Tryz.f78 Z6Y [1,1,1] Q)))
theorem Zwe(N:Nat)(list:Int)(l:List Op)(s:Int)(re_5_0:List Op)(N0:NT)(Q:QT)(h:∀ d,d=(Edit.mk 0 (Tree.mk 0 [] []) (Tree.mk 0 [] []) [] [] 0 [])->let z2:=Z0V 1 (l.drop s.toNat);let z1:=Z0V 2 (l.drop s.toNat);let z3:=decide ((0:Int) < (z1.length:Int));let z0:=xB 1 (SW (Z2 (Z5A N)) Tryz.f78 Z6Y [1,1,0,1,0,0,1,1] (xT N0 (xB 0 (SW (Z2 (Z5A N)) Tryz.f78 Z6Y [1,1,1] Q))));iB (decide (s < (l.length:Int))) ((Z7I (l,s,1,()))/\((Z7I (l,s,2,()))/\(iB (decide ((0:Int) < (z2.length:Int))) (((re_5_0.length+([(OpOf.mk 1 0 z2 d:Op)]).length)*240<=140737488355328)/\(iB z3 ((((re_5_0++([(OpOf.mk 1 0 z2 d:Op)])).length+([(OpOf.mk 2 0 z1 d:Op)]).length)*240<=140737488355328)/\(AW (Z2 (Z5A N)) Tryz.f78 Z6Y [1,1,0,1,0,0,1,0,0,1,1,1,1] (Z5E list l s ((re_5_0++([(OpOf.mk 1 0 z2 d:Op)]))++([(OpOf.mk 2 0 z1 d:Op)]))) z0)) (AW (Z2 (Z5A N)) Tryz.f78 Z6Y [1,1,0,1,0,0,1,0,0,1,1,1,1] (Z5E list l s (re_5_0++([(OpOf.mk 1 0 z2 d:Op)]))) z0))) (iB z3 (((re_5_0.length+([(OpOf.mk 2 0 z1 d:Op)]).length)*240<=140737488355328)/\(AW (Z2 (Z5A N)) Tryz.f78 Z6Y [1,1,0,1,0,0,1,0,0,1,1,1,1] (Z5E list l s (re_5_0++([(OpOf.mk 2 0 z1 d:Op)]))) z0)) (AW (Z2 (Z5A N)) Tryz.f78 Z6Y [1,1,0,1,0,0,1,0,0,1,1,1,1] (Z5E list l s re_5_0) z0))))) (Q .ret (L2 [(4,.c (sU .op re_5_0 (.own (.e 4 0))))] []))):
  ZDY N list l s re_5_0 N0 Q:=
 Eq.mpr V5 (h _ rfl)
abbrev ZvO(N:Nat)(list:Int)(l:List Op)(h:Int)(d:List Op)(N0:NT)(Q:QT):=AW (Z2 (Z5A N)) Tryz.f78 Z6Y [1,1,0,1,0,0,1,0,0,1,1,1,1] (Z5E list l h d) (xB 1 (SW (Z2 (Z5A N)) Tryz.f78 Z6Y [1,1,0,1,0,0,1,1] (xT N0 (xB 0 (SW (Z2 (Z5A N)) Tryz.f78 Z6Y [1,1,1] Q)))))
theorem Zwf(N:Nat)(list:Int)(l:List Op)(u:Int)(d:List Op)(N0:NT)(Q:QT)(h:∀ aa,aa=(List.getD l (Int.toNat (u+YJ (l.drop u.toNat))) Op.nil)->∀ ae,ae=(Edit.mk 0 (Tree.mk 0 [] []) (Tree.mk 0 [] []) [] [] 0 [])->∀ s,s=(List.getD d (Int.toNat (((d.length:Int):Int) - 1)) Op.nil)->∀ ah,ah=(aa.e)->∀ af,af=(s.e)->∀ ab,ab=(Zq ah)->let z4:=decide ((0:Int) < (d.length:Int));let z3:=InR (((d.length:Int):Int) - 1);let z2:=InR (((u+YJ (l.drop u.toNat)):Int)+1);let z1:=bif ((3:Int)==0) then z4 else false;let z0:=bif ((0:Int)==0) then z4 else false;let z5:=bif z0 then (s.kind==0) else false;(iB (decide (((l.length:Int):Int)<=(u+YJ (l.drop u.toNat)))) ((Q .ret (L2 [(4,.c (sU .op d (.own (.e 4 0))))] []))) (((0:Int)<=(u+YJ (l.drop u.toNat))/\(u+YJ (l.drop u.toNat)) < (l.length:Int))/\(((0:Int)<=(u+YJ (l.drop u.toNat))/\(u+YJ (l.drop u.toNat)) < (l.length:Int))/\(iB (aa.kind==3) (((0:Int)<=(u+YJ (l.drop u.toNat))/\(u+YJ (l.drop u.toNat)) < (l.length:Int))/\(Z1O (ah,()))/\(ZhJ (ah,()) < N)/\((Zlp (list,ab,()))/\(iB (Z5D list ab) (((Tt ((0:Int)==0))/\(Tt ((0:Int)==0))/\(Tt z0)/\(z0=true->InR (((d.length:Int):Int) - 1))/\(Tt z0)/\(Tt z0)/\(z0=true->(0:Int)<=(((d.length:Int):Int) - 1)/\(((d.length:Int):Int) - 1) < (d.length:Int))/\(Tt z0)/\(Tt z0)/\(Tt z0)/\(Tt z0)/\(iB z5 (z3/\z3/\((0:Int)<=(((d.length:Int):Int) - 1)/\(((d.length:Int):Int) - 1) < (d.length:Int))/\(InR (s.n+1))/\((0:Int)<=(((d.length:Int):Int) - 1)/\(((d.length:Int):Int) - 1) < (d.length:Int))/\((0:Nat)<=(Int.toNat (((d.length:Int):Int) - 1)))/\(z2/\(N0 (J8 list l (((u+YJ (l.drop u.toNat)):Int)+1) (List.set d (Int.toNat (((d.length:Int):Int) - 1)) (OpOf.mk s.kind (s.n+1) s.l af:Op)))))) (((d.length+([(OpOf.mk 0 1 [] ae:Op)]).length)*240<=140737488355328)/\(z2/\(N0 (J8 list l (((u+YJ (l.drop u.toNat)):Int)+1) (d++([(OpOf.mk 0 1 [] ae:Op)]))))))))) (((Tt ((3:Int)==0))/\(Tt ((3:Int)==0))/\(Tt z1)/\(z1=true->InR (((d.length:Int):Int) - 1))/\(Tt z1)/\(Tt z1)/\(z1=true->(0:Int)<=(((d.length:Int):Int) - 1)/\(((d.length:Int):Int) - 1) < (d.length:Int))/\(Tt z1)/\(Tt z1)/\(Tt z1)/\(Tt z1)/\(iB (bif z1 then (s.kind==0) else false) (z3/\z3/\((0:Int)<=(((d.length:Int):Int) - 1)/\(((d.length:Int):Int) - 1) < (d.length:Int))/\(InR (s.n+0))/\((0:Int)<=(((d.length:Int):Int) - 1)/\(((d.length:Int):Int) - 1) < (d.length:Int))/\((0:Nat)<=(Int.toNat (((d.length:Int):Int) - 1)))/\(z2/\(N0 (J8 list l (((u+YJ (l.drop u.toNat)):Int)+1) (List.set d (Int.toNat (((d.length:Int):Int) - 1)) (OpOf.mk s.kind (s.n+0) s.l af:Op)))))) (((d.length+([(OpOf.mk 3 0 [] ab:Op)]).length)*240<=140737488355328)/\(z2/\(N0 (J8 list l (((u+YJ (l.drop u.toNat)):Int)+1) (d++([(OpOf.mk 3 0 [] ab:Op)])))))))))))) (((Tt ((0:Int)==0))/\(Tt ((0:Int)==0))/\(Tt z0)/\(z0=true->InR (((d.length:Int):Int) - 1))/\(Tt z0)/\(Tt z0)/\(z0=true->(0:Int)<=(((d.length:Int):Int) - 1)/\(((d.length:Int):Int) - 1) < (d.length:Int))/\(Tt z0)/\(Tt z0)/\(Tt z0)/\(Tt z0)/\(iB z5 (z3/\z3/\((0:Int)<=(((d.length:Int):Int) - 1)/\(((d.length:Int):Int) - 1) < (d.length:Int))/\(InR (s.n+aa.n))/\((0:Int)<=(((d.length:Int):Int) - 1)/\(((d.length:Int):Int) - 1) < (d.length:Int))/\((0:Nat)<=(Int.toNat (((d.length:Int):Int) - 1)))/\(z2/\(N0 (J8 list l (((u+YJ (l.drop u.toNat)):Int)+1) (List.set d (Int.toNat (((d.length:Int):Int) - 1)) (OpOf.mk s.kind (s.n+aa.n) s.l af:Op)))))) (((d.length+([(OpOf.mk 0 aa.n [] ae:Op)]).length)*240<=140737488355328)/\(z2/\(N0 (J8 list l (((u+YJ (l.drop u.toNat)):Int)+1) (d++([(OpOf.mk 0 aa.n [] ae:Op)])))))))))))))):
  ZvO N list l u d N0 Q:=
 Eq.mpr V5 (h _ rfl _ rfl _ rfl _ (Z8 _) _ (Z8 _) _ (Z8 _))
def ZEs(N:Nat)(list:Int)(l:List Op):Prop:=AW (Z2 (Z5A N)) Tryz.f78 Z6Y [] (Zi (Zih.can (list,l,())) []) (EQ Tryz.f78 (Zj9 (list,l,())) [])
abbrev ZHa:Prop:=∀ (N:Nat) (list:Int) (l:List Op) (_:Unit),Ze2 (list,l,())->Zly (list,l,()) < N+1->ZEs N list l
theorem Zqw(c34:CT 34 Jr)(ZDC:CT 111 Z60)(Zv1:CT 112 Z3G)(ha:ZHj)(hb:ZHa):CT 44 JK/\CT 78 ZrQ:=
 JA (μA:=ZhJ) (μB:=Zly) (l:=[(34,Jr),(111,Z60),(112,Z3G)]) Zk rfl (⟨c34,ZDC,Zv1,trivial⟩) ZhP Z6Y Tryz.func44 Tryz.func78 rfl rfl rfl rfl 1 2 (fun _=> rfl) (fun _=> rfl) V2 V2 (fun N ⟨e,_⟩=> ha N e ()) (fun N ⟨list,l,_⟩=> hb N list l ())
end
theorem ZgE:∀ (l:List Op),0<=YJ l/\(YJ l < l.length->(l.getD (YJ l).toNat Op.nil).kind≠1/\(l.getD (YJ l).toNat Op.nil).kind≠2)
 | []=> by simp [YJ]
 | o ::r=> by
  obtain ⟨d,h⟩:=ZgE r
  rw [YJ]
  grind
theorem ZoS:∀ (l:List Op),YJ l<=l.length
 | []=> by simp [YJ]
 | o ::r=> by
  have:=ZoS r
  rw [YJ]
  grind
theorem Zmt(l:List Op)(i k:Nat):(l.drop i).getD k Op.nil=l.getD (i+k) Op.nil:=by
 grind
theorem Zhh{list:Int}{o:Op}{d:Int}(h:Zf list o d=true):o.kind=0\/o.kind=1\/o.kind=2\/o.kind=3:=by
 obtain ⟨k,n,l,e⟩:=o
 show k=0\/k=1\/k=2\/k=3
 rw [Zf] at h
 grind
theorem b78:ZHa:=by
 intro N list l _ hp hN
 simp only [Ze2,Zly] at hp hN
 obtain ⟨p1,p3⟩:=hp
 have hl:=ZM l
 refine ZHI _ _ _ _ ?_
 refine Z4 (ι:=Int × List Op) (fun s=> J8 list l s.1 s.2)
  (fun s=> 0<=s.1/\s.1<=l.length/\(Zc (Zv list (l.drop s.1.toNat) ⟨s.2,[],[]⟩)).out=(Zc (Zv list l ⟨[],[],[]⟩)).out/\s.2.length<=3*s.1/\∀ o∈s.2,0<=o.n/\o.n<=s.1*1048576)
  (fun s=> ((l.length:Int) - s.1).toNat) (0,[]) rfl ⟨by simp,by simp,by simp,by simp,by simp⟩ ?_
 rintro ⟨i,out⟩ ⟨g1,g2,g3,g4,g6⟩
 dsimp only at g1 g2 g3 g4 g6
 have a9:i < l.length->∀ F,F=(Zc ⟨out,Z0V 1 (l.drop i.toNat),Z0V 2 (l.drop i.toNat)⟩).out->
   ZvO N list l i F (fun s2=> ∃ j:Int × List Op,s2=J8 list l j.1 j.2/\(0<=j.1/\j.1<=l.length/\(Zc (Zv list (l.drop j.1.toNat) ⟨j.2,[],[]⟩)).out=(Zc (Zv list l ⟨[],[],[]⟩)).out/\j.2.length<=3*j.1/\∀ o∈j.2,0<=o.n/\o.n<=j.1*1048576)/\((l.length:Int) - j.1).toNat < ((l.length:Int) - i).toNat) (ZF cfg Tryz.f78.ntmps Tryz.f78.results.toList (Zj9 (list,l,())) []):=by
  intro hi F hF
  obtain ⟨q1,q2⟩:=ZgE (l.drop i.toNat)
  have q3:=ZoS (l.drop i.toNat)
  rw [QY] at q2 q3
  rw [Zmt,show i.toNat+(YJ (l.drop i.toNat)).toNat=(i+YJ (l.drop i.toNat)).toNat by omega] at q2
  rw [Zgn,Xx,show i.toNat+(YJ (l.drop i.toNat)).toNat=(i+YJ (l.drop i.toNat)).toNat by omega] at g3
  simp only [QI] at g3
  have az:=Z6O ⟨out,Z0V 1 (l.drop i.toNat),Z0V 2 (l.drop i.toNat)⟩
  have aq:=Z6N ⟨out,Z0V 1 (l.drop i.toNat),Z0V 2 (l.drop i.toNat)⟩
  have ab:Zc ⟨out,Z0V 1 (l.drop i.toNat),Z0V 2 (l.drop i.toNat)⟩=⟨F,[],[]⟩:=by rw [hF];try rfl
  have af:∀ n,Y7 ⟨out,Z0V 1 (l.drop i.toNat),Z0V 2 (l.drop i.toNat)⟩ n=⟨YA F n,[],[]⟩:=by intro n;rw [hF];try rfl
  rw [<-hF] at az aq
  simp only at az aq
  refine Zwf _ _ _ _ _ _ _ ?_
  rintro y1 ah y2 bb y3 ar y4 al y5 be y6 a5
  generalize hj:i+YJ (l.drop i.toNat)=j at*
  have hy:y2=Edit.nil:=bb
  subst hy
  have ai:∀ o∈F,0<=o.n/\o.n<=i*1048576:=by
   intro o u
   rcases aq o u with h1 | h1
   .exact g6 o h1
   .omega
  simp only [show ((0:Int)==0)=true from rfl,show ((3:Int)==0)=false from rfl,cond_true,cond_false]
  simp only [iB,vcT,vcS,aiT,true_and]
  refine ⟨fun a8=> ?_,fun a8=> ?_⟩
  .rw [Q6 V0] at g3
   simp only [Zv,ab] at g3
   simp only [Zj9]
   rw [<-g3]
   exact V1
  .have ak:=Zb (l:=l) (i:=j.toNat) V0 Op.nil
   have hm:=ZL ak
   obtain ⟨d,aj⟩:=p3 _ ak
   have hq:=q2 V0
   rw [<-ah] at hm aj hq
   have a7:=Zhh aj
   rw [Y1 V0 V0 Op.nil,<-ah,Zv,YO] at g3
   have ba:=ZG y1
   have a4:(F.length:Int) - 1=((F.length - 1:Nat):Int)\/F.length=0:=V0
   have e2:((F.length:Int) - 1).toNat=F.length - 1:=V0
   rw [e2] at ar ⊢
   have am:0 < F.length->0<=y3.n/\y3.n<=i*1048576:=fun h=> by
    rw [ar];exact ai _ (Zb V0 _)
   have ae:∀ n:Int,0<=n/\n<=1048576->(Zc (Zv list (l.drop (j+1).toNat) ⟨YA F n,[],[]⟩)).out=(Zc (Zv list l ⟨[],[],[]⟩)).out->
     ((0 < F.length/\y3.kind=0->∃ q:Int × List Op,J8 list l (j+1) (F.set (F.length - 1) ⟨y3.kind,y3.n+n,y3.l,y5⟩)=J8 list l q.1 q.2/\(0<=q.1/\q.1<=l.length/\(Zc (Zv list (l.drop q.1.toNat) ⟨q.2,[],[]⟩)).out=(Zc (Zv list l ⟨[],[],[]⟩)).out/\q.2.length<=3*q.1/\∀ o∈q.2,0<=o.n/\o.n<=q.1*1048576)/\((l.length:Int) - q.1).toNat < ((l.length:Int) - i).toNat)/\
      (¬(0 < F.length/\y3.kind=0)->∃ q:Int × List Op,J8 list l (j+1) (F++[⟨0,n,[],Edit.nil⟩])=J8 list l q.1 q.2/\(0<=q.1/\q.1<=l.length/\(Zc (Zv list (l.drop q.1.toNat) ⟨q.2,[],[]⟩)).out=(Zc (Zv list l ⟨[],[],[]⟩)).out/\q.2.length<=3*q.1/\∀ o∈q.2,0<=o.n/\o.n<=q.1*1048576)/\((l.length:Int) - q.1).toNat < ((l.length:Int) - i).toNat)):=by
    intro n hn hg
    rw [Z5B,<-ar,<-be] at hg
    refine ⟨fun hc=> ?_,fun hc=> ?_⟩
    .rw [if_pos ⟨V0,hc.2⟩] at hg
     refine ⟨(j+1,_),rfl,⟨V3,V3,hg,by dsimp only;rw [List.length_set];omega,fun o u=> ?_⟩,V3⟩
     dsimp only at u ⊢
     have ay:=am V0
     rcases List.mem_or_eq_of_mem_set u with u | rfl
     .have:=ai o u;omega
     .simp only;omega
    .rw [if_neg (fun h=> hc ⟨V0,h.2⟩)] at hg
     refine ⟨(j+1,_),rfl,⟨V3,V3,hg,by dsimp only;rw [List.length_append,List.length_singleton];omega,fun o u=> ?_⟩,V3⟩
     dsimp only at u ⊢
     rcases Qk.1 u with u | u
     .have:=ai o u;omega
     .simp only [Qi] at u
      subst u
      simp only;omega
   refine ⟨V0,V0,fun hk=> ?_,fun hk=> ?_⟩
   .rw [JC,JC,JC,if_pos hk] at g3
    rw [<-al,<-a5,af,ab] at g3
    have aw:=Z8C aj hk
    rw [<-al] at aw
    have bl:Zd y4<=Zx y1:=by rw [ba,al];omega
    refine ⟨V0,by simp only [Z1O];exact ⟨V0,d,aw⟩,by simp only [ZhJ];omega,by simp only [Zlp],fun hq=> ?_,fun hq=> ?_⟩
    .rw [if_pos hq] at g3
     have hK:=ae 1 V0 g3
     refine ⟨V4,V0,fun hc=> ?_,fun hc=> ?_⟩
     .have ay:=am V0
      exact ⟨V4,V4,V0,V4,V0,V0,V4,hK.1 ⟨V0,hc.2⟩⟩
     .exact ⟨by simp only [Q8];omega,V4,hK.2 (fun h=> by omega)⟩
    .rw [if_neg (by rw [hq];simp)] at g3
     refine ⟨fun h=> (nomatch h),fun h=> (nomatch h),fun h=> (nomatch h),by simp only [Q8];omega,V4,(j+1,F++[⟨3,0,[],y6⟩]),rfl,⟨V3,V3,g3,by dsimp only;rw [List.length_append,List.length_singleton];omega,fun o u=> ?_⟩,V3⟩
     dsimp only at u ⊢
     rcases Qk.1 u with u | u
     .have:=ai o u;omega
     .simp only [Qi] at u
      subst u
      simp only;omega
   .have a1:y1.kind=0:=V0
    rw [if_pos a1,af] at g3
    have h1:=Z8B aj a1
    have hK:=ae y1.n V0 g3
    refine ⟨V4,V0,fun hc=> ?_,fun hc=> ?_⟩
    .have ay:=am V0
     exact ⟨V4,V4,V0,V4,V0,V0,V4,hK.1 ⟨V0,hc.2⟩⟩
    .exact ⟨by simp only [Q8];omega,V4,hK.2 (fun h=> by omega)⟩
 refine Zwe _ _ _ _ _ _ _ ?_
 rintro y1 ah
 have hy:y1=Edit.nil:=ah
 subst hy
 (simp only [iB,vcS])
 refine ⟨fun hi=> ?_,fun hi=> ?_⟩
 .have kk:=a9 hi
  simp only [Zc,Jk] at kk
  refine ⟨by simp only [Z7I];omega,by simp only [Z7I];omega,fun h1=> ⟨by simp only [Q8];omega,fun h2=> ⟨by simp only [Qa,Q8];omega,?_⟩,fun h2=> ?_⟩,fun h1=> ⟨fun h2=> ⟨by simp only [Q8];omega,?_⟩,fun h2=> ?_⟩⟩
  .refine kk _ ?_
   rw [JC,JC];simp
  .refine kk _ ?_
   rw [JC,YC];simp
  .refine kk _ ?_
   rw [YC,JC];simp
  .refine kk _ ?_
   rw [YC,YC];simp
 .rw [Q6 V0] at g3
  have:(Zc (Zv list [] ⟨out,[],[]⟩)).out=out:=by simp [Zv,Zc,Jk]
  rw [this] at g3
  simp only [Zj9]
  rw [<-g3]
  exact V1
theorem Zl4{e:Edit}{d:Int}(h:Z6 e d=true):(e.kind=0\/e.kind=1\/e.kind=2\/e.kind=3)/\(e.kind≠3->e.list=0):=by
 obtain ⟨k,o,n,w,ks,l,os⟩:=e
 show (k=0\/k=1\/k=2\/k=3)/\(k≠3->l=0)
 rw [Z6] at h
 grind
theorem b44:ZHj:=by
 intro N e _ hp hN
 simp only [Z1O,ZhJ] at hp hN
 obtain ⟨p1,d,p3⟩:=hp
 have h1:=ZY e
 have h2:=ZW e.kids
 have h3:=ZM e.ops
 have ha:=Z6k e
 obtain ⟨az,af⟩:=Zl4 p3
 refine ZI9 _ _ _ ?_
 (simp only [iB,vcS])
 (simp only [vE])
 refine ⟨fun hk=> ⟨by simp only [Jv];omega,by simp only [Jv];omega,?_⟩,fun hk=> ⟨fun u=> ⟨by simp;omega,?_⟩,fun u=> ⟨fun h=> ⟨?_,by simp only [Zly];omega,?_⟩,fun h=> ?_⟩⟩⟩
 .rw [if_pos hk] at ha
  simp only [ZbF,ha]
  (repeat' (first | exact trivial | exact rfl | apply And.intro))
  .exact hk.symm
  .exact (af V0).symm
 .rw [if_neg hk,if_pos u] at ha
  refine Z4 (ι:=Int × List Kid) (fun s=> Z9K e s.1 s.2) (fun s=> 0<=s.1/\s.1<=e.kids.length/\s.2.length=s.1/\s.2++Jd (e.kids.drop s.1.toNat)=Jd e.kids) (fun s=> ((e.kids.length:Int) - s.1).toNat) (0,[]) rfl ⟨by simp,by simp,by simp,by simp⟩ ?_
  rintro ⟨j,ks⟩ ⟨f1,f2,f3,f4⟩
  dsimp only at f1 f2 f3 f4
  refine ZwD _ _ _ _ _ _ ?_
  rintro y1 aj y2 al y3 am
  (simp only [iB,vcS])
  refine ⟨fun hj=> ?_,fun hj=> ?_⟩
  .have ae:=Zb (l:=e.kids) (i:=j.toNat) V0 (KidOf.mk 0 Edit.nil)
   have hm:=YE ae
   have hr:=ZgC p3 u _ ae
   rw [Y1 f1 hj (KidOf.mk 0 Edit.nil)] at f4
   rw [<-aj] at f4 hm hr
   simp only [Jd,ZaQ] at f4
   rw [<-al] at f4 hm hr
   rw [<-am] at f4
   refine ⟨⟨f1,hj⟩,⟨f1,hj⟩,by simp only [Z1O];exact ⟨V0,hr⟩,by simp only [ZhJ];omega,by simp;omega,V4,(j+1,ks++[⟨y1.at_,y3⟩]),rfl,⟨V3,V3,by simp;omega,?_⟩,V3⟩
   simp only [Ql,Qt,QI]
   exact f4
  .rw [Q6 V0] at f4
   simp only [Jd,Qr] at f4
   rw [f4]
   simp only [ZbF,ha]
   (repeat' (first | exact trivial | exact rfl | apply And.intro))
   .exact u.symm
   .exact (af V0).symm
 .simp only [Ze2]
  exact ⟨V0,fun o ho=> ZjG p3 h o ho⟩
 .rw [if_neg hk,if_neg u,if_pos h] at ha
  simp only [ZbF,ha]
  (repeat' (first | exact trivial | exact rfl | apply And.intro))
  exact h.symm
 .rw [if_neg hk,if_neg u,if_neg h] at ha
  simp only [ZbF,ha]
  (repeat' (first | exact trivial | exact rfl | apply And.intro))
  .show 0=e.kind
   omega
  .exact (af h).symm
theorem ZuX:Contract Tryz.prog cfg 44 JK/\Contract Tryz.prog cfg 78 ZrQ:=Zqw c34 ZDC Zv1 b44 b78
noncomputable section
def Zs6(a:Edit × Unit):V U:= .agg (enc .edit (Zq (ZO a.1)))
def Z1G:Fs U:=fs Zvc (fun a=> [Z1O a]) Zs6
def Zus:List (FuncId × Fs U):=[(42,JK),(69,Zde)]
def ZCR:Zg U:=lvl [([1,2],[1,2]),([2],[2])]
abbrev W37(e:Edit)(Q:QT):=AW (Z2 Zus) Tryz.f37 ZCR [] (L2 [(0,.agg (enc .edit e))] []) Q
theorem ZIe(e:Edit)(Q:QT)(h:∀ s,s=e->∀ d,d=(ZO s)->(Ze0 (s,()))/\(Z1O (d,()))/\(Q .ret (L2 [pL 2] [(.loc 2,(enc .edit (Zq d)))]))):
  W37 e Q:=
 Eq.mpr V5 (h _ (Z8 _) _ (Z8 _))
def ZEY(e:Edit):Prop:=AW (Z2 Zus) Tryz.f37 ZCR [] (Zi (Zvc.can (e,())) []) (EQ Tryz.f37 (Zs6 (e,())) [])
theorem ZC9(c42:CT 42 JK)(c69:CT 69 Zde)(hb:∀ (e:Edit) (_:Unit),Z1O (e,())->ZEY e):CT 37 Z1G:=
 Z1 (l:=[(42,JK),(69,Zde)]) Zk rfl (⟨c42,c69,trivial⟩) ZCR Tryz.func37 rfl rfl 1 (fun _=> rfl) V2 (fun ⟨e,_⟩=> hb e ())
end
mutual
theorem Z7V:∀ (e:Edit),Zd (ZO e)=Zd e
 | .mk k o n w ks l os=> by
  have d:=ZbU ks
  have h:=ZbS os
  simp only [ZO,Zd,X5,Z7o,d,h]
  omega
theorem ZbU:∀ (ks:List (KidOf Edit)),Zp (Z09 ks)=Zp ks
 | []=> rfl
 | k ::r=> by
  have d:=ZhO k
  have h:=ZbU r
  simp only [Z09,Zp,d,h]
theorem ZhO:∀ (k:KidOf Edit),Ym (Z1S k)=Ym k
 | ⟨a,e⟩=> by
  have h:=Z7V e
  trivial
theorem ZbS:∀ (os:List (OpOf Edit)),Zj (Jq os)=Zj os
 | []=> rfl
 | o ::r=> by
  have d:=Zk2 o
  have h:=ZbS r
  simp only [Jq,Zj,d,h]
theorem Zk2:∀ (o:OpOf Edit),Zx (YV o)=Zx o
 | ⟨k,n,l,e⟩=> by
  have h:=Z7V e
  simp only [YV]
  split
  .try rfl
  .split
   .try rfl
   .split
    .simp only [Zx,h]
    .try rfl
end
theorem c37:Contract Tryz.prog cfg 37 Z1G:=by
 refine ZC9 Zff.1 ZyU.1 ?_
 intro e _ u
 simp only [Z1O] at u
 obtain ⟨hm,d,hr⟩:=u
 refine ZIe _ _ ?_
 rintro y1 s y2 h
 subst s
 have h1:=Z7V y1
 have h2:=JN _ _ hr
 rw [<-h] at h1 h2
 refine ⟨by simp only [Ze0];omega,by simp only [Z1O];grind,?_⟩
 simp only [Zs6]
 rw [<-h]
 exact V1
noncomputable section
def Zpa:ArgL (WEdit × WEdit × Unit):=(.cons (aEl .wedit) (.cons (aEl .wedit) .nil))
def Zln(a:WEdit × WEdit × Unit):Prop:=Z2T a.1/\Z2T a.2.1
def Zhq(a:WEdit × WEdit × Unit):V U:= .tup [(true,(enc .wedit ((JW a.1 a.2.1).1))),(false,[.bool ((JW a.1 a.2.1).2)])]
def Z8f:Fs U:=fs Zpa (fun a=> [Zln a]) Zhq
def Zpb:ArgL (WEdit × Unit):=(.cons (aEl .wedit) .nil)
def ZaJ(a:WEdit × Unit):Prop:=True
def Zsh(a:WEdit × Unit):V U:= .c (ci a.1.at_)
def Z8g:Fs U:=fs Zpb (fun a=> [ZaJ a]) Zsh
def Zp9:ArgL (Kid × Unit):=(.cons (aEl .kid) .nil)
def ZaI(a:Kid × Unit):Prop:=True
def Zsg(a:Kid × Unit):V U:= .c (ci a.1.at_)
def Z1U:Fs U:=fs Zp9 (fun a=> [ZaI a]) Zsg
def Zpc:ArgL (List WEdit × List WEdit × Unit × Unit × Unit):=(.cons (aSl .wedit) (.cons (aSl .wedit) (.cons (aFn 163) (.cons (aFn 164) .nil))))
def Zlo(a:List WEdit × List WEdit × Unit × Unit × Unit):Prop:=((∀ x∈a.1,Z2T x)/\(a.1).length<=1000000)/\(∀ x∈a.2.1,Z2T x)/\(a.2.1).length<=1000000
def Zhr(a:List WEdit × List WEdit × Unit × Unit × Unit):V U:= .tup [(false,[sU .wedit (ofO (Zr WEdit.at_ JW a.1 a.2.1)) .unk]),(false,[.bool ((Zr WEdit.at_ JW a.1 a.2.1).isSome)])]
def Z8h:Fs U:=fs Zpc (fun a=> [Zlo a]) Zhr
def Zpi:ArgL (List WEdit × List WEdit × Unit):=(.cons (aSl .wedit) (.cons (aSl .wedit) .nil))
def Zlr(a:List WEdit × List WEdit × Unit):Prop:=((∀ x∈a.1,Z2T x)/\(a.1).length<=1000000)/\(∀ x∈a.2.1,Z2T x)/\(a.2.1).length<=1000000
def Zso(a:List WEdit × List WEdit × Unit):V U:= .tup [(false,[sU .wedit (ofO (Zr WEdit.at_ JW a.1 a.2.1)) .unk]),(false,[.bool ((Zr WEdit.at_ JW a.1 a.2.1).isSome)])]
def Z1V:Fs U:=fs Zpi (fun a=> [Zlr a]) Zso
def Ztx:Zg U:=lvl [([2,3,4],[2,3,4]),([2,3,4,6],[2,3,4]),([2,3,4,20],[2,3,4]),([4,5],[4]),([4,5],[4])]
abbrev ZJb(p:List Nat):=AW (Z2 Zb0) Tryz.f164 Ztx p
theorem ZFH(p q:WEdit)(Q:QT)(h:let z1:=IntKind.bits .u8;let z0:=IntKind.wrap .u8 (BitVec.ofInt z1 p.mask &&& BitVec.ofInt z1 q.mask).toNat;((ZbG (0,p.new,z0,()))/\(ZbG (0,q.old,z0,()))/\(iB (((mix 0 p.new z0):Int) !=(mix 0 q.old z0)) ((Q .ret (L2 [pL 4,pB 5 false] [(.loc 4,[ci 0,.int .u8 0,.int .u64 0,.int .u64 0])]))) ((ZbG (q.old,p.old,p.mask,()))/\(ZbG (p.new,q.new,q.mask,()))/\(Q .ret (L2 [pL 4,pB 5 true] [(.loc 4,[ci p.at_,.int .u8 (IntKind.wrap .u8 (BitVec.ofInt z1 p.mask ||| BitVec.ofInt z1 q.mask).toNat),.int .u64 (mix q.old p.old p.mask),.int .u64 (mix p.new q.new q.mask)])])))))):
  ZJb [] (L2 [(0,.agg (enc .wedit p)),(1,.agg (enc .wedit q))] []) Q:=
 Eq.mpr V5 h
def Zzm(p q:WEdit):Prop:=AW (Z2 Zb0) Tryz.f164 Ztx [] (Zi (Zpa.can (p,q,())) []) (EQ Tryz.f164 (Zhq (p,q,())) [])
theorem ZxD(Zif:CT 136 Z4m)(hb:∀ (p:WEdit) (q:WEdit) (_:Unit),Zln (p,q,())->Zzm p q):CT 164 Z8f:=
 Z1 (l:=[(136,Z4m)]) Zk rfl (⟨Zif,trivial⟩) Ztx Tryz.func164 rfl rfl 2 (fun _=> rfl) V2 (fun ⟨p,q,_⟩=> hb p q ())
abbrev ZJc(p:List Nat):=AW (Z2 Zmg) Tryz.f163 ZCY p
theorem ZFI(w:WEdit)(Q:QT)(h:(Q .ret (L2 [pI 2 w.at_] []))):
  ZJc [] (L2 [(0,.agg (enc .wedit w))] []) Q:=
 Eq.mpr V5 h
def Zzn(w:WEdit):Prop:=AW (Z2 Zmg) Tryz.f163 ZCY [] (Zi (Zpb.can (w,())) []) (EQ Tryz.f163 (Zsh (w,())) [])
theorem ZxE(hb:∀ (w:WEdit) (_:Unit),ZaJ (w,())->Zzn w):CT 163 Z8g:=
 Z1 (l:=[]) Zk rfl trivial ZCY Tryz.func163 rfl rfl 1 (fun _=> rfl) V2 (fun ⟨w,_⟩=> hb w ())
abbrev ZJa(p:List Nat):=AW (Z2 Zmg) Tryz.f166 ZCY p
theorem ZFF(k:Kid)(Q:QT)(h:(Q .ret (L2 [pI 2 k.at_] []))):
  ZJa [] (L2 [(0,.agg (enc .kid k))] []) Q:=
 Eq.mpr V5 h
def Zzk(k:Kid):Prop:=AW (Z2 Zmg) Tryz.f166 ZCY [] (Zi (Zp9.can (k,())) []) (EQ Tryz.f166 (Zsg (k,())) [])
theorem ZxC(hb:∀ (k:Kid) (_:Unit),ZaI (k,())->Zzk k):CT 166 Z1U:=
 Z1 (l:=[]) Zk rfl trivial ZCY Tryz.func166 rfl rfl 1 (fun _=> rfl) V2 (fun ⟨k,_⟩=> hb k ())
def ZhW:List (FuncId × Fs U):=[(163,Z8g),(164,Z8f)]
def Zob:Zg U:=lvk [([0,1,2,3],[]),([0,1,2,3,(10,[.own .wedit])],[]),([0,1,2,3,10,20],[]),([0,1,2,3,10,11,12],[11]),([0,1,2,3,10,11,33],[11]),([8,9],[]),([0,1,2,3,(10,[.own .wedit])],[]),([0,1,2,3,10,42],[]),([0,1,2,3,(10,[.own .wedit])],[]),([0,1,2,3,10,72],[]),([0,1,2,3,(10,[.own .wedit])],[]),([8,9],[])]
def Z2m(p q:List WEdit)(at_ one:Unit)(x0 h d:List WEdit):LSt U:=(L2 [(0,.c (sU .wedit x0 .unk)),(1,.c (sU .wedit h .unk)),(2,.fn 163),(3,.fn 164),(10,.c (sU .wedit d (.own (.e 10 0))))] [])
abbrev ZFq(p:List Nat):=AW (Z2 ZhW) Tryz.f162 Zob p
abbrev ZH2(p:List Nat):=SW (Z2 ZhW) Tryz.f162 Zob p
theorem ZFJ(p q:List WEdit)(at_ one:Unit)(Q:QT)(h:(Zl (ZFq [1,1,0,0,0]) (Z2m p q at_ one p q []) (xB 0 (ZH2 [1,1,1] Q)))):
  ZFq [] (L2 [(0,.c (sU .wedit p .unk)),(1,.c (sU .wedit q .unk)),(2,.fn 163),(3,.fn 164)] []) Q:=
 Eq.mpr V5 h
theorem Zrr(p q:List WEdit)(at_ one:Unit)(x0 x1 u:List WEdit)(N0:NT)(Q:QT)(h:∀ af,af=(List.getD x0 (Int.toNat 0) (WEdit.mk 0 0 0 0))->∀ ae,ae=(List.getD x1 (Int.toNat 0) (WEdit.mk 0 0 0 0))->∀ d,d=af->∀ s,s=ae->∀ ab,ab=((JW d s).1)->let z3:=decide ((0:Int) < (x0.length:Int));let z2:=((x1.length:Int):Int)==0;let z1:=((x0.length:Int):Int)==0;let z0:=(!z2) && z3;(Tt (!z3))/\(Tt (!z3))/\(z3=false->(!z3)=true)/\(iB (bif z3 then true else (decide ((0:Int) < (x1.length:Int)))) ((Tt (!z2))/\(Tt (!z2))/\(Tt (!z2))/\(Tt z0)/\(z0=true->(0:Int)<=0/\0 < (x0.length:Int))/\(Tt z0)/\(Tt z0)/\(Tt z0)/\(z0=true->ZaJ (d,()))/\(Tt z0)/\(z0=true->(0:Int)<=0/\0 < (x1.length:Int))/\(Tt z0)/\(Tt z0)/\(Tt z0)/\(z0=true->ZaJ (s,()))/\(Tt z0)/\(Tt z0)/\((!z2)=true->(True->(!z2)=true))/\((!z2)=true->(z3=true->z0=true))/\(z2=false->(!z2)=true)/\(iB (bif z2 then true else (bif z3 then (decide (d.at_ < s.at_)) else false)) (((0:Int)<=0/\0 < (x0.length:Int))/\((u.length+([d]).length)*32<=140737488355328)/\((0:Int)<=1/\1<=(x0.length:Int))/\(N0 (Z2m p q at_ one (List.drop (Int.toNat 1) x0) x1 (u++([d]))))) ((Tt (!z1))/\((!z1)=true->(0:Int)<=0/\0 < (x1.length:Int))/\(Tt (!z1))/\(Tt (!z1))/\(Tt (!z1))/\((!z1)=true->ZaJ (s,()))/\(Tt (!z1))/\((!z1)=true->(0:Int)<=0/\0 < (x0.length:Int))/\(Tt (!z1))/\(Tt (!z1))/\(Tt (!z1))/\((!z1)=true->ZaJ (d,()))/\(Tt (!z1))/\(Tt (!z1))/\(z1=false->(!z1)=true)/\(iB (bif z1 then true else (decide (s.at_ < d.at_))) (((0:Int)<=0/\0 < (x1.length:Int))/\((u.length+([s]).length)*32<=140737488355328)/\((0:Int)<=1/\1<=(x1.length:Int))/\(N0 (Z2m p q at_ one x0 (List.drop (Int.toNat 1) x1) (u++([s]))))) (((0:Int)<=0/\0 < (x0.length:Int))/\((0:Int)<=0/\0 < (x1.length:Int))/\(Zln (d,s,()))/\(iB (!((JW d s).2)) ((Q .ret (L2 [(8,.c (.nils)),pB 9 false] []))) (((u.length+([ab]).length)*32<=140737488355328)/\((0:Int)<=1/\1<=(x0.length:Int))/\((0:Int)<=1/\1<=(x1.length:Int))/\(N0 (Z2m p q at_ one (List.drop (Int.toNat 1) x0) (List.drop (Int.toNat 1) x1) (u++([ab]))))))))))) ((Q .ret (L2 [(8,.c (sU .wedit u (.own (.e 8 0)))),pB 9 true] []))))):
  ZFq [1,1,0,0,0] (Z2m p q at_ one x0 x1 u) (xT N0 (xB 0 (ZH2 [1,1,1] Q))):=
 Eq.mpr V5 (h _ rfl _ rfl _ (Z7D _) _ (Z7D _) _ (Z7D _))
def Zzo(p q:List WEdit)(at_ one:Unit):Prop:=AW (Z2 ZhW) Tryz.f162 Zob [] (Zi (Zpc.can (p,q,at_,one,())) []) (EQ Tryz.f162 (Zhr (p,q,at_,one,())) [])
theorem ZxF(ZDh:CT 163 Z8g)(ZDg:CT 164 Z8f)(hb:∀ (p:List WEdit) (q:List WEdit) (at_:Unit) (one:Unit) (_:Unit),Zlo (p,q,at_,one,())->Zzo p q at_ one):CT 162 Z8h:=
 Z1 (l:=[(163,Z8g),(164,Z8f)]) Zk rfl (⟨ZDh,ZDg,trivial⟩) Zob Tryz.func162 rfl rfl 4 (fun _=> rfl) V2 (fun ⟨p,q,at_,one,_⟩=> hb p q at_ one ())
def ZoB:List (FuncId × Fs U):=[(162,Z8h)]
abbrev ZJf(p:List Nat):=AW (Z2 ZoB) Tryz.f141 Ztu p
theorem ZFT(p q:List WEdit)(Q:QT)(h:((Zlo (p,q,(),(),()))/\(Q .ret (L2 [(4,.c (sU .wedit (ofO (Zr WEdit.at_ JW p q)) .unk)),pB 5 ((Zr WEdit.at_ JW p q).isSome)] [])))):
  ZJf [] (L2 [(0,.c (sU .wedit p .unk)),(1,.c (sU .wedit q .unk))] []) Q:=
 Eq.mpr V5 h
def Zzy(p q:List WEdit):Prop:=AW (Z2 ZoB) Tryz.f141 Ztu [] (Zi (Zpi.can (p,q,())) []) (EQ Tryz.f141 (Zso (p,q,())) [])
theorem ZxN(ZDi:CT 162 Z8h)(hb:∀ (p:List WEdit) (q:List WEdit) (_:Unit),Zlr (p,q,())->Zzy p q):CT 141 Z1V:=
 Z1 (l:=[(162,Z8h)]) Zk rfl (⟨ZDi,trivial⟩) Ztu Tryz.func141 rfl rfl 2 (fun _=> rfl) V2 (fun ⟨p,q,_⟩=> hb p q ())
end
end Go.AM.YtfapacabjkhepaaGreat
