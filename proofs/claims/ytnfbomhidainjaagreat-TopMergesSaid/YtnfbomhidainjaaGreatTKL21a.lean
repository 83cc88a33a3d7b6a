import Derived.Test.YtnfbomhidainjaaGreatTKL21
set_option linter.unusedSimpArgs false
set_option linter.unusedVariables false
namespace Go.AM.YtnfbomhidainjaaGreat
open Go.AM Go.Proofs
noncomputable section
def Za8(a:List Int×Unit):List Int:=a.1
def Z1z:Fs U:=fsL ZAp (λa=>[ZmK a]) .u64 Za8
def ZA3:ArgL (List Tree×Unit):=(.cons (aSl .tree) .nil)
def ZmF(a:List Tree×Unit):Prop:=a.1.length<=1000000000000
def Zk1(a:List Tree×Unit):List Tree:=a.1
def Zc2:Fs U:=fsL ZA3 (λa=>[ZmF a]) .tree Zk1
def Zd2:ArgL (Edit×Tree×Unit):=(.cons (aEl .edit) (.cons (aEl .tree) .nil))
def Z4s(a:Edit×Tree×Unit):Prop:=(Zi a.1<=20000000000/\YF a.1/\∃d,Z8 a.1 d=true)/\mass a.2.1+ctE a.1<=200000000000/\rng a.2.1
def Zhm(a:Edit×Tree×Unit):Nat:=2*Zi a.1+1
def Z6w(a:Edit×Tree×Unit):V U:=.tup [(true,(enc .tree (Ze8 a.1 a.2.1))),(false,[.bool ((doE false a.1 a.2.1).isSome)])]
def Zc6:Fs U:=fs Zd2 (λa=>[Z4s a]) Z6w
def Zaj(a:Edit×Tree×Unit):Prop:=Edit.kind a.1=2/\(Zi a.1<=20000000000/\YF a.1/\∃d,Z8 a.1 d=true)/\mass a.2.1+ctE a.1<=200000000000/\rng a.2.1
def Zn2(a:Edit×Tree×Unit):Nat:=2*Zi a.1
def Zaa(a:Edit×Tree×Unit):V U:=.tup [(true,(enc .tree (Z1m (Ze6 false a.1 a.2.1)))),(false,[.bool ((Ze6 false a.1 a.2.1).isSome)])]
def ZvY:Fs U:=fs Zd2 (λa=>[Zaj a]) Zaa
def Zai(a:Edit×Tree×Unit):Prop:=Edit.kind a.1=3/\(Zi a.1<=20000000000/\YF a.1/\∃d,Z8 a.1 d=true)/\mass a.2.1+ctE a.1<=200000000000/\rng a.2.1
def Za9(a:Edit×Tree×Unit):V U:=.tup [(true,(enc .tree (Zyi a.1 (Z8c false a.1 a.2.1)))),(false,[.bool ((Z5J (Z8c false a.1 a.2.1)).isSome)])]
def ZvX:Fs U:=fs Zd2 (λa=>[Zai a]) Za9
def ZpL:Za U:=lvk [([0],[]),([0,4],[]),([(2,[.wr .u64])],[]),([(2,[.wr .u64])],[])]
abbrev ZMI(p:List Nat):=AW (Z0Z Zqj) Tryz.f42 ZpL p
theorem ZG7(l:List Int)(Q:QT)(h:(((l=[])->(Q .ret (⟨[(2,.c (.mref (.e 2 0)))],[],[(.e 2 0,LC.mk (U:=U) .u64 [] 0)]⟩:LSt U)))/\(True->((([]:List Int).length+l.length)*8<=140737488355328)/\(Q .ret (⟨[(2,.c (.mref (.e 2 0)))],[],[(.e 2 0,LC.mk (U:=U) .u64 (([]:List Int)++l) (([]:List Int).length))]⟩:LSt U))))):ZMI [] (L2 [(0,.c (sU .u64 l .unk))] []) Q:=Eq.mpr V3 h
def ZAW(l:List Int):Prop:=AW (Z0Z Zqj) Tryz.f42 ZpL [] (Zg (ZAp.can (l,())) []) (Z00 cfg Tryz.f42.ntmps Tryz.f42.results.toList (.c (.mref (.r 0 0))) [] [(.r 0 0,LC.mk (U:=U) .u64 (Za8 (l,())) 0)])
theorem ZxW(hb:∀(l:List Int)(_:Unit),ZmK (l,())->ZAW l):CT 42 Z1z:=Z7i (l:=[]) Zf rfl trivial ZpL Tryz.func42 rfl rfl 1 (λ_=>rfl) V0 (λ⟨l,_⟩=>hb l ())
def ZHS:Za U:=lvk [([0],[]),([0,4],[]),([(2,[.wr .tree])],[]),([(2,[.wr .tree])],[])]
abbrev A70(p:List Nat):=AW (Z0Z Zqj) Tryz.f70 ZHS p
theorem ZNa(l:List Tree)(Q:QT)(h:(((l=[])->(Q .ret (⟨[(2,.c (.mref (.e 2 0)))],[],[(.e 2 0,LC.mk (U:=U) .tree [] 0)]⟩:LSt U)))/\(True->((([]:List Tree).length+l.length)*56<=140737488355328)/\(Q .ret (⟨[(2,.c (.mref (.e 2 0)))],[],[(.e 2 0,LC.mk (U:=U) .tree (([]:List Tree)++l) (([]:List Tree).length))]⟩:LSt U))))):A70 [] (L2 [(0,.c (sU .tree l .unk))] []) Q:=Eq.mpr V3 h
def ZJQ(l:List Tree):Prop:=AW (Z0Z Zqj) Tryz.f70 ZHS [] (Zg (ZA3.can (l,())) []) (Z00 cfg Tryz.f70.ntmps Tryz.f70.results.toList (.c (.mref (.r 0 0))) [] [(.r 0 0,LC.mk (U:=U) .tree (Zk1 (l,())) 0)])
theorem ZH0(hb:∀(l:List Tree)(_:Unit),ZmF (l,())->ZJQ l):CT 70 Zc2:=Z7i (l:=[]) Zf rfl trivial ZHS Tryz.func70 rfl rfl 1 (λ_=>rfl) V0 (λ⟨l,_⟩=>hb l ())
def ZcH(N:Nat):List (FuncId×Fs U):=(23,fs Zd2 (λa=>[Z4s a,Zhm a<N]) Z6w)::(43,fs Zd2 (λa=>[Zaj a,Zn2 a<N]) Zaa)::(44,fs Zd2 (λa=>[Zai a,Zn2 a<N]) Za9)::[(38,Ys),(63,Z1v),(64,Z1X),(72,Z5c),(70,Zc2),(71,Zfi),(42,Z1z)]
def ZIe:Za U:=lvl [([2,3,4],[2,3,4]),([2,3,4,7],[2,3,4]),([2,3,4,7,8],[2,3,4]),([4,5],[4]),([2,3,4,7,11],[2,3,4]),([4,5],[4]),([2,3,4,7,19],[2,3,4]),([4,5],[4]),([2,3,4,26],[2,3,4]),([4,5],[4]),([4,5],[4])]
abbrev A23(N:Nat)(p:List Nat):=AW (Z2 (ZcH N)) Tryz.f23 ZIe p
theorem ZNS(N:Nat)(e:Edit)(t:Tree)(Q:QT)(h:∀aa,aa=e->∀d,d=t->∀ab,ab=(e.old)->(iB (e.kind==0) ((Q .ret (L2 [pL 4,pB 5 true] [(.loc 4,(enc .tree t))]))) ((iB (e.kind==1) ((Z2J (ab,d,()))/\(Q .ret (L2 [pL 4,pB 5 (ZN (Z0 ab) (Z0 d))] [(.loc 4,(enc .tree e.new))]))) ((iB (e.kind==2) ((Zaj (aa,d,()))/\(Zn2 (aa,d,())<N)/\(Q .ret (L2 [pL 4,pB 5 ((Ze6 false aa d).isSome)] [(.loc 4,(enc .tree (Z1m (Ze6 false aa d))))]))) ((iB (e.kind==3) ((Zai (aa,d,()))/\(Zn2 (aa,d,())<N)/\(Q .ret (L2 [pL 4,pB 5 ((Z5J (Z8c false aa d)).isSome)] [(.loc 4,(enc .tree (Zyi aa (Z8c false aa d))))]))) ((Q .ret (L2 [pL 4,pB 5 false] [(.loc 4,[ci 0,.nils,.nils])]))))))))))):A23 N [] (L2 [(0,.agg (enc .edit e)),(1,.agg (enc .tree t))] []) Q:=Eq.mpr V3 (h _ (Zj _) _ (Z3 _) _ (Z3 _))
def ZKy(N:Nat)(e:Edit)(t:Tree):Prop:=AW (Z2 (ZcH N)) Tryz.f23 ZIe [] (Zg (Zd2.can (e,t,())) []) (EQ Tryz.f23 (Z6w (e,t,())) [])
abbrev ZMs:Prop:=∀(N:Nat)(e:Edit)(t:Tree)(_:Unit),Z4s (e,t,())->Zhm (e,t,())<N+1->ZKy N e t
def ZDv:Za U:=lvk [([2,3,4],[2,3,4]),([2,3,4,16],[2,3,4]),([4,5],[4]),([2,3,4,6],[2,3,4,((.loc 6),[.any,.wr .u64,.wr .tree])]),([2,3,4,6,26,27,28],[2,3,4,((.loc 6),[.any,.wr .u64,.wr .tree])]),([2,3,4,6,26,27,28,29],[2,3,4,((.loc 6),[.any,.wr .u64,.wr .tree])]),([2,3,4,6,8,26,27,28],[2,3,4,((.loc 6),[.any,.wr .u64,.wr .tree]),8]),([2,3,4,6,8,9,26,27,28],[2,3,4,((.loc 6),[.any,.wr .u64,.wr .tree]),8]),([2,3,4,6,8,9,26,27,28,42],[2,3,4,((.loc 6),[.any,.wr .u64,.wr .tree]),8]),([4,5],[4]),([2,3,4,6,8,9,26,27,28,42,49],[2,3,4,((.loc 6),[.any,.wr .u64,.wr .tree]),8]),([2,3,4,6,8,9,26,27,28,42],[2,3,4,((.loc 6),[.any,.wr .u64,.wr .tree]),8]),([2,3,4,6,26,27,28],[2,3,4,((.loc 6),[.any,.wr .u64,.wr .tree])]),([2,3,4,6,26,27,28],[2,3,4,((.loc 6),[.any,.wr .u64,.wr .tree])]),([3,4,6,68,69,70],[3,4,((.loc 6),[.any,.wr .u64,.wr .tree])]),([3,4,6,68,69,70,71],[3,4,((.loc 6),[.any,.wr .u64,.wr .tree])]),([3,4,6,11,68,69,70],[3,4,((.loc 6),[.any,.wr .u64,.wr .tree]),11]),([3,4,6,11,12,13,68,69,70],[3,4,((.loc 6),[.any,.wr .u64,.wr .tree]),11,12]),([3,4,6,11,12,68,69,70,85],[3,4,((.loc 6),[.any,.wr .u64,.wr .tree]),11,12]),([4,5],[4]),([3,4,6,11,12,68,69,70,85,92],[3,4,((.loc 6),[.any,.wr .u64,.wr .tree]),11,12]),([3,4,6,11,12,68,69,70,85],[3,4,((.loc 6),[.any,.wr .u64,.wr .tree]),11,12]),([3,4,6,68,69,70],[3,4,((.loc 6),[.any,.wr .u64,.wr .tree])]),([3,4,6,68,69,70],[3,4,((.loc 6),[.any,.wr .u64,.wr .tree])]),([4,5],[4])]
def Zb4(e:Edit)(t:Tree)(aa:Int)(d:List Int):LSt U:=(⟨[pL 2,pL 3,pL 4,pL 6,(26,.c (sU .wedit e.words .unk)),pI 27 (e.words.length:Int),pI 28 aa],[(.loc 2,(enc .edit e)),(.loc 3,(enc .tree t)),(.loc 4,[ci 0,.nils,.nils]),(.loc 6,[ci 1,.mref (.l 6 1),.mref (.l 6 2)])],[(.l 6 1,LC.mk (U:=U) .u64 d 0),(.l 6 2,LC.mk (U:=U) .tree t.kids 0)]⟩:LSt U)
def Zb3(e:Edit)(t:Tree)(d:Int)(aa:List Int):LSt U:=(⟨[pL 2,pL 3,pL 4,pL 6,pL 8,(9,.c (.int .u64 (Zs (Tree.mk t.kind t.words t.kids) (WEdit.at_ (e.words.getD d.toNat (WEdit.mk 0 0 0 0)))))),(26,.c (sU .wedit e.words .unk)),pI 27 (e.words.length:Int),pI 28 d,(42,.c (.bool (((mix 0 (Zs (Tree.mk t.kind t.words t.kids) (WEdit.at_ (e.words.getD d.toNat (WEdit.mk 0 0 0 0)))) (WEdit.mask (e.words.getD d.toNat (WEdit.mk 0 0 0 0)))):Int)!=(WEdit.old (e.words.getD d.toNat (WEdit.mk 0 0 0 0))))))],[(.loc 2,(enc .edit e)),(.loc 3,(enc .tree t)),(.loc 4,[ci 0,.nils,.nils]),(.loc 6,[ci 1,.mref (.l 6 1),.mref (.l 6 2)]),(.loc 8,(enc .wedit (e.words.getD d.toNat (WEdit.mk 0 0 0 0))))],[(.l 6 1,LC.mk (U:=U) .u64 aa 0),(.l 6 2,LC.mk (U:=U) .tree t.kids 0)]⟩:LSt U)
def Zb2(e:Edit)(t:Tree)(aa:List Int)(ab:Int)(d:List Tree):LSt U:=(⟨[pL 3,pL 4,pL 6,(68,.c (sU .kid e.kids .unk)),pI 69 (e.kids.length:Int),pI 70 ab],[(.loc 3,(enc .tree t)),(.loc 4,[ci 0,.nils,.nils]),(.loc 6,[ci 1,.mref (.l 6 1),.mref (.l 6 2)])],[(.l 6 1,LC.mk (U:=U) .u64 aa 0),(.l 6 2,LC.mk (U:=U) .tree d 0)]⟩:LSt U)
def Zb1(e:Edit)(t:Tree)(ab:List Int)(d:Int)(aa:List Tree):LSt U:=(⟨[pL 3,pL 4,pL 6,pL 11,pL 12,(68,.c (sU .kid e.kids .unk)),pI 69 (e.kids.length:Int),pI 70 d,(85,.c (.bool (!((doE false (Edit.mk (Edit.kind (KidOf.e (e.kids.getD d.toNat (KidOf.mk 0 Edit.nil)))) (Tree.mk (Tree.kind (Edit.old (KidOf.e (e.kids.getD d.toNat (KidOf.mk 0 Edit.nil))))) (Tree.words (Edit.old (KidOf.e (e.kids.getD d.toNat (KidOf.mk 0 Edit.nil))))) (Tree.kids (Edit.old (KidOf.e (e.kids.getD d.toNat (KidOf.mk 0 Edit.nil)))))) (Tree.mk (Tree.kind (Edit.new (KidOf.e (e.kids.getD d.toNat (KidOf.mk 0 Edit.nil))))) (Tree.words (Edit.new (KidOf.e (e.kids.getD d.toNat (KidOf.mk 0 Edit.nil))))) (Tree.kids (Edit.new (KidOf.e (e.kids.getD d.toNat (KidOf.mk 0 Edit.nil)))))) (Edit.words (KidOf.e (e.kids.getD d.toNat (KidOf.mk 0 Edit.nil)))) (Edit.kids (KidOf.e (e.kids.getD d.toNat (KidOf.mk 0 Edit.nil)))) (Edit.list (KidOf.e (e.kids.getD d.toNat (KidOf.mk 0 Edit.nil)))) (Edit.ops (KidOf.e (e.kids.getD d.toNat (KidOf.mk 0 Edit.nil))))) (Tree.mk (Tree.kind (Zo (Tree.mk t.kind t.words t.kids) (KidOf.at_ (e.kids.getD d.toNat (KidOf.mk 0 Edit.nil))))) (Tree.words (Zo (Tree.mk t.kind t.words t.kids) (KidOf.at_ (e.kids.getD d.toNat (KidOf.mk 0 Edit.nil))))) (Tree.kids (Zo (Tree.mk t.kind t.words t.kids) (KidOf.at_ (e.kids.getD d.toNat (KidOf.mk 0 Edit.nil))))))).isSome))))],[(.loc 3,(enc .tree t)),(.loc 4,[ci 0,.nils,.nils]),(.loc 6,[ci 1,.mref (.l 6 1),.mref (.l 6 2)]),(.loc 11,(enc .kid (e.kids.getD d.toNat (KidOf.mk 0 Edit.nil)))),(.loc 12,(enc .tree (Ze8 (Edit.mk (Edit.kind (KidOf.e (e.kids.getD d.toNat (KidOf.mk 0 Edit.nil)))) (Tree.mk (Tree.kind (Edit.old (KidOf.e (e.kids.getD d.toNat (KidOf.mk 0 Edit.nil))))) (Tree.words (Edit.old (KidOf.e (e.kids.getD d.toNat (KidOf.mk 0 Edit.nil))))) (Tree.kids (Edit.old (KidOf.e (e.kids.getD d.toNat (KidOf.mk 0 Edit.nil)))))) (Tree.mk (Tree.kind (Edit.new (KidOf.e (e.kids.getD d.toNat (KidOf.mk 0 Edit.nil))))) (Tree.words (Edit.new (KidOf.e (e.kids.getD d.toNat (KidOf.mk 0 Edit.nil))))) (Tree.kids (Edit.new (KidOf.e (e.kids.getD d.toNat (KidOf.mk 0 Edit.nil)))))) (Edit.words (KidOf.e (e.kids.getD d.toNat (KidOf.mk 0 Edit.nil)))) (Edit.kids (KidOf.e (e.kids.getD d.toNat (KidOf.mk 0 Edit.nil)))) (Edit.list (KidOf.e (e.kids.getD d.toNat (KidOf.mk 0 Edit.nil)))) (Edit.ops (KidOf.e (e.kids.getD d.toNat (KidOf.mk 0 Edit.nil))))) (Tree.mk (Tree.kind (Zo (Tree.mk t.kind t.words t.kids) (KidOf.at_ (e.kids.getD d.toNat (KidOf.mk 0 Edit.nil))))) (Tree.words (Zo (Tree.mk t.kind t.words t.kids) (KidOf.at_ (e.kids.getD d.toNat (KidOf.mk 0 Edit.nil))))) (Tree.kids (Zo (Tree.mk t.kind t.words t.kids) (KidOf.at_ (e.kids.getD d.toNat (KidOf.mk 0 Edit.nil)))))))))],[(.l 6 1,LC.mk (U:=U) .u64 ab 0),(.l 6 2,LC.mk (U:=U) .tree aa 0)]⟩:LSt U)
abbrev A43(N:Nat)(p:List Nat):=AW (Z2 (ZcH N)) Tryz.f43 ZDv p
abbrev S43(N:Nat)(p:List Nat):=SW (Z2 (ZcH N)) Tryz.f43 ZDv p
theorem ZNz(N:Nat)(e:Edit)(t:Tree)(Q:QT)(h:(iB (t.kind !=1) ((Q .ret (L2 [pL 4,pB 5 false] [(.loc 4,[ci 0,.nils,.nils])]))) ((ZmK (t.words,()))/\(ZmF (t.kids,()))/\(Zk (A43 N [1,1,1,0,1,0,0]) (Zb4 e t 0 t.words) (xB 0 (S43 N [1,1,1,1] Q)))))):A43 N [] (L2 [(0,.agg (enc .edit e)),(1,.agg (enc .tree t))] []) Q:=Eq.mpr V3 h
theorem ZBA(N:Nat)(e:Edit)(t:Tree)(ab:Int)(d:List Int)(N0:NT)(Q:QT)(h:∀ae,ae=t->∀aa,aa=(e.words.getD ab.toNat (WEdit.mk 0 0 0 0))->(iB (decide (ab<(e.words.length:Int))) (((0:Int)<=ab/\ab<(e.words.length:Int))/\((Z6A (ae,aa.at_,()))/\((Zs1 (0,(Zs ae aa.at_),aa.mask,()))/\(iB (((mix 0 (Zs ae aa.at_) aa.mask):Int)!=aa.old) ((Q .ret (L2 [pL 4,pB 5 false] [(.loc 4,[ci 0,.nils,.nils])]))) (Zk (A43 N [1,1,1,0,1,0,0,1,1,0,0,1,1,1,0,0,0]) (Zb3 e t ab d) (xB 2 (S43 N [1,1,1,0,1,0,0,1,1,0,0,1,1,1,1] (xB 1 (S43 N [1,1,1,0,1,0,0,1,1,1] (xT N0 (xB 0 (S43 N [1,1,1,1] Q)))))))))))) ((Zk (A43 N [1,1,1,1,0,1,0,0]) (Zb2 e t d 0 t.kids) (xB 4 (S43 N [1,1,1,1,1] Q)))))):A43 N [1,1,1,0,1,0,0] (Zb4 e t ab d) (xT N0 (xB 0 (S43 N [1,1,1,1] Q))):=Eq.mpr V3 (h _ (Z3 _) _ rfl)
theorem ZBz(N:Nat)(e:Edit)(t:Tree)(aa:Int)(d:List Int)(N1 N0:NT)(Q:QT)(h:let z0:=e.words.getD aa.toNat (WEdit.mk 0 0 0 0);let z1:=Zs (Tree.mk t.kind t.words t.kids) (WEdit.at_ z0);(iB (decide (((d.length:Int):Int)<=(WEdit.at_ z0))) (((d.length+([0]).length)*8<=140737488355328)/\(N1 (Zb3 e t aa (d++([0]))))) ((Zs1 (z1,(WEdit.new z0),(WEdit.mask z0),()))/\((0:Int)<=(WEdit.at_ z0)/\(WEdit.at_ z0)<(d.length:Int))/\((0:Nat)<=(Int.toNat (WEdit.at_ z0)))/\((InR (aa+1))/\(N0 (Zb4 e t (aa+1) (List.set d (Int.toNat (WEdit.at_ z0)) (mix z1 (WEdit.new z0) (WEdit.mask z0))))))))):A43 N [1,1,1,0,1,0,0,1,1,0,0,1,1,1,0,0,0] (Zb3 e t aa d) (xT N1 (xB 2 (S43 N [1,1,1,0,1,0,0,1,1,0,0,1,1,1,1] (xB 1 (S43 N [1,1,1,0,1,0,0,1,1,1] (xT N0 (xB 0 (S43 N [1,1,1,1] Q)))))))):=Eq.mpr V3 h
theorem ZBy(N:Nat)(e:Edit)(t:Tree)(ab:List Int)(d:Int)(aa:List Tree)(N2:NT)(Q:QT)(h:∀ai,ai=t->∀ah,ah=(e.kids.getD d.toNat (KidOf.mk 0 Edit.nil))->∀af,af=(ah.e)->∀ae,ae=(Zo ai ah.at_)->(iB (decide (d<(e.kids.length:Int))) (((0:Int)<=d/\d<(e.kids.length:Int))/\((Z6A (ai,ah.at_,()))/\(Z4s (af,ae,()))/\(Zhm (af,ae,())<N)/\(iB (!((doE false af ae).isSome)) ((Q .ret (L2 [pL 4,pB 5 false] [(.loc 4,[ci 0,.nils,.nils])]))) (Zk (A43 N [1,1,1,1,0,1,0,0,1,1,0,0,1,1,1,0,0,0]) (Zb1 e t ab d aa) (xB 6 (S43 N [1,1,1,1,0,1,0,0,1,1,0,0,1,1,1,1] (xB 5 (S43 N [1,1,1,1,0,1,0,0,1,1,1] (xT N2 (xB 4 (S43 N [1,1,1,1,1] Q))))))))))) ((Q .ret (L2 [pL 4,pB 5 true] [(.loc 4,[ci 1,sU .u64 ab (.own (.l 4 1)),sU .tree aa (.own (.l 4 2))])]))))):A43 N [1,1,1,1,0,1,0,0] (Zb2 e t ab d aa) (xT N2 (xB 4 (S43 N [1,1,1,1,1] Q))):=Eq.mpr V3 (h _ (Z3 _) _ rfl _ (Zj _) _ (Z3 _))
theorem ZBx(N:Nat)(e:Edit)(t:Tree)(ab:List Int)(aa:Int)(d:List Tree)(N3 N2:NT)(Q:QT)(h:∀af,af=t->∀ae,ae=(e.kids.getD aa.toNat (KidOf.mk 0 Edit.nil))->∀aj,aj=(ae.e)->∀ai,ai=(Zo af ae.at_)->∀ah,ah=(Ze8 aj ai)->(iB (decide (((d.length:Int):Int)<=ae.at_)) (((d.length+([(Tree.mk 0 [] [])]).length)*56<=140737488355328)/\(N3 (Zb1 e t ab aa (d++([(Tree.mk 0 [] [])]))))) (((0:Int)<=ae.at_/\ae.at_<(d.length:Int))/\((0:Nat)<=(Int.toNat ae.at_))/\((InR (aa+1))/\(N2 (Zb2 e t ab (aa+1) (List.set d (Int.toNat ae.at_) ah))))))):A43 N [1,1,1,1,0,1,0,0,1,1,0,0,1,1,1,0,0,0] (Zb1 e t ab aa d) (xT N3 (xB 6 (S43 N [1,1,1,1,0,1,0,0,1,1,0,0,1,1,1,1] (xB 5 (S43 N [1,1,1,1,0,1,0,0,1,1,1] (xT N2 (xB 4 (S43 N [1,1,1,1,1] Q)))))))):=Eq.mpr V3 (h _ (Z3 _) _ rfl _ (Zj _) _ (Z3 _) _ (Z3 _))
def ZKf(N:Nat)(e:Edit)(t:Tree):Prop:=AW (Z2 (ZcH N)) Tryz.f43 ZDv [] (Zg (Zd2.can (e,t,())) []) (EQ Tryz.f43 (Zaa (e,t,())) [])
abbrev ZMk:Prop:=∀(N:Nat)(e:Edit)(t:Tree)(_:Unit),Zaj (e,t,())->Zn2 (e,t,())<N+1->ZKf N e t
def ZDu:Za U:=lvk [([2,3,4],[2,3,4]),([2,3,4,18],[2,3,4]),([4,5],[4]),([2,3,4,6],[2,3,4,6]),([2,4,6,7],[2,4,6]),([4,6,7,26,27,28],[4,((.loc 6),[.any,.any,.own .tree])]),([4,6,7,26,27,28,29],[4,6]),([4,6,7,9,26,27,28],[4,6,9]),([4,6,7,9,10,26,27,28],[4,6,9]),([4,6,7,9,10,26,27,28,35],[4,6,9]),([4,6,7,9,10,26,27,28,35,36],[4,6,9]),([4,6,7,26,27,28,97],[4,6]),([4,6,7,9,10,26,27,28,35,44],[4,6,9]),([4,6,7,9,10,26,27,28,49],[4,6,9]),([4,6,7,9,10,26,27,28,49],[4,6,9]),([4,6,7,9,10,26,27,28,49],[4,6,9]),([4,6,7,9,10,26,27,28,54],[4,6,9]),([4,5],[4]),([4,6,7,9,10,26,27,28],[4,6,9]),([4,6,7,9,11,26,27,28],[4,6,9]),([4,6,7,12,13,26,27,28],[4,6,12]),([4,6,7,12,26,27,28,72],[4,6,12]),([4,5],[4]),([4,6,7,26,27,28,97],[4,6]),([4,6,7,9,11,26,27,28,80],[4,6,9]),([4,6,7,26,27,28,97],[4,6]),([4,6,7,9,11,26,27,28,89],[4,6,9]),([4,6,7,26,27,28,97],[4,6]),([4,5],[4]),([4,6,7,26,27,28],[4,((.loc 6),[.any,.any,.own .tree])]),([4,5],[4])]
def Z3h(e:Edit)(t:Tree)(aa:Int)(x7 d:List Tree):LSt U:=(L2 [pL 4,pL 6,(7,.c (sU .tree x7 .unk)),(26,.c (sU .op e.ops .unk)),pI 27 (e.ops.length:Int),pI 28 aa] [(.loc 4,[ci 0,.nils,.nils]),(.loc 6,[ci t.kind,.nils,sU .tree d (.own (.l 6 2))])])
def Z4R(e:Edit)(t:Tree)(ae:Int)(ab d:List Tree)(aa:V U):LSt U:=(L2 [pL 4,pL 6,(7,.c (sU .tree ab .unk)),(26,.c (sU .op e.ops .unk)),pI 27 (e.ops.length:Int),pI 28 ae,(97,aa)] [(.loc 4,[ci 0,.nils,.nils]),(.loc 6,[ci t.kind,.nils,sU .tree d (.own (.l 6 2))])])
def Zb0(e:Edit)(t:Tree)(ae:Int)(x7 d:List Tree)(ab:Int)(aa:V U):LSt U:=(L2 [pL 4,pL 6,(7,.c (sU .tree x7 .unk)),pL 9,pI 10 ab,(26,.c (sU .op e.ops .unk)),pI 27 (e.ops.length:Int),pI 28 ae,(49,aa)] [(.loc 4,[ci 0,.nils,.nils]),(.loc 6,[ci t.kind,.nils,sU .tree d (.own (.l 6 2))]),(.loc 9,(enc .op (e.ops.getD ae.toNat Op.nil)))])
abbrev A44(N:Nat)(p:List Nat):=AW (Z2 (ZcH N)) Tryz.f44 ZDu p
abbrev S44(N:Nat)(p:List Nat):=SW (Z2 (ZcH N)) Tryz.f44 ZDu p
theorem ZNy(N:Nat)(e:Edit)(t:Tree)(Q:QT)(h:(iB (t.kind !=e.list) ((Q .ret (L2 [pL 4,pB 5 false] [(.loc 4,[ci 0,.nils,.nils])]))) ((Zk (A44 N [1,1,1,1,0,1,0,0]) (Z3h e t 0 t.kids []) (xB 0 (S44 N [1,1,1,1,1] Q)))))):A44 N [] (L2 [(0,.agg (enc .edit e)),(1,.agg (enc .tree t))] []) Q:=Eq.mpr V3 h
theorem ZBv(N:Nat)(e:Edit)(t:Tree)(ab:Int)(x7 d:List Tree)(N0:NT)(Q:QT)(h:∀aa,aa=(e.ops.getD ab.toNat Op.nil)->let z1:=xT N0 (xB 0 (S44 N [1,1,1,1,1] Q));let z0:=xB 1 (S44 N [1,1,1,1,0,1,0,0,1,1,1] z1);(iB (decide (ab<(e.ops.length:Int))) (((0:Int)<=ab/\ab<(e.ops.length:Int))/\(iB (aa.kind==2) (((d.length+aa.l.length)*56<=140737488355328)/\(A44 N [1,1,1,1,0,1,0,0,1,1,1] (Z4R e t ab x7 (d++aa.l) .junk) z1)) ((iB (aa.kind==1) ((A44 N [1,1,1,1,0,1,0,0,1,1,0,0,1,1,1] (Zb0 e t ab x7 d (aa.l.length:Int) .junk) z0)) ((iB (aa.kind==3) ((A44 N [1,1,1,1,0,1,0,0,1,1,0,0,1,1,1] (Zb0 e t ab x7 d 1 (.c (.bool (aa.kind==3)))) z0)) (A44 N [1,1,1,1,0,1,0,0,1,1,0,0,1,1,1] (Zb0 e t ab x7 d aa.n (.c (.bool (aa.kind==3)))) z0))))))) ((Q .ret (L2 [pL 4,pB 5 (((x7.length:Int):Int)==0)] [(.loc 4,[ci t.kind,.nils,sU .tree d (.own (.l 4 2))])]))))):A44 N [1,1,1,1,0,1,0,0] (Z3h e t ab x7 d) (xT N0 (xB 0 (S44 N [1,1,1,1,1] Q))):=Eq.mpr V3 (h _ rfl)
theorem ZBw(N:Nat)(e:Edit)(t:Tree)(ab:Int)(aa d:List Tree)(ae:V U)(N0:NT)(Q:QT)(h:(InR (ab+1))/\(N0 (Z3h e t (ab+1) aa d))):A44 N [1,1,1,1,0,1,0,0,1,1,1] (Z4R e t ab aa d ae) (xT N0 (xB 0 (S44 N [1,1,1,1,1] Q))):=Eq.mpr V3 h
theorem Zju(N:Nat)(e:Edit)(t:Tree)(ah:Int)(x7 aa:List Tree)(d:Int)(al:V U)(N0:NT)(Q:QT)(h:∀ab,ab=(e.ops.getD ah.toNat Op.nil)->∀am,am=(List.getD (List.take d.toNat x7) (Int.toNat 0) Tree.nil)->∀ae,ae=am->∀af,af=(ab.e)->∀aj,aj=(eqX (Z7 ab.l) (Z7 (List.take d.toNat x7)))->∀ak,ak=(Ze8 af ae)->let z3:=List.drop d.toNat x7;let z2:=List.take d.toNat x7;let z1:=xT N0 (xB 0 (S44 N [1,1,1,1,1] Q));let z0:=(Q .ret (L2 [pL 4,pB 5 false] [(.loc 4,[ci 0,.nils,.nils])]));(iB (decide (((x7.length:Int):Int)<d)) z0 ((((0:Int)<=d/\d<=(x7.length:Int))/\((0:Int)<=d/\d<=(x7.length:Int))/\(iB (ab.kind==0) (((aa.length+z2.length)*56<=140737488355328)/\(A44 N [1,1,1,1,0,1,0,0,1,1,1] (Z4R e t ah z3 (aa++z2) .junk) z1)) ((iB (ab.kind==1) ((ZfS (ab.l,z2,(),()))/\(iB (!aj) z0 (A44 N [1,1,1,1,0,1,0,0,1,1,1] (Z4R e t ah z3 aa (.c (.bool (!aj)))) z1))) (((0:Int)<=0/\0<(z2.length:Int))/\(Z4s (af,ae,()))/\(Zhm (af,ae,())<N)/\(iB (!((doE false af ae).isSome)) z0 (((aa.length+([ak]).length)*56<=140737488355328)/\(A44 N [1,1,1,1,0,1,0,0,1,1,1] (Z4R e t ah z3 (aa++([ak])) .junk) z1))))))))))):A44 N [1,1,1,1,0,1,0,0,1,1,0,0,1,1,1] (Zb0 e t ah x7 aa d al) (xB 1 (S44 N [1,1,1,1,0,1,0,0,1,1,1] (xT N0 (xB 0 (S44 N [1,1,1,1,1] Q))))):=Eq.mpr V3 (h _ rfl _ rfl _ (Z3 _) _ (Zj _) _ rfl _ (Z3 _))
def ZKe(N:Nat)(e:Edit)(t:Tree):Prop:=AW (Z2 (ZcH N)) Tryz.f44 ZDu [] (Zg (Zd2.can (e,t,())) []) (EQ Tryz.f44 (Za9 (e,t,())) [])
abbrev ZMj:Prop:=∀(N:Nat)(e:Edit)(t:Tree)(_:Unit),Zai (e,t,())->Zn2 (e,t,())<N+1->ZKe N e t
theorem ZCG(c38:CT 38 Ys)(c63:CT 63 Z1v)(c64:CT 64 Z1X)(c72:CT 72 Z5c)(c70:CT 70 Zc2)(c71:CT 71 Zfi)(Zjf:CT 42 Z1z)(b23:ZMs)(b43:ZMk)(b44:ZMj):CT 23 Zc6/\CT 43 ZvY/\CT 44 ZvX:=by
 have ae:FK 23:=⟨Tryz.f23,Tryz.func23,rfl,rfl⟩;have d:FK 43:=⟨Tryz.f43,Tryz.func43,rfl,rfl⟩;have aa:FK 44:=⟨Tryz.f44,Tryz.func44,rfl,rfl⟩;have ab:∀N,CT 23 (fs Zd2 (λa=>[Z4s a,Zhm a<N]) Z6w)/\CT 43 (fs Zd2 (λa=>[Zaj a,Zn2 a<N]) Zaa)/\CT 44 (fs Zd2 (λa=>[Zai a,Zn2 a<N]) Za9):=by intro N;induction N with|zero=>exact⟨JB ae,JB d,JB aa⟩|succ N ih=>have kn:=Z0j (l:=ZcH N) ⟨ih.1,ih.2.1,ih.2.2,c38,c63,c64,c72,c70,c71,Zjf,trivial⟩;exact⟨ZE (Γ:=Z2 (ZcH N)) Zf rfl kn ZIe Tryz.func23 rfl rfl (λa=>by show 2<=_;decide) (λ⟨e,t,_⟩h=>b23 N e t () h.1 h.2.1),ZE (Γ:=Z2 (ZcH N)) Zf rfl kn ZDv Tryz.func43 rfl rfl (λa=>by show 2<=_;decide) (λ⟨e,t,_⟩h=>b43 N e t () h.1 h.2.1),ZE (Γ:=Z2 (ZcH N)) Zf rfl kn ZDu Tryz.func44 rfl rfl (λa=>by show 2<=_;decide) (λ⟨e,t,_⟩h=>b44 N e t () h.1 h.2.1)⟩
 exact⟨JC ae λN=>(ab N).1,JC d λN=>(ab N).2.1,JC aa λN=>(ab N).2.2⟩
end
noncomputable section
def ZrS(a:Edit×Tree×Unit):V U:=.tup [(true,(enc .tree (Z1m ((doE false a.1 a.2.1).map Z0)))),(false,[.bool ((doE false a.1 a.2.1).isSome)])]
def Jt:Fs U:=fs Zd2 (λa=>[Z4s a]) ZrS
def Zzb:List (FuncId×Fs U):=[(22,Zfs),(23,Zc6)]
def ZIk:Za U:=lvl [([2,3,4],[2,3,4]),([4,6,7],[4,6]),([4,6,15],[4,6]),([4,5],[4]),([4,5],[4])]
abbrev A10(p:List Nat):=AW (Z2 Zzb) Tryz.f10 ZIk p
theorem ZO4(e:Edit)(t:Tree)(Q:QT)(h:∀aa,aa=e->∀d,d=t->∀ab,ab=(Ze8 aa d)->((Z4s (aa,d,()))/\(iB (!((doE false aa d).isSome)) ((Q .ret (L2 [pL 4,pB 5 false] [(.loc 4,[ci 0,.nils,.nils])]))) ((ZfY (ab,()))/\(Q .ret (L2 [pL 4,pB 5 true] [(.loc 4,(enc .tree (Z0 ab)))])))))):A10 [] (L2 [(0,.agg (enc .edit e)),(1,.agg (enc .tree t))] []) Q:=Eq.mpr V3 (h _ (Zj _) _ (Z3 _) _ (Z3 _))
def ZKK(e:Edit)(t:Tree):Prop:=AW (Z2 Zzb) Tryz.f10 ZIk [] (Zg (Zd2.can (e,t,())) []) (EQ Tryz.f10 (ZrS (e,t,())) [])
theorem ZHB(c22:CT 22 Zfs)(c23:CT 23 Zc6)(hb:∀(e:Edit)(t:Tree)(_:Unit),Z4s (e,t,())->ZKK e t):CT 10 Jt:=Z1 (l:=[(22,Zfs),(23,Zc6)]) Zf rfl (⟨c22,c23,trivial⟩) ZIk Tryz.func10 rfl rfl 2 (λ_=>rfl) V0 (λ⟨e,t,_⟩=>hb e t ())
end
theorem Zjf:Contract Tryz.prog cfg 42 Z1z:=by
 refine ZxW ?_;intro l _ d;simp only[ZmK]at d;refine ZG7 _ _ ⟨λh=>?_,λ_=>⟨by simp only[Qm];omega,?_⟩⟩;.subst h;simp only[Za8];exact YH
 .simp only[Za8];exact YH
theorem c70:Contract Tryz.prog cfg 70 Zc2:=by
 refine ZH0 ?_;intro l _ d;simp only[ZmF]at d;refine ZNa _ _ ⟨λh=>?_,λ_=>⟨by simp only[Qm];omega,?_⟩⟩;.subst h;simp only[Zk1];exact YH
 .simp only[Zk1];exact YH
theorem ZhQ{α:Type}(z:α){l:List α}{i:Nat}(h:i<l.length)(x:α):ZK z l i x=l.set i x:=by simp only[ZK];rw[show i+1-l.length=0 by omega];simp
theorem Zdb{α:Type}(z:α){l:List α}{i:Nat}(h:l.length<=i)(x:α):ZK z (l++[z]) i x=ZK z l i x:=by simp only[ZK,Q8,Qp,Q7];rw[show i+1-l.length=(i+1-(l.length+1))+1 by omega,Kg];try rfl
theorem ZxP(t:Tree):t.words.length+Z5 t.kids+1=mass t:=by obtain⟨k,w,ks⟩:=t;simp only[mass,Tree.words_mk,Tree.kids_mk];omega
theorem ZjT{t:Tree}(h:rng t):InR t.kind/\(∀x∈t.words,isW x)/\ZV t.kids:=by obtain⟨k,w,ks⟩:=t;exact h
theorem ZjS{ks:List Tree}(h:ZV ks)(i:Nat):rng (ks.getD i Tree.nil):=by
 by_cases hi:i<ks.length;.exact J7 h (Ze hi _)
 .rw[Q6,Qq Yp];trivial
theorem Zn7(ks:List Tree)(i:Nat):mass (ks.getD i Tree.nil)<=Z5 ks+1:=by
 by_cases hi:i<ks.length;.have:=ZS (Ze hi Tree.nil);omega
 .rw[Q6,Qq Yp];simp[Tree.nil,mass,Z5]
theorem Jl(t:Tree){i:Int}(h:0<=i):Zo t i=t.kids.getD i.toNat Tree.nil:=by unfold Zo;grind
theorem Z1R(t:Tree){i:Int}(h:0<=i):Zs t i=t.words.getD i.toNat 0:=by unfold Zs;omega
theorem ZB2{l:List Int}(h:∀x∈l,isW x)(i:Nat):isW (l.getD i 0):=by
 by_cases hi:i<l.length;.grind
 .rw[Q6,Qq Yp];trivial
theorem b23:ZMs:=by
 intro N e t _ hp hN;simp only[Z4s,Zhm]at hp hN;obtain⟨⟨p1,p2,d,p3⟩,p4,p5⟩:=hp;have h1:=JL e;have h2:=Zel p2;have hd:=Jj false e t;rw[Y1]at hd;refine ZNS _ _ _ _ ?_;rintro y1 al y2 ak y3 am;subst al ak am;(simp only[iB,vcT,vcS]);refine⟨λhk=>?_,λhk=>⟨λaa=>⟨by simp only[Z2J];omega,?_⟩,λaa=>⟨λab=>⟨by simp only[Zaj];grind,by simp only[Zn2];omega,?_⟩,λab=>⟨λah=>⟨by simp only[Zai];grind,by simp only[Zn2];omega,?_⟩,λah=>?_⟩⟩⟩⟩
 .rw[if_pos hk]at hd;simp only[Z6w,Ze8,if_pos hk,hd];exact YH
 .rw[if_neg hk,if_pos aa]at hd;simp only[Z6w,Ze8,if_neg hk,if_pos aa,hd];cases ZN (Z0 y1.old) (Z0 y2)<;>(repeat'(first|exact trivial|exact rfl|apply And.intro))
 .rw[if_neg hk,if_neg aa,if_pos ab]at hd;simp only[Z6w,Ze8,if_neg hk,if_neg aa,if_pos ab,hd];exact YH
 .rw[if_neg hk,if_neg aa,if_neg ab,if_pos ah]at hd;simp only[Z6w,Ze8,if_neg hk,if_neg aa,if_neg ab,if_pos ah,hd];have e2:(if y2.kind=y1.list then(Z5J (Y6 false y1.ops y2.kids [])).map λb=>Tree.mk y1.list [] b else none).isSome=(Z5J (Z8c false y1 y2)).isSome:=by
   unfold Z8c;split;.grind
   .try rfl
  rw[e2];exact YH
 .rw[if_neg hk,if_neg aa,if_neg ab,if_neg ah]at hd;simp only[Z6w,Ze8,if_neg hk,if_neg aa,if_neg ab,if_neg ah,hd];exact YH
theorem b43:ZMk:=by
 intro N e t _ hp hN;simp only[Zaj,Zn2]at hp hN;obtain⟨k2,⟨p1,p2,d,p3⟩,p4,p5⟩:=hp;have h1:=JL e;have h2:=J8 e.kids;have h3:=ZxP t;have h4:=ZT t.kids;have r2:=Zel p2;have rt:=ZjT p5;have ri:=Zt p3;refine ZNz _ _ _ _ ?_;(simp only[iB,vcT,vcS]);have no:Ze6 false e t=none->Z06 cfg Tryz.f43.ntmps Tryz.f43.results.toList (Zaa (e,t,())) [] .ret (⟨[(4,.ptr (.loc 4) 0),(5,.c (.bool false))],[((.loc 4),[.int .i64 0,.nils,.nils])],[]⟩:LSt U):=by intro hs;simp only[Zaa,hs];exact YH
 refine⟨λhk=>no (by unfold Ze6;rw[if_neg hk]),λhk=>?_⟩;have hk:t.kind=1:=by simpa using hk
 refine⟨by simp only[ZmK];omega,by simp only[ZmF];omega,?_⟩;refine Z6 (ι:=Int×List Int) (λs=>Zb4 e t s.1 s.2) (λs=>0<=s.1/\s.1<=e.words.length/\wsD t.words (e.words.drop s.1.toNat) s.2=wsD t.words e.words t.words/\s.2.length<=t.words.length+65536) (λs=>((e.words.length:Int)-s.1).toNat) (0,t.words) rfl ⟨by simp,by simp,by simp,by simp⟩ ?_;rintro⟨i,out⟩⟨f1,f2,f3,f4⟩;dsimp only at f1 f2 f3 f4;refine ZBA _ _ _ _ _ _ _ ?_;rintro y1 aq y2 af;subst aq;(simp only[iB,vcT,vcS]);refine⟨λhi=>?_,λhi=>?_⟩
 .have aa:=Ze (l:=e.words) (i:=i.toNat) Yp (WEdit.mk 0 0 0 0);rw[Yu f1 hi (WEdit.mk 0 0 0 0),<-af]at f3;rw[<-af]at aa;have hw:=Yw ri.words y2 aa;obtain⟨g1,g2,g3,g4⟩:=r2.2.2.2.1 y2 aa;have ah:Zs y1 y2.at_=y1.words.getD y2.at_.toNat 0:=Z1R y1 Yp;have a8:=ZB2 rt.2.1 y2.at_.toNat;rw[wsD]at f3;rw[ah];unfold isW at g3 g4 a8;refine⟨⟨f1,hi⟩,by simp only[Z6A],by simp only[Zs1];omega,λaj=>no ?_,λai=>?_⟩;.rw[if_neg aj]at f3;unfold Ze6;rw[if_pos hk,<-f3];try rfl
  .have ai:mix 0 (y1.words.getD y2.at_.toNat 0) y2.mask=y2.old:=by simpa using ai
   rw[if_pos ai]at f3;refine Z6 (ι:=List Int) (λs=>Zb3 e y1 i s) (λs=>(∀v,ZK 0 s y2.at_.toNat v=ZK 0 out y2.at_.toNat v)/\s.length<=y1.words.length+65536) (λs=>(y2.at_+1-s.length).toNat) out rfl ⟨λv=>rfl,f4⟩ ?_;rintro s⟨q1,q2⟩;refine ZBz _ _ _ _ _ _ _ _ ?_;(simp only[vE]);rw[<-af,ah];(simp only[iB,vcT,vcS]);refine⟨λhl=>⟨by simp;omega,s++[0],rfl,⟨λv=>?_,by simp;omega⟩,by simp;omega⟩,λhl=>?_⟩;.rw[Zdb 0 Yp,q1]
   .have hl:y2.at_<s.length:=Yp;refine⟨by simp only[Zs1];omega,Yp,Yp,V2,(i+1,s.set y2.at_.toNat (mix (y1.words.getD y2.at_.toNat 0) y2.new y2.mask)),rfl,⟨V1,V1,?_,by simp only[List.length_set];omega⟩,V1⟩;dsimp only;rw[<-f3,<-ZhQ 0 Yp,q1]
 .rw[Qb Yp,wsD]at f3;refine Z6 (ι:=Int×List Tree) (λs=>Zb2 e y1 out s.1 s.2) (λs=>0<=s.1/\s.1<=e.kids.length/\Z0c false y1.kids (e.kids.drop s.1.toNat) s.2=Z0c false y1.kids e.kids y1.kids/\s.2.length<=y1.kids.length+65536) (λs=>((e.kids.length:Int)-s.1).toNat) (0,y1.kids) rfl ⟨by simp,by simp,by simp,by simp⟩ ?_;rintro⟨j,ks⟩⟨e1,e2,e3,e4⟩;dsimp only at e1 e2 e3 e4;refine ZBy _ _ _ _ _ _ _ _ ?_;rintro y1 aq y2 af y3 ar y4 am;subst aq;(simp only[iB,vcT,vcS]);refine⟨λhj=>?_,λhj=>?_⟩
  .have aa:=Ze (l:=e.kids) (i:=j.toNat) Yp (KidOf.mk 0 Edit.nil);rw[Yu e1 hj (KidOf.mk 0 Edit.nil),<-af]at e3;rw[<-af]at aa;have az:=ZD ri.kids y2 aa;have hm:=Z27 aa;have a6:=ZgZ aa;have bt:=Z0d e;have hr:=(Z1j r2.2.2.2.2.2.1 aa).2;have ah:Zo y1 y2.at_=y1.kids.getD y2.at_.toNat Tree.nil:=Jl y1 Yp;rw[ah]at am;have a7:=Zn7 y1.kids y2.at_.toNat;have au:=ZjS rt.2.2 y2.at_.toNat;rw[Z0c,Z7e,<-am,<-ar]at e3;rw[<-am]at a7 au;rw[<-ar]at hm hr az a6;refine⟨⟨e1,hj⟩,by simp only[Z6A],by simp only[Z4s];exact⟨⟨Yp,hr,_,az.2⟩,Yp,au⟩,by simp only[Zhm];omega,λaj=>no ?_,λai=>?_⟩
   .have aj:doE false y3 y4=none:=by simpa using aj
    rw[aj]at e3;unfold Ze6;rw[if_pos hk,<-f3,<-e3];try rfl
   .obtain⟨u,hu⟩:=X7.1 ai;rw[hu,Qr]at e3;refine Z6 (ι:=List Tree) (λs=>Zb1 e y1 out j s) (λs=>(∀v,ZK Tree.nil s y2.at_.toNat v=ZK Tree.nil ks y2.at_.toNat v)/\s.length<=y1.kids.length+65536) (λs=>(y2.at_+1-s.length).toNat) ks rfl ⟨λv=>rfl,e4⟩ ?_;rintro s⟨q1,q2⟩;refine ZBx _ _ _ _ _ _ _ _ _ ?_;rintro z1 a2 z2 ay z3 av z4 aw z5 ax;rw[<-af]at ay;subst a2 ay;rw[<-ar]at av;subst av;rw[ah,<-am]at aw;subst aw;rw[Zco hu]at ax;subst ax;(simp only[iB,vcT,vcS]);refine⟨λhl=>⟨by simp;omega,s++[Tree.nil],rfl,⟨λv=>?_,by simp;omega⟩,by simp;omega⟩,λhl=>?_⟩;.rw[Zdb Tree.nil Yp,q1]
    .have hl:z2.at_<s.length:=Yp;refine⟨Yp,Yp,V2,(j+1,s.set z2.at_.toNat z5),rfl,⟨V1,V1,?_,by simp only[List.length_set];omega⟩,V1⟩;dsimp only;rw[<-e3,<-ZhQ Tree.nil Yp,q1]
  .rw[Qb Yp,Z0c]at e3;have hs:Ze6 false e y1=some (.mk 1 out ks):=by unfold Ze6;rw[if_pos hk,<-f3,<-e3];try rfl
   simp only[Zaa,hs];exact YH
theorem ZuV(r:Bool)(o:Op)(s:List Op)(rest out:List Tree):Y6 r (o::s) rest out=(Z5L r o rest out).bind λx=>Y6 r s x.2 x.1:=by rw[Y6]
theorem Jk{ks:List Tree}(h:ZV ks)(n:Nat):ZV (ks.drop n):=by induction n generalizing ks with|zero=>exact h|succ n ih=>cases ks with|nil=>exact h|cons a r=>exact ih h.2
theorem b44:ZMj:=by
 intro N e t _ hp hN;simp only[Zai,Zn2]at hp hN;obtain⟨k3,⟨p1,p2,d,p3⟩,p4,p5⟩:=hp;have h1:=JL e;have h2:=YG e.ops;have h3:=ZxP t;have h4:=ZT t.kids;have r2:=Zel p2;have rt:=ZjT p5;have ri:=Zt p3;refine ZNy _ _ _ _ ?_;(simp only[iB,vcT,vcS]);have no:Z8c false e t=none->Z06 cfg Tryz.f44.ntmps Tryz.f44.results.toList (Za9 (e,t,())) [] .ret (⟨[(4,.ptr (.loc 4) 0),(5,.c (.bool false))],[((.loc 4),[.int .i64 0,.nils,.nils])],[]⟩:LSt U):=by
  intro hs;simp only[Za9,hs];exact YH
 refine⟨λhk=>no (by unfold Z8c;rw[if_neg hk]),λhk=>?_⟩;have hk:t.kind=e.list:=by simpa using hk
 have bl:Z8c false e t=Y6 false e.ops t.kids []:=by unfold Z8c;rw[if_pos hk]
 refine Z6 (ι:=Int×List Tree×List Tree) (λs=>Z3h e t s.1 s.2.2 s.2.1) (λs=>0<=s.1/\s.1<=e.ops.length/\Y6 false (e.ops.drop s.1.toNat) s.2.2 s.2.1=Z8c false e t/\s.2.1.length+s.2.2.length+Zh (e.ops.drop s.1.toNat)<=t.kids.length+Zh e.ops/\Z5 s.2.2<=Z5 t.kids/\ZV s.2.2) (λs=>((e.ops.length:Int)-s.1).toNat) (0,[],t.kids) rfl ⟨by simp,by simp,by simp[bl],by simp,by simp,rt.2.2⟩ ?_;rintro⟨i,out,aa⟩⟨f1,f2,f3,f4,f5,f6⟩;dsimp only at f1 f2 f3 f4 f5 f6;refine ZBv _ _ _ _ _ _ _ _ ?_;rintro y1 al;(simp only[iB,vcT,vcS]);refine⟨λhi=>?_,λhi=>?_⟩
 .have af:=Ze (l:=e.ops) (i:=i.toNat) Yp Op.nil;rw[Yu f1 hi Op.nil,<-al]at f3 f4;rw[<-al]at af;have hr:=Go.AM.rightOs_mem ri.ops y1 af;have hm:=Jv af;have bg:=ZbI af;have b2:=Z0d e;have bk:=YE y1;have bc:=Z2h (Z4p r2.2.2.2.2.2.2 af);have bz:=ZT y1.l;simp only[Zh]at f4;rw[ZuV,Yo]at f3;have go:∀(x:List Tree)(m:List Tree)(v:V U)N0 Q',Y6 false (e.ops.drop (i+1).toNat) x m=Z8c false e t->m.length+x.length+Zh (e.ops.drop (i+1).toNat)<=t.kids.length+Zh e.ops->Z5 x<=Z5 t.kids->ZV x->(∀s2,s2=Z3h e t (i+1) x m->N0 s2)->A44 N [1,1,1,1,0,1,0,0,1,1,1] (Z4R e t i x m v) (AExit.then N0 (AExit.inBlock 0 (S44 N [1,1,1,1,1] Q'))):=by intro x m v N0 Q' a1 a2 a3 a4 a5;exact ZBw _ _ _ _ _ _ _ _ _ ⟨V2,a5 _ rfl⟩
  have aq:∀(x m:List Tree),Y6 false (e.ops.drop (i+1).toNat) x m=Z8c false e t->m.length+x.length+Zh (e.ops.drop (i+1).toNat)<=t.kids.length+Zh e.ops->Z5 x<=Z5 t.kids->ZV x->∀s2,s2=Z3h e t (i+1) x m->∃j:Int×List Tree×List Tree,s2=Z3h e t j.1 j.2.2 j.2.1/\(0<=j.1/\j.1<=e.ops.length/\Y6 false (e.ops.drop j.1.toNat) j.2.2 j.2.1=Z8c false e t/\j.2.1.length+j.2.2.length+Zh (e.ops.drop j.1.toNat)<=t.kids.length+Zh e.ops/\Z5 j.2.2<=Z5 t.kids/\ZV j.2.2)/\((e.ops.length:Int)-j.1).toNat<((e.ops.length:Int)-i).toNat:=by rintro x m a1 a2 a3 a4 _ rfl;exact⟨(i+1,m,x),rfl,⟨V1,V1,a1,a2,a3,a4⟩,V1⟩
  have r1:=Yf hr;have ht:∀n:Nat,(aa.take n).length<=aa.length/\(aa.take n).length+(aa.drop n).length=aa.length:=by intro n;simp only[Qu,Qt];omega
  refine⟨⟨f1,hi⟩,λak=>⟨Yp,?_⟩,λak=>⟨λah=>?_,λah=>⟨λao=>?_,λao=>?_⟩⟩⟩;.rw[JH,JH,if_pos ak,Qr]at f3;exact go _ _ _ _ _ f3 (by simp only[Q8];omega) f5 f6 (aq _ _ f3 (by simp only[Q8];omega) f5 f6)
  .refine Zju _ _ _ _ _ _ _ _ _ _ ?_;rintro z1 ae z2 av z3 au z4 am z5 aj z6 ar;rw[<-al]at ae;subst ae;rw[JH,if_pos ah]at f3;(simp only[iB,vcT,vcS]);rw[X3]at aj;rw[X3];refine⟨λhs=>no ?_,λhs=>⟨Yp,Yp,λh=>by omega,λ_=>⟨λ_=>⟨?_,λhq=>no ?_,λhq=>?_⟩,λh=>absurd ah h⟩⟩⟩
   .have:Z05 z1.l aa=false:=by unfold Z05;rw[decide_eq_false Yp];try rfl
    rw[this,if_neg (by simp)]at f3;exact f3.symm
   .have:=Z5v z1.l.length aa;simp only[ZfS];omega
   .have:Z05 z1.l aa=false:=by unfold Z05;rw[<-aj,hq];simp
    rw[this,if_neg (by simp)]at f3;exact f3.symm
   .have:Z05 z1.l aa=true:=by unfold Z05;rw[<-aj,hq,decide_eq_true Yp];try rfl
    rw[this,if_pos rfl,Qr]at f3;have hd:=J9 z1.l.length aa;have ba:=ht z1.l.length;exact go _ _ _ _ _ f3 Yp Yp (Jk f6 _) (aq _ _ f3 Yp Yp (Jk f6 _))
  .refine Zju _ _ _ _ _ _ _ _ _ _ ?_;rintro z1 ae z2 av z3 au z4 am z5 aj z6 ar;rw[<-al]at ae;subst ae;rw[JH,if_neg ah,if_neg ak]at f3;(simp only[iB,vcT,vcS]);rw[show Int.toNat 1=1 from rfl];refine⟨λhs=>no ?_,λhs=>⟨Yp,Yp,λh=>by omega,λ_=>⟨λh=>absurd h ah,λ_=>?_⟩⟩⟩;.rw[Y3]at f3;exact f3.symm
   .have hz:z3=aa.getD 0 Tree.nil:=by rw[au,av];cases aa with|nil=>rfl|cons a r=>rfl
    rw[JH,<-hz,<-am]at f3;have bi:=Zn7 aa 0;have a8:=ZjS f6 0;rw[<-hz]at bi a8;have bb:=Z15 hr ao;rw[<-am]at bb bk bc bg;refine⟨?_,by simp only[Z4s];exact⟨⟨Yp,bc.2.2.2,_,bb⟩,Yp,a8⟩,by simp only[Zhm];omega,λax=>no ?_,λbj=>?_⟩;.simp only[Qu];omega
    .have ax:doE false z4 z3=none:=by simpa using ax
     rw[ax]at f3;exact f3.symm
    .obtain⟨u,hu⟩:=X7.1 bj;rw[Zco hu]at ar;subst ar;rw[hu,Qk,Qr]at f3;have hd:=J9 1 aa;have ba:=ht 1;have b4:(aa.take 1).length=1:=by simp only[Qu];omega
     refine⟨by simp only[Qp];omega,?_⟩;exact go _ _ _ _ _ f3 (by simp only[Q8,Qp];omega) Yp (Jk f6 _) (aq _ _ f3 (by simp only[Q8,Qp];omega) Yp (Jk f6 _))
  .have aw:y1.kind=0:=by cases r1<;>first|rfl|(exfalso;simp at ah ak ao)
   refine Zju _ _ _ _ _ _ _ _ _ _ ?_;rintro z1 ae z2 av z3 au z4 am z5 aj z6 ar;rw[<-al]at ae;subst ae;rw[if_pos aw]at f3;have hn:1<=z1.n/\z1.n<=1048576:=by cases r1<;>first|(constructor<;>assumption)|(exfalso;simp at ah ak ao aw)
   (simp only[iB,vcT,vcS]);refine⟨λhs=>no ?_,λhs=>⟨Yp,Yp,λ_=>⟨?_,?_⟩,λh=>absurd aw h⟩⟩;.rw[JH]at f3;exact f3.symm
   .have:=(ht z1.n.toNat).1;omega
   .rw[Y3,Qr]at f3;have hd:=J9 z1.n.toNat aa;have ba:=ht z1.n.toNat;exact go _ _ _ _ _ f3 (by simp only[Q8];omega) Yp (Jk f6 _) (aq _ _ f3 (by simp only[Q8];omega) Yp (Jk f6 _))
 .rw[Qb Yp,Y6]at f3;simp only[Za9,<-f3,Zyi,Z5J,Qr,hk];by_cases hr:aa.length=0;.rw[if_pos hr,hr];exact YH
  .rw[if_neg hr,show((aa.length:Int)==0)=false by rw[beq_eq_false_iff_ne];omega];exact YH
theorem ZO9:Contract Tryz.prog cfg 23 Zc6/\Contract Tryz.prog cfg 43 ZvY/\Contract Tryz.prog cfg 44 ZvX:=ZCG c38 c63 c64 c72 c70 c71 Zjf b23 b43 b44
theorem c23:Contract Tryz.prog cfg 23 Zc6:=ZO9.1
theorem ZeQ:∀(ks:List Kid),(Z0L ks).length=ks.length|[]=>rfl|k::r=>by simp only[Z0L,Qa,ZeQ r]
theorem Z29(t:Tree):(Z0 t).kind=t.kind:=by
 obtain⟨k,w,ks⟩:=t;simp only[Z0];by_cases h0:k=0;.rw[if_pos h0,h0];try rfl
 .rw[if_neg h0];by_cases h1:k=1;.rw[if_pos h1,h1];try rfl
  .rw[if_neg h1];try rfl
theorem ZeS:∀(l:List Int),∃r,l=trim l++r
 |[]=>⟨[],rfl⟩|x::r=>by
  obtain⟨s,d⟩:=ZeS r;simp only[trim];split
  .rename_i e;split;.exact⟨x::r,rfl⟩
   .exact⟨r,rfl⟩
  .rename_i y t e;rw[e]at d;exact⟨s,by rw[d];rfl⟩
theorem ZbV:∀(l:List Tree),∃r,l=Yq l++r
 |[]=>⟨[],rfl⟩|x::r=>by
  obtain⟨s,d⟩:=ZbV r;simp only[Yq];split
  .rename_i e;split;.exact⟨x::r,rfl⟩
   .exact⟨r,rfl⟩
  .rename_i y t e;rw[e]at d;exact⟨s,by rw[d];rfl⟩
theorem ZfG{list d:Int}:∀(a b:List Tree),Yj list (a++b) d=true->Yj list a d=true|[],_,_=>rfl|t::r,b,h=>by simp only[Qo,Yj,Q2]at h⊢;exact⟨h.1,ZfG r b h.2⟩
theorem Z2Q:∀(l:List Tree),(Yx l).length=l.length|[]=>rfl|t::r=>by simp only[Yx,Qa,Z2Q r]
theorem ZuI{list:Int}{t:Tree}(h:Z0P list t=true):Z0P list (Z0 t)=true:=by
 unfold Z0P at h⊢;rw[Z29];split at h
 .rename_i hl;rw[if_pos hl];simp only[Q2,decide_eq_true_eq]at h⊢;obtain⟨⟨d,h2,h3⟩,h4⟩:=h;obtain⟨k,w,ks⟩:=t;simp only[Tree.kind_mk,Tree.kids_mk,Tree.words_mk]at d h2 h3 h4;have:ks=[]:=Xk.1 h2;subst this;subst d;trivial
 grind
mutual theorem Z0t:∀(t:Tree)(d:Int),Zb t d=true->Zb (Z0 t) d=true
 |.mk k w ks,d,h=>by
  have ih:=λ(list:Int)(h:Yj list ks (d-1)=true)=>Z6q ks list (d-1) h;simp only[Zb]at h;simp only[Z0];by_cases h0:k=0;.rw[if_pos h0];try rfl
  .rw[if_neg h0]at h⊢;by_cases h10:k=10
   .subst h10;rw[if_pos rfl]at h;rw[if_neg V0];simp only[decide_eq_true_eq]at h;simp only[Zb];rw[if_neg V0,if_pos trivial,Z2Q];simpa using h
   .rw[if_neg h10]at h;by_cases hd:d=0;.grind
    .rw[if_neg hd]at h;by_cases h1:k=1
     .subst h1;rw[if_pos rfl]at h;rw[if_pos rfl];simp only[Q2,decide_eq_true_eq]at h;simp only[Zb];rw[if_neg V0,if_neg V0,if_neg hd,if_pos trivial];simp only[Q2,decide_eq_true_eq];obtain⟨r1,e1⟩:=ZeS w;obtain⟨r2,e2⟩:=ZbV (Yx ks);have l1:=congrArg List.length e1;have l2:=congrArg List.length e2;rw[Z2Q]at l2;simp only[Q8]at l1 l2;refine⟨⟨Yp,Yp⟩,?_⟩;have:=ih 1 h.2;rw[e2]at this;exact ZfG _ _ this
     .rw[if_neg h1]at h⊢;simp only[Q2,decide_eq_true_eq]at h;simp only[Zb];rw[if_neg h0,if_neg h10,if_neg hd,if_neg h1,Z2Q];grind theorem Z6q:∀(l:List Tree)(list d:Int),Yj list l d=true->Yj list (Yx l) d=true|[],_,_,_=>rfl|t::r,list,d,h=>by simp only[Yj,Q2]at h;have h1:=Z0t t d h.1.2;have h2:=Z6q r list d h.2;simp only[Yx,Yj,Q2];exact⟨⟨ZuI h.1.1,h1⟩,h2⟩end
theorem Z1T(e:Edit):(Y2 e).kind=e.kind:=by cases e;rfl
theorem ZhF(e:Edit):(Y2 e).old=e.new:=by cases e;rfl
theorem ZhG(e:Edit):(Y2 e).new=e.old:=by cases e;rfl
theorem Z9l:∀(l:List WEdit)(last:Int),Ye last (l.map Z6a)=Ye last l|[],_=>rfl|w::r,last=>by simp only[Xa,Ye,Z9l r];have d:(Z6a w).at_=w.at_:=rfl;have h2:(Z6a w).mask=w.mask:=rfl;have h3:(Z6a w).old=w.new:=rfl;have h4:(Z6a w).new=w.old:=rfl;grind
theorem Zom(o:Op):Z4 (Je o)=Z4 o/\((Je o).kind=2↔o.kind=1)/\((Je o).kind=1↔o.kind=2):=by
 rw[Z07];by_cases h1:o.kind=1;.rw[if_pos h1];simp[Z4,h1]
 .rw[if_neg h1];by_cases h2:o.kind=2;.rw[if_pos h2];simp[Z4,h2]
  .rw[if_neg h2];by_cases h3:o.kind=3;.rw[if_pos h3];simp[Z4,h3]
   simp_all
theorem ZaF:∀(l:List Op)(n:Int),Z1H (JS l) n=Z1G l n/\Z1G (JS l) n=Z1H l n
 |[],_=>⟨rfl,rfl⟩|o::r,n=>by
  obtain⟨d,h2,h3⟩:=Zom o;simp only[JS,Z1H,Z1G];rw[d];constructor;.rw[(ZaF r _).1];grind
  .rw[(ZaF r _).2];grind
theorem Z8y:∀(l:List Op),(JS l).length=l.length|[]=>rfl|o::r=>by simp only[JS,Qa,Z8y r]
theorem ZCv{list d:Int}{o:Op}(h:Z9 list o d=true)(hi:Z8 o.e d=true->Z8 (Y2 o.e) d=true):Z9 list (Je o) d=true:=by
 have h':=h;rw[Z16]at h;by_cases k0:o.kind=0
 .have e:Je o=o:=by rw[Z07,JH,JH,JH]
  grind
 .rw[if_neg k0]at h;split at h;.cases h
  .rename_i hk;by_cases k3:o.kind=3
   .rw[JH]at h;have e:Je o=⟨o.kind,o.n,o.l,Y2 o.e⟩:=by rw[Z07,JH,JH,if_pos k3]
    rw[e,Z16];simp only;rw[if_neg k0,if_neg hk,JH,Z1T,ZhF,ZhG];grind
   .rw[Y3]at h;have aa:o.kind=1\/o.kind=2:=Yp;rcases aa with k|k
    .have e:Je o=⟨2,o.n,o.l,o.e⟩:=by rw[Z07,if_pos k]
     rw[e,Z16];grind
    .have e:Je o=⟨1,o.n,o.l,o.e⟩:=by rw[Z07,JH,if_pos k]
     rw[e,Z16];grind
mutual theorem Z0v:∀(e:Edit)(d:Int),Z8 e d=true->Z8 (Y2 e) d=true
 |.mk k o n w ks l os,d,h=>by
  have h1:=Za4 ks;have h2:=Za0 l os;simp only[Z8]at h;simp only[Y2,Z8];split at h;.cases h
  .rename_i a;rw[if_neg a];split at h;.cases h
   .rename_i b;rw[if_neg (by rw[X6,ZeQ,Z8y];grind)];split at h;.grind
    .rename_i c;rw[if_neg c];simp only[Q2,decide_eq_true_eq]at h⊢;obtain⟨⟨⟨⟨x1,x2⟩,x3⟩,x4⟩,x5⟩:=h;refine⟨⟨⟨⟨by rw[Z9l];exact x1,h1 _ _ x2⟩,x3⟩,h2 _ x4⟩,?_⟩;rw[(ZaF os 0).1,(ZaF os 0).2];omega theorem Za4:∀(ks:List (KidOf Edit))(last d:Int),ZA last ks d=true->ZA last (Z0L ks) d=true
 |[],_,_,_=>rfl|k::r,last,d,h=>by
  simp only[ZA,Q2]at h;have h1:=Zhi k last d h.1;have h2:=Za4 r k.at_ d h.2;simp only[Z0L,ZA,Q2];exact⟨h1,by rw[ZeR];exact h2⟩theorem Zhi:∀(k:KidOf Edit)(last d:Int),YB last k d=true->YB last (Z2O k) d=true|⟨a,e⟩,last,d,h=>by simp only[YB,Q2]at h;have h1:=Z0v e d h.2;simp only[Z2O,YB,Q2];rw[Z1T];grind theorem Za0(list:Int):∀(os:List (OpOf Edit))(d:Int),Zz list os d=true->Zz list (JS os) d=true|[],_,_=>rfl|o::r,d,h=>by simp only[Zz,Q2]at h;have h1:=ZjV list o d h.1;have h2:=Za0 list r d h.2;simp only[JS,Zz,Q2];grind theorem ZjV(list:Int):∀(o:OpOf Edit)(d:Int),Z9 list o d=true->Z9 list (Je o) d=true|⟨k,n,l,e⟩,d,h=>ZCv (o:=⟨k,n,l,e⟩) h (λhe=>Z0v e d he)end
theorem Z4A:∀(a b:List Tree),Z5 (a++b)=Z5 a+Z5 b|[],b=>by simp[Z5]|t::r,b=>by simp only[Qo,Z5,Z4A r b];omega
theorem Z1c:∀(a b:List Op),Zh (a++b)=Zh a+Zh b|[],b=>by simp[Zh]|t::r,b=>by simp only[Qo,Zh,Z1c r b];omega
theorem Z6O:∀(l:List Tree),Z5 (Z7 l)<=Z5 l|[]=>by trivial|t::r=>by have h:=Z6O r;have d:=ZI t;simp only[Z7]at h;simp only[Z7,Xa,Z5];omega
theorem Z7F:Zi Edit.nil=3:=by rfl
theorem Z1o:mass Tree.nil=1:=by rfl
theorem Z7E(t:Tree):1<=mass t:=by cases t;simp only[mass];omega
theorem Znb:∀(e:Edit),3<=Zi e|.mk k o n w ks l os=>by have d:=Z7E o;have h2:=Z7E n;simp only[Zi];omega
def Z8W(w:Wst):Nat:=Zh w.out+w.out.length+Z5 w.gone+Z5 w.brought+(if w.gone.length=0 then 0 else 4)+(if w.brought.length=0 then 0 else 4)
theorem Z1b(o:Op):Zh [o]=Zu o:=by rfl
theorem Z2X(k n:Int)(l:List Tree)(e:Edit):Zu (OpOf.mk k n l e)=Z5 l+Zi e:=rfl
theorem Zcn(w:Wst):Zh (Zc w).out+(Zc w).out.length=Z8W w:=by
 simp only[Zc,Z0R,Z8W];rw[Z1c,Z1c,Q8,Q8];by_cases hg:w.gone.length=0
 .have e:w.gone=[]:=Xk.1 hg;rw[if_pos hg,if_pos hg,e];by_cases hb:w.brought.length=0
  .have d:w.brought=[]:=Xk.1 hb;rw[if_pos hb,if_pos hb,d];try rfl
  .rw[if_neg hb,if_neg hb,Z1b,Z2X,Z7F];simp[Zh,Z5];omega
 .rw[if_neg hg,if_neg hg,Z1b,Z2X,Z7F];by_cases hb:w.brought.length=0;.have d:w.brought=[]:=Xk.1 hb;rw[if_pos hb,if_pos hb,d];simp[Zh,Z5];omega
  .rw[if_neg hb,if_neg hb,Z1b,Z2X,Z7F];simp;omega
theorem ZmL(w:Wst)(n:Int):Z8W (ZH w n)<=Z8W w+4:=by
 have h:=Zcn w;have e:Z8W (ZH w n)=Zh (Z1Q (Zc w).out n)+(Z1Q (Zc w).out n).length:=rfl;rw[e];rcases JQ (Zc w).out n with e|⟨a,o,e1,_,e3⟩;.rw[e,Z1c,Q8,Z1b,Z2X,Z7F];simp[Z5];omega
 .rw[e3,Z1c,Q8,Z1b];rw[e1,Z1c,Q8,Z1b]at h;obtain⟨k,m,l,e⟩:=o;simp only[Z2X]at h⊢;grind
theorem ZGm{list:Int}{w:Wst}{o:Op}(hi:Zi (ZM o.e)<=Zi o.e):Z8W (JO list o w)<=Z8W w+Zu o+1:=by
 have h3:=Znb o.e;have d:Zu o=Z5 o.l+Zi o.e:=by cases o;rfl
 have hn:=Z6O o.l;have hl:(Z7 o.l).length=o.l.length:=by simp[Z7]
 rw[Z2s];split;.have:=ZmL w o.n;omega
 .split;.simp only[Z8W,Z4A,Q8,hl];grind
  .split
   .simp only[Z8W,Z4A,Q8,hl];grind
   .split
    .split;.have:=ZmL w 1;omega
     .have:=Zcn w;have e:Z8W ⟨(Zc w).out++[⟨3,0,[],ZM o.e⟩],[],[]⟩=Zh ((Zc w).out++[(⟨3,0,[],ZM o.e⟩:Op)])+((Zc w).out++[(⟨3,0,[],ZM o.e⟩:Op)]).length:=rfl;rw[e,Z1c,Q8,Z1b,Z2X];simp[Z5];omega
    .omega
mutual theorem ZcA:∀(e:Edit),Zi (ZM e)<=Zi e
 |.mk k o n w ks l os=>by
  have d:=Zgn ks;have h2:=Zs6 l os W0;have h3:=Zcn (ZP l os W0);have e0:Z8W W0=0:=rfl;have po:=Z7E o;have pn:=Z7E n;have mo:=ZI o;have mn:=ZI n;rw[ZM];split;.simp only[Zi,Zr,Zh,Qm];omega
  .split;.simp only[Zi,Zr,Zh,Qm,Z1o];omega
   .split;.simp only[Zi,Zr,Qm,Z1o];show 1+1+1+0+(Zc (ZP l os W0)).out.length+0+Zh (Zc (ZP l os W0)).out<=_;omega
    .simp only[Zi,Zr,Zh,Qm,Z1o];omega theorem Zgn:∀(ks:List (KidOf Edit)),Zr (Jx ks)<=Zr ks
 |[]=>Qc _|k::r=>by have d:=Zn9 k;have h2:=Zgn r;simp only[Jx,Zr];omega theorem Zn9:∀(k:KidOf Edit),Yg (Z0O k)<=Yg k|⟨a,e⟩=>by have h:=ZcA e;trivial theorem Zs6(list:Int):∀(os:List (OpOf Edit))(w:Wst),Z8W (ZP list os w)<=Z8W w+Zh os+os.length|[],w=>by simp[ZP,Zh]|o::r,w=>by have d:=Zua list o w;have h2:=Zs6 list r (JO list o w);simp only[ZP,Zh,Qa];omega theorem Zua(list:Int):∀(o:OpOf Edit)(w:Wst),Z8W (JO list o w)<=Z8W w+Zu o+1|⟨k,n,l,e⟩,_=>ZGm (o:=⟨k,n,l,e⟩) (ZcA e)end
theorem Z4w(e:Edit):(ZM e).kind=e.kind:=by
 rw[Z5r];split;.try rfl
 .split;.try rfl
  .split<;>rfl
theorem Zav(e:Edit)(h:e.kind=1):(ZM e).old=Z0 e.old/\(ZM e).new=Z0 e.new:=by rw[Z5r,if_pos h];simp_all
theorem ZoI{D list:Int}{t:Tree}(hD:D≠0)(h:Zb (.mk list [] [t]) D=true):Zb (.mk list [] [Z0 t]) D=true:=by have aa:=λ(k d:Int)(h:Yj k [t] d=true)=>Z6q [t] k d h;simp only[Yx]at aa;simp only[Zb]at h⊢;grind
theorem Z45{D list:Int}(hD:D≠0):∀{l:List Tree},Yy D list l=true->Yy D list (Z7 l)=true|[],_=>rfl|t::r,h=>by simp only[Yy,Q2]at h;have d:=Z45 hD h.2;simp only[Z7]at d;simp only[Z7,Xa,Yy,Q2];exact⟨ZoI hD h.1,d⟩
theorem Z6b{D list:Int}:∀{a b:List Tree},Yy D list a=true->Yy D list b=true->Yy D list (a++b)=true|[],_,_,h=>h|t::r,b,h,h2=>by simp only[Yy,Q2]at h;simp only[Qo,Yy,Q2];exact⟨h.1,Z6b h.2 h2⟩
def rOp(list:Int)(d:Int)(o:Op):Prop:=(o.kind=0->1<=o.n/\o.l.length=0/\Z36 o.e=true)/\(o.kind≠0->Z9 list o d=true)
theorem Zx3{list d:Int}{o:Op}(h:Z9 list o d=true):rOp list d o:=by refine⟨λhk=>?_,λ_=>h⟩;obtain⟨k,n,l,e⟩:=o;simp only at hk;subst hk;simp only[Z9,if_true,Q2,decide_eq_true_eq]at h;grind
theorem ZGi{list d:Int}{o:Op}(h:rOp list d o)(hn:o.kind=0->o.n<=1048576):Z9 list o d=true:=by
 by_cases hk:o.kind=0
 .have h1:=h.1 hk;have h2:=hn hk;obtain⟨k,n,l,e⟩:=o;simp only at hk h1 h2;subst hk;simp only[Z9,if_true,Q2,decide_eq_true_eq];grind
 .exact h.2 hk
theorem Z6o{list:Int}:∀{os:List Op}{d:Int},Zz list os d=true↔∀o∈os,Z9 list o d=true|[],d=>by simp[Zz]|o::r,d=>by simp only[Zz,Q2,Q9,forall_eq_or_imp];rw[Z6o (os:=r)]
theorem Z35:Z36 Edit.nil=true:=rfl
structure OkW(list d:Int)(w:Wst):Prop where
 out:∀o∈w.out,rOp list d o
 gone:Yy (dT d) list w.gone=true
 brought:Yy (dT d) list w.brought=true
theorem Zcp{list d:Int}{w:Wst}(h:OkW list d w):OkW list d (Zc w):=by
 refine⟨?_,rfl,rfl⟩;simp only[Zc,Z0R];intro o ho;rcases Qf.1 ho with ho|ho;.exact h.out o ho
 rcases Qf.1 ho with ho|ho
 .split at ho;.cases ho
  .rename_i hl;simp only[Qd]at ho;subst ho;refine⟨λhk=>(by cases hk),λ_=>?_⟩;simp only[Z9];rw[if_neg V0,if_neg V0,if_pos V0,h.gone,Z35];grind
 .split at ho;.cases ho
  .rename_i hl;simp only[Qd]at ho;subst ho;refine⟨λhk=>(by cases hk),λ_=>?_⟩;simp only[Z9];rw[if_neg V0,if_neg V0,if_pos V0,h.brought,Z35];grind
theorem ZmV{list d:Int}{w:Wst}{n:Int}(h:OkW list d w)(hn:1<=n):OkW list d (ZH w n):=by
 have hf:=Zcp h;refine⟨?_,rfl,rfl⟩;simp only[ZH];intro o ho;rcases JQ (Zc w).out n with e|⟨a,q,e1,e2,e3⟩
 .rw[e]at ho;rcases Qf.1 ho with ho|ho;.exact hf.out o ho
  .simp only[Qd]at ho;subst ho;exact⟨λ_=>⟨hn,rfl,Z35⟩,λhk=>absurd rfl hk⟩
 .rw[e3]at ho;rcases Qf.1 ho with ho|ho;.exact hf.out o (by grind)
  .simp only[Qd]at ho;subst ho;have hq:=(hf.out q (by rw[e1];simp)).1 e2;exact⟨λ_=>⟨by grind,hq.2⟩,λhk=>absurd e2 hk⟩
theorem ZGu{list d:Int}{w:Wst}{o:Op}(h:OkW list d w)(hr:Z9 list o d=true)(hi:Z8 o.e d=true->Z8 (ZM o.e) d=true):OkW list d (JO list o w):=by
 obtain⟨k,n,l,e⟩:=o;have ae:=hr;rw[Z9]at hr;rw[Z2s];simp only at hi⊢;split at hr;.rename_i hk;rw[if_pos hk];simp only[Q2,decide_eq_true_eq]at hr;exact ZmV h hr.1.1
 .rename_i hk;rw[if_neg hk];split at hr;.cases hr
  .rename_i hn;split at hr
   .rename_i h3;simp only[Q2,decide_eq_true_eq]at hr;by_cases k1:k=1;.rw[if_pos k1];exact⟨h.out,Z6b h.gone (Z45 (ZFF d) hr.1.1),h.brought⟩
    .rw[if_neg k1,Y3];exact⟨h.out,h.gone,Z6b h.brought (Z45 (ZFF d) hr.1.1)⟩
   .rename_i h3;rw[JH,JH,Y3];split;.exact ZmV h V0
    .have hf:=Zcp h;refine⟨?_,rfl,rfl⟩;intro o ho;rcases Qf.1 ho with ho|ho;.exact hf.out o ho
     .simp only[Qd]at ho;subst ho;refine⟨λhk=>(by cases hk),λ_=>?_⟩;simp only[Q2,decide_eq_true_eq]at hr;simp only[Z9];rw[if_neg V0,if_neg V0,if_neg V0,Z4w,hi hr.1.2];simp only[Kn,Q2,decide_eq_true_eq];refine⟨⟨rfl,hr.1.1.2⟩,?_⟩;rcases hr.2 with h|h|h;.exact Or.inl h
      .omega
      .rw[(Zav e h.1).1,(Zav e h.1).2,Z29,Z29];omega
def Z0q:List Op->Int|[]=>0|o::r=>(if o.kind=2 then 0 else Z4 o)+Z0q r
def Z0M:List Op->Int|[]=>0|o::r=>(if o.kind=1 then 0 else Z4 o)+Z0M r
theorem Z4l:∀(a b:List Op),Z0q (a++b)=Z0q a+Z0q b|[],b=>by simp[Z0q]|o::r,b=>by simp only[Qo,Z0q,Z4l r b];omega
theorem Z4k:∀(a b:List Op),Z0M (a++b)=Z0M a+Z0M b|[],b=>by simp[Z0M]|o::r,b=>by simp only[Qo,Z0M,Z4k r b];omega
theorem Z4I:∀(l:List Op)(n:Int),(∀o∈l,0<=Z4 o)->0<=n->n<=1048576->Z1H l n=min (n+Z0q l) 1048576/\0<=Z0q l
 |[],n,_,h1,h2=>by simp only[Z1H,Z0q];omega|o::r,n,h,h1,h2=>by
  have ho:=h o (Q5 ..);simp only[Z1H,Z0q];have d:0<=(if o.kind=2 then n else n+Z4 o)/\(if o.kind=2 then n else n+Z4 o)=n+(if o.kind=2 then 0 else Z4 o):=by split<;>omega
  have hy:0<=(if o.kind=2 then 0 else Z4 o):=by split<;>omega
  rw[d.2];rw[d.2]at d;generalize(if o.kind=2 then 0 else Z4 o)=y at*;obtain⟨e1,e2⟩:=Z4I r (min (n+y) 1048576) (λx d=>h x (Q3 _ d)) Yp Yp;omega
theorem Z4H:∀(l:List Op)(n:Int),(∀o∈l,0<=Z4 o)->0<=n->n<=1048576->Z1G l n=min (n+Z0M l) 1048576/\0<=Z0M l
 |[],n,_,h1,h2=>by simp only[Z1G,Z0M];omega|o::r,n,h,h1,h2=>by
  have ho:=h o (Q5 ..);simp only[Z1G,Z0M];have d:0<=(if o.kind=1 then n else n+Z4 o)/\(if o.kind=1 then n else n+Z4 o)=n+(if o.kind=1 then 0 else Z4 o):=by split<;>omega
  have hy:0<=(if o.kind=1 then 0 else Z4 o):=by split<;>omega
  rw[d.2];rw[d.2]at d;generalize(if o.kind=1 then 0 else Z4 o)=y at*;obtain⟨e1,e2⟩:=Z4H r (min (n+y) 1048576) (λx d=>h x (Q3 _ d)) Yp Yp;omega
theorem Zaf{list d:Int}{o:Op}(h:rOp list d o):0<=Z4 o:=by
 unfold Z4;split;.decide
 .by_cases hk:o.kind=0;.have:=(h.1 hk).1;omega
  .have hr:=h.2 hk;obtain⟨k,n,l,e⟩:=o;simp only at hk⊢;rw[Z9,if_neg hk]at hr;grind
theorem ZlM:∀{l:List Op}{o:Op},(∀o∈l,0<=Z4 o)->o∈l->o.kind≠2->Z4 o<=Z0q l
 |a::r,o,h,ho,hk=>by
  have hr:=(Z4I r 0 (λx d=>h x (Q3 _ d)) V0 V0).2;have ha:=h a (Q5 ..);simp only[Z0q];rcases Q9.1 ho with rfl|ho;.omega
  .have:=ZlM (λx d=>h x (Q3 _ d)) ho hk;omega
def sA(w:Wst):Int:=Z0q w.out+w.gone.length
def sB(w:Wst):Int:=Z0M w.out+w.brought.length
theorem ZbZ(w:Wst):Z0q (Zc w).out=sA w/\Z0M (Zc w).out=sB w:=by
 simp only[Zc,Z0R,sA,sB,Z4l,Z4k];constructor
 .by_cases hg:w.gone.length=0
  .rw[if_pos hg];by_cases hb:w.brought.length=0;.rw[if_pos hb];simp[Z0q];omega
   .rw[if_neg hb];simp[Z0q];omega
  .rw[if_neg hg];by_cases hb:w.brought.length=0;.rw[if_pos hb];simp[Z0q,Z4]
   .rw[if_neg hb];simp[Z0q,Z4]
 .by_cases hg:w.gone.length=0
  .rw[if_pos hg];by_cases hb:w.brought.length=0;.rw[if_pos hb];simp[Z0M];omega
   .rw[if_neg hb];simp[Z0M,Z4]
  .rw[if_neg hg];by_cases hb:w.brought.length=0;.rw[if_pos hb];simp[Z0M];omega
   .rw[if_neg hb];simp[Z0M,Z4]
theorem ZlL(w:Wst)(n:Int):sA (ZH w n)=sA w+n/\sB (ZH w n)=sB w+n:=by
 have hf:=ZbZ w;simp only[ZH];have e1:∀x,sA ⟨x,[],[]⟩=Z0q x:=λx=>by simp[sA]
 have d:∀x,sB ⟨x,[],[]⟩=Z0M x:=λx=>by simp[sB]
 rw[e1,d,<-hf.1,<-hf.2];rcases JQ (Zc w).out n with e|⟨a,q,e1,d,e3⟩;.rw[e,Z4l,Z4k];simp[Z0q,Z0M,Z4]
 .rw[e3,e1,Z4l,Z4k,Z4l,Z4k];simp only[Z0q,Z0M,Z4,d];simp;omega
theorem ZG9{list d:Int}{w:Wst}{o:Op}(hr:Z9 list o d=true):sA (JO list o w)=sA w+(if o.kind=2 then 0 else Z4 o)/\sB (JO list o w)=sB w+(if o.kind=1 then 0 else Z4 o):=by
 have hl:∀l,((Z7 l).length:Int)=l.length:=λl=>by simp[Z7]
 obtain⟨k,n,l,e⟩:=o;rw[Z9]at hr;rw[Z2s];simp only[Z4];split at hr;.rename_i hk;subst hk;rw[if_pos rfl];simp only[Q2,decide_eq_true_eq]at hr;have:=ZlL w n;simp;omega
 .rename_i hk;rw[if_neg hk];split at hr;.cases hr
  .rename_i hn;split at hr
   .rename_i h3;by_cases k1:k=1
    .subst k1;rw[if_pos rfl];simp only[sA,sB,Q8];grind
    .have k2:k=2:=Yp;subst k2;rw[if_neg k1,if_pos rfl];simp only[sA,sB,Q8];grind
   .rename_i h3;have k3:k=3:=Yp;subst k3;rw[JH,JH,if_pos rfl];split;.have:=ZlL w 1;omega
    .have:=ZbZ w;simp only[sA,sB,Z4l,Z4k,Z0q,Z0M,Z4]at this⊢;grind
mutual theorem Z17:∀(e:Edit)(d:Int),Z8 e d=true->Z8 (ZM e) d=true
 |.mk k o n w ks l os,d,h=>by
  have h1:=Zdf ks;have h2:=Zsb l os;have h4:=Zrf l os;rw[Z8]at h;split at h;.cases h
  .rename_i a;split at h;.cases h
   .rename_i b;have nn:Z0i Tree.nil=true:=rfl;by_cases k1:k=1
    .subst k1;rw[if_pos rfl]at h;have hl:l=0:=by apply XN;intro hl;exact b (.inr (.inr ⟨V0,.inl hl⟩))
     simp only[Q2,decide_eq_true_eq]at h;rw[ZM,if_pos rfl,Z8,if_neg a,if_neg (by simp[hl]),if_pos rfl];simp only[Q2,decide_eq_true_eq];rw[Z29,Z29];exact⟨⟨Z0t _ _ h.1.1,Z0t _ _ h.1.2⟩,h.2⟩
    .rw[if_neg k1]at h;simp only[Q2,decide_eq_true_eq]at h;obtain⟨⟨⟨⟨x1,x2⟩,x3⟩,x4⟩,x5⟩:=h;rw[ZM,if_neg k1];by_cases k2:k=2
     .have hl:l=0:=by
       apply XN;intro hl;exact b (.inr (.inr ⟨Yp,.inl hl⟩))
      rw[if_pos k2,Z8,if_neg a,if_neg (by grind),if_neg k1];grind
     .rw[if_neg k2];by_cases k3:k=3
      .rw[if_pos k3,Z8,if_neg a,if_neg (by simp[nn,k3]),if_neg k1];simp only[Q2,decide_eq_true_eq];have ae:=Z6o.1 x4;obtain⟨y1,y2⟩:=Z4I os 0 (λo ho=>Zaf (Zx3 (ae o ho))) V0 V0;obtain⟨z1,z2⟩:=Z4H os 0 (λo ho=>Zaf (Zx3 (ae o ho))) V0 V0;have hw:=h2 (d-1) W0 x4 ⟨λo ho=>(by cases ho),rfl,rfl⟩;have hs:=h4 (d-1) W0 x4;have ab:=Zcp hw;have ai:=ZbZ (ZP l os W0);have e0:sA W0=0/\sB W0=0:=⟨rfl,rfl⟩;have hA:=Z4I (Zc (ZP l os W0)).out 0 (λo ho=>Zaf (ab.out o ho)) V0 V0;have hB:=Z4H (Zc (ZP l os W0)).out 0 (λo ho=>Zaf (ab.out o ho)) V0 V0;refine⟨⟨⟨⟨rfl,rfl⟩,x3⟩,Z6o.2 (λo ho=>ZGi (ab.out o ho) (λhk=>?_))⟩,?_,?_⟩
       .have hm:=ZlM (λo ho=>Zaf (ab.out o ho)) ho Yp;unfold Z4 at hm;omega
       .show Z1H (Zc (ZP l os W0)).out 0<1048576;omega
       .show Z1G (Zc (ZP l os W0)).out 0<1048576;omega
      .have hl:l=0:=by apply XN;intro hl;exact b (.inr (.inr ⟨k3,.inl hl⟩))
       rw[if_neg k3,Z8,if_neg a,if_neg (by simp[nn,hl]),if_neg k1];grind theorem Zdf:∀(ks:List (KidOf Edit))(last d:Int),ZA last ks d=true->ZA last (Jx ks) d=true|[],_,_,_=>rfl|k::r,last,d,h=>by simp only[ZA,Q2]at h;have h1:=ZjX k last d h.1;have h2:=Zdf r k.at_ d h.2;simp only[Jx,ZA,Q2];exact⟨h1,by rw[Zcs];exact h2⟩theorem ZjX:∀(k:KidOf Edit)(last d:Int),YB last k d=true->YB last (Z0O k) d=true|⟨a,e⟩,last,d,h=>by simp only[YB,Q2]at h;have h1:=Z17 e d h.2;simp only[Z0O,YB,Q2];rw[Z4w];grind theorem Zsb(list:Int):∀(os:List (OpOf Edit))(d:Int)(w:Wst),Zz list os d=true->OkW list d w->OkW list d (ZP list os w)|[],_,_,_,hw=>hw|o::r,d,w,h,hw=>by simp only[Zz,Q2]at h;have h1:=Zug list o d w h.1 hw;exact Zsb list r d _ h.2 h1 theorem Zug(list:Int):∀(o:OpOf Edit)(d:Int)(w:Wst),Z9 list o d=true->OkW list d w->OkW list d (JO list o w)|⟨k,n,l,e⟩,d,w,h,hw=>ZGu (o:=⟨k,n,l,e⟩) hw h (λhe=>Z17 e d he)theorem Zrf(list:Int):∀(os:List (OpOf Edit))(d:Int)(w:Wst),Zz list os d=true->sA (ZP list os w)=sA w+Z0q os/\sB (ZP list os w)=sB w+Z0M os|[],_,_,_=>by simp[ZP,Z0q,Z0M]|o::r,d,w,h=>by simp only[Zz,Q2]at h;have h1:=ZG9 (w:=w) h.1;have h2:=Zrf list r d (JO list o w) h.2;simp only[ZP,Z0q,Z0M];omega end
theorem Z6n:∀{a b:List Tree},ZV (a++b)↔ZV a/\ZV b|[],b=>by simp[ZV]|t::r,b=>by simp only[Qo,ZV];rw[Z6n (a:=r),and_assoc]
mutual theorem Z03:∀(t:Tree),rng t->rng (Z0 t)
 |.mk k w ks,h=>by
  simp only[rng]at h;obtain⟨h1,h2,h3⟩:=h;have d:=Zi2 ks h3;simp only[Z0];split;.trivial
  .split
   .obtain⟨r1,e1⟩:=ZeS w;obtain⟨r2,e2⟩:=ZbV (Yx ks);simp only[rng];refine⟨V0,λx hx=>h2 x (by grind),?_⟩;rw[e2]at d;exact(Z6n.1 d).1
   trivial theorem Zi2:∀(l:List Tree),ZV l->ZV (Yx l)|[],_=>trivial|t::r,h=>by simp only[ZV]at h;have d:=Z03 t h.1;have h2:=Zi2 r h.2;trivial end
theorem Z8M:∀{l:List Tree},ZV l->ZV (Z7 l)|[],_=>trivial|t::r,h=>by simp only[ZV]at h;have d:=Z8M h.2;simp only[Z7]at d;simp only[Z7,Xa,ZV];exact⟨Z03 t h.1,d⟩
theorem Z4o:rng Tree.nil:=by trivial
mutual theorem Z7t:∀(e:Edit),YF e->YF (Y2 e)
 |.mk k o n w ks l os,h=>by
  simp only[YF]at h;obtain⟨d,h2,h3,h4,h5,h6,h7⟩:=h;have i6:=ZfB ks h6;have i7:=ZfA os h7;simp only[Y2,YF];refine⟨d,h3,h2,λx hx=>?_,h5,i6,i7⟩;obtain⟨y,hy,rfl⟩:=Xy.1 hx;have:=h4 y hy;simp only[JT,Z6a]at this⊢;grind theorem ZfB:∀(ks:List (KidOf Edit)),Z2p ks->Z2p (Z0L ks)
 |[],_=>trivial|k::r,h=>by
  simp only[Z2p]at h;have d:=Zm3 k h.1;have h2:=ZfB r h.2;trivial theorem Zm3:∀(k:KidOf Edit),Z2G k->Z2G (Z2O k)
 |⟨a,e⟩,h=>by simp only[Z2G]at h;have d:=Z7t e h.2;simp only[Z2O,Z2G];grind theorem ZfA:∀(os:List (OpOf Edit)),Z0W os->Z0W (JS os)
 |[],_=>trivial|o::r,h=>by
  simp only[Z0W]at h;have d:=ZoF o h.1;have h2:=ZfA r h.2;trivial theorem ZoF:∀(o:OpOf Edit),Yt o->Yt (Je o)
 |⟨k,n,l,e⟩,h=>by
  simp only[Yt]at h;have d:=Z7t e h.2.2.2;simp only[Je];split;.simp only[Yt];exact⟨by trivial,h.2⟩
  .split;.simp only[Yt];exact⟨by trivial,h.2⟩
   .split;.simp only[Yt];grind
    trivial end
structure RngW(w:Wst):Prop where
 out:∀o∈w.out,ZV o.l/\YF o.e
 gone:ZV w.gone
 brought:ZV w.brought
theorem Z7u:YF Edit.nil:=by simp only[Edit.nil,YF,Z2p,Z0W];exact⟨by trivial,Z4o,Z4o,by simp,by trivial,trivial,trivial⟩
theorem Z8K{w:Wst}(h:RngW w):RngW (Zc w):=by
 refine⟨?_,trivial,trivial⟩;simp only[Zc,Z0R];intro o d;rcases Qf.1 d with d|d;.exact h.out o d
 rcases Qf.1 d with d|d
 .split at d;.cases d
  .simp only[Qd]at d;subst d;exact⟨h.gone,Z7u⟩
 .split at d;.cases d
  .simp only[Qd]at d;subst d;exact⟨h.brought,Z7u⟩
theorem ZhX{w:Wst}{n:Int}(h:RngW w):RngW (ZH w n):=by
 have hf:=Z8K h;refine⟨?_,trivial,trivial⟩;simp only[ZH];intro o d;rcases JQ (Zc w).out n with e|⟨a,q,e1,e2,e3⟩
 .rw[e]at d;rcases Qf.1 d with d|d;.exact hf.out o d
  .simp only[Qd]at d;subst d;exact⟨trivial,Z7u⟩
 .rw[e3]at d;rcases Qf.1 d with d|d;.exact hf.out o (by grind)
  .simp only[Qd]at d;subst d;exact hf.out q (by rw[e1];simp)
theorem Zro{list:Int}{w:Wst}{o:Op}(h:RngW w)(hl:ZV o.l)(he:YF (ZM o.e)):RngW (JO list o w):=by
 rw[Z2s];split;.exact ZhX h
 .split;.exact⟨h.out,Z6n.2 ⟨h.gone,Z8M hl⟩,h.brought⟩
  .split;.exact⟨h.out,h.gone,Z6n.2 ⟨h.brought,Z8M hl⟩⟩
   .split
    .split;.exact ZhX h
     .refine⟨?_,trivial,trivial⟩;intro o d;rcases Qf.1 d with d|d;.exact(Z8K h).out o d
      .simp only[Qd]at d;subst d;trivial
    .exact h
theorem Zdd:∀{os:List Op},(∀o∈os,Yt o)->Z0W os|[],_=>trivial|o::r,h=>by simp only[Z0W];exact⟨h o (Q5 ..),Zdd (λx d=>h x (Q3 _ d))⟩
theorem Zm7{list d:Int}{o:Op}(h:Z9 list o d=true)(hl:ZV o.l)(he:YF o.e):Yt o:=by have hn:=Zi7 h;obtain⟨k,n,l,e⟩:=o;simp only at hn hl he;simp only[Yt];refine⟨?_,V2,hl,he⟩;rw[Z9]at h;unfold InR;grind
mutual theorem Z4q:∀(e:Edit)(d:Int),Z8 e d=true->YF e->YF (ZM e)
 |.mk k o n w ks l os,d,hr,h=>by
  have ab:=Zi8 hr;have aa:=Zi8 (Z17 _ _ hr);simp only[Edit.kids_mk,Edit.ops_mk,Edit.list_mk]at ab;simp only[YF]at h;obtain⟨h1,h2,h3,h4,h5,h6,h7⟩:=h;have i6:=Zi0 ks (d-1) (λk hk=>(ab.1 k hk).1) h6;have i7:=ZhZ l os (d-1) ab.2 h7 W0 ⟨λo ho=>(by cases ho),trivial,trivial⟩;rw[ZM]at aa⊢;by_cases k1:k=1
  .rw[if_pos k1];simp only[YF];exact⟨h1,Z03 o h2,Z03 n h3,by simp,h5,trivial,trivial⟩
  .rw[if_neg k1]at aa⊢;by_cases k2:k=2;.rw[if_pos k2];trivial
   .rw[if_neg k2]at aa⊢;by_cases k3:k=3
    .rw[if_pos k3]at aa⊢;simp only[YF];refine⟨h1,Z4o,Z4o,by simp,h5,trivial,Zdd (λq hq=>?_)⟩;have hx:=aa.2 q hq;have hy:=(Z8K i7).out q hq;exact Zm7 hx hy.1 hy.2
    .rw[if_neg k3];simp only[YF];exact⟨h1,Z4o,Z4o,by simp,h5,trivial,trivial⟩theorem Zi0:∀(ks:List (KidOf Edit))(d:Int),(∀k∈ks,Z8 k.e d=true)->Z2p ks->Z2p (Jx ks)
 |[],_,_,_=>trivial|k::r,d,hr,h=>by simp only[Z2p]at h;have h1:=ZoG k d (hr k (Q5 ..)) h.1;have h2:=Zi0 r d (λx hx=>hr x (Q3 _ hx)) h.2;trivial theorem ZoG:∀(k:KidOf Edit)(d:Int),Z8 k.e d=true->Z2G k->Z2G (Z0O k)
 |⟨a,e⟩,d,hr,h=>by
  simp only[Z2G]at h;have h2:=Z4q e d hr h.2;simp only[Z0O,Z2G];grind theorem ZhZ(list:Int):∀(os:List (OpOf Edit))(d:Int),(∀o∈os,Z9 list o d=true)->Z0W os->∀(w:Wst),RngW w->RngW (ZP list os w)
 |[],_,_,_,w,hw=>hw|o::r,d,hr,h,w,hw=>by simp only[Z0W]at h;have h1:=Zu3 list o d (hr o (Q5 ..)) h.1 w hw;exact ZhZ list r d (λx hx=>hr x (Q3 _ hx)) h.2 _ h1 theorem Zu3(list:Int):∀(o:OpOf Edit)(d:Int),Z9 list o d=true->Yt o->∀(w:Wst),RngW w->RngW (JO list o w)
 |⟨k,n,l,e⟩,d,hr,h,w,hw=>by
  simp only[Yt]at h;by_cases k3:k=3
  .have he:Z8 e d=true:=by
    rw[Z9,JH,]at hr;split at hr;.cases hr
    .grind
   exact Zro (o:=⟨k,n,l,e⟩) hw h.2.2.1 (Z4q e d he h.2.2.2)
  .have hs:YF (ZM Edit.nil):=by show YF (.mk 0 Tree.nil Tree.nil [] [] 0 []);exact Z7u
   have e2:JO list ⟨k,n,l,e⟩ w=JO list ⟨k,n,l,Edit.nil⟩ w:=by simp only[JO];grind
   rw[e2];exact Zro (o:=⟨k,n,l,Edit.nil⟩) hw h.2.2.1 hs end
theorem ZGA(t:Tree):t.words.length+Z5 t.kids+1=mass t:=by obtain⟨k,w,ks⟩:=t;simp only[mass,Tree.words_mk,Tree.kids_mk];omega
theorem ZiE:∀(l:List Tree)(i:Nat)(x:Tree),i<l.length->Z5 (l.set i x)+mass (l.getD i Tree.nil)=Z5 l+mass x|[],i,x,h=>by simp at h|a::r,0,x,_=>by simp only[List.set_cons_zero,Z5,Qj];omega|a::r,i+1,x,h=>by have:=ZiE r i x (by simpa using h);simp only[List.set_cons_succ,Z5,XI];omega
theorem Zpy(n:Nat):Z5 (List.replicate n Tree.nil)=n:=by induction n with|zero=>rfl|succ n ih=>rw[Kg,Z5,ih];simp[Tree.nil,mass,Z5];omega
theorem Z09:∀(a b:List Tree),Z5 (a++b)=Z5 a+Z5 b|[],b=>by simp[Z5]|t::r,b=>by simp only[Qo,Z5,Z09 r b];omega
theorem Zuw(l:List Tree)(i:Nat)(x:Tree):Z5 (ZK Tree.nil l i x)+mass (l.getD i Tree.nil)<=Z5 l+mass x+(i+1):=by
 have h:=ZiE (l++List.replicate (i+1-l.length) Tree.nil) i x (by simp;omega);have e:(l++List.replicate (i+1-l.length) Tree.nil).getD i Tree.nil=l.getD i Tree.nil:=by
  by_cases hi:i<l.length;.simp only[Q6];rw[QB hi]
  .simp only[Q6];rw[Qv Yp,Qq (l:=l) Yp,Xz];split<;>rfl
 rw[e,Z09,Zpy]at h;simp only[ZK];omega
theorem Zjq{tw:List Int}:∀{ws:List WEdit}{last:Int}{out a:List Int},Ye last ws=true->wsD tw ws out=some a->a.length<=max out.length 65535
 |[],_,out,a,_,h=>by rw[wsD]at h;cases h;omega|w::r,last,out,a,hw,h=>by
  have d:=Yw hw w Q5;simp only[Ye,Q2]at hw;rw[wsD]at h;split at h;.have:=Zjq hw.2 h;rw[Z2g]at this;omega
  .cases h
theorem Za6{last d:Int}{k:Kid}{r:List Kid}(h:ZA last (k::r) d=true):(last<k.at_/\k.at_<=65534)/\Z8 k.e d=true/\ZA k.at_ r d=true:=by have:=ZD h k Q5;simp only[ZA,Q2]at h;grind
theorem Zvq{tw:List Int}{ws:List WEdit}{last:Int}{out a:List Int}(hw:Ye last ws=true)(h:wsD tw ws out=some a):a.length<=out.length+65600*ws.length:=by cases ws with|nil=>rw[wsD]at h;cases h;omega|cons w r=>have:=Zjq hw h;grind
theorem Zgb(r:Bool)(v:Tree):mass (nrD r v)<=mass v:=by
 unfold nrD;split;.exact ZI v
 omega
mutual theorem Zgm(r:Bool):∀(e:Edit)(d:Int)(t v:Tree),Z8 e d=true->Zu7 r e t=some v->mass v+18<=mass t+ctE e
 |.mk k o n w ks l os,d,t,v,hr,hv=>by
  have ri:=Zt hr;have h1:=ZiD r ks t.kids;have h2:=ZiC r l os;have ht:=ZGA t;have po:=Zv o;have pn:=Zv n;have pt:=Zv t;unfold Zu7 at hv;simp only[ctE];split at hv;.grind
  .split at hv
   .split at hv
    .cases hv;show mass n+18<=_;omega
    .cases hv
   .split at hv
    .split at hv
     .obtain⟨a,ha,hb⟩:=Qx.1 hv;obtain⟨b,hb,e⟩:=Qn.1 hb;have l1:=Zvq ri.words ha;simp only[Edit.words_mk]at l1;have l2:=h1 t.kids b _ (-1) Yp ri.kids (λj _=>rfl) hb;rw[<-e];simp only[mass];omega
     .cases hv
    .split at hv
     .split at hv
      .obtain⟨b,hb,e⟩:=Qn.1 hv;unfold Z5J at hb;obtain⟨x,hx,hy⟩:=Qx.1 hb;have l2:=h2 _ t.kids [] x (λo ho=>Go.AM.rightOs_mem ri.ops o ho) hx;split at hy
       .cases hy;rw[<-e];simp only[mass,Qm];grind
       .cases hy
      .cases hv
     .cases hv theorem ZiD(r:Bool):∀(ks:List (KidOf Edit))(tk out b:List Tree)(d last:Int),-1<=last->ZA last ks d=true->(∀j:Nat,last<(j:Int)->out.getD j Tree.nil=tk.getD j Tree.nil)->Z0c r tk ks out=some b->Z5 b<=Z5 out+Z0S ks
 |[],tk,out,b,d,last,_,_,_,h=>by rw[Z0c]at h;cases h;simp|k::s,tk,out,b,d,last,hl,hr,hj,h=>by
  obtain⟨h1,h2,h3⟩:=Za6 hr;rw[Z0c]at h;obtain⟨u,hu,hb⟩:=Qx.1 h;have m1:=Zpw r k tk u d h2 hu;have m2:=Zuw out k.at_.toNat u;rw[hj k.at_.toNat Yp]at m2;have m3:=ZiD r s tk _ b d k.at_ Yp h3 (λj ab=>by
   rw[YJ,JH];grind) hb;have m4:k.at_.toNat+1<=65600:=Yp;have e1:Z0S (k::s)=65600+ctE k.e+Z0S s:=by obtain⟨a,e⟩:=k;rfl
  omega theorem Zpw(r:Bool):∀(k:KidOf Edit)(tk:List Tree)(u:Tree)(d:Int),Z8 k.e d=true->Z3o r tk k=some u->mass u+18<=mass (tk.getD k.at_.toNat Tree.nil)+ctE k.e
 |⟨a,e⟩,tk,u,d,hr,h=>by rw[Z3o,ZbE]at h;obtain⟨v,hv,hu⟩:=Qn.1 h;have:=Zgm r e d (tk.getD a.toNat Tree.nil) v hr hv;have ab:=Zgb r v;grind theorem ZiC(r:Bool)(l:Int):∀(os:List (OpOf Edit))(d:Int)(rest out:List Tree)(x:List Tree×List Tree),(∀o∈os,Z9 l o d=true)->Y6 r os rest out=some x->Z5 x.1+Z5 x.2<=Z5 out+Z5 rest+YI os
 |[],d,rest,out,x,_,h=>by rw[Y6]at h;cases h;simp|o::s,d,rest,out,x,hr,h=>by rw[Y6]at h;obtain⟨y,hy,hx⟩:=Qx.1 h;have m1:=Zus r l o d rest out y (hr o Q5) hy;have m2:=ZiC r l s d _ _ x (λq hq=>hr q (Q3 _ hq)) hx;rw[YI];omega theorem Zus(r:Bool)(l:Int):∀(o:OpOf Edit)(d:Int)(rest out:List Tree)(x:List Tree×List Tree),Z9 l o d=true->Z5L r o rest out=some x->Z5 x.1+Z5 x.2<=Z5 out+Z5 rest+Z2y o
 |⟨k,n,L,e⟩,d,rest,out,x,hr,h=>by
  have he:=Zgm r e d (rest.getD 0 Tree.nil);rw[Z5L]at h;simp only[Z2y];split at h
  .split at h
   .cases h;have:=Z09 (rest.take n.toNat) (rest.drop n.toNat);rw[Qs]at this;dsimp only;rw[Z09];omega
   .cases h
  .split at h
   .split at h;.cases h;have:=J9 L.length rest;grind
    .cases h
   .split at h;.cases h;dsimp only;rw[Z09];omega
    .split at h;.cases h
     .obtain⟨u,hu,e2⟩:=Qn.1 h;cases e2;have hk:k=3:=by
       have ra:=Yf hr;generalize ho:OpOf.mk k n L e=o at ra;cases ra<;>(injection ho with h1;try omega)
      rw[ZbE]at hu;obtain⟨v,hv,hu⟩:=Qn.1 hu;have:=he v (Z15 hr hk) hv;have ab:=Zgb r v;rw[hu]at ab;cases rest with|nil=>contradiction|cons a q=>rw[Z09];simp only[Z5,Qw,QC,Qj]at this⊢;omega end
theorem Z7G(r:Bool)(e:Edit)(d:Int)(t u:Tree)(hr:Z8 e d=true)(h:doE r e t=some u):mass u+18<=mass t+ctE e:=by rw[ZbE]at h;obtain⟨v,hv,hu⟩:=Qn.1 h;have:=Zgm r e d t v hr hv;have ab:=Zgb r v;grind
theorem ZGv{f:Nat->Int}(h:∀i,0<=f i/\f i<256):isW (of8 f):=by have h0:=h 0;have d:=h 1;have h2:=h 2;have h3:=h 3;have h4:=h 4;have h5:=h 5;have h6:=h 6;have h7:=h 7;unfold isW of8;omega
theorem Z25(a b m:Int):isW (mix a b m):=ZGv (Z6K a b m)
theorem Z7s{l:List Tree}(h:∀t∈l,rng t):ZV l:=by induction l with|nil=>exact trivial|cons a r ih=>exact⟨h a Q5,ih λt d=>h t (Q3 _ d)⟩
theorem Z1i:rng Tree.nil:=⟨V0,by simp,trivial⟩
theorem Z8F{α:Type}{z x y:α}{l:List α}{i:Nat}(h:y∈ZK z l i x):y∈l\/y=z\/y=x:=by
 rcases Xw h with h|h
 .rcases Qf.1 h with h|h;.exact .inl h
  .exact .inr (.inl (List.eq_of_mem_replicate h))
 .exact .inr (.inr h)
theorem Zrn{ks:List Tree}(h:ZV ks)(i:Nat):rng (ks.getD i Tree.nil):=by
 by_cases hi:i<ks.length;.exact J7 h (Ze hi _)
 .rw[Q6,Qq Yp];exact Z1i
theorem Zvr{tw:List Int}:∀{ws:List WEdit}{out a:List Int},(∀x∈out,isW x)->wsD tw ws out=some a->∀x∈a,isW x
 |[],out,a,h,hw=>by rw[wsD]at hw;grind|w::r,out,a,h,hw=>by
  rw[wsD]at hw;split at hw
  .refine Zvr (λx d=>?_) hw;rcases Z8F d with d|rfl|rfl;.exact h x d
   .trivial
   .exact Z25 _ _ _
  .cases hw
mutual theorem Z8J(r:Bool):∀(e:Edit)(t u:Tree),YF e->rng t->doE r e t=some u->rng u
 |.mk k o n w ks l os,t,u,hr,ht,h=>by
  have h1:=Zm1 r ks;have h2:=Zm0 r os;simp only[YF]at hr;obtain⟨r1,r2,r3,r4,r5,r6,r7⟩:=hr;have aa:InR t.kind/\(∀x∈t.words,isW x)/\ZV t.kids:=by obtain⟨k,w,ks⟩:=t;exact ht
  rw[Jj]at h;obtain⟨v,d,hu⟩:=Qn.1 h;suffices rng v by
   rw[<-hu];unfold nrD;split;.exact Z03 v this
   .exact this
  clear h hu;split at d;.grind
  .split at d;.simp_all
   .split at d
    .split at d
     .obtain⟨a,ha,hb⟩:=Qx.1 d;obtain⟨b,hb,e⟩:=Qn.1 hb;rw[<-e];exact⟨V0,Zvr aa.2.1 ha,h1 _ _ _ r6 aa.2.2 aa.2.2 hb⟩
     .cases d
    .split at d
     .split at d
      .obtain⟨b,hb,e⟩:=Qn.1 d;unfold Z5J at hb;obtain⟨x,hx,hy⟩:=Qx.1 hb;split at hy
       .cases hy;rw[<-e];exact⟨r5,by simp,(h2 _ [] _ r7 aa.2.2 trivial hx).1⟩
       .cases hy
      .cases d
     .cases d theorem Zm1(r:Bool):∀(ks:List (KidOf Edit))(tk out b:List Tree),Z2p ks->ZV tk->ZV out->Z0c r tk ks out=some b->ZV b
 |[],tk,out,b,_,_,ho,h=>by rw[Z0c]at h;cases h;exact ho|k::s,tk,out,b,hk,ht,ho,h=>by
  rw[Z0c]at h;obtain⟨u,hu,hb⟩:=Qx.1 h;have m1:=Zu2 r k tk u hk.1 ht hu;refine Zm1 r s tk _ b hk.2 ht (Z7s λx d=>?_) hb;rcases Z8F d with d|rfl|rfl;.exact J7 ho d
  .exact Z1i
  .exact m1 theorem Zu2(r:Bool):∀(k:KidOf Edit)(tk:List Tree)(u:Tree),Z2G k->ZV tk->Z3o r tk k=some u->rng u|⟨a,e⟩,tk,u,hr,ht,h=>by rw[Z3o]at h;exact Z8J r e _ u hr.2 (Zrn ht _) h theorem Zm0(r:Bool):∀(os:List (OpOf Edit))(rest out:List Tree)(x:List Tree×List Tree),Z0W os->ZV rest->ZV out->Y6 r os rest out=some x->ZV x.1/\ZV x.2|[],rest,out,x,_,hr,ho,h=>by rw[Y6]at h;grind|o::s,rest,out,x,hs,hr,ho,h=>by rw[Y6]at h;obtain⟨y,hy,hx⟩:=Qx.1 h;have d:=Zwh r o rest out y hs.1 hr ho hy;exact Zm0 r s _ _ x hs.2 d.2 d.1 hx theorem Zwh(r:Bool):∀(o:OpOf Edit)(rest out:List Tree)(x:List Tree×List Tree),Yt o->ZV rest->ZV out->Z5L r o rest out=some x->ZV x.1/\ZV x.2
 |⟨k,n,L,e⟩,rest,out,x,hs,hr,ho,h=>by
  have he:=Z8J r e (rest.getD 0 Tree.nil);simp only[Yt]at hs;have hd:∀n,ZV (rest.drop n):=λn=>Z7s λt ht=>J7 hr (Ql ht);have d:∀l,ZV l->ZV (out++l):=λl hl=>Z6n.2 ⟨ho,hl⟩;rw[Z5L]at h;split at h
  .split at h;.cases h;exact⟨d _ (Z7s λt ht=>J7 hr (QR ht)),hd _⟩
   .cases h
  .split at h;.grind
   .split at h;.grind
    .split at h;.cases h
     .obtain⟨u,hu,e2⟩:=Qn.1 h;cases e2;exact⟨d _ ⟨he u hs.2.2.2 (Zrn hr 0) hu,trivial⟩,hd _⟩end
theorem ZnO{r:Bool}{e:Edit}{t u:Tree}(hr:∃d,Z8 e d=true)(ht:mass t+ctE e<=200000000000)(h:doE r e t=some u):mass u<=1000000000000:=by obtain⟨d,hr⟩:=hr;have:=Z7G r e d t u hr h;omega
theorem c10:Contract Tryz.prog cfg 10 Jt:=by
 refine ZHB c22 c23 ?_;intro e t _ hp;simp only[Z4s]at hp;refine ZO4 _ _ _ ?_;rintro y1 ah y2 af y3 d;subst ah af;(simp only[iB,vcT,vcS]);refine⟨by simp only[Z4s];exact hp,λhn=>?_,λhs=>?_⟩
 .have hn:doE false y1 y2=none:=by simpa using hn
  simp only[ZrS,hn];exact YH
 .obtain⟨u,hu⟩:=X7.1 hs;rw[Zco hu]at d;subst d;have:=ZnO hp.1.2.2 hp.2.1 hu;refine⟨by simp only[ZfY];exact this,?_⟩;simp only[ZrS,hu];exact YH
section
variable{α β:Type}(z:α)(f:β->Option α)(p:β->Int)
def mg:List β->List α->Option (List α)|[],out=>some out|w::r,out=>(f w).bind λv=>mg r (ZK z out (p w).toNat v)
def asc(last:Int):List β->Prop|[]=>True|w::r=>last<p w/\asc (p w) r
variable{z f p}{l0:List α}{ws:List β}{n a i:Int}{out:List α}
theorem Z9k{last:Int}:∀{l:List β},asc p last l->∀w∈l,last<p w
 |[],_,_,hw=>by cases hw|b::r,h,w,hw=>by
  rcases Q9.1 hw with rfl|hw;.exact h.1
  .have:=Z9k h.2 w hw;have:=h.1;omega
end
theorem ZkX(r:Bool)(tk:List Tree):∀(ks:List Kid)(out:List Tree),Z0c r tk ks out=mg Tree.nil (Z3o r tk) KidOf.at_ ks out|[],_=>by rfl|k::s,out=>by rw[Z0c,mg];congr 1;funext u;exact ZkX r tk s _
theorem ZbR:∀{ws:List WEdit}{last:Int},Ye last ws=true->asc WEdit.at_ last ws|[],_,_=>trivial|w::r,last,h=>by have d:=Yw h w Q5;simp only[Ye,Q2]at h;exact⟨d.1,ZbR h.2⟩
theorem Z6U:∀{ks:List Kid}{last d:Int},ZA last ks d=true->asc KidOf.at_ last ks|[],_,_,_=>trivial|k::r,last,d,h=>by obtain⟨h1,_,h3⟩:=Za6 h;exact⟨h1.1,Z6U h3⟩
end Go.AM.YtnfbomhidainjaaGreat
namespace Go.AM.YtnfbomhidainjaaGreat
open Go.AM Go.Proofs
noncomputable section
def Zlb:ArgM ((List Op×List Tree×List Tree×Unit)×Unit):=(.obj 0 (.cons (cWr .op 0 0) (.cons (Z2B .tree 0 1) (.cons (Z2B .tree 0 2) .nil))) .nil)
def Z3L(a:(List Op×List Tree×List Tree×Unit)×Unit):Prop:=(a.1.1).length<=200000000000/\(a.1.2.1).length<=200000000000/\(a.1.2.2.1).length<=200000000000
def Zic(a:(List Op×List Tree×List Tree×Unit)×Unit):V U:=.tup []
def Zcf(a:(List Op×List Tree×List Tree×Unit)×Unit):List (List (C U)):=[[.mref (.x 0 0),sU .tree ((Zc (Wst.mk a.1.1 a.1.2.1 a.1.2.2.1)).gone) (.own (.x 0 1)),sU .tree ((Zc (Wst.mk a.1.1 a.1.2.1 a.1.2.2.1)).brought) (.own (.x 0 2))]]
def Zch(a:(List Op×List Tree×List Tree×Unit)×Unit):List (Tok×LC U):=[(.x 0 0,LC.mk (U:=U) .op ((Zc (Wst.mk a.1.1 a.1.2.1 a.1.2.2.1)).out) 0)]
def Z2D:Fs U:=Z9c Zlb (λa=>[Z3L a]) Zic Zcf Zch
def Zld:ArgM ((List Op×List Tree×List Tree×Unit)×Int×Unit):=(.obj 0 (.cons (cWr .op 0 0) (.cons (Z2B .tree 0 1) (.cons (Z2B .tree 0 2) .nil))) (.cons (ZR .i64) .nil))
def Z4r(a:(List Op×List Tree×List Tree×Unit)×Int×Unit):Prop:=(a.1.1).length<=200000000000/\(a.1.2.1).length<=200000000000/\(a.1.2.2.1).length<=200000000000/\(∀o∈a.1.1,0<=o.n/\o.n<=100000000000000000)/\0<=a.2.1/\a.2.1<=1048576
def Zwr(a:(List Op×List Tree×List Tree×Unit)×Int×Unit):V U:=.tup []
def ZoM(a:(List Op×List Tree×List Tree×Unit)×Int×Unit):List (List (C U)):=[[.mref (.x 0 0),sU .tree ((ZH (Wst.mk a.1.1 a.1.2.1 a.1.2.2.1) a.2.1).gone) (.own (.x 0 1)),sU .tree ((ZH (Wst.mk a.1.1 a.1.2.1 a.1.2.2.1) a.2.1).brought) (.own (.x 0 2))]]
def ZoN(a:(List Op×List Tree×List Tree×Unit)×Int×Unit):List (Tok×LC U):=[(.x 0 0,LC.mk (U:=U) .op ((ZH (Wst.mk a.1.1 a.1.2.1 a.1.2.2.1) a.2.1).out) 0)]
def Z5d:Fs U:=Z9c Zld (λa=>[Z4r a]) Zwr ZoM ZoN
def Zlc:ArgM ((List Op×List Tree×List Tree×Unit)×List Tree×Unit):=(.objAt 0 1 (.cons (cWr .op 0 0) (.cons (Z2B .tree 0 1) (.cons (Z2B .tree 0 2) .nil))) (.cons (aSl .tree) .nil))
def Zdn(a:(List Op×List Tree×List Tree×Unit)×List Tree×Unit):Prop:=(a.1.1).length<=200000000000/\(a.1.2.1).length<=200000000000/\(a.1.2.2.1).length<=200000000000/\Z5 a.2.1<=20000000000
def ZF9(a:(List Op×List Tree×List Tree×Unit)×List Tree×Unit):V U:=.tup []
def Zwk(a:(List Op×List Tree×List Tree×Unit)×List Tree×Unit):List (List (C U)):=[[.mref (.x 0 0),sU .tree ((Wst.mk a.1.1 (a.1.2.1++Z7 a.2.1) a.1.2.2.1).gone) (.own (.x 0 1)),sU .tree ((Wst.mk a.1.1 (a.1.2.1++Z7 a.2.1) a.1.2.2.1).brought) (.own (.x 0 2))]]
def Zwl(a:(List Op×List Tree×List Tree×Unit)×List Tree×Unit):List (Tok×LC U):=[(.x 0 0,LC.mk (U:=U) .op ((Wst.mk a.1.1 (a.1.2.1++Z7 a.2.1) a.1.2.2.1).out) 0)]
def Zow:Fs U:=Z9c Zlc (λa=>[Zdn a]) ZF9 Zwk Zwl
def ZbN:ArgM ((List Op×List Tree×List Tree×Unit)×List Tree×Unit):=(.objAt 0 2 (.cons (cWr .op 0 0) (.cons (Z2B .tree 0 1) (.cons (Z2B .tree 0 2) .nil))) (.cons (aSl .tree) .nil))
def Zma(a:(List Op×List Tree×List Tree×Unit)×List Tree×Unit):List (List (C U)):=[[.mref (.x 0 0),sU .tree ((Wst.mk a.1.1 a.1.2.1 (a.1.2.2.1++Z7 a.2.1)).gone) (.own (.x 0 1)),sU .tree ((Wst.mk a.1.1 a.1.2.1 (a.1.2.2.1++Z7 a.2.1)).brought) (.own (.x 0 2))]]
def Zmb(a:(List Op×List Tree×List Tree×Unit)×List Tree×Unit):List (Tok×LC U):=[(.x 0 0,LC.mk (U:=U) .op ((Wst.mk a.1.1 a.1.2.1 (a.1.2.2.1++Z7 a.2.1)).out) 0)]
def Zft:Fs U:=Z9c ZbN (λa=>[Zdn a]) ZF9 Zma Zmb
def Zo6:ArgL (Int×Edit×Unit):=(.cons (ZR .i64) (.cons (aEl .edit) .nil))
def Z3N(a:Int×Edit×Unit):Prop:=a.2.1.words.length<=20000000000/\a.2.1.kids.length<=20000000000
def ZrQ(a:Int×Edit×Unit):V U:=.c (.bool (Z4M a.1 a.2.1))
def Z1y:Fs U:=fs Zo6 (λa=>[Z3N a]) ZrQ
def ZHX:Za U:=lvk [([0,7],[((.x 0),[.wr .op])]),([0],[((.x 0),[.wr .op])]),([0,28],[((.x 0),[.wr .op])]),([0],[((.x 0),[.wr .op])]),([],[((.x 0),[.wr .op])])]
abbrev W61(wo:List Op)(wg wb:List Tree)(Q:QT):=AW (Z2 Zqj) Tryz.f61 ZHX [] (⟨[(0,.ptr (.x 0) 0)],[(.x 0,[.mref (.x 0 0),sU .tree wg (.own (.x 0 1)),sU .tree wb (.own (.x 0 2))])],[(.x 0 0,LC.mk (U:=U) .op wo 0)]⟩:LSt U) Q
theorem ZNj(wo:List Op)(wg wb:List Tree)(Q:QT)(h:∀d,d=(Edit.mk 0 (Tree.mk 0 [] []) (Tree.mk 0 [] []) [] [] 0 [])->∀aa,aa=(List.set (wo++([(OpOf.mk 0 0 [] d:Op)])) (Int.toNat (wo.length:Int)) (OpOf.mk 1 0 wg d:Op))->let z0:=decide ((0:Int)<(wb.length:Int));iB (decide ((0:Int)<(wg.length:Int))) (((wo.length+([(OpOf.mk 0 0 [] d:Op)]).length)*240<=140737488355328)/\((0:Int)<=(wo.length:Int)/\(wo.length:Int)<((wo++([(OpOf.mk 0 0 [] d:Op)])).length:Int))/\((0:Nat)<=(Int.toNat (wo.length:Int)))/\(iB z0 (((aa.length+([(OpOf.mk 0 0 [] d:Op)]).length)*240<=140737488355328)/\((0:Int)<=(aa.length:Int)/\(aa.length:Int)<((aa++([(OpOf.mk 0 0 [] d:Op)])).length:Int))/\((0:Nat)<=(Int.toNat (aa.length:Int)))/\(Q .normal (⟨[],[(.x 0,[.mref (.x 0 0),.nils,.nils])],[(.x 0 0,LC.mk (U:=U) .op (List.set (aa++([(OpOf.mk 0 0 [] d:Op)])) (Int.toNat (aa.length:Int)) (OpOf.mk 2 0 wb d:Op)) 0)]⟩:LSt U))) (Q .normal (⟨[],[(.x 0,[.mref (.x 0 0),.nils,.nils])],[(.x 0 0,LC.mk (U:=U) .op aa 0)]⟩:LSt U)))) (iB z0 (((wo.length+([(OpOf.mk 0 0 [] d:Op)]).length)*240<=140737488355328)/\((0:Int)<=(wo.length:Int)/\(wo.length:Int)<((wo++([(OpOf.mk 0 0 [] d:Op)])).length:Int))/\((0:Nat)<=(Int.toNat (wo.length:Int)))/\(Q .normal (⟨[],[(.x 0,[.mref (.x 0 0),.nils,.nils])],[(.x 0 0,LC.mk (U:=U) .op (List.set (wo++([(OpOf.mk 0 0 [] d:Op)])) (Int.toNat (wo.length:Int)) (OpOf.mk 2 0 wb d:Op)) 0)]⟩:LSt U))) (Q .normal (⟨[],[(.x 0,[.mref (.x 0 0),.nils,.nils])],[(.x 0 0,LC.mk (U:=U) .op wo 0)]⟩:LSt U)))):W61 wo wg wb Q:=Eq.mpr V3 (h _ rfl _ rfl)
def ZJZ(wo:List Op)(wg wb:List Tree):Prop:=AW (Z2 Zqj) Tryz.f61 ZHX [] (Ji (Zlb.can ((wo,wg,wb,()),())) (Zlb.canX ((wo,wg,wb,()),())) (Zlb.canL ((wo,wg,wb,()),()))) (Z00 cfg Tryz.f61.ntmps Tryz.f61.results.toList (Zic ((wo,wg,wb,()),())) (Zcf ((wo,wg,wb,()),())) (Zch ((wo,wg,wb,()),())))
theorem ZH8(hb:∀(wo:List Op)(wg:List Tree)(d:List Tree)(_:Unit),Z3L ((wo,wg,d,()),())->ZJZ wo wg d):CT 61 Z2D:=ZL (l:=[]) Zf rfl trivial ZHX Tryz.func61 rfl rfl 1 (λ_=>rfl) V0 (λ⟨⟨wo,wg,d,_⟩,_⟩=>hb wo wg d ())
def ZyS:List (FuncId×Fs U):=[(61,Z2D)]
def ZHY:Za U:=lvk [([0,1],[((.x 0),[.wr .op])]),([0,1,4],[((.x 0),[.wr .op])]),([0,1,4,25],[((.x 0),[.wr .op])]),([],[((.x 0),[.wr .op])]),([],[((.x 0),[.wr .op])])]
abbrev W58(wo:List Op)(wg wb:List Tree)(n:Int)(Q:QT):=AW (Z2 ZyS) Tryz.f58 ZHY [] (⟨[(0,.ptr (.x 0) 0),pI 1 n],[(.x 0,[.mref (.x 0 0),sU .tree wg (.own (.x 0 1)),sU .tree wb (.own (.x 0 2))])],[(.x 0 0,LC.mk (U:=U) .op wo 0)]⟩:LSt U) Q
theorem ZNl(wo:List Op)(wg wb:List Tree)(n:Int)(Q:QT)(h:∀aa,aa=(Edit.mk 0 (Tree.mk 0 [] []) (Tree.mk 0 [] []) [] [] 0 [])->∀ab,ab=(Int.toNat (((((Zc (Wst.mk wo wg wb)).out).length:Int):Int)-1))->∀d,d=(List.getD ((Zc (Wst.mk wo wg wb)).out) ab Op.nil)->∀ae,ae=(d.e)->let z1:=Zc (Wst.mk wo wg wb);let z0:=decide ((0:Int)<=((((z1.out).length:Int):Int)-1));((Z3L ((wo,wg,wb,()),()))/\((InR ((((z1.out).length:Int):Int)-1))/\((Tt z0)/\(Tt z0)/\(Tt z0)/\(Tt z0)/\(Tt z0)/\(z0=true->(0:Int)<=((((z1.out).length:Int):Int)-1)/\((((z1.out).length:Int):Int)-1)<((z1.out).length:Int))/\(Tt z0)/\(Tt z0)/\(Tt z0)/\(Tt z0)/\(iB (bif z0 then(d.kind==0)else false) (((0:Int)<=((((z1.out).length:Int):Int)-1)/\((((z1.out).length:Int):Int)-1)<((z1.out).length:Int))/\(InR (d.n+n))/\((0:Int)<=((((z1.out).length:Int):Int)-1)/\((((z1.out).length:Int):Int)-1)<((z1.out).length:Int))/\((0:Nat)<=ab)/\(Q .ret (⟨[],[(.x 0,[.mref (.x 0 0),sU .tree (z1.gone) (.own (.x 0 1)),sU .tree (z1.brought) (.own (.x 0 2))])],[(.x 0 0,LC.mk (U:=U) .op (List.set (z1.out) ab (OpOf.mk d.kind (d.n+n) d.l ae:Op)) 0)]⟩:LSt U))) ((((z1.out).length+([(OpOf.mk 0 0 [] aa:Op)]).length)*240<=140737488355328)/\((0:Int)<=((z1.out).length:Int)/\((z1.out).length:Int)<(((z1.out)++([(OpOf.mk 0 0 [] aa:Op)])).length:Int))/\((0:Nat)<=(Int.toNat ((z1.out).length:Int)))/\(Q .normal (⟨[],[(.x 0,[.mref (.x 0 0),sU .tree (z1.gone) (.own (.x 0 1)),sU .tree (z1.brought) (.own (.x 0 2))])],[(.x 0 0,LC.mk (U:=U) .op (List.set ((z1.out)++([(OpOf.mk 0 0 [] aa:Op)])) (Int.toNat ((z1.out).length:Int)) (OpOf.mk 0 n [] aa:Op)) 0)]⟩:LSt U)))))))):W58 wo wg wb n Q:=Eq.mpr V3 (h _ rfl _ rfl _ rfl _ (Zj _))
def ZK1(wo:List Op)(wg wb:List Tree)(n:Int):Prop:=AW (Z2 ZyS) Tryz.f58 ZHY [] (Ji (Zld.can ((wo,wg,wb,()),n,())) (Zld.canX ((wo,wg,wb,()),n,())) (Zld.canL ((wo,wg,wb,()),n,()))) (Z00 cfg Tryz.f58.ntmps Tryz.f58.results.toList (Zwr ((wo,wg,wb,()),n,())) (ZoM ((wo,wg,wb,()),n,())) (ZoN ((wo,wg,wb,()),n,())))
theorem ZHa(c61:CT 61 Z2D)(hb:∀(wo:List Op)(wg:List Tree)(d:List Tree)(n:Int)(_:Unit),Z4r ((wo,wg,d,()),n,())->ZK1 wo wg d n):CT 58 Z5d:=ZL (l:=[(61,Z2D)]) Zf rfl (⟨c61,trivial⟩) ZHY Tryz.func58 rfl rfl 2 (λ_=>rfl) V0 (λ⟨⟨wo,wg,d,_⟩,n,_⟩=>hb wo wg d n ())
def ZkC:List (FuncId×Fs U):=[(22,Zfs)]
def ZxX:Za U:=lvk [([0,6,7,8],[((.x 0),[.wr .op])]),([0,6,7,8,9],[((.x 0),[.wr .op])]),([0,5,6,7,8],[5,((.x 0),[.wr .op])]),([0,6,7,8],[((.x 0),[.wr .op])]),([0,6,7,8],[((.x 0),[.wr .op])])]
def ZaY(wo:List Op)(wg wb l:List Tree)(d:Int)(mx0_1:List Tree):LSt U:=(⟨[(0,.ptr (.x 0) 1),(6,.c (sU .tree l .unk)),pI 7 (l.length:Int),pI 8 d],[(.x 0,[.mref (.x 0 0),sU .tree mx0_1 (.own (.x 0 1)),sU .tree wb (.own (.x 0 2))])],[(.x 0 0,LC.mk (U:=U) .op wo 0)]⟩:LSt U)
abbrev W59(wo:List Op)(wg wb l:List Tree)(Q:QT):=AW (Z2 ZkC) Tryz.f59 ZxX [] (⟨[(0,.ptr (.x 0) 1),(1,.c (sU .tree l .unk))],[(.x 0,[.mref (.x 0 0),sU .tree wg (.own (.x 0 1)),sU .tree wb (.own (.x 0 2))])],[(.x 0 0,LC.mk (U:=U) .op wo 0)]⟩:LSt U) Q
theorem ZNk(wo:List Op)(wg wb l:List Tree)(Q:QT)(h:Zk (AW (Z2 ZkC) Tryz.f59 ZxX [1,0,0]) (ZaY wo wg wb l 0 wg) (xB 0 Q)):W59 wo wg wb l Q:=Eq.mpr V3 h
abbrev ZJb(wo:List Op)(wg wb l:List Tree)(d:Int)(mx0_1:List Tree)(N0:NT)(Q:QT):=AW (Z2 ZkC) Tryz.f59 ZxX [1,0,0] (ZaY wo wg wb l d mx0_1) (xT N0 (xB 0 Q))
theorem ZBq(wo:List Op)(wg wb l:List Tree)(d:Int)(mx0_1:List Tree)(N0:NT)(Q:QT)(h:let z2:=decide (d<(l.length:Int));let z1:=l.getD d.toNat Tree.nil;let z0:=Tree.mk (Tree.kind z1) (Tree.words z1) (Tree.kids z1);iB z2 (((0:Int)<=d/\d<(l.length:Int))/\((ZfY (z0,()))/\((mx0_1.length+([(Tree.mk 0 [] [])]).length)*56<=140737488355328)/\((0:Int)<=(mx0_1.length:Int)/\(mx0_1.length:Int)<((mx0_1++([(Tree.mk 0 [] [])])).length:Int))/\(mx0_1.length<=(Int.toNat (mx0_1.length:Int)))/\((InR (d+1))/\(N0 (ZaY wo wg wb l (d+1) (List.set (mx0_1++([(Tree.mk 0 [] [])])) (Int.toNat (mx0_1.length:Int)) (Tree.mk (Tree.kind (Z0 z0)) (Tree.words (Z0 z0)) (Tree.kids (Z0 z0))))))))) (Q .normal (⟨[(0,.ptr (.x 0) 1),(6,.c (sU .tree l .unk)),pI 7 (l.length:Int),pI 8 d,pB 9 z2],[(.x 0,[.mref (.x 0 0),sU .tree mx0_1 (.own (.x 0 1)),sU .tree wb (.own (.x 0 2))])],[(.x 0 0,LC.mk (U:=U) .op wo 0)]⟩:LSt U))):ZJb wo wg wb l d mx0_1 N0 Q:=Eq.mpr V3 h
def ZK0(wo:List Op)(wg wb l:List Tree):Prop:=AW (Z2 ZkC) Tryz.f59 ZxX [] (Ji (Zlc.can ((wo,wg,wb,()),l,())) (Zlc.canX ((wo,wg,wb,()),l,())) (Zlc.canL ((wo,wg,wb,()),l,()))) (Z00 cfg Tryz.f59.ntmps Tryz.f59.results.toList (ZF9 ((wo,wg,wb,()),l,())) (Zwk ((wo,wg,wb,()),l,())) (Zwl ((wo,wg,wb,()),l,())))
theorem ZH9(c22:CT 22 Zfs)(hb:∀(wo:List Op)(wg:List Tree)(d:List Tree)(l:List Tree)(_:Unit),Zdn ((wo,wg,d,()),l,())->ZK0 wo wg d l):CT 59 Zow:=ZL (l:=[(22,Zfs)]) Zf rfl (⟨c22,trivial⟩) ZxX Tryz.func59 rfl rfl 2 (λ_=>rfl) V0 (λ⟨⟨wo,wg,d,_⟩,l,_⟩=>hb wo wg d l ())
def Z5E(wo:List Op)(wg wb l:List Tree)(d:Int)(mx0_2:List Tree):LSt U:=(⟨[(0,.ptr (.x 0) 2),(6,.c (sU .tree l .unk)),pI 7 (l.length:Int),pI 8 d],[(.x 0,[.mref (.x 0 0),sU .tree wg (.own (.x 0 1)),sU .tree mx0_2 (.own (.x 0 2))])],[(.x 0 0,LC.mk (U:=U) .op wo 0)]⟩:LSt U)
abbrev ZM4(wo:List Op)(wg wb l:List Tree)(Q:QT):=AW (Z2 ZkC) Tryz.f59 ZxX [] (⟨[(0,.ptr (.x 0) 2),(1,.c (sU .tree l .unk))],[(.x 0,[.mref (.x 0 0),sU .tree wg (.own (.x 0 1)),sU .tree wb (.own (.x 0 2))])],[(.x 0 0,LC.mk (U:=U) .op wo 0)]⟩:LSt U) Q
theorem ZG6(wo:List Op)(wg wb l:List Tree)(Q:QT)(h:Zk (AW (Z2 ZkC) Tryz.f59 ZxX [1,0,0]) (Z5E wo wg wb l 0 wb) (xB 0 Q)):ZM4 wo wg wb l Q:=Eq.mpr V3 h
abbrev ZAz(wo:List Op)(wg wb l:List Tree)(d:Int)(mx0_2:List Tree)(N0:NT)(Q:QT):=AW (Z2 ZkC) Tryz.f59 ZxX [1,0,0] (Z5E wo wg wb l d mx0_2) (xT N0 (xB 0 Q))
theorem ZtN(wo:List Op)(wg wb l:List Tree)(d:Int)(mx0_2:List Tree)(N0:NT)(Q:QT)(h:let z2:=decide (d<(l.length:Int));let z1:=l.getD d.toNat Tree.nil;let z0:=Tree.mk (Tree.kind z1) (Tree.words z1) (Tree.kids z1);iB z2 (((0:Int)<=d/\d<(l.length:Int))/\((ZfY (z0,()))/\((mx0_2.length+([(Tree.mk 0 [] [])]).length)*56<=140737488355328)/\((0:Int)<=(mx0_2.length:Int)/\(mx0_2.length:Int)<((mx0_2++([(Tree.mk 0 [] [])])).length:Int))/\(mx0_2.length<=(Int.toNat (mx0_2.length:Int)))/\((InR (d+1))/\(N0 (Z5E wo wg wb l (d+1) (List.set (mx0_2++([(Tree.mk 0 [] [])])) (Int.toNat (mx0_2.length:Int)) (Tree.mk (Tree.kind (Z0 z0)) (Tree.words (Z0 z0)) (Tree.kids (Z0 z0))))))))) (Q .normal (⟨[(0,.ptr (.x 0) 2),(6,.c (sU .tree l .unk)),pI 7 (l.length:Int),pI 8 d,pB 9 z2],[(.x 0,[.mref (.x 0 0),sU .tree wg (.own (.x 0 1)),sU .tree mx0_2 (.own (.x 0 2))])],[(.x 0 0,LC.mk (U:=U) .op wo 0)]⟩:LSt U))):ZAz wo wg wb l d mx0_2 N0 Q:=Eq.mpr V3 h
def ZAV(wo:List Op)(wg wb l:List Tree):Prop:=AW (Z2 ZkC) Tryz.f59 ZxX [] (Ji (ZbN.can ((wo,wg,wb,()),l,())) (ZbN.canX ((wo,wg,wb,()),l,())) (ZbN.canL ((wo,wg,wb,()),l,()))) (Z00 cfg Tryz.f59.ntmps Tryz.f59.results.toList (ZF9 ((wo,wg,wb,()),l,())) (Zma ((wo,wg,wb,()),l,())) (Zmb ((wo,wg,wb,()),l,())))
theorem ZxV(c22:CT 22 Zfs)(hb:∀(wo:List Op)(wg:List Tree)(d:List Tree)(l:List Tree)(_:Unit),Zdn ((wo,wg,d,()),l,())->ZAV wo wg d l):CT 59 Zft:=ZL (l:=[(22,Zfs)]) Zf rfl (⟨c22,trivial⟩) ZxX Tryz.func59 rfl rfl 2 (λ_=>rfl) V0 (λ⟨⟨wo,wg,d,_⟩,l,_⟩=>hb wo wg d l ())
def ZpK:Za U:=lvl [([0,3],[3]),([4],[])]
abbrev ZM3(list:Int)(e:Edit)(Q:QT):=AW (Z2 Zqj) Tryz.f60 ZpK [] (L2 [pI 0 list,(1,.agg (enc .edit e))] []) Q
theorem ZG5(list:Int)(e:Edit)(Q:QT)(h:let z2:=(!(e.kind==0))&&(list==9);let z1:=bif(list==9)then(e.kind==2)else false;let z0:=(!(e.kind==0))&&z1;((Tt (!(e.kind==0)))/\(Tt (!(e.kind==0)))/\(Tt z2)/\(Tt z2)/\((!(e.kind==0))=true->(True->(!(e.kind==0))=true))/\((!(e.kind==0))=true->((list==9)=true->z2=true))/\(Tt (!(e.kind==0)))/\(Tt z0)/\(Tt z0)/\(Tt z0)/\(Tt z0)/\(Tt z0)/\(Tt z0)/\(z0=true->InR (((e.words.length:Int):Int)+(e.kids.length:Int)))/\(Tt z0)/\((!(e.kind==0))=true->(True->(!(e.kind==0))=true))/\((!(e.kind==0))=true->(z1=true->z0=true))/\((e.kind==0)=false->(!(e.kind==0))=true)/\(Q .ret (L2 [(4,.c (.bool (bif(e.kind==0)then true else(bif z1 then(((((e.words.length:Int):Int)+(e.kids.length:Int)):Int)==0)else false))))] [])))):ZM3 list e Q:=Eq.mpr V3 h
def ZAU(list:Int)(e:Edit):Prop:=AW (Z2 Zqj) Tryz.f60 ZpK [] (Zg (Zo6.can (list,e,())) []) (EQ Tryz.f60 (ZrQ (list,e,())) [])
theorem ZxU(hb:∀(list:Int)(e:Edit)(_:Unit),Z3N (list,e,())->ZAU list e):CT 60 Z1y:=Z1 (l:=[]) Zf rfl trivial ZpK Tryz.func60 rfl rfl 2 (λ_=>rfl) V0 (λ⟨list,e,_⟩=>hb list e ())
end
theorem Z1A{α:Type}(l:List α)(z x:α):(l++[z]).set (Int.toNat (l.length:Int)) x=l++[x]:=by simp_all
theorem ZaJ:∀(F:List Op)(n:Int),Z1Q F n=if F.length≠0/\(F.getD (F.length-1) Op.nil).kind=0 then F.set (F.length-1) ⟨(F.getD (F.length-1) Op.nil).kind,(F.getD (F.length-1) Op.nil).n+n,(F.getD (F.length-1) Op.nil).l,(F.getD (F.length-1) Op.nil).e⟩else F++[⟨0,n,[],Edit.nil⟩]
 |[],n=>by simp[Z1Q]|[o],n=>by simp[Z1Q]|o::p::r,n=>by
  have d:=ZaJ (p::r) n;have e:(o::p::r).length-1=((p::r).length-1)+1:=by simp
  rw[Z1Q,d,e];grind
theorem Z7Z(s:Wst):(Zc s).out.length<=s.out.length+2:=by simp only[Zc,Z0R];grind
theorem Z7Y(s:Wst):∀o∈(Zc s).out,o∈s.out\/o.n=0:=by intro o d;simp only[Zc,Z0R,Qf]at d;grind
theorem c61:Contract Tryz.prog cfg 61 Z2D:=by
 refine ZH8 ?_;intro d wg wb _ hp;simp only[Z3L]at hp;refine ZNj d wg wb _ ?_;rintro y1 ah y2 ae;have hy:y1=Edit.nil:=ah;subst hy;rw[Z1A]at ae;subst ae;(simp only[iB,vcS]);refine⟨λh1=>⟨by simp;omega,by simp;omega,Yp,λh2=>⟨by simp;omega,by simp;omega,Yp,?_⟩,λh2=>?_⟩,λh1=>⟨λh2=>⟨by simp;omega,by simp;omega,Yp,?_⟩,λh2=>?_⟩⟩
 .rw[Z1A];have e:Zc ⟨d,wg,wb⟩=⟨d++[⟨1,0,wg,Edit.nil⟩]++[⟨2,0,wb,Edit.nil⟩],[],[]⟩:=by simp only[Zc,Z0R];rw[JH,JH];simp
  simp only[Zic,Zcf,Zch,e];exact YH
 .have e:Zc ⟨d,wg,wb⟩=⟨d++[⟨1,0,wg,Edit.nil⟩],[],[]⟩:=by simp only[Zc,Z0R];rw[JH,Y3];simp
  simp only[Zic,Zcf,Zch,e];exact YH
 .rw[Z1A];have e:Zc ⟨d,wg,wb⟩=⟨d++[⟨2,0,wb,Edit.nil⟩],[],[]⟩:=by simp only[Zc,Z0R];rw[Y3,JH];simp
  simp only[Zic,Zcf,Zch,e];exact YH
 .have e:Zc ⟨d,wg,wb⟩=⟨d,[],[]⟩:=by simp only[Zc,Z0R];rw[Y3,Y3];simp
  simp only[Zic,Zcf,Zch,e];exact YH
theorem c58:Contract Tryz.prog cfg 58 Z5d:=by
 refine ZHa c61 ?_;intro wo d wb n _ hp;simp only[Z4r]at hp;obtain⟨p1,p2,p3,p4,p5,p6⟩:=hp;have aj:=Z7Z ⟨wo,d,wb⟩;have ah:=Z7Y ⟨wo,d,wb⟩;have hg:(Zc ⟨wo,d,wb⟩).gone=[]:=rfl;have hb:(Zc ⟨wo,d,wb⟩).brought=[]:=rfl;have hk:=ZaJ (Zc ⟨wo,d,wb⟩).out n;have am:ZH ⟨wo,d,wb⟩ n=⟨Z1Q (Zc ⟨wo,d,wb⟩).out n,[],[]⟩:=rfl;refine ZNl wo d wb n _ ?_;simp only[hg,hb,Zwr,ZoM,ZoN,am];generalize(Zc ⟨wo,d,wb⟩).out=F at*;simp only at aj ah;rintro y1 al y2 au y3 ai y4 ak;have hy:y1=Edit.nil:=al;subst hy;have e2:y2=F.length-1:=Yp;subst e2;rw[<-ai,<-ak]at hk;simp only[iB,vcT,vcS,aiT,true_and];refine⟨by simp only[Z3L];exact⟨p1,p2,p3⟩,V2,λh=>⟨h,Yp⟩,λh=>?_,λh=>?_⟩
 .have aq:0<=y3.n/\y3.n<=100000000000000000:=by
   have hm:y3∈F:=by rw[ai];exact Ze Yp _
   rcases ah y3 hm with h1|h1;.exact p4 y3 h1
   .omega
  rw[if_pos ⟨Yp,h.2⟩]at hk;rw[hk];refine⟨Yp,V2,Yp,Yp,?_⟩;exact YH
 .rw[JH]at hk;rw[hk,Z1A];refine⟨by simp;omega,by simp;omega,Yp,?_⟩;exact YH
theorem c59:Contract Tryz.prog cfg 59 Zow:=by
 refine ZH9 c22 ?_;intro wo wg wb l _ hp;simp only[Zdn]at hp;obtain⟨p1,p2,p3,p4⟩:=hp;have hl:=ZT l;refine ZNk _ _ _ _ _ ?_;refine Z6 (ι:=Int×List Tree) (λs=>ZaY wo wg wb l s.1 s.2) (λs=>0<=s.1/\s.1<=l.length/\s.2.length=wg.length+s.1/\s.2++Z7 (l.drop s.1.toNat)=wg++Z7 l) (λs=>((l.length:Int)-s.1).toNat) (0,wg) rfl ⟨by simp,by simp,by simp,by simp⟩ ?_;rintro⟨i,out⟩⟨h1,h2,h3,d⟩;dsimp only at h1 h2 h3 d;refine ZBq _ _ _ _ _ _ _ _ ?_;(simp only[iB,vcS]);(simp only[vE]);refine⟨λhi=>?_,λhi=>?_⟩;.have hm:=ZS (Ze (l:=l) (i:=i.toNat) Yp Tree.nil);rw[Yu h1 hi Tree.nil]at d;simp only[Z7,Xa]at d;rw[Z1A];refine⟨⟨h1,hi⟩,by simp only[ZfY];omega,by simp;omega,by simp;omega,Yp,V2,(i+1,out++[Z0 (l.getD i.toNat Tree.nil)]),rfl,⟨V1,V1,by simp;omega,?_⟩,V1⟩;simp only[Q7,Qo,Qh];exact d
 .rw[Qb Yp]at d;simp only[Z7,Ka,Qi]at d;rw[d];exact YH
theorem ZLW:Contract Tryz.prog cfg 59 Zft:=by
 refine ZxV c22 ?_;intro wo wg wb l _ hp;simp only[Zdn]at hp;obtain⟨p1,p2,p3,p4⟩:=hp;have hl:=ZT l;refine ZG6 _ _ _ _ _ ?_;refine Z6 (ι:=Int×List Tree) (λs=>Z5E wo wg wb l s.1 s.2) (λs=>0<=s.1/\s.1<=l.length/\s.2.length=wb.length+s.1/\s.2++Z7 (l.drop s.1.toNat)=wb++Z7 l) (λs=>((l.length:Int)-s.1).toNat) (0,wb) rfl ⟨by simp,by simp,by simp,by simp⟩ ?_;rintro⟨i,out⟩⟨h1,h2,h3,d⟩;dsimp only at h1 h2 h3 d;refine ZtN _ _ _ _ _ _ _ _ ?_;(simp only[iB,vcS]);(simp only[vE]);refine⟨λhi=>?_,λhi=>?_⟩;.have hm:=ZS (Ze (l:=l) (i:=i.toNat) Yp Tree.nil);rw[Yu h1 hi Tree.nil]at d;simp only[Z7,Xa]at d;rw[Z1A];refine⟨⟨h1,hi⟩,by simp only[ZfY];omega,by simp;omega,by simp;omega,Yp,V2,(i+1,out++[Z0 (l.getD i.toNat Tree.nil)]),rfl,⟨V1,V1,by simp;omega,?_⟩,V1⟩;simp only[Q7,Qo,Qh];exact d
 .rw[Qb Yp]at d;simp only[Z7,Ka,Qi]at d;rw[d];exact YH
theorem Zje:Contract Tryz.prog cfg 60 Z1y:=by refine ZxU ?_;intro list e _ d;simp only[Z3N]at d;refine ZG5 _ _ _ ?_;simp only[iB,vcT,vcS,aiT,true_and];refine⟨λ_=>by unfold InR;grind,Zn rfl ?_⟩;rw[QP];simp only[Z4M];grind
noncomputable def Z2l:Fs U:=ZIt Zow Zft
theorem Zjc:Contract Tryz.prog cfg 59 Z2l:=ZnU c59 ZLW
noncomputable section
def Z4t(a:Edit×Unit):Prop:=Zi a.1<=20000000000/\∃d,Z8 a.1 d=true
def Zdk(a:Edit×Unit):V U:=.agg (enc .edit (ZM a.1))
def Z6j:Fs U:=fs ZAg (λa=>[Z4t a]) Zdk
def Zlh:ArgL (Int×List Op×Unit):=(.cons (ZR .i64) (.cons (aSl .op) .nil))
def ZfV(a:Int×List Op×Unit):Prop:=Zh a.2.1<=20000000000/\∀o∈a.2.1,∃d,Z9 a.1 o d=true
def Zpo(a:Int×List Op×Unit):Nat:=2*Zh a.2.1+1
def Zmj(a:Int×List Op×Unit):V U:=.c (sU .op ((Zc (ZP a.1 a.2.1 (Wst.mk [] [] []))).out) .unk)
def Zw1:Fs U:=fs Zlh (λa=>[ZfV a]) Zmj
def ZcI(N:Nat):List (FuncId×Fs U):=(20,fs ZAg (λa=>[Z4t a,Zkt a<N]) Zdk)::(37,fs Zlh (λa=>[ZfV a,Zpo a<N]) Zmj)::[(22,Zfs),(60,Z1y),(58,Z5d),(61,Z2D),(59,Z2l)]
def ZpI:Za U:=lvk [([1,2],[1,2]),([1,2,3],[1,2,3]),([1,2,3,12],[1,2,3]),([1,2,3,12,13],[1,2,3]),([2,3],[2,3]),([1,2,3,12,23],[1,2,3]),([1,2,3],[1,2,3]),([2,3,32,33,34],[2,((.loc 3),(an 8 [.own .kid]))]),([2,3,32,33,34,35],[2,3]),([2,3,5,32,33,34],[2,3,5]),([2,3,32,33,34],[2,3]),([2,3,32,33,34],[2,((.loc 3),(an 8 [.own .kid]))]),([1,2,3,50],[1,2,3]),([2,3],[2,3]),([2],[2])]
def Zbm(e:Edit)(aa:Int)(d:List Kid):LSt U:=(L2 [pL 2,pL 3,(32,.c (sU .kid e.kids .unk)),pI 33 (e.kids.length:Int),pI 34 aa] [(.loc 2,zc1),(.loc 3,[ci e.kind,ci 0,.nils,.nils,ci 0,.nils,.nils,sU .wedit (([]:List WEdit)++e.words) (.own (.l 3 7)),sU .kid d (.own (.l 3 8)),ci e.list,.nils])])
abbrev W20(N:Nat)(e:Edit)(Q:QT):=AW (Z2 (ZcI N)) Tryz.f20 ZpI [] (L2 [(0,.agg (enc .edit e))] []) Q
theorem ZNV(N:Nat)(e:Edit)(Q:QT)(h:let z1:=Tree.mk e.new.kind e.new.words e.new.kids;let z0:=Tree.mk e.old.kind e.old.words e.old.kids;iB (e.kind==1) ((ZfY (z0,()))/\(ZfY (z1,()))/\(Q .ret (L2 [pL 2] [(.loc 2,([ci e.kind]++enc .tree (Z0 z0)++enc .tree (Z0 z1)++[.nils,.nils,ci e.list,.nils]))]))) (iB (e.kind==2) (((([]:List WEdit).length+e.words.length)*32<=140737488355328)/\(Zk (AW (Z2 (ZcI N)) Tryz.f20 ZpI [1,1,0,1,0,1,1,1,0,1,1,0,0]) (Zbm e 0 []) (xB 1 (xB 0 (SW (Z2 (ZcI N)) Tryz.f20 ZpI [1,1,1] Q))))) (iB (e.kind==3) ((ZfV (e.list,e.ops,()))/\(Zpo (e.list,e.ops,())<N)/\(Q .ret (L2 [pL 2] [(.loc 2,[ci e.kind,ci 0,.nils,.nils,ci 0,.nils,.nils,.nils,.nils,ci e.list,sU .op ((Zc (ZP e.list e.ops (Wst.mk [] [] []))).out) .unk])]))) (Q .ret (L2 [pL 2] [(.loc 2,[ci e.kind,ci 0,.nils,.nils,ci 0,.nils,.nils,.nils,.nils,ci e.list,.nils])]))))):W20 N e Q:=Eq.mpr V3 h
abbrev ZJl(N:Nat)(e:Edit)(aa:Int)(d:List Kid)(N0:NT)(Q:QT):=AW (Z2 (ZcI N)) Tryz.f20 ZpI [1,1,0,1,0,1,1,1,0,1,1,0,0] (Zbm e aa d) (xT N0 (xB 1 (xB 0 (SW (Z2 (ZcI N)) Tryz.f20 ZpI [1,1,1] Q))))
theorem ZBX(N:Nat)(e:Edit)(aa:Int)(d:List Kid)(N0:NT)(Q:QT)(h:∀ab,ab=(e.kids.getD aa.toNat (KidOf.mk 0 Edit.nil))->∀ae,ae=(ab.e)->∀af,af=(ZM ae)->iB (decide (aa<(e.kids.length:Int))) (((0:Int)<=aa/\aa<(e.kids.length:Int))/\((Z4t (ae,()))/\(Zkt (ae,())<N)/\((d.length+([(KidOf.mk ab.at_ af:Kid)]).length)*208<=140737488355328)/\((InR (aa+1))/\(N0 (Zbm e (aa+1) (d++([(KidOf.mk ab.at_ af:Kid)]))))))) (Q .ret (L2 [pL 2] [(.loc 2,[ci e.kind,ci 0,.nils,.nils,ci 0,.nils,.nils,sU .wedit (([]:List WEdit)++e.words) (.own (.l 2 7)),sU .kid d (.own (.l 2 8)),ci e.list,.nils])]))):ZJl N e aa d N0 Q:=Eq.mpr V3 (h _ rfl _ (Zj _) _ (Zj _))
def ZKB(N:Nat)(e:Edit):Prop:=AW (Z2 (ZcI N)) Tryz.f20 ZpI [] (Zg (ZAg.can (e,())) []) (EQ Tryz.f20 (Zdk (e,())) [])
abbrev ZMu:Prop:=∀(N:Nat)(e:Edit)(_:Unit),Z4t (e,())->Zkt (e,())<N+1->ZKB N e
def ZpC:Za U:=lvk [([0,1],[]),([0,1,5],[((.loc 10),[.wr .op])]),([0,5,11,12,13],[((.loc 10),[.wr .op,.own .tree,.own .tree])]),([0,5,11,12,13,14],[((.loc 10),[.wr .op])]),([0,5,7,11,12,13],[7,((.loc 10),[.wr .op])]),([0,5,7,11,12,13,18],[7,((.loc 10),[.wr .op])]),([0,5,7,11,12,13,18,19],[7,((.loc 10),[.wr .op])]),([0,5,11,12,13],[((.loc 10),[.wr .op])]),([0,5,7,11,12,13,18,25],[7,((.loc 10),[.wr .op])]),([0,5,11,12,13],[((.loc 10),[.wr .op])]),([0,5,7,11,12,13,18,33],[7,((.loc 10),[.wr .op])]),([0,5,11,12,13],[((.loc 10),[.wr .op])]),([0,5,7,11,12,13,41],[7,((.loc 10),[.wr .op])]),([0,5,8,11,12,13],[8,((.loc 10),[.wr .op])]),([0,5,8,11,12,13,48],[8,((.loc 10),[.wr .op])]),([0,5,11,12,13],[((.loc 10),[.wr .op])]),([0,5,8,11,12,13],[8,((.loc 10),[.wr .op])]),([0,5,11,12,13],[((.loc 10),[.wr .op])]),([0,5,11,12,13],[((.loc 10),[.wr .op,.own .tree,.own .tree])]),([5],[((.loc 10),[.wr .op])]),([4],[])]
def Z0B(list:Int)(l:List Op)(ae:Int)(d:List Op)(aa ab:List Tree):LSt U:=(⟨[pI 0 list,(5,.ptr (.loc 10) 0),(11,.c (sU .op l .unk)),pI 12 (l.length:Int),pI 13 ae],[(.loc 10,[.mref (.l 10 0),sU .tree aa (.own (.l 10 1)),sU .tree ab (.own (.l 10 2))])],[(.l 10 0,LC.mk (U:=U) .op d 0)]⟩:LSt U)
abbrev W37(N:Nat)(list:Int)(l:List Op)(Q:QT):=AW (Z2 (ZcI N)) Tryz.f37 ZpC [] (L2 [pI 0 list,(1,.c (sU .op l .unk))] []) Q
theorem ZNF(N:Nat)(list:Int)(l:List Op)(Q:QT)(h:Zk (AW (Z2 (ZcI N)) Tryz.f37 ZpC [1,1,0,1,0,0]) (Z0B list l 0 [] [] []) (xB 0 (SW (Z2 (ZcI N)) Tryz.f37 ZpC [1,1,1] Q))):W37 N list l Q:=Eq.mpr V3 h
abbrev ZJc(N:Nat)(list:Int)(l:List Op)(ae:Int)(d:List Op)(aa ab:List Tree)(N0:NT)(Q:QT):=AW (Z2 (ZcI N)) Tryz.f37 ZpC [1,1,0,1,0,0] (Z0B list l ae d aa ab) (xT N0 (xB 0 (SW (Z2 (ZcI N)) Tryz.f37 ZpC [1,1,1] Q)))
theorem ZBF(N:Nat)(list:Int)(l:List Op)(ae:Int)(d:List Op)(ab aa:List Tree)(N0:NT)(Q:QT)(h:∀af,af=(l.getD ae.toNat Op.nil)->∀aj,aj=(Edit.mk 0 (Tree.mk 0 [] []) (Tree.mk 0 [] []) [] [] 0 [])->∀ak,ak=(Int.toNat (((Zc (Wst.mk d ab aa)).out).length:Int))->∀ai,ai=(af.e)->∀ah,ah=(ZM ai)->let z3:=Z3L ((d,ab,aa,()),());let z2:=Wst.mk d ab (aa++Z7 af.l);let z1:=Wst.mk d (ab++Z7 af.l) aa;let z0:=Wst.mk d ab aa;iB (decide (ae<(l.length:Int))) (((0:Int)<=ae/\ae<(l.length:Int))/\(iB (af.kind==0) ((Z4r ((d,ab,aa,()),af.n,()))/\((InR (ae+1))/\(N0 (Z0B list l (ae+1) ((ZH z0 af.n).out) ((ZH z0 af.n).gone) ((ZH z0 af.n).brought))))) (iB (af.kind==1) ((Zdn ((d,ab,aa,()),af.l,()))/\((InR (ae+1))/\(N0 (Z0B list l (ae+1) (z1.out) (z1.gone) (z1.brought))))) (iB (af.kind==2) ((Zdn ((d,ab,aa,()),af.l,()))/\((InR (ae+1))/\(N0 (Z0B list l (ae+1) (z2.out) (z2.gone) (z2.brought))))) (iB (af.kind==3) ((Z4t (ai,()))/\(Zkt (ai,())<N)/\((Z3N (list,ah,()))/\(iB (Z4M list ah) ((Z4r ((d,ab,aa,()),1,()))/\((InR (ae+1))/\(N0 (Z0B list l (ae+1) ((ZH z0 1).out) ((ZH z0 1).gone) ((ZH z0 1).brought))))) (z3/\(((((Zc z0).out).length+([(OpOf.mk 0 0 [] aj:Op)]).length)*240<=140737488355328)/\((0:Int)<=(((Zc z0).out).length:Int)/\(((Zc z0).out).length:Int)<((((Zc z0).out)++([(OpOf.mk 0 0 [] aj:Op)])).length:Int))/\((0:Nat)<=ak)/\((InR (ae+1))/\(N0 (Z0B list l (ae+1) (List.set (((Zc z0).out)++([(OpOf.mk 0 0 [] aj:Op)])) ak (OpOf.mk 3 0 [] ah:Op)) ((Zc z0).gone) ((Zc z0).brought))))))))) ((InR (ae+1))/\(N0 (Z0B list l (ae+1) d ab aa)))))))) (z3/\(Q .ret (L2 [(4,.c (sU .op ((Zc z0).out) (.own (.e 4 0))))] [])))):ZJc N list l ae d ab aa N0 Q:=Eq.mpr V3 (h _ rfl _ rfl _ rfl _ (Zj _) _ (Zj _))
def ZKl(N:Nat)(list:Int)(l:List Op):Prop:=AW (Z2 (ZcI N)) Tryz.f37 ZpC [] (Zg (Zlh.can (list,l,())) []) (EQ Tryz.f37 (Zmj (list,l,())) [])
abbrev ZMn:Prop:=∀(N:Nat)(list:Int)(l:List Op)(_:Unit),ZfV (list,l,())->Zpo (list,l,())<N+1->ZKl N list l
theorem Zux(c22:CT 22 Zfs)(Zje:CT 60 Z1y)(c58:CT 58 Z5d)(c61:CT 61 Z2D)(Zjc:CT 59 Z2l)(ha:ZMu)(hb:ZMn):CT 20 Z6j/\CT 37 Zw1:=Z2j (μA:=Zkt) (μB:=Zpo) (l:=[(22,Zfs),(60,Z1y),(58,Z5d),(61,Z2D),(59,Z2l)]) Zf rfl (⟨c22,Zje,c58,c61,Zjc,trivial⟩) ZpI ZpC Tryz.func20 Tryz.func37 rfl rfl rfl rfl 1 2 (λ_=>rfl) (λ_=>rfl) V0 V0 (λN⟨e,_⟩=>ha N e ()) (λN⟨list,l,_⟩=>hb N list l ())
end
theorem ZiL(s:Wst)(n:Int):(ZH s n).out.length<=s.out.length+3:=by have h:=Z7Z s;simp only[ZH];rw[ZaJ];grind
theorem ZsX{s:Wst}{n B K:Int}(hB:0<=B)(hn:0<=n/\n<=K)(h:∀o∈s.out,0<=o.n/\o.n<=B):∀o∈(ZH s n).out,0<=o.n/\o.n<=B+K:=by
 have hF:∀o∈(Zc s).out,0<=o.n/\o.n<=B:=by
  intro o d;rcases Z7Y s o d with h1|h1;.exact h o h1
  .omega
 intro o d;simp only[ZH]at d;rw[ZaJ]at d;grind
theorem Zg9:∀(l:List Kid),(Jx l).length=l.length|[]=>rfl|k::r=>by simp[Jx,Zg9 r]
theorem Zga(e:Edit):(ZM e).words.length<=e.words.length/\(ZM e).kids.length<=e.kids.length:=by
 rw[Z5r];split;.simp
 .split;.simp[Zg9]
  .split<;>simp
theorem Za2{list:Int}{o:Op}{d:Int}(h:Z9 list o d=true)(hk:o.kind=0):1<=o.n/\o.n<=1048576:=by obtain⟨k,n,l,e⟩:=o;simp only at hk;subst hk;simp[Z9]at h;grind
theorem Za3{list:Int}{o:Op}{d:Int}(h:Z9 list o d=true)(hk:o.kind=3):Z8 o.e d=true:=by obtain⟨k,n,l,e⟩:=o;simp only at hk;subst hk;simp[Z9]at h;exact h.2.1.2
theorem ZiJ{e:Edit}{d:Int}(h:Z8 e d=true)(hk:e.kind=2):∀k∈e.kids,∃d,Z8 k.e d=true:=by
 obtain⟨k,o,n,w,ks,l,os⟩:=e;change k=2 at hk;subst hk;have ab:∃d aa,ZA aa ks d=true:=by
  unfold Z8 at h;split at h;.cases h
  .grind
 obtain⟨d',aa,ab⟩:=ab;change∀k∈ks,_;clear h;induction ks generalizing aa with|nil=>grind|cons a r ih=>
  simp only[ZA,Q2]at ab;intro k hk;rcases Q9.1 hk with rfl|hk;.obtain⟨a,e⟩:=k;simp only[YB,Q2]at ab;grind
  grind
theorem ZmR{e:Edit}{d:Int}(h:Z8 e d=true)(hk:e.kind=3):∀o∈e.ops,∃d,Z9 e.list o d=true:=by
 obtain⟨k,o,n,w,ks,l,os⟩:=e;change k=3 at hk;subst hk;have aa:∃d,Zz l os d=true:=by
  unfold Z8 at h;split at h;.cases h
  .grind
 obtain⟨d',aa⟩:=aa;change∀o∈os,∃d,Z9 l o d=true;clear h;induction os with|nil=>grind|cons a r ih=>simp only[Zz,Q2]at aa;grind
theorem b37:ZMn:=by
 intro N list l _ hp hN;simp only[ZfV,Zpo]at hp hN;obtain⟨p1,p3⟩:=hp;have hl:=YG l;refine ZNF _ _ _ _ ?_;refine Z6 (ι:=Int×Wst) (λs=>Z0B list l s.1 s.2.out s.2.gone s.2.brought) (λs=>0<=s.1/\s.1<=l.length/\ZP list (l.drop s.1.toNat) s.2=ZP list l ⟨[],[],[]⟩/\s.2.out.length<=3*s.1/\s.2.gone.length+s.2.brought.length+Zh (l.drop s.1.toNat)<=Zh l/\∀o∈s.2.out,0<=o.n/\o.n<=s.1*1048576) (λs=>((l.length:Int)-s.1).toNat) (0,⟨[],[],[]⟩) rfl ⟨by simp,by simp,by simp,by simp,by simp,by simp⟩ ?_;rintro⟨i,s⟩⟨g1,g2,g3,g4,g5,g6⟩;dsimp only at g1 g2 g3 g4 g5 g6;refine ZBF _ _ _ _ _ _ _ _ _ ?_;rintro y1 ax y2 av y3 al y4 ak y5 ao;have hy:y2=Edit.nil:=av;subst hy;have es:Wst.mk s.out s.gone s.brought=s:=rfl;simp only[es]at al⊢;(simp only[iB,vcS]);refine⟨λhi=>?_,λhi=>?_⟩
 .have ai:=Ze (l:=l) (i:=i.toNat) Yp Op.nil;have hm:=Jv ai;have hr:=p3 _ ai;rw[Yu g1 hi Op.nil]at g3 g5;rw[<-ax]at g3 g5 hm hr;have aw:=YE y1;simp only[ZP,Z2s,Zh]at g3 g5;rw[<-ak,<-ao]at g3;obtain⟨d,am⟩:=hr;have bf:=Z7Z s;have hP:∀n:Int,0<=n/\n<=1048576->Z4r ((s.out,s.gone,s.brought,()),n,()):=by
   intro n hn;simp only[Z4r];refine⟨Yp,Yp,Yp,λo ho=>?_,Yp,Yp⟩;have:=g6 o ho;constructor;.omega
   .have:i*1048576<=20000000000*1048576:=Yp;omega
  have hK:∀n:Int,0<=n/\n<=1048576->ZP list (l.drop (i+1).toNat) (ZH s n)=ZP list l ⟨[],[],[]⟩->(∃j:Int×Wst,Z0B list l (i+1) (ZH s n).out (ZH s n).gone (ZH s n).brought=Z0B list l j.1 j.2.out j.2.gone j.2.brought/\(0<=j.1/\j.1<=l.length/\ZP list (l.drop j.1.toNat) j.2=ZP list l ⟨[],[],[]⟩/\j.2.out.length<=3*j.1/\j.2.gone.length+j.2.brought.length+Zh (l.drop j.1.toNat)<=Zh l/\∀o∈j.2.out,0<=o.n/\o.n<=j.1*1048576)/\((l.length:Int)-j.1).toNat<((l.length:Int)-i).toNat):=by intro n hn he;have h1:=ZiL s n;have h2:=ZsX (s:=s) (n:=n) (B:=i*1048576) (K:=1048576) Yp hn g6;refine⟨(i+1,ZH s n),rfl,⟨Yp,Yp,he,by grind,by simp only[ZH,Qm];omega,λo ho=>?_⟩,Yp⟩;have:=h2 o ho;dsimp only;omega
  refine⟨⟨g1,hi⟩,λhk=>?_,λhk=>⟨λae=>?_,λae=>⟨λaf=>?_,λaf=>⟨λah=>?_,λah=>?_⟩⟩⟩⟩;.rw[if_pos hk]at g3;have h1:=Za2 am hk;exact⟨hP _ Yp,V2,hK _ Yp g3⟩
  .rw[if_neg hk,if_pos ae]at g3;refine⟨by simp only[Zdn];omega,V2,(i+1,⟨s.out,s.gone++Z7 y1.l,s.brought⟩),rfl,⟨Yp,Yp,g3,by grind,?_,λo ho=>?_⟩,Yp⟩;.have:=ZT y1.l;simp only[Q8,Z7,X6];omega
   grind
  .rw[if_neg hk,if_neg ae,if_pos af]at g3;refine⟨by simp only[Zdn];omega,V2,(i+1,⟨s.out,s.gone,s.brought++Z7 y1.l⟩),rfl,⟨Yp,Yp,g3,by grind,?_,λo ho=>?_⟩,Yp⟩;.have:=ZT y1.l;simp only[Q8,Z7,X6];omega
   .have:=g6 o ho;dsimp only;omega
  .rw[if_neg hk,if_neg ae,if_neg af,if_pos ah]at g3;have az:=Za3 am ah;rw[<-ak]at az;have hw:=Zga y4;rw[<-ao]at hw;have h1:=JL y4;have h2:=J8 y4.kids;have be:Zi y4<=Zu y1:=by rw[aw,ak];omega
   refine⟨by simp only[Z4t];grind,by simp only[Zkt];omega,by simp only[Z3N];omega,λhq=>?_,λhq=>?_⟩;.rw[if_pos hq]at g3;exact⟨hP 1 Yp,V2,hK 1 Yp g3⟩
   .rw[if_neg (by rw[hq];simp)]at g3;rw[al,Z1A];refine⟨by simp only[Z3L];omega,by grind,by grind,Yp,V2,(i+1,⟨(Zc s).out++[⟨3,0,[],y5⟩],[],[]⟩),rfl,⟨Yp,Yp,g3,by simp;omega,by simp;omega,λo ho=>?_⟩,Yp⟩;dsimp only at ho⊢;rcases Qf.1 ho with ho|ho
    .rcases Z7Y s o ho with h5|h5;.grind
     .omega
    grind
  .rw[if_neg hk,if_neg ae,if_neg af,if_neg ah]at g3;refine⟨V2,(i+1,s),rfl,⟨Yp,Yp,g3,by grind,by grind,λo ho=>?_⟩,Yp⟩;grind
 .rw[Qb Yp]at g3;simp only[ZP]at g3;refine⟨by simp only[Z3L];omega,?_⟩;simp only[Zmj];rw[<-g3];exact YH
theorem b20:ZMu:=by
 intro N e _ hp hN;simp only[Z4t,Zkt]at hp hN;obtain⟨p1,d,p3⟩:=hp;have h1:=JL e;have h2:=J8 e.kids;have h3:=YG e.ops;have ha:=Z5r e;refine ZNV _ _ _ ?_;(simp only[iB,vcS]);(simp only[vE]);refine⟨λhk=>⟨by simp only[ZfY];omega,by simp only[ZfY];omega,?_⟩,λhk=>⟨λaa=>⟨by simp;omega,?_⟩,λaa=>⟨λae=>⟨?_,by simp only[Zpo];omega,?_⟩,λae=>?_⟩⟩⟩;.rw[if_pos hk]at ha;simp only[Zdk,ha];exact YH
 .rw[if_neg hk,if_pos aa]at ha;refine Z6 (ι:=Int×List Kid) (λs=>Zbm e s.1 s.2) (λs=>0<=s.1/\s.1<=e.kids.length/\s.2.length=s.1/\s.2++Jx (e.kids.drop s.1.toNat)=Jx e.kids) (λs=>((e.kids.length:Int)-s.1).toNat) (0,[]) rfl ⟨by simp,by simp,by simp,by simp⟩ ?_;rintro⟨j,ks⟩⟨f1,f2,f3,f4⟩;dsimp only at f1 f2 f3 f4;refine ZBX _ _ _ _ _ _ ?_;rintro y1 ak y2 aj y3 al;(simp only[iB,vcS]);refine⟨λhj=>?_,λhj=>?_⟩;.have af:=Ze (l:=e.kids) (i:=j.toNat) Yp (KidOf.mk 0 Edit.nil);have hm:=Z27 af;have hr:=ZiJ p3 aa _ af;rw[Yu f1 hj (KidOf.mk 0 Edit.nil)]at f4;rw[<-ak]at f4 hm hr;simp only[Jx,Zcs]at f4;rw[<-aj]at f4 hm hr;rw[<-al]at f4;refine⟨⟨f1,hj⟩,by simp only[Z4t];grind,by simp only[Zkt];omega,by simp;omega,V2,(j+1,ks++[⟨y1.at_,y3⟩]),rfl,⟨Yp,Yp,by simp;omega,?_⟩,Yp⟩;grind
  .rw[Qb Yp]at f4;simp only[Jx,Qi]at f4;rw[f4];simp only[Zdk,ha];exact YH
 .simp only[ZfV];exact⟨Yp,λo ho=>ZmR p3 ae o ho⟩
 .rw[if_neg hk,if_neg aa,if_pos ae]at ha;simp only[Zdk,ha];exact YH
 .rw[if_neg hk,if_neg aa,if_neg ae]at ha;simp only[Zdk,ha];exact YH
theorem Zzx:Contract Tryz.prog cfg 20 Z6j/\Contract Tryz.prog cfg 37 Zw1:=Zux c22 Zje c58 c61 Zjc b20 b37
noncomputable section
def Zwu(a:Edit×Unit):V U:=.agg (enc .edit (ZM (Y2 a.1)))
def Z2E:Fs U:=fs ZAg (λa=>[Z4t a]) Zwu
def Zz9:List (FuncId×Fs U):=[(20,Z6j),(33,Zfk)]
def ZIi:Za U:=lvl [([1,2],[1,2]),([2],[2])]
abbrev W17(e:Edit)(Q:QT):=AW (Z2 Zz9) Tryz.f17 ZIi [] (L2 [(0,.agg (enc .edit e))] []) Q
theorem ZNY(e:Edit)(Q:QT)(h:∀aa,aa=e->∀d,d=(Y2 aa)->(ZfU (aa,()))/\(Z4t (d,()))/\(Q .ret (L2 [pL 2] [(.loc 2,(enc .edit (ZM d)))]))):W17 e Q:=Eq.mpr V3 (h _ (Zj _) _ (Zj _))
def ZKE(e:Edit):Prop:=AW (Z2 Zz9) Tryz.f17 ZIi [] (Zg (ZAg.can (e,())) []) (EQ Tryz.f17 (Zwu (e,())) [])
theorem ZHw(c20:CT 20 Z6j)(c33:CT 33 Zfk)(hb:∀(e:Edit)(_:Unit),Z4t (e,())->ZKE e):CT 17 Z2E:=Z1 (l:=[(20,Z6j),(33,Zfk)]) Zf rfl (⟨c20,c33,trivial⟩) ZIi Tryz.func17 rfl rfl 1 (λ_=>rfl) V0 (λ⟨e,_⟩=>hb e ())
end
mutual theorem Z98:∀(e:Edit),Zi (Y2 e)=Zi e
 |.mk k o n w ks l os=>by
  have d:=ZdE ks;have h2:=ZdA os;simp only[Y2,Zi,X6,Z8y,d,h2];omega theorem ZdE:∀(ks:List (KidOf Edit)),Zr (Z0L ks)=Zr ks
 |[]=>rfl|k::r=>by
  have d:=Zkx k;have h2:=ZdE r;simp only[Z0L,Zr,d,h2]theorem Zkx:∀(k:KidOf Edit),Yg (Z2O k)=Yg k
 |⟨a,e⟩=>by have h:=Z98 e;trivial theorem ZdA:∀(os:List (OpOf Edit)),Zh (JS os)=Zh os|[]=>rfl|o::r=>by have d:=Zn8 o;have h2:=ZdA r;simp only[JS,Zh,d,h2]theorem Zn8:∀(o:OpOf Edit),Zu (Je o)=Zu o
 |⟨k,n,l,e⟩=>by
  have h:=Z98 e;simp only[Je];split;.try rfl
  .split;.try rfl
   .split;.simp only[Zu,h]
    .try rfl end
theorem c17:Contract Tryz.prog cfg 17 Z2E:=by refine ZHw Zzx.1 ZE3.1 ?_;intro e _ hp;simp only[Z4t]at hp;obtain⟨hm,d,hr⟩:=hp;refine ZNY _ _ ?_;rintro y1 ab y2 aa;subst ab;have h1:=Z98 y1;have h2:=Z0v _ _ hr;rw[<-aa]at h1 h2;refine⟨by simp only[ZfU];omega,by simp only[Z4t];grind,?_⟩;simp only[Zwu];rw[<-aa];exact YH
theorem ZCA{f g:Nat->Int}(hf:∀i,0<=f i/\f i<256)(hg:∀i,0<=g i/\g i<256)(h:of8 f=of8 g):∀i,i<8->f i=g i:=by unfold of8 at h;grind
theorem Zcr{a:Int}(h:isW a):of8 (Zd a)=a:=by obtain⟨h0,d⟩:=h;simp only[of8,Zd];omega
theorem Zh2{a b:Int}(ha:isW a)(hb:isW b)(h:∀i,i<8->Zd a i=Zd b i):a=b:=by rw[<-Zcr ha,<-Zcr hb];unfold of8;grind
theorem Zn3{a b m:Int}{i:Nat}(h:i<8):Zd (mix a b m) i=JP a b m i:=ZCA (λi=>Z1L _ i) (Z6K a b m) (by rw[Zcr (Z25 a b m)];rfl) i h
section
variable{α β:Type}{z:α}{f:β->Option α}{p:β->Int}
theorem Zpr:∀{ws:List β}{last:Int}{out r:List α},-1<=last->asc p last ws->mg z f p ws out=some r->(∀w∈ws,∃v,f w=some v/\r.getD (p w).toNat z=v)/\(∀i:Nat,(∀w∈ws,(p w).toNat≠i)->r.getD i z=out.getD i z)
 |[],_,out,r,_,_,h=>by rw[mg]at h;grind|w::s,last,out,r,hl,ha,h=>by
  rw[mg]at h;obtain⟨v,hv,hr⟩:=Qx.1 h;have h1:=ha.1;obtain⟨i1,i2⟩:=Zpr Yp ha.2 hr;have hn:∀x∈s,(p x).toNat≠(p w).toNat:=λx d=>by have:=Z9k ha.2 x d;omega
  refine⟨λx d=>?_,λi hi=>?_⟩
  .rcases Q9.1 d with rfl|d;.refine⟨v,hv,?_⟩;rw[i2 _ hn,YJ,if_pos rfl]
   grind
  .rw[i2 i (λx d=>hi x (Q3 _ d)),YJ,if_neg (λe=>hi w Q5 e.symm)]
end
theorem Z8S{list d:Int}:∀{l:List Tree},Yj list l d=true->∀t∈l,Zb t d=true
 |[],_,_,ht=>by cases ht|a::r,h,t,ht=>by
  simp only[Yj,Q2]at h;rcases Q9.1 ht with rfl|ht;.exact h.1.2
  .exact Z8S h.2 t ht
def RT_(t:Tree):Prop:=(∃d,Zb t d=true)/\rng t
theorem RT_.kids{t:Tree}(h:RT_ t):(∀k∈t.kids,RT_ k)/\(t.kind≠0->t.kind≠1->t.kind≠10->t.words=[]):=by
 obtain⟨⟨d,h⟩,hr⟩:=h;obtain⟨k,w,ks⟩:=t;have hk:∀x∈ks,rng x:=λx hx=>J7 hr.2.2 hx;show(∀x∈ks,RT_ x)/\(k≠0->k≠1->k≠10->w=[]);rw[Zb]at h;split at h;.grind
 .split at h;.grind
  .split at h;.cases h
   .split at h;.simp only[Q2]at h;exact⟨λx hx=>⟨⟨_,Z8S h.2 x hx⟩,hk x hx⟩,λ_ h1=>absurd ‹_› h1⟩
    .simp only[Q2,decide_eq_true_eq]at h;exact⟨λx hx=>⟨⟨_,Z8S h.2 x hx⟩,hk x hx⟩,λ_ _ _=>Q0 h.1.2.2.1⟩
theorem ZJm:RT_ Tree.nil:=⟨⟨1,rfl⟩,Z1i⟩
theorem ZAB{l:List Tree}(h:∀t∈l,RT_ t)(i:Nat):RT_ (l.getD i Tree.nil):=by
 by_cases hi:i<l.length;.grind
 .rw[Q6,Qq Yp];exact ZJm
theorem ZfF{list:Int}{o:Op}{d:Int}(h:Z9 list o d=true):o.kind=0\/o.kind=1\/o.kind=2\/o.kind=3:=by have r:=Yf h;cases r with|keep=>simp|gone=>grind|come=>grind|into=>grind
end Go.AM.YtnfbomhidainjaaGreat
