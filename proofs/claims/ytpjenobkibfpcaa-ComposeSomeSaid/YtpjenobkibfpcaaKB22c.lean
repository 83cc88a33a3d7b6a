import Derived.Test.YtpjenobkibfpcaaKB20e
import Derived.Test.YtpjenobkibfpcaaKL21t
import Derived.Test.YtpjenobkibfpcaaKP20
set_option linter.unusedSimpArgs false
set_option linter.unusedVariables false
namespace Go.AM.Ytpjenobkibfpcaa
open Go.AM Go.Proofs
noncomputable section
def Zi7:ArgL (List Int × Unit):=(.cons (aSl .u64) .nil)
def Z86(a:List Int × Unit):Prop:=a.1.length≤1000000000000
def Z83(a:List Int × Unit):List Int:=a.1
def Z3M:Fs U:=fsL Zi7 (fun a=> [Z86 a]) .u64 Z83
def ZlE:ArgL (List Tree × Unit):=(.cons (aSl .tree) .nil)
def Zcq(a:List Tree × Unit):Prop:=a.1.length≤1000000000000
def Zb9(a:List Tree × Unit):List Tree:=a.1
def Z62:Fs U:=fsL ZlE (fun a=> [Zcq a]) .tree Zb9
def Z9P:ArgL (Edit × Tree × Unit):=(.cons (aEl .edit) (.cons (aEl .tree) .nil))
def Z3R(a:Edit × Tree × Unit):Prop:=(Zc a.1≤20000000000∧ZS a.1∧∃ d,Z0 a.1 d=true)∧Zq a.2.1+ctE a.1≤200000000000∧rng a.2.1
def Zdv(a:Edit × Tree × Unit):Nat:=2*Zc a.1+1
def Z5n(a:Edit × Tree × Unit):V U:= .tup [(true,(enc .tree (ZaT a.1 a.2.1))),(false,[.bool ((doE false a.1 a.2.1).isSome)])]
def Z9c:Fs U:=fs Z9P (fun a=> [Z3R a]) Z5n
def Z6x:ArgL (Edit × Tree × Unit):=(.cons (aEl .edit) (.cons (aEl .tree) .nil))
def Z4K(a:Edit × Tree × Unit):Prop:=Edit.kind a.1=2∧(Zc a.1≤20000000000∧ZS a.1∧∃ d,Z0 a.1 d=true)∧Zq a.2.1+ctE a.1≤200000000000∧rng a.2.1
def Zaq(a:Edit × Tree × Unit):Nat:=2*Zc a.1
def Z4D(a:Edit × Tree × Unit):V U:= .tup [(true,(enc .tree (Z5z (ZaR false a.1 a.2.1)))),(false,[.bool ((ZaR false a.1 a.2.1).isSome)])]
def ZjZ:Fs U:=fs Z6x (fun a=> [Z4K a]) Z4D
def Z6w:ArgL (Edit × Tree × Unit):=(.cons (aEl .edit) (.cons (aEl .tree) .nil))
def Z4J(a:Edit × Tree × Unit):Prop:=Edit.kind a.1=3∧(Zc a.1≤20000000000∧ZS a.1∧∃ d,Z0 a.1 d=true)∧Zq a.2.1+ctE a.1≤200000000000∧rng a.2.1
def Zap(a:Edit × Tree × Unit):Nat:=2*Zc a.1
def Z4C(a:Edit × Tree × Unit):V U:= .tup [(true,(enc .tree (Zq4 a.1 (Z6B false a.1 a.2.1)))),(false,[.bool ((Z19 (Z6B false a.1 a.2.1)).isSome)])]
def ZjY:Fs U:=fs Z6w (fun a=> [Z4J a]) Z4C
def ZhJ:List (FuncId × Fs U):=[]
def ZiZ:Zh U:=fun i=> match i with
 | 0=> ([(0,[])],[])
 | 1=> ([(0,[]),(4,[])],[])
 | 2=> ([(2,[.wr .u64])],[])
 | 3=> ([(2,[.wr .u64])],[])
 | _=> ([],[])
abbrev Zzu(p:List Nat):=AW (Z5N ZhJ) Try.f109 ZiZ p
theorem Zv5(l:List Int)(Q:QT)(h:(((l=[])→(Q .ret (⟨[(2,.c (.mref (.e 2 0)))],[],[(.e 2 0,LC.mk (U:=U) .u64 [] 0)]⟩:LSt U)))∧(True→((([]:List Int).length+l.length)*8≤140737488355328)∧(Q .ret (⟨[(2,.c (.mref (.e 2 0)))],[],[(.e 2 0,LC.mk (U:=U) .u64 (([]:List Int)++l) (([]:List Int).length))]⟩:LSt U))))):
  Zzu [] (L2 [(0,.c (sU .u64 l .unk))] []) Q:=
 Eq.mpr (by kernel_rfl) h
def Zrl(l:List Int):Prop:=AW (Z5N ZhJ) Try.f109 ZiZ [] (Zn (Zi7.can (l,())) []) (Z3G cfg Try.f109.ntmps Try.f109.results.toList (.c (.mref (.r 0 0))) [] [(.r 0 0,LC.mk (U:=U) .u64 (Z83 (l,())) 0)])
theorem ZpF(hb:∀ (l:List Int) (_:Unit),Z86 (l,())→Zrl l):CT 109 Z3M:=
 Z5Y (l:=[]) Zo rfl trivial ZiZ Try.func109 rfl rfl 1 (fun _=> rfl) (by decide) (fun ⟨l,_⟩=> hb l ())
def Zl7:List (FuncId × Fs U):=[]
def ZpS:Zh U:=fun i=> match i with
 | 0=> ([(0,[])],[])
 | 1=> ([(0,[]),(4,[])],[])
 | 2=> ([(2,[.wr .tree])],[])
 | 3=> ([(2,[.wr .tree])],[])
 | _=> ([],[])
abbrev ZAm(p:List Nat):=AW (Z5N Zl7) Try.f150 ZpS p
theorem Zy8(l:List Tree)(Q:QT)(h:(((l=[])→(Q .ret (⟨[(2,.c (.mref (.e 2 0)))],[],[(.e 2 0,LC.mk (U:=U) .tree [] 0)]⟩:LSt U)))∧(True→((([]:List Tree).length+l.length)*56≤140737488355328)∧(Q .ret (⟨[(2,.c (.mref (.e 2 0)))],[],[(.e 2 0,LC.mk (U:=U) .tree (([]:List Tree)++l) (([]:List Tree).length))]⟩:LSt U))))):
  ZAm [] (L2 [(0,.c (sU .tree l .unk))] []) Q:=
 Eq.mpr (by kernel_rfl) h
def ZtI(l:List Tree):Prop:=AW (Z5N Zl7) Try.f150 ZpS [] (Zn (ZlE.can (l,())) []) (Z3G cfg Try.f150.ntmps Try.f150.results.toList (.c (.mref (.r 0 0))) [] [(.r 0 0,LC.mk (U:=U) .tree (Zb9 (l,())) 0)])
theorem Zsu(hb:∀ (l:List Tree) (_:Unit),Zcq (l,())→ZtI l):CT 150 Z62:=
 Z5Y (l:=[]) Zo rfl trivial ZpS Try.func150 rfl rfl 1 (fun _=> rfl) (by decide) (fun ⟨l,_⟩=> hb l ())
def Z9C(N:Nat):List (FuncId × Fs U):=(70,fs Z9P (fun a=> [Z3R a,Zdv a < N]) Z5n) ::(107,fs Z6x (fun a=> [Z4K a,Zaq a < N]) Z4D) ::(108,fs Z6w (fun a=> [Z4J a,Zap a < N]) Z4C) ::[(106,Jg),(149,Z1N),(91,Z4n),(151,Z61),(150,Z62),(66,Z1D),(109,Z3M)]
def ZvR:Zh U:=lvl [([2,3,4],[2,3,4]),([2,3,4,7],[2,3,4]),([2,3,4,7,8],[2,3,4]),([4,5],[4]),([2,3,4,7,11],[2,3,4]),([4,5],[4]),([2,3,4,7,19],[2,3,4]),([4,5],[4]),([2,3,4,26],[2,3,4]),([4,5],[4]),([4,5],[4])]
abbrev A70(N:Nat)(p:List Nat):=AW (Z1 (Z9C N)) Try.f70 ZvR p
theorem ZzJ(N:Nat)(e:Edit)(t:Tree)(Q:QT)(h:∀ y_1,y_1=e→∀ y_2,y_2=t→∀ y_3,y_3=(e.old)→(((e.kind==0)=true→(Q .ret (L2 [(4,.ptr (.loc 4) 0),(5,.c (.bool true))] [(.loc 4,(enc .tree t))])))∧((e.kind==0)=false→(((e.kind==1)=true→(Z1G (y_3,y_2,()))∧(Q .ret (L2 [(4,.ptr (.loc 4) 0),(5,.c (.bool (Jo (Z7 y_3) (Z7 y_2))))] [(.loc 4,(enc .tree e.new))])))∧((e.kind==1)=false→(((e.kind==2)=true→(Z4K (y_1,y_2,()))∧(Zaq (y_1,y_2,()) < N)∧(Q .ret (L2 [(4,.ptr (.loc 4) 0),(5,.c (.bool ((ZaR false y_1 y_2).isSome)))] [(.loc 4,(enc .tree (Z5z (ZaR false y_1 y_2))))])))∧((e.kind==2)=false→(((e.kind==3)=true→(Z4J (y_1,y_2,()))∧(Zap (y_1,y_2,()) < N)∧(Q .ret (L2 [(4,.ptr (.loc 4) 0),(5,.c (.bool ((Z19 (Z6B false y_1 y_2)).isSome)))] [(.loc 4,(enc .tree (Zq4 y_1 (Z6B false y_1 y_2))))])))∧((e.kind==3)=false→(Q .ret (L2 [(4,.ptr (.loc 4) 0),(5,.c (.bool false))] [(.loc 4,[ci 0,.nils,.nils])]))))))))))):
  A70 N [] (L2 [(0,.agg (enc .edit e)),(1,.agg (enc .tree t))] []) Q:=
 Eq.mpr (by kernel_rfl) (h _ (Zf _) _ (Zi _) _ (Zi _))
def Zxh(N:Nat)(e:Edit)(t:Tree):Prop:=AW (Z1 (Z9C N)) Try.f70 ZvR [] (Zn (Z9P.can (e,t,())) []) (EQ Try.f70 (Z5n (e,t,())) [])
abbrev Zzo:Prop:=∀ (N:Nat) (e:Edit) (t:Tree) (_:Unit),Z3R (e,t,())→Zdv (e,t,()) < N+1→Zxh N e t
def ZfP(N:Nat):List (FuncId × Fs U):=(70,fs Z9P (fun a=> [Z3R a,Zdv a < N]) Z5n) ::(107,fs Z6x (fun a=> [Z4K a,Zaq a < N]) Z4D) ::(108,fs Z6w (fun a=> [Z4J a,Zap a < N]) Z4C) ::[(106,Jg),(149,Z1N),(91,Z4n),(151,Z61),(150,Z62),(66,Z1D),(109,Z3M)]
def ZkP:Zh U:=fun i=> match i with
 | 0=> ([(2,[]),(3,[]),(4,[])],[(.loc 2,[]),(.loc 3,[]),(.loc 4,[])])
 | 1=> ([(2,[]),(3,[]),(4,[]),(16,[])],[(.loc 2,[]),(.loc 3,[]),(.loc 4,[])])
 | 2=> ([(4,[]),(5,[])],[(.loc 4,[])])
 | 3=> ([(2,[]),(3,[]),(4,[]),(6,[])],[(.loc 2,[]),(.loc 3,[]),(.loc 4,[]),(.loc 6,[.any,.wr .u64,.wr .tree])])
 | 4=> ([(2,[]),(3,[]),(4,[]),(6,[]),(26,[]),(27,[]),(28,[])],[(.loc 2,[]),(.loc 3,[]),(.loc 4,[]),(.loc 6,[.any,.wr .u64,.wr .tree])])
 | 5=> ([(2,[]),(3,[]),(4,[]),(6,[]),(26,[]),(27,[]),(28,[]),(29,[])],[(.loc 2,[]),(.loc 3,[]),(.loc 4,[]),(.loc 6,[.any,.wr .u64,.wr .tree])])
 | 6=> ([(2,[]),(3,[]),(4,[]),(6,[]),(8,[]),(26,[]),(27,[]),(28,[])],[(.loc 2,[]),(.loc 3,[]),(.loc 4,[]),(.loc 6,[.any,.wr .u64,.wr .tree]),(.loc 8,[])])
 | 7=> ([(2,[]),(3,[]),(4,[]),(6,[]),(8,[]),(9,[]),(26,[]),(27,[]),(28,[])],[(.loc 2,[]),(.loc 3,[]),(.loc 4,[]),(.loc 6,[.any,.wr .u64,.wr .tree]),(.loc 8,[])])
 | 8=> ([(2,[]),(3,[]),(4,[]),(6,[]),(8,[]),(9,[]),(26,[]),(27,[]),(28,[]),(42,[])],[(.loc 2,[]),(.loc 3,[]),(.loc 4,[]),(.loc 6,[.any,.wr .u64,.wr .tree]),(.loc 8,[])])
 | 9=> ([(4,[]),(5,[])],[(.loc 4,[])])
 | 10=> ([(2,[]),(3,[]),(4,[]),(6,[]),(8,[]),(9,[]),(26,[]),(27,[]),(28,[]),(42,[]),(49,[])],[(.loc 2,[]),(.loc 3,[]),(.loc 4,[]),(.loc 6,[.any,.wr .u64,.wr .tree]),(.loc 8,[])])
 | 11=> ([(2,[]),(3,[]),(4,[]),(6,[]),(8,[]),(9,[]),(26,[]),(27,[]),(28,[]),(42,[])],[(.loc 2,[]),(.loc 3,[]),(.loc 4,[]),(.loc 6,[.any,.wr .u64,.wr .tree]),(.loc 8,[])])
 | 12=> ([(2,[]),(3,[]),(4,[]),(6,[]),(26,[]),(27,[]),(28,[])],[(.loc 2,[]),(.loc 3,[]),(.loc 4,[]),(.loc 6,[.any,.wr .u64,.wr .tree])])
 | 13=> ([(2,[]),(3,[]),(4,[]),(6,[]),(26,[]),(27,[]),(28,[])],[(.loc 2,[]),(.loc 3,[]),(.loc 4,[]),(.loc 6,[.any,.wr .u64,.wr .tree])])
 | 14=> ([(3,[]),(4,[]),(6,[]),(68,[]),(69,[]),(70,[])],[(.loc 3,[]),(.loc 4,[]),(.loc 6,[.any,.wr .u64,.wr .tree])])
 | 15=> ([(3,[]),(4,[]),(6,[]),(68,[]),(69,[]),(70,[]),(71,[])],[(.loc 3,[]),(.loc 4,[]),(.loc 6,[.any,.wr .u64,.wr .tree])])
 | 16=> ([(3,[]),(4,[]),(6,[]),(11,[]),(68,[]),(69,[]),(70,[])],[(.loc 3,[]),(.loc 4,[]),(.loc 6,[.any,.wr .u64,.wr .tree]),(.loc 11,[])])
 | 17=> ([(3,[]),(4,[]),(6,[]),(11,[]),(12,[]),(13,[]),(68,[]),(69,[]),(70,[])],[(.loc 3,[]),(.loc 4,[]),(.loc 6,[.any,.wr .u64,.wr .tree]),(.loc 11,[]),(.loc 12,[])])
 | 18=> ([(3,[]),(4,[]),(6,[]),(11,[]),(12,[]),(68,[]),(69,[]),(70,[]),(85,[])],[(.loc 3,[]),(.loc 4,[]),(.loc 6,[.any,.wr .u64,.wr .tree]),(.loc 11,[]),(.loc 12,[])])
 | 19=> ([(4,[]),(5,[])],[(.loc 4,[])])
 | 20=> ([(3,[]),(4,[]),(6,[]),(11,[]),(12,[]),(68,[]),(69,[]),(70,[]),(85,[]),(92,[])],[(.loc 3,[]),(.loc 4,[]),(.loc 6,[.any,.wr .u64,.wr .tree]),(.loc 11,[]),(.loc 12,[])])
 | 21=> ([(3,[]),(4,[]),(6,[]),(11,[]),(12,[]),(68,[]),(69,[]),(70,[]),(85,[])],[(.loc 3,[]),(.loc 4,[]),(.loc 6,[.any,.wr .u64,.wr .tree]),(.loc 11,[]),(.loc 12,[])])
 | 22=> ([(3,[]),(4,[]),(6,[]),(68,[]),(69,[]),(70,[])],[(.loc 3,[]),(.loc 4,[]),(.loc 6,[.any,.wr .u64,.wr .tree])])
 | 23=> ([(3,[]),(4,[]),(6,[]),(68,[]),(69,[]),(70,[])],[(.loc 3,[]),(.loc 4,[]),(.loc 6,[.any,.wr .u64,.wr .tree])])
 | 24=> ([(4,[]),(5,[])],[(.loc 4,[])])
 | _=> ([],[])
def Z6t(e:Edit)(t:Tree)(x28:Int)(rl_6_1:List Int):LSt U:=(⟨[(2,.ptr (.loc 2) 0),(3,.ptr (.loc 3) 0),(4,.ptr (.loc 4) 0),(6,.ptr (.loc 6) 0),(26,.c (sU .wedit e.words .unk)),(27,.c (ci (e.words.length:Int))),(28,.c (ci x28))],[(.loc 2,(enc .edit e)),(.loc 3,(enc .tree t)),(.loc 4,[ci 0,.nils,.nils]),(.loc 6,[ci 1,.mref (.l 6 1),.mref (.l 6 2)])],[(.l 6 1,LC.mk (U:=U) .u64 rl_6_1 0),(.l 6 2,LC.mk (U:=U) .tree t.kids 0)]⟩:LSt U)
def Z6s(e:Edit)(t:Tree)(x28:Int)(rl_6_1_a:List Int):LSt U:=(⟨[(2,.ptr (.loc 2) 0),(3,.ptr (.loc 3) 0),(4,.ptr (.loc 4) 0),(6,.ptr (.loc 6) 0),(8,.ptr (.loc 8) 0),(9,.c (.int .u64 (JO (Tree.mk t.kind t.words t.kids) (WEdit.at_ (e.words.getD x28.toNat (WEdit.mk 0 0 0 0)))))),(26,.c (sU .wedit e.words .unk)),(27,.c (ci (e.words.length:Int))),(28,.c (ci x28)),(42,.c (.bool (((mix 0 (JO (Tree.mk t.kind t.words t.kids) (WEdit.at_ (e.words.getD x28.toNat (WEdit.mk 0 0 0 0)))) (WEdit.mask (e.words.getD x28.toNat (WEdit.mk 0 0 0 0)))):Int) !=(WEdit.old (e.words.getD x28.toNat (WEdit.mk 0 0 0 0))))))],[(.loc 2,(enc .edit e)),(.loc 3,(enc .tree t)),(.loc 4,[ci 0,.nils,.nils]),(.loc 6,[ci 1,.mref (.l 6 1),.mref (.l 6 2)]),(.loc 8,(enc .wedit (e.words.getD x28.toNat (WEdit.mk 0 0 0 0))))],[(.l 6 1,LC.mk (U:=U) .u64 rl_6_1_a 0),(.l 6 2,LC.mk (U:=U) .tree t.kids 0)]⟩:LSt U)
def Z6r(e:Edit)(t:Tree)(rl_6_1:List Int)(x70_b:Int)(rl_6_2_b:List Tree):LSt U:=(⟨[(3,.ptr (.loc 3) 0),(4,.ptr (.loc 4) 0),(6,.ptr (.loc 6) 0),(68,.c (sU .kid e.kids .unk)),(69,.c (ci (e.kids.length:Int))),(70,.c (ci x70_b))],[(.loc 3,(enc .tree t)),(.loc 4,[ci 0,.nils,.nils]),(.loc 6,[ci 1,.mref (.l 6 1),.mref (.l 6 2)])],[(.l 6 1,LC.mk (U:=U) .u64 rl_6_1 0),(.l 6 2,LC.mk (U:=U) .tree rl_6_2_b 0)]⟩:LSt U)
def Z6q(e:Edit)(t:Tree)(rl_6_1:List Int)(x70_b:Int)(rl_6_2_c:List Tree):LSt U:=(⟨[(3,.ptr (.loc 3) 0),(4,.ptr (.loc 4) 0),(6,.ptr (.loc 6) 0),(11,.ptr (.loc 11) 0),(12,.ptr (.loc 12) 0),(68,.c (sU .kid e.kids .unk)),(69,.c (ci (e.kids.length:Int))),(70,.c (ci x70_b)),(85,.c (.bool (!((doE false (Edit.mk (Edit.kind (KidOf.e (e.kids.getD x70_b.toNat (KidOf.mk 0 Edit.nil)))) (Tree.mk (Tree.kind (Edit.old (KidOf.e (e.kids.getD x70_b.toNat (KidOf.mk 0 Edit.nil))))) (Tree.words (Edit.old (KidOf.e (e.kids.getD x70_b.toNat (KidOf.mk 0 Edit.nil))))) (Tree.kids (Edit.old (KidOf.e (e.kids.getD x70_b.toNat (KidOf.mk 0 Edit.nil)))))) (Tree.mk (Tree.kind (Edit.new (KidOf.e (e.kids.getD x70_b.toNat (KidOf.mk 0 Edit.nil))))) (Tree.words (Edit.new (KidOf.e (e.kids.getD x70_b.toNat (KidOf.mk 0 Edit.nil))))) (Tree.kids (Edit.new (KidOf.e (e.kids.getD x70_b.toNat (KidOf.mk 0 Edit.nil)))))) (Edit.words (KidOf.e (e.kids.getD x70_b.toNat (KidOf.mk 0 Edit.nil)))) (Edit.kids (KidOf.e (e.kids.getD x70_b.toNat (KidOf.mk 0 Edit.nil)))) (Edit.list (KidOf.e (e.kids.getD x70_b.toNat (KidOf.mk 0 Edit.nil)))) (Edit.ops (KidOf.e (e.kids.getD x70_b.toNat (KidOf.mk 0 Edit.nil))))) (Tree.mk (Tree.kind (Z00 (Tree.mk t.kind t.words t.kids) (KidOf.at_ (e.kids.getD x70_b.toNat (KidOf.mk 0 Edit.nil))))) (Tree.words (Z00 (Tree.mk t.kind t.words t.kids) (KidOf.at_ (e.kids.getD x70_b.toNat (KidOf.mk 0 Edit.nil))))) (Tree.kids (Z00 (Tree.mk t.kind t.words t.kids) (KidOf.at_ (e.kids.getD x70_b.toNat (KidOf.mk 0 Edit.nil))))))).isSome))))],[(.loc 3,(enc .tree t)),(.loc 4,[ci 0,.nils,.nils]),(.loc 6,[ci 1,.mref (.l 6 1),.mref (.l 6 2)]),(.loc 11,(enc .kid (e.kids.getD x70_b.toNat (KidOf.mk 0 Edit.nil)))),(.loc 12,(enc .tree (ZaT (Edit.mk (Edit.kind (KidOf.e (e.kids.getD x70_b.toNat (KidOf.mk 0 Edit.nil)))) (Tree.mk (Tree.kind (Edit.old (KidOf.e (e.kids.getD x70_b.toNat (KidOf.mk 0 Edit.nil))))) (Tree.words (Edit.old (KidOf.e (e.kids.getD x70_b.toNat (KidOf.mk 0 Edit.nil))))) (Tree.kids (Edit.old (KidOf.e (e.kids.getD x70_b.toNat (KidOf.mk 0 Edit.nil)))))) (Tree.mk (Tree.kind (Edit.new (KidOf.e (e.kids.getD x70_b.toNat (KidOf.mk 0 Edit.nil))))) (Tree.words (Edit.new (KidOf.e (e.kids.getD x70_b.toNat (KidOf.mk 0 Edit.nil))))) (Tree.kids (Edit.new (KidOf.e (e.kids.getD x70_b.toNat (KidOf.mk 0 Edit.nil)))))) (Edit.words (KidOf.e (e.kids.getD x70_b.toNat (KidOf.mk 0 Edit.nil)))) (Edit.kids (KidOf.e (e.kids.getD x70_b.toNat (KidOf.mk 0 Edit.nil)))) (Edit.list (KidOf.e (e.kids.getD x70_b.toNat (KidOf.mk 0 Edit.nil)))) (Edit.ops (KidOf.e (e.kids.getD x70_b.toNat (KidOf.mk 0 Edit.nil))))) (Tree.mk (Tree.kind (Z00 (Tree.mk t.kind t.words t.kids) (KidOf.at_ (e.kids.getD x70_b.toNat (KidOf.mk 0 Edit.nil))))) (Tree.words (Z00 (Tree.mk t.kind t.words t.kids) (KidOf.at_ (e.kids.getD x70_b.toNat (KidOf.mk 0 Edit.nil))))) (Tree.kids (Z00 (Tree.mk t.kind t.words t.kids) (KidOf.at_ (e.kids.getD x70_b.toNat (KidOf.mk 0 Edit.nil)))))))))],[(.l 6 1,LC.mk (U:=U) .u64 rl_6_1 0),(.l 6 2,LC.mk (U:=U) .tree rl_6_2_c 0)]⟩:LSt U)
abbrev Zgr(N:Nat)(p:List Nat):=AW (Z1 (ZfP N)) Try.f107 ZkP p
abbrev Z6C(N:Nat)(p:List Nat):=SW (Z1 (ZfP N)) Try.f107 ZkP p
theorem Zyw(N:Nat)(e:Edit)(t:Tree)(Q:QT)(h:(((t.kind !=1)=true→(Q .ret (L2 [(4,.ptr (.loc 4) 0),(5,.c (.bool false))] [(.loc 4,[ci 0,.nils,.nils])])))∧((t.kind !=1)=false→(Z86 (t.words,()))∧(Zcq (t.kids,()))∧(Zl (Zgr N [1,1,1,0,1,0,0]) (Z6t e t 0 t.words) (xB 0 (Z6C N [1,1,1,1] Q)))))):
  Zgr N [] (L2 [(0,.agg (enc .edit e)),(1,.agg (enc .tree t))] []) Q:=
 Eq.mpr (by kernel_rfl) h
theorem Zob(N:Nat)(e:Edit)(t:Tree)(x28:Int)(rl_6_1:List Int)(N0:NT)(Q:QT)(h:∀ y_1,y_1=t→∀ y_2,y_2=(e.words.getD x28.toNat (WEdit.mk 0 0 0 0))→let z1:=decide (x28 < (e.words.length:Int));let z0:=((mix 0 (JO y_1 y_2.at_) y_2.mask):Int) !=y_2.old;((z1=true→((0:Int)≤x28∧x28 < (e.words.length:Int))∧((Z9n (y_1,y_2.at_,()))∧((Z2C (0,(JO y_1 y_2.at_),y_2.mask,()))∧((z0=true→(Q .ret (L2 [(4,.ptr (.loc 4) 0),(5,.c (.bool false))] [(.loc 4,[ci 0,.nils,.nils])])))∧(z0=false→Zl (Zgr N [1,1,1,0,1,0,0,1,1,0,0,1,1,1,0,0,0]) (Z6s e t x28 rl_6_1) (xB 2 (Z6C N [1,1,1,0,1,0,0,1,1,0,0,1,1,1,1] (xB 1 (Z6C N [1,1,1,0,1,0,0,1,1,1] (xT N0 (xB 0 (Z6C N [1,1,1,1] Q))))))))))))∧(z1=false→(Zl (Zgr N [1,1,1,1,0,1,0,0]) (Z6r e t rl_6_1 0 t.kids) (xB 4 (Z6C N [1,1,1,1,1] Q)))))):
  Zgr N [1,1,1,0,1,0,0] (Z6t e t x28 rl_6_1) (xT N0 (xB 0 (Z6C N [1,1,1,1] Q))):=
 Eq.mpr (by kernel_rfl) (h _ (Zi _) _ rfl)
theorem Zoa(N:Nat)(e:Edit)(t:Tree)(x28:Int)(rl_6_1_a:List Int)(N1 N0:NT)(Q:QT)(h:let z0:=e.words.getD x28.toNat (WEdit.mk 0 0 0 0);let z2:=JO (Tree.mk t.kind t.words t.kids) (WEdit.at_ z0);let z1:=decide (((rl_6_1_a.length:Int):Int)≤(WEdit.at_ z0));((z1=true→((rl_6_1_a.length+([0]).length)*8≤140737488355328)∧(N1 (Z6s e t x28 (rl_6_1_a++([0])))))∧(z1=false→(Z2C (z2,(WEdit.new z0),(WEdit.mask z0),()))∧((0:Int)≤(WEdit.at_ z0)∧(WEdit.at_ z0) < (rl_6_1_a.length:Int))∧((0:Nat)≤(Int.toNat (WEdit.at_ z0)))∧((InR (x28+1))∧(N0 (Z6t e t (x28+1) (List.set rl_6_1_a (Int.toNat (WEdit.at_ z0)) (mix z2 (WEdit.new z0) (WEdit.mask z0))))))))):
  Zgr N [1,1,1,0,1,0,0,1,1,0,0,1,1,1,0,0,0] (Z6s e t x28 rl_6_1_a) (xT N1 (xB 2 (Z6C N [1,1,1,0,1,0,0,1,1,0,0,1,1,1,1] (xB 1 (Z6C N [1,1,1,0,1,0,0,1,1,1] (xT N0 (xB 0 (Z6C N [1,1,1,1] Q)))))))):=
 Eq.mpr (by kernel_rfl) h
theorem Zo9(N:Nat)(e:Edit)(t:Tree)(rl_6_1:List Int)(x70_b:Int)(rl_6_2_b:List Tree)(N2:NT)(Q:QT)(h:∀ y_1,y_1=t→∀ y_2,y_2=(e.kids.getD x70_b.toNat (KidOf.mk 0 Edit.nil))→∀ y_3,y_3=(y_2.e)→∀ y_4,y_4=(Z00 y_1 y_2.at_)→let z1:= !((doE false y_3 y_4).isSome);let z0:=decide (x70_b < (e.kids.length:Int));((z0=true→((0:Int)≤x70_b∧x70_b < (e.kids.length:Int))∧((Ze9 (y_1,y_2.at_,()))∧(Z3R (y_3,y_4,()))∧(Zdv (y_3,y_4,()) < N)∧((z1=true→(Q .ret (L2 [(4,.ptr (.loc 4) 0),(5,.c (.bool false))] [(.loc 4,[ci 0,.nils,.nils])])))∧(z1=false→Zl (Zgr N [1,1,1,1,0,1,0,0,1,1,0,0,1,1,1,0,0,0]) (Z6q e t rl_6_1 x70_b rl_6_2_b) (xB 6 (Z6C N [1,1,1,1,0,1,0,0,1,1,0,0,1,1,1,1] (xB 5 (Z6C N [1,1,1,1,0,1,0,0,1,1,1] (xT N2 (xB 4 (Z6C N [1,1,1,1,1] Q)))))))))))∧(z0=false→(Q .ret (L2 [(4,.ptr (.loc 4) 0),(5,.c (.bool true))] [(.loc 4,[ci 1,sU .u64 rl_6_1 (.own (.l 4 1)),sU .tree rl_6_2_b (.own (.l 4 2))])]))))):
  Zgr N [1,1,1,1,0,1,0,0] (Z6r e t rl_6_1 x70_b rl_6_2_b) (xT N2 (xB 4 (Z6C N [1,1,1,1,1] Q))):=
 Eq.mpr (by kernel_rfl) (h _ (Zi _) _ rfl _ (Zf _) _ (Zi _))
theorem Zo8(N:Nat)(e:Edit)(t:Tree)(rl_6_1:List Int)(x70_b:Int)(rl_6_2_c:List Tree)(N3 N2:NT)(Q:QT)(h:∀ y_1,y_1=t→∀ y_2,y_2=(e.kids.getD x70_b.toNat (KidOf.mk 0 Edit.nil))→∀ y_3,y_3=(y_2.e)→∀ y_4,y_4=(Z00 y_1 y_2.at_)→∀ y_5,y_5=(ZaT y_3 y_4)→let z0:=decide (((rl_6_2_c.length:Int):Int)≤y_2.at_);((z0=true→((rl_6_2_c.length+([(Tree.mk 0 [] [])]).length)*56≤140737488355328)∧(N3 (Z6q e t rl_6_1 x70_b (rl_6_2_c++([(Tree.mk 0 [] [])])))))∧(z0=false→((0:Int)≤y_2.at_∧y_2.at_ < (rl_6_2_c.length:Int))∧((0:Nat)≤(Int.toNat y_2.at_))∧((InR (x70_b+1))∧(N2 (Z6r e t rl_6_1 (x70_b+1) (List.set rl_6_2_c (Int.toNat y_2.at_) y_5))))))):
  Zgr N [1,1,1,1,0,1,0,0,1,1,0,0,1,1,1,0,0,0] (Z6q e t rl_6_1 x70_b rl_6_2_c) (xT N3 (xB 6 (Z6C N [1,1,1,1,0,1,0,0,1,1,0,0,1,1,1,1] (xB 5 (Z6C N [1,1,1,1,0,1,0,0,1,1,1] (xT N2 (xB 4 (Z6C N [1,1,1,1,1] Q)))))))):=
 Eq.mpr (by kernel_rfl) (h _ (Zi _) _ rfl _ (Zf _) _ (Zi _) _ (Zi _))
def Zu6(N:Nat)(e:Edit)(t:Tree):Prop:=AW (Z1 (ZfP N)) Try.f107 ZkP [] (Zn (Z6x.can (e,t,())) []) (EQ Try.f107 (Z4D (e,t,())) [])
abbrev Zv1:Prop:=∀ (N:Nat) (e:Edit) (t:Tree) (_:Unit),Z4K (e,t,())→Zaq (e,t,()) < N+1→Zu6 N e t
def ZfO(N:Nat):List (FuncId × Fs U):=(70,fs Z9P (fun a=> [Z3R a,Zdv a < N]) Z5n) ::(107,fs Z6x (fun a=> [Z4K a,Zaq a < N]) Z4D) ::(108,fs Z6w (fun a=> [Z4J a,Zap a < N]) Z4C) ::[(106,Jg),(149,Z1N),(91,Z4n),(151,Z61),(150,Z62),(66,Z1D),(109,Z3M)]
def ZkO:Zh U:=fun i=> match i with
 | 0=> ([(2,[]),(3,[]),(4,[])],[(.loc 2,[]),(.loc 3,[]),(.loc 4,[])])
 | 1=> ([(2,[]),(3,[]),(4,[]),(18,[])],[(.loc 2,[]),(.loc 3,[]),(.loc 4,[])])
 | 2=> ([(4,[]),(5,[])],[(.loc 4,[])])
 | 3=> ([(2,[]),(3,[]),(4,[]),(6,[])],[(.loc 2,[]),(.loc 3,[]),(.loc 4,[]),(.loc 6,[])])
 | 4=> ([(2,[]),(4,[]),(6,[]),(7,[])],[(.loc 2,[]),(.loc 4,[]),(.loc 6,[])])
 | 5=> ([(4,[]),(6,[]),(7,[]),(26,[]),(27,[]),(28,[])],[(.loc 4,[]),(.loc 6,[.any,.any,.own .tree])])
 | 6=> ([(4,[]),(6,[]),(7,[]),(26,[]),(27,[]),(28,[]),(29,[])],[(.loc 4,[]),(.loc 6,[])])
 | 7=> ([(4,[]),(6,[]),(7,[]),(9,[]),(26,[]),(27,[]),(28,[])],[(.loc 4,[]),(.loc 6,[]),(.loc 9,[])])
 | 8=> ([(4,[]),(6,[]),(7,[]),(9,[]),(10,[]),(26,[]),(27,[]),(28,[])],[(.loc 4,[]),(.loc 6,[]),(.loc 9,[])])
 | 9=> ([(4,[]),(6,[]),(7,[]),(9,[]),(10,[]),(26,[]),(27,[]),(28,[]),(35,[])],[(.loc 4,[]),(.loc 6,[]),(.loc 9,[])])
 | 10=> ([(4,[]),(6,[]),(7,[]),(9,[]),(10,[]),(26,[]),(27,[]),(28,[]),(35,[]),(36,[])],[(.loc 4,[]),(.loc 6,[]),(.loc 9,[])])
 | 11=> ([(4,[]),(6,[]),(7,[]),(26,[]),(27,[]),(28,[]),(97,[])],[(.loc 4,[]),(.loc 6,[])])
 | 12=> ([(4,[]),(6,[]),(7,[]),(9,[]),(10,[]),(26,[]),(27,[]),(28,[]),(35,[]),(44,[])],[(.loc 4,[]),(.loc 6,[]),(.loc 9,[])])
 | 13=> ([(4,[]),(6,[]),(7,[]),(9,[]),(10,[]),(26,[]),(27,[]),(28,[]),(49,[])],[(.loc 4,[]),(.loc 6,[]),(.loc 9,[])])
 | 14=> ([(4,[]),(6,[]),(7,[]),(9,[]),(10,[]),(26,[]),(27,[]),(28,[]),(49,[])],[(.loc 4,[]),(.loc 6,[]),(.loc 9,[])])
 | 15=> ([(4,[]),(6,[]),(7,[]),(9,[]),(10,[]),(26,[]),(27,[]),(28,[]),(49,[])],[(.loc 4,[]),(.loc 6,[]),(.loc 9,[])])
 | 16=> ([(4,[]),(6,[]),(7,[]),(9,[]),(10,[]),(26,[]),(27,[]),(28,[]),(54,[])],[(.loc 4,[]),(.loc 6,[]),(.loc 9,[])])
 | 17=> ([(4,[]),(5,[])],[(.loc 4,[])])
 | 18=> ([(4,[]),(6,[]),(7,[]),(9,[]),(10,[]),(26,[]),(27,[]),(28,[])],[(.loc 4,[]),(.loc 6,[]),(.loc 9,[])])
 | 19=> ([(4,[]),(6,[]),(7,[]),(9,[]),(11,[]),(26,[]),(27,[]),(28,[])],[(.loc 4,[]),(.loc 6,[]),(.loc 9,[])])
 | 20=> ([(4,[]),(6,[]),(7,[]),(12,[]),(13,[]),(26,[]),(27,[]),(28,[])],[(.loc 4,[]),(.loc 6,[]),(.loc 12,[])])
 | 21=> ([(4,[]),(6,[]),(7,[]),(12,[]),(26,[]),(27,[]),(28,[]),(72,[])],[(.loc 4,[]),(.loc 6,[]),(.loc 12,[])])
 | 22=> ([(4,[]),(5,[])],[(.loc 4,[])])
 | 23=> ([(4,[]),(6,[]),(7,[]),(26,[]),(27,[]),(28,[]),(97,[])],[(.loc 4,[]),(.loc 6,[])])
 | 24=> ([(4,[]),(6,[]),(7,[]),(9,[]),(11,[]),(26,[]),(27,[]),(28,[]),(80,[])],[(.loc 4,[]),(.loc 6,[]),(.loc 9,[])])
 | 25=> ([(4,[]),(6,[]),(7,[]),(26,[]),(27,[]),(28,[]),(97,[])],[(.loc 4,[]),(.loc 6,[])])
 | 26=> ([(4,[]),(6,[]),(7,[]),(9,[]),(11,[]),(26,[]),(27,[]),(28,[]),(89,[])],[(.loc 4,[]),(.loc 6,[]),(.loc 9,[])])
 | 27=> ([(4,[]),(6,[]),(7,[]),(26,[]),(27,[]),(28,[]),(97,[])],[(.loc 4,[]),(.loc 6,[])])
 | 28=> ([(4,[]),(5,[])],[(.loc 4,[])])
 | 29=> ([(4,[]),(6,[]),(7,[]),(26,[]),(27,[]),(28,[])],[(.loc 4,[]),(.loc 6,[.any,.any,.own .tree])])
 | 30=> ([(4,[]),(5,[])],[(.loc 4,[])])
 | _=> ([],[])
def Z16(e:Edit)(t:Tree)(x28:Int)(x7 ml6_2:List Tree):LSt U:=(L2 [(4,.ptr (.loc 4) 0),(6,.ptr (.loc 6) 0),(7,.c (sU .tree x7 .unk)),(26,.c (sU .op e.ops .unk)),(27,.c (ci (e.ops.length:Int))),(28,.c (ci x28))] [(.loc 4,[ci 0,.nils,.nils]),(.loc 6,[ci t.kind,.nils,sU .tree ml6_2 (.own (.l 6 2))])])
def Z2o(e:Edit)(t:Tree)(x28:Int)(x7_a ml6_2_a:List Tree)(v97_a:V U):LSt U:=(L2 [(4,.ptr (.loc 4) 0),(6,.ptr (.loc 6) 0),(7,.c (sU .tree x7_a .unk)),(26,.c (sU .op e.ops .unk)),(27,.c (ci (e.ops.length:Int))),(28,.c (ci x28)),(97,v97_a)] [(.loc 4,[ci 0,.nils,.nils]),(.loc 6,[ci t.kind,.nils,sU .tree ml6_2_a (.own (.l 6 2))])])
def Z6p(e:Edit)(t:Tree)(x28:Int)(x7 ml6_2:List Tree)(x10_b:Int)(v49_b:V U):LSt U:=(L2 [(4,.ptr (.loc 4) 0),(6,.ptr (.loc 6) 0),(7,.c (sU .tree x7 .unk)),(9,.ptr (.loc 9) 0),(10,.c (ci x10_b)),(26,.c (sU .op e.ops .unk)),(27,.c (ci (e.ops.length:Int))),(28,.c (ci x28)),(49,v49_b)] [(.loc 4,[ci 0,.nils,.nils]),(.loc 6,[ci t.kind,.nils,sU .tree ml6_2 (.own (.l 6 2))]),(.loc 9,(enc .op (e.ops.getD x28.toNat Op.nil)))])
abbrev Z9S(N:Nat)(p:List Nat):=AW (Z1 (ZfO N)) Try.f108 ZkO p
abbrev Zgq(N:Nat)(p:List Nat):=SW (Z1 (ZfO N)) Try.f108 ZkO p
theorem Zyv(N:Nat)(e:Edit)(t:Tree)(Q:QT)(h:(((t.kind !=e.list)=true→(Q .ret (L2 [(4,.ptr (.loc 4) 0),(5,.c (.bool false))] [(.loc 4,[ci 0,.nils,.nils])])))∧((t.kind !=e.list)=false→(Zl (Z9S N [1,1,1,1,0,1,0,0]) (Z16 e t 0 t.kids []) (xB 0 (Zgq N [1,1,1,1,1] Q)))))):
  Z9S N [] (L2 [(0,.agg (enc .edit e)),(1,.agg (enc .tree t))] []) Q:=
 Eq.mpr (by kernel_rfl) h
theorem Zo6(N:Nat)(e:Edit)(t:Tree)(x28:Int)(x7 ml6_2:List Tree)(N0:NT)(Q:QT)(h:∀ y_1,y_1=(e.ops.getD x28.toNat Op.nil)→let z2:=decide (x28 < (e.ops.length:Int));let z1:=xT N0 (xB 0 (Zgq N [1,1,1,1,1] Q));let z0:=xB 1 (Zgq N [1,1,1,1,0,1,0,0,1,1,1] z1);((z2=true→((0:Int)≤x28∧x28 < (e.ops.length:Int))∧(((y_1.kind==2)=true→((ml6_2.length+y_1.l.length)*56≤140737488355328)∧(Z9S N [1,1,1,1,0,1,0,0,1,1,1] (Z2o e t x28 x7 (ml6_2++y_1.l) .junk) z1))∧((y_1.kind==2)=false→(((y_1.kind==1)=true→(Z9S N [1,1,1,1,0,1,0,0,1,1,0,0,1,1,1] (Z6p e t x28 x7 ml6_2 (y_1.l.length:Int) .junk) z0))∧((y_1.kind==1)=false→(((y_1.kind==3)=true→(Z9S N [1,1,1,1,0,1,0,0,1,1,0,0,1,1,1] (Z6p e t x28 x7 ml6_2 1 (.c (.bool (y_1.kind==3)))) z0))∧((y_1.kind==3)=false→Z9S N [1,1,1,1,0,1,0,0,1,1,0,0,1,1,1] (Z6p e t x28 x7 ml6_2 y_1.n (.c (.bool (y_1.kind==3)))) z0)))))))∧(z2=false→(Q .ret (L2 [(4,.ptr (.loc 4) 0),(5,.c (.bool (((x7.length:Int):Int)==0)))] [(.loc 4,[ci t.kind,.nils,sU .tree ml6_2 (.own (.l 4 2))])]))))):
  Z9S N [1,1,1,1,0,1,0,0] (Z16 e t x28 x7 ml6_2) (xT N0 (xB 0 (Zgq N [1,1,1,1,1] Q))):=
 Eq.mpr (by kernel_rfl) (h _ rfl)
theorem Zo7(N:Nat)(e:Edit)(t:Tree)(x28:Int)(x7_a ml6_2_a:List Tree)(v97_a:V U)(N0:NT)(Q:QT)(h:(InR (x28+1))∧(N0 (Z16 e t (x28+1) x7_a ml6_2_a))):
  Z9S N [1,1,1,1,0,1,0,0,1,1,1] (Z2o e t x28 x7_a ml6_2_a v97_a) (xT N0 (xB 0 (Zgq N [1,1,1,1,1] Q))):=
 Eq.mpr (by kernel_rfl) h
theorem Zbq(N:Nat)(e:Edit)(t:Tree)(x28:Int)(x7 ml6_2:List Tree)(x10_b:Int)(v49_b:V U)(N0:NT)(Q:QT)(h:∀ y_1,y_1=(e.ops.getD x28.toNat Op.nil)→∀ y_2,y_2=(List.getD (List.take x10_b.toNat x7) (Int.toNat 0) Tree.nil)→∀ y_3,y_3=y_2→∀ y_4,y_4=(y_1.e)→∀ y_5,y_5=(eqX (Z5 y_1.l) (Z5 (List.take x10_b.toNat x7)))→∀ y_6,y_6=(ZaT y_4 y_3)→let z5:= !((doE false y_4 y_3).isSome);let z4:=decide (((x7.length:Int):Int) < x10_b);let z3:=List.drop x10_b.toNat x7;let z2:=List.take x10_b.toNat x7;let z1:=xT N0 (xB 0 (Zgq N [1,1,1,1,1] Q));let z0:=Q .ret (L2 [(4,.ptr (.loc 4) 0),(5,.c (.bool false))] [(.loc 4,[ci 0,.nils,.nils])]);((z4=true→z0)∧(z4=false→(((0:Int)≤x10_b∧x10_b≤(x7.length:Int))∧((0:Int)≤x10_b∧x10_b≤(x7.length:Int))∧(((y_1.kind==0)=true→((ml6_2.length+z2.length)*56≤140737488355328)∧(Z9S N [1,1,1,1,0,1,0,0,1,1,1] (Z2o e t x28 z3 (ml6_2++z2) .junk) z1))∧((y_1.kind==0)=false→(((y_1.kind==1)=true→(Zcp (y_1.l,z2,(),()))∧(((!y_5)=true→z0)∧((!y_5)=false→Z9S N [1,1,1,1,0,1,0,0,1,1,1] (Z2o e t x28 z3 ml6_2 (.c (.bool (!y_5)))) z1)))∧((y_1.kind==1)=false→((0:Int)≤0∧0 < (z2.length:Int))∧(Z3R (y_4,y_3,()))∧(Zdv (y_4,y_3,()) < N)∧((z5=true→z0)∧(z5=false→((ml6_2.length+([y_6]).length)*56≤140737488355328)∧(Z9S N [1,1,1,1,0,1,0,0,1,1,1] (Z2o e t x28 z3 (ml6_2++([y_6])) .junk) z1))))))))))):
  Z9S N [1,1,1,1,0,1,0,0,1,1,0,0,1,1,1] (Z6p e t x28 x7 ml6_2 x10_b v49_b) (xB 1 (Zgq N [1,1,1,1,0,1,0,0,1,1,1] (xT N0 (xB 0 (Zgq N [1,1,1,1,1] Q))))):=
 Eq.mpr (by kernel_rfl) (h _ rfl _ rfl _ (Zi _) _ (Zf _) _ rfl _ (Zi _))
def Zu5(N:Nat)(e:Edit)(t:Tree):Prop:=AW (Z1 (ZfO N)) Try.f108 ZkO [] (Zn (Z6w.can (e,t,())) []) (EQ Try.f108 (Z4C (e,t,())) [])
abbrev Zv0:Prop:=∀ (N:Nat) (e:Edit) (t:Tree) (_:Unit),Z4J (e,t,())→Zap (e,t,()) < N+1→Zu5 N e t
theorem Zsb(Zg2:CT 106 Jg)(Znq:CT 149 Z1N)(c91:CT 91 Z4n)(Zwt:CT 151 Z61)(Zwu:CT 150 Z62)(c66:CT 66 Z1D)(ZqO:CT 109 Z3M)(b70:Zzo)(ZwS:Zv1)(ZwR:Zv0):
  CT 70 Z9c∧CT 107 ZjZ∧CT 108 ZjY:=by
 have h82 : ∃ fn, Try.prog.funcs[(70 : FuncId)]? = some fn ∧ fn.body.isSome = true ∧ (fn.name == "runtime.NumGoroutine") = false := ⟨Try.f70, Try.func70, rfl, rfl⟩
 have h113 : ∃ fn, Try.prog.funcs[(107 : FuncId)]? = some fn ∧ fn.body.isSome = true ∧ (fn.name == "runtime.NumGoroutine") = false := ⟨Try.f107, Try.func107, rfl, rfl⟩
 have h114 : ∃ fn, Try.prog.funcs[(108 : FuncId)]? = some fn ∧ fn.body.isSome = true ∧ (fn.name == "runtime.NumGoroutine") = false := ⟨Try.f108, Try.func108, rfl, rfl⟩
 have key:∀ N,CT 70 (fs Z9P (fun a=> [Z3R a,Zdv a < N]) Z5n)∧CT 107 (fs Z6x (fun a=> [Z4K a,Zaq a < N]) Z4D)∧CT 108 (fs Z6w (fun a=> [Z4J a,Zap a < N]) Z4C):=by
  intro N
  induction N with
  | zero=> exact ⟨Ja h82,Ja h113,Ja h114⟩
  | succ N ih=>
   have kn:=Z06 (l:=Z9C N) ⟨ih.1,ih.2.1,ih.2.2,Zg2,Znq,c91,Zwt,Zwu,c66,ZqO,trivial⟩
   exact ⟨ZB (Γ:=Z1 (Z9C N)) Zo rfl kn ZvR Try.func70 rfl rfl (fun a=> by show 2≤_;decide) (fun ⟨e,t,_⟩ h=> b70 N e t () h.1 h.2.1),
    ZB (Γ:=Z1 (Z9C N)) Zo rfl kn ZkP Try.func107 rfl rfl (fun a=> by show 2≤_;decide) (fun ⟨e,t,_⟩ h=> ZwS N e t () h.1 h.2.1),
    ZB (Γ:=Z1 (Z9C N)) Zo rfl kn ZkO Try.func108 rfl rfl (fun a=> by show 2≤_;decide) (fun ⟨e,t,_⟩ h=> ZwR N e t () h.1 h.2.1)⟩
 exact ⟨Jb h82 fun N=> (key N).1,Jb h113 fun N=> (key N).2.1,Jb h114 fun N=> (key N).2.2⟩
end
end Go.AM.Ytpjenobkibfpcaa
namespace Go.AM.Ytpjenobkibfpcaa
open Go.AM Go.Proofs
noncomputable section
def Zr8:ArgL (Edit × Tree × Unit):=(.cons (aEl .edit) (.cons (aEl .tree) .nil))
def Z5t(a:Edit × Tree × Unit):Prop:=(Zc a.1≤20000000000∧ZS a.1∧∃ d,Z0 a.1 d=true)∧Zq a.2.1+ctE a.1≤200000000000∧rng a.2.1
def Zkg(a:Edit × Tree × Unit):V U:= .tup [(true,(enc .tree (Z5z ((doE false a.1 a.2.1).map Z7)))),(false,[.bool ((doE false a.1 a.2.1).isSome)])]
def Z1E:Fs U:=fs Zr8 (fun a=> [Z5t a]) Zkg
def Zqm:List (FuncId × Fs U):=[(71,Z0o),(70,Z9c)]
def Zw0:Zh U:=lvl [([2,3,4],[2,3,4]),([4,6,7],[4,6]),([4,6,15],[4,6]),([4,5],[4]),([4,5],[4])]
abbrev A26(p:List Nat):=AW (Z1 Zqm) Try.f26 Zw0 p
theorem ZA1(e:Edit)(t:Tree)(Q:QT)(h:∀ y_1,y_1=e→∀ y_2,y_2=t→∀ y_3,y_3=(ZaT y_1 y_2)→let z0:= !((doE false y_1 y_2).isSome);((Z3R (y_1,y_2,()))∧((z0=true→(Q .ret (L2 [(4,.ptr (.loc 4) 0),(5,.c (.bool false))] [(.loc 4,[ci 0,.nils,.nils])])))∧(z0=false→(Z0W (y_3,()))∧(Q .ret (L2 [(4,.ptr (.loc 4) 0),(5,.c (.bool true))] [(.loc 4,(enc .tree (Z7 y_3)))])))))):
  A26 [] (L2 [(0,.agg (enc .edit e)),(1,.agg (enc .tree t))] []) Q:=
 Eq.mpr (by kernel_rfl) (h _ (Zf _) _ (Zi _) _ (Zi _))
def Zxz(e:Edit)(t:Tree):Prop:=AW (Z1 Zqm) Try.f26 Zw0 [] (Zn (Zr8.can (e,t,())) []) (EQ Try.f26 (Zkg (e,t,())) [])
theorem ZvG(c71:CT 71 Z0o)(c70:CT 70 Z9c)(hb:∀ (e:Edit) (t:Tree) (_:Unit),Z5t (e,t,())→Zxz e t):CT 26 Z1E:=
 Z6 (l:=[(71,Z0o),(70,Z9c)]) Zo rfl (⟨c71,c70,trivial⟩) Zw0 Try.func26 rfl rfl 2 (fun _=> rfl) (by decide) (fun ⟨e,t,_⟩=> hb e t ())
end
end Go.AM.Ytpjenobkibfpcaa
namespace Go.AM.Ytpjenobkibfpcaa
open Go.AM Go.Proofs
theorem ZqO:Contract Try.prog cfg 109 Z3M:=by
 refine ZpF ?_
 intro l _ hp
 simp only [Z86] at hp
 refine Zv5 _ _ ⟨fun h=> ?_,fun _=> ⟨by simp only [List.length_nil];omega,?_⟩⟩
 ·subst h
  simp only [Z83]
  (repeat' (first | exact trivial | exact rfl | apply And.intro))
 ·simp only [Z83]
  (repeat' (first | exact trivial | exact rfl | apply And.intro))
theorem Zwu:Contract Try.prog cfg 150 Z62:=by
 refine Zsu ?_
 intro l _ hp
 simp only [Zcq] at hp
 refine Zy8 _ _ ⟨fun h=> ?_,fun _=> ⟨by simp only [List.length_nil];omega,?_⟩⟩
 ·subst h
  simp only [Zb9]
  (repeat' (first | exact trivial | exact rfl | apply And.intro))
 ·simp only [Zb9]
  (repeat' (first | exact trivial | exact rfl | apply And.intro))
theorem ZdR{α:Type}(z:α){l:List α}{i:Nat}(h:i < l.length)(x:α):ZV z l i x=l.set i x:=by
 simp only [ZV];rw [show i+1 - l.length=0 by omega];simp
theorem Za1{α:Type}(z:α){l:List α}{i:Nat}(h:l.length≤i)(x:α):ZV z (l++[z]) i x=ZV z l i x:=by
 simp only [ZV,List.length_append,List.length_singleton,List.append_assoc]
 rw [show i+1 - l.length=(i+1 - (l.length+1))+1 by omega,List.replicate_succ]
 try rfl
theorem ZpC(t:Tree):t.words.length+Zg t.kids+1=Zq t:=by obtain ⟨k,w,ks⟩:=t;simp only [Zq,Tree.words_mk,Tree.kids_mk];omega
theorem ZoA{t:Tree}(h:rng t):isI t.kind∧(∀ x∈t.words,isW x)∧Yb t.kids:=by obtain ⟨k,w,ks⟩:=t;exact h
theorem Zk4{ks:List Tree}(h:Yb ks)(i:Nat):rng (ks.getD i Tree.nil):=by
 by_cases hi:i < ks.length
 ·exact YX h (Zm hi _)
 ·rw [List.getD_eq_getElem?_getD,List.getElem?_eq_none (by omega)]
  refine ⟨by decide,by simp [Tree.nil],trivial⟩
theorem Zhv(ks:List Tree)(i:Nat):Zq (ks.getD i Tree.nil)≤Zg ks+1:=by
 by_cases hi:i < ks.length
 ·have:=YW (Zm hi Tree.nil);omega
 ·rw [List.getD_eq_getElem?_getD,List.getElem?_eq_none (by omega)]
  simp [Tree.nil,Zq,Zg]
theorem Zn7(t:Tree){i:Int}(h:0≤i):Z00 t i=t.kids.getD i.toNat Tree.nil:=by unfold Z00;rw [if_neg (by omega)]
theorem Zig(t:Tree){i:Int}(h:0≤i):JO t i=t.words.getD i.toNat 0:=by unfold JO;rw [if_neg (by omega)]
theorem Zro{l:List Int}(h:∀ x∈l,isW x)(i:Nat):isW (l.getD i 0):=by
 by_cases hi:i < l.length
 ·exact h _ (Zm hi _)
 ·rw [List.getD_eq_getElem?_getD,List.getElem?_eq_none (by omega)];show 0≤(0:Int)∧(0:Int) < _;omega
theorem b70:Zzo:=by
 intro N e t _ hp hN
 simp only [Z3R,Zdv] at hp hN
 obtain ⟨⟨p1,p2,d,p3⟩,p4,p5⟩:=hp
 have h1:=Yr e
 have h2:=Z4A p2
 have hd:=Z0R false e t
 rw [Yp] at hd
 refine ZzJ _ _ _ _ ?_
 rintro y1 hy1 y2 hy2 y3 hy3
 subst hy1 hy2 hy3
 (simp only [vcT,vcS])
 refine ⟨fun hk=> ?_,fun hk=> ⟨fun hk1=> ⟨by simp only [Z1G];omega,?_⟩,fun hk1=> ⟨fun hk2=> ⟨by simp only [Z4K];exact ⟨hk2,⟨p1,p2,d,p3⟩,p4,p5⟩,by simp only [Zaq];omega,?_⟩,fun hk2=> ⟨fun hk3=> ⟨by simp only [Z4J];exact ⟨hk3,⟨p1,p2,d,p3⟩,p4,p5⟩,by simp only [Zap];omega,?_⟩,fun hk3=> ?_⟩⟩⟩⟩
 ·rw [if_pos hk] at hd
  simp only [Z5n,ZaT,if_pos hk,hd]
  (repeat' (first | exact trivial | exact rfl | apply And.intro))
 ·rw [if_neg hk,if_pos hk1] at hd
  simp only [Z5n,ZaT,if_neg hk,if_pos hk1,hd]
  cases Jo (Z7 y1.old) (Z7 y2) <;> (repeat' (first | exact trivial | exact rfl | apply And.intro))
 ·rw [if_neg hk,if_neg hk1,if_pos hk2] at hd
  simp only [Z5n,ZaT,if_neg hk,if_neg hk1,if_pos hk2,hd]
  (repeat' (first | exact trivial | exact rfl | apply And.intro))
 ·rw [if_neg hk,if_neg hk1,if_neg hk2,if_pos hk3] at hd
  simp only [Z5n,ZaT,if_neg hk,if_neg hk1,if_neg hk2,if_pos hk3,hd]
  have e2:(if y2.kind=y1.list then (Z19 (ZE false y1.ops y2.kids [])).map fun b=> Tree.mk y1.list [] b else none).isSome=(Z19 (Z6B false y1 y2)).isSome:=by
   unfold Z6B
   split
   ·cases Z19 (ZE false y1.ops y2.kids []) <;> rfl
   ·try rfl
  rw [e2]
  (repeat' (first | exact trivial | exact rfl | apply And.intro))
 ·rw [if_neg hk,if_neg hk1,if_neg hk2,if_neg hk3] at hd
  simp only [Z5n,ZaT,if_neg hk,if_neg hk1,if_neg hk2,if_neg hk3,hd]
  (repeat' (first | exact trivial | exact rfl | apply And.intro))
theorem ZwS:Zv1:=by
 intro N e t _ hp hN
 simp only [Z4K,Zaq] at hp hN
 obtain ⟨k2,⟨p1,p2,d,p3⟩,p4,p5⟩:=hp
 have h1:=Yr e
 have h2:=Yi e.kids
 have h3:=ZpC t
 have h4:=ZD t.kids
 have r2:=Z4A p2
 have rt:=ZoA p5
 have ri:=Zp p3
 refine Zyw _ _ _ _ ?_
 (simp only [vcT,vcS])
 have no:ZaR false e t=none→JB cfg Try.f107.ntmps Try.f107.results.toList (Z4D (e,t,())) [] .ret (⟨[(4,.ptr (.loc 4) 0),(5,.c (.bool false))],[((.loc 4),[.int .i64 0,.nils,.nils])],[]⟩:LSt U):=by
  intro hs
  simp only [Z4D,hs]
  (repeat' (first | exact trivial | exact rfl | apply And.intro))
 refine ⟨fun hk=> no (by unfold ZaR;rw [if_neg hk]),fun hk=> ?_⟩
 have hk:t.kind=1:=by simpa using hk
 refine ⟨by simp only [Z86];omega,by simp only [Zcq];omega,?_⟩
 refine Ze (ι:=Int × List Int) (fun s=> Z6t e t s.1 s.2) (fun s=> 0≤s.1∧s.1≤e.words.length∧wsD t.words (e.words.drop s.1.toNat) s.2=wsD t.words e.words t.words∧s.2.length≤t.words.length+65536) (fun s=> ((e.words.length:Int) - s.1).toNat) (0,t.words) rfl ⟨by simp,by simp,by simp,by simp⟩ ?_
 rintro ⟨i,out⟩ ⟨f1,f2,f3,f4⟩
 dsimp only at f1 f2 f3 f4
 refine Zob _ _ _ _ _ _ _ ?_
 rintro y1 hy1 y2 hy2
 subst hy1
 (simp only [vcT,vcS])
 refine ⟨fun hi=> ?_,fun hi=> ?_⟩
 ·have hmem:=Zm (l:=e.words) (i:=i.toNat) (by omega) (WEdit.mk 0 0 0 0)
  rw [YU f1 hi (WEdit.mk 0 0 0 0),←hy2] at f3
  rw [←hy2] at hmem
  have hw:=Y8 ri.words y2 hmem
  obtain ⟨g1,g2,g3,g4⟩:=r2.2.2.2.1 y2 hmem
  have hat:JO y1 y2.at_=y1.words.getD y2.at_.toNat 0:=Zig y1 (by omega)
  have hwi:=Zro rt.2.1 y2.at_.toNat
  rw [wsD] at f3
  rw [hat]
  unfold isW at g3 g4 hwi
  refine ⟨⟨f1,hi⟩,by simp only [Z9n],by simp only [Z2C];omega,fun hne=> no ?_,fun heq=> ?_⟩
  ·rw [if_neg hne] at f3
   unfold ZaR
   rw [if_pos hk,←f3]
   try rfl
  ·have heq:mix 0 (y1.words.getD y2.at_.toNat 0) y2.mask=y2.old:=by simpa using heq
   rw [if_pos heq] at f3
   refine Ze (ι:=List Int) (fun s=> Z6s e y1 i s) (fun s=> (∀ v,ZV 0 s y2.at_.toNat v=ZV 0 out y2.at_.toNat v)∧s.length≤y1.words.length+65536) (fun s=> (y2.at_+1 - s.length).toNat) out rfl ⟨fun v=> rfl,f4⟩ ?_
   rintro s ⟨q1,q2⟩
   refine Zoa _ _ _ _ _ _ _ _ ?_
   (simp only [Tree.eta,Edit.eta,Tree.kind_mk,Tree.words_mk,Tree.kids_mk])
   rw [←hy2,hat]
   (simp only [vcT,vcS])
   refine ⟨fun hl=> ⟨by simp;omega,s++[0],rfl,⟨fun v=> ?_,by simp;omega⟩,by simp;omega⟩,fun hl=> ?_⟩
   ·rw [Za1 0 (by omega),q1]
   ·have hl:y2.at_ < s.length:=by omega
    refine ⟨by simp only [Z2C];omega,by omega,by omega,by unfold InR;omega,(i+1,s.set y2.at_.toNat (mix (y1.words.getD y2.at_.toNat 0) y2.new y2.mask)),rfl,⟨by dsimp only;omega,by dsimp only;omega,?_,by simp only [List.length_set];omega⟩,by dsimp only;omega⟩
    dsimp only
    rw [←f3,←ZdR 0 (by omega),q1]
 ·rw [List.drop_of_length_le (by omega),wsD] at f3
  refine Ze (ι:=Int × List Tree) (fun s=> Z6r e y1 out s.1 s.2) (fun s=> 0≤s.1∧s.1≤e.kids.length∧Jf false y1.kids (e.kids.drop s.1.toNat) s.2=Jf false y1.kids e.kids y1.kids∧s.2.length≤y1.kids.length+65536) (fun s=> ((e.kids.length:Int) - s.1).toNat) (0,y1.kids) rfl ⟨by simp,by simp,by simp,by simp⟩ ?_
  rintro ⟨j,ks⟩ ⟨e1,e2,e3,e4⟩
  dsimp only at e1 e2 e3 e4
  refine Zo9 _ _ _ _ _ _ _ _ ?_
  rintro y1 hy1 y2 hy2 y3 hy3 y4 hy4
  subst hy1
  (simp only [vcT,vcS])
  refine ⟨fun hj=> ?_,fun hj=> ?_⟩
  ·have hmem:=Zm (l:=e.kids) (i:=j.toNat) (by omega) (KidOf.mk 0 Edit.nil)
   rw [YU e1 hj (KidOf.mk 0 Edit.nil),←hy2] at e3
   rw [←hy2] at hmem
   have hk2:=ZG ri.kids y2 hmem
   have hm:=JX hmem
   have hct:=Zi0 hmem
   have hca:=Z3E e
   have hr:=(YB r2.2.2.2.2.2.1 hmem).2
   have hat:Z00 y1 y2.at_=y1.kids.getD y2.at_.toNat Tree.nil:=Zn7 y1 (by omega)
   rw [hat] at hy4
   have hm4:=Zhv y1.kids y2.at_.toNat
   have hr4:=Zk4 rt.2.2 y2.at_.toNat
   rw [Jf,Z4a,←hy4,←hy3] at e3
   rw [←hy4] at hm4 hr4
   rw [←hy3] at hm hr hk2 hct
   refine ⟨⟨e1,hj⟩,by simp only [Ze9],by simp only [Z3R];exact ⟨⟨by omega,hr,_,hk2.2⟩,by omega,hr4⟩,by simp only [Zdv];omega,fun hne=> no ?_,fun heq=> ?_⟩
   ·have hne:doE false y3 y4=none:=by simpa using hne
    rw [hne] at e3
    unfold ZaR
    rw [if_pos hk,←f3,←e3]
    try rfl
   ·obtain ⟨u,hu⟩:=Option.isSome_iff_exists.1 heq
    rw [hu,Option.bind_some] at e3
    refine Ze (ι:=List Tree) (fun s=> Z6q e y1 out j s) (fun s=> (∀ v,ZV Tree.nil s y2.at_.toNat v=ZV Tree.nil ks y2.at_.toNat v)∧s.length≤y1.kids.length+65536) (fun s=> (y2.at_+1 - s.length).toNat) ks rfl ⟨fun v=> rfl,e4⟩ ?_
    rintro s ⟨q1,q2⟩
    refine Zo8 _ _ _ _ _ _ _ _ _ ?_
    rintro z1 hz1 z2 hz2 z3 hz3 z4 hz4 z5 hz5
    rw [←hy2] at hz2
    subst hz1 hz2
    rw [←hy3] at hz3
    subst hz3
    rw [hat,←hy4] at hz4
    subst hz4
    rw [Z9u hu] at hz5
    subst hz5
    (simp only [vcT,vcS])
    refine ⟨fun hl=> ⟨by simp;omega,s++[Tree.nil],rfl,⟨fun v=> ?_,by simp;omega⟩,by simp;omega⟩,fun hl=> ?_⟩
    ·rw [Za1 Tree.nil (by omega),q1]
    ·have hl:z2.at_ < s.length:=by omega
     refine ⟨by omega,by omega,by unfold InR;omega,(j+1,s.set z2.at_.toNat z5),rfl,⟨by dsimp only;omega,by dsimp only;omega,?_,by simp only [List.length_set];omega⟩,by dsimp only;omega⟩
     dsimp only
     rw [←e3,←ZdR Tree.nil (by omega),q1]
  ·rw [List.drop_of_length_le (by omega),Jf] at e3
   have hs:ZaR false e y1=some (.mk 1 out ks):=by
    unfold ZaR
    rw [if_pos hk,←f3,←e3]
    try rfl
   simp only [Z4D,hs]
   (repeat' (first | exact trivial | exact rfl | apply And.intro))
theorem Zni(r:Bool)(o:Op)(s:List Op)(rest out:List Tree):ZE r (o ::s) rest out=(Z1z r o rest out).bind fun x=> ZE r s x.2 x.1:=by rw [ZE]
theorem Z25{ks:List Tree}(h:Yb ks)(n:Nat):Yb (ks.drop n):=by
 induction n generalizing ks with
 | zero=> exact h
 | succ n ih=> cases ks with
  | nil=> exact h
  | cons a r=> exact ih h.2
theorem ZwR:Zv0:=by
 intro N e t _ hp hN
 simp only [Z4J,Zap] at hp hN
 obtain ⟨k3,⟨p1,p2,d,p3⟩,p4,p5⟩:=hp
 have h1:=Yr e
 have h2:=massOs_len e.ops
 have h3:=ZpC t
 have h4:=ZD t.kids
 have r2:=Z4A p2
 have rt:=ZoA p5
 have ri:=Zp p3
 refine Zyv _ _ _ _ ?_
 (simp only [vcT,vcS])
 have no:Z6B false e t=none→JB cfg Try.f108.ntmps Try.f108.results.toList (Z4C (e,t,())) [] .ret (⟨[(4,.ptr (.loc 4) 0),(5,.c (.bool false))],[((.loc 4),[.int .i64 0,.nils,.nils])],[]⟩:LSt U):=by
  intro hs
  simp only [Z4C,hs]
  (repeat' (first | exact trivial | exact rfl | apply And.intro))
 refine ⟨fun hk=> no (by unfold Z6B;rw [if_neg hk]),fun hk=> ?_⟩
 have hk:t.kind=e.list:=by simpa using hk
 have hl0:Z6B false e t=ZE false e.ops t.kids []:=by unfold Z6B;rw [if_pos hk]
 refine Ze (ι:=Int × List Tree × List Tree) (fun s=> Z16 e t s.1 s.2.2 s.2.1)
  (fun s=> 0≤s.1∧s.1≤e.ops.length∧ZE false (e.ops.drop s.1.toNat) s.2.2 s.2.1=Z6B false e t∧s.2.1.length+s.2.2.length+Zs (e.ops.drop s.1.toNat)≤t.kids.length+Zs e.ops∧Zg s.2.2≤Zg t.kids∧Yb s.2.2)
  (fun s=> ((e.ops.length:Int) - s.1).toNat) (0,[],t.kids) rfl ⟨by simp,by simp,by simp [hl0],by simp,by simp,rt.2.2⟩ ?_
 rintro ⟨i,out,rest⟩ ⟨f1,f2,f3,f4,f5,f6⟩
 dsimp only at f1 f2 f3 f4 f5 f6
 refine Zo6 _ _ _ _ _ _ _ _ ?_
 rintro y1 hy1
 (simp only [vcT,vcS])
 refine ⟨fun hi=> ?_,fun hi=> ?_⟩
 ·have hmem:=Zm (l:=e.ops) (i:=i.toNat) (by omega) Op.nil
  rw [YU f1 hi Op.nil,←hy1] at f3 f4
  rw [←hy1] at hmem
  have hr:=Go.AM.rightOs_mem ri.ops y1 hmem
  have hm:=Yq hmem
  have hct:=Zd8 hmem
  have hca:=Z3E e
  have hme:=ZW y1
  have hro:=Z04 (JE r2.2.2.2.2.2.2 hmem)
  have hml:=ZD y1.l
  simp only [Zs] at f4
  rw [Zni,YD] at f3
  have go:∀ (x:List Tree) (m:List Tree) (v:V U) N0 Q',ZE false (e.ops.drop (i+1).toNat) x m=Z6B false e t→m.length+x.length+Zs (e.ops.drop (i+1).toNat)≤t.kids.length+Zs e.ops→Zg x≤Zg t.kids→Yb x→
    (∀ s2,s2=Z16 e t (i+1) x m→N0 s2)→Z9S N [1,1,1,1,0,1,0,0,1,1,1] (Z2o e t i x m v) (AExit.then N0 (AExit.inBlock 0 (Zgq N [1,1,1,1,1] Q'))):=by
   intro x m v N0 Q' a1 a2 a3 a4 a5
   exact Zo7 _ _ _ _ _ _ _ _ _ ⟨by unfold InR;omega,a5 _ rfl⟩
  have fin:∀ (x m:List Tree),ZE false (e.ops.drop (i+1).toNat) x m=Z6B false e t→m.length+x.length+Zs (e.ops.drop (i+1).toNat)≤t.kids.length+Zs e.ops→Zg x≤Zg t.kids→Yb x→∀ s2,s2=Z16 e t (i+1) x m→
    ∃ j:Int × List Tree × List Tree,s2=Z16 e t j.1 j.2.2 j.2.1∧(0≤j.1∧j.1≤e.ops.length∧ZE false (e.ops.drop j.1.toNat) j.2.2 j.2.1=Z6B false e t∧j.2.1.length+j.2.2.length+Zs (e.ops.drop j.1.toNat)≤t.kids.length+Zs e.ops∧Zg j.2.2≤Zg t.kids∧Yb j.2.2)∧((e.ops.length:Int) - j.1).toNat < ((e.ops.length:Int) - i).toNat:=by
   rintro x m a1 a2 a3 a4 _ rfl
   exact ⟨(i+1,m,x),rfl,⟨by dsimp only;omega,by dsimp only;omega,a1,a2,a3,a4⟩,by dsimp only;omega⟩
  have r1:=ZC hr
  have ht:∀ n:Nat,(rest.take n).length≤rest.length∧(rest.take n).length+(rest.drop n).length=rest.length:=by
   intro n
   simp only [List.length_take,List.length_drop];omega
  refine ⟨⟨f1,hi⟩,fun hk2=> ⟨by omega,?_⟩,fun hk2=> ⟨fun hk1=> ?_,fun hk1=> ⟨fun hk3=> ?_,fun hk3=> ?_⟩⟩⟩
  ·rw [if_neg (by omega),if_neg (by omega),if_pos hk2,Option.bind_some] at f3
   exact go _ _ _ _ _ f3 (by simp only [List.length_append];omega) f5 f6 (fin _ _ f3 (by simp only [List.length_append];omega) f5 f6)
  ·refine Zbq _ _ _ _ _ _ _ _ _ _ ?_
   rintro z1 hz1 z2 hz2 z3 hz3 z4 hz4 z5 hz5 z6 hz6
   rw [←hy1] at hz1
   subst hz1
   rw [if_neg (by omega),if_pos hk1] at f3
   (simp only [vcT,vcS])
   rw [Int.toNat_natCast] at hz5
   rw [Int.toNat_natCast]
   refine ⟨fun hs=> no ?_,fun hs=> ⟨by omega,by omega,fun h=> by omega,fun _=> ⟨fun _=> ⟨?_,fun hq=> no ?_,fun hq=> ?_⟩,fun h=> absurd hk1 h⟩⟩⟩
   ·have:JA z1.l rest=false:=by unfold JA;rw [decide_eq_false (by omega)];try rfl
    rw [this,if_neg (by simp)] at f3
    exact f3.symm
   ·have:=ZcP z1.l.length rest
    simp only [Zcp];omega
   ·have:JA z1.l rest=false:=by unfold JA;rw [←hz5,hq];simp
    rw [this,if_neg (by simp)] at f3
    exact f3.symm
   ·have:JA z1.l rest=true:=by unfold JA;rw [←hz5,hq,decide_eq_true (by omega)];try rfl
    rw [this,if_pos rfl,Option.bind_some] at f3
    have hd:=Z2M z1.l.length rest
    have ht1:=ht z1.l.length
    exact go _ _ _ _ _ f3 (by omega) (by omega) (Z25 f6 _) (fin _ _ f3 (by omega) (by omega) (Z25 f6 _))
  ·refine Zbq _ _ _ _ _ _ _ _ _ _ ?_
   rintro z1 hz1 z2 hz2 z3 hz3 z4 hz4 z5 hz5 z6 hz6
   rw [←hy1] at hz1
   subst hz1
   rw [if_neg (by omega),if_neg hk1,if_neg hk2] at f3
   (simp only [vcT,vcS])
   rw [show Int.toNat 1=1 from rfl]
   refine ⟨fun hs=> no ?_,fun hs=> ⟨by omega,by omega,fun h=> by omega,fun _=> ⟨fun h=> absurd h hk1,fun _=> ?_⟩⟩⟩
   ·rw [if_pos (by omega)] at f3
    exact f3.symm
   ·have hz:z3=rest.getD 0 Tree.nil:=by
     rw [hz3,hz2]
     cases rest with
     | nil=> rfl
     | cons a r=> rfl
    rw [if_neg (by omega),←hz,←hz4] at f3
    have hm3:=Zhv rest 0
    have hr3:=Zk4 f6 0
    rw [←hz] at hm3 hr3
    have hre:=YE hr hk3
    rw [←hz4] at hre hme hro hct
    refine ⟨?_,by simp only [Z3R];exact ⟨⟨by omega,hro.2.2.2,_,hre⟩,by omega,hr3⟩,by simp only [Zdv];omega,fun hne=> no ?_,fun heq=> ?_⟩
    ·simp only [List.length_take];omega
    ·have hne:doE false z4 z3=none:=by simpa using hne
     rw [hne] at f3
     exact f3.symm
    ·obtain ⟨u,hu⟩:=Option.isSome_iff_exists.1 heq
     rw [Z9u hu] at hz6
     subst hz6
     rw [hu,Option.map_some,Option.bind_some] at f3
     have hd:=Z2M 1 rest
     have ht1:=ht 1
     have ht2:(rest.take 1).length=1:=by simp only [List.length_take];omega
     refine ⟨by simp only [List.length_singleton];omega,?_⟩
     exact go _ _ _ _ _ f3 (by simp only [List.length_append,List.length_singleton];omega) (by omega) (Z25 f6 _) (fin _ _ f3 (by simp only [List.length_append,List.length_singleton];omega) (by omega) (Z25 f6 _))
  ·have hk0:y1.kind=0:=by cases r1 <;> first | rfl | (exfalso;simp at hk1 hk2 hk3)
   refine Zbq _ _ _ _ _ _ _ _ _ _ ?_
   rintro z1 hz1 z2 hz2 z3 hz3 z4 hz4 z5 hz5 z6 hz6
   rw [←hy1] at hz1
   subst hz1
   rw [if_pos hk0] at f3
   have hn:1≤z1.n∧z1.n≤1048576:=by cases r1 <;> first | (constructor <;> assumption) | (exfalso;simp at hk1 hk2 hk3 hk0)
   (simp only [vcT,vcS])
   refine ⟨fun hs=> no ?_,fun hs=> ⟨by omega,by omega,fun _=> ⟨?_,?_⟩,fun h=> absurd hk0 h⟩⟩
   ·rw [if_neg (by omega)] at f3
    exact f3.symm
   ·have:=(ht z1.n.toNat).1
    omega
   ·rw [if_pos (by omega),Option.bind_some] at f3
    have hd:=Z2M z1.n.toNat rest
    have ht1:=ht z1.n.toNat
    exact go _ _ _ _ _ f3 (by simp only [List.length_append];omega) (by omega) (Z25 f6 _) (fin _ _ f3 (by simp only [List.length_append];omega) (by omega) (Z25 f6 _))
 ·rw [List.drop_of_length_le (by omega),ZE] at f3
  simp only [Z4C,←f3,Zq4,Z19,Option.bind_some,hk]
  by_cases hr:rest.length=0
  ·rw [if_pos hr,hr]
   (repeat' (first | exact trivial | exact rfl | apply And.intro))
  ·rw [if_neg hr,show ((rest.length:Int)==0)=false by rw [beq_eq_false_iff_ne];omega]
   (repeat' (first | exact trivial | exact rfl | apply And.intro))
theorem ZAb:Contract Try.prog cfg 70 Z9c∧Contract Try.prog cfg 107 ZjZ∧Contract Try.prog cfg 108 ZjY:=Zsb Zg2 Znq c91 Zwt Zwu c66 ZqO b70 ZwS ZwR
theorem c70:Contract Try.prog cfg 70 Z9c:=ZAb.1
end Go.AM.Ytpjenobkibfpcaa
namespace Go.AM.Ytpjenobkibfpcaa
open Go.AM Go.Proofs
theorem ZqF{r:Bool}{e:Edit}{t u:Tree}(hr:∃ d,Z0 e d=true)(ht:Zq t+ctE e≤200000000000)(h:doE r e t=some u):Zq u≤1000000000000:=by
 obtain ⟨d,hr⟩:=hr
 have:=Z6k r e d t u hr h
 omega
theorem c26:Contract Try.prog cfg 26 Z1E:=by
 refine ZvG c71 c70 ?_
 intro e t _ hp
 simp only [Z5t] at hp
 refine ZA1 _ _ _ ?_
 rintro y1 hy1 y2 hy2 y3 hy3
 subst hy1 hy2
 (simp only [vcT,vcS])
 refine ⟨by simp only [Z3R];exact hp,fun hn=> ?_,fun hs=> ?_⟩
 ·have hn:doE false y1 y2=none:=by simpa using hn
  simp only [Zkg,hn]
  (repeat' (first | exact trivial | exact rfl | apply And.intro))
 ·obtain ⟨u,hu⟩:=Option.isSome_iff_exists.1 hs
  rw [Z9u hu] at hy3
  subst hy3
  have:=ZqF hp.1.2.2 hp.2.1 hu
  refine ⟨by simp only [Z0W];exact this,?_⟩
  simp only [Zkg,hu]
  (repeat' (first | exact trivial | exact rfl | apply And.intro))
end Go.AM.Ytpjenobkibfpcaa
namespace Go.AM.Ytpjenobkibfpcaa
open Go.AM Go.Proofs
noncomputable section
abbrev Yt(p:Prop):Prop:=p→p
def Zbj:ArgM ((List Op × List Tree × List Tree × Unit) × Unit):=(.obj 0 (.cons (cWr .op 0 0) (.cons (Zi2 .tree 0 1) (.cons (Zi2 .tree 0 2) .nil))) .nil)
def Z1F(a:(List Op × List Tree × List Tree × Unit) × Unit):Prop:=(a.1.1).length≤200000000000∧(a.1.2.1).length≤200000000000∧(a.1.2.2.1).length≤200000000000
def Z9j(a:(List Op × List Tree × List Tree × Unit) × Unit):V U:= .tup []
def Z6a(a:(List Op × List Tree × List Tree × Unit) × Unit):List (List (C U)):=[[.mref (.x 0 0),sU .tree ((Z3 (Wst.mk a.1.1 a.1.2.1 a.1.2.2.1)).gone) (.own (.x 0 1)),sU .tree ((Z3 (Wst.mk a.1.1 a.1.2.1 a.1.2.2.1)).brought) (.own (.x 0 2))]]
def Z6b(a:(List Op × List Tree × List Tree × Unit) × Unit):List (Tok × LC U):=[(.x 0 0,LC.mk (U:=U) .op ((Z3 (Wst.mk a.1.1 a.1.2.1 a.1.2.2.1)).out) 0)]
def Z1Q:Fs U:=Zjn Zbj (fun a=> [Z1F a]) Z9j Z6a Z6b
def Zbl:ArgM ((List Op × List Tree × List Tree × Unit) × Int × Unit):=(.obj 0 (.cons (cWr .op 0 0) (.cons (Zi2 .tree 0 1) (.cons (Zi2 .tree 0 2) .nil))) (.cons (J3 .i64) .nil))
def Z4I(a:(List Op × List Tree × List Tree × Unit) × Int × Unit):Prop:=(a.1.1).length≤200000000000∧(a.1.2.1).length≤200000000000∧(a.1.2.2.1).length≤200000000000∧(∀ o∈a.1.1,0≤o.n∧o.n≤100000000000000000)∧0≤a.2.1∧a.2.1≤1048576
def ZiF(a:(List Op × List Tree × List Tree × Unit) × Int × Unit):V U:= .tup []
def Zfd(a:(List Op × List Tree × List Tree × Unit) × Int × Unit):List (List (C U)):=[[.mref (.x 0 0),sU .tree ((ZX (Wst.mk a.1.1 a.1.2.1 a.1.2.2.1) a.2.1).gone) (.own (.x 0 1)),sU .tree ((ZX (Wst.mk a.1.1 a.1.2.1 a.1.2.2.1) a.2.1).brought) (.own (.x 0 2))]]
def Zfe(a:(List Op × List Tree × List Tree × Unit) × Int × Unit):List (Tok × LC U):=[(.x 0 0,LC.mk (U:=U) .op ((ZX (Wst.mk a.1.1 a.1.2.1 a.1.2.2.1) a.2.1).out) 0)]
def Z63:Fs U:=Zjn Zbl (fun a=> [Z4I a]) ZiF Zfd Zfe
def Zbk:ArgM ((List Op × List Tree × List Tree × Unit) × List Tree × Unit):=(.objAt 0 1 (.cons (cWr .op 0 0) (.cons (Zi2 .tree 0 1) (.cons (Zi2 .tree 0 2) .nil))) (.cons (aSl .tree) .nil))
def Z9q(a:(List Op × List Tree × List Tree × Unit) × List Tree × Unit):Prop:=(a.1.1).length≤200000000000∧(a.1.2.1).length≤200000000000∧(a.1.2.2.1).length≤200000000000∧Zg a.2.1≤20000000000
def ZoT(a:(List Op × List Tree × List Tree × Unit) × List Tree × Unit):V U:= .tup []
def Zkb(a:(List Op × List Tree × List Tree × Unit) × List Tree × Unit):List (List (C U)):=[[.mref (.x 0 0),sU .tree ((Wst.mk a.1.1 (a.1.2.1++Z5 a.2.1) a.1.2.2.1).gone) (.own (.x 0 1)),sU .tree ((Wst.mk a.1.1 (a.1.2.1++Z5 a.2.1) a.1.2.2.1).brought) (.own (.x 0 2))]]
def Zkc(a:(List Op × List Tree × List Tree × Unit) × List Tree × Unit):List (Tok × LC U):=[(.x 0 0,LC.mk (U:=U) .op ((Wst.mk a.1.1 (a.1.2.1++Z5 a.2.1) a.1.2.2.1).out) 0)]
def ZeY:Fs U:=Zjn Zbk (fun a=> [Z9q a]) ZoT Zkb Zkc
def Z95:ArgM ((List Op × List Tree × List Tree × Unit) × List Tree × Unit):=(.objAt 0 2 (.cons (cWr .op 0 0) (.cons (Zi2 .tree 0 1) (.cons (Zi2 .tree 0 2) .nil))) (.cons (aSl .tree) .nil))
def Z6e(a:(List Op × List Tree × List Tree × Unit) × List Tree × Unit):Prop:=(a.1.1).length≤200000000000∧(a.1.2.1).length≤200000000000∧(a.1.2.2.1).length≤200000000000∧Zg a.2.1≤20000000000
def Zkl(a:(List Op × List Tree × List Tree × Unit) × List Tree × Unit):V U:= .tup []
def ZgY(a:(List Op × List Tree × List Tree × Unit) × List Tree × Unit):List (List (C U)):=[[.mref (.x 0 0),sU .tree ((Wst.mk a.1.1 a.1.2.1 (a.1.2.2.1++Z5 a.2.1)).gone) (.own (.x 0 1)),sU .tree ((Wst.mk a.1.1 a.1.2.1 (a.1.2.2.1++Z5 a.2.1)).brought) (.own (.x 0 2))]]
def ZgZ(a:(List Op × List Tree × List Tree × Unit) × List Tree × Unit):List (Tok × LC U):=[(.x 0 0,LC.mk (U:=U) .op ((Wst.mk a.1.1 a.1.2.1 (a.1.2.2.1++Z5 a.2.1)).out) 0)]
def ZbU:Fs U:=Zjn Z95 (fun a=> [Z6e a]) Zkl ZgY ZgZ
def Zi6:ArgL (Int × Edit × Unit):=(.cons (J3 .i64) (.cons (aEl .edit) .nil))
def Z6d(a:Int × Edit × Unit):Prop:=a.2.1.words.length≤20000000000∧a.2.1.kids.length≤20000000000
def Zkk(a:Int × Edit × Unit):V U:= .c (.bool (Z6O a.1 a.2.1))
def Z3L:Fs U:=fs Zi6 (fun a=> [Z6d a]) Zkk
def Zld:List (FuncId × Fs U):=[]
def ZpY:Zh U:=fun i=> match i with
 | 0=> ([(0,[]),(7,[])],[(.x 0,[.wr .op])])
 | 1=> ([(0,[])],[(.x 0,[.wr .op])])
 | 2=> ([(0,[]),(28,[])],[(.x 0,[.wr .op])])
 | 3=> ([(0,[])],[(.x 0,[.wr .op])])
 | 4=> ([],[(.x 0,[.wr .op])])
 | _=> ([],[])
abbrev Zz5(wo:List Op)(wg wb:List Tree)(Q:QT):=AW (Z1 Zld) Try.f129 ZpY [] (⟨[(0,.ptr (.x 0) 0)],[(.x 0,[.mref (.x 0 0),sU .tree wg (.own (.x 0 1)),sU .tree wb (.own (.x 0 2))])],[(.x 0 0,LC.mk (U:=U) .op wo 0)]⟩:LSt U) Q
theorem Zyi(wo:List Op)(wg wb:List Tree)(Q:QT)(h:∀ y_1,y_1=(Edit.mk 0 (Tree.mk 0 [] []) (Tree.mk 0 [] []) [] [] 0 [])→∀ y_2,y_2=(List.set (wo++([(OpOf.mk 0 0 [] y_1:Op)])) (Int.toNat (wo.length:Int)) (OpOf.mk 1 0 wg y_1:Op))→((decide ((0:Int) < (wg.length:Int)))=true→((wo.length+([(OpOf.mk 0 0 [] y_1:Op)]).length)*240≤140737488355328)∧((0:Int)≤(wo.length:Int)∧(wo.length:Int) < ((wo++([(OpOf.mk 0 0 [] y_1:Op)])).length:Int))∧((0:Nat)≤(Int.toNat (wo.length:Int)))∧(((decide ((0:Int) < (wb.length:Int)))=true→((y_2.length+([(OpOf.mk 0 0 [] y_1:Op)]).length)*240≤140737488355328)∧((0:Int)≤(y_2.length:Int)∧(y_2.length:Int) < ((y_2++([(OpOf.mk 0 0 [] y_1:Op)])).length:Int))∧((0:Nat)≤(Int.toNat (y_2.length:Int)))∧(Q .normal (⟨[],[(.x 0,[.mref (.x 0 0),.nils,.nils])],[(.x 0 0,LC.mk (U:=U) .op (List.set (y_2++([(OpOf.mk 0 0 [] y_1:Op)])) (Int.toNat (y_2.length:Int)) (OpOf.mk 2 0 wb y_1:Op)) 0)]⟩:LSt U)))∧((decide ((0:Int) < (wb.length:Int)))=false→Q .normal (⟨[],[(.x 0,[.mref (.x 0 0),.nils,.nils])],[(.x 0 0,LC.mk (U:=U) .op y_2 0)]⟩:LSt U))))∧((decide ((0:Int) < (wg.length:Int)))=false→((decide ((0:Int) < (wb.length:Int)))=true→((wo.length+([(OpOf.mk 0 0 [] y_1:Op)]).length)*240≤140737488355328)∧((0:Int)≤(wo.length:Int)∧(wo.length:Int) < ((wo++([(OpOf.mk 0 0 [] y_1:Op)])).length:Int))∧((0:Nat)≤(Int.toNat (wo.length:Int)))∧(Q .normal (⟨[],[(.x 0,[.mref (.x 0 0),.nils,.nils])],[(.x 0 0,LC.mk (U:=U) .op (List.set (wo++([(OpOf.mk 0 0 [] y_1:Op)])) (Int.toNat (wo.length:Int)) (OpOf.mk 2 0 wb y_1:Op)) 0)]⟩:LSt U)))∧((decide ((0:Int) < (wb.length:Int)))=false→Q .normal (⟨[],[(.x 0,[.mref (.x 0 0),.nils,.nils])],[(.x 0 0,LC.mk (U:=U) .op wo 0)]⟩:LSt U)))):
  Zz5 wo wg wb Q:=by
 have e_:(Zz5 wo wg wb Q)=(let y_1:=(Edit.mk 0 (Tree.mk 0 [] []) (Tree.mk 0 [] []) [] [] 0 []);let y_2:=(List.set (wo++([(OpOf.mk 0 0 [] y_1:Op)])) (Int.toNat (wo.length:Int)) (OpOf.mk 1 0 wg y_1:Op));let zz0:=(decide ((0:Int) < (wb.length:Int)));(((decide ((0:Int) < (wg.length:Int)))=true→((wo.length+([(OpOf.mk 0 0 [] y_1:Op)]).length)*240≤140737488355328)∧((0:Int)≤(wo.length:Int)∧(wo.length:Int) < ((wo++([(OpOf.mk 0 0 [] y_1:Op)])).length:Int))∧((0:Nat)≤(Int.toNat (wo.length:Int)))∧((zz0=true→((y_2.length+([(OpOf.mk 0 0 [] y_1:Op)]).length)*240≤140737488355328)∧((0:Int)≤(y_2.length:Int)∧(y_2.length:Int) < ((y_2++([(OpOf.mk 0 0 [] y_1:Op)])).length:Int))∧((0:Nat)≤(Int.toNat (y_2.length:Int)))∧(Q .normal (⟨[],[(.x 0,[.mref (.x 0 0),.nils,.nils])],[(.x 0 0,LC.mk (U:=U) .op (List.set (y_2++([(OpOf.mk 0 0 [] y_1:Op)])) (Int.toNat (y_2.length:Int)) (OpOf.mk 2 0 wb y_1:Op)) 0)]⟩:LSt U)))∧(zz0=false→(Q .normal (⟨[],[(.x 0,[.mref (.x 0 0),.nils,.nils])],[(.x 0 0,LC.mk (U:=U) .op y_2 0)]⟩:LSt U)))))∧((decide ((0:Int) < (wg.length:Int)))=false→((zz0=true→((wo.length+([(OpOf.mk 0 0 [] y_1:Op)]).length)*240≤140737488355328)∧((0:Int)≤(wo.length:Int)∧(wo.length:Int) < ((wo++([(OpOf.mk 0 0 [] y_1:Op)])).length:Int))∧((0:Nat)≤(Int.toNat (wo.length:Int)))∧(Q .normal (⟨[],[(.x 0,[.mref (.x 0 0),.nils,.nils])],[(.x 0 0,LC.mk (U:=U) .op (List.set (wo++([(OpOf.mk 0 0 [] y_1:Op)])) (Int.toNat (wo.length:Int)) (OpOf.mk 2 0 wb y_1:Op)) 0)]⟩:LSt U)))∧(zz0=false→(Q .normal (⟨[],[(.x 0,[.mref (.x 0 0),.nils,.nils])],[(.x 0 0,LC.mk (U:=U) .op wo 0)]⟩:LSt U))))))):=by kernel_rfl
 exact e_.mpr (by intro y_1 y_2;have hh:=h y_1 rfl y_2 rfl;exact ⟨fun c_1=> ⟨(hh.1 c_1).1,(hh.1 c_1).2.1,(hh.1 c_1).2.2.1,⟨fun c_2=> ⟨((hh.1 c_1).2.2.2.1 c_2).1,((hh.1 c_1).2.2.2.1 c_2).2.1,((hh.1 c_1).2.2.2.1 c_2).2.2.1,((hh.1 c_1).2.2.2.1 c_2).2.2.2⟩,fun c_2=> ((hh.1 c_1).2.2.2.2 c_2)⟩⟩,fun c_1=> ⟨fun c_3=> ⟨((hh.2 c_1).1 c_3).1,((hh.2 c_1).1 c_3).2.1,((hh.2 c_1).1 c_3).2.2.1,((hh.2 c_1).1 c_3).2.2.2⟩,fun c_3=> ((hh.2 c_1).2 c_3)⟩⟩)
def ZtS(wo:List Op)(wg wb:List Tree):Prop:=AW (Z1 Zld) Try.f129 ZpY [] (Z18 (Zbj.can ((wo,wg,wb,()),())) (Zbj.canX ((wo,wg,wb,()),())) (Zbj.canL ((wo,wg,wb,()),()))) (Z3G cfg Try.f129.ntmps Try.f129.results.toList (Z9j ((wo,wg,wb,()),())) (Z6a ((wo,wg,wb,()),())) (Z6b ((wo,wg,wb,()),())))
theorem ZsB(hb:∀ (wo:List Op) (wg:List Tree) (wb:List Tree) (_:Unit),Z1F ((wo,wg,wb,()),())→ZtS wo wg wb):CT 129 Z1Q:=
 Z0m (l:=[]) Zo rfl trivial ZpY Try.func129 rfl rfl 1 (fun _=> rfl) (by decide) (fun ⟨⟨wo,wg,wb,_⟩,_⟩=> hb wo wg wb ())
def Zle:List (FuncId × Fs U):=[(129,Z1Q)]
def ZpZ:Zh U:=fun i=> match i with
 | 0=> ([(0,[]),(1,[])],[(.x 0,[.wr .op])])
 | 1=> ([(0,[]),(1,[]),(4,[])],[(.x 0,[.wr .op])])
 | 2=> ([(0,[]),(1,[]),(4,[]),(25,[])],[(.x 0,[.wr .op])])
 | 3=> ([],[(.x 0,[.wr .op])])
 | 4=> ([],[(.x 0,[.wr .op])])
 | _=> ([],[])
abbrev Zz7(wo:List Op)(wg wb:List Tree)(n:Int)(Q:QT):=AW (Z1 Zle) Try.f126 ZpZ [] (⟨[(0,.ptr (.x 0) 0),(1,.c (ci n))],[(.x 0,[.mref (.x 0 0),sU .tree wg (.own (.x 0 1)),sU .tree wb (.own (.x 0 2))])],[(.x 0 0,LC.mk (U:=U) .op wo 0)]⟩:LSt U) Q
theorem Zyk(wo:List Op)(wg wb:List Tree)(n:Int)(Q:QT)(h:∀ y_1,y_1=(Edit.mk 0 (Tree.mk 0 [] []) (Tree.mk 0 [] []) [] [] 0 [])→∀ y_2,y_2=(Int.toNat (((((Z3 (Wst.mk wo wg wb)).out).length:Int):Int) - 1))→∀ y_3,y_3=(List.getD ((Z3 (Wst.mk wo wg wb)).out) y_2 Op.nil)→∀ y_4,y_4=(y_3.e)→(Z1F ((wo,wg,wb,()),()))∧((InR (((((Z3 (Wst.mk wo wg wb)).out).length:Int):Int) - 1))∧(((decide ((0:Int)≤(((((Z3 (Wst.mk wo wg wb)).out).length:Int):Int) - 1)))=true→(0:Int)≤(((((Z3 (Wst.mk wo wg wb)).out).length:Int):Int) - 1)∧(((((Z3 (Wst.mk wo wg wb)).out).length:Int):Int) - 1) < (((Z3 (Wst.mk wo wg wb)).out).length:Int))∧(((bif (decide ((0:Int)≤(((((Z3 (Wst.mk wo wg wb)).out).length:Int):Int) - 1))) then (y_3.kind==0) else false)=true→((0:Int)≤(((((Z3 (Wst.mk wo wg wb)).out).length:Int):Int) - 1)∧(((((Z3 (Wst.mk wo wg wb)).out).length:Int):Int) - 1) < (((Z3 (Wst.mk wo wg wb)).out).length:Int))∧(InR (y_3.n+n))∧((0:Int)≤(((((Z3 (Wst.mk wo wg wb)).out).length:Int):Int) - 1)∧(((((Z3 (Wst.mk wo wg wb)).out).length:Int):Int) - 1) < (((Z3 (Wst.mk wo wg wb)).out).length:Int))∧((0:Nat)≤y_2)∧(Q .ret (⟨[],[(.x 0,[.mref (.x 0 0),sU .tree ((Z3 (Wst.mk wo wg wb)).gone) (.own (.x 0 1)),sU .tree ((Z3 (Wst.mk wo wg wb)).brought) (.own (.x 0 2))])],[(.x 0 0,LC.mk (U:=U) .op (List.set ((Z3 (Wst.mk wo wg wb)).out) y_2 (OpOf.mk y_3.kind (y_3.n+n) y_3.l y_4:Op)) 0)]⟩:LSt U)))∧((bif (decide ((0:Int)≤(((((Z3 (Wst.mk wo wg wb)).out).length:Int):Int) - 1))) then (y_3.kind==0) else false)=false→((((Z3 (Wst.mk wo wg wb)).out).length+([(OpOf.mk 0 0 [] y_1:Op)]).length)*240≤140737488355328)∧((0:Int)≤(((Z3 (Wst.mk wo wg wb)).out).length:Int)∧(((Z3 (Wst.mk wo wg wb)).out).length:Int) < ((((Z3 (Wst.mk wo wg wb)).out)++([(OpOf.mk 0 0 [] y_1:Op)])).length:Int))∧((0:Nat)≤(Int.toNat (((Z3 (Wst.mk wo wg wb)).out).length:Int)))∧(Q .normal (⟨[],[(.x 0,[.mref (.x 0 0),sU .tree ((Z3 (Wst.mk wo wg wb)).gone) (.own (.x 0 1)),sU .tree ((Z3 (Wst.mk wo wg wb)).brought) (.own (.x 0 2))])],[(.x 0 0,LC.mk (U:=U) .op (List.set (((Z3 (Wst.mk wo wg wb)).out)++([(OpOf.mk 0 0 [] y_1:Op)])) (Int.toNat (((Z3 (Wst.mk wo wg wb)).out).length:Int)) (OpOf.mk 0 n [] y_1:Op)) 0)]⟩:LSt U))))))):
  Zz7 wo wg wb n Q:=by
 have e_:(Zz7 wo wg wb n Q)=(let y_1:=(Edit.mk 0 (Tree.mk 0 [] []) (Tree.mk 0 [] []) [] [] 0 []);let y_2:=(Int.toNat (((((Z3 (Wst.mk wo wg wb)).out).length:Int):Int) - 1));let y_3:=(List.getD ((Z3 (Wst.mk wo wg wb)).out) y_2 Op.nil);let y_4:=(Jl y_3.e);let zz0:=(decide ((0:Int)≤(((((Z3 (Wst.mk wo wg wb)).out).length:Int):Int) - 1)));(Z1F ((wo,wg,wb,()),()))∧((InR (((((Z3 (Wst.mk wo wg wb)).out).length:Int):Int) - 1))∧((Yt (zz0=true))∧(Yt (zz0=true))∧(Yt (zz0=true))∧(Yt (zz0=true))∧(Yt (zz0=true))∧(zz0=true→(0:Int)≤(((((Z3 (Wst.mk wo wg wb)).out).length:Int):Int) - 1)∧(((((Z3 (Wst.mk wo wg wb)).out).length:Int):Int) - 1) < (((Z3 (Wst.mk wo wg wb)).out).length:Int))∧(Yt (zz0=true))∧(Yt (zz0=true))∧(Yt (zz0=true))∧(Yt (zz0=true))∧(((bif zz0 then (y_3.kind==0) else false)=true→((0:Int)≤(((((Z3 (Wst.mk wo wg wb)).out).length:Int):Int) - 1)∧(((((Z3 (Wst.mk wo wg wb)).out).length:Int):Int) - 1) < (((Z3 (Wst.mk wo wg wb)).out).length:Int))∧(InR (y_3.n+n))∧((0:Int)≤(((((Z3 (Wst.mk wo wg wb)).out).length:Int):Int) - 1)∧(((((Z3 (Wst.mk wo wg wb)).out).length:Int):Int) - 1) < (((Z3 (Wst.mk wo wg wb)).out).length:Int))∧((0:Nat)≤y_2)∧(Q .ret (⟨[],[(.x 0,[.mref (.x 0 0),sU .tree ((Z3 (Wst.mk wo wg wb)).gone) (.own (.x 0 1)),sU .tree ((Z3 (Wst.mk wo wg wb)).brought) (.own (.x 0 2))])],[(.x 0 0,LC.mk (U:=U) .op (List.set ((Z3 (Wst.mk wo wg wb)).out) y_2 (OpOf.mk y_3.kind (y_3.n+n) y_3.l y_4:Op)) 0)]⟩:LSt U)))∧((bif zz0 then (y_3.kind==0) else false)=false→((((Z3 (Wst.mk wo wg wb)).out).length+([(OpOf.mk 0 0 [] y_1:Op)]).length)*240≤140737488355328)∧((0:Int)≤(((Z3 (Wst.mk wo wg wb)).out).length:Int)∧(((Z3 (Wst.mk wo wg wb)).out).length:Int) < ((((Z3 (Wst.mk wo wg wb)).out)++([(OpOf.mk 0 0 [] y_1:Op)])).length:Int))∧((0:Nat)≤(Int.toNat (((Z3 (Wst.mk wo wg wb)).out).length:Int)))∧(Q .normal (⟨[],[(.x 0,[.mref (.x 0 0),sU .tree ((Z3 (Wst.mk wo wg wb)).gone) (.own (.x 0 1)),sU .tree ((Z3 (Wst.mk wo wg wb)).brought) (.own (.x 0 2))])],[(.x 0 0,LC.mk (U:=U) .op (List.set (((Z3 (Wst.mk wo wg wb)).out)++([(OpOf.mk 0 0 [] y_1:Op)])) (Int.toNat (((Z3 (Wst.mk wo wg wb)).out).length:Int)) (OpOf.mk 0 n [] y_1:Op)) 0)]⟩:LSt U))))))):=by kernel_rfl
 exact e_.mpr (by intro y_1 y_2 y_3 y_4;have hh:=h y_1 rfl y_2 rfl y_3 rfl y_4 (Zf _);exact ⟨hh.1,⟨hh.2.1,⟨id,id,id,id,id,hh.2.2.1,id,id,id,(by generalize (decide ((0:Int)≤(((((Z3 (Wst.mk wo wg wb)).out).length:Int):Int) - 1)))=b0;revert b0;decide),⟨fun c_4=> ⟨(hh.2.2.2.1 c_4).1,(hh.2.2.2.1 c_4).2.1,(hh.2.2.2.1 c_4).2.2.1,(hh.2.2.2.1 c_4).2.2.2.1,(hh.2.2.2.1 c_4).2.2.2.2⟩,fun c_4=> ⟨(hh.2.2.2.2 c_4).1,(hh.2.2.2.2 c_4).2.1,(hh.2.2.2.2 c_4).2.2.1,(hh.2.2.2.2 c_4).2.2.2⟩⟩⟩⟩⟩)
def ZtU(wo:List Op)(wg wb:List Tree)(n:Int):Prop:=AW (Z1 Zle) Try.f126 ZpZ [] (Z18 (Zbl.can ((wo,wg,wb,()),n,())) (Zbl.canX ((wo,wg,wb,()),n,())) (Zbl.canL ((wo,wg,wb,()),n,()))) (Z3G cfg Try.f126.ntmps Try.f126.results.toList (ZiF ((wo,wg,wb,()),n,())) (Zfd ((wo,wg,wb,()),n,())) (Zfe ((wo,wg,wb,()),n,())))
theorem ZsD(Znr:CT 129 Z1Q)(hb:∀ (wo:List Op) (wg:List Tree) (wb:List Tree) (n:Int) (_:Unit),Z4I ((wo,wg,wb,()),n,())→ZtU wo wg wb n):CT 126 Z63:=
 Z0m (l:=[(129,Z1Q)]) Zo rfl (⟨Znr,trivial⟩) ZpZ Try.func126 rfl rfl 2 (fun _=> rfl) (by decide) (fun ⟨⟨wo,wg,wb,_⟩,n,_⟩=> hb wo wg wb n ())
def Zbd:List (FuncId × Fs U):=[(71,Z0o)]
def ZhB:Zh U:=fun i=> match i with
 | 0=> ([(0,[]),(6,[]),(7,[]),(8,[])],[(.x 0,[.wr .op])])
 | 1=> ([(0,[]),(6,[]),(7,[]),(8,[]),(9,[])],[(.x 0,[.wr .op])])
 | 2=> ([(0,[]),(5,[]),(6,[]),(7,[]),(8,[])],[(.loc 5,[]),(.x 0,[.wr .op])])
 | 3=> ([(0,[]),(6,[]),(7,[]),(8,[])],[(.x 0,[.wr .op])])
 | 4=> ([(0,[]),(6,[]),(7,[]),(8,[])],[(.x 0,[.wr .op])])
 | _=> ([],[])
def Z6o(wo:List Op)(wg wb l:List Tree)(x8:Int)(mx0_1:List Tree):LSt U:=(⟨[(0,.ptr (.x 0) 1),(6,.c (sU .tree l .unk)),(7,.c (ci (l.length:Int))),(8,.c (ci x8))],[(.x 0,[.mref (.x 0 0),sU .tree mx0_1 (.own (.x 0 1)),sU .tree wb (.own (.x 0 2))])],[(.x 0 0,LC.mk (U:=U) .op wo 0)]⟩:LSt U)
abbrev Zz6(wo:List Op)(wg wb l:List Tree)(Q:QT):=AW (Z1 Zbd) Try.f127 ZhB [] (⟨[(0,.ptr (.x 0) 1),(1,.c (sU .tree l .unk))],[(.x 0,[.mref (.x 0 0),sU .tree wg (.own (.x 0 1)),sU .tree wb (.own (.x 0 2))])],[(.x 0 0,LC.mk (U:=U) .op wo 0)]⟩:LSt U) Q
theorem Zyj(wo:List Op)(wg wb l:List Tree)(Q:QT)(h:Zl (AW (Z1 Zbd) Try.f127 ZhB [1,0,0]) (Z6o wo wg wb l 0 wg) (xB 0 Q)):
  Zz6 wo wg wb l Q:=by
 have e_:(Zz6 wo wg wb l Q)=(type_of% h):=by kernel_rfl
 exact e_.mpr h
abbrev Zm2(wo:List Op)(wg wb l:List Tree)(x8:Int)(mx0_1:List Tree)(N0:NT)(Q:QT):=AW (Z1 Zbd) Try.f127 ZhB [1,0,0] (Z6o wo wg wb l x8 mx0_1) (xT N0 (xB 0 Q))
theorem ZnY(wo:List Op)(wg wb l:List Tree)(x8:Int)(mx0_1:List Tree)(N0:NT)(Q:QT)(h:((decide (x8 < (l.length:Int)))=true→((0:Int)≤x8∧x8 < (l.length:Int))∧((Z0W ((Tree.mk (Tree.kind (l.getD x8.toNat Tree.nil)) (Tree.words (l.getD x8.toNat Tree.nil)) (Tree.kids (l.getD x8.toNat Tree.nil))),()))∧((mx0_1.length+([(Tree.mk 0 [] [])]).length)*56≤140737488355328)∧((0:Int)≤(mx0_1.length:Int)∧(mx0_1.length:Int) < ((mx0_1++([(Tree.mk 0 [] [])])).length:Int))∧(mx0_1.length≤(Int.toNat (mx0_1.length:Int)))∧((InR (x8+1))∧(N0 (Z6o wo wg wb l (x8+1) (List.set (mx0_1++([(Tree.mk 0 [] [])])) (Int.toNat (mx0_1.length:Int)) (Tree.mk (Tree.kind (Z7 (Tree.mk (Tree.kind (l.getD x8.toNat Tree.nil)) (Tree.words (l.getD x8.toNat Tree.nil)) (Tree.kids (l.getD x8.toNat Tree.nil))))) (Tree.words (Z7 (Tree.mk (Tree.kind (l.getD x8.toNat Tree.nil)) (Tree.words (l.getD x8.toNat Tree.nil)) (Tree.kids (l.getD x8.toNat Tree.nil))))) (Tree.kids (Z7 (Tree.mk (Tree.kind (l.getD x8.toNat Tree.nil)) (Tree.words (l.getD x8.toNat Tree.nil)) (Tree.kids (l.getD x8.toNat Tree.nil))))))))))))∧((decide (x8 < (l.length:Int)))=false→Q .normal (⟨[(0,.ptr (.x 0) 1),(6,.c (sU .tree l .unk)),(7,.c (ci (l.length:Int))),(8,.c (ci x8)),(9,.c (.bool (decide (x8 < (l.length:Int)))))],[(.x 0,[.mref (.x 0 0),sU .tree mx0_1 (.own (.x 0 1)),sU .tree wb (.own (.x 0 2))])],[(.x 0 0,LC.mk (U:=U) .op wo 0)]⟩:LSt U))):
  Zm2 wo wg wb l x8 mx0_1 N0 Q:=by
 have e_:(Zm2 wo wg wb l x8 mx0_1 N0 Q)=(type_of% h):=by kernel_rfl
 exact e_.mpr ⟨fun c_5=> ⟨(h.1 c_5).1,⟨(h.1 c_5).2.1,(h.1 c_5).2.2.1,(h.1 c_5).2.2.2.1,(h.1 c_5).2.2.2.2.1,⟨(h.1 c_5).2.2.2.2.2.1,(h.1 c_5).2.2.2.2.2.2⟩⟩⟩,fun c_5=> (h.2 c_5)⟩
def ZtT(wo:List Op)(wg wb l:List Tree):Prop:=AW (Z1 Zbd) Try.f127 ZhB [] (Z18 (Zbk.can ((wo,wg,wb,()),l,())) (Zbk.canX ((wo,wg,wb,()),l,())) (Zbk.canL ((wo,wg,wb,()),l,()))) (Z3G cfg Try.f127.ntmps Try.f127.results.toList (ZoT ((wo,wg,wb,()),l,())) (Zkb ((wo,wg,wb,()),l,())) (Zkc ((wo,wg,wb,()),l,())))
theorem ZsC(c71:CT 71 Z0o)(hb:∀ (wo:List Op) (wg:List Tree) (wb:List Tree) (l:List Tree) (_:Unit),Z9q ((wo,wg,wb,()),l,())→ZtT wo wg wb l):CT 127 ZeY:=
 Z0m (l:=[(71,Z0o)]) Zo rfl (⟨c71,trivial⟩) ZhB Try.func127 rfl rfl 2 (fun _=> rfl) (by decide) (fun ⟨⟨wo,wg,wb,_⟩,l,_⟩=> hb wo wg wb l ())
def Z8z:List (FuncId × Fs U):=[(71,Z0o)]
def ZcR:Zh U:=fun i=> match i with
 | 0=> ([(0,[]),(6,[]),(7,[]),(8,[])],[(.x 0,[.wr .op])])
 | 1=> ([(0,[]),(6,[]),(7,[]),(8,[]),(9,[])],[(.x 0,[.wr .op])])
 | 2=> ([(0,[]),(5,[]),(6,[]),(7,[]),(8,[])],[(.loc 5,[]),(.x 0,[.wr .op])])
 | 3=> ([(0,[]),(6,[]),(7,[]),(8,[])],[(.x 0,[.wr .op])])
 | 4=> ([(0,[]),(6,[]),(7,[]),(8,[])],[(.x 0,[.wr .op])])
 | _=> ([],[])
def Z4P(wo:List Op)(wg wb l:List Tree)(x8:Int)(mx0_2:List Tree):LSt U:=(⟨[(0,.ptr (.x 0) 2),(6,.c (sU .tree l .unk)),(7,.c (ci (l.length:Int))),(8,.c (ci x8))],[(.x 0,[.mref (.x 0 0),sU .tree wg (.own (.x 0 1)),sU .tree mx0_2 (.own (.x 0 2))])],[(.x 0 0,LC.mk (U:=U) .op wo 0)]⟩:LSt U)
abbrev ZuP(wo:List Op)(wg wb l:List Tree)(Q:QT):=AW (Z1 Z8z) Try.f127 ZcR [] (⟨[(0,.ptr (.x 0) 2),(1,.c (sU .tree l .unk))],[(.x 0,[.mref (.x 0 0),sU .tree wg (.own (.x 0 1)),sU .tree wb (.own (.x 0 2))])],[(.x 0 0,LC.mk (U:=U) .op wo 0)]⟩:LSt U) Q
theorem Zv4(wo:List Op)(wg wb l:List Tree)(Q:QT)(h:Zl (AW (Z1 Z8z) Try.f127 ZcR [1,0,0]) (Z4P wo wg wb l 0 wb) (xB 0 Q)):
  ZuP wo wg wb l Q:=by
 have e_:(ZuP wo wg wb l Q)=(type_of% h):=by kernel_rfl
 exact e_.mpr h
abbrev Zib(wo:List Op)(wg wb l:List Tree)(x8:Int)(mx0_2:List Tree)(N0:NT)(Q:QT):=AW (Z1 Z8z) Try.f127 ZcR [1,0,0] (Z4P wo wg wb l x8 mx0_2) (xT N0 (xB 0 Q))
theorem Zmc(wo:List Op)(wg wb l:List Tree)(x8:Int)(mx0_2:List Tree)(N0:NT)(Q:QT)(h:((decide (x8 < (l.length:Int)))=true→((0:Int)≤x8∧x8 < (l.length:Int))∧((Z0W ((Tree.mk (Tree.kind (l.getD x8.toNat Tree.nil)) (Tree.words (l.getD x8.toNat Tree.nil)) (Tree.kids (l.getD x8.toNat Tree.nil))),()))∧((mx0_2.length+([(Tree.mk 0 [] [])]).length)*56≤140737488355328)∧((0:Int)≤(mx0_2.length:Int)∧(mx0_2.length:Int) < ((mx0_2++([(Tree.mk 0 [] [])])).length:Int))∧(mx0_2.length≤(Int.toNat (mx0_2.length:Int)))∧((InR (x8+1))∧(N0 (Z4P wo wg wb l (x8+1) (List.set (mx0_2++([(Tree.mk 0 [] [])])) (Int.toNat (mx0_2.length:Int)) (Tree.mk (Tree.kind (Z7 (Tree.mk (Tree.kind (l.getD x8.toNat Tree.nil)) (Tree.words (l.getD x8.toNat Tree.nil)) (Tree.kids (l.getD x8.toNat Tree.nil))))) (Tree.words (Z7 (Tree.mk (Tree.kind (l.getD x8.toNat Tree.nil)) (Tree.words (l.getD x8.toNat Tree.nil)) (Tree.kids (l.getD x8.toNat Tree.nil))))) (Tree.kids (Z7 (Tree.mk (Tree.kind (l.getD x8.toNat Tree.nil)) (Tree.words (l.getD x8.toNat Tree.nil)) (Tree.kids (l.getD x8.toNat Tree.nil))))))))))))∧((decide (x8 < (l.length:Int)))=false→Q .normal (⟨[(0,.ptr (.x 0) 2),(6,.c (sU .tree l .unk)),(7,.c (ci (l.length:Int))),(8,.c (ci x8)),(9,.c (.bool (decide (x8 < (l.length:Int)))))],[(.x 0,[.mref (.x 0 0),sU .tree wg (.own (.x 0 1)),sU .tree mx0_2 (.own (.x 0 2))])],[(.x 0 0,LC.mk (U:=U) .op wo 0)]⟩:LSt U))):
  Zib wo wg wb l x8 mx0_2 N0 Q:=by
 have e_:(Zib wo wg wb l x8 mx0_2 N0 Q)=(type_of% h):=by kernel_rfl
 exact e_.mpr ⟨fun c_6=> ⟨(h.1 c_6).1,⟨(h.1 c_6).2.1,(h.1 c_6).2.2.1,(h.1 c_6).2.2.2.1,(h.1 c_6).2.2.2.2.1,⟨(h.1 c_6).2.2.2.2.2.1,(h.1 c_6).2.2.2.2.2.2⟩⟩⟩,fun c_6=> (h.2 c_6)⟩
def Zrk(wo:List Op)(wg wb l:List Tree):Prop:=AW (Z1 Z8z) Try.f127 ZcR [] (Z18 (Z95.can ((wo,wg,wb,()),l,())) (Z95.canX ((wo,wg,wb,()),l,())) (Z95.canL ((wo,wg,wb,()),l,()))) (Z3G cfg Try.f127.ntmps Try.f127.results.toList (Zkl ((wo,wg,wb,()),l,())) (ZgY ((wo,wg,wb,()),l,())) (ZgZ ((wo,wg,wb,()),l,())))
theorem ZpE(c71:CT 71 Z0o)(hb:∀ (wo:List Op) (wg:List Tree) (wb:List Tree) (l:List Tree) (_:Unit),Z6e ((wo,wg,wb,()),l,())→Zrk wo wg wb l):CT 127 ZbU:=
 Z0m (l:=[(71,Z0o)]) Zo rfl (⟨c71,trivial⟩) ZcR Try.func127 rfl rfl 2 (fun _=> rfl) (by decide) (fun ⟨⟨wo,wg,wb,_⟩,l,_⟩=> hb wo wg wb l ())
def ZhI:List (FuncId × Fs U):=[]
def ZiY:Zh U:=lvl [([0,3],[3]),([4],[])]
abbrev ZuO(list:Int)(e:Edit)(Q:QT):=AW (Z1 ZhI) Try.f128 ZiY [] (L2 [(0,.c (ci list)),(1,.agg (enc .edit e))] []) Q
theorem Zv3(list:Int)(e:Edit)(Q:QT)(h:(((!(e.kind==0)) && (bif (list==9) then (e.kind==2) else false))=true→InR (((e.words.length:Int):Int)+(e.kids.length:Int)))∧(Q .ret (L2 [(4,.c (.bool (bif (e.kind==0) then true else (bif (bif (list==9) then (e.kind==2) else false) then (((((e.words.length:Int):Int)+(e.kids.length:Int)):Int)==0) else false))))] []))):
  ZuO list e Q:=by
 have e_:(ZuO list e Q)=(let zz1:=(!(e.kind==0));let zz0:=(bif ((list:Int)==9) then (e.kind==2) else false);((Yt (zz1=true))∧(Yt (zz1=true))∧(Yt ((zz1 && ((list:Int)==9))=true))∧(Yt ((zz1 && ((list:Int)==9))=true))∧(zz1=true→(True→zz1=true))∧(zz1=true→(((list:Int)==9)=true→(zz1 && ((list:Int)==9))=true))∧(Yt (zz1=true))∧(Yt ((zz1 && zz0)=true))∧(Yt ((zz1 && zz0)=true))∧(Yt ((zz1 && zz0)=true))∧(Yt ((zz1 && zz0)=true))∧(Yt ((zz1 && zz0)=true))∧(Yt ((zz1 && zz0)=true))∧((zz1 && zz0)=true→InR ((e.words.length:Int)+(e.kids.length:Int)))∧(Yt ((zz1 && zz0)=true))∧(zz1=true→(True→zz1=true))∧(zz1=true→(zz0=true→(zz1 && zz0)=true))∧((e.kind==0)=false→zz1=true)∧(Q .ret (L2 [(4,.c (.bool (bif (e.kind==0) then true else (bif zz0 then ((((e.words.length:Int)+(e.kids.length:Int)):Int)==0) else false))))] [])))):=by kernel_rfl
 exact e_.mpr ⟨id,id,id,id,(by generalize ((e.kind:Int)==0)=b0;revert b0;decide),(by generalize ((e.kind:Int)==0)=b0;generalize ((list:Int)==9)=b1;revert b0 b1;decide),id,id,id,id,id,id,id,h.1,id,(by generalize ((e.kind:Int)==0)=b0;revert b0;decide),(by generalize ((e.kind:Int)==2)=b0;generalize ((e.kind:Int)==0)=b1;generalize ((list:Int)==9)=b2;revert b0 b1 b2;decide),(by generalize ((e.kind:Int)==0)=b0;revert b0;decide),h.2⟩
def Zrj(list:Int)(e:Edit):Prop:=AW (Z1 ZhI) Try.f128 ZiY [] (Zn (Zi6.can (list,e,())) []) (EQ Try.f128 (Zkk (list,e,())) [])
theorem ZpD(hb:∀ (list:Int) (e:Edit) (_:Unit),Z6d (list,e,())→Zrj list e):CT 128 Z3L:=
 Z6 (l:=[]) Zo rfl trivial ZiY Try.func128 rfl rfl 2 (fun _=> rfl) (by decide) (fun ⟨list,e,_⟩=> hb list e ())
end
end Go.AM.Ytpjenobkibfpcaa
namespace Go.AM.Ytpjenobkibfpcaa
open Go.AM Go.Proofs
theorem Z2s{α:Type}(l:List α)(z x:α):(l++[z]).set (Int.toNat (l.length:Int)) x=l++[x]:=by
 rw [Int.toNat_natCast,List.set_append_right _ _ (Nat.le_refl _)]
 simp
theorem Z8A:∀ (F:List Op) (n:Int),Z1K F n=if F.length≠0∧(F.getD (F.length - 1) Op.nil).kind=0 then F.set (F.length - 1) ⟨(F.getD (F.length - 1) Op.nil).kind,(F.getD (F.length - 1) Op.nil).n+n,(F.getD (F.length - 1) Op.nil).l,(F.getD (F.length - 1) Op.nil).e⟩ else F++[⟨0,n,[],Edit.nil⟩]
 | [],n=> by simp [Z1K]
 | [o],n=> by simp [Z1K]
 | o ::p ::r,n=> by
  have ih:=Z8A (p ::r) n
  have e:(o ::p ::r).length - 1=((p ::r).length - 1)+1:=by simp
  rw [Z1K,ih,e]
  simp only [List.getD_cons_succ,List.set_cons_succ]
  by_cases h:(p ::r).length≠0∧((p ::r).getD ((p ::r).length - 1) Op.nil).kind=0
  ·rw [if_pos h,if_pos ⟨by simp,h.2⟩]
  ·have h':¬((p ::r).getD ((p ::r).length - 1) Op.nil).kind=0:=fun e=> h ⟨by simp,e⟩
   rw [if_neg h,if_neg (fun e=> h' e.2)]
   try rfl
theorem Z9H(s:Wst):(Z3 s).out.length≤s.out.length+2:=by
 simp only [Z3,Z0v]
 split <;> split <;> simp
theorem Z9G(s:Wst):∀ o∈(Z3 s).out,o∈s.out∨o.n=0:=by
 intro o ho
 simp only [Z3,Z0v,List.mem_append] at ho
 rcases ho with h | h | h
 ·exact .inl h
 ·split at h
  ·cases h
  ·simp only [List.mem_singleton] at h;subst h;exact .inr rfl
 ·split at h
  ·cases h
  ·simp only [List.mem_singleton] at h;subst h;exact .inr rfl
theorem Znr:Contract Try.prog cfg 129 Z1Q:=by
 refine ZsB ?_
 intro wo wg wb _ hp
 simp only [Z1F] at hp
 refine Zyi wo wg wb _ ?_
 rintro y1 hy1 y2 hy2
 have hy:y1=Edit.nil:=hy1
 subst hy
 rw [Z2s] at hy2
 subst hy2
 (simp only [vcS])
 refine ⟨fun h1=> ⟨by simp;omega,by simp;omega,by omega,fun h2=> ⟨by simp;omega,by simp;omega,by omega,?_⟩,fun h2=> ?_⟩,fun h1=> ⟨fun h2=> ⟨by simp;omega,by simp;omega,by omega,?_⟩,fun h2=> ?_⟩⟩
 ·rw [Z2s]
  have e:Z3 ⟨wo,wg,wb⟩=⟨wo++[⟨1,0,wg,Edit.nil⟩]++[⟨2,0,wb,Edit.nil⟩],[],[]⟩:=by
   simp only [Z3,Z0v];rw [if_neg (by omega),if_neg (by omega)];simp
  simp only [Z9j,Z6a,Z6b,e]
  (repeat' (first | exact trivial | exact rfl | apply And.intro))
 ·have e:Z3 ⟨wo,wg,wb⟩=⟨wo++[⟨1,0,wg,Edit.nil⟩],[],[]⟩:=by
   simp only [Z3,Z0v];rw [if_neg (by omega),if_pos (by omega)];simp
  simp only [Z9j,Z6a,Z6b,e]
  (repeat' (first | exact trivial | exact rfl | apply And.intro))
 ·rw [Z2s]
  have e:Z3 ⟨wo,wg,wb⟩=⟨wo++[⟨2,0,wb,Edit.nil⟩],[],[]⟩:=by
   simp only [Z3,Z0v];rw [if_pos (by omega),if_neg (by omega)];simp
  simp only [Z9j,Z6a,Z6b,e]
  (repeat' (first | exact trivial | exact rfl | apply And.intro))
 ·have e:Z3 ⟨wo,wg,wb⟩=⟨wo,[],[]⟩:=by
   simp only [Z3,Z0v];rw [if_pos (by omega),if_pos (by omega)];simp
  simp only [Z9j,Z6a,Z6b,e]
  (repeat' (first | exact trivial | exact rfl | apply And.intro))
theorem ZwA:Contract Try.prog cfg 126 Z63:=by
 refine ZsD Znr ?_
 intro wo wg wb n _ hp
 simp only [Z4I] at hp
 obtain ⟨p1,p2,p3,p4,p5,p6⟩:=hp
 have hfl:=Z9H ⟨wo,wg,wb⟩
 have hfm:=Z9G ⟨wo,wg,wb⟩
 have hg:(Z3 ⟨wo,wg,wb⟩).gone=[]:=rfl
 have hb:(Z3 ⟨wo,wg,wb⟩).brought=[]:=rfl
 have hk:=Z8A (Z3 ⟨wo,wg,wb⟩).out n
 have hkw:ZX ⟨wo,wg,wb⟩ n=⟨Z1K (Z3 ⟨wo,wg,wb⟩).out n,[],[]⟩:=rfl
 refine Zyk wo wg wb n _ ?_
 simp only [hg,hb,ZiF,Zfd,Zfe,hkw]
 generalize (Z3 ⟨wo,wg,wb⟩).out=F at*
 simp only at hfl hfm
 rintro y1 hy1 y2 hy2 y3 hy3 y4 hy4
 have hy:y1=Edit.nil:=hy1
 subst hy
 have e2:y2=F.length - 1:=by omega
 subst e2
 rw [←hy3,←hy4] at hk
 (simp only [vcS])
 refine ⟨by simp only [Z1F];exact ⟨p1,p2,p3⟩,by unfold InR;omega,fun h=> ⟨h,by omega⟩,fun h=> ?_,fun h=> ?_⟩
 ·have hy3n:0≤y3.n∧y3.n≤100000000000000000:=by
   have hm:y3∈F:=by rw [hy3];exact Zm (by omega) _
   rcases hfm y3 hm with h1 | h1
   ·exact p4 y3 h1
   ·omega
  rw [if_pos ⟨by omega,h.2⟩] at hk
  rw [hk]
  refine ⟨by omega,by unfold InR;omega,by omega,by omega,?_⟩
  (repeat' (first | exact trivial | exact rfl | apply And.intro))
 ·rw [if_neg (by omega)] at hk
  rw [hk,Z2s]
  refine ⟨by simp;omega,by simp;omega,by omega,?_⟩
  (repeat' (first | exact trivial | exact rfl | apply And.intro))
theorem ZAe:Contract Try.prog cfg 127 ZeY:=by
 refine ZsC c71 ?_
 intro wo wg wb l _ hp
 simp only [Z9q] at hp
 obtain ⟨p1,p2,p3,p4⟩:=hp
 have hl:=ZD l
 refine Zyj _ _ _ _ _ ?_
 refine Ze (ι:=Int × List Tree) (fun s=> Z6o wo wg wb l s.1 s.2) (fun s=> 0≤s.1∧s.1≤l.length∧s.2.length=wg.length+s.1∧s.2++Z5 (l.drop s.1.toNat)=wg++Z5 l) (fun s=> ((l.length:Int) - s.1).toNat) (0,wg) rfl ⟨by simp,by simp,by simp,by simp⟩ ?_
 rintro ⟨i,out⟩ ⟨h1,h2,h3,h4⟩
 dsimp only at h1 h2 h3 h4
 refine ZnY _ _ _ _ _ _ _ _ ?_
 (simp only [vcS])
 (simp only [Tree.eta,Edit.eta,Tree.kind_mk,Tree.words_mk,Tree.kids_mk])
 refine ⟨fun hi=> ?_,fun hi=> ?_⟩
 ·have hm:=YW (Zm (l:=l) (i:=i.toNat) (by omega) Tree.nil)
  rw [YU h1 hi Tree.nil] at h4
  simp only [Z5,List.map_cons] at h4
  rw [Z2s]
  refine ⟨⟨h1,hi⟩,by simp only [Z0W];omega,by simp;omega,by simp;omega,by omega,by unfold InR;omega,(i+1,out++[Z7 (l.getD i.toNat Tree.nil)]),rfl,⟨by dsimp only;omega,by dsimp only;omega,by simp;omega,?_⟩,by dsimp only;omega⟩
  simp only [List.append_assoc,List.cons_append,List.nil_append]
  exact h4
 ·rw [List.drop_of_length_le (by omega)] at h4
  simp only [Z5,List.map_nil,List.append_nil] at h4
  rw [h4]
  (repeat' (first | exact trivial | exact rfl | apply And.intro))
theorem ZyT:Contract Try.prog cfg 127 ZbU:=by
 refine ZpE c71 ?_
 intro wo wg wb l _ hp
 simp only [Z6e] at hp
 obtain ⟨p1,p2,p3,p4⟩:=hp
 have hl:=ZD l
 refine Zv4 _ _ _ _ _ ?_
 refine Ze (ι:=Int × List Tree) (fun s=> Z4P wo wg wb l s.1 s.2) (fun s=> 0≤s.1∧s.1≤l.length∧s.2.length=wb.length+s.1∧s.2++Z5 (l.drop s.1.toNat)=wb++Z5 l) (fun s=> ((l.length:Int) - s.1).toNat) (0,wb) rfl ⟨by simp,by simp,by simp,by simp⟩ ?_
 rintro ⟨i,out⟩ ⟨h1,h2,h3,h4⟩
 dsimp only at h1 h2 h3 h4
 refine Zmc _ _ _ _ _ _ _ _ ?_
 (simp only [vcS])
 (simp only [Tree.eta,Edit.eta,Tree.kind_mk,Tree.words_mk,Tree.kids_mk])
 refine ⟨fun hi=> ?_,fun hi=> ?_⟩
 ·have hm:=YW (Zm (l:=l) (i:=i.toNat) (by omega) Tree.nil)
  rw [YU h1 hi Tree.nil] at h4
  simp only [Z5,List.map_cons] at h4
  rw [Z2s]
  refine ⟨⟨h1,hi⟩,by simp only [Z0W];omega,by simp;omega,by simp;omega,by omega,by unfold InR;omega,(i+1,out++[Z7 (l.getD i.toNat Tree.nil)]),rfl,⟨by dsimp only;omega,by dsimp only;omega,by simp;omega,?_⟩,by dsimp only;omega⟩
  simp only [List.append_assoc,List.cons_append,List.nil_append]
  exact h4
 ·rw [List.drop_of_length_le (by omega)] at h4
  simp only [Z5,List.map_nil,List.append_nil] at h4
  rw [h4]
  (repeat' (first | exact trivial | exact rfl | apply And.intro))
theorem ZqN:Contract Try.prog cfg 128 Z3L:=by
 refine ZpD ?_
 intro list e _ hp
 simp only [Z6d] at hp
 refine Zv3 _ _ _ ?_
 refine ⟨fun _=> by unfold InR;dsimp only;omega,Z4 rfl ?_⟩
 rw [Bool.eq_iff_iff]
 simp only [Z6O]
 (simp only [vcS])
 omega
noncomputable def Z5f:Fs U:=Zwb ZeY ZbU
theorem ZqK:Contract Try.prog cfg 127 Z5f:=Zi1 ZAe ZyT
end Go.AM.Ytpjenobkibfpcaa
