import Derived.Test.YtpjenobkibfpcaaGreatZKB20e
import Derived.Test.YtpjenobkibfpcaaGreatZKL21n
import Derived.Test.YtpjenobkibfpcaaGreatZKG22a
set_option linter.unusedSimpArgs false
set_option linter.unusedVariables false
namespace Go.AM.YtpjenobkibfpcaaGreat
open Go.AM Go.Proofs
noncomputable section
def ZkI:ArgL (List Int × Unit):=(.cons (aSl .u64) .nil)
def Z9p(a:List Int × Unit):Prop:=a.1.length≤1000000000000
def Z9m(a:List Int × Unit):List Int:=a.1
def Z4l:Fs U:=fsL ZkI (fun a=> [Z9p a]) .u64 Z9m
def Zpb:ArgL (List Tree × Unit):=(.cons (aSl .tree) .nil)
def Zec(a:List Tree × Unit):Prop:=a.1.length≤1000000000000
def ZcN(a:List Tree × Unit):List Tree:=a.1
def Z6K:Fs U:=fsL Zpb (fun a=> [Zec a]) .tree ZcN
def Zbw:ArgL (Edit × Tree × Unit):=(.cons (aEl .edit) (.cons (aEl .tree) .nil))
def Z4p(a:Edit × Tree × Unit):Prop:=(Z9 a.1≤20000000000∧YI a.1∧∃ d,Z2 a.1 d=true)∧Zu a.2.1+ctE a.1≤200000000000∧rng a.2.1
def Zft(a:Edit × Tree × Unit):Nat:=2*Z9 a.1+1
def Z5Z(a:Edit × Tree × Unit):V U:= .tup [(true,(enc .tree (Zcz a.1 a.2.1))),(false,[.bool ((doE false a.1 a.2.1).isSome)])]
def ZaG:Fs U:=fs Zbw (fun a=> [Z4p a]) Z5Z
def Z7C:ArgL (Edit × Tree × Unit):=(.cons (aEl .edit) (.cons (aEl .tree) .nil))
def Z5m(a:Edit × Tree × Unit):Prop:=Edit.kind a.1=2∧(Z9 a.1≤20000000000∧YI a.1∧∃ d,Z2 a.1 d=true)∧Zu a.2.1+ctE a.1≤200000000000∧rng a.2.1
def Zc6(a:Edit × Tree × Unit):Nat:=2*Z9 a.1
def Z5f(a:Edit × Tree × Unit):V U:= .tup [(true,(enc .tree (Z3L (Zcx false a.1 a.2.1)))),(false,[.bool ((Zcx false a.1 a.2.1).isSome)])]
def ZmT:Fs U:=fs Z7C (fun a=> [Z5m a]) Z5f
def Z7B:ArgL (Edit × Tree × Unit):=(.cons (aEl .edit) (.cons (aEl .tree) .nil))
def Z5l(a:Edit × Tree × Unit):Prop:=Edit.kind a.1=3∧(Z9 a.1≤20000000000∧YI a.1∧∃ d,Z2 a.1 d=true)∧Zu a.2.1+ctE a.1≤200000000000∧rng a.2.1
def Zc5(a:Edit × Tree × Unit):Nat:=2*Z9 a.1
def Z5e(a:Edit × Tree × Unit):V U:= .tup [(true,(enc .tree (Zud a.1 (Z7G false a.1 a.2.1)))),(false,[.bool ((Z4f (Z7G false a.1 a.2.1)).isSome)])]
def ZmS:Fs U:=fs Z7B (fun a=> [Z5l a]) Z5e
def Zkq:List (FuncId × Fs U):=[]
def ZlS:Zj U:=fun i=> match i with
 | 0=> ([(0,[])],[])
 | 1=> ([(0,[]),(4,[])],[])
 | 2=> ([(2,[.wr .u64])],[])
 | 3=> ([(2,[.wr .u64])],[])
 | _=> ([],[])
abbrev ZFu(p:List Nat):=AW (ZeU Zkq) Tryz.f117 ZlS p
theorem ZAg(l:List Int)(Q:QT)(h:(((l=[])→(Q .ret (⟨[(2,.c (.mref (.e 2 0)))],[],[(.e 2 0,LC.mk (U:=U) .u64 [] 0)]⟩:LSt U)))∧(True→((([]:List Int).length+l.length)*8≤140737488355328)∧(Q .ret (⟨[(2,.c (.mref (.e 2 0)))],[],[(.e 2 0,LC.mk (U:=U) .u64 (([]:List Int)++l) (([]:List Int).length))]⟩:LSt U))))):
  ZFu [] (L2 [(0,.c (sU .u64 l .unk))] []) Q:=
 Eq.mpr (by kernel_rfl) h
def Zvn(l:List Int):Prop:=AW (ZeU Zkq) Tryz.f117 ZlS [] (Zl (ZkI.can (l,())) []) (Z4h cfg Tryz.f117.ntmps Tryz.f117.results.toList (.c (.mref (.r 0 0))) [] [(.r 0 0,LC.mk (U:=U) .u64 (Z9m (l,())) 0)])
theorem ZtE(hb:∀ (l:List Int) (_:Unit),Z9p (l,())→Zvn l):CT 117 Z4l:=
 Z6E (l:=[]) Zo rfl trivial ZlS Tryz.func117 rfl rfl 1 (fun _=> rfl) (by decide) (fun ⟨l,_⟩=> hb l ())
def Zor:List (FuncId × Fs U):=[]
def ZtX:Zj U:=fun i=> match i with
 | 0=> ([(0,[])],[])
 | 1=> ([(0,[]),(4,[])],[])
 | 2=> ([(2,[.wr .tree])],[])
 | 3=> ([(2,[.wr .tree])],[])
 | _=> ([],[])
abbrev ZGn(p:List Nat):=AW (ZeU Zor) Tryz.f175 ZtX p
theorem ZDK(l:List Tree)(Q:QT)(h:(((l=[])→(Q .ret (⟨[(2,.c (.mref (.e 2 0)))],[],[(.e 2 0,LC.mk (U:=U) .tree [] 0)]⟩:LSt U)))∧(True→((([]:List Tree).length+l.length)*56≤140737488355328)∧(Q .ret (⟨[(2,.c (.mref (.e 2 0)))],[],[(.e 2 0,LC.mk (U:=U) .tree (([]:List Tree)++l) (([]:List Tree).length))]⟩:LSt U))))):
  ZGn [] (L2 [(0,.c (sU .tree l .unk))] []) Q:=
 Eq.mpr (by kernel_rfl) h
def ZyF(l:List Tree):Prop:=AW (ZeU Zor) Tryz.f175 ZtX [] (Zl (Zpb.can (l,())) []) (Z4h cfg Tryz.f175.ntmps Tryz.f175.results.toList (.c (.mref (.r 0 0))) [] [(.r 0 0,LC.mk (U:=U) .tree (ZcN (l,())) 0)])
theorem ZwU(hb:∀ (l:List Tree) (_:Unit),Zec (l,())→ZyF l):CT 175 Z6K:=
 Z6E (l:=[]) Zo rfl trivial ZtX Tryz.func175 rfl rfl 1 (fun _=> rfl) (by decide) (fun ⟨l,_⟩=> hb l ())
def Zbj(N:Nat):List (FuncId × Fs U):=(74,fs Zbw (fun a=> [Z4p a,Zft a < N]) Z5Z) ::(115,fs Z7C (fun a=> [Z5m a,Zc6 a < N]) Z5f) ::(116,fs Z7B (fun a=> [Z5l a,Zc5 a < N]) Z5e) ::[(114,Jr),(173,Z2m),(174,Z2l),(177,Z6J),(175,Z6K),(176,Z0v),(117,Z4l)]
def ZB7:Zj U:=lvl [([2,3,4],[2,3,4]),([2,3,4,7],[2,3,4]),([2,3,4,7,8],[2,3,4]),([4,5],[4]),([2,3,4,7,11],[2,3,4]),([4,5],[4]),([2,3,4,7,19],[2,3,4]),([4,5],[4]),([2,3,4,26],[2,3,4]),([4,5],[4]),([4,5],[4])]
abbrev A74(N:Nat)(p:List Nat):=AW (Z0 (Zbj N)) Tryz.f74 ZB7 p
theorem ZFH(N:Nat)(e:Edit)(t:Tree)(Q:QT)(h:∀ y_1,y_1=e→∀ y_2,y_2=t→∀ y_3,y_3=(e.old)→(((e.kind==0)=true→(Q .ret (L2 [(4,.ptr (.loc 4) 0),(5,.c (.bool true))] [(.loc 4,(enc .tree t))])))∧((e.kind==0)=false→(((e.kind==1)=true→(Z29 (y_3,y_2,()))∧(Q .ret (L2 [(4,.ptr (.loc 4) 0),(5,.c (.bool (Jp (Zd y_3) (Zd y_2))))] [(.loc 4,(enc .tree e.new))])))∧((e.kind==1)=false→(((e.kind==2)=true→(Z5m (y_1,y_2,()))∧(Zc6 (y_1,y_2,()) < N)∧(Q .ret (L2 [(4,.ptr (.loc 4) 0),(5,.c (.bool ((Zcx false y_1 y_2).isSome)))] [(.loc 4,(enc .tree (Z3L (Zcx false y_1 y_2))))])))∧((e.kind==2)=false→(((e.kind==3)=true→(Z5l (y_1,y_2,()))∧(Zc5 (y_1,y_2,()) < N)∧(Q .ret (L2 [(4,.ptr (.loc 4) 0),(5,.c (.bool ((Z4f (Z7G false y_1 y_2)).isSome)))] [(.loc 4,(enc .tree (Zud y_1 (Z7G false y_1 y_2))))])))∧((e.kind==3)=false→(Q .ret (L2 [(4,.ptr (.loc 4) 0),(5,.c (.bool false))] [(.loc 4,[ci 0,.nils,.nils])]))))))))))):
  A74 N [] (L2 [(0,.agg (enc .edit e)),(1,.agg (enc .tree t))] []) Q:=
 Eq.mpr (by kernel_rfl) (h _ (Z6 _) _ (Zm _) _ (Zm _))
def ZCB(N:Nat)(e:Edit)(t:Tree):Prop:=AW (Z0 (Zbj N)) Tryz.f74 ZB7 [] (Zl (Zbw.can (e,t,())) []) (EQ Tryz.f74 (Z5Z (e,t,())) [])
abbrev ZFo:Prop:=∀ (N:Nat) (e:Edit) (t:Tree) (_:Unit),Z4p (e,t,())→Zft (e,t,()) < N+1→ZCB N e t
def Zia(N:Nat):List (FuncId × Fs U):=(74,fs Zbw (fun a=> [Z4p a,Zft a < N]) Z5Z) ::(115,fs Z7C (fun a=> [Z5m a,Zc6 a < N]) Z5f) ::(116,fs Z7B (fun a=> [Z5l a,Zc5 a < N]) Z5e) ::[(114,Jr),(173,Z2m),(174,Z2l),(177,Z6J),(175,Z6K),(176,Z0v),(117,Z4l)]
def Zo1:Zj U:=fun i=> match i with
 | 0=> ([(2,[]),(3,[]),(4,[])],[(.loc 2,[]),(.loc 3,[]),(.loc 4,[])])
 | 1=> ([(2,[]),(3,[]),(4,[]),(16,[])],[(.loc 2,[]),(.loc 3,[]),(.loc 4,[])])
 | 2=> ([(4,[]),(5,[])],[(.loc 4,[])])
 | 3=> ([(2,[]),(3,[]),(4,[]),(6,[])],[(.loc 2,[]),(.loc 3,[]),(.loc 4,[]),(.loc 6,[.any,.wr .u64,.wr .tree])])
 | 4=> ([(2,[]),(3,[]),(4,[]),(6,[]),(26,[]),(27,[]),(28,[])],[(.loc 2,[]),(.loc 3,[]),(.loc 4,[]),(.loc 6,[.any,.wr .u64,.wr .tree])])
 | 5=> ([(2,[]),(3,[]),(4,[]),(6,[]),(26,[]),(27,[]),(28,[]),(29,[])],[(.loc 2,[]),(.loc 3,[]),(.loc 4,[]),(.loc 6,[.any,.wr .u64,.wr .tree])])
 | 6=> ([(2,[]),(3,[]),(4,[]),(6,[]),(8,[]),(26,[]),(27,[]),(28,[])],[(.loc 2,[]),(.loc 3,[]),(.loc 4,[]),(.loc 6,[.any,.wr .u64,.wr .tree]),(.loc 8,[])])
 | 7=> ([(2,[]),(3,[]),(4,[]),(6,[]),(8,[]),(9,[]),(26,[]),(27,[]),(28,[])],[(.loc 2,[]),(.loc 3,[]),(.loc 4,[]),(.loc 6,[.any,.wr .u64,.wr .tree]),(.loc 8,[])])
 | 8=> ([(2,[]),(3,[]),(4,[]),(6,[]),(8,[]),(9,[]),(26,[]),(27,[]),(28,[]),(42,[])],[(.loc 2,[]),(.loc 3,[]),(.loc 4,[]),(.loc 6,[.any,.wr .u64,.wr .tree]),(.loc 8,[])])
 | 9=> ([(4,[]),(5,[])],[(.loc 4,[])])
 | 10=> ([(2,[]),(3,[]),(4,[]),(6,[]),(8,[]),(9,[]),(26,[]),(27,[]),(28,[]),(42,[]),(49,[])],[(.loc 2,[]),(.loc 3,[]),(.loc 4,[]),(.loc 6,[.any,.wr .u64,.wr .tree]),(.loc 8,[])])
 | 11=> ([(2,[]),(3,[]),(4,[]),(6,[]),(8,[]),(9,[]),(26,[]),(27,[]),(28,[]),(42,[])],[(.loc 2,[]),(.loc 3,[]),(.loc 4,[]),(.loc 6,[.any,.wr .u64,.wr .tree]),(.loc 8,[])])
 | 12=> ([(2,[]),(3,[]),(4,[]),(6,[]),(26,[]),(27,[]),(28,[])],[(.loc 2,[]),(.loc 3,[]),(.loc 4,[]),(.loc 6,[.any,.wr .u64,.wr .tree])])
 | 13=> ([(2,[]),(3,[]),(4,[]),(6,[]),(26,[]),(27,[]),(28,[])],[(.loc 2,[]),(.loc 3,[]),(.loc 4,[]),(.loc 6,[.any,.wr .u64,.wr .tree])])
 | 14=> ([(3,[]),(4,[]),(6,[]),(68,[]),(69,[]),(70,[])],[(.loc 3,[]),(.loc 4,[]),(.loc 6,[.any,.wr .u64,.wr .tree])])
 | 15=> ([(3,[]),(4,[]),(6,[]),(68,[]),(69,[]),(70,[]),(71,[])],[(.loc 3,[]),(.loc 4,[]),(.loc 6,[.any,.wr .u64,.wr .tree])])
 | 16=> ([(3,[]),(4,[]),(6,[]),(11,[]),(68,[]),(69,[]),(70,[])],[(.loc 3,[]),(.loc 4,[]),(.loc 6,[.any,.wr .u64,.wr .tree]),(.loc 11,[])])
 | 17=> ([(3,[]),(4,[]),(6,[]),(11,[]),(12,[]),(13,[]),(68,[]),(69,[]),(70,[])],[(.loc 3,[]),(.loc 4,[]),(.loc 6,[.any,.wr .u64,.wr .tree]),(.loc 11,[]),(.loc 12,[])])
 | 18=> ([(3,[]),(4,[]),(6,[]),(11,[]),(12,[]),(68,[]),(69,[]),(70,[]),(85,[])],[(.loc 3,[]),(.loc 4,[]),(.loc 6,[.any,.wr .u64,.wr .tree]),(.loc 11,[]),(.loc 12,[])])
 | 19=> ([(4,[]),(5,[])],[(.loc 4,[])])
 | 20=> ([(3,[]),(4,[]),(6,[]),(11,[]),(12,[]),(68,[]),(69,[]),(70,[]),(85,[]),(92,[])],[(.loc 3,[]),(.loc 4,[]),(.loc 6,[.any,.wr .u64,.wr .tree]),(.loc 11,[]),(.loc 12,[])])
 | 21=> ([(3,[]),(4,[]),(6,[]),(11,[]),(12,[]),(68,[]),(69,[]),(70,[]),(85,[])],[(.loc 3,[]),(.loc 4,[]),(.loc 6,[.any,.wr .u64,.wr .tree]),(.loc 11,[]),(.loc 12,[])])
 | 22=> ([(3,[]),(4,[]),(6,[]),(68,[]),(69,[]),(70,[])],[(.loc 3,[]),(.loc 4,[]),(.loc 6,[.any,.wr .u64,.wr .tree])])
 | 23=> ([(3,[]),(4,[]),(6,[]),(68,[]),(69,[]),(70,[])],[(.loc 3,[]),(.loc 4,[]),(.loc 6,[.any,.wr .u64,.wr .tree])])
 | 24=> ([(4,[]),(5,[])],[(.loc 4,[])])
 | _=> ([],[])
def Z7p(e:Edit)(t:Tree)(x28:Int)(rl_6_1:List Int):LSt U:=(⟨[(2,.ptr (.loc 2) 0),(3,.ptr (.loc 3) 0),(4,.ptr (.loc 4) 0),(6,.ptr (.loc 6) 0),(26,.c (sU .wedit e.words .unk)),(27,.c (ci (e.words.length:Int))),(28,.c (ci x28))],[(.loc 2,(enc .edit e)),(.loc 3,(enc .tree t)),(.loc 4,[ci 0,.nils,.nils]),(.loc 6,[ci 1,.mref (.l 6 1),.mref (.l 6 2)])],[(.l 6 1,LC.mk (U:=U) .u64 rl_6_1 0),(.l 6 2,LC.mk (U:=U) .tree t.kids 0)]⟩:LSt U)
def Z7o(e:Edit)(t:Tree)(x28:Int)(rl_6_1_a:List Int):LSt U:=(⟨[(2,.ptr (.loc 2) 0),(3,.ptr (.loc 3) 0),(4,.ptr (.loc 4) 0),(6,.ptr (.loc 6) 0),(8,.ptr (.loc 8) 0),(9,.c (.int .u64 (JY (Tree.mk t.kind t.words t.kids) (WEdit.at_ (e.words.getD x28.toNat (WEdit.mk 0 0 0 0)))))),(26,.c (sU .wedit e.words .unk)),(27,.c (ci (e.words.length:Int))),(28,.c (ci x28)),(42,.c (.bool (((mix 0 (JY (Tree.mk t.kind t.words t.kids) (WEdit.at_ (e.words.getD x28.toNat (WEdit.mk 0 0 0 0)))) (WEdit.mask (e.words.getD x28.toNat (WEdit.mk 0 0 0 0)))):Int) !=(WEdit.old (e.words.getD x28.toNat (WEdit.mk 0 0 0 0))))))],[(.loc 2,(enc .edit e)),(.loc 3,(enc .tree t)),(.loc 4,[ci 0,.nils,.nils]),(.loc 6,[ci 1,.mref (.l 6 1),.mref (.l 6 2)]),(.loc 8,(enc .wedit (e.words.getD x28.toNat (WEdit.mk 0 0 0 0))))],[(.l 6 1,LC.mk (U:=U) .u64 rl_6_1_a 0),(.l 6 2,LC.mk (U:=U) .tree t.kids 0)]⟩:LSt U)
def Z7n(e:Edit)(t:Tree)(rl_6_1:List Int)(x70_b:Int)(rl_6_2_b:List Tree):LSt U:=(⟨[(3,.ptr (.loc 3) 0),(4,.ptr (.loc 4) 0),(6,.ptr (.loc 6) 0),(68,.c (sU .kid e.kids .unk)),(69,.c (ci (e.kids.length:Int))),(70,.c (ci x70_b))],[(.loc 3,(enc .tree t)),(.loc 4,[ci 0,.nils,.nils]),(.loc 6,[ci 1,.mref (.l 6 1),.mref (.l 6 2)])],[(.l 6 1,LC.mk (U:=U) .u64 rl_6_1 0),(.l 6 2,LC.mk (U:=U) .tree rl_6_2_b 0)]⟩:LSt U)
def Z7m(e:Edit)(t:Tree)(rl_6_1:List Int)(x70_b:Int)(rl_6_2_c:List Tree):LSt U:=(⟨[(3,.ptr (.loc 3) 0),(4,.ptr (.loc 4) 0),(6,.ptr (.loc 6) 0),(11,.ptr (.loc 11) 0),(12,.ptr (.loc 12) 0),(68,.c (sU .kid e.kids .unk)),(69,.c (ci (e.kids.length:Int))),(70,.c (ci x70_b)),(85,.c (.bool (!((doE false (Edit.mk (Edit.kind (KidOf.e (e.kids.getD x70_b.toNat (KidOf.mk 0 Edit.nil)))) (Tree.mk (Tree.kind (Edit.old (KidOf.e (e.kids.getD x70_b.toNat (KidOf.mk 0 Edit.nil))))) (Tree.words (Edit.old (KidOf.e (e.kids.getD x70_b.toNat (KidOf.mk 0 Edit.nil))))) (Tree.kids (Edit.old (KidOf.e (e.kids.getD x70_b.toNat (KidOf.mk 0 Edit.nil)))))) (Tree.mk (Tree.kind (Edit.new (KidOf.e (e.kids.getD x70_b.toNat (KidOf.mk 0 Edit.nil))))) (Tree.words (Edit.new (KidOf.e (e.kids.getD x70_b.toNat (KidOf.mk 0 Edit.nil))))) (Tree.kids (Edit.new (KidOf.e (e.kids.getD x70_b.toNat (KidOf.mk 0 Edit.nil)))))) (Edit.words (KidOf.e (e.kids.getD x70_b.toNat (KidOf.mk 0 Edit.nil)))) (Edit.kids (KidOf.e (e.kids.getD x70_b.toNat (KidOf.mk 0 Edit.nil)))) (Edit.list (KidOf.e (e.kids.getD x70_b.toNat (KidOf.mk 0 Edit.nil)))) (Edit.ops (KidOf.e (e.kids.getD x70_b.toNat (KidOf.mk 0 Edit.nil))))) (Tree.mk (Tree.kind (Z0c (Tree.mk t.kind t.words t.kids) (KidOf.at_ (e.kids.getD x70_b.toNat (KidOf.mk 0 Edit.nil))))) (Tree.words (Z0c (Tree.mk t.kind t.words t.kids) (KidOf.at_ (e.kids.getD x70_b.toNat (KidOf.mk 0 Edit.nil))))) (Tree.kids (Z0c (Tree.mk t.kind t.words t.kids) (KidOf.at_ (e.kids.getD x70_b.toNat (KidOf.mk 0 Edit.nil))))))).isSome))))],[(.loc 3,(enc .tree t)),(.loc 4,[ci 0,.nils,.nils]),(.loc 6,[ci 1,.mref (.l 6 1),.mref (.l 6 2)]),(.loc 11,(enc .kid (e.kids.getD x70_b.toNat (KidOf.mk 0 Edit.nil)))),(.loc 12,(enc .tree (Zcz (Edit.mk (Edit.kind (KidOf.e (e.kids.getD x70_b.toNat (KidOf.mk 0 Edit.nil)))) (Tree.mk (Tree.kind (Edit.old (KidOf.e (e.kids.getD x70_b.toNat (KidOf.mk 0 Edit.nil))))) (Tree.words (Edit.old (KidOf.e (e.kids.getD x70_b.toNat (KidOf.mk 0 Edit.nil))))) (Tree.kids (Edit.old (KidOf.e (e.kids.getD x70_b.toNat (KidOf.mk 0 Edit.nil)))))) (Tree.mk (Tree.kind (Edit.new (KidOf.e (e.kids.getD x70_b.toNat (KidOf.mk 0 Edit.nil))))) (Tree.words (Edit.new (KidOf.e (e.kids.getD x70_b.toNat (KidOf.mk 0 Edit.nil))))) (Tree.kids (Edit.new (KidOf.e (e.kids.getD x70_b.toNat (KidOf.mk 0 Edit.nil)))))) (Edit.words (KidOf.e (e.kids.getD x70_b.toNat (KidOf.mk 0 Edit.nil)))) (Edit.kids (KidOf.e (e.kids.getD x70_b.toNat (KidOf.mk 0 Edit.nil)))) (Edit.list (KidOf.e (e.kids.getD x70_b.toNat (KidOf.mk 0 Edit.nil)))) (Edit.ops (KidOf.e (e.kids.getD x70_b.toNat (KidOf.mk 0 Edit.nil))))) (Tree.mk (Tree.kind (Z0c (Tree.mk t.kind t.words t.kids) (KidOf.at_ (e.kids.getD x70_b.toNat (KidOf.mk 0 Edit.nil))))) (Tree.words (Z0c (Tree.mk t.kind t.words t.kids) (KidOf.at_ (e.kids.getD x70_b.toNat (KidOf.mk 0 Edit.nil))))) (Tree.kids (Z0c (Tree.mk t.kind t.words t.kids) (KidOf.at_ (e.kids.getD x70_b.toNat (KidOf.mk 0 Edit.nil)))))))))],[(.l 6 1,LC.mk (U:=U) .u64 rl_6_1 0),(.l 6 2,LC.mk (U:=U) .tree rl_6_2_c 0)]⟩:LSt U)
abbrev ZiS(N:Nat)(p:List Nat):=AW (Z0 (Zia N)) Tryz.f115 Zo1 p
abbrev Z7H(N:Nat)(p:List Nat):=SW (Z0 (Zia N)) Tryz.f115 Zo1 p
theorem ZEe(N:Nat)(e:Edit)(t:Tree)(Q:QT)(h:(((t.kind !=1)=true→(Q .ret (L2 [(4,.ptr (.loc 4) 0),(5,.c (.bool false))] [(.loc 4,[ci 0,.nils,.nils])])))∧((t.kind !=1)=false→(Z9p (t.words,()))∧(Zec (t.kids,()))∧(Zf (ZiS N [1,1,1,0,1,0,0]) (Z7p e t 0 t.words) (xB 0 (Z7H N [1,1,1,1] Q)))))):
  ZiS N [] (L2 [(0,.agg (enc .edit e)),(1,.agg (enc .tree t))] []) Q:=
 Eq.mpr (by kernel_rfl) h
theorem ZrR(N:Nat)(e:Edit)(t:Tree)(x28:Int)(rl_6_1:List Int)(N0:NT)(Q:QT)(h:∀ y_1,y_1=t→∀ y_2,y_2=(e.words.getD x28.toNat (WEdit.mk 0 0 0 0))→let z1:=decide (x28 < (e.words.length:Int));let z0:=((mix 0 (JY y_1 y_2.at_) y_2.mask):Int) !=y_2.old;((z1=true→((0:Int)≤x28∧x28 < (e.words.length:Int))∧((ZaV (y_1,y_2.at_,()))∧((Z0E (0,(JY y_1 y_2.at_),y_2.mask,()))∧((z0=true→(Q .ret (L2 [(4,.ptr (.loc 4) 0),(5,.c (.bool false))] [(.loc 4,[ci 0,.nils,.nils])])))∧(z0=false→Zf (ZiS N [1,1,1,0,1,0,0,1,1,0,0,1,1,1,0,0,0]) (Z7o e t x28 rl_6_1) (xB 2 (Z7H N [1,1,1,0,1,0,0,1,1,0,0,1,1,1,1] (xB 1 (Z7H N [1,1,1,0,1,0,0,1,1,1] (xT N0 (xB 0 (Z7H N [1,1,1,1] Q))))))))))))∧(z1=false→(Zf (ZiS N [1,1,1,1,0,1,0,0]) (Z7n e t rl_6_1 0 t.kids) (xB 4 (Z7H N [1,1,1,1,1] Q)))))):
  ZiS N [1,1,1,0,1,0,0] (Z7p e t x28 rl_6_1) (xT N0 (xB 0 (Z7H N [1,1,1,1] Q))):=
 Eq.mpr (by kernel_rfl) (h _ (Zm _) _ rfl)
theorem ZrQ(N:Nat)(e:Edit)(t:Tree)(x28:Int)(rl_6_1_a:List Int)(N1 N0:NT)(Q:QT)(h:let z0:=e.words.getD x28.toNat (WEdit.mk 0 0 0 0);let z2:=JY (Tree.mk t.kind t.words t.kids) (WEdit.at_ z0);let z1:=decide (((rl_6_1_a.length:Int):Int)≤(WEdit.at_ z0));((z1=true→((rl_6_1_a.length+([0]).length)*8≤140737488355328)∧(N1 (Z7o e t x28 (rl_6_1_a++([0])))))∧(z1=false→(Z0E (z2,(WEdit.new z0),(WEdit.mask z0),()))∧((0:Int)≤(WEdit.at_ z0)∧(WEdit.at_ z0) < (rl_6_1_a.length:Int))∧((0:Nat)≤(Int.toNat (WEdit.at_ z0)))∧((InR (x28+1))∧(N0 (Z7p e t (x28+1) (List.set rl_6_1_a (Int.toNat (WEdit.at_ z0)) (mix z2 (WEdit.new z0) (WEdit.mask z0))))))))):
  ZiS N [1,1,1,0,1,0,0,1,1,0,0,1,1,1,0,0,0] (Z7o e t x28 rl_6_1_a) (xT N1 (xB 2 (Z7H N [1,1,1,0,1,0,0,1,1,0,0,1,1,1,1] (xB 1 (Z7H N [1,1,1,0,1,0,0,1,1,1] (xT N0 (xB 0 (Z7H N [1,1,1,1] Q)))))))):=
 Eq.mpr (by kernel_rfl) h
theorem ZrP(N:Nat)(e:Edit)(t:Tree)(rl_6_1:List Int)(x70_b:Int)(rl_6_2_b:List Tree)(N2:NT)(Q:QT)(h:∀ y_1,y_1=t→∀ y_2,y_2=(e.kids.getD x70_b.toNat (KidOf.mk 0 Edit.nil))→∀ y_3,y_3=(y_2.e)→∀ y_4,y_4=(Z0c y_1 y_2.at_)→let z1:= !((doE false y_3 y_4).isSome);let z0:=decide (x70_b < (e.kids.length:Int));((z0=true→((0:Int)≤x70_b∧x70_b < (e.kids.length:Int))∧((ZaU (y_1,y_2.at_,()))∧(Z4p (y_3,y_4,()))∧(Zft (y_3,y_4,()) < N)∧((z1=true→(Q .ret (L2 [(4,.ptr (.loc 4) 0),(5,.c (.bool false))] [(.loc 4,[ci 0,.nils,.nils])])))∧(z1=false→Zf (ZiS N [1,1,1,1,0,1,0,0,1,1,0,0,1,1,1,0,0,0]) (Z7m e t rl_6_1 x70_b rl_6_2_b) (xB 6 (Z7H N [1,1,1,1,0,1,0,0,1,1,0,0,1,1,1,1] (xB 5 (Z7H N [1,1,1,1,0,1,0,0,1,1,1] (xT N2 (xB 4 (Z7H N [1,1,1,1,1] Q)))))))))))∧(z0=false→(Q .ret (L2 [(4,.ptr (.loc 4) 0),(5,.c (.bool true))] [(.loc 4,[ci 1,sU .u64 rl_6_1 (.own (.l 4 1)),sU .tree rl_6_2_b (.own (.l 4 2))])]))))):
  ZiS N [1,1,1,1,0,1,0,0] (Z7n e t rl_6_1 x70_b rl_6_2_b) (xT N2 (xB 4 (Z7H N [1,1,1,1,1] Q))):=
 Eq.mpr (by kernel_rfl) (h _ (Zm _) _ rfl _ (Z6 _) _ (Zm _))
theorem ZrO(N:Nat)(e:Edit)(t:Tree)(rl_6_1:List Int)(x70_b:Int)(rl_6_2_c:List Tree)(N3 N2:NT)(Q:QT)(h:∀ y_1,y_1=t→∀ y_2,y_2=(e.kids.getD x70_b.toNat (KidOf.mk 0 Edit.nil))→∀ y_3,y_3=(y_2.e)→∀ y_4,y_4=(Z0c y_1 y_2.at_)→∀ y_5,y_5=(Zcz y_3 y_4)→let z0:=decide (((rl_6_2_c.length:Int):Int)≤y_2.at_);((z0=true→((rl_6_2_c.length+([(Tree.mk 0 [] [])]).length)*56≤140737488355328)∧(N3 (Z7m e t rl_6_1 x70_b (rl_6_2_c++([(Tree.mk 0 [] [])])))))∧(z0=false→((0:Int)≤y_2.at_∧y_2.at_ < (rl_6_2_c.length:Int))∧((0:Nat)≤(Int.toNat y_2.at_))∧((InR (x70_b+1))∧(N2 (Z7n e t rl_6_1 (x70_b+1) (List.set rl_6_2_c (Int.toNat y_2.at_) y_5))))))):
  ZiS N [1,1,1,1,0,1,0,0,1,1,0,0,1,1,1,0,0,0] (Z7m e t rl_6_1 x70_b rl_6_2_c) (xT N3 (xB 6 (Z7H N [1,1,1,1,0,1,0,0,1,1,0,0,1,1,1,1] (xB 5 (Z7H N [1,1,1,1,0,1,0,0,1,1,1] (xT N2 (xB 4 (Z7H N [1,1,1,1,1] Q)))))))):=
 Eq.mpr (by kernel_rfl) (h _ (Zm _) _ rfl _ (Z6 _) _ (Zm _) _ (Zm _))
def Zz9(N:Nat)(e:Edit)(t:Tree):Prop:=AW (Z0 (Zia N)) Tryz.f115 Zo1 [] (Zl (Z7C.can (e,t,())) []) (EQ Tryz.f115 (Z5f (e,t,())) [])
abbrev ZA6:Prop:=∀ (N:Nat) (e:Edit) (t:Tree) (_:Unit),Z5m (e,t,())→Zc6 (e,t,()) < N+1→Zz9 N e t
def Zi9(N:Nat):List (FuncId × Fs U):=(74,fs Zbw (fun a=> [Z4p a,Zft a < N]) Z5Z) ::(115,fs Z7C (fun a=> [Z5m a,Zc6 a < N]) Z5f) ::(116,fs Z7B (fun a=> [Z5l a,Zc5 a < N]) Z5e) ::[(114,Jr),(173,Z2m),(174,Z2l),(177,Z6J),(175,Z6K),(176,Z0v),(117,Z4l)]
def Zo0:Zj U:=fun i=> match i with
 | 0=> ([(2,[]),(3,[]),(4,[])],[(.loc 2,[]),(.loc 3,[]),(.loc 4,[])])
 | 1=> ([(2,[]),(3,[]),(4,[]),(18,[])],[(.loc 2,[]),(.loc 3,[]),(.loc 4,[])])
 | 2=> ([(4,[]),(5,[])],[(.loc 4,[])])
 | 3=> ([(2,[]),(3,[]),(4,[]),(6,[])],[(.loc 2,[]),(.loc 3,[]),(.loc 4,[]),(.loc 6,[])])
 | 4=> ([(2,[]),(4,[]),(6,[]),(7,[])],[(.loc 2,[]),(.loc 4,[]),(.loc 6,[])])
 | 5=> ([(4,[]),(6,[]),(7,[]),(26,[]),(27,[]),(28,[])],[(.loc 4,[]),(.loc 6,[.any,.any,.own .tree])])
 | 6=> ([(4,[]),(6,[]),(7,[]),(26,[]),(27,[]),(28,[]),(29,[])],[(.loc 4,[]),(.loc 6,[])])
 | 7=> ([(4,[]),(6,[]),(7,[]),(9,[]),(26,[]),(27,[]),(28,[])],[(.loc 4,[]),(.loc 6,[]),(.loc 9,[])])
 | 8=> ([(4,[]),(6,[]),(7,[]),(9,[]),(10,[]),(26,[]),(27,[]),(28,[])],[(.loc 4,[]),(.loc 6,[]),(.loc 9,[])])
 | 9=> ([(4,[]),(6,[]),(7,[]),(9,[]),(10,[]),(26,[]),(27,[]),(28,[]),(35,[])],[(.loc 4,[]),(.loc 6,[]),(.loc 9,[])])
 | 10=> ([(4,[]),(6,[]),(7,[]),(9,[]),(10,[]),(26,[]),(27,[]),(28,[]),(35,[]),(36,[])],[(.loc 4,[]),(.loc 6,[]),(.loc 9,[])])
 | 11=> ([(4,[]),(6,[]),(7,[]),(26,[]),(27,[]),(28,[]),(97,[])],[(.loc 4,[]),(.loc 6,[])])
 | 12=> ([(4,[]),(6,[]),(7,[]),(9,[]),(10,[]),(26,[]),(27,[]),(28,[]),(35,[]),(44,[])],[(.loc 4,[]),(.loc 6,[]),(.loc 9,[])])
 | 13=> ([(4,[]),(6,[]),(7,[]),(9,[]),(10,[]),(26,[]),(27,[]),(28,[]),(49,[])],[(.loc 4,[]),(.loc 6,[]),(.loc 9,[])])
 | 14=> ([(4,[]),(6,[]),(7,[]),(9,[]),(10,[]),(26,[]),(27,[]),(28,[]),(49,[])],[(.loc 4,[]),(.loc 6,[]),(.loc 9,[])])
 | 15=> ([(4,[]),(6,[]),(7,[]),(9,[]),(10,[]),(26,[]),(27,[]),(28,[]),(49,[])],[(.loc 4,[]),(.loc 6,[]),(.loc 9,[])])
 | 16=> ([(4,[]),(6,[]),(7,[]),(9,[]),(10,[]),(26,[]),(27,[]),(28,[]),(54,[])],[(.loc 4,[]),(.loc 6,[]),(.loc 9,[])])
 | 17=> ([(4,[]),(5,[])],[(.loc 4,[])])
 | 18=> ([(4,[]),(6,[]),(7,[]),(9,[]),(10,[]),(26,[]),(27,[]),(28,[])],[(.loc 4,[]),(.loc 6,[]),(.loc 9,[])])
 | 19=> ([(4,[]),(6,[]),(7,[]),(9,[]),(11,[]),(26,[]),(27,[]),(28,[])],[(.loc 4,[]),(.loc 6,[]),(.loc 9,[])])
 | 20=> ([(4,[]),(6,[]),(7,[]),(12,[]),(13,[]),(26,[]),(27,[]),(28,[])],[(.loc 4,[]),(.loc 6,[]),(.loc 12,[])])
 | 21=> ([(4,[]),(6,[]),(7,[]),(12,[]),(26,[]),(27,[]),(28,[]),(72,[])],[(.loc 4,[]),(.loc 6,[]),(.loc 12,[])])
 | 22=> ([(4,[]),(5,[])],[(.loc 4,[])])
 | 23=> ([(4,[]),(6,[]),(7,[]),(26,[]),(27,[]),(28,[]),(97,[])],[(.loc 4,[]),(.loc 6,[])])
 | 24=> ([(4,[]),(6,[]),(7,[]),(9,[]),(11,[]),(26,[]),(27,[]),(28,[]),(80,[])],[(.loc 4,[]),(.loc 6,[]),(.loc 9,[])])
 | 25=> ([(4,[]),(6,[]),(7,[]),(26,[]),(27,[]),(28,[]),(97,[])],[(.loc 4,[]),(.loc 6,[])])
 | 26=> ([(4,[]),(6,[]),(7,[]),(9,[]),(11,[]),(26,[]),(27,[]),(28,[]),(89,[])],[(.loc 4,[]),(.loc 6,[]),(.loc 9,[])])
 | 27=> ([(4,[]),(6,[]),(7,[]),(26,[]),(27,[]),(28,[]),(97,[])],[(.loc 4,[]),(.loc 6,[])])
 | 28=> ([(4,[]),(5,[])],[(.loc 4,[])])
 | 29=> ([(4,[]),(6,[]),(7,[]),(26,[]),(27,[]),(28,[])],[(.loc 4,[]),(.loc 6,[.any,.any,.own .tree])])
 | 30=> ([(4,[]),(5,[])],[(.loc 4,[])])
 | _=> ([],[])
def Z1y(e:Edit)(t:Tree)(x28:Int)(x7 ml6_2:List Tree):LSt U:=(L2 [(4,.ptr (.loc 4) 0),(6,.ptr (.loc 6) 0),(7,.c (sU .tree x7 .unk)),(26,.c (sU .op e.ops .unk)),(27,.c (ci (e.ops.length:Int))),(28,.c (ci x28))] [(.loc 4,[ci 0,.nils,.nils]),(.loc 6,[ci t.kind,.nils,sU .tree ml6_2 (.own (.l 6 2))])])
def Z35(e:Edit)(t:Tree)(x28:Int)(x7_a ml6_2_a:List Tree)(v97_a:V U):LSt U:=(L2 [(4,.ptr (.loc 4) 0),(6,.ptr (.loc 6) 0),(7,.c (sU .tree x7_a .unk)),(26,.c (sU .op e.ops .unk)),(27,.c (ci (e.ops.length:Int))),(28,.c (ci x28)),(97,v97_a)] [(.loc 4,[ci 0,.nils,.nils]),(.loc 6,[ci t.kind,.nils,sU .tree ml6_2_a (.own (.l 6 2))])])
def Z7l(e:Edit)(t:Tree)(x28:Int)(x7 ml6_2:List Tree)(x10_b:Int)(v49_b:V U):LSt U:=(L2 [(4,.ptr (.loc 4) 0),(6,.ptr (.loc 6) 0),(7,.c (sU .tree x7 .unk)),(9,.ptr (.loc 9) 0),(10,.c (ci x10_b)),(26,.c (sU .op e.ops .unk)),(27,.c (ci (e.ops.length:Int))),(28,.c (ci x28)),(49,v49_b)] [(.loc 4,[ci 0,.nils,.nils]),(.loc 6,[ci t.kind,.nils,sU .tree ml6_2 (.own (.l 6 2))]),(.loc 9,(enc .op (e.ops.getD x28.toNat Op.nil)))])
abbrev Zby(N:Nat)(p:List Nat):=AW (Z0 (Zi9 N)) Tryz.f116 Zo0 p
abbrev ZiR(N:Nat)(p:List Nat):=SW (Z0 (Zi9 N)) Tryz.f116 Zo0 p
theorem ZEd(N:Nat)(e:Edit)(t:Tree)(Q:QT)(h:(((t.kind !=e.list)=true→(Q .ret (L2 [(4,.ptr (.loc 4) 0),(5,.c (.bool false))] [(.loc 4,[ci 0,.nils,.nils])])))∧((t.kind !=e.list)=false→(Zf (Zby N [1,1,1,1,0,1,0,0]) (Z1y e t 0 t.kids []) (xB 0 (ZiR N [1,1,1,1,1] Q)))))):
  Zby N [] (L2 [(0,.agg (enc .edit e)),(1,.agg (enc .tree t))] []) Q:=
 Eq.mpr (by kernel_rfl) h
theorem ZrM(N:Nat)(e:Edit)(t:Tree)(x28:Int)(x7 ml6_2:List Tree)(N0:NT)(Q:QT)(h:∀ y_1,y_1=(e.ops.getD x28.toNat Op.nil)→let z2:=decide (x28 < (e.ops.length:Int));let z1:=xT N0 (xB 0 (ZiR N [1,1,1,1,1] Q));let z0:=xB 1 (ZiR N [1,1,1,1,0,1,0,0,1,1,1] z1);((z2=true→((0:Int)≤x28∧x28 < (e.ops.length:Int))∧(((y_1.kind==2)=true→((ml6_2.length+y_1.l.length)*56≤140737488355328)∧(Zby N [1,1,1,1,0,1,0,0,1,1,1] (Z35 e t x28 x7 (ml6_2++y_1.l) .junk) z1))∧((y_1.kind==2)=false→(((y_1.kind==1)=true→(Zby N [1,1,1,1,0,1,0,0,1,1,0,0,1,1,1] (Z7l e t x28 x7 ml6_2 (y_1.l.length:Int) .junk) z0))∧((y_1.kind==1)=false→(((y_1.kind==3)=true→(Zby N [1,1,1,1,0,1,0,0,1,1,0,0,1,1,1] (Z7l e t x28 x7 ml6_2 1 (.c (.bool (y_1.kind==3)))) z0))∧((y_1.kind==3)=false→Zby N [1,1,1,1,0,1,0,0,1,1,0,0,1,1,1] (Z7l e t x28 x7 ml6_2 y_1.n (.c (.bool (y_1.kind==3)))) z0)))))))∧(z2=false→(Q .ret (L2 [(4,.ptr (.loc 4) 0),(5,.c (.bool (((x7.length:Int):Int)==0)))] [(.loc 4,[ci t.kind,.nils,sU .tree ml6_2 (.own (.l 4 2))])]))))):
  Zby N [1,1,1,1,0,1,0,0] (Z1y e t x28 x7 ml6_2) (xT N0 (xB 0 (ZiR N [1,1,1,1,1] Q))):=
 Eq.mpr (by kernel_rfl) (h _ rfl)
theorem ZrN(N:Nat)(e:Edit)(t:Tree)(x28:Int)(x7_a ml6_2_a:List Tree)(v97_a:V U)(N0:NT)(Q:QT)(h:(InR (x28+1))∧(N0 (Z1y e t (x28+1) x7_a ml6_2_a))):
  Zby N [1,1,1,1,0,1,0,0,1,1,1] (Z35 e t x28 x7_a ml6_2_a v97_a) (xT N0 (xB 0 (ZiR N [1,1,1,1,1] Q))):=
 Eq.mpr (by kernel_rfl) h
theorem Zd7(N:Nat)(e:Edit)(t:Tree)(x28:Int)(x7 ml6_2:List Tree)(x10_b:Int)(v49_b:V U)(N0:NT)(Q:QT)(h:∀ y_1,y_1=(e.ops.getD x28.toNat Op.nil)→∀ y_2,y_2=(List.getD (List.take x10_b.toNat x7) (Int.toNat 0) Tree.nil)→∀ y_3,y_3=y_2→∀ y_4,y_4=(y_1.e)→∀ y_5,y_5=(eqX (Zb y_1.l) (Zb (List.take x10_b.toNat x7)))→∀ y_6,y_6=(Zcz y_4 y_3)→let z5:= !((doE false y_4 y_3).isSome);let z4:=decide (((x7.length:Int):Int) < x10_b);let z3:=List.drop x10_b.toNat x7;let z2:=List.take x10_b.toNat x7;let z1:=xT N0 (xB 0 (ZiR N [1,1,1,1,1] Q));let z0:=Q .ret (L2 [(4,.ptr (.loc 4) 0),(5,.c (.bool false))] [(.loc 4,[ci 0,.nils,.nils])]);((z4=true→z0)∧(z4=false→(((0:Int)≤x10_b∧x10_b≤(x7.length:Int))∧((0:Int)≤x10_b∧x10_b≤(x7.length:Int))∧(((y_1.kind==0)=true→((ml6_2.length+z2.length)*56≤140737488355328)∧(Zby N [1,1,1,1,0,1,0,0,1,1,1] (Z35 e t x28 z3 (ml6_2++z2) .junk) z1))∧((y_1.kind==0)=false→(((y_1.kind==1)=true→(Zeb (y_1.l,z2,(),()))∧(((!y_5)=true→z0)∧((!y_5)=false→Zby N [1,1,1,1,0,1,0,0,1,1,1] (Z35 e t x28 z3 ml6_2 (.c (.bool (!y_5)))) z1)))∧((y_1.kind==1)=false→((0:Int)≤0∧0 < (z2.length:Int))∧(Z4p (y_4,y_3,()))∧(Zft (y_4,y_3,()) < N)∧((z5=true→z0)∧(z5=false→((ml6_2.length+([y_6]).length)*56≤140737488355328)∧(Zby N [1,1,1,1,0,1,0,0,1,1,1] (Z35 e t x28 z3 (ml6_2++([y_6])) .junk) z1))))))))))):
  Zby N [1,1,1,1,0,1,0,0,1,1,0,0,1,1,1] (Z7l e t x28 x7 ml6_2 x10_b v49_b) (xB 1 (ZiR N [1,1,1,1,0,1,0,0,1,1,1] (xT N0 (xB 0 (ZiR N [1,1,1,1,1] Q))))):=
 Eq.mpr (by kernel_rfl) (h _ rfl _ rfl _ (Zm _) _ (Z6 _) _ rfl _ (Zm _))
def Zz8(N:Nat)(e:Edit)(t:Tree):Prop:=AW (Z0 (Zi9 N)) Tryz.f116 Zo0 [] (Zl (Z7B.can (e,t,())) []) (EQ Tryz.f116 (Z5e (e,t,())) [])
abbrev ZA5:Prop:=∀ (N:Nat) (e:Edit) (t:Tree) (_:Unit),Z5l (e,t,())→Zc5 (e,t,()) < N+1→Zz8 N e t
theorem Zws(Zit:CT 114 Jr)(ZqW:CT 173 Z2m)(ZqV:CT 174 Z2l)(ZBO:CT 177 Z6J)(ZBP:CT 175 Z6K)(Zis:CT 176 Z0v)(ZuR:CT 117 Z4l)(b74:ZFo)(ZCj:ZA6)(ZCi:ZA5):
  CT 74 ZaG∧CT 115 ZmT∧CT 116 ZmS:=by
 have h82 : ∃ fn, Tryz.prog.funcs[(74 : FuncId)]? = some fn ∧ fn.body.isSome = true ∧ (fn.name == "runtime.NumGoroutine") = false := ⟨Tryz.f74, Tryz.func74, rfl, rfl⟩
 have h113 : ∃ fn, Tryz.prog.funcs[(115 : FuncId)]? = some fn ∧ fn.body.isSome = true ∧ (fn.name == "runtime.NumGoroutine") = false := ⟨Tryz.f115, Tryz.func115, rfl, rfl⟩
 have h114 : ∃ fn, Tryz.prog.funcs[(116 : FuncId)]? = some fn ∧ fn.body.isSome = true ∧ (fn.name == "runtime.NumGoroutine") = false := ⟨Tryz.f116, Tryz.func116, rfl, rfl⟩
 have key:∀ N,CT 74 (fs Zbw (fun a=> [Z4p a,Zft a < N]) Z5Z)∧CT 115 (fs Z7C (fun a=> [Z5m a,Zc6 a < N]) Z5f)∧CT 116 (fs Z7B (fun a=> [Z5l a,Zc5 a < N]) Z5e):=by
  intro N
  induction N with
  | zero=> exact ⟨JG h82,JG h113,JG h114⟩
  | succ N ih=>
   have kn:=Z0x (l:=Zbj N) ⟨ih.1,ih.2.1,ih.2.2,Zit,ZqW,ZqV,ZBO,ZBP,Zis,ZuR,trivial⟩
   exact ⟨ZO (Γ:=Z0 (Zbj N)) Zo rfl kn ZB7 Tryz.func74 rfl rfl (fun a=> by show 2≤_;decide) (fun ⟨e,t,_⟩ h=> b74 N e t () h.1 h.2.1),
    ZO (Γ:=Z0 (Zbj N)) Zo rfl kn Zo1 Tryz.func115 rfl rfl (fun a=> by show 2≤_;decide) (fun ⟨e,t,_⟩ h=> ZCj N e t () h.1 h.2.1),
    ZO (Γ:=Z0 (Zbj N)) Zo rfl kn Zo0 Tryz.func116 rfl rfl (fun a=> by show 2≤_;decide) (fun ⟨e,t,_⟩ h=> ZCi N e t () h.1 h.2.1)⟩
 exact ⟨JH h82 fun N=> (key N).1,JH h113 fun N=> (key N).2.1,JH h114 fun N=> (key N).2.2⟩
end
end Go.AM.YtpjenobkibfpcaaGreat
namespace Go.AM.YtpjenobkibfpcaaGreat
open Go.AM Go.Proofs
noncomputable section
def Zv7:ArgL (Edit × Tree × Unit):=(.cons (aEl .edit) (.cons (aEl .tree) .nil))
def ZbX(a:Edit × Tree × Unit):Prop:=(Z9 a.1≤20000000000∧YI a.1∧∃ d,Z2 a.1 d=true)∧Zu a.2.1+ctE a.1≤200000000000∧rng a.2.1
def Znf(a:Edit × Tree × Unit):V U:= .tup [(true,(enc .tree (Z3L ((doE false a.1 a.2.1).map Zd)))),(false,[.bool ((doE false a.1 a.2.1).isSome)])]
def Z53:Fs U:=fs Zv7 (fun a=> [ZbX a]) Znf
def Zus:List (FuncId × Fs U):=[(75,Z0C),(74,ZaG)]
def ZBd:Zj U:=lvl [([2,3,4],[2,3,4]),([4,6,7],[4,6]),([4,6,15],[4,6]),([4,5],[4]),([4,5],[4])]
abbrev A25(p:List Nat):=AW (Z0 Zus) Tryz.f25 ZBd p
theorem ZFW(e:Edit)(t:Tree)(Q:QT)(h:∀ y_1,y_1=e→∀ y_2,y_2=t→∀ y_3,y_3=(Zcz y_1 y_2)→let z0:= !((doE false y_1 y_2).isSome);((Z4p (y_1,y_2,()))∧((z0=true→(Q .ret (L2 [(4,.ptr (.loc 4) 0),(5,.c (.bool false))] [(.loc 4,[ci 0,.nils,.nils])])))∧(z0=false→(Z1h (y_3,()))∧(Q .ret (L2 [(4,.ptr (.loc 4) 0),(5,.c (.bool true))] [(.loc 4,(enc .tree (Zd y_3)))])))))):
  A25 [] (L2 [(0,.agg (enc .edit e)),(1,.agg (enc .tree t))] []) Q:=
 Eq.mpr (by kernel_rfl) (h _ (Z6 _) _ (Zm _) _ (Zm _))
def ZCQ(e:Edit)(t:Tree):Prop:=AW (Z0 Zus) Tryz.f25 ZBd [] (Zl (Zv7.can (e,t,())) []) (EQ Tryz.f25 (Znf (e,t,())) [])
theorem ZAX(c75:CT 75 Z0C)(c74:CT 74 ZaG)(hb:∀ (e:Edit) (t:Tree) (_:Unit),ZbX (e,t,())→ZCQ e t):CT 25 Z53:=
 Z4 (l:=[(75,Z0C),(74,ZaG)]) Zo rfl (⟨c75,c74,trivial⟩) ZBd Tryz.func25 rfl rfl 2 (fun _=> rfl) (by decide) (fun ⟨e,t,_⟩=> hb e t ())
end
end Go.AM.YtpjenobkibfpcaaGreat
namespace Go.AM.YtpjenobkibfpcaaGreat
open Go.AM Go.Proofs
theorem ZuR:Contract Tryz.prog cfg 117 Z4l:=by
 refine ZtE ?_
 intro l _ hp
 simp only [Z9p] at hp
 refine ZAg _ _ ⟨fun h=> ?_,fun _=> ⟨by simp only [List.length_nil];omega,?_⟩⟩
 ·subst h
  simp only [Z9m]
  (repeat' (first | exact trivial | exact rfl | apply And.intro))
 ·simp only [Z9m]
  (repeat' (first | exact trivial | exact rfl | apply And.intro))
theorem ZBP:Contract Tryz.prog cfg 175 Z6K:=by
 refine ZwU ?_
 intro l _ hp
 simp only [Zec] at hp
 refine ZDK _ _ ⟨fun h=> ?_,fun _=> ⟨by simp only [List.length_nil];omega,?_⟩⟩
 ·subst h
  simp only [ZcN]
  (repeat' (first | exact trivial | exact rfl | apply And.intro))
 ·simp only [ZcN]
  (repeat' (first | exact trivial | exact rfl | apply And.intro))
theorem ZfU{α:Type}(z:α){l:List α}{i:Nat}(h:i < l.length)(x:α):Yj z l i x=l.set i x:=by
 simp only [Yj];rw [show i+1 - l.length=0 by omega];simp
theorem ZbF{α:Type}(z:α){l:List α}{i:Nat}(h:l.length≤i)(x:α):Yj z (l++[z]) i x=Yj z l i x:=by
 simp only [Yj,List.length_append,List.length_singleton,List.append_assoc]
 rw [show i+1 - l.length=(i+1 - (l.length+1))+1 by omega,List.replicate_succ]
 try rfl
theorem Ztz(t:Tree):t.words.length+Zh t.kids+1=Zu t:=by obtain ⟨k,w,ks⟩:=t;simp only [Zu,Tree.words_mk,Tree.kids_mk];omega
theorem Zsj{t:Tree}(h:rng t):isI t.kind∧(∀ x∈t.words,isW x)∧Yq t.kids:=by obtain ⟨k,w,ks⟩:=t;exact h
theorem Zn5{ks:List Tree}(h:Yq ks)(i:Nat):rng (ks.getD i Tree.nil):=by
 by_cases hi:i < ks.length
 ·exact JI h (Zi hi _)
 ·rw [List.getD_eq_getElem?_getD,List.getElem?_eq_none (by omega)]
  refine ⟨by decide,by simp [Tree.nil],trivial⟩
theorem Zk6(ks:List Tree)(i:Nat):Zu (ks.getD i Tree.nil)≤Zh ks+1:=by
 by_cases hi:i < ks.length
 ·have:=YO (Zi hi Tree.nil);omega
 ·rw [List.getD_eq_getElem?_getD,List.getElem?_eq_none (by omega)]
  simp [Tree.nil,Zu,Zh]
theorem ZqH(t:Tree){i:Int}(h:0≤i):Z0c t i=t.kids.getD i.toNat Tree.nil:=by unfold Z0c;rw [if_neg (by omega)]
theorem ZkZ(t:Tree){i:Int}(h:0≤i):JY t i=t.words.getD i.toNat 0:=by unfold JY;rw [if_neg (by omega)]
theorem Zvq{l:List Int}(h:∀ x∈l,isW x)(i:Nat):isW (l.getD i 0):=by
 by_cases hi:i < l.length
 ·exact h _ (Zi hi _)
 ·rw [List.getD_eq_getElem?_getD,List.getElem?_eq_none (by omega)];show 0≤(0:Int)∧(0:Int) < _;omega
theorem b74:ZFo:=by
 intro N e t _ hp hN
 simp only [Z4p,Zft] at hp hN
 obtain ⟨⟨p1,p2,d,p3⟩,p4,p5⟩:=hp
 have h1:=Yg e
 have h2:=Z3I p2
 have hd:=Z4g false e t
 rw [Z0O] at hd
 refine ZFH _ _ _ _ ?_
 rintro y1 hy1 y2 hy2 y3 hy3
 subst hy1 hy2 hy3
 (simp only [vcT,vcS])
 refine ⟨fun hk=> ?_,fun hk=> ⟨fun hk1=> ⟨by simp only [Z29];omega,?_⟩,fun hk1=> ⟨fun hk2=> ⟨by simp only [Z5m];exact ⟨hk2,⟨p1,p2,d,p3⟩,p4,p5⟩,by simp only [Zc6];omega,?_⟩,fun hk2=> ⟨fun hk3=> ⟨by simp only [Z5l];exact ⟨hk3,⟨p1,p2,d,p3⟩,p4,p5⟩,by simp only [Zc5];omega,?_⟩,fun hk3=> ?_⟩⟩⟩⟩
 ·rw [if_pos hk] at hd
  simp only [Z5Z,Zcz,if_pos hk,hd]
  (repeat' (first | exact trivial | exact rfl | apply And.intro))
 ·rw [if_neg hk,if_pos hk1] at hd
  simp only [Z5Z,Zcz,if_neg hk,if_pos hk1,hd]
  cases Jp (Zd y1.old) (Zd y2) <;> (repeat' (first | exact trivial | exact rfl | apply And.intro))
 ·rw [if_neg hk,if_neg hk1,if_pos hk2] at hd
  simp only [Z5Z,Zcz,if_neg hk,if_neg hk1,if_pos hk2,hd]
  (repeat' (first | exact trivial | exact rfl | apply And.intro))
 ·rw [if_neg hk,if_neg hk1,if_neg hk2,if_pos hk3] at hd
  simp only [Z5Z,Zcz,if_neg hk,if_neg hk1,if_neg hk2,if_pos hk3,hd]
  have e2:(if y2.kind=y1.list then (Z4f (J0 false y1.ops y2.kids [])).map fun b=> Tree.mk y1.list [] b else none).isSome=(Z4f (Z7G false y1 y2)).isSome:=by
   unfold Z7G
   split
   ·cases Z4f (J0 false y1.ops y2.kids []) <;> rfl
   ·try rfl
  rw [e2]
  (repeat' (first | exact trivial | exact rfl | apply And.intro))
 ·rw [if_neg hk,if_neg hk1,if_neg hk2,if_neg hk3] at hd
  simp only [Z5Z,Zcz,if_neg hk,if_neg hk1,if_neg hk2,if_neg hk3,hd]
  (repeat' (first | exact trivial | exact rfl | apply And.intro))
theorem ZCj:ZA6:=by
 intro N e t _ hp hN
 simp only [Z5m,Zc6] at hp hN
 obtain ⟨k2,⟨p1,p2,d,p3⟩,p4,p5⟩:=hp
 have h1:=Yg e
 have h2:=Y2 e.kids
 have h3:=Ztz t
 have h4:=ZA t.kids
 have r2:=Z3I p2
 have rt:=Zsj p5
 have ri:=Zz p3
 refine ZEe _ _ _ _ ?_
 (simp only [vcT,vcS])
 have no:Zcx false e t=none→Jx cfg Tryz.f115.ntmps Tryz.f115.results.toList (Z5f (e,t,())) [] .ret (⟨[(4,.ptr (.loc 4) 0),(5,.c (.bool false))],[((.loc 4),[.int .i64 0,.nils,.nils])],[]⟩:LSt U):=by
  intro hs
  simp only [Z5f,hs]
  (repeat' (first | exact trivial | exact rfl | apply And.intro))
 refine ⟨fun hk=> no (by unfold Zcx;rw [if_neg hk]),fun hk=> ?_⟩
 have hk:t.kind=1:=by simpa using hk
 refine ⟨by simp only [Z9p];omega,by simp only [Zec];omega,?_⟩
 refine Za (ι:=Int × List Int) (fun s=> Z7p e t s.1 s.2) (fun s=> 0≤s.1∧s.1≤e.words.length∧wsD t.words (e.words.drop s.1.toNat) s.2=wsD t.words e.words t.words∧s.2.length≤t.words.length+65536) (fun s=> ((e.words.length:Int) - s.1).toNat) (0,t.words) rfl ⟨by simp,by simp,by simp,by simp⟩ ?_
 rintro ⟨i,out⟩ ⟨f1,f2,f3,f4⟩
 dsimp only at f1 f2 f3 f4
 refine ZrR _ _ _ _ _ _ _ ?_
 rintro y1 hy1 y2 hy2
 subst hy1
 (simp only [vcT,vcS])
 refine ⟨fun hi=> ?_,fun hi=> ?_⟩
 ·have hmem:=Zi (l:=e.words) (i:=i.toNat) (by omega) (WEdit.mk 0 0 0 0)
  rw [Y3 f1 hi (WEdit.mk 0 0 0 0),←hy2] at f3
  rw [←hy2] at hmem
  have hw:=JX ri.words y2 hmem
  obtain ⟨g1,g2,g3,g4⟩:=r2.2.2.2.1 y2 hmem
  have hat:JY y1 y2.at_=y1.words.getD y2.at_.toNat 0:=ZkZ y1 (by omega)
  have hwi:=Zvq rt.2.1 y2.at_.toNat
  rw [wsD] at f3
  rw [hat]
  unfold isW at g3 g4 hwi
  refine ⟨⟨f1,hi⟩,by simp only [ZaV],by simp only [Z0E];omega,fun hne=> no ?_,fun heq=> ?_⟩
  ·rw [if_neg hne] at f3
   unfold Zcx
   rw [if_pos hk,←f3]
   try rfl
  ·have heq:mix 0 (y1.words.getD y2.at_.toNat 0) y2.mask=y2.old:=by simpa using heq
   rw [if_pos heq] at f3
   refine Za (ι:=List Int) (fun s=> Z7o e y1 i s) (fun s=> (∀ v,Yj 0 s y2.at_.toNat v=Yj 0 out y2.at_.toNat v)∧s.length≤y1.words.length+65536) (fun s=> (y2.at_+1 - s.length).toNat) out rfl ⟨fun v=> rfl,f4⟩ ?_
   rintro s ⟨q1,q2⟩
   refine ZrQ _ _ _ _ _ _ _ _ ?_
   (simp only [Tree.eta,Edit.eta,Tree.kind_mk,Tree.words_mk,Tree.kids_mk])
   rw [←hy2,hat]
   (simp only [vcT,vcS])
   refine ⟨fun hl=> ⟨by simp;omega,s++[0],rfl,⟨fun v=> ?_,by simp;omega⟩,by simp;omega⟩,fun hl=> ?_⟩
   ·rw [ZbF 0 (by omega),q1]
   ·have hl:y2.at_ < s.length:=by omega
    refine ⟨by simp only [Z0E];omega,by omega,by omega,by unfold InR;omega,(i+1,s.set y2.at_.toNat (mix (y1.words.getD y2.at_.toNat 0) y2.new y2.mask)),rfl,⟨by dsimp only;omega,by dsimp only;omega,?_,by simp only [List.length_set];omega⟩,by dsimp only;omega⟩
    dsimp only
    rw [←f3,←ZfU 0 (by omega),q1]
 ·rw [List.drop_of_length_le (by omega),wsD] at f3
  refine Za (ι:=Int × List Tree) (fun s=> Z7n e y1 out s.1 s.2) (fun s=> 0≤s.1∧s.1≤e.kids.length∧Z2c false y1.kids (e.kids.drop s.1.toNat) s.2=Z2c false y1.kids e.kids y1.kids∧s.2.length≤y1.kids.length+65536) (fun s=> ((e.kids.length:Int) - s.1).toNat) (0,y1.kids) rfl ⟨by simp,by simp,by simp,by simp⟩ ?_
  rintro ⟨j,ks⟩ ⟨e1,e2,e3,e4⟩
  dsimp only at e1 e2 e3 e4
  refine ZrP _ _ _ _ _ _ _ _ ?_
  rintro y1 hy1 y2 hy2 y3 hy3 y4 hy4
  subst hy1
  (simp only [vcT,vcS])
  refine ⟨fun hj=> ?_,fun hj=> ?_⟩
  ·have hmem:=Zi (l:=e.kids) (i:=j.toNat) (by omega) (KidOf.mk 0 Edit.nil)
   rw [Y3 e1 hj (KidOf.mk 0 Edit.nil),←hy2] at e3
   rw [←hy2] at hmem
   have hk2:=Y1 ri.kids y2 hmem
   have hm:=YQ hmem
   have hct:=ZkB hmem
   have hca:=Z5w e
   have hr:=(Ju r2.2.2.2.2.2.1 hmem).2
   have hat:Z0c y1 y2.at_=y1.kids.getD y2.at_.toNat Tree.nil:=ZqH y1 (by omega)
   rw [hat] at hy4
   have hm4:=Zk6 y1.kids y2.at_.toNat
   have hr4:=Zn5 rt.2.2 y2.at_.toNat
   rw [Z2c,Zat,←hy4,←hy3] at e3
   rw [←hy4] at hm4 hr4
   rw [←hy3] at hm hr hk2 hct
   refine ⟨⟨e1,hj⟩,by simp only [ZaU],by simp only [Z4p];exact ⟨⟨by omega,hr,_,hk2.2⟩,by omega,hr4⟩,by simp only [Zft];omega,fun hne=> no ?_,fun heq=> ?_⟩
   ·have hne:doE false y3 y4=none:=by simpa using hne
    rw [hne] at e3
    unfold Zcx
    rw [if_pos hk,←f3,←e3]
    try rfl
   ·obtain ⟨u,hu⟩:=Option.isSome_iff_exists.1 heq
    rw [hu,Option.bind_some] at e3
    refine Za (ι:=List Tree) (fun s=> Z7m e y1 out j s) (fun s=> (∀ v,Yj Tree.nil s y2.at_.toNat v=Yj Tree.nil ks y2.at_.toNat v)∧s.length≤y1.kids.length+65536) (fun s=> (y2.at_+1 - s.length).toNat) ks rfl ⟨fun v=> rfl,e4⟩ ?_
    rintro s ⟨q1,q2⟩
    refine ZrO _ _ _ _ _ _ _ _ _ ?_
    rintro z1 hz1 z2 hz2 z3 hz3 z4 hz4 z5 hz5
    rw [←hy2] at hz2
    subst hz1 hz2
    rw [←hy3] at hz3
    subst hz3
    rw [hat,←hy4] at hz4
    subst hz4
    rw [Zb8 hu] at hz5
    subst hz5
    (simp only [vcT,vcS])
    refine ⟨fun hl=> ⟨by simp;omega,s++[Tree.nil],rfl,⟨fun v=> ?_,by simp;omega⟩,by simp;omega⟩,fun hl=> ?_⟩
    ·rw [ZbF Tree.nil (by omega),q1]
    ·have hl:z2.at_ < s.length:=by omega
     refine ⟨by omega,by omega,by unfold InR;omega,(j+1,s.set z2.at_.toNat z5),rfl,⟨by dsimp only;omega,by dsimp only;omega,?_,by simp only [List.length_set];omega⟩,by dsimp only;omega⟩
     dsimp only
     rw [←e3,←ZfU Tree.nil (by omega),q1]
  ·rw [List.drop_of_length_le (by omega),Z2c] at e3
   have hs:Zcx false e y1=some (.mk 1 out ks):=by
    unfold Zcx
    rw [if_pos hk,←f3,←e3]
    try rfl
   simp only [Z5f,hs]
   (repeat' (first | exact trivial | exact rfl | apply And.intro))
theorem ZqN(r:Bool)(o:Op)(s:List Op)(rest out:List Tree):J0 r (o ::s) rest out=(Zmi r o rest out).bind fun x=> J0 r s x.2 x.1:=by rw [J0]
theorem Z2K{ks:List Tree}(h:Yq ks)(n:Nat):Yq (ks.drop n):=by
 induction n generalizing ks with
 | zero=> exact h
 | succ n ih=> cases ks with
  | nil=> exact h
  | cons a r=> exact ih h.2
theorem ZCi:ZA5:=by
 intro N e t _ hp hN
 simp only [Z5l,Zc5] at hp hN
 obtain ⟨k3,⟨p1,p2,d,p3⟩,p4,p5⟩:=hp
 have h1:=Yg e
 have h2:=ZQ e.ops
 have h3:=Ztz t
 have h4:=ZA t.kids
 have r2:=Z3I p2
 have rt:=Zsj p5
 have ri:=Zz p3
 refine ZEd _ _ _ _ ?_
 (simp only [vcT,vcS])
 have no:Z7G false e t=none→Jx cfg Tryz.f116.ntmps Tryz.f116.results.toList (Z5e (e,t,())) [] .ret (⟨[(4,.ptr (.loc 4) 0),(5,.c (.bool false))],[((.loc 4),[.int .i64 0,.nils,.nils])],[]⟩:LSt U):=by
  intro hs
  simp only [Z5e,hs]
  (repeat' (first | exact trivial | exact rfl | apply And.intro))
 refine ⟨fun hk=> no (by unfold Z7G;rw [if_neg hk]),fun hk=> ?_⟩
 have hk:t.kind=e.list:=by simpa using hk
 have hl0:Z7G false e t=J0 false e.ops t.kids []:=by unfold Z7G;rw [if_pos hk]
 refine Za (ι:=Int × List Tree × List Tree) (fun s=> Z1y e t s.1 s.2.2 s.2.1)
  (fun s=> 0≤s.1∧s.1≤e.ops.length∧J0 false (e.ops.drop s.1.toNat) s.2.2 s.2.1=Z7G false e t∧s.2.1.length+s.2.2.length+Zg (e.ops.drop s.1.toNat)≤t.kids.length+Zg e.ops∧Zh s.2.2≤Zh t.kids∧Yq s.2.2)
  (fun s=> ((e.ops.length:Int) - s.1).toNat) (0,[],t.kids) rfl ⟨by simp,by simp,by simp [hl0],by simp,by simp,rt.2.2⟩ ?_
 rintro ⟨i,out,rest⟩ ⟨f1,f2,f3,f4,f5,f6⟩
 dsimp only at f1 f2 f3 f4 f5 f6
 refine ZrM _ _ _ _ _ _ _ _ ?_
 rintro y1 hy1
 (simp only [vcT,vcS])
 refine ⟨fun hi=> ?_,fun hi=> ?_⟩
 ·have hmem:=Zi (l:=e.ops) (i:=i.toNat) (by omega) Op.nil
  rw [Y3 f1 hi Op.nil,←hy1] at f3 f4
  rw [←hy1] at hmem
  have hr:=Go.AM.rightOs_mem ri.ops y1 hmem
  have hm:=ZW hmem
  have hct:=Zf8 hmem
  have hca:=Z5w e
  have hme:=ZN y1
  have hro:=Z0w (Z0N r2.2.2.2.2.2.2 hmem)
  have hml:=ZA y1.l
  simp only [Zg] at f4
  rw [ZqN,Z0z] at f3
  have go:∀ (x:List Tree) (m:List Tree) (v:V U) N0 Q',J0 false (e.ops.drop (i+1).toNat) x m=Z7G false e t→m.length+x.length+Zg (e.ops.drop (i+1).toNat)≤t.kids.length+Zg e.ops→Zh x≤Zh t.kids→Yq x→
    (∀ s2,s2=Z1y e t (i+1) x m→N0 s2)→Zby N [1,1,1,1,0,1,0,0,1,1,1] (Z35 e t i x m v) (AExit.then N0 (AExit.inBlock 0 (ZiR N [1,1,1,1,1] Q'))):=by
   intro x m v N0 Q' a1 a2 a3 a4 a5
   exact ZrN _ _ _ _ _ _ _ _ _ ⟨by unfold InR;omega,a5 _ rfl⟩
  have fin:∀ (x m:List Tree),J0 false (e.ops.drop (i+1).toNat) x m=Z7G false e t→m.length+x.length+Zg (e.ops.drop (i+1).toNat)≤t.kids.length+Zg e.ops→Zh x≤Zh t.kids→Yq x→∀ s2,s2=Z1y e t (i+1) x m→
    ∃ j:Int × List Tree × List Tree,s2=Z1y e t j.1 j.2.2 j.2.1∧(0≤j.1∧j.1≤e.ops.length∧J0 false (e.ops.drop j.1.toNat) j.2.2 j.2.1=Z7G false e t∧j.2.1.length+j.2.2.length+Zg (e.ops.drop j.1.toNat)≤t.kids.length+Zg e.ops∧Zh j.2.2≤Zh t.kids∧Yq j.2.2)∧((e.ops.length:Int) - j.1).toNat < ((e.ops.length:Int) - i).toNat:=by
   rintro x m a1 a2 a3 a4 _ rfl
   exact ⟨(i+1,m,x),rfl,⟨by dsimp only;omega,by dsimp only;omega,a1,a2,a3,a4⟩,by dsimp only;omega⟩
  have r1:=ZC hr
  have ht:∀ n:Nat,(rest.take n).length≤rest.length∧(rest.take n).length+(rest.drop n).length=rest.length:=by
   intro n
   simp only [List.length_take,List.length_drop];omega
  refine ⟨⟨f1,hi⟩,fun hk2=> ⟨by omega,?_⟩,fun hk2=> ⟨fun hk1=> ?_,fun hk1=> ⟨fun hk3=> ?_,fun hk3=> ?_⟩⟩⟩
  ·rw [if_neg (by omega),if_neg (by omega),if_pos hk2,Option.bind_some] at f3
   exact go _ _ _ _ _ f3 (by simp only [List.length_append];omega) f5 f6 (fin _ _ f3 (by simp only [List.length_append];omega) f5 f6)
  ·refine Zd7 _ _ _ _ _ _ _ _ _ _ ?_
   rintro z1 hz1 z2 hz2 z3 hz3 z4 hz4 z5 hz5 z6 hz6
   rw [←hy1] at hz1
   subst hz1
   rw [if_neg (by omega),if_pos hk1] at f3
   (simp only [vcT,vcS])
   rw [Int.toNat_natCast] at hz5
   rw [Int.toNat_natCast]
   refine ⟨fun hs=> no ?_,fun hs=> ⟨by omega,by omega,fun h=> by omega,fun _=> ⟨fun _=> ⟨?_,fun hq=> no ?_,fun hq=> ?_⟩,fun h=> absurd hk1 h⟩⟩⟩
   ·have:Z5F z1.l rest=false:=by unfold Z5F;rw [decide_eq_false (by omega)];try rfl
    rw [this,if_neg (by simp)] at f3
    exact f3.symm
   ·have:=ZeK z1.l.length rest
    simp only [Zeb];omega
   ·have:Z5F z1.l rest=false:=by unfold Z5F;rw [←hz5,hq];simp
    rw [this,if_neg (by simp)] at f3
    exact f3.symm
   ·have:Z5F z1.l rest=true:=by unfold Z5F;rw [←hz5,hq,decide_eq_true (by omega)];try rfl
    rw [this,if_pos rfl,Option.bind_some] at f3
    have hd:=Z3o z1.l.length rest
    have ht1:=ht z1.l.length
    exact go _ _ _ _ _ f3 (by omega) (by omega) (Z2K f6 _) (fin _ _ f3 (by omega) (by omega) (Z2K f6 _))
  ·refine Zd7 _ _ _ _ _ _ _ _ _ _ ?_
   rintro z1 hz1 z2 hz2 z3 hz3 z4 hz4 z5 hz5 z6 hz6
   rw [←hy1] at hz1
   subst hz1
   rw [if_neg (by omega),if_neg hk1,if_neg hk2] at f3
   (simp only [vcT,vcS])
   rw [show Int.toNat 1=1 from rfl]
   refine ⟨fun hs=> no ?_,fun hs=> ⟨by omega,by omega,fun h=> by omega,fun _=> ⟨fun h=> absurd h hk1,fun _=> ?_⟩⟩⟩
   ·rw [if_pos (by omega)] at f3
    exact f3.symm
   ·have hz:z3=rest.getD 0 Tree.nil:=by
     rw [hz3,hz2]
     cases rest with
     | nil=> rfl
     | cons a r=> rfl
    rw [if_neg (by omega),←hz,←hz4] at f3
    have hm3:=Zk6 rest 0
    have hr3:=Zn5 f6 0
    rw [←hz] at hm3 hr3
    have hre:=Jm hr hk3
    rw [←hz4] at hre hme hro hct
    refine ⟨?_,by simp only [Z4p];exact ⟨⟨by omega,hro.2.2.2,_,hre⟩,by omega,hr3⟩,by simp only [Zft];omega,fun hne=> no ?_,fun heq=> ?_⟩
    ·simp only [List.length_take];omega
    ·have hne:doE false z4 z3=none:=by simpa using hne
     rw [hne] at f3
     exact f3.symm
    ·obtain ⟨u,hu⟩:=Option.isSome_iff_exists.1 heq
     rw [Zb8 hu] at hz6
     subst hz6
     rw [hu,Option.map_some,Option.bind_some] at f3
     have hd:=Z3o 1 rest
     have ht1:=ht 1
     have ht2:(rest.take 1).length=1:=by simp only [List.length_take];omega
     refine ⟨by simp only [List.length_singleton];omega,?_⟩
     exact go _ _ _ _ _ f3 (by simp only [List.length_append,List.length_singleton];omega) (by omega) (Z2K f6 _) (fin _ _ f3 (by simp only [List.length_append,List.length_singleton];omega) (by omega) (Z2K f6 _))
  ·have hk0:y1.kind=0:=by cases r1 <;> first | rfl | (exfalso;simp at hk1 hk2 hk3)
   refine Zd7 _ _ _ _ _ _ _ _ _ _ ?_
   rintro z1 hz1 z2 hz2 z3 hz3 z4 hz4 z5 hz5 z6 hz6
   rw [←hy1] at hz1
   subst hz1
   rw [if_pos hk0] at f3
   have hn:1≤z1.n∧z1.n≤1048576:=by cases r1 <;> first | (constructor <;> assumption) | (exfalso;simp at hk1 hk2 hk3 hk0)
   (simp only [vcT,vcS])
   refine ⟨fun hs=> no ?_,fun hs=> ⟨by omega,by omega,fun _=> ⟨?_,?_⟩,fun h=> absurd hk0 h⟩⟩
   ·rw [if_neg (by omega)] at f3
    exact f3.symm
   ·have:=(ht z1.n.toNat).1
    omega
   ·rw [if_pos (by omega),Option.bind_some] at f3
    have hd:=Z3o z1.n.toNat rest
    have ht1:=ht z1.n.toNat
    exact go _ _ _ _ _ f3 (by simp only [List.length_append];omega) (by omega) (Z2K f6 _) (fin _ _ f3 (by simp only [List.length_append];omega) (by omega) (Z2K f6 _))
 ·rw [List.drop_of_length_le (by omega),J0] at f3
  simp only [Z5e,←f3,Zud,Z4f,Option.bind_some,hk]
  by_cases hr:rest.length=0
  ·rw [if_pos hr,hr]
   (repeat' (first | exact trivial | exact rfl | apply And.intro))
  ·rw [if_neg hr,show ((rest.length:Int)==0)=false by rw [beq_eq_false_iff_ne];omega]
   (repeat' (first | exact trivial | exact rfl | apply And.intro))
theorem ZG6:Contract Tryz.prog cfg 74 ZaG∧Contract Tryz.prog cfg 115 ZmT∧Contract Tryz.prog cfg 116 ZmS:=Zws Zit ZqW ZqV ZBO ZBP Zis ZuR b74 ZCj ZCi
theorem c74:Contract Tryz.prog cfg 74 ZaG:=ZG6.1
end Go.AM.YtpjenobkibfpcaaGreat
namespace Go.AM.YtpjenobkibfpcaaGreat
open Go.AM Go.Proofs
theorem ZuJ{r:Bool}{e:Edit}{t u:Tree}(hr:∃ d,Z2 e d=true)(ht:Zu t+ctE e≤200000000000)(h:doE r e t=some u):Zu u≤1000000000000:=by
 obtain ⟨d,hr⟩:=hr
 have:=Z9I r e d t u hr h
 omega
theorem c25:Contract Tryz.prog cfg 25 Z53:=by
 refine ZAX c75 c74 ?_
 intro e t _ hp
 simp only [ZbX] at hp
 refine ZFW _ _ _ ?_
 rintro y1 hy1 y2 hy2 y3 hy3
 subst hy1 hy2
 (simp only [vcT,vcS])
 refine ⟨by simp only [Z4p];exact hp,fun hn=> ?_,fun hs=> ?_⟩
 ·have hn:doE false y1 y2=none:=by simpa using hn
  simp only [Znf,hn]
  (repeat' (first | exact trivial | exact rfl | apply And.intro))
 ·obtain ⟨u,hu⟩:=Option.isSome_iff_exists.1 hs
  rw [Zb8 hu] at hy3
  subst hy3
  have:=ZuJ hp.1.2.2 hp.2.1 hu
  refine ⟨by simp only [Z1h];exact this,?_⟩
  simp only [Znf,hu]
  (repeat' (first | exact trivial | exact rfl | apply And.intro))
end Go.AM.YtpjenobkibfpcaaGreat
namespace Go.AM.YtpjenobkibfpcaaGreat
open Go.AM Go.Proofs
noncomputable section
abbrev ZE(p:Prop):Prop:=p→p
def ZcX:ArgM ((List Op × List Tree × List Tree × Unit) × Unit):=(.obj 0 (.cons (cWr .op 0 0) (.cons (Ziq .tree 0 1) (.cons (Ziq .tree 0 2) .nil))) .nil)
def Z28(a:(List Op × List Tree × List Tree × Unit) × Unit):Prop:=(a.1.1).length≤200000000000∧(a.1.2.1).length≤200000000000∧(a.1.2.2.1).length≤200000000000
def ZaM(a:(List Op × List Tree × List Tree × Unit) × Unit):V U:= .tup []
def Z6Y(a:(List Op × List Tree × List Tree × Unit) × Unit):List (List (C U)):=[[.mref (.x 0 0),sU .tree ((Z1 (Wst.mk a.1.1 a.1.2.1 a.1.2.2.1)).gone) (.own (.x 0 1)),sU .tree ((Z1 (Wst.mk a.1.1 a.1.2.1 a.1.2.2.1)).brought) (.own (.x 0 2))]]
def Z6Z(a:(List Op × List Tree × List Tree × Unit) × Unit):List (Tok × LC U):=[(.x 0 0,LC.mk (U:=U) .op ((Z1 (Wst.mk a.1.1 a.1.2.1 a.1.2.2.1)).out) 0)]
def Z2o:Fs U:=Zmg ZcX (fun a=> [Z28 a]) ZaM Z6Y Z6Z
def ZcZ:ArgM ((List Op × List Tree × List Tree × Unit) × Int × Unit):=(.obj 0 (.cons (cWr .op 0 0) (.cons (Ziq .tree 0 1) (.cons (Ziq .tree 0 2) .nil))) (.cons (YG .i64) .nil))
def Z5j(a:(List Op × List Tree × List Tree × Unit) × Int × Unit):Prop:=(a.1.1).length≤200000000000∧(a.1.2.1).length≤200000000000∧(a.1.2.2.1).length≤200000000000∧(∀ o∈a.1.1,0≤o.n∧o.n≤100000000000000000)∧0≤a.2.1∧a.2.1≤1048576
def Zlp(a:(List Op × List Tree × List Tree × Unit) × Int × Unit):V U:= .tup []
def Zhi(a:(List Op × List Tree × List Tree × Unit) × Int × Unit):List (List (C U)):=[[.mref (.x 0 0),sU .tree ((ZG (Wst.mk a.1.1 a.1.2.1 a.1.2.2.1) a.2.1).gone) (.own (.x 0 1)),sU .tree ((ZG (Wst.mk a.1.1 a.1.2.1 a.1.2.2.1) a.2.1).brought) (.own (.x 0 2))]]
def Zhj(a:(List Op × List Tree × List Tree × Unit) × Int × Unit):List (Tok × LC U):=[(.x 0 0,LC.mk (U:=U) .op ((ZG (Wst.mk a.1.1 a.1.2.1 a.1.2.2.1) a.2.1).out) 0)]
def Z6M:Fs U:=Zmg ZcZ (fun a=> [Z5j a]) Zlp Zhi Zhj
def ZcY:ArgM ((List Op × List Tree × List Tree × Unit) × List Tree × Unit):=(.objAt 0 1 (.cons (cWr .op 0 0) (.cons (Ziq .tree 0 1) (.cons (Ziq .tree 0 2) .nil))) (.cons (aSl .tree) .nil))
def ZaX(a:(List Op × List Tree × List Tree × Unit) × List Tree × Unit):Prop:=(a.1.1).length≤200000000000∧(a.1.2.1).length≤200000000000∧(a.1.2.2.1).length≤200000000000∧Zh a.2.1≤20000000000
def ZsN(a:(List Op × List Tree × List Tree × Unit) × List Tree × Unit):V U:= .tup []
def Zna(a:(List Op × List Tree × List Tree × Unit) × List Tree × Unit):List (List (C U)):=[[.mref (.x 0 0),sU .tree ((Wst.mk a.1.1 (a.1.2.1++Zb a.2.1) a.1.2.2.1).gone) (.own (.x 0 1)),sU .tree ((Wst.mk a.1.1 (a.1.2.1++Zb a.2.1) a.1.2.2.1).brought) (.own (.x 0 2))]]
def Znb(a:(List Op × List Tree × List Tree × Unit) × List Tree × Unit):List (Tok × LC U):=[(.x 0 0,LC.mk (U:=U) .op ((Wst.mk a.1.1 (a.1.2.1++Zb a.2.1) a.1.2.2.1).out) 0)]
def Zh4:Fs U:=Zmg ZcY (fun a=> [ZaX a]) ZsN Zna Znb
def Zax:ArgM ((List Op × List Tree × List Tree × Unit) × List Tree × Unit):=(.objAt 0 2 (.cons (cWr .op 0 0) (.cons (Ziq .tree 0 1) (.cons (Ziq .tree 0 2) .nil))) (.cons (aSl .tree) .nil))
def Z72(a:(List Op × List Tree × List Tree × Unit) × List Tree × Unit):Prop:=(a.1.1).length≤200000000000∧(a.1.2.1).length≤200000000000∧(a.1.2.2.1).length≤200000000000∧Zh a.2.1≤20000000000
def Zni(a:(List Op × List Tree × List Tree × Unit) × List Tree × Unit):V U:= .tup []
def Zjv(a:(List Op × List Tree × List Tree × Unit) × List Tree × Unit):List (List (C U)):=[[.mref (.x 0 0),sU .tree ((Wst.mk a.1.1 a.1.2.1 (a.1.2.2.1++Zb a.2.1)).gone) (.own (.x 0 1)),sU .tree ((Wst.mk a.1.1 a.1.2.1 (a.1.2.2.1++Zb a.2.1)).brought) (.own (.x 0 2))]]
def Zjw(a:(List Op × List Tree × List Tree × Unit) × List Tree × Unit):List (Tok × LC U):=[(.x 0 0,LC.mk (U:=U) .op ((Wst.mk a.1.1 a.1.2.1 (a.1.2.2.1++Zb a.2.1)).out) 0)]
def ZdD:Fs U:=Zmg Zax (fun a=> [Z72 a]) Zni Zjv Zjw
def ZkG:ArgL (Int × Edit × Unit):=(.cons (YG .i64) (.cons (aEl .edit) .nil))
def Z71(a:Int × Edit × Unit):Prop:=a.2.1.words.length≤20000000000∧a.2.1.kids.length≤20000000000
def Znh(a:Int × Edit × Unit):V U:= .c (.bool (Z0k a.1 a.2.1))
def Z4j:Fs U:=fs ZkG (fun a=> [Z71 a]) Znh
def ZkH:ArgL (Int × Edit × Unit):=(.cons (YG .i64) (.cons (aEl .edit) .nil))
def Z9o(a:Int × Edit × Unit):Prop:=True
def Znj(a:Int × Edit × Unit):V U:= .c (.bool (Z0k a.1 a.2.1))
def Z4k:Fs U:=fs ZkH (fun a=> [Z9o a]) Znj
def Zoy:List (FuncId × Fs U):=[]
def Zu4:Zj U:=fun i=> match i with
 | 0=> ([(0,[]),(7,[])],[(.x 0,[.wr .op])])
 | 1=> ([(0,[])],[(.x 0,[.wr .op])])
 | 2=> ([(0,[]),(28,[])],[(.x 0,[.wr .op])])
 | 3=> ([(0,[])],[(.x 0,[.wr .op])])
 | 4=> ([],[(.x 0,[.wr .op])])
 | _=> ([],[])
abbrev ZF1(wo:List Op)(wg wb:List Tree)(Q:QT):=AW (Z0 Zoy) Tryz.f150 Zu4 [] (⟨[(0,.ptr (.x 0) 0)],[(.x 0,[.mref (.x 0 0),sU .tree wg (.own (.x 0 1)),sU .tree wb (.own (.x 0 2))])],[(.x 0 0,LC.mk (U:=U) .op wo 0)]⟩:LSt U) Q
theorem ZDU(wo:List Op)(wg wb:List Tree)(Q:QT)(h:∀ y_1,y_1=(Edit.mk 0 (Tree.mk 0 [] []) (Tree.mk 0 [] []) [] [] 0 [])→∀ y_2,y_2=(List.set (wo++([(OpOf.mk 0 0 [] y_1:Op)])) (Int.toNat (wo.length:Int)) (OpOf.mk 1 0 wg y_1:Op))→((decide ((0:Int) < (wg.length:Int)))=true→((wo.length+([(OpOf.mk 0 0 [] y_1:Op)]).length)*240≤140737488355328)∧((0:Int)≤(wo.length:Int)∧(wo.length:Int) < ((wo++([(OpOf.mk 0 0 [] y_1:Op)])).length:Int))∧((0:Nat)≤(Int.toNat (wo.length:Int)))∧(((decide ((0:Int) < (wb.length:Int)))=true→((y_2.length+([(OpOf.mk 0 0 [] y_1:Op)]).length)*240≤140737488355328)∧((0:Int)≤(y_2.length:Int)∧(y_2.length:Int) < ((y_2++([(OpOf.mk 0 0 [] y_1:Op)])).length:Int))∧((0:Nat)≤(Int.toNat (y_2.length:Int)))∧(Q .normal (⟨[],[(.x 0,[.mref (.x 0 0),.nils,.nils])],[(.x 0 0,LC.mk (U:=U) .op (List.set (y_2++([(OpOf.mk 0 0 [] y_1:Op)])) (Int.toNat (y_2.length:Int)) (OpOf.mk 2 0 wb y_1:Op)) 0)]⟩:LSt U)))∧((decide ((0:Int) < (wb.length:Int)))=false→Q .normal (⟨[],[(.x 0,[.mref (.x 0 0),.nils,.nils])],[(.x 0 0,LC.mk (U:=U) .op y_2 0)]⟩:LSt U))))∧((decide ((0:Int) < (wg.length:Int)))=false→((decide ((0:Int) < (wb.length:Int)))=true→((wo.length+([(OpOf.mk 0 0 [] y_1:Op)]).length)*240≤140737488355328)∧((0:Int)≤(wo.length:Int)∧(wo.length:Int) < ((wo++([(OpOf.mk 0 0 [] y_1:Op)])).length:Int))∧((0:Nat)≤(Int.toNat (wo.length:Int)))∧(Q .normal (⟨[],[(.x 0,[.mref (.x 0 0),.nils,.nils])],[(.x 0 0,LC.mk (U:=U) .op (List.set (wo++([(OpOf.mk 0 0 [] y_1:Op)])) (Int.toNat (wo.length:Int)) (OpOf.mk 2 0 wb y_1:Op)) 0)]⟩:LSt U)))∧((decide ((0:Int) < (wb.length:Int)))=false→Q .normal (⟨[],[(.x 0,[.mref (.x 0 0),.nils,.nils])],[(.x 0 0,LC.mk (U:=U) .op wo 0)]⟩:LSt U)))):
  ZF1 wo wg wb Q:=by
 have e_:(ZF1 wo wg wb Q)=(let y_1:=(Edit.mk 0 (Tree.mk 0 [] []) (Tree.mk 0 [] []) [] [] 0 []);let y_2:=(List.set (wo++([(OpOf.mk 0 0 [] y_1:Op)])) (Int.toNat (wo.length:Int)) (OpOf.mk 1 0 wg y_1:Op));let zz0:=(decide ((0:Int) < (wb.length:Int)));(((decide ((0:Int) < (wg.length:Int)))=true→((wo.length+([(OpOf.mk 0 0 [] y_1:Op)]).length)*240≤140737488355328)∧((0:Int)≤(wo.length:Int)∧(wo.length:Int) < ((wo++([(OpOf.mk 0 0 [] y_1:Op)])).length:Int))∧((0:Nat)≤(Int.toNat (wo.length:Int)))∧((zz0=true→((y_2.length+([(OpOf.mk 0 0 [] y_1:Op)]).length)*240≤140737488355328)∧((0:Int)≤(y_2.length:Int)∧(y_2.length:Int) < ((y_2++([(OpOf.mk 0 0 [] y_1:Op)])).length:Int))∧((0:Nat)≤(Int.toNat (y_2.length:Int)))∧(Q .normal (⟨[],[(.x 0,[.mref (.x 0 0),.nils,.nils])],[(.x 0 0,LC.mk (U:=U) .op (List.set (y_2++([(OpOf.mk 0 0 [] y_1:Op)])) (Int.toNat (y_2.length:Int)) (OpOf.mk 2 0 wb y_1:Op)) 0)]⟩:LSt U)))∧(zz0=false→(Q .normal (⟨[],[(.x 0,[.mref (.x 0 0),.nils,.nils])],[(.x 0 0,LC.mk (U:=U) .op y_2 0)]⟩:LSt U)))))∧((decide ((0:Int) < (wg.length:Int)))=false→((zz0=true→((wo.length+([(OpOf.mk 0 0 [] y_1:Op)]).length)*240≤140737488355328)∧((0:Int)≤(wo.length:Int)∧(wo.length:Int) < ((wo++([(OpOf.mk 0 0 [] y_1:Op)])).length:Int))∧((0:Nat)≤(Int.toNat (wo.length:Int)))∧(Q .normal (⟨[],[(.x 0,[.mref (.x 0 0),.nils,.nils])],[(.x 0 0,LC.mk (U:=U) .op (List.set (wo++([(OpOf.mk 0 0 [] y_1:Op)])) (Int.toNat (wo.length:Int)) (OpOf.mk 2 0 wb y_1:Op)) 0)]⟩:LSt U)))∧(zz0=false→(Q .normal (⟨[],[(.x 0,[.mref (.x 0 0),.nils,.nils])],[(.x 0 0,LC.mk (U:=U) .op wo 0)]⟩:LSt U))))))):=by kernel_rfl
 exact e_.mpr (by intro y_1 y_2;have hh:=h y_1 rfl y_2 rfl;exact ⟨fun c_1=> ⟨(hh.1 c_1).1,(hh.1 c_1).2.1,(hh.1 c_1).2.2.1,⟨fun c_2=> ⟨((hh.1 c_1).2.2.2.1 c_2).1,((hh.1 c_1).2.2.2.1 c_2).2.1,((hh.1 c_1).2.2.2.1 c_2).2.2.1,((hh.1 c_1).2.2.2.1 c_2).2.2.2⟩,fun c_2=> ((hh.1 c_1).2.2.2.2 c_2)⟩⟩,fun c_1=> ⟨fun c_3=> ⟨((hh.2 c_1).1 c_3).1,((hh.2 c_1).1 c_3).2.1,((hh.2 c_1).1 c_3).2.2.1,((hh.2 c_1).1 c_3).2.2.2⟩,fun c_3=> ((hh.2 c_1).2 c_3)⟩⟩)
def ZyP(wo:List Op)(wg wb:List Tree):Prop:=AW (Z0 Zoy) Tryz.f150 Zu4 [] (Z1A (ZcX.can ((wo,wg,wb,()),())) (ZcX.canX ((wo,wg,wb,()),())) (ZcX.canL ((wo,wg,wb,()),()))) (Z4h cfg Tryz.f150.ntmps Tryz.f150.results.toList (ZaM ((wo,wg,wb,()),())) (Z6Y ((wo,wg,wb,()),())) (Z6Z ((wo,wg,wb,()),())))
theorem Zx2(hb:∀ (wo:List Op) (wg:List Tree) (wb:List Tree) (_:Unit),Z28 ((wo,wg,wb,()),())→ZyP wo wg wb):CT 150 Z2o:=
 Z0A (l:=[]) Zo rfl trivial Zu4 Tryz.func150 rfl rfl 1 (fun _=> rfl) (by decide) (fun ⟨⟨wo,wg,wb,_⟩,_⟩=> hb wo wg wb ())
def Zoz:List (FuncId × Fs U):=[(150,Z2o)]
def Zu5:Zj U:=fun i=> match i with
 | 0=> ([(0,[]),(1,[])],[(.x 0,[.wr .op])])
 | 1=> ([(0,[]),(1,[]),(4,[])],[(.x 0,[.wr .op])])
 | 2=> ([(0,[]),(1,[]),(4,[]),(25,[])],[(.x 0,[.wr .op])])
 | 3=> ([],[(.x 0,[.wr .op])])
 | 4=> ([],[(.x 0,[.wr .op])])
 | _=> ([],[])
abbrev ZF3(wo:List Op)(wg wb:List Tree)(n:Int)(Q:QT):=AW (Z0 Zoz) Tryz.f147 Zu5 [] (⟨[(0,.ptr (.x 0) 0),(1,.c (ci n))],[(.x 0,[.mref (.x 0 0),sU .tree wg (.own (.x 0 1)),sU .tree wb (.own (.x 0 2))])],[(.x 0 0,LC.mk (U:=U) .op wo 0)]⟩:LSt U) Q
theorem ZDW(wo:List Op)(wg wb:List Tree)(n:Int)(Q:QT)(h:∀ y_1,y_1=(Edit.mk 0 (Tree.mk 0 [] []) (Tree.mk 0 [] []) [] [] 0 [])→∀ y_2,y_2=(Int.toNat (((((Z1 (Wst.mk wo wg wb)).out).length:Int):Int) - 1))→∀ y_3,y_3=(List.getD ((Z1 (Wst.mk wo wg wb)).out) y_2 Op.nil)→∀ y_4,y_4=(y_3.e)→(Z28 ((wo,wg,wb,()),()))∧((InR (((((Z1 (Wst.mk wo wg wb)).out).length:Int):Int) - 1))∧(((decide ((0:Int)≤(((((Z1 (Wst.mk wo wg wb)).out).length:Int):Int) - 1)))=true→(0:Int)≤(((((Z1 (Wst.mk wo wg wb)).out).length:Int):Int) - 1)∧(((((Z1 (Wst.mk wo wg wb)).out).length:Int):Int) - 1) < (((Z1 (Wst.mk wo wg wb)).out).length:Int))∧(((bif (decide ((0:Int)≤(((((Z1 (Wst.mk wo wg wb)).out).length:Int):Int) - 1))) then (y_3.kind==0) else false)=true→((0:Int)≤(((((Z1 (Wst.mk wo wg wb)).out).length:Int):Int) - 1)∧(((((Z1 (Wst.mk wo wg wb)).out).length:Int):Int) - 1) < (((Z1 (Wst.mk wo wg wb)).out).length:Int))∧(InR (y_3.n+n))∧((0:Int)≤(((((Z1 (Wst.mk wo wg wb)).out).length:Int):Int) - 1)∧(((((Z1 (Wst.mk wo wg wb)).out).length:Int):Int) - 1) < (((Z1 (Wst.mk wo wg wb)).out).length:Int))∧((0:Nat)≤y_2)∧(Q .ret (⟨[],[(.x 0,[.mref (.x 0 0),sU .tree ((Z1 (Wst.mk wo wg wb)).gone) (.own (.x 0 1)),sU .tree ((Z1 (Wst.mk wo wg wb)).brought) (.own (.x 0 2))])],[(.x 0 0,LC.mk (U:=U) .op (List.set ((Z1 (Wst.mk wo wg wb)).out) y_2 (OpOf.mk y_3.kind (y_3.n+n) y_3.l y_4:Op)) 0)]⟩:LSt U)))∧((bif (decide ((0:Int)≤(((((Z1 (Wst.mk wo wg wb)).out).length:Int):Int) - 1))) then (y_3.kind==0) else false)=false→((((Z1 (Wst.mk wo wg wb)).out).length+([(OpOf.mk 0 0 [] y_1:Op)]).length)*240≤140737488355328)∧((0:Int)≤(((Z1 (Wst.mk wo wg wb)).out).length:Int)∧(((Z1 (Wst.mk wo wg wb)).out).length:Int) < ((((Z1 (Wst.mk wo wg wb)).out)++([(OpOf.mk 0 0 [] y_1:Op)])).length:Int))∧((0:Nat)≤(Int.toNat (((Z1 (Wst.mk wo wg wb)).out).length:Int)))∧(Q .normal (⟨[],[(.x 0,[.mref (.x 0 0),sU .tree ((Z1 (Wst.mk wo wg wb)).gone) (.own (.x 0 1)),sU .tree ((Z1 (Wst.mk wo wg wb)).brought) (.own (.x 0 2))])],[(.x 0 0,LC.mk (U:=U) .op (List.set (((Z1 (Wst.mk wo wg wb)).out)++([(OpOf.mk 0 0 [] y_1:Op)])) (Int.toNat (((Z1 (Wst.mk wo wg wb)).out).length:Int)) (OpOf.mk 0 n [] y_1:Op)) 0)]⟩:LSt U))))))):
  ZF3 wo wg wb n Q:=by
 have e_:(ZF3 wo wg wb n Q)=(let y_1:=(Edit.mk 0 (Tree.mk 0 [] []) (Tree.mk 0 [] []) [] [] 0 []);let y_2:=(Int.toNat (((((Z1 (Wst.mk wo wg wb)).out).length:Int):Int) - 1));let y_3:=(List.getD ((Z1 (Wst.mk wo wg wb)).out) y_2 Op.nil);let y_4:=(Yv y_3.e);let zz0:=(decide ((0:Int)≤(((((Z1 (Wst.mk wo wg wb)).out).length:Int):Int) - 1)));(Z28 ((wo,wg,wb,()),()))∧((InR (((((Z1 (Wst.mk wo wg wb)).out).length:Int):Int) - 1))∧((ZE (zz0=true))∧(ZE (zz0=true))∧(ZE (zz0=true))∧(ZE (zz0=true))∧(ZE (zz0=true))∧(zz0=true→(0:Int)≤(((((Z1 (Wst.mk wo wg wb)).out).length:Int):Int) - 1)∧(((((Z1 (Wst.mk wo wg wb)).out).length:Int):Int) - 1) < (((Z1 (Wst.mk wo wg wb)).out).length:Int))∧(ZE (zz0=true))∧(ZE (zz0=true))∧(ZE (zz0=true))∧(ZE (zz0=true))∧(((bif zz0 then (y_3.kind==0) else false)=true→((0:Int)≤(((((Z1 (Wst.mk wo wg wb)).out).length:Int):Int) - 1)∧(((((Z1 (Wst.mk wo wg wb)).out).length:Int):Int) - 1) < (((Z1 (Wst.mk wo wg wb)).out).length:Int))∧(InR (y_3.n+n))∧((0:Int)≤(((((Z1 (Wst.mk wo wg wb)).out).length:Int):Int) - 1)∧(((((Z1 (Wst.mk wo wg wb)).out).length:Int):Int) - 1) < (((Z1 (Wst.mk wo wg wb)).out).length:Int))∧((0:Nat)≤y_2)∧(Q .ret (⟨[],[(.x 0,[.mref (.x 0 0),sU .tree ((Z1 (Wst.mk wo wg wb)).gone) (.own (.x 0 1)),sU .tree ((Z1 (Wst.mk wo wg wb)).brought) (.own (.x 0 2))])],[(.x 0 0,LC.mk (U:=U) .op (List.set ((Z1 (Wst.mk wo wg wb)).out) y_2 (OpOf.mk y_3.kind (y_3.n+n) y_3.l y_4:Op)) 0)]⟩:LSt U)))∧((bif zz0 then (y_3.kind==0) else false)=false→((((Z1 (Wst.mk wo wg wb)).out).length+([(OpOf.mk 0 0 [] y_1:Op)]).length)*240≤140737488355328)∧((0:Int)≤(((Z1 (Wst.mk wo wg wb)).out).length:Int)∧(((Z1 (Wst.mk wo wg wb)).out).length:Int) < ((((Z1 (Wst.mk wo wg wb)).out)++([(OpOf.mk 0 0 [] y_1:Op)])).length:Int))∧((0:Nat)≤(Int.toNat (((Z1 (Wst.mk wo wg wb)).out).length:Int)))∧(Q .normal (⟨[],[(.x 0,[.mref (.x 0 0),sU .tree ((Z1 (Wst.mk wo wg wb)).gone) (.own (.x 0 1)),sU .tree ((Z1 (Wst.mk wo wg wb)).brought) (.own (.x 0 2))])],[(.x 0 0,LC.mk (U:=U) .op (List.set (((Z1 (Wst.mk wo wg wb)).out)++([(OpOf.mk 0 0 [] y_1:Op)])) (Int.toNat (((Z1 (Wst.mk wo wg wb)).out).length:Int)) (OpOf.mk 0 n [] y_1:Op)) 0)]⟩:LSt U))))))):=by kernel_rfl
 exact e_.mpr (by intro y_1 y_2 y_3 y_4;have hh:=h y_1 rfl y_2 rfl y_3 rfl y_4 (Z6 _);exact ⟨hh.1,⟨hh.2.1,⟨id,id,id,id,id,hh.2.2.1,id,id,id,(by generalize (decide ((0:Int)≤(((((Z1 (Wst.mk wo wg wb)).out).length:Int):Int) - 1)))=b0;revert b0;decide),⟨fun c_4=> ⟨(hh.2.2.2.1 c_4).1,(hh.2.2.2.1 c_4).2.1,(hh.2.2.2.1 c_4).2.2.1,(hh.2.2.2.1 c_4).2.2.2.1,(hh.2.2.2.1 c_4).2.2.2.2⟩,fun c_4=> ⟨(hh.2.2.2.2 c_4).1,(hh.2.2.2.2 c_4).2.1,(hh.2.2.2.2 c_4).2.2.1,(hh.2.2.2.2 c_4).2.2.2⟩⟩⟩⟩⟩)
def ZyR(wo:List Op)(wg wb:List Tree)(n:Int):Prop:=AW (Z0 Zoz) Tryz.f147 Zu5 [] (Z1A (ZcZ.can ((wo,wg,wb,()),n,())) (ZcZ.canX ((wo,wg,wb,()),n,())) (ZcZ.canL ((wo,wg,wb,()),n,()))) (Z4h cfg Tryz.f147.ntmps Tryz.f147.results.toList (Zlp ((wo,wg,wb,()),n,())) (Zhi ((wo,wg,wb,()),n,())) (Zhj ((wo,wg,wb,()),n,())))
theorem Zx4(ZqY:CT 150 Z2o)(hb:∀ (wo:List Op) (wg:List Tree) (wb:List Tree) (n:Int) (_:Unit),Z5j ((wo,wg,wb,()),n,())→ZyR wo wg wb n):CT 147 Z6M:=
 Z0A (l:=[(150,Z2o)]) Zo rfl (⟨ZqY,trivial⟩) Zu5 Tryz.func147 rfl rfl 2 (fun _=> rfl) (by decide) (fun ⟨⟨wo,wg,wb,_⟩,n,_⟩=> hb wo wg wb n ())
def ZcR:List (FuncId × Fs U):=[(75,Z0C)]
def Zkg:Zj U:=fun i=> match i with
 | 0=> ([(0,[]),(6,[]),(7,[]),(8,[])],[(.x 0,[.wr .op])])
 | 1=> ([(0,[]),(6,[]),(7,[]),(8,[]),(9,[])],[(.x 0,[.wr .op])])
 | 2=> ([(0,[]),(5,[]),(6,[]),(7,[]),(8,[])],[(.loc 5,[]),(.x 0,[.wr .op])])
 | 3=> ([(0,[]),(6,[]),(7,[]),(8,[])],[(.x 0,[.wr .op])])
 | 4=> ([(0,[]),(6,[]),(7,[]),(8,[])],[(.x 0,[.wr .op])])
 | _=> ([],[])
def Z7j(wo:List Op)(wg wb l:List Tree)(x8:Int)(mx0_1:List Tree):LSt U:=(⟨[(0,.ptr (.x 0) 1),(6,.c (sU .tree l .unk)),(7,.c (ci (l.length:Int))),(8,.c (ci x8))],[(.x 0,[.mref (.x 0 0),sU .tree mx0_1 (.own (.x 0 1)),sU .tree wb (.own (.x 0 2))])],[(.x 0 0,LC.mk (U:=U) .op wo 0)]⟩:LSt U)
abbrev ZF2(wo:List Op)(wg wb l:List Tree)(Q:QT):=AW (Z0 ZcR) Tryz.f148 Zkg [] (⟨[(0,.ptr (.x 0) 1),(1,.c (sU .tree l .unk))],[(.x 0,[.mref (.x 0 0),sU .tree wg (.own (.x 0 1)),sU .tree wb (.own (.x 0 2))])],[(.x 0 0,LC.mk (U:=U) .op wo 0)]⟩:LSt U) Q
theorem ZDV(wo:List Op)(wg wb l:List Tree)(Q:QT)(h:Zf (AW (Z0 ZcR) Tryz.f148 Zkg [1,0,0]) (Z7j wo wg wb l 0 wg) (xB 0 Q)):
  ZF2 wo wg wb l Q:=by
 have e_:(ZF2 wo wg wb l Q)=(type_of% h):=by kernel_rfl
 exact e_.mpr h
abbrev ZpE(wo:List Op)(wg wb l:List Tree)(x8:Int)(mx0_1:List Tree)(N0:NT)(Q:QT):=AW (Z0 ZcR) Tryz.f148 Zkg [1,0,0] (Z7j wo wg wb l x8 mx0_1) (xT N0 (xB 0 Q))
theorem Zrz(wo:List Op)(wg wb l:List Tree)(x8:Int)(mx0_1:List Tree)(N0:NT)(Q:QT)(h:((decide (x8 < (l.length:Int)))=true→((0:Int)≤x8∧x8 < (l.length:Int))∧((Z1h ((Tree.mk (Tree.kind (l.getD x8.toNat Tree.nil)) (Tree.words (l.getD x8.toNat Tree.nil)) (Tree.kids (l.getD x8.toNat Tree.nil))),()))∧((mx0_1.length+([(Tree.mk 0 [] [])]).length)*56≤140737488355328)∧((0:Int)≤(mx0_1.length:Int)∧(mx0_1.length:Int) < ((mx0_1++([(Tree.mk 0 [] [])])).length:Int))∧(mx0_1.length≤(Int.toNat (mx0_1.length:Int)))∧((InR (x8+1))∧(N0 (Z7j wo wg wb l (x8+1) (List.set (mx0_1++([(Tree.mk 0 [] [])])) (Int.toNat (mx0_1.length:Int)) (Tree.mk (Tree.kind (Zd (Tree.mk (Tree.kind (l.getD x8.toNat Tree.nil)) (Tree.words (l.getD x8.toNat Tree.nil)) (Tree.kids (l.getD x8.toNat Tree.nil))))) (Tree.words (Zd (Tree.mk (Tree.kind (l.getD x8.toNat Tree.nil)) (Tree.words (l.getD x8.toNat Tree.nil)) (Tree.kids (l.getD x8.toNat Tree.nil))))) (Tree.kids (Zd (Tree.mk (Tree.kind (l.getD x8.toNat Tree.nil)) (Tree.words (l.getD x8.toNat Tree.nil)) (Tree.kids (l.getD x8.toNat Tree.nil))))))))))))∧((decide (x8 < (l.length:Int)))=false→Q .normal (⟨[(0,.ptr (.x 0) 1),(6,.c (sU .tree l .unk)),(7,.c (ci (l.length:Int))),(8,.c (ci x8)),(9,.c (.bool (decide (x8 < (l.length:Int)))))],[(.x 0,[.mref (.x 0 0),sU .tree mx0_1 (.own (.x 0 1)),sU .tree wb (.own (.x 0 2))])],[(.x 0 0,LC.mk (U:=U) .op wo 0)]⟩:LSt U))):
  ZpE wo wg wb l x8 mx0_1 N0 Q:=by
 have e_:(ZpE wo wg wb l x8 mx0_1 N0 Q)=(type_of% h):=by kernel_rfl
 exact e_.mpr ⟨fun c_5=> ⟨(h.1 c_5).1,⟨(h.1 c_5).2.1,(h.1 c_5).2.2.1,(h.1 c_5).2.2.2.1,(h.1 c_5).2.2.2.2.1,⟨(h.1 c_5).2.2.2.2.2.1,(h.1 c_5).2.2.2.2.2.2⟩⟩⟩,fun c_5=> (h.2 c_5)⟩
def ZyQ(wo:List Op)(wg wb l:List Tree):Prop:=AW (Z0 ZcR) Tryz.f148 Zkg [] (Z1A (ZcY.can ((wo,wg,wb,()),l,())) (ZcY.canX ((wo,wg,wb,()),l,())) (ZcY.canL ((wo,wg,wb,()),l,()))) (Z4h cfg Tryz.f148.ntmps Tryz.f148.results.toList (ZsN ((wo,wg,wb,()),l,())) (Zna ((wo,wg,wb,()),l,())) (Znb ((wo,wg,wb,()),l,())))
theorem Zx3(c75:CT 75 Z0C)(hb:∀ (wo:List Op) (wg:List Tree) (wb:List Tree) (l:List Tree) (_:Unit),ZaX ((wo,wg,wb,()),l,())→ZyQ wo wg wb l):CT 148 Zh4:=
 Z0A (l:=[(75,Z0C)]) Zo rfl (⟨c75,trivial⟩) Zkg Tryz.func148 rfl rfl 2 (fun _=> rfl) (by decide) (fun ⟨⟨wo,wg,wb,_⟩,l,_⟩=> hb wo wg wb l ())
def Z9X:List (FuncId × Fs U):=[(75,Z0C)]
def ZeO:Zj U:=fun i=> match i with
 | 0=> ([(0,[]),(6,[]),(7,[]),(8,[])],[(.x 0,[.wr .op])])
 | 1=> ([(0,[]),(6,[]),(7,[]),(8,[]),(9,[])],[(.x 0,[.wr .op])])
 | 2=> ([(0,[]),(5,[]),(6,[]),(7,[]),(8,[])],[(.loc 5,[]),(.x 0,[.wr .op])])
 | 3=> ([(0,[]),(6,[]),(7,[]),(8,[])],[(.x 0,[.wr .op])])
 | 4=> ([(0,[]),(6,[]),(7,[]),(8,[])],[(.x 0,[.wr .op])])
 | _=> ([],[])
def Z5s(wo:List Op)(wg wb l:List Tree)(x8:Int)(mx0_2:List Tree):LSt U:=(⟨[(0,.ptr (.x 0) 2),(6,.c (sU .tree l .unk)),(7,.c (ci (l.length:Int))),(8,.c (ci x8))],[(.x 0,[.mref (.x 0 0),sU .tree wg (.own (.x 0 1)),sU .tree mx0_2 (.own (.x 0 2))])],[(.x 0 0,LC.mk (U:=U) .op wo 0)]⟩:LSt U)
abbrev ZzR(wo:List Op)(wg wb l:List Tree)(Q:QT):=AW (Z0 Z9X) Tryz.f148 ZeO [] (⟨[(0,.ptr (.x 0) 2),(1,.c (sU .tree l .unk))],[(.x 0,[.mref (.x 0 0),sU .tree wg (.own (.x 0 1)),sU .tree wb (.own (.x 0 2))])],[(.x 0 0,LC.mk (U:=U) .op wo 0)]⟩:LSt U) Q
theorem ZAe(wo:List Op)(wg wb l:List Tree)(Q:QT)(h:Zf (AW (Z0 Z9X) Tryz.f148 ZeO [1,0,0]) (Z5s wo wg wb l 0 wb) (xB 0 Q)):
  ZzR wo wg wb l Q:=by
 have e_:(ZzR wo wg wb l Q)=(type_of% h):=by kernel_rfl
 exact e_.mpr h
abbrev ZkU(wo:List Op)(wg wb l:List Tree)(x8:Int)(mx0_2:List Tree)(N0:NT)(Q:QT):=AW (Z0 Z9X) Tryz.f148 ZeO [1,0,0] (Z5s wo wg wb l x8 mx0_2) (xT N0 (xB 0 Q))
theorem ZpQ(wo:List Op)(wg wb l:List Tree)(x8:Int)(mx0_2:List Tree)(N0:NT)(Q:QT)(h:((decide (x8 < (l.length:Int)))=true→((0:Int)≤x8∧x8 < (l.length:Int))∧((Z1h ((Tree.mk (Tree.kind (l.getD x8.toNat Tree.nil)) (Tree.words (l.getD x8.toNat Tree.nil)) (Tree.kids (l.getD x8.toNat Tree.nil))),()))∧((mx0_2.length+([(Tree.mk 0 [] [])]).length)*56≤140737488355328)∧((0:Int)≤(mx0_2.length:Int)∧(mx0_2.length:Int) < ((mx0_2++([(Tree.mk 0 [] [])])).length:Int))∧(mx0_2.length≤(Int.toNat (mx0_2.length:Int)))∧((InR (x8+1))∧(N0 (Z5s wo wg wb l (x8+1) (List.set (mx0_2++([(Tree.mk 0 [] [])])) (Int.toNat (mx0_2.length:Int)) (Tree.mk (Tree.kind (Zd (Tree.mk (Tree.kind (l.getD x8.toNat Tree.nil)) (Tree.words (l.getD x8.toNat Tree.nil)) (Tree.kids (l.getD x8.toNat Tree.nil))))) (Tree.words (Zd (Tree.mk (Tree.kind (l.getD x8.toNat Tree.nil)) (Tree.words (l.getD x8.toNat Tree.nil)) (Tree.kids (l.getD x8.toNat Tree.nil))))) (Tree.kids (Zd (Tree.mk (Tree.kind (l.getD x8.toNat Tree.nil)) (Tree.words (l.getD x8.toNat Tree.nil)) (Tree.kids (l.getD x8.toNat Tree.nil))))))))))))∧((decide (x8 < (l.length:Int)))=false→Q .normal (⟨[(0,.ptr (.x 0) 2),(6,.c (sU .tree l .unk)),(7,.c (ci (l.length:Int))),(8,.c (ci x8)),(9,.c (.bool (decide (x8 < (l.length:Int)))))],[(.x 0,[.mref (.x 0 0),sU .tree wg (.own (.x 0 1)),sU .tree mx0_2 (.own (.x 0 2))])],[(.x 0 0,LC.mk (U:=U) .op wo 0)]⟩:LSt U))):
  ZkU wo wg wb l x8 mx0_2 N0 Q:=by
 have e_:(ZkU wo wg wb l x8 mx0_2 N0 Q)=(type_of% h):=by kernel_rfl
 exact e_.mpr ⟨fun c_6=> ⟨(h.1 c_6).1,⟨(h.1 c_6).2.1,(h.1 c_6).2.2.1,(h.1 c_6).2.2.2.1,(h.1 c_6).2.2.2.2.1,⟨(h.1 c_6).2.2.2.2.2.1,(h.1 c_6).2.2.2.2.2.2⟩⟩⟩,fun c_6=> (h.2 c_6)⟩
def Zvl(wo:List Op)(wg wb l:List Tree):Prop:=AW (Z0 Z9X) Tryz.f148 ZeO [] (Z1A (Zax.can ((wo,wg,wb,()),l,())) (Zax.canX ((wo,wg,wb,()),l,())) (Zax.canL ((wo,wg,wb,()),l,()))) (Z4h cfg Tryz.f148.ntmps Tryz.f148.results.toList (Zni ((wo,wg,wb,()),l,())) (Zjv ((wo,wg,wb,()),l,())) (Zjw ((wo,wg,wb,()),l,())))
theorem ZtB(c75:CT 75 Z0C)(hb:∀ (wo:List Op) (wg:List Tree) (wb:List Tree) (l:List Tree) (_:Unit),Z72 ((wo,wg,wb,()),l,())→Zvl wo wg wb l):CT 148 ZdD:=
 Z0A (l:=[(75,Z0C)]) Zo rfl (⟨c75,trivial⟩) ZeO Tryz.func148 rfl rfl 2 (fun _=> rfl) (by decide) (fun ⟨⟨wo,wg,wb,_⟩,l,_⟩=> hb wo wg wb l ())
def Zko:List (FuncId × Fs U):=[]
def ZlQ:Zj U:=lvl [([0,3],[3]),([4],[])]
abbrev ZzQ(list:Int)(e:Edit)(Q:QT):=AW (Z0 Zko) Tryz.f149 ZlQ [] (L2 [(0,.c (ci list)),(1,.agg (enc .edit e))] []) Q
theorem ZAd(list:Int)(e:Edit)(Q:QT)(h:(((!(e.kind==0)) && (bif (list==9) then (e.kind==2) else false))=true→InR (((e.words.length:Int):Int)+(e.kids.length:Int)))∧(Q .ret (L2 [(4,.c (.bool (bif (e.kind==0) then true else (bif (bif (list==9) then (e.kind==2) else false) then (((((e.words.length:Int):Int)+(e.kids.length:Int)):Int)==0) else false))))] []))):
  ZzQ list e Q:=by
 have e_:(ZzQ list e Q)=(let zz1:=(!(e.kind==0));let zz0:=(bif ((list:Int)==9) then (e.kind==2) else false);((ZE (zz1=true))∧(ZE (zz1=true))∧(ZE ((zz1 && ((list:Int)==9))=true))∧(ZE ((zz1 && ((list:Int)==9))=true))∧(zz1=true→(True→zz1=true))∧(zz1=true→(((list:Int)==9)=true→(zz1 && ((list:Int)==9))=true))∧(ZE (zz1=true))∧(ZE ((zz1 && zz0)=true))∧(ZE ((zz1 && zz0)=true))∧(ZE ((zz1 && zz0)=true))∧(ZE ((zz1 && zz0)=true))∧(ZE ((zz1 && zz0)=true))∧(ZE ((zz1 && zz0)=true))∧((zz1 && zz0)=true→InR ((e.words.length:Int)+(e.kids.length:Int)))∧(ZE ((zz1 && zz0)=true))∧(zz1=true→(True→zz1=true))∧(zz1=true→(zz0=true→(zz1 && zz0)=true))∧((e.kind==0)=false→zz1=true)∧(Q .ret (L2 [(4,.c (.bool (bif (e.kind==0) then true else (bif zz0 then ((((e.words.length:Int)+(e.kids.length:Int)):Int)==0) else false))))] [])))):=by kernel_rfl
 exact e_.mpr ⟨id,id,id,id,(by generalize ((e.kind:Int)==0)=b0;revert b0;decide),(by generalize ((e.kind:Int)==0)=b0;generalize ((list:Int)==9)=b1;revert b0 b1;decide),id,id,id,id,id,id,id,h.1,id,(by generalize ((e.kind:Int)==0)=b0;revert b0;decide),(by generalize ((e.kind:Int)==2)=b0;generalize ((e.kind:Int)==0)=b1;generalize ((list:Int)==9)=b2;revert b0 b1 b2;decide),(by generalize ((e.kind:Int)==0)=b0;revert b0;decide),h.2⟩
def Zvk(list:Int)(e:Edit):Prop:=AW (Z0 Zko) Tryz.f149 ZlQ [] (Zl (ZkG.can (list,e,())) []) (EQ Tryz.f149 (Znh (list,e,())) [])
theorem ZtA(hb:∀ (list:Int) (e:Edit) (_:Unit),Z71 (list,e,())→Zvk list e):CT 149 Z4j:=
 Z4 (l:=[]) Zo rfl trivial ZlQ Tryz.func149 rfl rfl 2 (fun _=> rfl) (by decide) (fun ⟨list,e,_⟩=> hb list e ())
def Zkp:List (FuncId × Fs U):=[]
def ZlR:Zj U:=lvl [([0,3],[3]),([4],[])]
abbrev ZzS(list:Int)(e:Edit)(Q:QT):=AW (Z0 Zkp) Tryz.f128 ZlR [] (L2 [(0,.c (ci list)),(1,.agg (enc .edit e))] []) Q
theorem ZAf(list:Int)(e:Edit)(Q:QT)(h:Q .ret (L2 [(4,.c (.bool (bif (e.kind==0) then true else (bif (bif (bif (e.kind==2) then (list==9) else false) then (((e.words.length:Int):Int)==0) else false) then (((e.kids.length:Int):Int)==0) else false))))] [])):
  ZzS list e Q:=by
 have e_:(ZzS list e Q)=(let zz2:=(bif (e.kind==2) then ((list:Int)==9) else false);let zz1:=(!(e.kind==0));let zz0:=(bif zz2 then ((e.words.length:Int)==0) else false);((ZE (zz1=true))∧(ZE (zz1=true))∧(ZE (zz1=true))∧(ZE ((zz1 && (e.kind==2))=true))∧(zz1=true→(True→zz1=true))∧(zz1=true→((e.kind==2)=true→(zz1 && (e.kind==2))=true))∧(ZE (zz1=true))∧(ZE ((zz1 && zz2)=true))∧(ZE ((zz1 && zz2)=true))∧(ZE ((zz1 && zz2)=true))∧(zz1=true→(True→zz1=true))∧(zz1=true→(zz2=true→(zz1 && zz2)=true))∧(ZE (zz1=true))∧(ZE ((zz1 && zz0)=true))∧(ZE ((zz1 && zz0)=true))∧(ZE ((zz1 && zz0)=true))∧(zz1=true→(True→zz1=true))∧(zz1=true→(zz0=true→(zz1 && zz0)=true))∧((e.kind==0)=false→zz1=true)∧(Q .ret (L2 [(4,.c (.bool (bif (e.kind==0) then true else (bif zz0 then ((e.kids.length:Int)==0) else false))))] [])))):=by kernel_rfl
 exact e_.mpr ⟨id,id,id,id,(by generalize ((e.kind:Int)==0)=b0;revert b0;decide),(by generalize ((e.kind:Int)==2)=b0;generalize ((e.kind:Int)==0)=b1;revert b0 b1;decide),id,id,id,id,(by generalize ((e.kind:Int)==0)=b0;revert b0;decide),(by generalize ((e.kind:Int)==2)=b0;generalize ((e.kind:Int)==0)=b1;generalize ((list:Int)==9)=b2;revert b0 b1 b2;decide),id,id,id,id,(by generalize ((e.kind:Int)==0)=b0;revert b0;decide),(by generalize (((e.words.length:Int):Int)==0)=b0;generalize ((e.kind:Int)==2)=b1;generalize ((e.kind:Int)==0)=b2;generalize ((list:Int)==9)=b3;revert b0 b1 b2 b3;decide),(by generalize ((e.kind:Int)==0)=b0;revert b0;decide),h⟩
def Zvm(list:Int)(e:Edit):Prop:=AW (Z0 Zkp) Tryz.f128 ZlR [] (Zl (ZkH.can (list,e,())) []) (EQ Tryz.f128 (Znj (list,e,())) [])
theorem ZtC(hb:∀ (list:Int) (e:Edit) (_:Unit),Z9o (list,e,())→Zvm list e):CT 128 Z4k:=
 Z4 (l:=[]) Zo rfl trivial ZlR Tryz.func128 rfl rfl 2 (fun _=> rfl) (by decide) (fun ⟨list,e,_⟩=> hb list e ())
end
end Go.AM.YtpjenobkibfpcaaGreat
namespace Go.AM.YtpjenobkibfpcaaGreat
open Go.AM Go.Proofs
theorem Z37{α:Type}(l:List α)(z x:α):(l++[z]).set (Int.toNat (l.length:Int)) x=l++[x]:=by
 rw [Int.toNat_natCast,List.set_append_right _ _ (Nat.le_refl _)]
 simp
theorem Z6s:∀ (F:List Op) (n:Int),Ye F n=if F.length≠0∧(F.getD (F.length - 1) Op.nil).kind=0 then F.set (F.length - 1) ⟨(F.getD (F.length - 1) Op.nil).kind,(F.getD (F.length - 1) Op.nil).n+n,(F.getD (F.length - 1) Op.nil).l,(F.getD (F.length - 1) Op.nil).e⟩ else F++[⟨0,n,[],Edit.nil⟩]
 | [],n=> by simp [Ye]
 | [o],n=> by simp [Ye]
 | o ::p ::r,n=> by
  have ih:=Z6s (p ::r) n
  have e:(o ::p ::r).length - 1=((p ::r).length - 1)+1:=by simp
  rw [Ye,ih,e]
  simp only [List.getD_cons_succ,List.set_cons_succ]
  by_cases h:(p ::r).length≠0∧((p ::r).getD ((p ::r).length - 1) Op.nil).kind=0
  ·rw [if_pos h,if_pos ⟨by simp,h.2⟩]
  ·have h':¬((p ::r).getD ((p ::r).length - 1) Op.nil).kind=0:=fun e=> h ⟨by simp,e⟩
   rw [if_neg h,if_neg (fun e=> h' e.2)]
   try rfl
theorem Z7A(s:Wst):(Z1 s).out.length≤s.out.length+2:=by
 simp only [Z1,YD]
 split <;> split <;> simp
theorem Z7z(s:Wst):∀ o∈(Z1 s).out,o∈s.out∨o.n=0:=by
 intro o ho
 simp only [Z1,YD,List.mem_append] at ho
 rcases ho with h | h | h
 ·exact .inl h
 ·split at h
  ·cases h
  ·simp only [List.mem_singleton] at h;subst h;exact .inr rfl
 ·split at h
  ·cases h
  ·simp only [List.mem_singleton] at h;subst h;exact .inr rfl
theorem ZqY:Contract Tryz.prog cfg 150 Z2o:=by
 refine Zx2 ?_
 intro wo wg wb _ hp
 simp only [Z28] at hp
 refine ZDU wo wg wb _ ?_
 rintro y1 hy1 y2 hy2
 have hy:y1=Edit.nil:=hy1
 subst hy
 rw [Z37] at hy2
 subst hy2
 (simp only [vcS])
 refine ⟨fun h1=> ⟨by simp;omega,by simp;omega,by omega,fun h2=> ⟨by simp;omega,by simp;omega,by omega,?_⟩,fun h2=> ?_⟩,fun h1=> ⟨fun h2=> ⟨by simp;omega,by simp;omega,by omega,?_⟩,fun h2=> ?_⟩⟩
 ·rw [Z37]
  have e:Z1 ⟨wo,wg,wb⟩=⟨wo++[⟨1,0,wg,Edit.nil⟩]++[⟨2,0,wb,Edit.nil⟩],[],[]⟩:=by
   simp only [Z1,YD];rw [if_neg (by omega),if_neg (by omega)];simp
  simp only [ZaM,Z6Y,Z6Z,e]
  (repeat' (first | exact trivial | exact rfl | apply And.intro))
 ·have e:Z1 ⟨wo,wg,wb⟩=⟨wo++[⟨1,0,wg,Edit.nil⟩],[],[]⟩:=by
   simp only [Z1,YD];rw [if_neg (by omega),if_pos (by omega)];simp
  simp only [ZaM,Z6Y,Z6Z,e]
  (repeat' (first | exact trivial | exact rfl | apply And.intro))
 ·rw [Z37]
  have e:Z1 ⟨wo,wg,wb⟩=⟨wo++[⟨2,0,wb,Edit.nil⟩],[],[]⟩:=by
   simp only [Z1,YD];rw [if_pos (by omega),if_neg (by omega)];simp
  simp only [ZaM,Z6Y,Z6Z,e]
  (repeat' (first | exact trivial | exact rfl | apply And.intro))
 ·have e:Z1 ⟨wo,wg,wb⟩=⟨wo,[],[]⟩:=by
   simp only [Z1,YD];rw [if_pos (by omega),if_pos (by omega)];simp
  simp only [ZaM,Z6Y,Z6Z,e]
  (repeat' (first | exact trivial | exact rfl | apply And.intro))
theorem ZBU:Contract Tryz.prog cfg 147 Z6M:=by
 refine Zx4 ZqY ?_
 intro wo wg wb n _ hp
 simp only [Z5j] at hp
 obtain ⟨p1,p2,p3,p4,p5,p6⟩:=hp
 have hfl:=Z7A ⟨wo,wg,wb⟩
 have hfm:=Z7z ⟨wo,wg,wb⟩
 have hg:(Z1 ⟨wo,wg,wb⟩).gone=[]:=rfl
 have hb:(Z1 ⟨wo,wg,wb⟩).brought=[]:=rfl
 have hk:=Z6s (Z1 ⟨wo,wg,wb⟩).out n
 have hkw:ZG ⟨wo,wg,wb⟩ n=⟨Ye (Z1 ⟨wo,wg,wb⟩).out n,[],[]⟩:=rfl
 refine ZDW wo wg wb n _ ?_
 simp only [hg,hb,Zlp,Zhi,Zhj,hkw]
 generalize (Z1 ⟨wo,wg,wb⟩).out=F at*
 simp only at hfl hfm
 rintro y1 hy1 y2 hy2 y3 hy3 y4 hy4
 have hy:y1=Edit.nil:=hy1
 subst hy
 have e2:y2=F.length - 1:=by omega
 subst e2
 rw [←hy3,←hy4] at hk
 (simp only [vcS])
 refine ⟨by simp only [Z28];exact ⟨p1,p2,p3⟩,by unfold InR;omega,fun h=> ⟨h,by omega⟩,fun h=> ?_,fun h=> ?_⟩
 ·have hy3n:0≤y3.n∧y3.n≤100000000000000000:=by
   have hm:y3∈F:=by rw [hy3];exact Zi (by omega) _
   rcases hfm y3 hm with h1 | h1
   ·exact p4 y3 h1
   ·omega
  rw [if_pos ⟨by omega,h.2⟩] at hk
  rw [hk]
  refine ⟨by omega,by unfold InR;omega,by omega,by omega,?_⟩
  (repeat' (first | exact trivial | exact rfl | apply And.intro))
 ·rw [if_neg (by omega)] at hk
  rw [hk,Z37]
  refine ⟨by simp;omega,by simp;omega,by omega,?_⟩
  (repeat' (first | exact trivial | exact rfl | apply And.intro))
theorem ZG7:Contract Tryz.prog cfg 148 Zh4:=by
 refine Zx3 c75 ?_
 intro wo wg wb l _ hp
 simp only [ZaX] at hp
 obtain ⟨p1,p2,p3,p4⟩:=hp
 have hl:=ZA l
 refine ZDV _ _ _ _ _ ?_
 refine Za (ι:=Int × List Tree) (fun s=> Z7j wo wg wb l s.1 s.2) (fun s=> 0≤s.1∧s.1≤l.length∧s.2.length=wg.length+s.1∧s.2++Zb (l.drop s.1.toNat)=wg++Zb l) (fun s=> ((l.length:Int) - s.1).toNat) (0,wg) rfl ⟨by simp,by simp,by simp,by simp⟩ ?_
 rintro ⟨i,out⟩ ⟨h1,h2,h3,h4⟩
 dsimp only at h1 h2 h3 h4
 refine Zrz _ _ _ _ _ _ _ _ ?_
 (simp only [vcS])
 (simp only [Tree.eta,Edit.eta,Tree.kind_mk,Tree.words_mk,Tree.kids_mk])
 refine ⟨fun hi=> ?_,fun hi=> ?_⟩
 ·have hm:=YO (Zi (l:=l) (i:=i.toNat) (by omega) Tree.nil)
  rw [Y3 h1 hi Tree.nil] at h4
  simp only [Zb,List.map_cons] at h4
  rw [Z37]
  refine ⟨⟨h1,hi⟩,by simp only [Z1h];omega,by simp;omega,by simp;omega,by omega,by unfold InR;omega,(i+1,out++[Zd (l.getD i.toNat Tree.nil)]),rfl,⟨by dsimp only;omega,by dsimp only;omega,by simp;omega,?_⟩,by dsimp only;omega⟩
  simp only [List.append_assoc,List.cons_append,List.nil_append]
  exact h4
 ·rw [List.drop_of_length_le (by omega)] at h4
  simp only [Zb,List.map_nil,List.append_nil] at h4
  rw [h4]
  (repeat' (first | exact trivial | exact rfl | apply And.intro))
theorem ZEL:Contract Tryz.prog cfg 148 ZdD:=by
 refine ZtB c75 ?_
 intro wo wg wb l _ hp
 simp only [Z72] at hp
 obtain ⟨p1,p2,p3,p4⟩:=hp
 have hl:=ZA l
 refine ZAe _ _ _ _ _ ?_
 refine Za (ι:=Int × List Tree) (fun s=> Z5s wo wg wb l s.1 s.2) (fun s=> 0≤s.1∧s.1≤l.length∧s.2.length=wb.length+s.1∧s.2++Zb (l.drop s.1.toNat)=wb++Zb l) (fun s=> ((l.length:Int) - s.1).toNat) (0,wb) rfl ⟨by simp,by simp,by simp,by simp⟩ ?_
 rintro ⟨i,out⟩ ⟨h1,h2,h3,h4⟩
 dsimp only at h1 h2 h3 h4
 refine ZpQ _ _ _ _ _ _ _ _ ?_
 (simp only [vcS])
 (simp only [Tree.eta,Edit.eta,Tree.kind_mk,Tree.words_mk,Tree.kids_mk])
 refine ⟨fun hi=> ?_,fun hi=> ?_⟩
 ·have hm:=YO (Zi (l:=l) (i:=i.toNat) (by omega) Tree.nil)
  rw [Y3 h1 hi Tree.nil] at h4
  simp only [Zb,List.map_cons] at h4
  rw [Z37]
  refine ⟨⟨h1,hi⟩,by simp only [Z1h];omega,by simp;omega,by simp;omega,by omega,by unfold InR;omega,(i+1,out++[Zd (l.getD i.toNat Tree.nil)]),rfl,⟨by dsimp only;omega,by dsimp only;omega,by simp;omega,?_⟩,by dsimp only;omega⟩
  simp only [List.append_assoc,List.cons_append,List.nil_append]
  exact h4
 ·rw [List.drop_of_length_le (by omega)] at h4
  simp only [Zb,List.map_nil,List.append_nil] at h4
  rw [h4]
  (repeat' (first | exact trivial | exact rfl | apply And.intro))
theorem ZuP:Contract Tryz.prog cfg 149 Z4j:=by
 refine ZtA ?_
 intro list e _ hp
 simp only [Z71] at hp
 refine ZAd _ _ _ ?_
 refine ⟨fun _=> by unfold InR;dsimp only;omega,Z5 rfl ?_⟩
 rw [Bool.eq_iff_iff]
 simp only [Z0k]
 (simp only [vcS])
 omega
theorem ZuQ:Contract Tryz.prog cfg 128 Z4k:=by
 refine ZtC ?_
 intro list e _ hp
 refine ZAf _ _ _ ?_
 refine Z5 rfl ?_
 rw [Bool.eq_iff_iff]
 simp only [Z0k]
 (simp only [vcS])
 omega
noncomputable def Z5R:Fs U:=ZBm Zh4 ZdD
theorem ZuM:Contract Tryz.prog cfg 148 Z5R:=ZkD ZG7 ZEL
end Go.AM.YtpjenobkibfpcaaGreat
