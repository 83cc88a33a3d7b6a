import Derived.Test.YtpjenobkibfpcaaKG20d
import Derived.Test.YtpjenobkibfpcaaKC34
import Derived.Test.YtpjenobkibfpcaaKB22b
import Derived.Test.YtpjenobkibfpcaaCD25
set_option linter.unusedSimpArgs false
set_option linter.unusedVariables false
namespace Go.AM.Ytpjenobkibfpcaa
open Go.AM Go.Proofs
theorem Zz3:Contract Try.prog cfg 151 Z6P:=by
 refine ZuS ZhE ?_
 intro a b f _ hp
 simp only [ZdT] at hp
 refine ZAN a b f _ ?_
 (simp only [vcS])
 refine ⟨fun hc=> Zi rfl (Z40 (a:=Z8 a) (b:=Z8 b) (fun h=> hc (by have:=congrArg List.length h;simp [Z8] at this;omega))).symm,fun hc=> ?_⟩
 have hl:a.length=b.length:=by omega
 have hla:=ZA a
 refine Z6 (ι:=Int) (fun i=> Z2I a b f i) (fun i=> 0≤i∧i≤a.length∧∀ j:Nat,(j:Int) < i→Z4 (a.getD j Tree.nil)=Z4 (b.getD j Tree.nil)) (fun i=> ((a.length:Int) - i).toNat) 0 rfl ⟨by omega,by omega,by intro j hj;omega⟩ ?_
 rintro i ⟨h1,h2,h3⟩
 refine ZpT a b f _ _ _ ?_
 (simp only [vcS])
 (simp only [Tree.eta,Edit.eta,Tree.kind_mk,Tree.words_mk,Tree.kids_mk])
 refine ⟨fun hi=> ⟨⟨h1,hi⟩,⟨h1,by omega⟩,?_,fun hq=> ?_,fun hq=> ⟨by unfold InR;omega,i+1,rfl,⟨by omega,by omega,?_⟩,by omega⟩⟩,fun hi=> ?_⟩
 ·have:=YJ (Zg (l:=a) (i:=i.toNat) (by omega) Tree.nil)
  have:=YJ (Zg (l:=b) (i:=i.toNat) (by omega) Tree.nil)
  simp only [Z1Z];omega
 ·refine Zi rfl (Z40 (a:=Z8 a) (b:=Z8 b) (fun h=> ?_)).symm
  have h5:=Z6v (d:=Tree.nil) h i.toNat
  rw [YE] at hq
  exact hq h5
 ·intro j hj
  by_cases hj2:(j:Int) < i
  ·exact h3 j hj2
  ·rw [Yw,show i.toNat=j by omega] at hq
   exact hq
 ·exact Zi rfl (Jm (a:=Z8 a) (b:=Z8 b).2 (Zc7 Tree.nil hl (fun j hj=> h3 j (by omega)))).symm
end Go.AM.Ytpjenobkibfpcaa
namespace Go.AM.Ytpjenobkibfpcaa
open Go.AM Go.Proofs
noncomputable section
def ZjI:ArgL (List Int × Unit):=(.cons (aSl .u64) .nil)
def Z9o(a:List Int × Unit):Prop:=a.1.length≤1000000000000
def Z9h(a:List Int × Unit):List Int:=a.1
def Z49:Fs U:=fsL ZjI (fun a=> [Z9o a]) .u64 Z9h
def ZnD:ArgL (List Tree × Unit):=(.cons (aSl .tree) .nil)
def ZdU(a:List Tree × Unit):Prop:=a.1.length≤1000000000000
def ZcI(a:List Tree × Unit):List Tree:=a.1
def Z6Q:Fs U:=fsL ZnD (fun a=> [ZdU a]) .tree ZcI
def Zbo:ArgL (Edit × Tree × Unit):=(.cons (aEl .edit) (.cons (aEl .tree) .nil))
def Z4b(a:Edit × Tree × Unit):Prop:=(Z5 a.1≤20000000000∧YT a.1∧∃ d,Za a.1 d=true)∧Zo a.2.1+ctE a.1≤200000000000∧rng a.2.1
def Zf6(a:Edit × Tree × Unit):Nat:=2*Z5 a.1+1
def Z5X(a:Edit × Tree × Unit):V U:= .tup [(true,(enc .tree (Zct a.1 a.2.1))),(false,[.bool ((doE false a.1 a.2.1).isSome)])]
def Zaz:Fs U:=fs Zbo (fun a=> [Z4b a]) Z5X
def Z7J:ArgL (Edit × Tree × Unit):=(.cons (aEl .edit) (.cons (aEl .tree) .nil))
def Z5f(a:Edit × Tree × Unit):Prop:=Edit.kind a.1=2∧(Z5 a.1≤20000000000∧YT a.1∧∃ d,Za a.1 d=true)∧Zo a.2.1+ctE a.1≤200000000000∧rng a.2.1
def Zc1(a:Edit × Tree × Unit):Nat:=2*Z5 a.1
def Z56(a:Edit × Tree × Unit):V U:= .tup [(true,(enc .tree (YG (Z2W false a.1 a.2.1)))),(false,[.bool ((Z2W false a.1 a.2.1).isSome)])]
def ZlT:Fs U:=fs Z7J (fun a=> [Z5f a]) Z56
def Z7I:ArgL (Edit × Tree × Unit):=(.cons (aEl .edit) (.cons (aEl .tree) .nil))
def Z5e(a:Edit × Tree × Unit):Prop:=Edit.kind a.1=3∧(Z5 a.1≤20000000000∧YT a.1∧∃ d,Za a.1 d=true)∧Zo a.2.1+ctE a.1≤200000000000∧rng a.2.1
def Zc0(a:Edit × Tree × Unit):Nat:=2*Z5 a.1
def Z55(a:Edit × Tree × Unit):V U:= .tup [(true,(enc .tree (Zhc a.1 (Z0e false a.1 a.2.1)))),(false,[.bool ((Z1V (Z0e false a.1 a.2.1)).isSome)])]
def ZlS:Fs U:=fs Z7I (fun a=> [Z5e a]) Z55
def Zjp:List (FuncId × Fs U):=[]
def ZkF:Zj U:=fun i=> match i with
 | 0=> ([(0,[])],[])
 | 1=> ([(0,[]),(4,[])],[])
 | 2=> ([(2,[.wr .u64])],[])
 | 3=> ([(2,[.wr .u64])],[])
 | _=> ([],[])
abbrev ZCd(p:List Nat):=AW (Zes Zjp) Try.f109 ZkF p
theorem ZxG(l:List Int)(Q:QT)(h:(((l=[])→(Q .ret (⟨[(2,.c (.mref (.e 2 0)))],[],[(.e 2 0,LC.mk (U:=U) .u64 [] 0)]⟩:LSt U)))∧(True→((([]:List Int).length+l.length)*8≤140737488355328)∧(Q .ret (⟨[(2,.c (.mref (.e 2 0)))],[],[(.e 2 0,LC.mk (U:=U) .u64 (([]:List Int)++l) (([]:List Int).length))]⟩:LSt U))))):
  ZCd [] (L2 [(0,.c (sU .u64 l .unk))] []) Q:=
 Eq.mpr (by kernel_rfl) h
def ZtJ(l:List Int):Prop:=AW (Zes Zjp) Try.f109 ZkF [] (Zk (ZjI.can (l,())) []) (Z42 cfg Try.f109.ntmps Try.f109.results.toList (.c (.mref (.r 0 0))) [] [(.r 0 0,LC.mk (U:=U) .u64 (Z9h (l,())) 0)])
theorem ZrY(hb:∀ (l:List Int) (_:Unit),Z9o (l,())→ZtJ l):CT 109 Z49:=
 Z6C (l:=[]) Zm rfl trivial ZkF Try.func109 rfl rfl 1 (fun _=> rfl) (by decide) (fun ⟨l,_⟩=> hb l ())
def Zn5:List (FuncId × Fs U):=[]
def Zs7:Zj U:=fun i=> match i with
 | 0=> ([(0,[])],[])
 | 1=> ([(0,[]),(4,[])],[])
 | 2=> ([(2,[.wr .tree])],[])
 | 3=> ([(2,[.wr .tree])],[])
 | _=> ([],[])
abbrev ZDd(p:List Nat):=AW (Zes Zn5) Try.f150 Zs7 p
theorem ZAO(l:List Tree)(Q:QT)(h:(((l=[])→(Q .ret (⟨[(2,.c (.mref (.e 2 0)))],[],[(.e 2 0,LC.mk (U:=U) .tree [] 0)]⟩:LSt U)))∧(True→((([]:List Tree).length+l.length)*56≤140737488355328)∧(Q .ret (⟨[(2,.c (.mref (.e 2 0)))],[],[(.e 2 0,LC.mk (U:=U) .tree (([]:List Tree)++l) (([]:List Tree).length))]⟩:LSt U))))):
  ZDd [] (L2 [(0,.c (sU .tree l .unk))] []) Q:=
 Eq.mpr (by kernel_rfl) h
def Zw9(l:List Tree):Prop:=AW (Zes Zn5) Try.f150 Zs7 [] (Zk (ZnD.can (l,())) []) (Z42 cfg Try.f150.ntmps Try.f150.results.toList (.c (.mref (.r 0 0))) [] [(.r 0 0,LC.mk (U:=U) .tree (ZcI (l,())) 0)])
theorem ZuT(hb:∀ (l:List Tree) (_:Unit),ZdU (l,())→Zw9 l):CT 150 Z6Q:=
 Z6C (l:=[]) Zm rfl trivial Zs7 Try.func150 rfl rfl 1 (fun _=> rfl) (by decide) (fun ⟨l,_⟩=> hb l ())
def Zbd(N:Nat):List (FuncId × Fs U):=(70,fs Zbo (fun a=> [Z4b a,Zf6 a < N]) Z5X) ::(107,fs Z7J (fun a=> [Z5f a,Zc1 a < N]) Z56) ::(108,fs Z7I (fun a=> [Z5e a,Zc0 a < N]) Z55) ::[(106,Jl),(149,Z29),(91,Z4O),(151,Z6P),(150,Z6Q),(66,Z4Q),(109,Z49)]
def ZyA:Zj U:=lvl [([2,3,4],[2,3,4]),([2,3,4,7],[2,3,4]),([2,3,4,7,8],[2,3,4]),([4,5],[4]),([2,3,4,7,11],[2,3,4]),([4,5],[4]),([2,3,4,7,19],[2,3,4]),([4,5],[4]),([2,3,4,26],[2,3,4]),([4,5],[4]),([4,5],[4])]
abbrev A70(N:Nat)(p:List Nat):=AW (Z1 (Zbd N)) Try.f70 ZyA p
theorem ZCs(N:Nat)(e:Edit)(t:Tree)(Q:QT)(h:∀ y_1,y_1=e→∀ y_2,y_2=t→∀ y_3,y_3=(e.old)→(((e.kind==0)=true→(Q .ret (L2 [(4,.ptr (.loc 4) 0),(5,.c (.bool true))] [(.loc 4,(enc .tree t))])))∧((e.kind==0)=false→(((e.kind==1)=true→(Z1Z (y_3,y_2,()))∧(Q .ret (L2 [(4,.ptr (.loc 4) 0),(5,.c (.bool (YF (Z4 y_3) (Z4 y_2))))] [(.loc 4,(enc .tree e.new))])))∧((e.kind==1)=false→(((e.kind==2)=true→(Z5f (y_1,y_2,()))∧(Zc1 (y_1,y_2,()) < N)∧(Q .ret (L2 [(4,.ptr (.loc 4) 0),(5,.c (.bool ((Z2W false y_1 y_2).isSome)))] [(.loc 4,(enc .tree (YG (Z2W false y_1 y_2))))])))∧((e.kind==2)=false→(((e.kind==3)=true→(Z5e (y_1,y_2,()))∧(Zc0 (y_1,y_2,()) < N)∧(Q .ret (L2 [(4,.ptr (.loc 4) 0),(5,.c (.bool ((Z1V (Z0e false y_1 y_2)).isSome)))] [(.loc 4,(enc .tree (Zhc y_1 (Z0e false y_1 y_2))))])))∧((e.kind==3)=false→(Q .ret (L2 [(4,.ptr (.loc 4) 0),(5,.c (.bool false))] [(.loc 4,[ci 0,.nils,.nils])]))))))))))):
  A70 N [] (L2 [(0,.agg (enc .edit e)),(1,.agg (enc .tree t))] []) Q:=
 Eq.mpr (by kernel_rfl) (h _ (Z9 _) _ (Zb _) _ (Zb _))
def ZzX(N:Nat)(e:Edit)(t:Tree):Prop:=AW (Z1 (Zbd N)) Try.f70 ZyA [] (Zk (Zbo.can (e,t,())) []) (EQ Try.f70 (Z5X (e,t,())) [])
abbrev ZC5:Prop:=∀ (N:Nat) (e:Edit) (t:Tree) (_:Unit),Z4b (e,t,())→Zf6 (e,t,()) < N+1→ZzX N e t
def Zhs(N:Nat):List (FuncId × Fs U):=(70,fs Zbo (fun a=> [Z4b a,Zf6 a < N]) Z5X) ::(107,fs Z7J (fun a=> [Z5f a,Zc1 a < N]) Z56) ::(108,fs Z7I (fun a=> [Z5e a,Zc0 a < N]) Z55) ::[(106,Jl),(149,Z29),(91,Z4O),(151,Z6P),(150,Z6Q),(66,Z4Q),(109,Z49)]
def ZmO:Zj U:=fun i=> match i with
 | 0=> ([(2,[]),(3,[]),(4,[])],[(.loc 2,[]),(.loc 3,[]),(.loc 4,[])])
 | 1=> ([(2,[]),(3,[]),(4,[]),(16,[])],[(.loc 2,[]),(.loc 3,[]),(.loc 4,[])])
 | 2=> ([(4,[]),(5,[])],[(.loc 4,[])])
 | 3=> ([(2,[]),(3,[]),(4,[]),(6,[])],[(.loc 2,[]),(.loc 3,[]),(.loc 4,[]),(.loc 6,[.any,.wr .u64,.wr .tree])])
 | 4=> ([(2,[]),(3,[]),(4,[]),(6,[]),(26,[]),(27,[]),(28,[])],[(.loc 2,[]),(.loc 3,[]),(.loc 4,[]),(.loc 6,[.any,.wr .u64,.wr .tree])])
 | 5=> ([(2,[]),(3,[]),(4,[]),(6,[]),(26,[]),(27,[]),(28,[]),(29,[])],[(.loc 2,[]),(.loc 3,[]),(.loc 4,[]),(.loc 6,[.any,.wr .u64,.wr .tree])])
 | 6=> ([(2,[]),(3,[]),(4,[]),(6,[]),(8,[]),(26,[]),(27,[]),(28,[])],[(.loc 2,[]),(.loc 3,[]),(.loc 4,[]),(.loc 6,[.any,.wr .u64,.wr .tree]),(.loc 8,[])])
 | 7=> ([(2,[]),(3,[]),(4,[]),(6,[]),(8,[]),(9,[]),(26,[]),(27,[]),(28,[])],[(.loc 2,[]),(.loc 3,[]),(.loc 4,[]),(.loc 6,[.any,.wr .u64,.wr .tree]),(.loc 8,[])])
 | 8=> ([(2,[]),(3,[]),(4,[]),(6,[]),(8,[]),(9,[]),(26,[]),(27,[]),(28,[]),(42,[])],[(.loc 2,[]),(.loc 3,[]),(.loc 4,[]),(.loc 6,[.any,.wr .u64,.wr .tree]),(.loc 8,[])])
 | 9=> ([(4,[]),(5,[])],[(.loc 4,[])])
 | 10=> ([(2,[]),(3,[]),(4,[]),(6,[]),(8,[]),(9,[]),(26,[]),(27,[]),(28,[]),(42,[]),(49,[])],[(.loc 2,[]),(.loc 3,[]),(.loc 4,[]),(.loc 6,[.any,.wr .u64,.wr .tree]),(.loc 8,[])])
 | 11=> ([(2,[]),(3,[]),(4,[]),(6,[]),(8,[]),(9,[]),(26,[]),(27,[]),(28,[]),(42,[])],[(.loc 2,[]),(.loc 3,[]),(.loc 4,[]),(.loc 6,[.any,.wr .u64,.wr .tree]),(.loc 8,[])])
 | 12=> ([(2,[]),(3,[]),(4,[]),(6,[]),(26,[]),(27,[]),(28,[])],[(.loc 2,[]),(.loc 3,[]),(.loc 4,[]),(.loc 6,[.any,.wr .u64,.wr .tree])])
 | 13=> ([(2,[]),(3,[]),(4,[]),(6,[]),(26,[]),(27,[]),(28,[])],[(.loc 2,[]),(.loc 3,[]),(.loc 4,[]),(.loc 6,[.any,.wr .u64,.wr .tree])])
 | 14=> ([(3,[]),(4,[]),(6,[]),(68,[]),(69,[]),(70,[])],[(.loc 3,[]),(.loc 4,[]),(.loc 6,[.any,.wr .u64,.wr .tree])])
 | 15=> ([(3,[]),(4,[]),(6,[]),(68,[]),(69,[]),(70,[]),(71,[])],[(.loc 3,[]),(.loc 4,[]),(.loc 6,[.any,.wr .u64,.wr .tree])])
 | 16=> ([(3,[]),(4,[]),(6,[]),(11,[]),(68,[]),(69,[]),(70,[])],[(.loc 3,[]),(.loc 4,[]),(.loc 6,[.any,.wr .u64,.wr .tree]),(.loc 11,[])])
 | 17=> ([(3,[]),(4,[]),(6,[]),(11,[]),(12,[]),(13,[]),(68,[]),(69,[]),(70,[])],[(.loc 3,[]),(.loc 4,[]),(.loc 6,[.any,.wr .u64,.wr .tree]),(.loc 11,[]),(.loc 12,[])])
 | 18=> ([(3,[]),(4,[]),(6,[]),(11,[]),(12,[]),(68,[]),(69,[]),(70,[]),(85,[])],[(.loc 3,[]),(.loc 4,[]),(.loc 6,[.any,.wr .u64,.wr .tree]),(.loc 11,[]),(.loc 12,[])])
 | 19=> ([(4,[]),(5,[])],[(.loc 4,[])])
 | 20=> ([(3,[]),(4,[]),(6,[]),(11,[]),(12,[]),(68,[]),(69,[]),(70,[]),(85,[]),(92,[])],[(.loc 3,[]),(.loc 4,[]),(.loc 6,[.any,.wr .u64,.wr .tree]),(.loc 11,[]),(.loc 12,[])])
 | 21=> ([(3,[]),(4,[]),(6,[]),(11,[]),(12,[]),(68,[]),(69,[]),(70,[]),(85,[])],[(.loc 3,[]),(.loc 4,[]),(.loc 6,[.any,.wr .u64,.wr .tree]),(.loc 11,[]),(.loc 12,[])])
 | 22=> ([(3,[]),(4,[]),(6,[]),(68,[]),(69,[]),(70,[])],[(.loc 3,[]),(.loc 4,[]),(.loc 6,[.any,.wr .u64,.wr .tree])])
 | 23=> ([(3,[]),(4,[]),(6,[]),(68,[]),(69,[]),(70,[])],[(.loc 3,[]),(.loc 4,[]),(.loc 6,[.any,.wr .u64,.wr .tree])])
 | 24=> ([(4,[]),(5,[])],[(.loc 4,[])])
 | _=> ([],[])
def Z7A(e:Edit)(t:Tree)(x28:Int)(rl_6_1:List Int):LSt U:=(⟨[(2,.ptr (.loc 2) 0),(3,.ptr (.loc 3) 0),(4,.ptr (.loc 4) 0),(6,.ptr (.loc 6) 0),(26,.c (sU .wedit e.words .unk)),(27,.c (ci (e.words.length:Int))),(28,.c (ci x28))],[(.loc 2,(enc .edit e)),(.loc 3,(enc .tree t)),(.loc 4,[ci 0,.nils,.nils]),(.loc 6,[ci 1,.mref (.l 6 1),.mref (.l 6 2)])],[(.l 6 1,LC.mk (U:=U) .u64 rl_6_1 0),(.l 6 2,LC.mk (U:=U) .tree t.kids 0)]⟩:LSt U)
def Z7z(e:Edit)(t:Tree)(x28:Int)(rl_6_1_a:List Int):LSt U:=(⟨[(2,.ptr (.loc 2) 0),(3,.ptr (.loc 3) 0),(4,.ptr (.loc 4) 0),(6,.ptr (.loc 6) 0),(8,.ptr (.loc 8) 0),(9,.c (.int .u64 (YC (Tree.mk t.kind t.words t.kids) (WEdit.at_ (e.words.getD x28.toNat (WEdit.mk 0 0 0 0)))))),(26,.c (sU .wedit e.words .unk)),(27,.c (ci (e.words.length:Int))),(28,.c (ci x28)),(42,.c (.bool (((mix 0 (YC (Tree.mk t.kind t.words t.kids) (WEdit.at_ (e.words.getD x28.toNat (WEdit.mk 0 0 0 0)))) (WEdit.mask (e.words.getD x28.toNat (WEdit.mk 0 0 0 0)))):Int) !=(WEdit.old (e.words.getD x28.toNat (WEdit.mk 0 0 0 0))))))],[(.loc 2,(enc .edit e)),(.loc 3,(enc .tree t)),(.loc 4,[ci 0,.nils,.nils]),(.loc 6,[ci 1,.mref (.l 6 1),.mref (.l 6 2)]),(.loc 8,(enc .wedit (e.words.getD x28.toNat (WEdit.mk 0 0 0 0))))],[(.l 6 1,LC.mk (U:=U) .u64 rl_6_1_a 0),(.l 6 2,LC.mk (U:=U) .tree t.kids 0)]⟩:LSt U)
def Z7y(e:Edit)(t:Tree)(rl_6_1:List Int)(x70_b:Int)(rl_6_2_b:List Tree):LSt U:=(⟨[(3,.ptr (.loc 3) 0),(4,.ptr (.loc 4) 0),(6,.ptr (.loc 6) 0),(68,.c (sU .kid e.kids .unk)),(69,.c (ci (e.kids.length:Int))),(70,.c (ci x70_b))],[(.loc 3,(enc .tree t)),(.loc 4,[ci 0,.nils,.nils]),(.loc 6,[ci 1,.mref (.l 6 1),.mref (.l 6 2)])],[(.l 6 1,LC.mk (U:=U) .u64 rl_6_1 0),(.l 6 2,LC.mk (U:=U) .tree rl_6_2_b 0)]⟩:LSt U)
def Z7x(e:Edit)(t:Tree)(rl_6_1:List Int)(x70_b:Int)(rl_6_2_c:List Tree):LSt U:=(⟨[(3,.ptr (.loc 3) 0),(4,.ptr (.loc 4) 0),(6,.ptr (.loc 6) 0),(11,.ptr (.loc 11) 0),(12,.ptr (.loc 12) 0),(68,.c (sU .kid e.kids .unk)),(69,.c (ci (e.kids.length:Int))),(70,.c (ci x70_b)),(85,.c (.bool (!((doE false (Edit.mk (Edit.kind (KidOf.e (e.kids.getD x70_b.toNat (KidOf.mk 0 Edit.nil)))) (Tree.mk (Tree.kind (Edit.old (KidOf.e (e.kids.getD x70_b.toNat (KidOf.mk 0 Edit.nil))))) (Tree.words (Edit.old (KidOf.e (e.kids.getD x70_b.toNat (KidOf.mk 0 Edit.nil))))) (Tree.kids (Edit.old (KidOf.e (e.kids.getD x70_b.toNat (KidOf.mk 0 Edit.nil)))))) (Tree.mk (Tree.kind (Edit.new (KidOf.e (e.kids.getD x70_b.toNat (KidOf.mk 0 Edit.nil))))) (Tree.words (Edit.new (KidOf.e (e.kids.getD x70_b.toNat (KidOf.mk 0 Edit.nil))))) (Tree.kids (Edit.new (KidOf.e (e.kids.getD x70_b.toNat (KidOf.mk 0 Edit.nil)))))) (Edit.words (KidOf.e (e.kids.getD x70_b.toNat (KidOf.mk 0 Edit.nil)))) (Edit.kids (KidOf.e (e.kids.getD x70_b.toNat (KidOf.mk 0 Edit.nil)))) (Edit.list (KidOf.e (e.kids.getD x70_b.toNat (KidOf.mk 0 Edit.nil)))) (Edit.ops (KidOf.e (e.kids.getD x70_b.toNat (KidOf.mk 0 Edit.nil))))) (Tree.mk (Tree.kind (JA (Tree.mk t.kind t.words t.kids) (KidOf.at_ (e.kids.getD x70_b.toNat (KidOf.mk 0 Edit.nil))))) (Tree.words (JA (Tree.mk t.kind t.words t.kids) (KidOf.at_ (e.kids.getD x70_b.toNat (KidOf.mk 0 Edit.nil))))) (Tree.kids (JA (Tree.mk t.kind t.words t.kids) (KidOf.at_ (e.kids.getD x70_b.toNat (KidOf.mk 0 Edit.nil))))))).isSome))))],[(.loc 3,(enc .tree t)),(.loc 4,[ci 0,.nils,.nils]),(.loc 6,[ci 1,.mref (.l 6 1),.mref (.l 6 2)]),(.loc 11,(enc .kid (e.kids.getD x70_b.toNat (KidOf.mk 0 Edit.nil)))),(.loc 12,(enc .tree (Zct (Edit.mk (Edit.kind (KidOf.e (e.kids.getD x70_b.toNat (KidOf.mk 0 Edit.nil)))) (Tree.mk (Tree.kind (Edit.old (KidOf.e (e.kids.getD x70_b.toNat (KidOf.mk 0 Edit.nil))))) (Tree.words (Edit.old (KidOf.e (e.kids.getD x70_b.toNat (KidOf.mk 0 Edit.nil))))) (Tree.kids (Edit.old (KidOf.e (e.kids.getD x70_b.toNat (KidOf.mk 0 Edit.nil)))))) (Tree.mk (Tree.kind (Edit.new (KidOf.e (e.kids.getD x70_b.toNat (KidOf.mk 0 Edit.nil))))) (Tree.words (Edit.new (KidOf.e (e.kids.getD x70_b.toNat (KidOf.mk 0 Edit.nil))))) (Tree.kids (Edit.new (KidOf.e (e.kids.getD x70_b.toNat (KidOf.mk 0 Edit.nil)))))) (Edit.words (KidOf.e (e.kids.getD x70_b.toNat (KidOf.mk 0 Edit.nil)))) (Edit.kids (KidOf.e (e.kids.getD x70_b.toNat (KidOf.mk 0 Edit.nil)))) (Edit.list (KidOf.e (e.kids.getD x70_b.toNat (KidOf.mk 0 Edit.nil)))) (Edit.ops (KidOf.e (e.kids.getD x70_b.toNat (KidOf.mk 0 Edit.nil))))) (Tree.mk (Tree.kind (JA (Tree.mk t.kind t.words t.kids) (KidOf.at_ (e.kids.getD x70_b.toNat (KidOf.mk 0 Edit.nil))))) (Tree.words (JA (Tree.mk t.kind t.words t.kids) (KidOf.at_ (e.kids.getD x70_b.toNat (KidOf.mk 0 Edit.nil))))) (Tree.kids (JA (Tree.mk t.kind t.words t.kids) (KidOf.at_ (e.kids.getD x70_b.toNat (KidOf.mk 0 Edit.nil)))))))))],[(.l 6 1,LC.mk (U:=U) .u64 rl_6_1 0),(.l 6 2,LC.mk (U:=U) .tree rl_6_2_c 0)]⟩:LSt U)
abbrev Zi1(N:Nat)(p:List Nat):=AW (Z1 (Zhs N)) Try.f107 ZmO p
abbrev Z7Q(N:Nat)(p:List Nat):=SW (Z1 (Zhs N)) Try.f107 ZmO p
theorem ZBh(N:Nat)(e:Edit)(t:Tree)(Q:QT)(h:(((t.kind !=1)=true→(Q .ret (L2 [(4,.ptr (.loc 4) 0),(5,.c (.bool false))] [(.loc 4,[ci 0,.nils,.nils])])))∧((t.kind !=1)=false→(Z9o (t.words,()))∧(ZdU (t.kids,()))∧(Ze (Zi1 N [1,1,1,0,1,0,0]) (Z7A e t 0 t.words) (xB 0 (Z7Q N [1,1,1,1] Q)))))):
  Zi1 N [] (L2 [(0,.agg (enc .edit e)),(1,.agg (enc .tree t))] []) Q:=
 Eq.mpr (by kernel_rfl) h
theorem Zqp(N:Nat)(e:Edit)(t:Tree)(x28:Int)(rl_6_1:List Int)(N0:NT)(Q:QT)(h:∀ y_1,y_1=t→∀ y_2,y_2=(e.words.getD x28.toNat (WEdit.mk 0 0 0 0))→let z1:=decide (x28 < (e.words.length:Int));let z0:=((mix 0 (YC y_1 y_2.at_) y_2.mask):Int) !=y_2.old;((z1=true→((0:Int)≤x28∧x28 < (e.words.length:Int))∧((ZaR (y_1,y_2.at_,()))∧((Z60 (0,(YC y_1 y_2.at_),y_2.mask,()))∧((z0=true→(Q .ret (L2 [(4,.ptr (.loc 4) 0),(5,.c (.bool false))] [(.loc 4,[ci 0,.nils,.nils])])))∧(z0=false→Ze (Zi1 N [1,1,1,0,1,0,0,1,1,0,0,1,1,1,0,0,0]) (Z7z e t x28 rl_6_1) (xB 2 (Z7Q N [1,1,1,0,1,0,0,1,1,0,0,1,1,1,1] (xB 1 (Z7Q N [1,1,1,0,1,0,0,1,1,1] (xT N0 (xB 0 (Z7Q N [1,1,1,1] Q))))))))))))∧(z1=false→(Ze (Zi1 N [1,1,1,1,0,1,0,0]) (Z7y e t rl_6_1 0 t.kids) (xB 4 (Z7Q N [1,1,1,1,1] Q)))))):
  Zi1 N [1,1,1,0,1,0,0] (Z7A e t x28 rl_6_1) (xT N0 (xB 0 (Z7Q N [1,1,1,1] Q))):=
 Eq.mpr (by kernel_rfl) (h _ (Zb _) _ rfl)
theorem Zqo(N:Nat)(e:Edit)(t:Tree)(x28:Int)(rl_6_1_a:List Int)(N1 N0:NT)(Q:QT)(h:let z0:=e.words.getD x28.toNat (WEdit.mk 0 0 0 0);let z2:=YC (Tree.mk t.kind t.words t.kids) (WEdit.at_ z0);let z1:=decide (((rl_6_1_a.length:Int):Int)≤(WEdit.at_ z0));((z1=true→((rl_6_1_a.length+([0]).length)*8≤140737488355328)∧(N1 (Z7z e t x28 (rl_6_1_a++([0])))))∧(z1=false→(Z60 (z2,(WEdit.new z0),(WEdit.mask z0),()))∧((0:Int)≤(WEdit.at_ z0)∧(WEdit.at_ z0) < (rl_6_1_a.length:Int))∧((0:Nat)≤(Int.toNat (WEdit.at_ z0)))∧((InR (x28+1))∧(N0 (Z7A e t (x28+1) (List.set rl_6_1_a (Int.toNat (WEdit.at_ z0)) (mix z2 (WEdit.new z0) (WEdit.mask z0))))))))):
  Zi1 N [1,1,1,0,1,0,0,1,1,0,0,1,1,1,0,0,0] (Z7z e t x28 rl_6_1_a) (xT N1 (xB 2 (Z7Q N [1,1,1,0,1,0,0,1,1,0,0,1,1,1,1] (xB 1 (Z7Q N [1,1,1,0,1,0,0,1,1,1] (xT N0 (xB 0 (Z7Q N [1,1,1,1] Q)))))))):=
 Eq.mpr (by kernel_rfl) h
theorem Zqn(N:Nat)(e:Edit)(t:Tree)(rl_6_1:List Int)(x70_b:Int)(rl_6_2_b:List Tree)(N2:NT)(Q:QT)(h:∀ y_1,y_1=t→∀ y_2,y_2=(e.kids.getD x70_b.toNat (KidOf.mk 0 Edit.nil))→∀ y_3,y_3=(y_2.e)→∀ y_4,y_4=(JA y_1 y_2.at_)→let z1:= !((doE false y_3 y_4).isSome);let z0:=decide (x70_b < (e.kids.length:Int));((z0=true→((0:Int)≤x70_b∧x70_b < (e.kids.length:Int))∧((ZfI (y_1,y_2.at_,()))∧(Z4b (y_3,y_4,()))∧(Zf6 (y_3,y_4,()) < N)∧((z1=true→(Q .ret (L2 [(4,.ptr (.loc 4) 0),(5,.c (.bool false))] [(.loc 4,[ci 0,.nils,.nils])])))∧(z1=false→Ze (Zi1 N [1,1,1,1,0,1,0,0,1,1,0,0,1,1,1,0,0,0]) (Z7x e t rl_6_1 x70_b rl_6_2_b) (xB 6 (Z7Q N [1,1,1,1,0,1,0,0,1,1,0,0,1,1,1,1] (xB 5 (Z7Q N [1,1,1,1,0,1,0,0,1,1,1] (xT N2 (xB 4 (Z7Q N [1,1,1,1,1] Q)))))))))))∧(z0=false→(Q .ret (L2 [(4,.ptr (.loc 4) 0),(5,.c (.bool true))] [(.loc 4,[ci 1,sU .u64 rl_6_1 (.own (.l 4 1)),sU .tree rl_6_2_b (.own (.l 4 2))])]))))):
  Zi1 N [1,1,1,1,0,1,0,0] (Z7y e t rl_6_1 x70_b rl_6_2_b) (xT N2 (xB 4 (Z7Q N [1,1,1,1,1] Q))):=
 Eq.mpr (by kernel_rfl) (h _ (Zb _) _ rfl _ (Z9 _) _ (Zb _))
theorem Zqm(N:Nat)(e:Edit)(t:Tree)(rl_6_1:List Int)(x70_b:Int)(rl_6_2_c:List Tree)(N3 N2:NT)(Q:QT)(h:∀ y_1,y_1=t→∀ y_2,y_2=(e.kids.getD x70_b.toNat (KidOf.mk 0 Edit.nil))→∀ y_3,y_3=(y_2.e)→∀ y_4,y_4=(JA y_1 y_2.at_)→∀ y_5,y_5=(Zct y_3 y_4)→let z0:=decide (((rl_6_2_c.length:Int):Int)≤y_2.at_);((z0=true→((rl_6_2_c.length+([(Tree.mk 0 [] [])]).length)*56≤140737488355328)∧(N3 (Z7x e t rl_6_1 x70_b (rl_6_2_c++([(Tree.mk 0 [] [])])))))∧(z0=false→((0:Int)≤y_2.at_∧y_2.at_ < (rl_6_2_c.length:Int))∧((0:Nat)≤(Int.toNat y_2.at_))∧((InR (x70_b+1))∧(N2 (Z7y e t rl_6_1 (x70_b+1) (List.set rl_6_2_c (Int.toNat y_2.at_) y_5))))))):
  Zi1 N [1,1,1,1,0,1,0,0,1,1,0,0,1,1,1,0,0,0] (Z7x e t rl_6_1 x70_b rl_6_2_c) (xT N3 (xB 6 (Z7Q N [1,1,1,1,0,1,0,0,1,1,0,0,1,1,1,1] (xB 5 (Z7Q N [1,1,1,1,0,1,0,0,1,1,1] (xT N2 (xB 4 (Z7Q N [1,1,1,1,1] Q)))))))):=
 Eq.mpr (by kernel_rfl) (h _ (Zb _) _ rfl _ (Z9 _) _ (Zb _) _ (Zb _))
def ZwC(N:Nat)(e:Edit)(t:Tree):Prop:=AW (Z1 (Zhs N)) Try.f107 ZmO [] (Zk (Z7J.can (e,t,())) []) (EQ Try.f107 (Z56 (e,t,())) [])
abbrev Zxy:Prop:=∀ (N:Nat) (e:Edit) (t:Tree) (_:Unit),Z5f (e,t,())→Zc1 (e,t,()) < N+1→ZwC N e t
def Zhr(N:Nat):List (FuncId × Fs U):=(70,fs Zbo (fun a=> [Z4b a,Zf6 a < N]) Z5X) ::(107,fs Z7J (fun a=> [Z5f a,Zc1 a < N]) Z56) ::(108,fs Z7I (fun a=> [Z5e a,Zc0 a < N]) Z55) ::[(106,Jl),(149,Z29),(91,Z4O),(151,Z6P),(150,Z6Q),(66,Z4Q),(109,Z49)]
def ZmN:Zj U:=fun i=> match i with
 | 0=> ([(2,[]),(3,[]),(4,[])],[(.loc 2,[]),(.loc 3,[]),(.loc 4,[])])
 | 1=> ([(2,[]),(3,[]),(4,[]),(18,[])],[(.loc 2,[]),(.loc 3,[]),(.loc 4,[])])
 | 2=> ([(4,[]),(5,[])],[(.loc 4,[])])
 | 3=> ([(2,[]),(3,[]),(4,[]),(6,[])],[(.loc 2,[]),(.loc 3,[]),(.loc 4,[]),(.loc 6,[])])
 | 4=> ([(2,[]),(4,[]),(6,[]),(7,[])],[(.loc 2,[]),(.loc 4,[]),(.loc 6,[])])
 | 5=> ([(4,[]),(6,[]),(7,[]),(26,[]),(27,[]),(28,[])],[(.loc 4,[]),(.loc 6,[.any,.any,.own .tree])])
 | 6=> ([(4,[]),(6,[]),(7,[]),(26,[]),(27,[]),(28,[]),(29,[])],[(.loc 4,[]),(.loc 6,[])])
 | 7=> ([(4,[]),(6,[]),(7,[]),(9,[]),(26,[]),(27,[]),(28,[])],[(.loc 4,[]),(.loc 6,[]),(.loc 9,[])])
 | 8=> ([(4,[]),(6,[]),(7,[]),(9,[]),(10,[]),(26,[]),(27,[]),(28,[])],[(.loc 4,[]),(.loc 6,[]),(.loc 9,[])])
 | 9=> ([(4,[]),(6,[]),(7,[]),(9,[]),(10,[]),(26,[]),(27,[]),(28,[]),(35,[])],[(.loc 4,[]),(.loc 6,[]),(.loc 9,[])])
 | 10=> ([(4,[]),(6,[]),(7,[]),(9,[]),(10,[]),(26,[]),(27,[]),(28,[]),(35,[]),(36,[])],[(.loc 4,[]),(.loc 6,[]),(.loc 9,[])])
 | 11=> ([(4,[]),(6,[]),(7,[]),(26,[]),(27,[]),(28,[]),(97,[])],[(.loc 4,[]),(.loc 6,[])])
 | 12=> ([(4,[]),(6,[]),(7,[]),(9,[]),(10,[]),(26,[]),(27,[]),(28,[]),(35,[]),(44,[])],[(.loc 4,[]),(.loc 6,[]),(.loc 9,[])])
 | 13=> ([(4,[]),(6,[]),(7,[]),(9,[]),(10,[]),(26,[]),(27,[]),(28,[]),(49,[])],[(.loc 4,[]),(.loc 6,[]),(.loc 9,[])])
 | 14=> ([(4,[]),(6,[]),(7,[]),(9,[]),(10,[]),(26,[]),(27,[]),(28,[]),(49,[])],[(.loc 4,[]),(.loc 6,[]),(.loc 9,[])])
 | 15=> ([(4,[]),(6,[]),(7,[]),(9,[]),(10,[]),(26,[]),(27,[]),(28,[]),(49,[])],[(.loc 4,[]),(.loc 6,[]),(.loc 9,[])])
 | 16=> ([(4,[]),(6,[]),(7,[]),(9,[]),(10,[]),(26,[]),(27,[]),(28,[]),(54,[])],[(.loc 4,[]),(.loc 6,[]),(.loc 9,[])])
 | 17=> ([(4,[]),(5,[])],[(.loc 4,[])])
 | 18=> ([(4,[]),(6,[]),(7,[]),(9,[]),(10,[]),(26,[]),(27,[]),(28,[])],[(.loc 4,[]),(.loc 6,[]),(.loc 9,[])])
 | 19=> ([(4,[]),(6,[]),(7,[]),(9,[]),(11,[]),(26,[]),(27,[]),(28,[])],[(.loc 4,[]),(.loc 6,[]),(.loc 9,[])])
 | 20=> ([(4,[]),(6,[]),(7,[]),(12,[]),(13,[]),(26,[]),(27,[]),(28,[])],[(.loc 4,[]),(.loc 6,[]),(.loc 12,[])])
 | 21=> ([(4,[]),(6,[]),(7,[]),(12,[]),(26,[]),(27,[]),(28,[]),(72,[])],[(.loc 4,[]),(.loc 6,[]),(.loc 12,[])])
 | 22=> ([(4,[]),(5,[])],[(.loc 4,[])])
 | 23=> ([(4,[]),(6,[]),(7,[]),(26,[]),(27,[]),(28,[]),(97,[])],[(.loc 4,[]),(.loc 6,[])])
 | 24=> ([(4,[]),(6,[]),(7,[]),(9,[]),(11,[]),(26,[]),(27,[]),(28,[]),(80,[])],[(.loc 4,[]),(.loc 6,[]),(.loc 9,[])])
 | 25=> ([(4,[]),(6,[]),(7,[]),(26,[]),(27,[]),(28,[]),(97,[])],[(.loc 4,[]),(.loc 6,[])])
 | 26=> ([(4,[]),(6,[]),(7,[]),(9,[]),(11,[]),(26,[]),(27,[]),(28,[]),(89,[])],[(.loc 4,[]),(.loc 6,[]),(.loc 9,[])])
 | 27=> ([(4,[]),(6,[]),(7,[]),(26,[]),(27,[]),(28,[]),(97,[])],[(.loc 4,[]),(.loc 6,[])])
 | 28=> ([(4,[]),(5,[])],[(.loc 4,[])])
 | 29=> ([(4,[]),(6,[]),(7,[]),(26,[]),(27,[]),(28,[])],[(.loc 4,[]),(.loc 6,[.any,.any,.own .tree])])
 | 30=> ([(4,[]),(5,[])],[(.loc 4,[])])
 | _=> ([],[])
def Z1x(e:Edit)(t:Tree)(x28:Int)(x7 ml6_2:List Tree):LSt U:=(L2 [(4,.ptr (.loc 4) 0),(6,.ptr (.loc 6) 0),(7,.c (sU .tree x7 .unk)),(26,.c (sU .op e.ops .unk)),(27,.c (ci (e.ops.length:Int))),(28,.c (ci x28))] [(.loc 4,[ci 0,.nils,.nils]),(.loc 6,[ci t.kind,.nils,sU .tree ml6_2 (.own (.l 6 2))])])
def Z2R(e:Edit)(t:Tree)(x28:Int)(x7_a ml6_2_a:List Tree)(v97_a:V U):LSt U:=(L2 [(4,.ptr (.loc 4) 0),(6,.ptr (.loc 6) 0),(7,.c (sU .tree x7_a .unk)),(26,.c (sU .op e.ops .unk)),(27,.c (ci (e.ops.length:Int))),(28,.c (ci x28)),(97,v97_a)] [(.loc 4,[ci 0,.nils,.nils]),(.loc 6,[ci t.kind,.nils,sU .tree ml6_2_a (.own (.l 6 2))])])
def Z7w(e:Edit)(t:Tree)(x28:Int)(x7 ml6_2:List Tree)(x10_b:Int)(v49_b:V U):LSt U:=(L2 [(4,.ptr (.loc 4) 0),(6,.ptr (.loc 6) 0),(7,.c (sU .tree x7 .unk)),(9,.ptr (.loc 9) 0),(10,.c (ci x10_b)),(26,.c (sU .op e.ops .unk)),(27,.c (ci (e.ops.length:Int))),(28,.c (ci x28)),(49,v49_b)] [(.loc 4,[ci 0,.nils,.nils]),(.loc 6,[ci t.kind,.nils,sU .tree ml6_2 (.own (.l 6 2))]),(.loc 9,(enc .op (e.ops.getD x28.toNat Op.nil)))])
abbrev Zbr(N:Nat)(p:List Nat):=AW (Z1 (Zhr N)) Try.f108 ZmN p
abbrev ZhZ(N:Nat)(p:List Nat):=SW (Z1 (Zhr N)) Try.f108 ZmN p
theorem ZBg(N:Nat)(e:Edit)(t:Tree)(Q:QT)(h:(((t.kind !=e.list)=true→(Q .ret (L2 [(4,.ptr (.loc 4) 0),(5,.c (.bool false))] [(.loc 4,[ci 0,.nils,.nils])])))∧((t.kind !=e.list)=false→(Ze (Zbr N [1,1,1,1,0,1,0,0]) (Z1x e t 0 t.kids []) (xB 0 (ZhZ N [1,1,1,1,1] Q)))))):
  Zbr N [] (L2 [(0,.agg (enc .edit e)),(1,.agg (enc .tree t))] []) Q:=
 Eq.mpr (by kernel_rfl) h
theorem Zqk(N:Nat)(e:Edit)(t:Tree)(x28:Int)(x7 ml6_2:List Tree)(N0:NT)(Q:QT)(h:∀ y_1,y_1=(e.ops.getD x28.toNat Op.nil)→let z2:=decide (x28 < (e.ops.length:Int));let z1:=xT N0 (xB 0 (ZhZ N [1,1,1,1,1] Q));let z0:=xB 1 (ZhZ N [1,1,1,1,0,1,0,0,1,1,1] z1);((z2=true→((0:Int)≤x28∧x28 < (e.ops.length:Int))∧(((y_1.kind==2)=true→((ml6_2.length+y_1.l.length)*56≤140737488355328)∧(Zbr N [1,1,1,1,0,1,0,0,1,1,1] (Z2R e t x28 x7 (ml6_2++y_1.l) .junk) z1))∧((y_1.kind==2)=false→(((y_1.kind==1)=true→(Zbr N [1,1,1,1,0,1,0,0,1,1,0,0,1,1,1] (Z7w e t x28 x7 ml6_2 (y_1.l.length:Int) .junk) z0))∧((y_1.kind==1)=false→(((y_1.kind==3)=true→(Zbr N [1,1,1,1,0,1,0,0,1,1,0,0,1,1,1] (Z7w e t x28 x7 ml6_2 1 (.c (.bool (y_1.kind==3)))) z0))∧((y_1.kind==3)=false→Zbr N [1,1,1,1,0,1,0,0,1,1,0,0,1,1,1] (Z7w e t x28 x7 ml6_2 y_1.n (.c (.bool (y_1.kind==3)))) z0)))))))∧(z2=false→(Q .ret (L2 [(4,.ptr (.loc 4) 0),(5,.c (.bool (((x7.length:Int):Int)==0)))] [(.loc 4,[ci t.kind,.nils,sU .tree ml6_2 (.own (.l 4 2))])]))))):
  Zbr N [1,1,1,1,0,1,0,0] (Z1x e t x28 x7 ml6_2) (xT N0 (xB 0 (ZhZ N [1,1,1,1,1] Q))):=
 Eq.mpr (by kernel_rfl) (h _ rfl)
theorem Zql(N:Nat)(e:Edit)(t:Tree)(x28:Int)(x7_a ml6_2_a:List Tree)(v97_a:V U)(N0:NT)(Q:QT)(h:(InR (x28+1))∧(N0 (Z1x e t (x28+1) x7_a ml6_2_a))):
  Zbr N [1,1,1,1,0,1,0,0,1,1,1] (Z2R e t x28 x7_a ml6_2_a v97_a) (xT N0 (xB 0 (ZhZ N [1,1,1,1,1] Q))):=
 Eq.mpr (by kernel_rfl) h
theorem ZcY(N:Nat)(e:Edit)(t:Tree)(x28:Int)(x7 ml6_2:List Tree)(x10_b:Int)(v49_b:V U)(N0:NT)(Q:QT)(h:∀ y_1,y_1=(e.ops.getD x28.toNat Op.nil)→∀ y_2,y_2=(List.getD (List.take x10_b.toNat x7) (Int.toNat 0) Tree.nil)→∀ y_3,y_3=y_2→∀ y_4,y_4=(y_1.e)→∀ y_5,y_5=(eqX (Z8 y_1.l) (Z8 (List.take x10_b.toNat x7)))→∀ y_6,y_6=(Zct y_4 y_3)→let z5:= !((doE false y_4 y_3).isSome);let z4:=decide (((x7.length:Int):Int) < x10_b);let z3:=List.drop x10_b.toNat x7;let z2:=List.take x10_b.toNat x7;let z1:=xT N0 (xB 0 (ZhZ N [1,1,1,1,1] Q));let z0:=Q .ret (L2 [(4,.ptr (.loc 4) 0),(5,.c (.bool false))] [(.loc 4,[ci 0,.nils,.nils])]);((z4=true→z0)∧(z4=false→(((0:Int)≤x10_b∧x10_b≤(x7.length:Int))∧((0:Int)≤x10_b∧x10_b≤(x7.length:Int))∧(((y_1.kind==0)=true→((ml6_2.length+z2.length)*56≤140737488355328)∧(Zbr N [1,1,1,1,0,1,0,0,1,1,1] (Z2R e t x28 z3 (ml6_2++z2) .junk) z1))∧((y_1.kind==0)=false→(((y_1.kind==1)=true→(ZdT (y_1.l,z2,(),()))∧(((!y_5)=true→z0)∧((!y_5)=false→Zbr N [1,1,1,1,0,1,0,0,1,1,1] (Z2R e t x28 z3 ml6_2 (.c (.bool (!y_5)))) z1)))∧((y_1.kind==1)=false→((0:Int)≤0∧0 < (z2.length:Int))∧(Z4b (y_4,y_3,()))∧(Zf6 (y_4,y_3,()) < N)∧((z5=true→z0)∧(z5=false→((ml6_2.length+([y_6]).length)*56≤140737488355328)∧(Zbr N [1,1,1,1,0,1,0,0,1,1,1] (Z2R e t x28 z3 (ml6_2++([y_6])) .junk) z1))))))))))):
  Zbr N [1,1,1,1,0,1,0,0,1,1,0,0,1,1,1] (Z7w e t x28 x7 ml6_2 x10_b v49_b) (xB 1 (ZhZ N [1,1,1,1,0,1,0,0,1,1,1] (xT N0 (xB 0 (ZhZ N [1,1,1,1,1] Q))))):=
 Eq.mpr (by kernel_rfl) (h _ rfl _ rfl _ (Zb _) _ (Z9 _) _ rfl _ (Zb _))
def ZwB(N:Nat)(e:Edit)(t:Tree):Prop:=AW (Z1 (Zhr N)) Try.f108 ZmN [] (Zk (Z7I.can (e,t,())) []) (EQ Try.f108 (Z55 (e,t,())) [])
abbrev Zxx:Prop:=∀ (N:Nat) (e:Edit) (t:Tree) (_:Unit),Z5e (e,t,())→Zc0 (e,t,()) < N+1→ZwB N e t
theorem ZuG(ZhE:CT 106 Jl)(Zpm:CT 149 Z29)(c91:CT 91 Z4O)(Zz3:CT 151 Z6P)(Zz4:CT 150 Z6Q)(c66:CT 66 Z4Q)(Zt5:CT 109 Z49)(b70:ZC5)(Zzx:Zxy)(Zzw:Zxx):
  CT 70 Zaz∧CT 107 ZlT∧CT 108 ZlS:=by
 have h82 : ∃ fn, Try.prog.funcs[(70 : FuncId)]? = some fn ∧ fn.body.isSome = true ∧ (fn.name == "runtime.NumGoroutine") = false := ⟨Try.f70, Try.func70, rfl, rfl⟩
 have h113 : ∃ fn, Try.prog.funcs[(107 : FuncId)]? = some fn ∧ fn.body.isSome = true ∧ (fn.name == "runtime.NumGoroutine") = false := ⟨Try.f107, Try.func107, rfl, rfl⟩
 have h114 : ∃ fn, Try.prog.funcs[(108 : FuncId)]? = some fn ∧ fn.body.isSome = true ∧ (fn.name == "runtime.NumGoroutine") = false := ⟨Try.f108, Try.func108, rfl, rfl⟩
 have key:∀ N,CT 70 (fs Zbo (fun a=> [Z4b a,Zf6 a < N]) Z5X)∧CT 107 (fs Z7J (fun a=> [Z5f a,Zc1 a < N]) Z56)∧CT 108 (fs Z7I (fun a=> [Z5e a,Zc0 a < N]) Z55):=by
  intro N
  induction N with
  | zero=> exact ⟨J8 h82,J8 h113,J8 h114⟩
  | succ N ih=>
   have kn:=Z0s (l:=Zbd N) ⟨ih.1,ih.2.1,ih.2.2,ZhE,Zpm,c91,Zz3,Zz4,c66,Zt5,trivial⟩
   exact ⟨ZC (Γ:=Z1 (Zbd N)) Zm rfl kn ZyA Try.func70 rfl rfl (fun a=> by show 2≤_;decide) (fun ⟨e,t,_⟩ h=> b70 N e t () h.1 h.2.1),
    ZC (Γ:=Z1 (Zbd N)) Zm rfl kn ZmO Try.func107 rfl rfl (fun a=> by show 2≤_;decide) (fun ⟨e,t,_⟩ h=> Zzx N e t () h.1 h.2.1),
    ZC (Γ:=Z1 (Zbd N)) Zm rfl kn ZmN Try.func108 rfl rfl (fun a=> by show 2≤_;decide) (fun ⟨e,t,_⟩ h=> Zzw N e t () h.1 h.2.1)⟩
 exact ⟨J9 h82 fun N=> (key N).1,J9 h113 fun N=> (key N).2.1,J9 h114 fun N=> (key N).2.2⟩
end
end Go.AM.Ytpjenobkibfpcaa
namespace Go.AM.Ytpjenobkibfpcaa
open Go.AM Go.Proofs
noncomputable section
def Ztp:ArgL (Edit × Tree × Unit):=(.cons (aEl .edit) (.cons (aEl .tree) .nil))
def ZbO(a:Edit × Tree × Unit):Prop:=(Z5 a.1≤20000000000∧YT a.1∧∃ d,Za a.1 d=true)∧Zo a.2.1+ctE a.1≤200000000000∧rng a.2.1
def Zma(a:Edit × Tree × Unit):V U:= .tup [(true,(enc .tree (YG ((doE false a.1 a.2.1).map Z4)))),(false,[.bool ((doE false a.1 a.2.1).isSome)])]
def Z4T:Fs U:=fs Ztp (fun a=> [ZbO a]) Zma
def ZnA:ArgL (Tree × Int × Unit):=(.cons (aEl .tree) (.cons (JI .i64) .nil))
def ZdS(a:Tree × Int × Unit):Prop:=0≤a.2.1
def Zr4(a:Tree × Int × Unit):V U:= .c (.int .u64 (YC a.1 a.2.1))
def Z6N:Fs U:=fs ZnA (fun a=> [ZdS a]) Zr4
def Znz:ArgL (Tree × Int × Unit):=(.cons (aEl .tree) (.cons (JI .i64) .nil))
def ZdR(a:Tree × Int × Unit):Prop:=0≤a.2.1
def Zka(a:Tree × Int × Unit):V U:= .agg (enc .tree (JA a.1 a.2.1))
def Z6M:Fs U:=fs Znz (fun a=> [ZdR a]) Zka
def Zbn:ArgL (Edit × Tree × Unit):=(.cons (aEl .edit) (.cons (aEl .tree) .nil))
def Z25(a:Edit × Tree × Unit):Prop:=(Z5 a.1≤20000000000∧YT a.1∧∃ d,Za a.1 d=true)∧Zo a.2.1+ctE a.1≤200000000000∧rng a.2.1
def Zf5(a:Edit × Tree × Unit):Nat:=2*Z5 a.1+1
def Z7S(a:Edit × Tree × Unit):V U:= .tup [(true,(enc .tree (YG (doE true a.1 a.2.1)))),(false,[.bool ((doE true a.1 a.2.1).isSome)])]
def Z5H:Fs U:=fs Zbn (fun a=> [Z25 a]) Z7S
def Z7H:ArgL (Edit × Tree × Unit):=(.cons (aEl .edit) (.cons (aEl .tree) .nil))
def Z5b(a:Edit × Tree × Unit):Prop:=Edit.kind a.1=2∧(Z5 a.1≤20000000000∧YT a.1∧∃ d,Za a.1 d=true)∧Zo a.2.1+ctE a.1≤200000000000∧rng a.2.1
def ZbZ(a:Edit × Tree × Unit):Nat:=2*Z5 a.1
def Z3S(a:Edit × Tree × Unit):V U:= .tup [(true,(enc .tree (YG (Z2W true a.1 a.2.1)))),(false,[.bool ((Z2W true a.1 a.2.1).isSome)])]
def ZlO:Fs U:=fs Z7H (fun a=> [Z5b a]) Z3S
def Z7G:ArgL (Edit × Tree × Unit):=(.cons (aEl .edit) (.cons (aEl .tree) .nil))
def Z5a(a:Edit × Tree × Unit):Prop:=Edit.kind a.1=3∧(Z5 a.1≤20000000000∧YT a.1∧∃ d,Za a.1 d=true)∧Zo a.2.1+ctE a.1≤200000000000∧rng a.2.1
def ZbY(a:Edit × Tree × Unit):Nat:=2*Z5 a.1
def Z54(a:Edit × Tree × Unit):V U:= .tup [(true,(enc .tree (Zhc a.1 (Z0e true a.1 a.2.1)))),(false,[.bool ((Z1V (Z0e true a.1 a.2.1)).isSome)])]
def ZlN:Fs U:=fs Z7G (fun a=> [Z5a a]) Z54
def ZsB:List (FuncId × Fs U):=[(71,Z0x),(70,Zaz)]
def ZyH:Zj U:=lvl [([2,3,4],[2,3,4]),([4,6,7],[4,6]),([4,6,15],[4,6]),([4,5],[4]),([4,5],[4])]
abbrev A26(p:List Nat):=AW (Z1 ZsB) Try.f26 ZyH p
theorem ZCL(e:Edit)(t:Tree)(Q:QT)(h:∀ y_1,y_1=e→∀ y_2,y_2=t→∀ y_3,y_3=(Zct y_1 y_2)→let z0:= !((doE false y_1 y_2).isSome);((Z4b (y_1,y_2,()))∧((z0=true→(Q .ret (L2 [(4,.ptr (.loc 4) 0),(5,.c (.bool false))] [(.loc 4,[ci 0,.nils,.nils])])))∧(z0=false→(Z1e (y_3,()))∧(Q .ret (L2 [(4,.ptr (.loc 4) 0),(5,.c (.bool true))] [(.loc 4,(enc .tree (Z4 y_3)))])))))):
  A26 [] (L2 [(0,.agg (enc .edit e)),(1,.agg (enc .tree t))] []) Q:=
 Eq.mpr (by kernel_rfl) (h _ (Z9 _) _ (Zb _) _ (Zb _))
def ZAg(e:Edit)(t:Tree):Prop:=AW (Z1 ZsB) Try.f26 ZyH [] (Zk (Ztp.can (e,t,())) []) (EQ Try.f26 (Zma (e,t,())) [])
theorem Zyn(c71:CT 71 Z0x)(c70:CT 70 Zaz)(hb:∀ (e:Edit) (t:Tree) (_:Unit),ZbO (e,t,())→ZAg e t):CT 26 Z4T:=
 Z7 (l:=[(71,Z0x),(70,Zaz)]) Zm rfl (⟨c71,c70,trivial⟩) ZyH Try.func26 rfl rfl 2 (fun _=> rfl) (by decide) (fun ⟨e,t,_⟩=> hb e t ())
def Zn2:List (FuncId × Fs U):=[]
def Zs4:Zj U:=lvl [([1,2],[2]),([1,2,9],[2]),([4],[]),([4],[])]
abbrev ZDc(p:List Nat):=AW (Z1 Zn2) Try.f170 Zs4 p
theorem ZAJ(t:Tree)(i:Int)(Q:QT)(h:let z0:=decide (i < (t.words.length:Int));((z0=true→((0:Int)≤i∧i < (t.words.length:Int))∧(Q .ret (L2 [(4,.c (.int .u64 (t.words.getD i.toNat (0:Int))))] [])))∧(z0=false→(Q .ret (L2 [(4,.c (.int .u64 0))] []))))):
  ZDc [] (L2 [(0,.agg (enc .tree t)),(1,.c (ci i))] []) Q:=
 Eq.mpr (by kernel_rfl) h
def Zw4(t:Tree)(i:Int):Prop:=AW (Z1 Zn2) Try.f170 Zs4 [] (Zk (ZnA.can (t,i,())) []) (EQ Try.f170 (Zr4 (t,i,())) [])
theorem ZuP(hb:∀ (t:Tree) (i:Int) (_:Unit),ZdS (t,i,())→Zw4 t i):CT 170 Z6N:=
 Z7 (l:=[]) Zm rfl trivial Zs4 Try.func170 rfl rfl 2 (fun _=> rfl) (by decide) (fun ⟨t,i,_⟩=> hb t i ())
def Zn1:List (FuncId × Fs U):=[]
def Zs3:Zj U:=lvl [([1,2,4],[2,4]),([1,2,4,9],[2,4]),([4],[4]),([4],[4])]
abbrev ZDb(p:List Nat):=AW (Z1 Zn1) Try.f171 Zs3 p
theorem ZAI(t:Tree)(i:Int)(Q:QT)(h:let z0:=decide (i < (t.kids.length:Int));((z0=true→((0:Int)≤i∧i < (t.kids.length:Int))∧(Q .ret (L2 [(4,.ptr (.loc 4) 0)] [(.loc 4,(enc .tree (t.kids.getD i.toNat Tree.nil)))])))∧(z0=false→(Q .ret (L2 [(4,.ptr (.loc 4) 0)] [(.loc 4,[ci 0,.nils,.nils])]))))):
  ZDb [] (L2 [(0,.agg (enc .tree t)),(1,.c (ci i))] []) Q:=
 Eq.mpr (by kernel_rfl) h
def Zw3(t:Tree)(i:Int):Prop:=AW (Z1 Zn1) Try.f171 Zs3 [] (Zk (Znz.can (t,i,())) []) (EQ Try.f171 (Zka (t,i,())) [])
theorem ZuO(hb:∀ (t:Tree) (i:Int) (_:Unit),ZdR (t,i,())→Zw3 t i):CT 171 Z6M:=
 Z7 (l:=[]) Zm rfl trivial Zs3 Try.func171 rfl rfl 2 (fun _=> rfl) (by decide) (fun ⟨t,i,_⟩=> hb t i ())
def Zbc(N:Nat):List (FuncId × Fs U):=(99,fs Zbn (fun a=> [Z25 a,Zf5 a < N]) Z7S) ::(138,fs Z7H (fun a=> [Z5b a,ZbZ a < N]) Z3S) ::(139,fs Z7G (fun a=> [Z5a a,ZbY a < N]) Z54) ::[(45,Z0b),(137,Z0Y),(170,Z6N),(103,Z2d),(171,Z6M)]
def Zyv:Zj U:=lvl [([2,3,4],[2,3,4]),([2,3,4,6],[2,3,4,6]),([2,3,4,6,10],[2,3,4,6]),([4,6,7],[4,6]),([2,3,4,6,10,11],[2,3,4,6]),([4,6,7],[4,6]),([2,3,4,6,10,13],[2,3,4,6]),([2,3,4,6],[2,3,4,6]),([4,6,7],[4,6]),([2,3,4,6,10,21],[2,3,4,6]),([4,6,7],[4,6]),([2,3,4,6,29],[2,3,4,6]),([4,6,7],[4,6]),([4,6,38],[4,6]),([4,5],[4]),([4,5],[4])]
abbrev A99(N:Nat)(p:List Nat):=AW (Z1 (Zbc N)) Try.f99 Zyv p
theorem ZCe(N:Nat)(e:Edit)(t:Tree)(Q:QT)(h:∀ y_1,y_1=e→∀ y_2,y_2=t→∀ y_3,y_3=(e.new)→∀ y_4,y_4=(e.old)→∀ y_5,y_5=(YG (Z2W true y_1 y_2))→∀ y_6,y_6=(Zhc y_1 (Z0e true y_1 y_2))→let z4:= !((Z2W true y_1 y_2).isSome);let z3:= !(YF (Z4 y_4) (Z4 y_2));let z2:= !((Z1V (Z0e true y_1 y_2)).isSome);let z1:=Q .ret (L2 [(4,.ptr (.loc 4) 0),(5,.c (.bool true))] [(.loc 4,(enc .tree (Z4 y_2)))]);let z0:=Q .ret (L2 [(4,.ptr (.loc 4) 0),(5,.c (.bool false))] [(.loc 4,[ci 0,.nils,.nils])]);(((e.kind==0)=true→(((!true)=true→z0)∧((!true)=false→(Jy (y_2,()))∧z1)))∧((e.kind==0)=false→(((e.kind==1)=true→((Z65 (y_4,y_2,()))∧((z3=true→z0)∧(z3=false→(Jy (y_3,()))∧(Q .ret (L2 [(4,.ptr (.loc 4) 0),(5,.c (.bool true))] [(.loc 4,(enc .tree (Z4 y_3)))]))))))∧((e.kind==1)=false→(((e.kind==2)=true→(Z5b (y_1,y_2,()))∧(ZbZ (y_1,y_2,()) < N)∧((z4=true→z0)∧(z4=false→(Jy (y_5,()))∧(Q .ret (L2 [(4,.ptr (.loc 4) 0),(5,.c (.bool true))] [(.loc 4,(enc .tree (Z4 y_5)))])))))∧((e.kind==2)=false→(((e.kind==3)=true→(Z5a (y_1,y_2,()))∧(ZbY (y_1,y_2,()) < N)∧((z2=true→z0)∧(z2=false→(Jy (y_6,()))∧(Q .ret (L2 [(4,.ptr (.loc 4) 0),(5,.c (.bool true))] [(.loc 4,(enc .tree (Z4 y_6)))])))))∧((e.kind==3)=false→(((!false)=true→z0)∧((!false)=false→(Jy (y_2,()))∧z1))))))))))):
  A99 N [] (L2 [(0,.agg (enc .edit e)),(1,.agg (enc .tree t))] []) Q:=
 Eq.mpr (by kernel_rfl) (h _ (Z9 _) _ (Zb _) _ (Zb _) _ (Zb _) _ (Zb _) _ (Zb _))
def ZzJ(N:Nat)(e:Edit)(t:Tree):Prop:=AW (Z1 (Zbc N)) Try.f99 Zyv [] (Zk (Zbn.can (e,t,())) []) (EQ Try.f99 (Z7S (e,t,())) [])
abbrev ZC0:Prop:=∀ (N:Nat) (e:Edit) (t:Tree) (_:Unit),Z25 (e,t,())→Zf5 (e,t,()) < N+1→ZzJ N e t
def Zhm(N:Nat):List (FuncId × Fs U):=(99,fs Zbn (fun a=> [Z25 a,Zf5 a < N]) Z7S) ::(138,fs Z7H (fun a=> [Z5b a,ZbZ a < N]) Z3S) ::(139,fs Z7G (fun a=> [Z5a a,ZbY a < N]) Z54) ::[(45,Z0b),(137,Z0Y),(170,Z6N),(103,Z2d),(171,Z6M)]
def ZmI:Zj U:=fun i=> match i with
 | 0=> ([(2,[]),(3,[]),(4,[])],[(.loc 2,[]),(.loc 3,[]),(.loc 4,[])])
 | 1=> ([(2,[]),(3,[]),(4,[]),(21,[])],[(.loc 2,[]),(.loc 3,[]),(.loc 4,[])])
 | 2=> ([(4,[]),(5,[])],[(.loc 4,[])])
 | 3=> ([(2,[]),(3,[]),(4,[]),(6,[])],[(.loc 2,[]),(.loc 3,[]),(.loc 4,[]),(.loc 6,[])])
 | 4=> ([(2,[]),(3,[]),(4,[]),(6,[]),(7,[]),(8,[])],[(.loc 2,[]),(.loc 3,[]),(.loc 4,[]),(.loc 6,[])])
 | 5=> ([(2,[]),(3,[]),(4,[]),(6,[]),(7,[]),(8,[]),(9,[])],[(.loc 2,[]),(.loc 3,[]),(.loc 4,[]),(.loc 6,[])])
 | 6=> ([(2,[]),(3,[]),(4,[]),(6,[]),(7,[]),(8,[]),(9,[]),(45,[])],[(.loc 2,[]),(.loc 3,[]),(.loc 4,[]),(.loc 6,[])])
 | 7=> ([(2,[]),(3,[]),(4,[]),(6,[]),(7,[]),(8,[])],[(.loc 2,[]),(.loc 3,[]),(.loc 4,[]),(.loc 6,[])])
 | 8=> ([(2,[]),(3,[]),(4,[]),(6,[]),(7,[]),(8,[]),(10,[])],[(.loc 2,[]),(.loc 3,[]),(.loc 4,[]),(.loc 6,[])])
 | 9=> ([(2,[]),(3,[]),(4,[]),(6,[]),(7,[]),(8,[]),(10,[]),(69,[])],[(.loc 2,[]),(.loc 3,[]),(.loc 4,[]),(.loc 6,[])])
 | 10=> ([(2,[]),(3,[]),(4,[]),(6,[]),(7,[]),(8,[])],[(.loc 2,[]),(.loc 3,[]),(.loc 4,[]),(.loc 6,[])])
 | 11=> ([(2,[]),(3,[]),(4,[]),(6,[]),(7,[]),(8,[]),(11,[])],[(.loc 2,[]),(.loc 3,[]),(.loc 4,[]),(.loc 6,[])])
 | 12=> ([(2,[]),(3,[]),(4,[]),(6,[]),(7,[]),(8,[]),(11,[]),(12,[])],[(.loc 2,[]),(.loc 3,[]),(.loc 4,[]),(.loc 6,[.any,.own .u64])])
 | 13=> ([(2,[]),(3,[]),(4,[]),(6,[]),(7,[]),(8,[]),(11,[]),(12,[]),(80,[])],[(.loc 2,[]),(.loc 3,[]),(.loc 4,[]),(.loc 6,[])])
 | 14=> ([(2,[]),(3,[]),(4,[]),(6,[]),(7,[]),(8,[]),(11,[]),(12,[])],[(.loc 2,[]),(.loc 3,[]),(.loc 4,[]),(.loc 6,[.any,.own .u64])])
 | 15=> ([(2,[]),(3,[]),(4,[]),(6,[]),(7,[]),(8,[]),(11,[]),(12,[]),(13,[])],[(.loc 2,[]),(.loc 3,[]),(.loc 4,[]),(.loc 6,[])])
 | 16=> ([(2,[]),(3,[]),(4,[]),(6,[]),(7,[]),(8,[]),(11,[]),(12,[]),(13,[]),(100,[])],[(.loc 2,[]),(.loc 3,[]),(.loc 4,[]),(.loc 6,[])])
 | 17=> ([(2,[]),(3,[]),(4,[]),(6,[]),(7,[]),(8,[]),(11,[]),(12,[]),(13,[]),(14,[])],[(.loc 2,[]),(.loc 3,[]),(.loc 4,[]),(.loc 6,[]),(.loc 14,[])])
 | 18=> ([(2,[]),(3,[]),(4,[]),(6,[]),(7,[]),(8,[]),(11,[]),(12,[]),(13,[]),(14,[]),(112,[])],[(.loc 2,[]),(.loc 3,[]),(.loc 4,[]),(.loc 6,[]),(.loc 14,[])])
 | 19=> ([(4,[]),(5,[])],[(.loc 4,[])])
 | 20=> ([(2,[]),(3,[]),(4,[]),(6,[]),(7,[]),(8,[]),(11,[]),(12,[]),(13,[])],[(.loc 2,[]),(.loc 3,[]),(.loc 4,[]),(.loc 6,[])])
 | 21=> ([(2,[]),(3,[]),(4,[]),(6,[]),(7,[]),(8,[]),(11,[]),(12,[]),(13,[])],[(.loc 2,[]),(.loc 3,[]),(.loc 4,[]),(.loc 6,[])])
 | 22=> ([(2,[]),(3,[]),(4,[]),(6,[]),(7,[]),(8,[]),(11,[]),(12,[])],[(.loc 2,[]),(.loc 3,[]),(.loc 4,[]),(.loc 6,[])])
 | 23=> ([(2,[]),(3,[]),(4,[]),(6,[]),(8,[]),(11,[])],[(.loc 2,[]),(.loc 3,[]),(.loc 4,[]),(.loc 6,[])])
 | 24=> ([(2,[]),(3,[]),(4,[]),(6,[]),(8,[]),(11,[]),(15,[])],[(.loc 2,[]),(.loc 3,[]),(.loc 4,[]),(.loc 6,[.any,.any,.own .tree])])
 | 25=> ([(2,[]),(3,[]),(4,[]),(6,[]),(8,[]),(11,[]),(15,[]),(130,[])],[(.loc 2,[]),(.loc 3,[]),(.loc 4,[]),(.loc 6,[])])
 | 26=> ([(2,[]),(3,[]),(4,[]),(6,[]),(8,[]),(11,[]),(15,[])],[(.loc 2,[]),(.loc 3,[]),(.loc 4,[]),(.loc 6,[.any,.any,.own .tree])])
 | 27=> ([(2,[]),(3,[]),(4,[]),(6,[]),(8,[]),(11,[]),(15,[]),(16,[])],[(.loc 2,[]),(.loc 3,[]),(.loc 4,[]),(.loc 6,[]),(.loc 16,[])])
 | 28=> ([(2,[]),(3,[]),(4,[]),(6,[]),(8,[]),(11,[]),(15,[]),(16,[]),(150,[])],[(.loc 2,[]),(.loc 3,[]),(.loc 4,[]),(.loc 6,[]),(.loc 16,[])])
 | 29=> ([(2,[]),(3,[]),(4,[]),(6,[]),(8,[]),(11,[]),(15,[]),(16,[]),(17,[]),(18,[])],[(.loc 2,[]),(.loc 3,[]),(.loc 4,[]),(.loc 6,[]),(.loc 16,[]),(.loc 17,[])])
 | 30=> ([(2,[]),(3,[]),(4,[]),(6,[]),(8,[]),(11,[]),(15,[]),(16,[]),(17,[]),(163,[])],[(.loc 2,[]),(.loc 3,[]),(.loc 4,[]),(.loc 6,[]),(.loc 16,[]),(.loc 17,[])])
 | 31=> ([(4,[]),(5,[])],[(.loc 4,[])])
 | 32=> ([(2,[]),(3,[]),(4,[]),(6,[]),(8,[]),(11,[]),(15,[]),(16,[])],[(.loc 2,[]),(.loc 3,[]),(.loc 4,[]),(.loc 6,[]),(.loc 16,[])])
 | 33=> ([(2,[]),(3,[]),(4,[]),(6,[]),(8,[]),(11,[]),(15,[]),(16,[])],[(.loc 2,[]),(.loc 3,[]),(.loc 4,[]),(.loc 6,[]),(.loc 16,[])])
 | 34=> ([(2,[]),(3,[]),(4,[]),(6,[]),(8,[]),(11,[]),(15,[])],[(.loc 2,[]),(.loc 3,[]),(.loc 4,[]),(.loc 6,[])])
 | 35=> ([(4,[]),(5,[])],[(.loc 4,[])])
 | _=> ([],[])
def Z09(e:Edit)(t:Tree)(x8 x7 x11 x12:Int)(ml6_1:List Int):LSt U:=(L2 [(2,.ptr (.loc 2) 0),(3,.ptr (.loc 3) 0),(4,.ptr (.loc 4) 0),(6,.ptr (.loc 6) 0),(7,.c (ci x7)),(8,.c (ci x8)),(11,.c (ci x11)),(12,.c (ci x12))] [(.loc 2,(enc .edit e)),(.loc 3,(enc .tree t)),(.loc 4,[ci 0,.nils,.nils]),(.loc 6,[ci 1,sU .u64 ml6_1 (.own (.l 6 1)),.nils])])
def Z4u(e:Edit)(t:Tree)(x8:Int)(ml6_1:List Int)(x11_a x15_a:Int)(ml6_2_a:List Tree):LSt U:=(L2 [(2,.ptr (.loc 2) 0),(3,.ptr (.loc 3) 0),(4,.ptr (.loc 4) 0),(6,.ptr (.loc 6) 0),(8,.c (ci x8)),(11,.c (ci x11_a)),(15,.c (ci x15_a))] [(.loc 2,(enc .edit e)),(.loc 3,(enc .tree t)),(.loc 4,[ci 0,.nils,.nils]),(.loc 6,[ci 1,sU .u64 ml6_1 (.own (.l 6 1)),sU .tree ml6_2_a (.own (.l 6 2))])])
abbrev ZpG(N:Nat)(p:List Nat):=AW (Z1 (Zhm N)) Try.f138 ZmI p
abbrev ZtC(N:Nat)(p:List Nat):=SW (Z1 (Zhm N)) Try.f138 ZmI p
theorem ZB0(N:Nat)(e:Edit)(t:Tree)(Q:QT)(h:∀ y_1,y_1=(List.getD e.words (Int.toNat (((e.words.length:Int):Int) - 1)) (WEdit.mk 0 0 0 0))→∀ y_2,y_2=(List.getD e.kids (Int.toNat (((e.kids.length:Int):Int) - 1)) (KidOf.mk 0 Edit.nil))→let z6:=InR (((e.kids.length:Int):Int) - 1);let z4:=xB 0 (ZtC N [1,1,1,1,1,1,1,1] Q);let z3:=ZpG N [1,1,1,1,1,1,1,0,1,0,0];let z1:=decide ((0:Int) < (e.words.length:Int));let z5:=bif z1 then (decide (((t.words.length:Int):Int)≤y_1.at_)) else false;let z0:=decide ((0:Int) < (e.kids.length:Int));let z2:=bif z0 then (decide (((t.kids.length:Int):Int)≤y_2.at_)) else false;(((t.kind !=1)=true→(Q .ret (L2 [(4,.ptr (.loc 4) 0),(5,.c (.bool false))] [(.loc 4,[ci 0,.nils,.nils])])))∧((t.kind !=1)=false→((Tr (z1=true))∧(Tr (z1=true))∧(z1=true→InR (((e.words.length:Int):Int) - 1))∧(Tr (z1=true))∧(Tr (z1=true))∧(z1=true→(0:Int)≤(((e.words.length:Int):Int) - 1)∧(((e.words.length:Int):Int) - 1) < (e.words.length:Int))∧(Tr (z1=true))∧(Tr (z1=true))∧(Tr (z1=true))∧(Tr (z1=true))∧(Tr (z1=true))∧((z5=true→(InR (((e.words.length:Int):Int) - 1))∧((0:Int)≤(((e.words.length:Int):Int) - 1)∧(((e.words.length:Int):Int) - 1) < (e.words.length:Int))∧(InR (y_1.at_+1))∧((Tr (z0=true))∧(Tr (z0=true))∧(z0=true→InR (((e.kids.length:Int):Int) - 1))∧(Tr (z0=true))∧(Tr (z0=true))∧(z0=true→(0:Int)≤(((e.kids.length:Int):Int) - 1)∧(((e.kids.length:Int):Int) - 1) < (e.kids.length:Int))∧(Tr (z0=true))∧(Tr (z0=true))∧(Tr (z0=true))∧(Tr (z0=true))∧(Tr (z0=true))∧((z2=true→z6∧((0:Int)≤(((e.kids.length:Int):Int) - 1)∧(((e.kids.length:Int):Int) - 1) < (e.kids.length:Int))∧(InR (y_2.at_+1))∧(Ze z3 (Z09 e t (y_2.at_+1) (y_1.at_+1) 0 0 []) z4))∧(z2=false→(Ze z3 (Z09 e t (t.kids.length:Int) (y_1.at_+1) 0 0 []) z4)))))∧(z5=false→((Tr (z0=true))∧(Tr (z0=true))∧(z0=true→InR (((e.kids.length:Int):Int) - 1))∧(Tr (z0=true))∧(Tr (z0=true))∧(z0=true→(0:Int)≤(((e.kids.length:Int):Int) - 1)∧(((e.kids.length:Int):Int) - 1) < (e.kids.length:Int))∧(Tr (z0=true))∧(Tr (z0=true))∧(Tr (z0=true))∧(Tr (z0=true))∧(Tr (z0=true))∧((z2=true→z6∧((0:Int)≤(((e.kids.length:Int):Int) - 1)∧(((e.kids.length:Int):Int) - 1) < (e.kids.length:Int))∧(InR (y_2.at_+1))∧(Ze z3 (Z09 e t (y_2.at_+1) (t.words.length:Int) 0 0 []) z4))∧(z2=false→(Ze z3 (Z09 e t (t.kids.length:Int) (t.words.length:Int) 0 0 []) z4)))))))))):
  ZpG N [] (L2 [(0,.agg (enc .edit e)),(1,.agg (enc .tree t))] []) Q:=
 Eq.mpr (by kernel_rfl) (h _ rfl _ rfl)
theorem Zqb(N:Nat)(e:Edit)(t:Tree)(x8 x7 x11 x12:Int)(ml6_1:List Int)(N0:NT)(Q:QT)(h:∀ y_1,y_1=t→∀ y_2,y_2=(e.words.getD x11.toNat (WEdit.mk 0 0 0 0))→let z1:=((mix 0 (YC y_1 x12) y_2.mask):Int) !=y_2.old;let z0:=decide (x11 < (e.words.length:Int));let z2:=bif z0 then (y_2.at_==x12) else false;(((decide (x12 < x7))=true→(ZdS (y_1,x12,()))∧((Tr (z0=true))∧(Tr (z0=true))∧(Tr (z0=true))∧(z0=true→(0:Int)≤x11∧x11 < (e.words.length:Int))∧(Tr (z0=true))∧(Tr (z0=true))∧(Tr (z0=true))∧(Tr (z0=true))∧(Tr (z0=true))∧((z2=true→((0:Int)≤x11∧x11 < (e.words.length:Int))∧((Z66 (0,(YC y_1 x12),y_2.mask,()))∧((z1=true→(Q .ret (L2 [(4,.ptr (.loc 4) 0),(5,.c (.bool false))] [(.loc 4,[ci 0,.nils,.nils])])))∧(z1=false→(Z66 ((YC y_1 x12),y_2.new,y_2.mask,()))∧((InR (x11+1))∧(((ml6_1.length+([mix (YC y_1 x12) y_2.new y_2.mask]).length)*8≤140737488355328)∧((InR (x12+1))∧(N0 (Z09 e t x8 x7 (x11+1) (x12+1) (ml6_1++([mix (YC y_1 x12) y_2.new y_2.mask])))))))))))∧(z2=false→((ml6_1.length+([YC y_1 x12]).length)*8≤140737488355328)∧((InR (x12+1))∧(N0 (Z09 e t x8 x7 x11 (x12+1) (ml6_1++([YC y_1 x12])))))))))∧((decide (x12 < x7))=false→(Ze (ZpG N [1,1,1,1,1,1,1,1,1,0,1,0,0]) (Z4u e t x8 ml6_1 0 0 []) (xB 2 (ZtC N [1,1,1,1,1,1,1,1,1,1] Q)))))):
  ZpG N [1,1,1,1,1,1,1,0,1,0,0] (Z09 e t x8 x7 x11 x12 ml6_1) (xT N0 (xB 0 (ZtC N [1,1,1,1,1,1,1,1] Q))):=
 Eq.mpr (by kernel_rfl) (h _ (Zb _) _ rfl)
theorem Zqa(N:Nat)(e:Edit)(t:Tree)(x8:Int)(ml6_1:List Int)(x11_a x15_a:Int)(ml6_2_a:List Tree)(N1:NT)(Q:QT)(h:∀ y_1,y_1=t→∀ y_2,y_2=(e.kids.getD x11_a.toNat (KidOf.mk 0 Edit.nil))→∀ y_3,y_3=(y_2.e)→∀ y_4,y_4=(JA y_1 x15_a)→∀ y_5,y_5=(YG (doE true y_3 y_4))→let z2:= !((doE true y_3 y_4).isSome);let z0:=decide (x11_a < (e.kids.length:Int));let z1:=bif z0 then (y_2.at_==x15_a) else false;(((decide (x15_a < x8))=true→(ZdR (y_1,x15_a,()))∧((Tr (z0=true))∧(Tr (z0=true))∧(Tr (z0=true))∧(z0=true→(0:Int)≤x11_a∧x11_a < (e.kids.length:Int))∧(Tr (z0=true))∧(Tr (z0=true))∧(Tr (z0=true))∧(Tr (z0=true))∧(Tr (z0=true))∧((z1=true→((0:Int)≤x11_a∧x11_a < (e.kids.length:Int))∧(Z25 (y_3,y_4,()))∧(Zf5 (y_3,y_4,()) < N)∧((z2=true→(Q .ret (L2 [(4,.ptr (.loc 4) 0),(5,.c (.bool false))] [(.loc 4,[ci 0,.nils,.nils])])))∧(z2=false→((InR (x11_a+1))∧(((ml6_2_a.length+([y_5]).length)*56≤140737488355328)∧((InR (x15_a+1))∧(N1 (Z4u e t x8 ml6_1 (x11_a+1) (x15_a+1) (ml6_2_a++([y_5]))))))))))∧(z1=false→((ml6_2_a.length+([y_4]).length)*56≤140737488355328)∧((InR (x15_a+1))∧(N1 (Z4u e t x8 ml6_1 x11_a (x15_a+1) (ml6_2_a++([y_4])))))))))∧((decide (x15_a < x8))=false→(Q .ret (L2 [(4,.ptr (.loc 4) 0),(5,.c (.bool true))] [(.loc 4,[ci 1,sU .u64 ml6_1 (.own (.l 4 1)),sU .tree ml6_2_a (.own (.l 4 2))])]))))):
  ZpG N [1,1,1,1,1,1,1,1,1,0,1,0,0] (Z4u e t x8 ml6_1 x11_a x15_a ml6_2_a) (xT N1 (xB 2 (ZtC N [1,1,1,1,1,1,1,1,1,1] Q))):=
 Eq.mpr (by kernel_rfl) (h _ (Zb _) _ rfl _ (Z9 _) _ (Zb _) _ (Zb _))
def Zwl(N:Nat)(e:Edit)(t:Tree):Prop:=AW (Z1 (Zhm N)) Try.f138 ZmI [] (Zk (Z7H.can (e,t,())) []) (EQ Try.f138 (Z3S (e,t,())) [])
abbrev Zxs:Prop:=∀ (N:Nat) (e:Edit) (t:Tree) (_:Unit),Z5b (e,t,())→ZbZ (e,t,()) < N+1→Zwl N e t
def Zhl(N:Nat):List (FuncId × Fs U):=(99,fs Zbn (fun a=> [Z25 a,Zf5 a < N]) Z7S) ::(138,fs Z7H (fun a=> [Z5b a,ZbZ a < N]) Z3S) ::(139,fs Z7G (fun a=> [Z5a a,ZbY a < N]) Z54) ::[(45,Z0b),(137,Z0Y),(170,Z6N),(103,Z2d),(171,Z6M)]
def ZmH:Zj U:=fun i=> match i with
 | 0=> ([(2,[]),(3,[]),(4,[])],[(.loc 2,[]),(.loc 3,[]),(.loc 4,[])])
 | 1=> ([(2,[]),(3,[]),(4,[]),(18,[])],[(.loc 2,[]),(.loc 3,[]),(.loc 4,[])])
 | 2=> ([(4,[]),(5,[])],[(.loc 4,[])])
 | 3=> ([(2,[]),(3,[]),(4,[]),(6,[])],[(.loc 2,[]),(.loc 3,[]),(.loc 4,[]),(.loc 6,[])])
 | 4=> ([(2,[]),(3,[]),(4,[]),(6,[]),(7,[])],[(.loc 2,[]),(.loc 3,[]),(.loc 4,[]),(.loc 6,[])])
 | 5=> ([(2,[]),(3,[]),(4,[]),(6,[]),(7,[]),(8,[])],[(.loc 2,[]),(.loc 3,[]),(.loc 4,[]),(.loc 6,[.any,.any,.own .tree])])
 | 6=> ([(2,[]),(3,[]),(4,[]),(6,[]),(7,[]),(8,[]),(27,[])],[(.loc 2,[]),(.loc 3,[]),(.loc 4,[]),(.loc 6,[])])
 | 7=> ([(2,[]),(3,[]),(4,[]),(6,[]),(7,[]),(8,[])],[(.loc 2,[]),(.loc 3,[]),(.loc 4,[]),(.loc 6,[.any,.any,.own .tree])])
 | 8=> ([(2,[]),(3,[]),(4,[]),(6,[]),(7,[]),(8,[]),(9,[])],[(.loc 2,[]),(.loc 3,[]),(.loc 4,[]),(.loc 6,[]),(.loc 9,[])])
 | 9=> ([(2,[]),(3,[]),(4,[]),(6,[]),(7,[]),(8,[]),(9,[]),(10,[])],[(.loc 2,[]),(.loc 3,[]),(.loc 4,[]),(.loc 6,[.any,.any,.own .tree]),(.loc 9,[])])
 | 10=> ([(2,[]),(3,[]),(4,[]),(6,[]),(7,[]),(8,[]),(9,[]),(10,[]),(43,[])],[(.loc 2,[]),(.loc 3,[]),(.loc 4,[]),(.loc 6,[]),(.loc 9,[])])
 | 11=> ([(2,[]),(3,[]),(4,[]),(6,[]),(7,[]),(8,[]),(9,[]),(10,[])],[(.loc 2,[]),(.loc 3,[]),(.loc 4,[]),(.loc 6,[.any,.any,.own .tree]),(.loc 9,[])])
 | 12=> ([(2,[]),(3,[]),(4,[]),(6,[]),(7,[]),(8,[]),(9,[]),(10,[]),(50,[])],[(.loc 2,[]),(.loc 3,[]),(.loc 4,[]),(.loc 6,[]),(.loc 9,[])])
 | 13=> ([(4,[]),(5,[])],[(.loc 4,[])])
 | 14=> ([(2,[]),(3,[]),(4,[]),(6,[]),(7,[]),(8,[]),(9,[]),(10,[])],[(.loc 2,[]),(.loc 3,[]),(.loc 4,[]),(.loc 6,[]),(.loc 9,[])])
 | 15=> ([(2,[]),(3,[]),(4,[]),(6,[]),(7,[]),(8,[]),(9,[]),(10,[])],[(.loc 2,[]),(.loc 3,[]),(.loc 4,[]),(.loc 6,[]),(.loc 9,[])])
 | 16=> ([(2,[]),(3,[]),(4,[]),(6,[]),(7,[]),(8,[]),(9,[]),(11,[])],[(.loc 2,[]),(.loc 3,[]),(.loc 4,[]),(.loc 6,[.any,.any,.own .tree]),(.loc 9,[])])
 | 17=> ([(2,[]),(3,[]),(4,[]),(6,[]),(7,[]),(8,[]),(9,[]),(11,[]),(68,[])],[(.loc 2,[]),(.loc 3,[]),(.loc 4,[]),(.loc 6,[]),(.loc 9,[])])
 | 18=> ([(2,[]),(3,[]),(4,[]),(6,[]),(7,[]),(8,[]),(9,[]),(11,[])],[(.loc 2,[]),(.loc 3,[]),(.loc 4,[]),(.loc 6,[.any,.any,.own .tree]),(.loc 9,[])])
 | 19=> ([(2,[]),(3,[]),(4,[]),(6,[]),(7,[]),(8,[]),(9,[]),(11,[]),(73,[])],[(.loc 2,[]),(.loc 3,[]),(.loc 4,[]),(.loc 6,[]),(.loc 9,[])])
 | 20=> ([(2,[]),(3,[]),(4,[]),(6,[]),(7,[]),(8,[]),(9,[]),(11,[])],[(.loc 2,[]),(.loc 3,[]),(.loc 4,[]),(.loc 6,[]),(.loc 9,[])])
 | 21=> ([(2,[]),(3,[]),(4,[]),(6,[]),(7,[]),(8,[]),(9,[]),(11,[]),(102,[])],[(.loc 2,[]),(.loc 3,[]),(.loc 4,[]),(.loc 6,[]),(.loc 9,[])])
 | 22=> ([(4,[]),(5,[])],[(.loc 4,[])])
 | 23=> ([(2,[]),(3,[]),(4,[]),(6,[]),(7,[]),(8,[]),(9,[]),(11,[])],[(.loc 2,[]),(.loc 3,[]),(.loc 4,[]),(.loc 6,[]),(.loc 9,[])])
 | 24=> ([(2,[]),(3,[]),(4,[]),(6,[]),(7,[]),(8,[]),(9,[]),(108,[])],[(.loc 2,[]),(.loc 3,[]),(.loc 4,[]),(.loc 6,[]),(.loc 9,[])])
 | 25=> ([(2,[]),(3,[]),(4,[]),(6,[]),(7,[]),(8,[]),(9,[]),(113,[])],[(.loc 2,[]),(.loc 3,[]),(.loc 4,[]),(.loc 6,[]),(.loc 9,[])])
 | 26=> ([(4,[]),(5,[])],[(.loc 4,[])])
 | 27=> ([(2,[]),(3,[]),(4,[]),(6,[]),(7,[]),(8,[]),(12,[]),(13,[])],[(.loc 2,[]),(.loc 3,[]),(.loc 4,[]),(.loc 6,[]),(.loc 12,[])])
 | 28=> ([(2,[]),(3,[]),(4,[]),(6,[]),(7,[]),(8,[]),(12,[]),(127,[])],[(.loc 2,[]),(.loc 3,[]),(.loc 4,[]),(.loc 6,[]),(.loc 12,[])])
 | 29=> ([(4,[]),(5,[])],[(.loc 4,[])])
 | 30=> ([(2,[]),(3,[]),(4,[]),(6,[]),(7,[]),(8,[])],[(.loc 2,[]),(.loc 3,[]),(.loc 4,[]),(.loc 6,[])])
 | 31=> ([(2,[]),(3,[]),(4,[]),(6,[]),(7,[]),(8,[])],[(.loc 2,[]),(.loc 3,[]),(.loc 4,[]),(.loc 6,[])])
 | 32=> ([(4,[]),(5,[])],[(.loc 4,[])])
 | _=> ([],[])
def Z1w(e:Edit)(t:Tree)(x7 x8:Int)(ml6_2:List Tree):LSt U:=(L2 [(2,.ptr (.loc 2) 0),(3,.ptr (.loc 3) 0),(4,.ptr (.loc 4) 0),(6,.ptr (.loc 6) 0),(7,.c (ci x7)),(8,.c (ci x8))] [(.loc 2,(enc .edit e)),(.loc 3,(enc .tree t)),(.loc 4,[ci 0,.nils,.nils]),(.loc 6,[ci t.kind,.nils,sU .tree ml6_2 (.own (.l 6 2))])])
def Z1v(e:Edit)(t:Tree)(x8 x7_a x10_a:Int)(ml6_2_a:List Tree):LSt U:=(L2 [(2,.ptr (.loc 2) 0),(3,.ptr (.loc 3) 0),(4,.ptr (.loc 4) 0),(6,.ptr (.loc 6) 0),(7,.c (ci x7_a)),(8,.c (ci x8)),(9,.ptr (.loc 9) 0),(10,.c (ci x10_a))] [(.loc 2,(enc .edit e)),(.loc 3,(enc .tree t)),(.loc 4,[ci 0,.nils,.nils]),(.loc 6,[ci t.kind,.nils,sU .tree ml6_2_a (.own (.l 6 2))]),(.loc 9,(enc .op (e.ops.getD x8.toNat Op.nil)))])
def Z0R(e:Edit)(t:Tree)(x8 x11_b x7_b:Int)(ml6_2_b:List Tree):LSt U:=(L2 [(2,.ptr (.loc 2) 0),(3,.ptr (.loc 3) 0),(4,.ptr (.loc 4) 0),(6,.ptr (.loc 6) 0),(7,.c (ci x7_b)),(8,.c (ci x8)),(9,.ptr (.loc 9) 0),(11,.c (ci x11_b))] [(.loc 2,(enc .edit e)),(.loc 3,(enc .tree t)),(.loc 4,[ci 0,.nils,.nils]),(.loc 6,[ci t.kind,.nils,sU .tree ml6_2_b (.own (.l 6 2))]),(.loc 9,(enc .op (e.ops.getD x8.toNat Op.nil)))])
abbrev Zlv(N:Nat)(p:List Nat):=AW (Z1 (Zhl N)) Try.f139 ZmH p
abbrev Zas(N:Nat)(p:List Nat):=SW (Z1 (Zhl N)) Try.f139 ZmH p
theorem ZAZ(N:Nat)(e:Edit)(t:Tree)(Q:QT)(h:(((t.kind !=e.list)=true→(Q .ret (L2 [(4,.ptr (.loc 4) 0),(5,.c (.bool false))] [(.loc 4,[ci 0,.nils,.nils])])))∧((t.kind !=e.list)=false→(Ze (Zlv N [1,1,1,1,0,1,0,0]) (Z1w e t 0 0 []) (xB 0 (Zas N [1,1,1,1,1] Q)))))):
  Zlv N [] (L2 [(0,.agg (enc .edit e)),(1,.agg (enc .tree t))] []) Q:=
 Eq.mpr (by kernel_rfl) h
theorem Zq9(N:Nat)(e:Edit)(t:Tree)(x7 x8:Int)(ml6_2:List Tree)(N0:NT)(Q:QT)(h:let z0:=decide (x8 < (e.ops.length:Int));((z0=true→((0:Int)≤x8∧x8 < (e.ops.length:Int))∧(Ze (Zlv N [1,1,1,1,0,1,0,0,1,0,0,1,0,1,0,0]) (Z1v e t x8 x7 0 ml6_2) (xB 2 (Zas N [1,1,1,1,0,1,0,0,1,0,0,1,1] (xB 1 (Zas N [1,1,1,1,0,1,0,0,1,1] (xT N0 (xB 0 (Zas N [1,1,1,1,1] Q)))))))))∧(z0=false→(Q .ret (L2 [(4,.ptr (.loc 4) 0),(5,.c (.bool (x7==(t.kids.length:Int))))] [(.loc 4,[ci t.kind,.nils,sU .tree ml6_2 (.own (.l 4 2))])]))))):
  Zlv N [1,1,1,1,0,1,0,0] (Z1w e t x7 x8 ml6_2) (xT N0 (xB 0 (Zas N [1,1,1,1,1] Q))):=
 Eq.mpr (by kernel_rfl) h
theorem Z8O(N:Nat)(e:Edit)(t:Tree)(x8 x7_a x10_a:Int)(ml6_2_a:List Tree)(N1 N0:NT)(Q:QT)(h:∀ y_1,y_1=(e.ops.getD x8.toNat Op.nil)→∀ y_2,y_2=(t.kids.getD x7_a.toNat Tree.nil)→let z1:=decide (((t.kids.length:Int):Int)≤x7_a);let z0:=decide (x10_a < y_1.n);let z2:=bif z0 then (y_1.kind==0) else false;(Tr (z0=true))∧(Tr (z0=true))∧(Tr (z0=true))∧((z2=true→((z1=true→(Q .ret (L2 [(4,.ptr (.loc 4) 0),(5,.c (.bool false))] [(.loc 4,[ci 0,.nils,.nils])])))∧(z1=false→((0:Int)≤x7_a∧x7_a < (t.kids.length:Int))∧((ml6_2_a.length+([y_2]).length)*56≤140737488355328)∧((InR (x7_a+1))∧((InR (x10_a+1))∧(N1 (Z1v e t x8 (x7_a+1) (x10_a+1) (ml6_2_a++([y_2])))))))))∧(z2=false→(Ze (Zlv N [1,1,1,1,0,1,0,0,1,0,0,1,1,0,1,0,0]) (Z0R e t x8 0 x7_a ml6_2_a) (xB 4 (Zas N [1,1,1,1,0,1,0,0,1,0,0,1,1,1] (xB 1 (Zas N [1,1,1,1,0,1,0,0,1,1] (xT N0 (xB 0 (Zas N [1,1,1,1,1] Q))))))))))):
  Zlv N [1,1,1,1,0,1,0,0,1,0,0,1,0,1,0,0] (Z1v e t x8 x7_a x10_a ml6_2_a) (xT N1 (xB 2 (Zas N [1,1,1,1,0,1,0,0,1,0,0,1,1] (xB 1 (Zas N [1,1,1,1,0,1,0,0,1,1] (xT N0 (xB 0 (Zas N [1,1,1,1,1] Q)))))))):=
 Eq.mpr (by kernel_rfl) (h _ rfl _ (Zb _))
theorem Z8N(N:Nat)(e:Edit)(t:Tree)(x8 x11_b x7_b:Int)(ml6_2_b:List Tree)(N2 N0:NT)(Q:QT)(h:∀ y_1,y_1=(e.ops.getD x8.toNat Op.nil)→∀ y_2,y_2=(t.kids.getD x7_b.toNat Tree.nil)→∀ y_3,y_3=y_2→∀ y_4,y_4=(y_1.e)→∀ y_5,y_5=(y_1.l.getD x11_b.toNat Tree.nil)→∀ y_6,y_6=y_5→∀ y_7,y_7=(YG (doE true y_4 y_3))→let z4:= !((doE true y_4 y_3).isSome);let z3:=decide (x11_b < (y_1.l.length:Int));let z1:=Q .ret (L2 [(4,.ptr (.loc 4) 0),(5,.c (.bool false))] [(.loc 4,[ci 0,.nils,.nils])]);let z0:=decide (((t.kids.length:Int):Int)≤x7_b);let z2:=bif z0 then true else (!(YF (Z4 y_3) (Z4 y_6)));((z3=true→(((y_1.kind==2)=true→((0:Int)≤x11_b∧x11_b < (y_1.l.length:Int))∧((ml6_2_b.length+([y_6]).length)*56≤140737488355328)∧((InR (x11_b+1))∧(N2 (Z0R e t x8 (x11_b+1) x7_b (ml6_2_b++([y_6]))))))∧((y_1.kind==2)=false→(Tr ((!z0)=true))∧(Tr ((!z0)=true))∧(Tr ((!z0)=true))∧((!z0)=true→(0:Int)≤x7_b∧x7_b < (t.kids.length:Int))∧(Tr ((!z0)=true))∧(Tr ((!z0)=true))∧(Tr ((!z0)=true))∧(Tr ((!z0)=true))∧((!z0)=true→(0:Int)≤x11_b∧x11_b < (y_1.l.length:Int))∧(Tr ((!z0)=true))∧(Tr ((!z0)=true))∧(Tr ((!z0)=true))∧((!z0)=true→Z65 (y_3,y_6,()))∧(Tr ((!z0)=true))∧(z0=false→(!z0)=true)∧((z2=true→z1)∧(z2=false→(InR (x7_b+1))∧((InR (x11_b+1))∧(N2 (Z0R e t x8 (x11_b+1) (x7_b+1) ml6_2_b))))))))∧(z3=false→(((y_1.kind==3)=true→((z0=true→z1)∧(z0=false→((0:Int)≤x7_b∧x7_b < (t.kids.length:Int))∧(Z25 (y_4,y_3,()))∧(Zf5 (y_4,y_3,()) < N)∧((z4=true→z1)∧(z4=false→((ml6_2_b.length+([y_7]).length)*56≤140737488355328)∧((InR (x7_b+1))∧((InR (x8+1))∧(N0 (Z1w e t (x7_b+1) (x8+1) (ml6_2_b++([y_7])))))))))))∧((y_1.kind==3)=false→(InR (x8+1))∧(N0 (Z1w e t x7_b (x8+1) ml6_2_b))))))):
  Zlv N [1,1,1,1,0,1,0,0,1,0,0,1,1,0,1,0,0] (Z0R e t x8 x11_b x7_b ml6_2_b) (xT N2 (xB 4 (Zas N [1,1,1,1,0,1,0,0,1,0,0,1,1,1] (xB 1 (Zas N [1,1,1,1,0,1,0,0,1,1] (xT N0 (xB 0 (Zas N [1,1,1,1,1] Q)))))))):=
 Eq.mpr (by kernel_rfl) (h _ rfl _ rfl _ (Zb _) _ (Z9 _) _ rfl _ (Zb _) _ (Zb _))
def Zwk(N:Nat)(e:Edit)(t:Tree):Prop:=AW (Z1 (Zhl N)) Try.f139 ZmH [] (Zk (Z7G.can (e,t,())) []) (EQ Try.f139 (Z54 (e,t,())) [])
abbrev Zxr:Prop:=∀ (N:Nat) (e:Edit) (t:Tree) (_:Unit),Z5a (e,t,())→ZbY (e,t,()) < N+1→Zwk N e t
theorem ZuF(c45:CT 45 Z0b)(Zpn:CT 137 Z0Y)(Zz1:CT 170 Z6N)(Zpp:CT 103 Z2d)(Zz0:CT 171 Z6M)(b99:ZC0)(Zzs:Zxs)(Zzr:Zxr):
  CT 99 Z5H∧CT 138 ZlO∧CT 139 ZlN:=by
 have h53 : ∃ fn, Try.prog.funcs[(99 : FuncId)]? = some fn ∧ fn.body.isSome = true ∧ (fn.name == "runtime.NumGoroutine") = false := ⟨Try.f99, Try.func99, rfl, rfl⟩
 have h83 : ∃ fn, Try.prog.funcs[(138 : FuncId)]? = some fn ∧ fn.body.isSome = true ∧ (fn.name == "runtime.NumGoroutine") = false := ⟨Try.f138, Try.func138, rfl, rfl⟩
 have h84 : ∃ fn, Try.prog.funcs[(139 : FuncId)]? = some fn ∧ fn.body.isSome = true ∧ (fn.name == "runtime.NumGoroutine") = false := ⟨Try.f139, Try.func139, rfl, rfl⟩
 have key:∀ N,CT 99 (fs Zbn (fun a=> [Z25 a,Zf5 a < N]) Z7S)∧CT 138 (fs Z7H (fun a=> [Z5b a,ZbZ a < N]) Z3S)∧CT 139 (fs Z7G (fun a=> [Z5a a,ZbY a < N]) Z54):=by
  intro N
  induction N with
  | zero=> exact ⟨J8 h53,J8 h83,J8 h84⟩
  | succ N ih=>
   have kn:=Z0s (l:=Zbc N) ⟨ih.1,ih.2.1,ih.2.2,c45,Zpn,Zz1,Zpp,Zz0,trivial⟩
   exact ⟨ZC (Γ:=Z1 (Zbc N)) Zm rfl kn Zyv Try.func99 rfl rfl (fun a=> by show 2≤_;decide) (fun ⟨e,t,_⟩ h=> b99 N e t () h.1 h.2.1),
    ZC (Γ:=Z1 (Zbc N)) Zm rfl kn ZmI Try.func138 rfl rfl (fun a=> by show 2≤_;decide) (fun ⟨e,t,_⟩ h=> Zzs N e t () h.1 h.2.1),
    ZC (Γ:=Z1 (Zbc N)) Zm rfl kn ZmH Try.func139 rfl rfl (fun a=> by show 2≤_;decide) (fun ⟨e,t,_⟩ h=> Zzr N e t () h.1 h.2.1)⟩
 exact ⟨J9 h53 fun N=> (key N).1,J9 h83 fun N=> (key N).2.1,J9 h84 fun N=> (key N).2.2⟩
end
end Go.AM.Ytpjenobkibfpcaa
namespace Go.AM.Ytpjenobkibfpcaa
open Go.AM Go.Proofs
theorem Zt5:Contract Try.prog cfg 109 Z49:=by
 refine ZrY ?_
 intro l _ hp
 simp only [Z9o] at hp
 refine ZxG _ _ ⟨fun h=> ?_,fun _=> ⟨by simp only [List.length_nil];omega,?_⟩⟩
 ·subst h
  simp only [Z9h]
  (repeat' (first | exact trivial | exact rfl | apply And.intro))
 ·simp only [Z9h]
  (repeat' (first | exact trivial | exact rfl | apply And.intro))
theorem Zz4:Contract Try.prog cfg 150 Z6Q:=by
 refine ZuT ?_
 intro l _ hp
 simp only [ZdU] at hp
 refine ZAO _ _ ⟨fun h=> ?_,fun _=> ⟨by simp only [List.length_nil];omega,?_⟩⟩
 ·subst h
  simp only [ZcI]
  (repeat' (first | exact trivial | exact rfl | apply And.intro))
 ·simp only [ZcI]
  (repeat' (first | exact trivial | exact rfl | apply And.intro))
theorem Zfo{α:Type}(z:α){l:List α}{i:Nat}(h:i < l.length)(x:α):Ya z l i x=l.set i x:=by
 simp only [Ya];rw [show i+1 - l.length=0 by omega];simp
theorem Zbx{α:Type}(z:α){l:List α}{i:Nat}(h:l.length≤i)(x:α):Ya z (l++[z]) i x=Ya z l i x:=by
 simp only [Ya,List.length_append,List.length_singleton,List.append_assoc]
 rw [show i+1 - l.length=(i+1 - (l.length+1))+1 by omega,List.replicate_succ]
 try rfl
theorem ZrU(t:Tree):t.words.length+Zf t.kids+1=Zo t:=by obtain ⟨k,w,ks⟩:=t;simp only [Zo,Tree.words_mk,Tree.kids_mk];omega
theorem ZgC{t:Tree}(h:rng t):isI t.kind∧(∀ x∈t.words,isW x)∧Yp t.kids:=by obtain ⟨k,w,ks⟩:=t;exact h
theorem ZcG{ks:List Tree}(h:Yp ks)(i:Nat):rng (ks.getD i Tree.nil):=by
 by_cases hi:i < ks.length
 ·exact Jd h (Zg hi _)
 ·rw [List.getD_eq_getElem?_getD,List.getElem?_eq_none (by omega)]
  refine ⟨by decide,by simp [Tree.nil],trivial⟩
theorem Z4j(ks:List Tree)(i:Nat):Zo (ks.getD i Tree.nil)≤Zf ks+1:=by
 by_cases hi:i < ks.length
 ·have:=YJ (Zg hi Tree.nil);omega
 ·rw [List.getD_eq_getElem?_getD,List.getElem?_eq_none (by omega)]
  simp [Tree.nil,Zo,Zf]
theorem Zbe(t:Tree){i:Int}(h:0≤i):JA t i=t.kids.getD i.toNat Tree.nil:=by unfold JA;rw [if_neg (by omega)]
theorem Z4H(t:Tree){i:Int}(h:0≤i):YC t i=t.words.getD i.toNat 0:=by unfold YC;rw [if_neg (by omega)]
theorem Zlx{l:List Int}(h:∀ x∈l,isW x)(i:Nat):isW (l.getD i 0):=by
 by_cases hi:i < l.length
 ·exact h _ (Zg hi _)
 ·rw [List.getD_eq_getElem?_getD,List.getElem?_eq_none (by omega)];show 0≤(0:Int)∧(0:Int) < _;omega
theorem b70:ZC5:=by
 intro N e t _ hp hN
 simp only [Z4b,Zf6] at hp hN
 obtain ⟨⟨p1,p2,d,p3⟩,p4,p5⟩:=hp
 have h1:=Yg e
 have h2:=Z52 p2
 have hd:=Z41 false e t
 rw [Z2z] at hd
 refine ZCs _ _ _ _ ?_
 rintro y1 hy1 y2 hy2 y3 hy3
 subst hy1 hy2 hy3
 (simp only [vcT,vcS])
 refine ⟨fun hk=> ?_,fun hk=> ⟨fun hk1=> ⟨by simp only [Z1Z];omega,?_⟩,fun hk1=> ⟨fun hk2=> ⟨by simp only [Z5f];exact ⟨hk2,⟨p1,p2,d,p3⟩,p4,p5⟩,by simp only [Zc1];omega,?_⟩,fun hk2=> ⟨fun hk3=> ⟨by simp only [Z5e];exact ⟨hk3,⟨p1,p2,d,p3⟩,p4,p5⟩,by simp only [Zc0];omega,?_⟩,fun hk3=> ?_⟩⟩⟩⟩
 ·rw [if_pos hk] at hd
  simp only [Z5X,Zct,if_pos hk,hd]
  (repeat' (first | exact trivial | exact rfl | apply And.intro))
 ·rw [if_neg hk,if_pos hk1] at hd
  simp only [Z5X,Zct,if_neg hk,if_pos hk1,hd]
  cases YF (Z4 y1.old) (Z4 y2) <;> (repeat' (first | exact trivial | exact rfl | apply And.intro))
 ·rw [if_neg hk,if_neg hk1,if_pos hk2] at hd
  simp only [Z5X,Zct,if_neg hk,if_neg hk1,if_pos hk2,hd]
  (repeat' (first | exact trivial | exact rfl | apply And.intro))
 ·rw [if_neg hk,if_neg hk1,if_neg hk2,if_pos hk3] at hd
  simp only [Z5X,Zct,if_neg hk,if_neg hk1,if_neg hk2,if_pos hk3,hd]
  have e2:(if y2.kind=y1.list then (Z1V (Ji false y1.ops y2.kids [])).map fun b=> Tree.mk y1.list [] b else none).isSome=(Z1V (Z0e false y1 y2)).isSome:=by
   unfold Z0e
   split
   ·cases Z1V (Ji false y1.ops y2.kids []) <;> rfl
   ·try rfl
  rw [e2]
  (repeat' (first | exact trivial | exact rfl | apply And.intro))
 ·rw [if_neg hk,if_neg hk1,if_neg hk2,if_neg hk3] at hd
  simp only [Z5X,Zct,if_neg hk,if_neg hk1,if_neg hk2,if_neg hk3,hd]
  (repeat' (first | exact trivial | exact rfl | apply And.intro))
theorem Zzx:Zxy:=by
 intro N e t _ hp hN
 simp only [Z5f,Zc1] at hp hN
 obtain ⟨k2,⟨p1,p2,d,p3⟩,p4,p5⟩:=hp
 have h1:=Yg e
 have h2:=Ym e.kids
 have h3:=ZrU t
 have h4:=ZA t.kids
 have r2:=Z52 p2
 have rt:=ZgC p5
 have ri:=Zn p3
 refine ZBh _ _ _ _ ?_
 (simp only [vcT,vcS])
 have no:Z2W false e t=none→Ys cfg Try.f107.ntmps Try.f107.results.toList (Z56 (e,t,())) [] .ret (⟨[(4,.ptr (.loc 4) 0),(5,.c (.bool false))],[((.loc 4),[.int .i64 0,.nils,.nils])],[]⟩:LSt U):=by
  intro hs
  simp only [Z56,hs]
  (repeat' (first | exact trivial | exact rfl | apply And.intro))
 refine ⟨fun hk=> no (by unfold Z2W;rw [if_neg hk]),fun hk=> ?_⟩
 have hk:t.kind=1:=by simpa using hk
 refine ⟨by simp only [Z9o];omega,by simp only [ZdU];omega,?_⟩
 refine Z6 (ι:=Int × List Int) (fun s=> Z7A e t s.1 s.2) (fun s=> 0≤s.1∧s.1≤e.words.length∧wsD t.words (e.words.drop s.1.toNat) s.2=wsD t.words e.words t.words∧s.2.length≤t.words.length+65536) (fun s=> ((e.words.length:Int) - s.1).toNat) (0,t.words) rfl ⟨by simp,by simp,by simp,by simp⟩ ?_
 rintro ⟨i,out⟩ ⟨f1,f2,f3,f4⟩
 dsimp only at f1 f2 f3 f4
 refine Zqp _ _ _ _ _ _ _ ?_
 rintro y1 hy1 y2 hy2
 subst hy1
 (simp only [vcT,vcS])
 refine ⟨fun hi=> ?_,fun hi=> ?_⟩
 ·have hmem:=Zg (l:=e.words) (i:=i.toNat) (by omega) (WEdit.mk 0 0 0 0)
  rw [Y1 f1 hi (WEdit.mk 0 0 0 0),←hy2] at f3
  rw [←hy2] at hmem
  have hw:=Jw ri.words y2 hmem
  obtain ⟨g1,g2,g3,g4⟩:=r2.2.2.2.1 y2 hmem
  have hat:YC y1 y2.at_=y1.words.getD y2.at_.toNat 0:=Z4H y1 (by omega)
  have hwi:=Zlx rt.2.1 y2.at_.toNat
  rw [wsD] at f3
  rw [hat]
  unfold isW at g3 g4 hwi
  refine ⟨⟨f1,hi⟩,by simp only [ZaR],by simp only [Z60];omega,fun hne=> no ?_,fun heq=> ?_⟩
  ·rw [if_neg hne] at f3
   unfold Z2W
   rw [if_pos hk,←f3]
   try rfl
  ·have heq:mix 0 (y1.words.getD y2.at_.toNat 0) y2.mask=y2.old:=by simpa using heq
   rw [if_pos heq] at f3
   refine Z6 (ι:=List Int) (fun s=> Z7z e y1 i s) (fun s=> (∀ v,Ya 0 s y2.at_.toNat v=Ya 0 out y2.at_.toNat v)∧s.length≤y1.words.length+65536) (fun s=> (y2.at_+1 - s.length).toNat) out rfl ⟨fun v=> rfl,f4⟩ ?_
   rintro s ⟨q1,q2⟩
   refine Zqo _ _ _ _ _ _ _ _ ?_
   (simp only [Tree.eta,Edit.eta,Tree.kind_mk,Tree.words_mk,Tree.kids_mk])
   rw [←hy2,hat]
   (simp only [vcT,vcS])
   refine ⟨fun hl=> ⟨by simp;omega,s++[0],rfl,⟨fun v=> ?_,by simp;omega⟩,by simp;omega⟩,fun hl=> ?_⟩
   ·rw [Zbx 0 (by omega),q1]
   ·have hl:y2.at_ < s.length:=by omega
    refine ⟨by simp only [Z60];omega,by omega,by omega,by unfold InR;omega,(i+1,s.set y2.at_.toNat (mix (y1.words.getD y2.at_.toNat 0) y2.new y2.mask)),rfl,⟨by dsimp only;omega,by dsimp only;omega,?_,by simp only [List.length_set];omega⟩,by dsimp only;omega⟩
    dsimp only
    rw [←f3,←Zfo 0 (by omega),q1]
 ·rw [List.drop_of_length_le (by omega),wsD] at f3
  refine Z6 (ι:=Int × List Tree) (fun s=> Z7y e y1 out s.1 s.2) (fun s=> 0≤s.1∧s.1≤e.kids.length∧Z22 false y1.kids (e.kids.drop s.1.toNat) s.2=Z22 false y1.kids e.kids y1.kids∧s.2.length≤y1.kids.length+65536) (fun s=> ((e.kids.length:Int) - s.1).toNat) (0,y1.kids) rfl ⟨by simp,by simp,by simp,by simp⟩ ?_
  rintro ⟨j,ks⟩ ⟨e1,e2,e3,e4⟩
  dsimp only at e1 e2 e3 e4
  refine Zqn _ _ _ _ _ _ _ _ ?_
  rintro y1 hy1 y2 hy2 y3 hy3 y4 hy4
  subst hy1
  (simp only [vcT,vcS])
  refine ⟨fun hj=> ?_,fun hj=> ?_⟩
  ·have hmem:=Zg (l:=e.kids) (i:=j.toNat) (by omega) (KidOf.mk 0 Edit.nil)
   rw [Y1 e1 hj (KidOf.mk 0 Edit.nil),←hy2] at e3
   rw [←hy2] at hmem
   have hk2:=Zp ri.kids y2 hmem
   have hm:=YM hmem
   have hct:=Zam hmem
   have hca:=Jt e
   have hr:=(J1 r2.2.2.2.2.2.1 hmem).2
   have hat:JA y1 y2.at_=y1.kids.getD y2.at_.toNat Tree.nil:=Zbe y1 (by omega)
   rw [hat] at hy4
   have hm4:=Z4j y1.kids y2.at_.toNat
   have hr4:=ZcG rt.2.2 y2.at_.toNat
   rw [Z22,ZeI,←hy4,←hy3] at e3
   rw [←hy4] at hm4 hr4
   rw [←hy3] at hm hr hk2 hct
   refine ⟨⟨e1,hj⟩,by simp only [ZfI],by simp only [Z4b];exact ⟨⟨by omega,hr,_,hk2.2⟩,by omega,hr4⟩,by simp only [Zf6];omega,fun hne=> no ?_,fun heq=> ?_⟩
   ·have hne:doE false y3 y4=none:=by simpa using hne
    rw [hne] at e3
    unfold Z2W
    rw [if_pos hk,←f3,←e3]
    try rfl
   ·obtain ⟨u,hu⟩:=Option.isSome_iff_exists.1 heq
    rw [hu,Option.bind_some] at e3
    refine Z6 (ι:=List Tree) (fun s=> Z7x e y1 out j s) (fun s=> (∀ v,Ya Tree.nil s y2.at_.toNat v=Ya Tree.nil ks y2.at_.toNat v)∧s.length≤y1.kids.length+65536) (fun s=> (y2.at_+1 - s.length).toNat) ks rfl ⟨fun v=> rfl,e4⟩ ?_
    rintro s ⟨q1,q2⟩
    refine Zqm _ _ _ _ _ _ _ _ _ ?_
    rintro z1 hz1 z2 hz2 z3 hz3 z4 hz4 z5 hz5
    rw [←hy2] at hz2
    subst hz1 hz2
    rw [←hy3] at hz3
    subst hz3
    rw [hat,←hy4] at hz4
    subst hz4
    rw [ZaZ hu] at hz5
    subst hz5
    (simp only [vcT,vcS])
    refine ⟨fun hl=> ⟨by simp;omega,s++[Tree.nil],rfl,⟨fun v=> ?_,by simp;omega⟩,by simp;omega⟩,fun hl=> ?_⟩
    ·rw [Zbx Tree.nil (by omega),q1]
    ·have hl:z2.at_ < s.length:=by omega
     refine ⟨by omega,by omega,by unfold InR;omega,(j+1,s.set z2.at_.toNat z5),rfl,⟨by dsimp only;omega,by dsimp only;omega,?_,by simp only [List.length_set];omega⟩,by dsimp only;omega⟩
     dsimp only
     rw [←e3,←Zfo Tree.nil (by omega),q1]
  ·rw [List.drop_of_length_le (by omega),Z22] at e3
   have hs:Z2W false e y1=some (.mk 1 out ks):=by
    unfold Z2W
    rw [if_pos hk,←f3,←e3]
    try rfl
   simp only [Z56,hs]
   (repeat' (first | exact trivial | exact rfl | apply And.intro))
theorem Zgc(r:Bool)(o:Op)(s:List Op)(rest out:List Tree):Ji r (o ::s) rest out=(ZeH r o rest out).bind fun x=> Ji r s x.2 x.1:=by rw [Ji]
theorem Z2w{ks:List Tree}(h:Yp ks)(n:Nat):Yp (ks.drop n):=by
 induction n generalizing ks with
 | zero=> exact h
 | succ n ih=> cases ks with
  | nil=> exact h
  | cons a r=> exact ih h.2
theorem Zzw:Zxx:=by
 intro N e t _ hp hN
 simp only [Z5e,Zc0] at hp hN
 obtain ⟨k3,⟨p1,p2,d,p3⟩,p4,p5⟩:=hp
 have h1:=Yg e
 have h2:=ZM e.ops
 have h3:=ZrU t
 have h4:=ZA t.kids
 have r2:=Z52 p2
 have rt:=ZgC p5
 have ri:=Zn p3
 refine ZBg _ _ _ _ ?_
 (simp only [vcT,vcS])
 have no:Z0e false e t=none→Ys cfg Try.f108.ntmps Try.f108.results.toList (Z55 (e,t,())) [] .ret (⟨[(4,.ptr (.loc 4) 0),(5,.c (.bool false))],[((.loc 4),[.int .i64 0,.nils,.nils])],[]⟩:LSt U):=by
  intro hs
  simp only [Z55,hs]
  (repeat' (first | exact trivial | exact rfl | apply And.intro))
 refine ⟨fun hk=> no (by unfold Z0e;rw [if_neg hk]),fun hk=> ?_⟩
 have hk:t.kind=e.list:=by simpa using hk
 have hl0:Z0e false e t=Ji false e.ops t.kids []:=by unfold Z0e;rw [if_pos hk]
 refine Z6 (ι:=Int × List Tree × List Tree) (fun s=> Z1x e t s.1 s.2.2 s.2.1)
  (fun s=> 0≤s.1∧s.1≤e.ops.length∧Ji false (e.ops.drop s.1.toNat) s.2.2 s.2.1=Z0e false e t∧s.2.1.length+s.2.2.length+Zh (e.ops.drop s.1.toNat)≤t.kids.length+Zh e.ops∧Zf s.2.2≤Zf t.kids∧Yp s.2.2)
  (fun s=> ((e.ops.length:Int) - s.1).toNat) (0,[],t.kids) rfl ⟨by simp,by simp,by simp [hl0],by simp,by simp,rt.2.2⟩ ?_
 rintro ⟨i,out,rest⟩ ⟨f1,f2,f3,f4,f5,f6⟩
 dsimp only at f1 f2 f3 f4 f5 f6
 refine Zqk _ _ _ _ _ _ _ _ ?_
 rintro y1 hy1
 (simp only [vcT,vcS])
 refine ⟨fun hi=> ?_,fun hi=> ?_⟩
 ·have hmem:=Zg (l:=e.ops) (i:=i.toNat) (by omega) Op.nil
  rw [Y1 f1 hi Op.nil,←hy1] at f3 f4
  rw [←hy1] at hmem
  have hr:=Go.AM.rightOs_mem ri.ops y1 hmem
  have hm:=ZL hmem
  have hct:=Z6B hmem
  have hca:=Jt e
  have hme:=ZI y1
  have hro:=JD (Z06 r2.2.2.2.2.2.2 hmem)
  have hml:=ZA y1.l
  simp only [Zh] at f4
  rw [Zgc,Z5m] at f3
  have go:∀ (x:List Tree) (m:List Tree) (v:V U) N0 Q',Ji false (e.ops.drop (i+1).toNat) x m=Z0e false e t→m.length+x.length+Zh (e.ops.drop (i+1).toNat)≤t.kids.length+Zh e.ops→Zf x≤Zf t.kids→Yp x→
    (∀ s2,s2=Z1x e t (i+1) x m→N0 s2)→Zbr N [1,1,1,1,0,1,0,0,1,1,1] (Z2R e t i x m v) (AExit.then N0 (AExit.inBlock 0 (ZhZ N [1,1,1,1,1] Q'))):=by
   intro x m v N0 Q' a1 a2 a3 a4 a5
   exact Zql _ _ _ _ _ _ _ _ _ ⟨by unfold InR;omega,a5 _ rfl⟩
  have fin:∀ (x m:List Tree),Ji false (e.ops.drop (i+1).toNat) x m=Z0e false e t→m.length+x.length+Zh (e.ops.drop (i+1).toNat)≤t.kids.length+Zh e.ops→Zf x≤Zf t.kids→Yp x→∀ s2,s2=Z1x e t (i+1) x m→
    ∃ j:Int × List Tree × List Tree,s2=Z1x e t j.1 j.2.2 j.2.1∧(0≤j.1∧j.1≤e.ops.length∧Ji false (e.ops.drop j.1.toNat) j.2.2 j.2.1=Z0e false e t∧j.2.1.length+j.2.2.length+Zh (e.ops.drop j.1.toNat)≤t.kids.length+Zh e.ops∧Zf j.2.2≤Zf t.kids∧Yp j.2.2)∧((e.ops.length:Int) - j.1).toNat < ((e.ops.length:Int) - i).toNat:=by
   rintro x m a1 a2 a3 a4 _ rfl
   exact ⟨(i+1,m,x),rfl,⟨by dsimp only;omega,by dsimp only;omega,a1,a2,a3,a4⟩,by dsimp only;omega⟩
  have r1:=Y7 hr
  have ht:∀ n:Nat,(rest.take n).length≤rest.length∧(rest.take n).length+(rest.drop n).length=rest.length:=by
   intro n
   simp only [List.length_take,List.length_drop];omega
  refine ⟨⟨f1,hi⟩,fun hk2=> ⟨by omega,?_⟩,fun hk2=> ⟨fun hk1=> ?_,fun hk1=> ⟨fun hk3=> ?_,fun hk3=> ?_⟩⟩⟩
  ·rw [if_neg (by omega),if_neg (by omega),if_pos hk2,Option.bind_some] at f3
   exact go _ _ _ _ _ f3 (by simp only [List.length_append];omega) f5 f6 (fin _ _ f3 (by simp only [List.length_append];omega) f5 f6)
  ·refine ZcY _ _ _ _ _ _ _ _ _ _ ?_
   rintro z1 hz1 z2 hz2 z3 hz3 z4 hz4 z5 hz5 z6 hz6
   rw [←hy1] at hz1
   subst hz1
   rw [if_neg (by omega),if_pos hk1] at f3
   (simp only [vcT,vcS])
   rw [Int.toNat_natCast] at hz5
   rw [Int.toNat_natCast]
   refine ⟨fun hs=> no ?_,fun hs=> ⟨by omega,by omega,fun h=> by omega,fun _=> ⟨fun _=> ⟨?_,fun hq=> no ?_,fun hq=> ?_⟩,fun h=> absurd hk1 h⟩⟩⟩
   ·have:Z3J z1.l rest=false:=by unfold Z3J;rw [decide_eq_false (by omega)];try rfl
    rw [this,if_neg (by simp)] at f3
    exact f3.symm
   ·have:=Zel z1.l.length rest
    simp only [ZdT];omega
   ·have:Z3J z1.l rest=false:=by unfold Z3J;rw [←hz5,hq];simp
    rw [this,if_neg (by simp)] at f3
    exact f3.symm
   ·have:Z3J z1.l rest=true:=by unfold Z3J;rw [←hz5,hq,decide_eq_true (by omega)];try rfl
    rw [this,if_pos rfl,Option.bind_some] at f3
    have hd:=Z3e z1.l.length rest
    have ht1:=ht z1.l.length
    exact go _ _ _ _ _ f3 (by omega) (by omega) (Z2w f6 _) (fin _ _ f3 (by omega) (by omega) (Z2w f6 _))
  ·refine ZcY _ _ _ _ _ _ _ _ _ _ ?_
   rintro z1 hz1 z2 hz2 z3 hz3 z4 hz4 z5 hz5 z6 hz6
   rw [←hy1] at hz1
   subst hz1
   rw [if_neg (by omega),if_neg hk1,if_neg hk2] at f3
   (simp only [vcT,vcS])
   rw [show Int.toNat 1=1 from rfl]
   refine ⟨fun hs=> no ?_,fun hs=> ⟨by omega,by omega,fun h=> by omega,fun _=> ⟨fun h=> absurd h hk1,fun _=> ?_⟩⟩⟩
   ·rw [if_pos (by omega)] at f3
    exact f3.symm
   ·have hz:z3=rest.getD 0 Tree.nil:=by
     rw [hz3,hz2]
     cases rest with
     | nil=> rfl
     | cons a r=> rfl
    rw [if_neg (by omega),←hz,←hz4] at f3
    have hm3:=Z4j rest 0
    have hr3:=ZcG f6 0
    rw [←hz] at hm3 hr3
    have hre:=JE hr hk3
    rw [←hz4] at hre hme hro hct
    refine ⟨?_,by simp only [Z4b];exact ⟨⟨by omega,hro.2.2.2,_,hre⟩,by omega,hr3⟩,by simp only [Zf6];omega,fun hne=> no ?_,fun heq=> ?_⟩
    ·simp only [List.length_take];omega
    ·have hne:doE false z4 z3=none:=by simpa using hne
     rw [hne] at f3
     exact f3.symm
    ·obtain ⟨u,hu⟩:=Option.isSome_iff_exists.1 heq
     rw [ZaZ hu] at hz6
     subst hz6
     rw [hu,Option.map_some,Option.bind_some] at f3
     have hd:=Z3e 1 rest
     have ht1:=ht 1
     have ht2:(rest.take 1).length=1:=by simp only [List.length_take];omega
     refine ⟨by simp only [List.length_singleton];omega,?_⟩
     exact go _ _ _ _ _ f3 (by simp only [List.length_append,List.length_singleton];omega) (by omega) (Z2w f6 _) (fin _ _ f3 (by simp only [List.length_append,List.length_singleton];omega) (by omega) (Z2w f6 _))
  ·have hk0:y1.kind=0:=by cases r1 <;> first | rfl | (exfalso;simp at hk1 hk2 hk3)
   refine ZcY _ _ _ _ _ _ _ _ _ _ ?_
   rintro z1 hz1 z2 hz2 z3 hz3 z4 hz4 z5 hz5 z6 hz6
   rw [←hy1] at hz1
   subst hz1
   rw [if_pos hk0] at f3
   have hn:1≤z1.n∧z1.n≤1048576:=by cases r1 <;> first | (constructor <;> assumption) | (exfalso;simp at hk1 hk2 hk3 hk0)
   (simp only [vcT,vcS])
   refine ⟨fun hs=> no ?_,fun hs=> ⟨by omega,by omega,fun _=> ⟨?_,?_⟩,fun h=> absurd hk0 h⟩⟩
   ·rw [if_neg (by omega)] at f3
    exact f3.symm
   ·have:=(ht z1.n.toNat).1
    omega
   ·rw [if_pos (by omega),Option.bind_some] at f3
    have hd:=Z3e z1.n.toNat rest
    have ht1:=ht z1.n.toNat
    exact go _ _ _ _ _ f3 (by simp only [List.length_append];omega) (by omega) (Z2w f6 _) (fin _ _ f3 (by simp only [List.length_append];omega) (by omega) (Z2w f6 _))
 ·rw [List.drop_of_length_le (by omega),Ji] at f3
  simp only [Z55,←f3,Zhc,Z1V,Option.bind_some,hk]
  by_cases hr:rest.length=0
  ·rw [if_pos hr,hr]
   (repeat' (first | exact trivial | exact rfl | apply And.intro))
  ·rw [if_neg hr,show ((rest.length:Int)==0)=false by rw [beq_eq_false_iff_ne];omega]
   (repeat' (first | exact trivial | exact rfl | apply And.intro))
theorem ZD0:Contract Try.prog cfg 70 Zaz∧Contract Try.prog cfg 107 ZlT∧Contract Try.prog cfg 108 ZlS:=ZuG ZhE Zpm c91 Zz3 Zz4 c66 Zt5 b70 Zzx Zzw
theorem c70:Contract Try.prog cfg 70 Zaz:=ZD0.1
end Go.AM.Ytpjenobkibfpcaa
namespace Go.AM.Ytpjenobkibfpcaa
open Go.AM Go.Proofs
theorem ZsT{r:Bool}{e:Edit}{t u:Tree}(hr:∃ d,Za e d=true)(ht:Zo t+ctE e≤200000000000)(h:doE r e t=some u):Zo u≤1000000000000:=by
 obtain ⟨d,hr⟩:=hr
 have:=Z2g r e d t u hr h
 omega
theorem c26:Contract Try.prog cfg 26 Z4T:=by
 refine Zyn c71 c70 ?_
 intro e t _ hp
 simp only [ZbO] at hp
 refine ZCL _ _ _ ?_
 rintro y1 hy1 y2 hy2 y3 hy3
 subst hy1 hy2
 (simp only [vcT,vcS])
 refine ⟨by simp only [Z4b];exact hp,fun hn=> ?_,fun hs=> ?_⟩
 ·have hn:doE false y1 y2=none:=by simpa using hn
  simp only [Zma,hn]
  (repeat' (first | exact trivial | exact rfl | apply And.intro))
 ·obtain ⟨u,hu⟩:=Option.isSome_iff_exists.1 hs
  rw [ZaZ hu] at hy3
  subst hy3
  have:=ZsT hp.1.2.2 hp.2.1 hu
  refine ⟨by simp only [Z1e];exact this,?_⟩
  simp only [Zma,hu]
  (repeat' (first | exact trivial | exact rfl | apply And.intro))
theorem Zz1:Contract Try.prog cfg 170 Z6N:=by
 refine ZuP ?_
 intro t i _ hp
 simp only [ZdS] at hp
 refine ZAJ _ _ _ ?_
 (simp only [vcT,vcS])
 refine ⟨fun h=> ⟨⟨hp,h⟩,Yn rfl (Z4H t hp).symm⟩,fun h=> Yn rfl ?_⟩
 rw [Z4H t hp,List.getD_eq_getElem?_getD,List.getElem?_eq_none (by omega)]
 try rfl
theorem Zz0:Contract Try.prog cfg 171 Z6M:=by
 refine ZuO ?_
 intro t i _ hp
 simp only [ZdR] at hp
 have hk:=Zbe t hp
 refine ZAI _ _ _ ?_
 (simp only [vcT,vcS])
 simp only [Zka,hk]
 refine ⟨fun h=> ⟨⟨hp,h⟩,?_⟩,fun h=> ?_⟩
 ·(repeat' (first | exact trivial | exact rfl | apply And.intro))
 ·rw [List.getD_eq_getElem?_getD,List.getElem?_eq_none (by omega)]
  (repeat' (first | exact trivial | exact rfl | apply And.intro))
theorem Zsl{r:Bool}{e:Edit}{t:Tree}{l:List Tree}(h:Z1V (Z0e r e t)=some l):Zhc e (Z0e r e t)= .mk e.list [] l:=by
 unfold Z1V at h
 obtain ⟨x,hx,hy⟩:=Option.bind_eq_some_iff.1 h
 rw [hx]
 split at hy
 ·cases hy;rfl
 ·cases hy
theorem b99:ZC0:=by
 intro N e t _ hp hN
 simp only [Z25,Zf5] at hp hN
 obtain ⟨⟨p1,p2,d,p3⟩,p4,p5⟩:=hp
 have h1:=Yg e
 have ri:=Zn p3
 have hd:=ZcP true e t
 have hm:=Z9H true e d t
 refine ZCe _ _ _ _ ?_
 rintro y1 hy1 y2 hy2 y3 hy3 y4 hy4 y5 hy5 y6 hy6
 subst hy1 hy2 hy3 hy4
 (simp only [vcT,vcS])
 simp only [vcF]
 have big:∀ v,Zkl true y1 y2=some v→Zo v≤1000000000000:=fun v hv=> by have:=hm v p3 hv;omega
 have no:Zkl true y1 y2=none→Ys cfg Try.f99.ntmps Try.f99.results.toList (Z7S (y1,y2,())) [] .ret (⟨[(4,.ptr (.loc 4) 0),(5,.c (.bool false))],[((.loc 4),[.int .i64 0,.nils,.nils])],[]⟩:LSt U):=by
  intro h
  rw [h] at hd
  simp only [Z7S,hd]
  (repeat' (first | exact trivial | exact rfl | apply And.intro))
 have yes:∀ v,Zkl true y1 y2=some v→Ys cfg Try.f99.ntmps Try.f99.results.toList (Z7S (y1,y2,())) [] .ret (⟨[(4,.ptr (.loc 4) 0),(5,.c (.bool true))],[((.loc 4),[.int .i64 (Tree.kind (Z4 v)),.slice (U:=U) .u64 (Tree.words (Z4 v)) .unk,.slice (U:=U) .tree (Tree.kids (Z4 v)) .unk])],[]⟩:LSt U):=by
  intro v h
  rw [h] at hd
  simp only [Z7S,hd]
  (repeat' (first | exact trivial | exact rfl | apply And.intro))
 unfold Zkl at big no yes
 refine ⟨fun hk=> ?_,fun hk=> ⟨fun hk1=> ?_,fun hk1=> ⟨fun hk2=> ?_,fun hk2=> ⟨fun hk3=> ?_,fun hk3=> ?_⟩⟩⟩⟩
 ·rw [if_pos hk] at big no yes
  exact ⟨by simp only [Jy];omega,yes _ rfl⟩
 ·rw [if_neg hk,if_pos hk1] at big no yes
  refine ⟨by simp only [Z65];omega,fun hs=> no (by rw [hs];rfl),fun hs=> ?_⟩
  rw [if_pos hs] at big yes
  exact ⟨by simp only [Jy];exact big _ rfl,yes _ rfl⟩
 ·rw [if_neg hk,if_neg hk1,if_pos hk2] at big no yes
  refine ⟨by simp only [Z5b];exact ⟨hk2,⟨p1,p2,d,p3⟩,p4,p5⟩,by simp only [ZbZ];omega,fun hs=> no ?_,fun hs=> ?_⟩
  ·have hs:Z2W true y1 y2=none:=by simpa using hs
   exact hs
  ·obtain ⟨u,hu⟩:=Option.isSome_iff_exists.1 hs
   have e5:y5=u:=by rw [hy5,hu];try rfl
   subst e5
   exact ⟨by simp only [Jy];exact big _ hu,yes _ hu⟩
 ·rw [if_neg hk,if_neg hk1,if_neg hk2,if_pos hk3] at big no yes
  have e2:∀ o,Z1V (Z0e true y1 y2)=o→(if y2.kind=y1.list then (Z1V (Ji true y1.ops y2.kids [])).map fun b=> Tree.mk y1.list [] b else none)=o.map fun b=> Tree.mk y1.list [] b:=by
   intro o ho
   unfold Z0e at ho
   split
   ·rename_i h;rw [if_pos h] at ho;rw [ho]
   ·rename_i h;rw [if_neg h] at ho;rw [←ho];try rfl
  refine ⟨by simp only [Z5a];exact ⟨hk3,⟨p1,p2,d,p3⟩,p4,p5⟩,by simp only [ZbY];omega,fun hs=> no ?_,fun hs=> ?_⟩
  ·have hs:Z1V (Z0e true y1 y2)=none:=by simpa using hs
   rw [e2 _ hs];try rfl
  ·obtain ⟨l,hl⟩:=Option.isSome_iff_exists.1 hs
   have e6:y6= .mk y1.list [] l:=by rw [hy6,Zsl hl]
   subst e6
   have e3:=e2 _ hl
   exact ⟨by simp only [Jy];exact big _ e3,yes _ e3⟩
 ·rw [if_neg hk,if_neg hk1,if_neg hk2,if_neg hk3] at no
  exact no rfl
end Go.AM.Ytpjenobkibfpcaa
