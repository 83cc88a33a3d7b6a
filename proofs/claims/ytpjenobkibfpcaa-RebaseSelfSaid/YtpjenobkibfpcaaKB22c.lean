import Derived.Test.YtpjenobkibfpcaaKB20e
import Derived.Test.YtpjenobkibfpcaaKL22m
set_option linter.unusedSimpArgs false
set_option linter.unusedVariables false
namespace Go.AM.Ytpjenobkibfpcaa
open Go.AM Go.Proofs
noncomputable section
def Z6G(a:List Int × Unit):List Int:=a.1
def Z2v:Fs U:=fsL Zq5 (fun a=> [Zgm a]) .u64 Z6G
def Zbz(a:List Tree × Unit):Prop:=a.1.length<=1000000000000
def Zac(a:List Tree × Unit):List Tree:=a.1
def Z4y:Fs U:=fsL Zlb (fun a=> [Zbz a]) .tree Zac
def Z8L:ArgL (Edit × Tree × Unit):=(.cons (aEl .edit) (.cons (aEl .tree) .nil))
def Z2B(a:Edit × Tree × Unit):Prop:=(Z7 a.1<=20000000000/\YQ a.1/\∃ d,Z8 a.1 d=true)/\Zm a.2.1+ctE a.1<=200000000000/\rng a.2.1
def ZcF(a:Edit × Tree × Unit):Nat:=2*Z7 a.1+1
def Z3Y(a:Edit × Tree × Unit):V U:= .tup [(true,(enc .tree (Z9H a.1 a.2.1))),(false,[.bool ((doE false a.1 a.2.1).isSome)])]
def Z7X:Fs U:=fs Z8L (fun a=> [Z2B a]) Z3Y
def Z3k(a:Edit × Tree × Unit):Prop:=Edit.kind a.1=2/\(Z7 a.1<=20000000000/\YQ a.1/\∃ d,Z8 a.1 d=true)/\Zm a.2.1+ctE a.1<=200000000000/\rng a.2.1
def Z9e(a:Edit × Tree × Unit):Nat:=2*Z7 a.1
def Z3f(a:Edit × Tree × Unit):V U:= .tup [(true,(enc .tree (Z3E (Z9G false a.1 a.2.1)))),(false,[.bool ((Z9G false a.1 a.2.1).isSome)])]
def Zjl:Fs U:=fs Z8L (fun a=> [Z3k a]) Z3f
def Z3j(a:Edit × Tree × Unit):Prop:=Edit.kind a.1=3/\(Z7 a.1<=20000000000/\YQ a.1/\∃ d,Z8 a.1 d=true)/\Zm a.2.1+ctE a.1<=200000000000/\rng a.2.1
def Z3e(a:Edit × Tree × Unit):V U:= .tup [(true,(enc .tree (Zpd a.1 (Z5n false a.1 a.2.1)))),(false,[.bool ((Zcl (Z5n false a.1 a.2.1)).isSome)])]
def Zjk:Fs U:=fs Z8L (fun a=> [Z3j a]) Z3e
def Zim:Zf U:=fun i=> match i with
 | 0=> ([(0,[])],[])
 | 1=> ([(0,[]),(4,[])],[])
 | 2=> ([(2,[.wr .u64])],[])
 | 3=> ([(2,[.wr .u64])],[])
 | _=> ([],[])
abbrev Zz3(p:List Nat):=AW (Z1N Zix) Try.f109 Zim p
theorem ZuE(l:List Int)(Q:QT)(h:(((l=[])->(Q .ret (⟨[(2,.c (.mref (.e 2 0)))],[],[(.e 2 0,LC.mk (U:=U) .u64 [] 0)]⟩:LSt U)))/\(True->((([]:List Int).length+l.length)*8<=140737488355328)/\(Q .ret (⟨[(2,.c (.mref (.e 2 0)))],[],[(.e 2 0,LC.mk (U:=U) .u64 (([]:List Int)++l) (([]:List Int).length))]⟩:LSt U))))):
  Zz3 [] (L2 [(0,.c (sU .u64 l .unk))] []) Q:=
 Eq.mpr (by kernel_rfl) h
def Zqz(l:List Int):Prop:=AW (Z1N Zix) Try.f109 Zim [] (Zj (Zq5.can (l,())) []) (JW cfg Try.f109.ntmps Try.f109.results.toList (.c (.mref (.r 0 0))) [] [(.r 0 0,LC.mk (U:=U) .u64 (Z6G (l,())) 0)])
theorem ZoG(hb:∀ (l:List Int) (_:Unit),Zgm (l,())->Zqz l):CT 109 Z2v:=
 Z0h (l:=[]) Zl rfl trivial Zim Try.func109 rfl rfl 1 (fun _=> rfl) (by decide) (fun ⟨l,_⟩=> hb l ())
def Zp4:Zf U:=fun i=> match i with
 | 0=> ([(0,[])],[])
 | 1=> ([(0,[]),(4,[])],[])
 | 2=> ([(2,[.wr .tree])],[])
 | 3=> ([(2,[.wr .tree])],[])
 | _=> ([],[])
abbrev ZA3(p:List Nat):=AW (Z1N Zix) Try.f150 Zp4 p
theorem ZxU(l:List Tree)(Q:QT)(h:(((l=[])->(Q .ret (⟨[(2,.c (.mref (.e 2 0)))],[],[(.e 2 0,LC.mk (U:=U) .tree [] 0)]⟩:LSt U)))/\(True->((([]:List Tree).length+l.length)*56<=140737488355328)/\(Q .ret (⟨[(2,.c (.mref (.e 2 0)))],[],[(.e 2 0,LC.mk (U:=U) .tree (([]:List Tree)++l) (([]:List Tree).length))]⟩:LSt U))))):
  ZA3 [] (L2 [(0,.c (sU .tree l .unk))] []) Q:=
 Eq.mpr (by kernel_rfl) h
def Ztu(l:List Tree):Prop:=AW (Z1N Zix) Try.f150 Zp4 [] (Zj (Zlb.can (l,())) []) (JW cfg Try.f150.ntmps Try.f150.results.toList (.c (.mref (.r 0 0))) [] [(.r 0 0,LC.mk (U:=U) .tree (Zac (l,())) 0)])
theorem Zs6(hb:∀ (l:List Tree) (_:Unit),Zbz (l,())->Ztu l):CT 150 Z4y:=
 Z0h (l:=[]) Zl rfl trivial Zp4 Try.func150 rfl rfl 1 (fun _=> rfl) (by decide) (fun ⟨l,_⟩=> hb l ())
def Z8z(N:Nat):List (FuncId × Fs U):=(70,fs Z8L (fun a=> [Z2B a,ZcF a < N]) Z3Y) ::(107,fs Z8L (fun a=> [Z3k a,Z9e a < N]) Z3f) ::(108,fs Z8L (fun a=> [Z3j a,Z9e a < N]) Z3e) ::[(106,Je),(149,Z12),(91,Z38),(151,Z07),(150,Z4y),(66,Z6p),(109,Z2v)]
def ZvA:Zf U:=lvl [([2,3,4],[2,3,4]),([2,3,4,7],[2,3,4]),([2,3,4,7,8],[2,3,4]),([4,5],[4]),([2,3,4,7,11],[2,3,4]),([4,5],[4]),([2,3,4,7,19],[2,3,4]),([4,5],[4]),([2,3,4,26],[2,3,4]),([4,5],[4]),([4,5],[4])]
abbrev A70(N:Nat)(p:List Nat):=AW (Z1 (Z8z N)) Try.f70 ZvA p
theorem Zze(N:Nat)(e:Edit)(t:Tree)(Q:QT)(h:∀ y_1,y_1=e->∀ y_2,y_2=t->∀ y_3,y_3=(e.old)->(((e.kind==0)=true->(Q .ret (L2 [pL 4,pB 5 true] [(.loc 4,(enc .tree t))])))/\((e.kind==0)=false->(((e.kind==1)=true->(Z0S (y_3,y_2,()))/\(Q .ret (L2 [pL 4,pB 5 (ZZ (Z4 y_3) (Z4 y_2))] [(.loc 4,(enc .tree e.new))])))/\((e.kind==1)=false->(((e.kind==2)=true->(Z3k (y_1,y_2,()))/\(Z9e (y_1,y_2,()) < N)/\(Q .ret (L2 [pL 4,pB 5 ((Z9G false y_1 y_2).isSome)] [(.loc 4,(enc .tree (Z3E (Z9G false y_1 y_2))))])))/\((e.kind==2)=false->(((e.kind==3)=true->(Z3j (y_1,y_2,()))/\(Z9e (y_1,y_2,()) < N)/\(Q .ret (L2 [pL 4,pB 5 ((Zcl (Z5n false y_1 y_2)).isSome)] [(.loc 4,(enc .tree (Zpd y_1 (Z5n false y_1 y_2))))])))/\((e.kind==3)=false->(Q .ret (L2 [pL 4,pB 5 false] [(.loc 4,[ci 0,.nils,.nils])]))))))))))):
  A70 N [] (L2 [(0,.agg (enc .edit e)),(1,.agg (enc .tree t))] []) Q:=
 Eq.mpr (by kernel_rfl) (h _ (Za _) _ (Zc _) _ (Zc _))
def ZwR(N:Nat)(e:Edit)(t:Tree):Prop:=AW (Z1 (Z8z N)) Try.f70 ZvA [] (Zj (Z8L.can (e,t,())) []) (EQ Try.f70 (Z3Y (e,t,())) [])
abbrev ZyY:Prop:=∀ (N:Nat) (e:Edit) (t:Tree) (_:Unit),Z2B (e,t,())->ZcF (e,t,()) < N+1->ZwR N e t
def Zkb:Zf U:=fun i=> match i with
 | 0=> ([(2,[]),(3,[]),(4,[])],[(.loc 2,[]),(.loc 3,[]),(.loc 4,[])])
 | 1=> ([(2,[]),(3,[]),(4,[]),(16,[])],[(.loc 2,[]),(.loc 3,[]),(.loc 4,[])])
 | 2=> ([(4,[]),(5,[])],[(.loc 4,[])])
 | 3=> ([(2,[]),(3,[]),(4,[]),(6,[])],[(.loc 2,[]),(.loc 3,[]),(.loc 4,[]),(.loc 6,[.any,.wr .u64,.wr .tree])])
 | 4=> ([(2,[]),(3,[]),(4,[]),(6,[]),(26,[]),(27,[]),(28,[])],[(.loc 2,[]),(.loc 3,[]),(.loc 4,[]),(.loc 6,[.any,.wr .u64,.wr .tree])])
 | 5=> ([(2,[]),(3,[]),(4,[]),(6,[]),(26,[]),(27,[]),(28,[]),(29,[])],[(.loc 2,[]),(.loc 3,[]),(.loc 4,[]),(.loc 6,[.any,.wr .u64,.wr .tree])])
 | 6=> ([(2,[]),(3,[]),(4,[]),(6,[]),(8,[]),(26,[]),(27,[]),(28,[])],[(.loc 2,[]),(.loc 3,[]),(.loc 4,[]),(.loc 6,[.any,.wr .u64,.wr .tree]),(.loc 8,[])])
 | 7=> ([(2,[]),(3,[]),(4,[]),(6,[]),(8,[]),(9,[]),(26,[]),(27,[]),(28,[])],[(.loc 2,[]),(.loc 3,[]),(.loc 4,[]),(.loc 6,[.any,.wr .u64,.wr .tree]),(.loc 8,[])])
 | 8=> ([(2,[]),(3,[]),(4,[]),(6,[]),(8,[]),(9,[]),(26,[]),(27,[]),(28,[]),(42,[])],[(.loc 2,[]),(.loc 3,[]),(.loc 4,[]),(.loc 6,[.any,.wr .u64,.wr .tree]),(.loc 8,[])])
 | 9=> ([(4,[]),(5,[])],[(.loc 4,[])])
 | 10=> ([(2,[]),(3,[]),(4,[]),(6,[]),(8,[]),(9,[]),(26,[]),(27,[]),(28,[]),(42,[]),(49,[])],[(.loc 2,[]),(.loc 3,[]),(.loc 4,[]),(.loc 6,[.any,.wr .u64,.wr .tree]),(.loc 8,[])])
 | 11=> ([(2,[]),(3,[]),(4,[]),(6,[]),(8,[]),(9,[]),(26,[]),(27,[]),(28,[]),(42,[])],[(.loc 2,[]),(.loc 3,[]),(.loc 4,[]),(.loc 6,[.any,.wr .u64,.wr .tree]),(.loc 8,[])])
 | 12=> ([(2,[]),(3,[]),(4,[]),(6,[]),(26,[]),(27,[]),(28,[])],[(.loc 2,[]),(.loc 3,[]),(.loc 4,[]),(.loc 6,[.any,.wr .u64,.wr .tree])])
 | 13=> ([(2,[]),(3,[]),(4,[]),(6,[]),(26,[]),(27,[]),(28,[])],[(.loc 2,[]),(.loc 3,[]),(.loc 4,[]),(.loc 6,[.any,.wr .u64,.wr .tree])])
 | 14=> ([(3,[]),(4,[]),(6,[]),(68,[]),(69,[]),(70,[])],[(.loc 3,[]),(.loc 4,[]),(.loc 6,[.any,.wr .u64,.wr .tree])])
 | 15=> ([(3,[]),(4,[]),(6,[]),(68,[]),(69,[]),(70,[]),(71,[])],[(.loc 3,[]),(.loc 4,[]),(.loc 6,[.any,.wr .u64,.wr .tree])])
 | 16=> ([(3,[]),(4,[]),(6,[]),(11,[]),(68,[]),(69,[]),(70,[])],[(.loc 3,[]),(.loc 4,[]),(.loc 6,[.any,.wr .u64,.wr .tree]),(.loc 11,[])])
 | 17=> ([(3,[]),(4,[]),(6,[]),(11,[]),(12,[]),(13,[]),(68,[]),(69,[]),(70,[])],[(.loc 3,[]),(.loc 4,[]),(.loc 6,[.any,.wr .u64,.wr .tree]),(.loc 11,[]),(.loc 12,[])])
 | 18=> ([(3,[]),(4,[]),(6,[]),(11,[]),(12,[]),(68,[]),(69,[]),(70,[]),(85,[])],[(.loc 3,[]),(.loc 4,[]),(.loc 6,[.any,.wr .u64,.wr .tree]),(.loc 11,[]),(.loc 12,[])])
 | 19=> ([(4,[]),(5,[])],[(.loc 4,[])])
 | 20=> ([(3,[]),(4,[]),(6,[]),(11,[]),(12,[]),(68,[]),(69,[]),(70,[]),(85,[]),(92,[])],[(.loc 3,[]),(.loc 4,[]),(.loc 6,[.any,.wr .u64,.wr .tree]),(.loc 11,[]),(.loc 12,[])])
 | 21=> ([(3,[]),(4,[]),(6,[]),(11,[]),(12,[]),(68,[]),(69,[]),(70,[]),(85,[])],[(.loc 3,[]),(.loc 4,[]),(.loc 6,[.any,.wr .u64,.wr .tree]),(.loc 11,[]),(.loc 12,[])])
 | 22=> ([(3,[]),(4,[]),(6,[]),(68,[]),(69,[]),(70,[])],[(.loc 3,[]),(.loc 4,[]),(.loc 6,[.any,.wr .u64,.wr .tree])])
 | 23=> ([(3,[]),(4,[]),(6,[]),(68,[]),(69,[]),(70,[])],[(.loc 3,[]),(.loc 4,[]),(.loc 6,[.any,.wr .u64,.wr .tree])])
 | 24=> ([(4,[]),(5,[])],[(.loc 4,[])])
 | _=> ([],[])
def Z58(e:Edit)(t:Tree)(x28:Int)(rl_6_1:List Int):LSt U:=(⟨[pL 2,pL 3,pL 4,pL 6,(26,.c (sU .wedit e.words .unk)),pI 27 (e.words.length:Int),pI 28 x28],[(.loc 2,(enc .edit e)),(.loc 3,(enc .tree t)),(.loc 4,[ci 0,.nils,.nils]),(.loc 6,[ci 1,.mref (.l 6 1),.mref (.l 6 2)])],[(.l 6 1,LC.mk (U:=U) .u64 rl_6_1 0),(.l 6 2,LC.mk (U:=U) .tree t.kids 0)]⟩:LSt U)
def Z57(e:Edit)(t:Tree)(x28:Int)(rl_6_1_a:List Int):LSt U:=(⟨[pL 2,pL 3,pL 4,pL 6,pL 8,(9,.c (.int .u64 (Jg (Tree.mk t.kind t.words t.kids) (WEdit.at_ (e.words.getD x28.toNat (WEdit.mk 0 0 0 0)))))),(26,.c (sU .wedit e.words .unk)),pI 27 (e.words.length:Int),pI 28 x28,(42,.c (.bool (((mix 0 (Jg (Tree.mk t.kind t.words t.kids) (WEdit.at_ (e.words.getD x28.toNat (WEdit.mk 0 0 0 0)))) (WEdit.mask (e.words.getD x28.toNat (WEdit.mk 0 0 0 0)))):Int) !=(WEdit.old (e.words.getD x28.toNat (WEdit.mk 0 0 0 0))))))],[(.loc 2,(enc .edit e)),(.loc 3,(enc .tree t)),(.loc 4,[ci 0,.nils,.nils]),(.loc 6,[ci 1,.mref (.l 6 1),.mref (.l 6 2)]),(.loc 8,(enc .wedit (e.words.getD x28.toNat (WEdit.mk 0 0 0 0))))],[(.l 6 1,LC.mk (U:=U) .u64 rl_6_1_a 0),(.l 6 2,LC.mk (U:=U) .tree t.kids 0)]⟩:LSt U)
def Z56(e:Edit)(t:Tree)(rl_6_1:List Int)(x70_b:Int)(rl_6_2_b:List Tree):LSt U:=(⟨[pL 3,pL 4,pL 6,(68,.c (sU .kid e.kids .unk)),pI 69 (e.kids.length:Int),pI 70 x70_b],[(.loc 3,(enc .tree t)),(.loc 4,[ci 0,.nils,.nils]),(.loc 6,[ci 1,.mref (.l 6 1),.mref (.l 6 2)])],[(.l 6 1,LC.mk (U:=U) .u64 rl_6_1 0),(.l 6 2,LC.mk (U:=U) .tree rl_6_2_b 0)]⟩:LSt U)
def Z55(e:Edit)(t:Tree)(rl_6_1:List Int)(x70_b:Int)(rl_6_2_c:List Tree):LSt U:=(⟨[pL 3,pL 4,pL 6,pL 11,pL 12,(68,.c (sU .kid e.kids .unk)),pI 69 (e.kids.length:Int),pI 70 x70_b,(85,.c (.bool (!((doE false (Edit.mk (Edit.kind (KidOf.e (e.kids.getD x70_b.toNat (KidOf.mk 0 Edit.nil)))) (Tree.mk (Tree.kind (Edit.old (KidOf.e (e.kids.getD x70_b.toNat (KidOf.mk 0 Edit.nil))))) (Tree.words (Edit.old (KidOf.e (e.kids.getD x70_b.toNat (KidOf.mk 0 Edit.nil))))) (Tree.kids (Edit.old (KidOf.e (e.kids.getD x70_b.toNat (KidOf.mk 0 Edit.nil)))))) (Tree.mk (Tree.kind (Edit.new (KidOf.e (e.kids.getD x70_b.toNat (KidOf.mk 0 Edit.nil))))) (Tree.words (Edit.new (KidOf.e (e.kids.getD x70_b.toNat (KidOf.mk 0 Edit.nil))))) (Tree.kids (Edit.new (KidOf.e (e.kids.getD x70_b.toNat (KidOf.mk 0 Edit.nil)))))) (Edit.words (KidOf.e (e.kids.getD x70_b.toNat (KidOf.mk 0 Edit.nil)))) (Edit.kids (KidOf.e (e.kids.getD x70_b.toNat (KidOf.mk 0 Edit.nil)))) (Edit.list (KidOf.e (e.kids.getD x70_b.toNat (KidOf.mk 0 Edit.nil)))) (Edit.ops (KidOf.e (e.kids.getD x70_b.toNat (KidOf.mk 0 Edit.nil))))) (Tree.mk (Tree.kind (Jt (Tree.mk t.kind t.words t.kids) (KidOf.at_ (e.kids.getD x70_b.toNat (KidOf.mk 0 Edit.nil))))) (Tree.words (Jt (Tree.mk t.kind t.words t.kids) (KidOf.at_ (e.kids.getD x70_b.toNat (KidOf.mk 0 Edit.nil))))) (Tree.kids (Jt (Tree.mk t.kind t.words t.kids) (KidOf.at_ (e.kids.getD x70_b.toNat (KidOf.mk 0 Edit.nil))))))).isSome))))],[(.loc 3,(enc .tree t)),(.loc 4,[ci 0,.nils,.nils]),(.loc 6,[ci 1,.mref (.l 6 1),.mref (.l 6 2)]),(.loc 11,(enc .kid (e.kids.getD x70_b.toNat (KidOf.mk 0 Edit.nil)))),(.loc 12,(enc .tree (Z9H (Edit.mk (Edit.kind (KidOf.e (e.kids.getD x70_b.toNat (KidOf.mk 0 Edit.nil)))) (Tree.mk (Tree.kind (Edit.old (KidOf.e (e.kids.getD x70_b.toNat (KidOf.mk 0 Edit.nil))))) (Tree.words (Edit.old (KidOf.e (e.kids.getD x70_b.toNat (KidOf.mk 0 Edit.nil))))) (Tree.kids (Edit.old (KidOf.e (e.kids.getD x70_b.toNat (KidOf.mk 0 Edit.nil)))))) (Tree.mk (Tree.kind (Edit.new (KidOf.e (e.kids.getD x70_b.toNat (KidOf.mk 0 Edit.nil))))) (Tree.words (Edit.new (KidOf.e (e.kids.getD x70_b.toNat (KidOf.mk 0 Edit.nil))))) (Tree.kids (Edit.new (KidOf.e (e.kids.getD x70_b.toNat (KidOf.mk 0 Edit.nil)))))) (Edit.words (KidOf.e (e.kids.getD x70_b.toNat (KidOf.mk 0 Edit.nil)))) (Edit.kids (KidOf.e (e.kids.getD x70_b.toNat (KidOf.mk 0 Edit.nil)))) (Edit.list (KidOf.e (e.kids.getD x70_b.toNat (KidOf.mk 0 Edit.nil)))) (Edit.ops (KidOf.e (e.kids.getD x70_b.toNat (KidOf.mk 0 Edit.nil))))) (Tree.mk (Tree.kind (Jt (Tree.mk t.kind t.words t.kids) (KidOf.at_ (e.kids.getD x70_b.toNat (KidOf.mk 0 Edit.nil))))) (Tree.words (Jt (Tree.mk t.kind t.words t.kids) (KidOf.at_ (e.kids.getD x70_b.toNat (KidOf.mk 0 Edit.nil))))) (Tree.kids (Jt (Tree.mk t.kind t.words t.kids) (KidOf.at_ (e.kids.getD x70_b.toNat (KidOf.mk 0 Edit.nil)))))))))],[(.l 6 1,LC.mk (U:=U) .u64 rl_6_1 0),(.l 6 2,LC.mk (U:=U) .tree rl_6_2_c 0)]⟩:LSt U)
abbrev ZfL(N:Nat)(p:List Nat):=AW (Z1 (Z8z N)) Try.f107 Zkb p
abbrev Z5o(N:Nat)(p:List Nat):=SW (Z1 (Z8z N)) Try.f107 Zkb p
theorem Zy8(N:Nat)(e:Edit)(t:Tree)(Q:QT)(h:(((t.kind !=1)=true->(Q .ret (L2 [pL 4,pB 5 false] [(.loc 4,[ci 0,.nils,.nils])])))/\((t.kind !=1)=false->(Zgm (t.words,()))/\(Zbz (t.kids,()))/\(Zi (ZfL N [1,1,1,0,1,0,0]) (Z58 e t 0 t.words) (xB 0 (Z5o N [1,1,1,1] Q)))))):
  ZfL N [] (L2 [(0,.agg (enc .edit e)),(1,.agg (enc .tree t))] []) Q:=
 Eq.mpr (by kernel_rfl) h
theorem Znn(N:Nat)(e:Edit)(t:Tree)(x28:Int)(rl_6_1:List Int)(N0:NT)(Q:QT)(h:∀ y_1,y_1=t->∀ y_2,y_2=(e.words.getD x28.toNat (WEdit.mk 0 0 0 0))->let z1:=decide (x28 < (e.words.length:Int));let z0:=((mix 0 (Jg y_1 y_2.at_) y_2.mask):Int) !=y_2.old;((z1=true->((0:Int)<=x28/\x28 < (e.words.length:Int))/\((Z8c (y_1,y_2.at_,()))/\((ZeL (0,(Jg y_1 y_2.at_),y_2.mask,()))/\((z0=true->(Q .ret (L2 [pL 4,pB 5 false] [(.loc 4,[ci 0,.nils,.nils])])))/\(z0=false->Zi (ZfL N [1,1,1,0,1,0,0,1,1,0,0,1,1,1,0,0,0]) (Z57 e t x28 rl_6_1) (xB 2 (Z5o N [1,1,1,0,1,0,0,1,1,0,0,1,1,1,1] (xB 1 (Z5o N [1,1,1,0,1,0,0,1,1,1] (xT N0 (xB 0 (Z5o N [1,1,1,1] Q))))))))))))/\(z1=false->(Zi (ZfL N [1,1,1,1,0,1,0,0]) (Z56 e t rl_6_1 0 t.kids) (xB 4 (Z5o N [1,1,1,1,1] Q)))))):
  ZfL N [1,1,1,0,1,0,0] (Z58 e t x28 rl_6_1) (xT N0 (xB 0 (Z5o N [1,1,1,1] Q))):=
 Eq.mpr (by kernel_rfl) (h _ (Zc _) _ rfl)
theorem Znm(N:Nat)(e:Edit)(t:Tree)(x28:Int)(rl_6_1_a:List Int)(N1 N0:NT)(Q:QT)(h:let z0:=e.words.getD x28.toNat (WEdit.mk 0 0 0 0);let z2:=Jg (Tree.mk t.kind t.words t.kids) (WEdit.at_ z0);let z1:=decide (((rl_6_1_a.length:Int):Int)<=(WEdit.at_ z0));((z1=true->((rl_6_1_a.length+([0]).length)*8<=140737488355328)/\(N1 (Z57 e t x28 (rl_6_1_a++([0])))))/\(z1=false->(ZeL (z2,(WEdit.new z0),(WEdit.mask z0),()))/\((0:Int)<=(WEdit.at_ z0)/\(WEdit.at_ z0) < (rl_6_1_a.length:Int))/\((0:Nat)<=(Int.toNat (WEdit.at_ z0)))/\((InR (x28+1))/\(N0 (Z58 e t (x28+1) (List.set rl_6_1_a (Int.toNat (WEdit.at_ z0)) (mix z2 (WEdit.new z0) (WEdit.mask z0))))))))):
  ZfL N [1,1,1,0,1,0,0,1,1,0,0,1,1,1,0,0,0] (Z57 e t x28 rl_6_1_a) (xT N1 (xB 2 (Z5o N [1,1,1,0,1,0,0,1,1,0,0,1,1,1,1] (xB 1 (Z5o N [1,1,1,0,1,0,0,1,1,1] (xT N0 (xB 0 (Z5o N [1,1,1,1] Q)))))))):=
 Eq.mpr (by kernel_rfl) h
theorem Znl(N:Nat)(e:Edit)(t:Tree)(rl_6_1:List Int)(x70_b:Int)(rl_6_2_b:List Tree)(N2:NT)(Q:QT)(h:∀ y_1,y_1=t->∀ y_2,y_2=(e.kids.getD x70_b.toNat (KidOf.mk 0 Edit.nil))->∀ y_3,y_3=(y_2.e)->∀ y_4,y_4=(Jt y_1 y_2.at_)->let z1:= !((doE false y_3 y_4).isSome);let z0:=decide (x70_b < (e.kids.length:Int));((z0=true->((0:Int)<=x70_b/\x70_b < (e.kids.length:Int))/\((Z8c (y_1,y_2.at_,()))/\(Z2B (y_3,y_4,()))/\(ZcF (y_3,y_4,()) < N)/\((z1=true->(Q .ret (L2 [pL 4,pB 5 false] [(.loc 4,[ci 0,.nils,.nils])])))/\(z1=false->Zi (ZfL N [1,1,1,1,0,1,0,0,1,1,0,0,1,1,1,0,0,0]) (Z55 e t rl_6_1 x70_b rl_6_2_b) (xB 6 (Z5o N [1,1,1,1,0,1,0,0,1,1,0,0,1,1,1,1] (xB 5 (Z5o N [1,1,1,1,0,1,0,0,1,1,1] (xT N2 (xB 4 (Z5o N [1,1,1,1,1] Q)))))))))))/\(z0=false->(Q .ret (L2 [pL 4,pB 5 true] [(.loc 4,[ci 1,sU .u64 rl_6_1 (.own (.l 4 1)),sU .tree rl_6_2_b (.own (.l 4 2))])]))))):
  ZfL N [1,1,1,1,0,1,0,0] (Z56 e t rl_6_1 x70_b rl_6_2_b) (xT N2 (xB 4 (Z5o N [1,1,1,1,1] Q))):=
 Eq.mpr (by kernel_rfl) (h _ (Zc _) _ rfl _ (Za _) _ (Zc _))
theorem Znk(N:Nat)(e:Edit)(t:Tree)(rl_6_1:List Int)(x70_b:Int)(rl_6_2_c:List Tree)(N3 N2:NT)(Q:QT)(h:∀ y_1,y_1=t->∀ y_2,y_2=(e.kids.getD x70_b.toNat (KidOf.mk 0 Edit.nil))->∀ y_3,y_3=(y_2.e)->∀ y_4,y_4=(Jt y_1 y_2.at_)->∀ y_5,y_5=(Z9H y_3 y_4)->let z0:=decide (((rl_6_2_c.length:Int):Int)<=y_2.at_);((z0=true->((rl_6_2_c.length+([(Tree.mk 0 [] [])]).length)*56<=140737488355328)/\(N3 (Z55 e t rl_6_1 x70_b (rl_6_2_c++([(Tree.mk 0 [] [])])))))/\(z0=false->((0:Int)<=y_2.at_/\y_2.at_ < (rl_6_2_c.length:Int))/\((0:Nat)<=(Int.toNat y_2.at_))/\((InR (x70_b+1))/\(N2 (Z56 e t rl_6_1 (x70_b+1) (List.set rl_6_2_c (Int.toNat y_2.at_) y_5))))))):
  ZfL N [1,1,1,1,0,1,0,0,1,1,0,0,1,1,1,0,0,0] (Z55 e t rl_6_1 x70_b rl_6_2_c) (xT N3 (xB 6 (Z5o N [1,1,1,1,0,1,0,0,1,1,0,0,1,1,1,1] (xB 5 (Z5o N [1,1,1,1,0,1,0,0,1,1,1] (xT N2 (xB 4 (Z5o N [1,1,1,1,1] Q)))))))):=
 Eq.mpr (by kernel_rfl) (h _ (Zc _) _ rfl _ (Za _) _ (Zc _) _ (Zc _))
def ZtI(N:Nat)(e:Edit)(t:Tree):Prop:=AW (Z1 (Z8z N)) Try.f107 Zkb [] (Zj (Z8L.can (e,t,())) []) (EQ Try.f107 (Z3f (e,t,())) [])
abbrev Zuz:Prop:=∀ (N:Nat) (e:Edit) (t:Tree) (_:Unit),Z3k (e,t,())->Z9e (e,t,()) < N+1->ZtI N e t
def Zka:Zf U:=fun i=> match i with
 | 0=> ([(2,[]),(3,[]),(4,[])],[(.loc 2,[]),(.loc 3,[]),(.loc 4,[])])
 | 1=> ([(2,[]),(3,[]),(4,[]),(18,[])],[(.loc 2,[]),(.loc 3,[]),(.loc 4,[])])
 | 2=> ([(4,[]),(5,[])],[(.loc 4,[])])
 | 3=> ([(2,[]),(3,[]),(4,[]),(6,[])],[(.loc 2,[]),(.loc 3,[]),(.loc 4,[]),(.loc 6,[])])
 | 4=> ([(2,[]),(4,[]),(6,[]),(7,[])],[(.loc 2,[]),(.loc 4,[]),(.loc 6,[])])
 | 5=> ([(4,[]),(6,[]),(7,[]),(26,[]),(27,[]),(28,[])],[(.loc 4,[]),(.loc 6,[.any,.any,.own .tree])])
 | 6=> ([(4,[]),(6,[]),(7,[]),(26,[]),(27,[]),(28,[]),(29,[])],[(.loc 4,[]),(.loc 6,[])])
 | 7=> ([(4,[]),(6,[]),(7,[]),(9,[]),(26,[]),(27,[]),(28,[])],[(.loc 4,[]),(.loc 6,[]),(.loc 9,[])])
 | 8=> ([(4,[]),(6,[]),(7,[]),(9,[]),(10,[]),(26,[]),(27,[]),(28,[])],[(.loc 4,[]),(.loc 6,[]),(.loc 9,[])])
 | 9=> ([(4,[]),(6,[]),(7,[]),(9,[]),(10,[]),(26,[]),(27,[]),(28,[]),(35,[])],[(.loc 4,[]),(.loc 6,[]),(.loc 9,[])])
 | 10=> ([(4,[]),(6,[]),(7,[]),(9,[]),(10,[]),(26,[]),(27,[]),(28,[]),(35,[]),(36,[])],[(.loc 4,[]),(.loc 6,[]),(.loc 9,[])])
 | 11=> ([(4,[]),(6,[]),(7,[]),(26,[]),(27,[]),(28,[]),(97,[])],[(.loc 4,[]),(.loc 6,[])])
 | 12=> ([(4,[]),(6,[]),(7,[]),(9,[]),(10,[]),(26,[]),(27,[]),(28,[]),(35,[]),(44,[])],[(.loc 4,[]),(.loc 6,[]),(.loc 9,[])])
 | 13=> ([(4,[]),(6,[]),(7,[]),(9,[]),(10,[]),(26,[]),(27,[]),(28,[]),(49,[])],[(.loc 4,[]),(.loc 6,[]),(.loc 9,[])])
 | 14=> ([(4,[]),(6,[]),(7,[]),(9,[]),(10,[]),(26,[]),(27,[]),(28,[]),(49,[])],[(.loc 4,[]),(.loc 6,[]),(.loc 9,[])])
 | 15=> ([(4,[]),(6,[]),(7,[]),(9,[]),(10,[]),(26,[]),(27,[]),(28,[]),(49,[])],[(.loc 4,[]),(.loc 6,[]),(.loc 9,[])])
 | 16=> ([(4,[]),(6,[]),(7,[]),(9,[]),(10,[]),(26,[]),(27,[]),(28,[]),(54,[])],[(.loc 4,[]),(.loc 6,[]),(.loc 9,[])])
 | 17=> ([(4,[]),(5,[])],[(.loc 4,[])])
 | 18=> ([(4,[]),(6,[]),(7,[]),(9,[]),(10,[]),(26,[]),(27,[]),(28,[])],[(.loc 4,[]),(.loc 6,[]),(.loc 9,[])])
 | 19=> ([(4,[]),(6,[]),(7,[]),(9,[]),(11,[]),(26,[]),(27,[]),(28,[])],[(.loc 4,[]),(.loc 6,[]),(.loc 9,[])])
 | 20=> ([(4,[]),(6,[]),(7,[]),(12,[]),(13,[]),(26,[]),(27,[]),(28,[])],[(.loc 4,[]),(.loc 6,[]),(.loc 12,[])])
 | 21=> ([(4,[]),(6,[]),(7,[]),(12,[]),(26,[]),(27,[]),(28,[]),(72,[])],[(.loc 4,[]),(.loc 6,[]),(.loc 12,[])])
 | 22=> ([(4,[]),(5,[])],[(.loc 4,[])])
 | 23=> ([(4,[]),(6,[]),(7,[]),(26,[]),(27,[]),(28,[]),(97,[])],[(.loc 4,[]),(.loc 6,[])])
 | 24=> ([(4,[]),(6,[]),(7,[]),(9,[]),(11,[]),(26,[]),(27,[]),(28,[]),(80,[])],[(.loc 4,[]),(.loc 6,[]),(.loc 9,[])])
 | 25=> ([(4,[]),(6,[]),(7,[]),(26,[]),(27,[]),(28,[]),(97,[])],[(.loc 4,[]),(.loc 6,[])])
 | 26=> ([(4,[]),(6,[]),(7,[]),(9,[]),(11,[]),(26,[]),(27,[]),(28,[]),(89,[])],[(.loc 4,[]),(.loc 6,[]),(.loc 9,[])])
 | 27=> ([(4,[]),(6,[]),(7,[]),(26,[]),(27,[]),(28,[]),(97,[])],[(.loc 4,[]),(.loc 6,[])])
 | 28=> ([(4,[]),(5,[])],[(.loc 4,[])])
 | 29=> ([(4,[]),(6,[]),(7,[]),(26,[]),(27,[]),(28,[])],[(.loc 4,[]),(.loc 6,[.any,.any,.own .tree])])
 | 30=> ([(4,[]),(5,[])],[(.loc 4,[])])
 | _=> ([],[])
def Z0t(e:Edit)(t:Tree)(x28:Int)(x7 ml6_2:List Tree):LSt U:=(L2 [pL 4,pL 6,(7,.c (sU .tree x7 .unk)),(26,.c (sU .op e.ops .unk)),pI 27 (e.ops.length:Int),pI 28 x28] [(.loc 4,[ci 0,.nils,.nils]),(.loc 6,[ci t.kind,.nils,sU .tree ml6_2 (.own (.l 6 2))])])
def Z1u(e:Edit)(t:Tree)(x28:Int)(x7_a ml6_2_a:List Tree)(v97_a:V U):LSt U:=(L2 [pL 4,pL 6,(7,.c (sU .tree x7_a .unk)),(26,.c (sU .op e.ops .unk)),pI 27 (e.ops.length:Int),pI 28 x28,(97,v97_a)] [(.loc 4,[ci 0,.nils,.nils]),(.loc 6,[ci t.kind,.nils,sU .tree ml6_2_a (.own (.l 6 2))])])
def Z54(e:Edit)(t:Tree)(x28:Int)(x7 ml6_2:List Tree)(x10_b:Int)(v49_b:V U):LSt U:=(L2 [pL 4,pL 6,(7,.c (sU .tree x7 .unk)),pL 9,pI 10 x10_b,(26,.c (sU .op e.ops .unk)),pI 27 (e.ops.length:Int),pI 28 x28,(49,v49_b)] [(.loc 4,[ci 0,.nils,.nils]),(.loc 6,[ci t.kind,.nils,sU .tree ml6_2 (.own (.l 6 2))]),(.loc 9,(enc .op (e.ops.getD x28.toNat Op.nil)))])
abbrev Z8M(N:Nat)(p:List Nat):=AW (Z1 (Z8z N)) Try.f108 Zka p
abbrev ZfJ(N:Nat)(p:List Nat):=SW (Z1 (Z8z N)) Try.f108 Zka p
theorem Zy7(N:Nat)(e:Edit)(t:Tree)(Q:QT)(h:(((t.kind !=e.list)=true->(Q .ret (L2 [pL 4,pB 5 false] [(.loc 4,[ci 0,.nils,.nils])])))/\((t.kind !=e.list)=false->(Zi (Z8M N [1,1,1,1,0,1,0,0]) (Z0t e t 0 t.kids []) (xB 0 (ZfJ N [1,1,1,1,1] Q)))))):
  Z8M N [] (L2 [(0,.agg (enc .edit e)),(1,.agg (enc .tree t))] []) Q:=
 Eq.mpr (by kernel_rfl) h
theorem Zni(N:Nat)(e:Edit)(t:Tree)(x28:Int)(x7 ml6_2:List Tree)(N0:NT)(Q:QT)(h:∀ y_1,y_1=(e.ops.getD x28.toNat Op.nil)->let z2:=decide (x28 < (e.ops.length:Int));let z1:=xT N0 (xB 0 (ZfJ N [1,1,1,1,1] Q));let z0:=xB 1 (ZfJ N [1,1,1,1,0,1,0,0,1,1,1] z1);((z2=true->((0:Int)<=x28/\x28 < (e.ops.length:Int))/\(((y_1.kind==2)=true->((ml6_2.length+y_1.l.length)*56<=140737488355328)/\(Z8M N [1,1,1,1,0,1,0,0,1,1,1] (Z1u e t x28 x7 (ml6_2++y_1.l) .junk) z1))/\((y_1.kind==2)=false->(((y_1.kind==1)=true->(Z8M N [1,1,1,1,0,1,0,0,1,1,0,0,1,1,1] (Z54 e t x28 x7 ml6_2 (y_1.l.length:Int) .junk) z0))/\((y_1.kind==1)=false->(((y_1.kind==3)=true->(Z8M N [1,1,1,1,0,1,0,0,1,1,0,0,1,1,1] (Z54 e t x28 x7 ml6_2 1 (.c (.bool (y_1.kind==3)))) z0))/\((y_1.kind==3)=false->Z8M N [1,1,1,1,0,1,0,0,1,1,0,0,1,1,1] (Z54 e t x28 x7 ml6_2 y_1.n (.c (.bool (y_1.kind==3)))) z0)))))))/\(z2=false->(Q .ret (L2 [pL 4,pB 5 (((x7.length:Int):Int)==0)] [(.loc 4,[ci t.kind,.nils,sU .tree ml6_2 (.own (.l 4 2))])]))))):
  Z8M N [1,1,1,1,0,1,0,0] (Z0t e t x28 x7 ml6_2) (xT N0 (xB 0 (ZfJ N [1,1,1,1,1] Q))):=
 Eq.mpr (by kernel_rfl) (h _ rfl)
theorem Znj(N:Nat)(e:Edit)(t:Tree)(x28:Int)(x7_a ml6_2_a:List Tree)(v97_a:V U)(N0:NT)(Q:QT)(h:(InR (x28+1))/\(N0 (Z0t e t (x28+1) x7_a ml6_2_a))):
  Z8M N [1,1,1,1,0,1,0,0,1,1,1] (Z1u e t x28 x7_a ml6_2_a v97_a) (xT N0 (xB 0 (ZfJ N [1,1,1,1,1] Q))):=
 Eq.mpr (by kernel_rfl) h
theorem Zax(N:Nat)(e:Edit)(t:Tree)(x28:Int)(x7 ml6_2:List Tree)(x10_b:Int)(v49_b:V U)(N0:NT)(Q:QT)(h:∀ y_1,y_1=(e.ops.getD x28.toNat Op.nil)->∀ y_2,y_2=(List.getD (List.take x10_b.toNat x7) (Int.toNat 0) Tree.nil)->∀ y_3,y_3=y_2->∀ y_4,y_4=(y_1.e)->∀ y_5,y_5=(eqX (Z5 y_1.l) (Z5 (List.take x10_b.toNat x7)))->∀ y_6,y_6=(Z9H y_4 y_3)->let z5:= !((doE false y_4 y_3).isSome);let z4:=decide (((x7.length:Int):Int) < x10_b);let z3:=List.drop x10_b.toNat x7;let z2:=List.take x10_b.toNat x7;let z1:=xT N0 (xB 0 (ZfJ N [1,1,1,1,1] Q));let z0:=Q .ret (L2 [pL 4,pB 5 false] [(.loc 4,[ci 0,.nils,.nils])]);((z4=true->z0)/\(z4=false->(((0:Int)<=x10_b/\x10_b<=(x7.length:Int))/\((0:Int)<=x10_b/\x10_b<=(x7.length:Int))/\(((y_1.kind==0)=true->((ml6_2.length+z2.length)*56<=140737488355328)/\(Z8M N [1,1,1,1,0,1,0,0,1,1,1] (Z1u e t x28 z3 (ml6_2++z2) .junk) z1))/\((y_1.kind==0)=false->(((y_1.kind==1)=true->(Z5N (y_1.l,z2,(),()))/\(((!y_5)=true->z0)/\((!y_5)=false->Z8M N [1,1,1,1,0,1,0,0,1,1,1] (Z1u e t x28 z3 ml6_2 (.c (.bool (!y_5)))) z1)))/\((y_1.kind==1)=false->((0:Int)<=0/\0 < (z2.length:Int))/\(Z2B (y_4,y_3,()))/\(ZcF (y_4,y_3,()) < N)/\((z5=true->z0)/\(z5=false->((ml6_2.length+([y_6]).length)*56<=140737488355328)/\(Z8M N [1,1,1,1,0,1,0,0,1,1,1] (Z1u e t x28 z3 (ml6_2++([y_6])) .junk) z1))))))))))):
  Z8M N [1,1,1,1,0,1,0,0,1,1,0,0,1,1,1] (Z54 e t x28 x7 ml6_2 x10_b v49_b) (xB 1 (ZfJ N [1,1,1,1,0,1,0,0,1,1,1] (xT N0 (xB 0 (ZfJ N [1,1,1,1,1] Q))))):=
 Eq.mpr (by kernel_rfl) (h _ rfl _ rfl _ (Zc _) _ (Za _) _ rfl _ (Zc _))
def ZtH(N:Nat)(e:Edit)(t:Tree):Prop:=AW (Z1 (Z8z N)) Try.f108 Zka [] (Zj (Z8L.can (e,t,())) []) (EQ Try.f108 (Z3e (e,t,())) [])
abbrev Zuy:Prop:=∀ (N:Nat) (e:Edit) (t:Tree) (_:Unit),Z3j (e,t,())->Z9e (e,t,()) < N+1->ZtH N e t
theorem ZrE(Z9N:CT 106 Je)(ZmH:CT 149 Z12)(c91:CT 91 Z38)(Zfm:CT 151 Z07)(Zwh:CT 150 Z4y)(c66:CT 66 Z6p)(ZpX:CT 109 Z2v)(b70:ZyY)(Zwx:Zuz)(Zww:Zuy):
  CT 70 Z7X/\CT 107 Zjl/\CT 108 Zjk:=by
 have h82 : ∃ fn, Try.prog.funcs[(70 : FuncId)]? = some fn ∧ fn.body.isSome = true ∧ (fn.name == "runtime.NumGoroutine") = false := ⟨Try.f70, Try.func70, rfl, rfl⟩
 have h113 : ∃ fn, Try.prog.funcs[(107 : FuncId)]? = some fn ∧ fn.body.isSome = true ∧ (fn.name == "runtime.NumGoroutine") = false := ⟨Try.f107, Try.func107, rfl, rfl⟩
 have h114 : ∃ fn, Try.prog.funcs[(108 : FuncId)]? = some fn ∧ fn.body.isSome = true ∧ (fn.name == "runtime.NumGoroutine") = false := ⟨Try.f108, Try.func108, rfl, rfl⟩
 have key:∀ N,CT 70 (fs Z8L (fun a=> [Z2B a,ZcF a < N]) Z3Y)/\CT 107 (fs Z8L (fun a=> [Z3k a,Z9e a < N]) Z3f)/\CT 108 (fs Z8L (fun a=> [Z3j a,Z9e a < N]) Z3e):=by
  intro N
  induction N with
  | zero=> exact ⟨Z7B h82,Z7B h113,Z7B h114⟩
  | succ N ih=>
   have kn:=Z0y (l:=Z8z N) ⟨ih.1,ih.2.1,ih.2.2,Z9N,ZmH,c91,Zfm,Zwh,c66,ZpX,trivial⟩
   exact ⟨Jx (Γ:=Z1 (Z8z N)) Zl rfl kn ZvA Try.func70 rfl rfl (fun a=> by show 2<=_;decide) (fun ⟨e,t,_⟩ h=> b70 N e t () h.1 h.2.1),
    Jx (Γ:=Z1 (Z8z N)) Zl rfl kn Zkb Try.func107 rfl rfl (fun a=> by show 2<=_;decide) (fun ⟨e,t,_⟩ h=> Zwx N e t () h.1 h.2.1),
    Jx (Γ:=Z1 (Z8z N)) Zl rfl kn Zka Try.func108 rfl rfl (fun a=> by show 2<=_;decide) (fun ⟨e,t,_⟩ h=> Zww N e t () h.1 h.2.1)⟩
 exact ⟨Z7C h82 fun N=> (key N).1,Z7C h113 fun N=> (key N).2.1,Z7C h114 fun N=> (key N).2.2⟩
end
noncomputable section
def ZjA(a:Edit × Tree × Unit):V U:= .tup [(true,(enc .tree (Z3E ((doE false a.1 a.2.1).map Z4)))),(false,[.bool ((doE false a.1 a.2.1).isSome)])]
def Z3P:Fs U:=fs Z8L (fun a=> [Z2B a]) ZjA
def ZpA:List (FuncId × Fs U):=[(71,Z3b),(70,Z7X)]
def ZvH:Zf U:=lvl [([2,3,4],[2,3,4]),([4,6,7],[4,6]),([4,6,15],[4,6]),([4,5],[4]),([4,5],[4])]
abbrev A26(p:List Nat):=AW (Z1 ZpA) Try.f26 ZvH p
theorem Zzx(e:Edit)(t:Tree)(Q:QT)(h:∀ y_1,y_1=e->∀ y_2,y_2=t->∀ y_3,y_3=(Z9H y_1 y_2)->let z0:= !((doE false y_1 y_2).isSome);((Z2B (y_1,y_2,()))/\((z0=true->(Q .ret (L2 [pL 4,pB 5 false] [(.loc 4,[ci 0,.nils,.nils])])))/\(z0=false->(Z1F (y_3,()))/\(Q .ret (L2 [pL 4,pB 5 true] [(.loc 4,(enc .tree (Z4 y_3)))])))))):
  A26 [] (L2 [(0,.agg (enc .edit e)),(1,.agg (enc .tree t))] []) Q:=
 Eq.mpr (by kernel_rfl) (h _ (Za _) _ (Zc _) _ (Zc _))
def Zxa(e:Edit)(t:Tree):Prop:=AW (Z1 ZpA) Try.f26 ZvH [] (Zj (Z8L.can (e,t,())) []) (EQ Try.f26 (ZjA (e,t,())) [])
theorem Zvu(c71:CT 71 Z3b)(c70:CT 70 Z7X)(hb:∀ (e:Edit) (t:Tree) (_:Unit),Z2B (e,t,())->Zxa e t):CT 26 Z3P:=
 Z3 (l:=[(71,Z3b),(70,Z7X)]) Zl rfl (⟨c71,c70,trivial⟩) ZvH Try.func26 rfl rfl 2 (fun _=> rfl) (by decide) (fun ⟨e,t,_⟩=> hb e t ())
end
theorem ZpX:Contract Try.prog cfg 109 Z2v:=by
 refine ZoG ?_
 intro l _ hp
 simp only [Zgm] at hp
 refine ZuE _ _ ⟨fun h=> ?_,fun _=> ⟨by simp only [Qb];omega,?_⟩⟩
 ·subst h
  simp only [Z6G]
  (repeat' (first | exact trivial | exact rfl | apply And.intro))
 ·simp only [Z6G]
  (repeat' (first | exact trivial | exact rfl | apply And.intro))
theorem Zwh:Contract Try.prog cfg 150 Z4y:=by
 refine Zs6 ?_
 intro l _ hp
 simp only [Zbz] at hp
 refine ZxU _ _ ⟨fun h=> ?_,fun _=> ⟨by simp only [Qb];omega,?_⟩⟩
 ·subst h
  simp only [Zac]
  (repeat' (first | exact trivial | exact rfl | apply And.intro))
 ·simp only [Zac]
  (repeat' (first | exact trivial | exact rfl | apply And.intro))
theorem ZcX{α:Type}(z:α){l:List α}{i:Nat}(h:i < l.length)(x:α):Jj z l i x=l.set i x:=by
 simp only [Jj];rw [show i+1 - l.length=0 by omega];simp
theorem Z8T{α:Type}(z:α){l:List α}{i:Nat}(h:l.length<=i)(x:α):Jj z (l++[z]) i x=Jj z l i x:=by
 simp only [Jj,Q6,QO,Qd]
 rw [show i+1 - l.length=(i+1 - (l.length+1))+1 by omega,List.replicate_succ]
 try rfl
theorem ZoC(t:Tree):t.words.length+Z6 t.kids+1=Zm t:=by obtain ⟨k,w,ks⟩:=t;simp only [Zm,Tree.words_mk,Tree.kids_mk];omega
theorem ZnF{t:Tree}(h:rng t):InR t.kind/\(∀ x∈t.words,isW x)/\YU t.kids:=by obtain ⟨k,w,ks⟩:=t;exact h
theorem Zjq{ks:List Tree}(h:YU ks)(i:Nat):rng (ks.getD i Tree.nil):=by
 by_cases hi:i < ks.length
 ·exact Z0I h (Zh hi _)
 ·rw [Qm,Qz (by omega)]
  refine ⟨by decide,by simp [Tree.nil],trivial⟩
theorem ZgR(ks:List Tree)(i:Nat):Zm (ks.getD i Tree.nil)<=Z6 ks+1:=by
 by_cases hi:i < ks.length
 ·have:=YX (Zh hi Tree.nil);omega
 ·rw [Qm,Qz (by omega)]
  simp [Tree.nil,Zm,Z6]
theorem Zmr(t:Tree){i:Int}(h:0<=i):Jt t i=t.kids.getD i.toNat Tree.nil:=by unfold Jt;rw [if_neg (by omega)]
theorem ZhA(t:Tree){i:Int}(h:0<=i):Jg t i=t.words.getD i.toNat 0:=by unfold Jg;rw [if_neg (by omega)]
theorem ZqD{l:List Int}(h:∀ x∈l,isW x)(i:Nat):isW (l.getD i 0):=by
 by_cases hi:i < l.length
 ·exact h _ (Zh hi _)
 ·rw [Qm,Qz (by omega)];show 0<=(0:Int)/\(0:Int) < _;omega
theorem b70:ZyY:=by
 intro N e t _ hp hN
 simp only [Z2B,ZcF] at hp hN
 obtain ⟨⟨p1,p2,d,p3⟩,p4,p5⟩:=hp
 have h1:=YB e
 have h2:=Z6v p2
 have hd:=Zfj false e t
 rw [Z8o] at hd
 refine Zze _ _ _ _ ?_
 rintro y1 hy1 y2 hy2 y3 hy3
 subst hy1 hy2 hy3
 (simp only [vcT,vcS])
 refine ⟨fun hk=> ?_,fun hk=> ⟨fun hk1=> ⟨by simp only [Z0S];omega,?_⟩,fun hk1=> ⟨fun hk2=> ⟨by simp only [Z3k];exact ⟨hk2,⟨p1,p2,d,p3⟩,p4,p5⟩,by simp only [Z9e];omega,?_⟩,fun hk2=> ⟨fun hk3=> ⟨by simp only [Z3j];exact ⟨hk3,⟨p1,p2,d,p3⟩,p4,p5⟩,by simp only [Z9e];omega,?_⟩,fun hk3=> ?_⟩⟩⟩⟩
 ·rw [if_pos hk] at hd
  simp only [Z3Y,Z9H,if_pos hk,hd]
  (repeat' (first | exact trivial | exact rfl | apply And.intro))
 ·rw [if_neg hk,if_pos hk1] at hd
  simp only [Z3Y,Z9H,if_neg hk,if_pos hk1,hd]
  cases ZZ (Z4 y1.old) (Z4 y2) <;> (repeat' (first | exact trivial | exact rfl | apply And.intro))
 ·rw [if_neg hk,if_neg hk1,if_pos hk2] at hd
  simp only [Z3Y,Z9H,if_neg hk,if_neg hk1,if_pos hk2,hd]
  (repeat' (first | exact trivial | exact rfl | apply And.intro))
 ·rw [if_neg hk,if_neg hk1,if_neg hk2,if_pos hk3] at hd
  simp only [Z3Y,Z9H,if_neg hk,if_neg hk1,if_neg hk2,if_pos hk3,hd]
  have e2:(if y2.kind=y1.list then (Zcl (Z2U false y1.ops y2.kids [])).map fun b=> Tree.mk y1.list [] b else none).isSome=(Zcl (Z5n false y1 y2)).isSome:=by
   unfold Z5n
   split
   ·cases Zcl (Z2U false y1.ops y2.kids []) <;> rfl
   ·try rfl
  rw [e2]
  (repeat' (first | exact trivial | exact rfl | apply And.intro))
 ·rw [if_neg hk,if_neg hk1,if_neg hk2,if_neg hk3] at hd
  simp only [Z3Y,Z9H,if_neg hk,if_neg hk1,if_neg hk2,if_neg hk3,hd]
  (repeat' (first | exact trivial | exact rfl | apply And.intro))
theorem Zwx:Zuz:=by
 intro N e t _ hp hN
 simp only [Z3k,Z9e] at hp hN
 obtain ⟨k2,⟨p1,p2,d,p3⟩,p4,p5⟩:=hp
 have h1:=YB e
 have h2:=Ys e.kids
 have h3:=ZoC t
 have h4:=Zs t.kids
 have r2:=Z6v p2
 have rt:=ZnF p5
 have ri:=Zt p3
 refine Zy8 _ _ _ _ ?_
 (simp only [vcT,vcS])
 have no:Z9G false e t=none->Yy cfg Try.f107.ntmps Try.f107.results.toList (Z3f (e,t,())) [] .ret (⟨[(4,.ptr (.loc 4) 0),(5,.c (.bool false))],[((.loc 4),[.int .i64 0,.nils,.nils])],[]⟩:LSt U):=by
  intro hs
  simp only [Z3f,hs]
  (repeat' (first | exact trivial | exact rfl | apply And.intro))
 refine ⟨fun hk=> no (by unfold Z9G;rw [if_neg hk]),fun hk=> ?_⟩
 have hk:t.kind=1:=by simpa using hk
 refine ⟨by simp only [Zgm];omega,by simp only [Zbz];omega,?_⟩
 refine Z9 (ι:=Int × List Int) (fun s=> Z58 e t s.1 s.2) (fun s=> 0<=s.1/\s.1<=e.words.length/\wsD t.words (e.words.drop s.1.toNat) s.2=wsD t.words e.words t.words/\s.2.length<=t.words.length+65536) (fun s=> ((e.words.length:Int) - s.1).toNat) (0,t.words) rfl ⟨by simp,by simp,by simp,by simp⟩ ?_
 rintro ⟨i,out⟩ ⟨f1,f2,f3,f4⟩
 dsimp only at f1 f2 f3 f4
 refine Znn _ _ _ _ _ _ _ ?_
 rintro y1 hy1 y2 hy2
 subst hy1
 (simp only [vcT,vcS])
 refine ⟨fun hi=> ?_,fun hi=> ?_⟩
 ·have hmem:=Zh (l:=e.words) (i:=i.toNat) (by omega) (WEdit.mk 0 0 0 0)
  rw [Yn f1 hi (WEdit.mk 0 0 0 0),<-hy2] at f3
  rw [<-hy2] at hmem
  have hw:=JX ri.words y2 hmem
  obtain ⟨g1,g2,g3,g4⟩:=r2.2.2.2.1 y2 hmem
  have hat:Jg y1 y2.at_=y1.words.getD y2.at_.toNat 0:=ZhA y1 (by omega)
  have hwi:=ZqD rt.2.1 y2.at_.toNat
  rw [wsD] at f3
  rw [hat]
  unfold isW at g3 g4 hwi
  refine ⟨⟨f1,hi⟩,by simp only [Z8c],by simp only [ZeL];omega,fun hne=> no ?_,fun heq=> ?_⟩
  ·rw [if_neg hne] at f3
   unfold Z9G
   rw [if_pos hk,<-f3]
   try rfl
  ·have heq:mix 0 (y1.words.getD y2.at_.toNat 0) y2.mask=y2.old:=by simpa using heq
   rw [if_pos heq] at f3
   refine Z9 (ι:=List Int) (fun s=> Z57 e y1 i s) (fun s=> (∀ v,Jj 0 s y2.at_.toNat v=Jj 0 out y2.at_.toNat v)/\s.length<=y1.words.length+65536) (fun s=> (y2.at_+1 - s.length).toNat) out rfl ⟨fun v=> rfl,f4⟩ ?_
   rintro s ⟨q1,q2⟩
   refine Znm _ _ _ _ _ _ _ _ ?_
   (simp only [Tree.eta,Edit.eta,Tree.kind_mk,Tree.words_mk,Tree.kids_mk])
   rw [<-hy2,hat]
   (simp only [vcT,vcS])
   refine ⟨fun hl=> ⟨by simp;omega,s++[0],rfl,⟨fun v=> ?_,by simp;omega⟩,by simp;omega⟩,fun hl=> ?_⟩
   ·rw [Z8T 0 (by omega),q1]
   ·have hl:y2.at_ < s.length:=by omega
    refine ⟨by simp only [ZeL];omega,by omega,by omega,by unfold InR;omega,(i+1,s.set y2.at_.toNat (mix (y1.words.getD y2.at_.toNat 0) y2.new y2.mask)),rfl,⟨by dsimp only;omega,by dsimp only;omega,?_,by simp only [List.length_set];omega⟩,by dsimp only;omega⟩
    dsimp only
    rw [<-f3,<-ZcX 0 (by omega),q1]
 ·rw [Qg (by omega),wsD] at f3
  refine Z9 (ι:=Int × List Tree) (fun s=> Z56 e y1 out s.1 s.2) (fun s=> 0<=s.1/\s.1<=e.kids.length/\Z9M false y1.kids (e.kids.drop s.1.toNat) s.2=Z9M false y1.kids e.kids y1.kids/\s.2.length<=y1.kids.length+65536) (fun s=> ((e.kids.length:Int) - s.1).toNat) (0,y1.kids) rfl ⟨by simp,by simp,by simp,by simp⟩ ?_
  rintro ⟨j,ks⟩ ⟨e1,e2,e3,e4⟩
  dsimp only at e1 e2 e3 e4
  refine Znl _ _ _ _ _ _ _ _ ?_
  rintro y1 hy1 y2 hy2 y3 hy3 y4 hy4
  subst hy1
  (simp only [vcT,vcS])
  refine ⟨fun hj=> ?_,fun hj=> ?_⟩
  ·have hmem:=Zh (l:=e.kids) (i:=j.toNat) (by omega) (KidOf.mk 0 Edit.nil)
   rw [Yn e1 hj (KidOf.mk 0 Edit.nil),<-hy2] at e3
   rw [<-hy2] at hmem
   have hk2:=Zz ri.kids y2 hmem
   have hm:=J6 hmem
   have hct:=Zcr hmem
   have hca:=Z4s e
   have hr:=(YT r2.2.2.2.2.2.1 hmem).2
   have hat:Jt y1 y2.at_=y1.kids.getD y2.at_.toNat Tree.nil:=Zmr y1 (by omega)
   rw [hat] at hy4
   have hm4:=ZgR y1.kids y2.at_.toNat
   have hr4:=Zjq rt.2.2 y2.at_.toNat
   rw [Z9M,ZpP,<-hy4,<-hy3] at e3
   rw [<-hy4] at hm4 hr4
   rw [<-hy3] at hm hr hk2 hct
   refine ⟨⟨e1,hj⟩,by simp only [Z8c],by simp only [Z2B];exact ⟨⟨by omega,hr,_,hk2.2⟩,by omega,hr4⟩,by simp only [ZcF];omega,fun hne=> no ?_,fun heq=> ?_⟩
   ·have hne:doE false y3 y4=none:=by simpa using hne
    rw [hne] at e3
    unfold Z9G
    rw [if_pos hk,<-f3,<-e3]
    try rfl
   ·obtain ⟨u,hu⟩:=QR.1 heq
    rw [hu,X9] at e3
    refine Z9 (ι:=List Tree) (fun s=> Z55 e y1 out j s) (fun s=> (∀ v,Jj Tree.nil s y2.at_.toNat v=Jj Tree.nil ks y2.at_.toNat v)/\s.length<=y1.kids.length+65536) (fun s=> (y2.at_+1 - s.length).toNat) ks rfl ⟨fun v=> rfl,e4⟩ ?_
    rintro s ⟨q1,q2⟩
    refine Znk _ _ _ _ _ _ _ _ _ ?_
    rintro z1 hz1 z2 hz2 z3 hz3 z4 hz4 z5 hz5
    rw [<-hy2] at hz2
    subst hz1 hz2
    rw [<-hy3] at hz3
    subst hz3
    rw [hat,<-hy4] at hz4
    subst hz4
    rw [Z8i hu] at hz5
    subst hz5
    (simp only [vcT,vcS])
    refine ⟨fun hl=> ⟨by simp;omega,s++[Tree.nil],rfl,⟨fun v=> ?_,by simp;omega⟩,by simp;omega⟩,fun hl=> ?_⟩
    ·rw [Z8T Tree.nil (by omega),q1]
    ·have hl:z2.at_ < s.length:=by omega
     refine ⟨by omega,by omega,by unfold InR;omega,(j+1,s.set z2.at_.toNat z5),rfl,⟨by dsimp only;omega,by dsimp only;omega,?_,by simp only [List.length_set];omega⟩,by dsimp only;omega⟩
     dsimp only
     rw [<-e3,<-ZcX Tree.nil (by omega),q1]
  ·rw [Qg (by omega),Z9M] at e3
   have hs:Z9G false e y1=some (.mk 1 out ks):=by
    unfold Z9G
    rw [if_pos hk,<-f3,<-e3]
    try rfl
   simp only [Z3f,hs]
   (repeat' (first | exact trivial | exact rfl | apply And.intro))
theorem ZmA(r:Bool)(o:Op)(s:List Op)(rest out:List Tree):Z2U r (o ::s) rest out=(ZpO r o rest out).bind fun x=> Z2U r s x.2 x.1:=by rw [Z2U]
theorem Z1i{ks:List Tree}(h:YU ks)(n:Nat):YU (ks.drop n):=by
 induction n generalizing ks with
 | zero=> exact h
 | succ n ih=> cases ks with
  | nil=> exact h
  | cons a r=> exact ih h.2
theorem Zww:Zuy:=by
 intro N e t _ hp hN
 simp only [Z3j,Z9e] at hp hN
 obtain ⟨k3,⟨p1,p2,d,p3⟩,p4,p5⟩:=hp
 have h1:=YB e
 have h2:=ZV e.ops
 have h3:=ZoC t
 have h4:=Zs t.kids
 have r2:=Z6v p2
 have rt:=ZnF p5
 have ri:=Zt p3
 refine Zy7 _ _ _ _ ?_
 (simp only [vcT,vcS])
 have no:Z5n false e t=none->Yy cfg Try.f108.ntmps Try.f108.results.toList (Z3e (e,t,())) [] .ret (⟨[(4,.ptr (.loc 4) 0),(5,.c (.bool false))],[((.loc 4),[.int .i64 0,.nils,.nils])],[]⟩:LSt U):=by
  intro hs
  simp only [Z3e,hs]
  (repeat' (first | exact trivial | exact rfl | apply And.intro))
 refine ⟨fun hk=> no (by unfold Z5n;rw [if_neg hk]),fun hk=> ?_⟩
 have hk:t.kind=e.list:=by simpa using hk
 have hl0:Z5n false e t=Z2U false e.ops t.kids []:=by unfold Z5n;rw [if_pos hk]
 refine Z9 (ι:=Int × List Tree × List Tree) (fun s=> Z0t e t s.1 s.2.2 s.2.1)
  (fun s=> 0<=s.1/\s.1<=e.ops.length/\Z2U false (e.ops.drop s.1.toNat) s.2.2 s.2.1=Z5n false e t/\s.2.1.length+s.2.2.length+Zd (e.ops.drop s.1.toNat)<=t.kids.length+Zd e.ops/\Z6 s.2.2<=Z6 t.kids/\YU s.2.2)
  (fun s=> ((e.ops.length:Int) - s.1).toNat) (0,[],t.kids) rfl ⟨by simp,by simp,by simp [hl0],by simp,by simp,rt.2.2⟩ ?_
 rintro ⟨i,out,rest⟩ ⟨f1,f2,f3,f4,f5,f6⟩
 dsimp only at f1 f2 f3 f4 f5 f6
 refine Zni _ _ _ _ _ _ _ _ ?_
 rintro y1 hy1
 (simp only [vcT,vcS])
 refine ⟨fun hi=> ?_,fun hi=> ?_⟩
 ·have hmem:=Zh (l:=e.ops) (i:=i.toNat) (by omega) Op.nil
  rw [Yn f1 hi Op.nil,<-hy1] at f3 f4
  rw [<-hy1] at hmem
  have hr:=Go.AM.rightOs_mem ri.ops y1 hmem
  have hm:=ZU hmem
  have hct:=Zcq hmem
  have hca:=Z4s e
  have hme:=ZI y1
  have hro:=Z14 (Z1h r2.2.2.2.2.2.2 hmem)
  have hml:=Zs y1.l
  simp only [Zd] at f4
  rw [ZmA,ZsO] at f3
  have go:∀ (x:List Tree) (m:List Tree) (v:V U) N0 Q',Z2U false (e.ops.drop (i+1).toNat) x m=Z5n false e t->m.length+x.length+Zd (e.ops.drop (i+1).toNat)<=t.kids.length+Zd e.ops->Z6 x<=Z6 t.kids->YU x->
    (∀ s2,s2=Z0t e t (i+1) x m->N0 s2)->Z8M N [1,1,1,1,0,1,0,0,1,1,1] (Z1u e t i x m v) (AExit.then N0 (AExit.inBlock 0 (ZfJ N [1,1,1,1,1] Q'))):=by
   intro x m v N0 Q' a1 a2 a3 a4 a5
   exact Znj _ _ _ _ _ _ _ _ _ ⟨by unfold InR;omega,a5 _ rfl⟩
  have fin:∀ (x m:List Tree),Z2U false (e.ops.drop (i+1).toNat) x m=Z5n false e t->m.length+x.length+Zd (e.ops.drop (i+1).toNat)<=t.kids.length+Zd e.ops->Z6 x<=Z6 t.kids->YU x->∀ s2,s2=Z0t e t (i+1) x m->
    ∃ j:Int × List Tree × List Tree,s2=Z0t e t j.1 j.2.2 j.2.1/\(0<=j.1/\j.1<=e.ops.length/\Z2U false (e.ops.drop j.1.toNat) j.2.2 j.2.1=Z5n false e t/\j.2.1.length+j.2.2.length+Zd (e.ops.drop j.1.toNat)<=t.kids.length+Zd e.ops/\Z6 j.2.2<=Z6 t.kids/\YU j.2.2)/\((e.ops.length:Int) - j.1).toNat < ((e.ops.length:Int) - i).toNat:=by
   rintro x m a1 a2 a3 a4 _ rfl
   exact ⟨(i+1,m,x),rfl,⟨by dsimp only;omega,by dsimp only;omega,a1,a2,a3,a4⟩,by dsimp only;omega⟩
  have r1:=Jl hr
  have ht:∀ n:Nat,(rest.take n).length<=rest.length/\(rest.take n).length+(rest.drop n).length=rest.length:=by
   intro n
   simp only [Qk,QZ];omega
  refine ⟨⟨f1,hi⟩,fun hk2=> ⟨by omega,?_⟩,fun hk2=> ⟨fun hk1=> ?_,fun hk1=> ⟨fun hk3=> ?_,fun hk3=> ?_⟩⟩⟩
  ·rw [if_neg (by omega),if_neg (by omega),if_pos hk2,X9] at f3
   exact go _ _ _ _ _ f3 (by simp only [Q6];omega) f5 f6 (fin _ _ f3 (by simp only [Q6];omega) f5 f6)
  ·refine Zax _ _ _ _ _ _ _ _ _ _ ?_
   rintro z1 hz1 z2 hz2 z3 hz3 z4 hz4 z5 hz5 z6 hz6
   rw [<-hy1] at hz1
   subst hz1
   rw [if_neg (by omega),if_pos hk1] at f3
   (simp only [vcT,vcS])
   rw [X2] at hz5
   rw [X2]
   refine ⟨fun hs=> no ?_,fun hs=> ⟨by omega,by omega,fun h=> by omega,fun _=> ⟨fun _=> ⟨?_,fun hq=> no ?_,fun hq=> ?_⟩,fun h=> absurd hk1 h⟩⟩⟩
   ·have:Z9w z1.l rest=false:=by unfold Z9w;rw [decide_eq_false (by omega)];try rfl
    rw [this,if_neg (by simp)] at f3
    exact f3.symm
   ·have:=ZbZ z1.l.length rest
    simp only [Z5N];omega
   ·have:Z9w z1.l rest=false:=by unfold Z9w;rw [<-hz5,hq];simp
    rw [this,if_neg (by simp)] at f3
    exact f3.symm
   ·have:Z9w z1.l rest=true:=by unfold Z9w;rw [<-hz5,hq,decide_eq_true (by omega)];try rfl
    rw [this,if_pos rfl,X9] at f3
    have hd:=Z1I z1.l.length rest
    have ht1:=ht z1.l.length
    exact go _ _ _ _ _ f3 (by omega) (by omega) (Z1i f6 _) (fin _ _ f3 (by omega) (by omega) (Z1i f6 _))
  ·refine Zax _ _ _ _ _ _ _ _ _ _ ?_
   rintro z1 hz1 z2 hz2 z3 hz3 z4 hz4 z5 hz5 z6 hz6
   rw [<-hy1] at hz1
   subst hz1
   rw [if_neg (by omega),if_neg hk1,if_neg hk2] at f3
   (simp only [vcT,vcS])
   rw [show Int.toNat 1=1 from rfl]
   refine ⟨fun hs=> no ?_,fun hs=> ⟨by omega,by omega,fun h=> by omega,fun _=> ⟨fun h=> absurd h hk1,fun _=> ?_⟩⟩⟩
   ·rw [if_pos (by omega)] at f3
    exact f3.symm
   ·have hz:z3=rest.getD 0 Tree.nil:=by
     rw [hz3,hz2]
     cases rest with
     | nil=> rfl
     | cons a r=> rfl
    rw [if_neg (by omega),<-hz,<-hz4] at f3
    have hm3:=ZgR rest 0
    have hr3:=Zjq f6 0
    rw [<-hz] at hm3 hr3
    have hre:=J2 hr hk3
    rw [<-hz4] at hre hme hro hct
    refine ⟨?_,by simp only [Z2B];exact ⟨⟨by omega,hro.2.2.2,_,hre⟩,by omega,hr3⟩,by simp only [ZcF];omega,fun hne=> no ?_,fun heq=> ?_⟩
    ·simp only [Qk];omega
    ·have hne:doE false z4 z3=none:=by simpa using hne
     rw [hne] at f3
     exact f3.symm
    ·obtain ⟨u,hu⟩:=QR.1 heq
     rw [Z8i hu] at hz6
     subst hz6
     rw [hu,Q8,X9] at f3
     have hd:=Z1I 1 rest
     have ht1:=ht 1
     have ht2:(rest.take 1).length=1:=by simp only [Qk];omega
     refine ⟨by simp only [QO];omega,?_⟩
     exact go _ _ _ _ _ f3 (by simp only [Q6,QO];omega) (by omega) (Z1i f6 _) (fin _ _ f3 (by simp only [Q6,QO];omega) (by omega) (Z1i f6 _))
  ·have hk0:y1.kind=0:=by cases r1 <;> first | rfl | (exfalso;simp at hk1 hk2 hk3)
   refine Zax _ _ _ _ _ _ _ _ _ _ ?_
   rintro z1 hz1 z2 hz2 z3 hz3 z4 hz4 z5 hz5 z6 hz6
   rw [<-hy1] at hz1
   subst hz1
   rw [if_pos hk0] at f3
   have hn:1<=z1.n/\z1.n<=1048576:=by cases r1 <;> first | (constructor <;> assumption) | (exfalso;simp at hk1 hk2 hk3 hk0)
   (simp only [vcT,vcS])
   refine ⟨fun hs=> no ?_,fun hs=> ⟨by omega,by omega,fun _=> ⟨?_,?_⟩,fun h=> absurd hk0 h⟩⟩
   ·rw [if_neg (by omega)] at f3
    exact f3.symm
   ·have:=(ht z1.n.toNat).1
    omega
   ·rw [if_pos (by omega),X9] at f3
    have hd:=Z1I z1.n.toNat rest
    have ht1:=ht z1.n.toNat
    exact go _ _ _ _ _ f3 (by simp only [Q6];omega) (by omega) (Z1i f6 _) (fin _ _ f3 (by simp only [Q6];omega) (by omega) (Z1i f6 _))
 ·rw [Qg (by omega),Z2U] at f3
  simp only [Z3e,<-f3,Zpd,Zcl,X9,hk]
  by_cases hr:rest.length=0
  ·rw [if_pos hr,hr]
   (repeat' (first | exact trivial | exact rfl | apply And.intro))
  ·rw [if_neg hr,show ((rest.length:Int)==0)=false by rw [beq_eq_false_iff_ne];omega]
   (repeat' (first | exact trivial | exact rfl | apply And.intro))
theorem ZzF:Contract Try.prog cfg 70 Z7X/\Contract Try.prog cfg 107 Zjl/\Contract Try.prog cfg 108 Zjk:=ZrE Z9N ZmH c91 Zfm Zwh c66 ZpX b70 Zwx Zww
theorem c70:Contract Try.prog cfg 70 Z7X:=ZzF.1
theorem Zhi{r:Bool}{e:Edit}{t u:Tree}(hr:∃ d,Z8 e d=true)(ht:Zm t+ctE e<=200000000000)(h:doE r e t=some u):Zm u<=1000000000000:=by
 obtain ⟨d,hr⟩:=hr
 have:=ZrC r e d t u hr h
 omega
theorem c26:Contract Try.prog cfg 26 Z3P:=by
 refine Zvu c71 c70 ?_
 intro e t _ hp
 simp only [Z2B] at hp
 refine Zzx _ _ _ ?_
 rintro y1 hy1 y2 hy2 y3 hy3
 subst hy1 hy2
 (simp only [vcT,vcS])
 refine ⟨by simp only [Z2B];exact hp,fun hn=> ?_,fun hs=> ?_⟩
 ·have hn:doE false y1 y2=none:=by simpa using hn
  simp only [ZjA,hn]
  (repeat' (first | exact trivial | exact rfl | apply And.intro))
 ·obtain ⟨u,hu⟩:=QR.1 hs
  rw [Z8i hu] at hy3
  subst hy3
  have:=Zhi hp.1.2.2 hp.2.1 hu
  refine ⟨by simp only [Z1F];exact this,?_⟩
  simp only [ZjA,hu]
  (repeat' (first | exact trivial | exact rfl | apply And.intro))
noncomputable section
def Zaq:ArgM ((List Op × List Tree × List Tree × Unit) × Unit):=(.obj 0 (.cons (cWr .op 0 0) (.cons (Z2Y .tree 0 1) (.cons (Z2Y .tree 0 2) .nil))) .nil)
def Z0R(a:(List Op × List Tree × List Tree × Unit) × Unit):Prop:=(a.1.1).length<=200000000000/\(a.1.2.1).length<=200000000000/\(a.1.2.2.1).length<=200000000000
def Z87(a:(List Op × List Tree × List Tree × Unit) × Unit):V U:= .tup []
def Z4H(a:(List Op × List Tree × List Tree × Unit) × Unit):List (List (C U)):=[[.mref (.x 0 0),sU .tree ((Z0 (Wst.mk a.1.1 a.1.2.1 a.1.2.2.1)).gone) (.own (.x 0 1)),sU .tree ((Z0 (Wst.mk a.1.1 a.1.2.1 a.1.2.2.1)).brought) (.own (.x 0 2))]]
def Z4I(a:(List Op × List Tree × List Tree × Unit) × Unit):List (Tok × LC U):=[(.x 0 0,LC.mk (U:=U) .op ((Z0 (Wst.mk a.1.1 a.1.2.1 a.1.2.2.1)).out) 0)]
def Z13:Fs U:=ZcH Zaq (fun a=> [Z0R a]) Z87 Z4H Z4I
def Zas:ArgM ((List Op × List Tree × List Tree × Unit) × Int × Unit):=(.obj 0 (.cons (cWr .op 0 0) (.cons (Z2Y .tree 0 1) (.cons (Z2Y .tree 0 2) .nil))) (.cons (Jd .i64) .nil))
def Z3h(a:(List Op × List Tree × List Tree × Unit) × Int × Unit):Prop:=(a.1.1).length<=200000000000/\(a.1.2.1).length<=200000000000/\(a.1.2.2.1).length<=200000000000/\(∀ o∈a.1.1,0<=o.n/\o.n<=100000000000000000)/\0<=a.2.1/\a.2.1<=1048576
def ZhS(a:(List Op × List Tree × List Tree × Unit) × Int × Unit):V U:= .tup []
def Zef(a:(List Op × List Tree × List Tree × Unit) × Int × Unit):List (List (C U)):=[[.mref (.x 0 0),sU .tree ((ZL (Wst.mk a.1.1 a.1.2.1 a.1.2.2.1) a.2.1).gone) (.own (.x 0 1)),sU .tree ((ZL (Wst.mk a.1.1 a.1.2.1 a.1.2.2.1) a.2.1).brought) (.own (.x 0 2))]]
def Zeg(a:(List Op × List Tree × List Tree × Unit) × Int × Unit):List (Tok × LC U):=[(.x 0 0,LC.mk (U:=U) .op ((ZL (Wst.mk a.1.1 a.1.2.1 a.1.2.2.1) a.2.1).out) 0)]
def Z4z:Fs U:=ZcH Zas (fun a=> [Z3h a]) ZhS Zef Zeg
def Zar:ArgM ((List Op × List Tree × List Tree × Unit) × List Tree × Unit):=(.objAt 0 1 (.cons (cWr .op 0 0) (.cons (Z2Y .tree 0 1) (.cons (Z2Y .tree 0 2) .nil))) (.cons (aSl .tree) .nil))
def Z8d(a:(List Op × List Tree × List Tree × Unit) × List Tree × Unit):Prop:=(a.1.1).length<=200000000000/\(a.1.2.1).length<=200000000000/\(a.1.2.2.1).length<=200000000000/\Z6 a.2.1<=20000000000
def ZnV(a:(List Op × List Tree × List Tree × Unit) × List Tree × Unit):V U:= .tup []
def Zju(a:(List Op × List Tree × List Tree × Unit) × List Tree × Unit):List (List (C U)):=[[.mref (.x 0 0),sU .tree ((Wst.mk a.1.1 (a.1.2.1++Z5 a.2.1) a.1.2.2.1).gone) (.own (.x 0 1)),sU .tree ((Wst.mk a.1.1 (a.1.2.1++Z5 a.2.1) a.1.2.2.1).brought) (.own (.x 0 2))]]
def Zjv(a:(List Op × List Tree × List Tree × Unit) × List Tree × Unit):List (Tok × LC U):=[(.x 0 0,LC.mk (U:=U) .op ((Wst.mk a.1.1 (a.1.2.1++Z5 a.2.1) a.1.2.2.1).out) 0)]
def Ze2:Fs U:=ZcH Zar (fun a=> [Z8d a]) ZnV Zju Zjv
def Z7O:ArgM ((List Op × List Tree × List Tree × Unit) × List Tree × Unit):=(.objAt 0 2 (.cons (cWr .op 0 0) (.cons (Z2Y .tree 0 1) (.cons (Z2Y .tree 0 2) .nil))) (.cons (aSl .tree) .nil))
def Zga(a:(List Op × List Tree × List Tree × Unit) × List Tree × Unit):List (List (C U)):=[[.mref (.x 0 0),sU .tree ((Wst.mk a.1.1 a.1.2.1 (a.1.2.2.1++Z5 a.2.1)).gone) (.own (.x 0 1)),sU .tree ((Wst.mk a.1.1 a.1.2.1 (a.1.2.2.1++Z5 a.2.1)).brought) (.own (.x 0 2))]]
def Zgb(a:(List Op × List Tree × List Tree × Unit) × List Tree × Unit):List (Tok × LC U):=[(.x 0 0,LC.mk (U:=U) .op ((Wst.mk a.1.1 a.1.2.1 (a.1.2.2.1++Z5 a.2.1)).out) 0)]
def Zb4:Fs U:=ZcH Z7O (fun a=> [Z8d a]) ZnV Zga Zgb
def Zhq:ArgL (Int × Edit × Unit):=(.cons (Jd .i64) (.cons (aEl .edit) .nil))
def Z4J(a:Int × Edit × Unit):Prop:=a.2.1.words.length<=20000000000/\a.2.1.kids.length<=20000000000
def ZjC(a:Int × Edit × Unit):V U:= .c (.bool (Z1O a.1 a.2.1))
def Z2t:Fs U:=fs Zhq (fun a=> [Z4J a]) ZjC
def Z6K(a:Int × Edit × Unit):Prop:=True
def Z2u:Fs U:=fs Zhq (fun a=> [Z6K a]) ZjC
def Zp6:Zf U:=fun i=> match i with
 | 0=> ([(0,[]),(7,[])],[(.x 0,[.wr .op])])
 | 1=> ([(0,[])],[(.x 0,[.wr .op])])
 | 2=> ([(0,[]),(28,[])],[(.x 0,[.wr .op])])
 | 3=> ([(0,[])],[(.x 0,[.wr .op])])
 | 4=> ([],[(.x 0,[.wr .op])])
 | _=> ([],[])
abbrev ZyJ(wo:List Op)(wg wb:List Tree)(Q:QT):=AW (Z1 Zix) Try.f129 Zp6 [] (⟨[(0,.ptr (.x 0) 0)],[(.x 0,[.mref (.x 0 0),sU .tree wg (.own (.x 0 1)),sU .tree wb (.own (.x 0 2))])],[(.x 0 0,LC.mk (U:=U) .op wo 0)]⟩:LSt U) Q
theorem ZxX(wo:List Op)(wg wb:List Tree)(Q:QT)(h:∀ y_1,y_1=(Edit.mk 0 (Tree.mk 0 [] []) (Tree.mk 0 [] []) [] [] 0 [])->∀ y_2,y_2=(List.set (wo++([(OpOf.mk 0 0 [] y_1:Op)])) (Int.toNat (wo.length:Int)) (OpOf.mk 1 0 wg y_1:Op))->((decide ((0:Int) < (wg.length:Int)))=true->((wo.length+([(OpOf.mk 0 0 [] y_1:Op)]).length)*240<=140737488355328)/\((0:Int)<=(wo.length:Int)/\(wo.length:Int) < ((wo++([(OpOf.mk 0 0 [] y_1:Op)])).length:Int))/\((0:Nat)<=(Int.toNat (wo.length:Int)))/\(((decide ((0:Int) < (wb.length:Int)))=true->((y_2.length+([(OpOf.mk 0 0 [] y_1:Op)]).length)*240<=140737488355328)/\((0:Int)<=(y_2.length:Int)/\(y_2.length:Int) < ((y_2++([(OpOf.mk 0 0 [] y_1:Op)])).length:Int))/\((0:Nat)<=(Int.toNat (y_2.length:Int)))/\(Q .normal (⟨[],[(.x 0,[.mref (.x 0 0),.nils,.nils])],[(.x 0 0,LC.mk (U:=U) .op (List.set (y_2++([(OpOf.mk 0 0 [] y_1:Op)])) (Int.toNat (y_2.length:Int)) (OpOf.mk 2 0 wb y_1:Op)) 0)]⟩:LSt U)))/\((decide ((0:Int) < (wb.length:Int)))=false->Q .normal (⟨[],[(.x 0,[.mref (.x 0 0),.nils,.nils])],[(.x 0 0,LC.mk (U:=U) .op y_2 0)]⟩:LSt U))))/\((decide ((0:Int) < (wg.length:Int)))=false->((decide ((0:Int) < (wb.length:Int)))=true->((wo.length+([(OpOf.mk 0 0 [] y_1:Op)]).length)*240<=140737488355328)/\((0:Int)<=(wo.length:Int)/\(wo.length:Int) < ((wo++([(OpOf.mk 0 0 [] y_1:Op)])).length:Int))/\((0:Nat)<=(Int.toNat (wo.length:Int)))/\(Q .normal (⟨[],[(.x 0,[.mref (.x 0 0),.nils,.nils])],[(.x 0 0,LC.mk (U:=U) .op (List.set (wo++([(OpOf.mk 0 0 [] y_1:Op)])) (Int.toNat (wo.length:Int)) (OpOf.mk 2 0 wb y_1:Op)) 0)]⟩:LSt U)))/\((decide ((0:Int) < (wb.length:Int)))=false->Q .normal (⟨[],[(.x 0,[.mref (.x 0 0),.nils,.nils])],[(.x 0 0,LC.mk (U:=U) .op wo 0)]⟩:LSt U)))):
  ZyJ wo wg wb Q:=by
 have e_:(ZyJ wo wg wb Q)=(let y_1:=(Edit.mk 0 (Tree.mk 0 [] []) (Tree.mk 0 [] []) [] [] 0 []);let y_2:=(List.set (wo++([(OpOf.mk 0 0 [] y_1:Op)])) (Int.toNat (wo.length:Int)) (OpOf.mk 1 0 wg y_1:Op));let zz0:=(decide ((0:Int) < (wb.length:Int)));(((decide ((0:Int) < (wg.length:Int)))=true->((wo.length+([(OpOf.mk 0 0 [] y_1:Op)]).length)*240<=140737488355328)/\((0:Int)<=(wo.length:Int)/\(wo.length:Int) < ((wo++([(OpOf.mk 0 0 [] y_1:Op)])).length:Int))/\((0:Nat)<=(Int.toNat (wo.length:Int)))/\((zz0=true->((y_2.length+([(OpOf.mk 0 0 [] y_1:Op)]).length)*240<=140737488355328)/\((0:Int)<=(y_2.length:Int)/\(y_2.length:Int) < ((y_2++([(OpOf.mk 0 0 [] y_1:Op)])).length:Int))/\((0:Nat)<=(Int.toNat (y_2.length:Int)))/\(Q .normal (⟨[],[(.x 0,[.mref (.x 0 0),.nils,.nils])],[(.x 0 0,LC.mk (U:=U) .op (List.set (y_2++([(OpOf.mk 0 0 [] y_1:Op)])) (Int.toNat (y_2.length:Int)) (OpOf.mk 2 0 wb y_1:Op)) 0)]⟩:LSt U)))/\(zz0=false->(Q .normal (⟨[],[(.x 0,[.mref (.x 0 0),.nils,.nils])],[(.x 0 0,LC.mk (U:=U) .op y_2 0)]⟩:LSt U)))))/\((decide ((0:Int) < (wg.length:Int)))=false->((zz0=true->((wo.length+([(OpOf.mk 0 0 [] y_1:Op)]).length)*240<=140737488355328)/\((0:Int)<=(wo.length:Int)/\(wo.length:Int) < ((wo++([(OpOf.mk 0 0 [] y_1:Op)])).length:Int))/\((0:Nat)<=(Int.toNat (wo.length:Int)))/\(Q .normal (⟨[],[(.x 0,[.mref (.x 0 0),.nils,.nils])],[(.x 0 0,LC.mk (U:=U) .op (List.set (wo++([(OpOf.mk 0 0 [] y_1:Op)])) (Int.toNat (wo.length:Int)) (OpOf.mk 2 0 wb y_1:Op)) 0)]⟩:LSt U)))/\(zz0=false->(Q .normal (⟨[],[(.x 0,[.mref (.x 0 0),.nils,.nils])],[(.x 0 0,LC.mk (U:=U) .op wo 0)]⟩:LSt U))))))):=by kernel_rfl
 exact e_.mpr (by intro y_1 y_2;have hh:=h y_1 rfl y_2 rfl;exact ⟨fun c_1=> ⟨(hh.1 c_1).1,(hh.1 c_1).2.1,(hh.1 c_1).2.2.1,⟨fun c_2=> ⟨((hh.1 c_1).2.2.2.1 c_2).1,((hh.1 c_1).2.2.2.1 c_2).2.1,((hh.1 c_1).2.2.2.1 c_2).2.2.1,((hh.1 c_1).2.2.2.1 c_2).2.2.2⟩,fun c_2=> ((hh.1 c_1).2.2.2.2 c_2)⟩⟩,fun c_1=> ⟨fun c_3=> ⟨((hh.2 c_1).1 c_3).1,((hh.2 c_1).1 c_3).2.1,((hh.2 c_1).1 c_3).2.2.1,((hh.2 c_1).1 c_3).2.2.2⟩,fun c_3=> ((hh.2 c_1).2 c_3)⟩⟩)
def Ztx(wo:List Op)(wg wb:List Tree):Prop:=AW (Z1 Zix) Try.f129 Zp6 [] (Jw (Zaq.can ((wo,wg,wb,()),())) (Zaq.canX ((wo,wg,wb,()),())) (Zaq.canL ((wo,wg,wb,()),()))) (JW cfg Try.f129.ntmps Try.f129.results.toList (Z87 ((wo,wg,wb,()),())) (Z4H ((wo,wg,wb,()),())) (Z4I ((wo,wg,wb,()),())))
theorem Zs9(hb:∀ (wo:List Op) (wg:List Tree) (wb:List Tree) (_:Unit),Z0R ((wo,wg,wb,()),())->Ztx wo wg wb):CT 129 Z13:=
 Yh (l:=[]) Zl rfl trivial Zp6 Try.func129 rfl rfl 1 (fun _=> rfl) (by decide) (fun ⟨⟨wo,wg,wb,_⟩,_⟩=> hb wo wg wb ())
def ZkF:List (FuncId × Fs U):=[(129,Z13)]
def Zp7:Zf U:=fun i=> match i with
 | 0=> ([(0,[]),(1,[])],[(.x 0,[.wr .op])])
 | 1=> ([(0,[]),(1,[]),(4,[])],[(.x 0,[.wr .op])])
 | 2=> ([(0,[]),(1,[]),(4,[]),(25,[])],[(.x 0,[.wr .op])])
 | 3=> ([],[(.x 0,[.wr .op])])
 | 4=> ([],[(.x 0,[.wr .op])])
 | _=> ([],[])
abbrev ZyL(wo:List Op)(wg wb:List Tree)(n:Int)(Q:QT):=AW (Z1 ZkF) Try.f126 Zp7 [] (⟨[(0,.ptr (.x 0) 0),pI 1 n],[(.x 0,[.mref (.x 0 0),sU .tree wg (.own (.x 0 1)),sU .tree wb (.own (.x 0 2))])],[(.x 0 0,LC.mk (U:=U) .op wo 0)]⟩:LSt U) Q
theorem ZxZ(wo:List Op)(wg wb:List Tree)(n:Int)(Q:QT)(h:∀ y_1,y_1=(Edit.mk 0 (Tree.mk 0 [] []) (Tree.mk 0 [] []) [] [] 0 [])->∀ y_2,y_2=(Int.toNat (((((Z0 (Wst.mk wo wg wb)).out).length:Int):Int) - 1))->∀ y_3,y_3=(List.getD ((Z0 (Wst.mk wo wg wb)).out) y_2 Op.nil)->∀ y_4,y_4=(y_3.e)->(Z0R ((wo,wg,wb,()),()))/\((InR (((((Z0 (Wst.mk wo wg wb)).out).length:Int):Int) - 1))/\(((decide ((0:Int)<=(((((Z0 (Wst.mk wo wg wb)).out).length:Int):Int) - 1)))=true->(0:Int)<=(((((Z0 (Wst.mk wo wg wb)).out).length:Int):Int) - 1)/\(((((Z0 (Wst.mk wo wg wb)).out).length:Int):Int) - 1) < (((Z0 (Wst.mk wo wg wb)).out).length:Int))/\(((bif (decide ((0:Int)<=(((((Z0 (Wst.mk wo wg wb)).out).length:Int):Int) - 1))) then (y_3.kind==0) else false)=true->((0:Int)<=(((((Z0 (Wst.mk wo wg wb)).out).length:Int):Int) - 1)/\(((((Z0 (Wst.mk wo wg wb)).out).length:Int):Int) - 1) < (((Z0 (Wst.mk wo wg wb)).out).length:Int))/\(InR (y_3.n+n))/\((0:Int)<=(((((Z0 (Wst.mk wo wg wb)).out).length:Int):Int) - 1)/\(((((Z0 (Wst.mk wo wg wb)).out).length:Int):Int) - 1) < (((Z0 (Wst.mk wo wg wb)).out).length:Int))/\((0:Nat)<=y_2)/\(Q .ret (⟨[],[(.x 0,[.mref (.x 0 0),sU .tree ((Z0 (Wst.mk wo wg wb)).gone) (.own (.x 0 1)),sU .tree ((Z0 (Wst.mk wo wg wb)).brought) (.own (.x 0 2))])],[(.x 0 0,LC.mk (U:=U) .op (List.set ((Z0 (Wst.mk wo wg wb)).out) y_2 (OpOf.mk y_3.kind (y_3.n+n) y_3.l y_4:Op)) 0)]⟩:LSt U)))/\((bif (decide ((0:Int)<=(((((Z0 (Wst.mk wo wg wb)).out).length:Int):Int) - 1))) then (y_3.kind==0) else false)=false->((((Z0 (Wst.mk wo wg wb)).out).length+([(OpOf.mk 0 0 [] y_1:Op)]).length)*240<=140737488355328)/\((0:Int)<=(((Z0 (Wst.mk wo wg wb)).out).length:Int)/\(((Z0 (Wst.mk wo wg wb)).out).length:Int) < ((((Z0 (Wst.mk wo wg wb)).out)++([(OpOf.mk 0 0 [] y_1:Op)])).length:Int))/\((0:Nat)<=(Int.toNat (((Z0 (Wst.mk wo wg wb)).out).length:Int)))/\(Q .normal (⟨[],[(.x 0,[.mref (.x 0 0),sU .tree ((Z0 (Wst.mk wo wg wb)).gone) (.own (.x 0 1)),sU .tree ((Z0 (Wst.mk wo wg wb)).brought) (.own (.x 0 2))])],[(.x 0 0,LC.mk (U:=U) .op (List.set (((Z0 (Wst.mk wo wg wb)).out)++([(OpOf.mk 0 0 [] y_1:Op)])) (Int.toNat (((Z0 (Wst.mk wo wg wb)).out).length:Int)) (OpOf.mk 0 n [] y_1:Op)) 0)]⟩:LSt U))))))):
  ZyL wo wg wb n Q:=by
 have e_:(ZyL wo wg wb n Q)=(let y_1:=(Edit.mk 0 (Tree.mk 0 [] []) (Tree.mk 0 [] []) [] [] 0 []);let y_2:=(Int.toNat (((((Z0 (Wst.mk wo wg wb)).out).length:Int):Int) - 1));let y_3:=(List.getD ((Z0 (Wst.mk wo wg wb)).out) y_2 Op.nil);let y_4:=(JD y_3.e);let zz0:=(decide ((0:Int)<=(((((Z0 (Wst.mk wo wg wb)).out).length:Int):Int) - 1)));(Z0R ((wo,wg,wb,()),()))/\((InR (((((Z0 (Wst.mk wo wg wb)).out).length:Int):Int) - 1))/\((Tr (zz0=true))/\(Tr (zz0=true))/\(Tr (zz0=true))/\(Tr (zz0=true))/\(Tr (zz0=true))/\(zz0=true->(0:Int)<=(((((Z0 (Wst.mk wo wg wb)).out).length:Int):Int) - 1)/\(((((Z0 (Wst.mk wo wg wb)).out).length:Int):Int) - 1) < (((Z0 (Wst.mk wo wg wb)).out).length:Int))/\(Tr (zz0=true))/\(Tr (zz0=true))/\(Tr (zz0=true))/\(Tr (zz0=true))/\(((bif zz0 then (y_3.kind==0) else false)=true->((0:Int)<=(((((Z0 (Wst.mk wo wg wb)).out).length:Int):Int) - 1)/\(((((Z0 (Wst.mk wo wg wb)).out).length:Int):Int) - 1) < (((Z0 (Wst.mk wo wg wb)).out).length:Int))/\(InR (y_3.n+n))/\((0:Int)<=(((((Z0 (Wst.mk wo wg wb)).out).length:Int):Int) - 1)/\(((((Z0 (Wst.mk wo wg wb)).out).length:Int):Int) - 1) < (((Z0 (Wst.mk wo wg wb)).out).length:Int))/\((0:Nat)<=y_2)/\(Q .ret (⟨[],[(.x 0,[.mref (.x 0 0),sU .tree ((Z0 (Wst.mk wo wg wb)).gone) (.own (.x 0 1)),sU .tree ((Z0 (Wst.mk wo wg wb)).brought) (.own (.x 0 2))])],[(.x 0 0,LC.mk (U:=U) .op (List.set ((Z0 (Wst.mk wo wg wb)).out) y_2 (OpOf.mk y_3.kind (y_3.n+n) y_3.l y_4:Op)) 0)]⟩:LSt U)))/\((bif zz0 then (y_3.kind==0) else false)=false->((((Z0 (Wst.mk wo wg wb)).out).length+([(OpOf.mk 0 0 [] y_1:Op)]).length)*240<=140737488355328)/\((0:Int)<=(((Z0 (Wst.mk wo wg wb)).out).length:Int)/\(((Z0 (Wst.mk wo wg wb)).out).length:Int) < ((((Z0 (Wst.mk wo wg wb)).out)++([(OpOf.mk 0 0 [] y_1:Op)])).length:Int))/\((0:Nat)<=(Int.toNat (((Z0 (Wst.mk wo wg wb)).out).length:Int)))/\(Q .normal (⟨[],[(.x 0,[.mref (.x 0 0),sU .tree ((Z0 (Wst.mk wo wg wb)).gone) (.own (.x 0 1)),sU .tree ((Z0 (Wst.mk wo wg wb)).brought) (.own (.x 0 2))])],[(.x 0 0,LC.mk (U:=U) .op (List.set (((Z0 (Wst.mk wo wg wb)).out)++([(OpOf.mk 0 0 [] y_1:Op)])) (Int.toNat (((Z0 (Wst.mk wo wg wb)).out).length:Int)) (OpOf.mk 0 n [] y_1:Op)) 0)]⟩:LSt U))))))):=by kernel_rfl
 exact e_.mpr (by intro y_1 y_2 y_3 y_4;have hh:=h y_1 rfl y_2 rfl y_3 rfl y_4 (Za _);exact ⟨hh.1,⟨hh.2.1,⟨id,id,id,id,id,hh.2.2.1,id,id,id,(by generalize (decide ((0:Int)<=(((((Z0 (Wst.mk wo wg wb)).out).length:Int):Int) - 1)))=b0;revert b0;decide),⟨fun c_4=> ⟨(hh.2.2.2.1 c_4).1,(hh.2.2.2.1 c_4).2.1,(hh.2.2.2.1 c_4).2.2.1,(hh.2.2.2.1 c_4).2.2.2.1,(hh.2.2.2.1 c_4).2.2.2.2⟩,fun c_4=> ⟨(hh.2.2.2.2 c_4).1,(hh.2.2.2.2 c_4).2.1,(hh.2.2.2.2 c_4).2.2.1,(hh.2.2.2.2 c_4).2.2.2⟩⟩⟩⟩⟩)
def Ztz(wo:List Op)(wg wb:List Tree)(n:Int):Prop:=AW (Z1 ZkF) Try.f126 Zp7 [] (Jw (Zas.can ((wo,wg,wb,()),n,())) (Zas.canX ((wo,wg,wb,()),n,())) (Zas.canL ((wo,wg,wb,()),n,()))) (JW cfg Try.f126.ntmps Try.f126.results.toList (ZhS ((wo,wg,wb,()),n,())) (Zef ((wo,wg,wb,()),n,())) (Zeg ((wo,wg,wb,()),n,())))
theorem Zsb(ZmI:CT 129 Z13)(hb:∀ (wo:List Op) (wg:List Tree) (wb:List Tree) (n:Int) (_:Unit),Z3h ((wo,wg,wb,()),n,())->Ztz wo wg wb n):CT 126 Z4z:=
 Yh (l:=[(129,Z13)]) Zl rfl (⟨ZmI,trivial⟩) Zp7 Try.func126 rfl rfl 2 (fun _=> rfl) (by decide) (fun ⟨⟨wo,wg,wb,_⟩,n,_⟩=> hb wo wg wb n ())
def Zai:List (FuncId × Fs U):=[(71,Z3b)]
def ZgX:Zf U:=fun i=> match i with
 | 0=> ([(0,[]),(6,[]),(7,[]),(8,[])],[(.x 0,[.wr .op])])
 | 1=> ([(0,[]),(6,[]),(7,[]),(8,[]),(9,[])],[(.x 0,[.wr .op])])
 | 2=> ([(0,[]),(5,[]),(6,[]),(7,[]),(8,[])],[(.loc 5,[]),(.x 0,[.wr .op])])
 | 3=> ([(0,[]),(6,[]),(7,[]),(8,[])],[(.x 0,[.wr .op])])
 | 4=> ([(0,[]),(6,[]),(7,[]),(8,[])],[(.x 0,[.wr .op])])
 | _=> ([],[])
def Z4Z(wo:List Op)(wg wb l:List Tree)(x8:Int)(mx0_1:List Tree):LSt U:=(⟨[(0,.ptr (.x 0) 1),(6,.c (sU .tree l .unk)),pI 7 (l.length:Int),pI 8 x8],[(.x 0,[.mref (.x 0 0),sU .tree mx0_1 (.own (.x 0 1)),sU .tree wb (.own (.x 0 2))])],[(.x 0 0,LC.mk (U:=U) .op wo 0)]⟩:LSt U)
abbrev ZyK(wo:List Op)(wg wb l:List Tree)(Q:QT):=AW (Z1 Zai) Try.f127 ZgX [] (⟨[(0,.ptr (.x 0) 1),(1,.c (sU .tree l .unk))],[(.x 0,[.mref (.x 0 0),sU .tree wg (.own (.x 0 1)),sU .tree wb (.own (.x 0 2))])],[(.x 0 0,LC.mk (U:=U) .op wo 0)]⟩:LSt U) Q
theorem ZxY(wo:List Op)(wg wb l:List Tree)(Q:QT)(h:Zi (AW (Z1 Zai) Try.f127 ZgX [1,0,0]) (Z4Z wo wg wb l 0 wg) (xB 0 Q)):
  ZyK wo wg wb l Q:=by
 have e_:(ZyK wo wg wb l Q)=(type_of% h):=by kernel_rfl
 exact e_.mpr h
abbrev Zlt(wo:List Op)(wg wb l:List Tree)(x8:Int)(mx0_1:List Tree)(N0:NT)(Q:QT):=AW (Z1 Zai) Try.f127 ZgX [1,0,0] (Z4Z wo wg wb l x8 mx0_1) (xT N0 (xB 0 Q))
theorem Znb(wo:List Op)(wg wb l:List Tree)(x8:Int)(mx0_1:List Tree)(N0:NT)(Q:QT)(h:((decide (x8 < (l.length:Int)))=true->((0:Int)<=x8/\x8 < (l.length:Int))/\((Z1F ((Tree.mk (Tree.kind (l.getD x8.toNat Tree.nil)) (Tree.words (l.getD x8.toNat Tree.nil)) (Tree.kids (l.getD x8.toNat Tree.nil))),()))/\((mx0_1.length+([(Tree.mk 0 [] [])]).length)*56<=140737488355328)/\((0:Int)<=(mx0_1.length:Int)/\(mx0_1.length:Int) < ((mx0_1++([(Tree.mk 0 [] [])])).length:Int))/\(mx0_1.length<=(Int.toNat (mx0_1.length:Int)))/\((InR (x8+1))/\(N0 (Z4Z wo wg wb l (x8+1) (List.set (mx0_1++([(Tree.mk 0 [] [])])) (Int.toNat (mx0_1.length:Int)) (Tree.mk (Tree.kind (Z4 (Tree.mk (Tree.kind (l.getD x8.toNat Tree.nil)) (Tree.words (l.getD x8.toNat Tree.nil)) (Tree.kids (l.getD x8.toNat Tree.nil))))) (Tree.words (Z4 (Tree.mk (Tree.kind (l.getD x8.toNat Tree.nil)) (Tree.words (l.getD x8.toNat Tree.nil)) (Tree.kids (l.getD x8.toNat Tree.nil))))) (Tree.kids (Z4 (Tree.mk (Tree.kind (l.getD x8.toNat Tree.nil)) (Tree.words (l.getD x8.toNat Tree.nil)) (Tree.kids (l.getD x8.toNat Tree.nil))))))))))))/\((decide (x8 < (l.length:Int)))=false->Q .normal (⟨[(0,.ptr (.x 0) 1),(6,.c (sU .tree l .unk)),pI 7 (l.length:Int),pI 8 x8,pB 9 (decide (x8 < (l.length:Int)))],[(.x 0,[.mref (.x 0 0),sU .tree mx0_1 (.own (.x 0 1)),sU .tree wb (.own (.x 0 2))])],[(.x 0 0,LC.mk (U:=U) .op wo 0)]⟩:LSt U))):
  Zlt wo wg wb l x8 mx0_1 N0 Q:=by
 have e_:(Zlt wo wg wb l x8 mx0_1 N0 Q)=(type_of% h):=by kernel_rfl
 exact e_.mpr ⟨fun c_5=> ⟨(h.1 c_5).1,⟨(h.1 c_5).2.1,(h.1 c_5).2.2.1,(h.1 c_5).2.2.2.1,(h.1 c_5).2.2.2.2.1,⟨(h.1 c_5).2.2.2.2.2.1,(h.1 c_5).2.2.2.2.2.2⟩⟩⟩,fun c_5=> (h.2 c_5)⟩
def Zty(wo:List Op)(wg wb l:List Tree):Prop:=AW (Z1 Zai) Try.f127 ZgX [] (Jw (Zar.can ((wo,wg,wb,()),l,())) (Zar.canX ((wo,wg,wb,()),l,())) (Zar.canL ((wo,wg,wb,()),l,()))) (JW cfg Try.f127.ntmps Try.f127.results.toList (ZnV ((wo,wg,wb,()),l,())) (Zju ((wo,wg,wb,()),l,())) (Zjv ((wo,wg,wb,()),l,())))
theorem Zsa(c71:CT 71 Z3b)(hb:∀ (wo:List Op) (wg:List Tree) (wb:List Tree) (l:List Tree) (_:Unit),Z8d ((wo,wg,wb,()),l,())->Zty wo wg wb l):CT 127 Ze2:=
 Yh (l:=[(71,Z3b)]) Zl rfl (⟨c71,trivial⟩) ZgX Try.func127 rfl rfl 2 (fun _=> rfl) (by decide) (fun ⟨⟨wo,wg,wb,_⟩,l,_⟩=> hb wo wg wb l ())
def Zc4:Zf U:=fun i=> match i with
 | 0=> ([(0,[]),(6,[]),(7,[]),(8,[])],[(.x 0,[.wr .op])])
 | 1=> ([(0,[]),(6,[]),(7,[]),(8,[]),(9,[])],[(.x 0,[.wr .op])])
 | 2=> ([(0,[]),(5,[]),(6,[]),(7,[]),(8,[])],[(.loc 5,[]),(.x 0,[.wr .op])])
 | 3=> ([(0,[]),(6,[]),(7,[]),(8,[])],[(.x 0,[.wr .op])])
 | 4=> ([(0,[]),(6,[]),(7,[]),(8,[])],[(.x 0,[.wr .op])])
 | _=> ([],[])
def Z3s(wo:List Op)(wg wb l:List Tree)(x8:Int)(mx0_2:List Tree):LSt U:=(⟨[(0,.ptr (.x 0) 2),(6,.c (sU .tree l .unk)),pI 7 (l.length:Int),pI 8 x8],[(.x 0,[.mref (.x 0 0),sU .tree wg (.own (.x 0 1)),sU .tree mx0_2 (.own (.x 0 2))])],[(.x 0 0,LC.mk (U:=U) .op wo 0)]⟩:LSt U)
abbrev Zuq(wo:List Op)(wg wb l:List Tree)(Q:QT):=AW (Z1 Zai) Try.f127 Zc4 [] (⟨[(0,.ptr (.x 0) 2),(1,.c (sU .tree l .unk))],[(.x 0,[.mref (.x 0 0),sU .tree wg (.own (.x 0 1)),sU .tree wb (.own (.x 0 2))])],[(.x 0 0,LC.mk (U:=U) .op wo 0)]⟩:LSt U) Q
theorem ZuC(wo:List Op)(wg wb l:List Tree)(Q:QT)(h:Zi (AW (Z1 Zai) Try.f127 Zc4 [1,0,0]) (Z3s wo wg wb l 0 wb) (xB 0 Q)):
  Zuq wo wg wb l Q:=by
 have e_:(Zuq wo wg wb l Q)=(type_of% h):=by kernel_rfl
 exact e_.mpr h
abbrev Zhw(wo:List Op)(wg wb l:List Tree)(x8:Int)(mx0_2:List Tree)(N0:NT)(Q:QT):=AW (Z1 Zai) Try.f127 Zc4 [1,0,0] (Z3s wo wg wb l x8 mx0_2) (xT N0 (xB 0 Q))
theorem ZlA(wo:List Op)(wg wb l:List Tree)(x8:Int)(mx0_2:List Tree)(N0:NT)(Q:QT)(h:((decide (x8 < (l.length:Int)))=true->((0:Int)<=x8/\x8 < (l.length:Int))/\((Z1F ((Tree.mk (Tree.kind (l.getD x8.toNat Tree.nil)) (Tree.words (l.getD x8.toNat Tree.nil)) (Tree.kids (l.getD x8.toNat Tree.nil))),()))/\((mx0_2.length+([(Tree.mk 0 [] [])]).length)*56<=140737488355328)/\((0:Int)<=(mx0_2.length:Int)/\(mx0_2.length:Int) < ((mx0_2++([(Tree.mk 0 [] [])])).length:Int))/\(mx0_2.length<=(Int.toNat (mx0_2.length:Int)))/\((InR (x8+1))/\(N0 (Z3s wo wg wb l (x8+1) (List.set (mx0_2++([(Tree.mk 0 [] [])])) (Int.toNat (mx0_2.length:Int)) (Tree.mk (Tree.kind (Z4 (Tree.mk (Tree.kind (l.getD x8.toNat Tree.nil)) (Tree.words (l.getD x8.toNat Tree.nil)) (Tree.kids (l.getD x8.toNat Tree.nil))))) (Tree.words (Z4 (Tree.mk (Tree.kind (l.getD x8.toNat Tree.nil)) (Tree.words (l.getD x8.toNat Tree.nil)) (Tree.kids (l.getD x8.toNat Tree.nil))))) (Tree.kids (Z4 (Tree.mk (Tree.kind (l.getD x8.toNat Tree.nil)) (Tree.words (l.getD x8.toNat Tree.nil)) (Tree.kids (l.getD x8.toNat Tree.nil))))))))))))/\((decide (x8 < (l.length:Int)))=false->Q .normal (⟨[(0,.ptr (.x 0) 2),(6,.c (sU .tree l .unk)),pI 7 (l.length:Int),pI 8 x8,pB 9 (decide (x8 < (l.length:Int)))],[(.x 0,[.mref (.x 0 0),sU .tree wg (.own (.x 0 1)),sU .tree mx0_2 (.own (.x 0 2))])],[(.x 0 0,LC.mk (U:=U) .op wo 0)]⟩:LSt U))):
  Zhw wo wg wb l x8 mx0_2 N0 Q:=by
 have e_:(Zhw wo wg wb l x8 mx0_2 N0 Q)=(type_of% h):=by kernel_rfl
 exact e_.mpr ⟨fun c_6=> ⟨(h.1 c_6).1,⟨(h.1 c_6).2.1,(h.1 c_6).2.2.1,(h.1 c_6).2.2.2.1,(h.1 c_6).2.2.2.2.1,⟨(h.1 c_6).2.2.2.2.2.1,(h.1 c_6).2.2.2.2.2.2⟩⟩⟩,fun c_6=> (h.2 c_6)⟩
def Zqx(wo:List Op)(wg wb l:List Tree):Prop:=AW (Z1 Zai) Try.f127 Zc4 [] (Jw (Z7O.can ((wo,wg,wb,()),l,())) (Z7O.canX ((wo,wg,wb,()),l,())) (Z7O.canL ((wo,wg,wb,()),l,()))) (JW cfg Try.f127.ntmps Try.f127.results.toList (ZnV ((wo,wg,wb,()),l,())) (Zga ((wo,wg,wb,()),l,())) (Zgb ((wo,wg,wb,()),l,())))
theorem ZoE(c71:CT 71 Z3b)(hb:∀ (wo:List Op) (wg:List Tree) (wb:List Tree) (l:List Tree) (_:Unit),Z8d ((wo,wg,wb,()),l,())->Zqx wo wg wb l):CT 127 Zb4:=
 Yh (l:=[(71,Z3b)]) Zl rfl (⟨c71,trivial⟩) Zc4 Try.func127 rfl rfl 2 (fun _=> rfl) (by decide) (fun ⟨⟨wo,wg,wb,_⟩,l,_⟩=> hb wo wg wb l ())
def Zik:Zf U:=lvl [([0,3],[3]),([4],[])]
abbrev Zup(list:Int)(e:Edit)(Q:QT):=AW (Z1 Zix) Try.f128 Zik [] (L2 [pI 0 list,(1,.agg (enc .edit e))] []) Q
theorem ZuB(list:Int)(e:Edit)(Q:QT)(h:(((!(e.kind==0)) && (bif (list==9) then (e.kind==2) else false))=true->InR (((e.words.length:Int):Int)+(e.kids.length:Int)))/\(Q .ret (L2 [(4,.c (.bool (bif (e.kind==0) then true else (bif (bif (list==9) then (e.kind==2) else false) then (((((e.words.length:Int):Int)+(e.kids.length:Int)):Int)==0) else false))))] []))):
  Zup list e Q:=by
 have e_:(Zup list e Q)=(let zz1:=(!(e.kind==0));let zz0:=(bif ((list:Int)==9) then (e.kind==2) else false);((Tr (zz1=true))/\(Tr (zz1=true))/\(Tr ((zz1 && ((list:Int)==9))=true))/\(Tr ((zz1 && ((list:Int)==9))=true))/\(zz1=true->(True->zz1=true))/\(zz1=true->(((list:Int)==9)=true->(zz1 && ((list:Int)==9))=true))/\(Tr (zz1=true))/\(Tr ((zz1 && zz0)=true))/\(Tr ((zz1 && zz0)=true))/\(Tr ((zz1 && zz0)=true))/\(Tr ((zz1 && zz0)=true))/\(Tr ((zz1 && zz0)=true))/\(Tr ((zz1 && zz0)=true))/\((zz1 && zz0)=true->InR ((e.words.length:Int)+(e.kids.length:Int)))/\(Tr ((zz1 && zz0)=true))/\(zz1=true->(True->zz1=true))/\(zz1=true->(zz0=true->(zz1 && zz0)=true))/\((e.kind==0)=false->zz1=true)/\(Q .ret (L2 [(4,.c (.bool (bif (e.kind==0) then true else (bif zz0 then ((((e.words.length:Int)+(e.kids.length:Int)):Int)==0) else false))))] [])))):=by kernel_rfl
 exact e_.mpr ⟨id,id,id,id,(by generalize ((e.kind:Int)==0)=b0;revert b0;decide),(by generalize ((e.kind:Int)==0)=b0;generalize ((list:Int)==9)=b1;revert b0 b1;decide),id,id,id,id,id,id,id,h.1,id,(by generalize ((e.kind:Int)==0)=b0;revert b0;decide),(by generalize ((e.kind:Int)==2)=b0;generalize ((e.kind:Int)==0)=b1;generalize ((list:Int)==9)=b2;revert b0 b1 b2;decide),(by generalize ((e.kind:Int)==0)=b0;revert b0;decide),h.2⟩
def Zqw(list:Int)(e:Edit):Prop:=AW (Z1 Zix) Try.f128 Zik [] (Zj (Zhq.can (list,e,())) []) (EQ Try.f128 (ZjC (list,e,())) [])
theorem ZoD(hb:∀ (list:Int) (e:Edit) (_:Unit),Z4J (list,e,())->Zqw list e):CT 128 Z2t:=
 Z3 (l:=[]) Zl rfl trivial Zik Try.func128 rfl rfl 2 (fun _=> rfl) (by decide) (fun ⟨list,e,_⟩=> hb list e ())
abbrev Zur(list:Int)(e:Edit)(Q:QT):=AW (Z1 Zix) Try.f111 Zik [] (L2 [pI 0 list,(1,.agg (enc .edit e))] []) Q
theorem ZuD(list:Int)(e:Edit)(Q:QT)(h:Q .ret (L2 [(4,.c (.bool (bif (e.kind==0) then true else (bif (bif (bif (e.kind==2) then (list==9) else false) then (((e.words.length:Int):Int)==0) else false) then (((e.kids.length:Int):Int)==0) else false))))] [])):
  Zur list e Q:=by
 have e_:(Zur list e Q)=(let zz2:=(bif (e.kind==2) then ((list:Int)==9) else false);let zz1:=(!(e.kind==0));let zz0:=(bif zz2 then ((e.words.length:Int)==0) else false);((Tr (zz1=true))/\(Tr (zz1=true))/\(Tr (zz1=true))/\(Tr ((zz1 && (e.kind==2))=true))/\(zz1=true->(True->zz1=true))/\(zz1=true->((e.kind==2)=true->(zz1 && (e.kind==2))=true))/\(Tr (zz1=true))/\(Tr ((zz1 && zz2)=true))/\(Tr ((zz1 && zz2)=true))/\(Tr ((zz1 && zz2)=true))/\(zz1=true->(True->zz1=true))/\(zz1=true->(zz2=true->(zz1 && zz2)=true))/\(Tr (zz1=true))/\(Tr ((zz1 && zz0)=true))/\(Tr ((zz1 && zz0)=true))/\(Tr ((zz1 && zz0)=true))/\(zz1=true->(True->zz1=true))/\(zz1=true->(zz0=true->(zz1 && zz0)=true))/\((e.kind==0)=false->zz1=true)/\(Q .ret (L2 [(4,.c (.bool (bif (e.kind==0) then true else (bif zz0 then ((e.kids.length:Int)==0) else false))))] [])))):=by kernel_rfl
 exact e_.mpr ⟨id,id,id,id,(by generalize ((e.kind:Int)==0)=b0;revert b0;decide),(by generalize ((e.kind:Int)==2)=b0;generalize ((e.kind:Int)==0)=b1;revert b0 b1;decide),id,id,id,id,(by generalize ((e.kind:Int)==0)=b0;revert b0;decide),(by generalize ((e.kind:Int)==2)=b0;generalize ((e.kind:Int)==0)=b1;generalize ((list:Int)==9)=b2;revert b0 b1 b2;decide),id,id,id,id,(by generalize ((e.kind:Int)==0)=b0;revert b0;decide),(by generalize (((e.words.length:Int):Int)==0)=b0;generalize ((e.kind:Int)==2)=b1;generalize ((e.kind:Int)==0)=b2;generalize ((list:Int)==9)=b3;revert b0 b1 b2 b3;decide),(by generalize ((e.kind:Int)==0)=b0;revert b0;decide),h⟩
def Zqy(list:Int)(e:Edit):Prop:=AW (Z1 Zix) Try.f111 Zik [] (Zj (Zhq.can (list,e,())) []) (EQ Try.f111 (ZjC (list,e,())) [])
theorem ZoF(hb:∀ (list:Int) (e:Edit) (_:Unit),Z6K (list,e,())->Zqy list e):CT 111 Z2u:=
 Z3 (l:=[]) Zl rfl trivial Zik Try.func111 rfl rfl 2 (fun _=> rfl) (by decide) (fun ⟨list,e,_⟩=> hb list e ())
end
theorem Z0F{α:Type}(l:List α)(z x:α):(l++[z]).set (Int.toNat (l.length:Int)) x=l++[x]:=by
 rw [X2,List.set_append_right _ _ (Qf _)]
 simp
theorem Z4j:∀ (F:List Op) (n:Int),Yk F n=if F.length≠0/\(F.getD (F.length - 1) Op.nil).kind=0 then F.set (F.length - 1) ⟨(F.getD (F.length - 1) Op.nil).kind,(F.getD (F.length - 1) Op.nil).n+n,(F.getD (F.length - 1) Op.nil).l,(F.getD (F.length - 1) Op.nil).e⟩ else F++[⟨0,n,[],Edit.nil⟩]
 | [],n=> by simp [Yk]
 | [o],n=> by simp [Yk]
 | o ::p ::r,n=> by
  have ih:=Z4j (p ::r) n
  have e:(o ::p ::r).length - 1=((p ::r).length - 1)+1:=by simp
  rw [Yk,ih,e]
  simp only [XI,List.set_cons_succ]
  by_cases h:(p ::r).length≠0/\((p ::r).getD ((p ::r).length - 1) Op.nil).kind=0
  ·rw [if_pos h,if_pos ⟨by simp,h.2⟩]
  ·have h':¬((p ::r).getD ((p ::r).length - 1) Op.nil).kind=0:=fun e=> h ⟨by simp,e⟩
   rw [if_neg h,if_neg (fun e=> h' e.2)]
   try rfl
theorem Z5c(s:Wst):(Z0 s).out.length<=s.out.length+2:=by
 simp only [Z0,Jv]
 split <;> split <;> simp
theorem Z5b(s:Wst):∀ o∈(Z0 s).out,o∈s.out\/o.n=0:=by
 intro o ho
 simp only [Z0,Jv,Qh] at ho
 rcases ho with h | h | h
 ·exact .inl h
 ·split at h
  ·cases h
  ·simp only [Qe] at h;subst h;exact .inr rfl
 ·split at h
  ·cases h
  ·simp only [Qe] at h;subst h;exact .inr rfl
theorem ZmI:Contract Try.prog cfg 129 Z13:=by
 refine Zs9 ?_
 intro wo wg wb _ hp
 simp only [Z0R] at hp
 refine ZxX wo wg wb _ ?_
 rintro y1 hy1 y2 hy2
 have hy:y1=Edit.nil:=hy1
 subst hy
 rw [Z0F] at hy2
 subst hy2
 (simp only [vcS])
 refine ⟨fun h1=> ⟨by simp;omega,by simp;omega,by omega,fun h2=> ⟨by simp;omega,by simp;omega,by omega,?_⟩,fun h2=> ?_⟩,fun h1=> ⟨fun h2=> ⟨by simp;omega,by simp;omega,by omega,?_⟩,fun h2=> ?_⟩⟩
 ·rw [Z0F]
  have e:Z0 ⟨wo,wg,wb⟩=⟨wo++[⟨1,0,wg,Edit.nil⟩]++[⟨2,0,wb,Edit.nil⟩],[],[]⟩:=by
   simp only [Z0,Jv];rw [if_neg (by omega),if_neg (by omega)];simp
  simp only [Z87,Z4H,Z4I,e]
  (repeat' (first | exact trivial | exact rfl | apply And.intro))
 ·have e:Z0 ⟨wo,wg,wb⟩=⟨wo++[⟨1,0,wg,Edit.nil⟩],[],[]⟩:=by
   simp only [Z0,Jv];rw [if_neg (by omega),if_pos (by omega)];simp
  simp only [Z87,Z4H,Z4I,e]
  (repeat' (first | exact trivial | exact rfl | apply And.intro))
 ·rw [Z0F]
  have e:Z0 ⟨wo,wg,wb⟩=⟨wo++[⟨2,0,wb,Edit.nil⟩],[],[]⟩:=by
   simp only [Z0,Jv];rw [if_pos (by omega),if_neg (by omega)];simp
  simp only [Z87,Z4H,Z4I,e]
  (repeat' (first | exact trivial | exact rfl | apply And.intro))
 ·have e:Z0 ⟨wo,wg,wb⟩=⟨wo,[],[]⟩:=by
   simp only [Z0,Jv];rw [if_pos (by omega),if_pos (by omega)];simp
  simp only [Z87,Z4H,Z4I,e]
  (repeat' (first | exact trivial | exact rfl | apply And.intro))
theorem Zwj:Contract Try.prog cfg 126 Z4z:=by
 refine Zsb ZmI ?_
 intro wo wg wb n _ hp
 simp only [Z3h] at hp
 obtain ⟨p1,p2,p3,p4,p5,p6⟩:=hp
 have hfl:=Z5c ⟨wo,wg,wb⟩
 have hfm:=Z5b ⟨wo,wg,wb⟩
 have hg:(Z0 ⟨wo,wg,wb⟩).gone=[]:=rfl
 have hb:(Z0 ⟨wo,wg,wb⟩).brought=[]:=rfl
 have hk:=Z4j (Z0 ⟨wo,wg,wb⟩).out n
 have hkw:ZL ⟨wo,wg,wb⟩ n=⟨Yk (Z0 ⟨wo,wg,wb⟩).out n,[],[]⟩:=rfl
 refine ZxZ wo wg wb n _ ?_
 simp only [hg,hb,ZhS,Zef,Zeg,hkw]
 generalize (Z0 ⟨wo,wg,wb⟩).out=F at*
 simp only at hfl hfm
 rintro y1 hy1 y2 hy2 y3 hy3 y4 hy4
 have hy:y1=Edit.nil:=hy1
 subst hy
 have e2:y2=F.length - 1:=by omega
 subst e2
 rw [<-hy3,<-hy4] at hk
 (simp only [vcS])
 refine ⟨by simp only [Z0R];exact ⟨p1,p2,p3⟩,by unfold InR;omega,fun h=> ⟨h,by omega⟩,fun h=> ?_,fun h=> ?_⟩
 ·have hy3n:0<=y3.n/\y3.n<=100000000000000000:=by
   have hm:y3∈F:=by rw [hy3];exact Zh (by omega) _
   rcases hfm y3 hm with h1 | h1
   ·exact p4 y3 h1
   ·omega
  rw [if_pos ⟨by omega,h.2⟩] at hk
  rw [hk]
  refine ⟨by omega,by unfold InR;omega,by omega,by omega,?_⟩
  (repeat' (first | exact trivial | exact rfl | apply And.intro))
 ·rw [if_neg (by omega)] at hk
  rw [hk,Z0F]
  refine ⟨by simp;omega,by simp;omega,by omega,?_⟩
  (repeat' (first | exact trivial | exact rfl | apply And.intro))
theorem ZzG:Contract Try.prog cfg 127 Ze2:=by
 refine Zsa c71 ?_
 intro wo wg wb l _ hp
 simp only [Z8d] at hp
 obtain ⟨p1,p2,p3,p4⟩:=hp
 have hl:=Zs l
 refine ZxY _ _ _ _ _ ?_
 refine Z9 (ι:=Int × List Tree) (fun s=> Z4Z wo wg wb l s.1 s.2) (fun s=> 0<=s.1/\s.1<=l.length/\s.2.length=wg.length+s.1/\s.2++Z5 (l.drop s.1.toNat)=wg++Z5 l) (fun s=> ((l.length:Int) - s.1).toNat) (0,wg) rfl ⟨by simp,by simp,by simp,by simp⟩ ?_
 rintro ⟨i,out⟩ ⟨h1,h2,h3,h4⟩
 dsimp only at h1 h2 h3 h4
 refine Znb _ _ _ _ _ _ _ _ ?_
 (simp only [vcS])
 (simp only [Tree.eta,Edit.eta,Tree.kind_mk,Tree.words_mk,Tree.kids_mk])
 refine ⟨fun hi=> ?_,fun hi=> ?_⟩
 ·have hm:=YX (Zh (l:=l) (i:=i.toNat) (by omega) Tree.nil)
  rw [Yn h1 hi Tree.nil] at h4
  simp only [Z5,QV] at h4
  rw [Z0F]
  refine ⟨⟨h1,hi⟩,by simp only [Z1F];omega,by simp;omega,by simp;omega,by omega,by unfold InR;omega,(i+1,out++[Z4 (l.getD i.toNat Tree.nil)]),rfl,⟨by dsimp only;omega,by dsimp only;omega,by simp;omega,?_⟩,by dsimp only;omega⟩
  simp only [Qd,Qo,Qu]
  exact h4
 ·rw [Qg (by omega)] at h4
  simp only [Z5,K6,QG] at h4
  rw [h4]
  (repeat' (first | exact trivial | exact rfl | apply And.intro))
theorem ZyD:Contract Try.prog cfg 127 Zb4:=by
 refine ZoE c71 ?_
 intro wo wg wb l _ hp
 simp only [Z8d] at hp
 obtain ⟨p1,p2,p3,p4⟩:=hp
 have hl:=Zs l
 refine ZuC _ _ _ _ _ ?_
 refine Z9 (ι:=Int × List Tree) (fun s=> Z3s wo wg wb l s.1 s.2) (fun s=> 0<=s.1/\s.1<=l.length/\s.2.length=wb.length+s.1/\s.2++Z5 (l.drop s.1.toNat)=wb++Z5 l) (fun s=> ((l.length:Int) - s.1).toNat) (0,wb) rfl ⟨by simp,by simp,by simp,by simp⟩ ?_
 rintro ⟨i,out⟩ ⟨h1,h2,h3,h4⟩
 dsimp only at h1 h2 h3 h4
 refine ZlA _ _ _ _ _ _ _ _ ?_
 (simp only [vcS])
 (simp only [Tree.eta,Edit.eta,Tree.kind_mk,Tree.words_mk,Tree.kids_mk])
 refine ⟨fun hi=> ?_,fun hi=> ?_⟩
 ·have hm:=YX (Zh (l:=l) (i:=i.toNat) (by omega) Tree.nil)
  rw [Yn h1 hi Tree.nil] at h4
  simp only [Z5,QV] at h4
  rw [Z0F]
  refine ⟨⟨h1,hi⟩,by simp only [Z1F];omega,by simp;omega,by simp;omega,by omega,by unfold InR;omega,(i+1,out++[Z4 (l.getD i.toNat Tree.nil)]),rfl,⟨by dsimp only;omega,by dsimp only;omega,by simp;omega,?_⟩,by dsimp only;omega⟩
  simp only [Qd,Qo,Qu]
  exact h4
 ·rw [Qg (by omega)] at h4
  simp only [Z5,K6,QG] at h4
  rw [h4]
  (repeat' (first | exact trivial | exact rfl | apply And.intro))
theorem ZpV:Contract Try.prog cfg 128 Z2t:=by
 refine ZoD ?_
 intro list e _ hp
 simp only [Z4J] at hp
 refine ZuB _ _ _ ?_
 refine ⟨fun _=> by unfold InR;dsimp only;omega,Zb rfl ?_⟩
 rw [Qx]
 simp only [Z1O]
 (simp only [vcS])
 omega
theorem ZpW:Contract Try.prog cfg 111 Z2u:=by
 refine ZoF ?_
 intro list e _ hp
 refine ZuD _ _ _ ?_
 refine Zb rfl ?_
 rw [Qx]
 simp only [Z1O]
 (simp only [vcS])
 omega
noncomputable def Z3Q:Fs U:=ZvP Ze2 Zb4
theorem ZpT:Contract Try.prog cfg 127 Z3Q:=Zhn ZzG ZyD
end Go.AM.Ytpjenobkibfpcaa
