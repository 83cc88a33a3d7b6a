import Derived.Test.YthokdjgpdonhgaaBD07
import Derived.Test.YthokdjgpdonhgaaQBb
import Derived.Test.YthokdjgpdonhgaaQD7
set_option linter.unusedSimpArgs false
set_option linter.unusedVariables false
namespace Go.AM.Ythokdjgpdonhgaa
open Go.AM Go.Proofs
noncomputable section
def Zbi(a:List Int × Unit):Prop:=a.1.length<=1000000000000
def ZgM(a:List Int × Unit):V U:= .c (sU .u64 (trim a.1) .unk)
def Z6R:Fs U:=fs ZjG (fun a=> [Zbi a]) ZgM
def Zf4:ArgL (Tree × Int × Unit):=(.cons (aEl .tree) (.cons (Zr .i64) .nil))
def Zcj(a:Tree × Int × Unit):Prop:=True
def Za1(a:Tree × Int × Unit):V U:= .c (.int .u64 (Z3a a.1 a.2.1))
def Z6n:Fs U:=fs Zf4 (fun a=> [Zcj a]) Za1
def Zd0:ArgL (Tree × Unit):=(.cons (aEl .tree) .nil)
def Z5I(a:Tree × Unit):Prop:=Zh a.1<=1000000000000
def ZfJ(a:Tree × Unit):Nat:=Zh a.1
def Z8V(a:Tree × Unit):V U:= .agg (enc .tree (Ze a.1))
def Z1K:Fs U:=fs Zd0 (fun a=> [Z5I a]) Z8V
def Zd1:ArgL (Tree × Tree × Unit):=(.cons (aEl .tree) (.cons (aEl .tree) .nil))
def Z40(a:Tree × Tree × Unit):Prop:=Zh a.1<=1000000000000
def ZfK(a:Tree × Tree × Unit):Nat:=Zh a.1
def Z8W(a:Tree × Tree × Unit):V U:= .c (.bool (JS a.1 a.2.1))
def Z75:Fs U:=fs Zd1 (fun a=> [Z40 a]) Z8W
def Z8v:Z6 U:=lvl [([0],[]),([0,3],[]),([0,3,16],[]),([0,3],[]),([0,3,4],[]),([2],[])]
def Z2i(l:List Int)(x3:Int):LSt U:=(L2 [(0,.c (sU .u64 l .unk)),pI 3 x3] [])
theorem Zsq(l:List Int)(Q:QT)(h:(Zk (AW (Z1 ZiK) Try.f80 Z8v [1,1,0,0,0]) (Z2i l (l.length:Int)) (xB 0 (SW (Z1 ZiK) Try.f80 Z8v [1,1,1] Q)))):
  AW (Z1 ZiK) Try.f80 Z8v [] (L2 [(0,.c (sU .u64 l .unk))] []) Q:=by
 have e:(AW (Z1 ZiK) Try.f80 Z8v [] (L2 [(0,.c (sU .u64 l .unk))] []) Q)=(type_of% h):=by kernel_rfl
 exact e.mpr h
theorem Zkq(l:List Int)(x3:Int)(N0:NT)(Q:QT)(h:((decide ((0:Int) < x3))=true->(decide ((0:Int) < x3))=true)/\((decide ((0:Int) < x3))=true->InR (x3 - 1))/\((decide ((0:Int) < x3))=true->(decide ((0:Int) < x3))=true)/\((decide ((0:Int) < x3))=true->(decide ((0:Int) < x3))=true)/\((decide ((0:Int) < x3))=true->0<=(x3 - 1)/\(x3 - 1) < (l.length:Int))/\((decide ((0:Int) < x3))=true->(decide ((0:Int) < x3))=true)/\((decide ((0:Int) < x3))=true->(decide ((0:Int) < x3))=true)/\((decide ((0:Int) < x3))=true->(decide ((0:Int) < x3))=true)/\(((bif (decide ((0:Int) < x3)) then (((List.getD l (Int.toNat (x3 - 1)) (0:Int)):Int)==0) else false)=true->(InR (x3 - 1))/\(N0 (Z2i l (x3 - 1))))/\((bif (decide ((0:Int) < x3)) then (((List.getD l (Int.toNat (x3 - 1)) (0:Int)):Int)==0) else false)=false->((0<=x3/\x3<=(l.length:Int))/\((([]:List Int).length+(List.take x3.toNat l).length)*8<=140737488355328)/\(Q .ret (L2 [(2,.c (sU .u64 (([]:List Int)++(List.take x3.toNat l)) (.own (.e 2 0))))] [])))))):
  AW (Z1 ZiK) Try.f80 Z8v [1,1,0,0,0] (Z2i l x3) (xT N0 (xB 0 (SW (Z1 ZiK) Try.f80 Z8v [1,1,1] Q))):=by
 have e:(AW (Z1 ZiK) Try.f80 Z8v [1,1,0,0,0] (Z2i l x3) (xT N0 (xB 0 (SW (Z1 ZiK) Try.f80 Z8v [1,1,1] Q))))=(type_of% h):=by kernel_rfl
 exact e.mpr h
def Zq9(l:List Int):Prop:=AW (Z1 ZiK) Try.f80 Z8v [] (Zb (ZjG.can (l,())) []) (EQ Try.f80 (ZgM (l,())) [])
theorem ZnT(hb:∀ (l:List Int) (_:Unit),Zbi (l,())->Zq9 l):CT 80 Z6R:=
 Z0 (l:=[]) Z9 rfl trivial Z8v Try.func80 rfl rfl 1 (fun _=> rfl) (by decide) (fun ⟨l,_⟩=> hb l ())
def Z8u:Z6 U:=lvl [([0,1],[]),([0,1,10],[]),([4],[]),([0,1,12,13],[]),([0,1,12,13,14],[]),([0,1,5,12,13],[]),([0,1,12,13,24],[]),([4],[]),([0,1,12,13],[]),([4],[])]
def Z2h(a b:List Int)(x13:Int):LSt U:=(L2 [(0,.c (sU .u64 a .unk)),(1,.c (sU .u64 b .unk)),pI 12 (a.length:Int),pI 13 x13] [])
theorem Zsp(a b:List Int)(Q:QT)(h:(((((a.length:Int):Int) !=(b.length:Int))=true->(Q .ret (L2 [pB 4 false] [])))/\((((a.length:Int):Int) !=(b.length:Int))=false->(Zk (AW (Z1 ZiK) Try.f81 Z8u [1,1,0,1,0,0]) (Z2h a b 0) (xB 0 (SW (Z1 ZiK) Try.f81 Z8u [1,1,1] Q)))))):
  AW (Z1 ZiK) Try.f81 Z8u [] (L2 [(0,.c (sU .u64 a .unk)),(1,.c (sU .u64 b .unk))] []) Q:=by
 have e:(AW (Z1 ZiK) Try.f81 Z8u [] (L2 [(0,.c (sU .u64 a .unk)),(1,.c (sU .u64 b .unk))] []) Q)=(type_of% h):=by kernel_rfl
 exact e.mpr h
theorem Zkp(a b:List Int)(x13:Int)(N0:NT)(Q:QT)(h:(((decide (x13 < (a.length:Int)))=true->((0<=x13/\x13 < (a.length:Int))/\(0<=x13/\x13 < (b.length:Int))/\(((((a.getD x13.toNat (0:Int)):Int) !=(b.getD x13.toNat (0:Int)))=true->(Q .ret (L2 [pB 4 false] [])))/\((((a.getD x13.toNat (0:Int)):Int) !=(b.getD x13.toNat (0:Int)))=false->(InR (x13+1))/\(N0 (Z2h a b (x13+1)))))))/\((decide (x13 < (a.length:Int)))=false->(Q .ret (L2 [pB 4 true] []))))):
  AW (Z1 ZiK) Try.f81 Z8u [1,1,0,1,0,0] (Z2h a b x13) (xT N0 (xB 0 (SW (Z1 ZiK) Try.f81 Z8u [1,1,1] Q))):=by
 have e:(AW (Z1 ZiK) Try.f81 Z8u [1,1,0,1,0,0] (Z2h a b x13) (xT N0 (xB 0 (SW (Z1 ZiK) Try.f81 Z8u [1,1,1] Q))))=(type_of% h):=by kernel_rfl
 exact e.mpr h
def Zq8(a b:List Int):Prop:=AW (Z1 ZiK) Try.f81 Z8u [] (Zb (ZjS.can (a,b,())) []) (EQ Try.f81 (ZmZ (a,b,())) [])
theorem ZnS(hb:∀ (a:List Int) (b:List Int) (_:Unit),Z5K (a,b,())->Zq8 a b):CT 81 Z09:=
 Z0 (l:=[]) Z9 rfl trivial Z8u Try.func81 rfl rfl 2 (fun _=> rfl) (by decide) (fun ⟨a,b,_⟩=> hb a b ())
def Zee:Z6 U:=lvl [([1,2],[2]),([1,2,13],[2]),([4],[]),([4],[])]
theorem Zru(t:Tree)(i:Int)(Q:QT)(h:(((!(decide (i < 0)))=true->(!(decide (i < 0)))=true)/\((!(decide (i < 0)))=true->(!(decide (i < 0)))=true)/\((!(decide (i < 0)))=true->(!(decide (i < 0)))=true)/\((!(decide (i < 0)))=true->(!(decide (i < 0)))=true)/\((decide (i < 0))=false->(!(decide (i < 0)))=true)/\(((bif (decide (i < 0)) then true else (decide (((t.words.length:Int):Int)<=i)))=true->(Q .ret (L2 [(4,.c (.int .u64 0))] [])))/\((bif (decide (i < 0)) then true else (decide (((t.words.length:Int):Int)<=i)))=false->(0<=i/\i < (t.words.length:Int))/\(Q .ret (L2 [(4,.c (.int .u64 (t.words.getD i.toNat (0:Int))))] [])))))):
  AW (Z1 ZiK) Try.f100 Zee [] (L2 [(0,.agg (enc .tree t)),pI 1 i] []) Q:=by
 have e:(AW (Z1 ZiK) Try.f100 Zee [] (L2 [(0,.agg (enc .tree t)),pI 1 i] []) Q)=(type_of% h):=by kernel_rfl
 exact e.mpr h
def ZmA(t:Tree)(i:Int):Prop:=AW (Z1 ZiK) Try.f100 Zee [] (Zb (Zf4.can (t,i,())) []) (EQ Try.f100 (Za1 (t,i,())) [])
theorem Zlz(hb:∀ (t:Tree) (i:Int) (_:Unit),Zcj (t,i,())->ZmA t i):CT 100 Z6n:=
 Z0 (l:=[]) Z9 rfl trivial Zee Try.func100 rfl rfl 2 (fun _=> rfl) (by decide) (fun ⟨t,i,_⟩=> hb t i ())
def Z1n(N:Nat):List (FuncId × Fs U):=(50,fs Zd0 (fun a=> [Z5I a,ZfJ a < N]) Z8V) ::[(80,Z6R)]
def Z8w:Z6 U:=fun i=> match i with
 | 0=> ([(1,[]),(2,[])],[(.loc 1,[]),(.loc 2,[])])
 | 1=> ([(1,[]),(2,[]),(10,[])],[(.loc 1,[]),(.loc 2,[])])
 | 2=> ([(2,[])],[(.loc 2,[])])
 | 3=> ([(1,[]),(2,[]),(3,[])],[(.loc 1,[]),(.loc 2,[])])
 | 4=> ([(1,[]),(2,[]),(3,[]),(4,[])],[(.loc 1,[]),(.loc 2,[])])
 | 5=> ([(1,[]),(2,[]),(3,[.own .tree]),(4,[]),(5,[])],[(.loc 1,[]),(.loc 2,[])])
 | 6=> ([(1,[]),(2,[]),(3,[]),(4,[]),(5,[]),(16,[])],[(.loc 1,[]),(.loc 2,[])])
 | 7=> ([(1,[]),(2,[]),(3,[.own .tree]),(4,[]),(5,[])],[(.loc 1,[]),(.loc 2,[])])
 | 8=> ([(1,[]),(2,[]),(3,[]),(4,[]),(5,[]),(6,[])],[(.loc 1,[]),(.loc 2,[]),(.loc 6,[])])
 | 9=> ([(1,[]),(2,[]),(3,[]),(4,[]),(5,[]),(6,[])],[(.loc 1,[]),(.loc 2,[]),(.loc 6,[])])
 | 10=> ([(1,[]),(2,[]),(3,[]),(4,[]),(5,[]),(31,[])],[(.loc 1,[]),(.loc 2,[])])
 | 11=> ([(1,[]),(2,[]),(3,[]),(4,[]),(5,[])],[(.loc 1,[]),(.loc 2,[])])
 | 12=> ([(1,[]),(2,[]),(3,[]),(4,[]),(36,[])],[(.loc 1,[]),(.loc 2,[])])
 | 13=> ([(2,[])],[(.loc 2,[])])
 | 14=> ([(1,[]),(2,[]),(3,[]),(7,[])],[(.loc 1,[]),(.loc 2,[])])
 | 15=> ([(1,[]),(2,[]),(3,[]),(7,[])],[(.loc 1,[]),(.loc 2,[])])
 | 16=> ([(2,[])],[(.loc 2,[])])
 | _=> ([],[])
def Z0T(t:Tree)(x4 x5:Int)(x3:List Tree):LSt U:=(L2 [pL 1,pL 2,(3,.c (sU .tree x3 (.own (.e 3 0)))),pI 4 x4,pI 5 x5] [(.loc 1,(enc .tree t)),(.loc 2,[ci 0,.nils,.nils])])
theorem ZsR(N:Nat)(t:Tree)(Q:QT)(h:(((t.kind==0)=true->(Q .ret (L2 [pL 2] [(.loc 2,[ci 0,.nils,.nils])])))/\((t.kind==0)=false->(Zk (AW (Z1 (Z1n N)) Try.f50 Z8w [1,1,1,1,0,1,0,0]) (Z0T t 0 0 []) (xB 0 (SW (Z1 (Z1n N)) Try.f50 Z8w [1,1,1,1,1] Q)))))):
  AW (Z1 (Z1n N)) Try.f50 Z8w [] (L2 [(0,.agg (enc .tree t))] []) Q:=by
 have e:(AW (Z1 (Z1n N)) Try.f50 Z8w [] (L2 [(0,.agg (enc .tree t))] []) Q)=(type_of% h):=by kernel_rfl
 exact e.mpr h
theorem ZkQ(N:Nat)(t:Tree)(x4 x5:Int)(x3:List Tree)(N0:NT)(Q:QT)(h:(((decide (x5 < (t.kids.length:Int)))=true->(0<=x5/\x5 < (t.kids.length:Int))/\(Z5I ((Tree.mk (Tree.kind (t.kids.getD x5.toNat Tree.nil)) (Tree.words (t.kids.getD x5.toNat Tree.nil)) (Tree.kids (t.kids.getD x5.toNat Tree.nil))),()))/\(ZfJ ((Tree.mk (Tree.kind (t.kids.getD x5.toNat Tree.nil)) (Tree.words (t.kids.getD x5.toNat Tree.nil)) (Tree.kids (t.kids.getD x5.toNat Tree.nil))),()) < N)/\(((x3.length+([(Tree.mk (Tree.kind (Ze (Tree.mk (Tree.kind (t.kids.getD x5.toNat Tree.nil)) (Tree.words (t.kids.getD x5.toNat Tree.nil)) (Tree.kids (t.kids.getD x5.toNat Tree.nil))))) (Tree.words (Ze (Tree.mk (Tree.kind (t.kids.getD x5.toNat Tree.nil)) (Tree.words (t.kids.getD x5.toNat Tree.nil)) (Tree.kids (t.kids.getD x5.toNat Tree.nil))))) (Tree.kids (Ze (Tree.mk (Tree.kind (t.kids.getD x5.toNat Tree.nil)) (Tree.words (t.kids.getD x5.toNat Tree.nil)) (Tree.kids (t.kids.getD x5.toNat Tree.nil))))))]).length)*56<=140737488355328)/\(((((Tree.kind (Ze (Tree.mk (Tree.kind (t.kids.getD x5.toNat Tree.nil)) (Tree.words (t.kids.getD x5.toNat Tree.nil)) (Tree.kids (t.kids.getD x5.toNat Tree.nil))))):Int) !=0)=true->(InR (x5+1))/\((InR (x5+1))/\(N0 (Z0T t (x5+1) (x5+1) (x3++([(Tree.mk (Tree.kind (Ze (Tree.mk (Tree.kind (t.kids.getD x5.toNat Tree.nil)) (Tree.words (t.kids.getD x5.toNat Tree.nil)) (Tree.kids (t.kids.getD x5.toNat Tree.nil))))) (Tree.words (Ze (Tree.mk (Tree.kind (t.kids.getD x5.toNat Tree.nil)) (Tree.words (t.kids.getD x5.toNat Tree.nil)) (Tree.kids (t.kids.getD x5.toNat Tree.nil))))) (Tree.kids (Ze (Tree.mk (Tree.kind (t.kids.getD x5.toNat Tree.nil)) (Tree.words (t.kids.getD x5.toNat Tree.nil)) (Tree.kids (t.kids.getD x5.toNat Tree.nil))))))]))))))/\((((Tree.kind (Ze (Tree.mk (Tree.kind (t.kids.getD x5.toNat Tree.nil)) (Tree.words (t.kids.getD x5.toNat Tree.nil)) (Tree.kids (t.kids.getD x5.toNat Tree.nil))))):Int) !=0)=false->(InR (x5+1))/\(N0 (Z0T t x4 (x5+1) (x3++([(Tree.mk (Tree.kind (Ze (Tree.mk (Tree.kind (t.kids.getD x5.toNat Tree.nil)) (Tree.words (t.kids.getD x5.toNat Tree.nil)) (Tree.kids (t.kids.getD x5.toNat Tree.nil))))) (Tree.words (Ze (Tree.mk (Tree.kind (t.kids.getD x5.toNat Tree.nil)) (Tree.words (t.kids.getD x5.toNat Tree.nil)) (Tree.kids (t.kids.getD x5.toNat Tree.nil))))) (Tree.kids (Ze (Tree.mk (Tree.kind (t.kids.getD x5.toNat Tree.nil)) (Tree.words (t.kids.getD x5.toNat Tree.nil)) (Tree.kids (t.kids.getD x5.toNat Tree.nil))))))]))))))))/\((decide (x5 < (t.kids.length:Int)))=false->(((t.kind==1)=true->(Zbi (t.words,()))/\(0<=x4/\x4<=(x3.length:Int))/\(Q .ret (L2 [pL 2] [(.loc 2,[ci 1,sU .u64 (trim t.words) .unk,sU .tree (List.take x4.toNat x3) .unk])])))/\((t.kind==1)=false->(((([]:List Int).length+t.words.length)*8<=140737488355328)/\(Q .ret (L2 [pL 2] [(.loc 2,[ci t.kind,sU .u64 (([]:List Int)++t.words) (.own (.l 2 1)),sU .tree x3 (.own (.l 2 2))])])))))))):
  AW (Z1 (Z1n N)) Try.f50 Z8w [1,1,1,1,0,1,0,0] (Z0T t x4 x5 x3) (xT N0 (xB 0 (SW (Z1 (Z1n N)) Try.f50 Z8w [1,1,1,1,1] Q))):=by
 have e:(AW (Z1 (Z1n N)) Try.f50 Z8w [1,1,1,1,0,1,0,0] (Z0T t x4 x5 x3) (xT N0 (xB 0 (SW (Z1 (Z1n N)) Try.f50 Z8w [1,1,1,1,1] Q))))=(type_of% h):=by kernel_rfl
 exact e.mpr h
def ZqA(N:Nat)(t:Tree):Prop:=AW (Z1 (Z1n N)) Try.f50 Z8w [] (Zb (Zd0.can (t,())) []) (EQ Try.f50 (Z8V (t,())) [])
theorem Zoh(c80:CT 80 Z6R)(hb:∀ (N:Nat) (t:Tree) (_:Unit),Z5I (t,())->ZfJ (t,()) < N+1->ZqA N t):CT 50 Z1K:=
 Yg (μ:=ZfJ) (l:=[(80,Z6R)]) Z9 rfl (⟨c80,trivial⟩) Z8w Try.func50 rfl rfl 1 (fun _=> rfl) (by decide) (fun N ⟨t,_⟩=> hb N t ())
def Y5(N:Nat):List (FuncId × Fs U):=(72,fs Zd0 (fun a=> [Z5I a,ZfJ a < N]) Z8V) ::[(60,Z07)]
def JQ:Z6 U:=fun i=> match i with
 | 0=> ([(1,[]),(2,[])],[(.loc 1,[]),(.loc 2,[])])
 | 1=> ([(1,[]),(2,[]),(8,[])],[(.loc 1,[]),(.loc 2,[])])
 | 2=> ([(2,[])],[(.loc 2,[])])
 | 3=> ([(1,[]),(2,[]),(3,[])],[(.loc 1,[]),(.loc 2,[]),(.loc 3,[])])
 | 4=> ([(1,[]),(2,[]),(3,[]),(17,[]),(18,[]),(19,[])],[(.loc 1,[]),(.loc 2,[]),(.loc 3,[.any,.any,.own .tree])])
 | 5=> ([(1,[]),(2,[]),(3,[]),(17,[]),(18,[]),(19,[]),(20,[])],[(.loc 1,[]),(.loc 2,[]),(.loc 3,[])])
 | 6=> ([(1,[]),(2,[]),(3,[]),(5,[]),(17,[]),(18,[]),(19,[])],[(.loc 1,[]),(.loc 2,[]),(.loc 3,[]),(.loc 5,[])])
 | 7=> ([(1,[]),(2,[]),(3,[]),(17,[]),(18,[]),(19,[])],[(.loc 1,[]),(.loc 2,[]),(.loc 3,[])])
 | 8=> ([(1,[]),(2,[]),(3,[]),(17,[]),(18,[]),(19,[])],[(.loc 1,[]),(.loc 2,[]),(.loc 3,[.any,.any,.own .tree])])
 | 9=> ([(2,[]),(3,[]),(33,[])],[(.loc 2,[]),(.loc 3,[.any,.any,.unk .tree])])
 | 10=> ([(2,[]),(3,[]),(33,[]),(48,[])],[(.loc 2,[]),(.loc 3,[.any,.any,.unk .tree])])
 | 11=> ([(2,[]),(3,[]),(33,[])],[(.loc 2,[]),(.loc 3,[.any,.any,.unk .tree])])
 | 12=> ([(2,[]),(3,[]),(33,[]),(48,[]),(72,[])],[(.loc 2,[]),(.loc 3,[])])
 | 13=> ([(2,[]),(3,[]),(33,[]),(48,[])],[(.loc 2,[]),(.loc 3,[.any,.any,.unk .tree])])
 | 14=> ([(2,[])],[(.loc 2,[])])
 | _=> ([],[])
def Z2o(t:Tree)(x19:Int)(ml3_2:List Tree):LSt U:=(L2 [pL 1,pL 2,pL 3,(17,.c (sU .tree t.kids .unk)),pI 18 (t.kids.length:Int),pI 19 x19] [(.loc 1,(enc .tree t)),(.loc 2,[ci 0,.nils,.nils]),(.loc 3,[ci t.kind,sU .u64 t.words .unk,sU .tree ml3_2 (.own (.l 3 2))])])
def Z2n(t:Tree)(ml3_2:List Tree)(ml3_1_a:List Int):LSt U:=(L2 [pL 2,pL 3,pB 33 ((t.kind:Int)==1)] [(.loc 2,[ci 0,.nils,.nils]),(.loc 3,[ci t.kind,sU .u64 ml3_1_a .unk,sU .tree ml3_2 .unk])])
def Z2m(t:Tree)(ml3_1_a:List Int)(ml3_2_b:List Tree):LSt U:=(L2 [pL 2,pL 3,pB 33 ((t.kind:Int)==1),(48,.c (.bool (bif (decide ((0:Int) < (ml3_1_a.length:Int))) then (((List.getD ml3_1_a (Int.toNat (((ml3_1_a.length:Int):Int) - 1)) (0:Int)):Int)==0) else false)))] [(.loc 2,[ci 0,.nils,.nils]),(.loc 3,[ci t.kind,sU .u64 ml3_1_a .unk,sU .tree ml3_2_b .unk])])
theorem Zsy(N:Nat)(t:Tree)(Q:QT)(h:(((t.kind==0)=true->(Q .ret (L2 [pL 2] [(.loc 2,[ci 0,.nils,.nils])])))/\((t.kind==0)=false->(Z7K (t.words,()))/\(Zk (AW (Z1 (Y5 N)) Try.f72 JQ [1,1,1,0,1,0,0]) (Z2o t 0 []) (xB 0 (SW (Z1 (Y5 N)) Try.f72 JQ [1,1,1,1] Q)))))):
  AW (Z1 (Y5 N)) Try.f72 JQ [] (L2 [(0,.agg (enc .tree t))] []) Q:=by
 have e:(AW (Z1 (Y5 N)) Try.f72 JQ [] (L2 [(0,.agg (enc .tree t))] []) Q)=(type_of% h):=by kernel_rfl
 exact e.mpr h
theorem ZkF(N:Nat)(t:Tree)(x19:Int)(ml3_2:List Tree)(N0:NT)(Q:QT)(h:(((decide (x19 < (t.kids.length:Int)))=true->(0<=x19/\x19 < (t.kids.length:Int))/\((Z5I ((Tree.mk (Tree.kind (t.kids.getD x19.toNat Tree.nil)) (Tree.words (t.kids.getD x19.toNat Tree.nil)) (Tree.kids (t.kids.getD x19.toNat Tree.nil))),()))/\(ZfJ ((Tree.mk (Tree.kind (t.kids.getD x19.toNat Tree.nil)) (Tree.words (t.kids.getD x19.toNat Tree.nil)) (Tree.kids (t.kids.getD x19.toNat Tree.nil))),()) < N)/\((ml3_2.length+([(Tree.mk (Tree.kind (Ze (Tree.mk (Tree.kind (t.kids.getD x19.toNat Tree.nil)) (Tree.words (t.kids.getD x19.toNat Tree.nil)) (Tree.kids (t.kids.getD x19.toNat Tree.nil))))) (Tree.words (Ze (Tree.mk (Tree.kind (t.kids.getD x19.toNat Tree.nil)) (Tree.words (t.kids.getD x19.toNat Tree.nil)) (Tree.kids (t.kids.getD x19.toNat Tree.nil))))) (Tree.kids (Ze (Tree.mk (Tree.kind (t.kids.getD x19.toNat Tree.nil)) (Tree.words (t.kids.getD x19.toNat Tree.nil)) (Tree.kids (t.kids.getD x19.toNat Tree.nil))))))]).length)*56<=140737488355328)/\((InR (x19+1))/\(N0 (Z2o t (x19+1) (ml3_2++([(Tree.mk (Tree.kind (Ze (Tree.mk (Tree.kind (t.kids.getD x19.toNat Tree.nil)) (Tree.words (t.kids.getD x19.toNat Tree.nil)) (Tree.kids (t.kids.getD x19.toNat Tree.nil))))) (Tree.words (Ze (Tree.mk (Tree.kind (t.kids.getD x19.toNat Tree.nil)) (Tree.words (t.kids.getD x19.toNat Tree.nil)) (Tree.kids (t.kids.getD x19.toNat Tree.nil))))) (Tree.kids (Ze (Tree.mk (Tree.kind (t.kids.getD x19.toNat Tree.nil)) (Tree.words (t.kids.getD x19.toNat Tree.nil)) (Tree.kids (t.kids.getD x19.toNat Tree.nil))))))])))))))/\((decide (x19 < (t.kids.length:Int)))=false->(((t.kind==1)=true->Zk (AW (Z1 (Y5 N)) Try.f72 JQ [1,1,1,1,0,1,0,0,0,0]) (Z2n t ml3_2 t.words) (xB 2 (SW (Z1 (Y5 N)) Try.f72 JQ [1,1,1,1,0,1,0,1] (SW (Z1 (Y5 N)) Try.f72 JQ [1,1,1,1,1] Q))))/\((t.kind==1)=false->(Q .ret (L2 [pL 2] [(.loc 2,[ci t.kind,sU .u64 t.words .unk,sU .tree ml3_2 .unk])]))))))):
  AW (Z1 (Y5 N)) Try.f72 JQ [1,1,1,0,1,0,0] (Z2o t x19 ml3_2) (xT N0 (xB 0 (SW (Z1 (Y5 N)) Try.f72 JQ [1,1,1,1] Q))):=by
 have e:(AW (Z1 (Y5 N)) Try.f72 JQ [1,1,1,0,1,0,0] (Z2o t x19 ml3_2) (xT N0 (xB 0 (SW (Z1 (Y5 N)) Try.f72 JQ [1,1,1,1] Q))))=(type_of% h):=by kernel_rfl
 exact e.mpr h
theorem ZkE(N:Nat)(t:Tree)(ml3_2:List Tree)(ml3_1_a:List Int)(N1:NT)(Q:QT)(h:((decide ((0:Int) < (ml3_1_a.length:Int)))=true->(decide ((0:Int) < (ml3_1_a.length:Int)))=true)/\((decide ((0:Int) < (ml3_1_a.length:Int)))=true->(decide ((0:Int) < (ml3_1_a.length:Int)))=true)/\((decide ((0:Int) < (ml3_1_a.length:Int)))=true->(decide ((0:Int) < (ml3_1_a.length:Int)))=true)/\((decide ((0:Int) < (ml3_1_a.length:Int)))=true->(decide ((0:Int) < (ml3_1_a.length:Int)))=true)/\((decide ((0:Int) < (ml3_1_a.length:Int)))=true->InR (((ml3_1_a.length:Int):Int) - 1))/\((decide ((0:Int) < (ml3_1_a.length:Int)))=true->(decide ((0:Int) < (ml3_1_a.length:Int)))=true)/\((decide ((0:Int) < (ml3_1_a.length:Int)))=true->(decide ((0:Int) < (ml3_1_a.length:Int)))=true)/\((decide ((0:Int) < (ml3_1_a.length:Int)))=true->0<=(((ml3_1_a.length:Int):Int) - 1)/\(((ml3_1_a.length:Int):Int) - 1) < (ml3_1_a.length:Int))/\((decide ((0:Int) < (ml3_1_a.length:Int)))=true->(decide ((0:Int) < (ml3_1_a.length:Int)))=true)/\((decide ((0:Int) < (ml3_1_a.length:Int)))=true->(decide ((0:Int) < (ml3_1_a.length:Int)))=true)/\((decide ((0:Int) < (ml3_1_a.length:Int)))=true->(decide ((0:Int) < (ml3_1_a.length:Int)))=true)/\(((bif (decide ((0:Int) < (ml3_1_a.length:Int))) then (((List.getD ml3_1_a (Int.toNat (((ml3_1_a.length:Int):Int) - 1)) (0:Int)):Int)==0) else false)=true->(InR (((ml3_1_a.length:Int):Int) - 1))/\(0<=(((ml3_1_a.length:Int):Int) - 1)/\(((ml3_1_a.length:Int):Int) - 1)<=(ml3_1_a.length:Int))/\(N1 (Z2n t ml3_2 (List.take (Int.toNat (((ml3_1_a.length:Int):Int) - 1)) ml3_1_a))))/\((bif (decide ((0:Int) < (ml3_1_a.length:Int))) then (((List.getD ml3_1_a (Int.toNat (((ml3_1_a.length:Int):Int) - 1)) (0:Int)):Int)==0) else false)=false->Zk (AW (Z1 (Y5 N)) Try.f72 JQ [1,1,1,1,0,1,0,1,0,0]) (Z2m t ml3_1_a ml3_2) (xB 4 (SW (Z1 (Y5 N)) Try.f72 JQ [1,1,1,1,1] Q))))):
  AW (Z1 (Y5 N)) Try.f72 JQ [1,1,1,1,0,1,0,0,0,0] (Z2n t ml3_2 ml3_1_a) (xT N1 (xB 2 (SW (Z1 (Y5 N)) Try.f72 JQ [1,1,1,1,0,1,0,1] (SW (Z1 (Y5 N)) Try.f72 JQ [1,1,1,1,1] Q)))):=by
 have e:(AW (Z1 (Y5 N)) Try.f72 JQ [1,1,1,1,0,1,0,0,0,0] (Z2n t ml3_2 ml3_1_a) (xT N1 (xB 2 (SW (Z1 (Y5 N)) Try.f72 JQ [1,1,1,1,0,1,0,1] (SW (Z1 (Y5 N)) Try.f72 JQ [1,1,1,1,1] Q)))))=(type_of% h):=by kernel_rfl
 exact e.mpr h
theorem ZkD(N:Nat)(t:Tree)(ml3_1_a:List Int)(ml3_2_b:List Tree)(N2:NT)(Q:QT)(h:((decide ((0:Int) < (ml3_2_b.length:Int)))=true->(decide ((0:Int) < (ml3_2_b.length:Int)))=true)/\((decide ((0:Int) < (ml3_2_b.length:Int)))=true->(decide ((0:Int) < (ml3_2_b.length:Int)))=true)/\((decide ((0:Int) < (ml3_2_b.length:Int)))=true->(decide ((0:Int) < (ml3_2_b.length:Int)))=true)/\((decide ((0:Int) < (ml3_2_b.length:Int)))=true->(decide ((0:Int) < (ml3_2_b.length:Int)))=true)/\((decide ((0:Int) < (ml3_2_b.length:Int)))=true->InR (((ml3_2_b.length:Int):Int) - 1))/\((decide ((0:Int) < (ml3_2_b.length:Int)))=true->(decide ((0:Int) < (ml3_2_b.length:Int)))=true)/\((decide ((0:Int) < (ml3_2_b.length:Int)))=true->(decide ((0:Int) < (ml3_2_b.length:Int)))=true)/\((decide ((0:Int) < (ml3_2_b.length:Int)))=true->0<=(((ml3_2_b.length:Int):Int) - 1)/\(((ml3_2_b.length:Int):Int) - 1) < (ml3_2_b.length:Int))/\((decide ((0:Int) < (ml3_2_b.length:Int)))=true->(decide ((0:Int) < (ml3_2_b.length:Int)))=true)/\((decide ((0:Int) < (ml3_2_b.length:Int)))=true->(decide ((0:Int) < (ml3_2_b.length:Int)))=true)/\((decide ((0:Int) < (ml3_2_b.length:Int)))=true->(decide ((0:Int) < (ml3_2_b.length:Int)))=true)/\((decide ((0:Int) < (ml3_2_b.length:Int)))=true->(decide ((0:Int) < (ml3_2_b.length:Int)))=true)/\(((bif (decide ((0:Int) < (ml3_2_b.length:Int))) then (((Tree.kind (List.getD ml3_2_b (Int.toNat (((ml3_2_b.length:Int):Int) - 1)) Tree.nil)):Int)==0) else false)=true->(InR (((ml3_2_b.length:Int):Int) - 1))/\(0<=(((ml3_2_b.length:Int):Int) - 1)/\(((ml3_2_b.length:Int):Int) - 1)<=(ml3_2_b.length:Int))/\(N2 (Z2m t ml3_1_a (List.take (Int.toNat (((ml3_2_b.length:Int):Int) - 1)) ml3_2_b))))/\((bif (decide ((0:Int) < (ml3_2_b.length:Int))) then (((Tree.kind (List.getD ml3_2_b (Int.toNat (((ml3_2_b.length:Int):Int) - 1)) Tree.nil)):Int)==0) else false)=false->(Q .ret (L2 [pL 2] [(.loc 2,[ci t.kind,sU .u64 ml3_1_a .unk,sU .tree ml3_2_b .unk])]))))):
  AW (Z1 (Y5 N)) Try.f72 JQ [1,1,1,1,0,1,0,1,0,0] (Z2m t ml3_1_a ml3_2_b) (xT N2 (xB 4 (SW (Z1 (Y5 N)) Try.f72 JQ [1,1,1,1,1] Q))):=by
 have e:(AW (Z1 (Y5 N)) Try.f72 JQ [1,1,1,1,0,1,0,1,0,0] (Z2m t ml3_1_a ml3_2_b) (xT N2 (xB 4 (SW (Z1 (Y5 N)) Try.f72 JQ [1,1,1,1,1] Q))))=(type_of% h):=by kernel_rfl
 exact e.mpr h
def Zqh(N:Nat)(t:Tree):Prop:=AW (Z1 (Y5 N)) Try.f72 JQ [] (Zb (Zd0.can (t,())) []) (EQ Try.f72 (Z8V (t,())) [])
theorem ZnY(c60:CT 60 Z07)(hb:∀ (N:Nat) (t:Tree) (_:Unit),Z5I (t,())->ZfJ (t,()) < N+1->Zqh N t):CT 72 Z1K:=
 Yg (μ:=ZfJ) (l:=[(60,Z07)]) Z9 rfl (⟨c60,trivial⟩) JQ Try.func72 rfl rfl 1 (fun _=> rfl) (by decide) (fun N ⟨t,_⟩=> hb N t ())
def Z1o(N:Nat):List (FuncId × Fs U):=(49,fs Zd1 (fun a=> [Z40 a,ZfK a < N]) Z8W) ::[(37,Z09)]
def Z8x:Z6 U:=lvl [([2,3],[2,3]),([2,3,27],[2,3]),([4],[]),([2,3,5],[2,3]),([2,3,5,32],[2,3]),([2,3,5],[2,3]),([2,3,5,46],[2,3]),([4],[]),([4],[])]
def Z2q(a b:Tree)(x5:Int):LSt U:=(L2 [pL 2,pL 3,pI 5 x5] [(.loc 2,(enc .tree a)),(.loc 3,(enc .tree b))])
theorem ZsS(N:Nat)(a b:Tree)(Q:QT)(h:(((!(a.kind !=b.kind))=true->(!(a.kind !=b.kind))=true)/\((!(a.kind !=b.kind))=true->(!(a.kind !=b.kind))=true)/\((!(a.kind !=b.kind))=true->(!(a.kind !=b.kind))=true)/\((!(a.kind !=b.kind))=true->(!(a.kind !=b.kind))=true)/\((!(a.kind !=b.kind))=true->Z5K (a.words,b.words,()))/\((!(a.kind !=b.kind))=true->(!(a.kind !=b.kind))=true)/\((a.kind !=b.kind)=false->(!(a.kind !=b.kind))=true)/\((!(bif (a.kind !=b.kind) then true else (!(decide (a.words=b.words)))))=true->(!(bif (a.kind !=b.kind) then true else (!(decide (a.words=b.words)))))=true)/\((!(bif (a.kind !=b.kind) then true else (!(decide (a.words=b.words)))))=true->(!(bif (a.kind !=b.kind) then true else (!(decide (a.words=b.words)))))=true)/\((!(bif (a.kind !=b.kind) then true else (!(decide (a.words=b.words)))))=true->(!(bif (a.kind !=b.kind) then true else (!(decide (a.words=b.words)))))=true)/\((!(bif (a.kind !=b.kind) then true else (!(decide (a.words=b.words)))))=true->(!(bif (a.kind !=b.kind) then true else (!(decide (a.words=b.words)))))=true)/\((!(bif (a.kind !=b.kind) then true else (!(decide (a.words=b.words)))))=true->(!(bif (a.kind !=b.kind) then true else (!(decide (a.words=b.words)))))=true)/\((!(bif (a.kind !=b.kind) then true else (!(decide (a.words=b.words)))))=true->(!(bif (a.kind !=b.kind) then true else (!(decide (a.words=b.words)))))=true)/\((bif (a.kind !=b.kind) then true else (!(decide (a.words=b.words))))=false->(!(bif (a.kind !=b.kind) then true else (!(decide (a.words=b.words)))))=true)/\(((bif (bif (a.kind !=b.kind) then true else (!(decide (a.words=b.words)))) then true else (((a.kids.length:Int):Int) !=(b.kids.length:Int)))=true->(Q .ret (L2 [pB 4 false] [])))/\((bif (bif (a.kind !=b.kind) then true else (!(decide (a.words=b.words)))) then true else (((a.kids.length:Int):Int) !=(b.kids.length:Int)))=false->(Zk (AW (Z1 (Z1o N)) Try.f49 Z8x [1,1,0,1,0,0]) (Z2q a b 0) (xB 0 (SW (Z1 (Z1o N)) Try.f49 Z8x [1,1,1] Q))))))):
  AW (Z1 (Z1o N)) Try.f49 Z8x [] (L2 [(0,.agg (enc .tree a)),(1,.agg (enc .tree b))] []) Q:=by
 have e:(AW (Z1 (Z1o N)) Try.f49 Z8x [] (L2 [(0,.agg (enc .tree a)),(1,.agg (enc .tree b))] []) Q)=(type_of% h):=by kernel_rfl
 exact e.mpr h
theorem ZkR(N:Nat)(a b:Tree)(x5:Int)(N0:NT)(Q:QT)(h:(((decide (x5 < (a.kids.length:Int)))=true->(0<=x5/\x5 < (a.kids.length:Int))/\(0<=x5/\x5 < (b.kids.length:Int))/\(Z40 ((Tree.mk (Tree.kind (a.kids.getD x5.toNat Tree.nil)) (Tree.words (a.kids.getD x5.toNat Tree.nil)) (Tree.kids (a.kids.getD x5.toNat Tree.nil))),(Tree.mk (Tree.kind (b.kids.getD x5.toNat Tree.nil)) (Tree.words (b.kids.getD x5.toNat Tree.nil)) (Tree.kids (b.kids.getD x5.toNat Tree.nil))),()))/\(ZfK ((Tree.mk (Tree.kind (a.kids.getD x5.toNat Tree.nil)) (Tree.words (a.kids.getD x5.toNat Tree.nil)) (Tree.kids (a.kids.getD x5.toNat Tree.nil))),(Tree.mk (Tree.kind (b.kids.getD x5.toNat Tree.nil)) (Tree.words (b.kids.getD x5.toNat Tree.nil)) (Tree.kids (b.kids.getD x5.toNat Tree.nil))),()) < N)/\(((!(JS (Tree.mk (Tree.kind (a.kids.getD x5.toNat Tree.nil)) (Tree.words (a.kids.getD x5.toNat Tree.nil)) (Tree.kids (a.kids.getD x5.toNat Tree.nil))) (Tree.mk (Tree.kind (b.kids.getD x5.toNat Tree.nil)) (Tree.words (b.kids.getD x5.toNat Tree.nil)) (Tree.kids (b.kids.getD x5.toNat Tree.nil)))))=true->(Q .ret (L2 [pB 4 false] [])))/\((!(JS (Tree.mk (Tree.kind (a.kids.getD x5.toNat Tree.nil)) (Tree.words (a.kids.getD x5.toNat Tree.nil)) (Tree.kids (a.kids.getD x5.toNat Tree.nil))) (Tree.mk (Tree.kind (b.kids.getD x5.toNat Tree.nil)) (Tree.words (b.kids.getD x5.toNat Tree.nil)) (Tree.kids (b.kids.getD x5.toNat Tree.nil)))))=false->(InR (x5+1))/\(N0 (Z2q a b (x5+1))))))/\((decide (x5 < (a.kids.length:Int)))=false->(Q .ret (L2 [pB 4 true] []))))):
  AW (Z1 (Z1o N)) Try.f49 Z8x [1,1,0,1,0,0] (Z2q a b x5) (xT N0 (xB 0 (SW (Z1 (Z1o N)) Try.f49 Z8x [1,1,1] Q))):=by
 have e:(AW (Z1 (Z1o N)) Try.f49 Z8x [1,1,0,1,0,0] (Z2q a b x5) (xT N0 (xB 0 (SW (Z1 (Z1o N)) Try.f49 Z8x [1,1,1] Q))))=(type_of% h):=by kernel_rfl
 exact e.mpr h
def ZqB(N:Nat)(a b:Tree):Prop:=AW (Z1 (Z1o N)) Try.f49 Z8x [] (Zb (Zd1.can (a,b,())) []) (EQ Try.f49 (Z8W (a,b,())) [])
theorem Zoi(c37:CT 37 Z09)(hb:∀ (N:Nat) (a:Tree) (b:Tree) (_:Unit),Z40 (a,b,())->ZfK (a,b,()) < N+1->ZqB N a b):CT 49 Z75:=
 Yg (μ:=ZfK) (l:=[(37,Z09)]) Z9 rfl (⟨c37,trivial⟩) Z8x Try.func49 rfl rfl 2 (fun _=> rfl) (by decide) (fun N ⟨a,b,_⟩=> hb N a b ())
end
theorem Je:∀ {ks:List Tree} {i:Nat},i < ks.length->Zh (ks.getD i Tree.nil)<=Zv ks
 | t ::_,0,_=> by simp only [Zv,List.getD_cons_zero];omega
 | t ::r,i+1,h=> by
  have:=Je (ks:=r) (i:=i) (by simpa using h)
  simp only [Zv,List.getD_cons_succ]
  omega
theorem ZeH{a b:List Int}{i:Int}(hi:0<=i)(ha:i < a.length)(hb:i < b.length):(a.drop i.toNat=b.drop i.toNat)↔(a.getD i.toNat 0=b.getD i.toNat 0/\a.drop (i+1).toNat=b.drop (i+1).toNat):=by
 have e:(i+1).toNat=i.toNat+1:=by omega
 rw [QR (by omega),QR (l:=b) (by omega),e]
 simp only [List.cons.injEq,List.getD,Q0 (show i.toNat < a.length by omega),Q0 (show i.toNat < b.length by omega),QL]
theorem ZpJ:Contract Try.prog cfg 100 Z6n:=by
 refine Zlz ?_
 intro t i _ hp
 refine Zru _ _ _ ?_
 (simp only [vcS])
 (repeat (refine And.intro (by first | omega | (unfold InR;omega) | (dsimp only;omega)) ?_))
 refine ⟨fun hc=> ?_,fun hc=> ⟨by omega,?_⟩⟩
 ·have e:Z3a t i=0:=by
   unfold Z3a
   split
   ·try rfl
   ·rw [List.getD,Xj (by omega)]
    try rfl
  simp only [Za1,e]
  exact ⟨⟨rfl,⟨⟨rfl,rfl⟩,trivial⟩,trivial⟩,trivial⟩
 ·have e:Z3a t i=t.words.getD i.toNat 0:=by
   unfold Z3a
   rw [if_neg (by omega)]
  simp only [Za1,e]
  exact ⟨⟨rfl,⟨⟨rfl,rfl⟩,trivial⟩,trivial⟩,trivial⟩
theorem c81:Contract Try.prog cfg 81 Z09:=by
 refine ZnS ?_
 intro a b _ hp
 simp only [Z5K] at hp
 refine Zsp _ _ _ ?_
 (simp only [vcS])
 refine ⟨fun hc=> ?_,fun hc=> ?_⟩
 ·have e:decide (a=b)=false:=by
   simp only [decide_eq_false_iff_not]
   rintro rfl
   omega
  simp only [ZmZ,e]
  exact ⟨⟨rfl,⟨rfl,trivial⟩,trivial⟩,trivial⟩
 ·have hl:a.length=b.length:=by omega
  refine Za (ι:=Int) (fun p=> Z2h a b p) (fun p=> 0<=p/\p<=a.length/\(a=b↔a.drop p.toNat=b.drop p.toNat)) (fun p=> ((a.length:Int) - p).toNat) 0 rfl ⟨by omega,by omega,by simp⟩ ?_
  rintro i ⟨h1,h2,h3⟩
  refine Zkp _ _ _ _ _ ?_
  (simp only [vcS])
  refine ⟨fun hc=> ⟨by omega,by omega,fun hn=> ?_,fun he=> ⟨by unfold InR;omega,i+1,rfl,⟨by omega,by omega,?_⟩,by omega⟩⟩,fun hc=> ?_⟩
  ·have e:decide (a=b)=false:=by
    simp only [decide_eq_false_iff_not,h3]
    rw [ZeH h1 hc (by omega)]
    exact fun h=> hn h.1
   simp only [ZmZ,e]
   exact ⟨⟨rfl,⟨rfl,trivial⟩,trivial⟩,trivial⟩
  ·rw [h3,ZeH h1 hc (by omega)]
   exact ⟨fun h=> h.2,fun h=> ⟨by simpa using he,h⟩⟩
  ·have e:decide (a=b)=true:=by
    simp only [decide_eq_true_eq,h3]
    rw [Qu (by omega),Qu (by omega)]
   simp only [ZmZ,e]
   exact ⟨⟨rfl,⟨rfl,trivial⟩,trivial⟩,trivial⟩
theorem ZbP{a b:List Tree}{i:Int}(hi:0<=i)(ha:i < a.length)(hb:i < b.length):(a.drop i.toNat=b.drop i.toNat)↔(a.getD i.toNat Tree.nil=b.getD i.toNat Tree.nil/\a.drop (i+1).toNat=b.drop (i+1).toNat):=by
 have e:(i+1).toNat=i.toNat+1:=by omega
 rw [QR (by omega),QR (l:=b) (by omega),e]
 simp only [List.cons.injEq,List.getD,Q0 (show i.toNat < a.length by omega),Q0 (show i.toNat < b.length by omega),QL]
theorem Z7m{a b:Tree}:JS a b=true↔a=b:=by simp [JS]
theorem Z1T{a b:Tree}:JS a b=false↔¬a=b:=by simp [JS]
theorem Jd:∀ (ks:List Tree),ks.length<=Zv ks
 | []=> by simp [Zv]
 | t ::r=> by
  have:=Jd r
  have:1<=Zh t:=by cases t;simp only [Zh];omega
  simp only [Zv,Qh]
  omega
theorem c49:Contract Try.prog cfg 49 Z75:=by
 refine Zoi c37 ?_
 rintro N ⟨k,ws,ks⟩ ⟨k',ws',ks'⟩ _ hp hN
 have hlen:=Jd ks
 simp only [Z40,ZfK,Zh] at hp hN
 refine ZsS N _ _ _ ?_
 (simp only [vcS])
 (simp only [Tree.eta,Tree.kind_mk,Tree.words_mk,Tree.kids_mk])
 have p69:Z5K (ws,ws',()):=by simp only [Z5K];omega
 refine ⟨id,id,id,id,fun _=> p69,id,id,id,id,id,id,id,id,by simp,fun hc=> ?_,fun hc=> ?_⟩
 ·have e:JS (.mk k ws ks) (.mk k' ws' ks')=false:=by
   rw [Z1T]
   intro h
   cases h
   simp at hc
  simp only [Z8W,e]
  exact ⟨⟨rfl,⟨rfl,trivial⟩,trivial⟩,trivial⟩
 ·have hc':(k=k'/\ws=ws')/\ks.length=ks'.length:=⟨hc.1,by have:=hc.2;omega⟩
  obtain ⟨⟨rfl,rfl⟩,hl⟩:=hc'
  refine Za (ι:=Int) (fun p=> Z2q (.mk k ws ks) (.mk k ws ks') p) (fun p=> 0<=p/\p<=ks.length/\(Tree.mk k ws ks= .mk k ws ks'↔ks.drop p.toNat=ks'.drop p.toNat)) (fun p=> ((ks.length:Int) - p).toNat) 0 rfl ⟨by omega,by omega,by simp⟩ ?_
  rintro i ⟨h1,h2,h3⟩
  refine ZkR N _ _ _ _ _ ?_
  (simp only [vcS])
  (simp only [Tree.eta,Tree.kind_mk,Tree.words_mk,Tree.kids_mk])
  refine ⟨fun hc=> ⟨by omega,by omega,?_,?_,fun hn=> ?_,fun he=> ⟨by unfold InR;omega,i+1,rfl,⟨by omega,by omega,?_⟩,by omega⟩⟩,fun hc=> ?_⟩
  ·have:=Je (ks:=ks) (i:=i.toNat) (by omega)
   simp only [Z40]
   omega
  ·have:=Je (ks:=ks) (i:=i.toNat) (by omega)
   simp only [ZfK]
   omega
  ·have e:JS (.mk k ws ks) (.mk k ws ks')=false:=by
    rw [Z1T,h3,ZbP h1 hc (by omega)]
    rw [Z1T] at hn
    exact fun h=> hn h.1
   simp only [Z8W,e]
   exact ⟨⟨rfl,⟨rfl,trivial⟩,trivial⟩,trivial⟩
  ·rw [h3,ZbP h1 hc (by omega)]
   exact ⟨fun h=> h.2,fun h=> ⟨Z7m.1 he,h⟩⟩
  ·have e:JS (.mk k ws ks) (.mk k ws ks')=true:=by
    rw [Z7m,h3]
    rw [Qu (by omega),Qu (by omega)]
   simp only [Z8W,e]
   exact ⟨⟨rfl,⟨rfl,trivial⟩,trivial⟩,trivial⟩
theorem Z4M:∀ (l:List Int),trim (l++[0])=trim l
 | []=> rfl
 | x ::r=> by
  show (match trim (r++[0]) with | []=> if x=0 then [] else [x] | y ::s=> x ::y ::s)=_
  rw [Z4M r]
  try rfl
theorem Z9H{x:Int}(hx:x≠0):∀ (l:List Int),trim (l++[x])=l++[x]
 | []=> by simp [trim,hx]
 | y ::r=> by
  show (match trim (r++[x]) with | []=> if y=0 then [] else [y] | z ::s=> y ::z ::s)=_
  rw [Z9H hx r]
  cases r <;> rfl
theorem Z4P{l:List Int}{i:Int}(h0:0 < i)(hi:i<=l.length):l.take i.toNat=l.take (i - 1).toNat++[l.getD (i - 1).toNat 0]:=by
 have e:i.toNat=(i - 1).toNat+1:=by omega
 rw [e,List.take_add_one]
 simp only [List.getD,Q0 (show (i - 1).toNat < l.length by omega),Option.toList,QL]
theorem c80:Contract Try.prog cfg 80 Z6R:=by
 refine ZnT ?_
 intro l _ hp
 simp only [Zbi] at hp
 refine Zsq _ _ ?_
 refine Za (ι:=Int) (fun p=> Z2i l p) (fun p=> 0<=p/\p<=l.length/\trim (l.take p.toNat)=trim l) (fun p=> p.toNat) (l.length:Int) rfl ⟨by omega,by omega,by simp⟩ ?_
 rintro i ⟨h1,h2,h3⟩
 refine Zkq _ _ _ _ ?_
 (simp only [vcS])
 refine ⟨id,fun h=> by unfold InR;omega,id,id,fun h=> by omega,id,id,id,fun hc=> ⟨by unfold InR;omega,i - 1,rfl,⟨by omega,by omega,?_⟩,by omega⟩,fun hc=> ⟨by omega,?_,?_⟩⟩
 ·rw [Z4P hc.1 h2,hc.2,Z4M] at h3
  exact h3
 ·simp only [QK,Qa]
  omega
 ·have e:trim l=[]++l.take i.toNat:=by
   rw [<-h3]
   by_cases h0:0 < i
   ·rw [Z4P h0 h2,Z9H (by rcases hc with h | h;exact absurd h0 h;exact h)]
    try rfl
   ·have:i.toNat=0:=by omega
    rw [this]
    try rfl
  simp only [ZgM,e]
  exact ⟨⟨rfl,⟨⟨rfl,trivial⟩,trivial⟩,trivial⟩,trivial⟩
theorem ZaP:∀ (l:List Int),(trim l).length<=l.length
 | []=> by simp [trim]
 | x ::r=> by
  have:=ZaP r
  simp only [trim]
  split
  ·split <;> simp
  ·rename_i h
   rw [h] at this
   simp at*
   omega
theorem Z6C:∀ (l:List Tree),Zv (Yb l)<=Zv l
 | []=> by simp [Yb]
 | x ::r=> by
  have:=Z6C r
  simp only [Yb]
  split
  ·split
   ·simp [Zv]
   ·simp [Zv]
  ·rename_i h
   rw [h] at this
   simp only [Zv] at*
   omega
mutual
theorem JB:∀ (t:Tree),Zh (Ze t)<=Zh t
 | .mk k w ks=> by
  have h1:=Z7U ks
  have h2:=ZaP w
  have h3:=Z6C (Yq ks)
  simp only [Ze]
  split
  ·simp only [Tree.nil,Zh,Zv,QK];omega
  ·split
   ·simp only [Zh];omega
   ·simp only [Zh];omega
theorem Z7U:∀ (ks:List Tree),Zv (Yq ks)<=Zv ks
 | []=> by simp [Yq]
 | t ::r=> by
  have h1:=JB t
  have h2:=Z7U r
  simp only [Yq,Zv]
  omega
end
theorem Z5a:∀ (l:List Tree) (x:Tree),Yq (l++[x])=Yq l++[Ze x]
 | [],x=> rfl
 | y ::r,x=> by simp only [QN,Yq,Z5a r x]
theorem Z02:∀ (l:List Tree),(Yq l).length=l.length
 | []=> rfl
 | y ::r=> by simp only [Yq,Qh,Z02 r]
theorem Z3b{x:Tree}(hx:x.kind=0):∀ (l:List Tree),Yb (l++[x])=Yb l
 | []=> by simp [Yb,hx]
 | y ::r=> by
  show (match Yb (r++[x]) with | []=> if y.kind=0 then [] else [y] | z ::s=> y ::z ::s)=_
  rw [Z3b hx r]
  try rfl
theorem Z6B{x:Tree}(hx:x.kind≠0):∀ (l:List Tree),Yb (l++[x])=l++[x]
 | []=> by simp [Yb,hx]
 | y ::r=> by
  show (match Yb (r++[x]) with | []=> if y.kind=0 then [] else [y] | z ::s=> y ::z ::s)=_
  rw [Z6B hx r]
  cases r <;> rfl
theorem Z3d{l:List Tree}{i:Int}(h0:0<=i)(hi:i < l.length):l.take (i+1).toNat=l.take i.toNat++[l.getD i.toNat Tree.nil]:=by
 have e:(i+1).toNat=i.toNat+1:=by omega
 rw [e,List.take_add_one]
 simp only [List.getD,Q0 (show i.toNat < l.length by omega),Option.toList,QL]
theorem c50:Contract Try.prog cfg 50 Z1K:=by
 refine Zoh c80 ?_
 rintro N ⟨k,ws,ks⟩ _ hp hN
 have hlen:=Jd ks
 simp only [Z5I,ZfJ,Zh] at hp hN
 refine ZsR N _ _ ?_
 (simp only [vcS])
 (simp only [Tree.eta,Tree.kind_mk,Tree.words_mk,Tree.kids_mk])
 refine ⟨fun hc=> ?_,fun hc0=> ?_⟩
 ·have e:Ze (.mk k ws ks)=Tree.nil:=by simp [Ze,hc]
  simp only [Z8V,e]
  exact ⟨⟨rfl,⟨⟨rfl,rfl⟩,⟨rfl,⟨rfl,trivial⟩⟩⟩,trivial⟩,trivial⟩
 ·refine Za (ι:=Int × Int × List Tree) (fun p=> Z0T (.mk k ws ks) p.1 p.2.1 p.2.2) (fun p=> 0<=p.2.1/\p.2.1<=ks.length/\0<=p.1/\p.1<=p.2.1/\p.2.2=Yq (ks.take p.2.1.toNat)/\Yb (Yq (ks.take p.2.1.toNat))=p.2.2.take p.1.toNat) (fun p=> ((ks.length:Int) - p.2.1).toNat) (0,0,[]) rfl ⟨by dsimp only;omega,by dsimp only;omega,by dsimp only;omega,by dsimp only;omega,rfl,rfl⟩ ?_
  rintro ⟨last,i,l⟩ ⟨h1,h2,h3,h4,h5,h6⟩
  dsimp only at*
  have hl:l.length=i.toNat:=by rw [h5,Z02,Qa];omega
  refine ZkQ N _ _ _ _ _ _ ?_
  (simp only [vcS])
  (simp only [Tree.eta,Tree.kind_mk,Tree.words_mk,Tree.kids_mk])
  refine ⟨fun hc=> ?_,fun hc=> ⟨fun h1=> ⟨?_,by omega,?_⟩,fun hk=> ⟨?_,?_⟩⟩⟩
  ·have hm:=Je (ks:=ks) (i:=i.toNat) (by omega)
   have hnx:Yq (ks.take (i+1).toNat)=l++[Ze (ks.getD i.toNat Tree.nil)]:=by rw [Z3d h1 hc,Z5a,h5]
   refine ⟨by omega,by simp only [Z5I];omega,by simp only [ZfJ];omega,by simp only [Qh,QK];omega,fun hk=> ⟨by unfold InR;omega,by unfold InR;omega,(i+1,i+1,_),rfl,⟨by dsimp only;omega,by dsimp only;omega,by dsimp only;omega,by dsimp only;omega,hnx.symm,?_⟩,by dsimp only;omega⟩,fun hk=> ⟨by unfold InR;omega,(last,i+1,_),rfl,⟨by dsimp only;omega,by dsimp only;omega,by dsimp only;omega,by dsimp only;omega,hnx.symm,?_⟩,by dsimp only;omega⟩⟩
   ·dsimp only
    rw [hnx,Z6B hk,Qi (by simp;omega)]
   ·dsimp only
    rw [hnx,Z3b hk,List.take_append_of_le_length (by omega),<-h6,h5]
  ·simp only [Zbi];omega
  ·have hi:ks.take i.toNat=ks:=Qi (by omega)
   rw [hi] at h5 h6
   have e:Ze (.mk k ws ks)= .mk 1 (trim ws) (l.take last.toNat):=by
    subst h1
    simp only [Ze,<-h6]
    try rfl
   simp only [Z8V,e]
   exact ⟨⟨rfl,⟨⟨rfl,rfl⟩,⟨rfl,trivial⟩,⟨rfl,trivial⟩,trivial⟩,trivial⟩,trivial⟩
  ·simp only [QK];omega
  ·have hi:ks.take i.toNat=ks:=Qi (by omega)
   rw [hi] at h5
   have e:Ze (.mk k ws ks)= .mk k ([]++ws) l:=by
    simp only [Ze,if_neg hc0,if_neg hk,h5]
    try rfl
   simp only [Z8V,e]
   exact ⟨⟨rfl,⟨⟨rfl,rfl⟩,⟨rfl,trivial⟩,⟨rfl,trivial⟩,trivial⟩,trivial⟩,trivial⟩
mutual
theorem Z16:∀ (t:Tree),0<=weight t/\weight t+1<=2*(Zh t:Int)
 | .mk k w ks=> by
  have h1:=Z2W ks
  have h2:=Jd ks
  simp only [weight,Zh]
  split
  ·omega
  ·split
   ·omega
   ·split <;> omega
theorem Z2W:∀ (ks:List Tree),0<=YF ks/\YF ks+ks.length<=2*(Zv ks:Int)
 | []=> by simp [YF,Zv]
 | t ::r=> by
  have h1:=Z16 t
  have h2:=Z2W r
  simp only [YF,Zv,Qh]
  omega
end
theorem Zeh{l:List Int}(h0:0 < (l.length:Int)):l=l.take ((l.length:Int) - 1).toNat++[l.getD ((l.length:Int) - 1).toNat 0]:=by
 have:=Z4P h0 (QQ _)
 rw [Qi (by omega)] at this
 exact this
theorem ZbA{l:List Tree}(h0:0 < (l.length:Int)):l=l.take ((l.length:Int) - 1).toNat++[l.getD ((l.length:Int) - 1).toNat Tree.nil]:=by
 have:=Z3d (l:=l) (i:=(l.length:Int) - 1) (by omega) (by omega)
 rw [Qi (by omega)] at this
 exact this
theorem Zfc{l:List Int}(h0:0 < (l.length:Int))(hz:l.getD ((l.length:Int) - 1).toNat 0=0):trim (l.take ((l.length:Int) - 1).toNat)=trim l:=by
 have e:=Z4M (l.take ((l.length:Int) - 1).toNat)
 have h:=Zeh h0
 rw [hz] at h
 rw [<-h] at e
 exact e.symm
theorem Zfe{l:List Int}(h:¬0 < (l.length:Int)\/¬l.getD ((l.length:Int) - 1).toNat 0=0):trim l=l:=by
 by_cases h0:0 < (l.length:Int)
 ·have e:=Z9H (x:=l.getD ((l.length:Int) - 1).toNat 0) (by rcases h with h | h;exact absurd h0 h;exact h) (l.take ((l.length:Int) - 1).toNat)
  rw [<-Zeh h0] at e
  exact e
 ·have:l=[]:=Q9 (by omega)
  subst this
  try rfl
theorem Zc3{l:List Tree}(h0:0 < (l.length:Int))(hz:(l.getD ((l.length:Int) - 1).toNat Tree.nil).kind=0):Yb (l.take ((l.length:Int) - 1).toNat)=Yb l:=by
 have e:=Z3b hz (l.take ((l.length:Int) - 1).toNat)
 rw [<-ZbA h0] at e
 exact e.symm
theorem Zc5{l:List Tree}(h:¬0 < (l.length:Int)\/¬(l.getD ((l.length:Int) - 1).toNat Tree.nil).kind=0):Yb l=l:=by
 by_cases h0:0 < (l.length:Int)
 ·have e:=Z6B (x:=l.getD ((l.length:Int) - 1).toNat Tree.nil) (by rcases h with h | h;exact absurd h0 h;exact h) (l.take ((l.length:Int) - 1).toNat)
  rw [<-ZbA h0] at e
  exact e
 ·have:l=[]:=Q9 (by omega)
  subst this
  try rfl
theorem c72:Contract Try.prog cfg 72 Z1K:=by
 refine ZnY c60 ?_
 rintro N ⟨k,ws,ks⟩ _ hp hN
 have hlen:=Jd ks
 simp only [Z5I,ZfJ,Zh] at hp hN
 refine Zsy N _ _ ?_
 (simp only [vcS])
 (simp only [Tree.eta,Tree.kind_mk,Tree.words_mk,Tree.kids_mk])
 refine ⟨fun hc=> ?_,fun hc0=> ⟨by simp only [Z7K];omega,?_⟩⟩
 ·have e:Ze (.mk k ws ks)=Tree.nil:=by simp [Ze,hc]
  simp only [Z8V,e]
  exact ⟨⟨rfl,⟨⟨rfl,rfl⟩,⟨rfl,⟨rfl,trivial⟩⟩⟩,trivial⟩,trivial⟩
 ·refine Za (ι:=Int × List Tree) (fun p=> Z2o (.mk k ws ks) p.1 p.2) (fun p=> 0<=p.1/\p.1<=ks.length/\p.2=Yq (ks.take p.1.toNat)) (fun p=> ((ks.length:Int) - p.1).toNat) (0,[]) rfl ⟨by dsimp only;omega,by dsimp only;omega,rfl⟩ ?_
  rintro ⟨i,l⟩ ⟨h1,h2,h5⟩
  dsimp only at*
  have hl:l.length=i.toNat:=by rw [h5,Z02,Qa];omega
  refine ZkF N _ _ _ _ _ ?_
  (simp only [vcS])
  (simp only [Tree.eta,Tree.kind_mk,Tree.words_mk,Tree.kids_mk])
  refine ⟨fun hc=> ?_,fun hc=> ⟨fun hk=> ?_,fun hk=> ?_⟩⟩
  ·have hm:=Je (ks:=ks) (i:=i.toNat) (by omega)
   have hnx:Yq (ks.take (i+1).toNat)=l++[Ze (ks.getD i.toNat Tree.nil)]:=by rw [Z3d h1 hc,Z5a,h5]
   exact ⟨by omega,by simp only [Z5I];omega,by simp only [ZfJ];omega,by simp only [Qh,QK];omega,by unfold InR;omega,(i+1,_),rfl,⟨by dsimp only;omega,by dsimp only;omega,hnx.symm⟩,by dsimp only;omega⟩
  ·have hi:ks.take i.toNat=ks:=Qi (by omega)
   rw [hi] at h5
   refine Za (ι:=List Int) (fun p=> Z2n (.mk k ws ks) l p) (fun p=> p.length<=ws.length/\trim p=trim ws) (fun p=> p.length) ws rfl ⟨by omega,rfl⟩ ?_
   rintro w ⟨h6,h7⟩
   refine ZkE N _ _ _ _ _ ?_
   (simp only [vcS])
   refine ⟨id,id,id,id,fun h=> by unfold InR;omega,id,id,fun h=> by omega,id,id,id,fun hc=> ⟨by unfold InR;omega,by omega,_,rfl,⟨by rw [List.length_take];omega,?_⟩,by rw [List.length_take];omega⟩,fun hc=> ?_⟩
   ·rw [Zfc hc.1 hc.2,h7]
   ·have hw:w=trim ws:=by rw [<-h7,Zfe hc]
    refine Za (ι:=List Tree) (fun p=> Z2m (.mk k ws ks) w p) (fun p=> p.length<=l.length/\Yb p=Yb l) (fun p=> p.length) l rfl ⟨by omega,rfl⟩ ?_
    rintro q ⟨h8,h9⟩
    refine ZkD N _ _ _ _ _ ?_
    (simp only [vcS])
    refine ⟨id,id,id,id,fun h=> by unfold InR;omega,id,id,fun h=> by omega,id,id,id,id,fun hc=> ⟨by unfold InR;omega,by omega,_,rfl,⟨by rw [List.length_take];omega,?_⟩,by rw [List.length_take];omega⟩,fun hc=> ?_⟩
    ·rw [Zc3 hc.1 hc.2,h9]
    ·have hq:q=Yb (Yq ks):=by rw [<-h5,<-h9,Zc5 hc]
     have e:Ze (.mk k ws ks)= .mk k w q:=by
      subst hk
      simp only [Ze,hw,hq]
      try rfl
     simp only [Z8V,e]
     exact ⟨⟨rfl,⟨⟨rfl,rfl⟩,⟨rfl,trivial⟩,⟨rfl,trivial⟩,trivial⟩,trivial⟩,trivial⟩
  ·have hi:ks.take i.toNat=ks:=Qi (by omega)
   rw [hi] at h5
   have e:Ze (.mk k ws ks)= .mk k ws l:=by simp only [Ze,if_neg hc0,if_neg hk,h5]
   simp only [Z8V,e]
   exact ⟨⟨rfl,⟨⟨rfl,rfl⟩,⟨rfl,trivial⟩,⟨rfl,trivial⟩,trivial⟩,trivial⟩,trivial⟩
end Go.AM.Ythokdjgpdonhgaa
namespace Go.AM.Ythokdjgpdonhgaa
open Go.AM
mutual
def Z2x:Tree->Int
 | .mk k _ ks=> if k=0\/k=10 then 0 else Z5o ks 1
def Z5o:List Tree->Int->Int
 | [],n=> n
 | t ::r,n=> Z5o r (if n < Z2x t+1 then Z2x t+1 else n)
end
mutual
theorem Z9s:∀ (t:Tree) (d:Int),0<=d->Z8 t d=true->0<=Z2x t/\Z2x t<=d
 | .mk k w ks,d,h0,h=> by
  rw [Z2x]
  split
  ·omega
  ·rename_i hk
   rw [Z8,if_neg (fun e=> hk (.inl e)),if_neg (fun e=> hk (.inr e))] at h
   split at h
   ·cases h
   ·rename_i hd
    have hr:∃ i,ZI i ks (d - 1)=true:=by
     split at h
     ·exact ⟨1,(Q2 _ _▸h).2⟩
     ·exact ⟨k,(Q2 _ _▸h).2⟩
    obtain ⟨i,hr⟩:=hr
    have:=Z9t i ks d 1 (by omega) (by omega) (by omega) hr
    omega
theorem Z9t(i:Int):∀ (ks:List Tree) (d n:Int),1<=d->0<=n->n<=d->ZI i ks (d - 1)=true->n<=Z5o ks n/\Z5o ks n<=d
 | [],d,n,h0,h1,h2,h=> by rw [Z5o];omega
 | t ::r,d,n,h0,h1,h2,h=> by
  rw [ZI] at h
  have h':=(Q2 _ _▸h)
  have h3:=(Q2 _ _▸h'.1)
  have h4:=Z9s t (d - 1) (by omega) h3.2
  rw [Z5o]
  have:=Z9t i r d (if n < Z2x t+1 then Z2x t+1 else n) h0 (by split <;> omega) (by split <;> omega) h'.2
  split at this <;> split <;> omega
end
mutual
theorem Z5A:∀ (t:Tree) (d e:Int),0<=d->d<=e->Z8 t d=true->Z8 t e=true
 | .mk k w ks,d,e,h0,h1,h=> by
  rw [Z8] at h ⊢
  split
  ·rename_i h2;rw [if_pos h2] at h;exact h
  ·rename_i h2;rw [if_neg h2] at h
   split
   ·rename_i h3;rw [if_pos h3] at h;exact h
   ·rename_i h3;rw [if_neg h3] at h
    by_cases hd:d=0
    ·rw [if_pos hd] at h;cases h
    ·rw [if_neg hd] at h;rw [if_neg (show ¬e=0 by omega)]
     split
     ·rename_i h4;rw [if_pos h4] at h
      have h':=(Q2 _ _▸h)
      exact (Q2 _ _).symm▸⟨h'.1,Z1W 1 ks (d - 1) (e - 1) (by omega) (by omega) h'.2⟩
     ·rename_i h4;rw [if_neg h4] at h
      have h':=(Q2 _ _▸h)
      exact (Q2 _ _).symm▸⟨h'.1,Z1W k ks (d - 1) (e - 1) (by omega) (by omega) h'.2⟩
theorem Z1W(i:Int):∀ (ks:List Tree) (d e:Int),0<=d->d<=e->ZI i ks d=true->ZI i ks e=true
 | [],_,_,_,_,_=> by rw [ZI]
 | t ::r,d,e,h0,h1,h=> by
  rw [ZI] at h ⊢
  have h':=(Q2 _ _▸h)
  have h3:=(Q2 _ _▸h'.1)
  exact (Q2 _ _).symm▸⟨(Q2 _ _).symm▸⟨h3.1,Z5A t d e h0 h1 h3.2⟩,Z1W i r d e h0 h1 h'.2⟩
end
mutual
theorem Z2b:∀ (t:Tree) (d:Int),Z8 t d=true->(Zh t:Int)<=2*weight t+(if t.kind=0 then 1 else 0)
 | .mk k w ks,d,h=> by
  rw [Z8] at h
  show (Zh (.mk k w ks):Int)<=_+(if k=0 then 1 else 0)
  rw [Zh,weight]
  split at h
  ·rename_i hk
   have:=of_decide_eq_true h
   rw [if_pos hk,if_pos hk,this.1,Qy.1 this.2,Zv]
   omega
  ·rename_i hk
   rw [if_neg hk,if_neg hk]
   split at h
   ·rename_i hk
    have:=of_decide_eq_true h
    rw [if_neg (by omega),if_neg (by omega),this.1,Qy.1 this.2,Zv,YF]
    omega
   ·split at h
    ·cases h
    ·split at h
     ·rename_i h1
      have h':=(Q2 _ _▸h)
      have:=Z1j 1 ks (d - 1) h'.2
      rw [if_pos h1]
      rw [if_neg (by omega)] at this
      omega
     ·rename_i h1
      have h':=(Q2 _ _▸h)
      have:=Z1j k ks (d - 1) h'.2
      have hw:=of_decide_eq_true h'.1
      rw [if_neg h1]
      split
      ·rename_i h8
       rw [if_neg (by omega)] at this
       omega
      ·rename_i h8
       rw [if_pos (by omega)] at this
       omega
theorem Z1j(i:Int):∀ (ks:List Tree) (d:Int),ZI i ks d=true->(Zv ks:Int)<=2*YF ks+(if 2<=i/\i<=7\/i=9 then 0 else (ks.length:Int))
 | [],_,_=> by rw [Zv,YF];split <;> simp
 | t ::r,d,h=> by
  rw [ZI] at h
  have h':=(Q2 _ _▸h)
  have h3:=(Q2 _ _▸h'.1)
  have h4:=Z2b t d h3.2
  have h5:=Z1j i r d h'.2
  rw [Zv,YF,Qh]
  split
  ·rename_i hi
   rw [if_pos hi] at h5
   have hk:t.kind≠0:=by
    intro e
    have:=h3.1
    unfold YE at this
    split at this
    ·have:=(of_decide_eq_true (Q2 _ _▸this).1);omega
    ·rw [if_pos (by omega)] at this
     have:=of_decide_eq_true this;omega
   rw [if_neg hk] at h4
   omega
  ·rename_i hi
   rw [if_neg hi] at h5
   split at h4 <;> omega
end
theorem Z15{l:List (List Int)}(hl:ZX l){x:XRef}(hx:OkX l x):(∀ y∈Zg l x,0<=y/\y < 18446744073709551616)/\((Zg l x).length:Int)=(if x.kind=10 then 1 else if x.kind=1 then x.data else 0):=by
 unfold Zg
 split
 ·refine ⟨fun y hy=> ?_,rfl⟩
  rw [Qp.1 hy];exact hx.n
 ·split
  ·rename_i h1
   refine ⟨fun y hy=> (ZU hl x.s).2 y (Xm (X9 hy)),?_⟩
   have:=Zm.1 (hx.one h1)
   have:=hx.data
   have:=hx.ptrs
   have:=hx.at_
   rw [Qa,X4]
   omega
  ·exact ⟨fun y hy=> (by cases hy),rfl⟩
theorem ZfU{l:List Int}(h:∀ x∈l,0<=x/\x < 18446744073709551616)(c i:Int)(hc:0<=c/\c<=5):J6 c (YW l c i)=true:=by
 have hw:0<=wd c:=by
  unfold wd;repeat' split
  all_goals omega
 refine decide_eq_true ⟨hw,?_⟩
 unfold YW
 split
 ·exact Kb (by decide)
 ·exact X2 _ (Kb (by decide))
theorem Z5g {f:Int->Int->Tree × Int × Int} {P:Tree->Prop} {N c:Int}
  (hf:∀ i left,0<=i->i < N->0<=left->left<=65536->(f i left).2.2=0->P (f i left).1/\0<=(f i left).2.1/\(f i left).2.1<=left/\weight (f i left).1=left - (f i left).2.1+c):
  ∀ (n:Nat) (i left:Int) (acc:List Tree),0<=i->i+n<=N->0<=left->left<=65536->(Zz f n i left acc).2.2=0->
   ∃ ks,(Zz f n i left acc).1=acc++ks/\ks.length=n/\(∀ k∈ks,P k)/\0<=(Zz f n i left acc).2.1/\(Zz f n i left acc).2.1<=left/\YF ks=left - (Zz f n i left acc).2.1+n*c
 | 0,i,left,acc,_,_,h0,_,_=> ⟨[],by simp [Zz,YF];exact h0⟩
 | n+1,i,left,acc,hi,hn,h0,h9,he=> by
  simp only [Zz] at he ⊢
  by_cases h1:(f i left).2.2=0
  ·rw [if_pos h1] at he ⊢
   obtain ⟨p1,p2,p4,p3⟩:=hf i left hi (by omega) h0 h9 h1
   obtain ⟨ks,q1,q2,q3,q4,q6,q5⟩:=Z5g hf n (i+1) (f i left).2.1 (acc++[(f i left).1]) (by omega) (by omega) p2 (by omega) he
   refine ⟨(f i left).1 ::ks,by rw [q1];simp,by simp [q2],?_,q4,by omega,?_⟩
   ·intro k hk
    rcases QJ.1 hk with rfl | hk
    ·exact p1
    ·exact q3 k hk
   ·rw [YF,q5,p3]
    rw [QD,Kc]
    omega
  ·rw [if_neg h1] at he
   exact absurd he h1
theorem Z4X{i:Int}{d:Int}:∀ {ks:List Tree},(∀ k∈ks,YE i k=true/\Z8 k d=true)->ZI i ks d=true
 | [],_=> by rw [ZI]
 | t ::r,h=> by
  rw [ZI,(h t (QH ..)).1,(h t (QH ..)).2,Z4X (ks:=r) fun k hk=> h k (Qn _ hk)]
  try rfl
theorem Z9S:∀ {ks:List Tree},(∀ k∈ks,rng k)->Z1B ks
 | [],_=> trivial
 | t ::r,h=> ⟨h t (QH ..),Z9S (ks:=r) fun k hk=> h k (Qn _ hk)⟩
def ZbW(l:List (List Int))(m:XRef->Int->Tree × Int × Int)(d:Int):Prop:=
 ∀ x left,OkX l x->0<=left->left<=65536->(m x left).2.2=0->
  (m x left).1.kind=x.kind/\Z8 (m x left).1 d=true/\rng (m x left).1/\0<=(m x left).2.1/\weight (m x left).1=left - (m x left).2.1
theorem Z9m{l:List (List Int)}(hl:ZX l)(s a:Int):(Zp l s a).1.kind≠10:=by
 have hp:=(Z0e hl s a).p
 have hk:=(Z0e hl s a).kind
 have hc:=hp.code
 unfold Zp
 split
 ·simp [xz]
 ·split
  ·simp
  ·split
   ·show 2+_≠_;omega
   ·unfold Jw
    split <;> simp [xz]
theorem ZeA{l:List (List Int)}(hl:ZX l){x:XRef}{i k:Int}(hk:x.kind=1\/x.kind=8)(h1:¬(2<=k/\k<=7))(h9:k≠9){t:Tree}(ht:t.kind=(Zc l x i).1.kind):YE k t=true:=by
 unfold YE
 rw [if_neg h1,if_neg h9]
 refine decide_eq_true ?_
 rw [ht]
 unfold Zc
 split
 ·simp [xz]
 ·rcases hk with e | e
  ·rw [if_pos e];exact Z9m hl _ _
  ·rw [if_neg (by omega),if_pos e];exact Z9m hl _ _
theorem ZcO{l:List (List Int)}(hl:ZX l){m:XRef->Int->Tree × Int × Int}{d:Int}(hd:0<=d)(hm:ZbW l m d){x:XRef}(hx:OkX l x)(h1:x.kind=1)(left:Int)(h0:0<=left)(h9:left<=65536)(he:(YG l m x left).2.2=0):
  (YG l m x left).1.kind=1/\Z8 (YG l m x left).1 (d+1)=true/\rng (YG l m x left).1/\0<=(YG l m x left).2.1/\(YG l m x left).2.1<=left/\weight (YG l m x left).1=left - (YG l m x left).2.1+(1+x.data+x.ptrs):=by
 have hw:=Z15 hl hx
 rw [if_neg (by omega),if_pos h1] at hw
 have hdt:=hx.data
 have hpt:=hx.ptrs
 unfold YG at he ⊢
 obtain ⟨ks,q1,q2,q3,q4,q6,q5⟩:=Z5g (P:=fun k=> (YE 1 k=true/\Z8 k d=true)/\rng k) (N:=x.ptrs) (c:=0) (f:=fun j left=> if (Zc l x j).2=0 then m (Zc l x j).1 left else (Tree.nil,left,(Zc l x j).2)) (by
  intro i left hi hn h0 h9 he
  by_cases h2:(Zc l x i).2=0
  ·simp only [h2,if_true] at he ⊢
   obtain ⟨g1,g2,g3,g4,g5⟩:=hm _ _ (Yv hl hx i) h0 h9 he
   have:=(Z16 (m (Zc l x i).1 left).1).1
   exact ⟨⟨⟨ZeA hl (.inl h1) (by omega) (by omega) g1,g2⟩,g3⟩,g4,by omega,by rw [g5,Int.add_zero]⟩
  ·simp only [h2,if_false] at he) x.ptrs.toNat 0 left [] (by omega) (by omega) h0 h9 he
 dsimp only at q1 q4 q5 q6 ⊢
 rw [q1,Xh]
 refine ⟨rfl,?_,?_,q4,q6,?_⟩
 ·rw [Z8,if_neg (by omega),if_neg (by omega),if_neg (by omega),if_pos rfl,show d+1 - 1=d by omega,Z4X fun k hk=> (q3 k hk).1]
  refine (Q2 _ _).symm▸⟨decide_eq_true ⟨by omega,by omega⟩,rfl⟩
 ·exact ⟨⟨by omega,by omega⟩,hw.1,Z9S fun k hk=> (q3 k hk).2⟩
 ·rw [weight,if_neg (by omega),if_pos rfl,q5]
  omega
theorem Z3e{l:List (List Int)}(hl:ZX l){d:Nat}{m m':XRef->Int->Tree × Int × Int}(hm:1<=d->ZbW l m ((d:Int) - 1))(hm':2<=d->ZbW l m' ((d:Int) - 2)):ZbW l (Yy l d m m') d:=by
 intro x left hx h0 h9 he
 have hw:=Z15 hl hx
 have hdt:=hx.data
 have hpt:=hx.ptrs
 have hk:=hx.kind
 have hc:=hx.count
 unfold Yy at he ⊢
 by_cases hk0:x.kind=0
 ·rw [if_neg (by omega),if_neg (by omega)] at hw
  have e:Zg l x=[]:=Qy.1 (by omega)
  rw [if_pos hk0,e]
  refine ⟨hk0.symm,?_,?_,h0,?_⟩
  ·rw [Z8,if_pos rfl];try rfl
  ·exact ⟨⟨by omega,by omega⟩,fun y hy=> (by cases hy),trivial⟩
  ·show weight ⟨0,[],[]⟩=left - left
   rw [weight,if_pos rfl];omega
 ·rw [if_neg hk0] at he ⊢
  by_cases hq:d=0\/(x.kind=9/\0 < x.count/\d < 2)\/left < ZC x
  ·rw [if_pos hq] at he;cases he
  ·rw [if_neg hq] at he ⊢
   have hown:=Z24 hx
   have hkx:=Z4e hx
   have key:∃ c:Int,ZC x=1+(if x.kind=1 then x.data+Zf x else if x.kind=8 then Zf x else 0)+Zf x*c/\
     ∀ i left,0<=i->i < Zf x->0<=left->left<=65536->(ZY l m m' x i left).2.2=0->
      ((YE x.kind (ZY l m m' x i left).1=true/\Z8 (ZY l m m' x i left).1 ((d:Int) - 1)=true)/\rng (ZY l m m' x i left).1)/\0<=(ZY l m m' x i left).2.1/\(ZY l m m' x i left).2.1<=left/\
      weight (ZY l m m' x i left).1=left - (ZY l m m' x i left).2.1+c:=by
    by_cases h18:x.kind=1\/x.kind=8
    ·refine ⟨0,?_,?_⟩
     ·unfold ZC Zf
      rcases h18 with e | e
      ·rw [if_pos e,if_pos e,if_pos e];omega
      ·rw [if_neg (by omega),if_neg (by omega),if_neg (by omega),if_pos e,if_neg (by omega)];omega
     ·intro i left hi hn h0 h9 he
      unfold ZY at he ⊢
      by_cases h2:(Zc l x i).2=0
      ·rw [if_pos h2,if_neg (by omega),if_pos h18] at he ⊢
       obtain ⟨g1,g2,g3,g4,g5⟩:=hm (by omega) _ _ (Yv hl hx i) h0 h9 he
       have:=(Z16 (m (Zc l x i).1 left).1).1
       exact ⟨⟨⟨ZeA hl h18 (by omega) (by omega) g1,g2⟩,g3⟩,g4,by omega,by rw [g5,Int.add_zero]⟩
      ·rw [if_neg h2] at he;exact absurd he h2
    ·by_cases h99:x.kind=9
     ·refine ⟨1+x.data+x.ptrs,?_,?_⟩
      ·unfold ZC Zf
       rw [if_neg (by omega),if_pos h99,if_neg (by omega),if_neg (by omega),if_neg (by omega)];omega
      ·intro i left hi hn h0 h9 he
       have e:Zf x=x.count:=by unfold Zf;rw [if_neg (by omega)]
       have ek:Zc l x i=(⟨1,x.s,x.at_+i*(x.data+x.ptrs),x.data,x.ptrs,0,0⟩,0):=by
        unfold Zc;rw [if_neg (by omega),if_neg (by omega),if_neg (by omega),if_pos h99]
       have hkk:=Yv hl hx i
       unfold ZY at he ⊢
       rw [ek] at he hkk ⊢
       rw [if_pos rfl,if_pos h99] at he ⊢
       obtain ⟨g1,g2,g3,g4,g6,g5⟩:=ZcO hl (d:=(d:Int) - 2) (by omega) (hm' (by omega)) hkk rfl left h0 h9 he
       refine ⟨⟨⟨?_,by rw [show (d:Int) - 1=d - 2+1 by omega];exact g2⟩,g3⟩,g4,g6,g5⟩
       unfold YE
       rw [if_neg (by omega),if_pos h99]
       exact decide_eq_true g1
     ·refine ⟨1,?_,?_⟩
      ·unfold ZC Zf
       rw [if_neg (by omega),if_neg h99,if_neg (by omega),if_neg (by omega),if_neg (by omega)];omega
      ·intro i left hi hn h0 h9 he
       have e:Zf x=x.count:=by unfold Zf;rw [if_neg (by omega)]
       have hz:=hx.zero
       have ek:Zc l x i=(⟨10,0,0,0,0,0,YW ((Yk l x.s).drop x.at_.toNat) (x.kind - 2) i⟩,0):=by
        unfold Zc;rw [if_neg (by omega),if_neg (by omega),if_neg (by omega),if_neg (by omega)]
       have hkk:=Yv hl hx i
       rw [ek] at hkk
       have em:ZY l m m' x i left=(⟨10,[YW ((Yk l x.s).drop x.at_.toNat) (x.kind - 2) i],[]⟩,left,0):=by
        unfold ZY
        rw [ek,if_pos rfl,if_neg h99,if_neg h18]
        try rfl
       rw [em]
       refine ⟨⟨⟨?_,?_⟩,⟨by omega,by omega⟩,?_,trivial⟩,h0,QQ _,?_⟩
       ·unfold YE
        rw [if_pos (by omega)]
        refine (Q2 _ _).symm▸⟨decide_eq_true ⟨rfl,rfl,rfl⟩,?_⟩
        exact ZfU (fun y hy=> (ZU hl x.s).2 y (Xm hy)) _ _ (by omega)
       ·rw [Z8,if_neg (by omega),if_pos rfl];try rfl
       ·exact (Z15 hl hkk).1
       ·show weight ⟨10,_,[]⟩=left - left+1
        rw [weight,if_neg (by omega),if_neg (by omega),if_neg (by omega),YF];omega
   obtain ⟨c,hc1,hc2⟩:=key
   obtain ⟨ks,q1,q2,q3,q4,q6,q5⟩:=Z5g (P:=fun k=> (YE x.kind k=true/\Z8 k ((d:Int) - 1)=true)/\rng k) (N:=Zf x) hc2 (Zf x).toNat 0 (left - ZC x) [] (by omega) (by omega) (by omega) (by omega) he
   dsimp only
   rw [q1,Xh]
   rw [Xq hkx.1] at q5
   have q2':(ks.length:Int)=Zf x:=by rw [q2,Xq hkx.1]
   refine ⟨rfl,?_,⟨⟨by omega,by omega⟩,hw.1,Z9S fun k hk=> (q3 k hk).2⟩,q4,?_⟩
   ·rw [Z8,if_neg hk0]
    split
    ·rename_i h10
     rw [if_pos h10] at hw
     have:=hx.zero (.inr h10)
     have e:Zf x=0:=by unfold Zf;rw [if_neg (by omega)];exact this
     exact decide_eq_true ⟨by omega,by omega⟩
    ·rename_i h10
     rw [if_neg h10] at hw
     rw [if_neg (by omega)]
     have hr:=Z4X fun k hk=> (q3 k hk).1
     split
     ·rename_i h1
      rw [if_pos h1] at hw
      rw [h1] at hr
      rw [hr]
      have e:Zf x=x.ptrs:=by unfold Zf;rw [if_pos h1]
      exact (Q2 _ _).symm▸⟨decide_eq_true ⟨by omega,by omega⟩,rfl⟩
     ·rename_i h1
      rw [if_neg h1] at hw
      rw [hr]
      exact (Q2 _ _).symm▸⟨decide_eq_true ⟨by omega,by omega,by omega,by omega⟩,rfl⟩
   ·rw [weight,if_neg hk0,q5,q2',hc1]
    split
    ·rename_i h1
     rw [if_neg (by omega),if_pos h1] at hw
     omega
    ·omega
theorem Z9e{l:List (List Int)}(hl:ZX l):∀ d:Nat,ZbW l (Zl l d) d:=by
 intro d
 induction d using Nat.strongRecOn with
 | ind d ih=>
  match d with
  | 0=> exact Z3e hl (fun h=> absurd h (by decide)) (fun h=> absurd h (by decide))
  | 1=> exact Z3e hl (fun _=> ih 0 (by omega)) (fun h=> absurd h (by decide))
  | d+2=>
   refine Z3e hl (fun _=> ?_) (fun _=> ?_)
   ·have:=ih (d+1) (by omega)
    rw [show ((d+2:Nat):Int) - 1=((d+1:Nat):Int) by omega]
    exact this
   ·have:=ih d (by omega)
    rw [show ((d+2:Nat):Int) - 2=((d:Nat):Int) by omega]
    exact this
end Go.AM.Ythokdjgpdonhgaa
namespace Go.AM.Ythokdjgpdonhgaa
open Go.AM Go.Proofs
def frW:List Tree->Nat
 | []=> 0
 | t ::r=> max t.words.length (frW r)
def frK:List Tree->Nat
 | []=> 0
 | t ::r=> max t.kids.length (frK r)
mutual
def Zq:Tree->Nat
 | .mk k w ks=>
  if k=1 then w.length+ks.length+ZD ks
  else if k=8 then ks.length+ZD ks
  else if k=9 then 1+ks.length*(frW ks+frK ks)+Y7 ks
  else if 2<=k/\k<=7 then (ZK (k - 2) ks.length).toNat
  else ZD ks
def ZD:List Tree->Nat
 | []=> 0
 | t ::r=> Zq t+ZD r
def Y7:List Tree->Nat
 | []=> 0
 | .mk _ _ ks ::r=> ZD ks+Y7 r
end
def Z0b(a to kind up:Int):Int:=4*((to - a - 1) % 1073741824)+kind+4294967296*up
def ZO(a to:Int):Tree->Int
 | .mk k w ks=>
  if k=0 then 0
  else if k=1 then Z0b a (if w.length+ks.length=0 then a else to) 0 (w.length+65536*ks.length)
  else if k=8 then Z0b a to 1 (6+8*ks.length)
  else if k=9 then Z0b a to 1 (7+8*(ks.length*(frW ks+frK ks):Nat))
  else Z0b a to 1 (k - 2+8*ks.length)
def Z1F(n fw fk:Nat):Int:=4*n+4294967296*(fw+65536*fk)
def Yd(ks:List Tree):List Int:=ks.map fun t=> t.words.getD 0 0
mutual
def Z0q:Tree->Int->List Int
 | .mk k w ks,to=>
  if k=0 then []
  else if k=1 then w++((Zt ks (to+w.length) (to+w.length+ks.length)).1++(Zt ks (to+w.length) (to+w.length+ks.length)).2)
  else if k=8 then (Zt ks to (to+ks.length)).1++(Zt ks to (to+ks.length)).2
  else if k=9 then Z1F ks.length (frW ks) (frK ks) ::((ZS (frW ks) (frK ks) ks (to+1) (to+1+(ks.length*(frW ks+frK ks):Nat))).1++(ZS (frW ks) (frK ks) ks (to+1) (to+1+(ks.length*(frW ks+frK ks):Nat))).2)
  else Z3W (k - 2) (Yd ks)
def Zt:List Tree->Int->Int->List Int × List Int
 | [],_,_=> ([],[])
 | t ::r,a,to=> (ZO a to t ::(Zt r (a+1) (to+(Z0q t to).length)).1,Z0q t to++(Zt r (a+1) (to+(Z0q t to).length)).2)
def ZS(fw fk:Nat):List Tree->Int->Int->List Int × List Int
 | [],_,_=> ([],[])
 | .mk _ w ks ::r,a,to=>
  (w++(List.replicate (fw - w.length) 0++((Zt ks (a+fw) to).1++(List.replicate (fk - ks.length) 0++(ZS fw fk r (a+(fw+fk)) (to+(Zt ks (a+fw) to).2.length)).1))),
   (Zt ks (a+fw) to).2++(ZS fw fk r (a+(fw+fk)) (to+(Zt ks (a+fw) to).2.length)).2)
end
def YZ(l:List Int)(a:Int)(t:Tree):List Int:=if t.kind=0 then l else l.set a.toNat (ZO a l.length t)++Z0q t l.length
def YN(t:Tree)(most:Int):List Int × Bool:=
 if Z8 t 64=true/\t.kind≠10 then
  if (Zq (Ze t):Int) < most/\Zq (Ze t) < 131072 then (YZ [0] 0 (Ze t),true) else ([],false)
 else ([],false)
theorem JE:∀ (ks:List Tree) (a to:Int),(Zt ks a to).1.length=ks.length
 | [],_,_=> by rw [Zt];try rfl
 | t ::r,a,to=> by rw [Zt,Qh,Qh,JE r]
theorem Z84:∀ (ks:List Tree) (t:Tree) (a to:Int),
  Zt (ks++[t]) a to=((Zt ks a to).1++[ZO (a+ks.length) (to+(Zt ks a to).2.length) t],(Zt ks a to).2++Z0q t (to+(Zt ks a to).2.length))
 | [],t,a,to=> by simp [Zt]
 | k ::r,t,a,to=> by
  rw [QN,Zt,Z84 r t,Zt]
  rw [show a+1+(r.length:Int)=a+((k ::r:List Tree).length:Nat) by rw [Qh];omega,
   show to+((Z0q k to).length:Int)+((Zt r (a+1) (to+(Z0q k to).length)).2.length:Int)=to+((Z0q k to++(Zt r (a+1) (to+(Z0q k to).length)).2).length:Nat) by rw [Q3];omega]
  simp only [QN,Qb]
def ZN(A S:List Int)(ks:List Tree)(to:Int)(i:Nat):List Int:=
 A++((Zt (ks.take i) A.length to).1++(List.replicate (ks.length - i) 0++(S++(Zt (ks.take i) A.length to).2)))
theorem Z4O{ks:List Tree}{i:Nat}(h:i < ks.length):ks.take (i+1)=ks.take i++[ks.getD i Tree.nil]:=by
 rw [Q7,Q0 h,QL]
 exact (XC h).symm
theorem Z83(A S:List Int)(ks:List Tree)(to:Int){i:Nat}(h:i<=ks.length):(ZN A S ks to i).length=A.length+ks.length+S.length+(Zt (ks.take i) A.length to).2.length:=by
 unfold ZN
 simp only [Q3,X5,JE,Qa]
 omega
theorem Z2F{A S:List Int}{ks:List Tree}{i:Nat}(h:i < ks.length):
  YZ (ZN A S ks (A.length+ks.length+S.length:Nat) i) (A.length+i) (ks.getD i Tree.nil)=ZN A S ks (A.length+ks.length+S.length:Nat) (i+1):=by
 have hl:=Z83 A S ks (A.length+ks.length+S.length:Nat) (K6 h)
 generalize ht:ks.getD i Tree.nil=t
 have hz:List.replicate (ks.length - i) (0:Int)=0 ::List.replicate (ks.length - (i+1)) 0:=by
  rw [<-List.replicate_succ];congr 1;omega
 have htk:(ks.take i).length=i:=by rw [Qa];omega
 have hsn:ZN A S ks (A.length+ks.length+S.length:Nat) (i+1)=
   A++((Zt (ks.take i) A.length (A.length+ks.length+S.length:Nat)).1++(ZO (A.length+i) (ZN A S ks (A.length+ks.length+S.length:Nat) i).length t ::
    (List.replicate (ks.length - (i+1)) 0++(S++((Zt (ks.take i) A.length (A.length+ks.length+S.length:Nat)).2++Z0q t (ZN A S ks (A.length+ks.length+S.length:Nat) i).length))))):=by
  rw [hl]
  conv=> lhs;unfold ZN
  rw [Z4O h,Z84,ht,htk]
  simp only [Qb,Xv,QD]
 rw [hsn]
 have hset:(ZN A S ks (A.length+ks.length+S.length:Nat) i).set (A.length+i) (ZO (A.length+i) (ZN A S ks (A.length+ks.length+S.length:Nat) i).length t)=
   A++((Zt (ks.take i) A.length (A.length+ks.length+S.length:Nat)).1++(ZO (A.length+i) (ZN A S ks (A.length+ks.length+S.length:Nat) i).length t ::(List.replicate (ks.length - (i+1)) 0++(S++(Zt (ks.take i) A.length (A.length+ks.length+S.length:Nat)).2)))):=by
  generalize ZO (A.length+i) (ZN A S ks (A.length+ks.length+S.length:Nat) i).length t=x
  unfold ZN
  rw [hz,XM _ _ (by omega),XM _ _ (by rw [JE,htk];omega),JE,htk,show A.length+i - A.length - i=0 by omega]
  try rfl
 unfold YZ
 rw [show ((A.length:Int)+(i:Int)).toNat=A.length+i by omega]
 by_cases h0:t.kind=0
 ·rw [if_pos h0]
  have hh:ZO (A.length+i) (ZN A S ks (A.length+ks.length+S.length:Nat) i).length t=0:=by cases t;exact if_pos h0
  have hb:∀ to,Z0q t to=[]:=by intro to;cases t;rw [Z0q];exact if_pos h0
  rw [hh,hb,Xa]
  unfold ZN
  rw [hz]
  try rfl
 ·rw [if_neg h0,hset]
  simp only [Qb,QN]
theorem Z0G(A S:List Int)(ks:List Tree)(to:Int):ZN A S ks to 0=A++(List.replicate ks.length 0++S):=by
 unfold ZN
 simp [Zt]
theorem Z0j(A S:List Int)(ks:List Tree)(to:Int):ZN A S ks to ks.length=A++((Zt ks A.length to).1++(S++(Zt ks A.length to).2)):=by
 unfold ZN
 simp
theorem Z0L{fw fk:Nat}:∀ (ks:List Tree) (a to:Int),(∀ t∈ks,t.words.length<=fw/\t.kids.length<=fk)->(ZS fw fk ks a to).1.length=ks.length*(fw+fk)
 | [],_,_,_=> by rw [ZS];simp
 | .mk k w l ::r,a,to,h=> by
  have h1:w.length<=fw/\l.length<=fk:=h _ QH
  rw [ZS]
  simp only [Q3,X5,JE,Qh]
  rw [Z0L r _ _ fun t ht=> h t (Qn _ ht),Qd]
  omega
theorem Z7n{fw fk:Nat}:∀ (ks:List Tree) (t:Tree) (a to:Int),
  ZS fw fk (ks++[t]) a to=((ZS fw fk ks a to).1++(t.words++(List.replicate (fw - t.words.length) 0++((Zt t.kids (a+(ks.length*(fw+fk):Nat)+fw) (to+(ZS fw fk ks a to).2.length)).1++List.replicate (fk - t.kids.length) 0))),
   (ZS fw fk ks a to).2++(Zt t.kids (a+(ks.length*(fw+fk):Nat)+fw) (to+(ZS fw fk ks a to).2.length)).2)
 | [],.mk k w l,a,to=> by simp [ZS]
 | .mk k w l ::r,t,a,to=> by
  rw [QN,ZS,Z7n r t,ZS]
  have e1:a+((fw:Int)+fk)+(r.length*(fw+fk):Nat)+fw=a+(((.mk k w l ::r:List Tree).length*(fw+fk):Nat))+fw:=by
   rw [Qh,Qd];omega
  have e2:to+((Zt l (a+fw) to).2.length:Int)+((ZS fw fk r (a+(fw+fk)) (to+(Zt l (a+fw) to).2.length)).2.length:Int)=
    to+((((Zt l (a+fw) to).2++(ZS fw fk r (a+(fw+fk)) (to+(Zt l (a+fw) to).2.length)).2).length:Nat):Int):=by
   rw [Q3];omega
  rw [e1,e2]
  simp only [Qb]
theorem Zat:∀ {ks:List Tree} {t:Tree},t∈ks->t.words.length<=frW ks/\t.kids.length<=frK ks
 | k ::r,t,h=> by
  rw [frW,frK]
  rcases QJ.1 h with rfl | h
  ·omega
  ·have:=Zat h;omega
theorem Z1e{i:Int}:∀ {ks:List Tree} {d:Int} {t:Tree},ZI i ks d=true->t∈ks->YE i t=true/\Z8 t d=true
 | k ::r,d,t,h,ht=> by
  rw [ZI,Q2,Q2] at h
  rcases QJ.1 ht with rfl | ht
  ·exact h.1
  ·exact Z1e h.2 ht
structure RiT (k:Int) (w:List Int) (ks:List Tree) (d:Int):Prop where
 kind:0<=k/\k<=10
 nil:k=0->w=[]/\ks=[]
 atom:k=10->w.length=1/\ks=[]
 stru:k=1->w.length < 65536/\ks.length < 65536
 list:k≠1->k≠10->w=[]
 len:ks.length < 1048576
 kids:∀ t∈ks,Z8 t (d - 1)=true/\(k≠1->YE k t=true)/\(k=1\/k=8->t.kind≠10)/\(k=9->t.kind=1)
 data:2<=k->k<=7->Jf (k - 2) (Yd ks)=true/\∀ t∈ks,t.kind=10/\t.kids.length=0/\t.words.length=1
theorem riT{k:Int}{w:List Int}{ks:List Tree}{d:Int}(h:Z8 (.mk k w ks) d=true):RiT k w ks d:=by
 rw [Z8] at h
 split at h
 ·rename_i h0
  have:=of_decide_eq_true h
  have h1:=Qy.1 this.1
  have h2:=Qy.1 this.2
  subst h1 h2
  exact ⟨by omega,fun _=> ⟨rfl,rfl⟩,by omega,by omega,fun _ _=> rfl,by simp,fun t ht=> (by cases ht),by omega⟩
 ·split at h
  ·have:=of_decide_eq_true h
   have h2:=Qy.1 this.2
   subst h2
   exact ⟨by omega,by omega,fun _=> ⟨this.1,rfl⟩,by omega,by omega,by simp,fun t ht=> (by cases ht),by omega⟩
  ·split at h
   ·cases h
   ·split at h
    ·rename_i h1
     rw [Q2] at h
     have hw:=of_decide_eq_true h.1
     refine ⟨by omega,by omega,by omega,fun _=> hw,by omega,by omega,fun t ht=> ?_,by omega⟩
     have:=Z1e h.2 ht
     refine ⟨this.2,by omega,fun _=> ?_,by omega⟩
     have hb:=this.1
     unfold YE at hb
     rw [if_neg (by omega),if_neg (by omega)] at hb
     exact of_decide_eq_true hb
    ·rename_i h1
     rw [Q2] at h
     have hw:=of_decide_eq_true h.1
     refine ⟨by omega,by omega,by omega,by omega,fun _ _=> Qy.1 hw.2.2.1,by omega,fun t ht=> ?_,fun h2 h7=> ?_⟩
     ·have:=Z1e h.2 ht
      refine ⟨this.2,fun _=> this.1,fun h8=> ?_,fun h9=> ?_⟩
      ·have hb:=this.1
       unfold YE at hb
       rw [if_neg (by omega),if_neg (by omega)] at hb
       exact of_decide_eq_true hb
      ·have hb:=this.1
       unfold YE at hb
       rw [if_neg (by omega),if_pos h9] at hb
       exact of_decide_eq_true hb
     ·have hk:∀ t∈ks,(t.kind=10/\t.kids.length=0/\t.words.length=1)/\J6 (k - 2) (t.words.getD 0 0)=true:=fun t ht=> by
       have hb:=(Z1e h.2 ht).1
       unfold YE at hb
       rw [if_pos ⟨h2,h7⟩,Q2] at hb
       exact ⟨of_decide_eq_true hb.1,hb.2⟩
      refine ⟨?_,fun t ht=> (hk t ht).1⟩
      unfold Jf
      rw [Q2]
      refine ⟨decide_eq_true ?_,Qf.2 fun x hx=> ?_⟩
      ·unfold wd;repeat' split
       all_goals omega
      ·obtain ⟨t,ht,rfl⟩:=Xn.1 hx
       exact (hk t ht).2
mutual
theorem Z8i:∀ (t:Tree) (d to:Int),Z8 t d=true->t.kind≠10->(Z0q t to).length=Zq t
 | .mk k w ks,d,to,h,h10=> by
  have hr:=riT h
  have h10:k≠10:=h10
  rw [Z0q,Zq]
  split
  ·rename_i h0
   subst h0
   rw [if_neg (by decide),if_neg (by decide),if_neg (by decide),if_neg (by decide),(hr.nil rfl).2]
   try rfl
  ·rename_i h0
   split
   ·rename_i h1
    rw [Q3,Q3,JE,Z2G ks (d - 1) _ _ fun t ht=> ⟨(hr.kids t ht).1,(hr.kids t ht).2.2.1 (.inl h1)⟩]
    omega
   ·split
    ·rename_i h8
     rw [Q3,JE,Z2G ks (d - 1) _ _ fun t ht=> ⟨(hr.kids t ht).1,(hr.kids t ht).2.2.1 (.inr h8)⟩]
    ·split
     ·rename_i h9
      rw [Qh,Q3,Z0L ks _ _ fun t ht=> Zat ht,Z8P (frW ks) (frK ks) ks (d - 1) _ _ fun t ht=> ⟨(hr.kids t ht).1,(hr.kids t ht).2.2.2 h9⟩]
      omega
     ·have hk:=hr.kind
      rw [if_pos (by omega)]
      unfold Z3W
      rw [if_pos (hr.data (by omega) (by omega)).1,Z7D,Yd,QW]
theorem Z2G:∀ (ks:List Tree) (d a to:Int),(∀ t∈ks,Z8 t d=true/\t.kind≠10)->(Zt ks a to).2.length=ZD ks
 | [],_,_,_,_=> by rw [Zt,ZD];try rfl
 | t ::r,d,a,to,h=> by
  have h1:=h t QH
  rw [Zt,ZD,Q3,Z8i t d to h1.1 h1.2,Z2G r d _ _ fun t ht=> h t (Qn _ ht)]
theorem Z8P(fw fk:Nat):∀ (ks:List Tree) (d a to:Int),(∀ t∈ks,Z8 t d=true/\t.kind=1)->(ZS fw fk ks a to).2.length=Y7 ks
 | [],_,_,_,_=> by rw [ZS,Y7];try rfl
 | .mk k w l ::r,d,a,to,h=> by
  have h1:=h _ QH
  have h1k:k=1:=h1.2
  have hr:=riT h1.1
  rw [ZS,Y7,Q3,Z2G l (d - 1) _ _ fun t ht=> ⟨(hr.kids t ht).1,(hr.kids t ht).2.2.1 (.inl h1k)⟩,Z8P fw fk r d _ _ fun t ht=> h t (Qn _ ht)]
end
def zs(n:Nat):List Int:=List.replicate n 0
@[simp] theorem Y6 (n:Nat):(zs n).length=n:=by simp [zs]
theorem Z14(n m:Nat):zs (n+m)=zs n++zs m:=by rw [zs,zs,zs,List.replicate_append_replicate]
def Ju(A R:List Int)(fw fk:Nat)(ks:List Tree)(i:Nat):List Int:=
 A++((ZS fw fk (ks.take i) A.length (A.length+ks.length*(fw+fk):Nat)).1++(R++(ZS fw fk (ks.take i) A.length (A.length+ks.length*(fw+fk):Nat)).2))
def Z2S(A:List Int)(fw fk:Nat)(ks:List Tree)(i:Nat):List Int:=
 A++((ZS fw fk (ks.take i) A.length (A.length+ks.length*(fw+fk):Nat)).1++((ks.getD i Tree.nil).words++zs (fw - (ks.getD i Tree.nil).words.length)))
def Z3h(A R:List Int)(fw fk:Nat)(ks:List Tree)(i:Nat):List Int:=
 zs (fk - (ks.getD i Tree.nil).kids.length)++(R++(ZS fw fk (ks.take i) A.length (A.length+ks.length*(fw+fk):Nat)).2)
def Fit(fw fk:Nat)(ks:List Tree):Prop:=∀ t∈ks,t.words.length<=fw/\t.kids.length<=fk
theorem Fit.get{fw fk:Nat}{ks:List Tree}(h:Fit fw fk ks){i:Nat}(hi:i < ks.length):(ks.getD i Tree.nil).words.length<=fw/\(ks.getD i Tree.nil).kids.length<=fk:=by
 rw [Q7,Q0 hi]
 exact h _ (Xd hi)
theorem Fit.take{fw fk:Nat}{ks:List Tree}(h:Fit fw fk ks)(i:Nat):Fit fw fk (ks.take i):=fun t ht=> h t (X9 ht)
theorem Z3V{A:List Int}{fw fk:Nat}{ks:List Tree}(h:Fit fw fk ks){i:Nat}(hi:i < ks.length):(Z2S A fw fk ks i).length=A.length+i*(fw+fk)+fw:=by
 have:=h.get hi
 unfold Z2S
 rw [Q3,Q3,Q3,Y6,Z0L _ _ _ (h.take i),Qa,QI (by omega)]
 omega
theorem Z7o{A R:List Int}{fw fk:Nat}{ks:List Tree}(h:Fit fw fk ks){i:Nat}(hi:i < ks.length)(hR:R.length=(ks.length - (i+1))*(fw+fk)):
  (Z2S A fw fk ks i).length+(ks.getD i Tree.nil).kids.length+(Z3h A R fw fk ks i).length=A.length+ks.length*(fw+fk)+(ZS fw fk (ks.take i) A.length (A.length+ks.length*(fw+fk):Nat)).2.length:=by
 have:=h.get hi
 have e:ks.length*(fw+fk)=i*(fw+fk)+(fw+fk)+(ks.length - (i+1))*(fw+fk):=by
  rw [<-K5,<-Qd];congr 1;omega
 rw [Z3V h hi]
 unfold Z3h
 rw [Q3,Q3,Y6,hR]
 omega
theorem ZaT{A R:List Int}{fw fk:Nat}{ks:List Tree}(h:Fit fw fk ks){i:Nat}(hi:i < ks.length)(to:Int):
  ZN (Z2S A fw fk ks i) (Z3h A R fw fk ks i) (ks.getD i Tree.nil).kids to 0=Ju A ((ks.getD i Tree.nil).words++(zs (fw+fk - (ks.getD i Tree.nil).words.length)++R)) fw fk ks i:=by
 have:=h.get hi
 rw [Z0G]
 unfold Z2S Z3h Ju
 rw [show fw+fk - (ks.getD i Tree.nil).words.length=fw - (ks.getD i Tree.nil).words.length+((ks.getD i Tree.nil).kids.length+(fk - (ks.getD i Tree.nil).kids.length)) by omega,Z14,Z14]
 simp only [Qb,zs]
theorem Zdl{A R:List Int}{fw fk:Nat}{ks:List Tree}(h:Fit fw fk ks){i:Nat}(hi:i < ks.length)(hR:R.length=(ks.length - (i+1))*(fw+fk)):
  ZN (Z2S A fw fk ks i) (Z3h A R fw fk ks i) (ks.getD i Tree.nil).kids ((Z2S A fw fk ks i).length+(ks.getD i Tree.nil).kids.length+(Z3h A R fw fk ks i).length:Nat) (ks.getD i Tree.nil).kids.length=Ju A R fw fk ks (i+1):=by
 rw [Z0j,Z7o h hi hR,Z3V h hi]
 unfold Z2S Z3h Ju
 rw [Z4O hi,Z7n,Qa,QI (K6 hi)]
 simp only [Qb,zs,QD]
def YR(p:Ptr):Int:=
 if p.kind=1 then (if (-536870912<=p.off/\p.off < 536870912)/\(0<=p.data/\p.data<=65535)/\0<=p.ptrs/\p.ptrs<=65535 then 4*(p.off % 1073741824)+4294967296*(p.data+65536*p.ptrs) else 0)
 else if p.kind=2 then (if (-536870912<=p.off/\p.off < 536870912)/\(0<=p.code/\p.code<=7)/\0<=p.count/\p.count<=536870911 then 4*(p.off % 1073741824)+1+4294967296*(p.code+8*p.count) else 0)
 else if p.kind=3 then (if (0<=p.off/\p.off<=536870911)/\0<=p.segment/\p.segment<=4294967295 then 8*p.off+2+(if p.double=true then 4 else 0)+4294967296*p.segment else 0)
 else 0
def eqP(p q:Ptr):Bool:=p.kind==q.kind && (p.off==q.off && (p.data==q.data && (p.ptrs==q.ptrs && (p.code==q.code && (p.count==q.count && (p.segment==q.segment && (p.double==q.double && true)))))))
theorem ZbO(p:Ptr):eqP p p=true:=by simp [eqP]
theorem Ze2{o:Int}(h: -536870912<=o/\o < 536870912):(if 536870912<=o % 1073741824 then o % 1073741824 - 1073741824 else o % 1073741824)=o:=by
 split <;> omega
theorem Z8e{o d p:Int}(ho: -536870912<=o/\o < 536870912)(hd:0<=d/\d < 65536)(hp:0<=p/\p < 65536)(hz:¬(o=0/\d=0/\p=0)):
  Z4 (4*(o % 1073741824)+0+4294967296*(d+65536*p))=⟨1,o,d,p,0,0,0,false⟩:=by
 have e0:(4*(o % 1073741824)+0+4294967296*(d+65536*p)) / 4 % 1073741824=o % 1073741824:=by omega
 unfold Z4 Z27
 rw [if_neg (by omega),if_pos (by omega),e0,Ze2 ho]
 congr 1 <;> omega
theorem Zjc{o c n:Int}(ho: -536870912<=o/\o < 536870912)(hc:0<=c/\c < 8)(hn:0<=n/\n < 536870912):
  Z4 (4*(o % 1073741824)+1+4294967296*(c+8*n))=⟨2,o,0,0,c,n,0,false⟩:=by
 have e0:(4*(o % 1073741824)+1+4294967296*(c+8*n)) / 4 % 1073741824=o % 1073741824:=by omega
 unfold Z4 Z27
 rw [if_neg (by omega),if_neg (by omega),if_pos (by omega),e0,Ze2 ho]
 congr 1 <;> omega
def Z42(a to:Int)(p:Ptr):Int:=
 if p.kind=1 then Z0b a (if p.data+p.ptrs=0 then a else to) 0 (p.data+65536*p.ptrs) else Z0b a to 1 (p.code+8*p.count)
def ZdZ(p:Ptr):Prop:=
 (p.kind=1/\(0<=p.data/\p.data < 65536)/\(0<=p.ptrs/\p.ptrs < 65536)/\p.code=0/\p.count=0\/p.kind=2/\p.data=0/\p.ptrs=0/\(0<=p.code/\p.code < 8)/\0<=p.count/\p.count < 536870912)/\p.segment=0/\p.double=false
def Z58(a to:Int)(p:Ptr):Ptr:=⟨p.kind,if p.kind=1/\p.data+p.ptrs=0 then -1 else to - a - 1,p.data,p.ptrs,p.code,p.count,p.segment,p.double⟩
theorem Zl4{a to:Int}{p:Ptr}(h:ZdZ p)(h0:0<=a)(h1:a < to)(h2:to < 1000000000)(h3:to - a < 500000000):YR (Z58 a to p)=Z42 a to p/\Z4 (YR (Z58 a to p))=Z58 a to p:=by
 obtain ⟨k,o,d,q,c,n,s,b⟩:=p
 obtain ⟨h,hs,hb⟩:=h
 dsimp only at h hs hb
 subst hs hb
 rcases h with ⟨rfl,hd,hq,rfl,rfl⟩ | ⟨rfl,rfl,rfl,hc,hn⟩
 ·have eo:(if (1:Int)=1/\d+q=0 then (-1:Int) else to - a - 1)=if d+q=0 then -1 else to - a - 1:=by simp
  have e:YR (Z58 a to ⟨1,o,d,q,0,0,0,false⟩)=4*((if d+q=0 then -1 else to - a - 1) % 1073741824)+0+4294967296*(d+65536*q):=by
   unfold YR Z58
   dsimp only
   rw [eo,if_pos rfl,if_pos ⟨by split <;> omega,by omega,by omega⟩]
   omega
  constructor
  ·rw [e]
   unfold Z42 Z0b
   dsimp only
   rw [if_pos rfl]
   split <;> omega
  ·rw [e]
   unfold Z58
   dsimp only
   rw [eo,Z8e (by split <;> omega) hd hq (by split <;> omega)]
 ·have eo:(if (2:Int)=1/\(0:Int)+0=0 then (-1:Int) else to - a - 1)=to - a - 1:=if_neg (fun h=> absurd h.1 (by decide))
  have e:YR (Z58 a to ⟨2,o,0,0,c,n,0,false⟩)=4*((to - a - 1) % 1073741824)+1+4294967296*(c+8*n):=by
   unfold YR Z58
   dsimp only
   rw [eo,if_neg (by decide),if_pos rfl,if_pos ⟨by omega,by omega,by omega⟩]
  constructor
  ·rw [e]
   unfold Z42 Z0b
   dsimp only
   rw [if_neg (by decide)]
  ·rw [e]
   unfold Z58
   dsimp only
   rw [eo,Zjc (by omega) hc hn]
def Z82(l:List Int)(a:Int)(t:Tree):List Int:=
 l.take a.toNat++((Zt t.kids a l.length).1++(l.drop (a.toNat+t.kids.length)++(Zt t.kids a l.length).2))
def Zc6(l:List Int)(a n:Int)(t:Tree):List Int:=
 l.take a.toNat++(t.words++(zs (n.toNat - t.words.length)++((Zt t.kids (a+n) l.length).1++(l.drop (a.toNat+n.toNat+t.kids.length)++(Zt t.kids (a+n) l.length).2))))
def Z6x(l:List Int)(a n:Nat):Prop:=∃ A S,l=A++(zs n++S)/\A.length=a
theorem Z03{l:List Int}{a n:Nat}(h:Z6x l a n):l=l.take a++(zs n++l.drop (a+n))/\(l.take a).length=a/\a+n<=l.length:=by
 obtain ⟨A,S,rfl,rfl⟩:=h
 refine ⟨?_,?_,?_⟩
 ·rw [List.take_left,show A.length+n=(A++zs n).length by simp,<-Qb,List.drop_left,Qb]
 ·rw [List.take_left]
 ·simp
theorem ZcL{l:List Int}{a:Nat}{t:Tree}(h:Z6x l a t.kids.length):ZN (l.take a) (l.drop (a+t.kids.length)) t.kids l.length 0=l:=by
 obtain ⟨h1,h2,h3⟩:=Z03 h
 rw [Z0G]
 exact h1.symm
theorem Z9l{l:List Int}{a:Nat}{t:Tree}(h:Z6x l a t.kids.length):(l.take a).length+t.kids.length+(l.drop (a+t.kids.length)).length=l.length:=by
 obtain ⟨h1,h2,h3⟩:=Z03 h
 rw [h2,X4]
 omega
theorem ZcM{l:List Int}{a:Nat}{t:Tree}(h:Z6x l a t.kids.length){i:Nat}(hi:i < t.kids.length):
  YZ (ZN (l.take a) (l.drop (a+t.kids.length)) t.kids l.length i) ((a:Int)+i) (t.kids.getD i Tree.nil)=ZN (l.take a) (l.drop (a+t.kids.length)) t.kids l.length (i+1):=by
 have:=Z2F (A:=l.take a) (S:=l.drop (a+t.kids.length)) hi
 rw [Z9l h,(Z03 h).2.1] at this
 exact this
theorem ZfP{l:List Int}{a:Nat}{t:Tree}(h:Z6x l a t.kids.length):ZN (l.take a) (l.drop (a+t.kids.length)) t.kids l.length t.kids.length=Z82 l a t:=by
 rw [Z0j,(Z03 h).2.1]
 try rfl
theorem Z8J(x:Int)(r:List Int):trim (x ::r)=if trim r=[]/\x=0 then [] else x ::trim r:=by
 simp only [trim]
 split
 ·rename_i h
  simp only [h]
  split <;> simp_all
 ·rename_i h
  simp [h]
theorem Z3c(x:Tree)(r:List Tree):Yb (x ::r)=if Yb r=[]/\x.kind=0 then [] else x ::Yb r:=by
 simp only [Yb]
 split
 ·rename_i h
  simp only [h]
  split <;> simp_all
 ·rename_i h
  simp [h]
theorem Z1h(t:Tree):(Ze t).kind=t.kind:=by
 obtain ⟨k,w,ks⟩:=t
 simp only [Ze]
 split
 ·rename_i h;simp [h,Tree.nil]
 ·split
  ·rename_i h;simp [h]
  ·try rfl
theorem Z6A:∀ (l:List Int),∃ r,l=trim l++r
 | []=> ⟨[],rfl⟩
 | x ::r=> by
  obtain ⟨s,hs⟩:=Z6A r
  simp only [trim]
  split
  ·rename_i e
   split
   ·exact ⟨x ::r,rfl⟩
   ·exact ⟨r,rfl⟩
  ·rename_i y t e
   rw [e] at hs
   exact ⟨s,by rw [hs];rfl⟩
theorem Z4N:∀ (l:List Tree),∃ r,l=Yb l++r
 | []=> ⟨[],rfl⟩
 | x ::r=> by
  obtain ⟨s,hs⟩:=Z4N r
  simp only [Yb]
  split
  ·rename_i e
   split
   ·exact ⟨x ::r,rfl⟩
   ·exact ⟨r,rfl⟩
  ·rename_i y t e
   rw [e] at hs
   exact ⟨s,by rw [hs];rfl⟩
theorem Z7r{list d:Int}:∀ (a b:List Tree),ZI list (a++b) d=true->ZI list a d=true
 | [],_,_=> rfl
 | t ::r,b,h=> by
  simp only [QN,ZI,Q2] at h ⊢
  exact ⟨h.1,Z7r r b h.2⟩
theorem ZfS{list:Int}{t:Tree}(h:YE list t=true):YE list (Ze t)=true:=by
 unfold YE at h ⊢
 rw [Z1h]
 split at h
 ·rename_i hl
  rw [if_pos hl]
  simp only [Q2,decide_eq_true_eq] at h ⊢
  obtain ⟨⟨h1,h2,h3⟩,h4⟩:=h
  obtain ⟨k,w,ks⟩:=t
  simp only [Tree.kind_mk,Tree.kids_mk,Tree.words_mk] at h1 h2 h3 h4
  have:ks=[]:=Qy.1 h2
  subst this
  subst h1
  exact ⟨⟨rfl,rfl,h3⟩,h4⟩
 ·rename_i hl
  rw [if_neg hl]
  exact h
mutual
theorem J8:∀ (t:Tree) (d:Int),Z8 t d=true->Z8 (Ze t) d=true
 | .mk k w ks,d,h=> by
  have ih:=fun (list:Int) (h:ZI list ks (d - 1)=true)=> Z5B ks list (d - 1) h
  simp only [Z8] at h
  simp only [Ze]
  by_cases h0:k=0
  ·rw [if_pos h0];simp [Tree.nil,Z8]
  ·rw [if_neg h0] at h ⊢
   by_cases h10:k=10
   ·subst h10
    rw [if_pos rfl] at h
    rw [if_neg (by decide)]
    simp only [decide_eq_true_eq] at h
    simp only [Z8]
    rw [if_neg (by decide),if_pos trivial,Z02]
    simpa using h
   ·rw [if_neg h10] at h
    by_cases hd:d=0
    ·rw [if_pos hd] at h;cases h
    ·rw [if_neg hd] at h
     by_cases h1:k=1
     ·subst h1
      rw [if_pos rfl] at h
      rw [if_pos rfl]
      simp only [Q2,decide_eq_true_eq] at h
      simp only [Z8]
      rw [if_neg (by decide),if_neg (by decide),if_neg hd,if_pos trivial]
      simp only [Q2,decide_eq_true_eq]
      obtain ⟨r1,e1⟩:=Z6A w
      obtain ⟨r2,e2⟩:=Z4N (Yq ks)
      have l1:=congrArg List.length e1
      have l2:=congrArg List.length e2
      rw [Z02] at l2
      simp only [Q3] at l1 l2
      refine ⟨⟨by omega,by omega⟩,?_⟩
      have:=ih 1 h.2
      rw [e2] at this
      exact Z7r _ _ this
     ·rw [if_neg h1] at h ⊢
      simp only [Q2,decide_eq_true_eq] at h
      simp only [Z8]
      rw [if_neg h0,if_neg h10,if_neg hd,if_neg h1,Z02]
      simp only [Q2,decide_eq_true_eq]
      exact ⟨h.1,ih k h.2⟩
theorem Z5B:∀ (l:List Tree) (list d:Int),ZI list l d=true->ZI list (Yq l) d=true
 | [],_,_,_=> rfl
 | t ::r,list,d,h=> by
  simp only [ZI,Q2] at h
  have h1:=J8 t d h.1.2
  have h2:=Z5B r list d h.2
  simp only [Yq,ZI,Q2]
  exact ⟨⟨ZfS h.1.1,h1⟩,h2⟩
end
theorem Zfd(l:List Int):trim (trim l)=trim l:=by
 induction l with
 | nil=> rfl
 | cons x r ih=>
  rw [Z8J]
  split
  ·try rfl
  ·rename_i h
   rw [Z8J,ih,if_neg h]
theorem Zc4(l:List Tree):Yb (Yb l)=Yb l:=by
 induction l with
 | nil=> rfl
 | cons x r ih=>
  rw [Z3c]
  split
  ·try rfl
  ·rename_i h
   rw [Z3c,ih,if_neg h]
def Normed:List Tree->Prop
 | []=> True
 | t ::r=> Ze t=t/\Normed r
theorem Normed.eq:∀ {l:List Tree},Normed l->Yq l=l
 | [],_=> rfl
 | t ::r,h=> by simp only [Yq,h.1,Normed.eq h.2]
theorem Normed.trim:∀ {l:List Tree},Normed l->Normed (Yb l)
 | [],_=> trivial
 | t ::r,h=> by
  rw [Z3c]
  split
  ·trivial
  ·exact ⟨h.1,Normed.trim h.2⟩
mutual
theorem Z3s:∀ (t:Tree),Ze (Ze t)=Ze t
 | .mk k w ks=> by
  have h:=Z47 ks
  by_cases h0:k=0
  ·simp [Ze,h0,Tree.nil]
  ·by_cases h1:k=1
   ·subst h1
    simp only [Ze,if_neg h0,if_true,Zfd,h.trim.eq,Zc4]
   ·simp only [Ze,if_neg h0,if_neg h1,h.eq]
theorem Z47:∀ (ks:List Tree),Normed (Yq ks)
 | []=> trivial
 | t ::r=> ⟨Z3s t,Z47 r⟩
end
theorem ZaV:∀ {a b:List Tree},Z1B (a++b)↔Z1B a/\Z1B b
 | [],b=> by simp [Z1B]
 | t ::r,b=> by simp only [QN,Z1B];rw [ZaV (a:=r),and_assoc]
mutual
theorem Z1V:∀ (t:Tree),rng t->rng (Ze t)
 | .mk k w ks,h=> by
  simp only [rng] at h
  obtain ⟨h1,h2,h3⟩:=h
  have h4:=Z8Q ks h3
  simp only [Ze]
  split
  ·simp only [Tree.nil,rng,Z1B]
   exact ⟨by decide,by simp,trivial⟩
  ·split
   ·obtain ⟨r1,e1⟩:=Z6A w
    obtain ⟨r2,e2⟩:=Z4N (Yq ks)
    simp only [rng]
    refine ⟨by decide,fun x hx=> h2 x (by rw [e1];exact QB.2 (Or.inl hx)),?_⟩
    rw [e2] at h4
    exact (ZaV.1 h4).1
   ·simp only [rng]
    exact ⟨h1,h2,h4⟩
theorem Z8Q:∀ (l:List Tree),Z1B l->Z1B (Yq l)
 | [],_=> trivial
 | t ::r,h=> by
  simp only [Z1B] at h
  have h1:=Z1V t h.1
  have h2:=Z8Q r h.2
  simp only [Yq,Z1B]
  exact ⟨h1,h2⟩
end
theorem ZhU(t:Tree):1<=Zh t:=by cases t;rw [Zh];omega
theorem Z1s:∀ (ks:List Tree),frW ks+frK ks+ks.length<=Zv ks
 | []=> by simp [frW,frK,Zv]
 | .mk k w l ::r=> by
  have:=Z1s r
  have h:l.length<=Zv l:=by
   clear this
   induction l with
   | nil=> simp
   | cons t l ih=> rw [Zv,Qh];have:=ZhU t;omega
  rw [frW,frK,Zv,Zh,Qh]
  show max w.length _+max l.length _+_<=_
  omega
theorem Zl2(c:Int)(n:Nat):(ZK c n).toNat<=n:=by
 unfold ZK
 split
 ·simp
 ·rcases Z17 c with e | e | e | e | e | e
  ·omega
  all_goals (rw [e];omega)
theorem ZmC{a b c:Nat}(h:a+b<=c):a*a+b*b<=c*c:=by
 have h1:a*a+b*b<=(a+b)*(a+b):=by
  rw [Qd,Ka,Ka]
  omega
 exact X8 h1 (Nat.mul_le_mul h h)
mutual
theorem Z8N:∀ (t:Tree),Zq t<=Zh t*Zh t
 | .mk k w ks=> by
  have hk:=Z1d ks
  have hr:=Z7k ks
  have hf:=Z1s ks
  have e:∀ W M:Nat,(W+M)*(W+M)=W*W+2*(W*M)+M*M:=by
   intro W M
   rw [Qd,Ka,Ka,QF M W]
   omega
  have e1:1+w.length<=(1+w.length)*(1+w.length):=Nat.le_mul_of_pos_left _ (by omega)
  have e2:Zv ks<=(1+w.length)*Zv ks:=Nat.le_mul_of_pos_left _ (by omega)
  rw [Zq,Zh,e]
  split
  ·omega
  ·split
   ·omega
   ·split
    ·have h1:ks.length*(frW ks+frK ks)<=ks.length*(Zv ks - ks.length):=Nat.mul_le_mul_left _ (by omega)
     have h2:ks.length*(Zv ks - ks.length)+(Zv ks - ks.length)*(Zv ks - ks.length)<=Zv ks*Zv ks:=by
      rw [<-Qd]
      exact Nat.mul_le_mul (by omega) (by omega)
     omega
    ·split
     ·have:=Zl2 (k - 2) ks.length
      omega
     ·omega
theorem Z1d:∀ (ks:List Tree),ZD ks<=Zv ks*Zv ks
 | []=> by simp [ZD]
 | t ::r=> by
  rw [ZD,Zv]
  have h1:=Z8N t
  have h2:=Z1d r
  have:=ZmC (QS (Zh t+Zv r))
  omega
theorem Z7k:∀ (ks:List Tree),Y7 ks<=(Zv ks - ks.length)*(Zv ks - ks.length)
 | []=> by simp [Y7]
 | .mk k w l ::r=> by
  rw [Y7,Zv,Zh,Qh]
  have h1:=Z1d l
  have h2:=Z7k r
  have hf:=Z1s r
  have:=ZmC (a:=Zv l) (b:=Zv r - r.length) (c:=1+w.length+Zv l+Zv r - (r.length+1)) (by omega)
  omega
end
end Go.AM.Ythokdjgpdonhgaa
