import Derived.Test.YtfapacabjkhepaaVCG25a
import Derived.Test.YtfapacabjkhepaaVKG20x
import Derived.Test.YtfapacabjkhepaaVKP20
import Derived.Test.YtfapacabjkhepaaVKB21b
set_option linter.unusedSimpArgs false
set_option linter.unusedVariables false
namespace Go.AM.Ytfapacabjkhepaa
open Go.AM Go.Proofs
noncomputable section
def Z4B:ArgL (Edit × Edit × Unit):=(.cons (aEl .edit) (.cons (aEl .edit) .nil))
def Z4F(a:Edit × Edit × Unit):Prop:=YI a.1/\YI a.2.1
def ZdA(a:Edit × Edit × Unit):Nat:=8*(Zd a.1+Zd a.2.1)
def Z56(a:Edit × Edit × Unit):V U:= .tup [(true,(enc .edit ((Y7 a.1 a.2.1).1))),(false,[.bool ((Y7 a.1 a.2.1).2)])]
def Z9b:Fs U:=fs Z4B (fun a=> [Z4F a]) Z56
def Z4A:ArgL (List Kid × List Kid × Unit):=(.cons (aSl .kid) (.cons (aSl .kid) .nil))
def Z6m(a:List Kid × List Kid × Unit):Prop:=Zb2 a.1/\Zb2 a.2.1
def ZfF(a:List Kid × List Kid × Unit):Nat:=8*(Zx a.1+Zx a.2.1)+4
def Z7z(a:List Kid × List Kid × Unit):V U:= .tup [(false,[sU .kid (ofO (Zm KidOf.at_ (Z0L Y7) a.1 a.2.1)) .unk]),(false,[.bool ((Zm KidOf.at_ (Z0L Y7) a.1 a.2.1).isSome)])]
def ZnE:Fs U:=fs Z4A (fun a=> [Z6m a]) Z7z
def Z4y:ArgL (List Kid × List Kid × Unit × Unit × Unit):=(.cons (aSl .kid) (.cons (aSl .kid) (.cons (aFn 93) (.cons (aFn 94) .nil))))
def Z6k(a:List Kid × List Kid × Unit × Unit × Unit):Prop:=Zb2 a.1/\Zb2 a.2.1
def ZfD(a:List Kid × List Kid × Unit × Unit × Unit):Nat:=8*(Zx a.1+Zx a.2.1)+3
def Z55(a:List Kid × List Kid × Unit × Unit × Unit):V U:= .tup [(false,[sU .kid (ofO (Zm KidOf.at_ (Z0L Y7) a.1 a.2.1)) .unk]),(false,[.bool ((Zm KidOf.at_ (Z0L Y7) a.1 a.2.1).isSome)])]
def ZnC:Fs U:=fs Z4y (fun a=> [Z6k a]) Z55
def Z4x:ArgL (Kid × Kid × Unit):=(.cons (aEl .kid) (.cons (aEl .kid) .nil))
def Z6j(a:Kid × Kid × Unit):Prop:=ZpR a.1/\ZpR a.2.1
def ZfC(a:Kid × Kid × Unit):Nat:=8*(Yw a.1+Yw a.2.1)+1
def Z6f(a:Kid × Kid × Unit):V U:= .tup [(true,(enc .kid ((Z0L Y7 a.1 a.2.1).1))),(false,[.bool ((Z0L Y7 a.1 a.2.1).2)])]
def ZnB:Fs U:=fs Z4x (fun a=> [Z6j a]) Z6f
def Z6l(a:List Op × List Op × Unit):Prop:=Zm8 a.1/\Zm8 a.2.1
def ZfE(a:List Op × List Op × Unit):Nat:=8*(Zr a.1+Zr a.2.1)+40
def Z4D(a:List Op × List Op × Unit):V U:= .tup [(false,[sU .op (ofO (Z0J Y7 a.1 a.2.1)) .unk]),(false,[.bool ((Z0J Y7 a.1 a.2.1).isSome)])]
def ZnD:Fs U:=fs Zqj (fun a=> [Z6l a]) Z4D
def Z4w:ArgL (Piece × Unit):=(.cons (aEl .piece) .nil)
def Z6i(a:Piece × Unit):Prop:=PcOk a.1
def ZfB(a:Piece × Unit):Nat:=8*(ZA a.1.p+ZA a.1.q)+1
def Z54(a:Piece × Unit):V U:= .tup [(true,(enc .op ((ZI Y7 a.1).op))),(false,[.bool ((ZI Y7 a.1).is)]),(false,[.bool ((ZI Y7 a.1).ok)])]
def ZnA:Fs U:=fs Z4w (fun a=> [Z6i a]) Z54
def Z4m(N:Nat):List (FuncId × Fs U):=(59,fs Z4B (fun a=> [Z4F a,ZdA a < N]) Z56) ::(77,fs Z4A (fun a=> [Z6m a,ZfF a < N]) Z7z) ::(92,fs Z4y (fun a=> [Z6k a,ZfD a < N]) Z55) ::(94,fs Z4x (fun a=> [Z6j a,ZfC a < N]) Z6f) ::(78,fs Zqj (fun a=> [Z6l a,ZfE a < N]) Z4D) ::(96,fs Z4w (fun a=> [Z6i a,ZfB a < N]) Z54) ::[(12,Z0z),(24,Z1x),(44,Z0g),(76,Z46),(93,Z44),(95,Z43)]
def ZwW:Ze U:=lvl [([2,3,4],[2,3,4]),([2,3,4,15],[2,3,4]),([4,5],[4]),([2,3,4,20],[2,3,4]),([4,5],[4]),([2,3,4,25],[2,3,4]),([2,4,6,7],[2,4,6]),([4,5],[4]),([2,3,4,41],[2,3,4]),([3,4,8,9],[3,4,8]),([4,5],[4]),([2,3,4,58],[2,3,4]),([4,5],[4]),([2,3,4,72],[2,3,4]),([2,3,4,10,11],[2,3,4]),([2,3,4,10,85],[2,3,4]),([4,5],[4]),([4,10,11,12],[4]),([4,5],[4]),([2,4,13,14],[2,4]),([4,5],[4])]
abbrev A59(N:Nat)(p:List Nat):=AW (Z2 (Z4m N)) Try.f59 ZwW p
theorem ZAR(N:Nat)(p q:Edit)(Q:QT)(h:∀ y_1,y_1=p->∀ y_2,y_2=q->∀ y_3,y_3=(p.new)->∀ y_4,y_4=(q.old)->∀ y_5,y_5=(ZE (Zq y_1))->let z3:=Zm WEdit.at_ YP p.words q.words;let z2:=Zm KidOf.at_ (Z0L Y7) p.kids q.kids;let z1:=(Q .ret (L2 [pL 4,pB 5 false] [(.loc 4,zc1)]));let z0:=p.kind !=q.kind;(iB (p.kind==0) ((Q .ret (L2 [pL 4,pB 5 true] [(.loc 4,(enc .edit q))]))) ((iB (q.kind==0) ((Q .ret (L2 [pL 4,pB 5 true] [(.loc 4,(enc .edit p))]))) ((iB (p.kind==1) ((Z3j (y_2,y_3,()))/\(Q .ret (L2 [pL 4,pB 5 ((doE false y_2 y_3).isSome)] [(.loc 4,([ci 1]++enc .tree p.old++enc .tree (Z00 ((doE false y_2 y_3).map Z1))++[.nils,.nils,ci 0,.nils]))]))) ((iB (q.kind==1) ((Z1l (y_1,()))/\(Z3j (y_5,y_4,()))/\(Q .ret (L2 [pL 4,pB 5 ((doE false y_5 y_4).isSome)] [(.loc 4,([ci 1]++enc .tree (Z00 ((doE false y_5 y_4).map Z1))++enc .tree q.new++[.nils,.nils,ci 0,.nils]))]))) ((Tt (!z0))/\(Tt (!z0))/\(Tt (!z0))/\(Tt (!z0))/\(z0=false->(!z0)=true)/\(iB (bif z0 then true else (p.list !=q.list)) z1 ((iB (p.kind==2) ((Zoo (p.words,q.words,()))/\(iB (!(z3.isSome)) z1 ((Z6m (p.kids,q.kids,()))/\(ZfF (p.kids,q.kids,()) < N)/\(Q .ret (L2 [pL 4,pB 5 (z2.isSome)] [(.loc 4,[ci 2,ci 0,.nils,.nils,ci 0,.nils,.nils,sU .wedit (ofO z3) .unk,sU .kid (ofO z2) .unk,ci 0,.nils])]))))) ((Z6l (p.ops,q.ops,()))/\(ZfE (p.ops,q.ops,()) < N)/\(Q .ret (L2 [pL 4,pB 5 ((Z0J Y7 p.ops q.ops).isSome)] [(.loc 4,[ci 3,ci 0,.nils,.nils,ci 0,.nils,.nils,.nils,.nils,ci p.list,sU .op (ofO (Z0J Y7 p.ops q.ops)) .unk])]))))))))))))))):
  A59 N [] (L2 [(0,.agg (enc .edit p)),(1,.agg (enc .edit q))] []) Q:=
 Eq.mpr V5 (h _ (Zf _) _ (Zf _) _ (Za _) _ (Za _) _ (Zf _))
def Zyj(N:Nat)(p q:Edit):Prop:=AW (Z2 (Z4m N)) Try.f59 ZwW [] (Zj (Z4B.can (p,q,())) []) (EQ Try.f59 (Z56 (p,q,())) [])
abbrev ZzS:Prop:=∀ (N:Nat) (p:Edit) (q:Edit) (_:Unit),Z4F (p,q,())->ZdA (p,q,()) < N+1->Zyj N p q
abbrev A77(N:Nat)(p:List Nat):=AW (Z2 (Z4m N)) Try.f77 Zwz p
theorem ZAz(N:Nat)(p q:List Kid)(Q:QT)(h:let z0:=Zm KidOf.at_ (Z0L Y7) p q;((Z6k (p,q,(),(),()))/\(ZfD (p,q,(),(),()) < N)/\(Q .ret (L2 [(4,.c (sU .kid (ofO z0) .unk)),pB 5 (z0.isSome)] [])))):
  A77 N [] (L2 [(0,.c (sU .kid p .unk)),(1,.c (sU .kid q .unk))] []) Q:=
 Eq.mpr V5 h
def Zy1(N:Nat)(p q:List Kid):Prop:=AW (Z2 (Z4m N)) Try.f77 Zwz [] (Zj (Z4A.can (p,q,())) []) (EQ Try.f77 (Z7z (p,q,())) [])
abbrev ZzO:Prop:=∀ (N:Nat) (p:List Kid) (q:List Kid) (_:Unit),Z6m (p,q,())->ZfF (p,q,()) < N+1->Zy1 N p q
def ZsV:Ze U:=lvk [([0,1,2,3],[]),([0,1,2,3,(10,[.own .kid])],[]),([0,1,2,3,10,20],[]),([0,1,2,3,10,11,12],[11]),([0,1,2,3,10,11,33],[11]),([8,9],[]),([0,1,2,3,(10,[.own .kid])],[]),([0,1,2,3,10,42],[]),([0,1,2,3,(10,[.own .kid])],[]),([0,1,2,3,10,72],[]),([0,1,2,3,(10,[.own .kid])],[]),([8,9],[])]
def Z3A(p q:List Kid)(at_ one:Unit)(x0 x1 x10:List Kid):LSt U:=(L2 [(0,.c (sU .kid x0 .unk)),(1,.c (sU .kid x1 .unk)),(2,.fn 93),(3,.fn 94),(10,.c (sU .kid x10 (.own (.e 10 0))))] [])
abbrev A92(N:Nat)(p:List Nat):=AW (Z2 (Z4m N)) Try.f92 ZsV p
abbrev S92(N:Nat)(p:List Nat):=SW (Z2 (Z4m N)) Try.f92 ZsV p
theorem ZAl(N:Nat)(p q:List Kid)(at_ one:Unit)(Q:QT)(h:(Zi (A92 N [1,1,0,0,0]) (Z3A p q at_ one p q []) (xB 0 (S92 N [1,1,1] Q)))):
  A92 N [] (L2 [(0,.c (sU .kid p .unk)),(1,.c (sU .kid q .unk)),(2,.fn 93),(3,.fn 94)] []) Q:=
 Eq.mpr V5 h
theorem Zry(N:Nat)(p q:List Kid)(at_ one:Unit)(x0 x1 x10:List Kid)(N0:NT)(Q:QT)(h:∀ y_1,y_1=(List.getD x0 (Int.toNat 0) (KidOf.mk 0 Edit.nil))->∀ y_2,y_2=(List.getD x1 (Int.toNat 0) (KidOf.mk 0 Edit.nil))->∀ y_3,y_3=y_1->∀ y_4,y_4=y_2->∀ y_5,y_5=((Z0L Y7 y_3 y_4).1)->let z3:=decide ((0:Int) < (x0.length:Int));let z2:=((x1.length:Int):Int)==0;let z1:=((x0.length:Int):Int)==0;let z0:=(!z2) && z3;(Tt (!z3))/\(Tt (!z3))/\(z3=false->(!z3)=true)/\(iB (bif z3 then true else (decide ((0:Int) < (x1.length:Int)))) ((Tt (!z2))/\(Tt (!z2))/\(Tt (!z2))/\(Tt z0)/\(z0=true->(0:Int)<=0/\0 < (x0.length:Int))/\(Tt z0)/\(Tt z0)/\(Tt z0)/\(z0=true->Zej (y_3,()))/\(Tt z0)/\(z0=true->(0:Int)<=0/\0 < (x1.length:Int))/\(Tt z0)/\(Tt z0)/\(Tt z0)/\(z0=true->Zej (y_4,()))/\(Tt z0)/\(Tt z0)/\((!z2)=true->(True->(!z2)=true))/\((!z2)=true->(z3=true->z0=true))/\(z2=false->(!z2)=true)/\(iB (bif z2 then true else (bif z3 then (decide (y_3.at_ < y_4.at_)) else false)) (((0:Int)<=0/\0 < (x0.length:Int))/\((x10.length+([y_3]).length)*208<=140737488355328)/\((0:Int)<=1/\1<=(x0.length:Int))/\(N0 (Z3A p q at_ one (List.drop (Int.toNat 1) x0) x1 (x10++([y_3]))))) ((Tt (!z1))/\((!z1)=true->(0:Int)<=0/\0 < (x1.length:Int))/\(Tt (!z1))/\(Tt (!z1))/\(Tt (!z1))/\((!z1)=true->Zej (y_4,()))/\(Tt (!z1))/\((!z1)=true->(0:Int)<=0/\0 < (x0.length:Int))/\(Tt (!z1))/\(Tt (!z1))/\(Tt (!z1))/\((!z1)=true->Zej (y_3,()))/\(Tt (!z1))/\(Tt (!z1))/\(z1=false->(!z1)=true)/\(iB (bif z1 then true else (decide (y_4.at_ < y_3.at_))) (((0:Int)<=0/\0 < (x1.length:Int))/\((x10.length+([y_4]).length)*208<=140737488355328)/\((0:Int)<=1/\1<=(x1.length:Int))/\(N0 (Z3A p q at_ one x0 (List.drop (Int.toNat 1) x1) (x10++([y_4]))))) (((0:Int)<=0/\0 < (x0.length:Int))/\((0:Int)<=0/\0 < (x1.length:Int))/\(Z6j (y_3,y_4,()))/\(ZfC (y_3,y_4,()) < N)/\(iB (!((Z0L Y7 y_3 y_4).2)) ((Q .ret (L2 [(8,.c (.nils)),pB 9 false] []))) (((x10.length+([y_5]).length)*208<=140737488355328)/\((0:Int)<=1/\1<=(x0.length:Int))/\((0:Int)<=1/\1<=(x1.length:Int))/\(N0 (Z3A p q at_ one (List.drop (Int.toNat 1) x0) (List.drop (Int.toNat 1) x1) (x10++([y_5]))))))))))) ((Q .ret (L2 [(8,.c (sU .kid x10 (.own (.e 8 0)))),pB 9 true] []))))):
  A92 N [1,1,0,0,0] (Z3A p q at_ one x0 x1 x10) (xT N0 (xB 0 (S92 N [1,1,1] Q))):=
 Eq.mpr V5 (h _ rfl _ rfl _ (Zcr _) _ (Zcr _) _ (Zcr _))
def ZxN(N:Nat)(p q:List Kid)(at_ one:Unit):Prop:=AW (Z2 (Z4m N)) Try.f92 ZsV [] (Zj (Z4y.can (p,q,at_,one,())) []) (EQ Try.f92 (Z55 (p,q,at_,one,())) [])
abbrev ZzM:Prop:=∀ (N:Nat) (p:List Kid) (q:List Kid) (at_:Unit) (one:Unit) (_:Unit),Z6k (p,q,at_,one,())->ZfD (p,q,at_,one,()) < N+1->ZxN N p q at_ one
def ZwA:Ze U:=lvl [([2,3,4],[2,3,4]),([2,4,6,7],[2,4,6]),([4,5],[4])]
abbrev A94(N:Nat)(p:List Nat):=AW (Z2 (Z4m N)) Try.f94 ZwA p
theorem ZAj(N:Nat)(a b:Kid)(Q:QT)(h:∀ y_1,y_1=(a.e)->∀ y_2,y_2=(b.e)->((Z4F (y_1,y_2,()))/\(ZdA (y_1,y_2,()) < N)/\(Q .ret (L2 [pL 4,pB 5 ((Y7 y_1 y_2).2)] [(.loc 4,([ci a.at_]++enc .edit ((Y7 y_1 y_2).1)))])))):
  A94 N [] (L2 [(0,.agg (enc .kid a)),(1,.agg (enc .kid b))] []) Q:=
 Eq.mpr V5 (h _ (Zf _) _ (Zf _))
def ZxL(N:Nat)(a b:Kid):Prop:=AW (Z2 (Z4m N)) Try.f94 ZwA [] (Zj (Z4x.can (a,b,())) []) (EQ Try.f94 (Z6f (a,b,())) [])
abbrev ZzL:Prop:=∀ (N:Nat) (a:Kid) (b:Kid) (_:Unit),Z6j (a,b,())->ZfC (a,b,()) < N+1->ZxL N a b
def ZsX:Ze U:=lvk [([0,1],[]),([6,7],[]),([6,21],[]),([4,5],[]),([6,8],[]),([(8,[.own .op]),22,23,24],[]),([8,22,23,24,25],[]),([8,10,22,23,24],[10]),([8,11,12,13,22,23,24],[11]),([8,11,12,22,23,24,35],[11]),([4,5],[]),([8,11,22,23,24,36],[11]),([8,22,23,24],[]),([(8,[.own .op]),22,23,24],[]),([4,5],[])]
def Z5v(p q:List Op)(x24:Int)(x8:List Op):LSt U:=(L2 [(8,.c (sU .op x8 (.own (.e 8 0)))),(22,.c (sU .piece ((Yo 1 2 p q []).1) .unk)),pI 23 (((Yo 1 2 p q []).1).length:Int),pI 24 x24] [])
abbrev A78(N:Nat)(p:List Nat):=AW (Z2 (Z4m N)) Try.f78 ZsX p
abbrev S78(N:Nat)(p:List Nat):=SW (Z2 (Z4m N)) Try.f78 ZsX p
theorem ZAy(N:Nat)(p q:List Op)(Q:QT)(h:((Zoj (p,q,()))/\(iB (!((Yo 1 2 p q []).2.1)) ((Q .ret (L2 [(4,.c (.nils)),pB 5 false] []))) ((Zi (A78 N [1,1,1,1,0,1,0,0]) (Z5v p q 0 []) (xB 0 (S78 N [1,1,1,1,1] Q))))))):
  A78 N [] (L2 [(0,.c (sU .op p .unk)),(1,.c (sU .op q .unk))] []) Q:=
 Eq.mpr V5 h
theorem ZrC(N:Nat)(p q:List Op)(x24:Int)(x8:List Op)(N0:NT)(Q:QT)(h:∀ y_1,y_1=(List.getD ((Yo 1 2 p q []).1) x24.toNat (Piece.mk 0 Op.nil Op.nil))->∀ y_2,y_2=y_1->∀ y_3,y_3=((ZI Y7 y_2).op)->(iB (decide (x24 < (((Yo 1 2 p q []).1).length:Int))) (((0:Int)<=x24/\x24 < (((Yo 1 2 p q []).1).length:Int))/\((Z6i (y_2,()))/\(ZfB (y_2,()) < N)/\(iB (!((ZI Y7 y_2).ok)) ((Q .ret (L2 [(4,.c (.nils)),pB 5 false] []))) ((iB ((ZI Y7 y_2).is) (((x8.length+([y_3]).length)*240<=140737488355328)/\((InR (x24+1))/\(N0 (Z5v p q (x24+1) (x8++([y_3])))))) ((InR (x24+1))/\(N0 (Z5v p q (x24+1) x8)))))))) ((Q .ret (L2 [(4,.c (sU .op x8 (.own (.e 4 0)))),pB 5 true] []))))):
  A78 N [1,1,1,1,0,1,0,0] (Z5v p q x24 x8) (xT N0 (xB 0 (S78 N [1,1,1,1,1] Q))):=
 Eq.mpr V5 (h _ rfl _ (ZiY _) _ (Jy _))
def Zy0(N:Nat)(p q:List Op):Prop:=AW (Z2 (Z4m N)) Try.f78 ZsX [] (Zj (Zqj.can (p,q,())) []) (EQ Try.f78 (Z4D (p,q,())) [])
abbrev ZzN:Prop:=∀ (N:Nat) (p:List Op) (q:List Op) (_:Unit),Z6l (p,q,())->ZfE (p,q,()) < N+1->Zy0 N p q
def ZsU:Ze U:=lvl [([1,2],[1,2]),([1,2,13],[1,2]),([2,3,4],[2]),([1,2,30],[1,2]),([2,3,4],[2]),([1,2,42],[1,2]),([1,2,55,56,57],[1,2]),([1,2,55,56,57,58],[1,2]),([1,2,5,6,55,56,57],[1,2,6]),([1,2,55,56,57,70],[1,2]),([2,3,4],[2]),([1,2,55,56,57],[1,2]),([2,3,4],[2]),([1,2,74],[1,2]),([2,7,8],[2,7]),([2,3,4],[2]),([1,2,95],[1,2]),([2,9,10],[2,9]),([2,3,4],[2]),([2,11,12],[2,11]),([2,3,4],[2])]
def Z8a(x:Piece)(x57:Int):LSt U:=(L2 [pL 1,pL 2,(55,.c (sU .tree x.p.l .unk)),pI 56 (x.p.l.length:Int),pI 57 x57] [(.loc 1,(enc .piece x)),(.loc 2,zc2)])
abbrev A96(N:Nat)(p:List Nat):=AW (Z2 (Z4m N)) Try.f96 ZsU p
abbrev S96(N:Nat)(p:List Nat):=SW (Z2 (Z4m N)) Try.f96 ZsU p
theorem ZAh(N:Nat)(x:Piece)(Q:QT)(h:∀ y_1,y_1=(x.p.e)->∀ y_2,y_2=(x.q.e)->∀ y_3,y_3=(List.getD x.p.l (Int.toNat 0) Tree.nil)->∀ y_4,y_4=(List.getD x.q.l (Int.toNat 0) Tree.nil)->∀ y_5,y_5=y_3->∀ y_6,y_6=y_4->∀ y_7,y_7=(ZE (Zq y_1))->∀ y_8,y_8=(Z00 ((doE false y_2 y_5).map Z1))->∀ y_9,y_9=(Z00 ((doE false y_7 y_6).map Z1))->let z0:=(!(x.of==1)) && (x.of==0);((Tt (!(x.of==1)))/\(Tt (!(x.of==1)))/\(Tt (!(x.of==1)))/\(Tt z0)/\(Tt z0)/\(Tt z0)/\((!(x.of==1))=true->(True->(!(x.of==1))=true))/\((!(x.of==1))=true->((x.of==0)=true->z0=true))/\((x.of==1)=false->(!(x.of==1))=true)/\(iB (bif (x.of==1) then true else (bif (x.of==0) then (x.q.kind==0) else false)) ((Q .ret (L2 [pL 2,pB 3 true,pB 4 true] [(.loc 2,(enc .op x.p))]))) ((Tt (!(x.of==2)))/\(Tt (!(x.of==2)))/\(Tt (!(x.of==2)))/\((x.of==2)=false->(!(x.of==2))=true)/\(iB (bif (x.of==2) then true else (x.p.kind==0)) ((Q .ret (L2 [pL 2,pB 3 true,pB 4 true] [(.loc 2,(enc .op x.q))]))) ((Tt (x.p.kind==2))/\(Tt (x.p.kind==2))/\(Tt (x.p.kind==2))/\(Tt (x.p.kind==2))/\(iB (bif (x.p.kind==2) then (x.q.kind==1) else false) ((Zi (A96 N [1,0,0,1,1,1,1,1,0,0,1,0,0]) (Z8a x 0) (xB 1 (S96 N [1,0,0,1,1,1,1,1,0,1] (xB 0 (S96 N [1,1] Q)))))) ((iB (x.p.kind==2) (((0:Int)<=0/\0 < (x.p.l.length:Int))/\(Z3j (y_2,y_5,()))/\(Q .ret (L2 [pL 2,pB 3 true,pB 4 ((doE false y_2 y_5).isSome)] [(.loc 2,[ci 2,ci 0,sU .tree ([y_8]) .full,ci 0,ci 0,.nils,.nils,ci 0,.nils,.nils,.nils,.nils,ci 0,.nils])]))) ((iB (x.q.kind==1) ((Z1l (y_1,()))/\((0:Int)<=0/\0 < (x.q.l.length:Int))/\(Z3j (y_7,y_6,()))/\(Q .ret (L2 [pL 2,pB 3 true,pB 4 ((doE false y_7 y_6).isSome)] [(.loc 2,[ci 1,ci 0,sU .tree ([y_9]) .full,ci 0,ci 0,.nils,.nils,ci 0,.nils,.nils,.nils,.nils,ci 0,.nils])]))) ((Z4F (y_1,y_2,()))/\(ZdA (y_1,y_2,()) < N)/\(Q .ret (L2 [pL 2,pB 3 true,pB 4 ((Y7 y_1 y_2).2)] [(.loc 2,([ci 3,ci 0,.nils]++enc .edit ((Y7 y_1 y_2).1)))])))))))))))))):
  A96 N [] (L2 [(0,.agg (enc .piece x))] []) Q:=
 Eq.mpr V5 (h _ (Zf _) _ (Zf _) _ rfl _ rfl _ (Za _) _ (Za _) _ (Zf _) _ (Za _) _ (Za _))
theorem Zrx(N:Nat)(x:Piece)(x57:Int)(N0:NT)(Q:QT)(h:∀ y_1,y_1=(x.p.l.getD x57.toNat Tree.nil)->∀ y_2,y_2=(x.q.l.getD x57.toNat Tree.nil)->∀ y_3,y_3=y_1->∀ y_4,y_4=y_2->(iB (decide (x57 < (x.p.l.length:Int))) (((0:Int)<=x57/\x57 < (x.p.l.length:Int))/\(((0:Int)<=x57/\x57 < (x.q.l.length:Int))/\(Z4G (y_3,y_4,()))/\(iB (!(Yp (Z1 y_3) (Z1 y_4))) ((Q .ret (L2 [pL 2,pB 3 false,pB 4 false] [(.loc 2,zc2)]))) ((InR (x57+1))/\(N0 (Z8a x (x57+1))))))) ((Q .ret (L2 [pL 2,pB 3 false,pB 4 true] [(.loc 2,zc2)]))))):
  A96 N [1,0,0,1,1,1,1,1,0,0,1,0,0] (Z8a x x57) (xT N0 (xB 1 (S96 N [1,0,0,1,1,1,1,1,0,1] (xB 0 (S96 N [1,1] Q))))):=
 Eq.mpr V5 (h _ rfl _ rfl _ (Za _) _ (Za _))
def ZxJ(N:Nat)(x:Piece):Prop:=AW (Z2 (Z4m N)) Try.f96 ZsU [] (Zj (Z4w.can (x,())) []) (EQ Try.f96 (Z54 (x,())) [])
abbrev ZzK:Prop:=∀ (N:Nat) (x:Piece) (_:Unit),Z6i (x,())->ZfB (x,()) < N+1->ZxJ N x
theorem ZsN(c12:CT 12 Z0z)(c24:CT 24 Z1x)(c44:CT 44 Z0g)(c76:CT 76 Z46)(c93:CT 93 Z44)(c95:CT 95 Z43)(b59:ZzS)(b77:ZzO)(b92:ZzM)(b94:ZzL)(b78:ZzN)(b96:ZzK):
  CT 59 Z9b/\CT 77 ZnE/\CT 92 ZnC/\CT 94 ZnB/\CT 78 ZnD/\CT 96 ZnA:=by
 have h60 : ∃ fn, Try.prog.funcs[(59 : FuncId)]? = some fn ∧ fn.body.isSome = true ∧ (fn.name == "runtime.NumGoroutine") = false := ⟨Try.f59, Try.func59, rfl, rfl⟩
 have h97 : ∃ fn, Try.prog.funcs[(77 : FuncId)]? = some fn ∧ fn.body.isSome = true ∧ (fn.name == "runtime.NumGoroutine") = false := ⟨Try.f77, Try.func77, rfl, rfl⟩
 have h132 : ∃ fn, Try.prog.funcs[(92 : FuncId)]? = some fn ∧ fn.body.isSome = true ∧ (fn.name == "runtime.NumGoroutine") = false := ⟨Try.f92, Try.func92, rfl, rfl⟩
 have h134 : ∃ fn, Try.prog.funcs[(94 : FuncId)]? = some fn ∧ fn.body.isSome = true ∧ (fn.name == "runtime.NumGoroutine") = false := ⟨Try.f94, Try.func94, rfl, rfl⟩
 have h98 : ∃ fn, Try.prog.funcs[(78 : FuncId)]? = some fn ∧ fn.body.isSome = true ∧ (fn.name == "runtime.NumGoroutine") = false := ⟨Try.f78, Try.func78, rfl, rfl⟩
 have h136 : ∃ fn, Try.prog.funcs[(96 : FuncId)]? = some fn ∧ fn.body.isSome = true ∧ (fn.name == "runtime.NumGoroutine") = false := ⟨Try.f96, Try.func96, rfl, rfl⟩
 have key:∀ N,CT 59 (fs Z4B (fun a=> [Z4F a,ZdA a < N]) Z56)/\CT 77 (fs Z4A (fun a=> [Z6m a,ZfF a < N]) Z7z)/\CT 92 (fs Z4y (fun a=> [Z6k a,ZfD a < N]) Z55)/\CT 94 (fs Z4x (fun a=> [Z6j a,ZfC a < N]) Z6f)/\CT 78 (fs Zqj (fun a=> [Z6l a,ZfE a < N]) Z4D)/\CT 96 (fs Z4w (fun a=> [Z6i a,ZfB a < N]) Z54):=by
  intro N
  induction N with
  | zero=> exact ⟨J1 h60,J1 h97,J1 h132,J1 h134,J1 h98,J1 h136⟩
  | succ N ih=>
   have kn:=Z0b (l:=Z4m N) ⟨ih.1,ih.2.1,ih.2.2.1,ih.2.2.2.1,ih.2.2.2.2.1,ih.2.2.2.2.2,c12,c24,c44,c76,c93,c95,trivial⟩
   exact ⟨ZB (Γ:=Z2 (Z4m N)) Zk rfl kn ZwW Try.func59 rfl rfl (fun a=> by show 2<=_;decide) (fun ⟨p,q,_⟩ h=> b59 N p q () h.1 h.2.1),
    ZB (Γ:=Z2 (Z4m N)) Zk rfl kn Zwz Try.func77 rfl rfl (fun a=> by show 2<=_;decide) (fun ⟨p,q,_⟩ h=> b77 N p q () h.1 h.2.1),
    ZB (Γ:=Z2 (Z4m N)) Zk rfl kn ZsV Try.func92 rfl rfl (fun a=> by show 4<=_;decide) (fun ⟨p,q,at_,one,_⟩ h=> b92 N p q at_ one () h.1 h.2.1),
    ZB (Γ:=Z2 (Z4m N)) Zk rfl kn ZwA Try.func94 rfl rfl (fun a=> by show 2<=_;decide) (fun ⟨a,b,_⟩ h=> b94 N a b () h.1 h.2.1),
    ZB (Γ:=Z2 (Z4m N)) Zk rfl kn ZsX Try.func78 rfl rfl (fun a=> by show 2<=_;decide) (fun ⟨p,q,_⟩ h=> b78 N p q () h.1 h.2.1),
    ZB (Γ:=Z2 (Z4m N)) Zk rfl kn ZsU Try.func96 rfl rfl (fun a=> by show 1<=_;decide) (fun ⟨x,_⟩ h=> b96 N x () h.1 h.2.1)⟩
 exact ⟨J2 h60 fun N=> (key N).1,J2 h97 fun N=> (key N).2.1,J2 h132 fun N=> (key N).2.2.1,J2 h134 fun N=> (key N).2.2.2.1,J2 h98 fun N=> (key N).2.2.2.2.1,J2 h136 fun N=> (key N).2.2.2.2.2⟩
end
theorem Z0c{n:Nat}{rs:List ResultVar}{r r':V U}{X:List (List (C U))}{e:AExit}{s:LSt U}(hr:r=r')(h:Yv cfg n rs r' X e s):Yv cfg n rs r X e s:=by rw [hr];exact h
theorem c91:Contract Try.prog cfg 91 ZbC:=by
 refine Zvx c66 ?_
 intro p q _ hp
 obtain ⟨rp,rq⟩:=hp
 dsimp only at rp rq
 have A:=(ZlO rp.2.1 rq.2.1).1
 refine ZAm _ _ _ ?_
 (simp only [iB,vcT,vcS])
 have z0:(0:Int)<=0/\(0:Int) < 18446744073709551616:=V2
 refine ⟨⟨z0,rp.2.2.2,A⟩,⟨z0,rq.2.2.1,A⟩,fun h=> ?_,fun h=> ⟨⟨rq.2.2.1,rp.2.2.1,rp.2.1⟩,⟨rp.2.2.2,rq.2.2.2,rq.2.1⟩,?_⟩⟩
 .have hn:Z9M p q=false:=decide_eq_false h
  refine Z0c (r':= .tup [(true,enc .wedit (⟨0,0,0,0⟩:WEdit)),(false,[.bool false])]) ?_ Y6
  simp only [ZkP,YP]
  rw [hn]
  try rfl
 .have hn:Z9M p q=true:=decide_eq_true h
  refine Z0c (r':= .tup [(true,enc .wedit (⟨p.at_,orM p.mask q.mask,mix q.old p.old p.mask,mix p.new q.new q.mask⟩:WEdit)),(false,[.bool true])]) ?_ Y6
  simp only [ZkP,YP]
  rw [hn]
  try rfl
theorem c90:Contract Try.prog cfg 90 ZbD:=by
 refine Zvy ?_
 intro w _ _
 exact ZAn _ _ (Ym rfl rfl)
theorem c93:Contract Try.prog cfg 93 Z44:=by
 refine Zvw ?_
 intro w _ _
 exact ZAk _ _ (Ym rfl rfl)
theorem ZcP{α:Type}{at_:α->Int}{one:α->α->α × Bool}{p q:List α}(h:Zm at_ one p q=none):(Zm at_ one p q).isSome=false/\ofO (Zm at_ one p q)=[]:=by rw [h];exact ⟨rfl,rfl⟩
structure MInv {α:Type} (at_:α->Int) (one:α->α->α × Bool) (p q x0 x1 out:List α):Prop where
 eq:Zm at_ one p q=(Zm at_ one x0 x1).map (out++·)
 len:out.length+x0.length+x1.length<=p.length+q.length
theorem MInv.left{α:Type}{at_:α->Int}{one:α->α->α × Bool}{p q x1 out:List α}{a:α}{x0:List α}(h:MInv at_ one p q (a ::x0) x1 out)(hb:∀ b∈x1.head?,at_ a < at_ b):MInv at_ one p q x0 x1 (out++[a]):=by
 refine ⟨?_,by have:=h.len;simp only [Q7,Qh,Qn] at*;omega⟩
 rw [h.eq]
 cases x1 with
 | nil=>
  rw [Zm]
  have:Zm at_ one x0 []=some x0:=by cases x0 <;> rw [Zm]
  rw [this];simp
 | cons b r=>
  rw [Zm,if_pos (hb b (by simp))]
  cases Zm at_ one x0 (b ::r) <;> simp
theorem MInv.right{α:Type}{at_:α->Int}{one:α->α->α × Bool}{p q x0 out:List α}{b:α}{x1:List α}(h:MInv at_ one p q x0 (b ::x1) out)(hb:∀ a∈x0.head?,at_ b < at_ a):MInv at_ one p q x0 x1 (out++[b]):=by
 refine ⟨?_,by have:=h.len;simp only [Q7,Qh,Qn] at*;omega⟩
 rw [h.eq]
 cases x0 with
 | nil=> rw [Zm,Zm];simp
 | cons a r=>
  have:=hb a (by simp)
  rw [Zm,JI,if_pos this]
  cases Zm at_ one (a ::r) x1 <;> simp
theorem MInv.both{α:Type}{at_:α->Int}{one:α->α->α × Bool}{p q x0 x1 out:List α}{a b:α}(h:MInv at_ one p q (a ::x0) (b ::x1) out)(e:at_ a=at_ b):
  ((one a b).2=true->MInv at_ one p q x0 x1 (out++[(one a b).1]))/\((one a b).2=false->Zm at_ one p q=none):=by
 refine ⟨fun hc=> ⟨?_,by have:=h.len;simp only [Q7,Qh,Qn] at*;omega⟩,fun hc=> ?_⟩
 .rw [h.eq,Zm,JI,JI,if_pos hc]
  cases Zm at_ one x0 x1 <;> simp
 .rw [h.eq,Zm,JI,JI,if_neg (by rw [hc];decide)]
  try rfl
theorem MInv.done{α:Type}{at_:α->Int}{one:α->α->α × Bool}{p q out:List α}(h:MInv at_ one p q [] [] out):Zm at_ one p q=some out:=by
 rw [h.eq,Zm];simp
theorem MInv.left'{α:Type}{at_:α->Int}{one:α->α->α × Bool}{p q x0 x1 out:List α}(z:α)(h:MInv at_ one p q x0 x1 out)(hx:0 < x0.length)(hb:x1.length=0\/at_ (x0.getD 0 z) < at_ (x1.getD 0 z)):
  MInv at_ one p q (x0.drop 1) x1 (out++[x0.getD 0 z]):=by
 cases x0 with
 | nil=> simp at hx
 | cons a r=>
  refine h.left fun b hb'=> ?_
  cases x1 with
  | nil=> simp at hb'
  | cons c s=>
   simp only [List.head?_cons,Option.mem_def,Option.some.injEq] at hb'
   subst hb'
   rcases hb with hb | hb
   .simp at hb
   .exact hb
theorem MInv.right'{α:Type}{at_:α->Int}{one:α->α->α × Bool}{p q x0 x1 out:List α}(z:α)(h:MInv at_ one p q x0 x1 out)(hx:0 < x1.length)(hb:x0.length=0\/at_ (x1.getD 0 z) < at_ (x0.getD 0 z)):
  MInv at_ one p q x0 (x1.drop 1) (out++[x1.getD 0 z]):=by
 cases x1 with
 | nil=> simp at hx
 | cons a r=>
  refine h.right fun b hb'=> ?_
  cases x0 with
  | nil=> simp at hb'
  | cons c s=>
   simp only [List.head?_cons,Option.mem_def,Option.some.injEq] at hb'
   subst hb'
   rcases hb with hb | hb
   .simp at hb
   .exact hb
theorem MInv.both'{α:Type}{at_:α->Int}{one:α->α->α × Bool}{p q x0 x1 out:List α}(z:α)(h:MInv at_ one p q x0 x1 out)(h0:0 < x0.length)(h1:0 < x1.length)(e:at_ (x0.getD 0 z)=at_ (x1.getD 0 z)):
  ((one (x0.getD 0 z) (x1.getD 0 z)).2=true->MInv at_ one p q (x0.drop 1) (x1.drop 1) (out++[(one (x0.getD 0 z) (x1.getD 0 z)).1]))/\((one (x0.getD 0 z) (x1.getD 0 z)).2=false->Zm at_ one p q=none):=by
 cases x0 with
 | nil=> simp at h0
 | cons a r=>
  cases x1 with
  | nil=> simp at h1
  | cons b s=> exact h.both e
theorem c89:Contract Try.prog cfg 89 ZbE:=by
 refine Zvz c90 c91 ?_
 rintro p q ⟨⟩ ⟨⟩ _ hp
 obtain ⟨⟨rp,lp⟩,rq,lq⟩:=hp
 dsimp only at rp lp rq lq
 refine ZAo p q () () _ ?_
 refine Zb (ι:=List WEdit × List WEdit × List WEdit) (fun x=> Z3B p q () () x.1 x.2.1 x.2.2) (fun x=> MInv WEdit.at_ YP p q x.1 x.2.1 x.2.2/\(∀ w∈x.1,Z1j w)/\∀ w∈x.2.1,Z1j w) (fun x=> x.1.length+x.2.1.length) (p,q,[]) rfl
  ⟨⟨by dsimp only;cases Zm WEdit.at_ YP p q <;> simp,by simp⟩,rp,rq⟩ ?_
 rintro ⟨x0,x1,x10⟩ ⟨inv,r0,r1⟩
 dsimp only at inv r0 r1
 have hlen:=inv.len
 refine Zrz p q () () _ _ _ _ _ ?_
 intro y1 h1 y2 h2 y3 h3 y4 h4 y5 h5
 subst h3 h4
 (simp only [iB,vcT,vcS])
 have h3:y3=x0.getD 0 ⟨0,0,0,0⟩:=h1
 have h4:y4=x1.getD 0 ⟨0,0,0,0⟩:=h2
 have d0:∀ w∈x0.drop 1,Z1j w:=fun w hw=> r0 w (QZ hw)
 have d1:∀ w∈x1.drop 1,Z1j w:=fun w hw=> r1 w (QZ hw)
 refine ⟨fun hne=> ⟨fun h=> ⟨V0,V0⟩,fun _=> trivial,fun h=> ⟨V0,V0⟩,fun _=> trivial,fun g1 g2=> ⟨g1,g2⟩,fun hA=> ?_,fun hB=> ?_⟩,fun hE=> ?_⟩
 .refine ⟨⟨V0,V0⟩,by simp only [Q7,Qn];omega,⟨V0,V0⟩,(x0.drop 1,x1,x10++[y3]),rfl,⟨?_,d0,r1⟩,by dsimp only;rw [List.length_drop];omega⟩
  rw [h3]
  exact inv.left' _ V0 (by rw [<-h3,<-h4];omega)
 .refine ⟨fun h=> ⟨V0,V0⟩,fun _=> trivial,fun h=> ⟨V0,V0⟩,fun _=> trivial,fun hC=> ?_,fun hD=> ?_⟩
  .refine ⟨⟨V0,V0⟩,by simp only [Q7,Qn];omega,⟨V0,V0⟩,(x0,x1.drop 1,x10++[y4]),rfl,⟨?_,r0,d1⟩,by dsimp only;rw [List.length_drop];omega⟩
   rw [h4]
   exact inv.right' _ V0 (by rw [<-h3,<-h4];omega)
  .have hb:=inv.both' ⟨0,0,0,0⟩ V0 V0 (by rw [<-h3,<-h4];omega)
   rw [<-h3,<-h4] at hb
   have m3:Z1j y3:=by rw [h3];exact r0 _ (Zh V0 _)
   have m4:Z1j y4:=by rw [h4];exact r1 _ (Zh V0 _)
   refine ⟨⟨V0,V0⟩,⟨V0,V0⟩,⟨m3,m4⟩,fun hc=> ?_,fun hc=> ?_⟩
   .have e:=ZcP (hb.2 hc)
    refine Z0c (r':= .tup [(false,[.slice (U:=U) .wedit [] .unk]),(false,[.bool false])]) ?_ Y6
    simp only [ZkQ]
    rw [e.1,e.2]
   .refine ⟨by simp only [Q7,Qn];omega,⟨V0,V0⟩,⟨V0,V0⟩,(x0.drop 1,x1.drop 1,x10++[y5]),rfl,⟨?_,d0,d1⟩,by dsimp only;rw [List.length_drop,List.length_drop];omega⟩
    rw [h5]
    exact hb.1 hc
 .have e0:x0=[]:=Q3 V0
  have e1:x1=[]:=Q3 V0
  subst e0 e1
  have e:=inv.done
  refine Z0c (r':= .tup [(false,[.slice (U:=U) .wedit x10 .unk]),(false,[.bool true])]) ?_ Y6
  simp only [ZkQ]
  rw [e]
  try rfl
theorem c76:Contract Try.prog cfg 76 Z46:=by
 refine ZvJ c89 ?_
 intro p q _ hp
 exact ZAA _ _ _ ⟨hp,Y6⟩
theorem Zuu(e:Edit):e.words.length+e.ops.length+Zx e.kids+Zr e.ops+Zn e.old+Zn e.new+1=Zd e:=by obtain ⟨k,o,n,w,ks,l,os⟩:=e;simp only [Zd,Edit.words_mk,Edit.ops_mk,Edit.kids_mk,Edit.old_mk,Edit.new_mk];omega
theorem Zlq(t:Tree):1<=Zn t:=by obtain ⟨k,w,ks⟩:=t;simp only [Zn];omega
theorem Z3i{e:Edit}(h:YI e):Zd e<=9000000000:=X5 (Zbi e) h.1
theorem Z7j{e:Edit}(h:YI e):Z1l (e,())/\YI (ZE (Zq e)):=by
 have hm:=Z3i h
 obtain ⟨m,r,d,hr⟩:=h
 refine ⟨⟨V3,d,hr⟩,?_,?_,d,Jx _ _ (Yn _ _ hr)⟩
 .have:=Z4r (Zq e)
  rw [Z8S] at this
  omega
 .exact Z0G _ d (Yn _ _ hr) (Z3g e r)
theorem Z8X{e:Edit}{t:Tree}(h:YI e)(hm:Zn t<=100000000000)(ht:rng t):Z3j (e,t,()):=by
 have:=Z3i h
 have:=h.1
 exact ⟨⟨V3,h.2⟩,V3,ht⟩
theorem Zl5{e:Edit}(h:YI e):Zb2 e.kids:=by
 obtain ⟨m,r,d,hr⟩:=h
 have:=Z2p e
 exact ⟨V0,(YF r).2.2.2.1,fun k hk=> ⟨_,(ZP (Zs hr).kids k hk).2⟩⟩
theorem Zl4{e:Edit}(h:YI e):Zm8 e.ops:=by
 obtain ⟨m,r,d,hr⟩:=h
 have:=Z2p e
 exact ⟨V0,(YF r).2.2.2.2,fun o ho=> ⟨_,_,rightOs_mem (Zs hr).ops ho⟩⟩
theorem b59:ZzS:=by
 intro N p q _ hp hN
 obtain ⟨op,oq⟩:=hp
 dsimp only at op oq
 have hN':8*(Zd p+Zd q) < N+1:=hN
 obtain ⟨dp,rp⟩:=op.2.2
 obtain ⟨dq,rq⟩:=oq.2.2
 have hst:=Zn6 rp rq
 unfold Jm at hst
 have lp:=Zuu p
 have lq:=Zuu q
 have mo:=Zlq p.old;have mn:=Zlq p.new;have mo':=Zlq q.old;have mn':=Zlq q.new
 have gp:=YF op.2.1
 have gq:=YF oq.2.1
 have cp:=Z2p p;have cq:=Z2p q;have cp':=op.1;have cq':=oq.1
 have fin:∀ {X:Edit} {b:Bool} {s:LSt U},Y7 p q=(X,b)->Yv cfg Try.f59.ntmps Try.f59.results.toList (.tup [(true,enc .edit X),(false,[.bool b])]) [] .ret s->Yv cfg Try.f59.ntmps Try.f59.results.toList (Z56 (p,q,())) [] .ret s:=by
  intro X b s h hs
  refine Z0c ?_ hs
  simp only [Z56]
  rw [h]
  try rfl
 refine ZAR N p q _ ?_
 intro y1 h1 y2 h2 y3 h3 y4 h4 y5 h5
 replace h1:=h1.symm;replace h2:=h2.symm;replace h3:=h3.symm;replace h4:=h4.symm
 subst h1 h2 h3 h4
 (simp only [iB,vcT,vcS])
 try dsimp only at h5 ⊢
 refine ⟨fun p0=> fin (by rw [hst,if_pos p0]) Y6,fun p0=> ?_⟩
 rw [if_neg p0] at hst
 refine ⟨fun q0=> fin (by rw [hst,if_pos q0]) Y6,fun q0=> ?_⟩
 rw [if_neg q0] at hst
 refine ⟨fun p1=> ⟨Z8X oq V0 gp.2.1,fin (by rw [hst,if_pos p1]) (by unfold doB;(repeat' (first | exact trivial | exact rfl | apply And.intro)))⟩,fun p1=> ?_⟩
 rw [if_neg p1] at hst
 refine ⟨fun q1=> ⟨(Z7j op).1,by rw [h5];exact Z8X (Z7j op).2 V0 gq.1,fin (by rw [hst,if_pos q1,<-h5]) (by unfold doB;(repeat' (first | exact trivial | exact rfl | apply And.intro)))⟩,fun q1=> ?_⟩
 rw [if_neg q1] at hst
 refine ⟨fun hd=> fin (by rw [hst,if_pos hd]) Y6,fun hd=> ?_⟩
 rw [if_neg (by rintro (h | h);exact h hd.1;exact h hd.2)] at hst
 refine ⟨fun p2=> ?_,fun p2=> ?_⟩
 .rw [if_pos p2] at hst
  refine ⟨⟨⟨gp.2.2.1,V3⟩,gq.2.2.1,V3⟩,fun hw=> ?_,fun hw=> ⟨⟨Zl5 op,Zl5 oq⟩,by show 8*(Zx p.kids+Zx q.kids)+4 < N;omega,?_⟩⟩
  .exact fin (by rw [hst,if_neg (by rw [hw];decide)]) Y6
  .exact fin (by rw [hst,if_pos hw]) Y6
 .rw [if_neg p2] at hst
  exact ⟨⟨Zl4 op,Zl4 oq⟩,by show 8*(Zr p.ops+Zr q.ops)+40 < N;omega,fin hst Y6⟩
theorem b77:ZzO:=by
 intro N a b _ hp hN
 have hN':8*(Zx a+Zx b)+4 < N+1:=hN
 refine ZAz N a b _ ?_
 exact ⟨hp,by show 8*(Zx a+Zx b)+3 < N;omega,Y6⟩
theorem ZgN{k:Kid}(h:Z0N k):InR k.at_/\ZK k.e:=by cases k;exact h
theorem b94:ZzL:=by
 intro N a b _ hp hN
 obtain ⟨oa,ob⟩:=hp
 dsimp only at oa ob
 have hN':8*(Yw a+Yw b)+1 < N+1:=hN
 have ka:=Z60 a
 have kb:=Z60 b
 refine ZAj N a b _ ?_
 intro y1 h1 y2 h2
 replace h1:=h1.symm;replace h2:=h2.symm
 subst h1 h2
 try dsimp only
 have ra:YI a.e:=⟨by have:=oa.1;rw [Z3T] at this;omega,(ZgN oa.2.1).2,oa.2.2⟩
 have rb:YI b.e:=⟨by have:=ob.1;rw [Z3T] at this;omega,(ZgN ob.2.1).2,ob.2.2⟩
 exact ⟨⟨ra,rb⟩,by show 8*(Zd a.e+Zd b.e) < N;omega,by unfold Z6f Z0L;(repeat' (first | exact trivial | exact rfl | apply And.intro))⟩
theorem Ze7{l:List Kid}(h:Zb2 l):Zb2 (l.drop 1):=by
 cases l with
 | nil=> exact h
 | cons k r=>
  obtain ⟨h1,h2,h3⟩:=h
  simp only [Z0t] at h1
  exact ⟨by simp only [QQ,QV];omega,h2.2,fun x hx=> h3 x (Q0 _ hx)⟩
theorem Ze6{l:List Kid}(h:Zb2 l)(hl:0 < l.length)(z:Kid):ZpR (l.getD 0 z)/\Yw (l.getD 0 z)+Zx (l.drop 1)=Zx l:=by
 cases l with
 | nil=> simp at hl
 | cons k r=>
  obtain ⟨h1,h2,h3⟩:=h
  simp only [Z0t] at h1
  exact ⟨⟨by simp only [Qt];omega,h2.1,h3 k Q4⟩,rfl⟩
theorem ZaE:∀ l:List Kid,Zx (l.drop 1)<=Zx l
 | []=> Qm _
 | k ::r=> by simp only [QQ,QV,Zx];omega
theorem b92:ZzM:=by
 rintro N p q ⟨⟩ ⟨⟩ _ hp hN
 obtain ⟨op,oq⟩:=hp
 dsimp only at op oq
 have hN':8*(Zx p+Zx q)+3 < N+1:=hN
 have lp:=Yb p
 have lq:=Yb q
 have bp:=X5 (Z5Z p) op.1;have bq:=X5 (Z5Z q) oq.1
 refine ZAl N p q () () _ ?_
 refine Zb (ι:=List Kid × List Kid × List Kid) (fun x=> Z3A p q () () x.1 x.2.1 x.2.2) (fun x=> MInv KidOf.at_ (Z0L Y7) p q x.1 x.2.1 x.2.2/\(Zb2 x.1/\Zx x.1<=Zx p)/\Zb2 x.2.1/\Zx x.2.1<=Zx q) (fun x=> x.1.length+x.2.1.length) (p,q,[]) rfl
  ⟨⟨by dsimp only;cases Zm KidOf.at_ (Z0L Y7) p q <;> simp,by simp⟩,⟨op,Nat.le_refl _⟩,oq,Nat.le_refl _⟩ ?_
 rintro ⟨x0,x1,x10⟩ ⟨inv,⟨r0,m0⟩,r1,m1⟩
 dsimp only at inv r0 r1 m0 m1
 have hlen:=inv.len
 refine Zry N p q () () _ _ _ _ _ ?_
 intro y1 h1 y2 h2 y3 h3 y4 h4 y5 h5
 subst h3 h4
 (simp only [iB,vcT,vcS])
 have h3:y3=x0.getD 0 ⟨0,Edit.nil⟩:=h1
 have h4:y4=x1.getD 0 ⟨0,Edit.nil⟩:=h2
 have d0:Zb2 (x0.drop 1)/\Zx (x0.drop 1)<=Zx p:=⟨Ze7 r0,by have:=ZaE x0;omega⟩
 have d1:Zb2 (x1.drop 1)/\Zx (x1.drop 1)<=Zx q:=⟨Ze7 r1,by have:=ZaE x1;omega⟩
 refine ⟨fun hne=> ⟨fun h=> ⟨V0,V0⟩,fun _=> trivial,fun h=> ⟨V0,V0⟩,fun _=> trivial,fun g1 g2=> ⟨g1,g2⟩,fun hA=> ?_,fun hB=> ?_⟩,fun hE=> ?_⟩
 .refine ⟨⟨V0,V0⟩,by simp only [Q7,Qn];omega,⟨V0,V0⟩,(x0.drop 1,x1,x10++[y3]),rfl,⟨?_,d0,r1,m1⟩,by dsimp only;rw [List.length_drop];omega⟩
  rw [h3]
  exact inv.left' _ V0 (by rw [<-h3,<-h4];omega)
 .refine ⟨fun h=> ⟨V0,V0⟩,fun _=> trivial,fun h=> ⟨V0,V0⟩,fun _=> trivial,fun hC=> ?_,fun hD=> ?_⟩
  .refine ⟨⟨V0,V0⟩,by simp only [Q7,Qn];omega,⟨V0,V0⟩,(x0,x1.drop 1,x10++[y4]),rfl,⟨?_,⟨r0,m0⟩,d1⟩,by dsimp only;rw [List.length_drop];omega⟩
   rw [h4]
   exact inv.right' _ V0 (by rw [<-h3,<-h4];omega)
  .have hb:=inv.both' ⟨0,Edit.nil⟩ V0 V0 (by rw [<-h3,<-h4];omega)
   rw [<-h3,<-h4] at hb
   obtain ⟨k3,n3⟩:=Ze6 r0 V0 ⟨0,Edit.nil⟩
   obtain ⟨k4,n4⟩:=Ze6 r1 V0 ⟨0,Edit.nil⟩
   rw [<-h3] at k3 n3
   rw [<-h4] at k4 n4
   refine ⟨⟨V0,V0⟩,⟨V0,V0⟩,⟨k3,k4⟩,by show 8*(Yw y3+Yw y4)+1 < N;omega,fun hc=> ?_,fun hc=> ?_⟩
   .have e:=ZcP (hb.2 hc)
    refine Z0c (r':= .tup [(false,[.slice (U:=U) .kid [] .unk]),(false,[.bool false])]) ?_ Y6
    simp only [Z55]
    rw [e.1,e.2]
   .refine ⟨by simp only [Q7,Qn];omega,⟨V0,V0⟩,⟨V0,V0⟩,(x0.drop 1,x1.drop 1,x10++[y5]),rfl,⟨?_,d0,d1⟩,by dsimp only;rw [List.length_drop,List.length_drop];omega⟩
    rw [h5]
    exact hb.1 hc
 .have e0:x0=[]:=Q3 V0
  have e1:x1=[]:=Q3 V0
  subst e0 e1
  have e:=inv.done
  refine Z0c (r':= .tup [(false,[.slice (U:=U) .kid x10 .unk]),(false,[.bool true])]) ?_ Y6
  simp only [Z55]
  rw [e]
  try rfl
theorem Zhj{l:List Op}{o:Op}(h:Part l o)(ho:YV o)(hl:JP l):YD o:=by
 obtain ⟨o',m,k,e1,_,lt⟩:=h
 have G:=JQ (Z08 hl m)
 obtain ⟨kk,nn,ll,ee⟩:=o
 have k:kk=o'.kind:=k
 have e1:ee=o'.e:=e1
 have lt:∀ t∈ll,t∈o'.l:=lt
 refine ⟨by rw [k];exact G.1,?_,Z7u fun t ht=> Ja G.2.2.1 (lt t ht),by rw [e1];exact G.2.2.2⟩
 rcases ho with h | h | h
 .have:=h.2.2.1
  unfold InR
  dsimp only at this
  omega
 .have h2:nn=0:=h.2.1
  rw [h2];exact Jk V2 V2
 .have h2:nn=0:=h.2.1
  rw [h2];exact Jk V2 V2
theorem Z5S{l:List Op}{o:Op}(h:Part l o):Z2s o<=YN l/\ZA o<=Zr l:=by
 obtain ⟨o',m,k,e1,hm,_⟩:=h
 have h1:=Z8T m
 have h2:=Yl m
 have a:=Z4s o
 rw [ZW,ZW,e1] at hm
 rw [e1] at a
 rw [ZW] at h2
 rw [ZW,e1]
 omega
theorem ZcC{l:List Op}{o:Op}(h:Part l o)(hl:∀ o∈l,∃ list d,Zc list o d=true)(k3:o.kind=3):∃ d,Z0 o.e d=true:=by
 obtain ⟨o',m,k,e1,hm,_⟩:=h
 obtain ⟨list,d,hr⟩:=hl o' m
 exact ⟨d,by rw [e1];exact Jv hr V0⟩
theorem Zou{p q:List Op}(hp:Zm8 p)(hq:Zm8 q){x:Piece}(h:POk p q x):PcOk x:=by
 refine ⟨h.of,fun e=> ?_,fun e=> ?_,h.both⟩
 .obtain ⟨a,b⟩:=h.pp e
  exact ⟨b,X5 (Z5S a).1 hp.1,Zhj a b hp.2.1,ZcC a hp.2.2⟩
 .obtain ⟨a,b⟩:=h.qq e
  exact ⟨b,X5 (Z5S a).1 hq.1,Zhj a b hq.2.1,ZcC a hq.2.2⟩
theorem ZtQ{p:List Op}(hp:Zm8 p):Z9t p:=by
 refine ⟨fun o ho=> ?_,?_⟩
 .obtain ⟨_,_,h⟩:=hp.2.2 o ho
  exact Z6M h
 .have:=Z3q p
  have:=hp.1
  omega
theorem b78:ZzN:=by
 intro N p q _ hp hN
 obtain ⟨op,oq⟩:=hp
 dsimp only at op oq
 have hN':8*(Zr p+Zr q)+40 < N+1:=hN
 have kp:=ZtQ op
 have kq:=ZtQ oq
 obtain ⟨i1,_⟩:=Z7O _ p q [] (Qm _) kp.1 kq.1
 refine ZAy N p q _ ?_
 (simp only [iB,vcT,vcS])
 refine ⟨⟨kp,kq⟩,fun hb=> ?_,fun hb=> ?_⟩
 .have e:Z0J Y7 p q=none:=by unfold Z0J;rw [if_neg (by rw [hb];decide)]
  refine Z0c (r':= .tup [(false,[.slice (U:=U) .op [] .unk]),(false,[.bool false])]) ?_ Y6
  simp only [Z4D]
  rw [e];try rfl
 .obtain ⟨ps,e,hps,_,_⟩:=i1 hb
  obtain ⟨ps1,e1,_,_,hlen⟩:=ZcD ZuU ZuT 1 _ p q [] (Qm _) kp.1 kq.1 hb
  rw [e,QF,QF] at e1
  subst e1
  rw [QF] at e
  have hco:Z0J Y7 p q=Z0u Y7 ps:=by unfold Z0J;rw [if_pos hb,e]
  refine Zb (ι:=Int × List Op) (fun s=> Z5v p q s.1 s.2) (fun s=> 0<=s.1/\s.1<=ps.length/\Z0u Y7 ps=(Z0u Y7 (ps.drop s.1.toNat)).map (s.2++·)/\s.2.length+(ps.drop s.1.toNat).length<=ps.length) (fun s=> ((ps.length:Int) - s.1).toNat) (0,[]) rfl ⟨by simp,by simp,by simp,by simp⟩ ?_
  rintro ⟨i,out⟩ ⟨f1,f2,f3,f4⟩
  dsimp only at f1 f2 f3 f4
  refine ZrC N p q _ _ _ _ ?_
  intro y1 h1 y2 h2 y3 h3
  rw [e] at h1 ⊢
  subst h2
  (simp only [iB,vcT,vcS])
  refine ⟨fun hi=> ?_,fun hi=> ?_⟩
  .have h1:y2=ps.getD i.toNat (Piece.mk 0 Op.nil Op.nil):=h1
   have hmem:y2∈ps:=by rw [h1];exact Zh V0 _
   have hx:=hps y2 hmem
   have hd:ps.drop i.toNat=y2 ::ps.drop (i+1).toNat:=by rw [h1];exact YB f1 hi _
   rw [hd,Z0u] at f3
   rw [hd,Q7] at f4
   have hmu:8*(ZA y2.p+ZA y2.q)+1 < N:=by
    rcases hx.of with h | h | h
    .have:=(Z5S (hx.pp V0).1).2;have:=(Z5S (hx.qq V0).1).2;omega
    .have:=(Z5S (hx.pp V0).1).2;rw [hx.qn h,show ZA Op.nil=3 from rfl];omega
    .have:=(Z5S (hx.qq V0).1).2;rw [hx.pn h,show ZA Op.nil=3 from rfl];omega
   have c1:=Z3q p;have c2:=Z3q q;have c3:=op.1;have c4:=oq.1
   refine ⟨⟨f1,hi⟩,Zou op oq hx,hmu,fun hc=> ?_,fun hc=> ⟨fun his=> ?_,fun his=> ?_⟩⟩
   .rw [if_neg (by rw [hc];decide)] at f3
    refine Z0c (r':= .tup [(false,[.slice (U:=U) .op [] .unk]),(false,[.bool false])]) ?_ Y6
    simp only [Z4D]
    rw [hco,f3];try rfl
   .rw [if_pos hc,if_pos his] at f3
    refine ⟨by simp only [Q7,Qn];omega,V4,(i+1,out++[y3]),rfl,⟨V3,V3,?_,?_⟩,V3⟩
    .rw [f3,h3]
     cases Z0u Y7 (ps.drop (i+1).toNat) <;> simp
    .simp only [Qh,Q7,Qn];omega
   .rw [if_pos hc,if_neg (by rw [his];decide)] at f3
    refine ⟨V4,(i+1,out),rfl,⟨V3,V3,?_,V3⟩,V3⟩
    rw [f3]
    cases Z0u Y7 (ps.drop (i+1).toNat) <;> simp
  .rw [Q8 V0,Z0u] at f3
   refine Z0c (r':= .tup [(false,[.slice (U:=U) .op out .unk]),(false,[.bool true])]) ?_ Y6
   simp only [Z4D]
   rw [hco,f3]
   simp [ofO]
theorem ZdX{α:Type}{l:List α}{i:Nat}(h:i < l.length)(d:α):l.take (i+1)=l.take i++[l.getD i d]:=by
 rw [XK h,Qd,Q2 h];try rfl
theorem ZpY{a b:List Tree}(h:Z7 a=Z7 b):ZfW a b=true:=Z1f.2 h
theorem Ztt{a b:List Tree}(h:¬Z7 a=Z7 b):ZfW a b=false:=by rw [<-Xy];exact fun e=> h (Z1f.1 e)
theorem ZhG(o:Op):Zl o.l<=Z2s o:=by rw [Z4s];omega
theorem b96:ZzK:=by
 intro N x _ hp hN
 have hp:PcOk x:=hp
 have hN':8*(ZA x.p+ZA x.q)+1 < N+1:=hN
 have fin:∀ {o:Op} {i k:Bool} {s:LSt U},ZI Y7 x=⟨o,i,k⟩->Yv cfg Try.f96.ntmps Try.f96.results.toList (.tup [(true,enc .op o),(false,[.bool i]),(false,[.bool k])]) [] .ret s->Yv cfg Try.f96.ntmps Try.f96.results.toList (Z54 (x,())) [] .ret s:=by
  intro o i k s h hs
  refine Z0c ?_ hs
  simp only [Z54]
  rw [h];try rfl
 refine ZAh N x _ ?_
 intro y1 h1 y2 h2 y3 h3 y4 h4 y5 h5 y6 h6 y7 h7 y8 h8 y9 h9
 subst h1 h2 h5 h6
 (simp only [iB,vcT,vcS])
 have hc:=ZI.eq_1 Y7 x
 refine ⟨fun _ h=> ⟨V0,h⟩,fun c1=> fin (by rw [hc,if_pos c1]) Y6,fun c1=> ?_⟩
 rw [JI] at hc
 refine ⟨fun c2=> fin (by rw [hc,if_pos c2]) Y6,fun c2=> ?_⟩
 rw [JI] at hc
 have c0:x.of=0:=by rcases hp.of with h | h | h <;> omega
 obtain ⟨b1,b2,b3⟩:=hp.both c0
 obtain ⟨op,mp,gp,rp⟩:=hp.pp V0
 obtain ⟨oq,mq,gq,rq⟩:=hp.qq V0
 have ep:=Z4s x.p
 have eq:=Z4s x.q
 have gp':=JQ gp
 have gq':=JQ gq
 have ap:=ZhG x.p
 have aq:=ZhG x.q
 refine ⟨fun c3=> ?_,fun c3=> ?_⟩
 .rw [if_pos c3] at hc
  have l1:=YK op (.inr c3.1)
  have l2:=YK oq (.inl c3.2)
  have k1:=Zw x.p.l
  rw [Qr V0] at hc
  refine Zb (ι:=Int) (fun i=> Z8a x i) (fun i=> 0<=i/\i<=x.p.l.length/\Z7 (x.p.l.take i.toNat)=Z7 (x.q.l.take i.toNat)) (fun i=> ((x.p.l.length:Int) - i).toNat) 0 rfl ⟨V0,V0,by simp⟩ ?_
  rintro i ⟨f1,f2,f3⟩
  refine Zrx N x _ _ _ ?_
  intro z1 g1 z2 g2 z3 g3 z4 g4
  subst g1 g2
  (simp only [iB,vcT,vcS])
  have l3:x.p.l.length=x.q.l.length:=V0
  refine ⟨fun hi=> ?_,fun hi=> ?_⟩
  .have m1:z3∈x.p.l:=by rw [g3];exact Zh V0 _
   have m2:z4∈x.q.l:=by rw [g4];exact Zh V0 _
   have m1':=J5 m1
   have m2':=J5 m2
   have t1:x.p.l.take (i+1).toNat=x.p.l.take i.toNat++[z3]:=by rw [g3,show (i+1).toNat=i.toNat+1 by omega];exact ZdX V0 _
   have t2:x.q.l.take (i+1).toNat=x.q.l.take i.toNat++[z4]:=by rw [g4,show (i+1).toNat=i.toNat+1 by omega];exact ZdX V0 _
   refine ⟨⟨f1,hi⟩,⟨f1,V0⟩,⟨V3,V3⟩,fun hne=> fin (by rw [hc,Ztt];intro he;rw [J8] at hne;apply hne;rw [g3,g4];exact Z5D he i.toNat) Y6,fun heq=> ⟨V4,i+1,rfl,⟨V0,V0,?_⟩,V0⟩⟩
   rw [t1,t2]
   exact JF f3 (Jr.2 (Yk.1 heq))
  .rw [Qr V0,Qr V0] at f3
   exact fin (by rw [hc,ZpY f3]) Y6
 rw [JI] at hc
 have kp:x.p.kind=2\/x.p.kind=3:=by rcases Ys op with k | k | k | k <;> omega
 have kq:x.q.kind=1\/x.q.kind=3:=by rcases Ys oq with k | k | k | k <;> omega
 refine ⟨fun c4=> ?_,fun c4=> ?_⟩
 .rw [if_pos c4] at hc
  have l1:=YK op (.inr c4)
  have l2:=Z0w (o:=x.q) V0
  have hl:0 < x.p.l.length:=V0
  have m3:y5∈x.p.l:=by rw [h3];exact Zh hl _
  have m3':=J5 m3
  refine ⟨⟨V0,V0⟩,Z8X ⟨V0,gq'.2.2.2,rq V0⟩ V0 (Ja gp'.2.2.1 m3),fin hc ?_⟩
  rw [show x.p.l.getD 0 Tree.nil=y5 from h3.symm]
  unfold doB
  rw [<-h8]
  exact Y6
 rw [if_neg c4] at hc
 have p3:x.p.kind=3:=V0
 refine ⟨fun c5=> ?_,fun c5=> ?_⟩
 .rw [if_pos c5] at hc
  have l1:=YK oq (.inl c5)
  have l2:=Z0w (o:=x.p) p3
  have hl:0 < x.q.l.length:=V0
  have m4:y6∈x.q.l:=by rw [h4];exact Zh hl _
  have m4':=J5 m4
  have rk:YI x.p.e:=⟨V0,gp'.2.2.2,rp p3⟩
  refine ⟨(Z7j rk).1,⟨V0,V0⟩,by rw [h7];exact Z8X (Z7j rk).2 V0 (Ja gq'.2.2.1 m4),fin hc ?_⟩
  rw [show x.q.l.getD 0 Tree.nil=y6 from h4.symm,<-h7]
  unfold doB
  rw [<-h9]
  exact Y6
 .rw [if_neg c5] at hc
  have k1:YI x.p.e:=⟨V0,gp'.2.2.2,rp p3⟩
  have k2:YI x.q.e:=⟨V0,gq'.2.2.2,rq V0⟩
  refine ⟨⟨k1,k2⟩,?_,fin hc Y6⟩
  show 8*(Zd x.p.e+Zd x.q.e) < N
  rw [ZW,ZW] at hN'
  omega
theorem ZBH:Contract Try.prog cfg 59 Z9b/\Contract Try.prog cfg 77 ZnE/\Contract Try.prog cfg 92 ZnC/\Contract Try.prog cfg 94 ZnB/\Contract Try.prog cfg 78 ZnD/\Contract Try.prog cfg 96 ZnA:=
 ZsN c12 c24 c44 c76 c93 (c95 c98) b59 b77 b92 b94 b78 b96
theorem c59:Contract Try.prog cfg 59 Z9b:=ZBH.1
end Go.AM.Ytfapacabjkhepaa
namespace Go.AM
def Z4J(list:Int):List Tree->Int->Int
 | [],_=> -1
 | t ::r,i=> if Z9 (Tree.mk list [] [t]) 64=true then Z4J list r (i+1) else i
theorem ZeR(list:Int):∀ (l:List Tree) (i:Int),0<=i->(0<=Z4J list l i↔Ju list l=false)
 | [],i,_=> by simp [Z4J,Ju]
 | t ::r,i,hi=> by
  have ih:=ZeR list r (i+1) V0
  rw [Z4J,Ju]
  by_cases h:Z9 (Tree.mk list [] [t]) 64=true
  .rw [if_pos h,h,QH];exact ih
  .rw [if_neg h]
   simp only [Xy] at h
   rw [h,Bool.false_and]
   exact ⟨fun _=> rfl,fun _=> hi⟩
end Go.AM
namespace Go.AM.Ytfapacabjkhepaa
open Go.AM Go.Proofs
noncomputable section
noncomputable section
def Zk7:ArgM (Tree × (Int × Unit) × Unit):=(.cons (aEl .tree) (.obj 0 (.cons (Zig .i64) .nil) .nil))
def Zel(a:Tree × (Int × Unit) × Unit):Prop:=Zn a.1<=18000000000/\rng a.1/\InR a.2.1.1
def ZnY(a:Tree × (Int × Unit) × Unit):V U:= .c (.bool (!(Z9 (Tree.mk a.2.1.1 [] [a.1]) 64)))
def ZiT(a:Tree × (Int × Unit) × Unit):List (List (C U)):=[[ci a.2.1.1]]
def ZbG:Fs U:=fsX Zk7 (fun a=> [Zel a]) ZnY ZiT
def Zk6:ArgM (List Tree × (Int × Unit) × Unit):=(.cons (aSl .tree) (.clo 86 0 (.cons (Zig .i64) .nil) .nil))
def Zh3(a:List Tree × (Int × Unit) × Unit):Prop:=Zl a.1<=18000000000/\Yg a.1/\InR a.2.1.1
def ZkO(a:List Tree × (Int × Unit) × Unit):V U:= .c (ci (Z4J a.2.1.1 a.1 0))
def Zft(a:List Tree × (Int × Unit) × Unit):List (List (C U)):=[[ci a.2.1.1]]
def ZbB:Fs U:=fsX Zk6 (fun a=> [Zh3 a]) ZkO Zft
def ZnZ(a:List Tree × (Int × Unit) × Unit):V U:= .c (.bool (!(Ju a.2.1.1 a.1)))
def Z6D:Fs U:=fsX Zk6 (fun a=> [Zh3 a]) ZnZ Zft
def Zpe:List (FuncId × Fs U):=[(87,ZbF)]
def ZwG:Ze U:=lvk [([1,2],[2,((.x 0),[])]),([3],[((.x 0),[])])]
abbrev W86(t:Tree)(list:Int)(Q:QT):=AW (Z2 Zpe) Try.f86 ZwG [] (L2 [(0,.agg (enc .tree t)),(1,.ptr (.x 0) 0)] [(.x 0,[ci list])]) Q
theorem ZAr(t:Tree)(list:Int)(Q:QT)(h:(Zh4 (list,(Tree.mk t.kind t.words t.kids),()))/\(Q .ret (L2 [(3,.c (.bool (!(Z9 (Tree.mk list [] [(Tree.mk t.kind t.words t.kids)]) 64))))] [(.x 0,[ci list])]))):
  W86 t list Q:=by
 have e_:(W86 t list Q)=(type_of% h):=V5
 exact e_.mpr ⟨h.1,h.2⟩
def ZxT(t:Tree)(list:Int):Prop:=AW (Z2 Zpe) Try.f86 ZwG [] (Zj (Zk7.can (t,(list,()),())) (Zk7.canX (t,(list,()),()))) (EQ Try.f86 (ZnY (t,(list,()),())) (ZiT (t,(list,()),())))
theorem ZvC(c87:CT 87 ZbF)(hb:∀ (t:Tree) (list:Int) (_:Unit),Zel (t,(list,()),())->ZxT t list):CT 86 ZbG:=
 J0 (l:=[(87,ZbF)]) Zk rfl (⟨c87,trivial⟩) ZwG Try.func86 rfl rfl 2 (fun _=> rfl) V2 (fun ⟨t,⟨list,_⟩,_⟩=> hb t list ())
def Z2Z:List (FuncId × Fs U):=[(86,ZbG)]
def ZfI:Ze U:=lvk [([0,1],[((.x 0),[])]),([0,1,7,8],[((.x 0),[])]),([0,1,7,8,9],[((.x 0),[])]),([0,1,5,7,8],[((.x 0),[])]),([0,1,5,7,8,16],[((.x 0),[])]),([4],[((.x 0),[])]),([0,1,7,8],[((.x 0),[])]),([4],[((.x 0),[])])]
def Z3z(l:List Tree)(list x8:Int):LSt U:=(L2 [(0,.c (sU .tree l .unk)),(1,.clo 86 [(.x 0)]),pI 7 (l.length:Int),pI 8 x8] [(.x 0,[ci list])])
abbrev W97(l:List Tree)(list:Int)(Q:QT):=AW (Z2 Z2Z) Try.f97 ZfI [] (L2 [(0,.c (sU .tree l .unk)),(1,.clo 86 [(.x 0)])] [(.x 0,[ci list])]) Q
abbrev Zkk:=awp cfg (Z2 Z2Z) (ZV cfg (Z2 Z2Z)) Try.f97.ntmps ZfI
abbrev ZiG:=Zcb cfg (Z2 Z2Z) (ZV cfg (Z2 Z2Z)) Try.f97.ntmps ZfI
theorem ZAg(l:List Tree)(list:Int)(Q:QT)(h:Zi (AW (Z2 Z2Z) Try.f97 ZfI [1,0,1,0,0]) (Z3z l list 0) (xB 0 (SW (Z2 Z2Z) Try.f97 ZfI [1,1] Q))):
  W97 l list Q:=by
 have e_:(W97 l list Q)=(Zi (Zkk (cd Try.f97 [1,0,1,0,0])) (Z3z l list 0) (xB 0 (ZiG (cd Try.f97 [1,1]) Q))):=V5
 exact e_.mpr h
abbrev Zr9(l:List Tree)(list x8:Int)(N0:NT)(Q:QT):=AW (Z2 Z2Z) Try.f97 ZfI [1,0,1,0,0] (Z3z l list x8) (xT N0 (xB 0 (SW (Z2 Z2Z) Try.f97 ZfI [1,1] Q)))
theorem Zrw(l:List Tree)(list x8:Int)(N0:NT)(Q:QT)(h:((decide (x8 < (l.length:Int)))=true->((0:Int)<=x8/\x8 < (l.length:Int))/\(Zel ((Tree.mk (Tree.kind (l.getD x8.toNat Tree.nil)) (Tree.words (l.getD x8.toNat Tree.nil)) (Tree.kids (l.getD x8.toNat Tree.nil))),(list,()),()))/\(((!(Z9 (Tree.mk list [] [(Tree.mk (Tree.kind (l.getD x8.toNat Tree.nil)) (Tree.words (l.getD x8.toNat Tree.nil)) (Tree.kids (l.getD x8.toNat Tree.nil)))]) 64))=true->Q .ret (L2 [pI 4 x8] [(.x 0,[ci list])]))/\((!(Z9 (Tree.mk list [] [(Tree.mk (Tree.kind (l.getD x8.toNat Tree.nil)) (Tree.words (l.getD x8.toNat Tree.nil)) (Tree.kids (l.getD x8.toNat Tree.nil)))]) 64))=false->(InR (x8+1))/\(N0 (Z3z l list (x8+1))))))/\((decide (x8 < (l.length:Int)))=false->Q .ret (L2 [pI 4 (-1)] [(.x 0,[ci list])]))):
  Zr9 l list x8 N0 Q:=by
 have e_:(Zr9 l list x8 N0 Q)=(let zz0:=(!(Z9 (Tree.mk list [] [(Tree.mk (Tree.kind (l.getD x8.toNat Tree.nil)) (Tree.words (l.getD x8.toNat Tree.nil)) (Tree.kids (l.getD x8.toNat Tree.nil)))]) 64));(((decide ((x8:Int) < (l.length:Int)))=true->(((0:Int)<=x8/\x8 < (l.length:Int))/\(Zel ((Tree.mk (Tree.kind (l.getD x8.toNat Tree.nil)) (Tree.words (l.getD x8.toNat Tree.nil)) (Tree.kids (l.getD x8.toNat Tree.nil))),(list,()),()))/\((zz0=true->(Q .ret (L2 [pI 4 x8] [(.x 0,[ci list])])))/\(zz0=false->(InR ((x8:Int)+1))/\(N0 (Z3z l list ((x8:Int)+1)))))))/\((decide ((x8:Int) < (l.length:Int)))=false->(Q .ret (L2 [pI 4 (-1)] [(.x 0,[ci list])]))))):=V5
 exact e_.mpr ⟨fun c_1=> ⟨(h.1 c_1).1,(h.1 c_1).2.1,⟨fun c_2=> ((h.1 c_1).2.2.1 c_2),fun c_2=> ⟨((h.1 c_1).2.2.2 c_2).1,((h.1 c_1).2.2.2 c_2).2⟩⟩⟩,fun c_1=> (h.2 c_1)⟩
def ZxI(l:List Tree)(list:Int):Prop:=AW (Z2 Z2Z) Try.f97 ZfI [] (Zj (Zk6.can (l,(list,()),())) (Zk6.canX (l,(list,()),()))) (EQ Try.f97 (ZkO (l,(list,()),())) (Zft (l,(list,()),())))
theorem Zvu(c86:CT 86 ZbG)(hb:∀ (l:List Tree) (list:Int) (_:Unit),Zh3 (l,(list,()),())->ZxI l list):CT 97 ZbB:=
 J0 (l:=[(86,ZbG)]) Zk rfl (⟨c86,trivial⟩) ZfI Try.func97 rfl rfl 2 (fun _=> rfl) V2 (fun ⟨l,⟨list,_⟩,_⟩=> hb l list ())
def Zpf:List (FuncId × Fs U):=[(97,ZbB)]
def ZwH:Ze U:=lvk [([0,1],[((.x 0),[])]),([4],[((.x 0),[])])]
abbrev W85(l:List Tree)(list:Int)(Q:QT):=AW (Z2 Zpf) Try.f85 ZwH [] (L2 [(0,.c (sU .tree l .unk)),(1,.clo 86 [(.x 0)])] [(.x 0,[ci list])]) Q
theorem ZAs(l:List Tree)(list:Int)(Q:QT)(h:(Zh3 (l,(list,()),()))/\(Q .ret (L2 [pB 4 (decide ((0:Int)<=(Z4J list l 0)))] [(.x 0,[ci list])]))):
  W85 l list Q:=by
 have e_:(W85 l list Q)=(type_of% h):=V5
 exact e_.mpr ⟨h.1,h.2⟩
def ZxU(l:List Tree)(list:Int):Prop:=AW (Z2 Zpf) Try.f85 ZwH [] (Zj (Zk6.can (l,(list,()),())) (Zk6.canX (l,(list,()),()))) (EQ Try.f85 (ZnZ (l,(list,()),())) (Zft (l,(list,()),())))
theorem ZvD(c97:CT 97 ZbB)(hb:∀ (l:List Tree) (list:Int) (_:Unit),Zh3 (l,(list,()),())->ZxU l list):CT 85 Z6D:=
 J0 (l:=[(97,ZbB)]) Zk rfl (⟨c97,trivial⟩) ZwH Try.func85 rfl rfl 2 (fun _=> rfl) V2 (fun ⟨l,⟨list,_⟩,_⟩=> hb l list ())
end
end
theorem c86:Contract Try.prog cfg 86 ZbG:=by
 refine ZvC c87 ?_
 intro t list _ hp
 simp only [Zel] at hp
 refine ZAr _ _ _ ?_
 (simp only [Tree.eta,Edit.eta,Tree.kind_mk,Tree.words_mk,Tree.kids_mk])
 refine ⟨by simp only [Zh4];exact hp,?_⟩
 simp only [ZnY,ZiT]
 exact Y6
theorem Zdj{list:Int}{l:List Tree}:∀ (i:Nat),(∀ t∈l.take i,Z9 (Tree.mk list [] [t]) 64=true)->i<=l.length->Z4J list l 0=Z4J list (l.drop i) i
 | 0,_,_=> by simp
 | i+1,h,hi=> by
  have ih:=Zdj i (fun t ht=> h t (by rw [Xn];exact Qi.2 (Or.inl ht))) V0
  rw [ih]
  have e:l.drop i=l.getD i Tree.nil ::l.drop (i+1):=by
   have:=YB (l:=l) (i:=(i:Int)) V0 V0 Tree.nil
   simpa using this
  have hm:l.getD i Tree.nil∈l.take (i+1):=by
   rw [List.mem_take_iff_getElem]
   exact ⟨i,V0,by simp [List.getD,Q2 (show i < l.length by omega)]⟩
  rw [e,Z4J,if_pos (h _ hm)]
  simp
theorem c97:Contract Try.prog cfg 97 ZbB:=by
 refine Zvu c86 ?_
 intro l list _ hp
 simp only [Zh3] at hp
 refine ZAg _ _ _ ?_
 refine Zb (ι:=Int) (fun s=> Z3z l list s) (fun s=> 0<=s/\s<=l.length/\∀ t∈l.take s.toNat,Z9 (Tree.mk list [] [t]) 64=true) (fun s=> ((l.length:Int) - s).toNat) 0 rfl ⟨by simp,by simp,by simp⟩ ?_
 rintro i ⟨g1,g2,g3⟩
 have hb:=Zdj (list:=list) (l:=l) i.toNat g3 V0
 have hl:=Zw l
 refine Zrw _ _ _ _ _ ?_
 (simp only [iB,vcS])
 (simp only [Tree.eta,Edit.eta,Tree.kind_mk,Tree.words_mk,Tree.kids_mk])
 refine ⟨fun hi=> ⟨⟨g1,hi⟩,?_,fun hc=> ?_,fun hc=> ?_⟩,fun hi=> ?_⟩
 .have hm:=Zh (l:=l) (i:=i.toNat) V0 Tree.nil
  simp only [Zel]
  have h1:=J5 hm
  exact ⟨V0,Ja hp.2.1 hm,hp.2.2⟩
 .rw [YB g1 hi Tree.nil,Z4J,if_neg (by rw [hc];decide)] at hb
  simp only [ZkO,Zft]
  rw [hb,show ((i.toNat:Nat):Int)=i by omega]
  exact Y6
 .refine ⟨V4,i+1,rfl,⟨V0,V0,fun t ht=> ?_⟩,V0⟩
  rw [show (i+1).toNat=i.toNat+1 by omega,Xn] at ht
  rcases Qi.1 ht with ht | ht
  .exact g3 t ht
  .have e:l[i.toNat]?=some (l.getD i.toNat Tree.nil):=by
    simp [List.getD,Q2 (show i.toNat < l.length by omega)]
   rw [e] at ht
   simp only [Option.toList_some,Q9] at ht
   subst ht
   exact hc
 .rw [Q8 V0] at hb
  simp only [ZkO,Zft]
  rw [hb,Z4J]
  exact Y6
theorem c85:Contract Try.prog cfg 85 Z6D:=by
 refine ZvD c97 ?_
 intro l list _ hp
 simp only [Zh3] at hp
 refine ZAs _ _ _ ?_
 have hb:=ZeR list l 0 V2
 refine ⟨by simp only [Zh3];exact hp,?_⟩
 have e:decide (0<=Z4J list l 0)= !(Ju list l):=by
  rw [Qk,decide_eq_true_eq,hb]
  cases Ju list l <;> simp
 simp only [ZnZ,Zft]
 rw [e]
 exact Y6
noncomputable section
def Zua(a:Edit × Unit):V U:= .c (.bool (Z1u a.1))
def Z6H:Fs U:=fs ZqO (fun a=> [Zcu a]) Zua
abbrev W73(t:Tree)(Q:QT):=AW (Z2 ZjE) Try.f73 Zxi [] (L2 [(0,.agg (enc .tree t))] []) Q
theorem ZAD(t:Tree)(Q:QT)(h:((t.kind==0)=true->InR (((t.words.length:Int):Int)+(t.kids.length:Int)))/\(Q .ret (L2 [(2,.c (.bool (bif (t.kind==0) then (((((t.words.length:Int):Int)+(t.kids.length:Int)):Int)==0) else false)))] []))):
  W73 t Q:=by
 have e_:(W73 t Q)=((Tr ((t.kind==0)=true))/\(Tr ((t.kind==0)=true))/\(Tr ((t.kind==0)=true))/\(Tr ((t.kind==0)=true))/\(Tr ((t.kind==0)=true))/\(Tr ((t.kind==0)=true))/\((t.kind==0)=true->InR ((t.words.length:Int)+(t.kids.length:Int)))/\(Tr ((t.kind==0)=true))/\(Tr ((t.kind==0)=true))/\(Q .ret (L2 [(2,.c (.bool (bif (t.kind==0) then ((((t.words.length:Int)+(t.kids.length:Int)):Int)==0) else false)))] []))):=V5
 exact e_.mpr ⟨id,id,id,id,id,id,h.1,id,(by generalize ((t.kind:Int)==0)=b0;revert b0;decide),h.2⟩
def Zy5(t:Tree):Prop:=AW (Z2 ZjE) Try.f73 Zxi [] (Zj (Zr5.can (t,())) []) (EQ Try.f73 (Zul (t,())) [])
theorem ZvL(hb:∀ (t:Tree) (_:Unit),Z5c (t,())->Zy5 t):CT 73 Z4b:=
 Z3 (l:=[]) Zk rfl trivial Zxi Try.func73 rfl rfl 1 (fun _=> rfl) V2 (fun ⟨t,_⟩=> hb t ())
def Zpx:List (FuncId × Fs U):=[(73,Z4b)]
def ZwY:Ze U:=lvl [([1],[1]),([1,3],[1]),([1,4],[1]),([2],[]),([1,21],[1]),([2],[]),([2],[])]
abbrev W54(e:Edit)(Q:QT):=AW (Z2 Zpx) Try.f54 ZwY [] (L2 [(0,.agg (enc .edit e))] []) Q
theorem ZAW(e:Edit)(Q:QT)(h:∀ y_1,y_1=(e.new)->∀ y_2,y_2=(e.old)->((e.kind !=1)=true->Z5c (y_2,()))/\(((e.kind !=1) && (ZR y_2))=true->Z5c (y_1,()))/\(((bif (e.kind !=1) then (!(bif (ZR y_2) then (ZR y_1) else false)) else false)=true->Q .ret (L2 [pB 2 false] []))/\((bif (e.kind !=1) then (!(bif (ZR y_2) then (ZR y_1) else false)) else false)=false->((e.kind !=2)=true->InR (((e.words.length:Int):Int)+(e.kids.length:Int)))/\(((bif (e.kind !=2) then (decide ((0:Int) < (((e.words.length:Int):Int)+(e.kids.length:Int)))) else false)=true->Q .ret (L2 [pB 2 false] []))/\((bif (e.kind !=2) then (decide ((0:Int) < (((e.words.length:Int):Int)+(e.kids.length:Int)))) else false)=false->Q .ret (L2 [(2,.c (.bool (bif (e.kind==3) then true else (bif (e.list==0) then (((e.ops.length:Int):Int)==0) else false))))] [])))))):
  W54 e Q:=by
 have e_:(W54 e Q)=(let y_1:=(Z4i e.new);let y_2:=(Z4i e.old);let zz2:=(bif (e.kind !=1) then (!(bif (ZR y_2) then (ZR y_1) else false)) else false);let zz1:=(bif (e.kind !=2) then (decide ((0:Int) < ((e.words.length:Int)+(e.kids.length:Int)))) else false);let zz0:=(!(e.kind==3));((Tr ((e.kind !=1)=true))/\(Tr ((e.kind !=1)=true))/\(Tr ((e.kind !=1)=true))/\((e.kind !=1)=true->Z5c (y_2,()))/\(Tr ((e.kind !=1)=true))/\(Tr (((e.kind !=1) && (ZR y_2))=true))/\(Tr (((e.kind !=1) && (ZR y_2))=true))/\(Tr (((e.kind !=1) && (ZR y_2))=true))/\(((e.kind !=1) && (ZR y_2))=true->Z5c (y_1,()))/\((e.kind !=1)=true->(True->(e.kind !=1)=true))/\((e.kind !=1)=true->((ZR y_2)=true->((e.kind !=1) && (ZR y_2))=true))/\(Tr ((e.kind !=1)=true))/\(Tr ((e.kind !=1)=true))/\((zz2=true->(Q .ret (L2 [pB 2 false] [])))/\(zz2=false->(Tr ((e.kind !=2)=true))/\(Tr ((e.kind !=2)=true))/\(Tr ((e.kind !=2)=true))/\(Tr ((e.kind !=2)=true))/\(Tr ((e.kind !=2)=true))/\(Tr ((e.kind !=2)=true))/\((e.kind !=2)=true->InR ((e.words.length:Int)+(e.kids.length:Int)))/\(Tr ((e.kind !=2)=true))/\(Tr ((e.kind !=2)=true))/\((zz1=true->(Q .ret (L2 [pB 2 false] [])))/\(zz1=false->(Tr (zz0=true))/\(Tr (zz0=true))/\(Tr (zz0=true))/\(Tr ((zz0 && (e.list==0))=true))/\(Tr ((zz0 && (e.list==0))=true))/\(Tr ((zz0 && (e.list==0))=true))/\(zz0=true->(True->zz0=true))/\(zz0=true->((e.list==0)=true->(zz0 && (e.list==0))=true))/\((e.kind==3)=false->zz0=true)/\(Q .ret (L2 [(2,.c (.bool (bif (e.kind==3) then true else (bif (e.list==0) then ((e.ops.length:Int)==0) else false))))] [])))))))):=V5
 exact e_.mpr (by intro y_1 y_2;have hh:=h y_1 (Za _) y_2 (Za _);exact ⟨id,id,id,hh.1,id,id,id,id,hh.2.1,(by generalize ((e.kind:Int) !=1)=b0;revert b0;decide),(by generalize (ZR y_2)=b0;generalize ((e.kind:Int) !=1)=b1;revert b0 b1;decide),id,(by generalize ((e.kind:Int) !=1)=b0;revert b0;decide),⟨fun c_1=> (hh.2.2.1 c_1),fun c_1=> ⟨id,id,id,id,id,id,(hh.2.2.2 c_1).1,id,(by generalize ((e.kind:Int) !=2)=b0;revert b0;decide),⟨fun c_2=> ((hh.2.2.2 c_1).2.1 c_2),fun c_2=> ⟨id,id,id,id,id,id,(by generalize ((e.kind:Int)==3)=b0;revert b0;decide),(by generalize ((e.kind:Int)==3)=b0;generalize ((e.list:Int)==0)=b1;revert b0 b1;decide),(by generalize ((e.kind:Int)==3)=b0;revert b0;decide),((hh.2.2.2 c_1).2.2 c_2)⟩⟩⟩⟩⟩)
def Zyo(e:Edit):Prop:=AW (Z2 Zpx) Try.f54 ZwY [] (Zj (ZqO.can (e,())) []) (EQ Try.f54 (Zua (e,())) [])
theorem ZvZ(c73:CT 73 Z4b)(hb:∀ (e:Edit) (_:Unit),Zcu (e,())->Zyo e):CT 54 Z6H:=
 Z3 (l:=[(73,Z4b)]) Zk rfl (⟨c73,trivial⟩) ZwY Try.func54 rfl rfl 1 (fun _=> rfl) V2 (fun ⟨e,_⟩=> hb e ())
end
theorem c73:Contract Try.prog cfg 73 Z4b:=by
 refine ZvL ?_
 intro t _ hp
 simp only [Z5c] at hp
 have:=ZhL t
 refine ZAD t _ ?_
 refine ⟨fun _=> by unfold InR;omega,Z4 rfl ?_⟩
 rw [Qk]
 simp only [ZR]
 (simp only [iB,vcS])
 omega
theorem c54:Contract Try.prog cfg 54 Z6H:=by
 refine ZvZ c73 ?_
 intro e _ hp
 simp only [Zcu] at hp
 have h1:=Y3 e
 have h2:=Yb e.kids
 refine ZAW e _ ?_
 rintro y1 rfl y2 rfl
 (simp only [iB,vcS])
 refine ⟨fun _=> by simp only [Z5c];omega,fun _=> by simp only [Z5c];omega,fun h=> ?_,fun h=> ⟨fun _=> by unfold InR;omega,fun h3=> ?_,fun h3=> ?_⟩⟩
 .refine Z4 rfl ?_
  show false=Z1u e
  unfold Z1u
  rw [if_pos (Or.inl ⟨h.1,fun hn=> by have:=h.2;rw [hn.1,hn.2] at this;revert this;decide⟩)]
 .refine Z4 rfl ?_
  show false=Z1u e
  unfold Z1u
  rw [if_pos (Or.inr (Or.inl ⟨h3.1,V0⟩))]
 .refine Z4 rfl ?_
  show _=Z1u e
  unfold Z1u
  have g1:¬(e.kind≠1/\¬(ZR e.old=true/\ZR e.new=true)):=by
   intro hc
   rcases h with h | h
   .exact hc.1 (by simpa using h)
   .exact hc.2 (by simpa using h)
  have g2:¬(e.kind≠2/\¬(e.words.length=0/\e.kids.length=0)):=V0
  by_cases g3:e.kind≠3/\(e.list≠0\/e.ops.length≠0)
  .rw [if_pos (Or.inr (Or.inr g3)),Qk]
   (simp only [iB,vcS])
   constructor
   .intro h;omega
   .intro h;cases h
  .rw [if_neg (by rintro (x | x | x) <;> contradiction),Qk]
   (simp only [iB,vcS])
   constructor
   .intro _;first | trivial | rfl
   .intro _;omega
end Go.AM.Ytfapacabjkhepaa
