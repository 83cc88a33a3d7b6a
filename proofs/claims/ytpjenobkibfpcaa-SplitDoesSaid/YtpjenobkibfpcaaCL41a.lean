import Derived.Test.YtpjenobkibfpcaaCG25a
import Derived.Test.YtpjenobkibfpcaaCL25j
import Derived.Test.YtpjenobkibfpcaaKG21a
import Derived.Test.YtpjenobkibfpcaaKL22
import Derived.Test.YtpjenobkibfpcaaKL21a
set_option linter.unusedSimpArgs false
set_option linter.unusedVariables false
namespace Go.AM.Ytpjenobkibfpcaa
open Go.AM Go.Proofs
noncomputable section
def Z4e:ArgL (Edit × Edit × Unit):=(.cons (aEl .edit) (.cons (aEl .edit) .nil))
def Z4j(a:Edit × Edit × Unit):Prop:=Z0N a.1∧Z0N a.2.1
def ZcW(a:Edit × Edit × Unit):Nat:=8*(Z6 a.1+Z6 a.2.1)
def Z4C(a:Edit × Edit × Unit):V U:= .tup [(true,(enc .edit ((Y2 a.1 a.2.1).1))),(false,[.bool ((Y2 a.1 a.2.1).2)])]
def Z8L:Fs U:=fs Z4e (fun a=> [Z4j a]) Z4C
def Z4d:ArgL (List Kid × List Kid × Unit):=(.cons (aSl .kid) (.cons (aSl .kid) .nil))
def Z6e(a:List Kid × List Kid × Unit):Prop:=Zan a.1∧Zan a.2.1
def Zf4(a:List Kid × List Kid × Unit):Nat:=8*(Zi a.1+Zi a.2.1)+4
def Z7u(a:List Kid × List Kid × Unit):V U:= .tup [(false,[sU .kid (ofO (Zm KidOf.at_ (Z1o Y2) a.1 a.2.1)) .unk]),(false,[.bool ((Zm KidOf.at_ (Z1o Y2) a.1 a.2.1).isSome)])]
def Zni:Fs U:=fs Z4d (fun a=> [Z6e a]) Z7u
def Z1N:ArgL (List Kid × List Kid × Unit × Unit × Unit):=(.cons (aSl .kid) (.cons (aSl .kid) (.cons (aFn 133) (.cons (aFn 134) .nil))))
def Z34(a:List Kid × List Kid × Unit × Unit × Unit):Prop:=Zan a.1∧Zan a.2.1
def Z7K(a:List Kid × List Kid × Unit × Unit × Unit):Nat:=8*(Zi a.1+Zi a.2.1)+3
def Z2d(a:List Kid × List Kid × Unit × Unit × Unit):V U:= .tup [(false,[sU .kid (ofO (Zm KidOf.at_ (Z1o Y2) a.1 a.2.1)) .unk]),(false,[.bool ((Zm KidOf.at_ (Z1o Y2) a.1 a.2.1).isSome)])]
def Zjf:Fs U:=fs Z1N (fun a=> [Z34 a]) Z2d
def Z1M:ArgL (Kid × Kid × Unit):=(.cons (aEl .kid) (.cons (aEl .kid) .nil))
def Z33(a:Kid × Kid × Unit):Prop:=Zph a.1∧Zph a.2.1
def Z7J(a:Kid × Kid × Unit):Nat:=8*(ZO a.1+ZO a.2.1)+1
def Z30(a:Kid × Kid × Unit):V U:= .tup [(true,(enc .kid ((Z1o Y2 a.1 a.2.1).1))),(false,[.bool ((Z1o Y2 a.1 a.2.1).2)])]
def Zje:Fs U:=fs Z1M (fun a=> [Z33 a]) Z30
def Z4c:ArgL (List Op × List Op × Unit):=(.cons (aSl .op) (.cons (aSl .op) .nil))
def Z6d(a:List Op × List Op × Unit):Prop:=Zlv a.1∧Zlv a.2.1
def Zf3(a:List Op × List Op × Unit):Nat:=8*(Zc a.1+Zc a.2.1)+40
def Z4i(a:List Op × List Op × Unit):V U:= .tup [(false,[sU .op (ofO (Z1y Y2 a.1 a.2.1)) .unk]),(false,[.bool ((Z1y Y2 a.1 a.2.1).isSome)])]
def Znh:Fs U:=fs Z4c (fun a=> [Z6d a]) Z4i
def Z1L:ArgL (Piece × Unit):=(.cons (aEl .piece) .nil)
def Z32(a:Piece × Unit):Prop:=PcOk a.1
def Z7I(a:Piece × Unit):Nat:=8*(Zn a.1.p+Zn a.1.q)+1
def Z2c(a:Piece × Unit):V U:= .tup [(true,(enc .op ((YZ Y2 a.1).op))),(false,[.bool ((YZ Y2 a.1).is)]),(false,[.bool ((YZ Y2 a.1).ok)])]
def Zjd:Fs U:=fs Z1L (fun a=> [Z32 a]) Z2c
def Z44(N:Nat):List (FuncId × Fs U):=(60,fs Z4e (fun a=> [Z4j a,ZcW a < N]) Z4C) ::(97,fs Z4d (fun a=> [Z6e a,Zf4 a < N]) Z7u) ::(132,fs Z1N (fun a=> [Z34 a,Z7K a < N]) Z2d) ::(134,fs Z1M (fun a=> [Z33 a,Z7J a < N]) Z30) ::(98,fs Z4c (fun a=> [Z6d a,Zf3 a < N]) Z4i) ::(136,fs Z1L (fun a=> [Z32 a,Z7I a < N]) Z2c) ::[(26,Z1q),(83,Z3M),(106,J3),(96,Z3K),(133,Z1C),(135,Z1B)]
def ZuL:Zg U:=lvl [([2,3,4],[2,3,4]),([2,3,4,15],[2,3,4]),([4,5],[4]),([2,3,4,20],[2,3,4]),([4,5],[4]),([2,3,4,25],[2,3,4]),([2,4,6,7],[2,4,6]),([4,5],[4]),([2,3,4,41],[2,3,4]),([3,4,8,9],[3,4,8]),([4,5],[4]),([2,3,4,58],[2,3,4]),([4,5],[4]),([2,3,4,72],[2,3,4]),([2,3,4,10,11],[2,3,4]),([2,3,4,10,85],[2,3,4]),([4,5],[4]),([4,10,11,12],[4]),([4,5],[4]),([2,4,13,14],[2,4]),([4,5],[4])]
abbrev A60(N:Nat)(p:List Nat):=AW (Z2 (Z44 N)) Try.f60 ZuL p
theorem Zy7(N:Nat)(p q:Edit)(Q:QT)(h:∀ y_1,y_1=p→∀ y_2,y_2=q→∀ y_3,y_3=(p.new)→∀ y_4,y_4=(q.old)→∀ y_5,y_5=(ZA (ZM y_1))→let z3:=Zm KidOf.at_ (Z1o Y2) p.kids q.kids;let z2:=Zm WEdit.at_ JQ p.words q.words;let z1:=Q .ret (L2 [(4,.ptr (.loc 4) 0),(5,.c (.bool false))] [(.loc 4,zc1)]);let z0:=p.kind !=q.kind;let z4:=bif z0 then true else (p.list !=q.list);(((p.kind==0)=true→(Q .ret (L2 [(4,.ptr (.loc 4) 0),(5,.c (.bool true))] [(.loc 4,(enc .edit q))])))∧((p.kind==0)=false→(((q.kind==0)=true→(Q .ret (L2 [(4,.ptr (.loc 4) 0),(5,.c (.bool true))] [(.loc 4,(enc .edit p))])))∧((q.kind==0)=false→(((p.kind==1)=true→(Z6f (y_2,y_3,()))∧(Q .ret (L2 [(4,.ptr (.loc 4) 0),(5,.c (.bool ((doE false y_2 y_3).isSome)))] [(.loc 4,([ci 1]++enc .tree p.old++enc .tree (Z0S ((doE false y_2 y_3).map Z3))++[.nils,.nils,ci 0,.nils]))])))∧((p.kind==1)=false→(((q.kind==1)=true→(ZdJ (y_1,()))∧(Z6f (y_5,y_4,()))∧(Q .ret (L2 [(4,.ptr (.loc 4) 0),(5,.c (.bool ((doE false y_5 y_4).isSome)))] [(.loc 4,([ci 1]++enc .tree (Z0S ((doE false y_5 y_4).map Z3))++enc .tree q.new++[.nils,.nils,ci 0,.nils]))])))∧((q.kind==1)=false→(Tr ((!z0)=true))∧(Tr ((!z0)=true))∧(Tr ((!z0)=true))∧(Tr ((!z0)=true))∧(z0=false→(!z0)=true)∧((z4=true→z1)∧(z4=false→(((p.kind==2)=true→(Zo6 (p.words,q.words,()))∧(((!(z2.isSome))=true→z1)∧((!(z2.isSome))=false→(Z6e (p.kids,q.kids,()))∧(Zf4 (p.kids,q.kids,()) < N)∧(Q .ret (L2 [(4,.ptr (.loc 4) 0),(5,.c (.bool (z3.isSome)))] [(.loc 4,[ci 2,ci 0,.nils,.nils,ci 0,.nils,.nils,sU .wedit (ofO z2) .unk,sU .kid (ofO z3) .unk,ci 0,.nils])])))))∧((p.kind==2)=false→(Z6d (p.ops,q.ops,()))∧(Zf3 (p.ops,q.ops,()) < N)∧(Q .ret (L2 [(4,.ptr (.loc 4) 0),(5,.c (.bool ((Z1y Y2 p.ops q.ops).isSome)))] [(.loc 4,[ci 3,ci 0,.nils,.nils,ci 0,.nils,.nils,.nils,.nils,ci p.list,sU .op (ofO (Z1y Y2 p.ops q.ops)) .unk])]))))))))))))))):
  A60 N [] (L2 [(0,.agg (enc .edit p)),(1,.agg (enc .edit q))] []) Q:=
 Eq.mpr (by kernel_rfl) (h _ (Z9 _) _ (Z9 _) _ (Zf _) _ (Zf _) _ (Z9 _))
def Zw3(N:Nat)(p q:Edit):Prop:=AW (Z2 (Z44 N)) Try.f60 ZuL [] (Zo (Z4e.can (p,q,())) []) (EQ Try.f60 (Z4C (p,q,())) [])
abbrev ZxF:Prop:=∀ (N:Nat) (p:Edit) (q:Edit) (_:Unit),Z4j (p,q,())→ZcW (p,q,()) < N+1→Zw3 N p q
def Zp0(N:Nat):List (FuncId × Fs U):=(60,fs Z4e (fun a=> [Z4j a,ZcW a < N]) Z4C) ::(97,fs Z4d (fun a=> [Z6e a,Zf4 a < N]) Z7u) ::(132,fs Z1N (fun a=> [Z34 a,Z7K a < N]) Z2d) ::(134,fs Z1M (fun a=> [Z33 a,Z7J a < N]) Z30) ::(98,fs Z4c (fun a=> [Z6d a,Zf3 a < N]) Z4i) ::(136,fs Z1L (fun a=> [Z32 a,Z7I a < N]) Z2c) ::[(26,Z1q),(83,Z3M),(106,J3),(96,Z3K),(133,Z1C),(135,Z1B)]
def ZuC:Zg U:=lvl [([0,1],[]),([4,5],[])]
abbrev A97(N:Nat)(p:List Nat):=AW (Z2 (Zp0 N)) Try.f97 ZuC p
theorem ZxK(N:Nat)(p q:List Kid)(Q:QT)(h:let z0:=Zm KidOf.at_ (Z1o Y2) p q;((Z34 (p,q,(),(),()))∧(Z7K (p,q,(),(),()) < N)∧(Q .ret (L2 [(4,.c (sU .kid (ofO z0) .unk)),(5,.c (.bool (z0.isSome)))] [])))):
  A97 N [] (L2 [(0,.c (sU .kid p .unk)),(1,.c (sU .kid q .unk))] []) Q:=
 Eq.mpr (by kernel_rfl) h
def ZvG(N:Nat)(p q:List Kid):Prop:=AW (Z2 (Zp0 N)) Try.f97 ZuC [] (Zo (Z4d.can (p,q,())) []) (EQ Try.f97 (Z7u (p,q,())) [])
abbrev ZxA:Prop:=∀ (N:Nat) (p:List Kid) (q:List Kid) (_:Unit),Z6e (p,q,())→Zf4 (p,q,()) < N+1→ZvG N p q
def Zfe(N:Nat):List (FuncId × Fs U):=(60,fs Z4e (fun a=> [Z4j a,ZcW a < N]) Z4C) ::(97,fs Z4d (fun a=> [Z6e a,Zf4 a < N]) Z7u) ::(132,fs Z1N (fun a=> [Z34 a,Z7K a < N]) Z2d) ::(134,fs Z1M (fun a=> [Z33 a,Z7J a < N]) Z30) ::(98,fs Z4c (fun a=> [Z6d a,Zf3 a < N]) Z4i) ::(136,fs Z1L (fun a=> [Z32 a,Z7I a < N]) Z2c) ::[(26,Z1q),(83,Z3M),(106,J3),(96,Z3K),(133,Z1C),(135,Z1B)]
def Zk9:Zg U:=fun i=> match i with
 | 0=> ([(0,[]),(1,[]),(2,[]),(3,[])],[])
 | 1=> ([(0,[]),(1,[]),(2,[]),(3,[]),(10,[.own .kid])],[])
 | 2=> ([(0,[]),(1,[]),(2,[]),(3,[]),(10,[]),(20,[])],[])
 | 3=> ([(0,[]),(1,[]),(2,[]),(3,[]),(10,[]),(11,[]),(12,[])],[(.loc 11,[])])
 | 4=> ([(0,[]),(1,[]),(2,[]),(3,[]),(10,[]),(11,[]),(33,[])],[(.loc 11,[])])
 | 5=> ([(8,[]),(9,[])],[])
 | 6=> ([(0,[]),(1,[]),(2,[]),(3,[]),(10,[.own .kid])],[])
 | 7=> ([(0,[]),(1,[]),(2,[]),(3,[]),(10,[]),(42,[])],[])
 | 8=> ([(0,[]),(1,[]),(2,[]),(3,[]),(10,[.own .kid])],[])
 | 9=> ([(0,[]),(1,[]),(2,[]),(3,[]),(10,[]),(72,[])],[])
 | 10=> ([(0,[]),(1,[]),(2,[]),(3,[]),(10,[.own .kid])],[])
 | 11=> ([(8,[]),(9,[])],[])
 | _=> ([],[])
def Z1Z(p q:List Kid)(at_ one:Unit)(x0 x1 x10:List Kid):LSt U:=(L2 [(0,.c (sU .kid x0 .unk)),(1,.c (sU .kid x1 .unk)),(2,.fn 133),(3,.fn 134),(10,.c (sU .kid x10 (.own (.e 10 0))))] [])
abbrev Zwo(N:Nat)(p:List Nat):=AW (Z2 (Zfe N)) Try.f132 Zk9 p
abbrev Zxw(N:Nat)(p:List Nat):=SW (Z2 (Zfe N)) Try.f132 Zk9 p
theorem ZwM(N:Nat)(p q:List Kid)(at_ one:Unit)(Q:QT)(h:(Zj (Zwo N [1,1,0,0,0]) (Z1Z p q at_ one p q []) (xB 0 (Zxw N [1,1,1] Q)))):
  Zwo N [] (L2 [(0,.c (sU .kid p .unk)),(1,.c (sU .kid q .unk)),(2,.fn 133),(3,.fn 134)] []) Q:=
 Eq.mpr (by kernel_rfl) h
theorem ZmU(N:Nat)(p q:List Kid)(at_ one:Unit)(x0 x1 x10:List Kid)(N0:NT)(Q:QT)(h:∀ y_1,y_1=(List.getD x0 (Int.toNat 0) (KidOf.mk 0 Edit.nil))→∀ y_2,y_2=(List.getD x1 (Int.toNat 0) (KidOf.mk 0 Edit.nil))→∀ y_3,y_3=y_1→∀ y_4,y_4=y_2→∀ y_5,y_5=((Z1o Y2 y_3 y_4).1)→let z3:=((x1.length:Int):Int)==0;let z2:=decide ((0:Int) < (x0.length:Int));let z5:=bif z2 then true else (decide ((0:Int) < (x1.length:Int)));let z4:=bif z3 then true else (bif z2 then (decide (y_3.at_ < y_4.at_)) else false);let z1:=((x0.length:Int):Int)==0;let z6:=bif z1 then true else (decide (y_4.at_ < y_3.at_));let z0:=(!z3) && z2;(Tr ((!z2)=true))∧(Tr ((!z2)=true))∧(z2=false→(!z2)=true)∧((z5=true→(Tr ((!z3)=true))∧(Tr ((!z3)=true))∧(Tr ((!z3)=true))∧(Tr (z0=true))∧(z0=true→(0:Int)≤0∧0 < (x0.length:Int))∧(Tr (z0=true))∧(Tr (z0=true))∧(Tr (z0=true))∧(z0=true→Z8V (y_3,()))∧(Tr (z0=true))∧(z0=true→(0:Int)≤0∧0 < (x1.length:Int))∧(Tr (z0=true))∧(Tr (z0=true))∧(Tr (z0=true))∧(z0=true→Z8V (y_4,()))∧(Tr (z0=true))∧(Tr (z0=true))∧((!z3)=true→(True→(!z3)=true))∧((!z3)=true→(z2=true→z0=true))∧(z3=false→(!z3)=true)∧((z4=true→((0:Int)≤0∧0 < (x0.length:Int))∧((x10.length+([y_3]).length)*208≤140737488355328)∧((0:Int)≤1∧1≤(x0.length:Int))∧(N0 (Z1Z p q at_ one (List.drop (Int.toNat 1) x0) x1 (x10++([y_3])))))∧(z4=false→(Tr ((!z1)=true))∧((!z1)=true→(0:Int)≤0∧0 < (x1.length:Int))∧(Tr ((!z1)=true))∧(Tr ((!z1)=true))∧(Tr ((!z1)=true))∧((!z1)=true→Z8V (y_4,()))∧(Tr ((!z1)=true))∧((!z1)=true→(0:Int)≤0∧0 < (x0.length:Int))∧(Tr ((!z1)=true))∧(Tr ((!z1)=true))∧(Tr ((!z1)=true))∧((!z1)=true→Z8V (y_3,()))∧(Tr ((!z1)=true))∧(Tr ((!z1)=true))∧(z1=false→(!z1)=true)∧((z6=true→((0:Int)≤0∧0 < (x1.length:Int))∧((x10.length+([y_4]).length)*208≤140737488355328)∧((0:Int)≤1∧1≤(x1.length:Int))∧(N0 (Z1Z p q at_ one x0 (List.drop (Int.toNat 1) x1) (x10++([y_4])))))∧(z6=false→((0:Int)≤0∧0 < (x0.length:Int))∧((0:Int)≤0∧0 < (x1.length:Int))∧(Z33 (y_3,y_4,()))∧(Z7J (y_3,y_4,()) < N)∧(((!((Z1o Y2 y_3 y_4).2))=true→(Q .ret (L2 [(8,.c (.nils)),(9,.c (.bool false))] [])))∧((!((Z1o Y2 y_3 y_4).2))=false→((x10.length+([y_5]).length)*208≤140737488355328)∧((0:Int)≤1∧1≤(x0.length:Int))∧((0:Int)≤1∧1≤(x1.length:Int))∧(N0 (Z1Z p q at_ one (List.drop (Int.toNat 1) x0) (List.drop (Int.toNat 1) x1) (x10++([y_5])))))))))))∧(z5=false→(Q .ret (L2 [(8,.c (sU .kid x10 (.own (.e 8 0)))),(9,.c (.bool true))] []))))):
  Zwo N [1,1,0,0,0] (Z1Z p q at_ one x0 x1 x10) (xT N0 (xB 0 (Zxw N [1,1,1] Q))):=
 Eq.mpr (by kernel_rfl) (h _ rfl _ rfl _ (ZbF _) _ (ZbF _) _ (ZbF _))
def ZsD(N:Nat)(p q:List Kid)(at_ one:Unit):Prop:=AW (Z2 (Zfe N)) Try.f132 Zk9 [] (Zo (Z1N.can (p,q,at_,one,())) []) (EQ Try.f132 (Z2d (p,q,at_,one,())) [])
abbrev ZtE:Prop:=∀ (N:Nat) (p:List Kid) (q:List Kid) (at_:Unit) (one:Unit) (_:Unit),Z34 (p,q,at_,one,())→Z7K (p,q,at_,one,()) < N+1→ZsD N p q at_ one
def Zkv(N:Nat):List (FuncId × Fs U):=(60,fs Z4e (fun a=> [Z4j a,ZcW a < N]) Z4C) ::(97,fs Z4d (fun a=> [Z6e a,Zf4 a < N]) Z7u) ::(132,fs Z1N (fun a=> [Z34 a,Z7K a < N]) Z2d) ::(134,fs Z1M (fun a=> [Z33 a,Z7J a < N]) Z30) ::(98,fs Z4c (fun a=> [Z6d a,Zf3 a < N]) Z4i) ::(136,fs Z1L (fun a=> [Z32 a,Z7I a < N]) Z2c) ::[(26,Z1q),(83,Z3M),(106,J3),(96,Z3K),(133,Z1C),(135,Z1B)]
def ZoL:Zg U:=lvl [([2,3,4],[2,3,4]),([2,4,6,7],[2,4,6]),([4,5],[4])]
abbrev ZyH(N:Nat)(p:List Nat):=AW (Z2 (Zkv N)) Try.f134 ZoL p
theorem ZwK(N:Nat)(a b:Kid)(Q:QT)(h:∀ y_1,y_1=(a.e)→∀ y_2,y_2=(b.e)→((Z4j (y_1,y_2,()))∧(ZcW (y_1,y_2,()) < N)∧(Q .ret (L2 [(4,.ptr (.loc 4) 0),(5,.c (.bool ((Y2 y_1 y_2).2)))] [(.loc 4,([ci a.at_]++enc .edit ((Y2 y_1 y_2).1)))])))):
  ZyH N [] (L2 [(0,.agg (enc .kid a)),(1,.agg (enc .kid b))] []) Q:=
 Eq.mpr (by kernel_rfl) (h _ (Z9 _) _ (Z9 _))
def ZsB(N:Nat)(a b:Kid):Prop:=AW (Z2 (Zkv N)) Try.f134 ZoL [] (Zo (Z1M.can (a,b,())) []) (EQ Try.f134 (Z30 (a,b,())) [])
abbrev ZtD:Prop:=∀ (N:Nat) (a:Kid) (b:Kid) (_:Unit),Z33 (a,b,())→Z7J (a,b,()) < N+1→ZsB N a b
def Zit(N:Nat):List (FuncId × Fs U):=(60,fs Z4e (fun a=> [Z4j a,ZcW a < N]) Z4C) ::(97,fs Z4d (fun a=> [Z6e a,Zf4 a < N]) Z7u) ::(132,fs Z1N (fun a=> [Z34 a,Z7K a < N]) Z2d) ::(134,fs Z1M (fun a=> [Z33 a,Z7J a < N]) Z30) ::(98,fs Z4c (fun a=> [Z6d a,Zf3 a < N]) Z4i) ::(136,fs Z1L (fun a=> [Z32 a,Z7I a < N]) Z2c) ::[(26,Z1q),(83,Z3M),(106,J3),(96,Z3K),(133,Z1C),(135,Z1B)]
def ZrD:Zg U:=fun i=> match i with
 | 0=> ([(0,[]),(1,[])],[])
 | 1=> ([(6,[]),(7,[])],[])
 | 2=> ([(6,[]),(21,[])],[])
 | 3=> ([(4,[]),(5,[])],[])
 | 4=> ([(6,[]),(8,[])],[])
 | 5=> ([(8,[.own .op]),(22,[]),(23,[]),(24,[])],[])
 | 6=> ([(8,[]),(22,[]),(23,[]),(24,[]),(25,[])],[])
 | 7=> ([(8,[]),(10,[]),(22,[]),(23,[]),(24,[])],[(.loc 10,[])])
 | 8=> ([(8,[]),(11,[]),(12,[]),(13,[]),(22,[]),(23,[]),(24,[])],[(.loc 11,[])])
 | 9=> ([(8,[]),(11,[]),(12,[]),(22,[]),(23,[]),(24,[]),(35,[])],[(.loc 11,[])])
 | 10=> ([(4,[]),(5,[])],[])
 | 11=> ([(8,[]),(11,[]),(22,[]),(23,[]),(24,[]),(36,[])],[(.loc 11,[])])
 | 12=> ([(8,[]),(22,[]),(23,[]),(24,[])],[])
 | 13=> ([(8,[.own .op]),(22,[]),(23,[]),(24,[])],[])
 | 14=> ([(4,[]),(5,[])],[])
 | _=> ([],[])
def Z53(p q:List Op)(x24:Int)(x8:List Op):LSt U:=(L2 [(8,.c (sU .op x8 (.own (.e 8 0)))),(22,.c (sU .piece ((ZX 1 2 p q []).1) .unk)),(23,.c (ci (((ZX 1 2 p q []).1).length:Int))),(24,.c (ci x24))] [])
abbrev A98(N:Nat)(p:List Nat):=AW (Z2 (Zit N)) Try.f98 ZrD p
abbrev S98(N:Nat)(p:List Nat):=SW (Z2 (Zit N)) Try.f98 ZrD p
theorem ZxJ(N:Nat)(p q:List Op)(Q:QT)(h:((Zi8 (p,q,()))∧(((!((ZX 1 2 p q []).2.1))=true→(Q .ret (L2 [(4,.c (.nils)),(5,.c (.bool false))] [])))∧((!((ZX 1 2 p q []).2.1))=false→(Zj (A98 N [1,1,1,1,0,1,0,0]) (Z53 p q 0 []) (xB 0 (S98 N [1,1,1,1,1] Q))))))):
  A98 N [] (L2 [(0,.c (sU .op p .unk)),(1,.c (sU .op q .unk))] []) Q:=
 Eq.mpr (by kernel_rfl) h
theorem Zqi(N:Nat)(p q:List Op)(x24:Int)(x8:List Op)(N0:NT)(Q:QT)(h:∀ y_1,y_1=(List.getD ((ZX 1 2 p q []).1) x24.toNat (Piece.mk 0 Op.nil Op.nil))→∀ y_2,y_2=y_1→∀ y_3,y_3=((YZ Y2 y_2).op)→let z0:=decide (x24 < (((ZX 1 2 p q []).1).length:Int));((z0=true→((0:Int)≤x24∧x24 < (((ZX 1 2 p q []).1).length:Int))∧((Z32 (y_2,()))∧(Z7I (y_2,()) < N)∧(((!((YZ Y2 y_2).ok))=true→(Q .ret (L2 [(4,.c (.nils)),(5,.c (.bool false))] [])))∧((!((YZ Y2 y_2).ok))=false→((((YZ Y2 y_2).is)=true→((x8.length+([y_3]).length)*240≤140737488355328)∧((InR (x24+1))∧(N0 (Z53 p q (x24+1) (x8++([y_3]))))))∧(((YZ Y2 y_2).is)=false→(InR (x24+1))∧(N0 (Z53 p q (x24+1) x8))))))))∧(z0=false→(Q .ret (L2 [(4,.c (sU .op x8 (.own (.e 4 0)))),(5,.c (.bool true))] []))))):
  A98 N [1,1,1,1,0,1,0,0] (Z53 p q x24 x8) (xT N0 (xB 0 (S98 N [1,1,1,1,1] Q))):=
 Eq.mpr (by kernel_rfl) (h _ rfl _ (Zi5 _) _ (J4 _))
def ZvF(N:Nat)(p q:List Op):Prop:=AW (Z2 (Zit N)) Try.f98 ZrD [] (Zo (Z4c.can (p,q,())) []) (EQ Try.f98 (Z4i (p,q,())) [])
abbrev Zxz:Prop:=∀ (N:Nat) (p:List Op) (q:List Op) (_:Unit),Z6d (p,q,())→Zf3 (p,q,()) < N+1→ZvF N p q
def Zfd(N:Nat):List (FuncId × Fs U):=(60,fs Z4e (fun a=> [Z4j a,ZcW a < N]) Z4C) ::(97,fs Z4d (fun a=> [Z6e a,Zf4 a < N]) Z7u) ::(132,fs Z1N (fun a=> [Z34 a,Z7K a < N]) Z2d) ::(134,fs Z1M (fun a=> [Z33 a,Z7J a < N]) Z30) ::(98,fs Z4c (fun a=> [Z6d a,Zf3 a < N]) Z4i) ::(136,fs Z1L (fun a=> [Z32 a,Z7I a < N]) Z2c) ::[(26,Z1q),(83,Z3M),(106,J3),(96,Z3K),(133,Z1C),(135,Z1B)]
def Zk8:Zg U:=lvl [([1,2],[1,2]),([1,2,13],[1,2]),([2,3,4],[2]),([1,2,30],[1,2]),([2,3,4],[2]),([1,2,42],[1,2]),([1,2,55,56,57],[1,2]),([1,2,55,56,57,58],[1,2]),([1,2,5,6,55,56,57],[1,2,6]),([1,2,55,56,57,70],[1,2]),([2,3,4],[2]),([1,2,55,56,57],[1,2]),([2,3,4],[2]),([1,2,74],[1,2]),([2,7,8],[2,7]),([2,3,4],[2]),([1,2,95],[1,2]),([2,9,10],[2,9]),([2,3,4],[2]),([2,11,12],[2,11]),([2,3,4],[2])]
def Z5S(x:Piece)(x57:Int):LSt U:=(L2 [(1,.ptr (.loc 1) 0),(2,.ptr (.loc 2) 0),(55,.c (sU .tree x.p.l .unk)),(56,.c (ci (x.p.l.length:Int))),(57,.c (ci x57))] [(.loc 1,(enc .piece x)),(.loc 2,zc2)])
abbrev Zwn(N:Nat)(p:List Nat):=AW (Z2 (Zfd N)) Try.f136 Zk8 p
abbrev Zsj(N:Nat)(p:List Nat):=SW (Z2 (Zfd N)) Try.f136 Zk8 p
theorem ZwI(N:Nat)(x:Piece)(Q:QT)(h:∀ y_1,y_1=(x.p.e)→∀ y_2,y_2=(x.q.e)→∀ y_3,y_3=(List.getD x.p.l (Int.toNat 0) Tree.nil)→∀ y_4,y_4=(List.getD x.q.l (Int.toNat 0) Tree.nil)→∀ y_5,y_5=y_3→∀ y_6,y_6=y_4→∀ y_7,y_7=(ZA (ZM y_1))→∀ y_8,y_8=(Z0S ((doE false y_2 y_5).map Z3))→∀ y_9,y_9=(Z0S ((doE false y_7 y_6).map Z3))→let z3:=bif (x.of==2) then true else (x.p.kind==0);let z2:=bif (x.p.kind==2) then (x.q.kind==1) else false;let z1:=bif (x.of==1) then true else (bif (x.of==0) then (x.q.kind==0) else false);let z0:=(!(x.of==1)) && (x.of==0);((Tr ((!(x.of==1))=true))∧(Tr ((!(x.of==1))=true))∧(Tr ((!(x.of==1))=true))∧(Tr (z0=true))∧(Tr (z0=true))∧(Tr (z0=true))∧((!(x.of==1))=true→(True→(!(x.of==1))=true))∧((!(x.of==1))=true→((x.of==0)=true→z0=true))∧((x.of==1)=false→(!(x.of==1))=true)∧((z1=true→(Q .ret (L2 [(2,.ptr (.loc 2) 0),(3,.c (.bool true)),(4,.c (.bool true))] [(.loc 2,(enc .op x.p))])))∧(z1=false→(Tr ((!(x.of==2))=true))∧(Tr ((!(x.of==2))=true))∧(Tr ((!(x.of==2))=true))∧((x.of==2)=false→(!(x.of==2))=true)∧((z3=true→(Q .ret (L2 [(2,.ptr (.loc 2) 0),(3,.c (.bool true)),(4,.c (.bool true))] [(.loc 2,(enc .op x.q))])))∧(z3=false→(Tr ((x.p.kind==2)=true))∧(Tr ((x.p.kind==2)=true))∧(Tr ((x.p.kind==2)=true))∧(Tr ((x.p.kind==2)=true))∧((z2=true→(Zj (Zwn N [1,0,0,1,1,1,1,1,0,0,1,0,0]) (Z5S x 0) (xB 1 (Zsj N [1,0,0,1,1,1,1,1,0,1] (xB 0 (Zsj N [1,1] Q))))))∧(z2=false→(((x.p.kind==2)=true→((0:Int)≤0∧0 < (x.p.l.length:Int))∧(Z6f (y_2,y_5,()))∧(Q .ret (L2 [(2,.ptr (.loc 2) 0),(3,.c (.bool true)),(4,.c (.bool ((doE false y_2 y_5).isSome)))] [(.loc 2,[ci 2,ci 0,sU .tree ([y_8]) .full,ci 0,ci 0,.nils,.nils,ci 0,.nils,.nils,.nils,.nils,ci 0,.nils])])))∧((x.p.kind==2)=false→(((x.q.kind==1)=true→(ZdJ (y_1,()))∧((0:Int)≤0∧0 < (x.q.l.length:Int))∧(Z6f (y_7,y_6,()))∧(Q .ret (L2 [(2,.ptr (.loc 2) 0),(3,.c (.bool true)),(4,.c (.bool ((doE false y_7 y_6).isSome)))] [(.loc 2,[ci 1,ci 0,sU .tree ([y_9]) .full,ci 0,ci 0,.nils,.nils,ci 0,.nils,.nils,.nils,.nils,ci 0,.nils])])))∧((x.q.kind==1)=false→(Z4j (y_1,y_2,()))∧(ZcW (y_1,y_2,()) < N)∧(Q .ret (L2 [(2,.ptr (.loc 2) 0),(3,.c (.bool true)),(4,.c (.bool ((Y2 y_1 y_2).2)))] [(.loc 2,([ci 3,ci 0,.nils]++enc .edit ((Y2 y_1 y_2).1)))])))))))))))))):
  Zwn N [] (L2 [(0,.agg (enc .piece x))] []) Q:=
 Eq.mpr (by kernel_rfl) (h _ (Z9 _) _ (Z9 _) _ rfl _ rfl _ (Zf _) _ (Zf _) _ (Z9 _) _ (Zf _) _ (Zf _))
theorem ZmT(N:Nat)(x:Piece)(x57:Int)(N0:NT)(Q:QT)(h:∀ y_1,y_1=(x.p.l.getD x57.toNat Tree.nil)→∀ y_2,y_2=(x.q.l.getD x57.toNat Tree.nil)→∀ y_3,y_3=y_1→∀ y_4,y_4=y_2→let z1:= !(YT (Z3 y_3) (Z3 y_4));let z0:=decide (x57 < (x.p.l.length:Int));((z0=true→((0:Int)≤x57∧x57 < (x.p.l.length:Int))∧(((0:Int)≤x57∧x57 < (x.q.l.length:Int))∧(Z1s (y_3,y_4,()))∧((z1=true→(Q .ret (L2 [(2,.ptr (.loc 2) 0),(3,.c (.bool false)),(4,.c (.bool false))] [(.loc 2,zc2)])))∧(z1=false→(InR (x57+1))∧(N0 (Z5S x (x57+1)))))))∧(z0=false→(Q .ret (L2 [(2,.ptr (.loc 2) 0),(3,.c (.bool false)),(4,.c (.bool true))] [(.loc 2,zc2)]))))):
  Zwn N [1,0,0,1,1,1,1,1,0,0,1,0,0] (Z5S x x57) (xT N0 (xB 1 (Zsj N [1,0,0,1,1,1,1,1,0,1] (xB 0 (Zsj N [1,1] Q))))):=
 Eq.mpr (by kernel_rfl) (h _ rfl _ rfl _ (Zf _) _ (Zf _))
def Zsz(N:Nat)(x:Piece):Prop:=AW (Z2 (Zfd N)) Try.f136 Zk8 [] (Zo (Z1L.can (x,())) []) (EQ Try.f136 (Z2c (x,())) [])
abbrev ZtC:Prop:=∀ (N:Nat) (x:Piece) (_:Unit),Z32 (x,())→Z7I (x,()) < N+1→Zsz N x
theorem Zrd(c26:CT 26 Z1q)(c83:CT 83 Z3M)(Zfy:CT 106 J3)(c96:CT 96 Z3K)(Zvg:CT 133 Z1C)(Zvf:CT 135 Z1B)(b60:ZxF)(b97:ZxA)(Zvs:ZtE)(Zvr:ZtD)(b98:Zxz)(Zvq:ZtC):
  CT 60 Z8L∧CT 97 Zni∧CT 132 Zjf∧CT 134 Zje∧CT 98 Znh∧CT 136 Zjd:=by
 have h60 : ∃ fn, Try.prog.funcs[(60 : FuncId)]? = some fn ∧ fn.body.isSome = true ∧ (fn.name == "runtime.NumGoroutine") = false := ⟨Try.f60, Try.func60, rfl, rfl⟩
 have h97 : ∃ fn, Try.prog.funcs[(97 : FuncId)]? = some fn ∧ fn.body.isSome = true ∧ (fn.name == "runtime.NumGoroutine") = false := ⟨Try.f97, Try.func97, rfl, rfl⟩
 have h132 : ∃ fn, Try.prog.funcs[(132 : FuncId)]? = some fn ∧ fn.body.isSome = true ∧ (fn.name == "runtime.NumGoroutine") = false := ⟨Try.f132, Try.func132, rfl, rfl⟩
 have h134 : ∃ fn, Try.prog.funcs[(134 : FuncId)]? = some fn ∧ fn.body.isSome = true ∧ (fn.name == "runtime.NumGoroutine") = false := ⟨Try.f134, Try.func134, rfl, rfl⟩
 have h98 : ∃ fn, Try.prog.funcs[(98 : FuncId)]? = some fn ∧ fn.body.isSome = true ∧ (fn.name == "runtime.NumGoroutine") = false := ⟨Try.f98, Try.func98, rfl, rfl⟩
 have h136 : ∃ fn, Try.prog.funcs[(136 : FuncId)]? = some fn ∧ fn.body.isSome = true ∧ (fn.name == "runtime.NumGoroutine") = false := ⟨Try.f136, Try.func136, rfl, rfl⟩
 have key:∀ N,CT 60 (fs Z4e (fun a=> [Z4j a,ZcW a < N]) Z4C)∧CT 97 (fs Z4d (fun a=> [Z6e a,Zf4 a < N]) Z7u)∧CT 132 (fs Z1N (fun a=> [Z34 a,Z7K a < N]) Z2d)∧CT 134 (fs Z1M (fun a=> [Z33 a,Z7J a < N]) Z30)∧CT 98 (fs Z4c (fun a=> [Z6d a,Zf3 a < N]) Z4i)∧CT 136 (fs Z1L (fun a=> [Z32 a,Z7I a < N]) Z2c):=by
  intro N
  induction N with
  | zero=> exact ⟨Z0H h60,Z0H h97,Z0H h132,Z0H h134,Z0H h98,Z0H h136⟩
  | succ N ih=>
   have kn:=Z0F (l:=Z44 N) ⟨ih.1,ih.2.1,ih.2.2.1,ih.2.2.2.1,ih.2.2.2.2.1,ih.2.2.2.2.2,c26,c83,Zfy,c96,Zvg,Zvf,trivial⟩
   exact ⟨ZU (Γ:=Z2 (Z44 N)) Zr rfl kn ZuL Try.func60 rfl rfl (fun a=> by show 2≤_;decide) (fun ⟨p,q,_⟩ h=> b60 N p q () h.1 h.2.1),
    ZU (Γ:=Z2 (Z44 N)) Zr rfl kn ZuC Try.func97 rfl rfl (fun a=> by show 2≤_;decide) (fun ⟨p,q,_⟩ h=> b97 N p q () h.1 h.2.1),
    ZU (Γ:=Z2 (Z44 N)) Zr rfl kn Zk9 Try.func132 rfl rfl (fun a=> by show 4≤_;decide) (fun ⟨p,q,at_,one,_⟩ h=> Zvs N p q at_ one () h.1 h.2.1),
    ZU (Γ:=Z2 (Z44 N)) Zr rfl kn ZoL Try.func134 rfl rfl (fun a=> by show 2≤_;decide) (fun ⟨a,b,_⟩ h=> Zvr N a b () h.1 h.2.1),
    ZU (Γ:=Z2 (Z44 N)) Zr rfl kn ZrD Try.func98 rfl rfl (fun a=> by show 2≤_;decide) (fun ⟨p,q,_⟩ h=> b98 N p q () h.1 h.2.1),
    ZU (Γ:=Z2 (Z44 N)) Zr rfl kn Zk8 Try.func136 rfl rfl (fun a=> by show 1≤_;decide) (fun ⟨x,_⟩ h=> Zvq N x () h.1 h.2.1)⟩
 exact ⟨Z0I h60 fun N=> (key N).1,Z0I h97 fun N=> (key N).2.1,Z0I h132 fun N=> (key N).2.2.1,Z0I h134 fun N=> (key N).2.2.2.1,Z0I h98 fun N=> (key N).2.2.2.2.1,Z0I h136 fun N=> (key N).2.2.2.2.2⟩
end
end Go.AM.Ytpjenobkibfpcaa
namespace Go.AM.Ytpjenobkibfpcaa
open Go.AM Go.Proofs
theorem JW{n:Nat}{rs:List ResultVar}{r r':V U}{X:List (List (C U))}{e:AExit}{s:LSt U}(hr:r=r')(h:Jv cfg n rs r' X e s):Jv cfg n rs r X e s:=by rw [hr];exact h
theorem c24:Contract Try.prog cfg 24 Zbj:=by
 refine Zuy c66 ?_
 intro p q _ hp
 obtain ⟨rp,rq⟩:=hp
 dsimp only at rp rq
 have A:=(Zsg rp.2.1 rq.2.1).1
 refine Zyk _ _ _ ?_
 (simp only [vcT,vcS])
 have z0:(0:Int)≤0∧(0:Int) < 18446744073709551616:=by decide
 refine ⟨⟨z0,rp.2.2.2,A⟩,⟨z0,rq.2.2.1,A⟩,fun h=> ?_,fun h=> ⟨⟨rq.2.2.1,rp.2.2.1,rp.2.1⟩,⟨rp.2.2.2,rq.2.2.2,rq.2.1⟩,?_⟩⟩
 ·have hn:Zfv p q=false:=decide_eq_false h
  refine JW (r':= .tup [(true,enc .wedit (⟨0,0,0,0⟩:WEdit)),(false,[.bool false])]) ?_ (by (repeat' (first | exact trivial | exact rfl | apply And.intro)))
  simp only [ZjG,JQ]
  rw [hn]
  try rfl
 ·have hn:Zfv p q=true:=decide_eq_true h
  refine JW (r':= .tup [(true,enc .wedit (⟨p.at_,orM p.mask q.mask,mix q.old p.old p.mask,mix p.new q.new q.mask⟩:WEdit)),(false,[.bool true])]) ?_ (by (repeat' (first | exact trivial | exact rfl | apply And.intro)))
  simp only [ZjG,JQ]
  rw [hn]
  try rfl
theorem Zvh:Contract Try.prog cfg 131 Z7b:=by
 refine Zrs ?_
 intro w _ _
 exact ZwN _ _ (Yf rfl rfl)
theorem Zvg:Contract Try.prog cfg 133 Z1C:=by
 refine Zrr ?_
 intro w _ _
 exact ZwL _ _ (Yf rfl rfl)
theorem Zc7{α:Type}{at_:α→Int}{one:α→α→α × Bool}{p q:List α}(h:Zm at_ one p q=none):(Zm at_ one p q).isSome=false∧ofO (Zm at_ one p q)=[]:=by rw [h];exact ⟨rfl,rfl⟩
structure MInv {α:Type} (at_:α→Int) (one:α→α→α × Bool) (p q x0 x1 out:List α):Prop where
 eq:Zm at_ one p q=(Zm at_ one x0 x1).map (out++·)
 len:out.length+x0.length+x1.length≤p.length+q.length
theorem MInv.left{α:Type}{at_:α→Int}{one:α→α→α × Bool}{p q x1 out:List α}{a:α}{x0:List α}(h:MInv at_ one p q (a ::x0) x1 out)(hb:∀ b∈x1.head?,at_ a < at_ b):MInv at_ one p q x0 x1 (out++[a]):=by
 refine ⟨?_,by have:=h.len;simp only [List.length_cons,List.length_append,List.length_nil] at*;omega⟩
 rw [h.eq]
 cases x1 with
 | nil=>
  rw [Zm]
  have:Zm at_ one x0 []=some x0:=by cases x0 <;> rw [Zm]
  rw [this];simp
 | cons b r=>
  rw [Zm,if_pos (hb b (by simp))]
  cases Zm at_ one x0 (b ::r) <;> simp
theorem MInv.right{α:Type}{at_:α→Int}{one:α→α→α × Bool}{p q x0 out:List α}{b:α}{x1:List α}(h:MInv at_ one p q x0 (b ::x1) out)(hb:∀ a∈x0.head?,at_ b < at_ a):MInv at_ one p q x0 x1 (out++[b]):=by
 refine ⟨?_,by have:=h.len;simp only [List.length_cons,List.length_append,List.length_nil] at*;omega⟩
 rw [h.eq]
 cases x0 with
 | nil=> rw [Zm,Zm];simp
 | cons a r=>
  have:=hb a (by simp)
  rw [Zm,if_neg (by omega),if_pos this]
  cases Zm at_ one (a ::r) x1 <;> simp
theorem MInv.both{α:Type}{at_:α→Int}{one:α→α→α × Bool}{p q x0 x1 out:List α}{a b:α}(h:MInv at_ one p q (a ::x0) (b ::x1) out)(e:at_ a=at_ b):
  ((one a b).2=true→MInv at_ one p q x0 x1 (out++[(one a b).1]))∧((one a b).2=false→Zm at_ one p q=none):=by
 refine ⟨fun hc=> ⟨?_,by have:=h.len;simp only [List.length_cons,List.length_append,List.length_nil] at*;omega⟩,fun hc=> ?_⟩
 ·rw [h.eq,Zm,if_neg (by omega),if_neg (by omega),if_pos hc]
  cases Zm at_ one x0 x1 <;> simp
 ·rw [h.eq,Zm,if_neg (by omega),if_neg (by omega),if_neg (by rw [hc];decide)]
  try rfl
theorem MInv.done{α:Type}{at_:α→Int}{one:α→α→α × Bool}{p q out:List α}(h:MInv at_ one p q [] [] out):Zm at_ one p q=some out:=by
 rw [h.eq,Zm];simp
theorem MInv.left'{α:Type}{at_:α→Int}{one:α→α→α × Bool}{p q x0 x1 out:List α}(z:α)(h:MInv at_ one p q x0 x1 out)(hx:0 < x0.length)(hb:x1.length=0∨at_ (x0.getD 0 z) < at_ (x1.getD 0 z)):
  MInv at_ one p q (x0.drop 1) x1 (out++[x0.getD 0 z]):=by
 cases x0 with
 | nil=> simp at hx
 | cons a r=>
  refine h.left fun b hb'=> ?_
  cases x1 with
  | nil=> simp at hb'
  | cons c s=>
   simp only [List.head?_cons,Option.mem_def,Option.some.injEq] at hb'
   subst hb'
   rcases hb with hb | hb
   ·simp at hb
   ·exact hb
theorem MInv.right'{α:Type}{at_:α→Int}{one:α→α→α × Bool}{p q x0 x1 out:List α}(z:α)(h:MInv at_ one p q x0 x1 out)(hx:0 < x1.length)(hb:x0.length=0∨at_ (x1.getD 0 z) < at_ (x0.getD 0 z)):
  MInv at_ one p q x0 (x1.drop 1) (out++[x1.getD 0 z]):=by
 cases x1 with
 | nil=> simp at hx
 | cons a r=>
  refine h.right fun b hb'=> ?_
  cases x0 with
  | nil=> simp at hb'
  | cons c s=>
   simp only [List.head?_cons,Option.mem_def,Option.some.injEq] at hb'
   subst hb'
   rcases hb with hb | hb
   ·simp at hb
   ·exact hb
theorem MInv.both'{α:Type}{at_:α→Int}{one:α→α→α × Bool}{p q x0 x1 out:List α}(z:α)(h:MInv at_ one p q x0 x1 out)(h0:0 < x0.length)(h1:0 < x1.length)(e:at_ (x0.getD 0 z)=at_ (x1.getD 0 z)):
  ((one (x0.getD 0 z) (x1.getD 0 z)).2=true→MInv at_ one p q (x0.drop 1) (x1.drop 1) (out++[(one (x0.getD 0 z) (x1.getD 0 z)).1]))∧((one (x0.getD 0 z) (x1.getD 0 z)).2=false→Zm at_ one p q=none):=by
 cases x0 with
 | nil=> simp at h0
 | cons a r=>
  cases x1 with
  | nil=> simp at h1
  | cons b s=> exact h.both e
theorem Zvi:Contract Try.prog cfg 130 Z7c:=by
 refine Zrt Zvh c24 ?_
 rintro p q ⟨⟩ ⟨⟩ _ hp
 obtain ⟨⟨rp,lp⟩,rq,lq⟩:=hp
 dsimp only at rp lp rq lq
 refine ZwO p q () () _ ?_
 refine Zb (ι:=List WEdit × List WEdit × List WEdit) (fun x=> Z20 p q () () x.1 x.2.1 x.2.2) (fun x=> MInv WEdit.at_ JQ p q x.1 x.2.1 x.2.2∧(∀ w∈x.1,Z2w w)∧∀ w∈x.2.1,Z2w w) (fun x=> x.1.length+x.2.1.length) (p,q,[]) rfl
  ⟨⟨by dsimp only;cases Zm WEdit.at_ JQ p q <;> simp,by simp⟩,rp,rq⟩ ?_
 rintro ⟨x0,x1,x10⟩ ⟨inv,r0,r1⟩
 dsimp only at inv r0 r1
 have hlen:=inv.len
 refine ZmV p q () () _ _ _ _ _ ?_
 intro y1 h1 y2 h2 y3 h3 y4 h4 y5 h5
 subst h3 h4
 (simp only [vcT,vcS])
 have h3:y3=x0.getD 0 ⟨0,0,0,0⟩:=h1
 have h4:y4=x1.getD 0 ⟨0,0,0,0⟩:=h2
 have d0:∀ w∈x0.drop 1,Z2w w:=fun w hw=> r0 w (List.mem_of_mem_drop hw)
 have d1:∀ w∈x1.drop 1,Z2w w:=fun w hw=> r1 w (List.mem_of_mem_drop hw)
 refine ⟨fun hne=> ⟨fun h=> ⟨by omega,by omega⟩,fun _=> trivial,fun h=> ⟨by omega,by omega⟩,fun _=> trivial,fun g1 g2=> ⟨g1,g2⟩,fun hA=> ?_,fun hB=> ?_⟩,fun hE=> ?_⟩
 ·refine ⟨⟨by omega,by omega⟩,by simp only [List.length_cons,List.length_nil];omega,⟨by omega,by omega⟩,(x0.drop 1,x1,x10++[y3]),rfl,⟨?_,d0,r1⟩,by dsimp only;rw [List.length_drop];omega⟩
  rw [h3]
  exact inv.left' _ (by omega) (by rw [←h3,←h4];omega)
 ·refine ⟨fun h=> ⟨by omega,by omega⟩,fun _=> trivial,fun h=> ⟨by omega,by omega⟩,fun _=> trivial,fun hC=> ?_,fun hD=> ?_⟩
  ·refine ⟨⟨by omega,by omega⟩,by simp only [List.length_cons,List.length_nil];omega,⟨by omega,by omega⟩,(x0,x1.drop 1,x10++[y4]),rfl,⟨?_,r0,d1⟩,by dsimp only;rw [List.length_drop];omega⟩
   rw [h4]
   exact inv.right' _ (by omega) (by rw [←h3,←h4];omega)
  ·have hb:=inv.both' ⟨0,0,0,0⟩ (by omega) (by omega) (by rw [←h3,←h4];omega)
   rw [←h3,←h4] at hb
   have m3:Z2w y3:=by rw [h3];exact r0 _ (Zh (by omega) _)
   have m4:Z2w y4:=by rw [h4];exact r1 _ (Zh (by omega) _)
   refine ⟨⟨by omega,by omega⟩,⟨by omega,by omega⟩,⟨m3,m4⟩,fun hc=> ?_,fun hc=> ?_⟩
   ·have e:=Zc7 (hb.2 hc)
    refine JW (r':= .tup [(false,[.slice (U:=U) .wedit [] .unk]),(false,[.bool false])]) ?_ (by (repeat' (first | exact trivial | exact rfl | apply And.intro)))
    simp only [ZeO]
    rw [e.1,e.2]
   ·refine ⟨by simp only [List.length_cons,List.length_nil];omega,⟨by omega,by omega⟩,⟨by omega,by omega⟩,(x0.drop 1,x1.drop 1,x10++[y5]),rfl,⟨?_,d0,d1⟩,by dsimp only;rw [List.length_drop,List.length_drop];omega⟩
    rw [h5]
    exact hb.1 hc
 ·have e0:x0=[]:=List.eq_nil_of_length_eq_zero (by omega)
  have e1:x1=[]:=List.eq_nil_of_length_eq_zero (by omega)
  subst e0 e1
  have e:=inv.done
  refine JW (r':= .tup [(false,[.slice (U:=U) .wedit x10 .unk]),(false,[.bool true])]) ?_ (by (repeat' (first | exact trivial | exact rfl | apply And.intro)))
  simp only [ZeO]
  rw [e]
  try rfl
theorem c96:Contract Try.prog cfg 96 Z3K:=by
 refine Zu5 Zvi ?_
 intro p q _ hp
 exact ZxL _ _ _ ⟨hp,by (repeat' (first | exact trivial | exact rfl | apply And.intro))⟩
end Go.AM.Ytpjenobkibfpcaa
namespace Go.AM.Ytpjenobkibfpcaa
open Go.AM Go.Proofs
theorem Zte(e:Edit):e.words.length+e.ops.length+Zi e.kids+Zc e.ops+Zk e.old+Zk e.new+1=Z6 e:=by obtain ⟨k,o,n,w,ks,l,os⟩:=e;simp only [Z6,Edit.words_mk,Edit.ops_mk,Edit.kids_mk,Edit.old_mk,Edit.new_mk];omega
theorem Zk6(t:Tree):1≤Zk t:=by obtain ⟨k,w,ks⟩:=t;simp only [Zk];omega
theorem Z8R{e:Edit}(h:Z0N e):Z6 e≤9000000000:=Nat.le_trans (ZaD e) h.1
theorem Zaw{e:Edit}(h:Z0N e):ZdJ (e,())∧Z0N (ZA (ZM e)):=by
 have hm:=Z8R h
 obtain ⟨m,r,d,hr⟩:=h
 refine ⟨⟨by dsimp only;omega,d,hr⟩,?_,?_,d,J1 _ _ (JD _ _ hr)⟩
 ·have:=Z9n (ZM e)
  rw [Z8z] at this
  omega
 ·exact Z1S _ d (JD _ _ hr) (Z5v e r)
theorem Z8C{e:Edit}{t:Tree}(h:Z0N e)(hm:Zk t≤100000000000)(ht:rng t):Z6f (e,t,()):=by
 have:=Z8R h
 have:=h.1
 exact ⟨⟨by dsimp only;omega,h.2⟩,by dsimp only;omega,ht⟩
theorem ZjO{e:Edit}(h:Z0N e):Zan e.kids:=by
 obtain ⟨m,r,d,hr⟩:=h
 have:=Z4a e
 exact ⟨by omega,(YK r).2.2.2.1,fun k hk=> ⟨_,(ZK (Zw hr).kids k hk).2⟩⟩
theorem ZjN{e:Edit}(h:Z0N e):Zlv e.ops:=by
 obtain ⟨m,r,d,hr⟩:=h
 have:=Z4a e
 exact ⟨by omega,(YK r).2.2.2.2,fun o ho=> ⟨_,_,rightOs_mem (Zw hr).ops ho⟩⟩
theorem b60:ZxF:=by
 intro N p q _ hp hN
 obtain ⟨op,oq⟩:=hp
 dsimp only at op oq
 have hN':8*(Z6 p+Z6 q) < N+1:=hN
 obtain ⟨dp,rp⟩:=op.2.2
 obtain ⟨dq,rq⟩:=oq.2.2
 have hst:=Zeb rp rq
 unfold Ju at hst
 have lp:=Zte p
 have lq:=Zte q
 have mo:=Zk6 p.old;have mn:=Zk6 p.new;have mo':=Zk6 q.old;have mn':=Zk6 q.new
 have gp:=YK op.2.1
 have gq:=YK oq.2.1
 have cp:=Z4a p;have cq:=Z4a q;have cp':=op.1;have cq':=oq.1
 have fin:∀ {X:Edit} {b:Bool} {s:LSt U},Y2 p q=(X,b)→Jv cfg Try.f60.ntmps Try.f60.results.toList (.tup [(true,enc .edit X),(false,[.bool b])]) [] .ret s→Jv cfg Try.f60.ntmps Try.f60.results.toList (Z4C (p,q,())) [] .ret s:=by
  intro X b s h hs
  refine JW ?_ hs
  simp only [Z4C]
  rw [h]
  try rfl
 refine Zy7 N p q _ ?_
 intro y1 h1 y2 h2 y3 h3 y4 h4 y5 h5
 replace h1:=h1.symm;replace h2:=h2.symm;replace h3:=h3.symm;replace h4:=h4.symm
 subst h1 h2 h3 h4
 (simp only [vcT,vcS])
 try dsimp only at h5 ⊢
 refine ⟨fun p0=> fin (by rw [hst,if_pos p0]) (by (repeat' (first | exact trivial | exact rfl | apply And.intro))),fun p0=> ?_⟩
 rw [if_neg p0] at hst
 refine ⟨fun q0=> fin (by rw [hst,if_pos q0]) (by (repeat' (first | exact trivial | exact rfl | apply And.intro))),fun q0=> ?_⟩
 rw [if_neg q0] at hst
 refine ⟨fun p1=> ⟨Z8C oq (by omega) gp.2.1,fin (by rw [hst,if_pos p1]) (by unfold doB;(repeat' (first | exact trivial | exact rfl | apply And.intro)))⟩,fun p1=> ?_⟩
 rw [if_neg p1] at hst
 refine ⟨fun q1=> ⟨(Zaw op).1,by rw [h5];exact Z8C (Zaw op).2 (by omega) gq.1,fin (by rw [hst,if_pos q1,←h5]) (by unfold doB;(repeat' (first | exact trivial | exact rfl | apply And.intro)))⟩,fun q1=> ?_⟩
 rw [if_neg q1] at hst
 refine ⟨fun hd=> fin (by rw [hst,if_pos hd]) (by (repeat' (first | exact trivial | exact rfl | apply And.intro))),fun hd=> ?_⟩
 rw [if_neg (by rintro (h | h);exact h hd.1;exact h hd.2)] at hst
 refine ⟨fun p2=> ?_,fun p2=> ?_⟩
 ·rw [if_pos p2] at hst
  refine ⟨⟨⟨gp.2.2.1,by dsimp only;omega⟩,gq.2.2.1,by dsimp only;omega⟩,fun hw=> ?_,fun hw=> ⟨⟨ZjO op,ZjO oq⟩,by show 8*(Zi p.kids+Zi q.kids)+4 < N;omega,?_⟩⟩
  ·exact fin (by rw [hst,if_neg (by rw [hw];decide)]) (by (repeat' (first | exact trivial | exact rfl | apply And.intro)))
  ·exact fin (by rw [hst,if_pos hw]) (by (repeat' (first | exact trivial | exact rfl | apply And.intro)))
 ·rw [if_neg p2] at hst
  exact ⟨⟨ZjN op,ZjN oq⟩,by show 8*(Zc p.ops+Zc q.ops)+40 < N;omega,fin hst (by (repeat' (first | exact trivial | exact rfl | apply And.intro)))⟩
theorem b97:ZxA:=by
 intro N a b _ hp hN
 have hN':8*(Zi a+Zi b)+4 < N+1:=hN
 refine ZxK N a b _ ?_
 exact ⟨hp,by show 8*(Zi a+Zi b)+3 < N;omega,by (repeat' (first | exact trivial | exact rfl | apply And.intro))⟩
theorem Zge{k:Kid}(h:Z0Z k):isI k.at_∧Ym k.e:=by cases k;exact h
theorem Zvr:ZtD:=by
 intro N a b _ hp hN
 obtain ⟨oa,ob⟩:=hp
 dsimp only at oa ob
 have hN':8*(ZO a+ZO b)+1 < N+1:=hN
 have ka:=Z3l a
 have kb:=Z3l b
 refine ZwK N a b _ ?_
 intro y1 h1 y2 h2
 replace h1:=h1.symm;replace h2:=h2.symm
 subst h1 h2
 try dsimp only
 have ra:Z0N a.e:=⟨by have:=oa.1;rw [Z3A] at this;omega,(Zge oa.2.1).2,oa.2.2⟩
 have rb:Z0N b.e:=⟨by have:=ob.1;rw [Z3A] at this;omega,(Zge ob.2.1).2,ob.2.2⟩
 exact ⟨⟨ra,rb⟩,by show 8*(Z6 a.e+Z6 b.e) < N;omega,by unfold Z30 Z1o;(repeat' (first | exact trivial | exact rfl | apply And.intro))⟩
theorem Zdw{l:List Kid}(h:Zan l):Zan (l.drop 1):=by
 cases l with
 | nil=> exact h
 | cons k r=>
  obtain ⟨h1,h2,h3⟩:=h
  simp only [Z03] at h1
  exact ⟨by simp only [List.drop_succ_cons,List.drop_zero];omega,h2.2,fun x hx=> h3 x (List.mem_cons_of_mem _ hx)⟩
theorem Zdv{l:List Kid}(h:Zan l)(hl:0 < l.length)(z:Kid):Zph (l.getD 0 z)∧ZO (l.getD 0 z)+Zi (l.drop 1)=Zi l:=by
 cases l with
 | nil=> simp at hl
 | cons k r=>
  obtain ⟨h1,h2,h3⟩:=h
  simp only [Z03] at h1
  exact ⟨⟨by simp only [List.getD_cons_zero];omega,h2.1,h3 k List.mem_cons_self⟩,rfl⟩
theorem Za2:∀ l:List Kid,Zi (l.drop 1)≤Zi l
 | []=> Nat.le_refl _
 | k ::r=> by simp only [List.drop_succ_cons,List.drop_zero,Zi];omega
theorem Zvs:ZtE:=by
 rintro N p q ⟨⟩ ⟨⟩ _ hp hN
 obtain ⟨op,oq⟩:=hp
 dsimp only at op oq
 have hN':8*(Zi p+Zi q)+3 < N+1:=hN
 have lp:=Yw p
 have lq:=Yw q
 have bp:=Nat.le_trans (Z5M p) op.1;have bq:=Nat.le_trans (Z5M q) oq.1
 refine ZwM N p q () () _ ?_
 refine Zb (ι:=List Kid × List Kid × List Kid) (fun x=> Z1Z p q () () x.1 x.2.1 x.2.2) (fun x=> MInv KidOf.at_ (Z1o Y2) p q x.1 x.2.1 x.2.2∧(Zan x.1∧Zi x.1≤Zi p)∧Zan x.2.1∧Zi x.2.1≤Zi q) (fun x=> x.1.length+x.2.1.length) (p,q,[]) rfl
  ⟨⟨by dsimp only;cases Zm KidOf.at_ (Z1o Y2) p q <;> simp,by simp⟩,⟨op,Nat.le_refl _⟩,oq,Nat.le_refl _⟩ ?_
 rintro ⟨x0,x1,x10⟩ ⟨inv,⟨r0,m0⟩,r1,m1⟩
 dsimp only at inv r0 r1 m0 m1
 have hlen:=inv.len
 refine ZmU N p q () () _ _ _ _ _ ?_
 intro y1 h1 y2 h2 y3 h3 y4 h4 y5 h5
 subst h3 h4
 (simp only [vcT,vcS])
 have h3:y3=x0.getD 0 ⟨0,Edit.nil⟩:=h1
 have h4:y4=x1.getD 0 ⟨0,Edit.nil⟩:=h2
 have d0:Zan (x0.drop 1)∧Zi (x0.drop 1)≤Zi p:=⟨Zdw r0,by have:=Za2 x0;omega⟩
 have d1:Zan (x1.drop 1)∧Zi (x1.drop 1)≤Zi q:=⟨Zdw r1,by have:=Za2 x1;omega⟩
 refine ⟨fun hne=> ⟨fun h=> ⟨by omega,by omega⟩,fun _=> trivial,fun h=> ⟨by omega,by omega⟩,fun _=> trivial,fun g1 g2=> ⟨g1,g2⟩,fun hA=> ?_,fun hB=> ?_⟩,fun hE=> ?_⟩
 ·refine ⟨⟨by omega,by omega⟩,by simp only [List.length_cons,List.length_nil];omega,⟨by omega,by omega⟩,(x0.drop 1,x1,x10++[y3]),rfl,⟨?_,d0,r1,m1⟩,by dsimp only;rw [List.length_drop];omega⟩
  rw [h3]
  exact inv.left' _ (by omega) (by rw [←h3,←h4];omega)
 ·refine ⟨fun h=> ⟨by omega,by omega⟩,fun _=> trivial,fun h=> ⟨by omega,by omega⟩,fun _=> trivial,fun hC=> ?_,fun hD=> ?_⟩
  ·refine ⟨⟨by omega,by omega⟩,by simp only [List.length_cons,List.length_nil];omega,⟨by omega,by omega⟩,(x0,x1.drop 1,x10++[y4]),rfl,⟨?_,⟨r0,m0⟩,d1⟩,by dsimp only;rw [List.length_drop];omega⟩
   rw [h4]
   exact inv.right' _ (by omega) (by rw [←h3,←h4];omega)
  ·have hb:=inv.both' ⟨0,Edit.nil⟩ (by omega) (by omega) (by rw [←h3,←h4];omega)
   rw [←h3,←h4] at hb
   obtain ⟨k3,n3⟩:=Zdv r0 (by omega) ⟨0,Edit.nil⟩
   obtain ⟨k4,n4⟩:=Zdv r1 (by omega) ⟨0,Edit.nil⟩
   rw [←h3] at k3 n3
   rw [←h4] at k4 n4
   refine ⟨⟨by omega,by omega⟩,⟨by omega,by omega⟩,⟨k3,k4⟩,by show 8*(ZO y3+ZO y4)+1 < N;omega,fun hc=> ?_,fun hc=> ?_⟩
   ·have e:=Zc7 (hb.2 hc)
    refine JW (r':= .tup [(false,[.slice (U:=U) .kid [] .unk]),(false,[.bool false])]) ?_ (by (repeat' (first | exact trivial | exact rfl | apply And.intro)))
    simp only [Z2d]
    rw [e.1,e.2]
   ·refine ⟨by simp only [List.length_cons,List.length_nil];omega,⟨by omega,by omega⟩,⟨by omega,by omega⟩,(x0.drop 1,x1.drop 1,x10++[y5]),rfl,⟨?_,d0,d1⟩,by dsimp only;rw [List.length_drop,List.length_drop];omega⟩
    rw [h5]
    exact hb.1 hc
 ·have e0:x0=[]:=List.eq_nil_of_length_eq_zero (by omega)
  have e1:x1=[]:=List.eq_nil_of_length_eq_zero (by omega)
  subst e0 e1
  have e:=inv.done
  refine JW (r':= .tup [(false,[.slice (U:=U) .kid x10 .unk]),(false,[.bool true])]) ?_ (by (repeat' (first | exact trivial | exact rfl | apply And.intro)))
  simp only [Z2d]
  rw [e]
  try rfl
theorem ZgD{l:List Op}{o:Op}(h:Part l o)(ho:YG o)(hl:JC l):Yb o:=by
 obtain ⟨o',m,k,e1,_,lt⟩:=h
 have G:=Z0w (Z0Y hl m)
 obtain ⟨kk,nn,ll,ee⟩:=o
 have k:kk=o'.kind:=k
 have e1:ee=o'.e:=e1
 have lt:∀ t∈ll,t∈o'.l:=lt
 refine ⟨by rw [k];exact G.1,?_,Z7n fun t ht=> Jh G.2.2.1 (lt t ht),by rw [e1];exact G.2.2.2⟩
 rcases ho with h | h | h
 ·have:=h.2.2.1
  unfold isI
  dsimp only at this
  omega
 ·have h2:nn=0:=h.2.1
  rw [h2];exact Js (by decide) (by decide)
 ·have h2:nn=0:=h.2.1
  rw [h2];exact Js (by decide) (by decide)
theorem Z5F{l:List Op}{o:Op}(h:Part l o):Z1u o≤YA l∧Zn o≤Zc l:=by
 obtain ⟨o',m,k,e1,hm,_⟩:=h
 have h1:=ZcC m
 have h2:=Yv m
 have a:=Z49 o
 rw [ZZ,ZZ,e1] at hm
 rw [e1] at a
 rw [ZZ] at h2
 rw [ZZ,e1]
 omega
theorem ZbS{l:List Op}{o:Op}(h:Part l o)(hl:∀ o∈l,∃ list d,Z7 list o d=true)(k3:o.kind=3):∃ d,Z4 o.e d=true:=by
 obtain ⟨o',m,k,e1,hm,_⟩:=h
 obtain ⟨list,d,hr⟩:=hl o' m
 exact ⟨d,by rw [e1];exact J0 hr (by omega)⟩
theorem Zoe{p q:List Op}(hp:Zlv p)(hq:Zlv q){x:Piece}(h:POk p q x):PcOk x:=by
 refine ⟨h.of,fun e=> ?_,fun e=> ?_,h.both⟩
 ·obtain ⟨a,b⟩:=h.pp e
  exact ⟨b,Nat.le_trans (Z5F a).1 hp.1,ZgD a b hp.2.1,ZbS a hp.2.2⟩
 ·obtain ⟨a,b⟩:=h.qq e
  exact ⟨b,Nat.le_trans (Z5F a).1 hq.1,ZgD a b hq.2.1,ZbS a hq.2.2⟩
theorem ZsX{p:List Op}(hp:Zlv p):Z96 p:=by
 refine ⟨fun o ho=> ?_,?_⟩
 ·obtain ⟨_,_,h⟩:=hp.2.2 o ho
  exact Yh h
 ·have:=Z3k p
  have:=hp.1
  omega
theorem b98:Zxz:=by
 intro N p q _ hp hN
 obtain ⟨op,oq⟩:=hp
 dsimp only at op oq
 have hN':8*(Zc p+Zc q)+40 < N+1:=hN
 have kp:=ZsX op
 have kq:=ZsX oq
 obtain ⟨i1,_⟩:=ZbU _ p q [] (Nat.le_refl _) kp.1 kq.1
 refine ZxJ N p q _ ?_
 (simp only [vcT,vcS])
 refine ⟨⟨kp,kq⟩,fun hb=> ?_,fun hb=> ?_⟩
 ·have e:Z1y Y2 p q=none:=by unfold Z1y;rw [if_neg (by rw [hb];decide)]
  refine JW (r':= .tup [(false,[.slice (U:=U) .op [] .unk]),(false,[.bool false])]) ?_ (by (repeat' (first | exact trivial | exact rfl | apply And.intro)))
  simp only [Z4i]
  rw [e];try rfl
 ·obtain ⟨ps,e,hps,_,_⟩:=i1 hb
  obtain ⟨ps1,e1,_,_,hlen⟩:=ZbT Ztw Ztv 1 _ p q [] (Nat.le_refl _) kp.1 kq.1 hb
  rw [e,List.nil_append,List.nil_append] at e1
  subst e1
  rw [List.nil_append] at e
  have hco:Z1y Y2 p q=Z0J Y2 ps:=by unfold Z1y;rw [if_pos hb,e]
  refine Zb (ι:=Int × List Op) (fun s=> Z53 p q s.1 s.2) (fun s=> 0≤s.1∧s.1≤ps.length∧Z0J Y2 ps=(Z0J Y2 (ps.drop s.1.toNat)).map (s.2++·)∧s.2.length+(ps.drop s.1.toNat).length≤ps.length) (fun s=> ((ps.length:Int) - s.1).toNat) (0,[]) rfl ⟨by simp,by simp,by simp,by simp⟩ ?_
  rintro ⟨i,out⟩ ⟨f1,f2,f3,f4⟩
  dsimp only at f1 f2 f3 f4
  refine Zqi N p q _ _ _ _ ?_
  intro y1 h1 y2 h2 y3 h3
  rw [e] at h1 ⊢
  subst h2
  (simp only [vcT,vcS])
  refine ⟨fun hi=> ?_,fun hi=> ?_⟩
  ·have h1:y2=ps.getD i.toNat (Piece.mk 0 Op.nil Op.nil):=h1
   have hmem:y2∈ps:=by rw [h1];exact Zh (by omega) _
   have hx:=hps y2 hmem
   have hd:ps.drop i.toNat=y2 ::ps.drop (i+1).toNat:=by rw [h1];exact Ys f1 hi _
   rw [hd,Z0J] at f3
   rw [hd,List.length_cons] at f4
   have hmu:8*(Zn y2.p+Zn y2.q)+1 < N:=by
    rcases hx.of with h | h | h
    ·have:=(Z5F (hx.pp (by omega)).1).2;have:=(Z5F (hx.qq (by omega)).1).2;omega
    ·have:=(Z5F (hx.pp (by omega)).1).2;rw [hx.qn h,show Zn Op.nil=3 from rfl];omega
    ·have:=(Z5F (hx.qq (by omega)).1).2;rw [hx.pn h,show Zn Op.nil=3 from rfl];omega
   have c1:=Z3k p;have c2:=Z3k q;have c3:=op.1;have c4:=oq.1
   refine ⟨⟨f1,hi⟩,Zoe op oq hx,hmu,fun hc=> ?_,fun hc=> ⟨fun his=> ?_,fun his=> ?_⟩⟩
   ·rw [if_neg (by rw [hc];decide)] at f3
    refine JW (r':= .tup [(false,[.slice (U:=U) .op [] .unk]),(false,[.bool false])]) ?_ (by (repeat' (first | exact trivial | exact rfl | apply And.intro)))
    simp only [Z4i]
    rw [hco,f3];try rfl
   ·rw [if_pos hc,if_pos his] at f3
    refine ⟨by simp only [List.length_cons,List.length_nil];omega,by unfold InR;omega,(i+1,out++[y3]),rfl,⟨by dsimp only;omega,by dsimp only;omega,?_,?_⟩,by dsimp only;omega⟩
    ·rw [f3,h3]
     cases Z0J Y2 (ps.drop (i+1).toNat) <;> simp
    ·simp only [List.length_append,List.length_cons,List.length_nil];omega
   ·rw [if_pos hc,if_neg (by rw [his];decide)] at f3
    refine ⟨by unfold InR;omega,(i+1,out),rfl,⟨by dsimp only;omega,by dsimp only;omega,?_,by dsimp only;omega⟩,by dsimp only;omega⟩
    rw [f3]
    cases Z0J Y2 (ps.drop (i+1).toNat) <;> simp
  ·rw [List.drop_of_length_le (by omega),Z0J] at f3
   refine JW (r':= .tup [(false,[.slice (U:=U) .op out .unk]),(false,[.bool true])]) ?_ (by (repeat' (first | exact trivial | exact rfl | apply And.intro)))
   simp only [Z4i]
   rw [hco,f3]
   simp [ofO]
theorem Zdg{α:Type}{l:List α}{i:Nat}(h:i < l.length)(d:α):l.take (i+1)=l.take i++[l.getD i d]:=by
 rw [List.take_succ_eq_append_getElem h,List.getD_eq_getElem?_getD,List.getElem?_eq_getElem h];try rfl
theorem Zpo{a b:List Tree}(h:Z5 a=Z5 b):Zv2 a b=true:=Z47.2 h
theorem Zs2{a b:List Tree}(h:¬Z5 a=Z5 b):Zv2 a b=false:=by rw [←Bool.not_eq_true];exact fun e=> h (Z47.1 e)
theorem ZgW(o:Op):Za o.l≤Z1u o:=by rw [Z49];omega
theorem Zvq:ZtC:=by
 intro N x _ hp hN
 have hp:PcOk x:=hp
 have hN':8*(Zn x.p+Zn x.q)+1 < N+1:=hN
 have fin:∀ {o:Op} {i k:Bool} {s:LSt U},YZ Y2 x=⟨o,i,k⟩→Jv cfg Try.f136.ntmps Try.f136.results.toList (.tup [(true,enc .op o),(false,[.bool i]),(false,[.bool k])]) [] .ret s→Jv cfg Try.f136.ntmps Try.f136.results.toList (Z2c (x,())) [] .ret s:=by
  intro o i k s h hs
  refine JW ?_ hs
  simp only [Z2c]
  rw [h];try rfl
 refine ZwI N x _ ?_
 intro y1 h1 y2 h2 y3 h3 y4 h4 y5 h5 y6 h6 y7 h7 y8 h8 y9 h9
 subst h1 h2 h5 h6
 (simp only [vcT,vcS])
 have hc:=YZ.eq_1 Y2 x
 refine ⟨fun _ h=> ⟨by omega,h⟩,fun c1=> fin (by rw [hc,if_pos c1]) (by (repeat' (first | exact trivial | exact rfl | apply And.intro))),fun c1=> ?_⟩
 rw [if_neg (by omega)] at hc
 refine ⟨fun c2=> fin (by rw [hc,if_pos c2]) (by (repeat' (first | exact trivial | exact rfl | apply And.intro))),fun c2=> ?_⟩
 rw [if_neg (by omega)] at hc
 have c0:x.of=0:=by rcases hp.of with h | h | h <;> omega
 obtain ⟨b1,b2,b3⟩:=hp.both c0
 obtain ⟨op,mp,gp,rp⟩:=hp.pp (by omega)
 obtain ⟨oq,mq,gq,rq⟩:=hp.qq (by omega)
 have ep:=Z49 x.p
 have eq:=Z49 x.q
 have gp':=Z0w gp
 have gq':=Z0w gq
 have ap:=ZgW x.p
 have aq:=ZgW x.q
 refine ⟨fun c3=> ?_,fun c3=> ?_⟩
 ·rw [if_pos c3] at hc
  have l1:=Yz op (.inr c3.1)
  have l2:=Yz oq (.inl c3.2)
  have k1:=ZD x.p.l
  rw [List.take_of_length_le (by omega)] at hc
  refine Zb (ι:=Int) (fun i=> Z5S x i) (fun i=> 0≤i∧i≤x.p.l.length∧Z5 (x.p.l.take i.toNat)=Z5 (x.q.l.take i.toNat)) (fun i=> ((x.p.l.length:Int) - i).toNat) 0 rfl ⟨by omega,by omega,by simp⟩ ?_
  rintro i ⟨f1,f2,f3⟩
  refine ZmT N x _ _ _ ?_
  intro z1 g1 z2 g2 z3 g3 z4 g4
  subst g1 g2
  (simp only [vcT,vcS])
  have l3:x.p.l.length=x.q.l.length:=by omega
  refine ⟨fun hi=> ?_,fun hi=> ?_⟩
  ·have m1:z3∈x.p.l:=by rw [g3];exact Zh (by omega) _
   have m2:z4∈x.q.l:=by rw [g4];exact Zh (by omega) _
   have m1':=J8 m1
   have m2':=J8 m2
   have t1:x.p.l.take (i+1).toNat=x.p.l.take i.toNat++[z3]:=by rw [g3,show (i+1).toNat=i.toNat+1 by omega];exact Zdg (by omega) _
   have t2:x.q.l.take (i+1).toNat=x.q.l.take i.toNat++[z4]:=by rw [g4,show (i+1).toNat=i.toNat+1 by omega];exact Zdg (by omega) _
   refine ⟨⟨f1,hi⟩,⟨f1,by omega⟩,⟨by dsimp only;omega,by dsimp only;omega⟩,fun hne=> fin (by rw [hc,Zs2];intro he;rw [Jb] at hne;apply hne;rw [g3,g4];exact Zae he i.toNat) (by (repeat' (first | exact trivial | exact rfl | apply And.intro))),fun heq=> ⟨by unfold InR;omega,i+1,rfl,⟨by omega,by omega,?_⟩,by omega⟩⟩
   rw [t1,t2]
   exact JU f3 (Z5I.2 (Z0d.1 heq))
  ·rw [List.take_of_length_le (by omega),List.take_of_length_le (by omega)] at f3
   exact fin (by rw [hc,Zpo f3]) (by (repeat' (first | exact trivial | exact rfl | apply And.intro)))
 rw [if_neg (by omega)] at hc
 have kp:x.p.kind=2∨x.p.kind=3:=by rcases Z10 op with k | k | k | k <;> omega
 have kq:x.q.kind=1∨x.q.kind=3:=by rcases Z10 oq with k | k | k | k <;> omega
 refine ⟨fun c4=> ?_,fun c4=> ?_⟩
 ·rw [if_pos c4] at hc
  have l1:=Yz op (.inr c4)
  have l2:=Z2N (o:=x.q) (by omega)
  have hl:0 < x.p.l.length:=by omega
  have m3:y5∈x.p.l:=by rw [h3];exact Zh hl _
  have m3':=J8 m3
  refine ⟨⟨by omega,by omega⟩,Z8C ⟨by omega,gq'.2.2.2,rq (by omega)⟩ (by omega) (Jh gp'.2.2.1 m3),fin hc ?_⟩
  rw [show x.p.l.getD 0 Tree.nil=y5 from h3.symm]
  unfold doB
  rw [←h8]
  (repeat' (first | exact trivial | exact rfl | apply And.intro))
 rw [if_neg c4] at hc
 have p3:x.p.kind=3:=by omega
 refine ⟨fun c5=> ?_,fun c5=> ?_⟩
 ·rw [if_pos c5] at hc
  have l1:=Yz oq (.inl c5)
  have l2:=Z2N (o:=x.p) p3
  have hl:0 < x.q.l.length:=by omega
  have m4:y6∈x.q.l:=by rw [h4];exact Zh hl _
  have m4':=J8 m4
  have rk:Z0N x.p.e:=⟨by omega,gp'.2.2.2,rp p3⟩
  refine ⟨(Zaw rk).1,⟨by omega,by omega⟩,by rw [h7];exact Z8C (Zaw rk).2 (by omega) (Jh gq'.2.2.1 m4),fin hc ?_⟩
  rw [show x.q.l.getD 0 Tree.nil=y6 from h4.symm,←h7]
  unfold doB
  rw [←h9]
  (repeat' (first | exact trivial | exact rfl | apply And.intro))
 ·rw [if_neg c5] at hc
  have k1:Z0N x.p.e:=⟨by omega,gp'.2.2.2,rp p3⟩
  have k2:Z0N x.q.e:=⟨by omega,gq'.2.2.2,rq (by omega)⟩
  refine ⟨⟨k1,k2⟩,?_,fin hc (by (repeat' (first | exact trivial | exact rfl | apply And.intro)))⟩
  show 8*(Z6 x.p.e+Z6 x.q.e) < N
  rw [ZZ,ZZ] at hN'
  omega
theorem Zys:Contract Try.prog cfg 60 Z8L∧Contract Try.prog cfg 97 Zni∧Contract Try.prog cfg 132 Zjf∧Contract Try.prog cfg 134 Zje∧Contract Try.prog cfg 98 Znh∧Contract Try.prog cfg 136 Zjd:=
 Zrd c26 c83 Zfy c96 Zvg (Zvf Zpw) b60 b97 Zvs Zvr b98 Zvq
theorem c60:Contract Try.prog cfg 60 Z8L:=Zys.1
end Go.AM.Ytpjenobkibfpcaa
namespace Go.AM.Ytpjenobkibfpcaa
open Go.AM Go.Proofs
noncomputable section
def ZpY:ArgL (Edit × Edit × Unit):=(.cons (aEl .edit) (.cons (aEl .edit) .nil))
def Zob(a:Edit × Edit × Unit):Prop:=Z0N a.1∧Z0N a.2.1
def ZjI(a:Edit × Edit × Unit):V U:= .tup [(true,(enc .edit ((Z1J a.1 a.2.1).1))),(false,[.bool ((Z1J a.1 a.2.1).2)])]
def Zbl:Fs U:=fs ZpY (fun a=> [Zob a]) ZjI
def Zpf:List (FuncId × Fs U):=[(60,Z8L),(57,Z0s)]
def ZuT:Zg U:=lvl [([2,3,4],[2,3,4]),([4,6,7],[4,6]),([4,6,15],[4,6]),([4,5],[4]),([4,5],[4])]
abbrev A21(p:List Nat):=AW (Z2 Zpf) Try.f21 ZuT p
theorem Zym(p q:Edit)(Q:QT)(h:∀ y_1,y_1=p→∀ y_2,y_2=q→∀ y_3,y_3=((Y2 y_1 y_2).1)→((Z4j (y_1,y_2,()))∧(((!((Y2 y_1 y_2).2))=true→(Q .ret (L2 [(4,.ptr (.loc 4) 0),(5,.c (.bool false))] [(.loc 4,zc1)])))∧((!((Y2 y_1 y_2).2))=false→(Z0R (y_3,()))∧(Q .ret (L2 [(4,.ptr (.loc 4) 0),(5,.c (.bool true))] [(.loc 4,(enc .edit (ZA y_3)))])))))):
  A21 [] (L2 [(0,.agg (enc .edit p)),(1,.agg (enc .edit q))] []) Q:=
 Eq.mpr (by kernel_rfl) (h _ (Z9 _) _ (Z9 _) _ (Z9 _))
def Zwi(p q:Edit):Prop:=AW (Z2 Zpf) Try.f21 ZuT [] (Zo (ZpY.can (p,q,())) []) (EQ Try.f21 (ZjI (p,q,())) [])
theorem Zuz(c60:CT 60 Z8L)(c57:CT 57 Z0s)(hb:∀ (p:Edit) (q:Edit) (_:Unit),Zob (p,q,())→Zwi p q):CT 21 Zbl:=
 Z8 (l:=[(60,Z8L),(57,Z0s)]) Zr rfl (⟨c60,c57,trivial⟩) ZuT Try.func21 rfl rfl 2 (fun _=> rfl) (by decide) (fun ⟨p,q,_⟩=> hb p q ())
end
end Go.AM.Ytpjenobkibfpcaa
namespace Go.AM.Ytpjenobkibfpcaa
open Go.AM Go.Proofs
theorem ZjM{e:Edit}(h:Z0N e):Wk e:=by obtain ⟨d,hr⟩:=h.2.2;exact .of hr h.2.1
theorem Ze9{p q:Edit}(hp:Z0N p)(hq:Z0N q):ComWk True (Y2 p q) p q:=Zv5 _ p q (Nat.le_refl _) (ZjM hp) (ZjM hq)
theorem Zs8{p q:Edit}(hp:Z0N p)(hq:Z0N q)(h:(Y2 p q).2=true):Z0R ((Y2 p q).1,()):=by
 have H:=Ze9 hp hq
 have:=H.ct trivial h
 have:=ZaD (Y2 p q).1
 have:=hp.1
 have:=hq.1
 exact ⟨by dsimp only;omega,-1,(H.wk h).r⟩
theorem c21:Contract Try.prog cfg 21 Zbl:=by
 refine Zuz c60 Zfx.1 ?_
 intro p q _ hp
 refine Zym _ _ _ ?_
 intro y1 h1 y2 h2 y3 h3
 subst h1 h2
 (simp only [vcT,vcS])
 refine ⟨hp,fun hc=> ?_,fun hc=> ?_⟩
 ·refine JW (r':= .tup [(true,enc .edit Edit.nil),(false,[.bool false])]) ?_ (by (repeat' (first | exact trivial | exact rfl | apply And.intro)))
  simp only [ZjI,Z1J]
  rw [if_neg (by rw [hc];decide)]
  try rfl
 ·refine ⟨by rw [h3];exact Zs8 hp.1 hp.2 hc,JW (r':= .tup [(true,enc .edit (ZA y3)),(false,[.bool true])]) ?_ (by (repeat' (first | exact trivial | exact rfl | apply And.intro)))⟩
  simp only [ZjI,Z1J]
  rw [if_pos hc,h3]
  try rfl
end Go.AM.Ytpjenobkibfpcaa
namespace Go.AM.Ytpjenobkibfpcaa
open Go.AM Go.Proofs
theorem kids_sum:∀ {l:List Op},(∀ o∈l,YG o)→Z37 l≤Y3 l+YO l
 | [],_=> by simp [Z37,Y3,YO]
 | o ::r,h=> by
  have h1:=YH (h o List.mem_cons_self)
  have h2:=kids_sum fun x hx=> h x (List.mem_cons_of_mem _ hx)
  simp only [Z37,Y3,YO]
  split <;> split <;> omega
theorem ZnW:Z0N Edit.nil:=by
 refine ⟨by decide,?_,1,ZlP⟩
 exact ⟨Js (by decide) (by decide),JS,JS,by simp [Edit.nil],Js (by decide) (by decide),trivial,trivial⟩
end Go.AM.Ytpjenobkibfpcaa
namespace Go.AM.Ytpjenobkibfpcaa
open Go.AM Go.Proofs
theorem Zpj{t:Tree}(h:Z8s t=true)(hr:rng t):Zk t≤20000000000∧RT_ t∧Ze t 64=true∧t.kind≠10:=by
 unfold Z8s at h
 simp only [Bool.and_eq_true,decide_eq_true_eq] at h
 exact ⟨Ze4 h.1.1,⟨⟨64,h.1.2⟩,hr⟩,h.1.2,h.2⟩
theorem Zti{t:Tree}(h:Z8s t=true):Zk t≤3000:=by
 unfold Z8s at h
 simp only [Bool.and_eq_true,decide_eq_true_eq] at h
 have:=Z0t t 80 3000 h.1.1
 omega
theorem Zhf{e:Edit}(h:Z06 e=true):Z6 e≤3000∧Z4 e 64=true:=by
 simp only [Z06,Bool.and_eq_true,decide_eq_true_eq] at h
 exact ⟨Z9m h.1.1,h.1.2⟩
theorem Zo9{e:Edit}{t:Tree}(hg:Z06 e=true)(he:Ym e)(ht:Zk t≤20000000000)(hr:rng t):(Z6 e≤20000000000∧Ym e∧∃ d,Z4 e d=true)∧Zk t+ctE e≤200000000000∧rng t:=by
 obtain ⟨hm,hx⟩:=Zhf hg
 have hc:=ZaI e
 exact ⟨⟨by omega,he,64,hx⟩,by omega,hr⟩
theorem Zib{r:Bool}{e:Edit}{t:Tree}(hr:∃ d,Z4 e d=true)(ht:Zk t+ctE e≤200000000000):Zk (Z0S (doE r e t))≤1000000000000:=by
 cases h:doE r e t with
 | none=> simp [Z0S,Tree.nil,Zk,Za]
 | some u=> exact Zhn hr ht h
theorem Zia(o:Option Tree):Z0S (o.map Z3)=Z3 (Z0S o):=by cases o;exact Z97.symm;rfl
end Go.AM.Ytpjenobkibfpcaa
namespace Go.AM.Ytpjenobkibfpcaa
open Go.AM Go.Proofs
mutual
theorem Z6a:∀ t:Tree,Zk t≤17592186044416→Z28 t
 | .mk k w ks,h=> by
  simp only [Zk] at h
  have:=ZD ks
  exact ⟨by omega,by omega,Z4v ks (by omega)⟩
theorem Z4v:∀ l:List Tree,Za l≤17592186044416→Z27 l
 | [],_=> trivial
 | t ::r,h=> by
  simp only [Za] at h
  exact ⟨Z6a t (by omega),Z4v r (by omega)⟩
end
theorem Zcb{e:Edit}{t:Tree}(hr:∃ d,Z4 e d=true)(ht:Zk t+ctE e≤200000000000):Zk (Z0S ((doE false e t).map Z3))≤1000000000000:=by
 rw [Zia]
 exact Nat.le_trans (Yi _) (Zib hr ht)
end Go.AM.Ytpjenobkibfpcaa
namespace Go.AM.Ytpjenobkibfpcaa
open Go.AM Go.Proofs
theorem Zhe{e:Edit}(h:Z06 e=true)(g:Ym e):Zx3 e∧Z6 e≤3000∧Z4 e 64=true:=by
 obtain ⟨m,r⟩:=Zhf h
 have hl:Yq e=true:=by
  simp only [Z06,Bool.and_eq_true] at h
  exact h.2
 have:=Znc _ e (Nat.le_refl _) ⟨64,r⟩ hl
 exact ⟨⟨by omega,g,64,r⟩,m,r⟩
end Go.AM.Ytpjenobkibfpcaa
namespace Go.AM.Ytpjenobkibfpcaa
open Go.AM Go.Proofs
theorem Z9F(list d:Int):∀ a b:List Op,Zq list (a++b) d=(Zq list a d && Zq list b d)
 | [],b=> by simp [Zq]
 | o ::r,b=> by rw [List.cons_append,Zq,Zq,Z9F list d r b,Bool.and_assoc]
theorem Zh5:∀ (a b:List Op) (n:Int),Yj (a++b) n=Yj b (Yj a n)
 | [],_,_=> rfl
 | o ::r,b,n=> by rw [List.cons_append,Yj,Yj,Zh5 r b]
theorem Zh4:∀ (a b:List Op) (n:Int),Jk (a++b) n=Jk b (Jk a n)
 | [],_,_=> rfl
 | o ::r,b,n=> by rw [List.cons_append,Jk,Jk,Zh4 r b]
theorem Z7q(list d:Int){n:Int}(h0:0≤n)(h1:n≤1048576):Zq list (YY n) d=true:=by
 unfold YY
 split
 ·try rfl
 ·rw [Zq,Zq,Z7,if_pos rfl,Bool.and_true,decide_eq_true (by simp;omega)];decide
theorem Ze0{n c:Int}(h0:0≤n)(h:c≤1048576):Yj (YY n) c=min (c+n) 1048576:=by
 unfold YY
 split
 ·simp only [Yj];omega
 ·simp only [Yj,Z0,if_neg (show ¬(0:Int)=2 by decide),if_neg (show ¬(0:Int)=3 by decide),List.length_nil]
  omega
theorem ZdZ{n c:Int}(h0:0≤n)(h:c≤1048576):Jk (YY n) c=min (c+n) 1048576:=by
 unfold YY
 split
 ·simp only [Jk];omega
 ·simp only [Jk,Z0,if_neg (show ¬(0:Int)=1 by decide),if_neg (show ¬(0:Int)=3 by decide),List.length_nil]
  omega
end Go.AM.Ytpjenobkibfpcaa
namespace Go.AM.Ytpjenobkibfpcaa
open Go.AM Go.Proofs
theorem Z5Q(n:Int):(YY n).length≤1:=by unfold YY;split <;> simp
end Go.AM.Ytpjenobkibfpcaa
namespace Go.AM.Ytpjenobkibfpcaa
open Go.AM Go.Proofs
theorem Zcc(n:Int):Zc (YY n)≤3:=by
 unfold YY
 split
 ·simp [Zc]
 ·simp only [Zc,Zn,Za,ZdW];omega
theorem Z7o:Ym Edit.nil:=by simp [Edit.nil,Ym,Tree.nil,rng,Y7,Z0k,JC,isI]
theorem Z8N:∀ {l:List Op},(∀ o∈l,Yb o)→JC l
 | [],_=> trivial
 | o ::r,h=> ⟨h o List.mem_cons_self,Z8N fun x hx=> h x (List.mem_cons_of_mem _ hx)⟩
theorem Zdp{n:Int}(h:isI n):∀ o∈YY n,Yb o:=by
 unfold YY
 split
 ·simp
 ·intro o ho
  simp only [List.mem_singleton] at ho
  subst ho
  exact ⟨by unfold isI;omega,h,trivial,Z7o⟩
end Go.AM.Ytpjenobkibfpcaa
namespace Go.AM.Ytpjenobkibfpcaa
open Go.AM Go.Proofs
theorem Z3S:Z4 Edit.nil 64=true:=Z4x (by rfl) 64 (by decide)
end Go.AM.Ytpjenobkibfpcaa
namespace Go.AM.Ytpjenobkibfpcaa
open Go.AM Go.Proofs
theorem Z7k:∀ (a b:List Edit) (t:Tree),YP (a++b) t=(YP a t).bind (YP b)
 | [],b,t=> rfl
 | e ::r,b,t=> by
  rw [List.cons_append,YP,YP]
  cases doE false e t with
  | none=> rfl
  | some v=> exact Z7k r b v
theorem Z91{e:Edit}(h:e.kind≠0):Zp e≠[]:=by
 rw [JT,if_neg h]
 split
 ·exact List.cons_ne_nil _ _
 ·intro h;rename_i h2;rw [h] at h2;exact h2 rfl
theorem Zs5(w:WEdit)(t:Tree):doE false (Z0P w) t=if t.kind=1 then (wsD t.words [w] t.words).map fun a=> .mk 1 a t.kids else none:=by
 unfold Z0P
 rw [Ztq]
 simp only [JX,Option.map_some]
 split
 ·cases wsD t.words [w] t.words <;> rfl
 ·try rfl
theorem Zps(a:Int)(x:Edit)(t:Tree):doE false (Z6U a x) t=if t.kind=1 then (doE false x (t.kids.getD a.toNat Tree.nil)).map fun u=> .mk 1 t.words (ZW Tree.nil t.kids a.toNat u) else none:=by
 unfold Z6U
 rw [Ztq]
 simp only [wsD,JX,Z8x,Option.bind_some]
 split
 ·cases doE false x (t.kids.getD a.toNat Tree.nil) <;> rfl
 ·try rfl
theorem Zdm{tw:List Int}{ks:List Tree}:∀ {ws:List WEdit} {last:Int} {out:List Int},-1≤last→ZI last ws=true→(∀ j:Nat,last < j→out.getD j 0=tw.getD j 0)→
  YP (ws.map Z0P) (.mk 1 out ks)=(wsD tw ws out).map fun a=> .mk 1 a ks
 | [],last,out,_,_,_=> by simp only [List.map_nil,YP,wsD,Option.map_some]
 | w ::r,last,out,hl,h,ho=> by
  have h1:last < w.at_∧ZI w.at_ r=true:=by
   simp only [ZI,Bool.and_eq_true,decide_eq_true_eq] at h
   exact ⟨h.1.1.1.1,h.2⟩
  have e:out.getD w.at_.toNat 0=tw.getD w.at_.toNat 0:=ho _ (by omega)
  rw [List.map_cons,YP,Zs5,if_pos (by rfl)]
  simp only [Tree.words_mk,Tree.kids_mk,wsD,e]
  split
  ·simp only [Option.map_some,Option.bind_some]
   refine Zdm (by omega) h1.2 fun j hj=> ?_
   rw [Ja,if_neg (by omega)]
   exact ho j (by omega)
  ·try rfl
theorem Zey(l:List Tree)(i:Nat)(x y:Tree):ZW Tree.nil (ZW Tree.nil l i x) i y=ZW Tree.nil l i y:=by
 have h:(ZW Tree.nil l i x).length=max l.length (i+1):=Z2Y _ _ _ _
 unfold ZW at*
 rw [h,show i+1 - max l.length (i+1)=0 by omega,List.replicate_zero,List.append_nil,List.set_set]
theorem Zjn{ws:List Int}{a:Int}:∀ {l:List Edit} {ks:List Tree},l≠[]→YP (l.map (Z6U a)) (.mk 1 ws ks)=(YP l (ks.getD a.toNat Tree.nil)).map fun u=> .mk 1 ws (ZW Tree.nil ks a.toNat u)
 | [],ks,h=> absurd rfl h
 | [x],ks,_=> by
  simp only [List.map_cons,List.map_nil,YP]
  rw [Zps,if_pos (by rfl)]
  simp only [Tree.words_mk,Tree.kids_mk]
  cases doE false x (ks.getD a.toNat Tree.nil) <;> rfl
 | x ::y ::r,ks,_=> by
  rw [List.map_cons,YP,Zps,if_pos (by rfl),YP]
  simp only [Tree.words_mk,Tree.kids_mk]
  cases doE false x (ks.getD a.toNat Tree.nil) with
  | none=> rfl
  | some u=>
   simp only [Option.map_some,Option.bind_some]
   rw [Zjn (List.cons_ne_nil _ _),Ja,if_pos rfl]
   simp only [Zey]
theorem Zg4{tk:List Tree}{ws:List Int}{d:Int}:∀ {ks:List Kid} {last:Int} {a b:List Tree},(∀ k∈ks,OptR Eqv (YP (Zp k.e) (tk.getD k.at_.toNat Tree.nil)) (doE false k.e (tk.getD k.at_.toNat Tree.nil)))→-1≤last→Zu last ks d=true→EqvL a b→(∀ j:Nat,last < j→a.getD j Tree.nil=tk.getD j Tree.nil)→
  OptR Eqv (YP (ZS ks) (.mk 1 ws a)) ((JX false tk ks b).map fun b=> .mk 1 ws b)
 | [],last,a,b,_,_,_,he,_=> by
  rw [ZS,YP,JX]
  exact Z4Q 1 ws he
 | k ::r,last,a,b,ih,hl,h,he,ho=> by
  obtain ⟨h1,h2,h3⟩:=Z3R h
  have hk0:k.e.kind≠0:=by
   rw [Zu,Z2J] at h
   simp only [Bool.and_eq_true,decide_eq_true_eq] at h
   exact h.1.1.2.2
  rw [ZS,Z2L,Z7k,Zjn (Z91 hk0),ho _ (by omega),JX,Z8x]
  have i1:=ih k List.mem_cons_self
  generalize YP (Zp k.e) (tk.getD k.at_.toNat Tree.nil)=A at i1 ⊢
  generalize doE false k.e (tk.getD k.at_.toNat Tree.nil)=B at i1 ⊢
  cases A with
  | none=> cases B with
   | none=> exact trivial
   | some y=> exact absurd i1 id
  | some x=> cases B with
   | none=> exact absurd i1 id
   | some y=>
    simp only [Option.map_some,Option.bind_some]
    refine Zg4 (fun x hx=> ih x (List.mem_cons_of_mem _ hx)) (by omega) h3 (ZdO he i1) fun j hj=> ?_
    rw [Ja,if_neg (by omega)]
    exact ho j (by omega)
noncomputable def Z0X(os:List Op)(s:List Tree):Option (List Tree):=Z1H (ZB false os s [])
theorem Z07:∀ (os:List Op) (s out:List Tree),ZB false os s out=(ZB false os s []).map fun x=> (out++x.1,x.2)
 | [],s,out=> by simp [ZB]
 | o ::r,s,out=> by
  rw [ZB,ZB,ZT,ZT]
  by_cases h0:o.kind=0
  ·rw [if_pos h0,if_pos h0]
   split
   ·simp only [Option.bind_some]
    rw [Z07 r,Z07 r _ ([]++_)]
    cases ZB false r (s.drop o.n.toNat) [] <;> simp
   ·try rfl
  ·rw [if_neg h0,if_neg h0]
   by_cases h1:o.kind=1
   ·rw [if_pos h1,if_pos h1]
    split
    ·simp only [Option.bind_some]
     rw [Z07 r]
    ·try rfl
   ·rw [if_neg h1,if_neg h1]
    by_cases h2:o.kind=2
    ·rw [if_pos h2,if_pos h2]
     simp only [Option.bind_some]
     rw [Z07 r,Z07 r _ ([]++_)]
     cases ZB false r s [] <;> simp
    ·rw [if_neg h2,if_neg h2]
     split
     ·try rfl
     ·cases doE false o.e (s.getD 0 Tree.nil) with
      | none=> rfl
      | some u=>
       simp only [Option.map_some,Option.bind_some]
       rw [Z07 r,Z07 r _ ([]++_)]
       cases ZB false r (s.drop 1) [] <;> simp
theorem Zfo(x:Option (List Tree × List Tree))(out:List Tree):Z1H (x.map fun x=> (out++x.1,x.2))=(Z1H x).map (out++·):=by
 cases x with
 | none=> rfl
 | some x=>
  simp only [Z1H,Option.map_some,Option.bind_some]
  split <;> rfl
theorem Zg8(s:List Tree):Z0X [] s=if s.length=0 then some [] else none:=by unfold Z0X;rw [ZB];try rfl
theorem Znu{o:Op}(h:o.kind=0)(r:List Op)(s:List Tree):Z0X (o ::r) s=if o.n.toNat≤s.length then (Z0X r (s.drop o.n.toNat)).map (s.take o.n.toNat++·) else none:=by
 unfold Z0X
 rw [ZB,ZT,if_pos h]
 split
 ·simp only [Option.bind_some]
  rw [Z07,Zfo];try rfl
 ·try rfl
theorem ZhS{o:Op}(h:o.kind=1)(r:List Op)(s:List Tree):Z0X (o ::r) s=if Jc o.l s=true then Z0X r (s.drop o.l.length) else none:=by
 unfold Z0X
 rw [ZB,ZT,if_neg (by omega),if_pos h]
 split
 ·try rfl
 ·try rfl
theorem ZhR{o:Op}(h:o.kind=2)(r:List Op)(s:List Tree):Z0X (o ::r) s=(Z0X r s).map (o.l++·):=by
 unfold Z0X
 rw [ZB,ZT,if_neg (by omega),if_neg (by omega),if_pos h]
 simp only [Option.bind_some]
 rw [Z07,Zfo];try rfl
theorem ZhQ{o:Op}(h:o.kind=3)(r:List Op)(s:List Tree):Z0X (o ::r) s=if s.length=0 then none else (doE false o.e (s.getD 0 Tree.nil)).bind fun u=> (Z0X r (s.drop 1)).map (u ::·):=by
 unfold Z0X
 rw [ZB,ZT,if_neg (by omega),if_neg (by omega),if_neg (by omega)]
 split
 ·try rfl
 ·cases doE false o.e (s.getD 0 Tree.nil) with
  | none=> rfl
  | some u=>
   simp only [Option.map_some,Option.bind_some]
   rw [Z07,Zfo];try rfl
theorem Zbs{n:Int}(h:0≤n)(r:List Op)(s:List Tree):Z0X (YY n++r) s=if n≤s.length then (Z0X r (s.drop n.toNat)).map (s.take n.toNat++·) else none:=by
 unfold YY
 by_cases h0:n=0
 ·subst h0
  rw [if_pos rfl,if_pos (by omega)]
  simp
 ·rw [if_neg h0,List.singleton_append,Znu rfl]
  dsimp only
  by_cases h1:n≤s.length
  ·rw [if_pos h1,if_pos (by omega)]
  ·rw [if_neg h1,if_neg (by omega)]
theorem Z1Q{n:Int}(h:0≤n)(s:List Tree):Z0X (YY n) s=if n=s.length then some s else none:=by
 have:=Zbs h [] s
 rw [List.append_nil] at this
 rw [this,Zg8]
 by_cases h1:n≤s.length
 ·rw [if_pos h1]
  by_cases h2:n=s.length
  ·rw [if_pos h2,if_pos (by rw [List.length_drop];omega),List.take_of_length_le (by omega)];simp
  ·rw [if_neg h2,if_neg (by rw [List.length_drop];omega)];try rfl
 ·rw [if_neg h1,if_neg (by omega)]
theorem Zfq{l a b:Int}{o:Op}(ha:0≤a)(t:Tree):doE false (Z0O l a o b) t=if t.kind=l∧a≤t.kids.length then (Z0X (o ::YY b) (t.kids.drop a.toNat)).map fun x=> .mk l [] (t.kids.take a.toNat++x) else none:=by
 unfold Z0O
 rw [Zxj]
 change (if t.kind=l then (Z0X ((YY a++[o])++YY b) t.kids).map _ else none)=_
 by_cases h1:t.kind=l
 ·rw [if_pos h1,List.append_assoc,Zbs ha]
  by_cases h2:a≤t.kids.length
  ·rw [if_pos h2,if_pos ⟨h1,h2⟩,List.singleton_append,Option.map_map];try rfl
  ·rw [if_neg h2,if_neg (fun h=> h2 h.2)];try rfl
 ·rw [if_neg h1,if_neg (fun h=> h1 h.1)]
theorem Zjm{l a b:Int}(ha:0≤a)(hb:0≤b):∀ {xs:List Edit} {done s:List Tree} {y:Tree},xs≠[]→(done.length:Int)=a→(s.length:Int)=b→
  YP (xs.map fun x=> Z0O l a ⟨3,0,[],x⟩ b) (.mk l [] (done++y ::s))=(YP xs y).map fun u=> .mk l [] (done++u ::s)
 | [],_,_,_,h,_,_=> absurd rfl h
 | x ::r,done,s,y,_,h1,h2=> by
  have hd:doE false (Z0O l a ⟨3,0,[],x⟩ b) (.mk l [] (done++y ::s))=(doE false x y).map fun u=> .mk l [] (done++u ::s):=by
   rw [Zfq ha,if_pos ⟨rfl,by rw [Tree.kids_mk,List.length_append];omega⟩,Tree.kids_mk,show a.toNat=done.length by omega,List.drop_left,List.take_left,ZhQ rfl,if_neg (by simp)]
   simp only [List.getD_cons_zero,List.drop_succ_cons,List.drop_zero]
   rw [Z1Q hb,if_pos h2.symm]
   cases doE false x y <;> rfl
  rw [List.map_cons,YP,hd,YP]
  cases hx:doE false x y with
  | none=> rfl
  | some u=>
   simp only [Option.map_some,Option.bind_some]
   cases r with
   | nil=> rfl
   | cons x2 r=> exact Zjm ha hb (List.cons_ne_nil _ _) h1 h2
theorem Zcl{l a b:Int}{o:Op}{t:Tree}{D:Int}(ho:Z7 l o D=true∨(o.kind=3))(hk:o.kind≠0)(ha:0≤a)(hb:0≤b)(h:t.kind≠l∨(t.kids.length:Int)≠a+b+(if o.kind=2 then 0 else Z0 o)):doE false (Z0O l a o b) t=none:=by
 rw [Zfq ha]
 by_cases h1:t.kind=l∧a≤t.kids.length
 ·rw [if_pos h1]
  have hl:=h.resolve_left (fun x=> x h1.1)
  have hd:((t.kids.drop a.toNat).length:Int)=t.kids.length - a:=by rw [List.length_drop];omega
  have:Z0X (o ::YY b) (t.kids.drop a.toNat)=none:=by
   by_cases k1:o.kind=1
   ·rw [ZhS k1]
    split
    ·rename_i hg
     have hg:=((Z26 _ _).1 hg).1
     have ho:Z0 o=o.l.length:=by
      rcases ho with ho | ho
      ·exact Yz (Yh ho) (.inl k1)
      ·omega
     rw [if_neg (by omega),ho] at hl
     rw [Z1Q hb,if_neg]
     rw [List.length_drop];omega
    ·try rfl
   ·by_cases k2:o.kind=2
    ·rw [if_pos k2] at hl
     rw [ZhR k2,Z1Q hb,if_neg (by omega)];try rfl
    ·have k3:o.kind=3:=by
      rcases ho with ho | ho
      ·have:=Zx ho
       cases this <;> first | rfl | (exfalso;first | exact hk rfl | exact k1 rfl | exact k2 rfl)
      ·exact ho
     rw [if_neg k2,show Z0 o=1 by unfold Z0;rw [if_pos k3]] at hl
     rw [ZhQ k3]
     split
     ·try rfl
     ·rw [Z1Q hb,if_neg (by rw [List.length_drop];omega)]
      cases doE false o.e ((t.kids.drop a.toNat).getD 0 Tree.nil) <;> rfl
  rw [this];try rfl
 ·rw [if_neg h1]
theorem Z7x{l d:Int}:∀ {os:List Op} {a b:Int} {t:Tree},(∀ o∈os,Z7 l o d=true)→0≤a→Y3 os=b→(t.kind≠l∨(t.kids.length:Int)≠a+b)→ZE l os a b≠[]→YP (ZE l os a b) t=none
 | [],a,b,t,_,_,_,_,h=> absurd rfl h
 | o ::r,a,b,t,ho,ha,hb,ht,h=> by
  have h1:=ho o List.mem_cons_self
  have hr:∀ o∈r,Z7 l o d=true:=fun x hx=> ho x (List.mem_cons_of_mem _ hx)
  have hs:=(Yr r 0 (fun x hx=> ZN (Yt (hr x hx))) (by omega) (by omega)).2
  have hl:=ZN (Yt h1)
  rw [Y3] at hb
  rw [ZE] at h ⊢
  rw [Z2j] at h ⊢
  by_cases k0:o.kind=0
  ·rw [if_pos k0,if_neg (by omega),if_neg (by omega),List.nil_append] at h ⊢
   rw [if_neg (by omega)] at hb
   exact Z7x hr (by omega) (by omega) (ht.imp_right fun x=> by omega) h
  ·rw [if_neg k0] at h ⊢
   by_cases k1:o.kind=1
   ·rw [if_pos k1,List.singleton_append,YP,Zcl (.inl h1) k0 ha]
    ·try rfl
    ·rw [if_neg (by omega),Yz (Yh h1) (.inl k1)] at hb;omega
    ·rw [if_neg (by omega),Yz (Yh h1) (.inl k1)]
     exact ht.imp_right fun x=> by omega
   ·rw [if_neg k1] at h ⊢
    by_cases k2:o.kind=2
    ·rw [if_pos k2,List.singleton_append,YP,Zcl (.inl h1) k0 ha]
     ·try rfl
     ·rw [if_pos k2] at hb;omega
     ·rw [if_pos k2]
      exact ht.imp_right fun x=> by omega
    ·rw [if_neg k2]
     have k3:o.kind=3∧o.e.kind≠0:=by
      have:=Zx h1
      cases this with
      | keep=> exact absurd rfl k0
      | gone=> exact absurd rfl k1
      | come=> exact absurd rfl k2
      | into e _ he=> exact ⟨rfl,he⟩
     have ol:Z0 o=1:=by unfold Z0;rw [if_pos k3.1]
     have hne:=Z91 k3.2
     obtain ⟨x,xs,hx⟩:=List.exists_cons_of_ne_nil hne
     rw [hx,List.map_cons,List.cons_append,YP,Zcl (D:=d) (.inr rfl) (show ¬(3:Int)=0 by decide) ha]
     ·try rfl
     ·rw [if_neg k2,ol] at hb;omega
     ·rw [if_neg (show ¬(3:Int)=2 by decide),show Z0 ⟨3,0,[],x⟩=1 from rfl]
      exact ht.imp_right fun x=> by omega
theorem Zf0{A B C:Option Tree}(h:OptR Eqv A B)(e:B=C):OptR Eqv A C:=e▸h
theorem Z7j{l d:Int}:∀ {os:List Op} {a b:Int} {done done' s:List Tree},(∀ o∈os,Z7 l o d=true)→(∀ o∈os,∀ y∈s,OptR Eqv (YP (Zp o.e) y) (doE false o.e y))→(done.length:Int)=a→(s.length:Int)=b→Y3 os=b→EqvL done done'→
  OptR Eqv (YP (ZE l os a b) (.mk l [] (done++s))) ((Z0X os s).map fun x=> .mk l [] (done'++x))
 | [],a,b,done,done',s,_,_,ha,hb,hs,he=> by
  rw [Y3] at hs
  have:s=[]:=List.eq_nil_of_length_eq_zero (by omega)
  subst this
  rw [ZE,YP,Zg8,if_pos (by rfl)]
  simp only [Option.map_some,List.append_nil]
  exact Z4Q l [] he
 | o ::r,a,b,done,done',s,ho,ih,ha,hb,hs,he=> by
  have h1:=ho o List.mem_cons_self
  have hr:∀ o∈r,Z7 l o d=true:=fun x hx=> ho x (List.mem_cons_of_mem _ hx)
  have hsr:=(Yr r 0 (fun x hx=> ZN (Yt (hr x hx))) (by omega) (by omega)).2
  have hl:=ZN (Yt h1)
  rw [Y3] at hs
  rw [ZE,Z2j]
  have hin:∀ m:Nat,∀ o∈r,∀ y∈s.drop m,OptR Eqv (YP (Zp o.e) y) (doE false o.e y):=fun m o ho y hy=> ih o (List.mem_cons_of_mem _ ho) y (List.mem_of_mem_drop hy)
  by_cases k0:o.kind=0
  ·have ol:=Z7C (Yh h1) k0
   rw [if_neg (by omega),ol] at hs
   rw [if_pos k0,if_neg (by omega),if_neg (by omega),List.nil_append,Znu k0,if_pos (by omega),ol]
   have hn:0≤o.n:=by omega
   have:=Z7j (l:=l) (d:=d) (os:=r) (a:=a+o.n) (b:=b - o.n) (done:=done++s.take o.n.toNat) (done':=done'++s.take o.n.toNat) (s:=s.drop o.n.toNat) hr (hin _) (by rw [List.length_append,List.length_take];omega) (by rw [List.length_drop];omega) (by omega) (JU he rfl)
   rw [List.append_assoc,List.take_append_drop] at this
   rw [Option.map_map]
   refine Zf0 this ?_
   cases Z0X r (s.drop o.n.toNat) <;> simp
  ·rw [if_neg k0]
   by_cases k1:o.kind=1
   ·have ol:=Yz (Yh h1) (.inl k1)
    rw [if_neg (by omega),ol] at hs
    rw [if_pos k1,if_pos k1,if_neg (by omega),List.singleton_append,YP,Zfq (by omega),if_pos ⟨rfl,by rw [Tree.kids_mk,List.length_append];omega⟩,Tree.kids_mk,show a.toNat=done.length by omega,List.drop_left,List.take_left,ZhS k1,ZhS k1,ol]
    by_cases hg:Jc o.l s=true
    ·rw [if_pos hg,if_pos hg,Z1Q (by omega),if_pos (by rw [List.length_drop];omega)]
     simp only [Option.map_some,Option.bind_some]
     exact Z7j hr (hin _) ha (by rw [List.length_drop];omega) (by omega) he
    ·rw [if_neg hg,if_neg hg];exact trivial
   ·rw [if_neg k1,if_neg k1]
    by_cases k2:o.kind=2
    ·have ol:=Yz (Yh h1) (.inr k2)
     rw [if_pos k2] at hs
     rw [if_pos k2,if_pos k2,List.singleton_append,YP,Zfq (by omega),if_pos ⟨rfl,by rw [Tree.kids_mk,List.length_append];omega⟩,Tree.kids_mk,show a.toNat=done.length by omega,List.drop_left,List.take_left,ZhR k2,ZhR k2,ol,Z1Q (by omega),if_pos (by omega)]
     simp only [Option.map_some,Option.bind_some]
     have:=Z7j (l:=l) (d:=d) (os:=r) (a:=a+o.l.length) (b:=b) (done:=done++o.l) (done':=done'++o.l) (s:=s) hr (hin 0) (by rw [List.length_append];omega) hb (by omega) (JU he rfl)
     rw [List.append_assoc] at this
     rw [Option.map_map]
     refine Zf0 this ?_
     cases Z0X r s <;> simp
    ·have k3:o.kind=3∧o.e.kind≠0:=by
      have:=Zx h1
      cases this with
      | keep=> exact absurd rfl k0
      | gone=> exact absurd rfl k1
      | come=> exact absurd rfl k2
      | into e _ he=> exact ⟨rfl,he⟩
     have ol:Z0 o=1:=by unfold Z0;rw [if_pos k3.1]
     rw [if_neg k2,ol] at hs
     rw [if_neg k2,if_neg k2,ol,Z7k]
     cases s with
     | nil=> exfalso;simp at hb;omega
     | cons y s=>
      rw [List.length_cons] at hb
      rw [Zjm (by omega) (by omega) (Z91 k3.2) ha (by omega),ZhQ k3.1,if_neg (by simp)]
      simp only [List.getD_cons_zero,List.drop_succ_cons,List.drop_zero]
      have i1:=ih o List.mem_cons_self y List.mem_cons_self
      generalize YP (Zp o.e) y=A at i1 ⊢
      generalize doE false o.e y=B at i1 ⊢
      cases A with
      | none=> cases B with
       | none=> exact trivial
       | some y=> exact absurd i1 id
      | some u=> cases B with
       | none=> exact absurd i1 id
       | some v=>
        simp only [Option.map_some,Option.bind_some]
        have:=Z7j (l:=l) (d:=d) (os:=r) (a:=a+1) (b:=b - 1) (done:=done++[u]) (done':=done'++[v]) (s:=s) hr (fun o ho y hy=> ih o (List.mem_cons_of_mem _ ho) y (List.mem_cons_of_mem _ hy)) (by simp;omega) (by omega) (by omega) (JU he (Z5I.2 i1))
        rw [List.append_assoc,List.singleton_append] at this
        rw [Option.map_map]
        refine Zf0 this ?_
        cases Z0X r s <;> simp
theorem ZlK(x:Option Tree):OptR Eqv x x:=by
 cases x with
 | none=> exact trivial
 | some t=> exact (rfl:Z3 t=Z3 t)
theorem Zns{t:Tree}(ht:t.kind≠1):∀ {l:List Edit},l≠[]→(∀ x∈l,x.kind=2)→YP l t=none
 | [],h,_=> absurd rfl h
 | x ::r,_,h=> by rw [YP,Zv4 (h x List.mem_cons_self),if_neg ht];try rfl
theorem Z40:∀ {ks:List Kid},∀ x∈ZS ks,x.kind=2
 | [],x,h=> by rw [ZS] at h;cases h
 | k ::r,x,h=> by
  rw [ZS,Z2L,List.mem_append,List.mem_map] at h
  rcases h with ⟨y,_,rfl⟩ | h
  ·try rfl
  ·exact Z40 x h
theorem ZbQ:∀ (n:Nat) (e:Edit) (d:Int) (t:Tree),Z6 e≤n→Z4 e d=true→OptR Eqv (YP (Zp e) t) (doE false e t)
 | 0,e,d,t,hn,_=> by
  have:3≤Z6 e:=Z0p e
  omega
 | n+1,e,d,t,hn,hr=> by
  have ra:=Zw hr
  rw [JT]
  by_cases k0:e.kind=0
  ·rw [if_pos k0,Zxk k0,YP]
   exact (rfl:Z3 t=Z3 t)
  ·rw [if_neg k0]
   by_cases hz:(Yp e).length=0
   ·rw [if_pos hz,YP]
    have:(doE false e t).bind (YP [])=doE false e t:=by cases doE false e t <;> rfl
    rw [this]
    exact ZlK _
   ·rw [if_neg hz]
    have hne:Yp e≠[]:=fun h=> hz (by rw [h];rfl)
    by_cases k2:e.kind=2
    ·have hp:Yp e=e.words.map Z0P++ZS e.kids:=by unfold Yp;rw [if_pos k2]
     rw [Zv4 k2]
     by_cases ht:t.kind=1
     ·rw [if_pos ht,hp,Z7k]
      obtain ⟨k,w,ks⟩:=t
      have ht:k=1:=ht
      subst ht
      rw [Zdm (tw:=w) (last:= -1) (by omega) ra.words (fun _ _=> rfl)]
      simp only [Tree.words_mk,Tree.kids_mk]
      cases wsD w e.words w with
      | none=> exact trivial
      | some a=>
       simp only [Option.map_some,Option.bind_some]
       refine Zg4 (last:= -1) (fun k hk=> ?_) (by omega) ra.kids rfl fun _ _=> rfl
       have h1:=J9 hk
       exact ZbQ n k.e (d - 1) _ (by omega) ((Z5z hr).1 k hk).1
     ·rw [if_neg ht,Zns ht hne]
      ·exact trivial
      ·rw [hp]
       intro x hx
       rcases List.mem_append.1 hx with hx | hx
       ·obtain ⟨w,_,rfl⟩:=List.mem_map.1 hx
        try rfl
       ·exact Z40 x hx
    ·by_cases k3:e.kind=3
     ·have hp:Yp e=ZE e.list e.ops 0 (Yj e.ops 0):=by unfold Yp;rw [if_neg k2,if_pos k3]
      have hops:∀ o∈e.ops,Z7 e.list o (d - 1)=true:=YF.1 ra.ops
      have hs:=Yr e.ops 0 (fun o ho=> ZN (Yt (hops o ho))) (by omega) (by omega)
      have hlen:=ra.len
      have hA:Yj e.ops 0=Y3 e.ops:=by omega
      rw [hA] at hp
      rw [hp] at hne ⊢
      rw [Zs6 k3]
      change OptR Eqv _ (if t.kind=e.list then (Z0X e.ops t.kids).map _ else none)
      by_cases ht:t.kind≠e.list∨(t.kids.length:Int)≠0+Y3 e.ops
      ·rw [Z7x hops (by omega) rfl ht hne]
       split
       ·have:Z0X e.ops t.kids=none:=by
         cases hx:Z0X e.ops t.kids with
         | none=> rfl
         | some x=>
          have:=(Zjq ((Zki (fun o ho=> Ze2 (hops o ho))).1 hx) (JE hr)).1
          rcases ht with ht | ht
          ·exact absurd ‹t.kind=e.list› ht
          ·omega
        rw [this];exact trivial
       ·exact trivial
      ·have ht1:t.kind=e.list:=Classical.byContradiction fun x=> ht (.inl x)
       have ht2:(t.kids.length:Int)=0+Y3 e.ops:=Classical.byContradiction fun x=> ht (.inr x)
       rw [if_pos ht1]
       have hw:YP (ZE e.list e.ops 0 (Y3 e.ops)) t=YP (ZE e.list e.ops 0 (Y3 e.ops)) (.mk e.list [] ([]++t.kids)):=by
        obtain ⟨x,xs,hx⟩:=List.exists_cons_of_ne_nil hne
        have hk:x.kind=3:=partsOs_kind x (by rw [hx];exact List.mem_cons_self)
        rw [hx,YP,YP,Zs6 hk,Zs6 hk,List.nil_append,ht1]
        try rfl
       rw [hw]
       refine Z7j (done:=[]) (done':=[]) hops (fun o ho y _=> ?_) rfl (by omega) rfl rfl
       by_cases h0:o.e.kind=0
       ·rw [JT,if_pos h0,YP,Zxk h0]
        exact (rfl:Z3 y=Z3 y)
       ·have h1:=JK ho
        obtain ⟨d',h2⟩:=right_in hr ho
        exact ZbQ n o.e d' y (by omega) h2
     ·exact absurd (by unfold Yp;rw [if_neg k2,if_neg k3];rfl) hz
where
 partsOs_kind {l:Int}:∀ {os:List Op} {a b:Int},∀ x∈ZE l os a b,x.kind=3
  | [],a,b,x,h=> by rw [ZE] at h;cases h
  | o ::r,a,b,x,h=> by
   rw [ZE,List.mem_append,Z2j] at h
   rcases h with h | h
   ·split at h
    ·cases h
    ·split at h
     ·rw [List.mem_singleton] at h;subst h;rfl
     ·split at h
      ·rw [List.mem_singleton] at h;subst h;rfl
      ·obtain ⟨y,_,rfl⟩:=List.mem_map.1 h
       try rfl
   ·exact partsOs_kind x h
 right_in {e:Edit} {d:Int} (h:Z4 e d=true) {o:Op} (hm:o∈e.ops):∃ d',Z4 o.e d'=true:=by
  have:=Zx (YF.1 (Zw h).ops o hm)
  cases this with
  | keep=> exact ⟨64,Z3S⟩
  | gone=> exact ⟨64,Z3S⟩
  | come=> exact ⟨64,Z3S⟩
  | into e he=> exact ⟨_,he⟩
end Go.AM.Ytpjenobkibfpcaa
