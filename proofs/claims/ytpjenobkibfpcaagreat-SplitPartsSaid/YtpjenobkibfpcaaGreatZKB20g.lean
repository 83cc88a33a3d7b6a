import Derived.Test.YtpjenobkibfpcaaGreatZCG25a
import Derived.Test.YtpjenobkibfpcaaGreatZCL25j
import Derived.Test.YtpjenobkibfpcaaGreatZKB20e
import Derived.Test.YtpjenobkibfpcaaGreatZKG22a
set_option linter.unusedSimpArgs false
set_option linter.unusedVariables false
namespace Go.AM.YtpjenobkibfpcaaGreat
open Go.AM Go.Proofs
noncomputable section
def Z2G:ArgL (Edit × Edit × Unit):=(.cons (aEl .edit) (.cons (aEl .edit) .nil))
def Z2a(a:Edit × Edit × Unit):Prop:=Z1f a.1∧Z1f a.2.1
def Z7R(a:Edit × Edit × Unit):Nat:=8*(Z9 a.1+Z9 a.2.1)
def Z3d(a:Edit × Edit × Unit):V U:= .tup [(true,(enc .edit ((Yt a.1 a.2.1).1))),(false,[.bool ((Yt a.1 a.2.1).2)])]
def Z6P:Fs U:=fs Z2G (fun a=> [Z2a a]) Z3d
def Z2F:ArgL (List Kid × List Kid × Unit):=(.cons (aSl .kid) (.cons (aSl .kid) .nil))
def Z4a(a:List Kid × List Kid × Unit):Prop:=Zcy a.1∧Zcy a.2.1
def Z9D(a:List Kid × List Kid × Unit):Nat:=8*(Zq a.1+Zq a.2.1)+4
def Z5d(a:List Kid × List Kid × Unit):V U:= .tup [(false,[sU .kid (ofO (Zt KidOf.at_ (Z24 Yt) a.1 a.2.1)) .unk]),(false,[.bool ((Zt KidOf.at_ (Z24 Yt) a.1 a.2.1).isSome)])]
def ZmP:Fs U:=fs Z2F (fun a=> [Z4a a]) Z5d
def Z2D:ArgL (List Kid × List Kid × Unit × Unit × Unit):=(.cons (aSl .kid) (.cons (aSl .kid) (.cons (aFn 207) (.cons (aFn 208) .nil))))
def Z48(a:List Kid × List Kid × Unit × Unit × Unit):Prop:=Zcy a.1∧Zcy a.2.1
def Z9B(a:List Kid × List Kid × Unit × Unit × Unit):Nat:=8*(Zq a.1+Zq a.2.1)+3
def Z3c(a:List Kid × List Kid × Unit × Unit × Unit):V U:= .tup [(false,[sU .kid (ofO (Zt KidOf.at_ (Z24 Yt) a.1 a.2.1)) .unk]),(false,[.bool ((Zt KidOf.at_ (Z24 Yt) a.1 a.2.1).isSome)])]
def ZmL:Fs U:=fs Z2D (fun a=> [Z48 a]) Z3c
def Z2C:ArgL (Kid × Kid × Unit):=(.cons (aEl .kid) (.cons (aEl .kid) .nil))
def Z47(a:Kid × Kid × Unit):Prop:=Zuw a.1∧Zuw a.2.1
def Z9A(a:Kid × Kid × Unit):Nat:=8*(Yd a.1+Yd a.2.1)+1
def Z44(a:Kid × Kid × Unit):V U:= .tup [(true,(enc .kid ((Z24 Yt a.1 a.2.1).1))),(false,[.bool ((Z24 Yt a.1 a.2.1).2)])]
def ZmK:Fs U:=fs Z2C (fun a=> [Z47 a]) Z44
def Z2E:ArgL (List Op × List Op × Unit):=(.cons (aSl .op) (.cons (aSl .op) .nil))
def Z49(a:List Op × List Op × Unit):Prop:=Zq5 a.1∧Zq5 a.2.1
def Z9C(a:List Op × List Op × Unit):Nat:=8*(Zg a.1+Zg a.2.1)+40
def Z27(a:List Op × List Op × Unit):V U:= .tup [(false,[sU .op (ofO (Z2g Yt a.1 a.2.1)) .unk]),(false,[.bool ((Z2g Yt a.1 a.2.1).isSome)])]
def ZmO:Fs U:=fs Z2E (fun a=> [Z49 a]) Z27
def Z2B:ArgL (Piece × Unit):=(.cons (aEl .piece) .nil)
def Z46(a:Piece × Unit):Prop:=PcOk a.1
def Z9z(a:Piece × Unit):Nat:=8*(Zw a.1.p+Zw a.1.q)+1
def Z3b(a:Piece × Unit):V U:= .tup [(true,(enc .op ((Jl Yt a.1).op))),(false,[.bool ((Jl Yt a.1).is)]),(false,[.bool ((Jl Yt a.1).ok)])]
def ZmJ:Fs U:=fs Z2B (fun a=> [Z46 a]) Z3b
def Z2x(N:Nat):List (FuncId × Fs U):=(111,fs Z2G (fun a=> [Z2a a,Z7R a < N]) Z3d) ::(165,fs Z2F (fun a=> [Z4a a,Z9D a < N]) Z5d) ::(206,fs Z2D (fun a=> [Z48 a,Z9B a < N]) Z3c) ::(208,fs Z2C (fun a=> [Z47 a,Z9A a < N]) Z44) ::(166,fs Z2E (fun a=> [Z49 a,Z9C a < N]) Z27) ::(210,fs Z2B (fun a=> [Z46 a,Z9z a < N]) Z3b) ::[(25,Z53),(85,Z51),(114,Jr),(164,Z2n),(207,Z2k),(209,Z2j)]
def Zub:Zj U:=lvl [([2,3,4],[2,3,4]),([2,3,4,15],[2,3,4]),([4,5],[4]),([2,3,4,20],[2,3,4]),([4,5],[4]),([2,3,4,25],[2,3,4]),([2,4,6,7],[2,4,6]),([4,5],[4]),([2,3,4,41],[2,3,4]),([3,4,8,9],[3,4,8]),([4,5],[4]),([2,3,4,58],[2,3,4]),([4,5],[4]),([2,3,4,72],[2,3,4]),([2,3,4,10,11],[2,3,4]),([2,3,4,10,85],[2,3,4]),([4,5],[4]),([4,10,11,12],[4]),([4,5],[4]),([2,4,13,14],[2,4]),([4,5],[4])]
abbrev ZGw(N:Nat)(p:List Nat):=AW (Z0 (Z2x N)) Tryz.f111 Zub p
theorem ZEh(N:Nat)(p q:Edit)(Q:QT)(h:∀ y_1,y_1=p→∀ y_2,y_2=q→∀ y_3,y_3=(p.new)→∀ y_4,y_4=(q.old)→∀ y_5,y_5=(Zv (ZS y_1))→let z3:=Zt KidOf.at_ (Z24 Yt) p.kids q.kids;let z2:=Zt WEdit.at_ JS p.words q.words;let z1:=Q .ret (L2 [(4,.ptr (.loc 4) 0),(5,.c (.bool false))] [(.loc 4,zc1)]);let z0:=p.kind !=q.kind;let z4:=bif z0 then true else (p.list !=q.list);(((p.kind==0)=true→(Q .ret (L2 [(4,.ptr (.loc 4) 0),(5,.c (.bool true))] [(.loc 4,(enc .edit q))])))∧((p.kind==0)=false→(((q.kind==0)=true→(Q .ret (L2 [(4,.ptr (.loc 4) 0),(5,.c (.bool true))] [(.loc 4,(enc .edit p))])))∧((q.kind==0)=false→(((p.kind==1)=true→(ZbX (y_2,y_3,()))∧(Q .ret (L2 [(4,.ptr (.loc 4) 0),(5,.c (.bool ((doE false y_2 y_3).isSome)))] [(.loc 4,([ci 1]++enc .tree p.old++enc .tree (Z3L ((doE false y_2 y_3).map Zd))++[.nils,.nils,ci 0,.nils]))])))∧((p.kind==1)=false→(((q.kind==1)=true→(Zgf (y_1,()))∧(ZbX (y_5,y_4,()))∧(Q .ret (L2 [(4,.ptr (.loc 4) 0),(5,.c (.bool ((doE false y_5 y_4).isSome)))] [(.loc 4,([ci 1]++enc .tree (Z3L ((doE false y_5 y_4).map Zd))++enc .tree q.new++[.nils,.nils,ci 0,.nils]))])))∧((q.kind==1)=false→(Tr ((!z0)=true))∧(Tr ((!z0)=true))∧(Tr ((!z0)=true))∧(Tr ((!z0)=true))∧(z0=false→(!z0)=true)∧((z4=true→z1)∧(z4=false→(((p.kind==2)=true→(ZlF (p.words,q.words,()))∧(((!(z2.isSome))=true→z1)∧((!(z2.isSome))=false→(Z4a (p.kids,q.kids,()))∧(Z9D (p.kids,q.kids,()) < N)∧(Q .ret (L2 [(4,.ptr (.loc 4) 0),(5,.c (.bool (z3.isSome)))] [(.loc 4,[ci 2,ci 0,.nils,.nils,ci 0,.nils,.nils,sU .wedit (ofO z2) .unk,sU .kid (ofO z3) .unk,ci 0,.nils])])))))∧((p.kind==2)=false→(Z49 (p.ops,q.ops,()))∧(Z9C (p.ops,q.ops,()) < N)∧(Q .ret (L2 [(4,.ptr (.loc 4) 0),(5,.c (.bool ((Z2g Yt p.ops q.ops).isSome)))] [(.loc 4,[ci 3,ci 0,.nils,.nils,ci 0,.nils,.nils,.nils,.nils,ci p.list,sU .op (ofO (Z2g Yt p.ops q.ops)) .unk])]))))))))))))))):
  ZGw N [] (L2 [(0,.agg (enc .edit p)),(1,.agg (enc .edit q))] []) Q:=
 Eq.mpr (by kernel_rfl) (h _ (Z6 _) _ (Z6 _) _ (Zm _) _ (Zm _) _ (Z6 _))
def Zzc(N:Nat)(p q:Edit):Prop:=AW (Z0 (Z2x N)) Tryz.f111 Zub [] (Zl (Z2G.can (p,q,())) []) (EQ Tryz.f111 (Z3d (p,q,())) [])
abbrev ZA8:Prop:=∀ (N:Nat) (p:Edit) (q:Edit) (_:Unit),Z2a (p,q,())→Z7R (p,q,()) < N+1→Zzc N p q
def Zow(N:Nat):List (FuncId × Fs U):=(111,fs Z2G (fun a=> [Z2a a,Z7R a < N]) Z3d) ::(165,fs Z2F (fun a=> [Z4a a,Z9D a < N]) Z5d) ::(206,fs Z2D (fun a=> [Z48 a,Z9B a < N]) Z3c) ::(208,fs Z2C (fun a=> [Z47 a,Z9A a < N]) Z44) ::(166,fs Z2E (fun a=> [Z49 a,Z9C a < N]) Z27) ::(210,fs Z2B (fun a=> [Z46 a,Z9z a < N]) Z3b) ::[(25,Z53),(85,Z51),(114,Jr),(164,Z2n),(207,Z2k),(209,Z2j)]
def Zu2:Zj U:=lvl [([0,1],[]),([4,5],[])]
abbrev ZGs(N:Nat)(p:List Nat):=AW (Z0 (Zow N)) Tryz.f165 Zu2 p
theorem ZDS(N:Nat)(p q:List Kid)(Q:QT)(h:let z0:=Zt KidOf.at_ (Z24 Yt) p q;((Z48 (p,q,(),(),()))∧(Z9B (p,q,(),(),()) < N)∧(Q .ret (L2 [(4,.c (sU .kid (ofO z0) .unk)),(5,.c (.bool (z0.isSome)))] [])))):
  ZGs N [] (L2 [(0,.c (sU .kid p .unk)),(1,.c (sU .kid q .unk))] []) Q:=
 Eq.mpr (by kernel_rfl) h
def ZyN(N:Nat)(p q:List Kid):Prop:=AW (Z0 (Zow N)) Tryz.f165 Zu2 [] (Zl (Z2F.can (p,q,())) []) (EQ Tryz.f165 (Z5d (p,q,())) [])
abbrev ZA1:Prop:=∀ (N:Nat) (p:List Kid) (q:List Kid) (_:Unit),Z4a (p,q,())→Z9D (p,q,()) < N+1→ZyN N p q
def ZhW(N:Nat):List (FuncId × Fs U):=(111,fs Z2G (fun a=> [Z2a a,Z7R a < N]) Z3d) ::(165,fs Z2F (fun a=> [Z4a a,Z9D a < N]) Z5d) ::(206,fs Z2D (fun a=> [Z48 a,Z9B a < N]) Z3c) ::(208,fs Z2C (fun a=> [Z47 a,Z9A a < N]) Z44) ::(166,fs Z2E (fun a=> [Z49 a,Z9C a < N]) Z27) ::(210,fs Z2B (fun a=> [Z46 a,Z9z a < N]) Z3b) ::[(25,Z53),(85,Z51),(114,Jr),(164,Z2n),(207,Z2k),(209,Z2j)]
def ZnN:Zj U:=fun i=> match i with
 | 0=> ([(0,[]),(1,[]),(2,[]),(3,[])],[])
 | 1=> ([(0,[]),(1,[]),(2,[]),(3,[]),(10,[.own .kid])],[])
 | 2=> ([(0,[]),(1,[]),(2,[]),(3,[]),(10,[]),(20,[])],[])
 | 3=> ([(0,[]),(1,[]),(2,[]),(3,[]),(10,[]),(11,[]),(12,[])],[(.loc 11,[])])
 | 4=> ([(0,[]),(1,[]),(2,[]),(3,[]),(10,[]),(11,[]),(33,[])],[(.loc 11,[])])
 | 5=> ([(8,[]),(9,[])],[])
 | 6=> ([(0,[]),(1,[]),(2,[]),(3,[]),(10,[.own .kid])],[])
 | 7=> ([(0,[]),(1,[]),(2,[]),(3,[]),(10,[]),(42,[])],[])
 | 8=> ([(0,[]),(1,[]),(2,[]),(3,[]),(10,[.own .kid])],[])
 | 9=> ([(0,[]),(1,[]),(2,[]),(3,[]),(10,[]),(72,[])],[])
 | 10=> ([(0,[]),(1,[]),(2,[]),(3,[]),(10,[.own .kid])],[])
 | 11=> ([(8,[]),(9,[])],[])
 | _=> ([],[])
def Z2T(p q:List Kid)(at_ one:Unit)(x0 x1 x10:List Kid):LSt U:=(L2 [(0,.c (sU .kid x0 .unk)),(1,.c (sU .kid x1 .unk)),(2,.fn 207),(3,.fn 208),(10,.c (sU .kid x10 (.own (.e 10 0))))] [])
abbrev ZCZ(N:Nat)(p:List Nat):=AW (Z0 (ZhW N)) Tryz.f206 ZnN p
abbrev ZFc(N:Nat)(p:List Nat):=SW (Z0 (ZhW N)) Tryz.f206 ZnN p
theorem ZDv(N:Nat)(p q:List Kid)(at_ one:Unit)(Q:QT)(h:(Zf (ZCZ N [1,1,0,0,0]) (Z2T p q at_ one p q []) (xB 0 (ZFc N [1,1,1] Q)))):
  ZCZ N [] (L2 [(0,.c (sU .kid p .unk)),(1,.c (sU .kid q .unk)),(2,.fn 207),(3,.fn 208)] []) Q:=
 Eq.mpr (by kernel_rfl) h
theorem Zrm(N:Nat)(p q:List Kid)(at_ one:Unit)(x0 x1 x10:List Kid)(N0:NT)(Q:QT)(h:∀ y_1,y_1=(List.getD x0 (Int.toNat 0) (KidOf.mk 0 Edit.nil))→∀ y_2,y_2=(List.getD x1 (Int.toNat 0) (KidOf.mk 0 Edit.nil))→∀ y_3,y_3=y_1→∀ y_4,y_4=y_2→∀ y_5,y_5=((Z24 Yt y_3 y_4).1)→let z3:=((x1.length:Int):Int)==0;let z2:=decide ((0:Int) < (x0.length:Int));let z5:=bif z2 then true else (decide ((0:Int) < (x1.length:Int)));let z4:=bif z3 then true else (bif z2 then (decide (y_3.at_ < y_4.at_)) else false);let z1:=((x0.length:Int):Int)==0;let z6:=bif z1 then true else (decide (y_4.at_ < y_3.at_));let z0:=(!z3) && z2;(Tr ((!z2)=true))∧(Tr ((!z2)=true))∧(z2=false→(!z2)=true)∧((z5=true→(Tr ((!z3)=true))∧(Tr ((!z3)=true))∧(Tr ((!z3)=true))∧(Tr (z0=true))∧(z0=true→(0:Int)≤0∧0 < (x0.length:Int))∧(Tr (z0=true))∧(Tr (z0=true))∧(Tr (z0=true))∧(z0=true→ZaR (y_3,()))∧(Tr (z0=true))∧(z0=true→(0:Int)≤0∧0 < (x1.length:Int))∧(Tr (z0=true))∧(Tr (z0=true))∧(Tr (z0=true))∧(z0=true→ZaR (y_4,()))∧(Tr (z0=true))∧(Tr (z0=true))∧((!z3)=true→(True→(!z3)=true))∧((!z3)=true→(z2=true→z0=true))∧(z3=false→(!z3)=true)∧((z4=true→((0:Int)≤0∧0 < (x0.length:Int))∧((x10.length+([y_3]).length)*208≤140737488355328)∧((0:Int)≤1∧1≤(x0.length:Int))∧(N0 (Z2T p q at_ one (List.drop (Int.toNat 1) x0) x1 (x10++([y_3])))))∧(z4=false→(Tr ((!z1)=true))∧((!z1)=true→(0:Int)≤0∧0 < (x1.length:Int))∧(Tr ((!z1)=true))∧(Tr ((!z1)=true))∧(Tr ((!z1)=true))∧((!z1)=true→ZaR (y_4,()))∧(Tr ((!z1)=true))∧((!z1)=true→(0:Int)≤0∧0 < (x0.length:Int))∧(Tr ((!z1)=true))∧(Tr ((!z1)=true))∧(Tr ((!z1)=true))∧((!z1)=true→ZaR (y_3,()))∧(Tr ((!z1)=true))∧(Tr ((!z1)=true))∧(z1=false→(!z1)=true)∧((z6=true→((0:Int)≤0∧0 < (x1.length:Int))∧((x10.length+([y_4]).length)*208≤140737488355328)∧((0:Int)≤1∧1≤(x1.length:Int))∧(N0 (Z2T p q at_ one x0 (List.drop (Int.toNat 1) x1) (x10++([y_4])))))∧(z6=false→((0:Int)≤0∧0 < (x0.length:Int))∧((0:Int)≤0∧0 < (x1.length:Int))∧(Z47 (y_3,y_4,()))∧(Z9A (y_3,y_4,()) < N)∧(((!((Z24 Yt y_3 y_4).2))=true→(Q .ret (L2 [(8,.c (.nils)),(9,.c (.bool false))] [])))∧((!((Z24 Yt y_3 y_4).2))=false→((x10.length+([y_5]).length)*208≤140737488355328)∧((0:Int)≤1∧1≤(x0.length:Int))∧((0:Int)≤1∧1≤(x1.length:Int))∧(N0 (Z2T p q at_ one (List.drop (Int.toNat 1) x0) (List.drop (Int.toNat 1) x1) (x10++([y_5])))))))))))∧(z5=false→(Q .ret (L2 [(8,.c (sU .kid x10 (.own (.e 8 0)))),(9,.c (.bool true))] []))))):
  ZCZ N [1,1,0,0,0] (Z2T p q at_ one x0 x1 x10) (xT N0 (xB 0 (ZFc N [1,1,1] Q))):=
 Eq.mpr (by kernel_rfl) (h _ rfl _ rfl _ (Ze1 _) _ (Ze1 _) _ (Ze1 _))
def Zyq(N:Nat)(p q:List Kid)(at_ one:Unit):Prop:=AW (Z0 (ZhW N)) Tryz.f206 ZnN [] (Zl (Z2D.can (p,q,at_,one,())) []) (EQ Tryz.f206 (Z3c (p,q,at_,one,())) [])
abbrev ZzX:Prop:=∀ (N:Nat) (p:List Kid) (q:List Kid) (at_:Unit) (one:Unit) (_:Unit),Z48 (p,q,at_,one,())→Z9B (p,q,at_,one,()) < N+1→Zyq N p q at_ one
def Zoi(N:Nat):List (FuncId × Fs U):=(111,fs Z2G (fun a=> [Z2a a,Z7R a < N]) Z3d) ::(165,fs Z2F (fun a=> [Z4a a,Z9D a < N]) Z5d) ::(206,fs Z2D (fun a=> [Z48 a,Z9B a < N]) Z3c) ::(208,fs Z2C (fun a=> [Z47 a,Z9A a < N]) Z44) ::(166,fs Z2E (fun a=> [Z49 a,Z9C a < N]) Z27) ::(210,fs Z2B (fun a=> [Z46 a,Z9z a < N]) Z3b) ::[(25,Z53),(85,Z51),(114,Jr),(164,Z2n),(207,Z2k),(209,Z2j)]
def ZtO:Zj U:=lvl [([2,3,4],[2,3,4]),([2,4,6,7],[2,4,6]),([4,5],[4])]
abbrev ZGj(N:Nat)(p:List Nat):=AW (Z0 (Zoi N)) Tryz.f208 ZtO p
theorem ZDt(N:Nat)(a b:Kid)(Q:QT)(h:∀ y_1,y_1=(a.e)→∀ y_2,y_2=(b.e)→((Z2a (y_1,y_2,()))∧(Z7R (y_1,y_2,()) < N)∧(Q .ret (L2 [(4,.ptr (.loc 4) 0),(5,.c (.bool ((Yt y_1 y_2).2)))] [(.loc 4,([ci a.at_]++enc .edit ((Yt y_1 y_2).1)))])))):
  ZGj N [] (L2 [(0,.agg (enc .kid a)),(1,.agg (enc .kid b))] []) Q:=
 Eq.mpr (by kernel_rfl) (h _ (Z6 _) _ (Z6 _))
def Zyo(N:Nat)(a b:Kid):Prop:=AW (Z0 (Zoi N)) Tryz.f208 ZtO [] (Zl (Z2C.can (a,b,())) []) (EQ Tryz.f208 (Z44 (a,b,())) [])
abbrev ZzW:Prop:=∀ (N:Nat) (a:Kid) (b:Kid) (_:Unit),Z47 (a,b,())→Z9A (a,b,()) < N+1→Zyo N a b
def Zi3(N:Nat):List (FuncId × Fs U):=(111,fs Z2G (fun a=> [Z2a a,Z7R a < N]) Z3d) ::(165,fs Z2F (fun a=> [Z4a a,Z9D a < N]) Z5d) ::(206,fs Z2D (fun a=> [Z48 a,Z9B a < N]) Z3c) ::(208,fs Z2C (fun a=> [Z47 a,Z9A a < N]) Z44) ::(166,fs Z2E (fun a=> [Z49 a,Z9C a < N]) Z27) ::(210,fs Z2B (fun a=> [Z46 a,Z9z a < N]) Z3b) ::[(25,Z53),(85,Z51),(114,Jr),(164,Z2n),(207,Z2k),(209,Z2j)]
def ZnU:Zj U:=fun i=> match i with
 | 0=> ([(0,[]),(1,[])],[])
 | 1=> ([(6,[]),(7,[])],[])
 | 2=> ([(6,[]),(21,[])],[])
 | 3=> ([(4,[]),(5,[])],[])
 | 4=> ([(6,[]),(8,[])],[])
 | 5=> ([(8,[.own .op]),(22,[]),(23,[]),(24,[])],[])
 | 6=> ([(8,[]),(22,[]),(23,[]),(24,[]),(25,[])],[])
 | 7=> ([(8,[]),(10,[]),(22,[]),(23,[]),(24,[])],[(.loc 10,[])])
 | 8=> ([(8,[]),(11,[]),(12,[]),(13,[]),(22,[]),(23,[]),(24,[])],[(.loc 11,[])])
 | 9=> ([(8,[]),(11,[]),(12,[]),(22,[]),(23,[]),(24,[]),(35,[])],[(.loc 11,[])])
 | 10=> ([(4,[]),(5,[])],[])
 | 11=> ([(8,[]),(11,[]),(22,[]),(23,[]),(24,[]),(36,[])],[(.loc 11,[])])
 | 12=> ([(8,[]),(22,[]),(23,[]),(24,[])],[])
 | 13=> ([(8,[.own .op]),(22,[]),(23,[]),(24,[])],[])
 | 14=> ([(4,[]),(5,[])],[])
 | _=> ([],[])
def Z4J(p q:List Op)(x24:Int)(x8:List Op):LSt U:=(L2 [(8,.c (sU .op x8 (.own (.e 8 0)))),(22,.c (sU .piece ((Yk 1 2 p q []).1) .unk)),(23,.c (ci (((Yk 1 2 p q []).1).length:Int))),(24,.c (ci x24))] [])
abbrev ZD6(N:Nat)(p:List Nat):=AW (Z0 (Zi3 N)) Tryz.f166 ZnU p
abbrev ZFi(N:Nat)(p:List Nat):=SW (Z0 (Zi3 N)) Tryz.f166 ZnU p
theorem ZDR(N:Nat)(p q:List Op)(Q:QT)(h:((ZlB (p,q,()))∧(((!((Yk 1 2 p q []).2.1))=true→(Q .ret (L2 [(4,.c (.nils)),(5,.c (.bool false))] [])))∧((!((Yk 1 2 p q []).2.1))=false→(Zf (ZD6 N [1,1,1,1,0,1,0,0]) (Z4J p q 0 []) (xB 0 (ZFi N [1,1,1,1,1] Q))))))):
  ZD6 N [] (L2 [(0,.c (sU .op p .unk)),(1,.c (sU .op q .unk))] []) Q:=
 Eq.mpr (by kernel_rfl) h
theorem Zry(N:Nat)(p q:List Op)(x24:Int)(x8:List Op)(N0:NT)(Q:QT)(h:∀ y_1,y_1=(List.getD ((Yk 1 2 p q []).1) x24.toNat (Piece.mk 0 Op.nil Op.nil))→∀ y_2,y_2=y_1→∀ y_3,y_3=((Jl Yt y_2).op)→let z0:=decide (x24 < (((Yk 1 2 p q []).1).length:Int));((z0=true→((0:Int)≤x24∧x24 < (((Yk 1 2 p q []).1).length:Int))∧((Z46 (y_2,()))∧(Z9z (y_2,()) < N)∧(((!((Jl Yt y_2).ok))=true→(Q .ret (L2 [(4,.c (.nils)),(5,.c (.bool false))] [])))∧((!((Jl Yt y_2).ok))=false→((((Jl Yt y_2).is)=true→((x8.length+([y_3]).length)*240≤140737488355328)∧((InR (x24+1))∧(N0 (Z4J p q (x24+1) (x8++([y_3]))))))∧(((Jl Yt y_2).is)=false→(InR (x24+1))∧(N0 (Z4J p q (x24+1) x8))))))))∧(z0=false→(Q .ret (L2 [(4,.c (sU .op x8 (.own (.e 4 0)))),(5,.c (.bool true))] []))))):
  ZD6 N [1,1,1,1,0,1,0,0] (Z4J p q x24 x8) (xT N0 (xB 0 (ZFi N [1,1,1,1,1] Q))):=
 Eq.mpr (by kernel_rfl) (h _ rfl _ (Zly _) _ (YX _))
def ZyM(N:Nat)(p q:List Op):Prop:=AW (Z0 (Zi3 N)) Tryz.f166 ZnU [] (Zl (Z2E.can (p,q,())) []) (EQ Tryz.f166 (Z27 (p,q,())) [])
abbrev ZA0:Prop:=∀ (N:Nat) (p:List Op) (q:List Op) (_:Unit),Z49 (p,q,())→Z9C (p,q,()) < N+1→ZyM N p q
def ZhV(N:Nat):List (FuncId × Fs U):=(111,fs Z2G (fun a=> [Z2a a,Z7R a < N]) Z3d) ::(165,fs Z2F (fun a=> [Z4a a,Z9D a < N]) Z5d) ::(206,fs Z2D (fun a=> [Z48 a,Z9B a < N]) Z3c) ::(208,fs Z2C (fun a=> [Z47 a,Z9A a < N]) Z44) ::(166,fs Z2E (fun a=> [Z49 a,Z9C a < N]) Z27) ::(210,fs Z2B (fun a=> [Z46 a,Z9z a < N]) Z3b) ::[(25,Z53),(85,Z51),(114,Jr),(164,Z2n),(207,Z2k),(209,Z2j)]
def ZnM:Zj U:=lvl [([1,2],[1,2]),([1,2,13],[1,2]),([2,3,4],[2]),([1,2,30],[1,2]),([2,3,4],[2]),([1,2,42],[1,2]),([1,2,55,56,57],[1,2]),([1,2,55,56,57,58],[1,2]),([1,2,5,6,55,56,57],[1,2,6]),([1,2,55,56,57,70],[1,2]),([2,3,4],[2]),([1,2,55,56,57],[1,2]),([2,3,4],[2]),([1,2,74],[1,2]),([2,7,8],[2,7]),([2,3,4],[2]),([1,2,95],[1,2]),([2,9,10],[2,9]),([2,3,4],[2]),([2,11,12],[2,11]),([2,3,4],[2])]
def Z7f(x:Piece)(x57:Int):LSt U:=(L2 [(1,.ptr (.loc 1) 0),(2,.ptr (.loc 2) 0),(55,.c (sU .tree x.p.l .unk)),(56,.c (ci (x.p.l.length:Int))),(57,.c (ci x57))] [(.loc 1,(enc .piece x)),(.loc 2,zc2)])
abbrev ZCY(N:Nat)(p:List Nat):=AW (Z0 (ZhV N)) Tryz.f210 ZnM p
abbrev Zy5(N:Nat)(p:List Nat):=SW (Z0 (ZhV N)) Tryz.f210 ZnM p
theorem ZDr(N:Nat)(x:Piece)(Q:QT)(h:∀ y_1,y_1=(x.p.e)→∀ y_2,y_2=(x.q.e)→∀ y_3,y_3=(List.getD x.p.l (Int.toNat 0) Tree.nil)→∀ y_4,y_4=(List.getD x.q.l (Int.toNat 0) Tree.nil)→∀ y_5,y_5=y_3→∀ y_6,y_6=y_4→∀ y_7,y_7=(Zv (ZS y_1))→∀ y_8,y_8=(Z3L ((doE false y_2 y_5).map Zd))→∀ y_9,y_9=(Z3L ((doE false y_7 y_6).map Zd))→let z3:=bif (x.of==2) then true else (x.p.kind==0);let z2:=bif (x.p.kind==2) then (x.q.kind==1) else false;let z1:=bif (x.of==1) then true else (bif (x.of==0) then (x.q.kind==0) else false);let z0:=(!(x.of==1)) && (x.of==0);((Tr ((!(x.of==1))=true))∧(Tr ((!(x.of==1))=true))∧(Tr ((!(x.of==1))=true))∧(Tr (z0=true))∧(Tr (z0=true))∧(Tr (z0=true))∧((!(x.of==1))=true→(True→(!(x.of==1))=true))∧((!(x.of==1))=true→((x.of==0)=true→z0=true))∧((x.of==1)=false→(!(x.of==1))=true)∧((z1=true→(Q .ret (L2 [(2,.ptr (.loc 2) 0),(3,.c (.bool true)),(4,.c (.bool true))] [(.loc 2,(enc .op x.p))])))∧(z1=false→(Tr ((!(x.of==2))=true))∧(Tr ((!(x.of==2))=true))∧(Tr ((!(x.of==2))=true))∧((x.of==2)=false→(!(x.of==2))=true)∧((z3=true→(Q .ret (L2 [(2,.ptr (.loc 2) 0),(3,.c (.bool true)),(4,.c (.bool true))] [(.loc 2,(enc .op x.q))])))∧(z3=false→(Tr ((x.p.kind==2)=true))∧(Tr ((x.p.kind==2)=true))∧(Tr ((x.p.kind==2)=true))∧(Tr ((x.p.kind==2)=true))∧((z2=true→(Zf (ZCY N [1,0,0,1,1,1,1,1,0,0,1,0,0]) (Z7f x 0) (xB 1 (Zy5 N [1,0,0,1,1,1,1,1,0,1] (xB 0 (Zy5 N [1,1] Q))))))∧(z2=false→(((x.p.kind==2)=true→((0:Int)≤0∧0 < (x.p.l.length:Int))∧(ZbX (y_2,y_5,()))∧(Q .ret (L2 [(2,.ptr (.loc 2) 0),(3,.c (.bool true)),(4,.c (.bool ((doE false y_2 y_5).isSome)))] [(.loc 2,[ci 2,ci 0,sU .tree ([y_8]) .full,ci 0,ci 0,.nils,.nils,ci 0,.nils,.nils,.nils,.nils,ci 0,.nils])])))∧((x.p.kind==2)=false→(((x.q.kind==1)=true→(Zgf (y_1,()))∧((0:Int)≤0∧0 < (x.q.l.length:Int))∧(ZbX (y_7,y_6,()))∧(Q .ret (L2 [(2,.ptr (.loc 2) 0),(3,.c (.bool true)),(4,.c (.bool ((doE false y_7 y_6).isSome)))] [(.loc 2,[ci 1,ci 0,sU .tree ([y_9]) .full,ci 0,ci 0,.nils,.nils,ci 0,.nils,.nils,.nils,.nils,ci 0,.nils])])))∧((x.q.kind==1)=false→(Z2a (y_1,y_2,()))∧(Z7R (y_1,y_2,()) < N)∧(Q .ret (L2 [(2,.ptr (.loc 2) 0),(3,.c (.bool true)),(4,.c (.bool ((Yt y_1 y_2).2)))] [(.loc 2,([ci 3,ci 0,.nils]++enc .edit ((Yt y_1 y_2).1)))])))))))))))))):
  ZCY N [] (L2 [(0,.agg (enc .piece x))] []) Q:=
 Eq.mpr (by kernel_rfl) (h _ (Z6 _) _ (Z6 _) _ rfl _ rfl _ (Zm _) _ (Zm _) _ (Z6 _) _ (Zm _) _ (Zm _))
theorem Zrl(N:Nat)(x:Piece)(x57:Int)(N0:NT)(Q:QT)(h:∀ y_1,y_1=(x.p.l.getD x57.toNat Tree.nil)→∀ y_2,y_2=(x.q.l.getD x57.toNat Tree.nil)→∀ y_3,y_3=y_1→∀ y_4,y_4=y_2→let z1:= !(Jp (Zd y_3) (Zd y_4));let z0:=decide (x57 < (x.p.l.length:Int));((z0=true→((0:Int)≤x57∧x57 < (x.p.l.length:Int))∧(((0:Int)≤x57∧x57 < (x.q.l.length:Int))∧(Z29 (y_3,y_4,()))∧((z1=true→(Q .ret (L2 [(2,.ptr (.loc 2) 0),(3,.c (.bool false)),(4,.c (.bool false))] [(.loc 2,zc2)])))∧(z1=false→(InR (x57+1))∧(N0 (Z7f x (x57+1)))))))∧(z0=false→(Q .ret (L2 [(2,.ptr (.loc 2) 0),(3,.c (.bool false)),(4,.c (.bool true))] [(.loc 2,zc2)]))))):
  ZCY N [1,0,0,1,1,1,1,1,0,0,1,0,0] (Z7f x x57) (xT N0 (xB 1 (Zy5 N [1,0,0,1,1,1,1,1,0,1] (xB 0 (Zy5 N [1,1] Q))))):=
 Eq.mpr (by kernel_rfl) (h _ rfl _ rfl _ (Zm _) _ (Zm _))
def Zym(N:Nat)(x:Piece):Prop:=AW (Z0 (ZhV N)) Tryz.f210 ZnM [] (Zl (Z2B.can (x,())) []) (EQ Tryz.f210 (Z3b (x,())) [])
abbrev ZzV:Prop:=∀ (N:Nat) (x:Piece) (_:Unit),Z46 (x,())→Z9z (x,()) < N+1→Zym N x
theorem ZtD(c25:CT 25 Z53)(c85:CT 85 Z51)(Zit:CT 114 Jr)(ZBT:CT 164 Z2n)(ZBE:CT 207 Z2k)(ZBD:CT 209 Z2j)(ZCk:ZA8)(ZCf:ZA1)(ZCc:ZzX)(ZCb:ZzW)(ZCe:ZA0)(ZCa:ZzV):
  CT 111 Z6P∧CT 165 ZmP∧CT 206 ZmL∧CT 208 ZmK∧CT 166 ZmO∧CT 210 ZmJ:=by
 have h60 : ∃ fn, Tryz.prog.funcs[(111 : FuncId)]? = some fn ∧ fn.body.isSome = true ∧ (fn.name == "runtime.NumGoroutine") = false := ⟨Tryz.f111, Tryz.func111, rfl, rfl⟩
 have h97 : ∃ fn, Tryz.prog.funcs[(165 : FuncId)]? = some fn ∧ fn.body.isSome = true ∧ (fn.name == "runtime.NumGoroutine") = false := ⟨Tryz.f165, Tryz.func165, rfl, rfl⟩
 have h132 : ∃ fn, Tryz.prog.funcs[(206 : FuncId)]? = some fn ∧ fn.body.isSome = true ∧ (fn.name == "runtime.NumGoroutine") = false := ⟨Tryz.f206, Tryz.func206, rfl, rfl⟩
 have h134 : ∃ fn, Tryz.prog.funcs[(208 : FuncId)]? = some fn ∧ fn.body.isSome = true ∧ (fn.name == "runtime.NumGoroutine") = false := ⟨Tryz.f208, Tryz.func208, rfl, rfl⟩
 have h98 : ∃ fn, Tryz.prog.funcs[(166 : FuncId)]? = some fn ∧ fn.body.isSome = true ∧ (fn.name == "runtime.NumGoroutine") = false := ⟨Tryz.f166, Tryz.func166, rfl, rfl⟩
 have h136 : ∃ fn, Tryz.prog.funcs[(210 : FuncId)]? = some fn ∧ fn.body.isSome = true ∧ (fn.name == "runtime.NumGoroutine") = false := ⟨Tryz.f210, Tryz.func210, rfl, rfl⟩
 have key:∀ N,CT 111 (fs Z2G (fun a=> [Z2a a,Z7R a < N]) Z3d)∧CT 165 (fs Z2F (fun a=> [Z4a a,Z9D a < N]) Z5d)∧CT 206 (fs Z2D (fun a=> [Z48 a,Z9B a < N]) Z3c)∧CT 208 (fs Z2C (fun a=> [Z47 a,Z9A a < N]) Z44)∧CT 166 (fs Z2E (fun a=> [Z49 a,Z9C a < N]) Z27)∧CT 210 (fs Z2B (fun a=> [Z46 a,Z9z a < N]) Z3b):=by
  intro N
  induction N with
  | zero=> exact ⟨JG h60,JG h97,JG h132,JG h134,JG h98,JG h136⟩
  | succ N ih=>
   have kn:=Z0x (l:=Z2x N) ⟨ih.1,ih.2.1,ih.2.2.1,ih.2.2.2.1,ih.2.2.2.2.1,ih.2.2.2.2.2,c25,c85,Zit,ZBT,ZBE,ZBD,trivial⟩
   exact ⟨ZO (Γ:=Z0 (Z2x N)) Zo rfl kn Zub Tryz.func111 rfl rfl (fun a=> by show 2≤_;decide) (fun ⟨p,q,_⟩ h=> ZCk N p q () h.1 h.2.1),
    ZO (Γ:=Z0 (Z2x N)) Zo rfl kn Zu2 Tryz.func165 rfl rfl (fun a=> by show 2≤_;decide) (fun ⟨p,q,_⟩ h=> ZCf N p q () h.1 h.2.1),
    ZO (Γ:=Z0 (Z2x N)) Zo rfl kn ZnN Tryz.func206 rfl rfl (fun a=> by show 4≤_;decide) (fun ⟨p,q,at_,one,_⟩ h=> ZCc N p q at_ one () h.1 h.2.1),
    ZO (Γ:=Z0 (Z2x N)) Zo rfl kn ZtO Tryz.func208 rfl rfl (fun a=> by show 2≤_;decide) (fun ⟨a,b,_⟩ h=> ZCb N a b () h.1 h.2.1),
    ZO (Γ:=Z0 (Z2x N)) Zo rfl kn ZnU Tryz.func166 rfl rfl (fun a=> by show 2≤_;decide) (fun ⟨p,q,_⟩ h=> ZCe N p q () h.1 h.2.1),
    ZO (Γ:=Z0 (Z2x N)) Zo rfl kn ZnM Tryz.func210 rfl rfl (fun a=> by show 1≤_;decide) (fun ⟨x,_⟩ h=> ZCa N x () h.1 h.2.1)⟩
 exact ⟨JH h60 fun N=> (key N).1,JH h97 fun N=> (key N).2.1,JH h132 fun N=> (key N).2.2.1,JH h134 fun N=> (key N).2.2.2.1,JH h98 fun N=> (key N).2.2.2.2.1,JH h136 fun N=> (key N).2.2.2.2.2⟩
end
end Go.AM.YtpjenobkibfpcaaGreat
namespace Go.AM.YtpjenobkibfpcaaGreat
open Go.AM Go.Proofs
theorem Z0i{n:Nat}{rs:List ResultVar}{r r':V U}{X:List (List (C U))}{e:AExit}{s:LSt U}(hr:r=r')(h:Jx cfg n rs r' X e s):Jx cfg n rs r X e s:=by rw [hr];exact h
theorem ZBF:Contract Tryz.prog cfg 205 Z8Q:=by
 refine ZwI Zis ?_
 intro p q _ hp
 obtain ⟨rp,rq⟩:=hp
 dsimp only at rp rq
 have A:=(ZxX rp.2.1 rq.2.1).1
 refine ZDw _ _ _ ?_
 (simp only [vcT,vcS])
 have z0:(0:Int)≤0∧(0:Int) < 18446744073709551616:=by decide
 refine ⟨⟨z0,rp.2.2.2,A⟩,⟨z0,rq.2.2.1,A⟩,fun h=> ?_,fun h=> ⟨⟨rq.2.2.1,rp.2.2.1,rp.2.1⟩,⟨rp.2.2.2,rq.2.2.2,rq.2.1⟩,?_⟩⟩
 ·have hn:Zio p q=false:=decide_eq_false h
  refine Z0i (r':= .tup [(true,enc .wedit (⟨0,0,0,0⟩:WEdit)),(false,[.bool false])]) ?_ (by (repeat' (first | exact trivial | exact rfl | apply And.intro)))
  simp only [Zhl,JS]
  rw [hn]
  try rfl
 ·have hn:Zio p q=true:=decide_eq_true h
  refine Z0i (r':= .tup [(true,enc .wedit (⟨p.at_,orM p.mask q.mask,mix q.old p.old p.mask,mix p.new q.new q.mask⟩:WEdit)),(false,[.bool true])]) ?_ (by (repeat' (first | exact trivial | exact rfl | apply And.intro)))
  simp only [Zhl,JS]
  rw [hn]
  try rfl
theorem ZBG:Contract Tryz.prog cfg 204 Z8R:=by
 refine ZwJ ?_
 intro w _ _
 exact ZDx _ _ (YF rfl rfl)
theorem ZBE:Contract Tryz.prog cfg 207 Z2k:=by
 refine ZwH ?_
 intro w _ _
 exact ZDu _ _ (YF rfl rfl)
theorem ZeE{α:Type}{at_:α→Int}{one:α→α→α × Bool}{p q:List α}(h:Zt at_ one p q=none):(Zt at_ one p q).isSome=false∧ofO (Zt at_ one p q)=[]:=by rw [h];exact ⟨rfl,rfl⟩
structure MInv {α:Type} (at_:α→Int) (one:α→α→α × Bool) (p q x0 x1 out:List α):Prop where
 eq:Zt at_ one p q=(Zt at_ one x0 x1).map (out++·)
 len:out.length+x0.length+x1.length≤p.length+q.length
theorem MInv.left{α:Type}{at_:α→Int}{one:α→α→α × Bool}{p q x1 out:List α}{a:α}{x0:List α}(h:MInv at_ one p q (a ::x0) x1 out)(hb:∀ b∈x1.head?,at_ a < at_ b):MInv at_ one p q x0 x1 (out++[a]):=by
 refine ⟨?_,by have:=h.len;simp only [List.length_cons,List.length_append,List.length_nil] at*;omega⟩
 rw [h.eq]
 cases x1 with
 | nil=>
  rw [Zt]
  have:Zt at_ one x0 []=some x0:=by cases x0 <;> rw [Zt]
  rw [this];simp
 | cons b r=>
  rw [Zt,if_pos (hb b (by simp))]
  cases Zt at_ one x0 (b ::r) <;> simp
theorem MInv.right{α:Type}{at_:α→Int}{one:α→α→α × Bool}{p q x0 out:List α}{b:α}{x1:List α}(h:MInv at_ one p q x0 (b ::x1) out)(hb:∀ a∈x0.head?,at_ b < at_ a):MInv at_ one p q x0 x1 (out++[b]):=by
 refine ⟨?_,by have:=h.len;simp only [List.length_cons,List.length_append,List.length_nil] at*;omega⟩
 rw [h.eq]
 cases x0 with
 | nil=> rw [Zt,Zt];simp
 | cons a r=>
  have:=hb a (by simp)
  rw [Zt,if_neg (by omega),if_pos this]
  cases Zt at_ one (a ::r) x1 <;> simp
theorem MInv.both{α:Type}{at_:α→Int}{one:α→α→α × Bool}{p q x0 x1 out:List α}{a b:α}(h:MInv at_ one p q (a ::x0) (b ::x1) out)(e:at_ a=at_ b):
  ((one a b).2=true→MInv at_ one p q x0 x1 (out++[(one a b).1]))∧((one a b).2=false→Zt at_ one p q=none):=by
 refine ⟨fun hc=> ⟨?_,by have:=h.len;simp only [List.length_cons,List.length_append,List.length_nil] at*;omega⟩,fun hc=> ?_⟩
 ·rw [h.eq,Zt,if_neg (by omega),if_neg (by omega),if_pos hc]
  cases Zt at_ one x0 x1 <;> simp
 ·rw [h.eq,Zt,if_neg (by omega),if_neg (by omega),if_neg (by rw [hc];decide)]
  try rfl
theorem MInv.done{α:Type}{at_:α→Int}{one:α→α→α × Bool}{p q out:List α}(h:MInv at_ one p q [] [] out):Zt at_ one p q=some out:=by
 rw [h.eq,Zt];simp
theorem MInv.left'{α:Type}{at_:α→Int}{one:α→α→α × Bool}{p q x0 x1 out:List α}(z:α)(h:MInv at_ one p q x0 x1 out)(hx:0 < x0.length)(hb:x1.length=0∨at_ (x0.getD 0 z) < at_ (x1.getD 0 z)):
  MInv at_ one p q (x0.drop 1) x1 (out++[x0.getD 0 z]):=by
 cases x0 with
 | nil=> simp at hx
 | cons a r=>
  refine h.left fun b hb'=> ?_
  cases x1 with
  | nil=> simp at hb'
  | cons c s=>
   simp only [List.head?_cons,Option.mem_def,Option.some.injEq] at hb'
   subst hb'
   rcases hb with hb | hb
   ·simp at hb
   ·exact hb
theorem MInv.right'{α:Type}{at_:α→Int}{one:α→α→α × Bool}{p q x0 x1 out:List α}(z:α)(h:MInv at_ one p q x0 x1 out)(hx:0 < x1.length)(hb:x0.length=0∨at_ (x1.getD 0 z) < at_ (x0.getD 0 z)):
  MInv at_ one p q x0 (x1.drop 1) (out++[x1.getD 0 z]):=by
 cases x1 with
 | nil=> simp at hx
 | cons a r=>
  refine h.right fun b hb'=> ?_
  cases x0 with
  | nil=> simp at hb'
  | cons c s=>
   simp only [List.head?_cons,Option.mem_def,Option.some.injEq] at hb'
   subst hb'
   rcases hb with hb | hb
   ·simp at hb
   ·exact hb
theorem MInv.both'{α:Type}{at_:α→Int}{one:α→α→α × Bool}{p q x0 x1 out:List α}(z:α)(h:MInv at_ one p q x0 x1 out)(h0:0 < x0.length)(h1:0 < x1.length)(e:at_ (x0.getD 0 z)=at_ (x1.getD 0 z)):
  ((one (x0.getD 0 z) (x1.getD 0 z)).2=true→MInv at_ one p q (x0.drop 1) (x1.drop 1) (out++[(one (x0.getD 0 z) (x1.getD 0 z)).1]))∧((one (x0.getD 0 z) (x1.getD 0 z)).2=false→Zt at_ one p q=none):=by
 cases x0 with
 | nil=> simp at h0
 | cons a r=>
  cases x1 with
  | nil=> simp at h1
  | cons b s=> exact h.both e
theorem ZBH:Contract Tryz.prog cfg 203 Z8S:=by
 refine ZwK ZBG ZBF ?_
 rintro p q ⟨⟩ ⟨⟩ _ hp
 obtain ⟨⟨rp,lp⟩,rq,lq⟩:=hp
 dsimp only at rp lp rq lq
 refine ZDy p q () () _ ?_
 refine Za (ι:=List WEdit × List WEdit × List WEdit) (fun x=> Z2U p q () () x.1 x.2.1 x.2.2) (fun x=> MInv WEdit.at_ JS p q x.1 x.2.1 x.2.2∧(∀ w∈x.1,Z39 w)∧∀ w∈x.2.1,Z39 w) (fun x=> x.1.length+x.2.1.length) (p,q,[]) rfl
  ⟨⟨by dsimp only;cases Zt WEdit.at_ JS p q <;> simp,by simp⟩,rp,rq⟩ ?_
 rintro ⟨x0,x1,x10⟩ ⟨inv,r0,r1⟩
 dsimp only at inv r0 r1
 have hlen:=inv.len
 refine Zrn p q () () _ _ _ _ _ ?_
 intro y1 h1 y2 h2 y3 h3 y4 h4 y5 h5
 subst h3 h4
 (simp only [vcT,vcS])
 have h3:y3=x0.getD 0 ⟨0,0,0,0⟩:=h1
 have h4:y4=x1.getD 0 ⟨0,0,0,0⟩:=h2
 have d0:∀ w∈x0.drop 1,Z39 w:=fun w hw=> r0 w (List.mem_of_mem_drop hw)
 have d1:∀ w∈x1.drop 1,Z39 w:=fun w hw=> r1 w (List.mem_of_mem_drop hw)
 refine ⟨fun hne=> ⟨fun h=> ⟨by omega,by omega⟩,fun _=> trivial,fun h=> ⟨by omega,by omega⟩,fun _=> trivial,fun g1 g2=> ⟨g1,g2⟩,fun hA=> ?_,fun hB=> ?_⟩,fun hE=> ?_⟩
 ·refine ⟨⟨by omega,by omega⟩,by simp only [List.length_cons,List.length_nil];omega,⟨by omega,by omega⟩,(x0.drop 1,x1,x10++[y3]),rfl,⟨?_,d0,r1⟩,by dsimp only;rw [List.length_drop];omega⟩
  rw [h3]
  exact inv.left' _ (by omega) (by rw [←h3,←h4];omega)
 ·refine ⟨fun h=> ⟨by omega,by omega⟩,fun _=> trivial,fun h=> ⟨by omega,by omega⟩,fun _=> trivial,fun hC=> ?_,fun hD=> ?_⟩
  ·refine ⟨⟨by omega,by omega⟩,by simp only [List.length_cons,List.length_nil];omega,⟨by omega,by omega⟩,(x0,x1.drop 1,x10++[y4]),rfl,⟨?_,r0,d1⟩,by dsimp only;rw [List.length_drop];omega⟩
   rw [h4]
   exact inv.right' _ (by omega) (by rw [←h3,←h4];omega)
  ·have hb:=inv.both' ⟨0,0,0,0⟩ (by omega) (by omega) (by rw [←h3,←h4];omega)
   rw [←h3,←h4] at hb
   have m3:Z39 y3:=by rw [h3];exact r0 _ (Zi (by omega) _)
   have m4:Z39 y4:=by rw [h4];exact r1 _ (Zi (by omega) _)
   refine ⟨⟨by omega,by omega⟩,⟨by omega,by omega⟩,⟨m3,m4⟩,fun hc=> ?_,fun hc=> ?_⟩
   ·have e:=ZeE (hb.2 hc)
    refine Z0i (r':= .tup [(false,[.slice (U:=U) .wedit [] .unk]),(false,[.bool false])]) ?_ (by (repeat' (first | exact trivial | exact rfl | apply And.intro)))
    simp only [Zhm]
    rw [e.1,e.2]
   ·refine ⟨by simp only [List.length_cons,List.length_nil];omega,⟨by omega,by omega⟩,⟨by omega,by omega⟩,(x0.drop 1,x1.drop 1,x10++[y5]),rfl,⟨?_,d0,d1⟩,by dsimp only;rw [List.length_drop,List.length_drop];omega⟩
    rw [h5]
    exact hb.1 hc
 ·have e0:x0=[]:=List.eq_nil_of_length_eq_zero (by omega)
  have e1:x1=[]:=List.eq_nil_of_length_eq_zero (by omega)
  subst e0 e1
  have e:=inv.done
  refine Z0i (r':= .tup [(false,[.slice (U:=U) .wedit x10 .unk]),(false,[.bool true])]) ?_ (by (repeat' (first | exact trivial | exact rfl | apply And.intro)))
  simp only [Zhm]
  rw [e]
  try rfl
theorem ZBT:Contract Tryz.prog cfg 164 Z2n:=by
 refine Zx1 ZBH ?_
 intro p q _ hp
 exact ZDT _ _ _ ⟨hp,by (repeat' (first | exact trivial | exact rfl | apply And.intro))⟩
end Go.AM.YtpjenobkibfpcaaGreat
namespace Go.AM.YtpjenobkibfpcaaGreat
open Go.AM Go.Proofs
theorem Zzy(e:Edit):e.words.length+e.ops.length+Zq e.kids+Zg e.ops+Zu e.old+Zu e.new+1=Z9 e:=by obtain ⟨k,o,n,w,ks,l,os⟩:=e;simp only [Z9,Edit.words_mk,Edit.ops_mk,Edit.kids_mk,Edit.old_mk,Edit.new_mk];omega
theorem ZnI(t:Tree):1≤Zu t:=by obtain ⟨k,w,ks⟩:=t;simp only [Zu];omega
theorem ZaN{e:Edit}(h:Z1f e):Z9 e≤9000000000:=Nat.le_trans (ZcQ e) h.1
theorem ZcJ{e:Edit}(h:Z1f e):Zgf (e,())∧Z1f (Zv (ZS e)):=by
 have hm:=ZaN h
 obtain ⟨m,r,d,hr⟩:=h
 refine ⟨⟨by dsimp only;omega,d,hr⟩,?_,?_,d,Jo _ _ (Z03 _ _ hr)⟩
 ·have:=Zbr (ZS e)
  rw [Zau] at this
  omega
 ·exact Z2L _ d (Z03 _ _ hr) (Z6V e r)
theorem Zay{e:Edit}{t:Tree}(h:Z1f e)(hm:Zu t≤100000000000)(ht:rng t):ZbX (e,t,()):=by
 have:=ZaN h
 have:=h.1
 exact ⟨⟨by dsimp only;omega,h.2⟩,by dsimp only;omega,ht⟩
theorem Zno{e:Edit}(h:Z1f e):Zcy e.kids:=by
 obtain ⟨m,r,d,hr⟩:=h
 have:=Z5w e
 exact ⟨by omega,(J9 r).2.2.2.1,fun k hk=> ⟨_,(Y1 (Zz hr).kids k hk).2⟩⟩
theorem Znn{e:Edit}(h:Z1f e):Zq5 e.ops:=by
 obtain ⟨m,r,d,hr⟩:=h
 have:=Z5w e
 exact ⟨by omega,(J9 r).2.2.2.2,fun o ho=> ⟨_,_,rightOs_mem (Zz hr).ops ho⟩⟩
theorem ZCk:ZA8:=by
 intro N p q _ hp hN
 obtain ⟨op,oq⟩:=hp
 dsimp only at op oq
 have hN':8*(Z9 p+Z9 q) < N+1:=hN
 obtain ⟨dp,rp⟩:=op.2.2
 obtain ⟨dq,rq⟩:=oq.2.2
 have hst:=ZgM rp rq
 unfold JW at hst
 have lp:=Zzy p
 have lq:=Zzy q
 have mo:=ZnI p.old;have mn:=ZnI p.new;have mo':=ZnI q.old;have mn':=ZnI q.new
 have gp:=J9 op.2.1
 have gq:=J9 oq.2.1
 have cp:=Z5w p;have cq:=Z5w q;have cp':=op.1;have cq':=oq.1
 have fin:∀ {X:Edit} {b:Bool} {s:LSt U},Yt p q=(X,b)→Jx cfg Tryz.f111.ntmps Tryz.f111.results.toList (.tup [(true,enc .edit X),(false,[.bool b])]) [] .ret s→Jx cfg Tryz.f111.ntmps Tryz.f111.results.toList (Z3d (p,q,())) [] .ret s:=by
  intro X b s h hs
  refine Z0i ?_ hs
  simp only [Z3d]
  rw [h]
  try rfl
 refine ZEh N p q _ ?_
 intro y1 h1 y2 h2 y3 h3 y4 h4 y5 h5
 replace h1:=h1.symm;replace h2:=h2.symm;replace h3:=h3.symm;replace h4:=h4.symm
 subst h1 h2 h3 h4
 (simp only [vcT,vcS])
 try dsimp only at h5 ⊢
 refine ⟨fun p0=> fin (by rw [hst,if_pos p0]) (by (repeat' (first | exact trivial | exact rfl | apply And.intro))),fun p0=> ?_⟩
 rw [if_neg p0] at hst
 refine ⟨fun q0=> fin (by rw [hst,if_pos q0]) (by (repeat' (first | exact trivial | exact rfl | apply And.intro))),fun q0=> ?_⟩
 rw [if_neg q0] at hst
 refine ⟨fun p1=> ⟨Zay oq (by omega) gp.2.1,fin (by rw [hst,if_pos p1]) (by unfold doB;(repeat' (first | exact trivial | exact rfl | apply And.intro)))⟩,fun p1=> ?_⟩
 rw [if_neg p1] at hst
 refine ⟨fun q1=> ⟨(ZcJ op).1,by rw [h5];exact Zay (ZcJ op).2 (by omega) gq.1,fin (by rw [hst,if_pos q1,←h5]) (by unfold doB;(repeat' (first | exact trivial | exact rfl | apply And.intro)))⟩,fun q1=> ?_⟩
 rw [if_neg q1] at hst
 refine ⟨fun hd=> fin (by rw [hst,if_pos hd]) (by (repeat' (first | exact trivial | exact rfl | apply And.intro))),fun hd=> ?_⟩
 rw [if_neg (by rintro (h | h);exact h hd.1;exact h hd.2)] at hst
 refine ⟨fun p2=> ?_,fun p2=> ?_⟩
 ·rw [if_pos p2] at hst
  refine ⟨⟨⟨gp.2.2.1,by dsimp only;omega⟩,gq.2.2.1,by dsimp only;omega⟩,fun hw=> ?_,fun hw=> ⟨⟨Zno op,Zno oq⟩,by show 8*(Zq p.kids+Zq q.kids)+4 < N;omega,?_⟩⟩
  ·exact fin (by rw [hst,if_neg (by rw [hw];decide)]) (by (repeat' (first | exact trivial | exact rfl | apply And.intro)))
  ·exact fin (by rw [hst,if_pos hw]) (by (repeat' (first | exact trivial | exact rfl | apply And.intro)))
 ·rw [if_neg p2] at hst
  exact ⟨⟨Znn op,Znn oq⟩,by show 8*(Zg p.ops+Zg q.ops)+40 < N;omega,fin hst (by (repeat' (first | exact trivial | exact rfl | apply And.intro)))⟩
theorem ZCf:ZA1:=by
 intro N a b _ hp hN
 have hN':8*(Zq a+Zq b)+4 < N+1:=hN
 refine ZDS N a b _ ?_
 exact ⟨hp,by show 8*(Zq a+Zq b)+3 < N;omega,by (repeat' (first | exact trivial | exact rfl | apply And.intro))⟩
theorem Zjq{k:Kid}(h:Z1n k):isI k.at_∧YI k.e:=by cases k;exact h
theorem ZCb:ZzW:=by
 intro N a b _ hp hN
 obtain ⟨oa,ob⟩:=hp
 dsimp only at oa ob
 have hN':8*(Yd a+Yd b)+1 < N+1:=hN
 have ka:=Z4u a
 have kb:=Z4u b
 refine ZDt N a b _ ?_
 intro y1 h1 y2 h2
 replace h1:=h1.symm;replace h2:=h2.symm
 subst h1 h2
 try dsimp only
 have ra:Z1f a.e:=⟨by have:=oa.1;rw [Z4O] at this;omega,(Zjq oa.2.1).2,oa.2.2⟩
 have rb:Z1f b.e:=⟨by have:=ob.1;rw [Z4O] at this;omega,(Zjq ob.2.1).2,ob.2.2⟩
 exact ⟨⟨ra,rb⟩,by show 8*(Z9 a.e+Z9 b.e) < N;omega,by unfold Z44 Z24;(repeat' (first | exact trivial | exact rfl | apply And.intro))⟩
theorem Zg4{l:List Kid}(h:Zcy l):Zcy (l.drop 1):=by
 cases l with
 | nil=> exact h
 | cons k r=>
  obtain ⟨h1,h2,h3⟩:=h
  simp only [Z0L] at h1
  exact ⟨by simp only [List.drop_succ_cons,List.drop_zero];omega,h2.2,fun x hx=> h3 x (List.mem_cons_of_mem _ hx)⟩
theorem Zg3{l:List Kid}(h:Zcy l)(hl:0 < l.length)(z:Kid):Zuw (l.getD 0 z)∧Yd (l.getD 0 z)+Zq (l.drop 1)=Zq l:=by
 cases l with
 | nil=> simp at hl
 | cons k r=>
  obtain ⟨h1,h2,h3⟩:=h
  simp only [Z0L] at h1
  exact ⟨⟨by simp only [List.getD_cons_zero];omega,h2.1,h3 k List.mem_cons_self⟩,rfl⟩
theorem Zcc:∀ l:List Kid,Zq (l.drop 1)≤Zq l
 | []=> Nat.le_refl _
 | k ::r=> by simp only [List.drop_succ_cons,List.drop_zero,Zq];omega
theorem ZCc:ZzX:=by
 rintro N p q ⟨⟩ ⟨⟩ _ hp hN
 obtain ⟨op,oq⟩:=hp
 dsimp only at op oq
 have hN':8*(Zq p+Zq q)+3 < N+1:=hN
 have lp:=Y2 p
 have lq:=Y2 q
 have bp:=Nat.le_trans (Z7d p) op.1;have bq:=Nat.le_trans (Z7d q) oq.1
 refine ZDv N p q () () _ ?_
 refine Za (ι:=List Kid × List Kid × List Kid) (fun x=> Z2T p q () () x.1 x.2.1 x.2.2) (fun x=> MInv KidOf.at_ (Z24 Yt) p q x.1 x.2.1 x.2.2∧(Zcy x.1∧Zq x.1≤Zq p)∧Zcy x.2.1∧Zq x.2.1≤Zq q) (fun x=> x.1.length+x.2.1.length) (p,q,[]) rfl
  ⟨⟨by dsimp only;cases Zt KidOf.at_ (Z24 Yt) p q <;> simp,by simp⟩,⟨op,Nat.le_refl _⟩,oq,Nat.le_refl _⟩ ?_
 rintro ⟨x0,x1,x10⟩ ⟨inv,⟨r0,m0⟩,r1,m1⟩
 dsimp only at inv r0 r1 m0 m1
 have hlen:=inv.len
 refine Zrm N p q () () _ _ _ _ _ ?_
 intro y1 h1 y2 h2 y3 h3 y4 h4 y5 h5
 subst h3 h4
 (simp only [vcT,vcS])
 have h3:y3=x0.getD 0 ⟨0,Edit.nil⟩:=h1
 have h4:y4=x1.getD 0 ⟨0,Edit.nil⟩:=h2
 have d0:Zcy (x0.drop 1)∧Zq (x0.drop 1)≤Zq p:=⟨Zg4 r0,by have:=Zcc x0;omega⟩
 have d1:Zcy (x1.drop 1)∧Zq (x1.drop 1)≤Zq q:=⟨Zg4 r1,by have:=Zcc x1;omega⟩
 refine ⟨fun hne=> ⟨fun h=> ⟨by omega,by omega⟩,fun _=> trivial,fun h=> ⟨by omega,by omega⟩,fun _=> trivial,fun g1 g2=> ⟨g1,g2⟩,fun hA=> ?_,fun hB=> ?_⟩,fun hE=> ?_⟩
 ·refine ⟨⟨by omega,by omega⟩,by simp only [List.length_cons,List.length_nil];omega,⟨by omega,by omega⟩,(x0.drop 1,x1,x10++[y3]),rfl,⟨?_,d0,r1,m1⟩,by dsimp only;rw [List.length_drop];omega⟩
  rw [h3]
  exact inv.left' _ (by omega) (by rw [←h3,←h4];omega)
 ·refine ⟨fun h=> ⟨by omega,by omega⟩,fun _=> trivial,fun h=> ⟨by omega,by omega⟩,fun _=> trivial,fun hC=> ?_,fun hD=> ?_⟩
  ·refine ⟨⟨by omega,by omega⟩,by simp only [List.length_cons,List.length_nil];omega,⟨by omega,by omega⟩,(x0,x1.drop 1,x10++[y4]),rfl,⟨?_,⟨r0,m0⟩,d1⟩,by dsimp only;rw [List.length_drop];omega⟩
   rw [h4]
   exact inv.right' _ (by omega) (by rw [←h3,←h4];omega)
  ·have hb:=inv.both' ⟨0,Edit.nil⟩ (by omega) (by omega) (by rw [←h3,←h4];omega)
   rw [←h3,←h4] at hb
   obtain ⟨k3,n3⟩:=Zg3 r0 (by omega) ⟨0,Edit.nil⟩
   obtain ⟨k4,n4⟩:=Zg3 r1 (by omega) ⟨0,Edit.nil⟩
   rw [←h3] at k3 n3
   rw [←h4] at k4 n4
   refine ⟨⟨by omega,by omega⟩,⟨by omega,by omega⟩,⟨k3,k4⟩,by show 8*(Yd y3+Yd y4)+1 < N;omega,fun hc=> ?_,fun hc=> ?_⟩
   ·have e:=ZeE (hb.2 hc)
    refine Z0i (r':= .tup [(false,[.slice (U:=U) .kid [] .unk]),(false,[.bool false])]) ?_ (by (repeat' (first | exact trivial | exact rfl | apply And.intro)))
    simp only [Z3c]
    rw [e.1,e.2]
   ·refine ⟨by simp only [List.length_cons,List.length_nil];omega,⟨by omega,by omega⟩,⟨by omega,by omega⟩,(x0.drop 1,x1.drop 1,x10++[y5]),rfl,⟨?_,d0,d1⟩,by dsimp only;rw [List.length_drop,List.length_drop];omega⟩
    rw [h5]
    exact hb.1 hc
 ·have e0:x0=[]:=List.eq_nil_of_length_eq_zero (by omega)
  have e1:x1=[]:=List.eq_nil_of_length_eq_zero (by omega)
  subst e0 e1
  have e:=inv.done
  refine Z0i (r':= .tup [(false,[.slice (U:=U) .kid x10 .unk]),(false,[.bool true])]) ?_ (by (repeat' (first | exact trivial | exact rfl | apply And.intro)))
  simp only [Z3c]
  rw [e]
  try rfl
theorem ZjN{l:List Op}{o:Op}(h:Part l o)(ho:J4 o)(hl:Z02 l):Yz o:=by
 obtain ⟨o',m,k,e1,_,lt⟩:=h
 have G:=Z0w (Z0N hl m)
 obtain ⟨kk,nn,ll,ee⟩:=o
 have k:kk=o'.kind:=k
 have e1:ee=o'.e:=e1
 have lt:∀ t∈ll,t∈o'.l:=lt
 refine ⟨by rw [k];exact G.1,?_,Z9e fun t ht=> JI G.2.2.1 (lt t ht),by rw [e1];exact G.2.2.2⟩
 rcases ho with h | h | h
 ·have:=h.2.2.1
  unfold isI
  dsimp only at this
  omega
 ·have h2:nn=0:=h.2.1
  rw [h2];exact JU (by decide) (by decide)
 ·have h2:nn=0:=h.2.1
  rw [h2];exact JU (by decide) (by decide)
theorem Z73{l:List Op}{o:Op}(h:Part l o):Z3t o≤J7 l∧Zw o≤Zg l:=by
 obtain ⟨o',m,k,e1,hm,_⟩:=h
 have h1:=Zf8 m
 have h2:=ZW m
 have a:=Z5v o
 rw [ZN,ZN,e1] at hm
 rw [e1] at a
 rw [ZN] at h2
 rw [ZN,e1]
 omega
theorem Zel{l:List Op}{o:Op}(h:Part l o)(hl:∀ o∈l,∃ list d,Zc list o d=true)(k3:o.kind=3):∃ d,Z2 o.e d=true:=by
 obtain ⟨o',m,k,e1,hm,_⟩:=h
 obtain ⟨list,d,hr⟩:=hl o' m
 exact ⟨d,by rw [e1];exact Jm hr (by omega)⟩
theorem Ztd{p q:List Op}(hp:Zq5 p)(hq:Zq5 q){x:Piece}(h:POk p q x):PcOk x:=by
 refine ⟨h.of,fun e=> ?_,fun e=> ?_,h.both⟩
 ·obtain ⟨a,b⟩:=h.pp e
  exact ⟨b,Nat.le_trans (Z73 a).1 hp.1,ZjN a b hp.2.1,Zel a hp.2.2⟩
 ·obtain ⟨a,b⟩:=h.qq e
  exact ⟨b,Nat.le_trans (Z73 a).1 hq.1,ZjN a b hq.2.1,Zel a hq.2.2⟩
theorem Zzk{p:List Op}(hp:Zq5 p):Zbb p:=by
 refine ⟨fun o ho=> ?_,?_⟩
 ·obtain ⟨_,_,h⟩:=hp.2.2 o ho
  exact Y9 h
 ·have:=Z4t p
  have:=hp.1
  omega
theorem ZCe:ZA0:=by
 intro N p q _ hp hN
 obtain ⟨op,oq⟩:=hp
 dsimp only at op oq
 have hN':8*(Zg p+Zg q)+40 < N+1:=hN
 have kp:=Zzk op
 have kq:=Zzk oq
 obtain ⟨i1,_⟩:=Zeo _ p q [] (Nat.le_refl _) kp.1 kq.1
 refine ZDR N p q _ ?_
 (simp only [vcT,vcS])
 refine ⟨⟨kp,kq⟩,fun hb=> ?_,fun hb=> ?_⟩
 ·have e:Z2g Yt p q=none:=by unfold Z2g;rw [if_neg (by rw [hb];decide)]
  refine Z0i (r':= .tup [(false,[.slice (U:=U) .op [] .unk]),(false,[.bool false])]) ?_ (by (repeat' (first | exact trivial | exact rfl | apply And.intro)))
  simp only [Z27]
  rw [e];try rfl
 ·obtain ⟨ps,e,hps,_,_⟩:=i1 hb
  obtain ⟨ps1,e1,_,_,hlen⟩:=Zen ZzP ZzO 1 _ p q [] (Nat.le_refl _) kp.1 kq.1 hb
  rw [e,List.nil_append,List.nil_append] at e1
  subst e1
  rw [List.nil_append] at e
  have hco:Z2g Yt p q=Z1b Yt ps:=by unfold Z2g;rw [if_pos hb,e]
  refine Za (ι:=Int × List Op) (fun s=> Z4J p q s.1 s.2) (fun s=> 0≤s.1∧s.1≤ps.length∧Z1b Yt ps=(Z1b Yt (ps.drop s.1.toNat)).map (s.2++·)∧s.2.length+(ps.drop s.1.toNat).length≤ps.length) (fun s=> ((ps.length:Int) - s.1).toNat) (0,[]) rfl ⟨by simp,by simp,by simp,by simp⟩ ?_
  rintro ⟨i,out⟩ ⟨f1,f2,f3,f4⟩
  dsimp only at f1 f2 f3 f4
  refine Zry N p q _ _ _ _ ?_
  intro y1 h1 y2 h2 y3 h3
  rw [e] at h1 ⊢
  subst h2
  (simp only [vcT,vcS])
  refine ⟨fun hi=> ?_,fun hi=> ?_⟩
  ·have h1:y2=ps.getD i.toNat (Piece.mk 0 Op.nil Op.nil):=h1
   have hmem:y2∈ps:=by rw [h1];exact Zi (by omega) _
   have hx:=hps y2 hmem
   have hd:ps.drop i.toNat=y2 ::ps.drop (i+1).toNat:=by rw [h1];exact Y3 f1 hi _
   rw [hd,Z1b] at f3
   rw [hd,List.length_cons] at f4
   have hmu:8*(Zw y2.p+Zw y2.q)+1 < N:=by
    rcases hx.of with h | h | h
    ·have:=(Z73 (hx.pp (by omega)).1).2;have:=(Z73 (hx.qq (by omega)).1).2;omega
    ·have:=(Z73 (hx.pp (by omega)).1).2;rw [hx.qn h,show Zw Op.nil=3 from rfl];omega
    ·have:=(Z73 (hx.qq (by omega)).1).2;rw [hx.pn h,show Zw Op.nil=3 from rfl];omega
   have c1:=Z4t p;have c2:=Z4t q;have c3:=op.1;have c4:=oq.1
   refine ⟨⟨f1,hi⟩,Ztd op oq hx,hmu,fun hc=> ?_,fun hc=> ⟨fun his=> ?_,fun his=> ?_⟩⟩
   ·rw [if_neg (by rw [hc];decide)] at f3
    refine Z0i (r':= .tup [(false,[.slice (U:=U) .op [] .unk]),(false,[.bool false])]) ?_ (by (repeat' (first | exact trivial | exact rfl | apply And.intro)))
    simp only [Z27]
    rw [hco,f3];try rfl
   ·rw [if_pos hc,if_pos his] at f3
    refine ⟨by simp only [List.length_cons,List.length_nil];omega,by unfold InR;omega,(i+1,out++[y3]),rfl,⟨by dsimp only;omega,by dsimp only;omega,?_,?_⟩,by dsimp only;omega⟩
    ·rw [f3,h3]
     cases Z1b Yt (ps.drop (i+1).toNat) <;> simp
    ·simp only [List.length_append,List.length_cons,List.length_nil];omega
   ·rw [if_pos hc,if_neg (by rw [his];decide)] at f3
    refine ⟨by unfold InR;omega,(i+1,out),rfl,⟨by dsimp only;omega,by dsimp only;omega,?_,by dsimp only;omega⟩,by dsimp only;omega⟩
    rw [f3]
    cases Z1b Yt (ps.drop (i+1).toNat) <;> simp
  ·rw [List.drop_of_length_le (by omega),Z1b] at f3
   refine Z0i (r':= .tup [(false,[.slice (U:=U) .op out .unk]),(false,[.bool true])]) ?_ (by (repeat' (first | exact trivial | exact rfl | apply And.intro)))
   simp only [Z27]
   rw [hco,f3]
   simp [ofO]
theorem ZfN{α:Type}{l:List α}{i:Nat}(h:i < l.length)(d:α):l.take (i+1)=l.take i++[l.getD i d]:=by
 rw [List.take_succ_eq_append_getElem h,List.getD_eq_getElem?_getD,List.getElem?_eq_getElem h];try rfl
theorem ZuD{a b:List Tree}(h:Zb a=Zb b):ZBo a b=true:=Z1a.2 h
theorem ZxJ{a b:List Tree}(h:¬Zb a=Zb b):ZBo a b=false:=by rw [←Bool.not_eq_true];exact fun e=> h (Z1a.1 e)
theorem Zka(o:Op):Zh o.l≤Z3t o:=by rw [Z5v];omega
theorem ZCa:ZzV:=by
 intro N x _ hp hN
 have hp:PcOk x:=hp
 have hN':8*(Zw x.p+Zw x.q)+1 < N+1:=hN
 have fin:∀ {o:Op} {i k:Bool} {s:LSt U},Jl Yt x=⟨o,i,k⟩→Jx cfg Tryz.f210.ntmps Tryz.f210.results.toList (.tup [(true,enc .op o),(false,[.bool i]),(false,[.bool k])]) [] .ret s→Jx cfg Tryz.f210.ntmps Tryz.f210.results.toList (Z3b (x,())) [] .ret s:=by
  intro o i k s h hs
  refine Z0i ?_ hs
  simp only [Z3b]
  rw [h];try rfl
 refine ZDr N x _ ?_
 intro y1 h1 y2 h2 y3 h3 y4 h4 y5 h5 y6 h6 y7 h7 y8 h8 y9 h9
 subst h1 h2 h5 h6
 (simp only [vcT,vcS])
 have hc:=Jl.eq_1 Yt x
 refine ⟨fun _ h=> ⟨by omega,h⟩,fun c1=> fin (by rw [hc,if_pos c1]) (by (repeat' (first | exact trivial | exact rfl | apply And.intro))),fun c1=> ?_⟩
 rw [if_neg (by omega)] at hc
 refine ⟨fun c2=> fin (by rw [hc,if_pos c2]) (by (repeat' (first | exact trivial | exact rfl | apply And.intro))),fun c2=> ?_⟩
 rw [if_neg (by omega)] at hc
 have c0:x.of=0:=by rcases hp.of with h | h | h <;> omega
 obtain ⟨b1,b2,b3⟩:=hp.both c0
 obtain ⟨op,mp,gp,rp⟩:=hp.pp (by omega)
 obtain ⟨oq,mq,gq,rq⟩:=hp.qq (by omega)
 have ep:=Z5v x.p
 have eq:=Z5v x.q
 have gp':=Z0w gp
 have gq':=Z0w gq
 have ap:=Zka x.p
 have aq:=Zka x.q
 refine ⟨fun c3=> ?_,fun c3=> ?_⟩
 ·rw [if_pos c3] at hc
  have l1:=Yr op (.inr c3.1)
  have l2:=Yr oq (.inl c3.2)
  have k1:=ZA x.p.l
  rw [List.take_of_length_le (by omega)] at hc
  refine Za (ι:=Int) (fun i=> Z7f x i) (fun i=> 0≤i∧i≤x.p.l.length∧Zb (x.p.l.take i.toNat)=Zb (x.q.l.take i.toNat)) (fun i=> ((x.p.l.length:Int) - i).toNat) 0 rfl ⟨by omega,by omega,by simp⟩ ?_
  rintro i ⟨f1,f2,f3⟩
  refine Zrl N x _ _ _ ?_
  intro z1 g1 z2 g2 z3 g3 z4 g4
  subst g1 g2
  (simp only [vcT,vcS])
  have l3:x.p.l.length=x.q.l.length:=by omega
  refine ⟨fun hi=> ?_,fun hi=> ?_⟩
  ·have m1:z3∈x.p.l:=by rw [g3];exact Zi (by omega) _
   have m2:z4∈x.q.l:=by rw [g4];exact Zi (by omega) _
   have m1':=YO m1
   have m2':=YO m2
   have t1:x.p.l.take (i+1).toNat=x.p.l.take i.toNat++[z3]:=by rw [g3,show (i+1).toNat=i.toNat+1 by omega];exact ZfN (by omega) _
   have t2:x.q.l.take (i+1).toNat=x.q.l.take i.toNat++[z4]:=by rw [g4,show (i+1).toNat=i.toNat+1 by omega];exact ZfN (by omega) _
   refine ⟨⟨f1,hi⟩,⟨f1,by omega⟩,⟨by dsimp only;omega,by dsimp only;omega⟩,fun hne=> fin (by rw [hc,ZxJ];intro he;rw [J2] at hne;apply hne;rw [g3,g4];exact Zco he i.toNat) (by (repeat' (first | exact trivial | exact rfl | apply And.intro))),fun heq=> ⟨by unfold InR;omega,i+1,rfl,⟨by omega,by omega,?_⟩,by omega⟩⟩
   rw [t1,t2]
   exact Z4s f3 (Zgk.2 (JB.1 heq))
  ·rw [List.take_of_length_le (by omega),List.take_of_length_le (by omega)] at f3
   exact fin (by rw [hc,ZuD f3]) (by (repeat' (first | exact trivial | exact rfl | apply And.intro)))
 rw [if_neg (by omega)] at hc
 have kp:x.p.kind=2∨x.p.kind=3:=by rcases Z1p op with k | k | k | k <;> omega
 have kq:x.q.kind=1∨x.q.kind=3:=by rcases Z1p oq with k | k | k | k <;> omega
 refine ⟨fun c4=> ?_,fun c4=> ?_⟩
 ·rw [if_pos c4] at hc
  have l1:=Yr op (.inr c4)
  have l2:=Z11 (o:=x.q) (by omega)
  have hl:0 < x.p.l.length:=by omega
  have m3:y5∈x.p.l:=by rw [h3];exact Zi hl _
  have m3':=YO m3
  refine ⟨⟨by omega,by omega⟩,Zay ⟨by omega,gq'.2.2.2,rq (by omega)⟩ (by omega) (JI gp'.2.2.1 m3),fin hc ?_⟩
  rw [show x.p.l.getD 0 Tree.nil=y5 from h3.symm]
  unfold doB
  rw [←h8]
  (repeat' (first | exact trivial | exact rfl | apply And.intro))
 rw [if_neg c4] at hc
 have p3:x.p.kind=3:=by omega
 refine ⟨fun c5=> ?_,fun c5=> ?_⟩
 ·rw [if_pos c5] at hc
  have l1:=Yr oq (.inl c5)
  have l2:=Z11 (o:=x.p) p3
  have hl:0 < x.q.l.length:=by omega
  have m4:y6∈x.q.l:=by rw [h4];exact Zi hl _
  have m4':=YO m4
  have rk:Z1f x.p.e:=⟨by omega,gp'.2.2.2,rp p3⟩
  refine ⟨(ZcJ rk).1,⟨by omega,by omega⟩,by rw [h7];exact Zay (ZcJ rk).2 (by omega) (JI gq'.2.2.1 m4),fin hc ?_⟩
  rw [show x.q.l.getD 0 Tree.nil=y6 from h4.symm,←h7]
  unfold doB
  rw [←h9]
  (repeat' (first | exact trivial | exact rfl | apply And.intro))
 ·rw [if_neg c5] at hc
  have k1:Z1f x.p.e:=⟨by omega,gp'.2.2.2,rp p3⟩
  have k2:Z1f x.q.e:=⟨by omega,gq'.2.2.2,rq (by omega)⟩
  refine ⟨⟨k1,k2⟩,?_,fin hc (by (repeat' (first | exact trivial | exact rfl | apply And.intro)))⟩
  show 8*(Z9 x.p.e+Z9 x.q.e) < N
  rw [ZN,ZN] at hN'
  omega
theorem ZEM:Contract Tryz.prog cfg 111 Z6P∧Contract Tryz.prog cfg 165 ZmP∧Contract Tryz.prog cfg 206 ZmL∧Contract Tryz.prog cfg 208 ZmK∧Contract Tryz.prog cfg 166 ZmO∧Contract Tryz.prog cfg 210 ZmJ:=
 ZtD c25 c85 Zit ZBT ZBE (ZBD ZuN) ZCk ZCf ZCc ZCb ZCe ZCa
theorem ZC7:Contract Tryz.prog cfg 111 Z6P:=ZEM.1
end Go.AM.YtpjenobkibfpcaaGreat
namespace Go.AM
def Z5H(list:Int):List Tree→Int→Int
 | [],_=> -1
 | t ::r,i=> if Ze (Tree.mk list [] [t]) 64=true then Z5H list r (i+1) else i
theorem ZgO(list:Int):∀ (l:List Tree) (i:Int),0≤i→(0≤Z5H list l i↔JA list l=false)
 | [],i,_=> by simp [Z5H,JA]
 | t ::r,i,hi=> by
  have ih:=ZgO list r (i+1) (by omega)
  rw [Z5H,JA]
  by_cases h:Ze (Tree.mk list [] [t]) 64=true
  ·rw [if_pos h,h,Bool.true_and];exact ih
  ·rw [if_neg h]
   simp only [Bool.not_eq_true] at h
   rw [h,Bool.false_and]
   exact ⟨fun _=> rfl,fun _=> hi⟩
end Go.AM
namespace Go.AM.YtpjenobkibfpcaaGreat
open Go.AM Go.Proofs
noncomputable section
noncomputable section
def ZiE:ArgM (Tree × (Int × Unit) × Unit):=(.cons (aEl .tree) (.obj 0 (.cons (Zaw .i64) .nil) .nil))
def ZaQ(a:Tree × (Int × Unit) × Unit):Prop:=Zu a.1≤18000000000∧rng a.1∧isI a.2.1.1
def Zll(a:Tree × (Int × Unit) × Unit):V U:= .c (.bool (!(Ze (Tree.mk a.2.1.1 [] [a.1]) 64)))
def Zhf(a:Tree × (Int × Unit) × Unit):List (List (C U)):=[[ci a.2.1.1]]
def Z8O:Fs U:=fsX ZiE (fun a=> [ZaQ a]) Zll Zhf
def ZiA:ArgM (List Tree × (Int × Unit) × Unit):=(.cons (aSl .tree) (.clo 217 0 (.cons (Zaw .i64) .nil) .nil))
def Ze5(a:List Tree × (Int × Unit) × Unit):Prop:=Zh a.1≤18000000000∧Yq a.1∧isI a.2.1.1
def Zhk(a:List Tree × (Int × Unit) × Unit):V U:= .c (ci (Z5H a.2.1.1 a.1 0))
def ZcL(a:List Tree × (Int × Unit) × Unit):List (List (C U)):=[[ci a.2.1.1]]
def Z8J:Fs U:=fsX ZiA (fun a=> [Ze5 a]) Zhk ZcL
def ZiF:ArgM (List Tree × (Int × Unit) × Unit):=(.cons (aSl .tree) (.clo 217 0 (.cons (Zaw .i64) .nil) .nil))
def Z5h(a:List Tree × (Int × Unit) × Unit):Prop:=Zh a.1≤18000000000∧Yq a.1∧isI a.2.1.1
def Zlm(a:List Tree × (Int × Unit) × Unit):V U:= .c (.bool (!(JA a.2.1.1 a.1)))
def Zhg(a:List Tree × (Int × Unit) × Unit):List (List (C U)):=[[ci a.2.1.1]]
def Z55:Fs U:=fsX ZiF (fun a=> [Z5h a]) Zlm Zhg
def Zof:List (FuncId × Fs U):=[(218,Z8N)]
def ZtL:Zj U:=fun i=> match i with
 | 0=> ([(1,[]),(2,[])],[(.loc 2,[]),(.x 0,[])])
 | 1=> ([(3,[])],[(.x 0,[])])
 | _=> ([],[])
abbrev ZER(t:Tree)(list:Int)(Q:QT):=AW (Z0 Zof) Tryz.f217 ZtL [] (L2 [(0,.agg (enc .tree t)),(1,.ptr (.x 0) 0)] [(.x 0,[ci list])]) Q
theorem ZDo(t:Tree)(list:Int)(Q:QT)(h:(Ze7 (list,(Tree.mk t.kind t.words t.kids),()))∧(Q .ret (L2 [(3,.c (.bool (!(Ze (Tree.mk list [] [(Tree.mk t.kind t.words t.kids)]) 64))))] [(.x 0,[ci list])]))):
  ZER t list Q:=by
 have e_:(ZER t list Q)=(type_of% h):=by kernel_rfl
 exact e_.mpr ⟨h.1,h.2⟩
def Zyj(t:Tree)(list:Int):Prop:=AW (Z0 Zof) Tryz.f217 ZtL [] (Zl (ZiE.can (t,(list,()),())) (ZiE.canX (t,(list,()),()))) (EQ Tryz.f217 (Zll (t,(list,()),())) (Zhf (t,(list,()),())))
theorem ZwD(ZBz:CT 218 Z8N)(hb:∀ (t:Tree) (list:Int) (_:Unit),ZaQ (t,(list,()),())→Zyj t list):CT 217 Z8O:=
 YM (l:=[(218,Z8N)]) Zo rfl (⟨ZBz,trivial⟩) ZtL Tryz.func217 rfl rfl 2 (fun _=> rfl) (by decide) (fun ⟨t,⟨list,_⟩,_⟩=> hb t list ())
def Z1F:List (FuncId × Fs U):=[(217,Z8O)]
def Z9J:Zj U:=fun i=> match i with
 | 0=> ([(0,[]),(1,[])],[(.x 0,[])])
 | 1=> ([(0,[]),(1,[]),(7,[]),(8,[])],[(.x 0,[])])
 | 2=> ([(0,[]),(1,[]),(7,[]),(8,[]),(9,[])],[(.x 0,[])])
 | 3=> ([(0,[]),(1,[]),(5,[]),(7,[]),(8,[])],[(.x 0,[])])
 | 4=> ([(0,[]),(1,[]),(5,[]),(7,[]),(8,[]),(16,[])],[(.x 0,[])])
 | 5=> ([(4,[])],[(.x 0,[])])
 | 6=> ([(0,[]),(1,[]),(7,[]),(8,[])],[(.x 0,[])])
 | 7=> ([(4,[])],[(.x 0,[])])
 | _=> ([],[])
def Z2S(l:List Tree)(list x8:Int):LSt U:=(L2 [(0,.c (sU .tree l .unk)),(1,.clo 217 [(.x 0)]),(7,.c (ci (l.length:Int))),(8,.c (ci x8))] [(.x 0,[ci list])])
abbrev ZEO(l:List Tree)(list:Int)(Q:QT):=AW (Z0 Z1F) Tryz.f231 Z9J [] (L2 [(0,.c (sU .tree l .unk)),(1,.clo 217 [(.x 0)])] [(.x 0,[ci list])]) Q
abbrev ZkL:=awp cfg (Z0 Z1F) (ZB cfg (Z0 Z1F)) Tryz.f231.ntmps Z9J
abbrev Zj9:=Z5a cfg (Z0 Z1F) (ZB cfg (Z0 Z1F)) Tryz.f231.ntmps Z9J
theorem ZDf(l:List Tree)(list:Int)(Q:QT)(h:Zf (AW (Z0 Z1F) Tryz.f231 Z9J [1,0,1,0,0]) (Z2S l list 0) (xB 0 (SW (Z0 Z1F) Tryz.f231 Z9J [1,1] Q))):
  ZEO l list Q:=by
 have e_:(ZEO l list Q)=(Zf (ZkL (cd Tryz.f231 [1,0,1,0,0])) (Z2S l list 0) (xB 0 (Zj9 (cd Tryz.f231 [1,1]) Q))):=by kernel_rfl
 exact e_.mpr h
abbrev Zpz(l:List Tree)(list x8:Int)(N0:NT)(Q:QT):=AW (Z0 Z1F) Tryz.f231 Z9J [1,0,1,0,0] (Z2S l list x8) (xT N0 (xB 0 (SW (Z0 Z1F) Tryz.f231 Z9J [1,1] Q)))
theorem Zrj(l:List Tree)(list x8:Int)(N0:NT)(Q:QT)(h:((decide (x8 < (l.length:Int)))=true→((0:Int)≤x8∧x8 < (l.length:Int))∧(ZaQ ((Tree.mk (Tree.kind (l.getD x8.toNat Tree.nil)) (Tree.words (l.getD x8.toNat Tree.nil)) (Tree.kids (l.getD x8.toNat Tree.nil))),(list,()),()))∧(((!(Ze (Tree.mk list [] [(Tree.mk (Tree.kind (l.getD x8.toNat Tree.nil)) (Tree.words (l.getD x8.toNat Tree.nil)) (Tree.kids (l.getD x8.toNat Tree.nil)))]) 64))=true→Q .ret (L2 [(4,.c (ci x8))] [(.x 0,[ci list])]))∧((!(Ze (Tree.mk list [] [(Tree.mk (Tree.kind (l.getD x8.toNat Tree.nil)) (Tree.words (l.getD x8.toNat Tree.nil)) (Tree.kids (l.getD x8.toNat Tree.nil)))]) 64))=false→(InR (x8+1))∧(N0 (Z2S l list (x8+1))))))∧((decide (x8 < (l.length:Int)))=false→Q .ret (L2 [(4,.c (ci (-1)))] [(.x 0,[ci list])]))):
  Zpz l list x8 N0 Q:=by
 have e_:(Zpz l list x8 N0 Q)=(let zz0:=(!(Ze (Tree.mk list [] [(Tree.mk (Tree.kind (l.getD x8.toNat Tree.nil)) (Tree.words (l.getD x8.toNat Tree.nil)) (Tree.kids (l.getD x8.toNat Tree.nil)))]) 64));(((decide ((x8:Int) < (l.length:Int)))=true→(((0:Int)≤x8∧x8 < (l.length:Int))∧(ZaQ ((Tree.mk (Tree.kind (l.getD x8.toNat Tree.nil)) (Tree.words (l.getD x8.toNat Tree.nil)) (Tree.kids (l.getD x8.toNat Tree.nil))),(list,()),()))∧((zz0=true→(Q .ret (L2 [(4,.c (ci x8))] [(.x 0,[ci list])])))∧(zz0=false→(InR ((x8:Int)+1))∧(N0 (Z2S l list ((x8:Int)+1)))))))∧((decide ((x8:Int) < (l.length:Int)))=false→(Q .ret (L2 [(4,.c (ci (-1)))] [(.x 0,[ci list])]))))):=by kernel_rfl
 exact e_.mpr ⟨fun c_1=> ⟨(h.1 c_1).1,(h.1 c_1).2.1,⟨fun c_2=> ((h.1 c_1).2.2.1 c_2),fun c_2=> ⟨((h.1 c_1).2.2.2 c_2).1,((h.1 c_1).2.2.2 c_2).2⟩⟩⟩,fun c_1=> (h.2 c_1)⟩
def Zya(l:List Tree)(list:Int):Prop:=AW (Z0 Z1F) Tryz.f231 Z9J [] (Zl (ZiA.can (l,(list,()),())) (ZiA.canX (l,(list,()),()))) (EQ Tryz.f231 (Zhk (l,(list,()),())) (ZcL (l,(list,()),())))
theorem Zwu(ZBA:CT 217 Z8O)(hb:∀ (l:List Tree) (list:Int) (_:Unit),Ze5 (l,(list,()),())→Zya l list):CT 231 Z8J:=
 YM (l:=[(217,Z8O)]) Zo rfl (⟨ZBA,trivial⟩) Z9J Tryz.func231 rfl rfl 2 (fun _=> rfl) (by decide) (fun ⟨l,⟨list,_⟩,_⟩=> hb l list ())
def Zog:List (FuncId × Fs U):=[(231,Z8J)]
def ZtM:Zj U:=fun i=> match i with
 | 0=> ([(0,[]),(1,[])],[(.x 0,[])])
 | 1=> ([(4,[])],[(.x 0,[])])
 | _=> ([],[])
abbrev ZES(l:List Tree)(list:Int)(Q:QT):=AW (Z0 Zog) Tryz.f216 ZtM [] (L2 [(0,.c (sU .tree l .unk)),(1,.clo 217 [(.x 0)])] [(.x 0,[ci list])]) Q
theorem ZDp(l:List Tree)(list:Int)(Q:QT)(h:(Ze5 (l,(list,()),()))∧(Q .ret (L2 [(4,.c (.bool (decide ((0:Int)≤(Z5H list l 0)))))] [(.x 0,[ci list])]))):
  ZES l list Q:=by
 have e_:(ZES l list Q)=(type_of% h):=by kernel_rfl
 exact e_.mpr ⟨h.1,h.2⟩
def Zyk(l:List Tree)(list:Int):Prop:=AW (Z0 Zog) Tryz.f216 ZtM [] (Zl (ZiF.can (l,(list,()),())) (ZiF.canX (l,(list,()),()))) (EQ Tryz.f216 (Zlm (l,(list,()),())) (Zhg (l,(list,()),())))
theorem ZwE(ZBu:CT 231 Z8J)(hb:∀ (l:List Tree) (list:Int) (_:Unit),Z5h (l,(list,()),())→Zyk l list):CT 216 Z55:=
 YM (l:=[(231,Z8J)]) Zo rfl (⟨ZBu,trivial⟩) ZtM Tryz.func216 rfl rfl 2 (fun _=> rfl) (by decide) (fun ⟨l,⟨list,_⟩,_⟩=> hb l list ())
end
end
end Go.AM.YtpjenobkibfpcaaGreat
namespace Go.AM.YtpjenobkibfpcaaGreat
open Go.AM Go.Proofs
theorem ZBA:Contract Tryz.prog cfg 217 Z8O:=by
 refine ZwD ZBz ?_
 intro t list _ hp
 simp only [ZaQ] at hp
 refine ZDo _ _ _ ?_
 (simp only [Tree.eta,Edit.eta,Tree.kind_mk,Tree.words_mk,Tree.kids_mk])
 refine ⟨by simp only [Ze7];exact hp,?_⟩
 simp only [Zll,Zhf]
 (repeat' (first | exact trivial | exact rfl | apply And.intro))
theorem Zfd{list:Int}{l:List Tree}:∀ (i:Nat),(∀ t∈l.take i,Ze (Tree.mk list [] [t]) 64=true)→i≤l.length→Z5H list l 0=Z5H list (l.drop i) i
 | 0,_,_=> by simp
 | i+1,h,hi=> by
  have ih:=Zfd i (fun t ht=> h t (by rw [List.take_add_one];exact List.mem_append.2 (Or.inl ht))) (by omega)
  rw [ih]
  have e:l.drop i=l.getD i Tree.nil ::l.drop (i+1):=by
   have:=Y3 (l:=l) (i:=(i:Int)) (by omega) (by omega) Tree.nil
   simpa using this
  have hm:l.getD i Tree.nil∈l.take (i+1):=by
   rw [List.mem_take_iff_getElem]
   exact ⟨i,by omega,by simp [List.getD,List.getElem?_eq_getElem (show i < l.length by omega)]⟩
  rw [e,Z5H,if_pos (h _ hm)]
  simp
theorem ZBu:Contract Tryz.prog cfg 231 Z8J:=by
 refine Zwu ZBA ?_
 intro l list _ hp
 simp only [Ze5] at hp
 refine ZDf _ _ _ ?_
 refine Za (ι:=Int) (fun s=> Z2S l list s) (fun s=> 0≤s∧s≤l.length∧∀ t∈l.take s.toNat,Ze (Tree.mk list [] [t]) 64=true) (fun s=> ((l.length:Int) - s).toNat) 0 rfl ⟨by simp,by simp,by simp⟩ ?_
 rintro i ⟨g1,g2,g3⟩
 have hb:=Zfd (list:=list) (l:=l) i.toNat g3 (by omega)
 have hl:=ZA l
 refine Zrj _ _ _ _ _ ?_
 (simp only [vcS])
 (simp only [Tree.eta,Edit.eta,Tree.kind_mk,Tree.words_mk,Tree.kids_mk])
 refine ⟨fun hi=> ⟨⟨g1,hi⟩,?_,fun hc=> ?_,fun hc=> ?_⟩,fun hi=> ?_⟩
 ·have hm:=Zi (l:=l) (i:=i.toNat) (by omega) Tree.nil
  simp only [ZaQ]
  have h1:=YO hm
  exact ⟨by omega,JI hp.2.1 hm,hp.2.2⟩
 ·rw [Y3 g1 hi Tree.nil,Z5H,if_neg (by rw [hc];decide)] at hb
  simp only [Zhk,ZcL]
  rw [hb,show ((i.toNat:Nat):Int)=i by omega]
  (repeat' (first | exact trivial | exact rfl | apply And.intro))
 ·refine ⟨by unfold InR;omega,i+1,rfl,⟨by omega,by omega,fun t ht=> ?_⟩,by omega⟩
  rw [show (i+1).toNat=i.toNat+1 by omega,List.take_add_one] at ht
  rcases List.mem_append.1 ht with ht | ht
  ·exact g3 t ht
  ·have e:l[i.toNat]?=some (l.getD i.toNat Tree.nil):=by
    simp [List.getD,List.getElem?_eq_getElem (show i.toNat < l.length by omega)]
   rw [e] at ht
   simp only [Option.toList_some,List.mem_singleton] at ht
   subst ht
   exact hc
 ·rw [List.drop_of_length_le (by omega)] at hb
  simp only [Zhk,ZcL]
  rw [hb,Z5H]
  (repeat' (first | exact trivial | exact rfl | apply And.intro))
theorem ZBB:Contract Tryz.prog cfg 216 Z55:=by
 refine ZwE ZBu ?_
 intro l list _ hp
 simp only [Z5h] at hp
 refine ZDp _ _ _ ?_
 have hb:=ZgO list l 0 (by decide)
 refine ⟨by simp only [Ze5];exact hp,?_⟩
 have e:decide (0≤Z5H list l 0)= !(JA list l):=by
  rw [Bool.eq_iff_iff,decide_eq_true_eq,hb]
  cases JA list l <;> simp
 simp only [Zlm,Zhg]
 rw [e]
 (repeat' (first | exact trivial | exact rfl | apply And.intro))
end Go.AM.YtpjenobkibfpcaaGreat
namespace Go.AM.YtpjenobkibfpcaaGreat
open Go.AM Go.Proofs
noncomputable section
abbrev ZK(p:Prop):Prop:=p→p
def Zp8:ArgL (Tree × Unit):=(.cons (aEl .tree) .nil)
def Z5i(a:Tree × Unit):Prop:=Zu a.1≤20000000000
def ZsI(a:Tree × Unit):V U:= .c (.bool (ZZ a.1))
def Z8Y:Fs U:=fs Zp8 (fun a=> [Z5i a]) ZsI
def Zpp:ArgL (Edit × Unit):=(.cons (aEl .edit) .nil)
def Zb0(a:Edit × Unit):Prop:=Z9 a.1≤20000000000
def ZsU(a:Edit × Unit):V U:= .c (.bool (Z25 a.1))
def Z58:Fs U:=fs Zpp (fun a=> [Zb0 a]) ZsU
def Zop:List (FuncId × Fs U):=[]
def ZtV:Zj U:=lvl [([1],[1]),([2],[])]
abbrev ZEX(t:Tree)(Q:QT):=AW (Z0 Zop) Tryz.f178 ZtV [] (L2 [(0,.agg (enc .tree t))] []) Q
theorem ZDH(t:Tree)(Q:QT)(h:((t.kind==0)=true→InR (((t.words.length:Int):Int)+(t.kids.length:Int)))∧(Q .ret (L2 [(2,.c (.bool (bif (t.kind==0) then (((((t.words.length:Int):Int)+(t.kids.length:Int)):Int)==0) else false)))] []))):
  ZEX t Q:=by
 have e_:(ZEX t Q)=((ZK ((t.kind==0)=true))∧(ZK ((t.kind==0)=true))∧(ZK ((t.kind==0)=true))∧(ZK ((t.kind==0)=true))∧(ZK ((t.kind==0)=true))∧(ZK ((t.kind==0)=true))∧((t.kind==0)=true→InR ((t.words.length:Int)+(t.kids.length:Int)))∧(ZK ((t.kind==0)=true))∧(ZK ((t.kind==0)=true))∧(Q .ret (L2 [(2,.c (.bool (bif (t.kind==0) then ((((t.words.length:Int)+(t.kids.length:Int)):Int)==0) else false)))] []))):=by kernel_rfl
 exact e_.mpr ⟨id,id,id,id,id,id,h.1,id,(by generalize ((t.kind:Int)==0)=b0;revert b0;decide),h.2⟩
def ZyC(t:Tree):Prop:=AW (Z0 Zop) Tryz.f178 ZtV [] (Zl (Zp8.can (t,())) []) (EQ Tryz.f178 (ZsI (t,())) [])
theorem ZwR(hb:∀ (t:Tree) (_:Unit),Z5i (t,())→ZyC t):CT 178 Z8Y:=
 Z4 (l:=[]) Zo rfl trivial ZtV Tryz.func178 rfl rfl 1 (fun _=> rfl) (by decide) (fun ⟨t,_⟩=> hb t ())
def ZoC:List (FuncId × Fs U):=[(178,Z8Y)]
def Zu8:Zj U:=lvl [([1],[1]),([1,3],[1]),([1,4],[1]),([2],[]),([1,21],[1]),([2],[]),([2],[])]
abbrev ZFa(e:Edit)(Q:QT):=AW (Z0 ZoC) Tryz.f121 Zu8 [] (L2 [(0,.agg (enc .edit e))] []) Q
theorem ZE8(e:Edit)(Q:QT)(h:∀ y_1,y_1=(e.new)→∀ y_2,y_2=(e.old)→((e.kind !=1)=true→Z5i (y_2,()))∧(((e.kind !=1) && (ZZ y_2))=true→Z5i (y_1,()))∧(((bif (e.kind !=1) then (!(bif (ZZ y_2) then (ZZ y_1) else false)) else false)=true→Q .ret (L2 [(2,.c (.bool false))] []))∧((bif (e.kind !=1) then (!(bif (ZZ y_2) then (ZZ y_1) else false)) else false)=false→((e.kind !=2)=true→InR (((e.words.length:Int):Int)+(e.kids.length:Int)))∧(((bif (e.kind !=2) then (decide ((0:Int) < (((e.words.length:Int):Int)+(e.kids.length:Int)))) else false)=true→Q .ret (L2 [(2,.c (.bool false))] []))∧((bif (e.kind !=2) then (decide ((0:Int) < (((e.words.length:Int):Int)+(e.kids.length:Int)))) else false)=false→Q .ret (L2 [(2,.c (.bool (bif (e.kind==3) then true else (bif (e.list==0) then (((e.ops.length:Int):Int)==0) else false))))] [])))))):
  ZFa e Q:=by
 have e_:(ZFa e Q)=(let y_1:=(Z62 e.new);let y_2:=(Z62 e.old);let zz2:=(bif (e.kind !=1) then (!(bif (ZZ y_2) then (ZZ y_1) else false)) else false);let zz1:=(bif (e.kind !=2) then (decide ((0:Int) < ((e.words.length:Int)+(e.kids.length:Int)))) else false);let zz0:=(!(e.kind==3));((ZK ((e.kind !=1)=true))∧(ZK ((e.kind !=1)=true))∧(ZK ((e.kind !=1)=true))∧((e.kind !=1)=true→Z5i (y_2,()))∧(ZK ((e.kind !=1)=true))∧(ZK (((e.kind !=1) && (ZZ y_2))=true))∧(ZK (((e.kind !=1) && (ZZ y_2))=true))∧(ZK (((e.kind !=1) && (ZZ y_2))=true))∧(((e.kind !=1) && (ZZ y_2))=true→Z5i (y_1,()))∧((e.kind !=1)=true→(True→(e.kind !=1)=true))∧((e.kind !=1)=true→((ZZ y_2)=true→((e.kind !=1) && (ZZ y_2))=true))∧(ZK ((e.kind !=1)=true))∧(ZK ((e.kind !=1)=true))∧((zz2=true→(Q .ret (L2 [(2,.c (.bool false))] [])))∧(zz2=false→(ZK ((e.kind !=2)=true))∧(ZK ((e.kind !=2)=true))∧(ZK ((e.kind !=2)=true))∧(ZK ((e.kind !=2)=true))∧(ZK ((e.kind !=2)=true))∧(ZK ((e.kind !=2)=true))∧((e.kind !=2)=true→InR ((e.words.length:Int)+(e.kids.length:Int)))∧(ZK ((e.kind !=2)=true))∧(ZK ((e.kind !=2)=true))∧((zz1=true→(Q .ret (L2 [(2,.c (.bool false))] [])))∧(zz1=false→(ZK (zz0=true))∧(ZK (zz0=true))∧(ZK (zz0=true))∧(ZK ((zz0 && (e.list==0))=true))∧(ZK ((zz0 && (e.list==0))=true))∧(ZK ((zz0 && (e.list==0))=true))∧(zz0=true→(True→zz0=true))∧(zz0=true→((e.list==0)=true→(zz0 && (e.list==0))=true))∧((e.kind==3)=false→zz0=true)∧(Q .ret (L2 [(2,.c (.bool (bif (e.kind==3) then true else (bif (e.list==0) then ((e.ops.length:Int)==0) else false))))] [])))))))):=by kernel_rfl
 exact e_.mpr (by intro y_1 y_2;have hh:=h y_1 (Zm _) y_2 (Zm _);exact ⟨id,id,id,hh.1,id,id,id,id,hh.2.1,(by generalize ((e.kind:Int) !=1)=b0;revert b0;decide),(by generalize (ZZ y_2)=b0;generalize ((e.kind:Int) !=1)=b1;revert b0 b1;decide),id,(by generalize ((e.kind:Int) !=1)=b0;revert b0;decide),⟨fun c_1=> (hh.2.2.1 c_1),fun c_1=> ⟨id,id,id,id,id,id,(hh.2.2.2 c_1).1,id,(by generalize ((e.kind:Int) !=2)=b0;revert b0;decide),⟨fun c_2=> ((hh.2.2.2 c_1).2.1 c_2),fun c_2=> ⟨id,id,id,id,id,id,(by generalize ((e.kind:Int)==3)=b0;revert b0;decide),(by generalize ((e.kind:Int)==3)=b0;generalize ((e.list:Int)==0)=b1;revert b0 b1;decide),(by generalize ((e.kind:Int)==3)=b0;revert b0;decide),((hh.2.2.2 c_1).2.2 c_2)⟩⟩⟩⟩⟩)
def Zz3(e:Edit):Prop:=AW (Z0 ZoC) Tryz.f121 Zu8 [] (Zl (Zpp.can (e,())) []) (EQ Tryz.f121 (ZsU (e,())) [])
theorem Zxd(ZBN:CT 178 Z8Y)(hb:∀ (e:Edit) (_:Unit),Zb0 (e,())→Zz3 e):CT 121 Z58:=
 Z4 (l:=[(178,Z8Y)]) Zo rfl (⟨ZBN,trivial⟩) Zu8 Tryz.func121 rfl rfl 1 (fun _=> rfl) (by decide) (fun ⟨e,_⟩=> hb e ())
end
end Go.AM.YtpjenobkibfpcaaGreat
namespace Go.AM.YtpjenobkibfpcaaGreat
open Go.AM Go.Proofs
theorem ZBN:Contract Tryz.prog cfg 178 Z8Y:=by
 refine ZwR ?_
 intro t _ hp
 simp only [Z5i] at hp
 have:=Zki t
 refine ZDH t _ ?_
 refine ⟨fun _=> by unfold InR;omega,Z5 rfl ?_⟩
 rw [Bool.eq_iff_iff]
 simp only [ZZ]
 (simp only [vcS])
 omega
theorem ZC2:Contract Tryz.prog cfg 121 Z58:=by
 refine Zxd ZBN ?_
 intro e _ hp
 simp only [Zb0] at hp
 have h1:=Yg e
 have h2:=Y2 e.kids
 refine ZE8 e _ ?_
 rintro y1 rfl y2 rfl
 (simp only [vcS])
 refine ⟨fun _=> by simp only [Z5i];omega,fun _=> by simp only [Z5i];omega,fun h=> ?_,fun h=> ⟨fun _=> by unfold InR;omega,fun h3=> ?_,fun h3=> ?_⟩⟩
 ·refine Z5 rfl ?_
  show false=Z25 e
  unfold Z25
  rw [if_pos (Or.inl ⟨h.1,fun hn=> by have:=h.2;rw [hn.1,hn.2] at this;revert this;decide⟩)]
 ·refine Z5 rfl ?_
  show false=Z25 e
  unfold Z25
  rw [if_pos (Or.inr (Or.inl ⟨h3.1,by omega⟩))]
 ·refine Z5 rfl ?_
  show _=Z25 e
  unfold Z25
  have g1:¬(e.kind≠1∧¬(ZZ e.old=true∧ZZ e.new=true)):=by
   intro hc
   rcases h with h | h
   ·exact hc.1 (by simpa using h)
   ·exact hc.2 (by simpa using h)
  have g2:¬(e.kind≠2∧¬(e.words.length=0∧e.kids.length=0)):=by omega
  by_cases g3:e.kind≠3∧(e.list≠0∨e.ops.length≠0)
  ·rw [if_pos (Or.inr (Or.inr g3)),Bool.eq_iff_iff]
   (simp only [vcS])
   constructor
   ·intro h;omega
   ·intro h;cases h
  ·rw [if_neg (by rintro (x | x | x) <;> contradiction),Bool.eq_iff_iff]
   (simp only [vcS])
   constructor
   ·intro _;first | trivial | rfl
   ·intro _;omega
end Go.AM.YtpjenobkibfpcaaGreat
