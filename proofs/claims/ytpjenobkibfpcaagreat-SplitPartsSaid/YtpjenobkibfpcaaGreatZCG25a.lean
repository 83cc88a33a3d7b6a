import Derived.Test.YtpjenobkibfpcaaGreatZKB22c
import Derived.Test.YtpjenobkibfpcaaGreatZKL21n
import Derived.Test.YtpjenobkibfpcaaGreatZKD24
import Derived.Test.YtpjenobkibfpcaaGreatZKG22a
import Derived.Test.YtpjenobkibfpcaaGreatZCL25j
set_option linter.unusedSimpArgs false
set_option linter.unusedVariables false
namespace Go.AM.YtpjenobkibfpcaaGreat
open Go.AM Go.Proofs
noncomputable section
noncomputable section
def Zix:ArgL (Edit × Unit):=(.cons (aEl .edit) .nil)
def Z1i(a:Edit × Unit):Prop:=Z9 a.1≤20000000000∧∃ d,Z2 a.1 d=true
def ZeA(a:Edit × Unit):Nat:=2*Z9 a.1
def ZbQ(a:Edit × Unit):V U:= .agg (enc .edit (Zv a.1))
def Z0U:Fs U:=fs Zix (fun a=> [Z1i a]) ZbQ
def Zd2:ArgL (Int × List Op × Unit):=(.cons (YG .i64) (.cons (aSl .op) .nil))
def Z69(a:Int × List Op × Unit):Prop:=Zg a.2.1≤20000000000∧∀ o∈a.2.1,∃ d,Zc a.1 o d=true
def Zc7(a:Int × List Op × Unit):Nat:=2*Zg a.2.1+1
def ZdZ(a:Int × List Op × Unit):V U:= .c (sU .op ((Z1 (Zr a.1 a.2.1 (Wst.mk [] [] []))).out) .unk)
def ZmV:Fs U:=fs Zd2 (fun a=> [Z69 a]) ZdZ
def Z4d(N:Nat):List (FuncId × Fs U):=(67,fs Zix (fun a=> [Z1i a,ZeA a < N]) ZbQ) ::(107,fs Zd2 (fun a=> [Z69 a,Zc7 a < N]) ZdZ) ::[(75,Z0C),(149,Z4j),(147,Z6M),(150,Z2o),(148,Z5R)]
def ZhQ:Zj U:=fun i=> match i with
 | 0=> ([(1,[]),(2,[])],[(.loc 1,[]),(.loc 2,[])])
 | 1=> ([(1,[]),(2,[]),(3,[])],[(.loc 1,[]),(.loc 2,[]),(.loc 3,[])])
 | 2=> ([(1,[]),(2,[]),(3,[]),(12,[])],[(.loc 1,[]),(.loc 2,[]),(.loc 3,[])])
 | 3=> ([(1,[]),(2,[]),(3,[]),(12,[]),(13,[])],[(.loc 1,[]),(.loc 2,[]),(.loc 3,[])])
 | 4=> ([(2,[]),(3,[])],[(.loc 2,[]),(.loc 3,[])])
 | 5=> ([(1,[]),(2,[]),(3,[]),(12,[]),(23,[])],[(.loc 1,[]),(.loc 2,[]),(.loc 3,[])])
 | 6=> ([(1,[]),(2,[]),(3,[])],[(.loc 1,[]),(.loc 2,[]),(.loc 3,[])])
 | 7=> ([(2,[]),(3,[]),(32,[]),(33,[]),(34,[])],[(.loc 2,[]),(.loc 3,[.any,.any,.any,.any,.any,.any,.any,.any,.own .kid])])
 | 8=> ([(2,[]),(3,[]),(32,[]),(33,[]),(34,[]),(35,[])],[(.loc 2,[]),(.loc 3,[])])
 | 9=> ([(2,[]),(3,[]),(5,[]),(32,[]),(33,[]),(34,[])],[(.loc 2,[]),(.loc 3,[]),(.loc 5,[])])
 | 10=> ([(2,[]),(3,[]),(32,[]),(33,[]),(34,[])],[(.loc 2,[]),(.loc 3,[])])
 | 11=> ([(2,[]),(3,[]),(32,[]),(33,[]),(34,[])],[(.loc 2,[]),(.loc 3,[.any,.any,.any,.any,.any,.any,.any,.any,.own .kid])])
 | 12=> ([(1,[]),(2,[]),(3,[]),(50,[])],[(.loc 1,[]),(.loc 2,[]),(.loc 3,[])])
 | 13=> ([(2,[]),(3,[])],[(.loc 2,[]),(.loc 3,[])])
 | 14=> ([(2,[])],[(.loc 2,[])])
 | _=> ([],[])
def Z4D(e:Edit)(x34:Int)(ml3_8:List Kid):LSt U:=(L2 [(2,.ptr (.loc 2) 0),(3,.ptr (.loc 3) 0),(32,.c (sU .kid e.kids .unk)),(33,.c (ci (e.kids.length:Int))),(34,.c (ci x34))] [(.loc 2,zc1),(.loc 3,[ci e.kind,ci 0,.nils,.nils,ci 0,.nils,.nils,sU .wedit (([]:List WEdit)++e.words) (.own (.l 3 7)),sU .kid ml3_8 (.own (.l 3 8)),ci e.list,.nils])])
abbrev W67(N:Nat)(e:Edit)(Q:QT):=AW (Z0 (Z4d N)) Tryz.f67 ZhQ [] (L2 [(0,.agg (enc .edit e))] []) Q
abbrev ZmB(N:Nat):=awp cfg (Z0 (Z4d N)) (ZB cfg (Z0 (Z4d N))) Tryz.f67.ntmps ZhQ
abbrev Zla(N:Nat):=Z5a cfg (Z0 (Z4d N)) (ZB cfg (Z0 (Z4d N))) Tryz.f67.ntmps ZhQ
theorem ZFM(N:Nat)(e:Edit)(Q:QT)(h:((e.kind==1)=true→(Z1h ((Tree.mk e.old.kind e.old.words e.old.kids),()))∧(Z1h ((Tree.mk e.new.kind e.new.words e.new.kids),()))∧(Q .ret (L2 [(2,.ptr (.loc 2) 0)] [(.loc 2,([ci e.kind]++enc .tree (Zd (Tree.mk e.old.kind e.old.words e.old.kids))++enc .tree (Zd (Tree.mk e.new.kind e.new.words e.new.kids))++[.nils,.nils,ci e.list,.nils]))])))∧((e.kind==1)=false→((e.kind==2)=true→((([]:List WEdit).length+e.words.length)*32≤140737488355328)∧(Zf (AW (Z0 (Z4d N)) Tryz.f67 ZhQ [1,1,0,1,0,1,1,1,0,1,1,0,0]) (Z4D e 0 []) (xB 1 (xB 0 (SW (Z0 (Z4d N)) Tryz.f67 ZhQ [1,1,1] Q)))))∧((e.kind==2)=false→((e.kind==3)=true→(Z69 (e.list,e.ops,()))∧(Zc7 (e.list,e.ops,()) < N)∧(Q .ret (L2 [(2,.ptr (.loc 2) 0)] [(.loc 2,[ci e.kind,ci 0,.nils,.nils,ci 0,.nils,.nils,.nils,.nils,ci e.list,sU .op ((Z1 (Zr e.list e.ops (Wst.mk [] [] []))).out) .unk])])))∧((e.kind==3)=false→Q .ret (L2 [(2,.ptr (.loc 2) 0)] [(.loc 2,[ci e.kind,ci 0,.nils,.nils,ci 0,.nils,.nils,.nils,.nils,ci e.list,.nils])]))))):
  W67 N e Q:=by
 have e_:(W67 N e Q)=(((e.kind==1)=true→(Z1h ((Tree.mk e.old.kind e.old.words e.old.kids),()))∧(Z1h ((Tree.mk e.new.kind e.new.words e.new.kids),()))∧(Q .ret (L2 [(2,.ptr (.loc 2) 0)] [(.loc 2,([ci e.kind]++enc .tree (Zd (Tree.mk e.old.kind e.old.words e.old.kids))++enc .tree (Zd (Tree.mk e.new.kind e.new.words e.new.kids))++[.nils,.nils,ci e.list,.nils]))])))∧((e.kind==1)=false→(((e.kind==2)=true→((([]:List WEdit).length+e.words.length)*32≤140737488355328)∧(Zf (ZmB N (cd Tryz.f67 [1,1,0,1,0,1,1,1,0,1,1,0,0])) (Z4D e 0 []) (xB 1 (xB 0 (Zla N (cd Tryz.f67 [1,1,1]) Q)))))∧((e.kind==2)=false→(((e.kind==3)=true→(Z69 (e.list,e.ops,()))∧(Zc7 (e.list,e.ops,()) < N)∧(Q .ret (L2 [(2,.ptr (.loc 2) 0)] [(.loc 2,[ci e.kind,ci 0,.nils,.nils,ci 0,.nils,.nils,.nils,.nils,ci e.list,sU .op ((Z1 (Zr e.list e.ops (Wst.mk [] [] []))).out) .unk])])))∧((e.kind==3)=false→(Q .ret (L2 [(2,.ptr (.loc 2) 0)] [(.loc 2,[ci e.kind,ci 0,.nils,.nils,ci 0,.nils,.nils,.nils,.nils,ci e.list,.nils])])))))))):=by kernel_rfl
 exact e_.mpr ⟨fun c_1=> ⟨(h.1 c_1).1,(h.1 c_1).2.1,(h.1 c_1).2.2⟩,fun c_1=> ⟨fun c_2=> ⟨((h.2 c_1).1 c_2).1,((h.2 c_1).1 c_2).2⟩,fun c_2=> ⟨fun c_3=> ⟨(((h.2 c_1).2 c_2).1 c_3).1,(((h.2 c_1).2 c_2).1 c_3).2.1,(((h.2 c_1).2 c_2).1 c_3).2.2⟩,fun c_3=> (((h.2 c_1).2 c_2).2 c_3)⟩⟩⟩
abbrev Zve(N:Nat)(e:Edit)(x34:Int)(ml3_8:List Kid)(N0:NT)(Q:QT):=AW (Z0 (Z4d N)) Tryz.f67 ZhQ [1,1,0,1,0,1,1,1,0,1,1,0,0] (Z4D e x34 ml3_8) (xT N0 (xB 1 (xB 0 (SW (Z0 (Z4d N)) Tryz.f67 ZhQ [1,1,1] Q))))
theorem ZvP(N:Nat)(e:Edit)(x34:Int)(ml3_8:List Kid)(N0:NT)(Q:QT)(h:∀ y_1,y_1=(e.kids.getD x34.toNat (KidOf.mk 0 Edit.nil))→∀ y_2,y_2=(y_1.e)→∀ y_3,y_3=(Zv y_2)→((decide (x34 < (e.kids.length:Int)))=true→((0:Int)≤x34∧x34 < (e.kids.length:Int))∧((Z1i (y_2,()))∧(ZeA (y_2,()) < N)∧((ml3_8.length+([(KidOf.mk y_1.at_ y_3:Kid)]).length)*208≤140737488355328)∧((InR (x34+1))∧(N0 (Z4D e (x34+1) (ml3_8++([(KidOf.mk y_1.at_ y_3:Kid)])))))))∧((decide (x34 < (e.kids.length:Int)))=false→Q .ret (L2 [(2,.ptr (.loc 2) 0)] [(.loc 2,[ci e.kind,ci 0,.nils,.nils,ci 0,.nils,.nils,sU .wedit (([]:List WEdit)++e.words) (.own (.l 2 7)),sU .kid ml3_8 (.own (.l 2 8)),ci e.list,.nils])]))):
  Zve N e x34 ml3_8 N0 Q:=by
 have e_:(Zve N e x34 ml3_8 N0 Q)=(let y_1:=(e.kids.getD x34.toNat (KidOf.mk 0 Edit.nil));let y_2:=(Yv y_1.e);let y_3:=(Yv (Zv y_2));(((decide ((x34:Int) < (e.kids.length:Int)))=true→((0:Int)≤x34∧x34 < (e.kids.length:Int))∧((Z1i (y_2,()))∧(ZeA (y_2,()) < N)∧((ml3_8.length+([(KidOf.mk y_1.at_ y_3:Kid)]).length)*208≤140737488355328)∧((InR ((x34:Int)+1))∧(N0 (Z4D e ((x34:Int)+1) (ml3_8++([(KidOf.mk y_1.at_ y_3:Kid)])))))))∧((decide ((x34:Int) < (e.kids.length:Int)))=false→(Q .ret (L2 [(2,.ptr (.loc 2) 0)] [(.loc 2,[ci e.kind,ci 0,.nils,.nils,ci 0,.nils,.nils,sU .wedit (([]:List WEdit)++e.words) (.own (.l 2 7)),sU .kid ml3_8 (.own (.l 2 8)),ci e.list,.nils])]))))):=by kernel_rfl
 exact e_.mpr (by intro y_1 y_2 y_3;have hh:=h y_1 rfl y_2 (Z6 _) y_3 (Z6 _);exact ⟨fun c_4=> ⟨(hh.1 c_4).1,⟨(hh.1 c_4).2.1,(hh.1 c_4).2.2.1,(hh.1 c_4).2.2.2.1,⟨(hh.1 c_4).2.2.2.2.1,(hh.1 c_4).2.2.2.2.2⟩⟩⟩,fun c_4=> (hh.2 c_4)⟩)
def ZCG(N:Nat)(e:Edit):Prop:=AW (Z0 (Z4d N)) Tryz.f67 ZhQ [] (Zl (Zix.can (e,())) []) (EQ Tryz.f67 (ZbQ (e,())) [])
abbrev ZFq:Prop:=∀ (N:Nat) (e:Edit) (_:Unit),Z1i (e,())→ZeA (e,()) < N+1→ZCG N e
def Z1N(N:Nat):List (FuncId × Fs U):=(67,fs Zix (fun a=> [Z1i a,ZeA a < N]) ZbQ) ::(107,fs Zd2 (fun a=> [Z69 a,Zc7 a < N]) ZdZ) ::[(75,Z0C),(149,Z4j),(147,Z6M),(150,Z2o),(148,Z5R)]
def Z9R:Zj U:=fun i=> match i with
 | 0=> ([(0,[]),(1,[])],[])
 | 1=> ([(0,[]),(1,[]),(5,[])],[(.loc 10,[.wr .op])])
 | 2=> ([(0,[]),(5,[]),(11,[]),(12,[]),(13,[])],[(.loc 10,[.wr .op,.own .tree,.own .tree])])
 | 3=> ([(0,[]),(5,[]),(11,[]),(12,[]),(13,[]),(14,[])],[(.loc 10,[.wr .op])])
 | 4=> ([(0,[]),(5,[]),(7,[]),(11,[]),(12,[]),(13,[])],[(.loc 7,[]),(.loc 10,[.wr .op])])
 | 5=> ([(0,[]),(5,[]),(7,[]),(11,[]),(12,[]),(13,[]),(18,[])],[(.loc 7,[]),(.loc 10,[.wr .op])])
 | 6=> ([(0,[]),(5,[]),(7,[]),(11,[]),(12,[]),(13,[]),(18,[]),(19,[])],[(.loc 7,[]),(.loc 10,[.wr .op])])
 | 7=> ([(0,[]),(5,[]),(11,[]),(12,[]),(13,[])],[(.loc 10,[.wr .op])])
 | 8=> ([(0,[]),(5,[]),(7,[]),(11,[]),(12,[]),(13,[]),(18,[]),(25,[])],[(.loc 7,[]),(.loc 10,[.wr .op])])
 | 9=> ([(0,[]),(5,[]),(11,[]),(12,[]),(13,[])],[(.loc 10,[.wr .op])])
 | 10=> ([(0,[]),(5,[]),(7,[]),(11,[]),(12,[]),(13,[]),(18,[]),(33,[])],[(.loc 7,[]),(.loc 10,[.wr .op])])
 | 11=> ([(0,[]),(5,[]),(11,[]),(12,[]),(13,[])],[(.loc 10,[.wr .op])])
 | 12=> ([(0,[]),(5,[]),(7,[]),(11,[]),(12,[]),(13,[]),(41,[])],[(.loc 7,[]),(.loc 10,[.wr .op])])
 | 13=> ([(0,[]),(5,[]),(8,[]),(11,[]),(12,[]),(13,[])],[(.loc 8,[]),(.loc 10,[.wr .op])])
 | 14=> ([(0,[]),(5,[]),(8,[]),(11,[]),(12,[]),(13,[]),(48,[])],[(.loc 8,[]),(.loc 10,[.wr .op])])
 | 15=> ([(0,[]),(5,[]),(11,[]),(12,[]),(13,[])],[(.loc 10,[.wr .op])])
 | 16=> ([(0,[]),(5,[]),(8,[]),(11,[]),(12,[]),(13,[])],[(.loc 8,[]),(.loc 10,[.wr .op])])
 | 17=> ([(0,[]),(5,[]),(11,[]),(12,[]),(13,[])],[(.loc 10,[.wr .op])])
 | 18=> ([(0,[]),(5,[]),(11,[]),(12,[]),(13,[])],[(.loc 10,[.wr .op,.own .tree,.own .tree])])
 | 19=> ([(5,[])],[(.loc 10,[.wr .op])])
 | 20=> ([(4,[])],[])
 | _=> ([],[])
def Yh(list:Int)(l:List Op)(x13:Int)(rl_10_0:List Op)(ml10_1 ml10_2:List Tree):LSt U:=(⟨[(0,.c (ci list)),(5,.ptr (.loc 10) 0),(11,.c (sU .op l .unk)),(12,.c (ci (l.length:Int))),(13,.c (ci x13))],[(.loc 10,[.mref (.l 10 0),sU .tree ml10_1 (.own (.l 10 1)),sU .tree ml10_2 (.own (.l 10 2))])],[(.l 10 0,LC.mk (U:=U) .op rl_10_0 0)]⟩:LSt U)
abbrev ZFb(N:Nat)(list:Int)(l:List Op)(Q:QT):=AW (Z0 (Z1N N)) Tryz.f107 Z9R [] (L2 [(0,.c (ci list)),(1,.c (sU .op l .unk))] []) Q
abbrev ZkT(N:Nat):=awp cfg (Z0 (Z1N N)) (ZB cfg (Z0 (Z1N N))) Tryz.f107.ntmps Z9R
abbrev Zjh(N:Nat):=Z5a cfg (Z0 (Z1N N)) (ZB cfg (Z0 (Z1N N))) Tryz.f107.ntmps Z9R
theorem ZEi(N:Nat)(list:Int)(l:List Op)(Q:QT)(h:Zf (AW (Z0 (Z1N N)) Tryz.f107 Z9R [1,1,0,1,0,0]) (Yh list l 0 [] [] []) (xB 0 (SW (Z0 (Z1N N)) Tryz.f107 Z9R [1,1,1] Q))):
  ZFb N list l Q:=by
 have e_:(ZFb N list l Q)=(Zf (ZkT N (cd Tryz.f107 [1,1,0,1,0,0])) (Yh list l 0 [] [] []) (xB 0 (Zjh N (cd Tryz.f107 [1,1,1]) Q))):=by kernel_rfl
 exact e_.mpr h
abbrev ZpM(N:Nat)(list:Int)(l:List Op)(x13:Int)(rl_10_0:List Op)(ml10_1 ml10_2:List Tree)(N0:NT)(Q:QT):=AW (Z0 (Z1N N)) Tryz.f107 Z9R [1,1,0,1,0,0] (Yh list l x13 rl_10_0 ml10_1 ml10_2) (xT N0 (xB 0 (SW (Z0 (Z1N N)) Tryz.f107 Z9R [1,1,1] Q)))
theorem ZrW(N:Nat)(list:Int)(l:List Op)(x13:Int)(rl_10_0:List Op)(ml10_1 ml10_2:List Tree)(N0:NT)(Q:QT)(h:∀ y_1,y_1=(l.getD x13.toNat Op.nil)→∀ y_2,y_2=(Edit.mk 0 (Tree.mk 0 [] []) (Tree.mk 0 [] []) [] [] 0 [])→∀ y_3,y_3=(Int.toNat (((Z1 (Wst.mk rl_10_0 ml10_1 ml10_2)).out).length:Int))→∀ y_4,y_4=(y_1.e)→∀ y_5,y_5=(Zv y_4)→((decide (x13 < (l.length:Int)))=true→((0:Int)≤x13∧x13 < (l.length:Int))∧(((y_1.kind==0)=true→(Z5j ((rl_10_0,ml10_1,ml10_2,()),y_1.n,()))∧((InR (x13+1))∧(N0 (Yh list l (x13+1) ((ZG (Wst.mk rl_10_0 ml10_1 ml10_2) y_1.n).out) ((ZG (Wst.mk rl_10_0 ml10_1 ml10_2) y_1.n).gone) ((ZG (Wst.mk rl_10_0 ml10_1 ml10_2) y_1.n).brought)))))∧((y_1.kind==0)=false→((y_1.kind==1)=true→(ZaX ((rl_10_0,ml10_1,ml10_2,()),y_1.l,()))∧((InR (x13+1))∧(N0 (Yh list l (x13+1) ((Wst.mk rl_10_0 (ml10_1++Zb y_1.l) ml10_2).out) ((Wst.mk rl_10_0 (ml10_1++Zb y_1.l) ml10_2).gone) ((Wst.mk rl_10_0 (ml10_1++Zb y_1.l) ml10_2).brought)))))∧((y_1.kind==1)=false→((y_1.kind==2)=true→(Z72 ((rl_10_0,ml10_1,ml10_2,()),y_1.l,()))∧((InR (x13+1))∧(N0 (Yh list l (x13+1) ((Wst.mk rl_10_0 ml10_1 (ml10_2++Zb y_1.l)).out) ((Wst.mk rl_10_0 ml10_1 (ml10_2++Zb y_1.l)).gone) ((Wst.mk rl_10_0 ml10_1 (ml10_2++Zb y_1.l)).brought)))))∧((y_1.kind==2)=false→((y_1.kind==3)=true→(Z1i (y_4,()))∧(ZeA (y_4,()) < N)∧((Z71 (list,y_5,()))∧(((Z0k list y_5)=true→(Z5j ((rl_10_0,ml10_1,ml10_2,()),1,()))∧((InR (x13+1))∧(N0 (Yh list l (x13+1) ((ZG (Wst.mk rl_10_0 ml10_1 ml10_2) 1).out) ((ZG (Wst.mk rl_10_0 ml10_1 ml10_2) 1).gone) ((ZG (Wst.mk rl_10_0 ml10_1 ml10_2) 1).brought)))))∧((Z0k list y_5)=false→(Z28 ((rl_10_0,ml10_1,ml10_2,()),()))∧(((((Z1 (Wst.mk rl_10_0 ml10_1 ml10_2)).out).length+([(OpOf.mk 0 0 [] y_2:Op)]).length)*240≤140737488355328)∧((0:Int)≤(((Z1 (Wst.mk rl_10_0 ml10_1 ml10_2)).out).length:Int)∧(((Z1 (Wst.mk rl_10_0 ml10_1 ml10_2)).out).length:Int) < ((((Z1 (Wst.mk rl_10_0 ml10_1 ml10_2)).out)++([(OpOf.mk 0 0 [] y_2:Op)])).length:Int))∧((0:Nat)≤y_3)∧((InR (x13+1))∧(N0 (Yh list l (x13+1) (List.set (((Z1 (Wst.mk rl_10_0 ml10_1 ml10_2)).out)++([(OpOf.mk 0 0 [] y_2:Op)])) y_3 (OpOf.mk 3 0 [] y_5:Op)) ((Z1 (Wst.mk rl_10_0 ml10_1 ml10_2)).gone) ((Z1 (Wst.mk rl_10_0 ml10_1 ml10_2)).brought)))))))))∧((y_1.kind==3)=false→(InR (x13+1))∧(N0 (Yh list l (x13+1) rl_10_0 ml10_1 ml10_2))))))))∧((decide (x13 < (l.length:Int)))=false→(Z28 ((rl_10_0,ml10_1,ml10_2,()),()))∧(Q .ret (L2 [(4,.c (sU .op ((Z1 (Wst.mk rl_10_0 ml10_1 ml10_2)).out) (.own (.e 4 0))))] [])))):
  ZpM N list l x13 rl_10_0 ml10_1 ml10_2 N0 Q:=by
 have e_:(ZpM N list l x13 rl_10_0 ml10_1 ml10_2 N0 Q)=(let y_1:=(l.getD x13.toNat Op.nil);let y_2:=(Edit.mk 0 (Tree.mk 0 [] []) (Tree.mk 0 [] []) [] [] 0 []);let y_3:=(Int.toNat (((Z1 (Wst.mk rl_10_0 ml10_1 ml10_2)).out).length:Int));let y_4:=(Yv y_1.e);let y_5:=(Yv (Zv y_4));(((decide ((x13:Int) < (l.length:Int)))=true→((0:Int)≤x13∧x13 < (l.length:Int))∧(((y_1.kind==0)=true→(Z5j ((rl_10_0,ml10_1,ml10_2,()),y_1.n,()))∧((InR ((x13:Int)+1))∧(N0 (Yh list l ((x13:Int)+1) ((ZG (Wst.mk rl_10_0 ml10_1 ml10_2) y_1.n).out) ((ZG (Wst.mk rl_10_0 ml10_1 ml10_2) y_1.n).gone) ((ZG (Wst.mk rl_10_0 ml10_1 ml10_2) y_1.n).brought)))))∧((y_1.kind==0)=false→(((y_1.kind==1)=true→(ZaX ((rl_10_0,ml10_1,ml10_2,()),y_1.l,()))∧((InR ((x13:Int)+1))∧(N0 (Yh list l ((x13:Int)+1) ((Wst.mk rl_10_0 (ml10_1++Zb y_1.l) ml10_2).out) ((Wst.mk rl_10_0 (ml10_1++Zb y_1.l) ml10_2).gone) ((Wst.mk rl_10_0 (ml10_1++Zb y_1.l) ml10_2).brought)))))∧((y_1.kind==1)=false→(((y_1.kind==2)=true→(Z72 ((rl_10_0,ml10_1,ml10_2,()),y_1.l,()))∧((InR ((x13:Int)+1))∧(N0 (Yh list l ((x13:Int)+1) ((Wst.mk rl_10_0 ml10_1 (ml10_2++Zb y_1.l)).out) ((Wst.mk rl_10_0 ml10_1 (ml10_2++Zb y_1.l)).gone) ((Wst.mk rl_10_0 ml10_1 (ml10_2++Zb y_1.l)).brought)))))∧((y_1.kind==2)=false→(((y_1.kind==3)=true→(Z1i (y_4,()))∧(ZeA (y_4,()) < N)∧((Z71 (list,y_5,()))∧(((Z0k list y_5)=true→(Z5j ((rl_10_0,ml10_1,ml10_2,()),1,()))∧((InR ((x13:Int)+1))∧(N0 (Yh list l ((x13:Int)+1) ((ZG (Wst.mk rl_10_0 ml10_1 ml10_2) 1).out) ((ZG (Wst.mk rl_10_0 ml10_1 ml10_2) 1).gone) ((ZG (Wst.mk rl_10_0 ml10_1 ml10_2) 1).brought)))))∧((Z0k list y_5)=false→(Z28 ((rl_10_0,ml10_1,ml10_2,()),()))∧(((((Z1 (Wst.mk rl_10_0 ml10_1 ml10_2)).out).length+([(OpOf.mk 0 0 [] y_2:Op)]).length)*240≤140737488355328)∧((0:Int)≤(((Z1 (Wst.mk rl_10_0 ml10_1 ml10_2)).out).length:Int)∧(((Z1 (Wst.mk rl_10_0 ml10_1 ml10_2)).out).length:Int) < ((((Z1 (Wst.mk rl_10_0 ml10_1 ml10_2)).out)++([(OpOf.mk 0 0 [] y_2:Op)])).length:Int))∧((0:Nat)≤y_3)∧((InR ((x13:Int)+1))∧(N0 (Yh list l ((x13:Int)+1) (List.set (((Z1 (Wst.mk rl_10_0 ml10_1 ml10_2)).out)++([(OpOf.mk 0 0 [] y_2:Op)])) y_3 (OpOf.mk 3 0 [] y_5:Op)) ((Z1 (Wst.mk rl_10_0 ml10_1 ml10_2)).gone) ((Z1 (Wst.mk rl_10_0 ml10_1 ml10_2)).brought)))))))))∧((y_1.kind==3)=false→(InR ((x13:Int)+1))∧(N0 (Yh list l ((x13:Int)+1) rl_10_0 ml10_1 ml10_2)))))))))))∧((decide ((x13:Int) < (l.length:Int)))=false→(Z28 ((rl_10_0,ml10_1,ml10_2,()),()))∧(Q .ret (L2 [(4,.c (sU .op ((Z1 (Wst.mk rl_10_0 ml10_1 ml10_2)).out) (.own (.e 4 0))))] []))))):=by kernel_rfl
 exact e_.mpr (by intro y_1 y_2 y_3 y_4 y_5;have hh:=h y_1 rfl y_2 rfl y_3 rfl y_4 (Z6 _) y_5 (Z6 _);exact ⟨fun c_5=> ⟨(hh.1 c_5).1,⟨fun c_6=> ⟨((hh.1 c_5).2.1 c_6).1,⟨((hh.1 c_5).2.1 c_6).2.1,((hh.1 c_5).2.1 c_6).2.2⟩⟩,fun c_6=> ⟨fun c_7=> ⟨(((hh.1 c_5).2.2 c_6).1 c_7).1,⟨(((hh.1 c_5).2.2 c_6).1 c_7).2.1,(((hh.1 c_5).2.2 c_6).1 c_7).2.2⟩⟩,fun c_7=> ⟨fun c_8=> ⟨((((hh.1 c_5).2.2 c_6).2 c_7).1 c_8).1,⟨((((hh.1 c_5).2.2 c_6).2 c_7).1 c_8).2.1,((((hh.1 c_5).2.2 c_6).2 c_7).1 c_8).2.2⟩⟩,fun c_8=> ⟨fun c_9=> ⟨(((((hh.1 c_5).2.2 c_6).2 c_7).2 c_8).1 c_9).1,(((((hh.1 c_5).2.2 c_6).2 c_7).2 c_8).1 c_9).2.1,⟨(((((hh.1 c_5).2.2 c_6).2 c_7).2 c_8).1 c_9).2.2.1,⟨fun c_10=> ⟨((((((hh.1 c_5).2.2 c_6).2 c_7).2 c_8).1 c_9).2.2.2.1 c_10).1,⟨((((((hh.1 c_5).2.2 c_6).2 c_7).2 c_8).1 c_9).2.2.2.1 c_10).2.1,((((((hh.1 c_5).2.2 c_6).2 c_7).2 c_8).1 c_9).2.2.2.1 c_10).2.2⟩⟩,fun c_10=> ⟨((((((hh.1 c_5).2.2 c_6).2 c_7).2 c_8).1 c_9).2.2.2.2 c_10).1,⟨((((((hh.1 c_5).2.2 c_6).2 c_7).2 c_8).1 c_9).2.2.2.2 c_10).2.1,((((((hh.1 c_5).2.2 c_6).2 c_7).2 c_8).1 c_9).2.2.2.2 c_10).2.2.1,((((((hh.1 c_5).2.2 c_6).2 c_7).2 c_8).1 c_9).2.2.2.2 c_10).2.2.2.1,⟨((((((hh.1 c_5).2.2 c_6).2 c_7).2 c_8).1 c_9).2.2.2.2 c_10).2.2.2.2.1,((((((hh.1 c_5).2.2 c_6).2 c_7).2 c_8).1 c_9).2.2.2.2 c_10).2.2.2.2.2⟩⟩⟩⟩⟩⟩,fun c_9=> ⟨(((((hh.1 c_5).2.2 c_6).2 c_7).2 c_8).2 c_9).1,(((((hh.1 c_5).2.2 c_6).2 c_7).2 c_8).2 c_9).2⟩⟩⟩⟩⟩⟩,fun c_5=> ⟨(hh.2 c_5).1,(hh.2 c_5).2⟩⟩)
def Zzd(N:Nat)(list:Int)(l:List Op):Prop:=AW (Z0 (Z1N N)) Tryz.f107 Z9R [] (Zl (Zd2.can (list,l,())) []) (EQ Tryz.f107 (ZdZ (list,l,())) [])
abbrev ZA9:Prop:=∀ (N:Nat) (list:Int) (l:List Op) (_:Unit),Z69 (list,l,())→Zc7 (list,l,()) < N+1→Zzd N list l
theorem Zqz(c75:CT 75 Z0C)(ZuP:CT 149 Z4j)(ZBU:CT 147 Z6M)(ZqY:CT 150 Z2o)(ZuM:CT 148 Z5R)(ha:ZFq)(hb:ZA9):CT 67 Z0U∧CT 107 ZmV:=
 Z0t (μA:=ZeA) (μB:=Zc7) (l:=[(75,Z0C),(149,Z4j),(147,Z6M),(150,Z2o),(148,Z5R)]) Zo rfl (⟨c75,ZuP,ZBU,ZqY,ZuM,trivial⟩) ZhQ Z9R Tryz.func67 Tryz.func107 rfl rfl rfl rfl 1 2 (fun _=> rfl) (fun _=> rfl) (by decide) (by decide) (fun N ⟨e,_⟩=> ha N e ()) (fun N ⟨list,l,_⟩=> hb N list l ())
end
end
end Go.AM.YtpjenobkibfpcaaGreat
namespace Go.AM.YtpjenobkibfpcaaGreat
open Go.AM Go.Proofs
theorem ZqI(s:Wst)(n:Int):(ZG s n).out.length≤s.out.length+3:=by
 have h:=Z7A s
 simp only [ZG]
 rw [Z6s]
 split
 ·rw [List.length_set];omega
 ·rw [List.length_append];simp;omega
theorem ZxD{s:Wst}{n B K:Int}(hB:0≤B)(hn:0≤n∧n≤K)(h:∀ o∈s.out,0≤o.n∧o.n≤B):∀ o∈(ZG s n).out,0≤o.n∧o.n≤B+K:=by
 have hF:∀ o∈(Z1 s).out,0≤o.n∧o.n≤B:=by
  intro o ho
  rcases Z7z s o ho with h1 | h1
  ·exact h o h1
  ·omega
 intro o ho
 simp only [ZG] at ho
 rw [Z6s] at ho
 split at ho
 ·rename_i hc
  rcases List.mem_or_eq_of_mem_set ho with ho | rfl
  ·have:=hF o ho;omega
  ·have:=hF _ (Zi (l:=(Z1 s).out) (i:=(Z1 s).out.length - 1) (by omega) Op.nil)
   simp only;omega
 ·rcases List.mem_append.1 ho with ho | ho
  ·have:=hF o ho;omega
  ·simp only [List.mem_singleton] at ho;subst ho;simp only;omega
theorem Zet:∀ (l:List Kid),(J3 l).length=l.length
 | []=> rfl
 | k ::r=> by simp [J3,Zet r]
theorem ZlI(e:Edit):(Zv e).words.length≤e.words.length∧(Zv e).kids.length≤e.kids.length:=by
 rw [Z2r]
 split
 ·simp
 ·split
  ·simp [Zet]
  ·split <;> simp
theorem Z9i{list:Int}{o:Op}{d:Int}(h:Zc list o d=true)(hk:o.kind=0):1≤o.n∧o.n≤1048576:=by
 obtain ⟨k,n,l,e⟩:=o
 simp only at hk
 subst hk
 simp [Zc] at h
 show 1≤n∧n≤1048576
 omega
theorem Z9j{list:Int}{o:Op}{d:Int}(h:Zc list o d=true)(hk:o.kind=3):Z2 o.e d=true:=by
 obtain ⟨k,n,l,e⟩:=o
 simp only at hk
 subst hk
 simp [Zc] at h
 exact h.2.1.2
theorem ZgB{e:Edit}{d:Int}(h:Z2 e d=true)(hk:e.kind=2):∀ k∈e.kids,∃ d,Z2 k.e d=true:=by
 obtain ⟨k,o,n,w,ks,l,os⟩:=e
 change k=2 at hk
 subst hk
 have hks:∃ d last,Zx last ks d=true:=by
  unfold Z2 at h
  split at h
  ·cases h
  ·split at h
   ·cases h
   ·rw [if_neg (by omega)] at h
    simp only [Bool.and_eq_true] at h
    exact ⟨_,_,h.1.1.1.2⟩
 obtain ⟨d',last,hks⟩:=hks
 change ∀ k∈ks,_
 clear h
 induction ks generalizing last with
 | nil=> intro k hk;cases hk
 | cons a r ih=>
  simp only [Zx,Bool.and_eq_true] at hks
  intro k hk
  rcases List.mem_cons.1 hk with rfl | hk
  ·obtain ⟨a,e⟩:=k
   simp only [YT,Bool.and_eq_true] at hks
   exact ⟨_,hks.1.2⟩
  ·exact ih _ hks.2 k hk
theorem ZjP{e:Edit}{d:Int}(h:Z2 e d=true)(hk:e.kind=3):∀ o∈e.ops,∃ d,Zc e.list o d=true:=by
 obtain ⟨k,o,n,w,ks,l,os⟩:=e
 change k=3 at hk
 subst hk
 have hos:∃ d,Zp l os d=true:=by
  unfold Z2 at h
  split at h
  ·cases h
  ·split at h
   ·cases h
   ·rw [if_neg (by omega)] at h
    simp only [Bool.and_eq_true] at h
    exact ⟨_,h.1.2⟩
 obtain ⟨d',hos⟩:=hos
 change ∀ o∈os,∃ d,Zc l o d=true
 clear h
 induction os with
 | nil=> intro k hk;cases hk
 | cons a r ih=>
  simp only [Zp,Bool.and_eq_true] at hos
  intro k hk
  rcases List.mem_cons.1 hk with rfl | hk
  ·exact ⟨_,hos.1⟩
  ·exact ih hos.2 k hk
theorem ZGb:ZA9:=by
 intro N list l _ hp hN
 simp only [Z69,Zc7] at hp hN
 obtain ⟨p1,p3⟩:=hp
 have hl:=ZQ l
 refine ZEi _ _ _ _ ?_
 refine Za (ι:=Int × Wst) (fun s=> Yh list l s.1 s.2.out s.2.gone s.2.brought)
  (fun s=> 0≤s.1∧s.1≤l.length∧Zr list (l.drop s.1.toNat) s.2=Zr list l ⟨[],[],[]⟩∧s.2.out.length≤3*s.1∧s.2.gone.length+s.2.brought.length+Zg (l.drop s.1.toNat)≤Zg l∧∀ o∈s.2.out,0≤o.n∧o.n≤s.1*1048576)
  (fun s=> ((l.length:Int) - s.1).toNat) (0,⟨[],[],[]⟩) rfl ⟨by simp,by simp,by simp,by simp,by simp,by simp⟩ ?_
 rintro ⟨i,s⟩ ⟨g1,g2,g3,g4,g5,g6⟩
 dsimp only at g1 g2 g3 g4 g5 g6
 refine ZrW _ _ _ _ _ _ _ _ _ ?_
 rintro y1 hy1 y2 hy2 y3 hy3 y4 hy4 y5 hy5
 have hy:y2=Edit.nil:=hy2
 subst hy
 have es:Wst.mk s.out s.gone s.brought=s:=rfl
 simp only [es] at hy3 ⊢
 (simp only [vcS])
 refine ⟨fun hi=> ?_,fun hi=> ?_⟩
 ·have hmem:=Zi (l:=l) (i:=i.toNat) (by omega) Op.nil
  have hm:=ZW hmem
  have hr:=p3 _ hmem
  rw [Y3 g1 hi Op.nil] at g3 g5
  rw [←hy1] at g3 g5 hm hr
  have hmo:=ZN y1
  simp only [Zr,YE,Zg] at g3 g5
  rw [←hy4,←hy5] at g3
  obtain ⟨d,hr2⟩:=hr
  have hfl:=Z7A s
  have hP:∀ n:Int,0≤n∧n≤1048576→Z5j ((s.out,s.gone,s.brought,()),n,()):=by
   intro n hn
   simp only [Z5j]
   refine ⟨by omega,by omega,by omega,fun o ho=> ?_,by omega,by omega⟩
   have:=g6 o ho
   constructor
   ·omega
   ·have:i*1048576≤20000000000*1048576:=by omega
    omega
  have hK:∀ n:Int,0≤n∧n≤1048576→Zr list (l.drop (i+1).toNat) (ZG s n)=Zr list l ⟨[],[],[]⟩→
    (∃ j:Int × Wst,Yh list l (i+1) (ZG s n).out (ZG s n).gone (ZG s n).brought=Yh list l j.1 j.2.out j.2.gone j.2.brought∧(0≤j.1∧j.1≤l.length∧Zr list (l.drop j.1.toNat) j.2=Zr list l ⟨[],[],[]⟩∧j.2.out.length≤3*j.1∧j.2.gone.length+j.2.brought.length+Zg (l.drop j.1.toNat)≤Zg l∧∀ o∈j.2.out,0≤o.n∧o.n≤j.1*1048576)∧((l.length:Int) - j.1).toNat < ((l.length:Int) - i).toNat):=by
   intro n hn he
   have h1:=ZqI s n
   have h2:=ZxD (s:=s) (n:=n) (B:=i*1048576) (K:=1048576) (by omega) hn g6
   refine ⟨(i+1,ZG s n),rfl,⟨by dsimp only;omega,by dsimp only;omega,he,by dsimp only;omega,by simp only [ZG,List.length_nil];omega,fun o ho=> ?_⟩,by dsimp only;omega⟩
   have:=h2 o ho
   dsimp only
   omega
  refine ⟨⟨g1,hi⟩,fun hk=> ?_,fun hk=> ⟨fun hk1=> ?_,fun hk1=> ⟨fun hk2=> ?_,fun hk2=> ⟨fun hk3=> ?_,fun hk3=> ?_⟩⟩⟩⟩
  ·rw [if_pos hk] at g3
   have h1:=Z9i hr2 hk
   exact ⟨hP _ (by omega),by unfold InR;omega,hK _ (by omega) g3⟩
  ·rw [if_neg hk,if_pos hk1] at g3
   refine ⟨by simp only [ZaX];omega,by unfold InR;omega,(i+1,⟨s.out,s.gone++Zb y1.l,s.brought⟩),rfl,⟨by dsimp only;omega,by dsimp only;omega,g3,by dsimp only;omega,?_,fun o ho=> ?_⟩,by dsimp only;omega⟩
   ·have:=ZA y1.l
    simp only [List.length_append,Zb,List.length_map];omega
   ·have:=g6 o ho
    dsimp only;omega
  ·rw [if_neg hk,if_neg hk1,if_pos hk2] at g3
   refine ⟨by simp only [Z72];omega,by unfold InR;omega,(i+1,⟨s.out,s.gone,s.brought++Zb y1.l⟩),rfl,⟨by dsimp only;omega,by dsimp only;omega,g3,by dsimp only;omega,?_,fun o ho=> ?_⟩,by dsimp only;omega⟩
   ·have:=ZA y1.l
    simp only [List.length_append,Zb,List.length_map];omega
   ·have:=g6 o ho
    dsimp only;omega
  ·rw [if_neg hk,if_neg hk1,if_neg hk2,if_pos hk3] at g3
   have hre:=Z9j hr2 hk3
   rw [←hy4] at hre
   have hw:=ZlI y4
   rw [←hy5] at hw
   have h1:=Yg y4
   have h2:=Y2 y4.kids
   have hmE:Z9 y4≤Zw y1:=by rw [hmo,hy4];omega
   refine ⟨by simp only [Z1i];exact ⟨by omega,d,hre⟩,by simp only [ZeA];omega,by simp only [Z71];omega,fun hq=> ?_,fun hq=> ?_⟩
   ·rw [if_pos hq] at g3
    exact ⟨hP 1 (by omega),by unfold InR;omega,hK 1 (by omega) g3⟩
   ·rw [if_neg (by rw [hq];simp)] at g3
    rw [hy3,Z37]
    refine ⟨by simp only [Z28];omega,by simp only [List.length_cons,List.length_nil];omega,by simp only [List.length_append,List.length_cons,List.length_nil];omega,by omega,by unfold InR;omega,(i+1,⟨(Z1 s).out++[⟨3,0,[],y5⟩],[],[]⟩),rfl,⟨by dsimp only;omega,by dsimp only;omega,g3,by simp;omega,by simp;omega,fun o ho=> ?_⟩,by dsimp only;omega⟩
    dsimp only at ho ⊢
    rcases List.mem_append.1 ho with ho | ho
    ·rcases Z7z s o ho with h5 | h5
     ·have:=g6 o h5;omega
     ·omega
    ·simp only [List.mem_singleton] at ho
     subst ho
     simp only;omega
  ·rw [if_neg hk,if_neg hk1,if_neg hk2,if_neg hk3] at g3
   refine ⟨by unfold InR;omega,(i+1,s),rfl,⟨by dsimp only;omega,by dsimp only;omega,g3,by dsimp only;omega,by dsimp only;omega,fun o ho=> ?_⟩,by dsimp only;omega⟩
   have:=g6 o ho
   dsimp only;omega
 ·rw [List.drop_of_length_le (by omega)] at g3
  simp only [Zr] at g3
  refine ⟨by simp only [Z28];omega,?_⟩
  simp only [ZdZ]
  rw [←g3]
  (repeat' (first | exact trivial | exact rfl | apply And.intro))
theorem b67:ZFq:=by
 intro N e _ hp hN
 simp only [Z1i,ZeA] at hp hN
 obtain ⟨p1,d,p3⟩:=hp
 have h1:=Yg e
 have h2:=Y2 e.kids
 have h3:=ZQ e.ops
 have ha:=Z2r e
 refine ZFM _ _ _ ?_
 (simp only [vcS])
 (simp only [Tree.eta,Edit.eta,Tree.kind_mk,Tree.words_mk,Tree.kids_mk])
 refine ⟨fun hk=> ⟨by simp only [Z1h];omega,by simp only [Z1h];omega,?_⟩,fun hk=> ⟨fun hk2=> ⟨by simp;omega,?_⟩,fun hk2=> ⟨fun hk3=> ⟨?_,by simp only [Zc7];omega,?_⟩,fun hk3=> ?_⟩⟩⟩
 ·rw [if_pos hk] at ha
  simp only [ZbQ,ha]
  (repeat' (first | exact trivial | exact rfl | apply And.intro))
 ·rw [if_neg hk,if_pos hk2] at ha
  refine Za (ι:=Int × List Kid) (fun s=> Z4D e s.1 s.2) (fun s=> 0≤s.1∧s.1≤e.kids.length∧s.2.length=s.1∧s.2++J3 (e.kids.drop s.1.toNat)=J3 e.kids) (fun s=> ((e.kids.length:Int) - s.1).toNat) (0,[]) rfl ⟨by simp,by simp,by simp,by simp⟩ ?_
  rintro ⟨j,ks⟩ ⟨f1,f2,f3,f4⟩
  dsimp only at f1 f2 f3 f4
  refine ZvP _ _ _ _ _ _ ?_
  rintro y1 hy1 y2 hy2 y3 hy3
  (simp only [vcS])
  refine ⟨fun hj=> ?_,fun hj=> ?_⟩
  ·have hmem:=Zi (l:=e.kids) (i:=j.toNat) (by omega) (KidOf.mk 0 Edit.nil)
   have hm:=YQ hmem
   have hr:=ZgB p3 hk2 _ hmem
   rw [Y3 f1 hj (KidOf.mk 0 Edit.nil)] at f4
   rw [←hy1] at f4 hm hr
   simp only [J3,Z76] at f4
   rw [←hy2] at f4 hm hr
   rw [←hy3] at f4
   refine ⟨⟨f1,hj⟩,by simp only [Z1i];exact ⟨by omega,hr⟩,by simp only [ZeA];omega,by simp;omega,by unfold InR;omega,(j+1,ks++[⟨y1.at_,y3⟩]),rfl,⟨by dsimp only;omega,by dsimp only;omega,by simp;omega,?_⟩,by dsimp only;omega⟩
   simp only [List.append_assoc,List.cons_append,List.nil_append]
   exact f4
  ·rw [List.drop_of_length_le (by omega)] at f4
   simp only [J3,List.append_nil] at f4
   rw [f4]
   simp only [ZbQ,ha]
   (repeat' (first | exact trivial | exact rfl | apply And.intro))
 ·simp only [Z69]
  exact ⟨by omega,fun o ho=> ZjP p3 hk3 o ho⟩
 ·rw [if_neg hk,if_neg hk2,if_pos hk3] at ha
  simp only [ZbQ,ha]
  (repeat' (first | exact trivial | exact rfl | apply And.intro))
 ·rw [if_neg hk,if_neg hk2,if_neg hk3] at ha
  simp only [ZbQ,ha]
  (repeat' (first | exact trivial | exact rfl | apply And.intro))
theorem Zir:Contract Tryz.prog cfg 67 Z0U∧Contract Tryz.prog cfg 107 ZmV:=Zqz c75 ZuP ZBU ZqY ZuM b67 ZGb
end Go.AM.YtpjenobkibfpcaaGreat
namespace Go.AM.YtpjenobkibfpcaaGreat
open Go.AM Go.Proofs
noncomputable section
abbrev ZR(p:Prop):Prop:=p→p
noncomputable section
def Ziz:ArgL (Edit × Unit):=(.cons (aEl .edit) .nil)
def Z4q(a:Edit × Unit):Prop:=Z9 a.1≤20000000000∧∃ d,Z2 a.1 d=true
def ZeB(a:Edit × Unit):Nat:=2*Z9 a.1
def ZbR(a:Edit × Unit):V U:= .agg (enc .edit (Zv a.1))
def Z5O:Fs U:=fs Ziz (fun a=> [Z4q a]) ZbR
def Ziv:ArgL (Int × List Op × Unit):=(.cons (YG .i64) (.cons (aSl .op) .nil))
def ZbT(a:Int × List Op × Unit):Prop:=Zg a.2.1≤20000000000∧∀ o∈a.2.1,∃ d,Zc a.1 o d=true
def ZjZ(a:Int × List Op × Unit):Nat:=2*Zg a.2.1+1
def ZdS(a:Int × List Op × Unit):V U:= .c (sU .op ((Z1 (Zr a.1 a.2.1 (Wst.mk [] [] []))).out) .unk)
def Zs8:Fs U:=fs Ziv (fun a=> [ZbT a]) ZdS
def Z2b(N:Nat):List (FuncId × Fs U):=(29,fs Ziz (fun a=> [Z4q a,ZeB a < N]) ZbR) ::(79,fs Ziv (fun a=> [ZbT a,ZjZ a < N]) ZdS) ::[(41,Z52),(127,Z6O),(128,Z4k)]
def ZeN:Zj U:=fun i=> match i with
 | 0=> ([(1,[]),(2,[])],[(.loc 1,[]),(.loc 2,[])])
 | 1=> ([(1,[]),(2,[]),(6,[])],[(.loc 1,[]),(.loc 2,[])])
 | 2=> ([(1,[]),(2,[]),(6,[]),(7,[])],[(.loc 1,[]),(.loc 2,[])])
 | 3=> ([(2,[])],[(.loc 2,[])])
 | 4=> ([(1,[]),(2,[]),(6,[]),(16,[])],[(.loc 1,[]),(.loc 2,[])])
 | 5=> ([(1,[]),(2,[]),(3,[])],[(.loc 1,[]),(.loc 2,[]),(.loc 3,[])])
 | 6=> ([(1,[]),(2,[]),(3,[])],[(.loc 1,[]),(.loc 2,[]),(.loc 3,[])])
 | 7=> ([(1,[]),(2,[]),(3,[]),(4,[])],[(.loc 1,[]),(.loc 2,[]),(.loc 3,[.any,.any,.any,.any,.any,.any,.any,.any,.own .kid])])
 | 8=> ([(1,[]),(2,[]),(3,[]),(4,[]),(29,[])],[(.loc 1,[]),(.loc 2,[]),(.loc 3,[])])
 | 9=> ([(1,[]),(2,[]),(3,[]),(4,[])],[(.loc 1,[]),(.loc 2,[]),(.loc 3,[.any,.any,.any,.any,.any,.any,.any,.any,.own .kid])])
 | 10=> ([(1,[]),(2,[]),(3,[]),(4,[])],[(.loc 1,[]),(.loc 2,[]),(.loc 3,[])])
 | 11=> ([(2,[])],[(.loc 2,[])])
 | 12=> ([(1,[]),(2,[]),(52,[])],[(.loc 1,[]),(.loc 2,[])])
 | 13=> ([(2,[])],[(.loc 2,[])])
 | 14=> ([(2,[])],[(.loc 2,[])])
 | _=> ([],[])
def Z4E(e:Edit)(x4:Int)(ml3_8:List Kid):LSt U:=(L2 [(1,.ptr (.loc 1) 0),(2,.ptr (.loc 2) 0),(3,.ptr (.loc 3) 0),(4,.c (ci x4))] [(.loc 1,(enc .edit e)),(.loc 2,zc1),(.loc 3,[ci 2,ci 0,.nils,.nils,ci 0,.nils,.nils,sU .wedit (([]:List WEdit)++e.words) (.own (.l 3 7)),sU .kid ml3_8 (.own (.l 3 8)),ci 0,.nils])])
abbrev W29(N:Nat)(e:Edit)(Q:QT):=AW (Z0 (Z2b N)) Tryz.f29 ZeN [] (L2 [(0,.agg (enc .edit e))] []) Q
abbrev ZmD(N:Nat):=awp cfg (Z0 (Z2b N)) (ZB cfg (Z0 (Z2b N))) Tryz.f29.ntmps ZeN
abbrev ZdI(N:Nat):=Z5a cfg (Z0 (Z2b N)) (ZB cfg (Z0 (Z2b N))) Tryz.f29.ntmps ZeN
theorem ZFS(N:Nat)(e:Edit)(Q:QT)(h:((e.kind==1)=true→(Z3g ((Tree.mk e.old.kind e.old.words e.old.kids),()))∧(Z3g ((Tree.mk e.new.kind e.new.words e.new.kids),()))∧(Q .ret (L2 [(2,.ptr (.loc 2) 0)] [(.loc 2,([ci 1]++enc .tree (Zd (Tree.mk e.old.kind e.old.words e.old.kids))++enc .tree (Zd (Tree.mk e.new.kind e.new.words e.new.kids))++[.nils,.nils,ci 0,.nils]))])))∧((e.kind==1)=false→((e.kind==2)=true→((([]:List WEdit).length+e.words.length)*32≤140737488355328)∧(Zf (AW (Z0 (Z2b N)) Tryz.f29 ZeN [1,0,1,0,1,1,1,0,1,1,0,1,0,0]) (Z4E e 0 []) (xB 1 (SW (Z0 (Z2b N)) Tryz.f29 ZeN [1,0,1,0,1,1,1,0,1,1,1] (xB 0 (SW (Z0 (Z2b N)) Tryz.f29 ZeN [1,1] Q))))))∧((e.kind==2)=false→((e.kind==3)=true→(ZbT (e.list,e.ops,()))∧(ZjZ (e.list,e.ops,()) < N)∧(Q .ret (L2 [(2,.ptr (.loc 2) 0)] [(.loc 2,[ci 3,ci 0,.nils,.nils,ci 0,.nils,.nils,.nils,.nils,ci e.list,sU .op ((Z1 (Zr e.list e.ops (Wst.mk [] [] []))).out) .unk])])))∧((e.kind==3)=false→Q .ret (L2 [(2,.ptr (.loc 2) 0)] [(.loc 2,zc1)]))))):
  W29 N e Q:=by
 have e_:(W29 N e Q)=(((e.kind==1)=true→(Z3g ((Tree.mk e.old.kind e.old.words e.old.kids),()))∧(Z3g ((Tree.mk e.new.kind e.new.words e.new.kids),()))∧(Q .ret (L2 [(2,.ptr (.loc 2) 0)] [(.loc 2,([ci 1]++enc .tree (Zd (Tree.mk e.old.kind e.old.words e.old.kids))++enc .tree (Zd (Tree.mk e.new.kind e.new.words e.new.kids))++[.nils,.nils,ci 0,.nils]))])))∧((e.kind==1)=false→(((e.kind==2)=true→(((([]:List WEdit).length+e.words.length)*32≤140737488355328)∧(Zf (ZmD N (cd Tryz.f29 [1,0,1,0,1,1,1,0,1,1,0,1,0,0])) (Z4E e 0 []) (xB 1 (ZdI N (cd Tryz.f29 [1,0,1,0,1,1,1,0,1,1,1]) (xB 0 (ZdI N (cd Tryz.f29 [1,1]) Q)))))))∧((e.kind==2)=false→(((e.kind==3)=true→(ZbT (e.list,e.ops,()))∧(ZjZ (e.list,e.ops,()) < N)∧(Q .ret (L2 [(2,.ptr (.loc 2) 0)] [(.loc 2,[ci 3,ci 0,.nils,.nils,ci 0,.nils,.nils,.nils,.nils,ci e.list,sU .op ((Z1 (Zr e.list e.ops (Wst.mk [] [] []))).out) .unk])])))∧((e.kind==3)=false→(Q .ret (L2 [(2,.ptr (.loc 2) 0)] [(.loc 2,zc1)])))))))):=by kernel_rfl
 exact e_.mpr ⟨fun c_1=> ⟨(h.1 c_1).1,(h.1 c_1).2.1,(h.1 c_1).2.2⟩,fun c_1=> ⟨fun c_2=> ⟨((h.2 c_1).1 c_2).1,((h.2 c_1).1 c_2).2⟩,fun c_2=> ⟨fun c_3=> ⟨(((h.2 c_1).2 c_2).1 c_3).1,(((h.2 c_1).2 c_2).1 c_3).2.1,(((h.2 c_1).2 c_2).1 c_3).2.2⟩,fun c_3=> (((h.2 c_1).2 c_2).2 c_3)⟩⟩⟩
abbrev Zvf(N:Nat)(e:Edit)(x4:Int)(ml3_8:List Kid)(N0:NT)(Q:QT):=AW (Z0 (Z2b N)) Tryz.f29 ZeN [1,0,1,0,1,1,1,0,1,1,0,1,0,0] (Z4E e x4 ml3_8) (xT N0 (xB 1 (SW (Z0 (Z2b N)) Tryz.f29 ZeN [1,0,1,0,1,1,1,0,1,1,1] (xB 0 (SW (Z0 (Z2b N)) Tryz.f29 ZeN [1,1] Q)))))
theorem ZvX(N:Nat)(e:Edit)(x4:Int)(ml3_8:List Kid)(N0:NT)(Q:QT)(h:∀ y_1,y_1=(e.kids.getD x4.toNat (KidOf.mk 0 Edit.nil))→∀ y_2,y_2=(y_1.e)→∀ y_3,y_3=(Zv y_2)→((decide (x4 < (e.kids.length:Int)))=true→((0:Int)≤x4∧x4 < (e.kids.length:Int))∧((0:Int)≤x4∧x4 < (e.kids.length:Int))∧(Z4q (y_2,()))∧(ZeB (y_2,()) < N)∧((ml3_8.length+([(KidOf.mk y_1.at_ y_3:Kid)]).length)*208≤140737488355328)∧((InR (x4+1))∧(N0 (Z4E e (x4+1) (ml3_8++([(KidOf.mk y_1.at_ y_3:Kid)]))))))∧((decide (x4 < (e.kids.length:Int)))=false→Q .ret (L2 [(2,.ptr (.loc 2) 0)] [(.loc 2,[ci 2,ci 0,.nils,.nils,ci 0,.nils,.nils,sU .wedit (([]:List WEdit)++e.words) (.own (.l 2 7)),sU .kid ml3_8 (.own (.l 2 8)),ci 0,.nils])]))):
  Zvf N e x4 ml3_8 N0 Q:=by
 have e_:(Zvf N e x4 ml3_8 N0 Q)=(let y_1:=(e.kids.getD x4.toNat (KidOf.mk 0 Edit.nil));let y_2:=(Yv y_1.e);let y_3:=(Yv (Zv y_2));(((decide ((x4:Int) < (e.kids.length:Int)))=true→((0:Int)≤x4∧x4 < (e.kids.length:Int))∧((0:Int)≤x4∧x4 < (e.kids.length:Int))∧(Z4q (y_2,()))∧(ZeB (y_2,()) < N)∧((ml3_8.length+([(KidOf.mk y_1.at_ y_3:Kid)]).length)*208≤140737488355328)∧((InR ((x4:Int)+1))∧(N0 (Z4E e ((x4:Int)+1) (ml3_8++([(KidOf.mk y_1.at_ y_3:Kid)]))))))∧((decide ((x4:Int) < (e.kids.length:Int)))=false→(Q .ret (L2 [(2,.ptr (.loc 2) 0)] [(.loc 2,[ci 2,ci 0,.nils,.nils,ci 0,.nils,.nils,sU .wedit (([]:List WEdit)++e.words) (.own (.l 2 7)),sU .kid ml3_8 (.own (.l 2 8)),ci 0,.nils])]))))):=by kernel_rfl
 exact e_.mpr (by intro y_1 y_2 y_3;have hh:=h y_1 rfl y_2 (Z6 _) y_3 (Z6 _);exact ⟨fun c_4=> ⟨(hh.1 c_4).1,(hh.1 c_4).2.1,(hh.1 c_4).2.2.1,(hh.1 c_4).2.2.2.1,(hh.1 c_4).2.2.2.2.1,⟨(hh.1 c_4).2.2.2.2.2.1,(hh.1 c_4).2.2.2.2.2.2⟩⟩,fun c_4=> (hh.2 c_4)⟩)
def ZCM(N:Nat)(e:Edit):Prop:=AW (Z0 (Z2b N)) Tryz.f29 ZeN [] (Zl (Ziz.can (e,())) []) (EQ Tryz.f29 (ZbR (e,())) [])
abbrev ZFs:Prop:=∀ (N:Nat) (e:Edit) (_:Unit),Z4q (e,())→ZeB (e,()) < N+1→ZCM N e
def YR(N:Nat):List (FuncId × Fs U):=(29,fs Ziz (fun a=> [Z4q a,ZeB a < N]) ZbR) ::(79,fs Ziv (fun a=> [ZbT a,ZjZ a < N]) ZdS) ::[(41,Z52),(127,Z6O),(128,Z4k)]
def Z2t:Zj U:=fun i=> match i with
 | 0=> ([(0,[]),(1,[])],[])
 | 1=> ([(0,[]),(1,[]),(5,[.wr .op])],[])
 | 2=> ([(0,[]),(1,[]),(5,[.wr .op]),(6,[])],[])
 | 3=> ([(0,[]),(1,[]),(5,[.wr .op]),(6,[]),(16,[])],[])
 | 4=> ([(0,[]),(1,[]),(5,[.wr .op]),(6,[])],[])
 | 5=> ([(0,[]),(1,[]),(5,[.wr .op]),(6,[]),(7,[]),(8,[])],[])
 | 6=> ([(0,[]),(1,[]),(5,[.wr .op]),(7,[]),(8,[]),(9,[])],[])
 | 7=> ([(0,[]),(1,[]),(5,[.wr .op]),(7,[]),(8,[]),(9,[]),(33,[])],[])
 | 8=> ([(0,[]),(1,[]),(5,[.wr .op]),(8,[]),(9,[])],[])
 | 9=> ([(0,[]),(1,[]),(5,[.wr .op]),(8,[]),(9,[]),(41,[])],[])
 | 10=> ([(0,[]),(1,[]),(5,[.wr .op]),(8,[]),(9,[]),(41,[])],[])
 | 11=> ([(0,[]),(1,[]),(5,[.wr .op]),(6,[])],[])
 | 12=> ([(0,[]),(1,[]),(5,[.wr .op]),(6,[]),(51,[])],[])
 | 13=> ([(4,[])],[])
 | 14=> ([(0,[]),(1,[]),(5,[.wr .op]),(6,[]),(11,[])],[(.loc 11,[])])
 | 15=> ([(0,[]),(1,[]),(5,[.wr .op]),(6,[]),(11,[]),(64,[])],[(.loc 11,[])])
 | 16=> ([(0,[]),(1,[]),(5,[.wr .op]),(6,[]),(11,[])],[(.loc 11,[])])
 | 17=> ([(0,[]),(1,[]),(5,[.wr .op]),(6,[]),(11,[]),(75,[])],[(.loc 11,[])])
 | 18=> ([(0,[]),(1,[]),(5,[.wr .op]),(6,[]),(11,[])],[(.loc 11,[])])
 | 19=> ([(0,[]),(1,[]),(5,[.wr .op]),(6,[]),(11,[]),(12,[])],[(.loc 11,[])])
 | 20=> ([(0,[]),(1,[]),(5,[.wr .op]),(6,[]),(11,[]),(12,[]),(94,[])],[(.loc 11,[])])
 | 21=> ([(0,[]),(1,[]),(5,[.wr .op]),(6,[])],[])
 | 22=> ([(0,[]),(1,[]),(5,[.wr .op]),(6,[])],[])
 | 23=> ([(4,[])],[])
 | _=> ([],[])
def Yn(list:Int)(l:List Op)(x6:Int)(re_5_0:List Op):LSt U:=(⟨[(0,.c (ci list)),(1,.c (sU .op l .unk)),(5,.c (.mref (.e 5 0))),(6,.c (ci x6))],[],[(.e 5 0,LC.mk (U:=U) .op re_5_0 0)]⟩:LSt U)
def Z19(list:Int)(l:List Op)(x6:Int)(re_5_0_a:List Op):LSt U:=(⟨[(0,.c (ci list)),(1,.c (sU .op l .unk)),(5,.c (.mref (.e 5 0))),(8,.c (ci (x6+Y0 (l.drop x6.toNat)))),(9,.c (sU .tree (YS 2 (l.drop x6.toNat)) .unk)),(41,.c (.bool (decide ((0:Int) < ((YS 2 (l.drop x6.toNat)).length:Int)))))],[],[(.e 5 0,LC.mk (U:=U) .op re_5_0_a 0)]⟩:LSt U)
abbrev W79(N:Nat)(list:Int)(l:List Op)(Q:QT):=AW (Z0 (YR N)) Tryz.f79 Z2t [] (L2 [(0,.c (ci list)),(1,.c (sU .op l .unk))] []) Q
abbrev Z3u(N:Nat):=awp cfg (Z0 (YR N)) (ZB cfg (Z0 (YR N))) Tryz.f79.ntmps Z2t
abbrev JC(N:Nat):=Z5a cfg (Z0 (YR N)) (ZB cfg (Z0 (YR N))) Tryz.f79.ntmps Z2t
theorem ZFC(N:Nat)(list:Int)(l:List Op)(Q:QT)(h:Zf (AW (Z0 (YR N)) Tryz.f79 Z2t [1,1,0,1,0,0]) (Yn list l 0 []) (xB 0 (SW (Z0 (YR N)) Tryz.f79 Z2t [1,1,1] Q))):
  W79 N list l Q:=by
 have e_:(W79 N list l Q)=(Zf (Z3u N (cd Tryz.f79 [1,1,0,1,0,0])) (Yn list l 0 []) (xB 0 (JC N (cd Tryz.f79 [1,1,1]) Q))):=by kernel_rfl
 exact e_.mpr h
abbrev Zvd(N:Nat)(list:Int)(l:List Op)(x6:Int)(re_5_0:List Op)(N0:NT)(Q:QT):=AW (Z0 (YR N)) Tryz.f79 Z2t [1,1,0,1,0,0] (Yn list l x6 re_5_0) (xT N0 (xB 0 (SW (Z0 (YR N)) Tryz.f79 Z2t [1,1,1] Q)))
theorem ZvA(N:Nat)(list:Int)(l:List Op)(x6:Int)(re_5_0:List Op)(N0:NT)(Q:QT)(h:∀ y_1,y_1=(Edit.mk 0 (Tree.mk 0 [] []) (Tree.mk 0 [] []) [] [] 0 [])→((decide (x6 < (l.length:Int)))=true→(Z5k (l,x6,1,()))∧((Z5k (l,x6,2,()))∧(((decide ((0:Int) < ((YS 1 (l.drop x6.toNat)).length:Int)))=true→((re_5_0.length+([(OpOf.mk 1 0 (YS 1 (l.drop x6.toNat)) y_1:Op)]).length)*240≤140737488355328)∧(((decide ((0:Int) < ((YS 2 (l.drop x6.toNat)).length:Int)))=true→(((re_5_0++([(OpOf.mk 1 0 (YS 1 (l.drop x6.toNat)) y_1:Op)])).length+([(OpOf.mk 2 0 (YS 2 (l.drop x6.toNat)) y_1:Op)]).length)*240≤140737488355328)∧(AW (Z0 (YR N)) Tryz.f79 Z2t [1,1,0,1,0,0,1,0,0,1,1,1,1] (Z19 list l x6 ((re_5_0++([(OpOf.mk 1 0 (YS 1 (l.drop x6.toNat)) y_1:Op)]))++([(OpOf.mk 2 0 (YS 2 (l.drop x6.toNat)) y_1:Op)]))) (xB 1 (SW (Z0 (YR N)) Tryz.f79 Z2t [1,1,0,1,0,0,1,1] (xT N0 (xB 0 (SW (Z0 (YR N)) Tryz.f79 Z2t [1,1,1] Q)))))))∧((decide ((0:Int) < ((YS 2 (l.drop x6.toNat)).length:Int)))=false→AW (Z0 (YR N)) Tryz.f79 Z2t [1,1,0,1,0,0,1,0,0,1,1,1,1] (Z19 list l x6 (re_5_0++([(OpOf.mk 1 0 (YS 1 (l.drop x6.toNat)) y_1:Op)]))) (xB 1 (SW (Z0 (YR N)) Tryz.f79 Z2t [1,1,0,1,0,0,1,1] (xT N0 (xB 0 (SW (Z0 (YR N)) Tryz.f79 Z2t [1,1,1] Q))))))))∧((decide ((0:Int) < ((YS 1 (l.drop x6.toNat)).length:Int)))=false→((decide ((0:Int) < ((YS 2 (l.drop x6.toNat)).length:Int)))=true→((re_5_0.length+([(OpOf.mk 2 0 (YS 2 (l.drop x6.toNat)) y_1:Op)]).length)*240≤140737488355328)∧(AW (Z0 (YR N)) Tryz.f79 Z2t [1,1,0,1,0,0,1,0,0,1,1,1,1] (Z19 list l x6 (re_5_0++([(OpOf.mk 2 0 (YS 2 (l.drop x6.toNat)) y_1:Op)]))) (xB 1 (SW (Z0 (YR N)) Tryz.f79 Z2t [1,1,0,1,0,0,1,1] (xT N0 (xB 0 (SW (Z0 (YR N)) Tryz.f79 Z2t [1,1,1] Q)))))))∧((decide ((0:Int) < ((YS 2 (l.drop x6.toNat)).length:Int)))=false→AW (Z0 (YR N)) Tryz.f79 Z2t [1,1,0,1,0,0,1,0,0,1,1,1,1] (Z19 list l x6 re_5_0) (xB 1 (SW (Z0 (YR N)) Tryz.f79 Z2t [1,1,0,1,0,0,1,1] (xT N0 (xB 0 (SW (Z0 (YR N)) Tryz.f79 Z2t [1,1,1] Q))))))))))∧((decide (x6 < (l.length:Int)))=false→Q .ret (L2 [(4,.c (sU .op re_5_0 (.own (.e 4 0))))] []))):
  Zvd N list l x6 re_5_0 N0 Q:=by
 have e_:(Zvd N list l x6 re_5_0 N0 Q)=(let y_1:=(Edit.mk 0 (Tree.mk 0 [] []) (Tree.mk 0 [] []) [] [] 0 []);let zz1:=(decide ((0:Int) < ((YS 1 (l.drop x6.toNat)).length:Int)));let zz0:=(decide ((0:Int) < ((YS 2 (l.drop x6.toNat)).length:Int)));(((decide ((x6:Int) < (l.length:Int)))=true→(Z5k (l,x6,1,()))∧((Z5k (l,x6,2,()))∧((zz1=true→((re_5_0.length+([(OpOf.mk 1 0 (YS 1 (l.drop x6.toNat)) y_1:Op)]).length)*240≤140737488355328)∧((zz0=true→(((re_5_0++([(OpOf.mk 1 0 (YS 1 (l.drop x6.toNat)) y_1:Op)])).length+([(OpOf.mk 2 0 (YS 2 (l.drop x6.toNat)) y_1:Op)]).length)*240≤140737488355328)∧(Z3u N (cd Tryz.f79 [1,1,0,1,0,0,1,0,0,1,1,1,1]) (Z19 list l x6 ((re_5_0++([(OpOf.mk 1 0 (YS 1 (l.drop x6.toNat)) y_1:Op)]))++([(OpOf.mk 2 0 (YS 2 (l.drop x6.toNat)) y_1:Op)]))) (xB 1 (JC N (cd Tryz.f79 [1,1,0,1,0,0,1,1]) (xT N0 (xB 0 (JC N (cd Tryz.f79 [1,1,1]) Q)))))))∧(zz0=false→Z3u N (cd Tryz.f79 [1,1,0,1,0,0,1,0,0,1,1,1,1]) (Z19 list l x6 (re_5_0++([(OpOf.mk 1 0 (YS 1 (l.drop x6.toNat)) y_1:Op)]))) (xB 1 (JC N (cd Tryz.f79 [1,1,0,1,0,0,1,1]) (xT N0 (xB 0 (JC N (cd Tryz.f79 [1,1,1]) Q))))))))∧(zz1=false→((zz0=true→((re_5_0.length+([(OpOf.mk 2 0 (YS 2 (l.drop x6.toNat)) y_1:Op)]).length)*240≤140737488355328)∧(Z3u N (cd Tryz.f79 [1,1,0,1,0,0,1,0,0,1,1,1,1]) (Z19 list l x6 (re_5_0++([(OpOf.mk 2 0 (YS 2 (l.drop x6.toNat)) y_1:Op)]))) (xB 1 (JC N (cd Tryz.f79 [1,1,0,1,0,0,1,1]) (xT N0 (xB 0 (JC N (cd Tryz.f79 [1,1,1]) Q)))))))∧(zz0=false→Z3u N (cd Tryz.f79 [1,1,0,1,0,0,1,0,0,1,1,1,1]) (Z19 list l x6 re_5_0) (xB 1 (JC N (cd Tryz.f79 [1,1,0,1,0,0,1,1]) (xT N0 (xB 0 (JC N (cd Tryz.f79 [1,1,1]) Q)))))))))))∧((decide ((x6:Int) < (l.length:Int)))=false→(Q .ret (L2 [(4,.c (sU .op re_5_0 (.own (.e 4 0))))] []))))):=by kernel_rfl
 exact e_.mpr (by intro y_1;have hh:=h y_1 rfl;exact ⟨fun c_5=> ⟨(hh.1 c_5).1,⟨(hh.1 c_5).2.1,⟨fun c_6=> ⟨((hh.1 c_5).2.2.1 c_6).1,⟨fun c_7=> ⟨(((hh.1 c_5).2.2.1 c_6).2.1 c_7).1,(((hh.1 c_5).2.2.1 c_6).2.1 c_7).2⟩,fun c_7=> (((hh.1 c_5).2.2.1 c_6).2.2 c_7)⟩⟩,fun c_6=> ⟨fun c_8=> ⟨(((hh.1 c_5).2.2.2 c_6).1 c_8).1,(((hh.1 c_5).2.2.2 c_6).1 c_8).2⟩,fun c_8=> (((hh.1 c_5).2.2.2 c_6).2 c_8)⟩⟩⟩⟩,fun c_5=> (hh.2 c_5)⟩)
abbrev ZmE(N:Nat)(list:Int)(l:List Op)(x6:Int)(re_5_0_a:List Op)(N0:NT)(Q:QT):=AW (Z0 (YR N)) Tryz.f79 Z2t [1,1,0,1,0,0,1,0,0,1,1,1,1] (Z19 list l x6 re_5_0_a) (xB 1 (SW (Z0 (YR N)) Tryz.f79 Z2t [1,1,0,1,0,0,1,1] (xT N0 (xB 0 (SW (Z0 (YR N)) Tryz.f79 Z2t [1,1,1] Q)))))
theorem ZvB(N:Nat)(list:Int)(l:List Op)(x6:Int)(re_5_0_a:List Op)(N0:NT)(Q:QT)(h:∀ y_1,y_1=(List.getD l (Int.toNat (x6+Y0 (l.drop x6.toNat))) Op.nil)→∀ y_2,y_2=(Edit.mk 0 (Tree.mk 0 [] []) (Tree.mk 0 [] []) [] [] 0 [])→∀ y_3,y_3=(List.getD re_5_0_a (Int.toNat (((re_5_0_a.length:Int):Int) - 1)) Op.nil)→∀ y_4,y_4=(y_1.e)→∀ y_5,y_5=(y_3.e)→∀ y_6,y_6=(Zv y_4)→((decide (((l.length:Int):Int)≤(x6+Y0 (l.drop x6.toNat))))=true→Q .ret (L2 [(4,.c (sU .op re_5_0_a (.own (.e 4 0))))] []))∧((decide (((l.length:Int):Int)≤(x6+Y0 (l.drop x6.toNat))))=false→((0:Int)≤(x6+Y0 (l.drop x6.toNat))∧(x6+Y0 (l.drop x6.toNat)) < (l.length:Int))∧(((0:Int)≤(x6+Y0 (l.drop x6.toNat))∧(x6+Y0 (l.drop x6.toNat)) < (l.length:Int))∧(((y_1.kind==3)=true→((0:Int)≤(x6+Y0 (l.drop x6.toNat))∧(x6+Y0 (l.drop x6.toNat)) < (l.length:Int))∧(Z4q (y_4,()))∧(ZeB (y_4,()) < N)∧((Z9o (list,y_6,()))∧(((Z0k list y_6)=true→((bif ((0:Int)==0) then (decide ((0:Int) < (re_5_0_a.length:Int))) else false)=true→InR (((re_5_0_a.length:Int):Int) - 1))∧((bif ((0:Int)==0) then (decide ((0:Int) < (re_5_0_a.length:Int))) else false)=true→(0:Int)≤(((re_5_0_a.length:Int):Int) - 1)∧(((re_5_0_a.length:Int):Int) - 1) < (re_5_0_a.length:Int))∧(((bif (bif ((0:Int)==0) then (decide ((0:Int) < (re_5_0_a.length:Int))) else false) then (y_3.kind==0) else false)=true→(InR (((re_5_0_a.length:Int):Int) - 1))∧(InR (((re_5_0_a.length:Int):Int) - 1))∧((0:Int)≤(((re_5_0_a.length:Int):Int) - 1)∧(((re_5_0_a.length:Int):Int) - 1) < (re_5_0_a.length:Int))∧(InR (y_3.n+1))∧((0:Int)≤(((re_5_0_a.length:Int):Int) - 1)∧(((re_5_0_a.length:Int):Int) - 1) < (re_5_0_a.length:Int))∧((0:Nat)≤(Int.toNat (((re_5_0_a.length:Int):Int) - 1)))∧((InR (((x6+Y0 (l.drop x6.toNat)):Int)+1))∧(N0 (Yn list l (((x6+Y0 (l.drop x6.toNat)):Int)+1) (List.set re_5_0_a (Int.toNat (((re_5_0_a.length:Int):Int) - 1)) (OpOf.mk y_3.kind (y_3.n+1) y_3.l y_5:Op))))))∧((bif (bif ((0:Int)==0) then (decide ((0:Int) < (re_5_0_a.length:Int))) else false) then (y_3.kind==0) else false)=false→((re_5_0_a.length+([(OpOf.mk 0 1 [] y_2:Op)]).length)*240≤140737488355328)∧((InR (((x6+Y0 (l.drop x6.toNat)):Int)+1))∧(N0 (Yn list l (((x6+Y0 (l.drop x6.toNat)):Int)+1) (re_5_0_a++([(OpOf.mk 0 1 [] y_2:Op)]))))))))∧((Z0k list y_6)=false→((bif ((3:Int)==0) then (decide ((0:Int) < (re_5_0_a.length:Int))) else false)=true→InR (((re_5_0_a.length:Int):Int) - 1))∧((bif ((3:Int)==0) then (decide ((0:Int) < (re_5_0_a.length:Int))) else false)=true→(0:Int)≤(((re_5_0_a.length:Int):Int) - 1)∧(((re_5_0_a.length:Int):Int) - 1) < (re_5_0_a.length:Int))∧(((bif (bif ((3:Int)==0) then (decide ((0:Int) < (re_5_0_a.length:Int))) else false) then (y_3.kind==0) else false)=true→(InR (((re_5_0_a.length:Int):Int) - 1))∧(InR (((re_5_0_a.length:Int):Int) - 1))∧((0:Int)≤(((re_5_0_a.length:Int):Int) - 1)∧(((re_5_0_a.length:Int):Int) - 1) < (re_5_0_a.length:Int))∧(InR (y_3.n+0))∧((0:Int)≤(((re_5_0_a.length:Int):Int) - 1)∧(((re_5_0_a.length:Int):Int) - 1) < (re_5_0_a.length:Int))∧((0:Nat)≤(Int.toNat (((re_5_0_a.length:Int):Int) - 1)))∧((InR (((x6+Y0 (l.drop x6.toNat)):Int)+1))∧(N0 (Yn list l (((x6+Y0 (l.drop x6.toNat)):Int)+1) (List.set re_5_0_a (Int.toNat (((re_5_0_a.length:Int):Int) - 1)) (OpOf.mk y_3.kind (y_3.n+0) y_3.l y_5:Op))))))∧((bif (bif ((3:Int)==0) then (decide ((0:Int) < (re_5_0_a.length:Int))) else false) then (y_3.kind==0) else false)=false→((re_5_0_a.length+([(OpOf.mk 3 0 [] y_6:Op)]).length)*240≤140737488355328)∧((InR (((x6+Y0 (l.drop x6.toNat)):Int)+1))∧(N0 (Yn list l (((x6+Y0 (l.drop x6.toNat)):Int)+1) (re_5_0_a++([(OpOf.mk 3 0 [] y_6:Op)])))))))))))∧((y_1.kind==3)=false→((bif ((0:Int)==0) then (decide ((0:Int) < (re_5_0_a.length:Int))) else false)=true→InR (((re_5_0_a.length:Int):Int) - 1))∧((bif ((0:Int)==0) then (decide ((0:Int) < (re_5_0_a.length:Int))) else false)=true→(0:Int)≤(((re_5_0_a.length:Int):Int) - 1)∧(((re_5_0_a.length:Int):Int) - 1) < (re_5_0_a.length:Int))∧(((bif (bif ((0:Int)==0) then (decide ((0:Int) < (re_5_0_a.length:Int))) else false) then (y_3.kind==0) else false)=true→(InR (((re_5_0_a.length:Int):Int) - 1))∧(InR (((re_5_0_a.length:Int):Int) - 1))∧((0:Int)≤(((re_5_0_a.length:Int):Int) - 1)∧(((re_5_0_a.length:Int):Int) - 1) < (re_5_0_a.length:Int))∧(InR (y_3.n+y_1.n))∧((0:Int)≤(((re_5_0_a.length:Int):Int) - 1)∧(((re_5_0_a.length:Int):Int) - 1) < (re_5_0_a.length:Int))∧((0:Nat)≤(Int.toNat (((re_5_0_a.length:Int):Int) - 1)))∧((InR (((x6+Y0 (l.drop x6.toNat)):Int)+1))∧(N0 (Yn list l (((x6+Y0 (l.drop x6.toNat)):Int)+1) (List.set re_5_0_a (Int.toNat (((re_5_0_a.length:Int):Int) - 1)) (OpOf.mk y_3.kind (y_3.n+y_1.n) y_3.l y_5:Op))))))∧((bif (bif ((0:Int)==0) then (decide ((0:Int) < (re_5_0_a.length:Int))) else false) then (y_3.kind==0) else false)=false→((re_5_0_a.length+([(OpOf.mk 0 y_1.n [] y_2:Op)]).length)*240≤140737488355328)∧((InR (((x6+Y0 (l.drop x6.toNat)):Int)+1))∧(N0 (Yn list l (((x6+Y0 (l.drop x6.toNat)):Int)+1) (re_5_0_a++([(OpOf.mk 0 y_1.n [] y_2:Op)])))))))))))):
  ZmE N list l x6 re_5_0_a N0 Q:=by
 have e_:(ZmE N list l x6 re_5_0_a N0 Q)=(let y_1:=(List.getD l (Int.toNat (x6+Y0 (l.drop x6.toNat))) Op.nil);let y_2:=(Edit.mk 0 (Tree.mk 0 [] []) (Tree.mk 0 [] []) [] [] 0 []);let y_3:=(List.getD re_5_0_a (Int.toNat ((re_5_0_a.length:Int) - 1)) Op.nil);let y_4:=(Yv y_1.e);let y_5:=(Yv y_3.e);let y_6:=(Yv (Zv y_4));let zz3:=(decide ((l.length:Int)≤(x6+Y0 (l.drop x6.toNat))));let zz2:=(y_3.kind==0);let zz1:=(bif ((3:Int)==0) then (decide ((0:Int) < (re_5_0_a.length:Int))) else false);let zz0:=(bif ((0:Int)==0) then (decide ((0:Int) < (re_5_0_a.length:Int))) else false);((zz3=true→(Q .ret (L2 [(4,.c (sU .op re_5_0_a (.own (.e 4 0))))] [])))∧(zz3=false→((0:Int)≤(x6+Y0 (l.drop x6.toNat))∧(x6+Y0 (l.drop x6.toNat)) < (l.length:Int))∧(((0:Int)≤(x6+Y0 (l.drop x6.toNat))∧(x6+Y0 (l.drop x6.toNat)) < (l.length:Int))∧(((y_1.kind==3)=true→((0:Int)≤(x6+Y0 (l.drop x6.toNat))∧(x6+Y0 (l.drop x6.toNat)) < (l.length:Int))∧(Z4q (y_4,()))∧(ZeB (y_4,()) < N)∧((Z9o (list,y_6,()))∧(((Z0k list y_6)=true→((ZR (((0:Int)==0)=true))∧(ZR (((0:Int)==0)=true))∧(ZR (zz0=true))∧(zz0=true→InR ((re_5_0_a.length:Int) - 1))∧(ZR (zz0=true))∧(ZR (zz0=true))∧(zz0=true→(0:Int)≤((re_5_0_a.length:Int) - 1)∧((re_5_0_a.length:Int) - 1) < (re_5_0_a.length:Int))∧(ZR (zz0=true))∧(ZR (zz0=true))∧(ZR (zz0=true))∧(ZR (zz0=true))∧(((bif zz0 then zz2 else false)=true→(InR ((re_5_0_a.length:Int) - 1))∧(InR ((re_5_0_a.length:Int) - 1))∧((0:Int)≤((re_5_0_a.length:Int) - 1)∧((re_5_0_a.length:Int) - 1) < (re_5_0_a.length:Int))∧(InR (y_3.n+1))∧((0:Int)≤((re_5_0_a.length:Int) - 1)∧((re_5_0_a.length:Int) - 1) < (re_5_0_a.length:Int))∧((0:Nat)≤(Int.toNat ((re_5_0_a.length:Int) - 1)))∧((InR (((x6+Y0 (l.drop x6.toNat)):Int)+1))∧(N0 (Yn list l (((x6+Y0 (l.drop x6.toNat)):Int)+1) (List.set re_5_0_a (Int.toNat ((re_5_0_a.length:Int) - 1)) (OpOf.mk y_3.kind (y_3.n+1) y_3.l y_5:Op))))))∧((bif zz0 then zz2 else false)=false→((re_5_0_a.length+([(OpOf.mk 0 1 [] y_2:Op)]).length)*240≤140737488355328)∧((InR (((x6+Y0 (l.drop x6.toNat)):Int)+1))∧(N0 (Yn list l (((x6+Y0 (l.drop x6.toNat)):Int)+1) (re_5_0_a++([(OpOf.mk 0 1 [] y_2:Op)])))))))))∧((Z0k list y_6)=false→((ZR (((3:Int)==0)=true))∧(ZR (((3:Int)==0)=true))∧(ZR (zz1=true))∧(zz1=true→InR ((re_5_0_a.length:Int) - 1))∧(ZR (zz1=true))∧(ZR (zz1=true))∧(zz1=true→(0:Int)≤((re_5_0_a.length:Int) - 1)∧((re_5_0_a.length:Int) - 1) < (re_5_0_a.length:Int))∧(ZR (zz1=true))∧(ZR (zz1=true))∧(ZR (zz1=true))∧(ZR (zz1=true))∧(((bif zz1 then zz2 else false)=true→(InR ((re_5_0_a.length:Int) - 1))∧(InR ((re_5_0_a.length:Int) - 1))∧((0:Int)≤((re_5_0_a.length:Int) - 1)∧((re_5_0_a.length:Int) - 1) < (re_5_0_a.length:Int))∧(InR (y_3.n+0))∧((0:Int)≤((re_5_0_a.length:Int) - 1)∧((re_5_0_a.length:Int) - 1) < (re_5_0_a.length:Int))∧((0:Nat)≤(Int.toNat ((re_5_0_a.length:Int) - 1)))∧((InR (((x6+Y0 (l.drop x6.toNat)):Int)+1))∧(N0 (Yn list l (((x6+Y0 (l.drop x6.toNat)):Int)+1) (List.set re_5_0_a (Int.toNat ((re_5_0_a.length:Int) - 1)) (OpOf.mk y_3.kind (y_3.n+0) y_3.l y_5:Op))))))∧((bif zz1 then zz2 else false)=false→((re_5_0_a.length+([(OpOf.mk 3 0 [] y_6:Op)]).length)*240≤140737488355328)∧((InR (((x6+Y0 (l.drop x6.toNat)):Int)+1))∧(N0 (Yn list l (((x6+Y0 (l.drop x6.toNat)):Int)+1) (re_5_0_a++([(OpOf.mk 3 0 [] y_6:Op)]))))))))))))∧((y_1.kind==3)=false→((ZR (((0:Int)==0)=true))∧(ZR (((0:Int)==0)=true))∧(ZR (zz0=true))∧(zz0=true→InR ((re_5_0_a.length:Int) - 1))∧(ZR (zz0=true))∧(ZR (zz0=true))∧(zz0=true→(0:Int)≤((re_5_0_a.length:Int) - 1)∧((re_5_0_a.length:Int) - 1) < (re_5_0_a.length:Int))∧(ZR (zz0=true))∧(ZR (zz0=true))∧(ZR (zz0=true))∧(ZR (zz0=true))∧(((bif zz0 then zz2 else false)=true→(InR ((re_5_0_a.length:Int) - 1))∧(InR ((re_5_0_a.length:Int) - 1))∧((0:Int)≤((re_5_0_a.length:Int) - 1)∧((re_5_0_a.length:Int) - 1) < (re_5_0_a.length:Int))∧(InR (y_3.n+y_1.n))∧((0:Int)≤((re_5_0_a.length:Int) - 1)∧((re_5_0_a.length:Int) - 1) < (re_5_0_a.length:Int))∧((0:Nat)≤(Int.toNat ((re_5_0_a.length:Int) - 1)))∧((InR (((x6+Y0 (l.drop x6.toNat)):Int)+1))∧(N0 (Yn list l (((x6+Y0 (l.drop x6.toNat)):Int)+1) (List.set re_5_0_a (Int.toNat ((re_5_0_a.length:Int) - 1)) (OpOf.mk y_3.kind (y_3.n+y_1.n) y_3.l y_5:Op))))))∧((bif zz0 then zz2 else false)=false→((re_5_0_a.length+([(OpOf.mk 0 y_1.n [] y_2:Op)]).length)*240≤140737488355328)∧((InR (((x6+Y0 (l.drop x6.toNat)):Int)+1))∧(N0 (Yn list l (((x6+Y0 (l.drop x6.toNat)):Int)+1) (re_5_0_a++([(OpOf.mk 0 y_1.n [] y_2:Op)])))))))))))))):=by kernel_rfl
 exact e_.mpr (by intro y_1 y_2 y_3 y_4 y_5 y_6;have hh:=h y_1 rfl y_2 rfl y_3 rfl y_4 (Z6 _) y_5 (Z6 _) y_6 (Z6 _);exact ⟨fun c_9=> (hh.1 c_9),fun c_9=> ⟨(hh.2 c_9).1,⟨(hh.2 c_9).2.1,⟨fun c_10=> ⟨((hh.2 c_9).2.2.1 c_10).1,((hh.2 c_9).2.2.1 c_10).2.1,((hh.2 c_9).2.2.1 c_10).2.2.1,⟨((hh.2 c_9).2.2.1 c_10).2.2.2.1,⟨fun c_11=> ⟨id,(by generalize ((0:Int)==0)=b0;revert b0;decide),id,(((hh.2 c_9).2.2.1 c_10).2.2.2.2.1 c_11).1,id,id,(((hh.2 c_9).2.2.1 c_10).2.2.2.2.1 c_11).2.1,id,id,id,(by generalize (decide ((0:Int) < (re_5_0_a.length:Int)))=b0;generalize ((0:Int)==0)=b1;revert b0 b1;decide),⟨fun c_12=> ⟨((((hh.2 c_9).2.2.1 c_10).2.2.2.2.1 c_11).2.2.1 c_12).1,((((hh.2 c_9).2.2.1 c_10).2.2.2.2.1 c_11).2.2.1 c_12).2.1,((((hh.2 c_9).2.2.1 c_10).2.2.2.2.1 c_11).2.2.1 c_12).2.2.1,((((hh.2 c_9).2.2.1 c_10).2.2.2.2.1 c_11).2.2.1 c_12).2.2.2.1,((((hh.2 c_9).2.2.1 c_10).2.2.2.2.1 c_11).2.2.1 c_12).2.2.2.2.1,((((hh.2 c_9).2.2.1 c_10).2.2.2.2.1 c_11).2.2.1 c_12).2.2.2.2.2.1,⟨((((hh.2 c_9).2.2.1 c_10).2.2.2.2.1 c_11).2.2.1 c_12).2.2.2.2.2.2.1,((((hh.2 c_9).2.2.1 c_10).2.2.2.2.1 c_11).2.2.1 c_12).2.2.2.2.2.2.2⟩⟩,fun c_12=> ⟨((((hh.2 c_9).2.2.1 c_10).2.2.2.2.1 c_11).2.2.2 c_12).1,⟨((((hh.2 c_9).2.2.1 c_10).2.2.2.2.1 c_11).2.2.2 c_12).2.1,((((hh.2 c_9).2.2.1 c_10).2.2.2.2.1 c_11).2.2.2 c_12).2.2⟩⟩⟩⟩,fun c_11=> ⟨id,(by generalize ((3:Int)==0)=b0;revert b0;decide),id,(((hh.2 c_9).2.2.1 c_10).2.2.2.2.2 c_11).1,id,id,(((hh.2 c_9).2.2.1 c_10).2.2.2.2.2 c_11).2.1,id,id,id,(by generalize (decide ((0:Int) < (re_5_0_a.length:Int)))=b0;generalize ((3:Int)==0)=b1;revert b0 b1;decide),⟨fun c_13=> ⟨((((hh.2 c_9).2.2.1 c_10).2.2.2.2.2 c_11).2.2.1 c_13).1,((((hh.2 c_9).2.2.1 c_10).2.2.2.2.2 c_11).2.2.1 c_13).2.1,((((hh.2 c_9).2.2.1 c_10).2.2.2.2.2 c_11).2.2.1 c_13).2.2.1,((((hh.2 c_9).2.2.1 c_10).2.2.2.2.2 c_11).2.2.1 c_13).2.2.2.1,((((hh.2 c_9).2.2.1 c_10).2.2.2.2.2 c_11).2.2.1 c_13).2.2.2.2.1,((((hh.2 c_9).2.2.1 c_10).2.2.2.2.2 c_11).2.2.1 c_13).2.2.2.2.2.1,⟨((((hh.2 c_9).2.2.1 c_10).2.2.2.2.2 c_11).2.2.1 c_13).2.2.2.2.2.2.1,((((hh.2 c_9).2.2.1 c_10).2.2.2.2.2 c_11).2.2.1 c_13).2.2.2.2.2.2.2⟩⟩,fun c_13=> ⟨((((hh.2 c_9).2.2.1 c_10).2.2.2.2.2 c_11).2.2.2 c_13).1,⟨((((hh.2 c_9).2.2.1 c_10).2.2.2.2.2 c_11).2.2.2 c_13).2.1,((((hh.2 c_9).2.2.1 c_10).2.2.2.2.2 c_11).2.2.2 c_13).2.2⟩⟩⟩⟩⟩⟩⟩,fun c_10=> ⟨id,(by generalize ((0:Int)==0)=b0;revert b0;decide),id,((hh.2 c_9).2.2.2 c_10).1,id,id,((hh.2 c_9).2.2.2 c_10).2.1,id,id,id,(by generalize (decide ((0:Int) < (re_5_0_a.length:Int)))=b0;generalize ((0:Int)==0)=b1;revert b0 b1;decide),⟨fun c_14=> ⟨(((hh.2 c_9).2.2.2 c_10).2.2.1 c_14).1,(((hh.2 c_9).2.2.2 c_10).2.2.1 c_14).2.1,(((hh.2 c_9).2.2.2 c_10).2.2.1 c_14).2.2.1,(((hh.2 c_9).2.2.2 c_10).2.2.1 c_14).2.2.2.1,(((hh.2 c_9).2.2.2 c_10).2.2.1 c_14).2.2.2.2.1,(((hh.2 c_9).2.2.2 c_10).2.2.1 c_14).2.2.2.2.2.1,⟨(((hh.2 c_9).2.2.2 c_10).2.2.1 c_14).2.2.2.2.2.2.1,(((hh.2 c_9).2.2.2 c_10).2.2.1 c_14).2.2.2.2.2.2.2⟩⟩,fun c_14=> ⟨(((hh.2 c_9).2.2.2 c_10).2.2.2 c_14).1,⟨(((hh.2 c_9).2.2.2 c_10).2.2.2 c_14).2.1,(((hh.2 c_9).2.2.2 c_10).2.2.2 c_14).2.2⟩⟩⟩⟩⟩⟩⟩⟩)
def ZCw(N:Nat)(list:Int)(l:List Op):Prop:=AW (Z0 (YR N)) Tryz.f79 Z2t [] (Zl (Ziv.can (list,l,())) []) (EQ Tryz.f79 (ZdS (list,l,())) [])
abbrev ZFm:Prop:=∀ (N:Nat) (list:Int) (l:List Op) (_:Unit),ZbT (list,l,())→ZjZ (list,l,()) < N+1→ZCw N list l
theorem ZqB(c41:CT 41 Z52)(ZBZ:CT 127 Z6O)(ZuQ:CT 128 Z4k)(ha:ZFs)(hb:ZFm):CT 29 Z5O∧CT 79 Zs8:=
 Z0t (μA:=ZeB) (μB:=ZjZ) (l:=[(41,Z52),(127,Z6O),(128,Z4k)]) Zo rfl (⟨c41,ZBZ,ZuQ,trivial⟩) ZeN Z2t Tryz.func29 Tryz.func79 rfl rfl rfl rfl 1 2 (fun _=> rfl) (fun _=> rfl) (by decide) (by decide) (fun N ⟨e,_⟩=> ha N e ()) (fun N ⟨list,l,_⟩=> hb N list l ())
end
end
end Go.AM.YtpjenobkibfpcaaGreat
namespace Go.AM.YtpjenobkibfpcaaGreat
open Go.AM Go.Proofs
theorem ZgE:∀ (l:List Op),0≤Y0 l∧(Y0 l < l.length→(l.getD (Y0 l).toNat Op.nil).kind≠1∧(l.getD (Y0 l).toNat Op.nil).kind≠2)
 | []=> by simp [Y0]
 | o ::r=> by
  obtain ⟨h1,h2⟩:=ZgE r
  rw [Y0]
  split
  ·rename_i hk
   refine ⟨by omega,fun h=> ?_⟩
   rw [show (1+Y0 r).toNat=(Y0 r).toNat+1 by omega,List.getD_cons_succ]
   exact h2 (by simp at h;omega)
  ·rename_i hk
   refine ⟨by omega,fun _=> ?_⟩
   simp only [Int.toNat_zero,List.getD_cons_zero]
   omega
theorem ZoH:∀ (l:List Op),Y0 l≤l.length
 | []=> by simp [Y0]
 | o ::r=> by
  have:=ZoH r
  rw [Y0]
  split <;> simp <;> omega
theorem Zmf(l:List Op)(i k:Nat):(l.drop i).getD k Op.nil=l.getD (i+k) Op.nil:=by
 simp [List.getD,List.getElem?_drop]
theorem Zhb{list:Int}{o:Op}{d:Int}(h:Zc list o d=true):o.kind=0∨o.kind=1∨o.kind=2∨o.kind=3:=by
 obtain ⟨k,n,l,e⟩:=o
 show k=0∨k=1∨k=2∨k=3
 rw [Zc] at h
 split at h
 ·omega
 ·split at h
  ·cases h
  ·omega
theorem b79:ZFm:=by
 intro N list l _ hp hN
 simp only [ZbT,ZjZ] at hp hN
 obtain ⟨p1,p3⟩:=hp
 have hl:=ZQ l
 refine ZFC _ _ _ _ ?_
 refine Za (ι:=Int × List Op) (fun s=> Yn list l s.1 s.2)
  (fun s=> 0≤s.1∧s.1≤l.length∧(Z1 (Zr list (l.drop s.1.toNat) ⟨s.2,[],[]⟩)).out=(Z1 (Zr list l ⟨[],[],[]⟩)).out∧s.2.length≤3*s.1∧∀ o∈s.2,0≤o.n∧o.n≤s.1*1048576)
  (fun s=> ((l.length:Int) - s.1).toNat) (0,[]) rfl ⟨by simp,by simp,by simp,by simp,by simp⟩ ?_
 rintro ⟨i,out⟩ ⟨g1,g2,g3,g4,g6⟩
 dsimp only at g1 g2 g3 g4 g6
 have key:i < l.length→∀ F,F=(Z1 ⟨out,YS 1 (l.drop i.toNat),YS 2 (l.drop i.toNat)⟩).out→
   ZmE N list l i F (fun s2=> ∃ j:Int × List Op,s2=Yn list l j.1 j.2∧(0≤j.1∧j.1≤l.length∧(Z1 (Zr list (l.drop j.1.toNat) ⟨j.2,[],[]⟩)).out=(Z1 (Zr list l ⟨[],[],[]⟩)).out∧j.2.length≤3*j.1∧∀ o∈j.2,0≤o.n∧o.n≤j.1*1048576)∧((l.length:Int) - j.1).toNat < ((l.length:Int) - i).toNat) (Jx cfg Tryz.f79.ntmps Tryz.f79.results.toList (ZdS (list,l,())) []):=by
  intro hi F hF
  obtain ⟨q1,q2⟩:=ZgE (l.drop i.toNat)
  have q3:=ZoH (l.drop i.toNat)
  rw [List.length_drop] at q2 q3
  rw [Zmf,show i.toNat+(Y0 (l.drop i.toNat)).toNat=(i+Y0 (l.drop i.toNat)).toNat by omega] at q2
  rw [Zgj,List.drop_drop,show i.toNat+(Y0 (l.drop i.toNat)).toNat=(i+Y0 (l.drop i.toNat)).toNat by omega] at g3
  simp only [List.nil_append] at g3
  have hfl:=Z7A ⟨out,YS 1 (l.drop i.toNat),YS 2 (l.drop i.toNat)⟩
  have hfm:=Z7z ⟨out,YS 1 (l.drop i.toNat),YS 2 (l.drop i.toNat)⟩
  have hflush:Z1 ⟨out,YS 1 (l.drop i.toNat),YS 2 (l.drop i.toNat)⟩=⟨F,[],[]⟩:=by rw [hF];try rfl
  have hkeep:∀ n,ZG ⟨out,YS 1 (l.drop i.toNat),YS 2 (l.drop i.toNat)⟩ n=⟨Ye F n,[],[]⟩:=by intro n;rw [hF];try rfl
  rw [←hF] at hfl hfm
  simp only at hfl hfm
  refine ZvB _ _ _ _ _ _ _ ?_
  rintro y1 hy1 y2 hy2 y3 hy3 y4 hy4 y5 hy5 y6 hy6
  generalize hj:i+Y0 (l.drop i.toNat)=j at*
  have hy:y2=Edit.nil:=hy2
  subst hy
  have hFn:∀ o∈F,0≤o.n∧o.n≤i*1048576:=by
   intro o ho
   rcases hfm o ho with h1 | h1
   ·exact g6 o h1
   ·omega
  simp only [show ((0:Int)==0)=true from rfl,show ((3:Int)==0)=false from rfl,cond_true,cond_false]
  (simp only [vcS])
  refine ⟨fun hjl=> ?_,fun hjl=> ?_⟩
  ·rw [List.drop_of_length_le (by omega)] at g3
   simp only [Zr,hflush] at g3
   simp only [ZdS]
   rw [←g3]
   (repeat' (first | exact trivial | exact rfl | apply And.intro))
  ·have hmem:=Zi (l:=l) (i:=j.toNat) (by omega) Op.nil
   have hm:=ZW hmem
   obtain ⟨d,hr2⟩:=p3 _ hmem
   have hq:=q2 (by omega)
   rw [←hy1] at hm hr2 hq
   have hkind:=Zhb hr2
   rw [Y3 (by omega) (by omega) Op.nil,←hy1,Zr,YE] at g3
   have hmo:=ZN y1
   have hlast:(F.length:Int) - 1=((F.length - 1:Nat):Int)∨F.length=0:=by omega
   have e2:((F.length:Int) - 1).toNat=F.length - 1:=by omega
   rw [e2] at hy3 ⊢
   have hk3:0 < F.length→0≤y3.n∧y3.n≤i*1048576:=fun h=> by
    rw [hy3];exact hFn _ (Zi (by omega) _)
   have keeps:∀ n:Int,0≤n∧n≤1048576→(Z1 (Zr list (l.drop (j+1).toNat) ⟨Ye F n,[],[]⟩)).out=(Z1 (Zr list l ⟨[],[],[]⟩)).out→
     ((0 < F.length∧y3.kind=0→∃ q:Int × List Op,Yn list l (j+1) (F.set (F.length - 1) ⟨y3.kind,y3.n+n,y3.l,y5⟩)=Yn list l q.1 q.2∧(0≤q.1∧q.1≤l.length∧(Z1 (Zr list (l.drop q.1.toNat) ⟨q.2,[],[]⟩)).out=(Z1 (Zr list l ⟨[],[],[]⟩)).out∧q.2.length≤3*q.1∧∀ o∈q.2,0≤o.n∧o.n≤q.1*1048576)∧((l.length:Int) - q.1).toNat < ((l.length:Int) - i).toNat)∧
      (¬(0 < F.length∧y3.kind=0)→∃ q:Int × List Op,Yn list l (j+1) (F++[⟨0,n,[],Edit.nil⟩])=Yn list l q.1 q.2∧(0≤q.1∧q.1≤l.length∧(Z1 (Zr list (l.drop q.1.toNat) ⟨q.2,[],[]⟩)).out=(Z1 (Zr list l ⟨[],[],[]⟩)).out∧q.2.length≤3*q.1∧∀ o∈q.2,0≤o.n∧o.n≤q.1*1048576)∧((l.length:Int) - q.1).toNat < ((l.length:Int) - i).toNat)):=by
    intro n hn hg
    rw [Z6s,←hy3,←hy5] at hg
    refine ⟨fun hc=> ?_,fun hc=> ?_⟩
    ·rw [if_pos ⟨by omega,hc.2⟩] at hg
     refine ⟨(j+1,_),rfl,⟨by dsimp only;omega,by dsimp only;omega,hg,by dsimp only;rw [List.length_set];omega,fun o ho=> ?_⟩,by dsimp only;omega⟩
     dsimp only at ho ⊢
     have hk4:=hk3 (by omega)
     rcases List.mem_or_eq_of_mem_set ho with ho | rfl
     ·have:=hFn o ho;omega
     ·simp only;omega
    ·rw [if_neg (fun h=> hc ⟨by omega,h.2⟩)] at hg
     refine ⟨(j+1,_),rfl,⟨by dsimp only;omega,by dsimp only;omega,hg,by dsimp only;rw [List.length_append,List.length_singleton];omega,fun o ho=> ?_⟩,by dsimp only;omega⟩
     dsimp only at ho ⊢
     rcases List.mem_append.1 ho with ho | ho
     ·have:=hFn o ho;omega
     ·simp only [List.mem_singleton] at ho
      subst ho
      simp only;omega
   refine ⟨by omega,by omega,fun hk=> ?_,fun hk=> ?_⟩
   ·rw [if_neg (by omega),if_neg (by omega),if_neg (by omega),if_pos hk] at g3
    rw [←hy4,←hy6,hkeep,hflush] at g3
    have hre:=Z9j hr2 hk
    rw [←hy4] at hre
    have hmE:Z9 y4≤Zw y1:=by rw [hmo,hy4];omega
    refine ⟨by omega,by simp only [Z4q];exact ⟨by omega,d,hre⟩,by simp only [ZeB];omega,by simp only [Z9o],fun hq=> ?_,fun hq=> ?_⟩
    ·rw [if_pos hq] at g3
     have hK:=keeps 1 (by omega) g3
     refine ⟨by unfold InR;omega,by omega,fun hc=> ?_,fun hc=> ?_⟩
     ·have hk4:=hk3 (by omega)
      exact ⟨by unfold InR;omega,by unfold InR;omega,by omega,by unfold InR;omega,by omega,by omega,by unfold InR;omega,hK.1 ⟨by omega,hc.2⟩⟩
     ·exact ⟨by simp only [List.length_singleton];omega,by unfold InR;omega,hK.2 (fun h=> by omega)⟩
    ·rw [if_neg (by rw [hq];simp)] at g3
     refine ⟨fun h=> (nomatch h),fun h=> (nomatch h),fun h=> (nomatch h),fun _=> ⟨by simp only [List.length_singleton];omega,by unfold InR;omega,(j+1,F++[⟨3,0,[],y6⟩]),rfl,⟨by dsimp only;omega,by dsimp only;omega,g3,by dsimp only;rw [List.length_append,List.length_singleton];omega,fun o ho=> ?_⟩,by dsimp only;omega⟩⟩
     dsimp only at ho ⊢
     rcases List.mem_append.1 ho with ho | ho
     ·have:=hFn o ho;omega
     ·simp only [List.mem_singleton] at ho
      subst ho
      simp only;omega
   ·have hk0:y1.kind=0:=by omega
    rw [if_pos hk0,hkeep] at g3
    have h1:=Z9i hr2 hk0
    have hK:=keeps y1.n (by omega) g3
    refine ⟨by unfold InR;omega,by omega,fun hc=> ?_,fun hc=> ?_⟩
    ·have hk4:=hk3 (by omega)
     exact ⟨by unfold InR;omega,by unfold InR;omega,by omega,by unfold InR;omega,by omega,by omega,by unfold InR;omega,hK.1 ⟨by omega,hc.2⟩⟩
    ·exact ⟨by simp only [List.length_singleton];omega,by unfold InR;omega,hK.2 (fun h=> by omega)⟩
 refine ZvA _ _ _ _ _ _ _ ?_
 rintro y1 hy1
 have hy:y1=Edit.nil:=hy1
 subst hy
 (simp only [vcS])
 refine ⟨fun hi=> ?_,fun hi=> ?_⟩
 ·have kk:=key hi
  simp only [Z1,YD] at kk
  refine ⟨by simp only [Z5k];omega,by simp only [Z5k];omega,fun h1=> ⟨by simp only [List.length_singleton];omega,fun h2=> ⟨by simp only [List.length_append,List.length_singleton];omega,?_⟩,fun h2=> ?_⟩,fun h1=> ⟨fun h2=> ⟨by simp only [List.length_singleton];omega,?_⟩,fun h2=> ?_⟩⟩
  ·refine kk _ ?_
   rw [if_neg (by omega),if_neg (by omega)];simp
  ·refine kk _ ?_
   rw [if_neg (by omega),if_pos (by omega)];simp
  ·refine kk _ ?_
   rw [if_pos (by omega),if_neg (by omega)];simp
  ·refine kk _ ?_
   rw [if_pos (by omega),if_pos (by omega)];simp
 ·rw [List.drop_of_length_le (by omega)] at g3
  have:(Z1 (Zr list [] ⟨out,[],[]⟩)).out=out:=by simp [Zr,Z1,YD]
  rw [this] at g3
  simp only [ZdS]
  rw [←g3]
  (repeat' (first | exact trivial | exact rfl | apply And.intro))
theorem Zli{e:Edit}{d:Int}(h:Z2 e d=true):(e.kind=0∨e.kind=1∨e.kind=2∨e.kind=3)∧(e.kind≠3→e.list=0):=by
 obtain ⟨k,o,n,w,ks,l,os⟩:=e
 show (k=0∨k=1∨k=2∨k=3)∧(k≠3→l=0)
 rw [Z2] at h
 split at h
 ·cases h
 ·split at h
  ·cases h
  ·rename_i h1 h2
   refine ⟨by omega,fun hk=> ?_⟩
   apply Classical.byContradiction
   intro hl
   exact h2 (.inr (.inr ⟨hk,.inl hl⟩))
theorem b29:ZFs:=by
 intro N e _ hp hN
 simp only [Z4q,ZeB] at hp hN
 obtain ⟨p1,d,p3⟩:=hp
 have h1:=Yg e
 have h2:=Y2 e.kids
 have h3:=ZQ e.ops
 have ha:=Z2r e
 obtain ⟨hkd,hli⟩:=Zli p3
 refine ZFS _ _ _ ?_
 (simp only [vcS])
 (simp only [Tree.eta,Edit.eta,Tree.kind_mk,Tree.words_mk,Tree.kids_mk])
 refine ⟨fun hk=> ⟨by simp only [Z3g];omega,by simp only [Z3g];omega,?_⟩,fun hk=> ⟨fun hk2=> ⟨by simp;omega,?_⟩,fun hk2=> ⟨fun hk3=> ⟨?_,by simp only [ZjZ];omega,?_⟩,fun hk3=> ?_⟩⟩⟩
 ·rw [if_pos hk] at ha
  simp only [ZbR,ha]
  (repeat' (first | exact trivial | exact rfl | apply And.intro))
  ·exact hk.symm
  ·exact (hli (by omega)).symm
 ·rw [if_neg hk,if_pos hk2] at ha
  refine Za (ι:=Int × List Kid) (fun s=> Z4E e s.1 s.2) (fun s=> 0≤s.1∧s.1≤e.kids.length∧s.2.length=s.1∧s.2++J3 (e.kids.drop s.1.toNat)=J3 e.kids) (fun s=> ((e.kids.length:Int) - s.1).toNat) (0,[]) rfl ⟨by simp,by simp,by simp,by simp⟩ ?_
  rintro ⟨j,ks⟩ ⟨f1,f2,f3,f4⟩
  dsimp only at f1 f2 f3 f4
  refine ZvX _ _ _ _ _ _ ?_
  rintro y1 hy1 y2 hy2 y3 hy3
  (simp only [vcS])
  refine ⟨fun hj=> ?_,fun hj=> ?_⟩
  ·have hmem:=Zi (l:=e.kids) (i:=j.toNat) (by omega) (KidOf.mk 0 Edit.nil)
   have hm:=YQ hmem
   have hr:=ZgB p3 hk2 _ hmem
   rw [Y3 f1 hj (KidOf.mk 0 Edit.nil)] at f4
   rw [←hy1] at f4 hm hr
   simp only [J3,Z76] at f4
   rw [←hy2] at f4 hm hr
   rw [←hy3] at f4
   refine ⟨⟨f1,hj⟩,⟨f1,hj⟩,by simp only [Z4q];exact ⟨by omega,hr⟩,by simp only [ZeB];omega,by simp;omega,by unfold InR;omega,(j+1,ks++[⟨y1.at_,y3⟩]),rfl,⟨by dsimp only;omega,by dsimp only;omega,by simp;omega,?_⟩,by dsimp only;omega⟩
   simp only [List.append_assoc,List.cons_append,List.nil_append]
   exact f4
  ·rw [List.drop_of_length_le (by omega)] at f4
   simp only [J3,List.append_nil] at f4
   rw [f4]
   simp only [ZbR,ha]
   (repeat' (first | exact trivial | exact rfl | apply And.intro))
   ·exact hk2.symm
   ·exact (hli (by omega)).symm
 ·simp only [ZbT]
  exact ⟨by omega,fun o ho=> ZjP p3 hk3 o ho⟩
 ·rw [if_neg hk,if_neg hk2,if_pos hk3] at ha
  simp only [ZbR,ha]
  (repeat' (first | exact trivial | exact rfl | apply And.intro))
  exact hk3.symm
 ·rw [if_neg hk,if_neg hk2,if_neg hk3] at ha
  simp only [ZbR,ha]
  (repeat' (first | exact trivial | exact rfl | apply And.intro))
  ·show 0=e.kind
   omega
  ·exact (hli hk3).symm
theorem ZuL:Contract Tryz.prog cfg 29 Z5O∧Contract Tryz.prog cfg 79 Zs8:=ZqB c41 ZBZ ZuQ b29 b79
end Go.AM.YtpjenobkibfpcaaGreat
namespace Go.AM.YtpjenobkibfpcaaGreat
open Go.AM Go.Proofs
noncomputable section
def ZuX:ArgL (Edit × Unit):=(.cons (aEl .edit) .nil)
def Zgf(a:Edit × Unit):Prop:=Z9 a.1≤20000000000∧∃ d,Z2 a.1 d=true
def Zsl(a:Edit × Unit):V U:= .agg (enc .edit (Zv (ZS a.1)))
def Z51:Fs U:=fs ZuX (fun a=> [Zgf a]) Zsl
def Zul:List (FuncId × Fs U):=[(67,Z0U),(131,Z92)]
def ZB5:Zj U:=lvl [([1,2],[1,2]),([2],[2])]
abbrev W85(e:Edit)(Q:QT):=AW (Z0 Zul) Tryz.f85 ZB5 [] (L2 [(0,.agg (enc .edit e))] []) Q
theorem ZFy(e:Edit)(Q:QT)(h:∀ y_1,y_1=e→∀ y_2,y_2=(ZS y_1)→(Z0Z (y_1,()))∧(Z1i (y_2,()))∧(Q .ret (L2 [(2,.ptr (.loc 2) 0)] [(.loc 2,(enc .edit (Zv y_2)))]))):
  W85 e Q:=by
 have e_:(W85 e Q)=(let y_1:=(Yv e);let y_2:=(Yv (ZS y_1));((Z0Z (y_1,()))∧(Z1i (y_2,()))∧(Q .ret (L2 [(2,.ptr (.loc 2) 0)] [(.loc 2,(enc .edit (Zv y_2)))])))):=by kernel_rfl
 exact e_.mpr (by intro y_1 y_2;have hh:=h y_1 (Z6 _) y_2 (Z6 _);exact ⟨hh.1,hh.2.1,hh.2.2⟩)
def ZCs(e:Edit):Prop:=AW (Z0 Zul) Tryz.f85 ZB5 [] (Zl (ZuX.can (e,())) []) (EQ Tryz.f85 (Zsl (e,())) [])
theorem ZAG(c67:CT 67 Z0U)(c131:CT 131 Z92)(hb:∀ (e:Edit) (_:Unit),Zgf (e,())→ZCs e):CT 85 Z51:=
 Z4 (l:=[(67,Z0U),(131,Z92)]) Zo rfl (⟨c67,c131,trivial⟩) ZB5 Tryz.func85 rfl rfl 1 (fun _=> rfl) (by decide) (fun ⟨e,_⟩=> hb e ())
end
end Go.AM.YtpjenobkibfpcaaGreat
namespace Go.AM.YtpjenobkibfpcaaGreat
open Go.AM Go.Proofs
mutual
theorem Z8p:∀ (e:Edit),Z9 (ZS e)=Z9 e
 | .mk k o n w ks l os=> by
  have h1:=Zca ks
  have h2:=Zc9 os
  simp only [ZS,Z9,List.length_map,Z7Y,h1,h2]
  omega
theorem Zca:∀ (ks:List (KidOf Edit)),Zq (JZ ks)=Zq ks
 | []=> rfl
 | k ::r=> by
  have h1:=ZhP k
  have h2:=Zca r
  simp only [JZ,Zq,h1,h2]
theorem ZhP:∀ (k:KidOf Edit),Yd (Z1D k)=Yd k
 | ⟨a,e⟩=> by
  have h:=Z8p e
  simp only [Z1D,Yd,h]
theorem Zc9:∀ (os:List (OpOf Edit)),Zg (Jt os)=Zg os
 | []=> rfl
 | o ::r=> by
  have h1:=Zk8 o
  have h2:=Zc9 r
  simp only [Jt,Zg,h1,h2]
theorem Zk8:∀ (o:OpOf Edit),Zw (J8 o)=Zw o
 | ⟨k,n,l,e⟩=> by
  have h:=Z8p e
  simp only [J8]
  split
  ·try rfl
  ·split
   ·try rfl
   ·split
    ·simp only [Zw,h]
    ·try rfl
end
theorem c85:Contract Tryz.prog cfg 85 Z51:=by
 refine ZAG Zir.1 ZuO.1 ?_
 intro e _ hp
 simp only [Zgf] at hp
 obtain ⟨hm,d,hr⟩:=hp
 refine ZFy _ _ ?_
 rintro y1 hy1 y2 hy2
 subst hy1
 have h1:=Z8p y1
 have h2:=Z03 _ _ hr
 rw [←hy2] at h1 h2
 refine ⟨by simp only [Z0Z];omega,by simp only [Z1i];exact ⟨by omega,d,h2⟩,?_⟩
 simp only [Zsl]
 rw [←hy2]
 (repeat' (first | exact trivial | exact rfl | apply And.intro))
end Go.AM.YtpjenobkibfpcaaGreat
namespace Go.AM.YtpjenobkibfpcaaGreat
open Go.AM Go.Proofs
noncomputable section
def Zp0:ArgL (WEdit × WEdit × Unit):=(.cons (aEl .wedit) (.cons (aEl .wedit) .nil))
def ZlC(a:WEdit × WEdit × Unit):Prop:=Z39 a.1∧Z39 a.2.1
def Zhl(a:WEdit × WEdit × Unit):V U:= .tup [(true,(enc .wedit ((JS a.1 a.2.1).1))),(false,[.bool ((JS a.1 a.2.1).2)])]
def Z8Q:Fs U:=fs Zp0 (fun a=> [ZlC a]) Zhl
def Zp1:ArgL (WEdit × Unit):=(.cons (aEl .wedit) .nil)
def ZaS(a:WEdit × Unit):Prop:=True
def ZsC(a:WEdit × Unit):V U:= .c (ci a.1.at_)
def Z8R:Fs U:=fs Zp1 (fun a=> [ZaS a]) ZsC
def ZoZ:ArgL (Kid × Unit):=(.cons (aEl .kid) .nil)
def ZaR(a:Kid × Unit):Prop:=True
def ZsB(a:Kid × Unit):V U:= .c (ci a.1.at_)
def Z2k:Fs U:=fs ZoZ (fun a=> [ZaR a]) ZsB
def Zp2:ArgL (List WEdit × List WEdit × Unit × Unit × Unit):=(.cons (aSl .wedit) (.cons (aSl .wedit) (.cons (aFn 204) (.cons (aFn 205) .nil))))
def ZlD(a:List WEdit × List WEdit × Unit × Unit × Unit):Prop:=((∀ x∈a.1,Z39 x)∧(a.1).length≤1000000)∧(∀ x∈a.2.1,Z39 x)∧(a.2.1).length≤1000000
def Zhm(a:List WEdit × List WEdit × Unit × Unit × Unit):V U:= .tup [(false,[sU .wedit (ofO (Zt WEdit.at_ JS a.1 a.2.1)) .unk]),(false,[.bool ((Zt WEdit.at_ JS a.1 a.2.1).isSome)])]
def Z8S:Fs U:=fs Zp2 (fun a=> [ZlD a]) Zhm
def Zph:ArgL (List WEdit × List WEdit × Unit):=(.cons (aSl .wedit) (.cons (aSl .wedit) .nil))
def ZlF(a:List WEdit × List WEdit × Unit):Prop:=((∀ x∈a.1,Z39 x)∧(a.1).length≤1000000)∧(∀ x∈a.2.1,Z39 x)∧(a.2.1).length≤1000000
def ZsM(a:List WEdit × List WEdit × Unit):V U:= .tup [(false,[sU .wedit (ofO (Zt WEdit.at_ JS a.1 a.2.1)) .unk]),(false,[.bool ((Zt WEdit.at_ JS a.1 a.2.1).isSome)])]
def Z2n:Fs U:=fs Zph (fun a=> [ZlF a]) ZsM
def Zok:List (FuncId × Fs U):=[(176,Z0v)]
def ZtQ:Zj U:=lvl [([2,3,4],[2,3,4]),([2,3,4,6],[2,3,4]),([2,3,4,20],[2,3,4]),([4,5],[4]),([4,5],[4])]
abbrev ZGl(p:List Nat):=AW (Z0 Zok) Tryz.f205 ZtQ p
theorem ZDw(p q:WEdit)(Q:QT)(h:let z1:=IntKind.bits .u8;let z0:=IntKind.wrap .u8 (BitVec.ofInt z1 p.mask &&& BitVec.ofInt z1 q.mask).toNat;let z2:=((mix 0 p.new z0):Int) !=(mix 0 q.old z0);((Z0E (0,p.new,z0,()))∧(Z0E (0,q.old,z0,()))∧((z2=true→(Q .ret (L2 [(4,.ptr (.loc 4) 0),(5,.c (.bool false))] [(.loc 4,[ci 0,.int .u8 0,.int .u64 0,.int .u64 0])])))∧(z2=false→(Z0E (q.old,p.old,p.mask,()))∧(Z0E (p.new,q.new,q.mask,()))∧(Q .ret (L2 [(4,.ptr (.loc 4) 0),(5,.c (.bool true))] [(.loc 4,[ci p.at_,.int .u8 (IntKind.wrap .u8 (BitVec.ofInt z1 p.mask ||| BitVec.ofInt z1 q.mask).toNat),.int .u64 (mix q.old p.old p.mask),.int .u64 (mix p.new q.new q.mask)])])))))):
  ZGl [] (L2 [(0,.agg (enc .wedit p)),(1,.agg (enc .wedit q))] []) Q:=
 Eq.mpr (by kernel_rfl) h
def Zyr(p q:WEdit):Prop:=AW (Z0 Zok) Tryz.f205 ZtQ [] (Zl (Zp0.can (p,q,())) []) (EQ Tryz.f205 (Zhl (p,q,())) [])
theorem ZwI(Zis:CT 176 Z0v)(hb:∀ (p:WEdit) (q:WEdit) (_:Unit),ZlC (p,q,())→Zyr p q):CT 205 Z8Q:=
 Z4 (l:=[(176,Z0v)]) Zo rfl (⟨Zis,trivial⟩) ZtQ Tryz.func205 rfl rfl 2 (fun _=> rfl) (by decide) (fun ⟨p,q,_⟩=> hb p q ())
def Zol:List (FuncId × Fs U):=[]
def ZtR:Zj U:=lvl [([1],[1]),([2],[])]
abbrev ZGm(p:List Nat):=AW (Z0 Zol) Tryz.f204 ZtR p
theorem ZDx(w:WEdit)(Q:QT)(h:(Q .ret (L2 [(2,.c (ci w.at_))] []))):
  ZGm [] (L2 [(0,.agg (enc .wedit w))] []) Q:=
 Eq.mpr (by kernel_rfl) h
def Zys(w:WEdit):Prop:=AW (Z0 Zol) Tryz.f204 ZtR [] (Zl (Zp1.can (w,())) []) (EQ Tryz.f204 (ZsC (w,())) [])
theorem ZwJ(hb:∀ (w:WEdit) (_:Unit),ZaS (w,())→Zys w):CT 204 Z8R:=
 Z4 (l:=[]) Zo rfl trivial ZtR Tryz.func204 rfl rfl 1 (fun _=> rfl) (by decide) (fun ⟨w,_⟩=> hb w ())
def Zoj:List (FuncId × Fs U):=[]
def ZtP:Zj U:=lvl [([1],[1]),([2],[])]
abbrev ZGk(p:List Nat):=AW (Z0 Zoj) Tryz.f207 ZtP p
theorem ZDu(k:Kid)(Q:QT)(h:(Q .ret (L2 [(2,.c (ci k.at_))] []))):
  ZGk [] (L2 [(0,.agg (enc .kid k))] []) Q:=
 Eq.mpr (by kernel_rfl) h
def Zyp(k:Kid):Prop:=AW (Z0 Zoj) Tryz.f207 ZtP [] (Zl (ZoZ.can (k,())) []) (EQ Tryz.f207 (ZsB (k,())) [])
theorem ZwH(hb:∀ (k:Kid) (_:Unit),ZaR (k,())→Zyp k):CT 207 Z2k:=
 Z4 (l:=[]) Zo rfl trivial ZtP Tryz.func207 rfl rfl 1 (fun _=> rfl) (by decide) (fun ⟨k,_⟩=> hb k ())
def ZhX:List (FuncId × Fs U):=[(204,Z8R),(205,Z8Q)]
def ZnO:Zj U:=fun i=> match i with
 | 0=> ([(0,[]),(1,[]),(2,[]),(3,[])],[])
 | 1=> ([(0,[]),(1,[]),(2,[]),(3,[]),(10,[.own .wedit])],[])
 | 2=> ([(0,[]),(1,[]),(2,[]),(3,[]),(10,[]),(20,[])],[])
 | 3=> ([(0,[]),(1,[]),(2,[]),(3,[]),(10,[]),(11,[]),(12,[])],[(.loc 11,[])])
 | 4=> ([(0,[]),(1,[]),(2,[]),(3,[]),(10,[]),(11,[]),(33,[])],[(.loc 11,[])])
 | 5=> ([(8,[]),(9,[])],[])
 | 6=> ([(0,[]),(1,[]),(2,[]),(3,[]),(10,[.own .wedit])],[])
 | 7=> ([(0,[]),(1,[]),(2,[]),(3,[]),(10,[]),(42,[])],[])
 | 8=> ([(0,[]),(1,[]),(2,[]),(3,[]),(10,[.own .wedit])],[])
 | 9=> ([(0,[]),(1,[]),(2,[]),(3,[]),(10,[]),(72,[])],[])
 | 10=> ([(0,[]),(1,[]),(2,[]),(3,[]),(10,[.own .wedit])],[])
 | 11=> ([(8,[]),(9,[])],[])
 | _=> ([],[])
def Z2U(p q:List WEdit)(at_ one:Unit)(x0 x1 x10:List WEdit):LSt U:=(L2 [(0,.c (sU .wedit x0 .unk)),(1,.c (sU .wedit x1 .unk)),(2,.fn 204),(3,.fn 205),(10,.c (sU .wedit x10 (.own (.e 10 0))))] [])
abbrev ZD0(p:List Nat):=AW (Z0 ZhX) Tryz.f203 ZnO p
abbrev ZFd(p:List Nat):=SW (Z0 ZhX) Tryz.f203 ZnO p
theorem ZDy(p q:List WEdit)(at_ one:Unit)(Q:QT)(h:(Zf (ZD0 [1,1,0,0,0]) (Z2U p q at_ one p q []) (xB 0 (ZFd [1,1,1] Q)))):
  ZD0 [] (L2 [(0,.c (sU .wedit p .unk)),(1,.c (sU .wedit q .unk)),(2,.fn 204),(3,.fn 205)] []) Q:=
 Eq.mpr (by kernel_rfl) h
theorem Zrn(p q:List WEdit)(at_ one:Unit)(x0 x1 x10:List WEdit)(N0:NT)(Q:QT)(h:∀ y_1,y_1=(List.getD x0 (Int.toNat 0) (WEdit.mk 0 0 0 0))→∀ y_2,y_2=(List.getD x1 (Int.toNat 0) (WEdit.mk 0 0 0 0))→∀ y_3,y_3=y_1→∀ y_4,y_4=y_2→∀ y_5,y_5=((JS y_3 y_4).1)→let z3:=((x1.length:Int):Int)==0;let z2:=decide ((0:Int) < (x0.length:Int));let z5:=bif z2 then true else (decide ((0:Int) < (x1.length:Int)));let z4:=bif z3 then true else (bif z2 then (decide (y_3.at_ < y_4.at_)) else false);let z1:=((x0.length:Int):Int)==0;let z6:=bif z1 then true else (decide (y_4.at_ < y_3.at_));let z0:=(!z3) && z2;(Tr ((!z2)=true))∧(Tr ((!z2)=true))∧(z2=false→(!z2)=true)∧((z5=true→(Tr ((!z3)=true))∧(Tr ((!z3)=true))∧(Tr ((!z3)=true))∧(Tr (z0=true))∧(z0=true→(0:Int)≤0∧0 < (x0.length:Int))∧(Tr (z0=true))∧(Tr (z0=true))∧(Tr (z0=true))∧(z0=true→ZaS (y_3,()))∧(Tr (z0=true))∧(z0=true→(0:Int)≤0∧0 < (x1.length:Int))∧(Tr (z0=true))∧(Tr (z0=true))∧(Tr (z0=true))∧(z0=true→ZaS (y_4,()))∧(Tr (z0=true))∧(Tr (z0=true))∧((!z3)=true→(True→(!z3)=true))∧((!z3)=true→(z2=true→z0=true))∧(z3=false→(!z3)=true)∧((z4=true→((0:Int)≤0∧0 < (x0.length:Int))∧((x10.length+([y_3]).length)*32≤140737488355328)∧((0:Int)≤1∧1≤(x0.length:Int))∧(N0 (Z2U p q at_ one (List.drop (Int.toNat 1) x0) x1 (x10++([y_3])))))∧(z4=false→(Tr ((!z1)=true))∧((!z1)=true→(0:Int)≤0∧0 < (x1.length:Int))∧(Tr ((!z1)=true))∧(Tr ((!z1)=true))∧(Tr ((!z1)=true))∧((!z1)=true→ZaS (y_4,()))∧(Tr ((!z1)=true))∧((!z1)=true→(0:Int)≤0∧0 < (x0.length:Int))∧(Tr ((!z1)=true))∧(Tr ((!z1)=true))∧(Tr ((!z1)=true))∧((!z1)=true→ZaS (y_3,()))∧(Tr ((!z1)=true))∧(Tr ((!z1)=true))∧(z1=false→(!z1)=true)∧((z6=true→((0:Int)≤0∧0 < (x1.length:Int))∧((x10.length+([y_4]).length)*32≤140737488355328)∧((0:Int)≤1∧1≤(x1.length:Int))∧(N0 (Z2U p q at_ one x0 (List.drop (Int.toNat 1) x1) (x10++([y_4])))))∧(z6=false→((0:Int)≤0∧0 < (x0.length:Int))∧((0:Int)≤0∧0 < (x1.length:Int))∧(ZlC (y_3,y_4,()))∧(((!((JS y_3 y_4).2))=true→(Q .ret (L2 [(8,.c (.nils)),(9,.c (.bool false))] [])))∧((!((JS y_3 y_4).2))=false→((x10.length+([y_5]).length)*32≤140737488355328)∧((0:Int)≤1∧1≤(x0.length:Int))∧((0:Int)≤1∧1≤(x1.length:Int))∧(N0 (Z2U p q at_ one (List.drop (Int.toNat 1) x0) (List.drop (Int.toNat 1) x1) (x10++([y_5])))))))))))∧(z5=false→(Q .ret (L2 [(8,.c (sU .wedit x10 (.own (.e 8 0)))),(9,.c (.bool true))] []))))):
  ZD0 [1,1,0,0,0] (Z2U p q at_ one x0 x1 x10) (xT N0 (xB 0 (ZFd [1,1,1] Q))):=
 Eq.mpr (by kernel_rfl) (h _ rfl _ rfl _ (Z8b _) _ (Z8b _) _ (Z8b _))
def Zyt(p q:List WEdit)(at_ one:Unit):Prop:=AW (Z0 ZhX) Tryz.f203 ZnO [] (Zl (Zp2.can (p,q,at_,one,())) []) (EQ Tryz.f203 (Zhm (p,q,at_,one,())) [])
theorem ZwK(ZBG:CT 204 Z8R)(ZBF:CT 205 Z8Q)(hb:∀ (p:List WEdit) (q:List WEdit) (at_:Unit) (one:Unit) (_:Unit),ZlD (p,q,at_,one,())→Zyt p q at_ one):CT 203 Z8S:=
 Z4 (l:=[(204,Z8R),(205,Z8Q)]) Zo rfl (⟨ZBG,ZBF,trivial⟩) ZnO Tryz.func203 rfl rfl 4 (fun _=> rfl) (by decide) (fun ⟨p,q,at_,one,_⟩=> hb p q at_ one ())
def Zox:List (FuncId × Fs U):=[(203,Z8S)]
def Zu3:Zj U:=lvl [([0,1],[]),([4,5],[])]
abbrev ZGt(p:List Nat):=AW (Z0 Zox) Tryz.f164 Zu3 p
theorem ZDT(p q:List WEdit)(Q:QT)(h:((ZlD (p,q,(),(),()))∧(Q .ret (L2 [(4,.c (sU .wedit (ofO (Zt WEdit.at_ JS p q)) .unk)),(5,.c (.bool ((Zt WEdit.at_ JS p q).isSome)))] [])))):
  ZGt [] (L2 [(0,.c (sU .wedit p .unk)),(1,.c (sU .wedit q .unk))] []) Q:=
 Eq.mpr (by kernel_rfl) h
def ZyO(p q:List WEdit):Prop:=AW (Z0 Zox) Tryz.f164 Zu3 [] (Zl (Zph.can (p,q,())) []) (EQ Tryz.f164 (ZsM (p,q,())) [])
theorem Zx1(ZBH:CT 203 Z8S)(hb:∀ (p:List WEdit) (q:List WEdit) (_:Unit),ZlF (p,q,())→ZyO p q):CT 164 Z2n:=
 Z4 (l:=[(203,Z8S)]) Zo rfl (⟨ZBH,trivial⟩) Zu3 Tryz.func164 rfl rfl 2 (fun _=> rfl) (by decide) (fun ⟨p,q,_⟩=> hb p q ())
end
end Go.AM.YtpjenobkibfpcaaGreat
