import Derived.Test.YtpjenobkibfpcaaKB22c
import Derived.Test.YtpjenobkibfpcaaCD25s
import Derived.Test.YtpjenobkibfpcaaKL23r
import Derived.Test.YtpjenobkibfpcaaKD24
set_option linter.unusedSimpArgs false
set_option linter.unusedVariables false
namespace Go.AM.Ytpjenobkibfpcaa
open Go.AM Go.Proofs
noncomputable section
noncomputable section
def Z1e(a:Edit × Unit):Prop:=Z8 a.1<=20000000000/\∃ d,Z5 a.1 d=true
def Zca(a:Edit × Unit):Nat:=2*Z8 a.1
def Z9f(a:Edit × Unit):V U:= .agg (enc .edit (Zx a.1))
def Zb8:Fs U:=fs Zlm (fun a=> [Z1e a]) Z9f
def Zfr:ArgL (Int × List Op × Unit):=(.cons (JR .i64) (.cons (aSl .op) .nil))
def Z9g(a:Int × List Op × Unit):Prop:=Zg a.2.1<=20000000000/\∀ o∈a.2.1,∃ d,Za a.1 o d=true
def ZgO(a:Int × List Op × Unit):Nat:=2*Zg a.2.1+1
def Zgj(a:Int × List Op × Unit):V U:= .c (sU .op ((Z0 (ZO a.1 a.2.1 (Wst.mk [] [] []))).out) .unk)
def ZnE:Fs U:=fs Zfr (fun a=> [Z9g a]) Zgj
def Z2z(N:Nat):List (FuncId × Fs U):=(57,fs Zlm (fun a=> [Z1e a,Zca a < N]) Z9f) ::(94,fs Zfr (fun a=> [Z9g a,ZgO a < N]) Zgj) ::[(71,JZ),(128,Z2H),(126,Z4O),(129,Z1l),(127,Z3W)]
def Zf5:Zf U:=fun i=> match i with
 | 0=> ([(1,[]),(2,[])],[(.loc 1,[]),(.loc 2,[])])
 | 1=> ([(1,[]),(2,[]),(3,[])],[(.loc 1,[]),(.loc 2,[]),(.loc 3,[])])
 | 2=> ([(1,[]),(2,[]),(3,[]),(12,[])],[(.loc 1,[]),(.loc 2,[]),(.loc 3,[])])
 | 3=> ([(1,[]),(2,[]),(3,[]),(12,[]),(13,[])],[(.loc 1,[]),(.loc 2,[]),(.loc 3,[])])
 | 4=> ([(2,[]),(3,[])],[(.loc 2,[]),(.loc 3,[])])
 | 5=> ([(1,[]),(2,[]),(3,[]),(12,[]),(23,[])],[(.loc 1,[]),(.loc 2,[]),(.loc 3,[])])
 | 6=> ([(1,[]),(2,[]),(3,[])],[(.loc 1,[]),(.loc 2,[]),(.loc 3,[])])
 | 7=> ([(2,[]),(3,[]),(32,[]),(33,[]),(34,[])],[(.loc 2,[]),(.loc 3,[.any,.any,.any,.any,.any,.any,.any,.any,.own .kid])])
 | 8=> ([(2,[]),(3,[]),(32,[]),(33,[]),(34,[]),(35,[])],[(.loc 2,[]),(.loc 3,[])])
 | 9=> ([(2,[]),(3,[]),(5,[]),(32,[]),(33,[]),(34,[])],[(.loc 2,[]),(.loc 3,[]),(.loc 5,[])])
 | 10=> ([(2,[]),(3,[]),(32,[]),(33,[]),(34,[])],[(.loc 2,[]),(.loc 3,[])])
 | 11=> ([(2,[]),(3,[]),(32,[]),(33,[]),(34,[])],[(.loc 2,[]),(.loc 3,[.any,.any,.any,.any,.any,.any,.any,.any,.own .kid])])
 | 12=> ([(1,[]),(2,[]),(3,[]),(50,[])],[(.loc 1,[]),(.loc 2,[]),(.loc 3,[])])
 | 13=> ([(2,[]),(3,[])],[(.loc 2,[]),(.loc 3,[])])
 | 14=> ([(2,[])],[(.loc 2,[])])
 | _=> ([],[])
def Z32(e:Edit)(x34:Int)(ml3_8:List Kid):LSt U:=(L2 [pL 2,pL 3,(32,.c (sU .kid e.kids .unk)),pI 33 (e.kids.length:Int),pI 34 x34] [(.loc 2,zc1),(.loc 3,[ci e.kind,ci 0,.nils,.nils,ci 0,.nils,.nils,sU .wedit (([]:List WEdit)++e.words) (.own (.l 3 7)),sU .kid ml3_8 (.own (.l 3 8)),ci e.list,.nils])])
abbrev W57(N:Nat)(e:Edit)(Q:QT):=AW (Z6 (Z2z N)) Try.f57 Zf5 [] (L2 [(0,.agg (enc .edit e))] []) Q
abbrev Zn0(N:Nat):=awp cfg (Z6 (Z2z N)) (YD cfg (Z6 (Z2z N))) Try.f57.ntmps Zf5
abbrev ZlN(N:Nat):=ZnJ cfg (Z6 (Z2z N)) (YD cfg (Z6 (Z2z N))) Try.f57.ntmps Zf5
theorem ZyZ(N:Nat)(e:Edit)(Q:QT)(h:((e.kind==1)=true->(Z0A ((Tree.mk e.old.kind e.old.words e.old.kids),()))/\(Z0A ((Tree.mk e.new.kind e.new.words e.new.kids),()))/\(Q .ret (L2 [pL 2] [(.loc 2,([ci e.kind]++enc .tree (Z2 (Tree.mk e.old.kind e.old.words e.old.kids))++enc .tree (Z2 (Tree.mk e.new.kind e.new.words e.new.kids))++[.nils,.nils,ci e.list,.nils]))])))/\((e.kind==1)=false->((e.kind==2)=true->((([]:List WEdit).length+e.words.length)*32<=140737488355328)/\(Zo (AW (Z6 (Z2z N)) Try.f57 Zf5 [1,1,0,1,0,1,1,1,0,1,1,0,0]) (Z32 e 0 []) (xB 1 (xB 0 (SW (Z6 (Z2z N)) Try.f57 Zf5 [1,1,1] Q)))))/\((e.kind==2)=false->((e.kind==3)=true->(Z9g (e.list,e.ops,()))/\(ZgO (e.list,e.ops,()) < N)/\(Q .ret (L2 [pL 2] [(.loc 2,[ci e.kind,ci 0,.nils,.nils,ci 0,.nils,.nils,.nils,.nils,ci e.list,sU .op ((Z0 (ZO e.list e.ops (Wst.mk [] [] []))).out) .unk])])))/\((e.kind==3)=false->Q .ret (L2 [pL 2] [(.loc 2,[ci e.kind,ci 0,.nils,.nils,ci 0,.nils,.nils,.nils,.nils,ci e.list,.nils])]))))):
  W57 N e Q:=by
 have e_:(W57 N e Q)=(((e.kind==1)=true->(Z0A ((Tree.mk e.old.kind e.old.words e.old.kids),()))/\(Z0A ((Tree.mk e.new.kind e.new.words e.new.kids),()))/\(Q .ret (L2 [pL 2] [(.loc 2,([ci e.kind]++enc .tree (Z2 (Tree.mk e.old.kind e.old.words e.old.kids))++enc .tree (Z2 (Tree.mk e.new.kind e.new.words e.new.kids))++[.nils,.nils,ci e.list,.nils]))])))/\((e.kind==1)=false->(((e.kind==2)=true->((([]:List WEdit).length+e.words.length)*32<=140737488355328)/\(Zo (Zn0 N (cd Try.f57 [1,1,0,1,0,1,1,1,0,1,1,0,0])) (Z32 e 0 []) (xB 1 (xB 0 (ZlN N (cd Try.f57 [1,1,1]) Q)))))/\((e.kind==2)=false->(((e.kind==3)=true->(Z9g (e.list,e.ops,()))/\(ZgO (e.list,e.ops,()) < N)/\(Q .ret (L2 [pL 2] [(.loc 2,[ci e.kind,ci 0,.nils,.nils,ci 0,.nils,.nils,.nils,.nils,ci e.list,sU .op ((Z0 (ZO e.list e.ops (Wst.mk [] [] []))).out) .unk])])))/\((e.kind==3)=false->(Q .ret (L2 [pL 2] [(.loc 2,[ci e.kind,ci 0,.nils,.nils,ci 0,.nils,.nils,.nils,.nils,ci e.list,.nils])])))))))):=by kernel_rfl
 exact e_.mpr ⟨fun c_1=> ⟨(h.1 c_1).1,(h.1 c_1).2.1,(h.1 c_1).2.2⟩,fun c_1=> ⟨fun c_2=> ⟨((h.2 c_1).1 c_2).1,((h.2 c_1).1 c_2).2⟩,fun c_2=> ⟨fun c_3=> ⟨(((h.2 c_1).2 c_2).1 c_3).1,(((h.2 c_1).2 c_2).1 c_3).2.1,(((h.2 c_1).2 c_2).1 c_3).2.2⟩,fun c_3=> (((h.2 c_1).2 c_2).2 c_3)⟩⟩⟩
abbrev Zqs(N:Nat)(e:Edit)(x34:Int)(ml3_8:List Kid)(N0:NT)(Q:QT):=AW (Z6 (Z2z N)) Try.f57 Zf5 [1,1,0,1,0,1,1,1,0,1,1,0,0] (Z32 e x34 ml3_8) (xT N0 (xB 1 (xB 0 (SW (Z6 (Z2z N)) Try.f57 Zf5 [1,1,1] Q))))
theorem Zr0(N:Nat)(e:Edit)(x34:Int)(ml3_8:List Kid)(N0:NT)(Q:QT)(h:∀ y_1,y_1=(e.kids.getD x34.toNat (KidOf.mk 0 Edit.nil))->∀ y_2,y_2=(y_1.e)->∀ y_3,y_3=(Zx y_2)->((decide (x34 < (e.kids.length:Int)))=true->((0:Int)<=x34/\x34 < (e.kids.length:Int))/\((Z1e (y_2,()))/\(Zca (y_2,()) < N)/\((ml3_8.length+([(KidOf.mk y_1.at_ y_3:Kid)]).length)*208<=140737488355328)/\((InR (x34+1))/\(N0 (Z32 e (x34+1) (ml3_8++([(KidOf.mk y_1.at_ y_3:Kid)])))))))/\((decide (x34 < (e.kids.length:Int)))=false->Q .ret (L2 [pL 2] [(.loc 2,[ci e.kind,ci 0,.nils,.nils,ci 0,.nils,.nils,sU .wedit (([]:List WEdit)++e.words) (.own (.l 2 7)),sU .kid ml3_8 (.own (.l 2 8)),ci e.list,.nils])]))):
  Zqs N e x34 ml3_8 N0 Q:=by
 have e_:(Zqs N e x34 ml3_8 N0 Q)=(let y_1:=(e.kids.getD x34.toNat (KidOf.mk 0 Edit.nil));let y_2:=(Z1W y_1.e);let y_3:=(Z1W (Zx y_2));(((decide ((x34:Int) < (e.kids.length:Int)))=true->((0:Int)<=x34/\x34 < (e.kids.length:Int))/\((Z1e (y_2,()))/\(Zca (y_2,()) < N)/\((ml3_8.length+([(KidOf.mk y_1.at_ y_3:Kid)]).length)*208<=140737488355328)/\((InR ((x34:Int)+1))/\(N0 (Z32 e ((x34:Int)+1) (ml3_8++([(KidOf.mk y_1.at_ y_3:Kid)])))))))/\((decide ((x34:Int) < (e.kids.length:Int)))=false->(Q .ret (L2 [pL 2] [(.loc 2,[ci e.kind,ci 0,.nils,.nils,ci 0,.nils,.nils,sU .wedit (([]:List WEdit)++e.words) (.own (.l 2 7)),sU .kid ml3_8 (.own (.l 2 8)),ci e.list,.nils])]))))):=by kernel_rfl
 exact e_.mpr (by intro y_1 y_2 y_3;have hh:=h y_1 rfl y_2 (Zd _) y_3 (Zd _);exact ⟨fun c_4=> ⟨(hh.1 c_4).1,⟨(hh.1 c_4).2.1,(hh.1 c_4).2.2.1,(hh.1 c_4).2.2.2.1,⟨(hh.1 c_4).2.2.2.2.1,(hh.1 c_4).2.2.2.2.2⟩⟩⟩,fun c_4=> (hh.2 c_4)⟩)
def ZwH(N:Nat)(e:Edit):Prop:=AW (Z6 (Z2z N)) Try.f57 Zf5 [] (Zm (Zlm.can (e,())) []) (EQ Try.f57 (Z9f (e,())) [])
abbrev ZyE:Prop:=∀ (N:Nat) (e:Edit) (_:Unit),Z1e (e,())->Zca (e,()) < N+1->ZwH N e
def Zf4:Zf U:=fun i=> match i with
 | 0=> ([(0,[]),(1,[])],[])
 | 1=> ([(0,[]),(1,[]),(5,[])],[(.loc 10,[.wr .op])])
 | 2=> ([(0,[]),(5,[]),(11,[]),(12,[]),(13,[])],[(.loc 10,[.wr .op,.own .tree,.own .tree])])
 | 3=> ([(0,[]),(5,[]),(11,[]),(12,[]),(13,[]),(14,[])],[(.loc 10,[.wr .op])])
 | 4=> ([(0,[]),(5,[]),(7,[]),(11,[]),(12,[]),(13,[])],[(.loc 7,[]),(.loc 10,[.wr .op])])
 | 5=> ([(0,[]),(5,[]),(7,[]),(11,[]),(12,[]),(13,[]),(18,[])],[(.loc 7,[]),(.loc 10,[.wr .op])])
 | 6=> ([(0,[]),(5,[]),(7,[]),(11,[]),(12,[]),(13,[]),(18,[]),(19,[])],[(.loc 7,[]),(.loc 10,[.wr .op])])
 | 7=> ([(0,[]),(5,[]),(11,[]),(12,[]),(13,[])],[(.loc 10,[.wr .op])])
 | 8=> ([(0,[]),(5,[]),(7,[]),(11,[]),(12,[]),(13,[]),(18,[]),(25,[])],[(.loc 7,[]),(.loc 10,[.wr .op])])
 | 9=> ([(0,[]),(5,[]),(11,[]),(12,[]),(13,[])],[(.loc 10,[.wr .op])])
 | 10=> ([(0,[]),(5,[]),(7,[]),(11,[]),(12,[]),(13,[]),(18,[]),(33,[])],[(.loc 7,[]),(.loc 10,[.wr .op])])
 | 11=> ([(0,[]),(5,[]),(11,[]),(12,[]),(13,[])],[(.loc 10,[.wr .op])])
 | 12=> ([(0,[]),(5,[]),(7,[]),(11,[]),(12,[]),(13,[]),(41,[])],[(.loc 7,[]),(.loc 10,[.wr .op])])
 | 13=> ([(0,[]),(5,[]),(8,[]),(11,[]),(12,[]),(13,[])],[(.loc 8,[]),(.loc 10,[.wr .op])])
 | 14=> ([(0,[]),(5,[]),(8,[]),(11,[]),(12,[]),(13,[]),(48,[])],[(.loc 8,[]),(.loc 10,[.wr .op])])
 | 15=> ([(0,[]),(5,[]),(11,[]),(12,[]),(13,[])],[(.loc 10,[.wr .op])])
 | 16=> ([(0,[]),(5,[]),(8,[]),(11,[]),(12,[]),(13,[])],[(.loc 8,[]),(.loc 10,[.wr .op])])
 | 17=> ([(0,[]),(5,[]),(11,[]),(12,[]),(13,[])],[(.loc 10,[.wr .op])])
 | 18=> ([(0,[]),(5,[]),(11,[]),(12,[]),(13,[])],[(.loc 10,[.wr .op,.own .tree,.own .tree])])
 | 19=> ([(5,[])],[(.loc 10,[.wr .op])])
 | 20=> ([(4,[])],[])
 | _=> ([],[])
def Y2(list:Int)(l:List Op)(x13:Int)(rl_10_0:List Op)(ml10_1 ml10_2:List Tree):LSt U:=(⟨[pI 0 list,(5,.ptr (.loc 10) 0),(11,.c (sU .op l .unk)),pI 12 (l.length:Int),pI 13 x13],[(.loc 10,[.mref (.l 10 0),sU .tree ml10_1 (.own (.l 10 1)),sU .tree ml10_2 (.own (.l 10 2))])],[(.l 10 0,LC.mk (U:=U) .op rl_10_0 0)]⟩:LSt U)
abbrev W94(N:Nat)(list:Int)(l:List Op)(Q:QT):=AW (Z6 (Z2z N)) Try.f94 Zf4 [] (L2 [pI 0 list,(1,.c (sU .op l .unk))] []) Q
abbrev ZmZ(N:Nat):=awp cfg (Z6 (Z2z N)) (YD cfg (Z6 (Z2z N))) Try.f94.ntmps Zf4
abbrev ZlM(N:Nat):=ZnJ cfg (Z6 (Z2z N)) (YD cfg (Z6 (Z2z N))) Try.f94.ntmps Zf4
theorem ZyI(N:Nat)(list:Int)(l:List Op)(Q:QT)(h:Zo (AW (Z6 (Z2z N)) Try.f94 Zf4 [1,1,0,1,0,0]) (Y2 list l 0 [] [] []) (xB 0 (SW (Z6 (Z2z N)) Try.f94 Zf4 [1,1,1] Q))):
  W94 N list l Q:=by
 have e_:(W94 N list l Q)=(Zo (ZmZ N (cd Try.f94 [1,1,0,1,0,0])) (Y2 list l 0 [] [] []) (xB 0 (ZlM N (cd Try.f94 [1,1,1]) Q))):=by kernel_rfl
 exact e_.mpr h
abbrev Zqr(N:Nat)(list:Int)(l:List Op)(x13:Int)(rl_10_0:List Op)(ml10_1 ml10_2:List Tree)(N0:NT)(Q:QT):=AW (Z6 (Z2z N)) Try.f94 Zf4 [1,1,0,1,0,0] (Y2 list l x13 rl_10_0 ml10_1 ml10_2) (xT N0 (xB 0 (SW (Z6 (Z2z N)) Try.f94 Zf4 [1,1,1] Q)))
theorem ZqG(N:Nat)(list:Int)(l:List Op)(x13:Int)(rl_10_0:List Op)(ml10_1 ml10_2:List Tree)(N0:NT)(Q:QT)(h:∀ y_1,y_1=(l.getD x13.toNat Op.nil)->∀ y_2,y_2=(Edit.mk 0 (Tree.mk 0 [] []) (Tree.mk 0 [] []) [] [] 0 [])->∀ y_3,y_3=(Int.toNat (((Z0 (Wst.mk rl_10_0 ml10_1 ml10_2)).out).length:Int))->∀ y_4,y_4=(y_1.e)->∀ y_5,y_5=(Zx y_4)->((decide (x13 < (l.length:Int)))=true->((0:Int)<=x13/\x13 < (l.length:Int))/\(((y_1.kind==0)=true->(Z3r ((rl_10_0,ml10_1,ml10_2,()),y_1.n,()))/\((InR (x13+1))/\(N0 (Y2 list l (x13+1) ((ZH (Wst.mk rl_10_0 ml10_1 ml10_2) y_1.n).out) ((ZH (Wst.mk rl_10_0 ml10_1 ml10_2) y_1.n).gone) ((ZH (Wst.mk rl_10_0 ml10_1 ml10_2) y_1.n).brought)))))/\((y_1.kind==0)=false->((y_1.kind==1)=true->(Z8o ((rl_10_0,ml10_1,ml10_2,()),y_1.l,()))/\((InR (x13+1))/\(N0 (Y2 list l (x13+1) ((Wst.mk rl_10_0 (ml10_1++Z3 y_1.l) ml10_2).out) ((Wst.mk rl_10_0 (ml10_1++Z3 y_1.l) ml10_2).gone) ((Wst.mk rl_10_0 (ml10_1++Z3 y_1.l) ml10_2).brought)))))/\((y_1.kind==1)=false->((y_1.kind==2)=true->(Z8o ((rl_10_0,ml10_1,ml10_2,()),y_1.l,()))/\((InR (x13+1))/\(N0 (Y2 list l (x13+1) ((Wst.mk rl_10_0 ml10_1 (ml10_2++Z3 y_1.l)).out) ((Wst.mk rl_10_0 ml10_1 (ml10_2++Z3 y_1.l)).gone) ((Wst.mk rl_10_0 ml10_1 (ml10_2++Z3 y_1.l)).brought)))))/\((y_1.kind==2)=false->((y_1.kind==3)=true->(Z1e (y_4,()))/\(Zca (y_4,()) < N)/\((Z4Y (list,y_5,()))/\(((Z5R list y_5)=true->(Z3r ((rl_10_0,ml10_1,ml10_2,()),1,()))/\((InR (x13+1))/\(N0 (Y2 list l (x13+1) ((ZH (Wst.mk rl_10_0 ml10_1 ml10_2) 1).out) ((ZH (Wst.mk rl_10_0 ml10_1 ml10_2) 1).gone) ((ZH (Wst.mk rl_10_0 ml10_1 ml10_2) 1).brought)))))/\((Z5R list y_5)=false->(Z17 ((rl_10_0,ml10_1,ml10_2,()),()))/\(((((Z0 (Wst.mk rl_10_0 ml10_1 ml10_2)).out).length+([(OpOf.mk 0 0 [] y_2:Op)]).length)*240<=140737488355328)/\((0:Int)<=(((Z0 (Wst.mk rl_10_0 ml10_1 ml10_2)).out).length:Int)/\(((Z0 (Wst.mk rl_10_0 ml10_1 ml10_2)).out).length:Int) < ((((Z0 (Wst.mk rl_10_0 ml10_1 ml10_2)).out)++([(OpOf.mk 0 0 [] y_2:Op)])).length:Int))/\((0:Nat)<=y_3)/\((InR (x13+1))/\(N0 (Y2 list l (x13+1) (List.set (((Z0 (Wst.mk rl_10_0 ml10_1 ml10_2)).out)++([(OpOf.mk 0 0 [] y_2:Op)])) y_3 (OpOf.mk 3 0 [] y_5:Op)) ((Z0 (Wst.mk rl_10_0 ml10_1 ml10_2)).gone) ((Z0 (Wst.mk rl_10_0 ml10_1 ml10_2)).brought)))))))))/\((y_1.kind==3)=false->(InR (x13+1))/\(N0 (Y2 list l (x13+1) rl_10_0 ml10_1 ml10_2))))))))/\((decide (x13 < (l.length:Int)))=false->(Z17 ((rl_10_0,ml10_1,ml10_2,()),()))/\(Q .ret (L2 [(4,.c (sU .op ((Z0 (Wst.mk rl_10_0 ml10_1 ml10_2)).out) (.own (.e 4 0))))] [])))):
  Zqr N list l x13 rl_10_0 ml10_1 ml10_2 N0 Q:=by
 have e_:(Zqr N list l x13 rl_10_0 ml10_1 ml10_2 N0 Q)=(let y_1:=(l.getD x13.toNat Op.nil);let y_2:=(Edit.mk 0 (Tree.mk 0 [] []) (Tree.mk 0 [] []) [] [] 0 []);let y_3:=(Int.toNat (((Z0 (Wst.mk rl_10_0 ml10_1 ml10_2)).out).length:Int));let y_4:=(Z1W y_1.e);let y_5:=(Z1W (Zx y_4));(((decide ((x13:Int) < (l.length:Int)))=true->((0:Int)<=x13/\x13 < (l.length:Int))/\(((y_1.kind==0)=true->(Z3r ((rl_10_0,ml10_1,ml10_2,()),y_1.n,()))/\((InR ((x13:Int)+1))/\(N0 (Y2 list l ((x13:Int)+1) ((ZH (Wst.mk rl_10_0 ml10_1 ml10_2) y_1.n).out) ((ZH (Wst.mk rl_10_0 ml10_1 ml10_2) y_1.n).gone) ((ZH (Wst.mk rl_10_0 ml10_1 ml10_2) y_1.n).brought)))))/\((y_1.kind==0)=false->(((y_1.kind==1)=true->(Z8o ((rl_10_0,ml10_1,ml10_2,()),y_1.l,()))/\((InR ((x13:Int)+1))/\(N0 (Y2 list l ((x13:Int)+1) ((Wst.mk rl_10_0 (ml10_1++Z3 y_1.l) ml10_2).out) ((Wst.mk rl_10_0 (ml10_1++Z3 y_1.l) ml10_2).gone) ((Wst.mk rl_10_0 (ml10_1++Z3 y_1.l) ml10_2).brought)))))/\((y_1.kind==1)=false->(((y_1.kind==2)=true->(Z8o ((rl_10_0,ml10_1,ml10_2,()),y_1.l,()))/\((InR ((x13:Int)+1))/\(N0 (Y2 list l ((x13:Int)+1) ((Wst.mk rl_10_0 ml10_1 (ml10_2++Z3 y_1.l)).out) ((Wst.mk rl_10_0 ml10_1 (ml10_2++Z3 y_1.l)).gone) ((Wst.mk rl_10_0 ml10_1 (ml10_2++Z3 y_1.l)).brought)))))/\((y_1.kind==2)=false->(((y_1.kind==3)=true->(Z1e (y_4,()))/\(Zca (y_4,()) < N)/\((Z4Y (list,y_5,()))/\(((Z5R list y_5)=true->(Z3r ((rl_10_0,ml10_1,ml10_2,()),1,()))/\((InR ((x13:Int)+1))/\(N0 (Y2 list l ((x13:Int)+1) ((ZH (Wst.mk rl_10_0 ml10_1 ml10_2) 1).out) ((ZH (Wst.mk rl_10_0 ml10_1 ml10_2) 1).gone) ((ZH (Wst.mk rl_10_0 ml10_1 ml10_2) 1).brought)))))/\((Z5R list y_5)=false->(Z17 ((rl_10_0,ml10_1,ml10_2,()),()))/\(((((Z0 (Wst.mk rl_10_0 ml10_1 ml10_2)).out).length+([(OpOf.mk 0 0 [] y_2:Op)]).length)*240<=140737488355328)/\((0:Int)<=(((Z0 (Wst.mk rl_10_0 ml10_1 ml10_2)).out).length:Int)/\(((Z0 (Wst.mk rl_10_0 ml10_1 ml10_2)).out).length:Int) < ((((Z0 (Wst.mk rl_10_0 ml10_1 ml10_2)).out)++([(OpOf.mk 0 0 [] y_2:Op)])).length:Int))/\((0:Nat)<=y_3)/\((InR ((x13:Int)+1))/\(N0 (Y2 list l ((x13:Int)+1) (List.set (((Z0 (Wst.mk rl_10_0 ml10_1 ml10_2)).out)++([(OpOf.mk 0 0 [] y_2:Op)])) y_3 (OpOf.mk 3 0 [] y_5:Op)) ((Z0 (Wst.mk rl_10_0 ml10_1 ml10_2)).gone) ((Z0 (Wst.mk rl_10_0 ml10_1 ml10_2)).brought)))))))))/\((y_1.kind==3)=false->(InR ((x13:Int)+1))/\(N0 (Y2 list l ((x13:Int)+1) rl_10_0 ml10_1 ml10_2)))))))))))/\((decide ((x13:Int) < (l.length:Int)))=false->(Z17 ((rl_10_0,ml10_1,ml10_2,()),()))/\(Q .ret (L2 [(4,.c (sU .op ((Z0 (Wst.mk rl_10_0 ml10_1 ml10_2)).out) (.own (.e 4 0))))] []))))):=by kernel_rfl
 exact e_.mpr (by intro y_1 y_2 y_3 y_4 y_5;have hh:=h y_1 rfl y_2 rfl y_3 rfl y_4 (Zd _) y_5 (Zd _);exact ⟨fun c_5=> ⟨(hh.1 c_5).1,⟨fun c_6=> ⟨((hh.1 c_5).2.1 c_6).1,⟨((hh.1 c_5).2.1 c_6).2.1,((hh.1 c_5).2.1 c_6).2.2⟩⟩,fun c_6=> ⟨fun c_7=> ⟨(((hh.1 c_5).2.2 c_6).1 c_7).1,⟨(((hh.1 c_5).2.2 c_6).1 c_7).2.1,(((hh.1 c_5).2.2 c_6).1 c_7).2.2⟩⟩,fun c_7=> ⟨fun c_8=> ⟨((((hh.1 c_5).2.2 c_6).2 c_7).1 c_8).1,⟨((((hh.1 c_5).2.2 c_6).2 c_7).1 c_8).2.1,((((hh.1 c_5).2.2 c_6).2 c_7).1 c_8).2.2⟩⟩,fun c_8=> ⟨fun c_9=> ⟨(((((hh.1 c_5).2.2 c_6).2 c_7).2 c_8).1 c_9).1,(((((hh.1 c_5).2.2 c_6).2 c_7).2 c_8).1 c_9).2.1,⟨(((((hh.1 c_5).2.2 c_6).2 c_7).2 c_8).1 c_9).2.2.1,⟨fun c_10=> ⟨((((((hh.1 c_5).2.2 c_6).2 c_7).2 c_8).1 c_9).2.2.2.1 c_10).1,⟨((((((hh.1 c_5).2.2 c_6).2 c_7).2 c_8).1 c_9).2.2.2.1 c_10).2.1,((((((hh.1 c_5).2.2 c_6).2 c_7).2 c_8).1 c_9).2.2.2.1 c_10).2.2⟩⟩,fun c_10=> ⟨((((((hh.1 c_5).2.2 c_6).2 c_7).2 c_8).1 c_9).2.2.2.2 c_10).1,⟨((((((hh.1 c_5).2.2 c_6).2 c_7).2 c_8).1 c_9).2.2.2.2 c_10).2.1,((((((hh.1 c_5).2.2 c_6).2 c_7).2 c_8).1 c_9).2.2.2.2 c_10).2.2.1,((((((hh.1 c_5).2.2 c_6).2 c_7).2 c_8).1 c_9).2.2.2.2 c_10).2.2.2.1,⟨((((((hh.1 c_5).2.2 c_6).2 c_7).2 c_8).1 c_9).2.2.2.2 c_10).2.2.2.2.1,((((((hh.1 c_5).2.2 c_6).2 c_7).2 c_8).1 c_9).2.2.2.2 c_10).2.2.2.2.2⟩⟩⟩⟩⟩⟩,fun c_9=> ⟨(((((hh.1 c_5).2.2 c_6).2 c_7).2 c_8).2 c_9).1,(((((hh.1 c_5).2.2 c_6).2 c_7).2 c_8).2 c_9).2⟩⟩⟩⟩⟩⟩,fun c_5=> ⟨(hh.2 c_5).1,(hh.2 c_5).2⟩⟩)
def Zwq(N:Nat)(list:Int)(l:List Op):Prop:=AW (Z6 (Z2z N)) Try.f94 Zf4 [] (Zm (Zfr.can (list,l,())) []) (EQ Try.f94 (Zgj (list,l,())) [])
abbrev ZyA:Prop:=∀ (N:Nat) (list:Int) (l:List Op) (_:Unit),Z9g (list,l,())->ZgO (list,l,()) < N+1->Zwq N list l
theorem Zmk(c71:CT 71 JZ)(Zq2:CT 128 Z2H)(Zw2:CT 126 Z4O)(ZmP:CT 129 Z1l)(Zq0:CT 127 Z3W)(ha:ZyE)(hb:ZyA):CT 57 Zb8/\CT 94 ZnE:=
 Z5T (μA:=Zca) (μB:=ZgO) (l:=[(71,JZ),(128,Z2H),(126,Z4O),(129,Z1l),(127,Z3W)]) Zn rfl (⟨c71,Zq2,Zw2,ZmP,Zq0,trivial⟩) Zf5 Zf4 Try.func57 Try.func94 rfl rfl rfl rfl 1 2 (fun _=> rfl) (fun _=> rfl) (by decide) (by decide) (fun N ⟨e,_⟩=> ha N e ()) (fun N ⟨list,l,_⟩=> hb N list l ())
end
end
theorem Zmt(s:Wst)(n:Int):(ZH s n).out.length<=s.out.length+3:=by
 have h:=Z8Q s
 simp only [ZH]
 rw [Z7q]
 split
 ·rw [Ke];omega
 ·rw [Q9];simp;omega
theorem Zsw{s:Wst}{n B K:Int}(hB:0<=B)(hn:0<=n/\n<=K)(h:∀ o∈s.out,0<=o.n/\o.n<=B):∀ o∈(ZH s n).out,0<=o.n/\o.n<=B+K:=by
 have hF:∀ o∈(Z0 s).out,0<=o.n/\o.n<=B:=by
  intro o ho
  rcases Z8P s o ho with h1 | h1
  ·exact h o h1
  ·omega
 intro o ho
 simp only [ZH] at ho
 rw [Z7q] at ho
 split at ho
 ·rename_i hc
  rcases List.mem_or_eq_of_mem_set ho with ho | rfl
  ·have:=hF o ho;omega
  ·have:=hF _ (Zl (l:=(Z0 s).out) (i:=(Z0 s).out.length - 1) (by omega) Op.nil)
   simp only;omega
 ·rcases Qi.1 ho with ho | ho
  ·have:=hF o ho;omega
  ·simp only [Qj] at ho;subst ho;simp only;omega
theorem Zc2:∀ (l:List Kid),(Jb l).length=l.length
 | []=> rfl
 | k ::r=> by simp [Jb,Zc2 r]
theorem Zih(e:Edit):(Zx e).words.length<=e.words.length/\(Zx e).kids.length<=e.kids.length:=by
 rw [Z3v]
 split
 ·simp
 ·split
  ·simp [Zc2]
  ·split <;> simp
theorem Zem{list:Int}{o:Op}{d:Int}(h:Za list o d=true)(hk:o.kind=0):1<=o.n/\o.n<=1048576:=by
 obtain ⟨k,n,l,e⟩:=o
 simp only at hk
 subst hk
 simp [Za] at h
 show 1<=n/\n<=1048576
 omega
theorem Zen{list:Int}{o:Op}{d:Int}(h:Za list o d=true)(hk:o.kind=3):Z5 o.e d=true:=by
 obtain ⟨k,n,l,e⟩:=o
 simp only at hk
 subst hk
 simp [Za] at h
 exact h.2.1.2
theorem Zmq{e:Edit}{d:Int}(h:Z5 e d=true)(hk:e.kind=2):∀ k∈e.kids,∃ d,Z5 k.e d=true:=by
 obtain ⟨k,o,n,w,ks,l,os⟩:=e
 change k=2 at hk
 subst hk
 have hks:∃ d last,ZB last ks d=true:=by
  unfold Z5 at h
  split at h
  ·cases h
  ·split at h
   ·cases h
   ·rw [if_neg (by omega)] at h
    simp only [Q0] at h
    exact ⟨_,_,h.1.1.1.2⟩
 obtain ⟨d',last,hks⟩:=hks
 change ∀ k∈ks,_
 clear h
 induction ks generalizing last with
 | nil=> intro k hk;cases hk
 | cons a r ih=>
  simp only [ZB,Q0] at hks
  intro k hk
  rcases Qd.1 hk with rfl | hk
  ·obtain ⟨a,e⟩:=k
   simp only [Jr,Q0] at hks
   exact ⟨_,hks.1.2⟩
  ·exact ih _ hks.2 k hk
theorem Zot{e:Edit}{d:Int}(h:Z5 e d=true)(hk:e.kind=3):∀ o∈e.ops,∃ d,Za e.list o d=true:=by
 obtain ⟨k,o,n,w,ks,l,os⟩:=e
 change k=3 at hk
 subst hk
 have hos:∃ d,ZD l os d=true:=by
  unfold Z5 at h
  split at h
  ·cases h
  ·split at h
   ·cases h
   ·rw [if_neg (by omega)] at h
    simp only [Q0] at h
    exact ⟨_,h.1.2⟩
 obtain ⟨d',hos⟩:=hos
 change ∀ o∈os,∃ d,Za l o d=true
 clear h
 induction os with
 | nil=> intro k hk;cases hk
 | cons a r ih=>
  simp only [ZD,Q0] at hos
  intro k hk
  rcases Qd.1 hk with rfl | hk
  ·exact ⟨_,hos.1⟩
  ·exact ih hos.2 k hk
theorem b94:ZyA:=by
 intro N list l _ hp hN
 simp only [Z9g,ZgO] at hp hN
 obtain ⟨p1,p3⟩:=hp
 have hl:=Yw l
 refine ZyI _ _ _ _ ?_
 refine Zb (ι:=Int × Wst) (fun s=> Y2 list l s.1 s.2.out s.2.gone s.2.brought)
  (fun s=> 0<=s.1/\s.1<=l.length/\ZO list (l.drop s.1.toNat) s.2=ZO list l ⟨[],[],[]⟩/\s.2.out.length<=3*s.1/\s.2.gone.length+s.2.brought.length+Zg (l.drop s.1.toNat)<=Zg l/\∀ o∈s.2.out,0<=o.n/\o.n<=s.1*1048576)
  (fun s=> ((l.length:Int) - s.1).toNat) (0,⟨[],[],[]⟩) rfl ⟨by simp,by simp,by simp,by simp,by simp,by simp⟩ ?_
 rintro ⟨i,s⟩ ⟨g1,g2,g3,g4,g5,g6⟩
 dsimp only at g1 g2 g3 g4 g5 g6
 refine ZqG _ _ _ _ _ _ _ _ _ ?_
 rintro y1 hy1 y2 hy2 y3 hy3 y4 hy4 y5 hy5
 have hy:y2=Edit.nil:=hy2
 subst hy
 have es:Wst.mk s.out s.gone s.brought=s:=rfl
 simp only [es] at hy3 ⊢
 (simp only [vcS])
 refine ⟨fun hi=> ?_,fun hi=> ?_⟩
 ·have hmem:=Zl (l:=l) (i:=i.toNat) (by omega) Op.nil
  have hm:=YS hmem
  have hr:=p3 _ hmem
  rw [J5 g1 hi Op.nil] at g3 g5
  rw [<-hy1] at g3 g5 hm hr
  have hmo:=ZV y1
  simp only [ZO,Z10,Zg] at g3 g5
  rw [<-hy4,<-hy5] at g3
  obtain ⟨d,hr2⟩:=hr
  have hfl:=Z8Q s
  have hP:∀ n:Int,0<=n/\n<=1048576->Z3r ((s.out,s.gone,s.brought,()),n,()):=by
   intro n hn
   simp only [Z3r]
   refine ⟨by omega,by omega,by omega,fun o ho=> ?_,by omega,by omega⟩
   have:=g6 o ho
   constructor
   ·omega
   ·have:i*1048576<=20000000000*1048576:=by omega
    omega
  have hK:∀ n:Int,0<=n/\n<=1048576->ZO list (l.drop (i+1).toNat) (ZH s n)=ZO list l ⟨[],[],[]⟩->
    (∃ j:Int × Wst,Y2 list l (i+1) (ZH s n).out (ZH s n).gone (ZH s n).brought=Y2 list l j.1 j.2.out j.2.gone j.2.brought/\(0<=j.1/\j.1<=l.length/\ZO list (l.drop j.1.toNat) j.2=ZO list l ⟨[],[],[]⟩/\j.2.out.length<=3*j.1/\j.2.gone.length+j.2.brought.length+Zg (l.drop j.1.toNat)<=Zg l/\∀ o∈j.2.out,0<=o.n/\o.n<=j.1*1048576)/\((l.length:Int) - j.1).toNat < ((l.length:Int) - i).toNat):=by
   intro n hn he
   have h1:=Zmt s n
   have h2:=Zsw (s:=s) (n:=n) (B:=i*1048576) (K:=1048576) (by omega) hn g6
   refine ⟨(i+1,ZH s n),rfl,⟨by dsimp only;omega,by dsimp only;omega,he,by dsimp only;omega,by simp only [ZH,List.length_nil];omega,fun o ho=> ?_⟩,by dsimp only;omega⟩
   have:=h2 o ho
   dsimp only
   omega
  refine ⟨⟨g1,hi⟩,fun hk=> ?_,fun hk=> ⟨fun hk1=> ?_,fun hk1=> ⟨fun hk2=> ?_,fun hk2=> ⟨fun hk3=> ?_,fun hk3=> ?_⟩⟩⟩⟩
  ·rw [if_pos hk] at g3
   have h1:=Zem hr2 hk
   exact ⟨hP _ (by omega),by unfold InR;omega,hK _ (by omega) g3⟩
  ·rw [if_neg hk,if_pos hk1] at g3
   refine ⟨by simp only [Z8o];omega,by unfold InR;omega,(i+1,⟨s.out,s.gone++Z3 y1.l,s.brought⟩),rfl,⟨by dsimp only;omega,by dsimp only;omega,g3,by dsimp only;omega,?_,fun o ho=> ?_⟩,by dsimp only;omega⟩
   ·have:=Zv y1.l
    simp only [Q9,Z3,Xl];omega
   ·have:=g6 o ho
    dsimp only;omega
  ·rw [if_neg hk,if_neg hk1,if_pos hk2] at g3
   refine ⟨by simp only [Z8o];omega,by unfold InR;omega,(i+1,⟨s.out,s.gone,s.brought++Z3 y1.l⟩),rfl,⟨by dsimp only;omega,by dsimp only;omega,g3,by dsimp only;omega,?_,fun o ho=> ?_⟩,by dsimp only;omega⟩
   ·have:=Zv y1.l
    simp only [Q9,Z3,Xl];omega
   ·have:=g6 o ho
    dsimp only;omega
  ·rw [if_neg hk,if_neg hk1,if_neg hk2,if_pos hk3] at g3
   have hre:=Zen hr2 hk3
   rw [<-hy4] at hre
   have hw:=Zih y4
   rw [<-hy5] at hw
   have h1:=Je y4
   have h2:=J8 y4.kids
   have hmE:Z8 y4<=Zt y1:=by rw [hmo,hy4];omega
   refine ⟨by simp only [Z1e];exact ⟨by omega,d,hre⟩,by simp only [Zca];omega,by simp only [Z4Y];omega,fun hq=> ?_,fun hq=> ?_⟩
   ·rw [if_pos hq] at g3
    exact ⟨hP 1 (by omega),by unfold InR;omega,hK 1 (by omega) g3⟩
   ·rw [if_neg (by rw [hq];simp)] at g3
    rw [hy3,Z0X]
    refine ⟨by simp only [Z17];omega,by simp only [Qb,Qg];omega,by simp only [Q9,Qb,Qg];omega,by omega,by unfold InR;omega,(i+1,⟨(Z0 s).out++[⟨3,0,[],y5⟩],[],[]⟩),rfl,⟨by dsimp only;omega,by dsimp only;omega,g3,by simp;omega,by simp;omega,fun o ho=> ?_⟩,by dsimp only;omega⟩
    dsimp only at ho ⊢
    rcases Qi.1 ho with ho | ho
    ·rcases Z8P s o ho with h5 | h5
     ·have:=g6 o h5;omega
     ·omega
    ·simp only [Qj] at ho
     subst ho
     simp only;omega
  ·rw [if_neg hk,if_neg hk1,if_neg hk2,if_neg hk3] at g3
   refine ⟨by unfold InR;omega,(i+1,s),rfl,⟨by dsimp only;omega,by dsimp only;omega,g3,by dsimp only;omega,by dsimp only;omega,fun o ho=> ?_⟩,by dsimp only;omega⟩
   have:=g6 o ho
   dsimp only;omega
 ·rw [Qn (by omega)] at g3
  simp only [ZO] at g3
  refine ⟨by simp only [Z17];omega,?_⟩
  simp only [Zgj]
  rw [<-g3]
  (repeat' (first | exact trivial | exact rfl | apply And.intro))
theorem b57:ZyE:=by
 intro N e _ hp hN
 simp only [Z1e,Zca] at hp hN
 obtain ⟨p1,d,p3⟩:=hp
 have h1:=Je e
 have h2:=J8 e.kids
 have h3:=Yw e.ops
 have ha:=Z3v e
 refine ZyZ _ _ _ ?_
 (simp only [vcS])
 (simp only [Tree.eta,Edit.eta,Tree.kind_mk,Tree.words_mk,Tree.kids_mk])
 refine ⟨fun hk=> ⟨by simp only [Z0A];omega,by simp only [Z0A];omega,?_⟩,fun hk=> ⟨fun hk2=> ⟨by simp;omega,?_⟩,fun hk2=> ⟨fun hk3=> ⟨?_,by simp only [ZgO];omega,?_⟩,fun hk3=> ?_⟩⟩⟩
 ·rw [if_pos hk] at ha
  simp only [Z9f,ha]
  (repeat' (first | exact trivial | exact rfl | apply And.intro))
 ·rw [if_neg hk,if_pos hk2] at ha
  refine Zb (ι:=Int × List Kid) (fun s=> Z32 e s.1 s.2) (fun s=> 0<=s.1/\s.1<=e.kids.length/\s.2.length=s.1/\s.2++Jb (e.kids.drop s.1.toNat)=Jb e.kids) (fun s=> ((e.kids.length:Int) - s.1).toNat) (0,[]) rfl ⟨by simp,by simp,by simp,by simp⟩ ?_
  rintro ⟨j,ks⟩ ⟨f1,f2,f3,f4⟩
  dsimp only at f1 f2 f3 f4
  refine Zr0 _ _ _ _ _ _ ?_
  rintro y1 hy1 y2 hy2 y3 hy3
  (simp only [vcS])
  refine ⟨fun hj=> ?_,fun hj=> ?_⟩
  ·have hmem:=Zl (l:=e.kids) (i:=j.toNat) (by omega) (KidOf.mk 0 Edit.nil)
   have hm:=Z0M hmem
   have hr:=Zmq p3 hk2 _ hmem
   rw [J5 f1 hj (KidOf.mk 0 Edit.nil)] at f4
   rw [<-hy1] at f4 hm hr
   simp only [Jb,Zdx] at f4
   rw [<-hy2] at f4 hm hr
   rw [<-hy3] at f4
   refine ⟨⟨f1,hj⟩,by simp only [Z1e];exact ⟨by omega,hr⟩,by simp only [Zca];omega,by simp;omega,by unfold InR;omega,(j+1,ks++[⟨y1.at_,y3⟩]),rfl,⟨by dsimp only;omega,by dsimp only;omega,by simp;omega,?_⟩,by dsimp only;omega⟩
   simp only [Qa,QA,QO]
   exact f4
  ·rw [Qn (by omega)] at f4
   simp only [Jb,Qr] at f4
   rw [f4]
   simp only [Z9f,ha]
   (repeat' (first | exact trivial | exact rfl | apply And.intro))
 ·simp only [Z9g]
  exact ⟨by omega,fun o ho=> Zot p3 hk3 o ho⟩
 ·rw [if_neg hk,if_neg hk2,if_pos hk3] at ha
  simp only [Z9f,ha]
  (repeat' (first | exact trivial | exact rfl | apply And.intro))
 ·rw [if_neg hk,if_neg hk2,if_neg hk3] at ha
  simp only [Z9f,ha]
  (repeat' (first | exact trivial | exact rfl | apply And.intro))
theorem ZvE:Contract Try.prog cfg 57 Zb8/\Contract Try.prog cfg 94 ZnE:=Zmk c71 Zq2 Zw2 ZmP Zq0 b57 b94
theorem ZsC{n:Nat}{rs:List ResultVar}{r r':V U}{X:List (List (C U))}{e:AExit}{s:LSt U}(hr:r=r')(h:YN cfg n rs r' X e s):YN cfg n rs r X e s:=by rw [hr];exact h
theorem ZdK(e:Edit):e.words.length+e.ops.length+ZQ e.kids+Zg e.ops+Zi e.old+Zi e.new+1=Z8 e:=by obtain ⟨k,o,n,w,ks,l,os⟩:=e;simp only [Z8,Edit.words_mk,Edit.ops_mk,Edit.kids_mk,Edit.old_mk,Edit.new_mk];omega
theorem ZdH(t:Tree):1<=Zi t:=by obtain ⟨k,w,ks⟩:=t;simp only [Zi];omega
theorem Z0H{e:Edit}(h:Z0e e):Z8 e<=9000000000:=X4 (Zf3 e) h.1
theorem ZjJ{e:Edit}(h:Z0e e):Zrf e.ops:=by
 obtain ⟨m,r,d,hr⟩:=h
 have:=Z4E e
 exact ⟨by omega,(ZR r).2.2.2.2,fun o ho=> ⟨_,_,rightOs_mem (Zk hr).ops ho⟩⟩
theorem Zgz{l:List Op}{o:Op}(h:Part l o)(ho:ZM o)(hl:Z1c l):Z1d o:=by
 obtain ⟨o',m,k,e1,_,lt⟩:=h
 have G:=Z1n (Z1y hl m)
 obtain ⟨kk,nn,ll,ee⟩:=o
 have k:kk=o'.kind:=k
 have e1:ee=o'.e:=e1
 have lt:∀ t∈ll,t∈o'.l:=lt
 refine ⟨by rw [k];exact G.1,?_,Z4U fun t ht=> YY G.2.2.1 (lt t ht),by rw [e1];exact G.2.2.2⟩
 rcases ho with h | h | h
 ·have:=h.2.2.1
  unfold InR
  dsimp only at this
  omega
 ·have h2:nn=0:=h.2.1
  rw [h2];exact YK (by decide) (by decide)
 ·have h2:nn=0:=h.2.1
  rw [h2];exact YK (by decide) (by decide)
theorem Zas{l:List Op}{o:Op}(h:Part l o):Z3G o<=J3 l/\Zt o<=Zg l:=by
 obtain ⟨o',m,k,e1,hm,_⟩:=h
 have h1:=ZcF m
 have h2:=YS m
 have a:=Z2q o
 rw [ZV,ZV,e1] at hm
 rw [e1] at a
 rw [ZV] at h2
 rw [ZV,e1]
 omega
theorem ZbW{l:List Op}{o:Op}(h:Part l o)(hl:∀ o∈l,∃ list d,Za list o d=true)(k3:o.kind=3):∃ d,Z5 o.e d=true:=by
 obtain ⟨o',m,k,e1,hm,_⟩:=h
 obtain ⟨list,d,hr⟩:=hl o' m
 exact ⟨d,by rw [e1];exact YP hr (by omega)⟩
theorem ZtC{p:List Op}(hp:Zrf p):Z8w p:=by
 refine ⟨fun o ho=> ?_,?_⟩
 ·obtain ⟨_,_,h⟩:=hp.2.2 o ho
  exact Zbq h
 ·have:=Z8D p
  have:=hp.1
  omega
theorem Z88{α:Type}{l:List α}{i:Nat}(h:i < l.length)(d:α):l.take (i+1)=l.take i++[l.getD i d]:=by
 rw [X5 h,Qo,Q4 h];try rfl
theorem Z2U(o:Op):Z7 o.l<=Z3G o:=by rw [Z2q];omega
theorem Zao{e:Edit}(h:Z0e e):Wk e:=by obtain ⟨d,hr⟩:=h.2.2;exact .of hr h.2.1
theorem kids_sum:∀ {l:List Op},(∀ o∈l,ZM o)->Z2A l<=Yk l+ZY l
 | [],_=> by simp [Z2A,Yk,ZY]
 | o ::r,h=> by
  have h1:=Zu (h o Q7)
  have h2:=kids_sum fun x hx=> h x (Q5 _ hx)
  simp only [Z2A,Yk,ZY]
  split <;> split <;> omega
theorem Z47:Z0e Edit.nil:=by
 refine ⟨by decide,?_,1,Zma⟩
 exact ⟨YK (by decide) (by decide),Z0G,Z0G,by simp [Edit.nil],YK (by decide) (by decide),trivial,trivial⟩
theorem ZpN{t:Tree}(h:Z4x t=true)(hr:rng t):Zi t<=20000000000/\RT_ t/\Zh t 64=true/\t.kind≠10:=by
 unfold Z4x at h
 simp only [Q0,decide_eq_true_eq] at h
 exact ⟨ZdQ h.1.1,⟨⟨64,h.1.2⟩,hr⟩,h.1.2,h.2⟩
theorem ZkT{t:Tree}(h:Z4x t=true):Zi t<=3000:=by
 unfold Z4x at h
 simp only [Q0,decide_eq_true_eq] at h
 have:=Z0g t 80 3000 h.1.1
 omega
theorem Zhb{e:Edit}(h:Jk e=true):Z8 e<=3000/\Z5 e 64=true:=by
 simp only [Jk,Q0,decide_eq_true_eq] at h
 exact ⟨Z8T h.1.1,h.1.2⟩
theorem Zgu{e:Edit}{t:Tree}(hg:Jk e=true)(he:Yl e)(ht:Zi t<=20000000000)(hr:rng t):(Z8 e<=20000000000/\Yl e/\∃ d,Z5 e d=true)/\Zi t+ctE e<=200000000000/\rng t:=by
 obtain ⟨hm,hx⟩:=Zhb hg
 have hc:=Z5s e
 exact ⟨⟨by omega,he,64,hx⟩,by omega,hr⟩
theorem Zif{r:Bool}{e:Edit}{t:Tree}(hr:∃ d,Z5 e d=true)(ht:Zi t+ctE e<=200000000000):Zi (JM (doE r e t))<=1000000000000:=by
 cases h:doE r e t with
 | none=> simp [JM,Tree.nil,Zi,Z7]
 | some u=> exact Zhq hr ht h
theorem Zie(o:Option Tree):JM (o.map Z2)=Z2 (JM o):=by cases o;exact Z8A.symm;rfl
mutual
theorem Z5F:∀ t:Tree,Zi t<=17592186044416->Z1Q t
 | .mk k w ks,h=> by
  simp only [Zi] at h
  have:=Zv ks
  exact ⟨by omega,by omega,Z3Y ks (by omega)⟩
theorem Z3Y:∀ l:List Tree,Z7 l<=17592186044416->Z1O l
 | [],_=> trivial
 | t ::r,h=> by
  simp only [Z7] at h
  exact ⟨Z5F t (by omega),Z3Y r (by omega)⟩
end
theorem Z8e{e:Edit}{t:Tree}(he:Yl e)(ht:rng t):rng (JM ((doE false e t).map Z2)):=by
 cases h:doE false e t with
 | none=> exact Z0G
 | some u=> exact Z2M _ (Zek false e t u he ht h)
theorem Z6m{e:Edit}{t:Tree}(hr:∃ d,Z5 e d=true)(ht:Zi t+ctE e<=200000000000):Zi (JM ((doE false e t).map Z2))<=1000000000000:=by
 rw [Zie]
 exact X4 (Jv _) (Zif hr ht)
theorem Zct{e:Edit}(h:Jk e=true)(g:Yl e):ZxT e/\Z8 e<=3000/\Z5 e 64=true:=by
 obtain ⟨m,r⟩:=Zhb h
 have hl:Y6 e=true:=by
  simp only [Jk,Q0] at h
  exact h.2
 have:=Zny _ e (Qh _) ⟨64,r⟩ hl
 exact ⟨⟨by omega,g,64,r⟩,m,r⟩
noncomputable section
def ZdL(w:WEdit)(m:Int):WEdit × Bool:=
 (⟨w.at_,Z0y m w.mask,mix 0 w.old (Z0y m w.mask),mix 0 w.new (Z0y m w.mask)⟩,decide (Z0y m w.mask≠0))
def Yj(p q:WEdit):Bool:=decide (mix 0 p.old (Z0y p.mask q.mask)≠mix 0 q.old (Z0y p.mask q.mask))
def JY(p q:WEdit):Bool:=decide (mix 0 p.new (Z0y p.mask q.mask)≠mix 0 q.new (Z0y p.mask q.mask))
def Z30(l:List Tree):List Op:=if l=[] then [] else [⟨2,0,l,Edit.nil⟩]
def Z3K(e:Edit):Op:=if e.kind=0 then ⟨0,1,[],Edit.nil⟩ else ⟨3,0,[],e⟩
end
end Go.AM.Ytpjenobkibfpcaa
namespace Go.AM
instance:Inhabited PStep:=⟨⟨0,0⟩⟩
def JB(n:Int):List Op:=if n=0 then [] else [⟨0,n,[],Edit.nil⟩]
def ZtY(s:PStep)(t:Tree):Prop:=s.kind=0/\0<=s.at_/\(t.kind=1/\s.at_ < 65535\/(2<=t.kind/\t.kind<=9)/\s.at_ < t.kids.length)
instance (s:PStep) (t:Tree):Decidable (ZtY s t):=by unfold ZtY;infer_instance
end Go.AM
namespace Go.AM.Ytpjenobkibfpcaa
open Go.AM Go.Proofs
noncomputable section
structure Lft where
 x:Edit
 y:Edit
 c:Bool
 a:Bool
def Z3O(m:Int):Int:=IntKind.wrap .u8 (BitVec.ofInt (IntKind.bits .u8) 255 ^^^ BitVec.ofInt (IntKind.bits .u8) m).toNat
def Z13{α:Type}(at_:α->Int)(l:List α)(n:Int):Option α:=l.foldl (fun o b=> if at_ b=n then some b else o) none
def Yg{α:Type}(at_:α->Int)(f:α->α->α)(q:List α)(a:α):α:=match Z13 at_ q (at_ a) with
 | some b=> f a b
 | none=> a
def JG{α:Type}(at_:α->Int)(g:α->α->Bool)(p q:List α):Bool:=p.any fun a=> q.any fun b=> decide (at_ a=at_ b) && g a b
def Z0r(a b:WEdit):WEdit:=(ZdL a (Z3O b.mask)).1
def Z2J(e:Edit):Edit:=
 if (e.words.filter fun w=> !decide (w.mask=0)).length+(e.kids.filter fun k=> !decide (k.e.kind=0)).length=0 then Edit.nil
 else .mk e.kind e.old e.new (e.words.filter fun w=> !decide (w.mask=0)) (e.kids.filter fun k=> !decide (k.e.kind=0)) e.list e.ops
def JX(e:Edit)(o n:Tree):Lft:=⟨Edit.nil,Edit.nil,(doB e o).2 && !ZT (Z2 (doB e o).1) (Z2 n),!(doB e o).2⟩
def Z3N(f:Edit->Edit->Lft)(p q:Edit):Lft:=
 ⟨Z2J (.mk 2 Tree.nil Tree.nil (p.words.map (Yg WEdit.at_ Z0r q.words)) (p.kids.map (Yg KidOf.at_ (fun a b=> ⟨a.at_,(f a.e b.e).x⟩) q.kids)) 0 []),
  Z2J (.mk 2 Tree.nil Tree.nil (q.words.map (Yg WEdit.at_ Z0r p.words)) (q.kids.map (Yg KidOf.at_ (fun b a=> ⟨b.at_,(f a.e b.e).y⟩) p.kids)) 0 []),
  JG WEdit.at_ (fun a b=> !Yj a b && JY a b) p.words q.words || JG KidOf.at_ (fun a b=> (f a.e b.e).c) p.kids q.kids,
  JG WEdit.at_ Yj p.words q.words || JG KidOf.at_ (fun a b=> (f a.e b.e).a) p.kids q.kids⟩
structure PL where
 x:List Op
 y:List Op
 c:Bool
 a:Bool
def PL.app(s t:PL):PL:=⟨s.x++t.x,s.y++t.y,s.c || t.c,s.a || t.a⟩
def Jc(m h:List Tree):PL:=
 if m≠[]/\h≠[] then ⟨JB h.length,JB m.length,!Z6s m h,false⟩
 else ⟨Z30 m++JB h.length,JB m.length++Z30 h,false,false⟩
def ZA(f:Edit->Edit->Lft)(p q:Op):PL:=
 if p.kind=0/\q.kind=1 then ⟨[],[q],false,false⟩
 else if p.kind=1/\q.kind=0 then ⟨[p],[],false,false⟩
 else if p.kind=0 then ⟨[⟨0,if q.n < 1 then 1 else q.n,[],Edit.nil⟩],[q],false,false⟩
 else if q.kind=0 then ⟨[p],[⟨0,1,[],Edit.nil⟩],false,false⟩
 else if p.kind=1/\q.kind=1 then ⟨[],[],false,!Z6s p.l q.l⟩
 else if p.kind=1 then ⟨[],[],true,!(doE false q.e (p.l.getD 0 Tree.nil)).isSome⟩
 else if q.kind=1 then ⟨[],[],true,!(doE false p.e (q.l.getD 0 Tree.nil)).isSome⟩
 else ⟨[Z3K (f p.e q.e).x],[Z3K (f p.e q.e).y],(f p.e q.e).c,(f p.e q.e).a⟩
def Z0I(f:Edit->Edit->Lft):List Piece->List Tree->List Tree->PL
 | [],m,h=> Jc m h
 | x ::r,m,h=>
  if x.of=1 then Z0I f r (m++x.p.l) h
  else if x.of=2 then Z0I f r m (h++x.q.l)
  else ((Jc m h).app (ZA f x.p x.q)).app (Z0I f r [] [])
def Z0j(list:Int)(l:List Op):Edit:=if (l.any fun o=> !decide (o.kind=0))=true then .mk 3 Tree.nil Tree.nil [] [] list l else Edit.nil
def Z2w(f:Edit->Edit->Lft)(p q:Edit):Lft:=
 if (ZJ 2 2 p.ops q.ops []).2.1=true then
  ⟨Z0j p.list (Z0I f (ZJ 2 2 p.ops q.ops []).1 [] []).x,Z0j p.list (Z0I f (ZJ 2 2 p.ops q.ops []).1 [] []).y,(Z0I f (ZJ 2 2 p.ops q.ops []).1 [] []).c,(Z0I f (ZJ 2 2 p.ops q.ops []).1 [] []).a⟩
 else ⟨Edit.nil,Edit.nil,false,true⟩
def Ye(f:Edit->Edit->Lft)(p q:Edit):Lft:=
 if p.kind=0\/q.kind=0 then ⟨p,q,false,false⟩
 else if p.kind=1 then JX q p.old p.new
 else if q.kind=1 then JX p q.old q.new
 else if p.kind≠q.kind\/p.list≠q.list then ⟨Edit.nil,Edit.nil,false,true⟩
 else if p.kind=2 then Z3N f p q
 else Z2w f p q
def lbF:Nat->Edit->Edit->Lft
 | 0,_,_=> ⟨Edit.nil,Edit.nil,false,false⟩
 | n+1,p,q=> Ye (lbF n) p q
def lbE(p q:Edit):Lft:=lbF (Z8 p+Z8 q) p q
def lbN(p q:Edit):Edit × Edit × Int:=
 if (lbE (Zx p) (Zx q)).a=true then (Edit.nil,Edit.nil,14)
 else if (lbE (Zx p) (Zx q)).c=true then (Edit.nil,Edit.nil,13)
 else (Zx (lbE (Zx p) (Zx q)).x,Zx (lbE (Zx p) (Zx q)).y,0)
def YT{α:Type}(f:α->Bool):List α->Int->Int
 | [],_=> -1
 | a ::r,i=> if f a=true then i else YT f r (i+1)
end
structure POk2 (p q:List Op) (x:Piece):Prop where
 of:x.of=0\/x.of=1\/x.of=2
 pp:x.of≠2->Part p x.p/\ZM x.p
 qq:x.of≠1->Part q x.q/\ZM x.q
 one:x.of=1->x.p.kind=2
 two:x.of=2->x.q.kind=2
 both:x.of=0->x.p.kind≠2/\x.q.kind≠2/\Z1 x.p=Z1 x.q
 pn:x.of=2->x.p=Op.nil
 qn:x.of=1->x.q=Op.nil
theorem POk2.mono{p q p' q':List Op}{x:Piece}(h:POk2 p q x)(hp:∀ x∈p,Part p' x)(hq:∀ x∈q,Part q' x):POk2 p' q' x:=
 ⟨h.of,fun e=> ⟨(h.pp e).1.mono hp,(h.pp e).2⟩,fun e=> ⟨(h.qq e).1.mono hq,(h.qq e).2⟩,h.one,h.two,h.both,h.pn,h.qn⟩
theorem Zdv:∀ (k:Nat) (p q:List Op) (out:List Piece),p.length+q.length<=k->(∀ o∈p,ZM o)->(∀ o∈q,ZM o)->
  ((ZJ 2 2 p q out).2.1=true->∃ ps,(ZJ 2 2 p q out).1=out++ps/\(∀ x∈ps,POk2 p q x)/\(∀ s m,Run p s m↔Run (Z5H ps) s m)/\∀ s m,Run q s m↔Run (Z5G ps) s m)/\
  ((ZJ 2 2 p q out).2.1=false->∀ s u v,Run p s u->Run q s v->False):=by
 intro k
 induction k with
 | zero=>
  intro p q out hk hp hq
  have e1:p=[]:=Q6 (by omega)
  have e2:q=[]:=Q6 (by omega)
  subst e1 e2
  have e:ZJ 2 2 [] [] out=(out,true,[],[]):=by
   rw [ZJ,dif_neg (by simp [sgl]),dif_neg (by simp [sgl]),dif_pos (by simp)]
   try rfl
  rw [e]
  exact ⟨fun _=> ⟨[],by simp,fun x hx=> (by cases hx),fun s m=> QN,fun s m=> QN⟩,fun h=> by cases h⟩
 | succ k ih=>
  intro p q out hk hp hq
  rw [ZJ]
  by_cases h1:sgl 2 p=true
  ·rw [dif_pos h1]
   obtain ⟨g1,g2⟩:=YF.1 h1
   cases p with
   | nil=> exact absurd rfl g1
   | cons a p'=>
    simp only [Qk] at g2
    simp only [Qk,Qz,QK]
    have ha:=hp a Q7
    obtain ⟨i1,i2⟩:=ih p' q (out++[⟨1,a,Op.nil⟩]) (by simp only [Qb] at hk;omega) (fun o ho=> hp o (Q5 _ ho)) hq
    refine ⟨fun h=> ?_,fun h s u v r1 r2=> ?_⟩
    ·obtain ⟨ps,e,hps,hP,hQ⟩:=i1 h
     refine ⟨⟨1,a,Op.nil⟩ ::ps,by rw [e,Qa];rfl,fun x hx=> ?_,fun s m=> ?_,fun s m=> hQ s m⟩
     ·rcases Qd.1 hx with rfl | hx
      ·exact ⟨.inr (.inl rfl),fun _=> ⟨Part.self Q7,ha⟩,fun e=> absurd rfl e,fun _=> g2,fun e=> (by cases e),fun e=> (by cases e),fun e=> (by cases e),fun _=> rfl⟩
      ·exact (hps x hx).mono (fun x hx=> Part.self (Q5 _ hx)) (fun x hx=> Part.self hx)
     ·show _↔Run (a ::Z5H ps) s m
      exact Z4T hP (YQ ha) s m
    ·obtain ⟨d',_,hr⟩:=(YG g2).1 r1
     exact i2 h s d' v hr r2
  ·rw [dif_neg h1]
   by_cases h2:sgl 2 q=true
   ·rw [dif_pos h2]
    obtain ⟨g1,g2⟩:=YF.1 h2
    cases q with
    | nil=> exact absurd rfl g1
    | cons a q'=>
     simp only [Qk] at g2
     simp only [Qk,Qz,QK]
     have ha:=hq a Q7
     obtain ⟨i1,i2⟩:=ih p q' (out++[⟨2,Op.nil,a⟩]) (by simp only [Qb] at hk;omega) hp (fun o ho=> hq o (Q5 _ ho))
     refine ⟨fun h=> ?_,fun h s u v r1 r2=> ?_⟩
     ·obtain ⟨ps,e,hps,hP,hQ⟩:=i1 h
      refine ⟨⟨2,Op.nil,a⟩ ::ps,by rw [e,Qa];rfl,fun x hx=> ?_,fun s m=> hP s m,fun s m=> ?_⟩
      ·rcases Qd.1 hx with rfl | hx
       ·exact ⟨.inr (.inr rfl),fun e=> absurd rfl e,fun _=> ⟨Part.self Q7,ha⟩,fun e=> (by cases e),fun _=> g2,fun e=> (by cases e),fun _=> rfl,fun e=> (by cases e)⟩
       ·exact (hps x hx).mono (fun x hx=> Part.self hx) (fun x hx=> Part.self (Q5 _ hx))
      ·show _↔Run (a ::Z5G ps) s m
       exact Z4T hQ (YQ ha) s m
     ·obtain ⟨d',_,hr⟩:=(YG g2).1 r2
      exact i2 h s u d' r1 hr
   ·rw [dif_neg h2]
    by_cases h3:p.length=0\/q.length=0
    ·rw [dif_pos h3]
     by_cases h4:p.length=0
     ·have e1:p=[]:=Q6 h4
      subst e1
      by_cases h5:q.length=0
      ·have e2:q=[]:=Q6 h5
       subst e2
       rw [if_pos rfl]
       exact ⟨fun _=> ⟨[],by simp,fun x hx=> (by cases hx),fun s m=> QN,fun m d=> QN⟩,fun h=> by cases h⟩
      ·rw [if_neg (by rw [decide_eq_false h5];decide)]
       refine ⟨fun h=> (by cases h),fun _ s u v r1 r2=> ?_⟩
       cases q with
       | nil=> exact h5 rfl
       | cons a q'=>
        have ha:=hq a Q7
        obtain ⟨rfl,_⟩:=Y0 r1
        obtain ⟨m1,m',d',e,hl,_⟩:=Z5Z ha (fun e=> h2 (YF.2 ⟨by simp,by simpa using e⟩)) r2
        have:=Zu ha
        have e:=congrArg List.length e
        simp at e
        omega
     ·have h5:q.length=0:=by omega
      have e2:q=[]:=Q6 h5
      subst e2
      rw [if_neg (by rw [decide_eq_false h4];decide)]
      refine ⟨fun h=> (by cases h),fun _ s u v r1 r2=> ?_⟩
      cases p with
      | nil=> exact h4 rfl
      | cons a p'=>
       have ha:=hp a Q7
       obtain ⟨rfl,_⟩:=Y0 r2
       obtain ⟨m1,m',d',e,hl,_⟩:=Z5Z ha (fun e=> h1 (YF.2 ⟨by simp,by simpa using e⟩)) r1
       have:=Zu ha
       have e:=congrArg List.length e
       simp at e
       omega
    ·rw [dif_neg h3]
     cases p with
     | nil=> simp at h3
     | cons a p'=>
      cases q with
      | nil=> simp at h3
      | cons b q'=>
       have ha:=hp a Q7
       have hb:=hq b Q7
       have ka:a.kind≠2:=fun e=> h1 (YF.2 ⟨by simp,by simpa using e⟩)
       have kb:b.kind≠2:=fun e=> h2 (YF.2 ⟨by simp,by simpa using e⟩)
       have la:=Zu ha
       have lb:=Zu hb
       simp only [Qk]
       generalize hn:min (Z1 a) (Z1 b)=n
       have hn1:1<=n:=by omega
       have hna:n<=Z1 a:=by omega
       have hnb:n<=Z1 b:=by omega
       obtain ⟨a1,a2,a3,a4,a5,a6⟩:=Z2E hp hn1 hna
       obtain ⟨b1,b2,b3,b4,b5,b6⟩:=Z2E hq hn1 hnb
       have hlt:(Zw (a ::p') n).length+(Zw (b ::q') n).length<=k:=by
        have x1:=Y9 (a ::p') n (by simp)
        have x2:=Y9 (b ::q') n (by simp)
        simp only [Qb] at hk x1 x2
        rcases Int.le_total (Z1 a) (Z1 b) with h | h
        ·have:=Y8 (a ::p') n (by simp) (by simp only [Qk];omega)
         simp only [Qb] at this
         omega
        ·have:=Y8 (b ::q') n (by simp) (by simp only [Qk];omega)
         simp only [Qb] at this
         omega
       obtain ⟨i1,i2⟩:=ih (Zw (a ::p') n) (Zw (b ::q') n) (out++[⟨0,Zq a n,Zq b n⟩]) hlt (fun o ho=> (a5 o ho).1) (fun o ho=> (b5 o ho).1)
       refine ⟨fun h=> ?_,fun h s u v r1 r2=> ?_⟩
       ·obtain ⟨ps,e,hps,hP,hQ⟩:=i1 h
        refine ⟨⟨0,Zq a n,Zq b n⟩ ::ps,by rw [e,Qa];rfl,fun x hx=> ?_,fun s m=> ?_,fun s m=> ?_⟩
        ·rcases Qd.1 hx with rfl | hx
         ·exact ⟨.inl rfl,fun _=> ⟨a4,a1⟩,fun _=> ⟨b4,b1⟩,fun e=> (by cases e),fun e=> (by cases e),fun _=> ⟨by dsimp only;omega,by dsimp only;omega,by dsimp only;omega⟩,fun e=> (by cases e),fun e=> (by cases e)⟩
         ·exact (hps x hx).mono (fun x hx=> (a5 x hx).2) (fun x hx=> (b5 x hx).2)
        ·rw [a6 s m]
         exact Z4T hP (YQ a1) s m
        ·rw [b6 s m]
         exact Z4T hQ (YQ b1) s m
       ·rw [a6] at r1
        rw [b6] at r2
        obtain ⟨m1,s1,d1,e,hl,r3⟩:=Z5Z a1 (by omega) r1
        obtain ⟨m2,s2,d2,e',hl',r4⟩:=Z5Z b1 (by omega) r2
        obtain ⟨_,e2⟩:=KA (e.symm.trans e') (by omega)
        subst e2
        exact i2 h s1 d1 d2 r3 r4
theorem Z3z{α:Type}(at_:α->Int)(n:Int):∀ (l:List α) (o:Option α),l.foldl (fun o b=> if at_ b=n then some b else o) o=match Z13 at_ l n with
  | some b=> some b
  | none=> o
 | [],o=> rfl
 | a ::r,o=> by
  unfold Z13
  simp only [XT]
  rw [Z3z at_ n r,Z3z at_ n r (if at_ a=n then some a else none)]
  cases Z13 at_ r n with
  | some b=> rfl
  | none=> simp only;split <;> rfl
theorem Z2X{α:Type}(at_:α->Int)(n:Int):∀ (l:List α) (b:α),Z13 at_ l n=some b->b∈l/\at_ b=n
 | [],b,h=> by cases h
 | a ::r,b,h=> by
  unfold Z13 at h
  rw [XT,Z3z] at h
  cases hr:Z13 at_ r n with
  | some c=>
   rw [hr] at h;cases h
   obtain ⟨h1,h2⟩:=Z2X at_ n r b hr
   exact ⟨Q5 _ h1,h2⟩
  | none=>
   rw [hr] at h
   simp only at h
   split at h
   ·rename_i ha
    cases h;exact ⟨Q7,ha⟩
   ·cases h
theorem Z3F{α:Type}{at_:α->Int}{f g:α->α->α}{q:List α}{a:α}(h:∀ b∈q,f a b=g a b):Yg at_ f q a=Yg at_ g q a:=by
 unfold Yg
 cases hb:Z13 at_ q (at_ a) with
 | none=> rfl
 | some b=> exact h b (Z2X at_ _ q b hb).1
theorem ZcL{α:Type}{at_:α->Int}{f g:α->α->Bool}{p q:List α}(h:∀ a∈p,∀ b∈q,f a b=g a b):JG at_ f p q=JG at_ g p q:=by
 unfold JG
 rw [QD]
 simp only [XC,Q0,decide_eq_true_eq]
 constructor
 ·rintro ⟨a,ha,b,hb,h1,h2⟩;exact ⟨a,ha,b,hb,h1,by rw [<-h a ha b hb];exact h2⟩
 ·rintro ⟨a,ha,b,hb,h1,h2⟩;exact ⟨a,ha,b,hb,h1,by rw [h a ha b hb];exact h2⟩
theorem Zmv{p q:List Op}{x:Piece}(hx:POk2 p q x)(h0:x.of=0)(kp:x.p.kind=3)(kq:x.q.kind=3):∃ a∈p,∃ b∈q,a.kind=3/\b.kind=3/\x.p.e=a.e/\x.q.e=b.e:=by
 obtain ⟨⟨a,ma,ka,ea,_⟩,_⟩:=hx.pp (by omega)
 obtain ⟨⟨b,mb,kb,eb,_⟩,_⟩:=hx.qq (by omega)
 exact ⟨a,ma,b,mb,by omega,by omega,ea,eb⟩
theorem ZeW{f g:Edit->Edit->Lft}{p q:Op}(h:p.kind=3->q.kind=3->f p.e q.e=g p.e q.e)(hp:kOk p)(hq:kOk q)(p2:p.kind≠2)(q2:q.kind≠2):ZA f p q=ZA g p q:=by
 unfold ZA
 by_cases h1:p.kind=0/\q.kind=1
 ·rw [if_pos h1,if_pos h1]
 by_cases h2:p.kind=1/\q.kind=0
 ·rw [if_neg h1,if_neg h1,if_pos h2,if_pos h2]
 by_cases h3:p.kind=0
 ·rw [if_neg h1,if_neg h1,if_neg h2,if_neg h2,if_pos h3,if_pos h3]
 by_cases h4:q.kind=0
 ·rw [if_neg h1,if_neg h1,if_neg h2,if_neg h2,if_neg h3,if_neg h3,if_pos h4,if_pos h4]
 rw [if_neg h1,if_neg h1,if_neg h2,if_neg h2,if_neg h3,if_neg h3,if_neg h4,if_neg h4]
 by_cases h5:p.kind=1/\q.kind=1
 ·rw [if_pos h5,if_pos h5]
 by_cases h6:p.kind=1
 ·rw [if_neg h5,if_neg h5,if_pos h6,if_pos h6]
 by_cases h7:q.kind=1
 ·rw [if_neg h5,if_neg h5,if_neg h6,if_neg h6,if_pos h7,if_pos h7]
 have kp:p.kind=3:=by unfold kOk at hp;omega
 have kq:q.kind=3:=by unfold kOk at hq;omega
 rw [h kp kq]
theorem ZbU{f g:Edit->Edit->Lft}{p q:List Op}(h:∀ a∈p,∀ b∈q,a.kind=3->b.kind=3->f a.e b.e=g a.e b.e):∀ {ps:List Piece},(∀ x∈ps,POk2 p q x)->∀ m n,Z0I f ps m n=Z0I g ps m n
 | [],_,_,_=> rfl
 | x ::r,hps,m,n=> by
  have ih:=fun m n=> ZbU h (fun y hy=> hps y (Q5 _ hy)) (ps:=r) m n
  have hx:=hps x Q7
  simp only [Z0I,ih]
  by_cases h1:x.of=1
  ·rw [if_pos h1,if_pos h1]
  by_cases h2:x.of=2
  ·rw [if_neg h1,if_neg h1,if_pos h2,if_pos h2]
  have h0:x.of=0:=by rcases hx.of with h | h | h <;> omega
  obtain ⟨b1,b2,_⟩:=hx.both h0
  rw [if_neg h1,if_neg h1,if_neg h2,if_neg h2,ZeW (f:=f) (g:=g) (fun kp kq=> ?_) (YQ (hx.pp h2).2) (YQ (hx.qq h1).2) b1 b2]
  obtain ⟨a,ma,b,mb,ka,kb,ea,eb⟩:=Zmv hx h0 kp kq
  rw [ea,eb]
  exact h a ma b mb ka kb
theorem Z7n {f g:Edit->Edit->Lft} {p q:Edit} {d d':Int} (hp:Z5 p d=true) (hq:Z5 q d'=true)
  (h:∀ a b,Z8 a+Z8 b < Z8 p+Z8 q->(∃ d,Z5 a d=true)->(∃ d,Z5 b d=true)->f a b=g a b):Ye f p q=Ye g p q:=by
 have rp:=Zk hp
 have rq:=Zk hq
 have hk:∀ a∈p.kids,∀ b∈q.kids,f a.e b.e=g a.e b.e:=by
  intro a ha b hb
  have:=Y5 ha
  have:=Y5 hb
  exact h _ _ (by omega) ⟨_,(Zs rp.kids a ha).2⟩ ⟨_,(Zs rq.kids b hb).2⟩
 have hs:Z3N f p q=Z3N g p q:=by
  unfold Z3N
  rw [ZcL (at_:=KidOf.at_) (f:=fun a b:Kid=> (f a.e b.e).c) (g:=fun a b=> (g a.e b.e).c) fun a ha b hb=> by rw [hk a ha b hb],
   ZcL (at_:=KidOf.at_) (f:=fun a b:Kid=> (f a.e b.e).a) (g:=fun a b=> (g a.e b.e).a) fun a ha b hb=> by rw [hk a ha b hb],
   Xr (f:=Yg KidOf.at_ (fun a b:Kid=> ⟨a.at_,(f a.e b.e).x⟩) q.kids) (g:=Yg KidOf.at_ (fun a b:Kid=> ⟨a.at_,(g a.e b.e).x⟩) q.kids) fun a ha=> Z3F fun b hb=> by rw [hk a ha b hb],
   Xr (f:=Yg KidOf.at_ (fun b a:Kid=> ⟨b.at_,(f a.e b.e).y⟩) p.kids) (g:=Yg KidOf.at_ (fun b a:Kid=> ⟨b.at_,(g a.e b.e).y⟩) p.kids) fun b hb=> Z3F fun a ha=> by rw [hk a ha b hb]]
 have ho:Z2w f p q=Z2w g p q:=by
  unfold Z2w
  obtain ⟨i1,_⟩:=Zdv _ p.ops q.ops [] (Qh _) (Js hp) (Js hq)
  by_cases hb:(ZJ 2 2 p.ops q.ops []).2.1=true
  ·rw [if_pos hb,if_pos hb]
   obtain ⟨ps,e,hps,_,_⟩:=i1 hb
   rw [e,QO,ZbU (f:=f) (g:=g) (fun a ha b hb ka kb=> ?_) hps]
   have:=YI ha
   have:=YI hb
   exact h _ _ (by omega) ⟨_,YP (rightOs_mem rp.ops ha) ka⟩ ⟨_,YP (rightOs_mem rq.ops hb) kb⟩
  ·rw [if_neg hb,if_neg hb]
 unfold Ye
 rw [hs,ho]
theorem Zh2:∀ (n m:Nat) (p q:Edit) (d d':Int),Z5 p d=true->Z5 q d'=true->Z8 p+Z8 q<=n->n<=m->lbF m p q=lbF n p q:=by
 intro n
 induction n with
 | zero=> intro m p q d d' _ _ h;obtain ⟨k,o,nw,w,ks,l,os⟩:=p;simp only [Z8] at h;omega
 | succ n ih=>
  intro m p q d d' hp hq h hm
  obtain ⟨m,rfl⟩:∃ k,m=k+1:=⟨m - 1,by omega⟩
  show Ye (lbF m) p q=Ye (lbF n) p q
  exact Z7n hp hq fun a b hab ⟨d1,h1⟩ ⟨d2,h2⟩=> ih m a b d1 d2 h1 h2 (by omega) (by omega)
theorem Zh3{p q:Edit}{d d':Int}(hp:Z5 p d=true)(hq:Z5 q d'=true):lbE p q=Ye lbE p q:=by
 have e:lbE p q=lbF (Z8 p+Z8 q+1) p q:=(Zh2 _ _ p q d d' hp hq (Qh _) (by omega)).symm
 rw [e]
 show Ye (lbF (Z8 p+Z8 q)) p q=Ye lbE p q
 exact Z7n hp hq fun a b hab ⟨d1,h1⟩ ⟨d2,h2⟩=> Zh2 _ _ a b d1 d2 h1 h2 (Qh _) (by omega)
section
variable {α:Type} {at_:α->Int}
theorem Zch{β:Type}{F G:Nat->α->β}{l:List α}{i:Nat}{v:β}(hF:∀ k a,k≠i->l[k]?=some a->F k a=G k a)(hv:∀ a,l[i]?=some a->G i a=v):(l.mapIdx F).set i v=l.mapIdx G:=by
 apply XH
 intro k
 rw [K3,Xn,Xn,Kk]
 by_cases h:i=k
 ·subst h
  rw [if_pos rfl]
  cases hk:l[i]? with
  | none=> rw [if_neg];rfl;have:=List.getElem?_eq_none_iff.1 hk;omega
  | some a=> rw [if_pos (Q8.1 hk).1,Qc,hv a hk]
 ·rw [if_neg h]
  cases hk:l[k]? with
  | none=> rfl
  | some a=> rw [Qc,Qc,hF k a (fun e=> h e.symm) hk]
theorem J4{β:Type}{F G:Nat->α->β}{l:List α}(hF:∀ k a,l[k]?=some a->F k a=G k a):l.mapIdx F=l.mapIdx G:=by
 apply XH
 intro k
 rw [Xn,Xn]
 cases hk:l[k]? with
 | none=> rfl
 | some a=> rw [Qc,Qc,hF k a hk]
theorem Z3x{β:Type}(F:α->β)(l:List α):l.mapIdx (fun _ a=> F a)=l.map F:=by
 apply XH
 intro k
 rw [Xn,Ql]
def ZsF(at_:α->Int)(f:α->α->α)(p q:List α)(i j:Nat):List α:=p.mapIdx fun k a=> if k < i then Yg at_ f q a else if k=i then Yg at_ f (q.take j) a else a
def ZsE(at_:α->Int)(f:α->α->α)(p q:List α)(i j:Nat):List α:=q.mapIdx fun k b=> Yg at_ f (p.take (if k < j then i+1 else i)) b
def Z9Y(at_:α->Int)(g:α->α->Bool)(p q:List α)(i j:Nat):Bool:=JG at_ g (p.take i) q || JG at_ g ((p.drop i).take 1) (q.take j)
theorem Z5r(f:α->α->α)(q:List α)(b a:α):Yg at_ f (q++[b]) a=if at_ b=at_ a then f a b else Yg at_ f q a:=by
 unfold Yg Z13
 rw [List.foldl_append]
 simp only [XT,List.foldl_nil]
 by_cases h:at_ b=at_ a
 ·rw [if_pos h,if_pos h]
 ·rw [if_neg h,if_neg h]
theorem JK{f:α->α->α}(hf:∀ a b,at_ (f a b)=at_ a)(q:List α)(a:α):at_ (Yg at_ f q a)=at_ a:=by
 unfold Yg
 cases Z13 at_ q (at_ a) with
 | none=> rfl
 | some b=> exact hf a b
theorem getD_some{l:List α}{i:Nat}{a:α}(h:l[i]?=some a)(z:α):l.getD i z=a:=by rw [Qo,h];try rfl
structure SInv (at_:α->Int) (f fy:α->α->α) (gc ga:α->α->Bool) (mc ma:Bool) (p q:List α) (i j:Nat) (c a:Bool) (X Y:List α):Prop where
 ec:c=(mc || Z9Y at_ gc p q i j)
 ea:a=(ma || Z9Y at_ ga p q i j)
 eX:X=ZsF at_ f p q i j
 eY:Y=ZsE at_ fy p q i j
variable {f fy:α->α->α} {gc ga:α->α->Bool} {mc ma:Bool} {p q:List α} {i j:Nat} {c a:Bool} {X Y:List α}
theorem SInv.lx(h:SInv at_ f fy gc ga mc ma p q i j c a X Y):X.length=p.length:=by rw [h.eX];exact Kk
theorem SInv.ly(h:SInv at_ f fy gc ga mc ma p q i j c a X Y):Y.length=q.length:=by rw [h.eY];exact Kk
theorem SInv.init:SInv at_ f fy gc ga mc ma p q 0 0 mc ma p q:=by
 refine ⟨?_,?_,?_,?_⟩
 ·cases p <;> simp [Z9Y,JG]
 ·cases p <;> simp [Z9Y,JG]
 ·unfold ZsF
  rw [J4 (G:=fun _ a=> id a) fun k a hk=> ?_,Z3x,List.map_id]
  ·rw [if_neg (by omega)];split <;> rfl
 ·unfold ZsE
  rw [J4 (G:=fun _ a=> id a) fun k a hk=> ?_,Z3x,List.map_id]
  ·rw [if_neg (by omega)];try rfl
theorem Zqq(g:α->α->Bool)(p:List α)(q:List α)(b:α):JG at_ g p (q++[b])=(JG at_ g p q || JG at_ g p [b]):=by
 rw [QD]
 simp only [JG,XC,XV,Qi,Qj,Q0,decide_eq_true_eq]
 constructor
 ·rintro ⟨a,ha,x,hx | hx,h⟩
  ·exact .inl ⟨a,ha,x,hx,h⟩
  ·exact .inr ⟨a,ha,x,hx,h⟩
 ·rintro (⟨a,ha,x,hx,h⟩ | ⟨a,ha,x,hx,h⟩)
  ·exact ⟨a,ha,x,.inl hx,h⟩
  ·exact ⟨a,ha,x,.inr hx,h⟩
theorem ZsK(g:α->α->Bool)(p p' q:List α):JG at_ g (p++p') q=(JG at_ g p q || JG at_ g p' q):=by unfold JG;rw [List.any_append]
theorem ZaW{l:List α}{i:Nat}(h:i < l.length):(l.drop i).take 1=[l[i]]:=by rw [QQ h];try rfl
theorem Z5w(g:α->α->Bool){p q:List α}{i j:Nat}(hi:i < p.length)(hj:j < q.length):Z9Y at_ g p q i (j+1)=(Z9Y at_ g p q i j || decide (at_ p[i]=at_ q[j]) && g p[i] q[j]):=by
 unfold Z9Y
 rw [X5 hj,Zqq,ZaW hi,<-XF]
 congr 1
 simp [JG]
theorem SInv.step(h:SInv at_ f fy gc ga mc ma p q i j c a X Y)(hi:i < p.length)(hj:j < q.length)(z:α):
  (at_ (p.getD i z)=at_ (q.getD j z)->SInv at_ f fy gc ga mc ma p q i (j+1) (c || gc (p.getD i z) (q.getD j z)) (a || ga (p.getD i z) (q.getD j z)) (X.set i (f (p.getD i z) (q.getD j z))) (Y.set j (fy (q.getD j z) (p.getD i z))))/\
  (¬at_ (p.getD i z)=at_ (q.getD j z)->SInv at_ f fy gc ga mc ma p q i (j+1) c a X Y):=by
 have ep:p.getD i z=p[i]:=getD_some (Q4 hi) z
 have eq:q.getD j z=q[j]:=getD_some (Q4 hj) z
 rw [ep,eq]
 obtain ⟨ec,ea,eX,eY⟩:=h
 have tp:p.take (i+1)=p.take i++[p[i]]:=X5 hi
 have tq:q.take (j+1)=q.take j++[q[j]]:=X5 hj
 refine ⟨fun e=> ⟨?_,?_,?_,?_⟩,fun e=> ⟨?_,?_,?_,?_⟩⟩
 ·rw [Z5w gc hi hj,ec,decide_eq_true e,QF,XF]
 ·rw [Z5w ga hi hj,ea,decide_eq_true e,QF,XF]
 ·rw [eX]
  refine Zch (fun k b hk _=> ?_) fun b hb=> ?_
  ·by_cases h:k < i
   ·rw [if_pos h,if_pos h]
   ·rw [if_neg h,if_neg h,if_neg hk,if_neg hk]
  ·rw [Q4 hi] at hb
   cases hb
   rw [if_neg (by omega),if_pos rfl,tq,Z5r,if_pos e.symm]
 ·rw [eY]
  refine Zch (fun k b hk _=> ?_) fun b hb=> ?_
  ·by_cases h:k < j
   ·rw [if_pos h,if_pos (by omega)]
   ·rw [if_neg h,if_neg (by omega)]
  ·rw [Q4 hj] at hb
   cases hb
   rw [if_pos (by omega),tp,Z5r,if_pos e]
 ·rw [Z5w gc hi hj,ec,decide_eq_false e,K0,Qx]
 ·rw [Z5w ga hi hj,ea,decide_eq_false e,K0,Qx]
 ·rw [eX]
  refine J4 fun k b hb=> ?_
  by_cases h:k=i
  ·subst h
   rw [Q4 hi] at hb
   cases hb
   rw [if_neg (by omega),if_pos rfl,if_neg (by omega),if_pos rfl,tq,Z5r,if_neg (fun x=> e x.symm)]
  ·by_cases h2:k < i
   ·rw [if_pos h2,if_pos h2]
   ·rw [if_neg h2,if_neg h2,if_neg h,if_neg h]
 ·rw [eY]
  refine J4 fun k b hb=> ?_
  by_cases h:k=j
  ·subst h
   rw [Q4 hj] at hb
   cases hb
   rw [if_neg (by omega),if_pos (by omega),tp,Z5r,if_neg e]
  ·by_cases h2:k < j
   ·rw [if_pos h2,if_pos (by omega)]
   ·rw [if_neg h2,if_neg (by omega)]
theorem SInv.next(h:SInv at_ f fy gc ga mc ma p q i q.length c a X Y)(hi:i < p.length):SInv at_ f fy gc ga mc ma p q (i+1) 0 c a X Y:=by
 obtain ⟨ec,ea,eX,eY⟩:=h
 have key:∀ g:α->α->Bool,Z9Y at_ g p q i q.length=Z9Y at_ g p q (i+1) 0:=by
  intro g
  unfold Z9Y
  rw [K6,List.take_zero,X5 hi,ZsK,ZaW hi]
  have:JG at_ g ((p.drop (i+1)).take 1) []=false:=by simp [JG]
  rw [this,Qx]
 refine ⟨by rw [ec,key],by rw [ea,key],?_,?_⟩
 ·rw [eX]
  refine J4 fun k b hb=> ?_
  by_cases h:k < i
  ·rw [if_pos h,if_pos (by omega)]
  ·by_cases h2:k=i
   ·rw [if_neg h,if_pos h2,if_pos (by omega),K6]
   ·rw [if_neg h,if_neg h2,if_neg (by omega)]
    split <;> rfl
 ·rw [eY]
  refine J4 fun k b hb=> ?_
  rw [if_pos (Q8.1 hb).1,if_neg (by omega)]
theorem SInv.fin(h:SInv at_ f fy gc ga mc ma p q p.length 0 c a X Y):c=(mc || JG at_ gc p q)/\a=(ma || JG at_ ga p q)/\X=p.map (Yg at_ f q)/\Y=q.map (Yg at_ fy p):=by
 obtain ⟨ec,ea,eX,eY⟩:=h
 have key:∀ g:α->α->Bool,Z9Y at_ g p q p.length 0=JG at_ g p q:=by
  intro g
  unfold Z9Y
  rw [K6,List.drop_length]
  simp [JG]
 refine ⟨by rw [ec,key],by rw [ea,key],?_,?_⟩
 ·rw [eX]
  unfold ZsF
  rw [J4 (G:=fun _ a=> Yg at_ f q a) fun k b hb=> by rw [if_pos (Q8.1 hb).1],Z3x]
 ·rw [eY]
  unfold ZsE
  rw [J4 (G:=fun _ a=> Yg at_ fy p a) fun k b hb=> by rw [if_neg (by omega),K6],Z3x]
theorem SInv.at_x(h:SInv at_ f fy gc ga mc ma p q i j c a X Y)(hf:∀ a b,at_ (f a b)=at_ a)(hi:i < p.length)(z:α):at_ (X.getD i z)=at_ (p.getD i z):=by
 rw [h.eX,getD_some (a:=Yg at_ f (q.take j) p[i]) (by rw [ZsF,Xn,Q4 hi,Qc,if_neg (by omega),if_pos rfl]),getD_some (Q4 hi),JK hf]
theorem SInv.at_y(h:SInv at_ f fy gc ga mc ma p q i j c a X Y)(hf:∀ a b,at_ (fy a b)=at_ a)(hj:j < q.length)(z:α):at_ (Y.getD j z)=at_ (q.getD j z):=by
 rw [h.eY,getD_some (a:=Yg at_ fy (p.take i) q[j]) (by rw [ZsE,Xn,Q4 hj,Qc,if_neg (by omega)]),getD_some (Q4 hj),JK hf]
end
end Go.AM.Ytpjenobkibfpcaa
namespace Go.AM.Ytpjenobkibfpcaa
open Go.AM Go.Proofs
def Lft.swap(L:Lft):Lft:=⟨L.y,L.x,L.c,L.a⟩
def PL.swap(L:PL):PL:=⟨L.y,L.x,L.c,L.a⟩
inductive Lay (f:Edit->Edit->Lft):List Op->List Op->List Tree->List Tree->PL->Prop
 | nil (m h):Lay f [] [] m h (Jc m h)
 | left {a p q m h S}:a.kind=2->Lay f p q (m++a.l) h S->Lay f (a ::p) q m h S
 | right {p b q m h S}:(∀ a∈p.head?,a.kind≠2)->b.kind=2->Lay f p q m (h++b.l) S->Lay f p (b ::q) m h S
 | both {a p b q m h S n}:a.kind≠2->b.kind≠2->n=min (Z1 a) (Z1 b)->Lay f (Zw (a ::p) n) (Zw (b ::q) n) [] [] S->
   Lay f (a ::p) (b ::q) m h (((Jc m h).app (ZA f (Zq a n) (Zq b n))).app S)
section
variable {f:Edit->Edit->Lft}
theorem Z4K{p:List Op}{n:Int}(h:∀ x∈p,ZM x)(hl:p.length≠0)(h1:1<=n):∀ o∈Zw p n,ZM o:=by
 cases p with
 | nil=> exact absurd rfl hl
 | cons o r=>
  unfold Zw
  simp only [Qk,Qz,QK]
  split
  ·exact fun x hx=> h x (Q5 _ hx)
  ·rename_i hn
   intro x hx
   rcases Qd.1 hx with rfl | hx
   ·exact (Z81 (h o Q7) h1 hn).1
   ·exact h x (Q5 _ hx)
theorem Jd{a:Op}{p:List Op}{n:Int}{o:Op}(h:o∈Zw (a ::p) n):o∈p\/o=YC a n:=by
 unfold Zw at h
 simp only [Qk,Qz,QK] at h
 split at h
 ·exact .inl h
 ·rcases Qd.1 h with h | h
  ·exact .inr h
  ·exact .inl h
theorem Z0V(a:Op)(n:Int):(YC a n).e=a.e:=by unfold YC;split <;> rfl
theorem Z1j(a:Op)(n:Int):(Zq a n).e=a.e:=by unfold Zq;split;rfl;split <;> rfl
theorem Zjf{a b:Op}{p q:List Op}{n:Int}(hn:n=min (Z1 a) (Z1 b)):(Zw (a ::p) n).length+(Zw (b ::q) n).length < (a ::p).length+(b ::q).length:=by
 have x1:=Y9 (a ::p) n (by simp)
 have x2:=Y9 (b ::q) n (by simp)
 rcases Int.le_total (Z1 a) (Z1 b) with h | h
 ·have:=Y8 (a ::p) n (by simp) (by simp only [Qk];omega)
  omega
 ·have:=Y8 (b ::q) n (by simp) (by simp only [Qk];omega)
  omega
theorem Zcl:∀ (k:Nat) (p q:List Op) (out:List Piece),p.length+q.length<=k->(ZJ 2 2 p q out).2.1=true->∃ ps,(ZJ 2 2 p q out).1=out++ps/\∀ m h,Lay f p q m h (Z0I f ps m h):=by
 intro k
 induction k with
 | zero=>
  intro p q out hk hb
  have e1:p=[]:=Q6 (by omega)
  have e2:q=[]:=Q6 (by omega)
  subst e1 e2
  rw [ZJ,dif_neg (by simp [sgl]),dif_neg (by simp [sgl]),dif_pos (by simp)]
  exact ⟨[],by simp,fun m h=> .nil m h⟩
 | succ k ih=>
  intro p q out hk hb
  rw [ZJ] at hb ⊢
  by_cases h1:sgl 2 p=true
  ·rw [dif_pos h1] at hb ⊢
   obtain ⟨g1,g2⟩:=YF.1 h1
   cases p with
   | nil=> exact absurd rfl g1
   | cons a p'=>
    simp only [Qk,Qz,QK] at g2 hb ⊢
    obtain ⟨ps,e,hL⟩:=ih p' q _ (by simp only [Qb] at hk;omega) hb
    exact ⟨⟨1,a,Op.nil⟩ ::ps,by rw [e,Qa];rfl,fun m h=> .left g2 (hL _ _)⟩
  ·rw [dif_neg h1] at hb ⊢
   have np:∀ a∈p.head?,a.kind≠2:=by
    intro a ha e
    cases p with
    | nil=> cases ha
    | cons a' p'=> cases ha;exact h1 (YF.2 ⟨by simp,by simpa using e⟩)
   by_cases h2:sgl 2 q=true
   ·rw [dif_pos h2] at hb ⊢
    obtain ⟨g1,g2⟩:=YF.1 h2
    cases q with
    | nil=> exact absurd rfl g1
    | cons b q'=>
     simp only [Qk,Qz,QK] at g2 hb ⊢
     obtain ⟨ps,e,hL⟩:=ih p q' _ (by simp only [Qb] at hk;omega) hb
     exact ⟨⟨2,Op.nil,b⟩ ::ps,by rw [e,Qa];rfl,fun m h=> .right np g2 (hL _ _)⟩
   ·rw [dif_neg h2] at hb ⊢
    by_cases h3:p.length=0\/q.length=0
    ·rw [dif_pos h3] at hb ⊢
     by_cases h4:decide (p.length=0)=decide (q.length=0)
     ·rw [if_pos h4]
      have h5:p.length=0/\q.length=0:=by
       have:=decide_eq_decide.1 h4
       omega
      rw [Q6 h5.1,Q6 h5.2]
      exact ⟨[],by simp,fun m h=> .nil m h⟩
     ·rw [if_neg h4] at hb;cases hb
    ·rw [dif_neg h3] at hb ⊢
     cases p with
     | nil=> simp at h3
     | cons a p'=>
      cases q with
      | nil=> simp at h3
      | cons b q'=>
       simp only [Qk] at hb ⊢
       have hlt:=Zjf (a:=a) (b:=b) (p:=p') (q:=q') rfl
       obtain ⟨ps,e,hL⟩:=ih _ _ _ (by omega) hb
       exact ⟨⟨0,_,_⟩ ::ps,by rw [e,Qa];rfl,fun m h=> .both (np a rfl) (fun e=> h2 (YF.2 ⟨by simp,by simpa using e⟩)) rfl (hL [] [])⟩
theorem Zf9{p q:List Op}{m h:List Tree}{S:PL}(H:Lay f p q m h S):∀ out,(ZJ 2 2 p q out).2.1=true/\∃ ps,(ZJ 2 2 p q out).1=out++ps/\S=Z0I f ps m h:=by
 induction H with
 | nil m h=>
  intro out
  rw [ZJ,dif_neg (by simp [sgl]),dif_neg (by simp [sgl]),dif_pos (by simp)]
  exact ⟨rfl,[],by simp,rfl⟩
 | left k2 _ ih=>
  intro out
  rw [ZJ,dif_pos (YF.2 ⟨by simp,by simpa using k2⟩)]
  simp only [Qk,Qz,QK]
  obtain ⟨h1,ps,h2,h3⟩:=ih (out++[⟨1,_,Op.nil⟩])
  exact ⟨h1,⟨1,_,Op.nil⟩ ::ps,by rw [h2,Qa];rfl,h3⟩
 | right np k2 _ ih=>
  rename_i p b q m h S _
  intro out
  have n1:¬sgl 2 p=true:=by
   intro e
   obtain ⟨g1,g2⟩:=YF.1 e
   cases p with
   | nil=> exact g1 rfl
   | cons a p'=> exact np a rfl (by simpa using g2)
  rw [ZJ,dif_neg n1,dif_pos (YF.2 ⟨by simp,by simpa using k2⟩)]
  simp only [Qk,Qz,QK]
  obtain ⟨h1,ps,h2,h3⟩:=ih (out++[⟨2,Op.nil,_⟩])
  exact ⟨h1,⟨2,Op.nil,_⟩ ::ps,by rw [h2,Qa];rfl,h3⟩
 | both ka kb hn _ ih=>
  intro out
  subst hn
  rw [ZJ,dif_neg (fun e=> ka (by simpa using (YF.1 e).2)),dif_neg (fun e=> kb (by simpa using (YF.1 e).2)),dif_neg (by simp)]
  simp only [Qk]
  obtain ⟨h1,ps,h2,h3⟩:=ih (out++[⟨0,_,_⟩])
  exact ⟨h1,⟨0,_,_⟩ ::ps,by rw [h2,Qa];rfl,by rw [h3];rfl⟩
theorem Lay.right'{b:Op}{q:List Op}(k2:b.kind=2):∀ {p:List Op} {m h:List Tree} {S:PL},Lay f p q m (h++b.l) S->Lay f p (b ::q) m h S
 | [],m,h,S,H=> .right (fun a ha=> by cases ha) k2 H
 | a ::p,m,h,S,H=> by
  by_cases ka:a.kind=2
  ·cases H with
   | left _ H'=> exact .left ka (H'.right' k2)
   | right np _ _=> exact absurd ka (np a rfl)
   | both k _ _ _=> exact absurd ka k
  ·exact .right (fun x hx=> by cases hx;exact ka) k2 H
theorem ZdO(m h:List Tree):Jc h m=(Jc m h).swap:=by
 unfold Jc PL.swap
 by_cases e:m≠[]/\h≠[]
 ·rw [if_pos e,if_pos e.symm]
  have:Z6s h m=Z6s m h:=by unfold Z6s;rw [Bool.eq_iff_iff,Z0s,Z0s,eq_comm]
  rw [this]
 ·rw [if_neg e,if_neg (fun x=> e x.symm)]
  have:m=[]\/h=[]:=by
   by_cases hm:m=[]
   ·exact .inl hm
   ·by_cases hh:h=[]
    ·exact .inr hh
    ·exact absurd ⟨hm,hh⟩ e
  rcases this with rfl | rfl <;> simp [Z30,JB]
theorem Z1C{o:Op}(h:ZM o)(k:o.kind=0):o=⟨0,o.n,[],Edit.nil⟩/\1<=o.n/\Z1 o=o.n:=by
 have:=Zau h k
 rcases h with h | h | h
 ·obtain ⟨kk,nn,l,e⟩:=o
  obtain ⟨h1,h2,h3,h4⟩:=h
  dsimp only at h1 h2 h4
  subst h1 h2 h4
  exact ⟨rfl,h3.1,this⟩
 ·omega
 ·omega
theorem Zrq{p q:Op}(a:p.kind=0)(b:q.kind=1):ZA f p q=⟨[],[q],false,false⟩:=by unfold ZA;rw [if_pos ⟨a,b⟩]
theorem Zrp{p q:Op}(a:p.kind=1)(b:q.kind=0):ZA f p q=⟨[p],[],false,false⟩:=by unfold ZA;rw [if_neg (by omega),if_pos ⟨a,b⟩]
theorem pL0{p q:Op}(a:p.kind=0)(b:q.kind≠1):ZA f p q=⟨[⟨0,if q.n < 1 then 1 else q.n,[],Edit.nil⟩],[q],false,false⟩:=by unfold ZA;rw [if_neg (by omega),if_neg (by omega),if_pos a]
theorem Zrm{p q:Op}(a:p.kind≠0)(a1:p.kind≠1)(b:q.kind=0):ZA f p q=⟨[p],[⟨0,1,[],Edit.nil⟩],false,false⟩:=by unfold ZA;rw [if_neg (by omega),if_neg (by omega),if_neg a,if_pos b]
theorem Zro{p q:Op}(a:p.kind=1)(b:q.kind=1):ZA f p q=⟨[],[],false,!Z6s p.l q.l⟩:=by unfold ZA;rw [if_neg (by omega),if_neg (by omega),if_neg (by omega),if_neg (by omega),if_pos ⟨a,b⟩]
theorem pL1{p q:Op}(a:p.kind=1)(b:q.kind≠0)(b1:q.kind≠1):ZA f p q=⟨[],[],true,!(doE false q.e (p.l.getD 0 Tree.nil)).isSome⟩:=by unfold ZA;rw [if_neg (by omega),if_neg (by omega),if_neg (by omega),if_neg b,if_neg (by omega),if_pos a]
theorem Zrl{p q:Op}(a:p.kind≠0)(a1:p.kind≠1)(b:q.kind=1):ZA f p q=⟨[],[],true,!(doE false p.e (q.l.getD 0 Tree.nil)).isSome⟩:=by unfold ZA;rw [if_neg (by omega),if_neg (by omega),if_neg a,if_neg (by omega),if_neg (by omega),if_neg a1,if_pos b]
theorem Zrn{p q:Op}(a:p.kind≠0)(a1:p.kind≠1)(b:q.kind≠0)(b1:q.kind≠1):ZA f p q=⟨[Z3K (f p.e q.e).x],[Z3K (f p.e q.e).y],(f p.e q.e).c,(f p.e q.e).a⟩:=by
 unfold ZA;rw [if_neg (by omega),if_neg (by omega),if_neg a,if_neg b,if_neg (by omega),if_neg a1,if_neg b1]
theorem Zat{o:Op}(h:ZM o)(k:o.kind≠0):o.n=0:=by
 rcases h with h | h | h
 ·exact absurd h.1 k
 ·exact h.2.1
 ·exact h.2.1
theorem ZmC(a b:List Tree):Z6s a b=Z6s b a:=by unfold Z6s;rw [Bool.eq_iff_iff,Z0s,Z0s,eq_comm]
theorem Zov{p q:Op}(op:ZM p)(oq:ZM q)(hl:Z1 p=Z1 q)(a:p.kind=0)(b:q.kind=0):p=q/\1<=p.n:=by
 obtain ⟨ep,np,lp⟩:=Z1C op a
 obtain ⟨eq,nq,lq⟩:=Z1C oq b
 have e:p.n=q.n:=by omega
 exact ⟨by rw [ep,eq,e],np⟩
theorem Zgx{g:Edit->Edit->Lft}{p q:Op}(hf:p.kind=3->q.kind=3->g q.e p.e=(f p.e q.e).swap)(op:ZM p)(oq:ZM q)(hl:Z1 p=Z1 q)(p2:p.kind≠2)(q2:q.kind≠2):ZA g q p=(ZA f p q).swap:=by
 have kp:=YQ op
 have kq:=YQ oq
 unfold kOk at kp kq
 by_cases a0:p.kind=0
 ·by_cases b0:q.kind=0
  ·obtain ⟨e,n1⟩:=Zov op oq hl a0 b0
   subst e
   rw [pL0 a0 (by omega),pL0 a0 (by omega),if_neg (show ¬p.n < 1 by omega),<-(Z1C op a0).1]
   try rfl
  ·by_cases b1:q.kind=1
   ·rw [Zrp b1 a0,Zrq a0 b1];try rfl
   ·rw [Zrm b0 b1 a0,pL0 a0 b1,Zat oq b0];try rfl
 ·by_cases b0:q.kind=0
  ·by_cases a1:p.kind=1
   ·rw [Zrq b0 a1,Zrp a1 b0];try rfl
   ·rw [pL0 b0 a1,Zrm a0 a1 b0,Zat op a0];try rfl
  ·by_cases a1:p.kind=1
   ·by_cases b1:q.kind=1
    ·rw [Zro b1 a1,Zro a1 b1,ZmC];try rfl
    ·rw [Zrl b0 b1 a1,pL1 a1 b0 b1];try rfl
   ·by_cases b1:q.kind=1
    ·rw [pL1 b1 a0 a1,Zrl a0 a1 b1];try rfl
    ·rw [Zrn b0 b1 a0 a1,Zrn a0 a1 b0 b1,hf (by omega) (by omega)];try rfl
theorem PL.app_swap(a b:PL):(a.app b).swap=a.swap.app b.swap:=rfl
theorem Zje{a:Op}{p:List Op}{n:Int}(h:∀ x∈a ::p,ZM x)(h1:1<=n)(hn:n<=Z1 a):ZM (Zq a n)/\Z1 (Zq a n)=n:=by
 obtain ⟨g1,g2,_⟩:=Z2E h h1 hn
 exact ⟨g1,g2⟩
theorem Lay.swap{g:Edit->Edit->Lft}{p q:List Op}{m h:List Tree}{S:PL}(H:Lay f p q m h S):(∀ o∈p,ZM o)->(∀ o∈q,ZM o)->(∀ a∈p,∀ b∈q,a.kind=3->b.kind=3->g b.e a.e=(f a.e b.e).swap)->
  Lay g q p h m S.swap:=by
 induction H with
 | nil m h=> intro _ _ _;rw [<-ZdO];exact .nil h m
 | left k2 _ ih=>
  intro op oq hf
  exact (ih (fun o ho=> op o (Q5 _ ho)) oq fun a ha b hb=> hf a (Q5 _ ha) b hb).right' k2
 | right np k2 _ ih=>
  intro op oq hf
  exact .left k2 (ih op (fun o ho=> oq o (Q5 _ ho)) fun a ha b hb=> hf a ha b (Q5 _ hb))
 | both ka kb hn _ ih=>
  rename_i a p b q m h S n _
  intro op oq hf
  have la:=Zu (op a Q7)
  have lb:=Zu (oq b Q7)
  have h1:1<=n:=by omega
  obtain ⟨t1,t2⟩:=Zje op h1 (by omega)
  obtain ⟨t3,t4⟩:=Zje oq h1 (by omega)
  have ih:=ih (Z4K op (by simp) h1) (Z4K oq (by simp) h1) fun x hx y hy kx ky=> by
   rcases Jd hx with hx | rfl
   ·rcases Jd hy with hy | rfl
    ·exact hf x (Q5 _ hx) y (Q5 _ hy) kx ky
    ·rw [Z0V];rw [Yy] at ky;exact hf x (Q5 _ hx) b Q7 kx ky
   ·rw [Z0V];rw [Yy] at kx
    rcases Jd hy with hy | rfl
    ·exact hf a Q7 y (Q5 _ hy) kx ky
    ·rw [Z0V];rw [Yy] at ky;exact hf a Q7 b Q7 kx ky
  rw [PL.app_swap,PL.app_swap,<-ZdO,<-Zgx (f:=f) (g:=g) (fun kx ky=> ?_) t1 t3 (by omega) (by rw [Jo];exact ka) (by rw [Jo];exact kb)]
  ·exact .both kb ka (by rw [hn];omega) ih
  ·rw [Jo] at kx ky
   rw [Z1j,Z1j]
   exact hf a Q7 b Q7 kx ky
end
theorem ZdX(a b:Int):Z0y a b=Z0y b a:=by unfold Z0y;rw [BitVec.and_comm]
theorem Z91(p q:WEdit):Yj p q=Yj q p:=by
 unfold Yj
 rw [ZdX,decide_eq_decide,ne_comm]
theorem ZfP(p q:WEdit):JY p q=JY q p:=by
 unfold JY
 rw [ZdX,decide_eq_decide,ne_comm]
theorem Z5x{α:Type}{at_:α->Int}{f g:α->α->Bool}{p q:List α}(h:∀ a∈p,∀ b∈q,g b a=f a b):JG at_ g q p=JG at_ f p q:=by
 unfold JG
 rw [QD]
 simp only [XC,Q0,decide_eq_true_eq]
 constructor
 ·rintro ⟨a,ha,b,hb,h1,h2⟩;exact ⟨b,hb,a,ha,h1.symm,by rw [<-h b hb a ha];exact h2⟩
 ·rintro ⟨a,ha,b,hb,h1,h2⟩;exact ⟨b,hb,a,ha,h1.symm,by rw [h a ha b hb];exact h2⟩
section
variable {f:Edit->Edit->Lft} {p q:Edit}
theorem lb0(h:p.kind=0\/q.kind=0):Ye f p q=⟨p,q,false,false⟩:=by unfold Ye;rw [if_pos h]
theorem lb1(p1:p.kind=1)(q0:q.kind≠0):Ye f p q=JX q p.old p.new:=by unfold Ye;rw [if_neg (by omega),if_pos p1]
theorem Zst(p0:p.kind≠0)(p1:p.kind≠1)(q1:q.kind=1):Ye f p q=JX p q.old q.new:=by unfold Ye;rw [if_neg (by omega),if_neg p1,if_pos q1]
theorem lbd(p0:p.kind≠0)(p1:p.kind≠1)(q0:q.kind≠0)(q1:q.kind≠1)(h:p.kind≠q.kind\/p.list≠q.list):Ye f p q=⟨Edit.nil,Edit.nil,false,true⟩:=by
 unfold Ye;rw [if_neg (by omega),if_neg p1,if_neg q1,if_pos h]
theorem lb2(p2:p.kind=2)(q2:q.kind=2)(h:p.list=q.list):Ye f p q=Z3N f p q:=by unfold Ye;rw [if_neg (by omega),if_neg (by omega),if_neg (by omega),if_neg (by omega),if_pos p2]
theorem lb3(p2:p.kind=q.kind)(p0:p.kind≠0)(p1:p.kind≠1)(q2:p.kind≠2)(h:p.list=q.list):Ye f p q=Z2w f p q:=by unfold Ye;rw [if_neg (by omega),if_neg (by omega),if_neg (by omega),if_neg (by omega),if_neg q2]
end
theorem Zh1 {f g:Edit->Edit->Lft} {p q:Edit} {d d':Int} (hp:Z5 p d=true) (hq:Z5 q d'=true)
  (h:∀ a b,Z8 a+Z8 b < Z8 p+Z8 q->(∃ d,Z5 a d=true)->(∃ d,Z5 b d=true)->g b a=(f a b).swap):Ye g q p=(Ye f p q).swap:=by
 have rp:=Zk hp
 have rq:=Zk hq
 by_cases p0:p.kind=0
 ·rw [lb0 (.inl p0),lb0 (.inr p0)];try rfl
 by_cases q0:q.kind=0
 ·rw [lb0 (.inr q0),lb0 (.inl q0)];try rfl
 by_cases p1:p.kind=1
 ·by_cases q1:q.kind=1
  ·rw [lb1 p1 q0,lb1 q1 p0]
   unfold JX doB
   rw [ZvD p1,ZvD q1,Zbm (Z2 p.old)]
   by_cases e:ZT (Z2 q.old) (Z2 p.old)=true
   ·rw [if_pos e,if_pos e]
    show (⟨_,_,true && !ZT (Z2 (Z2 p.new)) (Z2 q.new),_⟩:Lft)=⟨_,_,true && !ZT (Z2 (Z2 q.new)) (Z2 p.new),_⟩
    rw [J6,J6,Zbm]
    try rfl
   ·rw [if_neg e,if_neg e]
    try rfl
  ·rw [lb1 p1 q0,Zst q0 q1 p1];try rfl
 by_cases q1:q.kind=1
 ·rw [Zst p0 p1 q1,lb1 q1 p0];try rfl
 by_cases c2:p.kind≠q.kind\/p.list≠q.list
 ·rw [lbd p0 p1 q0 q1 c2,lbd q0 q1 p0 p1 (c2.imp Ne.symm Ne.symm)];try rfl
 have hk:q.kind=p.kind:=by omega
 have hli:q.list=p.list:=by omega
 by_cases p2:p.kind=2
 ·rw [lb2 p2 (by omega) hli.symm,lb2 (by omega) p2 hli]
  have hkk:∀ a∈p.kids,∀ b∈q.kids,g b.e a.e=(f a.e b.e).swap:=by
   intro a ha b hb
   have:=Y5 ha
   have:=Y5 hb
   exact h _ _ (by omega) ⟨_,(Zs rp.kids a ha).2⟩ ⟨_,(Zs rq.kids b hb).2⟩
  unfold Z3N Lft.swap
  rw [Z5x (at_:=WEdit.at_) (f:=fun a b=> !Yj a b && JY a b) (g:=fun a b=> !Yj a b && JY a b) fun a _ b _=> by rw [Z91,ZfP],
   Z5x (at_:=WEdit.at_) (f:=Yj) (g:=Yj) fun a _ b _=> Z91 b a,
   Z5x (at_:=KidOf.at_) (f:=fun a b:Kid=> (f a.e b.e).c) (g:=fun a b=> (g a.e b.e).c) fun a ha b hb=> by rw [hkk a ha b hb];rfl,
   Z5x (at_:=KidOf.at_) (f:=fun a b:Kid=> (f a.e b.e).a) (g:=fun a b=> (g a.e b.e).a) fun a ha b hb=> by rw [hkk a ha b hb];rfl,
   Xr (f:=Yg KidOf.at_ (fun a b:Kid=> ⟨a.at_,(g a.e b.e).x⟩) p.kids) (g:=Yg KidOf.at_ (fun b a:Kid=> ⟨b.at_,(f a.e b.e).y⟩) p.kids) fun b hb=> Z3F fun a ha=> by rw [hkk a ha b hb];rfl,
   Xr (f:=Yg KidOf.at_ (fun b a:Kid=> ⟨b.at_,(g a.e b.e).y⟩) q.kids) (g:=Yg KidOf.at_ (fun a b:Kid=> ⟨a.at_,(f a.e b.e).x⟩) q.kids) fun a ha=> Z3F fun b hb=> by rw [hkk a ha b hb];rfl]
 ·rw [lb3 hk.symm p0 p1 p2 hli.symm,lb3 hk q0 q1 (by omega) hli]
  have hf:∀ a∈p.ops,∀ b∈q.ops,a.kind=3->b.kind=3->g b.e a.e=(f a.e b.e).swap:=by
   intro a ha b hb ka kb
   have:=YI ha
   have:=YI hb
   exact h _ _ (by omega) ⟨_,YP (rightOs_mem rp.ops ha) ka⟩ ⟨_,YP (rightOs_mem rq.ops hb) kb⟩
  have hf':∀ b∈q.ops,∀ a∈p.ops,b.kind=3->a.kind=3->f a.e b.e=(g b.e a.e).swap:=fun b hb a ha kb ka=> by rw [hf a ha b hb ka kb];try rfl
  unfold Z2w
  by_cases hb:(ZJ 2 2 p.ops q.ops []).2.1=true
  ·obtain ⟨ps,e,hL⟩:=Zcl (f:=f) _ p.ops q.ops [] (Qh _) hb
   obtain ⟨b1,ps',e',hS⟩:=Zf9 ((hL [] []).swap (g:=g) (Js hp) (Js hq) hf) []
   rw [if_pos hb,if_pos b1,e,e',QO,QO,<-hS,hli]
   try rfl
  ·rw [if_neg hb,if_neg]
   ·try rfl
   ·intro b1
    obtain ⟨ps,e,hL⟩:=Zcl (f:=g) _ q.ops p.ops [] (Qh _) b1
    exact hb (Zf9 ((hL [] []).swap (g:=f) (Js hq) (Js hp) hf') []).1
theorem Zss:∀ (n:Nat) (p q:Edit) (d d':Int),Z8 p+Z8 q<=n->Z5 p d=true->Z5 q d'=true->lbF n q p=(lbF n p q).swap:=by
 intro n
 induction n with
 | zero=> intro p q d d' h;obtain ⟨k,o,nw,w,ks,l,os⟩:=p;simp only [Z8] at h;omega
 | succ n ih=>
  intro p q d d' h hp hq
  exact Zh1 hp hq fun a b hab ⟨d1,h1⟩ ⟨d2,h2⟩=> ih a b d1 d2 (by omega) h1 h2
theorem Zpv{p q:Edit}{d d':Int}(hp:Z5 p d=true)(hq:Z5 q d'=true):lbE q p=(lbE p q).swap:=by
 unfold lbE
 rw [Xu]
 exact Zss _ p q d d' (Qh _) hp hq
end Go.AM.Ytpjenobkibfpcaa
namespace Go.AM.Ytpjenobkibfpcaa
open Go.AM Go.Proofs
mutual
def Yo(k:Int):Edit->Prop
 | .mk _ _ _ _ ks _ os=> (Yk os<=k/\ZY os<=k)/\ZaV k ks/\ZaT k os
def ZaV(k:Int):List (KidOf Edit)->Prop
 | []=> True
 | x ::r=> Zjd k x/\ZaV k r
def Zjd(k:Int):KidOf Edit->Prop
 | ⟨_,e⟩=> Yo k e
def ZaT(k:Int):List (OpOf Edit)->Prop
 | []=> True
 | x ::r=> ZnC k x/\ZaT k r
def ZnC(k:Int):OpOf Edit->Prop
 | ⟨_,_,_,e⟩=> Yo k e
end
theorem ZaU{k:Int}:∀ {l:List Kid},ZaV k l↔∀ x∈l,Yo k x.e
 | []=> by simp [ZaV]
 | ⟨a,e⟩ ::r=> by simp only [ZaV,Zjd,ZaU (l:=r),Qd,forall_eq_or_imp]
theorem ZaS{k:Int}:∀ {l:List Op},ZaT k l↔∀ x∈l,Yo k x.e
 | []=> by simp [ZaT]
 | ⟨a,n,l,e⟩ ::r=> by simp only [ZaT,ZnC,ZaS (l:=r),Qd,forall_eq_or_imp]
theorem JT{k:Int}{e:Edit}:Yo k e↔(Yk e.ops<=k/\ZY e.ops<=k)/\(∀ x∈e.kids,Yo k x.e)/\∀ o∈e.ops,Yo k o.e:=by
 obtain ⟨kk,o,n,w,ks,l,os⟩:=e
 simp only [Yo,ZaU,ZaS]
 try rfl
theorem Z3h:∀ (n:Nat) {k m:Int} (e:Edit),Z8 e<=n->k<=m->Yo k e->Yo m e:=by
 intro n
 induction n with
 | zero=> intro k m e h;obtain ⟨k,o,nw,w,ks,l,os⟩:=e;simp only [Z8] at h;omega
 | succ n ih=>
  intro k m e hn hk h
  rw [JT] at h ⊢
  exact ⟨⟨by omega,by omega⟩,fun x hx=> ih x.e (by have:=Y5 hx;omega) hk (h.2.1 x hx),fun o ho=> ih o.e (by have:=YI ho;omega) hk (h.2.2 o ho)⟩
theorem Z2D{k:Int}(h:0<=k):Yo k Edit.nil:=by
 rw [JT]
 simp [Edit.nil,Yk,ZY,h]
def owL(l:List Tree):Nat:=100*l.length+Z7 l
mutual
def owE(K:Nat):Edit->Nat
 | .mk _ o n w ks _ os=> K+Zi o+Zi n+65600*w.length+Z3u K ks+Z2Q K os
def Z3u(K:Nat):List (KidOf Edit)->Nat
 | []=> 0
 | k ::r=> Zor K k+Z3u K r
def Zor(K:Nat):KidOf Edit->Nat
 | ⟨_,e⟩=> 65600+owE K e
def Z2Q(K:Nat):List (OpOf Edit)->Nat
 | []=> 0
 | o ::r=> Zid K o+Z2Q K r
def Zid(K:Nat):OpOf Edit->Nat
 | ⟨k,_,l,e⟩=> owL l+if k=3 then 100+owE K e else 0
end
section
variable {K:Nat}
theorem ZeY(e:Edit):owE K e=K+Zi e.old+Zi e.new+65600*e.words.length+Z3u K e.kids+Z2Q K e.ops:=by cases e;rfl
theorem ZgC(k:Kid):Zor K k=65600+owE K k.e:=by cases k;rfl
theorem Z1p(o:Op):Zid K o=owL o.l+if o.kind=3 then 100+owE K o.e else 0:=by cases o;rfl
theorem Zrs:owE K Edit.nil=K+2:=by simp [owE,Z3u,Z2Q,Edit.nil,Tree.nil,Zi,Z7]
theorem Zrr(e:Edit):K+2<=owE K e:=by rw [ZeY];have:=ZdH e.old;have:=ZdH e.new;omega
theorem ZjT(a b:List Tree):owL (a++b)=owL a+owL b:=by unfold owL;rw [List.length_append,Yu];omega
theorem ZgB:∀ a b:List Op,Z2Q K (a++b)=Z2Q K a+Z2Q K b
 | [],b=> by simp [Z2Q]
 | o ::r,b=> by simp only [QA,Z2Q,ZgB r b];omega
def OkO(list:Int)(o:Op):Prop:=ZM o/\Za list o (-2)=true/\Z1d o
theorem ZgA{list:Int}{l:List Op}{o:Op}(hl:∀ o'∈l,OkO list o')(hp:Part l o)(ho:ZM o):OkO list o:=by
 obtain ⟨o',m,k,e1,_,lt⟩:=hp
 obtain ⟨_,hr,hg⟩:=hl o' m
 refine ⟨ho,?_⟩
 have R:=ZN hr
 have G:=Z1n hg
 obtain ⟨kk,nn,ll,ee⟩:=o
 have k:kk=o'.kind:=k
 have e1:ee=o'.e:=e1
 have lt:∀ t∈ll,t∈o'.l:=lt
 have gl:ZU ll:=Z4U fun t ht=> YY G.2.2.1 (lt t ht)
 cases R with
 | keep n1 a1 a2=>
  have k:kk=0:=k
  have e1:ee=Edit.nil:=e1
  subst k e1
  rcases ho with h | h | h
  ·have hl:ll=[]:=h.2.1
   subst hl
   have h3:1<=nn/\nn<=1048576:=h.2.2.1
   exact ⟨ZjV h3.1 h3.2 _,YK (by decide) (by decide),by unfold InR;omega,trivial,G.2.2.2⟩
  ·have:=h.1;omega
  ·have:=h.1;omega
 | gone l1 a1 a2=>
  have k:kk=1:=k
  have e1:ee=Edit.nil:=e1
  subst k e1
  rcases ho with h | h | h
  ·have:=h.1;omega
  ·have hn:nn=0:=h.2.1
   subst hn
   exact ⟨ZbX (.inl rfl) (Z4J fun t ht=> Z08 a1 t (lt t ht)) h.2.2.1,YK (by decide) (by decide),YK (by decide) (by decide),gl,G.2.2.2⟩
  ·have:=h.1;omega
 | come l1 a1 a2=>
  have k:kk=2:=k
  have e1:ee=Edit.nil:=e1
  subst k e1
  rcases ho with h | h | h
  ·have:=h.1;omega
  ·have hn:nn=0:=h.2.1
   subst hn
   exact ⟨ZbX (.inr rfl) (Z4J fun t ht=> Z08 a1 t (lt t ht)) h.2.2.1,YK (by decide) (by decide),YK (by decide) (by decide),gl,G.2.2.2⟩
  ·have:=h.1;omega
 | into e2 a1 a2 a3 a4=>
  have k:kk=3:=k
  have e1:ee=e2:=e1
  subst k e1
  rcases ho with h | h | h
  ·have:=h.1;omega
  ·have:=h.1;omega
  ·have hn:nn=0:=h.2.1
   have hl:ll=[]:=h.2.2
   subst hn hl
   exact ⟨ZjW a1 a2 a3 a4,YK (by decide) (by decide),YK (by decide) (by decide),trivial,G.2.2.2⟩
theorem ZfV{list:Int}{a:Op}{p:List Op}{n:Int}(h:∀ x∈a ::p,OkO list x)(h1:1<=n)(hn:n<=Z1 a):OkO list (Zq a n)/\(Zq a n).kind=a.kind/\Z1 (Zq a n)=n/\∀ o∈Zw (a ::p) n,OkO list o:=by
 obtain ⟨g1,g2,g3,g4,g5,_⟩:=Z2E (fun x hx=> (h x hx).1) h1 hn
 exact ⟨ZgA h g4 g1,g3,g2,fun o ho=> ZgA h (g5 o ho).2 (g5 o ho).1⟩
theorem Zyn:Zn4 fun o=> ((Zid K o:Nat):Int):=by
 intro o n ho h1 hn
 have hl:=Yd o
 rcases ho with ⟨k0,k1,k2,k3⟩ | ⟨k0,k1,k2,k3⟩ | ⟨k0,k1,k2⟩
 ·have e1:Zq o n=⟨o.kind,n,o.l,o.e⟩:=by rw [Zq,if_neg hn,if_pos k0]
  have e2:YC o n=⟨o.kind,o.n - n,o.l,o.e⟩:=by rw [YC,if_pos k0]
  simp only [Z1p,e1,e2]
  rw [if_neg (by omega),k1]
  simp [owL,Z7]
 ·have e1:Zq o n=⟨o.kind,o.n,o.l.take n.toNat,o.e⟩:=by rw [Zq,if_neg hn,if_neg (by omega)]
  have e2:YC o n=⟨o.kind,o.n,o.l.drop n.toNat,o.e⟩:=by rw [YC,if_neg (by omega)]
  have h3:¬o.kind=3:=by omega
  have:=ZjT (o.l.take n.toNat) (o.l.drop n.toNat)
  rw [QH] at this
  simp only [Z1p,e1,e2]
  rw [if_neg h3]
  omega
 ·rw [if_pos k0] at hl
  omega
end
end Go.AM.Ytpjenobkibfpcaa
