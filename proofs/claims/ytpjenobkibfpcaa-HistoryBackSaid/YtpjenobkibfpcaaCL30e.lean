import Derived.Test.YtpjenobkibfpcaaKB22c
import Derived.Test.YtpjenobkibfpcaaKL23r
import Derived.Test.YtpjenobkibfpcaaKG20x
set_option linter.unusedSimpArgs false
set_option linter.unusedVariables false
namespace Go.AM.Ytpjenobkibfpcaa
open Go.AM Go.Proofs
noncomputable section
noncomputable section
def Z1a(a:Edit × Unit):Prop:=ZD a.1<=20000000000/\∃ d,Z4 a.1 d=true
def Z7I(a:Edit × Unit):V U:= .agg (enc .edit (ZI a.1))
def Z33:Fs U:=fs ZhW (fun a=> [Z1a a]) Z7I
def ZcF:ArgL (Int × List Op × Unit):=(.cons (Yq .i64) (.cons (aSl .op) .nil))
def Z7J(a:Int × List Op × Unit):Prop:=ZE a.2.1<=20000000000/\∀ o∈a.2.1,∃ d,Zb a.1 o d=true
def ZdG(a:Int × List Op × Unit):Nat:=2*ZE a.2.1+1
def Zdh(a:Int × List Op × Unit):V U:= .c (sU .op ((Z2 (Yd a.1 a.2.1 (Wst.mk [] [] []))).out) .unk)
def Zkd:Fs U:=fs ZcF (fun a=> [Z7J a]) Zdh
def Z1L(N:Nat):List (FuncId × Fs U):=(57,fs ZhW (fun a=> [Z1a a,Z3x a < N]) Z7I) ::(94,fs ZcF (fun a=> [Z7J a,ZdG a < N]) Zdh) ::[(71,Z94),(128,Z1R),(126,Z3T),(129,Z0B),(127,Z3a)]
def Zci:Zc U:=fun i=> match i with
 | 0=> ([(1,[]),(2,[])],[(.loc 1,[]),(.loc 2,[])])
 | 1=> ([(1,[]),(2,[]),(3,[])],[(.loc 1,[]),(.loc 2,[]),(.loc 3,[])])
 | 2=> ([(1,[]),(2,[]),(3,[]),(12,[])],[(.loc 1,[]),(.loc 2,[]),(.loc 3,[])])
 | 3=> ([(1,[]),(2,[]),(3,[]),(12,[]),(13,[])],[(.loc 1,[]),(.loc 2,[]),(.loc 3,[])])
 | 4=> ([(2,[]),(3,[])],[(.loc 2,[]),(.loc 3,[])])
 | 5=> ([(1,[]),(2,[]),(3,[]),(12,[]),(23,[])],[(.loc 1,[]),(.loc 2,[]),(.loc 3,[])])
 | 6=> ([(1,[]),(2,[]),(3,[])],[(.loc 1,[]),(.loc 2,[]),(.loc 3,[])])
 | 7=> ([(2,[]),(3,[]),(32,[]),(33,[]),(34,[])],[(.loc 2,[]),(.loc 3,[.any,.any,.any,.any,.any,.any,.any,.any,.own .kid])])
 | 8=> ([(2,[]),(3,[]),(32,[]),(33,[]),(34,[]),(35,[])],[(.loc 2,[]),(.loc 3,[])])
 | 9=> ([(2,[]),(3,[]),(5,[]),(32,[]),(33,[]),(34,[])],[(.loc 2,[]),(.loc 3,[]),(.loc 5,[])])
 | 10=> ([(2,[]),(3,[]),(32,[]),(33,[]),(34,[])],[(.loc 2,[]),(.loc 3,[])])
 | 11=> ([(2,[]),(3,[]),(32,[]),(33,[]),(34,[])],[(.loc 2,[]),(.loc 3,[.any,.any,.any,.any,.any,.any,.any,.any,.own .kid])])
 | 12=> ([(1,[]),(2,[]),(3,[]),(50,[])],[(.loc 1,[]),(.loc 2,[]),(.loc 3,[])])
 | 13=> ([(2,[]),(3,[])],[(.loc 2,[]),(.loc 3,[])])
 | 14=> ([(2,[])],[(.loc 2,[])])
 | _=> ([],[])
def Z27(e:Edit)(x34:Int)(ml3_8:List Kid):LSt U:=(L2 [pL 2,pL 3,(32,.c (sU .kid e.kids .unk)),pI 33 (e.kids.length:Int),pI 34 x34] [(.loc 2,zc1),(.loc 3,[ci e.kind,ci 0,.nils,.nils,ci 0,.nils,.nils,sU .wedit (([]:List WEdit)++e.words) (.own (.l 3 7)),sU .kid ml3_8 (.own (.l 3 8)),ci e.list,.nils])])
abbrev W57(N:Nat)(e:Edit)(Q:QT):=AW (Z1 (Z1L N)) Try.f57 Zci [] (L2 [(0,.agg (enc .edit e))] []) Q
abbrev Zjv(N:Nat):=awp cfg (Z1 (Z1L N)) (ZC cfg (Z1 (Z1L N))) Try.f57.ntmps Zci
abbrev Zit(N:Nat):=Z9h cfg (Z1 (Z1L N)) (ZC cfg (Z1 (Z1L N))) Try.f57.ntmps Zci
theorem Zv3(N:Nat)(e:Edit)(Q:QT)(h:((e.kind==1)=true->(Z9w ((Tree.mk e.old.kind e.old.words e.old.kids),()))/\(Z9w ((Tree.mk e.new.kind e.new.words e.new.kids),()))/\(Q .ret (L2 [pL 2] [(.loc 2,([ci e.kind]++enc .tree (Z3 (Tree.mk e.old.kind e.old.words e.old.kids))++enc .tree (Z3 (Tree.mk e.new.kind e.new.words e.new.kids))++[.nils,.nils,ci e.list,.nils]))])))/\((e.kind==1)=false->((e.kind==2)=true->((([]:List WEdit).length+e.words.length)*32<=140737488355328)/\(Zh (AW (Z1 (Z1L N)) Try.f57 Zci [1,1,0,1,0,1,1,1,0,1,1,0,0]) (Z27 e 0 []) (xB 1 (xB 0 (SW (Z1 (Z1L N)) Try.f57 Zci [1,1,1] Q)))))/\((e.kind==2)=false->((e.kind==3)=true->(Z7J (e.list,e.ops,()))/\(ZdG (e.list,e.ops,()) < N)/\(Q .ret (L2 [pL 2] [(.loc 2,[ci e.kind,ci 0,.nils,.nils,ci 0,.nils,.nils,.nils,.nils,ci e.list,sU .op ((Z2 (Yd e.list e.ops (Wst.mk [] [] []))).out) .unk])])))/\((e.kind==3)=false->Q .ret (L2 [pL 2] [(.loc 2,[ci e.kind,ci 0,.nils,.nils,ci 0,.nils,.nils,.nils,.nils,ci e.list,.nils])]))))):
  W57 N e Q:=by
 have e_:(W57 N e Q)=(((e.kind==1)=true->(Z9w ((Tree.mk e.old.kind e.old.words e.old.kids),()))/\(Z9w ((Tree.mk e.new.kind e.new.words e.new.kids),()))/\(Q .ret (L2 [pL 2] [(.loc 2,([ci e.kind]++enc .tree (Z3 (Tree.mk e.old.kind e.old.words e.old.kids))++enc .tree (Z3 (Tree.mk e.new.kind e.new.words e.new.kids))++[.nils,.nils,ci e.list,.nils]))])))/\((e.kind==1)=false->(((e.kind==2)=true->((([]:List WEdit).length+e.words.length)*32<=140737488355328)/\(Zh (Zjv N (cd Try.f57 [1,1,0,1,0,1,1,1,0,1,1,0,0])) (Z27 e 0 []) (xB 1 (xB 0 (Zit N (cd Try.f57 [1,1,1]) Q)))))/\((e.kind==2)=false->(((e.kind==3)=true->(Z7J (e.list,e.ops,()))/\(ZdG (e.list,e.ops,()) < N)/\(Q .ret (L2 [pL 2] [(.loc 2,[ci e.kind,ci 0,.nils,.nils,ci 0,.nils,.nils,.nils,.nils,ci e.list,sU .op ((Z2 (Yd e.list e.ops (Wst.mk [] [] []))).out) .unk])])))/\((e.kind==3)=false->(Q .ret (L2 [pL 2] [(.loc 2,[ci e.kind,ci 0,.nils,.nils,ci 0,.nils,.nils,.nils,.nils,ci e.list,.nils])])))))))):=by kernel_rfl
 exact e_.mpr ⟨fun c_1=> ⟨(h.1 c_1).1,(h.1 c_1).2.1,(h.1 c_1).2.2⟩,fun c_1=> ⟨fun c_2=> ⟨((h.2 c_1).1 c_2).1,((h.2 c_1).1 c_2).2⟩,fun c_2=> ⟨fun c_3=> ⟨(((h.2 c_1).2 c_2).1 c_3).1,(((h.2 c_1).2 c_2).1 c_3).2.1,(((h.2 c_1).2 c_2).1 c_3).2.2⟩,fun c_3=> (((h.2 c_1).2 c_2).2 c_3)⟩⟩⟩
abbrev Zn3(N:Nat)(e:Edit)(x34:Int)(ml3_8:List Kid)(N0:NT)(Q:QT):=AW (Z1 (Z1L N)) Try.f57 Zci [1,1,0,1,0,1,1,1,0,1,1,0,0] (Z27 e x34 ml3_8) (xT N0 (xB 1 (xB 0 (SW (Z1 (Z1L N)) Try.f57 Zci [1,1,1] Q))))
theorem ZnB(N:Nat)(e:Edit)(x34:Int)(ml3_8:List Kid)(N0:NT)(Q:QT)(h:∀ y_1,y_1=(e.kids.getD x34.toNat (KidOf.mk 0 Edit.nil))->∀ y_2,y_2=(y_1.e)->∀ y_3,y_3=(ZI y_2)->((decide (x34 < (e.kids.length:Int)))=true->((0:Int)<=x34/\x34 < (e.kids.length:Int))/\((Z1a (y_2,()))/\(Z3x (y_2,()) < N)/\((ml3_8.length+([(KidOf.mk y_1.at_ y_3:Kid)]).length)*208<=140737488355328)/\((InR (x34+1))/\(N0 (Z27 e (x34+1) (ml3_8++([(KidOf.mk y_1.at_ y_3:Kid)])))))))/\((decide (x34 < (e.kids.length:Int)))=false->Q .ret (L2 [pL 2] [(.loc 2,[ci e.kind,ci 0,.nils,.nils,ci 0,.nils,.nils,sU .wedit (([]:List WEdit)++e.words) (.own (.l 2 7)),sU .kid ml3_8 (.own (.l 2 8)),ci e.list,.nils])]))):
  Zn3 N e x34 ml3_8 N0 Q:=by
 have e_:(Zn3 N e x34 ml3_8 N0 Q)=(let y_1:=(e.kids.getD x34.toNat (KidOf.mk 0 Edit.nil));let y_2:=(Yw y_1.e);let y_3:=(Yw (ZI y_2));(((decide ((x34:Int) < (e.kids.length:Int)))=true->((0:Int)<=x34/\x34 < (e.kids.length:Int))/\((Z1a (y_2,()))/\(Z3x (y_2,()) < N)/\((ml3_8.length+([(KidOf.mk y_1.at_ y_3:Kid)]).length)*208<=140737488355328)/\((InR ((x34:Int)+1))/\(N0 (Z27 e ((x34:Int)+1) (ml3_8++([(KidOf.mk y_1.at_ y_3:Kid)])))))))/\((decide ((x34:Int) < (e.kids.length:Int)))=false->(Q .ret (L2 [pL 2] [(.loc 2,[ci e.kind,ci 0,.nils,.nils,ci 0,.nils,.nils,sU .wedit (([]:List WEdit)++e.words) (.own (.l 2 7)),sU .kid ml3_8 (.own (.l 2 8)),ci e.list,.nils])]))))):=by kernel_rfl
 exact e_.mpr (by intro y_1 y_2 y_3;have hh:=h y_1 rfl y_2 (Zf _) y_3 (Zf _);exact ⟨fun c_4=> ⟨(hh.1 c_4).1,⟨(hh.1 c_4).2.1,(hh.1 c_4).2.2.1,(hh.1 c_4).2.2.2.1,⟨(hh.1 c_4).2.2.2.2.1,(hh.1 c_4).2.2.2.2.2⟩⟩⟩,fun c_4=> (hh.2 c_4)⟩)
def ZsN(N:Nat)(e:Edit):Prop:=AW (Z1 (Z1L N)) Try.f57 Zci [] (Zg (ZhW.can (e,())) []) (EQ Try.f57 (Z7I (e,())) [])
abbrev ZuD:Prop:=∀ (N:Nat) (e:Edit) (_:Unit),Z1a (e,())->Z3x (e,()) < N+1->ZsN N e
def Zch:Zc U:=fun i=> match i with
 | 0=> ([(0,[]),(1,[])],[])
 | 1=> ([(0,[]),(1,[]),(5,[])],[(.loc 10,[.wr .op])])
 | 2=> ([(0,[]),(5,[]),(11,[]),(12,[]),(13,[])],[(.loc 10,[.wr .op,.own .tree,.own .tree])])
 | 3=> ([(0,[]),(5,[]),(11,[]),(12,[]),(13,[]),(14,[])],[(.loc 10,[.wr .op])])
 | 4=> ([(0,[]),(5,[]),(7,[]),(11,[]),(12,[]),(13,[])],[(.loc 7,[]),(.loc 10,[.wr .op])])
 | 5=> ([(0,[]),(5,[]),(7,[]),(11,[]),(12,[]),(13,[]),(18,[])],[(.loc 7,[]),(.loc 10,[.wr .op])])
 | 6=> ([(0,[]),(5,[]),(7,[]),(11,[]),(12,[]),(13,[]),(18,[]),(19,[])],[(.loc 7,[]),(.loc 10,[.wr .op])])
 | 7=> ([(0,[]),(5,[]),(11,[]),(12,[]),(13,[])],[(.loc 10,[.wr .op])])
 | 8=> ([(0,[]),(5,[]),(7,[]),(11,[]),(12,[]),(13,[]),(18,[]),(25,[])],[(.loc 7,[]),(.loc 10,[.wr .op])])
 | 9=> ([(0,[]),(5,[]),(11,[]),(12,[]),(13,[])],[(.loc 10,[.wr .op])])
 | 10=> ([(0,[]),(5,[]),(7,[]),(11,[]),(12,[]),(13,[]),(18,[]),(33,[])],[(.loc 7,[]),(.loc 10,[.wr .op])])
 | 11=> ([(0,[]),(5,[]),(11,[]),(12,[]),(13,[])],[(.loc 10,[.wr .op])])
 | 12=> ([(0,[]),(5,[]),(7,[]),(11,[]),(12,[]),(13,[]),(41,[])],[(.loc 7,[]),(.loc 10,[.wr .op])])
 | 13=> ([(0,[]),(5,[]),(8,[]),(11,[]),(12,[]),(13,[])],[(.loc 8,[]),(.loc 10,[.wr .op])])
 | 14=> ([(0,[]),(5,[]),(8,[]),(11,[]),(12,[]),(13,[]),(48,[])],[(.loc 8,[]),(.loc 10,[.wr .op])])
 | 15=> ([(0,[]),(5,[]),(11,[]),(12,[]),(13,[])],[(.loc 10,[.wr .op])])
 | 16=> ([(0,[]),(5,[]),(8,[]),(11,[]),(12,[]),(13,[])],[(.loc 8,[]),(.loc 10,[.wr .op])])
 | 17=> ([(0,[]),(5,[]),(11,[]),(12,[]),(13,[])],[(.loc 10,[.wr .op])])
 | 18=> ([(0,[]),(5,[]),(11,[]),(12,[]),(13,[])],[(.loc 10,[.wr .op,.own .tree,.own .tree])])
 | 19=> ([(5,[])],[(.loc 10,[.wr .op])])
 | 20=> ([(4,[])],[])
 | _=> ([],[])
def ZY(list:Int)(l:List Op)(x13:Int)(rl_10_0:List Op)(ml10_1 ml10_2:List Tree):LSt U:=(⟨[pI 0 list,(5,.ptr (.loc 10) 0),(11,.c (sU .op l .unk)),pI 12 (l.length:Int),pI 13 x13],[(.loc 10,[.mref (.l 10 0),sU .tree ml10_1 (.own (.l 10 1)),sU .tree ml10_2 (.own (.l 10 2))])],[(.l 10 0,LC.mk (U:=U) .op rl_10_0 0)]⟩:LSt U)
abbrev W94(N:Nat)(list:Int)(l:List Op)(Q:QT):=AW (Z1 (Z1L N)) Try.f94 Zch [] (L2 [pI 0 list,(1,.c (sU .op l .unk))] []) Q
abbrev Zju(N:Nat):=awp cfg (Z1 (Z1L N)) (ZC cfg (Z1 (Z1L N))) Try.f94.ntmps Zch
abbrev Zis(N:Nat):=Z9h cfg (Z1 (Z1L N)) (ZC cfg (Z1 (Z1L N))) Try.f94.ntmps Zch
theorem ZuG(N:Nat)(list:Int)(l:List Op)(Q:QT)(h:Zh (AW (Z1 (Z1L N)) Try.f94 Zch [1,1,0,1,0,0]) (ZY list l 0 [] [] []) (xB 0 (SW (Z1 (Z1L N)) Try.f94 Zch [1,1,1] Q))):
  W94 N list l Q:=by
 have e_:(W94 N list l Q)=(Zh (Zju N (cd Try.f94 [1,1,0,1,0,0])) (ZY list l 0 [] [] []) (xB 0 (Zis N (cd Try.f94 [1,1,1]) Q))):=by kernel_rfl
 exact e_.mpr h
abbrev Zn2(N:Nat)(list:Int)(l:List Op)(x13:Int)(rl_10_0:List Op)(ml10_1 ml10_2:List Tree)(N0:NT)(Q:QT):=AW (Z1 (Z1L N)) Try.f94 Zch [1,1,0,1,0,0] (ZY list l x13 rl_10_0 ml10_1 ml10_2) (xT N0 (xB 0 (SW (Z1 (Z1L N)) Try.f94 Zch [1,1,1] Q)))
theorem Zng(N:Nat)(list:Int)(l:List Op)(x13:Int)(rl_10_0:List Op)(ml10_1 ml10_2:List Tree)(N0:NT)(Q:QT)(h:∀ y_1,y_1=(l.getD x13.toNat Op.nil)->∀ y_2,y_2=(Edit.mk 0 (Tree.mk 0 [] []) (Tree.mk 0 [] []) [] [] 0 [])->∀ y_3,y_3=(Int.toNat (((Z2 (Wst.mk rl_10_0 ml10_1 ml10_2)).out).length:Int))->∀ y_4,y_4=(y_1.e)->∀ y_5,y_5=(ZI y_4)->((decide (x13 < (l.length:Int)))=true->((0:Int)<=x13/\x13 < (l.length:Int))/\(((y_1.kind==0)=true->(Z2F ((rl_10_0,ml10_1,ml10_2,()),y_1.n,()))/\((InR (x13+1))/\(N0 (ZY list l (x13+1) ((ZK (Wst.mk rl_10_0 ml10_1 ml10_2) y_1.n).out) ((ZK (Wst.mk rl_10_0 ml10_1 ml10_2) y_1.n).gone) ((ZK (Wst.mk rl_10_0 ml10_1 ml10_2) y_1.n).brought)))))/\((y_1.kind==0)=false->((y_1.kind==1)=true->(Z73 ((rl_10_0,ml10_1,ml10_2,()),y_1.l,()))/\((InR (x13+1))/\(N0 (ZY list l (x13+1) ((Wst.mk rl_10_0 (ml10_1++Z5 y_1.l) ml10_2).out) ((Wst.mk rl_10_0 (ml10_1++Z5 y_1.l) ml10_2).gone) ((Wst.mk rl_10_0 (ml10_1++Z5 y_1.l) ml10_2).brought)))))/\((y_1.kind==1)=false->((y_1.kind==2)=true->(Z73 ((rl_10_0,ml10_1,ml10_2,()),y_1.l,()))/\((InR (x13+1))/\(N0 (ZY list l (x13+1) ((Wst.mk rl_10_0 ml10_1 (ml10_2++Z5 y_1.l)).out) ((Wst.mk rl_10_0 ml10_1 (ml10_2++Z5 y_1.l)).gone) ((Wst.mk rl_10_0 ml10_1 (ml10_2++Z5 y_1.l)).brought)))))/\((y_1.kind==2)=false->((y_1.kind==3)=true->(Z1a (y_4,()))/\(Z3x (y_4,()) < N)/\((Z45 (list,y_5,()))/\(((Z4G list y_5)=true->(Z2F ((rl_10_0,ml10_1,ml10_2,()),1,()))/\((InR (x13+1))/\(N0 (ZY list l (x13+1) ((ZK (Wst.mk rl_10_0 ml10_1 ml10_2) 1).out) ((ZK (Wst.mk rl_10_0 ml10_1 ml10_2) 1).gone) ((ZK (Wst.mk rl_10_0 ml10_1 ml10_2) 1).brought)))))/\((Z4G list y_5)=false->(Z0u ((rl_10_0,ml10_1,ml10_2,()),()))/\(((((Z2 (Wst.mk rl_10_0 ml10_1 ml10_2)).out).length+([(OpOf.mk 0 0 [] y_2:Op)]).length)*240<=140737488355328)/\((0:Int)<=(((Z2 (Wst.mk rl_10_0 ml10_1 ml10_2)).out).length:Int)/\(((Z2 (Wst.mk rl_10_0 ml10_1 ml10_2)).out).length:Int) < ((((Z2 (Wst.mk rl_10_0 ml10_1 ml10_2)).out)++([(OpOf.mk 0 0 [] y_2:Op)])).length:Int))/\((0:Nat)<=y_3)/\((InR (x13+1))/\(N0 (ZY list l (x13+1) (List.set (((Z2 (Wst.mk rl_10_0 ml10_1 ml10_2)).out)++([(OpOf.mk 0 0 [] y_2:Op)])) y_3 (OpOf.mk 3 0 [] y_5:Op)) ((Z2 (Wst.mk rl_10_0 ml10_1 ml10_2)).gone) ((Z2 (Wst.mk rl_10_0 ml10_1 ml10_2)).brought)))))))))/\((y_1.kind==3)=false->(InR (x13+1))/\(N0 (ZY list l (x13+1) rl_10_0 ml10_1 ml10_2))))))))/\((decide (x13 < (l.length:Int)))=false->(Z0u ((rl_10_0,ml10_1,ml10_2,()),()))/\(Q .ret (L2 [(4,.c (sU .op ((Z2 (Wst.mk rl_10_0 ml10_1 ml10_2)).out) (.own (.e 4 0))))] [])))):
  Zn2 N list l x13 rl_10_0 ml10_1 ml10_2 N0 Q:=by
 have e_:(Zn2 N list l x13 rl_10_0 ml10_1 ml10_2 N0 Q)=(let y_1:=(l.getD x13.toNat Op.nil);let y_2:=(Edit.mk 0 (Tree.mk 0 [] []) (Tree.mk 0 [] []) [] [] 0 []);let y_3:=(Int.toNat (((Z2 (Wst.mk rl_10_0 ml10_1 ml10_2)).out).length:Int));let y_4:=(Yw y_1.e);let y_5:=(Yw (ZI y_4));(((decide ((x13:Int) < (l.length:Int)))=true->((0:Int)<=x13/\x13 < (l.length:Int))/\(((y_1.kind==0)=true->(Z2F ((rl_10_0,ml10_1,ml10_2,()),y_1.n,()))/\((InR ((x13:Int)+1))/\(N0 (ZY list l ((x13:Int)+1) ((ZK (Wst.mk rl_10_0 ml10_1 ml10_2) y_1.n).out) ((ZK (Wst.mk rl_10_0 ml10_1 ml10_2) y_1.n).gone) ((ZK (Wst.mk rl_10_0 ml10_1 ml10_2) y_1.n).brought)))))/\((y_1.kind==0)=false->(((y_1.kind==1)=true->(Z73 ((rl_10_0,ml10_1,ml10_2,()),y_1.l,()))/\((InR ((x13:Int)+1))/\(N0 (ZY list l ((x13:Int)+1) ((Wst.mk rl_10_0 (ml10_1++Z5 y_1.l) ml10_2).out) ((Wst.mk rl_10_0 (ml10_1++Z5 y_1.l) ml10_2).gone) ((Wst.mk rl_10_0 (ml10_1++Z5 y_1.l) ml10_2).brought)))))/\((y_1.kind==1)=false->(((y_1.kind==2)=true->(Z73 ((rl_10_0,ml10_1,ml10_2,()),y_1.l,()))/\((InR ((x13:Int)+1))/\(N0 (ZY list l ((x13:Int)+1) ((Wst.mk rl_10_0 ml10_1 (ml10_2++Z5 y_1.l)).out) ((Wst.mk rl_10_0 ml10_1 (ml10_2++Z5 y_1.l)).gone) ((Wst.mk rl_10_0 ml10_1 (ml10_2++Z5 y_1.l)).brought)))))/\((y_1.kind==2)=false->(((y_1.kind==3)=true->(Z1a (y_4,()))/\(Z3x (y_4,()) < N)/\((Z45 (list,y_5,()))/\(((Z4G list y_5)=true->(Z2F ((rl_10_0,ml10_1,ml10_2,()),1,()))/\((InR ((x13:Int)+1))/\(N0 (ZY list l ((x13:Int)+1) ((ZK (Wst.mk rl_10_0 ml10_1 ml10_2) 1).out) ((ZK (Wst.mk rl_10_0 ml10_1 ml10_2) 1).gone) ((ZK (Wst.mk rl_10_0 ml10_1 ml10_2) 1).brought)))))/\((Z4G list y_5)=false->(Z0u ((rl_10_0,ml10_1,ml10_2,()),()))/\(((((Z2 (Wst.mk rl_10_0 ml10_1 ml10_2)).out).length+([(OpOf.mk 0 0 [] y_2:Op)]).length)*240<=140737488355328)/\((0:Int)<=(((Z2 (Wst.mk rl_10_0 ml10_1 ml10_2)).out).length:Int)/\(((Z2 (Wst.mk rl_10_0 ml10_1 ml10_2)).out).length:Int) < ((((Z2 (Wst.mk rl_10_0 ml10_1 ml10_2)).out)++([(OpOf.mk 0 0 [] y_2:Op)])).length:Int))/\((0:Nat)<=y_3)/\((InR ((x13:Int)+1))/\(N0 (ZY list l ((x13:Int)+1) (List.set (((Z2 (Wst.mk rl_10_0 ml10_1 ml10_2)).out)++([(OpOf.mk 0 0 [] y_2:Op)])) y_3 (OpOf.mk 3 0 [] y_5:Op)) ((Z2 (Wst.mk rl_10_0 ml10_1 ml10_2)).gone) ((Z2 (Wst.mk rl_10_0 ml10_1 ml10_2)).brought)))))))))/\((y_1.kind==3)=false->(InR ((x13:Int)+1))/\(N0 (ZY list l ((x13:Int)+1) rl_10_0 ml10_1 ml10_2)))))))))))/\((decide ((x13:Int) < (l.length:Int)))=false->(Z0u ((rl_10_0,ml10_1,ml10_2,()),()))/\(Q .ret (L2 [(4,.c (sU .op ((Z2 (Wst.mk rl_10_0 ml10_1 ml10_2)).out) (.own (.e 4 0))))] []))))):=by kernel_rfl
 exact e_.mpr (by intro y_1 y_2 y_3 y_4 y_5;have hh:=h y_1 rfl y_2 rfl y_3 rfl y_4 (Zf _) y_5 (Zf _);exact ⟨fun c_5=> ⟨(hh.1 c_5).1,⟨fun c_6=> ⟨((hh.1 c_5).2.1 c_6).1,⟨((hh.1 c_5).2.1 c_6).2.1,((hh.1 c_5).2.1 c_6).2.2⟩⟩,fun c_6=> ⟨fun c_7=> ⟨(((hh.1 c_5).2.2 c_6).1 c_7).1,⟨(((hh.1 c_5).2.2 c_6).1 c_7).2.1,(((hh.1 c_5).2.2 c_6).1 c_7).2.2⟩⟩,fun c_7=> ⟨fun c_8=> ⟨((((hh.1 c_5).2.2 c_6).2 c_7).1 c_8).1,⟨((((hh.1 c_5).2.2 c_6).2 c_7).1 c_8).2.1,((((hh.1 c_5).2.2 c_6).2 c_7).1 c_8).2.2⟩⟩,fun c_8=> ⟨fun c_9=> ⟨(((((hh.1 c_5).2.2 c_6).2 c_7).2 c_8).1 c_9).1,(((((hh.1 c_5).2.2 c_6).2 c_7).2 c_8).1 c_9).2.1,⟨(((((hh.1 c_5).2.2 c_6).2 c_7).2 c_8).1 c_9).2.2.1,⟨fun c_10=> ⟨((((((hh.1 c_5).2.2 c_6).2 c_7).2 c_8).1 c_9).2.2.2.1 c_10).1,⟨((((((hh.1 c_5).2.2 c_6).2 c_7).2 c_8).1 c_9).2.2.2.1 c_10).2.1,((((((hh.1 c_5).2.2 c_6).2 c_7).2 c_8).1 c_9).2.2.2.1 c_10).2.2⟩⟩,fun c_10=> ⟨((((((hh.1 c_5).2.2 c_6).2 c_7).2 c_8).1 c_9).2.2.2.2 c_10).1,⟨((((((hh.1 c_5).2.2 c_6).2 c_7).2 c_8).1 c_9).2.2.2.2 c_10).2.1,((((((hh.1 c_5).2.2 c_6).2 c_7).2 c_8).1 c_9).2.2.2.2 c_10).2.2.1,((((((hh.1 c_5).2.2 c_6).2 c_7).2 c_8).1 c_9).2.2.2.2 c_10).2.2.2.1,⟨((((((hh.1 c_5).2.2 c_6).2 c_7).2 c_8).1 c_9).2.2.2.2 c_10).2.2.2.2.1,((((((hh.1 c_5).2.2 c_6).2 c_7).2 c_8).1 c_9).2.2.2.2 c_10).2.2.2.2.2⟩⟩⟩⟩⟩⟩,fun c_9=> ⟨(((((hh.1 c_5).2.2 c_6).2 c_7).2 c_8).2 c_9).1,(((((hh.1 c_5).2.2 c_6).2 c_7).2 c_8).2 c_9).2⟩⟩⟩⟩⟩⟩,fun c_5=> ⟨(hh.2 c_5).1,(hh.2 c_5).2⟩⟩)
def Zsq(N:Nat)(list:Int)(l:List Op):Prop:=AW (Z1 (Z1L N)) Try.f94 Zch [] (Zg (ZcF.can (list,l,())) []) (EQ Try.f94 (Zdh (list,l,())) [])
abbrev Zuz:Prop:=∀ (N:Nat) (list:Int) (l:List Op) (_:Unit),Z7J (list,l,())->ZdG (list,l,()) < N+1->Zsq N list l
theorem ZiU(c71:CT 71 Z94)(Zmz:CT 128 Z1R)(ZrZ:CT 126 Z3T)(Zjj:CT 129 Z0B)(Zmx:CT 127 Z3a)(ha:ZuD)(hb:Zuz):CT 57 Z33/\CT 94 Zkd:=
 Z1M (μA:=Z3x) (μB:=ZdG) (l:=[(71,Z94),(128,Z1R),(126,Z3T),(129,Z0B),(127,Z3a)]) Zj rfl (⟨c71,Zmz,ZrZ,Zjj,Zmx,trivial⟩) Zci Zch Try.func57 Try.func94 rfl rfl rfl rfl 1 2 (fun _=> rfl) (fun _=> rfl) (by decide) (by decide) (fun N ⟨e,_⟩=> ha N e ()) (fun N ⟨list,l,_⟩=> hb N list l ())
end
end
theorem Zj5(s:Wst)(n:Int):(ZK s n).out.length<=s.out.length+3:=by
 have h:=Z7m s
 simp only [ZK]
 rw [Z6b]
 split
 ·rw [List.length_set];omega
 ·rw [Qf];simp;omega
theorem ZoL{s:Wst}{n B K:Int}(hB:0<=B)(hn:0<=n/\n<=K)(h:∀ o∈s.out,0<=o.n/\o.n<=B):∀ o∈(ZK s n).out,0<=o.n/\o.n<=B+K:=by
 have hF:∀ o∈(Z2 s).out,0<=o.n/\o.n<=B:=by
  intro o ho
  rcases Z7l s o ho with h1 | h1
  ·exact h o h1
  ·omega
 intro o ho
 simp only [ZK] at ho
 rw [Z6b] at ho
 split at ho
 ·rename_i hc
  rcases List.mem_or_eq_of_mem_set ho with ho | rfl
  ·have:=hF o ho;omega
  ·have:=hF _ (Zl (l:=(Z2 s).out) (i:=(Z2 s).out.length - 1) (by omega) Op.nil)
   simp only;omega
 ·rcases Q9.1 ho with ho | ho
  ·have:=hF o ho;omega
  ·simp only [Q7] at ho;subst ho;simp only;omega
theorem Z9K:∀ (l:List Kid),(Jh l).length=l.length
 | []=> rfl
 | k ::r=> by simp [Jh,Z9K r]
theorem Zfb(e:Edit):(ZI e).words.length<=e.words.length/\(ZI e).kids.length<=e.kids.length:=by
 rw [Z5P]
 split
 ·simp
 ·split
  ·simp [Z9K]
  ·split <;> simp
theorem ZbR{list:Int}{o:Op}{d:Int}(h:Zb list o d=true)(hk:o.kind=0):1<=o.n/\o.n<=1048576:=by
 obtain ⟨k,n,l,e⟩:=o
 simp only at hk
 subst hk
 simp [Zb] at h
 show 1<=n/\n<=1048576
 omega
theorem ZbS{list:Int}{o:Op}{d:Int}(h:Zb list o d=true)(hk:o.kind=3):Z4 o.e d=true:=by
 obtain ⟨k,n,l,e⟩:=o
 simp only at hk
 subst hk
 simp [Zb] at h
 exact h.2.1.2
theorem Zj2{e:Edit}{d:Int}(h:Z4 e d=true)(hk:e.kind=2):∀ k∈e.kids,∃ d,Z4 k.e d=true:=by
 obtain ⟨k,o,n,w,ks,l,os⟩:=e
 change k=2 at hk
 subst hk
 have hks:∃ d last,Zp last ks d=true:=by
  unfold Z4 at h
  split at h
  ·cases h
  ·split at h
   ·cases h
   ·rw [if_neg (by omega)] at h
    simp only [Q1] at h
    exact ⟨_,_,h.1.1.1.2⟩
 obtain ⟨d',last,hks⟩:=hks
 change ∀ k∈ks,_
 clear h
 induction ks generalizing last with
 | nil=> intro k hk;cases hk
 | cons a r ih=>
  simp only [Zp,Q1] at hks
  intro k hk
  rcases Qc.1 hk with rfl | hk
  ·obtain ⟨a,e⟩:=k
   simp only [YI,Q1] at hks
   exact ⟨_,hks.1.2⟩
  ·exact ih _ hks.2 k hk
theorem Zlg{e:Edit}{d:Int}(h:Z4 e d=true)(hk:e.kind=3):∀ o∈e.ops,∃ d,Zb e.list o d=true:=by
 obtain ⟨k,o,n,w,ks,l,os⟩:=e
 change k=3 at hk
 subst hk
 have hos:∃ d,Zs l os d=true:=by
  unfold Z4 at h
  split at h
  ·cases h
  ·split at h
   ·cases h
   ·rw [if_neg (by omega)] at h
    simp only [Q1] at h
    exact ⟨_,h.1.2⟩
 obtain ⟨d',hos⟩:=hos
 change ∀ o∈os,∃ d,Zb l o d=true
 clear h
 induction os with
 | nil=> intro k hk;cases hk
 | cons a r ih=>
  simp only [Zs,Q1] at hos
  intro k hk
  rcases Qc.1 hk with rfl | hk
  ·exact ⟨_,hos.1⟩
  ·exact ih hos.2 k hk
theorem b94:Zuz:=by
 intro N list l _ hp hN
 simp only [Z7J,ZdG] at hp hN
 obtain ⟨p1,p3⟩:=hp
 have hl:=Yo l
 refine ZuG _ _ _ _ ?_
 refine Za (ι:=Int × Wst) (fun s=> ZY list l s.1 s.2.out s.2.gone s.2.brought)
  (fun s=> 0<=s.1/\s.1<=l.length/\Yd list (l.drop s.1.toNat) s.2=Yd list l ⟨[],[],[]⟩/\s.2.out.length<=3*s.1/\s.2.gone.length+s.2.brought.length+ZE (l.drop s.1.toNat)<=ZE l/\∀ o∈s.2.out,0<=o.n/\o.n<=s.1*1048576)
  (fun s=> ((l.length:Int) - s.1).toNat) (0,⟨[],[],[]⟩) rfl ⟨by simp,by simp,by simp,by simp,by simp,by simp⟩ ?_
 rintro ⟨i,s⟩ ⟨g1,g2,g3,g4,g5,g6⟩
 dsimp only at g1 g2 g3 g4 g5 g6
 refine Zng _ _ _ _ _ _ _ _ _ ?_
 rintro y1 hy1 y2 hy2 y3 hy3 y4 hy4 y5 hy5
 have hy:y2=Edit.nil:=hy2
 subst hy
 have es:Wst.mk s.out s.gone s.brought=s:=rfl
 simp only [es] at hy3 ⊢
 (simp only [vcS])
 refine ⟨fun hi=> ?_,fun hi=> ?_⟩
 ·have hmem:=Zl (l:=l) (i:=i.toNat) (by omega) Op.nil
  have hm:=Yn hmem
  have hr:=p3 _ hmem
  rw [Yr g1 hi Op.nil] at g3 g5
  rw [<-hy1] at g3 g5 hm hr
  have hmo:=Jn y1
  simp only [Yd,Z1Z,ZE] at g3 g5
  rw [<-hy4,<-hy5] at g3
  obtain ⟨d,hr2⟩:=hr
  have hfl:=Z7m s
  have hP:∀ n:Int,0<=n/\n<=1048576->Z2F ((s.out,s.gone,s.brought,()),n,()):=by
   intro n hn
   simp only [Z2F]
   refine ⟨by omega,by omega,by omega,fun o ho=> ?_,by omega,by omega⟩
   have:=g6 o ho
   constructor
   ·omega
   ·have:i*1048576<=20000000000*1048576:=by omega
    omega
  have hK:∀ n:Int,0<=n/\n<=1048576->Yd list (l.drop (i+1).toNat) (ZK s n)=Yd list l ⟨[],[],[]⟩->
    (∃ j:Int × Wst,ZY list l (i+1) (ZK s n).out (ZK s n).gone (ZK s n).brought=ZY list l j.1 j.2.out j.2.gone j.2.brought/\(0<=j.1/\j.1<=l.length/\Yd list (l.drop j.1.toNat) j.2=Yd list l ⟨[],[],[]⟩/\j.2.out.length<=3*j.1/\j.2.gone.length+j.2.brought.length+ZE (l.drop j.1.toNat)<=ZE l/\∀ o∈j.2.out,0<=o.n/\o.n<=j.1*1048576)/\((l.length:Int) - j.1).toNat < ((l.length:Int) - i).toNat):=by
   intro n hn he
   have h1:=Zj5 s n
   have h2:=ZoL (s:=s) (n:=n) (B:=i*1048576) (K:=1048576) (by omega) hn g6
   refine ⟨(i+1,ZK s n),rfl,⟨by dsimp only;omega,by dsimp only;omega,he,by dsimp only;omega,by simp only [ZK,List.length_nil];omega,fun o ho=> ?_⟩,by dsimp only;omega⟩
   have:=h2 o ho
   dsimp only
   omega
  refine ⟨⟨g1,hi⟩,fun hk=> ?_,fun hk=> ⟨fun hk1=> ?_,fun hk1=> ⟨fun hk2=> ?_,fun hk2=> ⟨fun hk3=> ?_,fun hk3=> ?_⟩⟩⟩⟩
  ·rw [if_pos hk] at g3
   have h1:=ZbR hr2 hk
   exact ⟨hP _ (by omega),by unfold InR;omega,hK _ (by omega) g3⟩
  ·rw [if_neg hk,if_pos hk1] at g3
   refine ⟨by simp only [Z73];omega,by unfold InR;omega,(i+1,⟨s.out,s.gone++Z5 y1.l,s.brought⟩),rfl,⟨by dsimp only;omega,by dsimp only;omega,g3,by dsimp only;omega,?_,fun o ho=> ?_⟩,by dsimp only;omega⟩
   ·have:=Zw y1.l
    simp only [Qf,Z5,X4];omega
   ·have:=g6 o ho
    dsimp only;omega
  ·rw [if_neg hk,if_neg hk1,if_pos hk2] at g3
   refine ⟨by simp only [Z73];omega,by unfold InR;omega,(i+1,⟨s.out,s.gone,s.brought++Z5 y1.l⟩),rfl,⟨by dsimp only;omega,by dsimp only;omega,g3,by dsimp only;omega,?_,fun o ho=> ?_⟩,by dsimp only;omega⟩
   ·have:=Zw y1.l
    simp only [Qf,Z5,X4];omega
   ·have:=g6 o ho
    dsimp only;omega
  ·rw [if_neg hk,if_neg hk1,if_neg hk2,if_pos hk3] at g3
   have hre:=ZbS hr2 hk3
   rw [<-hy4] at hre
   have hw:=Zfb y4
   rw [<-hy5] at hw
   have h1:=ZZ y4
   have h2:=Yg y4.kids
   have hmE:ZD y4<=Yp y1:=by rw [hmo,hy4];omega
   refine ⟨by simp only [Z1a];exact ⟨by omega,d,hre⟩,by simp only [Z3x];omega,by simp only [Z45];omega,fun hq=> ?_,fun hq=> ?_⟩
   ·rw [if_pos hq] at g3
    exact ⟨hP 1 (by omega),by unfold InR;omega,hK 1 (by omega) g3⟩
   ·rw [if_neg (by rw [hq];simp)] at g3
    rw [hy3,Z13]
    refine ⟨by simp only [Z0u];omega,by simp only [Qw,Qx];omega,by simp only [Qf,Qw,Qx];omega,by omega,by unfold InR;omega,(i+1,⟨(Z2 s).out++[⟨3,0,[],y5⟩],[],[]⟩),rfl,⟨by dsimp only;omega,by dsimp only;omega,g3,by simp;omega,by simp;omega,fun o ho=> ?_⟩,by dsimp only;omega⟩
    dsimp only at ho ⊢
    rcases Q9.1 ho with ho | ho
    ·rcases Z7l s o ho with h5 | h5
     ·have:=g6 o h5;omega
     ·omega
    ·simp only [Q7] at ho
     subst ho
     simp only;omega
  ·rw [if_neg hk,if_neg hk1,if_neg hk2,if_neg hk3] at g3
   refine ⟨by unfold InR;omega,(i+1,s),rfl,⟨by dsimp only;omega,by dsimp only;omega,g3,by dsimp only;omega,by dsimp only;omega,fun o ho=> ?_⟩,by dsimp only;omega⟩
   have:=g6 o ho
   dsimp only;omega
 ·rw [Qb (by omega)] at g3
  simp only [Yd] at g3
  refine ⟨by simp only [Z0u];omega,?_⟩
  simp only [Zdh]
  rw [<-g3]
  (repeat' (first | exact trivial | exact rfl | apply And.intro))
theorem b57:ZuD:=by
 intro N e _ hp hN
 simp only [Z1a,Z3x] at hp hN
 obtain ⟨p1,d,p3⟩:=hp
 have h1:=ZZ e
 have h2:=Yg e.kids
 have h3:=Yo e.ops
 have ha:=Z5P e
 refine Zv3 _ _ _ ?_
 (simp only [vcS])
 (simp only [Tree.eta,Edit.eta,Tree.kind_mk,Tree.words_mk,Tree.kids_mk])
 refine ⟨fun hk=> ⟨by simp only [Z9w];omega,by simp only [Z9w];omega,?_⟩,fun hk=> ⟨fun hk2=> ⟨by simp;omega,?_⟩,fun hk2=> ⟨fun hk3=> ⟨?_,by simp only [ZdG];omega,?_⟩,fun hk3=> ?_⟩⟩⟩
 ·rw [if_pos hk] at ha
  simp only [Z7I,ha]
  (repeat' (first | exact trivial | exact rfl | apply And.intro))
 ·rw [if_neg hk,if_pos hk2] at ha
  refine Za (ι:=Int × List Kid) (fun s=> Z27 e s.1 s.2) (fun s=> 0<=s.1/\s.1<=e.kids.length/\s.2.length=s.1/\s.2++Jh (e.kids.drop s.1.toNat)=Jh e.kids) (fun s=> ((e.kids.length:Int) - s.1).toNat) (0,[]) rfl ⟨by simp,by simp,by simp,by simp⟩ ?_
  rintro ⟨j,ks⟩ ⟨f1,f2,f3,f4⟩
  dsimp only at f1 f2 f3 f4
  refine ZnB _ _ _ _ _ _ ?_
  rintro y1 hy1 y2 hy2 y3 hy3
  (simp only [vcS])
  refine ⟨fun hj=> ?_,fun hj=> ?_⟩
  ·have hmem:=Zl (l:=e.kids) (i:=j.toNat) (by omega) (KidOf.mk 0 Edit.nil)
   have hm:=J3 hmem
   have hr:=Zj2 p3 hk2 _ hmem
   rw [Yr f1 hj (KidOf.mk 0 Edit.nil)] at f4
   rw [<-hy1] at f4 hm hr
   simp only [Jh,Zb2] at f4
   rw [<-hy2] at f4 hm hr
   rw [<-hy3] at f4
   refine ⟨⟨f1,hj⟩,by simp only [Z1a];exact ⟨by omega,hr⟩,by simp only [Z3x];omega,by simp;omega,by unfold InR;omega,(j+1,ks++[⟨y1.at_,y3⟩]),rfl,⟨by dsimp only;omega,by dsimp only;omega,by simp;omega,?_⟩,by dsimp only;omega⟩
   simp only [Qj,Qt,X3]
   exact f4
  ·rw [Qb (by omega)] at f4
   simp only [Jh,QH] at f4
   rw [f4]
   simp only [Z7I,ha]
   (repeat' (first | exact trivial | exact rfl | apply And.intro))
 ·simp only [Z7J]
  exact ⟨by omega,fun o ho=> Zlg p3 hk3 o ho⟩
 ·rw [if_neg hk,if_neg hk2,if_pos hk3] at ha
  simp only [Z7I,ha]
  (repeat' (first | exact trivial | exact rfl | apply And.intro))
 ·rw [if_neg hk,if_neg hk2,if_neg hk3] at ha
  simp only [Z7I,ha]
  (repeat' (first | exact trivial | exact rfl | apply And.intro))
theorem Zmw:Contract Try.prog cfg 57 Z33/\Contract Try.prog cfg 94 Zkd:=ZiU c71 Zmz ZrZ Zjj Zmx b57 b94
noncomputable section
def Zkp(a:Edit × Unit):V U:= .agg (enc .edit (ZI (ZF a.1)))
def Z8V:Fs U:=fs ZhW (fun a=> [Z1a a]) Zkp
def Zm2:List (FuncId × Fs U):=[(57,Z33),(118,Z5y)]
def Zrj:Zc U:=lvl [([1,2],[1,2]),([2],[2])]
abbrev W83(e:Edit)(Q:QT):=AW (Z1 Zm2) Try.f83 Zrj [] (L2 [(0,.agg (enc .edit e))] []) Q
theorem ZuM(e:Edit)(Q:QT)(h:∀ y_1,y_1=e->∀ y_2,y_2=(ZF y_1)->(Z52 (y_1,()))/\(Z1a (y_2,()))/\(Q .ret (L2 [pL 2] [(.loc 2,(enc .edit (ZI y_2)))]))):
  W83 e Q:=by
 have e_:(W83 e Q)=(let y_1:=(Yw e);let y_2:=(Yw (ZF y_1));((Z52 (y_1,()))/\(Z1a (y_2,()))/\(Q .ret (L2 [pL 2] [(.loc 2,(enc .edit (ZI y_2)))])))):=by kernel_rfl
 exact e_.mpr (by intro y_1 y_2;have hh:=h y_1 (Zf _) y_2 (Zf _);exact ⟨hh.1,hh.2.1,hh.2.2⟩)
def Zsw(e:Edit):Prop:=AW (Z1 Zm2) Try.f83 Zrj [] (Zg (ZhW.can (e,())) []) (EQ Try.f83 (Zkp (e,())) [])
theorem ZqK(c57:CT 57 Z33)(c118:CT 118 Z5y)(hb:∀ (e:Edit) (_:Unit),Z1a (e,())->Zsw e):CT 83 Z8V:=
 Z7 (l:=[(57,Z33),(118,Z5y)]) Zj rfl (⟨c57,c118,trivial⟩) Zrj Try.func83 rfl rfl 1 (fun _=> rfl) (by decide) (fun ⟨e,_⟩=> hb e ())
end
mutual
theorem Z5b:∀ (e:Edit),ZD (ZF e)=ZD e
 | .mk k o n w ks l os=> by
  have h1:=Z7Z ks
  have h2:=Z7Y os
  simp only [ZF,ZD,X4,Z4M,h1,h2]
  omega
theorem Z7Z:∀ (ks:List (KidOf Edit)),Yy (ZS ks)=Yy ks
 | []=> rfl
 | k ::r=> by
  have h1:=Zcg k
  have h2:=Z7Z r
  simp only [ZS,Yy,h1,h2]
theorem Zcg:∀ (k:KidOf Edit),JQ (Ys k)=JQ k
 | ⟨a,e⟩=> by
  have h:=Z5b e
  simp only [Ys,JQ,h]
theorem Z7Y:∀ (os:List (OpOf Edit)),ZE (ZW os)=ZE os
 | []=> rfl
 | o ::r=> by
  have h1:=ZdM o
  have h2:=Z7Y r
  simp only [ZW,ZE,h1,h2]
theorem ZdM:∀ (o:OpOf Edit),Yp (ZX o)=Yp o
 | ⟨k,n,l,e⟩=> by
  have h:=Z5b e
  simp only [ZX]
  split
  ·try rfl
  ·split
   ·try rfl
   ·split
    ·simp only [Yp,h]
    ·try rfl
end
theorem c83:Contract Try.prog cfg 83 Z8V:=by
 refine ZqK Zmw.1 Zmy.1 ?_
 intro e _ hp
 simp only [Z1a] at hp
 obtain ⟨hm,d,hr⟩:=hp
 refine ZuM _ _ ?_
 rintro y1 hy1 y2 hy2
 subst hy1
 have h1:=Z5b y1
 have h2:=YY _ _ hr
 rw [<-hy2] at h1 h2
 refine ⟨by simp only [Z52];omega,by simp only [Z1a];exact ⟨by omega,d,h2⟩,?_⟩
 simp only [Zkp]
 rw [<-hy2]
 (repeat' (first | exact trivial | exact rfl | apply And.intro))
theorem Z44{e:Edit}(h:Z4t e):ZD e<=9000000000:=Xa (Zcf e) h.1
theorem ZnO{e:Edit}(h:Z4t e):Z1a (e,())/\Z4t (ZI (ZF e)):=by
 have hm:=Z44 h
 obtain ⟨m,r,d,hr⟩:=h
 refine ⟨⟨by dsimp only;omega,d,hr⟩,?_,?_,d,Z15 _ _ (YY _ _ hr)⟩
 ·have:=Zcy (ZF e)
  rw [Zcx] at this
  omega
 ·exact Z3Y _ d (YY _ _ hr) (Z6W e r)
end Go.AM.Ytpjenobkibfpcaa
namespace Go.AM
def Z2W(list:Int):List Tree->Int->Int
 | [],_=> -1
 | t ::r,i=> if Z9 (Tree.mk list [] [t]) 64=true then Z2W list r (i+1) else i
theorem Zbs(list:Int):∀ (l:List Tree) (i:Int),0<=i->(0<=Z2W list l i↔YC list l=false)
 | [],i,_=> by simp [Z2W,YC]
 | t ::r,i,hi=> by
  have ih:=Zbs list r (i+1) (by omega)
  rw [Z2W,YC]
  by_cases h:Z9 (Tree.mk list [] [t]) 64=true
  ·rw [if_pos h,h,QM];exact ih
  ·rw [if_neg h]
   simp only [XB] at h
   rw [h,Bool.false_and]
   exact ⟨fun _=> rfl,fun _=> hi⟩
end Go.AM
namespace Go.AM.Ytpjenobkibfpcaa
open Go.AM Go.Proofs
noncomputable section
noncomputable section
def ZcK:ArgM (Tree × (Int × Unit) × Unit):=(.cons (aEl .tree) (.obj 0 (.cons (Z5j .i64) .nil) .nil))
def Z70(a:Tree × (Int × Unit) × Unit):Prop:=Zm a.1<=18000000000/\rng a.1/\InR a.2.1.1
def ZeX(a:Tree × (Int × Unit) × Unit):V U:= .c (.bool (!(Z9 (Tree.mk a.2.1.1 [] [a.1]) 64)))
def ZbU(a:Tree × (Int × Unit) × Unit):List (List (C U)):=[[ci a.2.1.1]]
def Z5t:Fs U:=fsX ZcK (fun a=> [Z70 a]) ZeX ZbU
def ZcJ:ArgM (List Tree × (Int × Unit) × Unit):=(.cons (aSl .tree) (.clo 185 0 (.cons (Z5j .i64) .nil) .nil))
def Z9y(a:List Tree × (Int × Unit) × Unit):Prop:=Ze a.1<=18000000000/\ZQ a.1/\InR a.2.1.1
def ZbY(a:List Tree × (Int × Unit) × Unit):V U:= .c (ci (Z2W a.2.1.1 a.1 0))
def Z8t(a:List Tree × (Int × Unit) × Unit):List (List (C U)):=[[ci a.2.1.1]]
def Z5q:Fs U:=fsX ZcJ (fun a=> [Z9y a]) ZbY Z8t
def ZeY(a:List Tree × (Int × Unit) × Unit):V U:= .c (.bool (!(YC a.2.1.1 a.1)))
def Z2t:Fs U:=fsX ZcJ (fun a=> [Z9y a]) ZeY Z8t
def Zhd:List (FuncId × Fs U):=[(186,Z5s)]
def Zly:Zc U:=fun i=> match i with
 | 0=> ([(1,[]),(2,[])],[(.loc 2,[]),(.x 0,[])])
 | 1=> ([(3,[])],[(.x 0,[])])
 | _=> ([],[])
abbrev Zuf(t:Tree)(list:Int)(Q:QT):=AW (Z1 Zhd) Try.f185 Zly [] (L2 [(0,.agg (enc .tree t)),(1,.ptr (.x 0) 0)] [(.x 0,[ci list])]) Q
theorem Ztg(t:Tree)(list:Int)(Q:QT)(h:(Z9z (list,(Tree.mk t.kind t.words t.kids),()))/\(Q .ret (L2 [(3,.c (.bool (!(Z9 (Tree.mk list [] [(Tree.mk t.kind t.words t.kids)]) 64))))] [(.x 0,[ci list])]))):
  Zuf t list Q:=by
 have e_:(Zuf t list Q)=(type_of% h):=by kernel_rfl
 exact e_.mpr ⟨h.1,h.2⟩
def Zp6(t:Tree)(list:Int):Prop:=AW (Z1 Zhd) Try.f185 Zly [] (Zg (ZcK.can (t,(list,()),())) (ZcK.canX (t,(list,()),()))) (EQ Try.f185 (ZeX (t,(list,()),())) (ZbU (t,(list,()),())))
theorem Zo4(ZrP:CT 186 Z5s)(hb:∀ (t:Tree) (list:Int) (_:Unit),Z70 (t,(list,()),())->Zp6 t list):CT 185 Z5t:=
 ZM (l:=[(186,Z5s)]) Zj rfl (⟨ZrP,trivial⟩) Zly Try.func185 rfl rfl 2 (fun _=> rfl) (by decide) (fun ⟨t,⟨list,_⟩,_⟩=> hb t list ())
def Z07:List (FuncId × Fs U):=[(185,Z5t)]
def Z5Y:Zc U:=fun i=> match i with
 | 0=> ([(0,[]),(1,[])],[(.x 0,[])])
 | 1=> ([(0,[]),(1,[]),(7,[]),(8,[])],[(.x 0,[])])
 | 2=> ([(0,[]),(1,[]),(7,[]),(8,[]),(9,[])],[(.x 0,[])])
 | 3=> ([(0,[]),(1,[]),(5,[]),(7,[]),(8,[])],[(.x 0,[])])
 | 4=> ([(0,[]),(1,[]),(5,[]),(7,[]),(8,[]),(16,[])],[(.x 0,[])])
 | 5=> ([(4,[])],[(.x 0,[])])
 | 6=> ([(0,[]),(1,[]),(7,[]),(8,[])],[(.x 0,[])])
 | 7=> ([(4,[])],[(.x 0,[])])
 | _=> ([],[])
def Z0O(l:List Tree)(list x8:Int):LSt U:=(L2 [(0,.c (sU .tree l .unk)),(1,.clo 185 [(.x 0)]),pI 7 (l.length:Int),pI 8 x8] [(.x 0,[ci list])])
abbrev Zuc(l:List Tree)(list:Int)(Q:QT):=AW (Z1 Z07) Try.f195 Z5Y [] (L2 [(0,.c (sU .tree l .unk)),(1,.clo 185 [(.x 0)])] [(.x 0,[ci list])]) Q
abbrev Zg8:=awp cfg (Z1 Z07) (ZC cfg (Z1 Z07)) Try.f195.ntmps Z5Y
abbrev ZeF:=Z9h cfg (Z1 Z07) (ZC cfg (Z1 Z07)) Try.f195.ntmps Z5Y
theorem Ztc(l:List Tree)(list:Int)(Q:QT)(h:Zh (AW (Z1 Z07) Try.f195 Z5Y [1,0,1,0,0]) (Z0O l list 0) (xB 0 (SW (Z1 Z07) Try.f195 Z5Y [1,1] Q))):
  Zuc l list Q:=by
 have e_:(Zuc l list Q)=(Zh (Zg8 (cd Try.f195 [1,0,1,0,0])) (Z0O l list 0) (xB 0 (ZeF (cd Try.f195 [1,1]) Q))):=by kernel_rfl
 exact e_.mpr h
abbrev Zi2(l:List Tree)(list x8:Int)(N0:NT)(Q:QT):=AW (Z1 Z07) Try.f195 Z5Y [1,0,1,0,0] (Z0O l list x8) (xT N0 (xB 0 (SW (Z1 Z07) Try.f195 Z5Y [1,1] Q)))
theorem ZjG(l:List Tree)(list x8:Int)(N0:NT)(Q:QT)(h:((decide (x8 < (l.length:Int)))=true->((0:Int)<=x8/\x8 < (l.length:Int))/\(Z70 ((Tree.mk (Tree.kind (l.getD x8.toNat Tree.nil)) (Tree.words (l.getD x8.toNat Tree.nil)) (Tree.kids (l.getD x8.toNat Tree.nil))),(list,()),()))/\(((!(Z9 (Tree.mk list [] [(Tree.mk (Tree.kind (l.getD x8.toNat Tree.nil)) (Tree.words (l.getD x8.toNat Tree.nil)) (Tree.kids (l.getD x8.toNat Tree.nil)))]) 64))=true->Q .ret (L2 [pI 4 x8] [(.x 0,[ci list])]))/\((!(Z9 (Tree.mk list [] [(Tree.mk (Tree.kind (l.getD x8.toNat Tree.nil)) (Tree.words (l.getD x8.toNat Tree.nil)) (Tree.kids (l.getD x8.toNat Tree.nil)))]) 64))=false->(InR (x8+1))/\(N0 (Z0O l list (x8+1))))))/\((decide (x8 < (l.length:Int)))=false->Q .ret (L2 [pI 4 (-1)] [(.x 0,[ci list])]))):
  Zi2 l list x8 N0 Q:=by
 have e_:(Zi2 l list x8 N0 Q)=(let zz0:=(!(Z9 (Tree.mk list [] [(Tree.mk (Tree.kind (l.getD x8.toNat Tree.nil)) (Tree.words (l.getD x8.toNat Tree.nil)) (Tree.kids (l.getD x8.toNat Tree.nil)))]) 64));(((decide ((x8:Int) < (l.length:Int)))=true->(((0:Int)<=x8/\x8 < (l.length:Int))/\(Z70 ((Tree.mk (Tree.kind (l.getD x8.toNat Tree.nil)) (Tree.words (l.getD x8.toNat Tree.nil)) (Tree.kids (l.getD x8.toNat Tree.nil))),(list,()),()))/\((zz0=true->(Q .ret (L2 [pI 4 x8] [(.x 0,[ci list])])))/\(zz0=false->(InR ((x8:Int)+1))/\(N0 (Z0O l list ((x8:Int)+1)))))))/\((decide ((x8:Int) < (l.length:Int)))=false->(Q .ret (L2 [pI 4 (-1)] [(.x 0,[ci list])]))))):=by kernel_rfl
 exact e_.mpr ⟨fun c_1=> ⟨(h.1 c_1).1,(h.1 c_1).2.1,⟨fun c_2=> ((h.1 c_1).2.2.1 c_2),fun c_2=> ⟨((h.1 c_1).2.2.2 c_2).1,((h.1 c_1).2.2.2 c_2).2⟩⟩⟩,fun c_1=> (h.2 c_1)⟩
def Zp2(l:List Tree)(list:Int):Prop:=AW (Z1 Z07) Try.f195 Z5Y [] (Zg (ZcJ.can (l,(list,()),())) (ZcJ.canX (l,(list,()),()))) (EQ Try.f195 (ZbY (l,(list,()),())) (Z8t (l,(list,()),())))
theorem Zo0(ZrQ:CT 185 Z5t)(hb:∀ (l:List Tree) (list:Int) (_:Unit),Z9y (l,(list,()),())->Zp2 l list):CT 195 Z5q:=
 ZM (l:=[(185,Z5t)]) Zj rfl (⟨ZrQ,trivial⟩) Z5Y Try.func195 rfl rfl 2 (fun _=> rfl) (by decide) (fun ⟨l,⟨list,_⟩,_⟩=> hb l list ())
def Zhe:List (FuncId × Fs U):=[(195,Z5q)]
def Zlz:Zc U:=fun i=> match i with
 | 0=> ([(0,[]),(1,[])],[(.x 0,[])])
 | 1=> ([(4,[])],[(.x 0,[])])
 | _=> ([],[])
abbrev Zug(l:List Tree)(list:Int)(Q:QT):=AW (Z1 Zhe) Try.f184 Zlz [] (L2 [(0,.c (sU .tree l .unk)),(1,.clo 185 [(.x 0)])] [(.x 0,[ci list])]) Q
theorem Zth(l:List Tree)(list:Int)(Q:QT)(h:(Z9y (l,(list,()),()))/\(Q .ret (L2 [pB 4 (decide ((0:Int)<=(Z2W list l 0)))] [(.x 0,[ci list])]))):
  Zug l list Q:=by
 have e_:(Zug l list Q)=(type_of% h):=by kernel_rfl
 exact e_.mpr ⟨h.1,h.2⟩
def Zp7(l:List Tree)(list:Int):Prop:=AW (Z1 Zhe) Try.f184 Zlz [] (Zg (ZcJ.can (l,(list,()),())) (ZcJ.canX (l,(list,()),()))) (EQ Try.f184 (ZeY (l,(list,()),())) (Z8t (l,(list,()),())))
theorem Zo5(ZrM:CT 195 Z5q)(hb:∀ (l:List Tree) (list:Int) (_:Unit),Z9y (l,(list,()),())->Zp7 l list):CT 184 Z2t:=
 ZM (l:=[(195,Z5q)]) Zj rfl (⟨ZrM,trivial⟩) Zlz Try.func184 rfl rfl 2 (fun _=> rfl) (by decide) (fun ⟨l,⟨list,_⟩,_⟩=> hb l list ())
end
end
theorem ZrQ:Contract Try.prog cfg 185 Z5t:=by
 refine Zo4 ZrP ?_
 intro t list _ hp
 simp only [Z70] at hp
 refine Ztg _ _ _ ?_
 (simp only [Tree.eta,Edit.eta,Tree.kind_mk,Tree.words_mk,Tree.kids_mk])
 refine ⟨by simp only [Z9z];exact hp,?_⟩
 simp only [ZeX,ZbU]
 (repeat' (first | exact trivial | exact rfl | apply And.intro))
theorem Zai{list:Int}{l:List Tree}:∀ (i:Nat),(∀ t∈l.take i,Z9 (Tree.mk list [] [t]) 64=true)->i<=l.length->Z2W list l 0=Z2W list (l.drop i) i
 | 0,_,_=> by simp
 | i+1,h,hi=> by
  have ih:=Zai i (fun t ht=> h t (by rw [Xj];exact Q9.2 (Or.inl ht))) (by omega)
  rw [ih]
  have e:l.drop i=l.getD i Tree.nil ::l.drop (i+1):=by
   have:=Yr (l:=l) (i:=(i:Int)) (by omega) (by omega) Tree.nil
   simpa using this
  have hm:l.getD i Tree.nil∈l.take (i+1):=by
   rw [List.mem_take_iff_getElem]
   exact ⟨i,by omega,by simp [List.getD,Q0 (show i < l.length by omega)]⟩
  rw [e,Z2W,if_pos (h _ hm)]
  simp
theorem ZrM:Contract Try.prog cfg 195 Z5q:=by
 refine Zo0 ZrQ ?_
 intro l list _ hp
 simp only [Z9y] at hp
 refine Ztc _ _ _ ?_
 refine Za (ι:=Int) (fun s=> Z0O l list s) (fun s=> 0<=s/\s<=l.length/\∀ t∈l.take s.toNat,Z9 (Tree.mk list [] [t]) 64=true) (fun s=> ((l.length:Int) - s).toNat) 0 rfl ⟨by simp,by simp,by simp⟩ ?_
 rintro i ⟨g1,g2,g3⟩
 have hb:=Zai (list:=list) (l:=l) i.toNat g3 (by omega)
 have hl:=Zw l
 refine ZjG _ _ _ _ _ ?_
 (simp only [vcS])
 (simp only [Tree.eta,Edit.eta,Tree.kind_mk,Tree.words_mk,Tree.kids_mk])
 refine ⟨fun hi=> ⟨⟨g1,hi⟩,?_,fun hc=> ?_,fun hc=> ?_⟩,fun hi=> ?_⟩
 ·have hm:=Zl (l:=l) (i:=i.toNat) (by omega) Tree.nil
  simp only [Z70]
  have h1:=JE hm
  exact ⟨by omega,JL hp.2.1 hm,hp.2.2⟩
 ·rw [Yr g1 hi Tree.nil,Z2W,if_neg (by rw [hc];decide)] at hb
  simp only [ZbY,Z8t]
  rw [hb,show ((i.toNat:Nat):Int)=i by omega]
  (repeat' (first | exact trivial | exact rfl | apply And.intro))
 ·refine ⟨by unfold InR;omega,i+1,rfl,⟨by omega,by omega,fun t ht=> ?_⟩,by omega⟩
  rw [show (i+1).toNat=i.toNat+1 by omega,Xj] at ht
  rcases Q9.1 ht with ht | ht
  ·exact g3 t ht
  ·have e:l[i.toNat]?=some (l.getD i.toNat Tree.nil):=by
    simp [List.getD,Q0 (show i.toNat < l.length by omega)]
   rw [e] at ht
   simp only [Option.toList_some,Q7] at ht
   subst ht
   exact hc
 ·rw [Qb (by omega)] at hb
  simp only [ZbY,Z8t]
  rw [hb,Z2W]
  (repeat' (first | exact trivial | exact rfl | apply And.intro))
theorem ZrR:Contract Try.prog cfg 184 Z2t:=by
 refine Zo5 ZrM ?_
 intro l list _ hp
 simp only [Z9y] at hp
 refine Zth _ _ _ ?_
 have hb:=Zbs list l 0 (by decide)
 refine ⟨by simp only [Z9y];exact hp,?_⟩
 have e:decide (0<=Z2W list l 0)= !(YC list l):=by
  rw [Qd,decide_eq_true_eq,hb]
  cases YC list l <;> simp
 simp only [ZeY,Z8t]
 rw [e]
 (repeat' (first | exact trivial | exact rfl | apply And.intro))
noncomputable section
def ZkM(a:Edit × Unit):V U:= .c (.bool (Z0q a.1))
def Z2x:Fs U:=fs ZhW (fun a=> [Z52 a]) ZkM
abbrev Zui(t:Tree)(Q:QT):=AW (Z1 Zfw) Try.f167 ZrB [] (L2 [(0,.agg (enc .tree t))] []) Q
theorem Ztk(t:Tree)(Q:QT)(h:((t.kind==0)=true->InR (((t.words.length:Int):Int)+(t.kids.length:Int)))/\(Q .ret (L2 [(2,.c (.bool (bif (t.kind==0) then (((((t.words.length:Int):Int)+(t.kids.length:Int)):Int)==0) else false)))] []))):
  Zui t Q:=by
 have e_:(Zui t Q)=((Tr ((t.kind==0)=true))/\(Tr ((t.kind==0)=true))/\(Tr ((t.kind==0)=true))/\(Tr ((t.kind==0)=true))/\(Tr ((t.kind==0)=true))/\(Tr ((t.kind==0)=true))/\((t.kind==0)=true->InR ((t.words.length:Int)+(t.kids.length:Int)))/\(Tr ((t.kind==0)=true))/\(Tr ((t.kind==0)=true))/\(Q .ret (L2 [(2,.c (.bool (bif (t.kind==0) then ((((t.words.length:Int)+(t.kids.length:Int)):Int)==0) else false)))] []))):=by kernel_rfl
 exact e_.mpr ⟨id,id,id,id,id,id,h.1,id,(by generalize ((t.kind:Int)==0)=b0;revert b0;decide),h.2⟩
def Zpa(t:Tree):Prop:=AW (Z1 Zfw) Try.f167 ZrB [] (Zg (ZmX.can (t,())) []) (EQ Try.f167 (ZpK (t,())) [])
theorem Zo7(hb:∀ (t:Tree) (_:Unit),Z3n (t,())->Zpa t):CT 167 Z2q:=
 Z7 (l:=[]) Zj rfl trivial ZrB Try.func167 rfl rfl 1 (fun _=> rfl) (by decide) (fun ⟨t,_⟩=> hb t ())
def Zhp:List (FuncId × Fs U):=[(167,Z2q)]
def ZlK:Zc U:=lvl [([1],[1]),([1,3],[1]),([1,4],[1]),([2],[]),([1,21],[1]),([2],[]),([2],[])]
abbrev Zut(e:Edit)(Q:QT):=AW (Z1 Zhp) Try.f121 ZlK [] (L2 [(0,.agg (enc .edit e))] []) Q
theorem Ztz(e:Edit)(Q:QT)(h:∀ y_1,y_1=(e.new)->∀ y_2,y_2=(e.old)->((e.kind !=1)=true->Z3n (y_2,()))/\(((e.kind !=1) && (ZJ y_2))=true->Z3n (y_1,()))/\(((bif (e.kind !=1) then (!(bif (ZJ y_2) then (ZJ y_1) else false)) else false)=true->Q .ret (L2 [pB 2 false] []))/\((bif (e.kind !=1) then (!(bif (ZJ y_2) then (ZJ y_1) else false)) else false)=false->((e.kind !=2)=true->InR (((e.words.length:Int):Int)+(e.kids.length:Int)))/\(((bif (e.kind !=2) then (decide ((0:Int) < (((e.words.length:Int):Int)+(e.kids.length:Int)))) else false)=true->Q .ret (L2 [pB 2 false] []))/\((bif (e.kind !=2) then (decide ((0:Int) < (((e.words.length:Int):Int)+(e.kids.length:Int)))) else false)=false->Q .ret (L2 [(2,.c (.bool (bif (e.kind==3) then true else (bif (e.list==0) then (((e.ops.length:Int):Int)==0) else false))))] [])))))):
  Zut e Q:=by
 have e_:(Zut e Q)=(let y_1:=(Z3l e.new);let y_2:=(Z3l e.old);let zz2:=(bif (e.kind !=1) then (!(bif (ZJ y_2) then (ZJ y_1) else false)) else false);let zz1:=(bif (e.kind !=2) then (decide ((0:Int) < ((e.words.length:Int)+(e.kids.length:Int)))) else false);let zz0:=(!(e.kind==3));((Tr ((e.kind !=1)=true))/\(Tr ((e.kind !=1)=true))/\(Tr ((e.kind !=1)=true))/\((e.kind !=1)=true->Z3n (y_2,()))/\(Tr ((e.kind !=1)=true))/\(Tr (((e.kind !=1) && (ZJ y_2))=true))/\(Tr (((e.kind !=1) && (ZJ y_2))=true))/\(Tr (((e.kind !=1) && (ZJ y_2))=true))/\(((e.kind !=1) && (ZJ y_2))=true->Z3n (y_1,()))/\((e.kind !=1)=true->(True->(e.kind !=1)=true))/\((e.kind !=1)=true->((ZJ y_2)=true->((e.kind !=1) && (ZJ y_2))=true))/\(Tr ((e.kind !=1)=true))/\(Tr ((e.kind !=1)=true))/\((zz2=true->(Q .ret (L2 [pB 2 false] [])))/\(zz2=false->(Tr ((e.kind !=2)=true))/\(Tr ((e.kind !=2)=true))/\(Tr ((e.kind !=2)=true))/\(Tr ((e.kind !=2)=true))/\(Tr ((e.kind !=2)=true))/\(Tr ((e.kind !=2)=true))/\((e.kind !=2)=true->InR ((e.words.length:Int)+(e.kids.length:Int)))/\(Tr ((e.kind !=2)=true))/\(Tr ((e.kind !=2)=true))/\((zz1=true->(Q .ret (L2 [pB 2 false] [])))/\(zz1=false->(Tr (zz0=true))/\(Tr (zz0=true))/\(Tr (zz0=true))/\(Tr ((zz0 && (e.list==0))=true))/\(Tr ((zz0 && (e.list==0))=true))/\(Tr ((zz0 && (e.list==0))=true))/\(zz0=true->(True->zz0=true))/\(zz0=true->((e.list==0)=true->(zz0 && (e.list==0))=true))/\((e.kind==3)=false->zz0=true)/\(Q .ret (L2 [(2,.c (.bool (bif (e.kind==3) then true else (bif (e.list==0) then ((e.ops.length:Int)==0) else false))))] [])))))))):=by kernel_rfl
 exact e_.mpr (by intro y_1 y_2;have hh:=h y_1 (Z8 _) y_2 (Z8 _);exact ⟨id,id,id,hh.1,id,id,id,id,hh.2.1,(by generalize ((e.kind:Int) !=1)=b0;revert b0;decide),(by generalize (ZJ y_2)=b0;generalize ((e.kind:Int) !=1)=b1;revert b0 b1;decide),id,(by generalize ((e.kind:Int) !=1)=b0;revert b0;decide),⟨fun c_1=> (hh.2.2.1 c_1),fun c_1=> ⟨id,id,id,id,id,id,(hh.2.2.2 c_1).1,id,(by generalize ((e.kind:Int) !=2)=b0;revert b0;decide),⟨fun c_2=> ((hh.2.2.2 c_1).2.1 c_2),fun c_2=> ⟨id,id,id,id,id,id,(by generalize ((e.kind:Int)==3)=b0;revert b0;decide),(by generalize ((e.kind:Int)==3)=b0;generalize ((e.list:Int)==0)=b1;revert b0 b1;decide),(by generalize ((e.kind:Int)==3)=b0;revert b0;decide),((hh.2.2.2 c_1).2.2 c_2)⟩⟩⟩⟩⟩)
def Zpp(e:Edit):Prop:=AW (Z1 Zhp) Try.f121 ZlK [] (Zg (ZhW.can (e,())) []) (EQ Try.f121 (ZkM (e,())) [])
theorem Zoj(ZrT:CT 167 Z2q)(hb:∀ (e:Edit) (_:Unit),Z52 (e,())->Zpp e):CT 121 Z2x:=
 Z7 (l:=[(167,Z2q)]) Zj rfl (⟨ZrT,trivial⟩) ZlK Try.func121 rfl rfl 1 (fun _=> rfl) (by decide) (fun ⟨e,_⟩=> hb e ())
end
theorem ZrT:Contract Try.prog cfg 167 Z2q:=by
 refine Zo7 ?_
 intro t _ hp
 simp only [Z3n] at hp
 have:=ZdU t
 refine Ztk t _ ?_
 refine ⟨fun _=> by unfold InR;omega,Z0 rfl ?_⟩
 rw [Qd]
 simp only [ZJ]
 (simp only [vcS])
 omega
theorem Zs2:Contract Try.prog cfg 121 Z2x:=by
 refine Zoj ZrT ?_
 intro e _ hp
 simp only [Z52] at hp
 have h1:=ZZ e
 have h2:=Yg e.kids
 refine Ztz e _ ?_
 rintro y1 rfl y2 rfl
 (simp only [vcS])
 refine ⟨fun _=> by simp only [Z3n];omega,fun _=> by simp only [Z3n];omega,fun h=> ?_,fun h=> ⟨fun _=> by unfold InR;omega,fun h3=> ?_,fun h3=> ?_⟩⟩
 ·refine Z0 rfl ?_
  show false=Z0q e
  unfold Z0q
  rw [if_pos (Or.inl ⟨h.1,fun hn=> by have:=h.2;rw [hn.1,hn.2] at this;revert this;decide⟩)]
 ·refine Z0 rfl ?_
  show false=Z0q e
  unfold Z0q
  rw [if_pos (Or.inr (Or.inl ⟨h3.1,by omega⟩))]
 ·refine Z0 rfl ?_
  show _=Z0q e
  unfold Z0q
  have g1:¬(e.kind≠1/\¬(ZJ e.old=true/\ZJ e.new=true)):=by
   intro hc
   rcases h with h | h
   ·exact hc.1 (by simpa using h)
   ·exact hc.2 (by simpa using h)
  have g2:¬(e.kind≠2/\¬(e.words.length=0/\e.kids.length=0)):=by omega
  by_cases g3:e.kind≠3/\(e.list≠0\/e.ops.length≠0)
  ·rw [if_pos (Or.inr (Or.inr g3)),Qd]
   (simp only [vcS])
   constructor
   ·intro h;omega
   ·intro h;cases h
  ·rw [if_neg (by rintro (x | x | x) <;> contradiction),Qd]
   (simp only [vcS])
   constructor
   ·intro _;first | trivial | rfl
   ·intro _;omega
noncomputable section
noncomputable section
def YR(a:Edit × Int × Unit):Prop:=(ZD a.1<=18000000000/\Yk a.1)/\0<=a.2.1/\a.2.1<=1000
def Z1J(a:Edit × Int × Unit):Nat:=4*ZD a.1
def Z8T:Fs U:=fs ZcI (fun a=> [YR a]) ZgI
def Z2T:ArgL (List Kid × Int × Unit):=(.cons (aSl .kid) (.cons (Yq .i64) .nil))
def Z1d(a:List Kid × Int × Unit):Prop:=(Yy a.1<=18000000000/\JB a.1)/\0<=a.2.1/\a.2.1<=1000
def Z4D(a:List Kid × Int × Unit):Nat:=4*Yy a.1+2
def Z3k(a:List Kid × Int × Unit):V U:= .c (.bool (Zp (-1) a.1 a.2.1))
def Zgr:Fs U:=fs Z2T (fun a=> [Z1d a]) Z3k
def Z1c(a:Edit × Int × Unit):Prop:=(ZD a.1<=18000000000/\Yk a.1/\2<=Edit.list a.1/\Edit.list a.1<=9)/\0<=a.2.1/\a.2.1<=1000
def Z4C(a:Edit × Int × Unit):Nat:=4*ZE a.1.ops+2
def Z4Y(a:Edit × Int × Unit):V U:= .c (.bool (Zs a.1.list a.1.ops a.2.1 && decide (Jy a.1.ops 0 < 1048576/\Jx a.1.ops 0 < 1048576)))
def Zgq:Fs U:=fs ZcI (fun a=> [Z1c a]) Z4Y
def Z1b(a:Int × Op × Int × Unit):Prop:=(Yp a.2.1<=18000000000/\Jg a.2.1/\2<=a.1/\a.1<=9)/\0<=a.2.2.1/\a.2.2.1<=1000
def Z4B(a:Int × Op × Int × Unit):Nat:=4*Yp a.2.1+1
def Zgo:Fs U:=fs ZcG (fun a=> [Z1b a]) ZgG
def ZgQ(a:Edit × Unit):Prop:=ZD a.1<=18000000000/\Yk a.1
def ZpM(a:Edit × Unit):V U:= .c (.bool (Z4 a.1 64))
def Z93:Fs U:=fs ZhW (fun a=> [ZgQ a]) ZpM
def Z5e(N:Nat):List (FuncId × Fs U):=(89,fs ZcI (fun a=> [YR a,Z1J a < N]) ZgI) ::(124,fs Z2T (fun a=> [Z1d a,Z4D a < N]) Z3k) ::(125,fs ZcI (fun a=> [Z1c a,Z4C a < N]) Z4Y) ::(168,fs ZcG (fun a=> [Z1b a,Z4B a < N]) ZgG) ::[(121,Z2x),(122,Z2w),(123,Z2v),(92,Z1E),(184,Z2t),(187,Z2s),(164,Z2u)]
def Zri:Zc U:=lvl [([1,2],[2]),([1,2,11],[2]),([4],[]),([1,2,13],[2]),([1,2,13,14],[2]),([4],[]),([1,2,13,16],[2]),([4],[]),([1,2,13,26],[2]),([4],[]),([1,2,38],[2]),([4],[]),([4],[])]
abbrev W89(N:Nat)(e:Edit)(d:Int)(Q:QT):=AW (Z1 (Z5e N)) Try.f89 Zri [] (L2 [(0,.agg (enc .edit e)),pI 1 d] []) Q
theorem ZuK(N:Nat)(e:Edit)(d:Int)(Q:QT)(h:∀ y_1,y_1=e->∀ y_2,y_2=(e.new)->∀ y_3,y_3=(e.old)->(Z52 (y_1,()))/\(((bif (!(Z0q y_1)) then true else (d==0))=true->Q .ret (L2 [pB 4 false] []))/\((bif (!(Z0q y_1)) then true else (d==0))=false->((e.kind==0)=true->Q .ret (L2 [pB 4 true] []))/\((e.kind==0)=false->((e.kind==1)=true->(Z9u (y_3,()))/\((decide (Tree.kind y_3≠10) && Z9 y_3 64)=true->Z9u (y_2,()))/\(Q .ret (L2 [pB 4 (bif (decide (Tree.kind y_3≠10) && Z9 y_3 64) then (decide (Tree.kind y_2≠10) && Z9 y_2 64) else false)] [])))/\((e.kind==1)=false->((e.kind==2)=true->(Z74 (e.words,()))/\((Zk (-1) e.words)=true->InR (d - 1))/\((Zk (-1) e.words)=true->Z1d (e.kids,(d - 1),()))/\((Zk (-1) e.words)=true->Z4D (e.kids,(d - 1),()) < N)/\(Q .ret (L2 [pB 4 (bif (Zk (-1) e.words) then (Zp (-1) e.kids (d - 1)) else false)] [])))/\((e.kind==2)=false->((e.kind==3)=true->(Zf8 (e.list,()))/\((decide (2<=e.list/\e.list<=9))=true->InR (d - 1))/\((decide (2<=e.list/\e.list<=9))=true->Z1c (y_1,(d - 1),()))/\((decide (2<=e.list/\e.list<=9))=true->Z4C (y_1,(d - 1),()) < N)/\(Q .ret (L2 [pB 4 (bif (decide (2<=e.list/\e.list<=9)) then (Zs y_1.list y_1.ops (d - 1) && decide (Jy y_1.ops 0 < 1048576/\Jx y_1.ops 0 < 1048576)) else false)] [])))/\((e.kind==3)=false->Q .ret (L2 [pB 4 false] [])))))))):
  W89 N e d Q:=by
 have e_:(W89 N e d Q)=(let y_1:=(Yw e);let y_2:=(Z3l e.new);let y_3:=(Z3l e.old);let zz1:=(decide (Tree.kind y_3≠10) && Z9 y_3 64);let zz0:=(decide (2<=e.list/\e.list<=9));((Z52 (y_1,()))/\(Tr ((!(!(Z0q y_1)))=true))/\((!(Z0q y_1))=false->(!(!(Z0q y_1)))=true)/\(((bif (!(Z0q y_1)) then true else ((d:Int)==0))=true->(Q .ret (L2 [pB 4 false] [])))/\((bif (!(Z0q y_1)) then true else ((d:Int)==0))=false->(((e.kind==0)=true->(Q .ret (L2 [pB 4 true] [])))/\((e.kind==0)=false->(((e.kind==1)=true->(Z9u (y_3,()))/\(Tr (zz1=true))/\(Tr (zz1=true))/\(zz1=true->Z9u (y_2,()))/\(Tr (zz1=true))/\(Q .ret (L2 [pB 4 (bif zz1 then (decide (Tree.kind y_2≠10) && Z9 y_2 64) else false)] [])))/\((e.kind==1)=false->(((e.kind==2)=true->(Z74 (e.words,()))/\(Tr ((Zk (-1) e.words)=true))/\(Tr ((Zk (-1) e.words)=true))/\((Zk (-1) e.words)=true->InR ((d:Int) - 1))/\(Tr ((Zk (-1) e.words)=true))/\(Tr ((Zk (-1) e.words)=true))/\((Zk (-1) e.words)=true->Z1d (e.kids,((d:Int) - 1),()))/\((Zk (-1) e.words)=true->Z4D (e.kids,((d:Int) - 1),()) < N)/\(Tr ((Zk (-1) e.words)=true))/\(Q .ret (L2 [(4,.c (.bool (bif (Zk (-1) e.words) then (Zp (-1) e.kids ((d:Int) - 1)) else false)))] [])))/\((e.kind==2)=false->(((e.kind==3)=true->(Zf8 (e.list,()))/\(Tr (zz0=true))/\(zz0=true->InR ((d:Int) - 1))/\(Tr (zz0=true))/\(Tr (zz0=true))/\(zz0=true->Z1c (y_1,((d:Int) - 1),()))/\(zz0=true->Z4C (y_1,((d:Int) - 1),()) < N)/\(Tr (zz0=true))/\(Q .ret (L2 [(4,.c (.bool (bif zz0 then (Zs y_1.list y_1.ops ((d:Int) - 1) && decide (Jy y_1.ops 0 < 1048576/\Jx y_1.ops 0 < 1048576)) else false)))] [])))/\((e.kind==3)=false->(Q .ret (L2 [pB 4 false] [])))))))))))))):=by kernel_rfl
 exact e_.mpr (by intro y_1 y_2 y_3;have hh:=h y_1 (Zf _) y_2 (Z8 _) y_3 (Z8 _);exact ⟨hh.1,id,(by generalize (Z0q y_1)=b0;revert b0;decide),⟨fun c_1=> (hh.2.1 c_1),fun c_1=> ⟨fun c_2=> ((hh.2.2 c_1).1 c_2),fun c_2=> ⟨fun c_3=> ⟨(((hh.2.2 c_1).2 c_2).1 c_3).1,id,id,(((hh.2.2 c_1).2 c_2).1 c_3).2.1,(by generalize (decide (Tree.kind y_3≠10))=b0;generalize (Z9 y_3 64)=b1;revert b0 b1;decide),(((hh.2.2 c_1).2 c_2).1 c_3).2.2⟩,fun c_3=> ⟨fun c_4=> ⟨((((hh.2.2 c_1).2 c_2).2 c_3).1 c_4).1,id,id,((((hh.2.2 c_1).2 c_2).2 c_3).1 c_4).2.1,id,id,((((hh.2.2 c_1).2 c_2).2 c_3).1 c_4).2.2.1,((((hh.2.2 c_1).2 c_2).2 c_3).1 c_4).2.2.2.1,(by generalize (Zk (-1) e.words)=b0;revert b0;decide),((((hh.2.2 c_1).2 c_2).2 c_3).1 c_4).2.2.2.2⟩,fun c_4=> ⟨fun c_5=> ⟨(((((hh.2.2 c_1).2 c_2).2 c_3).2 c_4).1 c_5).1,id,(((((hh.2.2 c_1).2 c_2).2 c_3).2 c_4).1 c_5).2.1,id,id,(((((hh.2.2 c_1).2 c_2).2 c_3).2 c_4).1 c_5).2.2.1,(((((hh.2.2 c_1).2 c_2).2 c_3).2 c_4).1 c_5).2.2.2.1,(by generalize (decide (2<=e.list/\e.list<=9))=b0;revert b0;decide),(((((hh.2.2 c_1).2 c_2).2 c_3).2 c_4).1 c_5).2.2.2.2⟩,fun c_5=> (((((hh.2.2 c_1).2 c_2).2 c_3).2 c_4).2 c_5)⟩⟩⟩⟩⟩⟩)
def Zsu(N:Nat)(e:Edit)(d:Int):Prop:=AW (Z1 (Z5e N)) Try.f89 Zri [] (Zg (ZcI.can (e,d,())) []) (EQ Try.f89 (ZgI (e,d,())) [])
abbrev ZuA:Prop:=∀ (N:Nat) (e:Edit) (d:Int) (_:Unit),YR (e,d,())->Z1J (e,d,()) < N+1->Zsu N e d
def Z61:Zc U:=lvl [([0,1],[]),([0,1,7,8,9],[]),([0,1,7,8,9,10],[]),([0,1,5,6,7,8,9],[6]),([0,1,7,8,9,49],[]),([4],[]),([0,1,7,8,9],[]),([4],[])]
def Z0R(l:List Kid)(d x9:Int):LSt U:=(L2 [(0,.c (sU .kid l .unk)),pI 1 d,(7,.c (sU .kid l .unk)),pI 8 (l.length:Int),pI 9 x9] [])
abbrev Zuq(N:Nat)(l:List Kid)(d:Int)(Q:QT):=AW (Z1 (Z5e N)) Try.f124 Z61 [] (L2 [(0,.c (sU .kid l .unk)),pI 1 d] []) Q
abbrev Zgb(N:Nat):=awp cfg (Z1 (Z5e N)) (ZC cfg (Z1 (Z5e N))) Try.f124.ntmps Z61
abbrev ZeI(N:Nat):=Z9h cfg (Z1 (Z5e N)) (ZC cfg (Z1 (Z5e N))) Try.f124.ntmps Z61
theorem Ztw(N:Nat)(l:List Kid)(d:Int)(Q:QT)(h:Zh (AW (Z1 (Z5e N)) Try.f124 Z61 [1,0,1,0,0]) (Z0R l d 0) (xB 0 (SW (Z1 (Z5e N)) Try.f124 Z61 [1,1] Q))):
  Zuq N l d Q:=by
 have e_:(Zuq N l d Q)=(Zh (Zgb N (cd Try.f124 [1,0,1,0,0])) (Z0R l d 0) (xB 0 (ZeI N (cd Try.f124 [1,1]) Q))):=by kernel_rfl
 exact e_.mpr h
abbrev Zi7(N:Nat)(l:List Kid)(d x9:Int)(N0:NT)(Q:QT):=AW (Z1 (Z5e N)) Try.f124 Z61 [1,0,1,0,0] (Z0R l d x9) (xT N0 (xB 0 (SW (Z1 (Z5e N)) Try.f124 Z61 [1,1] Q)))
theorem ZjO(N:Nat)(l:List Kid)(d x9:Int)(N0:NT)(Q:QT)(h:∀ y_1,y_1=(l.getD x9.toNat (KidOf.mk 0 Edit.nil))->∀ y_2,y_2=(List.getD l (Int.toNat (x9 - 1)) (KidOf.mk 0 Edit.nil))->∀ y_3,y_3=(y_1.e)->((decide (x9 < (l.length:Int)))=true->((0:Int)<=x9/\x9 < (l.length:Int))/\((((!(bif (decide (y_1.at_ < 0)) then true else (decide ((65535:Int)<=y_1.at_)))) && (decide ((0:Int) < x9)))=true->InR (x9 - 1))/\(((!(bif (decide (y_1.at_ < 0)) then true else (decide ((65535:Int)<=y_1.at_)))) && (decide ((0:Int) < x9)))=true->(0:Int)<=(x9 - 1)/\(x9 - 1) < (l.length:Int))/\((!(bif (bif (bif (decide (y_1.at_ < 0)) then true else (decide ((65535:Int)<=y_1.at_))) then true else (bif (decide ((0:Int) < x9)) then (decide (y_1.at_<=y_2.at_)) else false)) then true else (y_1.e.kind==0)))=true->YR (y_3,d,()))/\((!(bif (bif (bif (decide (y_1.at_ < 0)) then true else (decide ((65535:Int)<=y_1.at_))) then true else (bif (decide ((0:Int) < x9)) then (decide (y_1.at_<=y_2.at_)) else false)) then true else (y_1.e.kind==0)))=true->Z1J (y_3,d,()) < N)/\(((bif (bif (bif (bif (decide (y_1.at_ < 0)) then true else (decide ((65535:Int)<=y_1.at_))) then true else (bif (decide ((0:Int) < x9)) then (decide (y_1.at_<=y_2.at_)) else false)) then true else (y_1.e.kind==0)) then true else (!(Z4 y_3 d)))=true->Q .ret (L2 [pB 4 false] []))/\((bif (bif (bif (bif (decide (y_1.at_ < 0)) then true else (decide ((65535:Int)<=y_1.at_))) then true else (bif (decide ((0:Int) < x9)) then (decide (y_1.at_<=y_2.at_)) else false)) then true else (y_1.e.kind==0)) then true else (!(Z4 y_3 d)))=false->(InR (x9+1))/\(N0 (Z0R l d (x9+1)))))))/\((decide (x9 < (l.length:Int)))=false->Q .ret (L2 [pB 4 true] []))):
  Zi7 N l d x9 N0 Q:=by
 have e_:(Zi7 N l d x9 N0 Q)=(let y_1:=(l.getD x9.toNat (KidOf.mk 0 Edit.nil));let y_2:=(List.getD l (Int.toNat ((x9:Int) - 1)) (KidOf.mk 0 Edit.nil));let y_3:=(Yw y_1.e);let zz4:=(decide (y_1.at_ < 0));let zz3:=(decide ((0:Int) < x9));let zz2:=((y_1.e.kind:Int)==0);let zz1:=(bif zz3 then (decide (y_1.at_<=y_2.at_)) else false);let zz0:=(bif zz4 then true else (decide ((65535:Int)<=y_1.at_)));(((decide ((x9:Int) < (l.length:Int)))=true->((0:Int)<=x9/\x9 < (l.length:Int))/\((Tr ((!zz4)=true))/\(Tr ((!zz4)=true))/\(zz4=false->(!zz4)=true)/\(Tr ((!zz0)=true))/\(Tr ((!zz0)=true))/\(Tr (((!zz0) && zz3)=true))/\(((!zz0) && zz3)=true->InR ((x9:Int) - 1))/\(Tr (((!zz0) && zz3)=true))/\(Tr (((!zz0) && zz3)=true))/\(((!zz0) && zz3)=true->(0:Int)<=((x9:Int) - 1)/\((x9:Int) - 1) < (l.length:Int))/\(Tr (((!zz0) && zz3)=true))/\(Tr (((!zz0) && zz3)=true))/\(Tr (((!zz0) && zz3)=true))/\(Tr (((!zz0) && zz3)=true))/\(Tr (((!zz0) && zz3)=true))/\((!zz0)=true->(True->(!zz0)=true))/\((!zz0)=true->(zz3=true->((!zz0) && zz3)=true))/\(zz0=false->(!zz0)=true)/\(Tr ((!(bif zz0 then true else zz1))=true))/\(Tr ((!(bif zz0 then true else zz1))=true))/\(Tr ((!(bif zz0 then true else zz1))=true))/\((bif zz0 then true else zz1)=false->(!(bif zz0 then true else zz1))=true)/\(Tr ((!(bif (bif zz0 then true else zz1) then true else zz2))=true))/\(Tr ((!(bif (bif zz0 then true else zz1) then true else zz2))=true))/\(Tr ((!(bif (bif zz0 then true else zz1) then true else zz2))=true))/\((!(bif (bif zz0 then true else zz1) then true else zz2))=true->YR (y_3,d,()))/\((!(bif (bif zz0 then true else zz1) then true else zz2))=true->Z1J (y_3,d,()) < N)/\(Tr ((!(bif (bif zz0 then true else zz1) then true else zz2))=true))/\((bif (bif zz0 then true else zz1) then true else zz2)=false->(!(bif (bif zz0 then true else zz1) then true else zz2))=true)/\(((bif (bif (bif zz0 then true else zz1) then true else zz2) then true else (!(Z4 y_3 d)))=true->(Q .ret (L2 [pB 4 false] [])))/\((bif (bif (bif zz0 then true else zz1) then true else zz2) then true else (!(Z4 y_3 d)))=false->(InR ((x9:Int)+1))/\(N0 (Z0R l d ((x9:Int)+1)))))))/\((decide ((x9:Int) < (l.length:Int)))=false->(Q .ret (L2 [pB 4 true] []))))):=by kernel_rfl
 exact e_.mpr (by intro y_1 y_2 y_3;have hh:=h y_1 rfl y_2 rfl y_3 (Zf _);exact ⟨fun c_6=> ⟨(hh.1 c_6).1,⟨id,id,(by generalize (decide ((y_1.at_:Int) < 0))=b0;revert b0;decide),id,id,id,(hh.1 c_6).2.1,id,id,(hh.1 c_6).2.2.1,id,id,id,id,id,(by generalize (decide ((65535:Int)<=y_1.at_))=b0;generalize (decide ((y_1.at_:Int) < 0))=b1;revert b0 b1;decide),(by generalize (decide ((65535:Int)<=y_1.at_))=b0;generalize (decide ((y_1.at_:Int) < 0))=b1;generalize (decide ((0:Int) < x9))=b2;revert b0 b1 b2;decide),(by generalize (decide ((65535:Int)<=y_1.at_))=b0;generalize (decide ((y_1.at_:Int) < 0))=b1;revert b0 b1;decide),id,id,id,(by generalize (decide ((y_1.at_:Int)<=y_2.at_))=b0;generalize (decide ((65535:Int)<=y_1.at_))=b1;generalize (decide ((y_1.at_:Int) < 0))=b2;generalize (decide ((0:Int) < x9))=b3;revert b0 b1 b2 b3;decide),id,id,id,(hh.1 c_6).2.2.2.1,(hh.1 c_6).2.2.2.2.1,id,(by generalize (decide ((y_1.at_:Int)<=y_2.at_))=b0;generalize (decide ((65535:Int)<=y_1.at_))=b1;generalize ((y_1.e.kind:Int)==0)=b2;generalize (decide ((y_1.at_:Int) < 0))=b3;generalize (decide ((0:Int) < x9))=b4;revert b0 b1 b2 b3 b4;decide),⟨fun c_7=> ((hh.1 c_6).2.2.2.2.2.1 c_7),fun c_7=> ⟨((hh.1 c_6).2.2.2.2.2.2 c_7).1,((hh.1 c_6).2.2.2.2.2.2 c_7).2⟩⟩⟩⟩,fun c_6=> (hh.2 c_6)⟩)
def Zpm(N:Nat)(l:List Kid)(d:Int):Prop:=AW (Z1 (Z5e N)) Try.f124 Z61 [] (Zg (Z2T.can (l,d,())) []) (EQ Try.f124 (Z3k (l,d,())) [])
abbrev Zqg:Prop:=∀ (N:Nat) (l:List Kid) (d:Int) (_:Unit),Z1d (l,d,())->Z4D (l,d,()) < N+1->Zpm N l d
def Z60:Zc U:=lvl [([1,2],[2]),([1,2,10,11,12],[2]),([1,2,10,11,12,13],[2]),([1,2,6,10,11,12],[2,6]),([1,2,10,11,12,21],[2]),([4],[]),([1,2,10,11,12],[2]),([7,8],[]),([4],[])]
def Z0Q(e:Edit)(d x12:Int):LSt U:=(L2 [pI 1 d,pL 2,(10,.c (sU .op e.ops .unk)),pI 11 (e.ops.length:Int),pI 12 x12] [(.loc 2,(enc .edit e))])
abbrev Zup(N:Nat)(e:Edit)(d:Int)(Q:QT):=AW (Z1 (Z5e N)) Try.f125 Z60 [] (L2 [(0,.agg (enc .edit e)),pI 1 d] []) Q
abbrev Zga(N:Nat):=awp cfg (Z1 (Z5e N)) (ZC cfg (Z1 (Z5e N))) Try.f125.ntmps Z60
abbrev ZeH(N:Nat):=Z9h cfg (Z1 (Z5e N)) (ZC cfg (Z1 (Z5e N))) Try.f125.ntmps Z60
theorem Ztv(N:Nat)(e:Edit)(d:Int)(Q:QT)(h:Zh (AW (Z1 (Z5e N)) Try.f125 Z60 [1,0,1,0,0]) (Z0Q e d 0) (xB 0 (SW (Z1 (Z5e N)) Try.f125 Z60 [1,1] Q))):
  Zup N e d Q:=by
 have e_:(Zup N e d Q)=(Zh (Zga N (cd Try.f125 [1,0,1,0,0])) (Z0Q e d 0) (xB 0 (ZeH N (cd Try.f125 [1,1]) Q))):=by kernel_rfl
 exact e_.mpr h
abbrev Zi6(N:Nat)(e:Edit)(d x12:Int)(N0:NT)(Q:QT):=AW (Z1 (Z5e N)) Try.f125 Z60 [1,0,1,0,0] (Z0Q e d x12) (xT N0 (xB 0 (SW (Z1 (Z5e N)) Try.f125 Z60 [1,1] Q)))
theorem ZjN(N:Nat)(e:Edit)(d x12:Int)(N0:NT)(Q:QT)(h:∀ y_1,y_1=e->∀ y_2,y_2=(e.ops.getD x12.toNat Op.nil)->∀ y_3,y_3=y_2->((decide (x12 < (e.ops.length:Int)))=true->((0:Int)<=x12/\x12 < (e.ops.length:Int))/\((Z1b (e.list,y_3,d,()))/\(Z4B (e.list,y_3,d,()) < N)/\(((!(Zb e.list y_3 d))=true->Q .ret (L2 [pB 4 false] []))/\((!(Zb e.list y_3 d))=false->(InR (x12+1))/\(N0 (Z0Q e d (x12+1)))))))/\((decide (x12 < (e.ops.length:Int)))=false->(Z52 (y_1,()))/\(Q .ret (L2 [(4,.c (.bool (bif (decide (((Z0l y_1.ops 0):Int) < 1048576)) then (decide (((Z0w y_1.ops 0):Int) < 1048576)) else false)))] [])))):
  Zi6 N e d x12 N0 Q:=by
 have e_:(Zi6 N e d x12 N0 Q)=(let y_1:=(Yw e);let y_2:=(e.ops.getD x12.toNat Op.nil);let y_3:=(Zf5 y_2);let zz0:=(decide (((Z0l y_1.ops 0):Int) < 1048576));(((decide ((x12:Int) < (e.ops.length:Int)))=true->((0:Int)<=x12/\x12 < (e.ops.length:Int))/\((Z1b (e.list,y_3,d,()))/\(Z4B (e.list,y_3,d,()) < N)/\(((!(Zb e.list y_3 d))=true->(Q .ret (L2 [pB 4 false] [])))/\((!(Zb e.list y_3 d))=false->(InR ((x12:Int)+1))/\(N0 (Z0Q e d ((x12:Int)+1)))))))/\((decide ((x12:Int) < (e.ops.length:Int)))=false->(Z52 (y_1,()))/\((Tr (zz0=true))/\(Tr (zz0=true))/\(Q .ret (L2 [(4,.c (.bool (bif zz0 then (decide (((Z0w y_1.ops 0):Int) < 1048576)) else false)))] [])))))):=by kernel_rfl
 exact e_.mpr (by intro y_1 y_2 y_3;have hh:=h y_1 (Zf _) y_2 rfl y_3 (Z43 _);exact ⟨fun c_8=> ⟨(hh.1 c_8).1,⟨(hh.1 c_8).2.1,(hh.1 c_8).2.2.1,⟨fun c_9=> ((hh.1 c_8).2.2.2.1 c_9),fun c_9=> ⟨((hh.1 c_8).2.2.2.2 c_9).1,((hh.1 c_8).2.2.2.2 c_9).2⟩⟩⟩⟩,fun c_8=> ⟨(hh.2 c_8).1,⟨id,(by generalize (decide (((Z0l y_1.ops 0):Int) < 1048576))=b0;revert b0;decide),(hh.2 c_8).2⟩⟩⟩)
def Zpl(N:Nat)(e:Edit)(d:Int):Prop:=AW (Z1 (Z5e N)) Try.f125 Z60 [] (Zg (ZcI.can (e,d,())) []) (EQ Try.f125 (Z4Y (e,d,())) [])
abbrev Zqf:Prop:=∀ (N:Nat) (e:Edit) (d:Int) (_:Unit),Z1c (e,d,())->Z4C (e,d,()) < N+1->Zpl N e d
def ZlB:Zc U:=lvl [([2,3,4],[3,4]),([2,3,4,8],[3,4]),([2,3,4,8,9],[3,4]),([2,3,4,8,11],[3,4]),([2,3,4,8,13],[3,4]),([2,3,4,15],[3,4]),([6],[]),([6],[]),([6],[]),([6],[])]
abbrev Zuh(N:Nat)(list:Int)(o:Op)(d:Int)(Q:QT):=AW (Z1 (Z5e N)) Try.f168 ZlB [] (L2 [pI 0 list,(1,.agg (enc .op o)),pI 2 d] []) Q
theorem Ztj(N:Nat)(list:Int)(o:Op)(d:Int)(Q:QT)(h:∀ y_1,y_1=(o.e)->∀ y_2,y_2=(.bool (bif (bif (bif (bif (o.n==0) then (decide ((0:Int) < (o.l.length:Int))) else false) then (Z4 y_1 1) else false) then (o.e.kind==0) else false) then (!(!(YC list o.l))) else false))->((o.kind==0)=true->((bif (bif (decide ((1:Int)<=o.n)) then (decide (o.n<=1048576)) else false) then (((o.l.length:Int):Int)==0) else false)=true->YR (y_1,1,()))/\((bif (bif (decide ((1:Int)<=o.n)) then (decide (o.n<=1048576)) else false) then (((o.l.length:Int):Int)==0) else false)=true->Z1J (y_1,1,()) < N)/\(Q .ret (L2 [(6,.c (.bool (bif (bif (bif (bif (decide ((1:Int)<=o.n)) then (decide (o.n<=1048576)) else false) then (((o.l.length:Int):Int)==0) else false) then (Z4 y_1 1) else false) then (o.e.kind==0) else false)))] [])))/\((o.kind==0)=false->((o.kind==1)=true->((bif (o.n==0) then (decide ((0:Int) < (o.l.length:Int))) else false)=true->YR (y_1,1,()))/\((bif (o.n==0) then (decide ((0:Int) < (o.l.length:Int))) else false)=true->Z1J (y_1,1,()) < N)/\((bif (bif (bif (o.n==0) then (decide ((0:Int) < (o.l.length:Int))) else false) then (Z4 y_1 1) else false) then (o.e.kind==0) else false)=true->Z9y (o.l,(list,()),()))/\(Q .ret (L2 [(6,.c y_2)] [])))/\((o.kind==1)=false->((o.kind==2)=true->((bif (o.n==0) then (decide ((0:Int) < (o.l.length:Int))) else false)=true->YR (y_1,1,()))/\((bif (o.n==0) then (decide ((0:Int) < (o.l.length:Int))) else false)=true->Z1J (y_1,1,()) < N)/\((bif (bif (bif (o.n==0) then (decide ((0:Int) < (o.l.length:Int))) else false) then (Z4 y_1 1) else false) then (o.e.kind==0) else false)=true->Z9y (o.l,(list,()),()))/\(Q .ret (L2 [(6,.c y_2)] [])))/\((o.kind==2)=false->((o.kind==3)=true->((bif (o.n==0) then (((o.l.length:Int):Int)==0) else false)=true->Zc4 (list,y_1,()))/\((bif (bif (o.n==0) then (((o.l.length:Int):Int)==0) else false) then (Y6 list y_1) else false)=true->YR (y_1,d,()))/\((bif (bif (o.n==0) then (((o.l.length:Int):Int)==0) else false) then (Y6 list y_1) else false)=true->Z1J (y_1,d,()) < N)/\(Q .ret (L2 [(6,.c (.bool (bif (bif (bif (o.n==0) then (((o.l.length:Int):Int)==0) else false) then (Y6 list y_1) else false) then (Z4 y_1 d) else false)))] [])))/\((o.kind==3)=false->Q .ret (L2 [pB 6 false] [])))))):
  Zuh N list o d Q:=by
 have e_:(Zuh N list o d Q)=(let y_1:=(Yw o.e);let y_2:=(.bool (bif (bif (bif (bif (o.n==0) then (decide ((0:Int) < (o.l.length:Int))) else false) then (Z4 y_1 1) else false) then ((o.e.kind:Int)==0) else false) then (!(!(YC list o.l))) else false));let zz5:=(decide ((1:Int)<=o.n));let zz4:=(bif zz5 then (decide (o.n<=1048576)) else false);let zz3:=((o.e.kind:Int)==0);let zz2:=(bif (o.n==0) then ((o.l.length:Int)==0) else false);let zz1:=(bif zz4 then ((o.l.length:Int)==0) else false);let zz0:=(bif (o.n==0) then (decide ((0:Int) < (o.l.length:Int))) else false);(((o.kind==0)=true->(Tr (zz5=true))/\(Tr (zz5=true))/\(Tr (zz5=true))/\(Tr (zz4=true))/\(Tr (zz4=true))/\(Tr (zz4=true))/\(Tr (zz4=true))/\(Tr (zz1=true))/\(Tr (zz1=true))/\(zz1=true->YR (y_1,1,()))/\(zz1=true->Z1J (y_1,1,()) < N)/\(Tr (zz1=true))/\(Tr ((bif zz1 then (Z4 y_1 1) else false)=true))/\(Tr ((bif zz1 then (Z4 y_1 1) else false)=true))/\(Tr ((bif zz1 then (Z4 y_1 1) else false)=true))/\(Tr ((bif zz1 then (Z4 y_1 1) else false)=true))/\(Q .ret (L2 [pB 6 (bif (bif zz1 then (Z4 y_1 1) else false) then zz3 else false)] [])))/\((o.kind==0)=false->(((o.kind==1)=true->(Tr ((o.n==0)=true))/\(Tr ((o.n==0)=true))/\(Tr ((o.n==0)=true))/\(Tr ((o.n==0)=true))/\(Tr (zz0=true))/\(Tr (zz0=true))/\(zz0=true->YR (y_1,1,()))/\(zz0=true->Z1J (y_1,1,()) < N)/\(Tr (zz0=true))/\(Tr ((bif zz0 then (Z4 y_1 1) else false)=true))/\(Tr ((bif zz0 then (Z4 y_1 1) else false)=true))/\(Tr ((bif zz0 then (Z4 y_1 1) else false)=true))/\(Tr ((bif zz0 then (Z4 y_1 1) else false)=true))/\(Tr ((bif (bif zz0 then (Z4 y_1 1) else false) then zz3 else false)=true))/\(Tr ((bif (bif zz0 then (Z4 y_1 1) else false) then zz3 else false)=true))/\(Tr ((bif (bif zz0 then (Z4 y_1 1) else false) then zz3 else false)=true))/\((bif (bif zz0 then (Z4 y_1 1) else false) then zz3 else false)=true->Z9y (o.l,(list,()),()))/\(Tr ((bif (bif zz0 then (Z4 y_1 1) else false) then zz3 else false)=true))/\(Tr ((bif (bif zz0 then (Z4 y_1 1) else false) then zz3 else false)=true))/\(Q .ret (L2 [(6,.c y_2)] [])))/\((o.kind==1)=false->(((o.kind==2)=true->(Tr ((o.n==0)=true))/\(Tr ((o.n==0)=true))/\(Tr ((o.n==0)=true))/\(Tr ((o.n==0)=true))/\(Tr (zz0=true))/\(Tr (zz0=true))/\(zz0=true->YR (y_1,1,()))/\(zz0=true->Z1J (y_1,1,()) < N)/\(Tr (zz0=true))/\(Tr ((bif zz0 then (Z4 y_1 1) else false)=true))/\(Tr ((bif zz0 then (Z4 y_1 1) else false)=true))/\(Tr ((bif zz0 then (Z4 y_1 1) else false)=true))/\(Tr ((bif zz0 then (Z4 y_1 1) else false)=true))/\(Tr ((bif (bif zz0 then (Z4 y_1 1) else false) then zz3 else false)=true))/\(Tr ((bif (bif zz0 then (Z4 y_1 1) else false) then zz3 else false)=true))/\(Tr ((bif (bif zz0 then (Z4 y_1 1) else false) then zz3 else false)=true))/\((bif (bif zz0 then (Z4 y_1 1) else false) then zz3 else false)=true->Z9y (o.l,(list,()),()))/\(Tr ((bif (bif zz0 then (Z4 y_1 1) else false) then zz3 else false)=true))/\(Tr ((bif (bif zz0 then (Z4 y_1 1) else false) then zz3 else false)=true))/\(Q .ret (L2 [(6,.c y_2)] [])))/\((o.kind==2)=false->(((o.kind==3)=true->(Tr ((o.n==0)=true))/\(Tr ((o.n==0)=true))/\(Tr ((o.n==0)=true))/\(Tr ((o.n==0)=true))/\(Tr (zz2=true))/\(Tr (zz2=true))/\(Tr (zz2=true))/\(zz2=true->Zc4 (list,y_1,()))/\(Tr (zz2=true))/\(Tr ((bif zz2 then (Y6 list y_1) else false)=true))/\(Tr ((bif zz2 then (Y6 list y_1) else false)=true))/\(Tr ((bif zz2 then (Y6 list y_1) else false)=true))/\((bif zz2 then (Y6 list y_1) else false)=true->YR (y_1,d,()))/\((bif zz2 then (Y6 list y_1) else false)=true->Z1J (y_1,d,()) < N)/\(Tr ((bif zz2 then (Y6 list y_1) else false)=true))/\(Q .ret (L2 [pB 6 (bif (bif zz2 then (Y6 list y_1) else false) then (Z4 y_1 d) else false)] [])))/\((o.kind==3)=false->(Q .ret (L2 [pB 6 false] []))))))))))):=by kernel_rfl
 exact e_.mpr (by intro y_1 y_2;have hh:=h y_1 (Zf _) y_2 rfl;exact ⟨fun c_10=> ⟨id,id,(by generalize (decide ((1:Int)<=o.n))=b0;revert b0;decide),id,id,id,(by generalize (decide ((o.n:Int)<=1048576))=b0;generalize (decide ((1:Int)<=o.n))=b1;revert b0 b1;decide),id,id,(hh.1 c_10).1,(hh.1 c_10).2.1,(by generalize (((o.l.length:Int):Int)==0)=b0;generalize (decide ((o.n:Int)<=1048576))=b1;generalize (decide ((1:Int)<=o.n))=b2;revert b0 b1 b2;decide),id,id,id,(by generalize (Z4 y_1 1)=b0;generalize (((o.l.length:Int):Int)==0)=b1;generalize (decide ((o.n:Int)<=1048576))=b2;generalize (decide ((1:Int)<=o.n))=b3;revert b0 b1 b2 b3;decide),(hh.1 c_10).2.2⟩,fun c_10=> ⟨fun c_11=> ⟨id,id,id,(by generalize ((o.n:Int)==0)=b0;revert b0;decide),id,id,((hh.2 c_10).1 c_11).1,((hh.2 c_10).1 c_11).2.1,(by generalize (decide ((0:Int) < (o.l.length:Int)))=b0;generalize ((o.n:Int)==0)=b1;revert b0 b1;decide),id,id,id,(by generalize (Z4 y_1 1)=b0;generalize (decide ((0:Int) < (o.l.length:Int)))=b1;generalize ((o.n:Int)==0)=b2;revert b0 b1 b2;decide),id,id,id,((hh.2 c_10).1 c_11).2.2.1,id,(by generalize (Z4 y_1 1)=b0;generalize (decide ((0:Int) < (o.l.length:Int)))=b1;generalize ((o.e.kind:Int)==0)=b2;generalize ((o.n:Int)==0)=b3;revert b0 b1 b2 b3;decide),((hh.2 c_10).1 c_11).2.2.2⟩,fun c_11=> ⟨fun c_12=> ⟨id,id,id,(by generalize ((o.n:Int)==0)=b0;revert b0;decide),id,id,(((hh.2 c_10).2 c_11).1 c_12).1,(((hh.2 c_10).2 c_11).1 c_12).2.1,(by generalize (decide ((0:Int) < (o.l.length:Int)))=b0;generalize ((o.n:Int)==0)=b1;revert b0 b1;decide),id,id,id,(by generalize (Z4 y_1 1)=b0;generalize (decide ((0:Int) < (o.l.length:Int)))=b1;generalize ((o.n:Int)==0)=b2;revert b0 b1 b2;decide),id,id,id,(((hh.2 c_10).2 c_11).1 c_12).2.2.1,id,(by generalize (Z4 y_1 1)=b0;generalize (decide ((0:Int) < (o.l.length:Int)))=b1;generalize ((o.e.kind:Int)==0)=b2;generalize ((o.n:Int)==0)=b3;revert b0 b1 b2 b3;decide),(((hh.2 c_10).2 c_11).1 c_12).2.2.2⟩,fun c_12=> ⟨fun c_13=> ⟨id,id,id,(by generalize ((o.n:Int)==0)=b0;revert b0;decide),id,id,id,((((hh.2 c_10).2 c_11).2 c_12).1 c_13).1,(by generalize (((o.l.length:Int):Int)==0)=b0;generalize ((o.n:Int)==0)=b1;revert b0 b1;decide),id,id,id,((((hh.2 c_10).2 c_11).2 c_12).1 c_13).2.1,((((hh.2 c_10).2 c_11).2 c_12).1 c_13).2.2.1,(by generalize (Y6 list y_1)=b0;generalize (((o.l.length:Int):Int)==0)=b1;generalize ((o.n:Int)==0)=b2;revert b0 b1 b2;decide),((((hh.2 c_10).2 c_11).2 c_12).1 c_13).2.2.2⟩,fun c_13=> ((((hh.2 c_10).2 c_11).2 c_12).2 c_13)⟩⟩⟩⟩)
def Zp9(N:Nat)(list:Int)(o:Op)(d:Int):Prop:=AW (Z1 (Z5e N)) Try.f168 ZlB [] (Zg (ZcG.can (list,o,d,())) []) (EQ Try.f168 (ZgG (list,o,d,())) [])
abbrev Zqd:Prop:=∀ (N:Nat) (list:Int) (o:Op) (d:Int) (_:Unit),Z1b (list,o,d,())->Z4B (list,o,d,()) < N+1->Zp9 N list o d
def Zma:List (FuncId × Fs U):=[(89,Z8T)]
abbrev W52(e:Edit)(Q:QT):=AW (Z1 Zma) Try.f52 ZrB [] (L2 [(0,.agg (enc .edit e))] []) Q
theorem Zv6(e:Edit)(Q:QT)(h:(YR ((Edit.mk e.kind (Tree.mk e.old.kind e.old.words e.old.kids) (Tree.mk e.new.kind e.new.words e.new.kids) e.words e.kids e.list e.ops),64,()))/\(Q .ret (L2 [pB 2 (Z4 (Edit.mk e.kind (Tree.mk e.old.kind e.old.words e.old.kids) (Tree.mk e.new.kind e.new.words e.new.kids) e.words e.kids e.list e.ops) 64)] []))):
  W52 e Q:=by
 have e_:(W52 e Q)=(type_of% h):=by kernel_rfl
 exact e_.mpr ⟨h.1,h.2⟩
def ZsQ(e:Edit):Prop:=AW (Z1 Zma) Try.f52 ZrB [] (Zg (ZhW.can (e,())) []) (EQ Try.f52 (ZpM (e,())) [])
theorem Zr1(c89:CT 89 Z8T)(hb:∀ (e:Edit) (_:Unit),ZgQ (e,())->ZsQ e):CT 52 Z93:=
 Z7 (l:=[(89,Z8T)]) Zj rfl (⟨c89,trivial⟩) ZrB Try.func52 rfl rfl 1 (fun _=> rfl) (by decide) (fun ⟨e,_⟩=> hb e ())
theorem ZnY(Zs2:CT 121 Z2x)(Zs1:CT 122 Z2w)(Zs0:CT 123 Z2v)(c92:CT 92 Z1E)(ZrR:CT 184 Z2t)(ZrO:CT 187 Z2s)(ZrU:CT 164 Z2u)(b89:ZuA)(Zsd:Zqg)(Zsc:Zqf)(Zsb:Zqd):
  CT 89 Z8T/\CT 124 Zgr/\CT 125 Zgq/\CT 168 Zgo:=by
 have h87 : ∃ fn, Try.prog.funcs[(89 : FuncId)]? = some fn ∧ fn.body.isSome = true ∧ (fn.name == "runtime.NumGoroutine") = false := ⟨Try.f89, Try.func89, rfl, rfl⟩
 have h121 : ∃ fn, Try.prog.funcs[(124 : FuncId)]? = some fn ∧ fn.body.isSome = true ∧ (fn.name == "runtime.NumGoroutine") = false := ⟨Try.f124, Try.func124, rfl, rfl⟩
 have h122 : ∃ fn, Try.prog.funcs[(125 : FuncId)]? = some fn ∧ fn.body.isSome = true ∧ (fn.name == "runtime.NumGoroutine") = false := ⟨Try.f125, Try.func125, rfl, rfl⟩
 have h132 : ∃ fn, Try.prog.funcs[(168 : FuncId)]? = some fn ∧ fn.body.isSome = true ∧ (fn.name == "runtime.NumGoroutine") = false := ⟨Try.f168, Try.func168, rfl, rfl⟩
 have key:∀ N,CT 89 (fs ZcI (fun a=> [YR a,Z1J a < N]) ZgI)/\CT 124 (fs Z2T (fun a=> [Z1d a,Z4D a < N]) Z3k)/\CT 125 (fs ZcI (fun a=> [Z1c a,Z4C a < N]) Z4Y)/\CT 168 (fs ZcG (fun a=> [Z1b a,Z4B a < N]) ZgG):=by
  intro N
  induction N with
  | zero=> exact ⟨Z0G h87,Z0G h121,Z0G h122,Z0G h132⟩
  | succ N ih=>
   have kn:=Jq (l:=Z5e N) ⟨ih.1,ih.2.1,ih.2.2.1,ih.2.2.2,Zs2,Zs1,Zs0,c92,ZrR,ZrO,ZrU,trivial⟩
   exact ⟨ZV (Γ:=Z1 (Z5e N)) Zj rfl kn Zri Try.func89 rfl rfl (fun a=> by show 2<=_;decide) (fun ⟨e,d,_⟩ h=> b89 N e d () h.1 h.2.1),
    ZV (Γ:=Z1 (Z5e N)) Zj rfl kn Z61 Try.func124 rfl rfl (fun a=> by show 2<=_;decide) (fun ⟨l,d,_⟩ h=> Zsd N l d () h.1 h.2.1),
    ZV (Γ:=Z1 (Z5e N)) Zj rfl kn Z60 Try.func125 rfl rfl (fun a=> by show 2<=_;decide) (fun ⟨e,d,_⟩ h=> Zsc N e d () h.1 h.2.1),
    ZV (Γ:=Z1 (Z5e N)) Zj rfl kn ZlB Try.func168 rfl rfl (fun a=> by show 3<=_;decide) (fun ⟨list,o,d,_⟩ h=> Zsb N list o d () h.1 h.2.1)⟩
 exact ⟨Z0H h87 fun N=> (key N).1,Z0H h121 fun N=> (key N).2.1,Z0H h122 fun N=> (key N).2.2.1,Z0H h132 fun N=> (key N).2.2.2⟩
end
end
theorem Zir{e:Edit}:(Z4 e 1=true/\e.kind=0)↔Z0f e=true:=by
 rw [Z1X]
 simp only [Z0f,Q1,decide_eq_true_eq]
 by_cases hk:e.kind=0
 ·rw [if_neg (by omega)]
  by_cases hb:ZJ e.old=true/\ZJ e.new=true
  ·by_cases hw:e.words.length=0/\e.kids.length=0
   ·by_cases hl:e.list=0/\e.ops.length=0
    ·have h1:e.words=[]:=QV.1 hw.1
     have h2:e.kids=[]:=QV.1 hw.2
     have h3:e.ops=[]:=QV.1 hl.2
     rw [if_neg (fun h=> by rcases h with h | h | h;exact h.2 hb;exact h.2 hw;omega),if_neg (by omega),h1,h2,h3]
     simp only [Zk,Zp,Zs,Jy,Jx,QM,Xp,Q1,decide_eq_true_eq]
     refine ⟨fun _=> ⟨⟨⟨hk,hb.1⟩,hb.2⟩,rfl,rfl,rfl,hl.1⟩,fun _=> by simp [hk]⟩
    ·rw [if_pos (Or.inr (Or.inr ⟨by omega,by omega⟩))]
     refine ⟨fun h=> (nomatch h.1),fun h=> absurd ⟨h.2.2.2.2,h.2.2.2.1⟩ hl⟩
   ·rw [if_pos (Or.inr (Or.inl ⟨by omega,hw⟩))]
    refine ⟨fun h=> (nomatch h.1),fun h=> absurd ⟨h.2.1,h.2.2.1⟩ hw⟩
  ·rw [if_pos (Or.inl ⟨by omega,hb⟩)]
   refine ⟨fun h=> (nomatch h.1),fun h=> absurd ⟨h.1.1.2,h.1.2⟩ hb⟩
 ·exact ⟨fun h=> absurd h.2 hk,fun h=> absurd h.1.1.1 hk⟩
theorem b89:ZuA:=by
 intro N e d _ hp hN
 simp only [YR,Z1J] at hp hN
 obtain ⟨⟨hm,hr⟩,hd0,hd1⟩:=hp
 obtain ⟨ik,ro,rn,rw',il,rk,ros⟩:=Z2y hr
 have hme:=ZZ e
 have hkl:=Yg e.kids
 have hol:=Yo e.ops
 have hat:=Z1X e d
 rw [Zhz hd0] at hat
 refine ZuK N e d _ ?_
 rintro y1 hy1 y2 hy2 y3 hy3
 subst hy1 hy2 hy3
 (simp only [vcS])
 have hbare:Z0q y1=true↔¬((y1.kind≠1/\¬(ZJ y1.old=true/\ZJ y1.new=true))\/(y1.kind≠2/\¬(y1.words.length=0/\y1.kids.length=0))\/(y1.kind≠3/\(y1.list≠0\/y1.ops.length≠0))):=by
  unfold Z0q
  split
  ·rename_i h;exact ⟨fun h=> (nomatch h),fun h2=> absurd h h2⟩
  ·rename_i h;exact ⟨fun _=> h,fun _=> rfl⟩
 refine ⟨by simp only [Z52];omega,fun hc=> Z0 rfl ?_,fun hc=> ?_⟩
 ·rcases hc with hc | hc
  ·rw [hat]
   split
   ·try rfl
   ·rw [if_pos (QQ fun h=> by rw [hbare.2 h] at hc;cases hc)]
  ·rw [hat,if_pos (Or.inl hc)]
 have hb:=hbare.1 hc.1
 have hr2:¬(y1.kind=0\/y1.kind=1\/y1.kind=2\/y1.kind=3)->Z4 y1 d=false:=fun h=> by rw [hat,if_pos (by omega)]
 by_cases hk:y1.kind=0\/y1.kind=1\/y1.kind=2\/y1.kind=3
 ·rw [if_neg (by omega),if_neg hb] at hat
  have hw:y1.kind≠2->y1.words=[]/\y1.kids=[]:=by
   intro h
   have:y1.words.length=0/\y1.kids.length=0:=QQ fun h2=> hb (Or.inr (Or.inl ⟨h,h2⟩))
   exact ⟨QV.1 this.1,QV.1 this.2⟩
  have ho:y1.kind≠3->y1.list=0/\y1.ops=[]:=by
   intro h
   have:y1.list=0/\y1.ops.length=0:=by
    constructor
    ·exact QQ fun h2=> hb (Or.inr (Or.inr ⟨h,Or.inl h2⟩))
    ·exact QQ fun h2=> hb (Or.inr (Or.inr ⟨h,Or.inr h2⟩))
   exact ⟨this.1,QV.1 this.2⟩
  refine ⟨fun h0=> Z0 rfl ?_,fun h0=> ⟨fun h1=> ⟨by simp only [Z9u];exact ⟨by omega,ro⟩,fun _=> by simp only [Z9u];exact ⟨by omega,rn⟩,Z0 rfl ?_⟩,fun h1=> ⟨fun h2=> ⟨by simp only [Z74];exact ⟨by omega,rw'⟩,fun _=> by unfold InR;omega,fun _=> by simp only [Z1d];exact ⟨⟨by omega,rk⟩,by omega,by omega⟩,fun _=> by simp only [Z4D];omega,Z0 rfl ?_⟩,fun h2=> ⟨fun h3=> ⟨trivial,fun _=> by unfold InR;omega,fun hl=> by simp only [Z1c];exact ⟨⟨by omega,hr,hl⟩,by omega,by omega⟩,fun _=> by simp only [Z4C];omega,Z0 rfl ?_⟩,fun h3=> ?_⟩⟩⟩⟩
  ·rw [hat,if_neg (by omega),(hw (by omega)).1,(hw (by omega)).2,(ho (by omega)).1,(ho (by omega)).2]
   simp [Zk,Zp,Zs,Jy,Jx]
   omega
  ·rw [hat,if_pos h1,Qd]
   (simp only [vcS])
   exact ⟨fun h=> ⟨⟨h.1.2,h.2.2⟩,h.1.1,h.2.1⟩,fun h=> ⟨⟨h.2.1,h.1.1⟩,h.2.2,h.1.2⟩⟩
  ·rw [hat,if_neg h1,(ho (by omega)).1,(ho (by omega)).2,Qd]
   simp only [Zs,Jy,Jx]
   (simp only [vcS])
   constructor
   ·rintro ⟨a,b⟩
    exact ⟨⟨⟨⟨a,b⟩,by omega⟩,trivial⟩,by decide⟩
   ·rintro ⟨⟨⟨⟨a,b⟩,_⟩,_⟩,_⟩
    exact ⟨a,b⟩
  ·rw [hat,if_neg h1,(hw (by omega)).1,(hw (by omega)).2,Qd]
   simp only [Zk,Zp]
   (simp only [vcS])
   constructor
   ·rintro ⟨a,b,c⟩
    exact ⟨⟨⟨⟨trivial,trivial⟩,by omega⟩,b⟩,c⟩
   ·rintro ⟨⟨⟨_,a⟩,b⟩,c⟩
    exact ⟨by omega,b,c⟩
  ·omega
 ·have he:=hr2 hk
  refine ⟨fun h0=> by omega,fun h0=> ⟨fun h1=> by omega,fun h1=> ⟨fun h2=> by omega,fun h2=> ⟨fun h3=> by omega,fun h3=> Z0 rfl ?_⟩⟩⟩⟩
  rw [he]
theorem Zsd:Zqg:=by
 intro N l d _ hp hN
 simp only [Z1d,Z4D] at hp hN
 obtain ⟨⟨hm,hr⟩,hd0,hd1⟩:=hp
 have hl:=Yg l
 refine Ztw N l d _ ?_
 refine Za (ι:=Int) (fun i=> Z0R l d i) (fun i=> 0<=i/\i<=l.length/\∃ last,-1<=last/\(i=0->last= -1)/\(0 < i->last=(l.getD (i - 1).toNat (KidOf.mk 0 Edit.nil)).at_)/\Zp last (l.drop i.toNat) d=Zp (-1) l d) (fun i=> ((l.length:Int) - i).toNat) 0 rfl ⟨by omega,by omega,-1,by omega,fun _=> rfl,fun h=> by omega,by simp⟩ ?_
 rintro i ⟨g1,g2,last,g3,g4,g5,g6⟩
 refine ZjO N l d i _ _ ?_
 rintro y1 hy1 y2 hy2 y3 hy3
 (simp only [vcS])
 refine ⟨fun hi=> ?_,fun hi=> ?_⟩
 ·have hmem:=Zl (l:=l) (i:=i.toNat) (by omega) (KidOf.mk 0 Edit.nil)
  have hmk:=J3 hmem
  have hrk:=Z1W hr hmem
  rw [Yr g1 hi (KidOf.mk 0 Edit.nil)] at g6
  rw [<-hy1] at g6 hmk hrk
  rw [<-hy2] at g5
  rw [<-hy3] at hmk hrk
  simp only [Zp,Z3g] at g6
  rw [<-hy3] at g6
  have hk:y1.e.kind=y3.kind:=by rw [hy3]
  rw [hk]
  have gl:(¬0 < i\/¬y1.at_<=y2.at_)/\¬y1.at_ < 0↔last < y1.at_/\¬y1.at_ < 0:=by
   by_cases h0:0 < i
   ·have:=g5 h0;omega
   ·have:=g4 (by omega);omega
  refine ⟨⟨g1,hi⟩,fun _=> by unfold InR;omega,fun _=> by omega,fun _=> ?_,fun _=> by simp only [Z1J];omega,fun hc=> Z0 rfl ?_,fun hc=> ⟨by unfold InR;omega,i+1,rfl,⟨by omega,by omega,y1.at_,by omega,fun h=> by omega,fun _=> by rw [show (i+1 - 1).toNat=i.toNat by omega,<-hy1],?_⟩,by omega⟩⟩
  ·simp only [YR]
   exact ⟨⟨by omega,hrk.2⟩,hd0,hd1⟩
  ·rw [<-g6]
   by_cases hr:Z4 y3 d=true
   ·rw [decide_eq_false (fun h=> ?_)]
    ·try rfl
    ·rcases hc with hc | hc
     ·rcases hc with (hc | hc) | hc
      ·omega
      ·by_cases h0:0 < i
       ·have:=g5 h0;omega
       ·omega
      ·exact h.2.2 hc
     ·rw [hr] at hc;cases hc
   ·simp only [XB] at hr
    rw [hr];simp
  ·rw [<-g6,hc.2,decide_eq_true (show last < y1.at_/\y1.at_<=65534/\y3.kind≠0 by
    refine ⟨?_,by omega,hc.1.2⟩
    by_cases h0:0 < i
    ·have:=g5 h0;omega
    ·have:=g4 (by omega);omega)]
   try rfl
 ·rw [Qb (by omega)] at g6
  simp only [Z3k]
  rw [<-g6]
  exact Z0 rfl rfl
theorem Z4x{list d:Int}:∀ {os:List Op},(∀ o∈os,Zb list o d=true)->Zs list os d=true
 | [],_=> rfl
 | o ::r,h=> by
  simp only [Zs,Q1]
  exact ⟨h o (Qa ..),Z4x (fun x hx=> h x (Q5 _ hx))⟩
theorem Zsc:Zqf:=by
 intro N e d _ hp hN
 simp only [Z1c,Z4C] at hp hN
 obtain ⟨⟨hm,hr,hl⟩,hd0,hd1⟩:=hp
 obtain ⟨ik,ro,rn,rw',il,rk,ros⟩:=Z2y hr
 have hme:=ZZ e
 have hol:=Yo e.ops
 refine Ztv N e d _ ?_
 refine Za (ι:=Int) (fun i=> Z0Q e d i) (fun i=> 0<=i/\i<=e.ops.length/\∀ o∈e.ops.take i.toNat,Zb e.list o d=true) (fun i=> ((e.ops.length:Int) - i).toNat) 0 rfl ⟨by omega,by omega,by simp⟩ ?_
 rintro i ⟨g1,g2,g3⟩
 refine ZjN N e d i _ _ ?_
 rintro y1 hy1 y2 hy2 y3 hy3
 subst hy1 hy3
 (simp only [vcS])
 refine ⟨fun hi=> ?_,fun hi=> ?_⟩
 ·have hmem:=Zl (l:=y1.ops) (i:=i.toNat) (by omega) Op.nil
  have hmo:=Yn hmem
  have hro:=Z1V ros hmem
  rw [<-hy2] at hmem hmo hro
  refine ⟨⟨g1,hi⟩,?_,by simp only [Z4B];omega,fun hc=> Z0 rfl ?_,fun hc=> ⟨by unfold InR;omega,i+1,rfl,⟨by omega,by omega,fun o ho=> ?_⟩,by omega⟩⟩
  ·simp only [Z1b]
   exact ⟨⟨by omega,hro,hl⟩,hd0,hd1⟩
  ·have:Zs y1.list y1.ops d=false:=by
    rw [<-XB]
    intro h
    have:=rightOs_mem h hmem
    rw [hc] at this;cases this
   rw [this,Bool.false_and]
  ·rw [show (i+1).toNat=i.toNat+1 by omega,Xj] at ho
   rcases Q9.1 ho with ho | ho
   ·exact g3 o ho
   ·have e:y1.ops[i.toNat]?=some y3:=by
     rw [hy2]
     simp [List.getD,Q0 (show i.toNat < y1.ops.length by omega)]
    rw [e] at ho
    simp only [Option.toList_some,Q7] at ho
    subst ho
    exact hc
 ·rw [Qu (by omega)] at g3
  have hall:Zs y1.list y1.ops d=true:=Z4x g3
  have hb:∀ o∈y1.ops,(0<=o.n/\o.n<=1048576)/\o.l.length<=20000000000:=by
   intro o ho
   refine ⟨Z40 (g3 o ho),?_⟩
   have h1:=Yn ho
   rw [Jn] at h1
   have h2:=Zw o.l
   omega
  refine ⟨by simp only [Z52];omega,Z0 rfl ?_⟩
  rw [ZdW _ _ hb (by decide) (by decide),ZdV _ _ hb (by decide) (by decide),hall,QM]
  by_cases h1:Jy y1.ops 0 < 1048576 <;> by_cases h2:Jx y1.ops 0 < 1048576 <;> simp [h1,h2]
theorem Zsb:Zqd:=by
 intro N list o d _ hp hN
 simp only [Z1b,Z4B] at hp hN
 obtain ⟨⟨hm,hr,hil⟩,hd0,hd1⟩:=hp
 obtain ⟨ik,inn,rl,re⟩:=Z8s hr
 rw [Jn] at hm hN
 have hll:=Zw o.l
 have hep:=Z22 o.e
 have hat:=YW list o d
 rw [Zhz hd0,Z6O] at hat
 have hs:=Zir (e:=o.e)
 refine Ztj N list o d _ ?_
 rintro y1 hy1 y2 hy2
 subst hy1
 (simp only [vcS])
 have hp87:YR (o.e,1,()):=by simp only [YR];exact ⟨⟨by omega,re⟩,by omega,by omega⟩
 have hm87:Z1J (o.e,1,()) < N:=by simp only [Z1J];omega
 have hp135:Z9y (o.l,(list,()),()):=by simp only [Z9y];exact ⟨by omega,rl,by unfold InR;omega⟩
 have h12:o.kind=1\/o.kind=2->y2= .bool (Zb list o d):=by
  intro hk
  rw [hy2,hat,if_neg (by omega)]
  congr 1
  rw [Qd]
  (simp only [vcS])
  by_cases hn:o.n=0
  ·rw [if_neg (by omega),if_pos (by omega)]
   (simp only [vcS])
   constructor
   ·rintro ⟨⟨⟨⟨h1,h2⟩,h3⟩,h4⟩,h5⟩
    exact ⟨⟨h5,by omega⟩,hs.1 ⟨h3,h4⟩⟩
   ·rintro ⟨⟨h5,h2⟩,h3⟩
    have:=hs.2 h3
    exact ⟨⟨⟨⟨hn,by omega⟩,this.1⟩,this.2⟩,h5⟩
  ·rw [if_pos (by omega)]
   exact ⟨fun h=> absurd h.1.1.1.1 hn,fun h=> (nomatch h)⟩
 refine ⟨fun hk=> ⟨fun _=> hp87,fun _=> hm87,Z0 rfl ?_⟩,fun hk=> ⟨fun hk1=> ⟨fun _=> hp87,fun _=> hm87,fun _=> hp135,?_⟩,fun hk1=> ⟨fun hk2=> ⟨fun _=> hp87,fun _=> hm87,fun _=> hp135,?_⟩,fun hk2=> ⟨fun hk3=> ⟨fun _=> trivial,fun _=> ?_,fun _=> by simp only [Z1J];omega,Z0 rfl ?_⟩,fun hk3=> Z0 rfl ?_⟩⟩⟩⟩
 ·rw [hat,if_pos hk,Qd]
  (simp only [vcS])
  constructor
  ·rintro ⟨⟨⟨h1,h2⟩,h3⟩,h4⟩
   exact ⟨⟨h1.1,h1.2,by omega⟩,hs.1 ⟨h3,h4⟩⟩
  ·rintro ⟨⟨h1,h2,h3⟩,h4⟩
   have:=hs.2 h4
   exact ⟨⟨⟨⟨h1,h2⟩,by omega⟩,this.1⟩,this.2⟩
 ·rw [h12 (Or.inl hk1)]
  exact Z0 rfl rfl
 ·rw [h12 (Or.inr hk2)]
  exact Z0 rfl rfl
 ·simp only [YR];exact ⟨⟨by omega,re⟩,hd0,hd1⟩
 ·rw [hat,if_neg hk,Qd]
  by_cases hn:o.n=0
  ·rw [if_neg (by omega),if_neg (by omega)]
   have hw:Y6 list o.e=true↔(o.e.kind≠0/\7 < list)/\(list=8\/o.e.kind=2\/o.e.kind=1/\o.e.old.kind=1/\o.e.new.kind=1):=by
    unfold Y6
    split
    ·exact ⟨fun h=> (nomatch h),fun h=> by omega⟩
    ·split
     ·exact ⟨fun _=> ⟨by omega,by omega⟩,fun _=> rfl⟩
     ·rw [decide_eq_true_eq]
      exact ⟨fun h=> ⟨by omega,Or.inr (Or.inr h)⟩,fun h=> by omega⟩
   (simp only [vcS])
   rw [hw]
   constructor
   ·rintro ⟨⟨h1,h2⟩,h3⟩
    exact ⟨⟨⟨by omega,h2.1⟩,h3⟩,h2.2⟩
   ·rintro ⟨⟨⟨h1,h2⟩,h3⟩,h4⟩
    exact ⟨⟨⟨hn,by omega⟩,h2,h4⟩,h3⟩
  ·rw [if_pos (by omega)]
   (simp only [vcS])
   exact ⟨fun h=> absurd h.1.1.1 hn,fun h=> (nomatch h)⟩
 ·rw [hat,if_neg hk]
  by_cases hn:o.n≠0\/o.kind < 0\/3 < o.kind
  ·rw [if_pos hn]
  ·exfalso;omega
theorem Zvp:Contract Try.prog cfg 89 Z8T/\Contract Try.prog cfg 124 Zgr/\Contract Try.prog cfg 125 Zgq/\Contract Try.prog cfg 168 Zgo:=
 ZnY Zs2 Zs1 Zs0 c92 ZrR ZrO ZrU b89 Zsd Zsc Zsb
theorem c52:Contract Try.prog cfg 52 Z93:=by
 refine Zr1 Zvp.1 ?_
 intro e _ hp
 simp only [ZgQ] at hp
 refine Zv6 _ _ ?_
 (simp only [Tree.eta,Edit.eta,Tree.kind_mk,Tree.words_mk,Tree.kids_mk])
 refine ⟨by simp only [YR];exact ⟨hp,by omega,by omega⟩,?_⟩
 exact Z0 rfl rfl
mutual
theorem Z4w:∀ t:Tree,Zm t<=17592186044416->Z12 t
 | .mk k w ks,h=> by
  simp only [Zm] at h
  have:=Zw ks
  exact ⟨by omega,by omega,Z3b ks (by omega)⟩
theorem Z3b:∀ l:List Tree,Ze l<=17592186044416->Z11 l
 | [],_=> trivial
 | t ::r,h=> by
  simp only [Ze] at h
  exact ⟨Z4w t (by omega),Z3b r (by omega)⟩
end
end Go.AM.Ytpjenobkibfpcaa
namespace Go.AM
instance:Inhabited PStep:=⟨⟨0,0⟩⟩
def ZpY(s:PStep)(t:Tree):Prop:=s.kind=0/\0<=s.at_/\(t.kind=1/\s.at_ < 65535\/(2<=t.kind/\t.kind<=9)/\s.at_ < t.kids.length)
instance (s:PStep) (t:Tree):Decidable (ZpY s t):=by unfold ZpY;infer_instance
end Go.AM
namespace Go.AM.Ytpjenobkibfpcaa
open Go.AM Go.Proofs
noncomputable section
structure Lft where
 x:Edit
 y:Edit
 c:Bool
 a:Bool
end
variable {K:Nat}
theorem φB_nn{o:Op}(h:Zqz o):0<=φB o:=by unfold φB;have:=ZiD h;split <;> omega
end Go.AM.Ytpjenobkibfpcaa
