import Derived.Test.YtpjenobkibfpcaaKB22c
import Derived.Test.YtpjenobkibfpcaaKL22m
import Derived.Test.YtpjenobkibfpcaaKB20e
import Derived.Test.YtpjenobkibfpcaaKD24
set_option linter.unusedSimpArgs false
set_option linter.unusedVariables false
namespace Go.AM.Ytpjenobkibfpcaa
open Go.AM Go.Proofs
noncomputable section
noncomputable section
def Z0W(a:Edit × Unit):Prop:=Z7 a.1<=20000000000/\∃ d,Z8 a.1 d=true
def ZbT(a:Edit × Unit):Nat:=2*Z7 a.1
def Z91(a:Edit × Unit):V U:= .agg (enc .edit (Zo a.1))
def ZaW:Fs U:=fs Zll (fun a=> [Z0W a]) Z91
def Zfn:ArgL (Int × List Op × Unit):=(.cons (Jd .i64) (.cons (aSl .op) .nil))
def Z93(a:Int × List Op × Unit):Prop:=Zd a.2.1<=20000000000/\∀ o∈a.2.1,∃ d,Zg a.1 o d=true
def ZgK(a:Int × List Op × Unit):Nat:=2*Zd a.2.1+1
def Zgc(a:Int × List Op × Unit):V U:= .c (sU .op ((Z0 (Zn a.1 a.2.1 (Wst.mk [] [] []))).out) .unk)
def Zny:Fs U:=fs Zfn (fun a=> [Z93 a]) Zgc
def Z2l(N:Nat):List (FuncId × Fs U):=(57,fs Zll (fun a=> [Z0W a,ZbT a < N]) Z91) ::(94,fs Zfn (fun a=> [Z93 a,ZgK a < N]) Zgc) ::[(71,Z3b),(128,Z2t),(126,Z4z),(129,Z13),(127,Z3Q)]
def Zf0:Zf U:=fun i=> match i with
 | 0=> ([(1,[]),(2,[])],[(.loc 1,[]),(.loc 2,[])])
 | 1=> ([(1,[]),(2,[]),(3,[])],[(.loc 1,[]),(.loc 2,[]),(.loc 3,[])])
 | 2=> ([(1,[]),(2,[]),(3,[]),(12,[])],[(.loc 1,[]),(.loc 2,[]),(.loc 3,[])])
 | 3=> ([(1,[]),(2,[]),(3,[]),(12,[]),(13,[])],[(.loc 1,[]),(.loc 2,[]),(.loc 3,[])])
 | 4=> ([(2,[]),(3,[])],[(.loc 2,[]),(.loc 3,[])])
 | 5=> ([(1,[]),(2,[]),(3,[]),(12,[]),(23,[])],[(.loc 1,[]),(.loc 2,[]),(.loc 3,[])])
 | 6=> ([(1,[]),(2,[]),(3,[])],[(.loc 1,[]),(.loc 2,[]),(.loc 3,[])])
 | 7=> ([(2,[]),(3,[]),(32,[]),(33,[]),(34,[])],[(.loc 2,[]),(.loc 3,[.any,.any,.any,.any,.any,.any,.any,.any,.own .kid])])
 | 8=> ([(2,[]),(3,[]),(32,[]),(33,[]),(34,[]),(35,[])],[(.loc 2,[]),(.loc 3,[])])
 | 9=> ([(2,[]),(3,[]),(5,[]),(32,[]),(33,[]),(34,[])],[(.loc 2,[]),(.loc 3,[]),(.loc 5,[])])
 | 10=> ([(2,[]),(3,[]),(32,[]),(33,[]),(34,[])],[(.loc 2,[]),(.loc 3,[])])
 | 11=> ([(2,[]),(3,[]),(32,[]),(33,[]),(34,[])],[(.loc 2,[]),(.loc 3,[.any,.any,.any,.any,.any,.any,.any,.any,.own .kid])])
 | 12=> ([(1,[]),(2,[]),(3,[]),(50,[])],[(.loc 1,[]),(.loc 2,[]),(.loc 3,[])])
 | 13=> ([(2,[]),(3,[])],[(.loc 2,[]),(.loc 3,[])])
 | 14=> ([(2,[])],[(.loc 2,[])])
 | _=> ([],[])
def Z2Q(e:Edit)(x34:Int)(ml3_8:List Kid):LSt U:=(L2 [pL 2,pL 3,(32,.c (sU .kid e.kids .unk)),pI 33 (e.kids.length:Int),pI 34 x34] [(.loc 2,zc1),(.loc 3,[ci e.kind,ci 0,.nils,.nils,ci 0,.nils,.nils,sU .wedit (([]:List WEdit)++e.words) (.own (.l 3 7)),sU .kid ml3_8 (.own (.l 3 8)),ci e.list,.nils])])
abbrev W57(N:Nat)(e:Edit)(Q:QT):=AW (Z1 (Z2l N)) Try.f57 Zf0 [] (L2 [(0,.agg (enc .edit e))] []) Q
abbrev ZmT(N:Nat):=awp cfg (Z1 (Z2l N)) (ZW cfg (Z1 (Z2l N))) Try.f57.ntmps Zf0
abbrev ZlN(N:Nat):=Ze9 cfg (Z1 (Z2l N)) (ZW cfg (Z1 (Z2l N))) Try.f57.ntmps Zf0
theorem Zzo(N:Nat)(e:Edit)(Q:QT)(h:((e.kind==1)=true->(Z1F ((Tree.mk e.old.kind e.old.words e.old.kids),()))/\(Z1F ((Tree.mk e.new.kind e.new.words e.new.kids),()))/\(Q .ret (L2 [pL 2] [(.loc 2,([ci e.kind]++enc .tree (Z4 (Tree.mk e.old.kind e.old.words e.old.kids))++enc .tree (Z4 (Tree.mk e.new.kind e.new.words e.new.kids))++[.nils,.nils,ci e.list,.nils]))])))/\((e.kind==1)=false->((e.kind==2)=true->((([]:List WEdit).length+e.words.length)*32<=140737488355328)/\(Zi (AW (Z1 (Z2l N)) Try.f57 Zf0 [1,1,0,1,0,1,1,1,0,1,1,0,0]) (Z2Q e 0 []) (xB 1 (xB 0 (SW (Z1 (Z2l N)) Try.f57 Zf0 [1,1,1] Q)))))/\((e.kind==2)=false->((e.kind==3)=true->(Z93 (e.list,e.ops,()))/\(ZgK (e.list,e.ops,()) < N)/\(Q .ret (L2 [pL 2] [(.loc 2,[ci e.kind,ci 0,.nils,.nils,ci 0,.nils,.nils,.nils,.nils,ci e.list,sU .op ((Z0 (Zn e.list e.ops (Wst.mk [] [] []))).out) .unk])])))/\((e.kind==3)=false->Q .ret (L2 [pL 2] [(.loc 2,[ci e.kind,ci 0,.nils,.nils,ci 0,.nils,.nils,.nils,.nils,ci e.list,.nils])]))))):
  W57 N e Q:=by
 have e_:(W57 N e Q)=(((e.kind==1)=true->(Z1F ((Tree.mk e.old.kind e.old.words e.old.kids),()))/\(Z1F ((Tree.mk e.new.kind e.new.words e.new.kids),()))/\(Q .ret (L2 [pL 2] [(.loc 2,([ci e.kind]++enc .tree (Z4 (Tree.mk e.old.kind e.old.words e.old.kids))++enc .tree (Z4 (Tree.mk e.new.kind e.new.words e.new.kids))++[.nils,.nils,ci e.list,.nils]))])))/\((e.kind==1)=false->(((e.kind==2)=true->((([]:List WEdit).length+e.words.length)*32<=140737488355328)/\(Zi (ZmT N (cd Try.f57 [1,1,0,1,0,1,1,1,0,1,1,0,0])) (Z2Q e 0 []) (xB 1 (xB 0 (ZlN N (cd Try.f57 [1,1,1]) Q)))))/\((e.kind==2)=false->(((e.kind==3)=true->(Z93 (e.list,e.ops,()))/\(ZgK (e.list,e.ops,()) < N)/\(Q .ret (L2 [pL 2] [(.loc 2,[ci e.kind,ci 0,.nils,.nils,ci 0,.nils,.nils,.nils,.nils,ci e.list,sU .op ((Z0 (Zn e.list e.ops (Wst.mk [] [] []))).out) .unk])])))/\((e.kind==3)=false->(Q .ret (L2 [pL 2] [(.loc 2,[ci e.kind,ci 0,.nils,.nils,ci 0,.nils,.nils,.nils,.nils,ci e.list,.nils])])))))))):=by kernel_rfl
 exact e_.mpr ⟨fun c_1=> ⟨(h.1 c_1).1,(h.1 c_1).2.1,(h.1 c_1).2.2⟩,fun c_1=> ⟨fun c_2=> ⟨((h.2 c_1).1 c_2).1,((h.2 c_1).1 c_2).2⟩,fun c_2=> ⟨fun c_3=> ⟨(((h.2 c_1).2 c_2).1 c_3).1,(((h.2 c_1).2 c_2).1 c_3).2.1,(((h.2 c_1).2 c_2).1 c_3).2.2⟩,fun c_3=> (((h.2 c_1).2 c_2).2 c_3)⟩⟩⟩
abbrev Zqr(N:Nat)(e:Edit)(x34:Int)(ml3_8:List Kid)(N0:NT)(Q:QT):=AW (Z1 (Z2l N)) Try.f57 Zf0 [1,1,0,1,0,1,1,1,0,1,1,0,0] (Z2Q e x34 ml3_8) (xT N0 (xB 1 (xB 0 (SW (Z1 (Z2l N)) Try.f57 Zf0 [1,1,1] Q))))
theorem Zr4(N:Nat)(e:Edit)(x34:Int)(ml3_8:List Kid)(N0:NT)(Q:QT)(h:∀ y_1,y_1=(e.kids.getD x34.toNat (KidOf.mk 0 Edit.nil))->∀ y_2,y_2=(y_1.e)->∀ y_3,y_3=(Zo y_2)->((decide (x34 < (e.kids.length:Int)))=true->((0:Int)<=x34/\x34 < (e.kids.length:Int))/\((Z0W (y_2,()))/\(ZbT (y_2,()) < N)/\((ml3_8.length+([(KidOf.mk y_1.at_ y_3:Kid)]).length)*208<=140737488355328)/\((InR (x34+1))/\(N0 (Z2Q e (x34+1) (ml3_8++([(KidOf.mk y_1.at_ y_3:Kid)])))))))/\((decide (x34 < (e.kids.length:Int)))=false->Q .ret (L2 [pL 2] [(.loc 2,[ci e.kind,ci 0,.nils,.nils,ci 0,.nils,.nils,sU .wedit (([]:List WEdit)++e.words) (.own (.l 2 7)),sU .kid ml3_8 (.own (.l 2 8)),ci e.list,.nils])]))):
  Zqr N e x34 ml3_8 N0 Q:=by
 have e_:(Zqr N e x34 ml3_8 N0 Q)=(let y_1:=(e.kids.getD x34.toNat (KidOf.mk 0 Edit.nil));let y_2:=(JD y_1.e);let y_3:=(JD (Zo y_2));(((decide ((x34:Int) < (e.kids.length:Int)))=true->((0:Int)<=x34/\x34 < (e.kids.length:Int))/\((Z0W (y_2,()))/\(ZbT (y_2,()) < N)/\((ml3_8.length+([(KidOf.mk y_1.at_ y_3:Kid)]).length)*208<=140737488355328)/\((InR ((x34:Int)+1))/\(N0 (Z2Q e ((x34:Int)+1) (ml3_8++([(KidOf.mk y_1.at_ y_3:Kid)])))))))/\((decide ((x34:Int) < (e.kids.length:Int)))=false->(Q .ret (L2 [pL 2] [(.loc 2,[ci e.kind,ci 0,.nils,.nils,ci 0,.nils,.nils,sU .wedit (([]:List WEdit)++e.words) (.own (.l 2 7)),sU .kid ml3_8 (.own (.l 2 8)),ci e.list,.nils])]))))):=by kernel_rfl
 exact e_.mpr (by intro y_1 y_2 y_3;have hh:=h y_1 rfl y_2 (Za _) y_3 (Za _);exact ⟨fun c_4=> ⟨(hh.1 c_4).1,⟨(hh.1 c_4).2.1,(hh.1 c_4).2.2.1,(hh.1 c_4).2.2.2.1,⟨(hh.1 c_4).2.2.2.2.1,(hh.1 c_4).2.2.2.2.2⟩⟩⟩,fun c_4=> (hh.2 c_4)⟩)
def Zx1(N:Nat)(e:Edit):Prop:=AW (Z1 (Z2l N)) Try.f57 Zf0 [] (Zj (Zll.can (e,())) []) (EQ Try.f57 (Z91 (e,())) [])
abbrev Zz0:Prop:=∀ (N:Nat) (e:Edit) (_:Unit),Z0W (e,())->ZbT (e,()) < N+1->Zx1 N e
def ZeZ:Zf U:=fun i=> match i with
 | 0=> ([(0,[]),(1,[])],[])
 | 1=> ([(0,[]),(1,[]),(5,[])],[(.loc 10,[.wr .op])])
 | 2=> ([(0,[]),(5,[]),(11,[]),(12,[]),(13,[])],[(.loc 10,[.wr .op,.own .tree,.own .tree])])
 | 3=> ([(0,[]),(5,[]),(11,[]),(12,[]),(13,[]),(14,[])],[(.loc 10,[.wr .op])])
 | 4=> ([(0,[]),(5,[]),(7,[]),(11,[]),(12,[]),(13,[])],[(.loc 7,[]),(.loc 10,[.wr .op])])
 | 5=> ([(0,[]),(5,[]),(7,[]),(11,[]),(12,[]),(13,[]),(18,[])],[(.loc 7,[]),(.loc 10,[.wr .op])])
 | 6=> ([(0,[]),(5,[]),(7,[]),(11,[]),(12,[]),(13,[]),(18,[]),(19,[])],[(.loc 7,[]),(.loc 10,[.wr .op])])
 | 7=> ([(0,[]),(5,[]),(11,[]),(12,[]),(13,[])],[(.loc 10,[.wr .op])])
 | 8=> ([(0,[]),(5,[]),(7,[]),(11,[]),(12,[]),(13,[]),(18,[]),(25,[])],[(.loc 7,[]),(.loc 10,[.wr .op])])
 | 9=> ([(0,[]),(5,[]),(11,[]),(12,[]),(13,[])],[(.loc 10,[.wr .op])])
 | 10=> ([(0,[]),(5,[]),(7,[]),(11,[]),(12,[]),(13,[]),(18,[]),(33,[])],[(.loc 7,[]),(.loc 10,[.wr .op])])
 | 11=> ([(0,[]),(5,[]),(11,[]),(12,[]),(13,[])],[(.loc 10,[.wr .op])])
 | 12=> ([(0,[]),(5,[]),(7,[]),(11,[]),(12,[]),(13,[]),(41,[])],[(.loc 7,[]),(.loc 10,[.wr .op])])
 | 13=> ([(0,[]),(5,[]),(8,[]),(11,[]),(12,[]),(13,[])],[(.loc 8,[]),(.loc 10,[.wr .op])])
 | 14=> ([(0,[]),(5,[]),(8,[]),(11,[]),(12,[]),(13,[]),(48,[])],[(.loc 8,[]),(.loc 10,[.wr .op])])
 | 15=> ([(0,[]),(5,[]),(11,[]),(12,[]),(13,[])],[(.loc 10,[.wr .op])])
 | 16=> ([(0,[]),(5,[]),(8,[]),(11,[]),(12,[]),(13,[])],[(.loc 8,[]),(.loc 10,[.wr .op])])
 | 17=> ([(0,[]),(5,[]),(11,[]),(12,[]),(13,[])],[(.loc 10,[.wr .op])])
 | 18=> ([(0,[]),(5,[]),(11,[]),(12,[]),(13,[])],[(.loc 10,[.wr .op,.own .tree,.own .tree])])
 | 19=> ([(5,[])],[(.loc 10,[.wr .op])])
 | 20=> ([(4,[])],[])
 | _=> ([],[])
def Y2(list:Int)(l:List Op)(x13:Int)(rl_10_0:List Op)(ml10_1 ml10_2:List Tree):LSt U:=(⟨[pI 0 list,(5,.ptr (.loc 10) 0),(11,.c (sU .op l .unk)),pI 12 (l.length:Int),pI 13 x13],[(.loc 10,[.mref (.l 10 0),sU .tree ml10_1 (.own (.l 10 1)),sU .tree ml10_2 (.own (.l 10 2))])],[(.l 10 0,LC.mk (U:=U) .op rl_10_0 0)]⟩:LSt U)
abbrev W94(N:Nat)(list:Int)(l:List Op)(Q:QT):=AW (Z1 (Z2l N)) Try.f94 ZeZ [] (L2 [pI 0 list,(1,.c (sU .op l .unk))] []) Q
abbrev ZmS(N:Nat):=awp cfg (Z1 (Z2l N)) (ZW cfg (Z1 (Z2l N))) Try.f94.ntmps ZeZ
abbrev ZlM(N:Nat):=Ze9 cfg (Z1 (Z2l N)) (ZW cfg (Z1 (Z2l N))) Try.f94.ntmps ZeZ
theorem Zz4(N:Nat)(list:Int)(l:List Op)(Q:QT)(h:Zi (AW (Z1 (Z2l N)) Try.f94 ZeZ [1,1,0,1,0,0]) (Y2 list l 0 [] [] []) (xB 0 (SW (Z1 (Z2l N)) Try.f94 ZeZ [1,1,1] Q))):
  W94 N list l Q:=by
 have e_:(W94 N list l Q)=(Zi (ZmS N (cd Try.f94 [1,1,0,1,0,0])) (Y2 list l 0 [] [] []) (xB 0 (ZlM N (cd Try.f94 [1,1,1]) Q))):=by kernel_rfl
 exact e_.mpr h
abbrev Zqp(N:Nat)(list:Int)(l:List Op)(x13:Int)(rl_10_0:List Op)(ml10_1 ml10_2:List Tree)(N0:NT)(Q:QT):=AW (Z1 (Z2l N)) Try.f94 ZeZ [1,1,0,1,0,0] (Y2 list l x13 rl_10_0 ml10_1 ml10_2) (xT N0 (xB 0 (SW (Z1 (Z2l N)) Try.f94 ZeZ [1,1,1] Q)))
theorem ZqG(N:Nat)(list:Int)(l:List Op)(x13:Int)(rl_10_0:List Op)(ml10_1 ml10_2:List Tree)(N0:NT)(Q:QT)(h:∀ y_1,y_1=(l.getD x13.toNat Op.nil)->∀ y_2,y_2=(Edit.mk 0 (Tree.mk 0 [] []) (Tree.mk 0 [] []) [] [] 0 [])->∀ y_3,y_3=(Int.toNat (((Z0 (Wst.mk rl_10_0 ml10_1 ml10_2)).out).length:Int))->∀ y_4,y_4=(y_1.e)->∀ y_5,y_5=(Zo y_4)->((decide (x13 < (l.length:Int)))=true->((0:Int)<=x13/\x13 < (l.length:Int))/\(((y_1.kind==0)=true->(Z3h ((rl_10_0,ml10_1,ml10_2,()),y_1.n,()))/\((InR (x13+1))/\(N0 (Y2 list l (x13+1) ((ZL (Wst.mk rl_10_0 ml10_1 ml10_2) y_1.n).out) ((ZL (Wst.mk rl_10_0 ml10_1 ml10_2) y_1.n).gone) ((ZL (Wst.mk rl_10_0 ml10_1 ml10_2) y_1.n).brought)))))/\((y_1.kind==0)=false->((y_1.kind==1)=true->(Z8d ((rl_10_0,ml10_1,ml10_2,()),y_1.l,()))/\((InR (x13+1))/\(N0 (Y2 list l (x13+1) ((Wst.mk rl_10_0 (ml10_1++Z5 y_1.l) ml10_2).out) ((Wst.mk rl_10_0 (ml10_1++Z5 y_1.l) ml10_2).gone) ((Wst.mk rl_10_0 (ml10_1++Z5 y_1.l) ml10_2).brought)))))/\((y_1.kind==1)=false->((y_1.kind==2)=true->(Z8d ((rl_10_0,ml10_1,ml10_2,()),y_1.l,()))/\((InR (x13+1))/\(N0 (Y2 list l (x13+1) ((Wst.mk rl_10_0 ml10_1 (ml10_2++Z5 y_1.l)).out) ((Wst.mk rl_10_0 ml10_1 (ml10_2++Z5 y_1.l)).gone) ((Wst.mk rl_10_0 ml10_1 (ml10_2++Z5 y_1.l)).brought)))))/\((y_1.kind==2)=false->((y_1.kind==3)=true->(Z0W (y_4,()))/\(ZbT (y_4,()) < N)/\((Z4J (list,y_5,()))/\(((Z1O list y_5)=true->(Z3h ((rl_10_0,ml10_1,ml10_2,()),1,()))/\((InR (x13+1))/\(N0 (Y2 list l (x13+1) ((ZL (Wst.mk rl_10_0 ml10_1 ml10_2) 1).out) ((ZL (Wst.mk rl_10_0 ml10_1 ml10_2) 1).gone) ((ZL (Wst.mk rl_10_0 ml10_1 ml10_2) 1).brought)))))/\((Z1O list y_5)=false->(Z0R ((rl_10_0,ml10_1,ml10_2,()),()))/\(((((Z0 (Wst.mk rl_10_0 ml10_1 ml10_2)).out).length+([(OpOf.mk 0 0 [] y_2:Op)]).length)*240<=140737488355328)/\((0:Int)<=(((Z0 (Wst.mk rl_10_0 ml10_1 ml10_2)).out).length:Int)/\(((Z0 (Wst.mk rl_10_0 ml10_1 ml10_2)).out).length:Int) < ((((Z0 (Wst.mk rl_10_0 ml10_1 ml10_2)).out)++([(OpOf.mk 0 0 [] y_2:Op)])).length:Int))/\((0:Nat)<=y_3)/\((InR (x13+1))/\(N0 (Y2 list l (x13+1) (List.set (((Z0 (Wst.mk rl_10_0 ml10_1 ml10_2)).out)++([(OpOf.mk 0 0 [] y_2:Op)])) y_3 (OpOf.mk 3 0 [] y_5:Op)) ((Z0 (Wst.mk rl_10_0 ml10_1 ml10_2)).gone) ((Z0 (Wst.mk rl_10_0 ml10_1 ml10_2)).brought)))))))))/\((y_1.kind==3)=false->(InR (x13+1))/\(N0 (Y2 list l (x13+1) rl_10_0 ml10_1 ml10_2))))))))/\((decide (x13 < (l.length:Int)))=false->(Z0R ((rl_10_0,ml10_1,ml10_2,()),()))/\(Q .ret (L2 [(4,.c (sU .op ((Z0 (Wst.mk rl_10_0 ml10_1 ml10_2)).out) (.own (.e 4 0))))] [])))):
  Zqp N list l x13 rl_10_0 ml10_1 ml10_2 N0 Q:=by
 have e_:(Zqp N list l x13 rl_10_0 ml10_1 ml10_2 N0 Q)=(let y_1:=(l.getD x13.toNat Op.nil);let y_2:=(Edit.mk 0 (Tree.mk 0 [] []) (Tree.mk 0 [] []) [] [] 0 []);let y_3:=(Int.toNat (((Z0 (Wst.mk rl_10_0 ml10_1 ml10_2)).out).length:Int));let y_4:=(JD y_1.e);let y_5:=(JD (Zo y_4));(((decide ((x13:Int) < (l.length:Int)))=true->((0:Int)<=x13/\x13 < (l.length:Int))/\(((y_1.kind==0)=true->(Z3h ((rl_10_0,ml10_1,ml10_2,()),y_1.n,()))/\((InR ((x13:Int)+1))/\(N0 (Y2 list l ((x13:Int)+1) ((ZL (Wst.mk rl_10_0 ml10_1 ml10_2) y_1.n).out) ((ZL (Wst.mk rl_10_0 ml10_1 ml10_2) y_1.n).gone) ((ZL (Wst.mk rl_10_0 ml10_1 ml10_2) y_1.n).brought)))))/\((y_1.kind==0)=false->(((y_1.kind==1)=true->(Z8d ((rl_10_0,ml10_1,ml10_2,()),y_1.l,()))/\((InR ((x13:Int)+1))/\(N0 (Y2 list l ((x13:Int)+1) ((Wst.mk rl_10_0 (ml10_1++Z5 y_1.l) ml10_2).out) ((Wst.mk rl_10_0 (ml10_1++Z5 y_1.l) ml10_2).gone) ((Wst.mk rl_10_0 (ml10_1++Z5 y_1.l) ml10_2).brought)))))/\((y_1.kind==1)=false->(((y_1.kind==2)=true->(Z8d ((rl_10_0,ml10_1,ml10_2,()),y_1.l,()))/\((InR ((x13:Int)+1))/\(N0 (Y2 list l ((x13:Int)+1) ((Wst.mk rl_10_0 ml10_1 (ml10_2++Z5 y_1.l)).out) ((Wst.mk rl_10_0 ml10_1 (ml10_2++Z5 y_1.l)).gone) ((Wst.mk rl_10_0 ml10_1 (ml10_2++Z5 y_1.l)).brought)))))/\((y_1.kind==2)=false->(((y_1.kind==3)=true->(Z0W (y_4,()))/\(ZbT (y_4,()) < N)/\((Z4J (list,y_5,()))/\(((Z1O list y_5)=true->(Z3h ((rl_10_0,ml10_1,ml10_2,()),1,()))/\((InR ((x13:Int)+1))/\(N0 (Y2 list l ((x13:Int)+1) ((ZL (Wst.mk rl_10_0 ml10_1 ml10_2) 1).out) ((ZL (Wst.mk rl_10_0 ml10_1 ml10_2) 1).gone) ((ZL (Wst.mk rl_10_0 ml10_1 ml10_2) 1).brought)))))/\((Z1O list y_5)=false->(Z0R ((rl_10_0,ml10_1,ml10_2,()),()))/\(((((Z0 (Wst.mk rl_10_0 ml10_1 ml10_2)).out).length+([(OpOf.mk 0 0 [] y_2:Op)]).length)*240<=140737488355328)/\((0:Int)<=(((Z0 (Wst.mk rl_10_0 ml10_1 ml10_2)).out).length:Int)/\(((Z0 (Wst.mk rl_10_0 ml10_1 ml10_2)).out).length:Int) < ((((Z0 (Wst.mk rl_10_0 ml10_1 ml10_2)).out)++([(OpOf.mk 0 0 [] y_2:Op)])).length:Int))/\((0:Nat)<=y_3)/\((InR ((x13:Int)+1))/\(N0 (Y2 list l ((x13:Int)+1) (List.set (((Z0 (Wst.mk rl_10_0 ml10_1 ml10_2)).out)++([(OpOf.mk 0 0 [] y_2:Op)])) y_3 (OpOf.mk 3 0 [] y_5:Op)) ((Z0 (Wst.mk rl_10_0 ml10_1 ml10_2)).gone) ((Z0 (Wst.mk rl_10_0 ml10_1 ml10_2)).brought)))))))))/\((y_1.kind==3)=false->(InR ((x13:Int)+1))/\(N0 (Y2 list l ((x13:Int)+1) rl_10_0 ml10_1 ml10_2)))))))))))/\((decide ((x13:Int) < (l.length:Int)))=false->(Z0R ((rl_10_0,ml10_1,ml10_2,()),()))/\(Q .ret (L2 [(4,.c (sU .op ((Z0 (Wst.mk rl_10_0 ml10_1 ml10_2)).out) (.own (.e 4 0))))] []))))):=by kernel_rfl
 exact e_.mpr (by intro y_1 y_2 y_3 y_4 y_5;have hh:=h y_1 rfl y_2 rfl y_3 rfl y_4 (Za _) y_5 (Za _);exact ⟨fun c_5=> ⟨(hh.1 c_5).1,⟨fun c_6=> ⟨((hh.1 c_5).2.1 c_6).1,⟨((hh.1 c_5).2.1 c_6).2.1,((hh.1 c_5).2.1 c_6).2.2⟩⟩,fun c_6=> ⟨fun c_7=> ⟨(((hh.1 c_5).2.2 c_6).1 c_7).1,⟨(((hh.1 c_5).2.2 c_6).1 c_7).2.1,(((hh.1 c_5).2.2 c_6).1 c_7).2.2⟩⟩,fun c_7=> ⟨fun c_8=> ⟨((((hh.1 c_5).2.2 c_6).2 c_7).1 c_8).1,⟨((((hh.1 c_5).2.2 c_6).2 c_7).1 c_8).2.1,((((hh.1 c_5).2.2 c_6).2 c_7).1 c_8).2.2⟩⟩,fun c_8=> ⟨fun c_9=> ⟨(((((hh.1 c_5).2.2 c_6).2 c_7).2 c_8).1 c_9).1,(((((hh.1 c_5).2.2 c_6).2 c_7).2 c_8).1 c_9).2.1,⟨(((((hh.1 c_5).2.2 c_6).2 c_7).2 c_8).1 c_9).2.2.1,⟨fun c_10=> ⟨((((((hh.1 c_5).2.2 c_6).2 c_7).2 c_8).1 c_9).2.2.2.1 c_10).1,⟨((((((hh.1 c_5).2.2 c_6).2 c_7).2 c_8).1 c_9).2.2.2.1 c_10).2.1,((((((hh.1 c_5).2.2 c_6).2 c_7).2 c_8).1 c_9).2.2.2.1 c_10).2.2⟩⟩,fun c_10=> ⟨((((((hh.1 c_5).2.2 c_6).2 c_7).2 c_8).1 c_9).2.2.2.2 c_10).1,⟨((((((hh.1 c_5).2.2 c_6).2 c_7).2 c_8).1 c_9).2.2.2.2 c_10).2.1,((((((hh.1 c_5).2.2 c_6).2 c_7).2 c_8).1 c_9).2.2.2.2 c_10).2.2.1,((((((hh.1 c_5).2.2 c_6).2 c_7).2 c_8).1 c_9).2.2.2.2 c_10).2.2.2.1,⟨((((((hh.1 c_5).2.2 c_6).2 c_7).2 c_8).1 c_9).2.2.2.2 c_10).2.2.2.2.1,((((((hh.1 c_5).2.2 c_6).2 c_7).2 c_8).1 c_9).2.2.2.2 c_10).2.2.2.2.2⟩⟩⟩⟩⟩⟩,fun c_9=> ⟨(((((hh.1 c_5).2.2 c_6).2 c_7).2 c_8).2 c_9).1,(((((hh.1 c_5).2.2 c_6).2 c_7).2 c_8).2 c_9).2⟩⟩⟩⟩⟩⟩,fun c_5=> ⟨(hh.2 c_5).1,(hh.2 c_5).2⟩⟩)
def ZwH(N:Nat)(list:Int)(l:List Op):Prop:=AW (Z1 (Z2l N)) Try.f94 ZeZ [] (Zj (Zfn.can (list,l,())) []) (EQ Try.f94 (Zgc (list,l,())) [])
abbrev ZyV:Prop:=∀ (N:Nat) (list:Int) (l:List Op) (_:Unit),Z93 (list,l,())->ZgK (list,l,()) < N+1->ZwH N list l
theorem Zmj(c71:CT 71 Z3b)(ZpV:CT 128 Z2t)(Zwj:CT 126 Z4z)(ZmI:CT 129 Z13)(ZpT:CT 127 Z3Q)(ha:Zz0)(hb:ZyV):CT 57 ZaW/\CT 94 Zny:=
 Z2o (μA:=ZbT) (μB:=ZgK) (l:=[(71,Z3b),(128,Z2t),(126,Z4z),(129,Z13),(127,Z3Q)]) Zl rfl (⟨c71,ZpV,Zwj,ZmI,ZpT,trivial⟩) Zf0 ZeZ Try.func57 Try.func94 rfl rfl rfl rfl 1 2 (fun _=> rfl) (fun _=> rfl) (by decide) (by decide) (fun N ⟨e,_⟩=> ha N e ()) (fun N ⟨list,l,_⟩=> hb N list l ())
end
end
theorem Zms(s:Wst)(n:Int):(ZL s n).out.length<=s.out.length+3:=by
 have h:=Z5c s
 simp only [ZL]
 rw [Z4j]
 split
 ·rw [K7];omega
 ·rw [Q6];simp;omega
theorem ZsH{s:Wst}{n B K:Int}(hB:0<=B)(hn:0<=n/\n<=K)(h:∀ o∈s.out,0<=o.n/\o.n<=B):∀ o∈(ZL s n).out,0<=o.n/\o.n<=B+K:=by
 have hF:∀ o∈(Z0 s).out,0<=o.n/\o.n<=B:=by
  intro o ho
  rcases Z5b s o ho with h1 | h1
  ·exact h o h1
  ·omega
 intro o ho
 simp only [ZL] at ho
 rw [Z4j] at ho
 split at ho
 ·rename_i hc
  rcases List.mem_or_eq_of_mem_set ho with ho | rfl
  ·have:=hF o ho;omega
  ·have:=hF _ (Zh (l:=(Z0 s).out) (i:=(Z0 s).out.length - 1) (by omega) Op.nil)
   simp only;omega
 ·rcases Qh.1 ho with ho | ho
  ·have:=hF o ho;omega
  ·simp only [Qe] at ho;subst ho;simp only;omega
theorem ZbN:∀ (l:List Kid),(YW l).length=l.length
 | []=> rfl
 | k ::r=> by simp [YW,ZbN r]
theorem Zib(e:Edit):(Zo e).words.length<=e.words.length/\(Zo e).kids.length<=e.kids.length:=by
 rw [Z3m]
 split
 ·simp
 ·split
  ·simp [ZbN]
  ·split <;> simp
theorem Z6w{list:Int}{o:Op}{d:Int}(h:Zg list o d=true)(hk:o.kind=0):1<=o.n/\o.n<=1048576:=by
 obtain ⟨k,n,l,e⟩:=o
 simp only at hk
 subst hk
 simp [Zg] at h
 show 1<=n/\n<=1048576
 omega
theorem Z6x{list:Int}{o:Op}{d:Int}(h:Zg list o d=true)(hk:o.kind=3):Z8 o.e d=true:=by
 obtain ⟨k,n,l,e⟩:=o
 simp only at hk
 subst hk
 simp [Zg] at h
 exact h.2.1.2
theorem ZdA{e:Edit}{d:Int}(h:Z8 e d=true)(hk:e.kind=2):∀ k∈e.kids,∃ d,Z8 k.e d=true:=by
 obtain ⟨k,o,n,w,ks,l,os⟩:=e
 change k=2 at hk
 subst hk
 have hks:∃ d last,ZB last ks d=true:=by
  unfold Z8 at h
  split at h
  ·cases h
  ·split at h
   ·cases h
   ·rw [if_neg (by omega)] at h
    simp only [Q1] at h
    exact ⟨_,_,h.1.1.1.2⟩
 obtain ⟨d',last,hks⟩:=hks
 change ∀ k∈ks,_
 clear h
 induction ks generalizing last with
 | nil=> intro k hk;cases hk
 | cons a r ih=>
  simp only [ZB,Q1] at hks
  intro k hk
  rcases Qc.1 hk with rfl | hk
  ·obtain ⟨a,e⟩:=k
   simp only [Jm,Q1] at hks
   exact ⟨_,hks.1.2⟩
  ·exact ih _ hks.2 k hk
theorem ZgB{e:Edit}{d:Int}(h:Z8 e d=true)(hk:e.kind=3):∀ o∈e.ops,∃ d,Zg e.list o d=true:=by
 obtain ⟨k,o,n,w,ks,l,os⟩:=e
 change k=3 at hk
 subst hk
 have hos:∃ d,ZF l os d=true:=by
  unfold Z8 at h
  split at h
  ·cases h
  ·split at h
   ·cases h
   ·rw [if_neg (by omega)] at h
    simp only [Q1] at h
    exact ⟨_,h.1.2⟩
 obtain ⟨d',hos⟩:=hos
 change ∀ o∈os,∃ d,Zg l o d=true
 clear h
 induction os with
 | nil=> intro k hk;cases hk
 | cons a r ih=>
  simp only [ZF,Q1] at hos
  intro k hk
  rcases Qc.1 hk with rfl | hk
  ·exact ⟨_,hos.1⟩
  ·exact ih hos.2 k hk
theorem b94:ZyV:=by
 intro N list l _ hp hN
 simp only [Z93,ZgK] at hp hN
 obtain ⟨p1,p3⟩:=hp
 have hl:=ZV l
 refine Zz4 _ _ _ _ ?_
 refine Z9 (ι:=Int × Wst) (fun s=> Y2 list l s.1 s.2.out s.2.gone s.2.brought)
  (fun s=> 0<=s.1/\s.1<=l.length/\Zn list (l.drop s.1.toNat) s.2=Zn list l ⟨[],[],[]⟩/\s.2.out.length<=3*s.1/\s.2.gone.length+s.2.brought.length+Zd (l.drop s.1.toNat)<=Zd l/\∀ o∈s.2.out,0<=o.n/\o.n<=s.1*1048576)
  (fun s=> ((l.length:Int) - s.1).toNat) (0,⟨[],[],[]⟩) rfl ⟨by simp,by simp,by simp,by simp,by simp,by simp⟩ ?_
 rintro ⟨i,s⟩ ⟨g1,g2,g3,g4,g5,g6⟩
 dsimp only at g1 g2 g3 g4 g5 g6
 refine ZqG _ _ _ _ _ _ _ _ _ ?_
 rintro y1 hy1 y2 hy2 y3 hy3 y4 hy4 y5 hy5
 have hy:y2=Edit.nil:=hy2
 subst hy
 have es:Wst.mk s.out s.gone s.brought=s:=rfl
 simp only [es] at hy3 ⊢
 (simp only [vcS])
 refine ⟨fun hi=> ?_,fun hi=> ?_⟩
 ·have hmem:=Zh (l:=l) (i:=i.toNat) (by omega) Op.nil
  have hm:=ZU hmem
  have hr:=p3 _ hmem
  rw [Yn g1 hi Op.nil] at g3 g5
  rw [<-hy1] at g3 g5 hm hr
  have hmo:=ZI y1
  simp only [Zn,YF,Zd] at g3 g5
  rw [<-hy4,<-hy5] at g3
  obtain ⟨d,hr2⟩:=hr
  have hfl:=Z5c s
  have hP:∀ n:Int,0<=n/\n<=1048576->Z3h ((s.out,s.gone,s.brought,()),n,()):=by
   intro n hn
   simp only [Z3h]
   refine ⟨by omega,by omega,by omega,fun o ho=> ?_,by omega,by omega⟩
   have:=g6 o ho
   constructor
   ·omega
   ·have:i*1048576<=20000000000*1048576:=by omega
    omega
  have hK:∀ n:Int,0<=n/\n<=1048576->Zn list (l.drop (i+1).toNat) (ZL s n)=Zn list l ⟨[],[],[]⟩->
    (∃ j:Int × Wst,Y2 list l (i+1) (ZL s n).out (ZL s n).gone (ZL s n).brought=Y2 list l j.1 j.2.out j.2.gone j.2.brought/\(0<=j.1/\j.1<=l.length/\Zn list (l.drop j.1.toNat) j.2=Zn list l ⟨[],[],[]⟩/\j.2.out.length<=3*j.1/\j.2.gone.length+j.2.brought.length+Zd (l.drop j.1.toNat)<=Zd l/\∀ o∈j.2.out,0<=o.n/\o.n<=j.1*1048576)/\((l.length:Int) - j.1).toNat < ((l.length:Int) - i).toNat):=by
   intro n hn he
   have h1:=Zms s n
   have h2:=ZsH (s:=s) (n:=n) (B:=i*1048576) (K:=1048576) (by omega) hn g6
   refine ⟨(i+1,ZL s n),rfl,⟨by dsimp only;omega,by dsimp only;omega,he,by dsimp only;omega,by simp only [ZL,List.length_nil];omega,fun o ho=> ?_⟩,by dsimp only;omega⟩
   have:=h2 o ho
   dsimp only
   omega
  refine ⟨⟨g1,hi⟩,fun hk=> ?_,fun hk=> ⟨fun hk1=> ?_,fun hk1=> ⟨fun hk2=> ?_,fun hk2=> ⟨fun hk3=> ?_,fun hk3=> ?_⟩⟩⟩⟩
  ·rw [if_pos hk] at g3
   have h1:=Z6w hr2 hk
   exact ⟨hP _ (by omega),by unfold InR;omega,hK _ (by omega) g3⟩
  ·rw [if_neg hk,if_pos hk1] at g3
   refine ⟨by simp only [Z8d];omega,by unfold InR;omega,(i+1,⟨s.out,s.gone++Z5 y1.l,s.brought⟩),rfl,⟨by dsimp only;omega,by dsimp only;omega,g3,by dsimp only;omega,?_,fun o ho=> ?_⟩,by dsimp only;omega⟩
   ·have:=Zs y1.l
    simp only [Q6,Z5,Xc];omega
   ·have:=g6 o ho
    dsimp only;omega
  ·rw [if_neg hk,if_neg hk1,if_pos hk2] at g3
   refine ⟨by simp only [Z8d];omega,by unfold InR;omega,(i+1,⟨s.out,s.gone,s.brought++Z5 y1.l⟩),rfl,⟨by dsimp only;omega,by dsimp only;omega,g3,by dsimp only;omega,?_,fun o ho=> ?_⟩,by dsimp only;omega⟩
   ·have:=Zs y1.l
    simp only [Q6,Z5,Xc];omega
   ·have:=g6 o ho
    dsimp only;omega
  ·rw [if_neg hk,if_neg hk1,if_neg hk2,if_pos hk3] at g3
   have hre:=Z6x hr2 hk3
   rw [<-hy4] at hre
   have hw:=Zib y4
   rw [<-hy5] at hw
   have h1:=YB y4
   have h2:=Ys y4.kids
   have hmE:Z7 y4<=Zv y1:=by rw [hmo,hy4];omega
   refine ⟨by simp only [Z0W];exact ⟨by omega,d,hre⟩,by simp only [ZbT];omega,by simp only [Z4J];omega,fun hq=> ?_,fun hq=> ?_⟩
   ·rw [if_pos hq] at g3
    exact ⟨hP 1 (by omega),by unfold InR;omega,hK 1 (by omega) g3⟩
   ·rw [if_neg (by rw [hq];simp)] at g3
    rw [hy3,Z0F]
    refine ⟨by simp only [Z0R];omega,by simp only [Q9,Qb];omega,by simp only [Q6,Q9,Qb];omega,by omega,by unfold InR;omega,(i+1,⟨(Z0 s).out++[⟨3,0,[],y5⟩],[],[]⟩),rfl,⟨by dsimp only;omega,by dsimp only;omega,g3,by simp;omega,by simp;omega,fun o ho=> ?_⟩,by dsimp only;omega⟩
    dsimp only at ho ⊢
    rcases Qh.1 ho with ho | ho
    ·rcases Z5b s o ho with h5 | h5
     ·have:=g6 o h5;omega
     ·omega
    ·simp only [Qe] at ho
     subst ho
     simp only;omega
  ·rw [if_neg hk,if_neg hk1,if_neg hk2,if_neg hk3] at g3
   refine ⟨by unfold InR;omega,(i+1,s),rfl,⟨by dsimp only;omega,by dsimp only;omega,g3,by dsimp only;omega,by dsimp only;omega,fun o ho=> ?_⟩,by dsimp only;omega⟩
   have:=g6 o ho
   dsimp only;omega
 ·rw [Qg (by omega)] at g3
  simp only [Zn] at g3
  refine ⟨by simp only [Z0R];omega,?_⟩
  simp only [Zgc]
  rw [<-g3]
  (repeat' (first | exact trivial | exact rfl | apply And.intro))
theorem b57:Zz0:=by
 intro N e _ hp hN
 simp only [Z0W,ZbT] at hp hN
 obtain ⟨p1,d,p3⟩:=hp
 have h1:=YB e
 have h2:=Ys e.kids
 have h3:=ZV e.ops
 have ha:=Z3m e
 refine Zzo _ _ _ ?_
 (simp only [vcS])
 (simp only [Tree.eta,Edit.eta,Tree.kind_mk,Tree.words_mk,Tree.kids_mk])
 refine ⟨fun hk=> ⟨by simp only [Z1F];omega,by simp only [Z1F];omega,?_⟩,fun hk=> ⟨fun hk2=> ⟨by simp;omega,?_⟩,fun hk2=> ⟨fun hk3=> ⟨?_,by simp only [ZgK];omega,?_⟩,fun hk3=> ?_⟩⟩⟩
 ·rw [if_pos hk] at ha
  simp only [Z91,ha]
  (repeat' (first | exact trivial | exact rfl | apply And.intro))
 ·rw [if_neg hk,if_pos hk2] at ha
  refine Z9 (ι:=Int × List Kid) (fun s=> Z2Q e s.1 s.2) (fun s=> 0<=s.1/\s.1<=e.kids.length/\s.2.length=s.1/\s.2++YW (e.kids.drop s.1.toNat)=YW e.kids) (fun s=> ((e.kids.length:Int) - s.1).toNat) (0,[]) rfl ⟨by simp,by simp,by simp,by simp⟩ ?_
  rintro ⟨j,ks⟩ ⟨f1,f2,f3,f4⟩
  dsimp only at f1 f2 f3 f4
  refine Zr4 _ _ _ _ _ _ ?_
  rintro y1 hy1 y2 hy2 y3 hy3
  (simp only [vcS])
  refine ⟨fun hj=> ?_,fun hj=> ?_⟩
  ·have hmem:=Zh (l:=e.kids) (i:=j.toNat) (by omega) (KidOf.mk 0 Edit.nil)
   have hm:=J6 hmem
   have hr:=ZdA p3 hk2 _ hmem
   rw [Yn f1 hj (KidOf.mk 0 Edit.nil)] at f4
   rw [<-hy1] at f4 hm hr
   simp only [YW,Z8m] at f4
   rw [<-hy2] at f4 hm hr
   rw [<-hy3] at f4
   refine ⟨⟨f1,hj⟩,by simp only [Z0W];exact ⟨by omega,hr⟩,by simp only [ZbT];omega,by simp;omega,by unfold InR;omega,(j+1,ks++[⟨y1.at_,y3⟩]),rfl,⟨by dsimp only;omega,by dsimp only;omega,by simp;omega,?_⟩,by dsimp only;omega⟩
   simp only [Qd,Qo,Qu]
   exact f4
  ·rw [Qg (by omega)] at f4
   simp only [YW,QG] at f4
   rw [f4]
   simp only [Z91,ha]
   (repeat' (first | exact trivial | exact rfl | apply And.intro))
 ·simp only [Z93]
  exact ⟨by omega,fun o ho=> ZgB p3 hk3 o ho⟩
 ·rw [if_neg hk,if_neg hk2,if_pos hk3] at ha
  simp only [Z91,ha]
  (repeat' (first | exact trivial | exact rfl | apply And.intro))
 ·rw [if_neg hk,if_neg hk2,if_neg hk3] at ha
  simp only [Z91,ha]
  (repeat' (first | exact trivial | exact rfl | apply And.intro))
theorem ZvT:Contract Try.prog cfg 57 ZaW/\Contract Try.prog cfg 94 Zny:=Zmj c71 ZpV Zwj ZmI ZpT b57 b94
noncomputable section
noncomputable section
def Z0T(N:Nat):List (FuncId × Fs U):=(32,fs Zll (fun a=> [Z0W a,ZbT a < N]) Z91) ::(76,fs Zfn (fun a=> [Z93 a,ZgK a < N]) Zgc) ::[(45,Z3b),(110,Z4A),(111,Z2u)]
def Zc3:Zf U:=fun i=> match i with
 | 0=> ([(1,[]),(2,[])],[(.loc 1,[]),(.loc 2,[])])
 | 1=> ([(1,[]),(2,[]),(6,[])],[(.loc 1,[]),(.loc 2,[])])
 | 2=> ([(1,[]),(2,[]),(6,[]),(7,[])],[(.loc 1,[]),(.loc 2,[])])
 | 3=> ([(2,[])],[(.loc 2,[])])
 | 4=> ([(1,[]),(2,[]),(6,[]),(16,[])],[(.loc 1,[]),(.loc 2,[])])
 | 5=> ([(1,[]),(2,[]),(3,[])],[(.loc 1,[]),(.loc 2,[]),(.loc 3,[])])
 | 6=> ([(1,[]),(2,[]),(3,[])],[(.loc 1,[]),(.loc 2,[]),(.loc 3,[])])
 | 7=> ([(1,[]),(2,[]),(3,[]),(4,[])],[(.loc 1,[]),(.loc 2,[]),(.loc 3,[.any,.any,.any,.any,.any,.any,.any,.any,.own .kid])])
 | 8=> ([(1,[]),(2,[]),(3,[]),(4,[]),(29,[])],[(.loc 1,[]),(.loc 2,[]),(.loc 3,[])])
 | 9=> ([(1,[]),(2,[]),(3,[]),(4,[])],[(.loc 1,[]),(.loc 2,[]),(.loc 3,[.any,.any,.any,.any,.any,.any,.any,.any,.own .kid])])
 | 10=> ([(1,[]),(2,[]),(3,[]),(4,[])],[(.loc 1,[]),(.loc 2,[]),(.loc 3,[])])
 | 11=> ([(2,[])],[(.loc 2,[])])
 | 12=> ([(1,[]),(2,[]),(52,[])],[(.loc 1,[]),(.loc 2,[])])
 | 13=> ([(2,[])],[(.loc 2,[])])
 | 14=> ([(2,[])],[(.loc 2,[])])
 | _=> ([],[])
def Z2R(e:Edit)(x4:Int)(ml3_8:List Kid):LSt U:=(L2 [pL 1,pL 2,pL 3,pI 4 x4] [(.loc 1,(enc .edit e)),(.loc 2,zc1),(.loc 3,[ci 2,ci 0,.nils,.nils,ci 0,.nils,.nils,sU .wedit (([]:List WEdit)++e.words) (.own (.l 3 7)),sU .kid ml3_8 (.own (.l 3 8)),ci 0,.nils])])
abbrev W32(N:Nat)(e:Edit)(Q:QT):=AW (Z1 (Z0T N)) Try.f32 Zc3 [] (L2 [(0,.agg (enc .edit e))] []) Q
abbrev ZmU(N:Nat):=awp cfg (Z1 (Z0T N)) (ZW cfg (Z1 (Z0T N))) Try.f32.ntmps Zc3
abbrev ZcZ(N:Nat):=Ze9 cfg (Z1 (Z0T N)) (ZW cfg (Z1 (Z0T N))) Try.f32.ntmps Zc3
theorem Zzv(N:Nat)(e:Edit)(Q:QT)(h:((e.kind==1)=true->(Z1F ((Tree.mk e.old.kind e.old.words e.old.kids),()))/\(Z1F ((Tree.mk e.new.kind e.new.words e.new.kids),()))/\(Q .ret (L2 [pL 2] [(.loc 2,([ci 1]++enc .tree (Z4 (Tree.mk e.old.kind e.old.words e.old.kids))++enc .tree (Z4 (Tree.mk e.new.kind e.new.words e.new.kids))++[.nils,.nils,ci 0,.nils]))])))/\((e.kind==1)=false->((e.kind==2)=true->((([]:List WEdit).length+e.words.length)*32<=140737488355328)/\(Zi (AW (Z1 (Z0T N)) Try.f32 Zc3 [1,0,1,0,1,1,1,0,1,1,0,1,0,0]) (Z2R e 0 []) (xB 1 (SW (Z1 (Z0T N)) Try.f32 Zc3 [1,0,1,0,1,1,1,0,1,1,1] (xB 0 (SW (Z1 (Z0T N)) Try.f32 Zc3 [1,1] Q))))))/\((e.kind==2)=false->((e.kind==3)=true->(Z93 (e.list,e.ops,()))/\(ZgK (e.list,e.ops,()) < N)/\(Q .ret (L2 [pL 2] [(.loc 2,[ci 3,ci 0,.nils,.nils,ci 0,.nils,.nils,.nils,.nils,ci e.list,sU .op ((Z0 (Zn e.list e.ops (Wst.mk [] [] []))).out) .unk])])))/\((e.kind==3)=false->Q .ret (L2 [pL 2] [(.loc 2,zc1)]))))):
  W32 N e Q:=by
 have e_:(W32 N e Q)=(((e.kind==1)=true->(Z1F ((Tree.mk e.old.kind e.old.words e.old.kids),()))/\(Z1F ((Tree.mk e.new.kind e.new.words e.new.kids),()))/\(Q .ret (L2 [pL 2] [(.loc 2,([ci 1]++enc .tree (Z4 (Tree.mk e.old.kind e.old.words e.old.kids))++enc .tree (Z4 (Tree.mk e.new.kind e.new.words e.new.kids))++[.nils,.nils,ci 0,.nils]))])))/\((e.kind==1)=false->(((e.kind==2)=true->(((([]:List WEdit).length+e.words.length)*32<=140737488355328)/\(Zi (ZmU N (cd Try.f32 [1,0,1,0,1,1,1,0,1,1,0,1,0,0])) (Z2R e 0 []) (xB 1 (ZcZ N (cd Try.f32 [1,0,1,0,1,1,1,0,1,1,1]) (xB 0 (ZcZ N (cd Try.f32 [1,1]) Q)))))))/\((e.kind==2)=false->(((e.kind==3)=true->(Z93 (e.list,e.ops,()))/\(ZgK (e.list,e.ops,()) < N)/\(Q .ret (L2 [pL 2] [(.loc 2,[ci 3,ci 0,.nils,.nils,ci 0,.nils,.nils,.nils,.nils,ci e.list,sU .op ((Z0 (Zn e.list e.ops (Wst.mk [] [] []))).out) .unk])])))/\((e.kind==3)=false->(Q .ret (L2 [pL 2] [(.loc 2,zc1)])))))))):=by kernel_rfl
 exact e_.mpr ⟨fun c_1=> ⟨(h.1 c_1).1,(h.1 c_1).2.1,(h.1 c_1).2.2⟩,fun c_1=> ⟨fun c_2=> ⟨((h.2 c_1).1 c_2).1,((h.2 c_1).1 c_2).2⟩,fun c_2=> ⟨fun c_3=> ⟨(((h.2 c_1).2 c_2).1 c_3).1,(((h.2 c_1).2 c_2).1 c_3).2.1,(((h.2 c_1).2 c_2).1 c_3).2.2⟩,fun c_3=> (((h.2 c_1).2 c_2).2 c_3)⟩⟩⟩
abbrev Zqs(N:Nat)(e:Edit)(x4:Int)(ml3_8:List Kid)(N0:NT)(Q:QT):=AW (Z1 (Z0T N)) Try.f32 Zc3 [1,0,1,0,1,1,1,0,1,1,0,1,0,0] (Z2R e x4 ml3_8) (xT N0 (xB 1 (SW (Z1 (Z0T N)) Try.f32 Zc3 [1,0,1,0,1,1,1,0,1,1,1] (xB 0 (SW (Z1 (Z0T N)) Try.f32 Zc3 [1,1] Q)))))
theorem Zr9(N:Nat)(e:Edit)(x4:Int)(ml3_8:List Kid)(N0:NT)(Q:QT)(h:∀ y_1,y_1=(e.kids.getD x4.toNat (KidOf.mk 0 Edit.nil))->∀ y_2,y_2=(y_1.e)->∀ y_3,y_3=(Zo y_2)->((decide (x4 < (e.kids.length:Int)))=true->((0:Int)<=x4/\x4 < (e.kids.length:Int))/\((0:Int)<=x4/\x4 < (e.kids.length:Int))/\(Z0W (y_2,()))/\(ZbT (y_2,()) < N)/\((ml3_8.length+([(KidOf.mk y_1.at_ y_3:Kid)]).length)*208<=140737488355328)/\((InR (x4+1))/\(N0 (Z2R e (x4+1) (ml3_8++([(KidOf.mk y_1.at_ y_3:Kid)]))))))/\((decide (x4 < (e.kids.length:Int)))=false->Q .ret (L2 [pL 2] [(.loc 2,[ci 2,ci 0,.nils,.nils,ci 0,.nils,.nils,sU .wedit (([]:List WEdit)++e.words) (.own (.l 2 7)),sU .kid ml3_8 (.own (.l 2 8)),ci 0,.nils])]))):
  Zqs N e x4 ml3_8 N0 Q:=by
 have e_:(Zqs N e x4 ml3_8 N0 Q)=(let y_1:=(e.kids.getD x4.toNat (KidOf.mk 0 Edit.nil));let y_2:=(JD y_1.e);let y_3:=(JD (Zo y_2));(((decide ((x4:Int) < (e.kids.length:Int)))=true->((0:Int)<=x4/\x4 < (e.kids.length:Int))/\((0:Int)<=x4/\x4 < (e.kids.length:Int))/\(Z0W (y_2,()))/\(ZbT (y_2,()) < N)/\((ml3_8.length+([(KidOf.mk y_1.at_ y_3:Kid)]).length)*208<=140737488355328)/\((InR ((x4:Int)+1))/\(N0 (Z2R e ((x4:Int)+1) (ml3_8++([(KidOf.mk y_1.at_ y_3:Kid)]))))))/\((decide ((x4:Int) < (e.kids.length:Int)))=false->(Q .ret (L2 [pL 2] [(.loc 2,[ci 2,ci 0,.nils,.nils,ci 0,.nils,.nils,sU .wedit (([]:List WEdit)++e.words) (.own (.l 2 7)),sU .kid ml3_8 (.own (.l 2 8)),ci 0,.nils])]))))):=by kernel_rfl
 exact e_.mpr (by intro y_1 y_2 y_3;have hh:=h y_1 rfl y_2 (Za _) y_3 (Za _);exact ⟨fun c_4=> ⟨(hh.1 c_4).1,(hh.1 c_4).2.1,(hh.1 c_4).2.2.1,(hh.1 c_4).2.2.2.1,(hh.1 c_4).2.2.2.2.1,⟨(hh.1 c_4).2.2.2.2.2.1,(hh.1 c_4).2.2.2.2.2.2⟩⟩,fun c_4=> (hh.2 c_4)⟩)
def Zx8(N:Nat)(e:Edit):Prop:=AW (Z1 (Z0T N)) Try.f32 Zc3 [] (Zj (Zll.can (e,())) []) (EQ Try.f32 (Z91 (e,())) [])
abbrev Zz1:Prop:=∀ (N:Nat) (e:Edit) (_:Unit),Z0W (e,())->ZbT (e,()) < N+1->Zx8 N e
def Z18:Zf U:=fun i=> match i with
 | 0=> ([(0,[]),(1,[])],[])
 | 1=> ([(0,[]),(1,[]),(5,[.wr .op])],[])
 | 2=> ([(0,[]),(1,[]),(5,[.wr .op]),(6,[])],[])
 | 3=> ([(0,[]),(1,[]),(5,[.wr .op]),(6,[]),(16,[])],[])
 | 4=> ([(0,[]),(1,[]),(5,[.wr .op]),(6,[])],[])
 | 5=> ([(0,[]),(1,[]),(5,[.wr .op]),(6,[]),(7,[]),(8,[])],[])
 | 6=> ([(0,[]),(1,[]),(5,[.wr .op]),(7,[]),(8,[]),(9,[])],[])
 | 7=> ([(0,[]),(1,[]),(5,[.wr .op]),(7,[]),(8,[]),(9,[]),(33,[])],[])
 | 8=> ([(0,[]),(1,[]),(5,[.wr .op]),(8,[]),(9,[])],[])
 | 9=> ([(0,[]),(1,[]),(5,[.wr .op]),(8,[]),(9,[]),(41,[])],[])
 | 10=> ([(0,[]),(1,[]),(5,[.wr .op]),(8,[]),(9,[]),(41,[])],[])
 | 11=> ([(0,[]),(1,[]),(5,[.wr .op]),(6,[])],[])
 | 12=> ([(0,[]),(1,[]),(5,[.wr .op]),(6,[]),(51,[])],[])
 | 13=> ([(4,[])],[])
 | 14=> ([(0,[]),(1,[]),(5,[.wr .op]),(6,[]),(11,[])],[(.loc 11,[])])
 | 15=> ([(0,[]),(1,[]),(5,[.wr .op]),(6,[]),(11,[]),(64,[])],[(.loc 11,[])])
 | 16=> ([(0,[]),(1,[]),(5,[.wr .op]),(6,[]),(11,[])],[(.loc 11,[])])
 | 17=> ([(0,[]),(1,[]),(5,[.wr .op]),(6,[]),(11,[]),(75,[])],[(.loc 11,[])])
 | 18=> ([(0,[]),(1,[]),(5,[.wr .op]),(6,[]),(11,[])],[(.loc 11,[])])
 | 19=> ([(0,[]),(1,[]),(5,[.wr .op]),(6,[]),(11,[]),(12,[])],[(.loc 11,[])])
 | 20=> ([(0,[]),(1,[]),(5,[.wr .op]),(6,[]),(11,[]),(12,[]),(94,[])],[(.loc 11,[])])
 | 21=> ([(0,[]),(1,[]),(5,[.wr .op]),(6,[])],[])
 | 22=> ([(0,[]),(1,[]),(5,[.wr .op]),(6,[])],[])
 | 23=> ([(4,[])],[])
 | _=> ([],[])
def ZS(list:Int)(l:List Op)(x6:Int)(re_5_0:List Op):LSt U:=(⟨[pI 0 list,(1,.c (sU .op l .unk)),(5,.c (.mref (.e 5 0))),pI 6 x6],[],[(.e 5 0,LC.mk (U:=U) .op re_5_0 0)]⟩:LSt U)
def Z0e(list:Int)(l:List Op)(x6:Int)(re_5_0_a:List Op):LSt U:=(⟨[pI 0 list,(1,.c (sU .op l .unk)),(5,.c (.mref (.e 5 0))),pI 8 (x6+ZE (l.drop x6.toNat)),(9,.c (sU .tree (Yg 2 (l.drop x6.toNat)) .unk)),(41,.c (.bool (decide ((0:Int) < ((Yg 2 (l.drop x6.toNat)).length:Int)))))],[],[(.e 5 0,LC.mk (U:=U) .op re_5_0_a 0)]⟩:LSt U)
abbrev W76(N:Nat)(list:Int)(l:List Op)(Q:QT):=AW (Z1 (Z0T N)) Try.f76 Z18 [] (L2 [pI 0 list,(1,.c (sU .op l .unk))] []) Q
abbrev Z32(N:Nat):=awp cfg (Z1 (Z0T N)) (ZW cfg (Z1 (Z0T N))) Try.f76.ntmps Z18
abbrev Jy(N:Nat):=Ze9 cfg (Z1 (Z0T N)) (ZW cfg (Z1 (Z0T N))) Try.f76.ntmps Z18
theorem Zzb(N:Nat)(list:Int)(l:List Op)(Q:QT)(h:Zi (AW (Z1 (Z0T N)) Try.f76 Z18 [1,1,0,1,0,0]) (ZS list l 0 []) (xB 0 (SW (Z1 (Z0T N)) Try.f76 Z18 [1,1,1] Q))):
  W76 N list l Q:=by
 have e_:(W76 N list l Q)=(Zi (Z32 N (cd Try.f76 [1,1,0,1,0,0])) (ZS list l 0 []) (xB 0 (Jy N (cd Try.f76 [1,1,1]) Q))):=by kernel_rfl
 exact e_.mpr h
abbrev Zqq(N:Nat)(list:Int)(l:List Op)(x6:Int)(re_5_0:List Op)(N0:NT)(Q:QT):=AW (Z1 (Z0T N)) Try.f76 Z18 [1,1,0,1,0,0] (ZS list l x6 re_5_0) (xT N0 (xB 0 (SW (Z1 (Z0T N)) Try.f76 Z18 [1,1,1] Q)))
theorem ZqO(N:Nat)(list:Int)(l:List Op)(x6:Int)(re_5_0:List Op)(N0:NT)(Q:QT)(h:∀ y_1,y_1=(Edit.mk 0 (Tree.mk 0 [] []) (Tree.mk 0 [] []) [] [] 0 [])->((decide (x6 < (l.length:Int)))=true->(Z3i (l,x6,1,()))/\((Z3i (l,x6,2,()))/\(((decide ((0:Int) < ((Yg 1 (l.drop x6.toNat)).length:Int)))=true->((re_5_0.length+([(OpOf.mk 1 0 (Yg 1 (l.drop x6.toNat)) y_1:Op)]).length)*240<=140737488355328)/\(((decide ((0:Int) < ((Yg 2 (l.drop x6.toNat)).length:Int)))=true->(((re_5_0++([(OpOf.mk 1 0 (Yg 1 (l.drop x6.toNat)) y_1:Op)])).length+([(OpOf.mk 2 0 (Yg 2 (l.drop x6.toNat)) y_1:Op)]).length)*240<=140737488355328)/\(AW (Z1 (Z0T N)) Try.f76 Z18 [1,1,0,1,0,0,1,0,0,1,1,1,1] (Z0e list l x6 ((re_5_0++([(OpOf.mk 1 0 (Yg 1 (l.drop x6.toNat)) y_1:Op)]))++([(OpOf.mk 2 0 (Yg 2 (l.drop x6.toNat)) y_1:Op)]))) (xB 1 (SW (Z1 (Z0T N)) Try.f76 Z18 [1,1,0,1,0,0,1,1] (xT N0 (xB 0 (SW (Z1 (Z0T N)) Try.f76 Z18 [1,1,1] Q)))))))/\((decide ((0:Int) < ((Yg 2 (l.drop x6.toNat)).length:Int)))=false->AW (Z1 (Z0T N)) Try.f76 Z18 [1,1,0,1,0,0,1,0,0,1,1,1,1] (Z0e list l x6 (re_5_0++([(OpOf.mk 1 0 (Yg 1 (l.drop x6.toNat)) y_1:Op)]))) (xB 1 (SW (Z1 (Z0T N)) Try.f76 Z18 [1,1,0,1,0,0,1,1] (xT N0 (xB 0 (SW (Z1 (Z0T N)) Try.f76 Z18 [1,1,1] Q))))))))/\((decide ((0:Int) < ((Yg 1 (l.drop x6.toNat)).length:Int)))=false->((decide ((0:Int) < ((Yg 2 (l.drop x6.toNat)).length:Int)))=true->((re_5_0.length+([(OpOf.mk 2 0 (Yg 2 (l.drop x6.toNat)) y_1:Op)]).length)*240<=140737488355328)/\(AW (Z1 (Z0T N)) Try.f76 Z18 [1,1,0,1,0,0,1,0,0,1,1,1,1] (Z0e list l x6 (re_5_0++([(OpOf.mk 2 0 (Yg 2 (l.drop x6.toNat)) y_1:Op)]))) (xB 1 (SW (Z1 (Z0T N)) Try.f76 Z18 [1,1,0,1,0,0,1,1] (xT N0 (xB 0 (SW (Z1 (Z0T N)) Try.f76 Z18 [1,1,1] Q)))))))/\((decide ((0:Int) < ((Yg 2 (l.drop x6.toNat)).length:Int)))=false->AW (Z1 (Z0T N)) Try.f76 Z18 [1,1,0,1,0,0,1,0,0,1,1,1,1] (Z0e list l x6 re_5_0) (xB 1 (SW (Z1 (Z0T N)) Try.f76 Z18 [1,1,0,1,0,0,1,1] (xT N0 (xB 0 (SW (Z1 (Z0T N)) Try.f76 Z18 [1,1,1] Q))))))))))/\((decide (x6 < (l.length:Int)))=false->Q .ret (L2 [(4,.c (sU .op re_5_0 (.own (.e 4 0))))] []))):
  Zqq N list l x6 re_5_0 N0 Q:=by
 have e_:(Zqq N list l x6 re_5_0 N0 Q)=(let y_1:=(Edit.mk 0 (Tree.mk 0 [] []) (Tree.mk 0 [] []) [] [] 0 []);let zz1:=(decide ((0:Int) < ((Yg 1 (l.drop x6.toNat)).length:Int)));let zz0:=(decide ((0:Int) < ((Yg 2 (l.drop x6.toNat)).length:Int)));(((decide ((x6:Int) < (l.length:Int)))=true->(Z3i (l,x6,1,()))/\((Z3i (l,x6,2,()))/\((zz1=true->((re_5_0.length+([(OpOf.mk 1 0 (Yg 1 (l.drop x6.toNat)) y_1:Op)]).length)*240<=140737488355328)/\((zz0=true->(((re_5_0++([(OpOf.mk 1 0 (Yg 1 (l.drop x6.toNat)) y_1:Op)])).length+([(OpOf.mk 2 0 (Yg 2 (l.drop x6.toNat)) y_1:Op)]).length)*240<=140737488355328)/\(Z32 N (cd Try.f76 [1,1,0,1,0,0,1,0,0,1,1,1,1]) (Z0e list l x6 ((re_5_0++([(OpOf.mk 1 0 (Yg 1 (l.drop x6.toNat)) y_1:Op)]))++([(OpOf.mk 2 0 (Yg 2 (l.drop x6.toNat)) y_1:Op)]))) (xB 1 (Jy N (cd Try.f76 [1,1,0,1,0,0,1,1]) (xT N0 (xB 0 (Jy N (cd Try.f76 [1,1,1]) Q)))))))/\(zz0=false->Z32 N (cd Try.f76 [1,1,0,1,0,0,1,0,0,1,1,1,1]) (Z0e list l x6 (re_5_0++([(OpOf.mk 1 0 (Yg 1 (l.drop x6.toNat)) y_1:Op)]))) (xB 1 (Jy N (cd Try.f76 [1,1,0,1,0,0,1,1]) (xT N0 (xB 0 (Jy N (cd Try.f76 [1,1,1]) Q))))))))/\(zz1=false->((zz0=true->((re_5_0.length+([(OpOf.mk 2 0 (Yg 2 (l.drop x6.toNat)) y_1:Op)]).length)*240<=140737488355328)/\(Z32 N (cd Try.f76 [1,1,0,1,0,0,1,0,0,1,1,1,1]) (Z0e list l x6 (re_5_0++([(OpOf.mk 2 0 (Yg 2 (l.drop x6.toNat)) y_1:Op)]))) (xB 1 (Jy N (cd Try.f76 [1,1,0,1,0,0,1,1]) (xT N0 (xB 0 (Jy N (cd Try.f76 [1,1,1]) Q)))))))/\(zz0=false->Z32 N (cd Try.f76 [1,1,0,1,0,0,1,0,0,1,1,1,1]) (Z0e list l x6 re_5_0) (xB 1 (Jy N (cd Try.f76 [1,1,0,1,0,0,1,1]) (xT N0 (xB 0 (Jy N (cd Try.f76 [1,1,1]) Q)))))))))))/\((decide ((x6:Int) < (l.length:Int)))=false->(Q .ret (L2 [(4,.c (sU .op re_5_0 (.own (.e 4 0))))] []))))):=by kernel_rfl
 exact e_.mpr (by intro y_1;have hh:=h y_1 rfl;exact ⟨fun c_5=> ⟨(hh.1 c_5).1,⟨(hh.1 c_5).2.1,⟨fun c_6=> ⟨((hh.1 c_5).2.2.1 c_6).1,⟨fun c_7=> ⟨(((hh.1 c_5).2.2.1 c_6).2.1 c_7).1,(((hh.1 c_5).2.2.1 c_6).2.1 c_7).2⟩,fun c_7=> (((hh.1 c_5).2.2.1 c_6).2.2 c_7)⟩⟩,fun c_6=> ⟨fun c_8=> ⟨(((hh.1 c_5).2.2.2 c_6).1 c_8).1,(((hh.1 c_5).2.2.2 c_6).1 c_8).2⟩,fun c_8=> (((hh.1 c_5).2.2.2 c_6).2 c_8)⟩⟩⟩⟩,fun c_5=> (hh.2 c_5)⟩)
abbrev Zj9(N:Nat)(list:Int)(l:List Op)(x6:Int)(re_5_0_a:List Op)(N0:NT)(Q:QT):=AW (Z1 (Z0T N)) Try.f76 Z18 [1,1,0,1,0,0,1,0,0,1,1,1,1] (Z0e list l x6 re_5_0_a) (xB 1 (SW (Z1 (Z0T N)) Try.f76 Z18 [1,1,0,1,0,0,1,1] (xT N0 (xB 0 (SW (Z1 (Z0T N)) Try.f76 Z18 [1,1,1] Q)))))
theorem ZqP(N:Nat)(list:Int)(l:List Op)(x6:Int)(re_5_0_a:List Op)(N0:NT)(Q:QT)(h:∀ y_1,y_1=(List.getD l (Int.toNat (x6+ZE (l.drop x6.toNat))) Op.nil)->∀ y_2,y_2=(Edit.mk 0 (Tree.mk 0 [] []) (Tree.mk 0 [] []) [] [] 0 [])->∀ y_3,y_3=(List.getD re_5_0_a (Int.toNat (((re_5_0_a.length:Int):Int) - 1)) Op.nil)->∀ y_4,y_4=(y_1.e)->∀ y_5,y_5=(y_3.e)->∀ y_6,y_6=(Zo y_4)->((decide (((l.length:Int):Int)<=(x6+ZE (l.drop x6.toNat))))=true->Q .ret (L2 [(4,.c (sU .op re_5_0_a (.own (.e 4 0))))] []))/\((decide (((l.length:Int):Int)<=(x6+ZE (l.drop x6.toNat))))=false->((0:Int)<=(x6+ZE (l.drop x6.toNat))/\(x6+ZE (l.drop x6.toNat)) < (l.length:Int))/\(((0:Int)<=(x6+ZE (l.drop x6.toNat))/\(x6+ZE (l.drop x6.toNat)) < (l.length:Int))/\(((y_1.kind==3)=true->((0:Int)<=(x6+ZE (l.drop x6.toNat))/\(x6+ZE (l.drop x6.toNat)) < (l.length:Int))/\(Z0W (y_4,()))/\(ZbT (y_4,()) < N)/\((Z6K (list,y_6,()))/\(((Z1O list y_6)=true->((bif ((0:Int)==0) then (decide ((0:Int) < (re_5_0_a.length:Int))) else false)=true->InR (((re_5_0_a.length:Int):Int) - 1))/\((bif ((0:Int)==0) then (decide ((0:Int) < (re_5_0_a.length:Int))) else false)=true->(0:Int)<=(((re_5_0_a.length:Int):Int) - 1)/\(((re_5_0_a.length:Int):Int) - 1) < (re_5_0_a.length:Int))/\(((bif (bif ((0:Int)==0) then (decide ((0:Int) < (re_5_0_a.length:Int))) else false) then (y_3.kind==0) else false)=true->(InR (((re_5_0_a.length:Int):Int) - 1))/\(InR (((re_5_0_a.length:Int):Int) - 1))/\((0:Int)<=(((re_5_0_a.length:Int):Int) - 1)/\(((re_5_0_a.length:Int):Int) - 1) < (re_5_0_a.length:Int))/\(InR (y_3.n+1))/\((0:Int)<=(((re_5_0_a.length:Int):Int) - 1)/\(((re_5_0_a.length:Int):Int) - 1) < (re_5_0_a.length:Int))/\((0:Nat)<=(Int.toNat (((re_5_0_a.length:Int):Int) - 1)))/\((InR (((x6+ZE (l.drop x6.toNat)):Int)+1))/\(N0 (ZS list l (((x6+ZE (l.drop x6.toNat)):Int)+1) (List.set re_5_0_a (Int.toNat (((re_5_0_a.length:Int):Int) - 1)) (OpOf.mk y_3.kind (y_3.n+1) y_3.l y_5:Op))))))/\((bif (bif ((0:Int)==0) then (decide ((0:Int) < (re_5_0_a.length:Int))) else false) then (y_3.kind==0) else false)=false->((re_5_0_a.length+([(OpOf.mk 0 1 [] y_2:Op)]).length)*240<=140737488355328)/\((InR (((x6+ZE (l.drop x6.toNat)):Int)+1))/\(N0 (ZS list l (((x6+ZE (l.drop x6.toNat)):Int)+1) (re_5_0_a++([(OpOf.mk 0 1 [] y_2:Op)]))))))))/\((Z1O list y_6)=false->((bif ((3:Int)==0) then (decide ((0:Int) < (re_5_0_a.length:Int))) else false)=true->InR (((re_5_0_a.length:Int):Int) - 1))/\((bif ((3:Int)==0) then (decide ((0:Int) < (re_5_0_a.length:Int))) else false)=true->(0:Int)<=(((re_5_0_a.length:Int):Int) - 1)/\(((re_5_0_a.length:Int):Int) - 1) < (re_5_0_a.length:Int))/\(((bif (bif ((3:Int)==0) then (decide ((0:Int) < (re_5_0_a.length:Int))) else false) then (y_3.kind==0) else false)=true->(InR (((re_5_0_a.length:Int):Int) - 1))/\(InR (((re_5_0_a.length:Int):Int) - 1))/\((0:Int)<=(((re_5_0_a.length:Int):Int) - 1)/\(((re_5_0_a.length:Int):Int) - 1) < (re_5_0_a.length:Int))/\(InR (y_3.n+0))/\((0:Int)<=(((re_5_0_a.length:Int):Int) - 1)/\(((re_5_0_a.length:Int):Int) - 1) < (re_5_0_a.length:Int))/\((0:Nat)<=(Int.toNat (((re_5_0_a.length:Int):Int) - 1)))/\((InR (((x6+ZE (l.drop x6.toNat)):Int)+1))/\(N0 (ZS list l (((x6+ZE (l.drop x6.toNat)):Int)+1) (List.set re_5_0_a (Int.toNat (((re_5_0_a.length:Int):Int) - 1)) (OpOf.mk y_3.kind (y_3.n+0) y_3.l y_5:Op))))))/\((bif (bif ((3:Int)==0) then (decide ((0:Int) < (re_5_0_a.length:Int))) else false) then (y_3.kind==0) else false)=false->((re_5_0_a.length+([(OpOf.mk 3 0 [] y_6:Op)]).length)*240<=140737488355328)/\((InR (((x6+ZE (l.drop x6.toNat)):Int)+1))/\(N0 (ZS list l (((x6+ZE (l.drop x6.toNat)):Int)+1) (re_5_0_a++([(OpOf.mk 3 0 [] y_6:Op)])))))))))))/\((y_1.kind==3)=false->((bif ((0:Int)==0) then (decide ((0:Int) < (re_5_0_a.length:Int))) else false)=true->InR (((re_5_0_a.length:Int):Int) - 1))/\((bif ((0:Int)==0) then (decide ((0:Int) < (re_5_0_a.length:Int))) else false)=true->(0:Int)<=(((re_5_0_a.length:Int):Int) - 1)/\(((re_5_0_a.length:Int):Int) - 1) < (re_5_0_a.length:Int))/\(((bif (bif ((0:Int)==0) then (decide ((0:Int) < (re_5_0_a.length:Int))) else false) then (y_3.kind==0) else false)=true->(InR (((re_5_0_a.length:Int):Int) - 1))/\(InR (((re_5_0_a.length:Int):Int) - 1))/\((0:Int)<=(((re_5_0_a.length:Int):Int) - 1)/\(((re_5_0_a.length:Int):Int) - 1) < (re_5_0_a.length:Int))/\(InR (y_3.n+y_1.n))/\((0:Int)<=(((re_5_0_a.length:Int):Int) - 1)/\(((re_5_0_a.length:Int):Int) - 1) < (re_5_0_a.length:Int))/\((0:Nat)<=(Int.toNat (((re_5_0_a.length:Int):Int) - 1)))/\((InR (((x6+ZE (l.drop x6.toNat)):Int)+1))/\(N0 (ZS list l (((x6+ZE (l.drop x6.toNat)):Int)+1) (List.set re_5_0_a (Int.toNat (((re_5_0_a.length:Int):Int) - 1)) (OpOf.mk y_3.kind (y_3.n+y_1.n) y_3.l y_5:Op))))))/\((bif (bif ((0:Int)==0) then (decide ((0:Int) < (re_5_0_a.length:Int))) else false) then (y_3.kind==0) else false)=false->((re_5_0_a.length+([(OpOf.mk 0 y_1.n [] y_2:Op)]).length)*240<=140737488355328)/\((InR (((x6+ZE (l.drop x6.toNat)):Int)+1))/\(N0 (ZS list l (((x6+ZE (l.drop x6.toNat)):Int)+1) (re_5_0_a++([(OpOf.mk 0 y_1.n [] y_2:Op)])))))))))))):
  Zj9 N list l x6 re_5_0_a N0 Q:=by
 have e_:(Zj9 N list l x6 re_5_0_a N0 Q)=(let y_1:=(List.getD l (Int.toNat (x6+ZE (l.drop x6.toNat))) Op.nil);let y_2:=(Edit.mk 0 (Tree.mk 0 [] []) (Tree.mk 0 [] []) [] [] 0 []);let y_3:=(List.getD re_5_0_a (Int.toNat ((re_5_0_a.length:Int) - 1)) Op.nil);let y_4:=(JD y_1.e);let y_5:=(JD y_3.e);let y_6:=(JD (Zo y_4));let zz3:=(decide ((l.length:Int)<=(x6+ZE (l.drop x6.toNat))));let zz2:=(y_3.kind==0);let zz1:=(bif ((3:Int)==0) then (decide ((0:Int) < (re_5_0_a.length:Int))) else false);let zz0:=(bif ((0:Int)==0) then (decide ((0:Int) < (re_5_0_a.length:Int))) else false);((zz3=true->(Q .ret (L2 [(4,.c (sU .op re_5_0_a (.own (.e 4 0))))] [])))/\(zz3=false->((0:Int)<=(x6+ZE (l.drop x6.toNat))/\(x6+ZE (l.drop x6.toNat)) < (l.length:Int))/\(((0:Int)<=(x6+ZE (l.drop x6.toNat))/\(x6+ZE (l.drop x6.toNat)) < (l.length:Int))/\(((y_1.kind==3)=true->((0:Int)<=(x6+ZE (l.drop x6.toNat))/\(x6+ZE (l.drop x6.toNat)) < (l.length:Int))/\(Z0W (y_4,()))/\(ZbT (y_4,()) < N)/\((Z6K (list,y_6,()))/\(((Z1O list y_6)=true->((Tr (((0:Int)==0)=true))/\(Tr (((0:Int)==0)=true))/\(Tr (zz0=true))/\(zz0=true->InR ((re_5_0_a.length:Int) - 1))/\(Tr (zz0=true))/\(Tr (zz0=true))/\(zz0=true->(0:Int)<=((re_5_0_a.length:Int) - 1)/\((re_5_0_a.length:Int) - 1) < (re_5_0_a.length:Int))/\(Tr (zz0=true))/\(Tr (zz0=true))/\(Tr (zz0=true))/\(Tr (zz0=true))/\(((bif zz0 then zz2 else false)=true->(InR ((re_5_0_a.length:Int) - 1))/\(InR ((re_5_0_a.length:Int) - 1))/\((0:Int)<=((re_5_0_a.length:Int) - 1)/\((re_5_0_a.length:Int) - 1) < (re_5_0_a.length:Int))/\(InR (y_3.n+1))/\((0:Int)<=((re_5_0_a.length:Int) - 1)/\((re_5_0_a.length:Int) - 1) < (re_5_0_a.length:Int))/\((0:Nat)<=(Int.toNat ((re_5_0_a.length:Int) - 1)))/\((InR (((x6+ZE (l.drop x6.toNat)):Int)+1))/\(N0 (ZS list l (((x6+ZE (l.drop x6.toNat)):Int)+1) (List.set re_5_0_a (Int.toNat ((re_5_0_a.length:Int) - 1)) (OpOf.mk y_3.kind (y_3.n+1) y_3.l y_5:Op))))))/\((bif zz0 then zz2 else false)=false->((re_5_0_a.length+([(OpOf.mk 0 1 [] y_2:Op)]).length)*240<=140737488355328)/\((InR (((x6+ZE (l.drop x6.toNat)):Int)+1))/\(N0 (ZS list l (((x6+ZE (l.drop x6.toNat)):Int)+1) (re_5_0_a++([(OpOf.mk 0 1 [] y_2:Op)])))))))))/\((Z1O list y_6)=false->((Tr (((3:Int)==0)=true))/\(Tr (((3:Int)==0)=true))/\(Tr (zz1=true))/\(zz1=true->InR ((re_5_0_a.length:Int) - 1))/\(Tr (zz1=true))/\(Tr (zz1=true))/\(zz1=true->(0:Int)<=((re_5_0_a.length:Int) - 1)/\((re_5_0_a.length:Int) - 1) < (re_5_0_a.length:Int))/\(Tr (zz1=true))/\(Tr (zz1=true))/\(Tr (zz1=true))/\(Tr (zz1=true))/\(((bif zz1 then zz2 else false)=true->(InR ((re_5_0_a.length:Int) - 1))/\(InR ((re_5_0_a.length:Int) - 1))/\((0:Int)<=((re_5_0_a.length:Int) - 1)/\((re_5_0_a.length:Int) - 1) < (re_5_0_a.length:Int))/\(InR (y_3.n+0))/\((0:Int)<=((re_5_0_a.length:Int) - 1)/\((re_5_0_a.length:Int) - 1) < (re_5_0_a.length:Int))/\((0:Nat)<=(Int.toNat ((re_5_0_a.length:Int) - 1)))/\((InR (((x6+ZE (l.drop x6.toNat)):Int)+1))/\(N0 (ZS list l (((x6+ZE (l.drop x6.toNat)):Int)+1) (List.set re_5_0_a (Int.toNat ((re_5_0_a.length:Int) - 1)) (OpOf.mk y_3.kind (y_3.n+0) y_3.l y_5:Op))))))/\((bif zz1 then zz2 else false)=false->((re_5_0_a.length+([(OpOf.mk 3 0 [] y_6:Op)]).length)*240<=140737488355328)/\((InR (((x6+ZE (l.drop x6.toNat)):Int)+1))/\(N0 (ZS list l (((x6+ZE (l.drop x6.toNat)):Int)+1) (re_5_0_a++([(OpOf.mk 3 0 [] y_6:Op)]))))))))))))/\((y_1.kind==3)=false->((Tr (((0:Int)==0)=true))/\(Tr (((0:Int)==0)=true))/\(Tr (zz0=true))/\(zz0=true->InR ((re_5_0_a.length:Int) - 1))/\(Tr (zz0=true))/\(Tr (zz0=true))/\(zz0=true->(0:Int)<=((re_5_0_a.length:Int) - 1)/\((re_5_0_a.length:Int) - 1) < (re_5_0_a.length:Int))/\(Tr (zz0=true))/\(Tr (zz0=true))/\(Tr (zz0=true))/\(Tr (zz0=true))/\(((bif zz0 then zz2 else false)=true->(InR ((re_5_0_a.length:Int) - 1))/\(InR ((re_5_0_a.length:Int) - 1))/\((0:Int)<=((re_5_0_a.length:Int) - 1)/\((re_5_0_a.length:Int) - 1) < (re_5_0_a.length:Int))/\(InR (y_3.n+y_1.n))/\((0:Int)<=((re_5_0_a.length:Int) - 1)/\((re_5_0_a.length:Int) - 1) < (re_5_0_a.length:Int))/\((0:Nat)<=(Int.toNat ((re_5_0_a.length:Int) - 1)))/\((InR (((x6+ZE (l.drop x6.toNat)):Int)+1))/\(N0 (ZS list l (((x6+ZE (l.drop x6.toNat)):Int)+1) (List.set re_5_0_a (Int.toNat ((re_5_0_a.length:Int) - 1)) (OpOf.mk y_3.kind (y_3.n+y_1.n) y_3.l y_5:Op))))))/\((bif zz0 then zz2 else false)=false->((re_5_0_a.length+([(OpOf.mk 0 y_1.n [] y_2:Op)]).length)*240<=140737488355328)/\((InR (((x6+ZE (l.drop x6.toNat)):Int)+1))/\(N0 (ZS list l (((x6+ZE (l.drop x6.toNat)):Int)+1) (re_5_0_a++([(OpOf.mk 0 y_1.n [] y_2:Op)])))))))))))))):=by kernel_rfl
 exact e_.mpr (by intro y_1 y_2 y_3 y_4 y_5 y_6;have hh:=h y_1 rfl y_2 rfl y_3 rfl y_4 (Za _) y_5 (Za _) y_6 (Za _);exact ⟨fun c_9=> (hh.1 c_9),fun c_9=> ⟨(hh.2 c_9).1,⟨(hh.2 c_9).2.1,⟨fun c_10=> ⟨((hh.2 c_9).2.2.1 c_10).1,((hh.2 c_9).2.2.1 c_10).2.1,((hh.2 c_9).2.2.1 c_10).2.2.1,⟨((hh.2 c_9).2.2.1 c_10).2.2.2.1,⟨fun c_11=> ⟨id,(by generalize ((0:Int)==0)=b0;revert b0;decide),id,(((hh.2 c_9).2.2.1 c_10).2.2.2.2.1 c_11).1,id,id,(((hh.2 c_9).2.2.1 c_10).2.2.2.2.1 c_11).2.1,id,id,id,(by generalize (decide ((0:Int) < (re_5_0_a.length:Int)))=b0;generalize ((0:Int)==0)=b1;revert b0 b1;decide),⟨fun c_12=> ⟨((((hh.2 c_9).2.2.1 c_10).2.2.2.2.1 c_11).2.2.1 c_12).1,((((hh.2 c_9).2.2.1 c_10).2.2.2.2.1 c_11).2.2.1 c_12).2.1,((((hh.2 c_9).2.2.1 c_10).2.2.2.2.1 c_11).2.2.1 c_12).2.2.1,((((hh.2 c_9).2.2.1 c_10).2.2.2.2.1 c_11).2.2.1 c_12).2.2.2.1,((((hh.2 c_9).2.2.1 c_10).2.2.2.2.1 c_11).2.2.1 c_12).2.2.2.2.1,((((hh.2 c_9).2.2.1 c_10).2.2.2.2.1 c_11).2.2.1 c_12).2.2.2.2.2.1,⟨((((hh.2 c_9).2.2.1 c_10).2.2.2.2.1 c_11).2.2.1 c_12).2.2.2.2.2.2.1,((((hh.2 c_9).2.2.1 c_10).2.2.2.2.1 c_11).2.2.1 c_12).2.2.2.2.2.2.2⟩⟩,fun c_12=> ⟨((((hh.2 c_9).2.2.1 c_10).2.2.2.2.1 c_11).2.2.2 c_12).1,⟨((((hh.2 c_9).2.2.1 c_10).2.2.2.2.1 c_11).2.2.2 c_12).2.1,((((hh.2 c_9).2.2.1 c_10).2.2.2.2.1 c_11).2.2.2 c_12).2.2⟩⟩⟩⟩,fun c_11=> ⟨id,(by generalize ((3:Int)==0)=b0;revert b0;decide),id,(((hh.2 c_9).2.2.1 c_10).2.2.2.2.2 c_11).1,id,id,(((hh.2 c_9).2.2.1 c_10).2.2.2.2.2 c_11).2.1,id,id,id,(by generalize (decide ((0:Int) < (re_5_0_a.length:Int)))=b0;generalize ((3:Int)==0)=b1;revert b0 b1;decide),⟨fun c_13=> ⟨((((hh.2 c_9).2.2.1 c_10).2.2.2.2.2 c_11).2.2.1 c_13).1,((((hh.2 c_9).2.2.1 c_10).2.2.2.2.2 c_11).2.2.1 c_13).2.1,((((hh.2 c_9).2.2.1 c_10).2.2.2.2.2 c_11).2.2.1 c_13).2.2.1,((((hh.2 c_9).2.2.1 c_10).2.2.2.2.2 c_11).2.2.1 c_13).2.2.2.1,((((hh.2 c_9).2.2.1 c_10).2.2.2.2.2 c_11).2.2.1 c_13).2.2.2.2.1,((((hh.2 c_9).2.2.1 c_10).2.2.2.2.2 c_11).2.2.1 c_13).2.2.2.2.2.1,⟨((((hh.2 c_9).2.2.1 c_10).2.2.2.2.2 c_11).2.2.1 c_13).2.2.2.2.2.2.1,((((hh.2 c_9).2.2.1 c_10).2.2.2.2.2 c_11).2.2.1 c_13).2.2.2.2.2.2.2⟩⟩,fun c_13=> ⟨((((hh.2 c_9).2.2.1 c_10).2.2.2.2.2 c_11).2.2.2 c_13).1,⟨((((hh.2 c_9).2.2.1 c_10).2.2.2.2.2 c_11).2.2.2 c_13).2.1,((((hh.2 c_9).2.2.1 c_10).2.2.2.2.2 c_11).2.2.2 c_13).2.2⟩⟩⟩⟩⟩⟩⟩,fun c_10=> ⟨id,(by generalize ((0:Int)==0)=b0;revert b0;decide),id,((hh.2 c_9).2.2.2 c_10).1,id,id,((hh.2 c_9).2.2.2 c_10).2.1,id,id,id,(by generalize (decide ((0:Int) < (re_5_0_a.length:Int)))=b0;generalize ((0:Int)==0)=b1;revert b0 b1;decide),⟨fun c_14=> ⟨(((hh.2 c_9).2.2.2 c_10).2.2.1 c_14).1,(((hh.2 c_9).2.2.2 c_10).2.2.1 c_14).2.1,(((hh.2 c_9).2.2.2 c_10).2.2.1 c_14).2.2.1,(((hh.2 c_9).2.2.2 c_10).2.2.1 c_14).2.2.2.1,(((hh.2 c_9).2.2.2 c_10).2.2.1 c_14).2.2.2.2.1,(((hh.2 c_9).2.2.2 c_10).2.2.1 c_14).2.2.2.2.2.1,⟨(((hh.2 c_9).2.2.2 c_10).2.2.1 c_14).2.2.2.2.2.2.1,(((hh.2 c_9).2.2.2 c_10).2.2.1 c_14).2.2.2.2.2.2.2⟩⟩,fun c_14=> ⟨(((hh.2 c_9).2.2.2 c_10).2.2.2 c_14).1,⟨(((hh.2 c_9).2.2.2 c_10).2.2.2 c_14).2.1,(((hh.2 c_9).2.2.2 c_10).2.2.2 c_14).2.2⟩⟩⟩⟩⟩⟩⟩⟩)
def ZwO(N:Nat)(list:Int)(l:List Op):Prop:=AW (Z1 (Z0T N)) Try.f76 Z18 [] (Zj (Zfn.can (list,l,())) []) (EQ Try.f76 (Zgc (list,l,())) [])
abbrev ZyX:Prop:=∀ (N:Nat) (list:Int) (l:List Op) (_:Unit),Z93 (list,l,())->ZgK (list,l,()) < N+1->ZwO N list l
theorem Zmk(c45:CT 45 Z3b)(Zwn:CT 110 Z4A)(ZpW:CT 111 Z2u)(ha:Zz1)(hb:ZyX):CT 32 ZaW/\CT 76 Zny:=
 Z2o (μA:=ZbT) (μB:=ZgK) (l:=[(45,Z3b),(110,Z4A),(111,Z2u)]) Zl rfl (⟨c45,Zwn,ZpW,trivial⟩) Zc3 Z18 Try.func32 Try.func76 rfl rfl rfl rfl 1 2 (fun _=> rfl) (fun _=> rfl) (by decide) (by decide) (fun N ⟨e,_⟩=> ha N e ()) (fun N ⟨list,l,_⟩=> hb N list l ())
end
end
theorem ZdC:∀ (l:List Op),0<=ZE l/\(ZE l < l.length->(l.getD (ZE l).toNat Op.nil).kind≠1/\(l.getD (ZE l).toNat Op.nil).kind≠2)
 | []=> by simp [ZE]
 | o ::r=> by
  obtain ⟨h1,h2⟩:=ZdC r
  rw [ZE]
  split
  ·rename_i hk
   refine ⟨by omega,fun h=> ?_⟩
   rw [show (1+ZE r).toNat=(ZE r).toNat+1 by omega,XI]
   exact h2 (by simp at h;omega)
  ·rename_i hk
   refine ⟨by omega,fun _=> ?_⟩
   simp only [Int.toNat_zero,Qi]
   omega
theorem ZkP:∀ (l:List Op),ZE l<=l.length
 | []=> by simp [ZE]
 | o ::r=> by
  have:=ZkP r
  rw [ZE]
  split <;> simp <;> omega
theorem ZiN(l:List Op)(i k:Nat):(l.drop i).getD k Op.nil=l.getD (i+k) Op.nil:=by
 simp [List.getD,Qp]
theorem Zec{list:Int}{o:Op}{d:Int}(h:Zg list o d=true):o.kind=0\/o.kind=1\/o.kind=2\/o.kind=3:=by
 obtain ⟨k,n,l,e⟩:=o
 show k=0\/k=1\/k=2\/k=3
 rw [Zg] at h
 split at h
 ·omega
 ·split at h
  ·cases h
  ·omega
theorem b76:ZyX:=by
 intro N list l _ hp hN
 simp only [Z93,ZgK] at hp hN
 obtain ⟨p1,p3⟩:=hp
 have hl:=ZV l
 refine Zzb _ _ _ _ ?_
 refine Z9 (ι:=Int × List Op) (fun s=> ZS list l s.1 s.2)
  (fun s=> 0<=s.1/\s.1<=l.length/\(Z0 (Zn list (l.drop s.1.toNat) ⟨s.2,[],[]⟩)).out=(Z0 (Zn list l ⟨[],[],[]⟩)).out/\s.2.length<=3*s.1/\∀ o∈s.2,0<=o.n/\o.n<=s.1*1048576)
  (fun s=> ((l.length:Int) - s.1).toNat) (0,[]) rfl ⟨by simp,by simp,by simp,by simp,by simp⟩ ?_
 rintro ⟨i,out⟩ ⟨g1,g2,g3,g4,g6⟩
 dsimp only at g1 g2 g3 g4 g6
 have key:i < l.length->∀ F,F=(Z0 ⟨out,Yg 1 (l.drop i.toNat),Yg 2 (l.drop i.toNat)⟩).out->
   Zj9 N list l i F (fun s2=> ∃ j:Int × List Op,s2=ZS list l j.1 j.2/\(0<=j.1/\j.1<=l.length/\(Z0 (Zn list (l.drop j.1.toNat) ⟨j.2,[],[]⟩)).out=(Z0 (Zn list l ⟨[],[],[]⟩)).out/\j.2.length<=3*j.1/\∀ o∈j.2,0<=o.n/\o.n<=j.1*1048576)/\((l.length:Int) - j.1).toNat < ((l.length:Int) - i).toNat) (Yy cfg Try.f76.ntmps Try.f76.results.toList (Zgc (list,l,())) []):=by
  intro hi F hF
  obtain ⟨q1,q2⟩:=ZdC (l.drop i.toNat)
  have q3:=ZkP (l.drop i.toNat)
  rw [QZ] at q2 q3
  rw [ZiN,show i.toNat+(ZE (l.drop i.toNat)).toNat=(i+ZE (l.drop i.toNat)).toNat by omega] at q2
  rw [Zdj,Kc,show i.toNat+(ZE (l.drop i.toNat)).toNat=(i+ZE (l.drop i.toNat)).toNat by omega] at g3
  simp only [Qu] at g3
  have hfl:=Z5c ⟨out,Yg 1 (l.drop i.toNat),Yg 2 (l.drop i.toNat)⟩
  have hfm:=Z5b ⟨out,Yg 1 (l.drop i.toNat),Yg 2 (l.drop i.toNat)⟩
  have hflush:Z0 ⟨out,Yg 1 (l.drop i.toNat),Yg 2 (l.drop i.toNat)⟩=⟨F,[],[]⟩:=by rw [hF];try rfl
  have hkeep:∀ n,ZL ⟨out,Yg 1 (l.drop i.toNat),Yg 2 (l.drop i.toNat)⟩ n=⟨Yk F n,[],[]⟩:=by intro n;rw [hF];try rfl
  rw [<-hF] at hfl hfm
  simp only at hfl hfm
  refine ZqP _ _ _ _ _ _ _ ?_
  rintro y1 hy1 y2 hy2 y3 hy3 y4 hy4 y5 hy5 y6 hy6
  generalize hj:i+ZE (l.drop i.toNat)=j at*
  have hy:y2=Edit.nil:=hy2
  subst hy
  have hFn:∀ o∈F,0<=o.n/\o.n<=i*1048576:=by
   intro o ho
   rcases hfm o ho with h1 | h1
   ·exact g6 o h1
   ·omega
  simp only [show ((0:Int)==0)=true from rfl,show ((3:Int)==0)=false from rfl,cond_true,cond_false]
  (simp only [vcS])
  refine ⟨fun hjl=> ?_,fun hjl=> ?_⟩
  ·rw [Qg (by omega)] at g3
   simp only [Zn,hflush] at g3
   simp only [Zgc]
   rw [<-g3]
   (repeat' (first | exact trivial | exact rfl | apply And.intro))
  ·have hmem:=Zh (l:=l) (i:=j.toNat) (by omega) Op.nil
   have hm:=ZU hmem
   obtain ⟨d,hr2⟩:=p3 _ hmem
   have hq:=q2 (by omega)
   rw [<-hy1] at hm hr2 hq
   have hkind:=Zec hr2
   rw [Yn (by omega) (by omega) Op.nil,<-hy1,Zn,YF] at g3
   have hmo:=ZI y1
   have hlast:(F.length:Int) - 1=((F.length - 1:Nat):Int)\/F.length=0:=by omega
   have e2:((F.length:Int) - 1).toNat=F.length - 1:=by omega
   rw [e2] at hy3 ⊢
   have hk3:0 < F.length->0<=y3.n/\y3.n<=i*1048576:=fun h=> by
    rw [hy3];exact hFn _ (Zh (by omega) _)
   have keeps:∀ n:Int,0<=n/\n<=1048576->(Z0 (Zn list (l.drop (j+1).toNat) ⟨Yk F n,[],[]⟩)).out=(Z0 (Zn list l ⟨[],[],[]⟩)).out->
     ((0 < F.length/\y3.kind=0->∃ q:Int × List Op,ZS list l (j+1) (F.set (F.length - 1) ⟨y3.kind,y3.n+n,y3.l,y5⟩)=ZS list l q.1 q.2/\(0<=q.1/\q.1<=l.length/\(Z0 (Zn list (l.drop q.1.toNat) ⟨q.2,[],[]⟩)).out=(Z0 (Zn list l ⟨[],[],[]⟩)).out/\q.2.length<=3*q.1/\∀ o∈q.2,0<=o.n/\o.n<=q.1*1048576)/\((l.length:Int) - q.1).toNat < ((l.length:Int) - i).toNat)/\
      (¬(0 < F.length/\y3.kind=0)->∃ q:Int × List Op,ZS list l (j+1) (F++[⟨0,n,[],Edit.nil⟩])=ZS list l q.1 q.2/\(0<=q.1/\q.1<=l.length/\(Z0 (Zn list (l.drop q.1.toNat) ⟨q.2,[],[]⟩)).out=(Z0 (Zn list l ⟨[],[],[]⟩)).out/\q.2.length<=3*q.1/\∀ o∈q.2,0<=o.n/\o.n<=q.1*1048576)/\((l.length:Int) - q.1).toNat < ((l.length:Int) - i).toNat)):=by
    intro n hn hg
    rw [Z4j,<-hy3,<-hy5] at hg
    refine ⟨fun hc=> ?_,fun hc=> ?_⟩
    ·rw [if_pos ⟨by omega,hc.2⟩] at hg
     refine ⟨(j+1,_),rfl,⟨by dsimp only;omega,by dsimp only;omega,hg,by dsimp only;rw [List.length_set];omega,fun o ho=> ?_⟩,by dsimp only;omega⟩
     dsimp only at ho ⊢
     have hk4:=hk3 (by omega)
     rcases List.mem_or_eq_of_mem_set ho with ho | rfl
     ·have:=hFn o ho;omega
     ·simp only;omega
    ·rw [if_neg (fun h=> hc ⟨by omega,h.2⟩)] at hg
     refine ⟨(j+1,_),rfl,⟨by dsimp only;omega,by dsimp only;omega,hg,by dsimp only;rw [List.length_append,List.length_singleton];omega,fun o ho=> ?_⟩,by dsimp only;omega⟩
     dsimp only at ho ⊢
     rcases Qh.1 ho with ho | ho
     ·have:=hFn o ho;omega
     ·simp only [Qe] at ho
      subst ho
      simp only;omega
   refine ⟨by omega,by omega,fun hk=> ?_,fun hk=> ?_⟩
   ·rw [if_neg (by omega),if_neg (by omega),if_neg (by omega),if_pos hk] at g3
    rw [<-hy4,<-hy6,hkeep,hflush] at g3
    have hre:=Z6x hr2 hk
    rw [<-hy4] at hre
    have hmE:Z7 y4<=Zv y1:=by rw [hmo,hy4];omega
    refine ⟨by omega,by simp only [Z0W];exact ⟨by omega,d,hre⟩,by simp only [ZbT];omega,by simp only [Z6K],fun hq=> ?_,fun hq=> ?_⟩
    ·rw [if_pos hq] at g3
     have hK:=keeps 1 (by omega) g3
     refine ⟨by unfold InR;omega,by omega,fun hc=> ?_,fun hc=> ?_⟩
     ·have hk4:=hk3 (by omega)
      exact ⟨by unfold InR;omega,by unfold InR;omega,by omega,by unfold InR;omega,by omega,by omega,by unfold InR;omega,hK.1 ⟨by omega,hc.2⟩⟩
     ·exact ⟨by simp only [QO];omega,by unfold InR;omega,hK.2 (fun h=> by omega)⟩
    ·rw [if_neg (by rw [hq];simp)] at g3
     refine ⟨fun h=> (nomatch h),fun h=> (nomatch h),fun h=> (nomatch h),fun _=> ⟨by simp only [QO];omega,by unfold InR;omega,(j+1,F++[⟨3,0,[],y6⟩]),rfl,⟨by dsimp only;omega,by dsimp only;omega,g3,by dsimp only;rw [List.length_append,List.length_singleton];omega,fun o ho=> ?_⟩,by dsimp only;omega⟩⟩
     dsimp only at ho ⊢
     rcases Qh.1 ho with ho | ho
     ·have:=hFn o ho;omega
     ·simp only [Qe] at ho
      subst ho
      simp only;omega
   ·have hk0:y1.kind=0:=by omega
    rw [if_pos hk0,hkeep] at g3
    have h1:=Z6w hr2 hk0
    have hK:=keeps y1.n (by omega) g3
    refine ⟨by unfold InR;omega,by omega,fun hc=> ?_,fun hc=> ?_⟩
    ·have hk4:=hk3 (by omega)
     exact ⟨by unfold InR;omega,by unfold InR;omega,by omega,by unfold InR;omega,by omega,by omega,by unfold InR;omega,hK.1 ⟨by omega,hc.2⟩⟩
    ·exact ⟨by simp only [QO];omega,by unfold InR;omega,hK.2 (fun h=> by omega)⟩
 refine ZqO _ _ _ _ _ _ _ ?_
 rintro y1 hy1
 have hy:y1=Edit.nil:=hy1
 subst hy
 (simp only [vcS])
 refine ⟨fun hi=> ?_,fun hi=> ?_⟩
 ·have kk:=key hi
  simp only [Z0,Jv] at kk
  refine ⟨by simp only [Z3i];omega,by simp only [Z3i];omega,fun h1=> ⟨by simp only [QO];omega,fun h2=> ⟨by simp only [Q6,QO];omega,?_⟩,fun h2=> ?_⟩,fun h1=> ⟨fun h2=> ⟨by simp only [QO];omega,?_⟩,fun h2=> ?_⟩⟩
  ·refine kk _ ?_
   rw [if_neg (by omega),if_neg (by omega)];simp
  ·refine kk _ ?_
   rw [if_neg (by omega),if_pos (by omega)];simp
  ·refine kk _ ?_
   rw [if_pos (by omega),if_neg (by omega)];simp
  ·refine kk _ ?_
   rw [if_pos (by omega),if_pos (by omega)];simp
 ·rw [Qg (by omega)] at g3
  have:(Z0 (Zn list [] ⟨out,[],[]⟩)).out=out:=by simp [Zn,Z0,Jv]
  rw [this] at g3
  simp only [Zgc]
  rw [<-g3]
  (repeat' (first | exact trivial | exact rfl | apply And.intro))
theorem ZhL{e:Edit}{d:Int}(h:Z8 e d=true):(e.kind=0\/e.kind=1\/e.kind=2\/e.kind=3)/\(e.kind≠3->e.list=0):=by
 obtain ⟨k,o,n,w,ks,l,os⟩:=e
 show (k=0\/k=1\/k=2\/k=3)/\(k≠3->l=0)
 rw [Z8] at h
 split at h
 ·cases h
 ·split at h
  ·cases h
  ·rename_i h1 h2
   refine ⟨by omega,fun hk=> ?_⟩
   apply Xu
   intro hl
   exact h2 (.inr (.inr ⟨hk,.inl hl⟩))
theorem b32:Zz1:=by
 intro N e _ hp hN
 simp only [Z0W,ZbT] at hp hN
 obtain ⟨p1,d,p3⟩:=hp
 have h1:=YB e
 have h2:=Ys e.kids
 have h3:=ZV e.ops
 have ha:=Z3m e
 obtain ⟨hkd,hli⟩:=ZhL p3
 refine Zzv _ _ _ ?_
 (simp only [vcS])
 (simp only [Tree.eta,Edit.eta,Tree.kind_mk,Tree.words_mk,Tree.kids_mk])
 refine ⟨fun hk=> ⟨by simp only [Z1F];omega,by simp only [Z1F];omega,?_⟩,fun hk=> ⟨fun hk2=> ⟨by simp;omega,?_⟩,fun hk2=> ⟨fun hk3=> ⟨?_,by simp only [ZgK];omega,?_⟩,fun hk3=> ?_⟩⟩⟩
 ·rw [if_pos hk] at ha
  simp only [Z91,ha]
  (repeat' (first | exact trivial | exact rfl | apply And.intro))
  ·exact hk.symm
  ·exact (hli (by omega)).symm
 ·rw [if_neg hk,if_pos hk2] at ha
  refine Z9 (ι:=Int × List Kid) (fun s=> Z2R e s.1 s.2) (fun s=> 0<=s.1/\s.1<=e.kids.length/\s.2.length=s.1/\s.2++YW (e.kids.drop s.1.toNat)=YW e.kids) (fun s=> ((e.kids.length:Int) - s.1).toNat) (0,[]) rfl ⟨by simp,by simp,by simp,by simp⟩ ?_
  rintro ⟨j,ks⟩ ⟨f1,f2,f3,f4⟩
  dsimp only at f1 f2 f3 f4
  refine Zr9 _ _ _ _ _ _ ?_
  rintro y1 hy1 y2 hy2 y3 hy3
  (simp only [vcS])
  refine ⟨fun hj=> ?_,fun hj=> ?_⟩
  ·have hmem:=Zh (l:=e.kids) (i:=j.toNat) (by omega) (KidOf.mk 0 Edit.nil)
   have hm:=J6 hmem
   have hr:=ZdA p3 hk2 _ hmem
   rw [Yn f1 hj (KidOf.mk 0 Edit.nil)] at f4
   rw [<-hy1] at f4 hm hr
   simp only [YW,Z8m] at f4
   rw [<-hy2] at f4 hm hr
   rw [<-hy3] at f4
   refine ⟨⟨f1,hj⟩,⟨f1,hj⟩,by simp only [Z0W];exact ⟨by omega,hr⟩,by simp only [ZbT];omega,by simp;omega,by unfold InR;omega,(j+1,ks++[⟨y1.at_,y3⟩]),rfl,⟨by dsimp only;omega,by dsimp only;omega,by simp;omega,?_⟩,by dsimp only;omega⟩
   simp only [Qd,Qo,Qu]
   exact f4
  ·rw [Qg (by omega)] at f4
   simp only [YW,QG] at f4
   rw [f4]
   simp only [Z91,ha]
   (repeat' (first | exact trivial | exact rfl | apply And.intro))
   ·exact hk2.symm
   ·exact (hli (by omega)).symm
 ·simp only [Z93]
  exact ⟨by omega,fun o ho=> ZgB p3 hk3 o ho⟩
 ·rw [if_neg hk,if_neg hk2,if_pos hk3] at ha
  simp only [Z91,ha]
  (repeat' (first | exact trivial | exact rfl | apply And.intro))
  exact hk3.symm
 ·rw [if_neg hk,if_neg hk2,if_neg hk3] at ha
  simp only [Z91,ha]
  (repeat' (first | exact trivial | exact rfl | apply And.intro))
  ·show 0=e.kind
   omega
  ·exact (hli hk3).symm
theorem ZvU:Contract Try.prog cfg 32 ZaW/\Contract Try.prog cfg 76 Zny:=Zmk c45 Zwn ZpW b32 b76
theorem ZsN{n:Nat}{rs:List ResultVar}{r r':V U}{X:List (List (C U))}{e:AExit}{s:LSt U}(hr:r=r')(h:Yy cfg n rs r' X e s):Yy cfg n rs r X e s:=by rw [hr];exact h
theorem Zdw(e:Edit):e.words.length+e.ops.length+ZR e.kids+Zd e.ops+Zm e.old+Zm e.new+1=Z7 e:=by obtain ⟨k,o,n,w,ks,l,os⟩:=e;simp only [Z7,Edit.words_mk,Edit.ops_mk,Edit.kids_mk,Edit.old_mk,Edit.new_mk];omega
theorem Zdt(t:Tree):1<=Zm t:=by obtain ⟨k,w,ks⟩:=t;simp only [Zm];omega
theorem Z1l{e:Edit}(h:Z0p e):Z7 e<=9000000000:=X4 (ZeY e) h.1
theorem ZjH{e:Edit}(h:Z0p e):Zrm e.ops:=by
 obtain ⟨m,r,d,hr⟩:=h
 have:=Z4s e
 exact ⟨by omega,(Yq r).2.2.2.2,fun o ho=> ⟨_,_,rightOs_mem (Zt hr).ops ho⟩⟩
theorem Zgv{l:List Op}{o:Op}(h:Part l o)(ho:ZT o)(hl:Z1z l):Z23 o:=by
 obtain ⟨o',m,k,e1,_,lt⟩:=h
 have G:=Z14 (Z1h hl m)
 obtain ⟨kk,nn,ll,ee⟩:=o
 have k:kk=o'.kind:=k
 have e1:ee=o'.e:=e1
 have lt:∀ t∈ll,t∈o'.l:=lt
 refine ⟨by rw [k];exact G.1,?_,Zeb fun t ht=> Z0I G.2.2.1 (lt t ht),by rw [e1];exact G.2.2.2⟩
 rcases ho with h | h | h
 ·have:=h.2.2.1
  unfold InR
  dsimp only at this
  omega
 ·have h2:nn=0:=h.2.1
  rw [h2];exact YH (by decide) (by decide)
 ·have h2:nn=0:=h.2.1
  rw [h2];exact YH (by decide) (by decide)
theorem Zag{l:List Op}{o:Op}(h:Part l o):Z3y o<=YZ l/\Zv o<=Zd l:=by
 obtain ⟨o',m,k,e1,hm,_⟩:=h
 have h1:=Zcq m
 have h2:=ZU m
 have a:=Z2b o
 rw [ZI,ZI,e1] at hm
 rw [e1] at a
 rw [ZI] at h2
 rw [ZI,e1]
 omega
theorem ZbH{l:List Op}{o:Op}(h:Part l o)(hl:∀ o∈l,∃ list d,Zg list o d=true)(k3:o.kind=3):∃ d,Z8 o.e d=true:=by
 obtain ⟨o',m,k,e1,hm,_⟩:=h
 obtain ⟨list,d,hr⟩:=hl o' m
 exact ⟨d,by rw [e1];exact J2 hr (by omega)⟩
theorem ZtQ{p:List Op}(hp:Zrm p):Z8l p:=by
 refine ⟨fun o ho=> ?_,?_⟩
 ·obtain ⟨_,_,h⟩:=hp.2.2 o ho
  exact Zbd h
 ·have:=Z8s p
  have:=hp.1
  omega
theorem Z7T{α:Type}{l:List α}{i:Nat}(h:i < l.length)(d:α):l.take (i+1)=l.take i++[l.getD i d]:=by
 rw [QS h,Qm,Q0 h];try rfl
theorem Z2J(o:Op):Z6 o.l<=Z3y o:=by rw [Z2b];omega
theorem ZjG{e:Edit}(h:Z0p e):Wk e:=by obtain ⟨d,hr⟩:=h.2.2;exact .of hr h.2.1
theorem kids_sum:∀ {l:List Op},(∀ o∈l,ZT o)->Z2m l<=YK l+Yd l
 | [],_=> by simp [Z2m,YK,Yd]
 | o ::r,h=> by
  have h1:=ZA (h o Q5)
  have h2:=kids_sum fun x hx=> h x (Q4 _ hx)
  simp only [Z2m,YK,Yd]
  split <;> split <;> omega
theorem Zo2:Z0p Edit.nil:=by
 refine ⟨by decide,?_,1,Zm8⟩
 exact ⟨YH (by decide) (by decide),Z81,Z81,by simp [Edit.nil],YH (by decide) (by decide),trivial,trivial⟩
theorem ZpI{e:Edit}(h:Z0f e=true):Z7 e<=3000/\Z8 e 64=true:=by
 simp only [Z0f,Q1,decide_eq_true_eq] at h
 exact ⟨Z8G h.1.1,h.1.2⟩
theorem Zi8{r:Bool}{e:Edit}{t:Tree}(hr:∃ d,Z8 e d=true)(ht:Zm t+ctE e<=200000000000):Zm (Z3E (doE r e t))<=1000000000000:=by
 cases h:doE r e t with
 | none=> simp [Z3E,Tree.nil,Zm,Z6]
 | some u=> exact Zhi hr ht h
theorem Zi7(o:Option Tree):Z3E (o.map Z4)=Z4 (Z3E o):=by cases o;exact Zdl.symm;rfl
theorem Zig{e:Edit}{t:Tree}(hr:∃ d,Z8 e d=true)(ht:Zm t+ctE e<=200000000000):Zm (Z3E ((doE false e t).map Z4))<=1000000000000:=by
 rw [Zi7]
 exact X4 (Jo _) (Zi8 hr ht)
theorem ZpH{e:Edit}(h:Z0f e=true)(g:YQ e):Zyh e/\Z7 e<=3000/\Z8 e 64=true:=by
 obtain ⟨m,r⟩:=ZpI h
 have hl:Y3 e=true:=by
  simp only [Z0f,Q1] at h
  exact h.2
 have:=Zns _ e (Qf _) ⟨64,r⟩ hl
 exact ⟨⟨by omega,g,64,r⟩,m,r⟩
noncomputable section
def Zdx(w:WEdit)(m:Int):WEdit × Bool:=
 (⟨w.at_,Z1T m w.mask,mix 0 w.old (Z1T m w.mask),mix 0 w.new (Z1T m w.mask)⟩,decide (Z1T m w.mask≠0))
def Yz(p q:WEdit):Bool:=decide (mix 0 p.old (Z1T p.mask q.mask)≠mix 0 q.old (Z1T p.mask q.mask))
def Z06(p q:WEdit):Bool:=decide (mix 0 p.new (Z1T p.mask q.mask)≠mix 0 q.new (Z1T p.mask q.mask))
def Z2O(l:List Tree):List Op:=if l=[] then [] else [⟨2,0,l,Edit.nil⟩]
def Z3M(e:Edit):Op:=if e.kind=0 then ⟨0,1,[],Edit.nil⟩ else ⟨3,0,[],e⟩
end
end Go.AM.Ytpjenobkibfpcaa
namespace Go.AM
instance:Inhabited PStep:=⟨⟨0,0⟩⟩
def J9(n:Int):List Op:=if n=0 then [] else [⟨0,n,[],Edit.nil⟩]
def Zub(s:PStep)(t:Tree):Prop:=s.kind=0/\0<=s.at_/\(t.kind=1/\s.at_ < 65535\/(2<=t.kind/\t.kind<=9)/\s.at_ < t.kids.length)
instance (s:PStep) (t:Tree):Decidable (Zub s t):=by unfold Zub;infer_instance
end Go.AM
namespace Go.AM.Ytpjenobkibfpcaa
open Go.AM Go.Proofs
noncomputable section
structure Lft where
 x:Edit
 y:Edit
 c:Bool
 a:Bool
def ZeU(m:Int):Int:=IntKind.wrap .u8 (BitVec.ofInt (IntKind.bits .u8) 255 ^^^ BitVec.ofInt (IntKind.bits .u8) m).toNat
def Z1M{α:Type}(at_:α->Int)(l:List α)(n:Int):Option α:=l.foldl (fun o b=> if at_ b=n then some b else o) none
def YA{α:Type}(at_:α->Int)(f:α->α->α)(q:List α)(a:α):α:=match Z1M at_ q (at_ a) with
 | some b=> f a b
 | none=> a
def JV{α:Type}(at_:α->Int)(g:α->α->Bool)(p q:List α):Bool:=p.any fun a=> q.any fun b=> decide (at_ a=at_ b) && g a b
def Z0X(a b:WEdit):WEdit:=(Zdx a (ZeU b.mask)).1
def Z2w(e:Edit):Edit:=
 if (e.words.filter fun w=> !decide (w.mask=0)).length+(e.kids.filter fun k=> !decide (k.e.kind=0)).length=0 then Edit.nil
 else .mk e.kind e.old e.new (e.words.filter fun w=> !decide (w.mask=0)) (e.kids.filter fun k=> !decide (k.e.kind=0)) e.list e.ops
def Z05(e:Edit)(o n:Tree):Lft:=⟨Edit.nil,Edit.nil,(doB e o).2 && !ZZ (Z4 (doB e o).1) (Z4 n),!(doB e o).2⟩
def Z3H(f:Edit->Edit->Lft)(p q:Edit):Lft:=
 ⟨Z2w (.mk 2 Tree.nil Tree.nil (p.words.map (YA WEdit.at_ Z0X q.words)) (p.kids.map (YA KidOf.at_ (fun a b=> ⟨a.at_,(f a.e b.e).x⟩) q.kids)) 0 []),
  Z2w (.mk 2 Tree.nil Tree.nil (q.words.map (YA WEdit.at_ Z0X p.words)) (q.kids.map (YA KidOf.at_ (fun b a=> ⟨b.at_,(f a.e b.e).y⟩) p.kids)) 0 []),
  JV WEdit.at_ (fun a b=> !Yz a b && Z06 a b) p.words q.words || JV KidOf.at_ (fun a b=> (f a.e b.e).c) p.kids q.kids,
  JV WEdit.at_ Yz p.words q.words || JV KidOf.at_ (fun a b=> (f a.e b.e).a) p.kids q.kids⟩
structure PL where
 x:List Op
 y:List Op
 c:Bool
 a:Bool
def PL.app(s t:PL):PL:=⟨s.x++t.x,s.y++t.y,s.c || t.c,s.a || t.a⟩
def Ja(m h:List Tree):PL:=
 if m≠[]/\h≠[] then ⟨J9 h.length,J9 m.length,!Z62 m h,false⟩
 else ⟨Z2O m++J9 h.length,J9 m.length++Z2O h,false,false⟩
def ZC(f:Edit->Edit->Lft)(p q:Op):PL:=
 if p.kind=0/\q.kind=1 then ⟨[],[q],false,false⟩
 else if p.kind=1/\q.kind=0 then ⟨[p],[],false,false⟩
 else if p.kind=0 then ⟨[⟨0,if q.n < 1 then 1 else q.n,[],Edit.nil⟩],[q],false,false⟩
 else if q.kind=0 then ⟨[p],[⟨0,1,[],Edit.nil⟩],false,false⟩
 else if p.kind=1/\q.kind=1 then ⟨[],[],false,!Z62 p.l q.l⟩
 else if p.kind=1 then ⟨[],[],true,!(doE false q.e (p.l.getD 0 Tree.nil)).isSome⟩
 else if q.kind=1 then ⟨[],[],true,!(doE false p.e (q.l.getD 0 Tree.nil)).isSome⟩
 else ⟨[Z3M (f p.e q.e).x],[Z3M (f p.e q.e).y],(f p.e q.e).c,(f p.e q.e).a⟩
def Z0q(f:Edit->Edit->Lft):List Piece->List Tree->List Tree->PL
 | [],m,h=> Ja m h
 | x ::r,m,h=>
  if x.of=1 then Z0q f r (m++x.p.l) h
  else if x.of=2 then Z0q f r m (h++x.q.l)
  else ((Ja m h).app (ZC f x.p x.q)).app (Z0q f r [] [])
def Z0K(list:Int)(l:List Op):Edit:=if (l.any fun o=> !decide (o.kind=0))=true then .mk 3 Tree.nil Tree.nil [] [] list l else Edit.nil
def Z3p(f:Edit->Edit->Lft)(p q:Edit):Lft:=
 if (ZK 2 2 p.ops q.ops []).2.1=true then
  ⟨Z0K p.list (Z0q f (ZK 2 2 p.ops q.ops []).1 [] []).x,Z0K p.list (Z0q f (ZK 2 2 p.ops q.ops []).1 [] []).y,(Z0q f (ZK 2 2 p.ops q.ops []).1 [] []).c,(Z0q f (ZK 2 2 p.ops q.ops []).1 [] []).a⟩
 else ⟨Edit.nil,Edit.nil,false,true⟩
def Ya(f:Edit->Edit->Lft)(p q:Edit):Lft:=
 if p.kind=0\/q.kind=0 then ⟨p,q,false,false⟩
 else if p.kind=1 then Z05 q p.old p.new
 else if q.kind=1 then Z05 p q.old q.new
 else if p.kind≠q.kind\/p.list≠q.list then ⟨Edit.nil,Edit.nil,false,true⟩
 else if p.kind=2 then Z3H f p q
 else Z3p f p q
def lbF:Nat->Edit->Edit->Lft
 | 0,_,_=> ⟨Edit.nil,Edit.nil,false,false⟩
 | n+1,p,q=> Ya (lbF n) p q
def lbE(p q:Edit):Lft:=lbF (Z7 p+Z7 q) p q
def lbN(p q:Edit):Edit × Edit × Int:=
 if (lbE (Zo p) (Zo q)).a=true then (Edit.nil,Edit.nil,14)
 else if (lbE (Zo p) (Zo q)).c=true then (Edit.nil,Edit.nil,13)
 else (Zo (lbE (Zo p) (Zo q)).x,Zo (lbE (Zo p) (Zo q)).y,0)
def YO{α:Type}(f:α->Bool):List α->Int->Int
 | [],_=> -1
 | a ::r,i=> if f a=true then i else YO f r (i+1)
end
structure POk2 (p q:List Op) (x:Piece):Prop where
 of:x.of=0\/x.of=1\/x.of=2
 pp:x.of≠2->Part p x.p/\ZT x.p
 qq:x.of≠1->Part q x.q/\ZT x.q
 one:x.of=1->x.p.kind=2
 two:x.of=2->x.q.kind=2
 both:x.of=0->x.p.kind≠2/\x.q.kind≠2/\Z2 x.p=Z2 x.q
 pn:x.of=2->x.p=Op.nil
 qn:x.of=1->x.q=Op.nil
theorem POk2.mono{p q p' q':List Op}{x:Piece}(h:POk2 p q x)(hp:∀ x∈p,Part p' x)(hq:∀ x∈q,Part q' x):POk2 p' q' x:=
 ⟨h.of,fun e=> ⟨(h.pp e).1.mono hp,(h.pp e).2⟩,fun e=> ⟨(h.qq e).1.mono hq,(h.qq e).2⟩,h.one,h.two,h.both,h.pn,h.qn⟩
theorem Zdg:∀ (k:Nat) (p q:List Op) (out:List Piece),p.length+q.length<=k->(∀ o∈p,ZT o)->(∀ o∈q,ZT o)->
  ((ZK 2 2 p q out).2.1=true->∃ ps,(ZK 2 2 p q out).1=out++ps/\(∀ x∈ps,POk2 p q x)/\(∀ s m,Run p s m↔Run (Z5q ps) s m)/\∀ s m,Run q s m↔Run (Z5p ps) s m)/\
  ((ZK 2 2 p q out).2.1=false->∀ s u v,Run p s u->Run q s v->False):=by
 intro k
 induction k with
 | zero=>
  intro p q out hk hp hq
  have e1:p=[]:=Q3 (by omega)
  have e2:q=[]:=Q3 (by omega)
  subst e1 e2
  have e:ZK 2 2 [] [] out=(out,true,[],[]):=by
   rw [ZK,dif_neg (by simp [sgl]),dif_neg (by simp [sgl]),dif_pos (by simp)]
   try rfl
  rw [e]
  exact ⟨fun _=> ⟨[],by simp,fun x hx=> (by cases hx),fun s m=> XH,fun s m=> XH⟩,fun h=> by cases h⟩
 | succ k ih=>
  intro p q out hk hp hq
  rw [ZK]
  by_cases h1:sgl 2 p=true
  ·rw [dif_pos h1]
   obtain ⟨g1,g2⟩:=YD.1 h1
   cases p with
   | nil=> exact absurd rfl g1
   | cons a p'=>
    simp only [Qi] at g2
    simp only [Qi,Qq,QH]
    have ha:=hp a Q5
    obtain ⟨i1,i2⟩:=ih p' q (out++[⟨1,a,Op.nil⟩]) (by simp only [Q9] at hk;omega) (fun o ho=> hp o (Q4 _ ho)) hq
    refine ⟨fun h=> ?_,fun h s u v r1 r2=> ?_⟩
    ·obtain ⟨ps,e,hps,hP,hQ⟩:=i1 h
     refine ⟨⟨1,a,Op.nil⟩ ::ps,by rw [e,Qd];rfl,fun x hx=> ?_,fun s m=> ?_,fun s m=> hQ s m⟩
     ·rcases Qc.1 hx with rfl | hx
      ·exact ⟨.inr (.inl rfl),fun _=> ⟨Part.self Q5,ha⟩,fun e=> absurd rfl e,fun _=> g2,fun e=> (by cases e),fun e=> (by cases e),fun e=> (by cases e),fun _=> rfl⟩
      ·exact (hps x hx).mono (fun x hx=> Part.self (Q4 _ hx)) (fun x hx=> Part.self hx)
     ·show _↔Run (a ::Z5q ps) s m
      exact Z4E hP (JQ ha) s m
    ·obtain ⟨d',_,hr⟩:=(Z0G g2).1 r1
     exact i2 h s d' v hr r2
  ·rw [dif_neg h1]
   by_cases h2:sgl 2 q=true
   ·rw [dif_pos h2]
    obtain ⟨g1,g2⟩:=YD.1 h2
    cases q with
    | nil=> exact absurd rfl g1
    | cons a q'=>
     simp only [Qi] at g2
     simp only [Qi,Qq,QH]
     have ha:=hq a Q5
     obtain ⟨i1,i2⟩:=ih p q' (out++[⟨2,Op.nil,a⟩]) (by simp only [Q9] at hk;omega) hp (fun o ho=> hq o (Q4 _ ho))
     refine ⟨fun h=> ?_,fun h s u v r1 r2=> ?_⟩
     ·obtain ⟨ps,e,hps,hP,hQ⟩:=i1 h
      refine ⟨⟨2,Op.nil,a⟩ ::ps,by rw [e,Qd];rfl,fun x hx=> ?_,fun s m=> hP s m,fun s m=> ?_⟩
      ·rcases Qc.1 hx with rfl | hx
       ·exact ⟨.inr (.inr rfl),fun e=> absurd rfl e,fun _=> ⟨Part.self Q5,ha⟩,fun e=> (by cases e),fun _=> g2,fun e=> (by cases e),fun _=> rfl,fun e=> (by cases e)⟩
       ·exact (hps x hx).mono (fun x hx=> Part.self hx) (fun x hx=> Part.self (Q4 _ hx))
      ·show _↔Run (a ::Z5p ps) s m
       exact Z4E hQ (JQ ha) s m
     ·obtain ⟨d',_,hr⟩:=(Z0G g2).1 r2
      exact i2 h s u d' r1 hr
   ·rw [dif_neg h2]
    by_cases h3:p.length=0\/q.length=0
    ·rw [dif_pos h3]
     by_cases h4:p.length=0
     ·have e1:p=[]:=Q3 h4
      subst e1
      by_cases h5:q.length=0
      ·have e2:q=[]:=Q3 h5
       subst e2
       rw [if_pos rfl]
       exact ⟨fun _=> ⟨[],by simp,fun x hx=> (by cases hx),fun s m=> XH,fun m d=> XH⟩,fun h=> by cases h⟩
      ·rw [if_neg (by rw [decide_eq_false h5];decide)]
       refine ⟨fun h=> (by cases h),fun _ s u v r1 r2=> ?_⟩
       cases q with
       | nil=> exact h5 rfl
       | cons a q'=>
        have ha:=hq a Q5
        obtain ⟨rfl,_⟩:=Zjp r1
        obtain ⟨m1,m',d',e,hl,_⟩:=Zea ha (fun e=> h2 (YD.2 ⟨by simp,by simpa using e⟩)) r2
        have:=ZA ha
        have e:=congrArg List.length e
        simp at e
        omega
     ·have h5:q.length=0:=by omega
      have e2:q=[]:=Q3 h5
      subst e2
      rw [if_neg (by rw [decide_eq_false h4];decide)]
      refine ⟨fun h=> (by cases h),fun _ s u v r1 r2=> ?_⟩
      cases p with
      | nil=> exact h4 rfl
      | cons a p'=>
       have ha:=hp a Q5
       obtain ⟨rfl,_⟩:=Zjp r2
       obtain ⟨m1,m',d',e,hl,_⟩:=Zea ha (fun e=> h1 (YD.2 ⟨by simp,by simpa using e⟩)) r1
       have:=ZA ha
       have e:=congrArg List.length e
       simp at e
       omega
    ·rw [dif_neg h3]
     cases p with
     | nil=> simp at h3
     | cons a p'=>
      cases q with
      | nil=> simp at h3
      | cons b q'=>
       have ha:=hp a Q5
       have hb:=hq b Q5
       have ka:a.kind≠2:=fun e=> h1 (YD.2 ⟨by simp,by simpa using e⟩)
       have kb:b.kind≠2:=fun e=> h2 (YD.2 ⟨by simp,by simpa using e⟩)
       have la:=ZA ha
       have lb:=ZA hb
       simp only [Qi]
       generalize hn:min (Z2 a) (Z2 b)=n
       have hn1:1<=n:=by omega
       have hna:n<=Z2 a:=by omega
       have hnb:n<=Z2 b:=by omega
       obtain ⟨a1,a2,a3,a4,a5,a6⟩:=Z68 hp hn1 hna
       obtain ⟨b1,b2,b3,b4,b5,b6⟩:=Z68 hq hn1 hnb
       have hlt:(Zw (a ::p') n).length+(Zw (b ::q') n).length<=k:=by
        have x1:=Y6 (a ::p') n (by simp)
        have x2:=Y6 (b ::q') n (by simp)
        simp only [Q9] at hk x1 x2
        rcases Int.le_total (Z2 a) (Z2 b) with h | h
        ·have:=Y5 (a ::p') n (by simp) (by simp only [Qi];omega)
         simp only [Q9] at this
         omega
        ·have:=Y5 (b ::q') n (by simp) (by simp only [Qi];omega)
         simp only [Q9] at this
         omega
       obtain ⟨i1,i2⟩:=ih (Zw (a ::p') n) (Zw (b ::q') n) (out++[⟨0,Zq a n,Zq b n⟩]) hlt (fun o ho=> (a5 o ho).1) (fun o ho=> (b5 o ho).1)
       refine ⟨fun h=> ?_,fun h s u v r1 r2=> ?_⟩
       ·obtain ⟨ps,e,hps,hP,hQ⟩:=i1 h
        refine ⟨⟨0,Zq a n,Zq b n⟩ ::ps,by rw [e,Qd];rfl,fun x hx=> ?_,fun s m=> ?_,fun s m=> ?_⟩
        ·rcases Qc.1 hx with rfl | hx
         ·exact ⟨.inl rfl,fun _=> ⟨a4,a1⟩,fun _=> ⟨b4,b1⟩,fun e=> (by cases e),fun e=> (by cases e),fun _=> ⟨by dsimp only;omega,by dsimp only;omega,by dsimp only;omega⟩,fun e=> (by cases e),fun e=> (by cases e)⟩
         ·exact (hps x hx).mono (fun x hx=> (a5 x hx).2) (fun x hx=> (b5 x hx).2)
        ·rw [a6 s m]
         exact Z4E hP (JQ a1) s m
        ·rw [b6 s m]
         exact Z4E hQ (JQ b1) s m
       ·rw [a6] at r1
        rw [b6] at r2
        obtain ⟨m1,s1,d1,e,hl,r3⟩:=Zea a1 (by omega) r1
        obtain ⟨m2,s2,d2,e',hl',r4⟩:=Zea b1 (by omega) r2
        obtain ⟨_,e2⟩:=List.append_inj (e.symm.trans e') (by omega)
        subst e2
        exact i2 h s1 d1 d2 r3 r4
theorem Z3r{α:Type}(at_:α->Int)(n:Int):∀ (l:List α) (o:Option α),l.foldl (fun o b=> if at_ b=n then some b else o) o=match Z1M at_ l n with
  | some b=> some b
  | none=> o
 | [],o=> rfl
 | a ::r,o=> by
  unfold Z1M
  simp only [XL]
  rw [Z3r at_ n r,Z3r at_ n r (if at_ a=n then some a else none)]
  cases Z1M at_ r n with
  | some b=> rfl
  | none=> simp only;split <;> rfl
theorem Z4T{α:Type}(at_:α->Int)(n:Int):∀ (l:List α) (b:α),Z1M at_ l n=some b->b∈l/\at_ b=n
 | [],b,h=> by cases h
 | a ::r,b,h=> by
  unfold Z1M at h
  rw [XL,Z3r] at h
  cases hr:Z1M at_ r n with
  | some c=>
   rw [hr] at h;cases h
   obtain ⟨h1,h2⟩:=Z4T at_ n r b hr
   exact ⟨Q4 _ h1,h2⟩
  | none=>
   rw [hr] at h
   simp only at h
   split at h
   ·rename_i ha
    cases h;exact ⟨Q5,ha⟩
   ·cases h
theorem Z3x{α:Type}{at_:α->Int}{f g:α->α->α}{q:List α}{a:α}(h:∀ b∈q,f a b=g a b):YA at_ f q a=YA at_ g q a:=by
 unfold YA
 cases hb:Z1M at_ q (at_ a) with
 | none=> rfl
 | some b=> exact h b (Z4T at_ _ q b hb).1
theorem Zcw{α:Type}{at_:α->Int}{f g:α->α->Bool}{p q:List α}(h:∀ a∈p,∀ b∈q,f a b=g a b):JV at_ f p q=JV at_ g p q:=by
 unfold JV
 rw [Qx]
 simp only [Xw,Q1,decide_eq_true_eq]
 constructor
 ·rintro ⟨a,ha,b,hb,h1,h2⟩;exact ⟨a,ha,b,hb,h1,by rw [<-h a ha b hb];exact h2⟩
 ·rintro ⟨a,ha,b,hb,h1,h2⟩;exact ⟨a,ha,b,hb,h1,by rw [h a ha b hb];exact h2⟩
theorem Zmt{p q:List Op}{x:Piece}(hx:POk2 p q x)(h0:x.of=0)(kp:x.p.kind=3)(kq:x.q.kind=3):∃ a∈p,∃ b∈q,a.kind=3/\b.kind=3/\x.p.e=a.e/\x.q.e=b.e:=by
 obtain ⟨⟨a,ma,ka,ea,_⟩,_⟩:=hx.pp (by omega)
 obtain ⟨⟨b,mb,kb,eb,_⟩,_⟩:=hx.qq (by omega)
 exact ⟨a,ma,b,mb,by omega,by omega,ea,eb⟩
theorem ZeM{f g:Edit->Edit->Lft}{p q:Op}(h:p.kind=3->q.kind=3->f p.e q.e=g p.e q.e)(hp:kOk p)(hq:kOk q)(p2:p.kind≠2)(q2:q.kind≠2):ZC f p q=ZC g p q:=by
 unfold ZC
 by_cases h1:p.kind=0/\q.kind=1
 ·rw [if_pos h1,if_pos h1]
 by_cases h2:p.kind=1/\q.kind=0
 ·rw [if_neg h1,if_neg h1,if_pos h2,if_pos h2]
 by_cases h3:p.kind=0
 ·rw [if_neg h1,if_neg h1,if_neg h2,if_neg h2,if_pos h3,if_pos h3]
 by_cases h4:q.kind=0
 ·rw [if_neg h1,if_neg h1,if_neg h2,if_neg h2,if_neg h3,if_neg h3,if_pos h4,if_pos h4]
 rw [if_neg h1,if_neg h1,if_neg h2,if_neg h2,if_neg h3,if_neg h3,if_neg h4,if_neg h4]
 by_cases h5:p.kind=1/\q.kind=1
 ·rw [if_pos h5,if_pos h5]
 by_cases h6:p.kind=1
 ·rw [if_neg h5,if_neg h5,if_pos h6,if_pos h6]
 by_cases h7:q.kind=1
 ·rw [if_neg h5,if_neg h5,if_neg h6,if_neg h6,if_pos h7,if_pos h7]
 have kp:p.kind=3:=by unfold kOk at hp;omega
 have kq:q.kind=3:=by unfold kOk at hq;omega
 rw [h kp kq]
theorem ZbF{f g:Edit->Edit->Lft}{p q:List Op}(h:∀ a∈p,∀ b∈q,a.kind=3->b.kind=3->f a.e b.e=g a.e b.e):∀ {ps:List Piece},(∀ x∈ps,POk2 p q x)->∀ m n,Z0q f ps m n=Z0q g ps m n
 | [],_,_,_=> rfl
 | x ::r,hps,m,n=> by
  have ih:=fun m n=> ZbF h (fun y hy=> hps y (Q4 _ hy)) (ps:=r) m n
  have hx:=hps x Q5
  simp only [Z0q,ih]
  by_cases h1:x.of=1
  ·rw [if_pos h1,if_pos h1]
  by_cases h2:x.of=2
  ·rw [if_neg h1,if_neg h1,if_pos h2,if_pos h2]
  have h0:x.of=0:=by rcases hx.of with h | h | h <;> omega
  obtain ⟨b1,b2,_⟩:=hx.both h0
  rw [if_neg h1,if_neg h1,if_neg h2,if_neg h2,ZeM (f:=f) (g:=g) (fun kp kq=> ?_) (JQ (hx.pp h2).2) (JQ (hx.qq h1).2) b1 b2]
  obtain ⟨a,ma,b,mb,ka,kb,ea,eb⟩:=Zmt hx h0 kp kq
  rw [ea,eb]
  exact h a ma b mb ka kb
theorem Z74 {f g:Edit->Edit->Lft} {p q:Edit} {d d':Int} (hp:Z8 p d=true) (hq:Z8 q d'=true)
  (h:∀ a b,Z7 a+Z7 b < Z7 p+Z7 q->(∃ d,Z8 a d=true)->(∃ d,Z8 b d=true)->f a b=g a b):Ya f p q=Ya g p q:=by
 have rp:=Zt hp
 have rq:=Zt hq
 have hk:∀ a∈p.kids,∀ b∈q.kids,f a.e b.e=g a.e b.e:=by
  intro a ha b hb
  have:=Yp ha
  have:=Yp hb
  exact h _ _ (by omega) ⟨_,(Zz rp.kids a ha).2⟩ ⟨_,(Zz rq.kids b hb).2⟩
 have hs:Z3H f p q=Z3H g p q:=by
  unfold Z3H
  rw [Zcw (at_:=KidOf.at_) (f:=fun a b:Kid=> (f a.e b.e).c) (g:=fun a b=> (g a.e b.e).c) fun a ha b hb=> by rw [hk a ha b hb],
   Zcw (at_:=KidOf.at_) (f:=fun a b:Kid=> (f a.e b.e).a) (g:=fun a b=> (g a.e b.e).a) fun a ha b hb=> by rw [hk a ha b hb],
   Xk (f:=YA KidOf.at_ (fun a b:Kid=> ⟨a.at_,(f a.e b.e).x⟩) q.kids) (g:=YA KidOf.at_ (fun a b:Kid=> ⟨a.at_,(g a.e b.e).x⟩) q.kids) fun a ha=> Z3x fun b hb=> by rw [hk a ha b hb],
   Xk (f:=YA KidOf.at_ (fun b a:Kid=> ⟨b.at_,(f a.e b.e).y⟩) p.kids) (g:=YA KidOf.at_ (fun b a:Kid=> ⟨b.at_,(g a.e b.e).y⟩) p.kids) fun b hb=> Z3x fun a ha=> by rw [hk a ha b hb]]
 have ho:Z3p f p q=Z3p g p q:=by
  unfold Z3p
  obtain ⟨i1,_⟩:=Zdg _ p.ops q.ops [] (Qf _) (J3 hp) (J3 hq)
  by_cases hb:(ZK 2 2 p.ops q.ops []).2.1=true
  ·rw [if_pos hb,if_pos hb]
   obtain ⟨ps,e,hps,_,_⟩:=i1 hb
   rw [e,Qu,ZbF (f:=f) (g:=g) (fun a ha b hb ka kb=> ?_) hps]
   have:=J8 ha
   have:=J8 hb
   exact h _ _ (by omega) ⟨_,J2 (rightOs_mem rp.ops ha) ka⟩ ⟨_,J2 (rightOs_mem rq.ops hb) kb⟩
  ·rw [if_neg hb,if_neg hb]
 unfold Ya
 rw [hs,ho]
theorem Zh2:∀ (n m:Nat) (p q:Edit) (d d':Int),Z8 p d=true->Z8 q d'=true->Z7 p+Z7 q<=n->n<=m->lbF m p q=lbF n p q:=by
 intro n
 induction n with
 | zero=> intro m p q d d' _ _ h;obtain ⟨k,o,nw,w,ks,l,os⟩:=p;simp only [Z7] at h;omega
 | succ n ih=>
  intro m p q d d' hp hq h hm
  obtain ⟨m,rfl⟩:∃ k,m=k+1:=⟨m - 1,by omega⟩
  show Ya (lbF m) p q=Ya (lbF n) p q
  exact Z74 hp hq fun a b hab ⟨d1,h1⟩ ⟨d2,h2⟩=> ih m a b d1 d2 h1 h2 (by omega) (by omega)
theorem Zc7{p q:Edit}{d d':Int}(hp:Z8 p d=true)(hq:Z8 q d'=true):lbE p q=Ya lbE p q:=by
 have e:lbE p q=lbF (Z7 p+Z7 q+1) p q:=(Zh2 _ _ p q d d' hp hq (Qf _) (by omega)).symm
 rw [e]
 show Ya (lbF (Z7 p+Z7 q)) p q=Ya lbE p q
 exact Z74 hp hq fun a b hab ⟨d1,h1⟩ ⟨d2,h2⟩=> Zh2 _ _ a b d1 d2 h1 h2 (Qf _) (by omega)
end Go.AM.Ytpjenobkibfpcaa
