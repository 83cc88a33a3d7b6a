import Derived.Test.YtpjenobkibfpcaaKB22c
import Derived.Test.YtpjenobkibfpcaaKP20
import Derived.Test.YtpjenobkibfpcaaKL21t
import Derived.Test.YtpjenobkibfpcaaCL25i
import Derived.Test.YtpjenobkibfpcaaKB20e
set_option linter.unusedSimpArgs false
set_option linter.unusedVariables false
namespace Go.AM.Ytpjenobkibfpcaa
open Go.AM Go.Proofs
noncomputable section
noncomputable section
def Zg7:ArgL (Edit × Unit):=(.cons (aEl .edit) .nil)
def Z1H(a:Edit × Unit):Prop:=Zc a.1≤20000000000∧∃ d,Z0 a.1 d=true
def ZcJ(a:Edit × Unit):Nat:=2*Zc a.1
def Zac(a:Edit × Unit):V U:= .agg (enc .edit (ZR a.1))
def Z5e:Fs U:=fs Zg7 (fun a=> [Z1H a]) Zac
def Zg4:ArgL (Int × List Op × Unit):=(.cons (J3 .i64) (.cons (aSl .op) .nil))
def Zae(a:Int × List Op × Unit):Prop:=Zs a.2.1≤20000000000∧∀ o∈a.2.1,∃ d,Za a.1 o d=true
def Zho(a:Int × List Op × Unit):Nat:=2*Zs a.2.1+1
def Zh0(a:Int × List Op × Unit):V U:= .c (sU .op ((Z3 (YL a.1 a.2.1 (Wst.mk [] [] []))).out) .unk)
def Zor:Fs U:=fs Zg4 (fun a=> [Zae a]) Zh0
def Z3C(N:Nat):List (FuncId × Fs U):=(57,fs Zg7 (fun a=> [Z1H a,ZcJ a < N]) Zac) ::(94,fs Zg4 (fun a=> [Zae a,Zho a < N]) Zh0) ::[(71,Z0o),(128,Z3L),(126,Z63),(129,Z1Q),(127,Z5f)]
def ZfD:Zh U:=fun i=> match i with
 | 0=> ([(1,[]),(2,[])],[(.loc 1,[]),(.loc 2,[])])
 | 1=> ([(1,[]),(2,[]),(3,[])],[(.loc 1,[]),(.loc 2,[]),(.loc 3,[])])
 | 2=> ([(1,[]),(2,[]),(3,[]),(12,[])],[(.loc 1,[]),(.loc 2,[]),(.loc 3,[])])
 | 3=> ([(1,[]),(2,[]),(3,[]),(12,[]),(13,[])],[(.loc 1,[]),(.loc 2,[]),(.loc 3,[])])
 | 4=> ([(2,[]),(3,[])],[(.loc 2,[]),(.loc 3,[])])
 | 5=> ([(1,[]),(2,[]),(3,[]),(12,[]),(23,[])],[(.loc 1,[]),(.loc 2,[]),(.loc 3,[])])
 | 6=> ([(1,[]),(2,[]),(3,[])],[(.loc 1,[]),(.loc 2,[]),(.loc 3,[])])
 | 7=> ([(2,[]),(3,[]),(32,[]),(33,[]),(34,[])],[(.loc 2,[]),(.loc 3,[.any,.any,.any,.any,.any,.any,.any,.any,.own .kid])])
 | 8=> ([(2,[]),(3,[]),(32,[]),(33,[]),(34,[]),(35,[])],[(.loc 2,[]),(.loc 3,[])])
 | 9=> ([(2,[]),(3,[]),(5,[]),(32,[]),(33,[]),(34,[])],[(.loc 2,[]),(.loc 3,[]),(.loc 5,[])])
 | 10=> ([(2,[]),(3,[]),(32,[]),(33,[]),(34,[])],[(.loc 2,[]),(.loc 3,[])])
 | 11=> ([(2,[]),(3,[]),(32,[]),(33,[]),(34,[])],[(.loc 2,[]),(.loc 3,[.any,.any,.any,.any,.any,.any,.any,.any,.own .kid])])
 | 12=> ([(1,[]),(2,[]),(3,[]),(50,[])],[(.loc 1,[]),(.loc 2,[]),(.loc 3,[])])
 | 13=> ([(2,[]),(3,[])],[(.loc 2,[]),(.loc 3,[])])
 | 14=> ([(2,[])],[(.loc 2,[])])
 | _=> ([],[])
def Z46(e:Edit)(x34:Int)(ml3_8:List Kid):LSt U:=(L2 [(2,.ptr (.loc 2) 0),(3,.ptr (.loc 3) 0),(32,.c (sU .kid e.kids .unk)),(33,.c (ci (e.kids.length:Int))),(34,.c (ci x34))] [(.loc 2,zc1),(.loc 3,[ci e.kind,ci 0,.nils,.nils,ci 0,.nils,.nils,sU .wedit (([]:List WEdit)++e.words) (.own (.l 3 7)),sU .kid ml3_8 (.own (.l 3 8)),ci e.list,.nils])])
abbrev W57(N:Nat)(e:Edit)(Q:QT):=AW (Z1 (Z3C N)) Try.f57 ZfD [] (L2 [(0,.agg (enc .edit e))] []) Q
abbrev ZnB(N:Nat):=awp cfg (Z1 (Z3C N)) (ZJ cfg (Z1 (Z3C N))) Try.f57.ntmps ZfD
abbrev Zms(N:Nat):=Z7Y cfg (Z1 (Z3C N)) (ZJ cfg (Z1 (Z3C N))) Try.f57.ntmps ZfD
theorem ZzT(N:Nat)(e:Edit)(Q:QT)(h:((e.kind==1)=true→(Z0W ((Tree.mk e.old.kind e.old.words e.old.kids),()))∧(Z0W ((Tree.mk e.new.kind e.new.words e.new.kids),()))∧(Q .ret (L2 [(2,.ptr (.loc 2) 0)] [(.loc 2,([ci e.kind]++enc .tree (Z7 (Tree.mk e.old.kind e.old.words e.old.kids))++enc .tree (Z7 (Tree.mk e.new.kind e.new.words e.new.kids))++[.nils,.nils,ci e.list,.nils]))])))∧((e.kind==1)=false→((e.kind==2)=true→((([]:List WEdit).length+e.words.length)*32≤140737488355328)∧(Zl (AW (Z1 (Z3C N)) Try.f57 ZfD [1,1,0,1,0,1,1,1,0,1,1,0,0]) (Z46 e 0 []) (xB 1 (xB 0 (SW (Z1 (Z3C N)) Try.f57 ZfD [1,1,1] Q)))))∧((e.kind==2)=false→((e.kind==3)=true→(Zae (e.list,e.ops,()))∧(Zho (e.list,e.ops,()) < N)∧(Q .ret (L2 [(2,.ptr (.loc 2) 0)] [(.loc 2,[ci e.kind,ci 0,.nils,.nils,ci 0,.nils,.nils,.nils,.nils,ci e.list,sU .op ((Z3 (YL e.list e.ops (Wst.mk [] [] []))).out) .unk])])))∧((e.kind==3)=false→Q .ret (L2 [(2,.ptr (.loc 2) 0)] [(.loc 2,[ci e.kind,ci 0,.nils,.nils,ci 0,.nils,.nils,.nils,.nils,ci e.list,.nils])]))))):
  W57 N e Q:=by
 have e_:(W57 N e Q)=(((e.kind==1)=true→(Z0W ((Tree.mk e.old.kind e.old.words e.old.kids),()))∧(Z0W ((Tree.mk e.new.kind e.new.words e.new.kids),()))∧(Q .ret (L2 [(2,.ptr (.loc 2) 0)] [(.loc 2,([ci e.kind]++enc .tree (Z7 (Tree.mk e.old.kind e.old.words e.old.kids))++enc .tree (Z7 (Tree.mk e.new.kind e.new.words e.new.kids))++[.nils,.nils,ci e.list,.nils]))])))∧((e.kind==1)=false→(((e.kind==2)=true→((([]:List WEdit).length+e.words.length)*32≤140737488355328)∧(Zl (ZnB N (cd Try.f57 [1,1,0,1,0,1,1,1,0,1,1,0,0])) (Z46 e 0 []) (xB 1 (xB 0 (Zms N (cd Try.f57 [1,1,1]) Q)))))∧((e.kind==2)=false→(((e.kind==3)=true→(Zae (e.list,e.ops,()))∧(Zho (e.list,e.ops,()) < N)∧(Q .ret (L2 [(2,.ptr (.loc 2) 0)] [(.loc 2,[ci e.kind,ci 0,.nils,.nils,ci 0,.nils,.nils,.nils,.nils,ci e.list,sU .op ((Z3 (YL e.list e.ops (Wst.mk [] [] []))).out) .unk])])))∧((e.kind==3)=false→(Q .ret (L2 [(2,.ptr (.loc 2) 0)] [(.loc 2,[ci e.kind,ci 0,.nils,.nils,ci 0,.nils,.nils,.nils,.nils,ci e.list,.nils])])))))))):=by kernel_rfl
 exact e_.mpr ⟨fun c_1=> ⟨(h.1 c_1).1,(h.1 c_1).2.1,(h.1 c_1).2.2⟩,fun c_1=> ⟨fun c_2=> ⟨((h.2 c_1).1 c_2).1,((h.2 c_1).1 c_2).2⟩,fun c_2=> ⟨fun c_3=> ⟨(((h.2 c_1).2 c_2).1 c_3).1,(((h.2 c_1).2 c_2).1 c_3).2.1,(((h.2 c_1).2 c_2).1 c_3).2.2⟩,fun c_3=> (((h.2 c_1).2 c_2).2 c_3)⟩⟩⟩
abbrev Zrg(N:Nat)(e:Edit)(x34:Int)(ml3_8:List Kid)(N0:NT)(Q:QT):=AW (Z1 (Z3C N)) Try.f57 ZfD [1,1,0,1,0,1,1,1,0,1,1,0,0] (Z46 e x34 ml3_8) (xT N0 (xB 1 (xB 0 (SW (Z1 (Z3C N)) Try.f57 ZfD [1,1,1] Q))))
theorem ZrM(N:Nat)(e:Edit)(x34:Int)(ml3_8:List Kid)(N0:NT)(Q:QT)(h:∀ y_1,y_1=(e.kids.getD x34.toNat (KidOf.mk 0 Edit.nil))→∀ y_2,y_2=(y_1.e)→∀ y_3,y_3=(ZR y_2)→((decide (x34 < (e.kids.length:Int)))=true→((0:Int)≤x34∧x34 < (e.kids.length:Int))∧((Z1H (y_2,()))∧(ZcJ (y_2,()) < N)∧((ml3_8.length+([(KidOf.mk y_1.at_ y_3:Kid)]).length)*208≤140737488355328)∧((InR (x34+1))∧(N0 (Z46 e (x34+1) (ml3_8++([(KidOf.mk y_1.at_ y_3:Kid)])))))))∧((decide (x34 < (e.kids.length:Int)))=false→Q .ret (L2 [(2,.ptr (.loc 2) 0)] [(.loc 2,[ci e.kind,ci 0,.nils,.nils,ci 0,.nils,.nils,sU .wedit (([]:List WEdit)++e.words) (.own (.l 2 7)),sU .kid ml3_8 (.own (.l 2 8)),ci e.list,.nils])]))):
  Zrg N e x34 ml3_8 N0 Q:=by
 have e_:(Zrg N e x34 ml3_8 N0 Q)=(let y_1:=(e.kids.getD x34.toNat (KidOf.mk 0 Edit.nil));let y_2:=(Jl y_1.e);let y_3:=(Jl (ZR y_2));(((decide ((x34:Int) < (e.kids.length:Int)))=true→((0:Int)≤x34∧x34 < (e.kids.length:Int))∧((Z1H (y_2,()))∧(ZcJ (y_2,()) < N)∧((ml3_8.length+([(KidOf.mk y_1.at_ y_3:Kid)]).length)*208≤140737488355328)∧((InR ((x34:Int)+1))∧(N0 (Z46 e ((x34:Int)+1) (ml3_8++([(KidOf.mk y_1.at_ y_3:Kid)])))))))∧((decide ((x34:Int) < (e.kids.length:Int)))=false→(Q .ret (L2 [(2,.ptr (.loc 2) 0)] [(.loc 2,[ci e.kind,ci 0,.nils,.nils,ci 0,.nils,.nils,sU .wedit (([]:List WEdit)++e.words) (.own (.l 2 7)),sU .kid ml3_8 (.own (.l 2 8)),ci e.list,.nils])]))))):=by kernel_rfl
 exact e_.mpr (by intro y_1 y_2 y_3;have hh:=h y_1 rfl y_2 (Zf _) y_3 (Zf _);exact ⟨fun c_4=> ⟨(hh.1 c_4).1,⟨(hh.1 c_4).2.1,(hh.1 c_4).2.2.1,(hh.1 c_4).2.2.2.1,⟨(hh.1 c_4).2.2.2.2.1,(hh.1 c_4).2.2.2.2.2⟩⟩⟩,fun c_4=> (hh.2 c_4)⟩)
def Zxr(N:Nat)(e:Edit):Prop:=AW (Z1 (Z3C N)) Try.f57 ZfD [] (Zn (Zg7.can (e,())) []) (EQ Try.f57 (Zac (e,())) [])
abbrev Zzr:Prop:=∀ (N:Nat) (e:Edit) (_:Unit),Z1H (e,())→ZcJ (e,()) < N+1→Zxr N e
def Z3B(N:Nat):List (FuncId × Fs U):=(57,fs Zg7 (fun a=> [Z1H a,ZcJ a < N]) Zac) ::(94,fs Zg4 (fun a=> [Zae a,Zho a < N]) Zh0) ::[(71,Z0o),(128,Z3L),(126,Z63),(129,Z1Q),(127,Z5f)]
def ZfC:Zh U:=fun i=> match i with
 | 0=> ([(0,[]),(1,[])],[])
 | 1=> ([(0,[]),(1,[]),(5,[])],[(.loc 10,[.wr .op])])
 | 2=> ([(0,[]),(5,[]),(11,[]),(12,[]),(13,[])],[(.loc 10,[.wr .op,.own .tree,.own .tree])])
 | 3=> ([(0,[]),(5,[]),(11,[]),(12,[]),(13,[]),(14,[])],[(.loc 10,[.wr .op])])
 | 4=> ([(0,[]),(5,[]),(7,[]),(11,[]),(12,[]),(13,[])],[(.loc 7,[]),(.loc 10,[.wr .op])])
 | 5=> ([(0,[]),(5,[]),(7,[]),(11,[]),(12,[]),(13,[]),(18,[])],[(.loc 7,[]),(.loc 10,[.wr .op])])
 | 6=> ([(0,[]),(5,[]),(7,[]),(11,[]),(12,[]),(13,[]),(18,[]),(19,[])],[(.loc 7,[]),(.loc 10,[.wr .op])])
 | 7=> ([(0,[]),(5,[]),(11,[]),(12,[]),(13,[])],[(.loc 10,[.wr .op])])
 | 8=> ([(0,[]),(5,[]),(7,[]),(11,[]),(12,[]),(13,[]),(18,[]),(25,[])],[(.loc 7,[]),(.loc 10,[.wr .op])])
 | 9=> ([(0,[]),(5,[]),(11,[]),(12,[]),(13,[])],[(.loc 10,[.wr .op])])
 | 10=> ([(0,[]),(5,[]),(7,[]),(11,[]),(12,[]),(13,[]),(18,[]),(33,[])],[(.loc 7,[]),(.loc 10,[.wr .op])])
 | 11=> ([(0,[]),(5,[]),(11,[]),(12,[]),(13,[])],[(.loc 10,[.wr .op])])
 | 12=> ([(0,[]),(5,[]),(7,[]),(11,[]),(12,[]),(13,[]),(41,[])],[(.loc 7,[]),(.loc 10,[.wr .op])])
 | 13=> ([(0,[]),(5,[]),(8,[]),(11,[]),(12,[]),(13,[])],[(.loc 8,[]),(.loc 10,[.wr .op])])
 | 14=> ([(0,[]),(5,[]),(8,[]),(11,[]),(12,[]),(13,[]),(48,[])],[(.loc 8,[]),(.loc 10,[.wr .op])])
 | 15=> ([(0,[]),(5,[]),(11,[]),(12,[]),(13,[])],[(.loc 10,[.wr .op])])
 | 16=> ([(0,[]),(5,[]),(8,[]),(11,[]),(12,[]),(13,[])],[(.loc 8,[]),(.loc 10,[.wr .op])])
 | 17=> ([(0,[]),(5,[]),(11,[]),(12,[]),(13,[])],[(.loc 10,[.wr .op])])
 | 18=> ([(0,[]),(5,[]),(11,[]),(12,[]),(13,[])],[(.loc 10,[.wr .op,.own .tree,.own .tree])])
 | 19=> ([(5,[])],[(.loc 10,[.wr .op])])
 | 20=> ([(4,[])],[])
 | _=> ([],[])
def Ym(list:Int)(l:List Op)(x13:Int)(rl_10_0:List Op)(ml10_1 ml10_2:List Tree):LSt U:=(⟨[(0,.c (ci list)),(5,.ptr (.loc 10) 0),(11,.c (sU .op l .unk)),(12,.c (ci (l.length:Int))),(13,.c (ci x13))],[(.loc 10,[.mref (.l 10 0),sU .tree ml10_1 (.own (.l 10 1)),sU .tree ml10_2 (.own (.l 10 2))])],[(.l 10 0,LC.mk (U:=U) .op rl_10_0 0)]⟩:LSt U)
abbrev W94(N:Nat)(list:Int)(l:List Op)(Q:QT):=AW (Z1 (Z3B N)) Try.f94 ZfC [] (L2 [(0,.c (ci list)),(1,.c (sU .op l .unk))] []) Q
abbrev Znz(N:Nat):=awp cfg (Z1 (Z3B N)) (ZJ cfg (Z1 (Z3B N))) Try.f94.ntmps ZfC
abbrev Zmq(N:Nat):=Z7Y cfg (Z1 (Z3B N)) (ZJ cfg (Z1 (Z3B N))) Try.f94.ntmps ZfC
theorem Zzy(N:Nat)(list:Int)(l:List Op)(Q:QT)(h:Zl (AW (Z1 (Z3B N)) Try.f94 ZfC [1,1,0,1,0,0]) (Ym list l 0 [] [] []) (xB 0 (SW (Z1 (Z3B N)) Try.f94 ZfC [1,1,1] Q))):
  W94 N list l Q:=by
 have e_:(W94 N list l Q)=(Zl (Znz N (cd Try.f94 [1,1,0,1,0,0])) (Ym list l 0 [] [] []) (xB 0 (Zmq N (cd Try.f94 [1,1,1]) Q))):=by kernel_rfl
 exact e_.mpr h
abbrev Zrf(N:Nat)(list:Int)(l:List Op)(x13:Int)(rl_10_0:List Op)(ml10_1 ml10_2:List Tree)(N0:NT)(Q:QT):=AW (Z1 (Z3B N)) Try.f94 ZfC [1,1,0,1,0,0] (Ym list l x13 rl_10_0 ml10_1 ml10_2) (xT N0 (xB 0 (SW (Z1 (Z3B N)) Try.f94 ZfC [1,1,1] Q)))
theorem Zrs(N:Nat)(list:Int)(l:List Op)(x13:Int)(rl_10_0:List Op)(ml10_1 ml10_2:List Tree)(N0:NT)(Q:QT)(h:∀ y_1,y_1=(l.getD x13.toNat Op.nil)→∀ y_2,y_2=(Edit.mk 0 (Tree.mk 0 [] []) (Tree.mk 0 [] []) [] [] 0 [])→∀ y_3,y_3=(Int.toNat (((Z3 (Wst.mk rl_10_0 ml10_1 ml10_2)).out).length:Int))→∀ y_4,y_4=(y_1.e)→∀ y_5,y_5=(ZR y_4)→((decide (x13 < (l.length:Int)))=true→((0:Int)≤x13∧x13 < (l.length:Int))∧(((y_1.kind==0)=true→(Z4I ((rl_10_0,ml10_1,ml10_2,()),y_1.n,()))∧((InR (x13+1))∧(N0 (Ym list l (x13+1) ((ZX (Wst.mk rl_10_0 ml10_1 ml10_2) y_1.n).out) ((ZX (Wst.mk rl_10_0 ml10_1 ml10_2) y_1.n).gone) ((ZX (Wst.mk rl_10_0 ml10_1 ml10_2) y_1.n).brought)))))∧((y_1.kind==0)=false→((y_1.kind==1)=true→(Z9q ((rl_10_0,ml10_1,ml10_2,()),y_1.l,()))∧((InR (x13+1))∧(N0 (Ym list l (x13+1) ((Wst.mk rl_10_0 (ml10_1++Z5 y_1.l) ml10_2).out) ((Wst.mk rl_10_0 (ml10_1++Z5 y_1.l) ml10_2).gone) ((Wst.mk rl_10_0 (ml10_1++Z5 y_1.l) ml10_2).brought)))))∧((y_1.kind==1)=false→((y_1.kind==2)=true→(Z6e ((rl_10_0,ml10_1,ml10_2,()),y_1.l,()))∧((InR (x13+1))∧(N0 (Ym list l (x13+1) ((Wst.mk rl_10_0 ml10_1 (ml10_2++Z5 y_1.l)).out) ((Wst.mk rl_10_0 ml10_1 (ml10_2++Z5 y_1.l)).gone) ((Wst.mk rl_10_0 ml10_1 (ml10_2++Z5 y_1.l)).brought)))))∧((y_1.kind==2)=false→((y_1.kind==3)=true→(Z1H (y_4,()))∧(ZcJ (y_4,()) < N)∧((Z6d (list,y_5,()))∧(((Z6O list y_5)=true→(Z4I ((rl_10_0,ml10_1,ml10_2,()),1,()))∧((InR (x13+1))∧(N0 (Ym list l (x13+1) ((ZX (Wst.mk rl_10_0 ml10_1 ml10_2) 1).out) ((ZX (Wst.mk rl_10_0 ml10_1 ml10_2) 1).gone) ((ZX (Wst.mk rl_10_0 ml10_1 ml10_2) 1).brought)))))∧((Z6O list y_5)=false→(Z1F ((rl_10_0,ml10_1,ml10_2,()),()))∧(((((Z3 (Wst.mk rl_10_0 ml10_1 ml10_2)).out).length+([(OpOf.mk 0 0 [] y_2:Op)]).length)*240≤140737488355328)∧((0:Int)≤(((Z3 (Wst.mk rl_10_0 ml10_1 ml10_2)).out).length:Int)∧(((Z3 (Wst.mk rl_10_0 ml10_1 ml10_2)).out).length:Int) < ((((Z3 (Wst.mk rl_10_0 ml10_1 ml10_2)).out)++([(OpOf.mk 0 0 [] y_2:Op)])).length:Int))∧((0:Nat)≤y_3)∧((InR (x13+1))∧(N0 (Ym list l (x13+1) (List.set (((Z3 (Wst.mk rl_10_0 ml10_1 ml10_2)).out)++([(OpOf.mk 0 0 [] y_2:Op)])) y_3 (OpOf.mk 3 0 [] y_5:Op)) ((Z3 (Wst.mk rl_10_0 ml10_1 ml10_2)).gone) ((Z3 (Wst.mk rl_10_0 ml10_1 ml10_2)).brought)))))))))∧((y_1.kind==3)=false→(InR (x13+1))∧(N0 (Ym list l (x13+1) rl_10_0 ml10_1 ml10_2))))))))∧((decide (x13 < (l.length:Int)))=false→(Z1F ((rl_10_0,ml10_1,ml10_2,()),()))∧(Q .ret (L2 [(4,.c (sU .op ((Z3 (Wst.mk rl_10_0 ml10_1 ml10_2)).out) (.own (.e 4 0))))] [])))):
  Zrf N list l x13 rl_10_0 ml10_1 ml10_2 N0 Q:=by
 have e_:(Zrf N list l x13 rl_10_0 ml10_1 ml10_2 N0 Q)=(let y_1:=(l.getD x13.toNat Op.nil);let y_2:=(Edit.mk 0 (Tree.mk 0 [] []) (Tree.mk 0 [] []) [] [] 0 []);let y_3:=(Int.toNat (((Z3 (Wst.mk rl_10_0 ml10_1 ml10_2)).out).length:Int));let y_4:=(Jl y_1.e);let y_5:=(Jl (ZR y_4));(((decide ((x13:Int) < (l.length:Int)))=true→((0:Int)≤x13∧x13 < (l.length:Int))∧(((y_1.kind==0)=true→(Z4I ((rl_10_0,ml10_1,ml10_2,()),y_1.n,()))∧((InR ((x13:Int)+1))∧(N0 (Ym list l ((x13:Int)+1) ((ZX (Wst.mk rl_10_0 ml10_1 ml10_2) y_1.n).out) ((ZX (Wst.mk rl_10_0 ml10_1 ml10_2) y_1.n).gone) ((ZX (Wst.mk rl_10_0 ml10_1 ml10_2) y_1.n).brought)))))∧((y_1.kind==0)=false→(((y_1.kind==1)=true→(Z9q ((rl_10_0,ml10_1,ml10_2,()),y_1.l,()))∧((InR ((x13:Int)+1))∧(N0 (Ym list l ((x13:Int)+1) ((Wst.mk rl_10_0 (ml10_1++Z5 y_1.l) ml10_2).out) ((Wst.mk rl_10_0 (ml10_1++Z5 y_1.l) ml10_2).gone) ((Wst.mk rl_10_0 (ml10_1++Z5 y_1.l) ml10_2).brought)))))∧((y_1.kind==1)=false→(((y_1.kind==2)=true→(Z6e ((rl_10_0,ml10_1,ml10_2,()),y_1.l,()))∧((InR ((x13:Int)+1))∧(N0 (Ym list l ((x13:Int)+1) ((Wst.mk rl_10_0 ml10_1 (ml10_2++Z5 y_1.l)).out) ((Wst.mk rl_10_0 ml10_1 (ml10_2++Z5 y_1.l)).gone) ((Wst.mk rl_10_0 ml10_1 (ml10_2++Z5 y_1.l)).brought)))))∧((y_1.kind==2)=false→(((y_1.kind==3)=true→(Z1H (y_4,()))∧(ZcJ (y_4,()) < N)∧((Z6d (list,y_5,()))∧(((Z6O list y_5)=true→(Z4I ((rl_10_0,ml10_1,ml10_2,()),1,()))∧((InR ((x13:Int)+1))∧(N0 (Ym list l ((x13:Int)+1) ((ZX (Wst.mk rl_10_0 ml10_1 ml10_2) 1).out) ((ZX (Wst.mk rl_10_0 ml10_1 ml10_2) 1).gone) ((ZX (Wst.mk rl_10_0 ml10_1 ml10_2) 1).brought)))))∧((Z6O list y_5)=false→(Z1F ((rl_10_0,ml10_1,ml10_2,()),()))∧(((((Z3 (Wst.mk rl_10_0 ml10_1 ml10_2)).out).length+([(OpOf.mk 0 0 [] y_2:Op)]).length)*240≤140737488355328)∧((0:Int)≤(((Z3 (Wst.mk rl_10_0 ml10_1 ml10_2)).out).length:Int)∧(((Z3 (Wst.mk rl_10_0 ml10_1 ml10_2)).out).length:Int) < ((((Z3 (Wst.mk rl_10_0 ml10_1 ml10_2)).out)++([(OpOf.mk 0 0 [] y_2:Op)])).length:Int))∧((0:Nat)≤y_3)∧((InR ((x13:Int)+1))∧(N0 (Ym list l ((x13:Int)+1) (List.set (((Z3 (Wst.mk rl_10_0 ml10_1 ml10_2)).out)++([(OpOf.mk 0 0 [] y_2:Op)])) y_3 (OpOf.mk 3 0 [] y_5:Op)) ((Z3 (Wst.mk rl_10_0 ml10_1 ml10_2)).gone) ((Z3 (Wst.mk rl_10_0 ml10_1 ml10_2)).brought)))))))))∧((y_1.kind==3)=false→(InR ((x13:Int)+1))∧(N0 (Ym list l ((x13:Int)+1) rl_10_0 ml10_1 ml10_2)))))))))))∧((decide ((x13:Int) < (l.length:Int)))=false→(Z1F ((rl_10_0,ml10_1,ml10_2,()),()))∧(Q .ret (L2 [(4,.c (sU .op ((Z3 (Wst.mk rl_10_0 ml10_1 ml10_2)).out) (.own (.e 4 0))))] []))))):=by kernel_rfl
 exact e_.mpr (by intro y_1 y_2 y_3 y_4 y_5;have hh:=h y_1 rfl y_2 rfl y_3 rfl y_4 (Zf _) y_5 (Zf _);exact ⟨fun c_5=> ⟨(hh.1 c_5).1,⟨fun c_6=> ⟨((hh.1 c_5).2.1 c_6).1,⟨((hh.1 c_5).2.1 c_6).2.1,((hh.1 c_5).2.1 c_6).2.2⟩⟩,fun c_6=> ⟨fun c_7=> ⟨(((hh.1 c_5).2.2 c_6).1 c_7).1,⟨(((hh.1 c_5).2.2 c_6).1 c_7).2.1,(((hh.1 c_5).2.2 c_6).1 c_7).2.2⟩⟩,fun c_7=> ⟨fun c_8=> ⟨((((hh.1 c_5).2.2 c_6).2 c_7).1 c_8).1,⟨((((hh.1 c_5).2.2 c_6).2 c_7).1 c_8).2.1,((((hh.1 c_5).2.2 c_6).2 c_7).1 c_8).2.2⟩⟩,fun c_8=> ⟨fun c_9=> ⟨(((((hh.1 c_5).2.2 c_6).2 c_7).2 c_8).1 c_9).1,(((((hh.1 c_5).2.2 c_6).2 c_7).2 c_8).1 c_9).2.1,⟨(((((hh.1 c_5).2.2 c_6).2 c_7).2 c_8).1 c_9).2.2.1,⟨fun c_10=> ⟨((((((hh.1 c_5).2.2 c_6).2 c_7).2 c_8).1 c_9).2.2.2.1 c_10).1,⟨((((((hh.1 c_5).2.2 c_6).2 c_7).2 c_8).1 c_9).2.2.2.1 c_10).2.1,((((((hh.1 c_5).2.2 c_6).2 c_7).2 c_8).1 c_9).2.2.2.1 c_10).2.2⟩⟩,fun c_10=> ⟨((((((hh.1 c_5).2.2 c_6).2 c_7).2 c_8).1 c_9).2.2.2.2 c_10).1,⟨((((((hh.1 c_5).2.2 c_6).2 c_7).2 c_8).1 c_9).2.2.2.2 c_10).2.1,((((((hh.1 c_5).2.2 c_6).2 c_7).2 c_8).1 c_9).2.2.2.2 c_10).2.2.1,((((((hh.1 c_5).2.2 c_6).2 c_7).2 c_8).1 c_9).2.2.2.2 c_10).2.2.2.1,⟨((((((hh.1 c_5).2.2 c_6).2 c_7).2 c_8).1 c_9).2.2.2.2 c_10).2.2.2.2.1,((((((hh.1 c_5).2.2 c_6).2 c_7).2 c_8).1 c_9).2.2.2.2 c_10).2.2.2.2.2⟩⟩⟩⟩⟩⟩,fun c_9=> ⟨(((((hh.1 c_5).2.2 c_6).2 c_7).2 c_8).2 c_9).1,(((((hh.1 c_5).2.2 c_6).2 c_7).2 c_8).2 c_9).2⟩⟩⟩⟩⟩⟩,fun c_5=> ⟨(hh.2 c_5).1,(hh.2 c_5).2⟩⟩)
def Zx6(N:Nat)(list:Int)(l:List Op):Prop:=AW (Z1 (Z3B N)) Try.f94 ZfC [] (Zn (Zg4.can (list,l,())) []) (EQ Try.f94 (Zh0 (list,l,())) [])
abbrev Zzl:Prop:=∀ (N:Nat) (list:Int) (l:List Op) (_:Unit),Zae (list,l,())→Zho (list,l,()) < N+1→Zx6 N list l
theorem ZmY(c71:CT 71 Z0o)(ZqN:CT 128 Z3L)(ZwA:CT 126 Z63)(Znr:CT 129 Z1Q)(ZqK:CT 127 Z5f)(ha:Zzr)(hb:Zzl):CT 57 Z5e∧CT 94 Zor:=
 Z3F (μA:=ZcJ) (μB:=Zho) (l:=[(71,Z0o),(128,Z3L),(126,Z63),(129,Z1Q),(127,Z5f)]) Zo rfl (⟨c71,ZqN,ZwA,Znr,ZqK,trivial⟩) ZfD ZfC Try.func57 Try.func94 rfl rfl rfl rfl 1 2 (fun _=> rfl) (fun _=> rfl) (by decide) (by decide) (fun N ⟨e,_⟩=> ha N e ()) (fun N ⟨list,l,_⟩=> hb N list l ())
end
end
end Go.AM.Ytpjenobkibfpcaa
namespace Go.AM.Ytpjenobkibfpcaa
open Go.AM Go.Proofs
theorem Zn8(s:Wst)(n:Int):(ZX s n).out.length≤s.out.length+3:=by
 have h:=Z9H s
 simp only [ZX]
 rw [Z8A]
 split
 ·rw [List.length_set];omega
 ·rw [List.length_append];simp;omega
theorem Zt7{s:Wst}{n B K:Int}(hB:0≤B)(hn:0≤n∧n≤K)(h:∀ o∈s.out,0≤o.n∧o.n≤B):∀ o∈(ZX s n).out,0≤o.n∧o.n≤B+K:=by
 have hF:∀ o∈(Z3 s).out,0≤o.n∧o.n≤B:=by
  intro o ho
  rcases Z9G s o ho with h1 | h1
  ·exact h o h1
  ·omega
 intro o ho
 simp only [ZX] at ho
 rw [Z8A] at ho
 split at ho
 ·rename_i hc
  rcases List.mem_or_eq_of_mem_set ho with ho | rfl
  ·have:=hF o ho;omega
  ·have:=hF _ (Zm (l:=(Z3 s).out) (i:=(Z3 s).out.length - 1) (by omega) Op.nil)
   simp only;omega
 ·rcases List.mem_append.1 ho with ho | ho
  ·have:=hF o ho;omega
  ·simp only [List.mem_singleton] at ho;subst ho;simp only;omega
theorem ZcC:∀ (l:List Kid),(Z0h l).length=l.length
 | []=> rfl
 | k ::r=> by simp [Z0h,ZcC r]
theorem ZiR(e:Edit):(ZR e).words.length≤e.words.length∧(ZR e).kids.length≤e.kids.length:=by
 rw [Z8c]
 split
 ·simp
 ·split
  ·simp [ZcC]
  ·split <;> simp
theorem Zf7{list:Int}{o:Op}{d:Int}(h:Za list o d=true)(hk:o.kind=0):1≤o.n∧o.n≤1048576:=by
 obtain ⟨k,n,l,e⟩:=o
 simp only at hk
 subst hk
 simp [Za] at h
 show 1≤n∧n≤1048576
 omega
theorem Zf8{list:Int}{o:Op}{d:Int}(h:Za list o d=true)(hk:o.kind=3):Z0 o.e d=true:=by
 obtain ⟨k,n,l,e⟩:=o
 simp only at hk
 subst hk
 simp [Za] at h
 exact h.2.1.2
theorem Zn5{e:Edit}{d:Int}(h:Z0 e d=true)(hk:e.kind=2):∀ k∈e.kids,∃ d,Z0 k.e d=true:=by
 obtain ⟨k,o,n,w,ks,l,os⟩:=e
 change k=2 at hk
 subst hk
 have hks:∃ d last,Zr last ks d=true:=by
  unfold Z0 at h
  split at h
  ·cases h
  ·split at h
   ·cases h
   ·rw [if_neg (by omega)] at h
    simp only [Bool.and_eq_true] at h
    exact ⟨_,_,h.1.1.1.2⟩
 obtain ⟨d',last,hks⟩:=hks
 change ∀ k∈ks,_
 clear h
 induction ks generalizing last with
 | nil=> intro k hk;cases hk
 | cons a r ih=>
  simp only [Zr,Bool.and_eq_true] at hks
  intro k hk
  rcases List.mem_cons.1 hk with rfl | hk
  ·obtain ⟨a,e⟩:=k
   simp only [YY,Bool.and_eq_true] at hks
   exact ⟨_,hks.1.2⟩
  ·exact ih _ hks.2 k hk
theorem Zpq{e:Edit}{d:Int}(h:Z0 e d=true)(hk:e.kind=3):∀ o∈e.ops,∃ d,Za e.list o d=true:=by
 obtain ⟨k,o,n,w,ks,l,os⟩:=e
 change k=3 at hk
 subst hk
 have hos:∃ d,Zt l os d=true:=by
  unfold Z0 at h
  split at h
  ·cases h
  ·split at h
   ·cases h
   ·rw [if_neg (by omega)] at h
    simp only [Bool.and_eq_true] at h
    exact ⟨_,h.1.2⟩
 obtain ⟨d',hos⟩:=hos
 change ∀ o∈os,∃ d,Za l o d=true
 clear h
 induction os with
 | nil=> intro k hk;cases hk
 | cons a r ih=>
  simp only [Zt,Bool.and_eq_true] at hos
  intro k hk
  rcases List.mem_cons.1 hk with rfl | hk
  ·exact ⟨_,hos.1⟩
  ·exact ih hos.2 k hk
theorem b94:Zzl:=by
 intro N list l _ hp hN
 simp only [Zae,Zho] at hp hN
 obtain ⟨p1,p3⟩:=hp
 have hl:=massOs_len l
 refine Zzy _ _ _ _ ?_
 refine Ze (ι:=Int × Wst) (fun s=> Ym list l s.1 s.2.out s.2.gone s.2.brought)
  (fun s=> 0≤s.1∧s.1≤l.length∧YL list (l.drop s.1.toNat) s.2=YL list l ⟨[],[],[]⟩∧s.2.out.length≤3*s.1∧s.2.gone.length+s.2.brought.length+Zs (l.drop s.1.toNat)≤Zs l∧∀ o∈s.2.out,0≤o.n∧o.n≤s.1*1048576)
  (fun s=> ((l.length:Int) - s.1).toNat) (0,⟨[],[],[]⟩) rfl ⟨by simp,by simp,by simp,by simp,by simp,by simp⟩ ?_
 rintro ⟨i,s⟩ ⟨g1,g2,g3,g4,g5,g6⟩
 dsimp only at g1 g2 g3 g4 g5 g6
 refine Zrs _ _ _ _ _ _ _ _ _ ?_
 rintro y1 hy1 y2 hy2 y3 hy3 y4 hy4 y5 hy5
 have hy:y2=Edit.nil:=hy2
 subst hy
 have es:Wst.mk s.out s.gone s.brought=s:=rfl
 simp only [es] at hy3 ⊢
 (simp only [vcS])
 refine ⟨fun hi=> ?_,fun hi=> ?_⟩
 ·have hmem:=Zm (l:=l) (i:=i.toNat) (by omega) Op.nil
  have hm:=Yq hmem
  have hr:=p3 _ hmem
  rw [YU g1 hi Op.nil] at g3 g5
  rw [←hy1] at g3 g5 hm hr
  have hmo:=ZW y1
  simp only [YL,Z3U,Zs] at g3 g5
  rw [←hy4,←hy5] at g3
  obtain ⟨d,hr2⟩:=hr
  have hfl:=Z9H s
  have hP:∀ n:Int,0≤n∧n≤1048576→Z4I ((s.out,s.gone,s.brought,()),n,()):=by
   intro n hn
   simp only [Z4I]
   refine ⟨by omega,by omega,by omega,fun o ho=> ?_,by omega,by omega⟩
   have:=g6 o ho
   constructor
   ·omega
   ·have:i*1048576≤20000000000*1048576:=by omega
    omega
  have hK:∀ n:Int,0≤n∧n≤1048576→YL list (l.drop (i+1).toNat) (ZX s n)=YL list l ⟨[],[],[]⟩→
    (∃ j:Int × Wst,Ym list l (i+1) (ZX s n).out (ZX s n).gone (ZX s n).brought=Ym list l j.1 j.2.out j.2.gone j.2.brought∧(0≤j.1∧j.1≤l.length∧YL list (l.drop j.1.toNat) j.2=YL list l ⟨[],[],[]⟩∧j.2.out.length≤3*j.1∧j.2.gone.length+j.2.brought.length+Zs (l.drop j.1.toNat)≤Zs l∧∀ o∈j.2.out,0≤o.n∧o.n≤j.1*1048576)∧((l.length:Int) - j.1).toNat < ((l.length:Int) - i).toNat):=by
   intro n hn he
   have h1:=Zn8 s n
   have h2:=Zt7 (s:=s) (n:=n) (B:=i*1048576) (K:=1048576) (by omega) hn g6
   refine ⟨(i+1,ZX s n),rfl,⟨by dsimp only;omega,by dsimp only;omega,he,by dsimp only;omega,by simp only [ZX,List.length_nil];omega,fun o ho=> ?_⟩,by dsimp only;omega⟩
   have:=h2 o ho
   dsimp only
   omega
  refine ⟨⟨g1,hi⟩,fun hk=> ?_,fun hk=> ⟨fun hk1=> ?_,fun hk1=> ⟨fun hk2=> ?_,fun hk2=> ⟨fun hk3=> ?_,fun hk3=> ?_⟩⟩⟩⟩
  ·rw [if_pos hk] at g3
   have h1:=Zf7 hr2 hk
   exact ⟨hP _ (by omega),by unfold InR;omega,hK _ (by omega) g3⟩
  ·rw [if_neg hk,if_pos hk1] at g3
   refine ⟨by simp only [Z9q];omega,by unfold InR;omega,(i+1,⟨s.out,s.gone++Z5 y1.l,s.brought⟩),rfl,⟨by dsimp only;omega,by dsimp only;omega,g3,by dsimp only;omega,?_,fun o ho=> ?_⟩,by dsimp only;omega⟩
   ·have:=ZD y1.l
    simp only [List.length_append,Z5,List.length_map];omega
   ·have:=g6 o ho
    dsimp only;omega
  ·rw [if_neg hk,if_neg hk1,if_pos hk2] at g3
   refine ⟨by simp only [Z6e];omega,by unfold InR;omega,(i+1,⟨s.out,s.gone,s.brought++Z5 y1.l⟩),rfl,⟨by dsimp only;omega,by dsimp only;omega,g3,by dsimp only;omega,?_,fun o ho=> ?_⟩,by dsimp only;omega⟩
   ·have:=ZD y1.l
    simp only [List.length_append,Z5,List.length_map];omega
   ·have:=g6 o ho
    dsimp only;omega
  ·rw [if_neg hk,if_neg hk1,if_neg hk2,if_pos hk3] at g3
   have hre:=Zf8 hr2 hk3
   rw [←hy4] at hre
   have hw:=ZiR y4
   rw [←hy5] at hw
   have h1:=Yr y4
   have h2:=Yi y4.kids
   have hmE:Zc y4≤Zx y1:=by rw [hmo,hy4];omega
   refine ⟨by simp only [Z1H];exact ⟨by omega,d,hre⟩,by simp only [ZcJ];omega,by simp only [Z6d];omega,fun hq=> ?_,fun hq=> ?_⟩
   ·rw [if_pos hq] at g3
    exact ⟨hP 1 (by omega),by unfold InR;omega,hK 1 (by omega) g3⟩
   ·rw [if_neg (by rw [hq];simp)] at g3
    rw [hy3,Z2s]
    refine ⟨by simp only [Z1F];omega,by simp only [List.length_cons,List.length_nil];omega,by simp only [List.length_append,List.length_cons,List.length_nil];omega,by omega,by unfold InR;omega,(i+1,⟨(Z3 s).out++[⟨3,0,[],y5⟩],[],[]⟩),rfl,⟨by dsimp only;omega,by dsimp only;omega,g3,by simp;omega,by simp;omega,fun o ho=> ?_⟩,by dsimp only;omega⟩
    dsimp only at ho ⊢
    rcases List.mem_append.1 ho with ho | ho
    ·rcases Z9G s o ho with h5 | h5
     ·have:=g6 o h5;omega
     ·omega
    ·simp only [List.mem_singleton] at ho
     subst ho
     simp only;omega
  ·rw [if_neg hk,if_neg hk1,if_neg hk2,if_neg hk3] at g3
   refine ⟨by unfold InR;omega,(i+1,s),rfl,⟨by dsimp only;omega,by dsimp only;omega,g3,by dsimp only;omega,by dsimp only;omega,fun o ho=> ?_⟩,by dsimp only;omega⟩
   have:=g6 o ho
   dsimp only;omega
 ·rw [List.drop_of_length_le (by omega)] at g3
  simp only [YL] at g3
  refine ⟨by simp only [Z1F];omega,?_⟩
  simp only [Zh0]
  rw [←g3]
  (repeat' (first | exact trivial | exact rfl | apply And.intro))
theorem b57:Zzr:=by
 intro N e _ hp hN
 simp only [Z1H,ZcJ] at hp hN
 obtain ⟨p1,d,p3⟩:=hp
 have h1:=Yr e
 have h2:=Yi e.kids
 have h3:=massOs_len e.ops
 have ha:=Z8c e
 refine ZzT _ _ _ ?_
 (simp only [vcS])
 (simp only [Tree.eta,Edit.eta,Tree.kind_mk,Tree.words_mk,Tree.kids_mk])
 refine ⟨fun hk=> ⟨by simp only [Z0W];omega,by simp only [Z0W];omega,?_⟩,fun hk=> ⟨fun hk2=> ⟨by simp;omega,?_⟩,fun hk2=> ⟨fun hk3=> ⟨?_,by simp only [Zho];omega,?_⟩,fun hk3=> ?_⟩⟩⟩
 ·rw [if_pos hk] at ha
  simp only [Zac,ha]
  (repeat' (first | exact trivial | exact rfl | apply And.intro))
 ·rw [if_neg hk,if_pos hk2] at ha
  refine Ze (ι:=Int × List Kid) (fun s=> Z46 e s.1 s.2) (fun s=> 0≤s.1∧s.1≤e.kids.length∧s.2.length=s.1∧s.2++Z0h (e.kids.drop s.1.toNat)=Z0h e.kids) (fun s=> ((e.kids.length:Int) - s.1).toNat) (0,[]) rfl ⟨by simp,by simp,by simp,by simp⟩ ?_
  rintro ⟨j,ks⟩ ⟨f1,f2,f3,f4⟩
  dsimp only at f1 f2 f3 f4
  refine ZrM _ _ _ _ _ _ ?_
  rintro y1 hy1 y2 hy2 y3 hy3
  (simp only [vcS])
  refine ⟨fun hj=> ?_,fun hj=> ?_⟩
  ·have hmem:=Zm (l:=e.kids) (i:=j.toNat) (by omega) (KidOf.mk 0 Edit.nil)
   have hm:=JX hmem
   have hr:=Zn5 p3 hk2 _ hmem
   rw [YU f1 hj (KidOf.mk 0 Edit.nil)] at f4
   rw [←hy1] at f4 hm hr
   simp only [Z0h,Zee] at f4
   rw [←hy2] at f4 hm hr
   rw [←hy3] at f4
   refine ⟨⟨f1,hj⟩,by simp only [Z1H];exact ⟨by omega,hr⟩,by simp only [ZcJ];omega,by simp;omega,by unfold InR;omega,(j+1,ks++[⟨y1.at_,y3⟩]),rfl,⟨by dsimp only;omega,by dsimp only;omega,by simp;omega,?_⟩,by dsimp only;omega⟩
   simp only [List.append_assoc,List.cons_append,List.nil_append]
   exact f4
  ·rw [List.drop_of_length_le (by omega)] at f4
   simp only [Z0h,List.append_nil] at f4
   rw [f4]
   simp only [Zac,ha]
   (repeat' (first | exact trivial | exact rfl | apply And.intro))
 ·simp only [Zae]
  exact ⟨by omega,fun o ho=> Zpq p3 hk3 o ho⟩
 ·rw [if_neg hk,if_neg hk2,if_pos hk3] at ha
  simp only [Zac,ha]
  (repeat' (first | exact trivial | exact rfl | apply And.intro))
 ·rw [if_neg hk,if_neg hk2,if_neg hk3] at ha
  simp only [Zac,ha]
  (repeat' (first | exact trivial | exact rfl | apply And.intro))
theorem ZqJ:Contract Try.prog cfg 57 Z5e∧Contract Try.prog cfg 94 Zor:=ZmY c71 ZqN ZwA Znr ZqK b57 b94
end Go.AM.Ytpjenobkibfpcaa
namespace Go.AM.Ytpjenobkibfpcaa
open Go.AM Go.Proofs
noncomputable section
def ZqU:ArgL (Edit × Unit):=(.cons (aEl .edit) .nil)
def Zeb(a:Edit × Unit):Prop:=Zc a.1≤20000000000∧∃ d,Z0 a.1 d=true
def ZoB(a:Edit × Unit):V U:= .agg (enc .edit (ZR (Zv a.1)))
def Z4o:Fs U:=fs ZqU (fun a=> [Zeb a]) ZoB
def Zqe:List (FuncId × Fs U):=[(57,Z5e),(118,Z7R)]
def ZvQ:Zh U:=lvl [([1,2],[1,2]),([2],[2])]
abbrev W83(e:Edit)(Q:QT):=AW (Z1 Zqe) Try.f83 ZvQ [] (L2 [(0,.agg (enc .edit e))] []) Q
theorem ZzE(e:Edit)(Q:QT)(h:∀ y_1,y_1=e→∀ y_2,y_2=(Zv y_1)→(Z0I (y_1,()))∧(Z1H (y_2,()))∧(Q .ret (L2 [(2,.ptr (.loc 2) 0)] [(.loc 2,(enc .edit (ZR y_2)))]))):
  W83 e Q:=by
 have e_:(W83 e Q)=(let y_1:=(Jl e);let y_2:=(Jl (Zv y_1));((Z0I (y_1,()))∧(Z1H (y_2,()))∧(Q .ret (L2 [(2,.ptr (.loc 2) 0)] [(.loc 2,(enc .edit (ZR y_2)))])))):=by kernel_rfl
 exact e_.mpr (by intro y_1 y_2;have hh:=h y_1 (Zf _) y_2 (Zf _);exact ⟨hh.1,hh.2.1,hh.2.2⟩)
def Zxc(e:Edit):Prop:=AW (Z1 Zqe) Try.f83 ZvQ [] (Zn (ZqU.can (e,())) []) (EQ Try.f83 (ZoB (e,())) [])
theorem Zvo(c57:CT 57 Z5e)(c118:CT 118 Z7R)(hb:∀ (e:Edit) (_:Unit),Zeb (e,())→Zxc e):CT 83 Z4o:=
 Z6 (l:=[(57,Z5e),(118,Z7R)]) Zo rfl (⟨c57,c118,trivial⟩) ZvQ Try.func83 rfl rfl 1 (fun _=> rfl) (by decide) (fun ⟨e,_⟩=> hb e ())
end
end Go.AM.Ytpjenobkibfpcaa
namespace Go.AM.Ytpjenobkibfpcaa
open Go.AM Go.Proofs
mutual
theorem Z7m:∀ (e:Edit),Zc (Zv e)=Zc e
 | .mk k o n w ks l os=> by
  have h1:=Zat ks
  have h2:=Zas os
  simp only [Zv,Zc,List.length_map,Z6T,h1,h2]
  omega
theorem Zat:∀ (ks:List (KidOf Edit)),Zw (Y3 ks)=Zw ks
 | []=> rfl
 | k ::r=> by
  have h1:=ZfA k
  have h2:=Zat r
  simp only [Y3,Zw,h1,h2]
theorem ZfA:∀ (k:KidOf Edit),YQ (YN k)=YQ k
 | ⟨a,e⟩=> by
  have h:=Z7m e
  simp only [YN,YQ,h]
theorem Zas:∀ (os:List (OpOf Edit)),Zs (Y6 os)=Zs os
 | []=> rfl
 | o ::r=> by
  have h1:=Zhw o
  have h2:=Zas r
  simp only [Y6,Zs,h1,h2]
theorem Zhw:∀ (o:OpOf Edit),Zx (ZZ o)=Zx o
 | ⟨k,n,l,e⟩=> by
  have h:=Z7m e
  simp only [ZZ]
  split
  ·try rfl
  ·split
   ·try rfl
   ·split
    ·simp only [Zx,h]
    ·try rfl
end
theorem c83:Contract Try.prog cfg 83 Z4o:=by
 refine Zvo ZqJ.1 ZqM.1 ?_
 intro e _ hp
 simp only [Zeb] at hp
 obtain ⟨hm,d,hr⟩:=hp
 refine ZzE _ _ ?_
 rintro y1 hy1 y2 hy2
 subst hy1
 have h1:=Z7m y1
 have h2:=Yw _ _ hr
 rw [←hy2] at h1 h2
 refine ⟨by simp only [Z0I];omega,by simp only [Z1H];exact ⟨by omega,d,h2⟩,?_⟩
 simp only [ZoB]
 rw [←hy2]
 (repeat' (first | exact trivial | exact rfl | apply And.intro))
end Go.AM.Ytpjenobkibfpcaa
namespace Go.AM.Ytpjenobkibfpcaa
open Go.AM Go.Proofs
noncomputable section
def Zr9:ArgL (WEdit × WEdit × Unit):=(.cons (aEl .wedit) (.cons (aEl .wedit) .nil))
def Zpg(a:WEdit × WEdit × Unit):Prop:=Z1s a.1∧Z1s a.2.1
def Zkh(a:WEdit × WEdit × Unit):V U:= .tup [(true,(enc .wedit ((YM a.1 a.2.1).1))),(false,[.bool ((YM a.1 a.2.1).2)])]
def ZbQ:Fs U:=fs Zr9 (fun a=> [Zpg a]) Zkh
def ZlJ:ArgL (WEdit × Unit):=(.cons (aEl .wedit) .nil)
def Z9p(a:WEdit × Unit):Prop:=True
def ZoS(a:WEdit × Unit):V U:= .c (ci a.1.at_)
def Z7P:Fs U:=fs ZlJ (fun a=> [Z9p a]) ZoS
def ZlI:ArgL (Kid × Unit):=(.cons (aEl .kid) .nil)
def Z9o(a:Kid × Unit):Prop:=True
def ZoR(a:Kid × Unit):V U:= .c (ci a.1.at_)
def Z1P:Fs U:=fs ZlI (fun a=> [Z9o a]) ZoR
def ZlK:ArgL (List WEdit × List WEdit × Unit × Unit × Unit):=(.cons (aSl .wedit) (.cons (aSl .wedit) (.cons (aFn 131) (.cons (aFn 24) .nil))))
def ZiP(a:List WEdit × List WEdit × Unit × Unit × Unit):Prop:=((∀ x∈a.1,Z1s x)∧(a.1).length≤1000000)∧(∀ x∈a.2.1,Z1s x)∧(a.2.1).length≤1000000
def Zfi(a:List WEdit × List WEdit × Unit × Unit × Unit):V U:= .tup [(false,[sU .wedit (ofO (Zj WEdit.at_ YM a.1 a.2.1)) .unk]),(false,[.bool ((Zj WEdit.at_ YM a.1 a.2.1).isSome)])]
def Z7Q:Fs U:=fs ZlK (fun a=> [ZiP a]) Zfi
def ZqR:ArgL (List WEdit × List WEdit × Unit):=(.cons (aSl .wedit) (.cons (aSl .wedit) .nil))
def Zpd(a:List WEdit × List WEdit × Unit):Prop:=((∀ x∈a.1,Z1s x)∧(a.1).length≤1000000)∧(∀ x∈a.2.1,Z1s x)∧(a.2.1).length≤1000000
def Zue(a:List WEdit × List WEdit × Unit):V U:= .tup [(false,[sU .wedit (ofO (Zj WEdit.at_ YM a.1 a.2.1)) .unk]),(false,[.bool ((Zj WEdit.at_ YM a.1 a.2.1).isSome)])]
def Z4m:Fs U:=fs ZqR (fun a=> [Zpd a]) Zue
def Zqn:List (FuncId × Fs U):=[(66,Z1D)]
def Zw1:Zh U:=lvl [([2,3,4],[2,3,4]),([2,3,4,6],[2,3,4]),([2,3,4,20],[2,3,4]),([4,5],[4]),([4,5],[4])]
abbrev A24(p:List Nat):=AW (Z1 Zqn) Try.f24 Zw1 p
theorem ZA2(p q:WEdit)(Q:QT)(h:let z1:=IntKind.bits .u8;let z0:=IntKind.wrap .u8 (BitVec.ofInt z1 p.mask &&& BitVec.ofInt z1 q.mask).toNat;let z2:=((mix 0 p.new z0):Int) !=(mix 0 q.old z0);((Z2C (0,p.new,z0,()))∧(Z2C (0,q.old,z0,()))∧((z2=true→(Q .ret (L2 [(4,.ptr (.loc 4) 0),(5,.c (.bool false))] [(.loc 4,[ci 0,.int .u8 0,.int .u64 0,.int .u64 0])])))∧(z2=false→(Z2C (q.old,p.old,p.mask,()))∧(Z2C (p.new,q.new,q.mask,()))∧(Q .ret (L2 [(4,.ptr (.loc 4) 0),(5,.c (.bool true))] [(.loc 4,[ci p.at_,.int .u8 (IntKind.wrap .u8 (BitVec.ofInt z1 p.mask ||| BitVec.ofInt z1 q.mask).toNat),.int .u64 (mix q.old p.old p.mask),.int .u64 (mix p.new q.new q.mask)])])))))):
  A24 [] (L2 [(0,.agg (enc .wedit p)),(1,.agg (enc .wedit q))] []) Q:=
 Eq.mpr (by kernel_rfl) h
def ZxA(p q:WEdit):Prop:=AW (Z1 Zqn) Try.f24 Zw1 [] (Zn (Zr9.can (p,q,())) []) (EQ Try.f24 (Zkh (p,q,())) [])
theorem ZvH(c66:CT 66 Z1D)(hb:∀ (p:WEdit) (q:WEdit) (_:Unit),Zpg (p,q,())→ZxA p q):CT 24 ZbQ:=
 Z6 (l:=[(66,Z1D)]) Zo rfl (⟨c66,trivial⟩) Zw1 Try.func24 rfl rfl 2 (fun _=> rfl) (by decide) (fun ⟨p,q,_⟩=> hb p q ())
def Zlc:List (FuncId × Fs U):=[]
def ZpX:Zh U:=lvl [([1],[1]),([2],[])]
abbrev ZAr(p:List Nat):=AW (Z1 Zlc) Try.f131 ZpX p
theorem Zyg(w:WEdit)(Q:QT)(h:(Q .ret (L2 [(2,.c (ci w.at_))] []))):
  ZAr [] (L2 [(0,.agg (enc .wedit w))] []) Q:=
 Eq.mpr (by kernel_rfl) h
def ZtQ(w:WEdit):Prop:=AW (Z1 Zlc) Try.f131 ZpX [] (Zn (ZlJ.can (w,())) []) (EQ Try.f131 (ZoS (w,())) [])
theorem Zsz(hb:∀ (w:WEdit) (_:Unit),Z9p (w,())→ZtQ w):CT 131 Z7P:=
 Z6 (l:=[]) Zo rfl trivial ZpX Try.func131 rfl rfl 1 (fun _=> rfl) (by decide) (fun ⟨w,_⟩=> hb w ())
def Zlb:List (FuncId × Fs U):=[]
def ZpW:Zh U:=lvl [([1],[1]),([2],[])]
abbrev ZAq(p:List Nat):=AW (Z1 Zlb) Try.f133 ZpW p
theorem Zye(k:Kid)(Q:QT)(h:(Q .ret (L2 [(2,.c (ci k.at_))] []))):
  ZAq [] (L2 [(0,.agg (enc .kid k))] []) Q:=
 Eq.mpr (by kernel_rfl) h
def ZtO(k:Kid):Prop:=AW (Z1 Zlb) Try.f133 ZpW [] (Zn (ZlI.can (k,())) []) (EQ Try.f133 (ZoR (k,())) [])
theorem Zsy(hb:∀ (k:Kid) (_:Unit),Z9o (k,())→ZtO k):CT 133 Z1P:=
 Z6 (l:=[]) Zo rfl trivial ZpW Try.func133 rfl rfl 1 (fun _=> rfl) (by decide) (fun ⟨k,_⟩=> hb k ())
def ZfL:List (FuncId × Fs U):=[(131,Z7P),(24,ZbQ)]
def ZkL:Zh U:=fun i=> match i with
 | 0=> ([(0,[]),(1,[]),(2,[]),(3,[])],[])
 | 1=> ([(0,[]),(1,[]),(2,[]),(3,[]),(10,[.own .wedit])],[])
 | 2=> ([(0,[]),(1,[]),(2,[]),(3,[]),(10,[]),(20,[])],[])
 | 3=> ([(0,[]),(1,[]),(2,[]),(3,[]),(10,[]),(11,[]),(12,[])],[(.loc 11,[])])
 | 4=> ([(0,[]),(1,[]),(2,[]),(3,[]),(10,[]),(11,[]),(33,[])],[(.loc 11,[])])
 | 5=> ([(8,[]),(9,[])],[])
 | 6=> ([(0,[]),(1,[]),(2,[]),(3,[]),(10,[.own .wedit])],[])
 | 7=> ([(0,[]),(1,[]),(2,[]),(3,[]),(10,[]),(42,[])],[])
 | 8=> ([(0,[]),(1,[]),(2,[]),(3,[]),(10,[.own .wedit])],[])
 | 9=> ([(0,[]),(1,[]),(2,[]),(3,[]),(10,[]),(72,[])],[])
 | 10=> ([(0,[]),(1,[]),(2,[]),(3,[]),(10,[.own .wedit])],[])
 | 11=> ([(8,[]),(9,[])],[])
 | _=> ([],[])
def Z2h(p q:List WEdit)(at_ one:Unit)(x0 x1 x10:List WEdit):LSt U:=(L2 [(0,.c (sU .wedit x0 .unk)),(1,.c (sU .wedit x1 .unk)),(2,.fn 131),(3,.fn 24),(10,.c (sU .wedit x10 (.own (.e 10 0))))] [])
abbrev ZxL(p:List Nat):=AW (Z1 ZfL) Try.f130 ZkL p
abbrev Zzh(p:List Nat):=SW (Z1 ZfL) Try.f130 ZkL p
theorem Zyh(p q:List WEdit)(at_ one:Unit)(Q:QT)(h:(Zl (ZxL [1,1,0,0,0]) (Z2h p q at_ one p q []) (xB 0 (Zzh [1,1,1] Q)))):
  ZxL [] (L2 [(0,.c (sU .wedit p .unk)),(1,.c (sU .wedit q .unk)),(2,.fn 131),(3,.fn 24)] []) Q:=
 Eq.mpr (by kernel_rfl) h
theorem ZnX(p q:List WEdit)(at_ one:Unit)(x0 x1 x10:List WEdit)(N0:NT)(Q:QT)(h:∀ y_1,y_1=(List.getD x0 (Int.toNat 0) (WEdit.mk 0 0 0 0))→∀ y_2,y_2=(List.getD x1 (Int.toNat 0) (WEdit.mk 0 0 0 0))→∀ y_3,y_3=y_1→∀ y_4,y_4=y_2→∀ y_5,y_5=((YM y_3 y_4).1)→let z3:=((x1.length:Int):Int)==0;let z2:=decide ((0:Int) < (x0.length:Int));let z5:=bif z2 then true else (decide ((0:Int) < (x1.length:Int)));let z4:=bif z3 then true else (bif z2 then (decide (y_3.at_ < y_4.at_)) else false);let z1:=((x0.length:Int):Int)==0;let z6:=bif z1 then true else (decide (y_4.at_ < y_3.at_));let z0:=(!z3) && z2;(Tr ((!z2)=true))∧(Tr ((!z2)=true))∧(z2=false→(!z2)=true)∧((z5=true→(Tr ((!z3)=true))∧(Tr ((!z3)=true))∧(Tr ((!z3)=true))∧(Tr (z0=true))∧(z0=true→(0:Int)≤0∧0 < (x0.length:Int))∧(Tr (z0=true))∧(Tr (z0=true))∧(Tr (z0=true))∧(z0=true→Z9p (y_3,()))∧(Tr (z0=true))∧(z0=true→(0:Int)≤0∧0 < (x1.length:Int))∧(Tr (z0=true))∧(Tr (z0=true))∧(Tr (z0=true))∧(z0=true→Z9p (y_4,()))∧(Tr (z0=true))∧(Tr (z0=true))∧((!z3)=true→(True→(!z3)=true))∧((!z3)=true→(z2=true→z0=true))∧(z3=false→(!z3)=true)∧((z4=true→((0:Int)≤0∧0 < (x0.length:Int))∧((x10.length+([y_3]).length)*32≤140737488355328)∧((0:Int)≤1∧1≤(x0.length:Int))∧(N0 (Z2h p q at_ one (List.drop (Int.toNat 1) x0) x1 (x10++([y_3])))))∧(z4=false→(Tr ((!z1)=true))∧((!z1)=true→(0:Int)≤0∧0 < (x1.length:Int))∧(Tr ((!z1)=true))∧(Tr ((!z1)=true))∧(Tr ((!z1)=true))∧((!z1)=true→Z9p (y_4,()))∧(Tr ((!z1)=true))∧((!z1)=true→(0:Int)≤0∧0 < (x0.length:Int))∧(Tr ((!z1)=true))∧(Tr ((!z1)=true))∧(Tr ((!z1)=true))∧((!z1)=true→Z9p (y_3,()))∧(Tr ((!z1)=true))∧(Tr ((!z1)=true))∧(z1=false→(!z1)=true)∧((z6=true→((0:Int)≤0∧0 < (x1.length:Int))∧((x10.length+([y_4]).length)*32≤140737488355328)∧((0:Int)≤1∧1≤(x1.length:Int))∧(N0 (Z2h p q at_ one x0 (List.drop (Int.toNat 1) x1) (x10++([y_4])))))∧(z6=false→((0:Int)≤0∧0 < (x0.length:Int))∧((0:Int)≤0∧0 < (x1.length:Int))∧(Zpg (y_3,y_4,()))∧(((!((YM y_3 y_4).2))=true→(Q .ret (L2 [(8,.c (.nils)),(9,.c (.bool false))] [])))∧((!((YM y_3 y_4).2))=false→((x10.length+([y_5]).length)*32≤140737488355328)∧((0:Int)≤1∧1≤(x0.length:Int))∧((0:Int)≤1∧1≤(x1.length:Int))∧(N0 (Z2h p q at_ one (List.drop (Int.toNat 1) x0) (List.drop (Int.toNat 1) x1) (x10++([y_5])))))))))))∧(z5=false→(Q .ret (L2 [(8,.c (sU .wedit x10 (.own (.e 8 0)))),(9,.c (.bool true))] []))))):
  ZxL [1,1,0,0,0] (Z2h p q at_ one x0 x1 x10) (xT N0 (xB 0 (Zzh [1,1,1] Q))):=
 Eq.mpr (by kernel_rfl) (h _ rfl _ rfl _ (Z78 _) _ (Z78 _) _ (Z78 _))
def ZtR(p q:List WEdit)(at_ one:Unit):Prop:=AW (Z1 ZfL) Try.f130 ZkL [] (Zn (ZlK.can (p,q,at_,one,())) []) (EQ Try.f130 (Zfi (p,q,at_,one,())) [])
theorem ZsA(Zwy:CT 131 Z7P)(c24:CT 24 ZbQ)(hb:∀ (p:List WEdit) (q:List WEdit) (at_:Unit) (one:Unit) (_:Unit),ZiP (p,q,at_,one,())→ZtR p q at_ one):CT 130 Z7Q:=
 Z6 (l:=[(131,Z7P),(24,ZbQ)]) Zo rfl (⟨Zwy,c24,trivial⟩) ZkL Try.func130 rfl rfl 4 (fun _=> rfl) (by decide) (fun ⟨p,q,at_,one,_⟩=> hb p q at_ one ())
def Zqc:List (FuncId × Fs U):=[(130,Z7Q)]
def ZvN:Zh U:=lvl [([0,1],[]),([4,5],[])]
abbrev A96(p:List Nat):=AW (Z1 Zqc) Try.f96 ZvN p
theorem Zzx(p q:List WEdit)(Q:QT)(h:((ZiP (p,q,(),(),()))∧(Q .ret (L2 [(4,.c (sU .wedit (ofO (Zj WEdit.at_ YM p q)) .unk)),(5,.c (.bool ((Zj WEdit.at_ YM p q).isSome)))] [])))):
  A96 [] (L2 [(0,.c (sU .wedit p .unk)),(1,.c (sU .wedit q .unk))] []) Q:=
 Eq.mpr (by kernel_rfl) h
def Zx5(p q:List WEdit):Prop:=AW (Z1 Zqc) Try.f96 ZvN [] (Zn (ZqR.can (p,q,())) []) (EQ Try.f96 (Zue (p,q,())) [])
theorem Zvk(Zwz:CT 130 Z7Q)(hb:∀ (p:List WEdit) (q:List WEdit) (_:Unit),Zpd (p,q,())→Zx5 p q):CT 96 Z4m:=
 Z6 (l:=[(130,Z7Q)]) Zo rfl (⟨Zwz,trivial⟩) ZvN Try.func96 rfl rfl 2 (fun _=> rfl) (by decide) (fun ⟨p,q,_⟩=> hb p q ())
end
end Go.AM.Ytpjenobkibfpcaa
namespace Go.AM.Ytpjenobkibfpcaa
open Go.AM Go.Proofs
noncomputable section
def Z4Y:ArgL (Edit × Edit × Unit):=(.cons (aEl .edit) (.cons (aEl .edit) .nil))
def Z54(a:Edit × Edit × Unit):Prop:=Z1R a.1∧Z1R a.2.1
def Zdw(a:Edit × Edit × Unit):Nat:=8*(Zc a.1+Zc a.2.1)
def Z5o(a:Edit × Edit × Unit):V U:= .tup [(true,(enc .edit ((Y5 a.1 a.2.1).1))),(false,[.bool ((Y5 a.1 a.2.1).2)])]
def Z9e:Fs U:=fs Z4Y (fun a=> [Z54 a]) Z5o
def Z4X:ArgL (List Kid × List Kid × Unit):=(.cons (aSl .kid) (.cons (aSl .kid) .nil))
def Z6H(a:List Kid × List Kid × Unit):Prop:=ZaS a.1∧ZaS a.2.1
def Zfy(a:List Kid × List Kid × Unit):Nat:=8*(Zw a.1+Zw a.2.1)+4
def Z84(a:List Kid × List Kid × Unit):V U:= .tup [(false,[sU .kid (ofO (Zj KidOf.at_ (Z0x Y5) a.1 a.2.1)) .unk]),(false,[.bool ((Zj KidOf.at_ (Z0x Y5) a.1 a.2.1).isSome)])]
def Zoq:Fs U:=fs Z4X (fun a=> [Z6H a]) Z84
def Z22:ArgL (List Kid × List Kid × Unit × Unit × Unit):=(.cons (aSl .kid) (.cons (aSl .kid) (.cons (aFn 133) (.cons (aFn 134) .nil))))
def Z3x(a:List Kid × List Kid × Unit × Unit × Unit):Prop:=ZaS a.1∧ZaS a.2.1
def Z8j(a:List Kid × List Kid × Unit × Unit × Unit):Nat:=8*(Zw a.1+Zw a.2.1)+3
def Z2x(a:List Kid × List Kid × Unit × Unit × Unit):V U:= .tup [(false,[sU .kid (ofO (Zj KidOf.at_ (Z0x Y5) a.1 a.2.1)) .unk]),(false,[.bool ((Zj KidOf.at_ (Z0x Y5) a.1 a.2.1).isSome)])]
def ZjV:Fs U:=fs Z22 (fun a=> [Z3x a]) Z2x
def Z21:ArgL (Kid × Kid × Unit):=(.cons (aEl .kid) (.cons (aEl .kid) .nil))
def Z3w(a:Kid × Kid × Unit):Prop:=Zqs a.1∧Zqs a.2.1
def Z8i(a:Kid × Kid × Unit):Nat:=8*(YQ a.1+YQ a.2.1)+1
def Z3t(a:Kid × Kid × Unit):V U:= .tup [(true,(enc .kid ((Z0x Y5 a.1 a.2.1).1))),(false,[.bool ((Z0x Y5 a.1 a.2.1).2)])]
def ZjU:Fs U:=fs Z21 (fun a=> [Z3w a]) Z3t
def Z4W:ArgL (List Op × List Op × Unit):=(.cons (aSl .op) (.cons (aSl .op) .nil))
def Z6G(a:List Op × List Op × Unit):Prop:=Zmv a.1∧Zmv a.2.1
def Zfx(a:List Op × List Op × Unit):Nat:=8*(Zs a.1+Zs a.2.1)+40
def Z53(a:List Op × List Op × Unit):V U:= .tup [(false,[sU .op (ofO (Z08 Y5 a.1 a.2.1)) .unk]),(false,[.bool ((Z08 Y5 a.1 a.2.1).isSome)])]
def Zop:Fs U:=fs Z4W (fun a=> [Z6G a]) Z53
def Z20:ArgL (Piece × Unit):=(.cons (aEl .piece) .nil)
def Z3v(a:Piece × Unit):Prop:=PcOk a.1
def Z8h(a:Piece × Unit):Nat:=8*(Zx a.1.p+Zx a.1.q)+1
def Z2w(a:Piece × Unit):V U:= .tup [(true,(enc .op ((ZF Y5 a.1).op))),(false,[.bool ((ZF Y5 a.1).is)]),(false,[.bool ((ZF Y5 a.1).ok)])]
def ZjT:Fs U:=fs Z20 (fun a=> [Z3v a]) Z2w
def Z4N(N:Nat):List (FuncId × Fs U):=(60,fs Z4Y (fun a=> [Z54 a,Zdw a < N]) Z5o) ::(97,fs Z4X (fun a=> [Z6H a,Zfy a < N]) Z84) ::(132,fs Z22 (fun a=> [Z3x a,Z8j a < N]) Z2x) ::(134,fs Z21 (fun a=> [Z3w a,Z8i a < N]) Z3t) ::(98,fs Z4W (fun a=> [Z6G a,Zfx a < N]) Z53) ::(136,fs Z20 (fun a=> [Z3v a,Z8h a < N]) Z2w) ::[(26,Z1E),(83,Z4o),(106,Jg),(96,Z4m),(133,Z1P),(135,Z1O)]
def ZvV:Zh U:=lvl [([2,3,4],[2,3,4]),([2,3,4,15],[2,3,4]),([4,5],[4]),([2,3,4,20],[2,3,4]),([4,5],[4]),([2,3,4,25],[2,3,4]),([2,4,6,7],[2,4,6]),([4,5],[4]),([2,3,4,41],[2,3,4]),([3,4,8,9],[3,4,8]),([4,5],[4]),([2,3,4,58],[2,3,4]),([4,5],[4]),([2,3,4,72],[2,3,4]),([2,3,4,10,11],[2,3,4]),([2,3,4,10,85],[2,3,4]),([4,5],[4]),([4,10,11,12],[4]),([4,5],[4]),([2,4,13,14],[2,4]),([4,5],[4])]
abbrev A60(N:Nat)(p:List Nat):=AW (Z1 (Z4N N)) Try.f60 ZvV p
theorem ZzS(N:Nat)(p q:Edit)(Q:QT)(h:∀ y_1,y_1=p→∀ y_2,y_2=q→∀ y_3,y_3=(p.new)→∀ y_4,y_4=(q.old)→∀ y_5,y_5=(ZR (Zv y_1))→let z3:=Zj KidOf.at_ (Z0x Y5) p.kids q.kids;let z2:=Zj WEdit.at_ YM p.words q.words;let z1:=Q .ret (L2 [(4,.ptr (.loc 4) 0),(5,.c (.bool false))] [(.loc 4,zc1)]);let z0:=p.kind !=q.kind;let z4:=bif z0 then true else (p.list !=q.list);(((p.kind==0)=true→(Q .ret (L2 [(4,.ptr (.loc 4) 0),(5,.c (.bool true))] [(.loc 4,(enc .edit q))])))∧((p.kind==0)=false→(((q.kind==0)=true→(Q .ret (L2 [(4,.ptr (.loc 4) 0),(5,.c (.bool true))] [(.loc 4,(enc .edit p))])))∧((q.kind==0)=false→(((p.kind==1)=true→(Z5t (y_2,y_3,()))∧(Q .ret (L2 [(4,.ptr (.loc 4) 0),(5,.c (.bool ((doE false y_2 y_3).isSome)))] [(.loc 4,([ci 1]++enc .tree p.old++enc .tree (Z5z ((doE false y_2 y_3).map Z7))++[.nils,.nils,ci 0,.nils]))])))∧((p.kind==1)=false→(((q.kind==1)=true→(Zeb (y_1,()))∧(Z5t (y_5,y_4,()))∧(Q .ret (L2 [(4,.ptr (.loc 4) 0),(5,.c (.bool ((doE false y_5 y_4).isSome)))] [(.loc 4,([ci 1]++enc .tree (Z5z ((doE false y_5 y_4).map Z7))++enc .tree q.new++[.nils,.nils,ci 0,.nils]))])))∧((q.kind==1)=false→(Tr ((!z0)=true))∧(Tr ((!z0)=true))∧(Tr ((!z0)=true))∧(Tr ((!z0)=true))∧(z0=false→(!z0)=true)∧((z4=true→z1)∧(z4=false→(((p.kind==2)=true→(Zpd (p.words,q.words,()))∧(((!(z2.isSome))=true→z1)∧((!(z2.isSome))=false→(Z6H (p.kids,q.kids,()))∧(Zfy (p.kids,q.kids,()) < N)∧(Q .ret (L2 [(4,.ptr (.loc 4) 0),(5,.c (.bool (z3.isSome)))] [(.loc 4,[ci 2,ci 0,.nils,.nils,ci 0,.nils,.nils,sU .wedit (ofO z2) .unk,sU .kid (ofO z3) .unk,ci 0,.nils])])))))∧((p.kind==2)=false→(Z6G (p.ops,q.ops,()))∧(Zfx (p.ops,q.ops,()) < N)∧(Q .ret (L2 [(4,.ptr (.loc 4) 0),(5,.c (.bool ((Z08 Y5 p.ops q.ops).isSome)))] [(.loc 4,[ci 3,ci 0,.nils,.nils,ci 0,.nils,.nils,.nils,.nils,ci p.list,sU .op (ofO (Z08 Y5 p.ops q.ops)) .unk])]))))))))))))))):
  A60 N [] (L2 [(0,.agg (enc .edit p)),(1,.agg (enc .edit q))] []) Q:=
 Eq.mpr (by kernel_rfl) (h _ (Zf _) _ (Zf _) _ (Zi _) _ (Zi _) _ (Zf _))
def Zxq(N:Nat)(p q:Edit):Prop:=AW (Z1 (Z4N N)) Try.f60 ZvV [] (Zn (Z4Y.can (p,q,())) []) (EQ Try.f60 (Z5o (p,q,())) [])
abbrev Zzq:Prop:=∀ (N:Nat) (p:Edit) (q:Edit) (_:Unit),Z54 (p,q,())→Zdw (p,q,()) < N+1→Zxq N p q
def Zqb(N:Nat):List (FuncId × Fs U):=(60,fs Z4Y (fun a=> [Z54 a,Zdw a < N]) Z5o) ::(97,fs Z4X (fun a=> [Z6H a,Zfy a < N]) Z84) ::(132,fs Z22 (fun a=> [Z3x a,Z8j a < N]) Z2x) ::(134,fs Z21 (fun a=> [Z3w a,Z8i a < N]) Z3t) ::(98,fs Z4W (fun a=> [Z6G a,Zfx a < N]) Z53) ::(136,fs Z20 (fun a=> [Z3v a,Z8h a < N]) Z2w) ::[(26,Z1E),(83,Z4o),(106,Jg),(96,Z4m),(133,Z1P),(135,Z1O)]
def ZvM:Zh U:=lvl [([0,1],[]),([4,5],[])]
abbrev A97(N:Nat)(p:List Nat):=AW (Z1 (Zqb N)) Try.f97 ZvM p
theorem Zzw(N:Nat)(p q:List Kid)(Q:QT)(h:let z0:=Zj KidOf.at_ (Z0x Y5) p q;((Z3x (p,q,(),(),()))∧(Z8j (p,q,(),(),()) < N)∧(Q .ret (L2 [(4,.c (sU .kid (ofO z0) .unk)),(5,.c (.bool (z0.isSome)))] [])))):
  A97 N [] (L2 [(0,.c (sU .kid p .unk)),(1,.c (sU .kid q .unk))] []) Q:=
 Eq.mpr (by kernel_rfl) h
def Zx4(N:Nat)(p q:List Kid):Prop:=AW (Z1 (Zqb N)) Try.f97 ZvM [] (Zn (Z4X.can (p,q,())) []) (EQ Try.f97 (Z84 (p,q,())) [])
abbrev Zzk:Prop:=∀ (N:Nat) (p:List Kid) (q:List Kid) (_:Unit),Z6H (p,q,())→Zfy (p,q,()) < N+1→Zx4 N p q
def ZfK(N:Nat):List (FuncId × Fs U):=(60,fs Z4Y (fun a=> [Z54 a,Zdw a < N]) Z5o) ::(97,fs Z4X (fun a=> [Z6H a,Zfy a < N]) Z84) ::(132,fs Z22 (fun a=> [Z3x a,Z8j a < N]) Z2x) ::(134,fs Z21 (fun a=> [Z3w a,Z8i a < N]) Z3t) ::(98,fs Z4W (fun a=> [Z6G a,Zfx a < N]) Z53) ::(136,fs Z20 (fun a=> [Z3v a,Z8h a < N]) Z2w) ::[(26,Z1E),(83,Z4o),(106,Jg),(96,Z4m),(133,Z1P),(135,Z1O)]
def ZkK:Zh U:=fun i=> match i with
 | 0=> ([(0,[]),(1,[]),(2,[]),(3,[])],[])
 | 1=> ([(0,[]),(1,[]),(2,[]),(3,[]),(10,[.own .kid])],[])
 | 2=> ([(0,[]),(1,[]),(2,[]),(3,[]),(10,[]),(20,[])],[])
 | 3=> ([(0,[]),(1,[]),(2,[]),(3,[]),(10,[]),(11,[]),(12,[])],[(.loc 11,[])])
 | 4=> ([(0,[]),(1,[]),(2,[]),(3,[]),(10,[]),(11,[]),(33,[])],[(.loc 11,[])])
 | 5=> ([(8,[]),(9,[])],[])
 | 6=> ([(0,[]),(1,[]),(2,[]),(3,[]),(10,[.own .kid])],[])
 | 7=> ([(0,[]),(1,[]),(2,[]),(3,[]),(10,[]),(42,[])],[])
 | 8=> ([(0,[]),(1,[]),(2,[]),(3,[]),(10,[.own .kid])],[])
 | 9=> ([(0,[]),(1,[]),(2,[]),(3,[]),(10,[]),(72,[])],[])
 | 10=> ([(0,[]),(1,[]),(2,[]),(3,[]),(10,[.own .kid])],[])
 | 11=> ([(8,[]),(9,[])],[])
 | _=> ([],[])
def Z2g(p q:List Kid)(at_ one:Unit)(x0 x1 x10:List Kid):LSt U:=(L2 [(0,.c (sU .kid x0 .unk)),(1,.c (sU .kid x1 .unk)),(2,.fn 133),(3,.fn 134),(10,.c (sU .kid x10 (.own (.e 10 0))))] [])
abbrev ZxK(N:Nat)(p:List Nat):=AW (Z1 (ZfK N)) Try.f132 ZkK p
abbrev Zzg(N:Nat)(p:List Nat):=SW (Z1 (ZfK N)) Try.f132 ZkK p
theorem Zyf(N:Nat)(p q:List Kid)(at_ one:Unit)(Q:QT)(h:(Zl (ZxK N [1,1,0,0,0]) (Z2g p q at_ one p q []) (xB 0 (Zzg N [1,1,1] Q)))):
  ZxK N [] (L2 [(0,.c (sU .kid p .unk)),(1,.c (sU .kid q .unk)),(2,.fn 133),(3,.fn 134)] []) Q:=
 Eq.mpr (by kernel_rfl) h
theorem ZnW(N:Nat)(p q:List Kid)(at_ one:Unit)(x0 x1 x10:List Kid)(N0:NT)(Q:QT)(h:∀ y_1,y_1=(List.getD x0 (Int.toNat 0) (KidOf.mk 0 Edit.nil))→∀ y_2,y_2=(List.getD x1 (Int.toNat 0) (KidOf.mk 0 Edit.nil))→∀ y_3,y_3=y_1→∀ y_4,y_4=y_2→∀ y_5,y_5=((Z0x Y5 y_3 y_4).1)→let z3:=((x1.length:Int):Int)==0;let z2:=decide ((0:Int) < (x0.length:Int));let z5:=bif z2 then true else (decide ((0:Int) < (x1.length:Int)));let z4:=bif z3 then true else (bif z2 then (decide (y_3.at_ < y_4.at_)) else false);let z1:=((x0.length:Int):Int)==0;let z6:=bif z1 then true else (decide (y_4.at_ < y_3.at_));let z0:=(!z3) && z2;(Tr ((!z2)=true))∧(Tr ((!z2)=true))∧(z2=false→(!z2)=true)∧((z5=true→(Tr ((!z3)=true))∧(Tr ((!z3)=true))∧(Tr ((!z3)=true))∧(Tr (z0=true))∧(z0=true→(0:Int)≤0∧0 < (x0.length:Int))∧(Tr (z0=true))∧(Tr (z0=true))∧(Tr (z0=true))∧(z0=true→Z9o (y_3,()))∧(Tr (z0=true))∧(z0=true→(0:Int)≤0∧0 < (x1.length:Int))∧(Tr (z0=true))∧(Tr (z0=true))∧(Tr (z0=true))∧(z0=true→Z9o (y_4,()))∧(Tr (z0=true))∧(Tr (z0=true))∧((!z3)=true→(True→(!z3)=true))∧((!z3)=true→(z2=true→z0=true))∧(z3=false→(!z3)=true)∧((z4=true→((0:Int)≤0∧0 < (x0.length:Int))∧((x10.length+([y_3]).length)*208≤140737488355328)∧((0:Int)≤1∧1≤(x0.length:Int))∧(N0 (Z2g p q at_ one (List.drop (Int.toNat 1) x0) x1 (x10++([y_3])))))∧(z4=false→(Tr ((!z1)=true))∧((!z1)=true→(0:Int)≤0∧0 < (x1.length:Int))∧(Tr ((!z1)=true))∧(Tr ((!z1)=true))∧(Tr ((!z1)=true))∧((!z1)=true→Z9o (y_4,()))∧(Tr ((!z1)=true))∧((!z1)=true→(0:Int)≤0∧0 < (x0.length:Int))∧(Tr ((!z1)=true))∧(Tr ((!z1)=true))∧(Tr ((!z1)=true))∧((!z1)=true→Z9o (y_3,()))∧(Tr ((!z1)=true))∧(Tr ((!z1)=true))∧(z1=false→(!z1)=true)∧((z6=true→((0:Int)≤0∧0 < (x1.length:Int))∧((x10.length+([y_4]).length)*208≤140737488355328)∧((0:Int)≤1∧1≤(x1.length:Int))∧(N0 (Z2g p q at_ one x0 (List.drop (Int.toNat 1) x1) (x10++([y_4])))))∧(z6=false→((0:Int)≤0∧0 < (x0.length:Int))∧((0:Int)≤0∧0 < (x1.length:Int))∧(Z3w (y_3,y_4,()))∧(Z8i (y_3,y_4,()) < N)∧(((!((Z0x Y5 y_3 y_4).2))=true→(Q .ret (L2 [(8,.c (.nils)),(9,.c (.bool false))] [])))∧((!((Z0x Y5 y_3 y_4).2))=false→((x10.length+([y_5]).length)*208≤140737488355328)∧((0:Int)≤1∧1≤(x0.length:Int))∧((0:Int)≤1∧1≤(x1.length:Int))∧(N0 (Z2g p q at_ one (List.drop (Int.toNat 1) x0) (List.drop (Int.toNat 1) x1) (x10++([y_5])))))))))))∧(z5=false→(Q .ret (L2 [(8,.c (sU .kid x10 (.own (.e 8 0)))),(9,.c (.bool true))] []))))):
  ZxK N [1,1,0,0,0] (Z2g p q at_ one x0 x1 x10) (xT N0 (xB 0 (Zzg N [1,1,1] Q))):=
 Eq.mpr (by kernel_rfl) (h _ rfl _ rfl _ (Zcg _) _ (Zcg _) _ (Zcg _))
def ZtP(N:Nat)(p q:List Kid)(at_ one:Unit):Prop:=AW (Z1 (ZfK N)) Try.f132 ZkK [] (Zn (Z22.can (p,q,at_,one,())) []) (EQ Try.f132 (Z2x (p,q,at_,one,())) [])
abbrev ZuW:Prop:=∀ (N:Nat) (p:List Kid) (q:List Kid) (at_:Unit) (one:Unit) (_:Unit),Z3x (p,q,at_,one,())→Z8j (p,q,at_,one,()) < N+1→ZtP N p q at_ one
def Zla(N:Nat):List (FuncId × Fs U):=(60,fs Z4Y (fun a=> [Z54 a,Zdw a < N]) Z5o) ::(97,fs Z4X (fun a=> [Z6H a,Zfy a < N]) Z84) ::(132,fs Z22 (fun a=> [Z3x a,Z8j a < N]) Z2x) ::(134,fs Z21 (fun a=> [Z3w a,Z8i a < N]) Z3t) ::(98,fs Z4W (fun a=> [Z6G a,Zfx a < N]) Z53) ::(136,fs Z20 (fun a=> [Z3v a,Z8h a < N]) Z2w) ::[(26,Z1E),(83,Z4o),(106,Jg),(96,Z4m),(133,Z1P),(135,Z1O)]
def ZpV:Zh U:=lvl [([2,3,4],[2,3,4]),([2,4,6,7],[2,4,6]),([4,5],[4])]
abbrev ZAp(N:Nat)(p:List Nat):=AW (Z1 (Zla N)) Try.f134 ZpV p
theorem Zyd(N:Nat)(a b:Kid)(Q:QT)(h:∀ y_1,y_1=(a.e)→∀ y_2,y_2=(b.e)→((Z54 (y_1,y_2,()))∧(Zdw (y_1,y_2,()) < N)∧(Q .ret (L2 [(4,.ptr (.loc 4) 0),(5,.c (.bool ((Y5 y_1 y_2).2)))] [(.loc 4,([ci a.at_]++enc .edit ((Y5 y_1 y_2).1)))])))):
  ZAp N [] (L2 [(0,.agg (enc .kid a)),(1,.agg (enc .kid b))] []) Q:=
 Eq.mpr (by kernel_rfl) (h _ (Zf _) _ (Zf _))
def ZtN(N:Nat)(a b:Kid):Prop:=AW (Z1 (Zla N)) Try.f134 ZpV [] (Zn (Z21.can (a,b,())) []) (EQ Try.f134 (Z3t (a,b,())) [])
abbrev ZuV:Prop:=∀ (N:Nat) (a:Kid) (b:Kid) (_:Unit),Z3w (a,b,())→Z8i (a,b,()) < N+1→ZtN N a b
def Zj5(N:Nat):List (FuncId × Fs U):=(60,fs Z4Y (fun a=> [Z54 a,Zdw a < N]) Z5o) ::(97,fs Z4X (fun a=> [Z6H a,Zfy a < N]) Z84) ::(132,fs Z22 (fun a=> [Z3x a,Z8j a < N]) Z2x) ::(134,fs Z21 (fun a=> [Z3w a,Z8i a < N]) Z3t) ::(98,fs Z4W (fun a=> [Z6G a,Zfx a < N]) Z53) ::(136,fs Z20 (fun a=> [Z3v a,Z8h a < N]) Z2w) ::[(26,Z1E),(83,Z4o),(106,Jg),(96,Z4m),(133,Z1P),(135,Z1O)]
def ZsP:Zh U:=fun i=> match i with
 | 0=> ([(0,[]),(1,[])],[])
 | 1=> ([(6,[]),(7,[])],[])
 | 2=> ([(6,[]),(21,[])],[])
 | 3=> ([(4,[]),(5,[])],[])
 | 4=> ([(6,[]),(8,[])],[])
 | 5=> ([(8,[.own .op]),(22,[]),(23,[]),(24,[])],[])
 | 6=> ([(8,[]),(22,[]),(23,[]),(24,[]),(25,[])],[])
 | 7=> ([(8,[]),(10,[]),(22,[]),(23,[]),(24,[])],[(.loc 10,[])])
 | 8=> ([(8,[]),(11,[]),(12,[]),(13,[]),(22,[]),(23,[]),(24,[])],[(.loc 11,[])])
 | 9=> ([(8,[]),(11,[]),(12,[]),(22,[]),(23,[]),(24,[]),(35,[])],[(.loc 11,[])])
 | 10=> ([(4,[]),(5,[])],[])
 | 11=> ([(8,[]),(11,[]),(22,[]),(23,[]),(24,[]),(36,[])],[(.loc 11,[])])
 | 12=> ([(8,[]),(22,[]),(23,[]),(24,[])],[])
 | 13=> ([(8,[.own .op]),(22,[]),(23,[]),(24,[])],[])
 | 14=> ([(4,[]),(5,[])],[])
 | _=> ([],[])
def Z5O(p q:List Op)(x24:Int)(x8:List Op):LSt U:=(L2 [(8,.c (sU .op x8 (.own (.e 8 0)))),(22,.c (sU .piece ((Y4 1 2 p q []).1) .unk)),(23,.c (ci (((Y4 1 2 p q []).1).length:Int))),(24,.c (ci x24))] [])
abbrev A98(N:Nat)(p:List Nat):=AW (Z1 (Zj5 N)) Try.f98 ZsP p
abbrev S98(N:Nat)(p:List Nat):=SW (Z1 (Zj5 N)) Try.f98 ZsP p
theorem Zzv(N:Nat)(p q:List Op)(Q:QT)(h:((ZiO (p,q,()))∧(((!((Y4 1 2 p q []).2.1))=true→(Q .ret (L2 [(4,.c (.nils)),(5,.c (.bool false))] [])))∧((!((Y4 1 2 p q []).2.1))=false→(Zl (A98 N [1,1,1,1,0,1,0,0]) (Z5O p q 0 []) (xB 0 (S98 N [1,1,1,1,1] Q))))))):
  A98 N [] (L2 [(0,.c (sU .op p .unk)),(1,.c (sU .op q .unk))] []) Q:=
 Eq.mpr (by kernel_rfl) h
theorem Zrr(N:Nat)(p q:List Op)(x24:Int)(x8:List Op)(N0:NT)(Q:QT)(h:∀ y_1,y_1=(List.getD ((Y4 1 2 p q []).1) x24.toNat (Piece.mk 0 Op.nil Op.nil))→∀ y_2,y_2=y_1→∀ y_3,y_3=((ZF Y5 y_2).op)→let z0:=decide (x24 < (((Y4 1 2 p q []).1).length:Int));((z0=true→((0:Int)≤x24∧x24 < (((Y4 1 2 p q []).1).length:Int))∧((Z3v (y_2,()))∧(Z8h (y_2,()) < N)∧(((!((ZF Y5 y_2).ok))=true→(Q .ret (L2 [(4,.c (.nils)),(5,.c (.bool false))] [])))∧((!((ZF Y5 y_2).ok))=false→((((ZF Y5 y_2).is)=true→((x8.length+([y_3]).length)*240≤140737488355328)∧((InR (x24+1))∧(N0 (Z5O p q (x24+1) (x8++([y_3]))))))∧(((ZF Y5 y_2).is)=false→(InR (x24+1))∧(N0 (Z5O p q (x24+1) x8))))))))∧(z0=false→(Q .ret (L2 [(4,.c (sU .op x8 (.own (.e 4 0)))),(5,.c (.bool true))] []))))):
  A98 N [1,1,1,1,0,1,0,0] (Z5O p q x24 x8) (xT N0 (xB 0 (S98 N [1,1,1,1,1] Q))):=
 Eq.mpr (by kernel_rfl) (h _ rfl _ (ZiL _) _ (Jh _))
def Zx3(N:Nat)(p q:List Op):Prop:=AW (Z1 (Zj5 N)) Try.f98 ZsP [] (Zn (Z4W.can (p,q,())) []) (EQ Try.f98 (Z53 (p,q,())) [])
abbrev Zzj:Prop:=∀ (N:Nat) (p:List Op) (q:List Op) (_:Unit),Z6G (p,q,())→Zfx (p,q,()) < N+1→Zx3 N p q
def ZfJ(N:Nat):List (FuncId × Fs U):=(60,fs Z4Y (fun a=> [Z54 a,Zdw a < N]) Z5o) ::(97,fs Z4X (fun a=> [Z6H a,Zfy a < N]) Z84) ::(132,fs Z22 (fun a=> [Z3x a,Z8j a < N]) Z2x) ::(134,fs Z21 (fun a=> [Z3w a,Z8i a < N]) Z3t) ::(98,fs Z4W (fun a=> [Z6G a,Zfx a < N]) Z53) ::(136,fs Z20 (fun a=> [Z3v a,Z8h a < N]) Z2w) ::[(26,Z1E),(83,Z4o),(106,Jg),(96,Z4m),(133,Z1P),(135,Z1O)]
def ZkJ:Zh U:=lvl [([1,2],[1,2]),([1,2,13],[1,2]),([2,3,4],[2]),([1,2,30],[1,2]),([2,3,4],[2]),([1,2,42],[1,2]),([1,2,55,56,57],[1,2]),([1,2,55,56,57,58],[1,2]),([1,2,5,6,55,56,57],[1,2,6]),([1,2,55,56,57,70],[1,2]),([2,3,4],[2]),([1,2,55,56,57],[1,2]),([2,3,4],[2]),([1,2,74],[1,2]),([2,7,8],[2,7]),([2,3,4],[2]),([1,2,95],[1,2]),([2,9,10],[2,9]),([2,3,4],[2]),([2,11,12],[2,11]),([2,3,4],[2])]
def Z6n(x:Piece)(x57:Int):LSt U:=(L2 [(1,.ptr (.loc 1) 0),(2,.ptr (.loc 2) 0),(55,.c (sU .tree x.p.l .unk)),(56,.c (ci (x.p.l.length:Int))),(57,.c (ci x57))] [(.loc 1,(enc .piece x)),(.loc 2,zc2)])
abbrev ZxJ(N:Nat)(p:List Nat):=AW (Z1 (ZfJ N)) Try.f136 ZkJ p
abbrev Ztn(N:Nat)(p:List Nat):=SW (Z1 (ZfJ N)) Try.f136 ZkJ p
theorem Zyb(N:Nat)(x:Piece)(Q:QT)(h:∀ y_1,y_1=(x.p.e)→∀ y_2,y_2=(x.q.e)→∀ y_3,y_3=(List.getD x.p.l (Int.toNat 0) Tree.nil)→∀ y_4,y_4=(List.getD x.q.l (Int.toNat 0) Tree.nil)→∀ y_5,y_5=y_3→∀ y_6,y_6=y_4→∀ y_7,y_7=(ZR (Zv y_1))→∀ y_8,y_8=(Z5z ((doE false y_2 y_5).map Z7))→∀ y_9,y_9=(Z5z ((doE false y_7 y_6).map Z7))→let z3:=bif (x.of==2) then true else (x.p.kind==0);let z2:=bif (x.p.kind==2) then (x.q.kind==1) else false;let z1:=bif (x.of==1) then true else (bif (x.of==0) then (x.q.kind==0) else false);let z0:=(!(x.of==1)) && (x.of==0);((Tr ((!(x.of==1))=true))∧(Tr ((!(x.of==1))=true))∧(Tr ((!(x.of==1))=true))∧(Tr (z0=true))∧(Tr (z0=true))∧(Tr (z0=true))∧((!(x.of==1))=true→(True→(!(x.of==1))=true))∧((!(x.of==1))=true→((x.of==0)=true→z0=true))∧((x.of==1)=false→(!(x.of==1))=true)∧((z1=true→(Q .ret (L2 [(2,.ptr (.loc 2) 0),(3,.c (.bool true)),(4,.c (.bool true))] [(.loc 2,(enc .op x.p))])))∧(z1=false→(Tr ((!(x.of==2))=true))∧(Tr ((!(x.of==2))=true))∧(Tr ((!(x.of==2))=true))∧((x.of==2)=false→(!(x.of==2))=true)∧((z3=true→(Q .ret (L2 [(2,.ptr (.loc 2) 0),(3,.c (.bool true)),(4,.c (.bool true))] [(.loc 2,(enc .op x.q))])))∧(z3=false→(Tr ((x.p.kind==2)=true))∧(Tr ((x.p.kind==2)=true))∧(Tr ((x.p.kind==2)=true))∧(Tr ((x.p.kind==2)=true))∧((z2=true→(Zl (ZxJ N [1,0,0,1,1,1,1,1,0,0,1,0,0]) (Z6n x 0) (xB 1 (Ztn N [1,0,0,1,1,1,1,1,0,1] (xB 0 (Ztn N [1,1] Q))))))∧(z2=false→(((x.p.kind==2)=true→((0:Int)≤0∧0 < (x.p.l.length:Int))∧(Z5t (y_2,y_5,()))∧(Q .ret (L2 [(2,.ptr (.loc 2) 0),(3,.c (.bool true)),(4,.c (.bool ((doE false y_2 y_5).isSome)))] [(.loc 2,[ci 2,ci 0,sU .tree ([y_8]) .full,ci 0,ci 0,.nils,.nils,ci 0,.nils,.nils,.nils,.nils,ci 0,.nils])])))∧((x.p.kind==2)=false→(((x.q.kind==1)=true→(Zeb (y_1,()))∧((0:Int)≤0∧0 < (x.q.l.length:Int))∧(Z5t (y_7,y_6,()))∧(Q .ret (L2 [(2,.ptr (.loc 2) 0),(3,.c (.bool true)),(4,.c (.bool ((doE false y_7 y_6).isSome)))] [(.loc 2,[ci 1,ci 0,sU .tree ([y_9]) .full,ci 0,ci 0,.nils,.nils,ci 0,.nils,.nils,.nils,.nils,ci 0,.nils])])))∧((x.q.kind==1)=false→(Z54 (y_1,y_2,()))∧(Zdw (y_1,y_2,()) < N)∧(Q .ret (L2 [(2,.ptr (.loc 2) 0),(3,.c (.bool true)),(4,.c (.bool ((Y5 y_1 y_2).2)))] [(.loc 2,([ci 3,ci 0,.nils]++enc .edit ((Y5 y_1 y_2).1)))])))))))))))))):
  ZxJ N [] (L2 [(0,.agg (enc .piece x))] []) Q:=
 Eq.mpr (by kernel_rfl) (h _ (Zf _) _ (Zf _) _ rfl _ rfl _ (Zi _) _ (Zi _) _ (Zf _) _ (Zi _) _ (Zi _))
theorem ZnV(N:Nat)(x:Piece)(x57:Int)(N0:NT)(Q:QT)(h:∀ y_1,y_1=(x.p.l.getD x57.toNat Tree.nil)→∀ y_2,y_2=(x.q.l.getD x57.toNat Tree.nil)→∀ y_3,y_3=y_1→∀ y_4,y_4=y_2→let z1:= !(Jo (Z7 y_3) (Z7 y_4));let z0:=decide (x57 < (x.p.l.length:Int));((z0=true→((0:Int)≤x57∧x57 < (x.p.l.length:Int))∧(((0:Int)≤x57∧x57 < (x.q.l.length:Int))∧(Z1G (y_3,y_4,()))∧((z1=true→(Q .ret (L2 [(2,.ptr (.loc 2) 0),(3,.c (.bool false)),(4,.c (.bool false))] [(.loc 2,zc2)])))∧(z1=false→(InR (x57+1))∧(N0 (Z6n x (x57+1)))))))∧(z0=false→(Q .ret (L2 [(2,.ptr (.loc 2) 0),(3,.c (.bool false)),(4,.c (.bool true))] [(.loc 2,zc2)]))))):
  ZxJ N [1,0,0,1,1,1,1,1,0,0,1,0,0] (Z6n x x57) (xT N0 (xB 1 (Ztn N [1,0,0,1,1,1,1,1,0,1] (xB 0 (Ztn N [1,1] Q))))):=
 Eq.mpr (by kernel_rfl) (h _ rfl _ rfl _ (Zi _) _ (Zi _))
def ZtL(N:Nat)(x:Piece):Prop:=AW (Z1 (ZfJ N)) Try.f136 ZkJ [] (Zn (Z20.can (x,())) []) (EQ Try.f136 (Z2w (x,())) [])
abbrev ZuU:Prop:=∀ (N:Nat) (x:Piece) (_:Unit),Z3v (x,())→Z8h (x,()) < N+1→ZtL N x
theorem Zsc(c26:CT 26 Z1E)(c83:CT 83 Z4o)(Zg2:CT 106 Jg)(c96:CT 96 Z4m)(Zwx:CT 133 Z1P)(Zww:CT 135 Z1O)(b60:Zzq)(b97:Zzk)(ZwO:ZuW)(ZwN:ZuV)(b98:Zzj)(ZwM:ZuU):
  CT 60 Z9e∧CT 97 Zoq∧CT 132 ZjV∧CT 134 ZjU∧CT 98 Zop∧CT 136 ZjT:=by
 have h60 : ∃ fn, Try.prog.funcs[(60 : FuncId)]? = some fn ∧ fn.body.isSome = true ∧ (fn.name == "runtime.NumGoroutine") = false := ⟨Try.f60, Try.func60, rfl, rfl⟩
 have h97 : ∃ fn, Try.prog.funcs[(97 : FuncId)]? = some fn ∧ fn.body.isSome = true ∧ (fn.name == "runtime.NumGoroutine") = false := ⟨Try.f97, Try.func97, rfl, rfl⟩
 have h132 : ∃ fn, Try.prog.funcs[(132 : FuncId)]? = some fn ∧ fn.body.isSome = true ∧ (fn.name == "runtime.NumGoroutine") = false := ⟨Try.f132, Try.func132, rfl, rfl⟩
 have h134 : ∃ fn, Try.prog.funcs[(134 : FuncId)]? = some fn ∧ fn.body.isSome = true ∧ (fn.name == "runtime.NumGoroutine") = false := ⟨Try.f134, Try.func134, rfl, rfl⟩
 have h98 : ∃ fn, Try.prog.funcs[(98 : FuncId)]? = some fn ∧ fn.body.isSome = true ∧ (fn.name == "runtime.NumGoroutine") = false := ⟨Try.f98, Try.func98, rfl, rfl⟩
 have h136 : ∃ fn, Try.prog.funcs[(136 : FuncId)]? = some fn ∧ fn.body.isSome = true ∧ (fn.name == "runtime.NumGoroutine") = false := ⟨Try.f136, Try.func136, rfl, rfl⟩
 have key:∀ N,CT 60 (fs Z4Y (fun a=> [Z54 a,Zdw a < N]) Z5o)∧CT 97 (fs Z4X (fun a=> [Z6H a,Zfy a < N]) Z84)∧CT 132 (fs Z22 (fun a=> [Z3x a,Z8j a < N]) Z2x)∧CT 134 (fs Z21 (fun a=> [Z3w a,Z8i a < N]) Z3t)∧CT 98 (fs Z4W (fun a=> [Z6G a,Zfx a < N]) Z53)∧CT 136 (fs Z20 (fun a=> [Z3v a,Z8h a < N]) Z2w):=by
  intro N
  induction N with
  | zero=> exact ⟨Ja h60,Ja h97,Ja h132,Ja h134,Ja h98,Ja h136⟩
  | succ N ih=>
   have kn:=Z06 (l:=Z4N N) ⟨ih.1,ih.2.1,ih.2.2.1,ih.2.2.2.1,ih.2.2.2.2.1,ih.2.2.2.2.2,c26,c83,Zg2,c96,Zwx,Zww,trivial⟩
   exact ⟨ZB (Γ:=Z1 (Z4N N)) Zo rfl kn ZvV Try.func60 rfl rfl (fun a=> by show 2≤_;decide) (fun ⟨p,q,_⟩ h=> b60 N p q () h.1 h.2.1),
    ZB (Γ:=Z1 (Z4N N)) Zo rfl kn ZvM Try.func97 rfl rfl (fun a=> by show 2≤_;decide) (fun ⟨p,q,_⟩ h=> b97 N p q () h.1 h.2.1),
    ZB (Γ:=Z1 (Z4N N)) Zo rfl kn ZkK Try.func132 rfl rfl (fun a=> by show 4≤_;decide) (fun ⟨p,q,at_,one,_⟩ h=> ZwO N p q at_ one () h.1 h.2.1),
    ZB (Γ:=Z1 (Z4N N)) Zo rfl kn ZpV Try.func134 rfl rfl (fun a=> by show 2≤_;decide) (fun ⟨a,b,_⟩ h=> ZwN N a b () h.1 h.2.1),
    ZB (Γ:=Z1 (Z4N N)) Zo rfl kn ZsP Try.func98 rfl rfl (fun a=> by show 2≤_;decide) (fun ⟨p,q,_⟩ h=> b98 N p q () h.1 h.2.1),
    ZB (Γ:=Z1 (Z4N N)) Zo rfl kn ZkJ Try.func136 rfl rfl (fun a=> by show 1≤_;decide) (fun ⟨x,_⟩ h=> ZwM N x () h.1 h.2.1)⟩
 exact ⟨Jb h60 fun N=> (key N).1,Jb h97 fun N=> (key N).2.1,Jb h132 fun N=> (key N).2.2.1,Jb h134 fun N=> (key N).2.2.2.1,Jb h98 fun N=> (key N).2.2.2.2.1,Jb h136 fun N=> (key N).2.2.2.2.2⟩
end
end Go.AM.Ytpjenobkibfpcaa
namespace Go.AM.Ytpjenobkibfpcaa
open Go.AM Go.Proofs
theorem Z07{n:Nat}{rs:List ResultVar}{r r':V U}{X:List (List (C U))}{e:AExit}{s:LSt U}(hr:r=r')(h:JB cfg n rs r' X e s):JB cfg n rs r X e s:=by rw [hr];exact h
theorem c24:Contract Try.prog cfg 24 ZbQ:=by
 refine ZvH c66 ?_
 intro p q _ hp
 obtain ⟨rp,rq⟩:=hp
 dsimp only at rp rq
 have A:=(ZlV rp.2.1 rq.2.1).1
 refine ZA2 _ _ _ ?_
 (simp only [vcT,vcS])
 have z0:(0:Int)≤0∧(0:Int) < 18446744073709551616:=by decide
 refine ⟨⟨z0,rp.2.2.2,A⟩,⟨z0,rq.2.2.1,A⟩,fun h=> ?_,fun h=> ⟨⟨rq.2.2.1,rp.2.2.1,rp.2.1⟩,⟨rp.2.2.2,rq.2.2.2,rq.2.1⟩,?_⟩⟩
 ·have hn:Z9L p q=false:=decide_eq_false h
  refine Z07 (r':= .tup [(true,enc .wedit (⟨0,0,0,0⟩:WEdit)),(false,[.bool false])]) ?_ (by (repeat' (first | exact trivial | exact rfl | apply And.intro)))
  simp only [Zkh,YM]
  rw [hn]
  try rfl
 ·have hn:Z9L p q=true:=decide_eq_true h
  refine Z07 (r':= .tup [(true,enc .wedit (⟨p.at_,orM p.mask q.mask,mix q.old p.old p.mask,mix p.new q.new q.mask⟩:WEdit)),(false,[.bool true])]) ?_ (by (repeat' (first | exact trivial | exact rfl | apply And.intro)))
  simp only [Zkh,YM]
  rw [hn]
  try rfl
theorem Zwy:Contract Try.prog cfg 131 Z7P:=by
 refine Zsz ?_
 intro w _ _
 exact Zyg _ _ (Yy rfl rfl)
theorem Zwx:Contract Try.prog cfg 133 Z1P:=by
 refine Zsy ?_
 intro w _ _
 exact Zye _ _ (Yy rfl rfl)
theorem ZcK{α:Type}{at_:α→Int}{one:α→α→α × Bool}{p q:List α}(h:Zj at_ one p q=none):(Zj at_ one p q).isSome=false∧ofO (Zj at_ one p q)=[]:=by rw [h];exact ⟨rfl,rfl⟩
structure MInv {α:Type} (at_:α→Int) (one:α→α→α × Bool) (p q x0 x1 out:List α):Prop where
 eq:Zj at_ one p q=(Zj at_ one x0 x1).map (out++·)
 len:out.length+x0.length+x1.length≤p.length+q.length
theorem MInv.left{α:Type}{at_:α→Int}{one:α→α→α × Bool}{p q x1 out:List α}{a:α}{x0:List α}(h:MInv at_ one p q (a ::x0) x1 out)(hb:∀ b∈x1.head?,at_ a < at_ b):MInv at_ one p q x0 x1 (out++[a]):=by
 refine ⟨?_,by have:=h.len;simp only [List.length_cons,List.length_append,List.length_nil] at*;omega⟩
 rw [h.eq]
 cases x1 with
 | nil=>
  rw [Zj]
  have:Zj at_ one x0 []=some x0:=by cases x0 <;> rw [Zj]
  rw [this];simp
 | cons b r=>
  rw [Zj,if_pos (hb b (by simp))]
  cases Zj at_ one x0 (b ::r) <;> simp
theorem MInv.right{α:Type}{at_:α→Int}{one:α→α→α × Bool}{p q x0 out:List α}{b:α}{x1:List α}(h:MInv at_ one p q x0 (b ::x1) out)(hb:∀ a∈x0.head?,at_ b < at_ a):MInv at_ one p q x0 x1 (out++[b]):=by
 refine ⟨?_,by have:=h.len;simp only [List.length_cons,List.length_append,List.length_nil] at*;omega⟩
 rw [h.eq]
 cases x0 with
 | nil=> rw [Zj,Zj];simp
 | cons a r=>
  have:=hb a (by simp)
  rw [Zj,if_neg (by omega),if_pos this]
  cases Zj at_ one (a ::r) x1 <;> simp
theorem MInv.both{α:Type}{at_:α→Int}{one:α→α→α × Bool}{p q x0 x1 out:List α}{a b:α}(h:MInv at_ one p q (a ::x0) (b ::x1) out)(e:at_ a=at_ b):
  ((one a b).2=true→MInv at_ one p q x0 x1 (out++[(one a b).1]))∧((one a b).2=false→Zj at_ one p q=none):=by
 refine ⟨fun hc=> ⟨?_,by have:=h.len;simp only [List.length_cons,List.length_append,List.length_nil] at*;omega⟩,fun hc=> ?_⟩
 ·rw [h.eq,Zj,if_neg (by omega),if_neg (by omega),if_pos hc]
  cases Zj at_ one x0 x1 <;> simp
 ·rw [h.eq,Zj,if_neg (by omega),if_neg (by omega),if_neg (by rw [hc];decide)]
  try rfl
theorem MInv.done{α:Type}{at_:α→Int}{one:α→α→α × Bool}{p q out:List α}(h:MInv at_ one p q [] [] out):Zj at_ one p q=some out:=by
 rw [h.eq,Zj];simp
theorem MInv.left'{α:Type}{at_:α→Int}{one:α→α→α × Bool}{p q x0 x1 out:List α}(z:α)(h:MInv at_ one p q x0 x1 out)(hx:0 < x0.length)(hb:x1.length=0∨at_ (x0.getD 0 z) < at_ (x1.getD 0 z)):
  MInv at_ one p q (x0.drop 1) x1 (out++[x0.getD 0 z]):=by
 cases x0 with
 | nil=> simp at hx
 | cons a r=>
  refine h.left fun b hb'=> ?_
  cases x1 with
  | nil=> simp at hb'
  | cons c s=>
   simp only [List.head?_cons,Option.mem_def,Option.some.injEq] at hb'
   subst hb'
   rcases hb with hb | hb
   ·simp at hb
   ·exact hb
theorem MInv.right'{α:Type}{at_:α→Int}{one:α→α→α × Bool}{p q x0 x1 out:List α}(z:α)(h:MInv at_ one p q x0 x1 out)(hx:0 < x1.length)(hb:x0.length=0∨at_ (x1.getD 0 z) < at_ (x0.getD 0 z)):
  MInv at_ one p q x0 (x1.drop 1) (out++[x1.getD 0 z]):=by
 cases x1 with
 | nil=> simp at hx
 | cons a r=>
  refine h.right fun b hb'=> ?_
  cases x0 with
  | nil=> simp at hb'
  | cons c s=>
   simp only [List.head?_cons,Option.mem_def,Option.some.injEq] at hb'
   subst hb'
   rcases hb with hb | hb
   ·simp at hb
   ·exact hb
theorem MInv.both'{α:Type}{at_:α→Int}{one:α→α→α × Bool}{p q x0 x1 out:List α}(z:α)(h:MInv at_ one p q x0 x1 out)(h0:0 < x0.length)(h1:0 < x1.length)(e:at_ (x0.getD 0 z)=at_ (x1.getD 0 z)):
  ((one (x0.getD 0 z) (x1.getD 0 z)).2=true→MInv at_ one p q (x0.drop 1) (x1.drop 1) (out++[(one (x0.getD 0 z) (x1.getD 0 z)).1]))∧((one (x0.getD 0 z) (x1.getD 0 z)).2=false→Zj at_ one p q=none):=by
 cases x0 with
 | nil=> simp at h0
 | cons a r=>
  cases x1 with
  | nil=> simp at h1
  | cons b s=> exact h.both e
theorem Zwz:Contract Try.prog cfg 130 Z7Q:=by
 refine ZsA Zwy c24 ?_
 rintro p q ⟨⟩ ⟨⟩ _ hp
 obtain ⟨⟨rp,lp⟩,rq,lq⟩:=hp
 dsimp only at rp lp rq lq
 refine Zyh p q () () _ ?_
 refine Ze (ι:=List WEdit × List WEdit × List WEdit) (fun x=> Z2h p q () () x.1 x.2.1 x.2.2) (fun x=> MInv WEdit.at_ YM p q x.1 x.2.1 x.2.2∧(∀ w∈x.1,Z1s w)∧∀ w∈x.2.1,Z1s w) (fun x=> x.1.length+x.2.1.length) (p,q,[]) rfl
  ⟨⟨by dsimp only;cases Zj WEdit.at_ YM p q <;> simp,by simp⟩,rp,rq⟩ ?_
 rintro ⟨x0,x1,x10⟩ ⟨inv,r0,r1⟩
 dsimp only at inv r0 r1
 have hlen:=inv.len
 refine ZnX p q () () _ _ _ _ _ ?_
 intro y1 h1 y2 h2 y3 h3 y4 h4 y5 h5
 subst h3 h4
 (simp only [vcT,vcS])
 have h3:y3=x0.getD 0 ⟨0,0,0,0⟩:=h1
 have h4:y4=x1.getD 0 ⟨0,0,0,0⟩:=h2
 have d0:∀ w∈x0.drop 1,Z1s w:=fun w hw=> r0 w (List.mem_of_mem_drop hw)
 have d1:∀ w∈x1.drop 1,Z1s w:=fun w hw=> r1 w (List.mem_of_mem_drop hw)
 refine ⟨fun hne=> ⟨fun h=> ⟨by omega,by omega⟩,fun _=> trivial,fun h=> ⟨by omega,by omega⟩,fun _=> trivial,fun g1 g2=> ⟨g1,g2⟩,fun hA=> ?_,fun hB=> ?_⟩,fun hE=> ?_⟩
 ·refine ⟨⟨by omega,by omega⟩,by simp only [List.length_cons,List.length_nil];omega,⟨by omega,by omega⟩,(x0.drop 1,x1,x10++[y3]),rfl,⟨?_,d0,r1⟩,by dsimp only;rw [List.length_drop];omega⟩
  rw [h3]
  exact inv.left' _ (by omega) (by rw [←h3,←h4];omega)
 ·refine ⟨fun h=> ⟨by omega,by omega⟩,fun _=> trivial,fun h=> ⟨by omega,by omega⟩,fun _=> trivial,fun hC=> ?_,fun hD=> ?_⟩
  ·refine ⟨⟨by omega,by omega⟩,by simp only [List.length_cons,List.length_nil];omega,⟨by omega,by omega⟩,(x0,x1.drop 1,x10++[y4]),rfl,⟨?_,r0,d1⟩,by dsimp only;rw [List.length_drop];omega⟩
   rw [h4]
   exact inv.right' _ (by omega) (by rw [←h3,←h4];omega)
  ·have hb:=inv.both' ⟨0,0,0,0⟩ (by omega) (by omega) (by rw [←h3,←h4];omega)
   rw [←h3,←h4] at hb
   have m3:Z1s y3:=by rw [h3];exact r0 _ (Zm (by omega) _)
   have m4:Z1s y4:=by rw [h4];exact r1 _ (Zm (by omega) _)
   refine ⟨⟨by omega,by omega⟩,⟨by omega,by omega⟩,⟨m3,m4⟩,fun hc=> ?_,fun hc=> ?_⟩
   ·have e:=ZcK (hb.2 hc)
    refine Z07 (r':= .tup [(false,[.slice (U:=U) .wedit [] .unk]),(false,[.bool false])]) ?_ (by (repeat' (first | exact trivial | exact rfl | apply And.intro)))
    simp only [Zfi]
    rw [e.1,e.2]
   ·refine ⟨by simp only [List.length_cons,List.length_nil];omega,⟨by omega,by omega⟩,⟨by omega,by omega⟩,(x0.drop 1,x1.drop 1,x10++[y5]),rfl,⟨?_,d0,d1⟩,by dsimp only;rw [List.length_drop,List.length_drop];omega⟩
    rw [h5]
    exact hb.1 hc
 ·have e0:x0=[]:=List.eq_nil_of_length_eq_zero (by omega)
  have e1:x1=[]:=List.eq_nil_of_length_eq_zero (by omega)
  subst e0 e1
  have e:=inv.done
  refine Z07 (r':= .tup [(false,[.slice (U:=U) .wedit x10 .unk]),(false,[.bool true])]) ?_ (by (repeat' (first | exact trivial | exact rfl | apply And.intro)))
  simp only [Zfi]
  rw [e]
  try rfl
theorem c96:Contract Try.prog cfg 96 Z4m:=by
 refine Zvk Zwz ?_
 intro p q _ hp
 exact Zzx _ _ _ ⟨hp,by (repeat' (first | exact trivial | exact rfl | apply And.intro))⟩
end Go.AM.Ytpjenobkibfpcaa
namespace Go.AM.Ytpjenobkibfpcaa
open Go.AM Go.Proofs
theorem Zux(e:Edit):e.words.length+e.ops.length+Zw e.kids+Zs e.ops+Zq e.old+Zq e.new+1=Zc e:=by obtain ⟨k,o,n,w,ks,l,os⟩:=e;simp only [Zc,Edit.words_mk,Edit.ops_mk,Edit.kids_mk,Edit.old_mk,Edit.new_mk];omega
theorem ZkE(t:Tree):1≤Zq t:=by obtain ⟨k,w,ks⟩:=t;simp only [Zq];omega
theorem Ze5{e:Edit}(h:Z1R e):Zc e≤9000000000:=Nat.le_trans (Z8o e) h.1
theorem Zb3{e:Edit}(h:Z1R e):Zeb (e,())∧Z1R (ZR (Zv e)):=by
 have hm:=Ze5 h
 obtain ⟨m,r,d,hr⟩:=h
 refine ⟨⟨by dsimp only;omega,d,hr⟩,?_,?_,d,Z11 _ _ (Yw _ _ hr)⟩
 ·have:=Z9K (Zv e)
  rw [Z94] at this
  omega
 ·exact Z3P _ d (Yw _ _ hr) (Z3O e r)
theorem Z96{e:Edit}{t:Tree}(h:Z1R e)(hm:Zq t≤100000000000)(ht:rng t):Z5t (e,t,()):=by
 have:=Ze5 h
 have:=h.1
 exact ⟨⟨by dsimp only;omega,h.2⟩,by dsimp only;omega,ht⟩
theorem Zkp{e:Edit}(h:Z1R e):ZaS e.kids:=by
 obtain ⟨m,r,d,hr⟩:=h
 have:=Z3E e
 exact ⟨by omega,(Yg r).2.2.2.1,fun k hk=> ⟨_,(ZG (Zp hr).kids k hk).2⟩⟩
theorem Zko{e:Edit}(h:Z1R e):Zmv e.ops:=by
 obtain ⟨m,r,d,hr⟩:=h
 have:=Z3E e
 exact ⟨by omega,(Yg r).2.2.2.2,fun o ho=> ⟨_,_,rightOs_mem (Zp hr).ops ho⟩⟩
theorem b60:Zzq:=by
 intro N p q _ hp hN
 obtain ⟨op,oq⟩:=hp
 dsimp only at op oq
 have hN':8*(Zc p+Zc q) < N+1:=hN
 obtain ⟨dp,rp⟩:=op.2.2
 obtain ⟨dq,rq⟩:=oq.2.2
 have hst:=ZeC rp rq
 unfold Jx at hst
 have lp:=Zux p
 have lq:=Zux q
 have mo:=ZkE p.old;have mn:=ZkE p.new;have mo':=ZkE q.old;have mn':=ZkE q.new
 have gp:=Yg op.2.1
 have gq:=Yg oq.2.1
 have cp:=Z3E p;have cq:=Z3E q;have cp':=op.1;have cq':=oq.1
 have fin:∀ {X:Edit} {b:Bool} {s:LSt U},Y5 p q=(X,b)→JB cfg Try.f60.ntmps Try.f60.results.toList (.tup [(true,enc .edit X),(false,[.bool b])]) [] .ret s→JB cfg Try.f60.ntmps Try.f60.results.toList (Z5o (p,q,())) [] .ret s:=by
  intro X b s h hs
  refine Z07 ?_ hs
  simp only [Z5o]
  rw [h]
  try rfl
 refine ZzS N p q _ ?_
 intro y1 h1 y2 h2 y3 h3 y4 h4 y5 h5
 replace h1:=h1.symm;replace h2:=h2.symm;replace h3:=h3.symm;replace h4:=h4.symm
 subst h1 h2 h3 h4
 (simp only [vcT,vcS])
 try dsimp only at h5 ⊢
 refine ⟨fun p0=> fin (by rw [hst,if_pos p0]) (by (repeat' (first | exact trivial | exact rfl | apply And.intro))),fun p0=> ?_⟩
 rw [if_neg p0] at hst
 refine ⟨fun q0=> fin (by rw [hst,if_pos q0]) (by (repeat' (first | exact trivial | exact rfl | apply And.intro))),fun q0=> ?_⟩
 rw [if_neg q0] at hst
 refine ⟨fun p1=> ⟨Z96 oq (by omega) gp.2.1,fin (by rw [hst,if_pos p1]) (by unfold doB;(repeat' (first | exact trivial | exact rfl | apply And.intro)))⟩,fun p1=> ?_⟩
 rw [if_neg p1] at hst
 refine ⟨fun q1=> ⟨(Zb3 op).1,by rw [h5];exact Z96 (Zb3 op).2 (by omega) gq.1,fin (by rw [hst,if_pos q1,←h5]) (by unfold doB;(repeat' (first | exact trivial | exact rfl | apply And.intro)))⟩,fun q1=> ?_⟩
 rw [if_neg q1] at hst
 refine ⟨fun hd=> fin (by rw [hst,if_pos hd]) (by (repeat' (first | exact trivial | exact rfl | apply And.intro))),fun hd=> ?_⟩
 rw [if_neg (by rintro (h | h);exact h hd.1;exact h hd.2)] at hst
 refine ⟨fun p2=> ?_,fun p2=> ?_⟩
 ·rw [if_pos p2] at hst
  refine ⟨⟨⟨gp.2.2.1,by dsimp only;omega⟩,gq.2.2.1,by dsimp only;omega⟩,fun hw=> ?_,fun hw=> ⟨⟨Zkp op,Zkp oq⟩,by show 8*(Zw p.kids+Zw q.kids)+4 < N;omega,?_⟩⟩
  ·exact fin (by rw [hst,if_neg (by rw [hw];decide)]) (by (repeat' (first | exact trivial | exact rfl | apply And.intro)))
  ·exact fin (by rw [hst,if_pos hw]) (by (repeat' (first | exact trivial | exact rfl | apply And.intro)))
 ·rw [if_neg p2] at hst
  exact ⟨⟨Zko op,Zko oq⟩,by show 8*(Zs p.ops+Zs q.ops)+40 < N;omega,fin hst (by (repeat' (first | exact trivial | exact rfl | apply And.intro)))⟩
theorem b97:Zzk:=by
 intro N a b _ hp hN
 have hN':8*(Zw a+Zw b)+4 < N+1:=hN
 refine Zzw N a b _ ?_
 exact ⟨hp,by show 8*(Zw a+Zw b)+3 < N;omega,by (repeat' (first | exact trivial | exact rfl | apply And.intro))⟩
theorem ZgU{k:Kid}(h:Z0F k):isI k.at_∧ZS k.e:=by cases k;exact h
theorem ZwN:ZuV:=by
 intro N a b _ hp hN
 obtain ⟨oa,ob⟩:=hp
 dsimp only at oa ob
 have hN':8*(YQ a+YQ b)+1 < N+1:=hN
 have ka:=Z3Z a
 have kb:=Z3Z b
 refine Zyd N a b _ ?_
 intro y1 h1 y2 h2
 replace h1:=h1.symm;replace h2:=h2.symm
 subst h1 h2
 try dsimp only
 have ra:Z1R a.e:=⟨by have:=oa.1;rw [Z2W] at this;omega,(ZgU oa.2.1).2,oa.2.2⟩
 have rb:Z1R b.e:=⟨by have:=ob.1;rw [Z2W] at this;omega,(ZgU ob.2.1).2,ob.2.2⟩
 exact ⟨⟨ra,rb⟩,by show 8*(Zc a.e+Zc b.e) < N;omega,by unfold Z3t Z0x;(repeat' (first | exact trivial | exact rfl | apply And.intro))⟩
theorem ZdY{l:List Kid}(h:ZaS l):ZaS (l.drop 1):=by
 cases l with
 | nil=> exact h
 | cons k r=>
  obtain ⟨h1,h2,h3⟩:=h
  simp only [Z0i] at h1
  exact ⟨by simp only [List.drop_succ_cons,List.drop_zero];omega,h2.2,fun x hx=> h3 x (List.mem_cons_of_mem _ hx)⟩
theorem ZdX{l:List Kid}(h:ZaS l)(hl:0 < l.length)(z:Kid):Zqs (l.getD 0 z)∧YQ (l.getD 0 z)+Zw (l.drop 1)=Zw l:=by
 cases l with
 | nil=> simp at hl
 | cons k r=>
  obtain ⟨h1,h2,h3⟩:=h
  simp only [Z0i] at h1
  exact ⟨⟨by simp only [List.getD_cons_zero];omega,h2.1,h3 k List.mem_cons_self⟩,rfl⟩
theorem Zav:∀ l:List Kid,Zw (l.drop 1)≤Zw l
 | []=> Nat.le_refl _
 | k ::r=> by simp only [List.drop_succ_cons,List.drop_zero,Zw];omega
theorem ZwO:ZuW:=by
 rintro N p q ⟨⟩ ⟨⟩ _ hp hN
 obtain ⟨op,oq⟩:=hp
 dsimp only at op oq
 have hN':8*(Zw p+Zw q)+3 < N+1:=hN
 have lp:=Yi p
 have lq:=Yi q
 have bp:=Nat.le_trans (Z6l p) op.1;have bq:=Nat.le_trans (Z6l q) oq.1
 refine Zyf N p q () () _ ?_
 refine Ze (ι:=List Kid × List Kid × List Kid) (fun x=> Z2g p q () () x.1 x.2.1 x.2.2) (fun x=> MInv KidOf.at_ (Z0x Y5) p q x.1 x.2.1 x.2.2∧(ZaS x.1∧Zw x.1≤Zw p)∧ZaS x.2.1∧Zw x.2.1≤Zw q) (fun x=> x.1.length+x.2.1.length) (p,q,[]) rfl
  ⟨⟨by dsimp only;cases Zj KidOf.at_ (Z0x Y5) p q <;> simp,by simp⟩,⟨op,Nat.le_refl _⟩,oq,Nat.le_refl _⟩ ?_
 rintro ⟨x0,x1,x10⟩ ⟨inv,⟨r0,m0⟩,r1,m1⟩
 dsimp only at inv r0 r1 m0 m1
 have hlen:=inv.len
 refine ZnW N p q () () _ _ _ _ _ ?_
 intro y1 h1 y2 h2 y3 h3 y4 h4 y5 h5
 subst h3 h4
 (simp only [vcT,vcS])
 have h3:y3=x0.getD 0 ⟨0,Edit.nil⟩:=h1
 have h4:y4=x1.getD 0 ⟨0,Edit.nil⟩:=h2
 have d0:ZaS (x0.drop 1)∧Zw (x0.drop 1)≤Zw p:=⟨ZdY r0,by have:=Zav x0;omega⟩
 have d1:ZaS (x1.drop 1)∧Zw (x1.drop 1)≤Zw q:=⟨ZdY r1,by have:=Zav x1;omega⟩
 refine ⟨fun hne=> ⟨fun h=> ⟨by omega,by omega⟩,fun _=> trivial,fun h=> ⟨by omega,by omega⟩,fun _=> trivial,fun g1 g2=> ⟨g1,g2⟩,fun hA=> ?_,fun hB=> ?_⟩,fun hE=> ?_⟩
 ·refine ⟨⟨by omega,by omega⟩,by simp only [List.length_cons,List.length_nil];omega,⟨by omega,by omega⟩,(x0.drop 1,x1,x10++[y3]),rfl,⟨?_,d0,r1,m1⟩,by dsimp only;rw [List.length_drop];omega⟩
  rw [h3]
  exact inv.left' _ (by omega) (by rw [←h3,←h4];omega)
 ·refine ⟨fun h=> ⟨by omega,by omega⟩,fun _=> trivial,fun h=> ⟨by omega,by omega⟩,fun _=> trivial,fun hC=> ?_,fun hD=> ?_⟩
  ·refine ⟨⟨by omega,by omega⟩,by simp only [List.length_cons,List.length_nil];omega,⟨by omega,by omega⟩,(x0,x1.drop 1,x10++[y4]),rfl,⟨?_,⟨r0,m0⟩,d1⟩,by dsimp only;rw [List.length_drop];omega⟩
   rw [h4]
   exact inv.right' _ (by omega) (by rw [←h3,←h4];omega)
  ·have hb:=inv.both' ⟨0,Edit.nil⟩ (by omega) (by omega) (by rw [←h3,←h4];omega)
   rw [←h3,←h4] at hb
   obtain ⟨k3,n3⟩:=ZdX r0 (by omega) ⟨0,Edit.nil⟩
   obtain ⟨k4,n4⟩:=ZdX r1 (by omega) ⟨0,Edit.nil⟩
   rw [←h3] at k3 n3
   rw [←h4] at k4 n4
   refine ⟨⟨by omega,by omega⟩,⟨by omega,by omega⟩,⟨k3,k4⟩,by show 8*(YQ y3+YQ y4)+1 < N;omega,fun hc=> ?_,fun hc=> ?_⟩
   ·have e:=ZcK (hb.2 hc)
    refine Z07 (r':= .tup [(false,[.slice (U:=U) .kid [] .unk]),(false,[.bool false])]) ?_ (by (repeat' (first | exact trivial | exact rfl | apply And.intro)))
    simp only [Z2x]
    rw [e.1,e.2]
   ·refine ⟨by simp only [List.length_cons,List.length_nil];omega,⟨by omega,by omega⟩,⟨by omega,by omega⟩,(x0.drop 1,x1.drop 1,x10++[y5]),rfl,⟨?_,d0,d1⟩,by dsimp only;rw [List.length_drop,List.length_drop];omega⟩
    rw [h5]
    exact hb.1 hc
 ·have e0:x0=[]:=List.eq_nil_of_length_eq_zero (by omega)
  have e1:x1=[]:=List.eq_nil_of_length_eq_zero (by omega)
  subst e0 e1
  have e:=inv.done
  refine Z07 (r':= .tup [(false,[.slice (U:=U) .kid x10 .unk]),(false,[.bool true])]) ?_ (by (repeat' (first | exact trivial | exact rfl | apply And.intro)))
  simp only [Z2x]
  rw [e]
  try rfl
theorem Zhe{l:List Op}{o:Op}(h:Part l o)(ho:YI o)(hl:JL l):YA o:=by
 obtain ⟨o',m,k,e1,_,lt⟩:=h
 have G:=Z04 (JE hl m)
 obtain ⟨kk,nn,ll,ee⟩:=o
 have k:kk=o'.kind:=k
 have e1:ee=o'.e:=e1
 have lt:∀ t∈ll,t∈o'.l:=lt
 refine ⟨by rw [k];exact G.1,?_,Z4z fun t ht=> YX G.2.2.1 (lt t ht),by rw [e1];exact G.2.2.2⟩
 rcases ho with h | h | h
 ·have:=h.2.2.1
  unfold isI
  dsimp only at this
  omega
 ·have h2:nn=0:=h.2.1
  rw [h2];exact Jp (by decide) (by decide)
 ·have h2:nn=0:=h.2.1
  rw [h2];exact Jp (by decide) (by decide)
theorem Z6f{l:List Op}{o:Op}(h:Part l o):Z1Y o≤YS l∧Zx o≤Zs l:=by
 obtain ⟨o',m,k,e1,hm,_⟩:=h
 have h1:=Zd8 m
 have h2:=Yq m
 have a:=Z3m o
 rw [ZW,ZW,e1] at hm
 rw [e1] at a
 rw [ZW] at h2
 rw [ZW,e1]
 omega
theorem Zcx{l:List Op}{o:Op}(h:Part l o)(hl:∀ o∈l,∃ list d,Za list o d=true)(k3:o.kind=3):∃ d,Z0 o.e d=true:=by
 obtain ⟨o',m,k,e1,hm,_⟩:=h
 obtain ⟨list,d,hr⟩:=hl o' m
 exact ⟨d,by rw [e1];exact YE hr (by omega)⟩
theorem Zpj{p q:List Op}(hp:Zmv p)(hq:Zmv q){x:Piece}(h:POk p q x):PcOk x:=by
 refine ⟨h.of,fun e=> ?_,fun e=> ?_,h.both⟩
 ·obtain ⟨a,b⟩:=h.pp e
  exact ⟨b,Nat.le_trans (Z6f a).1 hp.1,Zhe a b hp.2.1,Zcx a hp.2.2⟩
 ·obtain ⟨a,b⟩:=h.qq e
  exact ⟨b,Nat.le_trans (Z6f a).1 hq.1,Zhe a b hq.2.1,Zcx a hq.2.2⟩
theorem Zud{p:List Op}(hp:Zmv p):Z9x p:=by
 refine ⟨fun o ho=> ?_,?_⟩
 ·obtain ⟨_,_,h⟩:=hp.2.2 o ho
  exact Z70 h
 ·have:=Z3Y p
  have:=hp.1
  omega
theorem b98:Zzj:=by
 intro N p q _ hp hN
 obtain ⟨op,oq⟩:=hp
 dsimp only at op oq
 have hN':8*(Zs p+Zs q)+40 < N+1:=hN
 have kp:=Zud op
 have kq:=Zud oq
 obtain ⟨i1,_⟩:=Z87 _ p q [] (Nat.le_refl _) kp.1 kq.1
 refine Zzv N p q _ ?_
 (simp only [vcT,vcS])
 refine ⟨⟨kp,kq⟩,fun hb=> ?_,fun hb=> ?_⟩
 ·have e:Z08 Y5 p q=none:=by unfold Z08;rw [if_neg (by rw [hb];decide)]
  refine Z07 (r':= .tup [(false,[.slice (U:=U) .op [] .unk]),(false,[.bool false])]) ?_ (by (repeat' (first | exact trivial | exact rfl | apply And.intro)))
  simp only [Z53]
  rw [e];try rfl
 ·obtain ⟨ps,e,hps,_,_⟩:=i1 hb
  obtain ⟨ps1,e1,_,_,hlen⟩:=Zcy ZuN ZuM 1 _ p q [] (Nat.le_refl _) kp.1 kq.1 hb
  rw [e,List.nil_append,List.nil_append] at e1
  subst e1
  rw [List.nil_append] at e
  have hco:Z08 Y5 p q=JN Y5 ps:=by unfold Z08;rw [if_pos hb,e]
  refine Ze (ι:=Int × List Op) (fun s=> Z5O p q s.1 s.2) (fun s=> 0≤s.1∧s.1≤ps.length∧JN Y5 ps=(JN Y5 (ps.drop s.1.toNat)).map (s.2++·)∧s.2.length+(ps.drop s.1.toNat).length≤ps.length) (fun s=> ((ps.length:Int) - s.1).toNat) (0,[]) rfl ⟨by simp,by simp,by simp,by simp⟩ ?_
  rintro ⟨i,out⟩ ⟨f1,f2,f3,f4⟩
  dsimp only at f1 f2 f3 f4
  refine Zrr N p q _ _ _ _ ?_
  intro y1 h1 y2 h2 y3 h3
  rw [e] at h1 ⊢
  subst h2
  (simp only [vcT,vcS])
  refine ⟨fun hi=> ?_,fun hi=> ?_⟩
  ·have h1:y2=ps.getD i.toNat (Piece.mk 0 Op.nil Op.nil):=h1
   have hmem:y2∈ps:=by rw [h1];exact Zm (by omega) _
   have hx:=hps y2 hmem
   have hd:ps.drop i.toNat=y2 ::ps.drop (i+1).toNat:=by rw [h1];exact YU f1 hi _
   rw [hd,JN] at f3
   rw [hd,List.length_cons] at f4
   have hmu:8*(Zx y2.p+Zx y2.q)+1 < N:=by
    rcases hx.of with h | h | h
    ·have:=(Z6f (hx.pp (by omega)).1).2;have:=(Z6f (hx.qq (by omega)).1).2;omega
    ·have:=(Z6f (hx.pp (by omega)).1).2;rw [hx.qn h,show Zx Op.nil=3 from rfl];omega
    ·have:=(Z6f (hx.qq (by omega)).1).2;rw [hx.pn h,show Zx Op.nil=3 from rfl];omega
   have c1:=Z3Y p;have c2:=Z3Y q;have c3:=op.1;have c4:=oq.1
   refine ⟨⟨f1,hi⟩,Zpj op oq hx,hmu,fun hc=> ?_,fun hc=> ⟨fun his=> ?_,fun his=> ?_⟩⟩
   ·rw [if_neg (by rw [hc];decide)] at f3
    refine Z07 (r':= .tup [(false,[.slice (U:=U) .op [] .unk]),(false,[.bool false])]) ?_ (by (repeat' (first | exact trivial | exact rfl | apply And.intro)))
    simp only [Z53]
    rw [hco,f3];try rfl
   ·rw [if_pos hc,if_pos his] at f3
    refine ⟨by simp only [List.length_cons,List.length_nil];omega,by unfold InR;omega,(i+1,out++[y3]),rfl,⟨by dsimp only;omega,by dsimp only;omega,?_,?_⟩,by dsimp only;omega⟩
    ·rw [f3,h3]
     cases JN Y5 (ps.drop (i+1).toNat) <;> simp
    ·simp only [List.length_append,List.length_cons,List.length_nil];omega
   ·rw [if_pos hc,if_neg (by rw [his];decide)] at f3
    refine ⟨by unfold InR;omega,(i+1,out),rfl,⟨by dsimp only;omega,by dsimp only;omega,?_,by dsimp only;omega⟩,by dsimp only;omega⟩
    rw [f3]
    cases JN Y5 (ps.drop (i+1).toNat) <;> simp
  ·rw [List.drop_of_length_le (by omega),JN] at f3
   refine Z07 (r':= .tup [(false,[.slice (U:=U) .op out .unk]),(false,[.bool true])]) ?_ (by (repeat' (first | exact trivial | exact rfl | apply And.intro)))
   simp only [Z53]
   rw [hco,f3]
   simp [ofO]
theorem ZdO{α:Type}{l:List α}{i:Nat}(h:i < l.length)(d:α):l.take (i+1)=l.take i++[l.getD i d]:=by
 rw [List.take_succ_eq_append_getElem h,List.getD_eq_getElem?_getD,List.getElem?_eq_getElem h];try rfl
theorem ZhS{a b:List Tree}(h:Z5 a=Z5 b):ZfU a b=true:=Z1W.2 h
theorem Ztb{a b:List Tree}(h:¬Z5 a=Z5 b):ZfU a b=false:=by rw [←Bool.not_eq_true];exact fun e=> h (Z1W.1 e)
theorem Zhx(o:Op):Zg o.l≤Z1Y o:=by rw [Z3m];omega
theorem ZwM:ZuU:=by
 intro N x _ hp hN
 have hp:PcOk x:=hp
 have hN':8*(Zx x.p+Zx x.q)+1 < N+1:=hN
 have fin:∀ {o:Op} {i k:Bool} {s:LSt U},ZF Y5 x=⟨o,i,k⟩→JB cfg Try.f136.ntmps Try.f136.results.toList (.tup [(true,enc .op o),(false,[.bool i]),(false,[.bool k])]) [] .ret s→JB cfg Try.f136.ntmps Try.f136.results.toList (Z2w (x,())) [] .ret s:=by
  intro o i k s h hs
  refine Z07 ?_ hs
  simp only [Z2w]
  rw [h];try rfl
 refine Zyb N x _ ?_
 intro y1 h1 y2 h2 y3 h3 y4 h4 y5 h5 y6 h6 y7 h7 y8 h8 y9 h9
 subst h1 h2 h5 h6
 (simp only [vcT,vcS])
 have hc:=ZF.eq_1 Y5 x
 refine ⟨fun _ h=> ⟨by omega,h⟩,fun c1=> fin (by rw [hc,if_pos c1]) (by (repeat' (first | exact trivial | exact rfl | apply And.intro))),fun c1=> ?_⟩
 rw [if_neg (by omega)] at hc
 refine ⟨fun c2=> fin (by rw [hc,if_pos c2]) (by (repeat' (first | exact trivial | exact rfl | apply And.intro))),fun c2=> ?_⟩
 rw [if_neg (by omega)] at hc
 have c0:x.of=0:=by rcases hp.of with h | h | h <;> omega
 obtain ⟨b1,b2,b3⟩:=hp.both c0
 obtain ⟨op,mp,gp,rp⟩:=hp.pp (by omega)
 obtain ⟨oq,mq,gq,rq⟩:=hp.qq (by omega)
 have ep:=Z3m x.p
 have eq:=Z3m x.q
 have gp':=Z04 gp
 have gq':=Z04 gq
 have ap:=Zhx x.p
 have aq:=Zhx x.q
 refine ⟨fun c3=> ?_,fun c3=> ?_⟩
 ·rw [if_pos c3] at hc
  have l1:=YK op (.inr c3.1)
  have l2:=YK oq (.inl c3.2)
  have k1:=ZD x.p.l
  rw [List.take_of_length_le (by omega)] at hc
  refine Ze (ι:=Int) (fun i=> Z6n x i) (fun i=> 0≤i∧i≤x.p.l.length∧Z5 (x.p.l.take i.toNat)=Z5 (x.q.l.take i.toNat)) (fun i=> ((x.p.l.length:Int) - i).toNat) 0 rfl ⟨by omega,by omega,by simp⟩ ?_
  rintro i ⟨f1,f2,f3⟩
  refine ZnV N x _ _ _ ?_
  intro z1 g1 z2 g2 z3 g3 z4 g4
  subst g1 g2
  (simp only [vcT,vcS])
  have l3:x.p.l.length=x.q.l.length:=by omega
  refine ⟨fun hi=> ?_,fun hi=> ?_⟩
  ·have m1:z3∈x.p.l:=by rw [g3];exact Zm (by omega) _
   have m2:z4∈x.q.l:=by rw [g4];exact Zm (by omega) _
   have m1':=YW m1
   have m2':=YW m2
   have t1:x.p.l.take (i+1).toNat=x.p.l.take i.toNat++[z3]:=by rw [g3,show (i+1).toNat=i.toNat+1 by omega];exact ZdO (by omega) _
   have t2:x.q.l.take (i+1).toNat=x.q.l.take i.toNat++[z4]:=by rw [g4,show (i+1).toNat=i.toNat+1 by omega];exact ZdO (by omega) _
   refine ⟨⟨f1,hi⟩,⟨f1,by omega⟩,⟨by dsimp only;omega,by dsimp only;omega⟩,fun hne=> fin (by rw [hc,Ztb];intro he;rw [Z1p] at hne;apply hne;rw [g3,g4];exact ZaJ he i.toNat) (by (repeat' (first | exact trivial | exact rfl | apply And.intro))),fun heq=> ⟨by unfold InR;omega,i+1,rfl,⟨by omega,by omega,?_⟩,by omega⟩⟩
   rw [t1,t2]
   exact Z13 f3 (JF.2 (Jd.1 heq))
  ·rw [List.take_of_length_le (by omega),List.take_of_length_le (by omega)] at f3
   exact fin (by rw [hc,ZhS f3]) (by (repeat' (first | exact trivial | exact rfl | apply And.intro)))
 rw [if_neg (by omega)] at hc
 have kp:x.p.kind=2∨x.p.kind=3:=by rcases Yo op with k | k | k | k <;> omega
 have kq:x.q.kind=1∨x.q.kind=3:=by rcases Yo oq with k | k | k | k <;> omega
 refine ⟨fun c4=> ?_,fun c4=> ?_⟩
 ·rw [if_pos c4] at hc
  have l1:=YK op (.inr c4)
  have l2:=Z0k (o:=x.q) (by omega)
  have hl:0 < x.p.l.length:=by omega
  have m3:y5∈x.p.l:=by rw [h3];exact Zm hl _
  have m3':=YW m3
  refine ⟨⟨by omega,by omega⟩,Z96 ⟨by omega,gq'.2.2.2,rq (by omega)⟩ (by omega) (YX gp'.2.2.1 m3),fin hc ?_⟩
  rw [show x.p.l.getD 0 Tree.nil=y5 from h3.symm]
  unfold doB
  rw [←h8]
  (repeat' (first | exact trivial | exact rfl | apply And.intro))
 rw [if_neg c4] at hc
 have p3:x.p.kind=3:=by omega
 refine ⟨fun c5=> ?_,fun c5=> ?_⟩
 ·rw [if_pos c5] at hc
  have l1:=YK oq (.inl c5)
  have l2:=Z0k (o:=x.p) p3
  have hl:0 < x.q.l.length:=by omega
  have m4:y6∈x.q.l:=by rw [h4];exact Zm hl _
  have m4':=YW m4
  have rk:Z1R x.p.e:=⟨by omega,gp'.2.2.2,rp p3⟩
  refine ⟨(Zb3 rk).1,⟨by omega,by omega⟩,by rw [h7];exact Z96 (Zb3 rk).2 (by omega) (YX gq'.2.2.1 m4),fin hc ?_⟩
  rw [show x.q.l.getD 0 Tree.nil=y6 from h4.symm,←h7]
  unfold doB
  rw [←h9]
  (repeat' (first | exact trivial | exact rfl | apply And.intro))
 ·rw [if_neg c5] at hc
  have k1:Z1R x.p.e:=⟨by omega,gp'.2.2.2,rp p3⟩
  have k2:Z1R x.q.e:=⟨by omega,gq'.2.2.2,rq (by omega)⟩
  refine ⟨⟨k1,k2⟩,?_,fin hc (by (repeat' (first | exact trivial | exact rfl | apply And.intro)))⟩
  show 8*(Zc x.p.e+Zc x.q.e) < N
  rw [ZW,ZW] at hN'
  omega
theorem ZAc:Contract Try.prog cfg 60 Z9e∧Contract Try.prog cfg 97 Zoq∧Contract Try.prog cfg 132 ZjV∧Contract Try.prog cfg 134 ZjU∧Contract Try.prog cfg 98 Zop∧Contract Try.prog cfg 136 ZjT:=
 Zsc c26 c83 Zg2 c96 Zwx (Zww ZqL) b60 b97 ZwO ZwN b98 ZwM
theorem c60:Contract Try.prog cfg 60 Z9e:=ZAc.1
end Go.AM.Ytpjenobkibfpcaa
namespace Go.AM
def Z57(list:Int):List Tree→Int→Int
 | [],_=> -1
 | t ::r,i=> if Z9 (Tree.mk list [] [t]) 64=true then Z57 list r (i+1) else i
theorem ZeE(list:Int):∀ (l:List Tree) (i:Int),0≤i→(0≤Z57 list l i↔Jr list l=false)
 | [],i,_=> by simp [Z57,Jr]
 | t ::r,i,hi=> by
  have ih:=ZeE list r (i+1) (by omega)
  rw [Z57,Jr]
  by_cases h:Z9 (Tree.mk list [] [t]) 64=true
  ·rw [if_pos h,h,Bool.true_and];exact ih
  ·rw [if_neg h]
   simp only [Bool.not_eq_true] at h
   rw [h,Bool.false_and]
   exact ⟨fun _=> rfl,fun _=> hi⟩
end Go.AM
