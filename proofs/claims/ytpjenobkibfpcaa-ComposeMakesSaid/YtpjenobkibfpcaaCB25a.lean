import Derived.Test.YtpjenobkibfpcaaKB22b
import Derived.Test.YtpjenobkibfpcaaKB22d
import Derived.Test.YtpjenobkibfpcaaKB24c
import Derived.Test.YtpjenobkibfpcaaCD25
import Derived.Test.YtpjenobkibfpcaaCL25j
set_option linter.unusedSimpArgs false
set_option linter.unusedVariables false
namespace Go.AM.Ytpjenobkibfpcaa
open Go.AM Go.Proofs
noncomputable section
abbrev Y4(p:Prop):Prop:=p→p
noncomputable section
def ZhK:ArgL (Edit × Unit):=(.cons (aEl .edit) .nil)
def Z39(a:Edit × Unit):Prop:=Z5 a.1≤20000000000∧∃ d,Za a.1 d=true
def Zeb(a:Edit × Unit):Nat:=2*Z5 a.1
def ZbG(a:Edit × Unit):V U:= .agg (enc .edit (Zy a.1))
def Z5M:Fs U:=fs ZhK (fun a=> [Z39 a]) ZbG
def ZhH:ArgL (Int × List Op × Unit):=(.cons (JI .i64) (.cons (aSl .op) .nil))
def ZbN(a:Int × List Op × Unit):Prop:=Zh a.2.1≤20000000000∧∀ o∈a.2.1,∃ d,Zc a.1 o d=true
def Zj2(a:Int × List Op × Unit):Nat:=2*Zh a.2.1+1
def ZdD(a:Int × List Op × Unit):V U:= .c (sU .op ((Z3 (Zq a.1 a.2.1 (Wst.mk [] [] []))).out) .unk)
def ZqJ:Fs U:=fs ZhH (fun a=> [ZbN a]) ZdD
def Z21(N:Nat):List (FuncId × Fs U):=(32,fs ZhK (fun a=> [Z39 a,Zeb a < N]) ZbG) ::(76,fs ZhH (fun a=> [ZbN a,Zj2 a < N]) ZdD) ::[(45,Z0b),(110,Z6S),(111,Z48)]
def Zen:Zj U:=fun i=> match i with
 | 0=> ([(1,[]),(2,[])],[(.loc 1,[]),(.loc 2,[])])
 | 1=> ([(1,[]),(2,[]),(6,[])],[(.loc 1,[]),(.loc 2,[])])
 | 2=> ([(1,[]),(2,[]),(6,[]),(7,[])],[(.loc 1,[]),(.loc 2,[])])
 | 3=> ([(2,[])],[(.loc 2,[])])
 | 4=> ([(1,[]),(2,[]),(6,[]),(16,[])],[(.loc 1,[]),(.loc 2,[])])
 | 5=> ([(1,[]),(2,[]),(3,[])],[(.loc 1,[]),(.loc 2,[]),(.loc 3,[])])
 | 6=> ([(1,[]),(2,[]),(3,[])],[(.loc 1,[]),(.loc 2,[]),(.loc 3,[])])
 | 7=> ([(1,[]),(2,[]),(3,[]),(4,[])],[(.loc 1,[]),(.loc 2,[]),(.loc 3,[.any,.any,.any,.any,.any,.any,.any,.any,.own .kid])])
 | 8=> ([(1,[]),(2,[]),(3,[]),(4,[]),(29,[])],[(.loc 1,[]),(.loc 2,[]),(.loc 3,[])])
 | 9=> ([(1,[]),(2,[]),(3,[]),(4,[])],[(.loc 1,[]),(.loc 2,[]),(.loc 3,[.any,.any,.any,.any,.any,.any,.any,.any,.own .kid])])
 | 10=> ([(1,[]),(2,[]),(3,[]),(4,[])],[(.loc 1,[]),(.loc 2,[]),(.loc 3,[])])
 | 11=> ([(2,[])],[(.loc 2,[])])
 | 12=> ([(1,[]),(2,[]),(52,[])],[(.loc 1,[]),(.loc 2,[])])
 | 13=> ([(2,[])],[(.loc 2,[])])
 | 14=> ([(2,[])],[(.loc 2,[])])
 | _=> ([],[])
def Z4r(e:Edit)(x4:Int)(ml3_8:List Kid):LSt U:=(L2 [(1,.ptr (.loc 1) 0),(2,.ptr (.loc 2) 0),(3,.ptr (.loc 3) 0),(4,.c (ci x4))] [(.loc 1,(enc .edit e)),(.loc 2,zc1),(.loc 3,[ci 2,ci 0,.nils,.nils,ci 0,.nils,.nils,sU .wedit (([]:List WEdit)++e.words) (.own (.l 3 7)),sU .kid ml3_8 (.own (.l 3 8)),ci 0,.nils])])
abbrev W32(N:Nat)(e:Edit)(Q:QT):=AW (Z1 (Z21 N)) Try.f32 Zen [] (L2 [(0,.agg (enc .edit e))] []) Q
abbrev ZpD(N:Nat):=awp cfg (Z1 (Z21 N)) (ZS cfg (Z1 (Z21 N))) Try.f32.ntmps Zen
abbrev Zfq(N:Nat):=ZaF cfg (Z1 (Z21 N)) (ZS cfg (Z1 (Z21 N))) Try.f32.ntmps Zen
theorem ZCJ(N:Nat)(e:Edit)(Q:QT)(h:((e.kind==1)=true→(Jy ((Tree.mk e.old.kind e.old.words e.old.kids),()))∧(Jy ((Tree.mk e.new.kind e.new.words e.new.kids),()))∧(Q .ret (L2 [(2,.ptr (.loc 2) 0)] [(.loc 2,([ci 1]++enc .tree (Z4 (Tree.mk e.old.kind e.old.words e.old.kids))++enc .tree (Z4 (Tree.mk e.new.kind e.new.words e.new.kids))++[.nils,.nils,ci 0,.nils]))])))∧((e.kind==1)=false→((e.kind==2)=true→((([]:List WEdit).length+e.words.length)*32≤140737488355328)∧(Ze (AW (Z1 (Z21 N)) Try.f32 Zen [1,0,1,0,1,1,1,0,1,1,0,1,0,0]) (Z4r e 0 []) (xB 1 (SW (Z1 (Z21 N)) Try.f32 Zen [1,0,1,0,1,1,1,0,1,1,1] (xB 0 (SW (Z1 (Z21 N)) Try.f32 Zen [1,1] Q))))))∧((e.kind==2)=false→((e.kind==3)=true→(ZbN (e.list,e.ops,()))∧(Zj2 (e.list,e.ops,()) < N)∧(Q .ret (L2 [(2,.ptr (.loc 2) 0)] [(.loc 2,[ci 3,ci 0,.nils,.nils,ci 0,.nils,.nils,.nils,.nils,ci e.list,sU .op ((Z3 (Zq e.list e.ops (Wst.mk [] [] []))).out) .unk])])))∧((e.kind==3)=false→Q .ret (L2 [(2,.ptr (.loc 2) 0)] [(.loc 2,zc1)]))))):
  W32 N e Q:=by
 have e_:(W32 N e Q)=(((e.kind==1)=true→(Jy ((Tree.mk e.old.kind e.old.words e.old.kids),()))∧(Jy ((Tree.mk e.new.kind e.new.words e.new.kids),()))∧(Q .ret (L2 [(2,.ptr (.loc 2) 0)] [(.loc 2,([ci 1]++enc .tree (Z4 (Tree.mk e.old.kind e.old.words e.old.kids))++enc .tree (Z4 (Tree.mk e.new.kind e.new.words e.new.kids))++[.nils,.nils,ci 0,.nils]))])))∧((e.kind==1)=false→(((e.kind==2)=true→(((([]:List WEdit).length+e.words.length)*32≤140737488355328)∧(Ze (ZpD N (cd Try.f32 [1,0,1,0,1,1,1,0,1,1,0,1,0,0])) (Z4r e 0 []) (xB 1 (Zfq N (cd Try.f32 [1,0,1,0,1,1,1,0,1,1,1]) (xB 0 (Zfq N (cd Try.f32 [1,1]) Q)))))))∧((e.kind==2)=false→(((e.kind==3)=true→(ZbN (e.list,e.ops,()))∧(Zj2 (e.list,e.ops,()) < N)∧(Q .ret (L2 [(2,.ptr (.loc 2) 0)] [(.loc 2,[ci 3,ci 0,.nils,.nils,ci 0,.nils,.nils,.nils,.nils,ci e.list,sU .op ((Z3 (Zq e.list e.ops (Wst.mk [] [] []))).out) .unk])])))∧((e.kind==3)=false→(Q .ret (L2 [(2,.ptr (.loc 2) 0)] [(.loc 2,zc1)])))))))):=by kernel_rfl
 exact e_.mpr ⟨fun c_1=> ⟨(h.1 c_1).1,(h.1 c_1).2.1,(h.1 c_1).2.2⟩,fun c_1=> ⟨fun c_2=> ⟨((h.2 c_1).1 c_2).1,((h.2 c_1).1 c_2).2⟩,fun c_2=> ⟨fun c_3=> ⟨(((h.2 c_1).2 c_2).1 c_3).1,(((h.2 c_1).2 c_2).1 c_3).2.1,(((h.2 c_1).2 c_2).1 c_3).2.2⟩,fun c_3=> (((h.2 c_1).2 c_2).2 c_3)⟩⟩⟩
abbrev ZtB(N:Nat)(e:Edit)(x4:Int)(ml3_8:List Kid)(N0:NT)(Q:QT):=AW (Z1 (Z21 N)) Try.f32 Zen [1,0,1,0,1,1,1,0,1,1,0,1,0,0] (Z4r e x4 ml3_8) (xT N0 (xB 1 (SW (Z1 (Z21 N)) Try.f32 Zen [1,0,1,0,1,1,1,0,1,1,1] (xB 0 (SW (Z1 (Z21 N)) Try.f32 Zen [1,1] Q)))))
theorem Zuk(N:Nat)(e:Edit)(x4:Int)(ml3_8:List Kid)(N0:NT)(Q:QT)(h:∀ y_1,y_1=(e.kids.getD x4.toNat (KidOf.mk 0 Edit.nil))→∀ y_2,y_2=(y_1.e)→∀ y_3,y_3=(Zy y_2)→((decide (x4 < (e.kids.length:Int)))=true→((0:Int)≤x4∧x4 < (e.kids.length:Int))∧((0:Int)≤x4∧x4 < (e.kids.length:Int))∧(Z39 (y_2,()))∧(Zeb (y_2,()) < N)∧((ml3_8.length+([(KidOf.mk y_1.at_ y_3:Kid)]).length)*208≤140737488355328)∧((InR (x4+1))∧(N0 (Z4r e (x4+1) (ml3_8++([(KidOf.mk y_1.at_ y_3:Kid)]))))))∧((decide (x4 < (e.kids.length:Int)))=false→Q .ret (L2 [(2,.ptr (.loc 2) 0)] [(.loc 2,[ci 2,ci 0,.nils,.nils,ci 0,.nils,.nils,sU .wedit (([]:List WEdit)++e.words) (.own (.l 2 7)),sU .kid ml3_8 (.own (.l 2 8)),ci 0,.nils])]))):
  ZtB N e x4 ml3_8 N0 Q:=by
 have e_:(ZtB N e x4 ml3_8 N0 Q)=(let y_1:=(e.kids.getD x4.toNat (KidOf.mk 0 Edit.nil));let y_2:=(Yx y_1.e);let y_3:=(Yx (Zy y_2));(((decide ((x4:Int) < (e.kids.length:Int)))=true→((0:Int)≤x4∧x4 < (e.kids.length:Int))∧((0:Int)≤x4∧x4 < (e.kids.length:Int))∧(Z39 (y_2,()))∧(Zeb (y_2,()) < N)∧((ml3_8.length+([(KidOf.mk y_1.at_ y_3:Kid)]).length)*208≤140737488355328)∧((InR ((x4:Int)+1))∧(N0 (Z4r e ((x4:Int)+1) (ml3_8++([(KidOf.mk y_1.at_ y_3:Kid)]))))))∧((decide ((x4:Int) < (e.kids.length:Int)))=false→(Q .ret (L2 [(2,.ptr (.loc 2) 0)] [(.loc 2,[ci 2,ci 0,.nils,.nils,ci 0,.nils,.nils,sU .wedit (([]:List WEdit)++e.words) (.own (.l 2 7)),sU .kid ml3_8 (.own (.l 2 8)),ci 0,.nils])]))))):=by kernel_rfl
 exact e_.mpr (by intro y_1 y_2 y_3;have hh:=h y_1 rfl y_2 (Z9 _) y_3 (Z9 _);exact ⟨fun c_4=> ⟨(hh.1 c_4).1,(hh.1 c_4).2.1,(hh.1 c_4).2.2.1,(hh.1 c_4).2.2.2.1,(hh.1 c_4).2.2.2.2.1,⟨(hh.1 c_4).2.2.2.2.2.1,(hh.1 c_4).2.2.2.2.2.2⟩⟩,fun c_4=> (hh.2 c_4)⟩)
def ZAe(N:Nat)(e:Edit):Prop:=AW (Z1 (Z21 N)) Try.f32 Zen [] (Zk (ZhK.can (e,())) []) (EQ Try.f32 (ZbG (e,())) [])
abbrev ZCa:Prop:=∀ (N:Nat) (e:Edit) (_:Unit),Z39 (e,())→Zeb (e,()) < N+1→ZAe N e
def YN(N:Nat):List (FuncId × Fs U):=(32,fs ZhK (fun a=> [Z39 a,Zeb a < N]) ZbG) ::(76,fs ZhH (fun a=> [ZbN a,Zj2 a < N]) ZdD) ::[(45,Z0b),(110,Z6S),(111,Z48)]
def Z2h:Zj U:=fun i=> match i with
 | 0=> ([(0,[]),(1,[])],[])
 | 1=> ([(0,[]),(1,[]),(5,[.wr .op])],[])
 | 2=> ([(0,[]),(1,[]),(5,[.wr .op]),(6,[])],[])
 | 3=> ([(0,[]),(1,[]),(5,[.wr .op]),(6,[]),(16,[])],[])
 | 4=> ([(0,[]),(1,[]),(5,[.wr .op]),(6,[])],[])
 | 5=> ([(0,[]),(1,[]),(5,[.wr .op]),(6,[]),(7,[]),(8,[])],[])
 | 6=> ([(0,[]),(1,[]),(5,[.wr .op]),(7,[]),(8,[]),(9,[])],[])
 | 7=> ([(0,[]),(1,[]),(5,[.wr .op]),(7,[]),(8,[]),(9,[]),(33,[])],[])
 | 8=> ([(0,[]),(1,[]),(5,[.wr .op]),(8,[]),(9,[])],[])
 | 9=> ([(0,[]),(1,[]),(5,[.wr .op]),(8,[]),(9,[]),(41,[])],[])
 | 10=> ([(0,[]),(1,[]),(5,[.wr .op]),(8,[]),(9,[]),(41,[])],[])
 | 11=> ([(0,[]),(1,[]),(5,[.wr .op]),(6,[])],[])
 | 12=> ([(0,[]),(1,[]),(5,[.wr .op]),(6,[]),(51,[])],[])
 | 13=> ([(4,[])],[])
 | 14=> ([(0,[]),(1,[]),(5,[.wr .op]),(6,[]),(11,[])],[(.loc 11,[])])
 | 15=> ([(0,[]),(1,[]),(5,[.wr .op]),(6,[]),(11,[]),(64,[])],[(.loc 11,[])])
 | 16=> ([(0,[]),(1,[]),(5,[.wr .op]),(6,[]),(11,[])],[(.loc 11,[])])
 | 17=> ([(0,[]),(1,[]),(5,[.wr .op]),(6,[]),(11,[]),(75,[])],[(.loc 11,[])])
 | 18=> ([(0,[]),(1,[]),(5,[.wr .op]),(6,[]),(11,[])],[(.loc 11,[])])
 | 19=> ([(0,[]),(1,[]),(5,[.wr .op]),(6,[]),(11,[]),(12,[])],[(.loc 11,[])])
 | 20=> ([(0,[]),(1,[]),(5,[.wr .op]),(6,[]),(11,[]),(12,[]),(94,[])],[(.loc 11,[])])
 | 21=> ([(0,[]),(1,[]),(5,[.wr .op]),(6,[])],[])
 | 22=> ([(0,[]),(1,[]),(5,[.wr .op]),(6,[])],[])
 | 23=> ([(4,[])],[])
 | _=> ([],[])
def Yc(list:Int)(l:List Op)(x6:Int)(re_5_0:List Op):LSt U:=(⟨[(0,.c (ci list)),(1,.c (sU .op l .unk)),(5,.c (.mref (.e 5 0))),(6,.c (ci x6))],[],[(.e 5 0,LC.mk (U:=U) .op re_5_0 0)]⟩:LSt U)
def Z19(list:Int)(l:List Op)(x6:Int)(re_5_0_a:List Op):LSt U:=(⟨[(0,.c (ci list)),(1,.c (sU .op l .unk)),(5,.c (.mref (.e 5 0))),(8,.c (ci (x6+ZR (l.drop x6.toNat)))),(9,.c (sU .tree (YO 2 (l.drop x6.toNat)) .unk)),(41,.c (.bool (decide ((0:Int) < ((YO 2 (l.drop x6.toNat)).length:Int)))))],[],[(.e 5 0,LC.mk (U:=U) .op re_5_0_a 0)]⟩:LSt U)
abbrev W76(N:Nat)(list:Int)(l:List Op)(Q:QT):=AW (Z1 (YN N)) Try.f76 Z2h [] (L2 [(0,.c (ci list)),(1,.c (sU .op l .unk))] []) Q
abbrev Z4G(N:Nat):=awp cfg (Z1 (YN N)) (ZS cfg (Z1 (YN N))) Try.f76.ntmps Z2h
abbrev Z05(N:Nat):=ZaF cfg (Z1 (YN N)) (ZS cfg (Z1 (YN N))) Try.f76.ntmps Z2h
theorem ZCp(N:Nat)(list:Int)(l:List Op)(Q:QT)(h:Ze (AW (Z1 (YN N)) Try.f76 Z2h [1,1,0,1,0,0]) (Yc list l 0 []) (xB 0 (SW (Z1 (YN N)) Try.f76 Z2h [1,1,1] Q))):
  W76 N list l Q:=by
 have e_:(W76 N list l Q)=(Ze (Z4G N (cd Try.f76 [1,1,0,1,0,0])) (Yc list l 0 []) (xB 0 (Z05 N (cd Try.f76 [1,1,1]) Q))):=by kernel_rfl
 exact e_.mpr h
abbrev Ztz(N:Nat)(list:Int)(l:List Op)(x6:Int)(re_5_0:List Op)(N0:NT)(Q:QT):=AW (Z1 (YN N)) Try.f76 Z2h [1,1,0,1,0,0] (Yc list l x6 re_5_0) (xT N0 (xB 0 (SW (Z1 (YN N)) Try.f76 Z2h [1,1,1] Q)))
theorem ZtZ(N:Nat)(list:Int)(l:List Op)(x6:Int)(re_5_0:List Op)(N0:NT)(Q:QT)(h:∀ y_1,y_1=(Edit.mk 0 (Tree.mk 0 [] []) (Tree.mk 0 [] []) [] [] 0 [])→((decide (x6 < (l.length:Int)))=true→(Z5d (l,x6,1,()))∧((Z5d (l,x6,2,()))∧(((decide ((0:Int) < ((YO 1 (l.drop x6.toNat)).length:Int)))=true→((re_5_0.length+([(OpOf.mk 1 0 (YO 1 (l.drop x6.toNat)) y_1:Op)]).length)*240≤140737488355328)∧(((decide ((0:Int) < ((YO 2 (l.drop x6.toNat)).length:Int)))=true→(((re_5_0++([(OpOf.mk 1 0 (YO 1 (l.drop x6.toNat)) y_1:Op)])).length+([(OpOf.mk 2 0 (YO 2 (l.drop x6.toNat)) y_1:Op)]).length)*240≤140737488355328)∧(AW (Z1 (YN N)) Try.f76 Z2h [1,1,0,1,0,0,1,0,0,1,1,1,1] (Z19 list l x6 ((re_5_0++([(OpOf.mk 1 0 (YO 1 (l.drop x6.toNat)) y_1:Op)]))++([(OpOf.mk 2 0 (YO 2 (l.drop x6.toNat)) y_1:Op)]))) (xB 1 (SW (Z1 (YN N)) Try.f76 Z2h [1,1,0,1,0,0,1,1] (xT N0 (xB 0 (SW (Z1 (YN N)) Try.f76 Z2h [1,1,1] Q)))))))∧((decide ((0:Int) < ((YO 2 (l.drop x6.toNat)).length:Int)))=false→AW (Z1 (YN N)) Try.f76 Z2h [1,1,0,1,0,0,1,0,0,1,1,1,1] (Z19 list l x6 (re_5_0++([(OpOf.mk 1 0 (YO 1 (l.drop x6.toNat)) y_1:Op)]))) (xB 1 (SW (Z1 (YN N)) Try.f76 Z2h [1,1,0,1,0,0,1,1] (xT N0 (xB 0 (SW (Z1 (YN N)) Try.f76 Z2h [1,1,1] Q))))))))∧((decide ((0:Int) < ((YO 1 (l.drop x6.toNat)).length:Int)))=false→((decide ((0:Int) < ((YO 2 (l.drop x6.toNat)).length:Int)))=true→((re_5_0.length+([(OpOf.mk 2 0 (YO 2 (l.drop x6.toNat)) y_1:Op)]).length)*240≤140737488355328)∧(AW (Z1 (YN N)) Try.f76 Z2h [1,1,0,1,0,0,1,0,0,1,1,1,1] (Z19 list l x6 (re_5_0++([(OpOf.mk 2 0 (YO 2 (l.drop x6.toNat)) y_1:Op)]))) (xB 1 (SW (Z1 (YN N)) Try.f76 Z2h [1,1,0,1,0,0,1,1] (xT N0 (xB 0 (SW (Z1 (YN N)) Try.f76 Z2h [1,1,1] Q)))))))∧((decide ((0:Int) < ((YO 2 (l.drop x6.toNat)).length:Int)))=false→AW (Z1 (YN N)) Try.f76 Z2h [1,1,0,1,0,0,1,0,0,1,1,1,1] (Z19 list l x6 re_5_0) (xB 1 (SW (Z1 (YN N)) Try.f76 Z2h [1,1,0,1,0,0,1,1] (xT N0 (xB 0 (SW (Z1 (YN N)) Try.f76 Z2h [1,1,1] Q))))))))))∧((decide (x6 < (l.length:Int)))=false→Q .ret (L2 [(4,.c (sU .op re_5_0 (.own (.e 4 0))))] []))):
  Ztz N list l x6 re_5_0 N0 Q:=by
 have e_:(Ztz N list l x6 re_5_0 N0 Q)=(let y_1:=(Edit.mk 0 (Tree.mk 0 [] []) (Tree.mk 0 [] []) [] [] 0 []);let zz1:=(decide ((0:Int) < ((YO 1 (l.drop x6.toNat)).length:Int)));let zz0:=(decide ((0:Int) < ((YO 2 (l.drop x6.toNat)).length:Int)));(((decide ((x6:Int) < (l.length:Int)))=true→(Z5d (l,x6,1,()))∧((Z5d (l,x6,2,()))∧((zz1=true→((re_5_0.length+([(OpOf.mk 1 0 (YO 1 (l.drop x6.toNat)) y_1:Op)]).length)*240≤140737488355328)∧((zz0=true→(((re_5_0++([(OpOf.mk 1 0 (YO 1 (l.drop x6.toNat)) y_1:Op)])).length+([(OpOf.mk 2 0 (YO 2 (l.drop x6.toNat)) y_1:Op)]).length)*240≤140737488355328)∧(Z4G N (cd Try.f76 [1,1,0,1,0,0,1,0,0,1,1,1,1]) (Z19 list l x6 ((re_5_0++([(OpOf.mk 1 0 (YO 1 (l.drop x6.toNat)) y_1:Op)]))++([(OpOf.mk 2 0 (YO 2 (l.drop x6.toNat)) y_1:Op)]))) (xB 1 (Z05 N (cd Try.f76 [1,1,0,1,0,0,1,1]) (xT N0 (xB 0 (Z05 N (cd Try.f76 [1,1,1]) Q)))))))∧(zz0=false→Z4G N (cd Try.f76 [1,1,0,1,0,0,1,0,0,1,1,1,1]) (Z19 list l x6 (re_5_0++([(OpOf.mk 1 0 (YO 1 (l.drop x6.toNat)) y_1:Op)]))) (xB 1 (Z05 N (cd Try.f76 [1,1,0,1,0,0,1,1]) (xT N0 (xB 0 (Z05 N (cd Try.f76 [1,1,1]) Q))))))))∧(zz1=false→((zz0=true→((re_5_0.length+([(OpOf.mk 2 0 (YO 2 (l.drop x6.toNat)) y_1:Op)]).length)*240≤140737488355328)∧(Z4G N (cd Try.f76 [1,1,0,1,0,0,1,0,0,1,1,1,1]) (Z19 list l x6 (re_5_0++([(OpOf.mk 2 0 (YO 2 (l.drop x6.toNat)) y_1:Op)]))) (xB 1 (Z05 N (cd Try.f76 [1,1,0,1,0,0,1,1]) (xT N0 (xB 0 (Z05 N (cd Try.f76 [1,1,1]) Q)))))))∧(zz0=false→Z4G N (cd Try.f76 [1,1,0,1,0,0,1,0,0,1,1,1,1]) (Z19 list l x6 re_5_0) (xB 1 (Z05 N (cd Try.f76 [1,1,0,1,0,0,1,1]) (xT N0 (xB 0 (Z05 N (cd Try.f76 [1,1,1]) Q)))))))))))∧((decide ((x6:Int) < (l.length:Int)))=false→(Q .ret (L2 [(4,.c (sU .op re_5_0 (.own (.e 4 0))))] []))))):=by kernel_rfl
 exact e_.mpr (by intro y_1;have hh:=h y_1 rfl;exact ⟨fun c_5=> ⟨(hh.1 c_5).1,⟨(hh.1 c_5).2.1,⟨fun c_6=> ⟨((hh.1 c_5).2.2.1 c_6).1,⟨fun c_7=> ⟨(((hh.1 c_5).2.2.1 c_6).2.1 c_7).1,(((hh.1 c_5).2.2.1 c_6).2.1 c_7).2⟩,fun c_7=> (((hh.1 c_5).2.2.1 c_6).2.2 c_7)⟩⟩,fun c_6=> ⟨fun c_8=> ⟨(((hh.1 c_5).2.2.2 c_6).1 c_8).1,(((hh.1 c_5).2.2.2 c_6).1 c_8).2⟩,fun c_8=> (((hh.1 c_5).2.2.2 c_6).2 c_8)⟩⟩⟩⟩,fun c_5=> (hh.2 c_5)⟩)
abbrev Zlr(N:Nat)(list:Int)(l:List Op)(x6:Int)(re_5_0_a:List Op)(N0:NT)(Q:QT):=AW (Z1 (YN N)) Try.f76 Z2h [1,1,0,1,0,0,1,0,0,1,1,1,1] (Z19 list l x6 re_5_0_a) (xB 1 (SW (Z1 (YN N)) Try.f76 Z2h [1,1,0,1,0,0,1,1] (xT N0 (xB 0 (SW (Z1 (YN N)) Try.f76 Z2h [1,1,1] Q)))))
theorem Zu0(N:Nat)(list:Int)(l:List Op)(x6:Int)(re_5_0_a:List Op)(N0:NT)(Q:QT)(h:∀ y_1,y_1=(List.getD l (Int.toNat (x6+ZR (l.drop x6.toNat))) Op.nil)→∀ y_2,y_2=(Edit.mk 0 (Tree.mk 0 [] []) (Tree.mk 0 [] []) [] [] 0 [])→∀ y_3,y_3=(List.getD re_5_0_a (Int.toNat (((re_5_0_a.length:Int):Int) - 1)) Op.nil)→∀ y_4,y_4=(y_1.e)→∀ y_5,y_5=(y_3.e)→∀ y_6,y_6=(Zy y_4)→((decide (((l.length:Int):Int)≤(x6+ZR (l.drop x6.toNat))))=true→Q .ret (L2 [(4,.c (sU .op re_5_0_a (.own (.e 4 0))))] []))∧((decide (((l.length:Int):Int)≤(x6+ZR (l.drop x6.toNat))))=false→((0:Int)≤(x6+ZR (l.drop x6.toNat))∧(x6+ZR (l.drop x6.toNat)) < (l.length:Int))∧(((0:Int)≤(x6+ZR (l.drop x6.toNat))∧(x6+ZR (l.drop x6.toNat)) < (l.length:Int))∧(((y_1.kind==3)=true→((0:Int)≤(x6+ZR (l.drop x6.toNat))∧(x6+ZR (l.drop x6.toNat)) < (l.length:Int))∧(Z39 (y_4,()))∧(Zeb (y_4,()) < N)∧((Z9n (list,y_6,()))∧(((Z3I list y_6)=true→((bif ((0:Int)==0) then (decide ((0:Int) < (re_5_0_a.length:Int))) else false)=true→InR (((re_5_0_a.length:Int):Int) - 1))∧((bif ((0:Int)==0) then (decide ((0:Int) < (re_5_0_a.length:Int))) else false)=true→(0:Int)≤(((re_5_0_a.length:Int):Int) - 1)∧(((re_5_0_a.length:Int):Int) - 1) < (re_5_0_a.length:Int))∧(((bif (bif ((0:Int)==0) then (decide ((0:Int) < (re_5_0_a.length:Int))) else false) then (y_3.kind==0) else false)=true→(InR (((re_5_0_a.length:Int):Int) - 1))∧(InR (((re_5_0_a.length:Int):Int) - 1))∧((0:Int)≤(((re_5_0_a.length:Int):Int) - 1)∧(((re_5_0_a.length:Int):Int) - 1) < (re_5_0_a.length:Int))∧(InR (y_3.n+1))∧((0:Int)≤(((re_5_0_a.length:Int):Int) - 1)∧(((re_5_0_a.length:Int):Int) - 1) < (re_5_0_a.length:Int))∧((0:Nat)≤(Int.toNat (((re_5_0_a.length:Int):Int) - 1)))∧((InR (((x6+ZR (l.drop x6.toNat)):Int)+1))∧(N0 (Yc list l (((x6+ZR (l.drop x6.toNat)):Int)+1) (List.set re_5_0_a (Int.toNat (((re_5_0_a.length:Int):Int) - 1)) (OpOf.mk y_3.kind (y_3.n+1) y_3.l y_5:Op))))))∧((bif (bif ((0:Int)==0) then (decide ((0:Int) < (re_5_0_a.length:Int))) else false) then (y_3.kind==0) else false)=false→((re_5_0_a.length+([(OpOf.mk 0 1 [] y_2:Op)]).length)*240≤140737488355328)∧((InR (((x6+ZR (l.drop x6.toNat)):Int)+1))∧(N0 (Yc list l (((x6+ZR (l.drop x6.toNat)):Int)+1) (re_5_0_a++([(OpOf.mk 0 1 [] y_2:Op)]))))))))∧((Z3I list y_6)=false→((bif ((3:Int)==0) then (decide ((0:Int) < (re_5_0_a.length:Int))) else false)=true→InR (((re_5_0_a.length:Int):Int) - 1))∧((bif ((3:Int)==0) then (decide ((0:Int) < (re_5_0_a.length:Int))) else false)=true→(0:Int)≤(((re_5_0_a.length:Int):Int) - 1)∧(((re_5_0_a.length:Int):Int) - 1) < (re_5_0_a.length:Int))∧(((bif (bif ((3:Int)==0) then (decide ((0:Int) < (re_5_0_a.length:Int))) else false) then (y_3.kind==0) else false)=true→(InR (((re_5_0_a.length:Int):Int) - 1))∧(InR (((re_5_0_a.length:Int):Int) - 1))∧((0:Int)≤(((re_5_0_a.length:Int):Int) - 1)∧(((re_5_0_a.length:Int):Int) - 1) < (re_5_0_a.length:Int))∧(InR (y_3.n+0))∧((0:Int)≤(((re_5_0_a.length:Int):Int) - 1)∧(((re_5_0_a.length:Int):Int) - 1) < (re_5_0_a.length:Int))∧((0:Nat)≤(Int.toNat (((re_5_0_a.length:Int):Int) - 1)))∧((InR (((x6+ZR (l.drop x6.toNat)):Int)+1))∧(N0 (Yc list l (((x6+ZR (l.drop x6.toNat)):Int)+1) (List.set re_5_0_a (Int.toNat (((re_5_0_a.length:Int):Int) - 1)) (OpOf.mk y_3.kind (y_3.n+0) y_3.l y_5:Op))))))∧((bif (bif ((3:Int)==0) then (decide ((0:Int) < (re_5_0_a.length:Int))) else false) then (y_3.kind==0) else false)=false→((re_5_0_a.length+([(OpOf.mk 3 0 [] y_6:Op)]).length)*240≤140737488355328)∧((InR (((x6+ZR (l.drop x6.toNat)):Int)+1))∧(N0 (Yc list l (((x6+ZR (l.drop x6.toNat)):Int)+1) (re_5_0_a++([(OpOf.mk 3 0 [] y_6:Op)])))))))))))∧((y_1.kind==3)=false→((bif ((0:Int)==0) then (decide ((0:Int) < (re_5_0_a.length:Int))) else false)=true→InR (((re_5_0_a.length:Int):Int) - 1))∧((bif ((0:Int)==0) then (decide ((0:Int) < (re_5_0_a.length:Int))) else false)=true→(0:Int)≤(((re_5_0_a.length:Int):Int) - 1)∧(((re_5_0_a.length:Int):Int) - 1) < (re_5_0_a.length:Int))∧(((bif (bif ((0:Int)==0) then (decide ((0:Int) < (re_5_0_a.length:Int))) else false) then (y_3.kind==0) else false)=true→(InR (((re_5_0_a.length:Int):Int) - 1))∧(InR (((re_5_0_a.length:Int):Int) - 1))∧((0:Int)≤(((re_5_0_a.length:Int):Int) - 1)∧(((re_5_0_a.length:Int):Int) - 1) < (re_5_0_a.length:Int))∧(InR (y_3.n+y_1.n))∧((0:Int)≤(((re_5_0_a.length:Int):Int) - 1)∧(((re_5_0_a.length:Int):Int) - 1) < (re_5_0_a.length:Int))∧((0:Nat)≤(Int.toNat (((re_5_0_a.length:Int):Int) - 1)))∧((InR (((x6+ZR (l.drop x6.toNat)):Int)+1))∧(N0 (Yc list l (((x6+ZR (l.drop x6.toNat)):Int)+1) (List.set re_5_0_a (Int.toNat (((re_5_0_a.length:Int):Int) - 1)) (OpOf.mk y_3.kind (y_3.n+y_1.n) y_3.l y_5:Op))))))∧((bif (bif ((0:Int)==0) then (decide ((0:Int) < (re_5_0_a.length:Int))) else false) then (y_3.kind==0) else false)=false→((re_5_0_a.length+([(OpOf.mk 0 y_1.n [] y_2:Op)]).length)*240≤140737488355328)∧((InR (((x6+ZR (l.drop x6.toNat)):Int)+1))∧(N0 (Yc list l (((x6+ZR (l.drop x6.toNat)):Int)+1) (re_5_0_a++([(OpOf.mk 0 y_1.n [] y_2:Op)])))))))))))):
  Zlr N list l x6 re_5_0_a N0 Q:=by
 have e_:(Zlr N list l x6 re_5_0_a N0 Q)=(let y_1:=(List.getD l (Int.toNat (x6+ZR (l.drop x6.toNat))) Op.nil);let y_2:=(Edit.mk 0 (Tree.mk 0 [] []) (Tree.mk 0 [] []) [] [] 0 []);let y_3:=(List.getD re_5_0_a (Int.toNat ((re_5_0_a.length:Int) - 1)) Op.nil);let y_4:=(Yx y_1.e);let y_5:=(Yx y_3.e);let y_6:=(Yx (Zy y_4));let zz3:=(decide ((l.length:Int)≤(x6+ZR (l.drop x6.toNat))));let zz2:=(y_3.kind==0);let zz1:=(bif ((3:Int)==0) then (decide ((0:Int) < (re_5_0_a.length:Int))) else false);let zz0:=(bif ((0:Int)==0) then (decide ((0:Int) < (re_5_0_a.length:Int))) else false);((zz3=true→(Q .ret (L2 [(4,.c (sU .op re_5_0_a (.own (.e 4 0))))] [])))∧(zz3=false→((0:Int)≤(x6+ZR (l.drop x6.toNat))∧(x6+ZR (l.drop x6.toNat)) < (l.length:Int))∧(((0:Int)≤(x6+ZR (l.drop x6.toNat))∧(x6+ZR (l.drop x6.toNat)) < (l.length:Int))∧(((y_1.kind==3)=true→((0:Int)≤(x6+ZR (l.drop x6.toNat))∧(x6+ZR (l.drop x6.toNat)) < (l.length:Int))∧(Z39 (y_4,()))∧(Zeb (y_4,()) < N)∧((Z9n (list,y_6,()))∧(((Z3I list y_6)=true→((Y4 (((0:Int)==0)=true))∧(Y4 (((0:Int)==0)=true))∧(Y4 (zz0=true))∧(zz0=true→InR ((re_5_0_a.length:Int) - 1))∧(Y4 (zz0=true))∧(Y4 (zz0=true))∧(zz0=true→(0:Int)≤((re_5_0_a.length:Int) - 1)∧((re_5_0_a.length:Int) - 1) < (re_5_0_a.length:Int))∧(Y4 (zz0=true))∧(Y4 (zz0=true))∧(Y4 (zz0=true))∧(Y4 (zz0=true))∧(((bif zz0 then zz2 else false)=true→(InR ((re_5_0_a.length:Int) - 1))∧(InR ((re_5_0_a.length:Int) - 1))∧((0:Int)≤((re_5_0_a.length:Int) - 1)∧((re_5_0_a.length:Int) - 1) < (re_5_0_a.length:Int))∧(InR (y_3.n+1))∧((0:Int)≤((re_5_0_a.length:Int) - 1)∧((re_5_0_a.length:Int) - 1) < (re_5_0_a.length:Int))∧((0:Nat)≤(Int.toNat ((re_5_0_a.length:Int) - 1)))∧((InR (((x6+ZR (l.drop x6.toNat)):Int)+1))∧(N0 (Yc list l (((x6+ZR (l.drop x6.toNat)):Int)+1) (List.set re_5_0_a (Int.toNat ((re_5_0_a.length:Int) - 1)) (OpOf.mk y_3.kind (y_3.n+1) y_3.l y_5:Op))))))∧((bif zz0 then zz2 else false)=false→((re_5_0_a.length+([(OpOf.mk 0 1 [] y_2:Op)]).length)*240≤140737488355328)∧((InR (((x6+ZR (l.drop x6.toNat)):Int)+1))∧(N0 (Yc list l (((x6+ZR (l.drop x6.toNat)):Int)+1) (re_5_0_a++([(OpOf.mk 0 1 [] y_2:Op)])))))))))∧((Z3I list y_6)=false→((Y4 (((3:Int)==0)=true))∧(Y4 (((3:Int)==0)=true))∧(Y4 (zz1=true))∧(zz1=true→InR ((re_5_0_a.length:Int) - 1))∧(Y4 (zz1=true))∧(Y4 (zz1=true))∧(zz1=true→(0:Int)≤((re_5_0_a.length:Int) - 1)∧((re_5_0_a.length:Int) - 1) < (re_5_0_a.length:Int))∧(Y4 (zz1=true))∧(Y4 (zz1=true))∧(Y4 (zz1=true))∧(Y4 (zz1=true))∧(((bif zz1 then zz2 else false)=true→(InR ((re_5_0_a.length:Int) - 1))∧(InR ((re_5_0_a.length:Int) - 1))∧((0:Int)≤((re_5_0_a.length:Int) - 1)∧((re_5_0_a.length:Int) - 1) < (re_5_0_a.length:Int))∧(InR (y_3.n+0))∧((0:Int)≤((re_5_0_a.length:Int) - 1)∧((re_5_0_a.length:Int) - 1) < (re_5_0_a.length:Int))∧((0:Nat)≤(Int.toNat ((re_5_0_a.length:Int) - 1)))∧((InR (((x6+ZR (l.drop x6.toNat)):Int)+1))∧(N0 (Yc list l (((x6+ZR (l.drop x6.toNat)):Int)+1) (List.set re_5_0_a (Int.toNat ((re_5_0_a.length:Int) - 1)) (OpOf.mk y_3.kind (y_3.n+0) y_3.l y_5:Op))))))∧((bif zz1 then zz2 else false)=false→((re_5_0_a.length+([(OpOf.mk 3 0 [] y_6:Op)]).length)*240≤140737488355328)∧((InR (((x6+ZR (l.drop x6.toNat)):Int)+1))∧(N0 (Yc list l (((x6+ZR (l.drop x6.toNat)):Int)+1) (re_5_0_a++([(OpOf.mk 3 0 [] y_6:Op)]))))))))))))∧((y_1.kind==3)=false→((Y4 (((0:Int)==0)=true))∧(Y4 (((0:Int)==0)=true))∧(Y4 (zz0=true))∧(zz0=true→InR ((re_5_0_a.length:Int) - 1))∧(Y4 (zz0=true))∧(Y4 (zz0=true))∧(zz0=true→(0:Int)≤((re_5_0_a.length:Int) - 1)∧((re_5_0_a.length:Int) - 1) < (re_5_0_a.length:Int))∧(Y4 (zz0=true))∧(Y4 (zz0=true))∧(Y4 (zz0=true))∧(Y4 (zz0=true))∧(((bif zz0 then zz2 else false)=true→(InR ((re_5_0_a.length:Int) - 1))∧(InR ((re_5_0_a.length:Int) - 1))∧((0:Int)≤((re_5_0_a.length:Int) - 1)∧((re_5_0_a.length:Int) - 1) < (re_5_0_a.length:Int))∧(InR (y_3.n+y_1.n))∧((0:Int)≤((re_5_0_a.length:Int) - 1)∧((re_5_0_a.length:Int) - 1) < (re_5_0_a.length:Int))∧((0:Nat)≤(Int.toNat ((re_5_0_a.length:Int) - 1)))∧((InR (((x6+ZR (l.drop x6.toNat)):Int)+1))∧(N0 (Yc list l (((x6+ZR (l.drop x6.toNat)):Int)+1) (List.set re_5_0_a (Int.toNat ((re_5_0_a.length:Int) - 1)) (OpOf.mk y_3.kind (y_3.n+y_1.n) y_3.l y_5:Op))))))∧((bif zz0 then zz2 else false)=false→((re_5_0_a.length+([(OpOf.mk 0 y_1.n [] y_2:Op)]).length)*240≤140737488355328)∧((InR (((x6+ZR (l.drop x6.toNat)):Int)+1))∧(N0 (Yc list l (((x6+ZR (l.drop x6.toNat)):Int)+1) (re_5_0_a++([(OpOf.mk 0 y_1.n [] y_2:Op)])))))))))))))):=by kernel_rfl
 exact e_.mpr (by intro y_1 y_2 y_3 y_4 y_5 y_6;have hh:=h y_1 rfl y_2 rfl y_3 rfl y_4 (Z9 _) y_5 (Z9 _) y_6 (Z9 _);exact ⟨fun c_9=> (hh.1 c_9),fun c_9=> ⟨(hh.2 c_9).1,⟨(hh.2 c_9).2.1,⟨fun c_10=> ⟨((hh.2 c_9).2.2.1 c_10).1,((hh.2 c_9).2.2.1 c_10).2.1,((hh.2 c_9).2.2.1 c_10).2.2.1,⟨((hh.2 c_9).2.2.1 c_10).2.2.2.1,⟨fun c_11=> ⟨id,(by generalize ((0:Int)==0)=b0;revert b0;decide),id,(((hh.2 c_9).2.2.1 c_10).2.2.2.2.1 c_11).1,id,id,(((hh.2 c_9).2.2.1 c_10).2.2.2.2.1 c_11).2.1,id,id,id,(by generalize (decide ((0:Int) < (re_5_0_a.length:Int)))=b0;generalize ((0:Int)==0)=b1;revert b0 b1;decide),⟨fun c_12=> ⟨((((hh.2 c_9).2.2.1 c_10).2.2.2.2.1 c_11).2.2.1 c_12).1,((((hh.2 c_9).2.2.1 c_10).2.2.2.2.1 c_11).2.2.1 c_12).2.1,((((hh.2 c_9).2.2.1 c_10).2.2.2.2.1 c_11).2.2.1 c_12).2.2.1,((((hh.2 c_9).2.2.1 c_10).2.2.2.2.1 c_11).2.2.1 c_12).2.2.2.1,((((hh.2 c_9).2.2.1 c_10).2.2.2.2.1 c_11).2.2.1 c_12).2.2.2.2.1,((((hh.2 c_9).2.2.1 c_10).2.2.2.2.1 c_11).2.2.1 c_12).2.2.2.2.2.1,⟨((((hh.2 c_9).2.2.1 c_10).2.2.2.2.1 c_11).2.2.1 c_12).2.2.2.2.2.2.1,((((hh.2 c_9).2.2.1 c_10).2.2.2.2.1 c_11).2.2.1 c_12).2.2.2.2.2.2.2⟩⟩,fun c_12=> ⟨((((hh.2 c_9).2.2.1 c_10).2.2.2.2.1 c_11).2.2.2 c_12).1,⟨((((hh.2 c_9).2.2.1 c_10).2.2.2.2.1 c_11).2.2.2 c_12).2.1,((((hh.2 c_9).2.2.1 c_10).2.2.2.2.1 c_11).2.2.2 c_12).2.2⟩⟩⟩⟩,fun c_11=> ⟨id,(by generalize ((3:Int)==0)=b0;revert b0;decide),id,(((hh.2 c_9).2.2.1 c_10).2.2.2.2.2 c_11).1,id,id,(((hh.2 c_9).2.2.1 c_10).2.2.2.2.2 c_11).2.1,id,id,id,(by generalize (decide ((0:Int) < (re_5_0_a.length:Int)))=b0;generalize ((3:Int)==0)=b1;revert b0 b1;decide),⟨fun c_13=> ⟨((((hh.2 c_9).2.2.1 c_10).2.2.2.2.2 c_11).2.2.1 c_13).1,((((hh.2 c_9).2.2.1 c_10).2.2.2.2.2 c_11).2.2.1 c_13).2.1,((((hh.2 c_9).2.2.1 c_10).2.2.2.2.2 c_11).2.2.1 c_13).2.2.1,((((hh.2 c_9).2.2.1 c_10).2.2.2.2.2 c_11).2.2.1 c_13).2.2.2.1,((((hh.2 c_9).2.2.1 c_10).2.2.2.2.2 c_11).2.2.1 c_13).2.2.2.2.1,((((hh.2 c_9).2.2.1 c_10).2.2.2.2.2 c_11).2.2.1 c_13).2.2.2.2.2.1,⟨((((hh.2 c_9).2.2.1 c_10).2.2.2.2.2 c_11).2.2.1 c_13).2.2.2.2.2.2.1,((((hh.2 c_9).2.2.1 c_10).2.2.2.2.2 c_11).2.2.1 c_13).2.2.2.2.2.2.2⟩⟩,fun c_13=> ⟨((((hh.2 c_9).2.2.1 c_10).2.2.2.2.2 c_11).2.2.2 c_13).1,⟨((((hh.2 c_9).2.2.1 c_10).2.2.2.2.2 c_11).2.2.2 c_13).2.1,((((hh.2 c_9).2.2.1 c_10).2.2.2.2.2 c_11).2.2.2 c_13).2.2⟩⟩⟩⟩⟩⟩⟩,fun c_10=> ⟨id,(by generalize ((0:Int)==0)=b0;revert b0;decide),id,((hh.2 c_9).2.2.2 c_10).1,id,id,((hh.2 c_9).2.2.2 c_10).2.1,id,id,id,(by generalize (decide ((0:Int) < (re_5_0_a.length:Int)))=b0;generalize ((0:Int)==0)=b1;revert b0 b1;decide),⟨fun c_14=> ⟨(((hh.2 c_9).2.2.2 c_10).2.2.1 c_14).1,(((hh.2 c_9).2.2.2 c_10).2.2.1 c_14).2.1,(((hh.2 c_9).2.2.2 c_10).2.2.1 c_14).2.2.1,(((hh.2 c_9).2.2.2 c_10).2.2.1 c_14).2.2.2.1,(((hh.2 c_9).2.2.2 c_10).2.2.1 c_14).2.2.2.2.1,(((hh.2 c_9).2.2.2 c_10).2.2.1 c_14).2.2.2.2.2.1,⟨(((hh.2 c_9).2.2.2 c_10).2.2.1 c_14).2.2.2.2.2.2.1,(((hh.2 c_9).2.2.2 c_10).2.2.1 c_14).2.2.2.2.2.2.2⟩⟩,fun c_14=> ⟨(((hh.2 c_9).2.2.2 c_10).2.2.2 c_14).1,⟨(((hh.2 c_9).2.2.2 c_10).2.2.2 c_14).2.1,(((hh.2 c_9).2.2.2 c_10).2.2.2 c_14).2.2⟩⟩⟩⟩⟩⟩⟩⟩)
def ZzU(N:Nat)(list:Int)(l:List Op):Prop:=AW (Z1 (YN N)) Try.f76 Z2h [] (Zk (ZhH.can (list,l,())) []) (EQ Try.f76 (ZdD (list,l,())) [])
abbrev ZC4:Prop:=∀ (N:Nat) (list:Int) (l:List Op) (_:Unit),ZbN (list,l,())→Zj2 (list,l,()) < N+1→ZzU N list l
theorem Zp1(c45:CT 45 Z0b)(Zzj:CT 110 Z6S)(Zt4:CT 111 Z48)(ha:ZCa)(hb:ZC4):CT 32 Z5M∧CT 76 ZqJ:=
 Z1I (μA:=Zeb) (μB:=Zj2) (l:=[(45,Z0b),(110,Z6S),(111,Z48)]) Zm rfl (⟨c45,Zzj,Zt4,trivial⟩) Zen Z2h Try.func32 Try.func76 rfl rfl rfl rfl 1 2 (fun _=> rfl) (fun _=> rfl) (by decide) (by decide) (fun N ⟨e,_⟩=> ha N e ()) (fun N ⟨list,l,_⟩=> hb N list l ())
end
end
end Go.AM.Ytpjenobkibfpcaa
namespace Go.AM.Ytpjenobkibfpcaa
open Go.AM Go.Proofs
theorem Zg9:∀ (l:List Op),0≤ZR l∧(ZR l < l.length→(l.getD (ZR l).toNat Op.nil).kind≠1∧(l.getD (ZR l).toNat Op.nil).kind≠2)
 | []=> by simp [ZR]
 | o ::r=> by
  obtain ⟨h1,h2⟩:=Zg9 r
  rw [ZR]
  split
  ·rename_i hk
   refine ⟨by omega,fun h=> ?_⟩
   rw [show (1+ZR r).toNat=(ZR r).toNat+1 by omega,List.getD_cons_succ]
   exact h2 (by simp at h;omega)
  ·rename_i hk
   refine ⟨by omega,fun _=> ?_⟩
   simp only [Int.toNat_zero,List.getD_cons_zero]
   omega
theorem Znm:∀ (l:List Op),ZR l≤l.length
 | []=> by simp [ZR]
 | o ::r=> by
  have:=Znm r
  rw [ZR]
  split <;> simp <;> omega
theorem Zl6(l:List Op)(i k:Nat):(l.drop i).getD k Op.nil=l.getD (i+k) Op.nil:=by
 simp [List.getD,List.getElem?_drop]
theorem ZgF{list:Int}{o:Op}{d:Int}(h:Zc list o d=true):o.kind=0∨o.kind=1∨o.kind=2∨o.kind=3:=by
 obtain ⟨k,n,l,e⟩:=o
 show k=0∨k=1∨k=2∨k=3
 rw [Zc] at h
 split at h
 ·omega
 ·split at h
  ·cases h
  ·omega
theorem b76:ZC4:=by
 intro N list l _ hp hN
 simp only [ZbN,Zj2] at hp hN
 obtain ⟨p1,p3⟩:=hp
 have hl:=ZM l
 refine ZCp _ _ _ _ ?_
 refine Z6 (ι:=Int × List Op) (fun s=> Yc list l s.1 s.2)
  (fun s=> 0≤s.1∧s.1≤l.length∧(Z3 (Zq list (l.drop s.1.toNat) ⟨s.2,[],[]⟩)).out=(Z3 (Zq list l ⟨[],[],[]⟩)).out∧s.2.length≤3*s.1∧∀ o∈s.2,0≤o.n∧o.n≤s.1*1048576)
  (fun s=> ((l.length:Int) - s.1).toNat) (0,[]) rfl ⟨by simp,by simp,by simp,by simp,by simp⟩ ?_
 rintro ⟨i,out⟩ ⟨g1,g2,g3,g4,g6⟩
 dsimp only at g1 g2 g3 g4 g6
 have key:i < l.length→∀ F,F=(Z3 ⟨out,YO 1 (l.drop i.toNat),YO 2 (l.drop i.toNat)⟩).out→
   Zlr N list l i F (fun s2=> ∃ j:Int × List Op,s2=Yc list l j.1 j.2∧(0≤j.1∧j.1≤l.length∧(Z3 (Zq list (l.drop j.1.toNat) ⟨j.2,[],[]⟩)).out=(Z3 (Zq list l ⟨[],[],[]⟩)).out∧j.2.length≤3*j.1∧∀ o∈j.2,0≤o.n∧o.n≤j.1*1048576)∧((l.length:Int) - j.1).toNat < ((l.length:Int) - i).toNat) (Ys cfg Try.f76.ntmps Try.f76.results.toList (ZdD (list,l,())) []):=by
  intro hi F hF
  obtain ⟨q1,q2⟩:=Zg9 (l.drop i.toNat)
  have q3:=Znm (l.drop i.toNat)
  rw [List.length_drop] at q2 q3
  rw [Zl6,show i.toNat+(ZR (l.drop i.toNat)).toNat=(i+ZR (l.drop i.toNat)).toNat by omega] at q2
  rw [ZfP,List.drop_drop,show i.toNat+(ZR (l.drop i.toNat)).toNat=(i+ZR (l.drop i.toNat)).toNat by omega] at g3
  simp only [List.nil_append] at g3
  have hfl:=Z7F ⟨out,YO 1 (l.drop i.toNat),YO 2 (l.drop i.toNat)⟩
  have hfm:=Z7E ⟨out,YO 1 (l.drop i.toNat),YO 2 (l.drop i.toNat)⟩
  have hflush:Z3 ⟨out,YO 1 (l.drop i.toNat),YO 2 (l.drop i.toNat)⟩=⟨F,[],[]⟩:=by rw [hF];try rfl
  have hkeep:∀ n,ZW ⟨out,YO 1 (l.drop i.toNat),YO 2 (l.drop i.toNat)⟩ n=⟨Jj F n,[],[]⟩:=by intro n;rw [hF];try rfl
  rw [←hF] at hfl hfm
  simp only at hfl hfm
  refine Zu0 _ _ _ _ _ _ _ ?_
  rintro y1 hy1 y2 hy2 y3 hy3 y4 hy4 y5 hy5 y6 hy6
  generalize hj:i+ZR (l.drop i.toNat)=j at*
  have hy:y2=Edit.nil:=hy2
  subst hy
  have hFn:∀ o∈F,0≤o.n∧o.n≤i*1048576:=by
   intro o ho
   rcases hfm o ho with h1 | h1
   ·exact g6 o h1
   ·omega
  simp only [show ((0:Int)==0)=true from rfl,show ((3:Int)==0)=false from rfl,cond_true,cond_false]
  (simp only [vcS])
  refine ⟨fun hjl=> ?_,fun hjl=> ?_⟩
  ·rw [List.drop_of_length_le (by omega)] at g3
   simp only [Zq,hflush] at g3
   simp only [ZdD]
   rw [←g3]
   (repeat' (first | exact trivial | exact rfl | apply And.intro))
  ·have hmem:=Zg (l:=l) (i:=j.toNat) (by omega) Op.nil
   have hm:=ZL hmem
   obtain ⟨d,hr2⟩:=p3 _ hmem
   have hq:=q2 (by omega)
   rw [←hy1] at hm hr2 hq
   have hkind:=ZgF hr2
   rw [Y1 (by omega) (by omega) Op.nil,←hy1,Zq,YR] at g3
   have hmo:=ZI y1
   have hlast:(F.length:Int) - 1=((F.length - 1:Nat):Int)∨F.length=0:=by omega
   have e2:((F.length:Int) - 1).toNat=F.length - 1:=by omega
   rw [e2] at hy3 ⊢
   have hk3:0 < F.length→0≤y3.n∧y3.n≤i*1048576:=fun h=> by
    rw [hy3];exact hFn _ (Zg (by omega) _)
   have keeps:∀ n:Int,0≤n∧n≤1048576→(Z3 (Zq list (l.drop (j+1).toNat) ⟨Jj F n,[],[]⟩)).out=(Z3 (Zq list l ⟨[],[],[]⟩)).out→
     ((0 < F.length∧y3.kind=0→∃ q:Int × List Op,Yc list l (j+1) (F.set (F.length - 1) ⟨y3.kind,y3.n+n,y3.l,y5⟩)=Yc list l q.1 q.2∧(0≤q.1∧q.1≤l.length∧(Z3 (Zq list (l.drop q.1.toNat) ⟨q.2,[],[]⟩)).out=(Z3 (Zq list l ⟨[],[],[]⟩)).out∧q.2.length≤3*q.1∧∀ o∈q.2,0≤o.n∧o.n≤q.1*1048576)∧((l.length:Int) - q.1).toNat < ((l.length:Int) - i).toNat)∧
      (¬(0 < F.length∧y3.kind=0)→∃ q:Int × List Op,Yc list l (j+1) (F++[⟨0,n,[],Edit.nil⟩])=Yc list l q.1 q.2∧(0≤q.1∧q.1≤l.length∧(Z3 (Zq list (l.drop q.1.toNat) ⟨q.2,[],[]⟩)).out=(Z3 (Zq list l ⟨[],[],[]⟩)).out∧q.2.length≤3*q.1∧∀ o∈q.2,0≤o.n∧o.n≤q.1*1048576)∧((l.length:Int) - q.1).toNat < ((l.length:Int) - i).toNat)):=by
    intro n hn hg
    rw [Z6o,←hy3,←hy5] at hg
    refine ⟨fun hc=> ?_,fun hc=> ?_⟩
    ·rw [if_pos ⟨by omega,hc.2⟩] at hg
     refine ⟨(j+1,_),rfl,⟨by dsimp only;omega,by dsimp only;omega,hg,by dsimp only;rw [List.length_set];omega,fun o ho=> ?_⟩,by dsimp only;omega⟩
     dsimp only at ho ⊢
     have hk4:=hk3 (by omega)
     rcases List.mem_or_eq_of_mem_set ho with ho | rfl
     ·have:=hFn o ho;omega
     ·simp only;omega
    ·rw [if_neg (fun h=> hc ⟨by omega,h.2⟩)] at hg
     refine ⟨(j+1,_),rfl,⟨by dsimp only;omega,by dsimp only;omega,hg,by dsimp only;rw [List.length_append,List.length_singleton];omega,fun o ho=> ?_⟩,by dsimp only;omega⟩
     dsimp only at ho ⊢
     rcases List.mem_append.1 ho with ho | ho
     ·have:=hFn o ho;omega
     ·simp only [List.mem_singleton] at ho
      subst ho
      simp only;omega
   refine ⟨by omega,by omega,fun hk=> ?_,fun hk=> ?_⟩
   ·rw [if_neg (by omega),if_neg (by omega),if_neg (by omega),if_pos hk] at g3
    rw [←hy4,←hy6,hkeep,hflush] at g3
    have hre:=Z9d hr2 hk
    rw [←hy4] at hre
    have hmE:Z5 y4≤Zs y1:=by rw [hmo,hy4];omega
    refine ⟨by omega,by simp only [Z39];exact ⟨by omega,d,hre⟩,by simp only [Zeb];omega,by simp only [Z9n],fun hq=> ?_,fun hq=> ?_⟩
    ·rw [if_pos hq] at g3
     have hK:=keeps 1 (by omega) g3
     refine ⟨by unfold InR;omega,by omega,fun hc=> ?_,fun hc=> ?_⟩
     ·have hk4:=hk3 (by omega)
      exact ⟨by unfold InR;omega,by unfold InR;omega,by omega,by unfold InR;omega,by omega,by omega,by unfold InR;omega,hK.1 ⟨by omega,hc.2⟩⟩
     ·exact ⟨by simp only [List.length_singleton];omega,by unfold InR;omega,hK.2 (fun h=> by omega)⟩
    ·rw [if_neg (by rw [hq];simp)] at g3
     refine ⟨fun h=> (nomatch h),fun h=> (nomatch h),fun h=> (nomatch h),fun _=> ⟨by simp only [List.length_singleton];omega,by unfold InR;omega,(j+1,F++[⟨3,0,[],y6⟩]),rfl,⟨by dsimp only;omega,by dsimp only;omega,g3,by dsimp only;rw [List.length_append,List.length_singleton];omega,fun o ho=> ?_⟩,by dsimp only;omega⟩⟩
     dsimp only at ho ⊢
     rcases List.mem_append.1 ho with ho | ho
     ·have:=hFn o ho;omega
     ·simp only [List.mem_singleton] at ho
      subst ho
      simp only;omega
   ·have hk0:y1.kind=0:=by omega
    rw [if_pos hk0,hkeep] at g3
    have h1:=Z9c hr2 hk0
    have hK:=keeps y1.n (by omega) g3
    refine ⟨by unfold InR;omega,by omega,fun hc=> ?_,fun hc=> ?_⟩
    ·have hk4:=hk3 (by omega)
     exact ⟨by unfold InR;omega,by unfold InR;omega,by omega,by unfold InR;omega,by omega,by omega,by unfold InR;omega,hK.1 ⟨by omega,hc.2⟩⟩
    ·exact ⟨by simp only [List.length_singleton];omega,by unfold InR;omega,hK.2 (fun h=> by omega)⟩
 refine ZtZ _ _ _ _ _ _ _ ?_
 rintro y1 hy1
 have hy:y1=Edit.nil:=hy1
 subst hy
 (simp only [vcS])
 refine ⟨fun hi=> ?_,fun hi=> ?_⟩
 ·have kk:=key hi
  simp only [Z3,Z0F] at kk
  refine ⟨by simp only [Z5d];omega,by simp only [Z5d];omega,fun h1=> ⟨by simp only [List.length_singleton];omega,fun h2=> ⟨by simp only [List.length_append,List.length_singleton];omega,?_⟩,fun h2=> ?_⟩,fun h1=> ⟨fun h2=> ⟨by simp only [List.length_singleton];omega,?_⟩,fun h2=> ?_⟩⟩
  ·refine kk _ ?_
   rw [if_neg (by omega),if_neg (by omega)];simp
  ·refine kk _ ?_
   rw [if_neg (by omega),if_pos (by omega)];simp
  ·refine kk _ ?_
   rw [if_pos (by omega),if_neg (by omega)];simp
  ·refine kk _ ?_
   rw [if_pos (by omega),if_pos (by omega)];simp
 ·rw [List.drop_of_length_le (by omega)] at g3
  have:(Z3 (Zq list [] ⟨out,[],[]⟩)).out=out:=by simp [Zq,Z3,Z0F]
  rw [this] at g3
  simp only [ZdD]
  rw [←g3]
  (repeat' (first | exact trivial | exact rfl | apply And.intro))
theorem Zk7{e:Edit}{d:Int}(h:Za e d=true):(e.kind=0∨e.kind=1∨e.kind=2∨e.kind=3)∧(e.kind≠3→e.list=0):=by
 obtain ⟨k,o,n,w,ks,l,os⟩:=e
 show (k=0∨k=1∨k=2∨k=3)∧(k≠3→l=0)
 rw [Za] at h
 split at h
 ·cases h
 ·split at h
  ·cases h
  ·rename_i h1 h2
   refine ⟨by omega,fun hk=> ?_⟩
   apply Classical.byContradiction
   intro hl
   exact h2 (.inr (.inr ⟨hk,.inl hl⟩))
theorem b32:ZCa:=by
 intro N e _ hp hN
 simp only [Z39,Zeb] at hp hN
 obtain ⟨p1,d,p3⟩:=hp
 have h1:=Yg e
 have h2:=Ym e.kids
 have h3:=ZM e.ops
 have ha:=Z9w e
 obtain ⟨hkd,hli⟩:=Zk7 p3
 refine ZCJ _ _ _ ?_
 (simp only [vcS])
 (simp only [Tree.eta,Edit.eta,Tree.kind_mk,Tree.words_mk,Tree.kids_mk])
 refine ⟨fun hk=> ⟨by simp only [Jy];omega,by simp only [Jy];omega,?_⟩,fun hk=> ⟨fun hk2=> ⟨by simp;omega,?_⟩,fun hk2=> ⟨fun hk3=> ⟨?_,by simp only [Zj2];omega,?_⟩,fun hk3=> ?_⟩⟩⟩
 ·rw [if_pos hk] at ha
  simp only [ZbG,ha]
  (repeat' (first | exact trivial | exact rfl | apply And.intro))
  ·exact hk.symm
  ·exact (hli (by omega)).symm
 ·rw [if_neg hk,if_pos hk2] at ha
  refine Z6 (ι:=Int × List Kid) (fun s=> Z4r e s.1 s.2) (fun s=> 0≤s.1∧s.1≤e.kids.length∧s.2.length=s.1∧s.2++Ja (e.kids.drop s.1.toNat)=Ja e.kids) (fun s=> ((e.kids.length:Int) - s.1).toNat) (0,[]) rfl ⟨by simp,by simp,by simp,by simp⟩ ?_
  rintro ⟨j,ks⟩ ⟨f1,f2,f3,f4⟩
  dsimp only at f1 f2 f3 f4
  refine Zuk _ _ _ _ _ _ ?_
  rintro y1 hy1 y2 hy2 y3 hy3
  (simp only [vcS])
  refine ⟨fun hj=> ?_,fun hj=> ?_⟩
  ·have hmem:=Zg (l:=e.kids) (i:=j.toNat) (by omega) (KidOf.mk 0 Edit.nil)
   have hm:=YM hmem
   have hr:=Zg2 p3 hk2 _ hmem
   rw [Y1 f1 hj (KidOf.mk 0 Edit.nil)] at f4
   rw [←hy1] at f4 hm hr
   simp only [Ja,Zb4] at f4
   rw [←hy2] at f4 hm hr
   rw [←hy3] at f4
   refine ⟨⟨f1,hj⟩,⟨f1,hj⟩,by simp only [Z39];exact ⟨by omega,hr⟩,by simp only [Zeb];omega,by simp;omega,by unfold InR;omega,(j+1,ks++[⟨y1.at_,y3⟩]),rfl,⟨by dsimp only;omega,by dsimp only;omega,by simp;omega,?_⟩,by dsimp only;omega⟩
   simp only [List.append_assoc,List.cons_append,List.nil_append]
   exact f4
  ·rw [List.drop_of_length_le (by omega)] at f4
   simp only [Ja,List.append_nil] at f4
   rw [f4]
   simp only [ZbG,ha]
   (repeat' (first | exact trivial | exact rfl | apply And.intro))
   ·exact hk2.symm
   ·exact (hli (by omega)).symm
 ·simp only [ZbN]
  exact ⟨by omega,fun o ho=> ZiR p3 hk3 o ho⟩
 ·rw [if_neg hk,if_neg hk2,if_pos hk3] at ha
  simp only [ZbG,ha]
  (repeat' (first | exact trivial | exact rfl | apply And.intro))
  exact hk3.symm
 ·rw [if_neg hk,if_neg hk2,if_neg hk3] at ha
  simp only [ZbG,ha]
  (repeat' (first | exact trivial | exact rfl | apply And.intro))
  ·show 0=e.kind
   omega
  ·exact (hli hk3).symm
theorem ZsZ:Contract Try.prog cfg 32 Z5M∧Contract Try.prog cfg 76 ZqJ:=Zp1 c45 Zzj Zt4 b32 b76
end Go.AM.Ytpjenobkibfpcaa
namespace Go.AM.Ytpjenobkibfpcaa
open Go.AM Go.Proofs
noncomputable section
def Ztd:ArgL (Edit × Unit):=(.cons (aEl .edit) .nil)
def ZfJ(a:Edit × Unit):Prop:=Z5 a.1≤20000000000∧∃ d,Za a.1 d=true
def ZqV(a:Edit × Unit):V U:= .agg (enc .edit (Zy (Zv a.1)))
def Z4P:Fs U:=fs Ztd (fun a=> [ZfJ a]) ZqV
def Zsw:List (FuncId × Fs U):=[(57,Z5L),(118,Z92)]
def Zyz:Zj U:=lvl [([1,2],[1,2]),([2],[2])]
abbrev W83(e:Edit)(Q:QT):=AW (Z1 Zsw) Try.f83 Zyz [] (L2 [(0,.agg (enc .edit e))] []) Q
theorem ZCm(e:Edit)(Q:QT)(h:∀ y_1,y_1=e→∀ y_2,y_2=(Zv y_1)→(Z12 (y_1,()))∧(Z26 (y_2,()))∧(Q .ret (L2 [(2,.ptr (.loc 2) 0)] [(.loc 2,(enc .edit (Zy y_2)))]))):
  W83 e Q:=by
 have e_:(W83 e Q)=(let y_1:=(Yx e);let y_2:=(Yx (Zv y_1));((Z12 (y_1,()))∧(Z26 (y_2,()))∧(Q .ret (L2 [(2,.ptr (.loc 2) 0)] [(.loc 2,(enc .edit (Zy y_2)))])))):=by kernel_rfl
 exact e_.mpr (by intro y_1 y_2;have hh:=h y_1 (Z9 _) y_2 (Z9 _);exact ⟨hh.1,hh.2.1,hh.2.2⟩)
def ZzR(e:Edit):Prop:=AW (Z1 Zsw) Try.f83 Zyz [] (Zk (Ztd.can (e,())) []) (EQ Try.f83 (ZqV (e,())) [])
theorem Zy5(c57:CT 57 Z5L)(c118:CT 118 Z92)(hb:∀ (e:Edit) (_:Unit),ZfJ (e,())→ZzR e):CT 83 Z4P:=
 Z7 (l:=[(57,Z5L),(118,Z92)]) Zm rfl (⟨c57,c118,trivial⟩) Zyz Try.func83 rfl rfl 1 (fun _=> rfl) (by decide) (fun ⟨e,_⟩=> hb e ())
end
end Go.AM.Ytpjenobkibfpcaa
namespace Go.AM.Ytpjenobkibfpcaa
open Go.AM Go.Proofs
mutual
theorem Z5h:∀ (e:Edit),Z5 (Zv e)=Z5 e
 | .mk k o n w ks l os=> by
  have h1:=Zc4 ks
  have h2:=Zc3 os
  simp only [Zv,Z5,List.length_map,Z87,h1,h2]
  omega
theorem Zc4:∀ (ks:List (KidOf Edit)),Zt (JC ks)=Zt ks
 | []=> rfl
 | k ::r=> by
  have h1:=Zh9 k
  have h2:=Zc4 r
  simp only [JC,Zt,h1,h2]
theorem Zh9:∀ (k:KidOf Edit),YI (Z0q k)=YI k
 | ⟨a,e⟩=> by
  have h:=Z5h e
  simp only [Z0q,YI,h]
theorem Zc3:∀ (os:List (OpOf Edit)),Zh (Jb os)=Zh os
 | []=> rfl
 | o ::r=> by
  have h1:=Zja o
  have h2:=Zc3 r
  simp only [Jb,Zh,h1,h2]
theorem Zja:∀ (o:OpOf Edit),Zs (YK o)=Zs o
 | ⟨k,n,l,e⟩=> by
  have h:=Z5h e
  simp only [YK]
  split
  ·try rfl
  ·split
   ·try rfl
   ·split
    ·simp only [Zs,h]
    ·try rfl
end
theorem c83:Contract Try.prog cfg 83 Z4P:=by
 refine Zy5 ZsY.1 Zt2.1 ?_
 intro e _ hp
 simp only [ZfJ] at hp
 obtain ⟨hm,d,hr⟩:=hp
 refine ZCm _ _ ?_
 rintro y1 hy1 y2 hy2
 subst hy1
 have h1:=Z5h y1
 have h2:=Jx _ _ hr
 rw [←hy2] at h1 h2
 refine ⟨by simp only [Z12];omega,by simp only [Z26];exact ⟨by omega,d,h2⟩,?_⟩
 simp only [ZqV]
 rw [←hy2]
 (repeat' (first | exact trivial | exact rfl | apply And.intro))
end Go.AM.Ytpjenobkibfpcaa
namespace Go.AM.Ytpjenobkibfpcaa
open Go.AM Go.Proofs
noncomputable section
def Ztr:ArgL (WEdit × WEdit × Unit):=(.cons (aEl .wedit) (.cons (aEl .wedit) .nil))
def Zry(a:WEdit × WEdit × Unit):Prop:=Z2e a.1∧Z2e a.2.1
def Zmc(a:WEdit × WEdit × Unit):V U:= .tup [(true,(enc .wedit ((J5 a.1 a.2.1).1))),(false,[.bool ((J5 a.1 a.2.1).2)])]
def Zdl:Fs U:=fs Ztr (fun a=> [Zry a]) Zmc
def ZnP:ArgL (WEdit × Unit):=(.cons (aEl .wedit) .nil)
def ZaV(a:WEdit × Unit):Prop:=True
def Zrc(a:WEdit × Unit):V U:= .c (ci a.1.at_)
def Z90:Fs U:=fs ZnP (fun a=> [ZaV a]) Zrc
def ZnO:ArgL (Kid × Unit):=(.cons (aEl .kid) .nil)
def ZaU(a:Kid × Unit):Prop:=True
def Zrb(a:Kid × Unit):V U:= .c (ci a.1.at_)
def Z2b:Fs U:=fs ZnO (fun a=> [ZaU a]) Zrb
def ZnQ:ArgL (List WEdit × List WEdit × Unit × Unit × Unit):=(.cons (aSl .wedit) (.cons (aSl .wedit) (.cons (aFn 131) (.cons (aFn 24) .nil))))
def Zkp(a:List WEdit × List WEdit × Unit × Unit × Unit):Prop:=((∀ x∈a.1,Z2e x)∧(a.1).length≤1000000)∧(∀ x∈a.2.1,Z2e x)∧(a.2.1).length≤1000000
def ZgQ(a:List WEdit × List WEdit × Unit × Unit × Unit):V U:= .tup [(false,[sU .wedit (ofO (Zd WEdit.at_ J5 a.1 a.2.1)) .unk]),(false,[.bool ((Zd WEdit.at_ J5 a.1 a.2.1).isSome)])]
def Z91:Fs U:=fs ZnQ (fun a=> [Zkp a]) ZgQ
def Zta:ArgL (List WEdit × List WEdit × Unit):=(.cons (aSl .wedit) (.cons (aSl .wedit) .nil))
def Zrv(a:List WEdit × List WEdit × Unit):Prop:=((∀ x∈a.1,Z2e x)∧(a.1).length≤1000000)∧(∀ x∈a.2.1,Z2e x)∧(a.2.1).length≤1000000
def ZwM(a:List WEdit × List WEdit × Unit):V U:= .tup [(false,[sU .wedit (ofO (Zd WEdit.at_ J5 a.1 a.2.1)) .unk]),(false,[.bool ((Zd WEdit.at_ J5 a.1 a.2.1).isSome)])]
def Z4N:Fs U:=fs Zta (fun a=> [Zrv a]) ZwM
def ZsC:List (FuncId × Fs U):=[(66,Z4Q)]
def ZyI:Zj U:=lvl [([2,3,4],[2,3,4]),([2,3,4,6],[2,3,4]),([2,3,4,20],[2,3,4]),([4,5],[4]),([4,5],[4])]
abbrev A24(p:List Nat):=AW (Z1 ZsC) Try.f24 ZyI p
theorem ZCN(p q:WEdit)(Q:QT)(h:let z1:=IntKind.bits .u8;let z0:=IntKind.wrap .u8 (BitVec.ofInt z1 p.mask &&& BitVec.ofInt z1 q.mask).toNat;let z2:=((mix 0 p.new z0):Int) !=(mix 0 q.old z0);((Z60 (0,p.new,z0,()))∧(Z60 (0,q.old,z0,()))∧((z2=true→(Q .ret (L2 [(4,.ptr (.loc 4) 0),(5,.c (.bool false))] [(.loc 4,[ci 0,.int .u8 0,.int .u64 0,.int .u64 0])])))∧(z2=false→(Z60 (q.old,p.old,p.mask,()))∧(Z60 (p.new,q.new,q.mask,()))∧(Q .ret (L2 [(4,.ptr (.loc 4) 0),(5,.c (.bool true))] [(.loc 4,[ci p.at_,.int .u8 (IntKind.wrap .u8 (BitVec.ofInt z1 p.mask ||| BitVec.ofInt z1 q.mask).toNat),.int .u64 (mix q.old p.old p.mask),.int .u64 (mix p.new q.new q.mask)])])))))):
  A24 [] (L2 [(0,.agg (enc .wedit p)),(1,.agg (enc .wedit q))] []) Q:=
 Eq.mpr (by kernel_rfl) h
def ZAi(p q:WEdit):Prop:=AW (Z1 ZsC) Try.f24 ZyI [] (Zk (Ztr.can (p,q,())) []) (EQ Try.f24 (Zmc (p,q,())) [])
theorem Zyp(c66:CT 66 Z4Q)(hb:∀ (p:WEdit) (q:WEdit) (_:Unit),Zry (p,q,())→ZAi p q):CT 24 Zdl:=
 Z7 (l:=[(66,Z4Q)]) Zm rfl (⟨c66,trivial⟩) ZyI Try.func24 rfl rfl 2 (fun _=> rfl) (by decide) (fun ⟨p,q,_⟩=> hb p q ())
def Znd:List (FuncId × Fs U):=[]
def Zsf:Zj U:=lvl [([1],[1]),([2],[])]
abbrev ZDl(p:List Nat):=AW (Z1 Znd) Try.f131 Zsf p
theorem ZB7(w:WEdit)(Q:QT)(h:(Q .ret (L2 [(2,.c (ci w.at_))] []))):
  ZDl [] (L2 [(0,.agg (enc .wedit w))] []) Q:=
 Eq.mpr (by kernel_rfl) h
def Zws(w:WEdit):Prop:=AW (Z1 Znd) Try.f131 Zsf [] (Zk (ZnP.can (w,())) []) (EQ Try.f131 (Zrc (w,())) [])
theorem Zv6(hb:∀ (w:WEdit) (_:Unit),ZaV (w,())→Zws w):CT 131 Z90:=
 Z7 (l:=[]) Zm rfl trivial Zsf Try.func131 rfl rfl 1 (fun _=> rfl) (by decide) (fun ⟨w,_⟩=> hb w ())
def Znc:List (FuncId × Fs U):=[]
def Zse:Zj U:=lvl [([1],[1]),([2],[])]
abbrev ZDk(p:List Nat):=AW (Z1 Znc) Try.f133 Zse p
theorem ZB5(k:Kid)(Q:QT)(h:(Q .ret (L2 [(2,.c (ci k.at_))] []))):
  ZDk [] (L2 [(0,.agg (enc .kid k))] []) Q:=
 Eq.mpr (by kernel_rfl) h
def Zwq(k:Kid):Prop:=AW (Z1 Znc) Try.f133 Zse [] (Zk (ZnO.can (k,())) []) (EQ Try.f133 (Zrb (k,())) [])
theorem Zv5(hb:∀ (k:Kid) (_:Unit),ZaU (k,())→Zwq k):CT 133 Z2b:=
 Z7 (l:=[]) Zm rfl trivial Zse Try.func133 rfl rfl 1 (fun _=> rfl) (by decide) (fun ⟨k,_⟩=> hb k ())
def Zhp:List (FuncId × Fs U):=[(131,Z90),(24,Zdl)]
def ZmL:Zj U:=fun i=> match i with
 | 0=> ([(0,[]),(1,[]),(2,[]),(3,[])],[])
 | 1=> ([(0,[]),(1,[]),(2,[]),(3,[]),(10,[.own .wedit])],[])
 | 2=> ([(0,[]),(1,[]),(2,[]),(3,[]),(10,[]),(20,[])],[])
 | 3=> ([(0,[]),(1,[]),(2,[]),(3,[]),(10,[]),(11,[]),(12,[])],[(.loc 11,[])])
 | 4=> ([(0,[]),(1,[]),(2,[]),(3,[]),(10,[]),(11,[]),(33,[])],[(.loc 11,[])])
 | 5=> ([(8,[]),(9,[])],[])
 | 6=> ([(0,[]),(1,[]),(2,[]),(3,[]),(10,[.own .wedit])],[])
 | 7=> ([(0,[]),(1,[]),(2,[]),(3,[]),(10,[]),(42,[])],[])
 | 8=> ([(0,[]),(1,[]),(2,[]),(3,[]),(10,[.own .wedit])],[])
 | 9=> ([(0,[]),(1,[]),(2,[]),(3,[]),(10,[]),(72,[])],[])
 | 10=> ([(0,[]),(1,[]),(2,[]),(3,[]),(10,[.own .wedit])],[])
 | 11=> ([(8,[]),(9,[])],[])
 | _=> ([],[])
def Z2N(p q:List WEdit)(at_ one:Unit)(x0 x1 x10:List WEdit):LSt U:=(L2 [(0,.c (sU .wedit x0 .unk)),(1,.c (sU .wedit x1 .unk)),(2,.fn 131),(3,.fn 24),(10,.c (sU .wedit x10 (.own (.e 10 0))))] [])
abbrev ZAx(p:List Nat):=AW (Z1 Zhp) Try.f130 ZmL p
abbrev ZBY(p:List Nat):=SW (Z1 Zhp) Try.f130 ZmL p
theorem ZB8(p q:List WEdit)(at_ one:Unit)(Q:QT)(h:(Ze (ZAx [1,1,0,0,0]) (Z2N p q at_ one p q []) (xB 0 (ZBY [1,1,1] Q)))):
  ZAx [] (L2 [(0,.c (sU .wedit p .unk)),(1,.c (sU .wedit q .unk)),(2,.fn 131),(3,.fn 24)] []) Q:=
 Eq.mpr (by kernel_rfl) h
theorem Zqe(p q:List WEdit)(at_ one:Unit)(x0 x1 x10:List WEdit)(N0:NT)(Q:QT)(h:∀ y_1,y_1=(List.getD x0 (Int.toNat 0) (WEdit.mk 0 0 0 0))→∀ y_2,y_2=(List.getD x1 (Int.toNat 0) (WEdit.mk 0 0 0 0))→∀ y_3,y_3=y_1→∀ y_4,y_4=y_2→∀ y_5,y_5=((J5 y_3 y_4).1)→let z3:=((x1.length:Int):Int)==0;let z2:=decide ((0:Int) < (x0.length:Int));let z5:=bif z2 then true else (decide ((0:Int) < (x1.length:Int)));let z4:=bif z3 then true else (bif z2 then (decide (y_3.at_ < y_4.at_)) else false);let z1:=((x0.length:Int):Int)==0;let z6:=bif z1 then true else (decide (y_4.at_ < y_3.at_));let z0:=(!z3) && z2;(Tr ((!z2)=true))∧(Tr ((!z2)=true))∧(z2=false→(!z2)=true)∧((z5=true→(Tr ((!z3)=true))∧(Tr ((!z3)=true))∧(Tr ((!z3)=true))∧(Tr (z0=true))∧(z0=true→(0:Int)≤0∧0 < (x0.length:Int))∧(Tr (z0=true))∧(Tr (z0=true))∧(Tr (z0=true))∧(z0=true→ZaV (y_3,()))∧(Tr (z0=true))∧(z0=true→(0:Int)≤0∧0 < (x1.length:Int))∧(Tr (z0=true))∧(Tr (z0=true))∧(Tr (z0=true))∧(z0=true→ZaV (y_4,()))∧(Tr (z0=true))∧(Tr (z0=true))∧((!z3)=true→(True→(!z3)=true))∧((!z3)=true→(z2=true→z0=true))∧(z3=false→(!z3)=true)∧((z4=true→((0:Int)≤0∧0 < (x0.length:Int))∧((x10.length+([y_3]).length)*32≤140737488355328)∧((0:Int)≤1∧1≤(x0.length:Int))∧(N0 (Z2N p q at_ one (List.drop (Int.toNat 1) x0) x1 (x10++([y_3])))))∧(z4=false→(Tr ((!z1)=true))∧((!z1)=true→(0:Int)≤0∧0 < (x1.length:Int))∧(Tr ((!z1)=true))∧(Tr ((!z1)=true))∧(Tr ((!z1)=true))∧((!z1)=true→ZaV (y_4,()))∧(Tr ((!z1)=true))∧((!z1)=true→(0:Int)≤0∧0 < (x0.length:Int))∧(Tr ((!z1)=true))∧(Tr ((!z1)=true))∧(Tr ((!z1)=true))∧((!z1)=true→ZaV (y_3,()))∧(Tr ((!z1)=true))∧(Tr ((!z1)=true))∧(z1=false→(!z1)=true)∧((z6=true→((0:Int)≤0∧0 < (x1.length:Int))∧((x10.length+([y_4]).length)*32≤140737488355328)∧((0:Int)≤1∧1≤(x1.length:Int))∧(N0 (Z2N p q at_ one x0 (List.drop (Int.toNat 1) x1) (x10++([y_4])))))∧(z6=false→((0:Int)≤0∧0 < (x0.length:Int))∧((0:Int)≤0∧0 < (x1.length:Int))∧(Zry (y_3,y_4,()))∧(((!((J5 y_3 y_4).2))=true→(Q .ret (L2 [(8,.c (.nils)),(9,.c (.bool false))] [])))∧((!((J5 y_3 y_4).2))=false→((x10.length+([y_5]).length)*32≤140737488355328)∧((0:Int)≤1∧1≤(x0.length:Int))∧((0:Int)≤1∧1≤(x1.length:Int))∧(N0 (Z2N p q at_ one (List.drop (Int.toNat 1) x0) (List.drop (Int.toNat 1) x1) (x10++([y_5])))))))))))∧(z5=false→(Q .ret (L2 [(8,.c (sU .wedit x10 (.own (.e 8 0)))),(9,.c (.bool true))] []))))):
  ZAx [1,1,0,0,0] (Z2N p q at_ one x0 x1 x10) (xT N0 (xB 0 (ZBY [1,1,1] Q))):=
 Eq.mpr (by kernel_rfl) (h _ rfl _ rfl _ (Z1l _) _ (Z1l _) _ (Z1l _))
def Zwt(p q:List WEdit)(at_ one:Unit):Prop:=AW (Z1 Zhp) Try.f130 ZmL [] (Zk (ZnQ.can (p,q,at_,one,())) []) (EQ Try.f130 (ZgQ (p,q,at_,one,())) [])
theorem Zv7(Zzf:CT 131 Z90)(c24:CT 24 Zdl)(hb:∀ (p:List WEdit) (q:List WEdit) (at_:Unit) (one:Unit) (_:Unit),Zkp (p,q,at_,one,())→Zwt p q at_ one):CT 130 Z91:=
 Z7 (l:=[(131,Z90),(24,Zdl)]) Zm rfl (⟨Zzf,c24,trivial⟩) ZmL Try.func130 rfl rfl 4 (fun _=> rfl) (by decide) (fun ⟨p,q,at_,one,_⟩=> hb p q at_ one ())
def Zsu:List (FuncId × Fs U):=[(130,Z91)]
def Zyx:Zj U:=lvl [([0,1],[]),([4,5],[])]
abbrev A96(p:List Nat):=AW (Z1 Zsu) Try.f96 Zyx p
theorem ZCh(p q:List WEdit)(Q:QT)(h:((Zkp (p,q,(),(),()))∧(Q .ret (L2 [(4,.c (sU .wedit (ofO (Zd WEdit.at_ J5 p q)) .unk)),(5,.c (.bool ((Zd WEdit.at_ J5 p q).isSome)))] [])))):
  A96 [] (L2 [(0,.c (sU .wedit p .unk)),(1,.c (sU .wedit q .unk))] []) Q:=
 Eq.mpr (by kernel_rfl) h
def ZzM(p q:List WEdit):Prop:=AW (Z1 Zsu) Try.f96 Zyx [] (Zk (Zta.can (p,q,())) []) (EQ Try.f96 (ZwM (p,q,())) [])
theorem Zy1(Zzg:CT 130 Z91)(hb:∀ (p:List WEdit) (q:List WEdit) (_:Unit),Zrv (p,q,())→ZzM p q):CT 96 Z4N:=
 Z7 (l:=[(130,Z91)]) Zm rfl (⟨Zzg,trivial⟩) Zyx Try.func96 rfl rfl 2 (fun _=> rfl) (by decide) (fun ⟨p,q,_⟩=> hb p q ())
end
end Go.AM.Ytpjenobkibfpcaa
namespace Go.AM.Ytpjenobkibfpcaa
open Go.AM Go.Proofs
noncomputable section
def Z5s:ArgL (Edit × Edit × Unit):=(.cons (aEl .edit) (.cons (aEl .edit) .nil))
def Z5y(a:Edit × Edit × Unit):Prop:=JK a.1∧JK a.2.1
def Zf7(a:Edit × Edit × Unit):Nat:=8*(Z5 a.1+Z5 a.2.1)
def Z5Y(a:Edit × Edit × Unit):V U:= .tup [(true,(enc .edit ((Yh a.1 a.2.1).1))),(false,[.bool ((Yh a.1 a.2.1).2)])]
def ZaC:Fs U:=fs Z5s (fun a=> [Z5y a]) Z5Y
def Z5r:ArgL (List Kid × List Kid × Unit):=(.cons (aSl .kid) (.cons (aSl .kid) .nil))
def Z7W(a:List Kid × List Kid × Unit):Prop:=Zcs a.1∧Zcs a.2.1
def Zh6(a:List Kid × List Kid × Unit):Nat:=8*(Zt a.1+Zt a.2.1)+4
def Z9i(a:List Kid × List Kid × Unit):V U:= .tup [(false,[sU .kid (ofO (Zd KidOf.at_ (Jv Yh) a.1 a.2.1)) .unk]),(false,[.bool ((Zd KidOf.at_ (Jv Yh) a.1 a.2.1).isSome)])]
def ZqH:Fs U:=fs Z5r (fun a=> [Z7W a]) Z9i
def Z2t:ArgL (List Kid × List Kid × Unit × Unit × Unit):=(.cons (aSl .kid) (.cons (aSl .kid) (.cons (aFn 133) (.cons (aFn 134) .nil))))
def Z3X(a:List Kid × List Kid × Unit × Unit × Unit):Prop:=Zcs a.1∧Zcs a.2.1
def Z9C(a:List Kid × List Kid × Unit × Unit × Unit):Nat:=8*(Zt a.1+Zt a.2.1)+3
def Z34(a:List Kid × List Kid × Unit × Unit × Unit):V U:= .tup [(false,[sU .kid (ofO (Zd KidOf.at_ (Jv Yh) a.1 a.2.1)) .unk]),(false,[.bool ((Zd KidOf.at_ (Jv Yh) a.1 a.2.1).isSome)])]
def ZlR:Fs U:=fs Z2t (fun a=> [Z3X a]) Z34
def Z2s:ArgL (Kid × Kid × Unit):=(.cons (aEl .kid) (.cons (aEl .kid) .nil))
def Z3W(a:Kid × Kid × Unit):Prop:=ZsI a.1∧ZsI a.2.1
def Z9B(a:Kid × Kid × Unit):Nat:=8*(YI a.1+YI a.2.1)+1
def Z3T(a:Kid × Kid × Unit):V U:= .tup [(true,(enc .kid ((Jv Yh a.1 a.2.1).1))),(false,[.bool ((Jv Yh a.1 a.2.1).2)])]
def ZlQ:Fs U:=fs Z2s (fun a=> [Z3W a]) Z3T
def Z5q:ArgL (List Op × List Op × Unit):=(.cons (aSl .op) (.cons (aSl .op) .nil))
def Z7V(a:List Op × List Op × Unit):Prop:=Zoy a.1∧Zoy a.2.1
def Zh5(a:List Op × List Op × Unit):Nat:=8*(Zh a.1+Zh a.2.1)+40
def Z5x(a:List Op × List Op × Unit):V U:= .tup [(false,[sU .op (ofO (Z04 Yh a.1 a.2.1)) .unk]),(false,[.bool ((Z04 Yh a.1 a.2.1).isSome)])]
def ZqG:Fs U:=fs Z5q (fun a=> [Z7V a]) Z5x
def Z2r:ArgL (Piece × Unit):=(.cons (aEl .piece) .nil)
def Z3V(a:Piece × Unit):Prop:=PcOk a.1
def Z9A(a:Piece × Unit):Nat:=8*(Zs a.1.p+Zs a.1.q)+1
def Z33(a:Piece × Unit):V U:= .tup [(true,(enc .op ((ZF Yh a.1).op))),(false,[.bool ((ZF Yh a.1).is)]),(false,[.bool ((ZF Yh a.1).ok)])]
def ZlP:Fs U:=fs Z2r (fun a=> [Z3V a]) Z33
def Z5i(N:Nat):List (FuncId × Fs U):=(60,fs Z5s (fun a=> [Z5y a,Zf7 a < N]) Z5Y) ::(97,fs Z5r (fun a=> [Z7W a,Zh6 a < N]) Z9i) ::(132,fs Z2t (fun a=> [Z3X a,Z9C a < N]) Z34) ::(134,fs Z2s (fun a=> [Z3W a,Z9B a < N]) Z3T) ::(98,fs Z5q (fun a=> [Z7V a,Zh5 a < N]) Z5x) ::(136,fs Z2r (fun a=> [Z3V a,Z9A a < N]) Z33) ::[(26,Z4T),(83,Z4P),(106,Jl),(96,Z4N),(133,Z2b),(135,Z2a)]
def ZyF:Zj U:=lvl [([2,3,4],[2,3,4]),([2,3,4,15],[2,3,4]),([4,5],[4]),([2,3,4,20],[2,3,4]),([4,5],[4]),([2,3,4,25],[2,3,4]),([2,4,6,7],[2,4,6]),([4,5],[4]),([2,3,4,41],[2,3,4]),([3,4,8,9],[3,4,8]),([4,5],[4]),([2,3,4,58],[2,3,4]),([4,5],[4]),([2,3,4,72],[2,3,4]),([2,3,4,10,11],[2,3,4]),([2,3,4,10,85],[2,3,4]),([4,5],[4]),([4,10,11,12],[4]),([4,5],[4]),([2,4,13,14],[2,4]),([4,5],[4])]
abbrev A60(N:Nat)(p:List Nat):=AW (Z1 (Z5i N)) Try.f60 ZyF p
theorem ZCC(N:Nat)(p q:Edit)(Q:QT)(h:∀ y_1,y_1=p→∀ y_2,y_2=q→∀ y_3,y_3=(p.new)→∀ y_4,y_4=(q.old)→∀ y_5,y_5=(Zy (Zv y_1))→let z3:=Zd KidOf.at_ (Jv Yh) p.kids q.kids;let z2:=Zd WEdit.at_ J5 p.words q.words;let z1:=Q .ret (L2 [(4,.ptr (.loc 4) 0),(5,.c (.bool false))] [(.loc 4,zc1)]);let z0:=p.kind !=q.kind;let z4:=bif z0 then true else (p.list !=q.list);(((p.kind==0)=true→(Q .ret (L2 [(4,.ptr (.loc 4) 0),(5,.c (.bool true))] [(.loc 4,(enc .edit q))])))∧((p.kind==0)=false→(((q.kind==0)=true→(Q .ret (L2 [(4,.ptr (.loc 4) 0),(5,.c (.bool true))] [(.loc 4,(enc .edit p))])))∧((q.kind==0)=false→(((p.kind==1)=true→(ZbO (y_2,y_3,()))∧(Q .ret (L2 [(4,.ptr (.loc 4) 0),(5,.c (.bool ((doE false y_2 y_3).isSome)))] [(.loc 4,([ci 1]++enc .tree p.old++enc .tree (YG ((doE false y_2 y_3).map Z4))++[.nils,.nils,ci 0,.nils]))])))∧((p.kind==1)=false→(((q.kind==1)=true→(ZfJ (y_1,()))∧(ZbO (y_5,y_4,()))∧(Q .ret (L2 [(4,.ptr (.loc 4) 0),(5,.c (.bool ((doE false y_5 y_4).isSome)))] [(.loc 4,([ci 1]++enc .tree (YG ((doE false y_5 y_4).map Z4))++enc .tree q.new++[.nils,.nils,ci 0,.nils]))])))∧((q.kind==1)=false→(Tr ((!z0)=true))∧(Tr ((!z0)=true))∧(Tr ((!z0)=true))∧(Tr ((!z0)=true))∧(z0=false→(!z0)=true)∧((z4=true→z1)∧(z4=false→(((p.kind==2)=true→(Zrv (p.words,q.words,()))∧(((!(z2.isSome))=true→z1)∧((!(z2.isSome))=false→(Z7W (p.kids,q.kids,()))∧(Zh6 (p.kids,q.kids,()) < N)∧(Q .ret (L2 [(4,.ptr (.loc 4) 0),(5,.c (.bool (z3.isSome)))] [(.loc 4,[ci 2,ci 0,.nils,.nils,ci 0,.nils,.nils,sU .wedit (ofO z2) .unk,sU .kid (ofO z3) .unk,ci 0,.nils])])))))∧((p.kind==2)=false→(Z7V (p.ops,q.ops,()))∧(Zh5 (p.ops,q.ops,()) < N)∧(Q .ret (L2 [(4,.ptr (.loc 4) 0),(5,.c (.bool ((Z04 Yh p.ops q.ops).isSome)))] [(.loc 4,[ci 3,ci 0,.nils,.nils,ci 0,.nils,.nils,.nils,.nils,ci p.list,sU .op (ofO (Z04 Yh p.ops q.ops)) .unk])]))))))))))))))):
  A60 N [] (L2 [(0,.agg (enc .edit p)),(1,.agg (enc .edit q))] []) Q:=
 Eq.mpr (by kernel_rfl) (h _ (Z9 _) _ (Z9 _) _ (Zb _) _ (Zb _) _ (Z9 _))
def ZA7(N:Nat)(p q:Edit):Prop:=AW (Z1 (Z5i N)) Try.f60 ZyF [] (Zk (Z5s.can (p,q,())) []) (EQ Try.f60 (Z5Y (p,q,())) [])
abbrev ZC8:Prop:=∀ (N:Nat) (p:Edit) (q:Edit) (_:Unit),Z5y (p,q,())→Zf7 (p,q,()) < N+1→ZA7 N p q
def Zst(N:Nat):List (FuncId × Fs U):=(60,fs Z5s (fun a=> [Z5y a,Zf7 a < N]) Z5Y) ::(97,fs Z5r (fun a=> [Z7W a,Zh6 a < N]) Z9i) ::(132,fs Z2t (fun a=> [Z3X a,Z9C a < N]) Z34) ::(134,fs Z2s (fun a=> [Z3W a,Z9B a < N]) Z3T) ::(98,fs Z5q (fun a=> [Z7V a,Zh5 a < N]) Z5x) ::(136,fs Z2r (fun a=> [Z3V a,Z9A a < N]) Z33) ::[(26,Z4T),(83,Z4P),(106,Jl),(96,Z4N),(133,Z2b),(135,Z2a)]
def Zyw:Zj U:=lvl [([0,1],[]),([4,5],[])]
abbrev A97(N:Nat)(p:List Nat):=AW (Z1 (Zst N)) Try.f97 Zyw p
theorem ZCg(N:Nat)(p q:List Kid)(Q:QT)(h:let z0:=Zd KidOf.at_ (Jv Yh) p q;((Z3X (p,q,(),(),()))∧(Z9C (p,q,(),(),()) < N)∧(Q .ret (L2 [(4,.c (sU .kid (ofO z0) .unk)),(5,.c (.bool (z0.isSome)))] [])))):
  A97 N [] (L2 [(0,.c (sU .kid p .unk)),(1,.c (sU .kid q .unk))] []) Q:=
 Eq.mpr (by kernel_rfl) h
def ZzL(N:Nat)(p q:List Kid):Prop:=AW (Z1 (Zst N)) Try.f97 Zyw [] (Zk (Z5r.can (p,q,())) []) (EQ Try.f97 (Z9i (p,q,())) [])
abbrev ZC2:Prop:=∀ (N:Nat) (p:List Kid) (q:List Kid) (_:Unit),Z7W (p,q,())→Zh6 (p,q,()) < N+1→ZzL N p q
def Zho(N:Nat):List (FuncId × Fs U):=(60,fs Z5s (fun a=> [Z5y a,Zf7 a < N]) Z5Y) ::(97,fs Z5r (fun a=> [Z7W a,Zh6 a < N]) Z9i) ::(132,fs Z2t (fun a=> [Z3X a,Z9C a < N]) Z34) ::(134,fs Z2s (fun a=> [Z3W a,Z9B a < N]) Z3T) ::(98,fs Z5q (fun a=> [Z7V a,Zh5 a < N]) Z5x) ::(136,fs Z2r (fun a=> [Z3V a,Z9A a < N]) Z33) ::[(26,Z4T),(83,Z4P),(106,Jl),(96,Z4N),(133,Z2b),(135,Z2a)]
def ZmK:Zj U:=fun i=> match i with
 | 0=> ([(0,[]),(1,[]),(2,[]),(3,[])],[])
 | 1=> ([(0,[]),(1,[]),(2,[]),(3,[]),(10,[.own .kid])],[])
 | 2=> ([(0,[]),(1,[]),(2,[]),(3,[]),(10,[]),(20,[])],[])
 | 3=> ([(0,[]),(1,[]),(2,[]),(3,[]),(10,[]),(11,[]),(12,[])],[(.loc 11,[])])
 | 4=> ([(0,[]),(1,[]),(2,[]),(3,[]),(10,[]),(11,[]),(33,[])],[(.loc 11,[])])
 | 5=> ([(8,[]),(9,[])],[])
 | 6=> ([(0,[]),(1,[]),(2,[]),(3,[]),(10,[.own .kid])],[])
 | 7=> ([(0,[]),(1,[]),(2,[]),(3,[]),(10,[]),(42,[])],[])
 | 8=> ([(0,[]),(1,[]),(2,[]),(3,[]),(10,[.own .kid])],[])
 | 9=> ([(0,[]),(1,[]),(2,[]),(3,[]),(10,[]),(72,[])],[])
 | 10=> ([(0,[]),(1,[]),(2,[]),(3,[]),(10,[.own .kid])],[])
 | 11=> ([(8,[]),(9,[])],[])
 | _=> ([],[])
def Z2M(p q:List Kid)(at_ one:Unit)(x0 x1 x10:List Kid):LSt U:=(L2 [(0,.c (sU .kid x0 .unk)),(1,.c (sU .kid x1 .unk)),(2,.fn 133),(3,.fn 134),(10,.c (sU .kid x10 (.own (.e 10 0))))] [])
abbrev ZAw(N:Nat)(p:List Nat):=AW (Z1 (Zho N)) Try.f132 ZmK p
abbrev ZBX(N:Nat)(p:List Nat):=SW (Z1 (Zho N)) Try.f132 ZmK p
theorem ZB6(N:Nat)(p q:List Kid)(at_ one:Unit)(Q:QT)(h:(Ze (ZAw N [1,1,0,0,0]) (Z2M p q at_ one p q []) (xB 0 (ZBX N [1,1,1] Q)))):
  ZAw N [] (L2 [(0,.c (sU .kid p .unk)),(1,.c (sU .kid q .unk)),(2,.fn 133),(3,.fn 134)] []) Q:=
 Eq.mpr (by kernel_rfl) h
theorem Zqd(N:Nat)(p q:List Kid)(at_ one:Unit)(x0 x1 x10:List Kid)(N0:NT)(Q:QT)(h:∀ y_1,y_1=(List.getD x0 (Int.toNat 0) (KidOf.mk 0 Edit.nil))→∀ y_2,y_2=(List.getD x1 (Int.toNat 0) (KidOf.mk 0 Edit.nil))→∀ y_3,y_3=y_1→∀ y_4,y_4=y_2→∀ y_5,y_5=((Jv Yh y_3 y_4).1)→let z3:=((x1.length:Int):Int)==0;let z2:=decide ((0:Int) < (x0.length:Int));let z5:=bif z2 then true else (decide ((0:Int) < (x1.length:Int)));let z4:=bif z3 then true else (bif z2 then (decide (y_3.at_ < y_4.at_)) else false);let z1:=((x0.length:Int):Int)==0;let z6:=bif z1 then true else (decide (y_4.at_ < y_3.at_));let z0:=(!z3) && z2;(Tr ((!z2)=true))∧(Tr ((!z2)=true))∧(z2=false→(!z2)=true)∧((z5=true→(Tr ((!z3)=true))∧(Tr ((!z3)=true))∧(Tr ((!z3)=true))∧(Tr (z0=true))∧(z0=true→(0:Int)≤0∧0 < (x0.length:Int))∧(Tr (z0=true))∧(Tr (z0=true))∧(Tr (z0=true))∧(z0=true→ZaU (y_3,()))∧(Tr (z0=true))∧(z0=true→(0:Int)≤0∧0 < (x1.length:Int))∧(Tr (z0=true))∧(Tr (z0=true))∧(Tr (z0=true))∧(z0=true→ZaU (y_4,()))∧(Tr (z0=true))∧(Tr (z0=true))∧((!z3)=true→(True→(!z3)=true))∧((!z3)=true→(z2=true→z0=true))∧(z3=false→(!z3)=true)∧((z4=true→((0:Int)≤0∧0 < (x0.length:Int))∧((x10.length+([y_3]).length)*208≤140737488355328)∧((0:Int)≤1∧1≤(x0.length:Int))∧(N0 (Z2M p q at_ one (List.drop (Int.toNat 1) x0) x1 (x10++([y_3])))))∧(z4=false→(Tr ((!z1)=true))∧((!z1)=true→(0:Int)≤0∧0 < (x1.length:Int))∧(Tr ((!z1)=true))∧(Tr ((!z1)=true))∧(Tr ((!z1)=true))∧((!z1)=true→ZaU (y_4,()))∧(Tr ((!z1)=true))∧((!z1)=true→(0:Int)≤0∧0 < (x0.length:Int))∧(Tr ((!z1)=true))∧(Tr ((!z1)=true))∧(Tr ((!z1)=true))∧((!z1)=true→ZaU (y_3,()))∧(Tr ((!z1)=true))∧(Tr ((!z1)=true))∧(z1=false→(!z1)=true)∧((z6=true→((0:Int)≤0∧0 < (x1.length:Int))∧((x10.length+([y_4]).length)*208≤140737488355328)∧((0:Int)≤1∧1≤(x1.length:Int))∧(N0 (Z2M p q at_ one x0 (List.drop (Int.toNat 1) x1) (x10++([y_4])))))∧(z6=false→((0:Int)≤0∧0 < (x0.length:Int))∧((0:Int)≤0∧0 < (x1.length:Int))∧(Z3W (y_3,y_4,()))∧(Z9B (y_3,y_4,()) < N)∧(((!((Jv Yh y_3 y_4).2))=true→(Q .ret (L2 [(8,.c (.nils)),(9,.c (.bool false))] [])))∧((!((Jv Yh y_3 y_4).2))=false→((x10.length+([y_5]).length)*208≤140737488355328)∧((0:Int)≤1∧1≤(x0.length:Int))∧((0:Int)≤1∧1≤(x1.length:Int))∧(N0 (Z2M p q at_ one (List.drop (Int.toNat 1) x0) (List.drop (Int.toNat 1) x1) (x10++([y_5])))))))))))∧(z5=false→(Q .ret (L2 [(8,.c (sU .kid x10 (.own (.e 8 0)))),(9,.c (.bool true))] []))))):
  ZAw N [1,1,0,0,0] (Z2M p q at_ one x0 x1 x10) (xT N0 (xB 0 (ZBX N [1,1,1] Q))):=
 Eq.mpr (by kernel_rfl) (h _ rfl _ rfl _ (ZdN _) _ (ZdN _) _ (ZdN _))
def Zwr(N:Nat)(p q:List Kid)(at_ one:Unit):Prop:=AW (Z1 (Zho N)) Try.f132 ZmK [] (Zk (Z2t.can (p,q,at_,one,())) []) (EQ Try.f132 (Z34 (p,q,at_,one,())) [])
abbrev Zxv:Prop:=∀ (N:Nat) (p:List Kid) (q:List Kid) (at_:Unit) (one:Unit) (_:Unit),Z3X (p,q,at_,one,())→Z9C (p,q,at_,one,()) < N+1→Zwr N p q at_ one
def Znb(N:Nat):List (FuncId × Fs U):=(60,fs Z5s (fun a=> [Z5y a,Zf7 a < N]) Z5Y) ::(97,fs Z5r (fun a=> [Z7W a,Zh6 a < N]) Z9i) ::(132,fs Z2t (fun a=> [Z3X a,Z9C a < N]) Z34) ::(134,fs Z2s (fun a=> [Z3W a,Z9B a < N]) Z3T) ::(98,fs Z5q (fun a=> [Z7V a,Zh5 a < N]) Z5x) ::(136,fs Z2r (fun a=> [Z3V a,Z9A a < N]) Z33) ::[(26,Z4T),(83,Z4P),(106,Jl),(96,Z4N),(133,Z2b),(135,Z2a)]
def Zsd:Zj U:=lvl [([2,3,4],[2,3,4]),([2,4,6,7],[2,4,6]),([4,5],[4])]
abbrev ZDj(N:Nat)(p:List Nat):=AW (Z1 (Znb N)) Try.f134 Zsd p
theorem ZB4(N:Nat)(a b:Kid)(Q:QT)(h:∀ y_1,y_1=(a.e)→∀ y_2,y_2=(b.e)→((Z5y (y_1,y_2,()))∧(Zf7 (y_1,y_2,()) < N)∧(Q .ret (L2 [(4,.ptr (.loc 4) 0),(5,.c (.bool ((Yh y_1 y_2).2)))] [(.loc 4,([ci a.at_]++enc .edit ((Yh y_1 y_2).1)))])))):
  ZDj N [] (L2 [(0,.agg (enc .kid a)),(1,.agg (enc .kid b))] []) Q:=
 Eq.mpr (by kernel_rfl) (h _ (Z9 _) _ (Z9 _))
def Zwp(N:Nat)(a b:Kid):Prop:=AW (Z1 (Znb N)) Try.f134 Zsd [] (Zk (Z2s.can (a,b,())) []) (EQ Try.f134 (Z3T (a,b,())) [])
abbrev Zxu:Prop:=∀ (N:Nat) (a:Kid) (b:Kid) (_:Unit),Z3W (a,b,())→Z9B (a,b,()) < N+1→Zwp N a b
def ZkJ(N:Nat):List (FuncId × Fs U):=(60,fs Z5s (fun a=> [Z5y a,Zf7 a < N]) Z5Y) ::(97,fs Z5r (fun a=> [Z7W a,Zh6 a < N]) Z9i) ::(132,fs Z2t (fun a=> [Z3X a,Z9C a < N]) Z34) ::(134,fs Z2s (fun a=> [Z3W a,Z9B a < N]) Z3T) ::(98,fs Z5q (fun a=> [Z7V a,Zh5 a < N]) Z5x) ::(136,fs Z2r (fun a=> [Z3V a,Z9A a < N]) Z33) ::[(26,Z4T),(83,Z4P),(106,Jl),(96,Z4N),(133,Z2b),(135,Z2a)]
def Zvj:Zj U:=fun i=> match i with
 | 0=> ([(0,[]),(1,[])],[])
 | 1=> ([(6,[]),(7,[])],[])
 | 2=> ([(6,[]),(21,[])],[])
 | 3=> ([(4,[]),(5,[])],[])
 | 4=> ([(6,[]),(8,[])],[])
 | 5=> ([(8,[.own .op]),(22,[]),(23,[]),(24,[])],[])
 | 6=> ([(8,[]),(22,[]),(23,[]),(24,[]),(25,[])],[])
 | 7=> ([(8,[]),(10,[]),(22,[]),(23,[]),(24,[])],[(.loc 10,[])])
 | 8=> ([(8,[]),(11,[]),(12,[]),(13,[]),(22,[]),(23,[]),(24,[])],[(.loc 11,[])])
 | 9=> ([(8,[]),(11,[]),(12,[]),(22,[]),(23,[]),(24,[]),(35,[])],[(.loc 11,[])])
 | 10=> ([(4,[]),(5,[])],[])
 | 11=> ([(8,[]),(11,[]),(22,[]),(23,[]),(24,[]),(36,[])],[(.loc 11,[])])
 | 12=> ([(8,[]),(22,[]),(23,[]),(24,[])],[])
 | 13=> ([(8,[.own .op]),(22,[]),(23,[]),(24,[])],[])
 | 14=> ([(4,[]),(5,[])],[])
 | _=> ([],[])
def Z6q(p q:List Op)(x24:Int)(x8:List Op):LSt U:=(L2 [(8,.c (sU .op x8 (.own (.e 8 0)))),(22,.c (sU .piece ((ZP 1 2 p q []).1) .unk)),(23,.c (ci (((ZP 1 2 p q []).1).length:Int))),(24,.c (ci x24))] [])
abbrev A98(N:Nat)(p:List Nat):=AW (Z1 (ZkJ N)) Try.f98 Zvj p
abbrev S98(N:Nat)(p:List Nat):=SW (Z1 (ZkJ N)) Try.f98 Zvj p
theorem ZCf(N:Nat)(p q:List Op)(Q:QT)(h:((Zko (p,q,()))∧(((!((ZP 1 2 p q []).2.1))=true→(Q .ret (L2 [(4,.c (.nils)),(5,.c (.bool false))] [])))∧((!((ZP 1 2 p q []).2.1))=false→(Ze (A98 N [1,1,1,1,0,1,0,0]) (Z6q p q 0 []) (xB 0 (S98 N [1,1,1,1,1] Q))))))):
  A98 N [] (L2 [(0,.c (sU .op p .unk)),(1,.c (sU .op q .unk))] []) Q:=
 Eq.mpr (by kernel_rfl) h
theorem ZtQ(N:Nat)(p q:List Op)(x24:Int)(x8:List Op)(N0:NT)(Q:QT)(h:∀ y_1,y_1=(List.getD ((ZP 1 2 p q []).1) x24.toNat (Piece.mk 0 Op.nil Op.nil))→∀ y_2,y_2=y_1→∀ y_3,y_3=((ZF Yh y_2).op)→let z0:=decide (x24 < (((ZP 1 2 p q []).1).length:Int));((z0=true→((0:Int)≤x24∧x24 < (((ZP 1 2 p q []).1).length:Int))∧((Z3V (y_2,()))∧(Z9A (y_2,()) < N)∧(((!((ZF Yh y_2).ok))=true→(Q .ret (L2 [(4,.c (.nils)),(5,.c (.bool false))] [])))∧((!((ZF Yh y_2).ok))=false→((((ZF Yh y_2).is)=true→((x8.length+([y_3]).length)*240≤140737488355328)∧((InR (x24+1))∧(N0 (Z6q p q (x24+1) (x8++([y_3]))))))∧(((ZF Yh y_2).is)=false→(InR (x24+1))∧(N0 (Z6q p q (x24+1) x8))))))))∧(z0=false→(Q .ret (L2 [(4,.c (sU .op x8 (.own (.e 4 0)))),(5,.c (.bool true))] []))))):
  A98 N [1,1,1,1,0,1,0,0] (Z6q p q x24 x8) (xT N0 (xB 0 (S98 N [1,1,1,1,1] Q))):=
 Eq.mpr (by kernel_rfl) (h _ rfl _ (Zkk _) _ (J6 _))
def ZzK(N:Nat)(p q:List Op):Prop:=AW (Z1 (ZkJ N)) Try.f98 Zvj [] (Zk (Z5q.can (p,q,())) []) (EQ Try.f98 (Z5x (p,q,())) [])
abbrev ZC1:Prop:=∀ (N:Nat) (p:List Op) (q:List Op) (_:Unit),Z7V (p,q,())→Zh5 (p,q,()) < N+1→ZzK N p q
def Zhn(N:Nat):List (FuncId × Fs U):=(60,fs Z5s (fun a=> [Z5y a,Zf7 a < N]) Z5Y) ::(97,fs Z5r (fun a=> [Z7W a,Zh6 a < N]) Z9i) ::(132,fs Z2t (fun a=> [Z3X a,Z9C a < N]) Z34) ::(134,fs Z2s (fun a=> [Z3W a,Z9B a < N]) Z3T) ::(98,fs Z5q (fun a=> [Z7V a,Zh5 a < N]) Z5x) ::(136,fs Z2r (fun a=> [Z3V a,Z9A a < N]) Z33) ::[(26,Z4T),(83,Z4P),(106,Jl),(96,Z4N),(133,Z2b),(135,Z2a)]
def ZmJ:Zj U:=lvl [([1,2],[1,2]),([1,2,13],[1,2]),([2,3,4],[2]),([1,2,30],[1,2]),([2,3,4],[2]),([1,2,42],[1,2]),([1,2,55,56,57],[1,2]),([1,2,55,56,57,58],[1,2]),([1,2,5,6,55,56,57],[1,2,6]),([1,2,55,56,57,70],[1,2]),([2,3,4],[2]),([1,2,55,56,57],[1,2]),([2,3,4],[2]),([1,2,74],[1,2]),([2,7,8],[2,7]),([2,3,4],[2]),([1,2,95],[1,2]),([2,9,10],[2,9]),([2,3,4],[2]),([2,11,12],[2,11]),([2,3,4],[2])]
def Z7u(x:Piece)(x57:Int):LSt U:=(L2 [(1,.ptr (.loc 1) 0),(2,.ptr (.loc 2) 0),(55,.c (sU .tree x.p.l .unk)),(56,.c (ci (x.p.l.length:Int))),(57,.c (ci x57))] [(.loc 1,(enc .piece x)),(.loc 2,zc2)])
abbrev ZAv(N:Nat)(p:List Nat):=AW (Z1 (Zhn N)) Try.f136 ZmJ p
abbrev ZvV(N:Nat)(p:List Nat):=SW (Z1 (Zhn N)) Try.f136 ZmJ p
theorem ZB2(N:Nat)(x:Piece)(Q:QT)(h:∀ y_1,y_1=(x.p.e)→∀ y_2,y_2=(x.q.e)→∀ y_3,y_3=(List.getD x.p.l (Int.toNat 0) Tree.nil)→∀ y_4,y_4=(List.getD x.q.l (Int.toNat 0) Tree.nil)→∀ y_5,y_5=y_3→∀ y_6,y_6=y_4→∀ y_7,y_7=(Zy (Zv y_1))→∀ y_8,y_8=(YG ((doE false y_2 y_5).map Z4))→∀ y_9,y_9=(YG ((doE false y_7 y_6).map Z4))→let z3:=bif (x.of==2) then true else (x.p.kind==0);let z2:=bif (x.p.kind==2) then (x.q.kind==1) else false;let z1:=bif (x.of==1) then true else (bif (x.of==0) then (x.q.kind==0) else false);let z0:=(!(x.of==1)) && (x.of==0);((Tr ((!(x.of==1))=true))∧(Tr ((!(x.of==1))=true))∧(Tr ((!(x.of==1))=true))∧(Tr (z0=true))∧(Tr (z0=true))∧(Tr (z0=true))∧((!(x.of==1))=true→(True→(!(x.of==1))=true))∧((!(x.of==1))=true→((x.of==0)=true→z0=true))∧((x.of==1)=false→(!(x.of==1))=true)∧((z1=true→(Q .ret (L2 [(2,.ptr (.loc 2) 0),(3,.c (.bool true)),(4,.c (.bool true))] [(.loc 2,(enc .op x.p))])))∧(z1=false→(Tr ((!(x.of==2))=true))∧(Tr ((!(x.of==2))=true))∧(Tr ((!(x.of==2))=true))∧((x.of==2)=false→(!(x.of==2))=true)∧((z3=true→(Q .ret (L2 [(2,.ptr (.loc 2) 0),(3,.c (.bool true)),(4,.c (.bool true))] [(.loc 2,(enc .op x.q))])))∧(z3=false→(Tr ((x.p.kind==2)=true))∧(Tr ((x.p.kind==2)=true))∧(Tr ((x.p.kind==2)=true))∧(Tr ((x.p.kind==2)=true))∧((z2=true→(Ze (ZAv N [1,0,0,1,1,1,1,1,0,0,1,0,0]) (Z7u x 0) (xB 1 (ZvV N [1,0,0,1,1,1,1,1,0,1] (xB 0 (ZvV N [1,1] Q))))))∧(z2=false→(((x.p.kind==2)=true→((0:Int)≤0∧0 < (x.p.l.length:Int))∧(ZbO (y_2,y_5,()))∧(Q .ret (L2 [(2,.ptr (.loc 2) 0),(3,.c (.bool true)),(4,.c (.bool ((doE false y_2 y_5).isSome)))] [(.loc 2,[ci 2,ci 0,sU .tree ([y_8]) .full,ci 0,ci 0,.nils,.nils,ci 0,.nils,.nils,.nils,.nils,ci 0,.nils])])))∧((x.p.kind==2)=false→(((x.q.kind==1)=true→(ZfJ (y_1,()))∧((0:Int)≤0∧0 < (x.q.l.length:Int))∧(ZbO (y_7,y_6,()))∧(Q .ret (L2 [(2,.ptr (.loc 2) 0),(3,.c (.bool true)),(4,.c (.bool ((doE false y_7 y_6).isSome)))] [(.loc 2,[ci 1,ci 0,sU .tree ([y_9]) .full,ci 0,ci 0,.nils,.nils,ci 0,.nils,.nils,.nils,.nils,ci 0,.nils])])))∧((x.q.kind==1)=false→(Z5y (y_1,y_2,()))∧(Zf7 (y_1,y_2,()) < N)∧(Q .ret (L2 [(2,.ptr (.loc 2) 0),(3,.c (.bool true)),(4,.c (.bool ((Yh y_1 y_2).2)))] [(.loc 2,([ci 3,ci 0,.nils]++enc .edit ((Yh y_1 y_2).1)))])))))))))))))):
  ZAv N [] (L2 [(0,.agg (enc .piece x))] []) Q:=
 Eq.mpr (by kernel_rfl) (h _ (Z9 _) _ (Z9 _) _ rfl _ rfl _ (Zb _) _ (Zb _) _ (Z9 _) _ (Zb _) _ (Zb _))
theorem Zqc(N:Nat)(x:Piece)(x57:Int)(N0:NT)(Q:QT)(h:∀ y_1,y_1=(x.p.l.getD x57.toNat Tree.nil)→∀ y_2,y_2=(x.q.l.getD x57.toNat Tree.nil)→∀ y_3,y_3=y_1→∀ y_4,y_4=y_2→let z1:= !(YF (Z4 y_3) (Z4 y_4));let z0:=decide (x57 < (x.p.l.length:Int));((z0=true→((0:Int)≤x57∧x57 < (x.p.l.length:Int))∧(((0:Int)≤x57∧x57 < (x.q.l.length:Int))∧(Z1Z (y_3,y_4,()))∧((z1=true→(Q .ret (L2 [(2,.ptr (.loc 2) 0),(3,.c (.bool false)),(4,.c (.bool false))] [(.loc 2,zc2)])))∧(z1=false→(InR (x57+1))∧(N0 (Z7u x (x57+1)))))))∧(z0=false→(Q .ret (L2 [(2,.ptr (.loc 2) 0),(3,.c (.bool false)),(4,.c (.bool true))] [(.loc 2,zc2)]))))):
  ZAv N [1,0,0,1,1,1,1,1,0,0,1,0,0] (Z7u x x57) (xT N0 (xB 1 (ZvV N [1,0,0,1,1,1,1,1,0,1] (xB 0 (ZvV N [1,1] Q))))):=
 Eq.mpr (by kernel_rfl) (h _ rfl _ rfl _ (Zb _) _ (Zb _))
def Zwn(N:Nat)(x:Piece):Prop:=AW (Z1 (Zhn N)) Try.f136 ZmJ [] (Zk (Z2r.can (x,())) []) (EQ Try.f136 (Z33 (x,())) [])
abbrev Zxt:Prop:=∀ (N:Nat) (x:Piece) (_:Unit),Z3V (x,())→Z9A (x,()) < N+1→Zwn N x
theorem ZuI(c26:CT 26 Z4T)(c83:CT 83 Z4P)(ZhE:CT 106 Jl)(c96:CT 96 Z4N)(Zze:CT 133 Z2b)(Zzd:CT 135 Z2a)(b60:ZC8)(b97:ZC2)(Zzv:Zxv)(Zzu:Zxu)(b98:ZC1)(Zzt:Zxt):
  CT 60 ZaC∧CT 97 ZqH∧CT 132 ZlR∧CT 134 ZlQ∧CT 98 ZqG∧CT 136 ZlP:=by
 have h60 : ∃ fn, Try.prog.funcs[(60 : FuncId)]? = some fn ∧ fn.body.isSome = true ∧ (fn.name == "runtime.NumGoroutine") = false := ⟨Try.f60, Try.func60, rfl, rfl⟩
 have h97 : ∃ fn, Try.prog.funcs[(97 : FuncId)]? = some fn ∧ fn.body.isSome = true ∧ (fn.name == "runtime.NumGoroutine") = false := ⟨Try.f97, Try.func97, rfl, rfl⟩
 have h132 : ∃ fn, Try.prog.funcs[(132 : FuncId)]? = some fn ∧ fn.body.isSome = true ∧ (fn.name == "runtime.NumGoroutine") = false := ⟨Try.f132, Try.func132, rfl, rfl⟩
 have h134 : ∃ fn, Try.prog.funcs[(134 : FuncId)]? = some fn ∧ fn.body.isSome = true ∧ (fn.name == "runtime.NumGoroutine") = false := ⟨Try.f134, Try.func134, rfl, rfl⟩
 have h98 : ∃ fn, Try.prog.funcs[(98 : FuncId)]? = some fn ∧ fn.body.isSome = true ∧ (fn.name == "runtime.NumGoroutine") = false := ⟨Try.f98, Try.func98, rfl, rfl⟩
 have h136 : ∃ fn, Try.prog.funcs[(136 : FuncId)]? = some fn ∧ fn.body.isSome = true ∧ (fn.name == "runtime.NumGoroutine") = false := ⟨Try.f136, Try.func136, rfl, rfl⟩
 have key:∀ N,CT 60 (fs Z5s (fun a=> [Z5y a,Zf7 a < N]) Z5Y)∧CT 97 (fs Z5r (fun a=> [Z7W a,Zh6 a < N]) Z9i)∧CT 132 (fs Z2t (fun a=> [Z3X a,Z9C a < N]) Z34)∧CT 134 (fs Z2s (fun a=> [Z3W a,Z9B a < N]) Z3T)∧CT 98 (fs Z5q (fun a=> [Z7V a,Zh5 a < N]) Z5x)∧CT 136 (fs Z2r (fun a=> [Z3V a,Z9A a < N]) Z33):=by
  intro N
  induction N with
  | zero=> exact ⟨J8 h60,J8 h97,J8 h132,J8 h134,J8 h98,J8 h136⟩
  | succ N ih=>
   have kn:=Z0s (l:=Z5i N) ⟨ih.1,ih.2.1,ih.2.2.1,ih.2.2.2.1,ih.2.2.2.2.1,ih.2.2.2.2.2,c26,c83,ZhE,c96,Zze,Zzd,trivial⟩
   exact ⟨ZC (Γ:=Z1 (Z5i N)) Zm rfl kn ZyF Try.func60 rfl rfl (fun a=> by show 2≤_;decide) (fun ⟨p,q,_⟩ h=> b60 N p q () h.1 h.2.1),
    ZC (Γ:=Z1 (Z5i N)) Zm rfl kn Zyw Try.func97 rfl rfl (fun a=> by show 2≤_;decide) (fun ⟨p,q,_⟩ h=> b97 N p q () h.1 h.2.1),
    ZC (Γ:=Z1 (Z5i N)) Zm rfl kn ZmK Try.func132 rfl rfl (fun a=> by show 4≤_;decide) (fun ⟨p,q,at_,one,_⟩ h=> Zzv N p q at_ one () h.1 h.2.1),
    ZC (Γ:=Z1 (Z5i N)) Zm rfl kn Zsd Try.func134 rfl rfl (fun a=> by show 2≤_;decide) (fun ⟨a,b,_⟩ h=> Zzu N a b () h.1 h.2.1),
    ZC (Γ:=Z1 (Z5i N)) Zm rfl kn Zvj Try.func98 rfl rfl (fun a=> by show 2≤_;decide) (fun ⟨p,q,_⟩ h=> b98 N p q () h.1 h.2.1),
    ZC (Γ:=Z1 (Z5i N)) Zm rfl kn ZmJ Try.func136 rfl rfl (fun a=> by show 1≤_;decide) (fun ⟨x,_⟩ h=> Zzt N x () h.1 h.2.1)⟩
 exact ⟨J9 h60 fun N=> (key N).1,J9 h97 fun N=> (key N).2.1,J9 h132 fun N=> (key N).2.2.1,J9 h134 fun N=> (key N).2.2.2.1,J9 h98 fun N=> (key N).2.2.2.2.1,J9 h136 fun N=> (key N).2.2.2.2.2⟩
end
end Go.AM.Ytpjenobkibfpcaa
namespace Go.AM.Ytpjenobkibfpcaa
open Go.AM Go.Proofs
theorem Y8{n:Nat}{rs:List ResultVar}{r r':V U}{X:List (List (C U))}{e:AExit}{s:LSt U}(hr:r=r')(h:Ys cfg n rs r' X e s):Ys cfg n rs r X e s:=by rw [hr];exact h
theorem c24:Contract Try.prog cfg 24 Zdl:=by
 refine Zyp c66 ?_
 intro p q _ hp
 obtain ⟨rp,rq⟩:=hp
 dsimp only at rp rq
 have A:=(ZnZ rp.2.1 rq.2.1).1
 refine ZCN _ _ _ ?_
 (simp only [vcT,vcS])
 have z0:(0:Int)≤0∧(0:Int) < 18446744073709551616:=by decide
 refine ⟨⟨z0,rp.2.2.2,A⟩,⟨z0,rq.2.2.1,A⟩,fun h=> ?_,fun h=> ⟨⟨rq.2.2.1,rp.2.2.1,rp.2.1⟩,⟨rp.2.2.2,rq.2.2.2,rq.2.1⟩,?_⟩⟩
 ·have hn:Z6D p q=false:=decide_eq_false h
  refine Y8 (r':= .tup [(true,enc .wedit (⟨0,0,0,0⟩:WEdit)),(false,[.bool false])]) ?_ (by (repeat' (first | exact trivial | exact rfl | apply And.intro)))
  simp only [Zmc,J5]
  rw [hn]
  try rfl
 ·have hn:Z6D p q=true:=decide_eq_true h
  refine Y8 (r':= .tup [(true,enc .wedit (⟨p.at_,orM p.mask q.mask,mix q.old p.old p.mask,mix p.new q.new q.mask⟩:WEdit)),(false,[.bool true])]) ?_ (by (repeat' (first | exact trivial | exact rfl | apply And.intro)))
  simp only [Zmc,J5]
  rw [hn]
  try rfl
theorem Zzf:Contract Try.prog cfg 131 Z90:=by
 refine Zv6 ?_
 intro w _ _
 exact ZB7 _ _ (Yn rfl rfl)
theorem Zze:Contract Try.prog cfg 133 Z2b:=by
 refine Zv5 ?_
 intro w _ _
 exact ZB5 _ _ (Yn rfl rfl)
theorem Zeg{α:Type}{at_:α→Int}{one:α→α→α × Bool}{p q:List α}(h:Zd at_ one p q=none):(Zd at_ one p q).isSome=false∧ofO (Zd at_ one p q)=[]:=by rw [h];exact ⟨rfl,rfl⟩
structure MInv {α:Type} (at_:α→Int) (one:α→α→α × Bool) (p q x0 x1 out:List α):Prop where
 eq:Zd at_ one p q=(Zd at_ one x0 x1).map (out++·)
 len:out.length+x0.length+x1.length≤p.length+q.length
theorem MInv.left{α:Type}{at_:α→Int}{one:α→α→α × Bool}{p q x1 out:List α}{a:α}{x0:List α}(h:MInv at_ one p q (a ::x0) x1 out)(hb:∀ b∈x1.head?,at_ a < at_ b):MInv at_ one p q x0 x1 (out++[a]):=by
 refine ⟨?_,by have:=h.len;simp only [List.length_cons,List.length_append,List.length_nil] at*;omega⟩
 rw [h.eq]
 cases x1 with
 | nil=>
  rw [Zd]
  have:Zd at_ one x0 []=some x0:=by cases x0 <;> rw [Zd]
  rw [this];simp
 | cons b r=>
  rw [Zd,if_pos (hb b (by simp))]
  cases Zd at_ one x0 (b ::r) <;> simp
theorem MInv.right{α:Type}{at_:α→Int}{one:α→α→α × Bool}{p q x0 out:List α}{b:α}{x1:List α}(h:MInv at_ one p q x0 (b ::x1) out)(hb:∀ a∈x0.head?,at_ b < at_ a):MInv at_ one p q x0 x1 (out++[b]):=by
 refine ⟨?_,by have:=h.len;simp only [List.length_cons,List.length_append,List.length_nil] at*;omega⟩
 rw [h.eq]
 cases x0 with
 | nil=> rw [Zd,Zd];simp
 | cons a r=>
  have:=hb a (by simp)
  rw [Zd,if_neg (by omega),if_pos this]
  cases Zd at_ one (a ::r) x1 <;> simp
theorem MInv.both{α:Type}{at_:α→Int}{one:α→α→α × Bool}{p q x0 x1 out:List α}{a b:α}(h:MInv at_ one p q (a ::x0) (b ::x1) out)(e:at_ a=at_ b):
  ((one a b).2=true→MInv at_ one p q x0 x1 (out++[(one a b).1]))∧((one a b).2=false→Zd at_ one p q=none):=by
 refine ⟨fun hc=> ⟨?_,by have:=h.len;simp only [List.length_cons,List.length_append,List.length_nil] at*;omega⟩,fun hc=> ?_⟩
 ·rw [h.eq,Zd,if_neg (by omega),if_neg (by omega),if_pos hc]
  cases Zd at_ one x0 x1 <;> simp
 ·rw [h.eq,Zd,if_neg (by omega),if_neg (by omega),if_neg (by rw [hc];decide)]
  try rfl
theorem MInv.done{α:Type}{at_:α→Int}{one:α→α→α × Bool}{p q out:List α}(h:MInv at_ one p q [] [] out):Zd at_ one p q=some out:=by
 rw [h.eq,Zd];simp
theorem MInv.left'{α:Type}{at_:α→Int}{one:α→α→α × Bool}{p q x0 x1 out:List α}(z:α)(h:MInv at_ one p q x0 x1 out)(hx:0 < x0.length)(hb:x1.length=0∨at_ (x0.getD 0 z) < at_ (x1.getD 0 z)):
  MInv at_ one p q (x0.drop 1) x1 (out++[x0.getD 0 z]):=by
 cases x0 with
 | nil=> simp at hx
 | cons a r=>
  refine h.left fun b hb'=> ?_
  cases x1 with
  | nil=> simp at hb'
  | cons c s=>
   simp only [List.head?_cons,Option.mem_def,Option.some.injEq] at hb'
   subst hb'
   rcases hb with hb | hb
   ·simp at hb
   ·exact hb
theorem MInv.right'{α:Type}{at_:α→Int}{one:α→α→α × Bool}{p q x0 x1 out:List α}(z:α)(h:MInv at_ one p q x0 x1 out)(hx:0 < x1.length)(hb:x0.length=0∨at_ (x1.getD 0 z) < at_ (x0.getD 0 z)):
  MInv at_ one p q x0 (x1.drop 1) (out++[x1.getD 0 z]):=by
 cases x1 with
 | nil=> simp at hx
 | cons a r=>
  refine h.right fun b hb'=> ?_
  cases x0 with
  | nil=> simp at hb'
  | cons c s=>
   simp only [List.head?_cons,Option.mem_def,Option.some.injEq] at hb'
   subst hb'
   rcases hb with hb | hb
   ·simp at hb
   ·exact hb
theorem MInv.both'{α:Type}{at_:α→Int}{one:α→α→α × Bool}{p q x0 x1 out:List α}(z:α)(h:MInv at_ one p q x0 x1 out)(h0:0 < x0.length)(h1:0 < x1.length)(e:at_ (x0.getD 0 z)=at_ (x1.getD 0 z)):
  ((one (x0.getD 0 z) (x1.getD 0 z)).2=true→MInv at_ one p q (x0.drop 1) (x1.drop 1) (out++[(one (x0.getD 0 z) (x1.getD 0 z)).1]))∧((one (x0.getD 0 z) (x1.getD 0 z)).2=false→Zd at_ one p q=none):=by
 cases x0 with
 | nil=> simp at h0
 | cons a r=>
  cases x1 with
  | nil=> simp at h1
  | cons b s=> exact h.both e
theorem Zzg:Contract Try.prog cfg 130 Z91:=by
 refine Zv7 Zzf c24 ?_
 rintro p q ⟨⟩ ⟨⟩ _ hp
 obtain ⟨⟨rp,lp⟩,rq,lq⟩:=hp
 dsimp only at rp lp rq lq
 refine ZB8 p q () () _ ?_
 refine Z6 (ι:=List WEdit × List WEdit × List WEdit) (fun x=> Z2N p q () () x.1 x.2.1 x.2.2) (fun x=> MInv WEdit.at_ J5 p q x.1 x.2.1 x.2.2∧(∀ w∈x.1,Z2e w)∧∀ w∈x.2.1,Z2e w) (fun x=> x.1.length+x.2.1.length) (p,q,[]) rfl
  ⟨⟨by dsimp only;cases Zd WEdit.at_ J5 p q <;> simp,by simp⟩,rp,rq⟩ ?_
 rintro ⟨x0,x1,x10⟩ ⟨inv,r0,r1⟩
 dsimp only at inv r0 r1
 have hlen:=inv.len
 refine Zqe p q () () _ _ _ _ _ ?_
 intro y1 h1 y2 h2 y3 h3 y4 h4 y5 h5
 subst h3 h4
 (simp only [vcT,vcS])
 have h3:y3=x0.getD 0 ⟨0,0,0,0⟩:=h1
 have h4:y4=x1.getD 0 ⟨0,0,0,0⟩:=h2
 have d0:∀ w∈x0.drop 1,Z2e w:=fun w hw=> r0 w (List.mem_of_mem_drop hw)
 have d1:∀ w∈x1.drop 1,Z2e w:=fun w hw=> r1 w (List.mem_of_mem_drop hw)
 refine ⟨fun hne=> ⟨fun h=> ⟨by omega,by omega⟩,fun _=> trivial,fun h=> ⟨by omega,by omega⟩,fun _=> trivial,fun g1 g2=> ⟨g1,g2⟩,fun hA=> ?_,fun hB=> ?_⟩,fun hE=> ?_⟩
 ·refine ⟨⟨by omega,by omega⟩,by simp only [List.length_cons,List.length_nil];omega,⟨by omega,by omega⟩,(x0.drop 1,x1,x10++[y3]),rfl,⟨?_,d0,r1⟩,by dsimp only;rw [List.length_drop];omega⟩
  rw [h3]
  exact inv.left' _ (by omega) (by rw [←h3,←h4];omega)
 ·refine ⟨fun h=> ⟨by omega,by omega⟩,fun _=> trivial,fun h=> ⟨by omega,by omega⟩,fun _=> trivial,fun hC=> ?_,fun hD=> ?_⟩
  ·refine ⟨⟨by omega,by omega⟩,by simp only [List.length_cons,List.length_nil];omega,⟨by omega,by omega⟩,(x0,x1.drop 1,x10++[y4]),rfl,⟨?_,r0,d1⟩,by dsimp only;rw [List.length_drop];omega⟩
   rw [h4]
   exact inv.right' _ (by omega) (by rw [←h3,←h4];omega)
  ·have hb:=inv.both' ⟨0,0,0,0⟩ (by omega) (by omega) (by rw [←h3,←h4];omega)
   rw [←h3,←h4] at hb
   have m3:Z2e y3:=by rw [h3];exact r0 _ (Zg (by omega) _)
   have m4:Z2e y4:=by rw [h4];exact r1 _ (Zg (by omega) _)
   refine ⟨⟨by omega,by omega⟩,⟨by omega,by omega⟩,⟨m3,m4⟩,fun hc=> ?_,fun hc=> ?_⟩
   ·have e:=Zeg (hb.2 hc)
    refine Y8 (r':= .tup [(false,[.slice (U:=U) .wedit [] .unk]),(false,[.bool false])]) ?_ (by (repeat' (first | exact trivial | exact rfl | apply And.intro)))
    simp only [ZgQ]
    rw [e.1,e.2]
   ·refine ⟨by simp only [List.length_cons,List.length_nil];omega,⟨by omega,by omega⟩,⟨by omega,by omega⟩,(x0.drop 1,x1.drop 1,x10++[y5]),rfl,⟨?_,d0,d1⟩,by dsimp only;rw [List.length_drop,List.length_drop];omega⟩
    rw [h5]
    exact hb.1 hc
 ·have e0:x0=[]:=List.eq_nil_of_length_eq_zero (by omega)
  have e1:x1=[]:=List.eq_nil_of_length_eq_zero (by omega)
  subst e0 e1
  have e:=inv.done
  refine Y8 (r':= .tup [(false,[.slice (U:=U) .wedit x10 .unk]),(false,[.bool true])]) ?_ (by (repeat' (first | exact trivial | exact rfl | apply And.intro)))
  simp only [ZgQ]
  rw [e]
  try rfl
theorem c96:Contract Try.prog cfg 96 Z4N:=by
 refine Zy1 Zzg ?_
 intro p q _ hp
 exact ZCh _ _ _ ⟨hp,by (repeat' (first | exact trivial | exact rfl | apply And.intro))⟩
end Go.AM.Ytpjenobkibfpcaa
