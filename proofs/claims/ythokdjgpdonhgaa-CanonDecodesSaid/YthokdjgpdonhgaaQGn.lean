import Derived.Test.YthokdjgpdonhgaaQGl
import Derived.Test.YthokdjgpdonhgaaQL15
set_option linter.unusedSimpArgs false
set_option linter.unusedVariables false
namespace Go.AM.Ythokdjgpdonhgaa
open Go.AM Go.Proofs
noncomputable section
def Zb4(a:Tree × Unit):V U:= .c (ci (Zq a.1:Int))
def Z72:Fs U:=fs Zd0 (fun a=> [Zbh a]) Zb4
def Z91(a:Tree × Unit):Prop:=Zh a.1<=1000000/\(∃ d,Z8 a.1 d=true)
def Z6F:Fs U:=fs Zd0 (fun a=> [Z91 a]) Zb4
def Zhm(a:Tree × Unit):Prop:=(Zh a.1<=1000000)/\(∃ d,Z8 a.1 d=true)
def ZmQ(a:Tree × Unit):V U:= .c (ci (Zq (Ze a.1):Int))
def Z6U:Fs U:=fs Zd0 (fun a=> [Zhm a]) ZmQ
def ZaC:ArgM ((List Int × Unit) × Int × Unit):=(.obj 0 (.cons (cWr .u64 0 0) .nil) (.cons (Zr .i64) .nil))
def Z7I(a:(List Int × Unit) × Int × Unit):Prop:=(a.1.1.length<=1000000)/\0<=a.2.1/\a.2.1<=1000000
def ZmP(a:(List Int × Unit) × Int × Unit):V U:= .c (ci (a.1.1.length:Int))
def ZgG(a:(List Int × Unit) × Int × Unit):List (List (C U)):=[[.mref (.x 0 0)]]
def ZgI(a:(List Int × Unit) × Int × Unit):List (Tok × LC U):=[(.x 0 0,LC.mk (U:=U) .u64 (a.1.1++zs (Int.toNat a.2.1)) 0)]
def Z9L:Fs U:=J5 ZaC (fun a=> [Z7I a]) ZmP ZgG ZgI
def Z4K:ArgM ((List Int × Unit) × Int × Unit):=(.obj 0 (.cons (Zti .u64 0 0) .nil) (.cons (Zr .i64) .nil))
def Zaf(a:(List Int × Unit) × Int × Unit):Prop:=(a.1.1=[])/\0<=a.2.1/\a.2.1<=1000000
def Z1Q:Fs U:=J5 Z4K (fun a=> [Zaf a]) ZmP ZgG ZgI
def ZaA:ArgM ((List Int × Unit) × Int × Int × Ptr × Unit):=(.obj 0 (.cons (cWr .u64 0 0) .nil) (.cons (Zr .i64) (.cons (Zr .i64) (.cons (aEl .ptr) .nil))))
def Z5E(a:(List Int × Unit) × Int × Int × Ptr × Unit):Prop:=(0<=a.2.1/\a.2.1 < a.1.1.length/\a.2.1 < a.2.2.1/\a.2.2.1<=1000000)/\ZdZ a.2.2.2.1
def ZmE(a:(List Int × Unit) × Int × Int × Ptr × Unit):V U:= .c (.bool true)
def ZgF(a:(List Int × Unit) × Int × Int × Ptr × Unit):List (List (C U)):=[[.mref (.x 0 0)]]
def ZgH(a:(List Int × Unit) × Int × Int × Ptr × Unit):List (Tok × LC U):=[(.x 0 0,LC.mk (U:=U) .u64 (a.1.1.set (Int.toNat a.2.1) (Z42 a.2.1 a.2.2.1 a.2.2.2.1)) 0)]
def Z9K:Fs U:=J5 ZaA (fun a=> [Z5E a]) ZmE ZgF ZgH
def ZcG(N:Nat):List (FuncId × Fs U):=(54,fs Zd0 (fun a=> [Zbh a,ZfJ a < N]) Zb4) ::[(82,Z1G),(57,Z1J)]
def ZlN:Z6 U:=lvl [([1],[1]),([1,3],[1]),([1,3,10],[1]),([1,3,10,11],[1]),([1,3,39],[1]),([1,3,10,20],[1]),([1,3,39],[1]),([1,3,10,25],[1]),([1,3,10,25],[1]),([1,3,10,25],[1]),([1,3,10,25],[1]),([1,3,10,25],[1]),([1,3,10,25],[1]),([2],[]),([1,3,39],[1]),([1,4,5],[1]),([1,3],[1]),([1,3,6],[1]),([1,3,6,58],[1]),([1,3,6],[1]),([1,3,6,7],[1]),([1,3,6,7,69],[1]),([1,3,6,7],[1]),([1,3,6,7],[1]),([2],[]),([1,3,8],[1]),([1,3,8,89],[1]),([1,3,8],[1]),([1,3,8],[1]),([2],[])]
def Z2p(t:Tree)(x3:Int)(v39:V U):LSt U:=(L2 [pL 1,pI 3 x3,(39,v39)] [(.loc 1,(enc .tree t))])
def JO(t:Tree)(x25_a:Bool):LSt U:=(L2 [pL 1,pI 3 0,pI 10 t.kind,pB 25 x25_a] [(.loc 1,(enc .tree t))])
def Z4w(t:Tree)(x3_b x8_b:Int):LSt U:=(L2 [pL 1,pI 3 x3_b,pI 8 x8_b] [(.loc 1,(enc .tree t))])
def Z4v(t:Tree)(x6_c x3_c:Int):LSt U:=(L2 [pL 1,pI 3 x3_c,pI 6 x6_c] [(.loc 1,(enc .tree t))])
def Z4u(t:Tree)(x6_c x3_d x7_d:Int):LSt U:=(L2 [pL 1,pI 3 x3_d,pI 6 x6_c,pI 7 x7_d] [(.loc 1,(enc .tree t))])
abbrev A54(N:Nat)(p:List Nat):=AW (Z1 (ZcG N)) Try.f54 ZlN p
abbrev S54(N:Nat)(p:List Nat):=SW (Z1 (ZcG N)) Try.f54 ZlN p
theorem ZsO(N:Nat)(t:Tree)(Q:QT)(h:let z0:=xB 0 (S54 N [1,1,1] Q);(((t.kind==1)=true->(InR (((t.words.length:Int):Int)+(t.kids.length:Int)))/\(A54 N [1,1,1] (Z2p t (((t.words.length:Int):Int)+(t.kids.length:Int)) .junk) Q))/\((t.kind==1)=false->(((t.kind==8)=true->(A54 N [1,1,1] (Z2p t (t.kids.length:Int) .junk) Q))/\((t.kind==8)=false->(((t.kind==2)=true->A54 N [1,1,0,1,0,1,1,1,1,1] (JO t (t.kind==2)) z0)/\((t.kind==2)=false->(((t.kind==3)=true->A54 N [1,1,0,1,0,1,1,1,1,1] (JO t (t.kind==3)) z0)/\((t.kind==3)=false->(((t.kind==4)=true->A54 N [1,1,0,1,0,1,1,1,1,1] (JO t (t.kind==4)) z0)/\((t.kind==4)=false->(((t.kind==5)=true->A54 N [1,1,0,1,0,1,1,1,1,1] (JO t (t.kind==5)) z0)/\((t.kind==5)=false->(((t.kind==6)=true->A54 N [1,1,0,1,0,1,1,1,1,1] (JO t (t.kind==6)) z0)/\((t.kind==6)=false->(A54 N [1,1,0,1,0,1,1,1,1,1] (JO t (t.kind==7)) z0)))))))))))))))):
  A54 N [] (L2 [(0,.agg (enc .tree t))] []) Q:=
 (Eq.mpr (by kernel_rfl) h:)
theorem ZkN(N:Nat)(t:Tree)(x3:Int)(v39:V U)(Q:QT)(h:(Zk (A54 N [1,1,1,0,1,0,0]) (Z4w t x3 0) (xB 5 (S54 N [1,1,1,1] Q)))):
  A54 N [1,1,1] (Z2p t x3 v39) Q:=
 (Eq.mpr (by kernel_rfl) h:)
theorem ZkM(N:Nat)(t:Tree)(x25_a:Bool)(Q:QT)(h:let z1:=Tree.mk t.kind t.words t.kids;let z0:=Tree.kids z1;(x25_a=true->(InR (t.kind - 2))/\(Z0I ((t.kind - 2),(t.kids.length:Int),()))/\(Q .ret (L2 [pI 2 (ZK (t.kind - 2) (t.kids.length:Int))] [])))/\(x25_a=false->(((t.kind==9)=true->(Zbh (z1,()))/\((InR (((frW z0:Int):Int)+(frK z0:Int)))/\(InR (((t.kids.length:Int):Int)*(((frW z0:Int):Int)+(frK z0:Int))))/\(InR ((1:Int)+(((t.kids.length:Int):Int)*(((frW z0:Int):Int)+(frK z0:Int)))))/\(Zk (A54 N [1,1,0,1,0,1,1,1,1,1,1,1,0,1,1,0,1,0,0]) (Z4v t 0 ((1:Int)+(((t.kids.length:Int):Int)*(((frW z0:Int):Int)+(frK z0:Int))))) (xB 1 (S54 N [1,1,0,1,0,1,1,1,1,1,1,1,0,1,1,1] (xB 0 (S54 N [1,1,1] Q)))))))/\((t.kind==9)=false->A54 N [1,1,1] (Z2p t 0 (.c (.bool (t.kind==9)))) Q)))):
  A54 N [1,1,0,1,0,1,1,1,1,1] (JO t x25_a) (xB 0 (S54 N [1,1,1] Q)):=
 (Eq.mpr (by kernel_rfl) h:)
theorem ZkL(N:Nat)(t:Tree)(x3_b x8_b:Int)(N2:NT)(Q:QT)(h:let z2:=decide (x8_b < (t.kids.length:Int));let z1:=t.kids.getD x8_b.toNat Tree.nil;let z0:=Tree.mk (Tree.kind z1) (Tree.words z1) (Tree.kids z1);((z2=true->((0:Int)<=x8_b/\x8_b < (t.kids.length:Int))/\(Zbh (z0,()))/\(ZfJ (z0,()) < N)/\(InR (x3_b+(Zq z0:Int)))/\((InR (x8_b+1))/\(N2 (Z4w t (x3_b+(Zq z0:Int)) (x8_b+1)))))/\(z2=false->(Q .ret (L2 [pI 2 x3_b] []))))):
  A54 N [1,1,1,0,1,0,0] (Z4w t x3_b x8_b) (xT N2 (xB 5 (S54 N [1,1,1,1] Q))):=
 (Eq.mpr (by kernel_rfl) h:)
theorem ZkK(N:Nat)(t:Tree)(x6_c x3_c:Int)(N3:NT)(Q:QT)(h:let z0:=decide (x6_c < (t.kids.length:Int));((z0=true->(Zk (A54 N [1,1,0,1,0,1,1,1,1,1,1,1,0,1,1,0,1,0,0,1,0,0,1,0,0]) (Z4u t x6_c x3_c 0) (xB 3 (xB 2 (S54 N [1,1,0,1,0,1,1,1,1,1,1,1,0,1,1,0,1,0,0,1,1] (xT N3 (xB 1 (S54 N [1,1,0,1,0,1,1,1,1,1,1,1,0,1,1,1] (xB 0 (S54 N [1,1,1] Q))))))))))/\(z0=false->(Q .ret (L2 [pI 2 x3_c] []))))):
  A54 N [1,1,0,1,0,1,1,1,1,1,1,1,0,1,1,0,1,0,0] (Z4v t x6_c x3_c) (xT N3 (xB 1 (S54 N [1,1,0,1,0,1,1,1,1,1,1,1,0,1,1,1] (xB 0 (S54 N [1,1,1] Q))))):=
 (Eq.mpr (by kernel_rfl) h:)
theorem ZkJ(N:Nat)(t:Tree)(x6_c x3_d x7_d:Int)(N4 N3:NT)(Q:QT)(h:∀ y_1,y_1=(t.kids.getD x6_c.toNat Tree.nil)->∀ y_2,y_2=(y_1.kids.getD x7_d.toNat Tree.nil)->∀ y_3,y_3=y_2->let z0:=decide (x7_d < (y_1.kids.length:Int));((0:Int)<=x6_c/\x6_c < (t.kids.length:Int))/\((z0=true->((0:Int)<=x6_c/\x6_c < (t.kids.length:Int))/\((0:Int)<=x7_d/\x7_d < (y_1.kids.length:Int))/\(Zbh (y_3,()))/\(ZfJ (y_3,()) < N)/\(InR (x3_d+(Zq y_3:Int)))/\((InR (x7_d+1))/\(N4 (Z4u t x6_c (x3_d+(Zq y_3:Int)) (x7_d+1)))))/\(z0=false->(InR (x6_c+1))/\(N3 (Z4v t (x6_c+1) x3_d))))):
  A54 N [1,1,0,1,0,1,1,1,1,1,1,1,0,1,1,0,1,0,0,1,0,0,1,0,0] (Z4u t x6_c x3_d x7_d) (xT N4 (xB 3 (xB 2 (S54 N [1,1,0,1,0,1,1,1,1,1,1,1,0,1,1,0,1,0,0,1,1] (xT N3 (xB 1 (S54 N [1,1,0,1,0,1,1,1,1,1,1,1,0,1,1,1] (xB 0 (S54 N [1,1,1] Q))))))))):=
 (Eq.mpr (by kernel_rfl) (h _ rfl _ rfl _ (Zu _)):)
abbrev Zqx(N:Nat)(t:Tree):Prop:=AW (Z1 (ZcG N)) Try.f54 ZlN [] (Zb (Zd0.can (t,())) []) (EQ Try.f54 (Zb4 (t,())) [])
theorem Zoe(c82:CT 82 Z1G)(c57:CT 57 Z1J)(hb:∀ (N:Nat) (t:Tree) (_:Unit),Zbh (t,())->ZfJ (t,()) < N+1->Zqx N t):CT 54 Z72:=
 Yg (μ:=ZfJ) (l:=[(82,Z1G),(57,Z1J)]) Z9 rfl (⟨c82,c57,trivial⟩) ZlN Try.func54 rfl rfl 1 (fun _=> rfl) (by decide) (fun N ⟨t,_⟩=> hb N t ())
def Zcx(N:Nat):List (FuncId × Fs U):=(95,fs Zd0 (fun a=> [Z91 a,ZfJ a < N]) Zb4) ::[(119,Z1G),(118,Z1J),(107,Jn)]
def ZlC:Z6 U:=lvl [([1],[1]),([1,3],[1]),([1,3,10],[1]),([1,3],[1]),([1,3,21],[1]),([1,3],[1]),([1,3,28],[1]),([2],[]),([1,3,39],[1]),([1,4,5],[1]),([1,3],[1]),([3,57,58,59],[]),([3,57,58,59,60],[]),([3,7,57,58,59],[7]),([3,57,58,59],[]),([3,57,58,59],[]),([2],[]),([3,78,79,80],[]),([3,78,79,80,81],[]),([3,9,78,79,80],[9]),([3,78,79,80],[]),([3,78,79,80],[]),([2],[])]
def Z0k(t:Tree)(x3 x80:Int):LSt U:=(L2 [pI 3 x3,(78,.c (sU .tree t.kids .unk)),pI 79 (t.kids.length:Int),pI 80 x80] [])
def Z4g(t:Tree)(x3_a x59_a:Int):LSt U:=(L2 [pI 3 x3_a,(57,.c (sU .tree t.kids .unk)),pI 58 (t.kids.length:Int),pI 59 x59_a] [])
abbrev A95(N:Nat)(p:List Nat):=AW (Z1 (Zcx N)) Try.f95 ZlC p
abbrev S95(N:Nat)(p:List Nat):=SW (Z1 (Zcx N)) Try.f95 ZlC p
theorem Zsb(N:Nat)(t:Tree)(Q:QT)(h:∀ y_1,y_1=t->let z2:=decide (2<=t.kind/\t.kind<=7);let z1:=xB 3 (S95 N [1,1,1,1] Q);let z0:=A95 N [1,1,1,0,1,0,0];(((t.kind==1)=true->(InR (((t.words.length:Int):Int)+(t.kids.length:Int)))/\(Zk z0 (Z0k t (((t.words.length:Int):Int)+(t.kids.length:Int)) 0) z1))/\((t.kind==1)=false->(((t.kind==8)=true->(Zk z0 (Z0k t (t.kids.length:Int) 0) z1))/\((t.kind==8)=false->(Z5G (t.kind,()))/\((z2=true->(InR (t.kind - 2))/\(Z0I ((t.kind - 2),(t.kids.length:Int),()))/\(Q .ret (L2 [pI 2 (ZK (t.kind - 2) (t.kids.length:Int))] [])))/\(z2=false->(((t.kind==9)=true->(Zbh (y_1,()))/\((InR (((frW y_1.kids:Int):Int)+(frK y_1.kids:Int)))/\(InR (((t.kids.length:Int):Int)*(((frW y_1.kids:Int):Int)+(frK y_1.kids:Int))))/\(InR ((1:Int)+(((t.kids.length:Int):Int)*(((frW y_1.kids:Int):Int)+(frK y_1.kids:Int)))))/\(Zk (A95 N [1,1,0,0,1,1,1,1,1,1,1,0,1,1,0,1,0,0]) (Z4g t ((1:Int)+(((t.kids.length:Int):Int)*(((frW y_1.kids:Int):Int)+(frK y_1.kids:Int)))) 0) (xB 1 (S95 N [1,1,0,0,1,1,1,1,1,1,1,0,1,1,1] (xB 0 (S95 N [1,1,1] Q)))))))/\((t.kind==9)=false->(Zk z0 (Z0k t 0 0) z1)))))))))):
  A95 N [] (L2 [(0,.agg (enc .tree t))] []) Q:=
 (Eq.mpr (by kernel_rfl) (h _ (Zu _)):)
theorem Zkj(N:Nat)(t:Tree)(x3 x80:Int)(N0:NT)(Q:QT)(h:let z2:=decide (x80 < (t.kids.length:Int));let z1:=t.kids.getD x80.toNat Tree.nil;let z0:=Tree.mk (Tree.kind z1) (Tree.words z1) (Tree.kids z1);((z2=true->((0:Int)<=x80/\x80 < (t.kids.length:Int))/\((Z91 (z0,()))/\(ZfJ (z0,()) < N)/\(InR (x3+(Zq z0:Int)))/\((InR (x80+1))/\(N0 (Z0k t (x3+(Zq z0:Int)) (x80+1))))))/\(z2=false->(Q .ret (L2 [pI 2 x3] []))))):
  A95 N [1,1,1,0,1,0,0] (Z0k t x3 x80) (xT N0 (xB 3 (S95 N [1,1,1,1] Q))):=
 (Eq.mpr (by kernel_rfl) h:)
theorem Zki(N:Nat)(t:Tree)(x3_a x59_a:Int)(N1:NT)(Q:QT)(h:∀ y_1,y_1=(t.kids.getD x59_a.toNat Tree.nil)->∀ y_2,y_2=y_1->let z0:=decide (x59_a < (t.kids.length:Int));((z0=true->((0:Int)<=x59_a/\x59_a < (t.kids.length:Int))/\((Z91 (y_2,()))/\(ZfJ (y_2,()) < N)/\(InR (((Zq y_2:Int):Int) - (y_1.words.length:Int)))/\(InR (((((Zq y_2:Int):Int) - (y_1.words.length:Int)):Int) - (y_1.kids.length:Int)))/\(InR (x3_a+(((((Zq y_2:Int):Int) - (y_1.words.length:Int)):Int) - (y_1.kids.length:Int))))/\((InR (x59_a+1))/\(N1 (Z4g t (x3_a+(((((Zq y_2:Int):Int) - (y_1.words.length:Int)):Int) - (y_1.kids.length:Int))) (x59_a+1))))))/\(z0=false->(Q .ret (L2 [pI 2 x3_a] []))))):
  A95 N [1,1,0,0,1,1,1,1,1,1,1,0,1,1,0,1,0,0] (Z4g t x3_a x59_a) (xT N1 (xB 1 (S95 N [1,1,0,0,1,1,1,1,1,1,1,0,1,1,1] (xB 0 (S95 N [1,1,1] Q))))):=
 (Eq.mpr (by kernel_rfl) (h _ rfl _ (Zu _)):)
abbrev ZpU(N:Nat)(t:Tree):Prop:=AW (Z1 (Zcx N)) Try.f95 ZlC [] (Zb (Zd0.can (t,())) []) (EQ Try.f95 (Zb4 (t,())) [])
theorem ZnE(Zg2:CT 119 Z1G)(Zg3:CT 118 Z1J)(Zay:CT 107 Jn)(hb:∀ (N:Nat) (t:Tree) (_:Unit),Z91 (t,())->ZfJ (t,()) < N+1->ZpU N t):CT 95 Z6F:=
 Yg (μ:=ZfJ) (l:=[(119,Z1G),(118,Z1J),(107,Jn)]) Z9 rfl (⟨Zg2,Zg3,Zay,trivial⟩) ZlC Try.func95 rfl rfl 1 (fun _=> rfl) (by decide) (fun N ⟨t,_⟩=> hb N t ())
def Ziz:List (FuncId × Fs U):=[(72,Z1K),(95,Z6F)]
abbrev A73(p:List Nat):=AW (Z1 Ziz) Try.f73 Zpm p
theorem Zsx(t:Tree)(Q:QT)(h:let z2:=Tree.mk t.kind t.words t.kids;let z0:=Ze z2;let z1:=Tree.mk (Tree.kind z0) (Tree.words z0) (Tree.kids z0);((Z5I (z2,()))/\(Z91 (z1,()))/\(Q .ret (L2 [(2,.c (ci (Zq z1:Int)))] [])))):
  A73 [] (L2 [(0,.agg (enc .tree t))] []) Q:=
 (Eq.mpr (by kernel_rfl) h:)
abbrev Zqg(t:Tree):Prop:=AW (Z1 Ziz) Try.f73 Zpm [] (Zb (Zd0.can (t,())) []) (EQ Try.f73 (ZmQ (t,())) [])
theorem ZnX(c72:CT 72 Z1K)(c95:CT 95 Z6F)(hb:∀ (t:Tree) (_:Unit),Zhm (t,())->Zqg t):CT 73 Z6U:=
 Z0 (l:=[(72,Z1K),(95,Z6F)]) Z9 rfl (⟨c72,c95,trivial⟩) Zpm Try.func73 rfl rfl 1 (fun _=> rfl) (by decide) (fun ⟨t,_⟩=> hb t ())
def ZoS:Z6 U:=fun i=> match i with
 | 0=> ([(0,[]),(1,[])],[(.x 0,[.wr .u64])])
 | 1=> ([(0,[]),(1,[]),(5,[])],[(.x 0,[.wr .u64])])
 | 2=> ([(5,[])],[(.x 0,[.wr .u64])])
 | 3=> ([(4,[])],[(.x 0,[.wr .u64])])
 | _=> ([],[])
abbrev A75(p:List Nat):=AW (Z1 ZiK) Try.f75 ZoS p
theorem Zsv(l:List Int)(n:Int)(Q:QT)(h:(((0:Int)<=n/\((l.length:Int)+n)*((8:Nat):Int)<=140737488355328)/\(Q .ret (⟨[pI 4 (l.length:Int)],[(.x 0,[.mref (.x 0 0)])],[(.x 0 0,LC.mk (U:=U) .u64 (l++List.replicate n.toNat (0:Int)) 0)]⟩:LSt U)))):
  A75 [] (⟨[(0,.ptr (.x 0) 0),pI 1 n],[(.x 0,[.mref (.x 0 0)])],[(.x 0 0,LC.mk (U:=U) .u64 l 0)]⟩:LSt U) Q:=
 (Eq.mpr (by kernel_rfl) h:)
abbrev Zqe(l:List Int)(n:Int):Prop:=AW (Z1 ZiK) Try.f75 ZoS [] (Ys (ZaC.can ((l,()),n,())) (ZaC.canX ((l,()),n,())) (ZaC.canL ((l,()),n,()))) (YP cfg Try.f75.ntmps Try.f75.results.toList (ZmP ((l,()),n,())) (ZgG ((l,()),n,())) (ZgI ((l,()),n,())))
theorem ZnW(hb:∀ (l:List Int) (n:Int) (_:Unit),Z7I ((l,()),n,())->Zqe l n):CT 75 Z9L:=
 J2 (l:=[]) Z9 rfl trivial ZoS Try.func75 rfl rfl 2 (fun _=> rfl) (by decide) (fun ⟨⟨l,_⟩,n,_⟩=> hb l n ())
def Zcr:Z6 U:=fun i=> match i with
 | 0=> ([(0,[]),(1,[])],[(.x 0,[.wr .u64])])
 | 1=> ([(0,[]),(1,[]),(5,[])],[(.x 0,[.wr .u64])])
 | 2=> ([(5,[])],[(.x 0,[.wr .u64])])
 | 3=> ([(4,[])],[(.x 0,[.wr .u64])])
 | _=> ([],[])
abbrev Zs6(p:List Nat):=AW (Z1 ZiK) Try.f75 Zcr p
theorem Znq(l:List Int)(n:Int)(Q:QT)(h:(((0:Int)<=n/\((l.length:Int)+n)*((8:Nat):Int)<=140737488355328)/\(Q .ret (⟨[pI 4 (l.length:Int)],[(.x 0,[.mref (.x 0 0)])],[(.x 0 0,LC.mk (U:=U) .u64 (l++List.replicate n.toNat (0:Int)) l.length)]⟩:LSt U)))):
  Zs6 [] (L2 [(0,.ptr (.x 0) 0),pI 1 n] [(.x 0,[sU .u64 l (.own (.x 0 0))])]) Q:=
 (Eq.mpr (by kernel_rfl) h:)
abbrev Zkc(l:List Int)(n:Int):Prop:=AW (Z1 ZiK) Try.f75 Zcr [] (Ys (Z4K.can ((l,()),n,())) (Z4K.canX ((l,()),n,())) (Z4K.canL ((l,()),n,()))) (YP cfg Try.f75.ntmps Try.f75.results.toList (ZmP ((l,()),n,())) (ZgG ((l,()),n,())) (ZgI ((l,()),n,())))
theorem ZhW(hb:∀ (l:List Int) (n:Int) (_:Unit),Zaf ((l,()),n,())->Zkc l n):CT 75 Z1Q:=
 J2 (l:=[]) Z9 rfl trivial Zcr Try.func75 rfl rfl 2 (fun _=> rfl) (by decide) (fun ⟨⟨l,_⟩,n,_⟩=> hb l n ())
def Zin:List (FuncId × Fs U):=[(120,Z19)]
def ZoH:Z6 U:=fun i=> match i with
 | 0=> ([(0,[]),(1,[]),(2,[]),(7,[])],[(.loc 7,[]),(.x 0,[.wr .u64])])
 | 1=> ([(0,[]),(1,[]),(7,[])],[(.loc 7,[]),(.x 0,[.wr .u64])])
 | 2=> ([(0,[]),(1,[]),(7,[]),(26,[])],[(.loc 7,[]),(.x 0,[.wr .u64])])
 | 3=> ([(0,[]),(1,[]),(7,[])],[(.loc 7,[]),(.x 0,[.wr .u64])])
 | 4=> ([(0,[]),(1,[]),(9,[]),(10,[])],[(.x 0,[.wr .u64])])
 | 5=> ([(10,[])],[(.x 0,[.wr .u64])])
 | 6=> ([(8,[])],[(.x 0,[.wr .u64])])
 | _=> ([],[])
abbrev A96(p:List Nat):=AW (Z1 Zin) Try.f96 ZoH p
theorem Zsa(l:List Int)(at_ to:Int)(p:Ptr)(Q:QT)(h:∀ y_1,y_1=(Ptr.mk (Ptr.kind p) (-1) (Ptr.data p) (Ptr.ptrs p) (Ptr.code p) (Ptr.count p) (Ptr.segment p) (Ptr.double p))->∀ y_2,y_2=(Ptr.mk (Ptr.kind p) (((to - at_):Int) - 1) (Ptr.data p) (Ptr.ptrs p) (Ptr.code p) (Ptr.count p) (Ptr.segment p) (Ptr.double p))->let z0:=((Ptr.kind p):Int)==1;let z1:=bif z0 then (((((Ptr.data p):Int)+(Ptr.ptrs p)):Int)==0) else false;((InR (to - at_))/\(InR (((to - at_):Int) - 1))/\((Tr (z0=true))/\(Tr (z0=true))/\(Tr (z0=true))/\(Tr (z0=true))/\(z0=true->InR (((Ptr.data p):Int)+(Ptr.ptrs p)))/\(Tr (z0=true))/\(Tr (z0=true))/\((z1=true->((Z55 (y_1,()))/\(((0:Int)<=at_/\at_ < (l.length:Int))/\((0:Nat)<=at_.toNat)/\(Q .ret (⟨[pB 8 (eqP (Z4 (YR y_1)) y_1 && !decide (Ptr.kind y_1=4))],[(.x 0,[.mref (.x 0 0)])],[(.x 0 0,LC.mk (U:=U) .u64 (List.set l at_.toNat (YR y_1)) 0)]⟩:LSt U)))))/\(z1=false->(Z55 (y_2,()))/\(((0:Int)<=at_/\at_ < (l.length:Int))/\((0:Nat)<=at_.toNat)/\(Q .ret (⟨[pB 8 (eqP (Z4 (YR y_2)) y_2 && !decide (Ptr.kind y_2=4))],[(.x 0,[.mref (.x 0 0)])],[(.x 0 0,LC.mk (U:=U) .u64 (List.set l at_.toNat (YR y_2)) 0)]⟩:LSt U)))))))):
  A96 [] (⟨[(0,.ptr (.x 0) 0),pI 1 at_,pI 2 to,(3,.agg (enc .ptr p))],[(.x 0,[.mref (.x 0 0)])],[(.x 0 0,LC.mk (U:=U) .u64 l 0)]⟩:LSt U) Q:=
 (Eq.mpr (by kernel_rfl) (h _ rfl _ rfl):)
abbrev ZpT(l:List Int)(at_ to:Int)(p:Ptr):Prop:=AW (Z1 Zin) Try.f96 ZoH [] (Ys (ZaA.can ((l,()),at_,to,p,())) (ZaA.canX ((l,()),at_,to,p,())) (ZaA.canL ((l,()),at_,to,p,()))) (YP cfg Try.f96.ntmps Try.f96.results.toList (ZmE ((l,()),at_,to,p,())) (ZgF ((l,()),at_,to,p,())) (ZgH ((l,()),at_,to,p,())))
theorem ZnD(Zg1:CT 120 Z19)(hb:∀ (l:List Int) (at_:Int) (to:Int) (p:Ptr) (_:Unit),Z5E ((l,()),at_,to,p,())->ZpT l at_ to p):CT 96 Z9K:=
 J2 (l:=[(120,Z19)]) Z9 rfl (⟨Zg1,trivial⟩) ZoH Try.func96 rfl rfl 4 (fun _=> rfl) (by decide) (fun ⟨⟨l,_⟩,at_,to,p,_⟩=> hb l at_ to p ())
end
theorem ZeD:∀ (a:List Tree) (t:Tree),frW (a++[t])=max (frW a) t.words.length/\frK (a++[t])=max (frK a) t.kids.length
 | [],t=> by simp [frW,frK]
 | x ::r,t=> by
  obtain ⟨h1,h2⟩:=ZeD r t
  rw [QN,frW,frK,h1,h2,frW,frK]
  omega
theorem Z8M{ks:List Tree}{i:Int}(h0:0<=i)(h:i < ks.length):ks.take (i+1).toNat=ks.take i.toNat++[ks.getD i.toNat Tree.nil]:=by
 rw [show (i+1).toNat=i.toNat+1 by omega]
 exact Z4O (by omega)
theorem JK{ks:List Tree}{i:Int}(h0:0<=i)(h:i < ks.length):frW (ks.take (i+1).toNat)=max (frW (ks.take i.toNat)) (ks.getD i.toNat Tree.nil).words.length/\frK (ks.take (i+1).toNat)=max (frK (ks.take i.toNat)) (ks.getD i.toNat Tree.nil).kids.length:=by
 rw [Z8M h0 h]
 exact ZeD _ _
theorem JJ(t:Tree):t.words.length+t.kids.length+1<=Zh t:=by
 obtain ⟨k,w,ks⟩:=t
 rw [Zh]
 have:=Z1s ks
 show w.length+ks.length+1<=_
 omega
theorem Zg2:Contract Try.prog cfg 119 Z1G:=by
 refine Zli ?_
 intro t _ hp
 simp only [Zbh] at hp
 have hk:=JJ t
 refine Zrb _ _ ?_
 refine Za (ι:=Int × Int × Int) (fun p=> Z2I t p.1 p.2.1 p.2.2) (fun p=> 0<=p.2.2/\p.2.2<=t.kids.length/\p.1=frW (t.kids.take p.2.2.toNat)/\p.2.1=frK (t.kids.take p.2.2.toNat)) (fun p=> ((t.kids.length:Int) - p.2.2).toNat) (0,0,0) rfl ⟨by dsimp only;omega,by dsimp only;omega,rfl,rfl⟩ ?_
 rintro ⟨w,k,i⟩ ⟨h1,h2,h3,h4⟩
 dsimp only at h1 h2 h3 h4
 refine Zgp _ _ _ _ _ _ ?_
 (simp only [vcT,vcS])
 refine ⟨fun hi=> ⟨⟨h1,hi⟩,by ((unfold InR;omega)),(if w < ((t.kids.getD i.toNat Tree.nil).words.length:Int) then ((t.kids.getD i.toNat Tree.nil).words.length:Int) else w,if k < ((t.kids.getD i.toNat Tree.nil).kids.length:Int) then ((t.kids.getD i.toNat Tree.nil).kids.length:Int) else k,i+1),rfl,⟨by dsimp only;omega,by dsimp only;omega,?_,?_⟩,by dsimp only;omega⟩,fun hi=> ?_⟩
 ·dsimp only
  rw [(JK h1 hi).1,h3]
  split <;> omega
 ·dsimp only
  rw [(JK h1 hi).2,h4]
  split <;> omega
 ·have e:i=t.kids.length:=by omega
  subst e
  rw [Q4,QM] at h3 h4
  subst h3 h4
  (repeat' (first | exact trivial | exact rfl | apply And.intro))
theorem c82:Contract Try.prog cfg 82 Z1G:=by
 refine ZnR ?_
 intro t _ hp
 simp only [Zbh] at hp
 have hk:=JJ t
 refine Zso _ _ ?_
 refine Za (ι:=Int × Int × Int) (fun p=> Z0Q t p.1 p.2.1 p.2.2) (fun p=> 0<=p.2.2/\p.2.2<=t.kids.length/\p.1=frW (t.kids.take p.2.2.toNat)/\p.2.1=frK (t.kids.take p.2.2.toNat)) (fun p=> ((t.kids.length:Int) - p.2.2).toNat) (0,0,0) rfl ⟨by dsimp only;omega,by dsimp only;omega,rfl,rfl⟩ ?_
 rintro ⟨w,k,i⟩ ⟨h1,h2,h3,h4⟩
 dsimp only at h1 h2 h3 h4
 have fin:∀ (hi:i < t.kids.length) {w' k':Int},w'=frW (t.kids.take (i+1).toNat)->k'=frK (t.kids.take (i+1).toNat)->
   InR (i+1)/\∃ p:Int × Int × Int,Z0Q t w' k' (i+1)=Z0Q t p.1 p.2.1 p.2.2/\(0<=p.2.2/\p.2.2<=t.kids.length/\p.1=frW (t.kids.take p.2.2.toNat)/\p.2.1=frK (t.kids.take p.2.2.toNat))/\((t.kids.length:Int) - p.2.2).toNat < ((t.kids.length:Int) - i).toNat:=
  fun hi w' k' e1 e2=> ⟨by ((unfold InR;omega)),(w',k',i+1),rfl,⟨by dsimp only;omega,by dsimp only;omega,e1,e2⟩,by dsimp only;omega⟩
 refine Zko _ _ _ _ _ _ ?_
 (simp only [vcT,vcS])
 refine ⟨fun hi=> ⟨⟨h1,hi⟩,fun hc=> ⟨⟨h1,hi⟩,?_⟩,fun hc=> ?_⟩,fun hi=> ?_⟩
 ·refine Zd5 _ _ _ _ _ _ _ ?_
  (simp only [vcT,vcS])
  exact ⟨⟨h1,hi⟩,fun hd=> ⟨⟨h1,hi⟩,Z6l _ _ _ _ _ _ _ (fin hi (by rw [(JK h1 hi).1];omega) (by rw [(JK h1 hi).2];omega))⟩,fun hd=> Z6l _ _ _ _ _ _ _ (fin hi (by rw [(JK h1 hi).1];omega) (by rw [(JK h1 hi).2];omega))⟩
 ·refine Zd5 _ _ _ _ _ _ _ ?_
  (simp only [vcT,vcS])
  exact ⟨⟨h1,hi⟩,fun hd=> ⟨⟨h1,hi⟩,Z6l _ _ _ _ _ _ _ (fin hi (by rw [(JK h1 hi).1];omega) (by rw [(JK h1 hi).2];omega))⟩,fun hd=> Z6l _ _ _ _ _ _ _ (fin hi (by rw [(JK h1 hi).1];omega) (by rw [(JK h1 hi).2];omega))⟩
 ·have e:i=t.kids.length:=by omega
  subst e
  rw [Q4,QM] at h3 h4
  subst h3 h4
  (repeat' (first | exact trivial | exact rfl | apply And.intro))
theorem Zpx:Contract Try.prog cfg 123 Z3G:=by
 refine Zle ?_
 intro n _ _
 refine Zr7 _ _ ?_
 (simp only [vcT,vcS])
 refine Zj rfl ?_
 by_cases h1: -536870912<=n <;> by_cases h2:n < 536870912 <;> simp [h1,h2]
theorem Z3B(n:Int):IntKind.wrap .u32 n=n % 4294967296:=by
 simp [IntKind.wrap,IntKind.signed,IntKind.bits]
theorem ZhD{x y:Int}{a:Nat}(hx:0<=x)(hx':x < 2 ^ a)(hy:0<=y)(hs:x+y*2 ^ a < 4294967296):
  IntKind.wrap .u32 (BitVec.ofInt (IntKind.bits .u32) (y*2 ^ a) ||| BitVec.ofInt (IntKind.bits .u32) x).toNat=x+y*2 ^ a:=by
 have hp:=Y3 a
 have h1:0<=y*2 ^ a:=QE hy (QP hp)
 have e:∀ z:Int,0<=z->z < 4294967296->(BitVec.ofInt (IntKind.bits .u32) z).toNat=z.toNat:=by
  intro z z0 z1
  simp [IntKind.bits]
  omega
 rw [BitVec.toNat_or,e x hx (by omega),e _ h1 (by omega),Z3B]
 obtain ⟨m,rfl⟩:=Qg hx
 obtain ⟨n,rfl⟩:=Qg hy
 have hpn:(2:Int) ^ a=((2 ^ a:Nat):Int):=by simp
 rw [hpn] at hx' hs ⊢
 have hm:m < 2 ^ a:=by omega
 have hor:n*2 ^ a ||| m=m+n*2 ^ a:=by
  have h:=XY hm n
  rw [QF n,<-h,K7]
 rw [<-QX,Q4,Q4,hor]
 push_cast
 push_cast at hs
 omega
theorem Zpw:Contract Try.prog cfg 125 Z3F:=by
 refine Zlc ?_
 intro o k _ hp
 obtain ⟨hk0,hk⟩:=hp
 dsimp only at hk0 hk
 refine Zr5 _ _ _ ⟨by decide,Z7 rfl ?_⟩
 show _=4*(o % 1073741824)+k
 have e1:IntKind.wrap .u32 (IntKind.wrap .u32 o*2 ^ (min (Int.toNat 2) (IntKind.bits .u32)))=o % 1073741824*2 ^ 2:=by
  rw [Z3B,Z3B,show (2:Int) ^ (min (Int.toNat 2) (IntKind.bits .u32))=4 from rfl,show (2:Int) ^ 2=4 from rfl]
  omega
 have e2:IntKind.wrap .u32 k=k:=by rw [Z3B];omega
 rw [e1,e2,ZhD hk0 (by rw [show (2:Int) ^ 2=4 from rfl];omega) (by omega) (by rw [show (2:Int) ^ 2=4 from rfl];omega),show (2:Int) ^ 2=4 from rfl,Zo (by omega) (by omega)]
 omega
theorem ZpH:Contract Try.prog cfg 103 Z3Q:=by
 refine Zlw ?_
 intro l n _ hp
 obtain ⟨h1,h2,h3⟩:=hp
 dsimp only at h1 h2 h3
 refine Zrr _ _ _ ?_
 refine Za (ι:=Int × List Int) (fun p=> Z2L l n p.1 p.2) (fun p=> 0<=p.1/\p.1<=n/\p.2=l++zs p.1.toNat) (fun p=> (n - p.1).toNat) (0,l) rfl ⟨by dsimp only;omega,by dsimp only;omega,by simp [zs]⟩ ?_
 rintro ⟨i,m⟩ ⟨g1,g2,g3⟩
 dsimp only at g1 g2 g3
 refine Zgs _ _ _ _ _ _ ?_
 (simp only [vcT,vcS])
 subst g3
 refine ⟨fun hi=> ⟨?_,by ((unfold InR;omega)),(i+1,_),rfl,⟨by dsimp only;omega,by dsimp only;omega,?_⟩,by dsimp only;omega⟩,fun hi=> ?_⟩
 ·simp only [Q3,Y6,XN]
  omega
 ·dsimp only
  rw [show (i+1).toNat=i.toNat+1 by omega,Z14]
  simp [zs]
 ·have e:i=n:=by omega
  subst e
  (repeat' (first | exact trivial | exact rfl | apply And.intro))
theorem ZpG:Contract Try.prog cfg 104 Z3P:=by
 refine Zlv ?_
 intro t _ hp
 obtain ⟨h1,h2⟩:=hp
 dsimp only at h1 h2
 have hk:=JJ t
 refine Zrq _ _ ?_
 refine Za (ι:=Int × List Int) (fun p=> Z2K t p.1 p.2) (fun p=> 0<=p.1/\p.1<=t.kids.length/\p.2=Yd (t.kids.take p.1.toNat)) (fun p=> ((t.kids.length:Int) - p.1).toNat) (0,[]) rfl ⟨by dsimp only;omega,by dsimp only;omega,rfl⟩ ?_
 rintro ⟨i,m⟩ ⟨g1,g2,g3⟩
 dsimp only at g1 g2 g3
 refine Zgr _ _ _ _ _ ?_
 (simp only [vcT,vcS])
 subst g3
 refine ⟨fun hi=> ?_,fun hi=> ?_⟩
 ·have hw:=h2 _ (YK (l:=t.kids) (i:=i.toNat) (by omega) Tree.nil)
  have hl:(Yd (t.kids.take i.toNat)).length<=t.kids.length:=by rw [Yd,QW,Qa];omega
  refine ⟨⟨g1,hi⟩,⟨by omega,by omega⟩,?_,by ((unfold InR;omega)),(i+1,_),rfl,⟨by dsimp only;omega,by dsimp only;omega,?_⟩,by dsimp only;omega⟩
  ·simp only [XN]
   omega
  ·dsimp only
   rw [Z8M g1 hi,Yd,Yd,List.map_append]
   try rfl
 ·have e:i=t.kids.length:=by omega
  subst e
  rw [Q4,QM]
  (repeat' (first | exact trivial | exact rfl | apply And.intro))
theorem ZpI:Contract Try.prog cfg 102 Z3R:=by
 refine Zlx ?_
 intro a to k up _ hp
 obtain ⟨⟨h1,h2,h3⟩,⟨h4,h5⟩,h6,h7⟩:=hp
 dsimp only at h1 h2 h3 h4 h5 h6 h7
 have fin:∀ {x:Int},x=(to - a - 1) % 1073741824->IntKind.wrap .u64 (IntKind.wrap .u64 (4*x+k)+IntKind.wrap .u64 (up*4294967296))=Z0b a to k up:=by
  intro x hx
  have hx0:=Xb (to - a - 1) (show (1073741824:Int)≠0 by decide)
  have hx1:=X2 (to - a - 1) (show (0:Int) < 1073741824 by decide)
  rw [Zo (n:=4*x+k) (by omega) (by omega),Zo (n:=up*4294967296) (by omega) (by omega),Zo (by omega) (by omega)]
  unfold Z0b
  omega
 refine Zrs _ _ _ _ _ ?_
 (simp only [vcT,vcS])
 exact ⟨by ((unfold InR;omega)),by ((unfold InR;omega)),fun h=> ⟨by ((unfold InR;omega)),by ((unfold InR;omega)),by ((unfold InR;omega)),Z7 rfl (fin (by omega))⟩,fun h=> ⟨by ((unfold InR;omega)),by ((unfold InR;omega)),Z7 rfl (fin (by omega))⟩⟩
theorem Zdi{d k:Int}(n:Nat)(hk:min (Int.toNat k) (IntKind.bits .u64)=n)(h0:0<=d)(h1:d < 18446744073709551616)(h2:d*2 ^ n < 18446744073709551616):IntKind.wrap .u64 (IntKind.wrap .u64 d*2 ^ (min (Int.toNat k) (IntKind.bits .u64)))=d*2 ^ n:=by
 rw [hk,Zo h0 h1]
 exact Zo (QE h0 (QP (Y3 n))) h2
theorem Zja(p:Ptr):0<=YR p/\YR p < 18446744073709551616:=by
 unfold YR
 have h0:=Xb p.off (show (1073741824:Int)≠0 by decide)
 have h1:=X2 p.off (show (0:Int) < 1073741824 by decide)
 repeat' split
 all_goals omega
theorem Zg1:Contract Try.prog cfg 120 Z19:=by
 refine Zlh Zpx ZfZ Zpw c86 ?_
 intro p _ hp
 simp only [Z55] at hp
 have hr:=Zja p
 have o0:=Xb p.off (show (1073741824:Int)≠0 by decide)
 have o1:=X2 p.off (show (0:Int) < 1073741824 by decide)
 have fin:∀ {x:Int} {v1 v2 v3 v4 v5:V U},x=YR p->Z8r [1,1,1] (YA p x v1 v2 v3 v4 v5) (Zx cfg Try.f120.ntmps Try.f120.results.toList (Z9X (p,())) []):=by
  intro x v1 v2 v3 v4 v5 hx
  refine Zgo _ _ _ _ _ _ _ _ ?_
  refine ⟨by subst hx;exact hr,fun h=> h,fun h=> h,fun h=> h,?_⟩
  refine ZG (r':= .tup [(false,[.int .u64 x]),(false,[.bool (bif eqP (Z4 x) p then (p.kind !=4) else false)])]) ?_ (by (repeat' (first | exact trivial | exact rfl | apply And.intro)))
  simp only [Z9X]
  subst hx
  cases eqP (Z4 (YR p)) p <;> rfl
 have e32:min (Int.toNat 32) (IntKind.bits .u64)=32:=rfl
 have e48:min (Int.toNat 48) (IntKind.bits .u64)=48:=rfl
 have e35:min (Int.toNat 35) (IntKind.bits .u64)=35:=rfl
 have q32:(2:Int) ^ 32=4294967296:=rfl
 have q48:(2:Int) ^ 48=281474976710656:=rfl
 have q35:(2:Int) ^ 35=34359738368:=rfl
 refine Zra _ _ ?_
 (simp only [vcT,vcS])
 refine ⟨fun k1=> ⟨trivial,fun _=> trivial,fun _=> trivial,fun c=> ⟨⟨by dsimp only;omega,by dsimp only;omega⟩,by decide,by decide,fin ?_⟩,fun c=> fin ?_⟩,fun k1=> ⟨fun k2=> ⟨trivial,fun _=> trivial,fun _=> trivial,fun c=> ⟨⟨by dsimp only;omega,by dsimp only;omega⟩,by decide,by decide,fin ?_⟩,fun c=> fin ?_⟩,fun k2=> by rcases hp with h | h;exact absurd h k1;exact absurd h k2⟩⟩
 ·obtain ⟨⟨c1,c2⟩,c3⟩:=c
  rw [Zdi 32 e32 (by omega) (by omega) (by omega),Zdi 48 e48 (by omega) (by omega) (by omega),Z7Q (x:=4*(p.off % 1073741824)+0) (y:=p.data) (a:=32) (by omega) (by omega) (by omega) (by omega),Z7Q (y:=p.ptrs) (a:=48) (by omega) (by omega) (by omega) (by omega)]
  unfold YR
  rw [if_pos k1,if_pos ⟨c1,c2,c3⟩]
  omega
 ·unfold YR
  rw [if_pos k1,if_neg (by omega)]
 ·obtain ⟨⟨c1,c2⟩,c3⟩:=c
  rw [Zdi 32 e32 (by omega) (by omega) (by omega),Zdi 35 e35 (by omega) (by omega) (by omega),Z7Q (x:=4*(p.off % 1073741824)+1) (y:=p.code) (a:=32) (by omega) (by omega) (by omega) (by omega),Z7Q (y:=p.count) (a:=35) (by omega) (by omega) (by omega) (by omega)]
  unfold YR
  rw [if_neg k1,if_pos k2,if_pos ⟨c1,c2,c3⟩]
  omega
 ·unfold YR
  rw [if_neg k1,if_pos k2,if_neg (by omega)]
theorem c75:Contract Try.prog cfg 75 Z9L:=by
 refine ZnW ?_
 intro l n _ hp
 obtain ⟨h1,h2,h3⟩:=hp
 dsimp only at h1 h2 h3
 refine Zsv _ _ _ ⟨⟨h2,by dsimp only;omega⟩,?_⟩
 (repeat' (first | exact trivial | exact rfl | apply And.intro))
theorem Zjf:Contract Try.prog cfg 75 Z1Q:=by
 refine ZhW ?_
 intro l n _ hp
 obtain ⟨h1,h2,h3⟩:=hp
 dsimp only at h1 h2 h3
 subst h1
 refine Znq _ _ _ ⟨⟨h2,by simp;omega⟩,?_⟩
 (repeat' (first | exact trivial | exact rfl | apply And.intro))
theorem c96:Contract Try.prog cfg 96 Z9K:=by
 refine ZnD Zg1 ?_
 intro l a to p _ hp
 obtain ⟨⟨h1,h2,h3,h4⟩,hk⟩:=hp
 dsimp only at h1 h2 h3 h4 hk
 have he:=Zl4 hk h1 h3 (by omega) (by omega)
 have kk:p.kind=1\/p.kind=2:=by rcases hk.1 with h | h;exact .inl h.1;exact .inr h.1
 have hb:∀ y,y=Z58 a to p->(eqP (Z4 (YR y)) y && !decide (y.kind=4))=true/\YR y=Z42 a to p:=by
  rintro y rfl
  rw [he.2,ZbO,he.1]
  refine ⟨?_,rfl⟩
  have:(Z58 a to p).kind=p.kind:=rfl
  rw [this]
  simp only [Bool.true_and,Qz,decide_eq_false_iff_not]
  omega
 refine Zsa _ _ _ _ _ ?_
 intro y1 e1 y2 e2
 (simp only [vcT,vcS])
 refine ⟨by ((unfold InR;omega)),by ((unfold InR;omega)),fun h=> ?_,fun h=> ⟨?_,⟨h1,h2⟩,Nat.zero_le _,?_⟩,fun h=> ⟨?_,⟨h1,h2⟩,Nat.zero_le _,?_⟩⟩
 ·rcases hk.1 with g | g <;> ((unfold InR;omega))
 ·subst e1;exact kk
 ·obtain ⟨g1,g2⟩:=hb y1 (by rw [e1];unfold Z58;rw [if_pos h])
  rw [g1,g2]
  (repeat' (first | exact trivial | exact rfl | apply And.intro))
 ·subst e2;exact kk
 ·obtain ⟨g1,g2⟩:=hb y2 (by rw [e2];unfold Z58;rw [if_neg (by omega)])
  rw [g1,g2]
  (repeat' (first | exact trivial | exact rfl | apply And.intro))
theorem Z4W:∀ a b:List Tree,ZD (a++b)=ZD a+ZD b
 | [],b=> by simp [ZD]
 | t ::r,b=> by rw [QN,ZD,ZD,Z4W r b];omega
theorem Z4V:∀ a b:List Tree,Y7 (a++b)=Y7 a+Y7 b
 | [],b=> by simp [Y7]
 | .mk _ _ ks ::r,b=> by rw [QN,Y7,Y7,Z4V r b];omega
theorem Z1c{ks:List Tree}{i:Int}(h0:0<=i)(h:i < ks.length):ZD (ks.take (i+1).toNat)=ZD (ks.take i.toNat)+Zq (ks.getD i.toNat Tree.nil):=by
 rw [Z8M h0 h,Z4W,ZD,ZD];try rfl
theorem Z1b{ks:List Tree}{i:Int}(h0:0<=i)(h:i < ks.length):Y7 (ks.take (i+1).toNat)=Y7 (ks.take i.toNat)+ZD (ks.getD i.toNat Tree.nil).kids:=by
 rw [Z8M h0 h,Z4V]
 cases ks.getD i.toNat Tree.nil
 rw [Y7,Y7];try rfl
theorem JI(ks:List Tree)(n:Nat):ZD (ks.take n)<=ZD ks:=by
 conv=> rhs;rw [<-XL n ks,Z4W]
 omega
theorem JH(ks:List Tree)(n:Nat):Y7 (ks.take n)<=Y7 ks:=by
 conv=> rhs;rw [<-XL n ks,Z4V]
 omega
theorem Js{t:Tree}{i:Nat}(h:i < t.kids.length):Zh (t.kids.getD i Tree.nil)+1<=Zh t:=by
 obtain ⟨k,w,ks⟩:=t
 have:=YK (l:=ks) h Tree.nil
 have hm:∀ {l:List Tree} {x:Tree},x∈l->Zh x<=Zv l:=by
  intro l
  induction l with
  | nil=> intro x hx;cases hx
  | cons y l ih=>
   intro x hx
   rw [Zv]
   rcases QJ.1 hx with rfl | hx
   ·omega
   ·have:=ih hx;omega
 have:=hm this
 rw [Zh]
 show Zh (ks.getD i Tree.nil)+1<=_
 omega
theorem Z9O{t:Tree}(h:Zh t<=1000000):Zq t<=1000000000000:=X8 (Z8N t) (X8 (Nat.mul_le_mul h h) (by decide))
theorem c54:Contract Try.prog cfg 54 Z72:=by
 refine Zoe c82 c57 ?_
 intro N t _ hp hN
 simp only [Zbh] at hp
 have hN:Zh t < N+1:=hN
 have hk:=JJ t
 have hs:=Z9O hp
 have hK:=Z1d t.kids
 have low:∀ {x:Int} {v:V U},x+ZD t.kids=Zq t->0<=x->A54 N [1,1,1] (Z2p t x v) (Zx cfg Try.f54.ntmps Try.f54.results.toList (Zb4 (t,())) []):=by
  intro x v hx h0
  refine ZkN _ _ _ _ _ ?_
  refine Za (ι:=Int × Int) (fun p=> Z4w t p.1 p.2) (fun p=> 0<=p.2/\p.2<=t.kids.length/\p.1=x+ZD (t.kids.take p.2.toNat)) (fun p=> ((t.kids.length:Int) - p.2).toNat) (x,0) rfl ⟨by dsimp only;omega,by dsimp only;omega,by simp [ZD]⟩ ?_
  rintro ⟨s,i⟩ ⟨g1,g2,g3⟩
  dsimp only at g1 g2 g3
  refine ZkL _ _ _ _ _ _ ?_
  (simp only [vcT,vcS])
  simp only [Tree.eta]
  refine ⟨fun hi=> ?_,fun hi=> ?_⟩
  ·have hm:=Js (t:=t) (i:=i.toNat) (by omega)
   have ht:=Z1c g1 hi
   have hl:=JI t.kids (i+1).toNat
   have q1:Zh (t.kids.getD i.toNat Tree.nil)<=1000000:=by omega
   have q2:Zh (t.kids.getD i.toNat Tree.nil) < N:=by omega
   exact ⟨⟨g1,hi⟩,q1,q2,by ((unfold InR;omega)),by ((unfold InR;omega)),(s+Zq (t.kids.getD i.toNat Tree.nil),i+1),rfl,⟨by dsimp only;omega,by dsimp only;omega,by dsimp only;omega⟩,by dsimp only;omega⟩
  ·have e:i=t.kids.length:=by omega
   subst e
   rw [Q4,QM] at g3
   exact Z7 rfl (by show s=(Zq t:Int);omega)
 have esz:Zq t=if t.kind=1 then t.words.length+t.kids.length+ZD t.kids else if t.kind=8 then t.kids.length+ZD t.kids else if t.kind=9 then 1+t.kids.length*(frW t.kids+frK t.kids)+Y7 t.kids
   else if 2<=t.kind/\t.kind<=7 then (ZK (t.kind - 2) t.kids.length).toNat else ZD t.kids:=by
  obtain ⟨k,w,ks⟩:=t
  rw [Zq];try rfl
 have mid:∀ {b:Bool},(b=true->2<=t.kind/\t.kind<=7)->(b=false->t.kind≠1/\t.kind≠8/\¬(2<=t.kind/\t.kind<=7))->A54 N [1,1,0,1,0,1,1,1,1,1] (JO t b) (AExit.inBlock 0 (S54 N [1,1,1] (Zx cfg Try.f54.ntmps Try.f54.results.toList (Zb4 (t,())) []))):=by
  intro b hb hb'
  refine ZkM _ _ _ _ ?_
  (simp only [vcT,vcS])
  simp only [Tree.eta]
  refine ⟨fun h=> ?_,fun h=> ⟨fun h9=> ?_,fun h9=> ?_⟩⟩
  ·have:=hb h
   refine ⟨by ((unfold InR;omega)),trivial,Z7 rfl ?_⟩
   show ZK _ _=(Zq t:Int)
   have hr:0<=ZK (t.kind - 2) t.kids.length:=by
    unfold ZK
    split
    ·omega
    ·rcases Z17 (t.kind - 2) with e | e | e | e | e | e
     ·omega
     all_goals (rw [e];omega)
   rw [esz,if_neg (by omega),if_neg (by omega),if_neg (by omega),if_pos this]
   omega
  ·rw [if_neg (by omega),if_neg (by omega),if_pos h9] at esz
   have hf:=Z1s t.kids
   have hmk:Zv t.kids<=Zh t:=by obtain ⟨k,w,ks⟩:=t;rw [Zh];show Zv ks<=_;omega
   obtain ⟨P,hP⟩:∃ P,P=t.kids.length*(frW t.kids+frK t.kids):=⟨_,rfl⟩
   have hPI:(t.kids.length:Int)*((frW t.kids:Int)+frK t.kids)=P:=by rw [hP,QX,QD]
   rw [<-hP] at esz
   rw [hPI]
   refine ⟨hp,by ((unfold InR;omega)),by ((unfold InR;omega)),by ((unfold InR;omega)),?_⟩
   refine Za (ι:=Int × Int) (fun p=> Z4v t p.1 p.2) (fun p=> 0<=p.1/\p.1<=t.kids.length/\p.2=1+(P:Int)+Y7 (t.kids.take p.1.toNat)) (fun p=> ((t.kids.length:Int) - p.1).toNat) (0,1+(P:Int)) rfl ⟨by dsimp only;omega,by dsimp only;omega,?_⟩ ?_
   ·simp [Y7]
   rintro ⟨i,s⟩ ⟨g1,g2,g3⟩
   dsimp only at g1 g2 g3
   refine ZkK _ _ _ _ _ _ ?_
   (simp only [vcT,vcS])
   refine ⟨fun hi=> ?_,fun hi=> ?_⟩
   ·have hm:=Js (t:=t) (i:=i.toNat) (by omega)
    have ht:=Z1b g1 hi
    have hl:=JH t.kids (i+1).toNat
    refine Za (ι:=Int × Int) (fun p=> Z4u t i p.1 p.2) (fun p=> 0<=p.2/\p.2<=(t.kids.getD i.toNat Tree.nil).kids.length/\p.1=s+ZD ((t.kids.getD i.toNat Tree.nil).kids.take p.2.toNat)) (fun p=> (((t.kids.getD i.toNat Tree.nil).kids.length:Int) - p.2).toNat) (s,0) rfl ⟨by dsimp only;omega,by dsimp only;omega,by simp [ZD]⟩ ?_
    rintro ⟨s2,j⟩ ⟨f1,f2,f3⟩
    dsimp only at f1 f2 f3
    refine ZkJ _ _ _ _ _ _ _ _ ?_
    rintro y1 rfl y2 rfl y3 rfl
    (simp only [vcT,vcS])
    refine ⟨⟨g1,hi⟩,fun hj=> ?_,fun hj=> ?_⟩
    ·have hm2:=Js (t:=t.kids.getD i.toNat Tree.nil) (i:=j.toNat) (by omega)
     have hk2:=JJ (t.kids.getD i.toNat Tree.nil)
     have ht2:=Z1c f1 hj
     have hl2:=JI (t.kids.getD i.toNat Tree.nil).kids (j+1).toNat
     have q1:Zh ((t.kids.getD i.toNat Tree.nil).kids.getD j.toNat Tree.nil)<=1000000:=by omega
     have q2:Zh ((t.kids.getD i.toNat Tree.nil).kids.getD j.toNat Tree.nil) < N:=by omega
     exact ⟨⟨g1,hi⟩,⟨f1,hj⟩,q1,q2,by ((unfold InR;omega)),by ((unfold InR;omega)),(s2+Zq ((t.kids.getD i.toNat Tree.nil).kids.getD j.toNat Tree.nil),j+1),rfl,⟨by dsimp only;omega,by dsimp only;omega,by dsimp only;omega⟩,by dsimp only;omega⟩
    ·have e:j=(t.kids.getD i.toNat Tree.nil).kids.length:=by omega
     subst e
     rw [Q4,QM] at f3
     exact ⟨by ((unfold InR;omega)),(i+1,s2),rfl,⟨by dsimp only;omega,by dsimp only;omega,by dsimp only;omega⟩,by dsimp only;omega⟩
   ·have e:i=t.kids.length:=by omega
    subst e
    rw [Q4,QM] at g3
    exact Z7 rfl (by show s=(Zq t:Int);omega)
  ·have:=hb' h
   refine low ?_ (QQ _)
   rw [esz,if_neg (by omega),if_neg (by omega),if_neg h9,if_neg this.2.2]
   omega
 refine ZsO _ _ _ ?_
 (simp only [vcT,vcS])
 refine ⟨fun h=> ⟨by ((unfold InR;omega)),low (by rw [esz,if_pos h];omega) (by omega)⟩,fun h1=> ⟨fun h=> low (by rw [esz,if_neg h1,if_pos h];omega) (by omega),fun h8=> ⟨fun h=> mid ?_ ?_,fun n2=> ⟨fun h=> mid ?_ ?_,fun n3=> ⟨fun h=> mid ?_ ?_,fun n4=> ⟨fun h=> mid ?_ ?_,fun n5=> ⟨fun h=> mid ?_ ?_,fun n6=> mid ?_ ?_⟩⟩⟩⟩⟩⟩⟩
 all_goals first | (intro hh;have:=eq_of_beq hh;omega) | (intro hh;have:=ne_of_beq_false hh;omega)
theorem c95:Contract Try.prog cfg 95 Z6F:=by
 refine ZnE Zg2 Zg3 Zay ?_
 intro N t _ hp hN
 obtain ⟨hp,d,hr⟩:=hp
 dsimp only at hp hr
 have hN:Zh t < N+1:=hN
 have hk:=JJ t
 have hs:=Z9O hp
 have rt:RiT t.kind t.words t.kids d:=riT (by rw [Tree.eta];exact hr)
 have esz:Zq t=if t.kind=1 then t.words.length+t.kids.length+ZD t.kids else if t.kind=8 then t.kids.length+ZD t.kids else if t.kind=9 then 1+t.kids.length*(frW t.kids+frK t.kids)+Y7 t.kids
   else if 2<=t.kind/\t.kind<=7 then (ZK (t.kind - 2) t.kids.length).toNat else ZD t.kids:=by
  obtain ⟨k,w,ks⟩:=t
  rw [Zq];try rfl
 have low:∀ {x:Int} {K:AExit->LSt U->Prop},x+ZD t.kids=Zq t->0<=x->(∀ s:LSt U,K .ret s=Zx cfg Try.f95.ntmps Try.f95.results.toList (Zb4 (t,())) [] .ret s)->True:=fun _ _ _=> trivial
 have loopL:∀ {x:Int},x+ZD t.kids=Zq t->0<=x->Zk (A95 N [1,1,1,0,1,0,0]) (Z0k t x 0) (AExit.inBlock 3 (S95 N [1,1,1,1] (Zx cfg Try.f95.ntmps Try.f95.results.toList (Zb4 (t,())) []))):=by
  intro x hx h0
  refine Za (ι:=Int × Int) (fun p=> Z0k t p.1 p.2) (fun p=> 0<=p.2/\p.2<=t.kids.length/\p.1=x+ZD (t.kids.take p.2.toNat)) (fun p=> ((t.kids.length:Int) - p.2).toNat) (x,0) rfl ⟨by dsimp only;omega,by dsimp only;omega,by simp [ZD]⟩ ?_
  rintro ⟨s,i⟩ ⟨g1,g2,g3⟩
  dsimp only at g1 g2 g3
  refine Zkj _ _ _ _ _ _ ?_
  (simp only [vcT,vcS])
  simp only [Tree.eta]
  refine ⟨fun hi=> ?_,fun hi=> ?_⟩
  ·have hm:=Js (t:=t) (i:=i.toNat) (by omega)
   have ht:=Z1c g1 hi
   have hl:=JI t.kids (i+1).toNat
   have q1:Zh (t.kids.getD i.toNat Tree.nil)<=1000000:=by omega
   have q2:Zh (t.kids.getD i.toNat Tree.nil) < N:=by omega
   exact ⟨⟨g1,hi⟩,⟨q1,_,(rt.kids _ (YK (by omega) _)).1⟩,q2,by ((unfold InR;omega)),by ((unfold InR;omega)),(s+Zq (t.kids.getD i.toNat Tree.nil),i+1),rfl,⟨by dsimp only;omega,by dsimp only;omega,by dsimp only;omega⟩,by dsimp only;omega⟩
  ·have e:i=t.kids.length:=by omega
   subst e
   rw [Q4,QM] at g3
   exact Z7 rfl (by show s=(Zq t:Int);omega)
 refine Zsb _ _ _ ?_
 rintro y1 rfl
 (simp only [vcT,vcS])
 refine ⟨fun h=> ⟨by ((unfold InR;omega)),loopL (by rw [esz,if_pos h];omega) (by omega)⟩,fun h1=> ⟨fun h=> loopL (by rw [esz,if_neg h1,if_pos h];omega) (by omega),fun h8=> ⟨trivial,fun h=> ?_,fun h27=> ⟨fun h9=> ?_,fun h9=> loopL (by rw [esz,if_neg h1,if_neg h8,if_neg h9,if_neg h27];omega) (Int.le_refl _)⟩⟩⟩⟩
 ·refine ⟨by ((unfold InR;omega)),trivial,Z7 rfl ?_⟩
  show ZK _ _=(Zq y1:Int)
  have hr:0<=ZK (y1.kind - 2) y1.kids.length:=by
   unfold ZK
   split
   ·omega
   ·rcases Z17 (y1.kind - 2) with e | e | e | e | e | e
    ·omega
    all_goals (rw [e];omega)
  rw [esz,if_neg (by omega),if_neg (by omega),if_neg (by omega),if_pos h]
  omega
 ·rw [if_neg (by omega),if_neg (by omega),if_pos h9] at esz
  have hf:=Z1s y1.kids
  have hmk:Zv y1.kids<=Zh y1:=by obtain ⟨k,w,ks⟩:=y1;rw [Zh];show Zv ks<=_;omega
  obtain ⟨P,hP⟩:∃ P,P=y1.kids.length*(frW y1.kids+frK y1.kids):=⟨_,rfl⟩
  have hPI:(y1.kids.length:Int)*((frW y1.kids:Int)+frK y1.kids)=P:=by rw [hP,QX,QD]
  rw [<-hP] at esz
  rw [hPI]
  refine ⟨hp,by ((unfold InR;omega)),by ((unfold InR;omega)),by ((unfold InR;omega)),?_⟩
  refine Za (ι:=Int × Int) (fun p=> Z4g y1 p.1 p.2) (fun p=> 0<=p.2/\p.2<=y1.kids.length/\p.1=1+(P:Int)+Y7 (y1.kids.take p.2.toNat)) (fun p=> ((y1.kids.length:Int) - p.2).toNat) (1+(P:Int),0) rfl ⟨by dsimp only;omega,by dsimp only;omega,?_⟩ ?_
  ·simp [Y7]
  rintro ⟨s,i⟩ ⟨g1,g2,g3⟩
  dsimp only at g1 g2 g3
  refine Zki _ _ _ _ _ _ ?_
  rintro y2 rfl y3 rfl
  (simp only [vcT,vcS])
  refine ⟨fun hi=> ?_,fun hi=> ?_⟩
  ·have hm:=Js (t:=y1) (i:=i.toNat) (by omega)
   have ht:=Z1b g1 hi
   have hl:=JH y1.kids (i+1).toNat
   have hmem:=YK (l:=y1.kids) (i:=i.toNat) (by omega) Tree.nil
   have hk1:=(rt.kids _ hmem).2.2.2 h9
   have hkr:=(rt.kids _ hmem).1
   generalize y1.kids.getD i.toNat Tree.nil=y at*
   have ey:Zq y=y.words.length+y.kids.length+ZD y.kids:=by
    obtain ⟨k,w,ks⟩:=y
    have hk1:k=1:=hk1
    rw [Zq,if_pos hk1];try rfl
   have q1:Zh y<=1000000:=by omega
   have qs:=Z9O q1
   have hs':Zq y1<=1000000000000:=hs
   have q2:Zh y < N:=by omega
   exact ⟨⟨g1,hi⟩,⟨q1,_,hkr⟩,q2,by ((unfold InR;omega)),by ((unfold InR;omega)),by ((unfold InR;omega)),by ((unfold InR;omega)),(s+((Zq y:Int) - y.words.length - y.kids.length),i+1),rfl,⟨by dsimp only;omega,by dsimp only;omega,by dsimp only;omega⟩,by dsimp only;omega⟩
  ·have e:i=y1.kids.length:=by omega
   subst e
   rw [Q4,QM] at g3
   exact Z7 rfl (by show s=(Zq y1:Int);omega)
theorem c73:Contract Try.prog cfg 73 Z6U:=by
 refine ZnX c72 c95 ?_
 intro t _ hp
 obtain ⟨hp,d,hr⟩:=hp
 dsimp only at hp hr
 have hm:=JB t
 refine Zsx _ _ ?_
 simp only [Tree.eta]
 exact ⟨by show Zh t<=_;omega,⟨by dsimp only;omega,d,J8 t d hr⟩,Z7 rfl rfl⟩
theorem ZlU{f:FuncId}{α:Type}{A:ArgL α}{pre pre':α->Prop}{res res':α->V U}(h:Contract Try.prog cfg f (fs A (fun a=> [pre a]) res))(hh:∀ a,pre' a->pre a/\res a=res' a):Contract Try.prog cfg f (fs A (fun a=> [pre' a]) res'):=by
 refine YO h.1 rfl ?_
 intro args X ps r X' hs hps
 unfold fs at hs
 simp only at hs
 split at hs
 ·split at hs
  ·rename_i a ha
   cases hs
   obtain ⟨h1,h2⟩:=hh a hps.1
   rw [<-h2]
   exact h.one rfl args [] [pre a] _ [] (by unfold fs;simp only [ha]) ⟨h1,trivial⟩
  ·cases hs
 ·cases hs
def ZdY(a:Int × List Int × Unit):Prop:=(okW a.2.1/\a.2.1.length<=1099511627776)/\Jf a.1 a.2.1=true
noncomputable def Zdz(a:Int × List Int × Unit):V U:= .tup [(false,[.slice (U:=U) .u64 (Z2T a.1 a.2.1) .unk]),(false,[.bool true])]
noncomputable def Z7i:Fs U:=fs Zk6 (fun a=> [ZdY a]) Zdz
theorem Zje:Contract Try.prog cfg 101 Z7i:=ZlU Ztm fun a h=> ⟨h.1,by
 unfold Zb9 Zdz
 rw [h.2]
 unfold Z3W
 rw [if_pos h.2]⟩
noncomputable section
def Z5w:ArgM ((List Int × Unit) × Int × Tree × Unit):=(.obj 0 (.cons (cWr .u64 0 0) .nil) (.cons (Zr .i64) (.cons (aEl .tree) .nil)))
def Z94(a:(List Int × Unit) × Int × Tree × Unit):Prop:=(0<=a.2.1/\a.2.1 < a.1.1.length/\a.1.1.length+Zq a.2.2.1<=1000000)/\(Zh a.2.2.1<=1000000/\rng a.2.2.1)/\Tree.kind a.2.2.1≠10/\∃ d,Z8 a.2.2.1 d=true
def Zl8(a:(List Int × Unit) × Int × Tree × Unit):Nat:=4*Zh a.2.2.1+3
def Zb3(a:(List Int × Unit) × Int × Tree × Unit):V U:= .c (.bool true)
def Z7u(a:(List Int × Unit) × Int × Tree × Unit):List (List (C U)):=[[.mref (.x 0 0)]]
def Z7x(a:(List Int × Unit) × Int × Tree × Unit):List (Tok × LC U):=[(.x 0 0,LC.mk (U:=U) .u64 (YZ a.1.1 a.2.1 a.2.2.1) 0)]
def Z4S:Fs U:=J5 Z5w (fun a=> [Z94 a]) Zb3 Z7u Z7x
def Z8Z(a:(List Int × Unit) × Int × Tree × Unit):Prop:=(0<=a.2.1/\a.1.1.length+ZD a.2.2.1.kids<=1000000/\Z6x a.1.1 (Int.toNat a.2.1) a.2.2.1.kids.length)/\(Zh a.2.2.1<=1000000/\rng a.2.2.1)/\∀ k∈Tree.kids a.2.2.1,Tree.kind k≠10/\∃ d,Z8 k d=true
def ZhO(a:(List Int × Unit) × Int × Tree × Unit):Nat:=4*Zh a.2.2.1+1
def Z9V(a:(List Int × Unit) × Int × Tree × Unit):List (Tok × LC U):=[(.x 0 0,LC.mk (U:=U) .u64 (Z82 a.1.1 a.2.1 a.2.2.1) 0)]
def Zgy:Fs U:=J5 Z5w (fun a=> [Z8Z a]) Zb3 Z7u Z9V
def Z5u:ArgM ((List Int × Unit) × Int × Int × Tree × Unit):=(.obj 0 (.cons (cWr .u64 0 0) .nil) (.cons (Zr .i64) (.cons (Zr .i64) (.cons (aEl .tree) .nil))))
def Z90(a:(List Int × Unit) × Int × Int × Tree × Unit):Prop:=((0<=a.2.1/\a.2.2.2.1.words.length<=a.2.2.1)/\a.1.1.length+ZD a.2.2.2.1.kids<=1000000/\Z6x a.1.1 (Int.toNat a.2.1) (Int.toNat a.2.2.1+a.2.2.2.1.kids.length))/\(Zh a.2.2.2.1<=1000000/\rng a.2.2.2.1)/\∀ k∈Tree.kids a.2.2.2.1,Tree.kind k≠10/\∃ d,Z8 k d=true
def ZhP(a:(List Int × Unit) × Int × Int × Tree × Unit):Nat:=4*Zh a.2.2.2.1+2
def Zdq(a:(List Int × Unit) × Int × Int × Tree × Unit):V U:= .c (.bool true)
def Z9U(a:(List Int × Unit) × Int × Int × Tree × Unit):List (List (C U)):=[[.mref (.x 0 0)]]
def Z9W(a:(List Int × Unit) × Int × Int × Tree × Unit):List (Tok × LC U):=[(.x 0 0,LC.mk (U:=U) .u64 (Zc6 a.1.1 a.2.1 a.2.2.1 a.2.2.2.1) 0)]
def ZgA:Fs U:=J5 Z5u (fun a=> [Z90 a]) Zdq Z9U Z9W
def Zbf(a:(List Int × Unit) × Int × Tree × Unit):Prop:=(0<=a.2.1/\a.2.1 < a.1.1.length/\a.1.1.length+Zq a.2.2.1<=1000000)/\(Zh a.2.2.1<=1000000/\rng a.2.2.1)/\Tree.kind a.2.2.1≠10/\∃ d,Z8 a.2.2.1 d=true/\Tree.kind a.2.2.1=9
def Zl7(a:(List Int × Unit) × Int × Tree × Unit):Nat:=4*Zh a.2.2.1+2
def Zgz:Fs U:=J5 Z5w (fun a=> [Zbf a]) Zb3 Z7u Z7x
def Z0i(N:Nat):List (FuncId × Fs U):=(74,J5 Z5w (fun a=> [Z94 a,Zl8 a < N]) Zb3 Z7u Z7x) ::(99,J5 Z5w (fun a=> [Z8Z a,ZhO a < N]) Zb3 Z7u Z9V) ::(97,J5 Z5u (fun a=> [Z90 a,ZhP a < N]) Zdq Z9U Z9W) ::(98,J5 Z5w (fun a=> [Zbf a,Zl7 a < N]) Zb3 Z7u Z7x) ::[(75,Z9L),(96,Z9K),(100,Z6n),(101,Z7i),(119,Z1G),(120,Z19)]
def ZlJ:Z6 U:=fun i=> match i with
 | 0=> ([(0,[]),(1,[]),(5,[])],[(.loc 5,[]),(.x 0,[.wr .u64])])
 | 1=> ([(0,[]),(1,[]),(5,[]),(16,[])],[(.loc 5,[]),(.x 0,[.wr .u64])])
 | 2=> ([(6,[])],[(.x 0,[.wr .u64])])
 | 3=> ([(0,[]),(1,[]),(5,[]),(20,[])],[(.loc 5,[]),(.x 0,[.wr .u64])])
 | 4=> ([(0,[]),(1,[]),(5,[]),(7,[])],[(.loc 5,[]),(.x 0,[.wr .u64])])
 | 5=> ([(6,[])],[(.x 0,[.wr .u64])])
 | 6=> ([(0,[]),(1,[]),(5,[]),(53,[])],[(.loc 5,[]),(.x 0,[.wr .u64])])
 | 7=> ([(6,[])],[(.x 0,[.wr .u64])])
 | 8=> ([(0,[]),(1,[]),(5,[]),(61,[])],[(.loc 5,[]),(.x 0,[.wr .u64])])
 | 9=> ([(0,[]),(1,[]),(5,[]),(8,[])],[(.loc 5,[]),(.x 0,[.wr .u64])])
 | 10=> ([(6,[])],[(.x 0,[.wr .u64])])
 | 11=> ([(0,[]),(1,[]),(5,[]),(9,[])],[(.loc 5,[]),(.x 0,[.wr .u64])])
 | 12=> ([(0,[]),(1,[]),(5,[]),(9,[]),(10,[])],[(.loc 5,[]),(.x 0,[.wr .u64])])
 | 13=> ([(0,[]),(1,[]),(5,[]),(9,[]),(10,[.own .u64]),(88,[]),(89,[]),(90,[])],[(.loc 5,[]),(.x 0,[.wr .u64])])
 | 14=> ([(0,[]),(1,[]),(5,[]),(9,[]),(10,[]),(88,[]),(89,[]),(90,[]),(91,[])],[(.loc 5,[]),(.x 0,[.wr .u64])])
 | 15=> ([(0,[]),(1,[]),(5,[]),(9,[]),(10,[]),(12,[]),(88,[]),(89,[]),(90,[])],[(.loc 5,[]),(.loc 12,[]),(.x 0,[.wr .u64])])
 | 16=> ([(0,[]),(1,[]),(5,[]),(9,[]),(10,[]),(88,[]),(89,[]),(90,[])],[(.loc 5,[]),(.x 0,[.wr .u64])])
 | 17=> ([(0,[]),(1,[]),(5,[]),(9,[]),(10,[.own .u64]),(88,[]),(89,[]),(90,[])],[(.loc 5,[]),(.x 0,[.wr .u64])])
 | 18=> ([(0,[]),(1,[]),(5,[]),(9,[]),(13,[]),(14,[])],[(.loc 5,[]),(.x 0,[.wr .u64])])
 | 19=> ([(0,[]),(1,[]),(5,[]),(9,[]),(13,[]),(14,[]),(15,[])],[(.loc 5,[]),(.x 0,[.wr .u64])])
 | 20=> ([(0,[]),(1,[]),(5,[]),(9,[]),(14,[]),(15,[])],[(.loc 5,[]),(.x 0,[.wr .u64])])
 | 21=> ([(6,[])],[(.x 0,[.wr .u64])])
 | _=> ([],[])
def Z4q(l:List Int)(at_:Int)(t:Tree)(x90:Int)(x10:List Int):LSt U:=(⟨[(0,.ptr (.x 0) 0),pI 1 at_,pL 5,pI 9 ((t.kind:Int) - 2),(10,.c (sU .u64 x10 (.own (.e 10 0)))),(88,.c (sU .tree t.kids .unk)),pI 89 (t.kids.length:Int),pI 90 x90],[(.loc 5,(enc .tree t)),(.x 0,[.mref (.x 0 0)])],[(.x 0 0,LC.mk (U:=U) .u64 l 0)]⟩:LSt U)
abbrev A74(N:Nat)(p:List Nat):=AW (Z1 (Z0i N)) Try.f74 ZlJ p
abbrev S74(N:Nat)(p:List Nat):=SW (Z1 (Z0i N)) Try.f74 ZlJ p
theorem Zsw(N:Nat)(l:List Int)(at_:Int)(t:Tree)(Q:QT)(h:∀ y_1,y_1=t->∀ y_2,y_2=(Int.toNat (((t.words.length:Int):Int)+(t.kids.length:Int)))->∀ y_3,y_3=(Ptr.mk 1 0 (t.words.length:Int) (t.kids.length:Int) 0 0 0 false)->∀ y_4,y_4=(Z42 at_ (l.length:Int) (Ptr.mk 2 0 0 0 6 (t.kids.length:Int) 0 false))->let z1:=bif true then true else false;let z0:=Z42 at_ (l.length:Int) y_3;(((t.kind==0)=true->(Q .ret (⟨[pB 6 true],[(.x 0,[.mref (.x 0 0)])],[(.x 0 0,LC.mk (U:=U) .u64 l 0)]⟩:LSt U)))/\((t.kind==0)=false->(((t.kind==1)=true->(InR (((t.words.length:Int):Int)+(t.kids.length:Int)))/\(Z7I ((l,()),(((t.words.length:Int):Int)+(t.kids.length:Int)),()))/\((Z5E (((l++zs y_2),()),at_,(l.length:Int),y_3,()))/\(Tr (true=true))/\(Tr (true=true))/\(Tr (true=true))/\(Tr (true=true))/\(Tr (true=true))/\(Tr (true=true))/\(Z90 ((((l++zs y_2).set at_.toNat z0),()),(l.length:Int),(t.words.length:Int),y_1,()))/\(ZhP ((((l++zs y_2).set at_.toNat z0),()),(l.length:Int),(t.words.length:Int),y_1,()) < N)/\(Q .ret (⟨[pB 6 z1],[(.x 0,[.mref (.x 0 0)])],[(.x 0 0,LC.mk (U:=U) .u64 (Zc6 ((l++zs y_2).set at_.toNat z0) (l.length:Int) (t.words.length:Int) y_1) 0)]⟩:LSt U))))/\((t.kind==1)=false->(((t.kind==9)=true->(Zbf ((l,()),at_,y_1,()))/\(Zl7 ((l,()),at_,y_1,()) < N)/\(Q .ret (⟨[pB 6 true],[(.x 0,[.mref (.x 0 0)])],[(.x 0 0,LC.mk (U:=U) .u64 (YZ l at_ y_1) 0)]⟩:LSt U)))/\((t.kind==9)=false->(((t.kind==8)=true->(Z7I ((l,()),(t.kids.length:Int),()))/\((Z5E (((l++zs (Int.toNat (t.kids.length:Int))),()),at_,(l.length:Int),(Ptr.mk 2 0 0 0 6 (t.kids.length:Int) 0 false),()))/\(Tr (true=true))/\(Tr (true=true))/\(Tr (true=true))/\(Z8Z ((((l++zs (Int.toNat (t.kids.length:Int))).set at_.toNat y_4),()),(l.length:Int),y_1,()))/\(ZhO ((((l++zs (Int.toNat (t.kids.length:Int))).set at_.toNat y_4),()),(l.length:Int),y_1,()) < N)/\(Q .ret (⟨[pB 6 z1],[(.x 0,[.mref (.x 0 0)])],[(.x 0 0,LC.mk (U:=U) .u64 (Z82 ((l++zs (Int.toNat (t.kids.length:Int))).set at_.toNat y_4) (l.length:Int) y_1) 0)]⟩:LSt U))))/\((t.kind==8)=false->(InR (t.kind - 2))/\(Zk (A74 N [1,1,1,1,0,1,0,0]) (Z4q l at_ t 0 []) (xB 1 (S74 N [1,1,1,1,1] Q)))))))))))):
  A74 N [] (⟨[(0,.ptr (.x 0) 0),pI 1 at_,(2,.agg (enc .tree t))],[(.x 0,[.mref (.x 0 0)])],[(.x 0 0,LC.mk (U:=U) .u64 l 0)]⟩:LSt U) Q:=
 (Eq.mpr (by kernel_rfl) (h _ (Zu _) _ rfl _ rfl _ rfl):)
theorem ZkC(N:Nat)(l:List Int)(at_:Int)(t:Tree)(x90:Int)(x10:List Int)(N0:NT)(Q:QT)(h:∀ y_1,y_1=(t.kids.getD x90.toNat Tree.nil)->∀ y_2,y_2=(Int.toNat ((Z2T (t.kind - 2) x10).length:Int))->∀ y_3,y_3=y_1->let z2:=decide (x90 < (t.kids.length:Int));let z1:=Ptr.mk 2 0 0 0 (t.kind - 2) (t.kids.length:Int) 0 false;let z0:=cpL (l++zs y_2) (Int.toNat (l.length:Int)) (Z2T (t.kind - 2) x10);((z2=true->((0:Int)<=x90/\x90 < (t.kids.length:Int))/\((Zcj (y_3,0,()))/\((x10.length+([Z3a y_3 0]).length)*8<=140737488355328)/\((InR (x90+1))/\(N0 (Z4q l at_ t (x90+1) (x10++([Z3a y_3 0])))))))/\(z2=false->(ZdY ((t.kind - 2),x10,()))/\((Z7I ((l,()),((Z2T (t.kind - 2) x10).length:Int),()))/\(((0:Int)<=(l.length:Int)/\(l.length:Int)<=((l++zs y_2).length:Int))/\((0:Nat)<=(Int.toNat (l.length:Int)))/\((Tr (true=true))/\(Tr (true=true))/\(Tr (true=true))/\(Tr (true=true))/\(Tr (true=true))/\(Tr (true=true))/\(Tr (true=true))/\(Tr (true=true))/\(Z5E ((z0,()),at_,(l.length:Int),z1,()))/\(Q .ret (⟨[pB 6 (bif true then true else false)],[(.x 0,[.mref (.x 0 0)])],[(.x 0 0,LC.mk (U:=U) .u64 (z0.set at_.toNat (Z42 at_ (l.length:Int) z1)) 0)]⟩:LSt U)))))))):
  A74 N [1,1,1,1,0,1,0,0] (Z4q l at_ t x90 x10) (xT N0 (xB 1 (S74 N [1,1,1,1,1] Q))):=
 (Eq.mpr (by kernel_rfl) (h _ rfl _ rfl _ (Zu _)):)
abbrev Zqf(N:Nat)(l:List Int)(at_:Int)(t:Tree):Prop:=AW (Z1 (Z0i N)) Try.f74 ZlJ [] (Ys (Z5w.can ((l,()),at_,t,())) (Z5w.canX ((l,()),at_,t,())) (Z5w.canL ((l,()),at_,t,()))) (YP cfg Try.f74.ntmps Try.f74.results.toList (Zb3 ((l,()),at_,t,())) (Z7u ((l,()),at_,t,())) (Z7x ((l,()),at_,t,())))
abbrev Zs5:Prop:=∀ (N:Nat) (l:List Int) (at_:Int) (t:Tree) (_:Unit),Z94 ((l,()),at_,t,())->Zl8 ((l,()),at_,t,()) < N+1->Zqf N l at_ t
def Zcv(N:Nat):List (FuncId × Fs U):=Z0i N
def ZlA:Z6 U:=fun i=> match i with
 | 0=> ([(0,[]),(1,[]),(5,[])],[(.loc 5,[]),(.x 0,[.wr .u64])])
 | 1=> ([(0,[]),(1,[]),(10,[]),(11,[]),(12,[])],[(.x 0,[.wr .u64])])
 | 2=> ([(0,[]),(1,[]),(10,[]),(11,[]),(12,[]),(13,[])],[(.x 0,[.wr .u64])])
 | 3=> ([(0,[]),(1,[]),(7,[]),(8,[]),(10,[]),(11,[]),(12,[])],[(.loc 8,[]),(.x 0,[.wr .u64])])
 | 4=> ([(0,[]),(1,[]),(10,[]),(11,[]),(12,[]),(23,[])],[(.x 0,[.wr .u64])])
 | 5=> ([(6,[])],[(.x 0,[.wr .u64])])
 | 6=> ([(0,[]),(1,[]),(10,[]),(11,[]),(12,[])],[(.x 0,[.wr .u64])])
 | 7=> ([(6,[])],[(.x 0,[.wr .u64])])
 | _=> ([],[])
def Z4f(l:List Int)(at_:Int)(t:Tree)(x12:Int)(rx_0_0:List Int):LSt U:=(⟨[(0,.ptr (.x 0) 0),pI 1 at_,(10,.c (sU .tree t.kids .unk)),pI 11 (t.kids.length:Int),pI 12 x12],[(.x 0,[.mref (.x 0 0)])],[(.x 0 0,LC.mk (U:=U) .u64 rx_0_0 0)]⟩:LSt U)
abbrev A99(N:Nat)(p:List Nat):=AW (Z1 (Zcv N)) Try.f99 ZlA p
abbrev S99(N:Nat)(p:List Nat):=SW (Z1 (Zcv N)) Try.f99 ZlA p
theorem Zs7(N:Nat)(l:List Int)(at_:Int)(t:Tree)(Q:QT)(h:(Zk (A99 N [1,0,1,0,0]) (Z4f l at_ t 0 l) (xB 0 (S99 N [1,1] Q)))):
  A99 N [] (⟨[(0,.ptr (.x 0) 0),pI 1 at_,(2,.agg (enc .tree t))],[(.x 0,[.mref (.x 0 0)])],[(.x 0 0,LC.mk (U:=U) .u64 l 0)]⟩:LSt U) Q:=
 (Eq.mpr (by kernel_rfl) h:)
theorem Zkg(N:Nat)(l:List Int)(at_:Int)(t:Tree)(x12:Int)(rx_0_0:List Int)(N0:NT)(Q:QT)(h:let z2:=decide (x12 < (t.kids.length:Int));let z1:=t.kids.getD x12.toNat Tree.nil;let z0:=Tree.mk (Tree.kind z1) (Tree.words z1) (Tree.kids z1);((z2=true->((0:Int)<=x12/\x12 < (t.kids.length:Int))/\((InR (at_+x12))/\(Z94 ((rx_0_0,()),(at_+x12),z0,()))/\(Zl8 ((rx_0_0,()),(at_+x12),z0,()) < N)/\(((!true)=true->(Q .ret (⟨[pB 6 false],[(.x 0,[.mref (.x 0 0)])],[(.x 0 0,LC.mk (U:=U) .u64 (YZ rx_0_0 (at_+x12) z0) 0)]⟩:LSt U)))/\((!true)=false->(InR (x12+1))/\(N0 (Z4f l at_ t (x12+1) (YZ rx_0_0 (at_+x12) z0)))))))/\(z2=false->(Q .ret (⟨[pB 6 true],[(.x 0,[.mref (.x 0 0)])],[(.x 0 0,LC.mk (U:=U) .u64 rx_0_0 0)]⟩:LSt U))))):
  A99 N [1,0,1,0,0] (Z4f l at_ t x12 rx_0_0) (xT N0 (xB 0 (S99 N [1,1] Q))):=
 (Eq.mpr (by kernel_rfl) h:)
abbrev ZpQ(N:Nat)(l:List Int)(at_:Int)(t:Tree):Prop:=AW (Z1 (Zcv N)) Try.f99 ZlA [] (Ys (Z5w.can ((l,()),at_,t,())) (Z5w.canX ((l,()),at_,t,())) (Z5w.canL ((l,()),at_,t,()))) (YP cfg Try.f99.ntmps Try.f99.results.toList (Zb3 ((l,()),at_,t,())) (Z7u ((l,()),at_,t,())) (Z9V ((l,()),at_,t,())))
abbrev Zs0:Prop:=∀ (N:Nat) (l:List Int) (at_:Int) (t:Tree) (_:Unit),Z8Z ((l,()),at_,t,())->ZhO ((l,()),at_,t,()) < N+1->ZpQ N l at_ t
def ZoG:Z6 U:=fun i=> match i with
 | 0=> ([(0,[]),(1,[]),(2,[]),(7,[])],[(.loc 7,[]),(.x 0,[.wr .u64])])
 | 1=> ([(0,[]),(1,[]),(2,[]),(7,[])],[(.loc 7,[]),(.x 0,[.wr .u64])])
 | 2=> ([(8,[])],[(.x 0,[.wr .u64])])
 | _=> ([],[])
abbrev A97(N:Nat)(p:List Nat):=AW (Z1 (Zcv N)) Try.f97 ZoG p
theorem Zs9(N:Nat)(l:List Int)(at_ n:Int)(t:Tree)(Q:QT)(h:let z1:=cpL l at_.toNat t.words;let z0:=Tree.mk t.kind t.words t.kids;(((0:Int)<=at_/\at_<=(l.length:Int))/\((0:Nat)<=at_.toNat)/\((InR (at_+n))/\(Z8Z ((z1,()),(at_+n),z0,()))/\(ZhO ((z1,()),(at_+n),z0,()) < N)/\(Q .ret (⟨[pB 8 true],[(.x 0,[.mref (.x 0 0)])],[(.x 0 0,LC.mk (U:=U) .u64 (Z82 z1 (at_+n) z0) 0)]⟩:LSt U))))):
  A97 N [] (⟨[(0,.ptr (.x 0) 0),pI 1 at_,pI 2 n,(3,.agg (enc .tree t))],[(.x 0,[.mref (.x 0 0)])],[(.x 0 0,LC.mk (U:=U) .u64 l 0)]⟩:LSt U) Q:=
 (Eq.mpr (by kernel_rfl) h:)
abbrev ZpS(N:Nat)(l:List Int)(at_ n:Int)(t:Tree):Prop:=AW (Z1 (Zcv N)) Try.f97 ZoG [] (Ys (Z5u.can ((l,()),at_,n,t,())) (Z5u.canX ((l,()),at_,n,t,())) (Z5u.canL ((l,()),at_,n,t,()))) (YP cfg Try.f97.ntmps Try.f97.results.toList (Zdq ((l,()),at_,n,t,())) (Z9U ((l,()),at_,n,t,())) (Z9W ((l,()),at_,n,t,())))
abbrev Zs2:Prop:=∀ (N:Nat) (l:List Int) (at_:Int) (n:Int) (t:Tree) (_:Unit),Z90 ((l,()),at_,n,t,())->ZhP ((l,()),at_,n,t,()) < N+1->ZpS N l at_ n t
def ZlB:Z6 U:=fun i=> match i with
 | 0=> ([(0,[]),(1,[]),(5,[])],[(.loc 5,[]),(.x 0,[.wr .u64])])
 | 1=> ([(0,[]),(1,[]),(5,[]),(7,[]),(8,[])],[(.loc 5,[]),(.x 0,[.wr .u64])])
 | 2=> ([(0,[]),(1,[]),(5,[]),(7,[]),(8,[]),(9,[])],[(.loc 5,[]),(.x 0,[.wr .u64])])
 | 3=> ([(0,[]),(1,[]),(5,[]),(7,[]),(9,[]),(10,[]),(11,[])],[(.loc 5,[]),(.x 0,[.wr .u64])])
 | 4=> ([(0,[]),(1,[]),(5,[]),(7,[]),(9,[]),(10,[]),(11,[]),(34,[])],[(.loc 5,[]),(.x 0,[.wr .u64])])
 | 5=> ([(0,[]),(1,[]),(5,[]),(7,[]),(9,[]),(10,[]),(11,[])],[(.loc 5,[]),(.x 0,[.wr .u64])])
 | 6=> ([(0,[]),(1,[]),(5,[]),(7,[]),(9,[]),(10,[]),(11,[]),(12,[])],[(.loc 5,[]),(.x 0,[.wr .u64])])
 | 7=> ([(0,[]),(1,[]),(5,[]),(7,[]),(9,[]),(11,[]),(12,[])],[(.loc 5,[]),(.x 0,[.wr .u64])])
 | 8=> ([(0,[]),(5,[]),(7,[]),(9,[]),(11,[]),(12,[]),(60,[])],[(.loc 5,[]),(.x 0,[.wr .u64])])
 | 9=> ([(6,[])],[(.x 0,[.wr .u64])])
 | 10=> ([(0,[]),(5,[]),(7,[]),(9,[]),(11,[]),(12,[]),(62,[]),(63,[]),(64,[])],[(.loc 5,[]),(.x 0,[.wr .u64])])
 | 11=> ([(0,[]),(5,[]),(7,[]),(9,[]),(11,[]),(12,[]),(62,[]),(63,[]),(64,[]),(65,[])],[(.loc 5,[]),(.x 0,[.wr .u64])])
 | 12=> ([(0,[]),(5,[]),(7,[]),(9,[]),(11,[]),(12,[]),(13,[]),(14,[]),(62,[]),(63,[]),(64,[])],[(.loc 5,[]),(.loc 14,[]),(.x 0,[.wr .u64])])
 | 13=> ([(0,[]),(5,[]),(7,[]),(9,[]),(11,[]),(12,[]),(62,[]),(63,[]),(64,[]),(79,[])],[(.loc 5,[]),(.x 0,[.wr .u64])])
 | 14=> ([(6,[])],[(.x 0,[.wr .u64])])
 | 15=> ([(0,[]),(5,[]),(7,[]),(9,[]),(11,[]),(12,[]),(62,[]),(63,[]),(64,[])],[(.loc 5,[]),(.x 0,[.wr .u64])])
 | 16=> ([(6,[])],[(.x 0,[.wr .u64])])
 | _=> ([],[])
def Z0P(l:List Int)(at_:Int)(t:Tree)(rx_0_0:List Int)(x64:Int):LSt U:=(⟨[(0,.ptr (.x 0) 0),pL 5,pI 7 (frW (Tree.kids (Tree.mk t.kind t.words t.kids)):Int),(9,.c (ci (((frW (Tree.kids (Tree.mk t.kind t.words t.kids)):Int):Int)+(frK (Tree.kids (Tree.mk t.kind t.words t.kids)):Int)))),(11,.c (.bool (eqP (Z4 (YR (Ptr.mk 1 (t.kids.length:Int) (frW (Tree.kids (Tree.mk t.kind t.words t.kids)):Int) (frK (Tree.kids (Tree.mk t.kind t.words t.kids)):Int) 0 0 0 false))) (Ptr.mk 1 (t.kids.length:Int) (frW (Tree.kids (Tree.mk t.kind t.words t.kids)):Int) (frK (Tree.kids (Tree.mk t.kind t.words t.kids)):Int) 0 0 0 false) && !decide (Ptr.kind (Ptr.mk 1 (t.kids.length:Int) (frW (Tree.kids (Tree.mk t.kind t.words t.kids)):Int) (frK (Tree.kids (Tree.mk t.kind t.words t.kids)):Int) 0 0 0 false)=4)))),pI 12 (l.length:Int),(62,.c (sU .tree t.kids .unk)),pI 63 (t.kids.length:Int),pI 64 x64],[(.loc 5,(enc .tree t)),(.x 0,[.mref (.x 0 0)])],[(.x 0 0,LC.mk (U:=U) .u64 rx_0_0 0)]⟩:LSt U)
abbrev A98(N:Nat)(p:List Nat):=AW (Z1 (Zcv N)) Try.f98 ZlB p
abbrev S98(N:Nat)(p:List Nat):=SW (Z1 (Zcv N)) Try.f98 ZlB p
theorem Zs8(N:Nat)(l:List Int)(at_:Int)(t:Tree)(Q:QT)(h:∀ y_1,y_1=t->∀ y_2,y_2=(Ptr.mk 1 (t.kids.length:Int) (frW y_1.kids:Int) (frK y_1.kids:Int) 0 0 0 false)->∀ y_3,y_3=(InR (((t.kids.length:Int):Int)*(((frW y_1.kids:Int):Int)+(frK y_1.kids:Int))))->∀ y_4,y_4=(Int.toNat ((1:Int)+(((t.kids.length:Int):Int)*(((frW y_1.kids:Int):Int)+(frK y_1.kids:Int)))))->∀ y_5,y_5=(Ptr.mk 2 0 0 0 7 (((t.kids.length:Int):Int)*(((frW y_1.kids:Int):Int)+(frK y_1.kids:Int))) 0 false)->∀ y_6,y_6=(List.set (l++zs y_4) (Int.toNat (l.length:Int)) (YR y_2))->let z6:=xB 0 (S98 N [1,1,1,1,1,1,1,1,1] Q);let z5:=A98 N [1,1,1,1,1,1,1,1,0,1,0,0];let z4:= !(eqP (Z4 (YR y_2)) y_2 && !decide (Ptr.kind y_2=4));let z3:=Z42 at_ (l.length:Int) y_5;let z2:=List.set (l++zs y_4) (Int.toNat (l.length:Int)) 0;let z1:=InR ((1:Int)+(((t.kids.length:Int):Int)*(((frW y_1.kids:Int):Int)+(frK y_1.kids:Int))));let z0:=Z7I ((l,()),((1:Int)+(((t.kids.length:Int):Int)*(((frW y_1.kids:Int):Int)+(frK y_1.kids:Int)))),());((Zbh (y_1,()))/\((InR (((frW y_1.kids:Int):Int)+(frK y_1.kids:Int)))/\((Z55 (y_2,()))/\((z4=true->(y_3/\z1/\z0/\(((0:Int)<=(l.length:Int)/\(l.length:Int) < ((l++zs y_4).length:Int))/\((0:Nat)<=(Int.toNat (l.length:Int)))/\(y_3/\(Z5E ((z2,()),at_,(l.length:Int),y_5,()))/\(((!true)=true->(Q .ret (⟨[pB 6 false],[(.x 0,[.mref (.x 0 0)])],[(.x 0 0,LC.mk (U:=U) .u64 (z2.set at_.toNat z3) 0)]⟩:LSt U)))/\((!true)=false->(Zk z5 (Z0P l at_ t (z2.set at_.toNat z3) 0) z6)))))))/\(z4=false->y_3/\z1/\z0/\(((0:Int)<=(l.length:Int)/\(l.length:Int) < ((l++zs y_4).length:Int))/\((0:Nat)<=(Int.toNat (l.length:Int)))/\(y_3/\(Z5E ((y_6,()),at_,(l.length:Int),y_5,()))/\(((!true)=true->(Q .ret (⟨[pB 6 false],[(.x 0,[.mref (.x 0 0)])],[(.x 0 0,LC.mk (U:=U) .u64 (y_6.set at_.toNat z3) 0)]⟩:LSt U)))/\((!true)=false->(Zk z5 (Z0P l at_ t (y_6.set at_.toNat z3) 0) z6))))))))))):
  A98 N [] (⟨[(0,.ptr (.x 0) 0),pI 1 at_,(2,.agg (enc .tree t))],[(.x 0,[.mref (.x 0 0)])],[(.x 0 0,LC.mk (U:=U) .u64 l 0)]⟩:LSt U) Q:=
 (Eq.mpr (by kernel_rfl) (h _ (Zu _) _ rfl _ rfl _ rfl _ rfl _ rfl):)
theorem Zkh(N:Nat)(l:List Int)(at_:Int)(t:Tree)(rx_0_0:List Int)(x64:Int)(N0:NT)(Q:QT)(h:∀ y_1,y_1=t->∀ y_2,y_2=(t.kids.getD x64.toNat Tree.nil)->∀ y_3,y_3=y_2->∀ y_4,y_4=(Ptr.mk 1 (t.kids.length:Int) (frW y_1.kids:Int) (frK y_1.kids:Int) 0 0 0 false)->let z2:=decide (x64 < (t.kids.length:Int));let z1:=Zc6 rx_0_0 (((((l.length:Int):Int)+1):Int)+(x64*(((frW y_1.kids:Int):Int)+(frK y_1.kids:Int)))) (frW y_1.kids:Int) y_3;let z0:=eqP (Z4 (YR y_4)) y_4 && !decide (Ptr.kind y_4=4);((z2=true->((0:Int)<=x64/\x64 < (t.kids.length:Int))/\((InR (((l.length:Int):Int)+1))/\(InR (x64*(((frW y_1.kids:Int):Int)+(frK y_1.kids:Int))))/\(InR (((((l.length:Int):Int)+1):Int)+(x64*(((frW y_1.kids:Int):Int)+(frK y_1.kids:Int)))))/\(Z90 ((rx_0_0,()),(((((l.length:Int):Int)+1):Int)+(x64*(((frW y_1.kids:Int):Int)+(frK y_1.kids:Int)))),(frW y_1.kids:Int),y_3,()))/\(ZhP ((rx_0_0,()),(((((l.length:Int):Int)+1):Int)+(x64*(((frW y_1.kids:Int):Int)+(frK y_1.kids:Int)))),(frW y_1.kids:Int),y_3,()) < N)/\(((!true)=true->(Q .ret (⟨[pB 6 false],[(.x 0,[.mref (.x 0 0)])],[(.x 0 0,LC.mk (U:=U) .u64 z1 0)]⟩:LSt U)))/\((!true)=false->(InR (x64+1))/\(N0 (Z0P l at_ t z1 (x64+1)))))))/\(z2=false->(Tr ((!z0)=true))/\(Tr ((!z0)=true))/\(Tr ((!z0)=true))/\(Tr ((!z0)=true))/\((!z0)=true->InR (((t.kids.length:Int):Int)+(((frW y_1.kids:Int):Int)+(frK y_1.kids:Int))))/\(Tr ((!z0)=true))/\(z0=false->(!z0)=true)/\(Q .ret (⟨[(6,.c (.bool (bif z0 then true else (((((t.kids.length:Int):Int)+(((frW y_1.kids:Int):Int)+(frK y_1.kids:Int))):Int)==0))))],[(.x 0,[.mref (.x 0 0)])],[(.x 0 0,LC.mk (U:=U) .u64 rx_0_0 0)]⟩:LSt U))))):
  A98 N [1,1,1,1,1,1,1,1,0,1,0,0] (Z0P l at_ t rx_0_0 x64) (xT N0 (xB 0 (S98 N [1,1,1,1,1,1,1,1,1] Q))):=
 (Eq.mpr (by kernel_rfl) (h _ (Zu _) _ rfl _ (Zu _) _ rfl):)
abbrev ZpR(N:Nat)(l:List Int)(at_:Int)(t:Tree):Prop:=AW (Z1 (Zcv N)) Try.f98 ZlB [] (Ys (Z5w.can ((l,()),at_,t,())) (Z5w.canX ((l,()),at_,t,())) (Z5w.canL ((l,()),at_,t,()))) (YP cfg Try.f98.ntmps Try.f98.results.toList (Zb3 ((l,()),at_,t,())) (Z7u ((l,()),at_,t,())) (Z7x ((l,()),at_,t,())))
abbrev Zs1:Prop:=∀ (N:Nat) (l:List Int) (at_:Int) (t:Tree) (_:Unit),Zbf ((l,()),at_,t,())->Zl7 ((l,()),at_,t,()) < N+1->ZpR N l at_ t
theorem Zlb(c75:CT 75 Z9L)(c96:CT 96 Z9K)(ZpJ:CT 100 Z6n)(Zje:CT 101 Z7i)(Zg2:CT 119 Z1G)(Zg1:CT 120 Z19)(b74:Zs5)(b99:Zs0)(b97:Zs2)(b98:Zs1):
  CT 74 Z4S/\CT 99 Zgy/\CT 97 ZgA/\CT 98 Zgz:=by
 have h74 : ∃ fn, Try.prog.funcs[(74 : FuncId)]? = some fn ∧ fn.body.isSome = true ∧ (fn.name == "runtime.NumGoroutine") = false := ⟨Try.f74, Try.func74, rfl, rfl⟩
 have h99 : ∃ fn, Try.prog.funcs[(99 : FuncId)]? = some fn ∧ fn.body.isSome = true ∧ (fn.name == "runtime.NumGoroutine") = false := ⟨Try.f99, Try.func99, rfl, rfl⟩
 have h97 : ∃ fn, Try.prog.funcs[(97 : FuncId)]? = some fn ∧ fn.body.isSome = true ∧ (fn.name == "runtime.NumGoroutine") = false := ⟨Try.f97, Try.func97, rfl, rfl⟩
 have h98 : ∃ fn, Try.prog.funcs[(98 : FuncId)]? = some fn ∧ fn.body.isSome = true ∧ (fn.name == "runtime.NumGoroutine") = false := ⟨Try.f98, Try.func98, rfl, rfl⟩
 have key:∀ N,CT 74 (J5 Z5w (fun a=> [Z94 a,Zl8 a < N]) Zb3 Z7u Z7x)/\CT 99 (J5 Z5w (fun a=> [Z8Z a,ZhO a < N]) Zb3 Z7u Z9V)/\CT 97 (J5 Z5u (fun a=> [Z90 a,ZhP a < N]) Zdq Z9U Z9W)/\CT 98 (J5 Z5w (fun a=> [Zbf a,Zl7 a < N]) Zb3 Z7u Z7x):=by
  intro N
  induction N with
  | zero=> exact ⟨Z0W h74,Z0W h99,Z0W h97,Z0W h98⟩
  | succ N ih=>
   have kn:=Jr (l:=Z0i N) ⟨ih.1,ih.2.1,ih.2.2.1,ih.2.2.2,c75,c96,ZpJ,Zje,Zg2,Zg1,trivial⟩
   exact ⟨YB (Γ:=Z1 (Z0i N)) Z9 rfl kn ZlJ Try.func74 rfl rfl (fun a=> by show 3<=_;decide) (fun ⟨⟨l,_⟩,at_,t,_⟩ h=> b74 N l at_ t () h.1 h.2.1),
    YB (Γ:=Z1 (Z0i N)) Z9 rfl kn ZlA Try.func99 rfl rfl (fun a=> by show 3<=_;decide) (fun ⟨⟨l,_⟩,at_,t,_⟩ h=> b99 N l at_ t () h.1 h.2.1),
    YB (Γ:=Z1 (Z0i N)) Z9 rfl kn ZoG Try.func97 rfl rfl (fun a=> by show 4<=_;decide) (fun ⟨⟨l,_⟩,at_,n,t,_⟩ h=> b97 N l at_ n t () h.1 h.2.1),
    YB (Γ:=Z1 (Z0i N)) Z9 rfl kn ZlB Try.func98 rfl rfl (fun a=> by show 3<=_;decide) (fun ⟨⟨l,_⟩,at_,t,_⟩ h=> b98 N l at_ t () h.1 h.2.1)⟩
 exact ⟨Z0X fun N=> (key N).1,Z0X fun N=> (key N).2.1,Z0X fun N=> (key N).2.2.1,Z0X fun N=> (key N).2.2.2⟩
end
noncomputable section
def Z8l:ArgM (List Int × Int × Tree × Unit):=(.lst (cWt .u64 (.e 0 0)) (.cons (Zr .i64) (.cons (aEl .tree) .nil)))
def Z7H(a:List Int × Int × Tree × Unit):Prop:=(0<=a.2.1/\a.2.1 < a.1.length/\a.1.length+Zq a.2.2.1<=1000000)/\(Zh a.2.2.1<=1000000/\rng a.2.2.1)/\Tree.kind a.2.2.1≠10/\∃ d,Z8 a.2.2.1 d=true
def ZfH(a:List Int × Int × Tree × Unit):Nat:=Zh a.2.2.1
def Zb2(a:List Int × Int × Tree × Unit):V U:= .c (.mref (.r 0 0))
def Z7t(a:List Int × Int × Tree × Unit):List (List (C U)):=[]
def Z7w(a:List Int × Int × Tree × Unit):List (Tok × LC U):=[(.r 0 0,LC.mk (U:=U) .u64 (YZ a.1 a.2.1 a.2.2.1) 0)]
def Z6T:Fs U:=(J5 Z8l (fun a=> [Z7H a]) Zb2 Z7t Z7w).passing [0]
def Zhu(a:Tree × Int × Unit):Prop:=Zh a.1<=1000000/\rng a.1
def Zb7(a:Tree × Int × Unit):V U:= .tup [(false,[sU .u64 ((YN a.1 a.2.1).1) .unk]),(false,[.bool ((YN a.1 a.2.1).2)])]
def Z7d:Fs U:=fs Zf4 (fun a=> [Zhu a]) Zb7
def ZcC(N:Nat):List (FuncId × Fs U):=(76,(J5 Z8l (fun a=> [Z7H a,ZfH a < N]) Zb2 Z7t Z7w).passing [0]) ::[(102,Z3R),(103,Z3Q),(104,Z3P),(82,Z1G),(18,Z7h)]
def ZlI:Z6 U:=fun i=> match i with
 | 0=> ([(0,[.wr .u64]),(1,[]),(5,[])],[(.loc 5,[])])
 | 1=> ([(0,[.wr .u64]),(1,[]),(5,[]),(7,[])],[(.loc 5,[])])
 | 2=> ([(0,[.wr .u64]),(1,[]),(5,[]),(7,[]),(21,[])],[(.loc 5,[])])
 | 3=> ([(0,[.wr .u64]),(1,[]),(5,[]),(7,[]),(21,[]),(22,[])],[(.loc 5,[])])
 | 4=> ([(6,[.wr .u64])],[])
 | 5=> ([(0,[.wr .u64]),(1,[]),(5,[]),(7,[]),(21,[]),(25,[])],[(.loc 5,[])])
 | 6=> ([(0,[.wr .u64]),(1,[]),(5,[]),(7,[]),(34,[])],[(.loc 5,[])])
 | 7=> ([(0,[.wr .u64]),(1,[]),(5,[]),(7,[])],[(.loc 5,[])])
 | 8=> ([(0,[.wr .u64]),(5,[]),(7,[])],[(.loc 5,[])])
 | 9=> ([(0,[.wr .u64]),(5,[]),(7,[])],[(.loc 5,[])])
 | 10=> ([(0,[.wr .u64]),(5,[]),(7,[])],[(.loc 5,[])])
 | 11=> ([(0,[.wr .u64]),(5,[]),(7,[]),(8,[])],[(.loc 5,[])])
 | 12=> ([(0,[.wr .u64]),(5,[]),(7,[]),(8,[]),(65,[])],[(.loc 5,[])])
 | 13=> ([(0,[.wr .u64]),(5,[]),(7,[]),(8,[])],[(.loc 5,[])])
 | 14=> ([(0,[.wr .u64]),(5,[]),(7,[]),(8,[])],[(.loc 5,[])])
 | 15=> ([(6,[.wr .u64])],[])
 | 16=> ([(0,[.wr .u64]),(1,[]),(5,[]),(7,[]),(21,[]),(83,[])],[(.loc 5,[])])
 | 17=> ([(0,[.wr .u64]),(5,[]),(7,[])],[(.loc 5,[])])
 | 18=> ([(0,[.wr .u64]),(5,[]),(7,[])],[(.loc 5,[])])
 | 19=> ([(0,[.wr .u64]),(5,[]),(7,[]),(9,[])],[(.loc 5,[])])
 | 20=> ([(0,[.wr .u64]),(5,[]),(7,[]),(9,[]),(106,[])],[(.loc 5,[])])
 | 21=> ([(0,[.wr .u64]),(5,[]),(7,[]),(9,[])],[(.loc 5,[])])
 | 22=> ([(0,[.wr .u64]),(5,[]),(7,[]),(9,[])],[(.loc 5,[])])
 | 23=> ([(6,[.wr .u64])],[])
 | 24=> ([(0,[.wr .u64]),(1,[]),(5,[]),(7,[]),(120,[])],[(.loc 5,[])])
 | 25=> ([(0,[.wr .u64]),(1,[]),(5,[]),(7,[]),(10,[]),(11,[])],[(.loc 5,[])])
 | 26=> ([(0,[.wr .u64]),(1,[]),(5,[]),(7,[]),(10,[]),(11,[]),(12,[])],[(.loc 5,[])])
 | 27=> ([(0,[.wr .u64]),(5,[]),(7,[]),(10,[]),(11,[]),(12,[])],[(.loc 5,[])])
 | 28=> ([(0,[.wr .u64]),(5,[]),(7,[]),(10,[]),(11,[]),(12,[])],[(.loc 5,[])])
 | 29=> ([(0,[.wr .u64]),(5,[]),(7,[]),(10,[]),(11,[]),(12,[]),(13,[])],[(.loc 5,[])])
 | 30=> ([(0,[.wr .u64]),(5,[]),(7,[]),(10,[]),(11,[]),(12,[]),(13,[]),(160,[])],[(.loc 5,[])])
 | 31=> ([(0,[.wr .u64]),(5,[]),(7,[]),(10,[]),(11,[]),(12,[]),(13,[])],[(.loc 5,[])])
 | 32=> ([(0,[.wr .u64]),(5,[]),(7,[]),(10,[]),(11,[]),(12,[]),(13,[])],[(.loc 5,[])])
 | 33=> ([(0,[.wr .u64]),(5,[]),(7,[]),(10,[]),(11,[]),(12,[]),(13,[])],[(.loc 5,[])])
 | 34=> ([(0,[.wr .u64]),(5,[]),(7,[]),(10,[]),(11,[]),(12,[]),(14,[])],[(.loc 5,[])])
 | 35=> ([(0,[.wr .u64]),(5,[]),(7,[]),(10,[]),(11,[]),(12,[]),(14,[]),(186,[])],[(.loc 5,[])])
 | 36=> ([(0,[.wr .u64]),(5,[]),(7,[]),(10,[]),(11,[]),(12,[]),(14,[])],[(.loc 5,[])])
 | 37=> ([(0,[.wr .u64]),(5,[]),(7,[]),(10,[]),(11,[]),(12,[]),(14,[]),(15,[])],[(.loc 5,[])])
 | 38=> ([(0,[.wr .u64]),(5,[]),(7,[]),(10,[]),(11,[]),(12,[]),(14,[]),(15,[]),(197,[])],[(.loc 5,[])])
 | 39=> ([(0,[.wr .u64]),(5,[]),(7,[]),(10,[]),(11,[]),(12,[]),(14,[]),(15,[])],[(.loc 5,[])])
 | 40=> ([(0,[.wr .u64]),(5,[]),(7,[]),(10,[]),(11,[]),(12,[]),(14,[]),(15,[])],[(.loc 5,[])])
 | 41=> ([(6,[.wr .u64])],[])
 | 42=> ([(0,[.wr .u64]),(1,[]),(5,[]),(7,[]),(16,[])],[(.loc 5,[])])
 | 43=> ([(0,[.wr .u64]),(16,[])],[])
 | 44=> ([(6,[.wr .u64])],[])
 | _=> ([],[])
def Z0R(l:List Int)(at_:Int)(t:Tree)(x7:Int)(re_0_0:List Int)(x8:Int):LSt U:=(⟨[(0,.c (.mref (.e 0 0))),pL 5,pI 7 x7,pI 8 x8],[(.loc 5,(enc .tree t))],[(.e 0 0,LC.mk (U:=U) .u64 re_0_0 0)]⟩:LSt U)
def Z4p(l:List Int)(at_:Int)(t:Tree)(x9_a:Int)(re_0_0_a:List Int):LSt U:=(⟨[(0,.c (.mref (.e 0 0))),pL 5,pI 7 (l.length:Int),pI 9 x9_a],[(.loc 5,(enc .tree t))],[(.e 0 0,LC.mk (U:=U) .u64 re_0_0_a 0)]⟩:LSt U)
def Z4o(l:List Int)(at_:Int)(t:Tree)(x13_b:Int)(re_0_0_b:List Int):LSt U:=(⟨[(0,.c (.mref (.e 0 0))),pL 5,pI 7 (l.length:Int),pI 10 (frW (Tree.kids (Tree.mk t.kind t.words t.kids)):Int),pI 11 (frK (Tree.kids (Tree.mk t.kind t.words t.kids)):Int),pI 12 (t.kids.length:Int),pI 13 x13_b],[(.loc 5,(enc .tree t))],[(.e 0 0,LC.mk (U:=U) .u64 re_0_0_b 0)]⟩:LSt U)
def Z4n(l:List Int)(at_:Int)(t:Tree)(x14_c:Int)(re_0_0_c:List Int):LSt U:=(⟨[(0,.c (.mref (.e 0 0))),pL 5,pI 7 (l.length:Int),pI 10 (frW (Tree.kids (Tree.mk t.kind t.words t.kids)):Int),pI 11 (frK (Tree.kids (Tree.mk t.kind t.words t.kids)):Int),pI 12 (t.kids.length:Int),pI 14 x14_c],[(.loc 5,(enc .tree t))],[(.e 0 0,LC.mk (U:=U) .u64 re_0_0_c 0)]⟩:LSt U)
def Z4m(l:List Int)(at_:Int)(t:Tree)(x14_c x15_d:Int)(re_0_0_d:List Int):LSt U:=(⟨[(0,.c (.mref (.e 0 0))),pL 5,pI 7 (l.length:Int),pI 10 (frW (Tree.kids (Tree.mk t.kind t.words t.kids)):Int),pI 11 (frK (Tree.kids (Tree.mk t.kind t.words t.kids)):Int),pI 12 (t.kids.length:Int),pI 14 x14_c,pI 15 x15_d],[(.loc 5,(enc .tree t))],[(.e 0 0,LC.mk (U:=U) .u64 re_0_0_d 0)]⟩:LSt U)
abbrev A76(N:Nat)(p:List Nat):=AW (Z1 (ZcC N)) Try.f76 ZlI p
abbrev S76(N:Nat)(p:List Nat):=SW (Z1 (ZcC N)) Try.f76 ZlI p
theorem Zsu(N:Nat)(l:List Int)(at_:Int)(t:Tree)(Q:QT)(h:∀ y_1,y_1=t->∀ y_2,y_2=(IntKind.wrap .u64 ((8:Int)*(IntKind.wrap .u64 (t.kids.length:Int))))->∀ y_3,y_3=(IntKind.wrap .u64 ((65536:Int)*(IntKind.wrap .u64 (t.kids.length:Int))))->∀ y_4,y_4=(IntKind.wrap .u64 (((IntKind.wrap .u64 (t.kind - 2)):Int)+y_2))->∀ y_5,y_5=(IntKind.wrap .u64 (((IntKind.wrap .u64 (t.words.length:Int)):Int)+y_3))->∀ y_6,y_6=(IntKind.wrap .u64 (((t.kids.length:Int):Int)*(((frW y_1.kids:Int):Int)+(frK y_1.kids:Int))))->∀ y_7,y_7=(List.set l at_.toNat (Z0b at_ (l.length:Int) 0 y_5))->∀ y_8,y_8=(IntKind.wrap .u64 ((7:Int)+(IntKind.wrap .u64 ((8:Int)*y_6))))->let z11:=Z3W (t.kind - 2) (Yd y_1.kids);let z10:=IntKind.wrap .u64 ((6:Int)+y_2);let z9:=xB 0 (S76 N [1,1,1] Q);let z8:=IntKind.wrap .u64 ((4:Int)*(t.kids.length:Int));let z7:=List.set l at_.toNat (Z0b at_ (l.length:Int) 1 y_4);let z6:=List.set l at_.toNat (Z0b at_ (l.length:Int) 1 y_8);let z5:=A76 N [1,1,0,1,0,1,1,1,0,1,1,1,1,0,1,0,0];let z4:=((((t.words.length:Int):Int)+(t.kids.length:Int)):Int)==0;let z3:=List.set l at_.toNat (Z0b at_ at_ 0 y_5);let z2:=xB 1 (S76 N [1,1,0,1,0,1,1,1,0,1,1,1,1,1] z9);let z1:=List.set l at_.toNat (Z0b at_ (l.length:Int) 1 z10);let z0:=IntKind.wrap .u64 ((4294967296:Int)*(IntKind.wrap .u64 (((IntKind.wrap .u64 (frW y_1.kids:Int)):Int)+(IntKind.wrap .u64 ((65536:Int)*(IntKind.wrap .u64 (frK y_1.kids:Int)))))));(((t.kind==0)=true->(Q .ret (⟨[(6,.c (.mref (.e 6 0)))],[],[(.e 6 0,LC.mk (U:=U) .u64 l 0)]⟩:LSt U)))/\((t.kind==0)=false->(((t.kind==1)=true->(InR (((t.words.length:Int):Int)+(t.kids.length:Int)))/\((z4=true->((Z3m (at_,at_,0,y_5,()))/\((0:Int)<=at_/\at_ < (l.length:Int))/\((0:Nat)<=at_.toNat)/\(((z3.length+t.words.length)*8<=140737488355328)/\((Z57 ((z3++t.words),(t.kids.length:Int),()))/\(Zk z5 (Z0R l at_ t at_ ((z3++t.words)++zs (Int.toNat (t.kids.length:Int))) 0) z2)))))/\(z4=false->(Z3m (at_,(l.length:Int),0,y_5,()))/\((0:Int)<=at_/\at_ < (l.length:Int))/\((0:Nat)<=at_.toNat)/\(((y_7.length+t.words.length)*8<=140737488355328)/\((Z57 ((y_7++t.words),(t.kids.length:Int),()))/\(Zk z5 (Z0R l at_ t (l.length:Int) ((y_7++t.words)++zs (Int.toNat (t.kids.length:Int))) 0) z2))))))/\((t.kind==1)=false->(((t.kind==8)=true->(Z3m (at_,(l.length:Int),1,z10,()))/\((0:Int)<=at_/\at_ < (l.length:Int))/\((0:Nat)<=at_.toNat)/\((Z57 (z1,(t.kids.length:Int),()))/\(Zk (A76 N [1,1,0,1,0,1,1,1,1,1,0,1,1,0,1,0,0]) (Z4p l at_ t 0 (z1++zs (Int.toNat (t.kids.length:Int)))) (xB 3 (S76 N [1,1,0,1,0,1,1,1,1,1,0,1,1,1] z9)))))/\((t.kind==8)=false->(((t.kind==9)=true->(Zbh (y_1,()))/\((InR (((frW y_1.kids:Int):Int)+(frK y_1.kids:Int)))/\(InR (((t.kids.length:Int):Int)*(((frW y_1.kids:Int):Int)+(frK y_1.kids:Int))))/\(Z3m (at_,(l.length:Int),1,y_8,()))/\((0:Int)<=at_/\at_ < (l.length:Int))/\((0:Nat)<=at_.toNat)/\((InR ((4:Int)*(t.kids.length:Int)))/\((z6.length+([IntKind.wrap .u64 ((z8:Int)+z0)]).length)*8<=140737488355328)/\(Zk (A76 N [1,1,0,1,0,1,1,1,1,1,1,1,0,1,1,1,1,0,1,0,0]) (Z4o l at_ t 0 (z6++([IntKind.wrap .u64 ((z8:Int)+z0)]))) (xB 5 (S76 N [1,1,0,1,0,1,1,1,1,1,1,1,0,1,1,1,1,1] z9))))))/\((t.kind==9)=false->(InR (t.kind - 2))/\(Zci (y_1,()))/\(Zhw ((t.kind - 2),(Yd y_1.kids),()))/\((InR (t.kind - 2))/\(Z3m (at_,(l.length:Int),1,y_4,()))/\((0:Int)<=at_/\at_ < (l.length:Int))/\((0:Nat)<=at_.toNat)/\(((z7.length+z11.length)*8<=140737488355328)/\(Q .ret (⟨[(6,.c (.mref (.e 6 0)))],[],[(.e 6 0,LC.mk (U:=U) .u64 (z7++z11) 0)]⟩:LSt U))))))))))))):
  A76 N [] (⟨[(0,.c (.mref (.e 0 0))),pI 1 at_,(2,.agg (enc .tree t))],[],[(.e 0 0,LC.mk (U:=U) .u64 l 0)]⟩:LSt U) Q:=
 (Eq.mpr (by kernel_rfl) (h _ (Zu _) _ rfl _ rfl _ rfl _ rfl _ rfl _ rfl _ rfl):)
theorem ZkB(N:Nat)(l:List Int)(at_:Int)(t:Tree)(x7:Int)(re_0_0:List Int)(x8:Int)(N0:NT)(Q:QT)(h:let z2:=decide (x8 < (t.kids.length:Int));let z1:=t.kids.getD x8.toNat Tree.nil;let z0:=Tree.mk (Tree.kind z1) (Tree.words z1) (Tree.kids z1);((z2=true->(InR (x7+(t.words.length:Int)))/\(InR (((x7+(t.words.length:Int)):Int)+x8))/\((0:Int)<=x8/\x8 < (t.kids.length:Int))/\(Z7H (re_0_0,(((x7+(t.words.length:Int)):Int)+x8),z0,()))/\(ZfH (re_0_0,(((x7+(t.words.length:Int)):Int)+x8),z0,()) < N)/\((InR (x8+1))/\(N0 (Z0R l at_ t x7 (YZ re_0_0 (((x7+(t.words.length:Int)):Int)+x8) z0) (x8+1)))))/\(z2=false->(Q .ret (⟨[(6,.c (.mref (.e 6 0)))],[],[(.e 6 0,LC.mk (U:=U) .u64 re_0_0 0)]⟩:LSt U))))):
  A76 N [1,1,0,1,0,1,1,1,0,1,1,1,1,0,1,0,0] (Z0R l at_ t x7 re_0_0 x8) (xT N0 (xB 1 (S76 N [1,1,0,1,0,1,1,1,0,1,1,1,1,1] (xB 0 (S76 N [1,1,1] Q))))):=
 (Eq.mpr (by kernel_rfl) h:)
theorem ZkA(N:Nat)(l:List Int)(at_:Int)(t:Tree)(x9_a:Int)(re_0_0_a:List Int)(N1:NT)(Q:QT)(h:let z2:=decide (x9_a < (t.kids.length:Int));let z1:=t.kids.getD x9_a.toNat Tree.nil;let z0:=Tree.mk (Tree.kind z1) (Tree.words z1) (Tree.kids z1);((z2=true->(InR (((l.length:Int):Int)+x9_a))/\((0:Int)<=x9_a/\x9_a < (t.kids.length:Int))/\(Z7H (re_0_0_a,(((l.length:Int):Int)+x9_a),z0,()))/\(ZfH (re_0_0_a,(((l.length:Int):Int)+x9_a),z0,()) < N)/\((InR (x9_a+1))/\(N1 (Z4p l at_ t (x9_a+1) (YZ re_0_0_a (((l.length:Int):Int)+x9_a) z0)))))/\(z2=false->(Q .ret (⟨[(6,.c (.mref (.e 6 0)))],[],[(.e 6 0,LC.mk (U:=U) .u64 re_0_0_a 0)]⟩:LSt U))))):
  A76 N [1,1,0,1,0,1,1,1,1,1,0,1,1,0,1,0,0] (Z4p l at_ t x9_a re_0_0_a) (xT N1 (xB 3 (S76 N [1,1,0,1,0,1,1,1,1,1,0,1,1,1] (xB 0 (S76 N [1,1,1] Q))))):=
 (Eq.mpr (by kernel_rfl) h:)
theorem Zkz(N:Nat)(l:List Int)(at_:Int)(t:Tree)(x13_b:Int)(re_0_0_b:List Int)(N2:NT)(Q:QT)(h:∀ y_1,y_1=t->∀ y_2,y_2=(t.kids.getD x13_b.toNat Tree.nil)->let z0:=decide (x13_b < (t.kids.length:Int));((z0=true->((0:Int)<=x13_b/\x13_b < (t.kids.length:Int))/\((re_0_0_b.length+y_2.words.length)*8<=140737488355328)/\((InR (((frW y_1.kids:Int):Int)+(frK y_1.kids:Int)))/\((0:Int)<=x13_b/\x13_b < (t.kids.length:Int))/\(InR (((((frW y_1.kids:Int):Int)+(frK y_1.kids:Int)):Int) - (y_2.words.length:Int)))/\(Z57 ((re_0_0_b++y_2.words),(((((frW y_1.kids:Int):Int)+(frK y_1.kids:Int)):Int) - (y_2.words.length:Int)),()))/\((InR (x13_b+1))/\(N2 (Z4o l at_ t (x13_b+1) ((re_0_0_b++y_2.words)++zs (Int.toNat (((((frW y_1.kids:Int):Int)+(frK y_1.kids:Int)):Int) - (y_2.words.length:Int)))))))))/\(z0=false->(Zk (A76 N [1,1,0,1,0,1,1,1,1,1,1,1,0,1,1,1,1,1,0,1,0,0]) (Z4n l at_ t 0 re_0_0_b) (xB 7 (S76 N [1,1,0,1,0,1,1,1,1,1,1,1,0,1,1,1,1,1,1] (xB 0 (S76 N [1,1,1] Q)))))))):
  A76 N [1,1,0,1,0,1,1,1,1,1,1,1,0,1,1,1,1,0,1,0,0] (Z4o l at_ t x13_b re_0_0_b) (xT N2 (xB 5 (S76 N [1,1,0,1,0,1,1,1,1,1,1,1,0,1,1,1,1,1] (xB 0 (S76 N [1,1,1] Q))))):=
 (Eq.mpr (by kernel_rfl) (h _ (Zu _) _ rfl):)
theorem Zky(N:Nat)(l:List Int)(at_:Int)(t:Tree)(x14_c:Int)(re_0_0_c:List Int)(N3:NT)(Q:QT)(h:let z0:=decide (x14_c < (t.kids.length:Int));((z0=true->(Zk (A76 N [1,1,0,1,0,1,1,1,1,1,1,1,0,1,1,1,1,1,0,1,0,0,1,0,0,1,0,0]) (Z4m l at_ t x14_c 0 re_0_0_c) (xB 9 (xB 8 (S76 N [1,1,0,1,0,1,1,1,1,1,1,1,0,1,1,1,1,1,0,1,0,0,1,1] (xT N3 (xB 7 (S76 N [1,1,0,1,0,1,1,1,1,1,1,1,0,1,1,1,1,1,1] (xB 0 (S76 N [1,1,1] Q))))))))))/\(z0=false->(Q .ret (⟨[(6,.c (.mref (.e 6 0)))],[],[(.e 6 0,LC.mk (U:=U) .u64 re_0_0_c 0)]⟩:LSt U))))):
  A76 N [1,1,0,1,0,1,1,1,1,1,1,1,0,1,1,1,1,1,0,1,0,0] (Z4n l at_ t x14_c re_0_0_c) (xT N3 (xB 7 (S76 N [1,1,0,1,0,1,1,1,1,1,1,1,0,1,1,1,1,1,1] (xB 0 (S76 N [1,1,1] Q))))):=
 (Eq.mpr (by kernel_rfl) h:)
theorem Zkx(N:Nat)(l:List Int)(at_:Int)(t:Tree)(x14_c x15_d:Int)(re_0_0_d:List Int)(N4 N3:NT)(Q:QT)(h:∀ y_1,y_1=t->∀ y_2,y_2=(t.kids.getD x14_c.toNat Tree.nil)->∀ y_3,y_3=(y_2.kids.getD x15_d.toNat Tree.nil)->∀ y_4,y_4=y_3->let z0:=decide (x15_d < (y_2.kids.length:Int));((0:Int)<=x14_c/\x14_c < (t.kids.length:Int))/\((z0=true->(InR (((l.length:Int):Int)+1))/\(InR (((frW y_1.kids:Int):Int)+(frK y_1.kids:Int)))/\(InR (x14_c*(((frW y_1.kids:Int):Int)+(frK y_1.kids:Int))))/\(InR (((((l.length:Int):Int)+1):Int)+(x14_c*(((frW y_1.kids:Int):Int)+(frK y_1.kids:Int)))))/\(InR (((((((l.length:Int):Int)+1):Int)+(x14_c*(((frW y_1.kids:Int):Int)+(frK y_1.kids:Int)))):Int)+(frW y_1.kids:Int)))/\(InR (((((((((l.length:Int):Int)+1):Int)+(x14_c*(((frW y_1.kids:Int):Int)+(frK y_1.kids:Int)))):Int)+(frW y_1.kids:Int)):Int)+x15_d))/\((0:Int)<=x14_c/\x14_c < (t.kids.length:Int))/\((0:Int)<=x15_d/\x15_d < (y_2.kids.length:Int))/\(Z7H (re_0_0_d,(((((((((l.length:Int):Int)+1):Int)+(x14_c*(((frW y_1.kids:Int):Int)+(frK y_1.kids:Int)))):Int)+(frW y_1.kids:Int)):Int)+x15_d),y_4,()))/\(ZfH (re_0_0_d,(((((((((l.length:Int):Int)+1):Int)+(x14_c*(((frW y_1.kids:Int):Int)+(frK y_1.kids:Int)))):Int)+(frW y_1.kids:Int)):Int)+x15_d),y_4,()) < N)/\((InR (x15_d+1))/\(N4 (Z4m l at_ t x14_c (x15_d+1) (YZ re_0_0_d (((((((((l.length:Int):Int)+1):Int)+(x14_c*(((frW y_1.kids:Int):Int)+(frK y_1.kids:Int)))):Int)+(frW y_1.kids:Int)):Int)+x15_d) y_4)))))/\(z0=false->(InR (x14_c+1))/\(N3 (Z4n l at_ t (x14_c+1) re_0_0_d))))):
  A76 N [1,1,0,1,0,1,1,1,1,1,1,1,0,1,1,1,1,1,0,1,0,0,1,0,0,1,0,0] (Z4m l at_ t x14_c x15_d re_0_0_d) (xT N4 (xB 9 (xB 8 (S76 N [1,1,0,1,0,1,1,1,1,1,1,1,0,1,1,1,1,1,0,1,0,0,1,1] (xT N3 (xB 7 (S76 N [1,1,0,1,0,1,1,1,1,1,1,1,0,1,1,1,1,1,1] (xB 0 (S76 N [1,1,1] Q))))))))):=
 (Eq.mpr (by kernel_rfl) (h _ (Zu _) _ rfl _ rfl _ (Zu _)):)
abbrev Zqd(N:Nat)(l:List Int)(at_:Int)(t:Tree):Prop:=AW (Z1 (ZcC N)) Try.f76 ZlI [] (Ys (Z8l.can (l,at_,t,())) (Z8l.canX (l,at_,t,())) (Z8l.canL (l,at_,t,()))) (YP cfg Try.f76.ntmps Try.f76.results.toList (Zb2 (l,at_,t,())) (Z7t (l,at_,t,())) (Z7w (l,at_,t,())))
theorem ZnV(ZpI:CT 102 Z3R)(ZpH:CT 103 Z3Q)(ZpG:CT 104 Z3P)(c82:CT 82 Z1G)(c18:CT 18 Z7h)(hb:∀ (N:Nat) (l:List Int) (at_:Int) (t:Tree) (_:Unit),Z7H (l,at_,t,())->ZfH (l,at_,t,()) < N+1->Zqd N l at_ t):CT 76 Z6T:=
 Z8g (μ:=ZfH) (l:=[(102,Z3R),(103,Z3Q),(104,Z3P),(82,Z1G),(18,Z7h)]) Z9 rfl (⟨ZpI,ZpH,ZpG,c82,c18,trivial⟩) ZlI Try.func76 rfl rfl 3 (fun _=> rfl) (by decide) (fun N ⟨l,at_,t,_⟩=> hb N l at_ t ())
def ZiS:List (FuncId × Fs U):=[(43,Z6G),(50,Z1K),(54,Z72),(76,Z6T)]
def Zpc:Z6 U:=lvl [([1,2],[2]),([1,2,13],[2]),([4,5],[]),([1,2],[2]),([2,24],[2]),([4,5],[]),([4,5],[])]
abbrev A36(p:List Nat):=AW (Z34 ZiS) Try.f36 Zpc p
theorem Zt1(t:Tree)(most:Int)(Q:QT)(h:∀ y_1,y_1=t->∀ y_2,y_2=(Ze y_1)->let z3:=Q .ret (L2 [(4,.c (.nils)),pB 5 false] []);let z1:= !(Z8 y_1 64);let z4:=bif z1 then true else (t.kind==10);let z0:=decide (most<=(Zq y_2:Int));let z2:=bif z0 then true else (decide ((131072:Int)<=(Zq y_2:Int)));((Z30 (y_1,64,()))/\(Tr ((!z1)=true))/\(Tr ((!z1)=true))/\(z1=false->(!z1)=true)/\((z4=true->z3)/\(z4=false->(Z5I (y_1,()))/\((Zbh (y_2,()))/\(Tr ((!z0)=true))/\((!z0)=true->Zbh (y_2,()))/\(Tr ((!z0)=true))/\(z0=false->(!z0)=true)/\((z2=true->z3)/\(z2=false->(Z7H (([0]),0,y_2,()))/\(Q .ret (L2 [(4,.c (sU .u64 (YZ ([0]) 0 y_2) (.own (.e 4 0)))),pB 5 true] []))))))))):
  A36 [] (L2 [(0,.agg (enc .tree t)),pI 1 most] []) Q:=
 (Eq.mpr (by kernel_rfl) (h _ (Zu _) _ (Zu _)):)
abbrev ZqK(t:Tree)(most:Int):Prop:=AW (Z34 ZiS) Try.f36 Zpc [] (Zb (Zf4.can (t,most,())) []) (EQ Try.f36 (Zb7 (t,most,())) [])
theorem Zor(c43:CT 43 Z6G)(c50:CT 50 Z1K)(c54:CT 54 Z72)(c76:CT 76 Z6T)(hb:∀ (t:Tree) (most:Int) (_:Unit),Zhu (t,most,())->ZqK t most):CT 36 Z7d:=
 Z0n (l:=[(43,Z6G),(50,Z1K),(54,Z72),(76,Z6T)]) Z9 rfl (⟨c43,c50,c54,c76,trivial⟩) Zpc Try.func36 rfl rfl 2 (fun _=> rfl) (by decide) (fun ⟨t,most,_⟩=> hb t most ())
end
end Go.AM.Ythokdjgpdonhgaa
