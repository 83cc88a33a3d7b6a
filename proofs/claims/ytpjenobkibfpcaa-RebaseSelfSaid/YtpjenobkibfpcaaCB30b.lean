import Derived.Test.YtpjenobkibfpcaaCL30a
import Derived.Test.YtpjenobkibfpcaaCB30a
set_option linter.unusedSimpArgs false
set_option linter.unusedVariables false
namespace Go.AM.Ytpjenobkibfpcaa
open Go.AM Go.Proofs
noncomputable section
def Zl5:ArgL (WEdit × Unit):=(.cons (aEl .wedit) .nil)
def ZeG(a:WEdit × Unit):Prop:=True
def ZhQ(a:WEdit × Unit):V U:= .c (.bool (decide (WEdit.mask a.1=0)))
def Z1Y:Fs U:=fs Zl5 (fun a=> [ZeG a]) ZhQ
def Zl4:ArgL (Kid × Unit):=(.cons (aEl .kid) .nil)
def ZeE(a:Kid × Unit):Prop:=True
def ZhP(a:Kid × Unit):V U:= .c (.bool (decide (Edit.kind a.1.e=0)))
def Z1X:Fs U:=fs Zl4 (fun a=> [ZeE a]) ZhP
def Zi1(a:Op × Unit):Prop:=True
def ZhN(a:Op × Unit):V U:= .c (.bool (!decide (OpOf.kind a.1=0)))
def Z6e:Fs U:=fs ZkY (fun a=> [Zi1 a]) ZhN
def ZkX:ArgL (List WEdit × Unit × Unit):=(.cons (aSl .wedit) (.cons (aFn 174) .nil))
def Zez(a:List WEdit × Unit × Unit):Prop:=(a.1).length<=1000000000000
def Zei(a:List WEdit × Unit × Unit):V U:= .c (ci (YO (fun w:WEdit=> decide (WEdit.mask w=0)) a.1 0))
def Z6b:Fs U:=fs ZkX (fun a=> [Zez a]) Zei
def Zht:ArgL (List Kid × Unit × Unit):=(.cons (aSl .kid) (.cons (aFn 176) .nil))
def Zaf(a:List Kid × Unit × Unit):Prop:=(a.1).length<=1000000000000
def Zad(a:List Kid × Unit × Unit):V U:= .c (ci (YO (fun k:Kid=> decide (Edit.kind k.e=0)) a.1 0))
def Z3R:Fs U:=fs Zht (fun a=> [Zaf a]) Zad
def ZkW:ArgL (List Op × Unit × Unit):=(.cons (aSl .op) (.cons (aFn 182) .nil))
def Zey(a:List Op × Unit × Unit):Prop:=(a.1).length<=1000000000000
def Zeh(a:List Op × Unit × Unit):V U:= .c (ci (YO (fun o:Op=> !decide (OpOf.kind o=0)) a.1 0))
def Z6a:Fs U:=fs ZkW (fun a=> [Zey a]) Zeh
def ZhO(a:List Op × Unit × Unit):V U:= .c (.bool ((a.1).any fun o=> !decide (OpOf.kind o=0)))
def Z6f:Fs U:=fs ZkW (fun a=> [Zey a]) ZhO
def Zel(a:Int × Unit):V U:= .c (sU .op (J9 a.1) (.own (.r 0 0)))
def Z6h:Fs U:=fs Zlg (fun a=> [Zi3 a]) Zel
def Zla:ArgL (List WEdit × Unit):=(.cons (aSl .wedit) .nil)
def Zby(a:List WEdit × Unit):Prop:=(a.1).length<=100000000000
def Zab(a:List WEdit × Unit):List WEdit:=a.1
def Z9Z:Fs U:=fsL Zla (fun a=> [Zby a]) .wedit Zab
def Zl8:ArgL (List Kid × Unit):=(.cons (aSl .kid) .nil)
def Zbw(a:List Kid × Unit):Prop:=(a.1).length<=100000000000
def Zaa(a:List Kid × Unit):List Kid:=a.1
def Z9W:Fs U:=fsL Zl8 (fun a=> [Zbw a]) .kid Zaa
def Zao:ArgM (List WEdit × Unit × Unit):=(.lst (cWt .wedit (.e 0 0)) (.cons (aFn 174) .nil))
def Zen(a:List WEdit × Unit × Unit):V U:= .c (sU .wedit ((a.1).filter fun w=> !decide (WEdit.mask w=0)) .unk)
def Za4(a:List WEdit × Unit × Unit):List (List (C U)):=[]
def Za8(a:List WEdit × Unit × Unit):List (Tok × LC U):=[]
def Z6j:Fs U:=(ZcH Zao (fun a=> [Zez a]) Zen Za4 Za8).passing [0]
def Zan:ArgM (List Kid × Unit × Unit):=(.lst (cWt .kid (.e 0 0)) (.cons (aFn 176) .nil))
def Zem(a:List Kid × Unit × Unit):V U:= .c (sU .kid ((a.1).filter fun k=> !decide (Edit.kind k.e=0)) .unk)
def Za3(a:List Kid × Unit × Unit):List (List (C U)):=[]
def Za7(a:List Kid × Unit × Unit):List (Tok × LC U):=[]
def Z6i:Fs U:=(ZcH Zan (fun a=> [Zaf a]) Zem Za3 Za7).passing [0]
def Zap:ArgM ((Int × Int × List Int × List Tree × Int × List Int × List Tree × List WEdit × List Kid × Int × List Op × Unit) × Unit):=(.agg (.cons (Zfl .i64) (.cons (Zfl .i64) (.cons (cSl .u64) (.cons (cSl .tree) (.cons (Zfl .i64) (.cons (cSl .u64) (.cons (cSl .tree) (.cons (cWt .wedit (.e 0 7)) (.cons (cWt .kid (.e 0 8)) (.cons (Zfl .i64) (.cons (cSl .op) .nil))))))))))) .nil)
def Zbv(a:(Int × Int × List Int × List Tree × Int × List Int × List Tree × List WEdit × List Kid × Int × List Op × Unit) × Unit):Prop:=(a.1.2.2.2.2.2.2.2.1).length<=10000000000/\(a.1.2.2.2.2.2.2.2.2.1).length<=10000000000
def Zeq(a:(Int × Int × List Int × List Tree × Int × List Int × List Tree × List WEdit × List Kid × Int × List Op × Unit) × Unit):V U:= .agg (enc .edit (Z2w (Edit.mk a.1.1 (Tree.mk a.1.2.1 a.1.2.2.1 a.1.2.2.2.1) (Tree.mk a.1.2.2.2.2.1 a.1.2.2.2.2.2.1 a.1.2.2.2.2.2.2.1) a.1.2.2.2.2.2.2.2.1 a.1.2.2.2.2.2.2.2.2.1 a.1.2.2.2.2.2.2.2.2.2.1 a.1.2.2.2.2.2.2.2.2.2.2.1)))
def Za6(a:(Int × Int × List Int × List Tree × Int × List Int × List Tree × List WEdit × List Kid × Int × List Op × Unit) × Unit):List (List (C U)):=[]
def Za9(a:(Int × Int × List Int × List Tree × Int × List Int × List Tree × List WEdit × List Kid × Int × List Op × Unit) × Unit):List (Tok × LC U):=[]
def Z9V:Fs U:=(ZcH Zap (fun a=> [Zbv a]) Zeq Za6 Za9).passing [0]
def Zbu(a:Int × List Op × Unit):Prop:=(a.2.1).length<=1000000000000
def Zep(a:Int × List Op × Unit):V U:= .agg (enc .edit (Z0K a.1 a.2.1))
def Z9S:Fs U:=fs Zfn (fun a=> [Zbu a]) Zep
def ZfA:ArgM ((Bool × Bool × Unit) × Edit × Tree × Tree × Unit):=(.obj 0 (.cons Z0Z (.cons Z0Z .nil)) (.cons (aEl .edit) (.cons (aEl .tree) (.cons (aEl .tree) .nil))))
def Z8f(a:(Bool × Bool × Unit) × Edit × Tree × Tree × Unit):Prop:=(Z7 a.2.1<=20000000000/\YQ a.2.1/\∃ d,Z8 a.2.1 d=true)/\(Zm a.2.2.1+ctE a.2.1<=200000000000/\rng a.2.2.1)/\Zm a.2.2.2.1<=100000000000
def Zbn(a:(Bool × Bool × Unit) × Edit × Tree × Tree × Unit):V U:= .tup []
def Z6F(a:(Bool × Bool × Unit) × Edit × Tree × Tree × Unit):List (List (C U)):=[[.bool (a.1.1 || (Z05 a.2.1 a.2.2.1 a.2.2.2.1).c),.bool (a.1.2.1 || (Z05 a.2.1 a.2.2.1 a.2.2.2.1).a)]]
def Za1:Fs U:=fsX ZfA (fun a=> [Z8f a]) Zbn Z6F
def Zfy:ArgM ((Unit × List Op × List Op × List Tree × List Tree × Unit) × (Bool × Bool × Unit) × Unit):=(.obj 0 (.cons (cXp 1) (.cons (Z2Y .op 0 1) (.cons (Z2Y .op 0 2) (.cons (Z2Y .tree 0 3) (.cons (Z2Y .tree 0 4) .nil))))) (.hid (.cons Z0Z (.cons Z0Z .nil)) .nil))
def ZeJ(a:(Unit × List Op × List Op × List Tree × List Tree × Unit) × (Bool × Bool × Unit) × Unit):Prop:=((a.1.2.1).length<=10000000000/\(a.1.2.2.1).length<=10000000000)/\Z6 a.1.2.2.2.1<=100000000000/\Z6 a.1.2.2.2.2.1<=100000000000
def ZnQ(a:(Unit × List Op × List Op × List Tree × List Tree × Unit) × (Bool × Bool × Unit) × Unit):V U:= .tup []
def Z6B(a:(Unit × List Op × List Op × List Tree × List Tree × Unit) × (Bool × Bool × Unit) × Unit):List (List (C U)):=[[.xp 1,sU .op (a.1.2.1++(Ja a.1.2.2.2.1 a.1.2.2.2.2.1).x) (.own (.x 0 1)),sU .op (a.1.2.2.1++(Ja a.1.2.2.2.1 a.1.2.2.2.2.1).y) (.own (.x 0 2)),sU .tree ([]:List Tree) (.own (.x 0 3)),sU .tree ([]:List Tree) (.own (.x 0 4))],[.bool (a.2.1.1 || (Ja a.1.2.2.2.1 a.1.2.2.2.2.1).c),.bool a.2.1.2.1]]
def Z9T:Fs U:=fsX Zfy (fun a=> [ZeJ a]) ZnQ Z6B
abbrev ZzT(p:List Nat):=AW (Z1 Zix) Try.f174 ZvD p
theorem ZxG(w:WEdit)(Q:QT)(h:(Q .ret (L2 [pB 2 (w.mask==0)] []))):
  ZzT [] (L2 [(0,.agg (enc .wedit w))] []) Q:=
 Eq.mpr (by kernel_rfl) h
def Ztg(w:WEdit):Prop:=AW (Z1 Zix) Try.f174 ZvD [] (Zj (Zl5.can (w,())) []) (EQ Try.f174 (ZhQ (w,())) [])
theorem ZrT(hb:∀ (w:WEdit) (_:Unit),ZeG (w,())->Ztg w):CT 174 Z1Y:=
 Z3 (l:=[]) Zl rfl trivial ZvD Try.func174 rfl rfl 1 (fun _=> rfl) (by decide) (fun ⟨w,_⟩=> hb w ())
abbrev ZzS(p:List Nat):=AW (Z1 Zix) Try.f176 ZvD p
theorem ZxE(k:Kid)(Q:QT)(h:(Q .ret (L2 [pB 2 (k.e.kind==0)] []))):
  ZzS [] (L2 [(0,.agg (enc .kid k))] []) Q:=
 Eq.mpr (by kernel_rfl) h
def Zte(k:Kid):Prop:=AW (Z1 Zix) Try.f176 ZvD [] (Zj (Zl4.can (k,())) []) (EQ Try.f176 (ZhP (k,())) [])
theorem ZrR(hb:∀ (k:Kid) (_:Unit),ZeE (k,())->Zte k):CT 176 Z1X:=
 Z3 (l:=[]) Zl rfl trivial ZvD Try.func176 rfl rfl 1 (fun _=> rfl) (by decide) (fun ⟨k,_⟩=> hb k ())
abbrev ZzM(p:List Nat):=AW (Z1 Zix) Try.f182 ZvD p
theorem Zxy(o:Op)(Q:QT)(h:(Q .ret (L2 [pB 2 (o.kind !=0)] []))):
  ZzM [] (L2 [(0,.agg (enc .op o))] []) Q:=
 Eq.mpr (by kernel_rfl) h
def Zt8(o:Op):Prop:=AW (Z1 Zix) Try.f182 ZvD [] (Zj (ZkY.can (o,())) []) (EQ Try.f182 (ZhN (o,())) [])
theorem ZrL(hb:∀ (o:Op) (_:Unit),Zi1 (o,())->Zt8 o):CT 182 Z6e:=
 Z3 (l:=[]) Zl rfl trivial ZvD Try.func182 rfl rfl 1 (fun _=> rfl) (by decide) (fun ⟨o,_⟩=> hb o ())
def Zf5:List (FuncId × Fs U):=[(174,Z1Y)]
def Zk4:Zf U:=lvl [([0,1],[]),([0,1,7,8],[]),([0,1,7,8,9],[]),([0,1,5,7,8],[]),([0,1,5,7,8,16],[]),([4],[]),([0,1,7,8],[]),([4],[])]
def Z4X(l:List WEdit)(f:Unit)(x8:Int):LSt U:=(L2 [(0,.c (sU .wedit l .unk)),(1,.fn 174),pI 7 (l.length:Int),pI 8 x8] [])
abbrev Zxh(p:List Nat):=AW (Z1 Zf5) Try.f192 Zk4 p
abbrev ZyP(p:List Nat):=SW (Z1 Zf5) Try.f192 Zk4 p
theorem Zxt(l:List WEdit)(f:Unit)(Q:QT)(h:(Zi (Zxh [1,0,1,0,0]) (Z4X l f 0) (xB 0 (ZyP [1,1] Q)))):
  Zxh [] (L2 [(0,.c (sU .wedit l .unk)),(1,.fn 174)] []) Q:=
 Eq.mpr (by kernel_rfl) h
theorem Zn4(l:List WEdit)(f:Unit)(x8:Int)(N0:NT)(Q:QT)(h:let z2:=decide (x8 < (l.length:Int));let z1:=l.getD x8.toNat (WEdit.mk 0 0 0 0);let z0:=WEdit.mk (WEdit.at_ z1) (WEdit.mask z1) (WEdit.old z1) (WEdit.new z1);((z2=true->(((0:Int)<=x8/\x8 < (l.length:Int))/\(ZeG (z0,()))/\(((decide (WEdit.mask z0=0))=true->(Q .ret (L2 [pI 4 x8] [])))/\((decide (WEdit.mask z0=0))=false->(InR (x8+1))/\(N0 (Z4X l f (x8+1)))))))/\(z2=false->(Q .ret (L2 [pI 4 (-1)] []))))):
  Zxh [1,0,1,0,0] (Z4X l f x8) (xT N0 (xB 0 (ZyP [1,1] Q))):=
 Eq.mpr (by kernel_rfl) h
def Zt3(l:List WEdit)(f:Unit):Prop:=AW (Z1 Zf5) Try.f192 Zk4 [] (Zj (ZkX.can (l,f,())) []) (EQ Try.f192 (Zei (l,f,())) [])
theorem ZrG(ZmG:CT 174 Z1Y)(hb:∀ (l:List WEdit) (f:Unit) (_:Unit),Zez (l,f,())->Zt3 l f):CT 192 Z6b:=
 Z3 (l:=[(174,Z1Y)]) Zl rfl (⟨ZmG,trivial⟩) Zk4 Try.func192 rfl rfl 2 (fun _=> rfl) (by decide) (fun ⟨l,f,_⟩=> hb l f ())
def Zca:List (FuncId × Fs U):=[(176,Z1X)]
def Z3t(l:List Kid)(f:Unit)(x8:Int):LSt U:=(L2 [(0,.c (sU .kid l .unk)),(1,.fn 176),pI 7 (l.length:Int),pI 8 x8] [])
abbrev ZqB(p:List Nat):=AW (Z1 Zca) Try.f72 Zk4 p
abbrev Zus(p:List Nat):=SW (Z1 Zca) Try.f72 Zk4 p
theorem ZuF(l:List Kid)(f:Unit)(Q:QT)(h:(Zi (ZqB [1,0,1,0,0]) (Z3t l f 0) (xB 0 (Zus [1,1] Q)))):
  ZqB [] (L2 [(0,.c (sU .kid l .unk)),(1,.fn 176)] []) Q:=
 Eq.mpr (by kernel_rfl) h
theorem ZlB(l:List Kid)(f:Unit)(x8:Int)(N0:NT)(Q:QT)(h:∀ y_1,y_1=(l.getD x8.toNat (KidOf.mk 0 Edit.nil))->∀ y_2,y_2=y_1->let z1:=decide (Edit.kind y_2.e=0);let z0:=decide (x8 < (l.length:Int));((z0=true->(((0:Int)<=x8/\x8 < (l.length:Int))/\(ZeE (y_2,()))/\((z1=true->(Q .ret (L2 [pI 4 x8] [])))/\(z1=false->(InR (x8+1))/\(N0 (Z3t l f (x8+1)))))))/\(z0=false->(Q .ret (L2 [pI 4 (-1)] []))))):
  ZqB [1,0,1,0,0] (Z3t l f x8) (xT N0 (xB 0 (Zus [1,1] Q))):=
 Eq.mpr (by kernel_rfl) (h _ rfl _ (Zgk _))
def ZqA(l:List Kid)(f:Unit):Prop:=AW (Z1 Zca) Try.f72 Zk4 [] (Zj (Zht.can (l,f,())) []) (EQ Try.f72 (Zad (l,f,())) [])
theorem ZoH(ZmF:CT 176 Z1X)(hb:∀ (l:List Kid) (f:Unit) (_:Unit),Zaf (l,f,())->ZqA l f):CT 72 Z3R:=
 Z3 (l:=[(176,Z1X)]) Zl rfl (⟨ZmF,trivial⟩) Zk4 Try.func72 rfl rfl 2 (fun _=> rfl) (by decide) (fun ⟨l,f,_⟩=> hb l f ())
def Zf4:List (FuncId × Fs U):=[(182,Z6e)]
def Z4W(l:List Op)(f:Unit)(x8:Int):LSt U:=(L2 [(0,.c (sU .op l .unk)),(1,.fn 182),pI 7 (l.length:Int),pI 8 x8] [])
abbrev Zxg(p:List Nat):=AW (Z1 Zf4) Try.f193 Zk4 p
abbrev ZyO(p:List Nat):=SW (Z1 Zf4) Try.f193 Zk4 p
theorem Zxs(l:List Op)(f:Unit)(Q:QT)(h:(Zi (Zxg [1,0,1,0,0]) (Z4W l f 0) (xB 0 (ZyO [1,1] Q)))):
  Zxg [] (L2 [(0,.c (sU .op l .unk)),(1,.fn 182)] []) Q:=
 Eq.mpr (by kernel_rfl) h
theorem Zn3(l:List Op)(f:Unit)(x8:Int)(N0:NT)(Q:QT)(h:∀ y_1,y_1=(l.getD x8.toNat Op.nil)->∀ y_2,y_2=y_1->let z0:=decide (x8 < (l.length:Int));((z0=true->(((0:Int)<=x8/\x8 < (l.length:Int))/\(Zi1 (y_2,()))/\(((!decide (OpOf.kind y_2=0))=true->(Q .ret (L2 [pI 4 x8] [])))/\((!decide (OpOf.kind y_2=0))=false->(InR (x8+1))/\(N0 (Z4W l f (x8+1)))))))/\(z0=false->(Q .ret (L2 [pI 4 (-1)] []))))):
  Zxg [1,0,1,0,0] (Z4W l f x8) (xT N0 (xB 0 (ZyO [1,1] Q))):=
 Eq.mpr (by kernel_rfl) (h _ rfl _ (Yv _))
def Zt2(l:List Op)(f:Unit):Prop:=AW (Z1 Zf4) Try.f193 Zk4 [] (Zj (ZkW.can (l,f,())) []) (EQ Try.f193 (Zeh (l,f,())) [])
theorem ZrF(Zw0:CT 182 Z6e)(hb:∀ (l:List Op) (f:Unit) (_:Unit),Zey (l,f,())->Zt2 l f):CT 193 Z6a:=
 Z3 (l:=[(182,Z6e)]) Zl rfl (⟨Zw0,trivial⟩) Zk4 Try.func193 rfl rfl 2 (fun _=> rfl) (by decide) (fun ⟨l,f,_⟩=> hb l f ())
def Zkl:List (FuncId × Fs U):=[(193,Z6a)]
abbrev ZzN(p:List Nat):=AW (Z1 Zkl) Try.f181 ZvC p
theorem Zxz(l:List Op)(f:Unit)(Q:QT)(h:((Zey (l,(),()))/\(Q .ret (L2 [(4,.c (.bool (decide ((0:Int)<=(YO (fun o:Op=> !decide (OpOf.kind o=0)) l 0)))))] [])))):
  ZzN [] (L2 [(0,.c (sU .op l .unk)),(1,.fn 182)] []) Q:=
 Eq.mpr (by kernel_rfl) h
def Zt9(l:List Op)(f:Unit):Prop:=AW (Z1 Zkl) Try.f181 ZvC [] (Zj (ZkW.can (l,f,())) []) (EQ Try.f181 (ZhO (l,f,())) [])
theorem ZrM(ZvW:CT 193 Z6a)(hb:∀ (l:List Op) (f:Unit) (_:Unit),Zey (l,f,())->Zt9 l f):CT 181 Z6f:=
 Z3 (l:=[(193,Z6a)]) Zl rfl (⟨ZvW,trivial⟩) ZvC Try.func181 rfl rfl 2 (fun _=> rfl) (by decide) (fun ⟨l,f,_⟩=> hb l f ())
abbrev ZzR(p:List Nat):=AW (Z1 Zix) Try.f177 Zpb p
theorem ZxD(n:Int)(Q:QT)(h:(((n==0)=true->(Q .ret (L2 [(2,.c (.nils))] [])))/\((n==0)=false->(Q .ret (L2 [(2,.c (sU .op ([(OpOf.mk 0 n [] (Edit.mk 0 (Tree.mk 0 [] []) (Tree.mk 0 [] []) [] [] 0 []))]) .full))] []))))):
  ZzR [] (L2 [pI 0 n] []) Q:=
 Eq.mpr (by kernel_rfl) h
def Ztd(n:Int):Prop:=AW (Z1 Zix) Try.f177 Zpb [] (Zj (Zlg.can (n,())) []) (EQ Try.f177 (Zel (n,())) [])
theorem ZrQ(hb:∀ (n:Int) (_:Unit),Zi3 (n,())->Ztd n):CT 177 Z6h:=
 Z3 (l:=[]) Zl rfl trivial Zpb Try.func177 rfl rfl 1 (fun _=> rfl) (by decide) (fun ⟨n,_⟩=> hb n ())
def Zp3:Zf U:=fun i=> match i with
 | 0=> ([(0,[])],[])
 | 1=> ([(0,[]),(4,[])],[])
 | 2=> ([(2,[.wr .wedit])],[])
 | 3=> ([(2,[.wr .wedit])],[])
 | _=> ([],[])
abbrev ZA2(p:List Nat):=AW (Z1N Zix) Try.f153 Zp3 p
theorem ZxR(l:List WEdit)(Q:QT)(h:(((l=[])->(Q .ret (⟨[(2,.c (.mref (.e 2 0)))],[],[(.e 2 0,LC.mk (U:=U) .wedit [] 0)]⟩:LSt U)))/\(True->((([]:List WEdit).length+l.length)*32<=140737488355328)/\(Q .ret (⟨[(2,.c (.mref (.e 2 0)))],[],[(.e 2 0,LC.mk (U:=U) .wedit (([]:List WEdit)++l) (([]:List WEdit).length))]⟩:LSt U))))):
  ZA2 [] (L2 [(0,.c (sU .wedit l .unk))] []) Q:=
 Eq.mpr (by kernel_rfl) h
def Ztr(l:List WEdit):Prop:=AW (Z1N Zix) Try.f153 Zp3 [] (Zj (Zla.can (l,())) []) (JW cfg Try.f153.ntmps Try.f153.results.toList (.c (.mref (.r 0 0))) [] [(.r 0 0,LC.mk (U:=U) .wedit (Zab (l,())) 0)])
theorem Zs3(hb:∀ (l:List WEdit) (_:Unit),Zby (l,())->Ztr l):CT 153 Z9Z:=
 Z0h (l:=[]) Zl rfl trivial Zp3 Try.func153 rfl rfl 1 (fun _=> rfl) (by decide) (fun ⟨l,_⟩=> hb l ())
def Zp0:Zf U:=fun i=> match i with
 | 0=> ([(0,[])],[])
 | 1=> ([(0,[]),(4,[])],[])
 | 2=> ([(2,[.wr .kid])],[])
 | 3=> ([(2,[.wr .kid])],[])
 | _=> ([],[])
abbrev ZzZ(p:List Nat):=AW (Z1N Zix) Try.f156 Zp0 p
theorem ZxO(l:List Kid)(Q:QT)(h:(((l=[])->(Q .ret (⟨[(2,.c (.mref (.e 2 0)))],[],[(.e 2 0,LC.mk (U:=U) .kid [] 0)]⟩:LSt U)))/\(True->((([]:List Kid).length+l.length)*208<=140737488355328)/\(Q .ret (⟨[(2,.c (.mref (.e 2 0)))],[],[(.e 2 0,LC.mk (U:=U) .kid (([]:List Kid)++l) (([]:List Kid).length))]⟩:LSt U))))):
  ZzZ [] (L2 [(0,.c (sU .kid l .unk))] []) Q:=
 Eq.mpr (by kernel_rfl) h
def Zto(l:List Kid):Prop:=AW (Z1N Zix) Try.f156 Zp0 [] (Zj (Zl8.can (l,())) []) (JW cfg Try.f156.ntmps Try.f156.results.toList (.c (.mref (.r 0 0))) [] [(.r 0 0,LC.mk (U:=U) .kid (Zaa (l,())) 0)])
theorem Zs0(hb:∀ (l:List Kid) (_:Unit),Zbw (l,())->Zto l):CT 156 Z9W:=
 Z0h (l:=[]) Zl rfl trivial Zp0 Try.func156 rfl rfl 1 (fun _=> rfl) (by decide) (fun ⟨l,_⟩=> hb l ())
def Zf7:List (FuncId × Fs U):=[(174,Z1Y),(192,Z6b.lend)]
def Zk6:Zf U:=fun i=> match i with
 | 0=> ([(0,[.wr .wedit]),(1,[])],[])
 | 1=> ([(0,[.wr .wedit]),(1,[]),(5,[])],[])
 | 2=> ([(0,[.wr .wedit]),(1,[]),(5,[]),(12,[])],[])
 | 3=> ([(4,[])],[])
 | 4=> ([(0,[.wr .wedit]),(1,[]),(5,[]),(6,[])],[])
 | 5=> ([(0,[.wr .wedit]),(1,[]),(5,[]),(6,[]),(19,[])],[])
 | 6=> ([(0,[.wr .wedit]),(1,[]),(5,[]),(6,[])],[])
 | 7=> ([(0,[.wr .wedit]),(1,[]),(5,[]),(6,[]),(7,[])],[(.loc 7,[])])
 | 8=> ([(0,[.wr .wedit]),(1,[]),(5,[]),(6,[]),(7,[]),(29,[])],[(.loc 7,[])])
 | 9=> ([(0,[.wr .wedit]),(1,[]),(5,[]),(6,[])],[])
 | 10=> ([(0,[.wr .wedit]),(1,[]),(5,[]),(6,[])],[])
 | 11=> ([(0,[.wr .wedit]),(5,[])],[])
 | 12=> ([(4,[])],[])
 | _=> ([],[])
def Z2T(l:List WEdit)(f:Unit)(x5 x6:Int)(re_0_0:List WEdit):LSt U:=(⟨[(0,.c (.mref (.e 0 0))),(1,.fn 174),pI 5 x5,pI 6 x6],[],[(.e 0 0,LC.mk (U:=U) .wedit re_0_0 0)]⟩:LSt U)
abbrev Zxj(p:List Nat):=AW (Z1 Zf7) Try.f173 Zk6 p
abbrev ZyR(p:List Nat):=SW (Z1 Zf7) Try.f173 Zk6 p
theorem ZxH(l:List WEdit)(f:Unit)(Q:QT)(h:((Zez (l,(),()))/\(((((YO (fun w:WEdit=> decide (WEdit.mask w=0)) l 0):Int)==(-1))=true->(Q .ret (L2 [(4,.c (sU .wedit l (.own (.e 4 0))))] [])))/\((((YO (fun w:WEdit=> decide (WEdit.mask w=0)) l 0):Int)==(-1))=false->(InR (((YO (fun w:WEdit=> decide (WEdit.mask w=0)) l 0):Int)+1))/\(Zi (Zxj [1,1,1,0,1,0,0]) (Z2T l f (YO (fun w:WEdit=> decide (WEdit.mask w=0)) l 0) (((YO (fun w:WEdit=> decide (WEdit.mask w=0)) l 0):Int)+1) l) (xB 0 (ZyR [1,1,1,1] Q))))))):
  Zxj [] (⟨[(0,.c (.mref (.e 0 0))),(1,.fn 174)],[],[(.e 0 0,LC.mk (U:=U) .wedit l 0)]⟩:LSt U) Q:=
 Eq.mpr (by kernel_rfl) h
theorem Zn6(l:List WEdit)(f:Unit)(x5 x6:Int)(re_0_0:List WEdit)(N0:NT)(Q:QT)(h:∀ y_1,y_1=(re_0_0.getD x6.toNat (WEdit.mk 0 0 0 0))->∀ y_2,y_2=y_1->let z1:= !(decide (WEdit.mask y_2=0));let z0:=decide (x6 < (re_0_0.length:Int));((z0=true->((0:Int)<=x6/\x6 < (re_0_0.length:Int))/\((ZeG (y_2,()))/\((z1=true->((0:Int)<=x5/\x5 < (re_0_0.length:Int))/\((0:Nat)<=x5.toNat)/\((InR (x5+1))/\((InR (x6+1))/\(N0 (Z2T l f (x5+1) (x6+1) (List.set re_0_0 x5.toNat y_2))))))/\(z1=false->(InR (x6+1))/\(N0 (Z2T l f x5 (x6+1) re_0_0))))))/\(z0=false->((0:Int)<=x5/\x5<=(re_0_0.length:Int))/\((0:Nat)<=x5.toNat)/\(((0:Int)<=x5/\x5<=((List.take x5.toNat re_0_0++List.replicate (re_0_0.length - Int.toNat x5) (WEdit.mk 0 0 0 0)).length:Int))/\(Q .ret (L2 [(4,.c (sU .wedit (List.take x5.toNat (List.take x5.toNat re_0_0++List.replicate (re_0_0.length - Int.toNat x5) (WEdit.mk 0 0 0 0))) .unk))] [])))))):
  Zxj [1,1,1,0,1,0,0] (Z2T l f x5 x6 re_0_0) (xT N0 (xB 0 (ZyR [1,1,1,1] Q))):=
 Eq.mpr (by kernel_rfl) (h _ rfl _ (Z1C _))
def Zth(l:List WEdit)(f:Unit):Prop:=AW (Z1 Zf7) Try.f173 Zk6 [] (Jw (Zao.can (l,f,())) (Zao.canX (l,f,())) (Zao.canL (l,f,()))) (JW cfg Try.f173.ntmps Try.f173.results.toList (Zen (l,f,())) (Za4 (l,f,())) (Za8 (l,f,())))
theorem ZrU(ZmG:CT 174 Z1Y)(ZvX:CT 192 Z6b)(hb:∀ (l:List WEdit) (f:Unit) (_:Unit),Zez (l,f,())->Zth l f):CT 173 Z6j:=
 Contract.passing <| Yh (l:=[(174,Z1Y),(192,Z6b.lend)]) Zl rfl (⟨ZmG,ZvX.lend,trivial⟩) Zk6 Try.func173 rfl rfl 2 (fun _=> rfl) (by decide) (fun ⟨l,f,_⟩=> hb l f ())
def Zf6:List (FuncId × Fs U):=[(176,Z1X),(72,Z3R.lend)]
def Zk5:Zf U:=fun i=> match i with
 | 0=> ([(0,[.wr .kid]),(1,[])],[])
 | 1=> ([(0,[.wr .kid]),(1,[]),(5,[])],[])
 | 2=> ([(0,[.wr .kid]),(1,[]),(5,[]),(12,[])],[])
 | 3=> ([(4,[])],[])
 | 4=> ([(0,[.wr .kid]),(1,[]),(5,[]),(6,[])],[])
 | 5=> ([(0,[.wr .kid]),(1,[]),(5,[]),(6,[]),(19,[])],[])
 | 6=> ([(0,[.wr .kid]),(1,[]),(5,[]),(6,[])],[])
 | 7=> ([(0,[.wr .kid]),(1,[]),(5,[]),(6,[]),(7,[])],[(.loc 7,[])])
 | 8=> ([(0,[.wr .kid]),(1,[]),(5,[]),(6,[]),(7,[]),(29,[])],[(.loc 7,[])])
 | 9=> ([(0,[.wr .kid]),(1,[]),(5,[]),(6,[])],[])
 | 10=> ([(0,[.wr .kid]),(1,[]),(5,[]),(6,[])],[])
 | 11=> ([(0,[.wr .kid]),(5,[])],[])
 | 12=> ([(4,[])],[])
 | _=> ([],[])
def Z2S(l:List Kid)(f:Unit)(x5 x6:Int)(re_0_0:List Kid):LSt U:=(⟨[(0,.c (.mref (.e 0 0))),(1,.fn 176),pI 5 x5,pI 6 x6],[],[(.e 0 0,LC.mk (U:=U) .kid re_0_0 0)]⟩:LSt U)
abbrev Zxi(p:List Nat):=AW (Z1 Zf6) Try.f175 Zk5 p
abbrev ZyQ(p:List Nat):=SW (Z1 Zf6) Try.f175 Zk5 p
theorem ZxF(l:List Kid)(f:Unit)(Q:QT)(h:((Zaf (l,(),()))/\(((((YO (fun k:Kid=> decide (Edit.kind k.e=0)) l 0):Int)==(-1))=true->(Q .ret (L2 [(4,.c (sU .kid l (.own (.e 4 0))))] [])))/\((((YO (fun k:Kid=> decide (Edit.kind k.e=0)) l 0):Int)==(-1))=false->(InR (((YO (fun k:Kid=> decide (Edit.kind k.e=0)) l 0):Int)+1))/\(Zi (Zxi [1,1,1,0,1,0,0]) (Z2S l f (YO (fun k:Kid=> decide (Edit.kind k.e=0)) l 0) (((YO (fun k:Kid=> decide (Edit.kind k.e=0)) l 0):Int)+1) l) (xB 0 (ZyQ [1,1,1,1] Q))))))):
  Zxi [] (⟨[(0,.c (.mref (.e 0 0))),(1,.fn 176)],[],[(.e 0 0,LC.mk (U:=U) .kid l 0)]⟩:LSt U) Q:=
 Eq.mpr (by kernel_rfl) h
theorem Zn5(l:List Kid)(f:Unit)(x5 x6:Int)(re_0_0:List Kid)(N0:NT)(Q:QT)(h:∀ y_1,y_1=(re_0_0.getD x6.toNat (KidOf.mk 0 Edit.nil))->∀ y_2,y_2=y_1->let z1:= !(decide (Edit.kind y_2.e=0));let z0:=decide (x6 < (re_0_0.length:Int));((z0=true->((0:Int)<=x6/\x6 < (re_0_0.length:Int))/\((ZeE (y_2,()))/\((z1=true->((0:Int)<=x5/\x5 < (re_0_0.length:Int))/\((0:Nat)<=x5.toNat)/\((InR (x5+1))/\((InR (x6+1))/\(N0 (Z2S l f (x5+1) (x6+1) (List.set re_0_0 x5.toNat y_2))))))/\(z1=false->(InR (x6+1))/\(N0 (Z2S l f x5 (x6+1) re_0_0))))))/\(z0=false->((0:Int)<=x5/\x5<=(re_0_0.length:Int))/\((0:Nat)<=x5.toNat)/\(((0:Int)<=x5/\x5<=((List.take x5.toNat re_0_0++List.replicate (re_0_0.length - Int.toNat x5) (KidOf.mk 0 Edit.nil)).length:Int))/\(Q .ret (L2 [(4,.c (sU .kid (List.take x5.toNat (List.take x5.toNat re_0_0++List.replicate (re_0_0.length - Int.toNat x5) (KidOf.mk 0 Edit.nil))) .unk))] [])))))):
  Zxi [1,1,1,0,1,0,0] (Z2S l f x5 x6 re_0_0) (xT N0 (xB 0 (ZyQ [1,1,1,1] Q))):=
 Eq.mpr (by kernel_rfl) (h _ rfl _ (Zgk _))
def Ztf(l:List Kid)(f:Unit):Prop:=AW (Z1 Zf6) Try.f175 Zk5 [] (Jw (Zan.can (l,f,())) (Zan.canX (l,f,())) (Zan.canL (l,f,()))) (JW cfg Try.f175.ntmps Try.f175.results.toList (Zem (l,f,())) (Za3 (l,f,())) (Za7 (l,f,())))
theorem ZrS(ZmF:CT 176 Z1X)(ZpY:CT 72 Z3R)(hb:∀ (l:List Kid) (f:Unit) (_:Unit),Zaf (l,f,())->Ztf l f):CT 175 Z6i:=
 Contract.passing <| Yh (l:=[(176,Z1X),(72,Z3R.lend)]) Zl rfl (⟨ZmF,ZpY.lend,trivial⟩) Zk5 Try.func175 rfl rfl 2 (fun _=> rfl) (by decide) (fun ⟨l,f,_⟩=> hb l f ())
def Zkx:List (FuncId × Fs U):=[(173,Z6j),(175,Z6i)]
def ZoZ:Zf U:=fun i=> match i with
 | 0=> ([(1,[]),(2,[])],[(.loc 1,[.any,.any,.any,.any,.any,.any,.any,.wr .wedit,.wr .kid]),(.loc 2,[])])
 | 1=> ([(1,[]),(2,[])],[(.loc 1,[.any,.any,.any,.any,.any,.any,.any,.any,.wr .kid]),(.loc 2,[])])
 | 2=> ([(1,[]),(2,[])],[(.loc 1,[]),(.loc 2,[])])
 | 3=> ([(1,[]),(2,[]),(18,[])],[(.loc 1,[]),(.loc 2,[])])
 | 4=> ([(2,[])],[(.loc 2,[])])
 | 5=> ([(2,[])],[(.loc 2,[])])
 | _=> ([],[])
abbrev ZzY(p:List Nat):=AW (Z1 Zkx) Try.f157 ZoZ p
set_option maxHeartbeats 2000000 in
theorem ZxN(ek eo:Int)(eow:List Int)(eok:List Tree)(en:Int)(enw:List Int)(enk:List Tree)(ew:List WEdit)(ec:List Kid)(li:Int)(eos:List Op)(Q:QT)(h:((Zez (ew,(),()))/\((Zaf (ec,(),()))/\((InR ((((ew.filter fun w=> !decide (WEdit.mask w=0)).length:Int):Int)+((ec.filter fun k=> !decide (Edit.kind k.e=0)).length:Int)))/\((((((((ew.filter fun w=> !decide (WEdit.mask w=0)).length:Int):Int)+((ec.filter fun k=> !decide (Edit.kind k.e=0)).length:Int)):Int)==0)=true->(Q .ret (L2 [pL 2] [(.loc 2,zc1)])))/\(((((((ew.filter fun w=> !decide (WEdit.mask w=0)).length:Int):Int)+((ec.filter fun k=> !decide (Edit.kind k.e=0)).length:Int)):Int)==0)=false->(Q .ret (L2 [pL 2] [(.loc 2,[ci ek,ci eo,sU .u64 eow .unk,sU .tree eok .unk,ci en,sU .u64 enw .unk,sU .tree enk .unk,sU .wedit (ew.filter fun w=> !decide (WEdit.mask w=0)) .unk,sU .kid (ec.filter fun k=> !decide (Edit.kind k.e=0)) .unk,ci li,sU .op eos .unk])])))))))):
  ZzY [] (⟨[(0,.agg [ci ek,ci eo,sU .u64 eow .unk,sU .tree eok .unk,ci en,sU .u64 enw .unk,sU .tree enk .unk,.mref (.e 0 7),.mref (.e 0 8),ci li,sU .op eos .unk])],[],[(.e 0 7,LC.mk (U:=U) .wedit ew 0),(.e 0 8,LC.mk (U:=U) .kid ec 0)]⟩:LSt U) Q:=
 Eq.mpr (by kernel_rfl) h
def Ztn(ek eo:Int)(eow:List Int)(eok:List Tree)(en:Int)(enw:List Int)(enk:List Tree)(ew:List WEdit)(ec:List Kid)(li:Int)(eos:List Op):Prop:=AW (Z1 Zkx) Try.f157 ZoZ [] (Jw (Zap.can ((ek,eo,eow,eok,en,enw,enk,ew,ec,li,eos,()),())) (Zap.canX ((ek,eo,eow,eok,en,enw,enk,ew,ec,li,eos,()),())) (Zap.canL ((ek,eo,eow,eok,en,enw,enk,ew,ec,li,eos,()),()))) (JW cfg Try.f157.ntmps Try.f157.results.toList (Zeq ((ek,eo,eow,eok,en,enw,enk,ew,ec,li,eos,()),())) (Za6 ((ek,eo,eow,eok,en,enw,enk,ew,ec,li,eos,()),())) (Za9 ((ek,eo,eow,eok,en,enw,enk,ew,ec,li,eos,()),())))
set_option maxHeartbeats 2000000 in
theorem ZrZ(Zw7:CT 173 Z6j)(Zw6:CT 175 Z6i)(hb:∀ (ek:Int) (eo:Int) (eow:List Int) (eok:List Tree) (en:Int) (enw:List Int) (enk:List Tree) (ew:List WEdit) (ec:List Kid) (li:Int) (eos:List Op) (_:Unit),Zbv ((ek,eo,eow,eok,en,enw,enk,ew,ec,li,eos,()),())->Ztn ek eo eow eok en enw enk ew ec li eos):CT 157 Z9V:=
 Contract.passing <| Yh (l:=[(173,Z6j),(175,Z6i)]) Zl rfl (⟨Zw7,Zw6,trivial⟩) ZoZ Try.func157 rfl rfl 1 (fun _=> rfl) (by decide) (fun ⟨⟨ek,eo,eow,eok,en,enw,enk,ew,ec,li,eos,_⟩,_⟩=> hb ek eo eow eok en enw enk ew ec li eos ())
def Zkt:List (FuncId × Fs U):=[(181,Z6f)]
def ZoV:Zf U:=lvl [([0,1,4],[4]),([0,1,4,7],[4]),([4],[4]),([4],[4])]
abbrev ZzU(p:List Nat):=AW (Z1 Zkt) Try.f161 ZoV p
theorem ZxJ(list:Int)(l:List Op)(Q:QT)(h:((Zey (l,(),()))/\(((!(l.any fun o=> !decide (OpOf.kind o=0)))=true->(Q .ret (L2 [pL 4] [(.loc 4,zc1)])))/\((!(l.any fun o=> !decide (OpOf.kind o=0)))=false->(Q .ret (L2 [pL 4] [(.loc 4,[ci 3,ci 0,.nils,.nils,ci 0,.nils,.nils,.nils,.nils,ci list,sU .op l .unk])])))))):
  ZzU [] (L2 [pI 0 list,(1,.c (sU .op l .unk))] []) Q:=
 Eq.mpr (by kernel_rfl) h
def Ztj(list:Int)(l:List Op):Prop:=AW (Z1 Zkt) Try.f161 ZoV [] (Zj (Zfn.can (list,l,())) []) (EQ Try.f161 (Zep (list,l,())) [])
theorem ZrW(Zw1:CT 181 Z6f)(hb:∀ (list:Int) (l:List Op) (_:Unit),Zbu (list,l,())->Ztj list l):CT 161 Z9S:=
 Z3 (l:=[(181,Z6f)]) Zl rfl (⟨Zw1,trivial⟩) ZoV Try.func161 rfl rfl 2 (fun _=> rfl) (by decide) (fun ⟨list,l,_⟩=> hb list l ())
def ZkI:List (FuncId × Fs U):=[(26,Z3P),(106,Je)]
def Zpa:Zf U:=fun i=> match i with
 | 0=> ([(0,[]),(5,[]),(6,[]),(7,[])],[(.loc 5,[]),(.loc 6,[]),(.loc 7,[]),(.x 0,[])])
 | 1=> ([(0,[]),(7,[]),(8,[]),(9,[])],[(.loc 7,[]),(.loc 8,[]),(.x 0,[])])
 | 2=> ([(0,[]),(7,[]),(8,[]),(16,[])],[(.loc 7,[]),(.loc 8,[]),(.x 0,[])])
 | 3=> ([],[(.x 0,[])])
 | 4=> ([(0,[]),(22,[])],[(.x 0,[])])
 | 5=> ([],[(.x 0,[])])
 | _=> ([],[])
abbrev ZA7(p:List Nat):=AW (Z1 ZkI) Try.f112 Zpa p
theorem Zy4(mc ma:Bool)(e:Edit)(o n:Tree)(Q:QT)(h:∀ y_1,y_1=e->∀ y_2,y_2=n->∀ y_3,y_3=o->∀ y_4,y_4=(Z3E ((doE false y_1 y_3).map Z4))->let z1:= !((doE false y_1 y_3).isSome);let z0:= !(ZZ (Z4 y_4) (Z4 y_2));((Z2B (y_1,y_3,()))/\((z1=true->(Q .normal (L2 [] [(.x 0,[.bool mc,.bool true])])))/\(z1=false->(Z0S (y_4,y_2,()))/\((z0=true->(Q .normal (L2 [] [(.x 0,[.bool true,.bool ma])])))/\(z0=false->Q .normal (L2 [(0,.ptr (.x 0) 0),pB 22 z0] [(.x 0,[.bool mc,.bool ma])]))))))):
  ZA7 [] (L2 [(0,.ptr (.x 0) 0),(1,.agg (enc .edit e)),(2,.agg (enc .tree o)),(3,.agg (enc .tree n))] [(.x 0,[.bool mc,.bool ma])]) Q:=
 Eq.mpr (by kernel_rfl) (h _ (Za _) _ (Zc _) _ (Zc _) _ (Zc _))
def ZtE(mc ma:Bool)(e:Edit)(o n:Tree):Prop:=AW (Z1 ZkI) Try.f112 Zpa [] (Zj (ZfA.can ((mc,ma,()),e,o,n,())) (ZfA.canX ((mc,ma,()),e,o,n,()))) (EQ Try.f112 (Zbn ((mc,ma,()),e,o,n,())) (Z6F ((mc,ma,()),e,o,n,())))
theorem Zse(c26:CT 26 Z3P)(Z9N:CT 106 Je)(hb:∀ (mc:Bool) (ma:Bool) (e:Edit) (o:Tree) (n:Tree) (_:Unit),Z8f ((mc,ma,()),e,o,n,())->ZtE mc ma e o n):CT 112 Za1:=
 Yb (l:=[(26,Z3P),(106,Je)]) Zl rfl (⟨c26,Z9N,trivial⟩) Zpa Try.func112 rfl rfl 4 (fun _=> rfl) (by decide) (fun ⟨⟨mc,ma,_⟩,e,o,n,_⟩=> hb mc ma e o n ())
def Zkv:List (FuncId × Fs U):=[(151,Z07),(177,Z6h),(178,Z6g)]
def ZoX:Zf U:=fun i=> match i with
 | 0=> ([(0,[])],[(.x 0,[]),(.x 1,[])])
 | 1=> ([(0,[])],[(.x 0,[]),(.x 1,[])])
 | 2=> ([(0,[]),(42,[])],[(.x 0,[]),(.x 1,[])])
 | 3=> ([(0,[]),(66,[])],[(.x 0,[]),(.x 1,[])])
 | 4=> ([(0,[])],[(.x 0,[]),(.x 1,[])])
 | 5=> ([(0,[])],[(.x 0,[]),(.x 1,[])])
 | 6=> ([],[(.x 0,[]),(.x 1,[])])
 | _=> ([],[])
abbrev ZzW(p:List Nat):=AW (Z1 Zkv) Try.f159 ZoX p
theorem ZxL(sm_:Unit)(sx sy:List Op)(si sh:List Tree)(mc ma:Bool)(Q:QT)(h:let z6:= !(eqX (Z5 si) (Z5 sh));let z5:=Zi3 ((si.length:Int),());let z4:=Zi3 ((sh.length:Int),());let z2:=J9 (sh.length:Int);let z1:=J9 (si.length:Int);let z0:=decide ((0:Int) < (si.length:Int));let z3:=bif z0 then (decide ((0:Int) < (sh.length:Int))) else false;(Tr (z0=true))/\(Tr (z0=true))/\(Tr (z0=true))/\(Tr (z0=true))/\(Tr (z0=true))/\(Tr (z0=true))/\((z3=true->(Z5N (si,sh,(),()))/\((z6=true->(z4/\((sx.length+z2.length)*240<=140737488355328)/\z5/\((sy.length+z1.length)*240<=140737488355328)/\(Q .normal (L2 [] [(.x 0,[.xp 1,sU .op (sx++z2) (.own (.x 0 1)),sU .op (sy++z1) (.own (.x 0 2)),.nils,.nils]),(.x 1,[.bool true,.bool ma])]))))/\(z6=false->z4/\((sx.length+z2.length)*240<=140737488355328)/\z5/\((sy.length+z1.length)*240<=140737488355328)/\(Q .normal (L2 [] [(.x 0,[.xp 1,sU .op (sx++z2) (.own (.x 0 1)),sU .op (sy++z1) (.own (.x 0 2)),.nils,.nils]),(.x 1,[.bool mc,.bool ma])])))))/\(z3=false->(ZeC (si,()))/\((sx.length+(Z2O si).length)*240<=140737488355328)/\z4/\(((sx++(Z2O si)).length+z2.length)*240<=140737488355328)/\(z5/\((sy.length+z1.length)*240<=140737488355328)/\(ZeC (sh,()))/\(((sy++z1).length+(Z2O sh).length)*240<=140737488355328)/\(Q .normal (L2 [] [(.x 0,[.xp 1,sU .op ((sx++(Z2O si))++z2) (.own (.x 0 1)),sU .op ((sy++z1)++(Z2O sh)) (.own (.x 0 2)),.nils,.nils]),(.x 1,[.bool mc,.bool ma])])))))):
  ZzW [] (L2 [(0,.ptr (.x 0) 0)] [(.x 0,[.xp 1,sU .op sx (.own (.x 0 1)),sU .op sy (.own (.x 0 2)),sU .tree si (.own (.x 0 3)),sU .tree sh (.own (.x 0 4))]),(.x 1,[.bool mc,.bool ma])]) Q:=
 Eq.mpr (by kernel_rfl) h
def Ztl(sm_:Unit)(sx sy:List Op)(si sh:List Tree)(mc ma:Bool):Prop:=AW (Z1 Zkv) Try.f159 ZoX [] (Zj (Zfy.can ((sm_,sx,sy,si,sh,()),(mc,ma,()),())) (Zfy.canX ((sm_,sx,sy,si,sh,()),(mc,ma,()),()))) (EQ Try.f159 (ZnQ ((sm_,sx,sy,si,sh,()),(mc,ma,()),())) (Z6B ((sm_,sx,sy,si,sh,()),(mc,ma,()),())))
theorem ZrX(Zfm:CT 151 Z07)(Zw5:CT 177 Z6h)(Zw4:CT 178 Z6g)(hb:∀ (sm_:Unit) (sx:List Op) (sy:List Op) (si:List Tree) (sh:List Tree) (mc:Bool) (ma:Bool) (_:Unit),ZeJ ((sm_,sx,sy,si,sh,()),(mc,ma,()),())->Ztl sm_ sx sy si sh mc ma):CT 159 Z9T:=
 Yb (l:=[(151,Z07),(177,Z6h),(178,Z6g)]) Zl rfl (⟨Zfm,Zw5,Zw4,trivial⟩) ZoX Try.func159 rfl rfl 1 (fun _=> rfl) (by decide) (fun ⟨⟨sm_,sx,sy,si,sh,_⟩,⟨mc,ma,_⟩,_⟩=> hb sm_ sx sy si sh mc ma ())
end
noncomputable section
def Zcv:ArgM ((Bool × Bool × Unit) × Edit × Edit × Unit):=(.obj 0 (.cons Z0Z (.cons Z0Z .nil)) (.cons (aEl .edit) (.cons (aEl .edit) .nil)))
def Zbr(a:(Bool × Bool × Unit) × Edit × Edit × Unit):Prop:=Z0p a.2.1/\Z0p a.2.2.1
def Zox(a:(Bool × Bool × Unit) × Edit × Edit × Unit):Nat:=8*(Z7 a.2.1+Z7 a.2.2.1)+1
def Zge(a:(Bool × Bool × Unit) × Edit × Edit × Unit):V U:= .tup [(true,(enc .edit ((lbE a.2.1 a.2.2.1).x))),(true,(enc .edit ((lbE a.2.1 a.2.2.1).y)))]
def Zbg(a:(Bool × Bool × Unit) × Edit × Edit × Unit):List (List (C U)):=[[.bool (a.1.1 || (lbE a.2.1 a.2.2.1).c),.bool (a.1.2.1 || (lbE a.2.1 a.2.2.1).a)]]
def Z7W:Fs U:=fsX Zcv (fun a=> [Zbr a]) Zge Zbg
def ZbC(a:(Bool × Bool × Unit) × Edit × Edit × Unit):Prop:=Z0p a.2.1/\Z0p a.2.2.1/\Edit.kind a.2.1=2/\Edit.kind a.2.2.1=2
def ZjY(a:(Bool × Bool × Unit) × Edit × Edit × Unit):Nat:=8*(Z7 a.2.1+Z7 a.2.2.1)
def Zbm(a:(Bool × Bool × Unit) × Edit × Edit × Unit):V U:= .tup [(true,(enc .edit ((Z3H lbE a.2.1 a.2.2.1).x))),(true,(enc .edit ((Z3H lbE a.2.1 a.2.2.1).y)))]
def Z6E(a:(Bool × Bool × Unit) × Edit × Edit × Unit):List (List (C U)):=[[.bool (a.1.1 || (Z3H lbE a.2.1 a.2.2.1).c),.bool (a.1.2.1 || (Z3H lbE a.2.1 a.2.2.1).a)]]
def Zjj:Fs U:=fsX Zcv (fun a=> [ZbC a]) Zbm Z6E
def ZbB(a:(Bool × Bool × Unit) × Edit × Edit × Unit):Prop:=Z0p a.2.1/\Z0p a.2.2.1/\Edit.kind a.2.1=3/\Edit.kind a.2.2.1=3
def Zbl(a:(Bool × Bool × Unit) × Edit × Edit × Unit):V U:= .tup [(true,(enc .edit ((Z3p lbE a.2.1 a.2.2.1).x))),(true,(enc .edit ((Z3p lbE a.2.1 a.2.2.1).y)))]
def Z6D(a:(Bool × Bool × Unit) × Edit × Edit × Unit):List (List (C U)):=[[.bool (a.1.1 || (Z3p lbE a.2.1 a.2.2.1).c),.bool (a.1.2.1 || (Z3p lbE a.2.1 a.2.2.1).a)]]
def Zji:Fs U:=fsX Zcv (fun a=> [ZbB a]) Zbl Z6D
def Z7L:ArgM ((Unit × List Op × List Op × List Tree × List Tree × Unit) × Op × Op × (Bool × Bool × Unit) × Unit):=(.obj 0 (.cons (cXp 1) (.cons (Z2Y .op 0 1) (.cons (Z2Y .op 0 2) (.cons (Z2Y .tree 0 3) (.cons (Z2Y .tree 0 4) .nil))))) (.cons (aEl .op) (.cons (aEl .op) (.hid (.cons Z0Z (.cons Z0Z .nil)) .nil))))
def Z8a(a:(Unit × List Op × List Op × List Tree × List Tree × Unit) × Op × Op × (Bool × Bool × Unit) × Unit):Prop:=(Ze5 a.2.1/\Ze5 a.2.2.1/\Z2 a.2.1=Z2 a.2.2.1/\OpOf.kind a.2.1≠2/\OpOf.kind a.2.2.1≠2)/\((a.1.2.1).length<=10000000000/\(a.1.2.2.1).length<=10000000000)
def ZjW(a:(Unit × List Op × List Op × List Tree × List Tree × Unit) × Op × Op × (Bool × Bool × Unit) × Unit):Nat:=8*(Zv a.2.1+Zv a.2.2.1)+2
def Zbj(a:(Unit × List Op × List Op × List Tree × List Tree × Unit) × Op × Op × (Bool × Bool × Unit) × Unit):V U:= .tup []
def Z6A(a:(Unit × List Op × List Op × List Tree × List Tree × Unit) × Op × Op × (Bool × Bool × Unit) × Unit):List (List (C U)):=[[.xp 1,sU .op (a.1.2.1++(ZC lbE a.2.1 a.2.2.1).x) (.own (.x 0 1)),sU .op (a.1.2.2.1++(ZC lbE a.2.1 a.2.2.1).y) (.own (.x 0 2)),sU .tree a.1.2.2.2.1 (.own (.x 0 3)),sU .tree a.1.2.2.2.2.1 (.own (.x 0 4))],[.bool (a.2.2.2.1.1 || (ZC lbE a.2.1 a.2.2.1).c),.bool (a.2.2.2.1.2.1 || (ZC lbE a.2.1 a.2.2.1).a)]]
def Zjh:Fs U:=fsX Z7L (fun a=> [Z8a a]) Zbj Z6A
def Z2k(N:Nat):List (FuncId × Fs U):=(77,fsX Zcv (fun a=> [Zbr a,Zox a < N]) Zge Zbg) ::(114,fsX Zcv (fun a=> [ZbC a,ZjY a < N]) Zbm Z6E) ::(115,fsX Zcv (fun a=> [ZbB a,ZjY a < N]) Zbl Z6D) ::(160,fsX Z7L (fun a=> [Z8a a,ZjW a < N]) Zbj Z6A) ::[(106,Je),(112,Za1),(113,Za0),(151,Z07),(153,Z9Z),(154,Z9Y),(155,Z9X),(156,Z9W),(157,Z9V),(158,Z9U),(159,Z9T),(161,Z9S),(179,Z9R),(180,Z9Q)]
def Zvz:Zf U:=fun i=> match i with
 | 0=> ([(0,[]),(4,[]),(5,[]),(6,[]),(7,[])],[(.loc 4,[]),(.loc 5,[]),(.loc 6,[]),(.loc 7,[]),(.x 0,[])])
 | 1=> ([(0,[]),(4,[]),(5,[]),(6,[]),(7,[]),(8,[])],[(.loc 4,[]),(.loc 5,[]),(.loc 6,[]),(.loc 7,[]),(.x 0,[])])
 | 2=> ([(6,[]),(7,[])],[(.loc 6,[]),(.loc 7,[]),(.x 0,[])])
 | 3=> ([(0,[]),(4,[]),(5,[]),(6,[]),(7,[]),(19,[])],[(.loc 4,[]),(.loc 5,[]),(.loc 6,[]),(.loc 7,[]),(.x 0,[])])
 | 4=> ([(6,[]),(7,[])],[(.loc 6,[]),(.loc 7,[]),(.x 0,[])])
 | 5=> ([(6,[]),(7,[])],[(.loc 6,[]),(.loc 7,[]),(.x 0,[])])
 | 6=> ([(0,[]),(4,[]),(5,[]),(6,[]),(7,[]),(33,[])],[(.loc 4,[]),(.loc 5,[]),(.loc 6,[]),(.loc 7,[]),(.x 0,[])])
 | 7=> ([(6,[]),(7,[])],[(.loc 6,[]),(.loc 7,[]),(.x 0,[])])
 | 8=> ([(6,[]),(7,[])],[(.loc 6,[]),(.loc 7,[]),(.x 0,[])])
 | 9=> ([(0,[]),(4,[]),(5,[]),(6,[]),(7,[]),(47,[])],[(.loc 4,[]),(.loc 5,[]),(.loc 6,[]),(.loc 7,[]),(.x 0,[])])
 | 10=> ([(6,[]),(7,[])],[(.loc 6,[]),(.loc 7,[]),(.x 0,[])])
 | 11=> ([(6,[]),(7,[])],[(.loc 6,[]),(.loc 7,[]),(.x 0,[])])
 | 12=> ([(0,[]),(4,[]),(5,[]),(6,[]),(7,[]),(66,[])],[(.loc 4,[]),(.loc 5,[]),(.loc 6,[]),(.loc 7,[]),(.x 0,[])])
 | 13=> ([(6,[]),(7,[])],[(.loc 6,[]),(.loc 7,[]),(.x 0,[])])
 | 14=> ([(6,[]),(7,[])],[(.loc 6,[]),(.loc 7,[]),(.x 0,[])])
 | _=> ([],[])
abbrev A77(N:Nat)(p:List Nat):=AW (Z1 (Z2k N)) Try.f77 Zvz p
theorem Zza(N:Nat)(mc ma:Bool)(p q:Edit)(Q:QT)(h:∀ y_1,y_1=p->∀ y_2,y_2=q->∀ y_3,y_3=(p.new)->∀ y_4,y_4=(q.new)->∀ y_5,y_5=(p.old)->∀ y_6,y_6=(q.old)->let z4:=Z3p lbE y_1 y_2;let z3:=Z3H lbE y_1 y_2;let z2:=bif (p.kind==0) then true else (q.kind==0);let z1:=enc .edit Edit.nil;let z0:=p.kind !=q.kind;let z5:=bif z0 then true else (p.list !=q.list);((Tr ((!(p.kind==0))=true))/\(Tr ((!(p.kind==0))=true))/\((p.kind==0)=false->(!(p.kind==0))=true)/\((z2=true->(Q .ret (L2 [pL 6,pL 7] [(.loc 6,(enc .edit p)),(.loc 7,(enc .edit q)),(.x 0,[.bool mc,.bool ma])])))/\(z2=false->(((p.kind==1)=true->(Z8f ((mc,ma,()),y_2,y_5,y_3,()))/\((Z8e ())/\(Q .ret (L2 [pL 6,pL 7] [(.loc 6,z1),(.loc 7,z1),(.x 0,[.bool (mc || (Z05 y_2 y_5 y_3).c),.bool (ma || (Z05 y_2 y_5 y_3).a)])]))))/\((p.kind==1)=false->(((q.kind==1)=true->(Z8f ((mc,ma,()),y_1,y_6,y_4,()))/\((Z8e ())/\(Q .ret (L2 [pL 6,pL 7] [(.loc 6,z1),(.loc 7,z1),(.x 0,[.bool (mc || (Z05 y_1 y_6 y_4).c),.bool (ma || (Z05 y_1 y_6 y_4).a)])]))))/\((q.kind==1)=false->(Tr ((!z0)=true))/\(Tr ((!z0)=true))/\(Tr ((!z0)=true))/\(Tr ((!z0)=true))/\(z0=false->(!z0)=true)/\((z5=true->((Z8e ())/\(Q .ret (L2 [pL 6,pL 7] [(.loc 6,z1),(.loc 7,z1),(.x 0,[.bool mc,.bool true])]))))/\(z5=false->(((p.kind==2)=true->(ZbC ((mc,ma,()),y_1,y_2,()))/\(ZjY ((mc,ma,()),y_1,y_2,()) < N)/\(Q .ret (L2 [pL 6,pL 7] [(.loc 6,(enc .edit (z3.x))),(.loc 7,(enc .edit (z3.y))),(.x 0,[.bool (mc || z3.c),.bool (ma || z3.a)])])))/\((p.kind==2)=false->(ZbB ((mc,ma,()),y_1,y_2,()))/\(ZjY ((mc,ma,()),y_1,y_2,()) < N)/\(Q .ret (L2 [pL 6,pL 7] [(.loc 6,(enc .edit (z4.x))),(.loc 7,(enc .edit (z4.y))),(.x 0,[.bool (mc || z4.c),.bool (ma || z4.a)])])))))))))))))):
  A77 N [] (L2 [(0,.ptr (.x 0) 0),(1,.agg (enc .edit p)),(2,.agg (enc .edit q))] [(.x 0,[.bool mc,.bool ma])]) Q:=
 Eq.mpr (by kernel_rfl) (h _ (Za _) _ (Za _) _ (Zc _) _ (Zc _) _ (Zc _) _ (Zc _))
def ZwN(N:Nat)(mc ma:Bool)(p q:Edit):Prop:=AW (Z1 (Z2k N)) Try.f77 Zvz [] (Zj (Zcv.can ((mc,ma,()),p,q,())) (Zcv.canX ((mc,ma,()),p,q,()))) (EQ Try.f77 (Zge ((mc,ma,()),p,q,())) (Zbg ((mc,ma,()),p,q,())))
abbrev ZyW:Prop:=∀ (N:Nat) (mc:Bool) (ma:Bool) (p:Edit) (q:Edit) (_:Unit),Zbr ((mc,ma,()),p,q,())->Zox ((mc,ma,()),p,q,()) < N+1->ZwN N mc ma p q
def Zfa(N:Nat):List (FuncId × Fs U):=Z2k N
def Zk9:Zf U:=fun i=> match i with
 | 0=> ([(0,[]),(4,[]),(5,[]),(6,[]),(7,[])],[(.loc 4,[]),(.loc 5,[]),(.loc 6,[]),(.loc 7,[]),(.x 0,[])])
 | 1=> ([(0,[]),(4,[]),(5,[]),(6,[]),(7,[]),(8,[]),(9,[])],[(.loc 4,[]),(.loc 5,[]),(.loc 6,[]),(.loc 7,[]),(.loc 8,[]),(.loc 9,[]),(.x 0,[])])
 | 2=> ([(0,[]),(4,[]),(5,[]),(6,[]),(7,[]),(8,[]),(9,[])],[(.loc 4,[]),(.loc 5,[]),(.loc 6,[]),(.loc 7,[]),(.loc 8,[.any,.any,.any,.any,.any,.any,.any,.wr .wedit]),(.loc 9,[.any,.any,.any,.any,.any,.any,.any,.wr .wedit]),(.x 0,[])])
 | 3=> ([(0,[]),(4,[]),(5,[]),(6,[]),(7,[]),(8,[]),(9,[]),(29,[]),(30,[]),(31,[])],[(.loc 4,[]),(.loc 5,[]),(.loc 6,[]),(.loc 7,[]),(.loc 8,[.any,.any,.any,.any,.any,.any,.any,.wr .wedit]),(.loc 9,[.any,.any,.any,.any,.any,.any,.any,.wr .wedit]),(.x 0,[])])
 | 4=> ([(0,[]),(4,[]),(5,[]),(6,[]),(7,[]),(8,[]),(9,[]),(29,[]),(30,[]),(31,[]),(32,[])],[(.loc 4,[]),(.loc 5,[]),(.loc 6,[]),(.loc 7,[]),(.loc 8,[.any,.any,.any,.any,.any,.any,.any,.wr .wedit]),(.loc 9,[.any,.any,.any,.any,.any,.any,.any,.wr .wedit]),(.x 0,[])])
 | 5=> ([(0,[]),(4,[]),(5,[]),(6,[]),(7,[]),(8,[]),(9,[]),(10,[]),(11,[]),(29,[]),(30,[]),(31,[])],[(.loc 4,[]),(.loc 5,[]),(.loc 6,[]),(.loc 7,[]),(.loc 8,[.any,.any,.any,.any,.any,.any,.any,.wr .wedit]),(.loc 9,[.any,.any,.any,.any,.any,.any,.any,.wr .wedit]),(.loc 11,[]),(.x 0,[])])
 | 6=> ([(0,[]),(4,[]),(5,[]),(6,[]),(7,[]),(8,[]),(9,[]),(10,[]),(11,[]),(29,[]),(30,[]),(31,[]),(37,[]),(38,[]),(39,[])],[(.loc 4,[]),(.loc 5,[]),(.loc 6,[]),(.loc 7,[]),(.loc 8,[.any,.any,.any,.any,.any,.any,.any,.wr .wedit]),(.loc 9,[.any,.any,.any,.any,.any,.any,.any,.wr .wedit]),(.loc 11,[]),(.x 0,[])])
 | 7=> ([(0,[]),(4,[]),(5,[]),(6,[]),(7,[]),(8,[]),(9,[]),(10,[]),(11,[]),(29,[]),(30,[]),(31,[]),(37,[]),(38,[]),(39,[]),(40,[])],[(.loc 4,[]),(.loc 5,[]),(.loc 6,[]),(.loc 7,[]),(.loc 8,[.any,.any,.any,.any,.any,.any,.any,.wr .wedit]),(.loc 9,[.any,.any,.any,.any,.any,.any,.any,.wr .wedit]),(.loc 11,[]),(.x 0,[])])
 | 8=> ([(0,[]),(4,[]),(5,[]),(6,[]),(7,[]),(8,[]),(9,[]),(10,[]),(11,[]),(12,[]),(13,[]),(29,[]),(30,[]),(31,[]),(37,[]),(38,[]),(39,[])],[(.loc 4,[]),(.loc 5,[]),(.loc 6,[]),(.loc 7,[]),(.loc 8,[.any,.any,.any,.any,.any,.any,.any,.wr .wedit]),(.loc 9,[.any,.any,.any,.any,.any,.any,.any,.wr .wedit]),(.loc 11,[]),(.loc 13,[]),(.x 0,[])])
 | 9=> ([(0,[]),(4,[]),(5,[]),(6,[]),(7,[]),(8,[]),(9,[]),(10,[]),(11,[]),(12,[]),(13,[]),(29,[]),(30,[]),(31,[]),(37,[]),(38,[]),(39,[]),(48,[])],[(.loc 4,[]),(.loc 5,[]),(.loc 6,[]),(.loc 7,[]),(.loc 8,[.any,.any,.any,.any,.any,.any,.any,.wr .wedit]),(.loc 9,[.any,.any,.any,.any,.any,.any,.any,.wr .wedit]),(.loc 11,[]),(.loc 13,[]),(.x 0,[])])
 | 10=> ([(0,[]),(4,[]),(5,[]),(6,[]),(7,[]),(8,[]),(9,[]),(10,[]),(11,[]),(12,[]),(13,[]),(29,[]),(30,[]),(31,[]),(37,[]),(38,[]),(39,[])],[(.loc 4,[]),(.loc 5,[]),(.loc 6,[]),(.loc 7,[]),(.loc 8,[.any,.any,.any,.any,.any,.any,.any,.wr .wedit]),(.loc 9,[.any,.any,.any,.any,.any,.any,.any,.wr .wedit]),(.loc 11,[]),(.loc 13,[]),(.x 0,[])])
 | 11=> ([(0,[]),(4,[]),(5,[]),(6,[]),(7,[]),(8,[]),(9,[]),(10,[]),(11,[]),(12,[]),(13,[]),(29,[]),(30,[]),(31,[]),(37,[]),(38,[]),(39,[])],[(.loc 4,[]),(.loc 5,[]),(.loc 6,[]),(.loc 7,[]),(.loc 8,[.any,.any,.any,.any,.any,.any,.any,.wr .wedit]),(.loc 9,[.any,.any,.any,.any,.any,.any,.any,.wr .wedit]),(.loc 11,[]),(.loc 13,[]),(.x 0,[])])
 | 12=> ([(0,[]),(4,[]),(5,[]),(6,[]),(7,[]),(8,[]),(9,[]),(10,[]),(11,[]),(12,[]),(13,[]),(29,[]),(30,[]),(31,[]),(37,[]),(38,[]),(39,[]),(48,[])],[(.loc 4,[]),(.loc 5,[]),(.loc 6,[]),(.loc 7,[]),(.loc 8,[.any,.any,.any,.any,.any,.any,.any,.wr .wedit]),(.loc 9,[.any,.any,.any,.any,.any,.any,.any,.wr .wedit]),(.loc 11,[]),(.loc 13,[]),(.x 0,[])])
 | 13=> ([(0,[]),(4,[]),(5,[]),(6,[]),(7,[]),(8,[]),(9,[]),(10,[]),(11,[]),(29,[]),(30,[]),(31,[]),(37,[]),(38,[]),(39,[])],[(.loc 4,[]),(.loc 5,[]),(.loc 6,[]),(.loc 7,[]),(.loc 8,[.any,.any,.any,.any,.any,.any,.any,.wr .wedit]),(.loc 9,[.any,.any,.any,.any,.any,.any,.any,.wr .wedit]),(.loc 11,[]),(.x 0,[])])
 | 14=> ([(0,[]),(4,[]),(5,[]),(6,[]),(7,[]),(8,[]),(9,[]),(29,[]),(30,[]),(31,[])],[(.loc 4,[]),(.loc 5,[]),(.loc 6,[]),(.loc 7,[]),(.loc 8,[.any,.any,.any,.any,.any,.any,.any,.wr .wedit]),(.loc 9,[.any,.any,.any,.any,.any,.any,.any,.wr .wedit]),(.x 0,[])])
 | 15=> ([(0,[]),(4,[]),(5,[]),(6,[]),(7,[]),(8,[]),(9,[])],[(.loc 4,[]),(.loc 5,[]),(.loc 6,[]),(.loc 7,[]),(.loc 8,[.any,.any,.any,.any,.any,.any,.any,.wr .wedit,.wr .kid]),(.loc 9,[.any,.any,.any,.any,.any,.any,.any,.wr .wedit,.wr .kid]),(.x 0,[])])
 | 16=> ([(0,[]),(5,[]),(6,[]),(7,[]),(8,[]),(9,[]),(88,[]),(89,[]),(90,[])],[(.loc 5,[]),(.loc 6,[]),(.loc 7,[]),(.loc 8,[.any,.any,.any,.any,.any,.any,.any,.wr .wedit,.wr .kid]),(.loc 9,[.any,.any,.any,.any,.any,.any,.any,.wr .wedit,.wr .kid]),(.x 0,[])])
 | 17=> ([(0,[]),(5,[]),(6,[]),(7,[]),(8,[]),(9,[]),(88,[]),(89,[]),(90,[]),(91,[])],[(.loc 5,[]),(.loc 6,[]),(.loc 7,[]),(.loc 8,[.any,.any,.any,.any,.any,.any,.any,.wr .wedit,.wr .kid]),(.loc 9,[.any,.any,.any,.any,.any,.any,.any,.wr .wedit,.wr .kid]),(.x 0,[])])
 | 18=> ([(0,[]),(5,[]),(6,[]),(7,[]),(8,[]),(9,[]),(14,[]),(15,[]),(88,[]),(89,[]),(90,[])],[(.loc 5,[]),(.loc 6,[]),(.loc 7,[]),(.loc 8,[.any,.any,.any,.any,.any,.any,.any,.wr .wedit,.wr .kid]),(.loc 9,[.any,.any,.any,.any,.any,.any,.any,.wr .wedit,.wr .kid]),(.loc 15,[]),(.x 0,[])])
 | 19=> ([(0,[]),(5,[]),(6,[]),(7,[]),(8,[]),(9,[]),(14,[]),(15,[]),(88,[]),(89,[]),(90,[]),(96,[]),(97,[]),(98,[])],[(.loc 5,[]),(.loc 6,[]),(.loc 7,[]),(.loc 8,[.any,.any,.any,.any,.any,.any,.any,.wr .wedit,.wr .kid]),(.loc 9,[.any,.any,.any,.any,.any,.any,.any,.wr .wedit,.wr .kid]),(.loc 15,[]),(.x 0,[])])
 | 20=> ([(0,[]),(5,[]),(6,[]),(7,[]),(8,[]),(9,[]),(14,[]),(15,[]),(88,[]),(89,[]),(90,[]),(96,[]),(97,[]),(98,[]),(99,[])],[(.loc 5,[]),(.loc 6,[]),(.loc 7,[]),(.loc 8,[.any,.any,.any,.any,.any,.any,.any,.wr .wedit,.wr .kid]),(.loc 9,[.any,.any,.any,.any,.any,.any,.any,.wr .wedit,.wr .kid]),(.loc 15,[]),(.x 0,[])])
 | 21=> ([(0,[]),(5,[]),(6,[]),(7,[]),(8,[]),(9,[]),(14,[]),(15,[]),(16,[]),(17,[]),(88,[]),(89,[]),(90,[]),(96,[]),(97,[]),(98,[])],[(.loc 5,[]),(.loc 6,[]),(.loc 7,[]),(.loc 8,[.any,.any,.any,.any,.any,.any,.any,.wr .wedit,.wr .kid]),(.loc 9,[.any,.any,.any,.any,.any,.any,.any,.wr .wedit,.wr .kid]),(.loc 15,[]),(.loc 17,[]),(.x 0,[])])
 | 22=> ([(0,[]),(5,[]),(6,[]),(7,[]),(8,[]),(9,[]),(14,[]),(15,[]),(16,[]),(17,[]),(88,[]),(89,[]),(90,[]),(96,[]),(97,[]),(98,[]),(107,[])],[(.loc 5,[]),(.loc 6,[]),(.loc 7,[]),(.loc 8,[.any,.any,.any,.any,.any,.any,.any,.wr .wedit,.wr .kid]),(.loc 9,[.any,.any,.any,.any,.any,.any,.any,.wr .wedit,.wr .kid]),(.loc 15,[]),(.loc 17,[]),(.x 0,[])])
 | 23=> ([(0,[]),(5,[]),(6,[]),(7,[]),(8,[]),(9,[]),(14,[]),(15,[]),(16,[]),(17,[]),(88,[]),(89,[]),(90,[]),(96,[]),(97,[]),(98,[]),(107,[])],[(.loc 5,[]),(.loc 6,[]),(.loc 7,[]),(.loc 8,[.any,.any,.any,.any,.any,.any,.any,.wr .wedit,.wr .kid]),(.loc 9,[.any,.any,.any,.any,.any,.any,.any,.wr .wedit,.wr .kid]),(.loc 15,[]),(.loc 17,[]),(.x 0,[])])
 | 24=> ([(0,[]),(5,[]),(6,[]),(7,[]),(8,[]),(9,[]),(14,[]),(15,[]),(88,[]),(89,[]),(90,[]),(96,[]),(97,[]),(98,[])],[(.loc 5,[]),(.loc 6,[]),(.loc 7,[]),(.loc 8,[.any,.any,.any,.any,.any,.any,.any,.wr .wedit,.wr .kid]),(.loc 9,[.any,.any,.any,.any,.any,.any,.any,.wr .wedit,.wr .kid]),(.loc 15,[]),(.x 0,[])])
 | 25=> ([(0,[]),(5,[]),(6,[]),(7,[]),(8,[]),(9,[]),(88,[]),(89,[]),(90,[])],[(.loc 5,[]),(.loc 6,[]),(.loc 7,[]),(.loc 8,[.any,.any,.any,.any,.any,.any,.any,.wr .wedit,.wr .kid]),(.loc 9,[.any,.any,.any,.any,.any,.any,.any,.wr .wedit,.wr .kid]),(.x 0,[])])
 | 26=> ([(6,[]),(7,[])],[(.loc 6,[]),(.loc 7,[]),(.x 0,[])])
 | _=> ([],[])
def Z53(mc ma:Bool)(p q:Edit)(x31:Int)(mx0_0 mx0_1:Bool)(rl_8_7 rl_9_7:List WEdit):LSt U:=(⟨[(0,.ptr (.x 0) 0),pL 4,pL 5,pL 6,pL 7,pL 8,pL 9,(29,.c (sU .wedit p.words .unk)),pI 30 (p.words.length:Int),pI 31 x31],[(.loc 4,(enc .edit p)),(.loc 5,(enc .edit q)),(.loc 6,zc1),(.loc 7,zc1),(.loc 8,[ci 2,ci 0,.nils,.nils,ci 0,.nils,.nils,.mref (.l 8 7),.nils,ci 0,.nils]),(.loc 9,[ci 2,ci 0,.nils,.nils,ci 0,.nils,.nils,.mref (.l 9 7),.nils,ci 0,.nils]),(.x 0,[.bool mx0_0,.bool mx0_1])],[(.l 8 7,LC.mk (U:=U) .wedit rl_8_7 0),(.l 9 7,LC.mk (U:=U) .wedit rl_9_7 0)]⟩:LSt U)
def Z52(mc ma:Bool)(p q:Edit)(x31 x39_a:Int)(mx0_0_a mx0_1_a:Bool)(rl_8_7_a rl_9_7_a:List WEdit):LSt U:=(⟨[(0,.ptr (.x 0) 0),pL 4,pL 5,pL 6,pL 7,pL 8,pL 9,pI 10 x31,pL 11,(29,.c (sU .wedit p.words .unk)),pI 30 (p.words.length:Int),pI 31 x31,(37,.c (sU .wedit q.words .unk)),pI 38 (q.words.length:Int),pI 39 x39_a],[(.loc 4,(enc .edit p)),(.loc 5,(enc .edit q)),(.loc 6,zc1),(.loc 7,zc1),(.loc 8,[ci 2,ci 0,.nils,.nils,ci 0,.nils,.nils,.mref (.l 8 7),.nils,ci 0,.nils]),(.loc 9,[ci 2,ci 0,.nils,.nils,ci 0,.nils,.nils,.mref (.l 9 7),.nils,ci 0,.nils]),(.loc 11,(enc .wedit (p.words.getD x31.toNat (WEdit.mk 0 0 0 0)))),(.x 0,[.bool mx0_0_a,.bool mx0_1_a])],[(.l 8 7,LC.mk (U:=U) .wedit rl_8_7_a 0),(.l 9 7,LC.mk (U:=U) .wedit rl_9_7_a 0)]⟩:LSt U)
def Z51(mc ma:Bool)(p q:Edit)(rl_8_7 rl_9_7:List WEdit)(x90_b:Int)(mx0_0_b mx0_1_b:Bool)(rl_8_8_b rl_9_8_b:List Kid):LSt U:=(⟨[(0,.ptr (.x 0) 0),pL 5,pL 6,pL 7,pL 8,pL 9,(88,.c (sU .kid p.kids .unk)),pI 89 (p.kids.length:Int),pI 90 x90_b],[(.loc 5,(enc .edit q)),(.loc 6,zc1),(.loc 7,zc1),(.loc 8,[ci 2,ci 0,.nils,.nils,ci 0,.nils,.nils,.mref (.l 8 7),.mref (.l 8 8),ci 0,.nils]),(.loc 9,[ci 2,ci 0,.nils,.nils,ci 0,.nils,.nils,.mref (.l 9 7),.mref (.l 9 8),ci 0,.nils]),(.x 0,[.bool mx0_0_b,.bool mx0_1_b])],[(.l 8 7,LC.mk (U:=U) .wedit rl_8_7 0),(.l 8 8,LC.mk (U:=U) .kid rl_8_8_b 0),(.l 9 7,LC.mk (U:=U) .wedit rl_9_7 0),(.l 9 8,LC.mk (U:=U) .kid rl_9_8_b 0)]⟩:LSt U)
def Z8D(mc ma:Bool)(p q:Edit)(x31 x39_a:Int)(v48_c:V U)(mx0_0_c mx0_1_c:Bool)(rl_8_7_c rl_9_7_c:List WEdit):LSt U:=(⟨[(0,.ptr (.x 0) 0),pL 4,pL 5,pL 6,pL 7,pL 8,pL 9,pI 10 x31,pL 11,pI 12 x39_a,pL 13,(29,.c (sU .wedit p.words .unk)),pI 30 (p.words.length:Int),pI 31 x31,(37,.c (sU .wedit q.words .unk)),pI 38 (q.words.length:Int),pI 39 x39_a,(48,v48_c)],[(.loc 4,(enc .edit p)),(.loc 5,(enc .edit q)),(.loc 6,zc1),(.loc 7,zc1),(.loc 8,[ci 2,ci 0,.nils,.nils,ci 0,.nils,.nils,.mref (.l 8 7),.nils,ci 0,.nils]),(.loc 9,[ci 2,ci 0,.nils,.nils,ci 0,.nils,.nils,.mref (.l 9 7),.nils,ci 0,.nils]),(.loc 11,(enc .wedit (p.words.getD x31.toNat (WEdit.mk 0 0 0 0)))),(.loc 13,(enc .wedit (q.words.getD x39_a.toNat (WEdit.mk 0 0 0 0)))),(.x 0,[.bool mx0_0_c,.bool mx0_1_c])],[(.l 8 7,LC.mk (U:=U) .wedit rl_8_7_c 0),(.l 9 7,LC.mk (U:=U) .wedit rl_9_7_c 0)]⟩:LSt U)
def Z50(mc ma:Bool)(p q:Edit)(rl_8_7 rl_9_7:List WEdit)(x90_b x98_d:Int)(mx0_0_d mx0_1_d:Bool)(rl_8_8_d rl_9_8_d:List Kid):LSt U:=(⟨[(0,.ptr (.x 0) 0),pL 5,pL 6,pL 7,pL 8,pL 9,pI 14 x90_b,pL 15,(88,.c (sU .kid p.kids .unk)),pI 89 (p.kids.length:Int),pI 90 x90_b,(96,.c (sU .kid q.kids .unk)),pI 97 (q.kids.length:Int),pI 98 x98_d],[(.loc 5,(enc .edit q)),(.loc 6,zc1),(.loc 7,zc1),(.loc 8,[ci 2,ci 0,.nils,.nils,ci 0,.nils,.nils,.mref (.l 8 7),.mref (.l 8 8),ci 0,.nils]),(.loc 9,[ci 2,ci 0,.nils,.nils,ci 0,.nils,.nils,.mref (.l 9 7),.mref (.l 9 8),ci 0,.nils]),(.loc 15,(enc .kid (p.kids.getD x90_b.toNat (KidOf.mk 0 Edit.nil)))),(.x 0,[.bool mx0_0_d,.bool mx0_1_d])],[(.l 8 7,LC.mk (U:=U) .wedit rl_8_7 0),(.l 8 8,LC.mk (U:=U) .kid rl_8_8_d 0),(.l 9 7,LC.mk (U:=U) .wedit rl_9_7 0),(.l 9 8,LC.mk (U:=U) .kid rl_9_8_d 0)]⟩:LSt U)
def Z8C(mc ma:Bool)(p q:Edit)(rl_8_7 rl_9_7:List WEdit)(x90_b x98_d:Int)(mx0_0_e mx0_1_e:Bool)(rl_8_8_e rl_9_8_e:List Kid):LSt U:=(⟨[(0,.ptr (.x 0) 0),pL 5,pL 6,pL 7,pL 8,pL 9,pI 14 x90_b,pL 15,pI 16 x98_d,pL 17,(88,.c (sU .kid p.kids .unk)),pI 89 (p.kids.length:Int),pI 90 x90_b,(96,.c (sU .kid q.kids .unk)),pI 97 (q.kids.length:Int),pI 98 x98_d,(107,.c (.bool (((KidOf.at_ (p.kids.getD x90_b.toNat (KidOf.mk 0 Edit.nil))):Int)==(KidOf.at_ (q.kids.getD x98_d.toNat (KidOf.mk 0 Edit.nil))))))],[(.loc 5,(enc .edit q)),(.loc 6,zc1),(.loc 7,zc1),(.loc 8,[ci 2,ci 0,.nils,.nils,ci 0,.nils,.nils,.mref (.l 8 7),.mref (.l 8 8),ci 0,.nils]),(.loc 9,[ci 2,ci 0,.nils,.nils,ci 0,.nils,.nils,.mref (.l 9 7),.mref (.l 9 8),ci 0,.nils]),(.loc 15,(enc .kid (p.kids.getD x90_b.toNat (KidOf.mk 0 Edit.nil)))),(.loc 17,(enc .kid (q.kids.getD x98_d.toNat (KidOf.mk 0 Edit.nil)))),(.x 0,[.bool mx0_0_e,.bool mx0_1_e])],[(.l 8 7,LC.mk (U:=U) .wedit rl_8_7 0),(.l 8 8,LC.mk (U:=U) .kid rl_8_8_e 0),(.l 9 7,LC.mk (U:=U) .wedit rl_9_7 0),(.l 9 8,LC.mk (U:=U) .kid rl_9_8_e 0)]⟩:LSt U)
abbrev Z64(N:Nat)(p:List Nat):=AW (Z1N (Zfa N)) Try.f114 Zk9 p
abbrev Z33(N:Nat)(p:List Nat):=SW (Z1N (Zfa N)) Try.f114 Zk9 p
theorem Zy2(N:Nat)(mc ma:Bool)(p q:Edit)(Q:QT)(h:((Zby (p.words,()))/\(Zby (q.words,()))/\(Zi (Z64 N [1,1,1,0,1,0,0]) (Z53 mc ma p q 0 mc ma p.words q.words) (xB 0 (Z33 N [1,1,1,1] Q))))):
  Z64 N [] (L2 [(0,.ptr (.x 0) 0),(1,.agg (enc .edit p)),(2,.agg (enc .edit q))] [(.x 0,[.bool mc,.bool ma])]) Q:=
 Eq.mpr (by kernel_rfl) h
theorem Zng(N:Nat)(mc ma:Bool)(p q:Edit)(x31:Int)(mx0_0 mx0_1:Bool)(rl_8_7 rl_9_7:List WEdit)(N0:NT)(Q:QT)(h:let z0:=decide (x31 < (p.words.length:Int));((z0=true->((0:Int)<=x31/\x31 < (p.words.length:Int))/\(Zi (Z64 N [1,1,1,0,1,0,0,1,1,0,0,1,1,0,0]) (Z52 mc ma p q x31 0 mx0_0 mx0_1 rl_8_7 rl_9_7) (xB 2 (xB 1 (Z33 N [1,1,1,0,1,0,0,1,1,1] (xT N0 (xB 0 (Z33 N [1,1,1,1] Q))))))))/\(z0=false->(Zbw (p.kids,()))/\(Zbw (q.kids,()))/\(Zi (Z64 N [1,1,1,1,1,0,1,0,0]) (Z51 mc ma p q rl_8_7 rl_9_7 0 mx0_0 mx0_1 p.kids q.kids) (xB 4 (Z33 N [1,1,1,1,1,1] Q)))))):
  Z64 N [1,1,1,0,1,0,0] (Z53 mc ma p q x31 mx0_0 mx0_1 rl_8_7 rl_9_7) (xT N0 (xB 0 (Z33 N [1,1,1,1] Q))):=
 Eq.mpr (by kernel_rfl) h
theorem Znf(N:Nat)(mc ma:Bool)(p q:Edit)(x31 x39_a:Int)(mx0_0_a mx0_1_a:Bool)(rl_8_7_a rl_9_7_a:List WEdit)(N1 N0:NT)(Q:QT)(h:∀ y_1,y_1=(p.words.getD x31.toNat (WEdit.mk 0 0 0 0))->∀ y_2,y_2=(q.words.getD x39_a.toNat (WEdit.mk 0 0 0 0))->∀ y_3,y_3=y_1->∀ y_4,y_4=y_2->∀ y_5,y_5=((Zdx y_3 (IntKind.wrap .u8 (BitVec.ofInt (IntKind.bits .u8) 255 ^^^ BitVec.ofInt (IntKind.bits .u8) y_2.mask).toNat)).1)->∀ y_6,y_6=((Zdx y_4 (IntKind.wrap .u8 (BitVec.ofInt (IntKind.bits .u8) 255 ^^^ BitVec.ofInt (IntKind.bits .u8) y_1.mask).toNat)).1)->let z3:=y_1.at_==y_2.at_;let z2:=decide (x39_a < (q.words.length:Int));let z1:=IntKind.bits .u8;let z0:=xT N1 (xB 2 (xB 1 (Z33 N [1,1,1,0,1,0,0,1,1,1] (xT N0 (xB 0 (Z33 N [1,1,1,1] Q))))));((z2=true->((0:Int)<=x39_a/\x39_a < (q.words.length:Int))/\((z3=true->(ZeK ((mx0_0_a,mx0_1_a,()),y_3,y_4,()))/\((Zbx (y_3,(IntKind.wrap .u8 (BitVec.ofInt z1 255 ^^^ BitVec.ofInt z1 y_2.mask).toNat),()))/\((0:Int)<=x31/\x31 < (rl_8_7_a.length:Int))/\((0:Nat)<=x31.toNat)/\((Zbx (y_4,(IntKind.wrap .u8 (BitVec.ofInt z1 255 ^^^ BitVec.ofInt z1 y_1.mask).toNat),()))/\((0:Int)<=x39_a/\x39_a < (rl_9_7_a.length:Int))/\((0:Nat)<=x39_a.toNat)/\(Z64 N [1,1,1,0,1,0,0,1,1,0,0,1,1,0,0,1,1,1] (Z8D mc ma p q x31 x39_a .junk (mx0_0_a || (!(Yz y_3 y_4) && Z06 y_3 y_4)) (mx0_1_a || Yz y_3 y_4) (List.set rl_8_7_a x31.toNat y_5) (List.set rl_9_7_a x39_a.toNat y_6)) z0))))/\(z3=false->Z64 N [1,1,1,0,1,0,0,1,1,0,0,1,1,0,0,1,1,1] (Z8D mc ma p q x31 x39_a (.c (.bool z3)) mx0_0_a mx0_1_a rl_8_7_a rl_9_7_a) z0)))/\(z2=false->(InR (x31+1))/\(N0 (Z53 mc ma p q (x31+1) mx0_0_a mx0_1_a rl_8_7_a rl_9_7_a))))):
  Z64 N [1,1,1,0,1,0,0,1,1,0,0,1,1,0,0] (Z52 mc ma p q x31 x39_a mx0_0_a mx0_1_a rl_8_7_a rl_9_7_a) (xT N1 (xB 2 (xB 1 (Z33 N [1,1,1,0,1,0,0,1,1,1] (xT N0 (xB 0 (Z33 N [1,1,1,1] Q))))))):=
 Eq.mpr (by kernel_rfl) (h _ rfl _ rfl _ (Z1C _) _ (Z1C _) _ (Z1C _) _ (Z1C _))
theorem Zne(N:Nat)(mc ma:Bool)(p q:Edit)(rl_8_7 rl_9_7:List WEdit)(x90_b:Int)(mx0_0_b mx0_1_b:Bool)(rl_8_8_b rl_9_8_b:List Kid)(N2:NT)(Q:QT)(h:∀ y_1,y_1=(Edit.mk 2 (Tree.mk 0 ([]:List Int) ([]:List Tree)) (Tree.mk 0 ([]:List Int) ([]:List Tree)) rl_8_7 rl_8_8_b 0 ([]:List Op))->∀ y_2,y_2=(Edit.mk 2 (Tree.mk 0 ([]:List Int) ([]:List Tree)) (Tree.mk 0 ([]:List Int) ([]:List Tree)) rl_9_7 rl_9_8_b 0 ([]:List Op))->let z0:=decide (x90_b < (p.kids.length:Int));((z0=true->((0:Int)<=x90_b/\x90_b < (p.kids.length:Int))/\(Zi (Z64 N [1,1,1,1,1,0,1,0,0,1,1,0,0,1,1,0,0]) (Z50 mc ma p q rl_8_7 rl_9_7 x90_b 0 mx0_0_b mx0_1_b rl_8_8_b rl_9_8_b) (xB 6 (xB 5 (Z33 N [1,1,1,1,1,0,1,0,0,1,1,1] (xT N2 (xB 4 (Z33 N [1,1,1,1,1,1] Q))))))))/\(z0=false->(Zbv ((2,0,([]:List Int),([]:List Tree),0,([]:List Int),([]:List Tree),rl_8_7,rl_8_8_b,0,([]:List Op),()),()))/\(Zbv ((2,0,([]:List Int),([]:List Tree),0,([]:List Int),([]:List Tree),rl_9_7,rl_9_8_b,0,([]:List Op),()),()))/\(Q .ret (L2 [pL 6,pL 7] [(.loc 6,(enc .edit (Z2w y_1))),(.loc 7,(enc .edit (Z2w y_2))),(.x 0,[.bool mx0_0_b,.bool mx0_1_b])]))))):
  Z64 N [1,1,1,1,1,0,1,0,0] (Z51 mc ma p q rl_8_7 rl_9_7 x90_b mx0_0_b mx0_1_b rl_8_8_b rl_9_8_b) (xT N2 (xB 4 (Z33 N [1,1,1,1,1,1] Q))):=
 Eq.mpr (by kernel_rfl) (h _ rfl _ rfl)
theorem ZfP(N:Nat)(mc ma:Bool)(p q:Edit)(x31 x39_a:Int)(v48_c:V U)(mx0_0_c mx0_1_c:Bool)(rl_8_7_c rl_9_7_c:List WEdit)(N1 N0:NT)(Q:QT)(h:(InR (x39_a+1))/\(N1 (Z52 mc ma p q x31 (x39_a+1) mx0_0_c mx0_1_c rl_8_7_c rl_9_7_c))):
  Z64 N [1,1,1,0,1,0,0,1,1,0,0,1,1,0,0,1,1,1] (Z8D mc ma p q x31 x39_a v48_c mx0_0_c mx0_1_c rl_8_7_c rl_9_7_c) (xT N1 (xB 2 (xB 1 (Z33 N [1,1,1,0,1,0,0,1,1,1] (xT N0 (xB 0 (Z33 N [1,1,1,1] Q))))))):=
 Eq.mpr (by kernel_rfl) h
theorem Znd(N:Nat)(mc ma:Bool)(p q:Edit)(rl_8_7 rl_9_7:List WEdit)(x90_b x98_d:Int)(mx0_0_d mx0_1_d:Bool)(rl_8_8_d rl_9_8_d:List Kid)(N4 N2:NT)(Q:QT)(h:∀ y_1,y_1=(p.kids.getD x90_b.toNat (KidOf.mk 0 Edit.nil))->∀ y_2,y_2=(q.kids.getD x98_d.toNat (KidOf.mk 0 Edit.nil))->∀ y_3,y_3=(y_1.e)->∀ y_4,y_4=(y_2.e)->∀ y_5,y_5=((lbE y_3 y_4).x)->∀ y_6,y_6=((lbE y_3 y_4).y)->let z1:=decide (x98_d < (q.kids.length:Int));let z0:=xT N4 (xB 6 (xB 5 (Z33 N [1,1,1,1,1,0,1,0,0,1,1,1] (xT N2 (xB 4 (Z33 N [1,1,1,1,1,1] Q))))));((z1=true->((0:Int)<=x98_d/\x98_d < (q.kids.length:Int))/\(((y_1.at_==y_2.at_)=true->(Zbr ((mx0_0_d,mx0_1_d,()),y_3,y_4,()))/\(Zox ((mx0_0_d,mx0_1_d,()),y_3,y_4,()) < N)/\((0:Int)<=x90_b/\x90_b < (rl_8_8_d.length:Int))/\((0:Nat)<=x90_b.toNat)/\((0:Int)<=x98_d/\x98_d < (rl_9_8_d.length:Int))/\((0:Nat)<=x98_d.toNat)/\(Z64 N [1,1,1,1,1,0,1,0,0,1,1,0,0,1,1,0,0,1,1,1] (Z8C mc ma p q rl_8_7 rl_9_7 x90_b x98_d (mx0_0_d || (lbE y_3 y_4).c) (mx0_1_d || (lbE y_3 y_4).a) (List.set rl_8_8_d x90_b.toNat (KidOf.mk (KidOf.at_ (rl_8_8_d.getD x90_b.toNat (KidOf.mk 0 Edit.nil))) y_5)) (List.set rl_9_8_d x98_d.toNat (KidOf.mk (KidOf.at_ (rl_9_8_d.getD x98_d.toNat (KidOf.mk 0 Edit.nil))) y_6))) z0))/\((y_1.at_==y_2.at_)=false->Z64 N [1,1,1,1,1,0,1,0,0,1,1,0,0,1,1,0,0,1,1,1] (Z8C mc ma p q rl_8_7 rl_9_7 x90_b x98_d mx0_0_d mx0_1_d rl_8_8_d rl_9_8_d) z0)))/\(z1=false->(InR (x90_b+1))/\(N2 (Z51 mc ma p q rl_8_7 rl_9_7 (x90_b+1) mx0_0_d mx0_1_d rl_8_8_d rl_9_8_d))))):
  Z64 N [1,1,1,1,1,0,1,0,0,1,1,0,0,1,1,0,0] (Z50 mc ma p q rl_8_7 rl_9_7 x90_b x98_d mx0_0_d mx0_1_d rl_8_8_d rl_9_8_d) (xT N4 (xB 6 (xB 5 (Z33 N [1,1,1,1,1,0,1,0,0,1,1,1] (xT N2 (xB 4 (Z33 N [1,1,1,1,1,1] Q))))))):=
 Eq.mpr (by kernel_rfl) (h _ rfl _ rfl _ (Za _) _ (Za _) _ (Za _) _ (Za _))
theorem ZfO(N:Nat)(mc ma:Bool)(p q:Edit)(rl_8_7 rl_9_7:List WEdit)(x90_b x98_d:Int)(mx0_0_e mx0_1_e:Bool)(rl_8_8_e rl_9_8_e:List Kid)(N4 N2:NT)(Q:QT)(h:(InR (x98_d+1))/\(N4 (Z50 mc ma p q rl_8_7 rl_9_7 x90_b (x98_d+1) mx0_0_e mx0_1_e rl_8_8_e rl_9_8_e))):
  Z64 N [1,1,1,1,1,0,1,0,0,1,1,0,0,1,1,0,0,1,1,1] (Z8C mc ma p q rl_8_7 rl_9_7 x90_b x98_d mx0_0_e mx0_1_e rl_8_8_e rl_9_8_e) (xT N4 (xB 6 (xB 5 (Z33 N [1,1,1,1,1,0,1,0,0,1,1,1] (xT N2 (xB 4 (Z33 N [1,1,1,1,1,1] Q))))))):=
 Eq.mpr (by kernel_rfl) h
def ZtC(N:Nat)(mc ma:Bool)(p q:Edit):Prop:=AW (Z1N (Zfa N)) Try.f114 Zk9 [] (Zj (Zcv.can ((mc,ma,()),p,q,())) (Zcv.canX ((mc,ma,()),p,q,()))) (EQ Try.f114 (Zbm ((mc,ma,()),p,q,())) (Z6E ((mc,ma,()),p,q,())))
abbrev Zux:Prop:=∀ (N:Nat) (mc:Bool) (ma:Bool) (p:Edit) (q:Edit) (_:Unit),ZbC ((mc,ma,()),p,q,())->ZjY ((mc,ma,()),p,q,()) < N+1->ZtC N mc ma p q
def Zk8:Zf U:=fun i=> match i with
 | 0=> ([(0,[]),(4,[]),(5,[]),(6,[]),(7,[])],[(.loc 4,[]),(.loc 5,[]),(.loc 6,[]),(.loc 7,[]),(.x 0,[])])
 | 1=> ([(0,[]),(4,[]),(6,[]),(7,[]),(8,[]),(9,[])],[(.loc 4,[]),(.loc 6,[]),(.loc 7,[]),(.x 0,[])])
 | 2=> ([(0,[]),(4,[]),(6,[]),(7,[]),(8,[]),(22,[])],[(.loc 4,[]),(.loc 6,[]),(.loc 7,[]),(.x 0,[])])
 | 3=> ([(6,[]),(7,[])],[(.loc 6,[]),(.loc 7,[]),(.x 0,[])])
 | 4=> ([(6,[]),(7,[])],[(.loc 6,[]),(.loc 7,[]),(.x 0,[])])
 | 5=> ([(4,[]),(6,[]),(7,[]),(8,[]),(10,[])],[(.loc 4,[]),(.loc 6,[]),(.loc 7,[]),(.loc 31,[]),(.x 0,[])])
 | 6=> ([(4,[]),(6,[]),(7,[]),(10,[]),(32,[]),(33,[]),(34,[])],[(.loc 4,[]),(.loc 6,[]),(.loc 7,[]),(.loc 31,[.any,.own .op,.own .op,.own .tree,.own .tree]),(.x 0,[])])
 | 7=> ([(4,[]),(6,[]),(7,[]),(10,[]),(32,[]),(33,[]),(34,[]),(35,[])],[(.loc 4,[]),(.loc 6,[]),(.loc 7,[]),(.loc 31,[]),(.x 0,[])])
 | 8=> ([(4,[]),(6,[]),(7,[]),(10,[]),(12,[]),(32,[]),(33,[]),(34,[])],[(.loc 4,[]),(.loc 6,[]),(.loc 7,[]),(.loc 12,[]),(.loc 31,[]),(.x 0,[])])
 | 9=> ([(4,[]),(6,[]),(7,[]),(10,[]),(12,[]),(32,[]),(33,[]),(34,[]),(39,[])],[(.loc 4,[]),(.loc 6,[]),(.loc 7,[]),(.loc 12,[]),(.loc 31,[]),(.x 0,[])])
 | 10=> ([(4,[]),(6,[]),(7,[]),(10,[]),(12,[]),(32,[]),(33,[]),(34,[])],[(.loc 4,[]),(.loc 6,[]),(.loc 7,[]),(.loc 12,[]),(.loc 31,[]),(.x 0,[])])
 | 11=> ([(4,[]),(6,[]),(7,[]),(10,[]),(32,[]),(33,[]),(34,[])],[(.loc 4,[]),(.loc 6,[]),(.loc 7,[]),(.loc 31,[]),(.x 0,[])])
 | 12=> ([(4,[]),(6,[]),(7,[]),(10,[]),(12,[]),(32,[]),(33,[]),(34,[]),(39,[]),(48,[])],[(.loc 4,[]),(.loc 6,[]),(.loc 7,[]),(.loc 12,[]),(.loc 31,[]),(.x 0,[])])
 | 13=> ([(4,[]),(6,[]),(7,[]),(10,[]),(32,[]),(33,[]),(34,[])],[(.loc 4,[]),(.loc 6,[]),(.loc 7,[]),(.loc 31,[]),(.x 0,[])])
 | 14=> ([(4,[]),(6,[]),(7,[]),(10,[]),(12,[]),(32,[]),(33,[]),(34,[]),(61,[])],[(.loc 4,[]),(.loc 6,[]),(.loc 7,[]),(.loc 12,[]),(.loc 31,[]),(.x 0,[])])
 | 15=> ([(4,[]),(6,[]),(7,[]),(10,[]),(32,[]),(33,[]),(34,[])],[(.loc 4,[]),(.loc 6,[]),(.loc 7,[]),(.loc 31,[]),(.x 0,[])])
 | 16=> ([(4,[]),(6,[]),(7,[]),(10,[]),(32,[]),(33,[]),(34,[])],[(.loc 4,[]),(.loc 6,[]),(.loc 7,[]),(.loc 31,[.any,.own .op,.own .op,.own .tree,.own .tree]),(.x 0,[])])
 | 17=> ([(4,[]),(6,[]),(7,[]),(10,[])],[(.loc 4,[]),(.loc 6,[]),(.loc 7,[]),(.loc 31,[]),(.x 0,[])])
 | 18=> ([(6,[]),(7,[])],[(.loc 6,[]),(.loc 7,[]),(.x 0,[])])
 | _=> ([],[])
def Z1t(mc ma:Bool)(p q:Edit)(x34:Int)(mx0_0 mx0_1:Bool)(ml31_3 ml31_4:List Tree)(ml31_1 ml31_2:List Op):LSt U:=(L2 [pL 4,pL 6,pL 7,(10,.ptr (.loc 31) 0),(32,.c (sU .piece ((ZK 2 2 p.ops q.ops []).1) .unk)),pI 33 (((ZK 2 2 p.ops q.ops []).1).length:Int),pI 34 x34] [(.loc 4,(enc .edit p)),(.loc 6,zc1),(.loc 7,zc1),(.loc 31,[.xp 0,sU .op ml31_1 (.own (.l 31 1)),sU .op ml31_2 (.own (.l 31 2)),sU .tree ml31_3 (.own (.l 31 3)),sU .tree ml31_4 (.own (.l 31 4))]),(.x 0,[.bool mx0_0,.bool mx0_1])])
abbrev Zxm(N:Nat)(p:List Nat):=AW (Z1 (Zfa N)) Try.f115 Zk8 p
abbrev ZyT(N:Nat)(p:List Nat):=SW (Z1 (Zfa N)) Try.f115 Zk8 p
theorem Zy1(N:Nat)(mc ma:Bool)(p q:Edit)(Q:QT)(h:let z0:= !((ZK 2 2 p.ops q.ops []).2.1);((Zi2 (p.ops,q.ops,()))/\((z0=true->((Z8e ())/\(Q .ret (L2 [pL 6,pL 7] [(.loc 6,(enc .edit Edit.nil)),(.loc 7,(enc .edit Edit.nil)),(.x 0,[.bool mc,.bool true])]))))/\(z0=false->(Zi (Zxm N [1,1,1,1,0,1,0,0]) (Z1t mc ma p q 0 mc ma [] [] [] []) (xB 0 (ZyT N [1,1,1,1,1] Q))))))):
  Zxm N [] (L2 [(0,.ptr (.x 0) 0),(1,.agg (enc .edit p)),(2,.agg (enc .edit q))] [(.x 0,[.bool mc,.bool ma])]) Q:=
 Eq.mpr (by kernel_rfl) h
theorem Znc(N:Nat)(mc ma:Bool)(p q:Edit)(x34:Int)(mx0_0 mx0_1:Bool)(ml31_3 ml31_4:List Tree)(ml31_1 ml31_2:List Op)(N0:NT)(Q:QT)(h:∀ y_1,y_1=(Edit.new (Z0K p.list (ml31_1++(Ja ml31_3 ml31_4).x)))->∀ y_2,y_2=(Edit.new (Z0K p.list (ml31_2++(Ja ml31_3 ml31_4).y)))->∀ y_3,y_3=(Edit.old (Z0K p.list (ml31_1++(Ja ml31_3 ml31_4).x)))->∀ y_4,y_4=(Edit.old (Z0K p.list (ml31_2++(Ja ml31_3 ml31_4).y)))->∀ y_5,y_5=(List.getD ((ZK 2 2 p.ops q.ops []).1) x34.toNat (Piece.mk 0 Op.nil Op.nil))->∀ y_6,y_6=(y_5.p)->∀ y_7,y_7=(y_5.q)->let z5:=ZC lbE y_6 y_7;let z4:=decide (x34 < (((ZK 2 2 p.ops q.ops []).1).length:Int));let z3:=ZeJ (((),ml31_1,ml31_2,ml31_3,ml31_4,()),(mx0_0,mx0_1,()),());let z0:=Ja ml31_3 ml31_4;let z2:=Z0K p.list (ml31_2++z0.y);let z1:=Z0K p.list (ml31_1++z0.x);((z4=true->((0:Int)<=x34/\x34 < (((ZK 2 2 p.ops q.ops []).1).length:Int))/\(((y_5.of==1)=true->((ml31_3.length+y_5.p.l.length)*56<=140737488355328)/\((InR (x34+1))/\(N0 (Z1t mc ma p q (x34+1) mx0_0 mx0_1 (ml31_3++y_5.p.l) ml31_4 ml31_1 ml31_2))))/\((y_5.of==1)=false->(((y_5.of==2)=true->((ml31_4.length+y_5.q.l.length)*56<=140737488355328)/\((InR (x34+1))/\(N0 (Z1t mc ma p q (x34+1) mx0_0 mx0_1 ml31_3 (ml31_4++y_5.q.l) ml31_1 ml31_2))))/\((y_5.of==2)=false->z3/\((Z8a (((),(ml31_1++z0.x),(ml31_2++z0.y),([]:List Tree),([]:List Tree),()),y_6,y_7,((mx0_0 || z0.c),mx0_1,()),()))/\(ZjW (((),(ml31_1++z0.x),(ml31_2++z0.y),([]:List Tree),([]:List Tree),()),y_6,y_7,((mx0_0 || z0.c),mx0_1,()),()) < N)/\((InR (x34+1))/\(N0 (Z1t mc ma p q (x34+1) ((mx0_0 || z0.c) || z5.c) (mx0_1 || z5.a) ([]:List Tree) ([]:List Tree) ((ml31_1++z0.x)++z5.x) ((ml31_2++z0.y)++z5.y))))))))))/\(z4=false->z3/\((Zbu (p.list,(ml31_1++z0.x),()))/\(Zbu (p.list,(ml31_2++z0.y),()))/\(Q .ret (L2 [pL 6,pL 7] [(.loc 6,([ci (Edit.kind z1)]++enc .tree y_3++enc .tree y_1++[sU .wedit (Edit.words z1) .unk,sU .kid (Edit.kids z1) .unk,ci (Edit.list z1),sU .op (Edit.ops z1) .unk])),(.loc 7,([ci (Edit.kind z2)]++enc .tree y_4++enc .tree y_2++[sU .wedit (Edit.words z2) .unk,sU .kid (Edit.kids z2) .unk,ci (Edit.list z2),sU .op (Edit.ops z2) .unk])),(.x 0,[.bool (mx0_0 || z0.c),.bool mx0_1])])))))):
  Zxm N [1,1,1,1,0,1,0,0] (Z1t mc ma p q x34 mx0_0 mx0_1 ml31_3 ml31_4 ml31_1 ml31_2) (xT N0 (xB 0 (ZyT N [1,1,1,1,1] Q))):=
 Eq.mpr (by kernel_rfl) (h _ rfl _ rfl _ rfl _ rfl _ rfl _ (Yv _) _ (Yv _))
def ZtB(N:Nat)(mc ma:Bool)(p q:Edit):Prop:=AW (Z1 (Zfa N)) Try.f115 Zk8 [] (Zj (Zcv.can ((mc,ma,()),p,q,())) (Zcv.canX ((mc,ma,()),p,q,()))) (EQ Try.f115 (Zbl ((mc,ma,()),p,q,())) (Z6D ((mc,ma,()),p,q,())))
abbrev Zuw:Prop:=∀ (N:Nat) (mc:Bool) (ma:Bool) (p:Edit) (q:Edit) (_:Unit),ZbB ((mc,ma,()),p,q,())->ZjY ((mc,ma,()),p,q,()) < N+1->ZtB N mc ma p q
def ZoW:Zf U:=fun i=> match i with
 | 0=> ([(0,[]),(4,[]),(5,[])],[(.loc 4,[]),(.loc 5,[]),(.x 0,[]),(.x 1,[])])
 | 1=> ([(0,[]),(6,[]),(7,[])],[(.loc 6,[]),(.loc 7,[]),(.x 0,[]),(.x 1,[])])
 | 2=> ([],[(.x 0,[]),(.x 1,[])])
 | 3=> ([(0,[]),(4,[]),(5,[]),(42,[])],[(.loc 4,[]),(.loc 5,[]),(.x 0,[]),(.x 1,[])])
 | 4=> ([],[(.x 0,[]),(.x 1,[])])
 | 5=> ([(0,[]),(4,[]),(5,[]),(62,[])],[(.loc 4,[]),(.loc 5,[]),(.x 0,[]),(.x 1,[])])
 | 6=> ([],[(.x 0,[]),(.x 1,[])])
 | 7=> ([(0,[]),(4,[]),(5,[]),(82,[])],[(.loc 4,[]),(.loc 5,[]),(.x 0,[]),(.x 1,[])])
 | 8=> ([],[(.x 0,[]),(.x 1,[])])
 | 9=> ([(0,[]),(4,[]),(5,[]),(109,[])],[(.loc 4,[]),(.loc 5,[]),(.x 0,[]),(.x 1,[])])
 | 10=> ([],[(.x 0,[]),(.x 1,[])])
 | 11=> ([(0,[]),(4,[]),(5,[]),(133,[])],[(.loc 4,[]),(.loc 5,[]),(.x 0,[]),(.x 1,[])])
 | 12=> ([(0,[]),(147,[])],[(.x 0,[]),(.x 1,[])])
 | 13=> ([],[(.x 0,[]),(.x 1,[])])
 | 14=> ([(0,[]),(4,[]),(5,[]),(154,[])],[(.loc 4,[]),(.loc 5,[]),(.x 0,[]),(.x 1,[])])
 | 15=> ([],[(.x 0,[]),(.x 1,[])])
 | 16=> ([(0,[]),(4,[]),(5,[]),(166,[])],[(.loc 4,[]),(.loc 5,[]),(.x 0,[]),(.x 1,[])])
 | 17=> ([],[(.x 0,[]),(.x 1,[])])
 | _=> ([],[])
abbrev ZzV(N:Nat)(p:List Nat):=AW (Z1 (Zfa N)) Try.f160 ZoW p
theorem ZxK(N:Nat)(sm_:Unit)(sx sy:List Op)(si sh:List Tree)(p q:Op)(mc ma:Bool)(Q:QT)(h:∀ y_1,y_1=p->∀ y_2,y_2=q->∀ y_3,y_3=(p.e)->∀ y_4,y_4=(q.e)->∀ y_5,y_5=(List.getD p.l (Int.toNat 0) Tree.nil)->∀ y_6,y_6=(List.getD q.l (Int.toNat 0) Tree.nil)->∀ y_7,y_7=(Edit.mk 0 (Tree.mk 0 [] []) (Tree.mk 0 [] []) [] [] 0 [])->∀ y_8,y_8=((lbE y_3 y_4).x)->∀ y_9,y_9=((lbE y_3 y_4).y)->∀ y_10,y_10=(Z3M y_8)->∀ y_11,y_11=(Z3M y_9)->let z3:=bif (p.kind==1) then (q.kind==1) else false;let z2:=bif (p.kind==1) then (q.kind==0) else false;let z1:=bif (p.kind==0) then (q.kind==1) else false;let z0:= !(eqX (Z5 p.l) (Z5 q.l));((Tr ((p.kind==0)=true))/\(Tr ((p.kind==0)=true))/\(Tr ((p.kind==0)=true))/\((z1=true->((sy.length+([(OpOf.mk 0 0 [] y_7)]).length)*240<=140737488355328)/\((0:Int)<=(sy.length:Int)/\(sy.length:Int) < ((sy++([(OpOf.mk 0 0 [] y_7)])).length:Int))/\(sy.length<=(Int.toNat (sy.length:Int)))/\(Q .normal (L2 [] [(.x 0,[.xp 1,sU .op sx (.own (.x 0 1)),sU .op (List.set (sy++([(OpOf.mk 0 0 [] y_7)])) (Int.toNat (sy.length:Int)) y_2) (.own (.x 0 2)),sU .tree si (.own (.x 0 3)),sU .tree sh (.own (.x 0 4))]),(.x 1,[.bool mc,.bool ma])])))/\(z1=false->(Tr ((p.kind==1)=true))/\(Tr ((p.kind==1)=true))/\(Tr ((p.kind==1)=true))/\((z2=true->((sx.length+([(OpOf.mk 0 0 [] y_7)]).length)*240<=140737488355328)/\((0:Int)<=(sx.length:Int)/\(sx.length:Int) < ((sx++([(OpOf.mk 0 0 [] y_7)])).length:Int))/\(sx.length<=(Int.toNat (sx.length:Int)))/\(Q .normal (L2 [] [(.x 0,[.xp 1,sU .op (List.set (sx++([(OpOf.mk 0 0 [] y_7)])) (Int.toNat (sx.length:Int)) y_1) (.own (.x 0 1)),sU .op sy (.own (.x 0 2)),sU .tree si (.own (.x 0 3)),sU .tree sh (.own (.x 0 4))]),(.x 1,[.bool mc,.bool ma])])))/\(z2=false->(((p.kind==0)=true->((sx.length+([(OpOf.mk 0 (if q.n < 1 then 1 else q.n) [] y_7)]).length)*240<=140737488355328)/\((sy.length+([y_2]).length)*240<=140737488355328)/\(Q .normal (L2 [] [(.x 0,[.xp 1,sU .op (sx++([(OpOf.mk 0 (if q.n < 1 then 1 else q.n) [] y_7)])) (.own (.x 0 1)),sU .op (sy++([y_2])) (.own (.x 0 2)),sU .tree si (.own (.x 0 3)),sU .tree sh (.own (.x 0 4))]),(.x 1,[.bool mc,.bool ma])])))/\((p.kind==0)=false->(((q.kind==0)=true->((sx.length+([y_1]).length)*240<=140737488355328)/\((sy.length+([(OpOf.mk 0 1 [] y_7)]).length)*240<=140737488355328)/\(Q .normal (L2 [] [(.x 0,[.xp 1,sU .op (sx++([y_1])) (.own (.x 0 1)),sU .op (sy++([(OpOf.mk 0 1 [] y_7)])) (.own (.x 0 2)),sU .tree si (.own (.x 0 3)),sU .tree sh (.own (.x 0 4))]),(.x 1,[.bool mc,.bool ma])])))/\((q.kind==0)=false->(Tr ((p.kind==1)=true))/\(Tr ((p.kind==1)=true))/\(Tr ((p.kind==1)=true))/\((z3=true->(Z5N (p.l,q.l,(),()))/\((z0=true->(Q .normal (L2 [] [(.x 0,[.xp 1,sU .op sx (.own (.x 0 1)),sU .op sy (.own (.x 0 2)),sU .tree si (.own (.x 0 3)),sU .tree sh (.own (.x 0 4))]),(.x 1,[.bool mc,.bool true])])))/\(z0=false->Q .normal (L2 [(0,.ptr (.x 0) 0),pB 147 z0] [(.x 0,[.xp 1,sU .op sx (.own (.x 0 1)),sU .op sy (.own (.x 0 2)),sU .tree si (.own (.x 0 3)),sU .tree sh (.own (.x 0 4))]),(.x 1,[.bool mc,.bool ma])]))))/\(z3=false->(((p.kind==1)=true->((0:Int)<=0/\0 < (p.l.length:Int))/\(Zbt (((),sx,sy,si,sh,()),y_4,y_5,(mc,ma,()),()))/\(Q .normal (L2 [] [(.x 0,[.xp 1,sU .op sx (.own (.x 0 1)),sU .op sy (.own (.x 0 2)),sU .tree si (.own (.x 0 3)),sU .tree sh (.own (.x 0 4))]),(.x 1,[.bool true,.bool (ma || !(doE false y_4 y_5).isSome)])])))/\((p.kind==1)=false->(((q.kind==1)=true->((0:Int)<=0/\0 < (q.l.length:Int))/\(Zbt (((),sx,sy,si,sh,()),y_3,y_6,(mc,ma,()),()))/\(Q .normal (L2 [] [(.x 0,[.xp 1,sU .op sx (.own (.x 0 1)),sU .op sy (.own (.x 0 2)),sU .tree si (.own (.x 0 3)),sU .tree sh (.own (.x 0 4))]),(.x 1,[.bool true,.bool (ma || !(doE false y_3 y_6).isSome)])])))/\((q.kind==1)=false->(Zbr ((mc,ma,()),y_3,y_4,()))/\(Zox ((mc,ma,()),y_3,y_4,()) < N)/\((ZeB (y_8,()))/\((sx.length+([y_10]).length)*240<=140737488355328)/\(ZeB (y_9,()))/\((sy.length+([y_11]).length)*240<=140737488355328)/\(Q .normal (L2 [] [(.x 0,[.xp 1,sU .op (sx++([y_10])) (.own (.x 0 1)),sU .op (sy++([y_11])) (.own (.x 0 2)),sU .tree si (.own (.x 0 3)),sU .tree sh (.own (.x 0 4))]),(.x 1,[.bool (mc || (lbE y_3 y_4).c),.bool (ma || (lbE y_3 y_4).a)])]))))))))))))))))))):
  ZzV N [] (L2 [(0,.ptr (.x 0) 0),(1,.agg (enc .op p)),(2,.agg (enc .op q))] [(.x 0,[.xp 1,sU .op sx (.own (.x 0 1)),sU .op sy (.own (.x 0 2)),sU .tree si (.own (.x 0 3)),sU .tree sh (.own (.x 0 4))]),(.x 1,[.bool mc,.bool ma])]) Q:=
 Eq.mpr (by kernel_rfl) (h _ (Yv _) _ (Yv _) _ (Za _) _ (Za _) _ (Zc _) _ (Zc _) _ rfl _ (Za _) _ (Za _) _ (Yv _) _ (Yv _))
def Ztk(N:Nat)(sm_:Unit)(sx sy:List Op)(si sh:List Tree)(p q:Op)(mc ma:Bool):Prop:=AW (Z1 (Zfa N)) Try.f160 ZoW [] (Zj (Z7L.can ((sm_,sx,sy,si,sh,()),p,q,(mc,ma,()),())) (Z7L.canX ((sm_,sx,sy,si,sh,()),p,q,(mc,ma,()),()))) (EQ Try.f160 (Zbj ((sm_,sx,sy,si,sh,()),p,q,(mc,ma,()),())) (Z6A ((sm_,sx,sy,si,sh,()),p,q,(mc,ma,()),())))
abbrev Zuv:Prop:=∀ (N:Nat) (sm_:Unit) (sx:List Op) (sy:List Op) (si:List Tree) (sh:List Tree) (p:Op) (q:Op) (mc:Bool) (ma:Bool) (_:Unit),Z8a ((sm_,sx,sy,si,sh,()),p,q,(mc,ma,()),())->ZjW ((sm_,sx,sy,si,sh,()),p,q,(mc,ma,()),()) < N+1->Ztk N sm_ sx sy si sh p q mc ma
theorem ZrD(Z9N:CT 106 Je)(Zwm:CT 112 Za1)(Zwl:CT 113 Za0)(Zfm:CT 151 Z07)(Zwf:CT 153 Z9Z)(Zwe:CT 154 Z9Y)(Zwd:CT 155 Z9X)(Zwc:CT 156 Z9W)(Zwb:CT 157 Z9V)(Zwa:CT 158 Z9U)(Zw9:CT 159 Z9T)(Zw8:CT 161 Z9S)(Zw3:CT 179 Z9R)(Zw2:CT 180 Z9Q)(b77:ZyW)(Zwv:Zux)(Zwu:Zuw)(Zwt:Zuv):
  CT 77 Z7W/\CT 114 Zjj/\CT 115 Zji/\CT 160 Zjh:=by
 have h77 : ∃ fn, Try.prog.funcs[(77 : FuncId)]? = some fn ∧ fn.body.isSome = true ∧ (fn.name == "runtime.NumGoroutine") = false := ⟨Try.f77, Try.func77, rfl, rfl⟩
 have h114 : ∃ fn, Try.prog.funcs[(114 : FuncId)]? = some fn ∧ fn.body.isSome = true ∧ (fn.name == "runtime.NumGoroutine") = false := ⟨Try.f114, Try.func114, rfl, rfl⟩
 have h115 : ∃ fn, Try.prog.funcs[(115 : FuncId)]? = some fn ∧ fn.body.isSome = true ∧ (fn.name == "runtime.NumGoroutine") = false := ⟨Try.f115, Try.func115, rfl, rfl⟩
 have h160 : ∃ fn, Try.prog.funcs[(160 : FuncId)]? = some fn ∧ fn.body.isSome = true ∧ (fn.name == "runtime.NumGoroutine") = false := ⟨Try.f160, Try.func160, rfl, rfl⟩
 have key:∀ N,CT 77 (fsX Zcv (fun a=> [Zbr a,Zox a < N]) Zge Zbg)/\CT 114 (fsX Zcv (fun a=> [ZbC a,ZjY a < N]) Zbm Z6E)/\CT 115 (fsX Zcv (fun a=> [ZbB a,ZjY a < N]) Zbl Z6D)/\CT 160 (fsX Z7L (fun a=> [Z8a a,ZjW a < N]) Zbj Z6A):=by
  intro N
  induction N with
  | zero=> exact ⟨Z7D h77,Z7D h114,Z7D h115,Z7D h160⟩
  | succ N ih=>
   have kn:=Z0y (l:=Z2k N) ⟨ih.1,ih.2.1,ih.2.2.1,ih.2.2.2,Z9N,Zwm,Zwl,Zfm,Zwf,Zwe,Zwd,Zwc,Zwb,Zwa,Zw9,Zw8,Zw3,Zw2,trivial⟩
   exact ⟨Z0g (Γ:=Z1 (Z2k N)) Zl rfl kn Zvz Try.func77 rfl rfl (fun a=> by show 3<=_;decide) (fun ⟨⟨mc,ma,_⟩,p,q,_⟩ h=> b77 N mc ma p q () h.1 h.2.1),
    Z0g (Γ:=Z1N (Z2k N)) Zl rfl kn Zk9 Try.func114 rfl rfl (fun a=> by show 3<=_;decide) (fun ⟨⟨mc,ma,_⟩,p,q,_⟩ h=> Zwv N mc ma p q () h.1 h.2.1),
    Z0g (Γ:=Z1 (Z2k N)) Zl rfl kn Zk8 Try.func115 rfl rfl (fun a=> by show 3<=_;decide) (fun ⟨⟨mc,ma,_⟩,p,q,_⟩ h=> Zwu N mc ma p q () h.1 h.2.1),
    Z0g (Γ:=Z1 (Z2k N)) Zl rfl kn ZoW Try.func160 rfl rfl (fun a=> by show 3<=_;decide) (fun ⟨⟨sm_,sx,sy,si,sh,_⟩,p,q,⟨mc,ma,_⟩,_⟩ h=> Zwt N sm_ sx sy si sh p q mc ma () h.1 h.2.1)⟩
 exact ⟨Z7E h77 fun N=> (key N).1,Z7E h114 fun N=> (key N).2.1,Z7E h115 fun N=> (key N).2.2.1,Z7E h160 fun N=> (key N).2.2.2⟩
end
theorem ZmG:Contract Try.prog cfg 174 Z1Y:=by
 refine ZrT ?_
 intro w _ _
 refine ZxG _ _ ?_
 simp only [ZhQ]
 (repeat' (first | exact trivial | exact rfl | apply And.intro))
theorem ZmF:Contract Try.prog cfg 176 Z1X:=by
 refine ZrR ?_
 intro w _ _
 refine ZxE _ _ ?_
 simp only [ZhP]
 (repeat' (first | exact trivial | exact rfl | apply And.intro))
theorem Zw0:Contract Try.prog cfg 182 Z6e:=by
 refine ZrL ?_
 intro w _ _
 refine Zxy _ _ ?_
 simp only [ZhN]
 (repeat' (first | exact trivial | exact rfl | apply And.intro))
theorem Z2P{α:Type}(f:α->Bool):∀ (l:List α) (i:Int),(YO f l i= -1/\∀ a∈l,f a=false)\/(i<=YO f l i/\YO f l i < i+l.length/\(∀ a∈l.take (YO f l i - i).toNat,f a=false)/\∀ z,f (l.getD (YO f l i - i).toNat z)=true)
 | [],i=> .inl ⟨rfl,fun a h=> by cases h⟩
 | a ::r,i=> by
  by_cases h:f a=true
  ·rw [YO,if_pos h]
   refine .inr ⟨Xa _,by simp only [Q9];omega,?_,fun z=> ?_⟩
   ·rw [show (i - i).toNat=0 by omega];simp
   ·rw [show (i - i).toNat=0 by omega];exact h
  ·rw [YO,if_neg h]
   rcases Z2P f r (i+1) with ⟨h1,h2⟩ | ⟨h1,h2,h3,h4⟩
   ·exact .inl ⟨h1,fun x hx=> by rcases Qc.1 hx with rfl | hx;simpa using h;exact h2 x hx⟩
   ·have e:(YO f r (i+1) - i).toNat=(YO f r (i+1) - (i+1)).toNat+1:=by omega
    rw [e]
    refine .inr ⟨by omega,by simp only [Q9];omega,fun x hx=> ?_,fun z=> by simpa using h4 z⟩
    rw [List.take_succ_cons] at hx
    rcases Qc.1 hx with rfl | hx
    ·simpa using h
    ·exact h3 x hx
theorem ZpG{α:Type}(f:α->Bool)(l:List α):decide (0<=YO f l 0)=l.any f:=by
 rcases Z2P f l 0 with ⟨h1,h2⟩ | ⟨h1,h2,_,h4⟩
 ·rw [h1,Xs.2 (fun x hx=> by rw [h2 x hx];decide)];try rfl
 ·rw [decide_eq_true h1,Xw.2]
  cases l with
  | nil=> simp at h2;omega
  | cons a r=> exact ⟨_,Zh (by simp only [Q9] at h2 ⊢;omega) a,h4 a⟩
theorem ZvX:Contract Try.prog cfg 192 Z6b:=by
 refine ZrG ZmG ?_
 intro l f _ hp
 simp only [Zez] at hp
 refine Zxt l f _ ?_
 refine Z9 (ι:=Int) (fun i=> Z4X l f i) (fun i=> 0<=i/\i<=l.length/\YO (fun w:WEdit=> decide (WEdit.mask w=0)) (l.drop i.toNat) i=YO (fun w:WEdit=> decide (WEdit.mask w=0)) l 0) (fun i=> ((l.length:Int) - i).toNat) 0 rfl ⟨by omega,by omega,rfl⟩ ?_
 rintro i ⟨h1,h2,h3⟩
 refine Zn4 l f _ _ _ ?_
 (simp only [vcT,vcS])
 refine ⟨fun hi=> ⟨⟨h1,hi⟩,trivial,fun he=> ?_,fun he=> ⟨by unfold InR;omega,i+1,rfl,⟨by omega,by omega,?_⟩,by omega⟩⟩,fun hi=> ?_⟩
 ·rw [Yn h1 hi ⟨0,0,0,0⟩,YO,if_pos (decide_eq_true he)] at h3
  simp only [Zei,<-h3]
  (repeat' (first | exact trivial | exact rfl | apply And.intro))
 ·rw [Yn h1 hi ⟨0,0,0,0⟩,YO,if_neg (fun e=> he (of_decide_eq_true e))] at h3
  exact h3
 ·rw [Qg (by omega),YO] at h3
  simp only [Zei,<-h3]
  (repeat' (first | exact trivial | exact rfl | apply And.intro))
theorem ZpY:Contract Try.prog cfg 72 Z3R:=by
 refine ZoH ZmF ?_
 intro l f _ hp
 simp only [Zaf] at hp
 refine ZuF l f _ ?_
 refine Z9 (ι:=Int) (fun i=> Z3t l f i) (fun i=> 0<=i/\i<=l.length/\YO (fun k:Kid=> decide (Edit.kind (KidOf.e k)=0)) (l.drop i.toNat) i=YO (fun k:Kid=> decide (Edit.kind (KidOf.e k)=0)) l 0) (fun i=> ((l.length:Int) - i).toNat) 0 rfl ⟨by omega,by omega,rfl⟩ ?_
 rintro i ⟨h1,h2,h3⟩
 refine ZlB l f _ _ _ ?_
 intro y1 e1 y2 e2
 (simp only [vcT,vcS])
 subst_vars
 refine ⟨fun hi=> ⟨⟨h1,hi⟩,trivial,fun he=> ?_,fun he=> ⟨by unfold InR;omega,i+1,rfl,⟨by omega,by omega,?_⟩,by omega⟩⟩,fun hi=> ?_⟩
 ·rw [Yn h1 hi ⟨0,Edit.nil⟩,YO,if_pos (decide_eq_true he)] at h3
  simp only [Zad,<-h3]
  (repeat' (first | exact trivial | exact rfl | apply And.intro))
 ·rw [Yn h1 hi ⟨0,Edit.nil⟩,YO,if_neg (fun e=> he (of_decide_eq_true e))] at h3
  exact h3
 ·rw [Qg (by omega),YO] at h3
  simp only [Zad,<-h3]
  (repeat' (first | exact trivial | exact rfl | apply And.intro))
theorem ZvW:Contract Try.prog cfg 193 Z6a:=by
 refine ZrF Zw0 ?_
 intro l f _ hp
 simp only [Zey] at hp
 refine Zxs l f _ ?_
 refine Z9 (ι:=Int) (fun i=> Z4W l f i) (fun i=> 0<=i/\i<=l.length/\YO (fun o:Op=> !decide (OpOf.kind o=0)) (l.drop i.toNat) i=YO (fun o:Op=> !decide (OpOf.kind o=0)) l 0) (fun i=> ((l.length:Int) - i).toNat) 0 rfl ⟨by omega,by omega,rfl⟩ ?_
 rintro i ⟨h1,h2,h3⟩
 refine Zn3 l f _ _ _ ?_
 intro y1 e1 y2 e2
 (simp only [vcT,vcS])
 subst_vars
 refine ⟨fun hi=> ⟨⟨h1,hi⟩,trivial,fun he=> ?_,fun he=> ⟨by unfold InR;omega,i+1,rfl,⟨by omega,by omega,?_⟩,by omega⟩⟩,fun hi=> ?_⟩
 ·rw [Yn h1 hi Op.nil,YO,if_pos (by simpa using he)] at h3
  simp only [Zeh,<-h3]
  (repeat' (first | exact trivial | exact rfl | apply And.intro))
 ·rw [Yn h1 hi Op.nil,YO,if_neg (by simpa using he)] at h3
  exact h3
 ·rw [Qg (by omega),YO] at h3
  simp only [Zeh,<-h3]
  (repeat' (first | exact trivial | exact rfl | apply And.intro))
theorem Zw1:Contract Try.prog cfg 181 Z6f:=by
 refine ZrM ZvW ?_
 intro l f _ hp
 simp only [Zey] at hp
 refine Zxz l f _ ⟨hp,?_⟩
 simp only [ZhO]
 rw [ZpG]
 (repeat' (first | exact trivial | exact rfl | apply And.intro))
theorem Zw5:Contract Try.prog cfg 177 Z6h:=by
 refine ZrQ ?_
 intro n _ _
 refine ZxD _ _ ?_
 (simp only [vcT,vcS])
 refine ⟨fun h=> ?_,fun h=> ?_⟩
 ·simp only [Zel,J9,if_pos h]
  (repeat' (first | exact trivial | exact rfl | apply And.intro))
 ·simp only [Zel,J9,if_neg h]
  (repeat' (first | exact trivial | exact rfl | apply And.intro))
theorem Zwf:Contract Try.prog cfg 153 Z9Z:=by
 refine Zs3 ?_
 intro l _ hp
 simp only [Zby] at hp
 refine ZxR _ _ ⟨fun h=> ?_,fun _=> ⟨by simp only [Qb];omega,?_⟩⟩
 ·subst h
  simp only [Zab]
  (repeat' (first | exact trivial | exact rfl | apply And.intro))
 ·simp only [Zab]
  (repeat' (first | exact trivial | exact rfl | apply And.intro))
theorem Zwc:Contract Try.prog cfg 156 Z9W:=by
 refine Zs0 ?_
 intro l _ hp
 simp only [Zbw] at hp
 refine ZxO _ _ ⟨fun h=> ?_,fun _=> ⟨by simp only [Qb];omega,?_⟩⟩
 ·subst h
  simp only [Zaa]
  (repeat' (first | exact trivial | exact rfl | apply And.intro))
 ·simp only [Zaa]
  (repeat' (first | exact trivial | exact rfl | apply And.intro))
structure DInv {α:Type} (g:α->Bool) (l L:List α) (i j:Int):Prop where
 i0:0<=i
 ij:i < j
 jl:j<=l.length
 len:L.length=l.length
 tk:L.take i.toNat=(l.take j.toNat).filter g
 dr:L.drop j.toNat=l.drop j.toNat
theorem DInv.one{α:Type}{f:α->Bool}{l:List α}{k:Int}(e:YO f l 0=k)(hk:k≠-1):DInv (fun a=> !f a) l l k (k+1):=by
 subst e
 rcases Z2P f l 0 with ⟨h1,_⟩ | ⟨h1,h2,h3,h4⟩
 ·exact absurd h1 hk
 ·rw [Int.sub_zero] at h3 h4
  refine ⟨h1,by omega,by omega,rfl,?_,rfl⟩
  cases l with
  | nil=> simp at h2;omega
  | cons a r=>
   rw [show (YO f (a ::r) 0+1).toNat=(YO f (a ::r) 0).toNat+1 by omega,Z7T (by omega) a,Kf,XE,h4 a,Ka.2 (fun x hx=> by rw [h3 x hx];rfl)]
   simp
theorem DInv.get{α:Type}{g:α->Bool}{l L:List α}{i j:Int}(h:DInv g l L i j)(z:α):L.getD j.toNat z=l.getD j.toNat z:=by
 have:=congrArg (fun x=> x.getD 0 z) h.dr
 simpa [Qm] using this
theorem DInv.next{α:Type}{g:α->Bool}{l L:List α}{i j:Int}(h:DInv g l L i j)(hj:j < l.length)(z:α):
  (g (L.getD j.toNat z)=true->DInv g l (L.set i.toNat (L.getD j.toNat z)) (i+1) (j+1))/\(g (L.getD j.toNat z)=false->DInv g l L i (j+1)):=by
 obtain ⟨i0,ij,jl,len,tk,dr⟩:=h
 have e:=DInv.get ⟨i0,ij,jl,len,tk,dr⟩ z
 have t1:l.take (j+1).toNat=l.take j.toNat++[l.getD j.toNat z]:=by rw [show (j+1).toNat=j.toNat+1 by omega];exact Z7T (by omega) z
 have d1:L.drop (j+1).toNat=l.drop (j+1).toNat:=by
  have:=congrArg (List.drop 1) dr
  rw [Kc,Kc] at this
  rw [show (j+1).toNat=j.toNat+1 by omega];exact this
 refine ⟨fun hg=> ⟨by omega,by omega,by omega,by rw [K7];exact len,?_,?_⟩,fun hg=> ⟨i0,by omega,by omega,len,?_,d1⟩⟩
 ·have hlt:i.toNat < L.length:=by omega
  rw [show (i+1).toNat=i.toNat+1 by omega,Z7T (by rw [K7];exact hlt) z,t1,Kf,<-tk,List.take_set_of_le (by omega)]
  rw [e] at hg
  rw [XE,if_pos hg,e]
  simp [Qm,hlt]
 ·rw [List.drop_set,if_pos (by omega)]
  exact d1
 ·rw [t1,Kf,<-tk]
  rw [e] at hg
  rw [XE,hg]
  simp
theorem DInv.fin{α:Type}{g:α->Bool}{l L:List α}{i j:Int}(h:DInv g l L i j)(hj:¬j < l.length)(r:List α):List.take i.toNat (List.take i.toNat L++r)=l.filter g:=by
 have h1:=h.ij;have h2:=h.jl;have h3:=h.len;have h4:=h.i0
 rw [K9 (by rw [Qk];omega),List.take_take,Nat.min_self,h.tk,Qv (by omega)]
theorem Zw7:Contract Try.prog cfg 173 Z6j:=by
 refine ZrU ZmG ZvX ?_
 intro l f _ hp
 simp only [Zez] at hp
 refine ZxH l f _ ?_
 (simp only [vcT,vcS])
 refine ⟨hp,fun h=> ?_,fun h=> ?_⟩
 ·have e:l.filter (fun w=> !decide (WEdit.mask w=0))=l:=by
   rcases Z2P (fun w:WEdit=> decide (WEdit.mask w=0)) l 0 with ⟨_,h2⟩ | ⟨h1,_⟩
   ·exact Ka.2 fun x hx=> by rw [h2 x hx];try rfl
   ·omega
  simp only [Zen,Za4,Za8,e]
  (repeat' (first | exact trivial | exact rfl | apply And.intro))
 ·have D:=DInv.one (f:=fun w:WEdit=> decide (WEdit.mask w=0)) (l:=l) rfl h
  have:=D.jl;have:=D.i0
  refine ⟨by unfold InR;omega,?_⟩
  refine Z9 (ι:=List WEdit × Int × Int) (fun s=> Z2T l f s.2.1 s.2.2 s.1) (fun s=> DInv (fun w:WEdit=> !decide (WEdit.mask w=0)) l s.1 s.2.1 s.2.2) (fun s=> ((l.length:Int) - s.2.2).toNat) (l,_,_) rfl D ?_
  rintro ⟨L,i,j⟩ D
  dsimp only at D
  have hl:=D.len;have h0:=D.i0;have h1:=D.ij;have h2:=D.jl
  refine Zn6 l f _ _ _ _ _ ?_
  intro y1 hy1 y2 hy2
  subst hy2
  (simp only [vcT,vcS])
  refine ⟨fun hj=> ?_,fun hj=> ?_⟩
  ·have hn:=D.next (by omega) ⟨0,0,0,0⟩
   rw [<-hy1] at hn
   refine ⟨⟨by omega,hj⟩,trivial,fun he=> ⟨⟨h0,by omega⟩,QY _,by unfold InR;omega,by unfold InR;omega,(_,i+1,j+1),rfl,hn.1 (by simpa using he),by dsimp only;omega⟩,fun he=> ⟨by unfold InR;omega,(L,i,j+1),rfl,hn.2 (by simpa using he),by dsimp only;omega⟩⟩
  ·refine ⟨⟨h0,by omega⟩,QY _,⟨h0,by simp only [Q6,Qk,X5];omega⟩,?_⟩
   rw [D.fin (by omega)]
   simp only [Zen,Za4,Za8]
   (repeat' (first | exact trivial | exact rfl | apply And.intro))
theorem Zw6:Contract Try.prog cfg 175 Z6i:=by
 refine ZrS ZmF ZpY ?_
 intro l f _ hp
 simp only [Zaf] at hp
 refine ZxF l f _ ?_
 (simp only [vcT,vcS])
 refine ⟨hp,fun h=> ?_,fun h=> ?_⟩
 ·have e:l.filter (fun k=> !decide (Edit.kind (KidOf.e k)=0))=l:=by
   rcases Z2P (fun k:Kid=> decide (Edit.kind (KidOf.e k)=0)) l 0 with ⟨_,h2⟩ | ⟨h1,_⟩
   ·exact Ka.2 fun x hx=> by rw [h2 x hx];try rfl
   ·omega
  simp only [Zem,Za3,Za7,e]
  (repeat' (first | exact trivial | exact rfl | apply And.intro))
 ·have D:=DInv.one (f:=fun k:Kid=> decide (Edit.kind (KidOf.e k)=0)) (l:=l) rfl h
  have:=D.jl;have:=D.i0
  refine ⟨by unfold InR;omega,?_⟩
  refine Z9 (ι:=List Kid × Int × Int) (fun s=> Z2S l f s.2.1 s.2.2 s.1) (fun s=> DInv (fun k:Kid=> !decide (Edit.kind (KidOf.e k)=0)) l s.1 s.2.1 s.2.2) (fun s=> ((l.length:Int) - s.2.2).toNat) (l,_,_) rfl D ?_
  rintro ⟨L,i,j⟩ D
  dsimp only at D
  have hl:=D.len;have h0:=D.i0;have h1:=D.ij;have h2:=D.jl
  refine Zn5 l f _ _ _ _ _ ?_
  intro y1 hy1 y2 hy2
  subst hy2
  (simp only [vcT,vcS])
  refine ⟨fun hj=> ?_,fun hj=> ?_⟩
  ·have hn:=D.next (by omega) ⟨0,Edit.nil⟩
   rw [<-hy1] at hn
   refine ⟨⟨by omega,hj⟩,trivial,fun he=> ⟨⟨h0,by omega⟩,QY _,by unfold InR;omega,by unfold InR;omega,(_,i+1,j+1),rfl,hn.1 (by simpa using he),by dsimp only;omega⟩,fun he=> ⟨by unfold InR;omega,(L,i,j+1),rfl,hn.2 (by simpa using he),by dsimp only;omega⟩⟩
  ·refine ⟨⟨h0,by omega⟩,QY _,⟨h0,by simp only [Q6,Qk,X5];omega⟩,?_⟩
   rw [D.fin (by omega)]
   simp only [Zem,Za3,Za7]
   (repeat' (first | exact trivial | exact rfl | apply And.intro))
theorem ZuJ{a b n m:Nat}(h1:a<=n)(h2:b<=m)(hn:n<=10000000000)(hm:m<=10000000000):InR ((a:Int)+(b:Int)):=by unfold InR;omega
theorem Zyf{a b:Nat}(h:(a:Int)+(b:Int)=0):a+b=0:=by omega
theorem Zye{a b:Nat}(h:¬(a:Int)+(b:Int)=0):¬a+b=0:=by omega
set_option maxHeartbeats 2000000 in
theorem Zwb:Contract Try.prog cfg 157 Z9V:=by
 refine ZrZ Zw7 Zw6 ?_
 intro ek eo eow eok en enw enk ew ec li eos _ hp
 simp only [Zbv] at hp
 refine ZxN _ _ _ _ _ _ _ _ _ _ _ _ ?_
 (simp only [vcT,vcS])
 refine ⟨by show ew.length<=_;omega,by show ec.length<=_;omega,ZuJ (K2 _ _) (K2 _ _) hp.1 hp.2,fun h=> ?_,fun h=> ?_⟩
 ·simp only [Zeq,Za6,Za9]
  rw [show Z2w (Edit.mk ek (Tree.mk eo eow eok) (Tree.mk en enw enk) ew ec li eos)=Edit.nil from if_pos (show (ew.filter fun w=> !decide (WEdit.mask w=0)).length+(ec.filter fun k=> !decide (Edit.kind (KidOf.e k)=0)).length=0 from Zyf h)]
  (repeat' (first | exact trivial | exact rfl | apply And.intro))
 ·simp only [Zeq,Za6,Za9]
  rw [show Z2w (Edit.mk ek (Tree.mk eo eow eok) (Tree.mk en enw enk) ew ec li eos)=Edit.mk ek (Tree.mk eo eow eok) (Tree.mk en enw enk) (ew.filter fun w=> !decide (WEdit.mask w=0)) (ec.filter fun k=> !decide (Edit.kind (KidOf.e k)=0)) li eos from if_neg (show ¬(ew.filter fun w=> !decide (WEdit.mask w=0)).length+(ec.filter fun k=> !decide (Edit.kind (KidOf.e k)=0)).length=0 from Zye h)]
  (repeat' (first | exact trivial | exact rfl | apply And.intro))
theorem Zw8:Contract Try.prog cfg 161 Z9S:=by
 refine ZrW Zw1 ?_
 intro list l _ hp
 simp only [Zbu] at hp
 refine ZxJ _ _ _ ⟨hp,fun h=> ?_,fun h=> ?_⟩
 ·simp only [QP] at h
  simp only [Zep,Z0K]
  rw [if_neg (by rw [h];decide)]
  (repeat' (first | exact trivial | exact rfl | apply And.intro))
 ·simp only [Kg] at h
  simp only [Zep,Z0K]
  rw [if_pos h]
  (repeat' (first | exact trivial | exact rfl | apply And.intro))
theorem Zwm:Contract Try.prog cfg 112 Za1:=by
 refine Zse c26 Z9N ?_
 intro mc ma e o n _ hp
 simp only [Z8f] at hp
 obtain ⟨he,ho,hn⟩:=hp
 refine Zy4 _ _ _ _ _ _ ?_
 intro y1 h1 y2 h2 y3 h3 y4 h4
 subst h1 h2 h3
 (simp only [vcT,vcS])
 have ed:doB y1 y3=(y4,(doE false y1 y3).isSome):=by rw [h4];try rfl
 refine ⟨⟨he,ho⟩,fun h=> ?_,fun h=> ⟨⟨?_,by show Zm y2<=_;omega⟩,fun h2=> ?_,fun h2=> ?_⟩⟩
 ·simp only [Zbn,Z6F,Z05,ed,h,XR,Xv,Qs,Xg]
  (repeat' (first | exact trivial | exact rfl | apply And.intro))
 ·show Zm y4<=_
  rw [h4]
  exact Zig he.2.2 ho.1
 ·simp only [Zbn,Z6F,Z05,ed,h,h2,QB,Xi,Xv,Qs,Xg]
  (repeat' (first | exact trivial | exact rfl | apply And.intro))
 ·simp only [Zbn,Z6F,Z05,ed,h,h2,QB,Xi,Qs]
  (repeat' (first | exact trivial | exact rfl | apply And.intro))
theorem Z76(l:List Tree):(Z2O l).length<=1:=by unfold Z2O;split <;> simp
theorem Zw9:Contract Try.prog cfg 159 Z9T:=by
 refine ZrX Zfm Zw5 Zw4 ?_
 intro sm_ sx sy si sh mc ma _ hp
 simp only [ZeJ] at hp
 obtain ⟨⟨h1,h2⟩,h3,h4⟩:=hp
 have k1:=Z4U si.length
 have k2:=Z4U sh.length
 have k3:=Z76 si
 have k4:=Z76 sh
 refine ZxL sm_ _ _ _ _ _ _ _ ?_
 (simp only [vcT,vcS])
 refine ⟨fun hb=> ⟨⟨by show Z6 si<=_;omega,by show Z6 sh<=_;omega⟩,fun he=> ?_,fun he=> ?_⟩,fun hb=> ?_⟩
 ·have e:Ja si sh=⟨J9 sh.length,J9 si.length,true,false⟩:=by
   rw [Ja,if_pos ⟨fun e=> by rw [e] at hb;simp at hb,fun e=> by rw [e] at hb;simp at hb⟩,Z62,he];try rfl
  refine ⟨trivial,by omega,trivial,by omega,?_⟩
  simp only [Z6B,e,Xg]
  (repeat' (first | exact trivial | exact rfl | apply And.intro))
 ·have e:Ja si sh=⟨J9 sh.length,J9 si.length,false,false⟩:=by
   rw [Ja,if_pos ⟨fun e=> by rw [e] at hb;simp at hb,fun e=> by rw [e] at hb;simp at hb⟩,Z62,he];try rfl
  refine ⟨trivial,by omega,trivial,by omega,?_⟩
  simp only [Z6B,e,Qs]
  (repeat' (first | exact trivial | exact rfl | apply And.intro))
 ·have e:Ja si sh=⟨Z2O si++J9 sh.length,J9 si.length++Z2O sh,false,false⟩:=by
   rw [Ja,if_neg]
   rintro ⟨a,b⟩
   have:=Xy.2 a
   have:=Xy.2 b
   omega
  refine ⟨trivial,by omega,trivial,by rw [Q6];omega,trivial,by omega,trivial,by rw [Q6];omega,?_⟩
  simp only [Z6B,e,Qs,<-Qd]
  (repeat' (first | exact trivial | exact rfl | apply And.intro))
end Go.AM.Ytpjenobkibfpcaa
