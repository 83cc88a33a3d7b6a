import Derived.Test.YtpjenobkibfpcaaCD30b
import Derived.Test.YtpjenobkibfpcaaCB30a
set_option linter.unusedSimpArgs false
set_option linter.unusedVariables false
namespace Go.AM.Ytpjenobkibfpcaa
open Go.AM Go.Proofs
noncomputable section
def ZjD:ArgL (WEdit × Unit):=(.cons (aEl .wedit) .nil)
def Zdz(a:WEdit × Unit):Prop:=True
def Zgy(a:WEdit × Unit):V U:= .c (.bool (decide (WEdit.mask a.1=0)))
def Z1y:Fs U:=fs ZjD (fun a=> [Zdz a]) Zgy
def ZjC:ArgL (Kid × Unit):=(.cons (aEl .kid) .nil)
def Zdx(a:Kid × Unit):Prop:=True
def Zgx(a:Kid × Unit):V U:= .c (.bool (decide (Edit.kind a.1.e=0)))
def Z1x:Fs U:=fs ZjC (fun a=> [Zdx a]) Zgx
def ZgI(a:Op × Unit):Prop:=True
def Zgv(a:Op × Unit):V U:= .c (.bool (!decide (OpOf.kind a.1=0)))
def Z5A:Fs U:=fs Zjw (fun a=> [ZgI a]) Zgv
def Zjv:ArgL (List WEdit × Unit × Unit):=(.cons (aSl .wedit) (.cons (aFn 174) .nil))
def Zds(a:List WEdit × Unit × Unit):Prop:=(a.1).length<=1000000000000
def Zdb(a:List WEdit × Unit × Unit):V U:= .c (ci (YC (fun w:WEdit=> decide (WEdit.mask w=0)) a.1 0))
def Z5x:Fs U:=fs Zjv (fun a=> [Zds a]) Zdb
def Zgd:ArgL (List Kid × Unit × Unit):=(.cons (aSl .kid) (.cons (aFn 176) .nil))
def Z9p(a:List Kid × Unit × Unit):Prop:=(a.1).length<=1000000000000
def Z9n(a:List Kid × Unit × Unit):V U:= .c (ci (YC (fun k:Kid=> decide (Edit.kind k.e=0)) a.1 0))
def Z3g:Fs U:=fs Zgd (fun a=> [Z9p a]) Z9n
def Zju:ArgL (List Op × Unit × Unit):=(.cons (aSl .op) (.cons (aFn 182) .nil))
def Zdr(a:List Op × Unit × Unit):Prop:=(a.1).length<=1000000000000
def Zda(a:List Op × Unit × Unit):V U:= .c (ci (YC (fun o:Op=> !decide (OpOf.kind o=0)) a.1 0))
def Z5w:Fs U:=fs Zju (fun a=> [Zdr a]) Zda
def Zgw(a:List Op × Unit × Unit):V U:= .c (.bool ((a.1).any fun o=> !decide (OpOf.kind o=0)))
def Z5B:Fs U:=fs Zju (fun a=> [Zdr a]) Zgw
def Zde(a:Int × Unit):V U:= .c (sU .op (Jx a.1) (.own (.r 0 0)))
def Z5D:Fs U:=fs ZjN (fun a=> [ZgK a]) Zde
def ZjI:ArgL (List WEdit × Unit):=(.cons (aSl .wedit) .nil)
def ZaF(a:List WEdit × Unit):Prop:=(a.1).length<=100000000000
def Z9l(a:List WEdit × Unit):List WEdit:=a.1
def Z99:Fs U:=fsL ZjI (fun a=> [ZaF a]) .wedit Z9l
def ZjG:ArgL (List Kid × Unit):=(.cons (aSl .kid) .nil)
def ZaD(a:List Kid × Unit):Prop:=(a.1).length<=100000000000
def Z9k(a:List Kid × Unit):List Kid:=a.1
def Z96:Fs U:=fsL ZjG (fun a=> [ZaD a]) .kid Z9k
def Z9z:ArgM (List WEdit × Unit × Unit):=(.lst (cWt .wedit (.e 0 0)) (.cons (aFn 174) .nil))
def Zdg(a:List WEdit × Unit × Unit):V U:= .c (sU .wedit ((a.1).filter fun w=> !decide (WEdit.mask w=0)) .unk)
def Z9e(a:List WEdit × Unit × Unit):List (List (C U)):=[]
def Z9i(a:List WEdit × Unit × Unit):List (Tok × LC U):=[]
def Z5F:Fs U:=(ZbG Z9z (fun a=> [Zds a]) Zdg Z9e Z9i).passing [0]
def Z9y:ArgM (List Kid × Unit × Unit):=(.lst (cWt .kid (.e 0 0)) (.cons (aFn 176) .nil))
def Zdf(a:List Kid × Unit × Unit):V U:= .c (sU .kid ((a.1).filter fun k=> !decide (Edit.kind k.e=0)) .unk)
def Z9d(a:List Kid × Unit × Unit):List (List (C U)):=[]
def Z9h(a:List Kid × Unit × Unit):List (Tok × LC U):=[]
def Z5E:Fs U:=(ZbG Z9y (fun a=> [Z9p a]) Zdf Z9d Z9h).passing [0]
def Z9A:ArgM ((Int × Int × List Int × List Tree × Int × List Int × List Tree × List WEdit × List Kid × Int × List Op × Unit) × Unit):=(.agg (.cons (Zed .i64) (.cons (Zed .i64) (.cons (cSl .u64) (.cons (cSl .tree) (.cons (Zed .i64) (.cons (cSl .u64) (.cons (cSl .tree) (.cons (cWt .wedit (.e 0 7)) (.cons (cWt .kid (.e 0 8)) (.cons (Zed .i64) (.cons (cSl .op) .nil))))))))))) .nil)
def ZaC(a:(Int × Int × List Int × List Tree × Int × List Int × List Tree × List WEdit × List Kid × Int × List Op × Unit) × Unit):Prop:=(a.1.2.2.2.2.2.2.2.1).length<=10000000000/\(a.1.2.2.2.2.2.2.2.2.1).length<=10000000000
def Zdj(a:(Int × Int × List Int × List Tree × Int × List Int × List Tree × List WEdit × List Kid × Int × List Op × Unit) × Unit):V U:= .agg (enc .edit (Z3i (Edit.mk a.1.1 (Tree.mk a.1.2.1 a.1.2.2.1 a.1.2.2.2.1) (Tree.mk a.1.2.2.2.2.1 a.1.2.2.2.2.2.1 a.1.2.2.2.2.2.2.1) a.1.2.2.2.2.2.2.2.1 a.1.2.2.2.2.2.2.2.2.1 a.1.2.2.2.2.2.2.2.2.2.1 a.1.2.2.2.2.2.2.2.2.2.2.1)))
def Z9g(a:(Int × Int × List Int × List Tree × Int × List Int × List Tree × List WEdit × List Kid × Int × List Op × Unit) × Unit):List (List (C U)):=[]
def Z9j(a:(Int × Int × List Int × List Tree × Int × List Int × List Tree × List WEdit × List Kid × Int × List Op × Unit) × Unit):List (Tok × LC U):=[]
def Z95:Fs U:=(ZbG Z9A (fun a=> [ZaC a]) Zdj Z9g Z9j).passing [0]
def ZaB(a:Int × List Op × Unit):Prop:=(a.2.1).length<=1000000000000
def Zdi(a:Int × List Op × Unit):V U:= .agg (enc .edit (Z1c a.1 a.2.1))
def Z92:Fs U:=fs Zef (fun a=> [ZaB a]) Zdi
def Zeq:ArgM ((Bool × Bool × Unit) × Edit × Tree × Tree × Unit):=(.obj 0 (.cons Z0E (.cons Z0E .nil)) (.cons (aEl .edit) (.cons (aEl .tree) (.cons (aEl .tree) .nil))))
def Z7q(a:(Bool × Bool × Unit) × Edit × Tree × Tree × Unit):Prop:=(Z5 a.2.1<=20000000000/\Yz a.2.1/\∃ d,Z6 a.2.1 d=true)/\(Zj a.2.2.1+ctE a.2.1<=200000000000/\rng a.2.2.1)/\Zj a.2.2.2.1<=100000000000
def Zau(a:(Bool × Bool × Unit) × Edit × Tree × Tree × Unit):V U:= .tup []
def Z5Z(a:(Bool × Bool × Unit) × Edit × Tree × Tree × Unit):List (List (C U)):=[[.bool (a.1.1 || (JO a.2.1 a.2.2.1 a.2.2.2.1).c),.bool (a.1.2.1 || (JO a.2.1 a.2.2.1 a.2.2.2.1).a)]]
def Z9b:Fs U:=fsX Zeq (fun a=> [Z7q a]) Zau Z5Z
def Zeo:ArgM ((Unit × List Op × List Op × List Tree × List Tree × Unit) × (Bool × Bool × Unit) × Unit):=(.obj 0 (.cons (cXp 1) (.cons (Z2s .op 0 1) (.cons (Z2s .op 0 2) (.cons (Z2s .tree 0 3) (.cons (Z2s .tree 0 4) .nil))))) (.hid (.cons Z0E (.cons Z0E .nil)) .nil))
def ZdC(a:(Unit × List Op × List Op × List Tree × List Tree × Unit) × (Bool × Bool × Unit) × Unit):Prop:=((a.1.2.1).length<=10000000000/\(a.1.2.2.1).length<=10000000000)/\Z4 a.1.2.2.2.1<=100000000000/\Z4 a.1.2.2.2.2.1<=100000000000
def Zmh(a:(Unit × List Op × List Op × List Tree × List Tree × Unit) × (Bool × Bool × Unit) × Unit):V U:= .tup []
def Z5V(a:(Unit × List Op × List Op × List Tree × List Tree × Unit) × (Bool × Bool × Unit) × Unit):List (List (C U)):=[[.xp 1,sU .op (a.1.2.1++(YX a.1.2.2.2.1 a.1.2.2.2.2.1).x) (.own (.x 0 1)),sU .op (a.1.2.2.1++(YX a.1.2.2.2.1 a.1.2.2.2.2.1).y) (.own (.x 0 2)),sU .tree ([]:List Tree) (.own (.x 0 3)),sU .tree ([]:List Tree) (.own (.x 0 4))],[.bool (a.2.1.1 || (YX a.1.2.2.2.1 a.1.2.2.2.2.1).c),.bool a.2.1.2.1]]
def Z93:Fs U:=fsX Zeo (fun a=> [ZdC a]) Zmh Z5V
abbrev Zxv(p:List Nat):=AW (Z2 Zhc) Try.f174 Ztv p
theorem Zvp(w:WEdit)(Q:QT)(h:(Q .ret (L2 [pB 2 (w.mask==0)] []))):
  Zxv [] (L2 [(0,.agg (enc .wedit w))] []) Q:=
 Eq.mpr (by kernel_rfl) h
def Zrc(w:WEdit):Prop:=AW (Z2 Zhc) Try.f174 Ztv [] (Zk (ZjD.can (w,())) []) (EQ Try.f174 (Zgy (w,())) [])
theorem ZpW(hb:∀ (w:WEdit) (_:Unit),Zdz (w,())->Zrc w):CT 174 Z1y:=
 Z3 (l:=[]) Zl rfl trivial Ztv Try.func174 rfl rfl 1 (fun _=> rfl) (by decide) (fun ⟨w,_⟩=> hb w ())
abbrev Zxu(p:List Nat):=AW (Z2 Zhc) Try.f176 Ztv p
theorem Zvn(k:Kid)(Q:QT)(h:(Q .ret (L2 [pB 2 (k.e.kind==0)] []))):
  Zxu [] (L2 [(0,.agg (enc .kid k))] []) Q:=
 Eq.mpr (by kernel_rfl) h
def Zra(k:Kid):Prop:=AW (Z2 Zhc) Try.f176 Ztv [] (Zk (ZjC.can (k,())) []) (EQ Try.f176 (Zgx (k,())) [])
theorem ZpU(hb:∀ (k:Kid) (_:Unit),Zdx (k,())->Zra k):CT 176 Z1x:=
 Z3 (l:=[]) Zl rfl trivial Ztv Try.func176 rfl rfl 1 (fun _=> rfl) (by decide) (fun ⟨k,_⟩=> hb k ())
abbrev Zxo(p:List Nat):=AW (Z2 Zhc) Try.f182 Ztv p
theorem Zvh(o:Op)(Q:QT)(h:(Q .ret (L2 [pB 2 (o.kind !=0)] []))):
  Zxo [] (L2 [(0,.agg (enc .op o))] []) Q:=
 Eq.mpr (by kernel_rfl) h
def Zr4(o:Op):Prop:=AW (Z2 Zhc) Try.f182 Ztv [] (Zk (Zjw.can (o,())) []) (EQ Try.f182 (Zgv (o,())) [])
theorem ZpO(hb:∀ (o:Op) (_:Unit),ZgI (o,())->Zr4 o):CT 182 Z5A:=
 Z3 (l:=[]) Zl rfl trivial Ztv Try.func182 rfl rfl 1 (fun _=> rfl) (by decide) (fun ⟨o,_⟩=> hb o ())
def ZdW:List (FuncId × Fs U):=[(174,Z1y)]
def ZiD:Ze U:=lvl [([0,1],[]),([0,1,7,8],[]),([0,1,7,8,9],[]),([0,1,5,7,8],[]),([0,1,5,7,8,16],[]),([4],[]),([0,1,7,8],[]),([4],[])]
def Z4m(l:List WEdit)(f:Unit)(x8:Int):LSt U:=(L2 [(0,.c (sU .wedit l .unk)),(1,.fn 174),pI 7 (l.length:Int),pI 8 x8] [])
abbrev Zv0(p:List Nat):=AW (Z2 ZdW) Try.f192 ZiD p
abbrev Zwx(p:List Nat):=SW (Z2 ZdW) Try.f192 ZiD p
theorem Zvc(l:List WEdit)(f:Unit)(Q:QT)(h:(Zm (Zv0 [1,0,1,0,0]) (Z4m l f 0) (xB 0 (Zwx [1,1] Q)))):
  Zv0 [] (L2 [(0,.c (sU .wedit l .unk)),(1,.fn 174)] []) Q:=
 Eq.mpr (by kernel_rfl) h
theorem Zly(l:List WEdit)(f:Unit)(x8:Int)(N0:NT)(Q:QT)(h:let z2:=decide (x8 < (l.length:Int));let z1:=l.getD x8.toNat (WEdit.mk 0 0 0 0);let z0:=WEdit.mk (WEdit.at_ z1) (WEdit.mask z1) (WEdit.old z1) (WEdit.new z1);((z2=true->(((0:Int)<=x8/\x8 < (l.length:Int))/\(Zdz (z0,()))/\(((decide (WEdit.mask z0=0))=true->(Q .ret (L2 [pI 4 x8] [])))/\((decide (WEdit.mask z0=0))=false->(InR (x8+1))/\(N0 (Z4m l f (x8+1)))))))/\(z2=false->(Q .ret (L2 [pI 4 (-1)] []))))):
  Zv0 [1,0,1,0,0] (Z4m l f x8) (xT N0 (xB 0 (Zwx [1,1] Q))):=
 Eq.mpr (by kernel_rfl) h
def ZqZ(l:List WEdit)(f:Unit):Prop:=AW (Z2 ZdW) Try.f192 ZiD [] (Zk (Zjv.can (l,f,())) []) (EQ Try.f192 (Zdb (l,f,())) [])
theorem ZpJ(Zlb:CT 174 Z1y)(hb:∀ (l:List WEdit) (f:Unit) (_:Unit),Zds (l,f,())->ZqZ l f):CT 192 Z5x:=
 Z3 (l:=[(174,Z1y)]) Zl rfl (⟨Zlb,trivial⟩) ZiD Try.func192 rfl rfl 2 (fun _=> rfl) (by decide) (fun ⟨l,f,_⟩=> hb l f ())
def Zbb:List (FuncId × Fs U):=[(176,Z1x)]
def Z2R(l:List Kid)(f:Unit)(x8:Int):LSt U:=(L2 [(0,.c (sU .kid l .unk)),(1,.fn 176),pI 7 (l.length:Int),pI 8 x8] [])
abbrev ZoO(p:List Nat):=AW (Z2 Zbb) Try.f72 ZiD p
abbrev Zsm(p:List Nat):=SW (Z2 Zbb) Try.f72 ZiD p
theorem Zsy(l:List Kid)(f:Unit)(Q:QT)(h:(Zm (ZoO [1,0,1,0,0]) (Z2R l f 0) (xB 0 (Zsm [1,1] Q)))):
  ZoO [] (L2 [(0,.c (sU .kid l .unk)),(1,.fn 176)] []) Q:=
 Eq.mpr (by kernel_rfl) h
theorem Zk6(l:List Kid)(f:Unit)(x8:Int)(N0:NT)(Q:QT)(h:∀ y_1,y_1=(l.getD x8.toNat (KidOf.mk 0 Edit.nil))->∀ y_2,y_2=y_1->let z1:=decide (Edit.kind y_2.e=0);let z0:=decide (x8 < (l.length:Int));((z0=true->(((0:Int)<=x8/\x8 < (l.length:Int))/\(Zdx (y_2,()))/\((z1=true->(Q .ret (L2 [pI 4 x8] [])))/\(z1=false->(InR (x8+1))/\(N0 (Z2R l f (x8+1)))))))/\(z0=false->(Q .ret (L2 [pI 4 (-1)] []))))):
  ZoO [1,0,1,0,0] (Z2R l f x8) (xT N0 (xB 0 (Zsm [1,1] Q))):=
 Eq.mpr (by kernel_rfl) (h _ rfl _ (Zf7 _))
def ZoN(l:List Kid)(f:Unit):Prop:=AW (Z2 Zbb) Try.f72 ZiD [] (Zk (Zgd.can (l,f,())) []) (EQ Try.f72 (Z9n (l,f,())) [])
theorem Zn6(Zla:CT 176 Z1x)(hb:∀ (l:List Kid) (f:Unit) (_:Unit),Z9p (l,f,())->ZoN l f):CT 72 Z3g:=
 Z3 (l:=[(176,Z1x)]) Zl rfl (⟨Zla,trivial⟩) ZiD Try.func72 rfl rfl 2 (fun _=> rfl) (by decide) (fun ⟨l,f,_⟩=> hb l f ())
def ZdV:List (FuncId × Fs U):=[(182,Z5A)]
def Z4l(l:List Op)(f:Unit)(x8:Int):LSt U:=(L2 [(0,.c (sU .op l .unk)),(1,.fn 182),pI 7 (l.length:Int),pI 8 x8] [])
abbrev ZuZ(p:List Nat):=AW (Z2 ZdV) Try.f193 ZiD p
abbrev Zww(p:List Nat):=SW (Z2 ZdV) Try.f193 ZiD p
theorem Zvb(l:List Op)(f:Unit)(Q:QT)(h:(Zm (ZuZ [1,0,1,0,0]) (Z4l l f 0) (xB 0 (Zww [1,1] Q)))):
  ZuZ [] (L2 [(0,.c (sU .op l .unk)),(1,.fn 182)] []) Q:=
 Eq.mpr (by kernel_rfl) h
theorem Zlx(l:List Op)(f:Unit)(x8:Int)(N0:NT)(Q:QT)(h:∀ y_1,y_1=(l.getD x8.toNat Op.nil)->∀ y_2,y_2=y_1->let z0:=decide (x8 < (l.length:Int));((z0=true->(((0:Int)<=x8/\x8 < (l.length:Int))/\(ZgI (y_2,()))/\(((!decide (OpOf.kind y_2=0))=true->(Q .ret (L2 [pI 4 x8] [])))/\((!decide (OpOf.kind y_2=0))=false->(InR (x8+1))/\(N0 (Z4l l f (x8+1)))))))/\(z0=false->(Q .ret (L2 [pI 4 (-1)] []))))):
  ZuZ [1,0,1,0,0] (Z4l l f x8) (xT N0 (xB 0 (Zww [1,1] Q))):=
 Eq.mpr (by kernel_rfl) (h _ rfl _ (Yk _))
def ZqY(l:List Op)(f:Unit):Prop:=AW (Z2 ZdV) Try.f193 ZiD [] (Zk (Zju.can (l,f,())) []) (EQ Try.f193 (Zda (l,f,())) [])
theorem ZpI(ZtQ:CT 182 Z5A)(hb:∀ (l:List Op) (f:Unit) (_:Unit),Zdr (l,f,())->ZqY l f):CT 193 Z5w:=
 Z3 (l:=[(182,Z5A)]) Zl rfl (⟨ZtQ,trivial⟩) ZiD Try.func193 rfl rfl 2 (fun _=> rfl) (by decide) (fun ⟨l,f,_⟩=> hb l f ())
def ZiU:List (FuncId × Fs U):=[(193,Z5w)]
abbrev Zxp(p:List Nat):=AW (Z2 ZiU) Try.f181 Ztu p
theorem Zvi(l:List Op)(f:Unit)(Q:QT)(h:((Zdr (l,(),()))/\(Q .ret (L2 [(4,.c (.bool (decide ((0:Int)<=(YC (fun o:Op=> !decide (OpOf.kind o=0)) l 0)))))] [])))):
  Zxp [] (L2 [(0,.c (sU .op l .unk)),(1,.fn 182)] []) Q:=
 Eq.mpr (by kernel_rfl) h
def Zr5(l:List Op)(f:Unit):Prop:=AW (Z2 ZiU) Try.f181 Ztu [] (Zk (Zju.can (l,f,())) []) (EQ Try.f181 (Zgw (l,f,())) [])
theorem ZpP(ZtM:CT 193 Z5w)(hb:∀ (l:List Op) (f:Unit) (_:Unit),Zdr (l,f,())->Zr5 l f):CT 181 Z5B:=
 Z3 (l:=[(193,Z5w)]) Zl rfl (⟨ZtM,trivial⟩) Ztu Try.func181 rfl rfl 2 (fun _=> rfl) (by decide) (fun ⟨l,f,_⟩=> hb l f ())
abbrev Zxt(p:List Nat):=AW (Z2 Zhc) Try.f177 ZnA p
theorem Zvm(n:Int)(Q:QT)(h:(((n==0)=true->(Q .ret (L2 [(2,.c (.nils))] [])))/\((n==0)=false->(Q .ret (L2 [(2,.c (sU .op ([(OpOf.mk 0 n [] (Edit.mk 0 (Tree.mk 0 [] []) (Tree.mk 0 [] []) [] [] 0 []))]) .full))] []))))):
  Zxt [] (L2 [pI 0 n] []) Q:=
 Eq.mpr (by kernel_rfl) h
def Zr9(n:Int):Prop:=AW (Z2 Zhc) Try.f177 ZnA [] (Zk (ZjN.can (n,())) []) (EQ Try.f177 (Zde (n,())) [])
theorem ZpT(hb:∀ (n:Int) (_:Unit),ZgK (n,())->Zr9 n):CT 177 Z5D:=
 Z3 (l:=[]) Zl rfl trivial ZnA Try.func177 rfl rfl 1 (fun _=> rfl) (by decide) (fun ⟨n,_⟩=> hb n ())
def Zns:Ze U:=fun i=> match i with
 | 0=> ([(0,[])],[])
 | 1=> ([(0,[]),(4,[])],[])
 | 2=> ([(2,[.wr .wedit])],[])
 | 3=> ([(2,[.wr .wedit])],[])
 | _=> ([],[])
abbrev ZxE(p:List Nat):=AW (Z1o Zhc) Try.f153 Zns p
theorem ZvA(l:List WEdit)(Q:QT)(h:(((l=[])->(Q .ret (⟨[(2,.c (.mref (.e 2 0)))],[],[(.e 2 0,LC.mk (U:=U) .wedit [] 0)]⟩:LSt U)))/\(True->((([]:List WEdit).length+l.length)*32<=140737488355328)/\(Q .ret (⟨[(2,.c (.mref (.e 2 0)))],[],[(.e 2 0,LC.mk (U:=U) .wedit (([]:List WEdit)++l) (([]:List WEdit).length))]⟩:LSt U))))):
  ZxE [] (L2 [(0,.c (sU .wedit l .unk))] []) Q:=
 Eq.mpr (by kernel_rfl) h
def Zrn(l:List WEdit):Prop:=AW (Z1o Zhc) Try.f153 Zns [] (Zk (ZjI.can (l,())) []) (JG cfg Try.f153.ntmps Try.f153.results.toList (.c (.mref (.r 0 0))) [] [(.r 0 0,LC.mk (U:=U) .wedit (Z9l (l,())) 0)])
theorem Zq6(hb:∀ (l:List WEdit) (_:Unit),ZaF (l,())->Zrn l):CT 153 Z99:=
 JZ (l:=[]) Zl rfl trivial Zns Try.func153 rfl rfl 1 (fun _=> rfl) (by decide) (fun ⟨l,_⟩=> hb l ())
def Znp:Ze U:=fun i=> match i with
 | 0=> ([(0,[])],[])
 | 1=> ([(0,[]),(4,[])],[])
 | 2=> ([(2,[.wr .kid])],[])
 | 3=> ([(2,[.wr .kid])],[])
 | _=> ([],[])
abbrev ZxB(p:List Nat):=AW (Z1o Zhc) Try.f156 Znp p
theorem Zvx(l:List Kid)(Q:QT)(h:(((l=[])->(Q .ret (⟨[(2,.c (.mref (.e 2 0)))],[],[(.e 2 0,LC.mk (U:=U) .kid [] 0)]⟩:LSt U)))/\(True->((([]:List Kid).length+l.length)*208<=140737488355328)/\(Q .ret (⟨[(2,.c (.mref (.e 2 0)))],[],[(.e 2 0,LC.mk (U:=U) .kid (([]:List Kid)++l) (([]:List Kid).length))]⟩:LSt U))))):
  ZxB [] (L2 [(0,.c (sU .kid l .unk))] []) Q:=
 Eq.mpr (by kernel_rfl) h
def Zrk(l:List Kid):Prop:=AW (Z1o Zhc) Try.f156 Znp [] (Zk (ZjG.can (l,())) []) (JG cfg Try.f156.ntmps Try.f156.results.toList (.c (.mref (.r 0 0))) [] [(.r 0 0,LC.mk (U:=U) .kid (Z9k (l,())) 0)])
theorem Zq3(hb:∀ (l:List Kid) (_:Unit),ZaD (l,())->Zrk l):CT 156 Z96:=
 JZ (l:=[]) Zl rfl trivial Znp Try.func156 rfl rfl 1 (fun _=> rfl) (by decide) (fun ⟨l,_⟩=> hb l ())
def ZdY:List (FuncId × Fs U):=[(174,Z1y),(192,Z5x.lend)]
def ZiF:Ze U:=fun i=> match i with
 | 0=> ([(0,[.wr .wedit]),(1,[])],[])
 | 1=> ([(0,[.wr .wedit]),(1,[]),(5,[])],[])
 | 2=> ([(0,[.wr .wedit]),(1,[]),(5,[]),(12,[])],[])
 | 3=> ([(4,[])],[])
 | 4=> ([(0,[.wr .wedit]),(1,[]),(5,[]),(6,[])],[])
 | 5=> ([(0,[.wr .wedit]),(1,[]),(5,[]),(6,[]),(19,[])],[])
 | 6=> ([(0,[.wr .wedit]),(1,[]),(5,[]),(6,[])],[])
 | 7=> ([(0,[.wr .wedit]),(1,[]),(5,[]),(6,[]),(7,[])],[(.loc 7,[])])
 | 8=> ([(0,[.wr .wedit]),(1,[]),(5,[]),(6,[]),(7,[]),(29,[])],[(.loc 7,[])])
 | 9=> ([(0,[.wr .wedit]),(1,[]),(5,[]),(6,[])],[])
 | 10=> ([(0,[.wr .wedit]),(1,[]),(5,[]),(6,[])],[])
 | 11=> ([(0,[.wr .wedit]),(5,[])],[])
 | 12=> ([(4,[])],[])
 | _=> ([],[])
def Z2n(l:List WEdit)(f:Unit)(x5 x6:Int)(re_0_0:List WEdit):LSt U:=(⟨[(0,.c (.mref (.e 0 0))),(1,.fn 174),pI 5 x5,pI 6 x6],[],[(.e 0 0,LC.mk (U:=U) .wedit re_0_0 0)]⟩:LSt U)
abbrev Zv2(p:List Nat):=AW (Z2 ZdY) Try.f173 ZiF p
abbrev Zwz(p:List Nat):=SW (Z2 ZdY) Try.f173 ZiF p
theorem Zvq(l:List WEdit)(f:Unit)(Q:QT)(h:((Zds (l,(),()))/\(((((YC (fun w:WEdit=> decide (WEdit.mask w=0)) l 0):Int)==(-1))=true->(Q .ret (L2 [(4,.c (sU .wedit l (.own (.e 4 0))))] [])))/\((((YC (fun w:WEdit=> decide (WEdit.mask w=0)) l 0):Int)==(-1))=false->(InR (((YC (fun w:WEdit=> decide (WEdit.mask w=0)) l 0):Int)+1))/\(Zm (Zv2 [1,1,1,0,1,0,0]) (Z2n l f (YC (fun w:WEdit=> decide (WEdit.mask w=0)) l 0) (((YC (fun w:WEdit=> decide (WEdit.mask w=0)) l 0):Int)+1) l) (xB 0 (Zwz [1,1,1,1] Q))))))):
  Zv2 [] (⟨[(0,.c (.mref (.e 0 0))),(1,.fn 174)],[],[(.e 0 0,LC.mk (U:=U) .wedit l 0)]⟩:LSt U) Q:=
 Eq.mpr (by kernel_rfl) h
theorem ZlA(l:List WEdit)(f:Unit)(x5 x6:Int)(re_0_0:List WEdit)(N0:NT)(Q:QT)(h:∀ y_1,y_1=(re_0_0.getD x6.toNat (WEdit.mk 0 0 0 0))->∀ y_2,y_2=y_1->let z1:= !(decide (WEdit.mask y_2=0));let z0:=decide (x6 < (re_0_0.length:Int));((z0=true->((0:Int)<=x6/\x6 < (re_0_0.length:Int))/\((Zdz (y_2,()))/\((z1=true->((0:Int)<=x5/\x5 < (re_0_0.length:Int))/\((0:Nat)<=x5.toNat)/\((InR (x5+1))/\((InR (x6+1))/\(N0 (Z2n l f (x5+1) (x6+1) (List.set re_0_0 x5.toNat y_2))))))/\(z1=false->(InR (x6+1))/\(N0 (Z2n l f x5 (x6+1) re_0_0))))))/\(z0=false->((0:Int)<=x5/\x5<=(re_0_0.length:Int))/\((0:Nat)<=x5.toNat)/\(((0:Int)<=x5/\x5<=((List.take x5.toNat re_0_0++List.replicate (re_0_0.length - Int.toNat x5) (WEdit.mk 0 0 0 0)).length:Int))/\(Q .ret (L2 [(4,.c (sU .wedit (List.take x5.toNat (List.take x5.toNat re_0_0++List.replicate (re_0_0.length - Int.toNat x5) (WEdit.mk 0 0 0 0))) .unk))] [])))))):
  Zv2 [1,1,1,0,1,0,0] (Z2n l f x5 x6 re_0_0) (xT N0 (xB 0 (Zwz [1,1,1,1] Q))):=
 Eq.mpr (by kernel_rfl) (h _ rfl _ (Z1f _))
def Zrd(l:List WEdit)(f:Unit):Prop:=AW (Z2 ZdY) Try.f173 ZiF [] (Jh (Z9z.can (l,f,())) (Z9z.canX (l,f,())) (Z9z.canL (l,f,()))) (JG cfg Try.f173.ntmps Try.f173.results.toList (Zdg (l,f,())) (Z9e (l,f,())) (Z9i (l,f,())))
theorem ZpX(Zlb:CT 174 Z1y)(ZtN:CT 192 Z5x)(hb:∀ (l:List WEdit) (f:Unit) (_:Unit),Zds (l,f,())->Zrd l f):CT 173 Z5F:=
 Contract.passing <| Yb (l:=[(174,Z1y),(192,Z5x.lend)]) Zl rfl (⟨Zlb,ZtN.lend,trivial⟩) ZiF Try.func173 rfl rfl 2 (fun _=> rfl) (by decide) (fun ⟨l,f,_⟩=> hb l f ())
def ZdX:List (FuncId × Fs U):=[(176,Z1x),(72,Z3g.lend)]
def ZiE:Ze U:=fun i=> match i with
 | 0=> ([(0,[.wr .kid]),(1,[])],[])
 | 1=> ([(0,[.wr .kid]),(1,[]),(5,[])],[])
 | 2=> ([(0,[.wr .kid]),(1,[]),(5,[]),(12,[])],[])
 | 3=> ([(4,[])],[])
 | 4=> ([(0,[.wr .kid]),(1,[]),(5,[]),(6,[])],[])
 | 5=> ([(0,[.wr .kid]),(1,[]),(5,[]),(6,[]),(19,[])],[])
 | 6=> ([(0,[.wr .kid]),(1,[]),(5,[]),(6,[])],[])
 | 7=> ([(0,[.wr .kid]),(1,[]),(5,[]),(6,[]),(7,[])],[(.loc 7,[])])
 | 8=> ([(0,[.wr .kid]),(1,[]),(5,[]),(6,[]),(7,[]),(29,[])],[(.loc 7,[])])
 | 9=> ([(0,[.wr .kid]),(1,[]),(5,[]),(6,[])],[])
 | 10=> ([(0,[.wr .kid]),(1,[]),(5,[]),(6,[])],[])
 | 11=> ([(0,[.wr .kid]),(5,[])],[])
 | 12=> ([(4,[])],[])
 | _=> ([],[])
def Z2m(l:List Kid)(f:Unit)(x5 x6:Int)(re_0_0:List Kid):LSt U:=(⟨[(0,.c (.mref (.e 0 0))),(1,.fn 176),pI 5 x5,pI 6 x6],[],[(.e 0 0,LC.mk (U:=U) .kid re_0_0 0)]⟩:LSt U)
abbrev Zv1(p:List Nat):=AW (Z2 ZdX) Try.f175 ZiE p
abbrev Zwy(p:List Nat):=SW (Z2 ZdX) Try.f175 ZiE p
theorem Zvo(l:List Kid)(f:Unit)(Q:QT)(h:((Z9p (l,(),()))/\(((((YC (fun k:Kid=> decide (Edit.kind k.e=0)) l 0):Int)==(-1))=true->(Q .ret (L2 [(4,.c (sU .kid l (.own (.e 4 0))))] [])))/\((((YC (fun k:Kid=> decide (Edit.kind k.e=0)) l 0):Int)==(-1))=false->(InR (((YC (fun k:Kid=> decide (Edit.kind k.e=0)) l 0):Int)+1))/\(Zm (Zv1 [1,1,1,0,1,0,0]) (Z2m l f (YC (fun k:Kid=> decide (Edit.kind k.e=0)) l 0) (((YC (fun k:Kid=> decide (Edit.kind k.e=0)) l 0):Int)+1) l) (xB 0 (Zwy [1,1,1,1] Q))))))):
  Zv1 [] (⟨[(0,.c (.mref (.e 0 0))),(1,.fn 176)],[],[(.e 0 0,LC.mk (U:=U) .kid l 0)]⟩:LSt U) Q:=
 Eq.mpr (by kernel_rfl) h
theorem Zlz(l:List Kid)(f:Unit)(x5 x6:Int)(re_0_0:List Kid)(N0:NT)(Q:QT)(h:∀ y_1,y_1=(re_0_0.getD x6.toNat (KidOf.mk 0 Edit.nil))->∀ y_2,y_2=y_1->let z1:= !(decide (Edit.kind y_2.e=0));let z0:=decide (x6 < (re_0_0.length:Int));((z0=true->((0:Int)<=x6/\x6 < (re_0_0.length:Int))/\((Zdx (y_2,()))/\((z1=true->((0:Int)<=x5/\x5 < (re_0_0.length:Int))/\((0:Nat)<=x5.toNat)/\((InR (x5+1))/\((InR (x6+1))/\(N0 (Z2m l f (x5+1) (x6+1) (List.set re_0_0 x5.toNat y_2))))))/\(z1=false->(InR (x6+1))/\(N0 (Z2m l f x5 (x6+1) re_0_0))))))/\(z0=false->((0:Int)<=x5/\x5<=(re_0_0.length:Int))/\((0:Nat)<=x5.toNat)/\(((0:Int)<=x5/\x5<=((List.take x5.toNat re_0_0++List.replicate (re_0_0.length - Int.toNat x5) (KidOf.mk 0 Edit.nil)).length:Int))/\(Q .ret (L2 [(4,.c (sU .kid (List.take x5.toNat (List.take x5.toNat re_0_0++List.replicate (re_0_0.length - Int.toNat x5) (KidOf.mk 0 Edit.nil))) .unk))] [])))))):
  Zv1 [1,1,1,0,1,0,0] (Z2m l f x5 x6 re_0_0) (xT N0 (xB 0 (Zwy [1,1,1,1] Q))):=
 Eq.mpr (by kernel_rfl) (h _ rfl _ (Zf7 _))
def Zrb(l:List Kid)(f:Unit):Prop:=AW (Z2 ZdX) Try.f175 ZiE [] (Jh (Z9y.can (l,f,())) (Z9y.canX (l,f,())) (Z9y.canL (l,f,()))) (JG cfg Try.f175.ntmps Try.f175.results.toList (Zdf (l,f,())) (Z9d (l,f,())) (Z9h (l,f,())))
theorem ZpV(Zla:CT 176 Z1x)(Zoi:CT 72 Z3g)(hb:∀ (l:List Kid) (f:Unit) (_:Unit),Z9p (l,f,())->Zrb l f):CT 175 Z5E:=
 Contract.passing <| Yb (l:=[(176,Z1x),(72,Z3g.lend)]) Zl rfl (⟨Zla,Zoi.lend,trivial⟩) ZiE Try.func175 rfl rfl 2 (fun _=> rfl) (by decide) (fun ⟨l,f,_⟩=> hb l f ())
def Zj6:List (FuncId × Fs U):=[(173,Z5F),(175,Z5E)]
def Zno:Ze U:=fun i=> match i with
 | 0=> ([(1,[]),(2,[])],[(.loc 1,[.any,.any,.any,.any,.any,.any,.any,.wr .wedit,.wr .kid]),(.loc 2,[])])
 | 1=> ([(1,[]),(2,[])],[(.loc 1,[.any,.any,.any,.any,.any,.any,.any,.any,.wr .kid]),(.loc 2,[])])
 | 2=> ([(1,[]),(2,[])],[(.loc 1,[]),(.loc 2,[])])
 | 3=> ([(1,[]),(2,[]),(18,[])],[(.loc 1,[]),(.loc 2,[])])
 | 4=> ([(2,[])],[(.loc 2,[])])
 | 5=> ([(2,[])],[(.loc 2,[])])
 | _=> ([],[])
abbrev ZxA(p:List Nat):=AW (Z2 Zj6) Try.f157 Zno p
set_option maxHeartbeats 2000000 in
theorem Zvw(ek eo:Int)(eow:List Int)(eok:List Tree)(en:Int)(enw:List Int)(enk:List Tree)(ew:List WEdit)(ec:List Kid)(li:Int)(eos:List Op)(Q:QT)(h:((Zds (ew,(),()))/\((Z9p (ec,(),()))/\((InR ((((ew.filter fun w=> !decide (WEdit.mask w=0)).length:Int):Int)+((ec.filter fun k=> !decide (Edit.kind k.e=0)).length:Int)))/\((((((((ew.filter fun w=> !decide (WEdit.mask w=0)).length:Int):Int)+((ec.filter fun k=> !decide (Edit.kind k.e=0)).length:Int)):Int)==0)=true->(Q .ret (L2 [pL 2] [(.loc 2,zc1)])))/\(((((((ew.filter fun w=> !decide (WEdit.mask w=0)).length:Int):Int)+((ec.filter fun k=> !decide (Edit.kind k.e=0)).length:Int)):Int)==0)=false->(Q .ret (L2 [pL 2] [(.loc 2,[ci ek,ci eo,sU .u64 eow .unk,sU .tree eok .unk,ci en,sU .u64 enw .unk,sU .tree enk .unk,sU .wedit (ew.filter fun w=> !decide (WEdit.mask w=0)) .unk,sU .kid (ec.filter fun k=> !decide (Edit.kind k.e=0)) .unk,ci li,sU .op eos .unk])])))))))):
  ZxA [] (⟨[(0,.agg [ci ek,ci eo,sU .u64 eow .unk,sU .tree eok .unk,ci en,sU .u64 enw .unk,sU .tree enk .unk,.mref (.e 0 7),.mref (.e 0 8),ci li,sU .op eos .unk])],[],[(.e 0 7,LC.mk (U:=U) .wedit ew 0),(.e 0 8,LC.mk (U:=U) .kid ec 0)]⟩:LSt U) Q:=
 Eq.mpr (by kernel_rfl) h
def Zrj(ek eo:Int)(eow:List Int)(eok:List Tree)(en:Int)(enw:List Int)(enk:List Tree)(ew:List WEdit)(ec:List Kid)(li:Int)(eos:List Op):Prop:=AW (Z2 Zj6) Try.f157 Zno [] (Jh (Z9A.can ((ek,eo,eow,eok,en,enw,enk,ew,ec,li,eos,()),())) (Z9A.canX ((ek,eo,eow,eok,en,enw,enk,ew,ec,li,eos,()),())) (Z9A.canL ((ek,eo,eow,eok,en,enw,enk,ew,ec,li,eos,()),()))) (JG cfg Try.f157.ntmps Try.f157.results.toList (Zdj ((ek,eo,eow,eok,en,enw,enk,ew,ec,li,eos,()),())) (Z9g ((ek,eo,eow,eok,en,enw,enk,ew,ec,li,eos,()),())) (Z9j ((ek,eo,eow,eok,en,enw,enk,ew,ec,li,eos,()),())))
set_option maxHeartbeats 2000000 in
theorem Zq2(ZtX:CT 173 Z5F)(ZtW:CT 175 Z5E)(hb:∀ (ek:Int) (eo:Int) (eow:List Int) (eok:List Tree) (en:Int) (enw:List Int) (enk:List Tree) (ew:List WEdit) (ec:List Kid) (li:Int) (eos:List Op) (_:Unit),ZaC ((ek,eo,eow,eok,en,enw,enk,ew,ec,li,eos,()),())->Zrj ek eo eow eok en enw enk ew ec li eos):CT 157 Z95:=
 Contract.passing <| Yb (l:=[(173,Z5F),(175,Z5E)]) Zl rfl (⟨ZtX,ZtW,trivial⟩) Zno Try.func157 rfl rfl 1 (fun _=> rfl) (by decide) (fun ⟨⟨ek,eo,eow,eok,en,enw,enk,ew,ec,li,eos,_⟩,_⟩=> hb ek eo eow eok en enw enk ew ec li eos ())
def Zj2:List (FuncId × Fs U):=[(181,Z5B)]
def Znk:Ze U:=lvl [([0,1,4],[4]),([0,1,4,7],[4]),([4],[4]),([4],[4])]
abbrev Zxw(p:List Nat):=AW (Z2 Zj2) Try.f161 Znk p
theorem Zvs(list:Int)(l:List Op)(Q:QT)(h:((Zdr (l,(),()))/\(((!(l.any fun o=> !decide (OpOf.kind o=0)))=true->(Q .ret (L2 [pL 4] [(.loc 4,zc1)])))/\((!(l.any fun o=> !decide (OpOf.kind o=0)))=false->(Q .ret (L2 [pL 4] [(.loc 4,[ci 3,ci 0,.nils,.nils,ci 0,.nils,.nils,.nils,.nils,ci list,sU .op l .unk])])))))):
  Zxw [] (L2 [pI 0 list,(1,.c (sU .op l .unk))] []) Q:=
 Eq.mpr (by kernel_rfl) h
def Zrf(list:Int)(l:List Op):Prop:=AW (Z2 Zj2) Try.f161 Znk [] (Zk (Zef.can (list,l,())) []) (EQ Try.f161 (Zdi (list,l,())) [])
theorem ZpZ(ZtR:CT 181 Z5B)(hb:∀ (list:Int) (l:List Op) (_:Unit),ZaB (list,l,())->Zrf list l):CT 161 Z92:=
 Z3 (l:=[(181,Z5B)]) Zl rfl (⟨ZtR,trivial⟩) Znk Try.func161 rfl rfl 2 (fun _=> rfl) (by decide) (fun ⟨list,l,_⟩=> hb list l ())
def Zjh:List (FuncId × Fs U):=[(26,Z3e),(106,YV)]
def Znz:Ze U:=fun i=> match i with
 | 0=> ([(0,[]),(5,[]),(6,[]),(7,[])],[(.loc 5,[]),(.loc 6,[]),(.loc 7,[]),(.x 0,[])])
 | 1=> ([(0,[]),(7,[]),(8,[]),(9,[])],[(.loc 7,[]),(.loc 8,[]),(.x 0,[])])
 | 2=> ([(0,[]),(7,[]),(8,[]),(16,[])],[(.loc 7,[]),(.loc 8,[]),(.x 0,[])])
 | 3=> ([],[(.x 0,[])])
 | 4=> ([(0,[]),(22,[])],[(.x 0,[])])
 | 5=> ([],[(.x 0,[])])
 | _=> ([],[])
abbrev ZxJ(p:List Nat):=AW (Z2 Zjh) Try.f112 Znz p
theorem ZvM(mc ma:Bool)(e:Edit)(o n:Tree)(Q:QT)(h:∀ y_1,y_1=e->∀ y_2,y_2=n->∀ y_3,y_3=o->∀ y_4,y_4=(Z32 ((doE false y_1 y_3).map Z7))->let z1:= !((doE false y_1 y_3).isSome);let z0:= !(Y3 (Z7 y_4) (Z7 y_2));((Z27 (y_1,y_3,()))/\((z1=true->(Q .normal (L2 [] [(.x 0,[.bool mc,.bool true])])))/\(z1=false->(Z0y (y_4,y_2,()))/\((z0=true->(Q .normal (L2 [] [(.x 0,[.bool true,.bool ma])])))/\(z0=false->Q .normal (L2 [(0,.ptr (.x 0) 0),pB 22 z0] [(.x 0,[.bool mc,.bool ma])]))))))):
  ZxJ [] (L2 [(0,.ptr (.x 0) 0),(1,.agg (enc .edit e)),(2,.agg (enc .tree o)),(3,.agg (enc .tree n))] [(.x 0,[.bool mc,.bool ma])]) Q:=
 Eq.mpr (by kernel_rfl) (h _ (Z8 _) _ (Zd _) _ (Zd _) _ (Zd _))
def Zrz(mc ma:Bool)(e:Edit)(o n:Tree):Prop:=AW (Z2 Zjh) Try.f112 Znz [] (Zk (Zeq.can ((mc,ma,()),e,o,n,())) (Zeq.canX ((mc,ma,()),e,o,n,()))) (EQ Try.f112 (Zau ((mc,ma,()),e,o,n,())) (Z5Z ((mc,ma,()),e,o,n,())))
theorem Zqg(c26:CT 26 Z3e)(Z8X:CT 106 YV)(hb:∀ (mc:Bool) (ma:Bool) (e:Edit) (o:Tree) (n:Tree) (_:Unit),Z7q ((mc,ma,()),e,o,n,())->Zrz mc ma e o n):CT 112 Z9b:=
 Y5 (l:=[(26,Z3e),(106,YV)]) Zl rfl (⟨c26,Z8X,trivial⟩) Znz Try.func112 rfl rfl 4 (fun _=> rfl) (by decide) (fun ⟨⟨mc,ma,_⟩,e,o,n,_⟩=> hb mc ma e o n ())
def Zj4:List (FuncId × Fs U):=[(151,JP),(177,Z5D),(178,Z5C)]
def Znm:Ze U:=fun i=> match i with
 | 0=> ([(0,[])],[(.x 0,[]),(.x 1,[])])
 | 1=> ([(0,[])],[(.x 0,[]),(.x 1,[])])
 | 2=> ([(0,[]),(42,[])],[(.x 0,[]),(.x 1,[])])
 | 3=> ([(0,[]),(66,[])],[(.x 0,[]),(.x 1,[])])
 | 4=> ([(0,[])],[(.x 0,[]),(.x 1,[])])
 | 5=> ([(0,[])],[(.x 0,[]),(.x 1,[])])
 | 6=> ([],[(.x 0,[]),(.x 1,[])])
 | _=> ([],[])
abbrev Zxy(p:List Nat):=AW (Z2 Zj4) Try.f159 Znm p
theorem Zvu(sm_:Unit)(sx sy:List Op)(si sh:List Tree)(mc ma:Bool)(Q:QT)(h:let z6:= !(eqX (Z9 si) (Z9 sh));let z5:=ZgK ((si.length:Int),());let z4:=ZgK ((sh.length:Int),());let z2:=Jx (sh.length:Int);let z1:=Jx (si.length:Int);let z0:=decide ((0:Int) < (si.length:Int));let z3:=bif z0 then (decide ((0:Int) < (sh.length:Int))) else false;(Tr (z0=true))/\(Tr (z0=true))/\(Tr (z0=true))/\(Tr (z0=true))/\(Tr (z0=true))/\(Tr (z0=true))/\((z3=true->(Z57 (si,sh,(),()))/\((z6=true->(z4/\((sx.length+z2.length)*240<=140737488355328)/\z5/\((sy.length+z1.length)*240<=140737488355328)/\(Q .normal (L2 [] [(.x 0,[.xp 1,sU .op (sx++z2) (.own (.x 0 1)),sU .op (sy++z1) (.own (.x 0 2)),.nils,.nils]),(.x 1,[.bool true,.bool ma])]))))/\(z6=false->z4/\((sx.length+z2.length)*240<=140737488355328)/\z5/\((sy.length+z1.length)*240<=140737488355328)/\(Q .normal (L2 [] [(.x 0,[.xp 1,sU .op (sx++z2) (.own (.x 0 1)),sU .op (sy++z1) (.own (.x 0 2)),.nils,.nils]),(.x 1,[.bool mc,.bool ma])])))))/\(z3=false->(Zdv (si,()))/\((sx.length+(Z36 si).length)*240<=140737488355328)/\z4/\(((sx++(Z36 si)).length+z2.length)*240<=140737488355328)/\(z5/\((sy.length+z1.length)*240<=140737488355328)/\(Zdv (sh,()))/\(((sy++z1).length+(Z36 sh).length)*240<=140737488355328)/\(Q .normal (L2 [] [(.x 0,[.xp 1,sU .op ((sx++(Z36 si))++z2) (.own (.x 0 1)),sU .op ((sy++z1)++(Z36 sh)) (.own (.x 0 2)),.nils,.nils]),(.x 1,[.bool mc,.bool ma])])))))):
  Zxy [] (L2 [(0,.ptr (.x 0) 0)] [(.x 0,[.xp 1,sU .op sx (.own (.x 0 1)),sU .op sy (.own (.x 0 2)),sU .tree si (.own (.x 0 3)),sU .tree sh (.own (.x 0 4))]),(.x 1,[.bool mc,.bool ma])]) Q:=
 Eq.mpr (by kernel_rfl) h
def Zrh(sm_:Unit)(sx sy:List Op)(si sh:List Tree)(mc ma:Bool):Prop:=AW (Z2 Zj4) Try.f159 Znm [] (Zk (Zeo.can ((sm_,sx,sy,si,sh,()),(mc,ma,()),())) (Zeo.canX ((sm_,sx,sy,si,sh,()),(mc,ma,()),()))) (EQ Try.f159 (Zmh ((sm_,sx,sy,si,sh,()),(mc,ma,()),())) (Z5V ((sm_,sx,sy,si,sh,()),(mc,ma,()),())))
theorem Zq0(Zee:CT 151 JP)(ZtV:CT 177 Z5D)(ZtU:CT 178 Z5C)(hb:∀ (sm_:Unit) (sx:List Op) (sy:List Op) (si:List Tree) (sh:List Tree) (mc:Bool) (ma:Bool) (_:Unit),ZdC ((sm_,sx,sy,si,sh,()),(mc,ma,()),())->Zrh sm_ sx sy si sh mc ma):CT 159 Z93:=
 Y5 (l:=[(151,JP),(177,Z5D),(178,Z5C)]) Zl rfl (⟨Zee,ZtV,ZtU,trivial⟩) Znm Try.func159 rfl rfl 1 (fun _=> rfl) (by decide) (fun ⟨⟨sm_,sx,sy,si,sh,_⟩,⟨mc,ma,_⟩,_⟩=> hb sm_ sx sy si sh mc ma ())
end
noncomputable section
def Zbu:ArgM ((Bool × Bool × Unit) × Edit × Edit × Unit):=(.obj 0 (.cons Z0E (.cons Z0E .nil)) (.cons (aEl .edit) (.cons (aEl .edit) .nil)))
def Zay(a:(Bool × Bool × Unit) × Edit × Edit × Unit):Prop:=JR a.2.1/\JR a.2.2.1
def ZmX(a:(Bool × Bool × Unit) × Edit × Edit × Unit):Nat:=8*(Z5 a.2.1+Z5 a.2.2.1)+1
def Zf2(a:(Bool × Bool × Unit) × Edit × Edit × Unit):V U:= .tup [(true,(enc .edit ((lbE a.2.1 a.2.2.1).x))),(true,(enc .edit ((lbE a.2.1 a.2.2.1).y)))]
def Zao(a:(Bool × Bool × Unit) × Edit × Edit × Unit):List (List (C U)):=[[.bool (a.1.1 || (lbE a.2.1 a.2.2.1).c),.bool (a.1.2.1 || (lbE a.2.1 a.2.2.1).a)]]
def Z78:Fs U:=fsX Zbu (fun a=> [Zay a]) Zf2 Zao
def ZaJ(a:(Bool × Bool × Unit) × Edit × Edit × Unit):Prop:=JR a.2.1/\JR a.2.2.1/\Edit.kind a.2.1=2/\Edit.kind a.2.2.1=2
def Zix(a:(Bool × Bool × Unit) × Edit × Edit × Unit):Nat:=8*(Z5 a.2.1+Z5 a.2.2.1)
def Zat(a:(Bool × Bool × Unit) × Edit × Edit × Unit):V U:= .tup [(true,(enc .edit ((Z3b lbE a.2.1 a.2.2.1).x))),(true,(enc .edit ((Z3b lbE a.2.1 a.2.2.1).y)))]
def Z5Y(a:(Bool × Bool × Unit) × Edit × Edit × Unit):List (List (C U)):=[[.bool (a.1.1 || (Z3b lbE a.2.1 a.2.2.1).c),.bool (a.1.2.1 || (Z3b lbE a.2.1 a.2.2.1).a)]]
def ZhT:Fs U:=fsX Zbu (fun a=> [ZaJ a]) Zat Z5Y
def ZaI(a:(Bool × Bool × Unit) × Edit × Edit × Unit):Prop:=JR a.2.1/\JR a.2.2.1/\Edit.kind a.2.1=3/\Edit.kind a.2.2.1=3
def Zas(a:(Bool × Bool × Unit) × Edit × Edit × Unit):V U:= .tup [(true,(enc .edit ((Z35 lbE a.2.1 a.2.2.1).x))),(true,(enc .edit ((Z35 lbE a.2.1 a.2.2.1).y)))]
def Z5X(a:(Bool × Bool × Unit) × Edit × Edit × Unit):List (List (C U)):=[[.bool (a.1.1 || (Z35 lbE a.2.1 a.2.2.1).c),.bool (a.1.2.1 || (Z35 lbE a.2.1 a.2.2.1).a)]]
def ZhS:Fs U:=fsX Zbu (fun a=> [ZaI a]) Zas Z5X
def Z71:ArgM ((Unit × List Op × List Op × List Tree × List Tree × Unit) × Op × Op × (Bool × Bool × Unit) × Unit):=(.obj 0 (.cons (cXp 1) (.cons (Z2s .op 0 1) (.cons (Z2s .op 0 2) (.cons (Z2s .tree 0 3) (.cons (Z2s .tree 0 4) .nil))))) (.cons (aEl .op) (.cons (aEl .op) (.hid (.cons Z0E (.cons Z0E .nil)) .nil))))
def Z7m(a:(Unit × List Op × List Op × List Tree × List Tree × Unit) × Op × Op × (Bool × Bool × Unit) × Unit):Prop:=(ZcY a.2.1/\ZcY a.2.2.1/\Z1 a.2.1=Z1 a.2.2.1/\OpOf.kind a.2.1≠2/\OpOf.kind a.2.2.1≠2)/\((a.1.2.1).length<=10000000000/\(a.1.2.2.1).length<=10000000000)
def Ziv(a:(Unit × List Op × List Op × List Tree × List Tree × Unit) × Op × Op × (Bool × Bool × Unit) × Unit):Nat:=8*(Zs a.2.1+Zs a.2.2.1)+2
def Zaq(a:(Unit × List Op × List Op × List Tree × List Tree × Unit) × Op × Op × (Bool × Bool × Unit) × Unit):V U:= .tup []
def Z5U(a:(Unit × List Op × List Op × List Tree × List Tree × Unit) × Op × Op × (Bool × Bool × Unit) × Unit):List (List (C U)):=[[.xp 1,sU .op (a.1.2.1++(Zz lbE a.2.1 a.2.2.1).x) (.own (.x 0 1)),sU .op (a.1.2.2.1++(Zz lbE a.2.1 a.2.2.1).y) (.own (.x 0 2)),sU .tree a.1.2.2.2.1 (.own (.x 0 3)),sU .tree a.1.2.2.2.2.1 (.own (.x 0 4))],[.bool (a.2.2.2.1.1 || (Zz lbE a.2.1 a.2.2.1).c),.bool (a.2.2.2.1.2.1 || (Zz lbE a.2.1 a.2.2.1).a)]]
def ZhR:Fs U:=fsX Z71 (fun a=> [Z7m a]) Zaq Z5U
def Z1T(N:Nat):List (FuncId × Fs U):=(77,fsX Zbu (fun a=> [Zay a,ZmX a < N]) Zf2 Zao) ::(114,fsX Zbu (fun a=> [ZaJ a,Zix a < N]) Zat Z5Y) ::(115,fsX Zbu (fun a=> [ZaI a,Zix a < N]) Zas Z5X) ::(160,fsX Z71 (fun a=> [Z7m a,Ziv a < N]) Zaq Z5U) ::[(106,YV),(112,Z9b),(113,Z9a),(151,JP),(153,Z99),(154,Z98),(155,Z97),(156,Z96),(157,Z95),(158,Z94),(159,Z93),(161,Z92),(179,Z91),(180,Z90)]
def Ztr:Ze U:=fun i=> match i with
 | 0=> ([(0,[]),(4,[]),(5,[]),(6,[]),(7,[])],[(.loc 4,[]),(.loc 5,[]),(.loc 6,[]),(.loc 7,[]),(.x 0,[])])
 | 1=> ([(0,[]),(4,[]),(5,[]),(6,[]),(7,[]),(8,[])],[(.loc 4,[]),(.loc 5,[]),(.loc 6,[]),(.loc 7,[]),(.x 0,[])])
 | 2=> ([(6,[]),(7,[])],[(.loc 6,[]),(.loc 7,[]),(.x 0,[])])
 | 3=> ([(0,[]),(4,[]),(5,[]),(6,[]),(7,[]),(19,[])],[(.loc 4,[]),(.loc 5,[]),(.loc 6,[]),(.loc 7,[]),(.x 0,[])])
 | 4=> ([(6,[]),(7,[])],[(.loc 6,[]),(.loc 7,[]),(.x 0,[])])
 | 5=> ([(6,[]),(7,[])],[(.loc 6,[]),(.loc 7,[]),(.x 0,[])])
 | 6=> ([(0,[]),(4,[]),(5,[]),(6,[]),(7,[]),(33,[])],[(.loc 4,[]),(.loc 5,[]),(.loc 6,[]),(.loc 7,[]),(.x 0,[])])
 | 7=> ([(6,[]),(7,[])],[(.loc 6,[]),(.loc 7,[]),(.x 0,[])])
 | 8=> ([(6,[]),(7,[])],[(.loc 6,[]),(.loc 7,[]),(.x 0,[])])
 | 9=> ([(0,[]),(4,[]),(5,[]),(6,[]),(7,[]),(47,[])],[(.loc 4,[]),(.loc 5,[]),(.loc 6,[]),(.loc 7,[]),(.x 0,[])])
 | 10=> ([(6,[]),(7,[])],[(.loc 6,[]),(.loc 7,[]),(.x 0,[])])
 | 11=> ([(6,[]),(7,[])],[(.loc 6,[]),(.loc 7,[]),(.x 0,[])])
 | 12=> ([(0,[]),(4,[]),(5,[]),(6,[]),(7,[]),(66,[])],[(.loc 4,[]),(.loc 5,[]),(.loc 6,[]),(.loc 7,[]),(.x 0,[])])
 | 13=> ([(6,[]),(7,[])],[(.loc 6,[]),(.loc 7,[]),(.x 0,[])])
 | 14=> ([(6,[]),(7,[])],[(.loc 6,[]),(.loc 7,[]),(.x 0,[])])
 | _=> ([],[])
abbrev A77(N:Nat)(p:List Nat):=AW (Z2 (Z1T N)) Try.f77 Ztr p
theorem ZwQ(N:Nat)(mc ma:Bool)(p q:Edit)(Q:QT)(h:∀ y_1,y_1=p->∀ y_2,y_2=q->∀ y_3,y_3=(p.new)->∀ y_4,y_4=(q.new)->∀ y_5,y_5=(p.old)->∀ y_6,y_6=(q.old)->let z4:=Z35 lbE y_1 y_2;let z3:=Z3b lbE y_1 y_2;let z2:=bif (p.kind==0) then true else (q.kind==0);let z1:=enc .edit Edit.nil;let z0:=p.kind !=q.kind;let z5:=bif z0 then true else (p.list !=q.list);((Tr ((!(p.kind==0))=true))/\(Tr ((!(p.kind==0))=true))/\((p.kind==0)=false->(!(p.kind==0))=true)/\((z2=true->(Q .ret (L2 [pL 6,pL 7] [(.loc 6,(enc .edit p)),(.loc 7,(enc .edit q)),(.x 0,[.bool mc,.bool ma])])))/\(z2=false->(((p.kind==1)=true->(Z7q ((mc,ma,()),y_2,y_5,y_3,()))/\((Z7p ())/\(Q .ret (L2 [pL 6,pL 7] [(.loc 6,z1),(.loc 7,z1),(.x 0,[.bool (mc || (JO y_2 y_5 y_3).c),.bool (ma || (JO y_2 y_5 y_3).a)])]))))/\((p.kind==1)=false->(((q.kind==1)=true->(Z7q ((mc,ma,()),y_1,y_6,y_4,()))/\((Z7p ())/\(Q .ret (L2 [pL 6,pL 7] [(.loc 6,z1),(.loc 7,z1),(.x 0,[.bool (mc || (JO y_1 y_6 y_4).c),.bool (ma || (JO y_1 y_6 y_4).a)])]))))/\((q.kind==1)=false->(Tr ((!z0)=true))/\(Tr ((!z0)=true))/\(Tr ((!z0)=true))/\(Tr ((!z0)=true))/\(z0=false->(!z0)=true)/\((z5=true->((Z7p ())/\(Q .ret (L2 [pL 6,pL 7] [(.loc 6,z1),(.loc 7,z1),(.x 0,[.bool mc,.bool true])]))))/\(z5=false->(((p.kind==2)=true->(ZaJ ((mc,ma,()),y_1,y_2,()))/\(Zix ((mc,ma,()),y_1,y_2,()) < N)/\(Q .ret (L2 [pL 6,pL 7] [(.loc 6,(enc .edit (z3.x))),(.loc 7,(enc .edit (z3.y))),(.x 0,[.bool (mc || z3.c),.bool (ma || z3.a)])])))/\((p.kind==2)=false->(ZaI ((mc,ma,()),y_1,y_2,()))/\(Zix ((mc,ma,()),y_1,y_2,()) < N)/\(Q .ret (L2 [pL 6,pL 7] [(.loc 6,(enc .edit (z4.x))),(.loc 7,(enc .edit (z4.y))),(.x 0,[.bool (mc || z4.c),.bool (ma || z4.a)])])))))))))))))):
  A77 N [] (L2 [(0,.ptr (.x 0) 0),(1,.agg (enc .edit p)),(2,.agg (enc .edit q))] [(.x 0,[.bool mc,.bool ma])]) Q:=
 Eq.mpr (by kernel_rfl) (h _ (Z8 _) _ (Z8 _) _ (Zd _) _ (Zd _) _ (Zd _) _ (Zd _))
def ZuA(N:Nat)(mc ma:Bool)(p q:Edit):Prop:=AW (Z2 (Z1T N)) Try.f77 Ztr [] (Zk (Zbu.can ((mc,ma,()),p,q,())) (Zbu.canX ((mc,ma,()),p,q,()))) (EQ Try.f77 (Zf2 ((mc,ma,()),p,q,())) (Zao ((mc,ma,()),p,q,())))
abbrev ZwE:Prop:=∀ (N:Nat) (mc:Bool) (ma:Bool) (p:Edit) (q:Edit) (_:Unit),Zay ((mc,ma,()),p,q,())->ZmX ((mc,ma,()),p,q,()) < N+1->ZuA N mc ma p q
def Ze1(N:Nat):List (FuncId × Fs U):=Z1T N
def ZiI:Ze U:=fun i=> match i with
 | 0=> ([(0,[]),(4,[]),(5,[]),(6,[]),(7,[])],[(.loc 4,[]),(.loc 5,[]),(.loc 6,[]),(.loc 7,[]),(.x 0,[])])
 | 1=> ([(0,[]),(4,[]),(5,[]),(6,[]),(7,[]),(8,[]),(9,[])],[(.loc 4,[]),(.loc 5,[]),(.loc 6,[]),(.loc 7,[]),(.loc 8,[]),(.loc 9,[]),(.x 0,[])])
 | 2=> ([(0,[]),(4,[]),(5,[]),(6,[]),(7,[]),(8,[]),(9,[])],[(.loc 4,[]),(.loc 5,[]),(.loc 6,[]),(.loc 7,[]),(.loc 8,[.any,.any,.any,.any,.any,.any,.any,.wr .wedit]),(.loc 9,[.any,.any,.any,.any,.any,.any,.any,.wr .wedit]),(.x 0,[])])
 | 3=> ([(0,[]),(4,[]),(5,[]),(6,[]),(7,[]),(8,[]),(9,[]),(29,[]),(30,[]),(31,[])],[(.loc 4,[]),(.loc 5,[]),(.loc 6,[]),(.loc 7,[]),(.loc 8,[.any,.any,.any,.any,.any,.any,.any,.wr .wedit]),(.loc 9,[.any,.any,.any,.any,.any,.any,.any,.wr .wedit]),(.x 0,[])])
 | 4=> ([(0,[]),(4,[]),(5,[]),(6,[]),(7,[]),(8,[]),(9,[]),(29,[]),(30,[]),(31,[]),(32,[])],[(.loc 4,[]),(.loc 5,[]),(.loc 6,[]),(.loc 7,[]),(.loc 8,[.any,.any,.any,.any,.any,.any,.any,.wr .wedit]),(.loc 9,[.any,.any,.any,.any,.any,.any,.any,.wr .wedit]),(.x 0,[])])
 | 5=> ([(0,[]),(4,[]),(5,[]),(6,[]),(7,[]),(8,[]),(9,[]),(10,[]),(11,[]),(29,[]),(30,[]),(31,[])],[(.loc 4,[]),(.loc 5,[]),(.loc 6,[]),(.loc 7,[]),(.loc 8,[.any,.any,.any,.any,.any,.any,.any,.wr .wedit]),(.loc 9,[.any,.any,.any,.any,.any,.any,.any,.wr .wedit]),(.loc 11,[]),(.x 0,[])])
 | 6=> ([(0,[]),(4,[]),(5,[]),(6,[]),(7,[]),(8,[]),(9,[]),(10,[]),(11,[]),(29,[]),(30,[]),(31,[]),(37,[]),(38,[]),(39,[])],[(.loc 4,[]),(.loc 5,[]),(.loc 6,[]),(.loc 7,[]),(.loc 8,[.any,.any,.any,.any,.any,.any,.any,.wr .wedit]),(.loc 9,[.any,.any,.any,.any,.any,.any,.any,.wr .wedit]),(.loc 11,[]),(.x 0,[])])
 | 7=> ([(0,[]),(4,[]),(5,[]),(6,[]),(7,[]),(8,[]),(9,[]),(10,[]),(11,[]),(29,[]),(30,[]),(31,[]),(37,[]),(38,[]),(39,[]),(40,[])],[(.loc 4,[]),(.loc 5,[]),(.loc 6,[]),(.loc 7,[]),(.loc 8,[.any,.any,.any,.any,.any,.any,.any,.wr .wedit]),(.loc 9,[.any,.any,.any,.any,.any,.any,.any,.wr .wedit]),(.loc 11,[]),(.x 0,[])])
 | 8=> ([(0,[]),(4,[]),(5,[]),(6,[]),(7,[]),(8,[]),(9,[]),(10,[]),(11,[]),(12,[]),(13,[]),(29,[]),(30,[]),(31,[]),(37,[]),(38,[]),(39,[])],[(.loc 4,[]),(.loc 5,[]),(.loc 6,[]),(.loc 7,[]),(.loc 8,[.any,.any,.any,.any,.any,.any,.any,.wr .wedit]),(.loc 9,[.any,.any,.any,.any,.any,.any,.any,.wr .wedit]),(.loc 11,[]),(.loc 13,[]),(.x 0,[])])
 | 9=> ([(0,[]),(4,[]),(5,[]),(6,[]),(7,[]),(8,[]),(9,[]),(10,[]),(11,[]),(12,[]),(13,[]),(29,[]),(30,[]),(31,[]),(37,[]),(38,[]),(39,[]),(48,[])],[(.loc 4,[]),(.loc 5,[]),(.loc 6,[]),(.loc 7,[]),(.loc 8,[.any,.any,.any,.any,.any,.any,.any,.wr .wedit]),(.loc 9,[.any,.any,.any,.any,.any,.any,.any,.wr .wedit]),(.loc 11,[]),(.loc 13,[]),(.x 0,[])])
 | 10=> ([(0,[]),(4,[]),(5,[]),(6,[]),(7,[]),(8,[]),(9,[]),(10,[]),(11,[]),(12,[]),(13,[]),(29,[]),(30,[]),(31,[]),(37,[]),(38,[]),(39,[])],[(.loc 4,[]),(.loc 5,[]),(.loc 6,[]),(.loc 7,[]),(.loc 8,[.any,.any,.any,.any,.any,.any,.any,.wr .wedit]),(.loc 9,[.any,.any,.any,.any,.any,.any,.any,.wr .wedit]),(.loc 11,[]),(.loc 13,[]),(.x 0,[])])
 | 11=> ([(0,[]),(4,[]),(5,[]),(6,[]),(7,[]),(8,[]),(9,[]),(10,[]),(11,[]),(12,[]),(13,[]),(29,[]),(30,[]),(31,[]),(37,[]),(38,[]),(39,[])],[(.loc 4,[]),(.loc 5,[]),(.loc 6,[]),(.loc 7,[]),(.loc 8,[.any,.any,.any,.any,.any,.any,.any,.wr .wedit]),(.loc 9,[.any,.any,.any,.any,.any,.any,.any,.wr .wedit]),(.loc 11,[]),(.loc 13,[]),(.x 0,[])])
 | 12=> ([(0,[]),(4,[]),(5,[]),(6,[]),(7,[]),(8,[]),(9,[]),(10,[]),(11,[]),(12,[]),(13,[]),(29,[]),(30,[]),(31,[]),(37,[]),(38,[]),(39,[]),(48,[])],[(.loc 4,[]),(.loc 5,[]),(.loc 6,[]),(.loc 7,[]),(.loc 8,[.any,.any,.any,.any,.any,.any,.any,.wr .wedit]),(.loc 9,[.any,.any,.any,.any,.any,.any,.any,.wr .wedit]),(.loc 11,[]),(.loc 13,[]),(.x 0,[])])
 | 13=> ([(0,[]),(4,[]),(5,[]),(6,[]),(7,[]),(8,[]),(9,[]),(10,[]),(11,[]),(29,[]),(30,[]),(31,[]),(37,[]),(38,[]),(39,[])],[(.loc 4,[]),(.loc 5,[]),(.loc 6,[]),(.loc 7,[]),(.loc 8,[.any,.any,.any,.any,.any,.any,.any,.wr .wedit]),(.loc 9,[.any,.any,.any,.any,.any,.any,.any,.wr .wedit]),(.loc 11,[]),(.x 0,[])])
 | 14=> ([(0,[]),(4,[]),(5,[]),(6,[]),(7,[]),(8,[]),(9,[]),(29,[]),(30,[]),(31,[])],[(.loc 4,[]),(.loc 5,[]),(.loc 6,[]),(.loc 7,[]),(.loc 8,[.any,.any,.any,.any,.any,.any,.any,.wr .wedit]),(.loc 9,[.any,.any,.any,.any,.any,.any,.any,.wr .wedit]),(.x 0,[])])
 | 15=> ([(0,[]),(4,[]),(5,[]),(6,[]),(7,[]),(8,[]),(9,[])],[(.loc 4,[]),(.loc 5,[]),(.loc 6,[]),(.loc 7,[]),(.loc 8,[.any,.any,.any,.any,.any,.any,.any,.wr .wedit,.wr .kid]),(.loc 9,[.any,.any,.any,.any,.any,.any,.any,.wr .wedit,.wr .kid]),(.x 0,[])])
 | 16=> ([(0,[]),(5,[]),(6,[]),(7,[]),(8,[]),(9,[]),(88,[]),(89,[]),(90,[])],[(.loc 5,[]),(.loc 6,[]),(.loc 7,[]),(.loc 8,[.any,.any,.any,.any,.any,.any,.any,.wr .wedit,.wr .kid]),(.loc 9,[.any,.any,.any,.any,.any,.any,.any,.wr .wedit,.wr .kid]),(.x 0,[])])
 | 17=> ([(0,[]),(5,[]),(6,[]),(7,[]),(8,[]),(9,[]),(88,[]),(89,[]),(90,[]),(91,[])],[(.loc 5,[]),(.loc 6,[]),(.loc 7,[]),(.loc 8,[.any,.any,.any,.any,.any,.any,.any,.wr .wedit,.wr .kid]),(.loc 9,[.any,.any,.any,.any,.any,.any,.any,.wr .wedit,.wr .kid]),(.x 0,[])])
 | 18=> ([(0,[]),(5,[]),(6,[]),(7,[]),(8,[]),(9,[]),(14,[]),(15,[]),(88,[]),(89,[]),(90,[])],[(.loc 5,[]),(.loc 6,[]),(.loc 7,[]),(.loc 8,[.any,.any,.any,.any,.any,.any,.any,.wr .wedit,.wr .kid]),(.loc 9,[.any,.any,.any,.any,.any,.any,.any,.wr .wedit,.wr .kid]),(.loc 15,[]),(.x 0,[])])
 | 19=> ([(0,[]),(5,[]),(6,[]),(7,[]),(8,[]),(9,[]),(14,[]),(15,[]),(88,[]),(89,[]),(90,[]),(96,[]),(97,[]),(98,[])],[(.loc 5,[]),(.loc 6,[]),(.loc 7,[]),(.loc 8,[.any,.any,.any,.any,.any,.any,.any,.wr .wedit,.wr .kid]),(.loc 9,[.any,.any,.any,.any,.any,.any,.any,.wr .wedit,.wr .kid]),(.loc 15,[]),(.x 0,[])])
 | 20=> ([(0,[]),(5,[]),(6,[]),(7,[]),(8,[]),(9,[]),(14,[]),(15,[]),(88,[]),(89,[]),(90,[]),(96,[]),(97,[]),(98,[]),(99,[])],[(.loc 5,[]),(.loc 6,[]),(.loc 7,[]),(.loc 8,[.any,.any,.any,.any,.any,.any,.any,.wr .wedit,.wr .kid]),(.loc 9,[.any,.any,.any,.any,.any,.any,.any,.wr .wedit,.wr .kid]),(.loc 15,[]),(.x 0,[])])
 | 21=> ([(0,[]),(5,[]),(6,[]),(7,[]),(8,[]),(9,[]),(14,[]),(15,[]),(16,[]),(17,[]),(88,[]),(89,[]),(90,[]),(96,[]),(97,[]),(98,[])],[(.loc 5,[]),(.loc 6,[]),(.loc 7,[]),(.loc 8,[.any,.any,.any,.any,.any,.any,.any,.wr .wedit,.wr .kid]),(.loc 9,[.any,.any,.any,.any,.any,.any,.any,.wr .wedit,.wr .kid]),(.loc 15,[]),(.loc 17,[]),(.x 0,[])])
 | 22=> ([(0,[]),(5,[]),(6,[]),(7,[]),(8,[]),(9,[]),(14,[]),(15,[]),(16,[]),(17,[]),(88,[]),(89,[]),(90,[]),(96,[]),(97,[]),(98,[]),(107,[])],[(.loc 5,[]),(.loc 6,[]),(.loc 7,[]),(.loc 8,[.any,.any,.any,.any,.any,.any,.any,.wr .wedit,.wr .kid]),(.loc 9,[.any,.any,.any,.any,.any,.any,.any,.wr .wedit,.wr .kid]),(.loc 15,[]),(.loc 17,[]),(.x 0,[])])
 | 23=> ([(0,[]),(5,[]),(6,[]),(7,[]),(8,[]),(9,[]),(14,[]),(15,[]),(16,[]),(17,[]),(88,[]),(89,[]),(90,[]),(96,[]),(97,[]),(98,[]),(107,[])],[(.loc 5,[]),(.loc 6,[]),(.loc 7,[]),(.loc 8,[.any,.any,.any,.any,.any,.any,.any,.wr .wedit,.wr .kid]),(.loc 9,[.any,.any,.any,.any,.any,.any,.any,.wr .wedit,.wr .kid]),(.loc 15,[]),(.loc 17,[]),(.x 0,[])])
 | 24=> ([(0,[]),(5,[]),(6,[]),(7,[]),(8,[]),(9,[]),(14,[]),(15,[]),(88,[]),(89,[]),(90,[]),(96,[]),(97,[]),(98,[])],[(.loc 5,[]),(.loc 6,[]),(.loc 7,[]),(.loc 8,[.any,.any,.any,.any,.any,.any,.any,.wr .wedit,.wr .kid]),(.loc 9,[.any,.any,.any,.any,.any,.any,.any,.wr .wedit,.wr .kid]),(.loc 15,[]),(.x 0,[])])
 | 25=> ([(0,[]),(5,[]),(6,[]),(7,[]),(8,[]),(9,[]),(88,[]),(89,[]),(90,[])],[(.loc 5,[]),(.loc 6,[]),(.loc 7,[]),(.loc 8,[.any,.any,.any,.any,.any,.any,.any,.wr .wedit,.wr .kid]),(.loc 9,[.any,.any,.any,.any,.any,.any,.any,.wr .wedit,.wr .kid]),(.x 0,[])])
 | 26=> ([(6,[]),(7,[])],[(.loc 6,[]),(.loc 7,[]),(.x 0,[])])
 | _=> ([],[])
def Z4s(mc ma:Bool)(p q:Edit)(x31:Int)(mx0_0 mx0_1:Bool)(rl_8_7 rl_9_7:List WEdit):LSt U:=(⟨[(0,.ptr (.x 0) 0),pL 4,pL 5,pL 6,pL 7,pL 8,pL 9,(29,.c (sU .wedit p.words .unk)),pI 30 (p.words.length:Int),pI 31 x31],[(.loc 4,(enc .edit p)),(.loc 5,(enc .edit q)),(.loc 6,zc1),(.loc 7,zc1),(.loc 8,[ci 2,ci 0,.nils,.nils,ci 0,.nils,.nils,.mref (.l 8 7),.nils,ci 0,.nils]),(.loc 9,[ci 2,ci 0,.nils,.nils,ci 0,.nils,.nils,.mref (.l 9 7),.nils,ci 0,.nils]),(.x 0,[.bool mx0_0,.bool mx0_1])],[(.l 8 7,LC.mk (U:=U) .wedit rl_8_7 0),(.l 9 7,LC.mk (U:=U) .wedit rl_9_7 0)]⟩:LSt U)
def Z4r(mc ma:Bool)(p q:Edit)(x31 x39_a:Int)(mx0_0_a mx0_1_a:Bool)(rl_8_7_a rl_9_7_a:List WEdit):LSt U:=(⟨[(0,.ptr (.x 0) 0),pL 4,pL 5,pL 6,pL 7,pL 8,pL 9,pI 10 x31,pL 11,(29,.c (sU .wedit p.words .unk)),pI 30 (p.words.length:Int),pI 31 x31,(37,.c (sU .wedit q.words .unk)),pI 38 (q.words.length:Int),pI 39 x39_a],[(.loc 4,(enc .edit p)),(.loc 5,(enc .edit q)),(.loc 6,zc1),(.loc 7,zc1),(.loc 8,[ci 2,ci 0,.nils,.nils,ci 0,.nils,.nils,.mref (.l 8 7),.nils,ci 0,.nils]),(.loc 9,[ci 2,ci 0,.nils,.nils,ci 0,.nils,.nils,.mref (.l 9 7),.nils,ci 0,.nils]),(.loc 11,(enc .wedit (p.words.getD x31.toNat (WEdit.mk 0 0 0 0)))),(.x 0,[.bool mx0_0_a,.bool mx0_1_a])],[(.l 8 7,LC.mk (U:=U) .wedit rl_8_7_a 0),(.l 9 7,LC.mk (U:=U) .wedit rl_9_7_a 0)]⟩:LSt U)
def Z4q(mc ma:Bool)(p q:Edit)(rl_8_7 rl_9_7:List WEdit)(x90_b:Int)(mx0_0_b mx0_1_b:Bool)(rl_8_8_b rl_9_8_b:List Kid):LSt U:=(⟨[(0,.ptr (.x 0) 0),pL 5,pL 6,pL 7,pL 8,pL 9,(88,.c (sU .kid p.kids .unk)),pI 89 (p.kids.length:Int),pI 90 x90_b],[(.loc 5,(enc .edit q)),(.loc 6,zc1),(.loc 7,zc1),(.loc 8,[ci 2,ci 0,.nils,.nils,ci 0,.nils,.nils,.mref (.l 8 7),.mref (.l 8 8),ci 0,.nils]),(.loc 9,[ci 2,ci 0,.nils,.nils,ci 0,.nils,.nils,.mref (.l 9 7),.mref (.l 9 8),ci 0,.nils]),(.x 0,[.bool mx0_0_b,.bool mx0_1_b])],[(.l 8 7,LC.mk (U:=U) .wedit rl_8_7 0),(.l 8 8,LC.mk (U:=U) .kid rl_8_8_b 0),(.l 9 7,LC.mk (U:=U) .wedit rl_9_7 0),(.l 9 8,LC.mk (U:=U) .kid rl_9_8_b 0)]⟩:LSt U)
def Z7M(mc ma:Bool)(p q:Edit)(x31 x39_a:Int)(v48_c:V U)(mx0_0_c mx0_1_c:Bool)(rl_8_7_c rl_9_7_c:List WEdit):LSt U:=(⟨[(0,.ptr (.x 0) 0),pL 4,pL 5,pL 6,pL 7,pL 8,pL 9,pI 10 x31,pL 11,pI 12 x39_a,pL 13,(29,.c (sU .wedit p.words .unk)),pI 30 (p.words.length:Int),pI 31 x31,(37,.c (sU .wedit q.words .unk)),pI 38 (q.words.length:Int),pI 39 x39_a,(48,v48_c)],[(.loc 4,(enc .edit p)),(.loc 5,(enc .edit q)),(.loc 6,zc1),(.loc 7,zc1),(.loc 8,[ci 2,ci 0,.nils,.nils,ci 0,.nils,.nils,.mref (.l 8 7),.nils,ci 0,.nils]),(.loc 9,[ci 2,ci 0,.nils,.nils,ci 0,.nils,.nils,.mref (.l 9 7),.nils,ci 0,.nils]),(.loc 11,(enc .wedit (p.words.getD x31.toNat (WEdit.mk 0 0 0 0)))),(.loc 13,(enc .wedit (q.words.getD x39_a.toNat (WEdit.mk 0 0 0 0)))),(.x 0,[.bool mx0_0_c,.bool mx0_1_c])],[(.l 8 7,LC.mk (U:=U) .wedit rl_8_7_c 0),(.l 9 7,LC.mk (U:=U) .wedit rl_9_7_c 0)]⟩:LSt U)
def Z4p(mc ma:Bool)(p q:Edit)(rl_8_7 rl_9_7:List WEdit)(x90_b x98_d:Int)(mx0_0_d mx0_1_d:Bool)(rl_8_8_d rl_9_8_d:List Kid):LSt U:=(⟨[(0,.ptr (.x 0) 0),pL 5,pL 6,pL 7,pL 8,pL 9,pI 14 x90_b,pL 15,(88,.c (sU .kid p.kids .unk)),pI 89 (p.kids.length:Int),pI 90 x90_b,(96,.c (sU .kid q.kids .unk)),pI 97 (q.kids.length:Int),pI 98 x98_d],[(.loc 5,(enc .edit q)),(.loc 6,zc1),(.loc 7,zc1),(.loc 8,[ci 2,ci 0,.nils,.nils,ci 0,.nils,.nils,.mref (.l 8 7),.mref (.l 8 8),ci 0,.nils]),(.loc 9,[ci 2,ci 0,.nils,.nils,ci 0,.nils,.nils,.mref (.l 9 7),.mref (.l 9 8),ci 0,.nils]),(.loc 15,(enc .kid (p.kids.getD x90_b.toNat (KidOf.mk 0 Edit.nil)))),(.x 0,[.bool mx0_0_d,.bool mx0_1_d])],[(.l 8 7,LC.mk (U:=U) .wedit rl_8_7 0),(.l 8 8,LC.mk (U:=U) .kid rl_8_8_d 0),(.l 9 7,LC.mk (U:=U) .wedit rl_9_7 0),(.l 9 8,LC.mk (U:=U) .kid rl_9_8_d 0)]⟩:LSt U)
def Z7L(mc ma:Bool)(p q:Edit)(rl_8_7 rl_9_7:List WEdit)(x90_b x98_d:Int)(mx0_0_e mx0_1_e:Bool)(rl_8_8_e rl_9_8_e:List Kid):LSt U:=(⟨[(0,.ptr (.x 0) 0),pL 5,pL 6,pL 7,pL 8,pL 9,pI 14 x90_b,pL 15,pI 16 x98_d,pL 17,(88,.c (sU .kid p.kids .unk)),pI 89 (p.kids.length:Int),pI 90 x90_b,(96,.c (sU .kid q.kids .unk)),pI 97 (q.kids.length:Int),pI 98 x98_d,(107,.c (.bool (((KidOf.at_ (p.kids.getD x90_b.toNat (KidOf.mk 0 Edit.nil))):Int)==(KidOf.at_ (q.kids.getD x98_d.toNat (KidOf.mk 0 Edit.nil))))))],[(.loc 5,(enc .edit q)),(.loc 6,zc1),(.loc 7,zc1),(.loc 8,[ci 2,ci 0,.nils,.nils,ci 0,.nils,.nils,.mref (.l 8 7),.mref (.l 8 8),ci 0,.nils]),(.loc 9,[ci 2,ci 0,.nils,.nils,ci 0,.nils,.nils,.mref (.l 9 7),.mref (.l 9 8),ci 0,.nils]),(.loc 15,(enc .kid (p.kids.getD x90_b.toNat (KidOf.mk 0 Edit.nil)))),(.loc 17,(enc .kid (q.kids.getD x98_d.toNat (KidOf.mk 0 Edit.nil)))),(.x 0,[.bool mx0_0_e,.bool mx0_1_e])],[(.l 8 7,LC.mk (U:=U) .wedit rl_8_7 0),(.l 8 8,LC.mk (U:=U) .kid rl_8_8_e 0),(.l 9 7,LC.mk (U:=U) .wedit rl_9_7 0),(.l 9 8,LC.mk (U:=U) .kid rl_9_8_e 0)]⟩:LSt U)
abbrev Z5p(N:Nat)(p:List Nat):=AW (Z1o (Ze1 N)) Try.f114 ZiI p
abbrev Z2w(N:Nat)(p:List Nat):=SW (Z1o (Ze1 N)) Try.f114 ZiI p
theorem ZvK(N:Nat)(mc ma:Bool)(p q:Edit)(Q:QT)(h:((ZaF (p.words,()))/\(ZaF (q.words,()))/\(Zm (Z5p N [1,1,1,0,1,0,0]) (Z4s mc ma p q 0 mc ma p.words q.words) (xB 0 (Z2w N [1,1,1,1] Q))))):
  Z5p N [] (L2 [(0,.ptr (.x 0) 0),(1,.agg (enc .edit p)),(2,.agg (enc .edit q))] [(.x 0,[.bool mc,.bool ma])]) Q:=
 Eq.mpr (by kernel_rfl) h
theorem ZlJ(N:Nat)(mc ma:Bool)(p q:Edit)(x31:Int)(mx0_0 mx0_1:Bool)(rl_8_7 rl_9_7:List WEdit)(N0:NT)(Q:QT)(h:let z0:=decide (x31 < (p.words.length:Int));((z0=true->((0:Int)<=x31/\x31 < (p.words.length:Int))/\(Zm (Z5p N [1,1,1,0,1,0,0,1,1,0,0,1,1,0,0]) (Z4r mc ma p q x31 0 mx0_0 mx0_1 rl_8_7 rl_9_7) (xB 2 (xB 1 (Z2w N [1,1,1,0,1,0,0,1,1,1] (xT N0 (xB 0 (Z2w N [1,1,1,1] Q))))))))/\(z0=false->(ZaD (p.kids,()))/\(ZaD (q.kids,()))/\(Zm (Z5p N [1,1,1,1,1,0,1,0,0]) (Z4q mc ma p q rl_8_7 rl_9_7 0 mx0_0 mx0_1 p.kids q.kids) (xB 4 (Z2w N [1,1,1,1,1,1] Q)))))):
  Z5p N [1,1,1,0,1,0,0] (Z4s mc ma p q x31 mx0_0 mx0_1 rl_8_7 rl_9_7) (xT N0 (xB 0 (Z2w N [1,1,1,1] Q))):=
 Eq.mpr (by kernel_rfl) h
theorem ZlI(N:Nat)(mc ma:Bool)(p q:Edit)(x31 x39_a:Int)(mx0_0_a mx0_1_a:Bool)(rl_8_7_a rl_9_7_a:List WEdit)(N1 N0:NT)(Q:QT)(h:∀ y_1,y_1=(p.words.getD x31.toNat (WEdit.mk 0 0 0 0))->∀ y_2,y_2=(q.words.getD x39_a.toNat (WEdit.mk 0 0 0 0))->∀ y_3,y_3=y_1->∀ y_4,y_4=y_2->∀ y_5,y_5=((Zcw y_3 (IntKind.wrap .u8 (BitVec.ofInt (IntKind.bits .u8) 255 ^^^ BitVec.ofInt (IntKind.bits .u8) y_2.mask).toNat)).1)->∀ y_6,y_6=((Zcw y_4 (IntKind.wrap .u8 (BitVec.ofInt (IntKind.bits .u8) 255 ^^^ BitVec.ofInt (IntKind.bits .u8) y_1.mask).toNat)).1)->let z3:=y_1.at_==y_2.at_;let z2:=decide (x39_a < (q.words.length:Int));let z1:=IntKind.bits .u8;let z0:=xT N1 (xB 2 (xB 1 (Z2w N [1,1,1,0,1,0,0,1,1,1] (xT N0 (xB 0 (Z2w N [1,1,1,1] Q))))));((z2=true->((0:Int)<=x39_a/\x39_a < (q.words.length:Int))/\((z3=true->(ZdD ((mx0_0_a,mx0_1_a,()),y_3,y_4,()))/\((ZaE (y_3,(IntKind.wrap .u8 (BitVec.ofInt z1 255 ^^^ BitVec.ofInt z1 y_2.mask).toNat),()))/\((0:Int)<=x31/\x31 < (rl_8_7_a.length:Int))/\((0:Nat)<=x31.toNat)/\((ZaE (y_4,(IntKind.wrap .u8 (BitVec.ofInt z1 255 ^^^ BitVec.ofInt z1 y_1.mask).toNat),()))/\((0:Int)<=x39_a/\x39_a < (rl_9_7_a.length:Int))/\((0:Nat)<=x39_a.toNat)/\(Z5p N [1,1,1,0,1,0,0,1,1,0,0,1,1,0,0,1,1,1] (Z7M mc ma p q x31 x39_a .junk (mx0_0_a || (!(Yx y_3 y_4) && Z07 y_3 y_4)) (mx0_1_a || Yx y_3 y_4) (List.set rl_8_7_a x31.toNat y_5) (List.set rl_9_7_a x39_a.toNat y_6)) z0))))/\(z3=false->Z5p N [1,1,1,0,1,0,0,1,1,0,0,1,1,0,0,1,1,1] (Z7M mc ma p q x31 x39_a (.c (.bool z3)) mx0_0_a mx0_1_a rl_8_7_a rl_9_7_a) z0)))/\(z2=false->(InR (x31+1))/\(N0 (Z4s mc ma p q (x31+1) mx0_0_a mx0_1_a rl_8_7_a rl_9_7_a))))):
  Z5p N [1,1,1,0,1,0,0,1,1,0,0,1,1,0,0] (Z4r mc ma p q x31 x39_a mx0_0_a mx0_1_a rl_8_7_a rl_9_7_a) (xT N1 (xB 2 (xB 1 (Z2w N [1,1,1,0,1,0,0,1,1,1] (xT N0 (xB 0 (Z2w N [1,1,1,1] Q))))))):=
 Eq.mpr (by kernel_rfl) (h _ rfl _ rfl _ (Z1f _) _ (Z1f _) _ (Z1f _) _ (Z1f _))
theorem ZlH(N:Nat)(mc ma:Bool)(p q:Edit)(rl_8_7 rl_9_7:List WEdit)(x90_b:Int)(mx0_0_b mx0_1_b:Bool)(rl_8_8_b rl_9_8_b:List Kid)(N2:NT)(Q:QT)(h:∀ y_1,y_1=(Edit.mk 2 (Tree.mk 0 ([]:List Int) ([]:List Tree)) (Tree.mk 0 ([]:List Int) ([]:List Tree)) rl_8_7 rl_8_8_b 0 ([]:List Op))->∀ y_2,y_2=(Edit.mk 2 (Tree.mk 0 ([]:List Int) ([]:List Tree)) (Tree.mk 0 ([]:List Int) ([]:List Tree)) rl_9_7 rl_9_8_b 0 ([]:List Op))->let z0:=decide (x90_b < (p.kids.length:Int));((z0=true->((0:Int)<=x90_b/\x90_b < (p.kids.length:Int))/\(Zm (Z5p N [1,1,1,1,1,0,1,0,0,1,1,0,0,1,1,0,0]) (Z4p mc ma p q rl_8_7 rl_9_7 x90_b 0 mx0_0_b mx0_1_b rl_8_8_b rl_9_8_b) (xB 6 (xB 5 (Z2w N [1,1,1,1,1,0,1,0,0,1,1,1] (xT N2 (xB 4 (Z2w N [1,1,1,1,1,1] Q))))))))/\(z0=false->(ZaC ((2,0,([]:List Int),([]:List Tree),0,([]:List Int),([]:List Tree),rl_8_7,rl_8_8_b,0,([]:List Op),()),()))/\(ZaC ((2,0,([]:List Int),([]:List Tree),0,([]:List Int),([]:List Tree),rl_9_7,rl_9_8_b,0,([]:List Op),()),()))/\(Q .ret (L2 [pL 6,pL 7] [(.loc 6,(enc .edit (Z3i y_1))),(.loc 7,(enc .edit (Z3i y_2))),(.x 0,[.bool mx0_0_b,.bool mx0_1_b])]))))):
  Z5p N [1,1,1,1,1,0,1,0,0] (Z4q mc ma p q rl_8_7 rl_9_7 x90_b mx0_0_b mx0_1_b rl_8_8_b rl_9_8_b) (xT N2 (xB 4 (Z2w N [1,1,1,1,1,1] Q))):=
 Eq.mpr (by kernel_rfl) (h _ rfl _ rfl)
theorem ZeE(N:Nat)(mc ma:Bool)(p q:Edit)(x31 x39_a:Int)(v48_c:V U)(mx0_0_c mx0_1_c:Bool)(rl_8_7_c rl_9_7_c:List WEdit)(N1 N0:NT)(Q:QT)(h:(InR (x39_a+1))/\(N1 (Z4r mc ma p q x31 (x39_a+1) mx0_0_c mx0_1_c rl_8_7_c rl_9_7_c))):
  Z5p N [1,1,1,0,1,0,0,1,1,0,0,1,1,0,0,1,1,1] (Z7M mc ma p q x31 x39_a v48_c mx0_0_c mx0_1_c rl_8_7_c rl_9_7_c) (xT N1 (xB 2 (xB 1 (Z2w N [1,1,1,0,1,0,0,1,1,1] (xT N0 (xB 0 (Z2w N [1,1,1,1] Q))))))):=
 Eq.mpr (by kernel_rfl) h
theorem ZlG(N:Nat)(mc ma:Bool)(p q:Edit)(rl_8_7 rl_9_7:List WEdit)(x90_b x98_d:Int)(mx0_0_d mx0_1_d:Bool)(rl_8_8_d rl_9_8_d:List Kid)(N4 N2:NT)(Q:QT)(h:∀ y_1,y_1=(p.kids.getD x90_b.toNat (KidOf.mk 0 Edit.nil))->∀ y_2,y_2=(q.kids.getD x98_d.toNat (KidOf.mk 0 Edit.nil))->∀ y_3,y_3=(y_1.e)->∀ y_4,y_4=(y_2.e)->∀ y_5,y_5=((lbE y_3 y_4).x)->∀ y_6,y_6=((lbE y_3 y_4).y)->let z1:=decide (x98_d < (q.kids.length:Int));let z0:=xT N4 (xB 6 (xB 5 (Z2w N [1,1,1,1,1,0,1,0,0,1,1,1] (xT N2 (xB 4 (Z2w N [1,1,1,1,1,1] Q))))));((z1=true->((0:Int)<=x98_d/\x98_d < (q.kids.length:Int))/\(((y_1.at_==y_2.at_)=true->(Zay ((mx0_0_d,mx0_1_d,()),y_3,y_4,()))/\(ZmX ((mx0_0_d,mx0_1_d,()),y_3,y_4,()) < N)/\((0:Int)<=x90_b/\x90_b < (rl_8_8_d.length:Int))/\((0:Nat)<=x90_b.toNat)/\((0:Int)<=x98_d/\x98_d < (rl_9_8_d.length:Int))/\((0:Nat)<=x98_d.toNat)/\(Z5p N [1,1,1,1,1,0,1,0,0,1,1,0,0,1,1,0,0,1,1,1] (Z7L mc ma p q rl_8_7 rl_9_7 x90_b x98_d (mx0_0_d || (lbE y_3 y_4).c) (mx0_1_d || (lbE y_3 y_4).a) (List.set rl_8_8_d x90_b.toNat (KidOf.mk (KidOf.at_ (rl_8_8_d.getD x90_b.toNat (KidOf.mk 0 Edit.nil))) y_5)) (List.set rl_9_8_d x98_d.toNat (KidOf.mk (KidOf.at_ (rl_9_8_d.getD x98_d.toNat (KidOf.mk 0 Edit.nil))) y_6))) z0))/\((y_1.at_==y_2.at_)=false->Z5p N [1,1,1,1,1,0,1,0,0,1,1,0,0,1,1,0,0,1,1,1] (Z7L mc ma p q rl_8_7 rl_9_7 x90_b x98_d mx0_0_d mx0_1_d rl_8_8_d rl_9_8_d) z0)))/\(z1=false->(InR (x90_b+1))/\(N2 (Z4q mc ma p q rl_8_7 rl_9_7 (x90_b+1) mx0_0_d mx0_1_d rl_8_8_d rl_9_8_d))))):
  Z5p N [1,1,1,1,1,0,1,0,0,1,1,0,0,1,1,0,0] (Z4p mc ma p q rl_8_7 rl_9_7 x90_b x98_d mx0_0_d mx0_1_d rl_8_8_d rl_9_8_d) (xT N4 (xB 6 (xB 5 (Z2w N [1,1,1,1,1,0,1,0,0,1,1,1] (xT N2 (xB 4 (Z2w N [1,1,1,1,1,1] Q))))))):=
 Eq.mpr (by kernel_rfl) (h _ rfl _ rfl _ (Z8 _) _ (Z8 _) _ (Z8 _) _ (Z8 _))
theorem ZeD(N:Nat)(mc ma:Bool)(p q:Edit)(rl_8_7 rl_9_7:List WEdit)(x90_b x98_d:Int)(mx0_0_e mx0_1_e:Bool)(rl_8_8_e rl_9_8_e:List Kid)(N4 N2:NT)(Q:QT)(h:(InR (x98_d+1))/\(N4 (Z4p mc ma p q rl_8_7 rl_9_7 x90_b (x98_d+1) mx0_0_e mx0_1_e rl_8_8_e rl_9_8_e))):
  Z5p N [1,1,1,1,1,0,1,0,0,1,1,0,0,1,1,0,0,1,1,1] (Z7L mc ma p q rl_8_7 rl_9_7 x90_b x98_d mx0_0_e mx0_1_e rl_8_8_e rl_9_8_e) (xT N4 (xB 6 (xB 5 (Z2w N [1,1,1,1,1,0,1,0,0,1,1,1] (xT N2 (xB 4 (Z2w N [1,1,1,1,1,1] Q))))))):=
 Eq.mpr (by kernel_rfl) h
def Zrx(N:Nat)(mc ma:Bool)(p q:Edit):Prop:=AW (Z1o (Ze1 N)) Try.f114 ZiI [] (Zk (Zbu.can ((mc,ma,()),p,q,())) (Zbu.canX ((mc,ma,()),p,q,()))) (EQ Try.f114 (Zat ((mc,ma,()),p,q,())) (Z5Y ((mc,ma,()),p,q,())))
abbrev Zsr:Prop:=∀ (N:Nat) (mc:Bool) (ma:Bool) (p:Edit) (q:Edit) (_:Unit),ZaJ ((mc,ma,()),p,q,())->Zix ((mc,ma,()),p,q,()) < N+1->Zrx N mc ma p q
def ZiH:Ze U:=fun i=> match i with
 | 0=> ([(0,[]),(4,[]),(5,[]),(6,[]),(7,[])],[(.loc 4,[]),(.loc 5,[]),(.loc 6,[]),(.loc 7,[]),(.x 0,[])])
 | 1=> ([(0,[]),(4,[]),(6,[]),(7,[]),(8,[]),(9,[])],[(.loc 4,[]),(.loc 6,[]),(.loc 7,[]),(.x 0,[])])
 | 2=> ([(0,[]),(4,[]),(6,[]),(7,[]),(8,[]),(22,[])],[(.loc 4,[]),(.loc 6,[]),(.loc 7,[]),(.x 0,[])])
 | 3=> ([(6,[]),(7,[])],[(.loc 6,[]),(.loc 7,[]),(.x 0,[])])
 | 4=> ([(6,[]),(7,[])],[(.loc 6,[]),(.loc 7,[]),(.x 0,[])])
 | 5=> ([(4,[]),(6,[]),(7,[]),(8,[]),(10,[])],[(.loc 4,[]),(.loc 6,[]),(.loc 7,[]),(.loc 31,[]),(.x 0,[])])
 | 6=> ([(4,[]),(6,[]),(7,[]),(10,[]),(32,[]),(33,[]),(34,[])],[(.loc 4,[]),(.loc 6,[]),(.loc 7,[]),(.loc 31,[.any,.own .op,.own .op,.own .tree,.own .tree]),(.x 0,[])])
 | 7=> ([(4,[]),(6,[]),(7,[]),(10,[]),(32,[]),(33,[]),(34,[]),(35,[])],[(.loc 4,[]),(.loc 6,[]),(.loc 7,[]),(.loc 31,[]),(.x 0,[])])
 | 8=> ([(4,[]),(6,[]),(7,[]),(10,[]),(12,[]),(32,[]),(33,[]),(34,[])],[(.loc 4,[]),(.loc 6,[]),(.loc 7,[]),(.loc 12,[]),(.loc 31,[]),(.x 0,[])])
 | 9=> ([(4,[]),(6,[]),(7,[]),(10,[]),(12,[]),(32,[]),(33,[]),(34,[]),(39,[])],[(.loc 4,[]),(.loc 6,[]),(.loc 7,[]),(.loc 12,[]),(.loc 31,[]),(.x 0,[])])
 | 10=> ([(4,[]),(6,[]),(7,[]),(10,[]),(12,[]),(32,[]),(33,[]),(34,[])],[(.loc 4,[]),(.loc 6,[]),(.loc 7,[]),(.loc 12,[]),(.loc 31,[]),(.x 0,[])])
 | 11=> ([(4,[]),(6,[]),(7,[]),(10,[]),(32,[]),(33,[]),(34,[])],[(.loc 4,[]),(.loc 6,[]),(.loc 7,[]),(.loc 31,[]),(.x 0,[])])
 | 12=> ([(4,[]),(6,[]),(7,[]),(10,[]),(12,[]),(32,[]),(33,[]),(34,[]),(39,[]),(48,[])],[(.loc 4,[]),(.loc 6,[]),(.loc 7,[]),(.loc 12,[]),(.loc 31,[]),(.x 0,[])])
 | 13=> ([(4,[]),(6,[]),(7,[]),(10,[]),(32,[]),(33,[]),(34,[])],[(.loc 4,[]),(.loc 6,[]),(.loc 7,[]),(.loc 31,[]),(.x 0,[])])
 | 14=> ([(4,[]),(6,[]),(7,[]),(10,[]),(12,[]),(32,[]),(33,[]),(34,[]),(61,[])],[(.loc 4,[]),(.loc 6,[]),(.loc 7,[]),(.loc 12,[]),(.loc 31,[]),(.x 0,[])])
 | 15=> ([(4,[]),(6,[]),(7,[]),(10,[]),(32,[]),(33,[]),(34,[])],[(.loc 4,[]),(.loc 6,[]),(.loc 7,[]),(.loc 31,[]),(.x 0,[])])
 | 16=> ([(4,[]),(6,[]),(7,[]),(10,[]),(32,[]),(33,[]),(34,[])],[(.loc 4,[]),(.loc 6,[]),(.loc 7,[]),(.loc 31,[.any,.own .op,.own .op,.own .tree,.own .tree]),(.x 0,[])])
 | 17=> ([(4,[]),(6,[]),(7,[]),(10,[])],[(.loc 4,[]),(.loc 6,[]),(.loc 7,[]),(.loc 31,[]),(.x 0,[])])
 | 18=> ([(6,[]),(7,[])],[(.loc 6,[]),(.loc 7,[]),(.x 0,[])])
 | _=> ([],[])
def Z14(mc ma:Bool)(p q:Edit)(x34:Int)(mx0_0 mx0_1:Bool)(ml31_3 ml31_4:List Tree)(ml31_1 ml31_2:List Op):LSt U:=(L2 [pL 4,pL 6,pL 7,(10,.ptr (.loc 31) 0),(32,.c (sU .piece ((ZG 2 2 p.ops q.ops []).1) .unk)),pI 33 (((ZG 2 2 p.ops q.ops []).1).length:Int),pI 34 x34] [(.loc 4,(enc .edit p)),(.loc 6,zc1),(.loc 7,zc1),(.loc 31,[.xp 0,sU .op ml31_1 (.own (.l 31 1)),sU .op ml31_2 (.own (.l 31 2)),sU .tree ml31_3 (.own (.l 31 3)),sU .tree ml31_4 (.own (.l 31 4))]),(.x 0,[.bool mx0_0,.bool mx0_1])])
abbrev Zv5(N:Nat)(p:List Nat):=AW (Z2 (Ze1 N)) Try.f115 ZiH p
abbrev ZwB(N:Nat)(p:List Nat):=SW (Z2 (Ze1 N)) Try.f115 ZiH p
theorem ZvJ(N:Nat)(mc ma:Bool)(p q:Edit)(Q:QT)(h:let z0:= !((ZG 2 2 p.ops q.ops []).2.1);((ZgJ (p.ops,q.ops,()))/\((z0=true->((Z7p ())/\(Q .ret (L2 [pL 6,pL 7] [(.loc 6,(enc .edit Edit.nil)),(.loc 7,(enc .edit Edit.nil)),(.x 0,[.bool mc,.bool true])]))))/\(z0=false->(Zm (Zv5 N [1,1,1,1,0,1,0,0]) (Z14 mc ma p q 0 mc ma [] [] [] []) (xB 0 (ZwB N [1,1,1,1,1] Q))))))):
  Zv5 N [] (L2 [(0,.ptr (.x 0) 0),(1,.agg (enc .edit p)),(2,.agg (enc .edit q))] [(.x 0,[.bool mc,.bool ma])]) Q:=
 Eq.mpr (by kernel_rfl) h
theorem ZlF(N:Nat)(mc ma:Bool)(p q:Edit)(x34:Int)(mx0_0 mx0_1:Bool)(ml31_3 ml31_4:List Tree)(ml31_1 ml31_2:List Op)(N0:NT)(Q:QT)(h:∀ y_1,y_1=(Edit.new (Z1c p.list (ml31_1++(YX ml31_3 ml31_4).x)))->∀ y_2,y_2=(Edit.new (Z1c p.list (ml31_2++(YX ml31_3 ml31_4).y)))->∀ y_3,y_3=(Edit.old (Z1c p.list (ml31_1++(YX ml31_3 ml31_4).x)))->∀ y_4,y_4=(Edit.old (Z1c p.list (ml31_2++(YX ml31_3 ml31_4).y)))->∀ y_5,y_5=(List.getD ((ZG 2 2 p.ops q.ops []).1) x34.toNat (Piece.mk 0 Op.nil Op.nil))->∀ y_6,y_6=(y_5.p)->∀ y_7,y_7=(y_5.q)->let z5:=Zz lbE y_6 y_7;let z4:=decide (x34 < (((ZG 2 2 p.ops q.ops []).1).length:Int));let z3:=ZdC (((),ml31_1,ml31_2,ml31_3,ml31_4,()),(mx0_0,mx0_1,()),());let z0:=YX ml31_3 ml31_4;let z2:=Z1c p.list (ml31_2++z0.y);let z1:=Z1c p.list (ml31_1++z0.x);((z4=true->((0:Int)<=x34/\x34 < (((ZG 2 2 p.ops q.ops []).1).length:Int))/\(((y_5.of==1)=true->((ml31_3.length+y_5.p.l.length)*56<=140737488355328)/\((InR (x34+1))/\(N0 (Z14 mc ma p q (x34+1) mx0_0 mx0_1 (ml31_3++y_5.p.l) ml31_4 ml31_1 ml31_2))))/\((y_5.of==1)=false->(((y_5.of==2)=true->((ml31_4.length+y_5.q.l.length)*56<=140737488355328)/\((InR (x34+1))/\(N0 (Z14 mc ma p q (x34+1) mx0_0 mx0_1 ml31_3 (ml31_4++y_5.q.l) ml31_1 ml31_2))))/\((y_5.of==2)=false->z3/\((Z7m (((),(ml31_1++z0.x),(ml31_2++z0.y),([]:List Tree),([]:List Tree),()),y_6,y_7,((mx0_0 || z0.c),mx0_1,()),()))/\(Ziv (((),(ml31_1++z0.x),(ml31_2++z0.y),([]:List Tree),([]:List Tree),()),y_6,y_7,((mx0_0 || z0.c),mx0_1,()),()) < N)/\((InR (x34+1))/\(N0 (Z14 mc ma p q (x34+1) ((mx0_0 || z0.c) || z5.c) (mx0_1 || z5.a) ([]:List Tree) ([]:List Tree) ((ml31_1++z0.x)++z5.x) ((ml31_2++z0.y)++z5.y))))))))))/\(z4=false->z3/\((ZaB (p.list,(ml31_1++z0.x),()))/\(ZaB (p.list,(ml31_2++z0.y),()))/\(Q .ret (L2 [pL 6,pL 7] [(.loc 6,([ci (Edit.kind z1)]++enc .tree y_3++enc .tree y_1++[sU .wedit (Edit.words z1) .unk,sU .kid (Edit.kids z1) .unk,ci (Edit.list z1),sU .op (Edit.ops z1) .unk])),(.loc 7,([ci (Edit.kind z2)]++enc .tree y_4++enc .tree y_2++[sU .wedit (Edit.words z2) .unk,sU .kid (Edit.kids z2) .unk,ci (Edit.list z2),sU .op (Edit.ops z2) .unk])),(.x 0,[.bool (mx0_0 || z0.c),.bool mx0_1])])))))):
  Zv5 N [1,1,1,1,0,1,0,0] (Z14 mc ma p q x34 mx0_0 mx0_1 ml31_3 ml31_4 ml31_1 ml31_2) (xT N0 (xB 0 (ZwB N [1,1,1,1,1] Q))):=
 Eq.mpr (by kernel_rfl) (h _ rfl _ rfl _ rfl _ rfl _ rfl _ (Yk _) _ (Yk _))
def Zrw(N:Nat)(mc ma:Bool)(p q:Edit):Prop:=AW (Z2 (Ze1 N)) Try.f115 ZiH [] (Zk (Zbu.can ((mc,ma,()),p,q,())) (Zbu.canX ((mc,ma,()),p,q,()))) (EQ Try.f115 (Zas ((mc,ma,()),p,q,())) (Z5X ((mc,ma,()),p,q,())))
abbrev Zsq:Prop:=∀ (N:Nat) (mc:Bool) (ma:Bool) (p:Edit) (q:Edit) (_:Unit),ZaI ((mc,ma,()),p,q,())->Zix ((mc,ma,()),p,q,()) < N+1->Zrw N mc ma p q
def Znl:Ze U:=fun i=> match i with
 | 0=> ([(0,[]),(4,[]),(5,[])],[(.loc 4,[]),(.loc 5,[]),(.x 0,[]),(.x 1,[])])
 | 1=> ([(0,[]),(6,[]),(7,[])],[(.loc 6,[]),(.loc 7,[]),(.x 0,[]),(.x 1,[])])
 | 2=> ([],[(.x 0,[]),(.x 1,[])])
 | 3=> ([(0,[]),(4,[]),(5,[]),(42,[])],[(.loc 4,[]),(.loc 5,[]),(.x 0,[]),(.x 1,[])])
 | 4=> ([],[(.x 0,[]),(.x 1,[])])
 | 5=> ([(0,[]),(4,[]),(5,[]),(62,[])],[(.loc 4,[]),(.loc 5,[]),(.x 0,[]),(.x 1,[])])
 | 6=> ([],[(.x 0,[]),(.x 1,[])])
 | 7=> ([(0,[]),(4,[]),(5,[]),(82,[])],[(.loc 4,[]),(.loc 5,[]),(.x 0,[]),(.x 1,[])])
 | 8=> ([],[(.x 0,[]),(.x 1,[])])
 | 9=> ([(0,[]),(4,[]),(5,[]),(109,[])],[(.loc 4,[]),(.loc 5,[]),(.x 0,[]),(.x 1,[])])
 | 10=> ([],[(.x 0,[]),(.x 1,[])])
 | 11=> ([(0,[]),(4,[]),(5,[]),(133,[])],[(.loc 4,[]),(.loc 5,[]),(.x 0,[]),(.x 1,[])])
 | 12=> ([(0,[]),(147,[])],[(.x 0,[]),(.x 1,[])])
 | 13=> ([],[(.x 0,[]),(.x 1,[])])
 | 14=> ([(0,[]),(4,[]),(5,[]),(154,[])],[(.loc 4,[]),(.loc 5,[]),(.x 0,[]),(.x 1,[])])
 | 15=> ([],[(.x 0,[]),(.x 1,[])])
 | 16=> ([(0,[]),(4,[]),(5,[]),(166,[])],[(.loc 4,[]),(.loc 5,[]),(.x 0,[]),(.x 1,[])])
 | 17=> ([],[(.x 0,[]),(.x 1,[])])
 | _=> ([],[])
abbrev Zxx(N:Nat)(p:List Nat):=AW (Z2 (Ze1 N)) Try.f160 Znl p
theorem Zvt(N:Nat)(sm_:Unit)(sx sy:List Op)(si sh:List Tree)(p q:Op)(mc ma:Bool)(Q:QT)(h:∀ y_1,y_1=p->∀ y_2,y_2=q->∀ y_3,y_3=(p.e)->∀ y_4,y_4=(q.e)->∀ y_5,y_5=(List.getD p.l (Int.toNat 0) Tree.nil)->∀ y_6,y_6=(List.getD q.l (Int.toNat 0) Tree.nil)->∀ y_7,y_7=(Edit.mk 0 (Tree.mk 0 [] []) (Tree.mk 0 [] []) [] [] 0 [])->∀ y_8,y_8=((lbE y_3 y_4).x)->∀ y_9,y_9=((lbE y_3 y_4).y)->∀ y_10,y_10=(Z4L y_8)->∀ y_11,y_11=(Z4L y_9)->let z3:=bif (p.kind==1) then (q.kind==1) else false;let z2:=bif (p.kind==1) then (q.kind==0) else false;let z1:=bif (p.kind==0) then (q.kind==1) else false;let z0:= !(eqX (Z9 p.l) (Z9 q.l));((Tr ((p.kind==0)=true))/\(Tr ((p.kind==0)=true))/\(Tr ((p.kind==0)=true))/\((z1=true->((sy.length+([(OpOf.mk 0 0 [] y_7)]).length)*240<=140737488355328)/\((0:Int)<=(sy.length:Int)/\(sy.length:Int) < ((sy++([(OpOf.mk 0 0 [] y_7)])).length:Int))/\(sy.length<=(Int.toNat (sy.length:Int)))/\(Q .normal (L2 [] [(.x 0,[.xp 1,sU .op sx (.own (.x 0 1)),sU .op (List.set (sy++([(OpOf.mk 0 0 [] y_7)])) (Int.toNat (sy.length:Int)) y_2) (.own (.x 0 2)),sU .tree si (.own (.x 0 3)),sU .tree sh (.own (.x 0 4))]),(.x 1,[.bool mc,.bool ma])])))/\(z1=false->(Tr ((p.kind==1)=true))/\(Tr ((p.kind==1)=true))/\(Tr ((p.kind==1)=true))/\((z2=true->((sx.length+([(OpOf.mk 0 0 [] y_7)]).length)*240<=140737488355328)/\((0:Int)<=(sx.length:Int)/\(sx.length:Int) < ((sx++([(OpOf.mk 0 0 [] y_7)])).length:Int))/\(sx.length<=(Int.toNat (sx.length:Int)))/\(Q .normal (L2 [] [(.x 0,[.xp 1,sU .op (List.set (sx++([(OpOf.mk 0 0 [] y_7)])) (Int.toNat (sx.length:Int)) y_1) (.own (.x 0 1)),sU .op sy (.own (.x 0 2)),sU .tree si (.own (.x 0 3)),sU .tree sh (.own (.x 0 4))]),(.x 1,[.bool mc,.bool ma])])))/\(z2=false->(((p.kind==0)=true->((sx.length+([(OpOf.mk 0 (if q.n < 1 then 1 else q.n) [] y_7)]).length)*240<=140737488355328)/\((sy.length+([y_2]).length)*240<=140737488355328)/\(Q .normal (L2 [] [(.x 0,[.xp 1,sU .op (sx++([(OpOf.mk 0 (if q.n < 1 then 1 else q.n) [] y_7)])) (.own (.x 0 1)),sU .op (sy++([y_2])) (.own (.x 0 2)),sU .tree si (.own (.x 0 3)),sU .tree sh (.own (.x 0 4))]),(.x 1,[.bool mc,.bool ma])])))/\((p.kind==0)=false->(((q.kind==0)=true->((sx.length+([y_1]).length)*240<=140737488355328)/\((sy.length+([(OpOf.mk 0 1 [] y_7)]).length)*240<=140737488355328)/\(Q .normal (L2 [] [(.x 0,[.xp 1,sU .op (sx++([y_1])) (.own (.x 0 1)),sU .op (sy++([(OpOf.mk 0 1 [] y_7)])) (.own (.x 0 2)),sU .tree si (.own (.x 0 3)),sU .tree sh (.own (.x 0 4))]),(.x 1,[.bool mc,.bool ma])])))/\((q.kind==0)=false->(Tr ((p.kind==1)=true))/\(Tr ((p.kind==1)=true))/\(Tr ((p.kind==1)=true))/\((z3=true->(Z57 (p.l,q.l,(),()))/\((z0=true->(Q .normal (L2 [] [(.x 0,[.xp 1,sU .op sx (.own (.x 0 1)),sU .op sy (.own (.x 0 2)),sU .tree si (.own (.x 0 3)),sU .tree sh (.own (.x 0 4))]),(.x 1,[.bool mc,.bool true])])))/\(z0=false->Q .normal (L2 [(0,.ptr (.x 0) 0),pB 147 z0] [(.x 0,[.xp 1,sU .op sx (.own (.x 0 1)),sU .op sy (.own (.x 0 2)),sU .tree si (.own (.x 0 3)),sU .tree sh (.own (.x 0 4))]),(.x 1,[.bool mc,.bool ma])]))))/\(z3=false->(((p.kind==1)=true->((0:Int)<=0/\0 < (p.l.length:Int))/\(ZaA (((),sx,sy,si,sh,()),y_4,y_5,(mc,ma,()),()))/\(Q .normal (L2 [] [(.x 0,[.xp 1,sU .op sx (.own (.x 0 1)),sU .op sy (.own (.x 0 2)),sU .tree si (.own (.x 0 3)),sU .tree sh (.own (.x 0 4))]),(.x 1,[.bool true,.bool (ma || !(doE false y_4 y_5).isSome)])])))/\((p.kind==1)=false->(((q.kind==1)=true->((0:Int)<=0/\0 < (q.l.length:Int))/\(ZaA (((),sx,sy,si,sh,()),y_3,y_6,(mc,ma,()),()))/\(Q .normal (L2 [] [(.x 0,[.xp 1,sU .op sx (.own (.x 0 1)),sU .op sy (.own (.x 0 2)),sU .tree si (.own (.x 0 3)),sU .tree sh (.own (.x 0 4))]),(.x 1,[.bool true,.bool (ma || !(doE false y_3 y_6).isSome)])])))/\((q.kind==1)=false->(Zay ((mc,ma,()),y_3,y_4,()))/\(ZmX ((mc,ma,()),y_3,y_4,()) < N)/\((Zdu (y_8,()))/\((sx.length+([y_10]).length)*240<=140737488355328)/\(Zdu (y_9,()))/\((sy.length+([y_11]).length)*240<=140737488355328)/\(Q .normal (L2 [] [(.x 0,[.xp 1,sU .op (sx++([y_10])) (.own (.x 0 1)),sU .op (sy++([y_11])) (.own (.x 0 2)),sU .tree si (.own (.x 0 3)),sU .tree sh (.own (.x 0 4))]),(.x 1,[.bool (mc || (lbE y_3 y_4).c),.bool (ma || (lbE y_3 y_4).a)])]))))))))))))))))))):
  Zxx N [] (L2 [(0,.ptr (.x 0) 0),(1,.agg (enc .op p)),(2,.agg (enc .op q))] [(.x 0,[.xp 1,sU .op sx (.own (.x 0 1)),sU .op sy (.own (.x 0 2)),sU .tree si (.own (.x 0 3)),sU .tree sh (.own (.x 0 4))]),(.x 1,[.bool mc,.bool ma])]) Q:=
 Eq.mpr (by kernel_rfl) (h _ (Yk _) _ (Yk _) _ (Z8 _) _ (Z8 _) _ (Zd _) _ (Zd _) _ rfl _ (Z8 _) _ (Z8 _) _ (Yk _) _ (Yk _))
def Zrg(N:Nat)(sm_:Unit)(sx sy:List Op)(si sh:List Tree)(p q:Op)(mc ma:Bool):Prop:=AW (Z2 (Ze1 N)) Try.f160 Znl [] (Zk (Z71.can ((sm_,sx,sy,si,sh,()),p,q,(mc,ma,()),())) (Z71.canX ((sm_,sx,sy,si,sh,()),p,q,(mc,ma,()),()))) (EQ Try.f160 (Zaq ((sm_,sx,sy,si,sh,()),p,q,(mc,ma,()),())) (Z5U ((sm_,sx,sy,si,sh,()),p,q,(mc,ma,()),())))
abbrev Zsp:Prop:=∀ (N:Nat) (sm_:Unit) (sx:List Op) (sy:List Op) (si:List Tree) (sh:List Tree) (p:Op) (q:Op) (mc:Bool) (ma:Bool) (_:Unit),Z7m ((sm_,sx,sy,si,sh,()),p,q,(mc,ma,()),())->Ziv ((sm_,sx,sy,si,sh,()),p,q,(mc,ma,()),()) < N+1->Zrg N sm_ sx sy si sh p q mc ma
theorem ZpG(Z8X:CT 106 YV)(Zub:CT 112 Z9b)(Zua:CT 113 Z9a)(Zee:CT 151 JP)(Zu5:CT 153 Z99)(Zu4:CT 154 Z98)(Zu3:CT 155 Z97)(Zu2:CT 156 Z96)(Zu1:CT 157 Z95)(Zu0:CT 158 Z94)(ZtZ:CT 159 Z93)(ZtY:CT 161 Z92)(ZtT:CT 179 Z91)(ZtS:CT 180 Z90)(b77:ZwE)(Zuj:Zsr)(Zui:Zsq)(Zuh:Zsp):
  CT 77 Z78/\CT 114 ZhT/\CT 115 ZhS/\CT 160 ZhR:=by
 have h77 : ∃ fn, Try.prog.funcs[(77 : FuncId)]? = some fn ∧ fn.body.isSome = true ∧ (fn.name == "runtime.NumGoroutine") = false := ⟨Try.f77, Try.func77, rfl, rfl⟩
 have h114 : ∃ fn, Try.prog.funcs[(114 : FuncId)]? = some fn ∧ fn.body.isSome = true ∧ (fn.name == "runtime.NumGoroutine") = false := ⟨Try.f114, Try.func114, rfl, rfl⟩
 have h115 : ∃ fn, Try.prog.funcs[(115 : FuncId)]? = some fn ∧ fn.body.isSome = true ∧ (fn.name == "runtime.NumGoroutine") = false := ⟨Try.f115, Try.func115, rfl, rfl⟩
 have h160 : ∃ fn, Try.prog.funcs[(160 : FuncId)]? = some fn ∧ fn.body.isSome = true ∧ (fn.name == "runtime.NumGoroutine") = false := ⟨Try.f160, Try.func160, rfl, rfl⟩
 have key:∀ N,CT 77 (fsX Zbu (fun a=> [Zay a,ZmX a < N]) Zf2 Zao)/\CT 114 (fsX Zbu (fun a=> [ZaJ a,Zix a < N]) Zat Z5Y)/\CT 115 (fsX Zbu (fun a=> [ZaI a,Zix a < N]) Zas Z5X)/\CT 160 (fsX Z71 (fun a=> [Z7m a,Ziv a < N]) Zaq Z5U):=by
  intro N
  induction N with
  | zero=> exact ⟨Z6U h77,Z6U h114,Z6U h115,Z6U h160⟩
  | succ N ih=>
   have kn:=Z0h (l:=Z1T N) ⟨ih.1,ih.2.1,ih.2.2.1,ih.2.2.2,Z8X,Zub,Zua,Zee,Zu5,Zu4,Zu3,Zu2,Zu1,Zu0,ZtZ,ZtY,ZtT,ZtS,trivial⟩
   exact ⟨JY (Γ:=Z2 (Z1T N)) Zl rfl kn Ztr Try.func77 rfl rfl (fun a=> by show 3<=_;decide) (fun ⟨⟨mc,ma,_⟩,p,q,_⟩ h=> b77 N mc ma p q () h.1 h.2.1),
    JY (Γ:=Z1o (Z1T N)) Zl rfl kn ZiI Try.func114 rfl rfl (fun a=> by show 3<=_;decide) (fun ⟨⟨mc,ma,_⟩,p,q,_⟩ h=> Zuj N mc ma p q () h.1 h.2.1),
    JY (Γ:=Z2 (Z1T N)) Zl rfl kn ZiH Try.func115 rfl rfl (fun a=> by show 3<=_;decide) (fun ⟨⟨mc,ma,_⟩,p,q,_⟩ h=> Zui N mc ma p q () h.1 h.2.1),
    JY (Γ:=Z2 (Z1T N)) Zl rfl kn Znl Try.func160 rfl rfl (fun a=> by show 3<=_;decide) (fun ⟨⟨sm_,sx,sy,si,sh,_⟩,p,q,⟨mc,ma,_⟩,_⟩ h=> Zuh N sm_ sx sy si sh p q mc ma () h.1 h.2.1)⟩
 exact ⟨Z6V h77 fun N=> (key N).1,Z6V h114 fun N=> (key N).2.1,Z6V h115 fun N=> (key N).2.2.1,Z6V h160 fun N=> (key N).2.2.2⟩
end
theorem Zlb:Contract Try.prog cfg 174 Z1y:=by
 refine ZpW ?_
 intro w _ _
 refine Zvp _ _ ?_
 simp only [Zgy]
 (repeat' (first | exact trivial | exact rfl | apply And.intro))
theorem Zla:Contract Try.prog cfg 176 Z1x:=by
 refine ZpU ?_
 intro w _ _
 refine Zvn _ _ ?_
 simp only [Zgx]
 (repeat' (first | exact trivial | exact rfl | apply And.intro))
theorem ZtQ:Contract Try.prog cfg 182 Z5A:=by
 refine ZpO ?_
 intro w _ _
 refine Zvh _ _ ?_
 simp only [Zgv]
 (repeat' (first | exact trivial | exact rfl | apply And.intro))
theorem Z2k{α:Type}(f:α->Bool):∀ (l:List α) (i:Int),(YC f l i= -1/\∀ a∈l,f a=false)\/(i<=YC f l i/\YC f l i < i+l.length/\(∀ a∈l.take (YC f l i - i).toNat,f a=false)/\∀ z,f (l.getD (YC f l i - i).toNat z)=true)
 | [],i=> .inl ⟨rfl,fun a h=> by cases h⟩
 | a ::r,i=> by
  by_cases h:f a=true
  ·rw [YC,if_pos h]
   refine .inr ⟨Xc _,by simp only [Q9];omega,?_,fun z=> ?_⟩
   ·rw [show (i - i).toNat=0 by omega];simp
   ·rw [show (i - i).toNat=0 by omega];exact h
  ·rw [YC,if_neg h]
   rcases Z2k f r (i+1) with ⟨h1,h2⟩ | ⟨h1,h2,h3,h4⟩
   ·exact .inl ⟨h1,fun x hx=> by rcases Qc.1 hx with rfl | hx;simpa using h;exact h2 x hx⟩
   ·have e:(YC f r (i+1) - i).toNat=(YC f r (i+1) - (i+1)).toNat+1:=by omega
    rw [e]
    refine .inr ⟨by omega,by simp only [Q9];omega,fun x hx=> ?_,fun z=> by simpa using h4 z⟩
    rw [List.take_succ_cons] at hx
    rcases Qc.1 hx with rfl | hx
    ·simpa using h
    ·exact h3 x hx
theorem Zo2{α:Type}(f:α->Bool)(l:List α):decide (0<=YC f l 0)=l.any f:=by
 rcases Z2k f l 0 with ⟨h1,h2⟩ | ⟨h1,h2,_,h4⟩
 ·rw [h1,Ke.2 (fun x hx=> by rw [h2 x hx];decide)];try rfl
 ·rw [decide_eq_true h1,Xs.2]
  cases l with
  | nil=> simp at h2;omega
  | cons a r=> exact ⟨_,Zh (by simp only [Q9] at h2 ⊢;omega) a,h4 a⟩
theorem ZtN:Contract Try.prog cfg 192 Z5x:=by
 refine ZpJ Zlb ?_
 intro l f _ hp
 simp only [Zds] at hp
 refine Zvc l f _ ?_
 refine Za (ι:=Int) (fun i=> Z4m l f i) (fun i=> 0<=i/\i<=l.length/\YC (fun w:WEdit=> decide (WEdit.mask w=0)) (l.drop i.toNat) i=YC (fun w:WEdit=> decide (WEdit.mask w=0)) l 0) (fun i=> ((l.length:Int) - i).toNat) 0 rfl ⟨by omega,by omega,rfl⟩ ?_
 rintro i ⟨h1,h2,h3⟩
 refine Zly l f _ _ _ ?_
 (simp only [vcT,vcS])
 refine ⟨fun hi=> ⟨⟨h1,hi⟩,trivial,fun he=> ?_,fun he=> ⟨by unfold InR;omega,i+1,rfl,⟨by omega,by omega,?_⟩,by omega⟩⟩,fun hi=> ?_⟩
 ·rw [YL h1 hi ⟨0,0,0,0⟩,YC,if_pos (decide_eq_true he)] at h3
  simp only [Zdb,<-h3]
  (repeat' (first | exact trivial | exact rfl | apply And.intro))
 ·rw [YL h1 hi ⟨0,0,0,0⟩,YC,if_neg (fun e=> he (of_decide_eq_true e))] at h3
  exact h3
 ·rw [Qj (by omega),YC] at h3
  simp only [Zdb,<-h3]
  (repeat' (first | exact trivial | exact rfl | apply And.intro))
theorem Zoi:Contract Try.prog cfg 72 Z3g:=by
 refine Zn6 Zla ?_
 intro l f _ hp
 simp only [Z9p] at hp
 refine Zsy l f _ ?_
 refine Za (ι:=Int) (fun i=> Z2R l f i) (fun i=> 0<=i/\i<=l.length/\YC (fun k:Kid=> decide (Edit.kind (KidOf.e k)=0)) (l.drop i.toNat) i=YC (fun k:Kid=> decide (Edit.kind (KidOf.e k)=0)) l 0) (fun i=> ((l.length:Int) - i).toNat) 0 rfl ⟨by omega,by omega,rfl⟩ ?_
 rintro i ⟨h1,h2,h3⟩
 refine Zk6 l f _ _ _ ?_
 intro y1 e1 y2 e2
 (simp only [vcT,vcS])
 subst_vars
 refine ⟨fun hi=> ⟨⟨h1,hi⟩,trivial,fun he=> ?_,fun he=> ⟨by unfold InR;omega,i+1,rfl,⟨by omega,by omega,?_⟩,by omega⟩⟩,fun hi=> ?_⟩
 ·rw [YL h1 hi ⟨0,Edit.nil⟩,YC,if_pos (decide_eq_true he)] at h3
  simp only [Z9n,<-h3]
  (repeat' (first | exact trivial | exact rfl | apply And.intro))
 ·rw [YL h1 hi ⟨0,Edit.nil⟩,YC,if_neg (fun e=> he (of_decide_eq_true e))] at h3
  exact h3
 ·rw [Qj (by omega),YC] at h3
  simp only [Z9n,<-h3]
  (repeat' (first | exact trivial | exact rfl | apply And.intro))
theorem ZtM:Contract Try.prog cfg 193 Z5w:=by
 refine ZpI ZtQ ?_
 intro l f _ hp
 simp only [Zdr] at hp
 refine Zvb l f _ ?_
 refine Za (ι:=Int) (fun i=> Z4l l f i) (fun i=> 0<=i/\i<=l.length/\YC (fun o:Op=> !decide (OpOf.kind o=0)) (l.drop i.toNat) i=YC (fun o:Op=> !decide (OpOf.kind o=0)) l 0) (fun i=> ((l.length:Int) - i).toNat) 0 rfl ⟨by omega,by omega,rfl⟩ ?_
 rintro i ⟨h1,h2,h3⟩
 refine Zlx l f _ _ _ ?_
 intro y1 e1 y2 e2
 (simp only [vcT,vcS])
 subst_vars
 refine ⟨fun hi=> ⟨⟨h1,hi⟩,trivial,fun he=> ?_,fun he=> ⟨by unfold InR;omega,i+1,rfl,⟨by omega,by omega,?_⟩,by omega⟩⟩,fun hi=> ?_⟩
 ·rw [YL h1 hi Op.nil,YC,if_pos (by simpa using he)] at h3
  simp only [Zda,<-h3]
  (repeat' (first | exact trivial | exact rfl | apply And.intro))
 ·rw [YL h1 hi Op.nil,YC,if_neg (by simpa using he)] at h3
  exact h3
 ·rw [Qj (by omega),YC] at h3
  simp only [Zda,<-h3]
  (repeat' (first | exact trivial | exact rfl | apply And.intro))
theorem ZtR:Contract Try.prog cfg 181 Z5B:=by
 refine ZpP ZtM ?_
 intro l f _ hp
 simp only [Zdr] at hp
 refine Zvi l f _ ⟨hp,?_⟩
 simp only [Zgw]
 rw [Zo2]
 (repeat' (first | exact trivial | exact rfl | apply And.intro))
theorem ZtV:Contract Try.prog cfg 177 Z5D:=by
 refine ZpT ?_
 intro n _ _
 refine Zvm _ _ ?_
 (simp only [vcT,vcS])
 refine ⟨fun h=> ?_,fun h=> ?_⟩
 ·simp only [Zde,Jx,if_pos h]
  (repeat' (first | exact trivial | exact rfl | apply And.intro))
 ·simp only [Zde,Jx,if_neg h]
  (repeat' (first | exact trivial | exact rfl | apply And.intro))
theorem Zu5:Contract Try.prog cfg 153 Z99:=by
 refine Zq6 ?_
 intro l _ hp
 simp only [ZaF] at hp
 refine ZvA _ _ ⟨fun h=> ?_,fun _=> ⟨by simp only [Qb];omega,?_⟩⟩
 ·subst h
  simp only [Z9l]
  (repeat' (first | exact trivial | exact rfl | apply And.intro))
 ·simp only [Z9l]
  (repeat' (first | exact trivial | exact rfl | apply And.intro))
theorem Zu2:Contract Try.prog cfg 156 Z96:=by
 refine Zq3 ?_
 intro l _ hp
 simp only [ZaD] at hp
 refine Zvx _ _ ⟨fun h=> ?_,fun _=> ⟨by simp only [Qb];omega,?_⟩⟩
 ·subst h
  simp only [Z9k]
  (repeat' (first | exact trivial | exact rfl | apply And.intro))
 ·simp only [Z9k]
  (repeat' (first | exact trivial | exact rfl | apply And.intro))
structure DInv {α:Type} (g:α->Bool) (l L:List α) (i j:Int):Prop where
 i0:0<=i
 ij:i < j
 jl:j<=l.length
 len:L.length=l.length
 tk:L.take i.toNat=(l.take j.toNat).filter g
 dr:L.drop j.toNat=l.drop j.toNat
theorem DInv.one{α:Type}{f:α->Bool}{l:List α}{k:Int}(e:YC f l 0=k)(hk:k≠-1):DInv (fun a=> !f a) l l k (k+1):=by
 subst e
 rcases Z2k f l 0 with ⟨h1,_⟩ | ⟨h1,h2,h3,h4⟩
 ·exact absurd h1 hk
 ·rw [Int.sub_zero] at h3 h4
  refine ⟨h1,by omega,by omega,rfl,?_,rfl⟩
  cases l with
  | nil=> simp at h2;omega
  | cons a r=>
   rw [show (YC f (a ::r) 0+1).toNat=(YC f (a ::r) 0).toNat+1 by omega,Z77 (by omega) a,K9,XB,h4 a,K5.2 (fun x hx=> by rw [h3 x hx];rfl)]
   simp
theorem DInv.get{α:Type}{g:α->Bool}{l L:List α}{i j:Int}(h:DInv g l L i j)(z:α):L.getD j.toNat z=l.getD j.toNat z:=by
 have:=congrArg (fun x=> x.getD 0 z) h.dr
 simpa [Qm] using this
theorem DInv.next{α:Type}{g:α->Bool}{l L:List α}{i j:Int}(h:DInv g l L i j)(hj:j < l.length)(z:α):
  (g (L.getD j.toNat z)=true->DInv g l (L.set i.toNat (L.getD j.toNat z)) (i+1) (j+1))/\(g (L.getD j.toNat z)=false->DInv g l L i (j+1)):=by
 obtain ⟨i0,ij,jl,len,tk,dr⟩:=h
 have e:=DInv.get ⟨i0,ij,jl,len,tk,dr⟩ z
 have t1:l.take (j+1).toNat=l.take j.toNat++[l.getD j.toNat z]:=by rw [show (j+1).toNat=j.toNat+1 by omega];exact Z77 (by omega) z
 have d1:L.drop (j+1).toNat=l.drop (j+1).toNat:=by
  have:=congrArg (List.drop 1) dr
  rw [List.drop_drop,List.drop_drop] at this
  rw [show (j+1).toNat=j.toNat+1 by omega];exact this
 refine ⟨fun hg=> ⟨by omega,by omega,by omega,by rw [K1];exact len,?_,?_⟩,fun hg=> ⟨i0,by omega,by omega,len,?_,d1⟩⟩
 ·have hlt:i.toNat < L.length:=by omega
  rw [show (i+1).toNat=i.toNat+1 by omega,Z77 (by rw [K1];exact hlt) z,t1,K9,<-tk,List.take_set_of_le (by omega)]
  rw [e] at hg
  rw [XB,if_pos hg,e]
  simp [Qm,hlt]
 ·rw [List.drop_set,if_pos (by omega)]
  exact d1
 ·rw [t1,K9,<-tk]
  rw [e] at hg
  rw [XB,hg]
  simp
theorem DInv.fin{α:Type}{g:α->Bool}{l L:List α}{i j:Int}(h:DInv g l L i j)(hj:¬j < l.length)(r:List α):List.take i.toNat (List.take i.toNat L++r)=l.filter g:=by
 have h1:=h.ij;have h2:=h.jl;have h3:=h.len;have h4:=h.i0
 rw [List.take_append_of_le_length (by rw [Qk];omega),List.take_take,Nat.min_self,h.tk,QJ (by omega)]
theorem ZtX:Contract Try.prog cfg 173 Z5F:=by
 refine ZpX Zlb ZtN ?_
 intro l f _ hp
 simp only [Zds] at hp
 refine Zvq l f _ ?_
 (simp only [vcT,vcS])
 refine ⟨hp,fun h=> ?_,fun h=> ?_⟩
 ·have e:l.filter (fun w=> !decide (WEdit.mask w=0))=l:=by
   rcases Z2k (fun w:WEdit=> decide (WEdit.mask w=0)) l 0 with ⟨_,h2⟩ | ⟨h1,_⟩
   ·exact K5.2 fun x hx=> by rw [h2 x hx];try rfl
   ·omega
  simp only [Zdg,Z9e,Z9i,e]
  (repeat' (first | exact trivial | exact rfl | apply And.intro))
 ·have D:=DInv.one (f:=fun w:WEdit=> decide (WEdit.mask w=0)) (l:=l) rfl h
  have:=D.jl;have:=D.i0
  refine ⟨by unfold InR;omega,?_⟩
  refine Za (ι:=List WEdit × Int × Int) (fun s=> Z2n l f s.2.1 s.2.2 s.1) (fun s=> DInv (fun w:WEdit=> !decide (WEdit.mask w=0)) l s.1 s.2.1 s.2.2) (fun s=> ((l.length:Int) - s.2.2).toNat) (l,_,_) rfl D ?_
  rintro ⟨L,i,j⟩ D
  dsimp only at D
  have hl:=D.len;have h0:=D.i0;have h1:=D.ij;have h2:=D.jl
  refine ZlA l f _ _ _ _ _ ?_
  intro y1 hy1 y2 hy2
  subst hy2
  (simp only [vcT,vcS])
  refine ⟨fun hj=> ?_,fun hj=> ?_⟩
  ·have hn:=D.next (by omega) ⟨0,0,0,0⟩
   rw [<-hy1] at hn
   refine ⟨⟨by omega,hj⟩,trivial,fun he=> ⟨⟨h0,by omega⟩,X2 _,by unfold InR;omega,by unfold InR;omega,(_,i+1,j+1),rfl,hn.1 (by simpa using he),by dsimp only;omega⟩,fun he=> ⟨by unfold InR;omega,(L,i,j+1),rfl,hn.2 (by simpa using he),by dsimp only;omega⟩⟩
  ·refine ⟨⟨h0,by omega⟩,X2 _,⟨h0,by simp only [Q6,Qk,QZ];omega⟩,?_⟩
   rw [D.fin (by omega)]
   simp only [Zdg,Z9e,Z9i]
   (repeat' (first | exact trivial | exact rfl | apply And.intro))
theorem ZtW:Contract Try.prog cfg 175 Z5E:=by
 refine ZpV Zla Zoi ?_
 intro l f _ hp
 simp only [Z9p] at hp
 refine Zvo l f _ ?_
 (simp only [vcT,vcS])
 refine ⟨hp,fun h=> ?_,fun h=> ?_⟩
 ·have e:l.filter (fun k=> !decide (Edit.kind (KidOf.e k)=0))=l:=by
   rcases Z2k (fun k:Kid=> decide (Edit.kind (KidOf.e k)=0)) l 0 with ⟨_,h2⟩ | ⟨h1,_⟩
   ·exact K5.2 fun x hx=> by rw [h2 x hx];try rfl
   ·omega
  simp only [Zdf,Z9d,Z9h,e]
  (repeat' (first | exact trivial | exact rfl | apply And.intro))
 ·have D:=DInv.one (f:=fun k:Kid=> decide (Edit.kind (KidOf.e k)=0)) (l:=l) rfl h
  have:=D.jl;have:=D.i0
  refine ⟨by unfold InR;omega,?_⟩
  refine Za (ι:=List Kid × Int × Int) (fun s=> Z2m l f s.2.1 s.2.2 s.1) (fun s=> DInv (fun k:Kid=> !decide (Edit.kind (KidOf.e k)=0)) l s.1 s.2.1 s.2.2) (fun s=> ((l.length:Int) - s.2.2).toNat) (l,_,_) rfl D ?_
  rintro ⟨L,i,j⟩ D
  dsimp only at D
  have hl:=D.len;have h0:=D.i0;have h1:=D.ij;have h2:=D.jl
  refine Zlz l f _ _ _ _ _ ?_
  intro y1 hy1 y2 hy2
  subst hy2
  (simp only [vcT,vcS])
  refine ⟨fun hj=> ?_,fun hj=> ?_⟩
  ·have hn:=D.next (by omega) ⟨0,Edit.nil⟩
   rw [<-hy1] at hn
   refine ⟨⟨by omega,hj⟩,trivial,fun he=> ⟨⟨h0,by omega⟩,X2 _,by unfold InR;omega,by unfold InR;omega,(_,i+1,j+1),rfl,hn.1 (by simpa using he),by dsimp only;omega⟩,fun he=> ⟨by unfold InR;omega,(L,i,j+1),rfl,hn.2 (by simpa using he),by dsimp only;omega⟩⟩
  ·refine ⟨⟨h0,by omega⟩,X2 _,⟨h0,by simp only [Q6,Qk,QZ];omega⟩,?_⟩
   rw [D.fin (by omega)]
   simp only [Zdf,Z9d,Z9h]
   (repeat' (first | exact trivial | exact rfl | apply And.intro))
theorem ZsC{a b n m:Nat}(h1:a<=n)(h2:b<=m)(hn:n<=10000000000)(hm:m<=10000000000):InR ((a:Int)+(b:Int)):=by unfold InR;omega
theorem ZvW{a b:Nat}(h:(a:Int)+(b:Int)=0):a+b=0:=by omega
theorem ZvV{a b:Nat}(h:¬(a:Int)+(b:Int)=0):¬a+b=0:=by omega
set_option maxHeartbeats 2000000 in
theorem Zu1:Contract Try.prog cfg 157 Z95:=by
 refine Zq2 ZtX ZtW ?_
 intro ek eo eow eok en enw enk ew ec li eos _ hp
 simp only [ZaC] at hp
 refine Zvw _ _ _ _ _ _ _ _ _ _ _ _ ?_
 (simp only [vcT,vcS])
 refine ⟨by show ew.length<=_;omega,by show ec.length<=_;omega,ZsC (XX _ _) (XX _ _) hp.1 hp.2,fun h=> ?_,fun h=> ?_⟩
 ·simp only [Zdj,Z9g,Z9j]
  rw [show Z3i (Edit.mk ek (Tree.mk eo eow eok) (Tree.mk en enw enk) ew ec li eos)=Edit.nil from if_pos (show (ew.filter fun w=> !decide (WEdit.mask w=0)).length+(ec.filter fun k=> !decide (Edit.kind (KidOf.e k)=0)).length=0 from ZvW h)]
  (repeat' (first | exact trivial | exact rfl | apply And.intro))
 ·simp only [Zdj,Z9g,Z9j]
  rw [show Z3i (Edit.mk ek (Tree.mk eo eow eok) (Tree.mk en enw enk) ew ec li eos)=Edit.mk ek (Tree.mk eo eow eok) (Tree.mk en enw enk) (ew.filter fun w=> !decide (WEdit.mask w=0)) (ec.filter fun k=> !decide (Edit.kind (KidOf.e k)=0)) li eos from if_neg (show ¬(ew.filter fun w=> !decide (WEdit.mask w=0)).length+(ec.filter fun k=> !decide (Edit.kind (KidOf.e k)=0)).length=0 from ZvV h)]
  (repeat' (first | exact trivial | exact rfl | apply And.intro))
theorem ZtY:Contract Try.prog cfg 161 Z92:=by
 refine ZpZ ZtR ?_
 intro list l _ hp
 simp only [ZaB] at hp
 refine Zvs _ _ _ ⟨hp,fun h=> ?_,fun h=> ?_⟩
 ·simp only [QQ] at h
  simp only [Zdi,Z1c]
  rw [if_neg (by rw [h];decide)]
  (repeat' (first | exact trivial | exact rfl | apply And.intro))
 ·simp only [Ka] at h
  simp only [Zdi,Z1c]
  rw [if_pos h]
  (repeat' (first | exact trivial | exact rfl | apply And.intro))
theorem Zub:Contract Try.prog cfg 112 Z9b:=by
 refine Zqg c26 Z8X ?_
 intro mc ma e o n _ hp
 simp only [Z7q] at hp
 obtain ⟨he,ho,hn⟩:=hp
 refine ZvM _ _ _ _ _ _ ?_
 intro y1 h1 y2 h2 y3 h3 y4 h4
 subst h1 h2 h3
 (simp only [vcT,vcS])
 have ed:doB y1 y3=(y4,(doE false y1 y3).isSome):=by rw [h4];try rfl
 refine ⟨⟨he,ho⟩,fun h=> ?_,fun h=> ⟨⟨?_,by show Zj y2<=_;omega⟩,fun h2=> ?_,fun h2=> ?_⟩⟩
 ·simp only [Zau,Z5Z,JO,ed,h,XN,Xr,Qp,Xf]
  (repeat' (first | exact trivial | exact rfl | apply And.intro))
 ·show Zj y4<=_
  rw [h4]
  exact ZgW he.2.2 ho.1
 ·simp only [Zau,Z5Z,JO,ed,h,h2,Qz,Xh,Xr,Qp,Xf]
  (repeat' (first | exact trivial | exact rfl | apply And.intro))
 ·simp only [Zau,Z5Z,JO,ed,h,h2,Qz,Xh,Qp]
  (repeat' (first | exact trivial | exact rfl | apply And.intro))
theorem Z6o(l:List Tree):(Z36 l).length<=1:=by unfold Z36;split <;> simp
theorem ZtZ:Contract Try.prog cfg 159 Z93:=by
 refine Zq0 Zee ZtV ZtU ?_
 intro sm_ sx sy si sh mc ma _ hp
 simp only [ZdC] at hp
 obtain ⟨⟨h1,h2⟩,h3,h4⟩:=hp
 have k1:=Z4j si.length
 have k2:=Z4j sh.length
 have k3:=Z6o si
 have k4:=Z6o sh
 refine Zvu sm_ _ _ _ _ _ _ _ ?_
 (simp only [vcT,vcS])
 refine ⟨fun hb=> ⟨⟨by show Z4 si<=_;omega,by show Z4 sh<=_;omega⟩,fun he=> ?_,fun he=> ?_⟩,fun hb=> ?_⟩
 ·have e:YX si sh=⟨Jx sh.length,Jx si.length,true,false⟩:=by
   rw [YX,if_pos ⟨fun e=> by rw [e] at hb;simp at hb,fun e=> by rw [e] at hb;simp at hb⟩,Z7S,he];try rfl
  refine ⟨trivial,by omega,trivial,by omega,?_⟩
  simp only [Z5V,e,Xf]
  (repeat' (first | exact trivial | exact rfl | apply And.intro))
 ·have e:YX si sh=⟨Jx sh.length,Jx si.length,false,false⟩:=by
   rw [YX,if_pos ⟨fun e=> by rw [e] at hb;simp at hb,fun e=> by rw [e] at hb;simp at hb⟩,Z7S,he];try rfl
  refine ⟨trivial,by omega,trivial,by omega,?_⟩
  simp only [Z5V,e,Qp]
  (repeat' (first | exact trivial | exact rfl | apply And.intro))
 ·have e:YX si sh=⟨Z36 si++Jx sh.length,Jx si.length++Z36 sh,false,false⟩:=by
   rw [YX,if_neg]
   rintro ⟨a,b⟩
   have:=Xt.2 a
   have:=Xt.2 b
   omega
  refine ⟨trivial,by omega,trivial,by rw [Q6];omega,trivial,by omega,trivial,by rw [Q6];omega,?_⟩
  simp only [Z5V,e,Qp,<-Qe]
  (repeat' (first | exact trivial | exact rfl | apply And.intro))
end Go.AM.Ytpjenobkibfpcaa
