import Derived.Test.YtpjenobkibfpcaaGreatZCD30b
import Derived.Test.YtpjenobkibfpcaaGreatZCB30a
import Derived.Test.YtpjenobkibfpcaaGreatZCL30k
set_option linter.unusedSimpArgs false
set_option linter.unusedVariables false
namespace Go.AM.YtpjenobkibfpcaaGreat
open Go.AM Go.Proofs
noncomputable section
def Zr9:ArgL (WEdit × Unit):=(.cons (aEl .wedit) .nil)
def ZiK(a:WEdit × Unit):Prop:=True
def ZmP(a:WEdit × Unit):V U:= .c (.bool (decide (WEdit.mask a.1=0)))
def Z3r:Fs U:=fs Zr9 (fun a=> [ZiK a]) ZmP
def Zr8:ArgL (Kid × Unit):=(.cons (aEl .kid) .nil)
def ZiI(a:Kid × Unit):Prop:=True
def ZmO(a:Kid × Unit):V U:= .c (.bool (decide (Edit.kind a.1.e=0)))
def Z3q:Fs U:=fs Zr8 (fun a=> [ZiI a]) ZmO
def Zn5(a:Op × Unit):Prop:=True
def ZmM(a:Op × Unit):V U:= .c (.bool (!decide (OpOf.kind a.1=0)))
def Z8S:Fs U:=fs ZqV (fun a=> [Zn5 a]) ZmM
def ZqW:ArgL (List WEdit × Unit × Unit):=(.cons (aSl .wedit) (.cons (aFn 190) .nil))
def ZiA(a:List WEdit × Unit × Unit):Prop:=(a.1).length<=1000000000000
def Zib(a:List WEdit × Unit × Unit):V U:= .c (ci (Yy (fun w:WEdit=> decide (WEdit.mask w=0)) a.1 0))
def Z8P:Fs U:=fs ZqW (fun a=> [ZiA a]) Zib
def Zmb:ArgL (List Kid × Unit × Unit):=(.cons (aSl .kid) (.cons (aFn 192) .nil))
def Zdx(a:List Kid × Unit × Unit):Prop:=(a.1).length<=1000000000000
def Zdu(a:List Kid × Unit × Unit):V U:= .c (ci (Yy (fun k:Kid=> decide (Edit.kind k.e=0)) a.1 0))
def Z5B:Fs U:=fs Zmb (fun a=> [Zdx a]) Zdu
def ZqU:ArgL (List Op × Unit × Unit):=(.cons (aSl .op) (.cons (aFn 199) .nil))
def Ziz(a:List Op × Unit × Unit):Prop:=(a.1).length<=1000000000000
def Zia(a:List Op × Unit × Unit):V U:= .c (ci (Yy (fun o:Op=> !decide (OpOf.kind o=0)) a.1 0))
def Z8M:Fs U:=fs ZqU (fun a=> [Ziz a]) Zia
def ZmN(a:List Op × Unit × Unit):V U:= .c (.bool ((a.1).any fun o=> !decide (OpOf.kind o=0)))
def Z8T:Fs U:=fs ZqU (fun a=> [Ziz a]) ZmN
def Zif(a:Int × Unit):V U:= .c (sU .op (Yl a.1) (.own (.r 0 0)))
def Z8V:Fs U:=fs ZrB (fun a=> [Znb a]) Zif
def Zry:ArgL (List WEdit × Unit):=(.cons (aSl .wedit) .nil)
def Zfh(a:List WEdit × Unit):Prop:=(a.1).length<=100000000000
def Zdt(a:List WEdit × Unit):List WEdit:=a.1
def Zda:Fs U:=fsL Zry (fun a=> [Zfh a]) .wedit Zdt
def Zrw:ArgL (List Kid × Unit):=(.cons (aSl .kid) .nil)
def Zff(a:List Kid × Unit):Prop:=(a.1).length<=100000000000
def Zds(a:List Kid × Unit):List Kid:=a.1
def Zd7:Fs U:=fsL Zrw (fun a=> [Zff a]) .kid Zds
def ZdI:ArgM (List WEdit × Unit × Unit):=(.lst (cWt .wedit (.e 0 0)) (.cons (aFn 190) .nil))
def Zii(a:List WEdit × Unit × Unit):V U:= .c (sU .wedit ((a.1).filter fun w=> !decide (WEdit.mask w=0)) .unk)
def Zdi(a:List WEdit × Unit × Unit):List (List (C U)):=[]
def Zdn(a:List WEdit × Unit × Unit):List (Tok × LC U):=[]
def Z8X:Fs U:=(ZcI ZdI (fun a=> [ZiA a]) Zii Zdi Zdn).passing [0]
def ZdH:ArgM (List Kid × Unit × Unit):=(.lst (cWt .kid (.e 0 0)) (.cons (aFn 192) .nil))
def Zih(a:List Kid × Unit × Unit):V U:= .c (sU .kid ((a.1).filter fun k=> !decide (Edit.kind k.e=0)) .unk)
def Zdh(a:List Kid × Unit × Unit):List (List (C U)):=[]
def Zdm(a:List Kid × Unit × Unit):List (Tok × LC U):=[]
def Z8W:Fs U:=(ZcI ZdH (fun a=> [Zdx a]) Zih Zdh Zdm).passing [0]
def ZdP:ArgM ((Int × Int × List Int × List Tree × Int × List Int × List Tree × List WEdit × List Kid × Int × List Op × Unit) × Unit):=(.agg (.cons (ZjN .i64) (.cons (ZjN .i64) (.cons (cSl .u64) (.cons (cSl .tree) (.cons (ZjN .i64) (.cons (cSl .u64) (.cons (cSl .tree) (.cons (cWt .wedit (.e 0 7)) (.cons (cWt .kid (.e 0 8)) (.cons (ZjN .i64) (.cons (cSl .op) .nil))))))))))) .nil)
def Zfe(a:(Int × Int × List Int × List Tree × Int × List Int × List Tree × List WEdit × List Kid × Int × List Op × Unit) × Unit):Prop:=(a.1.2.2.2.2.2.2.2.1).length<=10000000000/\(a.1.2.2.2.2.2.2.2.2.1).length<=10000000000
def Zir(a:(Int × Int × List Int × List Tree × Int × List Int × List Tree × List WEdit × List Kid × Int × List Op × Unit) × Unit):V U:= .agg (enc .edit (Z5D (Edit.mk a.1.1 (Tree.mk a.1.2.1 a.1.2.2.1 a.1.2.2.2.1) (Tree.mk a.1.2.2.2.2.1 a.1.2.2.2.2.2.1 a.1.2.2.2.2.2.2.1) a.1.2.2.2.2.2.2.2.1 a.1.2.2.2.2.2.2.2.2.1 a.1.2.2.2.2.2.2.2.2.2.1 a.1.2.2.2.2.2.2.2.2.2.2.1)))
def Zdl(a:(Int × Int × List Int × List Tree × Int × List Int × List Tree × List WEdit × List Kid × Int × List Op × Unit) × Unit):List (List (C U)):=[]
def Zdr(a:(Int × Int × List Int × List Tree × Int × List Int × List Tree × List WEdit × List Kid × Int × List Op × Unit) × Unit):List (Tok × LC U):=[]
def Zd6:Fs U:=(ZcI ZdP (fun a=> [Zfe a]) Zir Zdl Zdr).passing [0]
def Zfd(a:Int × List Op × Unit):Prop:=(a.2.1).length<=1000000000000
def Ziq(a:Int × List Op × Unit):V U:= .agg (enc .edit (Yx a.1 a.2.1))
def Zd3:Fs U:=fs ZdS (fun a=> [Zfd a]) Ziq
def Zk3:ArgM ((Bool × Bool × Unit) × Edit × Tree × Tree × Unit):=(.obj 0 (.cons Z2c (.cons Z2c .nil)) (.cons (aEl .edit) (.cons (aEl .tree) (.cons (aEl .tree) .nil))))
def ZaZ(a:(Bool × Bool × Unit) × Edit × Tree × Tree × Unit):Prop:=(Z3 a.2.1<=20000000000/\J8 a.2.1/\∃ d,Zb a.2.1 d=true)/\(Zm a.2.2.1+ctE a.2.1<=200000000000/\rng a.2.2.1)/\Zm a.2.2.2.1<=100000000000
def ZeT(a:(Bool × Bool × Unit) × Edit × Tree × Tree × Unit):V U:= .tup []
def Z9l(a:(Bool × Bool × Unit) × Edit × Tree × Tree × Unit):List (List (C U)):=[[.bool (a.1.1 || (Z0k a.2.1 a.2.2.1 a.2.2.2.1).c),.bool (a.1.2.1 || (Z0k a.2.1 a.2.2.1 a.2.2.2.1).a)]]
def Zdd:Fs U:=fsX Zk3 (fun a=> [ZaZ a]) ZeT Z9l
def Zk0:ArgM ((Unit × List Op × List Op × List Tree × List Tree × Unit) × (Bool × Bool × Unit) × Unit):=(.obj 0 (.cons (cXp 1) (.cons (Z4C .op 0 1) (.cons (Z4C .op 0 2) (.cons (Z4C .tree 0 3) (.cons (Z4C .tree 0 4) .nil))))) (.hid (.cons Z2c (.cons Z2c .nil)) .nil))
def ZiR(a:(Unit × List Op × List Op × List Tree × List Tree × Unit) × (Bool × Bool × Unit) × Unit):Prop:=((a.1.2.1).length<=10000000000/\(a.1.2.2.1).length<=10000000000)/\Z9 a.1.2.2.2.1<=100000000000/\Z9 a.1.2.2.2.2.1<=100000000000
def Zv2(a:(Unit × List Op × List Op × List Tree × List Tree × Unit) × (Bool × Bool × Unit) × Unit):V U:= .tup []
def Z9h(a:(Unit × List Op × List Op × List Tree × List Tree × Unit) × (Bool × Bool × Unit) × Unit):List (List (C U)):=[[.xp 1,sU .op (a.1.2.1++(Ym a.1.2.2.2.1 a.1.2.2.2.2.1).x) (.own (.x 0 1)),sU .op (a.1.2.2.1++(Ym a.1.2.2.2.1 a.1.2.2.2.2.1).y) (.own (.x 0 2)),sU .tree ([]:List Tree) (.own (.x 0 3)),sU .tree ([]:List Tree) (.own (.x 0 4))],[.bool (a.2.1.1 || (Ym a.1.2.2.2.1 a.1.2.2.2.2.1).c),.bool a.2.1.2.1]]
def Zd4:Fs U:=fsX Zk0 (fun a=> [ZiR a]) Zv2 Z9h
abbrev ZJm(p:List Nat):=AW (Z0 ZnJ) Tryz.f190 ZDQ p
theorem ZGp(w:WEdit)(Q:QT)(h:(Q .ret (L2 [pB 2 (w.mask==0)] []))):
  ZJm [] (L2 [(0,.agg (enc .wedit w))] []) Q:=
 Eq.mpr V4 h
def ZB2(w:WEdit):Prop:=AW (Z0 ZnJ) Tryz.f190 ZDQ [] (Zh (Zr9.can (w,())) []) (EQ Tryz.f190 (ZmP (w,())) [])
theorem Zze(hb:∀ (w:WEdit) (_:Unit),ZiK (w,())->ZB2 w):CT 190 Z3r:=
 Z1 (l:=[]) Zi rfl trivial ZDQ Tryz.func190 rfl rfl 1 (fun _=> rfl) V1 (fun ⟨w,_⟩=> hb w ())
abbrev ZJl(p:List Nat):=AW (Z0 ZnJ) Tryz.f192 ZDQ p
theorem ZGn(k:Kid)(Q:QT)(h:(Q .ret (L2 [pB 2 (k.e.kind==0)] []))):
  ZJl [] (L2 [(0,.agg (enc .kid k))] []) Q:=
 Eq.mpr V4 h
def ZB0(k:Kid):Prop:=AW (Z0 ZnJ) Tryz.f192 ZDQ [] (Zh (Zr8.can (k,())) []) (EQ Tryz.f192 (ZmO (k,())) [])
theorem Zzc(hb:∀ (k:Kid) (_:Unit),ZiI (k,())->ZB0 k):CT 192 Z3q:=
 Z1 (l:=[]) Zi rfl trivial ZDQ Tryz.func192 rfl rfl 1 (fun _=> rfl) V1 (fun ⟨k,_⟩=> hb k ())
abbrev ZJf(p:List Nat):=AW (Z0 ZnJ) Tryz.f199 ZDQ p
theorem ZGg(o:Op)(Q:QT)(h:(Q .ret (L2 [pB 2 (o.kind !=0)] []))):
  ZJf [] (L2 [(0,.agg (enc .op o))] []) Q:=
 Eq.mpr V4 h
def ZAT(o:Op):Prop:=AW (Z0 ZnJ) Tryz.f199 ZDQ [] (Zh (ZqV.can (o,())) []) (EQ Tryz.f199 (ZmM (o,())) [])
theorem Zz5(hb:∀ (o:Op) (_:Unit),Zn5 (o,())->ZAT o):CT 199 Z8S:=
 Z1 (l:=[]) Zi rfl trivial ZDQ Tryz.func199 rfl rfl 1 (fun _=> rfl) V1 (fun ⟨o,_⟩=> hb o ())
def Zje:List (FuncId × Fs U):=[(190,Z3r)]
def Zpr:Zc U:=lvl [([0,1],[]),([0,1,7,8],[]),([0,1,7,8,9],[]),([0,1,5,7,8],[]),([0,1,5,7,8,16],[]),([4],[]),([0,1,7,8],[]),([4],[])]
def Z71(l:List WEdit)(f:Unit)(x8:Int):LSt U:=(L2 [(0,.c (sU .wedit l .unk)),(1,.fn 190),pI 7 (l.length:Int),pI 8 x8] [])
abbrev ZFK(p:List Nat):=AW (Z0 Zje) Tryz.f224 Zpr p
abbrev ZI7(p:List Nat):=SW (Z0 Zje) Tryz.f224 Zpr p
theorem ZG9(l:List WEdit)(f:Unit)(Q:QT)(h:(Zd (ZFK [1,0,1,0,0]) (Z71 l f 0) (xB 0 (ZI7 [1,1] Q)))):
  ZFK [] (L2 [(0,.c (sU .wedit l .unk)),(1,.fn 190)] []) Q:=
 Eq.mpr V4 h
theorem Ztt(l:List WEdit)(f:Unit)(x8:Int)(N0:NT)(Q:QT)(h:let z0:=l.getD x8.toNat (WEdit.mk 0 0 0 0);let z1:=WEdit.mk (WEdit.at_ z0) (WEdit.mask z0) (WEdit.old z0) (WEdit.new z0);(iB (decide (x8 < (l.length:Int))) ((((0:Int)<=x8/\x8 < (l.length:Int))/\(ZiK (z1,()))/\(iB (decide (WEdit.mask z1=0)) ((Q .ret (L2 [pI 4 x8] []))) ((InR (x8+1))/\(N0 (Z71 l f (x8+1))))))) ((Q .ret (L2 [pI 4 (-1)] []))))):
  ZFK [1,0,1,0,0] (Z71 l f x8) (xT N0 (xB 0 (ZI7 [1,1] Q))):=
 Eq.mpr V4 h
def ZAM(l:List WEdit)(f:Unit):Prop:=AW (Z0 Zje) Tryz.f224 Zpr [] (Zh (ZqW.can (l,f,())) []) (EQ Tryz.f224 (Zib (l,f,())) [])
theorem ZyY(Zt2:CT 190 Z3r)(hb:∀ (l:List WEdit) (f:Unit) (_:Unit),ZiA (l,f,())->ZAM l f):CT 224 Z8P:=
 Z1 (l:=[(190,Z3r)]) Zi rfl (⟨Zt2,trivial⟩) Zpr Tryz.func224 rfl rfl 2 (fun _=> rfl) V1 (fun ⟨l,f,_⟩=> hb l f ())
def ZfS:List (FuncId × Fs U):=[(192,Z3q)]
def Z5b(l:List Kid)(f:Unit)(x8:Int):LSt U:=(L2 [(0,.c (sU .kid l .unk)),(1,.fn 192),pI 7 (l.length:Int),pI 8 x8] [])
abbrev ZxV(p:List Nat):=AW (Z0 ZfS) Tryz.f225 Zpr p
abbrev ZCD(p:List Nat):=SW (Z0 ZfS) Tryz.f225 Zpr p
theorem ZCV(l:List Kid)(f:Unit)(Q:QT)(h:(Zd (ZxV [1,0,1,0,0]) (Z5b l f 0) (xB 0 (ZCD [1,1] Q)))):
  ZxV [] (L2 [(0,.c (sU .kid l .unk)),(1,.fn 192)] []) Q:=
 Eq.mpr V4 h
theorem ZrY(l:List Kid)(f:Unit)(x8:Int)(N0:NT)(Q:QT)(h:∀ y_1,y_1=(l.getD x8.toNat (KidOf.mk 0 Edit.nil))->∀ y_2,y_2=y_1->(iB (decide (x8 < (l.length:Int))) ((((0:Int)<=x8/\x8 < (l.length:Int))/\(ZiI (y_2,()))/\(iB (decide (Edit.kind y_2.e=0)) ((Q .ret (L2 [pI 4 x8] []))) ((InR (x8+1))/\(N0 (Z5b l f (x8+1))))))) ((Q .ret (L2 [pI 4 (-1)] []))))):
  ZxV [1,0,1,0,0] (Z5b l f x8) (xT N0 (xB 0 (ZCD [1,1] Q))):=
 Eq.mpr V4 (h _ rfl _ (ZkW _))
def ZxQ(l:List Kid)(f:Unit):Prop:=AW (Z0 ZfS) Tryz.f225 Zpr [] (Zh (Zmb.can (l,f,())) []) (EQ Tryz.f225 (Zdu (l,f,())) [])
theorem ZvU(Zt1:CT 192 Z3q)(hb:∀ (l:List Kid) (f:Unit) (_:Unit),Zdx (l,f,())->ZxQ l f):CT 225 Z5B:=
 Z1 (l:=[(192,Z3q)]) Zi rfl (⟨Zt1,trivial⟩) Zpr Tryz.func225 rfl rfl 2 (fun _=> rfl) V1 (fun ⟨l,f,_⟩=> hb l f ())
def Zjd:List (FuncId × Fs U):=[(199,Z8S)]
def Z70(l:List Op)(f:Unit)(x8:Int):LSt U:=(L2 [(0,.c (sU .op l .unk)),(1,.fn 199),pI 7 (l.length:Int),pI 8 x8] [])
abbrev ZFJ(p:List Nat):=AW (Z0 Zjd) Tryz.f230 Zpr p
abbrev ZI6(p:List Nat):=SW (Z0 Zjd) Tryz.f230 Zpr p
theorem ZG4(l:List Op)(f:Unit)(Q:QT)(h:(Zd (ZFJ [1,0,1,0,0]) (Z70 l f 0) (xB 0 (ZI6 [1,1] Q)))):
  ZFJ [] (L2 [(0,.c (sU .op l .unk)),(1,.fn 199)] []) Q:=
 Eq.mpr V4 h
theorem Zts(l:List Op)(f:Unit)(x8:Int)(N0:NT)(Q:QT)(h:∀ y_1,y_1=(l.getD x8.toNat Op.nil)->∀ y_2,y_2=y_1->(iB (decide (x8 < (l.length:Int))) ((((0:Int)<=x8/\x8 < (l.length:Int))/\(Zn5 (y_2,()))/\(iB (!decide (OpOf.kind y_2=0)) ((Q .ret (L2 [pI 4 x8] []))) ((InR (x8+1))/\(N0 (Z70 l f (x8+1))))))) ((Q .ret (L2 [pI 4 (-1)] []))))):
  ZFJ [1,0,1,0,0] (Z70 l f x8) (xT N0 (xB 0 (ZI6 [1,1] Q))):=
 Eq.mpr V4 (h _ rfl _ (Yw _))
def ZAH(l:List Op)(f:Unit):Prop:=AW (Z0 Zjd) Tryz.f230 Zpr [] (Zh (ZqU.can (l,f,())) []) (EQ Tryz.f230 (Zia (l,f,())) [])
theorem ZyT(ZEm:CT 199 Z8S)(hb:∀ (l:List Op) (f:Unit) (_:Unit),Ziz (l,f,())->ZAH l f):CT 230 Z8M:=
 Z1 (l:=[(199,Z8S)]) Zi rfl (⟨ZEm,trivial⟩) Zpr Tryz.func230 rfl rfl 2 (fun _=> rfl) V1 (fun ⟨l,f,_⟩=> hb l f ())
def Zq4:List (FuncId × Fs U):=[(230,Z8M)]
abbrev ZJg(p:List Nat):=AW (Z0 Zq4) Tryz.f198 ZwH p
theorem ZGh(l:List Op)(f:Unit)(Q:QT)(h:((Ziz (l,(),()))/\(Q .ret (L2 [(4,.c (.bool (decide ((0:Int)<=(Yy (fun o:Op=> !decide (OpOf.kind o=0)) l 0)))))] [])))):
  ZJg [] (L2 [(0,.c (sU .op l .unk)),(1,.fn 199)] []) Q:=
 Eq.mpr V4 h
def ZAU(l:List Op)(f:Unit):Prop:=AW (Z0 Zq4) Tryz.f198 ZwH [] (Zh (ZqU.can (l,f,())) []) (EQ Tryz.f198 (ZmN (l,f,())) [])
theorem Zz6(ZEc:CT 230 Z8M)(hb:∀ (l:List Op) (f:Unit) (_:Unit),Ziz (l,f,())->ZAU l f):CT 198 Z8T:=
 Z1 (l:=[(230,Z8M)]) Zi rfl (⟨ZEc,trivial⟩) ZwH Tryz.func198 rfl rfl 2 (fun _=> rfl) V1 (fun ⟨l,f,_⟩=> hb l f ())
abbrev ZJk(p:List Nat):=AW (Z0 ZnJ) Tryz.f194 ZwD p
theorem ZGl(n:Int)(Q:QT)(h:(iB (n==0) ((Q .ret (L2 [(2,.c (.nils))] []))) ((Q .ret (L2 [(2,.c (sU .op ([(OpOf.mk 0 n [] (Edit.mk 0 (Tree.mk 0 [] []) (Tree.mk 0 [] []) [] [] 0 []))]) .full))] []))))):
  ZJk [] (L2 [pI 0 n] []) Q:=
 Eq.mpr V4 h
def ZAY(n:Int):Prop:=AW (Z0 ZnJ) Tryz.f194 ZwD [] (Zh (ZrB.can (n,())) []) (EQ Tryz.f194 (Zif (n,())) [])
theorem Zza(hb:∀ (n:Int) (_:Unit),Znb (n,())->ZAY n):CT 194 Z8V:=
 Z1 (l:=[]) Zi rfl trivial ZwD Tryz.func194 rfl rfl 1 (fun _=> rfl) V1 (fun ⟨n,_⟩=> hb n ())
def Zwz:Zc U:=lvk [([0],[]),([0,4],[]),([(2,[.wr .wedit])],[]),([(2,[.wr .wedit])],[])]
abbrev ZJD(p:List Nat):=AW (Z3d ZnJ) Tryz.f138 Zwz p
theorem ZH1(l:List WEdit)(Q:QT)(h:(((l=[])->(Q .ret (⟨[(2,.c (.mref (.e 2 0)))],[],[(.e 2 0,LC.mk (U:=U) .wedit [] 0)]⟩:LSt U)))/\(True->((([]:List WEdit).length+l.length)*32<=140737488355328)/\(Q .ret (⟨[(2,.c (.mref (.e 2 0)))],[],[(.e 2 0,LC.mk (U:=U) .wedit (([]:List WEdit)++l) (([]:List WEdit).length))]⟩:LSt U))))):
  ZJD [] (L2 [(0,.c (sU .wedit l .unk))] []) Q:=
 Eq.mpr V4 h
def ZBE(l:List WEdit):Prop:=AW (Z3d ZnJ) Tryz.f138 Zwz [] (Zh (Zry.can (l,())) []) (Z09 cfg Tryz.f138.ntmps Tryz.f138.results.toList (.c (.mref (.r 0 0))) [] [(.r 0 0,LC.mk (U:=U) .wedit (Zdt (l,())) 0)])
theorem ZzM(hb:∀ (l:List WEdit) (_:Unit),Zfh (l,())->ZBE l):CT 138 Zda:=
 Z1e (l:=[]) Zi rfl trivial Zwz Tryz.func138 rfl rfl 1 (fun _=> rfl) V1 (fun ⟨l,_⟩=> hb l ())
def Zww:Zc U:=lvk [([0],[]),([0,4],[]),([(2,[.wr .kid])],[]),([(2,[.wr .kid])],[])]
abbrev ZJA(p:List Nat):=AW (Z3d ZnJ) Tryz.f141 Zww p
theorem ZGY(l:List Kid)(Q:QT)(h:(((l=[])->(Q .ret (⟨[(2,.c (.mref (.e 2 0)))],[],[(.e 2 0,LC.mk (U:=U) .kid [] 0)]⟩:LSt U)))/\(True->((([]:List Kid).length+l.length)*208<=140737488355328)/\(Q .ret (⟨[(2,.c (.mref (.e 2 0)))],[],[(.e 2 0,LC.mk (U:=U) .kid (([]:List Kid)++l) (([]:List Kid).length))]⟩:LSt U))))):
  ZJA [] (L2 [(0,.c (sU .kid l .unk))] []) Q:=
 Eq.mpr V4 h
def ZBB(l:List Kid):Prop:=AW (Z3d ZnJ) Tryz.f141 Zww [] (Zh (Zrw.can (l,())) []) (Z09 cfg Tryz.f141.ntmps Tryz.f141.results.toList (.c (.mref (.r 0 0))) [] [(.r 0 0,LC.mk (U:=U) .kid (Zds (l,())) 0)])
theorem ZzJ(hb:∀ (l:List Kid) (_:Unit),Zff (l,())->ZBB l):CT 141 Zd7:=
 Z1e (l:=[]) Zi rfl trivial Zww Tryz.func141 rfl rfl 1 (fun _=> rfl) V1 (fun ⟨l,_⟩=> hb l ())
def Zjh:List (FuncId × Fs U):=[(190,Z3r),(224,Z8P.lend)]
def Zpu:Zc U:=lvk [([(0,[.wr .wedit]),1],[]),([(0,[.wr .wedit]),1,5],[]),([(0,[.wr .wedit]),1,5,12],[]),([4],[]),([(0,[.wr .wedit]),1,5,6],[]),([(0,[.wr .wedit]),1,5,6,19],[]),([(0,[.wr .wedit]),1,5,6],[]),([(0,[.wr .wedit]),1,5,6,7],[7]),([(0,[.wr .wedit]),1,5,6,7,29],[7]),([(0,[.wr .wedit]),1,5,6],[]),([(0,[.wr .wedit]),1,5,6],[]),([(0,[.wr .wedit]),5],[]),([4],[])]
def Z4u(l:List WEdit)(f:Unit)(x5 x6:Int)(re_0_0:List WEdit):LSt U:=(⟨[(0,.c (.mref (.e 0 0))),(1,.fn 190),pI 5 x5,pI 6 x6],[],[(.e 0 0,LC.mk (U:=U) .wedit re_0_0 0)]⟩:LSt U)
abbrev ZFN(p:List Nat):=AW (Z0 Zjh) Tryz.f189 Zpu p
abbrev ZI9(p:List Nat):=SW (Z0 Zjh) Tryz.f189 Zpu p
theorem ZGq(l:List WEdit)(f:Unit)(Q:QT)(h:((ZiA (l,(),()))/\(iB (((Yy (fun w:WEdit=> decide (WEdit.mask w=0)) l 0):Int)==(-1)) ((Q .ret (L2 [(4,.c (sU .wedit l (.own (.e 4 0))))] []))) ((InR (((Yy (fun w:WEdit=> decide (WEdit.mask w=0)) l 0):Int)+1))/\(Zd (ZFN [1,1,1,0,1,0,0]) (Z4u l f (Yy (fun w:WEdit=> decide (WEdit.mask w=0)) l 0) (((Yy (fun w:WEdit=> decide (WEdit.mask w=0)) l 0):Int)+1) l) (xB 0 (ZI9 [1,1,1,1] Q))))))):
  ZFN [] (⟨[(0,.c (.mref (.e 0 0))),(1,.fn 190)],[],[(.e 0 0,LC.mk (U:=U) .wedit l 0)]⟩:LSt U) Q:=
 Eq.mpr V4 h
theorem ZtB(l:List WEdit)(f:Unit)(x5 x6:Int)(re_0_0:List WEdit)(N0:NT)(Q:QT)(h:∀ y_1,y_1=(re_0_0.getD x6.toNat (WEdit.mk 0 0 0 0))->∀ y_2,y_2=y_1->(iB (decide (x6 < (re_0_0.length:Int))) (((0:Int)<=x6/\x6 < (re_0_0.length:Int))/\((ZiK (y_2,()))/\(iB (!(decide (WEdit.mask y_2=0))) (((0:Int)<=x5/\x5 < (re_0_0.length:Int))/\((0:Nat)<=x5.toNat)/\((InR (x5+1))/\((InR (x6+1))/\(N0 (Z4u l f (x5+1) (x6+1) (List.set re_0_0 x5.toNat y_2)))))) ((InR (x6+1))/\(N0 (Z4u l f x5 (x6+1) re_0_0)))))) (((0:Int)<=x5/\x5<=(re_0_0.length:Int))/\((0:Nat)<=x5.toNat)/\(((0:Int)<=x5/\x5<=((List.take x5.toNat re_0_0++List.replicate (re_0_0.length - Int.toNat x5) (WEdit.mk 0 0 0 0)).length:Int))/\(Q .ret (L2 [(4,.c (sU .wedit (List.take x5.toNat (List.take x5.toNat re_0_0++List.replicate (re_0_0.length - Int.toNat x5) (WEdit.mk 0 0 0 0))) .unk))] [])))))):
  ZFN [1,1,1,0,1,0,0] (Z4u l f x5 x6 re_0_0) (xT N0 (xB 0 (ZI9 [1,1,1,1] Q))):=
 Eq.mpr V4 (h _ rfl _ (Z0F _))
def ZB3(l:List WEdit)(f:Unit):Prop:=AW (Z0 Zjh) Tryz.f189 Zpu [] (JK (ZdI.can (l,f,())) (ZdI.canX (l,f,())) (ZdI.canL (l,f,()))) (Z09 cfg Tryz.f189.ntmps Tryz.f189.results.toList (Zii (l,f,())) (Zdi (l,f,())) (Zdn (l,f,())))
theorem Zzf(Zt2:CT 190 Z3r)(ZEf:CT 224 Z8P)(hb:∀ (l:List WEdit) (f:Unit) (_:Unit),ZiA (l,f,())->ZB3 l f):CT 189 Z8X:=
 Contract.passing <| Yg (l:=[(190,Z3r),(224,Z8P.lend)]) Zi rfl (⟨Zt2,ZEf.lend,trivial⟩) Zpu Tryz.func189 rfl rfl 2 (fun _=> rfl) V1 (fun ⟨l,f,_⟩=> hb l f ())
def Zjg:List (FuncId × Fs U):=[(192,Z3q),(225,Z5B.lend)]
def Zpt:Zc U:=lvk [([(0,[.wr .kid]),1],[]),([(0,[.wr .kid]),1,5],[]),([(0,[.wr .kid]),1,5,12],[]),([4],[]),([(0,[.wr .kid]),1,5,6],[]),([(0,[.wr .kid]),1,5,6,19],[]),([(0,[.wr .kid]),1,5,6],[]),([(0,[.wr .kid]),1,5,6,7],[7]),([(0,[.wr .kid]),1,5,6,7,29],[7]),([(0,[.wr .kid]),1,5,6],[]),([(0,[.wr .kid]),1,5,6],[]),([(0,[.wr .kid]),5],[]),([4],[])]
def Z4t(l:List Kid)(f:Unit)(x5 x6:Int)(re_0_0:List Kid):LSt U:=(⟨[(0,.c (.mref (.e 0 0))),(1,.fn 192),pI 5 x5,pI 6 x6],[],[(.e 0 0,LC.mk (U:=U) .kid re_0_0 0)]⟩:LSt U)
abbrev ZFM(p:List Nat):=AW (Z0 Zjg) Tryz.f191 Zpt p
abbrev ZI8(p:List Nat):=SW (Z0 Zjg) Tryz.f191 Zpt p
theorem ZGo(l:List Kid)(f:Unit)(Q:QT)(h:((Zdx (l,(),()))/\(iB (((Yy (fun k:Kid=> decide (Edit.kind k.e=0)) l 0):Int)==(-1)) ((Q .ret (L2 [(4,.c (sU .kid l (.own (.e 4 0))))] []))) ((InR (((Yy (fun k:Kid=> decide (Edit.kind k.e=0)) l 0):Int)+1))/\(Zd (ZFM [1,1,1,0,1,0,0]) (Z4t l f (Yy (fun k:Kid=> decide (Edit.kind k.e=0)) l 0) (((Yy (fun k:Kid=> decide (Edit.kind k.e=0)) l 0):Int)+1) l) (xB 0 (ZI8 [1,1,1,1] Q))))))):
  ZFM [] (⟨[(0,.c (.mref (.e 0 0))),(1,.fn 192)],[],[(.e 0 0,LC.mk (U:=U) .kid l 0)]⟩:LSt U) Q:=
 Eq.mpr V4 h
theorem ZtA(l:List Kid)(f:Unit)(x5 x6:Int)(re_0_0:List Kid)(N0:NT)(Q:QT)(h:∀ y_1,y_1=(re_0_0.getD x6.toNat (KidOf.mk 0 Edit.nil))->∀ y_2,y_2=y_1->(iB (decide (x6 < (re_0_0.length:Int))) (((0:Int)<=x6/\x6 < (re_0_0.length:Int))/\((ZiI (y_2,()))/\(iB (!(decide (Edit.kind y_2.e=0))) (((0:Int)<=x5/\x5 < (re_0_0.length:Int))/\((0:Nat)<=x5.toNat)/\((InR (x5+1))/\((InR (x6+1))/\(N0 (Z4t l f (x5+1) (x6+1) (List.set re_0_0 x5.toNat y_2)))))) ((InR (x6+1))/\(N0 (Z4t l f x5 (x6+1) re_0_0)))))) (((0:Int)<=x5/\x5<=(re_0_0.length:Int))/\((0:Nat)<=x5.toNat)/\(((0:Int)<=x5/\x5<=((List.take x5.toNat re_0_0++List.replicate (re_0_0.length - Int.toNat x5) (KidOf.mk 0 Edit.nil)).length:Int))/\(Q .ret (L2 [(4,.c (sU .kid (List.take x5.toNat (List.take x5.toNat re_0_0++List.replicate (re_0_0.length - Int.toNat x5) (KidOf.mk 0 Edit.nil))) .unk))] [])))))):
  ZFM [1,1,1,0,1,0,0] (Z4t l f x5 x6 re_0_0) (xT N0 (xB 0 (ZI8 [1,1,1,1] Q))):=
 Eq.mpr V4 (h _ rfl _ (ZkW _))
def ZB1(l:List Kid)(f:Unit):Prop:=AW (Z0 Zjg) Tryz.f191 Zpt [] (JK (ZdH.can (l,f,())) (ZdH.canX (l,f,())) (ZdH.canL (l,f,()))) (Z09 cfg Tryz.f191.ntmps Tryz.f191.results.toList (Zih (l,f,())) (Zdh (l,f,())) (Zdm (l,f,())))
theorem Zzd(Zt1:CT 192 Z3q)(Zxn:CT 225 Z5B)(hb:∀ (l:List Kid) (f:Unit) (_:Unit),Zdx (l,f,())->ZB1 l f):CT 191 Z8W:=
 Contract.passing <| Yg (l:=[(192,Z3q),(225,Z5B.lend)]) Zi rfl (⟨Zt1,Zxn.lend,trivial⟩) Zpt Tryz.func191 rfl rfl 2 (fun _=> rfl) V1 (fun ⟨l,f,_⟩=> hb l f ())
def Zqr:List (FuncId × Fs U):=[(189,Z8X),(191,Z8W)]
def Zwv:Zc U:=lvk [([1,2],[((.loc 1),(an 7 [.wr .wedit,.wr .kid])),2]),([1,2],[((.loc 1),(an 8 [.wr .kid])),2]),([1,2],[1,2]),([1,2,18],[1,2]),([2],[2]),([2],[2])]
abbrev ZJz(p:List Nat):=AW (Z0 Zqr) Tryz.f142 Zwv p
set_option maxHeartbeats 2000000 in
theorem ZGX(ek eo:Int)(eow:List Int)(eok:List Tree)(en:Int)(enw:List Int)(enk:List Tree)(ew:List WEdit)(ec:List Kid)(li:Int)(eos:List Op)(Q:QT)(h:((ZiA (ew,(),()))/\((Zdx (ec,(),()))/\((InR ((((ew.filter fun w=> !decide (WEdit.mask w=0)).length:Int):Int)+((ec.filter fun k=> !decide (Edit.kind k.e=0)).length:Int)))/\(iB ((((((ew.filter fun w=> !decide (WEdit.mask w=0)).length:Int):Int)+((ec.filter fun k=> !decide (Edit.kind k.e=0)).length:Int)):Int)==0) ((Q .ret (L2 [pL 2] [(.loc 2,zc1)]))) ((Q .ret (L2 [pL 2] [(.loc 2,[ci ek,ci eo,sU .u64 eow .unk,sU .tree eok .unk,ci en,sU .u64 enw .unk,sU .tree enk .unk,sU .wedit (ew.filter fun w=> !decide (WEdit.mask w=0)) .unk,sU .kid (ec.filter fun k=> !decide (Edit.kind k.e=0)) .unk,ci li,sU .op eos .unk])])))))))):
  ZJz [] (⟨[(0,.agg [ci ek,ci eo,sU .u64 eow .unk,sU .tree eok .unk,ci en,sU .u64 enw .unk,sU .tree enk .unk,.mref (.e 0 7),.mref (.e 0 8),ci li,sU .op eos .unk])],[],[(.e 0 7,LC.mk (U:=U) .wedit ew 0),(.e 0 8,LC.mk (U:=U) .kid ec 0)]⟩:LSt U) Q:=
 Eq.mpr V4 h
def ZBA(ek eo:Int)(eow:List Int)(eok:List Tree)(en:Int)(enw:List Int)(enk:List Tree)(ew:List WEdit)(ec:List Kid)(li:Int)(eos:List Op):Prop:=AW (Z0 Zqr) Tryz.f142 Zwv [] (JK (ZdP.can ((ek,eo,eow,eok,en,enw,enk,ew,ec,li,eos,()),())) (ZdP.canX ((ek,eo,eow,eok,en,enw,enk,ew,ec,li,eos,()),())) (ZdP.canL ((ek,eo,eow,eok,en,enw,enk,ew,ec,li,eos,()),()))) (Z09 cfg Tryz.f142.ntmps Tryz.f142.results.toList (Zir ((ek,eo,eow,eok,en,enw,enk,ew,ec,li,eos,()),())) (Zdl ((ek,eo,eow,eok,en,enw,enk,ew,ec,li,eos,()),())) (Zdr ((ek,eo,eow,eok,en,enw,enk,ew,ec,li,eos,()),())))
set_option maxHeartbeats 2000000 in
theorem ZzI(ZEt:CT 189 Z8X)(ZEs:CT 191 Z8W)(hb:∀ (ek:Int) (eo:Int) (eow:List Int) (eok:List Tree) (en:Int) (enw:List Int) (enk:List Tree) (ew:List WEdit) (ec:List Kid) (li:Int) (eos:List Op) (_:Unit),Zfe ((ek,eo,eow,eok,en,enw,enk,ew,ec,li,eos,()),())->ZBA ek eo eow eok en enw enk ew ec li eos):CT 142 Zd6:=
 Contract.passing <| Yg (l:=[(189,Z8X),(191,Z8W)]) Zi rfl (⟨ZEt,ZEs,trivial⟩) Zwv Tryz.func142 rfl rfl 1 (fun _=> rfl) V1 (fun ⟨⟨ek,eo,eow,eok,en,enw,enk,ew,ec,li,eos,_⟩,_⟩=> hb ek eo eow eok en enw enk ew ec li eos ())
def Zqn:List (FuncId × Fs U):=[(198,Z8T)]
def Zwr:Zc U:=lvl [([0,1,4],[4]),([0,1,4,7],[4]),([4],[4]),([4],[4])]
abbrev ZJv(p:List Nat):=AW (Z0 Zqn) Tryz.f146 Zwr p
theorem ZGT(list:Int)(l:List Op)(Q:QT)(h:((Ziz (l,(),()))/\(iB (!(l.any fun o=> !decide (OpOf.kind o=0))) ((Q .ret (L2 [pL 4] [(.loc 4,zc1)]))) ((Q .ret (L2 [pL 4] [(.loc 4,[ci 3,ci 0,.nils,.nils,ci 0,.nils,.nils,.nils,.nils,ci list,sU .op l .unk])])))))):
  ZJv [] (L2 [pI 0 list,(1,.c (sU .op l .unk))] []) Q:=
 Eq.mpr V4 h
def ZBw(list:Int)(l:List Op):Prop:=AW (Z0 Zqn) Tryz.f146 Zwr [] (Zh (ZdS.can (list,l,())) []) (EQ Tryz.f146 (Ziq (list,l,())) [])
theorem ZzF(ZEn:CT 198 Z8T)(hb:∀ (list:Int) (l:List Op) (_:Unit),Zfd (list,l,())->ZBw list l):CT 146 Zd3:=
 Z1 (l:=[(198,Z8T)]) Zi rfl (⟨ZEn,trivial⟩) Zwr Tryz.func146 rfl rfl 2 (fun _=> rfl) V1 (fun ⟨list,l,_⟩=> hb list l ())
def ZqB:List (FuncId × Fs U):=[(25,Z5y),(114,JR)]
def ZwG:Zc U:=lvk [([0,5,6,7],[5,6,7,((.x 0),[])]),([0,7,8,9],[7,8,((.x 0),[])]),([0,7,8,16],[7,8,((.x 0),[])]),([],[((.x 0),[])]),([0,22],[((.x 0),[])]),([],[((.x 0),[])])]
abbrev ZJK(p:List Nat):=AW (Z0 ZqB) Tryz.f103 ZwG p
theorem ZHi(mc ma:Bool)(e:Edit)(o n:Tree)(Q:QT)(h:∀ y_1,y_1=e->∀ y_2,y_2=n->∀ y_3,y_3=o->∀ y_4,y_4=(Z0O ((doE false y_1 y_3).map Z4))->let z0:= !(ZU (Z4 y_4) (Z4 y_2));((Z4c (y_1,y_3,()))/\(iB (!((doE false y_1 y_3).isSome)) ((Q .normal (L2 [] [(.x 0,[.bool mc,.bool true])]))) ((Z23 (y_4,y_2,()))/\(iB z0 ((Q .normal (L2 [] [(.x 0,[.bool true,.bool ma])]))) (Q .normal (L2 [(0,.ptr (.x 0) 0),pB 22 z0] [(.x 0,[.bool mc,.bool ma])]))))))):
  ZJK [] (L2 [(0,.ptr (.x 0) 0),(1,.agg (enc .edit e)),(2,.agg (enc .tree o)),(3,.agg (enc .tree n))] [(.x 0,[.bool mc,.bool ma])]) Q:=
 Eq.mpr V4 (h _ (Z7 _) _ (Za _) _ (Za _) _ (Za _))
def ZBV(mc ma:Bool)(e:Edit)(o n:Tree):Prop:=AW (Z0 ZqB) Tryz.f103 ZwG [] (Zh (Zk3.can ((mc,ma,()),e,o,n,())) (Zk3.canX ((mc,ma,()),e,o,n,()))) (EQ Tryz.f103 (ZeT ((mc,ma,()),e,o,n,())) (Z9l ((mc,ma,()),e,o,n,())))
theorem ZzV(c25:CT 25 Z5y)(ZcL:CT 114 JR)(hb:∀ (mc:Bool) (ma:Bool) (e:Edit) (o:Tree) (n:Tree) (_:Unit),ZaZ ((mc,ma,()),e,o,n,())->ZBV mc ma e o n):CT 103 Zdd:=
 YK (l:=[(25,Z5y),(114,JR)]) Zi rfl (⟨c25,ZcL,trivial⟩) ZwG Tryz.func103 rfl rfl 4 (fun _=> rfl) V1 (fun ⟨⟨mc,ma,_⟩,e,o,n,_⟩=> hb mc ma e o n ())
def Zqp:List (FuncId × Fs U):=[(177,Z11),(194,Z8V),(195,Z8U)]
def Zwt:Zc U:=lvk [([0],[((.x 0),[]),((.x 1),[])]),([0],[((.x 0),[]),((.x 1),[])]),([0,42],[((.x 0),[]),((.x 1),[])]),([0,66],[((.x 0),[]),((.x 1),[])]),([0],[((.x 0),[]),((.x 1),[])]),([0],[((.x 0),[]),((.x 1),[])]),([],[((.x 0),[]),((.x 1),[])])]
abbrev ZJx(p:List Nat):=AW (Z0 Zqp) Tryz.f144 Zwt p
theorem ZGV(sm_:Unit)(sx sy:List Op)(si sh:List Tree)(mc ma:Bool)(Q:QT)(h:let z4:=Znb ((si.length:Int),());let z3:=Znb ((sh.length:Int),());let z2:=Yl (sh.length:Int);let z1:=Yl (si.length:Int);let z0:=decide ((0:Int) < (si.length:Int));(Tt z0)/\(Tt z0)/\(Tt z0)/\(Tt z0)/\(Tt z0)/\(Tt z0)/\(iB (bif z0 then (decide ((0:Int) < (sh.length:Int))) else false) ((Z8i (si,sh,(),()))/\(iB (!(eqX (Z8 si) (Z8 sh))) ((z3/\((sx.length+z2.length)*240<=140737488355328)/\z4/\((sy.length+z1.length)*240<=140737488355328)/\(Q .normal (L2 [] [(.x 0,[.xp 1,sU .op (sx++z2) (.own (.x 0 1)),sU .op (sy++z1) (.own (.x 0 2)),.nils,.nils]),(.x 1,[.bool true,.bool ma])])))) (z3/\((sx.length+z2.length)*240<=140737488355328)/\z4/\((sy.length+z1.length)*240<=140737488355328)/\(Q .normal (L2 [] [(.x 0,[.xp 1,sU .op (sx++z2) (.own (.x 0 1)),sU .op (sy++z1) (.own (.x 0 2)),.nils,.nils]),(.x 1,[.bool mc,.bool ma])]))))) ((ZiF (si,()))/\((sx.length+(Z0g si).length)*240<=140737488355328)/\z3/\(((sx++(Z0g si)).length+z2.length)*240<=140737488355328)/\(z4/\((sy.length+z1.length)*240<=140737488355328)/\(ZiF (sh,()))/\(((sy++z1).length+(Z0g sh).length)*240<=140737488355328)/\(Q .normal (L2 [] [(.x 0,[.xp 1,sU .op ((sx++(Z0g si))++z2) (.own (.x 0 1)),sU .op ((sy++z1)++(Z0g sh)) (.own (.x 0 2)),.nils,.nils]),(.x 1,[.bool mc,.bool ma])])))))):
  ZJx [] (L2 [(0,.ptr (.x 0) 0)] [(.x 0,[.xp 1,sU .op sx (.own (.x 0 1)),sU .op sy (.own (.x 0 2)),sU .tree si (.own (.x 0 3)),sU .tree sh (.own (.x 0 4))]),(.x 1,[.bool mc,.bool ma])]) Q:=
 Eq.mpr V4 h
def ZBy(sm_:Unit)(sx sy:List Op)(si sh:List Tree)(mc ma:Bool):Prop:=AW (Z0 Zqp) Tryz.f144 Zwt [] (Zh (Zk0.can ((sm_,sx,sy,si,sh,()),(mc,ma,()),())) (Zk0.canX ((sm_,sx,sy,si,sh,()),(mc,ma,()),()))) (EQ Tryz.f144 (Zv2 ((sm_,sx,sy,si,sh,()),(mc,ma,()),())) (Z9h ((sm_,sx,sy,si,sh,()),(mc,ma,()),())))
theorem ZzG(ZjO:CT 177 Z11)(ZEr:CT 194 Z8V)(ZEq:CT 195 Z8U)(hb:∀ (sm_:Unit) (sx:List Op) (sy:List Op) (si:List Tree) (sh:List Tree) (mc:Bool) (ma:Bool) (_:Unit),ZiR ((sm_,sx,sy,si,sh,()),(mc,ma,()),())->ZBy sm_ sx sy si sh mc ma):CT 144 Zd4:=
 YK (l:=[(177,Z11),(194,Z8V),(195,Z8U)]) Zi rfl (⟨ZjO,ZEr,ZEq,trivial⟩) Zwt Tryz.func144 rfl rfl 1 (fun _=> rfl) V1 (fun ⟨⟨sm_,sx,sy,si,sh,_⟩,⟨mc,ma,_⟩,_⟩=> hb sm_ sx sy si sh mc ma ())
end
noncomputable section
def Zge:ArgM ((Bool × Bool × Unit) × Edit × Edit × Unit):=(.obj 0 (.cons Z2c (.cons Z2c .nil)) (.cons (aEl .edit) (.cons (aEl .edit) .nil)))
def Zf1(a:(Bool × Bool × Unit) × Edit × Edit × Unit):Prop:=J2 a.2.1/\J2 a.2.2.1
def ZvM(a:(Bool × Bool × Unit) × Edit × Edit × Unit):Nat:=8*(Z3 a.2.1+Z3 a.2.2.1)+1
def ZkP(a:(Bool × Bool × Unit) × Edit × Edit × Unit):V U:= .tup [(true,(enc .edit ((lbE a.2.1 a.2.2.1).x))),(true,(enc .edit ((lbE a.2.1 a.2.2.1).y)))]
def ZeH(a:(Bool × Bool × Unit) × Edit × Edit × Unit):List (List (C U)):=[[.bool (a.1.1 || (lbE a.2.1 a.2.2.1).c),.bool (a.1.2.1 || (lbE a.2.1 a.2.2.1).a)]]
def ZaE:Fs U:=fsX Zge (fun a=> [Zf1 a]) ZkP ZeH
def Zfm(a:(Bool × Bool × Unit) × Edit × Edit × Unit):Prop:=J2 a.2.1/\J2 a.2.2.1/\Edit.kind a.2.1=2/\Edit.kind a.2.2.1=2
def Zpm(a:(Bool × Bool × Unit) × Edit × Edit × Unit):Nat:=8*(Z3 a.2.1+Z3 a.2.2.1)
def ZeS(a:(Bool × Bool × Unit) × Edit × Edit × Unit):V U:= .tup [(true,(enc .edit ((Z2g lbE a.2.1 a.2.2.1).x))),(true,(enc .edit ((Z2g lbE a.2.1 a.2.2.1).y)))]
def Z9k(a:(Bool × Bool × Unit) × Edit × Edit × Unit):List (List (C U)):=[[.bool (a.1.1 || (Z2g lbE a.2.1 a.2.2.1).c),.bool (a.1.2.1 || (Z2g lbE a.2.1 a.2.2.1).a)]]
def ZoF:Fs U:=fsX Zge (fun a=> [Zfm a]) ZeS Z9k
def Zfl(a:(Bool × Bool × Unit) × Edit × Edit × Unit):Prop:=J2 a.2.1/\J2 a.2.2.1/\Edit.kind a.2.1=3/\Edit.kind a.2.2.1=3
def ZeR(a:(Bool × Bool × Unit) × Edit × Edit × Unit):V U:= .tup [(true,(enc .edit ((Z4k lbE a.2.1 a.2.2.1).x))),(true,(enc .edit ((Z4k lbE a.2.1 a.2.2.1).y)))]
def Z9j(a:(Bool × Bool × Unit) × Edit × Edit × Unit):List (List (C U)):=[[.bool (a.1.1 || (Z4k lbE a.2.1 a.2.2.1).c),.bool (a.1.2.1 || (Z4k lbE a.2.1 a.2.2.1).a)]]
def ZoE:Fs U:=fsX Zge (fun a=> [Zfl a]) ZeR Z9j
def Zaq:ArgM ((Unit × List Op × List Op × List Tree × List Tree × Unit) × Op × Op × (Bool × Bool × Unit) × Unit):=(.obj 0 (.cons (cXp 1) (.cons (Z4C .op 0 1) (.cons (Z4C .op 0 2) (.cons (Z4C .tree 0 3) (.cons (Z4C .tree 0 4) .nil))))) (.cons (aEl .op) (.cons (aEl .op) (.hid (.cons Z2c (.cons Z2c .nil)) .nil))))
def ZaX(a:(Unit × List Op × List Op × List Tree × List Tree × Unit) × Op × Op × (Bool × Bool × Unit) × Unit):Prop:=(ZhW a.2.1/\ZhW a.2.2.1/\Z6 a.2.1=Z6 a.2.2.1/\OpOf.kind a.2.1≠2/\OpOf.kind a.2.2.1≠2)/\((a.1.2.1).length<=10000000000/\(a.1.2.2.1).length<=10000000000)
def Zpi(a:(Unit × List Op × List Op × List Tree × List Tree × Unit) × Op × Op × (Bool × Bool × Unit) × Unit):Nat:=8*(Zu a.2.1+Zu a.2.2.1)+2
def ZeN(a:(Unit × List Op × List Op × List Tree × List Tree × Unit) × Op × Op × (Bool × Bool × Unit) × Unit):V U:= .tup []
def Z9g(a:(Unit × List Op × List Op × List Tree × List Tree × Unit) × Op × Op × (Bool × Bool × Unit) × Unit):List (List (C U)):=[[.xp 1,sU .op (a.1.2.1++(ZA lbE a.2.1 a.2.2.1).x) (.own (.x 0 1)),sU .op (a.1.2.2.1++(ZA lbE a.2.1 a.2.2.1).y) (.own (.x 0 2)),sU .tree a.1.2.2.2.1 (.own (.x 0 3)),sU .tree a.1.2.2.2.2.1 (.own (.x 0 4))],[.bool (a.2.2.2.1.1 || (ZA lbE a.2.1 a.2.2.1).c),.bool (a.2.2.2.1.2.1 || (ZA lbE a.2.1 a.2.2.1).a)]]
def Zoy:Fs U:=fsX Zaq (fun a=> [ZaX a]) ZeN Z9g
def Z3T(N:Nat):List (FuncId × Fs U):=(66,fsX Zge (fun a=> [Zf1 a,ZvM a < N]) ZkP ZeH) ::(105,fsX Zge (fun a=> [Zfm a,Zpm a < N]) ZeS Z9k) ::(106,fsX Zge (fun a=> [Zfl a,Zpm a < N]) ZeR Z9j) ::(145,fsX Zaq (fun a=> [ZaX a,Zpi a < N]) ZeN Z9g) ::[(114,JR),(103,Zdd),(104,Zdc),(177,Z11),(138,Zda),(139,Zd9),(140,Zd8),(141,Zd7),(142,Zd6),(143,Zd5),(144,Zd4),(146,Zd3),(196,ZcR),(197,ZcQ)]
def ZDT:Zc U:=lvk [([0,4,5,6,7],[4,5,6,7,((.x 0),[])]),([0,4,5,6,7,8],[4,5,6,7,((.x 0),[])]),([6,7],[6,7,((.x 0),[])]),([0,4,5,6,7,19],[4,5,6,7,((.x 0),[])]),([6,7],[6,7,((.x 0),[])]),([6,7],[6,7,((.x 0),[])]),([0,4,5,6,7,33],[4,5,6,7,((.x 0),[])]),([6,7],[6,7,((.x 0),[])]),([6,7],[6,7,((.x 0),[])]),([0,4,5,6,7,47],[4,5,6,7,((.x 0),[])]),([6,7],[6,7,((.x 0),[])]),([6,7],[6,7,((.x 0),[])]),([0,4,5,6,7,66],[4,5,6,7,((.x 0),[])]),([6,7],[6,7,((.x 0),[])]),([6,7],[6,7,((.x 0),[])])]
abbrev A66(N:Nat)(p:List Nat):=AW (Z0 (Z3T N)) Tryz.f66 ZDT p
theorem ZIH(N:Nat)(mc ma:Bool)(p q:Edit)(Q:QT)(h:∀ y_1,y_1=p->∀ y_2,y_2=q->∀ y_3,y_3=(p.new)->∀ y_4,y_4=(q.new)->∀ y_5,y_5=(p.old)->∀ y_6,y_6=(q.old)->let z3:=Z4k lbE y_1 y_2;let z2:=Z2g lbE y_1 y_2;let z1:=enc .edit Edit.nil;let z0:=p.kind !=q.kind;((Tt (!(p.kind==0)))/\(Tt (!(p.kind==0)))/\((p.kind==0)=false->(!(p.kind==0))=true)/\(iB (bif (p.kind==0) then true else (q.kind==0)) ((Q .ret (L2 [pL 6,pL 7] [(.loc 6,(enc .edit p)),(.loc 7,(enc .edit q)),(.x 0,[.bool mc,.bool ma])]))) ((iB (p.kind==1) ((ZaZ ((mc,ma,()),y_2,y_5,y_3,()))/\((ZaY ())/\(Q .ret (L2 [pL 6,pL 7] [(.loc 6,z1),(.loc 7,z1),(.x 0,[.bool (mc || (Z0k y_2 y_5 y_3).c),.bool (ma || (Z0k y_2 y_5 y_3).a)])])))) ((iB (q.kind==1) ((ZaZ ((mc,ma,()),y_1,y_6,y_4,()))/\((ZaY ())/\(Q .ret (L2 [pL 6,pL 7] [(.loc 6,z1),(.loc 7,z1),(.x 0,[.bool (mc || (Z0k y_1 y_6 y_4).c),.bool (ma || (Z0k y_1 y_6 y_4).a)])])))) ((Tt (!z0))/\(Tt (!z0))/\(Tt (!z0))/\(Tt (!z0))/\(z0=false->(!z0)=true)/\(iB (bif z0 then true else (p.list !=q.list)) (((ZaY ())/\(Q .ret (L2 [pL 6,pL 7] [(.loc 6,z1),(.loc 7,z1),(.x 0,[.bool mc,.bool true])])))) ((iB (p.kind==2) ((Zfm ((mc,ma,()),y_1,y_2,()))/\(Zpm ((mc,ma,()),y_1,y_2,()) < N)/\(Q .ret (L2 [pL 6,pL 7] [(.loc 6,(enc .edit (z2.x))),(.loc 7,(enc .edit (z2.y))),(.x 0,[.bool (mc || z2.c),.bool (ma || z2.a)])]))) ((Zfl ((mc,ma,()),y_1,y_2,()))/\(Zpm ((mc,ma,()),y_1,y_2,()) < N)/\(Q .ret (L2 [pL 6,pL 7] [(.loc 6,(enc .edit (z3.x))),(.loc 7,(enc .edit (z3.y))),(.x 0,[.bool (mc || z3.c),.bool (ma || z3.a)])])))))))))))))):
  A66 N [] (L2 [(0,.ptr (.x 0) 0),(1,.agg (enc .edit p)),(2,.agg (enc .edit q))] [(.x 0,[.bool mc,.bool ma])]) Q:=
 Eq.mpr V4 (h _ (Z7 _) _ (Z7 _) _ (Za _) _ (Za _) _ (Za _) _ (Za _))
def ZFu(N:Nat)(mc ma:Bool)(p q:Edit):Prop:=AW (Z0 (Z3T N)) Tryz.f66 ZDT [] (Zh (Zge.can ((mc,ma,()),p,q,())) (Zge.canX ((mc,ma,()),p,q,()))) (EQ Tryz.f66 (ZkP ((mc,ma,()),p,q,())) (ZeH ((mc,ma,()),p,q,())))
abbrev ZIq:Prop:=∀ (N:Nat) (mc:Bool) (ma:Bool) (p:Edit) (q:Edit) (_:Unit),Zf1 ((mc,ma,()),p,q,())->ZvM ((mc,ma,()),p,q,()) < N+1->ZFu N mc ma p q
def ZjD(N:Nat):List (FuncId × Fs U):=Z3T N
def ZpQ:Zc U:=lvk [([0,4,5,6,7],[4,5,6,7,((.x 0),[])]),([0,4,5,6,7,8,9],[4,5,6,7,8,9,((.x 0),[])]),([0,4,5,6,7,8,9],[4,5,6,7,((.loc 8),(an 7 [.wr .wedit])),((.loc 9),(an 7 [.wr .wedit])),((.x 0),[])]),([0,4,5,6,7,8,9,29,30,31],[4,5,6,7,((.loc 8),(an 7 [.wr .wedit])),((.loc 9),(an 7 [.wr .wedit])),((.x 0),[])]),([0,4,5,6,7,8,9,29,30,31,32],[4,5,6,7,((.loc 8),(an 7 [.wr .wedit])),((.loc 9),(an 7 [.wr .wedit])),((.x 0),[])]),([0,4,5,6,7,8,9,10,11,29,30,31],[4,5,6,7,((.loc 8),(an 7 [.wr .wedit])),((.loc 9),(an 7 [.wr .wedit])),11,((.x 0),[])]),([0,4,5,6,7,8,9,10,11,29,30,31,37,38,39],[4,5,6,7,((.loc 8),(an 7 [.wr .wedit])),((.loc 9),(an 7 [.wr .wedit])),11,((.x 0),[])]),([0,4,5,6,7,8,9,10,11,29,30,31,37,38,39,40],[4,5,6,7,((.loc 8),(an 7 [.wr .wedit])),((.loc 9),(an 7 [.wr .wedit])),11,((.x 0),[])]),([0,4,5,6,7,8,9,10,11,12,13,29,30,31,37,38,39],[4,5,6,7,((.loc 8),(an 7 [.wr .wedit])),((.loc 9),(an 7 [.wr .wedit])),11,13,((.x 0),[])]),([0,4,5,6,7,8,9,10,11,12,13,29,30,31,37,38,39,48],[4,5,6,7,((.loc 8),(an 7 [.wr .wedit])),((.loc 9),(an 7 [.wr .wedit])),11,13,((.x 0),[])]),([0,4,5,6,7,8,9,10,11,12,13,29,30,31,37,38,39],[4,5,6,7,((.loc 8),(an 7 [.wr .wedit])),((.loc 9),(an 7 [.wr .wedit])),11,13,((.x 0),[])]),([0,4,5,6,7,8,9,10,11,12,13,29,30,31,37,38,39],[4,5,6,7,((.loc 8),(an 7 [.wr .wedit])),((.loc 9),(an 7 [.wr .wedit])),11,13,((.x 0),[])]),([0,4,5,6,7,8,9,10,11,12,13,29,30,31,37,38,39,48],[4,5,6,7,((.loc 8),(an 7 [.wr .wedit])),((.loc 9),(an 7 [.wr .wedit])),11,13,((.x 0),[])]),([0,4,5,6,7,8,9,10,11,29,30,31,37,38,39],[4,5,6,7,((.loc 8),(an 7 [.wr .wedit])),((.loc 9),(an 7 [.wr .wedit])),11,((.x 0),[])]),([0,4,5,6,7,8,9,29,30,31],[4,5,6,7,((.loc 8),(an 7 [.wr .wedit])),((.loc 9),(an 7 [.wr .wedit])),((.x 0),[])]),([0,4,5,6,7,8,9],[4,5,6,7,((.loc 8),(an 7 [.wr .wedit,.wr .kid])),((.loc 9),(an 7 [.wr .wedit,.wr .kid])),((.x 0),[])]),([0,5,6,7,8,9,88,89,90],[5,6,7,((.loc 8),(an 7 [.wr .wedit,.wr .kid])),((.loc 9),(an 7 [.wr .wedit,.wr .kid])),((.x 0),[])]),([0,5,6,7,8,9,88,89,90,91],[5,6,7,((.loc 8),(an 7 [.wr .wedit,.wr .kid])),((.loc 9),(an 7 [.wr .wedit,.wr .kid])),((.x 0),[])]),([0,5,6,7,8,9,14,15,88,89,90],[5,6,7,((.loc 8),(an 7 [.wr .wedit,.wr .kid])),((.loc 9),(an 7 [.wr .wedit,.wr .kid])),15,((.x 0),[])]),([0,5,6,7,8,9,14,15,88,89,90,96,97,98],[5,6,7,((.loc 8),(an 7 [.wr .wedit,.wr .kid])),((.loc 9),(an 7 [.wr .wedit,.wr .kid])),15,((.x 0),[])]),([0,5,6,7,8,9,14,15,88,89,90,96,97,98,99],[5,6,7,((.loc 8),(an 7 [.wr .wedit,.wr .kid])),((.loc 9),(an 7 [.wr .wedit,.wr .kid])),15,((.x 0),[])]),([0,5,6,7,8,9,14,15,16,17,88,89,90,96,97,98],[5,6,7,((.loc 8),(an 7 [.wr .wedit,.wr .kid])),((.loc 9),(an 7 [.wr .wedit,.wr .kid])),15,17,((.x 0),[])]),([0,5,6,7,8,9,14,15,16,17,88,89,90,96,97,98,107],[5,6,7,((.loc 8),(an 7 [.wr .wedit,.wr .kid])),((.loc 9),(an 7 [.wr .wedit,.wr .kid])),15,17,((.x 0),[])]),([0,5,6,7,8,9,14,15,16,17,88,89,90,96,97,98,107],[5,6,7,((.loc 8),(an 7 [.wr .wedit,.wr .kid])),((.loc 9),(an 7 [.wr .wedit,.wr .kid])),15,17,((.x 0),[])]),([0,5,6,7,8,9,14,15,88,89,90,96,97,98],[5,6,7,((.loc 8),(an 7 [.wr .wedit,.wr .kid])),((.loc 9),(an 7 [.wr .wedit,.wr .kid])),15,((.x 0),[])]),([0,5,6,7,8,9,88,89,90],[5,6,7,((.loc 8),(an 7 [.wr .wedit,.wr .kid])),((.loc 9),(an 7 [.wr .wedit,.wr .kid])),((.x 0),[])]),([6,7],[6,7,((.x 0),[])])]
def Z7v(mc ma:Bool)(p q:Edit)(x31:Int)(mx0_0 mx0_1:Bool)(rl_8_7 rl_9_7:List WEdit):LSt U:=(⟨[(0,.ptr (.x 0) 0),pL 4,pL 5,pL 6,pL 7,pL 8,pL 9,(29,.c (sU .wedit p.words .unk)),pI 30 (p.words.length:Int),pI 31 x31],[(.loc 4,(enc .edit p)),(.loc 5,(enc .edit q)),(.loc 6,zc1),(.loc 7,zc1),(.loc 8,[ci 2,ci 0,.nils,.nils,ci 0,.nils,.nils,.mref (.l 8 7),.nils,ci 0,.nils]),(.loc 9,[ci 2,ci 0,.nils,.nils,ci 0,.nils,.nils,.mref (.l 9 7),.nils,ci 0,.nils]),(.x 0,[.bool mx0_0,.bool mx0_1])],[(.l 8 7,LC.mk (U:=U) .wedit rl_8_7 0),(.l 9 7,LC.mk (U:=U) .wedit rl_9_7 0)]⟩:LSt U)
def Z7u(mc ma:Bool)(p q:Edit)(x31 x39_a:Int)(mx0_0_a mx0_1_a:Bool)(rl_8_7_a rl_9_7_a:List WEdit):LSt U:=(⟨[(0,.ptr (.x 0) 0),pL 4,pL 5,pL 6,pL 7,pL 8,pL 9,pI 10 x31,pL 11,(29,.c (sU .wedit p.words .unk)),pI 30 (p.words.length:Int),pI 31 x31,(37,.c (sU .wedit q.words .unk)),pI 38 (q.words.length:Int),pI 39 x39_a],[(.loc 4,(enc .edit p)),(.loc 5,(enc .edit q)),(.loc 6,zc1),(.loc 7,zc1),(.loc 8,[ci 2,ci 0,.nils,.nils,ci 0,.nils,.nils,.mref (.l 8 7),.nils,ci 0,.nils]),(.loc 9,[ci 2,ci 0,.nils,.nils,ci 0,.nils,.nils,.mref (.l 9 7),.nils,ci 0,.nils]),(.loc 11,(enc .wedit (p.words.getD x31.toNat (WEdit.mk 0 0 0 0)))),(.x 0,[.bool mx0_0_a,.bool mx0_1_a])],[(.l 8 7,LC.mk (U:=U) .wedit rl_8_7_a 0),(.l 9 7,LC.mk (U:=U) .wedit rl_9_7_a 0)]⟩:LSt U)
def Z7t(mc ma:Bool)(p q:Edit)(rl_8_7 rl_9_7:List WEdit)(x90_b:Int)(mx0_0_b mx0_1_b:Bool)(rl_8_8_b rl_9_8_b:List Kid):LSt U:=(⟨[(0,.ptr (.x 0) 0),pL 5,pL 6,pL 7,pL 8,pL 9,(88,.c (sU .kid p.kids .unk)),pI 89 (p.kids.length:Int),pI 90 x90_b],[(.loc 5,(enc .edit q)),(.loc 6,zc1),(.loc 7,zc1),(.loc 8,[ci 2,ci 0,.nils,.nils,ci 0,.nils,.nils,.mref (.l 8 7),.mref (.l 8 8),ci 0,.nils]),(.loc 9,[ci 2,ci 0,.nils,.nils,ci 0,.nils,.nils,.mref (.l 9 7),.mref (.l 9 8),ci 0,.nils]),(.x 0,[.bool mx0_0_b,.bool mx0_1_b])],[(.l 8 7,LC.mk (U:=U) .wedit rl_8_7 0),(.l 8 8,LC.mk (U:=U) .kid rl_8_8_b 0),(.l 9 7,LC.mk (U:=U) .wedit rl_9_7 0),(.l 9 8,LC.mk (U:=U) .kid rl_9_8_b 0)]⟩:LSt U)
def Zbt(mc ma:Bool)(p q:Edit)(x31 x39_a:Int)(v48_c:V U)(mx0_0_c mx0_1_c:Bool)(rl_8_7_c rl_9_7_c:List WEdit):LSt U:=(⟨[(0,.ptr (.x 0) 0),pL 4,pL 5,pL 6,pL 7,pL 8,pL 9,pI 10 x31,pL 11,pI 12 x39_a,pL 13,(29,.c (sU .wedit p.words .unk)),pI 30 (p.words.length:Int),pI 31 x31,(37,.c (sU .wedit q.words .unk)),pI 38 (q.words.length:Int),pI 39 x39_a,(48,v48_c)],[(.loc 4,(enc .edit p)),(.loc 5,(enc .edit q)),(.loc 6,zc1),(.loc 7,zc1),(.loc 8,[ci 2,ci 0,.nils,.nils,ci 0,.nils,.nils,.mref (.l 8 7),.nils,ci 0,.nils]),(.loc 9,[ci 2,ci 0,.nils,.nils,ci 0,.nils,.nils,.mref (.l 9 7),.nils,ci 0,.nils]),(.loc 11,(enc .wedit (p.words.getD x31.toNat (WEdit.mk 0 0 0 0)))),(.loc 13,(enc .wedit (q.words.getD x39_a.toNat (WEdit.mk 0 0 0 0)))),(.x 0,[.bool mx0_0_c,.bool mx0_1_c])],[(.l 8 7,LC.mk (U:=U) .wedit rl_8_7_c 0),(.l 9 7,LC.mk (U:=U) .wedit rl_9_7_c 0)]⟩:LSt U)
def Z7s(mc ma:Bool)(p q:Edit)(rl_8_7 rl_9_7:List WEdit)(x90_b x98_d:Int)(mx0_0_d mx0_1_d:Bool)(rl_8_8_d rl_9_8_d:List Kid):LSt U:=(⟨[(0,.ptr (.x 0) 0),pL 5,pL 6,pL 7,pL 8,pL 9,pI 14 x90_b,pL 15,(88,.c (sU .kid p.kids .unk)),pI 89 (p.kids.length:Int),pI 90 x90_b,(96,.c (sU .kid q.kids .unk)),pI 97 (q.kids.length:Int),pI 98 x98_d],[(.loc 5,(enc .edit q)),(.loc 6,zc1),(.loc 7,zc1),(.loc 8,[ci 2,ci 0,.nils,.nils,ci 0,.nils,.nils,.mref (.l 8 7),.mref (.l 8 8),ci 0,.nils]),(.loc 9,[ci 2,ci 0,.nils,.nils,ci 0,.nils,.nils,.mref (.l 9 7),.mref (.l 9 8),ci 0,.nils]),(.loc 15,(enc .kid (p.kids.getD x90_b.toNat (KidOf.mk 0 Edit.nil)))),(.x 0,[.bool mx0_0_d,.bool mx0_1_d])],[(.l 8 7,LC.mk (U:=U) .wedit rl_8_7 0),(.l 8 8,LC.mk (U:=U) .kid rl_8_8_d 0),(.l 9 7,LC.mk (U:=U) .wedit rl_9_7 0),(.l 9 8,LC.mk (U:=U) .kid rl_9_8_d 0)]⟩:LSt U)
def Zbs(mc ma:Bool)(p q:Edit)(rl_8_7 rl_9_7:List WEdit)(x90_b x98_d:Int)(mx0_0_e mx0_1_e:Bool)(rl_8_8_e rl_9_8_e:List Kid):LSt U:=(⟨[(0,.ptr (.x 0) 0),pL 5,pL 6,pL 7,pL 8,pL 9,pI 14 x90_b,pL 15,pI 16 x98_d,pL 17,(88,.c (sU .kid p.kids .unk)),pI 89 (p.kids.length:Int),pI 90 x90_b,(96,.c (sU .kid q.kids .unk)),pI 97 (q.kids.length:Int),pI 98 x98_d,(107,.c (.bool (((KidOf.at_ (p.kids.getD x90_b.toNat (KidOf.mk 0 Edit.nil))):Int)==(KidOf.at_ (q.kids.getD x98_d.toNat (KidOf.mk 0 Edit.nil))))))],[(.loc 5,(enc .edit q)),(.loc 6,zc1),(.loc 7,zc1),(.loc 8,[ci 2,ci 0,.nils,.nils,ci 0,.nils,.nils,.mref (.l 8 7),.mref (.l 8 8),ci 0,.nils]),(.loc 9,[ci 2,ci 0,.nils,.nils,ci 0,.nils,.nils,.mref (.l 9 7),.mref (.l 9 8),ci 0,.nils]),(.loc 15,(enc .kid (p.kids.getD x90_b.toNat (KidOf.mk 0 Edit.nil)))),(.loc 17,(enc .kid (q.kids.getD x98_d.toNat (KidOf.mk 0 Edit.nil)))),(.x 0,[.bool mx0_0_e,.bool mx0_1_e])],[(.l 8 7,LC.mk (U:=U) .wedit rl_8_7 0),(.l 8 8,LC.mk (U:=U) .kid rl_8_8_e 0),(.l 9 7,LC.mk (U:=U) .wedit rl_9_7 0),(.l 9 8,LC.mk (U:=U) .kid rl_9_8_e 0)]⟩:LSt U)
abbrev Z8B(N:Nat)(p:List Nat):=AW (Z3d (ZjD N)) Tryz.f105 ZpQ p
abbrev Z4H(N:Nat)(p:List Nat):=SW (Z3d (ZjD N)) Tryz.f105 ZpQ p
theorem ZHg(N:Nat)(mc ma:Bool)(p q:Edit)(Q:QT)(h:((Zfh (p.words,()))/\(Zfh (q.words,()))/\(Zd (Z8B N [1,1,1,0,1,0,0]) (Z7v mc ma p q 0 mc ma p.words q.words) (xB 0 (Z4H N [1,1,1,1] Q))))):
  Z8B N [] (L2 [(0,.ptr (.x 0) 0),(1,.agg (enc .edit p)),(2,.agg (enc .edit q))] [(.x 0,[.bool mc,.bool ma])]) Q:=
 Eq.mpr V4 h
theorem Zuj(N:Nat)(mc ma:Bool)(p q:Edit)(x31:Int)(mx0_0 mx0_1:Bool)(rl_8_7 rl_9_7:List WEdit)(N0:NT)(Q:QT)(h:(iB (decide (x31 < (p.words.length:Int))) (((0:Int)<=x31/\x31 < (p.words.length:Int))/\(Zd (Z8B N [1,1,1,0,1,0,0,1,1,0,0,1,1,0,0]) (Z7u mc ma p q x31 0 mx0_0 mx0_1 rl_8_7 rl_9_7) (xB 2 (xB 1 (Z4H N [1,1,1,0,1,0,0,1,1,1] (xT N0 (xB 0 (Z4H N [1,1,1,1] Q)))))))) ((Zff (p.kids,()))/\(Zff (q.kids,()))/\(Zd (Z8B N [1,1,1,1,1,0,1,0,0]) (Z7t mc ma p q rl_8_7 rl_9_7 0 mx0_0 mx0_1 p.kids q.kids) (xB 4 (Z4H N [1,1,1,1,1,1] Q)))))):
  Z8B N [1,1,1,0,1,0,0] (Z7v mc ma p q x31 mx0_0 mx0_1 rl_8_7 rl_9_7) (xT N0 (xB 0 (Z4H N [1,1,1,1] Q))):=
 Eq.mpr V4 h
theorem Zui(N:Nat)(mc ma:Bool)(p q:Edit)(x31 x39_a:Int)(mx0_0_a mx0_1_a:Bool)(rl_8_7_a rl_9_7_a:List WEdit)(N1 N0:NT)(Q:QT)(h:∀ y_1,y_1=(p.words.getD x31.toNat (WEdit.mk 0 0 0 0))->∀ y_2,y_2=(q.words.getD x39_a.toNat (WEdit.mk 0 0 0 0))->∀ y_3,y_3=y_1->∀ y_4,y_4=y_2->∀ y_5,y_5=((Z4n y_3 (IntKind.wrap .u8 (BitVec.ofInt (IntKind.bits .u8) 255 ^^^ BitVec.ofInt (IntKind.bits .u8) y_2.mask).toNat)).1)->∀ y_6,y_6=((Z4n y_4 (IntKind.wrap .u8 (BitVec.ofInt (IntKind.bits .u8) 255 ^^^ BitVec.ofInt (IntKind.bits .u8) y_1.mask).toNat)).1)->let z1:=IntKind.bits .u8;let z0:=xT N1 (xB 2 (xB 1 (Z4H N [1,1,1,0,1,0,0,1,1,1] (xT N0 (xB 0 (Z4H N [1,1,1,1] Q))))));(iB (decide (x39_a < (q.words.length:Int))) (((0:Int)<=x39_a/\x39_a < (q.words.length:Int))/\(iB (y_1.at_==y_2.at_) ((ZiS ((mx0_0_a,mx0_1_a,()),y_3,y_4,()))/\((Zfg (y_3,(IntKind.wrap .u8 (BitVec.ofInt z1 255 ^^^ BitVec.ofInt z1 y_2.mask).toNat),()))/\((0:Int)<=x31/\x31 < (rl_8_7_a.length:Int))/\((0:Nat)<=x31.toNat)/\((Zfg (y_4,(IntKind.wrap .u8 (BitVec.ofInt z1 255 ^^^ BitVec.ofInt z1 y_1.mask).toNat),()))/\((0:Int)<=x39_a/\x39_a < (rl_9_7_a.length:Int))/\((0:Nat)<=x39_a.toNat)/\(Z8B N [1,1,1,0,1,0,0,1,1,0,0,1,1,0,0,1,1,1] (Zbt mc ma p q x31 x39_a .junk (mx0_0_a || (!(Yi y_3 y_4) && Jj y_3 y_4)) (mx0_1_a || Yi y_3 y_4) (List.set rl_8_7_a x31.toNat y_5) (List.set rl_9_7_a x39_a.toNat y_6)) z0)))) (Z8B N [1,1,1,0,1,0,0,1,1,0,0,1,1,0,0,1,1,1] (Zbt mc ma p q x31 x39_a (.c (.bool (y_1.at_==y_2.at_))) mx0_0_a mx0_1_a rl_8_7_a rl_9_7_a) z0))) ((InR (x31+1))/\(N0 (Z7v mc ma p q (x31+1) mx0_0_a mx0_1_a rl_8_7_a rl_9_7_a))))):
  Z8B N [1,1,1,0,1,0,0,1,1,0,0,1,1,0,0] (Z7u mc ma p q x31 x39_a mx0_0_a mx0_1_a rl_8_7_a rl_9_7_a) (xT N1 (xB 2 (xB 1 (Z4H N [1,1,1,0,1,0,0,1,1,1] (xT N0 (xB 0 (Z4H N [1,1,1,1] Q))))))):=
 Eq.mpr V4 (h _ rfl _ rfl _ (Z0F _) _ (Z0F _) _ (Z0F _) _ (Z0F _))
theorem Zuh(N:Nat)(mc ma:Bool)(p q:Edit)(rl_8_7 rl_9_7:List WEdit)(x90_b:Int)(mx0_0_b mx0_1_b:Bool)(rl_8_8_b rl_9_8_b:List Kid)(N2:NT)(Q:QT)(h:∀ y_1,y_1=(Edit.mk 2 (Tree.mk 0 ([]:List Int) ([]:List Tree)) (Tree.mk 0 ([]:List Int) ([]:List Tree)) rl_8_7 rl_8_8_b 0 ([]:List Op))->∀ y_2,y_2=(Edit.mk 2 (Tree.mk 0 ([]:List Int) ([]:List Tree)) (Tree.mk 0 ([]:List Int) ([]:List Tree)) rl_9_7 rl_9_8_b 0 ([]:List Op))->(iB (decide (x90_b < (p.kids.length:Int))) (((0:Int)<=x90_b/\x90_b < (p.kids.length:Int))/\(Zd (Z8B N [1,1,1,1,1,0,1,0,0,1,1,0,0,1,1,0,0]) (Z7s mc ma p q rl_8_7 rl_9_7 x90_b 0 mx0_0_b mx0_1_b rl_8_8_b rl_9_8_b) (xB 6 (xB 5 (Z4H N [1,1,1,1,1,0,1,0,0,1,1,1] (xT N2 (xB 4 (Z4H N [1,1,1,1,1,1] Q)))))))) ((Zfe ((2,0,([]:List Int),([]:List Tree),0,([]:List Int),([]:List Tree),rl_8_7,rl_8_8_b,0,([]:List Op),()),()))/\(Zfe ((2,0,([]:List Int),([]:List Tree),0,([]:List Int),([]:List Tree),rl_9_7,rl_9_8_b,0,([]:List Op),()),()))/\(Q .ret (L2 [pL 6,pL 7] [(.loc 6,(enc .edit (Z5D y_1))),(.loc 7,(enc .edit (Z5D y_2))),(.x 0,[.bool mx0_0_b,.bool mx0_1_b])]))))):
  Z8B N [1,1,1,1,1,0,1,0,0] (Z7t mc ma p q rl_8_7 rl_9_7 x90_b mx0_0_b mx0_1_b rl_8_8_b rl_9_8_b) (xT N2 (xB 4 (Z4H N [1,1,1,1,1,1] Q))):=
 Eq.mpr V4 (h _ rfl _ rfl)
theorem Zkh(N:Nat)(mc ma:Bool)(p q:Edit)(x31 x39_a:Int)(v48_c:V U)(mx0_0_c mx0_1_c:Bool)(rl_8_7_c rl_9_7_c:List WEdit)(N1 N0:NT)(Q:QT)(h:(InR (x39_a+1))/\(N1 (Z7u mc ma p q x31 (x39_a+1) mx0_0_c mx0_1_c rl_8_7_c rl_9_7_c))):
  Z8B N [1,1,1,0,1,0,0,1,1,0,0,1,1,0,0,1,1,1] (Zbt mc ma p q x31 x39_a v48_c mx0_0_c mx0_1_c rl_8_7_c rl_9_7_c) (xT N1 (xB 2 (xB 1 (Z4H N [1,1,1,0,1,0,0,1,1,1] (xT N0 (xB 0 (Z4H N [1,1,1,1] Q))))))):=
 Eq.mpr V4 h
theorem Zug(N:Nat)(mc ma:Bool)(p q:Edit)(rl_8_7 rl_9_7:List WEdit)(x90_b x98_d:Int)(mx0_0_d mx0_1_d:Bool)(rl_8_8_d rl_9_8_d:List Kid)(N4 N2:NT)(Q:QT)(h:∀ y_1,y_1=(p.kids.getD x90_b.toNat (KidOf.mk 0 Edit.nil))->∀ y_2,y_2=(q.kids.getD x98_d.toNat (KidOf.mk 0 Edit.nil))->∀ y_3,y_3=(y_1.e)->∀ y_4,y_4=(y_2.e)->∀ y_5,y_5=((lbE y_3 y_4).x)->∀ y_6,y_6=((lbE y_3 y_4).y)->let z0:=xT N4 (xB 6 (xB 5 (Z4H N [1,1,1,1,1,0,1,0,0,1,1,1] (xT N2 (xB 4 (Z4H N [1,1,1,1,1,1] Q))))));(iB (decide (x98_d < (q.kids.length:Int))) (((0:Int)<=x98_d/\x98_d < (q.kids.length:Int))/\(iB (y_1.at_==y_2.at_) ((Zf1 ((mx0_0_d,mx0_1_d,()),y_3,y_4,()))/\(ZvM ((mx0_0_d,mx0_1_d,()),y_3,y_4,()) < N)/\((0:Int)<=x90_b/\x90_b < (rl_8_8_d.length:Int))/\((0:Nat)<=x90_b.toNat)/\((0:Int)<=x98_d/\x98_d < (rl_9_8_d.length:Int))/\((0:Nat)<=x98_d.toNat)/\(Z8B N [1,1,1,1,1,0,1,0,0,1,1,0,0,1,1,0,0,1,1,1] (Zbs mc ma p q rl_8_7 rl_9_7 x90_b x98_d (mx0_0_d || (lbE y_3 y_4).c) (mx0_1_d || (lbE y_3 y_4).a) (List.set rl_8_8_d x90_b.toNat (KidOf.mk (KidOf.at_ (rl_8_8_d.getD x90_b.toNat (KidOf.mk 0 Edit.nil))) y_5)) (List.set rl_9_8_d x98_d.toNat (KidOf.mk (KidOf.at_ (rl_9_8_d.getD x98_d.toNat (KidOf.mk 0 Edit.nil))) y_6))) z0)) (Z8B N [1,1,1,1,1,0,1,0,0,1,1,0,0,1,1,0,0,1,1,1] (Zbs mc ma p q rl_8_7 rl_9_7 x90_b x98_d mx0_0_d mx0_1_d rl_8_8_d rl_9_8_d) z0))) ((InR (x90_b+1))/\(N2 (Z7t mc ma p q rl_8_7 rl_9_7 (x90_b+1) mx0_0_d mx0_1_d rl_8_8_d rl_9_8_d))))):
  Z8B N [1,1,1,1,1,0,1,0,0,1,1,0,0,1,1,0,0] (Z7s mc ma p q rl_8_7 rl_9_7 x90_b x98_d mx0_0_d mx0_1_d rl_8_8_d rl_9_8_d) (xT N4 (xB 6 (xB 5 (Z4H N [1,1,1,1,1,0,1,0,0,1,1,1] (xT N2 (xB 4 (Z4H N [1,1,1,1,1,1] Q))))))):=
 Eq.mpr V4 (h _ rfl _ rfl _ (Z7 _) _ (Z7 _) _ (Z7 _) _ (Z7 _))
theorem Zkg(N:Nat)(mc ma:Bool)(p q:Edit)(rl_8_7 rl_9_7:List WEdit)(x90_b x98_d:Int)(mx0_0_e mx0_1_e:Bool)(rl_8_8_e rl_9_8_e:List Kid)(N4 N2:NT)(Q:QT)(h:(InR (x98_d+1))/\(N4 (Z7s mc ma p q rl_8_7 rl_9_7 x90_b (x98_d+1) mx0_0_e mx0_1_e rl_8_8_e rl_9_8_e))):
  Z8B N [1,1,1,1,1,0,1,0,0,1,1,0,0,1,1,0,0,1,1,1] (Zbs mc ma p q rl_8_7 rl_9_7 x90_b x98_d mx0_0_e mx0_1_e rl_8_8_e rl_9_8_e) (xT N4 (xB 6 (xB 5 (Z4H N [1,1,1,1,1,0,1,0,0,1,1,1] (xT N2 (xB 4 (Z4H N [1,1,1,1,1,1] Q))))))):=
 Eq.mpr V4 h
def ZBT(N:Nat)(mc ma:Bool)(p q:Edit):Prop:=AW (Z3d (ZjD N)) Tryz.f105 ZpQ [] (Zh (Zge.can ((mc,ma,()),p,q,())) (Zge.canX ((mc,ma,()),p,q,()))) (EQ Tryz.f105 (ZeS ((mc,ma,()),p,q,())) (Z9k ((mc,ma,()),p,q,())))
abbrev ZCR:Prop:=∀ (N:Nat) (mc:Bool) (ma:Bool) (p:Edit) (q:Edit) (_:Unit),Zfm ((mc,ma,()),p,q,())->Zpm ((mc,ma,()),p,q,()) < N+1->ZBT N mc ma p q
def ZpP:Zc U:=lvk [([0,4,5,6,7],[4,5,6,7,((.x 0),[])]),([0,4,6,7,8,9],[4,6,7,((.x 0),[])]),([0,4,6,7,8,22],[4,6,7,((.x 0),[])]),([6,7],[6,7,((.x 0),[])]),([6,7],[6,7,((.x 0),[])]),([4,6,7,8,10],[4,6,7,31,((.x 0),[])]),([4,6,7,10,32,33,34],[4,6,7,((.loc 31),[.any,.own .op,.own .op,.own .tree,.own .tree]),((.x 0),[])]),([4,6,7,10,32,33,34,35],[4,6,7,31,((.x 0),[])]),([4,6,7,10,12,32,33,34],[4,6,7,12,31,((.x 0),[])]),([4,6,7,10,12,32,33,34,39],[4,6,7,12,31,((.x 0),[])]),([4,6,7,10,12,32,33,34],[4,6,7,12,31,((.x 0),[])]),([4,6,7,10,32,33,34],[4,6,7,31,((.x 0),[])]),([4,6,7,10,12,32,33,34,39,48],[4,6,7,12,31,((.x 0),[])]),([4,6,7,10,32,33,34],[4,6,7,31,((.x 0),[])]),([4,6,7,10,12,32,33,34,61],[4,6,7,12,31,((.x 0),[])]),([4,6,7,10,32,33,34],[4,6,7,31,((.x 0),[])]),([4,6,7,10,32,33,34],[4,6,7,((.loc 31),[.any,.own .op,.own .op,.own .tree,.own .tree]),((.x 0),[])]),([4,6,7,10],[4,6,7,31,((.x 0),[])]),([6,7],[6,7,((.x 0),[])])]
def Z2S(mc ma:Bool)(p q:Edit)(x34:Int)(mx0_0 mx0_1:Bool)(ml31_3 ml31_4:List Tree)(ml31_1 ml31_2:List Op):LSt U:=(L2 [pL 4,pL 6,pL 7,(10,.ptr (.loc 31) 0),(32,.c (sU .piece ((ZH 2 2 p.ops q.ops []).1) .unk)),pI 33 (((ZH 2 2 p.ops q.ops []).1).length:Int),pI 34 x34] [(.loc 4,(enc .edit p)),(.loc 6,zc1),(.loc 7,zc1),(.loc 31,[.xp 0,sU .op ml31_1 (.own (.l 31 1)),sU .op ml31_2 (.own (.l 31 2)),sU .tree ml31_3 (.own (.l 31 3)),sU .tree ml31_4 (.own (.l 31 4))]),(.x 0,[.bool mx0_0,.bool mx0_1])])
abbrev ZFY(N:Nat)(p:List Nat):=AW (Z0 (ZjD N)) Tryz.f106 ZpP p
abbrev ZIk(N:Nat)(p:List Nat):=SW (Z0 (ZjD N)) Tryz.f106 ZpP p
theorem ZHf(N:Nat)(mc ma:Bool)(p q:Edit)(Q:QT)(h:((Zna (p.ops,q.ops,()))/\(iB (!((ZH 2 2 p.ops q.ops []).2.1)) (((ZaY ())/\(Q .ret (L2 [pL 6,pL 7] [(.loc 6,(enc .edit Edit.nil)),(.loc 7,(enc .edit Edit.nil)),(.x 0,[.bool mc,.bool true])])))) ((Zd (ZFY N [1,1,1,1,0,1,0,0]) (Z2S mc ma p q 0 mc ma [] [] [] []) (xB 0 (ZIk N [1,1,1,1,1] Q))))))):
  ZFY N [] (L2 [(0,.ptr (.x 0) 0),(1,.agg (enc .edit p)),(2,.agg (enc .edit q))] [(.x 0,[.bool mc,.bool ma])]) Q:=
 Eq.mpr V4 h
theorem Zuf(N:Nat)(mc ma:Bool)(p q:Edit)(x34:Int)(mx0_0 mx0_1:Bool)(ml31_3 ml31_4:List Tree)(ml31_1 ml31_2:List Op)(N0:NT)(Q:QT)(h:∀ y_1,y_1=(Edit.new (Yx p.list (ml31_1++(Ym ml31_3 ml31_4).x)))->∀ y_2,y_2=(Edit.new (Yx p.list (ml31_2++(Ym ml31_3 ml31_4).y)))->∀ y_3,y_3=(Edit.old (Yx p.list (ml31_1++(Ym ml31_3 ml31_4).x)))->∀ y_4,y_4=(Edit.old (Yx p.list (ml31_2++(Ym ml31_3 ml31_4).y)))->∀ y_5,y_5=(List.getD ((ZH 2 2 p.ops q.ops []).1) x34.toNat (Piece.mk 0 Op.nil Op.nil))->∀ y_6,y_6=(y_5.p)->∀ y_7,y_7=(y_5.q)->let z4:=ZA lbE y_6 y_7;let z3:=ZiR (((),ml31_1,ml31_2,ml31_3,ml31_4,()),(mx0_0,mx0_1,()),());let z0:=Ym ml31_3 ml31_4;let z2:=Yx p.list (ml31_2++z0.y);let z1:=Yx p.list (ml31_1++z0.x);(iB (decide (x34 < (((ZH 2 2 p.ops q.ops []).1).length:Int))) (((0:Int)<=x34/\x34 < (((ZH 2 2 p.ops q.ops []).1).length:Int))/\(iB (y_5.of==1) (((ml31_3.length+y_5.p.l.length)*56<=140737488355328)/\((InR (x34+1))/\(N0 (Z2S mc ma p q (x34+1) mx0_0 mx0_1 (ml31_3++y_5.p.l) ml31_4 ml31_1 ml31_2)))) ((iB (y_5.of==2) (((ml31_4.length+y_5.q.l.length)*56<=140737488355328)/\((InR (x34+1))/\(N0 (Z2S mc ma p q (x34+1) mx0_0 mx0_1 ml31_3 (ml31_4++y_5.q.l) ml31_1 ml31_2)))) (z3/\((ZaX (((),(ml31_1++z0.x),(ml31_2++z0.y),([]:List Tree),([]:List Tree),()),y_6,y_7,((mx0_0 || z0.c),mx0_1,()),()))/\(Zpi (((),(ml31_1++z0.x),(ml31_2++z0.y),([]:List Tree),([]:List Tree),()),y_6,y_7,((mx0_0 || z0.c),mx0_1,()),()) < N)/\((InR (x34+1))/\(N0 (Z2S mc ma p q (x34+1) ((mx0_0 || z0.c) || z4.c) (mx0_1 || z4.a) ([]:List Tree) ([]:List Tree) ((ml31_1++z0.x)++z4.x) ((ml31_2++z0.y)++z4.y)))))))))) (z3/\((Zfd (p.list,(ml31_1++z0.x),()))/\(Zfd (p.list,(ml31_2++z0.y),()))/\(Q .ret (L2 [pL 6,pL 7] [(.loc 6,([ci (Edit.kind z1)]++enc .tree y_3++enc .tree y_1++[sU .wedit (Edit.words z1) .unk,sU .kid (Edit.kids z1) .unk,ci (Edit.list z1),sU .op (Edit.ops z1) .unk])),(.loc 7,([ci (Edit.kind z2)]++enc .tree y_4++enc .tree y_2++[sU .wedit (Edit.words z2) .unk,sU .kid (Edit.kids z2) .unk,ci (Edit.list z2),sU .op (Edit.ops z2) .unk])),(.x 0,[.bool (mx0_0 || z0.c),.bool mx0_1])])))))):
  ZFY N [1,1,1,1,0,1,0,0] (Z2S mc ma p q x34 mx0_0 mx0_1 ml31_3 ml31_4 ml31_1 ml31_2) (xT N0 (xB 0 (ZIk N [1,1,1,1,1] Q))):=
 Eq.mpr V4 (h _ rfl _ rfl _ rfl _ rfl _ rfl _ (Yw _) _ (Yw _))
def ZBS(N:Nat)(mc ma:Bool)(p q:Edit):Prop:=AW (Z0 (ZjD N)) Tryz.f106 ZpP [] (Zh (Zge.can ((mc,ma,()),p,q,())) (Zge.canX ((mc,ma,()),p,q,()))) (EQ Tryz.f106 (ZeR ((mc,ma,()),p,q,())) (Z9j ((mc,ma,()),p,q,())))
abbrev ZCQ:Prop:=∀ (N:Nat) (mc:Bool) (ma:Bool) (p:Edit) (q:Edit) (_:Unit),Zfl ((mc,ma,()),p,q,())->Zpm ((mc,ma,()),p,q,()) < N+1->ZBS N mc ma p q
def Zws:Zc U:=lvk [([0,4,5],[4,5,((.x 0),[]),((.x 1),[])]),([0,6,7],[6,7,((.x 0),[]),((.x 1),[])]),([],[((.x 0),[]),((.x 1),[])]),([0,4,5,42],[4,5,((.x 0),[]),((.x 1),[])]),([],[((.x 0),[]),((.x 1),[])]),([0,4,5,62],[4,5,((.x 0),[]),((.x 1),[])]),([],[((.x 0),[]),((.x 1),[])]),([0,4,5,82],[4,5,((.x 0),[]),((.x 1),[])]),([],[((.x 0),[]),((.x 1),[])]),([0,4,5,109],[4,5,((.x 0),[]),((.x 1),[])]),([],[((.x 0),[]),((.x 1),[])]),([0,4,5,133],[4,5,((.x 0),[]),((.x 1),[])]),([0,147],[((.x 0),[]),((.x 1),[])]),([],[((.x 0),[]),((.x 1),[])]),([0,4,5,154],[4,5,((.x 0),[]),((.x 1),[])]),([],[((.x 0),[]),((.x 1),[])]),([0,4,5,166],[4,5,((.x 0),[]),((.x 1),[])]),([],[((.x 0),[]),((.x 1),[])])]
abbrev ZJw(N:Nat)(p:List Nat):=AW (Z0 (ZjD N)) Tryz.f145 Zws p
theorem ZGU(N:Nat)(sm_:Unit)(sx sy:List Op)(si sh:List Tree)(p q:Op)(mc ma:Bool)(Q:QT)(h:∀ y_1,y_1=p->∀ y_2,y_2=q->∀ y_3,y_3=(p.e)->∀ y_4,y_4=(q.e)->∀ y_5,y_5=(List.getD p.l (Int.toNat 0) Tree.nil)->∀ y_6,y_6=(List.getD q.l (Int.toNat 0) Tree.nil)->∀ y_7,y_7=(Edit.mk 0 (Tree.mk 0 [] []) (Tree.mk 0 [] []) [] [] 0 [])->∀ y_8,y_8=((lbE y_3 y_4).x)->∀ y_9,y_9=((lbE y_3 y_4).y)->∀ y_10,y_10=(Z0j y_8)->∀ y_11,y_11=(Z0j y_9)->let z0:= !(eqX (Z8 p.l) (Z8 q.l));((Tt (p.kind==0))/\(Tt (p.kind==0))/\(Tt (p.kind==0))/\(iB (bif (p.kind==0) then (q.kind==1) else false) (((sy.length+([(OpOf.mk 0 0 [] y_7)]).length)*240<=140737488355328)/\((0:Int)<=(sy.length:Int)/\(sy.length:Int) < ((sy++([(OpOf.mk 0 0 [] y_7)])).length:Int))/\(sy.length<=(Int.toNat (sy.length:Int)))/\(Q .normal (L2 [] [(.x 0,[.xp 1,sU .op sx (.own (.x 0 1)),sU .op (List.set (sy++([(OpOf.mk 0 0 [] y_7)])) (Int.toNat (sy.length:Int)) y_2) (.own (.x 0 2)),sU .tree si (.own (.x 0 3)),sU .tree sh (.own (.x 0 4))]),(.x 1,[.bool mc,.bool ma])]))) ((Tt (p.kind==1))/\(Tt (p.kind==1))/\(Tt (p.kind==1))/\(iB (bif (p.kind==1) then (q.kind==0) else false) (((sx.length+([(OpOf.mk 0 0 [] y_7)]).length)*240<=140737488355328)/\((0:Int)<=(sx.length:Int)/\(sx.length:Int) < ((sx++([(OpOf.mk 0 0 [] y_7)])).length:Int))/\(sx.length<=(Int.toNat (sx.length:Int)))/\(Q .normal (L2 [] [(.x 0,[.xp 1,sU .op (List.set (sx++([(OpOf.mk 0 0 [] y_7)])) (Int.toNat (sx.length:Int)) y_1) (.own (.x 0 1)),sU .op sy (.own (.x 0 2)),sU .tree si (.own (.x 0 3)),sU .tree sh (.own (.x 0 4))]),(.x 1,[.bool mc,.bool ma])]))) ((iB (p.kind==0) (((sx.length+([(OpOf.mk 0 (if q.n < 1 then 1 else q.n) [] y_7)]).length)*240<=140737488355328)/\((sy.length+([y_2]).length)*240<=140737488355328)/\(Q .normal (L2 [] [(.x 0,[.xp 1,sU .op (sx++([(OpOf.mk 0 (if q.n < 1 then 1 else q.n) [] y_7)])) (.own (.x 0 1)),sU .op (sy++([y_2])) (.own (.x 0 2)),sU .tree si (.own (.x 0 3)),sU .tree sh (.own (.x 0 4))]),(.x 1,[.bool mc,.bool ma])]))) ((iB (q.kind==0) (((sx.length+([y_1]).length)*240<=140737488355328)/\((sy.length+([(OpOf.mk 0 1 [] y_7)]).length)*240<=140737488355328)/\(Q .normal (L2 [] [(.x 0,[.xp 1,sU .op (sx++([y_1])) (.own (.x 0 1)),sU .op (sy++([(OpOf.mk 0 1 [] y_7)])) (.own (.x 0 2)),sU .tree si (.own (.x 0 3)),sU .tree sh (.own (.x 0 4))]),(.x 1,[.bool mc,.bool ma])]))) ((Tt (p.kind==1))/\(Tt (p.kind==1))/\(Tt (p.kind==1))/\(iB (bif (p.kind==1) then (q.kind==1) else false) ((Z8i (p.l,q.l,(),()))/\(iB z0 ((Q .normal (L2 [] [(.x 0,[.xp 1,sU .op sx (.own (.x 0 1)),sU .op sy (.own (.x 0 2)),sU .tree si (.own (.x 0 3)),sU .tree sh (.own (.x 0 4))]),(.x 1,[.bool mc,.bool true])]))) (Q .normal (L2 [(0,.ptr (.x 0) 0),pB 147 z0] [(.x 0,[.xp 1,sU .op sx (.own (.x 0 1)),sU .op sy (.own (.x 0 2)),sU .tree si (.own (.x 0 3)),sU .tree sh (.own (.x 0 4))]),(.x 1,[.bool mc,.bool ma])])))) ((iB (p.kind==1) (((0:Int)<=0/\0 < (p.l.length:Int))/\(Zf6 (((),sx,sy,si,sh,()),y_4,y_5,(mc,ma,()),()))/\(Q .normal (L2 [] [(.x 0,[.xp 1,sU .op sx (.own (.x 0 1)),sU .op sy (.own (.x 0 2)),sU .tree si (.own (.x 0 3)),sU .tree sh (.own (.x 0 4))]),(.x 1,[.bool true,.bool (ma || !(doE false y_4 y_5).isSome)])]))) ((iB (q.kind==1) (((0:Int)<=0/\0 < (q.l.length:Int))/\(Zf6 (((),sx,sy,si,sh,()),y_3,y_6,(mc,ma,()),()))/\(Q .normal (L2 [] [(.x 0,[.xp 1,sU .op sx (.own (.x 0 1)),sU .op sy (.own (.x 0 2)),sU .tree si (.own (.x 0 3)),sU .tree sh (.own (.x 0 4))]),(.x 1,[.bool true,.bool (ma || !(doE false y_3 y_6).isSome)])]))) ((Zf1 ((mc,ma,()),y_3,y_4,()))/\(ZvM ((mc,ma,()),y_3,y_4,()) < N)/\((ZiE (y_8,()))/\((sx.length+([y_10]).length)*240<=140737488355328)/\(ZiE (y_9,()))/\((sy.length+([y_11]).length)*240<=140737488355328)/\(Q .normal (L2 [] [(.x 0,[.xp 1,sU .op (sx++([y_10])) (.own (.x 0 1)),sU .op (sy++([y_11])) (.own (.x 0 2)),sU .tree si (.own (.x 0 3)),sU .tree sh (.own (.x 0 4))]),(.x 1,[.bool (mc || (lbE y_3 y_4).c),.bool (ma || (lbE y_3 y_4).a)])]))))))))))))))))))):
  ZJw N [] (L2 [(0,.ptr (.x 0) 0),(1,.agg (enc .op p)),(2,.agg (enc .op q))] [(.x 0,[.xp 1,sU .op sx (.own (.x 0 1)),sU .op sy (.own (.x 0 2)),sU .tree si (.own (.x 0 3)),sU .tree sh (.own (.x 0 4))]),(.x 1,[.bool mc,.bool ma])]) Q:=
 Eq.mpr V4 (h _ (Yw _) _ (Yw _) _ (Z7 _) _ (Z7 _) _ (Za _) _ (Za _) _ rfl _ (Z7 _) _ (Z7 _) _ (Yw _) _ (Yw _))
def ZBx(N:Nat)(sm_:Unit)(sx sy:List Op)(si sh:List Tree)(p q:Op)(mc ma:Bool):Prop:=AW (Z0 (ZjD N)) Tryz.f145 Zws [] (Zh (Zaq.can ((sm_,sx,sy,si,sh,()),p,q,(mc,ma,()),())) (Zaq.canX ((sm_,sx,sy,si,sh,()),p,q,(mc,ma,()),()))) (EQ Tryz.f145 (ZeN ((sm_,sx,sy,si,sh,()),p,q,(mc,ma,()),())) (Z9g ((sm_,sx,sy,si,sh,()),p,q,(mc,ma,()),())))
abbrev ZCJ:Prop:=∀ (N:Nat) (sm_:Unit) (sx:List Op) (sy:List Op) (si:List Tree) (sh:List Tree) (p:Op) (q:Op) (mc:Bool) (ma:Bool) (_:Unit),ZaX ((sm_,sx,sy,si,sh,()),p,q,(mc,ma,()),())->Zpi ((sm_,sx,sy,si,sh,()),p,q,(mc,ma,()),()) < N+1->ZBx N sm_ sx sy si sh p q mc ma
theorem ZyS(ZcL:CT 114 JR)(ZF0:CT 103 Zdd)(ZEZ:CT 104 Zdc)(ZjO:CT 177 Z11)(ZET:CT 138 Zda)(ZES:CT 139 Zd9)(ZER:CT 140 Zd8)(ZEQ:CT 141 Zd7)(ZEP:CT 142 Zd6)(ZEO:CT 143 Zd5)(ZEN:CT 144 Zd4)(ZEM:CT 146 Zd3)(ZEp:CT 196 ZcR)(ZEo:CT 197 ZcQ)(b66:ZIq)(ZFd:ZCR)(ZFc:ZCQ)(ZF6:ZCJ):
  CT 66 ZaE/\CT 105 ZoF/\CT 106 ZoE/\CT 145 Zoy:=by
 have h77 : ∃ fn, Tryz.prog.funcs[(66 : FuncId)]? = some fn ∧ fn.body.isSome = true ∧ (fn.name == "runtime.NumGoroutine") = false := ⟨Tryz.f66, Tryz.func66, rfl, rfl⟩
 have h114 : ∃ fn, Tryz.prog.funcs[(105 : FuncId)]? = some fn ∧ fn.body.isSome = true ∧ (fn.name == "runtime.NumGoroutine") = false := ⟨Tryz.f105, Tryz.func105, rfl, rfl⟩
 have h115 : ∃ fn, Tryz.prog.funcs[(106 : FuncId)]? = some fn ∧ fn.body.isSome = true ∧ (fn.name == "runtime.NumGoroutine") = false := ⟨Tryz.f106, Tryz.func106, rfl, rfl⟩
 have h160 : ∃ fn, Tryz.prog.funcs[(145 : FuncId)]? = some fn ∧ fn.body.isSome = true ∧ (fn.name == "runtime.NumGoroutine") = false := ⟨Tryz.f145, Tryz.func145, rfl, rfl⟩
 have key:∀ N,CT 66 (fsX Zge (fun a=> [Zf1 a,ZvM a < N]) ZkP ZeH)/\CT 105 (fsX Zge (fun a=> [Zfm a,Zpm a < N]) ZeS Z9k)/\CT 106 (fsX Zge (fun a=> [Zfl a,Zpm a < N]) ZeR Z9j)/\CT 145 (fsX Zaq (fun a=> [ZaX a,Zpi a < N]) ZeN Z9g):=by
  intro N
  induction N with
  | zero=> exact ⟨Zah h77,Zah h114,Zah h115,Zah h160⟩
  | succ N ih=>
   have kn:=Z0z (l:=Z3T N) ⟨ih.1,ih.2.1,ih.2.2.1,ih.2.2.2,ZcL,ZF0,ZEZ,ZjO,ZET,ZES,ZER,ZEQ,ZEP,ZEO,ZEN,ZEM,ZEp,ZEo,trivial⟩
   exact ⟨Z1d (Γ:=Z0 (Z3T N)) Zi rfl kn ZDT Tryz.func66 rfl rfl (fun a=> by show 3<=_;decide) (fun ⟨⟨mc,ma,_⟩,p,q,_⟩ h=> b66 N mc ma p q () h.1 h.2.1),
    Z1d (Γ:=Z3d (Z3T N)) Zi rfl kn ZpQ Tryz.func105 rfl rfl (fun a=> by show 3<=_;decide) (fun ⟨⟨mc,ma,_⟩,p,q,_⟩ h=> ZFd N mc ma p q () h.1 h.2.1),
    Z1d (Γ:=Z0 (Z3T N)) Zi rfl kn ZpP Tryz.func106 rfl rfl (fun a=> by show 3<=_;decide) (fun ⟨⟨mc,ma,_⟩,p,q,_⟩ h=> ZFc N mc ma p q () h.1 h.2.1),
    Z1d (Γ:=Z0 (Z3T N)) Zi rfl kn Zws Tryz.func145 rfl rfl (fun a=> by show 3<=_;decide) (fun ⟨⟨sm_,sx,sy,si,sh,_⟩,p,q,⟨mc,ma,_⟩,_⟩ h=> ZF6 N sm_ sx sy si sh p q mc ma () h.1 h.2.1)⟩
 exact ⟨Zai h77 fun N=> (key N).1,Zai h114 fun N=> (key N).2.1,Zai h115 fun N=> (key N).2.2.1,Zai h160 fun N=> (key N).2.2.2⟩
end
theorem Zt2:Contract Tryz.prog cfg 190 Z3r:=by
 refine Zze ?_
 intro w _ _
 refine ZGp _ _ ?_
 simp only [ZmP]
 exact JP
theorem Zt1:Contract Tryz.prog cfg 192 Z3q:=by
 refine Zzc ?_
 intro w _ _
 refine ZGn _ _ ?_
 simp only [ZmO]
 exact JP
theorem ZEm:Contract Tryz.prog cfg 199 Z8S:=by
 refine Zz5 ?_
 intro w _ _
 refine ZGg _ _ ?_
 simp only [ZmM]
 exact JP
theorem Z4q{α:Type}(f:α->Bool):∀ (l:List α) (i:Int),(Yy f l i= -1/\∀ a∈l,f a=false)\/(i<=Yy f l i/\Yy f l i < i+l.length/\(∀ a∈l.take (Yy f l i - i).toNat,f a=false)/\∀ z,f (l.getD (Yy f l i - i).toNat z)=true)
 | [],i=> .inl ⟨rfl,fun a h=> by cases h⟩
 | a ::r,i=> by
  by_cases h:f a=true
  .rw [Yy,if_pos h]
   refine .inr ⟨Qw _,by simp only [Q6];omega,?_,fun z=> ?_⟩
   .rw [show (i - i).toNat=0 by omega];simp
   .rw [show (i - i).toNat=0 by omega];exact h
  .rw [Yy,if_neg h]
   rcases Z4q f r (i+1) with ⟨h1,h2⟩ | ⟨h1,h2,h3,h4⟩
   .exact .inl ⟨h1,fun x hx=> by rcases Qc.1 hx with rfl | hx;simpa using h;exact h2 x hx⟩
   .have e:(Yy f r (i+1) - i).toNat=(Yy f r (i+1) - (i+1)).toNat+1:=YS
    rw [e]
    refine .inr ⟨YS,by simp only [Q6];omega,fun x hx=> ?_,fun z=> by simpa using h4 z⟩
    rw [List.take_succ_cons] at hx
    rcases Qc.1 hx with rfl | hx
    .simpa using h
    .exact h3 x hx
theorem Zx9{α:Type}(f:α->Bool)(l:List α):decide (0<=Yy f l 0)=l.any f:=by
 rcases Z4q f l 0 with ⟨h1,h2⟩ | ⟨h1,h2,_,h4⟩
 .rw [h1,Xr.2 (fun x hx=> by rw [h2 x hx];decide)];try rfl
 .rw [decide_eq_true h1,X6.2]
  cases l with
  | nil=> simp at h2;omega
  | cons a r=> exact ⟨_,Ze (by simp only [Q6] at h2 ⊢;omega) a,h4 a⟩
theorem ZEf:Contract Tryz.prog cfg 224 Z8P:=by
 refine ZyY Zt2 ?_
 intro l f _ hp
 simp only [ZiA] at hp
 refine ZG9 l f _ ?_
 refine Z5 (ι:=Int) (fun i=> Z71 l f i) (fun i=> 0<=i/\i<=l.length/\Yy (fun w:WEdit=> decide (WEdit.mask w=0)) (l.drop i.toNat) i=Yy (fun w:WEdit=> decide (WEdit.mask w=0)) l 0) (fun i=> ((l.length:Int) - i).toNat) 0 rfl ⟨YS,YS,rfl⟩ ?_
 rintro i ⟨h1,h2,h3⟩
 refine Ztt l f _ _ _ ?_
 (simp only [iB,vcT,vcS])
 refine ⟨fun hi=> ⟨⟨h1,hi⟩,trivial,fun he=> ?_,fun he=> ⟨V3,i+1,rfl,⟨YS,YS,?_⟩,YS⟩⟩,fun hi=> ?_⟩
 .rw [ZQ h1 hi ⟨0,0,0,0⟩,Yy,if_pos (decide_eq_true he)] at h3
  simp only [Zib,<-h3]
  exact JP
 .rw [ZQ h1 hi ⟨0,0,0,0⟩,Yy,if_neg (fun e=> he (of_decide_eq_true e))] at h3
  exact h3
 .rw [Q9 YS,Yy] at h3
  simp only [Zib,<-h3]
  exact JP
theorem Zxn:Contract Tryz.prog cfg 225 Z5B:=by
 refine ZvU Zt1 ?_
 intro l f _ hp
 simp only [Zdx] at hp
 refine ZCV l f _ ?_
 refine Z5 (ι:=Int) (fun i=> Z5b l f i) (fun i=> 0<=i/\i<=l.length/\Yy (fun k:Kid=> decide (Edit.kind (KidOf.e k)=0)) (l.drop i.toNat) i=Yy (fun k:Kid=> decide (Edit.kind (KidOf.e k)=0)) l 0) (fun i=> ((l.length:Int) - i).toNat) 0 rfl ⟨YS,YS,rfl⟩ ?_
 rintro i ⟨h1,h2,h3⟩
 refine ZrY l f _ _ _ ?_
 intro y1 e1 y2 e2
 (simp only [iB,vcT,vcS])
 subst_vars
 refine ⟨fun hi=> ⟨⟨h1,hi⟩,trivial,fun he=> ?_,fun he=> ⟨V3,i+1,rfl,⟨YS,YS,?_⟩,YS⟩⟩,fun hi=> ?_⟩
 .rw [ZQ h1 hi ⟨0,Edit.nil⟩,Yy,if_pos (decide_eq_true he)] at h3
  simp only [Zdu,<-h3]
  exact JP
 .rw [ZQ h1 hi ⟨0,Edit.nil⟩,Yy,if_neg (fun e=> he (of_decide_eq_true e))] at h3
  exact h3
 .rw [Q9 YS,Yy] at h3
  simp only [Zdu,<-h3]
  exact JP
theorem ZEc:Contract Tryz.prog cfg 230 Z8M:=by
 refine ZyT ZEm ?_
 intro l f _ hp
 simp only [Ziz] at hp
 refine ZG4 l f _ ?_
 refine Z5 (ι:=Int) (fun i=> Z70 l f i) (fun i=> 0<=i/\i<=l.length/\Yy (fun o:Op=> !decide (OpOf.kind o=0)) (l.drop i.toNat) i=Yy (fun o:Op=> !decide (OpOf.kind o=0)) l 0) (fun i=> ((l.length:Int) - i).toNat) 0 rfl ⟨YS,YS,rfl⟩ ?_
 rintro i ⟨h1,h2,h3⟩
 refine Zts l f _ _ _ ?_
 intro y1 e1 y2 e2
 (simp only [iB,vcT,vcS])
 subst_vars
 refine ⟨fun hi=> ⟨⟨h1,hi⟩,trivial,fun he=> ?_,fun he=> ⟨V3,i+1,rfl,⟨YS,YS,?_⟩,YS⟩⟩,fun hi=> ?_⟩
 .rw [ZQ h1 hi Op.nil,Yy,if_pos (by simpa using he)] at h3
  simp only [Zia,<-h3]
  exact JP
 .rw [ZQ h1 hi Op.nil,Yy,if_neg (by simpa using he)] at h3
  exact h3
 .rw [Q9 YS,Yy] at h3
  simp only [Zia,<-h3]
  exact JP
theorem ZEn:Contract Tryz.prog cfg 198 Z8T:=by
 refine Zz6 ZEc ?_
 intro l f _ hp
 simp only [Ziz] at hp
 refine ZGh l f _ ⟨hp,?_⟩
 simp only [ZmN]
 rw [Zx9]
 exact JP
theorem ZEr:Contract Tryz.prog cfg 194 Z8V:=by
 refine Zza ?_
 intro n _ _
 refine ZGl _ _ ?_
 (simp only [iB,vcT,vcS])
 refine ⟨fun h=> ?_,fun h=> ?_⟩
 .simp only [Zif,Yl,if_pos h]
  exact JP
 .simp only [Zif,Yl,if_neg h]
  exact JP
theorem ZET:Contract Tryz.prog cfg 138 Zda:=by
 refine ZzM ?_
 intro l _ hp
 simp only [Zfh] at hp
 refine ZH1 _ _ ⟨fun h=> ?_,fun _=> ⟨by simp only [Q8];omega,?_⟩⟩
 .subst h
  simp only [Zdt]
  exact JP
 .simp only [Zdt]
  exact JP
theorem ZEQ:Contract Tryz.prog cfg 141 Zd7:=by
 refine ZzJ ?_
 intro l _ hp
 simp only [Zff] at hp
 refine ZGY _ _ ⟨fun h=> ?_,fun _=> ⟨by simp only [Q8];omega,?_⟩⟩
 .subst h
  simp only [Zds]
  exact JP
 .simp only [Zds]
  exact JP
structure DInv {α:Type} (g:α->Bool) (l L:List α) (i j:Int):Prop where
 i0:0<=i
 ij:i < j
 jl:j<=l.length
 len:L.length=l.length
 tk:L.take i.toNat=(l.take j.toNat).filter g
 dr:L.drop j.toNat=l.drop j.toNat
theorem DInv.one{α:Type}{f:α->Bool}{l:List α}{k:Int}(e:Yy f l 0=k)(hk:k≠-1):DInv (fun a=> !f a) l l k (k+1):=by
 subst e
 rcases Z4q f l 0 with ⟨h1,_⟩ | ⟨h1,h2,h3,h4⟩
 .exact absurd h1 hk
 .rw [Int.sub_zero] at h3 h4
  refine ⟨h1,YS,YS,rfl,?_,rfl⟩
  cases l with
  | nil=> simp at h2;omega
  | cons a r=>
   rw [show (Yy f (a ::r) 0+1).toNat=(Yy f (a ::r) 0).toNat+1 by omega,Z6o YS a,Kv,XC,h4 a,Kq.2 (fun x hx=> by rw [h3 x hx];rfl)]
   simp
theorem DInv.get{α:Type}{g:α->Bool}{l L:List α}{i j:Int}(h:DInv g l L i j)(z:α):L.getD j.toNat z=l.getD j.toNat z:=by
 have:=congrArg (fun x=> x.getD 0 z) h.dr
 simpa [Qg] using this
theorem DInv.next{α:Type}{g:α->Bool}{l L:List α}{i j:Int}(h:DInv g l L i j)(hj:j < l.length)(z:α):
  (g (L.getD j.toNat z)=true->DInv g l (L.set i.toNat (L.getD j.toNat z)) (i+1) (j+1))/\(g (L.getD j.toNat z)=false->DInv g l L i (j+1)):=by
 obtain ⟨i0,ij,jl,len,tk,dr⟩:=h
 have e:=DInv.get ⟨i0,ij,jl,len,tk,dr⟩ z
 have t1:l.take (j+1).toNat=l.take j.toNat++[l.getD j.toNat z]:=by rw [show (j+1).toNat=j.toNat+1 by omega];exact Z6o YS z
 have d1:L.drop (j+1).toNat=l.drop (j+1).toNat:=by
  have:=congrArg (List.drop 1) dr
  rw [Xo,Xo] at this
  rw [show (j+1).toNat=j.toNat+1 by omega];exact this
 refine ⟨fun hg=> ⟨YS,YS,YS,by rw [Km];exact len,?_,?_⟩,fun hg=> ⟨i0,YS,YS,len,?_,d1⟩⟩
 .have hlt:i.toNat < L.length:=YS
  rw [show (i+1).toNat=i.toNat+1 by omega,Z6o (by rw [Km];exact hlt) z,t1,Kv,<-tk,List.take_set_of_le YS]
  rw [e] at hg
  rw [XC,if_pos hg,e]
  simp [Qg,hlt]
 .rw [List.drop_set,V0]
  exact d1
 .rw [t1,Kv,<-tk]
  rw [e] at hg
  rw [XC,hg]
  simp
theorem DInv.fin{α:Type}{g:α->Bool}{l L:List α}{i j:Int}(h:DInv g l L i j)(hj:¬j < l.length)(r:List α):List.take i.toNat (List.take i.toNat L++r)=l.filter g:=by
 have h1:=h.ij;have h2:=h.jl;have h3:=h.len;have h4:=h.i0
 rw [Kp (by rw [Qj];omega),List.take_take,Nat.min_self,h.tk,Qu YS]
theorem ZEt:Contract Tryz.prog cfg 189 Z8X:=by
 refine Zzf Zt2 ZEf ?_
 intro l f _ hp
 simp only [ZiA] at hp
 refine ZGq l f _ ?_
 (simp only [iB,vcT,vcS])
 refine ⟨hp,fun h=> ?_,fun h=> ?_⟩
 .have e:l.filter (fun w=> !decide (WEdit.mask w=0))=l:=by
   rcases Z4q (fun w:WEdit=> decide (WEdit.mask w=0)) l 0 with ⟨_,h2⟩ | ⟨h1,_⟩
   .exact Kq.2 fun x hx=> by rw [h2 x hx];try rfl
   .omega
  simp only [Zii,Zdi,Zdn,e]
  exact JP
 .have D:=DInv.one (f:=fun w:WEdit=> decide (WEdit.mask w=0)) (l:=l) rfl h
  have:=D.jl;have:=D.i0
  refine ⟨V3,?_⟩
  refine Z5 (ι:=List WEdit × Int × Int) (fun s=> Z4u l f s.2.1 s.2.2 s.1) (fun s=> DInv (fun w:WEdit=> !decide (WEdit.mask w=0)) l s.1 s.2.1 s.2.2) (fun s=> ((l.length:Int) - s.2.2).toNat) (l,_,_) rfl D ?_
  rintro ⟨L,i,j⟩ D
  dsimp only at D
  have hl:=D.len;have h0:=D.i0;have h1:=D.ij;have h2:=D.jl
  refine ZtB l f _ _ _ _ _ ?_
  intro y1 hy1 y2 hy2
  subst hy2
  (simp only [iB,vcT,vcS])
  refine ⟨fun hj=> ?_,fun hj=> ?_⟩
  .have hn:=D.next YS ⟨0,0,0,0⟩
   rw [<-hy1] at hn
   refine ⟨⟨YS,hj⟩,trivial,fun he=> ⟨⟨h0,YS⟩,Xb _,V3,V3,(_,i+1,j+1),rfl,hn.1 (by simpa using he),V2⟩,fun he=> ⟨V3,(L,i,j+1),rfl,hn.2 (by simpa using he),V2⟩⟩
  .refine ⟨⟨h0,YS⟩,Xb _,⟨h0,by simp only [Q7,Qj,Xg];omega⟩,?_⟩
   rw [D.fin YS]
   simp only [Zii,Zdi,Zdn]
   exact JP
theorem ZEs:Contract Tryz.prog cfg 191 Z8W:=by
 refine Zzd Zt1 Zxn ?_
 intro l f _ hp
 simp only [Zdx] at hp
 refine ZGo l f _ ?_
 (simp only [iB,vcT,vcS])
 refine ⟨hp,fun h=> ?_,fun h=> ?_⟩
 .have e:l.filter (fun k=> !decide (Edit.kind (KidOf.e k)=0))=l:=by
   rcases Z4q (fun k:Kid=> decide (Edit.kind (KidOf.e k)=0)) l 0 with ⟨_,h2⟩ | ⟨h1,_⟩
   .exact Kq.2 fun x hx=> by rw [h2 x hx];try rfl
   .omega
  simp only [Zih,Zdh,Zdm,e]
  exact JP
 .have D:=DInv.one (f:=fun k:Kid=> decide (Edit.kind (KidOf.e k)=0)) (l:=l) rfl h
  have:=D.jl;have:=D.i0
  refine ⟨V3,?_⟩
  refine Z5 (ι:=List Kid × Int × Int) (fun s=> Z4t l f s.2.1 s.2.2 s.1) (fun s=> DInv (fun k:Kid=> !decide (Edit.kind (KidOf.e k)=0)) l s.1 s.2.1 s.2.2) (fun s=> ((l.length:Int) - s.2.2).toNat) (l,_,_) rfl D ?_
  rintro ⟨L,i,j⟩ D
  dsimp only at D
  have hl:=D.len;have h0:=D.i0;have h1:=D.ij;have h2:=D.jl
  refine ZtA l f _ _ _ _ _ ?_
  intro y1 hy1 y2 hy2
  subst hy2
  (simp only [iB,vcT,vcS])
  refine ⟨fun hj=> ?_,fun hj=> ?_⟩
  .have hn:=D.next YS ⟨0,Edit.nil⟩
   rw [<-hy1] at hn
   refine ⟨⟨YS,hj⟩,trivial,fun he=> ⟨⟨h0,YS⟩,Xb _,V3,V3,(_,i+1,j+1),rfl,hn.1 (by simpa using he),V2⟩,fun he=> ⟨V3,(L,i,j+1),rfl,hn.2 (by simpa using he),V2⟩⟩
  .refine ⟨⟨h0,YS⟩,Xb _,⟨h0,by simp only [Q7,Qj,Xg];omega⟩,?_⟩
   rw [D.fin YS]
   simp only [Zih,Zdh,Zdm]
   exact JP
theorem ZD6{a b n m:Nat}(h1:a<=n)(h2:b<=m)(hn:n<=10000000000)(hm:m<=10000000000):InR ((a:Int)+(b:Int)):=V3
theorem ZHp{a b:Nat}(h:(a:Int)+(b:Int)=0):a+b=0:=YS
theorem ZHo{a b:Nat}(h:¬(a:Int)+(b:Int)=0):¬a+b=0:=YS
set_option maxHeartbeats 2000000 in
theorem ZEP:Contract Tryz.prog cfg 142 Zd6:=by
 refine ZzI ZEt ZEs ?_
 intro ek eo eow eok en enw enk ew ec li eos _ hp
 simp only [Zfe] at hp
 refine ZGX _ _ _ _ _ _ _ _ _ _ _ _ ?_
 (simp only [iB,vcT,vcS])
 refine ⟨by show ew.length<=_;omega,by show ec.length<=_;omega,ZD6 (Ki _ _) (Ki _ _) hp.1 hp.2,fun h=> ?_,fun h=> ?_⟩
 .simp only [Zir,Zdl,Zdr]
  rw [show Z5D (Edit.mk ek (Tree.mk eo eow eok) (Tree.mk en enw enk) ew ec li eos)=Edit.nil from if_pos (show (ew.filter fun w=> !decide (WEdit.mask w=0)).length+(ec.filter fun k=> !decide (Edit.kind (KidOf.e k)=0)).length=0 from ZHp h)]
  exact JP
 .simp only [Zir,Zdl,Zdr]
  rw [show Z5D (Edit.mk ek (Tree.mk eo eow eok) (Tree.mk en enw enk) ew ec li eos)=Edit.mk ek (Tree.mk eo eow eok) (Tree.mk en enw enk) (ew.filter fun w=> !decide (WEdit.mask w=0)) (ec.filter fun k=> !decide (Edit.kind (KidOf.e k)=0)) li eos from if_neg (show ¬(ew.filter fun w=> !decide (WEdit.mask w=0)).length+(ec.filter fun k=> !decide (Edit.kind (KidOf.e k)=0)).length=0 from ZHo h)]
  exact JP
theorem ZEM:Contract Tryz.prog cfg 146 Zd3:=by
 refine ZzF ZEn ?_
 intro list l _ hp
 simp only [Zfd] at hp
 refine ZGT _ _ _ ⟨hp,fun h=> ?_,fun h=> ?_⟩
 .simp only [X2] at h
  simp only [Ziq,Yx]
  rw [if_neg (by rw [h];decide)]
  exact JP
 .simp only [Kw] at h
  simp only [Ziq,Yx]
  rw [if_pos h]
  exact JP
theorem ZF0:Contract Tryz.prog cfg 103 Zdd:=by
 refine ZzV c25 ZcL ?_
 intro mc ma e o n _ hp
 simp only [ZaZ] at hp
 obtain ⟨he,ho,hn⟩:=hp
 refine ZHi _ _ _ _ _ _ ?_
 intro y1 h1 y2 h2 y3 h3 y4 h4
 subst h1 h2 h3
 (simp only [iB,vcT,vcS])
 have ed:doB y1 y3=(y4,(doE false y1 y3).isSome):=by rw [h4];try rfl
 refine ⟨⟨he,ho⟩,fun h=> ?_,fun h=> ⟨⟨?_,by show Zm y2<=_;omega⟩,fun h2=> ?_,fun h2=> ?_⟩⟩
 .simp only [ZeT,Z9l,Z0k,ed,h,K9,XL,QB,Xk]
  exact JP
 .show Zm y4<=_
  rw [h4]
  exact ZfH he.2.2 ho.1
 .simp only [ZeT,Z9l,Z0k,ed,h,h2,QG,XA,XL,QB,Xk]
  exact JP
 .simp only [ZeT,Z9l,Z0k,ed,h,h2,QG,XA,QB]
  exact JP
theorem Z9T(l:List Tree):(Z0g l).length<=1:=by unfold Z0g;split <;> simp
theorem ZEN:Contract Tryz.prog cfg 144 Zd4:=by
 refine ZzG ZjO ZEr ZEq ?_
 intro sm_ sx sy si sh mc ma _ hp
 simp only [ZiR] at hp
 obtain ⟨⟨h1,h2⟩,h3,h4⟩:=hp
 have k1:=Z6Y si.length
 have k2:=Z6Y sh.length
 have k3:=Z9T si
 have k4:=Z9T sh
 refine ZGV sm_ _ _ _ _ _ _ _ ?_
 (simp only [iB,vcT,vcS])
 refine ⟨fun hb=> ⟨⟨by show Z9 si<=_;omega,by show Z9 sh<=_;omega⟩,fun he=> ?_,fun he=> ?_⟩,fun hb=> ?_⟩
 .have e:Ym si sh=⟨Yl sh.length,Yl si.length,true,false⟩:=by
   rw [Ym,if_pos ⟨fun e=> by rw [e] at hb;simp at hb,fun e=> by rw [e] at hb;simp at hb⟩,Z2u,he];try rfl
  refine ⟨trivial,YS,trivial,YS,?_⟩
  simp only [Z9h,e,Xk]
  exact JP
 .have e:Ym si sh=⟨Yl sh.length,Yl si.length,false,false⟩:=by
   rw [Ym,if_pos ⟨fun e=> by rw [e] at hb;simp at hb,fun e=> by rw [e] at hb;simp at hb⟩,Z2u,he];try rfl
  refine ⟨trivial,YS,trivial,YS,?_⟩
  simp only [Z9h,e,QB]
  exact JP
 .have e:Ym si sh=⟨Z0g si++Yl sh.length,Yl si.length++Z0g sh,false,false⟩:=by
   rw [Ym,if_neg]
   rintro ⟨a,b⟩
   have:=Xt.2 a
   have:=Xt.2 b
   omega
  refine ⟨trivial,YS,trivial,by rw [Q7];omega,trivial,YS,trivial,by rw [Q7];omega,?_⟩
  simp only [Z9h,e,QB,<-Qa]
  exact JP
end Go.AM.YtpjenobkibfpcaaGreat
