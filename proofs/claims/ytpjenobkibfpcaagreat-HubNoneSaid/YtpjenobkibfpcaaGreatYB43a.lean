import Derived.Test.YtpjenobkibfpcaaGreatZCB30a
import Derived.Test.YtpjenobkibfpcaaGreatZKB20g
import Derived.Test.YtpjenobkibfpcaaGreatZCL25j
import Derived.Test.YtpjenobkibfpcaaGreatZKRB07
set_option linter.unusedSimpArgs false
set_option linter.unusedVariables false
namespace Go.AM.YtpjenobkibfpcaaGreat
open Go.AM Go.Proofs
noncomputable section
def ZmM:ArgL (WEdit × Unit):=(.cons (aEl .wedit) .nil)
def ZfK(a:WEdit × Unit):Prop:=True
def Zj6(a:WEdit × Unit):V U:= .c (.bool (decide (WEdit.mask a.1=0)))
def Z1K:Fs U:=fs ZmM (fun a=> [ZfK a]) Zj6
def ZmL:ArgL (Kid × Unit):=(.cons (aEl .kid) .nil)
def ZfI(a:Kid × Unit):Prop:=True
def Zj5(a:Kid × Unit):V U:= .c (.bool (decide (Edit.kind a.1.e=0)))
def Z1J:Fs U:=fs ZmL (fun a=> [ZfI a]) Zj5
def Zjj(a:Op × Unit):Prop:=True
def Zj3(a:Op × Unit):V U:= .c (.bool (!decide (OpOf.kind a.1=0)))
def Z6M:Fs U:=fs Zmz (fun a=> [Zjj a]) Zj3
def ZmA:ArgL (List WEdit × Unit × Unit):=(.cons (aSl .wedit) (.cons (aFn 190) .nil))
def Zfy(a:List WEdit × Unit × Unit):Prop:=(a.1).length<=1000000000000
def Zf5(a:List WEdit × Unit × Unit):V U:= .c (ci (YD (fun w:WEdit=> decide (WEdit.mask w=0)) a.1 0))
def Z6H:Fs U:=fs ZmA (fun a=> [Zfy a]) Zf5
def ZiB:ArgL (List Kid × Unit × Unit):=(.cons (aSl .kid) (.cons (aFn 192) .nil))
def Zap(a:List Kid × Unit × Unit):Prop:=(a.1).length<=1000000000000
def Zam(a:List Kid × Unit × Unit):V U:= .c (ci (YD (fun k:Kid=> decide (Edit.kind k.e=0)) a.1 0))
def Z3J:Fs U:=fs ZiB (fun a=> [Zap a]) Zam
def Zmy:ArgL (List Op × Unit × Unit):=(.cons (aSl .op) (.cons (aFn 199) .nil))
def Zfx(a:List Op × Unit × Unit):Prop:=(a.1).length<=1000000000000
def Zf4(a:List Op × Unit × Unit):V U:= .c (ci (YD (fun o:Op=> !decide (OpOf.kind o=0)) a.1 0))
def Z6E:Fs U:=fs Zmy (fun a=> [Zfx a]) Zf4
def Zj4(a:List Op × Unit × Unit):V U:= .c (.bool ((a.1).any fun o=> !decide (OpOf.kind o=0)))
def Z6N:Fs U:=fs Zmy (fun a=> [Zfx a]) Zj4
def Zfa(a:Int × Unit):V U:= .c (sU .op (JK a.1) (.own (.r 0 0)))
def Z6P:Fs U:=fs Zmx (fun a=> [Zjh a]) Zfa
def ZbU(a:List WEdit × Unit):Prop:=(a.1).length<=100000000000
def Zal(a:List WEdit × Unit):List WEdit:=a.1
def Za7:Fs U:=fsL Zn2 (fun a=> [ZbU a]) .wedit Zal
def ZmY:ArgL (List Kid × Unit):=(.cons (aSl .kid) .nil)
def ZbS(a:List Kid × Unit):Prop:=(a.1).length<=100000000000
def Zak(a:List Kid × Unit):List Kid:=a.1
def Za4:Fs U:=fsL ZmY (fun a=> [ZbS a]) .kid Zak
def Zax:ArgM (List WEdit × Unit × Unit):=(.lst (cWt .wedit (.e 0 0)) (.cons (aFn 190) .nil))
def Zfd(a:List WEdit × Unit × Unit):V U:= .c (sU .wedit ((a.1).filter fun w=> !decide (WEdit.mask w=0)) .unk)
def Zae(a:List WEdit × Unit × Unit):List (List (C U)):=[]
def Zah(a:List WEdit × Unit × Unit):List (Tok × LC U):=[]
def Z6R:Fs U:=(Zdf Zax (fun a=> [Zfy a]) Zfd Zae Zah).passing [0]
def Zaw:ArgM (List Kid × Unit × Unit):=(.lst (cWt .kid (.e 0 0)) (.cons (aFn 192) .nil))
def Zfc(a:List Kid × Unit × Unit):V U:= .c (sU .kid ((a.1).filter fun k=> !decide (Edit.kind k.e=0)) .unk)
def Zad(a:List Kid × Unit × Unit):List (List (C U)):=[]
def Zag(a:List Kid × Unit × Unit):List (Tok × LC U):=[]
def Z6Q:Fs U:=(Zdf Zaw (fun a=> [Zap a]) Zfc Zad Zag).passing [0]
def ZaB:ArgM ((Int × Int × List Int × List Tree × Int × List Int × List Tree × List WEdit × List Kid × Int × List Op × Unit) × Unit):=(.agg (.cons (Yk .i64) (.cons (Yk .i64) (.cons (cSl .u64) (.cons (cSl .tree) (.cons (Yk .i64) (.cons (cSl .u64) (.cons (cSl .tree) (.cons (cWt .wedit (.e 0 7)) (.cons (cWt .kid (.e 0 8)) (.cons (Yk .i64) (.cons (cSl .op) .nil))))))))))) .nil)
def ZbR(a:(Int × Int × List Int × List Tree × Int × List Int × List Tree × List WEdit × List Kid × Int × List Op × Unit) × Unit):Prop:=(a.1.2.2.2.2.2.2.2.1).length<=10000000000/\(a.1.2.2.2.2.2.2.2.2.1).length<=10000000000
def Zfh(a:(Int × Int × List Int × List Tree × Int × List Int × List Tree × List WEdit × List Kid × Int × List Op × Unit) × Unit):V U:= .agg (enc .edit (Z3L (Edit.mk a.1.1 (Tree.mk a.1.2.1 a.1.2.2.1 a.1.2.2.2.1) (Tree.mk a.1.2.2.2.2.1 a.1.2.2.2.2.2.1 a.1.2.2.2.2.2.2.1) a.1.2.2.2.2.2.2.2.1 a.1.2.2.2.2.2.2.2.2.1 a.1.2.2.2.2.2.2.2.2.2.1 a.1.2.2.2.2.2.2.2.2.2.2.1)))
def Zaf(a:(Int × Int × List Int × List Tree × Int × List Int × List Tree × List WEdit × List Kid × Int × List Op × Unit) × Unit):List (List (C U)):=[]
def Zaj(a:(Int × Int × List Int × List Tree × Int × List Int × List Tree × List WEdit × List Kid × Int × List Op × Unit) × Unit):List (Tok × LC U):=[]
def Za3:Fs U:=(Zdf ZaB (fun a=> [ZbR a]) Zfh Zaf Zaj).passing [0]
def ZbQ(a:Int × List Op × Unit):Prop:=(a.2.1).length<=1000000000000
def Zfg(a:Int × List Op × Unit):V U:= .agg (enc .edit (Z1j a.1 a.2.1))
def Za0:Fs U:=fs ZaC (fun a=> [ZbQ a]) Zfg
def ZgI:ArgM ((Bool × Bool × Unit) × Edit × Tree × Tree × Unit):=(.obj 0 (.cons Z0N (.cons Z0N .nil)) (.cons (aEl .edit) (.cons (aEl .tree) (.cons (aEl .tree) .nil))))
def Z8l(a:(Bool × Bool × Unit) × Edit × Tree × Tree × Unit):Prop:=(Z8 a.2.1<=20000000000/\Yh a.2.1/\∃ d,Z4 a.2.1 d=true)/\(Zk a.2.2.1+ctE a.2.1<=200000000000/\rng a.2.2.1)/\Zk a.2.2.2.1<=100000000000
def ZbC(a:(Bool × Bool × Unit) × Edit × Tree × Tree × Unit):V U:= .tup []
def Z79(a:(Bool × Bool × Unit) × Edit × Tree × Tree × Unit):List (List (C U)):=[[.bool (a.1.1 || (JM a.2.1 a.2.2.1 a.2.2.2.1).c),.bool (a.1.2.1 || (JM a.2.1 a.2.2.1 a.2.2.2.1).a)]]
def Za9:Fs U:=fsX ZgI (fun a=> [Z8l a]) ZbC Z79
def ZgE:ArgM ((Unit × List Op × List Op × List Tree × List Tree × Unit) × (Bool × Bool × Unit) × Unit):=(.obj 0 (.cons (cXp 1) (.cons (Z2D .op 0 1) (.cons (Z2D .op 0 2) (.cons (Z2D .tree 0 3) (.cons (Z2D .tree 0 4) .nil))))) (.hid (.cons Z0N (.cons Z0N .nil)) .nil))
def ZfN(a:(Unit × List Op × List Op × List Tree × List Tree × Unit) × (Bool × Bool × Unit) × Unit):Prop:=((a.1.2.1).length<=10000000000/\(a.1.2.2.1).length<=10000000000)/\Z9 a.1.2.2.2.1<=100000000000/\Z9 a.1.2.2.2.2.1<=100000000000
def ZpP(a:(Unit × List Op × List Op × List Tree × List Tree × Unit) × (Bool × Bool × Unit) × Unit):V U:= .tup []
def Z75(a:(Unit × List Op × List Op × List Tree × List Tree × Unit) × (Bool × Bool × Unit) × Unit):List (List (C U)):=[[.xp 1,sU .op (a.1.2.1++(Jp a.1.2.2.2.1 a.1.2.2.2.2.1).x) (.own (.x 0 1)),sU .op (a.1.2.2.1++(Jp a.1.2.2.2.1 a.1.2.2.2.2.1).y) (.own (.x 0 2)),sU .tree ([]:List Tree) (.own (.x 0 3)),sU .tree ([]:List Tree) (.own (.x 0 4))],[.bool (a.2.1.1 || (Jp a.1.2.2.2.1 a.1.2.2.2.2.1).c),.bool a.2.1.2.1]]
def Za1:Fs U:=fsX ZgE (fun a=> [ZfN a]) ZpP Z75
abbrev ZEi(p:List Nat):=AW (Z1 ZjN) Tryz.f190 ZyU p
theorem ZBg(w:WEdit)(Q:QT)(h:(Q .ret (L2 [pB 2 (w.mask==0)] []))):
  ZEi [] (L2 [(0,.agg (enc .wedit w))] []) Q:=
 Eq.mpr V6 h
def Zwa(w:WEdit):Prop:=AW (Z1 ZjN) Tryz.f190 ZyU [] (Zb (ZmM.can (w,())) []) (EQ Tryz.f190 (Zj6 (w,())) [])
theorem ZuG(hb:∀ (w:WEdit) (_:Unit),ZfK (w,())->Zwa w):CT 190 Z1K:=
 Z0 (l:=[]) Za rfl trivial ZyU Tryz.func190 rfl rfl 1 (fun _=> rfl) V5 (fun ⟨w,_⟩=> hb w ())
abbrev ZEh(p:List Nat):=AW (Z1 ZjN) Tryz.f192 ZyU p
theorem ZBe(k:Kid)(Q:QT)(h:(Q .ret (L2 [pB 2 (k.e.kind==0)] []))):
  ZEh [] (L2 [(0,.agg (enc .kid k))] []) Q:=
 Eq.mpr V6 h
def Zw8(k:Kid):Prop:=AW (Z1 ZjN) Tryz.f192 ZyU [] (Zb (ZmL.can (k,())) []) (EQ Tryz.f192 (Zj5 (k,())) [])
theorem ZuE(hb:∀ (k:Kid) (_:Unit),ZfI (k,())->Zw8 k):CT 192 Z1J:=
 Z0 (l:=[]) Za rfl trivial ZyU Tryz.func192 rfl rfl 1 (fun _=> rfl) V5 (fun ⟨k,_⟩=> hb k ())
abbrev ZEb(p:List Nat):=AW (Z1 ZjN) Tryz.f199 ZyU p
theorem ZB7(o:Op)(Q:QT)(h:(Q .ret (L2 [pB 2 (o.kind !=0)] []))):
  ZEb [] (L2 [(0,.agg (enc .op o))] []) Q:=
 Eq.mpr V6 h
def Zw1(o:Op):Prop:=AW (Z1 ZjN) Tryz.f199 ZyU [] (Zb (Zmz.can (o,())) []) (EQ Tryz.f199 (Zj3 (o,())) [])
theorem Zux(hb:∀ (o:Op) (_:Unit),Zjj (o,())->Zw1 o):CT 199 Z6M:=
 Z0 (l:=[]) Za rfl trivial ZyU Tryz.func199 rfl rfl 1 (fun _=> rfl) V5 (fun ⟨o,_⟩=> hb o ())
def Zgg:List (FuncId × Fs U):=[(190,Z1K)]
def Zlx:Z6 U:=lvl [([0,1],[]),([0,1,7,8],[]),([0,1,7,8,9],[]),([0,1,5,7,8],[]),([0,1,5,7,8,16],[]),([4],[]),([0,1,7,8],[]),([4],[])]
def Z52(l:List WEdit)(f:Unit)(b:Int):LSt U:=(L2 [(0,.c (sU .wedit l .unk)),(1,.fn 190),pI 7 (l.length:Int),pI 8 b] [])
abbrev ZAI(p:List Nat):=AW (Z1 Zgg) Tryz.f224 Zlx p
abbrev ZCV(p:List Nat):=SW (Z1 Zgg) Tryz.f224 Zlx p
theorem ZAZ(l:List WEdit)(f:Unit)(Q:QT)(h:(Zp (ZAI [1,0,1,0,0]) (Z52 l f 0) (xB 0 (ZCV [1,1] Q)))):
  ZAI [] (L2 [(0,.c (sU .wedit l .unk)),(1,.fn 190)] []) Q:=
 Eq.mpr V6 h
theorem ZoL(l:List WEdit)(f:Unit)(b:Int)(N0:NT)(Q:QT)(h:let z0:=l.getD b.toNat (WEdit.mk 0 0 0 0);let z1:=WEdit.mk (WEdit.at_ z0) (WEdit.mask z0) (WEdit.old z0) (WEdit.new z0);(iB (decide (b < (l.length:Int))) ((((0:Int)<=b/\b < (l.length:Int))/\(ZfK (z1,()))/\(iB (decide (WEdit.mask z1=0)) ((Q .ret (L2 [pI 4 b] []))) ((InR (b+1))/\(N0 (Z52 l f (b+1))))))) ((Q .ret (L2 [pI 4 (-1)] []))))):
  ZAI [1,0,1,0,0] (Z52 l f b) (xT N0 (xB 0 (ZCV [1,1] Q))):=
 Eq.mpr V6 h
def ZvT(l:List WEdit)(f:Unit):Prop:=AW (Z1 Zgg) Tryz.f224 Zlx [] (Zb (ZmA.can (l,f,())) []) (EQ Tryz.f224 (Zf5 (l,f,())) [])
theorem Zup(Zok:CT 190 Z1K)(hb:∀ (l:List WEdit) (f:Unit) (_:Unit),Zfy (l,f,())->ZvT l f):CT 224 Z6H:=
 Z0 (l:=[(190,Z1K)]) Za rfl (⟨Zok,trivial⟩) Zlx Tryz.func224 rfl rfl 2 (fun _=> rfl) V5 (fun ⟨l,f,_⟩=> hb l f ())
def ZcG:List (FuncId × Fs U):=[(192,Z1J)]
def Z37(l:List Kid)(f:Unit)(b:Int):LSt U:=(L2 [(0,.c (sU .kid l .unk)),(1,.fn 192),pI 7 (l.length:Int),pI 8 b] [])
abbrev Ztz(p:List Nat):=AW (Z1 ZcG) Tryz.f225 Zlx p
abbrev Zxl(p:List Nat):=SW (Z1 ZcG) Tryz.f225 Zlx p
theorem ZxU(l:List Kid)(f:Unit)(Q:QT)(h:(Zp (Ztz [1,0,1,0,0]) (Z37 l f 0) (xB 0 (Zxl [1,1] Q)))):
  Ztz [] (L2 [(0,.c (sU .kid l .unk)),(1,.fn 192)] []) Q:=
 Eq.mpr V6 h
theorem Zne(l:List Kid)(f:Unit)(b:Int)(N0:NT)(Q:QT)(h:∀ u,u=(l.getD b.toNat (KidOf.mk 0 Edit.nil))->∀ s,s=u->(iB (decide (b < (l.length:Int))) ((((0:Int)<=b/\b < (l.length:Int))/\(ZfI (s,()))/\(iB (decide (Edit.kind s.e=0)) ((Q .ret (L2 [pI 4 b] []))) ((InR (b+1))/\(N0 (Z37 l f (b+1))))))) ((Q .ret (L2 [pI 4 (-1)] []))))):
  Ztz [1,0,1,0,0] (Z37 l f b) (xT N0 (xB 0 (Zxl [1,1] Q))):=
 Eq.mpr V6 (h _ rfl _ (Zhp _))
def Ztv(l:List Kid)(f:Unit):Prop:=AW (Z1 ZcG) Tryz.f225 Zlx [] (Zb (ZiB.can (l,f,())) []) (EQ Tryz.f225 (Zam (l,f,())) [])
theorem ZqT(Zoj:CT 192 Z1J)(hb:∀ (l:List Kid) (f:Unit) (_:Unit),Zap (l,f,())->Ztv l f):CT 225 Z3J:=
 Z0 (l:=[(192,Z1J)]) Za rfl (⟨Zoj,trivial⟩) Zlx Tryz.func225 rfl rfl 2 (fun _=> rfl) V5 (fun ⟨l,f,_⟩=> hb l f ())
def Zgf:List (FuncId × Fs U):=[(199,Z6M)]
def Z51(l:List Op)(f:Unit)(b:Int):LSt U:=(L2 [(0,.c (sU .op l .unk)),(1,.fn 199),pI 7 (l.length:Int),pI 8 b] [])
abbrev ZAH(p:List Nat):=AW (Z1 Zgf) Tryz.f230 Zlx p
abbrev ZCU(p:List Nat):=SW (Z1 Zgf) Tryz.f230 Zlx p
theorem ZAU(l:List Op)(f:Unit)(Q:QT)(h:(Zp (ZAH [1,0,1,0,0]) (Z51 l f 0) (xB 0 (ZCU [1,1] Q)))):
  ZAH [] (L2 [(0,.c (sU .op l .unk)),(1,.fn 199)] []) Q:=
 Eq.mpr V6 h
theorem ZoK(l:List Op)(f:Unit)(b:Int)(N0:NT)(Q:QT)(h:∀ u,u=(l.getD b.toNat Op.nil)->∀ s,s=u->(iB (decide (b < (l.length:Int))) ((((0:Int)<=b/\b < (l.length:Int))/\(Zjj (s,()))/\(iB (!decide (OpOf.kind s=0)) ((Q .ret (L2 [pI 4 b] []))) ((InR (b+1))/\(N0 (Z51 l f (b+1))))))) ((Q .ret (L2 [pI 4 (-1)] []))))):
  ZAH [1,0,1,0,0] (Z51 l f b) (xT N0 (xB 0 (ZCU [1,1] Q))):=
 Eq.mpr V6 (h _ rfl _ (Ym _))
def ZvO(l:List Op)(f:Unit):Prop:=AW (Z1 Zgf) Tryz.f230 Zlx [] (Zb (Zmy.can (l,f,())) []) (EQ Tryz.f230 (Zf4 (l,f,())) [])
theorem Zuk(Zzu:CT 199 Z6M)(hb:∀ (l:List Op) (f:Unit) (_:Unit),Zfx (l,f,())->ZvO l f):CT 230 Z6E:=
 Z0 (l:=[(199,Z6M)]) Za rfl (⟨Zzu,trivial⟩) Zlx Tryz.func230 rfl rfl 2 (fun _=> rfl) V5 (fun ⟨l,f,_⟩=> hb l f ())
def ZlU:List (FuncId × Fs U):=[(230,Z6E)]
def Zr9:Z6 U:=lvl [([0,1],[]),([4],[])]
abbrev ZEc(p:List Nat):=AW (Z1 ZlU) Tryz.f198 Zr9 p
theorem ZB8(l:List Op)(f:Unit)(Q:QT)(h:((Zfx (l,(),()))/\(Q .ret (L2 [(4,.c (.bool (decide ((0:Int)<=(YD (fun o:Op=> !decide (OpOf.kind o=0)) l 0)))))] [])))):
  ZEc [] (L2 [(0,.c (sU .op l .unk)),(1,.fn 199)] []) Q:=
 Eq.mpr V6 h
def Zw2(l:List Op)(f:Unit):Prop:=AW (Z1 ZlU) Tryz.f198 Zr9 [] (Zb (Zmy.can (l,f,())) []) (EQ Tryz.f198 (Zj4 (l,f,())) [])
theorem Zuy(Zzk:CT 230 Z6E)(hb:∀ (l:List Op) (f:Unit) (_:Unit),Zfx (l,f,())->Zw2 l f):CT 198 Z6N:=
 Z0 (l:=[(230,Z6E)]) Za rfl (⟨Zzk,trivial⟩) Zr9 Tryz.func198 rfl rfl 2 (fun _=> rfl) V5 (fun ⟨l,f,_⟩=> hb l f ())
abbrev ZEg(p:List Nat):=AW (Z1 ZjN) Tryz.f194 ZrC p
theorem ZBc(n:Int)(Q:QT)(h:(iB (n==0) ((Q .ret (L2 [(2,.c (.nils))] []))) ((Q .ret (L2 [(2,.c (sU .op ([(OpOf.mk 0 n [] (Edit.mk 0 (Tree.mk 0 [] []) (Tree.mk 0 [] []) [] [] 0 []))]) .full))] []))))):
  ZEg [] (L2 [pI 0 n] []) Q:=
 Eq.mpr V6 h
def Zw6(n:Int):Prop:=AW (Z1 ZjN) Tryz.f194 ZrC [] (Zb (Zmx.can (n,())) []) (EQ Tryz.f194 (Zfa (n,())) [])
theorem ZuC(hb:∀ (n:Int) (_:Unit),Zjh (n,())->Zw6 n):CT 194 Z6P:=
 Z0 (l:=[]) Za rfl trivial ZrC Tryz.func194 rfl rfl 1 (fun _=> rfl) V5 (fun ⟨n,_⟩=> hb n ())
def Zry:Z6 U:=lvk [([0],[]),([0,4],[]),([(2,[.wr .wedit])],[]),([(2,[.wr .wedit])],[])]
abbrev ZEv(p:List Nat):=AW (Z1z ZjN) Tryz.f138 Zry p
theorem ZBD(l:List WEdit)(Q:QT)(h:(((l=[])->(Q .ret (⟨[(2,.c (.mref (.e 2 0)))],[],[(.e 2 0,LC.mk (U:=U) .wedit [] 0)]⟩:LSt U)))/\(True->((([]:List WEdit).length+l.length)*32<=140737488355328)/\(Q .ret (⟨[(2,.c (.mref (.e 2 0)))],[],[(.e 2 0,LC.mk (U:=U) .wedit (([]:List WEdit)++l) (([]:List WEdit).length))]⟩:LSt U))))):
  ZEv [] (L2 [(0,.c (sU .wedit l .unk))] []) Q:=
 Eq.mpr V6 h
def Zwx(l:List WEdit):Prop:=AW (Z1z ZjN) Tryz.f138 Zry [] (Zb (Zn2.can (l,())) []) (JG cfg Tryz.f138.ntmps Tryz.f138.results.toList (.c (.mref (.r 0 0))) [] [(.r 0 0,LC.mk (U:=U) .wedit (Zal (l,())) 0)])
theorem Zv1(hb:∀ (l:List WEdit) (_:Unit),ZbU (l,())->Zwx l):CT 138 Za7:=
 JY (l:=[]) Za rfl trivial Zry Tryz.func138 rfl rfl 1 (fun _=> rfl) V5 (fun ⟨l,_⟩=> hb l ())
def Zrv:Z6 U:=lvk [([0],[]),([0,4],[]),([(2,[.wr .kid])],[]),([(2,[.wr .kid])],[])]
abbrev ZEs(p:List Nat):=AW (Z1z ZjN) Tryz.f141 Zrv p
theorem ZBA(l:List Kid)(Q:QT)(h:(((l=[])->(Q .ret (⟨[(2,.c (.mref (.e 2 0)))],[],[(.e 2 0,LC.mk (U:=U) .kid [] 0)]⟩:LSt U)))/\(True->((([]:List Kid).length+l.length)*208<=140737488355328)/\(Q .ret (⟨[(2,.c (.mref (.e 2 0)))],[],[(.e 2 0,LC.mk (U:=U) .kid (([]:List Kid)++l) (([]:List Kid).length))]⟩:LSt U))))):
  ZEs [] (L2 [(0,.c (sU .kid l .unk))] []) Q:=
 Eq.mpr V6 h
def Zwu(l:List Kid):Prop:=AW (Z1z ZjN) Tryz.f141 Zrv [] (Zb (ZmY.can (l,())) []) (JG cfg Tryz.f141.ntmps Tryz.f141.results.toList (.c (.mref (.r 0 0))) [] [(.r 0 0,LC.mk (U:=U) .kid (Zak (l,())) 0)])
theorem ZuY(hb:∀ (l:List Kid) (_:Unit),ZbS (l,())->Zwu l):CT 141 Za4:=
 JY (l:=[]) Za rfl trivial Zrv Tryz.func141 rfl rfl 1 (fun _=> rfl) V5 (fun ⟨l,_⟩=> hb l ())
def Zgi:List (FuncId × Fs U):=[(190,Z1K),(224,Z6H.lend)]
def Zlz:Z6 U:=lvk [([(0,[.wr .wedit]),1],[]),([(0,[.wr .wedit]),1,5],[]),([(0,[.wr .wedit]),1,5,12],[]),([4],[]),([(0,[.wr .wedit]),1,5,6],[]),([(0,[.wr .wedit]),1,5,6,19],[]),([(0,[.wr .wedit]),1,5,6],[]),([(0,[.wr .wedit]),1,5,6,7],[7]),([(0,[.wr .wedit]),1,5,6,7,29],[7]),([(0,[.wr .wedit]),1,5,6],[]),([(0,[.wr .wedit]),1,5,6],[]),([(0,[.wr .wedit]),5],[]),([4],[])]
def Z2z(l:List WEdit)(f:Unit)(h b:Int)(re_0_0:List WEdit):LSt U:=(⟨[(0,.c (.mref (.e 0 0))),(1,.fn 190),pI 5 h,pI 6 b],[],[(.e 0 0,LC.mk (U:=U) .wedit re_0_0 0)]⟩:LSt U)
abbrev ZAL(p:List Nat):=AW (Z1 Zgi) Tryz.f189 Zlz p
abbrev ZCX(p:List Nat):=SW (Z1 Zgi) Tryz.f189 Zlz p
theorem ZBh(l:List WEdit)(f:Unit)(Q:QT)(h:((Zfy (l,(),()))/\(iB (((YD (fun w:WEdit=> decide (WEdit.mask w=0)) l 0):Int)==(-1)) ((Q .ret (L2 [(4,.c (sU .wedit l (.own (.e 4 0))))] []))) ((InR (((YD (fun w:WEdit=> decide (WEdit.mask w=0)) l 0):Int)+1))/\(Zp (ZAL [1,1,1,0,1,0,0]) (Z2z l f (YD (fun w:WEdit=> decide (WEdit.mask w=0)) l 0) (((YD (fun w:WEdit=> decide (WEdit.mask w=0)) l 0):Int)+1) l) (xB 0 (ZCX [1,1,1,1] Q))))))):
  ZAL [] (⟨[(0,.c (.mref (.e 0 0))),(1,.fn 190)],[],[(.e 0 0,LC.mk (U:=U) .wedit l 0)]⟩:LSt U) Q:=
 Eq.mpr V6 h
theorem ZoP(l:List WEdit)(f:Unit)(b s:Int)(re_0_0:List WEdit)(N0:NT)(Q:QT)(h:∀ aa,aa=(re_0_0.getD s.toNat (WEdit.mk 0 0 0 0))->∀ u,u=aa->(iB (decide (s < (re_0_0.length:Int))) (((0:Int)<=s/\s < (re_0_0.length:Int))/\((ZfK (u,()))/\(iB (!(decide (WEdit.mask u=0))) (((0:Int)<=b/\b < (re_0_0.length:Int))/\((0:Nat)<=b.toNat)/\((InR (b+1))/\((InR (s+1))/\(N0 (Z2z l f (b+1) (s+1) (List.set re_0_0 b.toNat u)))))) ((InR (s+1))/\(N0 (Z2z l f b (s+1) re_0_0)))))) (((0:Int)<=b/\b<=(re_0_0.length:Int))/\((0:Nat)<=b.toNat)/\(((0:Int)<=b/\b<=((List.take b.toNat re_0_0++List.replicate (re_0_0.length - Int.toNat b) (WEdit.mk 0 0 0 0)).length:Int))/\(Q .ret (L2 [(4,.c (sU .wedit (List.take b.toNat (List.take b.toNat re_0_0++List.replicate (re_0_0.length - Int.toNat b) (WEdit.mk 0 0 0 0))) .unk))] [])))))):
  ZAL [1,1,1,0,1,0,0] (Z2z l f b s re_0_0) (xT N0 (xB 0 (ZCX [1,1,1,1] Q))):=
 Eq.mpr V6 (h _ rfl _ (Z1l _))
def Zwb(l:List WEdit)(f:Unit):Prop:=AW (Z1 Zgi) Tryz.f189 Zlz [] (Jc (Zax.can (l,f,())) (Zax.canX (l,f,())) (Zax.canL (l,f,()))) (JG cfg Tryz.f189.ntmps Tryz.f189.results.toList (Zfd (l,f,())) (Zae (l,f,())) (Zah (l,f,())))
theorem ZuH(Zok:CT 190 Z1K)(Zzn:CT 224 Z6H)(hb:∀ (l:List WEdit) (f:Unit) (_:Unit),Zfy (l,f,())->Zwb l f):CT 189 Z6R:=
 Contract.passing <| Ya (l:=[(190,Z1K),(224,Z6H.lend)]) Za rfl (⟨Zok,Zzn.lend,trivial⟩) Zlz Tryz.func189 rfl rfl 2 (fun _=> rfl) V5 (fun ⟨l,f,_⟩=> hb l f ())
def Zgh:List (FuncId × Fs U):=[(192,Z1J),(225,Z3J.lend)]
def Zly:Z6 U:=lvk [([(0,[.wr .kid]),1],[]),([(0,[.wr .kid]),1,5],[]),([(0,[.wr .kid]),1,5,12],[]),([4],[]),([(0,[.wr .kid]),1,5,6],[]),([(0,[.wr .kid]),1,5,6,19],[]),([(0,[.wr .kid]),1,5,6],[]),([(0,[.wr .kid]),1,5,6,7],[7]),([(0,[.wr .kid]),1,5,6,7,29],[7]),([(0,[.wr .kid]),1,5,6],[]),([(0,[.wr .kid]),1,5,6],[]),([(0,[.wr .kid]),5],[]),([4],[])]
def Z2y(l:List Kid)(f:Unit)(h b:Int)(re_0_0:List Kid):LSt U:=(⟨[(0,.c (.mref (.e 0 0))),(1,.fn 192),pI 5 h,pI 6 b],[],[(.e 0 0,LC.mk (U:=U) .kid re_0_0 0)]⟩:LSt U)
abbrev ZAK(p:List Nat):=AW (Z1 Zgh) Tryz.f191 Zly p
abbrev ZCW(p:List Nat):=SW (Z1 Zgh) Tryz.f191 Zly p
theorem ZBf(l:List Kid)(f:Unit)(Q:QT)(h:((Zap (l,(),()))/\(iB (((YD (fun k:Kid=> decide (Edit.kind k.e=0)) l 0):Int)==(-1)) ((Q .ret (L2 [(4,.c (sU .kid l (.own (.e 4 0))))] []))) ((InR (((YD (fun k:Kid=> decide (Edit.kind k.e=0)) l 0):Int)+1))/\(Zp (ZAK [1,1,1,0,1,0,0]) (Z2y l f (YD (fun k:Kid=> decide (Edit.kind k.e=0)) l 0) (((YD (fun k:Kid=> decide (Edit.kind k.e=0)) l 0):Int)+1) l) (xB 0 (ZCW [1,1,1,1] Q))))))):
  ZAK [] (⟨[(0,.c (.mref (.e 0 0))),(1,.fn 192)],[],[(.e 0 0,LC.mk (U:=U) .kid l 0)]⟩:LSt U) Q:=
 Eq.mpr V6 h
theorem ZoO(l:List Kid)(f:Unit)(b s:Int)(re_0_0:List Kid)(N0:NT)(Q:QT)(h:∀ aa,aa=(re_0_0.getD s.toNat (KidOf.mk 0 Edit.nil))->∀ u,u=aa->(iB (decide (s < (re_0_0.length:Int))) (((0:Int)<=s/\s < (re_0_0.length:Int))/\((ZfI (u,()))/\(iB (!(decide (Edit.kind u.e=0))) (((0:Int)<=b/\b < (re_0_0.length:Int))/\((0:Nat)<=b.toNat)/\((InR (b+1))/\((InR (s+1))/\(N0 (Z2y l f (b+1) (s+1) (List.set re_0_0 b.toNat u)))))) ((InR (s+1))/\(N0 (Z2y l f b (s+1) re_0_0)))))) (((0:Int)<=b/\b<=(re_0_0.length:Int))/\((0:Nat)<=b.toNat)/\(((0:Int)<=b/\b<=((List.take b.toNat re_0_0++List.replicate (re_0_0.length - Int.toNat b) (KidOf.mk 0 Edit.nil)).length:Int))/\(Q .ret (L2 [(4,.c (sU .kid (List.take b.toNat (List.take b.toNat re_0_0++List.replicate (re_0_0.length - Int.toNat b) (KidOf.mk 0 Edit.nil))) .unk))] [])))))):
  ZAK [1,1,1,0,1,0,0] (Z2y l f b s re_0_0) (xT N0 (xB 0 (ZCW [1,1,1,1] Q))):=
 Eq.mpr V6 (h _ rfl _ (Zhp _))
def Zw9(l:List Kid)(f:Unit):Prop:=AW (Z1 Zgh) Tryz.f191 Zly [] (Jc (Zaw.can (l,f,())) (Zaw.canX (l,f,())) (Zaw.canL (l,f,()))) (JG cfg Tryz.f191.ntmps Tryz.f191.results.toList (Zfc (l,f,())) (Zad (l,f,())) (Zag (l,f,())))
theorem ZuF(Zoj:CT 192 Z1J)(ZsL:CT 225 Z3J)(hb:∀ (l:List Kid) (f:Unit) (_:Unit),Zap (l,f,())->Zw9 l f):CT 191 Z6Q:=
 Contract.passing <| Ya (l:=[(192,Z1J),(225,Z3J.lend)]) Za rfl (⟨Zoj,ZsL.lend,trivial⟩) Zly Tryz.func191 rfl rfl 2 (fun _=> rfl) V5 (fun ⟨l,f,_⟩=> hb l f ())
def Zmf:List (FuncId × Fs U):=[(189,Z6R),(191,Z6Q)]
def Zru:Z6 U:=lvk [([1,2],[((.loc 1),(an 7 [.wr .wedit,.wr .kid])),2]),([1,2],[((.loc 1),(an 8 [.wr .kid])),2]),([1,2],[1,2]),([1,2,18],[1,2]),([2],[2]),([2],[2])]
abbrev ZEr(p:List Nat):=AW (Z1 Zmf) Tryz.f142 Zru p
set_option maxHeartbeats 2000000 in
theorem ZBz(ek eo:Int)(eow:List Int)(eok:List Tree)(en:Int)(enw:List Int)(enk:List Tree)(ew:List WEdit)(ec:List Kid)(li:Int)(eos:List Op)(Q:QT)(h:((Zfy (ew,(),()))/\((Zap (ec,(),()))/\((InR ((((ew.filter fun w=> !decide (WEdit.mask w=0)).length:Int):Int)+((ec.filter fun k=> !decide (Edit.kind k.e=0)).length:Int)))/\(iB ((((((ew.filter fun w=> !decide (WEdit.mask w=0)).length:Int):Int)+((ec.filter fun k=> !decide (Edit.kind k.e=0)).length:Int)):Int)==0) ((Q .ret (L2 [pL 2] [(.loc 2,zc0)]))) ((Q .ret (L2 [pL 2] [(.loc 2,[ci ek,ci eo,sU .u64 eow .unk,sU .tree eok .unk,ci en,sU .u64 enw .unk,sU .tree enk .unk,sU .wedit (ew.filter fun w=> !decide (WEdit.mask w=0)) .unk,sU .kid (ec.filter fun k=> !decide (Edit.kind k.e=0)) .unk,ci li,sU .op eos .unk])])))))))):
  ZEr [] (⟨[(0,.agg [ci ek,ci eo,sU .u64 eow .unk,sU .tree eok .unk,ci en,sU .u64 enw .unk,sU .tree enk .unk,.mref (.e 0 7),.mref (.e 0 8),ci li,sU .op eos .unk])],[],[(.e 0 7,LC.mk (U:=U) .wedit ew 0),(.e 0 8,LC.mk (U:=U) .kid ec 0)]⟩:LSt U) Q:=
 Eq.mpr V6 h
def Zwt(ek eo:Int)(eow:List Int)(eok:List Tree)(en:Int)(enw:List Int)(enk:List Tree)(ew:List WEdit)(ec:List Kid)(li:Int)(eos:List Op):Prop:=AW (Z1 Zmf) Tryz.f142 Zru [] (Jc (ZaB.can ((ek,eo,eow,eok,en,enw,enk,ew,ec,li,eos,()),())) (ZaB.canX ((ek,eo,eow,eok,en,enw,enk,ew,ec,li,eos,()),())) (ZaB.canL ((ek,eo,eow,eok,en,enw,enk,ew,ec,li,eos,()),()))) (JG cfg Tryz.f142.ntmps Tryz.f142.results.toList (Zfh ((ek,eo,eow,eok,en,enw,enk,ew,ec,li,eos,()),())) (Zaf ((ek,eo,eow,eok,en,enw,enk,ew,ec,li,eos,()),())) (Zaj ((ek,eo,eow,eok,en,enw,enk,ew,ec,li,eos,()),())))
set_option maxHeartbeats 2000000 in
theorem ZuX(ZzB:CT 189 Z6R)(ZzA:CT 191 Z6Q)(hb:∀ (ek:Int) (eo:Int) (h:List Int) (s:List Tree) (en:Int) (u:List Int) (b:List Tree) (ew:List WEdit) (ec:List Kid) (li:Int) (aa:List Op) (_:Unit),ZbR ((ek,eo,h,s,en,u,b,ew,ec,li,aa,()),())->Zwt ek eo h s en u b ew ec li aa):CT 142 Za3:=
 Contract.passing <| Ya (l:=[(189,Z6R),(191,Z6Q)]) Za rfl (⟨ZzB,ZzA,trivial⟩) Zru Tryz.func142 rfl rfl 1 (fun _=> rfl) V5 (fun ⟨⟨ek,eo,h,s,en,u,b,ew,ec,li,aa,_⟩,_⟩=> hb ek eo h s en u b ew ec li aa ())
def Zmb:List (FuncId × Fs U):=[(198,Z6N)]
def Zrq:Z6 U:=lvl [([0,1,4],[4]),([0,1,4,7],[4]),([4],[4]),([4],[4])]
abbrev ZEn(p:List Nat):=AW (Z1 Zmb) Tryz.f146 Zrq p
theorem ZBv(list:Int)(l:List Op)(Q:QT)(h:((Zfx (l,(),()))/\(iB (!(l.any fun o=> !decide (OpOf.kind o=0))) ((Q .ret (L2 [pL 4] [(.loc 4,zc0)]))) ((Q .ret (L2 [pL 4] [(.loc 4,[ci 3,ci 0,.nils,.nils,ci 0,.nils,.nils,.nils,.nils,ci list,sU .op l .unk])])))))):
  ZEn [] (L2 [pI 0 list,(1,.c (sU .op l .unk))] []) Q:=
 Eq.mpr V6 h
def Zwp(list:Int)(l:List Op):Prop:=AW (Z1 Zmb) Tryz.f146 Zrq [] (Zb (ZaC.can (list,l,())) []) (EQ Tryz.f146 (Zfg (list,l,())) [])
theorem ZuU(Zzv:CT 198 Z6N)(hb:∀ (list:Int) (l:List Op) (_:Unit),ZbQ (list,l,())->Zwp list l):CT 146 Za0:=
 Z0 (l:=[(198,Z6N)]) Za rfl (⟨Zzv,trivial⟩) Zrq Tryz.func146 rfl rfl 2 (fun _=> rfl) V5 (fun ⟨list,l,_⟩=> hb list l ())
def Zmp:List (FuncId × Fs U):=[(25,JP),(114,YX)]
def ZrE:Z6 U:=lvk [([0,5,6,7],[5,6,7,((.x 0),[])]),([0,7,8,9],[7,8,((.x 0),[])]),([0,7,8,16],[7,8,((.x 0),[])]),([],[((.x 0),[])]),([0,22],[((.x 0),[])]),([],[((.x 0),[])])]
abbrev ZEz(p:List Nat):=AW (Z1 Zmp) Tryz.f103 ZrE p
theorem ZBT(mc ma:Bool)(e:Edit)(o n:Tree)(Q:QT)(h:∀ b,b=e->∀ aa,aa=n->∀ s,s=o->∀ u,u=(Z0x ((doE false b s).map Z5))->let z0:= !(ZW (Z5 u) (Z5 aa));((Z2k (b,s,()))/\(iB (!((doE false b s).isSome)) ((Q .normal (L2 [] [(.x 0,[.bool mc,.bool true])]))) ((Z1n (u,aa,()))/\(iB z0 ((Q .normal (L2 [] [(.x 0,[.bool true,.bool ma])]))) (Q .normal (L2 [(0,.ptr (.x 0) 0),pB 22 z0] [(.x 0,[.bool mc,.bool ma])]))))))):
  ZEz [] (L2 [(0,.ptr (.x 0) 0),(1,.agg (enc .edit e)),(2,.agg (enc .tree o)),(3,.agg (enc .tree n))] [(.x 0,[.bool mc,.bool ma])]) Q:=
 Eq.mpr V6 (h _ (Z3 _) _ (Z7 _) _ (Z7 _) _ (Z7 _))
def ZwN(mc ma:Bool)(e:Edit)(o n:Tree):Prop:=AW (Z1 Zmp) Tryz.f103 ZrE [] (Zb (ZgI.can ((mc,ma,()),e,o,n,())) (ZgI.canX ((mc,ma,()),e,o,n,()))) (EQ Tryz.f103 (ZbC ((mc,ma,()),e,o,n,())) (Z79 ((mc,ma,()),e,o,n,())))
theorem Zva(c25:CT 25 JP)(Z9U:CT 114 YX)(hb:∀ (h:Bool) (b:Bool) (e:Edit) (o:Tree) (n:Tree) (_:Unit),Z8l ((h,b,()),e,o,n,())->ZwN h b e o n):CT 103 Za9:=
 Zl (l:=[(25,JP),(114,YX)]) Za rfl (⟨c25,Z9U,trivial⟩) ZrE Tryz.func103 rfl rfl 4 (fun _=> rfl) V5 (fun ⟨⟨h,b,_⟩,e,o,n,_⟩=> hb h b e o n ())
def Zmd:List (FuncId × Fs U):=[(177,JQ),(194,Z6P),(195,Z6O)]
def Zrs:Z6 U:=lvk [([0],[((.x 0),[]),((.x 1),[])]),([0],[((.x 0),[]),((.x 1),[])]),([0,42],[((.x 0),[]),((.x 1),[])]),([0,66],[((.x 0),[]),((.x 1),[])]),([0],[((.x 0),[]),((.x 1),[])]),([0],[((.x 0),[]),((.x 1),[])]),([],[((.x 0),[]),((.x 1),[])])]
abbrev ZEp(p:List Nat):=AW (Z1 Zmd) Tryz.f144 Zrs p
theorem ZBx(sm_:Unit)(sx sy:List Op)(si sh:List Tree)(mc ma:Bool)(Q:QT)(h:let z4:=Zjh ((si.length:Int),());let z3:=Zjh ((sh.length:Int),());let z2:=JK (sh.length:Int);let z1:=JK (si.length:Int);let z0:=decide ((0:Int) < (si.length:Int));(Tt z0)/\(Tt z0)/\(Tt z0)/\(Tt z0)/\(Tt z0)/\(Tt z0)/\(iB (bif z0 then (decide ((0:Int) < (sh.length:Int))) else false) ((Z63 (si,sh,(),()))/\(iB (!(eqX (Zd si) (Zd sh))) ((z3/\((sx.length+z2.length)*240<=140737488355328)/\z4/\((sy.length+z1.length)*240<=140737488355328)/\(Q .normal (L2 [] [(.x 0,[.xp 1,sU .op (sx++z2) (.own (.x 0 1)),sU .op (sy++z1) (.own (.x 0 2)),.nils,.nils]),(.x 1,[.bool true,.bool ma])])))) (z3/\((sx.length+z2.length)*240<=140737488355328)/\z4/\((sy.length+z1.length)*240<=140737488355328)/\(Q .normal (L2 [] [(.x 0,[.xp 1,sU .op (sx++z2) (.own (.x 0 1)),sU .op (sy++z1) (.own (.x 0 2)),.nils,.nils]),(.x 1,[.bool mc,.bool ma])]))))) ((ZfF (si,()))/\((sx.length+(Z4g si).length)*240<=140737488355328)/\z3/\(((sx++(Z4g si)).length+z2.length)*240<=140737488355328)/\(z4/\((sy.length+z1.length)*240<=140737488355328)/\(ZfF (sh,()))/\(((sy++z1).length+(Z4g sh).length)*240<=140737488355328)/\(Q .normal (L2 [] [(.x 0,[.xp 1,sU .op ((sx++(Z4g si))++z2) (.own (.x 0 1)),sU .op ((sy++z1)++(Z4g sh)) (.own (.x 0 2)),.nils,.nils]),(.x 1,[.bool mc,.bool ma])])))))):
  ZEp [] (L2 [(0,.ptr (.x 0) 0)] [(.x 0,[.xp 1,sU .op sx (.own (.x 0 1)),sU .op sy (.own (.x 0 2)),sU .tree si (.own (.x 0 3)),sU .tree sh (.own (.x 0 4))]),(.x 1,[.bool mc,.bool ma])]) Q:=
 Eq.mpr V6 h
def Zwr(sm_:Unit)(sx sy:List Op)(si sh:List Tree)(mc ma:Bool):Prop:=AW (Z1 Zmd) Tryz.f144 Zrs [] (Zb (ZgE.can ((sm_,sx,sy,si,sh,()),(mc,ma,()),())) (ZgE.canX ((sm_,sx,sy,si,sh,()),(mc,ma,()),()))) (EQ Tryz.f144 (ZpP ((sm_,sx,sy,si,sh,()),(mc,ma,()),())) (Z75 ((sm_,sx,sy,si,sh,()),(mc,ma,()),())))
theorem ZuV(Zgu:CT 177 JQ)(Zzz:CT 194 Z6P)(Zzy:CT 195 Z6O)(hb:∀ (b:Unit) (u:List Op) (s:List Op) (si:List Tree) (sh:List Tree) (mc:Bool) (h:Bool) (_:Unit),ZfN ((b,u,s,si,sh,()),(mc,h,()),())->Zwr b u s si sh mc h):CT 144 Za1:=
 Zl (l:=[(177,JQ),(194,Z6P),(195,Z6O)]) Za rfl (⟨Zgu,Zzz,Zzy,trivial⟩) Zrs Tryz.func144 rfl rfl 1 (fun _=> rfl) V5 (fun ⟨⟨b,u,s,si,sh,_⟩,⟨mc,h,_⟩,_⟩=> hb b u s si sh mc h ())
end
noncomputable section
def Zd2:ArgM ((Bool × Bool × Unit) × Edit × Edit × Unit):=(.obj 0 (.cons Z0N (.cons Z0N .nil)) (.cons (aEl .edit) (.cons (aEl .edit) .nil)))
def ZbG(a:(Bool × Bool × Unit) × Edit × Edit × Unit):Prop:=Yr a.2.1/\Yr a.2.2.1
def ZqB(a:(Bool × Bool × Unit) × Edit × Edit × Unit):Nat:=8*(Z8 a.2.1+Z8 a.2.2.1)+1
def Zhk(a:(Bool × Bool × Unit) × Edit × Edit × Unit):V U:= .tup [(true,(enc .edit ((lbE a.2.1 a.2.2.1).x))),(true,(enc .edit ((lbE a.2.1 a.2.2.1).y)))]
def Zbs(a:(Bool × Bool × Unit) × Edit × Edit × Unit):List (List (C U)):=[[.bool (a.1.1 || (lbE a.2.1 a.2.2.1).c),.bool (a.1.2.1 || (lbE a.2.1 a.2.2.1).a)]]
def Z87:Fs U:=fsX Zd2 (fun a=> [ZbG a]) Zhk Zbs
def ZbZ(a:(Bool × Bool × Unit) × Edit × Edit × Unit):Prop:=Yr a.2.1/\Yr a.2.2.1/\Edit.kind a.2.1=2/\Edit.kind a.2.2.1=2
def Zlr(a:(Bool × Bool × Unit) × Edit × Edit × Unit):Nat:=8*(Z8 a.2.1+Z8 a.2.2.1)
def ZbB(a:(Bool × Bool × Unit) × Edit × Edit × Unit):V U:= .tup [(true,(enc .edit ((Z3x lbE a.2.1 a.2.2.1).x))),(true,(enc .edit ((Z3x lbE a.2.1 a.2.2.1).y)))]
def Z78(a:(Bool × Bool × Unit) × Edit × Edit × Unit):List (List (C U)):=[[.bool (a.1.1 || (Z3x lbE a.2.1 a.2.2.1).c),.bool (a.1.2.1 || (Z3x lbE a.2.1 a.2.2.1).a)]]
def Zkz:Fs U:=fsX Zd2 (fun a=> [ZbZ a]) ZbB Z78
def ZbY(a:(Bool × Bool × Unit) × Edit × Edit × Unit):Prop:=Yr a.2.1/\Yr a.2.2.1/\Edit.kind a.2.1=3/\Edit.kind a.2.2.1=3
def ZbA(a:(Bool × Bool × Unit) × Edit × Edit × Unit):V U:= .tup [(true,(enc .edit ((Z4a lbE a.2.1 a.2.2.1).x))),(true,(enc .edit ((Z4a lbE a.2.1 a.2.2.1).y)))]
def Z77(a:(Bool × Bool × Unit) × Edit × Edit × Unit):List (List (C U)):=[[.bool (a.1.1 || (Z4a lbE a.2.1 a.2.2.1).c),.bool (a.1.2.1 || (Z4a lbE a.2.1 a.2.2.1).a)]]
def Zky:Fs U:=fsX Zd2 (fun a=> [ZbY a]) ZbA Z77
def Z80:ArgM ((Unit × List Op × List Op × List Tree × List Tree × Unit) × Op × Op × (Bool × Bool × Unit) × Unit):=(.obj 0 (.cons (cXp 1) (.cons (Z2D .op 0 1) (.cons (Z2D .op 0 2) (.cons (Z2D .tree 0 3) (.cons (Z2D .tree 0 4) .nil))))) (.cons (aEl .op) (.cons (aEl .op) (.hid (.cons Z0N (.cons Z0N .nil)) .nil))))
def Z8i(a:(Unit × List Op × List Op × List Tree × List Tree × Unit) × Op × Op × (Bool × Bool × Unit) × Unit):Prop:=(ZeN a.2.1/\ZeN a.2.2.1/\Z2 a.2.1=Z2 a.2.2.1/\OpOf.kind a.2.1≠2/\OpOf.kind a.2.2.1≠2)/\((a.1.2.1).length<=10000000000/\(a.1.2.2.1).length<=10000000000)
def Zlp(a:(Unit × List Op × List Op × List Tree × List Tree × Unit) × Op × Op × (Bool × Bool × Unit) × Unit):Nat:=8*(Zx a.2.1+Zx a.2.2.1)+2
def Zby(a:(Unit × List Op × List Op × List Tree × List Tree × Unit) × Op × Op × (Bool × Bool × Unit) × Unit):V U:= .tup []
def Z74(a:(Unit × List Op × List Op × List Tree × List Tree × Unit) × Op × Op × (Bool × Bool × Unit) × Unit):List (List (C U)):=[[.xp 1,sU .op (a.1.2.1++(ZC lbE a.2.1 a.2.2.1).x) (.own (.x 0 1)),sU .op (a.1.2.2.1++(ZC lbE a.2.1 a.2.2.1).y) (.own (.x 0 2)),sU .tree a.1.2.2.2.1 (.own (.x 0 3)),sU .tree a.1.2.2.2.2.1 (.own (.x 0 4))],[.bool (a.2.2.2.1.1 || (ZC lbE a.2.1 a.2.2.1).c),.bool (a.2.2.2.1.2.1 || (ZC lbE a.2.1 a.2.2.1).a)]]
def Zks:Fs U:=fsX Z80 (fun a=> [Z8i a]) Zby Z74
def Z25(N:Nat):List (FuncId × Fs U):=(66,fsX Zd2 (fun a=> [ZbG a,ZqB a < N]) Zhk Zbs) ::(105,fsX Zd2 (fun a=> [ZbZ a,Zlr a < N]) ZbB Z78) ::(106,fsX Zd2 (fun a=> [ZbY a,Zlr a < N]) ZbA Z77) ::(145,fsX Z80 (fun a=> [Z8i a,Zlp a < N]) Zby Z74) ::[(114,YX),(103,Za9),(104,Za8),(177,JQ),(138,Za7),(139,Za6),(140,Za5),(141,Za4),(142,Za3),(143,Za2),(144,Za1),(146,Za0),(196,Z9Z),(197,Z9Y)]
def ZyX:Z6 U:=lvk [([0,4,5,6,7],[4,5,6,7,((.x 0),[])]),([0,4,5,6,7,8],[4,5,6,7,((.x 0),[])]),([6,7],[6,7,((.x 0),[])]),([0,4,5,6,7,19],[4,5,6,7,((.x 0),[])]),([6,7],[6,7,((.x 0),[])]),([6,7],[6,7,((.x 0),[])]),([0,4,5,6,7,33],[4,5,6,7,((.x 0),[])]),([6,7],[6,7,((.x 0),[])]),([6,7],[6,7,((.x 0),[])]),([0,4,5,6,7,47],[4,5,6,7,((.x 0),[])]),([6,7],[6,7,((.x 0),[])]),([6,7],[6,7,((.x 0),[])]),([0,4,5,6,7,66],[4,5,6,7,((.x 0),[])]),([6,7],[6,7,((.x 0),[])]),([6,7],[6,7,((.x 0),[])])]
abbrev A66(N:Nat)(p:List Nat):=AW (Z1 (Z25 N)) Tryz.f66 ZyX p
theorem ZDk(N:Nat)(mc ma:Bool)(p q:Edit)(Q:QT)(h:∀ b,b=p->∀ s,s=q->∀ ae,ae=(p.new)->∀ aa,aa=(q.new)->∀ u,u=(p.old)->∀ ab,ab=(q.old)->let z3:=Z4a lbE b s;let z2:=Z3x lbE b s;let z1:=enc .edit Edit.nil;let z0:=p.kind !=q.kind;((Tt (!(p.kind==0)))/\(Tt (!(p.kind==0)))/\((p.kind==0)=false->(!(p.kind==0))=true)/\(iB (bif (p.kind==0) then true else (q.kind==0)) ((Q .ret (L2 [pL 6,pL 7] [(.loc 6,(enc .edit p)),(.loc 7,(enc .edit q)),(.x 0,[.bool mc,.bool ma])]))) ((iB (p.kind==1) ((Z8l ((mc,ma,()),s,u,ae,()))/\((Z8k ())/\(Q .ret (L2 [pL 6,pL 7] [(.loc 6,z1),(.loc 7,z1),(.x 0,[.bool (mc || (JM s u ae).c),.bool (ma || (JM s u ae).a)])])))) ((iB (q.kind==1) ((Z8l ((mc,ma,()),b,ab,aa,()))/\((Z8k ())/\(Q .ret (L2 [pL 6,pL 7] [(.loc 6,z1),(.loc 7,z1),(.x 0,[.bool (mc || (JM b ab aa).c),.bool (ma || (JM b ab aa).a)])])))) ((Tt (!z0))/\(Tt (!z0))/\(Tt (!z0))/\(Tt (!z0))/\(z0=false->(!z0)=true)/\(iB (bif z0 then true else (p.list !=q.list)) (((Z8k ())/\(Q .ret (L2 [pL 6,pL 7] [(.loc 6,z1),(.loc 7,z1),(.x 0,[.bool mc,.bool true])])))) ((iB (p.kind==2) ((ZbZ ((mc,ma,()),b,s,()))/\(Zlr ((mc,ma,()),b,s,()) < N)/\(Q .ret (L2 [pL 6,pL 7] [(.loc 6,(enc .edit (z2.x))),(.loc 7,(enc .edit (z2.y))),(.x 0,[.bool (mc || z2.c),.bool (ma || z2.a)])]))) ((ZbY ((mc,ma,()),b,s,()))/\(Zlr ((mc,ma,()),b,s,()) < N)/\(Q .ret (L2 [pL 6,pL 7] [(.loc 6,(enc .edit (z3.x))),(.loc 7,(enc .edit (z3.y))),(.x 0,[.bool (mc || z3.c),.bool (ma || z3.a)])])))))))))))))):
  A66 N [] (L2 [(0,.ptr (.x 0) 0),(1,.agg (enc .edit p)),(2,.agg (enc .edit q))] [(.x 0,[.bool mc,.bool ma])]) Q:=
 Eq.mpr V6 (h _ (Z3 _) _ (Z3 _) _ (Z7 _) _ (Z7 _) _ (Z7 _) _ (Z7 _))
def ZAq(N:Nat)(mc ma:Bool)(p q:Edit):Prop:=AW (Z1 (Z25 N)) Tryz.f66 ZyX [] (Zb (Zd2.can ((mc,ma,()),p,q,())) (Zd2.canX ((mc,ma,()),p,q,()))) (EQ Tryz.f66 (Zhk ((mc,ma,()),p,q,())) (Zbs ((mc,ma,()),p,q,())))
abbrev ZD4:Prop:=∀ (N:Nat) (mc:Bool) (ma:Bool) (p:Edit) (q:Edit) (_:Unit),ZbG ((mc,ma,()),p,q,())->ZqB ((mc,ma,()),p,q,()) < N+1->ZAq N mc ma p q
def Zgo(N:Nat):List (FuncId × Fs U):=Z25 N
def ZlF:Z6 U:=lvk [([0,4,5,6,7],[4,5,6,7,((.x 0),[])]),([0,4,5,6,7,8,9],[4,5,6,7,8,9,((.x 0),[])]),([0,4,5,6,7,8,9],[4,5,6,7,((.loc 8),(an 7 [.wr .wedit])),((.loc 9),(an 7 [.wr .wedit])),((.x 0),[])]),([0,4,5,6,7,8,9,29,30,31],[4,5,6,7,((.loc 8),(an 7 [.wr .wedit])),((.loc 9),(an 7 [.wr .wedit])),((.x 0),[])]),([0,4,5,6,7,8,9,29,30,31,32],[4,5,6,7,((.loc 8),(an 7 [.wr .wedit])),((.loc 9),(an 7 [.wr .wedit])),((.x 0),[])]),([0,4,5,6,7,8,9,10,11,29,30,31],[4,5,6,7,((.loc 8),(an 7 [.wr .wedit])),((.loc 9),(an 7 [.wr .wedit])),11,((.x 0),[])]),([0,4,5,6,7,8,9,10,11,29,30,31,37,38,39],[4,5,6,7,((.loc 8),(an 7 [.wr .wedit])),((.loc 9),(an 7 [.wr .wedit])),11,((.x 0),[])]),([0,4,5,6,7,8,9,10,11,29,30,31,37,38,39,40],[4,5,6,7,((.loc 8),(an 7 [.wr .wedit])),((.loc 9),(an 7 [.wr .wedit])),11,((.x 0),[])]),([0,4,5,6,7,8,9,10,11,12,13,29,30,31,37,38,39],[4,5,6,7,((.loc 8),(an 7 [.wr .wedit])),((.loc 9),(an 7 [.wr .wedit])),11,13,((.x 0),[])]),([0,4,5,6,7,8,9,10,11,12,13,29,30,31,37,38,39,48],[4,5,6,7,((.loc 8),(an 7 [.wr .wedit])),((.loc 9),(an 7 [.wr .wedit])),11,13,((.x 0),[])]),([0,4,5,6,7,8,9,10,11,12,13,29,30,31,37,38,39],[4,5,6,7,((.loc 8),(an 7 [.wr .wedit])),((.loc 9),(an 7 [.wr .wedit])),11,13,((.x 0),[])]),([0,4,5,6,7,8,9,10,11,12,13,29,30,31,37,38,39],[4,5,6,7,((.loc 8),(an 7 [.wr .wedit])),((.loc 9),(an 7 [.wr .wedit])),11,13,((.x 0),[])]),([0,4,5,6,7,8,9,10,11,12,13,29,30,31,37,38,39,48],[4,5,6,7,((.loc 8),(an 7 [.wr .wedit])),((.loc 9),(an 7 [.wr .wedit])),11,13,((.x 0),[])]),([0,4,5,6,7,8,9,10,11,29,30,31,37,38,39],[4,5,6,7,((.loc 8),(an 7 [.wr .wedit])),((.loc 9),(an 7 [.wr .wedit])),11,((.x 0),[])]),([0,4,5,6,7,8,9,29,30,31],[4,5,6,7,((.loc 8),(an 7 [.wr .wedit])),((.loc 9),(an 7 [.wr .wedit])),((.x 0),[])]),([0,4,5,6,7,8,9],[4,5,6,7,((.loc 8),(an 7 [.wr .wedit,.wr .kid])),((.loc 9),(an 7 [.wr .wedit,.wr .kid])),((.x 0),[])]),([0,5,6,7,8,9,88,89,90],[5,6,7,((.loc 8),(an 7 [.wr .wedit,.wr .kid])),((.loc 9),(an 7 [.wr .wedit,.wr .kid])),((.x 0),[])]),([0,5,6,7,8,9,88,89,90,91],[5,6,7,((.loc 8),(an 7 [.wr .wedit,.wr .kid])),((.loc 9),(an 7 [.wr .wedit,.wr .kid])),((.x 0),[])]),([0,5,6,7,8,9,14,15,88,89,90],[5,6,7,((.loc 8),(an 7 [.wr .wedit,.wr .kid])),((.loc 9),(an 7 [.wr .wedit,.wr .kid])),15,((.x 0),[])]),([0,5,6,7,8,9,14,15,88,89,90,96,97,98],[5,6,7,((.loc 8),(an 7 [.wr .wedit,.wr .kid])),((.loc 9),(an 7 [.wr .wedit,.wr .kid])),15,((.x 0),[])]),([0,5,6,7,8,9,14,15,88,89,90,96,97,98,99],[5,6,7,((.loc 8),(an 7 [.wr .wedit,.wr .kid])),((.loc 9),(an 7 [.wr .wedit,.wr .kid])),15,((.x 0),[])]),([0,5,6,7,8,9,14,15,16,17,88,89,90,96,97,98],[5,6,7,((.loc 8),(an 7 [.wr .wedit,.wr .kid])),((.loc 9),(an 7 [.wr .wedit,.wr .kid])),15,17,((.x 0),[])]),([0,5,6,7,8,9,14,15,16,17,88,89,90,96,97,98,107],[5,6,7,((.loc 8),(an 7 [.wr .wedit,.wr .kid])),((.loc 9),(an 7 [.wr .wedit,.wr .kid])),15,17,((.x 0),[])]),([0,5,6,7,8,9,14,15,16,17,88,89,90,96,97,98,107],[5,6,7,((.loc 8),(an 7 [.wr .wedit,.wr .kid])),((.loc 9),(an 7 [.wr .wedit,.wr .kid])),15,17,((.x 0),[])]),([0,5,6,7,8,9,14,15,88,89,90,96,97,98],[5,6,7,((.loc 8),(an 7 [.wr .wedit,.wr .kid])),((.loc 9),(an 7 [.wr .wedit,.wr .kid])),15,((.x 0),[])]),([0,5,6,7,8,9,88,89,90],[5,6,7,((.loc 8),(an 7 [.wr .wedit,.wr .kid])),((.loc 9),(an 7 [.wr .wedit,.wr .kid])),((.x 0),[])]),([6,7],[6,7,((.x 0),[])])]
def Z5j(mc ma:Bool)(p q:Edit)(s:Int)(mx0_0 mx0_1:Bool)(b h:List WEdit):LSt U:=(⟨[(0,.ptr (.x 0) 0),pL 4,pL 5,pL 6,pL 7,pL 8,pL 9,(29,.c (sU .wedit p.words .unk)),pI 30 (p.words.length:Int),pI 31 s],[(.loc 4,(enc .edit p)),(.loc 5,(enc .edit q)),(.loc 6,zc0),(.loc 7,zc0),(.loc 8,[ci 2,ci 0,.nils,.nils,ci 0,.nils,.nils,.mref (.l 8 7),.nils,ci 0,.nils]),(.loc 9,[ci 2,ci 0,.nils,.nils,ci 0,.nils,.nils,.mref (.l 9 7),.nils,ci 0,.nils]),(.x 0,[.bool mx0_0,.bool mx0_1])],[(.l 8 7,LC.mk (U:=U) .wedit b 0),(.l 9 7,LC.mk (U:=U) .wedit h 0)]⟩:LSt U)
def Z5i(mc ma:Bool)(p q:Edit)(s u:Int)(mx0_0_a mx0_1_a:Bool)(b h:List WEdit):LSt U:=(⟨[(0,.ptr (.x 0) 0),pL 4,pL 5,pL 6,pL 7,pL 8,pL 9,pI 10 s,pL 11,(29,.c (sU .wedit p.words .unk)),pI 30 (p.words.length:Int),pI 31 s,(37,.c (sU .wedit q.words .unk)),pI 38 (q.words.length:Int),pI 39 u],[(.loc 4,(enc .edit p)),(.loc 5,(enc .edit q)),(.loc 6,zc0),(.loc 7,zc0),(.loc 8,[ci 2,ci 0,.nils,.nils,ci 0,.nils,.nils,.mref (.l 8 7),.nils,ci 0,.nils]),(.loc 9,[ci 2,ci 0,.nils,.nils,ci 0,.nils,.nils,.mref (.l 9 7),.nils,ci 0,.nils]),(.loc 11,(enc .wedit (p.words.getD s.toNat (WEdit.mk 0 0 0 0)))),(.x 0,[.bool mx0_0_a,.bool mx0_1_a])],[(.l 8 7,LC.mk (U:=U) .wedit b 0),(.l 9 7,LC.mk (U:=U) .wedit h 0)]⟩:LSt U)
def Z5h(mc ma:Bool)(p q:Edit)(u s:List WEdit)(aa:Int)(mx0_0_b mx0_1_b:Bool)(h b:List Kid):LSt U:=(⟨[(0,.ptr (.x 0) 0),pL 5,pL 6,pL 7,pL 8,pL 9,(88,.c (sU .kid p.kids .unk)),pI 89 (p.kids.length:Int),pI 90 aa],[(.loc 5,(enc .edit q)),(.loc 6,zc0),(.loc 7,zc0),(.loc 8,[ci 2,ci 0,.nils,.nils,ci 0,.nils,.nils,.mref (.l 8 7),.mref (.l 8 8),ci 0,.nils]),(.loc 9,[ci 2,ci 0,.nils,.nils,ci 0,.nils,.nils,.mref (.l 9 7),.mref (.l 9 8),ci 0,.nils]),(.x 0,[.bool mx0_0_b,.bool mx0_1_b])],[(.l 8 7,LC.mk (U:=U) .wedit u 0),(.l 8 8,LC.mk (U:=U) .kid h 0),(.l 9 7,LC.mk (U:=U) .wedit s 0),(.l 9 8,LC.mk (U:=U) .kid b 0)]⟩:LSt U)
def Z8I(mc ma:Bool)(p q:Edit)(u b:Int)(aa:V U)(mx0_0_c mx0_1_c:Bool)(s h:List WEdit):LSt U:=(⟨[(0,.ptr (.x 0) 0),pL 4,pL 5,pL 6,pL 7,pL 8,pL 9,pI 10 u,pL 11,pI 12 b,pL 13,(29,.c (sU .wedit p.words .unk)),pI 30 (p.words.length:Int),pI 31 u,(37,.c (sU .wedit q.words .unk)),pI 38 (q.words.length:Int),pI 39 b,(48,aa)],[(.loc 4,(enc .edit p)),(.loc 5,(enc .edit q)),(.loc 6,zc0),(.loc 7,zc0),(.loc 8,[ci 2,ci 0,.nils,.nils,ci 0,.nils,.nils,.mref (.l 8 7),.nils,ci 0,.nils]),(.loc 9,[ci 2,ci 0,.nils,.nils,ci 0,.nils,.nils,.mref (.l 9 7),.nils,ci 0,.nils]),(.loc 11,(enc .wedit (p.words.getD u.toNat (WEdit.mk 0 0 0 0)))),(.loc 13,(enc .wedit (q.words.getD b.toNat (WEdit.mk 0 0 0 0)))),(.x 0,[.bool mx0_0_c,.bool mx0_1_c])],[(.l 8 7,LC.mk (U:=U) .wedit s 0),(.l 9 7,LC.mk (U:=U) .wedit h 0)]⟩:LSt U)
def Z5g(mc ma:Bool)(p q:Edit)(aa u:List WEdit)(b ab:Int)(mx0_0_d mx0_1_d:Bool)(s h:List Kid):LSt U:=(⟨[(0,.ptr (.x 0) 0),pL 5,pL 6,pL 7,pL 8,pL 9,pI 14 b,pL 15,(88,.c (sU .kid p.kids .unk)),pI 89 (p.kids.length:Int),pI 90 b,(96,.c (sU .kid q.kids .unk)),pI 97 (q.kids.length:Int),pI 98 ab],[(.loc 5,(enc .edit q)),(.loc 6,zc0),(.loc 7,zc0),(.loc 8,[ci 2,ci 0,.nils,.nils,ci 0,.nils,.nils,.mref (.l 8 7),.mref (.l 8 8),ci 0,.nils]),(.loc 9,[ci 2,ci 0,.nils,.nils,ci 0,.nils,.nils,.mref (.l 9 7),.mref (.l 9 8),ci 0,.nils]),(.loc 15,(enc .kid (p.kids.getD b.toNat (KidOf.mk 0 Edit.nil)))),(.x 0,[.bool mx0_0_d,.bool mx0_1_d])],[(.l 8 7,LC.mk (U:=U) .wedit aa 0),(.l 8 8,LC.mk (U:=U) .kid s 0),(.l 9 7,LC.mk (U:=U) .wedit u 0),(.l 9 8,LC.mk (U:=U) .kid h 0)]⟩:LSt U)
def Z8H(mc ma:Bool)(p q:Edit)(ab aa:List WEdit)(b h:Int)(mx0_0_e mx0_1_e:Bool)(u s:List Kid):LSt U:=(⟨[(0,.ptr (.x 0) 0),pL 5,pL 6,pL 7,pL 8,pL 9,pI 14 b,pL 15,pI 16 h,pL 17,(88,.c (sU .kid p.kids .unk)),pI 89 (p.kids.length:Int),pI 90 b,(96,.c (sU .kid q.kids .unk)),pI 97 (q.kids.length:Int),pI 98 h,(107,.c (.bool (((KidOf.at_ (p.kids.getD b.toNat (KidOf.mk 0 Edit.nil))):Int)==(KidOf.at_ (q.kids.getD h.toNat (KidOf.mk 0 Edit.nil))))))],[(.loc 5,(enc .edit q)),(.loc 6,zc0),(.loc 7,zc0),(.loc 8,[ci 2,ci 0,.nils,.nils,ci 0,.nils,.nils,.mref (.l 8 7),.mref (.l 8 8),ci 0,.nils]),(.loc 9,[ci 2,ci 0,.nils,.nils,ci 0,.nils,.nils,.mref (.l 9 7),.mref (.l 9 8),ci 0,.nils]),(.loc 15,(enc .kid (p.kids.getD b.toNat (KidOf.mk 0 Edit.nil)))),(.loc 17,(enc .kid (q.kids.getD h.toNat (KidOf.mk 0 Edit.nil)))),(.x 0,[.bool mx0_0_e,.bool mx0_1_e])],[(.l 8 7,LC.mk (U:=U) .wedit ab 0),(.l 8 8,LC.mk (U:=U) .kid u 0),(.l 9 7,LC.mk (U:=U) .wedit aa 0),(.l 9 8,LC.mk (U:=U) .kid s 0)]⟩:LSt U)
abbrev Z6m(N:Nat)(p:List Nat):=AW (Z1z (Zgo N)) Tryz.f105 ZlF p
abbrev Z2J(N:Nat)(p:List Nat):=SW (Z1z (Zgo N)) Tryz.f105 ZlF p
theorem ZBR(N:Nat)(mc ma:Bool)(p q:Edit)(Q:QT)(h:((ZbU (p.words,()))/\(ZbU (q.words,()))/\(Zp (Z6m N [1,1,1,0,1,0,0]) (Z5j mc ma p q 0 mc ma p.words q.words) (xB 0 (Z2J N [1,1,1,1] Q))))):
  Z6m N [] (L2 [(0,.ptr (.x 0) 0),(1,.agg (enc .edit p)),(2,.agg (enc .edit q))] [(.x 0,[.bool mc,.bool ma])]) Q:=
 Eq.mpr V6 h
theorem Zpd(N:Nat)(mc ma:Bool)(p q:Edit)(u:Int)(mx0_0 mx0_1:Bool)(b s:List WEdit)(N0:NT)(Q:QT)(h:(iB (decide (u < (p.words.length:Int))) (((0:Int)<=u/\u < (p.words.length:Int))/\(Zp (Z6m N [1,1,1,0,1,0,0,1,1,0,0,1,1,0,0]) (Z5i mc ma p q u 0 mx0_0 mx0_1 b s) (xB 2 (xB 1 (Z2J N [1,1,1,0,1,0,0,1,1,1] (xT N0 (xB 0 (Z2J N [1,1,1,1] Q)))))))) ((ZbS (p.kids,()))/\(ZbS (q.kids,()))/\(Zp (Z6m N [1,1,1,1,1,0,1,0,0]) (Z5h mc ma p q b s 0 mx0_0 mx0_1 p.kids q.kids) (xB 4 (Z2J N [1,1,1,1,1,1] Q)))))):
  Z6m N [1,1,1,0,1,0,0] (Z5j mc ma p q u mx0_0 mx0_1 b s) (xT N0 (xB 0 (Z2J N [1,1,1,1] Q))):=
 Eq.mpr V6 h
theorem Zpc(N:Nat)(mc ma:Bool)(p q:Edit)(aa b:Int)(mx0_0_a mx0_1_a:Bool)(u s:List WEdit)(N1 N0:NT)(Q:QT)(h:∀ af,af=(p.words.getD aa.toNat (WEdit.mk 0 0 0 0))->∀ ah,ah=(q.words.getD b.toNat (WEdit.mk 0 0 0 0))->∀ ae,ae=af->∀ ab,ab=ah->∀ ai,ai=((Zea ae (IntKind.wrap .u8 (BitVec.ofInt (IntKind.bits .u8) 255 ^^^ BitVec.ofInt (IntKind.bits .u8) ah.mask).toNat)).1)->∀ aj,aj=((Zea ab (IntKind.wrap .u8 (BitVec.ofInt (IntKind.bits .u8) 255 ^^^ BitVec.ofInt (IntKind.bits .u8) af.mask).toNat)).1)->let z1:=IntKind.bits .u8;let z0:=xT N1 (xB 2 (xB 1 (Z2J N [1,1,1,0,1,0,0,1,1,1] (xT N0 (xB 0 (Z2J N [1,1,1,1] Q))))));(iB (decide (b < (q.words.length:Int))) (((0:Int)<=b/\b < (q.words.length:Int))/\(iB (af.at_==ah.at_) ((ZfO ((mx0_0_a,mx0_1_a,()),ae,ab,()))/\((ZbT (ae,(IntKind.wrap .u8 (BitVec.ofInt z1 255 ^^^ BitVec.ofInt z1 ah.mask).toNat),()))/\((0:Int)<=aa/\aa < (u.length:Int))/\((0:Nat)<=aa.toNat)/\((ZbT (ab,(IntKind.wrap .u8 (BitVec.ofInt z1 255 ^^^ BitVec.ofInt z1 af.mask).toNat),()))/\((0:Int)<=b/\b < (s.length:Int))/\((0:Nat)<=b.toNat)/\(Z6m N [1,1,1,0,1,0,0,1,1,0,0,1,1,0,0,1,1,1] (Z8I mc ma p q aa b .junk (mx0_0_a || (!(Yv ae ab) && Z05 ae ab)) (mx0_1_a || Yv ae ab) (List.set u aa.toNat ai) (List.set s b.toNat aj)) z0)))) (Z6m N [1,1,1,0,1,0,0,1,1,0,0,1,1,0,0,1,1,1] (Z8I mc ma p q aa b (.c (.bool (af.at_==ah.at_))) mx0_0_a mx0_1_a u s) z0))) ((InR (aa+1))/\(N0 (Z5j mc ma p q (aa+1) mx0_0_a mx0_1_a u s))))):
  Z6m N [1,1,1,0,1,0,0,1,1,0,0,1,1,0,0] (Z5i mc ma p q aa b mx0_0_a mx0_1_a u s) (xT N1 (xB 2 (xB 1 (Z2J N [1,1,1,0,1,0,0,1,1,1] (xT N0 (xB 0 (Z2J N [1,1,1,1] Q))))))):=
 Eq.mpr V6 (h _ rfl _ rfl _ (Z1l _) _ (Z1l _) _ (Z1l _) _ (Z1l _))
theorem Zpb(N:Nat)(mc ma:Bool)(p q:Edit)(aa u:List WEdit)(ab:Int)(mx0_0_b mx0_1_b:Bool)(s b:List Kid)(N2:NT)(Q:QT)(h:∀ ae,ae=(Edit.mk 2 (Tree.mk 0 ([]:List Int) ([]:List Tree)) (Tree.mk 0 ([]:List Int) ([]:List Tree)) aa s 0 ([]:List Op))->∀ af,af=(Edit.mk 2 (Tree.mk 0 ([]:List Int) ([]:List Tree)) (Tree.mk 0 ([]:List Int) ([]:List Tree)) u b 0 ([]:List Op))->(iB (decide (ab < (p.kids.length:Int))) (((0:Int)<=ab/\ab < (p.kids.length:Int))/\(Zp (Z6m N [1,1,1,1,1,0,1,0,0,1,1,0,0,1,1,0,0]) (Z5g mc ma p q aa u ab 0 mx0_0_b mx0_1_b s b) (xB 6 (xB 5 (Z2J N [1,1,1,1,1,0,1,0,0,1,1,1] (xT N2 (xB 4 (Z2J N [1,1,1,1,1,1] Q)))))))) ((ZbR ((2,0,([]:List Int),([]:List Tree),0,([]:List Int),([]:List Tree),aa,s,0,([]:List Op),()),()))/\(ZbR ((2,0,([]:List Int),([]:List Tree),0,([]:List Int),([]:List Tree),u,b,0,([]:List Op),()),()))/\(Q .ret (L2 [pL 6,pL 7] [(.loc 6,(enc .edit (Z3L ae))),(.loc 7,(enc .edit (Z3L af))),(.x 0,[.bool mx0_0_b,.bool mx0_1_b])]))))):
  Z6m N [1,1,1,1,1,0,1,0,0] (Z5h mc ma p q aa u ab mx0_0_b mx0_1_b s b) (xT N2 (xB 4 (Z2J N [1,1,1,1,1,1] Q))):=
 Eq.mpr V6 (h _ rfl _ rfl)
theorem ZgW(N:Nat)(mc ma:Bool)(p q:Edit)(ab u:Int)(aa:V U)(mx0_0_c mx0_1_c:Bool)(s b:List WEdit)(N1 N0:NT)(Q:QT)(h:(InR (u+1))/\(N1 (Z5i mc ma p q ab (u+1) mx0_0_c mx0_1_c s b))):
  Z6m N [1,1,1,0,1,0,0,1,1,0,0,1,1,0,0,1,1,1] (Z8I mc ma p q ab u aa mx0_0_c mx0_1_c s b) (xT N1 (xB 2 (xB 1 (Z2J N [1,1,1,0,1,0,0,1,1,1] (xT N0 (xB 0 (Z2J N [1,1,1,1] Q))))))):=
 Eq.mpr V6 h
theorem Zpa(N:Nat)(mc ma:Bool)(p q:Edit)(ae ab:List WEdit)(aa b:Int)(mx0_0_d mx0_1_d:Bool)(u s:List Kid)(N4 N2:NT)(Q:QT)(h:∀ ai,ai=(p.kids.getD aa.toNat (KidOf.mk 0 Edit.nil))->∀ aj,aj=(q.kids.getD b.toNat (KidOf.mk 0 Edit.nil))->∀ ah,ah=(ai.e)->∀ af,af=(aj.e)->∀ ak,ak=((lbE ah af).x)->∀ al,al=((lbE ah af).y)->let z0:=xT N4 (xB 6 (xB 5 (Z2J N [1,1,1,1,1,0,1,0,0,1,1,1] (xT N2 (xB 4 (Z2J N [1,1,1,1,1,1] Q))))));(iB (decide (b < (q.kids.length:Int))) (((0:Int)<=b/\b < (q.kids.length:Int))/\(iB (ai.at_==aj.at_) ((ZbG ((mx0_0_d,mx0_1_d,()),ah,af,()))/\(ZqB ((mx0_0_d,mx0_1_d,()),ah,af,()) < N)/\((0:Int)<=aa/\aa < (u.length:Int))/\((0:Nat)<=aa.toNat)/\((0:Int)<=b/\b < (s.length:Int))/\((0:Nat)<=b.toNat)/\(Z6m N [1,1,1,1,1,0,1,0,0,1,1,0,0,1,1,0,0,1,1,1] (Z8H mc ma p q ae ab aa b (mx0_0_d || (lbE ah af).c) (mx0_1_d || (lbE ah af).a) (List.set u aa.toNat (KidOf.mk (KidOf.at_ (u.getD aa.toNat (KidOf.mk 0 Edit.nil))) ak)) (List.set s b.toNat (KidOf.mk (KidOf.at_ (s.getD b.toNat (KidOf.mk 0 Edit.nil))) al))) z0)) (Z6m N [1,1,1,1,1,0,1,0,0,1,1,0,0,1,1,0,0,1,1,1] (Z8H mc ma p q ae ab aa b mx0_0_d mx0_1_d u s) z0))) ((InR (aa+1))/\(N2 (Z5h mc ma p q ae ab (aa+1) mx0_0_d mx0_1_d u s))))):
  Z6m N [1,1,1,1,1,0,1,0,0,1,1,0,0,1,1,0,0] (Z5g mc ma p q ae ab aa b mx0_0_d mx0_1_d u s) (xT N4 (xB 6 (xB 5 (Z2J N [1,1,1,1,1,0,1,0,0,1,1,1] (xT N2 (xB 4 (Z2J N [1,1,1,1,1,1] Q))))))):=
 Eq.mpr V6 (h _ rfl _ rfl _ (Z3 _) _ (Z3 _) _ (Z3 _) _ (Z3 _))
theorem ZgV(N:Nat)(mc ma:Bool)(p q:Edit)(ab aa:List WEdit)(ae u:Int)(mx0_0_e mx0_1_e:Bool)(s b:List Kid)(N4 N2:NT)(Q:QT)(h:(InR (u+1))/\(N4 (Z5g mc ma p q ab aa ae (u+1) mx0_0_e mx0_1_e s b))):
  Z6m N [1,1,1,1,1,0,1,0,0,1,1,0,0,1,1,0,0,1,1,1] (Z8H mc ma p q ab aa ae u mx0_0_e mx0_1_e s b) (xT N4 (xB 6 (xB 5 (Z2J N [1,1,1,1,1,0,1,0,0,1,1,1] (xT N2 (xB 4 (Z2J N [1,1,1,1,1,1] Q))))))):=
 Eq.mpr V6 h
def ZwL(N:Nat)(mc ma:Bool)(p q:Edit):Prop:=AW (Z1z (Zgo N)) Tryz.f105 ZlF [] (Zb (Zd2.can ((mc,ma,()),p,q,())) (Zd2.canX ((mc,ma,()),p,q,()))) (EQ Tryz.f105 (ZbB ((mc,ma,()),p,q,())) (Z78 ((mc,ma,()),p,q,())))
abbrev Zxw:Prop:=∀ (N:Nat) (mc:Bool) (ma:Bool) (p:Edit) (q:Edit) (_:Unit),ZbZ ((mc,ma,()),p,q,())->Zlr ((mc,ma,()),p,q,()) < N+1->ZwL N mc ma p q
def ZlE:Z6 U:=lvk [([0,4,5,6,7],[4,5,6,7,((.x 0),[])]),([0,4,6,7,8,9],[4,6,7,((.x 0),[])]),([0,4,6,7,8,22],[4,6,7,((.x 0),[])]),([6,7],[6,7,((.x 0),[])]),([6,7],[6,7,((.x 0),[])]),([4,6,7,8,10],[4,6,7,31,((.x 0),[])]),([4,6,7,10,32,33,34],[4,6,7,((.loc 31),[.any,.own .op,.own .op,.own .tree,.own .tree]),((.x 0),[])]),([4,6,7,10,32,33,34,35],[4,6,7,31,((.x 0),[])]),([4,6,7,10,12,32,33,34],[4,6,7,12,31,((.x 0),[])]),([4,6,7,10,12,32,33,34,39],[4,6,7,12,31,((.x 0),[])]),([4,6,7,10,12,32,33,34],[4,6,7,12,31,((.x 0),[])]),([4,6,7,10,32,33,34],[4,6,7,31,((.x 0),[])]),([4,6,7,10,12,32,33,34,39,48],[4,6,7,12,31,((.x 0),[])]),([4,6,7,10,32,33,34],[4,6,7,31,((.x 0),[])]),([4,6,7,10,12,32,33,34,61],[4,6,7,12,31,((.x 0),[])]),([4,6,7,10,32,33,34],[4,6,7,31,((.x 0),[])]),([4,6,7,10,32,33,34],[4,6,7,((.loc 31),[.any,.own .op,.own .op,.own .tree,.own .tree]),((.x 0),[])]),([4,6,7,10],[4,6,7,31,((.x 0),[])]),([6,7],[6,7,((.x 0),[])])]
def Z1c(mc ma:Bool)(p q:Edit)(aa:Int)(mx0_0 mx0_1:Bool)(h u:List Tree)(s b:List Op):LSt U:=(L2 [pL 4,pL 6,pL 7,(10,.ptr (.loc 31) 0),(32,.c (sU .piece ((ZE 2 2 p.ops q.ops []).1) .unk)),pI 33 (((ZE 2 2 p.ops q.ops []).1).length:Int),pI 34 aa] [(.loc 4,(enc .edit p)),(.loc 6,zc0),(.loc 7,zc0),(.loc 31,[.xp 0,sU .op s (.own (.l 31 1)),sU .op b (.own (.l 31 2)),sU .tree h (.own (.l 31 3)),sU .tree u (.own (.l 31 4))]),(.x 0,[.bool mx0_0,.bool mx0_1])])
abbrev ZAO(N:Nat)(p:List Nat):=AW (Z1 (Zgo N)) Tryz.f106 ZlE p
abbrev ZD0(N:Nat)(p:List Nat):=SW (Z1 (Zgo N)) Tryz.f106 ZlE p
theorem ZBQ(N:Nat)(mc ma:Bool)(p q:Edit)(Q:QT)(h:((Zjk (p.ops,q.ops,()))/\(iB (!((ZE 2 2 p.ops q.ops []).2.1)) (((Z8k ())/\(Q .ret (L2 [pL 6,pL 7] [(.loc 6,(enc .edit Edit.nil)),(.loc 7,(enc .edit Edit.nil)),(.x 0,[.bool mc,.bool true])])))) ((Zp (ZAO N [1,1,1,1,0,1,0,0]) (Z1c mc ma p q 0 mc ma [] [] [] []) (xB 0 (ZD0 N [1,1,1,1,1] Q))))))):
  ZAO N [] (L2 [(0,.ptr (.x 0) 0),(1,.agg (enc .edit p)),(2,.agg (enc .edit q))] [(.x 0,[.bool mc,.bool ma])]) Q:=
 Eq.mpr V6 h
theorem Zp9(N:Nat)(mc ma:Bool)(p q:Edit)(ab:Int)(mx0_0 mx0_1:Bool)(u aa:List Tree)(s b:List Op)(N0:NT)(Q:QT)(h:∀ aj,aj=(Edit.new (Z1j p.list (s++(Jp u aa).x)))->∀ al,al=(Edit.new (Z1j p.list (b++(Jp u aa).y)))->∀ ak,ak=(Edit.old (Z1j p.list (s++(Jp u aa).x)))->∀ ai,ai=(Edit.old (Z1j p.list (b++(Jp u aa).y)))->∀ ae,ae=(List.getD ((ZE 2 2 p.ops q.ops []).1) ab.toNat (Piece.mk 0 Op.nil Op.nil))->∀ ah,ah=(ae.p)->∀ af,af=(ae.q)->let z4:=ZC lbE ah af;let z3:=ZfN (((),s,b,u,aa,()),(mx0_0,mx0_1,()),());let z0:=Jp u aa;let z2:=Z1j p.list (b++z0.y);let z1:=Z1j p.list (s++z0.x);(iB (decide (ab < (((ZE 2 2 p.ops q.ops []).1).length:Int))) (((0:Int)<=ab/\ab < (((ZE 2 2 p.ops q.ops []).1).length:Int))/\(iB (ae.of==1) (((u.length+ae.p.l.length)*56<=140737488355328)/\((InR (ab+1))/\(N0 (Z1c mc ma p q (ab+1) mx0_0 mx0_1 (u++ae.p.l) aa s b)))) ((iB (ae.of==2) (((aa.length+ae.q.l.length)*56<=140737488355328)/\((InR (ab+1))/\(N0 (Z1c mc ma p q (ab+1) mx0_0 mx0_1 u (aa++ae.q.l) s b)))) (z3/\((Z8i (((),(s++z0.x),(b++z0.y),([]:List Tree),([]:List Tree),()),ah,af,((mx0_0 || z0.c),mx0_1,()),()))/\(Zlp (((),(s++z0.x),(b++z0.y),([]:List Tree),([]:List Tree),()),ah,af,((mx0_0 || z0.c),mx0_1,()),()) < N)/\((InR (ab+1))/\(N0 (Z1c mc ma p q (ab+1) ((mx0_0 || z0.c) || z4.c) (mx0_1 || z4.a) ([]:List Tree) ([]:List Tree) ((s++z0.x)++z4.x) ((b++z0.y)++z4.y)))))))))) (z3/\((ZbQ (p.list,(s++z0.x),()))/\(ZbQ (p.list,(b++z0.y),()))/\(Q .ret (L2 [pL 6,pL 7] [(.loc 6,([ci (Edit.kind z1)]++enc .tree ak++enc .tree aj++[sU .wedit (Edit.words z1) .unk,sU .kid (Edit.kids z1) .unk,ci (Edit.list z1),sU .op (Edit.ops z1) .unk])),(.loc 7,([ci (Edit.kind z2)]++enc .tree ai++enc .tree al++[sU .wedit (Edit.words z2) .unk,sU .kid (Edit.kids z2) .unk,ci (Edit.list z2),sU .op (Edit.ops z2) .unk])),(.x 0,[.bool (mx0_0 || z0.c),.bool mx0_1])])))))):
  ZAO N [1,1,1,1,0,1,0,0] (Z1c mc ma p q ab mx0_0 mx0_1 u aa s b) (xT N0 (xB 0 (ZD0 N [1,1,1,1,1] Q))):=
 Eq.mpr V6 (h _ rfl _ rfl _ rfl _ rfl _ rfl _ (Ym _) _ (Ym _))
def ZwK(N:Nat)(mc ma:Bool)(p q:Edit):Prop:=AW (Z1 (Zgo N)) Tryz.f106 ZlE [] (Zb (Zd2.can ((mc,ma,()),p,q,())) (Zd2.canX ((mc,ma,()),p,q,()))) (EQ Tryz.f106 (ZbA ((mc,ma,()),p,q,())) (Z77 ((mc,ma,()),p,q,())))
abbrev Zxv:Prop:=∀ (N:Nat) (mc:Bool) (ma:Bool) (p:Edit) (q:Edit) (_:Unit),ZbY ((mc,ma,()),p,q,())->Zlr ((mc,ma,()),p,q,()) < N+1->ZwK N mc ma p q
def Zrr:Z6 U:=lvk [([0,4,5],[4,5,((.x 0),[]),((.x 1),[])]),([0,6,7],[6,7,((.x 0),[]),((.x 1),[])]),([],[((.x 0),[]),((.x 1),[])]),([0,4,5,42],[4,5,((.x 0),[]),((.x 1),[])]),([],[((.x 0),[]),((.x 1),[])]),([0,4,5,62],[4,5,((.x 0),[]),((.x 1),[])]),([],[((.x 0),[]),((.x 1),[])]),([0,4,5,82],[4,5,((.x 0),[]),((.x 1),[])]),([],[((.x 0),[]),((.x 1),[])]),([0,4,5,109],[4,5,((.x 0),[]),((.x 1),[])]),([],[((.x 0),[]),((.x 1),[])]),([0,4,5,133],[4,5,((.x 0),[]),((.x 1),[])]),([0,147],[((.x 0),[]),((.x 1),[])]),([],[((.x 0),[]),((.x 1),[])]),([0,4,5,154],[4,5,((.x 0),[]),((.x 1),[])]),([],[((.x 0),[]),((.x 1),[])]),([0,4,5,166],[4,5,((.x 0),[]),((.x 1),[])]),([],[((.x 0),[]),((.x 1),[])])]
abbrev ZEo(N:Nat)(p:List Nat):=AW (Z1 (Zgo N)) Tryz.f145 Zrr p
theorem ZBw(N:Nat)(sm_:Unit)(sx sy:List Op)(si sh:List Tree)(p q:Op)(mc ma:Bool)(Q:QT)(h:∀ ae,ae=p->∀ af,af=q->∀ u,u=(p.e)->∀ s,s=(q.e)->∀ ah,ah=(List.getD p.l (Int.toNat 0) Tree.nil)->∀ aj,aj=(List.getD q.l (Int.toNat 0) Tree.nil)->∀ b,b=(Edit.mk 0 (Tree.mk 0 [] []) (Tree.mk 0 [] []) [] [] 0 [])->∀ ak,ak=((lbE u s).x)->∀ ai,ai=((lbE u s).y)->∀ aa,aa=(Z5y ak)->∀ ab,ab=(Z5y ai)->let z0:= !(eqX (Zd p.l) (Zd q.l));((Tt (p.kind==0))/\(Tt (p.kind==0))/\(Tt (p.kind==0))/\(iB (bif (p.kind==0) then (q.kind==1) else false) (((sy.length+([(OpOf.mk 0 0 [] b)]).length)*240<=140737488355328)/\((0:Int)<=(sy.length:Int)/\(sy.length:Int) < ((sy++([(OpOf.mk 0 0 [] b)])).length:Int))/\(sy.length<=(Int.toNat (sy.length:Int)))/\(Q .normal (L2 [] [(.x 0,[.xp 1,sU .op sx (.own (.x 0 1)),sU .op (List.set (sy++([(OpOf.mk 0 0 [] b)])) (Int.toNat (sy.length:Int)) af) (.own (.x 0 2)),sU .tree si (.own (.x 0 3)),sU .tree sh (.own (.x 0 4))]),(.x 1,[.bool mc,.bool ma])]))) ((Tt (p.kind==1))/\(Tt (p.kind==1))/\(Tt (p.kind==1))/\(iB (bif (p.kind==1) then (q.kind==0) else false) (((sx.length+([(OpOf.mk 0 0 [] b)]).length)*240<=140737488355328)/\((0:Int)<=(sx.length:Int)/\(sx.length:Int) < ((sx++([(OpOf.mk 0 0 [] b)])).length:Int))/\(sx.length<=(Int.toNat (sx.length:Int)))/\(Q .normal (L2 [] [(.x 0,[.xp 1,sU .op (List.set (sx++([(OpOf.mk 0 0 [] b)])) (Int.toNat (sx.length:Int)) ae) (.own (.x 0 1)),sU .op sy (.own (.x 0 2)),sU .tree si (.own (.x 0 3)),sU .tree sh (.own (.x 0 4))]),(.x 1,[.bool mc,.bool ma])]))) ((iB (p.kind==0) (((sx.length+([(OpOf.mk 0 (if q.n < 1 then 1 else q.n) [] b)]).length)*240<=140737488355328)/\((sy.length+([af]).length)*240<=140737488355328)/\(Q .normal (L2 [] [(.x 0,[.xp 1,sU .op (sx++([(OpOf.mk 0 (if q.n < 1 then 1 else q.n) [] b)])) (.own (.x 0 1)),sU .op (sy++([af])) (.own (.x 0 2)),sU .tree si (.own (.x 0 3)),sU .tree sh (.own (.x 0 4))]),(.x 1,[.bool mc,.bool ma])]))) ((iB (q.kind==0) (((sx.length+([ae]).length)*240<=140737488355328)/\((sy.length+([(OpOf.mk 0 1 [] b)]).length)*240<=140737488355328)/\(Q .normal (L2 [] [(.x 0,[.xp 1,sU .op (sx++([ae])) (.own (.x 0 1)),sU .op (sy++([(OpOf.mk 0 1 [] b)])) (.own (.x 0 2)),sU .tree si (.own (.x 0 3)),sU .tree sh (.own (.x 0 4))]),(.x 1,[.bool mc,.bool ma])]))) ((Tt (p.kind==1))/\(Tt (p.kind==1))/\(Tt (p.kind==1))/\(iB (bif (p.kind==1) then (q.kind==1) else false) ((Z63 (p.l,q.l,(),()))/\(iB z0 ((Q .normal (L2 [] [(.x 0,[.xp 1,sU .op sx (.own (.x 0 1)),sU .op sy (.own (.x 0 2)),sU .tree si (.own (.x 0 3)),sU .tree sh (.own (.x 0 4))]),(.x 1,[.bool mc,.bool true])]))) (Q .normal (L2 [(0,.ptr (.x 0) 0),pB 147 z0] [(.x 0,[.xp 1,sU .op sx (.own (.x 0 1)),sU .op sy (.own (.x 0 2)),sU .tree si (.own (.x 0 3)),sU .tree sh (.own (.x 0 4))]),(.x 1,[.bool mc,.bool ma])])))) ((iB (p.kind==1) (((0:Int)<=0/\0 < (p.l.length:Int))/\(ZbL (((),sx,sy,si,sh,()),s,ah,(mc,ma,()),()))/\(Q .normal (L2 [] [(.x 0,[.xp 1,sU .op sx (.own (.x 0 1)),sU .op sy (.own (.x 0 2)),sU .tree si (.own (.x 0 3)),sU .tree sh (.own (.x 0 4))]),(.x 1,[.bool true,.bool (ma || !(doE false s ah).isSome)])]))) ((iB (q.kind==1) (((0:Int)<=0/\0 < (q.l.length:Int))/\(ZbL (((),sx,sy,si,sh,()),u,aj,(mc,ma,()),()))/\(Q .normal (L2 [] [(.x 0,[.xp 1,sU .op sx (.own (.x 0 1)),sU .op sy (.own (.x 0 2)),sU .tree si (.own (.x 0 3)),sU .tree sh (.own (.x 0 4))]),(.x 1,[.bool true,.bool (ma || !(doE false u aj).isSome)])]))) ((ZbG ((mc,ma,()),u,s,()))/\(ZqB ((mc,ma,()),u,s,()) < N)/\((ZfE (ak,()))/\((sx.length+([aa]).length)*240<=140737488355328)/\(ZfE (ai,()))/\((sy.length+([ab]).length)*240<=140737488355328)/\(Q .normal (L2 [] [(.x 0,[.xp 1,sU .op (sx++([aa])) (.own (.x 0 1)),sU .op (sy++([ab])) (.own (.x 0 2)),sU .tree si (.own (.x 0 3)),sU .tree sh (.own (.x 0 4))]),(.x 1,[.bool (mc || (lbE u s).c),.bool (ma || (lbE u s).a)])]))))))))))))))))))):
  ZEo N [] (L2 [(0,.ptr (.x 0) 0),(1,.agg (enc .op p)),(2,.agg (enc .op q))] [(.x 0,[.xp 1,sU .op sx (.own (.x 0 1)),sU .op sy (.own (.x 0 2)),sU .tree si (.own (.x 0 3)),sU .tree sh (.own (.x 0 4))]),(.x 1,[.bool mc,.bool ma])]) Q:=
 Eq.mpr V6 (h _ (Ym _) _ (Ym _) _ (Z3 _) _ (Z3 _) _ (Z7 _) _ (Z7 _) _ rfl _ (Z3 _) _ (Z3 _) _ (Ym _) _ (Ym _))
def Zwq(N:Nat)(sm_:Unit)(sx sy:List Op)(si sh:List Tree)(p q:Op)(mc ma:Bool):Prop:=AW (Z1 (Zgo N)) Tryz.f145 Zrr [] (Zb (Z80.can ((sm_,sx,sy,si,sh,()),p,q,(mc,ma,()),())) (Z80.canX ((sm_,sx,sy,si,sh,()),p,q,(mc,ma,()),()))) (EQ Tryz.f145 (Zby ((sm_,sx,sy,si,sh,()),p,q,(mc,ma,()),())) (Z74 ((sm_,sx,sy,si,sh,()),p,q,(mc,ma,()),())))
abbrev Zxp:Prop:=∀ (N:Nat) (sm_:Unit) (sx:List Op) (sy:List Op) (si:List Tree) (sh:List Tree) (p:Op) (q:Op) (mc:Bool) (ma:Bool) (_:Unit),Z8i ((sm_,sx,sy,si,sh,()),p,q,(mc,ma,()),())->Zlp ((sm_,sx,sy,si,sh,()),p,q,(mc,ma,()),()) < N+1->Zwq N sm_ sx sy si sh p q mc ma
theorem Zuh(Z9U:CT 114 YX)(ZzW:CT 103 Za9)(ZzV:CT 104 Za8)(Zgu:CT 177 JQ)(ZzP:CT 138 Za7)(ZzO:CT 139 Za6)(ZzN:CT 140 Za5)(ZzM:CT 141 Za4)(ZzL:CT 142 Za3)(ZzK:CT 143 Za2)(ZzJ:CT 144 Za1)(ZzI:CT 146 Za0)(Zzx:CT 196 Z9Z)(Zzw:CT 197 Z9Y)(b66:ZD4)(ZA8:Zxw)(ZA7:Zxv)(ZA2:Zxp):
  CT 66 Z87/\CT 105 Zkz/\CT 106 Zky/\CT 145 Zks:=by
 have af:FK 66:=⟨Tryz.f66,Tryz.func66,rfl,rfl⟩
 have u:FK 105:=⟨Tryz.f105,Tryz.func105,rfl,rfl⟩
 have aa:FK 106:=⟨Tryz.f106,Tryz.func106,rfl,rfl⟩
 have s:FK 145:=⟨Tryz.f145,Tryz.func145,rfl,rfl⟩
 have b:∀ N,CT 66 (fsX Zd2 (fun a=> [ZbG a,ZqB a < N]) Zhk Zbs)/\CT 105 (fsX Zd2 (fun a=> [ZbZ a,Zlr a < N]) ZbB Z78)/\CT 106 (fsX Zd2 (fun a=> [ZbY a,Zlr a < N]) ZbA Z77)/\CT 145 (fsX Z80 (fun a=> [Z8i a,Zlp a < N]) Zby Z74):=by
  intro N
  induction N with
  | zero=> exact ⟨Z7Q af,Z7Q u,Z7Q aa,Z7Q s⟩
  | succ N ih=>
   have kn:=YP (l:=Z25 N) ⟨ih.1,ih.2.1,ih.2.2.1,ih.2.2.2,Z9U,ZzW,ZzV,Zgu,ZzP,ZzO,ZzN,ZzM,ZzL,ZzK,ZzJ,ZzI,Zzx,Zzw,trivial⟩
   exact ⟨JX (Γ:=Z1 (Z25 N)) Za rfl kn ZyX Tryz.func66 rfl rfl (fun a=> by show 3<=_;decide) (fun ⟨⟨mc,ma,_⟩,p,q,_⟩ h=> b66 N mc ma p q () h.1 h.2.1),
    JX (Γ:=Z1z (Z25 N)) Za rfl kn ZlF Tryz.func105 rfl rfl (fun a=> by show 3<=_;decide) (fun ⟨⟨mc,ma,_⟩,p,q,_⟩ h=> ZA8 N mc ma p q () h.1 h.2.1),
    JX (Γ:=Z1 (Z25 N)) Za rfl kn ZlE Tryz.func106 rfl rfl (fun a=> by show 3<=_;decide) (fun ⟨⟨mc,ma,_⟩,p,q,_⟩ h=> ZA7 N mc ma p q () h.1 h.2.1),
    JX (Γ:=Z1 (Z25 N)) Za rfl kn Zrr Tryz.func145 rfl rfl (fun a=> by show 3<=_;decide) (fun ⟨⟨ai,sx,sy,si,sh,_⟩,p,q,⟨mc,ma,_⟩,_⟩ h=> ZA2 N ai sx sy si sh p q mc ma () h.1 h.2.1)⟩
 exact ⟨Z7R af fun N=> (b N).1,Z7R u fun N=> (b N).2.1,Z7R aa fun N=> (b N).2.2.1,Z7R s fun N=> (b N).2.2.2⟩
end
theorem Zpj{o:Option Tree}(h:o.isSome=true):∃ v,o=some v:=by cases o with | none=> cases h | some v=> grind
theorem Zok:Contract Tryz.prog cfg 190 Z1K:=by
 refine ZuG ?_
 intro w _ _
 refine ZBg _ _ ?_
 simp only [Zj6]
 exact V2
theorem Zoj:Contract Tryz.prog cfg 192 Z1J:=by
 refine ZuE ?_
 intro w _ _
 refine ZBe _ _ ?_
 simp only [Zj5]
 exact V2
theorem Zzu:Contract Tryz.prog cfg 199 Z6M:=by
 refine Zux ?_
 intro w _ _
 refine ZB7 _ _ ?_
 simp only [Zj3]
 exact V2
theorem Z2w{α:Type}(f:α->Bool):∀ (l:List α) (i:Int),(YD f l i= -1/\∀ a∈l,f a=false)\/(i<=YD f l i/\YD f l i < i+l.length/\(∀ a∈l.take (YD f l i - i).toNat,f a=false)/\∀ z,f (l.getD (YD f l i - i).toNat z)=true)
 | [],i=> .inl ⟨rfl,fun a h=> by cases h⟩
 | a ::r,i=> by
  by_cases h:f a=true
  .rw [YD,if_pos h]
   grind
  .rw [YD,if_neg h]
   rcases Z2w f r (i+1) with ⟨h1,h2⟩ | ⟨h1,h2,h3,h4⟩
   .grind
   .have e:(YD f r (i+1) - i).toNat=(YD f r (i+1) - (i+1)).toNat+1:=V1
    rw [e]
    refine .inr ⟨V1,by grind,fun x b=> ?_,fun z=> by simpa using h4 z⟩
    grind
theorem Zsg{α:Type}(f:α->Bool)(l:List α):decide (0<=YD f l 0)=l.any f:=by
 rcases Z2w f l 0 with ⟨h1,h2⟩ | ⟨h1,h2,_,h4⟩
 .grind
 .rw [decide_eq_true h1,XN.2]
  cases l with
  | nil=> grind
  | cons a r=> exact ⟨_,Zq V1 a,h4 a⟩
theorem Zzn:Contract Tryz.prog cfg 224 Z6H:=by
 refine Zup Zok ?_
 intro l f _ hp
 simp only [Zfy] at hp
 refine ZAZ l f _ ?_
 refine Zf (ι:=Int) (fun i=> Z52 l f i) (fun i=> 0<=i/\i<=l.length/\YD (fun w:WEdit=> decide (WEdit.mask w=0)) (l.drop i.toNat) i=YD (fun w:WEdit=> decide (WEdit.mask w=0)) l 0) (fun i=> ((l.length:Int) - i).toNat) 0 rfl ⟨V1,V1,rfl⟩ ?_
 rintro i ⟨s,h2,b⟩
 refine ZoL l f _ _ _ ?_
 (simp only [iB,vcT,vcS])
 refine ⟨fun h=> ⟨⟨s,h⟩,trivial,fun u=> ?_,fun u=> ⟨V4,i+1,rfl,⟨V1,V1,?_⟩,V1⟩⟩,fun h=> ?_⟩
 .rw [Jd s h ⟨0,0,0,0⟩,YD,if_pos (decide_eq_true u)] at b
  simp only [Zf5,<-b]
  exact V2
 .rw [Jd s h ⟨0,0,0,0⟩,YD,if_neg (fun e=> u (of_decide_eq_true e))] at b
  exact b
 .rw [Qd V1,YD] at b
  simp only [Zf5,<-b]
  exact V2
theorem ZsL:Contract Tryz.prog cfg 225 Z3J:=by
 refine ZqT Zoj ?_
 intro l f _ hp
 simp only [Zap] at hp
 refine ZxU l f _ ?_
 refine Zf (ι:=Int) (fun i=> Z37 l f i) (fun i=> 0<=i/\i<=l.length/\YD (fun k:Kid=> decide (Edit.kind (KidOf.e k)=0)) (l.drop i.toNat) i=YD (fun k:Kid=> decide (Edit.kind (KidOf.e k)=0)) l 0) (fun i=> ((l.length:Int) - i).toNat) 0 rfl ⟨V1,V1,rfl⟩ ?_
 rintro i ⟨s,h2,b⟩
 refine Zne l f _ _ _ ?_
 intro y1 e1 y2 e2
 (simp only [iB,vcT,vcS])
 subst_vars
 refine ⟨fun h=> ⟨⟨s,h⟩,trivial,fun u=> ?_,fun u=> ⟨V4,i+1,rfl,⟨V1,V1,?_⟩,V1⟩⟩,fun h=> ?_⟩
 .rw [Jd s h ⟨0,Edit.nil⟩,YD,if_pos (decide_eq_true u)] at b
  simp only [Zam,<-b]
  exact V2
 .rw [Jd s h ⟨0,Edit.nil⟩,YD,if_neg (fun e=> u (of_decide_eq_true e))] at b
  exact b
 .rw [Qd V1,YD] at b
  simp only [Zam,<-b]
  exact V2
theorem Zzk:Contract Tryz.prog cfg 230 Z6E:=by
 refine Zuk Zzu ?_
 intro l f _ hp
 simp only [Zfx] at hp
 refine ZAU l f _ ?_
 refine Zf (ι:=Int) (fun i=> Z51 l f i) (fun i=> 0<=i/\i<=l.length/\YD (fun o:Op=> !decide (OpOf.kind o=0)) (l.drop i.toNat) i=YD (fun o:Op=> !decide (OpOf.kind o=0)) l 0) (fun i=> ((l.length:Int) - i).toNat) 0 rfl ⟨V1,V1,rfl⟩ ?_
 rintro i ⟨s,h2,b⟩
 refine ZoK l f _ _ _ ?_
 intro y1 e1 y2 e2
 (simp only [iB,vcT,vcS])
 subst_vars
 refine ⟨fun h=> ⟨⟨s,h⟩,trivial,fun u=> ?_,fun u=> ⟨V4,i+1,rfl,⟨V1,V1,?_⟩,V1⟩⟩,fun h=> ?_⟩
 .rw [Jd s h Op.nil,YD,if_pos (by simpa using u)] at b
  simp only [Zf4,<-b]
  exact V2
 .rw [Jd s h Op.nil,YD,if_neg (by simpa using u)] at b
  exact b
 .rw [Qd V1,YD] at b
  simp only [Zf4,<-b]
  exact V2
theorem Zzv:Contract Tryz.prog cfg 198 Z6N:=by
 refine Zuy Zzk ?_
 intro l f _ b
 simp only [Zfx] at b
 refine ZB8 l f _ ⟨b,?_⟩
 simp only [Zj4]
 rw [Zsg]
 exact V2
theorem Zzz:Contract Tryz.prog cfg 194 Z6P:=by
 refine ZuC ?_
 intro n _ _
 refine ZBc _ _ ?_
 (simp only [iB,vcT,vcS])
 refine ⟨fun h=> ?_,fun h=> ?_⟩
 .simp only [Zfa,JK,if_pos h]
  exact V2
 .simp only [Zfa,JK,if_neg h]
  exact V2
theorem ZzP:Contract Tryz.prog cfg 138 Za7:=by
 refine Zv1 ?_
 intro l _ b
 simp only [ZbU] at b
 refine ZBD _ _ ⟨fun h=> ?_,fun _=> ⟨by simp only [Qe];omega,?_⟩⟩
 .subst h
  simp only [Zal]
  exact V2
 .simp only [Zal]
  exact V2
theorem ZzM:Contract Tryz.prog cfg 141 Za4:=by
 refine ZuY ?_
 intro l _ b
 simp only [ZbS] at b
 refine ZBA _ _ ⟨fun h=> ?_,fun _=> ⟨by simp only [Qe];omega,?_⟩⟩
 .subst h
  simp only [Zak]
  exact V2
 .simp only [Zak]
  exact V2
structure DInv {α:Type} (g:α->Bool) (l L:List α) (i j:Int):Prop where
 i0:0<=i
 ij:i < j
 jl:j<=l.length
 len:L.length=l.length
 tk:L.take i.toNat=(l.take j.toNat).filter g
 dr:L.drop j.toNat=l.drop j.toNat
theorem DInv.one{α:Type}{f:α->Bool}{l:List α}{k:Int}(e:YD f l 0=k)(hk:k≠-1):DInv (fun a=> !f a) l l k (k+1):=by
 subst e
 rcases Z2w f l 0 with ⟨h1,_⟩ | ⟨h1,h2,h3,h4⟩
 .omega
 .rw [Int.sub_zero] at h3 h4
  refine ⟨h1,V1,V1,rfl,?_,rfl⟩
  cases l with
  | nil=> grind
  | cons a r=>
   rw [show (YD f (a ::r) 0+1).toNat=(YD f (a ::r) 0).toNat+1 by omega,Z85 V1 a,List.filter_append,K5,h4 a,List.filter_eq_self.2 (fun x b=> by grind)]
   simp
theorem DInv.get{α:Type}{g:α->Bool}{l L:List α}{i j:Int}(h:DInv g l L i j)(z:α):L.getD j.toNat z=l.getD j.toNat z:=by
 have:=congrArg (fun x=> x.getD 0 z) h.dr
 grind
theorem DInv.next{α:Type}{g:α->Bool}{l L:List α}{i j:Int}(h:DInv g l L i j)(hj:j < l.length)(z:α):
  (g (L.getD j.toNat z)=true->DInv g l (L.set i.toNat (L.getD j.toNat z)) (i+1) (j+1))/\(g (L.getD j.toNat z)=false->DInv g l L i (j+1)):=by
 obtain ⟨i0,ij,jl,len,tk,dr⟩:=h
 have e:=DInv.get ⟨i0,ij,jl,len,tk,dr⟩ z
 have u:l.take (j+1).toNat=l.take j.toNat++[l.getD j.toNat z]:=by rw [show (j+1).toNat=j.toNat+1 by omega];exact Z85 V1 z
 have d1:L.drop (j+1).toNat=l.drop (j+1).toNat:=by
  have:=congrArg (List.drop 1) dr
  rw [List.drop_drop,List.drop_drop] at this
  rw [show (j+1).toNat=j.toNat+1 by omega];exact this
 refine ⟨fun b=> ⟨V1,V1,V1,by grind,?_,?_⟩,fun b=> ⟨i0,V1,V1,len,?_,d1⟩⟩
 .have s:i.toNat < L.length:=V1
  rw [show (i+1).toNat=i.toNat+1 by omega,Z85 (by grind) z,u,List.filter_append,<-tk,List.take_set_of_le V1]
  grind
 .rw [List.drop_set,V0]
  exact d1
 grind
theorem DInv.fin{α:Type}{g:α->Bool}{l L:List α}{i j:Int}(h:DInv g l L i j)(hj:¬j < l.length)(r:List α):List.take i.toNat (List.take i.toNat L++r)=l.filter g:=by
 have s:=h.ij;have b:=h.jl;have h3:=h.len;have u:=h.i0
 rw [List.take_append_of_le_length (by rw [Qg];omega),List.take_take,Nat.min_self,h.tk,QK V1]
theorem ZzB:Contract Tryz.prog cfg 189 Z6R:=by
 refine ZuH Zok Zzn ?_
 intro l f _ hp
 simp only [Zfy] at hp
 refine ZBh l f _ ?_
 (simp only [iB,vcT,vcS])
 refine ⟨hp,fun h=> ?_,fun h=> ?_⟩
 .have e:l.filter (fun w=> !decide (WEdit.mask w=0))=l:=by
   rcases Z2w (fun w:WEdit=> decide (WEdit.mask w=0)) l 0 with ⟨_,h2⟩ | ⟨h1,_⟩
   .simp_all
   .omega
  simp only [Zfd,Zae,Zah,e]
  exact V2
 .have D:=DInv.one (f:=fun w:WEdit=> decide (WEdit.mask w=0)) (l:=l) rfl h
  have:=D.jl;have:=D.i0
  refine ⟨V4,?_⟩
  refine Zf (ι:=List WEdit × Int × Int) (fun s=> Z2z l f s.2.1 s.2.2 s.1) (fun s=> DInv (fun w:WEdit=> !decide (WEdit.mask w=0)) l s.1 s.2.1 s.2.2) (fun s=> ((l.length:Int) - s.2.2).toNat) (l,_,_) rfl D ?_
  rintro ⟨L,i,j⟩ D
  dsimp only at D
  have hl:=D.len;have u:=D.i0;have h1:=D.ij;have h2:=D.jl
  refine ZoP l f _ _ _ _ _ ?_
  intro y1 b y2 ab
  subst ab
  (simp only [iB,vcT,vcS])
  refine ⟨fun hj=> ?_,fun hj=> ?_⟩
  .have hn:=D.next V1 ⟨0,0,0,0⟩
   rw [<-b] at hn
   refine ⟨⟨V1,hj⟩,trivial,fun he=> ⟨⟨u,V1⟩,QI _,V4,V4,(_,i+1,j+1),rfl,hn.1 (by simpa using he),V3⟩,fun he=> ⟨V4,(L,i,j+1),rfl,hn.2 (by simpa using he),V3⟩⟩
  .refine ⟨⟨u,V1⟩,QI _,⟨u,by simp only [Qa,Qg,X5];omega⟩,?_⟩
   rw [D.fin V1]
   simp only [Zfd,Zae,Zah]
   exact V2
theorem ZzA:Contract Tryz.prog cfg 191 Z6Q:=by
 refine ZuF Zoj ZsL ?_
 intro l f _ hp
 simp only [Zap] at hp
 refine ZBf l f _ ?_
 (simp only [iB,vcT,vcS])
 refine ⟨hp,fun h=> ?_,fun h=> ?_⟩
 .have e:l.filter (fun k=> !decide (Edit.kind (KidOf.e k)=0))=l:=by
   rcases Z2w (fun k:Kid=> decide (Edit.kind (KidOf.e k)=0)) l 0 with ⟨_,h2⟩ | ⟨h1,_⟩
   .simp_all
   .omega
  simp only [Zfc,Zad,Zag,e]
  exact V2
 .have D:=DInv.one (f:=fun k:Kid=> decide (Edit.kind (KidOf.e k)=0)) (l:=l) rfl h
  have:=D.jl;have:=D.i0
  refine ⟨V4,?_⟩
  refine Zf (ι:=List Kid × Int × Int) (fun s=> Z2y l f s.2.1 s.2.2 s.1) (fun s=> DInv (fun k:Kid=> !decide (Edit.kind (KidOf.e k)=0)) l s.1 s.2.1 s.2.2) (fun s=> ((l.length:Int) - s.2.2).toNat) (l,_,_) rfl D ?_
  rintro ⟨L,i,j⟩ D
  dsimp only at D
  have hl:=D.len;have u:=D.i0;have h1:=D.ij;have h2:=D.jl
  refine ZoO l f _ _ _ _ _ ?_
  intro y1 b y2 ab
  subst ab
  (simp only [iB,vcT,vcS])
  refine ⟨fun hj=> ?_,fun hj=> ?_⟩
  .have hn:=D.next V1 ⟨0,Edit.nil⟩
   rw [<-b] at hn
   refine ⟨⟨V1,hj⟩,trivial,fun he=> ⟨⟨u,V1⟩,QI _,V4,V4,(_,i+1,j+1),rfl,hn.1 (by simpa using he),V3⟩,fun he=> ⟨V4,(L,i,j+1),rfl,hn.2 (by simpa using he),V3⟩⟩
  .refine ⟨⟨u,V1⟩,QI _,⟨u,by simp only [Qa,Qg,X5];omega⟩,?_⟩
   rw [D.fin V1]
   simp only [Zfc,Zad,Zag]
   exact V2
theorem Zy2{a b n m:Nat}(h1:a<=n)(h2:b<=m)(hn:n<=10000000000)(hm:m<=10000000000):InR ((a:Int)+(b:Int)):=V4
theorem ZC5{a b:Nat}(h:(a:Int)+(b:Int)=0):a+b=0:=V1
theorem ZC4{a b:Nat}(h:¬(a:Int)+(b:Int)=0):¬a+b=0:=V1
set_option maxHeartbeats 2000000 in
theorem ZzL:Contract Tryz.prog cfg 142 Za3:=by
 refine ZuX ZzB ZzA ?_
 intro ek eo s u en aa b ew ec li ab _ hp
 simp only [ZbR] at hp
 refine ZBz _ _ _ _ _ _ _ _ _ _ _ _ ?_
 (simp only [iB,vcT,vcS])
 refine ⟨by show ew.length<=_;omega,by show ec.length<=_;omega,Zy2 (XP _ _) (XP _ _) hp.1 hp.2,fun h=> ?_,fun h=> ?_⟩
 .simp only [Zfh,Zaf,Zaj]
  rw [show Z3L (Edit.mk ek (Tree.mk eo s u) (Tree.mk en aa b) ew ec li ab)=Edit.nil from if_pos (show (ew.filter fun w=> !decide (WEdit.mask w=0)).length+(ec.filter fun k=> !decide (Edit.kind (KidOf.e k)=0)).length=0 from ZC5 h)]
  exact V2
 .simp only [Zfh,Zaf,Zaj]
  rw [show Z3L (Edit.mk ek (Tree.mk eo s u) (Tree.mk en aa b) ew ec li ab)=Edit.mk ek (Tree.mk eo s u) (Tree.mk en aa b) (ew.filter fun w=> !decide (WEdit.mask w=0)) (ec.filter fun k=> !decide (Edit.kind (KidOf.e k)=0)) li ab from if_neg (show ¬(ew.filter fun w=> !decide (WEdit.mask w=0)).length+(ec.filter fun k=> !decide (Edit.kind (KidOf.e k)=0)).length=0 from ZC4 h)]
  exact V2
theorem ZzI:Contract Tryz.prog cfg 146 Za0:=by
 refine ZuU Zzv ?_
 intro list l _ b
 simp only [ZbQ] at b
 refine ZBv _ _ _ ⟨b,fun h=> ?_,fun h=> ?_⟩
 .simp only [QG] at h
  simp only [Zfg,Z1j]
  rw [if_neg (by rw [h];decide)]
  exact V2
 .simp only [XY] at h
  simp only [Zfg,Z1j]
  rw [if_pos h]
  exact V2
theorem ZzW:Contract Tryz.prog cfg 103 Za9:=by
 refine Zva c25 Z9U ?_
 intro mc ma e o n _ hp
 simp only [Z8l] at hp
 obtain ⟨he,ho,hn⟩:=hp
 refine ZBT _ _ _ _ _ _ ?_
 intro y1 h1 y2 b y3 h3 u h4
 subst h1 b h3
 (simp only [iB,vcT,vcS])
 have s:doB y1 y3=(u,(doE false y1 y3).isSome):=by rw [h4];try rfl
 refine ⟨⟨he,ho⟩,fun h=> ?_,fun h=> ⟨⟨?_,by grind⟩,fun b=> ?_,fun b=> ?_⟩⟩
 .simp only [ZbC,Z79,JM,s,h,XF,Xo,Qn,X7]
  exact V2
 .show Zk u<=_
  rw [h4]
  exact Zju he.2.2 ho.1
 .simp only [ZbC,Z79,JM,s,h,b,QS,Xl,Xo,Qn,X7]
  exact V2
 .simp only [ZbC,Z79,JM,s,h,b,QS,Xl,Qn]
  exact V2
theorem Z7B(l:List Tree):(Z4g l).length<=1:=by unfold Z4g;split <;> simp
theorem ZzJ:Contract Tryz.prog cfg 144 Za1:=by
 refine ZuV Zgu Zzz Zzy ?_
 intro u sx sy h s mc ma _ hp
 simp only [ZfN] at hp
 obtain ⟨⟨h1,h2⟩,h3,h4⟩:=hp
 have k1:=Z4Z h.length
 have k2:=Z4Z s.length
 have k3:=Z7B h
 have k4:=Z7B s
 refine ZBx u _ _ _ _ _ _ _ ?_
 (simp only [iB,vcT,vcS])
 refine ⟨fun hb=> ⟨⟨by grind,by grind⟩,fun he=> ?_,fun he=> ?_⟩,fun hb=> ?_⟩
 .have e:Jp h s=⟨JK s.length,JK h.length,true,false⟩:=by
   rw [Jp,if_pos ⟨fun e=> by grind,fun e=> by grind⟩,Z8N,he];try rfl
  refine ⟨trivial,V1,trivial,V1,?_⟩
  simp only [Z75,e,X7]
  exact V2
 .have e:Jp h s=⟨JK s.length,JK h.length,false,false⟩:=by
   rw [Jp,if_pos ⟨fun e=> by grind,fun e=> by grind⟩,Z8N,he];try rfl
  refine ⟨trivial,V1,trivial,V1,?_⟩
  simp only [Z75,e,Qn]
  exact V2
 .have e:Jp h s=⟨Z4g h++JK s.length,JK h.length++Z4g s,false,false⟩:=by
   rw [Jp,if_neg]
   rintro ⟨a,b⟩
   have:=XA.2 a
   have:=XA.2 b
   omega
  refine ⟨trivial,V1,trivial,by grind,trivial,V1,trivial,by grind,?_⟩
  simp only [Z75,e,Qn,<-Ql]
  exact V2
theorem Zlo(m:Int):0<=ZnL m/\ZnL m < 256:=by
 unfold ZnL
 have h:=(BitVec.ofInt (IntKind.bits .u8) 255 ^^^ BitVec.ofInt (IntKind.bits .u8) m).isLt
 have e:(2:Nat) ^ IntKind.bits .u8=256:=rfl
 rw [ZeA V1 V1]
 omega
theorem b66:ZD4:=by
 intro N mc ma p q _ hp hN
 obtain ⟨op,u⟩:=hp
 dsimp only at op u
 have ax:8*(Z8 p+Z8 q)+1 < N+1:=hN
 obtain ⟨dp,rp⟩:=op.2.2
 obtain ⟨dq,rq⟩:=u.2.2
 have b:=ZrU rp rq
 unfold Y9 at b
 have lp:=Ze9 p
 have lq:=Ze9 q
 have gp:=Yg op.2.1
 have gq:=Yg u.2.1
 have cp:=Z4q p;have cq:=Z4q q;have av:=op.1;have ao:=u.1
 have fin:∀ {L:Lft} {s:LSt U},lbE p q=L->ZK cfg Tryz.f66.ntmps Tryz.f66.results.toList (.tup [(true,enc .edit L.x),(true,enc .edit L.y)]) [[.bool (mc || L.c),.bool (ma || L.a)]] .ret s->
   ZK cfg Tryz.f66.ntmps Tryz.f66.results.toList (Zhk ((mc,ma,()),p,q,())) (Zbs ((mc,ma,()),p,q,())) .ret s:=by
  intro L s h hs
  subst h
  exact hs
 have wh:∀ {e:Edit} {o n:Tree},Yr e->Zk o<=10000000000->rng o->Zk n<=10000000000->Z8l ((mc,ma,()),e,o,n,()):=by
  intro e o n he ho hr hn
  have:=Z09 he
  have:=he.1
  exact ⟨⟨V3,he.2⟩,⟨V3,hr⟩,V3⟩
 refine ZDk N mc ma p q _ ?_
 intro y1 h1 y2 h2 y3 h3 y4 h4 y5 h5 y6 h6
 replace h1:=h1.symm;replace h2:=h2.symm;replace h3:=h3.symm;replace h4:=h4.symm;replace h5:=h5.symm;replace h6:=h6.symm
 subst h1 h2 h3 h4 h5 h6
 (simp only [iB,vcT,vcS])
 refine ⟨fun h0=> ?_,fun h0=> ?_⟩
 .exact fin (by rw [b,if_pos h0]) (by simp only [Qn];(repeat' (first | exact trivial | exact rfl | apply And.intro)))
 rw [if_neg (by rintro (h | h);exact h0.1 h;exact h0.2 h)] at b
 refine ⟨fun p1=> ?_,fun p1=> ?_⟩
 .rw [if_pos p1] at b
  exact ⟨wh u V1 gp.1 V1,trivial,fin b V2⟩
 rw [if_neg p1] at b
 refine ⟨fun q1=> ?_,fun q1=> ?_⟩
 .rw [if_pos q1] at b
  exact ⟨wh op V1 gq.1 V1,trivial,fin b V2⟩
 rw [if_neg q1] at b
 refine ⟨fun hd=> ?_,fun hd=> ?_⟩
 .rw [V0] at b
  exact ⟨trivial,fin b (by simp only [Qn,X7];(repeat' (first | exact trivial | exact rfl | apply And.intro)))⟩
 rw [Y7] at b
 refine ⟨fun p2=> ?_,fun p2=> ?_⟩
 .rw [if_pos p2] at b
  exact ⟨⟨op,u,V3,V3⟩,by show 8*(Z8 p+Z8 q) < N;omega,fin b V2⟩
 .rw [if_neg p2] at b
  have kp:=(Zr rp).kind
  exact ⟨⟨op,u,V3,V3⟩,by show 8*(Z8 p+Z8 q) < N;omega,fin b V2⟩
theorem Zic(m h:List Tree):(Jp m h).x.length<=2/\(Jp m h).y.length<=2:=by
 unfold Jp
 have:=Z4Z m.length;have:=Z4Z h.length;have:=Z7B m;have:=Z7B h
 grind
theorem Zjl(f:Edit->Edit->Lft)(p q:Op):(ZC f p q).x.length<=1/\(ZC f p q).y.length<=1:=by
 unfold ZC
 grind
structure LInv (f:Edit->Edit->Lft) (mc ma:Bool) (ps:List Piece) (i:Int) (c a:Bool) (m h:List Tree) (x y:List Op):Prop where
 i0:0<=i
 il:i<=ps.length
 ec:(mc || (Z0w f ps [] []).c)=(c || (Z0w f (ps.drop i.toNat) m h).c)
 ea:(ma || (Z0w f ps [] []).a)=(a || (Z0w f (ps.drop i.toNat) m h).a)
 ex:(Z0w f ps [] []).x=x++(Z0w f (ps.drop i.toNat) m h).x
 ey:(Z0w f ps [] []).y=y++(Z0w f (ps.drop i.toNat) m h).y
 lx:(x.length:Int)<=3*i
 ly:(y.length:Int)<=3*i
 km:((Z9 m:Nat):Int)+Yp φC (Z5A (ps.drop i.toNat))<=Yp φC (Z5A ps)
 kh:((Z9 h:Nat):Int)+Yp φC (Z5z (ps.drop i.toNat))<=Yp φC (Z5z ps)
theorem cnn(o:Op):((Z9 o.l:Nat):Int)<=φC o:=by unfold φC;have:=Zsu o.e;omega
theorem ZeH:∀ l:List Op,0<=Yp φC l
 | []=> Xb _
 | o ::r=> by have:=ZeH r;have:=cnn o;simp only [Yp];omega
theorem LInv.step{f:Edit->Edit->Lft}{mc ma:Bool}{ps:List Piece}{i:Int}{c a:Bool}{m h:List Tree}{x y:List Op}(H:LInv f mc ma ps i c a m h x y)(hi:i < ps.length)(z:Piece)(X:Piece)(hX:X=ps.getD i.toNat z):
  (X.of=1->LInv f mc ma ps (i+1) c a (m++X.p.l) h x y)/\(¬X.of=1->X.of=2->LInv f mc ma ps (i+1) c a m (h++X.q.l) x y)/\
  (¬X.of=1->¬X.of=2->LInv f mc ma ps (i+1) ((c || (Jp m h).c) || (ZC f X.p X.q).c) (a || (ZC f X.p X.q).a) [] [] ((x++(Jp m h).x)++(ZC f X.p X.q).x) ((y++(Jp m h).y)++(ZC f X.p X.q).y)):=by
 have b:=Jd H.i0 hi z
 rw [<-hX] at b
 have h0:=H.i0
 obtain ⟨_,_,ec,ea,ex,ey,lx,ly,km,kh⟩:=H
 rw [b] at ec ea ex ey km kh
 simp only [Z0w] at ec ea ex ey
 simp only [Z5A,Z5z] at km kh
 have np:=cnn X.p;have nq:=cnn X.q
 refine ⟨fun e=> ?_,fun e1 e2=> ?_,fun e1 e2=> ?_⟩
 .rw [if_pos e] at ec ea ex ey
  rw [Y7,Xw,Yp] at km
  rw [if_pos e,QL] at kh
  exact ⟨V1,V1,ec,ea,ex,ey,V1,V1,by rw [Yf];omega,kh⟩
 .rw [if_neg e1,if_pos e2] at ec ea ex ey
  rw [if_pos e2,QL] at km
  rw [if_neg e1,Xw,Yp] at kh
  exact ⟨V1,V1,ec,ea,ex,ey,V1,V1,km,by rw [Yf];omega⟩
 .rw [if_neg e1,if_neg e2] at ec ea ex ey
  rw [if_neg e2,Xw,Yp] at km
  rw [if_neg e1,Xw,Yp] at kh
  simp only [PL.app] at ec ea ex ey
  obtain ⟨g1,g2⟩:=Zic m h
  obtain ⟨u,g4⟩:=Zjl f X.p X.q
  have s:(Jp m h).a=false:=by unfold Jp;split <;> rfl
  rw [s,XL] at ea
  refine ⟨V1,V1,?_,?_,?_,?_,?_,?_,?_,?_⟩
  .grind
  .grind
  .grind
  .grind
  .grind
  .grind
  .simp only [Z9];omega
  .simp only [Z9];omega
theorem ZnC{p q:List Op}(hp:ZtV p)(hq:ZtV q){x:Piece}(h:POk2 p q x):(x.of≠2->ZeN x.p)/\(x.of≠1->ZeN x.q):=by
 refine ⟨fun e=> ?_,fun e=> ?_⟩
 .obtain ⟨a,b⟩:=h.pp e
  exact ⟨b,X3 (Zaq a).1 hp.1,ZhB a b hp.2.1,Zc2 a hp.2.2⟩
 .obtain ⟨a,b⟩:=h.qq e
  exact ⟨b,X3 (Zaq a).1 hq.1,ZhB a b hq.2.1,Zc2 a hq.2.2⟩
theorem ZA7:Zxv:=by
 intro N mc ma p q _ hp hN
 obtain ⟨op,oq,ar,al⟩:=hp
 dsimp only at op oq ar al
 have bc:8*(Z8 p+Z8 q) < N+1:=hN
 have ae:=Zl2 op
 have af:=Zl2 oq
 have kp:=ZwS ae
 have kq:=ZwS af
 have lp:=Ze9 p
 have lq:=Ze9 q
 obtain ⟨i1,_⟩:=ZdR _ p.ops q.ops [] (Qb _) kp.1 kq.1
 have fin:∀ {L:Lft} {s:LSt U},Z4a lbE p q=L->ZK cfg Tryz.f106.ntmps Tryz.f106.results.toList (.tup [(true,enc .edit L.x),(true,enc .edit L.y)]) [[.bool (mc || L.c),.bool (ma || L.a)]] .ret s->
   ZK cfg Tryz.f106.ntmps Tryz.f106.results.toList (ZbA ((mc,ma,()),p,q,())) (Z77 ((mc,ma,()),p,q,())) .ret s:=by
  intro L s h hs
  subst h
  exact hs
 refine ZBQ N mc ma p q _ ?_
 (simp only [iB,vcT,vcS])
 refine ⟨⟨kp,kq⟩,fun hb=> ⟨trivial,fin (by rw [Z4a,if_neg (by rw [hb];decide)]) (by simp only [Qn,X7];(repeat' (first | exact trivial | exact rfl | apply And.intro)))⟩,fun hb=> ?_⟩
 obtain ⟨ps,e,ak,_,_⟩:=i1 hb
 obtain ⟨be,e1,sp,sq,av⟩:=Zqk Zxj Zxj 2 _ p.ops q.ops [] (Qb _) kp.1 kq.1 hb
 rw [e,QL,QL] at e1
 subst e1
 rw [QL] at e
 have hL:Z4a lbE p q=⟨Z1j p.list (Z0w lbE ps [] []).x,Z1j p.list (Z0w lbE ps [] []).y,(Z0w lbE ps [] []).c,(Z0w lbE ps [] []).a⟩:=by rw [Z4a,if_pos hb,e]
 have c1:=ZiO p.ops;have c2:=ZiO q.ops;have c3:=ae.1;have c4:=af.1
 refine Zf (ι:=Int × Bool × Bool × List Tree × List Tree × List Op × List Op) (fun s=> Z1c mc ma p q s.1 s.2.1 s.2.2.1 s.2.2.2.1 s.2.2.2.2.1 s.2.2.2.2.2.1 s.2.2.2.2.2.2)
  (fun s=> LInv lbE mc ma ps s.1 s.2.1 s.2.2.1 s.2.2.2.1 s.2.2.2.2.1 s.2.2.2.2.2.1 s.2.2.2.2.2.2) (fun s=> ((ps.length:Int) - s.1).toNat) (0,mc,ma,[],[],[],[]) rfl
  ⟨by simp,by simp,by simp,by simp,by simp,by simp,by simp,by simp,by simp [Z9],by simp [Z9]⟩ ?_
 rintro ⟨i,c,a,m,h,x,y⟩ H
 dsimp only at H
 refine Zp9 N mc ma p q _ _ _ _ _ _ _ _ _ ?_
 intro y1 h1 y2 h2 y3 h3 y4 h4 b h5 y6 h6 y7 h7
 rw [e] at h5 ⊢
 replace h6:=h6.symm;replace h7:=h7.symm
 have i0:=H.i0;have il:=H.il;have lx:=H.lx;have ly:=H.ly;have km:=H.km;have kh:=H.kh
 have n1:=ZeH (Z5A (ps.drop i.toNat));have n2:=ZeH (Z5z (ps.drop i.toNat))
 obtain ⟨g1,g2⟩:=Zic m h
 (simp only [iB,vcT,vcS])
 refine ⟨fun hi=> ?_,fun hi=> ?_⟩
 .obtain ⟨s1,s2,s3⟩:=H.step hi _ b h5
  have ah:b∈ps:=by rw [h5];exact Zq V1 _
  have u:=ak b ah
  obtain ⟨o1,o2⟩:=ZnC ae af u
  have a1:(Z9 b.p.l:Int)<=9000000000:=by
   rcases u.of with h | h | h
   .have:=Z2q b.p;have:=(o1 V1).2.1;omega
   .have:=Z2q b.p;have:=(o1 V1).2.1;omega
   .rw [u.pn h];simp [Op.nil,Z9]
  have a7:(Z9 b.q.l:Int)<=9000000000:=by
   rcases u.of with h | h | h
   .have:=Z2q b.q;have:=(o2 V1).2.1;omega
   .rw [u.qn h];simp [Op.nil,Z9]
   .have:=Z2q b.q;have:=(o2 V1).2.1;omega
  have q1:=Zt m;have q2:=Zt h;have q3:=Zt b.p.l;have q4:=Zt b.q.l
  refine ⟨⟨i0,hi⟩,fun f1=> ⟨V1,V4,(i+1,c,a,m++b.p.l,h,x,y),rfl,s1 f1,V3⟩,fun f1=> ⟨fun f2=> ⟨V1,V4,(i+1,c,a,m,h++b.q.l,x,y),rfl,s2 f1 f2,V3⟩,fun f2=> ?_⟩⟩
  have f0:b.of=0:=by rcases u.of with h | h | h <;> omega
  obtain ⟨b1,b2,b3⟩:=u.both f0
  have mp:=(Zaq (u.pp f2).1).2
  have mq:=(Zaq (u.qq f1).1).2
  rw [<-h6,<-h7]
  refine ⟨⟨⟨V3,V3⟩,V3,V3⟩,⟨⟨o1 f2,o2 f1,b3,b1,b2⟩,by simp only [List.length_append];omega,by simp only [List.length_append];omega⟩,by show 8*(Zx b.p+Zx b.q)+2 < N;omega,V4,
   (i+1,_,_,[],[],_,_),rfl,s3 f1 f2,V3⟩
 .have hd:ps.drop i.toNat=[]:=Qd V1
  have ec:=H.ec;have ea:=H.ea;have ex:=H.ex;have ey:=H.ey
  rw [hd] at ec ea ex ey
  simp only [Z0w] at ec ea ex ey
  have ga:(Jp m h).a=false:=by unfold Jp;split <;> rfl
  rw [ga,Qn] at ea
  refine ⟨⟨⟨V3,V3⟩,V3,V3⟩,by show (x++_).length<=_;rw [List.length_append];omega,by show (y++_).length<=_;rw [List.length_append];omega,fin hL ?_⟩
  dsimp only
  rw [ec,ea,ex,ey]
  subst h1 h2 h3 h4
  exact V2
theorem ZA2:Zxp:=by
 intro N ae sx sy si sh p q mc ma _ hp hN
 simp only [Z8i] at hp
 obtain ⟨⟨⟨op,mp,gp,rp⟩,⟨oq,mq,gq,rq⟩,hl,p2,q2⟩,lx,ly⟩:=hp
 have a2:8*(Zx p+Zx q)+2 < N+1:=hN
 have ep:=Z1W p
 have eq:=Z1W q
 have u:=Z1P gp
 have aa:=Z1P gq
 have ap:=Z2q p
 have aq:=Z2q q
 have kp:=JT op
 have kq:=JT oq
 have fin:∀ {L:PL} {s:LSt U},ZC lbE p q=L->ZK cfg Tryz.f145.ntmps Tryz.f145.results.toList (.tup []) [[.xp 1,.slice (U:=U) .op (sx++L.x) (.own (.x 0 1)),.slice (U:=U) .op (sy++L.y) (.own (.x 0 2)),.slice (U:=U) .tree si (.own (.x 0 3)),.slice (U:=U) .tree sh (.own (.x 0 4))],[.bool (mc || L.c),.bool (ma || L.a)]] .normal s->
   ZK cfg Tryz.f145.ntmps Tryz.f145.results.toList (Zby ((ae,sx,sy,si,sh,()),p,q,(mc,ma,()),())) (Z74 ((ae,sx,sy,si,sh,()),p,q,(mc,ma,()),())) .normal s:=by
  intro L s h hs
  subst h
  exact hs
 have hc:=ZC.eq_1 lbE p q
 refine ZBw N ae sx sy si sh p q mc ma _ ?_
 intro b h1 y2 h2 y3 h3 y4 h4 y5 h5 y6 h6 y7 h7 y8 h8 y9 h9 bi a5 be ax
 replace h3:=h3.symm;replace h4:=h4.symm
 subst h1 h2 h3 h4 h7 h8 h9 a5 ax
 simp only [Z0s]
 (simp only [iB,vcT,vcS])
 refine ⟨fun c1=> ?_,fun c1=> ?_⟩
 .rw [if_pos c1] at hc
  exact ⟨by grind,⟨V1,by grind⟩,V1,fin hc (by simp only [Qn,QM];(repeat' (first | exact trivial | exact rfl | apply And.intro)))⟩
 rw [Y7] at hc
 refine ⟨fun c2=> ?_,fun c2=> ?_⟩
 .rw [if_pos c2] at hc
  exact ⟨by grind,⟨V1,by grind⟩,V1,fin hc (by simp only [Qn,QM];(repeat' (first | exact trivial | exact rfl | apply And.intro)))⟩
 rw [Y7] at hc
 refine ⟨fun c3=> ?_,fun c3=> ?_⟩
 .rw [if_pos c3] at hc
  exact ⟨by grind,by grind,fin hc (by simp only [Qn];(repeat' (first | exact trivial | exact rfl | apply And.intro)))⟩
 rw [if_neg c3] at hc
 refine ⟨fun c4=> ?_,fun c4=> ?_⟩
 .rw [if_pos c4] at hc
  exact ⟨by grind,by grind,fin hc (by simp only [Qn];(repeat' (first | exact trivial | exact rfl | apply And.intro)))⟩
 rw [if_neg c4] at hc
 refine ⟨fun c5=> ⟨⟨by grind,by grind⟩,fun he=> ?_,fun he=> ?_⟩,fun c5=> ?_⟩
 .rw [if_pos c5,Z8N,he] at hc
  exact fin hc (by simp only [Xo,Qn,X7,QM];(repeat' (first | exact trivial | exact rfl | apply And.intro)))
 .rw [if_pos c5,Z8N,he] at hc
  exact fin hc (by simp only [Xl,Qn,QM];(repeat' (first | exact trivial | exact rfl | apply And.intro)))
 rw [Y7] at hc
 refine ⟨fun c6=> ?_,fun c6=> ?_⟩
 .rw [if_pos c6] at hc
  have l1:=Z2o op (.inl c6)
  have l2:=Z1S (o:=y2) (by unfold kOk at kq;omega)
  have ab:0 < b.l.length:=V1
  have m3:y5∈b.l:=by rw [h5];exact Zq ab _
  have az:=Jh m3
  have rk:Yr y2.e:=⟨V1,aa.2.2.2,rq (by unfold kOk at kq;omega)⟩
  have:=Z09 rk
  rw [show b.l.getD 0 Tree.nil=y5 from h5.symm] at hc
  exact ⟨⟨V1,V1⟩,⟨⟨by grind,rk.2⟩,by grind,YQ u.2.2.1 m3⟩,fin hc (by simp only [X7,QM];(repeat' (first | exact trivial | exact rfl | apply And.intro)))⟩
 rw [if_neg c6] at hc
 have ah:b.kind=3:=by unfold kOk at kp;omega
 refine ⟨fun c7=> ?_,fun c7=> ?_⟩
 .rw [if_pos c7] at hc
  have l1:=Z2o oq (.inl c7)
  have l2:=Z1S (o:=b) ah
  have ab:0 < y2.l.length:=V1
  have m3:y6∈y2.l:=by rw [h6];exact Zq ab _
  have az:=Jh m3
  have rk:Yr b.e:=⟨V1,u.2.2.2,rp ah⟩
  have:=Z09 rk
  rw [show y2.l.getD 0 Tree.nil=y6 from h6.symm] at hc
  exact ⟨⟨V1,V1⟩,⟨⟨by grind,rk.2⟩,by grind,YQ aa.2.2.1 m3⟩,fin hc (by simp only [X7,QM];(repeat' (first | exact trivial | exact rfl | apply And.intro)))⟩
 rw [if_neg c7] at hc
 have k1:Yr b.e:=⟨V1,u.2.2.2,rp ah⟩
 have k2:Yr y2.e:=⟨V1,aa.2.2.2,rq (by unfold kOk at kq;omega)⟩
 refine ⟨⟨k1,k2⟩,?_,trivial,by grind,trivial,by grind,fin hc V2⟩
 show 8*(Z8 b.e+Z8 y2.e)+1 < N
 rw [Y4,Y4] at a2
 omega
set_option maxHeartbeats 1000000 in
theorem ZA8:Zxw:=by
 intro N mc u p q _ hp hN
 obtain ⟨op,oq,a0,aw⟩:=hp
 dsimp only at op oq a0 aw
 have be:8*(Z8 p+Z8 q) < N+1:=hN
 have lp:=Ze9 p
 have lq:=Ze9 q
 have mp:=Z09 op
 have mq:=Z09 oq
 have wk:∀ {e:Edit},Yr e->∀ w∈e.words,wOk w:=by
  intro e h w hw
  obtain ⟨d,hr⟩:=h.2.2
  have a:=JH (Zr hr).words w hw
  exact ⟨(Yg h.2.1).2.2.1 w hw,a.2.2.2.1,a.2.2.2.2⟩
 have kk:∀ {e:Edit},Yr e->∀ k∈e.kids,Yr k.e/\Z8 k.e < Z8 e:=by
  intro e h k hk
  obtain ⟨d,hr⟩:=h.2.2
  have c:=ZcS hk
  have:=Z4q e
  have:=h.1
  exact ⟨⟨V1,(YT (Yg h.2.1).2.2.2.1 hk).2,_,(ZG (Zr hr).kids k hk).2⟩,YC hk⟩
 have bc:=YN p.kids;have a8:=YN q.kids
 have fin:∀ {L:Lft} {s:LSt U},Z3x lbE p q=L->ZK cfg Tryz.f105.ntmps Tryz.f105.results.toList (.tup [(true,enc .edit L.x),(true,enc .edit L.y)]) [[.bool (mc || L.c),.bool (u || L.a)]] .ret s->
   ZK cfg Tryz.f105.ntmps Tryz.f105.results.toList (ZbB ((mc,u,()),p,q,())) (Z78 ((mc,u,()),p,q,())) .ret s:=by
  intro L s h hs
  subst h
  exact hs
 refine ZBR N mc u p q _ ?_
 refine ⟨by show p.words.length<=_;omega,by show q.words.length<=_;omega,?_⟩
 let WI:=SInv WEdit.at_ Z4e Z4e (fun a b=> !Yv a b && Z05 a b) Yv mc u p.words q.words
 refine Zf (ι:=Int × Bool × Bool × List WEdit × List WEdit) (fun s=> Z5j mc u p q s.1 s.2.1 s.2.2.1 s.2.2.2.1 s.2.2.2.2)
  (fun s=> (0<=s.1/\s.1<=p.words.length)/\WI s.1.toNat 0 s.2.1 s.2.2.1 s.2.2.2.1 s.2.2.2.2) (fun s=> ((p.words.length:Int) - s.1).toNat) (0,mc,u,p.words,q.words) rfl ⟨⟨V1,V1⟩,SInv.init⟩ ?_
 rintro ⟨i,c,a,X,Y⟩ ⟨⟨i0,il⟩,H⟩
 dsimp only at i0 il H
 refine Zpd N mc u p q _ _ _ _ _ _ _ ?_
 dsimp only
 refine ⟨fun hi=> ?_,fun hi=> ?_⟩
 .replace hi:=of_decide_eq_true hi
  refine ⟨⟨i0,hi⟩,?_⟩
  refine Zf (ι:=Int × Bool × Bool × List WEdit × List WEdit) (fun s=> Z5i mc u p q i s.1 s.2.1 s.2.2.1 s.2.2.2.1 s.2.2.2.2)
   (fun s=> (0<=s.1/\s.1<=q.words.length)/\WI i.toNat s.1.toNat s.2.1 s.2.2.1 s.2.2.2.1 s.2.2.2.2) (fun s=> ((q.words.length:Int) - s.1).toNat) (0,c,a,X,Y) rfl ⟨⟨V1,V1⟩,H⟩ ?_
  clear H
  clear c a X Y
  rintro ⟨j,c,a,X,Y⟩ ⟨⟨j0,jl⟩,H⟩
  dsimp only at j0 jl H
  have lx:=H.lx
  have ly:=H.ly
  refine Zpc N mc u p q _ _ _ _ _ _ _ _ _ ?_
  intro y1 h1 y2 h2 y3 h3 y4 h4 y5 h5 y6 h6
  replace h3:=h3.symm;replace h4:=h4.symm
  subst h3 h4
  (simp only [iB,vcT,vcS])
  try dsimp only at*
  refine ⟨fun hj=> ⟨⟨j0,hj⟩,fun he=> ?_,fun he=> ?_⟩,fun hj=> ?_⟩
  .have st:=(H.step V1 V1 ⟨0,0,0,0⟩).1 (by grind)
   rw [<-h1,<-h2] at st
   have m1:y1∈p.words:=by rw [h1];exact Zq V1 _
   have m2:y2∈q.words:=by rw [h2];exact Zq V1 _
   subst h5 h6
   refine ⟨⟨wk op _ m1,wk oq _ m2⟩,⟨wk op _ m1,Zlo _⟩,⟨i0,V1⟩,QI _,⟨wk oq _ m2,Zlo _⟩,⟨j0,V1⟩,QI _,?_⟩
   refine ZgW N mc u p q _ _ _ _ _ _ _ _ _ _ ⟨V4,(j+1,_,_,_,_),rfl,⟨⟨V3,V3⟩,?_⟩,V3⟩
   rw [show (j+1).toNat=j.toNat+1 by omega]
   exact st
  .have st:=(H.step V1 V1 ⟨0,0,0,0⟩).2 (by grind)
   refine ZgW N mc u p q _ _ _ _ _ _ _ _ _ _ ⟨V4,(j+1,_,_,_,_),rfl,⟨⟨V3,V3⟩,?_⟩,V3⟩
   rw [show (j+1).toNat=j.toNat+1 by omega]
   exact st
  .refine ⟨V4,(i+1,_,_,_,_),rfl,⟨⟨V3,V3⟩,?_⟩,V3⟩
   rw [show (i+1).toNat=i.toNat+1 by omega]
   rw [show j.toNat=q.words.length by omega] at H
   exact H.next V1
 replace hi:=of_decide_eq_false hi
 rw [show i.toNat=p.words.length by omega] at H
 obtain ⟨ec,ea,eX,eY⟩:=H.fin
 refine ⟨by show p.kids.length<=_;omega,by show q.kids.length<=_;omega,?_⟩
 let KI:=SInv KidOf.at_ (fun a b:Kid=> ⟨a.at_,(lbE a.e b.e).x⟩) (fun b a:Kid=> ⟨b.at_,(lbE a.e b.e).y⟩) (fun a b=> (lbE a.e b.e).c) (fun a b=> (lbE a.e b.e).a) c a p.kids q.kids
 refine Zf (ι:=Int × Bool × Bool × List Kid × List Kid) (fun s=> Z5h mc u p q X Y s.1 s.2.1 s.2.2.1 s.2.2.2.1 s.2.2.2.2)
  (fun s=> (0<=s.1/\s.1<=p.kids.length)/\KI s.1.toNat 0 s.2.1 s.2.2.1 s.2.2.2.1 s.2.2.2.2) (fun s=> ((p.kids.length:Int) - s.1).toNat) (0,c,a,p.kids,q.kids) rfl ⟨⟨V1,V1⟩,SInv.init⟩ ?_
 clear H hi il i0
 rintro ⟨i,c1,a1,X1,Y1⟩ ⟨⟨i0,il⟩,H⟩
 dsimp only at i0 il H
 refine Zpb N mc u p q _ _ _ _ _ _ _ _ _ ?_
 intro z1 af z2 ah
 dsimp only at af ah ⊢
 refine ⟨fun hi=> ?_,fun hi=> ?_⟩
 .replace hi:=of_decide_eq_true hi
  refine ⟨⟨i0,hi⟩,?_⟩
  refine Zf (ι:=Int × Bool × Bool × List Kid × List Kid) (fun s=> Z5g mc u p q X Y i s.1 s.2.1 s.2.2.1 s.2.2.2.1 s.2.2.2.2)
   (fun s=> (0<=s.1/\s.1<=q.kids.length)/\KI i.toNat s.1.toNat s.2.1 s.2.2.1 s.2.2.2.1 s.2.2.2.2) (fun s=> ((q.kids.length:Int) - s.1).toNat) (0,c1,a1,X1,Y1) rfl ⟨⟨V1,V1⟩,H⟩ ?_
  clear H af ah
  clear c1 a1 X1 Y1
  rintro ⟨j,c1,a1,X1,Y1⟩ ⟨⟨j0,jl⟩,H⟩
  dsimp only at j0 jl H
  have lx:=H.lx
  have ly:=H.ly
  refine Zpa N mc u p q _ _ _ _ _ _ _ _ _ _ _ ?_
  intro y1 h1 y2 h2 y3 h3 y4 h4 y5 h5 y6 h6
  (simp only [iB,vcT,vcS])
  try dsimp only at*
  refine ⟨fun hj=> ⟨⟨j0,hj⟩,fun he=> ?_,fun he=> ?_⟩,fun hj=> ?_⟩
  .have st:=(H.step V1 V1 ⟨0,Edit.nil⟩).1 (by grind)
   have e1:=H.at_x (fun a b=> rfl) V1 ⟨0,Edit.nil⟩
   have e2:=H.at_y (fun a b=> rfl) V1 ⟨0,Edit.nil⟩
   rw [<-h1] at e1
   rw [<-h2] at e2
   rw [<-h1,<-h2] at st
   have m1:=kk op y1 (by grind)
   have m2:=kk oq y2 (by grind)
   subst h3 h4 h5 h6
   refine ⟨⟨m1.1,m2.1⟩,by show 8*(Z8 y1.e+Z8 y2.e)+1 < N;omega,⟨i0,V1⟩,QI _,⟨j0,V1⟩,QI _,?_⟩
   refine ZgV N mc u p q _ _ _ _ _ _ _ _ _ _ _ ⟨V4,(j+1,_,_,_,_),rfl,⟨⟨V3,V3⟩,?_⟩,V3⟩
   rw [show (j+1).toNat=j.toNat+1 by omega]
   grind
  .have st:=(H.step V1 V1 ⟨0,Edit.nil⟩).2 (by grind)
   refine ZgV N mc u p q _ _ _ _ _ _ _ _ _ _ _ ⟨V4,(j+1,_,_,_,_),rfl,⟨⟨V3,V3⟩,?_⟩,V3⟩
   rw [show (j+1).toNat=j.toNat+1 by omega]
   exact st
  .refine ⟨V4,(i+1,_,_,_,_),rfl,⟨⟨V3,V3⟩,?_⟩,V3⟩
   rw [show (i+1).toNat=i.toNat+1 by omega]
   rw [show j.toNat=q.kids.length by omega] at H
   exact H.next V1
 replace hi:=of_decide_eq_false hi
 rw [show i.toNat=p.kids.length by omega] at H
 have lx:=H.lx;have ly:=H.ly
 obtain ⟨av,ax,a2,a5⟩:=H.fin
 have lX:X.length=p.words.length:=by rw [eX,Xa]
 have lY:Y.length=q.words.length:=by rw [eY,Xa]
 refine ⟨⟨by grind,by grind⟩,⟨by grind,by grind⟩,fin rfl ?_⟩
 have e1:(Z3x lbE p q).x=Z3L z1:=by rw [af,eX,a2];try rfl
 have e2:(Z3x lbE p q).y=Z3L z2:=by rw [ah,eY,a5];try rfl
 have e3:(mc || (Z3x lbE p q).c)=c1:=by rw [av,ec,XK];try rfl
 have e4:(u || (Z3x lbE p q).a)=a1:=by rw [ax,ea,XK];try rfl
 rw [e1,e2,e3,e4]
 exact V2
theorem ZDG:Contract Tryz.prog cfg 66 Z87/\Contract Tryz.prog cfg 105 Zkz/\Contract Tryz.prog cfg 106 Zky/\Contract Tryz.prog cfg 145 Zks:=
 Zuh Z9U ZzW ZzV Zgu ZzP ZzO ZzN ZzM ZzL (ZzK ZsK) ZzJ ZzI Zzx Zzw b66 ZA8 ZA7 ZA2
theorem c66:Contract Tryz.prog cfg 66 Z87:=ZDG.1
noncomputable section
def Zt9:ArgL (Edit × Edit × Unit):=(.cons (aEl .edit) (.cons (aEl .edit) .nil))
def Zqf(a:Edit × Edit × Unit):Prop:=Zhq a.1 a.2.1
def ZkX(a:Edit × Edit × Unit):V U:= .tup [(true,(enc .edit ((lbN a.1 a.2.1).1))),(true,(enc .edit ((lbN a.1 a.2.1).2.1))),(false,[ci ((lbN a.1 a.2.1).2.2)])]
def Zbf:Fs U:=fs Zt9 (fun a=> [Zqf a]) ZkX
def Zsc:List (FuncId × Fs U):=[(67,Z1e),(66,Z87)]
def Zz9:Z6 U:=lvl [([2,3,4,5],[2,3,4,5]),([2,3,4,5,7],[2,3,4,5,11]),([4,5,7,8,9],[4,5,8,9,11]),([4,5,7,8,9,21],[4,5,8,9,11]),([4,5,6],[4,5]),([4,5,8,9,28],[4,5,8,9]),([4,5,6],[4,5]),([4,5,6],[4,5])]
abbrev A16(p:List Nat):=AW (Z1 Zsc) Tryz.f16 Zz9 p
theorem ZDy(p q:Edit)(Q:QT)(h:∀ aa,aa=p->∀ ae,ae=q->∀ s,s=(Zm aa)->∀ b,b=(Zm ae)->∀ u,u=((lbE s b).x)->∀ ab,ab=((lbE s b).y)->((Z0K (aa,()))/\(Z0K (ae,()))/\(ZbG ((false,false,()),s,b,()))/\(iB (false || (lbE s b).a) ((Q .ret (L2 [pL 4,pL 5,pI 6 14] [(.loc 4,zc0),(.loc 5,zc0)]))) ((iB (false || (lbE s b).c) ((Q .ret (L2 [pL 4,pL 5,pI 6 13] [(.loc 4,zc0),(.loc 5,zc0)]))) ((Z0K (u,()))/\(Z0K (ab,()))/\(Q .ret (L2 [pL 4,pL 5,pI 6 0] [(.loc 4,(enc .edit (Zm u))),(.loc 5,(enc .edit (Zm ab)))])))))))):
  A16 [] (L2 [(0,.agg (enc .edit p)),(1,.agg (enc .edit q))] []) Q:=
 Eq.mpr V6 (h _ (Z3 _) _ (Z3 _) _ (Z3 _) _ (Z3 _) _ (Z3 _) _ (Z3 _))
def ZAE(p q:Edit):Prop:=AW (Z1 Zsc) Tryz.f16 Zz9 [] (Zb (Zt9.can (p,q,())) []) (EQ Tryz.f16 (ZkX (p,q,())) [])
theorem ZyP(c67:CT 67 Z1e)(c66:CT 66 Z87)(hb:∀ (p:Edit) (q:Edit) (_:Unit),Zqf (p,q,())->ZAE p q):CT 16 Zbf:=
 Z0 (l:=[(67,Z1e),(66,Z87)]) Za rfl (⟨c67,c66,trivial⟩) Zz9 Tryz.func16 rfl rfl 2 (fun _=> rfl) V5 (fun ⟨p,q,_⟩=> hb p q ())
end
theorem Z2l{e:Edit}(h:Yr e):Z0K (e,()):=by
 have:=Z09 h
 exact ⟨by grind,h.2.2⟩
set_option maxHeartbeats 1000000 in
theorem c16:Contract Tryz.prog cfg 16 Zbf:=by
 refine ZyP Zk1.1 c66 ?_
 intro p q _ u
 have u:Zhq p q:=u
 obtain ⟨⟨h1,h2⟩,h3⟩:=Zl4 u
 have fin:∀ {X Y:Edit} {n:Int} {s:LSt U},lbN p q=(X,Y,n)->ZK cfg Tryz.f16.ntmps Tryz.f16.results.toList (.tup [(true,enc .edit X),(true,enc .edit Y),(false,[.int .i64 n])]) [] .ret s->ZK cfg Tryz.f16.ntmps Tryz.f16.results.toList (ZkX (p,q,())) [] .ret s:=by
  intro X Y n s h hs
  refine Zvq ?_ hs
  simp only [ZkX]
  rw [h]
  try rfl
 have eN:=lbN.eq_1 p q
 refine ZDy _ _ _ ?_
 intro y1 e1 y2 e2 y3 e3 y4 e4 y5 e5 y6 e6
 subst e1 e2
 rw [<-e3] at h1
 rw [<-e4] at h2
 rw [<-e3,<-e4] at h3 eN
 generalize hL:lbE y3 y4=L at h3 eN e5 e6 ⊢
 simp only [XL]
 refine ⟨Z2l u.1,Z2l u.2.1,⟨h1,h2⟩,fun b=> fin (by rw [eN,if_pos b]) V2,fun b=> ⟨fun hc=> fin (by rw [eN,if_neg (by rw [b];decide),if_pos hc]) V2,fun hc=> ⟨by rw [e5];exact Z2l (h3 b hc).1,by rw [e6];exact Z2l (h3 b hc).2,?_⟩⟩⟩
 exact fin (by rw [eN,if_neg (by rw [b];decide),if_neg (by rw [hc];decide),<-e5,<-e6]) V2
theorem ZrS{p q:Edit}(h:Zhq p q):Yr (lbN p q).1/\Yr (lbN p q).2.1:=by
 obtain ⟨_,s⟩:=Zl4 h
 unfold lbN
 split
 .exact ⟨Z2j,Z2j⟩
 .rename_i b
  split
  .exact ⟨Z2j,Z2j⟩
  .rename_i hc
   have h:=s (by simpa using b) (by simpa using hc)
   exact ⟨Z1m h.1,Z1m h.2⟩
noncomputable section
def Z5N(e:Edit)(t:Tree):Prop:=(Z8 e<=20000000000/\Yh e/\∃ d,Z4 e d=true)/\Zk t+ctE e<=20000000000/\rng t
end
noncomputable section
structure HubT where
 now:Tree
 log:List Edit
structure DeskT where
 now:Tree
 version:Int
 pending:Edit
def Y5(e:Edit)(t:Tree):Tree × Int:=
 match doE false e t with
 | none=> (Tree.nil,13)
 | some u=> if Zi (Z5 u) 64=true then (Z5 u,0) else (Tree.nil,3)
def Z0G:List Edit->Edit->List Edit->Edit × List Edit × Int
 | [],e,out=> (Zm e,out,0)
 | x ::r,e,out=> if (lbN e x).2.2=0 then Z0G r (lbN e x).1 (out++[(lbN e x).2.1]) else (Edit.nil,[],(lbN e x).2.2)
def ZcY:List Edit->Edit->Prop
 | [],e=> Yr e
 | x ::r,e=> Zhq e x/\((lbN e x).2.2=0->ZcY r (lbN e x).1)
def Z0F(v:Int)(e:Edit)(h:HubT):Edit × List Edit × Int:=Z0G (h.log.drop v.toNat) e []
def Z3m:List Edit->Tree->Tree × Int
 | [],t=> (t,0)
 | m ::r,t=> if (Y5 m t).2=0 then Z3m r (Y5 m t).1 else Y5 m t
def ZjW:List Edit->Tree->Prop
 | [],_=> True
 | m ::r,t=> Z5N m t/\((Y5 m t).2=0->ZjW r (Y5 m t).1)
def Z9a(v:Int)(e:Edit)(h:HubT):Bool:=decide (0<=v) && (decide (v<=h.log.length) && Z4 e 64)
def Jt(v:Int)(e:Edit)(h:HubT):HubT × Int × Int:=
 if Z9a v e h=true then
  if (Z0F v e h).2.2=0 then
   if (Y5 (Z0F v e h).1 h.now).2=0 then (⟨(Y5 (Z0F v e h).1 h.now).1,h.log++[(Z0F v e h).1]⟩,(h.log.length:Int)+1,0)
   else (h,0,(Y5 (Z0F v e h).1 h.now).2)
  else (h,0,(Z0F v e h).2.2)
 else (h,0,2)
def Zjf(v:Int)(e:Edit)(h:HubT):Prop:=
 (Z8 e<=18000000000/\Yh e)/\(Z9a v e h=true->ZcY (h.log.drop v.toNat) e/\((Z0F v e h).2.2=0->Z5N (Z0F v e h).1 h.now))/\h.log.length<=1000000000
def ZdN(v:Int)(h:HubT):Bool:=decide (0<=v) && decide (v<=h.log.length)
def Z0J(v:Int)(h:HubT):List Edit × Int:=if ZdN v h=true then (h.log.drop v.toNat,0) else ([],2)
def Z0B(e:Edit)(d:DeskT):DeskT × Int:=
 if Z4 e 64=true then
  if (Y5 e d.now).2=0 then
   if Z4 (Zm e) 64=true then (⟨(Y5 e d.now).1,d.version,Zm e⟩,0) else (d,3)
  else (d,(Y5 e d.now).2)
 else (d,2)
def Z02(d:DeskT)(h:HubT):(DeskT × HubT) × Int:=
 if ZdN d.version h=true then
  if (Z0F d.version d.pending h).2.2=0 then
   if (Z3m (Z0F d.version d.pending h).2.1 d.now).2=0 then
    if (Z0F d.version d.pending h).1.kind=0 then ((⟨(Z3m (Z0F d.version d.pending h).2.1 d.now).1,d.version+((h.log.drop d.version.toNat).length:Int),(Z0F d.version d.pending h).1⟩,h),0)
    else if (Jt d.version d.pending h).2.2=0 then ((⟨(Z3m (Z0F d.version d.pending h).2.1 d.now).1,(Jt d.version d.pending h).2.1,Edit.nil⟩,(Jt d.version d.pending h).1),0)
    else ((d,(Jt d.version d.pending h).1),(Jt d.version d.pending h).2.2)
   else ((d,h),(Z3m (Z0F d.version d.pending h).2.1 d.now).2)
  else ((d,h),(Z0F d.version d.pending h).2.2)
 else ((d,h),2)
def ZeF(d:DeskT)(h:HubT):Prop:=
 (ZdN d.version h=true->ZcY (h.log.drop d.version.toNat) d.pending/\((Z0F d.version d.pending h).2.2=0->ZjW (Z0F d.version d.pending h).2.1 d.now))/\Zjf d.version d.pending h
def Z3N(a o n:Int):Edit:= .mk 2 Tree.nil Tree.nil [⟨a,1,o,n⟩] [] 0 []
end
noncomputable section
def ZsV:ArgL (List Edit × Unit):=(.cons (aSl .edit) .nil)
def Zhv(a:List Edit × Unit):Prop:=(a.1).length<=10000000000
def ZkN(a:List Edit × Unit):V U:= .c (sU .edit a.1 (.own (.r 0 0)))
def Z3z:Fs U:=fs ZsV (fun a=> [Zhv a]) ZkN
abbrev A84(p:List Nat):=AW (Z1 ZjN) Tryz.f84 ZrC p
theorem ZDc(l:List Edit)(Q:QT)(h:(((l=[])->(Q .ret (L2 [(2,.c (.nils))] [])))/\(True->((([]:List Edit).length+l.length)*200<=140737488355328)/\(Q .ret (L2 [(2,.c (sU .edit (([]:List Edit)++l) (.own (.e 2 0))))] []))))):
  A84 [] (L2 [(0,.c (sU .edit l .unk))] []) Q:=
 Eq.mpr V6 h
def ZAi(l:List Edit):Prop:=AW (Z1 ZjN) Tryz.f84 ZrC [] (Zb (ZsV.can (l,())) []) (EQ Tryz.f84 (ZkN (l,())) [])
theorem Zyx(hb:∀ (l:List Edit) (_:Unit),Zhv (l,())->ZAi l):CT 84 Z3z:=
 Z0 (l:=[]) Za rfl trivial ZrC Tryz.func84 rfl rfl 1 (fun _=> rfl) V5 (fun ⟨l,_⟩=> hb l ())
end
structure St42 (s:Tree):Prop where
 r:Zi s 64=true
 g:rng s
 n:Z5 s=s
 m:Zk s<=10000000000
theorem Z2M{e:Edit}{s:Tree}(he:Yr e)(hs:St42 s):Z5N e s:=by
 have:=Z09 he
 have:=he.1
 have:=hs.m
 exact ⟨⟨V1,he.2⟩,V1,hs.g⟩
theorem c84:Contract Tryz.prog cfg 84 Z3z:=by
 refine Zyx ?_
 intro l _ b
 simp only [Zhv] at b
 refine ZDc _ _ ⟨fun h=> ?_,fun _=> ⟨by simp only [Qe];omega,?_⟩⟩
 .subst h
  simp only [ZkN]
  exact V2
 .simp only [ZkN,QL]
  exact V2
noncomputable section
def Zhx(a:Tree × Unit):Prop:=(Zk a.1<=20000000000/\rng a.1)/\Zi a.1 64=true/\Tree.kind a.1≠10
def Zpz(a:Tree × Unit):List (C U):=(enc .tree (Z5 a.1)++[sU .edit ([]:List Edit) .unk])
def Z3B:Fs U:=fsN Zk6 (fun a=> [Zhx a]) Zpz
def Zkc:ArgM ((Int × List Int × List Tree × List Edit × Unit) × Unit):=(.obj 0 (.cons (Yk .i64) (.cons (cSl .u64) (.cons (cSl .tree) (.cons (cSl .edit) .nil)))) .nil)
def Zld(a:(Int × List Int × List Tree × List Edit × Unit) × Unit):Prop:=True
def Zpx(a:(Int × List Int × List Tree × List Edit × Unit) × Unit):V U:= .tup [(true,(enc .tree (Tree.mk a.1.1 a.1.2.1 a.1.2.2.1))),(false,[ci ((a.1.2.2.2.1).length:Int)])]
def ZiY(a:(Int × List Int × List Tree × List Edit × Unit) × Unit):List (List (C U)):=[[ci a.1.1,sU .u64 a.1.2.1 .unk,sU .tree a.1.2.2.1 .unk,sU .edit a.1.2.2.2.1 .unk]]
def Z3A:Fs U:=fsX Zkc (fun a=> [Zld a]) Zpx ZiY
def Zhu(a:Edit × Tree × Unit):Prop:=Z5N a.1 a.2.1
def Zpq(a:Edit × Tree × Unit):V U:= .tup [(true,(enc .tree ((Y5 a.1 a.2.1).1))),(false,[ci ((Y5 a.1 a.2.1).2)])]
def Z1d:Fs U:=fs Z8T (fun a=> [Zhu a]) Zpq
def ZsT:ArgL (Edit × List Edit × Unit):=(.cons (aEl .edit) (.cons (aSl .edit) .nil))
def Zl6(a:Edit × List Edit × Unit):Prop:=ZcY a.2.1 a.1/\(a.2.1).length<=1000000000
def ZkL(a:Edit × List Edit × Unit):V U:= .tup [(true,(enc .edit ((Z0G a.2.1 a.1 []).1))),(false,[sU .edit ((Z0G a.2.1 a.1 []).2.1) (.own (.r 0 16))]),(false,[ci ((Z0G a.2.1 a.1 []).2.2)])]
def Z3y:Fs U:=fs ZsT (fun a=> [Zl6 a]) ZkL
def Zk9:ArgM ((Int × List Int × List Tree × List Edit × Unit) × Int × Unit):=(.obj 0 (.cons (Yk .i64) (.cons (cSl .u64) (.cons (cSl .tree) (.cons (cSl .edit) .nil)))) (.cons (YR .i64) .nil))
def Zqb(a:(Int × List Int × List Tree × List Edit × Unit) × Int × Unit):Prop:=(a.1.2.2.2.1).length<=1000000000
def Zpu(a:(Int × List Int × List Tree × List Edit × Unit) × Int × Unit):V U:= .tup [(false,[sU .edit ((Z0J a.2.1 (HubT.mk (Tree.mk a.1.1 a.1.2.1 a.1.2.2.1) a.1.2.2.2.1)).1) (.own (.r 0 0))]),(false,[ci ((Z0J a.2.1 (HubT.mk (Tree.mk a.1.1 a.1.2.1 a.1.2.2.1) a.1.2.2.2.1)).2)])]
def Z8a(a:(Int × List Int × List Tree × List Edit × Unit) × Int × Unit):List (List (C U)):=[[ci a.1.1,sU .u64 a.1.2.1 .unk,sU .tree a.1.2.2.1 .unk,sU .edit a.1.2.2.2.1 .unk]]
def Zb5:Fs U:=fsX Zk9 (fun a=> [Zqb a]) Zpu Z8a
def Zkd:ArgM ((Int × List Int × List Tree × List Edit × Unit) × Int × Edit × Unit):=(.obj 0 (.cons (Yk .i64) (.cons (cSl .u64) (.cons (cSl .tree) (.cons (cSl .edit) .nil)))) (.cons (YR .i64) (.cons (aEl .edit) .nil)))
def Zqd(a:(Int × List Int × List Tree × List Edit × Unit) × Int × Edit × Unit):Prop:=Zjf a.2.1 a.2.2.1 (HubT.mk (Tree.mk a.1.1 a.1.2.1 a.1.2.2.1) a.1.2.2.2.1)
def Zpy(a:(Int × List Int × List Tree × List Edit × Unit) × Int × Edit × Unit):V U:= .tup [(false,[ci ((Jt a.2.1 a.2.2.1 (HubT.mk (Tree.mk a.1.1 a.1.2.1 a.1.2.2.1) a.1.2.2.2.1)).2.1)]),(false,[ci ((Jt a.2.1 a.2.2.1 (HubT.mk (Tree.mk a.1.1 a.1.2.1 a.1.2.2.1) a.1.2.2.2.1)).2.2)])]
def ZiZ(a:(Int × List Int × List Tree × List Edit × Unit) × Int × Edit × Unit):List (List (C U)):=[(enc .tree (HubT.now ((Jt a.2.1 a.2.2.1 (HubT.mk (Tree.mk a.1.1 a.1.2.1 a.1.2.2.1) a.1.2.2.2.1)).1))++[sU .edit (HubT.log ((Jt a.2.1 a.2.2.1 (HubT.mk (Tree.mk a.1.1 a.1.2.1 a.1.2.2.1) a.1.2.2.2.1)).1)) .unk])]
def Zb8:Fs U:=fsX Zkd (fun a=> [Zqd a]) Zpy ZiZ
def Zpt(a:(Int × List Int × List Tree × List Edit × Unit) × Unit):List (C U):=([ci a.1.1,sU .u64 a.1.2.1 .unk,sU .tree a.1.2.2.1 .unk,ci ((a.1.2.2.2.1).length:Int),ci (Edit.kind (Edit.nil))]++enc .tree (Edit.old (Edit.nil))++enc .tree (Edit.new (Edit.nil))++[sU .wedit (Edit.words (Edit.nil)) .unk,sU .kid (Edit.kids (Edit.nil)) .unk,ci (Edit.list (Edit.nil)),sU .op (Edit.ops (Edit.nil)) .unk])
def Z88:Fs U:=Zzf Zkc (fun a=> [Zld a]) ZiY Zpt
def Zka:ArgM ((Int × List Int × List Tree × Int × Int × Int × List Int × List Tree × Int × List Int × List Tree × List WEdit × List Kid × Int × List Op × Unit) × Unit):=(.obj 0 (.cons (Yk .i64) (.cons (cSl .u64) (.cons (cSl .tree) (.cons (Yk .i64) (.cons (Yk .i64) (.cons (Yk .i64) (.cons (cSl .u64) (.cons (cSl .tree) (.cons (Yk .i64) (.cons (cSl .u64) (.cons (cSl .tree) (.cons (cSl .wedit) (.cons (cSl .kid) (.cons (Yk .i64) (.cons (cSl .op) .nil))))))))))))))) .nil)
def Zqc(a:(Int × List Int × List Tree × Int × Int × Int × List Int × List Tree × Int × List Int × List Tree × List WEdit × List Kid × Int × List Op × Unit) × Unit):Prop:=True
def Zpv(a:(Int × List Int × List Tree × Int × Int × Int × List Int × List Tree × Int × List Int × List Tree × List WEdit × List Kid × Int × List Op × Unit) × Unit):V U:= .tup [(true,(enc .tree (Tree.mk a.1.1 a.1.2.1 a.1.2.2.1))),(false,[ci a.1.2.2.2.1]),(true,(enc .edit (Edit.mk a.1.2.2.2.2.1 (Tree.mk a.1.2.2.2.2.2.1 a.1.2.2.2.2.2.2.1 a.1.2.2.2.2.2.2.2.1) (Tree.mk a.1.2.2.2.2.2.2.2.2.1 a.1.2.2.2.2.2.2.2.2.2.1 a.1.2.2.2.2.2.2.2.2.2.2.1) a.1.2.2.2.2.2.2.2.2.2.2.2.1 a.1.2.2.2.2.2.2.2.2.2.2.2.2.1 a.1.2.2.2.2.2.2.2.2.2.2.2.2.2.1 a.1.2.2.2.2.2.2.2.2.2.2.2.2.2.2.1)))]
def ZiW(a:(Int × List Int × List Tree × Int × Int × Int × List Int × List Tree × Int × List Int × List Tree × List WEdit × List Kid × Int × List Op × Unit) × Unit):List (List (C U)):=[[ci a.1.1,sU .u64 a.1.2.1 .unk,sU .tree a.1.2.2.1 .unk,ci a.1.2.2.2.1,ci a.1.2.2.2.2.1,ci a.1.2.2.2.2.2.1,sU .u64 a.1.2.2.2.2.2.2.1 .unk,sU .tree a.1.2.2.2.2.2.2.2.1 .unk,ci a.1.2.2.2.2.2.2.2.2.1,sU .u64 a.1.2.2.2.2.2.2.2.2.2.1 .unk,sU .tree a.1.2.2.2.2.2.2.2.2.2.2.1 .unk,sU .wedit a.1.2.2.2.2.2.2.2.2.2.2.2.1 .unk,sU .kid a.1.2.2.2.2.2.2.2.2.2.2.2.2.1 .unk,ci a.1.2.2.2.2.2.2.2.2.2.2.2.2.2.1,sU .op a.1.2.2.2.2.2.2.2.2.2.2.2.2.2.2.1 .unk]]
def Zb6:Fs U:=fsX Zka (fun a=> [Zqc a]) Zpv ZiW
def Zs7:List (FuncId × Fs U):=[(82,JO),(75,YV)]
def Zz4:Z6 U:=lvl [([1],[1]),([1,10],[1]),([2],[]),([2],[14])]
abbrev A49(p:List Nat):=AW (Z1 Zs7) Tryz.f49 Zz4 p
theorem ZDs(t:Tree)(Q:QT)(h:let z0:=Tree.mk t.kind t.words t.kids;let z1:= !(!(Zi z0 64));((ZdO (z0,()))/\(Tt z1)/\(Tt z1)/\((!(Zi z0 64))=false->z1=true)/\(iB (bif (!(Zi z0 64)) then true else (t.kind==10)) ((Q .ret (L2 [(2,.c (.nilp))] []))) ((Z0v (z0,()))/\(Q .ret (L2 [(2,.ptr (.loc 14) 0)] [(.loc 14,(enc .tree (Z5 z0)++[.nils]))])))))):
  A49 [] (L2 [(0,.agg (enc .tree t))] []) Q:=
 (Eq.mpr V6 h:)
abbrev ZAy(t:Tree):Prop:=AW (Z1 Zs7) Tryz.f49 Zz4 [] (Zb (Zk6.can (t,())) []) (Z8U cfg Tryz.f49.ntmps Tryz.f49.results.toList [] (Zpz (t,())))
theorem ZyJ(c82:CT 82 JO)(c75:CT 75 YV)(hb:∀ (t:Tree) (_:Unit),Zhx (t,())->ZAy t):CT 49 Z3B:=
 ZcU (l:=[(82,JO),(75,YV)]) Za rfl (⟨c82,c75,trivial⟩) Zz4 Tryz.func49 rfl rfl 1 (fun _=> rfl) V5 (fun ⟨t,_⟩=> hb t ())
def Zz2:Z6 U:=lvk [([0,2],[2,((.x 0),[])]),([0,2,5],[2,((.x 0),[])]),([2,3],[2,((.x 0),[])]),([2,3],[2,((.x 0),[])])]
abbrev A51(p:List Nat):=AW (Z1 ZjN) Tryz.f51 Zz2 p
theorem ZDq(hk:Int)(hw:List Int)(hc:List Tree)(hl:List Edit)(Q:QT)(h:(iB false ((Q .ret (L2 [pL 2,pI 3 0] [(.loc 2,[ci 0,.nils,.nils]),(.x 0,[ci hk,sU .u64 hw .unk,sU .tree hc .unk,sU .edit hl .unk])]))) ((Q .ret (L2 [pL 2,pI 3 (hl.length:Int)] [(.loc 2,[ci hk,sU .u64 hw .unk,sU .tree hc .unk]),(.x 0,[ci hk,sU .u64 hw .unk,sU .tree hc .unk,sU .edit hl .unk])]))))):
  A51 [] (L2 [(0,.ptr (.x 0) 0)] [(.x 0,[ci hk,sU .u64 hw .unk,sU .tree hc .unk,sU .edit hl .unk])]) Q:=
 (Eq.mpr V6 h:)
abbrev ZAw(hk:Int)(hw:List Int)(hc:List Tree)(hl:List Edit):Prop:=AW (Z1 ZjN) Tryz.f51 Zz2 [] (Zb (Zkc.can ((hk,hw,hc,hl,()),())) (Zkc.canX ((hk,hw,hc,hl,()),()))) (EQ Tryz.f51 (Zpx ((hk,hw,hc,hl,()),())) (ZiY ((hk,hw,hc,hl,()),())))
theorem ZyH(hb:∀ (b:Int) (h:List Int) (hc:List Tree) (hl:List Edit) (_:Unit),Zld ((b,h,hc,hl,()),())->ZAw b h hc hl):CT 51 Z3A:=
 Zl (l:=[]) Za rfl trivial Zz2 Tryz.func51 rfl rfl 1 (fun _=> rfl) V5 (fun ⟨⟨b,h,hc,hl,_⟩,_⟩=> hb b h hc hl ())
def ZrX:List (FuncId × Fs U):=[(25,JP),(82,JO)]
def ZyR:Z6 U:=lvl [([2,3,4],[2,3,4]),([4,6,7],[4,6]),([4,6,14],[4,6]),([4,5],[4]),([4,6,18],[4,6]),([4,5],[4]),([4,5],[4])]
abbrev A94(p:List Nat):=AW (Z1 ZrX) Tryz.f94 ZyR p
theorem ZD8(e:Edit)(t:Tree)(Q:QT)(h:∀ b,b=e->∀ s,s=t->∀ u,u=(Z0x ((doE false b s).map Z5))->((Z2k (b,s,()))/\(iB (!((doE false b s).isSome)) ((Q .ret (L2 [pL 4,pI 5 13] [(.loc 4,[ci 0,.nils,.nils])]))) ((ZdO (u,()))/\(iB (!(Zi u 64)) ((Q .ret (L2 [pL 4,pI 5 3] [(.loc 4,[ci 0,.nils,.nils])]))) ((Q .ret (L2 [pL 4,pI 5 0] [(.loc 4,(enc .tree (Z0x ((doE false b s).map Z5))))])))))))):
  A94 [] (L2 [(0,.agg (enc .edit e)),(1,.agg (enc .tree t))] []) Q:=
 (Eq.mpr V6 (h _ (Z3 _) _ (Z7 _) _ (Z7 _)):)
abbrev ZAe(e:Edit)(t:Tree):Prop:=AW (Z1 ZrX) Tryz.f94 ZyR [] (Zb (Z8T.can (e,t,())) []) (EQ Tryz.f94 (Zpq (e,t,())) [])
theorem Zyt(c25:CT 25 JP)(c82:CT 82 JO)(hb:∀ (e:Edit) (t:Tree) (_:Unit),Zhu (e,t,())->ZAe e t):CT 94 Z1d:=
 Z0 (l:=[(25,JP),(82,JO)]) Za rfl (⟨c25,c82,trivial⟩) ZyR Tryz.func94 rfl rfl 2 (fun _=> rfl) V5 (fun ⟨e,t,_⟩=> hb e t ())
def ZjK:List (FuncId × Fs U):=[(16,Zbf),(67,Z1e)]
def Zvb:Z6 U:=lvk [([1,2,4],[2,4]),([1,2,4,7],[2,4]),([2,4,(7,[.own .edit]),13,14,15],[2,4]),([2,4,7,13,14,15,16],[2,4]),([2,4,7,9,13,14,15],[2,4,9]),([2,4,7,10,11,12,13,14,15],[2,4,10,11]),([2,4,7,10,11,12,13,14,15,27],[2,4,10,11]),([4,5,6],[4]),([2,4,7,13,14,15],[2,4]),([2,4,(7,[.own .edit]),13,14,15],[2,4]),([4,5,6],[4])]
def Z7C(e:Edit)(l:List Edit)(ak h ai:Int)(ah:List Int)(s:List Tree)(ae:Int)(aj:List Int)(aa:List Tree)(ab:List WEdit)(af:List Kid)(u:Int)(b:List Op)(x7:List Edit):LSt U:=(L2 [pL 2,pL 4,(7,.c (sU .edit x7 (.own (.e 7 0)))),(13,.c (sU .edit l .unk)),pI 14 (l.length:Int),pI 15 ak] [(.loc 2,[ci h,ci ai,sU .u64 ah .unk,sU .tree s .unk,ci ae,sU .u64 aj .unk,sU .tree aa .unk,sU .wedit ab .unk,sU .kid af .unk,ci u,sU .op b .unk]),(.loc 4,zc0)])
abbrev A93(p:List Nat):=AW (Z1 ZjK) Tryz.f93 Zvb p
abbrev S93(p:List Nat):=SW (Z1 ZjK) Tryz.f93 Zvb p
theorem ZD9(e:Edit)(l:List Edit)(Q:QT)(h:(Zp (A93 [1,1,0,1,0,0]) (Z7C e l 0 e.kind e.old.kind e.old.words e.old.kids e.new.kind e.new.words e.new.kids e.words e.kids e.list e.ops []) (xB 0 (S93 [1,1,1] Q)))):
  A93 [] (L2 [(0,.agg (enc .edit e)),(1,.c (sU .edit l .unk))] []) Q:=
 (Eq.mpr V6 h:)
theorem ZtE(e:Edit)(l:List Edit)(u ab am:Int)(al:List Int)(ae:List Tree)(aj:Int)(ao:List Int)(ah:List Tree)(ai:List WEdit)(ak:List Kid)(af:Int)(aa:List Op)(x7:List Edit)(N0:NT)(Q:QT)(h:∀ ar,ar=(l.getD u.toNat Edit.nil)->∀ b,b=(Edit.mk ab (Tree.mk am al ae) (Tree.mk aj ao ah) ai ak af aa)->∀ s,s=ar->∀ aq,aq=((lbN b s).2.1)->let z1:=Edit.new ((lbN b s).1);let z0:=Edit.old ((lbN b s).1);(iB (decide (u < (l.length:Int))) (((0:Int)<=u/\u < (l.length:Int))/\((Zqf (b,s,()))/\(iB ((((lbN b s).2.2):Int) !=0) ((Q .ret (L2 [pL 4,(5,.c (.nils)),pI 6 ((lbN b s).2.2)] [(.loc 4,zc0)]))) (((x7.length+([aq]).length)*200<=140737488355328)/\((InR (u+1))/\(N0 (Z7C e l (u+1) (Edit.kind ((lbN b s).1)) (Tree.kind z0) (Tree.words z0) (Tree.kids z0) (Tree.kind z1) (Tree.words z1) (Tree.kids z1) (Edit.words ((lbN b s).1)) (Edit.kids ((lbN b s).1)) (Edit.list ((lbN b s).1)) (Edit.ops ((lbN b s).1)) (x7++([aq]))))))))) ((Z0K (b,()))/\(Q .ret (L2 [pL 4,(5,.c (sU .edit x7 (.own (.e 5 0)))),pI 6 0] [(.loc 4,(enc .edit (Zm b)))]))))):
  A93 [1,1,0,1,0,0] (Z7C e l u ab am al ae aj ao ah ai ak af aa x7) (xT N0 (xB 0 (S93 [1,1,1] Q))):=
 (Eq.mpr V6 (h _ rfl _ rfl _ (Z3 _) _ (Z3 _)):)
abbrev ZAf(e:Edit)(l:List Edit):Prop:=AW (Z1 ZjK) Tryz.f93 Zvb [] (Zb (ZsT.can (e,l,())) []) (EQ Tryz.f93 (ZkL (e,l,())) [])
theorem Zyu(c16:CT 16 Zbf)(c67:CT 67 Z1e)(hb:∀ (e:Edit) (l:List Edit) (_:Unit),Zl6 (e,l,())->ZAf e l):CT 93 Z3y:=
 Z0 (l:=[(16,Zbf),(67,Z1e)]) Za rfl (⟨c16,c67,trivial⟩) Zvb Tryz.func93 rfl rfl 2 (fun _=> rfl) V5 (fun ⟨e,l,_⟩=> hb e l ())
def Zs3:List (FuncId × Fs U):=[(84,Z3z)]
def Zz0:Z6 U:=lvk [([0,1],[((.x 0),[])]),([0,1,6],[((.x 0),[])]),([4,5],[((.x 0),[])]),([0,1,9],[((.x 0),[])]),([4,5],[((.x 0),[])]),([4,5],[((.x 0),[])])]
abbrev A60(p:List Nat):=AW (Z1 Zs3) Tryz.f60 Zz0 p
theorem ZDn(hk:Int)(hw:List Int)(hc:List Tree)(hl:List Edit)(v:Int)(Q:QT)(h:let z0:= !(decide (v < 0));(iB false ((Q .ret (L2 [(4,.c (.nils)),pI 5 1] [(.x 0,[ci hk,sU .u64 hw .unk,sU .tree hc .unk,sU .edit hl .unk])]))) ((Tt z0)/\(Tt z0)/\(Tt z0)/\(Tt z0)/\(Tt z0)/\(Tt z0)/\((decide (v < 0))=false->z0=true)/\(iB (bif (decide (v < 0)) then true else (decide (((hl.length:Int):Int) < v))) ((Q .ret (L2 [(4,.c (.nils)),pI 5 2] [(.x 0,[ci hk,sU .u64 hw .unk,sU .tree hc .unk,sU .edit hl .unk])]))) (((0:Int)<=v/\v<=(hl.length:Int))/\(Zhv ((List.drop v.toNat hl),()))/\(Q .ret (L2 [(4,.c (sU .edit (List.drop v.toNat hl) (.own (.e 4 0)))),pI 5 0] [(.x 0,[ci hk,sU .u64 hw .unk,sU .tree hc .unk,sU .edit hl .unk])]))))))):
  A60 [] (L2 [(0,.ptr (.x 0) 0),pI 1 v] [(.x 0,[ci hk,sU .u64 hw .unk,sU .tree hc .unk,sU .edit hl .unk])]) Q:=
 (Eq.mpr V6 h:)
abbrev ZAt(hk:Int)(hw:List Int)(hc:List Tree)(hl:List Edit)(v:Int):Prop:=AW (Z1 Zs3) Tryz.f60 Zz0 [] (Zb (Zk9.can ((hk,hw,hc,hl,()),v,())) (Zk9.canX ((hk,hw,hc,hl,()),v,()))) (EQ Tryz.f60 (Zpu ((hk,hw,hc,hl,()),v,())) (Z8a ((hk,hw,hc,hl,()),v,())))
theorem ZyE(c84:CT 84 Z3z)(hb:∀ (b:Int) (h:List Int) (hc:List Tree) (hl:List Edit) (v:Int) (_:Unit),Zqb ((b,h,hc,hl,()),v,())->ZAt b h hc hl v):CT 60 Zb5:=
 Zl (l:=[(84,Z3z)]) Za rfl (⟨c84,trivial⟩) Zz0 Tryz.func60 rfl rfl 2 (fun _=> rfl) V5 (fun ⟨⟨b,h,hc,hl,_⟩,v,_⟩=> hb b h hc hl v ())
def Zs6:List (FuncId × Fs U):=[(28,Z3F),(93,Z3y),(94,Z1d),(84,Z3z)]
def Zz3:Z6 U:=lvk [([0,1,5],[5,((.x 0),[])]),([0,1,5,12],[5,((.x 0),[])]),([6,7],[((.x 0),[])]),([0,1,5,15],[5,((.x 0),[])]),([6,7],[((.x 0),[])]),([0,8,10],[8,((.x 0),[])]),([0,8,10,45],[8,((.x 0),[])]),([6,7],[((.x 0),[])]),([0,8,10,11],[8,11,((.x 0),[])]),([0,8,10,11,57],[8,11,((.x 0),[])]),([6,7],[((.x 0),[])]),([0],[((.x 0),[])]),([6,7],[((.x 0),[])])]
abbrev A50(p:List Nat):=AW (Z1 Zs6) Tryz.f50 Zz3 p
theorem ZDr(hk:Int)(hw:List Int)(hc:List Tree)(hl:List Edit)(v:Int)(e:Edit)(Q:QT)(h:∀ b,b=e->∀ s,s=((Z0G (List.drop v.toNat hl) b []).1)->let z3:=List.drop v.toNat hl;let z2:=Y5 s (Tree.mk hk hw hc);let z1:= !(decide (v < 0));let z0:=bif (decide (v < 0)) then true else (decide (((hl.length:Int):Int) < v));(iB false ((Q .ret (L2 [pI 6 0,pI 7 1] [(.x 0,[ci hk,sU .u64 hw .unk,sU .tree hc .unk,sU .edit hl .unk])]))) ((Tt z1)/\(Tt z1)/\(Tt z1)/\(Tt z1)/\(Tt z1)/\(Tt z1)/\((decide (v < 0))=false->z1=true)/\(Tt (!z0))/\((!z0)=true->ZdQ (b,()))/\(Tt (!z0))/\(z0=false->(!z0)=true)/\(iB (bif z0 then true else (!(Z4 b 64))) ((Q .ret (L2 [pI 6 0,pI 7 2] [(.x 0,[ci hk,sU .u64 hw .unk,sU .tree hc .unk,sU .edit hl .unk])]))) (((0:Int)<=v/\v<=(hl.length:Int))/\(Zl6 (b,z3,()))/\(iB ((((Z0G z3 b []).2.2):Int) !=0) ((Q .ret (L2 [pI 6 0,pI 7 ((Z0G z3 b []).2.2)] [(.x 0,[ci hk,sU .u64 hw .unk,sU .tree hc .unk,sU .edit hl .unk])]))) ((Zhu (s,(Tree.mk hk hw hc),()))/\(iB (((z2.2):Int) !=0) ((Q .ret (L2 [pI 6 0,pI 7 (z2.2)] [(.x 0,[ci hk,sU .u64 hw .unk,sU .tree hc .unk,sU .edit hl .unk])]))) ((Zhv (hl,()))/\((hl.length+([s]).length)*200<=140737488355328)/\(Q .ret (L2 [pI 6 ((hl++([s])).length:Int),pI 7 0] [(.x 0,(enc .tree (z2.1)++[sU .edit (hl++([s])) (.own (.x 0 3))]))]))))))))))):
  A50 [] (L2 [(0,.ptr (.x 0) 0),pI 1 v,(2,.agg (enc .edit e))] [(.x 0,[ci hk,sU .u64 hw .unk,sU .tree hc .unk,sU .edit hl .unk])]) Q:=
 (Eq.mpr V6 (h _ (Z3 _) _ (Z3 _)):)
abbrev ZAx(hk:Int)(hw:List Int)(hc:List Tree)(hl:List Edit)(v:Int)(e:Edit):Prop:=AW (Z1 Zs6) Tryz.f50 Zz3 [] (Zb (Zkd.can ((hk,hw,hc,hl,()),v,e,())) (Zkd.canX ((hk,hw,hc,hl,()),v,e,()))) (EQ Tryz.f50 (Zpy ((hk,hw,hc,hl,()),v,e,())) (ZiZ ((hk,hw,hc,hl,()),v,e,())))
theorem ZyI(c28:CT 28 Z3F)(c93:CT 93 Z3y)(c94:CT 94 Z1d)(c84:CT 84 Z3z)(hb:∀ (b:Int) (h:List Int) (hc:List Tree) (hl:List Edit) (v:Int) (e:Edit) (_:Unit),Zqd ((b,h,hc,hl,()),v,e,())->ZAx b h hc hl v e):CT 50 Zb8:=
 Zl (l:=[(28,Z3F),(93,Z3y),(94,Z1d),(84,Z3z)]) Za rfl (⟨c28,c93,c94,c84,trivial⟩) Zz3 Tryz.func50 rfl rfl 3 (fun _=> rfl) V5 (fun ⟨⟨b,h,hc,hl,_⟩,v,e,_⟩=> hb b h hc hl v e ())
def Zs2:List (FuncId × Fs U):=[(51,Z3A)]
def ZyZ:Z6 U:=lvk [([0],[((.x 0),[])]),([0,6],[((.x 0),[])]),([2],[((.x 0),[])]),([3,4],[3,((.x 0),[])]),([2],[15,((.x 0),[])])]
abbrev A61(p:List Nat):=AW (Z1 Zs2) Tryz.f61 ZyZ p
theorem ZDm(hk:Int)(hw:List Int)(hc:List Tree)(hl:List Edit)(Q:QT)(h:(iB false ((Q .ret (L2 [(2,.c (.nilp))] [(.x 0,[ci hk,sU .u64 hw .unk,sU .tree hc .unk,sU .edit hl .unk])]))) ((Zld ((hk,hw,hc,hl,()),()))/\(Q .ret (L2 [(2,.ptr (.loc 15) 0)] [(.loc 15,(enc .tree (Tree.mk hk hw hc)++[ci (hl.length:Int),ci 0,ci 0,.nils,.nils,ci 0,.nils,.nils,.nils,.nils,ci 0,.nils])),(.x 0,[ci hk,sU .u64 hw .unk,sU .tree hc .unk,sU .edit hl .unk])]))))):
  A61 [] (L2 [(0,.ptr (.x 0) 0)] [(.x 0,[ci hk,sU .u64 hw .unk,sU .tree hc .unk,sU .edit hl .unk])]) Q:=
 (Eq.mpr V6 h:)
abbrev ZAs(hk:Int)(hw:List Int)(hc:List Tree)(hl:List Edit):Prop:=AW (Z1 Zs2) Tryz.f61 ZyZ [] (Zb (Zkc.can ((hk,hw,hc,hl,()),())) (Zkc.canX ((hk,hw,hc,hl,()),()))) (Z8U cfg Tryz.f61.ntmps Tryz.f61.results.toList (ZiY ((hk,hw,hc,hl,()),())) (Zpt ((hk,hw,hc,hl,()),())))
theorem ZyD(c51:CT 51 Z3A)(hb:∀ (b:Int) (h:List Int) (hc:List Tree) (hl:List Edit) (_:Unit),Zld ((b,h,hc,hl,()),())->ZAs b h hc hl):CT 61 Z88:=
 Z9S (l:=[(51,Z3A)]) Za rfl (⟨c51,trivial⟩) ZyZ Tryz.func61 rfl rfl 1 (fun _=> rfl) V5 (fun ⟨⟨b,h,hc,hl,_⟩,_⟩=> hb b h hc hl ())
def Zz1:Z6 U:=lvk [([0,2,4],[2,4,((.x 0),[])]),([0,2,4,6],[2,4,((.x 0),[])]),([2,3,4],[2,4,((.x 0),[])]),([2,3,4],[2,4,((.x 0),[])])]
abbrev A59(p:List Nat):=AW (Z1 ZjN) Tryz.f59 Zz1 p
theorem ZDo(dk:Int)(dw:List Int)(dc:List Tree)(dv ek eo:Int)(eow:List Int)(eok:List Tree)(en:Int)(enw:List Int)(enk:List Tree)(ew:List WEdit)(ec:List Kid)(li:Int)(eos:List Op)(Q:QT)(h:(iB false ((Q .ret (L2 [pL 2,pI 3 0,pL 4] [(.loc 2,[ci 0,.nils,.nils]),(.loc 4,zc0),(.x 0,[ci dk,sU .u64 dw .unk,sU .tree dc .unk,ci dv,ci ek,ci eo,sU .u64 eow .unk,sU .tree eok .unk,ci en,sU .u64 enw .unk,sU .tree enk .unk,sU .wedit ew .unk,sU .kid ec .unk,ci li,sU .op eos .unk])]))) ((Q .ret (L2 [pL 2,pI 3 dv,pL 4] [(.loc 2,[ci dk,sU .u64 dw .unk,sU .tree dc .unk]),(.loc 4,[ci ek,ci eo,sU .u64 eow .unk,sU .tree eok .unk,ci en,sU .u64 enw .unk,sU .tree enk .unk,sU .wedit ew .unk,sU .kid ec .unk,ci li,sU .op eos .unk]),(.x 0,[ci dk,sU .u64 dw .unk,sU .tree dc .unk,ci dv,ci ek,ci eo,sU .u64 eow .unk,sU .tree eok .unk,ci en,sU .u64 enw .unk,sU .tree enk .unk,sU .wedit ew .unk,sU .kid ec .unk,ci li,sU .op eos .unk])]))))):
  A59 [] (L2 [(0,.ptr (.x 0) 0)] [(.x 0,[ci dk,sU .u64 dw .unk,sU .tree dc .unk,ci dv,ci ek,ci eo,sU .u64 eow .unk,sU .tree eok .unk,ci en,sU .u64 enw .unk,sU .tree enk .unk,sU .wedit ew .unk,sU .kid ec .unk,ci li,sU .op eos .unk])]) Q:=
 (Eq.mpr V6 h:)
abbrev ZAu(dk:Int)(dw:List Int)(dc:List Tree)(dv ek eo:Int)(eow:List Int)(eok:List Tree)(en:Int)(enw:List Int)(enk:List Tree)(ew:List WEdit)(ec:List Kid)(li:Int)(eos:List Op):Prop:=AW (Z1 ZjN) Tryz.f59 Zz1 [] (Zb (Zka.can ((dk,dw,dc,dv,ek,eo,eow,eok,en,enw,enk,ew,ec,li,eos,()),())) (Zka.canX ((dk,dw,dc,dv,ek,eo,eow,eok,en,enw,enk,ew,ec,li,eos,()),()))) (EQ Tryz.f59 (Zpv ((dk,dw,dc,dv,ek,eo,eow,eok,en,enw,enk,ew,ec,li,eos,()),())) (ZiW ((dk,dw,dc,dv,ek,eo,eow,eok,en,enw,enk,ew,ec,li,eos,()),())))
theorem ZyF(hb:∀ (dk:Int) (dw:List Int) (dc:List Tree) (dv:Int) (ek:Int) (eo:Int) (h:List Int) (s:List Tree) (en:Int) (u:List Int) (b:List Tree) (ew:List WEdit) (ec:List Kid) (li:Int) (aa:List Op) (_:Unit),Zqc ((dk,dw,dc,dv,ek,eo,h,s,en,u,b,ew,ec,li,aa,()),())->ZAu dk dw dc dv ek eo h s en u b ew ec li aa):CT 59 Zb6:=
 Zl (l:=[]) Za rfl trivial Zz1 Tryz.func59 rfl rfl 1 (fun _=> rfl) V5 (fun ⟨⟨dk,dw,dc,dv,ek,eo,h,s,en,u,b,ew,ec,li,aa,_⟩,_⟩=> hb dk dw dc dv ek eo h s en u b ew ec li aa ())
end
theorem Zoc{e:Edit}{s:Tree}(h:doE false e s=none):Y5 e s=(Tree.nil,13):=by unfold Y5;rw [h]
theorem ZcO{e:Edit}{s u:Tree}(h:doE false e s=some u)(hr:Zi (Z5 u) 64=true):Y5 e s=(Z5 u,0):=by
 unfold Y5
 rw [h]
 exact if_pos hr
theorem Zsq{e:Edit}{s u:Tree}(h:doE false e s=some u)(hr:¬Zi (Z5 u) 64=true):Y5 e s=(Tree.nil,3):=by
 unfold Y5
 rw [h]
 exact if_neg hr
theorem Zje{p:Edit}{n:Tree}(rp:Z4 p 64=true):Jt 0 p ⟨n,[]⟩=if (Y5 (Zm p) n).2=0 then (⟨(Y5 (Zm p) n).1,[Zm p]⟩,1,0) else (⟨n,[]⟩,0,(Y5 (Zm p) n).2):=by
 unfold Jt
 have e:Z0F 0 p ⟨n,[]⟩=(Zm p,[],0):=rfl
 rw [if_pos (by simp [Z9a,rp]),e,if_pos rfl]
 try rfl
theorem Zht{q x:Edit}{w:Tree}(rq:Z4 q 64=true):Jt 0 q ⟨w,[x]⟩=if (lbN q x).2.2=0 then
  if (Y5 (Zm (lbN q x).1) w).2=0 then (⟨(Y5 (Zm (lbN q x).1) w).1,[x,Zm (lbN q x).1]⟩,2,0) else (⟨w,[x]⟩,0,(Y5 (Zm (lbN q x).1) w).2) else (⟨w,[x]⟩,0,(lbN q x).2.2):=by
 unfold Jt
 have e:Z0F 0 q ⟨w,[x]⟩=if (lbN q x).2.2=0 then (Zm (lbN q x).1,[(lbN q x).2.1],0) else (Edit.nil,[],(lbN q x).2.2):=rfl
 rw [if_pos (by simp [Z9a,rq]),e]
 by_cases h:(lbN q x).2.2=0
 .rw [if_pos h,if_pos h,if_pos rfl];try rfl
 .rw [if_neg h,if_neg h,if_neg h]
structure G43 (e:Edit):Prop where
 r:Z4 e 64=true
 g:Yh e
 l:YO e=true
 m:Z8 e<=20000
theorem G43.re{e:Edit}(h:G43 e):Yr e:=⟨by have:=Z7U e;have:=h.m;omega,h.g,64,h.r⟩
theorem G43.rb{p q:Edit}(h:G43 p)(k:G43 q):Zhq p q:=Zu5 h.r k.r h.g k.g h.l k.l h.m k.m
theorem Zsj{p:Edit}{n:Tree}(P:G43 p)(hn:St42 n)(m:Zk n<=20000):Zjf 0 p ⟨n,[]⟩:=by
 have re:=P.re
 have b:=Z1m re
 have:=P.m
 exact ⟨⟨V1,P.g⟩,fun _=> ⟨re,fun _=> Z2M b hn⟩,QI _⟩
end Go.AM.YtpjenobkibfpcaaGreat
namespace Go.AM.YtpjenobkibfpcaaGreat
open Go.AM
theorem Zmt{l:List Edit}{i:Int}(h0:0<=i)(h:i < l.length):l.drop i.toNat=l.getD i.toNat Edit.nil ::l.drop (i+1).toNat:=by
 have b:i.toNat < l.length:=V1
 rw [Qx b,show (i+1).toNat=i.toNat+1 by omega,QD,Q0 b]
 try rfl
theorem Zsl(t:Tree):Tree.mk t.kind t.words t.kids=t:=by cases t;rfl
theorem ZCt(e:Edit):Edit.mk e.kind (Tree.mk e.old.kind e.old.words e.old.kids) (Tree.mk e.new.kind e.new.words e.new.kids) e.words e.kids e.list e.ops=e:=by rw [Zsl,Zsl];cases e;rfl
end Go.AM.YtpjenobkibfpcaaGreat
namespace Go.AM.YtpjenobkibfpcaaGreat
open Go.AM Go.Proofs
theorem c49:Contract Tryz.prog cfg 49 Z3B:=by
 refine ZyJ c82 c75 ?_
 intro t _ hp
 obtain ⟨⟨b,s⟩,u,h4⟩:=hp
 dsimp only at b s u h4
 refine ZDs _ _ ?_
 (simp only [vE])
 (simp only [iB,vcT,vcS])
 refine ⟨⟨b,s⟩,fun h=> ?_,fun _=> ⟨by show Zk t<=_;omega,?_⟩⟩
 .rcases h with h | h
  .rw [u] at h;cases h
  .exact absurd h h4
 .simp only [Zpz]
  exact V2
theorem c51:Contract Tryz.prog cfg 51 Z3A:=by
 refine ZyH ?_
 intro b s hc hl _ _
 refine ZDq _ _ _ _ _ ⟨(fun h=> by cases h),fun _=> ?_⟩
 simp only [Zpx,ZiY]
 exact V2
theorem c59:Contract Tryz.prog cfg 59 Zb6:=by
 refine ZyF ?_
 intro dk dw dc dv ek eo s u en aa b ew ec li ab _ _
 refine ZDo _ _ _ _ _ _ _ _ _ _ _ _ _ _ _ _ ⟨(fun h=> by cases h),fun _=> ?_⟩
 simp only [Zpv,ZiW]
 exact V2
theorem c61:Contract Tryz.prog cfg 61 Z88:=by
 refine ZyD c51 ?_
 intro b s hc hl _ _
 refine ZDm _ _ _ _ _ ⟨(fun h=> by cases h),fun _=> ⟨trivial,?_⟩⟩
 simp only [Zpt,ZiY]
 exact V2
theorem c94:Contract Tryz.prog cfg 94 Z1d:=by
 refine Zyt c25 c82 ?_
 intro e t _ hp
 obtain ⟨⟨h1,h2,d,h3⟩,h4,h5⟩:=hp
 dsimp only at h1 h2 h3 h4 h5
 refine ZD8 _ _ _ ?_
 rintro y1 rfl y2 rfl y3 e3
 (simp only [iB,vcT,vcS])
 have fin:∀ {r:Tree × Int} {s:LSt U},Y5 y1 y2=r->ZK cfg Tryz.f94.ntmps Tryz.f94.results.toList (.tup [(true,[.int .i64 r.1.kind,.slice .u64 r.1.words .unk,.slice .tree r.1.kids .unk]),(false,[.int .i64 r.2])]) [] .ret s->
   ZK cfg Tryz.f94.ntmps Tryz.f94.results.toList (Zpq (y1,y2,())) [] .ret s:=by
  intro r s h hs
  subst h
  exact hs
 refine ⟨⟨⟨h1,h2,d,h3⟩,V3,h5⟩,fun hn=> ?_,fun hs=> ?_⟩
 .cases b:doE false y1 y2 with
  | some u=> rw [b] at hn;cases hn
  | none=> exact fin (r:=(Tree.nil,13)) (Zoc b) V2
 .obtain ⟨u,b⟩:=Zpj hs
  have e4:y3=Z5 u:=by rw [e3,b];try rfl
  rw [e4]
  have hm:=Zlv false _ d _ _ h3 b
  have ar:=YL u
  refine ⟨⟨V3,Z2f _ (ZiR false _ _ _ h2 h5 b)⟩,fun hr=> ?_,fun hr=> ?_⟩
  .exact fin (r:=(Tree.nil,3)) (Zsq b (by rw [hr];decide)) V2
  .rw [b]
   exact fin (r:=(Z5 u,0)) (ZcO b hr) V2
theorem c93:Contract Tryz.prog cfg 93 Z3y:=by
 refine Zyu c16 Zk1.1 ?_
 intro e l _ hp
 obtain ⟨h1,h2⟩:=hp
 dsimp only at h1 h2
 refine ZD9 _ _ _ ?_
 have fin:∀ {X:Edit} {m:List Edit} {n:Int} {s:LSt U},Z0G l e []=(X,m,n)->ZK cfg Tryz.f93.ntmps Tryz.f93.results.toList (.tup [(true,enc .edit X),(false,[.slice .edit m (.own (.r 0 16))]),(false,[.int .i64 n])]) [] .ret s->
   ZK cfg Tryz.f93.ntmps Tryz.f93.results.toList (ZkL (e,l,())) [] .ret s:=by
  intro X m n s h hs
  simp only [ZkL]
  rw [h]
  exact hs
 refine Zf (ι:=Int × Edit × List Edit) (fun j=> Z7C e l j.1 j.2.1.kind j.2.1.old.kind j.2.1.old.words j.2.1.old.kids j.2.1.new.kind j.2.1.new.words j.2.1.new.kids j.2.1.words j.2.1.kids j.2.1.list j.2.1.ops j.2.2)
  (fun j=> (0<=j.1/\j.1<=l.length)/\Z0G l e []=Z0G (l.drop j.1.toNat) j.2.1 j.2.2/\ZcY (l.drop j.1.toNat) j.2.1/\(j.2.2.length:Int)<=j.1)
  (fun j=> ((l.length:Int) - j.1).toNat) (0,e,[]) rfl ⟨⟨V3,V3⟩,rfl,h1,by simp⟩ ?_
 rintro ⟨i,x,out⟩ ⟨⟨i0,i1⟩,b,u,hL⟩
 dsimp only at i0 i1 b u hL
 refine ZtE _ _ _ _ _ _ _ _ _ _ _ _ _ _ _ _ _ ?_
 rintro y1 ab y2 aa y3 rfl y4 ae
 rw [ZCt] at aa
 subst aa
 (simp only [iB,vcT,vcS])
 refine ⟨fun hc=> ?_,fun hc=> ?_⟩
 .rw [Zmt i0 hc,<-ab] at b u
  obtain ⟨o1,o2⟩:=u
  rw [Z0G] at b
  refine ⟨⟨i0,hc⟩,o1,fun hn=> ?_,fun h0=> ⟨by simp only [Qm,Qe];omega,V4,(i+1,(lbN y2 y3).1,out++[y4]),rfl,⟨⟨V3,V3⟩,?_,o2 h0,?_⟩,V3⟩⟩
  .rw [if_neg hn] at b
   exact fin b V2
  .rw [if_pos h0,<-ae] at b
   exact b
  .rw [Qa]
   simp only [Qm,Qe]
   omega
 .have hd:l.drop i.toNat=[]:=Qd V1
  rw [hd] at b u
  exact ⟨Z2l u,fin b V2⟩
theorem Zu6{v:Int}{e:Edit}{h:HubT}(k:¬Z9a v e h=true):Jt v e h=(h,0,2):=by unfold Jt;exact if_neg k
theorem ZdM{v:Int}{e:Edit}{h:HubT}:Z9a v e h=true↔0<=v/\v<=h.log.length/\Z4 e 64=true:=by
 unfold Z9a
 rw [Q1,Q1,decide_eq_true_eq,decide_eq_true_eq]
theorem Z8e{v:Int}{h:HubT}:ZdN v h=true↔0<=v/\v<=h.log.length:=by
 unfold ZdN
 rw [Q1,decide_eq_true_eq,decide_eq_true_eq]
theorem c60:Contract Tryz.prog cfg 60 Zb5:=by
 refine ZyE c84 ?_
 intro b u hc hl v _ hp
 have h1:hl.length<=1000000000:=hp
 refine ZDn _ _ _ _ _ _ ?_
 (simp only [iB,vcT,vcS])
 have fin:∀ {r:List Edit × Int} {s:LSt U},Z0J v ⟨.mk b u hc,hl⟩=r->ZK cfg Tryz.f60.ntmps Tryz.f60.results.toList (.tup [(false,[.slice .edit r.1 (.own (.r 0 0))]),(false,[.int .i64 r.2])]) (Z8a ((b,u,hc,hl,()),v,())) .ret s->
   ZK cfg Tryz.f60.ntmps Tryz.f60.results.toList (Zpu ((b,u,hc,hl,()),v,())) (Z8a ((b,u,hc,hl,()),v,())) .ret s:=by
  intro r s h hs
  subst h
  exact hs
 refine ⟨(fun h=> by cases h),fun h=> ?_,fun h=> ⟨V1,by show (hl.drop v.toNat).length<=_;rw [QZ];omega,?_⟩⟩
 .refine fin (r:=([],2)) ?_ (by simp only [Z8a];(repeat' (first | exact trivial | exact rfl | apply And.intro)))
  unfold Z0J
  exact if_neg fun k=> by have k:=Z8e.1 k;dsimp only at k;omega
 .refine fin (r:=(hl.drop v.toNat,0)) ?_ (by simp only [Z8a];(repeat' (first | exact trivial | exact rfl | apply And.intro)))
  unfold Z0J
  exact if_pos (Z8e.2 V3)
theorem c50:Contract Tryz.prog cfg 50 Zb8:=by
 refine ZyI c28 c93 c94 c84 ?_
 intro b hw hc hl v e _ hp
 obtain ⟨h1,h2,h3⟩:=hp
 dsimp only at h1 h2 h3
 refine ZDr _ _ _ _ _ _ _ ?_
 rintro y1 rfl y2 ae
 (simp only [iB,vcT,vcS])
 have fin:∀ {r:HubT × Int × Int} {s:LSt U},Jt v y1 ⟨.mk b hw hc,hl⟩=r->ZK cfg Tryz.f50.ntmps Tryz.f50.results.toList (.tup [(false,[.int .i64 r.2.1]),(false,[.int .i64 r.2.2])]) [[.int .i64 r.1.now.kind,.slice .u64 r.1.now.words .unk,.slice .tree r.1.now.kids .unk,.slice .edit r.1.log .unk]] .ret s->
   ZK cfg Tryz.f50.ntmps Tryz.f50.results.toList (Zpy ((b,hw,hc,hl,()),v,y1,())) (ZiZ ((b,hw,hc,hl,()),v,y1,())) .ret s:=by
  intro r s h hs
  subst h
  exact hs
 have eb:Z0F v y1 ⟨.mk b hw hc,hl⟩=Z0G (hl.drop v.toNat) y1 []:=rfl
 refine ⟨(fun h=> by cases h),fun _=> h1,fun h=> ?_,fun h=> ?_⟩
 .refine fin (r:=(⟨.mk b hw hc,hl⟩,0,2)) (Zu6 fun k=> ?_) V2
  obtain ⟨k1,k2,k3⟩:=ZdM.1 k
  dsimp only at k2
  rcases h with h | h
  .omega
  .rw [k3] at h;cases h
 .obtain ⟨hv,hr⟩:=h
  have hB:Z9a v y1 ⟨.mk b hw hc,hl⟩=true:=ZdM.2 ⟨V1,V3,hr⟩
  obtain ⟨b1,b2⟩:=h2 hB
  rw [eb,<-ae] at b2
  have u:Jt v y1 ⟨.mk b hw hc,hl⟩=_:=if_pos hB
  rw [eb,<-ae] at u
  refine ⟨V1,⟨b1,by show (hl.drop v.toNat).length<=_;rw [QZ];omega⟩,fun hn=> ?_,fun h0=> ⟨b2 h0,fun hm=> ?_,fun hm=> ⟨by show hl.length<=_;omega,by simp only [Qm,Qe];omega,?_⟩⟩⟩
  .rw [if_neg hn] at u
   exact fin u V2
  .rw [if_pos h0,if_neg hm] at u
   exact fin u V2
  .rw [if_pos h0,if_pos hm] at u
   refine fin u ?_
   rw [show (((hl++[y2]).length:Nat):Int)=(hl.length:Int)+1 by rw [Qa];rfl]
   exact V2
end Go.AM.YtpjenobkibfpcaaGreat
