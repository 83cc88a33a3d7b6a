import Derived.Test.YtpjenobkibfpcaaCL30d
import Derived.Test.YtpjenobkibfpcaaCB30a
set_option linter.unusedSimpArgs false
set_option linter.unusedVariables false
namespace Go.AM.Ytpjenobkibfpcaa
open Go.AM Go.Proofs
noncomputable section
def Zl8:ArgL (WEdit × Unit):=(.cons (aEl .wedit) .nil)
def ZeQ(a:WEdit × Unit):Prop:=True
def ZhY(a:WEdit × Unit):V U:= .c (.bool (decide (WEdit.mask a.1=0)))
def Z2g:Fs U:=fs Zl8 (fun a=> [ZeQ a]) ZhY
def Zl7:ArgL (Kid × Unit):=(.cons (aEl .kid) .nil)
def ZeO(a:Kid × Unit):Prop:=True
def ZhX(a:Kid × Unit):V U:= .c (.bool (decide (Edit.kind a.1.e=0)))
def Z2f:Fs U:=fs Zl7 (fun a=> [ZeO a]) ZhX
def Zi9(a:Op × Unit):Prop:=True
def ZhV(a:Op × Unit):V U:= .c (.bool (!decide (OpOf.kind a.1=0)))
def Z6C:Fs U:=fs Zl1 (fun a=> [Zi9 a]) ZhV
def Zl0:ArgL (List WEdit × Unit × Unit):=(.cons (aSl .wedit) (.cons (aFn 174) .nil))
def ZeJ(a:List WEdit × Unit × Unit):Prop:=(a.1).length<=1000000000000
def Zet(a:List WEdit × Unit × Unit):V U:= .c (ci (YT (fun w:WEdit=> decide (WEdit.mask w=0)) a.1 0))
def Z6z:Fs U:=fs Zl0 (fun a=> [ZeJ a]) Zet
def ZhA:ArgL (List Kid × Unit × Unit):=(.cons (aSl .kid) (.cons (aFn 176) .nil))
def Zar(a:List Kid × Unit × Unit):Prop:=(a.1).length<=1000000000000
def Zan(a:List Kid × Unit × Unit):V U:= .c (ci (YT (fun k:Kid=> decide (Edit.kind k.e=0)) a.1 0))
def Z3X:Fs U:=fs ZhA (fun a=> [Zar a]) Zan
def ZkZ:ArgL (List Op × Unit × Unit):=(.cons (aSl .op) (.cons (aFn 182) .nil))
def ZeI(a:List Op × Unit × Unit):Prop:=(a.1).length<=1000000000000
def Zes(a:List Op × Unit × Unit):V U:= .c (ci (YT (fun o:Op=> !decide (OpOf.kind o=0)) a.1 0))
def Z6y:Fs U:=fs ZkZ (fun a=> [ZeI a]) Zes
def ZhW(a:List Op × Unit × Unit):V U:= .c (.bool ((a.1).any fun o=> !decide (OpOf.kind o=0)))
def Z6D:Fs U:=fs ZkZ (fun a=> [ZeI a]) ZhW
def Zew(a:Int × Unit):V U:= .c (sU .op (JB a.1) (.own (.r 0 0)))
def Z6F:Fs U:=fs Zli (fun a=> [Zib a]) Zew
def Zld:ArgL (List WEdit × Unit):=(.cons (aSl .wedit) .nil)
def ZbN(a:List WEdit × Unit):Prop:=(a.1).length<=100000000000
def Zal(a:List WEdit × Unit):List WEdit:=a.1
def Za8:Fs U:=fsL Zld (fun a=> [ZbN a]) .wedit Zal
def Zlb:ArgL (List Kid × Unit):=(.cons (aSl .kid) .nil)
def ZbL(a:List Kid × Unit):Prop:=(a.1).length<=100000000000
def Zak(a:List Kid × Unit):List Kid:=a.1
def Za5:Fs U:=fsL Zlb (fun a=> [ZbL a]) .kid Zak
def ZaB:ArgM (List WEdit × Unit × Unit):=(.lst (cWt .wedit (.e 0 0)) (.cons (aFn 174) .nil))
def Zey(a:List WEdit × Unit × Unit):V U:= .c (sU .wedit ((a.1).filter fun w=> !decide (WEdit.mask w=0)) .unk)
def Zae(a:List WEdit × Unit × Unit):List (List (C U)):=[]
def Zai(a:List WEdit × Unit × Unit):List (Tok × LC U):=[]
def Z6H:Fs U:=(ZcW ZaB (fun a=> [ZeJ a]) Zey Zae Zai).passing [0]
def ZaA:ArgM (List Kid × Unit × Unit):=(.lst (cWt .kid (.e 0 0)) (.cons (aFn 176) .nil))
def Zex(a:List Kid × Unit × Unit):V U:= .c (sU .kid ((a.1).filter fun k=> !decide (Edit.kind k.e=0)) .unk)
def Zad(a:List Kid × Unit × Unit):List (List (C U)):=[]
def Zah(a:List Kid × Unit × Unit):List (Tok × LC U):=[]
def Z6G:Fs U:=(ZcW ZaA (fun a=> [Zar a]) Zex Zad Zah).passing [0]
def ZaC:ArgM ((Int × Int × List Int × List Tree × Int × List Int × List Tree × List WEdit × List Kid × Int × List Op × Unit) × Unit):=(.agg (.cons (Zfo .i64) (.cons (Zfo .i64) (.cons (cSl .u64) (.cons (cSl .tree) (.cons (Zfo .i64) (.cons (cSl .u64) (.cons (cSl .tree) (.cons (cWt .wedit (.e 0 7)) (.cons (cWt .kid (.e 0 8)) (.cons (Zfo .i64) (.cons (cSl .op) .nil))))))))))) .nil)
def ZbK(a:(Int × Int × List Int × List Tree × Int × List Int × List Tree × List WEdit × List Kid × Int × List Op × Unit) × Unit):Prop:=(a.1.2.2.2.2.2.2.2.1).length<=10000000000/\(a.1.2.2.2.2.2.2.2.2.1).length<=10000000000
def ZeB(a:(Int × Int × List Int × List Tree × Int × List Int × List Tree × List WEdit × List Kid × Int × List Op × Unit) × Unit):V U:= .agg (enc .edit (Z2J (Edit.mk a.1.1 (Tree.mk a.1.2.1 a.1.2.2.1 a.1.2.2.2.1) (Tree.mk a.1.2.2.2.2.1 a.1.2.2.2.2.2.1 a.1.2.2.2.2.2.2.1) a.1.2.2.2.2.2.2.2.1 a.1.2.2.2.2.2.2.2.2.1 a.1.2.2.2.2.2.2.2.2.2.1 a.1.2.2.2.2.2.2.2.2.2.2.1)))
def Zag(a:(Int × Int × List Int × List Tree × Int × List Int × List Tree × List WEdit × List Kid × Int × List Op × Unit) × Unit):List (List (C U)):=[]
def Zaj(a:(Int × Int × List Int × List Tree × Int × List Int × List Tree × List WEdit × List Kid × Int × List Op × Unit) × Unit):List (Tok × LC U):=[]
def Za4:Fs U:=(ZcW ZaC (fun a=> [ZbK a]) ZeB Zag Zaj).passing [0]
def ZbJ(a:Int × List Op × Unit):Prop:=(a.2.1).length<=1000000000000
def ZeA(a:Int × List Op × Unit):V U:= .agg (enc .edit (Z0j a.1 a.2.1))
def Za1:Fs U:=fs Zfr (fun a=> [ZbJ a]) ZeA
def ZfC:ArgM ((Bool × Bool × Unit) × Edit × Tree × Tree × Unit):=(.obj 0 (.cons Z1g (.cons Z1g .nil)) (.cons (aEl .edit) (.cons (aEl .tree) (.cons (aEl .tree) .nil))))
def Z8q(a:(Bool × Bool × Unit) × Edit × Tree × Tree × Unit):Prop:=(Z8 a.2.1<=20000000000/\Yl a.2.1/\∃ d,Z5 a.2.1 d=true)/\(Zi a.2.2.1+ctE a.2.1<=200000000000/\rng a.2.2.1)/\Zi a.2.2.2.1<=100000000000
def ZbA(a:(Bool × Bool × Unit) × Edit × Tree × Tree × Unit):V U:= .tup []
def Z6Y(a:(Bool × Bool × Unit) × Edit × Tree × Tree × Unit):List (List (C U)):=[[.bool (a.1.1 || (JX a.2.1 a.2.2.1 a.2.2.2.1).c),.bool (a.1.2.1 || (JX a.2.1 a.2.2.1 a.2.2.2.1).a)]]
def Zaa:Fs U:=fsX ZfC (fun a=> [Z8q a]) ZbA Z6Y
def ZfA:ArgM ((Unit × List Op × List Op × List Tree × List Tree × Unit) × (Bool × Bool × Unit) × Unit):=(.obj 0 (.cons (cXp 1) (.cons (Z3a .op 0 1) (.cons (Z3a .op 0 2) (.cons (Z3a .tree 0 3) (.cons (Z3a .tree 0 4) .nil))))) (.hid (.cons Z1g (.cons Z1g .nil)) .nil))
def ZeT(a:(Unit × List Op × List Op × List Tree × List Tree × Unit) × (Bool × Bool × Unit) × Unit):Prop:=((a.1.2.1).length<=10000000000/\(a.1.2.2.1).length<=10000000000)/\Z7 a.1.2.2.2.1<=100000000000/\Z7 a.1.2.2.2.2.1<=100000000000
def ZnW(a:(Unit × List Op × List Op × List Tree × List Tree × Unit) × (Bool × Bool × Unit) × Unit):V U:= .tup []
def Z6U(a:(Unit × List Op × List Op × List Tree × List Tree × Unit) × (Bool × Bool × Unit) × Unit):List (List (C U)):=[[.xp 1,sU .op (a.1.2.1++(Jc a.1.2.2.2.1 a.1.2.2.2.2.1).x) (.own (.x 0 1)),sU .op (a.1.2.2.1++(Jc a.1.2.2.2.1 a.1.2.2.2.2.1).y) (.own (.x 0 2)),sU .tree ([]:List Tree) (.own (.x 0 3)),sU .tree ([]:List Tree) (.own (.x 0 4))],[.bool (a.2.1.1 || (Jc a.1.2.2.2.1 a.1.2.2.2.2.1).c),.bool a.2.1.2.1]]
def Za2:Fs U:=fsX ZfA (fun a=> [ZeT a]) ZnW Z6U
abbrev Zzs(p:List Nat):=AW (Z6 Ziz) Try.f174 Zvi p
theorem Zxj(w:WEdit)(Q:QT)(h:(Q .ret (L2 [pB 2 (w.mask==0)] []))):
  Zzs [] (L2 [(0,.agg (enc .wedit w))] []) Q:=
 Eq.mpr (by kernel_rfl) h
def Zt3(w:WEdit):Prop:=AW (Z6 Ziz) Try.f174 Zvi [] (Zm (Zl8.can (w,())) []) (EQ Try.f174 (ZhY (w,())) [])
theorem ZrO(hb:∀ (w:WEdit) (_:Unit),ZeQ (w,())->Zt3 w):CT 174 Z2g:=
 Z4 (l:=[]) Zn rfl trivial Zvi Try.func174 rfl rfl 1 (fun _=> rfl) (by decide) (fun ⟨w,_⟩=> hb w ())
abbrev Zzr(p:List Nat):=AW (Z6 Ziz) Try.f176 Zvi p
theorem Zxh(k:Kid)(Q:QT)(h:(Q .ret (L2 [pB 2 (k.e.kind==0)] []))):
  Zzr [] (L2 [(0,.agg (enc .kid k))] []) Q:=
 Eq.mpr (by kernel_rfl) h
def Zt1(k:Kid):Prop:=AW (Z6 Ziz) Try.f176 Zvi [] (Zm (Zl7.can (k,())) []) (EQ Try.f176 (ZhX (k,())) [])
theorem ZrM(hb:∀ (k:Kid) (_:Unit),ZeO (k,())->Zt1 k):CT 176 Z2f:=
 Z4 (l:=[]) Zn rfl trivial Zvi Try.func176 rfl rfl 1 (fun _=> rfl) (by decide) (fun ⟨k,_⟩=> hb k ())
abbrev Zzl(p:List Nat):=AW (Z6 Ziz) Try.f182 Zvi p
theorem Zxb(o:Op)(Q:QT)(h:(Q .ret (L2 [pB 2 (o.kind !=0)] []))):
  Zzl [] (L2 [(0,.agg (enc .op o))] []) Q:=
 Eq.mpr (by kernel_rfl) h
def ZsV(o:Op):Prop:=AW (Z6 Ziz) Try.f182 Zvi [] (Zm (Zl1.can (o,())) []) (EQ Try.f182 (ZhV (o,())) [])
theorem ZrG(hb:∀ (o:Op) (_:Unit),Zi9 (o,())->ZsV o):CT 182 Z6C:=
 Z4 (l:=[]) Zn rfl trivial Zvi Try.func182 rfl rfl 1 (fun _=> rfl) (by decide) (fun ⟨o,_⟩=> hb o ())
def Zfb:List (FuncId × Fs U):=[(174,Z2g)]
def Zk8:Zf U:=lvl [([0,1],[]),([0,1,7,8],[]),([0,1,7,8,9],[]),([0,1,5,7,8],[]),([0,1,5,7,8,16],[]),([4],[]),([0,1,7,8],[]),([4],[])]
def Z5c(l:List WEdit)(f:Unit)(x8:Int):LSt U:=(L2 [(0,.c (sU .wedit l .unk)),(1,.fn 174),pI 7 (l.length:Int),pI 8 x8] [])
abbrev ZwU(p:List Nat):=AW (Z6 Zfb) Try.f192 Zk8 p
abbrev Zyu(p:List Nat):=SW (Z6 Zfb) Try.f192 Zk8 p
theorem Zx6(l:List WEdit)(f:Unit)(Q:QT)(h:(Zo (ZwU [1,0,1,0,0]) (Z5c l f 0) (xB 0 (Zyu [1,1] Q)))):
  ZwU [] (L2 [(0,.c (sU .wedit l .unk)),(1,.fn 174)] []) Q:=
 Eq.mpr (by kernel_rfl) h
theorem Znc(l:List WEdit)(f:Unit)(x8:Int)(N0:NT)(Q:QT)(h:let z2:=decide (x8 < (l.length:Int));let z1:=l.getD x8.toNat (WEdit.mk 0 0 0 0);let z0:=WEdit.mk (WEdit.at_ z1) (WEdit.mask z1) (WEdit.old z1) (WEdit.new z1);((z2=true->(((0:Int)<=x8/\x8 < (l.length:Int))/\(ZeQ (z0,()))/\(((decide (WEdit.mask z0=0))=true->(Q .ret (L2 [pI 4 x8] [])))/\((decide (WEdit.mask z0=0))=false->(InR (x8+1))/\(N0 (Z5c l f (x8+1)))))))/\(z2=false->(Q .ret (L2 [pI 4 (-1)] []))))):
  ZwU [1,0,1,0,0] (Z5c l f x8) (xT N0 (xB 0 (Zyu [1,1] Q))):=
 Eq.mpr (by kernel_rfl) h
def ZsQ(l:List WEdit)(f:Unit):Prop:=AW (Z6 Zfb) Try.f192 Zk8 [] (Zm (Zl0.can (l,f,())) []) (EQ Try.f192 (Zet (l,f,())) [])
theorem ZrB(ZmN:CT 174 Z2g)(hb:∀ (l:List WEdit) (f:Unit) (_:Unit),ZeJ (l,f,())->ZsQ l f):CT 192 Z6z:=
 Z4 (l:=[(174,Z2g)]) Zn rfl (⟨ZmN,trivial⟩) Zk8 Try.func192 rfl rfl 2 (fun _=> rfl) (by decide) (fun ⟨l,f,_⟩=> hb l f ())
def Zcm:List (FuncId × Fs U):=[(176,Z2f)]
def Z3B(l:List Kid)(f:Unit)(x8:Int):LSt U:=(L2 [(0,.c (sU .kid l .unk)),(1,.fn 176),pI 7 (l.length:Int),pI 8 x8] [])
abbrev ZqB(p:List Nat):=AW (Z6 Zcm) Try.f72 Zk8 p
abbrev Zuf(p:List Nat):=SW (Z6 Zcm) Try.f72 Zk8 p
theorem Zur(l:List Kid)(f:Unit)(Q:QT)(h:(Zo (ZqB [1,0,1,0,0]) (Z3B l f 0) (xB 0 (Zuf [1,1] Q)))):
  ZqB [] (L2 [(0,.c (sU .kid l .unk)),(1,.fn 176)] []) Q:=
 Eq.mpr (by kernel_rfl) h
theorem ZlB(l:List Kid)(f:Unit)(x8:Int)(N0:NT)(Q:QT)(h:∀ y_1,y_1=(l.getD x8.toNat (KidOf.mk 0 Edit.nil))->∀ y_2,y_2=y_1->let z1:=decide (Edit.kind y_2.e=0);let z0:=decide (x8 < (l.length:Int));((z0=true->(((0:Int)<=x8/\x8 < (l.length:Int))/\(ZeO (y_2,()))/\((z1=true->(Q .ret (L2 [pI 4 x8] [])))/\(z1=false->(InR (x8+1))/\(N0 (Z3B l f (x8+1)))))))/\(z0=false->(Q .ret (L2 [pI 4 (-1)] []))))):
  ZqB [1,0,1,0,0] (Z3B l f x8) (xT N0 (xB 0 (Zuf [1,1] Q))):=
 Eq.mpr (by kernel_rfl) (h _ rfl _ (Zgq _))
def ZqA(l:List Kid)(f:Unit):Prop:=AW (Z6 Zcm) Try.f72 Zk8 [] (Zm (ZhA.can (l,f,())) []) (EQ Try.f72 (Zan (l,f,())) [])
theorem ZoN(ZmM:CT 176 Z2f)(hb:∀ (l:List Kid) (f:Unit) (_:Unit),Zar (l,f,())->ZqA l f):CT 72 Z3X:=
 Z4 (l:=[(176,Z2f)]) Zn rfl (⟨ZmM,trivial⟩) Zk8 Try.func72 rfl rfl 2 (fun _=> rfl) (by decide) (fun ⟨l,f,_⟩=> hb l f ())
def Zfa:List (FuncId × Fs U):=[(182,Z6C)]
def Z5b(l:List Op)(f:Unit)(x8:Int):LSt U:=(L2 [(0,.c (sU .op l .unk)),(1,.fn 182),pI 7 (l.length:Int),pI 8 x8] [])
abbrev ZwT(p:List Nat):=AW (Z6 Zfa) Try.f193 Zk8 p
abbrev Zyt(p:List Nat):=SW (Z6 Zfa) Try.f193 Zk8 p
theorem Zx5(l:List Op)(f:Unit)(Q:QT)(h:(Zo (ZwT [1,0,1,0,0]) (Z5b l f 0) (xB 0 (Zyt [1,1] Q)))):
  ZwT [] (L2 [(0,.c (sU .op l .unk)),(1,.fn 182)] []) Q:=
 Eq.mpr (by kernel_rfl) h
theorem Znb(l:List Op)(f:Unit)(x8:Int)(N0:NT)(Q:QT)(h:∀ y_1,y_1=(l.getD x8.toNat Op.nil)->∀ y_2,y_2=y_1->let z0:=decide (x8 < (l.length:Int));((z0=true->(((0:Int)<=x8/\x8 < (l.length:Int))/\(Zi9 (y_2,()))/\(((!decide (OpOf.kind y_2=0))=true->(Q .ret (L2 [pI 4 x8] [])))/\((!decide (OpOf.kind y_2=0))=false->(InR (x8+1))/\(N0 (Z5b l f (x8+1)))))))/\(z0=false->(Q .ret (L2 [pI 4 (-1)] []))))):
  ZwT [1,0,1,0,0] (Z5b l f x8) (xT N0 (xB 0 (Zyt [1,1] Q))):=
 Eq.mpr (by kernel_rfl) (h _ rfl _ (YA _))
def ZsP(l:List Op)(f:Unit):Prop:=AW (Z6 Zfa) Try.f193 Zk8 [] (Zm (ZkZ.can (l,f,())) []) (EQ Try.f193 (Zes (l,f,())) [])
theorem ZrA(ZvK:CT 182 Z6C)(hb:∀ (l:List Op) (f:Unit) (_:Unit),ZeI (l,f,())->ZsP l f):CT 193 Z6y:=
 Z4 (l:=[(182,Z6C)]) Zn rfl (⟨ZvK,trivial⟩) Zk8 Try.func193 rfl rfl 2 (fun _=> rfl) (by decide) (fun ⟨l,f,_⟩=> hb l f ())
def Zkp:List (FuncId × Fs U):=[(193,Z6y)]
abbrev Zzm(p:List Nat):=AW (Z6 Zkp) Try.f181 Zvf p
theorem Zxc(l:List Op)(f:Unit)(Q:QT)(h:((ZeI (l,(),()))/\(Q .ret (L2 [(4,.c (.bool (decide ((0:Int)<=(YT (fun o:Op=> !decide (OpOf.kind o=0)) l 0)))))] [])))):
  Zzm [] (L2 [(0,.c (sU .op l .unk)),(1,.fn 182)] []) Q:=
 Eq.mpr (by kernel_rfl) h
def ZsW(l:List Op)(f:Unit):Prop:=AW (Z6 Zkp) Try.f181 Zvf [] (Zm (ZkZ.can (l,f,())) []) (EQ Try.f181 (ZhW (l,f,())) [])
theorem ZrH(ZvG:CT 193 Z6y)(hb:∀ (l:List Op) (f:Unit) (_:Unit),ZeI (l,f,())->ZsW l f):CT 181 Z6D:=
 Z4 (l:=[(193,Z6y)]) Zn rfl (⟨ZvG,trivial⟩) Zvf Try.func181 rfl rfl 2 (fun _=> rfl) (by decide) (fun ⟨l,f,_⟩=> hb l f ())
abbrev Zzq(p:List Nat):=AW (Z6 Ziz) Try.f177 Zph p
theorem Zxg(n:Int)(Q:QT)(h:(((n==0)=true->(Q .ret (L2 [(2,.c (.nils))] [])))/\((n==0)=false->(Q .ret (L2 [(2,.c (sU .op ([(OpOf.mk 0 n [] (Edit.mk 0 (Tree.mk 0 [] []) (Tree.mk 0 [] []) [] [] 0 []))]) .full))] []))))):
  Zzq [] (L2 [pI 0 n] []) Q:=
 Eq.mpr (by kernel_rfl) h
def Zt0(n:Int):Prop:=AW (Z6 Ziz) Try.f177 Zph [] (Zm (Zli.can (n,())) []) (EQ Try.f177 (Zew (n,())) [])
theorem ZrL(hb:∀ (n:Int) (_:Unit),Zib (n,())->Zt0 n):CT 177 Z6F:=
 Z4 (l:=[]) Zn rfl trivial Zph Try.func177 rfl rfl 1 (fun _=> rfl) (by decide) (fun ⟨n,_⟩=> hb n ())
def Zp9:Zf U:=fun i=> match i with
 | 0=> ([(0,[])],[])
 | 1=> ([(0,[]),(4,[])],[])
 | 2=> ([(2,[.wr .wedit])],[])
 | 3=> ([(2,[.wr .wedit])],[])
 | _=> ([],[])
abbrev ZzB(p:List Nat):=AW (Z26 Ziz) Try.f153 Zp9 p
theorem Zxu(l:List WEdit)(Q:QT)(h:(((l=[])->(Q .ret (⟨[(2,.c (.mref (.e 2 0)))],[],[(.e 2 0,LC.mk (U:=U) .wedit [] 0)]⟩:LSt U)))/\(True->((([]:List WEdit).length+l.length)*32<=140737488355328)/\(Q .ret (⟨[(2,.c (.mref (.e 2 0)))],[],[(.e 2 0,LC.mk (U:=U) .wedit (([]:List WEdit)++l) (([]:List WEdit).length))]⟩:LSt U))))):
  ZzB [] (L2 [(0,.c (sU .wedit l .unk))] []) Q:=
 Eq.mpr (by kernel_rfl) h
def Zte(l:List WEdit):Prop:=AW (Z26 Ziz) Try.f153 Zp9 [] (Zm (Zld.can (l,())) []) (Z06 cfg Try.f153.ntmps Try.f153.results.toList (.c (.mref (.r 0 0))) [] [(.r 0 0,LC.mk (U:=U) .wedit (Zal (l,())) 0)])
theorem ZrY(hb:∀ (l:List WEdit) (_:Unit),ZbN (l,())->Zte l):CT 153 Za8:=
 Z0v (l:=[]) Zn rfl trivial Zp9 Try.func153 rfl rfl 1 (fun _=> rfl) (by decide) (fun ⟨l,_⟩=> hb l ())
def Zp6:Zf U:=fun i=> match i with
 | 0=> ([(0,[])],[])
 | 1=> ([(0,[]),(4,[])],[])
 | 2=> ([(2,[.wr .kid])],[])
 | 3=> ([(2,[.wr .kid])],[])
 | _=> ([],[])
abbrev Zzy(p:List Nat):=AW (Z26 Ziz) Try.f156 Zp6 p
theorem Zxr(l:List Kid)(Q:QT)(h:(((l=[])->(Q .ret (⟨[(2,.c (.mref (.e 2 0)))],[],[(.e 2 0,LC.mk (U:=U) .kid [] 0)]⟩:LSt U)))/\(True->((([]:List Kid).length+l.length)*208<=140737488355328)/\(Q .ret (⟨[(2,.c (.mref (.e 2 0)))],[],[(.e 2 0,LC.mk (U:=U) .kid (([]:List Kid)++l) (([]:List Kid).length))]⟩:LSt U))))):
  Zzy [] (L2 [(0,.c (sU .kid l .unk))] []) Q:=
 Eq.mpr (by kernel_rfl) h
def Ztb(l:List Kid):Prop:=AW (Z26 Ziz) Try.f156 Zp6 [] (Zm (Zlb.can (l,())) []) (Z06 cfg Try.f156.ntmps Try.f156.results.toList (.c (.mref (.r 0 0))) [] [(.r 0 0,LC.mk (U:=U) .kid (Zak (l,())) 0)])
theorem ZrV(hb:∀ (l:List Kid) (_:Unit),ZbL (l,())->Ztb l):CT 156 Za5:=
 Z0v (l:=[]) Zn rfl trivial Zp6 Try.func156 rfl rfl 1 (fun _=> rfl) (by decide) (fun ⟨l,_⟩=> hb l ())
def Zfd:List (FuncId × Fs U):=[(174,Z2g),(192,Z6z.lend)]
def Zka:Zf U:=fun i=> match i with
 | 0=> ([(0,[.wr .wedit]),(1,[])],[])
 | 1=> ([(0,[.wr .wedit]),(1,[]),(5,[])],[])
 | 2=> ([(0,[.wr .wedit]),(1,[]),(5,[]),(12,[])],[])
 | 3=> ([(4,[])],[])
 | 4=> ([(0,[.wr .wedit]),(1,[]),(5,[]),(6,[])],[])
 | 5=> ([(0,[.wr .wedit]),(1,[]),(5,[]),(6,[]),(19,[])],[])
 | 6=> ([(0,[.wr .wedit]),(1,[]),(5,[]),(6,[])],[])
 | 7=> ([(0,[.wr .wedit]),(1,[]),(5,[]),(6,[]),(7,[])],[(.loc 7,[])])
 | 8=> ([(0,[.wr .wedit]),(1,[]),(5,[]),(6,[]),(7,[]),(29,[])],[(.loc 7,[])])
 | 9=> ([(0,[.wr .wedit]),(1,[]),(5,[]),(6,[])],[])
 | 10=> ([(0,[.wr .wedit]),(1,[]),(5,[]),(6,[])],[])
 | 11=> ([(0,[.wr .wedit]),(5,[])],[])
 | 12=> ([(4,[])],[])
 | _=> ([],[])
def Z34(l:List WEdit)(f:Unit)(x5 x6:Int)(re_0_0:List WEdit):LSt U:=(⟨[(0,.c (.mref (.e 0 0))),(1,.fn 174),pI 5 x5,pI 6 x6],[],[(.e 0 0,LC.mk (U:=U) .wedit re_0_0 0)]⟩:LSt U)
abbrev ZwW(p:List Nat):=AW (Z6 Zfd) Try.f173 Zka p
abbrev Zyw(p:List Nat):=SW (Z6 Zfd) Try.f173 Zka p
theorem Zxk(l:List WEdit)(f:Unit)(Q:QT)(h:((ZeJ (l,(),()))/\(((((YT (fun w:WEdit=> decide (WEdit.mask w=0)) l 0):Int)==(-1))=true->(Q .ret (L2 [(4,.c (sU .wedit l (.own (.e 4 0))))] [])))/\((((YT (fun w:WEdit=> decide (WEdit.mask w=0)) l 0):Int)==(-1))=false->(InR (((YT (fun w:WEdit=> decide (WEdit.mask w=0)) l 0):Int)+1))/\(Zo (ZwW [1,1,1,0,1,0,0]) (Z34 l f (YT (fun w:WEdit=> decide (WEdit.mask w=0)) l 0) (((YT (fun w:WEdit=> decide (WEdit.mask w=0)) l 0):Int)+1) l) (xB 0 (Zyw [1,1,1,1] Q))))))):
  ZwW [] (⟨[(0,.c (.mref (.e 0 0))),(1,.fn 174)],[],[(.e 0 0,LC.mk (U:=U) .wedit l 0)]⟩:LSt U) Q:=
 Eq.mpr (by kernel_rfl) h
theorem Zne(l:List WEdit)(f:Unit)(x5 x6:Int)(re_0_0:List WEdit)(N0:NT)(Q:QT)(h:∀ y_1,y_1=(re_0_0.getD x6.toNat (WEdit.mk 0 0 0 0))->∀ y_2,y_2=y_1->let z1:= !(decide (WEdit.mask y_2=0));let z0:=decide (x6 < (re_0_0.length:Int));((z0=true->((0:Int)<=x6/\x6 < (re_0_0.length:Int))/\((ZeQ (y_2,()))/\((z1=true->((0:Int)<=x5/\x5 < (re_0_0.length:Int))/\((0:Nat)<=x5.toNat)/\((InR (x5+1))/\((InR (x6+1))/\(N0 (Z34 l f (x5+1) (x6+1) (List.set re_0_0 x5.toNat y_2))))))/\(z1=false->(InR (x6+1))/\(N0 (Z34 l f x5 (x6+1) re_0_0))))))/\(z0=false->((0:Int)<=x5/\x5<=(re_0_0.length:Int))/\((0:Nat)<=x5.toNat)/\(((0:Int)<=x5/\x5<=((List.take x5.toNat re_0_0++List.replicate (re_0_0.length - Int.toNat x5) (WEdit.mk 0 0 0 0)).length:Int))/\(Q .ret (L2 [(4,.c (sU .wedit (List.take x5.toNat (List.take x5.toNat re_0_0++List.replicate (re_0_0.length - Int.toNat x5) (WEdit.mk 0 0 0 0))) .unk))] [])))))):
  ZwW [1,1,1,0,1,0,0] (Z34 l f x5 x6 re_0_0) (xT N0 (xB 0 (Zyw [1,1,1,1] Q))):=
 Eq.mpr (by kernel_rfl) (h _ rfl _ (Z1V _))
def Zt4(l:List WEdit)(f:Unit):Prop:=AW (Z6 Zfd) Try.f173 Zka [] (JE (ZaB.can (l,f,())) (ZaB.canX (l,f,())) (ZaB.canL (l,f,()))) (Z06 cfg Try.f173.ntmps Try.f173.results.toList (Zey (l,f,())) (Zae (l,f,())) (Zai (l,f,())))
theorem ZrP(ZmN:CT 174 Z2g)(ZvH:CT 192 Z6z)(hb:∀ (l:List WEdit) (f:Unit) (_:Unit),ZeJ (l,f,())->Zt4 l f):CT 173 Z6H:=
 Contract.passing <| Yn (l:=[(174,Z2g),(192,Z6z.lend)]) Zn rfl (⟨ZmN,ZvH.lend,trivial⟩) Zka Try.func173 rfl rfl 2 (fun _=> rfl) (by decide) (fun ⟨l,f,_⟩=> hb l f ())
def Zfc:List (FuncId × Fs U):=[(176,Z2f),(72,Z3X.lend)]
def Zk9:Zf U:=fun i=> match i with
 | 0=> ([(0,[.wr .kid]),(1,[])],[])
 | 1=> ([(0,[.wr .kid]),(1,[]),(5,[])],[])
 | 2=> ([(0,[.wr .kid]),(1,[]),(5,[]),(12,[])],[])
 | 3=> ([(4,[])],[])
 | 4=> ([(0,[.wr .kid]),(1,[]),(5,[]),(6,[])],[])
 | 5=> ([(0,[.wr .kid]),(1,[]),(5,[]),(6,[]),(19,[])],[])
 | 6=> ([(0,[.wr .kid]),(1,[]),(5,[]),(6,[])],[])
 | 7=> ([(0,[.wr .kid]),(1,[]),(5,[]),(6,[]),(7,[])],[(.loc 7,[])])
 | 8=> ([(0,[.wr .kid]),(1,[]),(5,[]),(6,[]),(7,[]),(29,[])],[(.loc 7,[])])
 | 9=> ([(0,[.wr .kid]),(1,[]),(5,[]),(6,[])],[])
 | 10=> ([(0,[.wr .kid]),(1,[]),(5,[]),(6,[])],[])
 | 11=> ([(0,[.wr .kid]),(5,[])],[])
 | 12=> ([(4,[])],[])
 | _=> ([],[])
def Z33(l:List Kid)(f:Unit)(x5 x6:Int)(re_0_0:List Kid):LSt U:=(⟨[(0,.c (.mref (.e 0 0))),(1,.fn 176),pI 5 x5,pI 6 x6],[],[(.e 0 0,LC.mk (U:=U) .kid re_0_0 0)]⟩:LSt U)
abbrev ZwV(p:List Nat):=AW (Z6 Zfc) Try.f175 Zk9 p
abbrev Zyv(p:List Nat):=SW (Z6 Zfc) Try.f175 Zk9 p
theorem Zxi(l:List Kid)(f:Unit)(Q:QT)(h:((Zar (l,(),()))/\(((((YT (fun k:Kid=> decide (Edit.kind k.e=0)) l 0):Int)==(-1))=true->(Q .ret (L2 [(4,.c (sU .kid l (.own (.e 4 0))))] [])))/\((((YT (fun k:Kid=> decide (Edit.kind k.e=0)) l 0):Int)==(-1))=false->(InR (((YT (fun k:Kid=> decide (Edit.kind k.e=0)) l 0):Int)+1))/\(Zo (ZwV [1,1,1,0,1,0,0]) (Z33 l f (YT (fun k:Kid=> decide (Edit.kind k.e=0)) l 0) (((YT (fun k:Kid=> decide (Edit.kind k.e=0)) l 0):Int)+1) l) (xB 0 (Zyv [1,1,1,1] Q))))))):
  ZwV [] (⟨[(0,.c (.mref (.e 0 0))),(1,.fn 176)],[],[(.e 0 0,LC.mk (U:=U) .kid l 0)]⟩:LSt U) Q:=
 Eq.mpr (by kernel_rfl) h
theorem Znd(l:List Kid)(f:Unit)(x5 x6:Int)(re_0_0:List Kid)(N0:NT)(Q:QT)(h:∀ y_1,y_1=(re_0_0.getD x6.toNat (KidOf.mk 0 Edit.nil))->∀ y_2,y_2=y_1->let z1:= !(decide (Edit.kind y_2.e=0));let z0:=decide (x6 < (re_0_0.length:Int));((z0=true->((0:Int)<=x6/\x6 < (re_0_0.length:Int))/\((ZeO (y_2,()))/\((z1=true->((0:Int)<=x5/\x5 < (re_0_0.length:Int))/\((0:Nat)<=x5.toNat)/\((InR (x5+1))/\((InR (x6+1))/\(N0 (Z33 l f (x5+1) (x6+1) (List.set re_0_0 x5.toNat y_2))))))/\(z1=false->(InR (x6+1))/\(N0 (Z33 l f x5 (x6+1) re_0_0))))))/\(z0=false->((0:Int)<=x5/\x5<=(re_0_0.length:Int))/\((0:Nat)<=x5.toNat)/\(((0:Int)<=x5/\x5<=((List.take x5.toNat re_0_0++List.replicate (re_0_0.length - Int.toNat x5) (KidOf.mk 0 Edit.nil)).length:Int))/\(Q .ret (L2 [(4,.c (sU .kid (List.take x5.toNat (List.take x5.toNat re_0_0++List.replicate (re_0_0.length - Int.toNat x5) (KidOf.mk 0 Edit.nil))) .unk))] [])))))):
  ZwV [1,1,1,0,1,0,0] (Z33 l f x5 x6 re_0_0) (xT N0 (xB 0 (Zyv [1,1,1,1] Q))):=
 Eq.mpr (by kernel_rfl) (h _ rfl _ (Zgq _))
def Zt2(l:List Kid)(f:Unit):Prop:=AW (Z6 Zfc) Try.f175 Zk9 [] (JE (ZaA.can (l,f,())) (ZaA.canX (l,f,())) (ZaA.canL (l,f,()))) (Z06 cfg Try.f175.ntmps Try.f175.results.toList (Zex (l,f,())) (Zad (l,f,())) (Zah (l,f,())))
theorem ZrN(ZmM:CT 176 Z2f)(Zq4:CT 72 Z3X)(hb:∀ (l:List Kid) (f:Unit) (_:Unit),Zar (l,f,())->Zt2 l f):CT 175 Z6G:=
 Contract.passing <| Yn (l:=[(176,Z2f),(72,Z3X.lend)]) Zn rfl (⟨ZmM,Zq4.lend,trivial⟩) Zk9 Try.func175 rfl rfl 2 (fun _=> rfl) (by decide) (fun ⟨l,f,_⟩=> hb l f ())
def ZkB:List (FuncId × Fs U):=[(173,Z6H),(175,Z6G)]
def Zp5:Zf U:=fun i=> match i with
 | 0=> ([(1,[]),(2,[])],[(.loc 1,[.any,.any,.any,.any,.any,.any,.any,.wr .wedit,.wr .kid]),(.loc 2,[])])
 | 1=> ([(1,[]),(2,[])],[(.loc 1,[.any,.any,.any,.any,.any,.any,.any,.any,.wr .kid]),(.loc 2,[])])
 | 2=> ([(1,[]),(2,[])],[(.loc 1,[]),(.loc 2,[])])
 | 3=> ([(1,[]),(2,[]),(18,[])],[(.loc 1,[]),(.loc 2,[])])
 | 4=> ([(2,[])],[(.loc 2,[])])
 | 5=> ([(2,[])],[(.loc 2,[])])
 | _=> ([],[])
abbrev Zzx(p:List Nat):=AW (Z6 ZkB) Try.f157 Zp5 p
set_option maxHeartbeats 2000000 in
theorem Zxq(ek eo:Int)(eow:List Int)(eok:List Tree)(en:Int)(enw:List Int)(enk:List Tree)(ew:List WEdit)(ec:List Kid)(li:Int)(eos:List Op)(Q:QT)(h:((ZeJ (ew,(),()))/\((Zar (ec,(),()))/\((InR ((((ew.filter fun w=> !decide (WEdit.mask w=0)).length:Int):Int)+((ec.filter fun k=> !decide (Edit.kind k.e=0)).length:Int)))/\((((((((ew.filter fun w=> !decide (WEdit.mask w=0)).length:Int):Int)+((ec.filter fun k=> !decide (Edit.kind k.e=0)).length:Int)):Int)==0)=true->(Q .ret (L2 [pL 2] [(.loc 2,zc1)])))/\(((((((ew.filter fun w=> !decide (WEdit.mask w=0)).length:Int):Int)+((ec.filter fun k=> !decide (Edit.kind k.e=0)).length:Int)):Int)==0)=false->(Q .ret (L2 [pL 2] [(.loc 2,[ci ek,ci eo,sU .u64 eow .unk,sU .tree eok .unk,ci en,sU .u64 enw .unk,sU .tree enk .unk,sU .wedit (ew.filter fun w=> !decide (WEdit.mask w=0)) .unk,sU .kid (ec.filter fun k=> !decide (Edit.kind k.e=0)) .unk,ci li,sU .op eos .unk])])))))))):
  Zzx [] (⟨[(0,.agg [ci ek,ci eo,sU .u64 eow .unk,sU .tree eok .unk,ci en,sU .u64 enw .unk,sU .tree enk .unk,.mref (.e 0 7),.mref (.e 0 8),ci li,sU .op eos .unk])],[],[(.e 0 7,LC.mk (U:=U) .wedit ew 0),(.e 0 8,LC.mk (U:=U) .kid ec 0)]⟩:LSt U) Q:=
 Eq.mpr (by kernel_rfl) h
def Zta(ek eo:Int)(eow:List Int)(eok:List Tree)(en:Int)(enw:List Int)(enk:List Tree)(ew:List WEdit)(ec:List Kid)(li:Int)(eos:List Op):Prop:=AW (Z6 ZkB) Try.f157 Zp5 [] (JE (ZaC.can ((ek,eo,eow,eok,en,enw,enk,ew,ec,li,eos,()),())) (ZaC.canX ((ek,eo,eow,eok,en,enw,enk,ew,ec,li,eos,()),())) (ZaC.canL ((ek,eo,eow,eok,en,enw,enk,ew,ec,li,eos,()),()))) (Z06 cfg Try.f157.ntmps Try.f157.results.toList (ZeB ((ek,eo,eow,eok,en,enw,enk,ew,ec,li,eos,()),())) (Zag ((ek,eo,eow,eok,en,enw,enk,ew,ec,li,eos,()),())) (Zaj ((ek,eo,eow,eok,en,enw,enk,ew,ec,li,eos,()),())))
set_option maxHeartbeats 2000000 in
theorem ZrU(ZvR:CT 173 Z6H)(ZvQ:CT 175 Z6G)(hb:∀ (ek:Int) (eo:Int) (eow:List Int) (eok:List Tree) (en:Int) (enw:List Int) (enk:List Tree) (ew:List WEdit) (ec:List Kid) (li:Int) (eos:List Op) (_:Unit),ZbK ((ek,eo,eow,eok,en,enw,enk,ew,ec,li,eos,()),())->Zta ek eo eow eok en enw enk ew ec li eos):CT 157 Za4:=
 Contract.passing <| Yn (l:=[(173,Z6H),(175,Z6G)]) Zn rfl (⟨ZvR,ZvQ,trivial⟩) Zp5 Try.func157 rfl rfl 1 (fun _=> rfl) (by decide) (fun ⟨⟨ek,eo,eow,eok,en,enw,enk,ew,ec,li,eos,_⟩,_⟩=> hb ek eo eow eok en enw enk ew ec li eos ())
def Zkx:List (FuncId × Fs U):=[(181,Z6D)]
def Zp1:Zf U:=lvl [([0,1,4],[4]),([0,1,4,7],[4]),([4],[4]),([4],[4])]
abbrev Zzt(p:List Nat):=AW (Z6 Zkx) Try.f161 Zp1 p
theorem Zxm(list:Int)(l:List Op)(Q:QT)(h:((ZeI (l,(),()))/\(((!(l.any fun o=> !decide (OpOf.kind o=0)))=true->(Q .ret (L2 [pL 4] [(.loc 4,zc1)])))/\((!(l.any fun o=> !decide (OpOf.kind o=0)))=false->(Q .ret (L2 [pL 4] [(.loc 4,[ci 3,ci 0,.nils,.nils,ci 0,.nils,.nils,.nils,.nils,ci list,sU .op l .unk])])))))):
  Zzt [] (L2 [pI 0 list,(1,.c (sU .op l .unk))] []) Q:=
 Eq.mpr (by kernel_rfl) h
def Zt6(list:Int)(l:List Op):Prop:=AW (Z6 Zkx) Try.f161 Zp1 [] (Zm (Zfr.can (list,l,())) []) (EQ Try.f161 (ZeA (list,l,())) [])
theorem ZrR(ZvL:CT 181 Z6D)(hb:∀ (list:Int) (l:List Op) (_:Unit),ZbJ (list,l,())->Zt6 list l):CT 161 Za1:=
 Z4 (l:=[(181,Z6D)]) Zn rfl (⟨ZvL,trivial⟩) Zp1 Try.func161 rfl rfl 2 (fun _=> rfl) (by decide) (fun ⟨list,l,_⟩=> hb list l ())
def ZkM:List (FuncId × Fs U):=[(26,Z1N),(106,Jh)]
def Zpg:Zf U:=fun i=> match i with
 | 0=> ([(0,[]),(5,[]),(6,[]),(7,[])],[(.loc 5,[]),(.loc 6,[]),(.loc 7,[]),(.x 0,[])])
 | 1=> ([(0,[]),(7,[]),(8,[]),(9,[])],[(.loc 7,[]),(.loc 8,[]),(.x 0,[])])
 | 2=> ([(0,[]),(7,[]),(8,[]),(16,[])],[(.loc 7,[]),(.loc 8,[]),(.x 0,[])])
 | 3=> ([],[(.x 0,[])])
 | 4=> ([(0,[]),(22,[])],[(.x 0,[])])
 | 5=> ([],[(.x 0,[])])
 | _=> ([],[])
abbrev ZzG(p:List Nat):=AW (Z6 ZkM) Try.f112 Zpg p
theorem ZxG(mc ma:Bool)(e:Edit)(o n:Tree)(Q:QT)(h:∀ y_1,y_1=e->∀ y_2,y_2=n->∀ y_3,y_3=o->∀ y_4,y_4=(JM ((doE false y_1 y_3).map Z2))->let z1:= !((doE false y_1 y_3).isSome);let z0:= !(ZT (Z2 y_4) (Z2 y_2));((Z2O (y_1,y_3,()))/\((z1=true->(Q .normal (L2 [] [(.x 0,[.bool mc,.bool true])])))/\(z1=false->(Z18 (y_4,y_2,()))/\((z0=true->(Q .normal (L2 [] [(.x 0,[.bool true,.bool ma])])))/\(z0=false->Q .normal (L2 [(0,.ptr (.x 0) 0),pB 22 z0] [(.x 0,[.bool mc,.bool ma])]))))))):
  ZzG [] (L2 [(0,.ptr (.x 0) 0),(1,.agg (enc .edit e)),(2,.agg (enc .tree o)),(3,.agg (enc .tree n))] [(.x 0,[.bool mc,.bool ma])]) Q:=
 Eq.mpr (by kernel_rfl) (h _ (Zd _) _ (Zc _) _ (Zc _) _ (Zc _))
def Ztq(mc ma:Bool)(e:Edit)(o n:Tree):Prop:=AW (Z6 ZkM) Try.f112 Zpg [] (Zm (ZfC.can ((mc,ma,()),e,o,n,())) (ZfC.canX ((mc,ma,()),e,o,n,()))) (EQ Try.f112 (ZbA ((mc,ma,()),e,o,n,())) (Z6Y ((mc,ma,()),e,o,n,())))
theorem Zs8(c26:CT 26 Z1N)(Z9W:CT 106 Jh)(hb:∀ (mc:Bool) (ma:Bool) (e:Edit) (o:Tree) (n:Tree) (_:Unit),Z8q ((mc,ma,()),e,o,n,())->Ztq mc ma e o n):CT 112 Zaa:=
 Yf (l:=[(26,Z1N),(106,Jh)]) Zn rfl (⟨c26,Z9W,trivial⟩) Zpg Try.func112 rfl rfl 4 (fun _=> rfl) (by decide) (fun ⟨⟨mc,ma,_⟩,e,o,n,_⟩=> hb mc ma e o n ())
def Zkz:List (FuncId × Fs U):=[(151,Z0f),(177,Z6F),(178,Z6E)]
def Zp3:Zf U:=fun i=> match i with
 | 0=> ([(0,[])],[(.x 0,[]),(.x 1,[])])
 | 1=> ([(0,[])],[(.x 0,[]),(.x 1,[])])
 | 2=> ([(0,[]),(42,[])],[(.x 0,[]),(.x 1,[])])
 | 3=> ([(0,[]),(66,[])],[(.x 0,[]),(.x 1,[])])
 | 4=> ([(0,[])],[(.x 0,[]),(.x 1,[])])
 | 5=> ([(0,[])],[(.x 0,[]),(.x 1,[])])
 | 6=> ([],[(.x 0,[]),(.x 1,[])])
 | _=> ([],[])
abbrev Zzv(p:List Nat):=AW (Z6 Zkz) Try.f159 Zp3 p
theorem Zxo(sm_:Unit)(sx sy:List Op)(si sh:List Tree)(mc ma:Bool)(Q:QT)(h:let z6:= !(eqX (Z3 si) (Z3 sh));let z5:=Zib ((si.length:Int),());let z4:=Zib ((sh.length:Int),());let z2:=JB (sh.length:Int);let z1:=JB (si.length:Int);let z0:=decide ((0:Int) < (si.length:Int));let z3:=bif z0 then (decide ((0:Int) < (sh.length:Int))) else false;(Tr (z0=true))/\(Tr (z0=true))/\(Tr (z0=true))/\(Tr (z0=true))/\(Tr (z0=true))/\(Tr (z0=true))/\((z3=true->(Z6b (si,sh,(),()))/\((z6=true->(z4/\((sx.length+z2.length)*240<=140737488355328)/\z5/\((sy.length+z1.length)*240<=140737488355328)/\(Q .normal (L2 [] [(.x 0,[.xp 1,sU .op (sx++z2) (.own (.x 0 1)),sU .op (sy++z1) (.own (.x 0 2)),.nils,.nils]),(.x 1,[.bool true,.bool ma])]))))/\(z6=false->z4/\((sx.length+z2.length)*240<=140737488355328)/\z5/\((sy.length+z1.length)*240<=140737488355328)/\(Q .normal (L2 [] [(.x 0,[.xp 1,sU .op (sx++z2) (.own (.x 0 1)),sU .op (sy++z1) (.own (.x 0 2)),.nils,.nils]),(.x 1,[.bool mc,.bool ma])])))))/\(z3=false->(ZeM (si,()))/\((sx.length+(Z30 si).length)*240<=140737488355328)/\z4/\(((sx++(Z30 si)).length+z2.length)*240<=140737488355328)/\(z5/\((sy.length+z1.length)*240<=140737488355328)/\(ZeM (sh,()))/\(((sy++z1).length+(Z30 sh).length)*240<=140737488355328)/\(Q .normal (L2 [] [(.x 0,[.xp 1,sU .op ((sx++(Z30 si))++z2) (.own (.x 0 1)),sU .op ((sy++z1)++(Z30 sh)) (.own (.x 0 2)),.nils,.nils]),(.x 1,[.bool mc,.bool ma])])))))):
  Zzv [] (L2 [(0,.ptr (.x 0) 0)] [(.x 0,[.xp 1,sU .op sx (.own (.x 0 1)),sU .op sy (.own (.x 0 2)),sU .tree si (.own (.x 0 3)),sU .tree sh (.own (.x 0 4))]),(.x 1,[.bool mc,.bool ma])]) Q:=
 Eq.mpr (by kernel_rfl) h
def Zt8(sm_:Unit)(sx sy:List Op)(si sh:List Tree)(mc ma:Bool):Prop:=AW (Z6 Zkz) Try.f159 Zp3 [] (Zm (ZfA.can ((sm_,sx,sy,si,sh,()),(mc,ma,()),())) (ZfA.canX ((sm_,sx,sy,si,sh,()),(mc,ma,()),()))) (EQ Try.f159 (ZnW ((sm_,sx,sy,si,sh,()),(mc,ma,()),())) (Z6U ((sm_,sx,sy,si,sh,()),(mc,ma,()),())))
theorem ZrS(Zfp:CT 151 Z0f)(ZvP:CT 177 Z6F)(ZvO:CT 178 Z6E)(hb:∀ (sm_:Unit) (sx:List Op) (sy:List Op) (si:List Tree) (sh:List Tree) (mc:Bool) (ma:Bool) (_:Unit),ZeT ((sm_,sx,sy,si,sh,()),(mc,ma,()),())->Zt8 sm_ sx sy si sh mc ma):CT 159 Za2:=
 Yf (l:=[(151,Z0f),(177,Z6F),(178,Z6E)]) Zn rfl (⟨Zfp,ZvP,ZvO,trivial⟩) Zp3 Try.func159 rfl rfl 1 (fun _=> rfl) (by decide) (fun ⟨⟨sm_,sx,sy,si,sh,_⟩,⟨mc,ma,_⟩,_⟩=> hb sm_ sx sy si sh mc ma ())
end
noncomputable section
def ZcK:ArgM ((Bool × Bool × Unit) × Edit × Edit × Unit):=(.obj 0 (.cons Z1g (.cons Z1g .nil)) (.cons (aEl .edit) (.cons (aEl .edit) .nil)))
def ZbE(a:(Bool × Bool × Unit) × Edit × Edit × Unit):Prop:=Z0e a.2.1/\Z0e a.2.2.1
def ZoE(a:(Bool × Bool × Unit) × Edit × Edit × Unit):Nat:=8*(Z8 a.2.1+Z8 a.2.2.1)+1
def Zgl(a:(Bool × Bool × Unit) × Edit × Edit × Unit):V U:= .tup [(true,(enc .edit ((lbE a.2.1 a.2.2.1).x))),(true,(enc .edit ((lbE a.2.1 a.2.2.1).y)))]
def Zbu(a:(Bool × Bool × Unit) × Edit × Edit × Unit):List (List (C U)):=[[.bool (a.1.1 || (lbE a.2.1 a.2.2.1).c),.bool (a.1.2.1 || (lbE a.2.1 a.2.2.1).a)]]
def Z89:Fs U:=fsX ZcK (fun a=> [ZbE a]) Zgl Zbu
def ZbR(a:(Bool × Bool × Unit) × Edit × Edit × Unit):Prop:=Z0e a.2.1/\Z0e a.2.2.1/\Edit.kind a.2.1=2/\Edit.kind a.2.2.1=2
def Zk1(a:(Bool × Bool × Unit) × Edit × Edit × Unit):Nat:=8*(Z8 a.2.1+Z8 a.2.2.1)
def Zbz(a:(Bool × Bool × Unit) × Edit × Edit × Unit):V U:= .tup [(true,(enc .edit ((Z3N lbE a.2.1 a.2.2.1).x))),(true,(enc .edit ((Z3N lbE a.2.1 a.2.2.1).y)))]
def Z6X(a:(Bool × Bool × Unit) × Edit × Edit × Unit):List (List (C U)):=[[.bool (a.1.1 || (Z3N lbE a.2.1 a.2.2.1).c),.bool (a.1.2.1 || (Z3N lbE a.2.1 a.2.2.1).a)]]
def Zjj:Fs U:=fsX ZcK (fun a=> [ZbR a]) Zbz Z6X
def ZbQ(a:(Bool × Bool × Unit) × Edit × Edit × Unit):Prop:=Z0e a.2.1/\Z0e a.2.2.1/\Edit.kind a.2.1=3/\Edit.kind a.2.2.1=3
def Zby(a:(Bool × Bool × Unit) × Edit × Edit × Unit):V U:= .tup [(true,(enc .edit ((Z2w lbE a.2.1 a.2.2.1).x))),(true,(enc .edit ((Z2w lbE a.2.1 a.2.2.1).y)))]
def Z6W(a:(Bool × Bool × Unit) × Edit × Edit × Unit):List (List (C U)):=[[.bool (a.1.1 || (Z2w lbE a.2.1 a.2.2.1).c),.bool (a.1.2.1 || (Z2w lbE a.2.1 a.2.2.1).a)]]
def Zji:Fs U:=fsX ZcK (fun a=> [ZbQ a]) Zby Z6W
def Z82:ArgM ((Unit × List Op × List Op × List Tree × List Tree × Unit) × Op × Op × (Bool × Bool × Unit) × Unit):=(.obj 0 (.cons (cXp 1) (.cons (Z3a .op 0 1) (.cons (Z3a .op 0 2) (.cons (Z3a .tree 0 3) (.cons (Z3a .tree 0 4) .nil))))) (.cons (aEl .op) (.cons (aEl .op) (.hid (.cons Z1g (.cons Z1g .nil)) .nil))))
def Z8m(a:(Unit × List Op × List Op × List Tree × List Tree × Unit) × Op × Op × (Bool × Bool × Unit) × Unit):Prop:=(Zef a.2.1/\Zef a.2.2.1/\Z1 a.2.1=Z1 a.2.2.1/\OpOf.kind a.2.1≠2/\OpOf.kind a.2.2.1≠2)/\((a.1.2.1).length<=10000000000/\(a.1.2.2.1).length<=10000000000)
def ZjZ(a:(Unit × List Op × List Op × List Tree × List Tree × Unit) × Op × Op × (Bool × Bool × Unit) × Unit):Nat:=8*(Zt a.2.1+Zt a.2.2.1)+2
def Zbw(a:(Unit × List Op × List Op × List Tree × List Tree × Unit) × Op × Op × (Bool × Bool × Unit) × Unit):V U:= .tup []
def Z6T(a:(Unit × List Op × List Op × List Tree × List Tree × Unit) × Op × Op × (Bool × Bool × Unit) × Unit):List (List (C U)):=[[.xp 1,sU .op (a.1.2.1++(ZA lbE a.2.1 a.2.2.1).x) (.own (.x 0 1)),sU .op (a.1.2.2.1++(ZA lbE a.2.1 a.2.2.1).y) (.own (.x 0 2)),sU .tree a.1.2.2.2.1 (.own (.x 0 3)),sU .tree a.1.2.2.2.2.1 (.own (.x 0 4))],[.bool (a.2.2.2.1.1 || (ZA lbE a.2.1 a.2.2.1).c),.bool (a.2.2.2.1.2.1 || (ZA lbE a.2.1 a.2.2.1).a)]]
def Zjh:Fs U:=fsX Z82 (fun a=> [Z8m a]) Zbw Z6T
def Z2y(N:Nat):List (FuncId × Fs U):=(77,fsX ZcK (fun a=> [ZbE a,ZoE a < N]) Zgl Zbu) ::(114,fsX ZcK (fun a=> [ZbR a,Zk1 a < N]) Zbz Z6X) ::(115,fsX ZcK (fun a=> [ZbQ a,Zk1 a < N]) Zby Z6W) ::(160,fsX Z82 (fun a=> [Z8m a,ZjZ a < N]) Zbw Z6T) ::[(106,Jh),(112,Zaa),(113,Za9),(151,Z0f),(153,Za8),(154,Za7),(155,Za6),(156,Za5),(157,Za4),(158,Za3),(159,Za2),(161,Za1),(179,Za0),(180,Z9Z)]
def Zvc:Zf U:=fun i=> match i with
 | 0=> ([(0,[]),(4,[]),(5,[]),(6,[]),(7,[])],[(.loc 4,[]),(.loc 5,[]),(.loc 6,[]),(.loc 7,[]),(.x 0,[])])
 | 1=> ([(0,[]),(4,[]),(5,[]),(6,[]),(7,[]),(8,[])],[(.loc 4,[]),(.loc 5,[]),(.loc 6,[]),(.loc 7,[]),(.x 0,[])])
 | 2=> ([(6,[]),(7,[])],[(.loc 6,[]),(.loc 7,[]),(.x 0,[])])
 | 3=> ([(0,[]),(4,[]),(5,[]),(6,[]),(7,[]),(19,[])],[(.loc 4,[]),(.loc 5,[]),(.loc 6,[]),(.loc 7,[]),(.x 0,[])])
 | 4=> ([(6,[]),(7,[])],[(.loc 6,[]),(.loc 7,[]),(.x 0,[])])
 | 5=> ([(6,[]),(7,[])],[(.loc 6,[]),(.loc 7,[]),(.x 0,[])])
 | 6=> ([(0,[]),(4,[]),(5,[]),(6,[]),(7,[]),(33,[])],[(.loc 4,[]),(.loc 5,[]),(.loc 6,[]),(.loc 7,[]),(.x 0,[])])
 | 7=> ([(6,[]),(7,[])],[(.loc 6,[]),(.loc 7,[]),(.x 0,[])])
 | 8=> ([(6,[]),(7,[])],[(.loc 6,[]),(.loc 7,[]),(.x 0,[])])
 | 9=> ([(0,[]),(4,[]),(5,[]),(6,[]),(7,[]),(47,[])],[(.loc 4,[]),(.loc 5,[]),(.loc 6,[]),(.loc 7,[]),(.x 0,[])])
 | 10=> ([(6,[]),(7,[])],[(.loc 6,[]),(.loc 7,[]),(.x 0,[])])
 | 11=> ([(6,[]),(7,[])],[(.loc 6,[]),(.loc 7,[]),(.x 0,[])])
 | 12=> ([(0,[]),(4,[]),(5,[]),(6,[]),(7,[]),(66,[])],[(.loc 4,[]),(.loc 5,[]),(.loc 6,[]),(.loc 7,[]),(.x 0,[])])
 | 13=> ([(6,[]),(7,[])],[(.loc 6,[]),(.loc 7,[]),(.x 0,[])])
 | 14=> ([(6,[]),(7,[])],[(.loc 6,[]),(.loc 7,[]),(.x 0,[])])
 | _=> ([],[])
abbrev A77(N:Nat)(p:List Nat):=AW (Z6 (Z2y N)) Try.f77 Zvc p
theorem ZyN(N:Nat)(mc ma:Bool)(p q:Edit)(Q:QT)(h:∀ y_1,y_1=p->∀ y_2,y_2=q->∀ y_3,y_3=(p.new)->∀ y_4,y_4=(q.new)->∀ y_5,y_5=(p.old)->∀ y_6,y_6=(q.old)->let z4:=Z2w lbE y_1 y_2;let z3:=Z3N lbE y_1 y_2;let z2:=bif (p.kind==0) then true else (q.kind==0);let z1:=enc .edit Edit.nil;let z0:=p.kind !=q.kind;let z5:=bif z0 then true else (p.list !=q.list);((Tr ((!(p.kind==0))=true))/\(Tr ((!(p.kind==0))=true))/\((p.kind==0)=false->(!(p.kind==0))=true)/\((z2=true->(Q .ret (L2 [pL 6,pL 7] [(.loc 6,(enc .edit p)),(.loc 7,(enc .edit q)),(.x 0,[.bool mc,.bool ma])])))/\(z2=false->(((p.kind==1)=true->(Z8q ((mc,ma,()),y_2,y_5,y_3,()))/\((Z8p ())/\(Q .ret (L2 [pL 6,pL 7] [(.loc 6,z1),(.loc 7,z1),(.x 0,[.bool (mc || (JX y_2 y_5 y_3).c),.bool (ma || (JX y_2 y_5 y_3).a)])]))))/\((p.kind==1)=false->(((q.kind==1)=true->(Z8q ((mc,ma,()),y_1,y_6,y_4,()))/\((Z8p ())/\(Q .ret (L2 [pL 6,pL 7] [(.loc 6,z1),(.loc 7,z1),(.x 0,[.bool (mc || (JX y_1 y_6 y_4).c),.bool (ma || (JX y_1 y_6 y_4).a)])]))))/\((q.kind==1)=false->(Tr ((!z0)=true))/\(Tr ((!z0)=true))/\(Tr ((!z0)=true))/\(Tr ((!z0)=true))/\(z0=false->(!z0)=true)/\((z5=true->((Z8p ())/\(Q .ret (L2 [pL 6,pL 7] [(.loc 6,z1),(.loc 7,z1),(.x 0,[.bool mc,.bool true])]))))/\(z5=false->(((p.kind==2)=true->(ZbR ((mc,ma,()),y_1,y_2,()))/\(Zk1 ((mc,ma,()),y_1,y_2,()) < N)/\(Q .ret (L2 [pL 6,pL 7] [(.loc 6,(enc .edit (z3.x))),(.loc 7,(enc .edit (z3.y))),(.x 0,[.bool (mc || z3.c),.bool (ma || z3.a)])])))/\((p.kind==2)=false->(ZbQ ((mc,ma,()),y_1,y_2,()))/\(Zk1 ((mc,ma,()),y_1,y_2,()) < N)/\(Q .ret (L2 [pL 6,pL 7] [(.loc 6,(enc .edit (z4.x))),(.loc 7,(enc .edit (z4.y))),(.x 0,[.bool (mc || z4.c),.bool (ma || z4.a)])])))))))))))))):
  A77 N [] (L2 [(0,.ptr (.x 0) 0),(1,.agg (enc .edit p)),(2,.agg (enc .edit q))] [(.x 0,[.bool mc,.bool ma])]) Q:=
 Eq.mpr (by kernel_rfl) (h _ (Zd _) _ (Zd _) _ (Zc _) _ (Zc _) _ (Zc _) _ (Zc _))
def Zwv(N:Nat)(mc ma:Bool)(p q:Edit):Prop:=AW (Z6 (Z2y N)) Try.f77 Zvc [] (Zm (ZcK.can ((mc,ma,()),p,q,())) (ZcK.canX ((mc,ma,()),p,q,()))) (EQ Try.f77 (Zgl ((mc,ma,()),p,q,())) (Zbu ((mc,ma,()),p,q,())))
abbrev ZyB:Prop:=∀ (N:Nat) (mc:Bool) (ma:Bool) (p:Edit) (q:Edit) (_:Unit),ZbE ((mc,ma,()),p,q,())->ZoE ((mc,ma,()),p,q,()) < N+1->Zwv N mc ma p q
def Zfg(N:Nat):List (FuncId × Fs U):=Z2y N
def Zkd:Zf U:=fun i=> match i with
 | 0=> ([(0,[]),(4,[]),(5,[]),(6,[]),(7,[])],[(.loc 4,[]),(.loc 5,[]),(.loc 6,[]),(.loc 7,[]),(.x 0,[])])
 | 1=> ([(0,[]),(4,[]),(5,[]),(6,[]),(7,[]),(8,[]),(9,[])],[(.loc 4,[]),(.loc 5,[]),(.loc 6,[]),(.loc 7,[]),(.loc 8,[]),(.loc 9,[]),(.x 0,[])])
 | 2=> ([(0,[]),(4,[]),(5,[]),(6,[]),(7,[]),(8,[]),(9,[])],[(.loc 4,[]),(.loc 5,[]),(.loc 6,[]),(.loc 7,[]),(.loc 8,[.any,.any,.any,.any,.any,.any,.any,.wr .wedit]),(.loc 9,[.any,.any,.any,.any,.any,.any,.any,.wr .wedit]),(.x 0,[])])
 | 3=> ([(0,[]),(4,[]),(5,[]),(6,[]),(7,[]),(8,[]),(9,[]),(29,[]),(30,[]),(31,[])],[(.loc 4,[]),(.loc 5,[]),(.loc 6,[]),(.loc 7,[]),(.loc 8,[.any,.any,.any,.any,.any,.any,.any,.wr .wedit]),(.loc 9,[.any,.any,.any,.any,.any,.any,.any,.wr .wedit]),(.x 0,[])])
 | 4=> ([(0,[]),(4,[]),(5,[]),(6,[]),(7,[]),(8,[]),(9,[]),(29,[]),(30,[]),(31,[]),(32,[])],[(.loc 4,[]),(.loc 5,[]),(.loc 6,[]),(.loc 7,[]),(.loc 8,[.any,.any,.any,.any,.any,.any,.any,.wr .wedit]),(.loc 9,[.any,.any,.any,.any,.any,.any,.any,.wr .wedit]),(.x 0,[])])
 | 5=> ([(0,[]),(4,[]),(5,[]),(6,[]),(7,[]),(8,[]),(9,[]),(10,[]),(11,[]),(29,[]),(30,[]),(31,[])],[(.loc 4,[]),(.loc 5,[]),(.loc 6,[]),(.loc 7,[]),(.loc 8,[.any,.any,.any,.any,.any,.any,.any,.wr .wedit]),(.loc 9,[.any,.any,.any,.any,.any,.any,.any,.wr .wedit]),(.loc 11,[]),(.x 0,[])])
 | 6=> ([(0,[]),(4,[]),(5,[]),(6,[]),(7,[]),(8,[]),(9,[]),(10,[]),(11,[]),(29,[]),(30,[]),(31,[]),(37,[]),(38,[]),(39,[])],[(.loc 4,[]),(.loc 5,[]),(.loc 6,[]),(.loc 7,[]),(.loc 8,[.any,.any,.any,.any,.any,.any,.any,.wr .wedit]),(.loc 9,[.any,.any,.any,.any,.any,.any,.any,.wr .wedit]),(.loc 11,[]),(.x 0,[])])
 | 7=> ([(0,[]),(4,[]),(5,[]),(6,[]),(7,[]),(8,[]),(9,[]),(10,[]),(11,[]),(29,[]),(30,[]),(31,[]),(37,[]),(38,[]),(39,[]),(40,[])],[(.loc 4,[]),(.loc 5,[]),(.loc 6,[]),(.loc 7,[]),(.loc 8,[.any,.any,.any,.any,.any,.any,.any,.wr .wedit]),(.loc 9,[.any,.any,.any,.any,.any,.any,.any,.wr .wedit]),(.loc 11,[]),(.x 0,[])])
 | 8=> ([(0,[]),(4,[]),(5,[]),(6,[]),(7,[]),(8,[]),(9,[]),(10,[]),(11,[]),(12,[]),(13,[]),(29,[]),(30,[]),(31,[]),(37,[]),(38,[]),(39,[])],[(.loc 4,[]),(.loc 5,[]),(.loc 6,[]),(.loc 7,[]),(.loc 8,[.any,.any,.any,.any,.any,.any,.any,.wr .wedit]),(.loc 9,[.any,.any,.any,.any,.any,.any,.any,.wr .wedit]),(.loc 11,[]),(.loc 13,[]),(.x 0,[])])
 | 9=> ([(0,[]),(4,[]),(5,[]),(6,[]),(7,[]),(8,[]),(9,[]),(10,[]),(11,[]),(12,[]),(13,[]),(29,[]),(30,[]),(31,[]),(37,[]),(38,[]),(39,[]),(48,[])],[(.loc 4,[]),(.loc 5,[]),(.loc 6,[]),(.loc 7,[]),(.loc 8,[.any,.any,.any,.any,.any,.any,.any,.wr .wedit]),(.loc 9,[.any,.any,.any,.any,.any,.any,.any,.wr .wedit]),(.loc 11,[]),(.loc 13,[]),(.x 0,[])])
 | 10=> ([(0,[]),(4,[]),(5,[]),(6,[]),(7,[]),(8,[]),(9,[]),(10,[]),(11,[]),(12,[]),(13,[]),(29,[]),(30,[]),(31,[]),(37,[]),(38,[]),(39,[])],[(.loc 4,[]),(.loc 5,[]),(.loc 6,[]),(.loc 7,[]),(.loc 8,[.any,.any,.any,.any,.any,.any,.any,.wr .wedit]),(.loc 9,[.any,.any,.any,.any,.any,.any,.any,.wr .wedit]),(.loc 11,[]),(.loc 13,[]),(.x 0,[])])
 | 11=> ([(0,[]),(4,[]),(5,[]),(6,[]),(7,[]),(8,[]),(9,[]),(10,[]),(11,[]),(12,[]),(13,[]),(29,[]),(30,[]),(31,[]),(37,[]),(38,[]),(39,[])],[(.loc 4,[]),(.loc 5,[]),(.loc 6,[]),(.loc 7,[]),(.loc 8,[.any,.any,.any,.any,.any,.any,.any,.wr .wedit]),(.loc 9,[.any,.any,.any,.any,.any,.any,.any,.wr .wedit]),(.loc 11,[]),(.loc 13,[]),(.x 0,[])])
 | 12=> ([(0,[]),(4,[]),(5,[]),(6,[]),(7,[]),(8,[]),(9,[]),(10,[]),(11,[]),(12,[]),(13,[]),(29,[]),(30,[]),(31,[]),(37,[]),(38,[]),(39,[]),(48,[])],[(.loc 4,[]),(.loc 5,[]),(.loc 6,[]),(.loc 7,[]),(.loc 8,[.any,.any,.any,.any,.any,.any,.any,.wr .wedit]),(.loc 9,[.any,.any,.any,.any,.any,.any,.any,.wr .wedit]),(.loc 11,[]),(.loc 13,[]),(.x 0,[])])
 | 13=> ([(0,[]),(4,[]),(5,[]),(6,[]),(7,[]),(8,[]),(9,[]),(10,[]),(11,[]),(29,[]),(30,[]),(31,[]),(37,[]),(38,[]),(39,[])],[(.loc 4,[]),(.loc 5,[]),(.loc 6,[]),(.loc 7,[]),(.loc 8,[.any,.any,.any,.any,.any,.any,.any,.wr .wedit]),(.loc 9,[.any,.any,.any,.any,.any,.any,.any,.wr .wedit]),(.loc 11,[]),(.x 0,[])])
 | 14=> ([(0,[]),(4,[]),(5,[]),(6,[]),(7,[]),(8,[]),(9,[]),(29,[]),(30,[]),(31,[])],[(.loc 4,[]),(.loc 5,[]),(.loc 6,[]),(.loc 7,[]),(.loc 8,[.any,.any,.any,.any,.any,.any,.any,.wr .wedit]),(.loc 9,[.any,.any,.any,.any,.any,.any,.any,.wr .wedit]),(.x 0,[])])
 | 15=> ([(0,[]),(4,[]),(5,[]),(6,[]),(7,[]),(8,[]),(9,[])],[(.loc 4,[]),(.loc 5,[]),(.loc 6,[]),(.loc 7,[]),(.loc 8,[.any,.any,.any,.any,.any,.any,.any,.wr .wedit,.wr .kid]),(.loc 9,[.any,.any,.any,.any,.any,.any,.any,.wr .wedit,.wr .kid]),(.x 0,[])])
 | 16=> ([(0,[]),(5,[]),(6,[]),(7,[]),(8,[]),(9,[]),(88,[]),(89,[]),(90,[])],[(.loc 5,[]),(.loc 6,[]),(.loc 7,[]),(.loc 8,[.any,.any,.any,.any,.any,.any,.any,.wr .wedit,.wr .kid]),(.loc 9,[.any,.any,.any,.any,.any,.any,.any,.wr .wedit,.wr .kid]),(.x 0,[])])
 | 17=> ([(0,[]),(5,[]),(6,[]),(7,[]),(8,[]),(9,[]),(88,[]),(89,[]),(90,[]),(91,[])],[(.loc 5,[]),(.loc 6,[]),(.loc 7,[]),(.loc 8,[.any,.any,.any,.any,.any,.any,.any,.wr .wedit,.wr .kid]),(.loc 9,[.any,.any,.any,.any,.any,.any,.any,.wr .wedit,.wr .kid]),(.x 0,[])])
 | 18=> ([(0,[]),(5,[]),(6,[]),(7,[]),(8,[]),(9,[]),(14,[]),(15,[]),(88,[]),(89,[]),(90,[])],[(.loc 5,[]),(.loc 6,[]),(.loc 7,[]),(.loc 8,[.any,.any,.any,.any,.any,.any,.any,.wr .wedit,.wr .kid]),(.loc 9,[.any,.any,.any,.any,.any,.any,.any,.wr .wedit,.wr .kid]),(.loc 15,[]),(.x 0,[])])
 | 19=> ([(0,[]),(5,[]),(6,[]),(7,[]),(8,[]),(9,[]),(14,[]),(15,[]),(88,[]),(89,[]),(90,[]),(96,[]),(97,[]),(98,[])],[(.loc 5,[]),(.loc 6,[]),(.loc 7,[]),(.loc 8,[.any,.any,.any,.any,.any,.any,.any,.wr .wedit,.wr .kid]),(.loc 9,[.any,.any,.any,.any,.any,.any,.any,.wr .wedit,.wr .kid]),(.loc 15,[]),(.x 0,[])])
 | 20=> ([(0,[]),(5,[]),(6,[]),(7,[]),(8,[]),(9,[]),(14,[]),(15,[]),(88,[]),(89,[]),(90,[]),(96,[]),(97,[]),(98,[]),(99,[])],[(.loc 5,[]),(.loc 6,[]),(.loc 7,[]),(.loc 8,[.any,.any,.any,.any,.any,.any,.any,.wr .wedit,.wr .kid]),(.loc 9,[.any,.any,.any,.any,.any,.any,.any,.wr .wedit,.wr .kid]),(.loc 15,[]),(.x 0,[])])
 | 21=> ([(0,[]),(5,[]),(6,[]),(7,[]),(8,[]),(9,[]),(14,[]),(15,[]),(16,[]),(17,[]),(88,[]),(89,[]),(90,[]),(96,[]),(97,[]),(98,[])],[(.loc 5,[]),(.loc 6,[]),(.loc 7,[]),(.loc 8,[.any,.any,.any,.any,.any,.any,.any,.wr .wedit,.wr .kid]),(.loc 9,[.any,.any,.any,.any,.any,.any,.any,.wr .wedit,.wr .kid]),(.loc 15,[]),(.loc 17,[]),(.x 0,[])])
 | 22=> ([(0,[]),(5,[]),(6,[]),(7,[]),(8,[]),(9,[]),(14,[]),(15,[]),(16,[]),(17,[]),(88,[]),(89,[]),(90,[]),(96,[]),(97,[]),(98,[]),(107,[])],[(.loc 5,[]),(.loc 6,[]),(.loc 7,[]),(.loc 8,[.any,.any,.any,.any,.any,.any,.any,.wr .wedit,.wr .kid]),(.loc 9,[.any,.any,.any,.any,.any,.any,.any,.wr .wedit,.wr .kid]),(.loc 15,[]),(.loc 17,[]),(.x 0,[])])
 | 23=> ([(0,[]),(5,[]),(6,[]),(7,[]),(8,[]),(9,[]),(14,[]),(15,[]),(16,[]),(17,[]),(88,[]),(89,[]),(90,[]),(96,[]),(97,[]),(98,[]),(107,[])],[(.loc 5,[]),(.loc 6,[]),(.loc 7,[]),(.loc 8,[.any,.any,.any,.any,.any,.any,.any,.wr .wedit,.wr .kid]),(.loc 9,[.any,.any,.any,.any,.any,.any,.any,.wr .wedit,.wr .kid]),(.loc 15,[]),(.loc 17,[]),(.x 0,[])])
 | 24=> ([(0,[]),(5,[]),(6,[]),(7,[]),(8,[]),(9,[]),(14,[]),(15,[]),(88,[]),(89,[]),(90,[]),(96,[]),(97,[]),(98,[])],[(.loc 5,[]),(.loc 6,[]),(.loc 7,[]),(.loc 8,[.any,.any,.any,.any,.any,.any,.any,.wr .wedit,.wr .kid]),(.loc 9,[.any,.any,.any,.any,.any,.any,.any,.wr .wedit,.wr .kid]),(.loc 15,[]),(.x 0,[])])
 | 25=> ([(0,[]),(5,[]),(6,[]),(7,[]),(8,[]),(9,[]),(88,[]),(89,[]),(90,[])],[(.loc 5,[]),(.loc 6,[]),(.loc 7,[]),(.loc 8,[.any,.any,.any,.any,.any,.any,.any,.wr .wedit,.wr .kid]),(.loc 9,[.any,.any,.any,.any,.any,.any,.any,.wr .wedit,.wr .kid]),(.x 0,[])])
 | 26=> ([(6,[]),(7,[])],[(.loc 6,[]),(.loc 7,[]),(.x 0,[])])
 | _=> ([],[])
def Z5i(mc ma:Bool)(p q:Edit)(x31:Int)(mx0_0 mx0_1:Bool)(rl_8_7 rl_9_7:List WEdit):LSt U:=(⟨[(0,.ptr (.x 0) 0),pL 4,pL 5,pL 6,pL 7,pL 8,pL 9,(29,.c (sU .wedit p.words .unk)),pI 30 (p.words.length:Int),pI 31 x31],[(.loc 4,(enc .edit p)),(.loc 5,(enc .edit q)),(.loc 6,zc1),(.loc 7,zc1),(.loc 8,[ci 2,ci 0,.nils,.nils,ci 0,.nils,.nils,.mref (.l 8 7),.nils,ci 0,.nils]),(.loc 9,[ci 2,ci 0,.nils,.nils,ci 0,.nils,.nils,.mref (.l 9 7),.nils,ci 0,.nils]),(.x 0,[.bool mx0_0,.bool mx0_1])],[(.l 8 7,LC.mk (U:=U) .wedit rl_8_7 0),(.l 9 7,LC.mk (U:=U) .wedit rl_9_7 0)]⟩:LSt U)
def Z5h(mc ma:Bool)(p q:Edit)(x31 x39_a:Int)(mx0_0_a mx0_1_a:Bool)(rl_8_7_a rl_9_7_a:List WEdit):LSt U:=(⟨[(0,.ptr (.x 0) 0),pL 4,pL 5,pL 6,pL 7,pL 8,pL 9,pI 10 x31,pL 11,(29,.c (sU .wedit p.words .unk)),pI 30 (p.words.length:Int),pI 31 x31,(37,.c (sU .wedit q.words .unk)),pI 38 (q.words.length:Int),pI 39 x39_a],[(.loc 4,(enc .edit p)),(.loc 5,(enc .edit q)),(.loc 6,zc1),(.loc 7,zc1),(.loc 8,[ci 2,ci 0,.nils,.nils,ci 0,.nils,.nils,.mref (.l 8 7),.nils,ci 0,.nils]),(.loc 9,[ci 2,ci 0,.nils,.nils,ci 0,.nils,.nils,.mref (.l 9 7),.nils,ci 0,.nils]),(.loc 11,(enc .wedit (p.words.getD x31.toNat (WEdit.mk 0 0 0 0)))),(.x 0,[.bool mx0_0_a,.bool mx0_1_a])],[(.l 8 7,LC.mk (U:=U) .wedit rl_8_7_a 0),(.l 9 7,LC.mk (U:=U) .wedit rl_9_7_a 0)]⟩:LSt U)
def Z5g(mc ma:Bool)(p q:Edit)(rl_8_7 rl_9_7:List WEdit)(x90_b:Int)(mx0_0_b mx0_1_b:Bool)(rl_8_8_b rl_9_8_b:List Kid):LSt U:=(⟨[(0,.ptr (.x 0) 0),pL 5,pL 6,pL 7,pL 8,pL 9,(88,.c (sU .kid p.kids .unk)),pI 89 (p.kids.length:Int),pI 90 x90_b],[(.loc 5,(enc .edit q)),(.loc 6,zc1),(.loc 7,zc1),(.loc 8,[ci 2,ci 0,.nils,.nils,ci 0,.nils,.nils,.mref (.l 8 7),.mref (.l 8 8),ci 0,.nils]),(.loc 9,[ci 2,ci 0,.nils,.nils,ci 0,.nils,.nils,.mref (.l 9 7),.mref (.l 9 8),ci 0,.nils]),(.x 0,[.bool mx0_0_b,.bool mx0_1_b])],[(.l 8 7,LC.mk (U:=U) .wedit rl_8_7 0),(.l 8 8,LC.mk (U:=U) .kid rl_8_8_b 0),(.l 9 7,LC.mk (U:=U) .wedit rl_9_7 0),(.l 9 8,LC.mk (U:=U) .kid rl_9_8_b 0)]⟩:LSt U)
def Z8O(mc ma:Bool)(p q:Edit)(x31 x39_a:Int)(v48_c:V U)(mx0_0_c mx0_1_c:Bool)(rl_8_7_c rl_9_7_c:List WEdit):LSt U:=(⟨[(0,.ptr (.x 0) 0),pL 4,pL 5,pL 6,pL 7,pL 8,pL 9,pI 10 x31,pL 11,pI 12 x39_a,pL 13,(29,.c (sU .wedit p.words .unk)),pI 30 (p.words.length:Int),pI 31 x31,(37,.c (sU .wedit q.words .unk)),pI 38 (q.words.length:Int),pI 39 x39_a,(48,v48_c)],[(.loc 4,(enc .edit p)),(.loc 5,(enc .edit q)),(.loc 6,zc1),(.loc 7,zc1),(.loc 8,[ci 2,ci 0,.nils,.nils,ci 0,.nils,.nils,.mref (.l 8 7),.nils,ci 0,.nils]),(.loc 9,[ci 2,ci 0,.nils,.nils,ci 0,.nils,.nils,.mref (.l 9 7),.nils,ci 0,.nils]),(.loc 11,(enc .wedit (p.words.getD x31.toNat (WEdit.mk 0 0 0 0)))),(.loc 13,(enc .wedit (q.words.getD x39_a.toNat (WEdit.mk 0 0 0 0)))),(.x 0,[.bool mx0_0_c,.bool mx0_1_c])],[(.l 8 7,LC.mk (U:=U) .wedit rl_8_7_c 0),(.l 9 7,LC.mk (U:=U) .wedit rl_9_7_c 0)]⟩:LSt U)
def Z5f(mc ma:Bool)(p q:Edit)(rl_8_7 rl_9_7:List WEdit)(x90_b x98_d:Int)(mx0_0_d mx0_1_d:Bool)(rl_8_8_d rl_9_8_d:List Kid):LSt U:=(⟨[(0,.ptr (.x 0) 0),pL 5,pL 6,pL 7,pL 8,pL 9,pI 14 x90_b,pL 15,(88,.c (sU .kid p.kids .unk)),pI 89 (p.kids.length:Int),pI 90 x90_b,(96,.c (sU .kid q.kids .unk)),pI 97 (q.kids.length:Int),pI 98 x98_d],[(.loc 5,(enc .edit q)),(.loc 6,zc1),(.loc 7,zc1),(.loc 8,[ci 2,ci 0,.nils,.nils,ci 0,.nils,.nils,.mref (.l 8 7),.mref (.l 8 8),ci 0,.nils]),(.loc 9,[ci 2,ci 0,.nils,.nils,ci 0,.nils,.nils,.mref (.l 9 7),.mref (.l 9 8),ci 0,.nils]),(.loc 15,(enc .kid (p.kids.getD x90_b.toNat (KidOf.mk 0 Edit.nil)))),(.x 0,[.bool mx0_0_d,.bool mx0_1_d])],[(.l 8 7,LC.mk (U:=U) .wedit rl_8_7 0),(.l 8 8,LC.mk (U:=U) .kid rl_8_8_d 0),(.l 9 7,LC.mk (U:=U) .wedit rl_9_7 0),(.l 9 8,LC.mk (U:=U) .kid rl_9_8_d 0)]⟩:LSt U)
def Z8N(mc ma:Bool)(p q:Edit)(rl_8_7 rl_9_7:List WEdit)(x90_b x98_d:Int)(mx0_0_e mx0_1_e:Bool)(rl_8_8_e rl_9_8_e:List Kid):LSt U:=(⟨[(0,.ptr (.x 0) 0),pL 5,pL 6,pL 7,pL 8,pL 9,pI 14 x90_b,pL 15,pI 16 x98_d,pL 17,(88,.c (sU .kid p.kids .unk)),pI 89 (p.kids.length:Int),pI 90 x90_b,(96,.c (sU .kid q.kids .unk)),pI 97 (q.kids.length:Int),pI 98 x98_d,(107,.c (.bool (((KidOf.at_ (p.kids.getD x90_b.toNat (KidOf.mk 0 Edit.nil))):Int)==(KidOf.at_ (q.kids.getD x98_d.toNat (KidOf.mk 0 Edit.nil))))))],[(.loc 5,(enc .edit q)),(.loc 6,zc1),(.loc 7,zc1),(.loc 8,[ci 2,ci 0,.nils,.nils,ci 0,.nils,.nils,.mref (.l 8 7),.mref (.l 8 8),ci 0,.nils]),(.loc 9,[ci 2,ci 0,.nils,.nils,ci 0,.nils,.nils,.mref (.l 9 7),.mref (.l 9 8),ci 0,.nils]),(.loc 15,(enc .kid (p.kids.getD x90_b.toNat (KidOf.mk 0 Edit.nil)))),(.loc 17,(enc .kid (q.kids.getD x98_d.toNat (KidOf.mk 0 Edit.nil)))),(.x 0,[.bool mx0_0_e,.bool mx0_1_e])],[(.l 8 7,LC.mk (U:=U) .wedit rl_8_7 0),(.l 8 8,LC.mk (U:=U) .kid rl_8_8_e 0),(.l 9 7,LC.mk (U:=U) .wedit rl_9_7 0),(.l 9 8,LC.mk (U:=U) .kid rl_9_8_e 0)]⟩:LSt U)
abbrev Z6u(N:Nat)(p:List Nat):=AW (Z26 (Zfg N)) Try.f114 Zkd p
abbrev Z3e(N:Nat)(p:List Nat):=SW (Z26 (Zfg N)) Try.f114 Zkd p
theorem ZxE(N:Nat)(mc ma:Bool)(p q:Edit)(Q:QT)(h:((ZbN (p.words,()))/\(ZbN (q.words,()))/\(Zo (Z6u N [1,1,1,0,1,0,0]) (Z5i mc ma p q 0 mc ma p.words q.words) (xB 0 (Z3e N [1,1,1,1] Q))))):
  Z6u N [] (L2 [(0,.ptr (.x 0) 0),(1,.agg (enc .edit p)),(2,.agg (enc .edit q))] [(.x 0,[.bool mc,.bool ma])]) Q:=
 Eq.mpr (by kernel_rfl) h
theorem Znn(N:Nat)(mc ma:Bool)(p q:Edit)(x31:Int)(mx0_0 mx0_1:Bool)(rl_8_7 rl_9_7:List WEdit)(N0:NT)(Q:QT)(h:let z0:=decide (x31 < (p.words.length:Int));((z0=true->((0:Int)<=x31/\x31 < (p.words.length:Int))/\(Zo (Z6u N [1,1,1,0,1,0,0,1,1,0,0,1,1,0,0]) (Z5h mc ma p q x31 0 mx0_0 mx0_1 rl_8_7 rl_9_7) (xB 2 (xB 1 (Z3e N [1,1,1,0,1,0,0,1,1,1] (xT N0 (xB 0 (Z3e N [1,1,1,1] Q))))))))/\(z0=false->(ZbL (p.kids,()))/\(ZbL (q.kids,()))/\(Zo (Z6u N [1,1,1,1,1,0,1,0,0]) (Z5g mc ma p q rl_8_7 rl_9_7 0 mx0_0 mx0_1 p.kids q.kids) (xB 4 (Z3e N [1,1,1,1,1,1] Q)))))):
  Z6u N [1,1,1,0,1,0,0] (Z5i mc ma p q x31 mx0_0 mx0_1 rl_8_7 rl_9_7) (xT N0 (xB 0 (Z3e N [1,1,1,1] Q))):=
 Eq.mpr (by kernel_rfl) h
theorem Znm(N:Nat)(mc ma:Bool)(p q:Edit)(x31 x39_a:Int)(mx0_0_a mx0_1_a:Bool)(rl_8_7_a rl_9_7_a:List WEdit)(N1 N0:NT)(Q:QT)(h:∀ y_1,y_1=(p.words.getD x31.toNat (WEdit.mk 0 0 0 0))->∀ y_2,y_2=(q.words.getD x39_a.toNat (WEdit.mk 0 0 0 0))->∀ y_3,y_3=y_1->∀ y_4,y_4=y_2->∀ y_5,y_5=((ZdL y_3 (IntKind.wrap .u8 (BitVec.ofInt (IntKind.bits .u8) 255 ^^^ BitVec.ofInt (IntKind.bits .u8) y_2.mask).toNat)).1)->∀ y_6,y_6=((ZdL y_4 (IntKind.wrap .u8 (BitVec.ofInt (IntKind.bits .u8) 255 ^^^ BitVec.ofInt (IntKind.bits .u8) y_1.mask).toNat)).1)->let z3:=y_1.at_==y_2.at_;let z2:=decide (x39_a < (q.words.length:Int));let z1:=IntKind.bits .u8;let z0:=xT N1 (xB 2 (xB 1 (Z3e N [1,1,1,0,1,0,0,1,1,1] (xT N0 (xB 0 (Z3e N [1,1,1,1] Q))))));((z2=true->((0:Int)<=x39_a/\x39_a < (q.words.length:Int))/\((z3=true->(ZeU ((mx0_0_a,mx0_1_a,()),y_3,y_4,()))/\((ZbM (y_3,(IntKind.wrap .u8 (BitVec.ofInt z1 255 ^^^ BitVec.ofInt z1 y_2.mask).toNat),()))/\((0:Int)<=x31/\x31 < (rl_8_7_a.length:Int))/\((0:Nat)<=x31.toNat)/\((ZbM (y_4,(IntKind.wrap .u8 (BitVec.ofInt z1 255 ^^^ BitVec.ofInt z1 y_1.mask).toNat),()))/\((0:Int)<=x39_a/\x39_a < (rl_9_7_a.length:Int))/\((0:Nat)<=x39_a.toNat)/\(Z6u N [1,1,1,0,1,0,0,1,1,0,0,1,1,0,0,1,1,1] (Z8O mc ma p q x31 x39_a .junk (mx0_0_a || (!(Yj y_3 y_4) && JY y_3 y_4)) (mx0_1_a || Yj y_3 y_4) (List.set rl_8_7_a x31.toNat y_5) (List.set rl_9_7_a x39_a.toNat y_6)) z0))))/\(z3=false->Z6u N [1,1,1,0,1,0,0,1,1,0,0,1,1,0,0,1,1,1] (Z8O mc ma p q x31 x39_a (.c (.bool z3)) mx0_0_a mx0_1_a rl_8_7_a rl_9_7_a) z0)))/\(z2=false->(InR (x31+1))/\(N0 (Z5i mc ma p q (x31+1) mx0_0_a mx0_1_a rl_8_7_a rl_9_7_a))))):
  Z6u N [1,1,1,0,1,0,0,1,1,0,0,1,1,0,0] (Z5h mc ma p q x31 x39_a mx0_0_a mx0_1_a rl_8_7_a rl_9_7_a) (xT N1 (xB 2 (xB 1 (Z3e N [1,1,1,0,1,0,0,1,1,1] (xT N0 (xB 0 (Z3e N [1,1,1,1] Q))))))):=
 Eq.mpr (by kernel_rfl) (h _ rfl _ rfl _ (Z1V _) _ (Z1V _) _ (Z1V _) _ (Z1V _))
theorem Znl(N:Nat)(mc ma:Bool)(p q:Edit)(rl_8_7 rl_9_7:List WEdit)(x90_b:Int)(mx0_0_b mx0_1_b:Bool)(rl_8_8_b rl_9_8_b:List Kid)(N2:NT)(Q:QT)(h:∀ y_1,y_1=(Edit.mk 2 (Tree.mk 0 ([]:List Int) ([]:List Tree)) (Tree.mk 0 ([]:List Int) ([]:List Tree)) rl_8_7 rl_8_8_b 0 ([]:List Op))->∀ y_2,y_2=(Edit.mk 2 (Tree.mk 0 ([]:List Int) ([]:List Tree)) (Tree.mk 0 ([]:List Int) ([]:List Tree)) rl_9_7 rl_9_8_b 0 ([]:List Op))->let z0:=decide (x90_b < (p.kids.length:Int));((z0=true->((0:Int)<=x90_b/\x90_b < (p.kids.length:Int))/\(Zo (Z6u N [1,1,1,1,1,0,1,0,0,1,1,0,0,1,1,0,0]) (Z5f mc ma p q rl_8_7 rl_9_7 x90_b 0 mx0_0_b mx0_1_b rl_8_8_b rl_9_8_b) (xB 6 (xB 5 (Z3e N [1,1,1,1,1,0,1,0,0,1,1,1] (xT N2 (xB 4 (Z3e N [1,1,1,1,1,1] Q))))))))/\(z0=false->(ZbK ((2,0,([]:List Int),([]:List Tree),0,([]:List Int),([]:List Tree),rl_8_7,rl_8_8_b,0,([]:List Op),()),()))/\(ZbK ((2,0,([]:List Int),([]:List Tree),0,([]:List Int),([]:List Tree),rl_9_7,rl_9_8_b,0,([]:List Op),()),()))/\(Q .ret (L2 [pL 6,pL 7] [(.loc 6,(enc .edit (Z2J y_1))),(.loc 7,(enc .edit (Z2J y_2))),(.x 0,[.bool mx0_0_b,.bool mx0_1_b])]))))):
  Z6u N [1,1,1,1,1,0,1,0,0] (Z5g mc ma p q rl_8_7 rl_9_7 x90_b mx0_0_b mx0_1_b rl_8_8_b rl_9_8_b) (xT N2 (xB 4 (Z3e N [1,1,1,1,1,1] Q))):=
 Eq.mpr (by kernel_rfl) (h _ rfl _ rfl)
theorem ZfR(N:Nat)(mc ma:Bool)(p q:Edit)(x31 x39_a:Int)(v48_c:V U)(mx0_0_c mx0_1_c:Bool)(rl_8_7_c rl_9_7_c:List WEdit)(N1 N0:NT)(Q:QT)(h:(InR (x39_a+1))/\(N1 (Z5h mc ma p q x31 (x39_a+1) mx0_0_c mx0_1_c rl_8_7_c rl_9_7_c))):
  Z6u N [1,1,1,0,1,0,0,1,1,0,0,1,1,0,0,1,1,1] (Z8O mc ma p q x31 x39_a v48_c mx0_0_c mx0_1_c rl_8_7_c rl_9_7_c) (xT N1 (xB 2 (xB 1 (Z3e N [1,1,1,0,1,0,0,1,1,1] (xT N0 (xB 0 (Z3e N [1,1,1,1] Q))))))):=
 Eq.mpr (by kernel_rfl) h
theorem Znk(N:Nat)(mc ma:Bool)(p q:Edit)(rl_8_7 rl_9_7:List WEdit)(x90_b x98_d:Int)(mx0_0_d mx0_1_d:Bool)(rl_8_8_d rl_9_8_d:List Kid)(N4 N2:NT)(Q:QT)(h:∀ y_1,y_1=(p.kids.getD x90_b.toNat (KidOf.mk 0 Edit.nil))->∀ y_2,y_2=(q.kids.getD x98_d.toNat (KidOf.mk 0 Edit.nil))->∀ y_3,y_3=(y_1.e)->∀ y_4,y_4=(y_2.e)->∀ y_5,y_5=((lbE y_3 y_4).x)->∀ y_6,y_6=((lbE y_3 y_4).y)->let z1:=decide (x98_d < (q.kids.length:Int));let z0:=xT N4 (xB 6 (xB 5 (Z3e N [1,1,1,1,1,0,1,0,0,1,1,1] (xT N2 (xB 4 (Z3e N [1,1,1,1,1,1] Q))))));((z1=true->((0:Int)<=x98_d/\x98_d < (q.kids.length:Int))/\(((y_1.at_==y_2.at_)=true->(ZbE ((mx0_0_d,mx0_1_d,()),y_3,y_4,()))/\(ZoE ((mx0_0_d,mx0_1_d,()),y_3,y_4,()) < N)/\((0:Int)<=x90_b/\x90_b < (rl_8_8_d.length:Int))/\((0:Nat)<=x90_b.toNat)/\((0:Int)<=x98_d/\x98_d < (rl_9_8_d.length:Int))/\((0:Nat)<=x98_d.toNat)/\(Z6u N [1,1,1,1,1,0,1,0,0,1,1,0,0,1,1,0,0,1,1,1] (Z8N mc ma p q rl_8_7 rl_9_7 x90_b x98_d (mx0_0_d || (lbE y_3 y_4).c) (mx0_1_d || (lbE y_3 y_4).a) (List.set rl_8_8_d x90_b.toNat (KidOf.mk (KidOf.at_ (rl_8_8_d.getD x90_b.toNat (KidOf.mk 0 Edit.nil))) y_5)) (List.set rl_9_8_d x98_d.toNat (KidOf.mk (KidOf.at_ (rl_9_8_d.getD x98_d.toNat (KidOf.mk 0 Edit.nil))) y_6))) z0))/\((y_1.at_==y_2.at_)=false->Z6u N [1,1,1,1,1,0,1,0,0,1,1,0,0,1,1,0,0,1,1,1] (Z8N mc ma p q rl_8_7 rl_9_7 x90_b x98_d mx0_0_d mx0_1_d rl_8_8_d rl_9_8_d) z0)))/\(z1=false->(InR (x90_b+1))/\(N2 (Z5g mc ma p q rl_8_7 rl_9_7 (x90_b+1) mx0_0_d mx0_1_d rl_8_8_d rl_9_8_d))))):
  Z6u N [1,1,1,1,1,0,1,0,0,1,1,0,0,1,1,0,0] (Z5f mc ma p q rl_8_7 rl_9_7 x90_b x98_d mx0_0_d mx0_1_d rl_8_8_d rl_9_8_d) (xT N4 (xB 6 (xB 5 (Z3e N [1,1,1,1,1,0,1,0,0,1,1,1] (xT N2 (xB 4 (Z3e N [1,1,1,1,1,1] Q))))))):=
 Eq.mpr (by kernel_rfl) (h _ rfl _ rfl _ (Zd _) _ (Zd _) _ (Zd _) _ (Zd _))
theorem ZfQ(N:Nat)(mc ma:Bool)(p q:Edit)(rl_8_7 rl_9_7:List WEdit)(x90_b x98_d:Int)(mx0_0_e mx0_1_e:Bool)(rl_8_8_e rl_9_8_e:List Kid)(N4 N2:NT)(Q:QT)(h:(InR (x98_d+1))/\(N4 (Z5f mc ma p q rl_8_7 rl_9_7 x90_b (x98_d+1) mx0_0_e mx0_1_e rl_8_8_e rl_9_8_e))):
  Z6u N [1,1,1,1,1,0,1,0,0,1,1,0,0,1,1,0,0,1,1,1] (Z8N mc ma p q rl_8_7 rl_9_7 x90_b x98_d mx0_0_e mx0_1_e rl_8_8_e rl_9_8_e) (xT N4 (xB 6 (xB 5 (Z3e N [1,1,1,1,1,0,1,0,0,1,1,1] (xT N2 (xB 4 (Z3e N [1,1,1,1,1,1] Q))))))):=
 Eq.mpr (by kernel_rfl) h
def Zto(N:Nat)(mc ma:Bool)(p q:Edit):Prop:=AW (Z26 (Zfg N)) Try.f114 Zkd [] (Zm (ZcK.can ((mc,ma,()),p,q,())) (ZcK.canX ((mc,ma,()),p,q,()))) (EQ Try.f114 (Zbz ((mc,ma,()),p,q,())) (Z6X ((mc,ma,()),p,q,())))
abbrev Zuk:Prop:=∀ (N:Nat) (mc:Bool) (ma:Bool) (p:Edit) (q:Edit) (_:Unit),ZbR ((mc,ma,()),p,q,())->Zk1 ((mc,ma,()),p,q,()) < N+1->Zto N mc ma p q
def Zkc:Zf U:=fun i=> match i with
 | 0=> ([(0,[]),(4,[]),(5,[]),(6,[]),(7,[])],[(.loc 4,[]),(.loc 5,[]),(.loc 6,[]),(.loc 7,[]),(.x 0,[])])
 | 1=> ([(0,[]),(4,[]),(6,[]),(7,[]),(8,[]),(9,[])],[(.loc 4,[]),(.loc 6,[]),(.loc 7,[]),(.x 0,[])])
 | 2=> ([(0,[]),(4,[]),(6,[]),(7,[]),(8,[]),(22,[])],[(.loc 4,[]),(.loc 6,[]),(.loc 7,[]),(.x 0,[])])
 | 3=> ([(6,[]),(7,[])],[(.loc 6,[]),(.loc 7,[]),(.x 0,[])])
 | 4=> ([(6,[]),(7,[])],[(.loc 6,[]),(.loc 7,[]),(.x 0,[])])
 | 5=> ([(4,[]),(6,[]),(7,[]),(8,[]),(10,[])],[(.loc 4,[]),(.loc 6,[]),(.loc 7,[]),(.loc 31,[]),(.x 0,[])])
 | 6=> ([(4,[]),(6,[]),(7,[]),(10,[]),(32,[]),(33,[]),(34,[])],[(.loc 4,[]),(.loc 6,[]),(.loc 7,[]),(.loc 31,[.any,.own .op,.own .op,.own .tree,.own .tree]),(.x 0,[])])
 | 7=> ([(4,[]),(6,[]),(7,[]),(10,[]),(32,[]),(33,[]),(34,[]),(35,[])],[(.loc 4,[]),(.loc 6,[]),(.loc 7,[]),(.loc 31,[]),(.x 0,[])])
 | 8=> ([(4,[]),(6,[]),(7,[]),(10,[]),(12,[]),(32,[]),(33,[]),(34,[])],[(.loc 4,[]),(.loc 6,[]),(.loc 7,[]),(.loc 12,[]),(.loc 31,[]),(.x 0,[])])
 | 9=> ([(4,[]),(6,[]),(7,[]),(10,[]),(12,[]),(32,[]),(33,[]),(34,[]),(39,[])],[(.loc 4,[]),(.loc 6,[]),(.loc 7,[]),(.loc 12,[]),(.loc 31,[]),(.x 0,[])])
 | 10=> ([(4,[]),(6,[]),(7,[]),(10,[]),(12,[]),(32,[]),(33,[]),(34,[])],[(.loc 4,[]),(.loc 6,[]),(.loc 7,[]),(.loc 12,[]),(.loc 31,[]),(.x 0,[])])
 | 11=> ([(4,[]),(6,[]),(7,[]),(10,[]),(32,[]),(33,[]),(34,[])],[(.loc 4,[]),(.loc 6,[]),(.loc 7,[]),(.loc 31,[]),(.x 0,[])])
 | 12=> ([(4,[]),(6,[]),(7,[]),(10,[]),(12,[]),(32,[]),(33,[]),(34,[]),(39,[]),(48,[])],[(.loc 4,[]),(.loc 6,[]),(.loc 7,[]),(.loc 12,[]),(.loc 31,[]),(.x 0,[])])
 | 13=> ([(4,[]),(6,[]),(7,[]),(10,[]),(32,[]),(33,[]),(34,[])],[(.loc 4,[]),(.loc 6,[]),(.loc 7,[]),(.loc 31,[]),(.x 0,[])])
 | 14=> ([(4,[]),(6,[]),(7,[]),(10,[]),(12,[]),(32,[]),(33,[]),(34,[]),(61,[])],[(.loc 4,[]),(.loc 6,[]),(.loc 7,[]),(.loc 12,[]),(.loc 31,[]),(.x 0,[])])
 | 15=> ([(4,[]),(6,[]),(7,[]),(10,[]),(32,[]),(33,[]),(34,[])],[(.loc 4,[]),(.loc 6,[]),(.loc 7,[]),(.loc 31,[]),(.x 0,[])])
 | 16=> ([(4,[]),(6,[]),(7,[]),(10,[]),(32,[]),(33,[]),(34,[])],[(.loc 4,[]),(.loc 6,[]),(.loc 7,[]),(.loc 31,[.any,.own .op,.own .op,.own .tree,.own .tree]),(.x 0,[])])
 | 17=> ([(4,[]),(6,[]),(7,[]),(10,[])],[(.loc 4,[]),(.loc 6,[]),(.loc 7,[]),(.loc 31,[]),(.x 0,[])])
 | 18=> ([(6,[]),(7,[])],[(.loc 6,[]),(.loc 7,[]),(.x 0,[])])
 | _=> ([],[])
def Z1K(mc ma:Bool)(p q:Edit)(x34:Int)(mx0_0 mx0_1:Bool)(ml31_3 ml31_4:List Tree)(ml31_1 ml31_2:List Op):LSt U:=(L2 [pL 4,pL 6,pL 7,(10,.ptr (.loc 31) 0),(32,.c (sU .piece ((ZJ 2 2 p.ops q.ops []).1) .unk)),pI 33 (((ZJ 2 2 p.ops q.ops []).1).length:Int),pI 34 x34] [(.loc 4,(enc .edit p)),(.loc 6,zc1),(.loc 7,zc1),(.loc 31,[.xp 0,sU .op ml31_1 (.own (.l 31 1)),sU .op ml31_2 (.own (.l 31 2)),sU .tree ml31_3 (.own (.l 31 3)),sU .tree ml31_4 (.own (.l 31 4))]),(.x 0,[.bool mx0_0,.bool mx0_1])])
abbrev ZwZ(N:Nat)(p:List Nat):=AW (Z6 (Zfg N)) Try.f115 Zkc p
abbrev Zyy(N:Nat)(p:List Nat):=SW (Z6 (Zfg N)) Try.f115 Zkc p
theorem ZxD(N:Nat)(mc ma:Bool)(p q:Edit)(Q:QT)(h:let z0:= !((ZJ 2 2 p.ops q.ops []).2.1);((Zia (p.ops,q.ops,()))/\((z0=true->((Z8p ())/\(Q .ret (L2 [pL 6,pL 7] [(.loc 6,(enc .edit Edit.nil)),(.loc 7,(enc .edit Edit.nil)),(.x 0,[.bool mc,.bool true])]))))/\(z0=false->(Zo (ZwZ N [1,1,1,1,0,1,0,0]) (Z1K mc ma p q 0 mc ma [] [] [] []) (xB 0 (Zyy N [1,1,1,1,1] Q))))))):
  ZwZ N [] (L2 [(0,.ptr (.x 0) 0),(1,.agg (enc .edit p)),(2,.agg (enc .edit q))] [(.x 0,[.bool mc,.bool ma])]) Q:=
 Eq.mpr (by kernel_rfl) h
theorem Znj(N:Nat)(mc ma:Bool)(p q:Edit)(x34:Int)(mx0_0 mx0_1:Bool)(ml31_3 ml31_4:List Tree)(ml31_1 ml31_2:List Op)(N0:NT)(Q:QT)(h:∀ y_1,y_1=(Edit.new (Z0j p.list (ml31_1++(Jc ml31_3 ml31_4).x)))->∀ y_2,y_2=(Edit.new (Z0j p.list (ml31_2++(Jc ml31_3 ml31_4).y)))->∀ y_3,y_3=(Edit.old (Z0j p.list (ml31_1++(Jc ml31_3 ml31_4).x)))->∀ y_4,y_4=(Edit.old (Z0j p.list (ml31_2++(Jc ml31_3 ml31_4).y)))->∀ y_5,y_5=(List.getD ((ZJ 2 2 p.ops q.ops []).1) x34.toNat (Piece.mk 0 Op.nil Op.nil))->∀ y_6,y_6=(y_5.p)->∀ y_7,y_7=(y_5.q)->let z5:=ZA lbE y_6 y_7;let z4:=decide (x34 < (((ZJ 2 2 p.ops q.ops []).1).length:Int));let z3:=ZeT (((),ml31_1,ml31_2,ml31_3,ml31_4,()),(mx0_0,mx0_1,()),());let z0:=Jc ml31_3 ml31_4;let z2:=Z0j p.list (ml31_2++z0.y);let z1:=Z0j p.list (ml31_1++z0.x);((z4=true->((0:Int)<=x34/\x34 < (((ZJ 2 2 p.ops q.ops []).1).length:Int))/\(((y_5.of==1)=true->((ml31_3.length+y_5.p.l.length)*56<=140737488355328)/\((InR (x34+1))/\(N0 (Z1K mc ma p q (x34+1) mx0_0 mx0_1 (ml31_3++y_5.p.l) ml31_4 ml31_1 ml31_2))))/\((y_5.of==1)=false->(((y_5.of==2)=true->((ml31_4.length+y_5.q.l.length)*56<=140737488355328)/\((InR (x34+1))/\(N0 (Z1K mc ma p q (x34+1) mx0_0 mx0_1 ml31_3 (ml31_4++y_5.q.l) ml31_1 ml31_2))))/\((y_5.of==2)=false->z3/\((Z8m (((),(ml31_1++z0.x),(ml31_2++z0.y),([]:List Tree),([]:List Tree),()),y_6,y_7,((mx0_0 || z0.c),mx0_1,()),()))/\(ZjZ (((),(ml31_1++z0.x),(ml31_2++z0.y),([]:List Tree),([]:List Tree),()),y_6,y_7,((mx0_0 || z0.c),mx0_1,()),()) < N)/\((InR (x34+1))/\(N0 (Z1K mc ma p q (x34+1) ((mx0_0 || z0.c) || z5.c) (mx0_1 || z5.a) ([]:List Tree) ([]:List Tree) ((ml31_1++z0.x)++z5.x) ((ml31_2++z0.y)++z5.y))))))))))/\(z4=false->z3/\((ZbJ (p.list,(ml31_1++z0.x),()))/\(ZbJ (p.list,(ml31_2++z0.y),()))/\(Q .ret (L2 [pL 6,pL 7] [(.loc 6,([ci (Edit.kind z1)]++enc .tree y_3++enc .tree y_1++[sU .wedit (Edit.words z1) .unk,sU .kid (Edit.kids z1) .unk,ci (Edit.list z1),sU .op (Edit.ops z1) .unk])),(.loc 7,([ci (Edit.kind z2)]++enc .tree y_4++enc .tree y_2++[sU .wedit (Edit.words z2) .unk,sU .kid (Edit.kids z2) .unk,ci (Edit.list z2),sU .op (Edit.ops z2) .unk])),(.x 0,[.bool (mx0_0 || z0.c),.bool mx0_1])])))))):
  ZwZ N [1,1,1,1,0,1,0,0] (Z1K mc ma p q x34 mx0_0 mx0_1 ml31_3 ml31_4 ml31_1 ml31_2) (xT N0 (xB 0 (Zyy N [1,1,1,1,1] Q))):=
 Eq.mpr (by kernel_rfl) (h _ rfl _ rfl _ rfl _ rfl _ rfl _ (YA _) _ (YA _))
def Ztn(N:Nat)(mc ma:Bool)(p q:Edit):Prop:=AW (Z6 (Zfg N)) Try.f115 Zkc [] (Zm (ZcK.can ((mc,ma,()),p,q,())) (ZcK.canX ((mc,ma,()),p,q,()))) (EQ Try.f115 (Zby ((mc,ma,()),p,q,())) (Z6W ((mc,ma,()),p,q,())))
abbrev Zuj:Prop:=∀ (N:Nat) (mc:Bool) (ma:Bool) (p:Edit) (q:Edit) (_:Unit),ZbQ ((mc,ma,()),p,q,())->Zk1 ((mc,ma,()),p,q,()) < N+1->Ztn N mc ma p q
def Zp2:Zf U:=fun i=> match i with
 | 0=> ([(0,[]),(4,[]),(5,[])],[(.loc 4,[]),(.loc 5,[]),(.x 0,[]),(.x 1,[])])
 | 1=> ([(0,[]),(6,[]),(7,[])],[(.loc 6,[]),(.loc 7,[]),(.x 0,[]),(.x 1,[])])
 | 2=> ([],[(.x 0,[]),(.x 1,[])])
 | 3=> ([(0,[]),(4,[]),(5,[]),(42,[])],[(.loc 4,[]),(.loc 5,[]),(.x 0,[]),(.x 1,[])])
 | 4=> ([],[(.x 0,[]),(.x 1,[])])
 | 5=> ([(0,[]),(4,[]),(5,[]),(62,[])],[(.loc 4,[]),(.loc 5,[]),(.x 0,[]),(.x 1,[])])
 | 6=> ([],[(.x 0,[]),(.x 1,[])])
 | 7=> ([(0,[]),(4,[]),(5,[]),(82,[])],[(.loc 4,[]),(.loc 5,[]),(.x 0,[]),(.x 1,[])])
 | 8=> ([],[(.x 0,[]),(.x 1,[])])
 | 9=> ([(0,[]),(4,[]),(5,[]),(109,[])],[(.loc 4,[]),(.loc 5,[]),(.x 0,[]),(.x 1,[])])
 | 10=> ([],[(.x 0,[]),(.x 1,[])])
 | 11=> ([(0,[]),(4,[]),(5,[]),(133,[])],[(.loc 4,[]),(.loc 5,[]),(.x 0,[]),(.x 1,[])])
 | 12=> ([(0,[]),(147,[])],[(.x 0,[]),(.x 1,[])])
 | 13=> ([],[(.x 0,[]),(.x 1,[])])
 | 14=> ([(0,[]),(4,[]),(5,[]),(154,[])],[(.loc 4,[]),(.loc 5,[]),(.x 0,[]),(.x 1,[])])
 | 15=> ([],[(.x 0,[]),(.x 1,[])])
 | 16=> ([(0,[]),(4,[]),(5,[]),(166,[])],[(.loc 4,[]),(.loc 5,[]),(.x 0,[]),(.x 1,[])])
 | 17=> ([],[(.x 0,[]),(.x 1,[])])
 | _=> ([],[])
abbrev Zzu(N:Nat)(p:List Nat):=AW (Z6 (Zfg N)) Try.f160 Zp2 p
theorem Zxn(N:Nat)(sm_:Unit)(sx sy:List Op)(si sh:List Tree)(p q:Op)(mc ma:Bool)(Q:QT)(h:∀ y_1,y_1=p->∀ y_2,y_2=q->∀ y_3,y_3=(p.e)->∀ y_4,y_4=(q.e)->∀ y_5,y_5=(List.getD p.l (Int.toNat 0) Tree.nil)->∀ y_6,y_6=(List.getD q.l (Int.toNat 0) Tree.nil)->∀ y_7,y_7=(Edit.mk 0 (Tree.mk 0 [] []) (Tree.mk 0 [] []) [] [] 0 [])->∀ y_8,y_8=((lbE y_3 y_4).x)->∀ y_9,y_9=((lbE y_3 y_4).y)->∀ y_10,y_10=(Z3K y_8)->∀ y_11,y_11=(Z3K y_9)->let z3:=bif (p.kind==1) then (q.kind==1) else false;let z2:=bif (p.kind==1) then (q.kind==0) else false;let z1:=bif (p.kind==0) then (q.kind==1) else false;let z0:= !(eqX (Z3 p.l) (Z3 q.l));((Tr ((p.kind==0)=true))/\(Tr ((p.kind==0)=true))/\(Tr ((p.kind==0)=true))/\((z1=true->((sy.length+([(OpOf.mk 0 0 [] y_7)]).length)*240<=140737488355328)/\((0:Int)<=(sy.length:Int)/\(sy.length:Int) < ((sy++([(OpOf.mk 0 0 [] y_7)])).length:Int))/\(sy.length<=(Int.toNat (sy.length:Int)))/\(Q .normal (L2 [] [(.x 0,[.xp 1,sU .op sx (.own (.x 0 1)),sU .op (List.set (sy++([(OpOf.mk 0 0 [] y_7)])) (Int.toNat (sy.length:Int)) y_2) (.own (.x 0 2)),sU .tree si (.own (.x 0 3)),sU .tree sh (.own (.x 0 4))]),(.x 1,[.bool mc,.bool ma])])))/\(z1=false->(Tr ((p.kind==1)=true))/\(Tr ((p.kind==1)=true))/\(Tr ((p.kind==1)=true))/\((z2=true->((sx.length+([(OpOf.mk 0 0 [] y_7)]).length)*240<=140737488355328)/\((0:Int)<=(sx.length:Int)/\(sx.length:Int) < ((sx++([(OpOf.mk 0 0 [] y_7)])).length:Int))/\(sx.length<=(Int.toNat (sx.length:Int)))/\(Q .normal (L2 [] [(.x 0,[.xp 1,sU .op (List.set (sx++([(OpOf.mk 0 0 [] y_7)])) (Int.toNat (sx.length:Int)) y_1) (.own (.x 0 1)),sU .op sy (.own (.x 0 2)),sU .tree si (.own (.x 0 3)),sU .tree sh (.own (.x 0 4))]),(.x 1,[.bool mc,.bool ma])])))/\(z2=false->(((p.kind==0)=true->((sx.length+([(OpOf.mk 0 (if q.n < 1 then 1 else q.n) [] y_7)]).length)*240<=140737488355328)/\((sy.length+([y_2]).length)*240<=140737488355328)/\(Q .normal (L2 [] [(.x 0,[.xp 1,sU .op (sx++([(OpOf.mk 0 (if q.n < 1 then 1 else q.n) [] y_7)])) (.own (.x 0 1)),sU .op (sy++([y_2])) (.own (.x 0 2)),sU .tree si (.own (.x 0 3)),sU .tree sh (.own (.x 0 4))]),(.x 1,[.bool mc,.bool ma])])))/\((p.kind==0)=false->(((q.kind==0)=true->((sx.length+([y_1]).length)*240<=140737488355328)/\((sy.length+([(OpOf.mk 0 1 [] y_7)]).length)*240<=140737488355328)/\(Q .normal (L2 [] [(.x 0,[.xp 1,sU .op (sx++([y_1])) (.own (.x 0 1)),sU .op (sy++([(OpOf.mk 0 1 [] y_7)])) (.own (.x 0 2)),sU .tree si (.own (.x 0 3)),sU .tree sh (.own (.x 0 4))]),(.x 1,[.bool mc,.bool ma])])))/\((q.kind==0)=false->(Tr ((p.kind==1)=true))/\(Tr ((p.kind==1)=true))/\(Tr ((p.kind==1)=true))/\((z3=true->(Z6b (p.l,q.l,(),()))/\((z0=true->(Q .normal (L2 [] [(.x 0,[.xp 1,sU .op sx (.own (.x 0 1)),sU .op sy (.own (.x 0 2)),sU .tree si (.own (.x 0 3)),sU .tree sh (.own (.x 0 4))]),(.x 1,[.bool mc,.bool true])])))/\(z0=false->Q .normal (L2 [(0,.ptr (.x 0) 0),pB 147 z0] [(.x 0,[.xp 1,sU .op sx (.own (.x 0 1)),sU .op sy (.own (.x 0 2)),sU .tree si (.own (.x 0 3)),sU .tree sh (.own (.x 0 4))]),(.x 1,[.bool mc,.bool ma])]))))/\(z3=false->(((p.kind==1)=true->((0:Int)<=0/\0 < (p.l.length:Int))/\(ZbI (((),sx,sy,si,sh,()),y_4,y_5,(mc,ma,()),()))/\(Q .normal (L2 [] [(.x 0,[.xp 1,sU .op sx (.own (.x 0 1)),sU .op sy (.own (.x 0 2)),sU .tree si (.own (.x 0 3)),sU .tree sh (.own (.x 0 4))]),(.x 1,[.bool true,.bool (ma || !(doE false y_4 y_5).isSome)])])))/\((p.kind==1)=false->(((q.kind==1)=true->((0:Int)<=0/\0 < (q.l.length:Int))/\(ZbI (((),sx,sy,si,sh,()),y_3,y_6,(mc,ma,()),()))/\(Q .normal (L2 [] [(.x 0,[.xp 1,sU .op sx (.own (.x 0 1)),sU .op sy (.own (.x 0 2)),sU .tree si (.own (.x 0 3)),sU .tree sh (.own (.x 0 4))]),(.x 1,[.bool true,.bool (ma || !(doE false y_3 y_6).isSome)])])))/\((q.kind==1)=false->(ZbE ((mc,ma,()),y_3,y_4,()))/\(ZoE ((mc,ma,()),y_3,y_4,()) < N)/\((ZeL (y_8,()))/\((sx.length+([y_10]).length)*240<=140737488355328)/\(ZeL (y_9,()))/\((sy.length+([y_11]).length)*240<=140737488355328)/\(Q .normal (L2 [] [(.x 0,[.xp 1,sU .op (sx++([y_10])) (.own (.x 0 1)),sU .op (sy++([y_11])) (.own (.x 0 2)),sU .tree si (.own (.x 0 3)),sU .tree sh (.own (.x 0 4))]),(.x 1,[.bool (mc || (lbE y_3 y_4).c),.bool (ma || (lbE y_3 y_4).a)])]))))))))))))))))))):
  Zzu N [] (L2 [(0,.ptr (.x 0) 0),(1,.agg (enc .op p)),(2,.agg (enc .op q))] [(.x 0,[.xp 1,sU .op sx (.own (.x 0 1)),sU .op sy (.own (.x 0 2)),sU .tree si (.own (.x 0 3)),sU .tree sh (.own (.x 0 4))]),(.x 1,[.bool mc,.bool ma])]) Q:=
 Eq.mpr (by kernel_rfl) (h _ (YA _) _ (YA _) _ (Zd _) _ (Zd _) _ (Zc _) _ (Zc _) _ rfl _ (Zd _) _ (Zd _) _ (YA _) _ (YA _))
def Zt7(N:Nat)(sm_:Unit)(sx sy:List Op)(si sh:List Tree)(p q:Op)(mc ma:Bool):Prop:=AW (Z6 (Zfg N)) Try.f160 Zp2 [] (Zm (Z82.can ((sm_,sx,sy,si,sh,()),p,q,(mc,ma,()),())) (Z82.canX ((sm_,sx,sy,si,sh,()),p,q,(mc,ma,()),()))) (EQ Try.f160 (Zbw ((sm_,sx,sy,si,sh,()),p,q,(mc,ma,()),())) (Z6T ((sm_,sx,sy,si,sh,()),p,q,(mc,ma,()),())))
abbrev Zui:Prop:=∀ (N:Nat) (sm_:Unit) (sx:List Op) (sy:List Op) (si:List Tree) (sh:List Tree) (p:Op) (q:Op) (mc:Bool) (ma:Bool) (_:Unit),Z8m ((sm_,sx,sy,si,sh,()),p,q,(mc,ma,()),())->ZjZ ((sm_,sx,sy,si,sh,()),p,q,(mc,ma,()),()) < N+1->Zt7 N sm_ sx sy si sh p q mc ma
theorem Zry(Z9W:CT 106 Jh)(Zw5:CT 112 Zaa)(Zw4:CT 113 Za9)(Zfp:CT 151 Z0f)(ZvZ:CT 153 Za8)(ZvY:CT 154 Za7)(ZvX:CT 155 Za6)(ZvW:CT 156 Za5)(ZvV:CT 157 Za4)(ZvU:CT 158 Za3)(ZvT:CT 159 Za2)(ZvS:CT 161 Za1)(ZvN:CT 179 Za0)(ZvM:CT 180 Z9Z)(b77:ZyB)(Zwd:Zuk)(Zwc:Zuj)(Zwb:Zui):
  CT 77 Z89/\CT 114 Zjj/\CT 115 Zji/\CT 160 Zjh:=by
 have h77 : ∃ fn, Try.prog.funcs[(77 : FuncId)]? = some fn ∧ fn.body.isSome = true ∧ (fn.name == "runtime.NumGoroutine") = false := ⟨Try.f77, Try.func77, rfl, rfl⟩
 have h114 : ∃ fn, Try.prog.funcs[(114 : FuncId)]? = some fn ∧ fn.body.isSome = true ∧ (fn.name == "runtime.NumGoroutine") = false := ⟨Try.f114, Try.func114, rfl, rfl⟩
 have h115 : ∃ fn, Try.prog.funcs[(115 : FuncId)]? = some fn ∧ fn.body.isSome = true ∧ (fn.name == "runtime.NumGoroutine") = false := ⟨Try.f115, Try.func115, rfl, rfl⟩
 have h160 : ∃ fn, Try.prog.funcs[(160 : FuncId)]? = some fn ∧ fn.body.isSome = true ∧ (fn.name == "runtime.NumGoroutine") = false := ⟨Try.f160, Try.func160, rfl, rfl⟩
 have key:∀ N,CT 77 (fsX ZcK (fun a=> [ZbE a,ZoE a < N]) Zgl Zbu)/\CT 114 (fsX ZcK (fun a=> [ZbR a,Zk1 a < N]) Zbz Z6X)/\CT 115 (fsX ZcK (fun a=> [ZbQ a,Zk1 a < N]) Zby Z6W)/\CT 160 (fsX Z82 (fun a=> [Z8m a,ZjZ a < N]) Zbw Z6T):=by
  intro N
  induction N with
  | zero=> exact ⟨Z7T h77,Z7T h114,Z7T h115,Z7T h160⟩
  | succ N ih=>
   have kn:=Z0S (l:=Z2y N) ⟨ih.1,ih.2.1,ih.2.2.1,ih.2.2.2,Z9W,Zw5,Zw4,Zfp,ZvZ,ZvY,ZvX,ZvW,ZvV,ZvU,ZvT,ZvS,ZvN,ZvM,trivial⟩
   exact ⟨Z0u (Γ:=Z6 (Z2y N)) Zn rfl kn Zvc Try.func77 rfl rfl (fun a=> by show 3<=_;decide) (fun ⟨⟨mc,ma,_⟩,p,q,_⟩ h=> b77 N mc ma p q () h.1 h.2.1),
    Z0u (Γ:=Z26 (Z2y N)) Zn rfl kn Zkd Try.func114 rfl rfl (fun a=> by show 3<=_;decide) (fun ⟨⟨mc,ma,_⟩,p,q,_⟩ h=> Zwd N mc ma p q () h.1 h.2.1),
    Z0u (Γ:=Z6 (Z2y N)) Zn rfl kn Zkc Try.func115 rfl rfl (fun a=> by show 3<=_;decide) (fun ⟨⟨mc,ma,_⟩,p,q,_⟩ h=> Zwc N mc ma p q () h.1 h.2.1),
    Z0u (Γ:=Z6 (Z2y N)) Zn rfl kn Zp2 Try.func160 rfl rfl (fun a=> by show 3<=_;decide) (fun ⟨⟨sm_,sx,sy,si,sh,_⟩,p,q,⟨mc,ma,_⟩,_⟩ h=> Zwb N sm_ sx sy si sh p q mc ma () h.1 h.2.1)⟩
 exact ⟨Z7U h77 fun N=> (key N).1,Z7U h114 fun N=> (key N).2.1,Z7U h115 fun N=> (key N).2.2.1,Z7U h160 fun N=> (key N).2.2.2⟩
end
def at1(n:Int):Tree:= .mk 10 [n] []
theorem ZfY{o:Option Tree}(h:o.isSome=true):∃ v,o=some v:=by cases o with | none=> cases h | some v=> exact ⟨v,rfl⟩
theorem ZmN:Contract Try.prog cfg 174 Z2g:=by
 refine ZrO ?_
 intro w _ _
 refine Zxj _ _ ?_
 simp only [ZhY]
 (repeat' (first | exact trivial | exact rfl | apply And.intro))
theorem ZmM:Contract Try.prog cfg 176 Z2f:=by
 refine ZrM ?_
 intro w _ _
 refine Zxh _ _ ?_
 simp only [ZhX]
 (repeat' (first | exact trivial | exact rfl | apply And.intro))
theorem ZvK:Contract Try.prog cfg 182 Z6C:=by
 refine ZrG ?_
 intro w _ _
 refine Zxb _ _ ?_
 simp only [ZhV]
 (repeat' (first | exact trivial | exact rfl | apply And.intro))
theorem Z31{α:Type}(f:α->Bool):∀ (l:List α) (i:Int),(YT f l i= -1/\∀ a∈l,f a=false)\/(i<=YT f l i/\YT f l i < i+l.length/\(∀ a∈l.take (YT f l i - i).toNat,f a=false)/\∀ z,f (l.getD (YT f l i - i).toNat z)=true)
 | [],i=> .inl ⟨rfl,fun a h=> by cases h⟩
 | a ::r,i=> by
  by_cases h:f a=true
  ·rw [YT,if_pos h]
   refine .inr ⟨X2 _,by simp only [Qb];omega,?_,fun z=> ?_⟩
   ·rw [show (i - i).toNat=0 by omega];simp
   ·rw [show (i - i).toNat=0 by omega];exact h
  ·rw [YT,if_neg h]
   rcases Z31 f r (i+1) with ⟨h1,h2⟩ | ⟨h1,h2,h3,h4⟩
   ·exact .inl ⟨h1,fun x hx=> by rcases Qd.1 hx with rfl | hx;simpa using h;exact h2 x hx⟩
   ·have e:(YT f r (i+1) - i).toNat=(YT f r (i+1) - (i+1)).toNat+1:=by omega
    rw [e]
    refine .inr ⟨by omega,by simp only [Qb];omega,fun x hx=> ?_,fun z=> by simpa using h4 z⟩
    rw [List.take_succ_cons] at hx
    rcases Qd.1 hx with rfl | hx
    ·simpa using h
    ·exact h3 x hx
theorem ZpM{α:Type}(f:α->Bool)(l:List α):decide (0<=YT f l 0)=l.any f:=by
 rcases Z31 f l 0 with ⟨h1,h2⟩ | ⟨h1,h2,_,h4⟩
 ·rw [h1,Xy.2 (fun x hx=> by rw [h2 x hx];decide)];try rfl
 ·rw [decide_eq_true h1,XC.2]
  cases l with
  | nil=> simp at h2;omega
  | cons a r=> exact ⟨_,Zl (by simp only [Qb] at h2 ⊢;omega) a,h4 a⟩
theorem ZvH:Contract Try.prog cfg 192 Z6z:=by
 refine ZrB ZmN ?_
 intro l f _ hp
 simp only [ZeJ] at hp
 refine Zx6 l f _ ?_
 refine Zb (ι:=Int) (fun i=> Z5c l f i) (fun i=> 0<=i/\i<=l.length/\YT (fun w:WEdit=> decide (WEdit.mask w=0)) (l.drop i.toNat) i=YT (fun w:WEdit=> decide (WEdit.mask w=0)) l 0) (fun i=> ((l.length:Int) - i).toNat) 0 rfl ⟨by omega,by omega,rfl⟩ ?_
 rintro i ⟨h1,h2,h3⟩
 refine Znc l f _ _ _ ?_
 (simp only [vcT,vcS])
 refine ⟨fun hi=> ⟨⟨h1,hi⟩,trivial,fun he=> ?_,fun he=> ⟨by unfold InR;omega,i+1,rfl,⟨by omega,by omega,?_⟩,by omega⟩⟩,fun hi=> ?_⟩
 ·rw [J5 h1 hi ⟨0,0,0,0⟩,YT,if_pos (decide_eq_true he)] at h3
  simp only [Zet,<-h3]
  (repeat' (first | exact trivial | exact rfl | apply And.intro))
 ·rw [J5 h1 hi ⟨0,0,0,0⟩,YT,if_neg (fun e=> he (of_decide_eq_true e))] at h3
  exact h3
 ·rw [Qn (by omega),YT] at h3
  simp only [Zet,<-h3]
  (repeat' (first | exact trivial | exact rfl | apply And.intro))
theorem Zq4:Contract Try.prog cfg 72 Z3X:=by
 refine ZoN ZmM ?_
 intro l f _ hp
 simp only [Zar] at hp
 refine Zur l f _ ?_
 refine Zb (ι:=Int) (fun i=> Z3B l f i) (fun i=> 0<=i/\i<=l.length/\YT (fun k:Kid=> decide (Edit.kind (KidOf.e k)=0)) (l.drop i.toNat) i=YT (fun k:Kid=> decide (Edit.kind (KidOf.e k)=0)) l 0) (fun i=> ((l.length:Int) - i).toNat) 0 rfl ⟨by omega,by omega,rfl⟩ ?_
 rintro i ⟨h1,h2,h3⟩
 refine ZlB l f _ _ _ ?_
 intro y1 e1 y2 e2
 (simp only [vcT,vcS])
 subst_vars
 refine ⟨fun hi=> ⟨⟨h1,hi⟩,trivial,fun he=> ?_,fun he=> ⟨by unfold InR;omega,i+1,rfl,⟨by omega,by omega,?_⟩,by omega⟩⟩,fun hi=> ?_⟩
 ·rw [J5 h1 hi ⟨0,Edit.nil⟩,YT,if_pos (decide_eq_true he)] at h3
  simp only [Zan,<-h3]
  (repeat' (first | exact trivial | exact rfl | apply And.intro))
 ·rw [J5 h1 hi ⟨0,Edit.nil⟩,YT,if_neg (fun e=> he (of_decide_eq_true e))] at h3
  exact h3
 ·rw [Qn (by omega),YT] at h3
  simp only [Zan,<-h3]
  (repeat' (first | exact trivial | exact rfl | apply And.intro))
theorem ZvG:Contract Try.prog cfg 193 Z6y:=by
 refine ZrA ZvK ?_
 intro l f _ hp
 simp only [ZeI] at hp
 refine Zx5 l f _ ?_
 refine Zb (ι:=Int) (fun i=> Z5b l f i) (fun i=> 0<=i/\i<=l.length/\YT (fun o:Op=> !decide (OpOf.kind o=0)) (l.drop i.toNat) i=YT (fun o:Op=> !decide (OpOf.kind o=0)) l 0) (fun i=> ((l.length:Int) - i).toNat) 0 rfl ⟨by omega,by omega,rfl⟩ ?_
 rintro i ⟨h1,h2,h3⟩
 refine Znb l f _ _ _ ?_
 intro y1 e1 y2 e2
 (simp only [vcT,vcS])
 subst_vars
 refine ⟨fun hi=> ⟨⟨h1,hi⟩,trivial,fun he=> ?_,fun he=> ⟨by unfold InR;omega,i+1,rfl,⟨by omega,by omega,?_⟩,by omega⟩⟩,fun hi=> ?_⟩
 ·rw [J5 h1 hi Op.nil,YT,if_pos (by simpa using he)] at h3
  simp only [Zes,<-h3]
  (repeat' (first | exact trivial | exact rfl | apply And.intro))
 ·rw [J5 h1 hi Op.nil,YT,if_neg (by simpa using he)] at h3
  exact h3
 ·rw [Qn (by omega),YT] at h3
  simp only [Zes,<-h3]
  (repeat' (first | exact trivial | exact rfl | apply And.intro))
theorem ZvL:Contract Try.prog cfg 181 Z6D:=by
 refine ZrH ZvG ?_
 intro l f _ hp
 simp only [ZeI] at hp
 refine Zxc l f _ ⟨hp,?_⟩
 simp only [ZhW]
 rw [ZpM]
 (repeat' (first | exact trivial | exact rfl | apply And.intro))
theorem ZvP:Contract Try.prog cfg 177 Z6F:=by
 refine ZrL ?_
 intro n _ _
 refine Zxg _ _ ?_
 (simp only [vcT,vcS])
 refine ⟨fun h=> ?_,fun h=> ?_⟩
 ·simp only [Zew,JB,if_pos h]
  (repeat' (first | exact trivial | exact rfl | apply And.intro))
 ·simp only [Zew,JB,if_neg h]
  (repeat' (first | exact trivial | exact rfl | apply And.intro))
theorem ZvZ:Contract Try.prog cfg 153 Za8:=by
 refine ZrY ?_
 intro l _ hp
 simp only [ZbN] at hp
 refine Zxu _ _ ⟨fun h=> ?_,fun _=> ⟨by simp only [Qg];omega,?_⟩⟩
 ·subst h
  simp only [Zal]
  (repeat' (first | exact trivial | exact rfl | apply And.intro))
 ·simp only [Zal]
  (repeat' (first | exact trivial | exact rfl | apply And.intro))
theorem ZvW:Contract Try.prog cfg 156 Za5:=by
 refine ZrV ?_
 intro l _ hp
 simp only [ZbL] at hp
 refine Zxr _ _ ⟨fun h=> ?_,fun _=> ⟨by simp only [Qg];omega,?_⟩⟩
 ·subst h
  simp only [Zak]
  (repeat' (first | exact trivial | exact rfl | apply And.intro))
 ·simp only [Zak]
  (repeat' (first | exact trivial | exact rfl | apply And.intro))
structure DInv {α:Type} (g:α->Bool) (l L:List α) (i j:Int):Prop where
 i0:0<=i
 ij:i < j
 jl:j<=l.length
 len:L.length=l.length
 tk:L.take i.toNat=(l.take j.toNat).filter g
 dr:L.drop j.toNat=l.drop j.toNat
theorem DInv.one{α:Type}{f:α->Bool}{l:List α}{k:Int}(e:YT f l 0=k)(hk:k≠-1):DInv (fun a=> !f a) l l k (k+1):=by
 subst e
 rcases Z31 f l 0 with ⟨h1,_⟩ | ⟨h1,h2,h3,h4⟩
 ·exact absurd h1 hk
 ·rw [Int.sub_zero] at h3 h4
  refine ⟨h1,by omega,by omega,rfl,?_,rfl⟩
  cases l with
  | nil=> simp at h2;omega
  | cons a r=>
   rw [show (YT f (a ::r) 0+1).toNat=(YT f (a ::r) 0).toNat+1 by omega,Z88 (by omega) a,Kl,XN,h4 a,Kh.2 (fun x hx=> by rw [h3 x hx];rfl)]
   simp
theorem DInv.get{α:Type}{g:α->Bool}{l L:List α}{i j:Int}(h:DInv g l L i j)(z:α):L.getD j.toNat z=l.getD j.toNat z:=by
 have:=congrArg (fun x=> x.getD 0 z) h.dr
 simpa [Qo] using this
theorem DInv.next{α:Type}{g:α->Bool}{l L:List α}{i j:Int}(h:DInv g l L i j)(hj:j < l.length)(z:α):
  (g (L.getD j.toNat z)=true->DInv g l (L.set i.toNat (L.getD j.toNat z)) (i+1) (j+1))/\(g (L.getD j.toNat z)=false->DInv g l L i (j+1)):=by
 obtain ⟨i0,ij,jl,len,tk,dr⟩:=h
 have e:=DInv.get ⟨i0,ij,jl,len,tk,dr⟩ z
 have t1:l.take (j+1).toNat=l.take j.toNat++[l.getD j.toNat z]:=by rw [show (j+1).toNat=j.toNat+1 by omega];exact Z88 (by omega) z
 have d1:L.drop (j+1).toNat=l.drop (j+1).toNat:=by
  have:=congrArg (List.drop 1) dr
  rw [XL,XL] at this
  rw [show (j+1).toNat=j.toNat+1 by omega];exact this
 refine ⟨fun hg=> ⟨by omega,by omega,by omega,by rw [Ke];exact len,?_,?_⟩,fun hg=> ⟨i0,by omega,by omega,len,?_,d1⟩⟩
 ·have hlt:i.toNat < L.length:=by omega
  rw [show (i+1).toNat=i.toNat+1 by omega,Z88 (by rw [Ke];exact hlt) z,t1,Kl,<-tk,List.take_set_of_le (by omega)]
  rw [e] at hg
  rw [XN,if_pos hg,e]
  simp [Qo,hlt]
 ·rw [List.drop_set,if_pos (by omega)]
  exact d1
 ·rw [t1,Kl,<-tk]
  rw [e] at hg
  rw [XN,hg]
  simp
theorem DInv.fin{α:Type}{g:α->Bool}{l L:List α}{i j:Int}(h:DInv g l L i j)(hj:¬j < l.length)(r:List α):List.take i.toNat (List.take i.toNat L++r)=l.filter g:=by
 have h1:=h.ij;have h2:=h.jl;have h3:=h.len;have h4:=h.i0
 rw [List.take_append_of_le_length (by rw [Qp];omega),List.take_take,Nat.min_self,h.tk,QS (by omega)]
theorem ZvR:Contract Try.prog cfg 173 Z6H:=by
 refine ZrP ZmN ZvH ?_
 intro l f _ hp
 simp only [ZeJ] at hp
 refine Zxk l f _ ?_
 (simp only [vcT,vcS])
 refine ⟨hp,fun h=> ?_,fun h=> ?_⟩
 ·have e:l.filter (fun w=> !decide (WEdit.mask w=0))=l:=by
   rcases Z31 (fun w:WEdit=> decide (WEdit.mask w=0)) l 0 with ⟨_,h2⟩ | ⟨h1,_⟩
   ·exact Kh.2 fun x hx=> by rw [h2 x hx];try rfl
   ·omega
  simp only [Zey,Zae,Zai,e]
  (repeat' (first | exact trivial | exact rfl | apply And.intro))
 ·have D:=DInv.one (f:=fun w:WEdit=> decide (WEdit.mask w=0)) (l:=l) rfl h
  have:=D.jl;have:=D.i0
  refine ⟨by unfold InR;omega,?_⟩
  refine Zb (ι:=List WEdit × Int × Int) (fun s=> Z34 l f s.2.1 s.2.2 s.1) (fun s=> DInv (fun w:WEdit=> !decide (WEdit.mask w=0)) l s.1 s.2.1 s.2.2) (fun s=> ((l.length:Int) - s.2.2).toNat) (l,_,_) rfl D ?_
  rintro ⟨L,i,j⟩ D
  dsimp only at D
  have hl:=D.len;have h0:=D.i0;have h1:=D.ij;have h2:=D.jl
  refine Zne l f _ _ _ _ _ ?_
  intro y1 hy1 y2 hy2
  subst hy2
  (simp only [vcT,vcS])
  refine ⟨fun hj=> ?_,fun hj=> ?_⟩
  ·have hn:=D.next (by omega) ⟨0,0,0,0⟩
   rw [<-hy1] at hn
   refine ⟨⟨by omega,hj⟩,trivial,fun he=> ⟨⟨h0,by omega⟩,X9 _,by unfold InR;omega,by unfold InR;omega,(_,i+1,j+1),rfl,hn.1 (by simpa using he),by dsimp only;omega⟩,fun he=> ⟨by unfold InR;omega,(L,i,j+1),rfl,hn.2 (by simpa using he),by dsimp only;omega⟩⟩
  ·refine ⟨⟨h0,by omega⟩,X9 _,⟨h0,by simp only [Q9,Qp,Xd];omega⟩,?_⟩
   rw [D.fin (by omega)]
   simp only [Zey,Zae,Zai]
   (repeat' (first | exact trivial | exact rfl | apply And.intro))
theorem ZvQ:Contract Try.prog cfg 175 Z6G:=by
 refine ZrN ZmM Zq4 ?_
 intro l f _ hp
 simp only [Zar] at hp
 refine Zxi l f _ ?_
 (simp only [vcT,vcS])
 refine ⟨hp,fun h=> ?_,fun h=> ?_⟩
 ·have e:l.filter (fun k=> !decide (Edit.kind (KidOf.e k)=0))=l:=by
   rcases Z31 (fun k:Kid=> decide (Edit.kind (KidOf.e k)=0)) l 0 with ⟨_,h2⟩ | ⟨h1,_⟩
   ·exact Kh.2 fun x hx=> by rw [h2 x hx];try rfl
   ·omega
  simp only [Zex,Zad,Zah,e]
  (repeat' (first | exact trivial | exact rfl | apply And.intro))
 ·have D:=DInv.one (f:=fun k:Kid=> decide (Edit.kind (KidOf.e k)=0)) (l:=l) rfl h
  have:=D.jl;have:=D.i0
  refine ⟨by unfold InR;omega,?_⟩
  refine Zb (ι:=List Kid × Int × Int) (fun s=> Z33 l f s.2.1 s.2.2 s.1) (fun s=> DInv (fun k:Kid=> !decide (Edit.kind (KidOf.e k)=0)) l s.1 s.2.1 s.2.2) (fun s=> ((l.length:Int) - s.2.2).toNat) (l,_,_) rfl D ?_
  rintro ⟨L,i,j⟩ D
  dsimp only at D
  have hl:=D.len;have h0:=D.i0;have h1:=D.ij;have h2:=D.jl
  refine Znd l f _ _ _ _ _ ?_
  intro y1 hy1 y2 hy2
  subst hy2
  (simp only [vcT,vcS])
  refine ⟨fun hj=> ?_,fun hj=> ?_⟩
  ·have hn:=D.next (by omega) ⟨0,Edit.nil⟩
   rw [<-hy1] at hn
   refine ⟨⟨by omega,hj⟩,trivial,fun he=> ⟨⟨h0,by omega⟩,X9 _,by unfold InR;omega,by unfold InR;omega,(_,i+1,j+1),rfl,hn.1 (by simpa using he),by dsimp only;omega⟩,fun he=> ⟨by unfold InR;omega,(L,i,j+1),rfl,hn.2 (by simpa using he),by dsimp only;omega⟩⟩
  ·refine ⟨⟨h0,by omega⟩,X9 _,⟨h0,by simp only [Q9,Qp,Xd];omega⟩,?_⟩
   rw [D.fin (by omega)]
   simp only [Zex,Zad,Zah]
   (repeat' (first | exact trivial | exact rfl | apply And.intro))
theorem Zuv{a b n m:Nat}(h1:a<=n)(h2:b<=m)(hn:n<=10000000000)(hm:m<=10000000000):InR ((a:Int)+(b:Int)):=by unfold InR;omega
theorem ZxQ{a b:Nat}(h:(a:Int)+(b:Int)=0):a+b=0:=by omega
theorem ZxP{a b:Nat}(h:¬(a:Int)+(b:Int)=0):¬a+b=0:=by omega
set_option maxHeartbeats 2000000 in
theorem ZvV:Contract Try.prog cfg 157 Za4:=by
 refine ZrU ZvR ZvQ ?_
 intro ek eo eow eok en enw enk ew ec li eos _ hp
 simp only [ZbK] at hp
 refine Zxq _ _ _ _ _ _ _ _ _ _ _ _ ?_
 (simp only [vcT,vcS])
 refine ⟨by show ew.length<=_;omega,by show ec.length<=_;omega,Zuv (K8 _ _) (K8 _ _) hp.1 hp.2,fun h=> ?_,fun h=> ?_⟩
 ·simp only [ZeB,Zag,Zaj]
  rw [show Z2J (Edit.mk ek (Tree.mk eo eow eok) (Tree.mk en enw enk) ew ec li eos)=Edit.nil from if_pos (show (ew.filter fun w=> !decide (WEdit.mask w=0)).length+(ec.filter fun k=> !decide (Edit.kind (KidOf.e k)=0)).length=0 from ZxQ h)]
  (repeat' (first | exact trivial | exact rfl | apply And.intro))
 ·simp only [ZeB,Zag,Zaj]
  rw [show Z2J (Edit.mk ek (Tree.mk eo eow eok) (Tree.mk en enw enk) ew ec li eos)=Edit.mk ek (Tree.mk eo eow eok) (Tree.mk en enw enk) (ew.filter fun w=> !decide (WEdit.mask w=0)) (ec.filter fun k=> !decide (Edit.kind (KidOf.e k)=0)) li eos from if_neg (show ¬(ew.filter fun w=> !decide (WEdit.mask w=0)).length+(ec.filter fun k=> !decide (Edit.kind (KidOf.e k)=0)).length=0 from ZxP h)]
  (repeat' (first | exact trivial | exact rfl | apply And.intro))
theorem ZvS:Contract Try.prog cfg 161 Za1:=by
 refine ZrR ZvL ?_
 intro list l _ hp
 simp only [ZbJ] at hp
 refine Zxm _ _ _ ⟨hp,fun h=> ?_,fun h=> ?_⟩
 ·simp only [QY] at h
  simp only [ZeA,Z0j]
  rw [if_neg (by rw [h];decide)]
  (repeat' (first | exact trivial | exact rfl | apply And.intro))
 ·simp only [Xw] at h
  simp only [ZeA,Z0j]
  rw [if_pos h]
  (repeat' (first | exact trivial | exact rfl | apply And.intro))
theorem Zw5:Contract Try.prog cfg 112 Zaa:=by
 refine Zs8 c26 Z9W ?_
 intro mc ma e o n _ hp
 simp only [Z8q] at hp
 obtain ⟨he,ho,hn⟩:=hp
 refine ZxG _ _ _ _ _ _ ?_
 intro y1 h1 y2 h2 y3 h3 y4 h4
 subst h1 h2 h3
 (simp only [vcT,vcS])
 have ed:doB y1 y3=(y4,(doE false y1 y3).isSome):=by rw [h4];try rfl
 refine ⟨⟨he,ho⟩,fun h=> ?_,fun h=> ⟨⟨?_,by show Zi y2<=_;omega⟩,fun h2=> ?_,fun h2=> ?_⟩⟩
 ·simp only [ZbA,Z6Y,JX,ed,h,K0,XB,Qx,Xo]
  (repeat' (first | exact trivial | exact rfl | apply And.intro))
 ·show Zi y4<=_
  rw [h4]
  exact Z6m he.2.2 ho.1
 ·simp only [ZbA,Z6Y,JX,ed,h,h2,QF,Xq,XB,Qx,Xo]
  (repeat' (first | exact trivial | exact rfl | apply And.intro))
 ·simp only [ZbA,Z6Y,JX,ed,h,h2,QF,Xq,Qx]
  (repeat' (first | exact trivial | exact rfl | apply And.intro))
theorem Z7r(l:List Tree):(Z30 l).length<=1:=by unfold Z30;split <;> simp
theorem ZvT:Contract Try.prog cfg 159 Za2:=by
 refine ZrS Zfp ZvP ZvO ?_
 intro sm_ sx sy si sh mc ma _ hp
 simp only [ZeT] at hp
 obtain ⟨⟨h1,h2⟩,h3,h4⟩:=hp
 have k1:=Z59 si.length
 have k2:=Z59 sh.length
 have k3:=Z7r si
 have k4:=Z7r sh
 refine Zxo sm_ _ _ _ _ _ _ _ ?_
 (simp only [vcT,vcS])
 refine ⟨fun hb=> ⟨⟨by show Z7 si<=_;omega,by show Z7 sh<=_;omega⟩,fun he=> ?_,fun he=> ?_⟩,fun hb=> ?_⟩
 ·have e:Jc si sh=⟨JB sh.length,JB si.length,true,false⟩:=by
   rw [Jc,if_pos ⟨fun e=> by rw [e] at hb;simp at hb,fun e=> by rw [e] at hb;simp at hb⟩,Z6s,he];try rfl
  refine ⟨trivial,by omega,trivial,by omega,?_⟩
  simp only [Z6U,e,Xo]
  (repeat' (first | exact trivial | exact rfl | apply And.intro))
 ·have e:Jc si sh=⟨JB sh.length,JB si.length,false,false⟩:=by
   rw [Jc,if_pos ⟨fun e=> by rw [e] at hb;simp at hb,fun e=> by rw [e] at hb;simp at hb⟩,Z6s,he];try rfl
  refine ⟨trivial,by omega,trivial,by omega,?_⟩
  simp only [Z6U,e,Qx]
  (repeat' (first | exact trivial | exact rfl | apply And.intro))
 ·have e:Jc si sh=⟨Z30 si++JB sh.length,JB si.length++Z30 sh,false,false⟩:=by
   rw [Jc,if_neg]
   rintro ⟨a,b⟩
   have:=XE.2 a
   have:=XE.2 b
   omega
  refine ⟨trivial,by omega,trivial,by rw [Q9];omega,trivial,by omega,trivial,by rw [Q9];omega,?_⟩
  simp only [Z6U,e,Qx,<-Qa]
  (repeat' (first | exact trivial | exact rfl | apply And.intro))
end Go.AM.Ytpjenobkibfpcaa
